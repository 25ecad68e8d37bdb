/-
  The walks of functions 12, 73, 74, 14, 80, 16, 17, 27, 100, 30, 32, 36, 114, 59, 40, 61, 65, 72, 75, 11: what the code does is what a plain function computes. No condition.
-/
import Derived.Test.YtpjmgeajajcceaaSFb
set_option linter.unusedVariables false
namespace Go.Proofs.Ytpjmgeajajcceaa
open Go.Sl Go.Sx
def F12_j2 (k1 : Int → Option (Bool)) (y1 : Int) (y2 : Bool) : Option (Bool) :=
  (cond y2 (some (false)) (k1 (w64 (y1 + (1 : Int)))))
def F12_l1 (x0 : List Pt) : Nat → Int → Option (Bool)
  | 0, _ => none
  | n1 + 1, y1 =>
    let k1 : Int → Option (Bool) := F12_l1 x0 n1
    (cond (decide (y1 < (x0.length : Int))) ((getI x0 y1).bind fun p1 => (cond (decide (p1.x < (0 : Int))) (F12_j2 k1 y1 true) (cond (decide (p1.x > (1000000 : Int))) (F12_j2 k1 y1 true) (cond (decide (y1 > (0 : Int))) ((getI x0 (w64 (y1 - (1 : Int)))).bind fun p2 => (cond (decide (p2.x ≥ p1.x)) (F12_j2 k1 y1 true) (cond (decide (p1.lo < (-1000000000 : Int))) (F12_j2 k1 y1 true) (cond (decide (p1.lo > p1.hi)) (F12_j2 k1 y1 true) (F12_j2 k1 y1 (decide (p1.hi > (1000000000 : Int)))))))) (cond (decide (p1.lo < (-1000000000 : Int))) (F12_j2 k1 y1 true) (cond (decide (p1.lo > p1.hi)) (F12_j2 k1 y1 true) (F12_j2 k1 y1 (decide (p1.hi > (1000000000 : Int)))))))))) (some (true)))
def F12_j1 (fuel : Nat) (x0 : List Pt) (y3 : Bool) : Option (Bool) :=
  (cond y3 (some (false)) (F12_l1 x0 fuel 0))
def F12 (fuel : Nat) (x0 : List Pt) : Option (Bool) :=
  (cond (decide ((x0.length : Int) < (1 : Int))) (F12_j1 fuel x0 true) (F12_j1 fuel x0 (decide ((x0.length : Int) > (40 : Int)))))
set_option maxRecDepth 100000 in
theorem f12_ok (fuel : Nat) (x0 : List Pt) (r : Bool) (hr : F12 fuel x0 = some r) (h : Zone) (L : List Atom) (w : World) (hS : St h L w) (o_x0 : Option Addr) (c_x0 : Nat) (hx_x0 : SliceR PtT h o_x0 c_x0 x0) :
    Calls Try.prog 12 #[.agg #[.slice o_x0 x0.length c_x0]] w fun e w' => ∃ v, e = .returned v ∧ (∃ h', Zone.le h h' ∧ v = .bool r ∧ St h' L w') := by
 refine calls_intro (N := 65) Try.func12 (by kernel_rfl) fun a hf => ?_
 refine w_sr (by kernel_rfl) ?_
 refine p_box (i := 0) (d := (some 1)) (cs := [.slice o_x0 x0.length c_x0]) (T := 24) (v := fun b1 => pB b1 0) hS hf (fun b => by kernel_rfl) fun b1 ww1 a1 hS1 hf1 => ⟨fun _ => trivial, ?_⟩
 refine p_qt [] [(1, pB b1 0)] [] hf1 (by kernel_rfl) .nil fun a2 hf2 => ?_
 refine w_seq (by kernel_rfl) ?_
 refine w_mid (by kernel_rfl) (fun a w => ∃ z1 : Zone, ∃ y3 : Bool, Zone.le h z1 ∧ Fr a 65 [(1, pB b1 0), (14, .bool y3)] ∧ St z1 (box b1 [.slice o_x0 x0.length c_x0] 24 :: L) w ∧ (F12_j1 fuel x0 y3) = some r) ?_ ?_
 ·skip
  refine w_reg (by kernel_rfl) ?_
  refine p_qn 5 [.slice o_x0 x0.length c_x0] [(1, pB b1 0), (9, .bool (decide ((x0.length : Int) < (1 : Int))))] [.cell ⟨b1, 0, none⟩ (.slice o_x0 x0.length c_x0)] hf2 (by kernel_rfl) (.cell (hS1.box (i := 0) rfl (j := 0) rfl) .nil) fun a3 hf3 => ?_
  rcases Bool.eq_false_or_eq_true (decide ((x0.length : Int) < (1 : Int))) with hb1 | hb1
  ·have hr1 := cond_t hb1 hr
   have hf4 := Fr.conv hf3 (congrArg (fun z => ([(1, pB b1 0), (9, .bool z)] : FL)) hb1)
   refine p_qt [] [(1, pB b1 0), (14, .bool true)] [] hf4 (by kernel_rfl) .nil fun a4 hf5 => ?_
   have hf6 := Fr.keep (ks := [1, 14]) (r := [(1, pB b1 0), (14, .bool true)]) hf5 (by kernel_rfl)
   exact ⟨h, true, (Zone.le_refl _), hf6, hS1, hr1⟩
  ·have hr2 := cond_f hb1 hr
   have hf7 := Fr.conv hf3 (congrArg (fun z => ([(1, pB b1 0), (9, .bool z)] : FL)) hb1)
   refine p_qt [.slice o_x0 x0.length c_x0] [(1, pB b1 0), (14, .bool (decide ((x0.length : Int) > (40 : Int))))] [.cell ⟨b1, 0, none⟩ (.slice o_x0 x0.length c_x0)] hf7 (by kernel_rfl) (.cell (hS1.box (i := 0) rfl (j := 0) rfl) .nil) fun a5 hf8 => ?_
   have hf9 := Fr.keep (ks := [1, 14]) (r := [(1, pB b1 0), (14, .bool (decide ((x0.length : Int) > (40 : Int))))]) hf8 (by kernel_rfl)
   exact ⟨h, (decide ((x0.length : Int) > (40 : Int))), (Zone.le_refl _), hf9, hS1, hr2⟩
 ·rintro a6 ww2 ⟨z1, y3, k2, hf10, hS2, hr3⟩
  refine w_if hf10 (b := y3) (by kernel_rfl) (fun hb2 => ?_) (fun hb2 => ?_)
  ·have hr4 := cond_t hb2 hr3
   refine w_sq [] [(2, .bool false)] [] hf10 (by kernel_rfl) .nil fun a7 hf11 => ?_
   refine w_ret (by kernel_rfl) ?_
   refine r_then ?_
   refine p_ret (os := []) (v := .bool false) (obs := []) hf11 (by kernel_rfl) .nil ?_
   obtain rfl := some_eq hr4
   exact ⟨_, rfl, z1, k2, rfl, (St.drop 1 hS2)⟩
  ·have hr5 := cond_f hb2 hr3
   refine w_skip (by kernel_rfl) ?_
   refine n_then ?_
   refine w_seq (by kernel_rfl) ?_
   refine w_sq [.slice o_x0 x0.length c_x0] [(1, pB b1 0), (16, .slice o_x0 x0.length c_x0), (17, vI (x0.length : Int)), (18, vI 0)] [.cell ⟨b1, 0, none⟩ (.slice o_x0 x0.length c_x0)] hf10 (by kernel_rfl) (.cell (hS2.box (i := 0) rfl (j := 0) rfl) .nil) fun a8 hf12 => ?_
   refine w_block (id := 0) (by kernel_rfl) ?_
   have hf13 := Fr.keep (ks := [1, 16, 17, 18]) (r := [(1, pB b1 0), (16, .slice o_x0 x0.length c_x0), (17, vI (x0.length : Int)), (18, vI 0)]) hf12 (by kernel_rfl)
   refine w_loop (by kernel_rfl) (fun n a w => ∃ z2 : Zone, ∃ y1 : Int, Zone.le z1 z2 ∧ Fr a 65 [(1, pB b1 0), (16, .slice o_x0 x0.length c_x0), (17, vI (x0.length : Int)), (18, vI y1)] ∧ St z2 (box b1 [.slice o_x0 x0.length c_x0] 24 :: L) w ∧ (F12_l1 x0 n y1) = some r) fuel ⟨z1, 0, (Zone.le_refl _), hf13, hS2, hr5⟩ ?_
   rintro n2 a9 ww3 ⟨z2, y1, k3, hf14, hS3, hr6⟩
   cases n2 with
   | zero => cases hr6
   | succ n1 =>
   refine w_sq [] [(1, pB b1 0), (16, .slice o_x0 x0.length c_x0), (17, vI (x0.length : Int)), (18, vI y1), (19, .bool (decide (y1 < (x0.length : Int))))] [] hf14 (by kernel_rfl) .nil fun a10 hf15 => ?_
   refine w_seq (by kernel_rfl) ?_
   refine w_if hf15 (b := (decide (y1 < (x0.length : Int)))) (by kernel_rfl) (fun hb3 => ?_) (fun hb3 => ?_)
   ·have hr7 := cond_t hb3 hr6
    refine w_skip (by kernel_rfl) ?_
    refine n_then ?_
    refine w_seq (by kernel_rfl) ?_
    refine w_block (id := 1) (by kernel_rfl) ?_
    refine w_sr (by kernel_rfl) ?_
    obtain ⟨p1, hp2448, hr8⟩ := bind_some hr7
    obtain ⟨ad1, ho1, hb4, cc1, hc1, hk1⟩ := SliceR.getI (SliceR.mono (Zone.le_trans k2 k3) hx_x0) hp2448
    subst hc1
    refine p_qn 3 [.pointer (some ad1), vI p1.x, vI p1.lo, vI p1.hi] [(1, pB b1 0), (16, .slice o_x0 x0.length c_x0), (17, vI (x0.length : Int)), (18, vI y1), (20, vI y1), (22, .agg #[vI p1.x, vI p1.lo, vI p1.hi])] [.prop (o_x0 = some ad1), .prop (0 ≤ y1 ∧ y1 < (x0.length : Nat)), .cell ((ad1.add (Int.toNat y1 * 3)).add 0) (vI p1.x), .cell ((ad1.add (Int.toNat y1 * 3)).add 1) (vI p1.lo), .cell ((ad1.add (Int.toNat y1 * 3)).add 2) (vI p1.hi)] hf15 (by kernel_rfl) (.prop ho1 (.prop hb4 (.cell (hS3.cell (hk1 0 _ rfl)) (.cell (hS3.cell (hk1 1 _ rfl)) (.cell (hS3.cell (hk1 2 _ rfl)) .nil))))) fun a11 hf16 => ?_
    refine p_box (i := 3) (d := (some 4)) (cs := [vI 0, vI 0, vI 0]) (T := 52) (v := fun b2 => pB b2 0) hS3 hf16 (fun b => by kernel_rfl) fun b2 ww4 a12 hS4 hf17 => ⟨fun _ => trivial, ?_⟩
    refine p_qn 1 [] [(1, pB b1 0), (3, vI y1), (4, pB b2 0), (16, .slice o_x0 x0.length c_x0), (17, vI (x0.length : Int)), (18, vI y1), (22, .agg #[vI p1.x, vI p1.lo, vI p1.hi])] [] hf17 (by kernel_rfl) .nil fun a13 hf18 => ?_
    refine p_store_eq (i := 5) (j := 0) (b := b2) (off := 0) (vs := [vI p1.x, vI p1.lo, vI p1.hi]) (cs' := [vI p1.x, vI p1.lo, vI p1.hi]) hS4 hf18 rfl (by kernel_rfl) (by kernel_rfl) rfl fun ww5 a14 hS5 hf19 => ⟨fun _ => trivial, ?_⟩
    refine p_dt (by kernel_rfl) ?_
    refine w_mid (by kernel_rfl) (fun a w => ∃ z3 : Zone, ∃ y2 : Bool, Zone.le z2 z3 ∧ Fr a 65 [(1, pB b1 0), (16, .slice o_x0 x0.length c_x0), (17, vI (x0.length : Int)), (18, vI y1), (63, .bool y2)] ∧ St z3 (box b2 [vI p1.x, vI p1.lo, vI p1.hi] 52 :: box b1 [.slice o_x0 x0.length c_x0] 24 :: L) w ∧ (F12_j2 (F12_l1 x0 n1) y1 y2) = some r) ?_ ?_
    ·skip
     have hS6 := hS5.drew
     refine w_regD (by kernel_rfl) [(0, true), (1, true), (2, true), (3, true), (4, true), (5, true), (6, true), (7, true), (8, true), (9, true), (10, true), (11, true), (12, true), (13, true), (14, true), (15, true), (16, true), (17, true), (18, true), (19, true), (20, true), (21, true), (22, true), (23, true), (24, true), (25, true), (26, true), (27, true), (28, true), (29, true), (30, true), (31, true), (32, true), (33, true), (34, true), (35, true), (36, true), (37, true), (38, true), (39, true), (40, true)] [] (fun x => x = ww5.drew) (by kernel_rfl) rfl ?_
     refine p_qE 4 [vI p1.x] [(1, pB b1 0), (3, vI y1), (4, pB b2 0), (16, .slice o_x0 x0.length c_x0), (17, vI (x0.length : Int)), (18, vI y1), (26, .bool (decide (p1.x < (0 : Int))))] [.cell ⟨b2, 0, none⟩ (vI p1.x)] [] hf19 (by kernel_rfl) (.cell (hS6.box (i := 0) rfl (j := 0) rfl) .nil) .nil fun a15 hf20 => ?_
     rcases Bool.eq_false_or_eq_true (decide (p1.x < (0 : Int))) with hb5 | hb5
     ·have hr9 := cond_t hb5 hr8
      have hf21 := Fr.conv hf20 (congrArg (fun z => ([(1, pB b1 0), (3, vI y1), (4, pB b2 0), (16, .slice o_x0 x0.length c_x0), (17, vI (x0.length : Int)), (18, vI y1), (26, .bool z)] : FL)) hb5)
      refine p_qtE [] [(1, pB b1 0), (16, .slice o_x0 x0.length c_x0), (17, vI (x0.length : Int)), (18, vI y1), (27, undef), (28, undef), (29, undef), (32, undef), (33, undef), (34, undef), (35, undef), (36, undef), (37, undef), (38, undef), (39, undef), (40, undef), (41, undef), (42, undef), (43, undef), (44, undef), (45, undef), (48, undef), (49, undef), (50, undef), (53, undef), (54, undef), (55, undef), (56, undef), (57, undef), (60, undef), (61, undef), (62, undef), (63, .bool true)] [] [] hf21 (by kernel_rfl) .nil .nil fun a16 hf22 => ?_
      have hf23 := Fr.keep (ks := [1, 16, 17, 18, 63]) (r := [(1, pB b1 0), (16, .slice o_x0 x0.length c_x0), (17, vI (x0.length : Int)), (18, vI y1), (63, .bool true)]) hf22 (by kernel_rfl)
      exact ⟨z2, true, (Zone.le_refl _), hf23, hS6, hr9⟩
     ·have hr10 := cond_f hb5 hr8
      have hf24 := Fr.conv hf20 (congrArg (fun z => ([(1, pB b1 0), (3, vI y1), (4, pB b2 0), (16, .slice o_x0 x0.length c_x0), (17, vI (x0.length : Int)), (18, vI y1), (26, .bool z)] : FL)) hb5)
      refine p_qE 5 [vI p1.x] [(1, pB b1 0), (3, vI y1), (4, pB b2 0), (16, .slice o_x0 x0.length c_x0), (17, vI (x0.length : Int)), (18, vI y1), (27, pB b2 0), (28, vI p1.x), (29, .bool (decide (p1.x > (1000000 : Int)))), (31, .bool (decide (p1.x > (1000000 : Int))))] [.cell ⟨b2, 0, none⟩ (vI p1.x)] [] hf24 (by kernel_rfl) (.cell (hS6.box (i := 0) rfl (j := 0) rfl) .nil) .nil fun a17 hf25 => ?_
      rcases Bool.eq_false_or_eq_true (decide (p1.x > (1000000 : Int))) with hb6 | hb6
      ·have hr11 := cond_t hb6 hr10
       have hf26 := Fr.conv hf25 (congrArg (fun z => ([(1, pB b1 0), (3, vI y1), (4, pB b2 0), (16, .slice o_x0 x0.length c_x0), (17, vI (x0.length : Int)), (18, vI y1), (27, pB b2 0), (28, vI p1.x), (29, .bool (decide (p1.x > (1000000 : Int)))), (31, .bool z)] : FL)) hb6)
       refine p_qtE [] [(1, pB b1 0), (16, .slice o_x0 x0.length c_x0), (17, vI (x0.length : Int)), (18, vI y1), (27, pB b2 0), (28, vI p1.x), (29, .bool (decide (p1.x > (1000000 : Int)))), (32, undef), (33, undef), (34, undef), (35, undef), (36, undef), (37, undef), (38, undef), (39, undef), (40, undef), (41, undef), (42, undef), (43, undef), (44, undef), (45, undef), (48, undef), (49, undef), (50, undef), (53, undef), (54, undef), (55, undef), (56, undef), (57, undef), (60, undef), (61, undef), (62, undef), (63, .bool true)] [] [] hf26 (by kernel_rfl) .nil .nil fun a18 hf27 => ?_
       have hf28 := Fr.keep (ks := [1, 16, 17, 18, 63]) (r := [(1, pB b1 0), (16, .slice o_x0 x0.length c_x0), (17, vI (x0.length : Int)), (18, vI y1), (63, .bool true)]) hf27 (by kernel_rfl)
       exact ⟨z2, true, (Zone.le_refl _), hf28, hS6, hr11⟩
      ·have hr12 := cond_f hb6 hr10
       have hf29 := Fr.conv hf25 (congrArg (fun z => ([(1, pB b1 0), (3, vI y1), (4, pB b2 0), (16, .slice o_x0 x0.length c_x0), (17, vI (x0.length : Int)), (18, vI y1), (27, pB b2 0), (28, vI p1.x), (29, .bool (decide (p1.x > (1000000 : Int)))), (31, .bool z)] : FL)) hb6)
       refine p_qE 3 [] [(1, pB b1 0), (3, vI y1), (4, pB b2 0), (16, .slice o_x0 x0.length c_x0), (17, vI (x0.length : Int)), (18, vI y1), (27, pB b2 0), (28, vI p1.x), (29, .bool (decide (p1.x > (1000000 : Int)))), (31, .bool false), (32, vI y1), (33, .bool (decide (y1 > (0 : Int)))), (34, .bool (decide (y1 > (0 : Int))))] [] [] hf29 (by kernel_rfl) .nil .nil fun a19 hf30 => ?_
       rcases Bool.eq_false_or_eq_true (decide (y1 > (0 : Int))) with hb7 | hb7
       ·have hr13 := cond_t hb7 hr12
        have hf31 := Fr.conv hf30 (congrArg (fun z => ([(1, pB b1 0), (3, vI y1), (4, pB b2 0), (16, .slice o_x0 x0.length c_x0), (17, vI (x0.length : Int)), (18, vI y1), (27, pB b2 0), (28, vI p1.x), (29, .bool (decide (p1.x > (1000000 : Int)))), (31, .bool false), (32, vI y1), (33, .bool (decide (y1 > (0 : Int)))), (34, .bool z)] : FL)) hb7)
        obtain ⟨p2, hp2672, hr14⟩ := bind_some hr13
        obtain ⟨ad2, ho2, hb8, cc2, hc2, hk2⟩ := SliceR.getI (SliceR.mono (Zone.le_trans k2 k3) hx_x0) hp2672
        subst hc2
        refine p_qE 13 [.slice o_x0 x0.length c_x0, .pointer (some ad2), vI p2.x, vI p1.x] [(1, pB b1 0), (4, pB b2 0), (16, .slice o_x0 x0.length c_x0), (17, vI (x0.length : Int)), (18, vI y1), (27, pB b2 0), (28, vI p1.x), (29, .bool (decide (p1.x > (1000000 : Int)))), (32, vI y1), (33, .bool (decide (y1 > (0 : Int)))), (34, .bool true), (35, pB b1 0), (36, .slice o_x0 x0.length c_x0), (37, vI y1), (38, vI (w64 (y1 - (1 : Int)))), (39, .pointer (some (ad2.add (Int.toNat (w64 (y1 - (1 : Int))) * 3)))), (40, .pointer (some (ad2.add (Int.toNat (w64 (y1 - (1 : Int))) * 3)))), (41, vI p2.x), (42, pB b2 0), (43, vI p1.x), (44, .bool (decide (p2.x ≥ p1.x))), (45, .bool (decide (p2.x ≥ p1.x))), (47, .bool (decide (p2.x ≥ p1.x)))] [.cell ⟨b1, 0, none⟩ (.slice o_x0 x0.length c_x0), .prop (o_x0 = some ad2), .prop (0 ≤ (w64 (y1 - (1 : Int))) ∧ (w64 (y1 - (1 : Int))) < (x0.length : Nat)), .cell ((ad2.add (Int.toNat (w64 (y1 - (1 : Int))) * 3)).add 0) (vI p2.x), .cell ⟨b2, 0, none⟩ (vI p1.x)] [] hf31 (by kernel_rfl) (.cell (hS6.box (i := 1) rfl (j := 0) rfl) (.prop ho2 (.prop hb8 (.cell (hS6.cell (hk2 0 _ rfl)) (.cell (hS6.box (i := 0) rfl (j := 0) rfl) .nil))))) .nil fun a20 hf32 => ?_
        rcases Bool.eq_false_or_eq_true (decide (p2.x ≥ p1.x)) with hb9 | hb9
        ·have hr15 := cond_t hb9 hr14
         have hf33 := Fr.conv hf32 (congrArg (fun z => ([(1, pB b1 0), (4, pB b2 0), (16, .slice o_x0 x0.length c_x0), (17, vI (x0.length : Int)), (18, vI y1), (27, pB b2 0), (28, vI p1.x), (29, .bool (decide (p1.x > (1000000 : Int)))), (32, vI y1), (33, .bool (decide (y1 > (0 : Int)))), (34, .bool true), (35, pB b1 0), (36, .slice o_x0 x0.length c_x0), (37, vI y1), (38, vI (w64 (y1 - (1 : Int)))), (39, .pointer (some (ad2.add (Int.toNat (w64 (y1 - (1 : Int))) * 3)))), (40, .pointer (some (ad2.add (Int.toNat (w64 (y1 - (1 : Int))) * 3)))), (41, vI p2.x), (42, pB b2 0), (43, vI p1.x), (44, .bool (decide (p2.x ≥ p1.x))), (45, .bool (decide (p2.x ≥ p1.x))), (47, .bool z)] : FL)) hb9)
         refine p_qtE [] [(1, pB b1 0), (16, .slice o_x0 x0.length c_x0), (17, vI (x0.length : Int)), (18, vI y1), (27, pB b2 0), (28, vI p1.x), (29, .bool (decide (p1.x > (1000000 : Int)))), (32, vI y1), (33, .bool (decide (y1 > (0 : Int)))), (34, .bool true), (35, pB b1 0), (36, .slice o_x0 x0.length c_x0), (37, vI y1), (38, vI (w64 (y1 - (1 : Int)))), (39, .pointer (some (ad2.add (Int.toNat (w64 (y1 - (1 : Int))) * 3)))), (40, .pointer (some (ad2.add (Int.toNat (w64 (y1 - (1 : Int))) * 3)))), (41, vI p2.x), (42, pB b2 0), (43, vI p1.x), (44, .bool (decide (p2.x ≥ p1.x))), (45, .bool (decide (p2.x ≥ p1.x))), (48, undef), (49, undef), (50, undef), (53, undef), (54, undef), (55, undef), (56, undef), (57, undef), (60, undef), (61, undef), (62, undef), (63, .bool true)] [] [] hf33 (by kernel_rfl) .nil .nil fun a21 hf34 => ?_
         have hf35 := Fr.keep (ks := [1, 16, 17, 18, 63]) (r := [(1, pB b1 0), (16, .slice o_x0 x0.length c_x0), (17, vI (x0.length : Int)), (18, vI y1), (63, .bool true)]) hf34 (by kernel_rfl)
         exact ⟨z2, true, (Zone.le_refl _), hf35, hS6, hr15⟩
        ·have hr16 := cond_f hb9 hr14
         have hf36 := Fr.conv hf32 (congrArg (fun z => ([(1, pB b1 0), (4, pB b2 0), (16, .slice o_x0 x0.length c_x0), (17, vI (x0.length : Int)), (18, vI y1), (27, pB b2 0), (28, vI p1.x), (29, .bool (decide (p1.x > (1000000 : Int)))), (32, vI y1), (33, .bool (decide (y1 > (0 : Int)))), (34, .bool true), (35, pB b1 0), (36, .slice o_x0 x0.length c_x0), (37, vI y1), (38, vI (w64 (y1 - (1 : Int)))), (39, .pointer (some (ad2.add (Int.toNat (w64 (y1 - (1 : Int))) * 3)))), (40, .pointer (some (ad2.add (Int.toNat (w64 (y1 - (1 : Int))) * 3)))), (41, vI p2.x), (42, pB b2 0), (43, vI p1.x), (44, .bool (decide (p2.x ≥ p1.x))), (45, .bool (decide (p2.x ≥ p1.x))), (47, .bool z)] : FL)) hb9)
         refine p_qE 5 [vI p1.lo] [(1, pB b1 0), (4, pB b2 0), (16, .slice o_x0 x0.length c_x0), (17, vI (x0.length : Int)), (18, vI y1), (27, pB b2 0), (28, vI p1.x), (29, .bool (decide (p1.x > (1000000 : Int)))), (32, vI y1), (33, .bool (decide (y1 > (0 : Int)))), (34, .bool true), (35, pB b1 0), (36, .slice o_x0 x0.length c_x0), (37, vI y1), (38, vI (w64 (y1 - (1 : Int)))), (39, .pointer (some (ad2.add (Int.toNat (w64 (y1 - (1 : Int))) * 3)))), (40, .pointer (some (ad2.add (Int.toNat (w64 (y1 - (1 : Int))) * 3)))), (41, vI p2.x), (42, pB b2 0), (43, vI p1.x), (44, .bool (decide (p2.x ≥ p1.x))), (45, .bool (decide (p2.x ≥ p1.x))), (48, pB b2 1), (49, vI p1.lo), (50, .bool (decide (p1.lo < (-1000000000 : Int)))), (52, .bool (decide (p1.lo < (-1000000000 : Int))))] [.cell ⟨b2, 1, none⟩ (vI p1.lo)] [] hf36 (by kernel_rfl) (.cell (hS6.box (i := 0) rfl (j := 1) rfl) .nil) .nil fun a22 hf37 => ?_
         rcases Bool.eq_false_or_eq_true (decide (p1.lo < (-1000000000 : Int))) with hb10 | hb10
         ·have hr17 := cond_t hb10 hr16
          have hf38 := Fr.conv hf37 (congrArg (fun z => ([(1, pB b1 0), (4, pB b2 0), (16, .slice o_x0 x0.length c_x0), (17, vI (x0.length : Int)), (18, vI y1), (27, pB b2 0), (28, vI p1.x), (29, .bool (decide (p1.x > (1000000 : Int)))), (32, vI y1), (33, .bool (decide (y1 > (0 : Int)))), (34, .bool true), (35, pB b1 0), (36, .slice o_x0 x0.length c_x0), (37, vI y1), (38, vI (w64 (y1 - (1 : Int)))), (39, .pointer (some (ad2.add (Int.toNat (w64 (y1 - (1 : Int))) * 3)))), (40, .pointer (some (ad2.add (Int.toNat (w64 (y1 - (1 : Int))) * 3)))), (41, vI p2.x), (42, pB b2 0), (43, vI p1.x), (44, .bool (decide (p2.x ≥ p1.x))), (45, .bool (decide (p2.x ≥ p1.x))), (48, pB b2 1), (49, vI p1.lo), (50, .bool (decide (p1.lo < (-1000000000 : Int)))), (52, .bool z)] : FL)) hb10)
          refine p_qtE [] [(1, pB b1 0), (16, .slice o_x0 x0.length c_x0), (17, vI (x0.length : Int)), (18, vI y1), (27, pB b2 0), (28, vI p1.x), (29, .bool (decide (p1.x > (1000000 : Int)))), (32, vI y1), (33, .bool (decide (y1 > (0 : Int)))), (34, .bool true), (35, pB b1 0), (36, .slice o_x0 x0.length c_x0), (37, vI y1), (38, vI (w64 (y1 - (1 : Int)))), (39, .pointer (some (ad2.add (Int.toNat (w64 (y1 - (1 : Int))) * 3)))), (40, .pointer (some (ad2.add (Int.toNat (w64 (y1 - (1 : Int))) * 3)))), (41, vI p2.x), (42, pB b2 0), (43, vI p1.x), (44, .bool (decide (p2.x ≥ p1.x))), (45, .bool (decide (p2.x ≥ p1.x))), (48, pB b2 1), (49, vI p1.lo), (50, .bool (decide (p1.lo < (-1000000000 : Int)))), (53, undef), (54, undef), (55, undef), (56, undef), (57, undef), (60, undef), (61, undef), (62, undef), (63, .bool true)] [] [] hf38 (by kernel_rfl) .nil .nil fun a23 hf39 => ?_
          have hf40 := Fr.keep (ks := [1, 16, 17, 18, 63]) (r := [(1, pB b1 0), (16, .slice o_x0 x0.length c_x0), (17, vI (x0.length : Int)), (18, vI y1), (63, .bool true)]) hf39 (by kernel_rfl)
          exact ⟨z2, true, (Zone.le_refl _), hf40, hS6, hr17⟩
         ·have hr18 := cond_f hb10 hr16
          have hf41 := Fr.conv hf37 (congrArg (fun z => ([(1, pB b1 0), (4, pB b2 0), (16, .slice o_x0 x0.length c_x0), (17, vI (x0.length : Int)), (18, vI y1), (27, pB b2 0), (28, vI p1.x), (29, .bool (decide (p1.x > (1000000 : Int)))), (32, vI y1), (33, .bool (decide (y1 > (0 : Int)))), (34, .bool true), (35, pB b1 0), (36, .slice o_x0 x0.length c_x0), (37, vI y1), (38, vI (w64 (y1 - (1 : Int)))), (39, .pointer (some (ad2.add (Int.toNat (w64 (y1 - (1 : Int))) * 3)))), (40, .pointer (some (ad2.add (Int.toNat (w64 (y1 - (1 : Int))) * 3)))), (41, vI p2.x), (42, pB b2 0), (43, vI p1.x), (44, .bool (decide (p2.x ≥ p1.x))), (45, .bool (decide (p2.x ≥ p1.x))), (48, pB b2 1), (49, vI p1.lo), (50, .bool (decide (p1.lo < (-1000000000 : Int)))), (52, .bool z)] : FL)) hb10)
          refine p_qE 7 [vI p1.lo, vI p1.hi] [(1, pB b1 0), (4, pB b2 0), (16, .slice o_x0 x0.length c_x0), (17, vI (x0.length : Int)), (18, vI y1), (27, pB b2 0), (28, vI p1.x), (29, .bool (decide (p1.x > (1000000 : Int)))), (32, vI y1), (33, .bool (decide (y1 > (0 : Int)))), (34, .bool true), (35, pB b1 0), (36, .slice o_x0 x0.length c_x0), (37, vI y1), (38, vI (w64 (y1 - (1 : Int)))), (39, .pointer (some (ad2.add (Int.toNat (w64 (y1 - (1 : Int))) * 3)))), (40, .pointer (some (ad2.add (Int.toNat (w64 (y1 - (1 : Int))) * 3)))), (41, vI p2.x), (42, pB b2 0), (43, vI p1.x), (44, .bool (decide (p2.x ≥ p1.x))), (45, .bool (decide (p2.x ≥ p1.x))), (48, pB b2 1), (49, vI p1.lo), (50, .bool (decide (p1.lo < (-1000000000 : Int)))), (53, pB b2 1), (54, vI p1.lo), (55, pB b2 2), (56, vI p1.hi), (57, .bool (decide (p1.lo > p1.hi))), (59, .bool (decide (p1.lo > p1.hi)))] [.cell ⟨b2, 1, none⟩ (vI p1.lo), .cell ⟨b2, 2, none⟩ (vI p1.hi)] [] hf41 (by kernel_rfl) (.cell (hS6.box (i := 0) rfl (j := 1) rfl) (.cell (hS6.box (i := 0) rfl (j := 2) rfl) .nil)) .nil fun a24 hf42 => ?_
          rcases Bool.eq_false_or_eq_true (decide (p1.lo > p1.hi)) with hb11 | hb11
          ·have hr19 := cond_t hb11 hr18
           have hf43 := Fr.conv hf42 (congrArg (fun z => ([(1, pB b1 0), (4, pB b2 0), (16, .slice o_x0 x0.length c_x0), (17, vI (x0.length : Int)), (18, vI y1), (27, pB b2 0), (28, vI p1.x), (29, .bool (decide (p1.x > (1000000 : Int)))), (32, vI y1), (33, .bool (decide (y1 > (0 : Int)))), (34, .bool true), (35, pB b1 0), (36, .slice o_x0 x0.length c_x0), (37, vI y1), (38, vI (w64 (y1 - (1 : Int)))), (39, .pointer (some (ad2.add (Int.toNat (w64 (y1 - (1 : Int))) * 3)))), (40, .pointer (some (ad2.add (Int.toNat (w64 (y1 - (1 : Int))) * 3)))), (41, vI p2.x), (42, pB b2 0), (43, vI p1.x), (44, .bool (decide (p2.x ≥ p1.x))), (45, .bool (decide (p2.x ≥ p1.x))), (48, pB b2 1), (49, vI p1.lo), (50, .bool (decide (p1.lo < (-1000000000 : Int)))), (53, pB b2 1), (54, vI p1.lo), (55, pB b2 2), (56, vI p1.hi), (57, .bool (decide (p1.lo > p1.hi))), (59, .bool z)] : FL)) hb11)
           refine p_qtE [] [(1, pB b1 0), (16, .slice o_x0 x0.length c_x0), (17, vI (x0.length : Int)), (18, vI y1), (27, pB b2 0), (28, vI p1.x), (29, .bool (decide (p1.x > (1000000 : Int)))), (32, vI y1), (33, .bool (decide (y1 > (0 : Int)))), (34, .bool true), (35, pB b1 0), (36, .slice o_x0 x0.length c_x0), (37, vI y1), (38, vI (w64 (y1 - (1 : Int)))), (39, .pointer (some (ad2.add (Int.toNat (w64 (y1 - (1 : Int))) * 3)))), (40, .pointer (some (ad2.add (Int.toNat (w64 (y1 - (1 : Int))) * 3)))), (41, vI p2.x), (42, pB b2 0), (43, vI p1.x), (44, .bool (decide (p2.x ≥ p1.x))), (45, .bool (decide (p2.x ≥ p1.x))), (48, pB b2 1), (49, vI p1.lo), (50, .bool (decide (p1.lo < (-1000000000 : Int)))), (53, pB b2 1), (54, vI p1.lo), (55, pB b2 2), (56, vI p1.hi), (57, .bool (decide (p1.lo > p1.hi))), (60, undef), (61, undef), (62, undef), (63, .bool true)] [] [] hf43 (by kernel_rfl) .nil .nil fun a25 hf44 => ?_
           have hf45 := Fr.keep (ks := [1, 16, 17, 18, 63]) (r := [(1, pB b1 0), (16, .slice o_x0 x0.length c_x0), (17, vI (x0.length : Int)), (18, vI y1), (63, .bool true)]) hf44 (by kernel_rfl)
           exact ⟨z2, true, (Zone.le_refl _), hf45, hS6, hr19⟩
          ·have hr20 := cond_f hb11 hr18
           have hf46 := Fr.conv hf42 (congrArg (fun z => ([(1, pB b1 0), (4, pB b2 0), (16, .slice o_x0 x0.length c_x0), (17, vI (x0.length : Int)), (18, vI y1), (27, pB b2 0), (28, vI p1.x), (29, .bool (decide (p1.x > (1000000 : Int)))), (32, vI y1), (33, .bool (decide (y1 > (0 : Int)))), (34, .bool true), (35, pB b1 0), (36, .slice o_x0 x0.length c_x0), (37, vI y1), (38, vI (w64 (y1 - (1 : Int)))), (39, .pointer (some (ad2.add (Int.toNat (w64 (y1 - (1 : Int))) * 3)))), (40, .pointer (some (ad2.add (Int.toNat (w64 (y1 - (1 : Int))) * 3)))), (41, vI p2.x), (42, pB b2 0), (43, vI p1.x), (44, .bool (decide (p2.x ≥ p1.x))), (45, .bool (decide (p2.x ≥ p1.x))), (48, pB b2 1), (49, vI p1.lo), (50, .bool (decide (p1.lo < (-1000000000 : Int)))), (53, pB b2 1), (54, vI p1.lo), (55, pB b2 2), (56, vI p1.hi), (57, .bool (decide (p1.lo > p1.hi))), (59, .bool z)] : FL)) hb11)
           refine p_qtE [vI p1.hi] [(1, pB b1 0), (16, .slice o_x0 x0.length c_x0), (17, vI (x0.length : Int)), (18, vI y1), (27, pB b2 0), (28, vI p1.x), (29, .bool (decide (p1.x > (1000000 : Int)))), (32, vI y1), (33, .bool (decide (y1 > (0 : Int)))), (34, .bool true), (35, pB b1 0), (36, .slice o_x0 x0.length c_x0), (37, vI y1), (38, vI (w64 (y1 - (1 : Int)))), (39, .pointer (some (ad2.add (Int.toNat (w64 (y1 - (1 : Int))) * 3)))), (40, .pointer (some (ad2.add (Int.toNat (w64 (y1 - (1 : Int))) * 3)))), (41, vI p2.x), (42, pB b2 0), (43, vI p1.x), (44, .bool (decide (p2.x ≥ p1.x))), (45, .bool (decide (p2.x ≥ p1.x))), (48, pB b2 1), (49, vI p1.lo), (50, .bool (decide (p1.lo < (-1000000000 : Int)))), (53, pB b2 1), (54, vI p1.lo), (55, pB b2 2), (56, vI p1.hi), (57, .bool (decide (p1.lo > p1.hi))), (60, pB b2 2), (61, vI p1.hi), (62, .bool (decide (p1.hi > (1000000000 : Int)))), (63, .bool (decide (p1.hi > (1000000000 : Int))))] [.cell ⟨b2, 2, none⟩ (vI p1.hi)] [] hf46 (by kernel_rfl) (.cell (hS6.box (i := 0) rfl (j := 2) rfl) .nil) .nil fun a26 hf47 => ?_
           have hf48 := Fr.keep (ks := [1, 16, 17, 18, 63]) (r := [(1, pB b1 0), (16, .slice o_x0 x0.length c_x0), (17, vI (x0.length : Int)), (18, vI y1), (63, .bool (decide (p1.hi > (1000000000 : Int))))]) hf47 (by kernel_rfl)
           exact ⟨z2, (decide (p1.hi > (1000000000 : Int))), (Zone.le_refl _), hf48, hS6, hr20⟩
       ·have hr21 := cond_f hb7 hr12
        have hf49 := Fr.conv hf30 (congrArg (fun z => ([(1, pB b1 0), (3, vI y1), (4, pB b2 0), (16, .slice o_x0 x0.length c_x0), (17, vI (x0.length : Int)), (18, vI y1), (27, pB b2 0), (28, vI p1.x), (29, .bool (decide (p1.x > (1000000 : Int)))), (31, .bool false), (32, vI y1), (33, .bool (decide (y1 > (0 : Int)))), (34, .bool z)] : FL)) hb7)
        refine p_qE 18 [vI p1.lo] [(1, pB b1 0), (4, pB b2 0), (16, .slice o_x0 x0.length c_x0), (17, vI (x0.length : Int)), (18, vI y1), (27, pB b2 0), (28, vI p1.x), (29, .bool (decide (p1.x > (1000000 : Int)))), (32, vI y1), (33, .bool (decide (y1 > (0 : Int)))), (34, .bool false), (35, undef), (36, undef), (37, undef), (38, undef), (39, undef), (40, undef), (41, undef), (42, undef), (43, undef), (44, undef), (45, .bool false), (48, pB b2 1), (49, vI p1.lo), (50, .bool (decide (p1.lo < (-1000000000 : Int)))), (52, .bool (decide (p1.lo < (-1000000000 : Int))))] [.cell ⟨b2, 1, none⟩ (vI p1.lo)] [] hf49 (by kernel_rfl) (.cell (hS6.box (i := 0) rfl (j := 1) rfl) .nil) .nil fun a27 hf50 => ?_
        rcases Bool.eq_false_or_eq_true (decide (p1.lo < (-1000000000 : Int))) with hb12 | hb12
        ·have hr22 := cond_t hb12 hr21
         have hf51 := Fr.conv hf50 (congrArg (fun z => ([(1, pB b1 0), (4, pB b2 0), (16, .slice o_x0 x0.length c_x0), (17, vI (x0.length : Int)), (18, vI y1), (27, pB b2 0), (28, vI p1.x), (29, .bool (decide (p1.x > (1000000 : Int)))), (32, vI y1), (33, .bool (decide (y1 > (0 : Int)))), (34, .bool false), (35, undef), (36, undef), (37, undef), (38, undef), (39, undef), (40, undef), (41, undef), (42, undef), (43, undef), (44, undef), (45, .bool false), (48, pB b2 1), (49, vI p1.lo), (50, .bool (decide (p1.lo < (-1000000000 : Int)))), (52, .bool z)] : FL)) hb12)
         refine p_qtE [] [(1, pB b1 0), (16, .slice o_x0 x0.length c_x0), (17, vI (x0.length : Int)), (18, vI y1), (27, pB b2 0), (28, vI p1.x), (29, .bool (decide (p1.x > (1000000 : Int)))), (32, vI y1), (33, .bool (decide (y1 > (0 : Int)))), (34, .bool false), (35, undef), (36, undef), (37, undef), (38, undef), (39, undef), (40, undef), (41, undef), (42, undef), (43, undef), (44, undef), (45, .bool false), (48, pB b2 1), (49, vI p1.lo), (50, .bool (decide (p1.lo < (-1000000000 : Int)))), (53, undef), (54, undef), (55, undef), (56, undef), (57, undef), (60, undef), (61, undef), (62, undef), (63, .bool true)] [] [] hf51 (by kernel_rfl) .nil .nil fun a28 hf52 => ?_
         have hf53 := Fr.keep (ks := [1, 16, 17, 18, 63]) (r := [(1, pB b1 0), (16, .slice o_x0 x0.length c_x0), (17, vI (x0.length : Int)), (18, vI y1), (63, .bool true)]) hf52 (by kernel_rfl)
         exact ⟨z2, true, (Zone.le_refl _), hf53, hS6, hr22⟩
        ·have hr23 := cond_f hb12 hr21
         have hf54 := Fr.conv hf50 (congrArg (fun z => ([(1, pB b1 0), (4, pB b2 0), (16, .slice o_x0 x0.length c_x0), (17, vI (x0.length : Int)), (18, vI y1), (27, pB b2 0), (28, vI p1.x), (29, .bool (decide (p1.x > (1000000 : Int)))), (32, vI y1), (33, .bool (decide (y1 > (0 : Int)))), (34, .bool false), (35, undef), (36, undef), (37, undef), (38, undef), (39, undef), (40, undef), (41, undef), (42, undef), (43, undef), (44, undef), (45, .bool false), (48, pB b2 1), (49, vI p1.lo), (50, .bool (decide (p1.lo < (-1000000000 : Int)))), (52, .bool z)] : FL)) hb12)
         refine p_qE 7 [vI p1.lo, vI p1.hi] [(1, pB b1 0), (4, pB b2 0), (16, .slice o_x0 x0.length c_x0), (17, vI (x0.length : Int)), (18, vI y1), (27, pB b2 0), (28, vI p1.x), (29, .bool (decide (p1.x > (1000000 : Int)))), (32, vI y1), (33, .bool (decide (y1 > (0 : Int)))), (34, .bool false), (35, undef), (36, undef), (37, undef), (38, undef), (39, undef), (40, undef), (41, undef), (42, undef), (43, undef), (44, undef), (45, .bool false), (48, pB b2 1), (49, vI p1.lo), (50, .bool (decide (p1.lo < (-1000000000 : Int)))), (53, pB b2 1), (54, vI p1.lo), (55, pB b2 2), (56, vI p1.hi), (57, .bool (decide (p1.lo > p1.hi))), (59, .bool (decide (p1.lo > p1.hi)))] [.cell ⟨b2, 1, none⟩ (vI p1.lo), .cell ⟨b2, 2, none⟩ (vI p1.hi)] [] hf54 (by kernel_rfl) (.cell (hS6.box (i := 0) rfl (j := 1) rfl) (.cell (hS6.box (i := 0) rfl (j := 2) rfl) .nil)) .nil fun a29 hf55 => ?_
         rcases Bool.eq_false_or_eq_true (decide (p1.lo > p1.hi)) with hb13 | hb13
         ·have hr24 := cond_t hb13 hr23
          have hf56 := Fr.conv hf55 (congrArg (fun z => ([(1, pB b1 0), (4, pB b2 0), (16, .slice o_x0 x0.length c_x0), (17, vI (x0.length : Int)), (18, vI y1), (27, pB b2 0), (28, vI p1.x), (29, .bool (decide (p1.x > (1000000 : Int)))), (32, vI y1), (33, .bool (decide (y1 > (0 : Int)))), (34, .bool false), (35, undef), (36, undef), (37, undef), (38, undef), (39, undef), (40, undef), (41, undef), (42, undef), (43, undef), (44, undef), (45, .bool false), (48, pB b2 1), (49, vI p1.lo), (50, .bool (decide (p1.lo < (-1000000000 : Int)))), (53, pB b2 1), (54, vI p1.lo), (55, pB b2 2), (56, vI p1.hi), (57, .bool (decide (p1.lo > p1.hi))), (59, .bool z)] : FL)) hb13)
          refine p_qtE [] [(1, pB b1 0), (16, .slice o_x0 x0.length c_x0), (17, vI (x0.length : Int)), (18, vI y1), (27, pB b2 0), (28, vI p1.x), (29, .bool (decide (p1.x > (1000000 : Int)))), (32, vI y1), (33, .bool (decide (y1 > (0 : Int)))), (34, .bool false), (35, undef), (36, undef), (37, undef), (38, undef), (39, undef), (40, undef), (41, undef), (42, undef), (43, undef), (44, undef), (45, .bool false), (48, pB b2 1), (49, vI p1.lo), (50, .bool (decide (p1.lo < (-1000000000 : Int)))), (53, pB b2 1), (54, vI p1.lo), (55, pB b2 2), (56, vI p1.hi), (57, .bool (decide (p1.lo > p1.hi))), (60, undef), (61, undef), (62, undef), (63, .bool true)] [] [] hf56 (by kernel_rfl) .nil .nil fun a30 hf57 => ?_
          have hf58 := Fr.keep (ks := [1, 16, 17, 18, 63]) (r := [(1, pB b1 0), (16, .slice o_x0 x0.length c_x0), (17, vI (x0.length : Int)), (18, vI y1), (63, .bool true)]) hf57 (by kernel_rfl)
          exact ⟨z2, true, (Zone.le_refl _), hf58, hS6, hr24⟩
         ·have hr25 := cond_f hb13 hr23
          have hf59 := Fr.conv hf55 (congrArg (fun z => ([(1, pB b1 0), (4, pB b2 0), (16, .slice o_x0 x0.length c_x0), (17, vI (x0.length : Int)), (18, vI y1), (27, pB b2 0), (28, vI p1.x), (29, .bool (decide (p1.x > (1000000 : Int)))), (32, vI y1), (33, .bool (decide (y1 > (0 : Int)))), (34, .bool false), (35, undef), (36, undef), (37, undef), (38, undef), (39, undef), (40, undef), (41, undef), (42, undef), (43, undef), (44, undef), (45, .bool false), (48, pB b2 1), (49, vI p1.lo), (50, .bool (decide (p1.lo < (-1000000000 : Int)))), (53, pB b2 1), (54, vI p1.lo), (55, pB b2 2), (56, vI p1.hi), (57, .bool (decide (p1.lo > p1.hi))), (59, .bool z)] : FL)) hb13)
          refine p_qtE [vI p1.hi] [(1, pB b1 0), (16, .slice o_x0 x0.length c_x0), (17, vI (x0.length : Int)), (18, vI y1), (27, pB b2 0), (28, vI p1.x), (29, .bool (decide (p1.x > (1000000 : Int)))), (32, vI y1), (33, .bool (decide (y1 > (0 : Int)))), (34, .bool false), (35, undef), (36, undef), (37, undef), (38, undef), (39, undef), (40, undef), (41, undef), (42, undef), (43, undef), (44, undef), (45, .bool false), (48, pB b2 1), (49, vI p1.lo), (50, .bool (decide (p1.lo < (-1000000000 : Int)))), (53, pB b2 1), (54, vI p1.lo), (55, pB b2 2), (56, vI p1.hi), (57, .bool (decide (p1.lo > p1.hi))), (60, pB b2 2), (61, vI p1.hi), (62, .bool (decide (p1.hi > (1000000000 : Int)))), (63, .bool (decide (p1.hi > (1000000000 : Int))))] [.cell ⟨b2, 2, none⟩ (vI p1.hi)] [] hf59 (by kernel_rfl) (.cell (hS6.box (i := 0) rfl (j := 2) rfl) .nil) .nil fun a31 hf60 => ?_
          have hf61 := Fr.keep (ks := [1, 16, 17, 18, 63]) (r := [(1, pB b1 0), (16, .slice o_x0 x0.length c_x0), (17, vI (x0.length : Int)), (18, vI y1), (63, .bool (decide (p1.hi > (1000000000 : Int))))]) hf60 (by kernel_rfl)
          exact ⟨z2, (decide (p1.hi > (1000000000 : Int))), (Zone.le_refl _), hf61, hS6, hr25⟩
    ·rintro a32 ww6 ⟨z3, y2, k4, hf62, hS7, hr26⟩
     refine w_if hf62 (b := y2) (by kernel_rfl) (fun hb14 => ?_) (fun hb14 => ?_)
     ·have hr27 := cond_t hb14 hr26
      refine w_sq [] [(2, .bool false)] [] hf62 (by kernel_rfl) .nil fun a33 hf63 => ?_
      refine w_ret (by kernel_rfl) ?_
      refine r_block ?_
      refine r_then ?_
      refine r_then ?_
      refine r_block ?_
      refine r_then ?_
      refine p_ret (os := []) (v := .bool false) (obs := []) hf63 (by kernel_rfl) .nil ?_
      obtain rfl := some_eq hr27
      exact ⟨_, rfl, z3, (Zone.le_trans (Zone.le_trans k2 k3) k4), rfl, (St.drop 2 hS7)⟩
     ·have hr28 := cond_f hb14 hr26
      refine w_skip (by kernel_rfl) ?_
      refine n_block ?_
      refine n_then ?_
      refine w_q [] [(1, pB b1 0), (16, .slice o_x0 x0.length c_x0), (17, vI (x0.length : Int)), (18, vI (w64 (y1 + (1 : Int))))] [] hf62 (by kernel_rfl) .nil fun a34 hf64 => ?_
      refine n_then ?_
      have hf65 := Fr.keep (ks := [1, 16, 17, 18]) (r := [(1, pB b1 0), (16, .slice o_x0 x0.length c_x0), (17, vI (x0.length : Int)), (18, vI (w64 (y1 + (1 : Int))))]) hf64 (by kernel_rfl)
      exact ⟨n1, Nat.lt_succ_self n1, z3, (w64 (y1 + (1 : Int))), (Zone.le_trans k3 k4), hf65, (St.drop 1 hS7), hr28⟩
   ·have hr29 := cond_f hb3 hr6
    refine w_exit (id := 0) (by kernel_rfl) ?_
    refine x_then ?_
    refine x_then ?_
    refine x_block ?_
    refine n_then ?_
    refine w_sq [] [(2, .bool true)] [] hf15 (by kernel_rfl) .nil fun a35 hf66 => ?_
    refine w_ret (by kernel_rfl) ?_
    refine p_ret (os := []) (v := .bool true) (obs := []) hf66 (by kernel_rfl) .nil ?_
    obtain rfl := some_eq hr29
    exact ⟨_, rfl, z2, (Zone.le_trans k2 k3), rfl, (St.drop 1 hS3)⟩
def F73 (fuel : Nat) (x0 : List Pt) : Option (Int) :=
  ((getI x0 0).bind fun p1 => (some (p1.x)))
set_option maxRecDepth 100000 in
theorem f73_ok (fuel : Nat) (x0 : List Pt) (r : Int) (hr : F73 fuel x0 = some r) (h : Zone) (L : List Atom) (w : World) (hS : St h L w) (o_x0 : Option Addr) (c_x0 : Nat) (hx_x0 : SliceR PtT h o_x0 c_x0 x0) :
    Calls Try.prog 73 #[.agg #[.slice o_x0 x0.length c_x0]] w fun e w' => ∃ v, e = .returned v ∧ (v = vI r ∧ St h L w') := by
 refine calls_intro (N := 8) Try.func73 (by kernel_rfl) fun a hf => ?_
 refine w_sr (by kernel_rfl) ?_
 refine p_box (i := 0) (d := (some 1)) (cs := [.slice o_x0 x0.length c_x0]) (T := 24) (v := fun b1 => pB b1 0) hS hf (fun b => by kernel_rfl) fun b1 ww1 a1 hS1 hf1 => ⟨fun _ => trivial, ?_⟩
 refine p_qt [] [(1, pB b1 0)] [] hf1 (by kernel_rfl) .nil fun a2 hf2 => ?_
 obtain ⟨p1, hp9, hr1⟩ := bind_some hr
 obtain ⟨ad1, ho1, hb1, cc1, hc1, hk1⟩ := SliceR.getI hx_x0 hp9
 subst hc1
 refine w_sq [.slice o_x0 x0.length c_x0, .pointer (some ad1), vI p1.x] [(2, vI p1.x)] [.cell ⟨b1, 0, none⟩ (.slice o_x0 x0.length c_x0), .prop (o_x0 = some ad1), .prop (0 ≤ (0 : Int) ∧ (0 : Int) < (x0.length : Nat)), .cell ((ad1.add (Int.toNat 0 * 3)).add 0) (vI p1.x)] hf2 (by kernel_rfl) (.cell (hS1.box (i := 0) rfl (j := 0) rfl) (.prop ho1 (.prop hb1 (.cell (hS1.cell (hk1 0 _ rfl)) .nil)))) fun a3 hf3 => ?_
 refine w_ret (by kernel_rfl) ?_
 refine p_ret (os := []) (v := vI p1.x) (obs := []) hf3 (by kernel_rfl) .nil ?_
 obtain rfl := some_eq hr1
 exact ⟨_, rfl, rfl, (St.drop 1 hS1)⟩
def F74 (fuel : Nat) (x0 : List Pt) : Option (Int) :=
  ((getI x0 (w64 ((x0.length : Int) - (1 : Int)))).bind fun p1 => (some (p1.x)))
set_option maxRecDepth 100000 in
theorem f74_ok (fuel : Nat) (x0 : List Pt) (r : Int) (hr : F74 fuel x0 = some r) (h : Zone) (L : List Atom) (w : World) (hS : St h L w) (o_x0 : Option Addr) (c_x0 : Nat) (hx_x0 : SliceR PtT h o_x0 c_x0 x0) :
    Calls Try.prog 74 #[.agg #[.slice o_x0 x0.length c_x0]] w fun e w' => ∃ v, e = .returned v ∧ (v = vI r ∧ St h L w') := by
 refine calls_intro (N := 12) Try.func74 (by kernel_rfl) fun a hf => ?_
 refine w_sr (by kernel_rfl) ?_
 refine p_box (i := 0) (d := (some 1)) (cs := [.slice o_x0 x0.length c_x0]) (T := 24) (v := fun b1 => pB b1 0) hS hf (fun b => by kernel_rfl) fun b1 ww1 a1 hS1 hf1 => ⟨fun _ => trivial, ?_⟩
 refine p_qt [] [(1, pB b1 0)] [] hf1 (by kernel_rfl) .nil fun a2 hf2 => ?_
 obtain ⟨p1, hp9, hr1⟩ := bind_some hr
 obtain ⟨ad1, ho1, hb1, cc1, hc1, hk1⟩ := SliceR.getI hx_x0 hp9
 subst hc1
 refine w_sq [.slice o_x0 x0.length c_x0, .slice o_x0 x0.length c_x0, .pointer (some ad1), vI p1.x] [(2, vI p1.x)] [.cell ⟨b1, 0, none⟩ (.slice o_x0 x0.length c_x0), .cell ⟨b1, 0, none⟩ (.slice o_x0 x0.length c_x0), .prop (o_x0 = some ad1), .prop (0 ≤ (w64 ((x0.length : Int) - (1 : Int))) ∧ (w64 ((x0.length : Int) - (1 : Int))) < (x0.length : Nat)), .cell ((ad1.add (Int.toNat (w64 ((x0.length : Int) - (1 : Int))) * 3)).add 0) (vI p1.x)] hf2 (by kernel_rfl) (.cell (hS1.box (i := 0) rfl (j := 0) rfl) (.cell (hS1.box (i := 0) rfl (j := 0) rfl) (.prop ho1 (.prop hb1 (.cell (hS1.cell (hk1 0 _ rfl)) .nil))))) fun a3 hf3 => ?_
 refine w_ret (by kernel_rfl) ?_
 refine p_ret (os := []) (v := vI p1.x) (obs := []) hf3 (by kernel_rfl) .nil ?_
 obtain rfl := some_eq hr1
 exact ⟨_, rfl, rfl, (St.drop 1 hS1)⟩
def F14 (fuel : Nat) (x0 : List Pt) (x1 : Int) : Option (Int) :=
  ((F73 fuel x0).bind fun r1 => ((F74 fuel x0).bind fun r2 => ((nz (w64 ((w64 (r2 - r1)) + (1 : Int)))).bind fun _ => ((nz (w64 ((w64 (r2 - r1)) + (1 : Int)))).bind fun _ => (some ((w64 (r1 + (Int.tmod (w64 ((Int.tmod x1 (w64 ((w64 (r2 - r1)) + (1 : Int)))) + (w64 ((w64 (r2 - r1)) + (1 : Int))))) (w64 ((w64 (r2 - r1)) + (1 : Int))))))))))))
set_option maxRecDepth 100000 in
theorem f14_ok (fuel : Nat) (x0 : List Pt) (x1 : Int) (r : Int) (hr : F14 fuel x0 x1 = some r) (h : Zone) (L : List Atom) (w : World) (hS : St h L w) (o_x0 : Option Addr) (c_x0 : Nat) (hx_x0 : SliceR PtT h o_x0 c_x0 x0) :
    Calls Try.prog 14 #[.agg #[.slice o_x0 x0.length c_x0], vI x1] w fun e w' => ∃ v, e = .returned v ∧ (v = vI r ∧ St h L w') := by
 refine calls_intro (N := 23) Try.func14 (by kernel_rfl) fun a hf => ?_
 refine w_sr (by kernel_rfl) ?_
 refine p_box (i := 0) (d := (some 2)) (cs := [.slice o_x0 x0.length c_x0]) (T := 24) (v := fun b1 => pB b1 0) hS hf (fun b => by kernel_rfl) fun b1 ww1 a1 hS1 hf1 => ⟨fun _ => trivial, ?_⟩
 refine p_qt [] [(1, vI x1), (2, pB b1 0)] [] hf1 (by kernel_rfl) .nil fun a2 hf2 => ?_
 refine w_sr (by kernel_rfl) ?_
 refine p_qn 1 [.slice o_x0 x0.length c_x0] [(1, vI x1), (2, pB b1 0), (7, .agg #[.slice o_x0 x0.length c_x0])] [.cell ⟨b1, 0, none⟩ (.slice o_x0 x0.length c_x0)] hf2 (by kernel_rfl) (.cell (hS1.box (i := 0) rfl (j := 0) rfl) .nil) fun a3 hf3 => ?_
 obtain ⟨r1, hd1, hr1⟩ := bind_some hr
 refine p_call (i := 1) (d := some 8) (f := 73) (args := #[.agg #[.slice o_x0 x0.length c_x0]]) hf3 (by kernel_rfl) (f73_ok fuel x0 r1 hd1 h _ _ hS1 o_x0 c_x0 hx_x0) ?_
 rintro v1 ww2 a4 ⟨rfl, hS2⟩ hf4
 refine ⟨fun _ => trivial, ?_⟩
 refine p_qt [] [(1, vI x1), (2, pB b1 0), (5, vI r1)] [] hf4 (by kernel_rfl) .nil fun a5 hf5 => ?_
 refine w_sr (by kernel_rfl) ?_
 refine p_qn 1 [.slice o_x0 x0.length c_x0] [(1, vI x1), (5, vI r1), (9, .agg #[.slice o_x0 x0.length c_x0])] [.cell ⟨b1, 0, none⟩ (.slice o_x0 x0.length c_x0)] hf5 (by kernel_rfl) (.cell (hS2.box (i := 0) rfl (j := 0) rfl) .nil) fun a6 hf6 => ?_
 obtain ⟨r2, hd2, hr2⟩ := bind_some hr1
 refine p_call (i := 1) (d := some 10) (f := 74) (args := #[.agg #[.slice o_x0 x0.length c_x0]]) hf6 (by kernel_rfl) (f74_ok fuel x0 r2 hd2 h _ _ hS2 o_x0 c_x0 hx_x0) ?_
 rintro v2 ww3 a7 ⟨rfl, hS3⟩ hf7
 refine ⟨fun _ => trivial, ?_⟩
 refine p_qt [] [(1, vI x1), (5, vI r1), (6, vI (w64 ((w64 (r2 - r1)) + (1 : Int))))] [] hf7 (by kernel_rfl) .nil fun a8 hf8 => ?_
 obtain ⟨u1, hd3, hr3⟩ := bind_some hr2
 obtain ⟨u2, hd4, hr4⟩ := bind_some hr3
 refine w_sq [] [(4, vI (w64 (r1 + (Int.tmod (w64 ((Int.tmod x1 (w64 ((w64 (r2 - r1)) + (1 : Int)))) + (w64 ((w64 (r2 - r1)) + (1 : Int))))) (w64 ((w64 (r2 - r1)) + (1 : Int)))))))] [.prop ((w64 ((w64 (r2 - r1)) + (1 : Int))) ≠ 0), .prop ((w64 ((w64 (r2 - r1)) + (1 : Int))) ≠ 0)] hf8 (by kernel_rfl) (.prop (nz_spec hd3) (.prop (nz_spec hd4) .nil)) fun a9 hf9 => ?_
 refine w_ret (by kernel_rfl) ?_
 refine p_ret (os := []) (v := vI (w64 (r1 + (Int.tmod (w64 ((Int.tmod x1 (w64 ((w64 (r2 - r1)) + (1 : Int)))) + (w64 ((w64 (r2 - r1)) + (1 : Int))))) (w64 ((w64 (r2 - r1)) + (1 : Int))))))) (obs := []) hf9 (by kernel_rfl) .nil ?_
 obtain rfl := some_eq hr4
 exact ⟨_, rfl, rfl, (St.drop 1 hS3)⟩
def F80_l1 (x0 : List Pt) : Nat → (List Int) → (List Int) → (List Int) → Int → Option (List Int × List Int × List Int)
  | 0, _, _, _, _ => none
  | n1 + 1, y1, y2, y3, y4 =>
    let k1 : (List Int) → (List Int) → (List Int) → Int → Option (List Int × List Int × List Int) := F80_l1 x0 n1
    (cond (decide (y4 < (x0.length : Int))) ((getI x0 y4).bind fun p1 => ((appC y3 ([p1.x])).bind fun d1 => ((appC y2 ([p1.lo])).bind fun d2 => ((appC y1 ([p1.hi])).bind fun d3 => (k1 d3 d2 d1 (w64 (y4 + (1 : Int)))))))) (some (y3, y2, y1)))
def F80 (fuel : Nat) (x0 : List Pt) : Option (List Int × List Int × List Int) :=
  (F80_l1 x0 fuel ([]) ([]) ([]) 0)
set_option maxRecDepth 100000 in
theorem f80_ok (fuel : Nat) (x0 : List Pt) (r : List Int × List Int × List Int) (hr : F80 fuel x0 = some r) (h : Zone) (L : List Atom) (w : World) (hS : St h L w) (o_x0 : Option Addr) (c_x0 : Nat) (hx_x0 : SliceR PtT h o_x0 c_x0 x0) :
    Calls Try.prog 80 #[.agg #[.slice o_x0 x0.length c_x0]] w fun e w' => ∃ v, e = .returned v ∧ (∃ h', ∃ o0 : Option Addr, ∃ c0 : Nat, ∃ o1 : Option Addr, ∃ c1 : Nat, ∃ o2 : Option Addr, ∃ c2 : Nat, Zone.le h h' ∧ v = .tuple #[.slice o0 r.1.length c0, .slice o1 r.2.1.length c1, .slice o2 r.2.2.length c2] ∧ St h' L w' ∧ SliceR Ty.int h' o0 c0 r.1 ∧ SliceR Ty.int h' o1 c1 r.2.1 ∧ SliceR Ty.int h' o2 c2 r.2.2) := by
 refine calls_intro (N := 36) Try.func80 (by kernel_rfl) fun a hf => ?_
 refine w_sr (by kernel_rfl) ?_
 refine p_box (i := 0) (d := (some 1)) (cs := [.slice o_x0 x0.length c_x0]) (T := 24) (v := fun b1 => pB b1 0) hS hf (fun b => by kernel_rfl) fun b1 ww1 a1 hS1 hf1 => ⟨fun _ => trivial, ?_⟩
 refine p_qt [] [(1, pB b1 0)] [] hf1 (by kernel_rfl) .nil fun a2 hf2 => ?_
 refine w_sq [] [(1, pB b1 0), (5, .slice none 0 0)] [] hf2 (by kernel_rfl) .nil fun a3 hf3 => ?_
 refine w_sq [] [(1, pB b1 0), (5, .slice none 0 0), (6, .slice none 0 0)] [] hf3 (by kernel_rfl) .nil fun a4 hf4 => ?_
 refine w_sq [] [(1, pB b1 0), (5, .slice none 0 0), (6, .slice none 0 0), (7, .slice none 0 0)] [] hf4 (by kernel_rfl) .nil fun a5 hf5 => ?_
 refine w_seq (by kernel_rfl) ?_
 refine w_sq [.slice o_x0 x0.length c_x0] [(5, .slice none 0 0), (6, .slice none 0 0), (7, .slice none 0 0), (11, .slice o_x0 x0.length c_x0), (12, vI (x0.length : Int)), (13, vI 0)] [.cell ⟨b1, 0, none⟩ (.slice o_x0 x0.length c_x0)] hf5 (by kernel_rfl) (.cell (hS1.box (i := 0) rfl (j := 0) rfl) .nil) fun a6 hf6 => ?_
 refine w_block (id := 0) (by kernel_rfl) ?_
 have hS2 := hS1.ownNil Ty.int 3
 have hS3 := hS2.ownNil Ty.int 3
 have hS4 := hS3.ownNil Ty.int 3
 have hf7 := Fr.keep (ks := [5, 6, 7, 11, 12, 13]) (r := [(5, .slice none 0 0), (6, .slice none 0 0), (7, .slice none 0 0), (11, .slice o_x0 x0.length c_x0), (12, vI (x0.length : Int)), (13, vI 0)]) hf6 (by kernel_rfl)
 refine w_loop (by kernel_rfl) (fun n a w => ∃ z1 : Zone, ∃ y1 : List Int, ∃ y2 : List Int, ∃ y3 : List Int, ∃ y4 : Int, ∃ e1 : Option Addr, ∃ q1 : Nat, ∃ e2 : Option Addr, ∃ q2 : Nat, ∃ e3 : Option Addr, ∃ q3 : Nat, Zone.le h z1 ∧ Fr a 36 [(5, .slice e3 y3.length q3), (6, .slice e2 y2.length q2), (7, .slice e1 y1.length q1), (11, .slice o_x0 x0.length c_x0), (12, vI (x0.length : Int)), (13, vI y4)] ∧ St z1 (ownS Ty.int 3 e1 q1 y1 :: ownS Ty.int 3 e2 q2 y2 :: ownS Ty.int 3 e3 q3 y3 :: box b1 [.slice o_x0 x0.length c_x0] 24 :: L) w ∧ (F80_l1 x0 n y1 y2 y3 y4) = some r) fuel ⟨h, [], [], [], 0, none, 0, none, 0, none, 0, (Zone.le_refl _), hf7, hS4, hr⟩ ?_
 rintro n2 a7 ww2 ⟨z1, y1, y2, y3, y4, e1, q1, e2, q2, e3, q3, k2, hf8, hS5, hr1⟩
 cases n2 with
 | zero => cases hr1
 | succ n1 =>
 refine w_sq [] [(5, .slice e3 y3.length q3), (6, .slice e2 y2.length q2), (7, .slice e1 y1.length q1), (11, .slice o_x0 x0.length c_x0), (12, vI (x0.length : Int)), (13, vI y4), (14, .bool (decide (y4 < (x0.length : Int))))] [] hf8 (by kernel_rfl) .nil fun a8 hf9 => ?_
 refine w_seq (by kernel_rfl) ?_
 refine w_if hf9 (b := (decide (y4 < (x0.length : Int)))) (by kernel_rfl) (fun hb1 => ?_) (fun hb1 => ?_)
 ·have hr2 := cond_t hb1 hr1
  refine w_skip (by kernel_rfl) ?_
  refine n_then ?_
  refine w_seq (by kernel_rfl) ?_
  refine w_block (id := 1) (by kernel_rfl) ?_
  refine w_sr (by kernel_rfl) ?_
  obtain ⟨p1, hp1984, hr3⟩ := bind_some hr2
  obtain ⟨ad1, ho1, hb2, cc1, hc1, hk1⟩ := SliceR.getI (SliceR.mono k2 hx_x0) hp1984
  subst hc1
  refine p_qn 2 [.pointer (some ad1), vI p1.x, vI p1.lo, vI p1.hi] [(5, .slice e3 y3.length q3), (6, .slice e2 y2.length q2), (7, .slice e1 y1.length q1), (11, .slice o_x0 x0.length c_x0), (12, vI (x0.length : Int)), (13, vI y4), (16, .agg #[vI p1.x, vI p1.lo, vI p1.hi])] [.prop (o_x0 = some ad1), .prop (0 ≤ y4 ∧ y4 < (x0.length : Nat)), .cell ((ad1.add (Int.toNat y4 * 3)).add 0) (vI p1.x), .cell ((ad1.add (Int.toNat y4 * 3)).add 1) (vI p1.lo), .cell ((ad1.add (Int.toNat y4 * 3)).add 2) (vI p1.hi)] hf9 (by kernel_rfl) (.prop ho1 (.prop hb2 (.cell (hS5.cell (hk1 0 _ rfl)) (.cell (hS5.cell (hk1 1 _ rfl)) (.cell (hS5.cell (hk1 2 _ rfl)) .nil))))) fun a9 hf10 => ?_
  refine p_box (i := 2) (d := (some 9)) (cs := [vI 0, vI 0, vI 0]) (T := 52) (v := fun b2 => pB b2 0) hS5 hf10 (fun b => by kernel_rfl) fun b2 ww3 a10 hS6 hf11 => ⟨fun _ => trivial, ?_⟩
  refine p_store_eq (i := 3) (j := 0) (b := b2) (off := 0) (vs := [vI p1.x, vI p1.lo, vI p1.hi]) (cs' := [vI p1.x, vI p1.lo, vI p1.hi]) hS6 hf11 rfl (by kernel_rfl) (by kernel_rfl) rfl fun ww4 a11 hS7 hf12 => ⟨fun _ => trivial, ?_⟩
  refine p_dt (by kernel_rfl) ?_
  refine w_sr (by kernel_rfl) ?_
  refine p_qn 3 [vI p1.x] [(6, .slice e2 y2.length q2), (7, .slice e1 y1.length q1), (9, pB b2 0), (11, .slice o_x0 x0.length c_x0), (12, vI (x0.length : Int)), (13, vI y4), (17, .slice e3 y3.length q3), (19, vI p1.x)] [.cell ⟨b2, 0, none⟩ (vI p1.x)] hf12 (by kernel_rfl) (.cell (hS7.box (i := 0) rfl (j := 0) rfl) .nil) fun a12 hf13 => ?_
  refine p_box (i := 3) (d := (some 20)) (cs := [vI p1.x]) (T := 3) (v := fun b3 => .slice (some ⟨b3, 0, none⟩) 1 1) hS7 hf13 (fun b => by kernel_rfl) fun b3 ww5 a13 hS8 hf14 => ⟨fun _ => trivial, ?_⟩
  have hS9 := hS8.ownBox (T := Ty.int) (E := 3) (n := 1) (xs := [p1.x]) (i := 0) rfl (Rows.cons (c := [vI p1.x]) rfl rfl) rfl (by decide)
  obtain ⟨d1, hd1, hr4⟩ := bind_some hr3
  refine p_append (T := Ty.int) (i := 4) (j := 4) (d := some 21) (o2 := (some ⟨b3, 0, none⟩)) (c2 := 1) (ys := ([p1.x])) el25 hS9 hf14 rfl (by kernel_rfl) (hS9.ownSrc (j := 0) rfl) hd1 fun e4 q4 ww6 a14 hS10 hf15 => ⟨fun _ => trivial, ?_⟩
  refine p_qt [] [(5, .slice e4 d1.length q4), (6, .slice e2 y2.length q2), (7, .slice e1 y1.length q1), (9, pB b2 0), (11, .slice o_x0 x0.length c_x0), (12, vI (x0.length : Int)), (13, vI y4)] [] hf15 (by kernel_rfl) .nil fun a15 hf16 => ?_
  refine w_sr (by kernel_rfl) ?_
  refine p_qn 3 [vI p1.lo] [(5, .slice e4 d1.length q4), (7, .slice e1 y1.length q1), (9, pB b2 0), (11, .slice o_x0 x0.length c_x0), (12, vI (x0.length : Int)), (13, vI y4), (22, .slice e2 y2.length q2), (24, vI p1.lo)] [.cell ⟨b2, 1, none⟩ (vI p1.lo)] hf16 (by kernel_rfl) (.cell (hS10.box (i := 1) rfl (j := 1) rfl) .nil) fun a16 hf17 => ?_
  refine p_box (i := 3) (d := (some 25)) (cs := [vI p1.lo]) (T := 3) (v := fun b4 => .slice (some ⟨b4, 0, none⟩) 1 1) hS10 hf17 (fun b => by kernel_rfl) fun b4 ww7 a17 hS11 hf18 => ⟨fun _ => trivial, ?_⟩
  have hS12 := hS11.ownBox (T := Ty.int) (E := 3) (n := 1) (xs := [p1.lo]) (i := 0) rfl (Rows.cons (c := [vI p1.lo]) rfl rfl) rfl (by decide)
  obtain ⟨d2, hd2, hr5⟩ := bind_some hr4
  refine p_append (T := Ty.int) (i := 4) (j := 4) (d := some 26) (o2 := (some ⟨b4, 0, none⟩)) (c2 := 1) (ys := ([p1.lo])) el25 hS12 hf18 rfl (by kernel_rfl) (hS12.ownSrc (j := 0) rfl) hd2 fun e5 q5 ww8 a18 hS13 hf19 => ⟨fun _ => trivial, ?_⟩
  refine p_qt [] [(5, .slice e4 d1.length q4), (6, .slice e5 d2.length q5), (7, .slice e1 y1.length q1), (9, pB b2 0), (11, .slice o_x0 x0.length c_x0), (12, vI (x0.length : Int)), (13, vI y4)] [] hf19 (by kernel_rfl) .nil fun a19 hf20 => ?_
  refine w_reg (by kernel_rfl) ?_
  refine p_qn 3 [vI p1.hi] [(5, .slice e4 d1.length q4), (6, .slice e5 d2.length q5), (11, .slice o_x0 x0.length c_x0), (12, vI (x0.length : Int)), (13, vI y4), (27, .slice e1 y1.length q1), (29, vI p1.hi)] [.cell ⟨b2, 2, none⟩ (vI p1.hi)] hf20 (by kernel_rfl) (.cell (hS13.box (i := 2) rfl (j := 2) rfl) .nil) fun a20 hf21 => ?_
  refine p_box (i := 3) (d := (some 30)) (cs := [vI p1.hi]) (T := 3) (v := fun b5 => .slice (some ⟨b5, 0, none⟩) 1 1) hS13 hf21 (fun b => by kernel_rfl) fun b5 ww9 a21 hS14 hf22 => ⟨fun _ => trivial, ?_⟩
  have hS15 := hS14.ownBox (T := Ty.int) (E := 3) (n := 1) (xs := [p1.hi]) (i := 0) rfl (Rows.cons (c := [vI p1.hi]) rfl rfl) rfl (by decide)
  obtain ⟨d3, hd3, hr6⟩ := bind_some hr5
  refine p_append (T := Ty.int) (i := 4) (j := 4) (d := some 31) (o2 := (some ⟨b5, 0, none⟩)) (c2 := 1) (ys := ([p1.hi])) el25 hS15 hf22 rfl (by kernel_rfl) (hS15.ownSrc (j := 0) rfl) hd3 fun e6 q6 ww10 a22 hS16 hf23 => ⟨fun _ => trivial, ?_⟩
  refine p_qz [] [(5, .slice e4 d1.length q4), (6, .slice e5 d2.length q5), (7, .slice e6 d3.length q6), (11, .slice o_x0 x0.length c_x0), (12, vI (x0.length : Int)), (13, vI y4)] [] hf23 (by kernel_rfl) .nil fun a23 hf24 => ?_
  refine n_block ?_
  refine n_then ?_
  refine w_q [] [(5, .slice e4 d1.length q4), (6, .slice e5 d2.length q5), (7, .slice e6 d3.length q6), (11, .slice o_x0 x0.length c_x0), (12, vI (x0.length : Int)), (13, vI (w64 (y4 + (1 : Int))))] [] hf24 (by kernel_rfl) .nil fun a24 hf25 => ?_
  refine n_then ?_
  have hf26 := Fr.keep (ks := [5, 6, 7, 11, 12, 13]) (r := [(5, .slice e4 d1.length q4), (6, .slice e5 d2.length q5), (7, .slice e6 d3.length q6), (11, .slice o_x0 x0.length c_x0), (12, vI (x0.length : Int)), (13, vI (w64 (y4 + (1 : Int))))]) hf25 (by kernel_rfl)
  exact ⟨n1, Nat.lt_succ_self n1, z1, d3, d2, d1, (w64 (y4 + (1 : Int))), e6, q6, e5, q5, e4, q4, k2, hf26, (St.drop 4 hS16), hr6⟩
 ·have hr7 := cond_f hb1 hr1
  refine w_exit (id := 0) (by kernel_rfl) ?_
  refine x_then ?_
  refine x_then ?_
  refine x_block ?_
  refine n_then ?_
  refine w_sq [] [(2, .slice e3 y3.length q3), (3, .slice e2 y2.length q2), (4, .slice e1 y1.length q1)] [] hf9 (by kernel_rfl) .nil fun a25 hf27 => ?_
  refine w_ret (by kernel_rfl) ?_
  obtain ⟨z2, k3, hS17, hx1⟩ := hS5.share (j := 2) rfl
  obtain ⟨z3, k4, hS18, hx2⟩ := hS17.share (j := 1) rfl
  obtain ⟨z4, k5, hS19, hx3⟩ := hS18.share (j := 0) rfl
  refine p_ret (os := []) (v := .tuple #[.slice e3 y3.length q3, .slice e2 y2.length q2, .slice e1 y1.length q1]) (obs := []) hf27 (by kernel_rfl) .nil ?_
  obtain rfl := some_eq hr7
  exact ⟨_, rfl, z4, e3, q3, e2, q2, e1, q1, (Zone.le_trans (Zone.le_trans (Zone.le_trans k2 k3) k4) k5), rfl, (St.drop 4 hS19), (SliceR.mono (Zone.le_trans k4 k5) hx1), (SliceR.mono k5 hx2), hx3⟩
def F16 (fuel : Nat) (x0 : List Pt) : Option (List Int) :=
  ((F80 fuel x0).bind fun r1 => (some (r1.1)))
set_option maxRecDepth 100000 in
theorem f16_ok (fuel : Nat) (x0 : List Pt) (r : List Int) (hr : F16 fuel x0 = some r) (h : Zone) (L : List Atom) (w : World) (hS : St h L w) (o_x0 : Option Addr) (c_x0 : Nat) (hx_x0 : SliceR PtT h o_x0 c_x0 x0) :
    Calls Try.prog 16 #[.agg #[.slice o_x0 x0.length c_x0]] w fun e w' => ∃ v, e = .returned v ∧ (∃ h', ∃ o0 : Option Addr, ∃ c0 : Nat, Zone.le h h' ∧ v = .slice o0 r.length c0 ∧ St h' L w' ∧ SliceR Ty.int h' o0 c0 r) := by
 refine calls_intro (N := 13) Try.func16 (by kernel_rfl) fun a hf => ?_
 refine w_sr (by kernel_rfl) ?_
 refine p_box (i := 0) (d := (some 1)) (cs := [.slice o_x0 x0.length c_x0]) (T := 24) (v := fun b1 => pB b1 0) hS hf (fun b => by kernel_rfl) fun b1 ww1 a1 hS1 hf1 => ⟨fun _ => trivial, ?_⟩
 refine p_qt [] [(1, pB b1 0)] [] hf1 (by kernel_rfl) .nil fun a2 hf2 => ?_
 refine w_sr (by kernel_rfl) ?_
 refine p_qn 1 [.slice o_x0 x0.length c_x0] [(7, .agg #[.slice o_x0 x0.length c_x0])] [.cell ⟨b1, 0, none⟩ (.slice o_x0 x0.length c_x0)] hf2 (by kernel_rfl) (.cell (hS1.box (i := 0) rfl (j := 0) rfl) .nil) fun a3 hf3 => ?_
 obtain ⟨r1, hd1, hr1⟩ := bind_some hr
 refine p_call (i := 1) (d := some 8) (f := 80) (args := #[.agg #[.slice o_x0 x0.length c_x0]]) hf3 (by kernel_rfl) (f80_ok fuel x0 r1 hd1 h _ _ hS1 o_x0 c_x0 hx_x0) ?_
 rintro v1 ww2 a4 ⟨z1, e1, q1, e2, q2, e3, q3, k1, rfl, hS2, hx1, hx2, hx3⟩ hf4
 refine ⟨fun _ => trivial, ?_⟩
 refine p_qt [] [(3, .slice e1 r1.1.length q1)] [] hf4 (by kernel_rfl) .nil fun a5 hf5 => ?_
 refine w_sq [] [(2, .slice e1 r1.1.length q1)] [] hf5 (by kernel_rfl) .nil fun a6 hf6 => ?_
 refine w_ret (by kernel_rfl) ?_
 refine p_ret (os := []) (v := .slice e1 r1.1.length q1) (obs := []) hf6 (by kernel_rfl) .nil ?_
 obtain rfl := some_eq hr1
 exact ⟨_, rfl, z1, e1, q1, k1, rfl, (St.drop 1 hS2), hx1⟩
def F17_j1 (k1 : (List Int) → Int → Option (List Int)) (y1 : List Int) (y2 : Int) (p1 : Pt) (y3 : Int) : Option (List Int) :=
  ((nz (w64 ((w64 (p1.hi - p1.lo)) + (1 : Int)))).bind fun _ => ((nz (w64 ((w64 (p1.hi - p1.lo)) + (1 : Int)))).bind fun _ => ((appC y1 ([(w64 (p1.lo + (Int.tmod (w64 ((Int.tmod y3 (w64 ((w64 (p1.hi - p1.lo)) + (1 : Int)))) + (w64 ((w64 (p1.hi - p1.lo)) + (1 : Int))))) (w64 ((w64 (p1.hi - p1.lo)) + (1 : Int))))))])).bind fun d1 => (k1 d1 (w64 (y2 + (1 : Int)))))))
def F17_l1 (x0_t : List Pt) (x0_c : List Int) : Nat → (List Int) → Int → Option (List Int)
  | 0, _, _ => none
  | n1 + 1, y1, y2 =>
    let k1 : (List Int) → Int → Option (List Int) := F17_l1 x0_t x0_c n1
    (cond (decide (y2 < (x0_t.length : Int))) ((getI x0_t y2).bind fun p1 => (cond (decide ((x0_c.length : Int) > (0 : Int))) ((nz (x0_c.length : Int)).bind fun _ => ((getI x0_c (Int.tmod y2 (x0_c.length : Int))).bind fun p2 => (F17_j1 k1 y1 y2 p1 p2))) (F17_j1 k1 y1 y2 p1 0))) (some (y1)))
def F17 (fuel : Nat) (x0_t : List Pt) (x0_c : List Int) : Option (List Int) :=
  (F17_l1 x0_t x0_c fuel ([]) 0)
set_option maxRecDepth 100000 in
theorem f17_ok (fuel : Nat) (x0_t : List Pt) (x0_c : List Int) (r : List Int) (hr : F17 fuel x0_t x0_c = some r) (h : Zone) (L : List Atom) (w : World) (hS : St h L w) (o_x0_t : Option Addr) (c_x0_t : Nat) (hx_x0_t : SliceR PtT h o_x0_t c_x0_t x0_t) (o_x0_c : Option Addr) (c_x0_c : Nat) (hx_x0_c : SliceR Ty.int h o_x0_c c_x0_c x0_c) :
    Calls Try.prog 17 #[.agg #[.slice o_x0_t x0_t.length c_x0_t, .slice o_x0_c x0_c.length c_x0_c]] w fun e w' => ∃ v, e = .returned v ∧ (∃ h', ∃ o0 : Option Addr, ∃ c0 : Nat, Zone.le h h' ∧ v = .slice o0 r.length c0 ∧ St h' L w' ∧ SliceR Ty.int h' o0 c0 r) := by
 refine calls_intro (N := 51) Try.func17 (by kernel_rfl) fun a hf => ?_
 refine w_sr (by kernel_rfl) ?_
 refine p_box (i := 0) (d := (some 1)) (cs := [.slice o_x0_t x0_t.length c_x0_t, .slice o_x0_c x0_c.length c_x0_c]) (T := 27) (v := fun b1 => pB b1 0) hS hf (fun b => by kernel_rfl) fun b1 ww1 a1 hS1 hf1 => ⟨fun _ => trivial, ?_⟩
 refine p_qt [] [(1, pB b1 0)] [] hf1 (by kernel_rfl) .nil fun a2 hf2 => ?_
 refine w_sq [] [(1, pB b1 0), (3, .slice none 0 0)] [] hf2 (by kernel_rfl) .nil fun a3 hf3 => ?_
 refine w_seq (by kernel_rfl) ?_
 refine w_sq [.slice o_x0_t x0_t.length c_x0_t] [(1, pB b1 0), (3, .slice none 0 0), (10, .slice o_x0_t x0_t.length c_x0_t), (11, vI (x0_t.length : Int)), (12, vI 0)] [.cell ⟨b1, 0, none⟩ (.slice o_x0_t x0_t.length c_x0_t)] hf3 (by kernel_rfl) (.cell (hS1.box (i := 0) rfl (j := 0) rfl) .nil) fun a4 hf4 => ?_
 refine w_block (id := 0) (by kernel_rfl) ?_
 have hS2 := hS1.ownNil Ty.int 3
 have hf5 := Fr.keep (ks := [1, 3, 10, 11, 12]) (r := [(1, pB b1 0), (3, .slice none 0 0), (10, .slice o_x0_t x0_t.length c_x0_t), (11, vI (x0_t.length : Int)), (12, vI 0)]) hf4 (by kernel_rfl)
 refine w_loop (by kernel_rfl) (fun n a w => ∃ z1 : Zone, ∃ y1 : List Int, ∃ y2 : Int, ∃ e1 : Option Addr, ∃ q1 : Nat, Zone.le h z1 ∧ Fr a 51 [(1, pB b1 0), (3, .slice e1 y1.length q1), (10, .slice o_x0_t x0_t.length c_x0_t), (11, vI (x0_t.length : Int)), (12, vI y2)] ∧ St z1 (ownS Ty.int 3 e1 q1 y1 :: box b1 [.slice o_x0_t x0_t.length c_x0_t, .slice o_x0_c x0_c.length c_x0_c] 27 :: L) w ∧ (F17_l1 x0_t x0_c n y1 y2) = some r) fuel ⟨h, [], 0, none, 0, (Zone.le_refl _), hf5, hS2, hr⟩ ?_
 rintro n2 a5 ww2 ⟨z1, y1, y2, e1, q1, k2, hf6, hS3, hr1⟩
 cases n2 with
 | zero => cases hr1
 | succ n1 =>
 refine w_sq [] [(1, pB b1 0), (3, .slice e1 y1.length q1), (10, .slice o_x0_t x0_t.length c_x0_t), (11, vI (x0_t.length : Int)), (12, vI y2), (13, .bool (decide (y2 < (x0_t.length : Int))))] [] hf6 (by kernel_rfl) .nil fun a6 hf7 => ?_
 refine w_seq (by kernel_rfl) ?_
 refine w_if hf7 (b := (decide (y2 < (x0_t.length : Int)))) (by kernel_rfl) (fun hb1 => ?_) (fun hb1 => ?_)
 ·have hr2 := cond_t hb1 hr1
  refine w_skip (by kernel_rfl) ?_
  refine n_then ?_
  refine w_seq (by kernel_rfl) ?_
  refine w_block (id := 1) (by kernel_rfl) ?_
  refine w_sr (by kernel_rfl) ?_
  obtain ⟨p1, hp2152, hr3⟩ := bind_some hr2
  obtain ⟨ad1, ho1, hb2, cc1, hc1, hk1⟩ := SliceR.getI (SliceR.mono k2 hx_x0_t) hp2152
  subst hc1
  refine p_qn 3 [.pointer (some ad1), vI p1.x, vI p1.lo, vI p1.hi] [(1, pB b1 0), (3, .slice e1 y1.length q1), (10, .slice o_x0_t x0_t.length c_x0_t), (11, vI (x0_t.length : Int)), (12, vI y2), (14, vI y2), (16, .agg #[vI p1.x, vI p1.lo, vI p1.hi])] [.prop (o_x0_t = some ad1), .prop (0 ≤ y2 ∧ y2 < (x0_t.length : Nat)), .cell ((ad1.add (Int.toNat y2 * 3)).add 0) (vI p1.x), .cell ((ad1.add (Int.toNat y2 * 3)).add 1) (vI p1.lo), .cell ((ad1.add (Int.toNat y2 * 3)).add 2) (vI p1.hi)] hf7 (by kernel_rfl) (.prop ho1 (.prop hb2 (.cell (hS3.cell (hk1 0 _ rfl)) (.cell (hS3.cell (hk1 1 _ rfl)) (.cell (hS3.cell (hk1 2 _ rfl)) .nil))))) fun a7 hf8 => ?_
  refine p_box (i := 3) (d := (some 5)) (cs := [vI 0, vI 0, vI 0]) (T := 52) (v := fun b2 => pB b2 0) hS3 hf8 (fun b => by kernel_rfl) fun b2 ww3 a8 hS4 hf9 => ⟨fun _ => trivial, ?_⟩
  refine p_qn 1 [] [(1, pB b1 0), (3, .slice e1 y1.length q1), (4, vI y2), (5, pB b2 0), (10, .slice o_x0_t x0_t.length c_x0_t), (11, vI (x0_t.length : Int)), (12, vI y2), (16, .agg #[vI p1.x, vI p1.lo, vI p1.hi])] [] hf9 (by kernel_rfl) .nil fun a9 hf10 => ?_
  refine p_store_eq (i := 5) (j := 0) (b := b2) (off := 0) (vs := [vI p1.x, vI p1.lo, vI p1.hi]) (cs' := [vI p1.x, vI p1.lo, vI p1.hi]) hS4 hf10 rfl (by kernel_rfl) (by kernel_rfl) rfl fun ww4 a10 hS5 hf11 => ⟨fun _ => trivial, ?_⟩
  refine p_dt (by kernel_rfl) ?_
  refine w_sq [] [(1, pB b1 0), (3, .slice e1 y1.length q1), (4, vI y2), (5, pB b2 0), (6, vI 0), (10, .slice o_x0_t x0_t.length c_x0_t), (11, vI (x0_t.length : Int)), (12, vI y2)] [] hf11 (by kernel_rfl) .nil fun a11 hf12 => ?_
  refine w_mid (by kernel_rfl) (fun a w => ∃ z2 : Zone, ∃ y3 : Int, Zone.le z1 z2 ∧ Fr a 51 [(1, pB b1 0), (3, .slice e1 y1.length q1), (5, pB b2 0), (6, vI y3), (10, .slice o_x0_t x0_t.length c_x0_t), (11, vI (x0_t.length : Int)), (12, vI y2)] ∧ St z2 (box b2 [vI p1.x, vI p1.lo, vI p1.hi] 52 :: ownS Ty.int 3 e1 q1 y1 :: box b1 [.slice o_x0_t x0_t.length c_x0_t, .slice o_x0_c x0_c.length c_x0_c] 27 :: L) w ∧ (F17_j1 (F17_l1 x0_t x0_c n1) y1 y2 p1 y3) = some r) ?_ ?_
  ·skip
   refine w_sq [.slice o_x0_c x0_c.length c_x0_c] [(1, pB b1 0), (3, .slice e1 y1.length q1), (4, vI y2), (5, pB b2 0), (6, vI 0), (10, .slice o_x0_t x0_t.length c_x0_t), (11, vI (x0_t.length : Int)), (12, vI y2), (20, .bool (decide ((x0_c.length : Int) > (0 : Int))))] [.cell ⟨b1, 1, none⟩ (.slice o_x0_c x0_c.length c_x0_c)] hf12 (by kernel_rfl) (.cell (hS5.box (i := 2) rfl (j := 1) rfl) .nil) fun a12 hf13 => ?_
   refine w_if hf13 (b := (decide ((x0_c.length : Int) > (0 : Int)))) (by kernel_rfl) (fun hb3 => ?_) (fun hb3 => ?_)
   ·have hr4 := cond_t hb3 hr3
    have hS6 := hS5.drew
    obtain ⟨u1, hd1, hr5⟩ := bind_some hr4
    obtain ⟨p2, hp2233, hr6⟩ := bind_some hr5
    obtain ⟨ad2, ho2, hb4, cc2, hc2, hk2⟩ := SliceR.getI (SliceR.mono k2 hx_x0_c) hp2233
    subst hc2
    refine w_qD [(0, true), (1, true), (2, true), (3, true), (4, true), (5, true), (6, true), (7, true), (8, true), (9, true)] [] [.slice o_x0_c x0_c.length c_x0_c, .slice o_x0_c x0_c.length c_x0_c, .pointer (some ad2), vI p2] [(1, pB b1 0), (3, .slice e1 y1.length q1), (5, pB b2 0), (6, vI p2), (10, .slice o_x0_t x0_t.length c_x0_t), (11, vI (x0_t.length : Int)), (12, vI y2)] [.cell ⟨b1, 1, none⟩ (.slice o_x0_c x0_c.length c_x0_c), .cell ⟨b1, 1, none⟩ (.slice o_x0_c x0_c.length c_x0_c), .prop ((x0_c.length : Int) ≠ 0), .prop (o_x0_c = some ad2), .prop (0 ≤ (Int.tmod y2 (x0_c.length : Int)) ∧ (Int.tmod y2 (x0_c.length : Int)) < (x0_c.length : Nat)), .cell ((ad2.add (Int.toNat (Int.tmod y2 (x0_c.length : Int)) * 1)).add 0) (vI p2)] [] hf13 (by kernel_rfl) (.cell (hS6.box (i := 2) rfl (j := 1) rfl) (.cell (hS6.box (i := 2) rfl (j := 1) rfl) (.prop (nz_spec hd1) (.prop ho2 (.prop hb4 (.cell (hS6.cell (hk2 0 _ rfl)) .nil)))))) .nil fun a13 hf14 => ?_
    refine n_then ?_
    have hf15 := Fr.keep (ks := [1, 3, 5, 6, 10, 11, 12]) (r := [(1, pB b1 0), (3, .slice e1 y1.length q1), (5, pB b2 0), (6, vI p2), (10, .slice o_x0_t x0_t.length c_x0_t), (11, vI (x0_t.length : Int)), (12, vI y2)]) hf14 (by kernel_rfl)
    exact ⟨z1, p2, (Zone.le_refl _), hf15, hS6, hr6⟩
   ·have hr7 := cond_f hb3 hr3
    refine w_skip (by kernel_rfl) ?_
    refine n_then ?_
    have hf16 := Fr.keep (ks := [1, 3, 5, 6, 10, 11, 12]) (r := [(1, pB b1 0), (3, .slice e1 y1.length q1), (5, pB b2 0), (6, vI 0), (10, .slice o_x0_t x0_t.length c_x0_t), (11, vI (x0_t.length : Int)), (12, vI y2)]) hf13 (by kernel_rfl)
    exact ⟨z1, 0, (Zone.le_refl _), hf16, hS5, hr7⟩
  ·rintro a14 ww5 ⟨z2, y3, k3, hf17, hS7, hr8⟩
   refine w_sq [vI p1.hi, vI p1.lo] [(1, pB b1 0), (3, .slice e1 y1.length q1), (5, pB b2 0), (6, vI y3), (7, vI (w64 ((w64 (p1.hi - p1.lo)) + (1 : Int)))), (10, .slice o_x0_t x0_t.length c_x0_t), (11, vI (x0_t.length : Int)), (12, vI y2)] [.cell ⟨b2, 2, none⟩ (vI p1.hi), .cell ⟨b2, 1, none⟩ (vI p1.lo)] hf17 (by kernel_rfl) (.cell (hS7.box (i := 0) rfl (j := 2) rfl) (.cell (hS7.box (i := 0) rfl (j := 1) rfl) .nil)) fun a15 hf18 => ?_
   have hS8 := hS7.drew
   refine w_regD (by kernel_rfl) [(0, true), (1, true), (2, true), (3, true), (4, true), (5, true), (6, true), (7, true), (8, true), (9, true), (10, true), (11, false), (12, false), (13, true)] [11, 12] (fun x => x = ww5.drew) (by kernel_rfl) rfl ?_
   obtain ⟨u2, hd2, hr9⟩ := bind_some hr8
   obtain ⟨u3, hd3, hr10⟩ := bind_some hr9
   refine p_qE 11 [vI p1.lo] [(1, pB b1 0), (10, .slice o_x0_t x0_t.length c_x0_t), (11, vI (x0_t.length : Int)), (12, vI y2), (36, .slice e1 y1.length q1), (46, vI (w64 (p1.lo + (Int.tmod (w64 ((Int.tmod y3 (w64 ((w64 (p1.hi - p1.lo)) + (1 : Int)))) + (w64 ((w64 (p1.hi - p1.lo)) + (1 : Int))))) (w64 ((w64 (p1.hi - p1.lo)) + (1 : Int)))))))] [.cell ⟨b2, 1, none⟩ (vI p1.lo), .prop ((w64 ((w64 (p1.hi - p1.lo)) + (1 : Int))) ≠ 0), .prop ((w64 ((w64 (p1.hi - p1.lo)) + (1 : Int))) ≠ 0)] [] hf18 (by kernel_rfl) (.cell (hS8.box (i := 0) rfl (j := 1) rfl) (.prop (nz_spec hd2) (.prop (nz_spec hd3) .nil))) .nil fun a16 hf19 => ?_
   refine p_box (i := 11) (d := (some 47)) (cs := [vI (w64 (p1.lo + (Int.tmod (w64 ((Int.tmod y3 (w64 ((w64 (p1.hi - p1.lo)) + (1 : Int)))) + (w64 ((w64 (p1.hi - p1.lo)) + (1 : Int))))) (w64 ((w64 (p1.hi - p1.lo)) + (1 : Int))))))]) (T := 3) (v := fun b3 => .slice (some ⟨b3, 0, none⟩) 1 1) hS8 hf19 (fun b => by kernel_rfl) fun b3 ww6 a17 hS9 hf20 => ⟨fun e => absurd e (by decide), ?_⟩
   have hS10 := hS9.ownBox (T := Ty.int) (E := 3) (n := 1) (xs := [(w64 (p1.lo + (Int.tmod (w64 ((Int.tmod y3 (w64 ((w64 (p1.hi - p1.lo)) + (1 : Int)))) + (w64 ((w64 (p1.hi - p1.lo)) + (1 : Int))))) (w64 ((w64 (p1.hi - p1.lo)) + (1 : Int))))))]) (i := 0) rfl (Rows.cons (c := [vI (w64 (p1.lo + (Int.tmod (w64 ((Int.tmod y3 (w64 ((w64 (p1.hi - p1.lo)) + (1 : Int)))) + (w64 ((w64 (p1.hi - p1.lo)) + (1 : Int))))) (w64 ((w64 (p1.hi - p1.lo)) + (1 : Int))))))]) rfl rfl) rfl (by decide)
   obtain ⟨d1, hd4, hr11⟩ := bind_some hr10
   refine p_append (T := Ty.int) (i := 12) (j := 2) (d := some 48) (o2 := (some ⟨b3, 0, none⟩)) (c2 := 1) (ys := ([(w64 (p1.lo + (Int.tmod (w64 ((Int.tmod y3 (w64 ((w64 (p1.hi - p1.lo)) + (1 : Int)))) + (w64 ((w64 (p1.hi - p1.lo)) + (1 : Int))))) (w64 ((w64 (p1.hi - p1.lo)) + (1 : Int))))))])) el25 hS10 hf20 rfl (by kernel_rfl) (hS10.ownSrc (j := 0) rfl) hd4 fun e2 q2 ww7 a18 hS11 hf21 => ⟨fun e => absurd e (by decide), ?_⟩
   refine p_qP 1 [] [(1, pB b1 0), (3, .slice e2 d1.length q2), (10, .slice o_x0_t x0_t.length c_x0_t), (11, vI (x0_t.length : Int)), (12, vI y2)] [] hf21 (by kernel_rfl) (fun _ => .nil) fun a19 hf22 => ?_
   refine p_done (by kernel_rfl) ?_
   refine n_block ?_
   refine n_then ?_
   refine w_q [] [(1, pB b1 0), (3, .slice e2 d1.length q2), (10, .slice o_x0_t x0_t.length c_x0_t), (11, vI (x0_t.length : Int)), (12, vI (w64 (y2 + (1 : Int))))] [] hf22 (by kernel_rfl) .nil fun a20 hf23 => ?_
   refine n_then ?_
   have hf24 := Fr.keep (ks := [1, 3, 10, 11, 12]) (r := [(1, pB b1 0), (3, .slice e2 d1.length q2), (10, .slice o_x0_t x0_t.length c_x0_t), (11, vI (x0_t.length : Int)), (12, vI (w64 (y2 + (1 : Int))))]) hf23 (by kernel_rfl)
   exact ⟨n1, Nat.lt_succ_self n1, z2, d1, (w64 (y2 + (1 : Int))), e2, q2, (Zone.le_trans k2 k3), hf24, (St.drop 2 hS11), hr11⟩
 ·have hr12 := cond_f hb1 hr1
  refine w_exit (id := 0) (by kernel_rfl) ?_
  refine x_then ?_
  refine x_then ?_
  refine x_block ?_
  refine n_then ?_
  refine w_sq [] [(2, .slice e1 y1.length q1)] [] hf7 (by kernel_rfl) .nil fun a21 hf25 => ?_
  refine w_ret (by kernel_rfl) ?_
  obtain ⟨z3, k4, hS12, hx1⟩ := hS3.share (j := 0) rfl
  refine p_ret (os := []) (v := .slice e1 y1.length q1) (obs := []) hf25 (by kernel_rfl) .nil ?_
  obtain rfl := some_eq hr12
  exact ⟨_, rfl, z3, e1, q1, (Zone.le_trans k2 k4), rfl, (St.drop 2 hS12), hx1⟩
def F27 (fuel : Nat) (x0 : List Pt) (x1 : Int) : Option (Int × Int × Int) :=
  ((F67 fuel x0).bind fun r1 => (cond (r1 != (0 : Int)) (some (0, 0, r1)) ((F81 fuel x0 x1 x1).bind fun r2 => (cond (!r2) (some (0, 0, 4)) ((F88 fuel x0 x1).bind fun r3 => (some (r3.1, r3.2, 0)))))))
set_option maxRecDepth 100000 in
theorem f27_ok (fuel : Nat) (x0 : List Pt) (x1 : Int) (r : Int × Int × Int) (hr : F27 fuel x0 x1 = some r) (h : Zone) (L : List Atom) (w : World) (hS : St h L w) (o_x0 : Option Addr) (c_x0 : Nat) (hx_x0 : SliceR PtT h o_x0 c_x0 x0) :
    Calls Try.prog 27 #[.agg #[.slice o_x0 x0.length c_x0], vI x1] w fun e w' => ∃ v, e = .returned v ∧ (∃ h', Zone.le h h' ∧ v = .tuple #[.agg #[vI r.1, vI r.2.1], vI r.2.2] ∧ St h' L w') := by
 refine calls_intro (N := 23) Try.func27 (by kernel_rfl) fun a hf => ?_
 refine w_sr (by kernel_rfl) ?_
 refine p_box (i := 0) (d := (some 2)) (cs := [.slice o_x0 x0.length c_x0]) (T := 24) (v := fun b1 => pB b1 0) hS hf (fun b => by kernel_rfl) fun b1 ww1 a1 hS1 hf1 => ⟨fun _ => trivial, ?_⟩
 refine p_box (i := 1) (d := (some 4)) (cs := [vI 0, vI 0]) (T := 41) (v := fun b2 => pB b2 0) hS1 hf1 (fun b => by kernel_rfl) fun b2 ww2 a2 hS2 hf2 => ⟨fun _ => trivial, ?_⟩
 refine p_qt [] [(1, vI x1), (2, pB b1 0), (4, pB b2 0)] [] hf2 (by kernel_rfl) .nil fun a3 hf3 => ?_
 refine w_seq (by kernel_rfl) ?_
 refine w_sr (by kernel_rfl) ?_
 refine p_qn 1 [.slice o_x0 x0.length c_x0] [(1, vI x1), (2, pB b1 0), (4, pB b2 0), (7, .agg #[.slice o_x0 x0.length c_x0])] [.cell ⟨b1, 0, none⟩ (.slice o_x0 x0.length c_x0)] hf3 (by kernel_rfl) (.cell (hS2.box (i := 1) rfl (j := 0) rfl) .nil) fun a4 hf4 => ?_
 obtain ⟨r1, hd1, hr1⟩ := bind_some hr
 refine p_call (i := 1) (d := some 8) (f := 67) (args := #[.agg #[.slice o_x0 x0.length c_x0]]) hf4 (by kernel_rfl) (f67_ok fuel x0 r1 hd1 h _ _ hS2 o_x0 c_x0 hx_x0) ?_
 rintro v1 ww3 a5 ⟨z1, k1, rfl, hS3⟩ hf5
 refine ⟨fun _ => trivial, ?_⟩
 refine p_qt [] [(1, vI x1), (2, pB b1 0), (4, pB b2 0), (6, vI r1)] [] hf5 (by kernel_rfl) .nil fun a6 hf6 => ?_
 refine w_sq [] [(1, vI x1), (2, pB b1 0), (4, pB b2 0), (6, vI r1), (10, .bool (r1 != (0 : Int)))] [] hf6 (by kernel_rfl) .nil fun a7 hf7 => ?_
 refine w_if hf7 (b := (r1 != (0 : Int))) (by kernel_rfl) (fun hb1 => ?_) (fun hb1 => ?_)
 ·have hr2 := cond_t hb1 hr1
  refine w_sr (by kernel_rfl) ?_
  refine p_qn 2 [] [(4, pB b2 0), (11, .agg #[vI 0, vI 0]), (12, vI r1)] [] hf7 (by kernel_rfl) .nil fun a8 hf8 => ?_
  refine p_store_eq (i := 2) (j := 0) (b := b2) (off := 0) (vs := [vI 0, vI 0]) (cs' := [vI 0, vI 0]) hS3 hf8 rfl (by kernel_rfl) (by kernel_rfl) rfl fun ww4 a9 hS4 hf9 => ⟨fun _ => trivial, ?_⟩
  refine p_qt [] [(4, pB b2 0), (5, vI r1)] [] hf9 (by kernel_rfl) .nil fun a10 hf10 => ?_
  refine w_ret (by kernel_rfl) ?_
  refine r_then ?_
  refine p_ret (os := [vI 0, vI 0]) (v := .tuple #[.agg #[vI 0, vI 0], vI r1]) (obs := [.cell ⟨b2, 0, none⟩ (vI 0), .cell ⟨b2, 1, none⟩ (vI 0)]) hf10 (by kernel_rfl) (.cell (hS4.box (i := 0) rfl (j := 0) rfl) (.cell (hS4.box (i := 0) rfl (j := 1) rfl) .nil)) ?_
  obtain rfl := some_eq hr2
  exact ⟨_, rfl, z1, k1, rfl, (St.drop 2 hS4)⟩
 ·have hr3 := cond_f hb1 hr1
  refine w_skip (by kernel_rfl) ?_
  refine n_then ?_
  refine w_seq (by kernel_rfl) ?_
  refine w_sr (by kernel_rfl) ?_
  refine p_qn 4 [.slice o_x0 x0.length c_x0] [(1, vI x1), (2, pB b1 0), (4, pB b2 0), (13, .agg #[.slice o_x0 x0.length c_x0]), (16, .agg #[vI x1, vI x1])] [.cell ⟨b1, 0, none⟩ (.slice o_x0 x0.length c_x0)] hf7 (by kernel_rfl) (.cell (hS3.box (i := 1) rfl (j := 0) rfl) .nil) fun a11 hf11 => ?_
  obtain ⟨r2, hd2, hr4⟩ := bind_some hr3
  refine p_call (i := 4) (d := some 17) (f := 81) (args := #[.agg #[.slice o_x0 x0.length c_x0], .agg #[vI x1, vI x1]]) hf11 (by kernel_rfl) (f81_ok fuel x0 x1 x1 r2 hd2 z1 _ _ hS3 o_x0 c_x0 (SliceR.mono k1 hx_x0)) ?_
  rintro v2 ww5 a12 ⟨z2, k2, rfl, hS5⟩ hf12
  refine ⟨fun _ => trivial, ?_⟩
  refine p_qt [] [(1, vI x1), (2, pB b1 0), (4, pB b2 0), (18, .bool (!r2))] [] hf12 (by kernel_rfl) .nil fun a13 hf13 => ?_
  refine w_if hf13 (b := (!r2)) (by kernel_rfl) (fun hb2 => ?_) (fun hb2 => ?_)
  ·have hr5 := cond_t hb2 hr4
   refine w_sr (by kernel_rfl) ?_
   refine p_qn 1 [] [(4, pB b2 0), (19, .agg #[vI 0, vI 0])] [] hf13 (by kernel_rfl) .nil fun a14 hf14 => ?_
   refine p_store_eq (i := 1) (j := 0) (b := b2) (off := 0) (vs := [vI 0, vI 0]) (cs' := [vI 0, vI 0]) hS5 hf14 rfl (by kernel_rfl) (by kernel_rfl) rfl fun ww6 a15 hS6 hf15 => ⟨fun _ => trivial, ?_⟩
   refine p_qt [] [(4, pB b2 0), (5, vI 4)] [] hf15 (by kernel_rfl) .nil fun a16 hf16 => ?_
   refine w_ret (by kernel_rfl) ?_
   refine r_then ?_
   refine p_ret (os := [vI 0, vI 0]) (v := .tuple #[.agg #[vI 0, vI 0], vI 4]) (obs := [.cell ⟨b2, 0, none⟩ (vI 0), .cell ⟨b2, 1, none⟩ (vI 0)]) hf16 (by kernel_rfl) (.cell (hS6.box (i := 0) rfl (j := 0) rfl) (.cell (hS6.box (i := 0) rfl (j := 1) rfl) .nil)) ?_
   obtain rfl := some_eq hr5
   exact ⟨_, rfl, z2, (Zone.le_trans k1 k2), rfl, (St.drop 2 hS6)⟩
  ·have hr6 := cond_f hb2 hr4
   refine w_skip (by kernel_rfl) ?_
   refine n_then ?_
   refine w_sr (by kernel_rfl) ?_
   refine p_qn 2 [.slice o_x0 x0.length c_x0] [(4, pB b2 0), (20, .agg #[.slice o_x0 x0.length c_x0]), (21, vI x1)] [.cell ⟨b1, 0, none⟩ (.slice o_x0 x0.length c_x0)] hf13 (by kernel_rfl) (.cell (hS5.box (i := 1) rfl (j := 0) rfl) .nil) fun a17 hf17 => ?_
   obtain ⟨r3, hd3, hr7⟩ := bind_some hr6
   refine p_call (i := 2) (d := some 22) (f := 88) (args := #[.agg #[.slice o_x0 x0.length c_x0], vI x1]) hf17 (by kernel_rfl) (f88_ok fuel x0 x1 r3 hd3 z2 _ _ hS5 o_x0 c_x0 (SliceR.mono (Zone.le_trans k1 k2) hx_x0)) ?_
   rintro v3 ww7 a18 ⟨z3, k3, rfl, hS7⟩ hf18
   refine ⟨fun _ => trivial, ?_⟩
   refine p_store_eq (i := 3) (j := 0) (b := b2) (off := 0) (vs := [vI r3.1, vI r3.2]) (cs' := [vI r3.1, vI r3.2]) hS7 hf18 rfl (by kernel_rfl) (by kernel_rfl) rfl fun ww8 a19 hS8 hf19 => ⟨fun _ => trivial, ?_⟩
   refine p_qt [] [(4, pB b2 0), (5, vI 0)] [] hf19 (by kernel_rfl) .nil fun a20 hf20 => ?_
   refine w_ret (by kernel_rfl) ?_
   refine p_ret (os := [vI r3.1, vI r3.2]) (v := .tuple #[.agg #[vI r3.1, vI r3.2], vI 0]) (obs := [.cell ⟨b2, 0, none⟩ (vI r3.1), .cell ⟨b2, 1, none⟩ (vI r3.2)]) hf20 (by kernel_rfl) (.cell (hS8.box (i := 0) rfl (j := 0) rfl) (.cell (hS8.box (i := 0) rfl (j := 1) rfl) .nil)) ?_
   obtain rfl := some_eq hr7
   exact ⟨_, rfl, z3, (Zone.le_trans (Zone.le_trans k1 k2) k3), rfl, (St.drop 2 hS8)⟩
def F100_j1 (y1 : Int) : Option (Int) :=
  (some (y1))
def F100 (fuel : Nat) (x0 : Int) (x1 : Int) : Option (Int) :=
  ((nz x1).bind fun _ => ((nz x1).bind fun _ => (cond (decide ((Int.tmod x0 x1) < (0 : Int))) (F100_j1 (w64 ((w64 (Int.tdiv x0 x1)) - (1 : Int)))) (F100_j1 (w64 (Int.tdiv x0 x1))))))
set_option maxRecDepth 100000 in
theorem f100_ok (fuel : Nat) (x0 : Int) (x1 : Int) (r : Int) (hr : F100 fuel x0 x1 = some r) (h : Zone) (L : List Atom) (w : World) (hS : St h L w)  :
    Calls Try.prog 100 #[vI x0, vI x1] w fun e w' => ∃ v, e = .returned v ∧ (∃ h', Zone.le h h' ∧ v = vI r ∧ St h' L w') := by
 refine calls_intro (N := 16) Try.func100 (by kernel_rfl) fun a hf => ?_
 refine w_sq [] [(0, vI x0), (1, vI x1)] [] hf (by kernel_rfl) .nil fun a1 hf1 => ?_
 obtain ⟨u1, hd1, hr1⟩ := bind_some hr
 refine w_sq [] [(0, vI x0), (1, vI x1), (5, vI (w64 (Int.tdiv x0 x1)))] [.prop (x1 ≠ 0)] hf1 (by kernel_rfl) (.prop (nz_spec hd1) .nil) fun a2 hf2 => ?_
 refine w_mid (by kernel_rfl) (fun a w => ∃ z1 : Zone, ∃ y1 : Int, Zone.le h z1 ∧ Fr a 16 [(5, vI y1)] ∧ St z1 (L) w ∧ (F100_j1 y1) = some r) ?_ ?_
 ·skip
  obtain ⟨u2, hd2, hr2⟩ := bind_some hr1
  refine w_sq [] [(5, vI (w64 (Int.tdiv x0 x1))), (12, .bool (decide ((Int.tmod x0 x1) < (0 : Int))))] [.prop (x1 ≠ 0)] hf2 (by kernel_rfl) (.prop (nz_spec hd2) .nil) fun a3 hf3 => ?_
  refine w_if hf3 (b := (decide ((Int.tmod x0 x1) < (0 : Int)))) (by kernel_rfl) (fun hb1 => ?_) (fun hb1 => ?_)
  ·have hr3 := cond_t hb1 hr2
   refine w_q [] [(5, vI (w64 ((w64 (Int.tdiv x0 x1)) - (1 : Int))))] [] hf3 (by kernel_rfl) .nil fun a4 hf4 => ?_
   refine n_then ?_
   have hf5 := Fr.keep (ks := [5]) (r := [(5, vI (w64 ((w64 (Int.tdiv x0 x1)) - (1 : Int))))]) hf4 (by kernel_rfl)
   exact ⟨h, (w64 ((w64 (Int.tdiv x0 x1)) - (1 : Int))), (Zone.le_refl _), hf5, hS, hr3⟩
  ·have hr4 := cond_f hb1 hr2
   refine w_skip (by kernel_rfl) ?_
   refine n_then ?_
   have hf6 := Fr.keep (ks := [5]) (r := [(5, vI (w64 (Int.tdiv x0 x1)))]) hf3 (by kernel_rfl)
   exact ⟨h, (w64 (Int.tdiv x0 x1)), (Zone.le_refl _), hf6, hS, hr4⟩
 ·rintro a5 ww1 ⟨z1, y1, k1, hf7, hS1, hr5⟩
  refine w_sq [] [(4, vI y1)] [] hf7 (by kernel_rfl) .nil fun a6 hf8 => ?_
  refine w_ret (by kernel_rfl) ?_
  refine p_ret (os := []) (v := vI y1) (obs := []) hf8 (by kernel_rfl) .nil ?_
  obtain rfl := some_eq hr5
  exact ⟨_, rfl, z1, k1, rfl, hS1⟩
def F30_j1 (fuel : Nat) (k1 : Int → Option (Int × Int × Int)) (x0 : List Int) (x1 : List Int) (x2 : Int) (y1 : Int) (y2 : Bool) : Option (Int × Int × Int) :=
  (cond y2 (k1 (w64 (y1 + (1 : Int)))) ((getI x0 y1).bind fun p1 => (cond (p1 == x2) ((getI x1 y1).bind fun p2 => (some (p2, 0, 1))) ((getI x0 (w64 (y1 + (1 : Int)))).bind fun p3 => ((getI x0 y1).bind fun p4 => ((getI x1 (w64 (y1 + (1 : Int)))).bind fun p5 => ((getI x1 y1).bind fun p6 => ((getI x0 y1).bind fun p7 => ((F100 fuel (w64 ((w64 (p5 - p6)) * (w64 (x2 - p7)))) (w64 (p3 - p4))).bind fun r1 => ((getI x1 y1).bind fun p8 => (some ((w64 (p8 + r1)), (w64 ((w64 ((w64 (p5 - p6)) * (w64 (x2 - p7)))) - (w64 (r1 * (w64 (p3 - p4)))))), (w64 (p3 - p4))))))))))))))
def F30_l1 (fuel : Nat) (x0 : List Int) (x1 : List Int) (x2 : Int) : Nat → Int → Option (Int × Int × Int)
  | 0, _ => none
  | n1 + 1, y1 =>
    let k1 : Int → Option (Int × Int × Int) := F30_l1 fuel x0 x1 x2 n1
    (cond (decide ((w64 (y1 + (1 : Int))) < (x0.length : Int))) ((getI x0 (w64 (y1 + (1 : Int)))).bind fun p9 => (F30_j1 fuel k1 x0 x1 x2 y1 (decide (p9 ≤ x2)))) (F30_j1 fuel k1 x0 x1 x2 y1 false))
def F30 (fuel : Nat) (x0 : List Int) (x1 : List Int) (x2 : Int) : Option (Int × Int × Int) :=
  (F30_l1 fuel x0 x1 x2 fuel 0)
set_option maxRecDepth 100000 in
theorem f30_ok (fuel : Nat) (x0 : List Int) (x1 : List Int) (x2 : Int) (r : Int × Int × Int) (hr : F30 fuel x0 x1 x2 = some r) (h : Zone) (L : List Atom) (w : World) (hS : St h L w) (o_x0 : Option Addr) (c_x0 : Nat) (hx_x0 : SliceR Ty.int h o_x0 c_x0 x0) (o_x1 : Option Addr) (c_x1 : Nat) (hx_x1 : SliceR Ty.int h o_x1 c_x1 x1) :
    Calls Try.prog 30 #[.slice o_x0 x0.length c_x0, .slice o_x1 x1.length c_x1, vI x2] w fun e w' => ∃ v, e = .returned v ∧ (∃ h', Zone.le h h' ∧ v = .agg #[vI r.1, vI r.2.1, vI r.2.2] ∧ St h' L w') := by
 refine calls_intro (N := 81) Try.func30 (by kernel_rfl) fun a hf => ?_
 refine w_sr (by kernel_rfl) ?_
 refine p_box (i := 0) (d := (some 6)) (cs := [vI 0, vI 0, vI 0]) (T := 56) (v := fun b1 => pB b1 0) hS hf (fun b => by kernel_rfl) fun b1 ww1 a1 hS1 hf1 => ⟨fun _ => trivial, ?_⟩
 refine p_dt (by kernel_rfl) ?_
 refine w_sq [] [(0, .slice o_x0 x0.length c_x0), (1, .slice o_x1 x1.length c_x1), (2, vI x2), (6, pB b1 0), (7, vI 0)] [] hf1 (by kernel_rfl) .nil fun a2 hf2 => ?_
 refine w_seq (by kernel_rfl) ?_
 refine w_block (id := 0) (by kernel_rfl) ?_
 have hf3 := Fr.keep (ks := [0, 1, 2, 6, 7]) (r := [(0, .slice o_x0 x0.length c_x0), (1, .slice o_x1 x1.length c_x1), (2, vI x2), (6, pB b1 0), (7, vI 0)]) hf2 (by kernel_rfl)
 refine w_loop (by kernel_rfl) (fun n a w => ∃ z1 : Zone, ∃ y1 : Int, Zone.le h z1 ∧ Fr a 81 [(0, .slice o_x0 x0.length c_x0), (1, .slice o_x1 x1.length c_x1), (2, vI x2), (6, pB b1 0), (7, vI y1)] ∧ St z1 (box b1 [vI 0, vI 0, vI 0] 56 :: L) w ∧ (F30_l1 fuel x0 x1 x2 n y1) = some r) fuel ⟨h, 0, (Zone.le_refl _), hf3, hS1, hr⟩ ?_
 rintro n2 a3 ww2 ⟨z1, y1, k2, hf4, hS2, hr1⟩
 cases n2 with
 | zero => cases hr1
 | succ n1 =>
 refine w_seq (by kernel_rfl) ?_
 refine w_mid (by kernel_rfl) (fun a w => ∃ z2 : Zone, ∃ y2 : Bool, Zone.le z1 z2 ∧ Fr a 81 [(0, .slice o_x0 x0.length c_x0), (1, .slice o_x1 x1.length c_x1), (2, vI x2), (6, pB b1 0), (7, vI y1), (24, .bool y2)] ∧ St z2 (box b1 [vI 0, vI 0, vI 0] 56 :: L) w ∧ (F30_j1 fuel (F30_l1 fuel x0 x1 x2 n1) x0 x1 x2 y1 y2) = some r) ?_ ?_
 ·skip
  refine w_reg (by kernel_rfl) ?_
  refine p_qn 6 [] [(0, .slice o_x0 x0.length c_x0), (1, .slice o_x1 x1.length c_x1), (2, vI x2), (6, pB b1 0), (7, vI y1), (16, .bool (decide ((w64 (y1 + (1 : Int))) < (x0.length : Int))))] [] hf4 (by kernel_rfl) .nil fun a4 hf5 => ?_
  rcases Bool.eq_false_or_eq_true (decide ((w64 (y1 + (1 : Int))) < (x0.length : Int))) with hb1 | hb1
  ·have hr2 := cond_t hb1 hr1
   have hf6 := Fr.conv hf5 (congrArg (fun z => ([(0, .slice o_x0 x0.length c_x0), (1, .slice o_x1 x1.length c_x1), (2, vI x2), (6, pB b1 0), (7, vI y1), (16, .bool z)] : FL)) hb1)
   obtain ⟨p9, hp795, hr3⟩ := bind_some hr2
   obtain ⟨ad1, ho1, hb2, cc1, hc1, hk1⟩ := SliceR.getI (SliceR.mono k2 hx_x0) hp795
   subst hc1
   refine p_qt [.pointer (some ad1), vI p9] [(0, .slice o_x0 x0.length c_x0), (1, .slice o_x1 x1.length c_x1), (2, vI x2), (6, pB b1 0), (7, vI y1), (17, .slice o_x0 x0.length c_x0), (18, vI y1), (19, vI (w64 (y1 + (1 : Int)))), (20, .pointer (some (ad1.add (Int.toNat (w64 (y1 + (1 : Int))) * 1)))), (21, vI p9), (22, vI x2), (23, .bool (decide (p9 ≤ x2))), (24, .bool (decide (p9 ≤ x2)))] [.prop (o_x0 = some ad1), .prop (0 ≤ (w64 (y1 + (1 : Int))) ∧ (w64 (y1 + (1 : Int))) < (x0.length : Nat)), .cell ((ad1.add (Int.toNat (w64 (y1 + (1 : Int))) * 1)).add 0) (vI p9)] hf6 (by kernel_rfl) (.prop ho1 (.prop hb2 (.cell (hS2.cell (hk1 0 _ rfl)) .nil))) fun a5 hf7 => ?_
   have hf8 := Fr.keep (ks := [0, 1, 2, 6, 7, 24]) (r := [(0, .slice o_x0 x0.length c_x0), (1, .slice o_x1 x1.length c_x1), (2, vI x2), (6, pB b1 0), (7, vI y1), (24, .bool (decide (p9 ≤ x2)))]) hf7 (by kernel_rfl)
   exact ⟨z1, (decide (p9 ≤ x2)), (Zone.le_refl _), hf8, hS2, hr3⟩
  ·have hr4 := cond_f hb1 hr1
   have hf9 := Fr.conv hf5 (congrArg (fun z => ([(0, .slice o_x0 x0.length c_x0), (1, .slice o_x1 x1.length c_x1), (2, vI x2), (6, pB b1 0), (7, vI y1), (16, .bool z)] : FL)) hb1)
   refine p_qt [] [(0, .slice o_x0 x0.length c_x0), (1, .slice o_x1 x1.length c_x1), (2, vI x2), (6, pB b1 0), (7, vI y1), (17, undef), (18, undef), (19, undef), (20, undef), (21, undef), (22, undef), (23, undef), (24, .bool false)] [] hf9 (by kernel_rfl) .nil fun a6 hf10 => ?_
   have hf11 := Fr.keep (ks := [0, 1, 2, 6, 7, 24]) (r := [(0, .slice o_x0 x0.length c_x0), (1, .slice o_x1 x1.length c_x1), (2, vI x2), (6, pB b1 0), (7, vI y1), (24, .bool false)]) hf10 (by kernel_rfl)
   exact ⟨z1, false, (Zone.le_refl _), hf11, hS2, hr4⟩
 ·rintro a7 ww3 ⟨z2, y2, k3, hf12, hS3, hr5⟩
  refine w_if hf12 (b := y2) (by kernel_rfl) (fun hb3 => ?_) (fun hb3 => ?_)
  ·have hr6 := cond_t hb3 hr5
   refine w_skip (by kernel_rfl) ?_
   refine n_then ?_
   refine w_block (id := 1) (by kernel_rfl) ?_
   refine w_q [] [(0, .slice o_x0 x0.length c_x0), (1, .slice o_x1 x1.length c_x1), (2, vI x2), (6, pB b1 0), (7, vI (w64 (y1 + (1 : Int))))] [] hf12 (by kernel_rfl) .nil fun a8 hf13 => ?_
   refine n_block ?_
   refine n_then ?_
   have hf14 := Fr.keep (ks := [0, 1, 2, 6, 7]) (r := [(0, .slice o_x0 x0.length c_x0), (1, .slice o_x1 x1.length c_x1), (2, vI x2), (6, pB b1 0), (7, vI (w64 (y1 + (1 : Int))))]) hf13 (by kernel_rfl)
   exact ⟨n1, Nat.lt_succ_self n1, z2, (w64 (y1 + (1 : Int))), (Zone.le_trans k2 k3), hf14, hS3, hr6⟩
  ·have hr7 := cond_f hb3 hr5
   refine w_exit (id := 0) (by kernel_rfl) ?_
   refine x_then ?_
   refine x_then ?_
   refine x_block ?_
   refine n_then ?_
   refine w_seq (by kernel_rfl) ?_
   obtain ⟨p1, hp847, hr8⟩ := bind_some hr7
   obtain ⟨ad2, ho2, hb4, cc2, hc2, hk2⟩ := SliceR.getI (SliceR.mono (Zone.le_trans k2 k3) hx_x0) hp847
   subst hc2
   refine w_sq [.pointer (some ad2), vI p1] [(0, .slice o_x0 x0.length c_x0), (1, .slice o_x1 x1.length c_x1), (2, vI x2), (6, pB b1 0), (7, vI y1), (32, .bool (p1 == x2))] [.prop (o_x0 = some ad2), .prop (0 ≤ y1 ∧ y1 < (x0.length : Nat)), .cell ((ad2.add (Int.toNat y1 * 1)).add 0) (vI p1)] hf12 (by kernel_rfl) (.prop ho2 (.prop hb4 (.cell (hS3.cell (hk2 0 _ rfl)) .nil))) fun a9 hf15 => ?_
   refine w_if hf15 (b := (p1 == x2)) (by kernel_rfl) (fun hb5 => ?_) (fun hb5 => ?_)
   ·have hr9 := cond_t hb5 hr8
    refine w_sr (by kernel_rfl) ?_
    obtain ⟨p2, hp861, hr10⟩ := bind_some hr9
    obtain ⟨ad3, ho3, hb6, cc3, hc3, hk3⟩ := SliceR.getI (SliceR.mono (Zone.le_trans k2 k3) hx_x1) hp861
    subst hc3
    refine p_qn 5 [.pointer (some ad3), vI p2] [(6, pB b1 0), (37, .agg #[vI p2, vI 0, vI 1])] [.prop (o_x1 = some ad3), .prop (0 ≤ y1 ∧ y1 < (x1.length : Nat)), .cell ((ad3.add (Int.toNat y1 * 1)).add 0) (vI p2)] hf15 (by kernel_rfl) (.prop ho3 (.prop hb6 (.cell (hS3.cell (hk3 0 _ rfl)) .nil))) fun a10 hf16 => ?_
    refine p_store_eq (i := 5) (j := 0) (b := b1) (off := 0) (vs := [vI p2, vI 0, vI 1]) (cs' := [vI p2, vI 0, vI 1]) hS3 hf16 rfl (by kernel_rfl) (by kernel_rfl) rfl fun ww4 a11 hS4 hf17 => ⟨fun _ => trivial, ?_⟩
    refine p_dt (by kernel_rfl) ?_
    refine w_ret (by kernel_rfl) ?_
    refine r_then ?_
    refine p_ret (os := [vI p2, vI 0, vI 1]) (v := .agg #[vI p2, vI 0, vI 1]) (obs := [.cell ⟨b1, 0, none⟩ (vI p2), .cell ⟨b1, 1, none⟩ (vI 0), .cell ⟨b1, 2, none⟩ (vI 1)]) hf17 (by kernel_rfl) (.cell (hS4.box (i := 0) rfl (j := 0) rfl) (.cell (hS4.box (i := 0) rfl (j := 1) rfl) (.cell (hS4.box (i := 0) rfl (j := 2) rfl) .nil))) ?_
    obtain rfl := some_eq hr10
    exact ⟨_, rfl, z2, (Zone.le_trans k2 k3), rfl, (St.drop 1 hS4)⟩
   ·have hr11 := cond_f hb5 hr8
    refine w_skip (by kernel_rfl) ?_
    refine n_then ?_
    have hS5 := hS3.drew
    obtain ⟨p3, hp877, hr12⟩ := bind_some hr11
    obtain ⟨ad4, ho4, hb7, cc4, hc4, hk4⟩ := SliceR.getI (SliceR.mono (Zone.le_trans k2 k3) hx_x0) hp877
    subst hc4
    obtain ⟨p4, hp886, hr13⟩ := bind_some hr12
    obtain ⟨ad5, ho5, hb8, cc5, hc5, hk5⟩ := SliceR.getI (SliceR.mono (Zone.le_trans k2 k3) hx_x0) hp886
    subst hc5
    refine w_sqD [(0, true), (1, true), (2, true), (3, true), (4, true), (5, true), (6, true), (7, true), (8, true), (9, true), (10, true)] [] [.pointer (some ad4), vI p3, .pointer (some ad5), vI p4] [(0, .slice o_x0 x0.length c_x0), (1, .slice o_x1 x1.length c_x1), (2, vI x2), (6, pB b1 0), (7, vI y1), (8, vI (w64 (p3 - p4)))] [.prop (o_x0 = some ad4), .prop (0 ≤ (w64 (y1 + (1 : Int))) ∧ (w64 (y1 + (1 : Int))) < (x0.length : Nat)), .cell ((ad4.add (Int.toNat (w64 (y1 + (1 : Int))) * 1)).add 0) (vI p3), .prop (o_x0 = some ad5), .prop (0 ≤ y1 ∧ y1 < (x0.length : Nat)), .cell ((ad5.add (Int.toNat y1 * 1)).add 0) (vI p4)] [] hf15 (by kernel_rfl) (.prop ho4 (.prop hb7 (.cell (hS5.cell (hk4 0 _ rfl)) (.prop ho5 (.prop hb8 (.cell (hS5.cell (hk5 0 _ rfl)) .nil)))))) .nil fun a12 hf18 => ?_
    have hS6 := hS5.drew
    obtain ⟨p5, hp898, hr14⟩ := bind_some hr13
    obtain ⟨ad6, ho6, hb9, cc6, hc6, hk6⟩ := SliceR.getI (SliceR.mono (Zone.le_trans k2 k3) hx_x1) hp898
    subst hc6
    obtain ⟨p6, hp907, hr15⟩ := bind_some hr14
    obtain ⟨ad7, ho7, hb10, cc7, hc7, hk7⟩ := SliceR.getI (SliceR.mono (Zone.le_trans k2 k3) hx_x1) hp907
    subst hc7
    obtain ⟨p7, hp916, hr16⟩ := bind_some hr15
    obtain ⟨ad8, ho8, hb11, cc8, hc8, hk8⟩ := SliceR.getI (SliceR.mono (Zone.le_trans k2 k3) hx_x0) hp916
    subst hc8
    refine w_sqD [(0, true), (1, true), (2, true), (3, true), (4, true), (5, true), (6, true), (7, true), (8, true), (9, true), (10, true), (11, true), (12, true), (13, true), (14, true), (15, true), (16, true), (17, true)] [] [.pointer (some ad6), vI p5, .pointer (some ad7), vI p6, .pointer (some ad8), vI p7] [(1, .slice o_x1 x1.length c_x1), (6, pB b1 0), (7, vI y1), (8, vI (w64 (p3 - p4))), (9, vI (w64 ((w64 (p5 - p6)) * (w64 (x2 - p7)))))] [.prop (o_x1 = some ad6), .prop (0 ≤ (w64 (y1 + (1 : Int))) ∧ (w64 (y1 + (1 : Int))) < (x1.length : Nat)), .cell ((ad6.add (Int.toNat (w64 (y1 + (1 : Int))) * 1)).add 0) (vI p5), .prop (o_x1 = some ad7), .prop (0 ≤ y1 ∧ y1 < (x1.length : Nat)), .cell ((ad7.add (Int.toNat y1 * 1)).add 0) (vI p6), .prop (o_x0 = some ad8), .prop (0 ≤ y1 ∧ y1 < (x0.length : Nat)), .cell ((ad8.add (Int.toNat y1 * 1)).add 0) (vI p7)] [] hf18 (by kernel_rfl) (.prop ho6 (.prop hb9 (.cell (hS6.cell (hk6 0 _ rfl)) (.prop ho7 (.prop hb10 (.cell (hS6.cell (hk7 0 _ rfl)) (.prop ho8 (.prop hb11 (.cell (hS6.cell (hk8 0 _ rfl)) .nil))))))))) .nil fun a13 hf19 => ?_
    refine w_sr (by kernel_rfl) ?_
    refine p_qn 2 [] [(1, .slice o_x1 x1.length c_x1), (6, pB b1 0), (7, vI y1), (8, vI (w64 (p3 - p4))), (9, vI (w64 ((w64 (p5 - p6)) * (w64 (x2 - p7))))), (65, vI (w64 ((w64 (p5 - p6)) * (w64 (x2 - p7))))), (66, vI (w64 (p3 - p4)))] [] hf19 (by kernel_rfl) .nil fun a14 hf20 => ?_
    obtain ⟨r1, hd1, hr17⟩ := bind_some hr16
    refine p_call (i := 2) (d := some 67) (f := 100) (args := #[vI (w64 ((w64 (p5 - p6)) * (w64 (x2 - p7)))), vI (w64 (p3 - p4))]) hf20 (by kernel_rfl) (f100_ok fuel (w64 ((w64 (p5 - p6)) * (w64 (x2 - p7)))) (w64 (p3 - p4)) r1 hd1 z2 _ _ hS6 ) ?_
    rintro v1 ww5 a15 ⟨z3, k4, rfl, hS7⟩ hf21
    refine ⟨fun _ => trivial, ?_⟩
    refine p_qt [] [(1, .slice o_x1 x1.length c_x1), (6, pB b1 0), (7, vI y1), (8, vI (w64 (p3 - p4))), (9, vI (w64 ((w64 (p5 - p6)) * (w64 (x2 - p7))))), (10, vI r1)] [] hf21 (by kernel_rfl) .nil fun a16 hf22 => ?_
    refine w_sr (by kernel_rfl) ?_
    obtain ⟨p8, hp946, hr18⟩ := bind_some hr17
    obtain ⟨ad9, ho9, hb12, cc9, hc9, hk9⟩ := SliceR.getI (SliceR.mono (Zone.le_trans (Zone.le_trans k2 k3) k4) hx_x1) hp946
    subst hc9
    refine p_qn 13 [.pointer (some ad9), vI p8] [(6, pB b1 0), (80, .agg #[vI (w64 (p8 + r1)), vI (w64 ((w64 ((w64 (p5 - p6)) * (w64 (x2 - p7)))) - (w64 (r1 * (w64 (p3 - p4)))))), vI (w64 (p3 - p4))])] [.prop (o_x1 = some ad9), .prop (0 ≤ y1 ∧ y1 < (x1.length : Nat)), .cell ((ad9.add (Int.toNat y1 * 1)).add 0) (vI p8)] hf22 (by kernel_rfl) (.prop ho9 (.prop hb12 (.cell (hS7.cell (hk9 0 _ rfl)) .nil))) fun a17 hf23 => ?_
    refine p_store_eq (i := 13) (j := 0) (b := b1) (off := 0) (vs := [vI (w64 (p8 + r1)), vI (w64 ((w64 ((w64 (p5 - p6)) * (w64 (x2 - p7)))) - (w64 (r1 * (w64 (p3 - p4)))))), vI (w64 (p3 - p4))]) (cs' := [vI (w64 (p8 + r1)), vI (w64 ((w64 ((w64 (p5 - p6)) * (w64 (x2 - p7)))) - (w64 (r1 * (w64 (p3 - p4)))))), vI (w64 (p3 - p4))]) hS7 hf23 rfl (by kernel_rfl) (by kernel_rfl) rfl fun ww6 a18 hS8 hf24 => ⟨fun _ => trivial, ?_⟩
    refine p_dt (by kernel_rfl) ?_
    refine w_ret (by kernel_rfl) ?_
    refine p_ret (os := [vI (w64 (p8 + r1)), vI (w64 ((w64 ((w64 (p5 - p6)) * (w64 (x2 - p7)))) - (w64 (r1 * (w64 (p3 - p4)))))), vI (w64 (p3 - p4))]) (v := .agg #[vI (w64 (p8 + r1)), vI (w64 ((w64 ((w64 (p5 - p6)) * (w64 (x2 - p7)))) - (w64 (r1 * (w64 (p3 - p4)))))), vI (w64 (p3 - p4))]) (obs := [.cell ⟨b1, 0, none⟩ (vI (w64 (p8 + r1))), .cell ⟨b1, 1, none⟩ (vI (w64 ((w64 ((w64 (p5 - p6)) * (w64 (x2 - p7)))) - (w64 (r1 * (w64 (p3 - p4))))))), .cell ⟨b1, 2, none⟩ (vI (w64 (p3 - p4)))]) hf24 (by kernel_rfl) (.cell (hS8.box (i := 0) rfl (j := 0) rfl) (.cell (hS8.box (i := 0) rfl (j := 1) rfl) (.cell (hS8.box (i := 0) rfl (j := 2) rfl) .nil))) ?_
    obtain rfl := some_eq hr18
    exact ⟨_, rfl, z3, (Zone.le_trans (Zone.le_trans k2 k3) k4), rfl, (St.drop 1 hS8)⟩
def F32_j1 (y1 : Bool) : Option (Bool) :=
  (some (y1))
def F32 (fuel : Nat) (x0_lo : Int) (x0_hi : Int) (x1_w : Int) (x1_n : Int) (x1_d : Int) : Option (Bool) :=
  (cond (decide (x0_lo ≤ x1_w)) (cond (decide (x1_w < x0_hi)) (F32_j1 true) (cond (x1_w == x0_hi) (F32_j1 (x1_n == (0 : Int))) (F32_j1 false))) (F32_j1 false))
set_option maxRecDepth 100000 in
theorem f32_ok (fuel : Nat) (x0_lo : Int) (x0_hi : Int) (x1_w : Int) (x1_n : Int) (x1_d : Int) (r : Bool) (hr : F32 fuel x0_lo x0_hi x1_w x1_n x1_d = some r) (h : Zone) (L : List Atom) (w : World) (hS : St h L w)  :
    Calls Try.prog 32 #[.agg #[vI x0_lo, vI x0_hi], .agg #[vI x1_w, vI x1_n, vI x1_d]] w fun e w' => ∃ v, e = .returned v ∧ (∃ h', Zone.le h h' ∧ v = .bool r ∧ St h' L w') := by
 refine calls_intro (N := 29) Try.func32 (by kernel_rfl) fun a hf => ?_
 refine w_sr (by kernel_rfl) ?_
 refine p_box (i := 0) (d := (some 2)) (cs := [vI x0_lo, vI x0_hi]) (T := 41) (v := fun b1 => pB b1 0) hS hf (fun b => by kernel_rfl) fun b1 ww1 a1 hS1 hf1 => ⟨fun _ => trivial, ?_⟩
 refine p_box (i := 1) (d := (some 3)) (cs := [vI x1_w, vI x1_n, vI x1_d]) (T := 56) (v := fun b2 => pB b2 0) hS1 hf1 (fun b => by kernel_rfl) fun b2 ww2 a2 hS2 hf2 => ⟨fun _ => trivial, ?_⟩
 refine p_qt [] [(2, pB b1 0), (3, pB b2 0)] [] hf2 (by kernel_rfl) .nil fun a3 hf3 => ?_
 refine w_mid (by kernel_rfl) (fun a w => ∃ z1 : Zone, ∃ y1 : Bool, Zone.le h z1 ∧ Fr a 29 [(4, .bool y1)] ∧ St z1 (box b2 [vI x1_w, vI x1_n, vI x1_d] 56 :: box b1 [vI x0_lo, vI x0_hi] 41 :: L) w ∧ (F32_j1 y1) = some r) ?_ ?_
 ·skip
  refine w_reg (by kernel_rfl) ?_
  refine p_qn 6 [vI x0_lo, vI x1_w] [(2, pB b1 0), (3, pB b2 0), (10, .bool (decide (x0_lo ≤ x1_w)))] [.cell ⟨b1, 0, none⟩ (vI x0_lo), .cell ⟨b2, 0, none⟩ (vI x1_w)] hf3 (by kernel_rfl) (.cell (hS2.box (i := 1) rfl (j := 0) rfl) (.cell (hS2.box (i := 0) rfl (j := 0) rfl) .nil)) fun a4 hf4 => ?_
  rcases Bool.eq_false_or_eq_true (decide (x0_lo ≤ x1_w)) with hb1 | hb1
  ·have hr1 := cond_t hb1 hr
   have hf5 := Fr.conv hf4 (congrArg (fun z => ([(2, pB b1 0), (3, pB b2 0), (10, .bool z)] : FL)) hb1)
   refine p_qn 6 [vI x1_w, vI x0_hi] [(2, pB b1 0), (3, pB b2 0), (10, .bool true), (16, .bool (decide (x1_w < x0_hi)))] [.cell ⟨b2, 0, none⟩ (vI x1_w), .cell ⟨b1, 1, none⟩ (vI x0_hi)] hf5 (by kernel_rfl) (.cell (hS2.box (i := 0) rfl (j := 0) rfl) (.cell (hS2.box (i := 1) rfl (j := 1) rfl) .nil)) fun a5 hf6 => ?_
   rcases Bool.eq_false_or_eq_true (decide (x1_w < x0_hi)) with hb2 | hb2
   ·have hr2 := cond_t hb2 hr1
    have hf7 := Fr.conv hf6 (congrArg (fun z => ([(2, pB b1 0), (3, pB b2 0), (10, .bool true), (16, .bool z)] : FL)) hb2)
    refine p_qt [] [(4, .bool true)] [] hf7 (by kernel_rfl) .nil fun a6 hf8 => ?_
    have hf9 := Fr.keep (ks := [4]) (r := [(4, .bool true)]) hf8 (by kernel_rfl)
    exact ⟨h, true, (Zone.le_refl _), hf9, hS2, hr2⟩
   ·have hr3 := cond_f hb2 hr1
    have hf10 := Fr.conv hf6 (congrArg (fun z => ([(2, pB b1 0), (3, pB b2 0), (10, .bool true), (16, .bool z)] : FL)) hb2)
    refine p_qn 6 [vI x1_w, vI x0_hi] [(3, pB b2 0), (10, .bool true), (16, .bool false), (22, .bool (x1_w == x0_hi))] [.cell ⟨b2, 0, none⟩ (vI x1_w), .cell ⟨b1, 1, none⟩ (vI x0_hi)] hf10 (by kernel_rfl) (.cell (hS2.box (i := 0) rfl (j := 0) rfl) (.cell (hS2.box (i := 1) rfl (j := 1) rfl) .nil)) fun a7 hf11 => ?_
    rcases Bool.eq_false_or_eq_true (x1_w == x0_hi) with hb3 | hb3
    ·have hr4 := cond_t hb3 hr3
     have hf12 := Fr.conv hf11 (congrArg (fun z => ([(3, pB b2 0), (10, .bool true), (16, .bool false), (22, .bool z)] : FL)) hb3)
     refine p_qt [vI x1_n] [(4, .bool (x1_n == (0 : Int)))] [.cell ⟨b2, 1, none⟩ (vI x1_n)] hf12 (by kernel_rfl) (.cell (hS2.box (i := 0) rfl (j := 1) rfl) .nil) fun a8 hf13 => ?_
     have hf14 := Fr.keep (ks := [4]) (r := [(4, .bool (x1_n == (0 : Int)))]) hf13 (by kernel_rfl)
     exact ⟨h, (x1_n == (0 : Int)), (Zone.le_refl _), hf14, hS2, hr4⟩
    ·have hr5 := cond_f hb3 hr3
     have hf15 := Fr.conv hf11 (congrArg (fun z => ([(3, pB b2 0), (10, .bool true), (16, .bool false), (22, .bool z)] : FL)) hb3)
     refine p_qt [] [(4, .bool false)] [] hf15 (by kernel_rfl) .nil fun a9 hf16 => ?_
     have hf17 := Fr.keep (ks := [4]) (r := [(4, .bool false)]) hf16 (by kernel_rfl)
     exact ⟨h, false, (Zone.le_refl _), hf17, hS2, hr5⟩
  ·have hr6 := cond_f hb1 hr
   have hf18 := Fr.conv hf4 (congrArg (fun z => ([(2, pB b1 0), (3, pB b2 0), (10, .bool z)] : FL)) hb1)
   refine p_qt [] [(4, .bool false)] [] hf18 (by kernel_rfl) .nil fun a10 hf19 => ?_
   have hf20 := Fr.keep (ks := [4]) (r := [(4, .bool false)]) hf19 (by kernel_rfl)
   exact ⟨h, false, (Zone.le_refl _), hf20, hS2, hr6⟩
 ·rintro a11 ww3 ⟨z1, y1, k1, hf21, hS3, hr7⟩
  refine w_ret (by kernel_rfl) ?_
  refine p_ret (os := []) (v := .bool y1) (obs := []) hf21 (by kernel_rfl) .nil ?_
  obtain rfl := some_eq hr7
  exact ⟨_, rfl, z1, k1, rfl, (St.drop 2 hS3)⟩
def F36 (fuel : Nat) (x0 : Int) : Option (Int) :=
  (some ((w64 ((Int.tmod (w64 ((Int.tmod x0 2000001) + (2000001 : Int))) 2000001) - (1000000 : Int)))))
set_option maxRecDepth 100000 in
theorem f36_ok (fuel : Nat) (x0 : Int) (r : Int) (hr : F36 fuel x0 = some r) (h : Zone) (L : List Atom) (w : World) (hS : St h L w)  :
    Calls Try.prog 36 #[vI x0] w fun e w' => ∃ v, e = .returned v ∧ (v = vI r ∧ St h L w') := by
 refine calls_intro (N := 8) Try.func36 (by kernel_rfl) fun a hf => ?_
 refine w_sq [] [(0, vI x0)] [] hf (by kernel_rfl) .nil fun a1 hf1 => ?_
 refine w_sq [] [(2, vI (w64 ((Int.tmod (w64 ((Int.tmod x0 2000001) + (2000001 : Int))) 2000001) - (1000000 : Int))))] [.prop ((2000001 : Int) ≠ 0), .prop ((2000001 : Int) ≠ 0)] hf1 (by kernel_rfl) (.prop (by decide) (.prop (by decide) .nil)) fun a2 hf2 => ?_
 refine w_ret (by kernel_rfl) ?_
 refine p_ret (os := []) (v := vI (w64 ((Int.tmod (w64 ((Int.tmod x0 2000001) + (2000001 : Int))) 2000001) - (1000000 : Int)))) (obs := []) hf2 (by kernel_rfl) .nil ?_
 obtain rfl := some_eq hr
 exact ⟨_, rfl, rfl, hS⟩
def F114 (fuel : Nat) (x0_lo : Int) (x0_hi : Int) (x1_lo : Int) (x1_hi : Int) : Option (Int × Int) :=
  (cond ((x0_lo == x1_lo) && ((x0_hi == x1_hi) && true)) (some (x0_lo, x0_hi)) (some ((if x1_lo < x0_lo then x1_lo else x0_lo), (if x1_hi > x0_hi then x1_hi else x0_hi))))
set_option maxRecDepth 100000 in
theorem f114_ok (fuel : Nat) (x0_lo : Int) (x0_hi : Int) (x1_lo : Int) (x1_hi : Int) (r : Int × Int) (hr : F114 fuel x0_lo x0_hi x1_lo x1_hi = some r) (h : Zone) (L : List Atom) (w : World) (hS : St h L w)  :
    Calls Try.prog 114 #[.agg #[vI x0_lo, vI x0_hi], .agg #[vI x1_lo, vI x1_hi]] w fun e w' => ∃ v, e = .returned v ∧ (v = .agg #[vI r.1, vI r.2] ∧ St h L w') := by
 refine calls_intro (N := 20) Try.func114 (by kernel_rfl) fun a hf => ?_
 refine w_sr (by kernel_rfl) ?_
 refine p_box (i := 0) (d := (some 2)) (cs := [vI x0_lo, vI x0_hi]) (T := 41) (v := fun b1 => pB b1 0) hS hf (fun b => by kernel_rfl) fun b1 ww1 a1 hS1 hf1 => ⟨fun _ => trivial, ?_⟩
 refine p_box (i := 1) (d := (some 3)) (cs := [vI x1_lo, vI x1_hi]) (T := 41) (v := fun b2 => pB b2 0) hS1 hf1 (fun b => by kernel_rfl) fun b2 ww2 a2 hS2 hf2 => ⟨fun _ => trivial, ?_⟩
 refine p_box (i := 2) (d := (some 4)) (cs := [vI 0, vI 0]) (T := 41) (v := fun b3 => pB b3 0) hS2 hf2 (fun b => by kernel_rfl) fun b3 ww3 a3 hS3 hf3 => ⟨fun _ => trivial, ?_⟩
 refine p_dt (by kernel_rfl) ?_
 refine w_seq (by kernel_rfl) ?_
 refine w_sq [vI x0_lo, vI x0_hi, vI x1_lo, vI x1_hi] [(2, pB b1 0), (3, pB b2 0), (4, pB b3 0), (7, .bool ((x0_lo == x1_lo) && ((x0_hi == x1_hi) && true)))] [.cell ⟨b1, 0, none⟩ (vI x0_lo), .cell ⟨b1, 1, none⟩ (vI x0_hi), .cell ⟨b2, 0, none⟩ (vI x1_lo), .cell ⟨b2, 1, none⟩ (vI x1_hi)] hf3 (by kernel_rfl) (.cell (hS3.box (i := 2) rfl (j := 0) rfl) (.cell (hS3.box (i := 2) rfl (j := 1) rfl) (.cell (hS3.box (i := 1) rfl (j := 0) rfl) (.cell (hS3.box (i := 1) rfl (j := 1) rfl) .nil)))) fun a4 hf4 => ?_
 refine w_if hf4 (b := ((x0_lo == x1_lo) && ((x0_hi == x1_hi) && true))) (by kernel_rfl) (fun hb1 => ?_) (fun hb1 => ?_)
 ·have hr1 := cond_t hb1 hr
  refine w_sr (by kernel_rfl) ?_
  refine p_qn 1 [vI x0_lo, vI x0_hi] [(4, pB b3 0), (8, .agg #[vI x0_lo, vI x0_hi])] [.cell ⟨b1, 0, none⟩ (vI x0_lo), .cell ⟨b1, 1, none⟩ (vI x0_hi)] hf4 (by kernel_rfl) (.cell (hS3.box (i := 2) rfl (j := 0) rfl) (.cell (hS3.box (i := 2) rfl (j := 1) rfl) .nil)) fun a5 hf5 => ?_
  refine p_store_eq (i := 1) (j := 0) (b := b3) (off := 0) (vs := [vI x0_lo, vI x0_hi]) (cs' := [vI x0_lo, vI x0_hi]) hS3 hf5 rfl (by kernel_rfl) (by kernel_rfl) rfl fun ww4 a6 hS4 hf6 => ⟨fun _ => trivial, ?_⟩
  refine p_dt (by kernel_rfl) ?_
  refine w_ret (by kernel_rfl) ?_
  refine r_then ?_
  refine p_ret (os := [vI x0_lo, vI x0_hi]) (v := .agg #[vI x0_lo, vI x0_hi]) (obs := [.cell ⟨b3, 0, none⟩ (vI x0_lo), .cell ⟨b3, 1, none⟩ (vI x0_hi)]) hf6 (by kernel_rfl) (.cell (hS4.box (i := 0) rfl (j := 0) rfl) (.cell (hS4.box (i := 0) rfl (j := 1) rfl) .nil)) ?_
  obtain rfl := some_eq hr1
  exact ⟨_, rfl, rfl, (St.drop 3 hS4)⟩
 ·have hr2 := cond_f hb1 hr
  refine w_skip (by kernel_rfl) ?_
  refine n_then ?_
  refine w_sr (by kernel_rfl) ?_
  refine p_qn 11 [vI x0_lo, vI x1_lo, vI x0_hi, vI x1_hi] [(4, pB b3 0), (19, .agg #[vI (if x1_lo < x0_lo then x1_lo else x0_lo), vI (if x1_hi > x0_hi then x1_hi else x0_hi)])] [.cell ⟨b1, 0, none⟩ (vI x0_lo), .cell ⟨b2, 0, none⟩ (vI x1_lo), .cell ⟨b1, 1, none⟩ (vI x0_hi), .cell ⟨b2, 1, none⟩ (vI x1_hi)] hf4 (by kernel_rfl) (.cell (hS3.box (i := 2) rfl (j := 0) rfl) (.cell (hS3.box (i := 1) rfl (j := 0) rfl) (.cell (hS3.box (i := 2) rfl (j := 1) rfl) (.cell (hS3.box (i := 1) rfl (j := 1) rfl) .nil)))) fun a7 hf7 => ?_
  refine p_store_eq (i := 11) (j := 0) (b := b3) (off := 0) (vs := [vI (if x1_lo < x0_lo then x1_lo else x0_lo), vI (if x1_hi > x0_hi then x1_hi else x0_hi)]) (cs' := [vI (if x1_lo < x0_lo then x1_lo else x0_lo), vI (if x1_hi > x0_hi then x1_hi else x0_hi)]) hS3 hf7 rfl (by kernel_rfl) (by kernel_rfl) rfl fun ww5 a8 hS5 hf8 => ⟨fun _ => trivial, ?_⟩
  refine p_dt (by kernel_rfl) ?_
  refine w_ret (by kernel_rfl) ?_
  refine p_ret (os := [vI (if x1_lo < x0_lo then x1_lo else x0_lo), vI (if x1_hi > x0_hi then x1_hi else x0_hi)]) (v := .agg #[vI (if x1_lo < x0_lo then x1_lo else x0_lo), vI (if x1_hi > x0_hi then x1_hi else x0_hi)]) (obs := [.cell ⟨b3, 0, none⟩ (vI (if x1_lo < x0_lo then x1_lo else x0_lo)), .cell ⟨b3, 1, none⟩ (vI (if x1_hi > x0_hi then x1_hi else x0_hi))]) hf8 (by kernel_rfl) (.cell (hS5.box (i := 0) rfl (j := 0) rfl) (.cell (hS5.box (i := 0) rfl (j := 1) rfl) .nil)) ?_
  obtain rfl := some_eq hr2
  exact ⟨_, rfl, rfl, (St.drop 3 hS5)⟩
def F59_j1 (y1 : List Pt) (y2 : Int) : Option (List Pt × Int) :=
  (some (y1, y2))
def F59_j3 (k1 : (List Int) → Int → Option (List Pt × Int)) (y3 : Int) (y4 : List Int) : Option (List Pt × Int) :=
  (k1 y4 (w64 (y3 + (1 : Int))))
def F59_j4 (y5 : List Pt) (y6 : Int) : Option (List Pt × Int) :=
  (F59_j1 y5 y6)
def F59_j5 (k2 : (List Pt) → Int → Option (List Pt × Int)) (y7 : List Pt) (y8 : Int) (p1 : Int) (r1 : Int × Int) (y9 : Bool) : Option (List Pt × Int) :=
  (cond y9 (F59_j4 ([]) 5) ((appC y7 ([⟨p1, r1.1, r1.2⟩])).bind fun d1 => (k2 d1 (w64 (y8 + (1 : Int))))))
def F59_l2 (fuel : Nat) (x0 : List Pt) (x1 : List Pt) (y10 : List Int) : Nat → (List Pt) → Int → Option (List Pt × Int)
  | 0, _, _ => none
  | n1 + 1, y7, y8 =>
    let k2 : (List Pt) → Int → Option (List Pt × Int) := F59_l2 fuel x0 x1 y10 n1
    (cond (decide (y8 < ((compL (sortL y10)).length : Int))) ((getI (compL (sortL y10)) y8).bind fun p1 => ((F88 fuel x0 p1).bind fun r2 => ((F88 fuel x1 p1).bind fun r3 => ((F114 fuel r2.1 r2.2 r3.1 r3.2).bind fun r1 => (cond (decide (r1.1 < (-1000000000 : Int))) (F59_j5 k2 y7 y8 p1 r1 true) (F59_j5 k2 y7 y8 p1 r1 (decide (r1.2 > (1000000000 : Int))))))))) (F59_j4 y7 0))
def F59_l1 (fuel : Nat) (x0 : List Pt) (x1 : List Pt) (y11 : Int) (y12 : Int) (r4 : List Pt) : Nat → (List Int) → Int → Option (List Pt × Int)
  | 0, _, _ => none
  | n2 + 1, y10, y3 =>
    let k1 : (List Int) → Int → Option (List Pt × Int) := F59_l1 fuel x0 x1 y11 y12 r4 n2
    (cond (decide (y3 < (r4.length : Int))) ((getI r4 y3).bind fun p2 => ((F43 fuel y11 y12 p2.x).bind fun r5 => (cond r5 ((appC y10 ([p2.x])).bind fun d2 => (F59_j3 k1 y3 d2)) (F59_j3 k1 y3 y10)))) ((lenC y10).bind fun _ => ((lenC (sortL y10)).bind fun _ => (cond (decide (((compL (sortL y10)).length : Int) > (40 : Int))) (F59_j1 ([]) 2) (F59_l2 fuel x0 x1 y10 fuel ([]) 0)))))
def F59_j2 (fuel : Nat) (x0 : List Pt) (x1 : List Pt) (y13 : Int) (y11 : Int) (y12 : Int) : Option (List Pt × Int) :=
  (cond (y13 != (0 : Int)) (F59_j1 ([]) 4) ((F125 fuel ([x0, x1])).bind fun r4 => (F59_l1 fuel x0 x1 y11 y12 r4 fuel ([]) 0)))
def F59 (fuel : Nat) (x0 : List Pt) (x1 : List Pt) : Option (List Pt × Int) :=
  ((F67 fuel x0).bind fun r6 => (cond (r6 != (0 : Int)) (F59_j1 ([]) r6) ((F67 fuel x1).bind fun r7 => (cond (r7 != (0 : Int)) (F59_j1 ([]) r7) ((F117 fuel x0).bind fun r8 => ((F117 fuel x1).bind fun r9 => ((F42 fuel r8.1 r8.2 r9.1 r9.2).bind fun r10 => (F59_j2 fuel x0 x1 r10.2.2 r10.1 r10.2.1))))))))
set_option maxRecDepth 100000 in
theorem f59_ok (fuel : Nat) (x0 : List Pt) (x1 : List Pt) (r : List Pt × Int) (hr : F59 fuel x0 x1 = some r) (h : Zone) (L : List Atom) (w : World) (hS : St h L w) (o_x0 : Option Addr) (c_x0 : Nat) (hx_x0 : SliceR PtT h o_x0 c_x0 x0) (o_x1 : Option Addr) (c_x1 : Nat) (hx_x1 : SliceR PtT h o_x1 c_x1 x1) :
    Calls Try.prog 59 #[.agg #[.slice o_x0 x0.length c_x0], .agg #[.slice o_x1 x1.length c_x1]] w fun e w' => ∃ v, e = .returned v ∧ (∃ h', ∃ o0 : Option Addr, ∃ c0 : Nat, Zone.le h h' ∧ v = .tuple #[.agg #[.slice o0 r.1.length c0], vI r.2] ∧ St h' L w' ∧ SliceR PtT h' o0 c0 r.1) := by
 refine calls_intro (N := 11) Try.func59 (by kernel_rfl) fun a hf => ?_
 refine w_sr (by kernel_rfl) ?_
 refine p_box (i := 0) (d := (some 2)) (cs := [.slice o_x0 x0.length c_x0]) (T := 24) (v := fun b1 => pB b1 0) hS hf (fun b => by kernel_rfl) fun b1 ww1 a1 hS1 hf1 => ⟨fun _ => trivial, ?_⟩
 refine p_box (i := 1) (d := (some 3)) (cs := [.slice o_x1 x1.length c_x1]) (T := 24) (v := fun b2 => pB b2 0) hS1 hf1 (fun b => by kernel_rfl) fun b2 ww2 a2 hS2 hf2 => ⟨fun _ => trivial, ?_⟩
 refine p_box (i := 2) (d := (some 4)) (cs := [.slice none 0 0]) (T := 24) (v := fun b3 => pB b3 0) hS2 hf2 (fun b => by kernel_rfl) fun b3 ww3 a3 hS3 hf3 => ⟨fun _ => trivial, ?_⟩
 refine p_qt [] [(2, pB b1 0), (3, pB b2 0), (4, pB b3 0)] [] hf3 (by kernel_rfl) .nil fun a4 hf4 => ?_
 refine w_sr (by kernel_rfl) ?_
 refine p_qn 2 [.slice o_x0 x0.length c_x0, .slice o_x1 x1.length c_x1] [(4, pB b3 0), (6, .agg #[.slice o_x0 x0.length c_x0]), (7, .agg #[.slice o_x1 x1.length c_x1])] [.cell ⟨b1, 0, none⟩ (.slice o_x0 x0.length c_x0), .cell ⟨b2, 0, none⟩ (.slice o_x1 x1.length c_x1)] hf4 (by kernel_rfl) (.cell (hS3.box (i := 2) rfl (j := 0) rfl) (.cell (hS3.box (i := 1) rfl (j := 0) rfl) .nil)) fun a5 hf5 => ?_
 refine p_call (i := 2) (d := some 8) (f := 110) (args := #[.agg #[.slice o_x0 x0.length c_x0], .agg #[.slice o_x1 x1.length c_x1], .func (.func 114) #[] #[]]) hf5 (by kernel_rfl) (Φ := fun v w => ∃ z1 : Zone, ∃ y1 : List Pt, ∃ y2 : Int, ∃ e1 : Option Addr, ∃ q1 : Nat, Zone.le h z1 ∧ v = .tuple #[.agg #[.slice e1 y1.length q1], vI y2] ∧ St z1 (ownS PtT 52 e1 q1 y1 :: box b3 [.slice none 0 0] 24 :: box b2 [.slice o_x1 x1.length c_x1] 24 :: box b1 [.slice o_x0 x0.length c_x0] 24 :: L) w ∧ (F59_j1 y1 y2) = some r) ?_ ?_
 ·refine calls_intro (N := 72) Try.func110 (by kernel_rfl) fun a6 hf6 => ?_
  refine w_sr (by kernel_rfl) ?_
  refine p_box (i := 0) (d := (some 3)) (cs := [.slice o_x0 x0.length c_x0]) (T := 24) (v := fun b4 => pB b4 0) hS3 hf6 (fun b => by kernel_rfl) fun b4 ww4 a7 hS4 hf7 => ⟨fun _ => trivial, ?_⟩
  refine p_box (i := 1) (d := (some 4)) (cs := [.slice o_x1 x1.length c_x1]) (T := 24) (v := fun b5 => pB b5 0) hS4 hf7 (fun b => by kernel_rfl) fun b5 ww5 a8 hS5 hf8 => ⟨fun _ => trivial, ?_⟩
  refine p_box (i := 2) (d := (some 5)) (cs := [.func (.func 114) #[] #[]]) (T := 118) (v := fun b6 => pB b6 0) hS5 hf8 (fun b => by kernel_rfl) fun b6 ww6 a9 hS6 hf9 => ⟨fun _ => trivial, ?_⟩
  refine p_box (i := 3) (d := (some 6)) (cs := [.slice none 0 0]) (T := 24) (v := fun b7 => pB b7 0) hS6 hf9 (fun b => by kernel_rfl) fun b7 ww7 a10 hS7 hf10 => ⟨fun _ => trivial, ?_⟩
  refine p_qt [] [(3, pB b4 0), (4, pB b5 0), (5, pB b6 0), (6, pB b7 0)] [] hf10 (by kernel_rfl) .nil fun a11 hf11 => ?_
  refine w_seq (by kernel_rfl) ?_
  refine w_sr (by kernel_rfl) ?_
  refine p_qn 1 [.slice o_x0 x0.length c_x0] [(3, pB b4 0), (4, pB b5 0), (5, pB b6 0), (6, pB b7 0), (15, .agg #[.slice o_x0 x0.length c_x0])] [.cell ⟨b4, 0, none⟩ (.slice o_x0 x0.length c_x0)] hf11 (by kernel_rfl) (.cell (hS7.box (i := 3) rfl (j := 0) rfl) .nil) fun a12 hf12 => ?_
  obtain ⟨r6, hd1, hr1⟩ := bind_some hr
  refine p_call (i := 1) (d := some 16) (f := 67) (args := #[.agg #[.slice o_x0 x0.length c_x0]]) hf12 (by kernel_rfl) (f67_ok fuel x0 r6 hd1 h _ _ hS7 o_x0 c_x0 hx_x0) ?_
  rintro v1 ww8 a13 ⟨z2, k3, rfl, hS8⟩ hf13
  refine ⟨fun _ => trivial, ?_⟩
  refine p_qt [] [(3, pB b4 0), (4, pB b5 0), (5, pB b6 0), (6, pB b7 0), (8, vI r6)] [] hf13 (by kernel_rfl) .nil fun a14 hf14 => ?_
  refine w_sq [] [(3, pB b4 0), (4, pB b5 0), (5, pB b6 0), (6, pB b7 0), (8, vI r6), (18, .bool (r6 != (0 : Int)))] [] hf14 (by kernel_rfl) .nil fun a15 hf15 => ?_
  refine w_if hf15 (b := (r6 != (0 : Int))) (by kernel_rfl) (fun hb1 => ?_) (fun hb1 => ?_)
  ·have hr2 := cond_t hb1 hr1
   refine w_sr (by kernel_rfl) ?_
   refine p_qn 2 [] [(6, pB b7 0), (19, .agg #[.slice none 0 0]), (20, vI r6)] [] hf15 (by kernel_rfl) .nil fun a16 hf16 => ?_
   refine p_store_eq (i := 2) (j := 0) (b := b7) (off := 0) (vs := [.slice none 0 0]) (cs' := [.slice none 0 0]) hS8 hf16 rfl (by kernel_rfl) (by kernel_rfl) rfl fun ww9 a17 hS9 hf17 => ⟨fun _ => trivial, ?_⟩
   refine p_qt [] [(6, pB b7 0), (7, vI r6)] [] hf17 (by kernel_rfl) .nil fun a18 hf18 => ?_
   refine w_ret (by kernel_rfl) ?_
   refine r_then ?_
   refine p_ret (os := [.slice none 0 0]) (v := .tuple #[.agg #[.slice none 0 0], vI r6]) (obs := [.cell ⟨b7, 0, none⟩ (.slice none 0 0)]) hf18 (by kernel_rfl) (.cell (hS9.box (i := 0) rfl (j := 0) rfl) .nil) ?_
   have hS10 := St.ownNil hS9 PtT 52
   exact ⟨_, rfl, z2, [], r6, none, 0, k3, rfl, (St.pick 5 [0] hS10 (by kernel_rfl)), hr2⟩
  ·have hr3 := cond_f hb1 hr1
   refine w_skip (by kernel_rfl) ?_
   refine n_then ?_
   refine w_seq (by kernel_rfl) ?_
   refine w_sr (by kernel_rfl) ?_
   refine p_qn 1 [.slice o_x1 x1.length c_x1] [(3, pB b4 0), (4, pB b5 0), (5, pB b6 0), (6, pB b7 0), (21, .agg #[.slice o_x1 x1.length c_x1])] [.cell ⟨b5, 0, none⟩ (.slice o_x1 x1.length c_x1)] hf15 (by kernel_rfl) (.cell (hS8.box (i := 2) rfl (j := 0) rfl) .nil) fun a19 hf19 => ?_
   obtain ⟨r7, hd2, hr4⟩ := bind_some hr3
   refine p_call (i := 1) (d := some 22) (f := 67) (args := #[.agg #[.slice o_x1 x1.length c_x1]]) hf19 (by kernel_rfl) (f67_ok fuel x1 r7 hd2 z2 _ _ hS8 o_x1 c_x1 (SliceR.mono k3 hx_x1)) ?_
   rintro v2 ww10 a20 ⟨z3, k4, rfl, hS11⟩ hf20
   refine ⟨fun _ => trivial, ?_⟩
   refine p_qt [] [(3, pB b4 0), (4, pB b5 0), (5, pB b6 0), (6, pB b7 0), (9, vI r7)] [] hf20 (by kernel_rfl) .nil fun a21 hf21 => ?_
   refine w_sq [] [(3, pB b4 0), (4, pB b5 0), (5, pB b6 0), (6, pB b7 0), (9, vI r7), (24, .bool (r7 != (0 : Int)))] [] hf21 (by kernel_rfl) .nil fun a22 hf22 => ?_
   refine w_if hf22 (b := (r7 != (0 : Int))) (by kernel_rfl) (fun hb2 => ?_) (fun hb2 => ?_)
   ·have hr5 := cond_t hb2 hr4
    refine w_sr (by kernel_rfl) ?_
    refine p_qn 2 [] [(6, pB b7 0), (25, .agg #[.slice none 0 0]), (26, vI r7)] [] hf22 (by kernel_rfl) .nil fun a23 hf23 => ?_
    refine p_store_eq (i := 2) (j := 0) (b := b7) (off := 0) (vs := [.slice none 0 0]) (cs' := [.slice none 0 0]) hS11 hf23 rfl (by kernel_rfl) (by kernel_rfl) rfl fun ww11 a24 hS12 hf24 => ⟨fun _ => trivial, ?_⟩
    refine p_qt [] [(6, pB b7 0), (7, vI r7)] [] hf24 (by kernel_rfl) .nil fun a25 hf25 => ?_
    refine w_ret (by kernel_rfl) ?_
    refine r_then ?_
    refine p_ret (os := [.slice none 0 0]) (v := .tuple #[.agg #[.slice none 0 0], vI r7]) (obs := [.cell ⟨b7, 0, none⟩ (.slice none 0 0)]) hf25 (by kernel_rfl) (.cell (hS12.box (i := 0) rfl (j := 0) rfl) .nil) ?_
    have hS13 := St.ownNil hS12 PtT 52
    exact ⟨_, rfl, z3, [], r7, none, 0, (Zone.le_trans k3 k4), rfl, (St.pick 5 [0] hS13 (by kernel_rfl)), hr5⟩
   ·have hr6 := cond_f hb2 hr4
    refine w_skip (by kernel_rfl) ?_
    refine n_then ?_
    refine w_mid (by kernel_rfl) (fun a w => ∃ z4 : Zone, ∃ y13 : Int, ∃ y11 : Int, ∃ y12 : Int, ∃ b8 : Nat, Zone.le z3 z4 ∧ Fr a 72 [(3, pB b4 0), (4, pB b5 0), (5, pB b6 0), (6, pB b7 0), (10, pB b8 0), (11, vI y13)] ∧ St z4 (box b8 [vI y11, vI y12] 41 :: box b7 [.slice none 0 0] 24 :: box b6 [.func (.func 114) #[] #[]] 118 :: box b5 [.slice o_x1 x1.length c_x1] 24 :: box b4 [.slice o_x0 x0.length c_x0] 24 :: box b3 [.slice none 0 0] 24 :: box b2 [.slice o_x1 x1.length c_x1] 24 :: box b1 [.slice o_x0 x0.length c_x0] 24 :: L) w ∧ (F59_j2 fuel x0 x1 y13 y11 y12) = some r) ?_ ?_
    ·skip
     have hS14 := hS11.drew
     have s1 : Sub z3 (box b7 [.slice none 0 0] 24 :: box b6 [.func (.func 114) #[] #[]] 118 :: box b5 [.slice o_x1 x1.length c_x1] 24 :: box b4 [.slice o_x0 x0.length c_x0] 24 :: box b3 [.slice none 0 0] 24 :: box b2 [.slice o_x1 x1.length c_x1] 24 :: box b1 [.slice o_x0 x0.length c_x0] 24 :: L) _ := Sub.of (Zone.le_refl _) hS14
     refine w_regB (by kernel_rfl) [3, 4, 9] (Sub z3 (box b7 [.slice none 0 0] 24 :: box b6 [.func (.func 114) #[] #[]] 118 :: box b5 [.slice o_x1 x1.length c_x1] 24 :: box b4 [.slice o_x0 x0.length c_x0] 24 :: box b3 [.slice none 0 0] 24 :: box b2 [.slice o_x1 x1.length c_x1] 24 :: box b1 [.slice o_x0 x0.length c_x0] 24 :: L)) (by kernel_rfl) ?_
     refine k_seg' 9 [(0, true), (2, true)] (by kernel_rfl) (by kernel_rfl) (At.start s1) (by kernel_rfl) ?_
     refine p_qS 2 [.slice o_x0 x0.length c_x0, .slice o_x1 x1.length c_x1] [(3, pB b4 0), (4, pB b5 0), (5, pB b6 0), (6, pB b7 0), (28, .agg #[.slice o_x0 x0.length c_x0]), (30, .agg #[.slice o_x1 x1.length c_x1])] [.cell ⟨b4, 0, none⟩ (.slice o_x0 x0.length c_x0), .cell ⟨b5, 0, none⟩ (.slice o_x1 x1.length c_x1)] [] s1 hf22 (by kernel_rfl) (fun _ s => (.cell (s.box (i := 3) rfl (j := 0) rfl) (.cell (s.box (i := 2) rfl (j := 0) rfl) .nil))) .nil fun a26 hf26 => ?_
     refine p_done (by kernel_rfl) ?_
     intro hA1
     refine k_any' 8 [1, 8] (by kernel_rfl) hA1 (by kernel_rfl) (by kernel_rfl) ?_
     refine (all_cons ?_ (all_cons ?_ all_nil))
     ·skip
      obtain ⟨r8, hd3, hr7⟩ := bind_some hr6
      refine p_call (i := 1) (d := some 29) (f := 117) (args := #[.agg #[.slice o_x0 x0.length c_x0]]) hf26 (by kernel_rfl) (f117_ok fuel x0 r8 hd3 z3 _ _ hS14 o_x0 c_x0 (SliceR.mono (Zone.le_trans k3 k4) hx_x0)) ?_
      rintro v3 ww12 a27 ⟨rfl, hS15⟩ hf27
      refine ⟨fun _ => Sub.of (Zone.le_refl _) hS15, ?_⟩
      refine p_done (by kernel_rfl) ?_
      intro hA2
      have s2 : Sub z3 (box b7 [.slice none 0 0] 24 :: box b6 [.func (.func 114) #[] #[]] 118 :: box b5 [.slice o_x1 x1.length c_x1] 24 :: box b4 [.slice o_x0 x0.length c_x0] 24 :: box b3 [.slice none 0 0] 24 :: box b2 [.slice o_x1 x1.length c_x1] 24 :: box b1 [.slice o_x0 x0.length c_x0] 24 :: L) _ := Sub.of (Zone.le_refl _) hS15
      refine k_seg' 8 [] (by kernel_rfl) (by kernel_rfl) hA2 (by kernel_rfl) ?_
      refine p_done (by kernel_rfl) ?_
      intro hA3
      refine k_any' 7 [3, 8] (by kernel_rfl) hA3 (by kernel_rfl) (by kernel_rfl) ?_
      refine (all_cons ?_ (all_cons ?_ all_nil))
      ·skip
       obtain ⟨r9, hd4, hr8⟩ := bind_some hr7
       refine p_call (i := 3) (d := some 31) (f := 117) (args := #[.agg #[.slice o_x1 x1.length c_x1]]) hf27 (by kernel_rfl) (f117_ok fuel x1 r9 hd4 z3 _ _ hS15 o_x1 c_x1 (SliceR.mono (Zone.le_trans k3 k4) hx_x1)) ?_
       rintro v4 ww13 a28 ⟨rfl, hS16⟩ hf28
       refine ⟨fun e => absurd e (by decide), ?_⟩
       refine p_done (by kernel_rfl) ?_
       intro hA4
       refine k_seg' 7 [] (by kernel_rfl) (by kernel_rfl) hA4 (by kernel_rfl) ?_
       refine p_done (by kernel_rfl) ?_
       intro hA5
       refine k_any' 6 [4, 8] (by kernel_rfl) hA5 (by kernel_rfl) (by kernel_rfl) ?_
       refine (all_cons ?_ (all_cons ?_ all_nil))
       ·skip
        obtain ⟨r10, hd5, hr9⟩ := bind_some hr8
        refine p_call (i := 4) (d := some 32) (f := 42) (args := #[.agg #[vI r8.1, vI r8.2], .agg #[vI r9.1, vI r9.2]]) hf28 (by kernel_rfl) (f42_ok fuel r8.1 r8.2 r9.1 r9.2 r10 hd5 z3 _ _ hS16 ) ?_
        rintro v5 ww14 a29 ⟨z5, k5, rfl, hS17⟩ hf29
        refine ⟨fun e => absurd e (by decide), ?_⟩
        refine p_done (by kernel_rfl) ?_
        intro hA6
        refine k_seg' 0 [(5, true), (6, true), (7, true), (8, false), (9, false), (10, true)] (by kernel_rfl) (by kernel_rfl) hA6 (by kernel_rfl) ?_
        refine p_qP 3 [] [(3, pB b4 0), (4, pB b5 0), (5, pB b6 0), (6, pB b7 0), (33, .agg #[vI r10.1, vI r10.2.1]), (34, vI r10.2.2)] [] hf29 (by kernel_rfl) (fun _ => .nil) fun a30 hf30 => ?_
        refine p_box (i := 8) (d := (some 10)) (cs := [vI 0, vI 0]) (T := 41) (v := fun b9 => pB b9 0) hS17 hf30 (fun b => by kernel_rfl) fun b9 ww15 a31 hS18 hf31 => ⟨fun _ => Sub.of k5 (St.drop 1 hS18), ?_⟩
        have s3 : Sub z3 (box b7 [.slice none 0 0] 24 :: box b6 [.func (.func 114) #[] #[]] 118 :: box b5 [.slice o_x1 x1.length c_x1] 24 :: box b4 [.slice o_x0 x0.length c_x0] 24 :: box b3 [.slice none 0 0] 24 :: box b2 [.slice o_x1 x1.length c_x1] 24 :: box b1 [.slice o_x0 x0.length c_x0] 24 :: L) _ := Sub.of k5 (St.drop 1 hS18)
        refine p_store_eq (i := 9) (j := 0) (b := b9) (off := 0) (vs := [vI r10.1, vI r10.2.1]) (cs' := [vI r10.1, vI r10.2.1]) hS18 hf31 rfl (by kernel_rfl) (by kernel_rfl) rfl fun ww16 a32 hS19 hf32 => ⟨fun e => absurd e (by decide), ?_⟩
        refine p_qP 1 [] [(3, pB b4 0), (4, pB b5 0), (5, pB b6 0), (6, pB b7 0), (10, pB b9 0), (11, vI r10.2.2)] [] hf32 (by kernel_rfl) (fun _ => .nil) fun a33 hf33 => ?_
        refine p_done (by kernel_rfl) ?_
        intro hA7
        refine k_done' (by kernel_rfl) (by kernel_rfl) ?_
        refine n_then ?_
        have hf34 := Fr.keep (ks := [3, 4, 5, 6, 10, 11]) (r := [(3, pB b4 0), (4, pB b5 0), (5, pB b6 0), (6, pB b7 0), (10, pB b9 0), (11, vI r10.2.2)]) hf33 (by kernel_rfl)
        exact ⟨z5, r10.2.2, r10.1, r10.2.1, b9, k5, hf34, (St.pick 1 [0] hS19 (by kernel_rfl)), hr9⟩
       ·skip
        refine p_box (i := 8) (d := (some 10)) (cs := [vI 0, vI 0]) (T := 41) (v := fun b10 => pB b10 0) hS16 hf28 (fun b => by kernel_rfl) fun b10 ww17 a34 hS20 hf35 => ⟨fun _ => Sub.of (Zone.le_refl _) (St.drop 1 hS20), ?_⟩
        refine p_done (by kernel_rfl) ?_
        intro hA8
        refine k_seg' 0 [(4, false), (5, true), (6, true), (7, true), (9, false), (10, true)] (by kernel_rfl) (by kernel_rfl) hA8 (by kernel_rfl) ?_
        obtain ⟨r11, hd6, hr10⟩ := bind_some hr8
        refine p_call (i := 4) (d := some 32) (f := 42) (args := #[.agg #[vI r8.1, vI r8.2], .agg #[vI r9.1, vI r9.2]]) hf35 (by kernel_rfl) (f42_ok fuel r8.1 r8.2 r9.1 r9.2 r11 hd6 z3 _ _ hS20 ) ?_
        rintro v6 ww18 a35 ⟨z6, k6, rfl, hS21⟩ hf36
        refine ⟨fun e => absurd e (by decide), ?_⟩
        refine p_qP 3 [] [(3, pB b4 0), (4, pB b5 0), (5, pB b6 0), (6, pB b7 0), (10, pB b10 0), (33, .agg #[vI r11.1, vI r11.2.1]), (34, vI r11.2.2)] [] hf36 (by kernel_rfl) (fun _ => .nil) fun a36 hf37 => ?_
        refine p_store_eq (i := 9) (j := 0) (b := b10) (off := 0) (vs := [vI r11.1, vI r11.2.1]) (cs' := [vI r11.1, vI r11.2.1]) hS21 hf37 rfl (by kernel_rfl) (by kernel_rfl) rfl fun ww19 a37 hS22 hf38 => ⟨fun e => absurd e (by decide), ?_⟩
        refine p_qP 1 [] [(3, pB b4 0), (4, pB b5 0), (5, pB b6 0), (6, pB b7 0), (10, pB b10 0), (11, vI r11.2.2)] [] hf38 (by kernel_rfl) (fun _ => .nil) fun a38 hf39 => ?_
        refine p_done (by kernel_rfl) ?_
        intro hA9
        refine k_done' (by kernel_rfl) (by kernel_rfl) ?_
        refine n_then ?_
        have hf40 := Fr.keep (ks := [3, 4, 5, 6, 10, 11]) (r := [(3, pB b4 0), (4, pB b5 0), (5, pB b6 0), (6, pB b7 0), (10, pB b10 0), (11, vI r11.2.2)]) hf39 (by kernel_rfl)
        exact ⟨z6, r11.2.2, r11.1, r11.2.1, b10, k6, hf40, (St.pick 1 [0] hS22 (by kernel_rfl)), hr10⟩
      ·skip
       refine p_box (i := 8) (d := (some 10)) (cs := [vI 0, vI 0]) (T := 41) (v := fun b11 => pB b11 0) hS15 hf27 (fun b => by kernel_rfl) fun b11 ww20 a39 hS23 hf41 => ⟨fun _ => Sub.of (Zone.le_refl _) (St.drop 1 hS23), ?_⟩
       refine p_done (by kernel_rfl) ?_
       intro hA10
       have s4 : Sub z3 (box b7 [.slice none 0 0] 24 :: box b6 [.func (.func 114) #[] #[]] 118 :: box b5 [.slice o_x1 x1.length c_x1] 24 :: box b4 [.slice o_x0 x0.length c_x0] 24 :: box b3 [.slice none 0 0] 24 :: box b2 [.slice o_x1 x1.length c_x1] 24 :: box b1 [.slice o_x0 x0.length c_x0] 24 :: L) _ := Sub.of (Zone.le_refl _) (St.drop 1 hS23)
       refine k_seg' 0 [(3, false), (4, false), (5, true), (6, true), (7, true), (9, false), (10, true)] (by kernel_rfl) (by kernel_rfl) hA10 (by kernel_rfl) ?_
       obtain ⟨r12, hd7, hr11⟩ := bind_some hr7
       refine p_call (i := 3) (d := some 31) (f := 117) (args := #[.agg #[.slice o_x1 x1.length c_x1]]) hf41 (by kernel_rfl) (f117_ok fuel x1 r12 hd7 z3 _ _ hS23 o_x1 c_x1 (SliceR.mono (Zone.le_trans k3 k4) hx_x1)) ?_
       rintro v7 ww21 a40 ⟨rfl, hS24⟩ hf42
       refine ⟨fun e => absurd e (by decide), ?_⟩
       obtain ⟨r13, hd8, hr12⟩ := bind_some hr11
       refine p_call (i := 4) (d := some 32) (f := 42) (args := #[.agg #[vI r8.1, vI r8.2], .agg #[vI r12.1, vI r12.2]]) hf42 (by kernel_rfl) (f42_ok fuel r8.1 r8.2 r12.1 r12.2 r13 hd8 z3 _ _ hS24 ) ?_
       rintro v8 ww22 a41 ⟨z7, k7, rfl, hS25⟩ hf43
       refine ⟨fun e => absurd e (by decide), ?_⟩
       refine p_qP 3 [] [(3, pB b4 0), (4, pB b5 0), (5, pB b6 0), (6, pB b7 0), (10, pB b11 0), (33, .agg #[vI r13.1, vI r13.2.1]), (34, vI r13.2.2)] [] hf43 (by kernel_rfl) (fun _ => .nil) fun a42 hf44 => ?_
       refine p_store_eq (i := 9) (j := 0) (b := b11) (off := 0) (vs := [vI r13.1, vI r13.2.1]) (cs' := [vI r13.1, vI r13.2.1]) hS25 hf44 rfl (by kernel_rfl) (by kernel_rfl) rfl fun ww23 a43 hS26 hf45 => ⟨fun e => absurd e (by decide), ?_⟩
       refine p_qP 1 [] [(3, pB b4 0), (4, pB b5 0), (5, pB b6 0), (6, pB b7 0), (10, pB b11 0), (11, vI r13.2.2)] [] hf45 (by kernel_rfl) (fun _ => .nil) fun a44 hf46 => ?_
       refine p_done (by kernel_rfl) ?_
       intro hA11
       refine k_done' (by kernel_rfl) (by kernel_rfl) ?_
       refine n_then ?_
       have hf47 := Fr.keep (ks := [3, 4, 5, 6, 10, 11]) (r := [(3, pB b4 0), (4, pB b5 0), (5, pB b6 0), (6, pB b7 0), (10, pB b11 0), (11, vI r13.2.2)]) hf46 (by kernel_rfl)
       exact ⟨z7, r13.2.2, r13.1, r13.2.1, b11, k7, hf47, (St.pick 1 [0] hS26 (by kernel_rfl)), hr12⟩
     ·skip
      refine p_box (i := 8) (d := (some 10)) (cs := [vI 0, vI 0]) (T := 41) (v := fun b12 => pB b12 0) hS14 hf26 (fun b => by kernel_rfl) fun b12 ww24 a45 hS27 hf48 => ⟨fun _ => Sub.of (Zone.le_refl _) (St.drop 1 hS27), ?_⟩
      refine p_done (by kernel_rfl) ?_
      intro hA12
      have s5 : Sub z3 (box b7 [.slice none 0 0] 24 :: box b6 [.func (.func 114) #[] #[]] 118 :: box b5 [.slice o_x1 x1.length c_x1] 24 :: box b4 [.slice o_x0 x0.length c_x0] 24 :: box b3 [.slice none 0 0] 24 :: box b2 [.slice o_x1 x1.length c_x1] 24 :: box b1 [.slice o_x0 x0.length c_x0] 24 :: L) _ := Sub.of (Zone.le_refl _) (St.drop 1 hS27)
      refine k_seg' 0 [(1, false), (3, false), (4, false), (5, true), (6, true), (7, true), (9, false), (10, true)] (by kernel_rfl) (by kernel_rfl) hA12 (by kernel_rfl) ?_
      obtain ⟨r14, hd9, hr13⟩ := bind_some hr6
      refine p_call (i := 1) (d := some 29) (f := 117) (args := #[.agg #[.slice o_x0 x0.length c_x0]]) hf48 (by kernel_rfl) (f117_ok fuel x0 r14 hd9 z3 _ _ hS27 o_x0 c_x0 (SliceR.mono (Zone.le_trans k3 k4) hx_x0)) ?_
      rintro v9 ww25 a46 ⟨rfl, hS28⟩ hf49
      refine ⟨fun _ => Sub.of (Zone.le_refl _) (St.drop 1 hS28), ?_⟩
      have s6 : Sub z3 (box b7 [.slice none 0 0] 24 :: box b6 [.func (.func 114) #[] #[]] 118 :: box b5 [.slice o_x1 x1.length c_x1] 24 :: box b4 [.slice o_x0 x0.length c_x0] 24 :: box b3 [.slice none 0 0] 24 :: box b2 [.slice o_x1 x1.length c_x1] 24 :: box b1 [.slice o_x0 x0.length c_x0] 24 :: L) _ := Sub.of (Zone.le_refl _) (St.drop 1 hS28)
      obtain ⟨r15, hd10, hr14⟩ := bind_some hr13
      refine p_call (i := 3) (d := some 31) (f := 117) (args := #[.agg #[.slice o_x1 x1.length c_x1]]) hf49 (by kernel_rfl) (f117_ok fuel x1 r15 hd10 z3 _ _ hS28 o_x1 c_x1 (SliceR.mono (Zone.le_trans k3 k4) hx_x1)) ?_
      rintro v10 ww26 a47 ⟨rfl, hS29⟩ hf50
      refine ⟨fun e => absurd e (by decide), ?_⟩
      obtain ⟨r16, hd11, hr15⟩ := bind_some hr14
      refine p_call (i := 4) (d := some 32) (f := 42) (args := #[.agg #[vI r14.1, vI r14.2], .agg #[vI r15.1, vI r15.2]]) hf50 (by kernel_rfl) (f42_ok fuel r14.1 r14.2 r15.1 r15.2 r16 hd11 z3 _ _ hS29 ) ?_
      rintro v11 ww27 a48 ⟨z8, k8, rfl, hS30⟩ hf51
      refine ⟨fun e => absurd e (by decide), ?_⟩
      refine p_qP 3 [] [(3, pB b4 0), (4, pB b5 0), (5, pB b6 0), (6, pB b7 0), (10, pB b12 0), (33, .agg #[vI r16.1, vI r16.2.1]), (34, vI r16.2.2)] [] hf51 (by kernel_rfl) (fun _ => .nil) fun a49 hf52 => ?_
      refine p_store_eq (i := 9) (j := 0) (b := b12) (off := 0) (vs := [vI r16.1, vI r16.2.1]) (cs' := [vI r16.1, vI r16.2.1]) hS30 hf52 rfl (by kernel_rfl) (by kernel_rfl) rfl fun ww28 a50 hS31 hf53 => ⟨fun e => absurd e (by decide), ?_⟩
      refine p_qP 1 [] [(3, pB b4 0), (4, pB b5 0), (5, pB b6 0), (6, pB b7 0), (10, pB b12 0), (11, vI r16.2.2)] [] hf53 (by kernel_rfl) (fun _ => .nil) fun a51 hf54 => ?_
      refine p_done (by kernel_rfl) ?_
      intro hA13
      refine k_done' (by kernel_rfl) (by kernel_rfl) ?_
      refine n_then ?_
      have hf55 := Fr.keep (ks := [3, 4, 5, 6, 10, 11]) (r := [(3, pB b4 0), (4, pB b5 0), (5, pB b6 0), (6, pB b7 0), (10, pB b12 0), (11, vI r16.2.2)]) hf54 (by kernel_rfl)
      exact ⟨z8, r16.2.2, r16.1, r16.2.1, b12, k8, hf55, (St.pick 1 [0] hS31 (by kernel_rfl)), hr15⟩
    ·rintro a52 ww29 ⟨z4, y13, y11, y12, b8, k9, hf56, hS32, hr16⟩
     refine w_seq (by kernel_rfl) ?_
     refine w_sq [] [(3, pB b4 0), (4, pB b5 0), (5, pB b6 0), (6, pB b7 0), (10, pB b8 0), (36, .bool (y13 != (0 : Int)))] [] hf56 (by kernel_rfl) .nil fun a53 hf57 => ?_
     refine w_if hf57 (b := (y13 != (0 : Int))) (by kernel_rfl) (fun hb3 => ?_) (fun hb3 => ?_)
     ·have hr17 := cond_t hb3 hr16
      refine w_sr (by kernel_rfl) ?_
      refine p_qn 1 [] [(6, pB b7 0), (37, .agg #[.slice none 0 0])] [] hf57 (by kernel_rfl) .nil fun a54 hf58 => ?_
      refine p_store_eq (i := 1) (j := 1) (b := b7) (off := 0) (vs := [.slice none 0 0]) (cs' := [.slice none 0 0]) hS32 hf58 rfl (by kernel_rfl) (by kernel_rfl) rfl fun ww30 a55 hS33 hf59 => ⟨fun _ => trivial, ?_⟩
      refine p_qt [] [(6, pB b7 0), (7, vI 4)] [] hf59 (by kernel_rfl) .nil fun a56 hf60 => ?_
      refine w_ret (by kernel_rfl) ?_
      refine r_then ?_
      refine p_ret (os := [.slice none 0 0]) (v := .tuple #[.agg #[.slice none 0 0], vI 4]) (obs := [.cell ⟨b7, 0, none⟩ (.slice none 0 0)]) hf60 (by kernel_rfl) (.cell (hS33.box (i := 1) rfl (j := 0) rfl) .nil) ?_
      have hS34 := St.ownNil hS33 PtT 52
      exact ⟨_, rfl, z4, [], 4, none, 0, (Zone.le_trans (Zone.le_trans k3 k4) k9), rfl, (St.pick 6 [0] hS34 (by kernel_rfl)), hr17⟩
     ·have hr18 := cond_f hb3 hr16
      refine w_skip (by kernel_rfl) ?_
      refine n_then ?_
      refine w_sq [] [(3, pB b4 0), (4, pB b5 0), (5, pB b6 0), (6, pB b7 0), (10, pB b8 0), (12, .slice none 0 0)] [] hf57 (by kernel_rfl) .nil fun a57 hf61 => ?_
      refine w_seq (by kernel_rfl) ?_
      refine w_sr (by kernel_rfl) ?_
      refine p_qn 4 [.slice o_x0 x0.length c_x0, .slice o_x1 x1.length c_x1] [(3, pB b4 0), (4, pB b5 0), (5, pB b6 0), (6, pB b7 0), (10, pB b8 0), (12, .slice none 0 0), (39, .slice o_x0 x0.length c_x0), (41, .slice o_x1 x1.length c_x1)] [.cell ⟨b4, 0, none⟩ (.slice o_x0 x0.length c_x0), .cell ⟨b5, 0, none⟩ (.slice o_x1 x1.length c_x1)] hf61 (by kernel_rfl) (.cell (hS32.box (i := 4) rfl (j := 0) rfl) (.cell (hS32.box (i := 3) rfl (j := 0) rfl) .nil)) fun a58 hf62 => ?_
      refine p_box (i := 4) (d := (some 42)) (cs := [.slice o_x0 x0.length c_x0, .slice o_x1 x1.length c_x1]) (T := 22) (v := fun b13 => .slice (some ⟨b13, 0, none⟩) 2 2) hS32 hf62 (fun b => by kernel_rfl) fun b13 ww31 a59 hS35 hf63 => ⟨fun _ => trivial, ?_⟩
      have hS36 := hS35.ownBox (T := (Ty.slice PtT)) (E := 22) (n := 2) (xs := [x0, x1]) (i := 0) rfl (Rows.cons (c := [.slice o_x0 x0.length c_x0]) (sliceRep ((SliceR.mono (Zone.le_trans (Zone.le_trans k3 k4) k9) hx_x0))) (Rows.cons (c := [.slice o_x1 x1.length c_x1]) (sliceRep ((SliceR.mono (Zone.le_trans (Zone.le_trans k3 k4) k9) hx_x1))) rfl)) rfl (by decide)
      obtain ⟨z9, k10, hS37, hx1⟩ := hS36.share (j := 0) rfl
      obtain ⟨r4, hd12, hr19⟩ := bind_some hr18
      refine p_call (i := 5) (d := some 43) (f := 125) (args := #[.slice (some ⟨b13, 0, none⟩) 2 2]) hf63 (by kernel_rfl) (f125_ok fuel ([x0, x1]) r4 hd12 z9 _ _ hS37 (some ⟨b13, 0, none⟩) 2 hx1) ?_
      rintro v12 ww32 a60 ⟨z10, e2, q2, k11, rfl, hS38, hx2⟩ hf64
      refine ⟨fun _ => trivial, ?_⟩
      refine p_qt [] [(3, pB b4 0), (4, pB b5 0), (5, pB b6 0), (6, pB b7 0), (10, pB b8 0), (12, .slice none 0 0), (43, .slice e2 r4.length q2), (44, vI (r4.length : Int)), (45, vI 0)] [] hf64 (by kernel_rfl) .nil fun a61 hf65 => ?_
      refine w_block (id := 0) (by kernel_rfl) ?_
      have hS39 := hS38.ownNil Ty.int 3
      have hf66 := Fr.keep (ks := [3, 4, 5, 6, 10, 12, 43, 44, 45]) (r := [(3, pB b4 0), (4, pB b5 0), (5, pB b6 0), (6, pB b7 0), (10, pB b8 0), (12, .slice none 0 0), (43, .slice e2 r4.length q2), (44, vI (r4.length : Int)), (45, vI 0)]) hf65 (by kernel_rfl)
      refine w_loop (by kernel_rfl) (fun n a w => ∃ z11 : Zone, ∃ y10 : List Int, ∃ y3 : Int, ∃ e3 : Option Addr, ∃ q3 : Nat, Zone.le z10 z11 ∧ Fr a 72 [(3, pB b4 0), (4, pB b5 0), (5, pB b6 0), (6, pB b7 0), (10, pB b8 0), (12, .slice e3 y10.length q3), (43, .slice e2 r4.length q2), (44, vI (r4.length : Int)), (45, vI y3)] ∧ St z11 (ownS Ty.int 3 e3 q3 y10 :: emp :: box b8 [vI y11, vI y12] 41 :: box b7 [.slice none 0 0] 24 :: box b6 [.func (.func 114) #[] #[]] 118 :: box b5 [.slice o_x1 x1.length c_x1] 24 :: box b4 [.slice o_x0 x0.length c_x0] 24 :: box b3 [.slice none 0 0] 24 :: box b2 [.slice o_x1 x1.length c_x1] 24 :: box b1 [.slice o_x0 x0.length c_x0] 24 :: L) w ∧ (F59_l1 fuel x0 x1 y11 y12 r4 n y10 y3) = some r) fuel ⟨z10, [], 0, none, 0, (Zone.le_refl _), hf66, hS39, hr19⟩ ?_
      rintro n3 a62 ww33 ⟨z11, y10, y3, e3, q3, k12, hf67, hS40, hr20⟩
      cases n3 with
      | zero => cases hr20
      | succ n2 =>
      refine w_sq [] [(3, pB b4 0), (4, pB b5 0), (5, pB b6 0), (6, pB b7 0), (10, pB b8 0), (12, .slice e3 y10.length q3), (43, .slice e2 r4.length q2), (44, vI (r4.length : Int)), (45, vI y3), (46, .bool (decide (y3 < (r4.length : Int))))] [] hf67 (by kernel_rfl) .nil fun a63 hf68 => ?_
      refine w_seq (by kernel_rfl) ?_
      refine w_if hf68 (b := (decide (y3 < (r4.length : Int)))) (by kernel_rfl) (fun hb4 => ?_) (fun hb4 => ?_)
      ·have hr21 := cond_t hb4 hr20
       refine w_skip (by kernel_rfl) ?_
       refine n_then ?_
       refine w_mid (by kernel_rfl) (fun a w => ∃ z12 : Zone, ∃ y4 : List Int, ∃ e4 : Option Addr, ∃ q4 : Nat, Zone.le z11 z12 ∧ Fr a 72 [(3, pB b4 0), (4, pB b5 0), (5, pB b6 0), (6, pB b7 0), (10, pB b8 0), (12, .slice e4 y4.length q4), (43, .slice e2 r4.length q2), (44, vI (r4.length : Int)), (45, vI y3)] ∧ St z12 (ownS Ty.int 3 e4 q4 y4 :: emp :: box b8 [vI y11, vI y12] 41 :: box b7 [.slice none 0 0] 24 :: box b6 [.func (.func 114) #[] #[]] 118 :: box b5 [.slice o_x1 x1.length c_x1] 24 :: box b4 [.slice o_x0 x0.length c_x0] 24 :: box b3 [.slice none 0 0] 24 :: box b2 [.slice o_x1 x1.length c_x1] 24 :: box b1 [.slice o_x0 x0.length c_x0] 24 :: L) w ∧ (F59_j3 (F59_l1 fuel x0 x1 y11 y12 r4 n2) y3 y4) = some r) ?_ ?_
       ·skip
        refine w_block (id := 1) (by kernel_rfl) ?_
        refine w_sr (by kernel_rfl) ?_
        obtain ⟨p2, hp17172, hr22⟩ := bind_some hr21
        obtain ⟨ad1, ho1, hb5, cc1, hc1, hk1⟩ := SliceR.getI (SliceR.mono k12 hx2) hp17172
        subst hc1
        refine p_qn 2 [.pointer (some ad1), vI p2.x, vI p2.lo, vI p2.hi] [(3, pB b4 0), (4, pB b5 0), (5, pB b6 0), (6, pB b7 0), (10, pB b8 0), (12, .slice e3 y10.length q3), (43, .slice e2 r4.length q2), (44, vI (r4.length : Int)), (45, vI y3), (48, .agg #[vI p2.x, vI p2.lo, vI p2.hi])] [.prop (e2 = some ad1), .prop (0 ≤ y3 ∧ y3 < (r4.length : Nat)), .cell ((ad1.add (Int.toNat y3 * 3)).add 0) (vI p2.x), .cell ((ad1.add (Int.toNat y3 * 3)).add 1) (vI p2.lo), .cell ((ad1.add (Int.toNat y3 * 3)).add 2) (vI p2.hi)] hf68 (by kernel_rfl) (.prop ho1 (.prop hb5 (.cell (hS40.cell (hk1 0 _ rfl)) (.cell (hS40.cell (hk1 1 _ rfl)) (.cell (hS40.cell (hk1 2 _ rfl)) .nil))))) fun a64 hf69 => ?_
        refine p_box (i := 2) (d := (some 14)) (cs := [vI 0, vI 0, vI 0]) (T := 52) (v := fun b14 => pB b14 0) hS40 hf69 (fun b => by kernel_rfl) fun b14 ww34 a65 hS41 hf70 => ⟨fun _ => trivial, ?_⟩
        refine p_store_eq (i := 3) (j := 0) (b := b14) (off := 0) (vs := [vI p2.x, vI p2.lo, vI p2.hi]) (cs' := [vI p2.x, vI p2.lo, vI p2.hi]) hS41 hf70 rfl (by kernel_rfl) (by kernel_rfl) rfl fun ww35 a66 hS42 hf71 => ⟨fun _ => trivial, ?_⟩
        refine p_dt (by kernel_rfl) ?_
        refine w_sr (by kernel_rfl) ?_
        refine p_qn 3 [vI y11, vI y12, vI p2.x] [(3, pB b4 0), (4, pB b5 0), (5, pB b6 0), (6, pB b7 0), (10, pB b8 0), (12, .slice e3 y10.length q3), (14, pB b14 0), (43, .slice e2 r4.length q2), (44, vI (r4.length : Int)), (45, vI y3), (49, .agg #[vI y11, vI y12]), (51, vI p2.x)] [.cell ⟨b8, 0, none⟩ (vI y11), .cell ⟨b8, 1, none⟩ (vI y12), .cell ⟨b14, 0, none⟩ (vI p2.x)] hf71 (by kernel_rfl) (.cell (hS42.box (i := 3) rfl (j := 0) rfl) (.cell (hS42.box (i := 3) rfl (j := 1) rfl) (.cell (hS42.box (i := 0) rfl (j := 0) rfl) .nil))) fun a67 hf72 => ?_
        obtain ⟨r5, hd13, hr23⟩ := bind_some hr22
        refine p_call (i := 3) (d := some 52) (f := 43) (args := #[.agg #[vI y11, vI y12], vI p2.x]) hf72 (by kernel_rfl) (f43_ok fuel y11 y12 p2.x r5 hd13 z11 _ _ hS42 ) ?_
        rintro v13 ww36 a68 ⟨z13, k13, rfl, hS43⟩ hf73
        refine ⟨fun _ => trivial, ?_⟩
        refine p_dt (by kernel_rfl) ?_
        refine w_if hf73 (b := r5) (by kernel_rfl) (fun hb6 => ?_) (fun hb6 => ?_)
        ·have hr24 := cond_t hb6 hr23
         refine w_reg (by kernel_rfl) ?_
         refine p_qn 3 [vI p2.x] [(3, pB b4 0), (4, pB b5 0), (5, pB b6 0), (6, pB b7 0), (10, pB b8 0), (43, .slice e2 r4.length q2), (44, vI (r4.length : Int)), (45, vI y3), (53, .slice e3 y10.length q3), (55, vI p2.x)] [.cell ⟨b14, 0, none⟩ (vI p2.x)] hf73 (by kernel_rfl) (.cell (hS43.box (i := 0) rfl (j := 0) rfl) .nil) fun a69 hf74 => ?_
         refine p_box (i := 3) (d := (some 56)) (cs := [vI p2.x]) (T := 3) (v := fun b15 => .slice (some ⟨b15, 0, none⟩) 1 1) hS43 hf74 (fun b => by kernel_rfl) fun b15 ww37 a70 hS44 hf75 => ⟨fun _ => trivial, ?_⟩
         have hS45 := hS44.ownBox (T := Ty.int) (E := 3) (n := 1) (xs := [p2.x]) (i := 0) rfl (Rows.cons (c := [vI p2.x]) rfl rfl) rfl (by decide)
         obtain ⟨d2, hd14, hr25⟩ := bind_some hr24
         refine p_append (T := Ty.int) (i := 4) (j := 2) (d := some 57) (o2 := (some ⟨b15, 0, none⟩)) (c2 := 1) (ys := ([p2.x])) el25 hS45 hf75 rfl (by kernel_rfl) (hS45.ownSrc (j := 0) rfl) hd14 fun e5 q5 ww38 a71 hS46 hf76 => ⟨fun _ => trivial, ?_⟩
         refine p_qz [] [(3, pB b4 0), (4, pB b5 0), (5, pB b6 0), (6, pB b7 0), (10, pB b8 0), (12, .slice e5 d2.length q5), (43, .slice e2 r4.length q2), (44, vI (r4.length : Int)), (45, vI y3)] [] hf76 (by kernel_rfl) .nil fun a72 hf77 => ?_
         refine n_block ?_
         refine n_then ?_
         have hf78 := Fr.keep (ks := [3, 4, 5, 6, 10, 12, 43, 44, 45]) (r := [(3, pB b4 0), (4, pB b5 0), (5, pB b6 0), (6, pB b7 0), (10, pB b8 0), (12, .slice e5 d2.length q5), (43, .slice e2 r4.length q2), (44, vI (r4.length : Int)), (45, vI y3)]) hf77 (by kernel_rfl)
         exact ⟨z13, d2, e5, q5, k13, hf78, (St.drop 2 hS46), hr25⟩
        ·have hr26 := cond_f hb6 hr23
         refine w_skip (by kernel_rfl) ?_
         refine n_block ?_
         refine n_then ?_
         have hf79 := Fr.keep (ks := [3, 4, 5, 6, 10, 12, 43, 44, 45]) (r := [(3, pB b4 0), (4, pB b5 0), (5, pB b6 0), (6, pB b7 0), (10, pB b8 0), (12, .slice e3 y10.length q3), (43, .slice e2 r4.length q2), (44, vI (r4.length : Int)), (45, vI y3)]) hf73 (by kernel_rfl)
         exact ⟨z13, y10, e3, q3, k13, hf79, (St.drop 1 hS43), hr26⟩
       ·rintro a73 ww39 ⟨z12, y4, e4, q4, k14, hf80, hS47, hr27⟩
        refine w_q [] [(3, pB b4 0), (4, pB b5 0), (5, pB b6 0), (6, pB b7 0), (10, pB b8 0), (12, .slice e4 y4.length q4), (43, .slice e2 r4.length q2), (44, vI (r4.length : Int)), (45, vI (w64 (y3 + (1 : Int))))] [] hf80 (by kernel_rfl) .nil fun a74 hf81 => ?_
        refine n_then ?_
        have hf82 := Fr.keep (ks := [3, 4, 5, 6, 10, 12, 43, 44, 45]) (r := [(3, pB b4 0), (4, pB b5 0), (5, pB b6 0), (6, pB b7 0), (10, pB b8 0), (12, .slice e4 y4.length q4), (43, .slice e2 r4.length q2), (44, vI (r4.length : Int)), (45, vI (w64 (y3 + (1 : Int))))]) hf81 (by kernel_rfl)
        exact ⟨n2, Nat.lt_succ_self n2, z12, y4, (w64 (y3 + (1 : Int))), e4, q4, (Zone.le_trans k12 k14), hf82, hS47, hr27⟩
      ·have hr28 := cond_f hb4 hr20
       refine w_exit (id := 0) (by kernel_rfl) ?_
       refine x_then ?_
       refine x_then ?_
       refine x_block ?_
       refine n_then ?_
       refine w_sr (by kernel_rfl) ?_
       refine p_qn 1 [] [(3, pB b4 0), (4, pB b5 0), (5, pB b6 0), (6, pB b7 0), (12, .slice e3 y10.length q3), (59, .slice e3 y10.length q3)] [] hf68 (by kernel_rfl) .nil fun a75 hf83 => ?_
       obtain ⟨u1, hd15, hr29⟩ := bind_some hr28
       refine p_call (i := 1) (d := some 60) (f := 126) (args := #[.slice e3 y10.length q3]) hf83 (by kernel_rfl) (sort126 hS40 (j := 0) rfl (lenC_spec hd15)) ?_
       rintro v14 ww40 a76 ⟨rfl, hS48⟩ hf84
       have hl1 := sortL_len y10
       have hf85 := Fr.conv (fl' := [(60, .tuple #[]), (3, pB b4 0), (4, pB b5 0), (5, pB b6 0), (6, pB b7 0), (12, .slice e3 ((sortL y10).length) q3), (59, .slice e3 ((sortL y10).length) q3)]) hf84 (by rw [hl1] <;> rfl)
       refine ⟨fun _ => trivial, ?_⟩
       refine p_dt (by kernel_rfl) ?_
       refine w_sr (by kernel_rfl) ?_
       refine p_qn 1 [] [(3, pB b4 0), (4, pB b5 0), (5, pB b6 0), (6, pB b7 0), (61, .slice e3 ((sortL y10).length) q3)] [] hf85 (by kernel_rfl) .nil fun a77 hf86 => ?_
       obtain ⟨u2, hd16, hr30⟩ := bind_some hr29
       refine p_call (i := 1) (d := some 62) (f := 127) (args := #[.slice e3 ((sortL y10).length) q3]) hf86 (by kernel_rfl) (compact127 hS48 (j := 0) rfl (lenC_spec hd16)) ?_
       rintro v15 ww41 a78 ⟨rfl, hS49⟩ hf87
       refine ⟨fun _ => trivial, ?_⟩
       refine p_qt [] [(3, pB b4 0), (4, pB b5 0), (5, pB b6 0), (6, pB b7 0), (12, .slice e3 ((compL (sortL y10)).length) q3)] [] hf87 (by kernel_rfl) .nil fun a79 hf88 => ?_
       refine w_seq (by kernel_rfl) ?_
       refine w_sq [] [(3, pB b4 0), (4, pB b5 0), (5, pB b6 0), (6, pB b7 0), (12, .slice e3 ((compL (sortL y10)).length) q3), (65, .bool (decide (((compL (sortL y10)).length : Int) > (40 : Int))))] [] hf88 (by kernel_rfl) .nil fun a80 hf89 => ?_
       refine w_if hf89 (b := (decide (((compL (sortL y10)).length : Int) > (40 : Int)))) (by kernel_rfl) (fun hb7 => ?_) (fun hb7 => ?_)
       ·have hr31 := cond_t hb7 hr30
        refine w_sr (by kernel_rfl) ?_
        refine p_qn 1 [] [(6, pB b7 0), (66, .agg #[.slice none 0 0])] [] hf89 (by kernel_rfl) .nil fun a81 hf90 => ?_
        refine p_store_eq (i := 1) (j := 3) (b := b7) (off := 0) (vs := [.slice none 0 0]) (cs' := [.slice none 0 0]) hS49 hf90 rfl (by kernel_rfl) (by kernel_rfl) rfl fun ww42 a82 hS50 hf91 => ⟨fun _ => trivial, ?_⟩
        refine p_qt [] [(6, pB b7 0), (7, vI 2)] [] hf91 (by kernel_rfl) .nil fun a83 hf92 => ?_
        refine w_ret (by kernel_rfl) ?_
        refine r_then ?_
        refine p_ret (os := [.slice none 0 0]) (v := .tuple #[.agg #[.slice none 0 0], vI 2]) (obs := [.cell ⟨b7, 0, none⟩ (.slice none 0 0)]) hf92 (by kernel_rfl) (.cell (hS50.box (i := 3) rfl (j := 0) rfl) .nil) ?_
        have hS51 := St.ownNil hS50 PtT 52
        exact ⟨_, rfl, z11, [], 2, none, 0, (Zone.le_trans (Zone.le_trans (Zone.le_trans (Zone.le_trans (Zone.le_trans k3 k4) k9) k10) k11) k12), rfl, (St.pick 8 [0] hS51 (by kernel_rfl)), hr31⟩
       ·have hr32 := cond_f hb7 hr30
        refine w_skip (by kernel_rfl) ?_
        refine n_then ?_
        refine w_sr (by kernel_rfl) ?_
        refine p_qn 2 [] [(6, pB b7 0), (67, .slice e3 ((compL (sortL y10)).length) q3), (68, .func (.func 128) #[] #[pB b6 0, pB b4 0, pB b5 0])] [] hf89 (by kernel_rfl) .nil fun a84 hf93 => ?_
        refine p_call (i := 2) (d := some 69) (f := 115) (args := #[.slice e3 ((compL (sortL y10)).length) q3, .func (.func 128) #[] #[pB b6 0, pB b4 0, pB b5 0]]) hf93 (by kernel_rfl) (Φ := fun v w => ∃ z14 : Zone, ∃ y5 : List Pt, ∃ y6 : Int, ∃ e6 : Option Addr, ∃ q6 : Nat, Zone.le z11 z14 ∧ v = .tuple #[.agg #[.slice e6 y5.length q6], vI y6] ∧ St z14 (ownS PtT 52 e6 q6 y5 :: ownS Ty.int 3 e3 q3 (compL (sortL y10)) :: emp :: box b8 [vI y11, vI y12] 41 :: box b7 [.slice none 0 0] 24 :: box b6 [.func (.func 114) #[] #[]] 118 :: box b5 [.slice o_x1 x1.length c_x1] 24 :: box b4 [.slice o_x0 x0.length c_x0] 24 :: box b3 [.slice none 0 0] 24 :: box b2 [.slice o_x1 x1.length c_x1] 24 :: box b1 [.slice o_x0 x0.length c_x0] 24 :: L) w ∧ (F59_j4 y5 y6) = some r) ?_ ?_
        ·refine calls_intro (N := 41) Try.func115 (by kernel_rfl) fun a85 hf94 => ?_
         refine w_sr (by kernel_rfl) ?_
         refine p_box (i := 0) (d := (some 4)) (cs := [.slice none 0 0]) (T := 24) (v := fun b16 => pB b16 0) hS49 hf94 (fun b => by kernel_rfl) fun b16 ww43 a86 hS52 hf95 => ⟨fun _ => trivial, ?_⟩
         refine p_qt [] [(0, .slice e3 ((compL (sortL y10)).length) q3), (1, .func (.func 128) #[] #[pB b6 0, pB b4 0, pB b5 0]), (4, pB b16 0)] [] hf95 (by kernel_rfl) .nil fun a87 hf96 => ?_
         refine w_sr (by kernel_rfl) ?_
         refine p_box (i := 0) (d := (some 6)) (cs := [.slice none 0 0]) (T := 24) (v := fun b17 => pB b17 0) hS52 hf96 (fun b => by kernel_rfl) fun b17 ww44 a88 hS53 hf97 => ⟨fun _ => trivial, ?_⟩
         refine p_dt (by kernel_rfl) ?_
         refine w_seq (by kernel_rfl) ?_
         refine w_sq [] [(1, .func (.func 128) #[] #[pB b6 0, pB b4 0, pB b5 0]), (4, pB b16 0), (6, pB b17 0), (10, .slice e3 ((compL (sortL y10)).length) q3), (11, vI ((compL (sortL y10)).length : Int)), (12, vI 0)] [] hf97 (by kernel_rfl) .nil fun a89 hf98 => ?_
         refine w_block (id := 0) (by kernel_rfl) ?_
         have hS54 := hS53.ownNil PtT 52
         have hf99 := Fr.keep (ks := [1, 4, 6, 10, 11, 12]) (r := [(1, .func (.func 128) #[] #[pB b6 0, pB b4 0, pB b5 0]), (4, pB b16 0), (6, pB b17 0), (10, .slice e3 ((compL (sortL y10)).length) q3), (11, vI ((compL (sortL y10)).length : Int)), (12, vI 0)]) hf98 (by kernel_rfl)
         refine w_loop (by kernel_rfl) (fun n a w => ∃ z15 : Zone, ∃ y7 : List Pt, ∃ y8 : Int, ∃ e7 : Option Addr, ∃ q7 : Nat, Zone.le z11 z15 ∧ Fr a 41 [(1, .func (.func 128) #[] #[pB b6 0, pB b4 0, pB b5 0]), (4, pB b16 0), (6, pB b17 0), (10, .slice e3 ((compL (sortL y10)).length) q3), (11, vI ((compL (sortL y10)).length : Int)), (12, vI y8)] ∧ St z15 (ownS PtT 52 e7 q7 y7 :: box b17 [.slice e7 y7.length q7] 24 :: box b16 [.slice none 0 0] 24 :: ownS Ty.int 3 e3 q3 (compL (sortL y10)) :: emp :: box b8 [vI y11, vI y12] 41 :: box b7 [.slice none 0 0] 24 :: box b6 [.func (.func 114) #[] #[]] 118 :: box b5 [.slice o_x1 x1.length c_x1] 24 :: box b4 [.slice o_x0 x0.length c_x0] 24 :: box b3 [.slice none 0 0] 24 :: box b2 [.slice o_x1 x1.length c_x1] 24 :: box b1 [.slice o_x0 x0.length c_x0] 24 :: L) w ∧ (F59_l2 fuel x0 x1 y10 n y7 y8) = some r) fuel ⟨z11, [], 0, none, 0, (Zone.le_refl _), hf99, hS54, hr32⟩ ?_
         rintro n4 a90 ww45 ⟨z15, y7, y8, e7, q7, k15, hf100, hS55, hr33⟩
         cases n4 with
         | zero => cases hr33
         | succ n1 =>
         refine w_sq [] [(1, .func (.func 128) #[] #[pB b6 0, pB b4 0, pB b5 0]), (4, pB b16 0), (6, pB b17 0), (10, .slice e3 ((compL (sortL y10)).length) q3), (11, vI ((compL (sortL y10)).length : Int)), (12, vI y8), (13, .bool (decide (y8 < ((compL (sortL y10)).length : Int))))] [] hf100 (by kernel_rfl) .nil fun a91 hf101 => ?_
         refine w_seq (by kernel_rfl) ?_
         refine w_if hf101 (b := (decide (y8 < ((compL (sortL y10)).length : Int)))) (by kernel_rfl) (fun hb8 => ?_) (fun hb8 => ?_)
         ·have hr34 := cond_t hb8 hr33
          refine w_skip (by kernel_rfl) ?_
          refine n_then ?_
          refine w_seq (by kernel_rfl) ?_
          refine w_block (id := 1) (by kernel_rfl) ?_
          obtain ⟨p1, hp28170, hr35⟩ := bind_some hr34
          obtain ⟨ad2, ho2, hb9, cc2, hc2, hk2⟩ := hS55.ownGet (j := 3) rfl hp28170
          subst hc2
          refine w_sq [.pointer (some ad2), vI p1] [(1, .func (.func 128) #[] #[pB b6 0, pB b4 0, pB b5 0]), (4, pB b16 0), (6, pB b17 0), (8, vI p1), (10, .slice e3 ((compL (sortL y10)).length) q3), (11, vI ((compL (sortL y10)).length : Int)), (12, vI y8)] [.prop (e3 = some ad2), .prop (0 ≤ y8 ∧ y8 < ((compL (sortL y10)).length : Nat)), .cell ((ad2.add (Int.toNat y8 * 1)).add 0) (vI p1)] hf101 (by kernel_rfl) (.prop ho2 (.prop hb9 (.cell (hk2 0 _ rfl) .nil))) fun a92 hf102 => ?_
          refine w_sr (by kernel_rfl) ?_
          refine p_qn 2 [] [(1, .func (.func 128) #[] #[pB b6 0, pB b4 0, pB b5 0]), (4, pB b16 0), (6, pB b17 0), (8, vI p1), (10, .slice e3 ((compL (sortL y10)).length) q3), (11, vI ((compL (sortL y10)).length : Int)), (12, vI y8), (16, .func (.func 128) #[] #[pB b6 0, pB b4 0, pB b5 0]), (17, vI p1)] [] hf102 (by kernel_rfl) .nil fun a93 hf103 => ?_
          refine p_inl (i := 2) (d := some 18) (f := 128) (args := #[vI p1, pB b6 0, pB b4 0, pB b5 0]) (N' := 14) hf103 (by kernel_rfl) Try.func128 (by kernel_rfl) fun a94 hf104 => ?_
          refine w_sr (by kernel_rfl) ?_
          refine p_box (i := 0) (d := (some 5)) (cs := [vI 0, vI 0]) (T := 41) (v := fun b18 => pB b18 0) hS55 hf104 (fun b => by kernel_rfl) fun b18 ww46 a95 hS56 hf105 => ⟨fun _ => trivial, ?_⟩
          refine p_dt (by kernel_rfl) ?_
          refine w_seq (by kernel_rfl) ?_
          have hS57 := hS56.drew
          have s7 : Sub z15 (box b18 [vI 0, vI 0] 41 :: ownS PtT 52 e7 q7 y7 :: box b17 [.slice e7 y7.length q7] 24 :: box b16 [.slice none 0 0] 24 :: ownS Ty.int 3 e3 q3 (compL (sortL y10)) :: emp :: box b8 [vI y11, vI y12] 41 :: box b7 [.slice none 0 0] 24 :: box b6 [.func (.func 114) #[] #[]] 118 :: box b5 [.slice o_x1 x1.length c_x1] 24 :: box b4 [.slice o_x0 x0.length c_x0] 24 :: box b3 [.slice none 0 0] 24 :: box b2 [.slice o_x1 x1.length c_x1] 24 :: box b1 [.slice o_x0 x0.length c_x0] 24 :: L) _ := Sub.of (Zone.le_refl _) hS57
          refine w_regD (by kernel_rfl) [(0, true), (1, true), (2, true), (4, true), (5, true), (3, false), (6, false), (7, false), (8, false)] [7, 8] (Sub z15 (box b18 [vI 0, vI 0] 41 :: ownS PtT 52 e7 q7 y7 :: box b17 [.slice e7 y7.length q7] 24 :: box b16 [.slice none 0 0] 24 :: ownS Ty.int 3 e3 q3 (compL (sortL y10)) :: emp :: box b8 [vI y11, vI y12] 41 :: box b7 [.slice none 0 0] 24 :: box b6 [.func (.func 114) #[] #[]] 118 :: box b5 [.slice o_x1 x1.length c_x1] 24 :: box b4 [.slice o_x0 x0.length c_x0] 24 :: box b3 [.slice none 0 0] 24 :: box b2 [.slice o_x1 x1.length c_x1] 24 :: box b1 [.slice o_x0 x0.length c_x0] 24 :: L)) (by kernel_rfl) s7 ?_
          refine p_qS 5 [.func (.func 114) #[] #[], .slice o_x0 x0.length c_x0, .slice o_x1 x1.length c_x1] [(5, pB b18 0), (6, .func (.func 114) #[] #[]), (7, .agg #[.slice o_x0 x0.length c_x0]), (8, vI p1), (10, .agg #[.slice o_x1 x1.length c_x1]), (11, vI p1)] [.cell ⟨b6, 0, none⟩ (.func (.func 114) #[] #[]), .cell ⟨b4, 0, none⟩ (.slice o_x0 x0.length c_x0), .cell ⟨b5, 0, none⟩ (.slice o_x1 x1.length c_x1)] [] s7 hf105 (by kernel_rfl) (fun _ s => (.cell (s.box (i := 8) rfl (j := 0) rfl) (.cell (s.box (i := 10) rfl (j := 0) rfl) (.cell (s.box (i := 9) rfl (j := 0) rfl) .nil)))) .nil fun a96 hf106 => ?_
          obtain ⟨r2, hd17, hr36⟩ := bind_some hr35
          refine p_call (i := 3) (d := some 9) (f := 88) (args := #[.agg #[.slice o_x0 x0.length c_x0], vI p1]) hf106 (by kernel_rfl) (f88_ok fuel x0 p1 r2 hd17 z15 _ _ hS57 o_x0 c_x0 (SliceR.mono (Zone.le_trans (Zone.le_trans (Zone.le_trans (Zone.le_trans (Zone.le_trans (Zone.le_trans k3 k4) k9) k10) k11) k12) k15) hx_x0)) ?_
          rintro v16 ww47 a97 ⟨z16, k16, rfl, hS58⟩ hf107
          refine ⟨fun _ => Sub.of k16 hS58, ?_⟩
          have s8 : Sub z15 (box b18 [vI 0, vI 0] 41 :: ownS PtT 52 e7 q7 y7 :: box b17 [.slice e7 y7.length q7] 24 :: box b16 [.slice none 0 0] 24 :: ownS Ty.int 3 e3 q3 (compL (sortL y10)) :: emp :: box b8 [vI y11, vI y12] 41 :: box b7 [.slice none 0 0] 24 :: box b6 [.func (.func 114) #[] #[]] 118 :: box b5 [.slice o_x1 x1.length c_x1] 24 :: box b4 [.slice o_x0 x0.length c_x0] 24 :: box b3 [.slice none 0 0] 24 :: box b2 [.slice o_x1 x1.length c_x1] 24 :: box b1 [.slice o_x0 x0.length c_x0] 24 :: L) _ := Sub.of k16 hS58
          obtain ⟨r3, hd18, hr37⟩ := bind_some hr36
          refine p_call (i := 6) (d := some 12) (f := 88) (args := #[.agg #[.slice o_x1 x1.length c_x1], vI p1]) hf107 (by kernel_rfl) (f88_ok fuel x1 p1 r3 hd18 z16 _ _ hS58 o_x1 c_x1 (SliceR.mono (Zone.le_trans (Zone.le_trans (Zone.le_trans (Zone.le_trans (Zone.le_trans (Zone.le_trans (Zone.le_trans k3 k4) k9) k10) k11) k12) k15) k16) hx_x1)) ?_
          rintro v17 ww48 a98 ⟨z17, k17, rfl, hS59⟩ hf108
          refine ⟨fun _ => Sub.of (Zone.le_trans k16 k17) hS59, ?_⟩
          have s9 : Sub z15 (box b18 [vI 0, vI 0] 41 :: ownS PtT 52 e7 q7 y7 :: box b17 [.slice e7 y7.length q7] 24 :: box b16 [.slice none 0 0] 24 :: ownS Ty.int 3 e3 q3 (compL (sortL y10)) :: emp :: box b8 [vI y11, vI y12] 41 :: box b7 [.slice none 0 0] 24 :: box b6 [.func (.func 114) #[] #[]] 118 :: box b5 [.slice o_x1 x1.length c_x1] 24 :: box b4 [.slice o_x0 x0.length c_x0] 24 :: box b3 [.slice none 0 0] 24 :: box b2 [.slice o_x1 x1.length c_x1] 24 :: box b1 [.slice o_x0 x0.length c_x0] 24 :: L) _ := Sub.of (Zone.le_trans k16 k17) hS59
          obtain ⟨r1, hd19, hr38⟩ := bind_some hr37
          refine p_call (i := 7) (d := some 13) (f := 114) (args := #[.agg #[vI r2.1, vI r2.2], .agg #[vI r3.1, vI r3.2]]) hf108 (by kernel_rfl) (f114_ok fuel r2.1 r2.2 r3.1 r3.2 r1 hd19 z17 _ _ hS59 ) ?_
          rintro v18 ww49 a99 ⟨rfl, hS60⟩ hf109
          refine ⟨fun e => absurd e (by decide), ?_⟩
          refine p_store_eq (i := 8) (j := 0) (b := b18) (off := 0) (vs := [vI r1.1, vI r1.2]) (cs' := [vI r1.1, vI r1.2]) hS60 hf109 rfl (by kernel_rfl) (by kernel_rfl) rfl fun ww50 a100 hS61 hf110 => ⟨fun e => absurd e (by decide), ?_⟩
          refine p_dt (by kernel_rfl) ?_
          refine w_ret (by kernel_rfl) ?_
          refine p_ret (os := [vI r1.1, vI r1.2]) (v := .agg #[vI r1.1, vI r1.2]) (obs := [.cell ⟨b18, 0, none⟩ (vI r1.1), .cell ⟨b18, 1, none⟩ (vI r1.2)]) hf110 (by kernel_rfl) (.cell (hS61.box (i := 0) rfl (j := 0) rfl) (.cell (hS61.box (i := 0) rfl (j := 1) rfl) .nil)) ?_
          refine ⟨_, rfl, fun a101 hf111 => ?_⟩
          have hS62 := St.drop 1 hS61
          refine ⟨fun _ => trivial, ?_⟩
          refine p_box (i := 3) (d := (some 9)) (cs := [vI 0, vI 0]) (T := 41) (v := fun b19 => pB b19 0) hS62 hf111 (fun b => by kernel_rfl) fun b19 ww51 a102 hS63 hf112 => ⟨fun _ => trivial, ?_⟩
          refine p_store_eq (i := 4) (j := 0) (b := b19) (off := 0) (vs := [vI r1.1, vI r1.2]) (cs' := [vI r1.1, vI r1.2]) hS63 hf112 rfl (by kernel_rfl) (by kernel_rfl) rfl fun ww52 a103 hS64 hf113 => ⟨fun _ => trivial, ?_⟩
          refine p_dt (by kernel_rfl) ?_
          refine w_seq (by kernel_rfl) ?_
          refine w_mid (by kernel_rfl) (fun a w => ∃ z18 : Zone, ∃ y9 : Bool, Zone.le z17 z18 ∧ Fr a 41 [(1, .func (.func 128) #[] #[pB b6 0, pB b4 0, pB b5 0]), (4, pB b16 0), (6, pB b17 0), (8, vI p1), (9, pB b19 0), (10, .slice e3 ((compL (sortL y10)).length) q3), (11, vI ((compL (sortL y10)).length : Int)), (12, vI y8), (26, .bool y9)] ∧ St z18 (box b19 [vI r1.1, vI r1.2] 41 :: ownS PtT 52 e7 q7 y7 :: box b17 [.slice e7 y7.length q7] 24 :: box b16 [.slice none 0 0] 24 :: ownS Ty.int 3 e3 q3 (compL (sortL y10)) :: emp :: box b8 [vI y11, vI y12] 41 :: box b7 [.slice none 0 0] 24 :: box b6 [.func (.func 114) #[] #[]] 118 :: box b5 [.slice o_x1 x1.length c_x1] 24 :: box b4 [.slice o_x0 x0.length c_x0] 24 :: box b3 [.slice none 0 0] 24 :: box b2 [.slice o_x1 x1.length c_x1] 24 :: box b1 [.slice o_x0 x0.length c_x0] 24 :: L) w ∧ (F59_j5 (F59_l2 fuel x0 x1 y10 n1) y7 y8 p1 r1 y9) = some r) ?_ ?_
          ·skip
           refine w_reg (by kernel_rfl) ?_
           refine p_qn 4 [vI r1.1] [(1, .func (.func 128) #[] #[pB b6 0, pB b4 0, pB b5 0]), (4, pB b16 0), (6, pB b17 0), (8, vI p1), (9, pB b19 0), (10, .slice e3 ((compL (sortL y10)).length) q3), (11, vI ((compL (sortL y10)).length : Int)), (12, vI y8), (22, .bool (decide (r1.1 < (-1000000000 : Int))))] [.cell ⟨b19, 0, none⟩ (vI r1.1)] hf113 (by kernel_rfl) (.cell (hS64.box (i := 0) rfl (j := 0) rfl) .nil) fun a104 hf114 => ?_
           rcases Bool.eq_false_or_eq_true (decide (r1.1 < (-1000000000 : Int))) with hb10 | hb10
           ·have hr39 := cond_t hb10 hr38
            have hf115 := Fr.conv hf114 (congrArg (fun z => ([(1, .func (.func 128) #[] #[pB b6 0, pB b4 0, pB b5 0]), (4, pB b16 0), (6, pB b17 0), (8, vI p1), (9, pB b19 0), (10, .slice e3 ((compL (sortL y10)).length) q3), (11, vI ((compL (sortL y10)).length : Int)), (12, vI y8), (22, .bool z)] : FL)) hb10)
            refine p_qt [] [(1, .func (.func 128) #[] #[pB b6 0, pB b4 0, pB b5 0]), (4, pB b16 0), (6, pB b17 0), (8, vI p1), (9, pB b19 0), (10, .slice e3 ((compL (sortL y10)).length) q3), (11, vI ((compL (sortL y10)).length : Int)), (12, vI y8), (23, undef), (24, undef), (25, undef), (26, .bool true)] [] hf115 (by kernel_rfl) .nil fun a105 hf116 => ?_
            have hf117 := Fr.keep (ks := [1, 4, 6, 8, 9, 10, 11, 12, 26]) (r := [(1, .func (.func 128) #[] #[pB b6 0, pB b4 0, pB b5 0]), (4, pB b16 0), (6, pB b17 0), (8, vI p1), (9, pB b19 0), (10, .slice e3 ((compL (sortL y10)).length) q3), (11, vI ((compL (sortL y10)).length : Int)), (12, vI y8), (26, .bool true)]) hf116 (by kernel_rfl)
            exact ⟨z17, true, (Zone.le_refl _), hf117, hS64, hr39⟩
           ·have hr40 := cond_f hb10 hr38
            have hf118 := Fr.conv hf114 (congrArg (fun z => ([(1, .func (.func 128) #[] #[pB b6 0, pB b4 0, pB b5 0]), (4, pB b16 0), (6, pB b17 0), (8, vI p1), (9, pB b19 0), (10, .slice e3 ((compL (sortL y10)).length) q3), (11, vI ((compL (sortL y10)).length : Int)), (12, vI y8), (22, .bool z)] : FL)) hb10)
            refine p_qt [vI r1.2] [(1, .func (.func 128) #[] #[pB b6 0, pB b4 0, pB b5 0]), (4, pB b16 0), (6, pB b17 0), (8, vI p1), (9, pB b19 0), (10, .slice e3 ((compL (sortL y10)).length) q3), (11, vI ((compL (sortL y10)).length : Int)), (12, vI y8), (23, pB b19 1), (24, vI r1.2), (25, .bool (decide (r1.2 > (1000000000 : Int)))), (26, .bool (decide (r1.2 > (1000000000 : Int))))] [.cell ⟨b19, 1, none⟩ (vI r1.2)] hf118 (by kernel_rfl) (.cell (hS64.box (i := 0) rfl (j := 1) rfl) .nil) fun a106 hf119 => ?_
            have hf120 := Fr.keep (ks := [1, 4, 6, 8, 9, 10, 11, 12, 26]) (r := [(1, .func (.func 128) #[] #[pB b6 0, pB b4 0, pB b5 0]), (4, pB b16 0), (6, pB b17 0), (8, vI p1), (9, pB b19 0), (10, .slice e3 ((compL (sortL y10)).length) q3), (11, vI ((compL (sortL y10)).length : Int)), (12, vI y8), (26, .bool (decide (r1.2 > (1000000000 : Int))))]) hf119 (by kernel_rfl)
            exact ⟨z17, (decide (r1.2 > (1000000000 : Int))), (Zone.le_refl _), hf120, hS64, hr40⟩
          ·rintro a107 ww53 ⟨z18, y9, k18, hf121, hS65, hr41⟩
           refine w_if hf121 (b := y9) (by kernel_rfl) (fun hb11 => ?_) (fun hb11 => ?_)
           ·have hr42 := cond_t hb11 hr41
            refine w_sr (by kernel_rfl) ?_
            refine p_qn 1 [] [(4, pB b16 0), (27, .agg #[.slice none 0 0])] [] hf121 (by kernel_rfl) .nil fun a108 hf122 => ?_
            refine p_store_eq (i := 1) (j := 3) (b := b16) (off := 0) (vs := [.slice none 0 0]) (cs' := [.slice none 0 0]) hS65 hf122 rfl (by kernel_rfl) (by kernel_rfl) rfl fun ww54 a109 hS66 hf123 => ⟨fun _ => trivial, ?_⟩
            refine p_qt [] [(4, pB b16 0), (5, vI 5)] [] hf123 (by kernel_rfl) .nil fun a110 hf124 => ?_
            refine w_ret (by kernel_rfl) ?_
            refine r_then ?_
            refine r_block ?_
            refine r_then ?_
            refine r_then ?_
            refine r_block ?_
            refine r_then ?_
            refine p_ret (os := [.slice none 0 0]) (v := .tuple #[.agg #[.slice none 0 0], vI 5]) (obs := [.cell ⟨b16, 0, none⟩ (.slice none 0 0)]) hf124 (by kernel_rfl) (.cell (hS66.box (i := 3) rfl (j := 0) rfl) .nil) ?_
            have hS67 := St.ownNil hS66 PtT 52
            exact ⟨_, rfl, z18, [], 5, none, 0, (Zone.le_trans (Zone.le_trans (Zone.le_trans k15 k16) k17) k18), rfl, (St.pick 5 [0] hS67 (by kernel_rfl)), hr42⟩
           ·have hr43 := cond_f hb11 hr41
            refine w_skip (by kernel_rfl) ?_
            refine n_then ?_
            refine w_reg (by kernel_rfl) ?_
            refine p_qn 8 [.slice e7 y7.length q7, vI r1.1, vI r1.2] [(1, .func (.func 128) #[] #[pB b6 0, pB b4 0, pB b5 0]), (4, pB b16 0), (6, pB b17 0), (10, .slice e3 ((compL (sortL y10)).length) q3), (11, vI ((compL (sortL y10)).length : Int)), (12, vI y8), (29, .slice e7 y7.length q7), (35, .agg #[vI p1, vI r1.1, vI r1.2])] [.cell ⟨b17, 0, none⟩ (.slice e7 y7.length q7), .cell ⟨b19, 0, none⟩ (vI r1.1), .cell ⟨b19, 1, none⟩ (vI r1.2)] hf121 (by kernel_rfl) (.cell (hS65.box (i := 2) rfl (j := 0) rfl) (.cell (hS65.box (i := 0) rfl (j := 0) rfl) (.cell (hS65.box (i := 0) rfl (j := 1) rfl) .nil))) fun a111 hf125 => ?_
            refine p_box (i := 8) (d := (some 36)) (cs := [vI p1, vI r1.1, vI r1.2]) (T := 52) (v := fun b20 => .slice (some ⟨b20, 0, none⟩) 1 1) hS65 hf125 (fun b => by kernel_rfl) fun b20 ww55 a112 hS68 hf126 => ⟨fun _ => trivial, ?_⟩
            have hS69 := hS68.ownBox (T := PtT) (E := 52) (n := 1) (xs := [⟨p1, r1.1, r1.2⟩]) (i := 0) rfl (Rows.cons (c := [vI p1, vI r1.1, vI r1.2]) rfl rfl) rfl (by decide)
            obtain ⟨d1, hd20, hr44⟩ := bind_some hr43
            refine p_append (T := PtT) (i := 9) (j := 2) (d := some 37) (o2 := (some ⟨b20, 0, none⟩)) (c2 := 1) (ys := ([⟨p1, r1.1, r1.2⟩])) el22 hS69 hf126 rfl (by kernel_rfl) (hS69.ownSrc (j := 0) rfl) hd20 fun e8 q8 ww56 a113 hS70 hf127 => ⟨fun _ => trivial, ?_⟩
            refine p_qn 1 [] [(1, .func (.func 128) #[] #[pB b6 0, pB b4 0, pB b5 0]), (4, pB b16 0), (6, pB b17 0), (10, .slice e3 ((compL (sortL y10)).length) q3), (11, vI ((compL (sortL y10)).length : Int)), (12, vI y8), (37, .slice e8 d1.length q8), (38, pB b17 0)] [] hf127 (by kernel_rfl) .nil fun a114 hf128 => ?_
            refine p_store_eq (i := 11) (j := 3) (b := b17) (off := 0) (vs := [.slice e8 d1.length q8]) (cs' := [.slice e8 d1.length q8]) hS70 hf128 rfl (by kernel_rfl) (by kernel_rfl) rfl fun ww57 a115 hS71 hf129 => ⟨fun _ => trivial, ?_⟩
            refine p_done (by kernel_rfl) ?_
            refine n_block ?_
            refine n_then ?_
            refine w_q [] [(1, .func (.func 128) #[] #[pB b6 0, pB b4 0, pB b5 0]), (4, pB b16 0), (6, pB b17 0), (10, .slice e3 ((compL (sortL y10)).length) q3), (11, vI ((compL (sortL y10)).length : Int)), (12, vI (w64 (y8 + (1 : Int))))] [] hf129 (by kernel_rfl) .nil fun a116 hf130 => ?_
            refine n_then ?_
            have hf131 := Fr.keep (ks := [1, 4, 6, 10, 11, 12]) (r := [(1, .func (.func 128) #[] #[pB b6 0, pB b4 0, pB b5 0]), (4, pB b16 0), (6, pB b17 0), (10, .slice e3 ((compL (sortL y10)).length) q3), (11, vI ((compL (sortL y10)).length : Int)), (12, vI (w64 (y8 + (1 : Int))))]) hf130 (by kernel_rfl)
            exact ⟨n1, Nat.lt_succ_self n1, z18, d1, (w64 (y8 + (1 : Int))), e8, q8, (Zone.le_trans (Zone.le_trans (Zone.le_trans k15 k16) k17) k18), hf131, (St.drop 2 hS71), hr44⟩
         ·have hr45 := cond_f hb8 hr33
          refine w_exit (id := 0) (by kernel_rfl) ?_
          refine x_then ?_
          refine x_then ?_
          refine x_block ?_
          refine n_then ?_
          refine w_sr (by kernel_rfl) ?_
          refine p_qn 1 [.slice e7 y7.length q7] [(4, pB b16 0), (40, .agg #[.slice e7 y7.length q7])] [.cell ⟨b17, 0, none⟩ (.slice e7 y7.length q7)] hf101 (by kernel_rfl) (.cell (hS55.box (i := 1) rfl (j := 0) rfl) .nil) fun a117 hf132 => ?_
          refine p_store_eq (i := 1) (j := 2) (b := b16) (off := 0) (vs := [.slice e7 y7.length q7]) (cs' := [.slice e7 y7.length q7]) hS55 hf132 rfl (by kernel_rfl) (by kernel_rfl) rfl fun ww58 a118 hS72 hf133 => ⟨fun _ => trivial, ?_⟩
          refine p_qt [] [(4, pB b16 0), (5, vI 0)] [] hf133 (by kernel_rfl) .nil fun a119 hf134 => ?_
          refine w_ret (by kernel_rfl) ?_
          refine p_ret (os := [.slice e7 y7.length q7]) (v := .tuple #[.agg #[.slice e7 y7.length q7], vI 0]) (obs := [.cell ⟨b16, 0, none⟩ (.slice e7 y7.length q7)]) hf134 (by kernel_rfl) (.cell (hS72.box (i := 2) rfl (j := 0) rfl) .nil) ?_
          exact ⟨_, rfl, z15, y7, 0, e7, q7, k15, rfl, (St.pick 3 [0] hS72 (by kernel_rfl)), hr45⟩
        ·rintro v19 ww59 a120 ⟨z14, y5, y6, e6, q6, k19, rfl, hS73, hr46⟩ hf135
         refine ⟨fun _ => trivial, ?_⟩
         refine p_qn 2 [] [(6, pB b7 0), (70, .agg #[.slice e6 y5.length q6]), (71, vI y6)] [] hf135 (by kernel_rfl) .nil fun a121 hf136 => ?_
         refine p_store_eq (i := 5) (j := 4) (b := b7) (off := 0) (vs := [.slice e6 y5.length q6]) (cs' := [.slice e6 y5.length q6]) hS73 hf136 rfl (by kernel_rfl) (by kernel_rfl) rfl fun ww60 a122 hS74 hf137 => ⟨fun _ => trivial, ?_⟩
         refine p_qt [] [(6, pB b7 0), (7, vI y6)] [] hf137 (by kernel_rfl) .nil fun a123 hf138 => ?_
         refine w_ret (by kernel_rfl) ?_
         refine p_ret (os := [.slice e6 y5.length q6]) (v := .tuple #[.agg #[.slice e6 y5.length q6], vI y6]) (obs := [.cell ⟨b7, 0, none⟩ (.slice e6 y5.length q6)]) hf138 (by kernel_rfl) (.cell (hS74.box (i := 4) rfl (j := 0) rfl) .nil) ?_
         exact ⟨_, rfl, z14, y5, y6, e6, q6, (Zone.le_trans (Zone.le_trans (Zone.le_trans (Zone.le_trans (Zone.le_trans (Zone.le_trans k3 k4) k9) k10) k11) k12) k19), rfl, (St.pick 8 [0] hS74 (by kernel_rfl)), hr46⟩
 ·rintro v20 ww61 a124 ⟨z1, y1, y2, e1, q1, k20, rfl, hS75, hr47⟩ hf139
  refine ⟨fun _ => trivial, ?_⟩
  refine p_qn 2 [] [(4, pB b3 0), (9, .agg #[.slice e1 y1.length q1]), (10, vI y2)] [] hf139 (by kernel_rfl) .nil fun a125 hf140 => ?_
  refine p_store_eq (i := 5) (j := 1) (b := b3) (off := 0) (vs := [.slice e1 y1.length q1]) (cs' := [.slice e1 y1.length q1]) hS75 hf140 rfl (by kernel_rfl) (by kernel_rfl) rfl fun ww62 a126 hS76 hf141 => ⟨fun _ => trivial, ?_⟩
  refine p_qt [] [(4, pB b3 0), (5, vI y2)] [] hf141 (by kernel_rfl) .nil fun a127 hf142 => ?_
  refine w_ret (by kernel_rfl) ?_
  obtain ⟨z19, k21, hS77, hx3⟩ := hS76.share (j := 0) rfl
  refine p_ret (os := [.slice e1 y1.length q1]) (v := .tuple #[.agg #[.slice e1 y1.length q1], vI y2]) (obs := [.cell ⟨b3, 0, none⟩ (.slice e1 y1.length q1)]) hf142 (by kernel_rfl) (.cell (hS77.box (i := 1) rfl (j := 0) rfl) .nil) ?_
  obtain rfl := some_eq hr47
  exact ⟨_, rfl, z19, e1, q1, (Zone.le_trans k20 k21), rfl, (St.drop 4 hS77), hx3⟩
def F40_j4 (k1 : Int → Int → Bool → Int → Option (Int × Int × Int)) (x1 : Int) (y1 : Int) (r1 : Int) (r2 : Int) (y2 : Int) (y3 : Int) (y4 : Bool) : Option (Int × Int × Int) :=
  (k1 (if (w64 ((w64 (r1 * x1)) + r2)) < y2 then (w64 ((w64 (r1 * x1)) + r2)) else y2) (if (w64 ((w64 (r1 * x1)) + r2)) > y3 then (w64 ((w64 (r1 * x1)) + r2)) else y3) y4 (w64 (y1 + (1 : Int))))
def F40_j3 (fuel : Nat) (k1 : Int → Int → Bool → Int → Option (Int × Int × Int)) (x1 : Int) (x2 : Int) (y1 : Int) (p1 : Int) (r1 : Int) (r3 : Int) (y5 : Int) (y6 : Int) (y7 : Bool) : Option (Int × Int × Int) :=
  ((F86 fuel (w64 ((w64 (p1 - (w64 (r1 * x2)))) * x1)) x2).bind fun r2 => (cond (!y7) (F40_j4 k1 x1 y1 r1 r2 (w64 ((w64 (r1 * x1)) + r2)) (w64 ((w64 (r1 * x1)) + r2)) true) (F40_j4 k1 x1 y1 r1 r2 (if (w64 ((w64 (r1 * x1)) + r3)) < y5 then (w64 ((w64 (r1 * x1)) + r3)) else y5) (if (w64 ((w64 (r1 * x1)) + r3)) > y6 then (w64 ((w64 (r1 * x1)) + r3)) else y6) y7)))
def F40_j2 (fuel : Nat) (k1 : Int → Int → Bool → Int → Option (Int × Int × Int)) (x1 : Int) (x2 : Int) (y8 : Int) (y9 : Int) (y10 : Bool) (y1 : Int) (p1 : Int) (r1 : Int) (y11 : Bool) : Option (Int × Int × Int) :=
  (cond y11 (some (0, 0, 5)) ((F85 fuel (w64 ((w64 (p1 - (w64 (r1 * x2)))) * x1)) x2).bind fun r3 => (cond (!y10) (F40_j3 fuel k1 x1 x2 y1 p1 r1 r3 (w64 ((w64 (r1 * x1)) + r3)) (w64 ((w64 (r1 * x1)) + r3)) true) (F40_j3 fuel k1 x1 x2 y1 p1 r1 r3 y8 y9 y10))))
def F40_j5 (y12 : Int) (y13 : Int) (y14 : Int) : Option (Int × Int × Int) :=
  (some (y12, y13, y14))
def F40_l1 (fuel : Nat) (x0_lo : Int) (x0_hi : Int) (x1 : Int) (x2 : Int) : Nat → Int → Int → Bool → Int → Option (Int × Int × Int)
  | 0, _, _, _, _ => none
  | n1 + 1, y8, y9, y10, y1 =>
    let k1 : Int → Int → Bool → Int → Option (Int × Int × Int) := F40_l1 fuel x0_lo x0_hi x1 x2 n1
    (cond (decide (y1 < (2 : Int))) ((getI ([(x0_lo : Int), (x0_hi : Int)]) y1).bind fun p1 => ((F85 fuel p1 x2).bind fun r1 => (cond (x1 != (0 : Int)) ((nz (if (w64 (0 - x1)) > x1 then (w64 (0 - x1)) else x1)).bind fun _ => (F40_j2 fuel k1 x1 x2 y8 y9 y10 y1 p1 r1 (decide ((if (w64 (0 - r1)) > r1 then (w64 (0 - r1)) else r1) > (w64 (Int.tdiv 2000000000000000 (if (w64 (0 - x1)) > x1 then (w64 (0 - x1)) else x1))))))) (F40_j2 fuel k1 x1 x2 y8 y9 y10 y1 p1 r1 false)))) ((F52 fuel y8 y9).bind fun r4 => (cond (r4 != (0 : Int)) (F40_j5 0 0 5) (F40_j5 y8 y9 0))))
def F40_j1 (fuel : Nat) (x0_lo : Int) (x0_hi : Int) (x1 : Int) (x2 : Int) (y15 : Bool) : Option (Int × Int × Int) :=
  (cond y15 (some (0, 0, 1)) (F40_l1 fuel x0_lo x0_hi x1 x2 fuel 0 0 false 0))
def F40 (fuel : Nat) (x0_lo : Int) (x0_hi : Int) (x1 : Int) (x2 : Int) : Option (Int × Int × Int) :=
  ((F52 fuel x0_lo x0_hi).bind fun r5 => (cond (r5 != (0 : Int)) (some (0, 0, r5)) ((F90 fuel x1 (-1000000000) 1000000000).bind fun r6 => (cond (!r6) (F40_j1 fuel x0_lo x0_hi x1 x2 true) ((F90 fuel x2 1 1000000000).bind fun r7 => (F40_j1 fuel x0_lo x0_hi x1 x2 (!r7)))))))
set_option maxRecDepth 100000 in
theorem f40_ok (fuel : Nat) (x0_lo : Int) (x0_hi : Int) (x1 : Int) (x2 : Int) (r : Int × Int × Int) (hr : F40 fuel x0_lo x0_hi x1 x2 = some r) (h : Zone) (L : List Atom) (w : World) (hS : St h L w)  :
    Calls Try.prog 40 #[.agg #[vI x0_lo, vI x0_hi], vI x1, vI x2] w fun e w' => ∃ v, e = .returned v ∧ (∃ h', Zone.le h h' ∧ v = .tuple #[.agg #[vI r.1, vI r.2.1], vI r.2.2] ∧ St h' L w') := by
 refine calls_intro (N := 86) Try.func40 (by kernel_rfl) fun a hf => ?_
 refine w_sr (by kernel_rfl) ?_
 refine p_box (i := 0) (d := (some 3)) (cs := [vI x0_lo, vI x0_hi]) (T := 41) (v := fun b1 => pB b1 0) hS hf (fun b => by kernel_rfl) fun b1 ww1 a1 hS1 hf1 => ⟨fun _ => trivial, ?_⟩
 refine p_box (i := 1) (d := (some 6)) (cs := [vI 0, vI 0]) (T := 41) (v := fun b2 => pB b2 0) hS1 hf1 (fun b => by kernel_rfl) fun b2 ww2 a2 hS2 hf2 => ⟨fun _ => trivial, ?_⟩
 refine p_qt [] [(1, vI x1), (2, vI x2), (3, pB b1 0), (6, pB b2 0)] [] hf2 (by kernel_rfl) .nil fun a3 hf3 => ?_
 refine w_seq (by kernel_rfl) ?_
 refine w_sr (by kernel_rfl) ?_
 refine p_qn 1 [vI x0_lo, vI x0_hi] [(1, vI x1), (2, vI x2), (3, pB b1 0), (6, pB b2 0), (15, .agg #[vI x0_lo, vI x0_hi])] [.cell ⟨b1, 0, none⟩ (vI x0_lo), .cell ⟨b1, 1, none⟩ (vI x0_hi)] hf3 (by kernel_rfl) (.cell (hS2.box (i := 1) rfl (j := 0) rfl) (.cell (hS2.box (i := 1) rfl (j := 1) rfl) .nil)) fun a4 hf4 => ?_
 obtain ⟨r5, hd1, hr1⟩ := bind_some hr
 refine p_call (i := 1) (d := some 16) (f := 52) (args := #[.agg #[vI x0_lo, vI x0_hi]]) hf4 (by kernel_rfl) (f52_ok fuel x0_lo x0_hi r5 hd1 h _ _ hS2 ) ?_
 rintro v1 ww3 a5 ⟨z1, k2, rfl, hS3⟩ hf5
 refine ⟨fun _ => trivial, ?_⟩
 refine p_qt [] [(1, vI x1), (2, vI x2), (3, pB b1 0), (6, pB b2 0), (8, vI r5)] [] hf5 (by kernel_rfl) .nil fun a6 hf6 => ?_
 refine w_sq [] [(1, vI x1), (2, vI x2), (3, pB b1 0), (6, pB b2 0), (8, vI r5), (18, .bool (r5 != (0 : Int)))] [] hf6 (by kernel_rfl) .nil fun a7 hf7 => ?_
 refine w_if hf7 (b := (r5 != (0 : Int))) (by kernel_rfl) (fun hb1 => ?_) (fun hb1 => ?_)
 ·have hr2 := cond_t hb1 hr1
  refine w_sr (by kernel_rfl) ?_
  refine p_qn 2 [] [(6, pB b2 0), (19, .agg #[vI 0, vI 0]), (20, vI r5)] [] hf7 (by kernel_rfl) .nil fun a8 hf8 => ?_
  refine p_store_eq (i := 2) (j := 0) (b := b2) (off := 0) (vs := [vI 0, vI 0]) (cs' := [vI 0, vI 0]) hS3 hf8 rfl (by kernel_rfl) (by kernel_rfl) rfl fun ww4 a9 hS4 hf9 => ⟨fun _ => trivial, ?_⟩
  refine p_qt [] [(6, pB b2 0), (7, vI r5)] [] hf9 (by kernel_rfl) .nil fun a10 hf10 => ?_
  refine w_ret (by kernel_rfl) ?_
  refine r_then ?_
  refine p_ret (os := [vI 0, vI 0]) (v := .tuple #[.agg #[vI 0, vI 0], vI r5]) (obs := [.cell ⟨b2, 0, none⟩ (vI 0), .cell ⟨b2, 1, none⟩ (vI 0)]) hf10 (by kernel_rfl) (.cell (hS4.box (i := 0) rfl (j := 0) rfl) (.cell (hS4.box (i := 0) rfl (j := 1) rfl) .nil)) ?_
  obtain rfl := some_eq hr2
  exact ⟨_, rfl, z1, k2, rfl, (St.drop 2 hS4)⟩
 ·have hr3 := cond_f hb1 hr1
  refine w_skip (by kernel_rfl) ?_
  refine n_then ?_
  refine w_seq (by kernel_rfl) ?_
  refine w_mid (by kernel_rfl) (fun a w => ∃ z2 : Zone, ∃ y15 : Bool, Zone.le z1 z2 ∧ Fr a 86 [(1, vI x1), (2, vI x2), (3, pB b1 0), (6, pB b2 0), (28, .bool y15)] ∧ St z2 (box b2 [vI 0, vI 0] 41 :: box b1 [vI x0_lo, vI x0_hi] 41 :: L) w ∧ (F40_j1 fuel x0_lo x0_hi x1 x2 y15) = some r) ?_ ?_
  ·skip
   refine w_reg (by kernel_rfl) ?_
   refine p_qn 1 [] [(1, vI x1), (2, vI x2), (3, pB b1 0), (6, pB b2 0), (21, vI x1)] [] hf7 (by kernel_rfl) .nil fun a11 hf11 => ?_
   obtain ⟨r6, hd2, hr4⟩ := bind_some hr3
   refine p_call (i := 1) (d := some 22) (f := 90) (args := #[vI x1, vI (-1000000000), vI 1000000000]) hf11 (by kernel_rfl) (f90_ok fuel x1 (-1000000000) 1000000000 r6 hd2 z1 _ _ hS3 ) ?_
   rintro v2 ww5 a12 ⟨z3, k3, rfl, hS5⟩ hf12
   refine ⟨fun _ => trivial, ?_⟩
   refine p_qn 2 [] [(1, vI x1), (2, vI x2), (3, pB b1 0), (6, pB b2 0), (24, .bool (!r6))] [] hf12 (by kernel_rfl) .nil fun a13 hf13 => ?_
   rcases Bool.eq_false_or_eq_true (!r6) with hb2 | hb2
   ·have hr5 := cond_t hb2 hr4
    have hf14 := Fr.conv hf13 (congrArg (fun z => ([(1, vI x1), (2, vI x2), (3, pB b1 0), (6, pB b2 0), (24, .bool z)] : FL)) hb2)
    refine p_qt [] [(1, vI x1), (2, vI x2), (3, pB b1 0), (6, pB b2 0), (28, .bool true)] [] hf14 (by kernel_rfl) .nil fun a14 hf15 => ?_
    have hf16 := Fr.keep (ks := [1, 2, 3, 6, 28]) (r := [(1, vI x1), (2, vI x2), (3, pB b1 0), (6, pB b2 0), (28, .bool true)]) hf15 (by kernel_rfl)
    exact ⟨z3, true, k3, hf16, hS5, hr5⟩
   ·have hr6 := cond_f hb2 hr4
    have hf17 := Fr.conv hf13 (congrArg (fun z => ([(1, vI x1), (2, vI x2), (3, pB b1 0), (6, pB b2 0), (24, .bool z)] : FL)) hb2)
    refine p_qn 1 [] [(1, vI x1), (2, vI x2), (3, pB b1 0), (6, pB b2 0), (24, .bool false), (25, vI x2)] [] hf17 (by kernel_rfl) .nil fun a15 hf18 => ?_
    obtain ⟨r7, hd3, hr7⟩ := bind_some hr6
    refine p_call (i := 5) (d := some 26) (f := 90) (args := #[vI x2, vI 1, vI 1000000000]) hf18 (by kernel_rfl) (f90_ok fuel x2 1 1000000000 r7 hd3 z3 _ _ hS5 ) ?_
    rintro v3 ww6 a16 ⟨z4, k4, rfl, hS6⟩ hf19
    refine ⟨fun _ => trivial, ?_⟩
    refine p_qt [] [(1, vI x1), (2, vI x2), (3, pB b1 0), (6, pB b2 0), (28, .bool (!r7))] [] hf19 (by kernel_rfl) .nil fun a17 hf20 => ?_
    have hf21 := Fr.keep (ks := [1, 2, 3, 6, 28]) (r := [(1, vI x1), (2, vI x2), (3, pB b1 0), (6, pB b2 0), (28, .bool (!r7))]) hf20 (by kernel_rfl)
    exact ⟨z4, (!r7), (Zone.le_trans k3 k4), hf21, hS6, hr7⟩
  ·rintro a18 ww7 ⟨z2, y15, k5, hf22, hS7, hr8⟩
   refine w_if hf22 (b := y15) (by kernel_rfl) (fun hb3 => ?_) (fun hb3 => ?_)
   ·have hr9 := cond_t hb3 hr8
    refine w_sr (by kernel_rfl) ?_
    refine p_qn 1 [] [(6, pB b2 0), (29, .agg #[vI 0, vI 0])] [] hf22 (by kernel_rfl) .nil fun a19 hf23 => ?_
    refine p_store_eq (i := 1) (j := 0) (b := b2) (off := 0) (vs := [vI 0, vI 0]) (cs' := [vI 0, vI 0]) hS7 hf23 rfl (by kernel_rfl) (by kernel_rfl) rfl fun ww8 a20 hS8 hf24 => ⟨fun _ => trivial, ?_⟩
    refine p_qt [] [(6, pB b2 0), (7, vI 1)] [] hf24 (by kernel_rfl) .nil fun a21 hf25 => ?_
    refine w_ret (by kernel_rfl) ?_
    refine r_then ?_
    refine p_ret (os := [vI 0, vI 0]) (v := .tuple #[.agg #[vI 0, vI 0], vI 1]) (obs := [.cell ⟨b2, 0, none⟩ (vI 0), .cell ⟨b2, 1, none⟩ (vI 0)]) hf25 (by kernel_rfl) (.cell (hS8.box (i := 0) rfl (j := 0) rfl) (.cell (hS8.box (i := 0) rfl (j := 1) rfl) .nil)) ?_
    obtain rfl := some_eq hr9
    exact ⟨_, rfl, z2, (Zone.le_trans k2 k5), rfl, (St.drop 2 hS8)⟩
   ·have hr10 := cond_f hb3 hr8
    refine w_skip (by kernel_rfl) ?_
    refine n_then ?_
    refine w_sr (by kernel_rfl) ?_
    refine p_box (i := 0) (d := (some 9)) (cs := [vI 0, vI 0, .bool false, .bool false]) (T := 100) (v := fun b3 => pB b3 0) hS7 hf22 (fun b => by kernel_rfl) fun b3 ww9 a22 hS9 hf26 => ⟨fun _ => trivial, ?_⟩
    refine p_dt (by kernel_rfl) ?_
    refine w_sq [] [(1, vI x1), (2, vI x2), (3, pB b1 0), (6, pB b2 0), (9, pB b3 0), (10, .func (.func 89) #[pB b3 0] #[])] [] hf26 (by kernel_rfl) .nil fun a23 hf27 => ?_
    refine w_seq (by kernel_rfl) ?_
    refine w_sq [vI x0_lo, vI x0_hi] [(1, vI x1), (2, vI x2), (6, pB b2 0), (9, pB b3 0), (10, .func (.func 89) #[pB b3 0] #[]), (35, .agg #[vI x0_lo, vI x0_hi]), (36, vI 0)] [.cell ⟨b1, 0, none⟩ (vI x0_lo), .cell ⟨b1, 1, none⟩ (vI x0_hi)] hf27 (by kernel_rfl) (.cell (hS9.box (i := 2) rfl (j := 0) rfl) (.cell (hS9.box (i := 2) rfl (j := 1) rfl) .nil)) fun a24 hf28 => ?_
    refine w_block (id := 0) (by kernel_rfl) ?_
    have hf29 := Fr.keep (ks := [1, 2, 6, 9, 10, 35, 36]) (r := [(1, vI x1), (2, vI x2), (6, pB b2 0), (9, pB b3 0), (10, .func (.func 89) #[pB b3 0] #[]), (35, .agg #[vI x0_lo, vI x0_hi]), (36, vI 0)]) hf28 (by kernel_rfl)
    refine w_loop (by kernel_rfl) (fun n a w => ∃ z5 : Zone, ∃ y8 : Int, ∃ y9 : Int, ∃ y10 : Bool, ∃ y1 : Int, Zone.le z2 z5 ∧ Fr a 86 [(1, vI x1), (2, vI x2), (6, pB b2 0), (9, pB b3 0), (10, .func (.func 89) #[pB b3 0] #[]), (35, .agg #[vI x0_lo, vI x0_hi]), (36, vI y1)] ∧ St z5 (box b3 [vI y8, vI y9, .bool y10, .bool false] 100 :: box b2 [vI 0, vI 0] 41 :: box b1 [vI x0_lo, vI x0_hi] 41 :: L) w ∧ (F40_l1 fuel x0_lo x0_hi x1 x2 n y8 y9 y10 y1) = some r) fuel ⟨z2, 0, 0, false, 0, (Zone.le_refl _), hf29, hS9, hr10⟩ ?_
    rintro n2 a25 ww10 ⟨z5, y8, y9, y10, y1, k6, hf30, hS10, hr11⟩
    cases n2 with
    | zero => cases hr11
    | succ n1 =>
    refine w_sq [] [(1, vI x1), (2, vI x2), (6, pB b2 0), (9, pB b3 0), (10, .func (.func 89) #[pB b3 0] #[]), (35, .agg #[vI x0_lo, vI x0_hi]), (36, vI y1), (37, .bool (decide (y1 < (2 : Int))))] [] hf30 (by kernel_rfl) .nil fun a26 hf31 => ?_
    refine w_seq (by kernel_rfl) ?_
    refine w_if hf31 (b := (decide (y1 < (2 : Int)))) (by kernel_rfl) (fun hb4 => ?_) (fun hb4 => ?_)
    ·have hr12 := cond_t hb4 hr11
     refine w_skip (by kernel_rfl) ?_
     refine n_then ?_
     refine w_seq (by kernel_rfl) ?_
     refine w_block (id := 1) (by kernel_rfl) ?_
     obtain ⟨p1, hp4834, hr13⟩ := bind_some hr12
     obtain ⟨hb5, hk1⟩ := getI_idx (f := Value.int .i64) (n := 2) rfl hp4834
     refine w_sq [vI p1] [(1, vI x1), (2, vI x2), (6, pB b2 0), (9, pB b3 0), (10, .func (.func 89) #[pB b3 0] #[]), (12, vI p1), (35, .agg #[vI x0_lo, vI x0_hi]), (36, vI y1)] [.prop (0 ≤ y1 ∧ y1 < (2 : Nat)), .prop ((#[vI x0_lo, vI x0_hi] : Array Value)[Int.toNat y1 * 1]? = some (vI p1))] hf31 (by kernel_rfl) (.prop hb5 (.prop hk1 .nil)) fun a27 hf32 => ?_
     refine w_sr (by kernel_rfl) ?_
     refine p_qn 2 [] [(1, vI x1), (2, vI x2), (6, pB b2 0), (9, pB b3 0), (10, .func (.func 89) #[pB b3 0] #[]), (12, vI p1), (35, .agg #[vI x0_lo, vI x0_hi]), (36, vI y1), (39, vI p1), (40, vI x2)] [] hf32 (by kernel_rfl) .nil fun a28 hf33 => ?_
     obtain ⟨r1, hd4, hr14⟩ := bind_some hr13
     refine p_call (i := 2) (d := some 41) (f := 85) (args := #[vI p1, vI x2]) hf33 (by kernel_rfl) (f85_ok fuel p1 x2 r1 hd4 z5 _ _ hS10 ) ?_
     rintro v4 ww11 a29 ⟨rfl, hS11⟩ hf34
     refine ⟨fun _ => trivial, ?_⟩
     refine p_qt [] [(1, vI x1), (2, vI x2), (6, pB b2 0), (9, pB b3 0), (10, .func (.func 89) #[pB b3 0] #[]), (12, vI p1), (13, vI r1), (35, .agg #[vI x0_lo, vI x0_hi]), (36, vI y1)] [] hf34 (by kernel_rfl) .nil fun a30 hf35 => ?_
     refine w_seq (by kernel_rfl) ?_
     refine w_mid (by kernel_rfl) (fun a w => ∃ z6 : Zone, ∃ y11 : Bool, Zone.le z5 z6 ∧ Fr a 86 [(1, vI x1), (2, vI x2), (6, pB b2 0), (9, pB b3 0), (10, .func (.func 89) #[pB b3 0] #[]), (12, vI p1), (13, vI r1), (35, .agg #[vI x0_lo, vI x0_hi]), (36, vI y1), (55, .bool y11)] ∧ St z6 (box b3 [vI y8, vI y9, .bool y10, .bool false] 100 :: box b2 [vI 0, vI 0] 41 :: box b1 [vI x0_lo, vI x0_hi] 41 :: L) w ∧ (F40_j2 fuel (F40_l1 fuel x0_lo x0_hi x1 x2 n1) x1 x2 y8 y9 y10 y1 p1 r1 y11) = some r) ?_ ?_
     ·skip
      refine w_reg (by kernel_rfl) ?_
      refine p_qn 3 [] [(1, vI x1), (2, vI x2), (6, pB b2 0), (9, pB b3 0), (10, .func (.func 89) #[pB b3 0] #[]), (12, vI p1), (13, vI r1), (35, .agg #[vI x0_lo, vI x0_hi]), (36, vI y1), (44, .bool (x1 != (0 : Int)))] [] hf35 (by kernel_rfl) .nil fun a31 hf36 => ?_
      rcases Bool.eq_false_or_eq_true (x1 != (0 : Int)) with hb6 | hb6
      ·have hr15 := cond_t hb6 hr14
       have hf37 := Fr.conv hf36 (congrArg (fun z => ([(1, vI x1), (2, vI x2), (6, pB b2 0), (9, pB b3 0), (10, .func (.func 89) #[pB b3 0] #[]), (12, vI p1), (13, vI r1), (35, .agg #[vI x0_lo, vI x0_hi]), (36, vI y1), (44, .bool z)] : FL)) hb6)
       obtain ⟨u1, hd5, hr16⟩ := bind_some hr15
       refine p_qt [] [(1, vI x1), (2, vI x2), (6, pB b2 0), (9, pB b3 0), (10, .func (.func 89) #[pB b3 0] #[]), (12, vI p1), (13, vI r1), (35, .agg #[vI x0_lo, vI x0_hi]), (36, vI y1), (45, vI r1), (46, vI r1), (47, vI (w64 (0 - r1))), (48, vI (if (w64 (0 - r1)) > r1 then (w64 (0 - r1)) else r1)), (49, vI x1), (50, vI x1), (51, vI (w64 (0 - x1))), (52, vI (if (w64 (0 - x1)) > x1 then (w64 (0 - x1)) else x1)), (53, vI (w64 (Int.tdiv 2000000000000000 (if (w64 (0 - x1)) > x1 then (w64 (0 - x1)) else x1)))), (54, .bool (decide ((if (w64 (0 - r1)) > r1 then (w64 (0 - r1)) else r1) > (w64 (Int.tdiv 2000000000000000 (if (w64 (0 - x1)) > x1 then (w64 (0 - x1)) else x1)))))), (55, .bool (decide ((if (w64 (0 - r1)) > r1 then (w64 (0 - r1)) else r1) > (w64 (Int.tdiv 2000000000000000 (if (w64 (0 - x1)) > x1 then (w64 (0 - x1)) else x1))))))] [.prop ((if (w64 (0 - x1)) > x1 then (w64 (0 - x1)) else x1) ≠ 0)] hf37 (by kernel_rfl) (.prop (nz_spec hd5) .nil) fun a32 hf38 => ?_
       have hf39 := Fr.keep (ks := [1, 2, 6, 9, 10, 12, 13, 35, 36, 55]) (r := [(1, vI x1), (2, vI x2), (6, pB b2 0), (9, pB b3 0), (10, .func (.func 89) #[pB b3 0] #[]), (12, vI p1), (13, vI r1), (35, .agg #[vI x0_lo, vI x0_hi]), (36, vI y1), (55, .bool (decide ((if (w64 (0 - r1)) > r1 then (w64 (0 - r1)) else r1) > (w64 (Int.tdiv 2000000000000000 (if (w64 (0 - x1)) > x1 then (w64 (0 - x1)) else x1))))))]) hf38 (by kernel_rfl)
       exact ⟨z5, (decide ((if (w64 (0 - r1)) > r1 then (w64 (0 - r1)) else r1) > (w64 (Int.tdiv 2000000000000000 (if (w64 (0 - x1)) > x1 then (w64 (0 - x1)) else x1))))), (Zone.le_refl _), hf39, hS11, hr16⟩
      ·have hr17 := cond_f hb6 hr14
       have hf40 := Fr.conv hf36 (congrArg (fun z => ([(1, vI x1), (2, vI x2), (6, pB b2 0), (9, pB b3 0), (10, .func (.func 89) #[pB b3 0] #[]), (12, vI p1), (13, vI r1), (35, .agg #[vI x0_lo, vI x0_hi]), (36, vI y1), (44, .bool z)] : FL)) hb6)
       refine p_qt [] [(1, vI x1), (2, vI x2), (6, pB b2 0), (9, pB b3 0), (10, .func (.func 89) #[pB b3 0] #[]), (12, vI p1), (13, vI r1), (35, .agg #[vI x0_lo, vI x0_hi]), (36, vI y1), (45, undef), (46, undef), (47, undef), (48, undef), (49, undef), (50, undef), (51, undef), (52, undef), (53, undef), (54, undef), (55, .bool false)] [] hf40 (by kernel_rfl) .nil fun a33 hf41 => ?_
       have hf42 := Fr.keep (ks := [1, 2, 6, 9, 10, 12, 13, 35, 36, 55]) (r := [(1, vI x1), (2, vI x2), (6, pB b2 0), (9, pB b3 0), (10, .func (.func 89) #[pB b3 0] #[]), (12, vI p1), (13, vI r1), (35, .agg #[vI x0_lo, vI x0_hi]), (36, vI y1), (55, .bool false)]) hf41 (by kernel_rfl)
       exact ⟨z5, false, (Zone.le_refl _), hf42, hS11, hr17⟩
     ·rintro a34 ww12 ⟨z6, y11, k7, hf43, hS12, hr18⟩
      refine w_if hf43 (b := y11) (by kernel_rfl) (fun hb7 => ?_) (fun hb7 => ?_)
      ·have hr19 := cond_t hb7 hr18
       refine w_sr (by kernel_rfl) ?_
       refine p_qn 1 [] [(6, pB b2 0), (56, .agg #[vI 0, vI 0])] [] hf43 (by kernel_rfl) .nil fun a35 hf44 => ?_
       refine p_store_eq (i := 1) (j := 1) (b := b2) (off := 0) (vs := [vI 0, vI 0]) (cs' := [vI 0, vI 0]) hS12 hf44 rfl (by kernel_rfl) (by kernel_rfl) rfl fun ww13 a36 hS13 hf45 => ⟨fun _ => trivial, ?_⟩
       refine p_qt [] [(6, pB b2 0), (7, vI 5)] [] hf45 (by kernel_rfl) .nil fun a37 hf46 => ?_
       refine w_ret (by kernel_rfl) ?_
       refine r_then ?_
       refine r_block ?_
       refine r_then ?_
       refine r_then ?_
       refine r_block ?_
       refine r_then ?_
       refine p_ret (os := [vI 0, vI 0]) (v := .tuple #[.agg #[vI 0, vI 0], vI 5]) (obs := [.cell ⟨b2, 0, none⟩ (vI 0), .cell ⟨b2, 1, none⟩ (vI 0)]) hf46 (by kernel_rfl) (.cell (hS13.box (i := 1) rfl (j := 0) rfl) (.cell (hS13.box (i := 1) rfl (j := 1) rfl) .nil)) ?_
       obtain rfl := some_eq hr19
       exact ⟨_, rfl, z6, (Zone.le_trans (Zone.le_trans (Zone.le_trans k2 k5) k6) k7), rfl, (St.drop 3 hS13)⟩
      ·have hr20 := cond_f hb7 hr18
       refine w_skip (by kernel_rfl) ?_
       refine n_then ?_
       refine w_sq [] [(1, vI x1), (2, vI x2), (6, pB b2 0), (9, pB b3 0), (10, .func (.func 89) #[pB b3 0] #[]), (13, vI r1), (14, vI (w64 ((w64 (p1 - (w64 (r1 * x2)))) * x1))), (35, .agg #[vI x0_lo, vI x0_hi]), (36, vI y1)] [] hf43 (by kernel_rfl) .nil fun a38 hf47 => ?_
       refine w_sr (by kernel_rfl) ?_
       refine p_qn 6 [] [(1, vI x1), (2, vI x2), (6, pB b2 0), (9, pB b3 0), (10, .func (.func 89) #[pB b3 0] #[]), (13, vI r1), (14, vI (w64 ((w64 (p1 - (w64 (r1 * x2)))) * x1))), (35, .agg #[vI x0_lo, vI x0_hi]), (36, vI y1), (64, .func (.func 89) #[pB b3 0] #[]), (67, vI (w64 (r1 * x1))), (68, vI (w64 ((w64 (p1 - (w64 (r1 * x2)))) * x1))), (69, vI x2)] [] hf47 (by kernel_rfl) .nil fun a39 hf48 => ?_
       obtain ⟨r3, hd6, hr21⟩ := bind_some hr20
       refine p_call (i := 6) (d := some 70) (f := 85) (args := #[vI (w64 ((w64 (p1 - (w64 (r1 * x2)))) * x1)), vI x2]) hf48 (by kernel_rfl) (f85_ok fuel (w64 ((w64 (p1 - (w64 (r1 * x2)))) * x1)) x2 r3 hd6 z6 _ _ hS12 ) ?_
       rintro v5 ww14 a40 ⟨rfl, hS14⟩ hf49
       refine ⟨fun _ => trivial, ?_⟩
       refine p_qn 1 [] [(1, vI x1), (2, vI x2), (6, pB b2 0), (9, pB b3 0), (10, .func (.func 89) #[pB b3 0] #[]), (13, vI r1), (14, vI (w64 ((w64 (p1 - (w64 (r1 * x2)))) * x1))), (35, .agg #[vI x0_lo, vI x0_hi]), (36, vI y1), (64, .func (.func 89) #[pB b3 0] #[]), (71, vI (w64 ((w64 (r1 * x1)) + r3)))] [] hf49 (by kernel_rfl) .nil fun a41 hf50 => ?_
       refine p_inl (i := 8) (d := some 72) (f := 89) (args := #[pB b3 0, vI (w64 ((w64 (r1 * x1)) + r3))]) (N' := 36) hf50 (by kernel_rfl) Try.func89 (by kernel_rfl) fun a42 hf51 => ?_
       refine w_mid (by kernel_rfl) (fun a w => ∃ z7 : Zone, ∃ y5 : Int, ∃ y6 : Int, ∃ y7 : Bool, Zone.le z6 z7 ∧ Fr a 36 [(0, pB b3 0), (1, vI (w64 ((w64 (r1 * x1)) + r3)))] ∧ St z7 (box b3 [vI y5, vI y6, .bool y7, .bool false] 100 :: box b2 [vI 0, vI 0] 41 :: box b1 [vI x0_lo, vI x0_hi] 41 :: L) w ∧ (F40_j3 fuel (F40_l1 fuel x0_lo x0_hi x1 x2 n1) x1 x2 y1 p1 r1 r3 y5 y6 y7) = some r) ?_ ?_
       ·skip
        refine w_sq [.bool y10] [(0, pB b3 0), (1, vI (w64 ((w64 (r1 * x1)) + r3))), (8, .bool (!y10))] [.cell ⟨b3, 2, none⟩ (.bool y10)] hf51 (by kernel_rfl) (.cell (hS14.box (i := 0) rfl (j := 2) rfl) .nil) fun a43 hf52 => ?_
        refine w_if hf52 (b := (!y10)) (by kernel_rfl) (fun hb8 => ?_) (fun hb8 => ?_)
        ·have hr22 := cond_t hb8 hr21
         refine w_reg (by kernel_rfl) ?_
         refine p_qn 7 [] [(0, pB b3 0), (1, vI (w64 ((w64 (r1 * x1)) + r3))), (10, pB b3 0), (13, .agg #[vI (w64 ((w64 (r1 * x1)) + r3)), vI (w64 ((w64 (r1 * x1)) + r3))]), (15, pB b3 0)] [] hf52 (by kernel_rfl) .nil fun a44 hf53 => ?_
         refine p_store_eq (i := 7) (j := 0) (b := b3) (off := 0) (vs := [vI (w64 ((w64 (r1 * x1)) + r3)), vI (w64 ((w64 (r1 * x1)) + r3))]) (cs' := [vI (w64 ((w64 (r1 * x1)) + r3)), vI (w64 ((w64 (r1 * x1)) + r3)), .bool y10, .bool false]) hS14 hf53 rfl (by kernel_rfl) (by kernel_rfl) rfl fun ww15 a45 hS15 hf54 => ⟨fun _ => trivial, ?_⟩
         refine p_qn 2 [] [(0, pB b3 0), (1, vI (w64 ((w64 (r1 * x1)) + r3))), (17, pB b3 2)] [] hf54 (by kernel_rfl) .nil fun a46 hf55 => ?_
         refine p_store_eq (i := 10) (j := 0) (b := b3) (off := 2) (vs := [.bool true]) (cs' := [vI (w64 ((w64 (r1 * x1)) + r3)), vI (w64 ((w64 (r1 * x1)) + r3)), .bool true, .bool false]) hS15 hf55 rfl (by kernel_rfl) (by kernel_rfl) rfl fun ww16 a47 hS16 hf56 => ⟨fun _ => trivial, ?_⟩
         refine p_dt (by kernel_rfl) ?_
         have hf57 := Fr.keep (ks := [0, 1]) (r := [(0, pB b3 0), (1, vI (w64 ((w64 (r1 * x1)) + r3)))]) hf56 (by kernel_rfl)
         exact ⟨z6, (w64 ((w64 (r1 * x1)) + r3)), (w64 ((w64 (r1 * x1)) + r3)), true, (Zone.le_refl _), hf57, hS16, hr22⟩
        ·have hr23 := cond_f hb8 hr21
         refine w_skip (by kernel_rfl) ?_
         refine n_then ?_
         have hf58 := Fr.keep (ks := [0, 1]) (r := [(0, pB b3 0), (1, vI (w64 ((w64 (r1 * x1)) + r3)))]) hf52 (by kernel_rfl)
         exact ⟨z6, y8, y9, y10, (Zone.le_refl _), hf58, hS14, hr23⟩
       ·rintro a48 ww17 ⟨z7, y5, y6, y7, k8, hf59, hS17, hr24⟩
        have hS18 := hS17.drew
        refine w_regD (by kernel_rfl) [(0, true), (1, true), (2, true), (3, true), (4, true), (5, true), (6, true), (7, true), (8, true), (9, true), (10, true), (11, true), (12, true), (13, true), (14, true), (15, true), (16, true), (17, true), (18, false)] [18] (fun x => x = ww17.drew) (by kernel_rfl) rfl ?_
        refine p_qE 18 [vI y5, vI y6] [(33, .agg #[vI (if (w64 ((w64 (r1 * x1)) + r3)) < y5 then (w64 ((w64 (r1 * x1)) + r3)) else y5), vI (if (w64 ((w64 (r1 * x1)) + r3)) > y6 then (w64 ((w64 (r1 * x1)) + r3)) else y6)]), (35, pB b3 0)] [.cell ⟨b3, 0, none⟩ (vI y5), .cell ⟨b3, 1, none⟩ (vI y6)] [] hf59 (by kernel_rfl) (.cell (hS18.box (i := 0) rfl (j := 0) rfl) (.cell (hS18.box (i := 0) rfl (j := 1) rfl) .nil)) .nil fun a49 hf60 => ?_
        refine p_store_eq (i := 18) (j := 0) (b := b3) (off := 0) (vs := [vI (if (w64 ((w64 (r1 * x1)) + r3)) < y5 then (w64 ((w64 (r1 * x1)) + r3)) else y5), vI (if (w64 ((w64 (r1 * x1)) + r3)) > y6 then (w64 ((w64 (r1 * x1)) + r3)) else y6)]) (cs' := [vI (if (w64 ((w64 (r1 * x1)) + r3)) < y5 then (w64 ((w64 (r1 * x1)) + r3)) else y5), vI (if (w64 ((w64 (r1 * x1)) + r3)) > y6 then (w64 ((w64 (r1 * x1)) + r3)) else y6), .bool y7, .bool false]) hS18 hf60 rfl (by kernel_rfl) (by kernel_rfl) rfl fun ww18 a50 hS19 hf61 => ⟨fun e => absurd e (by decide), ?_⟩
        refine p_done (by kernel_rfl) ?_
        refine p_fall (os := []) (v := .tuple #[]) (obs := []) hf61 (by kernel_rfl) .nil ?_
        refine ⟨_, rfl, fun a51 hf62 => ?_⟩
        refine ⟨fun _ => trivial, ?_⟩
        refine p_dt (by kernel_rfl) ?_
        refine w_reg (by kernel_rfl) ?_
        refine p_qn 6 [] [(1, vI x1), (2, vI x2), (6, pB b2 0), (9, pB b3 0), (10, .func (.func 89) #[pB b3 0] #[]), (35, .agg #[vI x0_lo, vI x0_hi]), (36, vI y1), (73, .func (.func 89) #[pB b3 0] #[]), (76, vI (w64 (r1 * x1))), (77, vI (w64 ((w64 (p1 - (w64 (r1 * x2)))) * x1))), (78, vI x2)] [] hf62 (by kernel_rfl) .nil fun a52 hf63 => ?_
        obtain ⟨r2, hd7, hr25⟩ := bind_some hr24
        refine p_call (i := 6) (d := some 79) (f := 86) (args := #[vI (w64 ((w64 (p1 - (w64 (r1 * x2)))) * x1)), vI x2]) hf63 (by kernel_rfl) (f86_ok fuel (w64 ((w64 (p1 - (w64 (r1 * x2)))) * x1)) x2 r2 hd7 z7 _ _ hS19 ) ?_
        rintro v6 ww19 a53 ⟨rfl, hS20⟩ hf64
        refine ⟨fun _ => trivial, ?_⟩
        refine p_qn 1 [] [(1, vI x1), (2, vI x2), (6, pB b2 0), (9, pB b3 0), (10, .func (.func 89) #[pB b3 0] #[]), (35, .agg #[vI x0_lo, vI x0_hi]), (36, vI y1), (73, .func (.func 89) #[pB b3 0] #[]), (80, vI (w64 ((w64 (r1 * x1)) + r2)))] [] hf64 (by kernel_rfl) .nil fun a54 hf65 => ?_
        refine p_inl (i := 8) (d := some 81) (f := 89) (args := #[pB b3 0, vI (w64 ((w64 (r1 * x1)) + r2))]) (N' := 36) hf65 (by kernel_rfl) Try.func89 (by kernel_rfl) fun a55 hf66 => ?_
        refine w_mid (by kernel_rfl) (fun a w => ∃ z8 : Zone, ∃ y2 : Int, ∃ y3 : Int, ∃ y4 : Bool, Zone.le z7 z8 ∧ Fr a 36 [(0, pB b3 0), (1, vI (w64 ((w64 (r1 * x1)) + r2)))] ∧ St z8 (box b3 [vI y2, vI y3, .bool y4, .bool false] 100 :: box b2 [vI 0, vI 0] 41 :: box b1 [vI x0_lo, vI x0_hi] 41 :: L) w ∧ (F40_j4 (F40_l1 fuel x0_lo x0_hi x1 x2 n1) x1 y1 r1 r2 y2 y3 y4) = some r) ?_ ?_
        ·skip
         refine w_sq [.bool y7] [(0, pB b3 0), (1, vI (w64 ((w64 (r1 * x1)) + r2))), (8, .bool (!y7))] [.cell ⟨b3, 2, none⟩ (.bool y7)] hf66 (by kernel_rfl) (.cell (hS20.box (i := 0) rfl (j := 2) rfl) .nil) fun a56 hf67 => ?_
         refine w_if hf67 (b := (!y7)) (by kernel_rfl) (fun hb9 => ?_) (fun hb9 => ?_)
         ·have hr26 := cond_t hb9 hr25
          refine w_reg (by kernel_rfl) ?_
          refine p_qn 7 [] [(0, pB b3 0), (1, vI (w64 ((w64 (r1 * x1)) + r2))), (10, pB b3 0), (13, .agg #[vI (w64 ((w64 (r1 * x1)) + r2)), vI (w64 ((w64 (r1 * x1)) + r2))]), (15, pB b3 0)] [] hf67 (by kernel_rfl) .nil fun a57 hf68 => ?_
          refine p_store_eq (i := 7) (j := 0) (b := b3) (off := 0) (vs := [vI (w64 ((w64 (r1 * x1)) + r2)), vI (w64 ((w64 (r1 * x1)) + r2))]) (cs' := [vI (w64 ((w64 (r1 * x1)) + r2)), vI (w64 ((w64 (r1 * x1)) + r2)), .bool y7, .bool false]) hS20 hf68 rfl (by kernel_rfl) (by kernel_rfl) rfl fun ww20 a58 hS21 hf69 => ⟨fun _ => trivial, ?_⟩
          refine p_qn 2 [] [(0, pB b3 0), (1, vI (w64 ((w64 (r1 * x1)) + r2))), (17, pB b3 2)] [] hf69 (by kernel_rfl) .nil fun a59 hf70 => ?_
          refine p_store_eq (i := 10) (j := 0) (b := b3) (off := 2) (vs := [.bool true]) (cs' := [vI (w64 ((w64 (r1 * x1)) + r2)), vI (w64 ((w64 (r1 * x1)) + r2)), .bool true, .bool false]) hS21 hf70 rfl (by kernel_rfl) (by kernel_rfl) rfl fun ww21 a60 hS22 hf71 => ⟨fun _ => trivial, ?_⟩
          refine p_dt (by kernel_rfl) ?_
          have hf72 := Fr.keep (ks := [0, 1]) (r := [(0, pB b3 0), (1, vI (w64 ((w64 (r1 * x1)) + r2)))]) hf71 (by kernel_rfl)
          exact ⟨z7, (w64 ((w64 (r1 * x1)) + r2)), (w64 ((w64 (r1 * x1)) + r2)), true, (Zone.le_refl _), hf72, hS22, hr26⟩
         ·have hr27 := cond_f hb9 hr25
          refine w_skip (by kernel_rfl) ?_
          refine n_then ?_
          have hf73 := Fr.keep (ks := [0, 1]) (r := [(0, pB b3 0), (1, vI (w64 ((w64 (r1 * x1)) + r2)))]) hf67 (by kernel_rfl)
          exact ⟨z7, (if (w64 ((w64 (r1 * x1)) + r3)) < y5 then (w64 ((w64 (r1 * x1)) + r3)) else y5), (if (w64 ((w64 (r1 * x1)) + r3)) > y6 then (w64 ((w64 (r1 * x1)) + r3)) else y6), y7, (Zone.le_refl _), hf73, hS20, hr27⟩
        ·rintro a61 ww22 ⟨z8, y2, y3, y4, k9, hf74, hS23, hr28⟩
         have hS24 := hS23.drew
         refine w_regD (by kernel_rfl) [(0, true), (1, true), (2, true), (3, true), (4, true), (5, true), (6, true), (7, true), (8, true), (9, true), (10, true), (11, true), (12, true), (13, true), (14, true), (15, true), (16, true), (17, true), (18, false)] [18] (fun x => x = ww22.drew) (by kernel_rfl) rfl ?_
         refine p_qE 18 [vI y2, vI y3] [(33, .agg #[vI (if (w64 ((w64 (r1 * x1)) + r2)) < y2 then (w64 ((w64 (r1 * x1)) + r2)) else y2), vI (if (w64 ((w64 (r1 * x1)) + r2)) > y3 then (w64 ((w64 (r1 * x1)) + r2)) else y3)]), (35, pB b3 0)] [.cell ⟨b3, 0, none⟩ (vI y2), .cell ⟨b3, 1, none⟩ (vI y3)] [] hf74 (by kernel_rfl) (.cell (hS24.box (i := 0) rfl (j := 0) rfl) (.cell (hS24.box (i := 0) rfl (j := 1) rfl) .nil)) .nil fun a62 hf75 => ?_
         refine p_store_eq (i := 18) (j := 0) (b := b3) (off := 0) (vs := [vI (if (w64 ((w64 (r1 * x1)) + r2)) < y2 then (w64 ((w64 (r1 * x1)) + r2)) else y2), vI (if (w64 ((w64 (r1 * x1)) + r2)) > y3 then (w64 ((w64 (r1 * x1)) + r2)) else y3)]) (cs' := [vI (if (w64 ((w64 (r1 * x1)) + r2)) < y2 then (w64 ((w64 (r1 * x1)) + r2)) else y2), vI (if (w64 ((w64 (r1 * x1)) + r2)) > y3 then (w64 ((w64 (r1 * x1)) + r2)) else y3), .bool y4, .bool false]) hS24 hf75 rfl (by kernel_rfl) (by kernel_rfl) rfl fun ww23 a63 hS25 hf76 => ⟨fun e => absurd e (by decide), ?_⟩
         refine p_done (by kernel_rfl) ?_
         refine p_fall (os := []) (v := .tuple #[]) (obs := []) hf76 (by kernel_rfl) .nil ?_
         refine ⟨_, rfl, fun a64 hf77 => ?_⟩
         refine ⟨fun _ => trivial, ?_⟩
         refine p_done (by kernel_rfl) ?_
         refine n_block ?_
         refine n_then ?_
         refine w_q [] [(1, vI x1), (2, vI x2), (6, pB b2 0), (9, pB b3 0), (10, .func (.func 89) #[pB b3 0] #[]), (35, .agg #[vI x0_lo, vI x0_hi]), (36, vI (w64 (y1 + (1 : Int))))] [] hf77 (by kernel_rfl) .nil fun a65 hf78 => ?_
         refine n_then ?_
         have hf79 := Fr.keep (ks := [1, 2, 6, 9, 10, 35, 36]) (r := [(1, vI x1), (2, vI x2), (6, pB b2 0), (9, pB b3 0), (10, .func (.func 89) #[pB b3 0] #[]), (35, .agg #[vI x0_lo, vI x0_hi]), (36, vI (w64 (y1 + (1 : Int))))]) hf78 (by kernel_rfl)
         exact ⟨n1, Nat.lt_succ_self n1, z8, (if (w64 ((w64 (r1 * x1)) + r2)) < y2 then (w64 ((w64 (r1 * x1)) + r2)) else y2), (if (w64 ((w64 (r1 * x1)) + r2)) > y3 then (w64 ((w64 (r1 * x1)) + r2)) else y3), y4, (w64 (y1 + (1 : Int))), (Zone.le_trans (Zone.le_trans (Zone.le_trans k6 k7) k8) k9), hf79, hS25, hr28⟩
    ·have hr29 := cond_f hb4 hr11
     refine w_exit (id := 0) (by kernel_rfl) ?_
     refine x_then ?_
     refine x_then ?_
     refine x_block ?_
     refine n_then ?_
     refine w_sr (by kernel_rfl) ?_
     refine p_call (i := 0) (d := some 83) (f := 105) (args := #[pB b3 0]) hf31 (by kernel_rfl) (Φ := fun v w => ∃ z9 : Zone, ∃ y12 : Int, ∃ y13 : Int, ∃ y14 : Int, Zone.le z5 z9 ∧ v = .tuple #[.agg #[vI y12, vI y13], vI y14] ∧ St z9 (box b3 [vI y8, vI y9, .bool y10, .bool false] 100 :: box b2 [vI 0, vI 0] 41 :: box b1 [vI x0_lo, vI x0_hi] 41 :: L) w ∧ (F40_j5 y12 y13 y14) = some r) ?_ ?_
     ·refine calls_intro (N := 21) Try.func105 (by kernel_rfl) fun a66 hf80 => ?_
      refine w_sr (by kernel_rfl) ?_
      refine p_box (i := 0) (d := (some 2)) (cs := [vI 0, vI 0]) (T := 41) (v := fun b4 => pB b4 0) hS10 hf80 (fun b => by kernel_rfl) fun b4 ww24 a67 hS26 hf81 => ⟨fun _ => trivial, ?_⟩
      refine p_qt [] [(0, pB b3 0), (2, pB b4 0)] [] hf81 (by kernel_rfl) .nil fun a68 hf82 => ?_
      refine w_seq (by kernel_rfl) ?_
      refine w_sr (by kernel_rfl) ?_
      refine p_qn 9 [.bool false, vI y8, vI y9] [(0, pB b3 0), (2, pB b4 0), (8, .bool false), (12, .agg #[vI y8, vI y9])] [.cell ⟨b3, 3, none⟩ (.bool false), .cell ⟨b3, 0, none⟩ (vI y8), .cell ⟨b3, 1, none⟩ (vI y9)] hf82 (by kernel_rfl) (.cell (hS26.box (i := 1) rfl (j := 3) rfl) (.cell (hS26.box (i := 1) rfl (j := 0) rfl) (.cell (hS26.box (i := 1) rfl (j := 1) rfl) .nil))) fun a69 hf83 => ?_
      obtain ⟨r4, hd8, hr30⟩ := bind_some hr29
      refine p_call (i := 9) (d := some 13) (f := 52) (args := #[.agg #[vI y8, vI y9]]) hf83 (by kernel_rfl) (f52_ok fuel y8 y9 r4 hd8 z5 _ _ hS26 ) ?_
      rintro v7 ww25 a70 ⟨z10, k10, rfl, hS27⟩ hf84
      refine ⟨fun _ => trivial, ?_⟩
      refine p_qt [] [(0, pB b3 0), (2, pB b4 0), (15, .bool (r4 != (0 : Int)))] [] hf84 (by kernel_rfl) .nil fun a71 hf85 => ?_
      refine w_if hf85 (b := (r4 != (0 : Int))) (by kernel_rfl) (fun hb10 => ?_) (fun hb10 => ?_)
      ·have hr31 := cond_t hb10 hr30
       refine w_sr (by kernel_rfl) ?_
       refine p_qn 1 [] [(2, pB b4 0), (16, .agg #[vI 0, vI 0])] [] hf85 (by kernel_rfl) .nil fun a72 hf86 => ?_
       refine p_store_eq (i := 1) (j := 0) (b := b4) (off := 0) (vs := [vI 0, vI 0]) (cs' := [vI 0, vI 0]) hS27 hf86 rfl (by kernel_rfl) (by kernel_rfl) rfl fun ww26 a73 hS28 hf87 => ⟨fun _ => trivial, ?_⟩
       refine p_qt [] [(2, pB b4 0), (3, vI 5)] [] hf87 (by kernel_rfl) .nil fun a74 hf88 => ?_
       refine w_ret (by kernel_rfl) ?_
       refine r_then ?_
       refine p_ret (os := [vI 0, vI 0]) (v := .tuple #[.agg #[vI 0, vI 0], vI 5]) (obs := [.cell ⟨b4, 0, none⟩ (vI 0), .cell ⟨b4, 1, none⟩ (vI 0)]) hf88 (by kernel_rfl) (.cell (hS28.box (i := 0) rfl (j := 0) rfl) (.cell (hS28.box (i := 0) rfl (j := 1) rfl) .nil)) ?_
       exact ⟨_, rfl, z10, 0, 0, 5, k10, rfl, (St.drop 1 hS28), hr31⟩
      ·have hr32 := cond_f hb10 hr30
       refine w_skip (by kernel_rfl) ?_
       refine n_then ?_
       refine w_sr (by kernel_rfl) ?_
       refine p_qn 4 [vI y8, vI y9] [(2, pB b4 0), (20, .agg #[vI y8, vI y9])] [.cell ⟨b3, 0, none⟩ (vI y8), .cell ⟨b3, 1, none⟩ (vI y9)] hf85 (by kernel_rfl) (.cell (hS27.box (i := 1) rfl (j := 0) rfl) (.cell (hS27.box (i := 1) rfl (j := 1) rfl) .nil)) fun a75 hf89 => ?_
       refine p_store_eq (i := 4) (j := 0) (b := b4) (off := 0) (vs := [vI y8, vI y9]) (cs' := [vI y8, vI y9]) hS27 hf89 rfl (by kernel_rfl) (by kernel_rfl) rfl fun ww27 a76 hS29 hf90 => ⟨fun _ => trivial, ?_⟩
       refine p_qt [] [(2, pB b4 0), (3, vI 0)] [] hf90 (by kernel_rfl) .nil fun a77 hf91 => ?_
       refine w_ret (by kernel_rfl) ?_
       refine p_ret (os := [vI y8, vI y9]) (v := .tuple #[.agg #[vI y8, vI y9], vI 0]) (obs := [.cell ⟨b4, 0, none⟩ (vI y8), .cell ⟨b4, 1, none⟩ (vI y9)]) hf91 (by kernel_rfl) (.cell (hS29.box (i := 0) rfl (j := 0) rfl) (.cell (hS29.box (i := 0) rfl (j := 1) rfl) .nil)) ?_
       exact ⟨_, rfl, z10, y8, y9, 0, k10, rfl, (St.drop 1 hS29), hr32⟩
     ·rintro v8 ww28 a78 ⟨z9, y12, y13, y14, k11, rfl, hS30, hr33⟩ hf92
      refine ⟨fun _ => trivial, ?_⟩
      refine p_qn 2 [] [(6, pB b2 0), (84, .agg #[vI y12, vI y13]), (85, vI y14)] [] hf92 (by kernel_rfl) .nil fun a79 hf93 => ?_
      refine p_store_eq (i := 3) (j := 1) (b := b2) (off := 0) (vs := [vI y12, vI y13]) (cs' := [vI y12, vI y13]) hS30 hf93 rfl (by kernel_rfl) (by kernel_rfl) rfl fun ww29 a80 hS31 hf94 => ⟨fun _ => trivial, ?_⟩
      refine p_qt [] [(6, pB b2 0), (7, vI y14)] [] hf94 (by kernel_rfl) .nil fun a81 hf95 => ?_
      refine w_ret (by kernel_rfl) ?_
      refine p_ret (os := [vI y12, vI y13]) (v := .tuple #[.agg #[vI y12, vI y13], vI y14]) (obs := [.cell ⟨b2, 0, none⟩ (vI y12), .cell ⟨b2, 1, none⟩ (vI y13)]) hf95 (by kernel_rfl) (.cell (hS31.box (i := 1) rfl (j := 0) rfl) (.cell (hS31.box (i := 1) rfl (j := 1) rfl) .nil)) ?_
      obtain rfl := some_eq hr33
      exact ⟨_, rfl, z9, (Zone.le_trans (Zone.le_trans (Zone.le_trans k2 k5) k6) k11), rfl, (St.drop 3 hS31)⟩
def F61_j1 (k1 : (List Pt) → Int → Option (List Pt × Int)) (y1 : List Pt) (y2 : Int) (p1 : Pt) (r1 : Int × Int × Int) (y3 : Int) : Option (List Pt × Int) :=
  (cond (y3 != (0 : Int)) (some ([], y3)) ((appC y1 ([⟨p1.x, r1.1, r1.2.1⟩])).bind fun d1 => (k1 d1 (w64 (y2 + (1 : Int))))))
def F61_j2 (k1 : (List Pt) → Int → Option (List Pt × Int)) (y1 : List Pt) (y2 : Int) (p1 : Pt) (r1 : Int × Int × Int) (y4 : Bool) : Option (List Pt × Int) :=
  (cond y4 (F61_j1 k1 y1 y2 p1 r1 5) (F61_j1 k1 y1 y2 p1 r1 r1.2.2))
def F61_l1 (fuel : Nat) (x0 : List Pt) (x1 : Int) (x2 : Int) : Nat → (List Pt) → Int → Option (List Pt × Int)
  | 0, _, _ => none
  | n1 + 1, y1, y2 =>
    let k1 : (List Pt) → Int → Option (List Pt × Int) := F61_l1 fuel x0 x1 x2 n1
    (cond (decide (y2 < (x0.length : Int))) ((getI x0 y2).bind fun p1 => ((F40 fuel p1.lo p1.hi x1 x2).bind fun r1 => (cond (r1.2.2 == (0 : Int)) (cond (decide (r1.1 < (-1000000000 : Int))) (F61_j2 k1 y1 y2 p1 r1 true) (F61_j2 k1 y1 y2 p1 r1 (decide (r1.2.1 > (1000000000 : Int))))) (F61_j2 k1 y1 y2 p1 r1 false)))) (some (y1, 0)))
def F61 (fuel : Nat) (x0 : List Pt) (x1 : Int) (x2 : Int) : Option (List Pt × Int) :=
  ((F67 fuel x0).bind fun r2 => (cond (r2 != (0 : Int)) (some ([], r2)) (F61_l1 fuel x0 x1 x2 fuel ([]) 0)))
set_option maxRecDepth 100000 in
theorem f61_ok (fuel : Nat) (x0 : List Pt) (x1 : Int) (x2 : Int) (r : List Pt × Int) (hr : F61 fuel x0 x1 x2 = some r) (h : Zone) (L : List Atom) (w : World) (hS : St h L w) (o_x0 : Option Addr) (c_x0 : Nat) (hx_x0 : SliceR PtT h o_x0 c_x0 x0) :
    Calls Try.prog 61 #[.agg #[.slice o_x0 x0.length c_x0], vI x1, vI x2] w fun e w' => ∃ v, e = .returned v ∧ (∃ h', ∃ o0 : Option Addr, ∃ c0 : Nat, Zone.le h h' ∧ v = .tuple #[.agg #[.slice o0 r.1.length c0], vI r.2] ∧ St h' L w' ∧ SliceR PtT h' o0 c0 r.1) := by
 refine calls_intro (N := 68) Try.func61 (by kernel_rfl) fun a hf => ?_
 refine w_sr (by kernel_rfl) ?_
 refine p_box (i := 0) (d := (some 3)) (cs := [.slice o_x0 x0.length c_x0]) (T := 24) (v := fun b1 => pB b1 0) hS hf (fun b => by kernel_rfl) fun b1 ww1 a1 hS1 hf1 => ⟨fun _ => trivial, ?_⟩
 refine p_box (i := 1) (d := (some 6)) (cs := [.slice none 0 0]) (T := 24) (v := fun b2 => pB b2 0) hS1 hf1 (fun b => by kernel_rfl) fun b2 ww2 a2 hS2 hf2 => ⟨fun _ => trivial, ?_⟩
 refine p_qt [] [(1, vI x1), (2, vI x2), (3, pB b1 0), (6, pB b2 0)] [] hf2 (by kernel_rfl) .nil fun a3 hf3 => ?_
 refine w_seq (by kernel_rfl) ?_
 refine w_sr (by kernel_rfl) ?_
 refine p_qn 1 [.slice o_x0 x0.length c_x0] [(1, vI x1), (2, vI x2), (3, pB b1 0), (6, pB b2 0), (14, .agg #[.slice o_x0 x0.length c_x0])] [.cell ⟨b1, 0, none⟩ (.slice o_x0 x0.length c_x0)] hf3 (by kernel_rfl) (.cell (hS2.box (i := 1) rfl (j := 0) rfl) .nil) fun a4 hf4 => ?_
 obtain ⟨r2, hd1, hr1⟩ := bind_some hr
 refine p_call (i := 1) (d := some 15) (f := 67) (args := #[.agg #[.slice o_x0 x0.length c_x0]]) hf4 (by kernel_rfl) (f67_ok fuel x0 r2 hd1 h _ _ hS2 o_x0 c_x0 hx_x0) ?_
 rintro v1 ww3 a5 ⟨z1, k2, rfl, hS3⟩ hf5
 refine ⟨fun _ => trivial, ?_⟩
 refine p_qt [] [(1, vI x1), (2, vI x2), (3, pB b1 0), (6, pB b2 0), (8, vI r2)] [] hf5 (by kernel_rfl) .nil fun a6 hf6 => ?_
 refine w_sq [] [(1, vI x1), (2, vI x2), (3, pB b1 0), (6, pB b2 0), (8, vI r2), (17, .bool (r2 != (0 : Int)))] [] hf6 (by kernel_rfl) .nil fun a7 hf7 => ?_
 refine w_if hf7 (b := (r2 != (0 : Int))) (by kernel_rfl) (fun hb1 => ?_) (fun hb1 => ?_)
 ·have hr2 := cond_t hb1 hr1
  refine w_sr (by kernel_rfl) ?_
  refine p_qn 2 [] [(6, pB b2 0), (18, .agg #[.slice none 0 0]), (19, vI r2)] [] hf7 (by kernel_rfl) .nil fun a8 hf8 => ?_
  refine p_store_eq (i := 2) (j := 0) (b := b2) (off := 0) (vs := [.slice none 0 0]) (cs' := [.slice none 0 0]) hS3 hf8 rfl (by kernel_rfl) (by kernel_rfl) rfl fun ww4 a9 hS4 hf9 => ⟨fun _ => trivial, ?_⟩
  refine p_qt [] [(6, pB b2 0), (7, vI r2)] [] hf9 (by kernel_rfl) .nil fun a10 hf10 => ?_
  refine w_ret (by kernel_rfl) ?_
  refine r_then ?_
  refine p_ret (os := [.slice none 0 0]) (v := .tuple #[.agg #[.slice none 0 0], vI r2]) (obs := [.cell ⟨b2, 0, none⟩ (.slice none 0 0)]) hf10 (by kernel_rfl) (.cell (hS4.box (i := 0) rfl (j := 0) rfl) .nil) ?_
  obtain rfl := some_eq hr2
  exact ⟨_, rfl, z1, none, 0, k2, rfl, (St.drop 2 hS4), SliceR.nil' _ _⟩
 ·have hr3 := cond_f hb1 hr1
  refine w_skip (by kernel_rfl) ?_
  refine n_then ?_
  refine w_sr (by kernel_rfl) ?_
  refine p_box (i := 0) (d := (some 9)) (cs := [.slice none 0 0]) (T := 24) (v := fun b3 => pB b3 0) hS3 hf7 (fun b => by kernel_rfl) fun b3 ww5 a11 hS5 hf11 => ⟨fun _ => trivial, ?_⟩
  refine p_dt (by kernel_rfl) ?_
  refine w_seq (by kernel_rfl) ?_
  refine w_sq [.slice o_x0 x0.length c_x0] [(1, vI x1), (2, vI x2), (6, pB b2 0), (9, pB b3 0), (21, .slice o_x0 x0.length c_x0), (22, vI (x0.length : Int)), (23, vI 0)] [.cell ⟨b1, 0, none⟩ (.slice o_x0 x0.length c_x0)] hf11 (by kernel_rfl) (.cell (hS5.box (i := 2) rfl (j := 0) rfl) .nil) fun a12 hf12 => ?_
  refine w_block (id := 0) (by kernel_rfl) ?_
  have hS6 := hS5.ownNil PtT 52
  have hf13 := Fr.keep (ks := [1, 2, 6, 9, 21, 22, 23]) (r := [(1, vI x1), (2, vI x2), (6, pB b2 0), (9, pB b3 0), (21, .slice o_x0 x0.length c_x0), (22, vI (x0.length : Int)), (23, vI 0)]) hf12 (by kernel_rfl)
  refine w_loop (by kernel_rfl) (fun n a w => ∃ z2 : Zone, ∃ y1 : List Pt, ∃ y2 : Int, ∃ e1 : Option Addr, ∃ q1 : Nat, Zone.le z1 z2 ∧ Fr a 68 [(1, vI x1), (2, vI x2), (6, pB b2 0), (9, pB b3 0), (21, .slice o_x0 x0.length c_x0), (22, vI (x0.length : Int)), (23, vI y2)] ∧ St z2 (ownS PtT 52 e1 q1 y1 :: box b3 [.slice e1 y1.length q1] 24 :: box b2 [.slice none 0 0] 24 :: box b1 [.slice o_x0 x0.length c_x0] 24 :: L) w ∧ (F61_l1 fuel x0 x1 x2 n y1 y2) = some r) fuel ⟨z1, [], 0, none, 0, (Zone.le_refl _), hf13, hS6, hr3⟩ ?_
  rintro n2 a13 ww6 ⟨z2, y1, y2, e1, q1, k3, hf14, hS7, hr4⟩
  cases n2 with
  | zero => cases hr4
  | succ n1 =>
  refine w_sq [] [(1, vI x1), (2, vI x2), (6, pB b2 0), (9, pB b3 0), (21, .slice o_x0 x0.length c_x0), (22, vI (x0.length : Int)), (23, vI y2), (24, .bool (decide (y2 < (x0.length : Int))))] [] hf14 (by kernel_rfl) .nil fun a14 hf15 => ?_
  refine w_seq (by kernel_rfl) ?_
  refine w_if hf15 (b := (decide (y2 < (x0.length : Int)))) (by kernel_rfl) (fun hb2 => ?_) (fun hb2 => ?_)
  ·have hr5 := cond_t hb2 hr4
   refine w_skip (by kernel_rfl) ?_
   refine n_then ?_
   refine w_seq (by kernel_rfl) ?_
   refine w_block (id := 1) (by kernel_rfl) ?_
   refine w_sr (by kernel_rfl) ?_
   obtain ⟨p1, hp6153, hr6⟩ := bind_some hr5
   obtain ⟨ad1, ho1, hb3, cc1, hc1, hk1⟩ := SliceR.getI (SliceR.mono (Zone.le_trans k2 k3) hx_x0) hp6153
   subst hc1
   refine p_qn 2 [.pointer (some ad1), vI p1.x, vI p1.lo, vI p1.hi] [(1, vI x1), (2, vI x2), (6, pB b2 0), (9, pB b3 0), (21, .slice o_x0 x0.length c_x0), (22, vI (x0.length : Int)), (23, vI y2), (26, .agg #[vI p1.x, vI p1.lo, vI p1.hi])] [.prop (o_x0 = some ad1), .prop (0 ≤ y2 ∧ y2 < (x0.length : Nat)), .cell ((ad1.add (Int.toNat y2 * 3)).add 0) (vI p1.x), .cell ((ad1.add (Int.toNat y2 * 3)).add 1) (vI p1.lo), .cell ((ad1.add (Int.toNat y2 * 3)).add 2) (vI p1.hi)] hf15 (by kernel_rfl) (.prop ho1 (.prop hb3 (.cell (hS7.cell (hk1 0 _ rfl)) (.cell (hS7.cell (hk1 1 _ rfl)) (.cell (hS7.cell (hk1 2 _ rfl)) .nil))))) fun a15 hf16 => ?_
   refine p_box (i := 2) (d := (some 11)) (cs := [vI 0, vI 0, vI 0]) (T := 52) (v := fun b4 => pB b4 0) hS7 hf16 (fun b => by kernel_rfl) fun b4 ww7 a16 hS8 hf17 => ⟨fun _ => trivial, ?_⟩
   refine p_store_eq (i := 3) (j := 0) (b := b4) (off := 0) (vs := [vI p1.x, vI p1.lo, vI p1.hi]) (cs' := [vI p1.x, vI p1.lo, vI p1.hi]) hS8 hf17 rfl (by kernel_rfl) (by kernel_rfl) rfl fun ww8 a17 hS9 hf18 => ⟨fun _ => trivial, ?_⟩
   refine p_dt (by kernel_rfl) ?_
   refine w_sr (by kernel_rfl) ?_
   refine p_qn 7 [vI p1.lo, vI p1.hi] [(1, vI x1), (2, vI x2), (6, pB b2 0), (9, pB b3 0), (11, pB b4 0), (21, .slice o_x0 x0.length c_x0), (22, vI (x0.length : Int)), (23, vI y2), (32, .agg #[vI p1.lo, vI p1.hi]), (33, vI x1), (34, vI x2)] [.cell ⟨b4, 1, none⟩ (vI p1.lo), .cell ⟨b4, 2, none⟩ (vI p1.hi)] hf18 (by kernel_rfl) (.cell (hS9.box (i := 0) rfl (j := 1) rfl) (.cell (hS9.box (i := 0) rfl (j := 2) rfl) .nil)) fun a18 hf19 => ?_
   obtain ⟨r1, hd2, hr7⟩ := bind_some hr6
   refine p_call (i := 7) (d := some 35) (f := 40) (args := #[.agg #[vI p1.lo, vI p1.hi], vI x1, vI x2]) hf19 (by kernel_rfl) (f40_ok fuel p1.lo p1.hi x1 x2 r1 hd2 z2 _ _ hS9 ) ?_
   rintro v2 ww9 a19 ⟨z3, k4, rfl, hS10⟩ hf20
   refine ⟨fun _ => trivial, ?_⟩
   refine p_qn 3 [] [(1, vI x1), (2, vI x2), (6, pB b2 0), (9, pB b3 0), (11, pB b4 0), (21, .slice o_x0 x0.length c_x0), (22, vI (x0.length : Int)), (23, vI y2), (36, .agg #[vI r1.1, vI r1.2.1]), (37, vI r1.2.2)] [] hf20 (by kernel_rfl) .nil fun a20 hf21 => ?_
   refine p_box (i := 11) (d := (some 12)) (cs := [vI 0, vI 0]) (T := 41) (v := fun b5 => pB b5 0) hS10 hf21 (fun b => by kernel_rfl) fun b5 ww10 a21 hS11 hf22 => ⟨fun _ => trivial, ?_⟩
   refine p_store_eq (i := 12) (j := 0) (b := b5) (off := 0) (vs := [vI r1.1, vI r1.2.1]) (cs' := [vI r1.1, vI r1.2.1]) hS11 hf22 rfl (by kernel_rfl) (by kernel_rfl) rfl fun ww11 a22 hS12 hf23 => ⟨fun _ => trivial, ?_⟩
   refine p_qt [] [(1, vI x1), (2, vI x2), (6, pB b2 0), (9, pB b3 0), (11, pB b4 0), (12, pB b5 0), (13, vI r1.2.2), (21, .slice o_x0 x0.length c_x0), (22, vI (x0.length : Int)), (23, vI y2)] [] hf23 (by kernel_rfl) .nil fun a23 hf24 => ?_
   refine w_mid (by kernel_rfl) (fun a w => ∃ z4 : Zone, ∃ y3 : Int, Zone.le z3 z4 ∧ Fr a 68 [(1, vI x1), (2, vI x2), (6, pB b2 0), (9, pB b3 0), (11, pB b4 0), (12, pB b5 0), (13, vI y3), (21, .slice o_x0 x0.length c_x0), (22, vI (x0.length : Int)), (23, vI y2)] ∧ St z4 (box b5 [vI r1.1, vI r1.2.1] 41 :: box b4 [vI p1.x, vI p1.lo, vI p1.hi] 52 :: ownS PtT 52 e1 q1 y1 :: box b3 [.slice e1 y1.length q1] 24 :: box b2 [.slice none 0 0] 24 :: box b1 [.slice o_x0 x0.length c_x0] 24 :: L) w ∧ (F61_j1 (F61_l1 fuel x0 x1 x2 n1) y1 y2 p1 r1 y3) = some r) ?_ ?_
   ·skip
    refine w_mid (by kernel_rfl) (fun a w => ∃ z5 : Zone, ∃ y4 : Bool, Zone.le z3 z5 ∧ Fr a 68 [(1, vI x1), (2, vI x2), (6, pB b2 0), (9, pB b3 0), (11, pB b4 0), (12, pB b5 0), (13, vI r1.2.2), (21, .slice o_x0 x0.length c_x0), (22, vI (x0.length : Int)), (23, vI y2), (49, .bool y4)] ∧ St z5 (box b5 [vI r1.1, vI r1.2.1] 41 :: box b4 [vI p1.x, vI p1.lo, vI p1.hi] 52 :: ownS PtT 52 e1 q1 y1 :: box b3 [.slice e1 y1.length q1] 24 :: box b2 [.slice none 0 0] 24 :: box b1 [.slice o_x0 x0.length c_x0] 24 :: L) w ∧ (F61_j2 (F61_l1 fuel x0 x1 x2 n1) y1 y2 p1 r1 y4) = some r) ?_ ?_
    ·skip
     refine w_reg (by kernel_rfl) ?_
     refine p_qn 3 [] [(1, vI x1), (2, vI x2), (6, pB b2 0), (9, pB b3 0), (11, pB b4 0), (12, pB b5 0), (13, vI r1.2.2), (21, .slice o_x0 x0.length c_x0), (22, vI (x0.length : Int)), (23, vI y2), (40, .bool (r1.2.2 == (0 : Int)))] [] hf24 (by kernel_rfl) .nil fun a24 hf25 => ?_
     rcases Bool.eq_false_or_eq_true (r1.2.2 == (0 : Int)) with hb4 | hb4
     ·have hr8 := cond_t hb4 hr7
      have hf26 := Fr.conv hf25 (congrArg (fun z => ([(1, vI x1), (2, vI x2), (6, pB b2 0), (9, pB b3 0), (11, pB b4 0), (12, pB b5 0), (13, vI r1.2.2), (21, .slice o_x0 x0.length c_x0), (22, vI (x0.length : Int)), (23, vI y2), (40, .bool z)] : FL)) hb4)
      refine p_qn 4 [vI r1.1] [(1, vI x1), (2, vI x2), (6, pB b2 0), (9, pB b3 0), (11, pB b4 0), (12, pB b5 0), (13, vI r1.2.2), (21, .slice o_x0 x0.length c_x0), (22, vI (x0.length : Int)), (23, vI y2), (40, .bool true), (41, pB b5 0), (42, vI r1.1), (43, .bool (decide (r1.1 < (-1000000000 : Int)))), (44, .bool (decide (r1.1 < (-1000000000 : Int))))] [.cell ⟨b5, 0, none⟩ (vI r1.1)] hf26 (by kernel_rfl) (.cell (hS12.box (i := 0) rfl (j := 0) rfl) .nil) fun a25 hf27 => ?_
      rcases Bool.eq_false_or_eq_true (decide (r1.1 < (-1000000000 : Int))) with hb5 | hb5
      ·have hr9 := cond_t hb5 hr8
       have hf28 := Fr.conv hf27 (congrArg (fun z => ([(1, vI x1), (2, vI x2), (6, pB b2 0), (9, pB b3 0), (11, pB b4 0), (12, pB b5 0), (13, vI r1.2.2), (21, .slice o_x0 x0.length c_x0), (22, vI (x0.length : Int)), (23, vI y2), (40, .bool true), (41, pB b5 0), (42, vI r1.1), (43, .bool (decide (r1.1 < (-1000000000 : Int)))), (44, .bool z)] : FL)) hb5)
       refine p_qt [] [(1, vI x1), (2, vI x2), (6, pB b2 0), (9, pB b3 0), (11, pB b4 0), (12, pB b5 0), (13, vI r1.2.2), (21, .slice o_x0 x0.length c_x0), (22, vI (x0.length : Int)), (23, vI y2), (41, pB b5 0), (42, vI r1.1), (43, .bool (decide (r1.1 < (-1000000000 : Int)))), (44, .bool true), (45, undef), (46, undef), (47, undef), (48, .bool true), (49, .bool true)] [] hf28 (by kernel_rfl) .nil fun a26 hf29 => ?_
       have hf30 := Fr.keep (ks := [1, 2, 6, 9, 11, 12, 13, 21, 22, 23, 49]) (r := [(1, vI x1), (2, vI x2), (6, pB b2 0), (9, pB b3 0), (11, pB b4 0), (12, pB b5 0), (13, vI r1.2.2), (21, .slice o_x0 x0.length c_x0), (22, vI (x0.length : Int)), (23, vI y2), (49, .bool true)]) hf29 (by kernel_rfl)
       exact ⟨z3, true, (Zone.le_refl _), hf30, hS12, hr9⟩
      ·have hr10 := cond_f hb5 hr8
       have hf31 := Fr.conv hf27 (congrArg (fun z => ([(1, vI x1), (2, vI x2), (6, pB b2 0), (9, pB b3 0), (11, pB b4 0), (12, pB b5 0), (13, vI r1.2.2), (21, .slice o_x0 x0.length c_x0), (22, vI (x0.length : Int)), (23, vI y2), (40, .bool true), (41, pB b5 0), (42, vI r1.1), (43, .bool (decide (r1.1 < (-1000000000 : Int)))), (44, .bool z)] : FL)) hb5)
       refine p_qt [vI r1.2.1] [(1, vI x1), (2, vI x2), (6, pB b2 0), (9, pB b3 0), (11, pB b4 0), (12, pB b5 0), (13, vI r1.2.2), (21, .slice o_x0 x0.length c_x0), (22, vI (x0.length : Int)), (23, vI y2), (41, pB b5 0), (42, vI r1.1), (43, .bool (decide (r1.1 < (-1000000000 : Int)))), (44, .bool false), (45, pB b5 1), (46, vI r1.2.1), (47, .bool (decide (r1.2.1 > (1000000000 : Int)))), (48, .bool (decide (r1.2.1 > (1000000000 : Int)))), (49, .bool (decide (r1.2.1 > (1000000000 : Int))))] [.cell ⟨b5, 1, none⟩ (vI r1.2.1)] hf31 (by kernel_rfl) (.cell (hS12.box (i := 0) rfl (j := 1) rfl) .nil) fun a27 hf32 => ?_
       have hf33 := Fr.keep (ks := [1, 2, 6, 9, 11, 12, 13, 21, 22, 23, 49]) (r := [(1, vI x1), (2, vI x2), (6, pB b2 0), (9, pB b3 0), (11, pB b4 0), (12, pB b5 0), (13, vI r1.2.2), (21, .slice o_x0 x0.length c_x0), (22, vI (x0.length : Int)), (23, vI y2), (49, .bool (decide (r1.2.1 > (1000000000 : Int))))]) hf32 (by kernel_rfl)
       exact ⟨z3, (decide (r1.2.1 > (1000000000 : Int))), (Zone.le_refl _), hf33, hS12, hr10⟩
     ·have hr11 := cond_f hb4 hr7
      have hf34 := Fr.conv hf25 (congrArg (fun z => ([(1, vI x1), (2, vI x2), (6, pB b2 0), (9, pB b3 0), (11, pB b4 0), (12, pB b5 0), (13, vI r1.2.2), (21, .slice o_x0 x0.length c_x0), (22, vI (x0.length : Int)), (23, vI y2), (40, .bool z)] : FL)) hb4)
      refine p_qt [] [(1, vI x1), (2, vI x2), (6, pB b2 0), (9, pB b3 0), (11, pB b4 0), (12, pB b5 0), (13, vI r1.2.2), (21, .slice o_x0 x0.length c_x0), (22, vI (x0.length : Int)), (23, vI y2), (41, undef), (42, undef), (43, undef), (44, undef), (45, undef), (46, undef), (47, undef), (48, undef), (49, .bool false)] [] hf34 (by kernel_rfl) .nil fun a28 hf35 => ?_
      have hf36 := Fr.keep (ks := [1, 2, 6, 9, 11, 12, 13, 21, 22, 23, 49]) (r := [(1, vI x1), (2, vI x2), (6, pB b2 0), (9, pB b3 0), (11, pB b4 0), (12, pB b5 0), (13, vI r1.2.2), (21, .slice o_x0 x0.length c_x0), (22, vI (x0.length : Int)), (23, vI y2), (49, .bool false)]) hf35 (by kernel_rfl)
      exact ⟨z3, false, (Zone.le_refl _), hf36, hS12, hr11⟩
    ·rintro a29 ww12 ⟨z5, y4, k5, hf37, hS13, hr12⟩
     refine w_if hf37 (b := y4) (by kernel_rfl) (fun hb6 => ?_) (fun hb6 => ?_)
     ·have hr13 := cond_t hb6 hr12
      refine w_q [] [(1, vI x1), (2, vI x2), (6, pB b2 0), (9, pB b3 0), (11, pB b4 0), (12, pB b5 0), (13, vI 5), (21, .slice o_x0 x0.length c_x0), (22, vI (x0.length : Int)), (23, vI y2)] [] hf37 (by kernel_rfl) .nil fun a30 hf38 => ?_
      refine n_then ?_
      have hf39 := Fr.keep (ks := [1, 2, 6, 9, 11, 12, 13, 21, 22, 23]) (r := [(1, vI x1), (2, vI x2), (6, pB b2 0), (9, pB b3 0), (11, pB b4 0), (12, pB b5 0), (13, vI 5), (21, .slice o_x0 x0.length c_x0), (22, vI (x0.length : Int)), (23, vI y2)]) hf38 (by kernel_rfl)
      exact ⟨z5, 5, k5, hf39, hS13, hr13⟩
     ·have hr14 := cond_f hb6 hr12
      refine w_skip (by kernel_rfl) ?_
      refine n_then ?_
      have hf40 := Fr.keep (ks := [1, 2, 6, 9, 11, 12, 13, 21, 22, 23]) (r := [(1, vI x1), (2, vI x2), (6, pB b2 0), (9, pB b3 0), (11, pB b4 0), (12, pB b5 0), (13, vI r1.2.2), (21, .slice o_x0 x0.length c_x0), (22, vI (x0.length : Int)), (23, vI y2)]) hf37 (by kernel_rfl)
      exact ⟨z5, r1.2.2, k5, hf40, hS13, hr14⟩
   ·rintro a31 ww13 ⟨z4, y3, k6, hf41, hS14, hr15⟩
    refine w_seq (by kernel_rfl) ?_
    refine w_sq [] [(1, vI x1), (2, vI x2), (6, pB b2 0), (9, pB b3 0), (11, pB b4 0), (12, pB b5 0), (13, vI y3), (21, .slice o_x0 x0.length c_x0), (22, vI (x0.length : Int)), (23, vI y2), (51, .bool (y3 != (0 : Int)))] [] hf41 (by kernel_rfl) .nil fun a32 hf42 => ?_
    refine w_if hf42 (b := (y3 != (0 : Int))) (by kernel_rfl) (fun hb7 => ?_) (fun hb7 => ?_)
    ·have hr16 := cond_t hb7 hr15
     refine w_sr (by kernel_rfl) ?_
     refine p_qn 2 [] [(6, pB b2 0), (52, .agg #[.slice none 0 0]), (53, vI y3)] [] hf42 (by kernel_rfl) .nil fun a33 hf43 => ?_
     refine p_store_eq (i := 2) (j := 4) (b := b2) (off := 0) (vs := [.slice none 0 0]) (cs' := [.slice none 0 0]) hS14 hf43 rfl (by kernel_rfl) (by kernel_rfl) rfl fun ww14 a34 hS15 hf44 => ⟨fun _ => trivial, ?_⟩
     refine p_qt [] [(6, pB b2 0), (7, vI y3)] [] hf44 (by kernel_rfl) .nil fun a35 hf45 => ?_
     refine w_ret (by kernel_rfl) ?_
     refine r_then ?_
     refine r_block ?_
     refine r_then ?_
     refine r_then ?_
     refine r_block ?_
     refine r_then ?_
     refine p_ret (os := [.slice none 0 0]) (v := .tuple #[.agg #[.slice none 0 0], vI y3]) (obs := [.cell ⟨b2, 0, none⟩ (.slice none 0 0)]) hf45 (by kernel_rfl) (.cell (hS15.box (i := 4) rfl (j := 0) rfl) .nil) ?_
     obtain rfl := some_eq hr16
     exact ⟨_, rfl, z4, none, 0, (Zone.le_trans (Zone.le_trans (Zone.le_trans k2 k3) k4) k6), rfl, (St.drop 6 hS15), SliceR.nil' _ _⟩
    ·have hr17 := cond_f hb7 hr15
     refine w_skip (by kernel_rfl) ?_
     refine n_then ?_
     refine w_reg (by kernel_rfl) ?_
     refine p_qn 9 [.slice e1 y1.length q1, vI p1.x, vI r1.1, vI r1.2.1] [(1, vI x1), (2, vI x2), (6, pB b2 0), (9, pB b3 0), (21, .slice o_x0 x0.length c_x0), (22, vI (x0.length : Int)), (23, vI y2), (55, .slice e1 y1.length q1), (62, .agg #[vI p1.x, vI r1.1, vI r1.2.1])] [.cell ⟨b3, 0, none⟩ (.slice e1 y1.length q1), .cell ⟨b4, 0, none⟩ (vI p1.x), .cell ⟨b5, 0, none⟩ (vI r1.1), .cell ⟨b5, 1, none⟩ (vI r1.2.1)] hf42 (by kernel_rfl) (.cell (hS14.box (i := 3) rfl (j := 0) rfl) (.cell (hS14.box (i := 1) rfl (j := 0) rfl) (.cell (hS14.box (i := 0) rfl (j := 0) rfl) (.cell (hS14.box (i := 0) rfl (j := 1) rfl) .nil)))) fun a36 hf46 => ?_
     refine p_box (i := 9) (d := (some 63)) (cs := [vI p1.x, vI r1.1, vI r1.2.1]) (T := 52) (v := fun b6 => .slice (some ⟨b6, 0, none⟩) 1 1) hS14 hf46 (fun b => by kernel_rfl) fun b6 ww15 a37 hS16 hf47 => ⟨fun _ => trivial, ?_⟩
     have hS17 := hS16.ownBox (T := PtT) (E := 52) (n := 1) (xs := [⟨p1.x, r1.1, r1.2.1⟩]) (i := 0) rfl (Rows.cons (c := [vI p1.x, vI r1.1, vI r1.2.1]) rfl rfl) rfl (by decide)
     obtain ⟨d1, hd3, hr18⟩ := bind_some hr17
     refine p_append (T := PtT) (i := 10) (j := 3) (d := some 64) (o2 := (some ⟨b6, 0, none⟩)) (c2 := 1) (ys := ([⟨p1.x, r1.1, r1.2.1⟩])) el22 hS17 hf47 rfl (by kernel_rfl) (hS17.ownSrc (j := 0) rfl) hd3 fun e2 q2 ww16 a38 hS18 hf48 => ⟨fun _ => trivial, ?_⟩
     refine p_qn 1 [] [(1, vI x1), (2, vI x2), (6, pB b2 0), (9, pB b3 0), (21, .slice o_x0 x0.length c_x0), (22, vI (x0.length : Int)), (23, vI y2), (64, .slice e2 d1.length q2), (65, pB b3 0)] [] hf48 (by kernel_rfl) .nil fun a39 hf49 => ?_
     refine p_store_eq (i := 12) (j := 4) (b := b3) (off := 0) (vs := [.slice e2 d1.length q2]) (cs' := [.slice e2 d1.length q2]) hS18 hf49 rfl (by kernel_rfl) (by kernel_rfl) rfl fun ww17 a40 hS19 hf50 => ⟨fun _ => trivial, ?_⟩
     refine p_done (by kernel_rfl) ?_
     refine n_block ?_
     refine n_then ?_
     refine w_q [] [(1, vI x1), (2, vI x2), (6, pB b2 0), (9, pB b3 0), (21, .slice o_x0 x0.length c_x0), (22, vI (x0.length : Int)), (23, vI (w64 (y2 + (1 : Int))))] [] hf50 (by kernel_rfl) .nil fun a41 hf51 => ?_
     refine n_then ?_
     have hf52 := Fr.keep (ks := [1, 2, 6, 9, 21, 22, 23]) (r := [(1, vI x1), (2, vI x2), (6, pB b2 0), (9, pB b3 0), (21, .slice o_x0 x0.length c_x0), (22, vI (x0.length : Int)), (23, vI (w64 (y2 + (1 : Int))))]) hf51 (by kernel_rfl)
     exact ⟨n1, Nat.lt_succ_self n1, z4, d1, (w64 (y2 + (1 : Int))), e2, q2, (Zone.le_trans (Zone.le_trans k3 k4) k6), hf52, (St.drop 3 hS19), hr18⟩
  ·have hr19 := cond_f hb2 hr4
   refine w_exit (id := 0) (by kernel_rfl) ?_
   refine x_then ?_
   refine x_then ?_
   refine x_block ?_
   refine n_then ?_
   refine w_sr (by kernel_rfl) ?_
   refine p_qn 1 [.slice e1 y1.length q1] [(6, pB b2 0), (67, .agg #[.slice e1 y1.length q1])] [.cell ⟨b3, 0, none⟩ (.slice e1 y1.length q1)] hf15 (by kernel_rfl) (.cell (hS7.box (i := 1) rfl (j := 0) rfl) .nil) fun a42 hf53 => ?_
   refine p_store_eq (i := 1) (j := 2) (b := b2) (off := 0) (vs := [.slice e1 y1.length q1]) (cs' := [.slice e1 y1.length q1]) hS7 hf53 rfl (by kernel_rfl) (by kernel_rfl) rfl fun ww18 a43 hS20 hf54 => ⟨fun _ => trivial, ?_⟩
   refine p_qt [] [(6, pB b2 0), (7, vI 0)] [] hf54 (by kernel_rfl) .nil fun a44 hf55 => ?_
   refine w_ret (by kernel_rfl) ?_
   obtain ⟨z6, k7, hS21, hx1⟩ := hS20.share (j := 0) rfl
   refine p_ret (os := [.slice e1 y1.length q1]) (v := .tuple #[.agg #[.slice e1 y1.length q1], vI 0]) (obs := [.cell ⟨b2, 0, none⟩ (.slice e1 y1.length q1)]) hf55 (by kernel_rfl) (.cell (hS21.box (i := 2) rfl (j := 0) rfl) .nil) ?_
   obtain rfl := some_eq hr19
   exact ⟨_, rfl, z6, e1, q1, (Zone.le_trans (Zone.le_trans k2 k3) k7), rfl, (St.drop 4 hS21), hx1⟩
def F65_j2 (k1 : (List Int) → Int → Option (List Pt × Int)) (y1 : Int) (y2 : List Int) : Option (List Pt × Int) :=
  (k1 y2 (w64 (y1 + (1 : Int))))
def F65_j3 (k1 : (List Int) → Int → Option (List Pt × Int)) (y3 : List Int) (y1 : Int) (p1 : Pt) (y4 : Bool) : Option (List Pt × Int) :=
  (cond y4 ((appC y3 ([p1.x])).bind fun d1 => (F65_j2 k1 y1 d1)) (F65_j2 k1 y1 y3))
def F65_j5 (y5 : List Pt) (y6 : Int) : Option (List Pt × Int) :=
  (some (y5, y6))
def F65_j6 (k2 : (List Pt) → Int → Option (List Pt × Int)) (y7 : List Pt) (y8 : Int) (p2 : Int) (r1 : Int × Int) (y9 : Bool) : Option (List Pt × Int) :=
  (cond y9 (F65_j5 ([]) 5) ((appC y7 ([⟨p2, r1.1, r1.2⟩])).bind fun d2 => (k2 d2 (w64 (y8 + (1 : Int))))))
def F65_l2 (fuel : Nat) (x0 : List Pt) (y10 : List Int) : Nat → (List Pt) → Int → Option (List Pt × Int)
  | 0, _, _ => none
  | n1 + 1, y7, y8 =>
    let k2 : (List Pt) → Int → Option (List Pt × Int) := F65_l2 fuel x0 y10 n1
    (cond (decide (y8 < (y10.length : Int))) ((getI y10 y8).bind fun p2 => ((F88 fuel x0 p2).bind fun r1 => (cond (decide (r1.1 < (-1000000000 : Int))) (F65_j6 k2 y7 y8 p2 r1 true) (F65_j6 k2 y7 y8 p2 r1 (decide (r1.2 > (1000000000 : Int))))))) (F65_j5 y7 0))
def F65_j4 (fuel : Nat) (x0 : List Pt) (y10 : List Int) : Option (List Pt × Int) :=
  (F65_l2 fuel x0 y10 fuel ([]) 0)
def F65_l1 (fuel : Nat) (x0 : List Pt) (x1 : Int) (x2 : Int) : Nat → (List Int) → Int → Option (List Pt × Int)
  | 0, _, _ => none
  | n2 + 1, y3, y1 =>
    let k1 : (List Int) → Int → Option (List Pt × Int) := F65_l1 fuel x0 x1 x2 n2
    (cond (decide (y1 < (x0.length : Int))) ((getI x0 y1).bind fun p1 => (cond (decide (x1 < p1.x)) (F65_j3 k1 y3 y1 p1 (decide (p1.x < x2))) (F65_j3 k1 y3 y1 p1 false))) (cond (decide (x2 > x1)) ((appC y3 ([x2])).bind fun d3 => (F65_j4 fuel x0 d3)) (F65_j4 fuel x0 y3)))
def F65_j1 (fuel : Nat) (x0 : List Pt) (x1 : Int) (x2 : Int) (y11 : Bool) : Option (List Pt × Int) :=
  (cond y11 (some ([], 4)) (F65_l1 fuel x0 x1 x2 fuel ([x1]) 0))
def F65 (fuel : Nat) (x0 : List Pt) (x1 : Int) (x2 : Int) : Option (List Pt × Int) :=
  ((F67 fuel x0).bind fun r2 => (cond (r2 != (0 : Int)) (some ([], r2)) (cond (decide (x1 > x2)) (F65_j1 fuel x0 x1 x2 true) ((F81 fuel x0 x1 x2).bind fun r3 => (F65_j1 fuel x0 x1 x2 (!r3))))))
set_option maxRecDepth 100000 in
theorem f65_ok (fuel : Nat) (x0 : List Pt) (x1 : Int) (x2 : Int) (r : List Pt × Int) (hr : F65 fuel x0 x1 x2 = some r) (h : Zone) (L : List Atom) (w : World) (hS : St h L w) (o_x0 : Option Addr) (c_x0 : Nat) (hx_x0 : SliceR PtT h o_x0 c_x0 x0) :
    Calls Try.prog 65 #[.agg #[.slice o_x0 x0.length c_x0], vI x1, vI x2] w fun e w' => ∃ v, e = .returned v ∧ (∃ h', ∃ o0 : Option Addr, ∃ c0 : Nat, Zone.le h h' ∧ v = .tuple #[.agg #[.slice o0 r.1.length c0], vI r.2] ∧ St h' L w' ∧ SliceR PtT h' o0 c0 r.1) := by
 refine calls_intro (N := 67) Try.func65 (by kernel_rfl) fun a hf => ?_
 refine w_sr (by kernel_rfl) ?_
 refine p_box (i := 0) (d := (some 3)) (cs := [.slice o_x0 x0.length c_x0]) (T := 24) (v := fun b1 => pB b1 0) hS hf (fun b => by kernel_rfl) fun b1 ww1 a1 hS1 hf1 => ⟨fun _ => trivial, ?_⟩
 refine p_box (i := 1) (d := (some 6)) (cs := [.slice none 0 0]) (T := 24) (v := fun b2 => pB b2 0) hS1 hf1 (fun b => by kernel_rfl) fun b2 ww2 a2 hS2 hf2 => ⟨fun _ => trivial, ?_⟩
 refine p_qt [] [(1, vI x1), (2, vI x2), (3, pB b1 0), (6, pB b2 0)] [] hf2 (by kernel_rfl) .nil fun a3 hf3 => ?_
 refine w_seq (by kernel_rfl) ?_
 refine w_sr (by kernel_rfl) ?_
 refine p_qn 1 [.slice o_x0 x0.length c_x0] [(1, vI x1), (2, vI x2), (3, pB b1 0), (6, pB b2 0), (12, .agg #[.slice o_x0 x0.length c_x0])] [.cell ⟨b1, 0, none⟩ (.slice o_x0 x0.length c_x0)] hf3 (by kernel_rfl) (.cell (hS2.box (i := 1) rfl (j := 0) rfl) .nil) fun a4 hf4 => ?_
 obtain ⟨r2, hd1, hr1⟩ := bind_some hr
 refine p_call (i := 1) (d := some 13) (f := 67) (args := #[.agg #[.slice o_x0 x0.length c_x0]]) hf4 (by kernel_rfl) (f67_ok fuel x0 r2 hd1 h _ _ hS2 o_x0 c_x0 hx_x0) ?_
 rintro v1 ww3 a5 ⟨z1, k3, rfl, hS3⟩ hf5
 refine ⟨fun _ => trivial, ?_⟩
 refine p_qt [] [(1, vI x1), (2, vI x2), (3, pB b1 0), (6, pB b2 0), (8, vI r2)] [] hf5 (by kernel_rfl) .nil fun a6 hf6 => ?_
 refine w_sq [] [(1, vI x1), (2, vI x2), (3, pB b1 0), (6, pB b2 0), (8, vI r2), (15, .bool (r2 != (0 : Int)))] [] hf6 (by kernel_rfl) .nil fun a7 hf7 => ?_
 refine w_if hf7 (b := (r2 != (0 : Int))) (by kernel_rfl) (fun hb1 => ?_) (fun hb1 => ?_)
 ·have hr2 := cond_t hb1 hr1
  refine w_sr (by kernel_rfl) ?_
  refine p_qn 2 [] [(6, pB b2 0), (16, .agg #[.slice none 0 0]), (17, vI r2)] [] hf7 (by kernel_rfl) .nil fun a8 hf8 => ?_
  refine p_store_eq (i := 2) (j := 0) (b := b2) (off := 0) (vs := [.slice none 0 0]) (cs' := [.slice none 0 0]) hS3 hf8 rfl (by kernel_rfl) (by kernel_rfl) rfl fun ww4 a9 hS4 hf9 => ⟨fun _ => trivial, ?_⟩
  refine p_qt [] [(6, pB b2 0), (7, vI r2)] [] hf9 (by kernel_rfl) .nil fun a10 hf10 => ?_
  refine w_ret (by kernel_rfl) ?_
  refine r_then ?_
  refine p_ret (os := [.slice none 0 0]) (v := .tuple #[.agg #[.slice none 0 0], vI r2]) (obs := [.cell ⟨b2, 0, none⟩ (.slice none 0 0)]) hf10 (by kernel_rfl) (.cell (hS4.box (i := 0) rfl (j := 0) rfl) .nil) ?_
  obtain rfl := some_eq hr2
  exact ⟨_, rfl, z1, none, 0, k3, rfl, (St.drop 2 hS4), SliceR.nil' _ _⟩
 ·have hr3 := cond_f hb1 hr1
  refine w_skip (by kernel_rfl) ?_
  refine n_then ?_
  refine w_seq (by kernel_rfl) ?_
  refine w_mid (by kernel_rfl) (fun a w => ∃ z2 : Zone, ∃ y11 : Bool, Zone.le z1 z2 ∧ Fr a 67 [(1, vI x1), (2, vI x2), (3, pB b1 0), (6, pB b2 0), (28, .bool y11)] ∧ St z2 (box b2 [.slice none 0 0] 24 :: box b1 [.slice o_x0 x0.length c_x0] 24 :: L) w ∧ (F65_j1 fuel x0 x1 x2 y11) = some r) ?_ ?_
  ·skip
   refine w_reg (by kernel_rfl) ?_
   refine p_qn 4 [] [(1, vI x1), (2, vI x2), (3, pB b1 0), (6, pB b2 0), (21, .bool (decide (x1 > x2)))] [] hf7 (by kernel_rfl) .nil fun a11 hf11 => ?_
   rcases Bool.eq_false_or_eq_true (decide (x1 > x2)) with hb2 | hb2
   ·have hr4 := cond_t hb2 hr3
    have hf12 := Fr.conv hf11 (congrArg (fun z => ([(1, vI x1), (2, vI x2), (3, pB b1 0), (6, pB b2 0), (21, .bool z)] : FL)) hb2)
    refine p_qt [] [(1, vI x1), (2, vI x2), (3, pB b1 0), (6, pB b2 0), (28, .bool true)] [] hf12 (by kernel_rfl) .nil fun a12 hf13 => ?_
    have hf14 := Fr.keep (ks := [1, 2, 3, 6, 28]) (r := [(1, vI x1), (2, vI x2), (3, pB b1 0), (6, pB b2 0), (28, .bool true)]) hf13 (by kernel_rfl)
    exact ⟨z1, true, (Zone.le_refl _), hf14, hS3, hr4⟩
   ·have hr5 := cond_f hb2 hr3
    have hf15 := Fr.conv hf11 (congrArg (fun z => ([(1, vI x1), (2, vI x2), (3, pB b1 0), (6, pB b2 0), (21, .bool z)] : FL)) hb2)
    refine p_qn 4 [.slice o_x0 x0.length c_x0] [(1, vI x1), (2, vI x2), (3, pB b1 0), (6, pB b2 0), (21, .bool false), (22, .agg #[.slice o_x0 x0.length c_x0]), (25, .agg #[vI x1, vI x2])] [.cell ⟨b1, 0, none⟩ (.slice o_x0 x0.length c_x0)] hf15 (by kernel_rfl) (.cell (hS3.box (i := 1) rfl (j := 0) rfl) .nil) fun a13 hf16 => ?_
    obtain ⟨r3, hd2, hr6⟩ := bind_some hr5
    refine p_call (i := 8) (d := some 26) (f := 81) (args := #[.agg #[.slice o_x0 x0.length c_x0], .agg #[vI x1, vI x2]]) hf16 (by kernel_rfl) (f81_ok fuel x0 x1 x2 r3 hd2 z1 _ _ hS3 o_x0 c_x0 (SliceR.mono k3 hx_x0)) ?_
    rintro v2 ww5 a14 ⟨z3, k4, rfl, hS5⟩ hf17
    refine ⟨fun _ => trivial, ?_⟩
    refine p_qt [] [(1, vI x1), (2, vI x2), (3, pB b1 0), (6, pB b2 0), (28, .bool (!r3))] [] hf17 (by kernel_rfl) .nil fun a15 hf18 => ?_
    have hf19 := Fr.keep (ks := [1, 2, 3, 6, 28]) (r := [(1, vI x1), (2, vI x2), (3, pB b1 0), (6, pB b2 0), (28, .bool (!r3))]) hf18 (by kernel_rfl)
    exact ⟨z3, (!r3), k4, hf19, hS5, hr6⟩
  ·rintro a16 ww6 ⟨z2, y11, k5, hf20, hS6, hr7⟩
   refine w_if hf20 (b := y11) (by kernel_rfl) (fun hb3 => ?_) (fun hb3 => ?_)
   ·have hr8 := cond_t hb3 hr7
    refine w_sr (by kernel_rfl) ?_
    refine p_qn 1 [] [(6, pB b2 0), (29, .agg #[.slice none 0 0])] [] hf20 (by kernel_rfl) .nil fun a17 hf21 => ?_
    refine p_store_eq (i := 1) (j := 0) (b := b2) (off := 0) (vs := [.slice none 0 0]) (cs' := [.slice none 0 0]) hS6 hf21 rfl (by kernel_rfl) (by kernel_rfl) rfl fun ww7 a18 hS7 hf22 => ⟨fun _ => trivial, ?_⟩
    refine p_qt [] [(6, pB b2 0), (7, vI 4)] [] hf22 (by kernel_rfl) .nil fun a19 hf23 => ?_
    refine w_ret (by kernel_rfl) ?_
    refine r_then ?_
    refine p_ret (os := [.slice none 0 0]) (v := .tuple #[.agg #[.slice none 0 0], vI 4]) (obs := [.cell ⟨b2, 0, none⟩ (.slice none 0 0)]) hf23 (by kernel_rfl) (.cell (hS7.box (i := 0) rfl (j := 0) rfl) .nil) ?_
    obtain rfl := some_eq hr8
    exact ⟨_, rfl, z2, none, 0, (Zone.le_trans k3 k5), rfl, (St.drop 2 hS7), SliceR.nil' _ _⟩
   ·have hr9 := cond_f hb3 hr7
    refine w_skip (by kernel_rfl) ?_
    refine n_then ?_
    refine w_sr (by kernel_rfl) ?_
    refine p_qn 1 [] [(1, vI x1), (2, vI x2), (3, pB b1 0), (6, pB b2 0), (30, vI x1)] [] hf20 (by kernel_rfl) .nil fun a20 hf24 => ?_
    refine p_box (i := 1) (d := (some 31)) (cs := [vI x1]) (T := 3) (v := fun b3 => .slice (some ⟨b3, 0, none⟩) 1 1) hS6 hf24 (fun b => by kernel_rfl) fun b3 ww8 a21 hS8 hf25 => ⟨fun _ => trivial, ?_⟩
    have hS9 := hS8.ownBox (T := Ty.int) (E := 3) (n := 1) (xs := [x1]) (i := 0) rfl (Rows.cons (c := [vI x1]) rfl rfl) rfl (by decide)
    refine p_qt [] [(1, vI x1), (2, vI x2), (3, pB b1 0), (6, pB b2 0), (9, .slice (some ⟨b3, 0, none⟩) 1 1)] [] hf25 (by kernel_rfl) .nil fun a22 hf26 => ?_
    refine w_seq (by kernel_rfl) ?_
    refine w_sq [.slice o_x0 x0.length c_x0] [(1, vI x1), (2, vI x2), (3, pB b1 0), (6, pB b2 0), (9, .slice (some ⟨b3, 0, none⟩) 1 1), (33, .slice o_x0 x0.length c_x0), (34, vI (x0.length : Int)), (35, vI 0)] [.cell ⟨b1, 0, none⟩ (.slice o_x0 x0.length c_x0)] hf26 (by kernel_rfl) (.cell (hS9.box (i := 2) rfl (j := 0) rfl) .nil) fun a23 hf27 => ?_
    refine w_block (id := 0) (by kernel_rfl) ?_
    have hf28 := Fr.keep (ks := [1, 2, 3, 6, 9, 33, 34, 35]) (r := [(1, vI x1), (2, vI x2), (3, pB b1 0), (6, pB b2 0), (9, .slice (some ⟨b3, 0, none⟩) 1 1), (33, .slice o_x0 x0.length c_x0), (34, vI (x0.length : Int)), (35, vI 0)]) hf27 (by kernel_rfl)
    refine w_loop (by kernel_rfl) (fun n a w => ∃ z4 : Zone, ∃ y3 : List Int, ∃ y1 : Int, ∃ e1 : Option Addr, ∃ q1 : Nat, Zone.le z2 z4 ∧ Fr a 67 [(1, vI x1), (2, vI x2), (3, pB b1 0), (6, pB b2 0), (9, .slice e1 y3.length q1), (33, .slice o_x0 x0.length c_x0), (34, vI (x0.length : Int)), (35, vI y1)] ∧ St z4 (ownS Ty.int 3 e1 q1 y3 :: box b2 [.slice none 0 0] 24 :: box b1 [.slice o_x0 x0.length c_x0] 24 :: L) w ∧ (F65_l1 fuel x0 x1 x2 n y3 y1) = some r) fuel ⟨z2, [x1], 0, (some ⟨b3, 0, none⟩), 1, (Zone.le_refl _), hf28, hS9, hr9⟩ ?_
    rintro n3 a24 ww9 ⟨z4, y3, y1, e1, q1, k6, hf29, hS10, hr10⟩
    cases n3 with
    | zero => cases hr10
    | succ n2 =>
    refine w_sq [] [(1, vI x1), (2, vI x2), (3, pB b1 0), (6, pB b2 0), (9, .slice e1 y3.length q1), (33, .slice o_x0 x0.length c_x0), (34, vI (x0.length : Int)), (35, vI y1), (36, .bool (decide (y1 < (x0.length : Int))))] [] hf29 (by kernel_rfl) .nil fun a25 hf30 => ?_
    refine w_seq (by kernel_rfl) ?_
    refine w_if hf30 (b := (decide (y1 < (x0.length : Int)))) (by kernel_rfl) (fun hb4 => ?_) (fun hb4 => ?_)
    ·have hr11 := cond_t hb4 hr10
     refine w_skip (by kernel_rfl) ?_
     refine n_then ?_
     refine w_mid (by kernel_rfl) (fun a w => ∃ z5 : Zone, ∃ y2 : List Int, ∃ e2 : Option Addr, ∃ q2 : Nat, Zone.le z4 z5 ∧ Fr a 67 [(1, vI x1), (2, vI x2), (3, pB b1 0), (6, pB b2 0), (9, .slice e2 y2.length q2), (33, .slice o_x0 x0.length c_x0), (34, vI (x0.length : Int)), (35, vI y1)] ∧ St z5 (ownS Ty.int 3 e2 q2 y2 :: box b2 [.slice none 0 0] 24 :: box b1 [.slice o_x0 x0.length c_x0] 24 :: L) w ∧ (F65_j2 (F65_l1 fuel x0 x1 x2 n2) y1 y2) = some r) ?_ ?_
     ·skip
      refine w_block (id := 1) (by kernel_rfl) ?_
      refine w_sr (by kernel_rfl) ?_
      obtain ⟨p1, hp2375, hr12⟩ := bind_some hr11
      obtain ⟨ad1, ho1, hb5, cc1, hc1, hk1⟩ := SliceR.getI (SliceR.mono (Zone.le_trans (Zone.le_trans k3 k5) k6) hx_x0) hp2375
      subst hc1
      refine p_qn 2 [.pointer (some ad1), vI p1.x, vI p1.lo, vI p1.hi] [(1, vI x1), (2, vI x2), (3, pB b1 0), (6, pB b2 0), (9, .slice e1 y3.length q1), (33, .slice o_x0 x0.length c_x0), (34, vI (x0.length : Int)), (35, vI y1), (38, .agg #[vI p1.x, vI p1.lo, vI p1.hi])] [.prop (o_x0 = some ad1), .prop (0 ≤ y1 ∧ y1 < (x0.length : Nat)), .cell ((ad1.add (Int.toNat y1 * 3)).add 0) (vI p1.x), .cell ((ad1.add (Int.toNat y1 * 3)).add 1) (vI p1.lo), .cell ((ad1.add (Int.toNat y1 * 3)).add 2) (vI p1.hi)] hf30 (by kernel_rfl) (.prop ho1 (.prop hb5 (.cell (hS10.cell (hk1 0 _ rfl)) (.cell (hS10.cell (hk1 1 _ rfl)) (.cell (hS10.cell (hk1 2 _ rfl)) .nil))))) fun a26 hf31 => ?_
      refine p_box (i := 2) (d := (some 11)) (cs := [vI 0, vI 0, vI 0]) (T := 52) (v := fun b4 => pB b4 0) hS10 hf31 (fun b => by kernel_rfl) fun b4 ww10 a27 hS11 hf32 => ⟨fun _ => trivial, ?_⟩
      refine p_store_eq (i := 3) (j := 0) (b := b4) (off := 0) (vs := [vI p1.x, vI p1.lo, vI p1.hi]) (cs' := [vI p1.x, vI p1.lo, vI p1.hi]) hS11 hf32 rfl (by kernel_rfl) (by kernel_rfl) rfl fun ww11 a28 hS12 hf33 => ⟨fun _ => trivial, ?_⟩
      refine p_dt (by kernel_rfl) ?_
      refine w_mid (by kernel_rfl) (fun a w => ∃ z6 : Zone, ∃ y4 : Bool, Zone.le z4 z6 ∧ Fr a 67 [(1, vI x1), (2, vI x2), (3, pB b1 0), (6, pB b2 0), (9, .slice e1 y3.length q1), (11, pB b4 0), (33, .slice o_x0 x0.length c_x0), (34, vI (x0.length : Int)), (35, vI y1), (48, .bool y4)] ∧ St z6 (box b4 [vI p1.x, vI p1.lo, vI p1.hi] 52 :: ownS Ty.int 3 e1 q1 y3 :: box b2 [.slice none 0 0] 24 :: box b1 [.slice o_x0 x0.length c_x0] 24 :: L) w ∧ (F65_j3 (F65_l1 fuel x0 x1 x2 n2) y3 y1 p1 y4) = some r) ?_ ?_
      ·skip
       refine w_reg (by kernel_rfl) ?_
       refine p_qn 5 [vI p1.x] [(1, vI x1), (2, vI x2), (3, pB b1 0), (6, pB b2 0), (9, .slice e1 y3.length q1), (11, pB b4 0), (33, .slice o_x0 x0.length c_x0), (34, vI (x0.length : Int)), (35, vI y1), (43, .bool (decide (x1 < p1.x)))] [.cell ⟨b4, 0, none⟩ (vI p1.x)] hf33 (by kernel_rfl) (.cell (hS12.box (i := 0) rfl (j := 0) rfl) .nil) fun a29 hf34 => ?_
       rcases Bool.eq_false_or_eq_true (decide (x1 < p1.x)) with hb6 | hb6
       ·have hr13 := cond_t hb6 hr12
        have hf35 := Fr.conv hf34 (congrArg (fun z => ([(1, vI x1), (2, vI x2), (3, pB b1 0), (6, pB b2 0), (9, .slice e1 y3.length q1), (11, pB b4 0), (33, .slice o_x0 x0.length c_x0), (34, vI (x0.length : Int)), (35, vI y1), (43, .bool z)] : FL)) hb6)
        refine p_qt [vI p1.x] [(1, vI x1), (2, vI x2), (3, pB b1 0), (6, pB b2 0), (9, .slice e1 y3.length q1), (11, pB b4 0), (33, .slice o_x0 x0.length c_x0), (34, vI (x0.length : Int)), (35, vI y1), (44, pB b4 0), (45, vI p1.x), (46, vI x2), (47, .bool (decide (p1.x < x2))), (48, .bool (decide (p1.x < x2)))] [.cell ⟨b4, 0, none⟩ (vI p1.x)] hf35 (by kernel_rfl) (.cell (hS12.box (i := 0) rfl (j := 0) rfl) .nil) fun a30 hf36 => ?_
        have hf37 := Fr.keep (ks := [1, 2, 3, 6, 9, 11, 33, 34, 35, 48]) (r := [(1, vI x1), (2, vI x2), (3, pB b1 0), (6, pB b2 0), (9, .slice e1 y3.length q1), (11, pB b4 0), (33, .slice o_x0 x0.length c_x0), (34, vI (x0.length : Int)), (35, vI y1), (48, .bool (decide (p1.x < x2)))]) hf36 (by kernel_rfl)
        exact ⟨z4, (decide (p1.x < x2)), (Zone.le_refl _), hf37, hS12, hr13⟩
       ·have hr14 := cond_f hb6 hr12
        have hf38 := Fr.conv hf34 (congrArg (fun z => ([(1, vI x1), (2, vI x2), (3, pB b1 0), (6, pB b2 0), (9, .slice e1 y3.length q1), (11, pB b4 0), (33, .slice o_x0 x0.length c_x0), (34, vI (x0.length : Int)), (35, vI y1), (43, .bool z)] : FL)) hb6)
        refine p_qt [] [(1, vI x1), (2, vI x2), (3, pB b1 0), (6, pB b2 0), (9, .slice e1 y3.length q1), (11, pB b4 0), (33, .slice o_x0 x0.length c_x0), (34, vI (x0.length : Int)), (35, vI y1), (44, undef), (45, undef), (46, undef), (47, undef), (48, .bool false)] [] hf38 (by kernel_rfl) .nil fun a31 hf39 => ?_
        have hf40 := Fr.keep (ks := [1, 2, 3, 6, 9, 11, 33, 34, 35, 48]) (r := [(1, vI x1), (2, vI x2), (3, pB b1 0), (6, pB b2 0), (9, .slice e1 y3.length q1), (11, pB b4 0), (33, .slice o_x0 x0.length c_x0), (34, vI (x0.length : Int)), (35, vI y1), (48, .bool false)]) hf39 (by kernel_rfl)
        exact ⟨z4, false, (Zone.le_refl _), hf40, hS12, hr14⟩
      ·rintro a32 ww12 ⟨z6, y4, k7, hf41, hS13, hr15⟩
       refine w_if hf41 (b := y4) (by kernel_rfl) (fun hb7 => ?_) (fun hb7 => ?_)
       ·have hr16 := cond_t hb7 hr15
        refine w_reg (by kernel_rfl) ?_
        refine p_qn 3 [vI p1.x] [(1, vI x1), (2, vI x2), (3, pB b1 0), (6, pB b2 0), (33, .slice o_x0 x0.length c_x0), (34, vI (x0.length : Int)), (35, vI y1), (49, .slice e1 y3.length q1), (51, vI p1.x)] [.cell ⟨b4, 0, none⟩ (vI p1.x)] hf41 (by kernel_rfl) (.cell (hS13.box (i := 0) rfl (j := 0) rfl) .nil) fun a33 hf42 => ?_
        refine p_box (i := 3) (d := (some 52)) (cs := [vI p1.x]) (T := 3) (v := fun b5 => .slice (some ⟨b5, 0, none⟩) 1 1) hS13 hf42 (fun b => by kernel_rfl) fun b5 ww13 a34 hS14 hf43 => ⟨fun _ => trivial, ?_⟩
        have hS15 := hS14.ownBox (T := Ty.int) (E := 3) (n := 1) (xs := [p1.x]) (i := 0) rfl (Rows.cons (c := [vI p1.x]) rfl rfl) rfl (by decide)
        obtain ⟨d1, hd3, hr17⟩ := bind_some hr16
        refine p_append (T := Ty.int) (i := 4) (j := 2) (d := some 53) (o2 := (some ⟨b5, 0, none⟩)) (c2 := 1) (ys := ([p1.x])) el25 hS15 hf43 rfl (by kernel_rfl) (hS15.ownSrc (j := 0) rfl) hd3 fun e3 q3 ww14 a35 hS16 hf44 => ⟨fun _ => trivial, ?_⟩
        refine p_qz [] [(1, vI x1), (2, vI x2), (3, pB b1 0), (6, pB b2 0), (9, .slice e3 d1.length q3), (33, .slice o_x0 x0.length c_x0), (34, vI (x0.length : Int)), (35, vI y1)] [] hf44 (by kernel_rfl) .nil fun a36 hf45 => ?_
        refine n_block ?_
        refine n_then ?_
        have hf46 := Fr.keep (ks := [1, 2, 3, 6, 9, 33, 34, 35]) (r := [(1, vI x1), (2, vI x2), (3, pB b1 0), (6, pB b2 0), (9, .slice e3 d1.length q3), (33, .slice o_x0 x0.length c_x0), (34, vI (x0.length : Int)), (35, vI y1)]) hf45 (by kernel_rfl)
        exact ⟨z6, d1, e3, q3, k7, hf46, (St.drop 2 hS16), hr17⟩
       ·have hr18 := cond_f hb7 hr15
        refine w_skip (by kernel_rfl) ?_
        refine n_block ?_
        refine n_then ?_
        have hf47 := Fr.keep (ks := [1, 2, 3, 6, 9, 33, 34, 35]) (r := [(1, vI x1), (2, vI x2), (3, pB b1 0), (6, pB b2 0), (9, .slice e1 y3.length q1), (33, .slice o_x0 x0.length c_x0), (34, vI (x0.length : Int)), (35, vI y1)]) hf41 (by kernel_rfl)
        exact ⟨z6, y3, e1, q1, k7, hf47, (St.drop 1 hS13), hr18⟩
     ·rintro a37 ww15 ⟨z5, y2, e2, q2, k8, hf48, hS17, hr19⟩
      refine w_q [] [(1, vI x1), (2, vI x2), (3, pB b1 0), (6, pB b2 0), (9, .slice e2 y2.length q2), (33, .slice o_x0 x0.length c_x0), (34, vI (x0.length : Int)), (35, vI (w64 (y1 + (1 : Int))))] [] hf48 (by kernel_rfl) .nil fun a38 hf49 => ?_
      refine n_then ?_
      have hf50 := Fr.keep (ks := [1, 2, 3, 6, 9, 33, 34, 35]) (r := [(1, vI x1), (2, vI x2), (3, pB b1 0), (6, pB b2 0), (9, .slice e2 y2.length q2), (33, .slice o_x0 x0.length c_x0), (34, vI (x0.length : Int)), (35, vI (w64 (y1 + (1 : Int))))]) hf49 (by kernel_rfl)
      exact ⟨n2, Nat.lt_succ_self n2, z5, y2, (w64 (y1 + (1 : Int))), e2, q2, (Zone.le_trans k6 k8), hf50, hS17, hr19⟩
    ·have hr20 := cond_f hb4 hr10
     refine w_exit (id := 0) (by kernel_rfl) ?_
     refine x_then ?_
     refine x_then ?_
     refine x_block ?_
     refine n_then ?_
     refine w_mid (by kernel_rfl) (fun a w => ∃ z7 : Zone, ∃ y10 : List Int, ∃ e4 : Option Addr, ∃ q4 : Nat, Zone.le z4 z7 ∧ Fr a 67 [(3, pB b1 0), (6, pB b2 0), (9, .slice e4 y10.length q4)] ∧ St z7 (ownS Ty.int 3 e4 q4 y10 :: box b2 [.slice none 0 0] 24 :: box b1 [.slice o_x0 x0.length c_x0] 24 :: L) w ∧ (F65_j4 fuel x0 y10) = some r) ?_ ?_
     ·skip
      refine w_sq [] [(2, vI x2), (3, pB b1 0), (6, pB b2 0), (9, .slice e1 y3.length q1), (57, .bool (decide (x2 > x1)))] [] hf30 (by kernel_rfl) .nil fun a39 hf51 => ?_
      refine w_if hf51 (b := (decide (x2 > x1))) (by kernel_rfl) (fun hb8 => ?_) (fun hb8 => ?_)
      ·have hr21 := cond_t hb8 hr20
       refine w_reg (by kernel_rfl) ?_
       refine p_qn 2 [] [(3, pB b1 0), (6, pB b2 0), (58, .slice e1 y3.length q1), (59, vI x2)] [] hf51 (by kernel_rfl) .nil fun a40 hf52 => ?_
       refine p_box (i := 2) (d := (some 60)) (cs := [vI x2]) (T := 3) (v := fun b6 => .slice (some ⟨b6, 0, none⟩) 1 1) hS10 hf52 (fun b => by kernel_rfl) fun b6 ww16 a41 hS18 hf53 => ⟨fun _ => trivial, ?_⟩
       have hS19 := hS18.ownBox (T := Ty.int) (E := 3) (n := 1) (xs := [x2]) (i := 0) rfl (Rows.cons (c := [vI x2]) rfl rfl) rfl (by decide)
       obtain ⟨d3, hd4, hr22⟩ := bind_some hr21
       refine p_append (T := Ty.int) (i := 3) (j := 1) (d := some 61) (o2 := (some ⟨b6, 0, none⟩)) (c2 := 1) (ys := ([x2])) el25 hS19 hf53 rfl (by kernel_rfl) (hS19.ownSrc (j := 0) rfl) hd4 fun e5 q5 ww17 a42 hS20 hf54 => ⟨fun _ => trivial, ?_⟩
       refine p_qt [] [(3, pB b1 0), (6, pB b2 0), (9, .slice e5 d3.length q5)] [] hf54 (by kernel_rfl) .nil fun a43 hf55 => ?_
       have hf56 := Fr.keep (ks := [3, 6, 9]) (r := [(3, pB b1 0), (6, pB b2 0), (9, .slice e5 d3.length q5)]) hf55 (by kernel_rfl)
       exact ⟨z4, d3, e5, q5, (Zone.le_refl _), hf56, (St.drop 1 hS20), hr22⟩
      ·have hr23 := cond_f hb8 hr20
       refine w_skip (by kernel_rfl) ?_
       refine n_then ?_
       have hf57 := Fr.keep (ks := [3, 6, 9]) (r := [(3, pB b1 0), (6, pB b2 0), (9, .slice e1 y3.length q1)]) hf51 (by kernel_rfl)
       exact ⟨z4, y3, e1, q1, (Zone.le_refl _), hf57, hS10, hr23⟩
     ·rintro a44 ww18 ⟨z7, y10, e4, q4, k9, hf58, hS21, hr24⟩
      refine w_sr (by kernel_rfl) ?_
      refine p_qn 2 [] [(6, pB b2 0), (62, .slice e4 y10.length q4), (63, .func (.func 116) #[] #[pB b1 0])] [] hf58 (by kernel_rfl) .nil fun a45 hf59 => ?_
      refine p_call (i := 2) (d := some 64) (f := 115) (args := #[.slice e4 y10.length q4, .func (.func 116) #[] #[pB b1 0]]) hf59 (by kernel_rfl) (Φ := fun v w => ∃ z8 : Zone, ∃ y5 : List Pt, ∃ y6 : Int, ∃ e6 : Option Addr, ∃ q6 : Nat, Zone.le z7 z8 ∧ v = .tuple #[.agg #[.slice e6 y5.length q6], vI y6] ∧ St z8 (ownS PtT 52 e6 q6 y5 :: ownS Ty.int 3 e4 q4 y10 :: box b2 [.slice none 0 0] 24 :: box b1 [.slice o_x0 x0.length c_x0] 24 :: L) w ∧ (F65_j5 y5 y6) = some r) ?_ ?_
      ·refine calls_intro (N := 41) Try.func115 (by kernel_rfl) fun a46 hf60 => ?_
       refine w_sr (by kernel_rfl) ?_
       refine p_box (i := 0) (d := (some 4)) (cs := [.slice none 0 0]) (T := 24) (v := fun b7 => pB b7 0) hS21 hf60 (fun b => by kernel_rfl) fun b7 ww19 a47 hS22 hf61 => ⟨fun _ => trivial, ?_⟩
       refine p_qt [] [(0, .slice e4 y10.length q4), (1, .func (.func 116) #[] #[pB b1 0]), (4, pB b7 0)] [] hf61 (by kernel_rfl) .nil fun a48 hf62 => ?_
       refine w_sr (by kernel_rfl) ?_
       refine p_box (i := 0) (d := (some 6)) (cs := [.slice none 0 0]) (T := 24) (v := fun b8 => pB b8 0) hS22 hf62 (fun b => by kernel_rfl) fun b8 ww20 a49 hS23 hf63 => ⟨fun _ => trivial, ?_⟩
       refine p_dt (by kernel_rfl) ?_
       refine w_seq (by kernel_rfl) ?_
       refine w_sq [] [(1, .func (.func 116) #[] #[pB b1 0]), (4, pB b7 0), (6, pB b8 0), (10, .slice e4 y10.length q4), (11, vI (y10.length : Int)), (12, vI 0)] [] hf63 (by kernel_rfl) .nil fun a50 hf64 => ?_
       refine w_block (id := 0) (by kernel_rfl) ?_
       have hS24 := hS23.ownNil PtT 52
       have hf65 := Fr.keep (ks := [1, 4, 6, 10, 11, 12]) (r := [(1, .func (.func 116) #[] #[pB b1 0]), (4, pB b7 0), (6, pB b8 0), (10, .slice e4 y10.length q4), (11, vI (y10.length : Int)), (12, vI 0)]) hf64 (by kernel_rfl)
       refine w_loop (by kernel_rfl) (fun n a w => ∃ z9 : Zone, ∃ y7 : List Pt, ∃ y8 : Int, ∃ e7 : Option Addr, ∃ q7 : Nat, Zone.le z7 z9 ∧ Fr a 41 [(1, .func (.func 116) #[] #[pB b1 0]), (4, pB b7 0), (6, pB b8 0), (10, .slice e4 y10.length q4), (11, vI (y10.length : Int)), (12, vI y8)] ∧ St z9 (ownS PtT 52 e7 q7 y7 :: box b8 [.slice e7 y7.length q7] 24 :: box b7 [.slice none 0 0] 24 :: ownS Ty.int 3 e4 q4 y10 :: box b2 [.slice none 0 0] 24 :: box b1 [.slice o_x0 x0.length c_x0] 24 :: L) w ∧ (F65_l2 fuel x0 y10 n y7 y8) = some r) fuel ⟨z7, [], 0, none, 0, (Zone.le_refl _), hf65, hS24, hr24⟩ ?_
       rintro n4 a51 ww21 ⟨z9, y7, y8, e7, q7, k10, hf66, hS25, hr25⟩
       cases n4 with
       | zero => cases hr25
       | succ n1 =>
       refine w_sq [] [(1, .func (.func 116) #[] #[pB b1 0]), (4, pB b7 0), (6, pB b8 0), (10, .slice e4 y10.length q4), (11, vI (y10.length : Int)), (12, vI y8), (13, .bool (decide (y8 < (y10.length : Int))))] [] hf66 (by kernel_rfl) .nil fun a52 hf67 => ?_
       refine w_seq (by kernel_rfl) ?_
       refine w_if hf67 (b := (decide (y8 < (y10.length : Int)))) (by kernel_rfl) (fun hb9 => ?_) (fun hb9 => ?_)
       ·have hr26 := cond_t hb9 hr25
        refine w_skip (by kernel_rfl) ?_
        refine n_then ?_
        refine w_seq (by kernel_rfl) ?_
        refine w_block (id := 1) (by kernel_rfl) ?_
        obtain ⟨p2, hp10942, hr27⟩ := bind_some hr26
        obtain ⟨ad2, ho2, hb10, cc2, hc2, hk2⟩ := hS25.ownGet (j := 3) rfl hp10942
        subst hc2
        refine w_sq [.pointer (some ad2), vI p2] [(1, .func (.func 116) #[] #[pB b1 0]), (4, pB b7 0), (6, pB b8 0), (8, vI p2), (10, .slice e4 y10.length q4), (11, vI (y10.length : Int)), (12, vI y8)] [.prop (e4 = some ad2), .prop (0 ≤ y8 ∧ y8 < (y10.length : Nat)), .cell ((ad2.add (Int.toNat y8 * 1)).add 0) (vI p2)] hf67 (by kernel_rfl) (.prop ho2 (.prop hb10 (.cell (hk2 0 _ rfl) .nil))) fun a53 hf68 => ?_
        refine w_sr (by kernel_rfl) ?_
        refine p_qn 2 [] [(1, .func (.func 116) #[] #[pB b1 0]), (4, pB b7 0), (6, pB b8 0), (8, vI p2), (10, .slice e4 y10.length q4), (11, vI (y10.length : Int)), (12, vI y8), (16, .func (.func 116) #[] #[pB b1 0]), (17, vI p2)] [] hf68 (by kernel_rfl) .nil fun a54 hf69 => ?_
        refine p_inl (i := 2) (d := some 18) (f := 116) (args := #[vI p2, pB b1 0]) (N' := 7) hf69 (by kernel_rfl) Try.func116 (by kernel_rfl) fun a55 hf70 => ?_
        refine w_sr (by kernel_rfl) ?_
        refine p_box (i := 0) (d := (some 3)) (cs := [vI 0, vI 0]) (T := 41) (v := fun b9 => pB b9 0) hS25 hf70 (fun b => by kernel_rfl) fun b9 ww22 a56 hS26 hf71 => ⟨fun _ => trivial, ?_⟩
        refine p_dt (by kernel_rfl) ?_
        refine w_sr (by kernel_rfl) ?_
        refine p_qn 2 [.slice o_x0 x0.length c_x0] [(3, pB b9 0), (4, .agg #[.slice o_x0 x0.length c_x0]), (5, vI p2)] [.cell ⟨b1, 0, none⟩ (.slice o_x0 x0.length c_x0)] hf71 (by kernel_rfl) (.cell (hS26.box (i := 6) rfl (j := 0) rfl) .nil) fun a57 hf72 => ?_
        obtain ⟨r1, hd5, hr28⟩ := bind_some hr27
        refine p_call (i := 2) (d := some 6) (f := 88) (args := #[.agg #[.slice o_x0 x0.length c_x0], vI p2]) hf72 (by kernel_rfl) (f88_ok fuel x0 p2 r1 hd5 z9 _ _ hS26 o_x0 c_x0 (SliceR.mono (Zone.le_trans (Zone.le_trans (Zone.le_trans (Zone.le_trans k3 k5) k6) k9) k10) hx_x0)) ?_
        rintro v3 ww23 a58 ⟨z10, k11, rfl, hS27⟩ hf73
        refine ⟨fun _ => trivial, ?_⟩
        refine p_store_eq (i := 3) (j := 0) (b := b9) (off := 0) (vs := [vI r1.1, vI r1.2]) (cs' := [vI r1.1, vI r1.2]) hS27 hf73 rfl (by kernel_rfl) (by kernel_rfl) rfl fun ww24 a59 hS28 hf74 => ⟨fun _ => trivial, ?_⟩
        refine p_dt (by kernel_rfl) ?_
        refine w_ret (by kernel_rfl) ?_
        refine p_ret (os := [vI r1.1, vI r1.2]) (v := .agg #[vI r1.1, vI r1.2]) (obs := [.cell ⟨b9, 0, none⟩ (vI r1.1), .cell ⟨b9, 1, none⟩ (vI r1.2)]) hf74 (by kernel_rfl) (.cell (hS28.box (i := 0) rfl (j := 0) rfl) (.cell (hS28.box (i := 0) rfl (j := 1) rfl) .nil)) ?_
        refine ⟨_, rfl, fun a60 hf75 => ?_⟩
        have hS29 := St.drop 1 hS28
        refine ⟨fun _ => trivial, ?_⟩
        refine p_box (i := 3) (d := (some 9)) (cs := [vI 0, vI 0]) (T := 41) (v := fun b10 => pB b10 0) hS29 hf75 (fun b => by kernel_rfl) fun b10 ww25 a61 hS30 hf76 => ⟨fun _ => trivial, ?_⟩
        refine p_store_eq (i := 4) (j := 0) (b := b10) (off := 0) (vs := [vI r1.1, vI r1.2]) (cs' := [vI r1.1, vI r1.2]) hS30 hf76 rfl (by kernel_rfl) (by kernel_rfl) rfl fun ww26 a62 hS31 hf77 => ⟨fun _ => trivial, ?_⟩
        refine p_dt (by kernel_rfl) ?_
        refine w_seq (by kernel_rfl) ?_
        refine w_mid (by kernel_rfl) (fun a w => ∃ z11 : Zone, ∃ y9 : Bool, Zone.le z10 z11 ∧ Fr a 41 [(1, .func (.func 116) #[] #[pB b1 0]), (4, pB b7 0), (6, pB b8 0), (8, vI p2), (9, pB b10 0), (10, .slice e4 y10.length q4), (11, vI (y10.length : Int)), (12, vI y8), (26, .bool y9)] ∧ St z11 (box b10 [vI r1.1, vI r1.2] 41 :: ownS PtT 52 e7 q7 y7 :: box b8 [.slice e7 y7.length q7] 24 :: box b7 [.slice none 0 0] 24 :: ownS Ty.int 3 e4 q4 y10 :: box b2 [.slice none 0 0] 24 :: box b1 [.slice o_x0 x0.length c_x0] 24 :: L) w ∧ (F65_j6 (F65_l2 fuel x0 y10 n1) y7 y8 p2 r1 y9) = some r) ?_ ?_
        ·skip
         refine w_reg (by kernel_rfl) ?_
         refine p_qn 4 [vI r1.1] [(1, .func (.func 116) #[] #[pB b1 0]), (4, pB b7 0), (6, pB b8 0), (8, vI p2), (9, pB b10 0), (10, .slice e4 y10.length q4), (11, vI (y10.length : Int)), (12, vI y8), (22, .bool (decide (r1.1 < (-1000000000 : Int))))] [.cell ⟨b10, 0, none⟩ (vI r1.1)] hf77 (by kernel_rfl) (.cell (hS31.box (i := 0) rfl (j := 0) rfl) .nil) fun a63 hf78 => ?_
         rcases Bool.eq_false_or_eq_true (decide (r1.1 < (-1000000000 : Int))) with hb11 | hb11
         ·have hr29 := cond_t hb11 hr28
          have hf79 := Fr.conv hf78 (congrArg (fun z => ([(1, .func (.func 116) #[] #[pB b1 0]), (4, pB b7 0), (6, pB b8 0), (8, vI p2), (9, pB b10 0), (10, .slice e4 y10.length q4), (11, vI (y10.length : Int)), (12, vI y8), (22, .bool z)] : FL)) hb11)
          refine p_qt [] [(1, .func (.func 116) #[] #[pB b1 0]), (4, pB b7 0), (6, pB b8 0), (8, vI p2), (9, pB b10 0), (10, .slice e4 y10.length q4), (11, vI (y10.length : Int)), (12, vI y8), (23, undef), (24, undef), (25, undef), (26, .bool true)] [] hf79 (by kernel_rfl) .nil fun a64 hf80 => ?_
          have hf81 := Fr.keep (ks := [1, 4, 6, 8, 9, 10, 11, 12, 26]) (r := [(1, .func (.func 116) #[] #[pB b1 0]), (4, pB b7 0), (6, pB b8 0), (8, vI p2), (9, pB b10 0), (10, .slice e4 y10.length q4), (11, vI (y10.length : Int)), (12, vI y8), (26, .bool true)]) hf80 (by kernel_rfl)
          exact ⟨z10, true, (Zone.le_refl _), hf81, hS31, hr29⟩
         ·have hr30 := cond_f hb11 hr28
          have hf82 := Fr.conv hf78 (congrArg (fun z => ([(1, .func (.func 116) #[] #[pB b1 0]), (4, pB b7 0), (6, pB b8 0), (8, vI p2), (9, pB b10 0), (10, .slice e4 y10.length q4), (11, vI (y10.length : Int)), (12, vI y8), (22, .bool z)] : FL)) hb11)
          refine p_qt [vI r1.2] [(1, .func (.func 116) #[] #[pB b1 0]), (4, pB b7 0), (6, pB b8 0), (8, vI p2), (9, pB b10 0), (10, .slice e4 y10.length q4), (11, vI (y10.length : Int)), (12, vI y8), (23, pB b10 1), (24, vI r1.2), (25, .bool (decide (r1.2 > (1000000000 : Int)))), (26, .bool (decide (r1.2 > (1000000000 : Int))))] [.cell ⟨b10, 1, none⟩ (vI r1.2)] hf82 (by kernel_rfl) (.cell (hS31.box (i := 0) rfl (j := 1) rfl) .nil) fun a65 hf83 => ?_
          have hf84 := Fr.keep (ks := [1, 4, 6, 8, 9, 10, 11, 12, 26]) (r := [(1, .func (.func 116) #[] #[pB b1 0]), (4, pB b7 0), (6, pB b8 0), (8, vI p2), (9, pB b10 0), (10, .slice e4 y10.length q4), (11, vI (y10.length : Int)), (12, vI y8), (26, .bool (decide (r1.2 > (1000000000 : Int))))]) hf83 (by kernel_rfl)
          exact ⟨z10, (decide (r1.2 > (1000000000 : Int))), (Zone.le_refl _), hf84, hS31, hr30⟩
        ·rintro a66 ww27 ⟨z11, y9, k12, hf85, hS32, hr31⟩
         refine w_if hf85 (b := y9) (by kernel_rfl) (fun hb12 => ?_) (fun hb12 => ?_)
         ·have hr32 := cond_t hb12 hr31
          refine w_sr (by kernel_rfl) ?_
          refine p_qn 1 [] [(4, pB b7 0), (27, .agg #[.slice none 0 0])] [] hf85 (by kernel_rfl) .nil fun a67 hf86 => ?_
          refine p_store_eq (i := 1) (j := 3) (b := b7) (off := 0) (vs := [.slice none 0 0]) (cs' := [.slice none 0 0]) hS32 hf86 rfl (by kernel_rfl) (by kernel_rfl) rfl fun ww28 a68 hS33 hf87 => ⟨fun _ => trivial, ?_⟩
          refine p_qt [] [(4, pB b7 0), (5, vI 5)] [] hf87 (by kernel_rfl) .nil fun a69 hf88 => ?_
          refine w_ret (by kernel_rfl) ?_
          refine r_then ?_
          refine r_block ?_
          refine r_then ?_
          refine r_then ?_
          refine r_block ?_
          refine r_then ?_
          refine p_ret (os := [.slice none 0 0]) (v := .tuple #[.agg #[.slice none 0 0], vI 5]) (obs := [.cell ⟨b7, 0, none⟩ (.slice none 0 0)]) hf88 (by kernel_rfl) (.cell (hS33.box (i := 3) rfl (j := 0) rfl) .nil) ?_
          have hS34 := St.ownNil hS33 PtT 52
          exact ⟨_, rfl, z11, [], 5, none, 0, (Zone.le_trans (Zone.le_trans k10 k11) k12), rfl, (St.pick 5 [0] hS34 (by kernel_rfl)), hr32⟩
         ·have hr33 := cond_f hb12 hr31
          refine w_skip (by kernel_rfl) ?_
          refine n_then ?_
          refine w_reg (by kernel_rfl) ?_
          refine p_qn 8 [.slice e7 y7.length q7, vI r1.1, vI r1.2] [(1, .func (.func 116) #[] #[pB b1 0]), (4, pB b7 0), (6, pB b8 0), (10, .slice e4 y10.length q4), (11, vI (y10.length : Int)), (12, vI y8), (29, .slice e7 y7.length q7), (35, .agg #[vI p2, vI r1.1, vI r1.2])] [.cell ⟨b8, 0, none⟩ (.slice e7 y7.length q7), .cell ⟨b10, 0, none⟩ (vI r1.1), .cell ⟨b10, 1, none⟩ (vI r1.2)] hf85 (by kernel_rfl) (.cell (hS32.box (i := 2) rfl (j := 0) rfl) (.cell (hS32.box (i := 0) rfl (j := 0) rfl) (.cell (hS32.box (i := 0) rfl (j := 1) rfl) .nil))) fun a70 hf89 => ?_
          refine p_box (i := 8) (d := (some 36)) (cs := [vI p2, vI r1.1, vI r1.2]) (T := 52) (v := fun b11 => .slice (some ⟨b11, 0, none⟩) 1 1) hS32 hf89 (fun b => by kernel_rfl) fun b11 ww29 a71 hS35 hf90 => ⟨fun _ => trivial, ?_⟩
          have hS36 := hS35.ownBox (T := PtT) (E := 52) (n := 1) (xs := [⟨p2, r1.1, r1.2⟩]) (i := 0) rfl (Rows.cons (c := [vI p2, vI r1.1, vI r1.2]) rfl rfl) rfl (by decide)
          obtain ⟨d2, hd6, hr34⟩ := bind_some hr33
          refine p_append (T := PtT) (i := 9) (j := 2) (d := some 37) (o2 := (some ⟨b11, 0, none⟩)) (c2 := 1) (ys := ([⟨p2, r1.1, r1.2⟩])) el22 hS36 hf90 rfl (by kernel_rfl) (hS36.ownSrc (j := 0) rfl) hd6 fun e8 q8 ww30 a72 hS37 hf91 => ⟨fun _ => trivial, ?_⟩
          refine p_qn 1 [] [(1, .func (.func 116) #[] #[pB b1 0]), (4, pB b7 0), (6, pB b8 0), (10, .slice e4 y10.length q4), (11, vI (y10.length : Int)), (12, vI y8), (37, .slice e8 d2.length q8), (38, pB b8 0)] [] hf91 (by kernel_rfl) .nil fun a73 hf92 => ?_
          refine p_store_eq (i := 11) (j := 3) (b := b8) (off := 0) (vs := [.slice e8 d2.length q8]) (cs' := [.slice e8 d2.length q8]) hS37 hf92 rfl (by kernel_rfl) (by kernel_rfl) rfl fun ww31 a74 hS38 hf93 => ⟨fun _ => trivial, ?_⟩
          refine p_done (by kernel_rfl) ?_
          refine n_block ?_
          refine n_then ?_
          refine w_q [] [(1, .func (.func 116) #[] #[pB b1 0]), (4, pB b7 0), (6, pB b8 0), (10, .slice e4 y10.length q4), (11, vI (y10.length : Int)), (12, vI (w64 (y8 + (1 : Int))))] [] hf93 (by kernel_rfl) .nil fun a75 hf94 => ?_
          refine n_then ?_
          have hf95 := Fr.keep (ks := [1, 4, 6, 10, 11, 12]) (r := [(1, .func (.func 116) #[] #[pB b1 0]), (4, pB b7 0), (6, pB b8 0), (10, .slice e4 y10.length q4), (11, vI (y10.length : Int)), (12, vI (w64 (y8 + (1 : Int))))]) hf94 (by kernel_rfl)
          exact ⟨n1, Nat.lt_succ_self n1, z11, d2, (w64 (y8 + (1 : Int))), e8, q8, (Zone.le_trans (Zone.le_trans k10 k11) k12), hf95, (St.drop 2 hS38), hr34⟩
       ·have hr35 := cond_f hb9 hr25
        refine w_exit (id := 0) (by kernel_rfl) ?_
        refine x_then ?_
        refine x_then ?_
        refine x_block ?_
        refine n_then ?_
        refine w_sr (by kernel_rfl) ?_
        refine p_qn 1 [.slice e7 y7.length q7] [(4, pB b7 0), (40, .agg #[.slice e7 y7.length q7])] [.cell ⟨b8, 0, none⟩ (.slice e7 y7.length q7)] hf67 (by kernel_rfl) (.cell (hS25.box (i := 1) rfl (j := 0) rfl) .nil) fun a76 hf96 => ?_
        refine p_store_eq (i := 1) (j := 2) (b := b7) (off := 0) (vs := [.slice e7 y7.length q7]) (cs' := [.slice e7 y7.length q7]) hS25 hf96 rfl (by kernel_rfl) (by kernel_rfl) rfl fun ww32 a77 hS39 hf97 => ⟨fun _ => trivial, ?_⟩
        refine p_qt [] [(4, pB b7 0), (5, vI 0)] [] hf97 (by kernel_rfl) .nil fun a78 hf98 => ?_
        refine w_ret (by kernel_rfl) ?_
        refine p_ret (os := [.slice e7 y7.length q7]) (v := .tuple #[.agg #[.slice e7 y7.length q7], vI 0]) (obs := [.cell ⟨b7, 0, none⟩ (.slice e7 y7.length q7)]) hf98 (by kernel_rfl) (.cell (hS39.box (i := 2) rfl (j := 0) rfl) .nil) ?_
        exact ⟨_, rfl, z9, y7, 0, e7, q7, k10, rfl, (St.pick 3 [0] hS39 (by kernel_rfl)), hr35⟩
      ·rintro v4 ww33 a79 ⟨z8, y5, y6, e6, q6, k13, rfl, hS40, hr36⟩ hf99
       refine ⟨fun _ => trivial, ?_⟩
       refine p_qn 2 [] [(6, pB b2 0), (65, .agg #[.slice e6 y5.length q6]), (66, vI y6)] [] hf99 (by kernel_rfl) .nil fun a80 hf100 => ?_
       refine p_store_eq (i := 5) (j := 2) (b := b2) (off := 0) (vs := [.slice e6 y5.length q6]) (cs' := [.slice e6 y5.length q6]) hS40 hf100 rfl (by kernel_rfl) (by kernel_rfl) rfl fun ww34 a81 hS41 hf101 => ⟨fun _ => trivial, ?_⟩
       refine p_qt [] [(6, pB b2 0), (7, vI y6)] [] hf101 (by kernel_rfl) .nil fun a82 hf102 => ?_
       refine w_ret (by kernel_rfl) ?_
       obtain ⟨z12, k14, hS42, hx1⟩ := hS41.share (j := 0) rfl
       refine p_ret (os := [.slice e6 y5.length q6]) (v := .tuple #[.agg #[.slice e6 y5.length q6], vI y6]) (obs := [.cell ⟨b2, 0, none⟩ (.slice e6 y5.length q6)]) hf102 (by kernel_rfl) (.cell (hS42.box (i := 2) rfl (j := 0) rfl) .nil) ?_
       obtain rfl := some_eq hr36
       exact ⟨_, rfl, z12, e6, q6, (Zone.le_trans (Zone.le_trans (Zone.le_trans (Zone.le_trans (Zone.le_trans k3 k5) k6) k9) k13) k14), rfl, (St.drop 4 hS42), hx1⟩
def F72 (fuel : Nat) (x0_lo : Int) (x0_hi : Int) (x1_w : Int) (x1_n : Int) (x1_d : Int) (x2 : Int) (x3 : Int) : Option (Bool) :=
  ((F100 fuel (w64 (x2 * x1_w)) x3).bind fun r1 => ((F100 fuel (w64 ((w64 ((w64 ((w64 (x2 * x1_w)) - (w64 (r1 * x3)))) * x1_d)) + (w64 (x2 * x1_n)))) (w64 (x1_d * x3))).bind fun r2 => ((F32 fuel x0_lo x0_hi (w64 (r1 + r2)) (w64 ((w64 ((w64 ((w64 ((w64 (x2 * x1_w)) - (w64 (r1 * x3)))) * x1_d)) + (w64 (x2 * x1_n)))) - (w64 ((w64 (r2 * x1_d)) * x3)))) (w64 (x1_d * x3))).bind fun r3 => (some (r3)))))
set_option maxRecDepth 100000 in
theorem f72_ok (fuel : Nat) (x0_lo : Int) (x0_hi : Int) (x1_w : Int) (x1_n : Int) (x1_d : Int) (x2 : Int) (x3 : Int) (r : Bool) (hr : F72 fuel x0_lo x0_hi x1_w x1_n x1_d x2 x3 = some r) (h : Zone) (L : List Atom) (w : World) (hS : St h L w)  :
    Calls Try.prog 72 #[.agg #[vI x0_lo, vI x0_hi], .agg #[vI x1_w, vI x1_n, vI x1_d], vI x2, vI x3] w fun e w' => ∃ v, e = .returned v ∧ (∃ h', Zone.le h h' ∧ v = .bool r ∧ St h' L w') := by
 refine calls_intro (N := 58) Try.func72 (by kernel_rfl) fun a hf => ?_
 refine w_sr (by kernel_rfl) ?_
 refine p_box (i := 0) (d := (some 4)) (cs := [vI x0_lo, vI x0_hi]) (T := 41) (v := fun b1 => pB b1 0) hS hf (fun b => by kernel_rfl) fun b1 ww1 a1 hS1 hf1 => ⟨fun _ => trivial, ?_⟩
 refine p_box (i := 1) (d := (some 5)) (cs := [vI x1_w, vI x1_n, vI x1_d]) (T := 56) (v := fun b2 => pB b2 0) hS1 hf1 (fun b => by kernel_rfl) fun b2 ww2 a2 hS2 hf2 => ⟨fun _ => trivial, ?_⟩
 refine p_qt [] [(2, vI x2), (3, vI x3), (4, pB b1 0), (5, pB b2 0)] [] hf2 (by kernel_rfl) .nil fun a3 hf3 => ?_
 refine w_sr (by kernel_rfl) ?_
 refine p_qn 5 [vI x1_w] [(2, vI x2), (3, vI x3), (4, pB b1 0), (5, pB b2 0), (15, vI (w64 (x2 * x1_w))), (16, vI x3)] [.cell ⟨b2, 0, none⟩ (vI x1_w)] hf3 (by kernel_rfl) (.cell (hS2.box (i := 0) rfl (j := 0) rfl) .nil) fun a4 hf4 => ?_
 obtain ⟨r1, hd1, hr1⟩ := bind_some hr
 refine p_call (i := 5) (d := some 17) (f := 100) (args := #[vI (w64 (x2 * x1_w)), vI x3]) hf4 (by kernel_rfl) (f100_ok fuel (w64 (x2 * x1_w)) x3 r1 hd1 h _ _ hS2 ) ?_
 rintro v1 ww3 a5 ⟨z1, k1, rfl, hS3⟩ hf5
 refine ⟨fun _ => trivial, ?_⟩
 refine p_qt [] [(2, vI x2), (3, vI x3), (4, pB b1 0), (5, pB b2 0), (9, vI r1)] [] hf5 (by kernel_rfl) .nil fun a6 hf6 => ?_
 refine w_sq [vI x1_w, vI x1_d, vI x1_n] [(3, vI x3), (4, pB b1 0), (5, pB b2 0), (9, vI r1), (10, vI (w64 ((w64 ((w64 ((w64 (x2 * x1_w)) - (w64 (r1 * x3)))) * x1_d)) + (w64 (x2 * x1_n)))))] [.cell ⟨b2, 0, none⟩ (vI x1_w), .cell ⟨b2, 2, none⟩ (vI x1_d), .cell ⟨b2, 1, none⟩ (vI x1_n)] hf6 (by kernel_rfl) (.cell (hS3.box (i := 0) rfl (j := 0) rfl) (.cell (hS3.box (i := 0) rfl (j := 2) rfl) (.cell (hS3.box (i := 0) rfl (j := 1) rfl) .nil))) fun a7 hf7 => ?_
 refine w_sr (by kernel_rfl) ?_
 refine p_qn 5 [vI x1_d] [(3, vI x3), (4, pB b1 0), (5, pB b2 0), (9, vI r1), (10, vI (w64 ((w64 ((w64 ((w64 (x2 * x1_w)) - (w64 (r1 * x3)))) * x1_d)) + (w64 (x2 * x1_n))))), (34, vI (w64 ((w64 ((w64 ((w64 (x2 * x1_w)) - (w64 (r1 * x3)))) * x1_d)) + (w64 (x2 * x1_n))))), (38, vI (w64 (x1_d * x3)))] [.cell ⟨b2, 2, none⟩ (vI x1_d)] hf7 (by kernel_rfl) (.cell (hS3.box (i := 0) rfl (j := 2) rfl) .nil) fun a8 hf8 => ?_
 obtain ⟨r2, hd2, hr2⟩ := bind_some hr1
 refine p_call (i := 5) (d := some 39) (f := 100) (args := #[vI (w64 ((w64 ((w64 ((w64 (x2 * x1_w)) - (w64 (r1 * x3)))) * x1_d)) + (w64 (x2 * x1_n)))), vI (w64 (x1_d * x3))]) hf8 (by kernel_rfl) (f100_ok fuel (w64 ((w64 ((w64 ((w64 (x2 * x1_w)) - (w64 (r1 * x3)))) * x1_d)) + (w64 (x2 * x1_n)))) (w64 (x1_d * x3)) r2 hd2 z1 _ _ hS3 ) ?_
 rintro v2 ww4 a9 ⟨z2, k2, rfl, hS4⟩ hf9
 refine ⟨fun _ => trivial, ?_⟩
 refine p_qt [] [(3, vI x3), (4, pB b1 0), (5, pB b2 0), (9, vI r1), (10, vI (w64 ((w64 ((w64 ((w64 (x2 * x1_w)) - (w64 (r1 * x3)))) * x1_d)) + (w64 (x2 * x1_n))))), (11, vI r2)] [] hf9 (by kernel_rfl) .nil fun a10 hf10 => ?_
 refine w_sr (by kernel_rfl) ?_
 refine p_qn 17 [vI x0_lo, vI x0_hi, vI x1_d, vI x1_d] [(40, .agg #[vI x0_lo, vI x0_hi]), (56, .agg #[vI (w64 (r1 + r2)), vI (w64 ((w64 ((w64 ((w64 ((w64 (x2 * x1_w)) - (w64 (r1 * x3)))) * x1_d)) + (w64 (x2 * x1_n)))) - (w64 ((w64 (r2 * x1_d)) * x3)))), vI (w64 (x1_d * x3))])] [.cell ⟨b1, 0, none⟩ (vI x0_lo), .cell ⟨b1, 1, none⟩ (vI x0_hi), .cell ⟨b2, 2, none⟩ (vI x1_d), .cell ⟨b2, 2, none⟩ (vI x1_d)] hf10 (by kernel_rfl) (.cell (hS4.box (i := 1) rfl (j := 0) rfl) (.cell (hS4.box (i := 1) rfl (j := 1) rfl) (.cell (hS4.box (i := 0) rfl (j := 2) rfl) (.cell (hS4.box (i := 0) rfl (j := 2) rfl) .nil)))) fun a11 hf11 => ?_
 obtain ⟨r3, hd3, hr3⟩ := bind_some hr2
 refine p_call (i := 17) (d := some 57) (f := 32) (args := #[.agg #[vI x0_lo, vI x0_hi], .agg #[vI (w64 (r1 + r2)), vI (w64 ((w64 ((w64 ((w64 ((w64 (x2 * x1_w)) - (w64 (r1 * x3)))) * x1_d)) + (w64 (x2 * x1_n)))) - (w64 ((w64 (r2 * x1_d)) * x3)))), vI (w64 (x1_d * x3))]]) hf11 (by kernel_rfl) (f32_ok fuel x0_lo x0_hi (w64 (r1 + r2)) (w64 ((w64 ((w64 ((w64 ((w64 (x2 * x1_w)) - (w64 (r1 * x3)))) * x1_d)) + (w64 (x2 * x1_n)))) - (w64 ((w64 (r2 * x1_d)) * x3)))) (w64 (x1_d * x3)) r3 hd3 z2 _ _ hS4 ) ?_
 rintro v3 w64 a12 ⟨z3, k3, rfl, hS5⟩ hf12
 refine ⟨fun _ => trivial, ?_⟩
 refine p_qt [] [(8, .bool r3)] [] hf12 (by kernel_rfl) .nil fun a13 hf13 => ?_
 refine w_ret (by kernel_rfl) ?_
 refine p_ret (os := []) (v := .bool r3) (obs := []) hf13 (by kernel_rfl) .nil ?_
 obtain rfl := some_eq hr3
 exact ⟨_, rfl, z3, (Zone.le_trans (Zone.le_trans k1 k2) k3), rfl, (St.drop 2 hS5)⟩
def F75 (fuel : Nat) (x0_w : Int) (x0_n : Int) (x0_d : Int) (x1_w : Int) (x1_n : Int) (x1_d : Int) : Option (Int × Int × Int) :=
  ((nz (w64 (x0_d * x1_d))).bind fun _ => ((nz (w64 (x0_d * x1_d))).bind fun _ => (some ((w64 ((w64 (x0_w + x1_w)) + (w64 (Int.tdiv (w64 ((w64 (x0_n * x1_d)) + (w64 (x1_n * x0_d)))) (w64 (x0_d * x1_d)))))), (Int.tmod (w64 ((w64 (x0_n * x1_d)) + (w64 (x1_n * x0_d)))) (w64 (x0_d * x1_d))), (w64 (x0_d * x1_d))))))
set_option maxRecDepth 100000 in
theorem f75_ok (fuel : Nat) (x0_w : Int) (x0_n : Int) (x0_d : Int) (x1_w : Int) (x1_n : Int) (x1_d : Int) (r : Int × Int × Int) (hr : F75 fuel x0_w x0_n x0_d x1_w x1_n x1_d = some r) (h : Zone) (L : List Atom) (w : World) (hS : St h L w)  :
    Calls Try.prog 75 #[.agg #[vI x0_w, vI x0_n, vI x0_d], .agg #[vI x1_w, vI x1_n, vI x1_d]] w fun e w' => ∃ v, e = .returned v ∧ (v = .agg #[vI r.1, vI r.2.1, vI r.2.2] ∧ St h L w') := by
 refine calls_intro (N := 37) Try.func75 (by kernel_rfl) fun a hf => ?_
 refine w_sr (by kernel_rfl) ?_
 refine p_box (i := 0) (d := (some 2)) (cs := [vI x0_w, vI x0_n, vI x0_d]) (T := 56) (v := fun b1 => pB b1 0) hS hf (fun b => by kernel_rfl) fun b1 ww1 a1 hS1 hf1 => ⟨fun _ => trivial, ?_⟩
 refine p_box (i := 1) (d := (some 3)) (cs := [vI x1_w, vI x1_n, vI x1_d]) (T := 56) (v := fun b2 => pB b2 0) hS1 hf1 (fun b => by kernel_rfl) fun b2 ww2 a2 hS2 hf2 => ⟨fun _ => trivial, ?_⟩
 refine p_box (i := 2) (d := (some 4)) (cs := [vI 0, vI 0, vI 0]) (T := 56) (v := fun b3 => pB b3 0) hS2 hf2 (fun b => by kernel_rfl) fun b3 ww3 a3 hS3 hf3 => ⟨fun _ => trivial, ?_⟩
 refine p_dt (by kernel_rfl) ?_
 refine w_sq [vI x0_n, vI x1_d, vI x1_n, vI x0_d] [(2, pB b1 0), (3, pB b2 0), (4, pB b3 0), (5, vI (w64 ((w64 (x0_n * x1_d)) + (w64 (x1_n * x0_d)))))] [.cell ⟨b1, 1, none⟩ (vI x0_n), .cell ⟨b2, 2, none⟩ (vI x1_d), .cell ⟨b2, 1, none⟩ (vI x1_n), .cell ⟨b1, 2, none⟩ (vI x0_d)] hf3 (by kernel_rfl) (.cell (hS3.box (i := 2) rfl (j := 1) rfl) (.cell (hS3.box (i := 1) rfl (j := 2) rfl) (.cell (hS3.box (i := 1) rfl (j := 1) rfl) (.cell (hS3.box (i := 2) rfl (j := 2) rfl) .nil)))) fun a4 hf4 => ?_
 refine w_sq [vI x0_d, vI x1_d] [(2, pB b1 0), (3, pB b2 0), (4, pB b3 0), (5, vI (w64 ((w64 (x0_n * x1_d)) + (w64 (x1_n * x0_d))))), (6, vI (w64 (x0_d * x1_d)))] [.cell ⟨b1, 2, none⟩ (vI x0_d), .cell ⟨b2, 2, none⟩ (vI x1_d)] hf4 (by kernel_rfl) (.cell (hS3.box (i := 2) rfl (j := 2) rfl) (.cell (hS3.box (i := 1) rfl (j := 2) rfl) .nil)) fun a5 hf5 => ?_
 refine w_seq (by kernel_rfl) ?_
 have hS4 := hS3.drew
 refine w_regD (by kernel_rfl) [(0, true), (1, true), (2, true), (3, true), (4, true), (5, true), (6, true), (7, true), (8, true), (9, true), (10, true), (11, true), (12, true), (13, true), (14, false)] [14] (fun x => x = ww3.drew) (by kernel_rfl) rfl ?_
 obtain ⟨u1, hd1, hr1⟩ := bind_some hr
 obtain ⟨u2, hd2, hr2⟩ := bind_some hr1
 refine p_qE 14 [vI x0_w, vI x1_w] [(4, pB b3 0), (36, .agg #[vI (w64 ((w64 (x0_w + x1_w)) + (w64 (Int.tdiv (w64 ((w64 (x0_n * x1_d)) + (w64 (x1_n * x0_d)))) (w64 (x0_d * x1_d)))))), vI (Int.tmod (w64 ((w64 (x0_n * x1_d)) + (w64 (x1_n * x0_d)))) (w64 (x0_d * x1_d))), vI (w64 (x0_d * x1_d))])] [.cell ⟨b1, 0, none⟩ (vI x0_w), .cell ⟨b2, 0, none⟩ (vI x1_w), .prop ((w64 (x0_d * x1_d)) ≠ 0), .prop ((w64 (x0_d * x1_d)) ≠ 0)] [] hf5 (by kernel_rfl) (.cell (hS4.box (i := 2) rfl (j := 0) rfl) (.cell (hS4.box (i := 1) rfl (j := 0) rfl) (.prop (nz_spec hd1) (.prop (nz_spec hd2) .nil)))) .nil fun a6 hf6 => ?_
 refine p_store_eq (i := 14) (j := 0) (b := b3) (off := 0) (vs := [vI (w64 ((w64 (x0_w + x1_w)) + (w64 (Int.tdiv (w64 ((w64 (x0_n * x1_d)) + (w64 (x1_n * x0_d)))) (w64 (x0_d * x1_d)))))), vI (Int.tmod (w64 ((w64 (x0_n * x1_d)) + (w64 (x1_n * x0_d)))) (w64 (x0_d * x1_d))), vI (w64 (x0_d * x1_d))]) (cs' := [vI (w64 ((w64 (x0_w + x1_w)) + (w64 (Int.tdiv (w64 ((w64 (x0_n * x1_d)) + (w64 (x1_n * x0_d)))) (w64 (x0_d * x1_d)))))), vI (Int.tmod (w64 ((w64 (x0_n * x1_d)) + (w64 (x1_n * x0_d)))) (w64 (x0_d * x1_d))), vI (w64 (x0_d * x1_d))]) hS4 hf6 rfl (by kernel_rfl) (by kernel_rfl) rfl fun ww4 a7 hS5 hf7 => ⟨fun e => absurd e (by decide), ?_⟩
 refine p_dt (by kernel_rfl) ?_
 refine w_ret (by kernel_rfl) ?_
 refine p_ret (os := [vI (w64 ((w64 (x0_w + x1_w)) + (w64 (Int.tdiv (w64 ((w64 (x0_n * x1_d)) + (w64 (x1_n * x0_d)))) (w64 (x0_d * x1_d)))))), vI (Int.tmod (w64 ((w64 (x0_n * x1_d)) + (w64 (x1_n * x0_d)))) (w64 (x0_d * x1_d))), vI (w64 (x0_d * x1_d))]) (v := .agg #[vI (w64 ((w64 (x0_w + x1_w)) + (w64 (Int.tdiv (w64 ((w64 (x0_n * x1_d)) + (w64 (x1_n * x0_d)))) (w64 (x0_d * x1_d)))))), vI (Int.tmod (w64 ((w64 (x0_n * x1_d)) + (w64 (x1_n * x0_d)))) (w64 (x0_d * x1_d))), vI (w64 (x0_d * x1_d))]) (obs := [.cell ⟨b3, 0, none⟩ (vI (w64 ((w64 (x0_w + x1_w)) + (w64 (Int.tdiv (w64 ((w64 (x0_n * x1_d)) + (w64 (x1_n * x0_d)))) (w64 (x0_d * x1_d))))))), .cell ⟨b3, 1, none⟩ (vI (Int.tmod (w64 ((w64 (x0_n * x1_d)) + (w64 (x1_n * x0_d)))) (w64 (x0_d * x1_d)))), .cell ⟨b3, 2, none⟩ (vI (w64 (x0_d * x1_d)))]) hf7 (by kernel_rfl) (.cell (hS5.box (i := 0) rfl (j := 0) rfl) (.cell (hS5.box (i := 0) rfl (j := 1) rfl) (.cell (hS5.box (i := 0) rfl (j := 2) rfl) .nil))) ?_
 obtain rfl := some_eq hr2
 exact ⟨_, rfl, rfl, (St.drop 3 hS5)⟩
def F11_j13 (y1 : Bool) : Option (Bool) :=
  (some (y1))
def F11_j11 (fuel : Nat) (r1 : List Pt × Int) (r2 : List Pt × Int) : Option (Bool) :=
  (cond (r1.2 == (0 : Int)) (cond (r2.2 == (0 : Int)) ((F13 fuel ).bind fun r3 => (F11_j13 r3)) (cond (r2.2 == (2 : Int)) ((F13 fuel ).bind fun r4 => (F11_j13 r4)) (F11_j13 false))) (cond (r1.2 == (5 : Int)) (cond (r2.2 == (0 : Int)) ((F13 fuel ).bind fun r5 => (F11_j13 r5)) (cond (r2.2 == (2 : Int)) ((F13 fuel ).bind fun r6 => (F11_j13 r6)) (F11_j13 false))) (cond (r1.2 == (2 : Int)) (cond (r2.2 == (0 : Int)) ((F13 fuel ).bind fun r7 => (F11_j13 r7)) (cond (r2.2 == (2 : Int)) ((F13 fuel ).bind fun r8 => (F11_j13 r8)) (F11_j13 false))) (F11_j13 false))))
def F11_j12 (fuel : Nat) (r1 : List Pt × Int) (r2 : List Pt × Int) (y2 : Bool) : Option (Bool) :=
  (cond y2 (some (false)) (F11_j11 fuel r1 r2))
def F11_j9 (fuel : Nat) (x0_t : List Pt) (x1_t : List Pt) (r9 : Int) (y3 : Int) (y4 : Int) (y5 : Int) (y6 : Int) (y7 : Int) (y8 : Int) (r1 : List Pt × Int) : Option (Bool) :=
  ((F59 fuel x0_t x1_t).bind fun r2 => (cond (r2.2 == (0 : Int)) ((F27 fuel r2.1 r9).bind fun r10 => (cond (r10.2.2 != (0 : Int)) (F11_j12 fuel r1 r2 true) ((F32 fuel r10.1 r10.2.1 y3 y4 y5).bind fun r11 => (cond (!r11) (F11_j12 fuel r1 r2 true) ((F32 fuel r10.1 r10.2.1 y6 y7 y8).bind fun r12 => (F11_j12 fuel r1 r2 (!r12))))))) (F11_j11 fuel r1 r2)))
def F11_j10 (fuel : Nat) (x0_t : List Pt) (x1_t : List Pt) (r9 : Int) (y3 : Int) (y4 : Int) (y5 : Int) (y6 : Int) (y7 : Int) (y8 : Int) (r1 : List Pt × Int) (y9 : Bool) : Option (Bool) :=
  (cond y9 (some (false)) (F11_j9 fuel x0_t x1_t r9 y3 y4 y5 y6 y7 y8 r1))
def F11_j8 (fuel : Nat) (x0_t : List Pt) (x1_t : List Pt) (r9 : Int) (y3 : Int) (y4 : Int) (y5 : Int) (y6 : Int) (y7 : Int) (y8 : Int) : Option (Bool) :=
  ((F57 fuel x0_t x1_t).bind fun r1 => (cond (r1.2 == (0 : Int)) ((F27 fuel r1.1 r9).bind fun r13 => (cond (r13.2.2 != (0 : Int)) (F11_j10 fuel x0_t x1_t r9 y3 y4 y5 y6 y7 y8 r1 true) ((F75 fuel y3 y4 y5 y6 y7 y8).bind fun r14 => ((F32 fuel r13.1 r13.2.1 r14.1 r14.2.1 r14.2.2).bind fun r15 => (F11_j10 fuel x0_t x1_t r9 y3 y4 y5 y6 y7 y8 r1 (!r15)))))) (F11_j9 fuel x0_t x1_t r9 y3 y4 y5 y6 y7 y8 r1)))
def F11_j7 (fuel : Nat) (x0_t : List Pt) (x1_t : List Pt) (x1_c : List Int) (r9 : Int) (y3 : Int) (y4 : Int) (y5 : Int) (y10 : Bool) : Option (Bool) :=
  (cond y10 ((F13 fuel ).bind fun r16 => (some (r16))) ((F16 fuel x1_t).bind fun r17 => ((F17 fuel x1_t x1_c).bind fun r18 => ((F30 fuel r17 r18 r9).bind fun r19 => (F11_j8 fuel x0_t x1_t r9 y3 y4 y5 r19.1 r19.2.1 r19.2.2)))))
def F11_j6 (fuel : Nat) (x0_t : List Pt) (x1_t : List Pt) (x1_c : List Int) (r9 : Int) (y3 : Int) (y4 : Int) (y5 : Int) (y11 : Bool) : Option (Bool) :=
  (cond y11 (some (false)) ((F73 fuel x1_t).bind fun r20 => (cond (decide (r9 < r20)) (F11_j7 fuel x0_t x1_t x1_c r9 y3 y4 y5 true) ((F74 fuel x1_t).bind fun r21 => (F11_j7 fuel x0_t x1_t x1_c r9 y3 y4 y5 (decide (r9 > r21)))))))
def F11_j4 (fuel : Nat) (x0_t : List Pt) (x1_t : List Pt) (x1_c : List Int) (r9 : Int) (y3 : Int) (y4 : Int) (y5 : Int) (r22 : List Pt × Int) : Option (Bool) :=
  (cond (r22.2 != (0 : Int)) (F11_j6 fuel x0_t x1_t x1_c r9 y3 y4 y5 (r22.2 != (5 : Int))) (F11_j6 fuel x0_t x1_t x1_c r9 y3 y4 y5 false))
def F11_j5 (fuel : Nat) (x0_t : List Pt) (x1_t : List Pt) (x1_c : List Int) (r9 : Int) (y3 : Int) (y4 : Int) (y5 : Int) (r22 : List Pt × Int) (y12 : Bool) : Option (Bool) :=
  (cond y12 (some (false)) (F11_j4 fuel x0_t x1_t x1_c r9 y3 y4 y5 r22))
def F11_j3 (fuel : Nat) (x0_t : List Pt) (x1_t : List Pt) (x1_c : List Int) (y13 : Int) (y14 : Int) (r9 : Int) (y3 : Int) (y4 : Int) (y5 : Int) (y15 : Bool) : Option (Bool) :=
  (cond y15 (some (false)) ((F36 fuel y13).bind fun r23 => ((F36 fuel y14).bind fun r24 => ((F36 fuel y14).bind fun r25 => ((F61 fuel x0_t (Int.tmod r23 1001) (w64 ((1 : Int) + (Int.tmod (if (w64 (0 - r25)) > r24 then (w64 (0 - r25)) else r24) 1000)))).bind fun r22 => (cond (r22.2 == (0 : Int)) ((F27 fuel r22.1 r9).bind fun r26 => (cond (r26.2.2 != (0 : Int)) (F11_j5 fuel x0_t x1_t x1_c r9 y3 y4 y5 r22 true) ((F72 fuel r26.1 r26.2.1 y3 y4 y5 (Int.tmod r23 1001) (w64 ((1 : Int) + (Int.tmod (if (w64 (0 - r25)) > r24 then (w64 (0 - r25)) else r24) 1000)))).bind fun r27 => (F11_j5 fuel x0_t x1_t x1_c r9 y3 y4 y5 r22 (!r27))))) (F11_j4 fuel x0_t x1_t x1_c r9 y3 y4 y5 r22)))))))
def F11_j2 (fuel : Nat) (x0_t : List Pt) (x1_t : List Pt) (x1_c : List Int) (y16 : Int) (y17 : Int) (y13 : Int) (y14 : Int) (r9 : Int) (y3 : Int) (y4 : Int) (y5 : Int) : Option (Bool) :=
  ((F14 fuel x0_t y16).bind fun r28 => ((F14 fuel x0_t y17).bind fun r29 => ((F65 fuel x0_t (if r28 < r9 then r28 else r9) (if r29 > r9 then r29 else r9)).bind fun r30 => ((F27 fuel r30.1 r9).bind fun r31 => (cond (r30.2 != (0 : Int)) (F11_j3 fuel x0_t x1_t x1_c y13 y14 r9 y3 y4 y5 true) (cond (r31.2.2 != (0 : Int)) (F11_j3 fuel x0_t x1_t x1_c y13 y14 r9 y3 y4 y5 true) ((F32 fuel r31.1 r31.2.1 y3 y4 y5).bind fun r32 => (F11_j3 fuel x0_t x1_t x1_c y13 y14 r9 y3 y4 y5 (!r32)))))))))
def F11_j1 (fuel : Nat) (x0_t : List Pt) (x0_c : List Int) (x1_t : List Pt) (x1_c : List Int) (y18 : Int) (y16 : Int) (y17 : Int) (y13 : Int) (y14 : Int) (y19 : Bool) : Option (Bool) :=
  (cond y19 ((F13 fuel ).bind fun r33 => (some (r33))) ((F14 fuel x0_t y18).bind fun r9 => ((F16 fuel x0_t).bind fun r34 => ((F17 fuel x0_t x0_c).bind fun r35 => ((F30 fuel r34 r35 r9).bind fun r36 => (F11_j2 fuel x0_t x1_t x1_c y16 y17 y13 y14 r9 r36.1 r36.2.1 r36.2.2))))))
def F11 (fuel : Nat) (x0_t : List Pt) (x0_c : List Int) (x1_t : List Pt) (x1_c : List Int) (y18 : Int) (y16 : Int) (y17 : Int) (y13 : Int) (y14 : Int) : Option (Bool) :=
  ((F12 fuel x0_t).bind fun r37 => (cond (!r37) (F11_j1 fuel x0_t x0_c x1_t x1_c y18 y16 y17 y13 y14 true) ((F12 fuel x1_t).bind fun r38 => (F11_j1 fuel x0_t x0_c x1_t x1_c y18 y16 y17 y13 y14 (!r38)))))
end Go.Proofs.Ytpjmgeajajcceaa

