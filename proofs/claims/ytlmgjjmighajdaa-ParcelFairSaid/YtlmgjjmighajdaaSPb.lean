/-
  The walks of functions 71, 17, 73, 90, 137, 123, 127, 91, 30, 19, 110, 84, 83, 81, 125, 148, 80, 150, 151, 152, 146, 147, 138, 139, 140, 141, 142, 143, 130, 122, 74, 124, 75, 78, 82, 97, 38, 98, 40, 21, 103, 117, 61, 69, 70, 16: what the code does is what a plain function computes. No condition.
-/
import Derived.Test.YtlmgjjmighajdaaSPa
set_option linter.unusedVariables false
namespace Go.Proofs.Ytlmgjjmighajdaa
open Go.Sl Go.Sx
set_option maxRecDepth 100000 in
theorem f80_ok (fuel : Nat) (x0 : List Part) (x1 : List Part) (r : List Part) (hr : F80 fuel x0 x1 = some r) (h : Zone) (L : List Atom) (w : World) (hS : St h L w) (o_x0 : Option Addr) (c_x0 : Nat) (hx_x0 : SliceR PartT h o_x0 c_x0 x0) (o_x1 : Option Addr) (c_x1 : Nat) (hx_x1 : SliceR PartT h o_x1 c_x1 x1) :
    Calls Try.prog 80 #[.agg #[.slice o_x0 x0.length c_x0], .agg #[.slice o_x1 x1.length c_x1]] w fun e w' => ∃ v, e = .returned v ∧ (∃ h', ∃ o0 : Option Addr, ∃ c0 : Nat, Zone.le h h' ∧ v = .agg #[.slice o0 r.length c0] ∧ St h' L w' ∧ SliceR PartT h' o0 c0 r) := by
 refine calls_intro (N := 123) Try.func80 (by kernel_rfl) fun a hf => ?_
 refine w_sr (by kernel_rfl) ?_
 refine p_box (i := 0) (d := (some 2)) (cs := [.slice o_x0 x0.length c_x0]) (T := 40) (v := fun b1 => pB b1 0) hS hf (fun b => by kernel_rfl) fun b1 ww1 a1 hS1 hf1 => ⟨fun _ => trivial, ?_⟩
 refine p_box (i := 1) (d := (some 3)) (cs := [.slice o_x1 x1.length c_x1]) (T := 40) (v := fun b2 => pB b2 0) hS1 hf1 (fun b => by kernel_rfl) fun b2 ww2 a2 hS2 hf2 => ⟨fun _ => trivial, ?_⟩
 refine p_box (i := 2) (d := (some 4)) (cs := [.slice none 0 0]) (T := 40) (v := fun b3 => pB b3 0) hS2 hf2 (fun b => by kernel_rfl) fun b3 ww3 a3 hS3 hf3 => ⟨fun _ => trivial, ?_⟩
 refine p_dt (by kernel_rfl) ?_
 refine w_sr (by kernel_rfl) ?_
 refine p_box (i := 0) (d := (some 5)) (cs := [.slice none 0 0]) (T := 40) (v := fun b4 => pB b4 0) hS3 hf3 (fun b => by kernel_rfl) fun b4 ww4 a4 hS4 hf4 => ⟨fun _ => trivial, ?_⟩
 refine p_dt (by kernel_rfl) ?_
 refine w_sq [] [(2, pB b1 0), (3, pB b2 0), (4, pB b3 0), (5, pB b4 0), (6, vI 0), (7, vI 0)] [] hf4 (by kernel_rfl) .nil fun a5 hf5 => ?_
 refine w_seq (by kernel_rfl) ?_
 refine w_block (id := 0) (by kernel_rfl) ?_
 have hS5 := hS4.ownNil PartT 56
 have hf6 := Fr.keep (ks := [2, 3, 4, 5, 6, 7]) (r := [(2, pB b1 0), (3, pB b2 0), (4, pB b3 0), (5, pB b4 0), (6, vI 0), (7, vI 0)]) hf5 (by kernel_rfl)
 refine w_loop (by kernel_rfl) (fun n a w => ∃ z1 : Zone, ∃ y1 : List Part, ∃ y2 : Int, ∃ y3 : Int, ∃ e1 : Option Addr, ∃ q1 : Nat, Zone.le h z1 ∧ Fr a 123 [(2, pB b1 0), (3, pB b2 0), (4, pB b3 0), (5, pB b4 0), (6, vI y2), (7, vI y3)] ∧ St z1 (ownS PartT 56 e1 q1 y1 :: box b4 [.slice e1 y1.length q1] 40 :: box b3 [.slice none 0 0] 40 :: box b2 [.slice o_x1 x1.length c_x1] 40 :: box b1 [.slice o_x0 x0.length c_x0] 40 :: L) w ∧ (F80_l1 x0 x1 n y1 y2 y3) = some r) fuel ⟨h, [], 0, 0, none, 0, (Zone.le_refl _), hf6, hS5, hr⟩ ?_
 rintro n2 a6 ww5 ⟨z1, y1, y2, y3, e1, q1, k2, hf7, hS6, hr1⟩
 cases n2 with
 | zero => cases hr1
 | succ n1 =>
 refine w_seq (by kernel_rfl) ?_
 refine w_mid (by kernel_rfl) (fun a w => ∃ z2 : Zone, ∃ y6 : Bool, Zone.le z1 z2 ∧ Fr a 123 [(2, pB b1 0), (3, pB b2 0), (4, pB b3 0), (5, pB b4 0), (6, vI y2), (7, vI y3), (19, .bool y6)] ∧ St z2 (ownS PartT 56 e1 q1 y1 :: box b4 [.slice e1 y1.length q1] 40 :: box b3 [.slice none 0 0] 40 :: box b2 [.slice o_x1 x1.length c_x1] 40 :: box b1 [.slice o_x0 x0.length c_x0] 40 :: L) w ∧ (F80_j1 (F80_l1 x0 x1 n1) x0 x1 y1 y2 y3 y6) = some r) ?_ ?_
 ·skip
  refine w_reg (by kernel_rfl) ?_
  refine p_qn 6 [.slice o_x0 x0.length c_x0] [(2, pB b1 0), (3, pB b2 0), (4, pB b3 0), (5, pB b4 0), (6, vI y2), (7, vI y3), (13, .bool (decide (y2 < (x0.length : Int))))] [.cell ⟨b1, 0, none⟩ (.slice o_x0 x0.length c_x0)] hf7 (by kernel_rfl) (.cell (hS6.box (i := 4) rfl (j := 0) rfl) .nil) fun a7 hf8 => ?_
  rcases Bool.eq_false_or_eq_true (decide (y2 < (x0.length : Int))) with hb1 | hb1
  ·have hr2 := cond_t hb1 hr1
   have hf9 := Fr.conv hf8 (congrArg (fun z => ([(2, pB b1 0), (3, pB b2 0), (4, pB b3 0), (5, pB b4 0), (6, vI y2), (7, vI y3), (13, .bool z)] : FL)) hb1)
   refine p_qt [] [(2, pB b1 0), (3, pB b2 0), (4, pB b3 0), (5, pB b4 0), (6, vI y2), (7, vI y3), (14, undef), (15, undef), (16, undef), (17, undef), (18, undef), (19, .bool true)] [] hf9 (by kernel_rfl) .nil fun a8 hf10 => ?_
   have hf11 := Fr.keep (ks := [2, 3, 4, 5, 6, 7, 19]) (r := [(2, pB b1 0), (3, pB b2 0), (4, pB b3 0), (5, pB b4 0), (6, vI y2), (7, vI y3), (19, .bool true)]) hf10 (by kernel_rfl)
   exact ⟨z1, true, (Zone.le_refl _), hf11, hS6, hr2⟩
  ·have hr3 := cond_f hb1 hr1
   have hf12 := Fr.conv hf8 (congrArg (fun z => ([(2, pB b1 0), (3, pB b2 0), (4, pB b3 0), (5, pB b4 0), (6, vI y2), (7, vI y3), (13, .bool z)] : FL)) hb1)
   refine p_qt [.slice o_x1 x1.length c_x1] [(2, pB b1 0), (3, pB b2 0), (4, pB b3 0), (5, pB b4 0), (6, vI y2), (7, vI y3), (14, vI y3), (15, pB b2 0), (16, .slice o_x1 x1.length c_x1), (17, vI (x1.length : Int)), (18, .bool (decide (y3 < (x1.length : Int)))), (19, .bool (decide (y3 < (x1.length : Int))))] [.cell ⟨b2, 0, none⟩ (.slice o_x1 x1.length c_x1)] hf12 (by kernel_rfl) (.cell (hS6.box (i := 3) rfl (j := 0) rfl) .nil) fun a9 hf13 => ?_
   have hf14 := Fr.keep (ks := [2, 3, 4, 5, 6, 7, 19]) (r := [(2, pB b1 0), (3, pB b2 0), (4, pB b3 0), (5, pB b4 0), (6, vI y2), (7, vI y3), (19, .bool (decide (y3 < (x1.length : Int))))]) hf13 (by kernel_rfl)
   exact ⟨z1, (decide (y3 < (x1.length : Int))), (Zone.le_refl _), hf14, hS6, hr3⟩
 ·rintro a10 ww6 ⟨z2, y6, k3, hf15, hS7, hr4⟩
  refine w_if hf15 (b := y6) (by kernel_rfl) (fun hb2 => ?_) (fun hb2 => ?_)
  ·have hr5 := cond_t hb2 hr4
   refine w_skip (by kernel_rfl) ?_
   refine n_then ?_
   refine w_block (id := 1) (by kernel_rfl) ?_
   refine w_block (id := 2) (by kernel_rfl) ?_
   refine w_mid (by kernel_rfl) (fun a w => ∃ z3 : Zone, ∃ y5 : Bool, Zone.le z2 z3 ∧ Fr a 123 [(2, pB b1 0), (3, pB b2 0), (4, pB b3 0), (5, pB b4 0), (6, vI y2), (7, vI y3), (49, .bool y5)] ∧ St z3 (ownS PartT 56 e1 q1 y1 :: box b4 [.slice e1 y1.length q1] 40 :: box b3 [.slice none 0 0] 40 :: box b2 [.slice o_x1 x1.length c_x1] 40 :: box b1 [.slice o_x0 x0.length c_x0] 40 :: L) w ∧ (F80_j2 (F80_l1 x0 x1 n1) x0 x1 y1 y2 y3 y5) = some r) ?_ ?_
   ·skip
    have hS8 := hS7.drew
    refine w_regD (by kernel_rfl) [(0, true), (1, true), (2, true), (3, true), (4, true), (5, true), (6, true), (7, true), (8, true), (9, true), (10, true), (11, true), (12, true), (13, true), (14, true), (15, true), (16, true), (17, true), (18, true), (19, true), (20, true), (21, true), (22, true), (23, true), (24, true), (25, true), (26, true), (27, true)] [] (fun x => x = ww6.drew) (by kernel_rfl) rfl ?_
    refine p_qE 6 [.slice o_x1 x1.length c_x1] [(2, pB b1 0), (3, pB b2 0), (4, pB b3 0), (5, pB b4 0), (6, vI y2), (7, vI y3), (55, .bool (y3 == (x1.length : Int)))] [.cell ⟨b2, 0, none⟩ (.slice o_x1 x1.length c_x1)] [] hf15 (by kernel_rfl) (.cell (hS8.box (i := 3) rfl (j := 0) rfl) .nil) .nil fun a11 hf16 => ?_
    rcases Bool.eq_false_or_eq_true (y3 == (x1.length : Int)) with hb3 | hb3
    ·have hr6 := cond_t hb3 hr5
     have hf17 := Fr.conv hf16 (congrArg (fun z => ([(2, pB b1 0), (3, pB b2 0), (4, pB b3 0), (5, pB b4 0), (6, vI y2), (7, vI y3), (55, .bool z)] : FL)) hb3)
     refine p_qtE [] [(2, pB b1 0), (3, pB b2 0), (4, pB b3 0), (5, pB b4 0), (6, vI y2), (7, vI y3), (49, .bool true), (56, undef), (57, undef), (58, undef), (59, undef), (60, undef), (61, undef), (62, undef), (63, undef), (64, undef), (65, undef), (66, undef), (67, undef), (68, undef), (69, undef), (70, undef), (71, undef), (72, undef), (73, undef), (74, undef), (75, undef)] [] [] hf17 (by kernel_rfl) .nil .nil fun a12 hf18 => ?_
     have hf19 := Fr.keep (ks := [2, 3, 4, 5, 6, 7, 49]) (r := [(2, pB b1 0), (3, pB b2 0), (4, pB b3 0), (5, pB b4 0), (6, vI y2), (7, vI y3), (49, .bool true)]) hf18 (by kernel_rfl)
     exact ⟨z2, true, (Zone.le_refl _), hf19, hS8, hr6⟩
    ·have hr7 := cond_f hb3 hr5
     have hf20 := Fr.conv hf16 (congrArg (fun z => ([(2, pB b1 0), (3, pB b2 0), (4, pB b3 0), (5, pB b4 0), (6, vI y2), (7, vI y3), (55, .bool z)] : FL)) hb3)
     refine p_qE 6 [.slice o_x0 x0.length c_x0] [(2, pB b1 0), (3, pB b2 0), (4, pB b3 0), (5, pB b4 0), (6, vI y2), (7, vI y3), (55, .bool false), (56, vI y2), (57, pB b1 0), (58, .slice o_x0 x0.length c_x0), (59, vI (x0.length : Int)), (60, .bool (decide (y2 < (x0.length : Int)))), (61, .bool (decide (y2 < (x0.length : Int))))] [.cell ⟨b1, 0, none⟩ (.slice o_x0 x0.length c_x0)] [] hf20 (by kernel_rfl) (.cell (hS8.box (i := 4) rfl (j := 0) rfl) .nil) .nil fun a13 hf21 => ?_
     rcases Bool.eq_false_or_eq_true (decide (y2 < (x0.length : Int))) with hb4 | hb4
     ·have hr8 := cond_t hb4 hr7
      have hf22 := Fr.conv hf21 (congrArg (fun z => ([(2, pB b1 0), (3, pB b2 0), (4, pB b3 0), (5, pB b4 0), (6, vI y2), (7, vI y3), (55, .bool false), (56, vI y2), (57, pB b1 0), (58, .slice o_x0 x0.length c_x0), (59, vI (x0.length : Int)), (60, .bool (decide (y2 < (x0.length : Int)))), (61, .bool z)] : FL)) hb4)
      obtain ⟨p8, hp4251, hr9⟩ := bind_some hr8
      obtain ⟨ad1, ho1, hb5, cc1, hc1, hk1⟩ := SliceR.getI (SliceR.mono (Zone.le_trans k2 k3) hx_x0) hp4251
      subst hc1
      obtain ⟨p9, hp4260, hr10⟩ := bind_some hr9
      obtain ⟨ad2, ho2, hb6, cc2, hc2, hk2⟩ := SliceR.getI (SliceR.mono (Zone.le_trans k2 k3) hx_x1) hp4260
      subst hc2
      refine p_qtE [.slice o_x0 x0.length c_x0, .pointer (some ad1), vI p8.lot, .slice o_x1 x1.length c_x1, .pointer (some ad2), vI p9.lot] [(2, pB b1 0), (3, pB b2 0), (4, pB b3 0), (5, pB b4 0), (6, vI y2), (7, vI y3), (49, .bool (decide (p8.lot < p9.lot))), (56, vI y2), (57, pB b1 0), (58, .slice o_x0 x0.length c_x0), (59, vI (x0.length : Int)), (60, .bool (decide (y2 < (x0.length : Int)))), (61, .bool true), (62, pB b1 0), (63, .slice o_x0 x0.length c_x0), (64, vI y2), (65, .pointer (some (ad1.add (Int.toNat y2 * 2)))), (66, .pointer (some (ad1.add (Int.toNat y2 * 2)))), (67, vI p8.lot), (68, pB b2 0), (69, .slice o_x1 x1.length c_x1), (70, vI y3), (71, .pointer (some (ad2.add (Int.toNat y3 * 2)))), (72, .pointer (some (ad2.add (Int.toNat y3 * 2)))), (73, vI p9.lot), (74, .bool (decide (p8.lot < p9.lot))), (75, .bool (decide (p8.lot < p9.lot)))] [.cell ⟨b1, 0, none⟩ (.slice o_x0 x0.length c_x0), .prop (o_x0 = some ad1), .prop (0 ≤ y2 ∧ y2 < (x0.length : Nat)), .cell ((ad1.add (Int.toNat y2 * 2)).add 0) (vI p8.lot), .cell ⟨b2, 0, none⟩ (.slice o_x1 x1.length c_x1), .prop (o_x1 = some ad2), .prop (0 ≤ y3 ∧ y3 < (x1.length : Nat)), .cell ((ad2.add (Int.toNat y3 * 2)).add 0) (vI p9.lot)] [] hf22 (by kernel_rfl) (.cell (hS8.box (i := 4) rfl (j := 0) rfl) (.prop ho1 (.prop hb5 (.cell (hS8.cell (hk1 0 _ rfl)) (.cell (hS8.box (i := 3) rfl (j := 0) rfl) (.prop ho2 (.prop hb6 (.cell (hS8.cell (hk2 0 _ rfl)) .nil)))))))) .nil fun a14 hf23 => ?_
      have hf24 := Fr.keep (ks := [2, 3, 4, 5, 6, 7, 49]) (r := [(2, pB b1 0), (3, pB b2 0), (4, pB b3 0), (5, pB b4 0), (6, vI y2), (7, vI y3), (49, .bool (decide (p8.lot < p9.lot)))]) hf23 (by kernel_rfl)
      exact ⟨z2, (decide (p8.lot < p9.lot)), (Zone.le_refl _), hf24, hS8, hr10⟩
     ·have hr11 := cond_f hb4 hr7
      have hf25 := Fr.conv hf21 (congrArg (fun z => ([(2, pB b1 0), (3, pB b2 0), (4, pB b3 0), (5, pB b4 0), (6, vI y2), (7, vI y3), (55, .bool false), (56, vI y2), (57, pB b1 0), (58, .slice o_x0 x0.length c_x0), (59, vI (x0.length : Int)), (60, .bool (decide (y2 < (x0.length : Int)))), (61, .bool z)] : FL)) hb4)
      refine p_qtE [] [(2, pB b1 0), (3, pB b2 0), (4, pB b3 0), (5, pB b4 0), (6, vI y2), (7, vI y3), (49, .bool false), (56, vI y2), (57, pB b1 0), (58, .slice o_x0 x0.length c_x0), (59, vI (x0.length : Int)), (60, .bool (decide (y2 < (x0.length : Int)))), (61, .bool false), (62, undef), (63, undef), (64, undef), (65, undef), (66, undef), (67, undef), (68, undef), (69, undef), (70, undef), (71, undef), (72, undef), (73, undef), (74, undef), (75, .bool false)] [] [] hf25 (by kernel_rfl) .nil .nil fun a15 hf26 => ?_
      have hf27 := Fr.keep (ks := [2, 3, 4, 5, 6, 7, 49]) (r := [(2, pB b1 0), (3, pB b2 0), (4, pB b3 0), (5, pB b4 0), (6, vI y2), (7, vI y3), (49, .bool false)]) hf26 (by kernel_rfl)
      exact ⟨z2, false, (Zone.le_refl _), hf27, hS8, hr11⟩
   ·rintro a16 ww7 ⟨z3, y5, k4, hf28, hS9, hr12⟩
    refine w_if hf28 (b := y5) (by kernel_rfl) (fun hb7 => ?_) (fun hb7 => ?_)
    ·have hr13 := cond_t hb7 hr12
     refine w_seq (by kernel_rfl) ?_
     have hS10 := hS9.drew
     have s1 : Sub z3 (ownS PartT 56 e1 q1 y1 :: box b4 [.slice e1 y1.length q1] 40 :: box b3 [.slice none 0 0] 40 :: box b2 [.slice o_x1 x1.length c_x1] 40 :: box b1 [.slice o_x0 x0.length c_x0] 40 :: L) _ := Sub.of (Zone.le_refl _) hS10
     refine w_regD (by kernel_rfl) [(0, true), (1, true), (2, true), (3, true), (4, true), (5, true), (6, true), (7, false), (8, false), (9, true), (10, false)] [8, 10] (Sub z3 (ownS PartT 56 e1 q1 y1 :: box b4 [.slice e1 y1.length q1] 40 :: box b3 [.slice none 0 0] 40 :: box b2 [.slice o_x1 x1.length c_x1] 40 :: box b1 [.slice o_x0 x0.length c_x0] 40 :: L)) (by kernel_rfl) s1 ?_
     obtain ⟨p5, hp4282, hr14⟩ := bind_some hr13
     obtain ⟨ad3, ho3, hb8, cc3, hc3, hk3⟩ := SliceR.getI (SliceR.mono (Zone.le_trans (Zone.le_trans k2 k3) k4) hx_x0) hp4282
     subst hc3
     refine p_qS 7 [.slice e1 y1.length q1, .slice o_x0 x0.length c_x0, .pointer (some ad3), vI p5.lot, vI p5.mass] [(2, pB b1 0), (3, pB b2 0), (4, pB b3 0), (5, pB b4 0), (6, vI y2), (7, vI y3), (78, .slice e1 y1.length q1), (83, .agg #[vI p5.lot, vI p5.mass])] [.cell ⟨b4, 0, none⟩ (.slice e1 y1.length q1), .cell ⟨b1, 0, none⟩ (.slice o_x0 x0.length c_x0), .prop (o_x0 = some ad3), .prop (0 ≤ y2 ∧ y2 < (x0.length : Nat)), .cell ((ad3.add (Int.toNat y2 * 2)).add 0) (vI p5.lot), .cell ((ad3.add (Int.toNat y2 * 2)).add 1) (vI p5.mass)] [] s1 hf28 (by kernel_rfl) (fun _ s => (.cell (s.box (i := 1) rfl (j := 0) rfl) (.cell (s.box (i := 4) rfl (j := 0) rfl) (.prop ho3 (.prop hb8 (.cell (s.cell (hk3 0 _ rfl)) (.cell (s.cell (hk3 1 _ rfl)) .nil))))))) .nil fun a17 hf29 => ?_
     refine p_box (i := 7) (d := (some 84)) (cs := [vI p5.lot, vI p5.mass]) (T := 56) (v := fun b5 => .slice (some ⟨b5, 0, none⟩) 1 1) hS10 hf29 (fun b => by kernel_rfl) fun b5 ww8 a18 hS11 hf30 => ⟨fun _ => Sub.of (Zone.le_refl _) (St.drop 1 hS11), ?_⟩
     have hS12 := hS11.ownBox (T := PartT) (E := 56) (n := 1) (xs := [⟨p5.lot, p5.mass⟩]) (i := 0) rfl (Rows.cons (c := [vI p5.lot, vI p5.mass]) rfl rfl) rfl (by decide)
     have s2 : Sub z3 (ownS PartT 56 e1 q1 y1 :: box b4 [.slice e1 y1.length q1] 40 :: box b3 [.slice none 0 0] 40 :: box b2 [.slice o_x1 x1.length c_x1] 40 :: box b1 [.slice o_x0 x0.length c_x0] 40 :: L) _ := Sub.of (Zone.le_refl _) (St.drop 1 hS12)
     obtain ⟨d3, hd1, hr15⟩ := bind_some hr14
     refine p_append (T := PartT) (i := 8) (j := 1) (d := some 85) (o2 := (some ⟨b5, 0, none⟩)) (c2 := 1) (ys := ([⟨p5.lot, p5.mass⟩])) el38 hS12 hf30 rfl (by kernel_rfl) (hS12.ownSrc (j := 0) rfl) hd1 fun e2 q2 ww9 a19 hS13 hf31 => ⟨fun e => absurd e (by decide), ?_⟩
     refine p_qP 1 [] [(2, pB b1 0), (3, pB b2 0), (4, pB b3 0), (5, pB b4 0), (6, vI y2), (7, vI y3), (85, .slice e2 d3.length q2), (86, pB b4 0)] [] hf31 (by kernel_rfl) (fun _ => .nil) fun a20 hf32 => ?_
     refine p_store_eq (i := 10) (j := 2) (b := b4) (off := 0) (vs := [.slice e2 d3.length q2]) (cs' := [.slice e2 d3.length q2]) hS13 hf32 rfl (by kernel_rfl) (by kernel_rfl) rfl fun ww10 a21 hS14 hf33 => ⟨fun e => absurd e (by decide), ?_⟩
     refine p_dt (by kernel_rfl) ?_
     refine w_q [] [(2, pB b1 0), (3, pB b2 0), (4, pB b3 0), (5, pB b4 0), (6, vI (w64 (y2 + (1 : Int)))), (7, vI y3)] [] hf33 (by kernel_rfl) .nil fun a22 hf34 => ?_
     refine n_block ?_
     refine n_block ?_
     refine n_then ?_
     have hf35 := Fr.keep (ks := [2, 3, 4, 5, 6, 7]) (r := [(2, pB b1 0), (3, pB b2 0), (4, pB b3 0), (5, pB b4 0), (6, vI (w64 (y2 + (1 : Int)))), (7, vI y3)]) hf34 (by kernel_rfl)
     exact ⟨n1, Nat.lt_succ_self n1, z3, d3, (w64 (y2 + (1 : Int))), y3, e2, q2, (Zone.le_trans (Zone.le_trans k2 k3) k4), hf35, (St.drop 1 hS14), hr15⟩
    ·have hr16 := cond_f hb7 hr12
     refine w_mid (by kernel_rfl) (fun a w => ∃ z4 : Zone, ∃ y4 : Bool, Zone.le z3 z4 ∧ Fr a 123 [(2, pB b1 0), (3, pB b2 0), (4, pB b3 0), (5, pB b4 0), (6, vI y2), (7, vI y3), (89, .bool y4)] ∧ St z4 (ownS PartT 56 e1 q1 y1 :: box b4 [.slice e1 y1.length q1] 40 :: box b3 [.slice none 0 0] 40 :: box b2 [.slice o_x1 x1.length c_x1] 40 :: box b1 [.slice o_x0 x0.length c_x0] 40 :: L) w ∧ (F80_j3 (F80_l1 x0 x1 n1) x0 x1 y1 y2 y3 y4) = some r) ?_ ?_
     ·skip
      have hS15 := hS9.drew
      refine w_regD (by kernel_rfl) [(0, true), (1, true), (2, true), (3, true), (4, true), (5, true), (6, true), (7, true), (8, true), (9, true), (10, true), (11, true), (12, true), (13, true), (14, true), (15, true), (16, true), (17, true), (18, true), (19, true), (20, true)] [] (fun x => x = ww7.drew) (by kernel_rfl) rfl ?_
      refine p_qE 6 [.slice o_x0 x0.length c_x0] [(2, pB b1 0), (3, pB b2 0), (4, pB b3 0), (5, pB b4 0), (6, vI y2), (7, vI y3), (95, .bool (y2 == (x0.length : Int)))] [.cell ⟨b1, 0, none⟩ (.slice o_x0 x0.length c_x0)] [] hf28 (by kernel_rfl) (.cell (hS15.box (i := 4) rfl (j := 0) rfl) .nil) .nil fun a23 hf36 => ?_
      rcases Bool.eq_false_or_eq_true (y2 == (x0.length : Int)) with hb9 | hb9
      ·have hr17 := cond_t hb9 hr16
       have hf37 := Fr.conv hf36 (congrArg (fun z => ([(2, pB b1 0), (3, pB b2 0), (4, pB b3 0), (5, pB b4 0), (6, vI y2), (7, vI y3), (95, .bool z)] : FL)) hb9)
       refine p_qtE [] [(2, pB b1 0), (3, pB b2 0), (4, pB b3 0), (5, pB b4 0), (6, vI y2), (7, vI y3), (89, .bool true), (96, undef), (97, undef), (98, undef), (99, undef), (100, undef), (101, undef), (102, undef), (103, undef), (104, undef), (105, undef), (106, undef), (107, undef), (108, undef)] [] [] hf37 (by kernel_rfl) .nil .nil fun a24 hf38 => ?_
       have hf39 := Fr.keep (ks := [2, 3, 4, 5, 6, 7, 89]) (r := [(2, pB b1 0), (3, pB b2 0), (4, pB b3 0), (5, pB b4 0), (6, vI y2), (7, vI y3), (89, .bool true)]) hf38 (by kernel_rfl)
       exact ⟨z3, true, (Zone.le_refl _), hf39, hS15, hr17⟩
      ·have hr18 := cond_f hb9 hr16
       have hf40 := Fr.conv hf36 (congrArg (fun z => ([(2, pB b1 0), (3, pB b2 0), (4, pB b3 0), (5, pB b4 0), (6, vI y2), (7, vI y3), (95, .bool z)] : FL)) hb9)
       obtain ⟨p6, hp4402, hr19⟩ := bind_some hr18
       obtain ⟨ad4, ho4, hb10, cc4, hc4, hk4⟩ := SliceR.getI (SliceR.mono (Zone.le_trans (Zone.le_trans k2 k3) k4) hx_x1) hp4402
       subst hc4
       obtain ⟨p7, hp4411, hr20⟩ := bind_some hr19
       obtain ⟨ad5, ho5, hb11, cc5, hc5, hk5⟩ := SliceR.getI (SliceR.mono (Zone.le_trans (Zone.le_trans k2 k3) k4) hx_x0) hp4411
       subst hc5
       refine p_qtE [.slice o_x1 x1.length c_x1, .pointer (some ad4), vI p6.lot, .slice o_x0 x0.length c_x0, .pointer (some ad5), vI p7.lot] [(2, pB b1 0), (3, pB b2 0), (4, pB b3 0), (5, pB b4 0), (6, vI y2), (7, vI y3), (89, .bool (decide (p6.lot < p7.lot))), (96, pB b2 0), (97, .slice o_x1 x1.length c_x1), (98, vI y3), (99, .pointer (some (ad4.add (Int.toNat y3 * 2)))), (100, .pointer (some (ad4.add (Int.toNat y3 * 2)))), (101, vI p6.lot), (102, pB b1 0), (103, .slice o_x0 x0.length c_x0), (104, vI y2), (105, .pointer (some (ad5.add (Int.toNat y2 * 2)))), (106, .pointer (some (ad5.add (Int.toNat y2 * 2)))), (107, vI p7.lot), (108, .bool (decide (p6.lot < p7.lot)))] [.cell ⟨b2, 0, none⟩ (.slice o_x1 x1.length c_x1), .prop (o_x1 = some ad4), .prop (0 ≤ y3 ∧ y3 < (x1.length : Nat)), .cell ((ad4.add (Int.toNat y3 * 2)).add 0) (vI p6.lot), .cell ⟨b1, 0, none⟩ (.slice o_x0 x0.length c_x0), .prop (o_x0 = some ad5), .prop (0 ≤ y2 ∧ y2 < (x0.length : Nat)), .cell ((ad5.add (Int.toNat y2 * 2)).add 0) (vI p7.lot)] [] hf40 (by kernel_rfl) (.cell (hS15.box (i := 3) rfl (j := 0) rfl) (.prop ho4 (.prop hb10 (.cell (hS15.cell (hk4 0 _ rfl)) (.cell (hS15.box (i := 4) rfl (j := 0) rfl) (.prop ho5 (.prop hb11 (.cell (hS15.cell (hk5 0 _ rfl)) .nil)))))))) .nil fun a25 hf41 => ?_
       have hf42 := Fr.keep (ks := [2, 3, 4, 5, 6, 7, 89]) (r := [(2, pB b1 0), (3, pB b2 0), (4, pB b3 0), (5, pB b4 0), (6, vI y2), (7, vI y3), (89, .bool (decide (p6.lot < p7.lot)))]) hf41 (by kernel_rfl)
       exact ⟨z3, (decide (p6.lot < p7.lot)), (Zone.le_refl _), hf42, hS15, hr20⟩
     ·rintro a26 ww11 ⟨z4, y4, k5, hf43, hS16, hr21⟩
      refine w_if hf43 (b := y4) (by kernel_rfl) (fun hb12 => ?_) (fun hb12 => ?_)
      ·have hr22 := cond_t hb12 hr21
       refine w_seq (by kernel_rfl) ?_
       have hS17 := hS16.drew
       have s3 : Sub z4 (ownS PartT 56 e1 q1 y1 :: box b4 [.slice e1 y1.length q1] 40 :: box b3 [.slice none 0 0] 40 :: box b2 [.slice o_x1 x1.length c_x1] 40 :: box b1 [.slice o_x0 x0.length c_x0] 40 :: L) _ := Sub.of (Zone.le_refl _) hS17
       refine w_regD (by kernel_rfl) [(0, true), (1, true), (2, true), (3, true), (4, true), (5, true), (6, true), (7, false), (8, false), (9, true), (10, false)] [8, 10] (Sub z4 (ownS PartT 56 e1 q1 y1 :: box b4 [.slice e1 y1.length q1] 40 :: box b3 [.slice none 0 0] 40 :: box b2 [.slice o_x1 x1.length c_x1] 40 :: box b1 [.slice o_x0 x0.length c_x0] 40 :: L)) (by kernel_rfl) s3 ?_
       obtain ⟨p1, hp4428, hr23⟩ := bind_some hr22
       obtain ⟨ad6, ho6, hb13, cc6, hc6, hk6⟩ := SliceR.getI (SliceR.mono (Zone.le_trans (Zone.le_trans (Zone.le_trans k2 k3) k4) k5) hx_x1) hp4428
       subst hc6
       refine p_qS 7 [.slice e1 y1.length q1, .slice o_x1 x1.length c_x1, .pointer (some ad6), vI p1.lot, vI p1.mass] [(2, pB b1 0), (3, pB b2 0), (4, pB b3 0), (5, pB b4 0), (6, vI y2), (7, vI y3), (111, .slice e1 y1.length q1), (116, .agg #[vI p1.lot, vI p1.mass])] [.cell ⟨b4, 0, none⟩ (.slice e1 y1.length q1), .cell ⟨b2, 0, none⟩ (.slice o_x1 x1.length c_x1), .prop (o_x1 = some ad6), .prop (0 ≤ y3 ∧ y3 < (x1.length : Nat)), .cell ((ad6.add (Int.toNat y3 * 2)).add 0) (vI p1.lot), .cell ((ad6.add (Int.toNat y3 * 2)).add 1) (vI p1.mass)] [] s3 hf43 (by kernel_rfl) (fun _ s => (.cell (s.box (i := 1) rfl (j := 0) rfl) (.cell (s.box (i := 3) rfl (j := 0) rfl) (.prop ho6 (.prop hb13 (.cell (s.cell (hk6 0 _ rfl)) (.cell (s.cell (hk6 1 _ rfl)) .nil))))))) .nil fun a27 hf44 => ?_
       refine p_box (i := 7) (d := (some 117)) (cs := [vI p1.lot, vI p1.mass]) (T := 56) (v := fun b6 => .slice (some ⟨b6, 0, none⟩) 1 1) hS17 hf44 (fun b => by kernel_rfl) fun b6 ww12 a28 hS18 hf45 => ⟨fun _ => Sub.of (Zone.le_refl _) (St.drop 1 hS18), ?_⟩
       have hS19 := hS18.ownBox (T := PartT) (E := 56) (n := 1) (xs := [⟨p1.lot, p1.mass⟩]) (i := 0) rfl (Rows.cons (c := [vI p1.lot, vI p1.mass]) rfl rfl) rfl (by decide)
       have s4 : Sub z4 (ownS PartT 56 e1 q1 y1 :: box b4 [.slice e1 y1.length q1] 40 :: box b3 [.slice none 0 0] 40 :: box b2 [.slice o_x1 x1.length c_x1] 40 :: box b1 [.slice o_x0 x0.length c_x0] 40 :: L) _ := Sub.of (Zone.le_refl _) (St.drop 1 hS19)
       obtain ⟨d1, hd2, hr24⟩ := bind_some hr23
       refine p_append (T := PartT) (i := 8) (j := 1) (d := some 118) (o2 := (some ⟨b6, 0, none⟩)) (c2 := 1) (ys := ([⟨p1.lot, p1.mass⟩])) el38 hS19 hf45 rfl (by kernel_rfl) (hS19.ownSrc (j := 0) rfl) hd2 fun e3 q3 ww13 a29 hS20 hf46 => ⟨fun e => absurd e (by decide), ?_⟩
       refine p_qP 1 [] [(2, pB b1 0), (3, pB b2 0), (4, pB b3 0), (5, pB b4 0), (6, vI y2), (7, vI y3), (118, .slice e3 d1.length q3), (119, pB b4 0)] [] hf46 (by kernel_rfl) (fun _ => .nil) fun a30 hf47 => ?_
       refine p_store_eq (i := 10) (j := 2) (b := b4) (off := 0) (vs := [.slice e3 d1.length q3]) (cs' := [.slice e3 d1.length q3]) hS20 hf47 rfl (by kernel_rfl) (by kernel_rfl) rfl fun ww14 a31 hS21 hf48 => ⟨fun e => absurd e (by decide), ?_⟩
       refine p_dt (by kernel_rfl) ?_
       refine w_q [] [(2, pB b1 0), (3, pB b2 0), (4, pB b3 0), (5, pB b4 0), (6, vI y2), (7, vI (w64 (y3 + (1 : Int))))] [] hf48 (by kernel_rfl) .nil fun a32 hf49 => ?_
       refine n_block ?_
       refine n_block ?_
       refine n_then ?_
       have hf50 := Fr.keep (ks := [2, 3, 4, 5, 6, 7]) (r := [(2, pB b1 0), (3, pB b2 0), (4, pB b3 0), (5, pB b4 0), (6, vI y2), (7, vI (w64 (y3 + (1 : Int))))]) hf49 (by kernel_rfl)
       exact ⟨n1, Nat.lt_succ_self n1, z4, d1, y2, (w64 (y3 + (1 : Int))), e3, q3, (Zone.le_trans (Zone.le_trans (Zone.le_trans k2 k3) k4) k5), hf50, (St.drop 1 hS21), hr24⟩
      ·have hr25 := cond_f hb12 hr21
       refine w_seq (by kernel_rfl) ?_
       have hS22 := hS16.drew
       have s5 : Sub z4 (ownS PartT 56 e1 q1 y1 :: box b4 [.slice e1 y1.length q1] 40 :: box b3 [.slice none 0 0] 40 :: box b2 [.slice o_x1 x1.length c_x1] 40 :: box b1 [.slice o_x0 x0.length c_x0] 40 :: L) _ := Sub.of (Zone.le_refl _) hS22
       refine w_regD (by kernel_rfl) [(0, true), (1, true), (2, true), (3, true), (4, true), (5, true), (6, true), (7, true), (8, true), (9, true), (10, true), (11, true), (12, true), (13, true), (14, true), (15, true), (16, true), (17, true), (18, true), (19, true), (20, true), (21, true), (22, false), (23, false), (24, true), (25, false)] [23, 25] (Sub z4 (ownS PartT 56 e1 q1 y1 :: box b4 [.slice e1 y1.length q1] 40 :: box b3 [.slice none 0 0] 40 :: box b2 [.slice o_x1 x1.length c_x1] 40 :: box b1 [.slice o_x0 x0.length c_x0] 40 :: L)) (by kernel_rfl) s5 ?_
       obtain ⟨p2, hp4471, hr26⟩ := bind_some hr25
       obtain ⟨ad7, ho7, hb14, cc7, hc7, hk7⟩ := SliceR.getI (SliceR.mono (Zone.le_trans (Zone.le_trans (Zone.le_trans k2 k3) k4) k5) hx_x0) hp4471
       subst hc7
       obtain ⟨p3, hp4480, hr27⟩ := bind_some hr26
       obtain ⟨ad8, ho8, hb15, cc8, hc8, hk8⟩ := SliceR.getI (SliceR.mono (Zone.le_trans (Zone.le_trans (Zone.le_trans k2 k3) k4) k5) hx_x0) hp4480
       subst hc8
       obtain ⟨p4, hp4489, hr28⟩ := bind_some hr27
       obtain ⟨ad9, ho9, hb16, cc9, hc9, hk9⟩ := SliceR.getI (SliceR.mono (Zone.le_trans (Zone.le_trans (Zone.le_trans k2 k3) k4) k5) hx_x1) hp4489
       subst hc9
       refine p_qS 22 [.slice e1 y1.length q1, .slice o_x0 x0.length c_x0, .pointer (some ad7), vI p2.lot, .slice o_x0 x0.length c_x0, .pointer (some ad8), vI p3.mass, .slice o_x1 x1.length c_x1, .pointer (some ad9), vI p4.mass] [(2, pB b1 0), (3, pB b2 0), (4, pB b3 0), (5, pB b4 0), (6, vI y2), (7, vI y3), (21, .slice e1 y1.length q1), (41, .agg #[vI p2.lot, vI (w64 (p3.mass + p4.mass))])] [.cell ⟨b4, 0, none⟩ (.slice e1 y1.length q1), .cell ⟨b1, 0, none⟩ (.slice o_x0 x0.length c_x0), .prop (o_x0 = some ad7), .prop (0 ≤ y2 ∧ y2 < (x0.length : Nat)), .cell ((ad7.add (Int.toNat y2 * 2)).add 0) (vI p2.lot), .cell ⟨b1, 0, none⟩ (.slice o_x0 x0.length c_x0), .prop (o_x0 = some ad8), .prop (0 ≤ y2 ∧ y2 < (x0.length : Nat)), .cell ((ad8.add (Int.toNat y2 * 2)).add 1) (vI p3.mass), .cell ⟨b2, 0, none⟩ (.slice o_x1 x1.length c_x1), .prop (o_x1 = some ad9), .prop (0 ≤ y3 ∧ y3 < (x1.length : Nat)), .cell ((ad9.add (Int.toNat y3 * 2)).add 1) (vI p4.mass)] [] s5 hf43 (by kernel_rfl) (fun _ s => (.cell (s.box (i := 1) rfl (j := 0) rfl) (.cell (s.box (i := 4) rfl (j := 0) rfl) (.prop ho7 (.prop hb14 (.cell (s.cell (hk7 0 _ rfl)) (.cell (s.box (i := 4) rfl (j := 0) rfl) (.prop ho8 (.prop hb15 (.cell (s.cell (hk8 1 _ rfl)) (.cell (s.box (i := 3) rfl (j := 0) rfl) (.prop ho9 (.prop hb16 (.cell (s.cell (hk9 1 _ rfl)) .nil)))))))))))))) .nil fun a33 hf51 => ?_
       refine p_box (i := 22) (d := (some 42)) (cs := [vI p2.lot, vI (w64 (p3.mass + p4.mass))]) (T := 56) (v := fun b7 => .slice (some ⟨b7, 0, none⟩) 1 1) hS22 hf51 (fun b => by kernel_rfl) fun b7 ww15 a34 hS23 hf52 => ⟨fun _ => Sub.of (Zone.le_refl _) (St.drop 1 hS23), ?_⟩
       have hS24 := hS23.ownBox (T := PartT) (E := 56) (n := 1) (xs := [⟨p2.lot, (w64 (p3.mass + p4.mass))⟩]) (i := 0) rfl (Rows.cons (c := [vI p2.lot, vI (w64 (p3.mass + p4.mass))]) rfl rfl) rfl (by decide)
       have s6 : Sub z4 (ownS PartT 56 e1 q1 y1 :: box b4 [.slice e1 y1.length q1] 40 :: box b3 [.slice none 0 0] 40 :: box b2 [.slice o_x1 x1.length c_x1] 40 :: box b1 [.slice o_x0 x0.length c_x0] 40 :: L) _ := Sub.of (Zone.le_refl _) (St.drop 1 hS24)
       obtain ⟨d2, hd3, hr29⟩ := bind_some hr28
       refine p_append (T := PartT) (i := 23) (j := 1) (d := some 43) (o2 := (some ⟨b7, 0, none⟩)) (c2 := 1) (ys := ([⟨p2.lot, (w64 (p3.mass + p4.mass))⟩])) el38 hS24 hf52 rfl (by kernel_rfl) (hS24.ownSrc (j := 0) rfl) hd3 fun e4 q4 ww16 a35 hS25 hf53 => ⟨fun e => absurd e (by decide), ?_⟩
       refine p_qP 1 [] [(2, pB b1 0), (3, pB b2 0), (4, pB b3 0), (5, pB b4 0), (6, vI y2), (7, vI y3), (43, .slice e4 d2.length q4), (44, pB b4 0)] [] hf53 (by kernel_rfl) (fun _ => .nil) fun a36 hf54 => ?_
       refine p_store_eq (i := 25) (j := 2) (b := b4) (off := 0) (vs := [.slice e4 d2.length q4]) (cs' := [.slice e4 d2.length q4]) hS25 hf54 rfl (by kernel_rfl) (by kernel_rfl) rfl fun ww17 a37 hS26 hf55 => ⟨fun e => absurd e (by decide), ?_⟩
       refine p_dt (by kernel_rfl) ?_
       refine w_q [] [(2, pB b1 0), (3, pB b2 0), (4, pB b3 0), (5, pB b4 0), (6, vI (w64 (y2 + (1 : Int)))), (7, vI (w64 (y3 + (1 : Int))))] [] hf55 (by kernel_rfl) .nil fun a38 hf56 => ?_
       refine n_block ?_
       refine n_block ?_
       refine n_then ?_
       have hf57 := Fr.keep (ks := [2, 3, 4, 5, 6, 7]) (r := [(2, pB b1 0), (3, pB b2 0), (4, pB b3 0), (5, pB b4 0), (6, vI (w64 (y2 + (1 : Int)))), (7, vI (w64 (y3 + (1 : Int))))]) hf56 (by kernel_rfl)
       exact ⟨n1, Nat.lt_succ_self n1, z4, d2, (w64 (y2 + (1 : Int))), (w64 (y3 + (1 : Int))), e4, q4, (Zone.le_trans (Zone.le_trans (Zone.le_trans k2 k3) k4) k5), hf57, (St.drop 1 hS26), hr29⟩
  ·have hr30 := cond_f hb2 hr4
   refine w_exit (id := 0) (by kernel_rfl) ?_
   refine x_then ?_
   refine x_then ?_
   refine x_block ?_
   refine n_then ?_
   refine w_sr (by kernel_rfl) ?_
   refine p_qn 1 [.slice e1 y1.length q1] [(4, pB b3 0), (122, .agg #[.slice e1 y1.length q1])] [.cell ⟨b4, 0, none⟩ (.slice e1 y1.length q1)] hf15 (by kernel_rfl) (.cell (hS7.box (i := 1) rfl (j := 0) rfl) .nil) fun a39 hf58 => ?_
   refine p_store_eq (i := 1) (j := 2) (b := b3) (off := 0) (vs := [.slice e1 y1.length q1]) (cs' := [.slice e1 y1.length q1]) hS7 hf58 rfl (by kernel_rfl) (by kernel_rfl) rfl fun ww18 a40 hS27 hf59 => ⟨fun _ => trivial, ?_⟩
   refine p_dt (by kernel_rfl) ?_
   refine w_ret (by kernel_rfl) ?_
   obtain ⟨z5, k6, hS28, hx1⟩ := hS27.share (j := 0) rfl
   refine p_ret (os := [.slice e1 y1.length q1]) (v := .agg #[.slice e1 y1.length q1]) (obs := [.cell ⟨b3, 0, none⟩ (.slice e1 y1.length q1)]) hf59 (by kernel_rfl) (.cell (hS28.box (i := 2) rfl (j := 0) rfl) .nil) ?_
   obtain rfl := some_eq hr30
   exact ⟨_, rfl, z5, e1, q1, (Zone.le_trans (Zone.le_trans k2 k3) k6), rfl, (St.drop 5 hS28), hx1⟩
def F150_l1 (x0_heap : List Part) (x0_may : List (Int × Bool)) (x1_heap : List Part) (x1_may : List (Int × Bool)) (r1 : List Part) : Nat → (List (Int × Bool)) → Int → Option (List Part × List (Int × Bool))
  | 0, _, _ => none
  | n1 + 1, y1, y2 =>
    let k1 : (List (Int × Bool)) → Int → Option (List Part × List (Int × Bool)) := F150_l1 x0_heap x0_may x1_heap x1_may r1 n1
    (cond (decide (y2 < (2 : Int))) ((getI ([(⟨x0_heap, x0_may⟩ : Bag), (⟨x1_heap, x1_may⟩ : Bag)]) y2).bind fun p1 => (k1 (uniK y1 p1.may) (w64 (y2 + (1 : Int))))) (some (r1, y1)))
def F150 (fuel : Nat) (x0_heap : List Part) (x0_may : List (Int × Bool)) (x1_heap : List Part) (x1_may : List (Int × Bool)) : Option (List Part × List (Int × Bool)) :=
  ((F80 fuel x0_heap x1_heap).bind fun r1 => (F150_l1 x0_heap x0_may x1_heap x1_may r1 fuel ([]) 0))
set_option maxRecDepth 100000 in
theorem f150_ok (fuel : Nat) (x0_heap : List Part) (x0_may : List (Int × Bool)) (x1_heap : List Part) (x1_may : List (Int × Bool)) (r : List Part × List (Int × Bool)) (hr : F150 fuel x0_heap x0_may x1_heap x1_may = some r) (h : Zone) (L : List Atom) (w : World) (hS : St h L w) (o_x0_heap : Option Addr) (c_x0_heap : Nat) (hx_x0_heap : SliceR PartT h o_x0_heap c_x0_heap x0_heap) (o_x0_may : Option Nat) (hx_x0_may : MapR Value.bool h o_x0_may x0_may) (o_x1_heap : Option Addr) (c_x1_heap : Nat) (hx_x1_heap : SliceR PartT h o_x1_heap c_x1_heap x1_heap) (o_x1_may : Option Nat) (hx_x1_may : MapR Value.bool h o_x1_may x1_may) :
    Calls Try.prog 150 #[.agg #[.slice o_x0_heap x0_heap.length c_x0_heap, .map o_x0_may], .agg #[.slice o_x1_heap x1_heap.length c_x1_heap, .map o_x1_may]] w fun e w' => ∃ v, e = .returned v ∧ (∃ h', ∃ o0 : Option Addr, ∃ c0 : Nat, ∃ o1 : Option Nat, Zone.le h h' ∧ v = .agg #[.slice o0 r.1.length c0, .map o1] ∧ St h' L w' ∧ SliceR PartT h' o0 c0 r.1 ∧ MapR Value.bool h' o1 r.2) := by
 refine calls_intro (N := 36) Try.func150 (by kernel_rfl) fun a hf => ?_
 refine w_sr (by kernel_rfl) ?_
 refine p_box (i := 0) (d := (some 2)) (cs := [.slice o_x0_heap x0_heap.length c_x0_heap, .map o_x0_may]) (T := 119) (v := fun b1 => pB b1 0) hS hf (fun b => by kernel_rfl) fun b1 ww1 a1 hS1 hf1 => ⟨fun _ => trivial, ?_⟩
 refine p_box (i := 1) (d := (some 3)) (cs := [.slice o_x1_heap x1_heap.length c_x1_heap, .map o_x1_may]) (T := 119) (v := fun b2 => pB b2 0) hS1 hf1 (fun b => by kernel_rfl) fun b2 ww2 a2 hS2 hf2 => ⟨fun _ => trivial, ?_⟩
 refine p_box (i := 2) (d := (some 4)) (cs := [.slice none 0 0, .map none]) (T := 119) (v := fun b3 => pB b3 0) hS2 hf2 (fun b => by kernel_rfl) fun b3 ww3 a3 hS3 hf3 => ⟨fun _ => trivial, ?_⟩
 refine p_dt (by kernel_rfl) ?_
 refine w_sr (by kernel_rfl) ?_
 refine p_qn 4 [.slice o_x0_heap x0_heap.length c_x0_heap, .slice o_x1_heap x1_heap.length c_x1_heap] [(2, pB b1 0), (3, pB b2 0), (4, pB b3 0), (10, .agg #[.slice o_x0_heap x0_heap.length c_x0_heap]), (12, .agg #[.slice o_x1_heap x1_heap.length c_x1_heap])] [.cell ⟨b1, 0, none⟩ (.slice o_x0_heap x0_heap.length c_x0_heap), .cell ⟨b2, 0, none⟩ (.slice o_x1_heap x1_heap.length c_x1_heap)] hf3 (by kernel_rfl) (.cell (hS3.box (i := 2) rfl (j := 0) rfl) (.cell (hS3.box (i := 1) rfl (j := 0) rfl) .nil)) fun a4 hf4 => ?_
 obtain ⟨r1, hd1, hr1⟩ := bind_some hr
 refine p_call (i := 4) (d := some 13) (f := 80) (args := #[.agg #[.slice o_x0_heap x0_heap.length c_x0_heap], .agg #[.slice o_x1_heap x1_heap.length c_x1_heap]]) hf4 (by kernel_rfl) (f80_ok fuel x0_heap x1_heap r1 hd1 h _ _ hS3 o_x0_heap c_x0_heap hx_x0_heap o_x1_heap c_x1_heap hx_x1_heap) ?_
 rintro v1 ww4 a5 ⟨z1, e1, q1, k2, rfl, hS4, hx1⟩ hf5
 refine ⟨fun _ => trivial, ?_⟩
 refine p_makeMap (i := 5) (d := (some 14)) Value.bool hS4 hf5 (fun b => by kernel_rfl) fun b4 ww5 a6 hS5 hf6 => ⟨fun _ => trivial, ?_⟩
 refine p_qn 1 [] [(2, pB b1 0), (3, pB b2 0), (4, pB b3 0), (15, .agg #[.slice e1 r1.length q1, .map (some b4)])] [] hf6 (by kernel_rfl) .nil fun a7 hf7 => ?_
 refine p_box (i := 7) (d := (some 5)) (cs := [.slice none 0 0, .map none]) (T := 119) (v := fun b5 => pB b5 0) hS5 hf7 (fun b => by kernel_rfl) fun b5 ww6 a8 hS6 hf8 => ⟨fun _ => trivial, ?_⟩
 refine p_store_eq (i := 8) (j := 0) (b := b5) (off := 0) (vs := [.slice e1 r1.length q1, .map (some b4)]) (cs' := [.slice e1 r1.length q1, .map (some b4)]) hS6 hf8 rfl (by kernel_rfl) (by kernel_rfl) rfl fun ww7 a9 hS7 hf9 => ⟨fun _ => trivial, ?_⟩
 refine p_dt (by kernel_rfl) ?_
 refine w_seq (by kernel_rfl) ?_
 refine w_sr (by kernel_rfl) ?_
 refine p_qn 2 [.slice o_x0_heap x0_heap.length c_x0_heap, .map o_x0_may, .slice o_x1_heap x1_heap.length c_x1_heap, .map o_x1_may] [(4, pB b3 0), (5, pB b5 0), (16, .agg #[.slice o_x0_heap x0_heap.length c_x0_heap, .map o_x0_may]), (17, .agg #[.slice o_x1_heap x1_heap.length c_x1_heap, .map o_x1_may])] [.cell ⟨b1, 0, none⟩ (.slice o_x0_heap x0_heap.length c_x0_heap), .cell ⟨b1, 1, none⟩ (.map o_x0_may), .cell ⟨b2, 0, none⟩ (.slice o_x1_heap x1_heap.length c_x1_heap), .cell ⟨b2, 1, none⟩ (.map o_x1_may)] hf9 (by kernel_rfl) (.cell (hS7.box (i := 4) rfl (j := 0) rfl) (.cell (hS7.box (i := 4) rfl (j := 1) rfl) (.cell (hS7.box (i := 3) rfl (j := 0) rfl) (.cell (hS7.box (i := 3) rfl (j := 1) rfl) .nil)))) fun a10 hf10 => ?_
 refine p_box (i := 2) (d := (some 18)) (cs := [.slice o_x0_heap x0_heap.length c_x0_heap, .map o_x0_may, .slice o_x1_heap x1_heap.length c_x1_heap, .map o_x1_may]) (T := 119) (v := fun b6 => .slice (some ⟨b6, 0, none⟩) 2 2) hS7 hf10 (fun b => by kernel_rfl) fun b6 ww8 a11 hS8 hf11 => ⟨fun _ => trivial, ?_⟩
 have hS9 := hS8.ownBox (T := BagT) (E := 119) (n := 2) (xs := [(⟨x0_heap, x0_may⟩ : Bag), (⟨x1_heap, x1_may⟩ : Bag)]) (i := 0) rfl (Rows.cons (c := [.slice o_x0_heap x0_heap.length c_x0_heap, .map o_x0_may]) (bagRep (x := ⟨x0_heap, x0_may⟩) ((SliceR.mono k2 hx_x0_heap)) (MapR.mono k2 hx_x0_may)) (Rows.cons (c := [.slice o_x1_heap x1_heap.length c_x1_heap, .map o_x1_may]) (bagRep (x := ⟨x1_heap, x1_may⟩) ((SliceR.mono k2 hx_x1_heap)) (MapR.mono k2 hx_x1_may)) rfl)) rfl (by decide)
 refine p_qt [] [(4, pB b3 0), (5, pB b5 0), (18, .slice (some ⟨b6, 0, none⟩) 2 2), (19, vI 2), (20, vI 0)] [] hf11 (by kernel_rfl) .nil fun a12 hf12 => ?_
 refine w_block (id := 0) (by kernel_rfl) ?_
 have hf13 := Fr.keep (ks := [4, 5, 18, 19, 20]) (r := [(4, pB b3 0), (5, pB b5 0), (18, .slice (some ⟨b6, 0, none⟩) 2 2), (19, vI 2), (20, vI 0)]) hf12 (by kernel_rfl)
 refine w_loop (by kernel_rfl) (fun n a w => ∃ z2 : Zone, ∃ y1 : List (Int × Bool), ∃ y2 : Int, Zone.le z1 z2 ∧ Fr a 36 [(4, pB b3 0), (5, pB b5 0), (18, .slice (some ⟨b6, 0, none⟩) ([(⟨x0_heap, x0_may⟩ : Bag), (⟨x1_heap, x1_may⟩ : Bag)].length) 2), (19, vI 2), (20, vI y2)] ∧ St z2 (ownS BagT 119 (some ⟨b6, 0, none⟩) 2 ([(⟨x0_heap, x0_may⟩ : Bag), (⟨x1_heap, x1_may⟩ : Bag)]) :: box b5 [.slice e1 r1.length q1, .map (some b4)] 119 :: mapA Value.bool b4 y1 :: box b3 [.slice none 0 0, .map none] 119 :: box b2 [.slice o_x1_heap x1_heap.length c_x1_heap, .map o_x1_may] 119 :: box b1 [.slice o_x0_heap x0_heap.length c_x0_heap, .map o_x0_may] 119 :: L) w ∧ (F150_l1 x0_heap x0_may x1_heap x1_may r1 n y1 y2) = some r) fuel ⟨z1, [], 0, (Zone.le_refl _), hf13, hS9, hr1⟩ ?_
 rintro n2 a13 ww9 ⟨z2, y1, y2, k3, hf14, hS10, hr2⟩
 cases n2 with
 | zero => cases hr2
 | succ n1 =>
 refine w_sq [] [(4, pB b3 0), (5, pB b5 0), (18, .slice (some ⟨b6, 0, none⟩) ([(⟨x0_heap, x0_may⟩ : Bag), (⟨x1_heap, x1_may⟩ : Bag)].length) 2), (19, vI 2), (20, vI y2), (21, .bool (decide (y2 < (2 : Int))))] [] hf14 (by kernel_rfl) .nil fun a14 hf15 => ?_
 refine w_seq (by kernel_rfl) ?_
 refine w_if hf15 (b := (decide (y2 < (2 : Int)))) (by kernel_rfl) (fun hb1 => ?_) (fun hb1 => ?_)
 ·have hr3 := cond_t hb1 hr2
  refine w_skip (by kernel_rfl) ?_
  refine n_then ?_
  refine w_seq (by kernel_rfl) ?_
  refine w_block (id := 1) (by kernel_rfl) ?_
  refine w_sr (by kernel_rfl) ?_
  obtain ⟨p1, hp2104, hr4⟩ := bind_some hr3
  obtain ⟨ad1, ho1, hb2, cc1, hc1, hk1⟩ := hS10.ownGet (j := 0) rfl hp2104
  obtain ⟨e2, q2, e3, rfl, hx2, hx3⟩ := hc1
  refine p_qn 2 [.pointer (some ad1), .slice e2 p1.parts.length q2, .map e3] [(4, pB b3 0), (5, pB b5 0), (18, .slice (some ⟨b6, 0, none⟩) ([(⟨x0_heap, x0_may⟩ : Bag), (⟨x1_heap, x1_may⟩ : Bag)].length) 2), (19, vI 2), (20, vI y2), (23, .agg #[.slice e2 p1.parts.length q2, .map e3])] [.prop ((some ⟨b6, 0, none⟩) = some ad1), .prop (0 ≤ y2 ∧ y2 < ([(⟨x0_heap, x0_may⟩ : Bag), (⟨x1_heap, x1_may⟩ : Bag)].length : Nat)), .cell ((ad1.add (Int.toNat y2 * 2)).add 0) (.slice e2 p1.parts.length q2), .cell ((ad1.add (Int.toNat y2 * 2)).add 1) (.map e3)] hf15 (by kernel_rfl) (.prop ho1 (.prop hb2 (.cell (hk1 0 _ rfl) (.cell (hk1 1 _ rfl) .nil)))) fun a15 hf16 => ?_
  refine p_box (i := 2) (d := (some 7)) (cs := [.slice none 0 0, .map none]) (T := 119) (v := fun b7 => pB b7 0) hS10 hf16 (fun b => by kernel_rfl) fun b7 ww10 a16 hS11 hf17 => ⟨fun _ => trivial, ?_⟩
  refine p_store_eq (i := 3) (j := 0) (b := b7) (off := 0) (vs := [.slice e2 p1.parts.length q2, .map e3]) (cs' := [.slice e2 p1.parts.length q2, .map e3]) hS11 hf17 rfl (by kernel_rfl) (by kernel_rfl) rfl fun ww11 a17 hS12 hf18 => ⟨fun _ => trivial, ?_⟩
  refine p_dt (by kernel_rfl) ?_
  refine w_sr (by kernel_rfl) ?_
  refine p_qn 2 [.map e3] [(4, pB b3 0), (5, pB b5 0), (18, .slice (some ⟨b6, 0, none⟩) ([(⟨x0_heap, x0_may⟩ : Bag), (⟨x1_heap, x1_may⟩ : Bag)].length) 2), (19, vI 2), (20, vI y2), (25, .map e3)] [.cell ⟨b7, 1, none⟩ (.map e3)] hf18 (by kernel_rfl) (.cell (hS12.box (i := 0) rfl (j := 1) rfl) .nil) fun a18 hf19 => ?_
  refine p_range (i := 2) (d := (some 26)) (t := 117) (o := e3) hS12 hf19 (by kernel_rfl) mp117 hx3 fun b8 ww12 a19 l1 hl1 hS13 hf20 => ⟨fun _ => trivial, ?_⟩
  refine p_dt (by kernel_rfl) ?_
  refine w_block (id := 2) (by kernel_rfl) ?_
  have hf21 := Fr.keep (ks := [4, 5, 18, 19, 20, 26]) (r := [(4, pB b3 0), (5, pB b5 0), (18, .slice (some ⟨b6, 0, none⟩) ([(⟨x0_heap, x0_may⟩ : Bag), (⟨x1_heap, x1_may⟩ : Bag)].length) 2), (19, vI 2), (20, vI y2), (26, pB b8 0)]) hf20 (by kernel_rfl)
  have hU2181 := uniK_same (hS13.mapRise (j := 4) rfl) hl1
  refine w_loop (by kernel_rfl) (fun n a w => ∃ l2 d1, l2.length = n ∧ uniK d1 l2 = (uniK y1 p1.may) ∧ Fr a 36 [(4, pB b3 0), (5, pB b5 0), (18, .slice (some ⟨b6, 0, none⟩) ([(⟨x0_heap, x0_may⟩ : Bag), (⟨x1_heap, x1_may⟩ : Bag)].length) 2), (19, vI 2), (20, vI y2), (26, pB b8 0)] ∧ St z2 (iterA Value.bool b8 l2 :: box b7 [.slice e2 p1.parts.length q2, .map e3] 119 :: ownS BagT 119 (some ⟨b6, 0, none⟩) 2 ([(⟨x0_heap, x0_may⟩ : Bag), (⟨x1_heap, x1_may⟩ : Bag)]) :: box b5 [.slice e1 r1.length q1, .map (some b4)] 119 :: mapA Value.bool b4 d1 :: box b3 [.slice none 0 0, .map none] 119 :: box b2 [.slice o_x1_heap x1_heap.length c_x1_heap, .map o_x1_may] 119 :: box b1 [.slice o_x0_heap x0_heap.length c_x0_heap, .map o_x0_may] 119 :: L) w) l1.length ⟨l1, _, rfl, hU2181, hf21, hS13⟩ ?_
  rintro n3 a20 ww13 ⟨l2, d1, hn2184, hu2185, hf22, hS14⟩
  refine w_sr (by kernel_rfl) ?_
  refine p_next (i := 0) (j := 0) (d := (some 27)) (b := b8) hS14 hf22 (by kernel_rfl) rfl (fun e2199 a21 hf23 => ⟨fun _ => trivial, ?_⟩) (fun k4 v2 l3 ww14 a21 hm2200 hlt2201 hS15 hf23 => ⟨fun _ => trivial, ?_⟩)
  ·skip
   subst e2199
   obtain rfl := (show d1 = (uniK y1 p1.may) from hu2185)
   have hS16 := hS14.dropAt (i := 0) rfl
   refine p_qt [] [(4, pB b3 0), (5, pB b5 0), (18, .slice (some ⟨b6, 0, none⟩) ([(⟨x0_heap, x0_may⟩ : Bag), (⟨x1_heap, x1_may⟩ : Bag)].length) 2), (19, vI 2), (20, vI y2), (26, pB b8 0), (28, .bool false)] [] hf23 (by kernel_rfl) .nil fun a22 hf24 => ?_
   refine w_seq (by kernel_rfl) ?_
   refine w_if_false hf24 (by kernel_rfl) ?_
   refine w_exit (id := 2) (by kernel_rfl) ?_
   refine x_then ?_
   refine x_then ?_
   refine x_block ?_
   refine n_block ?_
   refine n_then ?_
   refine w_q [] [(4, pB b3 0), (5, pB b5 0), (18, .slice (some ⟨b6, 0, none⟩) ([(⟨x0_heap, x0_may⟩ : Bag), (⟨x1_heap, x1_may⟩ : Bag)].length) 2), (19, vI 2), (20, vI (w64 (y2 + (1 : Int))))] [] hf24 (by kernel_rfl) .nil fun a23 hf25 => ?_
   refine n_then ?_
   have hf26 := Fr.keep (ks := [4, 5, 18, 19, 20]) (r := [(4, pB b3 0), (5, pB b5 0), (18, .slice (some ⟨b6, 0, none⟩) ([(⟨x0_heap, x0_may⟩ : Bag), (⟨x1_heap, x1_may⟩ : Bag)].length) 2), (19, vI 2), (20, vI (w64 (y2 + (1 : Int))))]) hf25 (by kernel_rfl)
   exact ⟨n1, Nat.lt_succ_self n1, z2, (uniK y1 p1.may), (w64 (y2 + (1 : Int))), k3, hf26, (St.drop 2 hS16), hr4⟩
  ·skip
   refine p_qt [] [(4, pB b3 0), (5, pB b5 0), (18, .slice (some ⟨b6, 0, none⟩) ([(⟨x0_heap, x0_may⟩ : Bag), (⟨x1_heap, x1_may⟩ : Bag)].length) 2), (19, vI 2), (20, vI y2), (26, pB b8 0), (28, .bool true)] [] hf23 (by kernel_rfl) .nil fun a24 hf27 => ?_
   refine w_seq (by kernel_rfl) ?_
   refine w_if_true hf27 (by kernel_rfl) ?_
   refine w_skip (by kernel_rfl) ?_
   refine n_then ?_
   refine w_block (id := 3) (by kernel_rfl) ?_
   refine w_sr (by kernel_rfl) ?_
   refine p_entry (i := 0) (j := 0) (d := (some 29)) (b := b8) hS15 hf27 (by kernel_rfl) rfl fun a25 hf28 => ⟨fun _ => trivial, ?_⟩
   refine p_qt [] [(4, pB b3 0), (5, pB b5 0), (8, vI k4), (18, .slice (some ⟨b6, 0, none⟩) ([(⟨x0_heap, x0_may⟩ : Bag), (⟨x1_heap, x1_may⟩ : Bag)].length) 2), (19, vI 2), (20, vI y2), (26, pB b8 0)] [] hf28 (by kernel_rfl) .nil fun a26 hf29 => ?_
   refine w_reg (by kernel_rfl) ?_
   refine p_qn 3 [.map (some b4)] [(4, pB b3 0), (5, pB b5 0), (18, .slice (some ⟨b6, 0, none⟩) ([(⟨x0_heap, x0_may⟩ : Bag), (⟨x1_heap, x1_may⟩ : Bag)].length) 2), (19, vI 2), (20, vI y2), (26, pB b8 0), (32, .map (some b4)), (33, vI k4)] [.cell ⟨b5, 1, none⟩ (.map (some b4))] hf29 (by kernel_rfl) (.cell (hS15.box (i := 3) rfl (j := 1) rfl) .nil) fun a27 hf30 => ?_
   refine p_put (i := 3) (j := 4) (t := 117) (r := b4) (k := k4) (v := true) hS15 hf30 rfl (by kernel_rfl) mp117 fun ww15 a28 hS17 hf31 => ⟨fun _ => trivial, ?_⟩
   refine p_done (by kernel_rfl) ?_
   refine n_block ?_
   refine n_then ?_
   have hf32 := Fr.keep (ks := [4, 5, 18, 19, 20, 26]) (r := [(4, pB b3 0), (5, pB b5 0), (18, .slice (some ⟨b6, 0, none⟩) ([(⟨x0_heap, x0_may⟩ : Bag), (⟨x1_heap, x1_may⟩ : Bag)].length) 2), (19, vI 2), (20, vI y2), (26, pB b8 0)]) hf31 (by kernel_rfl)
   have hS18 := (hS17).conv (i := 0) rfl iterE_A
   exact ⟨l3.length, by omega, l3, _, rfl, (uniK_step (hS14.mapRise (j := 4) rfl) hm2200).symm.trans hu2185, hf32, hS18⟩
 ·have hr5 := cond_f hb1 hr2
  refine w_exit (id := 0) (by kernel_rfl) ?_
  refine x_then ?_
  refine x_then ?_
  refine x_block ?_
  refine n_then ?_
  refine w_sr (by kernel_rfl) ?_
  refine p_qn 1 [.slice e1 r1.length q1, .map (some b4)] [(4, pB b3 0), (35, .agg #[.slice e1 r1.length q1, .map (some b4)])] [.cell ⟨b5, 0, none⟩ (.slice e1 r1.length q1), .cell ⟨b5, 1, none⟩ (.map (some b4))] hf15 (by kernel_rfl) (.cell (hS10.box (i := 1) rfl (j := 0) rfl) (.cell (hS10.box (i := 1) rfl (j := 1) rfl) .nil)) fun a29 hf33 => ?_
  refine p_store_eq (i := 1) (j := 3) (b := b3) (off := 0) (vs := [.slice e1 r1.length q1, .map (some b4)]) (cs' := [.slice e1 r1.length q1, .map (some b4)]) hS10 hf33 rfl (by kernel_rfl) (by kernel_rfl) rfl fun ww16 a30 hS19 hf34 => ⟨fun _ => trivial, ?_⟩
  refine p_dt (by kernel_rfl) ?_
  refine w_ret (by kernel_rfl) ?_
  obtain ⟨z3, k5, hS20, hx4⟩ := hS19.mapShare (j := 2) rfl
  refine p_ret (os := [.slice e1 r1.length q1, .map (some b4)]) (v := .agg #[.slice e1 r1.length q1, .map (some b4)]) (obs := [.cell ⟨b3, 0, none⟩ (.slice e1 r1.length q1), .cell ⟨b3, 1, none⟩ (.map (some b4))]) hf34 (by kernel_rfl) (.cell (hS20.box (i := 3) rfl (j := 0) rfl) (.cell (hS20.box (i := 3) rfl (j := 1) rfl) .nil)) ?_
  obtain rfl := some_eq hr5
  exact ⟨_, rfl, z3, e1, q1, (some b4), (Zone.le_trans (Zone.le_trans k2 k3) k5), rfl, (St.drop 6 hS20), (SliceR.mono (Zone.le_trans k3 k5) hx1), hx4⟩
def F151 (fuel : Nat) (x0 : Pl) (x1 : Int) : Option (List Part × List (Int × Bool) × Pl) :=
  ((getI x0.holds x1).bind fun p1 => (cond (decide ((w64 ((p1.length : Int) - (1 : Int))) < (0 : Int))) (some ([], [], x0)) ((getI x0.holds x1).bind fun p2 => ((getI x0.may x1).bind fun p3 => ((getI p2 (w64 ((p1.length : Int) - (1 : Int)))).bind fun p4 => ((getI p3 (w64 ((p1.length : Int) - (1 : Int)))).bind fun p5 => (some (p4, p5, x0))))))))
set_option maxRecDepth 100000 in
theorem f151_ok (fuel : Nat) (x0 : Pl) (x1 : Int) (r : List Part × List (Int × Bool) × Pl) (hr : F151 fuel x0 x1 = some r) (h : Zone) (L : List Atom) (w : World) (b_x0 : Nat) (hS : St h (plA 126 40 117 b_x0 x0 :: L) w)  :
    Calls Try.prog 151 #[pB b_x0 0, vI x1] w fun e w' => ∃ v, e = .returned v ∧ (∃ h', ∃ o0 : Option Addr, ∃ c0 : Nat, ∃ o1 : Option Nat, Zone.le h h' ∧ v = .agg #[.slice o0 r.1.length c0, .map o1] ∧ St h' (plA 126 40 117 b_x0 r.2.2 :: L) w' ∧ SliceR PartT h' o0 c0 r.1 ∧ MapR Value.bool h' o1 r.2.1) := by
 refine calls_intro (N := 38) Try.func151 (by kernel_rfl) fun a hf => ?_
 refine w_sr (by kernel_rfl) ?_
 refine p_box (i := 0) (d := (some 4)) (cs := [.slice none 0 0, .map none]) (T := 119) (v := fun b1 => pB b1 0) hS hf (fun b => by kernel_rfl) fun b1 ww1 a1 hS1 hf1 => ⟨fun _ => trivial, ?_⟩
 refine p_dt (by kernel_rfl) ?_
 obtain ⟨o6, c7, v1, v2, v3, v4, v5, v6, v7, v8, v9, v10, v11, v12, v13, v14, v15, v16, v17, v18, hx1, hS2⟩ := hS1.plOpen (i := 1) rfl
 obtain ⟨p1, hp31, hr1⟩ := bind_some hr
 obtain ⟨e1, q1, hv1, hb1, hS3⟩ := hS2.ownOpen (j := 0) rfl hp31
 refine w_seq (by kernel_rfl) ?_
 refine w_q [.slice e1 p1.length q1] [(0, pB b_x0 0), (1, vI x1), (4, pB b1 0), (5, vI (w64 ((p1.length : Int) - (1 : Int))))] [.prop (0 ≤ x1 ∧ x1 < (9 : Nat)), .cell ((⟨b_x0, 1, none⟩ : Addr).add (Int.toNat x1 * 1)) (.slice e1 p1.length q1)] hf1 (by kernel_rfl) (.prop hb1 (.cell ((arrAddr b_x0 1 (Int.toNat x1)) ▸ (hS3.box (i := 4) rfl (getElem?_app_right [.slice o6 x0.lots.length c7] _ _ hv1 [v10, v11, v12, v13, v14, v15, v16, v17, v18]))) .nil)) fun a2 hf2 => ?_
 have hS4 := hS3.ownClose' (j := 1) (k := 0) rfl rfl (by decide) hv1 (getI_spec hp31).2
 have hS5 := hS4.plClose (i := 4) (j := 1) (k := 2) rfl hx1 rfl rfl (by decide) (by decide) (by decide)
 refine n_then ?_
 refine w_seq (by kernel_rfl) ?_
 refine w_sq [] [(0, pB b_x0 0), (1, vI x1), (4, pB b1 0), (5, vI (w64 ((p1.length : Int) - (1 : Int)))), (16, .bool (decide ((w64 ((p1.length : Int) - (1 : Int))) < (0 : Int))))] [] hf2 (by kernel_rfl) .nil fun a3 hf3 => ?_
 refine w_if hf3 (b := (decide ((w64 ((p1.length : Int) - (1 : Int))) < (0 : Int)))) (by kernel_rfl) (fun hb2 => ?_) (fun hb2 => ?_)
 ·have hr2 := cond_t hb2 hr1
  refine w_sr (by kernel_rfl) ?_
  refine p_qn 1 [] [(4, pB b1 0), (17, .agg #[.slice none 0 0, .map none])] [] hf3 (by kernel_rfl) .nil fun a4 hf4 => ?_
  refine p_store_eq (i := 1) (j := 3) (b := b1) (off := 0) (vs := [.slice none 0 0, .map none]) (cs' := [.slice none 0 0, .map none]) hS5 hf4 rfl (by kernel_rfl) (by kernel_rfl) rfl fun ww2 a5 hS6 hf5 => ⟨fun _ => trivial, ?_⟩
  refine p_dt (by kernel_rfl) ?_
  refine w_ret (by kernel_rfl) ?_
  refine r_then ?_
  refine p_ret (os := [.slice none 0 0, .map none]) (v := .agg #[.slice none 0 0, .map none]) (obs := [.cell ⟨b1, 0, none⟩ (.slice none 0 0), .cell ⟨b1, 1, none⟩ (.map none)]) hf5 (by kernel_rfl) (.cell (hS6.box (i := 3) rfl (j := 0) rfl) (.cell (hS6.box (i := 3) rfl (j := 1) rfl) .nil)) ?_
  obtain rfl := some_eq hr2
  exact ⟨_, rfl, h, none, 0, none, (Zone.le_refl _), rfl, (St.pick 5 [4] hS6 (by kernel_rfl)), SliceR.nil' _ _, (MapR.nil' _ _)⟩
 ·have hr3 := cond_f hb2 hr1
  refine w_skip (by kernel_rfl) ?_
  refine n_then ?_
  refine w_seq (by kernel_rfl) ?_
  obtain ⟨e2, q2, v19, v20, v21, v22, v23, v24, v25, v26, v27, v28, v29, v30, v31, v32, v33, v34, v35, v36, hx2, hS7⟩ := hS5.plOpen (i := 4) rfl
  obtain ⟨p2, hp90, hr4⟩ := bind_some hr3
  obtain ⟨e3, q3, hv2, hb3, hS8⟩ := hS7.ownOpen (j := 0) rfl hp90
  obtain ⟨p3, hp99, hr5⟩ := bind_some hr4
  obtain ⟨e4, q4, hv3, hb4, hS9⟩ := hS8.ownOpen (j := 2) rfl hp99
  have hS10 := hS9.drew
  refine w_regD (by kernel_rfl) [(0, true), (1, true), (2, true), (3, true), (4, true), (5, true), (6, true), (7, true), (8, true), (9, true), (10, true), (11, true), (12, true), (13, true), (14, true), (15, true), (16, true), (17, true), (18, true), (19, true), (20, false)] [20] (fun x => x = ww1.drew) (by kernel_rfl) rfl ?_
  obtain ⟨p4, hp109, hr6⟩ := bind_some hr5
  obtain ⟨ad1, ho1, hb5, cc1, hc1, hk1⟩ := hS10.ownGet (j := 1) rfl hp109
  obtain ⟨e5, q5, rfl, hx3⟩ := hc1
  obtain ⟨p5, hp121, hr7⟩ := bind_some hr6
  obtain ⟨ad2, ho2, hb6, cc2, hc2, hk2⟩ := hS10.ownGet (j := 0) rfl hp121
  obtain ⟨e6, rfl, hx4⟩ := hc2
  refine p_qE 20 [.slice e3 p2.length q3, .pointer (some ad1), .slice e5 p4.length q5, .slice e4 p3.length q4, .pointer (some ad2), .map e6] [(4, pB b1 0), (37, .agg #[.slice e5 p4.length q5, .map e6])] [.prop (0 ≤ x1 ∧ x1 < (9 : Nat)), .cell ((⟨b_x0, 1, none⟩ : Addr).add (Int.toNat x1 * 1)) (.slice e3 p2.length q3), .prop (e3 = some ad1), .prop (0 ≤ (w64 ((p1.length : Int) - (1 : Int))) ∧ (w64 ((p1.length : Int) - (1 : Int))) < (p2.length : Nat)), .cell ((ad1.add (Int.toNat (w64 ((p1.length : Int) - (1 : Int))) * 1)).add 0) (.slice e5 p4.length q5), .prop (0 ≤ x1 ∧ x1 < (9 : Nat)), .cell ((⟨b_x0, 10, none⟩ : Addr).add (Int.toNat x1 * 1)) (.slice e4 p3.length q4), .prop (e4 = some ad2), .prop (0 ≤ (w64 ((p1.length : Int) - (1 : Int))) ∧ (w64 ((p1.length : Int) - (1 : Int))) < (p3.length : Nat)), .cell ((ad2.add (Int.toNat (w64 ((p1.length : Int) - (1 : Int))) * 1)).add 0) (.map e6)] [] hf3 (by kernel_rfl) (.prop hb3 (.cell ((arrAddr b_x0 1 (Int.toNat x1)) ▸ (hS10.box (i := 8) rfl (getElem?_app_right [.slice e2 x0.lots.length q2] _ _ hv2 [v28, v29, v30, v31, v32, v33, v34, v35, v36]))) (.prop ho1 (.prop hb5 (.cell (hk1 0 _ rfl) (.prop hb4 (.cell ((arrAddr b_x0 10 (Int.toNat x1)) ▸ (hS10.box (i := 8) rfl (getElem?_app_right [.slice e2 x0.lots.length q2, v19, v20, v21, v22, v23, v24, v25, v26, v27] _ _ hv3 []))) (.prop ho2 (.prop hb6 (.cell (hk2 0 _ rfl) .nil)))))))))) .nil fun a6 hf6 => ?_
  refine p_store_eq (i := 20) (j := 7) (b := b1) (off := 0) (vs := [.slice e5 p4.length q5, .map e6]) (cs' := [.slice e5 p4.length q5, .map e6]) hS10 hf6 rfl (by kernel_rfl) (by kernel_rfl) rfl fun ww3 a7 hS11 hf7 => ⟨fun e => absurd e (by decide), ?_⟩
  refine p_done (by kernel_rfl) ?_
  have hS12 := hS11.ownClose' (j := 2) (k := 1) rfl rfl (by decide) hv2 (getI_spec hp90).2
  have hS13 := hS12.ownClose' (j := 3) (k := 0) rfl rfl (by decide) hv3 (getI_spec hp99).2
  have hS14 := hS13.plClose (i := 8) (j := 2) (k := 3) rfl hx2 rfl rfl (by decide) (by decide) (by decide)
  refine n_then ?_
  refine w_ret (by kernel_rfl) ?_
  refine p_ret (os := [.slice e5 p4.length q5, .map e6]) (v := .agg #[.slice e5 p4.length q5, .map e6]) (obs := [.cell ⟨b1, 0, none⟩ (.slice e5 p4.length q5), .cell ⟨b1, 1, none⟩ (.map e6)]) hf7 (by kernel_rfl) (.cell (hS14.box (i := 7) rfl (j := 0) rfl) (.cell (hS14.box (i := 7) rfl (j := 1) rfl) .nil)) ?_
  obtain rfl := some_eq hr7
  exact ⟨_, rfl, h, e5, q5, e6, (Zone.le_refl _), rfl, (St.pick 9 [8] hS14 (by kernel_rfl)), hx3, hx4⟩
def F152 (fuel : Nat) (x0 : Pl) (x1 : Int) : Option (Pl) :=
  ((getI x0.holds x1).bind fun p1 => (cond (decide ((w64 ((p1.length : Int) - (1 : Int))) ≥ (0 : Int))) ((getI x0.holds x1).bind fun p2 => ((getI x0.may x1).bind fun p3 => ((subI p2 0 (w64 ((p1.length : Int) - (1 : Int)))).bind fun d1 => ((subI p3 0 (w64 ((p1.length : Int) - (1 : Int)))).bind fun d2 => (some ((⟨x0.lots, (x0.holds.set (Int.toNat x1) d1), (x0.may.set (Int.toNat x1) d2)⟩ : Pl))))))) (some (x0))))
set_option maxRecDepth 100000 in
theorem f152_ok (fuel : Nat) (x0 : Pl) (x1 : Int) (r : Pl) (hr : F152 fuel x0 x1 = some r) (h : Zone) (L : List Atom) (w : World) (b_x0 : Nat) (hS : St h (plA 126 40 117 b_x0 x0 :: L) w)  :
    Calls Try.prog 152 #[pB b_x0 0, vI x1] w fun e w' => ∃ v, e = .returned v ∧ (∃ h', Zone.le h h' ∧ v = .tuple #[] ∧ St h' (plA 126 40 117 b_x0 r :: L) w') := by
 refine calls_intro (N := 44) Try.func152 (by kernel_rfl) fun a hf => ?_
 obtain ⟨o1, c2, v1, v2, v3, v4, v5, v6, v7, v8, v9, v10, v11, v12, v13, v14, v15, v16, v17, v18, hx1, hS1⟩ := hS.plOpen (i := 0) rfl
 obtain ⟨p1, hp26, hr1⟩ := bind_some hr
 obtain ⟨e1, q1, hv1, hb1, hS2⟩ := hS1.ownOpen (j := 0) rfl hp26
 refine w_seq (by kernel_rfl) ?_
 refine w_q [.slice e1 p1.length q1] [(0, pB b_x0 0), (1, vI x1), (4, vI (w64 ((p1.length : Int) - (1 : Int))))] [.prop (0 ≤ x1 ∧ x1 < (9 : Nat)), .cell ((⟨b_x0, 1, none⟩ : Addr).add (Int.toNat x1 * 1)) (.slice e1 p1.length q1)] hf (by kernel_rfl) (.prop hb1 (.cell ((arrAddr b_x0 1 (Int.toNat x1)) ▸ (hS2.box (i := 3) rfl (getElem?_app_right [.slice o1 x0.lots.length c2] _ _ hv1 [v10, v11, v12, v13, v14, v15, v16, v17, v18]))) .nil)) fun a1 hf1 => ?_
 have hS3 := hS2.ownClose' (j := 1) (k := 0) rfl rfl (by decide) hv1 (getI_spec hp26).2
 have hS4 := hS3.plClose (i := 3) (j := 1) (k := 2) rfl hx1 rfl rfl (by decide) (by decide) (by decide)
 refine n_then ?_
 refine w_sq [] [(0, pB b_x0 0), (1, vI x1), (4, vI (w64 ((p1.length : Int) - (1 : Int)))), (15, .bool (decide ((w64 ((p1.length : Int) - (1 : Int))) ≥ (0 : Int))))] [] hf1 (by kernel_rfl) .nil fun a2 hf2 => ?_
 refine w_if hf2 (b := (decide ((w64 ((p1.length : Int) - (1 : Int))) ≥ (0 : Int)))) (by kernel_rfl) (fun hb2 => ?_) (fun hb2 => ?_)
 ·have hr2 := cond_t hb2 hr1
  obtain ⟨e2, q2, v19, v20, v21, v22, v23, v24, v25, v26, v27, v28, v29, v30, v31, v32, v33, v34, v35, v36, hx2, hS5⟩ := hS4.plOpen (i := 3) rfl
  obtain ⟨p2, hp68, hr3⟩ := bind_some hr2
  obtain ⟨e3, q3, hv2, hb3, hS6⟩ := hS5.ownOpen (j := 0) rfl hp68
  obtain ⟨p3, hp77, hr4⟩ := bind_some hr3
  obtain ⟨e4, q4, hv3, hb4, hS7⟩ := hS6.ownOpen (j := 2) rfl hp77
  have hS8 := hS7.drew
  refine w_regD (by kernel_rfl) [(0, true), (1, true), (2, true), (3, true), (4, true), (5, true), (6, true), (7, true), (8, true), (9, true), (10, true), (11, true), (12, true), (13, true), (14, true), (15, true), (16, true), (17, true), (18, true), (19, true), (20, true), (21, true), (22, true), (23, true), (24, true), (26, true), (27, true), (25, false), (28, true), (29, false)] [25, 29] (fun x => x = w.drew) (by kernel_rfl) rfl ?_
  obtain ⟨d1, hd1, hr5⟩ := bind_some hr4
  obtain ⟨hv4, hb5, hS9⟩ := hS8.ownSub (j := 1) rfl hd1
  obtain ⟨d2, hd2, hr6⟩ := bind_some hr5
  obtain ⟨hv5, hb6, hS10⟩ := hS9.ownSub (j := 0) rfl hd2
  refine p_qE 27 [.slice e3 p2.length q3, .slice e3 d1.length q3, .slice e4 p3.length q4, .slice e4 d2.length q4] [(19, vI x1), (28, .slice e3 d1.length q3), (36, .slice e4 d2.length q4), (40, .pointer (some ((⟨b_x0, 1, none⟩ : Addr).add (Int.toNat x1 * 1)))), (42, pB b_x0 10)] [.prop (0 ≤ x1 ∧ x1 < (9 : Nat)), .cell ((⟨b_x0, 1, none⟩ : Addr).add (Int.toNat x1 * 1)) (.slice e3 p2.length q3), .prop ((.slice e3 d1.length q3 : Value) = .slice (subO e3 q3 (Int.toNat 0) 1) (Int.toNat (w64 ((p1.length : Int) - (1 : Int))) - Int.toNat 0) (q3 - Int.toNat 0)), .prop ((0 : Int) ≤ 0 ∧ (0 : Int) ≤ (w64 ((p1.length : Int) - (1 : Int))) ∧ (w64 ((p1.length : Int) - (1 : Int))) ≤ (q3 : Nat) ∧ p2.length ≤ q3), .prop (0 ≤ x1 ∧ x1 < (9 : Nat)), .cell ((⟨b_x0, 10, none⟩ : Addr).add (Int.toNat x1 * 1)) (.slice e4 p3.length q4), .prop ((.slice e4 d2.length q4 : Value) = .slice (subO e4 q4 (Int.toNat 0) 1) (Int.toNat (w64 ((p1.length : Int) - (1 : Int))) - Int.toNat 0) (q4 - Int.toNat 0)), .prop ((0 : Int) ≤ 0 ∧ (0 : Int) ≤ (w64 ((p1.length : Int) - (1 : Int))) ∧ (w64 ((p1.length : Int) - (1 : Int))) ≤ (q4 : Nat) ∧ p3.length ≤ q4), .prop (0 ≤ x1 ∧ x1 < (9 : Nat))] [] hf2 (by kernel_rfl) (.prop hb3 (.cell ((arrAddr b_x0 1 (Int.toNat x1)) ▸ (hS8.box (i := 7) rfl (getElem?_app_right [.slice e2 x0.lots.length q2] _ _ hv2 [v28, v29, v30, v31, v32, v33, v34, v35, v36]))) (.prop hv4 (.prop hb5 (.prop hb4 (.cell ((arrAddr b_x0 10 (Int.toNat x1)) ▸ (hS9.box (i := 7) rfl (getElem?_app_right [.slice e2 x0.lots.length q2, v19, v20, v21, v22, v23, v24, v25, v26, v27] _ _ hv3 []))) (.prop hv5 (.prop hb6 (.prop hb3 .nil))))))))) .nil fun a3 hf3 => ?_
  refine p_storeA (i := 25) (j := 7) (b := b_x0) (ix := x1) (pre := [.slice e2 x0.lots.length q2]) (vs := [v19, v20, v21, v22, v23, v24, v25, v26, v27]) (post := [v28, v29, v30, v31, v32, v33, v34, v35, v36]) (v := .slice e3 d1.length q3) hS10 hf3 rfl (by have z1 := hb3.1; have z2 := hb3.2; simp at z2 ⊢; omega) (by kernel_rfl) rfl fun ww1 a4 hS11 hf4 => ⟨fun e => absurd e (by decide), ?_⟩
  obtain ⟨v37, v38, v39, v40, v41, v42, v43, v44, v45, hu104⟩ := nine (vs := [v19, v20, v21, v22, v23, v24, v25, v26, v27].set (Int.toNat x1) (.slice e3 d1.length q3)) (by simp)
  rw [hu104] at hS11
  have hv6 : [v37, v38, v39, v40, v41, v42, v43, v44, v45][Int.toNat x1]? = some (.slice e3 d1.length q3) := by rw [← hu104]; exact List.getElem?_set_self (by have z1 := hb3.1; have z2 := hb3.2; simp at z2 ⊢; omega)
  have hS12 : St h (ownS (Ty.map Value.bool) 117 e4 q4 d2 :: ownS (Ty.slice PartT) 40 e3 q3 d1 :: ownH (Ty.slice PartT) 40 [v19, v20, v21, v22, v23, v24, v25, v26, v27] x0.holds (Int.toNat x1) :: ownH (Ty.map Value.bool) 117 [v28, v29, v30, v31, v32, v33, v34, v35, v36] x0.may (Int.toNat x1) :: emp :: emp :: emp :: box b_x0 [.slice e2 x0.lots.length q2, v37, v38, v39, v40, v41, v42, v43, v44, v45, v28, v29, v30, v31, v32, v33, v34, v35, v36] 126 :: L) ww1 := hS11
  refine p_qP 1 [] [(36, .slice e4 d2.length q4), (43, .pointer (some ((⟨b_x0, 10, none⟩ : Addr).add (Int.toNat x1 * 1))))] [.prop (0 ≤ x1 ∧ x1 < (9 : Nat))] hf4 (by kernel_rfl) (fun _ => (.prop hb4 .nil)) fun a5 hf5 => ?_
  refine p_storeA (i := 29) (j := 7) (b := b_x0) (ix := x1) (pre := [.slice e2 x0.lots.length q2, v37, v38, v39, v40, v41, v42, v43, v44, v45]) (vs := [v28, v29, v30, v31, v32, v33, v34, v35, v36]) (post := []) (v := .slice e4 d2.length q4) hS12 hf5 rfl (by have z1 := hb4.1; have z2 := hb4.2; simp at z2 ⊢; omega) (by kernel_rfl) rfl fun ww2 a6 hS13 hf6 => ⟨fun e => absurd e (by decide), ?_⟩
  obtain ⟨v46, v47, v48, v49, v50, v51, v52, v53, v54, hu122⟩ := nine (vs := [v28, v29, v30, v31, v32, v33, v34, v35, v36].set (Int.toNat x1) (.slice e4 d2.length q4)) (by simp)
  rw [hu122] at hS13
  have hv7 : [v46, v47, v48, v49, v50, v51, v52, v53, v54][Int.toNat x1]? = some (.slice e4 d2.length q4) := by rw [← hu122]; exact List.getElem?_set_self (by have z1 := hb4.1; have z2 := hb4.2; simp at z2 ⊢; omega)
  have hS14 : St h (ownS (Ty.map Value.bool) 117 e4 q4 d2 :: ownS (Ty.slice PartT) 40 e3 q3 d1 :: ownH (Ty.slice PartT) 40 [v19, v20, v21, v22, v23, v24, v25, v26, v27] x0.holds (Int.toNat x1) :: ownH (Ty.map Value.bool) 117 [v28, v29, v30, v31, v32, v33, v34, v35, v36] x0.may (Int.toNat x1) :: emp :: emp :: emp :: box b_x0 [.slice e2 x0.lots.length q2, v37, v38, v39, v40, v41, v42, v43, v44, v45, v46, v47, v48, v49, v50, v51, v52, v53, v54] 126 :: L) ww2 := hS13
  refine p_done (by kernel_rfl) ?_
  have hS15 := hS14.ownClose (j := 2) (k := 1) rfl rfl (by decide) (List.getElem?_eq_some_iff.1 (getI_spec hp68).2).1
  rw [hu104] at hS15
  have hS16 := hS15.ownClose (j := 3) (k := 0) rfl rfl (by decide) (List.getElem?_eq_some_iff.1 (getI_spec hp77).2).1
  rw [hu122] at hS16
  have hS17 := hS16.plClose (i := 7) (j := 2) (k := 3) rfl hx2 rfl rfl (by decide) (by decide) (by decide)
  refine p_fall (os := []) (v := .tuple #[]) (obs := []) hf6 (by kernel_rfl) .nil ?_
  obtain rfl := some_eq hr6
  exact ⟨_, rfl, h, (Zone.le_refl _), rfl, (St.pick 8 [7] hS17 (by kernel_rfl))⟩
 ·have hr7 := cond_f hb2 hr1
  refine w_skip (by kernel_rfl) ?_
  refine p_fall (os := []) (v := .tuple #[]) (obs := []) hf2 (by kernel_rfl) .nil ?_
  obtain rfl := some_eq hr7
  exact ⟨_, rfl, h, (Zone.le_refl _), rfl, (St.pick 4 [3] hS4 (by kernel_rfl))⟩
def F146_j1 (fuel : Nat) (x1 : Int) (y1 : Pl) (y2 : List Part) (y3 : List (Int × Bool)) : Option (Pl) :=
  ((F152 fuel y1 x1).bind fun r1 => ((F148 fuel r1 x1 y2 y3).bind fun r2 => (some (r2))))
def F146 (fuel : Nat) (x0 : Pl) (x1 : Int) (x2_heap : List Part) (x2_may : List (Int × Bool)) : Option (Pl) :=
  ((F151 fuel x0 x1).bind fun r3 => ((F150 fuel r3.1 r3.2.1 x2_heap x2_may).bind fun r4 => (F146_j1 fuel x1 r3.2.2 r4.1 r4.2)))
set_option maxRecDepth 100000 in
theorem f146_ok (fuel : Nat) (x0 : Pl) (x1 : Int) (x2_heap : List Part) (x2_may : List (Int × Bool)) (r : Pl) (hr : F146 fuel x0 x1 x2_heap x2_may = some r) (h : Zone) (L : List Atom) (w : World) (b_x0 : Nat) (hS : St h (plA 126 40 117 b_x0 x0 :: L) w) (o_x2_heap : Option Addr) (c_x2_heap : Nat) (hx_x2_heap : SliceR PartT h o_x2_heap c_x2_heap x2_heap) (o_x2_may : Option Nat) (hx_x2_may : MapR Value.bool h o_x2_may x2_may) :
    Calls Try.prog 146 #[pB b_x0 0, vI x1, .agg #[.slice o_x2_heap x2_heap.length c_x2_heap, .map o_x2_may]] w fun e w' => ∃ v, e = .returned v ∧ (∃ h', Zone.le h h' ∧ v = .tuple #[] ∧ St h' (plA 126 40 117 b_x0 r :: L) w') := by
 refine calls_intro (N := 19) Try.func146 (by kernel_rfl) fun a hf => ?_
 refine w_sr (by kernel_rfl) ?_
 refine p_box (i := 0) (d := (some 5)) (cs := [.slice o_x2_heap x2_heap.length c_x2_heap, .map o_x2_may]) (T := 119) (v := fun b1 => pB b1 0) hS hf (fun b => by kernel_rfl) fun b1 ww1 a1 hS1 hf1 => ⟨fun _ => trivial, ?_⟩
 refine p_dt (by kernel_rfl) ?_
 refine w_mid (by kernel_rfl) (fun a w => ∃ z1 : Zone, ∃ y1 : Pl, ∃ y2 : List Part, ∃ y3 : List (Int × Bool), ∃ b2 : Nat, ∃ e1 : Option Addr, ∃ q1 : Nat, ∃ e2 : Option Nat, Zone.le h z1 ∧ Fr a 19 [(0, pB b_x0 0), (1, vI x1), (6, pB b2 0)] ∧ St z1 (box b2 [.slice e1 y2.length q1, .map e2] 119 :: box b1 [.slice o_x2_heap x2_heap.length c_x2_heap, .map o_x2_may] 119 :: plA 126 40 117 b_x0 y1 :: L) w ∧ SliceR PartT z1 e1 q1 y2 ∧ MapR Value.bool z1 e2 y3 ∧ (F146_j1 fuel x1 y1 y2 y3) = some r) ?_ ?_
 ·skip
  have hS2 := hS1.drew
  have s1 : Sub h (box b1 [.slice o_x2_heap x2_heap.length c_x2_heap, .map o_x2_may] 119 :: anyA :: L) _ := Sub.of (Zone.le_refl _) (hS2.mask (i := 1) rfl)
  refine w_regB (by kernel_rfl) [4, 6] (Sub h (box b1 [.slice o_x2_heap x2_heap.length c_x2_heap, .map o_x2_may] 119 :: anyA :: L)) (by kernel_rfl) ?_
  refine k_seg' 4 [(0, true), (1, true), (3, true)] (by kernel_rfl) (by kernel_rfl) (At.start s1) (by kernel_rfl) ?_
  refine p_qS 3 [.slice o_x2_heap x2_heap.length c_x2_heap, .map o_x2_may] [(0, pB b_x0 0), (1, vI x1), (7, pB b_x0 0), (8, vI x1), (10, .agg #[.slice o_x2_heap x2_heap.length c_x2_heap, .map o_x2_may])] [.cell ⟨b1, 0, none⟩ (.slice o_x2_heap x2_heap.length c_x2_heap), .cell ⟨b1, 1, none⟩ (.map o_x2_may)] [] s1 hf1 (by kernel_rfl) (fun _ s => (.cell (s.box (i := 0) rfl (j := 0) rfl) (.cell (s.box (i := 0) rfl (j := 1) rfl) .nil))) .nil fun a2 hf2 => ?_
  refine p_done (by kernel_rfl) ?_
  intro hA1
  refine k_any' 3 [2, 5] (by kernel_rfl) hA1 (by kernel_rfl) (by kernel_rfl) ?_
  refine (all_cons ?_ (all_cons ?_ all_nil))
  ·skip
   have hS3 := St.swapTo (i := 2) (j := 0) (St.addEmp hS2) rfl rfl (by decide)
   have hS4 : St h (plA 126 40 117 b_x0 x0 :: box b1 [.slice o_x2_heap x2_heap.length c_x2_heap, .map o_x2_may] 119 :: emp :: L) _ := hS3
   obtain ⟨r3, hd1, hr1⟩ := bind_some hr
   refine p_call (i := 2) (d := some 9) (f := 151) (args := #[pB b_x0 0, vI x1]) hf2 (by kernel_rfl) (f151_ok fuel x0 x1 r3 hd1 h _ _ b_x0 hS4 ) ?_
   rintro v1 ww2 a3 ⟨z2, e3, q2, e4, k1, rfl, hS5, hx1, hx2⟩ hf3
   have hS6 := St.swapTo (i := 0) (j := 2) hS5 rfl rfl (by decide)
   have hS7 : St z2 (emp :: box b1 [.slice o_x2_heap x2_heap.length c_x2_heap, .map o_x2_may] 119 :: plA 126 40 117 b_x0 r3.2.2 :: L) _ := hS6
   refine ⟨fun _ => Sub.of k1 ((St.drop 1 hS7).mask (i := 1) rfl), ?_⟩
   refine p_done (by kernel_rfl) ?_
   intro hA2
   have s2 : Sub h (box b1 [.slice o_x2_heap x2_heap.length c_x2_heap, .map o_x2_may] 119 :: anyA :: L) _ := Sub.of k1 ((St.drop 1 hS7).mask (i := 1) rfl)
   refine k_seg' 3 [] (by kernel_rfl) (by kernel_rfl) hA2 (by kernel_rfl) ?_
   refine p_done (by kernel_rfl) ?_
   intro hA3
   refine k_any' 2 [4, 5] (by kernel_rfl) hA3 (by kernel_rfl) (by kernel_rfl) ?_
   refine (all_cons ?_ (all_cons ?_ all_nil))
   ·skip
    obtain ⟨r4, hd2, hr2⟩ := bind_some hr1
    refine p_call (i := 4) (d := some 11) (f := 150) (args := #[.agg #[.slice e3 r3.1.length q2, .map e4], .agg #[.slice o_x2_heap x2_heap.length c_x2_heap, .map o_x2_may]]) hf3 (by kernel_rfl) (f150_ok fuel r3.1 r3.2.1 x2_heap x2_may r4 hd2 z2 _ _ hS7 e3 q2 hx1 e4 hx2 o_x2_heap c_x2_heap (SliceR.mono k1 hx_x2_heap) o_x2_may (MapR.mono k1 hx_x2_may)) ?_
    rintro v2 ww3 a4 ⟨z3, e5, q3, e6, k2, rfl, hS8, hx3, hx4⟩ hf4
    refine ⟨fun e => absurd e (by decide), ?_⟩
    refine p_done (by kernel_rfl) ?_
    intro hA4
    refine k_seg' 0 [(5, false), (6, false)] (by kernel_rfl) (by kernel_rfl) hA4 (by kernel_rfl) ?_
    refine p_box (i := 5) (d := (some 6)) (cs := [.slice none 0 0, .map none]) (T := 119) (v := fun b3 => pB b3 0) hS8 hf4 (fun b => by kernel_rfl) fun b3 ww4 a5 hS9 hf5 => ⟨fun _ => Sub.of (Zone.le_trans k1 k2) ((St.drop 2 hS9).mask (i := 1) rfl), ?_⟩
    have s3 : Sub h (box b1 [.slice o_x2_heap x2_heap.length c_x2_heap, .map o_x2_may] 119 :: anyA :: L) _ := Sub.of (Zone.le_trans k1 k2) ((St.drop 2 hS9).mask (i := 1) rfl)
    refine p_store_eq (i := 6) (j := 0) (b := b3) (off := 0) (vs := [.slice e5 r4.1.length q3, .map e6]) (cs' := [.slice e5 r4.1.length q3, .map e6]) hS9 hf5 rfl (by kernel_rfl) (by kernel_rfl) rfl fun ww5 a6 hS10 hf6 => ⟨fun e => absurd e (by decide), ?_⟩
    refine p_done (by kernel_rfl) ?_
    intro hA5
    refine k_done' (by kernel_rfl) (by kernel_rfl) ?_
    refine n_then ?_
    have hf7 := Fr.keep (ks := [0, 1, 6]) (r := [(0, pB b_x0 0), (1, vI x1), (6, pB b3 0)]) hf6 (by kernel_rfl)
    exact ⟨z3, r3.2.2, r4.1, r4.2, b3, e5, q3, e6, (Zone.le_trans k1 k2), hf7, (St.pick 2 [0] hS10 (by kernel_rfl)), hx3, hx4, hr2⟩
   ·skip
    refine p_box (i := 5) (d := (some 6)) (cs := [.slice none 0 0, .map none]) (T := 119) (v := fun b4 => pB b4 0) hS7 hf3 (fun b => by kernel_rfl) fun b4 ww6 a7 hS11 hf8 => ⟨fun _ => Sub.of k1 ((St.drop 2 hS11).mask (i := 1) rfl), ?_⟩
    refine p_done (by kernel_rfl) ?_
    intro hA6
    have s4 : Sub h (box b1 [.slice o_x2_heap x2_heap.length c_x2_heap, .map o_x2_may] 119 :: anyA :: L) _ := Sub.of k1 ((St.drop 2 hS11).mask (i := 1) rfl)
    refine k_seg' 0 [(4, false), (6, false)] (by kernel_rfl) (by kernel_rfl) hA6 (by kernel_rfl) ?_
    obtain ⟨r5, hd3, hr3⟩ := bind_some hr1
    refine p_call (i := 4) (d := some 11) (f := 150) (args := #[.agg #[.slice e3 r3.1.length q2, .map e4], .agg #[.slice o_x2_heap x2_heap.length c_x2_heap, .map o_x2_may]]) hf8 (by kernel_rfl) (f150_ok fuel r3.1 r3.2.1 x2_heap x2_may r5 hd3 z2 _ _ hS11 e3 q2 hx1 e4 hx2 o_x2_heap c_x2_heap (SliceR.mono k1 hx_x2_heap) o_x2_may (MapR.mono k1 hx_x2_may)) ?_
    rintro v3 ww7 a8 ⟨z4, e7, q4, e8, k3, rfl, hS12, hx5, hx6⟩ hf9
    refine ⟨fun e => absurd e (by decide), ?_⟩
    refine p_store_eq (i := 6) (j := 0) (b := b4) (off := 0) (vs := [.slice e7 r5.1.length q4, .map e8]) (cs' := [.slice e7 r5.1.length q4, .map e8]) hS12 hf9 rfl (by kernel_rfl) (by kernel_rfl) rfl fun ww8 a9 hS13 hf10 => ⟨fun e => absurd e (by decide), ?_⟩
    refine p_done (by kernel_rfl) ?_
    intro hA7
    refine k_done' (by kernel_rfl) (by kernel_rfl) ?_
    refine n_then ?_
    have hf11 := Fr.keep (ks := [0, 1, 6]) (r := [(0, pB b_x0 0), (1, vI x1), (6, pB b4 0)]) hf10 (by kernel_rfl)
    exact ⟨z4, r3.2.2, r5.1, r5.2, b4, e7, q4, e8, (Zone.le_trans k1 k3), hf11, (St.pick 2 [0] hS13 (by kernel_rfl)), hx5, hx6, hr3⟩
  ·skip
   refine p_box (i := 5) (d := (some 6)) (cs := [.slice none 0 0, .map none]) (T := 119) (v := fun b5 => pB b5 0) hS2 hf2 (fun b => by kernel_rfl) fun b5 ww9 a10 hS14 hf12 => ⟨fun _ => Sub.of (Zone.le_refl _) ((St.drop 1 hS14).mask (i := 1) rfl), ?_⟩
   refine p_done (by kernel_rfl) ?_
   intro hA8
   have s5 : Sub h (box b1 [.slice o_x2_heap x2_heap.length c_x2_heap, .map o_x2_may] 119 :: anyA :: L) _ := Sub.of (Zone.le_refl _) ((St.drop 1 hS14).mask (i := 1) rfl)
   refine k_seg' 0 [(2, false), (4, false), (6, false)] (by kernel_rfl) (by kernel_rfl) hA8 (by kernel_rfl) ?_
   have hS15 := St.swapTo (i := 3) (j := 0) (St.addEmp hS14) rfl rfl (by decide)
   have hS16 : St h (plA 126 40 117 b_x0 x0 :: box b5 [.slice none 0 0, .map none] 119 :: box b1 [.slice o_x2_heap x2_heap.length c_x2_heap, .map o_x2_may] 119 :: emp :: L) _ := hS15
   obtain ⟨r6, hd4, hr4⟩ := bind_some hr
   refine p_call (i := 2) (d := some 9) (f := 151) (args := #[pB b_x0 0, vI x1]) hf12 (by kernel_rfl) (f151_ok fuel x0 x1 r6 hd4 h _ _ b_x0 hS16 ) ?_
   rintro v4 ww10 a11 ⟨z5, e9, q5, e10, k4, rfl, hS17, hx7, hx8⟩ hf13
   have hS18 := St.swapTo (i := 0) (j := 3) hS17 rfl rfl (by decide)
   have hS19 : St z5 (emp :: box b5 [.slice none 0 0, .map none] 119 :: box b1 [.slice o_x2_heap x2_heap.length c_x2_heap, .map o_x2_may] 119 :: plA 126 40 117 b_x0 r6.2.2 :: L) _ := hS18
   refine ⟨fun _ => Sub.of k4 ((St.drop 2 hS19).mask (i := 1) rfl), ?_⟩
   have s6 : Sub h (box b1 [.slice o_x2_heap x2_heap.length c_x2_heap, .map o_x2_may] 119 :: anyA :: L) _ := Sub.of k4 ((St.drop 2 hS19).mask (i := 1) rfl)
   obtain ⟨r7, hd5, hr5⟩ := bind_some hr4
   refine p_call (i := 4) (d := some 11) (f := 150) (args := #[.agg #[.slice e9 r6.1.length q5, .map e10], .agg #[.slice o_x2_heap x2_heap.length c_x2_heap, .map o_x2_may]]) hf13 (by kernel_rfl) (f150_ok fuel r6.1 r6.2.1 x2_heap x2_may r7 hd5 z5 _ _ hS19 e9 q5 hx7 e10 hx8 o_x2_heap c_x2_heap (SliceR.mono k4 hx_x2_heap) o_x2_may (MapR.mono k4 hx_x2_may)) ?_
   rintro v5 ww11 a12 ⟨z6, e11, q6, e12, k5, rfl, hS20, hx9, hx10⟩ hf14
   refine ⟨fun e => absurd e (by decide), ?_⟩
   refine p_store_eq (i := 6) (j := 1) (b := b5) (off := 0) (vs := [.slice e11 r7.1.length q6, .map e12]) (cs' := [.slice e11 r7.1.length q6, .map e12]) hS20 hf14 rfl (by kernel_rfl) (by kernel_rfl) rfl fun ww12 a13 hS21 hf15 => ⟨fun e => absurd e (by decide), ?_⟩
   refine p_done (by kernel_rfl) ?_
   intro hA9
   refine k_done' (by kernel_rfl) (by kernel_rfl) ?_
   refine n_then ?_
   have hf16 := Fr.keep (ks := [0, 1, 6]) (r := [(0, pB b_x0 0), (1, vI x1), (6, pB b5 0)]) hf15 (by kernel_rfl)
   exact ⟨z6, r6.2.2, r7.1, r7.2, b5, e11, q6, e12, (Zone.le_trans k4 k5), hf16, (St.pick 2 [1] hS21 (by kernel_rfl)), hx9, hx10, hr5⟩
 ·rintro a14 ww13 ⟨z1, y1, y2, y3, b2, e1, q1, e2, k6, hf17, hS22, hx11, hx12, hr6⟩
  refine w_sr (by kernel_rfl) ?_
  refine p_qn 2 [] [(0, pB b_x0 0), (1, vI x1), (6, pB b2 0), (12, pB b_x0 0), (13, vI x1)] [] hf17 (by kernel_rfl) .nil fun a15 hf18 => ?_
  have hS23 := St.swapTo (i := 3) (j := 0) (St.addEmp hS22) rfl rfl (by decide)
  have hS24 : St z1 (plA 126 40 117 b_x0 y1 :: box b2 [.slice e1 y2.length q1, .map e2] 119 :: box b1 [.slice o_x2_heap x2_heap.length c_x2_heap, .map o_x2_may] 119 :: emp :: L) _ := hS23
  obtain ⟨r1, hd6, hr7⟩ := bind_some hr6
  refine p_call (i := 2) (d := some 14) (f := 152) (args := #[pB b_x0 0, vI x1]) hf18 (by kernel_rfl) (f152_ok fuel y1 x1 r1 hd6 z1 _ _ b_x0 hS24 ) ?_
  rintro v6 ww14 a16 ⟨z7, k7, rfl, hS25⟩ hf19
  have hS26 := St.swapTo (i := 0) (j := 3) hS25 rfl rfl (by decide)
  have hS27 : St z7 (emp :: box b2 [.slice e1 y2.length q1, .map e2] 119 :: box b1 [.slice o_x2_heap x2_heap.length c_x2_heap, .map o_x2_may] 119 :: plA 126 40 117 b_x0 r1 :: L) _ := hS26
  refine ⟨fun _ => trivial, ?_⟩
  refine p_dt (by kernel_rfl) ?_
  refine w_reg (by kernel_rfl) ?_
  refine p_qn 3 [.slice e1 y2.length q1, .map e2] [(15, pB b_x0 0), (16, vI x1), (17, .agg #[.slice e1 y2.length q1, .map e2])] [.cell ⟨b2, 0, none⟩ (.slice e1 y2.length q1), .cell ⟨b2, 1, none⟩ (.map e2)] hf19 (by kernel_rfl) (.cell (hS27.box (i := 1) rfl (j := 0) rfl) (.cell (hS27.box (i := 1) rfl (j := 1) rfl) .nil)) fun a17 hf20 => ?_
  have hS28 := St.swapTo (i := 4) (j := 0) (St.addEmp hS27) rfl rfl (by decide)
  have hS29 : St z7 (plA 126 40 117 b_x0 r1 :: emp :: box b2 [.slice e1 y2.length q1, .map e2] 119 :: box b1 [.slice o_x2_heap x2_heap.length c_x2_heap, .map o_x2_may] 119 :: emp :: L) _ := hS28
  obtain ⟨r2, hd7, hr8⟩ := bind_some hr7
  refine p_call (i := 3) (d := some 18) (f := 148) (args := #[pB b_x0 0, vI x1, .agg #[.slice e1 y2.length q1, .map e2]]) hf20 (by kernel_rfl) (f148_ok fuel r1 x1 y2 y3 r2 hd7 z7 _ _ b_x0 hS29 e1 q1 (SliceR.mono k7 hx11) e2 (MapR.mono k7 hx12)) ?_
  rintro v7 ww15 a18 ⟨z8, k8, rfl, hS30⟩ hf21
  have hS31 := St.swapTo (i := 0) (j := 4) hS30 rfl rfl (by decide)
  have hS32 : St z8 (emp :: emp :: box b2 [.slice e1 y2.length q1, .map e2] 119 :: box b1 [.slice o_x2_heap x2_heap.length c_x2_heap, .map o_x2_may] 119 :: plA 126 40 117 b_x0 r2 :: L) _ := hS31
  refine ⟨fun _ => trivial, ?_⟩
  refine p_done (by kernel_rfl) ?_
  refine p_fall (os := []) (v := .tuple #[]) (obs := []) hf21 (by kernel_rfl) .nil ?_
  obtain rfl := some_eq hr8
  exact ⟨_, rfl, z8, (Zone.le_trans (Zone.le_trans k6 k7) k8), rfl, (St.pick 5 [4] hS32 (by kernel_rfl))⟩
def F147 (fuel : Nat) (x0_kind : Int) (x0_lot : Int) (x0_from : Int) (x0_to : Int) (x0_mass : Int) : Option (List Part × List (Int × Bool)) :=
  (some ([⟨x0_lot, x0_mass⟩], (putK ([]) x0_lot true)))
set_option maxRecDepth 100000 in
theorem f147_ok (fuel : Nat) (x0_kind : Int) (x0_lot : Int) (x0_from : Int) (x0_to : Int) (x0_mass : Int) (r : List Part × List (Int × Bool)) (hr : F147 fuel x0_kind x0_lot x0_from x0_to x0_mass = some r) (h : Zone) (L : List Atom) (w : World) (hS : St h L w)  :
    Calls Try.prog 147 #[.agg #[vI x0_kind, vI x0_lot, vI x0_from, vI x0_to, vI x0_mass]] w fun e w' => ∃ v, e = .returned v ∧ (∃ h', ∃ o0 : Option Addr, ∃ c0 : Nat, ∃ o1 : Option Nat, Zone.le h h' ∧ v = .agg #[.slice o0 r.1.length c0, .map o1] ∧ St h' L w' ∧ SliceR PartT h' o0 c0 r.1 ∧ MapR Value.bool h' o1 r.2) := by
 refine calls_intro (N := 15) Try.func147 (by kernel_rfl) fun a hf => ?_
 refine w_sr (by kernel_rfl) ?_
 refine p_box (i := 0) (d := (some 1)) (cs := [vI x0_kind, vI x0_lot, vI x0_from, vI x0_to, vI x0_mass]) (T := 28) (v := fun b1 => pB b1 0) hS hf (fun b => by kernel_rfl) fun b1 ww1 a1 hS1 hf1 => ⟨fun _ => trivial, ?_⟩
 refine p_box (i := 1) (d := (some 2)) (cs := [.slice none 0 0, .map none]) (T := 119) (v := fun b2 => pB b2 0) hS1 hf1 (fun b => by kernel_rfl) fun b2 ww2 a2 hS2 hf2 => ⟨fun _ => trivial, ?_⟩
 refine p_dt (by kernel_rfl) ?_
 refine w_sr (by kernel_rfl) ?_
 refine p_qn 5 [vI x0_lot, vI x0_mass] [(1, pB b1 0), (2, pB b2 0), (7, .agg #[vI x0_lot, vI x0_mass])] [.cell ⟨b1, 1, none⟩ (vI x0_lot), .cell ⟨b1, 4, none⟩ (vI x0_mass)] hf2 (by kernel_rfl) (.cell (hS2.box (i := 1) rfl (j := 1) rfl) (.cell (hS2.box (i := 1) rfl (j := 4) rfl) .nil)) fun a3 hf3 => ?_
 refine p_box (i := 5) (d := (some 8)) (cs := [vI x0_lot, vI x0_mass]) (T := 56) (v := fun b3 => .slice (some ⟨b3, 0, none⟩) 1 1) hS2 hf3 (fun b => by kernel_rfl) fun b3 ww3 a4 hS3 hf4 => ⟨fun _ => trivial, ?_⟩
 have hS4 := hS3.ownBox (T := PartT) (E := 56) (n := 1) (xs := [⟨x0_lot, x0_mass⟩]) (i := 0) rfl (Rows.cons (c := [vI x0_lot, vI x0_mass]) rfl rfl) rfl (by decide)
 refine p_qn 1 [] [(1, pB b1 0), (2, pB b2 0), (9, .agg #[.slice (some ⟨b3, 0, none⟩) 1 1])] [] hf4 (by kernel_rfl) .nil fun a5 hf5 => ?_
 refine p_makeMap (i := 7) (d := (some 10)) Value.bool hS4 hf5 (fun b => by kernel_rfl) fun b4 ww4 a6 hS5 hf6 => ⟨fun _ => trivial, ?_⟩
 refine p_qn 2 [vI x0_lot] [(2, pB b2 0), (9, .agg #[.slice (some ⟨b3, 0, none⟩) 1 1]), (10, .map (some b4)), (12, vI x0_lot)] [.cell ⟨b1, 1, none⟩ (vI x0_lot)] hf6 (by kernel_rfl) (.cell (hS5.box (i := 3) rfl (j := 1) rfl) .nil) fun a7 hf7 => ?_
 refine p_put (i := 10) (j := 0) (t := 117) (r := b4) (k := x0_lot) (v := true) hS5 hf7 rfl (by kernel_rfl) mp117 fun ww5 a8 hS6 hf8 => ⟨fun _ => trivial, ?_⟩
 refine p_qn 2 [] [(2, pB b2 0), (14, .agg #[.slice (some ⟨b3, 0, none⟩) 1 1, .map (some b4)])] [] hf8 (by kernel_rfl) .nil fun a9 hf9 => ?_
 refine p_store_eq (i := 13) (j := 2) (b := b2) (off := 0) (vs := [.slice (some ⟨b3, 0, none⟩) 1 1, .map (some b4)]) (cs' := [.slice (some ⟨b3, 0, none⟩) 1 1, .map (some b4)]) hS6 hf9 rfl (by kernel_rfl) (by kernel_rfl) rfl fun ww6 a10 hS7 hf10 => ⟨fun _ => trivial, ?_⟩
 refine p_dt (by kernel_rfl) ?_
 refine w_ret (by kernel_rfl) ?_
 obtain ⟨z1, k1, hS8, hx1⟩ := hS7.share (j := 1) rfl
 obtain ⟨z2, k2, hS9, hx2⟩ := hS8.mapShare (j := 0) rfl
 refine p_ret (os := [.slice (some ⟨b3, 0, none⟩) 1 1, .map (some b4)]) (v := .agg #[.slice (some ⟨b3, 0, none⟩) 1 1, .map (some b4)]) (obs := [.cell ⟨b2, 0, none⟩ (.slice (some ⟨b3, 0, none⟩) 1 1), .cell ⟨b2, 1, none⟩ (.map (some b4))]) hf10 (by kernel_rfl) (.cell (hS9.box (i := 2) rfl (j := 0) rfl) (.cell (hS9.box (i := 2) rfl (j := 1) rfl) .nil)) ?_
 obtain rfl := some_eq hr
 exact ⟨_, rfl, z2, (some ⟨b3, 0, none⟩), 1, (some b4), (Zone.le_trans k1 k2), rfl, (St.drop 4 hS9), (SliceR.mono k2 hx1), hx2⟩
def F138 (fuel : Nat) (x0 : Pl) (x1_kind : Int) (x1_lot : Int) (x1_from : Int) (x1_to : Int) (x1_mass : Int) : Option (List Part × List (Int × Bool) × Pl) :=
  ((F147 fuel x1_kind x1_lot x1_from x1_to x1_mass).bind fun r1 => ((F146 fuel x0 x1_to r1.1 r1.2).bind fun r2 => ((F147 fuel x1_kind x1_lot x1_from x1_to x1_mass).bind fun r3 => (some (r3.1, r3.2, r2)))))
set_option maxRecDepth 100000 in
theorem f138_ok (fuel : Nat) (x0 : Pl) (x1_kind : Int) (x1_lot : Int) (x1_from : Int) (x1_to : Int) (x1_mass : Int) (r : List Part × List (Int × Bool) × Pl) (hr : F138 fuel x0 x1_kind x1_lot x1_from x1_to x1_mass = some r) (h : Zone) (L : List Atom) (w : World) (b_x0 : Nat) (hS : St h (plA 126 40 117 b_x0 x0 :: L) w)  :
    Calls Try.prog 138 #[pB b_x0 0, .agg #[vI x1_kind, vI x1_lot, vI x1_from, vI x1_to, vI x1_mass]] w fun e w' => ∃ v, e = .returned v ∧ (∃ h', ∃ o0 : Option Addr, ∃ c0 : Nat, ∃ o1 : Option Nat, Zone.le h h' ∧ v = .agg #[.slice o0 r.1.length c0, .map o1] ∧ St h' (plA 126 40 117 b_x0 r.2.2 :: L) w' ∧ SliceR PartT h' o0 c0 r.1 ∧ MapR Value.bool h' o1 r.2.1) := by
 refine calls_intro (N := 13) Try.func138 (by kernel_rfl) fun a hf => ?_
 refine w_sr (by kernel_rfl) ?_
 refine p_box (i := 0) (d := (some 3)) (cs := [vI x1_kind, vI x1_lot, vI x1_from, vI x1_to, vI x1_mass]) (T := 28) (v := fun b1 => pB b1 0) hS hf (fun b => by kernel_rfl) fun b1 ww1 a1 hS1 hf1 => ⟨fun _ => trivial, ?_⟩
 refine p_box (i := 1) (d := (some 4)) (cs := [.slice none 0 0, .map none]) (T := 119) (v := fun b2 => pB b2 0) hS1 hf1 (fun b => by kernel_rfl) fun b2 ww2 a2 hS2 hf2 => ⟨fun _ => trivial, ?_⟩
 refine p_dt (by kernel_rfl) ?_
 refine w_seq (by kernel_rfl) ?_
 have hS3 := hS2.drew
 have s1 : Sub h (box b2 [.slice none 0 0, .map none] 119 :: box b1 [vI x1_kind, vI x1_lot, vI x1_from, vI x1_to, vI x1_mass] 28 :: plA 126 40 117 b_x0 x0 :: L) _ := Sub.of (Zone.le_refl _) hS3
 refine w_regD (by kernel_rfl) [(0, true), (1, true), (2, true), (3, true), (4, false), (5, false)] [5] (Sub h (box b2 [.slice none 0 0, .map none] 119 :: box b1 [vI x1_kind, vI x1_lot, vI x1_from, vI x1_to, vI x1_mass] 28 :: plA 126 40 117 b_x0 x0 :: L)) (by kernel_rfl) s1 ?_
 refine p_qS 4 [vI x1_to, vI x1_kind, vI x1_lot, vI x1_from, vI x1_to, vI x1_mass] [(3, pB b1 0), (4, pB b2 0), (5, pB b_x0 0), (7, vI x1_to), (8, .agg #[vI x1_kind, vI x1_lot, vI x1_from, vI x1_to, vI x1_mass])] [.cell ⟨b1, 3, none⟩ (vI x1_to), .cell ⟨b1, 0, none⟩ (vI x1_kind), .cell ⟨b1, 1, none⟩ (vI x1_lot), .cell ⟨b1, 2, none⟩ (vI x1_from), .cell ⟨b1, 3, none⟩ (vI x1_to), .cell ⟨b1, 4, none⟩ (vI x1_mass)] [] s1 hf2 (by kernel_rfl) (fun _ s => (.cell (s.box (i := 1) rfl (j := 3) rfl) (.cell (s.box (i := 1) rfl (j := 0) rfl) (.cell (s.box (i := 1) rfl (j := 1) rfl) (.cell (s.box (i := 1) rfl (j := 2) rfl) (.cell (s.box (i := 1) rfl (j := 3) rfl) (.cell (s.box (i := 1) rfl (j := 4) rfl) .nil))))))) .nil fun a3 hf3 => ?_
 obtain ⟨r1, hd1, hr1⟩ := bind_some hr
 refine p_call (i := 4) (d := some 9) (f := 147) (args := #[.agg #[vI x1_kind, vI x1_lot, vI x1_from, vI x1_to, vI x1_mass]]) hf3 (by kernel_rfl) (f147_ok fuel x1_kind x1_lot x1_from x1_to x1_mass r1 hd1 h _ _ hS3 ) ?_
 rintro v1 ww3 a4 ⟨z1, e1, q1, e2, k1, rfl, hS4, hx1, hx2⟩ hf4
 refine ⟨fun _ => Sub.of k1 hS4, ?_⟩
 have s2 : Sub h (box b2 [.slice none 0 0, .map none] 119 :: box b1 [vI x1_kind, vI x1_lot, vI x1_from, vI x1_to, vI x1_mass] 28 :: plA 126 40 117 b_x0 x0 :: L) _ := Sub.of k1 hS4
 have hS5 := St.swapTo (i := 3) (j := 0) (St.addEmp hS4) rfl rfl (by decide)
 have hS6 : St z1 (plA 126 40 117 b_x0 x0 :: box b2 [.slice none 0 0, .map none] 119 :: box b1 [vI x1_kind, vI x1_lot, vI x1_from, vI x1_to, vI x1_mass] 28 :: emp :: L) _ := hS5
 obtain ⟨r2, hd2, hr2⟩ := bind_some hr1
 refine p_call (i := 5) (d := some 10) (f := 146) (args := #[pB b_x0 0, vI x1_to, .agg #[.slice e1 r1.1.length q1, .map e2]]) hf4 (by kernel_rfl) (f146_ok fuel x0 x1_to r1.1 r1.2 r2 hd2 z1 _ _ b_x0 hS6 e1 q1 hx1 e2 hx2) ?_
 rintro v2 ww4 a5 ⟨z2, k2, rfl, hS7⟩ hf5
 have hS8 := St.swapTo (i := 0) (j := 3) hS7 rfl rfl (by decide)
 have hS9 : St z2 (emp :: box b2 [.slice none 0 0, .map none] 119 :: box b1 [vI x1_kind, vI x1_lot, vI x1_from, vI x1_to, vI x1_mass] 28 :: plA 126 40 117 b_x0 r2 :: L) _ := hS8
 refine ⟨fun e => absurd e (by decide), ?_⟩
 refine p_dt (by kernel_rfl) ?_
 refine w_sr (by kernel_rfl) ?_
 refine p_qn 1 [vI x1_kind, vI x1_lot, vI x1_from, vI x1_to, vI x1_mass] [(4, pB b2 0), (11, .agg #[vI x1_kind, vI x1_lot, vI x1_from, vI x1_to, vI x1_mass])] [.cell ⟨b1, 0, none⟩ (vI x1_kind), .cell ⟨b1, 1, none⟩ (vI x1_lot), .cell ⟨b1, 2, none⟩ (vI x1_from), .cell ⟨b1, 3, none⟩ (vI x1_to), .cell ⟨b1, 4, none⟩ (vI x1_mass)] hf5 (by kernel_rfl) (.cell (hS9.box (i := 2) rfl (j := 0) rfl) (.cell (hS9.box (i := 2) rfl (j := 1) rfl) (.cell (hS9.box (i := 2) rfl (j := 2) rfl) (.cell (hS9.box (i := 2) rfl (j := 3) rfl) (.cell (hS9.box (i := 2) rfl (j := 4) rfl) .nil))))) fun a6 hf6 => ?_
 obtain ⟨r3, hd3, hr3⟩ := bind_some hr2
 refine p_call (i := 1) (d := some 12) (f := 147) (args := #[.agg #[vI x1_kind, vI x1_lot, vI x1_from, vI x1_to, vI x1_mass]]) hf6 (by kernel_rfl) (f147_ok fuel x1_kind x1_lot x1_from x1_to x1_mass r3 hd3 z2 _ _ hS9 ) ?_
 rintro v3 ww5 a7 ⟨z3, e3, q2, e4, k3, rfl, hS10, hx3, hx4⟩ hf7
 refine ⟨fun _ => trivial, ?_⟩
 refine p_store_eq (i := 2) (j := 1) (b := b2) (off := 0) (vs := [.slice e3 r3.1.length q2, .map e4]) (cs' := [.slice e3 r3.1.length q2, .map e4]) hS10 hf7 rfl (by kernel_rfl) (by kernel_rfl) rfl fun ww6 a8 hS11 hf8 => ⟨fun _ => trivial, ?_⟩
 refine p_dt (by kernel_rfl) ?_
 refine w_ret (by kernel_rfl) ?_
 refine p_ret (os := [.slice e3 r3.1.length q2, .map e4]) (v := .agg #[.slice e3 r3.1.length q2, .map e4]) (obs := [.cell ⟨b2, 0, none⟩ (.slice e3 r3.1.length q2), .cell ⟨b2, 1, none⟩ (.map e4)]) hf8 (by kernel_rfl) (.cell (hS11.box (i := 1) rfl (j := 0) rfl) (.cell (hS11.box (i := 1) rfl (j := 1) rfl) .nil)) ?_
 obtain rfl := some_eq hr3
 exact ⟨_, rfl, z3, e3, q2, e4, (Zone.le_trans (Zone.le_trans k1 k2) k3), rfl, (St.pick 4 [3] hS11 (by kernel_rfl)), hx3, hx4⟩
def F139 (fuel : Nat) (x0 : Pl) (x1_kind : Int) (x1_lot : Int) (x1_from : Int) (x1_to : Int) (x1_mass : Int) : Option (List Part × List (Int × Bool) × Pl) :=
  ((F147 fuel x1_kind x1_lot x1_from x1_to x1_mass).bind fun r1 => ((F148 fuel x0 x1_to r1.1 r1.2).bind fun r2 => ((F147 fuel x1_kind x1_lot x1_from x1_to x1_mass).bind fun r3 => (some (r3.1, r3.2, r2)))))
set_option maxRecDepth 100000 in
theorem f139_ok (fuel : Nat) (x0 : Pl) (x1_kind : Int) (x1_lot : Int) (x1_from : Int) (x1_to : Int) (x1_mass : Int) (r : List Part × List (Int × Bool) × Pl) (hr : F139 fuel x0 x1_kind x1_lot x1_from x1_to x1_mass = some r) (h : Zone) (L : List Atom) (w : World) (b_x0 : Nat) (hS : St h (plA 126 40 117 b_x0 x0 :: L) w)  :
    Calls Try.prog 139 #[pB b_x0 0, .agg #[vI x1_kind, vI x1_lot, vI x1_from, vI x1_to, vI x1_mass]] w fun e w' => ∃ v, e = .returned v ∧ (∃ h', ∃ o0 : Option Addr, ∃ c0 : Nat, ∃ o1 : Option Nat, Zone.le h h' ∧ v = .agg #[.slice o0 r.1.length c0, .map o1] ∧ St h' (plA 126 40 117 b_x0 r.2.2 :: L) w' ∧ SliceR PartT h' o0 c0 r.1 ∧ MapR Value.bool h' o1 r.2.1) := by
 refine calls_intro (N := 13) Try.func139 (by kernel_rfl) fun a hf => ?_
 refine w_sr (by kernel_rfl) ?_
 refine p_box (i := 0) (d := (some 3)) (cs := [vI x1_kind, vI x1_lot, vI x1_from, vI x1_to, vI x1_mass]) (T := 28) (v := fun b1 => pB b1 0) hS hf (fun b => by kernel_rfl) fun b1 ww1 a1 hS1 hf1 => ⟨fun _ => trivial, ?_⟩
 refine p_box (i := 1) (d := (some 4)) (cs := [.slice none 0 0, .map none]) (T := 119) (v := fun b2 => pB b2 0) hS1 hf1 (fun b => by kernel_rfl) fun b2 ww2 a2 hS2 hf2 => ⟨fun _ => trivial, ?_⟩
 refine p_dt (by kernel_rfl) ?_
 refine w_seq (by kernel_rfl) ?_
 have hS3 := hS2.drew
 have s1 : Sub h (box b2 [.slice none 0 0, .map none] 119 :: box b1 [vI x1_kind, vI x1_lot, vI x1_from, vI x1_to, vI x1_mass] 28 :: plA 126 40 117 b_x0 x0 :: L) _ := Sub.of (Zone.le_refl _) hS3
 refine w_regD (by kernel_rfl) [(0, true), (1, true), (2, true), (3, true), (4, false), (5, false)] [5] (Sub h (box b2 [.slice none 0 0, .map none] 119 :: box b1 [vI x1_kind, vI x1_lot, vI x1_from, vI x1_to, vI x1_mass] 28 :: plA 126 40 117 b_x0 x0 :: L)) (by kernel_rfl) s1 ?_
 refine p_qS 4 [vI x1_to, vI x1_kind, vI x1_lot, vI x1_from, vI x1_to, vI x1_mass] [(3, pB b1 0), (4, pB b2 0), (5, pB b_x0 0), (7, vI x1_to), (8, .agg #[vI x1_kind, vI x1_lot, vI x1_from, vI x1_to, vI x1_mass])] [.cell ⟨b1, 3, none⟩ (vI x1_to), .cell ⟨b1, 0, none⟩ (vI x1_kind), .cell ⟨b1, 1, none⟩ (vI x1_lot), .cell ⟨b1, 2, none⟩ (vI x1_from), .cell ⟨b1, 3, none⟩ (vI x1_to), .cell ⟨b1, 4, none⟩ (vI x1_mass)] [] s1 hf2 (by kernel_rfl) (fun _ s => (.cell (s.box (i := 1) rfl (j := 3) rfl) (.cell (s.box (i := 1) rfl (j := 0) rfl) (.cell (s.box (i := 1) rfl (j := 1) rfl) (.cell (s.box (i := 1) rfl (j := 2) rfl) (.cell (s.box (i := 1) rfl (j := 3) rfl) (.cell (s.box (i := 1) rfl (j := 4) rfl) .nil))))))) .nil fun a3 hf3 => ?_
 obtain ⟨r1, hd1, hr1⟩ := bind_some hr
 refine p_call (i := 4) (d := some 9) (f := 147) (args := #[.agg #[vI x1_kind, vI x1_lot, vI x1_from, vI x1_to, vI x1_mass]]) hf3 (by kernel_rfl) (f147_ok fuel x1_kind x1_lot x1_from x1_to x1_mass r1 hd1 h _ _ hS3 ) ?_
 rintro v1 ww3 a4 ⟨z1, e1, q1, e2, k1, rfl, hS4, hx1, hx2⟩ hf4
 refine ⟨fun _ => Sub.of k1 hS4, ?_⟩
 have s2 : Sub h (box b2 [.slice none 0 0, .map none] 119 :: box b1 [vI x1_kind, vI x1_lot, vI x1_from, vI x1_to, vI x1_mass] 28 :: plA 126 40 117 b_x0 x0 :: L) _ := Sub.of k1 hS4
 have hS5 := St.swapTo (i := 3) (j := 0) (St.addEmp hS4) rfl rfl (by decide)
 have hS6 : St z1 (plA 126 40 117 b_x0 x0 :: box b2 [.slice none 0 0, .map none] 119 :: box b1 [vI x1_kind, vI x1_lot, vI x1_from, vI x1_to, vI x1_mass] 28 :: emp :: L) _ := hS5
 obtain ⟨r2, hd2, hr2⟩ := bind_some hr1
 refine p_call (i := 5) (d := some 10) (f := 148) (args := #[pB b_x0 0, vI x1_to, .agg #[.slice e1 r1.1.length q1, .map e2]]) hf4 (by kernel_rfl) (f148_ok fuel x0 x1_to r1.1 r1.2 r2 hd2 z1 _ _ b_x0 hS6 e1 q1 hx1 e2 hx2) ?_
 rintro v2 ww4 a5 ⟨z2, k2, rfl, hS7⟩ hf5
 have hS8 := St.swapTo (i := 0) (j := 3) hS7 rfl rfl (by decide)
 have hS9 : St z2 (emp :: box b2 [.slice none 0 0, .map none] 119 :: box b1 [vI x1_kind, vI x1_lot, vI x1_from, vI x1_to, vI x1_mass] 28 :: plA 126 40 117 b_x0 r2 :: L) _ := hS8
 refine ⟨fun e => absurd e (by decide), ?_⟩
 refine p_dt (by kernel_rfl) ?_
 refine w_sr (by kernel_rfl) ?_
 refine p_qn 1 [vI x1_kind, vI x1_lot, vI x1_from, vI x1_to, vI x1_mass] [(4, pB b2 0), (11, .agg #[vI x1_kind, vI x1_lot, vI x1_from, vI x1_to, vI x1_mass])] [.cell ⟨b1, 0, none⟩ (vI x1_kind), .cell ⟨b1, 1, none⟩ (vI x1_lot), .cell ⟨b1, 2, none⟩ (vI x1_from), .cell ⟨b1, 3, none⟩ (vI x1_to), .cell ⟨b1, 4, none⟩ (vI x1_mass)] hf5 (by kernel_rfl) (.cell (hS9.box (i := 2) rfl (j := 0) rfl) (.cell (hS9.box (i := 2) rfl (j := 1) rfl) (.cell (hS9.box (i := 2) rfl (j := 2) rfl) (.cell (hS9.box (i := 2) rfl (j := 3) rfl) (.cell (hS9.box (i := 2) rfl (j := 4) rfl) .nil))))) fun a6 hf6 => ?_
 obtain ⟨r3, hd3, hr3⟩ := bind_some hr2
 refine p_call (i := 1) (d := some 12) (f := 147) (args := #[.agg #[vI x1_kind, vI x1_lot, vI x1_from, vI x1_to, vI x1_mass]]) hf6 (by kernel_rfl) (f147_ok fuel x1_kind x1_lot x1_from x1_to x1_mass r3 hd3 z2 _ _ hS9 ) ?_
 rintro v3 ww5 a7 ⟨z3, e3, q2, e4, k3, rfl, hS10, hx3, hx4⟩ hf7
 refine ⟨fun _ => trivial, ?_⟩
 refine p_store_eq (i := 2) (j := 1) (b := b2) (off := 0) (vs := [.slice e3 r3.1.length q2, .map e4]) (cs' := [.slice e3 r3.1.length q2, .map e4]) hS10 hf7 rfl (by kernel_rfl) (by kernel_rfl) rfl fun ww6 a8 hS11 hf8 => ⟨fun _ => trivial, ?_⟩
 refine p_dt (by kernel_rfl) ?_
 refine w_ret (by kernel_rfl) ?_
 refine p_ret (os := [.slice e3 r3.1.length q2, .map e4]) (v := .agg #[.slice e3 r3.1.length q2, .map e4]) (obs := [.cell ⟨b2, 0, none⟩ (.slice e3 r3.1.length q2), .cell ⟨b2, 1, none⟩ (.map e4)]) hf8 (by kernel_rfl) (.cell (hS11.box (i := 1) rfl (j := 0) rfl) (.cell (hS11.box (i := 1) rfl (j := 1) rfl) .nil)) ?_
 obtain rfl := some_eq hr3
 exact ⟨_, rfl, z3, e3, q2, e4, (Zone.le_trans (Zone.le_trans k1 k2) k3), rfl, (St.pick 4 [3] hS11 (by kernel_rfl)), hx3, hx4⟩
def F140_l1 (fuel : Nat) (x1_from : Int) : Nat → Pl → (List Part) → (List (Int × Bool)) → Int → Option (List Part × List (Int × Bool) × Pl)
  | 0, _, _, _, _ => none
  | n1 + 1, y1, y2, y3, y4 =>
    let k1 : Pl → (List Part) → (List (Int × Bool)) → Int → Option (List Part × List (Int × Bool) × Pl) := F140_l1 fuel x1_from n1
    ((getI y1.holds x1_from).bind fun p1 => (cond (decide ((p1.length : Int) > (0 : Int))) ((F151 fuel y1 x1_from).bind fun r1 => ((F152 fuel r1.2.2 x1_from).bind fun r2 => ((F90 fuel r1.1).bind fun r3 => ((F91 fuel r1.1 (if r3 < y4 then r3 else y4)).bind fun r4 => ((F150 fuel y2 y3 r4.1 r1.2.1).bind fun r5 => (cond ((w64 (y4 - (if r3 < y4 then r3 else y4))) == (0 : Int)) ((F148 fuel r2 x1_from r4.2 r1.2.1).bind fun r6 => (some (r5.1, r5.2, r6))) (k1 r2 r5.1 r5.2 (w64 (y4 - (if r3 < y4 then r3 else y4)))))))))) (some (y2, y3, y1))))
def F140_j1 (fuel : Nat) (x0 : Pl) (x1_from : Int) (x1_mass : Int) : Option (List Part × List (Int × Bool) × Pl) :=
  (F140_l1 fuel x1_from fuel x0 ([]) ([]) x1_mass)
def F140 (fuel : Nat) (x0 : Pl) (x1_kind : Int) (x1_lot : Int) (x1_from : Int) (x1_to : Int) (x1_mass : Int) : Option (List Part × List (Int × Bool) × Pl) :=
  (F140_j1 fuel x0 x1_from x1_mass)
set_option maxRecDepth 100000 in
theorem f140_ok (fuel : Nat) (x0 : Pl) (x1_kind : Int) (x1_lot : Int) (x1_from : Int) (x1_to : Int) (x1_mass : Int) (r : List Part × List (Int × Bool) × Pl) (hr : F140 fuel x0 x1_kind x1_lot x1_from x1_to x1_mass = some r) (h : Zone) (L : List Atom) (w : World) (b_x0 : Nat) (hS : St h (plA 126 40 117 b_x0 x0 :: L) w)  :
    Calls Try.prog 140 #[pB b_x0 0, .agg #[vI x1_kind, vI x1_lot, vI x1_from, vI x1_to, vI x1_mass]] w fun e w' => ∃ v, e = .returned v ∧ (∃ h', ∃ o0 : Option Addr, ∃ c0 : Nat, ∃ o1 : Option Nat, Zone.le h h' ∧ v = .agg #[.slice o0 r.1.length c0, .map o1] ∧ St h' (plA 126 40 117 b_x0 r.2.2 :: L) w' ∧ SliceR PartT h' o0 c0 r.1 ∧ MapR Value.bool h' o1 r.2.1) := by
 refine calls_intro (N := 51) Try.func140 (by kernel_rfl) fun a hf => ?_
 refine w_sr (by kernel_rfl) ?_
 refine p_box (i := 0) (d := (some 2)) (cs := [pB b_x0 0]) (T := 115) (v := fun b1 => pB b1 0) hS hf (fun b => by kernel_rfl) fun b1 ww1 a1 hS1 hf1 => ⟨fun _ => trivial, ?_⟩
 refine p_box (i := 1) (d := (some 3)) (cs := [vI x1_kind, vI x1_lot, vI x1_from, vI x1_to, vI x1_mass]) (T := 28) (v := fun b2 => pB b2 0) hS1 hf1 (fun b => by kernel_rfl) fun b2 ww2 a2 hS2 hf2 => ⟨fun _ => trivial, ?_⟩
 refine p_box (i := 2) (d := (some 4)) (cs := [.slice none 0 0, .map none]) (T := 119) (v := fun b3 => pB b3 0) hS2 hf2 (fun b => by kernel_rfl) fun b3 ww3 a3 hS3 hf3 => ⟨fun _ => trivial, ?_⟩
 refine p_dt (by kernel_rfl) ?_
 refine w_mid (by kernel_rfl) (fun a w => ∃ z1 : Zone, ∃ b4 : Nat, ∃ b5 : Nat, Zone.le h z1 ∧ Fr a 51 [(2, pB b1 0), (3, pB b2 0), (4, pB b3 0), (5, pB b4 0), (6, pB b5 0)] ∧ St z1 (box b4 [.slice none 0 0, .map none] 119 :: box b5 [vI x1_mass] 3 :: box b3 [.slice none 0 0, .map none] 119 :: box b2 [vI x1_kind, vI x1_lot, vI x1_from, vI x1_to, vI x1_mass] 28 :: box b1 [pB b_x0 0] 115 :: plA 126 40 117 b_x0 x0 :: L) w ∧ (F140_j1 fuel x0 x1_from x1_mass) = some r) ?_ ?_
 ·skip
  have hS4 := hS3.drew
  have s1 : Sub h (box b3 [.slice none 0 0, .map none] 119 :: box b2 [vI x1_kind, vI x1_lot, vI x1_from, vI x1_to, vI x1_mass] 28 :: box b1 [pB b_x0 0] 115 :: plA 126 40 117 b_x0 x0 :: L) _ := Sub.of (Zone.le_refl _) hS4
  refine w_regB (by kernel_rfl) [6] (Sub h (box b3 [.slice none 0 0, .map none] 119 :: box b2 [vI x1_kind, vI x1_lot, vI x1_from, vI x1_to, vI x1_mass] 28 :: box b1 [pB b_x0 0] 115 :: plA 126 40 117 b_x0 x0 :: L)) (by kernel_rfl) ?_
  refine k_seg' 4 [(0, true), (1, true), (2, true)] (by kernel_rfl) (by kernel_rfl) (At.start s1) (by kernel_rfl) ?_
  refine p_qS 3 [vI x1_mass] [(2, pB b1 0), (3, pB b2 0), (4, pB b3 0), (11, .agg #[.slice none 0 0, .map none]), (13, vI x1_mass)] [.cell ⟨b2, 4, none⟩ (vI x1_mass)] [] s1 hf3 (by kernel_rfl) (fun _ s => (.cell (s.box (i := 1) rfl (j := 4) rfl) .nil)) .nil fun a4 hf4 => ?_
  refine p_done (by kernel_rfl) ?_
  intro hA1
  refine k_any' 3 [3, 4] (by kernel_rfl) hA1 (by kernel_rfl) (by kernel_rfl) ?_
  refine (all_cons ?_ (all_cons ?_ all_nil))
  ·skip
   refine p_box (i := 3) (d := (some 5)) (cs := [.slice none 0 0, .map none]) (T := 119) (v := fun b6 => pB b6 0) hS4 hf4 (fun b => by kernel_rfl) fun b6 ww4 a5 hS5 hf5 => ⟨fun _ => Sub.of (Zone.le_refl _) (St.drop 1 hS5), ?_⟩
   refine p_done (by kernel_rfl) ?_
   intro hA2
   have s2 : Sub h (box b3 [.slice none 0 0, .map none] 119 :: box b2 [vI x1_kind, vI x1_lot, vI x1_from, vI x1_to, vI x1_mass] 28 :: box b1 [pB b_x0 0] 115 :: plA 126 40 117 b_x0 x0 :: L) _ := Sub.of (Zone.le_refl _) (St.drop 1 hS5)
   refine k_seg' 0 [(4, false), (5, false), (6, false)] (by kernel_rfl) (by kernel_rfl) hA2 (by kernel_rfl) ?_
   refine p_box (i := 4) (d := (some 6)) (cs := [vI 0]) (T := 3) (v := fun b7 => pB b7 0) hS5 hf5 (fun b => by kernel_rfl) fun b7 ww5 a6 hS6 hf6 => ⟨fun _ => Sub.of (Zone.le_refl _) (St.drop 2 hS6), ?_⟩
   have s3 : Sub h (box b3 [.slice none 0 0, .map none] 119 :: box b2 [vI x1_kind, vI x1_lot, vI x1_from, vI x1_to, vI x1_mass] 28 :: box b1 [pB b_x0 0] 115 :: plA 126 40 117 b_x0 x0 :: L) _ := Sub.of (Zone.le_refl _) (St.drop 2 hS6)
   refine p_store_eq (i := 5) (j := 1) (b := b6) (off := 0) (vs := [.slice none 0 0, .map none]) (cs' := [.slice none 0 0, .map none]) hS6 hf6 rfl (by kernel_rfl) (by kernel_rfl) rfl fun ww6 a7 hS7 hf7 => ⟨fun _ => Sub.of (Zone.le_refl _) (St.drop 2 hS7), ?_⟩
   have s4 : Sub h (box b3 [.slice none 0 0, .map none] 119 :: box b2 [vI x1_kind, vI x1_lot, vI x1_from, vI x1_to, vI x1_mass] 28 :: box b1 [pB b_x0 0] 115 :: plA 126 40 117 b_x0 x0 :: L) _ := Sub.of (Zone.le_refl _) (St.drop 2 hS7)
   refine p_store_eq (i := 6) (j := 0) (b := b7) (off := 0) (vs := [vI x1_mass]) (cs' := [vI x1_mass]) hS7 hf7 rfl (by kernel_rfl) (by kernel_rfl) rfl fun ww7 a8 hS8 hf8 => ⟨fun e => absurd e (by decide), ?_⟩
   refine p_done (by kernel_rfl) ?_
   intro hA3
   refine k_done' (by kernel_rfl) (by kernel_rfl) ?_
   refine n_then ?_
   have hf9 := Fr.keep (ks := [2, 3, 4, 5, 6]) (r := [(2, pB b1 0), (3, pB b2 0), (4, pB b3 0), (5, pB b6 0), (6, pB b7 0)]) hf8 (by kernel_rfl)
   exact ⟨h, b6, b7, (Zone.le_refl _), hf9, (St.pick 2 [1, 0] hS8 (by kernel_rfl)), hr⟩
  ·skip
   refine p_box (i := 4) (d := (some 6)) (cs := [vI 0]) (T := 3) (v := fun b8 => pB b8 0) hS4 hf4 (fun b => by kernel_rfl) fun b8 ww8 a9 hS9 hf10 => ⟨fun _ => Sub.of (Zone.le_refl _) (St.drop 1 hS9), ?_⟩
   refine p_done (by kernel_rfl) ?_
   intro hA4
   have s5 : Sub h (box b3 [.slice none 0 0, .map none] 119 :: box b2 [vI x1_kind, vI x1_lot, vI x1_from, vI x1_to, vI x1_mass] 28 :: box b1 [pB b_x0 0] 115 :: plA 126 40 117 b_x0 x0 :: L) _ := Sub.of (Zone.le_refl _) (St.drop 1 hS9)
   refine k_seg' 0 [(3, false), (5, false), (6, false)] (by kernel_rfl) (by kernel_rfl) hA4 (by kernel_rfl) ?_
   refine p_box (i := 3) (d := (some 5)) (cs := [.slice none 0 0, .map none]) (T := 119) (v := fun b9 => pB b9 0) hS9 hf10 (fun b => by kernel_rfl) fun b9 ww9 a10 hS10 hf11 => ⟨fun _ => Sub.of (Zone.le_refl _) (St.drop 2 hS10), ?_⟩
   have s6 : Sub h (box b3 [.slice none 0 0, .map none] 119 :: box b2 [vI x1_kind, vI x1_lot, vI x1_from, vI x1_to, vI x1_mass] 28 :: box b1 [pB b_x0 0] 115 :: plA 126 40 117 b_x0 x0 :: L) _ := Sub.of (Zone.le_refl _) (St.drop 2 hS10)
   refine p_store_eq (i := 5) (j := 0) (b := b9) (off := 0) (vs := [.slice none 0 0, .map none]) (cs' := [.slice none 0 0, .map none]) hS10 hf11 rfl (by kernel_rfl) (by kernel_rfl) rfl fun ww10 a11 hS11 hf12 => ⟨fun _ => Sub.of (Zone.le_refl _) (St.drop 2 hS11), ?_⟩
   have s7 : Sub h (box b3 [.slice none 0 0, .map none] 119 :: box b2 [vI x1_kind, vI x1_lot, vI x1_from, vI x1_to, vI x1_mass] 28 :: box b1 [pB b_x0 0] 115 :: plA 126 40 117 b_x0 x0 :: L) _ := Sub.of (Zone.le_refl _) (St.drop 2 hS11)
   refine p_store_eq (i := 6) (j := 1) (b := b8) (off := 0) (vs := [vI x1_mass]) (cs' := [vI x1_mass]) hS11 hf12 rfl (by kernel_rfl) (by kernel_rfl) rfl fun ww11 a12 hS12 hf13 => ⟨fun e => absurd e (by decide), ?_⟩
   refine p_done (by kernel_rfl) ?_
   intro hA5
   refine k_done' (by kernel_rfl) (by kernel_rfl) ?_
   refine n_then ?_
   have hf14 := Fr.keep (ks := [2, 3, 4, 5, 6]) (r := [(2, pB b1 0), (3, pB b2 0), (4, pB b3 0), (5, pB b9 0), (6, pB b8 0)]) hf13 (by kernel_rfl)
   exact ⟨h, b9, b8, (Zone.le_refl _), hf14, (St.pick 2 [0, 1] hS12 (by kernel_rfl)), hr⟩
 ·rintro a13 ww12 ⟨z1, b4, b5, k2, hf15, hS13, hr1⟩
  refine w_seq (by kernel_rfl) ?_
  refine w_sr (by kernel_rfl) ?_
  refine p_qn 3 [pB b_x0 0, vI x1_from] [(2, pB b1 0), (3, pB b2 0), (4, pB b3 0), (5, pB b4 0), (6, pB b5 0), (14, pB b_x0 0), (16, vI x1_from)] [.cell ⟨b1, 0, none⟩ (pB b_x0 0), .cell ⟨b2, 2, none⟩ (vI x1_from)] hf15 (by kernel_rfl) (.cell (hS13.box (i := 4) rfl (j := 0) rfl) (.cell (hS13.box (i := 3) rfl (j := 2) rfl) .nil)) fun a14 hf16 => ?_
  refine p_inl (i := 3) (d := some 17) (f := 149) (args := #[pB b_x0 0, vI x1_from]) (N' := 6) hf16 (by kernel_rfl) Try.func149 (by kernel_rfl) fun a15 hf17 => ?_
  refine w_sr (by kernel_rfl) ?_
  refine p_box (i := 0) (d := (some 2)) (cs := [pB b_x0 0]) (T := 115) (v := fun b10 => pB b10 0) hS13 hf17 (fun b => by kernel_rfl) fun b10 ww13 a16 hS14 hf18 => ⟨fun _ => trivial, ?_⟩
  refine p_box (i := 1) (d := (some 3)) (cs := [vI x1_from]) (T := 3) (v := fun b11 => pB b11 0) hS14 hf18 (fun b => by kernel_rfl) fun b11 ww14 a17 hS15 hf19 => ⟨fun _ => trivial, ?_⟩
  refine p_qt [] [(2, pB b10 0), (3, pB b11 0)] [] hf19 (by kernel_rfl) .nil fun a18 hf20 => ?_
  refine w_sq [] [(4, .func (.func 154) #[] #[pB b10 0, pB b11 0])] [] hf20 (by kernel_rfl) .nil fun a19 hf21 => ?_
  refine w_ret (by kernel_rfl) ?_
  refine p_ret (os := []) (v := .func (.func 154) #[] #[pB b10 0, pB b11 0]) (obs := []) hf21 (by kernel_rfl) .nil ?_
  refine ⟨_, rfl, fun a20 hf22 => ?_⟩
  refine ⟨fun _ => trivial, ?_⟩
  refine p_dt (by kernel_rfl) ?_
  refine w_block (id := 0) (by kernel_rfl) ?_
  have hf23 := Fr.keep (ks := [2, 3, 4, 5, 6, 17]) (r := [(2, pB b1 0), (3, pB b2 0), (4, pB b3 0), (5, pB b4 0), (6, pB b5 0), (17, .func (.func 154) #[] #[pB b10 0, pB b11 0])]) hf22 (by kernel_rfl)
  refine w_range (g := 17) (gf := 154) (lb := #[pB b10 0, pB b11 0]) (by kernel_rfl) hf23 hS15 (by kernel_rfl) (fun l => by kernel_rfl) fun ps1 RA1 RB1 hps1 hA6 hB1 l1 D1 ww15 hS16 => ?_
  refine calls_intro (N := 24) Try.func154 (by kernel_rfl) fun a21 hf24 => ?_
  refine w_block (id := 0) (by kernel_rfl) ?_
  have hf25 := Fr.keep (ks := [0, 1, 2]) (r := [(0, .func (.yield l1) #[] #[]), (1, pB b10 0), (2, pB b11 0)]) hf24 (by kernel_rfl)
  refine w_loop (by kernel_rfl) (fun n a w => ∃ z2 : Zone, ∃ y1 : Pl, ∃ y2 : List Part, ∃ y3 : List (Int × Bool), ∃ y4 : Int, ∃ e1 : Option Addr, ∃ q1 : Nat, ∃ e2 : Option Nat, Zone.le z1 z2 ∧ Fr a 24 [(0, .func (.yield l1) #[] #[]), (1, pB b10 0), (2, pB b11 0)] ∧ St z2 (loopA l1 51 [(2, pB b1 0), (3, pB b2 0), (4, pB b3 0), (5, pB b4 0), (6, pB b5 0), (17, .func (.func 154) #[] #[pB b10 0, pB b11 0])] ps1 RA1 RB1 D1 .ready none :: defA D1 :: box b11 [vI x1_from] 3 :: box b10 [pB b_x0 0] 115 :: box b4 [.slice e1 y2.length q1, .map e2] 119 :: box b5 [vI y4] 3 :: box b3 [.slice none 0 0, .map none] 119 :: box b2 [vI x1_kind, vI x1_lot, vI x1_from, vI x1_to, vI x1_mass] 28 :: box b1 [pB b_x0 0] 115 :: plA 126 40 117 b_x0 y1 :: L) w ∧ SliceR PartT z2 e1 q1 y2 ∧ MapR Value.bool z2 e2 y3 ∧ (F140_l1 fuel x1_from n y1 y2 y3 y4) = some r) fuel ⟨z1, x0, [], [], x1_mass, none, 0, none, (Zone.le_refl _), hf25, hS16, SliceR.nil' _ _, (MapR.nil' _ _), hr1⟩ ?_
  rintro n2 a22 ww16 ⟨z2, y1, y2, y3, y4, e1, q1, e2, k3, hf26, hS17, hx1, hx2, hr2⟩
  cases n2 with
  | zero => cases hr2
  | succ n1 =>
  refine w_seq (by kernel_rfl) ?_
  obtain ⟨e3, q2, v1, v2, v3, v4, v5, v6, v7, v8, v9, v10, v11, v12, v13, v14, v15, v16, v17, v18, hx3, hS18⟩ := hS17.plOpen (i := 9) rfl
  obtain ⟨p1, hp1205, hr3⟩ := bind_some hr2
  obtain ⟨e4, q3, hv1, hb1, hS19⟩ := hS18.ownOpen (j := 0) rfl hp1205
  have hS20 := hS19.drew
  refine w_seq (by kernel_rfl) ?_
  refine w_qD [(0, true), (1, true), (2, true), (3, true), (4, true), (5, true), (6, true), (7, true), (8, true)] [] [pB b_x0 0, vI x1_from, .slice e4 p1.length q3] [(0, .func (.yield l1) #[] #[]), (1, pB b10 0), (2, pB b11 0), (13, .bool (decide ((p1.length : Int) > (0 : Int))))] [.cell ⟨b10, 0, none⟩ (pB b_x0 0), .cell ⟨b11, 0, none⟩ (vI x1_from), .prop (0 ≤ x1_from ∧ x1_from < (9 : Nat)), .cell ((⟨b_x0, 1, none⟩ : Addr).add (Int.toNat x1_from * 1)) (.slice e4 p1.length q3)] [] hf26 (by kernel_rfl) (.cell (hS20.box (i := 6) rfl (j := 0) rfl) (.cell (hS20.box (i := 5) rfl (j := 0) rfl) (.prop hb1 (.cell ((arrAddr b_x0 1 (Int.toNat x1_from)) ▸ (hS20.box (i := 12) rfl (getElem?_app_right [.slice e3 y1.lots.length q2] _ _ hv1 [v10, v11, v12, v13, v14, v15, v16, v17, v18]))) .nil)))) .nil fun a23 hf27 => ?_
  have hS21 := hS20.ownClose' (j := 1) (k := 0) rfl rfl (by decide) hv1 (getI_spec hp1205).2
  have hS22 := hS21.plClose (i := 12) (j := 1) (k := 2) rfl hx3 rfl rfl (by decide) (by decide) (by decide)
  refine n_then ?_
  refine w_if hf27 (b := (decide ((p1.length : Int) > (0 : Int)))) (by kernel_rfl) (fun hb2 => ?_) (fun hb2 => ?_)
  ·have hr4 := cond_t hb2 hr3
   refine w_skip (by kernel_rfl) ?_
   refine n_then ?_
   refine w_block (id := 1) (by kernel_rfl) ?_
   refine w_sr (by kernel_rfl) ?_
   refine p_qn 2 [pB b_x0 0, vI x1_from] [(0, .func (.yield l1) #[] #[]), (1, pB b10 0), (2, pB b11 0), (14, pB b_x0 0), (15, vI x1_from)] [.cell ⟨b10, 0, none⟩ (pB b_x0 0), .cell ⟨b11, 0, none⟩ (vI x1_from)] hf27 (by kernel_rfl) (.cell (hS22.box (i := 6) rfl (j := 0) rfl) (.cell (hS22.box (i := 5) rfl (j := 0) rfl) .nil)) fun a24 hf28 => ?_
   have hS23 := St.swapTo (i := 13) (j := 0) (St.addEmp hS22) rfl rfl (by decide)
   have hS24 : St z2 (plA 126 40 117 b_x0 y1 :: emp :: emp :: emp :: loopA l1 51 [(2, pB b1 0), (3, pB b2 0), (4, pB b3 0), (5, pB b4 0), (6, pB b5 0), (17, .func (.func 154) #[] #[pB b10 0, pB b11 0])] ps1 RA1 RB1 D1 .ready none :: defA D1 :: box b11 [vI x1_from] 3 :: box b10 [pB b_x0 0] 115 :: box b4 [.slice e1 y2.length q1, .map e2] 119 :: box b5 [vI y4] 3 :: box b3 [.slice none 0 0, .map none] 119 :: box b2 [vI x1_kind, vI x1_lot, vI x1_from, vI x1_to, vI x1_mass] 28 :: box b1 [pB b_x0 0] 115 :: emp :: L) _ := hS23
   obtain ⟨r1, hd1, hr5⟩ := bind_some hr4
   refine p_call (i := 2) (d := some 16) (f := 151) (args := #[pB b_x0 0, vI x1_from]) hf28 (by kernel_rfl) (f151_ok fuel y1 x1_from r1 hd1 z2 _ _ b_x0 hS24 ) ?_
   rintro v19 ww17 a25 ⟨z3, e5, q4, e6, k4, rfl, hS25, hx4, hx5⟩ hf29
   have hS26 := St.swapTo (i := 0) (j := 13) hS25 rfl rfl (by decide)
   have hS27 : St z3 (emp :: emp :: emp :: emp :: loopA l1 51 [(2, pB b1 0), (3, pB b2 0), (4, pB b3 0), (5, pB b4 0), (6, pB b5 0), (17, .func (.func 154) #[] #[pB b10 0, pB b11 0])] ps1 RA1 RB1 D1 .ready none :: defA D1 :: box b11 [vI x1_from] 3 :: box b10 [pB b_x0 0] 115 :: box b4 [.slice e1 y2.length q1, .map e2] 119 :: box b5 [vI y4] 3 :: box b3 [.slice none 0 0, .map none] 119 :: box b2 [vI x1_kind, vI x1_lot, vI x1_from, vI x1_to, vI x1_mass] 28 :: box b1 [pB b_x0 0] 115 :: plA 126 40 117 b_x0 r1.2.2 :: L) _ := hS26
   refine ⟨fun _ => trivial, ?_⟩
   refine p_box (i := 3) (d := (some 4)) (cs := [.slice none 0 0, .map none]) (T := 119) (v := fun b12 => pB b12 0) hS27 hf29 (fun b => by kernel_rfl) fun b12 ww18 a26 hS28 hf30 => ⟨fun _ => trivial, ?_⟩
   refine p_store_eq (i := 4) (j := 0) (b := b12) (off := 0) (vs := [.slice e5 r1.1.length q4, .map e6]) (cs' := [.slice e5 r1.1.length q4, .map e6]) hS28 hf30 rfl (by kernel_rfl) (by kernel_rfl) rfl fun ww19 a27 hS29 hf31 => ⟨fun _ => trivial, ?_⟩
   refine p_dt (by kernel_rfl) ?_
   refine w_sr (by kernel_rfl) ?_
   refine p_qn 2 [pB b_x0 0, vI x1_from] [(0, .func (.yield l1) #[] #[]), (1, pB b10 0), (2, pB b11 0), (4, pB b12 0), (17, pB b_x0 0), (18, vI x1_from)] [.cell ⟨b10, 0, none⟩ (pB b_x0 0), .cell ⟨b11, 0, none⟩ (vI x1_from)] hf31 (by kernel_rfl) (.cell (hS29.box (i := 8) rfl (j := 0) rfl) (.cell (hS29.box (i := 7) rfl (j := 0) rfl) .nil)) fun a28 hf32 => ?_
   have hS30 := St.swapTo (i := 15) (j := 0) (St.addEmp hS29) rfl rfl (by decide)
   have hS31 : St z3 (plA 126 40 117 b_x0 r1.2.2 :: box b12 [.slice e5 r1.1.length q4, .map e6] 119 :: emp :: emp :: emp :: emp :: loopA l1 51 [(2, pB b1 0), (3, pB b2 0), (4, pB b3 0), (5, pB b4 0), (6, pB b5 0), (17, .func (.func 154) #[] #[pB b10 0, pB b11 0])] ps1 RA1 RB1 D1 .ready none :: defA D1 :: box b11 [vI x1_from] 3 :: box b10 [pB b_x0 0] 115 :: box b4 [.slice e1 y2.length q1, .map e2] 119 :: box b5 [vI y4] 3 :: box b3 [.slice none 0 0, .map none] 119 :: box b2 [vI x1_kind, vI x1_lot, vI x1_from, vI x1_to, vI x1_mass] 28 :: box b1 [pB b_x0 0] 115 :: emp :: L) _ := hS30
   obtain ⟨r2, hd2, hr6⟩ := bind_some hr5
   refine p_call (i := 2) (d := some 19) (f := 152) (args := #[pB b_x0 0, vI x1_from]) hf32 (by kernel_rfl) (f152_ok fuel r1.2.2 x1_from r2 hd2 z3 _ _ b_x0 hS31 ) ?_
   rintro v20 ww20 a29 ⟨z4, k5, rfl, hS32⟩ hf33
   have hS33 := St.swapTo (i := 0) (j := 15) hS32 rfl rfl (by decide)
   have hS34 : St z4 (emp :: box b12 [.slice e5 r1.1.length q4, .map e6] 119 :: emp :: emp :: emp :: emp :: loopA l1 51 [(2, pB b1 0), (3, pB b2 0), (4, pB b3 0), (5, pB b4 0), (6, pB b5 0), (17, .func (.func 154) #[] #[pB b10 0, pB b11 0])] ps1 RA1 RB1 D1 .ready none :: defA D1 :: box b11 [vI x1_from] 3 :: box b10 [pB b_x0 0] 115 :: box b4 [.slice e1 y2.length q1, .map e2] 119 :: box b5 [vI y4] 3 :: box b3 [.slice none 0 0, .map none] 119 :: box b2 [vI x1_kind, vI x1_lot, vI x1_from, vI x1_to, vI x1_mass] 28 :: box b1 [pB b_x0 0] 115 :: plA 126 40 117 b_x0 r2 :: L) _ := hS33
   refine ⟨fun _ => trivial, ?_⟩
   refine p_dt (by kernel_rfl) ?_
   refine w_seq (by kernel_rfl) ?_
   refine w_regY 2 (by kernel_rfl) ?_
   refine p_qz [.slice e5 r1.1.length q4, .map e6] [(0, .func (.yield l1) #[] #[]), (1, pB b10 0), (2, pB b11 0), (20, .func (.yield l1) #[] #[]), (21, .agg #[.slice e5 r1.1.length q4, .map e6])] [.cell ⟨b12, 0, none⟩ (.slice e5 r1.1.length q4), .cell ⟨b12, 1, none⟩ (.map e6)] hf33 (by kernel_rfl) (.cell (hS34.box (i := 1) rfl (j := 0) rfl) (.cell (hS34.box (i := 1) rfl (j := 1) rfl) .nil)) fun a30 hf34 => ?_
   refine p_yield (d := some 22) (l := l1) (args := #[.agg #[.slice e5 r1.1.length q4, .map e6]]) hf34 (by kernel_rfl) hS34 (j := 6) rfl (by rw [hps1]; kernel_rfl) fun a31 hf35 => ?_
   rw [hps1] at hf35
   refine cw_eq hA6 ?_
   refine w_reg (by kernel_rfl) ?_
   refine p_box (i := 0) (d := (some 7)) (cs := [.slice none 0 0, .map none]) (T := 119) (v := fun b13 => pB b13 0) hS34 hf35 (fun b => by kernel_rfl) fun b13 ww21 a32 hS35 hf36 => ⟨fun _ => trivial, ?_⟩
   refine p_store_eq (i := 1) (j := 0) (b := b13) (off := 0) (vs := [.slice e5 r1.1.length q4, .map e6]) (cs' := [.slice e5 r1.1.length q4, .map e6]) hS35 hf36 rfl (by kernel_rfl) (by kernel_rfl) rfl fun ww22 a33 hS36 hf37 => ⟨fun _ => trivial, ?_⟩
   refine p_dt (by kernel_rfl) ?_
   refine p_begin hS36 (j := 7) rfl fun ww23 hS37 => ?_
   refine cw_eq hB1 ?_
   refine w_block (id := 1) (by kernel_rfl) ?_
   refine w_seq (by kernel_rfl) ?_
   have hS38 := hS37.drew
   have s8 : Sub z4 (box b13 [.slice e5 r1.1.length q4, .map e6] 119 :: emp :: box b12 [.slice e5 r1.1.length q4, .map e6] 119 :: emp :: emp :: emp :: emp :: loopA l1 51 [(2, pB b1 0), (3, pB b2 0), (4, pB b3 0), (5, pB b4 0), (6, pB b5 0), (17, .func (.func 154) #[] #[pB b10 0, pB b11 0])] ps1 RA1 RB1 D1 .busy none :: defA D1 :: box b11 [vI x1_from] 3 :: box b10 [pB b_x0 0] 115 :: box b4 [.slice e1 y2.length q1, .map e2] 119 :: box b5 [vI y4] 3 :: box b3 [.slice none 0 0, .map none] 119 :: box b2 [vI x1_kind, vI x1_lot, vI x1_from, vI x1_to, vI x1_mass] 28 :: box b1 [pB b_x0 0] 115 :: plA 126 40 117 b_x0 r2 :: L) _ := Sub.of (Zone.le_refl _) hS38
   refine w_regD (by kernel_rfl) [(0, true), (1, true), (2, true), (3, false), (4, true), (5, true)] [] (Sub z4 (box b13 [.slice e5 r1.1.length q4, .map e6] 119 :: emp :: box b12 [.slice e5 r1.1.length q4, .map e6] 119 :: emp :: emp :: emp :: emp :: loopA l1 51 [(2, pB b1 0), (3, pB b2 0), (4, pB b3 0), (5, pB b4 0), (6, pB b5 0), (17, .func (.func 154) #[] #[pB b10 0, pB b11 0])] ps1 RA1 RB1 D1 .busy none :: defA D1 :: box b11 [vI x1_from] 3 :: box b10 [pB b_x0 0] 115 :: box b4 [.slice e1 y2.length q1, .map e2] 119 :: box b5 [vI y4] 3 :: box b3 [.slice none 0 0, .map none] 119 :: box b2 [vI x1_kind, vI x1_lot, vI x1_from, vI x1_to, vI x1_mass] 28 :: box b1 [pB b_x0 0] 115 :: plA 126 40 117 b_x0 r2 :: L)) (by kernel_rfl) s8 ?_
   refine p_qS 3 [vI y4, .slice e5 r1.1.length q4] [(2, pB b1 0), (3, pB b2 0), (5, pB b4 0), (6, pB b5 0), (7, pB b13 0), (19, vI y4), (21, .agg #[.slice e5 r1.1.length q4])] [.cell ⟨b5, 0, none⟩ (vI y4), .cell ⟨b13, 0, none⟩ (.slice e5 r1.1.length q4)] [] s8 hf37 (by kernel_rfl) (fun _ s => (.cell (s.box (i := 12) rfl (j := 0) rfl) (.cell (s.box (i := 0) rfl (j := 0) rfl) .nil))) .nil fun a34 hf38 => ?_
   obtain ⟨r3, hd3, hr7⟩ := bind_some hr6
   refine p_call (i := 3) (d := some 22) (f := 90) (args := #[.agg #[.slice e5 r1.1.length q4]]) hf38 (by kernel_rfl) (f90_ok fuel r1.1 r3 hd3 z4 _ _ hS38 e5 q4 (SliceR.mono k5 hx4)) ?_
   rintro v21 ww24 a35 ⟨z5, k6, rfl, hS39⟩ hf39
   refine ⟨fun _ => Sub.of k6 hS39, ?_⟩
   have s9 : Sub z4 (box b13 [.slice e5 r1.1.length q4, .map e6] 119 :: emp :: box b12 [.slice e5 r1.1.length q4, .map e6] 119 :: emp :: emp :: emp :: emp :: loopA l1 51 [(2, pB b1 0), (3, pB b2 0), (4, pB b3 0), (5, pB b4 0), (6, pB b5 0), (17, .func (.func 154) #[] #[pB b10 0, pB b11 0])] ps1 RA1 RB1 D1 .busy none :: defA D1 :: box b11 [vI x1_from] 3 :: box b10 [pB b_x0 0] 115 :: box b4 [.slice e1 y2.length q1, .map e2] 119 :: box b5 [vI y4] 3 :: box b3 [.slice none 0 0, .map none] 119 :: box b2 [vI x1_kind, vI x1_lot, vI x1_from, vI x1_to, vI x1_mass] 28 :: box b1 [pB b_x0 0] 115 :: plA 126 40 117 b_x0 r2 :: L) _ := Sub.of k6 hS39
   refine p_qS 2 [] [(2, pB b1 0), (3, pB b2 0), (5, pB b4 0), (6, pB b5 0), (7, pB b13 0), (8, vI (if r3 < y4 then r3 else y4))] [] [] s9 hf39 (by kernel_rfl) (fun _ s => .nil) .nil fun a36 hf40 => ?_
   refine p_dt (by kernel_rfl) ?_
   refine w_sr (by kernel_rfl) ?_
   refine p_qn 3 [.slice e5 r1.1.length q4] [(2, pB b1 0), (3, pB b2 0), (5, pB b4 0), (6, pB b5 0), (7, pB b13 0), (8, vI (if r3 < y4 then r3 else y4)), (26, .agg #[.slice e5 r1.1.length q4]), (27, vI (if r3 < y4 then r3 else y4))] [.cell ⟨b13, 0, none⟩ (.slice e5 r1.1.length q4)] hf40 (by kernel_rfl) (.cell (hS39.box (i := 0) rfl (j := 0) rfl) .nil) fun a37 hf41 => ?_
   obtain ⟨r4, hd4, hr8⟩ := bind_some hr7
   refine p_call (i := 3) (d := some 28) (f := 91) (args := #[.agg #[.slice e5 r1.1.length q4], vI (if r3 < y4 then r3 else y4)]) hf41 (by kernel_rfl) (f91_ok fuel r1.1 (if r3 < y4 then r3 else y4) r4 hd4 z5 _ _ hS39 e5 q4 (SliceR.mono (Zone.le_trans k5 k6) hx4)) ?_
   rintro v22 ww25 a38 ⟨z6, e7, q5, e8, q6, k7, rfl, hS40, hx6, hx7⟩ hf42
   refine ⟨fun _ => trivial, ?_⟩
   refine p_qn 3 [] [(2, pB b1 0), (3, pB b2 0), (5, pB b4 0), (6, pB b5 0), (7, pB b13 0), (8, vI (if r3 < y4 then r3 else y4)), (29, .agg #[.slice e7 r4.1.length q5]), (30, .agg #[.slice e8 r4.2.length q6])] [] hf42 (by kernel_rfl) .nil fun a39 hf43 => ?_
   refine p_box (i := 7) (d := (some 9)) (cs := [.slice none 0 0]) (T := 40) (v := fun b14 => pB b14 0) hS40 hf43 (fun b => by kernel_rfl) fun b14 ww26 a40 hS41 hf44 => ⟨fun _ => trivial, ?_⟩
   refine p_box (i := 8) (d := (some 10)) (cs := [.slice none 0 0]) (T := 40) (v := fun b15 => pB b15 0) hS41 hf44 (fun b => by kernel_rfl) fun b15 ww27 a41 hS42 hf45 => ⟨fun _ => trivial, ?_⟩
   refine p_store_eq (i := 9) (j := 1) (b := b14) (off := 0) (vs := [.slice e7 r4.1.length q5]) (cs' := [.slice e7 r4.1.length q5]) hS42 hf45 rfl (by kernel_rfl) (by kernel_rfl) rfl fun ww28 a42 hS43 hf46 => ⟨fun _ => trivial, ?_⟩
   refine p_store_eq (i := 10) (j := 0) (b := b15) (off := 0) (vs := [.slice e8 r4.2.length q6]) (cs' := [.slice e8 r4.2.length q6]) hS43 hf46 rfl (by kernel_rfl) (by kernel_rfl) rfl fun ww29 a43 hS44 hf47 => ⟨fun _ => trivial, ?_⟩
   refine p_dt (by kernel_rfl) ?_
   refine w_sr (by kernel_rfl) ?_
   refine p_qn 5 [.slice e1 y2.length q1, .map e2, .slice e7 r4.1.length q5, .map e6] [(2, pB b1 0), (3, pB b2 0), (5, pB b4 0), (6, pB b5 0), (7, pB b13 0), (8, vI (if r3 < y4 then r3 else y4)), (10, pB b15 0), (31, .agg #[.slice e1 y2.length q1, .map e2]), (35, .agg #[.slice e7 r4.1.length q5, .map e6])] [.cell ⟨b4, 0, none⟩ (.slice e1 y2.length q1), .cell ⟨b4, 1, none⟩ (.map e2), .cell ⟨b14, 0, none⟩ (.slice e7 r4.1.length q5), .cell ⟨b13, 1, none⟩ (.map e6)] hf47 (by kernel_rfl) (.cell (hS44.box (i := 13) rfl (j := 0) rfl) (.cell (hS44.box (i := 13) rfl (j := 1) rfl) (.cell (hS44.box (i := 1) rfl (j := 0) rfl) (.cell (hS44.box (i := 2) rfl (j := 1) rfl) .nil)))) fun a44 hf48 => ?_
   obtain ⟨r5, hd5, hr9⟩ := bind_some hr8
   refine p_call (i := 5) (d := some 36) (f := 150) (args := #[.agg #[.slice e1 y2.length q1, .map e2], .agg #[.slice e7 r4.1.length q5, .map e6]]) hf48 (by kernel_rfl) (f150_ok fuel y2 y3 r4.1 r1.2.1 r5 hd5 z6 _ _ hS44 e1 q1 (SliceR.mono (Zone.le_trans (Zone.le_trans (Zone.le_trans k4 k5) k6) k7) hx1) e2 (MapR.mono (Zone.le_trans (Zone.le_trans (Zone.le_trans k4 k5) k6) k7) hx2) e7 q5 hx6 e6 (MapR.mono (Zone.le_trans (Zone.le_trans k5 k6) k7) hx5)) ?_
   rintro v23 ww30 a45 ⟨z7, e9, q7, e10, k8, rfl, hS45, hx8, hx9⟩ hf49
   refine ⟨fun _ => trivial, ?_⟩
   refine p_store_eq (i := 6) (j := 13) (b := b4) (off := 0) (vs := [.slice e9 r5.1.length q7, .map e10]) (cs' := [.slice e9 r5.1.length q7, .map e10]) hS45 hf49 rfl (by kernel_rfl) (by kernel_rfl) rfl fun ww31 a46 hS46 hf50 => ⟨fun _ => trivial, ?_⟩
   refine p_dt (by kernel_rfl) ?_
   refine w_sr (by kernel_rfl) ?_
   refine p_qn 3 [vI y4] [(2, pB b1 0), (3, pB b2 0), (6, pB b5 0), (7, pB b13 0), (10, pB b15 0), (39, vI (w64 (y4 - (if r3 < y4 then r3 else y4))))] [.cell ⟨b5, 0, none⟩ (vI y4)] hf50 (by kernel_rfl) (.cell (hS46.box (i := 14) rfl (j := 0) rfl) .nil) fun a47 hf51 => ?_
   refine p_store_eq (i := 3) (j := 14) (b := b5) (off := 0) (vs := [vI (w64 (y4 - (if r3 < y4 then r3 else y4)))]) (cs' := [vI (w64 (y4 - (if r3 < y4 then r3 else y4)))]) hS46 hf51 rfl (by kernel_rfl) (by kernel_rfl) rfl fun ww32 a48 hS47 hf52 => ⟨fun _ => trivial, ?_⟩
   refine p_dt (by kernel_rfl) ?_
   refine w_sq [vI (w64 (y4 - (if r3 < y4 then r3 else y4)))] [(2, pB b1 0), (3, pB b2 0), (7, pB b13 0), (10, pB b15 0), (41, .bool ((w64 (y4 - (if r3 < y4 then r3 else y4))) == (0 : Int)))] [.cell ⟨b5, 0, none⟩ (vI (w64 (y4 - (if r3 < y4 then r3 else y4))))] hf52 (by kernel_rfl) (.cell (hS47.box (i := 14) rfl (j := 0) rfl) .nil) fun a49 hf53 => ?_
   refine w_if hf53 (b := ((w64 (y4 - (if r3 < y4 then r3 else y4))) == (0 : Int))) (by kernel_rfl) (fun hb3 => ?_) (fun hb3 => ?_)
   ·have hr10 := cond_t hb3 hr9
    refine w_sr (by kernel_rfl) ?_
    refine p_qn 7 [pB b_x0 0, vI x1_from, .slice e8 r4.2.length q6, .map e6] [(42, pB b_x0 0), (44, vI x1_from), (48, .agg #[.slice e8 r4.2.length q6, .map e6])] [.cell ⟨b1, 0, none⟩ (pB b_x0 0), .cell ⟨b2, 2, none⟩ (vI x1_from), .cell ⟨b15, 0, none⟩ (.slice e8 r4.2.length q6), .cell ⟨b13, 1, none⟩ (.map e6)] hf53 (by kernel_rfl) (.cell (hS47.box (i := 17) rfl (j := 0) rfl) (.cell (hS47.box (i := 16) rfl (j := 2) rfl) (.cell (hS47.box (i := 0) rfl (j := 0) rfl) (.cell (hS47.box (i := 2) rfl (j := 1) rfl) .nil)))) fun a50 hf54 => ?_
    have hS48 := St.swapTo (i := 19) (j := 0) (St.addEmp hS47) rfl rfl (by decide)
    have hS49 : St z7 (plA 126 40 117 b_x0 r2 :: box b15 [.slice e8 r4.2.length q6] 40 :: box b14 [.slice e7 r4.1.length q5] 40 :: box b13 [.slice e5 r1.1.length q4, .map e6] 119 :: emp :: box b12 [.slice e5 r1.1.length q4, .map e6] 119 :: emp :: emp :: emp :: emp :: loopA l1 51 [(2, pB b1 0), (3, pB b2 0), (4, pB b3 0), (5, pB b4 0), (6, pB b5 0), (17, .func (.func 154) #[] #[pB b10 0, pB b11 0])] ps1 RA1 RB1 D1 .busy none :: defA D1 :: box b11 [vI x1_from] 3 :: box b10 [pB b_x0 0] 115 :: box b4 [.slice e9 r5.1.length q7, .map e10] 119 :: box b5 [vI (w64 (y4 - (if r3 < y4 then r3 else y4)))] 3 :: box b3 [.slice none 0 0, .map none] 119 :: box b2 [vI x1_kind, vI x1_lot, vI x1_from, vI x1_to, vI x1_mass] 28 :: box b1 [pB b_x0 0] 115 :: emp :: L) _ := hS48
    obtain ⟨r6, hd6, hr11⟩ := bind_some hr10
    refine p_call (i := 7) (d := some 49) (f := 148) (args := #[pB b_x0 0, vI x1_from, .agg #[.slice e8 r4.2.length q6, .map e6]]) hf54 (by kernel_rfl) (f148_ok fuel r2 x1_from r4.2 r1.2.1 r6 hd6 z7 _ _ b_x0 hS49 e8 q6 (SliceR.mono k8 hx7) e6 (MapR.mono (Zone.le_trans (Zone.le_trans (Zone.le_trans k5 k6) k7) k8) hx5)) ?_
    rintro v24 ww33 a51 ⟨z8, k9, rfl, hS50⟩ hf55
    have hS51 := St.swapTo (i := 0) (j := 19) hS50 rfl rfl (by decide)
    have hS52 : St z8 (emp :: box b15 [.slice e8 r4.2.length q6] 40 :: box b14 [.slice e7 r4.1.length q5] 40 :: box b13 [.slice e5 r1.1.length q4, .map e6] 119 :: emp :: box b12 [.slice e5 r1.1.length q4, .map e6] 119 :: emp :: emp :: emp :: emp :: loopA l1 51 [(2, pB b1 0), (3, pB b2 0), (4, pB b3 0), (5, pB b4 0), (6, pB b5 0), (17, .func (.func 154) #[] #[pB b10 0, pB b11 0])] ps1 RA1 RB1 D1 .busy none :: defA D1 :: box b11 [vI x1_from] 3 :: box b10 [pB b_x0 0] 115 :: box b4 [.slice e9 r5.1.length q7, .map e10] 119 :: box b5 [vI (w64 (y4 - (if r3 < y4 then r3 else y4)))] 3 :: box b3 [.slice none 0 0, .map none] 119 :: box b2 [vI x1_kind, vI x1_lot, vI x1_from, vI x1_to, vI x1_mass] 28 :: box b1 [pB b_x0 0] 115 :: plA 126 40 117 b_x0 r6 :: L) _ := hS51
    refine ⟨fun _ => trivial, ?_⟩
    refine p_dt (by kernel_rfl) ?_
    refine w_exit (id := 0) (by kernel_rfl) ?_
    refine x_pass rfl ?_
    refine p_roundX hS52 (j := 10) rfl fun ww34 a52 hS53 hf56 => ?_
    have hS54 := St.drop 4 hS53
    refine p_qt [] [(0, .func (.yield l1) #[] #[]), (1, pB b10 0), (2, pB b11 0), (23, .bool true)] [] hf56 (by kernel_rfl) .nil fun a53 hf57 => ?_
    refine w_if_true hf57 (by kernel_rfl) ?_
    refine w_ret (by kernel_rfl) ?_
    refine r_block ?_
    refine r_then ?_
    refine r_block ?_
    refine p_ret (os := []) (v := .tuple #[]) (obs := []) hf57 (by kernel_rfl) .nil ?_
    refine ⟨_, rfl, fun a54 hf58 => ?_⟩
    refine p_jumpX hS54 (j := 6) rfl (fun h => by cases h) fun ww35 hS55 => ?_
    refine x_block ?_
    refine n_then ?_
    refine w_sr (by kernel_rfl) ?_
    refine p_qn 1 [.slice e9 r5.1.length q7, .map e10] [(4, pB b3 0), (50, .agg #[.slice e9 r5.1.length q7, .map e10])] [.cell ⟨b4, 0, none⟩ (.slice e9 r5.1.length q7), .cell ⟨b4, 1, none⟩ (.map e10)] hf58 (by kernel_rfl) (.cell (hS55.box (i := 10) rfl (j := 0) rfl) (.cell (hS55.box (i := 10) rfl (j := 1) rfl) .nil)) fun a55 hf59 => ?_
    refine p_store_eq (i := 1) (j := 12) (b := b3) (off := 0) (vs := [.slice e9 r5.1.length q7, .map e10]) (cs' := [.slice e9 r5.1.length q7, .map e10]) hS55 hf59 rfl (by kernel_rfl) (by kernel_rfl) rfl fun ww36 a56 hS56 hf60 => ⟨fun _ => trivial, ?_⟩
    refine p_dt (by kernel_rfl) ?_
    refine w_ret (by kernel_rfl) ?_
    refine p_retM hf60 ?_
    refine p_mark hS56 (j := 7) rfl fun ww37 hS57 => ?_
    refine p_end (os := [.slice e9 r5.1.length q7, .map e10]) (v := .agg #[.slice e9 r5.1.length q7, .map e10]) (obs := [.cell ⟨b3, 0, none⟩ (.slice e9 r5.1.length q7), .cell ⟨b3, 1, none⟩ (.map e10)]) hf60 (by kernel_rfl) (.cell (hS57.box (i := 12) rfl (j := 0) rfl) (.cell (hS57.box (i := 12) rfl (j := 1) rfl) .nil)) ?_
    obtain rfl := some_eq hr11
    exact ⟨_, rfl, z8, e9, q7, e10, (Zone.le_trans (Zone.le_trans (Zone.le_trans (Zone.le_trans (Zone.le_trans (Zone.le_trans (Zone.le_trans k2 k3) k4) k5) k6) k7) k8) k9), rfl, (St.pick 16 [15] hS57 (by kernel_rfl)), (SliceR.mono k9 hx8), (MapR.mono k9 hx9)⟩
   ·have hr12 := cond_f hb3 hr9
    refine w_skip (by kernel_rfl) ?_
    refine n_block ?_
    refine p_roundN hS47 (j := 9) rfl fun ww38 a57 hS58 hf61 => ?_
    have hS59 := St.drop 3 hS58
    refine p_qt [] [(0, .func (.yield l1) #[] #[]), (1, pB b10 0), (2, pB b11 0), (23, .bool false)] [] hf61 (by kernel_rfl) .nil fun a58 hf62 => ?_
    refine w_if_false hf62 (by kernel_rfl) ?_
    refine w_skip (by kernel_rfl) ?_
    refine n_block ?_
    refine n_then ?_
    have hf63 := Fr.keep (ks := [0, 1, 2]) (r := [(0, .func (.yield l1) #[] #[]), (1, pB b10 0), (2, pB b11 0)]) hf62 (by kernel_rfl)
    exact ⟨n1, Nat.lt_succ_self n1, z7, r2, r5.1, r5.2, (w64 (y4 - (if r3 < y4 then r3 else y4))), e9, q7, e10, (Zone.le_trans (Zone.le_trans (Zone.le_trans (Zone.le_trans (Zone.le_trans k3 k4) k5) k6) k7) k8), hf63, (St.drop 6 hS59), hx8, hx9, hr12⟩
  ·have hr13 := cond_f hb2 hr3
   refine w_exit (id := 0) (by kernel_rfl) ?_
   refine x_then ?_
   refine x_then ?_
   refine x_block ?_
   refine p_fall (os := []) (v := .tuple #[]) (obs := []) hf27 (by kernel_rfl) .nil ?_
   refine ⟨_, rfl, fun a59 hf64 => ?_⟩
   refine p_jump0 hS22 (j := 3) rfl (fun h => by cases h) fun ww39 hS60 => ?_
   refine n_block ?_
   refine n_then ?_
   refine w_sr (by kernel_rfl) ?_
   refine p_qn 1 [.slice e1 y2.length q1, .map e2] [(4, pB b3 0), (50, .agg #[.slice e1 y2.length q1, .map e2])] [.cell ⟨b4, 0, none⟩ (.slice e1 y2.length q1), .cell ⟨b4, 1, none⟩ (.map e2)] hf64 (by kernel_rfl) (.cell (hS60.box (i := 7) rfl (j := 0) rfl) (.cell (hS60.box (i := 7) rfl (j := 1) rfl) .nil)) fun a60 hf65 => ?_
   refine p_store_eq (i := 1) (j := 9) (b := b3) (off := 0) (vs := [.slice e1 y2.length q1, .map e2]) (cs' := [.slice e1 y2.length q1, .map e2]) hS60 hf65 rfl (by kernel_rfl) (by kernel_rfl) rfl fun ww40 a61 hS61 hf66 => ⟨fun _ => trivial, ?_⟩
   refine p_dt (by kernel_rfl) ?_
   refine w_ret (by kernel_rfl) ?_
   refine p_retM hf66 ?_
   refine p_mark hS61 (j := 4) rfl fun ww41 hS62 => ?_
   refine p_end (os := [.slice e1 y2.length q1, .map e2]) (v := .agg #[.slice e1 y2.length q1, .map e2]) (obs := [.cell ⟨b3, 0, none⟩ (.slice e1 y2.length q1), .cell ⟨b3, 1, none⟩ (.map e2)]) hf66 (by kernel_rfl) (.cell (hS62.box (i := 9) rfl (j := 0) rfl) (.cell (hS62.box (i := 9) rfl (j := 1) rfl) .nil)) ?_
   obtain rfl := some_eq hr13
   exact ⟨_, rfl, z2, e1, q1, e2, (Zone.le_trans k2 k3), rfl, (St.pick 13 [12] hS62 (by kernel_rfl)), hx1, hx2⟩
def F141 (fuel : Nat) (x0 : Pl) (x1_kind : Int) (x1_lot : Int) (x1_from : Int) (x1_to : Int) (x1_mass : Int) : Option (List Part × List (Int × Bool) × Pl) :=
  ((F140 fuel x0 x1_kind x1_lot x1_from x1_to x1_mass).bind fun r1 => ((F146 fuel r1.2.2 x1_to r1.1 r1.2.1).bind fun r2 => (some (r1.1, r1.2.1, r2))))
set_option maxRecDepth 100000 in
theorem f141_ok (fuel : Nat) (x0 : Pl) (x1_kind : Int) (x1_lot : Int) (x1_from : Int) (x1_to : Int) (x1_mass : Int) (r : List Part × List (Int × Bool) × Pl) (hr : F141 fuel x0 x1_kind x1_lot x1_from x1_to x1_mass = some r) (h : Zone) (L : List Atom) (w : World) (b_x0 : Nat) (hS : St h (plA 126 40 117 b_x0 x0 :: L) w)  :
    Calls Try.prog 141 #[pB b_x0 0, .agg #[vI x1_kind, vI x1_lot, vI x1_from, vI x1_to, vI x1_mass]] w fun e w' => ∃ v, e = .returned v ∧ (∃ h', ∃ o0 : Option Addr, ∃ c0 : Nat, ∃ o1 : Option Nat, Zone.le h h' ∧ v = .agg #[.slice o0 r.1.length c0, .map o1] ∧ St h' (plA 126 40 117 b_x0 r.2.2 :: L) w' ∧ SliceR PartT h' o0 c0 r.1 ∧ MapR Value.bool h' o1 r.2.1) := by
 refine calls_intro (N := 15) Try.func141 (by kernel_rfl) fun a hf => ?_
 refine w_sr (by kernel_rfl) ?_
 refine p_box (i := 0) (d := (some 3)) (cs := [vI x1_kind, vI x1_lot, vI x1_from, vI x1_to, vI x1_mass]) (T := 28) (v := fun b1 => pB b1 0) hS hf (fun b => by kernel_rfl) fun b1 ww1 a1 hS1 hf1 => ⟨fun _ => trivial, ?_⟩
 refine p_box (i := 1) (d := (some 4)) (cs := [.slice none 0 0, .map none]) (T := 119) (v := fun b2 => pB b2 0) hS1 hf1 (fun b => by kernel_rfl) fun b2 ww2 a2 hS2 hf2 => ⟨fun _ => trivial, ?_⟩
 refine p_dt (by kernel_rfl) ?_
 refine w_sr (by kernel_rfl) ?_
 refine p_qn 2 [vI x1_kind, vI x1_lot, vI x1_from, vI x1_to, vI x1_mass] [(0, pB b_x0 0), (3, pB b1 0), (4, pB b2 0), (6, pB b_x0 0), (7, .agg #[vI x1_kind, vI x1_lot, vI x1_from, vI x1_to, vI x1_mass])] [.cell ⟨b1, 0, none⟩ (vI x1_kind), .cell ⟨b1, 1, none⟩ (vI x1_lot), .cell ⟨b1, 2, none⟩ (vI x1_from), .cell ⟨b1, 3, none⟩ (vI x1_to), .cell ⟨b1, 4, none⟩ (vI x1_mass)] hf2 (by kernel_rfl) (.cell (hS2.box (i := 1) rfl (j := 0) rfl) (.cell (hS2.box (i := 1) rfl (j := 1) rfl) (.cell (hS2.box (i := 1) rfl (j := 2) rfl) (.cell (hS2.box (i := 1) rfl (j := 3) rfl) (.cell (hS2.box (i := 1) rfl (j := 4) rfl) .nil))))) fun a3 hf3 => ?_
 have hS3 := St.swapTo (i := 3) (j := 0) (St.addEmp hS2) rfl rfl (by decide)
 have hS4 : St h (plA 126 40 117 b_x0 x0 :: box b2 [.slice none 0 0, .map none] 119 :: box b1 [vI x1_kind, vI x1_lot, vI x1_from, vI x1_to, vI x1_mass] 28 :: emp :: L) _ := hS3
 obtain ⟨r1, hd1, hr1⟩ := bind_some hr
 refine p_call (i := 2) (d := some 8) (f := 140) (args := #[pB b_x0 0, .agg #[vI x1_kind, vI x1_lot, vI x1_from, vI x1_to, vI x1_mass]]) hf3 (by kernel_rfl) (f140_ok fuel x0 x1_kind x1_lot x1_from x1_to x1_mass r1 hd1 h _ _ b_x0 hS4 ) ?_
 rintro v1 ww3 a4 ⟨z1, e1, q1, e2, k1, rfl, hS5, hx1, hx2⟩ hf4
 have hS6 := St.swapTo (i := 0) (j := 3) hS5 rfl rfl (by decide)
 have hS7 : St z1 (emp :: box b2 [.slice none 0 0, .map none] 119 :: box b1 [vI x1_kind, vI x1_lot, vI x1_from, vI x1_to, vI x1_mass] 28 :: plA 126 40 117 b_x0 r1.2.2 :: L) _ := hS6
 refine ⟨fun _ => trivial, ?_⟩
 refine p_box (i := 3) (d := (some 5)) (cs := [.slice none 0 0, .map none]) (T := 119) (v := fun b3 => pB b3 0) hS7 hf4 (fun b => by kernel_rfl) fun b3 ww4 a5 hS8 hf5 => ⟨fun _ => trivial, ?_⟩
 refine p_store_eq (i := 4) (j := 0) (b := b3) (off := 0) (vs := [.slice e1 r1.1.length q1, .map e2]) (cs' := [.slice e1 r1.1.length q1, .map e2]) hS8 hf5 rfl (by kernel_rfl) (by kernel_rfl) rfl fun ww5 a6 hS9 hf6 => ⟨fun _ => trivial, ?_⟩
 refine p_dt (by kernel_rfl) ?_
 refine w_sr (by kernel_rfl) ?_
 refine p_qn 4 [vI x1_to, .slice e1 r1.1.length q1, .map e2] [(4, pB b2 0), (5, pB b3 0), (9, pB b_x0 0), (11, vI x1_to), (12, .agg #[.slice e1 r1.1.length q1, .map e2])] [.cell ⟨b1, 3, none⟩ (vI x1_to), .cell ⟨b3, 0, none⟩ (.slice e1 r1.1.length q1), .cell ⟨b3, 1, none⟩ (.map e2)] hf6 (by kernel_rfl) (.cell (hS9.box (i := 3) rfl (j := 3) rfl) (.cell (hS9.box (i := 0) rfl (j := 0) rfl) (.cell (hS9.box (i := 0) rfl (j := 1) rfl) .nil))) fun a7 hf7 => ?_
 have hS10 := St.swapTo (i := 5) (j := 0) (St.addEmp hS9) rfl rfl (by decide)
 have hS11 : St z1 (plA 126 40 117 b_x0 r1.2.2 :: box b3 [.slice e1 r1.1.length q1, .map e2] 119 :: emp :: box b2 [.slice none 0 0, .map none] 119 :: box b1 [vI x1_kind, vI x1_lot, vI x1_from, vI x1_to, vI x1_mass] 28 :: emp :: L) _ := hS10
 obtain ⟨r2, hd2, hr2⟩ := bind_some hr1
 refine p_call (i := 4) (d := some 13) (f := 146) (args := #[pB b_x0 0, vI x1_to, .agg #[.slice e1 r1.1.length q1, .map e2]]) hf7 (by kernel_rfl) (f146_ok fuel r1.2.2 x1_to r1.1 r1.2.1 r2 hd2 z1 _ _ b_x0 hS11 e1 q1 hx1 e2 hx2) ?_
 rintro v2 ww6 a8 ⟨z2, k2, rfl, hS12⟩ hf8
 have hS13 := St.swapTo (i := 0) (j := 5) hS12 rfl rfl (by decide)
 have hS14 : St z2 (emp :: box b3 [.slice e1 r1.1.length q1, .map e2] 119 :: emp :: box b2 [.slice none 0 0, .map none] 119 :: box b1 [vI x1_kind, vI x1_lot, vI x1_from, vI x1_to, vI x1_mass] 28 :: plA 126 40 117 b_x0 r2 :: L) _ := hS13
 refine ⟨fun _ => trivial, ?_⟩
 refine p_dt (by kernel_rfl) ?_
 refine w_sr (by kernel_rfl) ?_
 refine p_qn 1 [.slice e1 r1.1.length q1, .map e2] [(4, pB b2 0), (14, .agg #[.slice e1 r1.1.length q1, .map e2])] [.cell ⟨b3, 0, none⟩ (.slice e1 r1.1.length q1), .cell ⟨b3, 1, none⟩ (.map e2)] hf8 (by kernel_rfl) (.cell (hS14.box (i := 1) rfl (j := 0) rfl) (.cell (hS14.box (i := 1) rfl (j := 1) rfl) .nil)) fun a9 hf9 => ?_
 refine p_store_eq (i := 1) (j := 3) (b := b2) (off := 0) (vs := [.slice e1 r1.1.length q1, .map e2]) (cs' := [.slice e1 r1.1.length q1, .map e2]) hS14 hf9 rfl (by kernel_rfl) (by kernel_rfl) rfl fun ww7 a10 hS15 hf10 => ⟨fun _ => trivial, ?_⟩
 refine p_dt (by kernel_rfl) ?_
 refine w_ret (by kernel_rfl) ?_
 refine p_ret (os := [.slice e1 r1.1.length q1, .map e2]) (v := .agg #[.slice e1 r1.1.length q1, .map e2]) (obs := [.cell ⟨b2, 0, none⟩ (.slice e1 r1.1.length q1), .cell ⟨b2, 1, none⟩ (.map e2)]) hf10 (by kernel_rfl) (.cell (hS15.box (i := 3) rfl (j := 0) rfl) (.cell (hS15.box (i := 3) rfl (j := 1) rfl) .nil)) ?_
 obtain rfl := some_eq hr2
 exact ⟨_, rfl, z2, e1, q1, e2, (Zone.le_trans k1 k2), rfl, (St.pick 6 [5] hS15 (by kernel_rfl)), (SliceR.mono k2 hx1), (MapR.mono k2 hx2)⟩
def F142_j1 (k1 : Pl → (List Part) → (List (Int × Bool)) → Int → Option (List Part × List (Int × Bool) × Pl)) (y1 : Int) (y2 : Pl) (y3 : List Part) (y4 : List (Int × Bool)) : Option (List Part × List (Int × Bool) × Pl) :=
  (k1 y2 y3 y4 (w64 (y1 + (1 : Int))))
def F142_l2 (fuel : Nat) (x1_from : Int) (p1 : List (List Part)) (p2 : List (List (Int × Bool))) (r1 : List Int) : Nat → Pl → (List Part) → (List (Int × Bool)) → Int → Option (List Part × List (Int × Bool) × Pl)
  | 0, _, _, _, _ => none
  | n1 + 1, y5, y6, y7, y1 =>
    let k1 : Pl → (List Part) → (List (Int × Bool)) → Int → Option (List Part × List (Int × Bool) × Pl) := F142_l2 fuel x1_from p1 p2 r1 n1
    (cond (decide (y1 < (r1.length : Int))) ((getI r1 y1).bind fun p3 => ((getI p1 y1).bind fun p4 => ((F91 fuel p4 p3).bind fun r2 => ((getI p2 y1).bind fun p5 => ((F148 fuel y5 x1_from r2.2 p5).bind fun r3 => (cond (decide (p3 > (0 : Int))) ((getI p2 y1).bind fun p6 => ((F150 fuel y6 y7 r2.1 p6).bind fun r4 => (F142_j1 k1 y1 r3 r4.1 r4.2))) (F142_j1 k1 y1 r3 y6 y7))))))) (some (y6, y7, y5)))
def F142_l1 (fuel : Nat) (x0 : Pl) (x1_from : Int) (x1_mass : Int) (p1 : List (List Part)) : Nat → (List Int) → Int → Option (List Part × List (Int × Bool) × Pl)
  | 0, _, _ => none
  | n2 + 1, y8, y9 =>
    let k2 : (List Int) → Int → Option (List Part × List (Int × Bool) × Pl) := F142_l1 fuel x0 x1_from x1_mass p1 n2
    (cond (decide (y9 < (p1.length : Int))) ((getI p1 y9).bind fun p7 => ((F90 fuel p7).bind fun r5 => ((appC y8 ([r5])).bind fun d1 => (k2 d1 (w64 (y9 + (1 : Int))))))) ((getI x0.may x1_from).bind fun p2 => ((F127 fuel x1_mass y8).bind fun r1 => (F142_l2 fuel x1_from p1 p2 r1 fuel (⟨x0.lots, (x0.holds.set (Int.toNat x1_from) ([])), (x0.may.set (Int.toNat x1_from) ([]))⟩ : Pl) ([]) ([]) 0))))
def F142 (fuel : Nat) (x0 : Pl) (x1_kind : Int) (x1_lot : Int) (x1_from : Int) (x1_to : Int) (x1_mass : Int) : Option (List Part × List (Int × Bool) × Pl) :=
  ((getI x0.holds x1_from).bind fun p1 => (F142_l1 fuel x0 x1_from x1_mass p1 fuel ([]) 0))
set_option maxRecDepth 100000 in
theorem f142_ok (fuel : Nat) (x0 : Pl) (x1_kind : Int) (x1_lot : Int) (x1_from : Int) (x1_to : Int) (x1_mass : Int) (r : List Part × List (Int × Bool) × Pl) (hr : F142 fuel x0 x1_kind x1_lot x1_from x1_to x1_mass = some r) (h : Zone) (L : List Atom) (w : World) (b_x0 : Nat) (hS : St h (plA 126 40 117 b_x0 x0 :: L) w)  :
    Calls Try.prog 142 #[pB b_x0 0, .agg #[vI x1_kind, vI x1_lot, vI x1_from, vI x1_to, vI x1_mass]] w fun e w' => ∃ v, e = .returned v ∧ (∃ h', ∃ o0 : Option Addr, ∃ c0 : Nat, ∃ o1 : Option Nat, Zone.le h h' ∧ v = .agg #[.slice o0 r.1.length c0, .map o1] ∧ St h' (plA 126 40 117 b_x0 r.2.2 :: L) w' ∧ SliceR PartT h' o0 c0 r.1 ∧ MapR Value.bool h' o1 r.2.1) := by
 refine calls_intro (N := 103) Try.func142 (by kernel_rfl) fun a hf => ?_
 refine w_sr (by kernel_rfl) ?_
 refine p_box (i := 0) (d := (some 3)) (cs := [vI x1_kind, vI x1_lot, vI x1_from, vI x1_to, vI x1_mass]) (T := 28) (v := fun b1 => pB b1 0) hS hf (fun b => by kernel_rfl) fun b1 ww1 a1 hS1 hf1 => ⟨fun _ => trivial, ?_⟩
 refine p_box (i := 1) (d := (some 4)) (cs := [.slice none 0 0, .map none]) (T := 119) (v := fun b2 => pB b2 0) hS1 hf1 (fun b => by kernel_rfl) fun b2 ww2 a2 hS2 hf2 => ⟨fun _ => trivial, ?_⟩
 refine p_dt (by kernel_rfl) ?_
 refine w_sq [] [(0, pB b_x0 0), (3, pB b1 0), (4, pB b2 0), (5, .slice none 0 0)] [] hf2 (by kernel_rfl) .nil fun a3 hf3 => ?_
 refine w_seq (by kernel_rfl) ?_
 obtain ⟨e1, q1, v1, v2, v3, v4, v5, v6, v7, v8, v9, v10, v11, v12, v13, v14, v15, v16, v17, v18, hx1, hS3⟩ := hS2.plOpen (i := 2) rfl
 obtain ⟨p1, hp774, hr1⟩ := bind_some hr
 obtain ⟨e2, q2, hv1, hb1, hS4⟩ := hS3.ownOpen (j := 0) rfl hp774
 have hS5 := hS4.drew
 refine w_sqD [(0, true), (1, true), (2, true), (3, true), (4, true), (5, true), (6, true), (7, true), (8, true), (9, true)] [] [vI x1_from, .slice e2 p1.length q2] [(0, pB b_x0 0), (3, pB b1 0), (4, pB b2 0), (5, .slice none 0 0), (22, .slice e2 p1.length q2), (23, vI (p1.length : Int)), (24, vI 0)] [.cell ⟨b1, 2, none⟩ (vI x1_from), .prop (0 ≤ x1_from ∧ x1_from < (9 : Nat)), .cell ((⟨b_x0, 1, none⟩ : Addr).add (Int.toNat x1_from * 1)) (.slice e2 p1.length q2)] [] hf3 (by kernel_rfl) (.cell (hS5.box (i := 4) rfl (j := 2) rfl) (.prop hb1 (.cell ((arrAddr b_x0 1 (Int.toNat x1_from)) ▸ (hS5.box (i := 5) rfl (getElem?_app_right [.slice e1 x0.lots.length q1] _ _ hv1 [v10, v11, v12, v13, v14, v15, v16, v17, v18]))) .nil))) .nil fun a4 hf4 => ?_
 refine w_block (id := 0) (by kernel_rfl) ?_
 have hS6 := hS5.ownNil Ty.int 3
 have hf5 := Fr.keep (ks := [0, 3, 4, 5, 22, 23, 24]) (r := [(0, pB b_x0 0), (3, pB b1 0), (4, pB b2 0), (5, .slice none 0 0), (22, .slice e2 p1.length q2), (23, vI (p1.length : Int)), (24, vI 0)]) hf4 (by kernel_rfl)
 refine w_loop (by kernel_rfl) (fun n a w => ∃ z1 : Zone, ∃ y8 : List Int, ∃ y9 : Int, ∃ e3 : Option Addr, ∃ q3 : Nat, Zone.le h z1 ∧ Fr a 103 [(0, pB b_x0 0), (3, pB b1 0), (4, pB b2 0), (5, .slice e3 y8.length q3), (22, .slice e2 p1.length q2), (23, vI (p1.length : Int)), (24, vI y9)] ∧ St z1 (ownS Ty.int 3 e3 q3 y8 :: ownS (Ty.slice PartT) 40 e2 q2 p1 :: ownH (Ty.slice PartT) 40 [v1, v2, v3, v4, v5, v6, v7, v8, v9] x0.holds (Int.toNat x1_from) :: ownA (Ty.map Value.bool) 117 [v10, v11, v12, v13, v14, v15, v16, v17, v18] x0.may :: box b2 [.slice none 0 0, .map none] 119 :: box b1 [vI x1_kind, vI x1_lot, vI x1_from, vI x1_to, vI x1_mass] 28 :: box b_x0 [.slice e1 x0.lots.length q1, v1, v2, v3, v4, v5, v6, v7, v8, v9, v10, v11, v12, v13, v14, v15, v16, v17, v18] 126 :: L) w ∧ (F142_l1 fuel x0 x1_from x1_mass p1 n y8 y9) = some r) fuel ⟨h, [], 0, none, 0, (Zone.le_refl _), hf5, hS6, hr1⟩ ?_
 rintro n3 a5 ww3 ⟨z1, y8, y9, e3, q3, k3, hf6, hS7, hr2⟩
 cases n3 with
 | zero => cases hr2
 | succ n2 =>
 refine w_sq [] [(0, pB b_x0 0), (3, pB b1 0), (4, pB b2 0), (5, .slice e3 y8.length q3), (22, .slice e2 p1.length q2), (23, vI (p1.length : Int)), (24, vI y9), (25, .bool (decide (y9 < (p1.length : Int))))] [] hf6 (by kernel_rfl) .nil fun a6 hf7 => ?_
 refine w_seq (by kernel_rfl) ?_
 refine w_if hf7 (b := (decide (y9 < (p1.length : Int)))) (by kernel_rfl) (fun hb2 => ?_) (fun hb2 => ?_)
 ·have hr3 := cond_t hb2 hr2
  refine w_skip (by kernel_rfl) ?_
  refine n_then ?_
  refine w_seq (by kernel_rfl) ?_
  refine w_block (id := 1) (by kernel_rfl) ?_
  refine w_sr (by kernel_rfl) ?_
  obtain ⟨p7, hp1421, hr4⟩ := bind_some hr3
  obtain ⟨ad1, ho1, hb3, cc1, hc1, hk1⟩ := hS7.ownGet (j := 1) rfl hp1421
  obtain ⟨e4, q4, rfl, hx2⟩ := hc1
  refine p_qn 2 [.pointer (some ad1), .slice e4 p7.length q4] [(0, pB b_x0 0), (3, pB b1 0), (4, pB b2 0), (5, .slice e3 y8.length q3), (22, .slice e2 p1.length q2), (23, vI (p1.length : Int)), (24, vI y9), (27, .agg #[.slice e4 p7.length q4])] [.prop (e2 = some ad1), .prop (0 ≤ y9 ∧ y9 < (p1.length : Nat)), .cell ((ad1.add (Int.toNat y9 * 1)).add 0) (.slice e4 p7.length q4)] hf7 (by kernel_rfl) (.prop ho1 (.prop hb3 (.cell (hk1 0 _ rfl) .nil))) fun a7 hf8 => ?_
  refine p_box (i := 2) (d := (some 7)) (cs := [.slice none 0 0]) (T := 40) (v := fun b3 => pB b3 0) hS7 hf8 (fun b => by kernel_rfl) fun b3 ww4 a8 hS8 hf9 => ⟨fun _ => trivial, ?_⟩
  refine p_store_eq (i := 3) (j := 0) (b := b3) (off := 0) (vs := [.slice e4 p7.length q4]) (cs' := [.slice e4 p7.length q4]) hS8 hf9 rfl (by kernel_rfl) (by kernel_rfl) rfl fun ww5 a9 hS9 hf10 => ⟨fun _ => trivial, ?_⟩
  refine p_dt (by kernel_rfl) ?_
  refine w_reg (by kernel_rfl) ?_
  refine p_qn 2 [.slice e4 p7.length q4] [(0, pB b_x0 0), (3, pB b1 0), (4, pB b2 0), (22, .slice e2 p1.length q2), (23, vI (p1.length : Int)), (24, vI y9), (28, .slice e3 y8.length q3), (29, .agg #[.slice e4 p7.length q4])] [.cell ⟨b3, 0, none⟩ (.slice e4 p7.length q4)] hf10 (by kernel_rfl) (.cell (hS9.box (i := 0) rfl (j := 0) rfl) .nil) fun a10 hf11 => ?_
  obtain ⟨r5, hd1, hr5⟩ := bind_some hr4
  refine p_call (i := 2) (d := some 30) (f := 90) (args := #[.agg #[.slice e4 p7.length q4]]) hf11 (by kernel_rfl) (f90_ok fuel p7 r5 hd1 z1 _ _ hS9 e4 q4 hx2) ?_
  rintro v19 ww6 a11 ⟨z2, k4, rfl, hS10⟩ hf12
  refine ⟨fun _ => trivial, ?_⟩
  refine p_box (i := 3) (d := (some 31)) (cs := [vI r5]) (T := 3) (v := fun b4 => .slice (some ⟨b4, 0, none⟩) 1 1) hS10 hf12 (fun b => by kernel_rfl) fun b4 ww7 a12 hS11 hf13 => ⟨fun _ => trivial, ?_⟩
  have hS12 := hS11.ownBox (T := Ty.int) (E := 3) (n := 1) (xs := [r5]) (i := 0) rfl (Rows.cons (c := [vI r5]) rfl rfl) rfl (by decide)
  obtain ⟨d1, hd2, hr6⟩ := bind_some hr5
  refine p_append (T := Ty.int) (i := 4) (j := 2) (d := some 32) (o2 := (some ⟨b4, 0, none⟩)) (c2 := 1) (ys := ([r5])) el53 hS12 hf13 rfl (by kernel_rfl) (hS12.ownSrc (j := 0) rfl) hd2 fun e5 q5 ww8 a13 hS13 hf14 => ⟨fun _ => trivial, ?_⟩
  refine p_qz [] [(0, pB b_x0 0), (3, pB b1 0), (4, pB b2 0), (5, .slice e5 d1.length q5), (22, .slice e2 p1.length q2), (23, vI (p1.length : Int)), (24, vI y9)] [] hf14 (by kernel_rfl) .nil fun a14 hf15 => ?_
  refine n_block ?_
  refine n_then ?_
  refine w_q [] [(0, pB b_x0 0), (3, pB b1 0), (4, pB b2 0), (5, .slice e5 d1.length q5), (22, .slice e2 p1.length q2), (23, vI (p1.length : Int)), (24, vI (w64 (y9 + (1 : Int))))] [] hf15 (by kernel_rfl) .nil fun a15 hf16 => ?_
  refine n_then ?_
  have hf17 := Fr.keep (ks := [0, 3, 4, 5, 22, 23, 24]) (r := [(0, pB b_x0 0), (3, pB b1 0), (4, pB b2 0), (5, .slice e5 d1.length q5), (22, .slice e2 p1.length q2), (23, vI (p1.length : Int)), (24, vI (w64 (y9 + (1 : Int))))]) hf16 (by kernel_rfl)
  exact ⟨n2, Nat.lt_succ_self n2, z2, d1, (w64 (y9 + (1 : Int))), e5, q5, (Zone.le_trans k3 k4), hf17, (St.drop 2 hS13), hr6⟩
 ·have hr7 := cond_f hb2 hr2
  refine w_exit (id := 0) (by kernel_rfl) ?_
  refine x_then ?_
  refine x_then ?_
  refine x_block ?_
  refine n_then ?_
  obtain ⟨p2, hp1486, hr8⟩ := bind_some hr7
  obtain ⟨e6, q6, hv2, hb4, hS14⟩ := hS7.ownOpen (j := 3) rfl hp1486
  have hS15 := hS14.drew
  refine w_sqD [(0, true), (1, true), (2, true), (3, true), (4, true), (5, true), (6, true), (7, true), (8, true), (9, true), (10, true), (11, true), (12, true), (13, true), (14, true), (15, true), (16, true)] [] [vI x1_from, .slice e2 p1.length q2, vI x1_from, .slice e6 p2.length q6] [(0, pB b_x0 0), (3, pB b1 0), (4, pB b2 0), (5, .slice e3 y8.length q3), (8, .slice e2 p1.length q2), (9, .slice e6 p2.length q6)] [.cell ⟨b1, 2, none⟩ (vI x1_from), .prop (0 ≤ x1_from ∧ x1_from < (9 : Nat)), .cell ((⟨b_x0, 1, none⟩ : Addr).add (Int.toNat x1_from * 1)) (.slice e2 p1.length q2), .cell ⟨b1, 2, none⟩ (vI x1_from), .prop (0 ≤ x1_from ∧ x1_from < (9 : Nat)), .cell ((⟨b_x0, 10, none⟩ : Addr).add (Int.toNat x1_from * 1)) (.slice e6 p2.length q6)] [] hf7 (by kernel_rfl) (.cell (hS15.box (i := 6) rfl (j := 2) rfl) (.prop hb1 (.cell ((arrAddr b_x0 1 (Int.toNat x1_from)) ▸ (hS15.box (i := 7) rfl (getElem?_app_right [.slice e1 x0.lots.length q1] _ _ hv1 [v10, v11, v12, v13, v14, v15, v16, v17, v18]))) (.cell (hS15.box (i := 6) rfl (j := 2) rfl) (.prop hb4 (.cell ((arrAddr b_x0 10 (Int.toNat x1_from)) ▸ (hS15.box (i := 7) rfl (getElem?_app_right [.slice e1 x0.lots.length q1, v1, v2, v3, v4, v5, v6, v7, v8, v9] _ _ hv2 []))) .nil)))))) .nil fun a16 hf18 => ?_
  refine w_seq (by kernel_rfl) ?_
  have hS16 := hS15.drew
  have s1 : Sub z1 (ownS (Ty.map Value.bool) 117 e6 q6 p2 :: ownS Ty.int 3 e3 q3 y8 :: ownS (Ty.slice PartT) 40 e2 q2 p1 :: ownH (Ty.slice PartT) 40 [v1, v2, v3, v4, v5, v6, v7, v8, v9] x0.holds (Int.toNat x1_from) :: ownH (Ty.map Value.bool) 117 [v10, v11, v12, v13, v14, v15, v16, v17, v18] x0.may (Int.toNat x1_from) :: box b2 [.slice none 0 0, .map none] 119 :: box b1 [vI x1_kind, vI x1_lot, vI x1_from, vI x1_to, vI x1_mass] 28 :: anyA :: L) _ := Sub.of (Zone.le_refl _) (hS16.mask (i := 7) rfl)
  refine w_regD (by kernel_rfl) [(0, true), (1, true), (2, true), (3, true), (4, true), (5, true), (6, true), (7, true), (8, true), (9, true), (11, true), (12, true), (10, false), (13, true), (14, false)] [14] (Sub z1 (ownS (Ty.map Value.bool) 117 e6 q6 p2 :: ownS Ty.int 3 e3 q3 y8 :: ownS (Ty.slice PartT) 40 e2 q2 p1 :: ownH (Ty.slice PartT) 40 [v1, v2, v3, v4, v5, v6, v7, v8, v9] x0.holds (Int.toNat x1_from) :: ownH (Ty.map Value.bool) 117 [v10, v11, v12, v13, v14, v15, v16, v17, v18] x0.may (Int.toNat x1_from) :: box b2 [.slice none 0 0, .map none] 119 :: box b1 [vI x1_kind, vI x1_lot, vI x1_from, vI x1_to, vI x1_mass] 28 :: anyA :: L)) (by kernel_rfl) s1 ?_
  refine p_qS 12 [vI x1_from, vI x1_from] [(0, pB b_x0 0), (3, pB b1 0), (4, pB b2 0), (5, .slice e3 y8.length q3), (8, .slice e2 p1.length q2), (9, .slice e6 p2.length q6), (54, vI x1_from), (58, .pointer (some ((⟨b_x0, 1, none⟩ : Addr).add (Int.toNat x1_from * 1)))), (60, pB b_x0 10)] [.cell ⟨b1, 2, none⟩ (vI x1_from), .cell ⟨b1, 2, none⟩ (vI x1_from), .prop (0 ≤ x1_from ∧ x1_from < (9 : Nat))] [] s1 hf18 (by kernel_rfl) (fun _ s => (.cell (s.box (i := 6) rfl (j := 2) rfl) (.cell (s.box (i := 6) rfl (j := 2) rfl) (.prop hb1 .nil)))) .nil fun a17 hf19 => ?_
  have hS17 := hS16.ownNil (Ty.slice PartT) 40
  refine p_storeA (i := 10) (j := 8) (b := b_x0) (ix := x1_from) (pre := [.slice e1 x0.lots.length q1]) (vs := [v1, v2, v3, v4, v5, v6, v7, v8, v9]) (post := [v10, v11, v12, v13, v14, v15, v16, v17, v18]) (v := .slice none 0 0) hS17 hf19 rfl (by have z3 := hb1.1; have z4 := hb1.2; simp at z4 ⊢; omega) (by kernel_rfl) rfl fun ww9 a18 hS18 hf20 => ⟨fun _ => Sub.of (Zone.le_refl _) ((St.drop 1 hS18).mask (i := 7) rfl), ?_⟩
  obtain ⟨v20, v21, v22, v23, v24, v25, v26, v27, v28, hu1507⟩ := nine (vs := [v1, v2, v3, v4, v5, v6, v7, v8, v9].set (Int.toNat x1_from) (.slice none 0 0)) (by simp)
  rw [hu1507] at hS18
  have hv3 : [v20, v21, v22, v23, v24, v25, v26, v27, v28][Int.toNat x1_from]? = some (.slice none 0 0) := by rw [← hu1507]; exact List.getElem?_set_self (by have z3 := hb1.1; have z4 := hb1.2; simp at z4 ⊢; omega)
  have hS19 : St z1 (ownS (Ty.slice PartT) 40 none 0 ([]) :: ownS (Ty.map Value.bool) 117 e6 q6 p2 :: ownS Ty.int 3 e3 q3 y8 :: ownS (Ty.slice PartT) 40 e2 q2 p1 :: ownH (Ty.slice PartT) 40 [v1, v2, v3, v4, v5, v6, v7, v8, v9] x0.holds (Int.toNat x1_from) :: ownH (Ty.map Value.bool) 117 [v10, v11, v12, v13, v14, v15, v16, v17, v18] x0.may (Int.toNat x1_from) :: box b2 [.slice none 0 0, .map none] 119 :: box b1 [vI x1_kind, vI x1_lot, vI x1_from, vI x1_to, vI x1_mass] 28 :: box b_x0 [.slice e1 x0.lots.length q1, v20, v21, v22, v23, v24, v25, v26, v27, v28, v10, v11, v12, v13, v14, v15, v16, v17, v18] 126 :: L) ww9 := hS18
  have s2 : Sub z1 (ownS (Ty.map Value.bool) 117 e6 q6 p2 :: ownS Ty.int 3 e3 q3 y8 :: ownS (Ty.slice PartT) 40 e2 q2 p1 :: ownH (Ty.slice PartT) 40 [v1, v2, v3, v4, v5, v6, v7, v8, v9] x0.holds (Int.toNat x1_from) :: ownH (Ty.map Value.bool) 117 [v10, v11, v12, v13, v14, v15, v16, v17, v18] x0.may (Int.toNat x1_from) :: box b2 [.slice none 0 0, .map none] 119 :: box b1 [vI x1_kind, vI x1_lot, vI x1_from, vI x1_to, vI x1_mass] 28 :: anyA :: L) _ := Sub.of (Zone.le_refl _) ((St.drop 1 hS19).mask (i := 7) rfl)
  refine p_qS 1 [] [(0, pB b_x0 0), (3, pB b1 0), (4, pB b2 0), (5, .slice e3 y8.length q3), (8, .slice e2 p1.length q2), (9, .slice e6 p2.length q6), (61, .pointer (some ((⟨b_x0, 10, none⟩ : Addr).add (Int.toNat x1_from * 1))))] [.prop (0 ≤ x1_from ∧ x1_from < (9 : Nat))] [] s2 hf20 (by kernel_rfl) (fun _ s => (.prop hb4 .nil)) .nil fun a19 hf21 => ?_
  have hS20 := hS19.ownNil (Ty.map Value.bool) 117
  refine p_storeA (i := 14) (j := 9) (b := b_x0) (ix := x1_from) (pre := [.slice e1 x0.lots.length q1, v20, v21, v22, v23, v24, v25, v26, v27, v28]) (vs := [v10, v11, v12, v13, v14, v15, v16, v17, v18]) (post := []) (v := .slice none 0 0) hS20 hf21 rfl (by have z3 := hb4.1; have z4 := hb4.2; simp at z4 ⊢; omega) (by kernel_rfl) rfl fun ww10 a20 hS21 hf22 => ⟨fun e => absurd e (by decide), ?_⟩
  obtain ⟨v29, v30, v31, v32, v33, v34, v35, v36, v37, hu1528⟩ := nine (vs := [v10, v11, v12, v13, v14, v15, v16, v17, v18].set (Int.toNat x1_from) (.slice none 0 0)) (by simp)
  rw [hu1528] at hS21
  have hv4 : [v29, v30, v31, v32, v33, v34, v35, v36, v37][Int.toNat x1_from]? = some (.slice none 0 0) := by rw [← hu1528]; exact List.getElem?_set_self (by have z3 := hb4.1; have z4 := hb4.2; simp at z4 ⊢; omega)
  have hS22 : St z1 (ownS (Ty.map Value.bool) 117 none 0 ([]) :: ownS (Ty.slice PartT) 40 none 0 ([]) :: ownS (Ty.map Value.bool) 117 e6 q6 p2 :: ownS Ty.int 3 e3 q3 y8 :: ownS (Ty.slice PartT) 40 e2 q2 p1 :: ownH (Ty.slice PartT) 40 [v1, v2, v3, v4, v5, v6, v7, v8, v9] x0.holds (Int.toNat x1_from) :: ownH (Ty.map Value.bool) 117 [v10, v11, v12, v13, v14, v15, v16, v17, v18] x0.may (Int.toNat x1_from) :: box b2 [.slice none 0 0, .map none] 119 :: box b1 [vI x1_kind, vI x1_lot, vI x1_from, vI x1_to, vI x1_mass] 28 :: box b_x0 [.slice e1 x0.lots.length q1, v20, v21, v22, v23, v24, v25, v26, v27, v28, v29, v30, v31, v32, v33, v34, v35, v36, v37] 126 :: L) ww10 := hS21
  refine p_done (by kernel_rfl) ?_
  have hS23 := hS22.ownClose (j := 5) (k := 1) rfl rfl (by decide) (List.getElem?_eq_some_iff.1 (getI_spec hp774).2).1
  simp only [List.length_nil] at hS23
  rw [hu1507] at hS23
  have hS24 := hS23.ownClose (j := 6) (k := 0) rfl rfl (by decide) (List.getElem?_eq_some_iff.1 (getI_spec hp1486).2).1
  simp only [List.length_nil] at hS24
  rw [hu1528] at hS24
  have hS25 := hS24.plClose (i := 9) (j := 5) (k := 6) rfl (SliceR.mono k3 hx1) rfl rfl (by decide) (by decide) (by decide)
  refine n_then ?_
  refine w_sr (by kernel_rfl) ?_
  refine p_box (i := 0) (d := (some 10)) (cs := [.slice none 0 0, .map none]) (T := 119) (v := fun b5 => pB b5 0) hS25 hf22 (fun b => by kernel_rfl) fun b5 ww11 a21 hS26 hf23 => ⟨fun _ => trivial, ?_⟩
  refine p_dt (by kernel_rfl) ?_
  refine w_seq (by kernel_rfl) ?_
  refine w_sr (by kernel_rfl) ?_
  refine p_qn 3 [vI x1_mass] [(0, pB b_x0 0), (3, pB b1 0), (4, pB b2 0), (8, .slice e2 p1.length q2), (9, .slice e6 p2.length q6), (10, pB b5 0), (63, vI x1_mass), (64, .slice e3 y8.length q3)] [.cell ⟨b1, 4, none⟩ (vI x1_mass)] hf23 (by kernel_rfl) (.cell (hS26.box (i := 9) rfl (j := 4) rfl) .nil) fun a22 hf24 => ?_
  obtain ⟨z5, k5, hS27, hx3⟩ := hS26.share (j := 4) rfl
  obtain ⟨r1, hd3, hr9⟩ := bind_some hr8
  refine p_call (i := 3) (d := some 65) (f := 127) (args := #[vI x1_mass, .slice e3 y8.length q3]) hf24 (by kernel_rfl) (f127_ok fuel x1_mass y8 r1 hd3 z5 _ _ hS27 e3 q3 hx3) ?_
  rintro v38 ww12 a23 ⟨z6, e7, q7, k6, rfl, hS28, hx4⟩ hf25
  refine ⟨fun _ => trivial, ?_⟩
  refine p_qt [] [(0, pB b_x0 0), (3, pB b1 0), (4, pB b2 0), (8, .slice e2 p1.length q2), (9, .slice e6 p2.length q6), (10, pB b5 0), (65, .slice e7 r1.length q7), (66, vI (r1.length : Int)), (67, vI 0)] [] hf25 (by kernel_rfl) .nil fun a24 hf26 => ?_
  refine w_block (id := 2) (by kernel_rfl) ?_
  have hf27 := Fr.keep (ks := [0, 3, 4, 8, 9, 10, 65, 66, 67]) (r := [(0, pB b_x0 0), (3, pB b1 0), (4, pB b2 0), (8, .slice e2 p1.length q2), (9, .slice e6 p2.length q6), (10, pB b5 0), (65, .slice e7 r1.length q7), (66, vI (r1.length : Int)), (67, vI 0)]) hf26 (by kernel_rfl)
  refine w_loop (by kernel_rfl) (fun n a w => ∃ z7 : Zone, ∃ y5 : Pl, ∃ y6 : List Part, ∃ y7 : List (Int × Bool), ∃ y1 : Int, ∃ e8 : Option Addr, ∃ q8 : Nat, ∃ e9 : Option Nat, Zone.le z6 z7 ∧ Fr a 103 [(0, pB b_x0 0), (3, pB b1 0), (4, pB b2 0), (8, .slice e2 p1.length q2), (9, .slice e6 p2.length q6), (10, pB b5 0), (65, .slice e7 r1.length q7), (66, vI (r1.length : Int)), (67, vI y1)] ∧ St z7 (box b5 [.slice e8 y6.length q8, .map e9] 119 :: emp :: emp :: ownS (Ty.map Value.bool) 117 e6 q6 p2 :: emp :: ownS (Ty.slice PartT) 40 e2 q2 p1 :: emp :: emp :: box b2 [.slice none 0 0, .map none] 119 :: box b1 [vI x1_kind, vI x1_lot, vI x1_from, vI x1_to, vI x1_mass] 28 :: plA 126 40 117 b_x0 y5 :: L) w ∧ SliceR PartT z7 e8 q8 y6 ∧ MapR Value.bool z7 e9 y7 ∧ (F142_l2 fuel x1_from p1 p2 r1 n y5 y6 y7 y1) = some r) fuel ⟨z6, (⟨x0.lots, (x0.holds.set (Int.toNat x1_from) ([])), (x0.may.set (Int.toNat x1_from) ([]))⟩ : Pl), [], [], 0, none, 0, none, (Zone.le_refl _), hf27, hS28, SliceR.nil' _ _, (MapR.nil' _ _), hr9⟩ ?_
  rintro n4 a25 ww13 ⟨z7, y5, y6, y7, y1, e8, q8, e9, k7, hf28, hS29, hx5, hx6, hr10⟩
  cases n4 with
  | zero => cases hr10
  | succ n1 =>
  refine w_sq [] [(0, pB b_x0 0), (3, pB b1 0), (4, pB b2 0), (8, .slice e2 p1.length q2), (9, .slice e6 p2.length q6), (10, pB b5 0), (65, .slice e7 r1.length q7), (66, vI (r1.length : Int)), (67, vI y1), (68, .bool (decide (y1 < (r1.length : Int))))] [] hf28 (by kernel_rfl) .nil fun a26 hf29 => ?_
  refine w_seq (by kernel_rfl) ?_
  refine w_if hf29 (b := (decide (y1 < (r1.length : Int)))) (by kernel_rfl) (fun hb5 => ?_) (fun hb5 => ?_)
  ·have hr11 := cond_t hb5 hr10
   refine w_skip (by kernel_rfl) ?_
   refine n_then ?_
   refine w_mid (by kernel_rfl) (fun a w => ∃ z8 : Zone, ∃ y2 : Pl, ∃ y3 : List Part, ∃ y4 : List (Int × Bool), ∃ e10 : Option Addr, ∃ q9 : Nat, ∃ e11 : Option Nat, Zone.le z7 z8 ∧ Fr a 103 [(0, pB b_x0 0), (3, pB b1 0), (4, pB b2 0), (8, .slice e2 p1.length q2), (9, .slice e6 p2.length q6), (10, pB b5 0), (65, .slice e7 r1.length q7), (66, vI (r1.length : Int)), (67, vI y1)] ∧ St z8 (box b5 [.slice e10 y3.length q9, .map e11] 119 :: emp :: emp :: ownS (Ty.map Value.bool) 117 e6 q6 p2 :: emp :: ownS (Ty.slice PartT) 40 e2 q2 p1 :: emp :: emp :: box b2 [.slice none 0 0, .map none] 119 :: box b1 [vI x1_kind, vI x1_lot, vI x1_from, vI x1_to, vI x1_mass] 28 :: plA 126 40 117 b_x0 y2 :: L) w ∧ SliceR PartT z8 e10 q9 y3 ∧ MapR Value.bool z8 e11 y4 ∧ (F142_j1 (F142_l2 fuel x1_from p1 p2 r1 n1) y1 y2 y3 y4) = some r) ?_ ?_
   ·skip
    refine w_block (id := 3) (by kernel_rfl) ?_
    obtain ⟨p3, hp5107, hr12⟩ := bind_some hr11
    obtain ⟨ad2, ho2, hb6, cc2, hc2, hk2⟩ := SliceR.getI (SliceR.mono k7 hx4) hp5107
    subst hc2
    refine w_sq [.pointer (some ad2), vI p3] [(0, pB b_x0 0), (3, pB b1 0), (4, pB b2 0), (8, .slice e2 p1.length q2), (9, .slice e6 p2.length q6), (10, pB b5 0), (11, vI y1), (12, vI p3), (65, .slice e7 r1.length q7), (66, vI (r1.length : Int)), (67, vI y1)] [.prop (e7 = some ad2), .prop (0 ≤ y1 ∧ y1 < (r1.length : Nat)), .cell ((ad2.add (Int.toNat y1 * 1)).add 0) (vI p3)] hf29 (by kernel_rfl) (.prop ho2 (.prop hb6 (.cell (hS29.cell (hk2 0 _ rfl)) .nil))) fun a27 hf30 => ?_
    refine w_sr (by kernel_rfl) ?_
    obtain ⟨p4, hp5118, hr13⟩ := bind_some hr12
    obtain ⟨ad3, ho3, hb7, cc3, hc3, hk3⟩ := hS29.ownGet (j := 5) rfl hp5118
    obtain ⟨e12, q10, rfl, hx7⟩ := hc3
    refine p_qn 5 [.pointer (some ad3), .slice e12 p4.length q10] [(0, pB b_x0 0), (3, pB b1 0), (4, pB b2 0), (8, .slice e2 p1.length q2), (9, .slice e6 p2.length q6), (10, pB b5 0), (11, vI y1), (12, vI p3), (65, .slice e7 r1.length q7), (66, vI (r1.length : Int)), (67, vI y1), (76, .agg #[.slice e12 p4.length q10]), (77, vI p3)] [.prop (e2 = some ad3), .prop (0 ≤ y1 ∧ y1 < (p1.length : Nat)), .cell ((ad3.add (Int.toNat y1 * 1)).add 0) (.slice e12 p4.length q10)] hf30 (by kernel_rfl) (.prop ho3 (.prop hb7 (.cell (hk3 0 _ rfl) .nil))) fun a28 hf31 => ?_
    obtain ⟨r2, hd4, hr14⟩ := bind_some hr13
    refine p_call (i := 5) (d := some 78) (f := 91) (args := #[.agg #[.slice e12 p4.length q10], vI p3]) hf31 (by kernel_rfl) (f91_ok fuel p4 p3 r2 hd4 z7 _ _ hS29 e12 q10 hx7) ?_
    rintro v39 ww14 a29 ⟨z9, e13, q11, e14, q12, k8, rfl, hS30, hx8, hx9⟩ hf32
    refine ⟨fun _ => trivial, ?_⟩
    refine p_qn 3 [] [(0, pB b_x0 0), (3, pB b1 0), (4, pB b2 0), (8, .slice e2 p1.length q2), (9, .slice e6 p2.length q6), (10, pB b5 0), (11, vI y1), (12, vI p3), (65, .slice e7 r1.length q7), (66, vI (r1.length : Int)), (67, vI y1), (79, .agg #[.slice e13 r2.1.length q11]), (80, .agg #[.slice e14 r2.2.length q12])] [] hf32 (by kernel_rfl) .nil fun a30 hf33 => ?_
    refine p_box (i := 9) (d := (some 13)) (cs := [.slice none 0 0]) (T := 40) (v := fun b6 => pB b6 0) hS30 hf33 (fun b => by kernel_rfl) fun b6 ww15 a31 hS31 hf34 => ⟨fun _ => trivial, ?_⟩
    refine p_box (i := 10) (d := (some 14)) (cs := [.slice none 0 0]) (T := 40) (v := fun b7 => pB b7 0) hS31 hf34 (fun b => by kernel_rfl) fun b7 ww16 a32 hS32 hf35 => ⟨fun _ => trivial, ?_⟩
    refine p_store_eq (i := 11) (j := 1) (b := b6) (off := 0) (vs := [.slice e13 r2.1.length q11]) (cs' := [.slice e13 r2.1.length q11]) hS32 hf35 rfl (by kernel_rfl) (by kernel_rfl) rfl fun ww17 a33 hS33 hf36 => ⟨fun _ => trivial, ?_⟩
    refine p_store_eq (i := 12) (j := 0) (b := b7) (off := 0) (vs := [.slice e14 r2.2.length q12]) (cs' := [.slice e14 r2.2.length q12]) hS33 hf36 rfl (by kernel_rfl) (by kernel_rfl) rfl fun ww18 a34 hS34 hf37 => ⟨fun _ => trivial, ?_⟩
    refine p_dt (by kernel_rfl) ?_
    refine w_seq (by kernel_rfl) ?_
    have hS35 := hS34.drew
    refine w_regD (by kernel_rfl) [(0, true), (1, true), (2, true), (3, true), (4, true), (5, true), (6, true), (7, true), (8, true), (9, false)] [9] (fun x => x = ww18.drew) (by kernel_rfl) rfl ?_
    obtain ⟨p5, hp5174, hr15⟩ := bind_some hr14
    obtain ⟨ad4, ho4, hb8, cc4, hc4, hk4⟩ := hS35.ownGet (j := 5) rfl hp5174
    obtain ⟨e15, rfl, hx10⟩ := hc4
    refine p_qE 9 [vI x1_from, .slice e14 r2.2.length q12, .pointer (some ad4), .map e15] [(0, pB b_x0 0), (3, pB b1 0), (4, pB b2 0), (8, .slice e2 p1.length q2), (9, .slice e6 p2.length q6), (10, pB b5 0), (11, vI y1), (12, vI p3), (13, pB b6 0), (65, .slice e7 r1.length q7), (66, vI (r1.length : Int)), (67, vI y1), (81, pB b_x0 0), (83, vI x1_from), (89, .agg #[.slice e14 r2.2.length q12, .map e15])] [.cell ⟨b1, 2, none⟩ (vI x1_from), .cell ⟨b7, 0, none⟩ (.slice e14 r2.2.length q12), .prop (e6 = some ad4), .prop (0 ≤ y1 ∧ y1 < (p2.length : Nat)), .cell ((ad4.add (Int.toNat y1 * 1)).add 0) (.map e15)] [] hf37 (by kernel_rfl) (.cell (hS35.box (i := 11) rfl (j := 2) rfl) (.cell (hS35.box (i := 0) rfl (j := 0) rfl) (.prop ho4 (.prop hb8 (.cell (hk4 0 _ rfl) .nil))))) .nil fun a35 hf38 => ?_
    have hS36 := St.swapTo (i := 13) (j := 0) (St.addEmp hS35) rfl rfl (by decide)
    have hS37 : St z9 (plA 126 40 117 b_x0 y5 :: box b7 [.slice e14 r2.2.length q12] 40 :: box b6 [.slice e13 r2.1.length q11] 40 :: box b5 [.slice e8 y6.length q8, .map e9] 119 :: emp :: emp :: ownS (Ty.map Value.bool) 117 e6 q6 p2 :: emp :: ownS (Ty.slice PartT) 40 e2 q2 p1 :: emp :: emp :: box b2 [.slice none 0 0, .map none] 119 :: box b1 [vI x1_kind, vI x1_lot, vI x1_from, vI x1_to, vI x1_mass] 28 :: emp :: L) _ := hS36
    obtain ⟨r3, hd5, hr16⟩ := bind_some hr15
    refine p_call (i := 9) (d := some 90) (f := 148) (args := #[pB b_x0 0, vI x1_from, .agg #[.slice e14 r2.2.length q12, .map e15]]) hf38 (by kernel_rfl) (f148_ok fuel y5 x1_from r2.2 p5 r3 hd5 z9 _ _ b_x0 hS37 e14 q12 hx9 e15 hx10) ?_
    rintro v40 ww19 a36 ⟨z10, k9, rfl, hS38⟩ hf39
    have hS39 := St.swapTo (i := 0) (j := 13) hS38 rfl rfl (by decide)
    have hS40 : St z10 (emp :: box b7 [.slice e14 r2.2.length q12] 40 :: box b6 [.slice e13 r2.1.length q11] 40 :: box b5 [.slice e8 y6.length q8, .map e9] 119 :: emp :: emp :: ownS (Ty.map Value.bool) 117 e6 q6 p2 :: emp :: ownS (Ty.slice PartT) 40 e2 q2 p1 :: emp :: emp :: box b2 [.slice none 0 0, .map none] 119 :: box b1 [vI x1_kind, vI x1_lot, vI x1_from, vI x1_to, vI x1_mass] 28 :: plA 126 40 117 b_x0 r3 :: L) _ := hS39
    refine ⟨fun e => absurd e (by decide), ?_⟩
    refine p_dt (by kernel_rfl) ?_
    refine w_sq [] [(0, pB b_x0 0), (3, pB b1 0), (4, pB b2 0), (8, .slice e2 p1.length q2), (9, .slice e6 p2.length q6), (10, pB b5 0), (11, vI y1), (13, pB b6 0), (65, .slice e7 r1.length q7), (66, vI (r1.length : Int)), (67, vI y1), (92, .bool (decide (p3 > (0 : Int))))] [] hf39 (by kernel_rfl) .nil fun a37 hf40 => ?_
    refine w_if hf40 (b := (decide (p3 > (0 : Int)))) (by kernel_rfl) (fun hb9 => ?_) (fun hb9 => ?_)
    ·have hr17 := cond_t hb9 hr16
     have hS41 := hS40.drew
     refine w_regD (by kernel_rfl) [(0, true), (1, true), (2, true), (3, true), (4, true), (5, true), (6, true), (7, false), (8, false)] [7, 8] (fun x => x = ww19.drew) (by kernel_rfl) rfl ?_
     obtain ⟨p6, hp5212, hr18⟩ := bind_some hr17
     obtain ⟨ad5, ho5, hb10, cc5, hc5, hk5⟩ := hS41.ownGet (j := 6) rfl hp5212
     obtain ⟨e16, rfl, hx11⟩ := hc5
     refine p_qE 7 [.slice e8 y6.length q8, .map e9, .slice e13 r2.1.length q11, .pointer (some ad5), .map e16] [(0, pB b_x0 0), (3, pB b1 0), (4, pB b2 0), (8, .slice e2 p1.length q2), (9, .slice e6 p2.length q6), (10, pB b5 0), (65, .slice e7 r1.length q7), (66, vI (r1.length : Int)), (67, vI y1), (93, .agg #[.slice e8 y6.length q8, .map e9]), (99, .agg #[.slice e13 r2.1.length q11, .map e16])] [.cell ⟨b5, 0, none⟩ (.slice e8 y6.length q8), .cell ⟨b5, 1, none⟩ (.map e9), .cell ⟨b6, 0, none⟩ (.slice e13 r2.1.length q11), .prop (e6 = some ad5), .prop (0 ≤ y1 ∧ y1 < (p2.length : Nat)), .cell ((ad5.add (Int.toNat y1 * 1)).add 0) (.map e16)] [] hf40 (by kernel_rfl) (.cell (hS41.box (i := 3) rfl (j := 0) rfl) (.cell (hS41.box (i := 3) rfl (j := 1) rfl) (.cell (hS41.box (i := 2) rfl (j := 0) rfl) (.prop ho5 (.prop hb10 (.cell (hk5 0 _ rfl) .nil)))))) .nil fun a38 hf41 => ?_
     obtain ⟨r4, hd6, hr19⟩ := bind_some hr18
     refine p_call (i := 7) (d := some 100) (f := 150) (args := #[.agg #[.slice e8 y6.length q8, .map e9], .agg #[.slice e13 r2.1.length q11, .map e16]]) hf41 (by kernel_rfl) (f150_ok fuel y6 y7 r2.1 p6 r4 hd6 z10 _ _ hS41 e8 q8 (SliceR.mono (Zone.le_trans k8 k9) hx5) e9 (MapR.mono (Zone.le_trans k8 k9) hx6) e13 q11 (SliceR.mono k9 hx8) e16 hx11) ?_
     rintro v41 ww20 a39 ⟨z11, e17, q13, e18, k10, rfl, hS42, hx12, hx13⟩ hf42
     refine ⟨fun e => absurd e (by decide), ?_⟩
     refine p_store_eq (i := 8) (j := 3) (b := b5) (off := 0) (vs := [.slice e17 r4.1.length q13, .map e18]) (cs' := [.slice e17 r4.1.length q13, .map e18]) hS42 hf42 rfl (by kernel_rfl) (by kernel_rfl) rfl fun ww21 a40 hS43 hf43 => ⟨fun e => absurd e (by decide), ?_⟩
     refine p_done (by kernel_rfl) ?_
     refine n_block ?_
     refine n_then ?_
     have hf44 := Fr.keep (ks := [0, 3, 4, 8, 9, 10, 65, 66, 67]) (r := [(0, pB b_x0 0), (3, pB b1 0), (4, pB b2 0), (8, .slice e2 p1.length q2), (9, .slice e6 p2.length q6), (10, pB b5 0), (65, .slice e7 r1.length q7), (66, vI (r1.length : Int)), (67, vI y1)]) hf43 (by kernel_rfl)
     exact ⟨z11, r3, r4.1, r4.2, e17, q13, e18, (Zone.le_trans (Zone.le_trans k8 k9) k10), hf44, (St.drop 3 hS43), hx12, hx13, hr19⟩
    ·have hr20 := cond_f hb9 hr16
     refine w_skip (by kernel_rfl) ?_
     refine n_block ?_
     refine n_then ?_
     have hf45 := Fr.keep (ks := [0, 3, 4, 8, 9, 10, 65, 66, 67]) (r := [(0, pB b_x0 0), (3, pB b1 0), (4, pB b2 0), (8, .slice e2 p1.length q2), (9, .slice e6 p2.length q6), (10, pB b5 0), (65, .slice e7 r1.length q7), (66, vI (r1.length : Int)), (67, vI y1)]) hf40 (by kernel_rfl)
     exact ⟨z10, r3, y6, y7, e8, q8, e9, (Zone.le_trans k8 k9), hf45, (St.drop 3 hS40), (SliceR.mono (Zone.le_trans k8 k9) hx5), (MapR.mono (Zone.le_trans k8 k9) hx6), hr20⟩
   ·rintro a41 ww22 ⟨z8, y2, y3, y4, e10, q9, e11, k11, hf46, hS44, hx14, hx15, hr21⟩
    refine w_q [] [(0, pB b_x0 0), (3, pB b1 0), (4, pB b2 0), (8, .slice e2 p1.length q2), (9, .slice e6 p2.length q6), (10, pB b5 0), (65, .slice e7 r1.length q7), (66, vI (r1.length : Int)), (67, vI (w64 (y1 + (1 : Int))))] [] hf46 (by kernel_rfl) .nil fun a42 hf47 => ?_
    refine n_then ?_
    have hf48 := Fr.keep (ks := [0, 3, 4, 8, 9, 10, 65, 66, 67]) (r := [(0, pB b_x0 0), (3, pB b1 0), (4, pB b2 0), (8, .slice e2 p1.length q2), (9, .slice e6 p2.length q6), (10, pB b5 0), (65, .slice e7 r1.length q7), (66, vI (r1.length : Int)), (67, vI (w64 (y1 + (1 : Int))))]) hf47 (by kernel_rfl)
    exact ⟨n1, Nat.lt_succ_self n1, z8, y2, y3, y4, (w64 (y1 + (1 : Int))), e10, q9, e11, (Zone.le_trans k7 k11), hf48, hS44, hx14, hx15, hr21⟩
  ·have hr22 := cond_f hb5 hr10
   refine w_exit (id := 2) (by kernel_rfl) ?_
   refine x_then ?_
   refine x_then ?_
   refine x_block ?_
   refine n_then ?_
   refine w_sr (by kernel_rfl) ?_
   refine p_qn 1 [.slice e8 y6.length q8, .map e9] [(4, pB b2 0), (102, .agg #[.slice e8 y6.length q8, .map e9])] [.cell ⟨b5, 0, none⟩ (.slice e8 y6.length q8), .cell ⟨b5, 1, none⟩ (.map e9)] hf29 (by kernel_rfl) (.cell (hS29.box (i := 0) rfl (j := 0) rfl) (.cell (hS29.box (i := 0) rfl (j := 1) rfl) .nil)) fun a43 hf49 => ?_
   refine p_store_eq (i := 1) (j := 8) (b := b2) (off := 0) (vs := [.slice e8 y6.length q8, .map e9]) (cs' := [.slice e8 y6.length q8, .map e9]) hS29 hf49 rfl (by kernel_rfl) (by kernel_rfl) rfl fun ww23 a44 hS45 hf50 => ⟨fun _ => trivial, ?_⟩
   refine p_dt (by kernel_rfl) ?_
   refine w_ret (by kernel_rfl) ?_
   refine p_ret (os := [.slice e8 y6.length q8, .map e9]) (v := .agg #[.slice e8 y6.length q8, .map e9]) (obs := [.cell ⟨b2, 0, none⟩ (.slice e8 y6.length q8), .cell ⟨b2, 1, none⟩ (.map e9)]) hf50 (by kernel_rfl) (.cell (hS45.box (i := 8) rfl (j := 0) rfl) (.cell (hS45.box (i := 8) rfl (j := 1) rfl) .nil)) ?_
   obtain rfl := some_eq hr22
   exact ⟨_, rfl, z7, e8, q8, e9, (Zone.le_trans (Zone.le_trans (Zone.le_trans k3 k5) k6) k7), rfl, (St.pick 11 [10] hS45 (by kernel_rfl)), hx5, hx6⟩
def F143 (fuel : Nat) (x0 : Pl) (x1_kind : Int) (x1_lot : Int) (x1_from : Int) (x1_to : Int) (x1_mass : Int) : Option (List Part × List (Int × Bool) × Pl) :=
  ((F151 fuel x0 x1_from).bind fun r1 => ((F152 fuel r1.2.2 x1_from).bind fun r2 => ((F146 fuel r2 x1_from r1.1 r1.2.1).bind fun r3 => (some ([], [], r3)))))
set_option maxRecDepth 100000 in
theorem f143_ok (fuel : Nat) (x0 : Pl) (x1_kind : Int) (x1_lot : Int) (x1_from : Int) (x1_to : Int) (x1_mass : Int) (r : List Part × List (Int × Bool) × Pl) (hr : F143 fuel x0 x1_kind x1_lot x1_from x1_to x1_mass = some r) (h : Zone) (L : List Atom) (w : World) (b_x0 : Nat) (hS : St h (plA 126 40 117 b_x0 x0 :: L) w)  :
    Calls Try.prog 143 #[pB b_x0 0, .agg #[vI x1_kind, vI x1_lot, vI x1_from, vI x1_to, vI x1_mass]] w fun e w' => ∃ v, e = .returned v ∧ (∃ h', ∃ o0 : Option Addr, ∃ c0 : Nat, ∃ o1 : Option Nat, Zone.le h h' ∧ v = .agg #[.slice o0 r.1.length c0, .map o1] ∧ St h' (plA 126 40 117 b_x0 r.2.2 :: L) w' ∧ SliceR PartT h' o0 c0 r.1 ∧ MapR Value.bool h' o1 r.2.1) := by
 refine calls_intro (N := 20) Try.func143 (by kernel_rfl) fun a hf => ?_
 refine w_sr (by kernel_rfl) ?_
 refine p_box (i := 0) (d := (some 3)) (cs := [vI x1_kind, vI x1_lot, vI x1_from, vI x1_to, vI x1_mass]) (T := 28) (v := fun b1 => pB b1 0) hS hf (fun b => by kernel_rfl) fun b1 ww1 a1 hS1 hf1 => ⟨fun _ => trivial, ?_⟩
 refine p_box (i := 1) (d := (some 4)) (cs := [.slice none 0 0, .map none]) (T := 119) (v := fun b2 => pB b2 0) hS1 hf1 (fun b => by kernel_rfl) fun b2 ww2 a2 hS2 hf2 => ⟨fun _ => trivial, ?_⟩
 refine p_dt (by kernel_rfl) ?_
 refine w_sr (by kernel_rfl) ?_
 refine p_qn 3 [vI x1_from] [(0, pB b_x0 0), (3, pB b1 0), (4, pB b2 0), (6, pB b_x0 0), (8, vI x1_from)] [.cell ⟨b1, 2, none⟩ (vI x1_from)] hf2 (by kernel_rfl) (.cell (hS2.box (i := 1) rfl (j := 2) rfl) .nil) fun a3 hf3 => ?_
 have hS3 := St.swapTo (i := 3) (j := 0) (St.addEmp hS2) rfl rfl (by decide)
 have hS4 : St h (plA 126 40 117 b_x0 x0 :: box b2 [.slice none 0 0, .map none] 119 :: box b1 [vI x1_kind, vI x1_lot, vI x1_from, vI x1_to, vI x1_mass] 28 :: emp :: L) _ := hS3
 obtain ⟨r1, hd1, hr1⟩ := bind_some hr
 refine p_call (i := 3) (d := some 9) (f := 151) (args := #[pB b_x0 0, vI x1_from]) hf3 (by kernel_rfl) (f151_ok fuel x0 x1_from r1 hd1 h _ _ b_x0 hS4 ) ?_
 rintro v1 ww3 a4 ⟨z1, e1, q1, e2, k1, rfl, hS5, hx1, hx2⟩ hf4
 have hS6 := St.swapTo (i := 0) (j := 3) hS5 rfl rfl (by decide)
 have hS7 : St z1 (emp :: box b2 [.slice none 0 0, .map none] 119 :: box b1 [vI x1_kind, vI x1_lot, vI x1_from, vI x1_to, vI x1_mass] 28 :: plA 126 40 117 b_x0 r1.2.2 :: L) _ := hS6
 refine ⟨fun _ => trivial, ?_⟩
 refine p_box (i := 4) (d := (some 5)) (cs := [.slice none 0 0, .map none]) (T := 119) (v := fun b3 => pB b3 0) hS7 hf4 (fun b => by kernel_rfl) fun b3 ww4 a5 hS8 hf5 => ⟨fun _ => trivial, ?_⟩
 refine p_store_eq (i := 5) (j := 0) (b := b3) (off := 0) (vs := [.slice e1 r1.1.length q1, .map e2]) (cs' := [.slice e1 r1.1.length q1, .map e2]) hS8 hf5 rfl (by kernel_rfl) (by kernel_rfl) rfl fun ww5 a6 hS9 hf6 => ⟨fun _ => trivial, ?_⟩
 refine p_dt (by kernel_rfl) ?_
 refine w_sr (by kernel_rfl) ?_
 refine p_qn 3 [vI x1_from] [(0, pB b_x0 0), (3, pB b1 0), (4, pB b2 0), (5, pB b3 0), (10, pB b_x0 0), (12, vI x1_from)] [.cell ⟨b1, 2, none⟩ (vI x1_from)] hf6 (by kernel_rfl) (.cell (hS9.box (i := 3) rfl (j := 2) rfl) .nil) fun a7 hf7 => ?_
 have hS10 := St.swapTo (i := 5) (j := 0) (St.addEmp hS9) rfl rfl (by decide)
 have hS11 : St z1 (plA 126 40 117 b_x0 r1.2.2 :: box b3 [.slice e1 r1.1.length q1, .map e2] 119 :: emp :: box b2 [.slice none 0 0, .map none] 119 :: box b1 [vI x1_kind, vI x1_lot, vI x1_from, vI x1_to, vI x1_mass] 28 :: emp :: L) _ := hS10
 obtain ⟨r2, hd2, hr2⟩ := bind_some hr1
 refine p_call (i := 3) (d := some 13) (f := 152) (args := #[pB b_x0 0, vI x1_from]) hf7 (by kernel_rfl) (f152_ok fuel r1.2.2 x1_from r2 hd2 z1 _ _ b_x0 hS11 ) ?_
 rintro v2 ww6 a8 ⟨z2, k2, rfl, hS12⟩ hf8
 have hS13 := St.swapTo (i := 0) (j := 5) hS12 rfl rfl (by decide)
 have hS14 : St z2 (emp :: box b3 [.slice e1 r1.1.length q1, .map e2] 119 :: emp :: box b2 [.slice none 0 0, .map none] 119 :: box b1 [vI x1_kind, vI x1_lot, vI x1_from, vI x1_to, vI x1_mass] 28 :: plA 126 40 117 b_x0 r2 :: L) _ := hS13
 refine ⟨fun _ => trivial, ?_⟩
 refine p_dt (by kernel_rfl) ?_
 refine w_sr (by kernel_rfl) ?_
 refine p_qn 4 [vI x1_from, .slice e1 r1.1.length q1, .map e2] [(4, pB b2 0), (14, pB b_x0 0), (16, vI x1_from), (17, .agg #[.slice e1 r1.1.length q1, .map e2])] [.cell ⟨b1, 2, none⟩ (vI x1_from), .cell ⟨b3, 0, none⟩ (.slice e1 r1.1.length q1), .cell ⟨b3, 1, none⟩ (.map e2)] hf8 (by kernel_rfl) (.cell (hS14.box (i := 4) rfl (j := 2) rfl) (.cell (hS14.box (i := 1) rfl (j := 0) rfl) (.cell (hS14.box (i := 1) rfl (j := 1) rfl) .nil))) fun a9 hf9 => ?_
 have hS15 := St.swapTo (i := 6) (j := 0) (St.addEmp hS14) rfl rfl (by decide)
 have hS16 : St z2 (plA 126 40 117 b_x0 r2 :: emp :: box b3 [.slice e1 r1.1.length q1, .map e2] 119 :: emp :: box b2 [.slice none 0 0, .map none] 119 :: box b1 [vI x1_kind, vI x1_lot, vI x1_from, vI x1_to, vI x1_mass] 28 :: emp :: L) _ := hS15
 obtain ⟨r3, hd3, hr3⟩ := bind_some hr2
 refine p_call (i := 4) (d := some 18) (f := 146) (args := #[pB b_x0 0, vI x1_from, .agg #[.slice e1 r1.1.length q1, .map e2]]) hf9 (by kernel_rfl) (f146_ok fuel r2 x1_from r1.1 r1.2.1 r3 hd3 z2 _ _ b_x0 hS16 e1 q1 (SliceR.mono k2 hx1) e2 (MapR.mono k2 hx2)) ?_
 rintro v3 ww7 a10 ⟨z3, k3, rfl, hS17⟩ hf10
 have hS18 := St.swapTo (i := 0) (j := 6) hS17 rfl rfl (by decide)
 have hS19 : St z3 (emp :: emp :: box b3 [.slice e1 r1.1.length q1, .map e2] 119 :: emp :: box b2 [.slice none 0 0, .map none] 119 :: box b1 [vI x1_kind, vI x1_lot, vI x1_from, vI x1_to, vI x1_mass] 28 :: plA 126 40 117 b_x0 r3 :: L) _ := hS18
 refine ⟨fun _ => trivial, ?_⟩
 refine p_dt (by kernel_rfl) ?_
 refine w_sr (by kernel_rfl) ?_
 refine p_qn 1 [] [(4, pB b2 0), (19, .agg #[.slice none 0 0, .map none])] [] hf10 (by kernel_rfl) .nil fun a11 hf11 => ?_
 refine p_store_eq (i := 1) (j := 4) (b := b2) (off := 0) (vs := [.slice none 0 0, .map none]) (cs' := [.slice none 0 0, .map none]) hS19 hf11 rfl (by kernel_rfl) (by kernel_rfl) rfl fun ww8 a12 hS20 hf12 => ⟨fun _ => trivial, ?_⟩
 refine p_dt (by kernel_rfl) ?_
 refine w_ret (by kernel_rfl) ?_
 refine p_ret (os := [.slice none 0 0, .map none]) (v := .agg #[.slice none 0 0, .map none]) (obs := [.cell ⟨b2, 0, none⟩ (.slice none 0 0), .cell ⟨b2, 1, none⟩ (.map none)]) hf12 (by kernel_rfl) (.cell (hS20.box (i := 4) rfl (j := 0) rfl) (.cell (hS20.box (i := 4) rfl (j := 1) rfl) .nil)) ?_
 obtain rfl := some_eq hr3
 exact ⟨_, rfl, z3, none, 0, none, (Zone.le_trans (Zone.le_trans k1 k2) k3), rfl, (St.pick 7 [6] hS20 (by kernel_rfl)), SliceR.nil' _ _, (MapR.nil' _ _)⟩
def F130 (fuel : Nat) (x0 : Int) : Option (Bool) :=
  ((F71 fuel x0 0 8).bind fun r1 => (some (r1)))
set_option maxRecDepth 100000 in
theorem f130_ok (fuel : Nat) (x0 : Int) (r : Bool) (hr : F130 fuel x0 = some r) (h : Zone) (L : List Atom) (w : World) (hS : St h L w)  :
    Calls Try.prog 130 #[vI x0] w fun e w' => ∃ v, e = .returned v ∧ (∃ h', Zone.le h h' ∧ v = .bool r ∧ St h' L w') := by
 refine calls_intro (N := 5) Try.func130 (by kernel_rfl) fun a hf => ?_
 refine w_sq [] [(0, vI x0)] [] hf (by kernel_rfl) .nil fun a1 hf1 => ?_
 refine w_sr (by kernel_rfl) ?_
 refine p_qn 1 [] [(3, vI x0)] [] hf1 (by kernel_rfl) .nil fun a2 hf2 => ?_
 obtain ⟨r1, hd1, hr1⟩ := bind_some hr
 refine p_call (i := 1) (d := some 4) (f := 71) (args := #[vI x0, vI 0, vI 8]) hf2 (by kernel_rfl) (f71_ok fuel x0 0 8 r1 hd1 h _ _ hS ) ?_
 rintro v1 ww1 a3 ⟨z1, k1, rfl, hS1⟩ hf3
 refine ⟨fun _ => trivial, ?_⟩
 refine p_qt [] [(2, .bool r1)] [] hf3 (by kernel_rfl) .nil fun a4 hf4 => ?_
 refine w_ret (by kernel_rfl) ?_
 refine p_ret (os := []) (v := .bool r1) (obs := []) hf4 (by kernel_rfl) .nil ?_
 obtain rfl := some_eq hr1
 exact ⟨_, rfl, z1, k1, rfl, hS1⟩
def F122 (fuel : Nat) (x0_id : Int) (x0_owner : Int) (x0_grade : Int) (x0_wet : Int) (x1 : Int) : Option (Int) :=
  ((F123 fuel x0_id x1).bind fun r1 => (some (r1)))
set_option maxRecDepth 100000 in
theorem f122_ok (fuel : Nat) (x0_id : Int) (x0_owner : Int) (x0_grade : Int) (x0_wet : Int) (x1 : Int) (r : Int) (hr : F122 fuel x0_id x0_owner x0_grade x0_wet x1 = some r) (h : Zone) (L : List Atom) (w : World) (hS : St h L w)  :
    Calls Try.prog 122 #[.agg #[vI x0_id, vI x0_owner, vI x0_grade, vI x0_wet], vI x1] w fun e w' => ∃ v, e = .returned v ∧ (v = vI r ∧ St h L w') := by
 refine calls_intro (N := 9) Try.func122 (by kernel_rfl) fun a hf => ?_
 refine w_sr (by kernel_rfl) ?_
 refine p_box (i := 0) (d := (some 2)) (cs := [vI x0_id, vI x0_owner, vI x0_grade, vI x0_wet]) (T := 33) (v := fun b1 => pB b1 0) hS hf (fun b => by kernel_rfl) fun b1 ww1 a1 hS1 hf1 => ⟨fun _ => trivial, ?_⟩
 refine p_qt [] [(1, vI x1), (2, pB b1 0)] [] hf1 (by kernel_rfl) .nil fun a2 hf2 => ?_
 refine w_sr (by kernel_rfl) ?_
 refine p_qn 3 [vI x0_id] [(6, vI x0_id), (7, vI x1)] [.cell ⟨b1, 0, none⟩ (vI x0_id)] hf2 (by kernel_rfl) (.cell (hS1.box (i := 0) rfl (j := 0) rfl) .nil) fun a3 hf3 => ?_
 obtain ⟨r1, hd1, hr1⟩ := bind_some hr
 refine p_call (i := 3) (d := some 8) (f := 123) (args := #[vI x0_id, vI x1]) hf3 (by kernel_rfl) (f123_ok fuel x0_id x1 r1 hd1 h _ _ hS1 ) ?_
 rintro v1 ww2 a4 ⟨rfl, hS2⟩ hf4
 refine ⟨fun _ => trivial, ?_⟩
 refine p_qt [] [(4, vI r1)] [] hf4 (by kernel_rfl) .nil fun a5 hf5 => ?_
 refine w_ret (by kernel_rfl) ?_
 refine p_ret (os := []) (v := vI r1) (obs := []) hf5 (by kernel_rfl) .nil ?_
 obtain rfl := some_eq hr1
 exact ⟨_, rfl, rfl, (St.drop 1 hS2)⟩
def F74_j1 (y1 : Int) (y2 : Bool) : Option (Int × Bool) :=
  (some (y1, y2))
def F74_l1 (fuel : Nat) (x0 : List Lot) (x1 : Int) : Nat → Int → Int → Option (Int × Bool)
  | 0, _, _ => none
  | n1 + 1, y1, y3 =>
    let k1 : Int → Int → Option (Int × Bool) := F74_l1 fuel x0 x1 n1
    (cond (decide (y1 < y3)) ((getI x0 (w64 (Int.fdiv (IntKind.wrap .u64 (w64 (y1 + y3))) 2))).bind fun p1 => ((F122 fuel p1.id p1.owner p1.grade p1.wet x1).bind fun r1 => (cond (decide (r1 < (0 : Int))) (k1 (w64 ((w64 (Int.fdiv (IntKind.wrap .u64 (w64 (y1 + y3))) 2)) + (1 : Int))) y3) (k1 y1 (w64 (Int.fdiv (IntKind.wrap .u64 (w64 (y1 + y3))) 2)))))) (cond (decide (y1 < (x0.length : Int))) ((getI x0 y1).bind fun p2 => ((F122 fuel p2.id p2.owner p2.grade p2.wet x1).bind fun r2 => (F74_j1 y1 (r2 == (0 : Int))))) (F74_j1 y1 false)))
def F74 (fuel : Nat) (x0 : List Lot) (x1 : Int) : Option (Int × Bool) :=
  (F74_l1 fuel x0 x1 fuel 0 (x0.length : Int))
set_option maxRecDepth 100000 in
theorem f74_ok (fuel : Nat) (x0 : List Lot) (x1 : Int) (r : Int × Bool) (hr : F74 fuel x0 x1 = some r) (h : Zone) (L : List Atom) (w : World) (hS : St h L w) (o_x0 : Option Addr) (c_x0 : Nat) (hx_x0 : SliceR LotT h o_x0 c_x0 x0) :
    Calls Try.prog 74 #[.slice o_x0 x0.length c_x0, vI x1] w fun e w' => ∃ v, e = .returned v ∧ (∃ h', Zone.le h h' ∧ v = .tuple #[vI r.1, .bool r.2] ∧ St h' L w') := by
 refine calls_intro (N := 11) Try.func74 (by kernel_rfl) fun a hf => ?_
 refine w_sq [] [(0, .slice o_x0 x0.length c_x0), (1, vI x1)] [] hf (by kernel_rfl) .nil fun a1 hf1 => ?_
 refine w_sr (by kernel_rfl) ?_
 refine p_qn 2 [] [(6, .slice o_x0 x0.length c_x0), (7, vI x1)] [] hf1 (by kernel_rfl) .nil fun a2 hf2 => ?_
 refine p_inl (i := 2) (d := some 8) (f := 121) (args := #[.slice o_x0 x0.length c_x0, vI x1, .func (.func 122) #[] #[]]) (N' := 49) hf2 (by kernel_rfl) Try.func121 (by kernel_rfl) fun a3 hf3 => ?_
 refine w_sq [] [(0, .slice o_x0 x0.length c_x0), (1, vI x1), (2, .func (.func 122) #[] #[])] [] hf3 (by kernel_rfl) .nil fun a4 hf4 => ?_
 refine w_sq [] [(0, .slice o_x0 x0.length c_x0), (1, vI x1), (2, .func (.func 122) #[] #[]), (8, vI (x0.length : Int))] [] hf4 (by kernel_rfl) .nil fun a5 hf5 => ?_
 refine w_sq [] [(0, .slice o_x0 x0.length c_x0), (1, vI x1), (2, .func (.func 122) #[] #[]), (8, vI (x0.length : Int)), (9, vI 0), (10, vI (x0.length : Int))] [] hf5 (by kernel_rfl) .nil fun a6 hf6 => ?_
 refine w_seq (by kernel_rfl) ?_
 refine w_block (id := 0) (by kernel_rfl) ?_
 have hf7 := Fr.keep (ks := [0, 1, 2, 8, 9, 10]) (r := [(0, .slice o_x0 x0.length c_x0), (1, vI x1), (2, .func (.func 122) #[] #[]), (8, vI (x0.length : Int)), (9, vI 0), (10, vI (x0.length : Int))]) hf6 (by kernel_rfl)
 refine w_loop (by kernel_rfl) (fun n a w => ∃ z1 : Zone, ∃ y1 : Int, ∃ y3 : Int, Zone.le h z1 ∧ Fr a 49 [(0, .slice o_x0 x0.length c_x0), (1, vI x1), (2, .func (.func 122) #[] #[]), (8, vI (x0.length : Int)), (9, vI y1), (10, vI y3)] ∧ St z1 (L) w ∧ (F74_l1 fuel x0 x1 n y1 y3) = some r) fuel ⟨h, 0, (x0.length : Int), (Zone.le_refl _), hf7, hS, hr⟩ ?_
 rintro n2 a7 ww1 ⟨z1, y1, y3, k2, hf8, hS1, hr1⟩
 cases n2 with
 | zero => cases hr1
 | succ n1 =>
 refine w_seq (by kernel_rfl) ?_
 refine w_sq [] [(0, .slice o_x0 x0.length c_x0), (1, vI x1), (2, .func (.func 122) #[] #[]), (8, vI (x0.length : Int)), (9, vI y1), (10, vI y3), (17, .bool (decide (y1 < y3)))] [] hf8 (by kernel_rfl) .nil fun a8 hf9 => ?_
 refine w_if hf9 (b := (decide (y1 < y3))) (by kernel_rfl) (fun hb1 => ?_) (fun hb1 => ?_)
 ·have hr2 := cond_t hb1 hr1
  refine w_skip (by kernel_rfl) ?_
  refine n_then ?_
  refine w_block (id := 1) (by kernel_rfl) ?_
  refine w_sq [] [(0, .slice o_x0 x0.length c_x0), (1, vI x1), (2, .func (.func 122) #[] #[]), (8, vI (x0.length : Int)), (9, vI y1), (10, vI y3), (11, vI (w64 (Int.fdiv (IntKind.wrap .u64 (w64 (y1 + y3))) 2)))] [] hf9 (by kernel_rfl) .nil fun a9 hf10 => ?_
  refine w_sr (by kernel_rfl) ?_
  obtain ⟨p1, hp858, hr3⟩ := bind_some hr2
  obtain ⟨ad1, ho1, hb2, cc1, hc1, hk1⟩ := SliceR.getI (SliceR.mono k2 hx_x0) hp858
  subst hc1
  refine p_qn 6 [.pointer (some ad1), vI p1.id, vI p1.owner, vI p1.grade, vI p1.wet] [(0, .slice o_x0 x0.length c_x0), (1, vI x1), (2, .func (.func 122) #[] #[]), (8, vI (x0.length : Int)), (9, vI y1), (10, vI y3), (11, vI (w64 (Int.fdiv (IntKind.wrap .u64 (w64 (y1 + y3))) 2))), (24, .func (.func 122) #[] #[]), (28, .agg #[vI p1.id, vI p1.owner, vI p1.grade, vI p1.wet]), (29, vI x1)] [.prop (o_x0 = some ad1), .prop (0 ≤ (w64 (Int.fdiv (IntKind.wrap .u64 (w64 (y1 + y3))) 2)) ∧ (w64 (Int.fdiv (IntKind.wrap .u64 (w64 (y1 + y3))) 2)) < (x0.length : Nat)), .cell ((ad1.add (Int.toNat (w64 (Int.fdiv (IntKind.wrap .u64 (w64 (y1 + y3))) 2)) * 4)).add 0) (vI p1.id), .cell ((ad1.add (Int.toNat (w64 (Int.fdiv (IntKind.wrap .u64 (w64 (y1 + y3))) 2)) * 4)).add 1) (vI p1.owner), .cell ((ad1.add (Int.toNat (w64 (Int.fdiv (IntKind.wrap .u64 (w64 (y1 + y3))) 2)) * 4)).add 2) (vI p1.grade), .cell ((ad1.add (Int.toNat (w64 (Int.fdiv (IntKind.wrap .u64 (w64 (y1 + y3))) 2)) * 4)).add 3) (vI p1.wet)] hf10 (by kernel_rfl) (.prop ho1 (.prop hb2 (.cell (hS1.cell (hk1 0 _ rfl)) (.cell (hS1.cell (hk1 1 _ rfl)) (.cell (hS1.cell (hk1 2 _ rfl)) (.cell (hS1.cell (hk1 3 _ rfl)) .nil)))))) fun a10 hf11 => ?_
  obtain ⟨r1, hd1, hr4⟩ := bind_some hr3
  refine p_call (i := 6) (d := some 30) (f := 122) (args := #[.agg #[vI p1.id, vI p1.owner, vI p1.grade, vI p1.wet], vI x1]) hf11 (by kernel_rfl) (f122_ok fuel p1.id p1.owner p1.grade p1.wet x1 r1 hd1 z1 _ _ hS1 ) ?_
  rintro v1 ww2 a11 ⟨rfl, hS2⟩ hf12
  refine ⟨fun _ => trivial, ?_⟩
  refine p_qt [] [(0, .slice o_x0 x0.length c_x0), (1, vI x1), (2, .func (.func 122) #[] #[]), (8, vI (x0.length : Int)), (9, vI y1), (10, vI y3), (11, vI (w64 (Int.fdiv (IntKind.wrap .u64 (w64 (y1 + y3))) 2))), (31, .bool (decide (r1 < (0 : Int))))] [] hf12 (by kernel_rfl) .nil fun a12 hf13 => ?_
  refine w_if hf13 (b := (decide (r1 < (0 : Int)))) (by kernel_rfl) (fun hb3 => ?_) (fun hb3 => ?_)
  ·have hr5 := cond_t hb3 hr4
   refine w_q [] [(0, .slice o_x0 x0.length c_x0), (1, vI x1), (2, .func (.func 122) #[] #[]), (8, vI (x0.length : Int)), (9, vI (w64 ((w64 (Int.fdiv (IntKind.wrap .u64 (w64 (y1 + y3))) 2)) + (1 : Int)))), (10, vI y3)] [] hf13 (by kernel_rfl) .nil fun a13 hf14 => ?_
   refine n_block ?_
   refine n_then ?_
   have hf15 := Fr.keep (ks := [0, 1, 2, 8, 9, 10]) (r := [(0, .slice o_x0 x0.length c_x0), (1, vI x1), (2, .func (.func 122) #[] #[]), (8, vI (x0.length : Int)), (9, vI (w64 ((w64 (Int.fdiv (IntKind.wrap .u64 (w64 (y1 + y3))) 2)) + (1 : Int)))), (10, vI y3)]) hf14 (by kernel_rfl)
   exact ⟨n1, Nat.lt_succ_self n1, z1, (w64 ((w64 (Int.fdiv (IntKind.wrap .u64 (w64 (y1 + y3))) 2)) + (1 : Int))), y3, k2, hf15, hS2, hr5⟩
  ·have hr6 := cond_f hb3 hr4
   refine w_q [] [(0, .slice o_x0 x0.length c_x0), (1, vI x1), (2, .func (.func 122) #[] #[]), (8, vI (x0.length : Int)), (9, vI y1), (10, vI (w64 (Int.fdiv (IntKind.wrap .u64 (w64 (y1 + y3))) 2)))] [] hf13 (by kernel_rfl) .nil fun a14 hf16 => ?_
   refine n_block ?_
   refine n_then ?_
   have hf17 := Fr.keep (ks := [0, 1, 2, 8, 9, 10]) (r := [(0, .slice o_x0 x0.length c_x0), (1, vI x1), (2, .func (.func 122) #[] #[]), (8, vI (x0.length : Int)), (9, vI y1), (10, vI (w64 (Int.fdiv (IntKind.wrap .u64 (w64 (y1 + y3))) 2)))]) hf16 (by kernel_rfl)
   exact ⟨n1, Nat.lt_succ_self n1, z1, y1, (w64 (Int.fdiv (IntKind.wrap .u64 (w64 (y1 + y3))) 2)), k2, hf17, hS2, hr6⟩
 ·have hr7 := cond_f hb1 hr1
  refine w_exit (id := 0) (by kernel_rfl) ?_
  refine x_then ?_
  refine x_then ?_
  refine x_block ?_
  refine n_then ?_
  refine w_mid (by kernel_rfl) (fun a w => ∃ z2 : Zone, ∃ y2 : Bool, Zone.le z1 z2 ∧ Fr a 49 [(6, vI y1), (7, .bool y2)] ∧ St z2 (L) w ∧ (F74_j1 y1 y2) = some r) ?_ ?_
  ·skip
   refine w_reg (by kernel_rfl) ?_
   refine p_qn 5 [] [(0, .slice o_x0 x0.length c_x0), (1, vI x1), (2, .func (.func 122) #[] #[]), (9, vI y1), (35, vI y1), (39, .bool (decide (y1 < (x0.length : Int))))] [] hf9 (by kernel_rfl) .nil fun a15 hf18 => ?_
   rcases Bool.eq_false_or_eq_true (decide (y1 < (x0.length : Int))) with hb4 | hb4
   ·have hr8 := cond_t hb4 hr7
    have hf19 := Fr.conv hf18 (congrArg (fun z => ([(0, .slice o_x0 x0.length c_x0), (1, vI x1), (2, .func (.func 122) #[] #[]), (9, vI y1), (35, vI y1), (39, .bool z)] : FL)) hb4)
    obtain ⟨p2, hp976, hr9⟩ := bind_some hr8
    obtain ⟨ad2, ho2, hb5, cc2, hc2, hk2⟩ := SliceR.getI (SliceR.mono k2 hx_x0) hp976
    subst hc2
    refine p_qn 6 [.pointer (some ad2), vI p2.id, vI p2.owner, vI p2.grade, vI p2.wet] [(35, vI y1), (39, .bool true), (40, .func (.func 122) #[] #[]), (44, .agg #[vI p2.id, vI p2.owner, vI p2.grade, vI p2.wet]), (45, vI x1)] [.prop (o_x0 = some ad2), .prop (0 ≤ y1 ∧ y1 < (x0.length : Nat)), .cell ((ad2.add (Int.toNat y1 * 4)).add 0) (vI p2.id), .cell ((ad2.add (Int.toNat y1 * 4)).add 1) (vI p2.owner), .cell ((ad2.add (Int.toNat y1 * 4)).add 2) (vI p2.grade), .cell ((ad2.add (Int.toNat y1 * 4)).add 3) (vI p2.wet)] hf19 (by kernel_rfl) (.prop ho2 (.prop hb5 (.cell (hS1.cell (hk2 0 _ rfl)) (.cell (hS1.cell (hk2 1 _ rfl)) (.cell (hS1.cell (hk2 2 _ rfl)) (.cell (hS1.cell (hk2 3 _ rfl)) .nil)))))) fun a16 hf20 => ?_
    obtain ⟨r2, hd2, hr10⟩ := bind_some hr9
    refine p_call (i := 11) (d := some 46) (f := 122) (args := #[.agg #[vI p2.id, vI p2.owner, vI p2.grade, vI p2.wet], vI x1]) hf20 (by kernel_rfl) (f122_ok fuel p2.id p2.owner p2.grade p2.wet x1 r2 hd2 z1 _ _ hS1 ) ?_
    rintro v2 ww3 a17 ⟨rfl, hS3⟩ hf21
    refine ⟨fun _ => trivial, ?_⟩
    refine p_qt [] [(6, vI y1), (7, .bool (r2 == (0 : Int)))] [] hf21 (by kernel_rfl) .nil fun a18 hf22 => ?_
    have hf23 := Fr.keep (ks := [6, 7]) (r := [(6, vI y1), (7, .bool (r2 == (0 : Int)))]) hf22 (by kernel_rfl)
    exact ⟨z1, (r2 == (0 : Int)), (Zone.le_refl _), hf23, hS3, hr10⟩
   ·have hr11 := cond_f hb4 hr7
    have hf24 := Fr.conv hf18 (congrArg (fun z => ([(0, .slice o_x0 x0.length c_x0), (1, vI x1), (2, .func (.func 122) #[] #[]), (9, vI y1), (35, vI y1), (39, .bool z)] : FL)) hb4)
    refine p_qt [] [(6, vI y1), (7, .bool false)] [] hf24 (by kernel_rfl) .nil fun a19 hf25 => ?_
    have hf26 := Fr.keep (ks := [6, 7]) (r := [(6, vI y1), (7, .bool false)]) hf25 (by kernel_rfl)
    exact ⟨z1, false, (Zone.le_refl _), hf26, hS1, hr11⟩
  ·rintro a20 ww4 ⟨z2, y2, k3, hf27, hS4, hr12⟩
   refine w_ret (by kernel_rfl) ?_
   refine p_ret (os := []) (v := .tuple #[vI y1, .bool y2]) (obs := []) hf27 (by kernel_rfl) .nil ?_
   refine ⟨_, rfl, fun a21 hf28 => ?_⟩
   refine ⟨fun _ => trivial, ?_⟩
   refine p_qt [] [(4, vI y1), (5, .bool y2)] [] hf28 (by kernel_rfl) .nil fun a22 hf29 => ?_
   refine w_ret (by kernel_rfl) ?_
   refine p_ret (os := []) (v := .tuple #[vI y1, .bool y2]) (obs := []) hf29 (by kernel_rfl) .nil ?_
   obtain rfl := some_eq hr12
   exact ⟨_, rfl, z2, (Zone.le_trans k2 k3), rfl, hS4⟩
def F124_j3 (fuel : Nat) (x0_lots : List Lot) (x1_lot : Int) (y1 : Bool) (y2 : Bool) : Option (Bool) :=
  (cond y2 (some (false)) (cond (!y1) (some (true)) ((F74 fuel x0_lots x1_lot).bind fun r1 => (some (r1.2)))))
def F124_j2 (fuel : Nat) (x0_lots : List Lot) (x1_lot : Int) (x1_from : Int) (x1_to : Int) (x1_mass : Int) (y1 : Bool) (y3 : Bool) (y4 : Bool) (y5 : Bool) (y6 : Bool) : Option (Bool) :=
  (cond y6 (some (false)) (cond y3 ((F130 fuel x1_from).bind fun r2 => (cond (!r2) (F124_j3 fuel x0_lots x1_lot y1 true) (cond y4 ((F130 fuel x1_to).bind fun r3 => (cond (!r3) (F124_j3 fuel x0_lots x1_lot y1 true) (cond y3 (cond y4 (cond (x1_from == x1_to) (F124_j3 fuel x0_lots x1_lot y1 true) (cond y5 ((F71 fuel x1_mass 1 100000000).bind fun r4 => (F124_j3 fuel x0_lots x1_lot y1 (!r4))) (F124_j3 fuel x0_lots x1_lot y1 false))) (cond y5 ((F71 fuel x1_mass 1 100000000).bind fun r5 => (F124_j3 fuel x0_lots x1_lot y1 (!r5))) (F124_j3 fuel x0_lots x1_lot y1 false))) (cond y5 ((F71 fuel x1_mass 1 100000000).bind fun r6 => (F124_j3 fuel x0_lots x1_lot y1 (!r6))) (F124_j3 fuel x0_lots x1_lot y1 false))))) (cond y3 (cond y4 (cond (x1_from == x1_to) (F124_j3 fuel x0_lots x1_lot y1 true) (cond y5 ((F71 fuel x1_mass 1 100000000).bind fun r7 => (F124_j3 fuel x0_lots x1_lot y1 (!r7))) (F124_j3 fuel x0_lots x1_lot y1 false))) (cond y5 ((F71 fuel x1_mass 1 100000000).bind fun r8 => (F124_j3 fuel x0_lots x1_lot y1 (!r8))) (F124_j3 fuel x0_lots x1_lot y1 false))) (cond y5 ((F71 fuel x1_mass 1 100000000).bind fun r9 => (F124_j3 fuel x0_lots x1_lot y1 (!r9))) (F124_j3 fuel x0_lots x1_lot y1 false)))))) (cond y4 ((F130 fuel x1_to).bind fun r10 => (cond (!r10) (F124_j3 fuel x0_lots x1_lot y1 true) (cond y3 (cond y4 (cond (x1_from == x1_to) (F124_j3 fuel x0_lots x1_lot y1 true) (cond y5 ((F71 fuel x1_mass 1 100000000).bind fun r11 => (F124_j3 fuel x0_lots x1_lot y1 (!r11))) (F124_j3 fuel x0_lots x1_lot y1 false))) (cond y5 ((F71 fuel x1_mass 1 100000000).bind fun r12 => (F124_j3 fuel x0_lots x1_lot y1 (!r12))) (F124_j3 fuel x0_lots x1_lot y1 false))) (cond y5 ((F71 fuel x1_mass 1 100000000).bind fun r13 => (F124_j3 fuel x0_lots x1_lot y1 (!r13))) (F124_j3 fuel x0_lots x1_lot y1 false))))) (cond y3 (cond y4 (cond (x1_from == x1_to) (F124_j3 fuel x0_lots x1_lot y1 true) (cond y5 ((F71 fuel x1_mass 1 100000000).bind fun r14 => (F124_j3 fuel x0_lots x1_lot y1 (!r14))) (F124_j3 fuel x0_lots x1_lot y1 false))) (cond y5 ((F71 fuel x1_mass 1 100000000).bind fun r15 => (F124_j3 fuel x0_lots x1_lot y1 (!r15))) (F124_j3 fuel x0_lots x1_lot y1 false))) (cond y5 ((F71 fuel x1_mass 1 100000000).bind fun r16 => (F124_j3 fuel x0_lots x1_lot y1 (!r16))) (F124_j3 fuel x0_lots x1_lot y1 false))))))
def F124_j1 (fuel : Nat) (x0_lots : List Lot) (x1_lot : Int) (x1_from : Int) (x1_to : Int) (x1_mass : Int) (y7 : Bool) (y1 : Bool) (y3 : Bool) (y4 : Bool) (y5 : Bool) (y8 : Option Nat) : Option (Bool) :=
  (cond (!y7) (F124_j2 fuel x0_lots x1_lot x1_from x1_to x1_mass y1 y3 y4 y5 true) (cond (!y1) (cond (x1_lot != (0 : Int)) (F124_j2 fuel x0_lots x1_lot x1_from x1_to x1_mass y1 y3 y4 y5 true) (cond (!y3) (cond (x1_from != (0 : Int)) (F124_j2 fuel x0_lots x1_lot x1_from x1_to x1_mass y1 y3 y4 y5 true) (cond (!y4) (cond (x1_to != (0 : Int)) (F124_j2 fuel x0_lots x1_lot x1_from x1_to x1_mass y1 y3 y4 y5 true) (cond (!y5) (F124_j2 fuel x0_lots x1_lot x1_from x1_to x1_mass y1 y3 y4 y5 (x1_mass != (0 : Int))) (F124_j2 fuel x0_lots x1_lot x1_from x1_to x1_mass y1 y3 y4 y5 false))) (cond (!y5) (F124_j2 fuel x0_lots x1_lot x1_from x1_to x1_mass y1 y3 y4 y5 (x1_mass != (0 : Int))) (F124_j2 fuel x0_lots x1_lot x1_from x1_to x1_mass y1 y3 y4 y5 false)))) (cond (!y4) (cond (x1_to != (0 : Int)) (F124_j2 fuel x0_lots x1_lot x1_from x1_to x1_mass y1 y3 y4 y5 true) (cond (!y5) (F124_j2 fuel x0_lots x1_lot x1_from x1_to x1_mass y1 y3 y4 y5 (x1_mass != (0 : Int))) (F124_j2 fuel x0_lots x1_lot x1_from x1_to x1_mass y1 y3 y4 y5 false))) (cond (!y5) (F124_j2 fuel x0_lots x1_lot x1_from x1_to x1_mass y1 y3 y4 y5 (x1_mass != (0 : Int))) (F124_j2 fuel x0_lots x1_lot x1_from x1_to x1_mass y1 y3 y4 y5 false))))) (cond (!y3) (cond (x1_from != (0 : Int)) (F124_j2 fuel x0_lots x1_lot x1_from x1_to x1_mass y1 y3 y4 y5 true) (cond (!y4) (cond (x1_to != (0 : Int)) (F124_j2 fuel x0_lots x1_lot x1_from x1_to x1_mass y1 y3 y4 y5 true) (cond (!y5) (F124_j2 fuel x0_lots x1_lot x1_from x1_to x1_mass y1 y3 y4 y5 (x1_mass != (0 : Int))) (F124_j2 fuel x0_lots x1_lot x1_from x1_to x1_mass y1 y3 y4 y5 false))) (cond (!y5) (F124_j2 fuel x0_lots x1_lot x1_from x1_to x1_mass y1 y3 y4 y5 (x1_mass != (0 : Int))) (F124_j2 fuel x0_lots x1_lot x1_from x1_to x1_mass y1 y3 y4 y5 false)))) (cond (!y4) (cond (x1_to != (0 : Int)) (F124_j2 fuel x0_lots x1_lot x1_from x1_to x1_mass y1 y3 y4 y5 true) (cond (!y5) (F124_j2 fuel x0_lots x1_lot x1_from x1_to x1_mass y1 y3 y4 y5 (x1_mass != (0 : Int))) (F124_j2 fuel x0_lots x1_lot x1_from x1_to x1_mass y1 y3 y4 y5 false))) (cond (!y5) (F124_j2 fuel x0_lots x1_lot x1_from x1_to x1_mass y1 y3 y4 y5 (x1_mass != (0 : Int))) (F124_j2 fuel x0_lots x1_lot x1_from x1_to x1_mass y1 y3 y4 y5 false))))))
def F124 (fuel : Nat) (x0_lots : List Lot) (x0_holds : List (List (List Part))) (x1_kind : Int) (x1_lot : Int) (x1_from : Int) (x1_to : Int) (x1_mass : Int) : Option (Bool) :=
  ((F125 fuel ).bind fun r17 => (F124_j1 fuel x0_lots x1_lot x1_from x1_to x1_mass (hasK r17 x1_kind) ((lkK r17 x1_kind zrow).lot) ((lkK r17 x1_kind zrow).frm) ((lkK r17 x1_kind zrow).to) ((lkK r17 x1_kind zrow).mass) ((lkK r17 x1_kind zrow).fn)))
set_option maxRecDepth 100000 in
theorem f124_ok (fuel : Nat) (x0_lots : List Lot) (x0_holds : List (List (List Part))) (x1_kind : Int) (x1_lot : Int) (x1_from : Int) (x1_to : Int) (x1_mass : Int) (r : Bool) (hr : F124 fuel x0_lots x0_holds x1_kind x1_lot x1_from x1_to x1_mass = some r) (h : Zone) (L : List Atom) (w : World) (hS : St h L w) (o_x0_lots : Option Addr) (c_x0_lots : Nat) (hx_x0_lots : SliceR LotT h o_x0_lots c_x0_lots x0_lots) (v0_x0_holds v1_x0_holds v2_x0_holds v3_x0_holds v4_x0_holds v5_x0_holds v6_x0_holds v7_x0_holds v8_x0_holds : Value) (hx_x0_holds : (Ty.arr 9 (Ty.slice (Ty.slice PartT))).rep h [v0_x0_holds, v1_x0_holds, v2_x0_holds, v3_x0_holds, v4_x0_holds, v5_x0_holds, v6_x0_holds, v7_x0_holds, v8_x0_holds] x0_holds) :
    Calls Try.prog 124 #[.agg #[.slice o_x0_lots x0_lots.length c_x0_lots, v0_x0_holds, v1_x0_holds, v2_x0_holds, v3_x0_holds, v4_x0_holds, v5_x0_holds, v6_x0_holds, v7_x0_holds, v8_x0_holds], .agg #[vI x1_kind, vI x1_lot, vI x1_from, vI x1_to, vI x1_mass]] w fun e w' => ∃ v, e = .returned v ∧ (∃ h', Zone.le h h' ∧ v = .bool r ∧ St h' L w') := by
 refine calls_intro (N := 121) Try.func124 (by kernel_rfl) fun a hf => ?_
 refine w_sr (by kernel_rfl) ?_
 refine p_box (i := 0) (d := (some 2)) (cs := [.slice o_x0_lots x0_lots.length c_x0_lots, v0_x0_holds, v1_x0_holds, v2_x0_holds, v3_x0_holds, v4_x0_holds, v5_x0_holds, v6_x0_holds, v7_x0_holds, v8_x0_holds]) (T := 26) (v := fun b1 => pB b1 0) hS hf (fun b => by kernel_rfl) fun b1 ww1 a1 hS1 hf1 => ⟨fun _ => trivial, ?_⟩
 refine p_box (i := 1) (d := (some 3)) (cs := [vI x1_kind, vI x1_lot, vI x1_from, vI x1_to, vI x1_mass]) (T := 28) (v := fun b2 => pB b2 0) hS1 hf1 (fun b => by kernel_rfl) fun b2 ww2 a2 hS2 hf2 => ⟨fun _ => trivial, ?_⟩
 refine p_qt [] [(2, pB b1 0), (3, pB b2 0)] [] hf2 (by kernel_rfl) .nil fun a3 hf3 => ?_
 refine w_mid (by kernel_rfl) (fun a w => ∃ z1 : Zone, ∃ y7 : Bool, ∃ y1 : Bool, ∃ y3 : Bool, ∃ y4 : Bool, ∃ y5 : Bool, ∃ y8 : Option Nat, ∃ b3 : Nat, Zone.le h z1 ∧ Fr a 121 [(2, pB b1 0), (3, pB b2 0), (5, pB b3 0), (6, .bool y7)] ∧ St z1 (box b3 [.bool y1, .bool y3, .bool y4, .bool y5, fnV y8] 163 :: box b2 [vI x1_kind, vI x1_lot, vI x1_from, vI x1_to, vI x1_mass] 28 :: box b1 [.slice o_x0_lots x0_lots.length c_x0_lots, v0_x0_holds, v1_x0_holds, v2_x0_holds, v3_x0_holds, v4_x0_holds, v5_x0_holds, v6_x0_holds, v7_x0_holds, v8_x0_holds] 26 :: L) w ∧ (F124_j1 fuel x0_lots x1_lot x1_from x1_to x1_mass y7 y1 y3 y4 y5 y8) = some r) ?_ ?_
 ·skip
  have hS3 := hS2.drew
  have s1 : Sub h (box b2 [vI x1_kind, vI x1_lot, vI x1_from, vI x1_to, vI x1_mass] 28 :: box b1 [.slice o_x0_lots x0_lots.length c_x0_lots, v0_x0_holds, v1_x0_holds, v2_x0_holds, v3_x0_holds, v4_x0_holds, v5_x0_holds, v6_x0_holds, v7_x0_holds, v8_x0_holds] 26 :: L) _ := Sub.of (Zone.le_refl _) hS3
  refine w_regB (by kernel_rfl) [3, 8] (Sub h (box b2 [vI x1_kind, vI x1_lot, vI x1_from, vI x1_to, vI x1_mass] 28 :: box b1 [.slice o_x0_lots x0_lots.length c_x0_lots, v0_x0_holds, v1_x0_holds, v2_x0_holds, v3_x0_holds, v4_x0_holds, v5_x0_holds, v6_x0_holds, v7_x0_holds, v8_x0_holds] 26 :: L)) (by kernel_rfl) ?_
  refine k_seg' 8 [(1, true), (2, true)] (by kernel_rfl) (by kernel_rfl) (At.start s1) (by kernel_rfl) ?_
  refine p_qS 2 [vI x1_kind] [(2, pB b1 0), (3, pB b2 0), (10, vI x1_kind)] [.cell ⟨b2, 0, none⟩ (vI x1_kind)] [] s1 hf3 (by kernel_rfl) (fun _ s => (.cell (s.box (i := 0) rfl (j := 0) rfl) .nil)) .nil fun a4 hf4 => ?_
  refine p_done (by kernel_rfl) ?_
  intro hA1
  refine k_any' 7 [0, 7] (by kernel_rfl) hA1 (by kernel_rfl) (by kernel_rfl) ?_
  refine (all_cons ?_ (all_cons ?_ all_nil))
  ·skip
   obtain ⟨r17, hd1, hr1⟩ := bind_some hr
   refine p_call (i := 0) (d := some 8) (f := 125) (args := #[]) hf4 (by kernel_rfl) (f125_ok fuel  r17 hd1 h _ _ hS3 ) ?_
   rintro v1 ww3 a5 ⟨z2, e1, k1, rfl, hS4, hx1⟩ hf5
   refine ⟨fun _ => Sub.of k1 hS4, ?_⟩
   refine p_done (by kernel_rfl) ?_
   intro hA2
   have s2 : Sub h (box b2 [vI x1_kind, vI x1_lot, vI x1_from, vI x1_to, vI x1_mass] 28 :: box b1 [.slice o_x0_lots x0_lots.length c_x0_lots, v0_x0_holds, v1_x0_holds, v2_x0_holds, v3_x0_holds, v4_x0_holds, v5_x0_holds, v6_x0_holds, v7_x0_holds, v8_x0_holds] 26 :: L) _ := Sub.of k1 hS4
   refine k_seg' 7 [] (by kernel_rfl) (by kernel_rfl) hA2 (by kernel_rfl) ?_
   refine p_done (by kernel_rfl) ?_
   intro hA3
   refine k_any' 6 [3, 7] (by kernel_rfl) hA3 (by kernel_rfl) (by kernel_rfl) ?_
   refine (all_cons ?_ (all_cons ?_ all_nil))
   ·skip
    refine p_lookup (i := 3) (d := (some 11)) (t := 164) (o := e1) (k := x1_kind) (c := true) (z := zrow) (D := r17) hf5 (by kernel_rfl) mp164 (MapR.look hx1 hS4) fun a6 hf6 => ⟨fun e => absurd e (by decide), ?_⟩
    refine p_done (by kernel_rfl) ?_
    intro hA4
    refine k_seg' 0 [(4, true), (5, true), (6, true), (7, false), (8, false), (9, true)] (by kernel_rfl) (by kernel_rfl) hA4 (by kernel_rfl) ?_
    refine p_qP 3 [] [(2, pB b1 0), (3, pB b2 0), (12, .agg #[.bool ((lkK r17 x1_kind zrow).lot), .bool ((lkK r17 x1_kind zrow).frm), .bool ((lkK r17 x1_kind zrow).to), .bool ((lkK r17 x1_kind zrow).mass), fnV ((lkK r17 x1_kind zrow).fn)]), (13, .bool (hasK r17 x1_kind))] [] hf6 (by kernel_rfl) (fun _ => .nil) fun a7 hf7 => ?_
    refine p_box (i := 7) (d := (some 5)) (cs := [.bool false, .bool false, .bool false, .bool false, fnV none]) (T := 163) (v := fun b4 => pB b4 0) hS4 hf7 (fun b => by kernel_rfl) fun b4 ww4 a8 hS5 hf8 => ⟨fun _ => Sub.of k1 (St.drop 1 hS5), ?_⟩
    have s3 : Sub h (box b2 [vI x1_kind, vI x1_lot, vI x1_from, vI x1_to, vI x1_mass] 28 :: box b1 [.slice o_x0_lots x0_lots.length c_x0_lots, v0_x0_holds, v1_x0_holds, v2_x0_holds, v3_x0_holds, v4_x0_holds, v5_x0_holds, v6_x0_holds, v7_x0_holds, v8_x0_holds] 26 :: L) _ := Sub.of k1 (St.drop 1 hS5)
    refine p_store_eq (i := 8) (j := 0) (b := b4) (off := 0) (vs := [.bool ((lkK r17 x1_kind zrow).lot), .bool ((lkK r17 x1_kind zrow).frm), .bool ((lkK r17 x1_kind zrow).to), .bool ((lkK r17 x1_kind zrow).mass), fnV ((lkK r17 x1_kind zrow).fn)]) (cs' := [.bool ((lkK r17 x1_kind zrow).lot), .bool ((lkK r17 x1_kind zrow).frm), .bool ((lkK r17 x1_kind zrow).to), .bool ((lkK r17 x1_kind zrow).mass), fnV ((lkK r17 x1_kind zrow).fn)]) hS5 hf8 rfl (by kernel_rfl) (by generalize (lkK r17 x1_kind zrow).fn = q; cases q <;> kernel_rfl) rfl fun ww5 a9 hS6 hf9 => ⟨fun e => absurd e (by decide), ?_⟩
    refine p_qP 1 [] [(2, pB b1 0), (3, pB b2 0), (5, pB b4 0), (6, .bool (hasK r17 x1_kind))] [] hf9 (by kernel_rfl) (fun _ => .nil) fun a10 hf10 => ?_
    refine p_done (by kernel_rfl) ?_
    intro hA5
    refine k_done' (by kernel_rfl) (by kernel_rfl) ?_
    refine n_then ?_
    have hf11 := Fr.keep (ks := [2, 3, 5, 6]) (r := [(2, pB b1 0), (3, pB b2 0), (5, pB b4 0), (6, .bool (hasK r17 x1_kind))]) hf10 (by kernel_rfl)
    exact ⟨z2, (hasK r17 x1_kind), (lkK r17 x1_kind zrow).lot, (lkK r17 x1_kind zrow).frm, (lkK r17 x1_kind zrow).to, (lkK r17 x1_kind zrow).mass, (lkK r17 x1_kind zrow).fn, b4, k1, hf11, (St.pick 1 [0] hS6 (by kernel_rfl)), hr1⟩
   ·skip
    refine p_box (i := 7) (d := (some 5)) (cs := [.bool false, .bool false, .bool false, .bool false, fnV none]) (T := 163) (v := fun b5 => pB b5 0) hS4 hf5 (fun b => by kernel_rfl) fun b5 ww6 a11 hS7 hf12 => ⟨fun _ => Sub.of k1 (St.drop 1 hS7), ?_⟩
    refine p_done (by kernel_rfl) ?_
    intro hA6
    have s4 : Sub h (box b2 [vI x1_kind, vI x1_lot, vI x1_from, vI x1_to, vI x1_mass] 28 :: box b1 [.slice o_x0_lots x0_lots.length c_x0_lots, v0_x0_holds, v1_x0_holds, v2_x0_holds, v3_x0_holds, v4_x0_holds, v5_x0_holds, v6_x0_holds, v7_x0_holds, v8_x0_holds] 26 :: L) _ := Sub.of k1 (St.drop 1 hS7)
    refine k_seg' 0 [(3, false), (4, true), (5, true), (6, true), (8, false), (9, true)] (by kernel_rfl) (by kernel_rfl) hA6 (by kernel_rfl) ?_
    refine p_lookup (i := 3) (d := (some 11)) (t := 164) (o := e1) (k := x1_kind) (c := true) (z := zrow) (D := r17) hf12 (by kernel_rfl) mp164 (MapR.look hx1 hS7) fun a12 hf13 => ⟨fun e => absurd e (by decide), ?_⟩
    refine p_qP 3 [] [(2, pB b1 0), (3, pB b2 0), (5, pB b5 0), (12, .agg #[.bool ((lkK r17 x1_kind zrow).lot), .bool ((lkK r17 x1_kind zrow).frm), .bool ((lkK r17 x1_kind zrow).to), .bool ((lkK r17 x1_kind zrow).mass), fnV ((lkK r17 x1_kind zrow).fn)]), (13, .bool (hasK r17 x1_kind))] [] hf13 (by kernel_rfl) (fun _ => .nil) fun a13 hf14 => ?_
    refine p_store_eq (i := 8) (j := 0) (b := b5) (off := 0) (vs := [.bool ((lkK r17 x1_kind zrow).lot), .bool ((lkK r17 x1_kind zrow).frm), .bool ((lkK r17 x1_kind zrow).to), .bool ((lkK r17 x1_kind zrow).mass), fnV ((lkK r17 x1_kind zrow).fn)]) (cs' := [.bool ((lkK r17 x1_kind zrow).lot), .bool ((lkK r17 x1_kind zrow).frm), .bool ((lkK r17 x1_kind zrow).to), .bool ((lkK r17 x1_kind zrow).mass), fnV ((lkK r17 x1_kind zrow).fn)]) hS7 hf14 rfl (by kernel_rfl) (by generalize (lkK r17 x1_kind zrow).fn = q; cases q <;> kernel_rfl) rfl fun ww7 a14 hS8 hf15 => ⟨fun e => absurd e (by decide), ?_⟩
    refine p_qP 1 [] [(2, pB b1 0), (3, pB b2 0), (5, pB b5 0), (6, .bool (hasK r17 x1_kind))] [] hf15 (by kernel_rfl) (fun _ => .nil) fun a15 hf16 => ?_
    refine p_done (by kernel_rfl) ?_
    intro hA7
    refine k_done' (by kernel_rfl) (by kernel_rfl) ?_
    refine n_then ?_
    have hf17 := Fr.keep (ks := [2, 3, 5, 6]) (r := [(2, pB b1 0), (3, pB b2 0), (5, pB b5 0), (6, .bool (hasK r17 x1_kind))]) hf16 (by kernel_rfl)
    exact ⟨z2, (hasK r17 x1_kind), (lkK r17 x1_kind zrow).lot, (lkK r17 x1_kind zrow).frm, (lkK r17 x1_kind zrow).to, (lkK r17 x1_kind zrow).mass, (lkK r17 x1_kind zrow).fn, b5, k1, hf17, (St.pick 1 [0] hS8 (by kernel_rfl)), hr1⟩
  ·skip
   refine p_box (i := 7) (d := (some 5)) (cs := [.bool false, .bool false, .bool false, .bool false, fnV none]) (T := 163) (v := fun b6 => pB b6 0) hS3 hf4 (fun b => by kernel_rfl) fun b6 ww8 a16 hS9 hf18 => ⟨fun _ => Sub.of (Zone.le_refl _) (St.drop 1 hS9), ?_⟩
   refine p_done (by kernel_rfl) ?_
   intro hA8
   have s5 : Sub h (box b2 [vI x1_kind, vI x1_lot, vI x1_from, vI x1_to, vI x1_mass] 28 :: box b1 [.slice o_x0_lots x0_lots.length c_x0_lots, v0_x0_holds, v1_x0_holds, v2_x0_holds, v3_x0_holds, v4_x0_holds, v5_x0_holds, v6_x0_holds, v7_x0_holds, v8_x0_holds] 26 :: L) _ := Sub.of (Zone.le_refl _) (St.drop 1 hS9)
   refine k_seg' 0 [(0, false), (3, false), (4, true), (5, true), (6, true), (8, false), (9, true)] (by kernel_rfl) (by kernel_rfl) hA8 (by kernel_rfl) ?_
   obtain ⟨r18, hd2, hr2⟩ := bind_some hr
   refine p_call (i := 0) (d := some 8) (f := 125) (args := #[]) hf18 (by kernel_rfl) (f125_ok fuel  r18 hd2 h _ _ hS9 ) ?_
   rintro v2 ww9 a17 ⟨z3, e2, k2, rfl, hS10, hx2⟩ hf19
   refine ⟨fun _ => Sub.of k2 (St.drop 1 hS10), ?_⟩
   have s6 : Sub h (box b2 [vI x1_kind, vI x1_lot, vI x1_from, vI x1_to, vI x1_mass] 28 :: box b1 [.slice o_x0_lots x0_lots.length c_x0_lots, v0_x0_holds, v1_x0_holds, v2_x0_holds, v3_x0_holds, v4_x0_holds, v5_x0_holds, v6_x0_holds, v7_x0_holds, v8_x0_holds] 26 :: L) _ := Sub.of k2 (St.drop 1 hS10)
   refine p_lookup (i := 3) (d := (some 11)) (t := 164) (o := e2) (k := x1_kind) (c := true) (z := zrow) (D := r18) hf19 (by kernel_rfl) mp164 (MapR.look hx2 hS10) fun a18 hf20 => ⟨fun e => absurd e (by decide), ?_⟩
   refine p_qP 3 [] [(2, pB b1 0), (3, pB b2 0), (5, pB b6 0), (12, .agg #[.bool ((lkK r18 x1_kind zrow).lot), .bool ((lkK r18 x1_kind zrow).frm), .bool ((lkK r18 x1_kind zrow).to), .bool ((lkK r18 x1_kind zrow).mass), fnV ((lkK r18 x1_kind zrow).fn)]), (13, .bool (hasK r18 x1_kind))] [] hf20 (by kernel_rfl) (fun _ => .nil) fun a19 hf21 => ?_
   refine p_store_eq (i := 8) (j := 0) (b := b6) (off := 0) (vs := [.bool ((lkK r18 x1_kind zrow).lot), .bool ((lkK r18 x1_kind zrow).frm), .bool ((lkK r18 x1_kind zrow).to), .bool ((lkK r18 x1_kind zrow).mass), fnV ((lkK r18 x1_kind zrow).fn)]) (cs' := [.bool ((lkK r18 x1_kind zrow).lot), .bool ((lkK r18 x1_kind zrow).frm), .bool ((lkK r18 x1_kind zrow).to), .bool ((lkK r18 x1_kind zrow).mass), fnV ((lkK r18 x1_kind zrow).fn)]) hS10 hf21 rfl (by kernel_rfl) (by generalize (lkK r18 x1_kind zrow).fn = q; cases q <;> kernel_rfl) rfl fun ww10 a20 hS11 hf22 => ⟨fun e => absurd e (by decide), ?_⟩
   refine p_qP 1 [] [(2, pB b1 0), (3, pB b2 0), (5, pB b6 0), (6, .bool (hasK r18 x1_kind))] [] hf22 (by kernel_rfl) (fun _ => .nil) fun a21 hf23 => ?_
   refine p_done (by kernel_rfl) ?_
   intro hA9
   refine k_done' (by kernel_rfl) (by kernel_rfl) ?_
   refine n_then ?_
   have hf24 := Fr.keep (ks := [2, 3, 5, 6]) (r := [(2, pB b1 0), (3, pB b2 0), (5, pB b6 0), (6, .bool (hasK r18 x1_kind))]) hf23 (by kernel_rfl)
   exact ⟨z3, (hasK r18 x1_kind), (lkK r18 x1_kind zrow).lot, (lkK r18 x1_kind zrow).frm, (lkK r18 x1_kind zrow).to, (lkK r18 x1_kind zrow).mass, (lkK r18 x1_kind zrow).fn, b6, k2, hf24, (St.pick 1 [0] hS11 (by kernel_rfl)), hr2⟩
 ·rintro a22 ww11 ⟨z1, y7, y1, y3, y4, y5, y8, b3, k3, hf25, hS12, hr3⟩
  refine w_seq (by kernel_rfl) ?_
  refine w_mid (by kernel_rfl) (fun a w => ∃ z4 : Zone, ∃ y6 : Bool, Zone.le z1 z4 ∧ Fr a 121 [(2, pB b1 0), (3, pB b2 0), (5, pB b3 0), (59, .bool y6)] ∧ St z4 (box b3 [.bool y1, .bool y3, .bool y4, .bool y5, fnV y8] 163 :: box b2 [vI x1_kind, vI x1_lot, vI x1_from, vI x1_to, vI x1_mass] 28 :: box b1 [.slice o_x0_lots x0_lots.length c_x0_lots, v0_x0_holds, v1_x0_holds, v2_x0_holds, v3_x0_holds, v4_x0_holds, v5_x0_holds, v6_x0_holds, v7_x0_holds, v8_x0_holds] 26 :: L) w ∧ (F124_j2 fuel x0_lots x1_lot x1_from x1_to x1_mass y1 y3 y4 y5 y6) = some r) ?_ ?_
  ·skip
   refine w_reg (by kernel_rfl) ?_
   refine p_qn 3 [] [(2, pB b1 0), (3, pB b2 0), (5, pB b3 0), (16, .bool (!y7))] [] hf25 (by kernel_rfl) .nil fun a23 hf26 => ?_
   rcases Bool.eq_false_or_eq_true (!y7) with hb1 | hb1
   ·have hr4 := cond_t hb1 hr3
    have hf27 := Fr.conv hf26 (congrArg (fun z => ([(2, pB b1 0), (3, pB b2 0), (5, pB b3 0), (16, .bool z)] : FL)) hb1)
    refine p_qt [] [(2, pB b1 0), (3, pB b2 0), (5, pB b3 0), (59, .bool true)] [] hf27 (by kernel_rfl) .nil fun a24 hf28 => ?_
    have hf29 := Fr.keep (ks := [2, 3, 5, 59]) (r := [(2, pB b1 0), (3, pB b2 0), (5, pB b3 0), (59, .bool true)]) hf28 (by kernel_rfl)
    exact ⟨z1, true, (Zone.le_refl _), hf29, hS12, hr4⟩
   ·have hr5 := cond_f hb1 hr3
    have hf30 := Fr.conv hf26 (congrArg (fun z => ([(2, pB b1 0), (3, pB b2 0), (5, pB b3 0), (16, .bool z)] : FL)) hb1)
    refine p_qn 5 [.bool y1] [(2, pB b1 0), (3, pB b2 0), (5, pB b3 0), (16, .bool false), (21, .bool (!y1))] [.cell ⟨b3, 0, none⟩ (.bool y1)] hf30 (by kernel_rfl) (.cell (hS12.box (i := 0) rfl (j := 0) rfl) .nil) fun a25 hf31 => ?_
    rcases Bool.eq_false_or_eq_true (!y1) with hb2 | hb2
    ·have hr6 := cond_t hb2 hr5
     have hf32 := Fr.conv hf31 (congrArg (fun z => ([(2, pB b1 0), (3, pB b2 0), (5, pB b3 0), (16, .bool false), (21, .bool z)] : FL)) hb2)
     refine p_qn 6 [vI x1_lot] [(2, pB b1 0), (3, pB b2 0), (5, pB b3 0), (27, .bool (x1_lot != (0 : Int)))] [.cell ⟨b2, 1, none⟩ (vI x1_lot)] hf32 (by kernel_rfl) (.cell (hS12.box (i := 1) rfl (j := 1) rfl) .nil) fun a26 hf33 => ?_
     rcases Bool.eq_false_or_eq_true (x1_lot != (0 : Int)) with hb3 | hb3
     ·have hr7 := cond_t hb3 hr6
      have hf34 := Fr.conv hf33 (congrArg (fun z => ([(2, pB b1 0), (3, pB b2 0), (5, pB b3 0), (27, .bool z)] : FL)) hb3)
      refine p_qt [] [(2, pB b1 0), (3, pB b2 0), (5, pB b3 0), (59, .bool true)] [] hf34 (by kernel_rfl) .nil fun a27 hf35 => ?_
      have hf36 := Fr.keep (ks := [2, 3, 5, 59]) (r := [(2, pB b1 0), (3, pB b2 0), (5, pB b3 0), (59, .bool true)]) hf35 (by kernel_rfl)
      exact ⟨z1, true, (Zone.le_refl _), hf36, hS12, hr7⟩
     ·have hr8 := cond_f hb3 hr6
      have hf37 := Fr.conv hf33 (congrArg (fun z => ([(2, pB b1 0), (3, pB b2 0), (5, pB b3 0), (27, .bool z)] : FL)) hb3)
      refine p_qn 5 [.bool y3] [(2, pB b1 0), (3, pB b2 0), (5, pB b3 0), (27, .bool false), (32, .bool (!y3))] [.cell ⟨b3, 1, none⟩ (.bool y3)] hf37 (by kernel_rfl) (.cell (hS12.box (i := 0) rfl (j := 1) rfl) .nil) fun a28 hf38 => ?_
      rcases Bool.eq_false_or_eq_true (!y3) with hb4 | hb4
      ·have hr9 := cond_t hb4 hr8
       have hf39 := Fr.conv hf38 (congrArg (fun z => ([(2, pB b1 0), (3, pB b2 0), (5, pB b3 0), (27, .bool false), (32, .bool z)] : FL)) hb4)
       refine p_qn 6 [vI x1_from] [(2, pB b1 0), (3, pB b2 0), (5, pB b3 0), (38, .bool (x1_from != (0 : Int)))] [.cell ⟨b2, 2, none⟩ (vI x1_from)] hf39 (by kernel_rfl) (.cell (hS12.box (i := 1) rfl (j := 2) rfl) .nil) fun a29 hf40 => ?_
       rcases Bool.eq_false_or_eq_true (x1_from != (0 : Int)) with hb5 | hb5
       ·have hr10 := cond_t hb5 hr9
        have hf41 := Fr.conv hf40 (congrArg (fun z => ([(2, pB b1 0), (3, pB b2 0), (5, pB b3 0), (38, .bool z)] : FL)) hb5)
        refine p_qt [] [(2, pB b1 0), (3, pB b2 0), (5, pB b3 0), (59, .bool true)] [] hf41 (by kernel_rfl) .nil fun a30 hf42 => ?_
        have hf43 := Fr.keep (ks := [2, 3, 5, 59]) (r := [(2, pB b1 0), (3, pB b2 0), (5, pB b3 0), (59, .bool true)]) hf42 (by kernel_rfl)
        exact ⟨z1, true, (Zone.le_refl _), hf43, hS12, hr10⟩
       ·have hr11 := cond_f hb5 hr9
        have hf44 := Fr.conv hf40 (congrArg (fun z => ([(2, pB b1 0), (3, pB b2 0), (5, pB b3 0), (38, .bool z)] : FL)) hb5)
        refine p_qn 5 [.bool y4] [(2, pB b1 0), (3, pB b2 0), (5, pB b3 0), (38, .bool false), (43, .bool (!y4))] [.cell ⟨b3, 2, none⟩ (.bool y4)] hf44 (by kernel_rfl) (.cell (hS12.box (i := 0) rfl (j := 2) rfl) .nil) fun a31 hf45 => ?_
        rcases Bool.eq_false_or_eq_true (!y4) with hb6 | hb6
        ·have hr12 := cond_t hb6 hr11
         have hf46 := Fr.conv hf45 (congrArg (fun z => ([(2, pB b1 0), (3, pB b2 0), (5, pB b3 0), (38, .bool false), (43, .bool z)] : FL)) hb6)
         refine p_qn 6 [vI x1_to] [(2, pB b1 0), (3, pB b2 0), (5, pB b3 0), (49, .bool (x1_to != (0 : Int)))] [.cell ⟨b2, 3, none⟩ (vI x1_to)] hf46 (by kernel_rfl) (.cell (hS12.box (i := 1) rfl (j := 3) rfl) .nil) fun a32 hf47 => ?_
         rcases Bool.eq_false_or_eq_true (x1_to != (0 : Int)) with hb7 | hb7
         ·have hr13 := cond_t hb7 hr12
          have hf48 := Fr.conv hf47 (congrArg (fun z => ([(2, pB b1 0), (3, pB b2 0), (5, pB b3 0), (49, .bool z)] : FL)) hb7)
          refine p_qt [] [(2, pB b1 0), (3, pB b2 0), (5, pB b3 0), (59, .bool true)] [] hf48 (by kernel_rfl) .nil fun a33 hf49 => ?_
          have hf50 := Fr.keep (ks := [2, 3, 5, 59]) (r := [(2, pB b1 0), (3, pB b2 0), (5, pB b3 0), (59, .bool true)]) hf49 (by kernel_rfl)
          exact ⟨z1, true, (Zone.le_refl _), hf50, hS12, hr13⟩
         ·have hr14 := cond_f hb7 hr12
          have hf51 := Fr.conv hf47 (congrArg (fun z => ([(2, pB b1 0), (3, pB b2 0), (5, pB b3 0), (49, .bool z)] : FL)) hb7)
          refine p_qn 5 [.bool y5] [(2, pB b1 0), (3, pB b2 0), (5, pB b3 0), (49, .bool false), (54, .bool (!y5))] [.cell ⟨b3, 3, none⟩ (.bool y5)] hf51 (by kernel_rfl) (.cell (hS12.box (i := 0) rfl (j := 3) rfl) .nil) fun a34 hf52 => ?_
          rcases Bool.eq_false_or_eq_true (!y5) with hb8 | hb8
          ·have hr15 := cond_t hb8 hr14
           have hf53 := Fr.conv hf52 (congrArg (fun z => ([(2, pB b1 0), (3, pB b2 0), (5, pB b3 0), (49, .bool false), (54, .bool z)] : FL)) hb8)
           refine p_qt [vI x1_mass] [(2, pB b1 0), (3, pB b2 0), (5, pB b3 0), (59, .bool (x1_mass != (0 : Int)))] [.cell ⟨b2, 4, none⟩ (vI x1_mass)] hf53 (by kernel_rfl) (.cell (hS12.box (i := 1) rfl (j := 4) rfl) .nil) fun a35 hf54 => ?_
           have hf55 := Fr.keep (ks := [2, 3, 5, 59]) (r := [(2, pB b1 0), (3, pB b2 0), (5, pB b3 0), (59, .bool (x1_mass != (0 : Int)))]) hf54 (by kernel_rfl)
           exact ⟨z1, (x1_mass != (0 : Int)), (Zone.le_refl _), hf55, hS12, hr15⟩
          ·have hr16 := cond_f hb8 hr14
           have hf56 := Fr.conv hf52 (congrArg (fun z => ([(2, pB b1 0), (3, pB b2 0), (5, pB b3 0), (49, .bool false), (54, .bool z)] : FL)) hb8)
           refine p_qt [] [(2, pB b1 0), (3, pB b2 0), (5, pB b3 0), (59, .bool false)] [] hf56 (by kernel_rfl) .nil fun a36 hf57 => ?_
           have hf58 := Fr.keep (ks := [2, 3, 5, 59]) (r := [(2, pB b1 0), (3, pB b2 0), (5, pB b3 0), (59, .bool false)]) hf57 (by kernel_rfl)
           exact ⟨z1, false, (Zone.le_refl _), hf58, hS12, hr16⟩
        ·have hr17 := cond_f hb6 hr11
         have hf59 := Fr.conv hf45 (congrArg (fun z => ([(2, pB b1 0), (3, pB b2 0), (5, pB b3 0), (38, .bool false), (43, .bool z)] : FL)) hb6)
         refine p_qn 11 [.bool y5] [(2, pB b1 0), (3, pB b2 0), (5, pB b3 0), (49, .bool false), (54, .bool (!y5))] [.cell ⟨b3, 3, none⟩ (.bool y5)] hf59 (by kernel_rfl) (.cell (hS12.box (i := 0) rfl (j := 3) rfl) .nil) fun a37 hf60 => ?_
         rcases Bool.eq_false_or_eq_true (!y5) with hb9 | hb9
         ·have hr18 := cond_t hb9 hr17
          have hf61 := Fr.conv hf60 (congrArg (fun z => ([(2, pB b1 0), (3, pB b2 0), (5, pB b3 0), (49, .bool false), (54, .bool z)] : FL)) hb9)
          refine p_qt [vI x1_mass] [(2, pB b1 0), (3, pB b2 0), (5, pB b3 0), (59, .bool (x1_mass != (0 : Int)))] [.cell ⟨b2, 4, none⟩ (vI x1_mass)] hf61 (by kernel_rfl) (.cell (hS12.box (i := 1) rfl (j := 4) rfl) .nil) fun a38 hf62 => ?_
          have hf63 := Fr.keep (ks := [2, 3, 5, 59]) (r := [(2, pB b1 0), (3, pB b2 0), (5, pB b3 0), (59, .bool (x1_mass != (0 : Int)))]) hf62 (by kernel_rfl)
          exact ⟨z1, (x1_mass != (0 : Int)), (Zone.le_refl _), hf63, hS12, hr18⟩
         ·have hr19 := cond_f hb9 hr17
          have hf64 := Fr.conv hf60 (congrArg (fun z => ([(2, pB b1 0), (3, pB b2 0), (5, pB b3 0), (49, .bool false), (54, .bool z)] : FL)) hb9)
          refine p_qt [] [(2, pB b1 0), (3, pB b2 0), (5, pB b3 0), (59, .bool false)] [] hf64 (by kernel_rfl) .nil fun a39 hf65 => ?_
          have hf66 := Fr.keep (ks := [2, 3, 5, 59]) (r := [(2, pB b1 0), (3, pB b2 0), (5, pB b3 0), (59, .bool false)]) hf65 (by kernel_rfl)
          exact ⟨z1, false, (Zone.le_refl _), hf66, hS12, hr19⟩
      ·have hr20 := cond_f hb4 hr8
       have hf67 := Fr.conv hf38 (congrArg (fun z => ([(2, pB b1 0), (3, pB b2 0), (5, pB b3 0), (27, .bool false), (32, .bool z)] : FL)) hb4)
       refine p_qn 11 [.bool y4] [(2, pB b1 0), (3, pB b2 0), (5, pB b3 0), (38, .bool false), (43, .bool (!y4))] [.cell ⟨b3, 2, none⟩ (.bool y4)] hf67 (by kernel_rfl) (.cell (hS12.box (i := 0) rfl (j := 2) rfl) .nil) fun a40 hf68 => ?_
       rcases Bool.eq_false_or_eq_true (!y4) with hb10 | hb10
       ·have hr21 := cond_t hb10 hr20
        have hf69 := Fr.conv hf68 (congrArg (fun z => ([(2, pB b1 0), (3, pB b2 0), (5, pB b3 0), (38, .bool false), (43, .bool z)] : FL)) hb10)
        refine p_qn 6 [vI x1_to] [(2, pB b1 0), (3, pB b2 0), (5, pB b3 0), (49, .bool (x1_to != (0 : Int)))] [.cell ⟨b2, 3, none⟩ (vI x1_to)] hf69 (by kernel_rfl) (.cell (hS12.box (i := 1) rfl (j := 3) rfl) .nil) fun a41 hf70 => ?_
        rcases Bool.eq_false_or_eq_true (x1_to != (0 : Int)) with hb11 | hb11
        ·have hr22 := cond_t hb11 hr21
         have hf71 := Fr.conv hf70 (congrArg (fun z => ([(2, pB b1 0), (3, pB b2 0), (5, pB b3 0), (49, .bool z)] : FL)) hb11)
         refine p_qt [] [(2, pB b1 0), (3, pB b2 0), (5, pB b3 0), (59, .bool true)] [] hf71 (by kernel_rfl) .nil fun a42 hf72 => ?_
         have hf73 := Fr.keep (ks := [2, 3, 5, 59]) (r := [(2, pB b1 0), (3, pB b2 0), (5, pB b3 0), (59, .bool true)]) hf72 (by kernel_rfl)
         exact ⟨z1, true, (Zone.le_refl _), hf73, hS12, hr22⟩
        ·have hr23 := cond_f hb11 hr21
         have hf74 := Fr.conv hf70 (congrArg (fun z => ([(2, pB b1 0), (3, pB b2 0), (5, pB b3 0), (49, .bool z)] : FL)) hb11)
         refine p_qn 5 [.bool y5] [(2, pB b1 0), (3, pB b2 0), (5, pB b3 0), (49, .bool false), (54, .bool (!y5))] [.cell ⟨b3, 3, none⟩ (.bool y5)] hf74 (by kernel_rfl) (.cell (hS12.box (i := 0) rfl (j := 3) rfl) .nil) fun a43 hf75 => ?_
         rcases Bool.eq_false_or_eq_true (!y5) with hb12 | hb12
         ·have hr24 := cond_t hb12 hr23
          have hf76 := Fr.conv hf75 (congrArg (fun z => ([(2, pB b1 0), (3, pB b2 0), (5, pB b3 0), (49, .bool false), (54, .bool z)] : FL)) hb12)
          refine p_qt [vI x1_mass] [(2, pB b1 0), (3, pB b2 0), (5, pB b3 0), (59, .bool (x1_mass != (0 : Int)))] [.cell ⟨b2, 4, none⟩ (vI x1_mass)] hf76 (by kernel_rfl) (.cell (hS12.box (i := 1) rfl (j := 4) rfl) .nil) fun a44 hf77 => ?_
          have hf78 := Fr.keep (ks := [2, 3, 5, 59]) (r := [(2, pB b1 0), (3, pB b2 0), (5, pB b3 0), (59, .bool (x1_mass != (0 : Int)))]) hf77 (by kernel_rfl)
          exact ⟨z1, (x1_mass != (0 : Int)), (Zone.le_refl _), hf78, hS12, hr24⟩
         ·have hr25 := cond_f hb12 hr23
          have hf79 := Fr.conv hf75 (congrArg (fun z => ([(2, pB b1 0), (3, pB b2 0), (5, pB b3 0), (49, .bool false), (54, .bool z)] : FL)) hb12)
          refine p_qt [] [(2, pB b1 0), (3, pB b2 0), (5, pB b3 0), (59, .bool false)] [] hf79 (by kernel_rfl) .nil fun a45 hf80 => ?_
          have hf81 := Fr.keep (ks := [2, 3, 5, 59]) (r := [(2, pB b1 0), (3, pB b2 0), (5, pB b3 0), (59, .bool false)]) hf80 (by kernel_rfl)
          exact ⟨z1, false, (Zone.le_refl _), hf81, hS12, hr25⟩
       ·have hr26 := cond_f hb10 hr20
        have hf82 := Fr.conv hf68 (congrArg (fun z => ([(2, pB b1 0), (3, pB b2 0), (5, pB b3 0), (38, .bool false), (43, .bool z)] : FL)) hb10)
        refine p_qn 11 [.bool y5] [(2, pB b1 0), (3, pB b2 0), (5, pB b3 0), (49, .bool false), (54, .bool (!y5))] [.cell ⟨b3, 3, none⟩ (.bool y5)] hf82 (by kernel_rfl) (.cell (hS12.box (i := 0) rfl (j := 3) rfl) .nil) fun a46 hf83 => ?_
        rcases Bool.eq_false_or_eq_true (!y5) with hb13 | hb13
        ·have hr27 := cond_t hb13 hr26
         have hf84 := Fr.conv hf83 (congrArg (fun z => ([(2, pB b1 0), (3, pB b2 0), (5, pB b3 0), (49, .bool false), (54, .bool z)] : FL)) hb13)
         refine p_qt [vI x1_mass] [(2, pB b1 0), (3, pB b2 0), (5, pB b3 0), (59, .bool (x1_mass != (0 : Int)))] [.cell ⟨b2, 4, none⟩ (vI x1_mass)] hf84 (by kernel_rfl) (.cell (hS12.box (i := 1) rfl (j := 4) rfl) .nil) fun a47 hf85 => ?_
         have hf86 := Fr.keep (ks := [2, 3, 5, 59]) (r := [(2, pB b1 0), (3, pB b2 0), (5, pB b3 0), (59, .bool (x1_mass != (0 : Int)))]) hf85 (by kernel_rfl)
         exact ⟨z1, (x1_mass != (0 : Int)), (Zone.le_refl _), hf86, hS12, hr27⟩
        ·have hr28 := cond_f hb13 hr26
         have hf87 := Fr.conv hf83 (congrArg (fun z => ([(2, pB b1 0), (3, pB b2 0), (5, pB b3 0), (49, .bool false), (54, .bool z)] : FL)) hb13)
         refine p_qt [] [(2, pB b1 0), (3, pB b2 0), (5, pB b3 0), (59, .bool false)] [] hf87 (by kernel_rfl) .nil fun a48 hf88 => ?_
         have hf89 := Fr.keep (ks := [2, 3, 5, 59]) (r := [(2, pB b1 0), (3, pB b2 0), (5, pB b3 0), (59, .bool false)]) hf88 (by kernel_rfl)
         exact ⟨z1, false, (Zone.le_refl _), hf89, hS12, hr28⟩
    ·have hr29 := cond_f hb2 hr5
     have hf90 := Fr.conv hf31 (congrArg (fun z => ([(2, pB b1 0), (3, pB b2 0), (5, pB b3 0), (16, .bool false), (21, .bool z)] : FL)) hb2)
     refine p_qn 11 [.bool y3] [(2, pB b1 0), (3, pB b2 0), (5, pB b3 0), (27, .bool false), (32, .bool (!y3))] [.cell ⟨b3, 1, none⟩ (.bool y3)] hf90 (by kernel_rfl) (.cell (hS12.box (i := 0) rfl (j := 1) rfl) .nil) fun a49 hf91 => ?_
     rcases Bool.eq_false_or_eq_true (!y3) with hb14 | hb14
     ·have hr30 := cond_t hb14 hr29
      have hf92 := Fr.conv hf91 (congrArg (fun z => ([(2, pB b1 0), (3, pB b2 0), (5, pB b3 0), (27, .bool false), (32, .bool z)] : FL)) hb14)
      refine p_qn 6 [vI x1_from] [(2, pB b1 0), (3, pB b2 0), (5, pB b3 0), (38, .bool (x1_from != (0 : Int)))] [.cell ⟨b2, 2, none⟩ (vI x1_from)] hf92 (by kernel_rfl) (.cell (hS12.box (i := 1) rfl (j := 2) rfl) .nil) fun a50 hf93 => ?_
      rcases Bool.eq_false_or_eq_true (x1_from != (0 : Int)) with hb15 | hb15
      ·have hr31 := cond_t hb15 hr30
       have hf94 := Fr.conv hf93 (congrArg (fun z => ([(2, pB b1 0), (3, pB b2 0), (5, pB b3 0), (38, .bool z)] : FL)) hb15)
       refine p_qt [] [(2, pB b1 0), (3, pB b2 0), (5, pB b3 0), (59, .bool true)] [] hf94 (by kernel_rfl) .nil fun a51 hf95 => ?_
       have hf96 := Fr.keep (ks := [2, 3, 5, 59]) (r := [(2, pB b1 0), (3, pB b2 0), (5, pB b3 0), (59, .bool true)]) hf95 (by kernel_rfl)
       exact ⟨z1, true, (Zone.le_refl _), hf96, hS12, hr31⟩
      ·have hr32 := cond_f hb15 hr30
       have hf97 := Fr.conv hf93 (congrArg (fun z => ([(2, pB b1 0), (3, pB b2 0), (5, pB b3 0), (38, .bool z)] : FL)) hb15)
       refine p_qn 5 [.bool y4] [(2, pB b1 0), (3, pB b2 0), (5, pB b3 0), (38, .bool false), (43, .bool (!y4))] [.cell ⟨b3, 2, none⟩ (.bool y4)] hf97 (by kernel_rfl) (.cell (hS12.box (i := 0) rfl (j := 2) rfl) .nil) fun a52 hf98 => ?_
       rcases Bool.eq_false_or_eq_true (!y4) with hb16 | hb16
       ·have hr33 := cond_t hb16 hr32
        have hf99 := Fr.conv hf98 (congrArg (fun z => ([(2, pB b1 0), (3, pB b2 0), (5, pB b3 0), (38, .bool false), (43, .bool z)] : FL)) hb16)
        refine p_qn 6 [vI x1_to] [(2, pB b1 0), (3, pB b2 0), (5, pB b3 0), (49, .bool (x1_to != (0 : Int)))] [.cell ⟨b2, 3, none⟩ (vI x1_to)] hf99 (by kernel_rfl) (.cell (hS12.box (i := 1) rfl (j := 3) rfl) .nil) fun a53 hf100 => ?_
        rcases Bool.eq_false_or_eq_true (x1_to != (0 : Int)) with hb17 | hb17
        ·have hr34 := cond_t hb17 hr33
         have hf101 := Fr.conv hf100 (congrArg (fun z => ([(2, pB b1 0), (3, pB b2 0), (5, pB b3 0), (49, .bool z)] : FL)) hb17)
         refine p_qt [] [(2, pB b1 0), (3, pB b2 0), (5, pB b3 0), (59, .bool true)] [] hf101 (by kernel_rfl) .nil fun a54 hf102 => ?_
         have hf103 := Fr.keep (ks := [2, 3, 5, 59]) (r := [(2, pB b1 0), (3, pB b2 0), (5, pB b3 0), (59, .bool true)]) hf102 (by kernel_rfl)
         exact ⟨z1, true, (Zone.le_refl _), hf103, hS12, hr34⟩
        ·have hr35 := cond_f hb17 hr33
         have hf104 := Fr.conv hf100 (congrArg (fun z => ([(2, pB b1 0), (3, pB b2 0), (5, pB b3 0), (49, .bool z)] : FL)) hb17)
         refine p_qn 5 [.bool y5] [(2, pB b1 0), (3, pB b2 0), (5, pB b3 0), (49, .bool false), (54, .bool (!y5))] [.cell ⟨b3, 3, none⟩ (.bool y5)] hf104 (by kernel_rfl) (.cell (hS12.box (i := 0) rfl (j := 3) rfl) .nil) fun a55 hf105 => ?_
         rcases Bool.eq_false_or_eq_true (!y5) with hb18 | hb18
         ·have hr36 := cond_t hb18 hr35
          have hf106 := Fr.conv hf105 (congrArg (fun z => ([(2, pB b1 0), (3, pB b2 0), (5, pB b3 0), (49, .bool false), (54, .bool z)] : FL)) hb18)
          refine p_qt [vI x1_mass] [(2, pB b1 0), (3, pB b2 0), (5, pB b3 0), (59, .bool (x1_mass != (0 : Int)))] [.cell ⟨b2, 4, none⟩ (vI x1_mass)] hf106 (by kernel_rfl) (.cell (hS12.box (i := 1) rfl (j := 4) rfl) .nil) fun a56 hf107 => ?_
          have hf108 := Fr.keep (ks := [2, 3, 5, 59]) (r := [(2, pB b1 0), (3, pB b2 0), (5, pB b3 0), (59, .bool (x1_mass != (0 : Int)))]) hf107 (by kernel_rfl)
          exact ⟨z1, (x1_mass != (0 : Int)), (Zone.le_refl _), hf108, hS12, hr36⟩
         ·have hr37 := cond_f hb18 hr35
          have hf109 := Fr.conv hf105 (congrArg (fun z => ([(2, pB b1 0), (3, pB b2 0), (5, pB b3 0), (49, .bool false), (54, .bool z)] : FL)) hb18)
          refine p_qt [] [(2, pB b1 0), (3, pB b2 0), (5, pB b3 0), (59, .bool false)] [] hf109 (by kernel_rfl) .nil fun a57 hf110 => ?_
          have hf111 := Fr.keep (ks := [2, 3, 5, 59]) (r := [(2, pB b1 0), (3, pB b2 0), (5, pB b3 0), (59, .bool false)]) hf110 (by kernel_rfl)
          exact ⟨z1, false, (Zone.le_refl _), hf111, hS12, hr37⟩
       ·have hr38 := cond_f hb16 hr32
        have hf112 := Fr.conv hf98 (congrArg (fun z => ([(2, pB b1 0), (3, pB b2 0), (5, pB b3 0), (38, .bool false), (43, .bool z)] : FL)) hb16)
        refine p_qn 11 [.bool y5] [(2, pB b1 0), (3, pB b2 0), (5, pB b3 0), (49, .bool false), (54, .bool (!y5))] [.cell ⟨b3, 3, none⟩ (.bool y5)] hf112 (by kernel_rfl) (.cell (hS12.box (i := 0) rfl (j := 3) rfl) .nil) fun a58 hf113 => ?_
        rcases Bool.eq_false_or_eq_true (!y5) with hb19 | hb19
        ·have hr39 := cond_t hb19 hr38
         have hf114 := Fr.conv hf113 (congrArg (fun z => ([(2, pB b1 0), (3, pB b2 0), (5, pB b3 0), (49, .bool false), (54, .bool z)] : FL)) hb19)
         refine p_qt [vI x1_mass] [(2, pB b1 0), (3, pB b2 0), (5, pB b3 0), (59, .bool (x1_mass != (0 : Int)))] [.cell ⟨b2, 4, none⟩ (vI x1_mass)] hf114 (by kernel_rfl) (.cell (hS12.box (i := 1) rfl (j := 4) rfl) .nil) fun a59 hf115 => ?_
         have hf116 := Fr.keep (ks := [2, 3, 5, 59]) (r := [(2, pB b1 0), (3, pB b2 0), (5, pB b3 0), (59, .bool (x1_mass != (0 : Int)))]) hf115 (by kernel_rfl)
         exact ⟨z1, (x1_mass != (0 : Int)), (Zone.le_refl _), hf116, hS12, hr39⟩
        ·have hr40 := cond_f hb19 hr38
         have hf117 := Fr.conv hf113 (congrArg (fun z => ([(2, pB b1 0), (3, pB b2 0), (5, pB b3 0), (49, .bool false), (54, .bool z)] : FL)) hb19)
         refine p_qt [] [(2, pB b1 0), (3, pB b2 0), (5, pB b3 0), (59, .bool false)] [] hf117 (by kernel_rfl) .nil fun a60 hf118 => ?_
         have hf119 := Fr.keep (ks := [2, 3, 5, 59]) (r := [(2, pB b1 0), (3, pB b2 0), (5, pB b3 0), (59, .bool false)]) hf118 (by kernel_rfl)
         exact ⟨z1, false, (Zone.le_refl _), hf119, hS12, hr40⟩
     ·have hr41 := cond_f hb14 hr29
      have hf120 := Fr.conv hf91 (congrArg (fun z => ([(2, pB b1 0), (3, pB b2 0), (5, pB b3 0), (27, .bool false), (32, .bool z)] : FL)) hb14)
      refine p_qn 11 [.bool y4] [(2, pB b1 0), (3, pB b2 0), (5, pB b3 0), (38, .bool false), (43, .bool (!y4))] [.cell ⟨b3, 2, none⟩ (.bool y4)] hf120 (by kernel_rfl) (.cell (hS12.box (i := 0) rfl (j := 2) rfl) .nil) fun a61 hf121 => ?_
      rcases Bool.eq_false_or_eq_true (!y4) with hb20 | hb20
      ·have hr42 := cond_t hb20 hr41
       have hf122 := Fr.conv hf121 (congrArg (fun z => ([(2, pB b1 0), (3, pB b2 0), (5, pB b3 0), (38, .bool false), (43, .bool z)] : FL)) hb20)
       refine p_qn 6 [vI x1_to] [(2, pB b1 0), (3, pB b2 0), (5, pB b3 0), (49, .bool (x1_to != (0 : Int)))] [.cell ⟨b2, 3, none⟩ (vI x1_to)] hf122 (by kernel_rfl) (.cell (hS12.box (i := 1) rfl (j := 3) rfl) .nil) fun a62 hf123 => ?_
       rcases Bool.eq_false_or_eq_true (x1_to != (0 : Int)) with hb21 | hb21
       ·have hr43 := cond_t hb21 hr42
        have hf124 := Fr.conv hf123 (congrArg (fun z => ([(2, pB b1 0), (3, pB b2 0), (5, pB b3 0), (49, .bool z)] : FL)) hb21)
        refine p_qt [] [(2, pB b1 0), (3, pB b2 0), (5, pB b3 0), (59, .bool true)] [] hf124 (by kernel_rfl) .nil fun a63 hf125 => ?_
        have hf126 := Fr.keep (ks := [2, 3, 5, 59]) (r := [(2, pB b1 0), (3, pB b2 0), (5, pB b3 0), (59, .bool true)]) hf125 (by kernel_rfl)
        exact ⟨z1, true, (Zone.le_refl _), hf126, hS12, hr43⟩
       ·have hr44 := cond_f hb21 hr42
        have hf127 := Fr.conv hf123 (congrArg (fun z => ([(2, pB b1 0), (3, pB b2 0), (5, pB b3 0), (49, .bool z)] : FL)) hb21)
        refine p_qn 5 [.bool y5] [(2, pB b1 0), (3, pB b2 0), (5, pB b3 0), (49, .bool false), (54, .bool (!y5))] [.cell ⟨b3, 3, none⟩ (.bool y5)] hf127 (by kernel_rfl) (.cell (hS12.box (i := 0) rfl (j := 3) rfl) .nil) fun a64 hf128 => ?_
        rcases Bool.eq_false_or_eq_true (!y5) with hb22 | hb22
        ·have hr45 := cond_t hb22 hr44
         have hf129 := Fr.conv hf128 (congrArg (fun z => ([(2, pB b1 0), (3, pB b2 0), (5, pB b3 0), (49, .bool false), (54, .bool z)] : FL)) hb22)
         refine p_qt [vI x1_mass] [(2, pB b1 0), (3, pB b2 0), (5, pB b3 0), (59, .bool (x1_mass != (0 : Int)))] [.cell ⟨b2, 4, none⟩ (vI x1_mass)] hf129 (by kernel_rfl) (.cell (hS12.box (i := 1) rfl (j := 4) rfl) .nil) fun a65 hf130 => ?_
         have hf131 := Fr.keep (ks := [2, 3, 5, 59]) (r := [(2, pB b1 0), (3, pB b2 0), (5, pB b3 0), (59, .bool (x1_mass != (0 : Int)))]) hf130 (by kernel_rfl)
         exact ⟨z1, (x1_mass != (0 : Int)), (Zone.le_refl _), hf131, hS12, hr45⟩
        ·have hr46 := cond_f hb22 hr44
         have hf132 := Fr.conv hf128 (congrArg (fun z => ([(2, pB b1 0), (3, pB b2 0), (5, pB b3 0), (49, .bool false), (54, .bool z)] : FL)) hb22)
         refine p_qt [] [(2, pB b1 0), (3, pB b2 0), (5, pB b3 0), (59, .bool false)] [] hf132 (by kernel_rfl) .nil fun a66 hf133 => ?_
         have hf134 := Fr.keep (ks := [2, 3, 5, 59]) (r := [(2, pB b1 0), (3, pB b2 0), (5, pB b3 0), (59, .bool false)]) hf133 (by kernel_rfl)
         exact ⟨z1, false, (Zone.le_refl _), hf134, hS12, hr46⟩
      ·have hr47 := cond_f hb20 hr41
       have hf135 := Fr.conv hf121 (congrArg (fun z => ([(2, pB b1 0), (3, pB b2 0), (5, pB b3 0), (38, .bool false), (43, .bool z)] : FL)) hb20)
       refine p_qn 11 [.bool y5] [(2, pB b1 0), (3, pB b2 0), (5, pB b3 0), (49, .bool false), (54, .bool (!y5))] [.cell ⟨b3, 3, none⟩ (.bool y5)] hf135 (by kernel_rfl) (.cell (hS12.box (i := 0) rfl (j := 3) rfl) .nil) fun a67 hf136 => ?_
       rcases Bool.eq_false_or_eq_true (!y5) with hb23 | hb23
       ·have hr48 := cond_t hb23 hr47
        have hf137 := Fr.conv hf136 (congrArg (fun z => ([(2, pB b1 0), (3, pB b2 0), (5, pB b3 0), (49, .bool false), (54, .bool z)] : FL)) hb23)
        refine p_qt [vI x1_mass] [(2, pB b1 0), (3, pB b2 0), (5, pB b3 0), (59, .bool (x1_mass != (0 : Int)))] [.cell ⟨b2, 4, none⟩ (vI x1_mass)] hf137 (by kernel_rfl) (.cell (hS12.box (i := 1) rfl (j := 4) rfl) .nil) fun a68 hf138 => ?_
        have hf139 := Fr.keep (ks := [2, 3, 5, 59]) (r := [(2, pB b1 0), (3, pB b2 0), (5, pB b3 0), (59, .bool (x1_mass != (0 : Int)))]) hf138 (by kernel_rfl)
        exact ⟨z1, (x1_mass != (0 : Int)), (Zone.le_refl _), hf139, hS12, hr48⟩
       ·have hr49 := cond_f hb23 hr47
        have hf140 := Fr.conv hf136 (congrArg (fun z => ([(2, pB b1 0), (3, pB b2 0), (5, pB b3 0), (49, .bool false), (54, .bool z)] : FL)) hb23)
        refine p_qt [] [(2, pB b1 0), (3, pB b2 0), (5, pB b3 0), (59, .bool false)] [] hf140 (by kernel_rfl) .nil fun a69 hf141 => ?_
        have hf142 := Fr.keep (ks := [2, 3, 5, 59]) (r := [(2, pB b1 0), (3, pB b2 0), (5, pB b3 0), (59, .bool false)]) hf141 (by kernel_rfl)
        exact ⟨z1, false, (Zone.le_refl _), hf142, hS12, hr49⟩
  ·rintro a70 ww12 ⟨z4, y6, k4, hf143, hS13, hr50⟩
   refine w_if hf143 (b := y6) (by kernel_rfl) (fun hb24 => ?_) (fun hb24 => ?_)
   ·have hr51 := cond_t hb24 hr50
    refine w_sq [] [(4, .bool false)] [] hf143 (by kernel_rfl) .nil fun a71 hf144 => ?_
    refine w_ret (by kernel_rfl) ?_
    refine r_then ?_
    refine p_ret (os := []) (v := .bool false) (obs := []) hf144 (by kernel_rfl) .nil ?_
    obtain rfl := some_eq hr51
    exact ⟨_, rfl, z4, (Zone.le_trans k3 k4), rfl, (St.drop 3 hS13)⟩
   ·have hr52 := cond_f hb24 hr50
    refine w_skip (by kernel_rfl) ?_
    refine n_then ?_
    refine w_seq (by kernel_rfl) ?_
    refine w_mid (by kernel_rfl) (fun a w => ∃ z5 : Zone, ∃ y2 : Bool, Zone.le z4 z5 ∧ Fr a 121 [(2, pB b1 0), (3, pB b2 0), (5, pB b3 0), (107, .bool y2)] ∧ St z5 (box b3 [.bool y1, .bool y3, .bool y4, .bool y5, fnV y8] 163 :: box b2 [vI x1_kind, vI x1_lot, vI x1_from, vI x1_to, vI x1_mass] 28 :: box b1 [.slice o_x0_lots x0_lots.length c_x0_lots, v0_x0_holds, v1_x0_holds, v2_x0_holds, v3_x0_holds, v4_x0_holds, v5_x0_holds, v6_x0_holds, v7_x0_holds, v8_x0_holds] 26 :: L) w ∧ (F124_j3 fuel x0_lots x1_lot y1 y2) = some r) ?_ ?_
    ·skip
     refine w_reg (by kernel_rfl) ?_
     refine p_qn 4 [.bool y3] [(2, pB b1 0), (3, pB b2 0), (5, pB b3 0), (63, .bool y3)] [.cell ⟨b3, 1, none⟩ (.bool y3)] hf143 (by kernel_rfl) (.cell (hS13.box (i := 0) rfl (j := 1) rfl) .nil) fun a72 hf145 => ?_
     rcases Bool.eq_false_or_eq_true y3 with hb25 | hb25
     ·have hr53 := cond_t hb25 hr52
      have hf146 := Fr.conv hf145 (congrArg (fun z => ([(2, pB b1 0), (3, pB b2 0), (5, pB b3 0), (63, .bool z)] : FL)) hb25)
      refine p_qn 2 [vI x1_from] [(2, pB b1 0), (3, pB b2 0), (5, pB b3 0), (63, .bool true), (65, vI x1_from)] [.cell ⟨b2, 2, none⟩ (vI x1_from)] hf146 (by kernel_rfl) (.cell (hS13.box (i := 1) rfl (j := 2) rfl) .nil) fun a73 hf147 => ?_
      obtain ⟨r2, hd3, hr54⟩ := bind_some hr53
      refine p_call (i := 6) (d := some 66) (f := 130) (args := #[vI x1_from]) hf147 (by kernel_rfl) (f130_ok fuel x1_from r2 hd3 z4 _ _ hS13 ) ?_
      rintro v3 ww13 a74 ⟨z6, k5, rfl, hS14⟩ hf148
      refine ⟨fun _ => trivial, ?_⟩
      refine p_qn 3 [] [(2, pB b1 0), (3, pB b2 0), (5, pB b3 0), (69, .bool (!r2))] [] hf148 (by kernel_rfl) .nil fun a75 hf149 => ?_
      rcases Bool.eq_false_or_eq_true (!r2) with hb26 | hb26
      ·have hr55 := cond_t hb26 hr54
       have hf150 := Fr.conv hf149 (congrArg (fun z => ([(2, pB b1 0), (3, pB b2 0), (5, pB b3 0), (69, .bool z)] : FL)) hb26)
       refine p_qt [] [(2, pB b1 0), (3, pB b2 0), (5, pB b3 0), (107, .bool true)] [] hf150 (by kernel_rfl) .nil fun a76 hf151 => ?_
       have hf152 := Fr.keep (ks := [2, 3, 5, 107]) (r := [(2, pB b1 0), (3, pB b2 0), (5, pB b3 0), (107, .bool true)]) hf151 (by kernel_rfl)
       exact ⟨z6, true, k5, hf152, hS14, hr55⟩
      ·have hr56 := cond_f hb26 hr54
       have hf153 := Fr.conv hf149 (congrArg (fun z => ([(2, pB b1 0), (3, pB b2 0), (5, pB b3 0), (69, .bool z)] : FL)) hb26)
       refine p_qn 4 [.bool y4] [(2, pB b1 0), (3, pB b2 0), (5, pB b3 0), (69, .bool false), (73, .bool y4)] [.cell ⟨b3, 2, none⟩ (.bool y4)] hf153 (by kernel_rfl) (.cell (hS14.box (i := 0) rfl (j := 2) rfl) .nil) fun a77 hf154 => ?_
       rcases Bool.eq_false_or_eq_true y4 with hb27 | hb27
       ·have hr57 := cond_t hb27 hr56
        have hf155 := Fr.conv hf154 (congrArg (fun z => ([(2, pB b1 0), (3, pB b2 0), (5, pB b3 0), (69, .bool false), (73, .bool z)] : FL)) hb27)
        refine p_qn 2 [vI x1_to] [(2, pB b1 0), (3, pB b2 0), (5, pB b3 0), (69, .bool false), (73, .bool true), (75, vI x1_to)] [.cell ⟨b2, 3, none⟩ (vI x1_to)] hf155 (by kernel_rfl) (.cell (hS14.box (i := 1) rfl (j := 3) rfl) .nil) fun a78 hf156 => ?_
        obtain ⟨r3, hd4, hr58⟩ := bind_some hr57
        refine p_call (i := 16) (d := some 76) (f := 130) (args := #[vI x1_to]) hf156 (by kernel_rfl) (f130_ok fuel x1_to r3 hd4 z6 _ _ hS14 ) ?_
        rintro v4 ww14 a79 ⟨z7, k6, rfl, hS15⟩ hf157
        refine ⟨fun _ => trivial, ?_⟩
        refine p_qn 4 [] [(2, pB b1 0), (3, pB b2 0), (5, pB b3 0), (80, .bool (!r3))] [] hf157 (by kernel_rfl) .nil fun a80 hf158 => ?_
        rcases Bool.eq_false_or_eq_true (!r3) with hb28 | hb28
        ·have hr59 := cond_t hb28 hr58
         have hf159 := Fr.conv hf158 (congrArg (fun z => ([(2, pB b1 0), (3, pB b2 0), (5, pB b3 0), (80, .bool z)] : FL)) hb28)
         refine p_qt [] [(2, pB b1 0), (3, pB b2 0), (5, pB b3 0), (107, .bool true)] [] hf159 (by kernel_rfl) .nil fun a81 hf160 => ?_
         have hf161 := Fr.keep (ks := [2, 3, 5, 107]) (r := [(2, pB b1 0), (3, pB b2 0), (5, pB b3 0), (107, .bool true)]) hf160 (by kernel_rfl)
         exact ⟨z7, true, (Zone.le_trans k5 k6), hf161, hS15, hr59⟩
        ·have hr60 := cond_f hb28 hr58
         have hf162 := Fr.conv hf158 (congrArg (fun z => ([(2, pB b1 0), (3, pB b2 0), (5, pB b3 0), (80, .bool z)] : FL)) hb28)
         refine p_qn 4 [.bool y3] [(2, pB b1 0), (3, pB b2 0), (5, pB b3 0), (80, .bool false), (84, .bool y3)] [.cell ⟨b3, 1, none⟩ (.bool y3)] hf162 (by kernel_rfl) (.cell (hS15.box (i := 0) rfl (j := 1) rfl) .nil) fun a82 hf163 => ?_
         rcases Bool.eq_false_or_eq_true y3 with hb29 | hb29
         ·have hr61 := cond_t hb29 hr60
          have hf164 := Fr.conv hf163 (congrArg (fun z => ([(2, pB b1 0), (3, pB b2 0), (5, pB b3 0), (80, .bool false), (84, .bool z)] : FL)) hb29)
          refine p_qn 5 [.bool y4] [(2, pB b1 0), (3, pB b2 0), (5, pB b3 0), (80, .bool false), (89, .bool y4)] [.cell ⟨b3, 2, none⟩ (.bool y4)] hf164 (by kernel_rfl) (.cell (hS15.box (i := 0) rfl (j := 2) rfl) .nil) fun a83 hf165 => ?_
          rcases Bool.eq_false_or_eq_true y4 with hb30 | hb30
          ·have hr62 := cond_t hb30 hr61
           have hf166 := Fr.conv hf165 (congrArg (fun z => ([(2, pB b1 0), (3, pB b2 0), (5, pB b3 0), (80, .bool false), (89, .bool z)] : FL)) hb30)
           refine p_qn 8 [vI x1_from, vI x1_to] [(2, pB b1 0), (3, pB b2 0), (5, pB b3 0), (97, .bool (x1_from == x1_to))] [.cell ⟨b2, 2, none⟩ (vI x1_from), .cell ⟨b2, 3, none⟩ (vI x1_to)] hf166 (by kernel_rfl) (.cell (hS15.box (i := 1) rfl (j := 2) rfl) (.cell (hS15.box (i := 1) rfl (j := 3) rfl) .nil)) fun a84 hf167 => ?_
           rcases Bool.eq_false_or_eq_true (x1_from == x1_to) with hb31 | hb31
           ·have hr63 := cond_t hb31 hr62
            have hf168 := Fr.conv hf167 (congrArg (fun z => ([(2, pB b1 0), (3, pB b2 0), (5, pB b3 0), (97, .bool z)] : FL)) hb31)
            refine p_qt [] [(2, pB b1 0), (3, pB b2 0), (5, pB b3 0), (107, .bool true)] [] hf168 (by kernel_rfl) .nil fun a85 hf169 => ?_
            have hf170 := Fr.keep (ks := [2, 3, 5, 107]) (r := [(2, pB b1 0), (3, pB b2 0), (5, pB b3 0), (107, .bool true)]) hf169 (by kernel_rfl)
            exact ⟨z7, true, (Zone.le_trans k5 k6), hf170, hS15, hr63⟩
           ·have hr64 := cond_f hb31 hr62
            have hf171 := Fr.conv hf167 (congrArg (fun z => ([(2, pB b1 0), (3, pB b2 0), (5, pB b3 0), (97, .bool z)] : FL)) hb31)
            refine p_qn 4 [.bool y5] [(2, pB b1 0), (3, pB b2 0), (5, pB b3 0), (97, .bool false), (101, .bool y5)] [.cell ⟨b3, 3, none⟩ (.bool y5)] hf171 (by kernel_rfl) (.cell (hS15.box (i := 0) rfl (j := 3) rfl) .nil) fun a86 hf172 => ?_
            rcases Bool.eq_false_or_eq_true y5 with hb32 | hb32
            ·have hr65 := cond_t hb32 hr64
             have hf173 := Fr.conv hf172 (congrArg (fun z => ([(2, pB b1 0), (3, pB b2 0), (5, pB b3 0), (97, .bool false), (101, .bool z)] : FL)) hb32)
             refine p_qn 2 [vI x1_mass] [(2, pB b1 0), (3, pB b2 0), (5, pB b3 0), (97, .bool false), (101, .bool true), (103, vI x1_mass)] [.cell ⟨b2, 4, none⟩ (vI x1_mass)] hf173 (by kernel_rfl) (.cell (hS15.box (i := 1) rfl (j := 4) rfl) .nil) fun a87 hf174 => ?_
             obtain ⟨r4, hd5, hr66⟩ := bind_some hr65
             refine p_call (i := 44) (d := some 104) (f := 71) (args := #[vI x1_mass, vI 1, vI 100000000]) hf174 (by kernel_rfl) (f71_ok fuel x1_mass 1 100000000 r4 hd5 z7 _ _ hS15 ) ?_
             rintro v5 ww15 a88 ⟨z8, k7, rfl, hS16⟩ hf175
             refine ⟨fun _ => trivial, ?_⟩
             refine p_qt [] [(2, pB b1 0), (3, pB b2 0), (5, pB b3 0), (107, .bool (!r4))] [] hf175 (by kernel_rfl) .nil fun a89 hf176 => ?_
             have hf177 := Fr.keep (ks := [2, 3, 5, 107]) (r := [(2, pB b1 0), (3, pB b2 0), (5, pB b3 0), (107, .bool (!r4))]) hf176 (by kernel_rfl)
             exact ⟨z8, (!r4), (Zone.le_trans (Zone.le_trans k5 k6) k7), hf177, hS16, hr66⟩
            ·have hr67 := cond_f hb32 hr64
             have hf178 := Fr.conv hf172 (congrArg (fun z => ([(2, pB b1 0), (3, pB b2 0), (5, pB b3 0), (97, .bool false), (101, .bool z)] : FL)) hb32)
             refine p_qt [] [(2, pB b1 0), (3, pB b2 0), (5, pB b3 0), (107, .bool false)] [] hf178 (by kernel_rfl) .nil fun a90 hf179 => ?_
             have hf180 := Fr.keep (ks := [2, 3, 5, 107]) (r := [(2, pB b1 0), (3, pB b2 0), (5, pB b3 0), (107, .bool false)]) hf179 (by kernel_rfl)
             exact ⟨z7, false, (Zone.le_trans k5 k6), hf180, hS15, hr67⟩
          ·have hr68 := cond_f hb30 hr61
           have hf181 := Fr.conv hf165 (congrArg (fun z => ([(2, pB b1 0), (3, pB b2 0), (5, pB b3 0), (80, .bool false), (89, .bool z)] : FL)) hb30)
           refine p_qn 12 [.bool y5] [(2, pB b1 0), (3, pB b2 0), (5, pB b3 0), (97, .bool false), (101, .bool y5)] [.cell ⟨b3, 3, none⟩ (.bool y5)] hf181 (by kernel_rfl) (.cell (hS15.box (i := 0) rfl (j := 3) rfl) .nil) fun a91 hf182 => ?_
           rcases Bool.eq_false_or_eq_true y5 with hb33 | hb33
           ·have hr69 := cond_t hb33 hr68
            have hf183 := Fr.conv hf182 (congrArg (fun z => ([(2, pB b1 0), (3, pB b2 0), (5, pB b3 0), (97, .bool false), (101, .bool z)] : FL)) hb33)
            refine p_qn 2 [vI x1_mass] [(2, pB b1 0), (3, pB b2 0), (5, pB b3 0), (97, .bool false), (101, .bool true), (103, vI x1_mass)] [.cell ⟨b2, 4, none⟩ (vI x1_mass)] hf183 (by kernel_rfl) (.cell (hS15.box (i := 1) rfl (j := 4) rfl) .nil) fun a92 hf184 => ?_
            obtain ⟨r5, hd6, hr70⟩ := bind_some hr69
            refine p_call (i := 44) (d := some 104) (f := 71) (args := #[vI x1_mass, vI 1, vI 100000000]) hf184 (by kernel_rfl) (f71_ok fuel x1_mass 1 100000000 r5 hd6 z7 _ _ hS15 ) ?_
            rintro v6 ww16 a93 ⟨z9, k8, rfl, hS17⟩ hf185
            refine ⟨fun _ => trivial, ?_⟩
            refine p_qt [] [(2, pB b1 0), (3, pB b2 0), (5, pB b3 0), (107, .bool (!r5))] [] hf185 (by kernel_rfl) .nil fun a94 hf186 => ?_
            have hf187 := Fr.keep (ks := [2, 3, 5, 107]) (r := [(2, pB b1 0), (3, pB b2 0), (5, pB b3 0), (107, .bool (!r5))]) hf186 (by kernel_rfl)
            exact ⟨z9, (!r5), (Zone.le_trans (Zone.le_trans k5 k6) k8), hf187, hS17, hr70⟩
           ·have hr71 := cond_f hb33 hr68
            have hf188 := Fr.conv hf182 (congrArg (fun z => ([(2, pB b1 0), (3, pB b2 0), (5, pB b3 0), (97, .bool false), (101, .bool z)] : FL)) hb33)
            refine p_qt [] [(2, pB b1 0), (3, pB b2 0), (5, pB b3 0), (107, .bool false)] [] hf188 (by kernel_rfl) .nil fun a95 hf189 => ?_
            have hf190 := Fr.keep (ks := [2, 3, 5, 107]) (r := [(2, pB b1 0), (3, pB b2 0), (5, pB b3 0), (107, .bool false)]) hf189 (by kernel_rfl)
            exact ⟨z7, false, (Zone.le_trans k5 k6), hf190, hS15, hr71⟩
         ·have hr72 := cond_f hb29 hr60
          have hf191 := Fr.conv hf163 (congrArg (fun z => ([(2, pB b1 0), (3, pB b2 0), (5, pB b3 0), (80, .bool false), (84, .bool z)] : FL)) hb29)
          refine p_qn 17 [.bool y5] [(2, pB b1 0), (3, pB b2 0), (5, pB b3 0), (97, .bool false), (101, .bool y5)] [.cell ⟨b3, 3, none⟩ (.bool y5)] hf191 (by kernel_rfl) (.cell (hS15.box (i := 0) rfl (j := 3) rfl) .nil) fun a96 hf192 => ?_
          rcases Bool.eq_false_or_eq_true y5 with hb34 | hb34
          ·have hr73 := cond_t hb34 hr72
           have hf193 := Fr.conv hf192 (congrArg (fun z => ([(2, pB b1 0), (3, pB b2 0), (5, pB b3 0), (97, .bool false), (101, .bool z)] : FL)) hb34)
           refine p_qn 2 [vI x1_mass] [(2, pB b1 0), (3, pB b2 0), (5, pB b3 0), (97, .bool false), (101, .bool true), (103, vI x1_mass)] [.cell ⟨b2, 4, none⟩ (vI x1_mass)] hf193 (by kernel_rfl) (.cell (hS15.box (i := 1) rfl (j := 4) rfl) .nil) fun a97 hf194 => ?_
           obtain ⟨r6, hd7, hr74⟩ := bind_some hr73
           refine p_call (i := 44) (d := some 104) (f := 71) (args := #[vI x1_mass, vI 1, vI 100000000]) hf194 (by kernel_rfl) (f71_ok fuel x1_mass 1 100000000 r6 hd7 z7 _ _ hS15 ) ?_
           rintro v7 ww17 a98 ⟨z10, k9, rfl, hS18⟩ hf195
           refine ⟨fun _ => trivial, ?_⟩
           refine p_qt [] [(2, pB b1 0), (3, pB b2 0), (5, pB b3 0), (107, .bool (!r6))] [] hf195 (by kernel_rfl) .nil fun a99 hf196 => ?_
           have hf197 := Fr.keep (ks := [2, 3, 5, 107]) (r := [(2, pB b1 0), (3, pB b2 0), (5, pB b3 0), (107, .bool (!r6))]) hf196 (by kernel_rfl)
           exact ⟨z10, (!r6), (Zone.le_trans (Zone.le_trans k5 k6) k9), hf197, hS18, hr74⟩
          ·have hr75 := cond_f hb34 hr72
           have hf198 := Fr.conv hf192 (congrArg (fun z => ([(2, pB b1 0), (3, pB b2 0), (5, pB b3 0), (97, .bool false), (101, .bool z)] : FL)) hb34)
           refine p_qt [] [(2, pB b1 0), (3, pB b2 0), (5, pB b3 0), (107, .bool false)] [] hf198 (by kernel_rfl) .nil fun a100 hf199 => ?_
           have hf200 := Fr.keep (ks := [2, 3, 5, 107]) (r := [(2, pB b1 0), (3, pB b2 0), (5, pB b3 0), (107, .bool false)]) hf199 (by kernel_rfl)
           exact ⟨z7, false, (Zone.le_trans k5 k6), hf200, hS15, hr75⟩
       ·have hr76 := cond_f hb27 hr56
        have hf201 := Fr.conv hf154 (congrArg (fun z => ([(2, pB b1 0), (3, pB b2 0), (5, pB b3 0), (69, .bool false), (73, .bool z)] : FL)) hb27)
        refine p_qn 11 [.bool y3] [(2, pB b1 0), (3, pB b2 0), (5, pB b3 0), (80, .bool false), (84, .bool y3)] [.cell ⟨b3, 1, none⟩ (.bool y3)] hf201 (by kernel_rfl) (.cell (hS14.box (i := 0) rfl (j := 1) rfl) .nil) fun a101 hf202 => ?_
        rcases Bool.eq_false_or_eq_true y3 with hb35 | hb35
        ·have hr77 := cond_t hb35 hr76
         have hf203 := Fr.conv hf202 (congrArg (fun z => ([(2, pB b1 0), (3, pB b2 0), (5, pB b3 0), (80, .bool false), (84, .bool z)] : FL)) hb35)
         refine p_qn 5 [.bool y4] [(2, pB b1 0), (3, pB b2 0), (5, pB b3 0), (80, .bool false), (89, .bool y4)] [.cell ⟨b3, 2, none⟩ (.bool y4)] hf203 (by kernel_rfl) (.cell (hS14.box (i := 0) rfl (j := 2) rfl) .nil) fun a102 hf204 => ?_
         rcases Bool.eq_false_or_eq_true y4 with hb36 | hb36
         ·have hr78 := cond_t hb36 hr77
          have hf205 := Fr.conv hf204 (congrArg (fun z => ([(2, pB b1 0), (3, pB b2 0), (5, pB b3 0), (80, .bool false), (89, .bool z)] : FL)) hb36)
          refine p_qn 8 [vI x1_from, vI x1_to] [(2, pB b1 0), (3, pB b2 0), (5, pB b3 0), (97, .bool (x1_from == x1_to))] [.cell ⟨b2, 2, none⟩ (vI x1_from), .cell ⟨b2, 3, none⟩ (vI x1_to)] hf205 (by kernel_rfl) (.cell (hS14.box (i := 1) rfl (j := 2) rfl) (.cell (hS14.box (i := 1) rfl (j := 3) rfl) .nil)) fun a103 hf206 => ?_
          rcases Bool.eq_false_or_eq_true (x1_from == x1_to) with hb37 | hb37
          ·have hr79 := cond_t hb37 hr78
           have hf207 := Fr.conv hf206 (congrArg (fun z => ([(2, pB b1 0), (3, pB b2 0), (5, pB b3 0), (97, .bool z)] : FL)) hb37)
           refine p_qt [] [(2, pB b1 0), (3, pB b2 0), (5, pB b3 0), (107, .bool true)] [] hf207 (by kernel_rfl) .nil fun a104 hf208 => ?_
           have hf209 := Fr.keep (ks := [2, 3, 5, 107]) (r := [(2, pB b1 0), (3, pB b2 0), (5, pB b3 0), (107, .bool true)]) hf208 (by kernel_rfl)
           exact ⟨z6, true, k5, hf209, hS14, hr79⟩
          ·have hr80 := cond_f hb37 hr78
           have hf210 := Fr.conv hf206 (congrArg (fun z => ([(2, pB b1 0), (3, pB b2 0), (5, pB b3 0), (97, .bool z)] : FL)) hb37)
           refine p_qn 4 [.bool y5] [(2, pB b1 0), (3, pB b2 0), (5, pB b3 0), (97, .bool false), (101, .bool y5)] [.cell ⟨b3, 3, none⟩ (.bool y5)] hf210 (by kernel_rfl) (.cell (hS14.box (i := 0) rfl (j := 3) rfl) .nil) fun a105 hf211 => ?_
           rcases Bool.eq_false_or_eq_true y5 with hb38 | hb38
           ·have hr81 := cond_t hb38 hr80
            have hf212 := Fr.conv hf211 (congrArg (fun z => ([(2, pB b1 0), (3, pB b2 0), (5, pB b3 0), (97, .bool false), (101, .bool z)] : FL)) hb38)
            refine p_qn 2 [vI x1_mass] [(2, pB b1 0), (3, pB b2 0), (5, pB b3 0), (97, .bool false), (101, .bool true), (103, vI x1_mass)] [.cell ⟨b2, 4, none⟩ (vI x1_mass)] hf212 (by kernel_rfl) (.cell (hS14.box (i := 1) rfl (j := 4) rfl) .nil) fun a106 hf213 => ?_
            obtain ⟨r7, hd8, hr82⟩ := bind_some hr81
            refine p_call (i := 44) (d := some 104) (f := 71) (args := #[vI x1_mass, vI 1, vI 100000000]) hf213 (by kernel_rfl) (f71_ok fuel x1_mass 1 100000000 r7 hd8 z6 _ _ hS14 ) ?_
            rintro v8 ww18 a107 ⟨z11, k10, rfl, hS19⟩ hf214
            refine ⟨fun _ => trivial, ?_⟩
            refine p_qt [] [(2, pB b1 0), (3, pB b2 0), (5, pB b3 0), (107, .bool (!r7))] [] hf214 (by kernel_rfl) .nil fun a108 hf215 => ?_
            have hf216 := Fr.keep (ks := [2, 3, 5, 107]) (r := [(2, pB b1 0), (3, pB b2 0), (5, pB b3 0), (107, .bool (!r7))]) hf215 (by kernel_rfl)
            exact ⟨z11, (!r7), (Zone.le_trans k5 k10), hf216, hS19, hr82⟩
           ·have hr83 := cond_f hb38 hr80
            have hf217 := Fr.conv hf211 (congrArg (fun z => ([(2, pB b1 0), (3, pB b2 0), (5, pB b3 0), (97, .bool false), (101, .bool z)] : FL)) hb38)
            refine p_qt [] [(2, pB b1 0), (3, pB b2 0), (5, pB b3 0), (107, .bool false)] [] hf217 (by kernel_rfl) .nil fun a109 hf218 => ?_
            have hf219 := Fr.keep (ks := [2, 3, 5, 107]) (r := [(2, pB b1 0), (3, pB b2 0), (5, pB b3 0), (107, .bool false)]) hf218 (by kernel_rfl)
            exact ⟨z6, false, k5, hf219, hS14, hr83⟩
         ·have hr84 := cond_f hb36 hr77
          have hf220 := Fr.conv hf204 (congrArg (fun z => ([(2, pB b1 0), (3, pB b2 0), (5, pB b3 0), (80, .bool false), (89, .bool z)] : FL)) hb36)
          refine p_qn 12 [.bool y5] [(2, pB b1 0), (3, pB b2 0), (5, pB b3 0), (97, .bool false), (101, .bool y5)] [.cell ⟨b3, 3, none⟩ (.bool y5)] hf220 (by kernel_rfl) (.cell (hS14.box (i := 0) rfl (j := 3) rfl) .nil) fun a110 hf221 => ?_
          rcases Bool.eq_false_or_eq_true y5 with hb39 | hb39
          ·have hr85 := cond_t hb39 hr84
           have hf222 := Fr.conv hf221 (congrArg (fun z => ([(2, pB b1 0), (3, pB b2 0), (5, pB b3 0), (97, .bool false), (101, .bool z)] : FL)) hb39)
           refine p_qn 2 [vI x1_mass] [(2, pB b1 0), (3, pB b2 0), (5, pB b3 0), (97, .bool false), (101, .bool true), (103, vI x1_mass)] [.cell ⟨b2, 4, none⟩ (vI x1_mass)] hf222 (by kernel_rfl) (.cell (hS14.box (i := 1) rfl (j := 4) rfl) .nil) fun a111 hf223 => ?_
           obtain ⟨r8, hd9, hr86⟩ := bind_some hr85
           refine p_call (i := 44) (d := some 104) (f := 71) (args := #[vI x1_mass, vI 1, vI 100000000]) hf223 (by kernel_rfl) (f71_ok fuel x1_mass 1 100000000 r8 hd9 z6 _ _ hS14 ) ?_
           rintro v9 ww19 a112 ⟨z12, k11, rfl, hS20⟩ hf224
           refine ⟨fun _ => trivial, ?_⟩
           refine p_qt [] [(2, pB b1 0), (3, pB b2 0), (5, pB b3 0), (107, .bool (!r8))] [] hf224 (by kernel_rfl) .nil fun a113 hf225 => ?_
           have hf226 := Fr.keep (ks := [2, 3, 5, 107]) (r := [(2, pB b1 0), (3, pB b2 0), (5, pB b3 0), (107, .bool (!r8))]) hf225 (by kernel_rfl)
           exact ⟨z12, (!r8), (Zone.le_trans k5 k11), hf226, hS20, hr86⟩
          ·have hr87 := cond_f hb39 hr84
           have hf227 := Fr.conv hf221 (congrArg (fun z => ([(2, pB b1 0), (3, pB b2 0), (5, pB b3 0), (97, .bool false), (101, .bool z)] : FL)) hb39)
           refine p_qt [] [(2, pB b1 0), (3, pB b2 0), (5, pB b3 0), (107, .bool false)] [] hf227 (by kernel_rfl) .nil fun a114 hf228 => ?_
           have hf229 := Fr.keep (ks := [2, 3, 5, 107]) (r := [(2, pB b1 0), (3, pB b2 0), (5, pB b3 0), (107, .bool false)]) hf228 (by kernel_rfl)
           exact ⟨z6, false, k5, hf229, hS14, hr87⟩
        ·have hr88 := cond_f hb35 hr76
         have hf230 := Fr.conv hf202 (congrArg (fun z => ([(2, pB b1 0), (3, pB b2 0), (5, pB b3 0), (80, .bool false), (84, .bool z)] : FL)) hb35)
         refine p_qn 17 [.bool y5] [(2, pB b1 0), (3, pB b2 0), (5, pB b3 0), (97, .bool false), (101, .bool y5)] [.cell ⟨b3, 3, none⟩ (.bool y5)] hf230 (by kernel_rfl) (.cell (hS14.box (i := 0) rfl (j := 3) rfl) .nil) fun a115 hf231 => ?_
         rcases Bool.eq_false_or_eq_true y5 with hb40 | hb40
         ·have hr89 := cond_t hb40 hr88
          have hf232 := Fr.conv hf231 (congrArg (fun z => ([(2, pB b1 0), (3, pB b2 0), (5, pB b3 0), (97, .bool false), (101, .bool z)] : FL)) hb40)
          refine p_qn 2 [vI x1_mass] [(2, pB b1 0), (3, pB b2 0), (5, pB b3 0), (97, .bool false), (101, .bool true), (103, vI x1_mass)] [.cell ⟨b2, 4, none⟩ (vI x1_mass)] hf232 (by kernel_rfl) (.cell (hS14.box (i := 1) rfl (j := 4) rfl) .nil) fun a116 hf233 => ?_
          obtain ⟨r9, hd10, hr90⟩ := bind_some hr89
          refine p_call (i := 44) (d := some 104) (f := 71) (args := #[vI x1_mass, vI 1, vI 100000000]) hf233 (by kernel_rfl) (f71_ok fuel x1_mass 1 100000000 r9 hd10 z6 _ _ hS14 ) ?_
          rintro v10 ww20 a117 ⟨z13, k12, rfl, hS21⟩ hf234
          refine ⟨fun _ => trivial, ?_⟩
          refine p_qt [] [(2, pB b1 0), (3, pB b2 0), (5, pB b3 0), (107, .bool (!r9))] [] hf234 (by kernel_rfl) .nil fun a118 hf235 => ?_
          have hf236 := Fr.keep (ks := [2, 3, 5, 107]) (r := [(2, pB b1 0), (3, pB b2 0), (5, pB b3 0), (107, .bool (!r9))]) hf235 (by kernel_rfl)
          exact ⟨z13, (!r9), (Zone.le_trans k5 k12), hf236, hS21, hr90⟩
         ·have hr91 := cond_f hb40 hr88
          have hf237 := Fr.conv hf231 (congrArg (fun z => ([(2, pB b1 0), (3, pB b2 0), (5, pB b3 0), (97, .bool false), (101, .bool z)] : FL)) hb40)
          refine p_qt [] [(2, pB b1 0), (3, pB b2 0), (5, pB b3 0), (107, .bool false)] [] hf237 (by kernel_rfl) .nil fun a119 hf238 => ?_
          have hf239 := Fr.keep (ks := [2, 3, 5, 107]) (r := [(2, pB b1 0), (3, pB b2 0), (5, pB b3 0), (107, .bool false)]) hf238 (by kernel_rfl)
          exact ⟨z6, false, k5, hf239, hS14, hr91⟩
     ·have hr92 := cond_f hb25 hr52
      have hf240 := Fr.conv hf145 (congrArg (fun z => ([(2, pB b1 0), (3, pB b2 0), (5, pB b3 0), (63, .bool z)] : FL)) hb25)
      refine p_qn 10 [.bool y4] [(2, pB b1 0), (3, pB b2 0), (5, pB b3 0), (69, .bool false), (73, .bool y4)] [.cell ⟨b3, 2, none⟩ (.bool y4)] hf240 (by kernel_rfl) (.cell (hS13.box (i := 0) rfl (j := 2) rfl) .nil) fun a120 hf241 => ?_
      rcases Bool.eq_false_or_eq_true y4 with hb41 | hb41
      ·have hr93 := cond_t hb41 hr92
       have hf242 := Fr.conv hf241 (congrArg (fun z => ([(2, pB b1 0), (3, pB b2 0), (5, pB b3 0), (69, .bool false), (73, .bool z)] : FL)) hb41)
       refine p_qn 2 [vI x1_to] [(2, pB b1 0), (3, pB b2 0), (5, pB b3 0), (69, .bool false), (73, .bool true), (75, vI x1_to)] [.cell ⟨b2, 3, none⟩ (vI x1_to)] hf242 (by kernel_rfl) (.cell (hS13.box (i := 1) rfl (j := 3) rfl) .nil) fun a121 hf243 => ?_
       obtain ⟨r10, hd11, hr94⟩ := bind_some hr93
       refine p_call (i := 16) (d := some 76) (f := 130) (args := #[vI x1_to]) hf243 (by kernel_rfl) (f130_ok fuel x1_to r10 hd11 z4 _ _ hS13 ) ?_
       rintro v11 ww21 a122 ⟨z14, k13, rfl, hS22⟩ hf244
       refine ⟨fun _ => trivial, ?_⟩
       refine p_qn 4 [] [(2, pB b1 0), (3, pB b2 0), (5, pB b3 0), (80, .bool (!r10))] [] hf244 (by kernel_rfl) .nil fun a123 hf245 => ?_
       rcases Bool.eq_false_or_eq_true (!r10) with hb42 | hb42
       ·have hr95 := cond_t hb42 hr94
        have hf246 := Fr.conv hf245 (congrArg (fun z => ([(2, pB b1 0), (3, pB b2 0), (5, pB b3 0), (80, .bool z)] : FL)) hb42)
        refine p_qt [] [(2, pB b1 0), (3, pB b2 0), (5, pB b3 0), (107, .bool true)] [] hf246 (by kernel_rfl) .nil fun a124 hf247 => ?_
        have hf248 := Fr.keep (ks := [2, 3, 5, 107]) (r := [(2, pB b1 0), (3, pB b2 0), (5, pB b3 0), (107, .bool true)]) hf247 (by kernel_rfl)
        exact ⟨z14, true, k13, hf248, hS22, hr95⟩
       ·have hr96 := cond_f hb42 hr94
        have hf249 := Fr.conv hf245 (congrArg (fun z => ([(2, pB b1 0), (3, pB b2 0), (5, pB b3 0), (80, .bool z)] : FL)) hb42)
        refine p_qn 4 [.bool y3] [(2, pB b1 0), (3, pB b2 0), (5, pB b3 0), (80, .bool false), (84, .bool y3)] [.cell ⟨b3, 1, none⟩ (.bool y3)] hf249 (by kernel_rfl) (.cell (hS22.box (i := 0) rfl (j := 1) rfl) .nil) fun a125 hf250 => ?_
        rcases Bool.eq_false_or_eq_true y3 with hb43 | hb43
        ·have hr97 := cond_t hb43 hr96
         have hf251 := Fr.conv hf250 (congrArg (fun z => ([(2, pB b1 0), (3, pB b2 0), (5, pB b3 0), (80, .bool false), (84, .bool z)] : FL)) hb43)
         refine p_qn 5 [.bool y4] [(2, pB b1 0), (3, pB b2 0), (5, pB b3 0), (80, .bool false), (89, .bool y4)] [.cell ⟨b3, 2, none⟩ (.bool y4)] hf251 (by kernel_rfl) (.cell (hS22.box (i := 0) rfl (j := 2) rfl) .nil) fun a126 hf252 => ?_
         rcases Bool.eq_false_or_eq_true y4 with hb44 | hb44
         ·have hr98 := cond_t hb44 hr97
          have hf253 := Fr.conv hf252 (congrArg (fun z => ([(2, pB b1 0), (3, pB b2 0), (5, pB b3 0), (80, .bool false), (89, .bool z)] : FL)) hb44)
          refine p_qn 8 [vI x1_from, vI x1_to] [(2, pB b1 0), (3, pB b2 0), (5, pB b3 0), (97, .bool (x1_from == x1_to))] [.cell ⟨b2, 2, none⟩ (vI x1_from), .cell ⟨b2, 3, none⟩ (vI x1_to)] hf253 (by kernel_rfl) (.cell (hS22.box (i := 1) rfl (j := 2) rfl) (.cell (hS22.box (i := 1) rfl (j := 3) rfl) .nil)) fun a127 hf254 => ?_
          rcases Bool.eq_false_or_eq_true (x1_from == x1_to) with hb45 | hb45
          ·have hr99 := cond_t hb45 hr98
           have hf255 := Fr.conv hf254 (congrArg (fun z => ([(2, pB b1 0), (3, pB b2 0), (5, pB b3 0), (97, .bool z)] : FL)) hb45)
           refine p_qt [] [(2, pB b1 0), (3, pB b2 0), (5, pB b3 0), (107, .bool true)] [] hf255 (by kernel_rfl) .nil fun a128 hf256 => ?_
           have hf257 := Fr.keep (ks := [2, 3, 5, 107]) (r := [(2, pB b1 0), (3, pB b2 0), (5, pB b3 0), (107, .bool true)]) hf256 (by kernel_rfl)
           exact ⟨z14, true, k13, hf257, hS22, hr99⟩
          ·have hr100 := cond_f hb45 hr98
           have hf258 := Fr.conv hf254 (congrArg (fun z => ([(2, pB b1 0), (3, pB b2 0), (5, pB b3 0), (97, .bool z)] : FL)) hb45)
           refine p_qn 4 [.bool y5] [(2, pB b1 0), (3, pB b2 0), (5, pB b3 0), (97, .bool false), (101, .bool y5)] [.cell ⟨b3, 3, none⟩ (.bool y5)] hf258 (by kernel_rfl) (.cell (hS22.box (i := 0) rfl (j := 3) rfl) .nil) fun a129 hf259 => ?_
           rcases Bool.eq_false_or_eq_true y5 with hb46 | hb46
           ·have hr101 := cond_t hb46 hr100
            have hf260 := Fr.conv hf259 (congrArg (fun z => ([(2, pB b1 0), (3, pB b2 0), (5, pB b3 0), (97, .bool false), (101, .bool z)] : FL)) hb46)
            refine p_qn 2 [vI x1_mass] [(2, pB b1 0), (3, pB b2 0), (5, pB b3 0), (97, .bool false), (101, .bool true), (103, vI x1_mass)] [.cell ⟨b2, 4, none⟩ (vI x1_mass)] hf260 (by kernel_rfl) (.cell (hS22.box (i := 1) rfl (j := 4) rfl) .nil) fun a130 hf261 => ?_
            obtain ⟨r11, hd12, hr102⟩ := bind_some hr101
            refine p_call (i := 44) (d := some 104) (f := 71) (args := #[vI x1_mass, vI 1, vI 100000000]) hf261 (by kernel_rfl) (f71_ok fuel x1_mass 1 100000000 r11 hd12 z14 _ _ hS22 ) ?_
            rintro v12 ww22 a131 ⟨z15, k14, rfl, hS23⟩ hf262
            refine ⟨fun _ => trivial, ?_⟩
            refine p_qt [] [(2, pB b1 0), (3, pB b2 0), (5, pB b3 0), (107, .bool (!r11))] [] hf262 (by kernel_rfl) .nil fun a132 hf263 => ?_
            have hf264 := Fr.keep (ks := [2, 3, 5, 107]) (r := [(2, pB b1 0), (3, pB b2 0), (5, pB b3 0), (107, .bool (!r11))]) hf263 (by kernel_rfl)
            exact ⟨z15, (!r11), (Zone.le_trans k13 k14), hf264, hS23, hr102⟩
           ·have hr103 := cond_f hb46 hr100
            have hf265 := Fr.conv hf259 (congrArg (fun z => ([(2, pB b1 0), (3, pB b2 0), (5, pB b3 0), (97, .bool false), (101, .bool z)] : FL)) hb46)
            refine p_qt [] [(2, pB b1 0), (3, pB b2 0), (5, pB b3 0), (107, .bool false)] [] hf265 (by kernel_rfl) .nil fun a133 hf266 => ?_
            have hf267 := Fr.keep (ks := [2, 3, 5, 107]) (r := [(2, pB b1 0), (3, pB b2 0), (5, pB b3 0), (107, .bool false)]) hf266 (by kernel_rfl)
            exact ⟨z14, false, k13, hf267, hS22, hr103⟩
         ·have hr104 := cond_f hb44 hr97
          have hf268 := Fr.conv hf252 (congrArg (fun z => ([(2, pB b1 0), (3, pB b2 0), (5, pB b3 0), (80, .bool false), (89, .bool z)] : FL)) hb44)
          refine p_qn 12 [.bool y5] [(2, pB b1 0), (3, pB b2 0), (5, pB b3 0), (97, .bool false), (101, .bool y5)] [.cell ⟨b3, 3, none⟩ (.bool y5)] hf268 (by kernel_rfl) (.cell (hS22.box (i := 0) rfl (j := 3) rfl) .nil) fun a134 hf269 => ?_
          rcases Bool.eq_false_or_eq_true y5 with hb47 | hb47
          ·have hr105 := cond_t hb47 hr104
           have hf270 := Fr.conv hf269 (congrArg (fun z => ([(2, pB b1 0), (3, pB b2 0), (5, pB b3 0), (97, .bool false), (101, .bool z)] : FL)) hb47)
           refine p_qn 2 [vI x1_mass] [(2, pB b1 0), (3, pB b2 0), (5, pB b3 0), (97, .bool false), (101, .bool true), (103, vI x1_mass)] [.cell ⟨b2, 4, none⟩ (vI x1_mass)] hf270 (by kernel_rfl) (.cell (hS22.box (i := 1) rfl (j := 4) rfl) .nil) fun a135 hf271 => ?_
           obtain ⟨r12, hd13, hr106⟩ := bind_some hr105
           refine p_call (i := 44) (d := some 104) (f := 71) (args := #[vI x1_mass, vI 1, vI 100000000]) hf271 (by kernel_rfl) (f71_ok fuel x1_mass 1 100000000 r12 hd13 z14 _ _ hS22 ) ?_
           rintro v13 ww23 a136 ⟨z16, k15, rfl, hS24⟩ hf272
           refine ⟨fun _ => trivial, ?_⟩
           refine p_qt [] [(2, pB b1 0), (3, pB b2 0), (5, pB b3 0), (107, .bool (!r12))] [] hf272 (by kernel_rfl) .nil fun a137 hf273 => ?_
           have hf274 := Fr.keep (ks := [2, 3, 5, 107]) (r := [(2, pB b1 0), (3, pB b2 0), (5, pB b3 0), (107, .bool (!r12))]) hf273 (by kernel_rfl)
           exact ⟨z16, (!r12), (Zone.le_trans k13 k15), hf274, hS24, hr106⟩
          ·have hr107 := cond_f hb47 hr104
           have hf275 := Fr.conv hf269 (congrArg (fun z => ([(2, pB b1 0), (3, pB b2 0), (5, pB b3 0), (97, .bool false), (101, .bool z)] : FL)) hb47)
           refine p_qt [] [(2, pB b1 0), (3, pB b2 0), (5, pB b3 0), (107, .bool false)] [] hf275 (by kernel_rfl) .nil fun a138 hf276 => ?_
           have hf277 := Fr.keep (ks := [2, 3, 5, 107]) (r := [(2, pB b1 0), (3, pB b2 0), (5, pB b3 0), (107, .bool false)]) hf276 (by kernel_rfl)
           exact ⟨z14, false, k13, hf277, hS22, hr107⟩
        ·have hr108 := cond_f hb43 hr96
         have hf278 := Fr.conv hf250 (congrArg (fun z => ([(2, pB b1 0), (3, pB b2 0), (5, pB b3 0), (80, .bool false), (84, .bool z)] : FL)) hb43)
         refine p_qn 17 [.bool y5] [(2, pB b1 0), (3, pB b2 0), (5, pB b3 0), (97, .bool false), (101, .bool y5)] [.cell ⟨b3, 3, none⟩ (.bool y5)] hf278 (by kernel_rfl) (.cell (hS22.box (i := 0) rfl (j := 3) rfl) .nil) fun a139 hf279 => ?_
         rcases Bool.eq_false_or_eq_true y5 with hb48 | hb48
         ·have hr109 := cond_t hb48 hr108
          have hf280 := Fr.conv hf279 (congrArg (fun z => ([(2, pB b1 0), (3, pB b2 0), (5, pB b3 0), (97, .bool false), (101, .bool z)] : FL)) hb48)
          refine p_qn 2 [vI x1_mass] [(2, pB b1 0), (3, pB b2 0), (5, pB b3 0), (97, .bool false), (101, .bool true), (103, vI x1_mass)] [.cell ⟨b2, 4, none⟩ (vI x1_mass)] hf280 (by kernel_rfl) (.cell (hS22.box (i := 1) rfl (j := 4) rfl) .nil) fun a140 hf281 => ?_
          obtain ⟨r13, hd14, hr110⟩ := bind_some hr109
          refine p_call (i := 44) (d := some 104) (f := 71) (args := #[vI x1_mass, vI 1, vI 100000000]) hf281 (by kernel_rfl) (f71_ok fuel x1_mass 1 100000000 r13 hd14 z14 _ _ hS22 ) ?_
          rintro v14 ww24 a141 ⟨z17, k16, rfl, hS25⟩ hf282
          refine ⟨fun _ => trivial, ?_⟩
          refine p_qt [] [(2, pB b1 0), (3, pB b2 0), (5, pB b3 0), (107, .bool (!r13))] [] hf282 (by kernel_rfl) .nil fun a142 hf283 => ?_
          have hf284 := Fr.keep (ks := [2, 3, 5, 107]) (r := [(2, pB b1 0), (3, pB b2 0), (5, pB b3 0), (107, .bool (!r13))]) hf283 (by kernel_rfl)
          exact ⟨z17, (!r13), (Zone.le_trans k13 k16), hf284, hS25, hr110⟩
         ·have hr111 := cond_f hb48 hr108
          have hf285 := Fr.conv hf279 (congrArg (fun z => ([(2, pB b1 0), (3, pB b2 0), (5, pB b3 0), (97, .bool false), (101, .bool z)] : FL)) hb48)
          refine p_qt [] [(2, pB b1 0), (3, pB b2 0), (5, pB b3 0), (107, .bool false)] [] hf285 (by kernel_rfl) .nil fun a143 hf286 => ?_
          have hf287 := Fr.keep (ks := [2, 3, 5, 107]) (r := [(2, pB b1 0), (3, pB b2 0), (5, pB b3 0), (107, .bool false)]) hf286 (by kernel_rfl)
          exact ⟨z14, false, k13, hf287, hS22, hr111⟩
      ·have hr112 := cond_f hb41 hr92
       have hf288 := Fr.conv hf241 (congrArg (fun z => ([(2, pB b1 0), (3, pB b2 0), (5, pB b3 0), (69, .bool false), (73, .bool z)] : FL)) hb41)
       refine p_qn 11 [.bool y3] [(2, pB b1 0), (3, pB b2 0), (5, pB b3 0), (80, .bool false), (84, .bool y3)] [.cell ⟨b3, 1, none⟩ (.bool y3)] hf288 (by kernel_rfl) (.cell (hS13.box (i := 0) rfl (j := 1) rfl) .nil) fun a144 hf289 => ?_
       rcases Bool.eq_false_or_eq_true y3 with hb49 | hb49
       ·have hr113 := cond_t hb49 hr112
        have hf290 := Fr.conv hf289 (congrArg (fun z => ([(2, pB b1 0), (3, pB b2 0), (5, pB b3 0), (80, .bool false), (84, .bool z)] : FL)) hb49)
        refine p_qn 5 [.bool y4] [(2, pB b1 0), (3, pB b2 0), (5, pB b3 0), (80, .bool false), (89, .bool y4)] [.cell ⟨b3, 2, none⟩ (.bool y4)] hf290 (by kernel_rfl) (.cell (hS13.box (i := 0) rfl (j := 2) rfl) .nil) fun a145 hf291 => ?_
        rcases Bool.eq_false_or_eq_true y4 with hb50 | hb50
        ·have hr114 := cond_t hb50 hr113
         have hf292 := Fr.conv hf291 (congrArg (fun z => ([(2, pB b1 0), (3, pB b2 0), (5, pB b3 0), (80, .bool false), (89, .bool z)] : FL)) hb50)
         refine p_qn 8 [vI x1_from, vI x1_to] [(2, pB b1 0), (3, pB b2 0), (5, pB b3 0), (97, .bool (x1_from == x1_to))] [.cell ⟨b2, 2, none⟩ (vI x1_from), .cell ⟨b2, 3, none⟩ (vI x1_to)] hf292 (by kernel_rfl) (.cell (hS13.box (i := 1) rfl (j := 2) rfl) (.cell (hS13.box (i := 1) rfl (j := 3) rfl) .nil)) fun a146 hf293 => ?_
         rcases Bool.eq_false_or_eq_true (x1_from == x1_to) with hb51 | hb51
         ·have hr115 := cond_t hb51 hr114
          have hf294 := Fr.conv hf293 (congrArg (fun z => ([(2, pB b1 0), (3, pB b2 0), (5, pB b3 0), (97, .bool z)] : FL)) hb51)
          refine p_qt [] [(2, pB b1 0), (3, pB b2 0), (5, pB b3 0), (107, .bool true)] [] hf294 (by kernel_rfl) .nil fun a147 hf295 => ?_
          have hf296 := Fr.keep (ks := [2, 3, 5, 107]) (r := [(2, pB b1 0), (3, pB b2 0), (5, pB b3 0), (107, .bool true)]) hf295 (by kernel_rfl)
          exact ⟨z4, true, (Zone.le_refl _), hf296, hS13, hr115⟩
         ·have hr116 := cond_f hb51 hr114
          have hf297 := Fr.conv hf293 (congrArg (fun z => ([(2, pB b1 0), (3, pB b2 0), (5, pB b3 0), (97, .bool z)] : FL)) hb51)
          refine p_qn 4 [.bool y5] [(2, pB b1 0), (3, pB b2 0), (5, pB b3 0), (97, .bool false), (101, .bool y5)] [.cell ⟨b3, 3, none⟩ (.bool y5)] hf297 (by kernel_rfl) (.cell (hS13.box (i := 0) rfl (j := 3) rfl) .nil) fun a148 hf298 => ?_
          rcases Bool.eq_false_or_eq_true y5 with hb52 | hb52
          ·have hr117 := cond_t hb52 hr116
           have hf299 := Fr.conv hf298 (congrArg (fun z => ([(2, pB b1 0), (3, pB b2 0), (5, pB b3 0), (97, .bool false), (101, .bool z)] : FL)) hb52)
           refine p_qn 2 [vI x1_mass] [(2, pB b1 0), (3, pB b2 0), (5, pB b3 0), (97, .bool false), (101, .bool true), (103, vI x1_mass)] [.cell ⟨b2, 4, none⟩ (vI x1_mass)] hf299 (by kernel_rfl) (.cell (hS13.box (i := 1) rfl (j := 4) rfl) .nil) fun a149 hf300 => ?_
           obtain ⟨r14, hd15, hr118⟩ := bind_some hr117
           refine p_call (i := 44) (d := some 104) (f := 71) (args := #[vI x1_mass, vI 1, vI 100000000]) hf300 (by kernel_rfl) (f71_ok fuel x1_mass 1 100000000 r14 hd15 z4 _ _ hS13 ) ?_
           rintro v15 ww25 a150 ⟨z18, k17, rfl, hS26⟩ hf301
           refine ⟨fun _ => trivial, ?_⟩
           refine p_qt [] [(2, pB b1 0), (3, pB b2 0), (5, pB b3 0), (107, .bool (!r14))] [] hf301 (by kernel_rfl) .nil fun a151 hf302 => ?_
           have hf303 := Fr.keep (ks := [2, 3, 5, 107]) (r := [(2, pB b1 0), (3, pB b2 0), (5, pB b3 0), (107, .bool (!r14))]) hf302 (by kernel_rfl)
           exact ⟨z18, (!r14), k17, hf303, hS26, hr118⟩
          ·have hr119 := cond_f hb52 hr116
           have hf304 := Fr.conv hf298 (congrArg (fun z => ([(2, pB b1 0), (3, pB b2 0), (5, pB b3 0), (97, .bool false), (101, .bool z)] : FL)) hb52)
           refine p_qt [] [(2, pB b1 0), (3, pB b2 0), (5, pB b3 0), (107, .bool false)] [] hf304 (by kernel_rfl) .nil fun a152 hf305 => ?_
           have hf306 := Fr.keep (ks := [2, 3, 5, 107]) (r := [(2, pB b1 0), (3, pB b2 0), (5, pB b3 0), (107, .bool false)]) hf305 (by kernel_rfl)
           exact ⟨z4, false, (Zone.le_refl _), hf306, hS13, hr119⟩
        ·have hr120 := cond_f hb50 hr113
         have hf307 := Fr.conv hf291 (congrArg (fun z => ([(2, pB b1 0), (3, pB b2 0), (5, pB b3 0), (80, .bool false), (89, .bool z)] : FL)) hb50)
         refine p_qn 12 [.bool y5] [(2, pB b1 0), (3, pB b2 0), (5, pB b3 0), (97, .bool false), (101, .bool y5)] [.cell ⟨b3, 3, none⟩ (.bool y5)] hf307 (by kernel_rfl) (.cell (hS13.box (i := 0) rfl (j := 3) rfl) .nil) fun a153 hf308 => ?_
         rcases Bool.eq_false_or_eq_true y5 with hb53 | hb53
         ·have hr121 := cond_t hb53 hr120
          have hf309 := Fr.conv hf308 (congrArg (fun z => ([(2, pB b1 0), (3, pB b2 0), (5, pB b3 0), (97, .bool false), (101, .bool z)] : FL)) hb53)
          refine p_qn 2 [vI x1_mass] [(2, pB b1 0), (3, pB b2 0), (5, pB b3 0), (97, .bool false), (101, .bool true), (103, vI x1_mass)] [.cell ⟨b2, 4, none⟩ (vI x1_mass)] hf309 (by kernel_rfl) (.cell (hS13.box (i := 1) rfl (j := 4) rfl) .nil) fun a154 hf310 => ?_
          obtain ⟨r15, hd16, hr122⟩ := bind_some hr121
          refine p_call (i := 44) (d := some 104) (f := 71) (args := #[vI x1_mass, vI 1, vI 100000000]) hf310 (by kernel_rfl) (f71_ok fuel x1_mass 1 100000000 r15 hd16 z4 _ _ hS13 ) ?_
          rintro v16 ww26 a155 ⟨z19, k18, rfl, hS27⟩ hf311
          refine ⟨fun _ => trivial, ?_⟩
          refine p_qt [] [(2, pB b1 0), (3, pB b2 0), (5, pB b3 0), (107, .bool (!r15))] [] hf311 (by kernel_rfl) .nil fun a156 hf312 => ?_
          have hf313 := Fr.keep (ks := [2, 3, 5, 107]) (r := [(2, pB b1 0), (3, pB b2 0), (5, pB b3 0), (107, .bool (!r15))]) hf312 (by kernel_rfl)
          exact ⟨z19, (!r15), k18, hf313, hS27, hr122⟩
         ·have hr123 := cond_f hb53 hr120
          have hf314 := Fr.conv hf308 (congrArg (fun z => ([(2, pB b1 0), (3, pB b2 0), (5, pB b3 0), (97, .bool false), (101, .bool z)] : FL)) hb53)
          refine p_qt [] [(2, pB b1 0), (3, pB b2 0), (5, pB b3 0), (107, .bool false)] [] hf314 (by kernel_rfl) .nil fun a157 hf315 => ?_
          have hf316 := Fr.keep (ks := [2, 3, 5, 107]) (r := [(2, pB b1 0), (3, pB b2 0), (5, pB b3 0), (107, .bool false)]) hf315 (by kernel_rfl)
          exact ⟨z4, false, (Zone.le_refl _), hf316, hS13, hr123⟩
       ·have hr124 := cond_f hb49 hr112
        have hf317 := Fr.conv hf289 (congrArg (fun z => ([(2, pB b1 0), (3, pB b2 0), (5, pB b3 0), (80, .bool false), (84, .bool z)] : FL)) hb49)
        refine p_qn 17 [.bool y5] [(2, pB b1 0), (3, pB b2 0), (5, pB b3 0), (97, .bool false), (101, .bool y5)] [.cell ⟨b3, 3, none⟩ (.bool y5)] hf317 (by kernel_rfl) (.cell (hS13.box (i := 0) rfl (j := 3) rfl) .nil) fun a158 hf318 => ?_
        rcases Bool.eq_false_or_eq_true y5 with hb54 | hb54
        ·have hr125 := cond_t hb54 hr124
         have hf319 := Fr.conv hf318 (congrArg (fun z => ([(2, pB b1 0), (3, pB b2 0), (5, pB b3 0), (97, .bool false), (101, .bool z)] : FL)) hb54)
         refine p_qn 2 [vI x1_mass] [(2, pB b1 0), (3, pB b2 0), (5, pB b3 0), (97, .bool false), (101, .bool true), (103, vI x1_mass)] [.cell ⟨b2, 4, none⟩ (vI x1_mass)] hf319 (by kernel_rfl) (.cell (hS13.box (i := 1) rfl (j := 4) rfl) .nil) fun a159 hf320 => ?_
         obtain ⟨r16, hd17, hr126⟩ := bind_some hr125
         refine p_call (i := 44) (d := some 104) (f := 71) (args := #[vI x1_mass, vI 1, vI 100000000]) hf320 (by kernel_rfl) (f71_ok fuel x1_mass 1 100000000 r16 hd17 z4 _ _ hS13 ) ?_
         rintro v17 ww27 a160 ⟨z20, k19, rfl, hS28⟩ hf321
         refine ⟨fun _ => trivial, ?_⟩
         refine p_qt [] [(2, pB b1 0), (3, pB b2 0), (5, pB b3 0), (107, .bool (!r16))] [] hf321 (by kernel_rfl) .nil fun a161 hf322 => ?_
         have hf323 := Fr.keep (ks := [2, 3, 5, 107]) (r := [(2, pB b1 0), (3, pB b2 0), (5, pB b3 0), (107, .bool (!r16))]) hf322 (by kernel_rfl)
         exact ⟨z20, (!r16), k19, hf323, hS28, hr126⟩
        ·have hr127 := cond_f hb54 hr124
         have hf324 := Fr.conv hf318 (congrArg (fun z => ([(2, pB b1 0), (3, pB b2 0), (5, pB b3 0), (97, .bool false), (101, .bool z)] : FL)) hb54)
         refine p_qt [] [(2, pB b1 0), (3, pB b2 0), (5, pB b3 0), (107, .bool false)] [] hf324 (by kernel_rfl) .nil fun a162 hf325 => ?_
         have hf326 := Fr.keep (ks := [2, 3, 5, 107]) (r := [(2, pB b1 0), (3, pB b2 0), (5, pB b3 0), (107, .bool false)]) hf325 (by kernel_rfl)
         exact ⟨z4, false, (Zone.le_refl _), hf326, hS13, hr127⟩
    ·rintro a163 ww28 ⟨z5, y2, k20, hf327, hS29, hr128⟩
     refine w_if hf327 (b := y2) (by kernel_rfl) (fun hb55 => ?_) (fun hb55 => ?_)
     ·have hr129 := cond_t hb55 hr128
      refine w_sq [] [(4, .bool false)] [] hf327 (by kernel_rfl) .nil fun a164 hf328 => ?_
      refine w_ret (by kernel_rfl) ?_
      refine r_then ?_
      refine p_ret (os := []) (v := .bool false) (obs := []) hf328 (by kernel_rfl) .nil ?_
      obtain rfl := some_eq hr129
      exact ⟨_, rfl, z5, (Zone.le_trans (Zone.le_trans k3 k4) k20), rfl, (St.drop 3 hS29)⟩
     ·have hr130 := cond_f hb55 hr128
      refine w_skip (by kernel_rfl) ?_
      refine n_then ?_
      refine w_seq (by kernel_rfl) ?_
      refine w_sq [.bool y1] [(2, pB b1 0), (3, pB b2 0), (111, .bool (!y1))] [.cell ⟨b3, 0, none⟩ (.bool y1)] hf327 (by kernel_rfl) (.cell (hS29.box (i := 0) rfl (j := 0) rfl) .nil) fun a165 hf329 => ?_
      refine w_if hf329 (b := (!y1)) (by kernel_rfl) (fun hb56 => ?_) (fun hb56 => ?_)
      ·have hr131 := cond_t hb56 hr130
       refine w_sq [] [(4, .bool true)] [] hf329 (by kernel_rfl) .nil fun a166 hf330 => ?_
       refine w_ret (by kernel_rfl) ?_
       refine r_then ?_
       refine p_ret (os := []) (v := .bool true) (obs := []) hf330 (by kernel_rfl) .nil ?_
       obtain rfl := some_eq hr131
       exact ⟨_, rfl, z5, (Zone.le_trans (Zone.le_trans k3 k4) k20), rfl, (St.drop 3 hS29)⟩
      ·have hr132 := cond_f hb56 hr130
       refine w_skip (by kernel_rfl) ?_
       refine n_then ?_
       refine w_sr (by kernel_rfl) ?_
       refine p_qn 4 [.slice o_x0_lots x0_lots.length c_x0_lots, vI x1_lot] [(114, .slice o_x0_lots x0_lots.length c_x0_lots), (116, vI x1_lot)] [.cell ⟨b1, 0, none⟩ (.slice o_x0_lots x0_lots.length c_x0_lots), .cell ⟨b2, 1, none⟩ (vI x1_lot)] hf329 (by kernel_rfl) (.cell (hS29.box (i := 2) rfl (j := 0) rfl) (.cell (hS29.box (i := 1) rfl (j := 1) rfl) .nil)) fun a167 hf331 => ?_
       obtain ⟨r1, hd18, hr133⟩ := bind_some hr132
       refine p_call (i := 4) (d := some 117) (f := 74) (args := #[.slice o_x0_lots x0_lots.length c_x0_lots, vI x1_lot]) hf331 (by kernel_rfl) (f74_ok fuel x0_lots x1_lot r1 hd18 z5 _ _ hS29 o_x0_lots c_x0_lots (SliceR.mono (Zone.le_trans (Zone.le_trans k3 k4) k20) hx_x0_lots)) ?_
       rintro v18 ww29 a168 ⟨z21, k21, rfl, hS30⟩ hf332
       refine ⟨fun _ => trivial, ?_⟩
       refine p_qt [] [(6, .bool r1.2)] [] hf332 (by kernel_rfl) .nil fun a169 hf333 => ?_
       refine w_sq [] [(4, .bool r1.2)] [] hf333 (by kernel_rfl) .nil fun a170 hf334 => ?_
       refine w_ret (by kernel_rfl) ?_
       refine p_ret (os := []) (v := .bool r1.2) (obs := []) hf334 (by kernel_rfl) .nil ?_
       obtain rfl := some_eq hr133
       exact ⟨_, rfl, z21, (Zone.le_trans (Zone.le_trans (Zone.le_trans k3 k4) k20) k21), rfl, (St.drop 3 hS30)⟩
def F75_l1 (fuel : Nat) (x0 : List (List Part)) : Nat → Int → Int → Option (Int)
  | 0, _, _ => none
  | n1 + 1, y1, y2 =>
    let k1 : Int → Int → Option (Int) := F75_l1 fuel x0 n1
    (cond (decide (y2 < (x0.length : Int))) ((getI x0 y2).bind fun p1 => ((F90 fuel p1).bind fun r1 => (k1 (w64 (y1 + r1)) (w64 (y2 + (1 : Int)))))) (some (y1)))
def F75 (fuel : Nat) (x0 : List (List Part)) : Option (Int) :=
  (F75_l1 fuel x0 fuel 0 0)
set_option maxRecDepth 100000 in
theorem f75_ok (fuel : Nat) (x0 : List (List Part)) (r : Int) (hr : F75 fuel x0 = some r) (h : Zone) (L : List Atom) (w : World) (hS : St h L w) (o_x0 : Option Addr) (c_x0 : Nat) (hx_x0 : SliceR (Ty.slice PartT) h o_x0 c_x0 x0) :
    Calls Try.prog 75 #[.slice o_x0 x0.length c_x0] w fun e w' => ∃ v, e = .returned v ∧ (∃ h', Zone.le h h' ∧ v = vI r ∧ St h' L w') := by
 refine calls_intro (N := 18) Try.func75 (by kernel_rfl) fun a hf => ?_
 refine w_sq [] [(0, .slice o_x0 x0.length c_x0)] [] hf (by kernel_rfl) .nil fun a1 hf1 => ?_
 refine w_sq [] [(0, .slice o_x0 x0.length c_x0), (3, vI 0)] [] hf1 (by kernel_rfl) .nil fun a2 hf2 => ?_
 refine w_seq (by kernel_rfl) ?_
 refine w_sq [] [(3, vI 0), (6, .slice o_x0 x0.length c_x0), (7, vI (x0.length : Int)), (8, vI 0)] [] hf2 (by kernel_rfl) .nil fun a3 hf3 => ?_
 refine w_block (id := 0) (by kernel_rfl) ?_
 have hf4 := Fr.keep (ks := [3, 6, 7, 8]) (r := [(3, vI 0), (6, .slice o_x0 x0.length c_x0), (7, vI (x0.length : Int)), (8, vI 0)]) hf3 (by kernel_rfl)
 refine w_loop (by kernel_rfl) (fun n a w => ∃ z1 : Zone, ∃ y1 : Int, ∃ y2 : Int, Zone.le h z1 ∧ Fr a 18 [(3, vI y1), (6, .slice o_x0 x0.length c_x0), (7, vI (x0.length : Int)), (8, vI y2)] ∧ St z1 (L) w ∧ (F75_l1 fuel x0 n y1 y2) = some r) fuel ⟨h, 0, 0, (Zone.le_refl _), hf4, hS, hr⟩ ?_
 rintro n2 a4 ww1 ⟨z1, y1, y2, k2, hf5, hS1, hr1⟩
 cases n2 with
 | zero => cases hr1
 | succ n1 =>
 refine w_sq [] [(3, vI y1), (6, .slice o_x0 x0.length c_x0), (7, vI (x0.length : Int)), (8, vI y2), (9, .bool (decide (y2 < (x0.length : Int))))] [] hf5 (by kernel_rfl) .nil fun a5 hf6 => ?_
 refine w_seq (by kernel_rfl) ?_
 refine w_if hf6 (b := (decide (y2 < (x0.length : Int)))) (by kernel_rfl) (fun hb1 => ?_) (fun hb1 => ?_)
 ·have hr2 := cond_t hb1 hr1
  refine w_skip (by kernel_rfl) ?_
  refine n_then ?_
  refine w_seq (by kernel_rfl) ?_
  refine w_block (id := 1) (by kernel_rfl) ?_
  refine w_sr (by kernel_rfl) ?_
  obtain ⟨p1, hp753, hr3⟩ := bind_some hr2
  obtain ⟨ad1, ho1, hb2, cc1, hc1, hk1⟩ := SliceR.getI (SliceR.mono k2 hx_x0) hp753
  obtain ⟨e1, q1, rfl, hx1⟩ := hc1
  refine p_qn 2 [.pointer (some ad1), .slice e1 p1.length q1] [(3, vI y1), (6, .slice o_x0 x0.length c_x0), (7, vI (x0.length : Int)), (8, vI y2), (11, .agg #[.slice e1 p1.length q1])] [.prop (o_x0 = some ad1), .prop (0 ≤ y2 ∧ y2 < (x0.length : Nat)), .cell ((ad1.add (Int.toNat y2 * 1)).add 0) (.slice e1 p1.length q1)] hf6 (by kernel_rfl) (.prop ho1 (.prop hb2 (.cell (hS1.cell (hk1 0 _ rfl)) .nil))) fun a6 hf7 => ?_
  refine p_box (i := 2) (d := (some 5)) (cs := [.slice none 0 0]) (T := 40) (v := fun b1 => pB b1 0) hS1 hf7 (fun b => by kernel_rfl) fun b1 ww2 a7 hS2 hf8 => ⟨fun _ => trivial, ?_⟩
  refine p_store_eq (i := 3) (j := 0) (b := b1) (off := 0) (vs := [.slice e1 p1.length q1]) (cs' := [.slice e1 p1.length q1]) hS2 hf8 rfl (by kernel_rfl) (by kernel_rfl) rfl fun ww3 a8 hS3 hf9 => ⟨fun _ => trivial, ?_⟩
  refine p_dt (by kernel_rfl) ?_
  refine w_reg (by kernel_rfl) ?_
  refine p_qn 2 [.slice e1 p1.length q1] [(6, .slice o_x0 x0.length c_x0), (7, vI (x0.length : Int)), (8, vI y2), (12, vI y1), (13, .agg #[.slice e1 p1.length q1])] [.cell ⟨b1, 0, none⟩ (.slice e1 p1.length q1)] hf9 (by kernel_rfl) (.cell (hS3.box (i := 0) rfl (j := 0) rfl) .nil) fun a9 hf10 => ?_
  obtain ⟨r1, hd1, hr4⟩ := bind_some hr3
  refine p_call (i := 2) (d := some 14) (f := 90) (args := #[.agg #[.slice e1 p1.length q1]]) hf10 (by kernel_rfl) (f90_ok fuel p1 r1 hd1 z1 _ _ hS3 e1 q1 hx1) ?_
  rintro v1 ww4 a10 ⟨z2, k3, rfl, hS4⟩ hf11
  refine ⟨fun _ => trivial, ?_⟩
  refine p_qz [] [(3, vI (w64 (y1 + r1))), (6, .slice o_x0 x0.length c_x0), (7, vI (x0.length : Int)), (8, vI y2)] [] hf11 (by kernel_rfl) .nil fun a11 hf12 => ?_
  refine n_block ?_
  refine n_then ?_
  refine w_q [] [(3, vI (w64 (y1 + r1))), (6, .slice o_x0 x0.length c_x0), (7, vI (x0.length : Int)), (8, vI (w64 (y2 + (1 : Int))))] [] hf12 (by kernel_rfl) .nil fun a12 hf13 => ?_
  refine n_then ?_
  have hf14 := Fr.keep (ks := [3, 6, 7, 8]) (r := [(3, vI (w64 (y1 + r1))), (6, .slice o_x0 x0.length c_x0), (7, vI (x0.length : Int)), (8, vI (w64 (y2 + (1 : Int))))]) hf13 (by kernel_rfl)
  exact ⟨n1, Nat.lt_succ_self n1, z2, (w64 (y1 + r1)), (w64 (y2 + (1 : Int))), (Zone.le_trans k2 k3), hf14, (St.drop 1 hS4), hr4⟩
 ·have hr5 := cond_f hb1 hr1
  refine w_exit (id := 0) (by kernel_rfl) ?_
  refine x_then ?_
  refine x_then ?_
  refine x_block ?_
  refine n_then ?_
  refine w_sq [] [(2, vI y1)] [] hf6 (by kernel_rfl) .nil fun a13 hf15 => ?_
  refine w_ret (by kernel_rfl) ?_
  refine p_ret (os := []) (v := vI y1) (obs := []) hf15 (by kernel_rfl) .nil ?_
  obtain rfl := some_eq hr5
  exact ⟨_, rfl, z1, k2, rfl, hS1⟩
def F78_j4 (y1 : Bool) : Option (Int) :=
  (cond y1 (some (2)) (some (0)))
def F78_j3 (fuel : Nat) (x0_holds : List (List (List Part))) (x1_kind : Int) (x1_to : Int) (x1_mass : Int) (y2 : Bool) (y3 : Bool) : Option (Int) :=
  (cond y3 (some (3)) (cond y2 (cond (x1_kind == (2 : Int)) ((getI x0_holds x1_to).bind fun p1 => (cond ((p1.length : Int) == (4 : Int)) (F78_j4 true) ((getI x0_holds x1_to).bind fun p2 => ((F75 fuel p2).bind fun r1 => (F78_j4 (decide ((w64 (r1 + x1_mass)) > (100000000 : Int)))))))) ((getI x0_holds x1_to).bind fun p3 => ((F75 fuel p3).bind fun r2 => (F78_j4 (decide ((w64 (r2 + x1_mass)) > (100000000 : Int))))))) (F78_j4 false)))
def F78_j2 (fuel : Nat) (x0_holds : List (List (List Part))) (x1_kind : Int) (x1_from : Int) (x1_to : Int) (x1_mass : Int) (y2 : Bool) (y4 : Bool) : Option (Int) :=
  (cond y4 (some (63)) (cond (x1_kind == (6 : Int)) ((getI x0_holds x1_from).bind fun p4 => (F78_j3 fuel x0_holds x1_kind x1_to x1_mass y2 (decide ((p4.length : Int) < (2 : Int))))) (F78_j3 fuel x0_holds x1_kind x1_to x1_mass y2 false)))
def F78_j1 (fuel : Nat) (x0_holds : List (List (List Part))) (x1_kind : Int) (x1_from : Int) (x1_to : Int) (x1_mass : Int) (y5 : Bool) (y6 : Bool) (y2 : Bool) (y7 : Bool) (y8 : Option Nat) : Option (Int) :=
  (cond y6 ((getI x0_holds x1_from).bind fun p5 => ((F75 fuel p5).bind fun r3 => (F78_j2 fuel x0_holds x1_kind x1_from x1_to x1_mass y2 (decide (x1_mass > r3))))) (F78_j2 fuel x0_holds x1_kind x1_from x1_to x1_mass y2 false))
end Go.Proofs.Ytlmgjjmighajdaa

