/-
  The walks of functions 72, 18, 20, 56, 76, 92, 77, 22, 118, 79, 24: what the code does is what a plain function computes. No condition.
-/
import Derived.Test.YtlmgjjmighajdaaSPc
set_option linter.unusedVariables false
namespace Go.Proofs.Ytlmgjjmighajdaa
open Go.Sl Go.Sx
def F72_j1 (y1 : Bool) : Option (Bool) :=
  (some (y1))
def F72 (fuel : Nat) (x0 : Int) (x1 : Int) (x2 : Int) : Option (Bool) :=
  (cond (decide (x0 ≥ x1)) (F72_j1 (decide (x0 ≤ x2))) (F72_j1 false))
set_option maxRecDepth 100000 in
theorem f72_ok (fuel : Nat) (x0 : Int) (x1 : Int) (x2 : Int) (r : Bool) (hr : F72 fuel x0 x1 x2 = some r) (h : Zone) (L : List Atom) (w : World) (hS : St h L w)  :
    Calls Try.prog 72 #[vI x0, vI x1, vI x2] w fun e w' => ∃ v, e = .returned v ∧ (∃ h', Zone.le h h' ∧ v = .bool r ∧ St h' L w') := by
 refine calls_intro (N := 15) Try.func72 (by kernel_rfl) fun a hf => ?_
 refine w_sq [] [(0, vI x0), (1, vI x1), (2, vI x2)] [] hf (by kernel_rfl) .nil fun a1 hf1 => ?_
 refine w_mid (by kernel_rfl) (fun a w => ∃ z1 : Zone, ∃ y1 : Bool, Zone.le h z1 ∧ Fr a 15 [(6, .bool y1)] ∧ St z1 (L) w ∧ (F72_j1 y1) = some r) ?_ ?_
 ·skip
  refine w_reg (by kernel_rfl) ?_
  refine p_qn 4 [] [(0, vI x0), (2, vI x2), (10, .bool (decide (x0 ≥ x1)))] [] hf1 (by kernel_rfl) .nil fun a2 hf2 => ?_
  rcases Bool.eq_false_or_eq_true (decide (x0 ≥ x1)) with hb1 | hb1
  ·have hr1 := cond_t hb1 hr
   have hf3 := Fr.conv hf2 (congrArg (fun z => ([(0, vI x0), (2, vI x2), (10, .bool z)] : FL)) hb1)
   refine p_qt [] [(6, .bool (decide (x0 ≤ x2)))] [] hf3 (by kernel_rfl) .nil fun a3 hf4 => ?_
   have hf5 := Fr.keep (ks := [6]) (r := [(6, .bool (decide (x0 ≤ x2)))]) hf4 (by kernel_rfl)
   exact ⟨h, (decide (x0 ≤ x2)), (Zone.le_refl _), hf5, hS, hr1⟩
  ·have hr2 := cond_f hb1 hr
   have hf6 := Fr.conv hf2 (congrArg (fun z => ([(0, vI x0), (2, vI x2), (10, .bool z)] : FL)) hb1)
   refine p_qt [] [(6, .bool false)] [] hf6 (by kernel_rfl) .nil fun a4 hf7 => ?_
   have hf8 := Fr.keep (ks := [6]) (r := [(6, .bool false)]) hf7 (by kernel_rfl)
   exact ⟨h, false, (Zone.le_refl _), hf8, hS, hr2⟩
 ·rintro a5 ww1 ⟨z1, y1, k1, hf9, hS1, hr3⟩
  refine w_ret (by kernel_rfl) ?_
  refine p_ret (os := []) (v := .bool y1) (obs := []) hf9 (by kernel_rfl) .nil ?_
  obtain rfl := some_eq hr3
  exact ⟨_, rfl, z1, k1, rfl, hS1⟩
def F18_j1 (y1 : Bool) : Option (Int) :=
  (cond y1 (some (60)) (some (0)))
def F18 (fuel : Nat) (x0_id : Int) (x0_owner : Int) (x0_grade : Int) (x0_wet : Int) : Option (Int) :=
  ((F72 fuel x0_id 1 9999).bind fun r1 => (cond (!r1) (F18_j1 true) ((F72 fuel x0_owner 1 9).bind fun r2 => (cond (!r2) (F18_j1 true) ((F72 fuel x0_grade 1 9).bind fun r3 => (cond (!r3) (F18_j1 true) ((F72 fuel x0_wet 0 10000).bind fun r4 => (F18_j1 (!r4)))))))))
set_option maxRecDepth 100000 in
theorem f18_ok (fuel : Nat) (x0_id : Int) (x0_owner : Int) (x0_grade : Int) (x0_wet : Int) (r : Int) (hr : F18 fuel x0_id x0_owner x0_grade x0_wet = some r) (h : Zone) (L : List Atom) (w : World) (hS : St h L w)  :
    Calls Try.prog 18 #[.agg #[vI x0_id, vI x0_owner, vI x0_grade, vI x0_wet]] w fun e w' => ∃ v, e = .returned v ∧ (∃ h', Zone.le h h' ∧ v = vI r ∧ St h' L w') := by
 refine calls_intro (N := 25) Try.func18 (by kernel_rfl) fun a hf => ?_
 refine w_sr (by kernel_rfl) ?_
 refine p_box (i := 0) (d := (some 1)) (cs := [vI x0_id, vI x0_owner, vI x0_grade, vI x0_wet]) (T := 33) (v := fun b1 => pB b1 0) hS hf (fun b => by kernel_rfl) fun b1 ww1 a1 hS1 hf1 => ⟨fun _ => trivial, ?_⟩
 refine p_qt [] [(1, pB b1 0)] [] hf1 (by kernel_rfl) .nil fun a2 hf2 => ?_
 refine w_seq (by kernel_rfl) ?_
 refine w_mid (by kernel_rfl) (fun a w => ∃ z1 : Zone, ∃ y1 : Bool, Zone.le h z1 ∧ Fr a 25 [(24, .bool y1)] ∧ St z1 (box b1 [vI x0_id, vI x0_owner, vI x0_grade, vI x0_wet] 33 :: L) w ∧ (F18_j1 y1) = some r) ?_ ?_
 ·skip
  refine w_reg (by kernel_rfl) ?_
  refine p_qn 2 [vI x0_id] [(1, pB b1 0), (4, vI x0_id)] [.cell ⟨b1, 0, none⟩ (vI x0_id)] hf2 (by kernel_rfl) (.cell (hS1.box (i := 0) rfl (j := 0) rfl) .nil) fun a3 hf3 => ?_
  obtain ⟨r1, hd1, hr1⟩ := bind_some hr
  refine p_call (i := 2) (d := some 5) (f := 72) (args := #[vI x0_id, vI 1, vI 9999]) hf3 (by kernel_rfl) (f72_ok fuel x0_id 1 9999 r1 hd1 h _ _ hS1 ) ?_
  rintro v1 ww2 a4 ⟨z2, k1, rfl, hS2⟩ hf4
  refine ⟨fun _ => trivial, ?_⟩
  refine p_qn 2 [] [(1, pB b1 0), (7, .bool (!r1))] [] hf4 (by kernel_rfl) .nil fun a5 hf5 => ?_
  rcases Bool.eq_false_or_eq_true (!r1) with hb1 | hb1
  ·have hr2 := cond_t hb1 hr1
   have hf6 := Fr.conv hf5 (congrArg (fun z => ([(1, pB b1 0), (7, .bool z)] : FL)) hb1)
   refine p_qt [] [(24, .bool true)] [] hf6 (by kernel_rfl) .nil fun a6 hf7 => ?_
   have hf8 := Fr.keep (ks := [24]) (r := [(24, .bool true)]) hf7 (by kernel_rfl)
   exact ⟨z2, true, k1, hf8, hS2, hr2⟩
  ·have hr3 := cond_f hb1 hr1
   have hf9 := Fr.conv hf5 (congrArg (fun z => ([(1, pB b1 0), (7, .bool z)] : FL)) hb1)
   refine p_qn 2 [vI x0_owner] [(1, pB b1 0), (7, .bool false), (9, vI x0_owner)] [.cell ⟨b1, 1, none⟩ (vI x0_owner)] hf9 (by kernel_rfl) (.cell (hS2.box (i := 0) rfl (j := 1) rfl) .nil) fun a7 hf10 => ?_
   obtain ⟨r2, hd2, hr4⟩ := bind_some hr3
   refine p_call (i := 7) (d := some 10) (f := 72) (args := #[vI x0_owner, vI 1, vI 9]) hf10 (by kernel_rfl) (f72_ok fuel x0_owner 1 9 r2 hd2 z2 _ _ hS2 ) ?_
   rintro v2 ww3 a8 ⟨z3, k2, rfl, hS3⟩ hf11
   refine ⟨fun _ => trivial, ?_⟩
   refine p_qn 3 [] [(1, pB b1 0), (13, .bool (!r2))] [] hf11 (by kernel_rfl) .nil fun a9 hf12 => ?_
   rcases Bool.eq_false_or_eq_true (!r2) with hb2 | hb2
   ·have hr5 := cond_t hb2 hr4
    have hf13 := Fr.conv hf12 (congrArg (fun z => ([(1, pB b1 0), (13, .bool z)] : FL)) hb2)
    refine p_qt [] [(24, .bool true)] [] hf13 (by kernel_rfl) .nil fun a10 hf14 => ?_
    have hf15 := Fr.keep (ks := [24]) (r := [(24, .bool true)]) hf14 (by kernel_rfl)
    exact ⟨z3, true, (Zone.le_trans k1 k2), hf15, hS3, hr5⟩
   ·have hr6 := cond_f hb2 hr4
    have hf16 := Fr.conv hf12 (congrArg (fun z => ([(1, pB b1 0), (13, .bool z)] : FL)) hb2)
    refine p_qn 2 [vI x0_grade] [(1, pB b1 0), (13, .bool false), (15, vI x0_grade)] [.cell ⟨b1, 2, none⟩ (vI x0_grade)] hf16 (by kernel_rfl) (.cell (hS3.box (i := 0) rfl (j := 2) rfl) .nil) fun a11 hf17 => ?_
    obtain ⟨r3, hd3, hr7⟩ := bind_some hr6
    refine p_call (i := 13) (d := some 16) (f := 72) (args := #[vI x0_grade, vI 1, vI 9]) hf17 (by kernel_rfl) (f72_ok fuel x0_grade 1 9 r3 hd3 z3 _ _ hS3 ) ?_
    rintro v3 ww4 a12 ⟨z4, k3, rfl, hS4⟩ hf18
    refine ⟨fun _ => trivial, ?_⟩
    refine p_qn 3 [] [(1, pB b1 0), (19, .bool (!r3))] [] hf18 (by kernel_rfl) .nil fun a13 hf19 => ?_
    rcases Bool.eq_false_or_eq_true (!r3) with hb3 | hb3
    ·have hr8 := cond_t hb3 hr7
     have hf20 := Fr.conv hf19 (congrArg (fun z => ([(1, pB b1 0), (19, .bool z)] : FL)) hb3)
     refine p_qt [] [(24, .bool true)] [] hf20 (by kernel_rfl) .nil fun a14 hf21 => ?_
     have hf22 := Fr.keep (ks := [24]) (r := [(24, .bool true)]) hf21 (by kernel_rfl)
     exact ⟨z4, true, (Zone.le_trans (Zone.le_trans k1 k2) k3), hf22, hS4, hr8⟩
    ·have hr9 := cond_f hb3 hr7
     have hf23 := Fr.conv hf19 (congrArg (fun z => ([(1, pB b1 0), (19, .bool z)] : FL)) hb3)
     refine p_qn 2 [vI x0_wet] [(19, .bool false), (21, vI x0_wet)] [.cell ⟨b1, 3, none⟩ (vI x0_wet)] hf23 (by kernel_rfl) (.cell (hS4.box (i := 0) rfl (j := 3) rfl) .nil) fun a15 hf24 => ?_
     obtain ⟨r4, hd4, hr10⟩ := bind_some hr9
     refine p_call (i := 19) (d := some 22) (f := 72) (args := #[vI x0_wet, vI 0, vI 10000]) hf24 (by kernel_rfl) (f72_ok fuel x0_wet 0 10000 r4 hd4 z4 _ _ hS4 ) ?_
     rintro v4 ww5 a16 ⟨z5, k4, rfl, hS5⟩ hf25
     refine ⟨fun _ => trivial, ?_⟩
     refine p_qt [] [(24, .bool (!r4))] [] hf25 (by kernel_rfl) .nil fun a17 hf26 => ?_
     have hf27 := Fr.keep (ks := [24]) (r := [(24, .bool (!r4))]) hf26 (by kernel_rfl)
     exact ⟨z5, (!r4), (Zone.le_trans (Zone.le_trans (Zone.le_trans k1 k2) k3) k4), hf27, hS5, hr10⟩
 ·rintro a18 ww6 ⟨z1, y1, k5, hf28, hS6, hr11⟩
  refine w_if hf28 (b := y1) (by kernel_rfl) (fun hb4 => ?_) (fun hb4 => ?_)
  ·have hr12 := cond_t hb4 hr11
   refine w_sq [] [(2, vI 60)] [] hf28 (by kernel_rfl) .nil fun a19 hf29 => ?_
   refine w_ret (by kernel_rfl) ?_
   refine r_then ?_
   refine p_ret (os := []) (v := vI 60) (obs := []) hf29 (by kernel_rfl) .nil ?_
   obtain rfl := some_eq hr12
   exact ⟨_, rfl, z1, k5, rfl, (St.drop 1 hS6)⟩
  ·have hr13 := cond_f hb4 hr11
   refine w_skip (by kernel_rfl) ?_
   refine n_then ?_
   refine w_sq [] [(2, vI 0)] [] hf28 (by kernel_rfl) .nil fun a20 hf30 => ?_
   refine w_ret (by kernel_rfl) ?_
   refine p_ret (os := []) (v := vI 0) (obs := []) hf30 (by kernel_rfl) .nil ?_
   obtain rfl := some_eq hr13
   exact ⟨_, rfl, z1, k5, rfl, (St.drop 1 hS6)⟩
def F20_j1 (k1 : Int → Option (Int)) (y1 : Int) (y2 : Bool) : Option (Int) :=
  (cond y2 (some (60)) (k1 (w64 (y1 + (1 : Int)))))
def F20_l1 (fuel : Nat) (x0 : List Lot) : Nat → Int → Option (Int)
  | 0, _ => none
  | n1 + 1, y1 =>
    let k1 : Int → Option (Int) := F20_l1 fuel x0 n1
    (cond (decide (y1 < (x0.length : Int))) ((getI x0 y1).bind fun p1 => ((F18 fuel p1.id p1.owner p1.grade p1.wet).bind fun r1 => (cond (r1 != (0 : Int)) (F20_j1 k1 y1 true) (cond (decide (y1 > (0 : Int))) ((getI x0 (w64 (y1 - (1 : Int)))).bind fun p2 => ((getI x0 y1).bind fun p3 => (F20_j1 k1 y1 (decide (p2.id ≥ p3.id))))) (F20_j1 k1 y1 false))))) (some (0)))
def F20 (fuel : Nat) (x0 : List Lot) : Option (Int) :=
  (cond (decide ((x0.length : Int) > (40 : Int))) (some (60)) (F20_l1 fuel x0 fuel 0))
set_option maxRecDepth 100000 in
theorem f20_ok (fuel : Nat) (x0 : List Lot) (r : Int) (hr : F20 fuel x0 = some r) (h : Zone) (L : List Atom) (w : World) (hS : St h L w) (o_x0 : Option Addr) (c_x0 : Nat) (hx_x0 : SliceR LotT h o_x0 c_x0 x0) :
    Calls Try.prog 20 #[.slice o_x0 x0.length c_x0] w fun e w' => ∃ v, e = .returned v ∧ (∃ h', Zone.le h h' ∧ v = vI r ∧ St h' L w') := by
 refine calls_intro (N := 37) Try.func20 (by kernel_rfl) fun a hf => ?_
 refine w_sq [] [(0, .slice o_x0 x0.length c_x0)] [] hf (by kernel_rfl) .nil fun a1 hf1 => ?_
 refine w_seq (by kernel_rfl) ?_
 refine w_sq [] [(0, .slice o_x0 x0.length c_x0), (6, .bool (decide ((x0.length : Int) > (40 : Int))))] [] hf1 (by kernel_rfl) .nil fun a2 hf2 => ?_
 refine w_if hf2 (b := (decide ((x0.length : Int) > (40 : Int)))) (by kernel_rfl) (fun hb1 => ?_) (fun hb1 => ?_)
 ·have hr1 := cond_t hb1 hr
  refine w_sq [] [(2, vI 60)] [] hf2 (by kernel_rfl) .nil fun a3 hf3 => ?_
  refine w_ret (by kernel_rfl) ?_
  refine r_then ?_
  refine p_ret (os := []) (v := vI 60) (obs := []) hf3 (by kernel_rfl) .nil ?_
  obtain rfl := some_eq hr1
  exact ⟨_, rfl, h, (Zone.le_refl _), rfl, hS⟩
 ·have hr2 := cond_f hb1 hr
  refine w_skip (by kernel_rfl) ?_
  refine n_then ?_
  refine w_seq (by kernel_rfl) ?_
  refine w_sq [] [(0, .slice o_x0 x0.length c_x0), (3, vI 0)] [] hf2 (by kernel_rfl) .nil fun a4 hf4 => ?_
  refine w_block (id := 0) (by kernel_rfl) ?_
  have hf5 := Fr.keep (ks := [0, 3]) (r := [(0, .slice o_x0 x0.length c_x0), (3, vI 0)]) hf4 (by kernel_rfl)
  refine w_loop (by kernel_rfl) (fun n a w => ∃ z1 : Zone, ∃ y1 : Int, Zone.le h z1 ∧ Fr a 37 [(0, .slice o_x0 x0.length c_x0), (3, vI y1)] ∧ St z1 (L) w ∧ (F20_l1 fuel x0 n y1) = some r) fuel ⟨h, 0, (Zone.le_refl _), hf5, hS, hr2⟩ ?_
  rintro n2 a5 ww1 ⟨z1, y1, k2, hf6, hS1, hr3⟩
  cases n2 with
  | zero => cases hr3
  | succ n1 =>
  refine w_seq (by kernel_rfl) ?_
  refine w_sq [] [(0, .slice o_x0 x0.length c_x0), (3, vI y1), (10, .bool (decide (y1 < (x0.length : Int))))] [] hf6 (by kernel_rfl) .nil fun a6 hf7 => ?_
  refine w_if hf7 (b := (decide (y1 < (x0.length : Int)))) (by kernel_rfl) (fun hb2 => ?_) (fun hb2 => ?_)
  ·have hr4 := cond_t hb2 hr3
   refine w_skip (by kernel_rfl) ?_
   refine n_then ?_
   refine w_seq (by kernel_rfl) ?_
   refine w_block (id := 1) (by kernel_rfl) ?_
   refine w_mid (by kernel_rfl) (fun a w => ∃ z2 : Zone, ∃ y2 : Bool, Zone.le z1 z2 ∧ Fr a 37 [(0, .slice o_x0 x0.length c_x0), (3, vI y1), (36, .bool y2)] ∧ St z2 (L) w ∧ (F20_j1 (F20_l1 fuel x0 n1) y1 y2) = some r) ?_ ?_
   ·skip
    have hS2 := hS1.drew
    have s1 : Sub z1 (L) _ := Sub.of (Zone.le_refl _) hS2
    refine w_regD (by kernel_rfl) [(0, true), (1, true), (2, true), (3, true), (4, false), (5, true), (6, true), (7, true), (8, true), (9, true), (10, true), (11, true), (12, true), (13, true), (14, true), (15, true), (16, true), (17, true), (18, true), (19, true), (20, true), (21, true), (22, true), (23, true)] [] (Sub z1 (L)) (by kernel_rfl) s1 ?_
    obtain ⟨p1, hp1987, hr5⟩ := bind_some hr4
    obtain ⟨ad1, ho1, hb3, cc1, hc1, hk1⟩ := SliceR.getI (SliceR.mono k2 hx_x0) hp1987
    subst hc1
    refine p_qS 4 [.pointer (some ad1), vI p1.id, vI p1.owner, vI p1.grade, vI p1.wet] [(0, .slice o_x0 x0.length c_x0), (3, vI y1), (16, .agg #[vI p1.id, vI p1.owner, vI p1.grade, vI p1.wet])] [.prop (o_x0 = some ad1), .prop (0 ≤ y1 ∧ y1 < (x0.length : Nat)), .cell ((ad1.add (Int.toNat y1 * 4)).add 0) (vI p1.id), .cell ((ad1.add (Int.toNat y1 * 4)).add 1) (vI p1.owner), .cell ((ad1.add (Int.toNat y1 * 4)).add 2) (vI p1.grade), .cell ((ad1.add (Int.toNat y1 * 4)).add 3) (vI p1.wet)] [] s1 hf7 (by kernel_rfl) (fun _ s => (.prop ho1 (.prop hb3 (.cell (s.cell (hk1 0 _ rfl)) (.cell (s.cell (hk1 1 _ rfl)) (.cell (s.cell (hk1 2 _ rfl)) (.cell (s.cell (hk1 3 _ rfl)) .nil))))))) .nil fun a7 hf8 => ?_
    obtain ⟨r1, hd1, hr6⟩ := bind_some hr5
    refine p_call (i := 4) (d := some 17) (f := 18) (args := #[.agg #[vI p1.id, vI p1.owner, vI p1.grade, vI p1.wet]]) hf8 (by kernel_rfl) (f18_ok fuel p1.id p1.owner p1.grade p1.wet r1 hd1 z1 _ _ hS2 ) ?_
    rintro v1 ww2 a8 ⟨z3, k3, rfl, hS3⟩ hf9
    refine ⟨fun _ => Sub.of k3 hS3, ?_⟩
    have s2 : Sub z1 (L) _ := Sub.of k3 hS3
    refine p_qS 2 [] [(0, .slice o_x0 x0.length c_x0), (3, vI y1), (19, .bool (r1 != (0 : Int)))] [] [] s2 hf9 (by kernel_rfl) (fun _ s => .nil) .nil fun a9 hf10 => ?_
    rcases Bool.eq_false_or_eq_true (r1 != (0 : Int)) with hb4 | hb4
    ·have hr7 := cond_t hb4 hr6
     have hf11 := Fr.conv hf10 (congrArg (fun z => ([(0, .slice o_x0 x0.length c_x0), (3, vI y1), (19, .bool z)] : FL)) hb4)
     refine p_qS 17 [] [(0, .slice o_x0 x0.length c_x0), (3, vI y1), (20, undef), (21, undef), (22, undef), (23, undef), (24, undef), (25, undef), (26, undef), (27, undef), (28, undef), (29, undef), (30, undef), (31, undef), (32, undef), (33, undef), (34, undef), (35, undef), (36, .bool true)] [] [] s2 hf11 (by kernel_rfl) (fun _ s => .nil) .nil fun a10 hf12 => ?_
     refine p_dt (by kernel_rfl) ?_
     have hf13 := Fr.keep (ks := [0, 3, 36]) (r := [(0, .slice o_x0 x0.length c_x0), (3, vI y1), (36, .bool true)]) hf12 (by kernel_rfl)
     exact ⟨z3, true, k3, hf13, hS3, hr7⟩
    ·have hr8 := cond_f hb4 hr6
     have hf14 := Fr.conv hf10 (congrArg (fun z => ([(0, .slice o_x0 x0.length c_x0), (3, vI y1), (19, .bool z)] : FL)) hb4)
     refine p_qS 3 [] [(0, .slice o_x0 x0.length c_x0), (3, vI y1), (19, .bool false), (20, vI y1), (21, .bool (decide (y1 > (0 : Int)))), (22, .bool (decide (y1 > (0 : Int))))] [] [] s2 hf14 (by kernel_rfl) (fun _ s => .nil) .nil fun a11 hf15 => ?_
     rcases Bool.eq_false_or_eq_true (decide (y1 > (0 : Int))) with hb5 | hb5
     ·have hr9 := cond_t hb5 hr8
      have hf16 := Fr.conv hf15 (congrArg (fun z => ([(0, .slice o_x0 x0.length c_x0), (3, vI y1), (19, .bool false), (20, vI y1), (21, .bool (decide (y1 > (0 : Int)))), (22, .bool z)] : FL)) hb5)
      obtain ⟨p2, hp2029, hr10⟩ := bind_some hr9
      obtain ⟨ad2, ho2, hb6, cc2, hc2, hk2⟩ := SliceR.getI (SliceR.mono k2 hx_x0) hp2029
      subst hc2
      obtain ⟨p3, hp2038, hr11⟩ := bind_some hr10
      obtain ⟨ad3, ho3, hb7, cc3, hc3, hk3⟩ := SliceR.getI (SliceR.mono k2 hx_x0) hp2038
      subst hc3
      refine p_qS 14 [.pointer (some ad2), vI p2.id, .pointer (some ad3), vI p3.id] [(0, .slice o_x0 x0.length c_x0), (3, vI y1), (20, vI y1), (21, .bool (decide (y1 > (0 : Int)))), (22, .bool true), (23, .slice o_x0 x0.length c_x0), (24, vI y1), (25, vI (w64 (y1 - (1 : Int)))), (26, .pointer (some (ad2.add (Int.toNat (w64 (y1 - (1 : Int))) * 4)))), (27, .pointer (some (ad2.add (Int.toNat (w64 (y1 - (1 : Int))) * 4)))), (28, vI p2.id), (29, .slice o_x0 x0.length c_x0), (30, vI y1), (31, .pointer (some (ad3.add (Int.toNat y1 * 4)))), (32, .pointer (some (ad3.add (Int.toNat y1 * 4)))), (33, vI p3.id), (34, .bool (decide (p2.id ≥ p3.id))), (35, .bool (decide (p2.id ≥ p3.id))), (36, .bool (decide (p2.id ≥ p3.id)))] [.prop (o_x0 = some ad2), .prop (0 ≤ (w64 (y1 - (1 : Int))) ∧ (w64 (y1 - (1 : Int))) < (x0.length : Nat)), .cell ((ad2.add (Int.toNat (w64 (y1 - (1 : Int))) * 4)).add 0) (vI p2.id), .prop (o_x0 = some ad3), .prop (0 ≤ y1 ∧ y1 < (x0.length : Nat)), .cell ((ad3.add (Int.toNat y1 * 4)).add 0) (vI p3.id)] [] s2 hf16 (by kernel_rfl) (fun _ s => (.prop ho2 (.prop hb6 (.cell (s.cell (hk2 0 _ rfl)) (.prop ho3 (.prop hb7 (.cell (s.cell (hk3 0 _ rfl)) .nil))))))) .nil fun a12 hf17 => ?_
      refine p_dt (by kernel_rfl) ?_
      have hf18 := Fr.keep (ks := [0, 3, 36]) (r := [(0, .slice o_x0 x0.length c_x0), (3, vI y1), (36, .bool (decide (p2.id ≥ p3.id)))]) hf17 (by kernel_rfl)
      exact ⟨z3, (decide (p2.id ≥ p3.id)), k3, hf18, hS3, hr11⟩
     ·have hr12 := cond_f hb5 hr8
      have hf19 := Fr.conv hf15 (congrArg (fun z => ([(0, .slice o_x0 x0.length c_x0), (3, vI y1), (19, .bool false), (20, vI y1), (21, .bool (decide (y1 > (0 : Int)))), (22, .bool z)] : FL)) hb5)
      refine p_qS 14 [] [(0, .slice o_x0 x0.length c_x0), (3, vI y1), (20, vI y1), (21, .bool (decide (y1 > (0 : Int)))), (22, .bool false), (23, undef), (24, undef), (25, undef), (26, undef), (27, undef), (28, undef), (29, undef), (30, undef), (31, undef), (32, undef), (33, undef), (34, undef), (35, .bool false), (36, .bool false)] [] [] s2 hf19 (by kernel_rfl) (fun _ s => .nil) .nil fun a13 hf20 => ?_
      refine p_dt (by kernel_rfl) ?_
      have hf21 := Fr.keep (ks := [0, 3, 36]) (r := [(0, .slice o_x0 x0.length c_x0), (3, vI y1), (36, .bool false)]) hf20 (by kernel_rfl)
      exact ⟨z3, false, k3, hf21, hS3, hr12⟩
   ·rintro a14 ww3 ⟨z2, y2, k4, hf22, hS4, hr13⟩
    refine w_if hf22 (b := y2) (by kernel_rfl) (fun hb8 => ?_) (fun hb8 => ?_)
    ·have hr14 := cond_t hb8 hr13
     refine w_sq [] [(2, vI 60)] [] hf22 (by kernel_rfl) .nil fun a15 hf23 => ?_
     refine w_ret (by kernel_rfl) ?_
     refine r_block ?_
     refine r_then ?_
     refine r_then ?_
     refine r_block ?_
     refine r_then ?_
     refine p_ret (os := []) (v := vI 60) (obs := []) hf23 (by kernel_rfl) .nil ?_
     obtain rfl := some_eq hr14
     exact ⟨_, rfl, z2, (Zone.le_trans k2 k4), rfl, hS4⟩
    ·have hr15 := cond_f hb8 hr13
     refine w_skip (by kernel_rfl) ?_
     refine n_block ?_
     refine n_then ?_
     refine w_q [] [(0, .slice o_x0 x0.length c_x0), (3, vI (w64 (y1 + (1 : Int))))] [] hf22 (by kernel_rfl) .nil fun a16 hf24 => ?_
     refine n_then ?_
     have hf25 := Fr.keep (ks := [0, 3]) (r := [(0, .slice o_x0 x0.length c_x0), (3, vI (w64 (y1 + (1 : Int))))]) hf24 (by kernel_rfl)
     exact ⟨n1, Nat.lt_succ_self n1, z2, (w64 (y1 + (1 : Int))), (Zone.le_trans k2 k4), hf25, hS4, hr15⟩
  ·have hr16 := cond_f hb2 hr3
   refine w_exit (id := 0) (by kernel_rfl) ?_
   refine x_then ?_
   refine x_then ?_
   refine x_block ?_
   refine n_then ?_
   refine w_sq [] [(2, vI 0)] [] hf7 (by kernel_rfl) .nil fun a17 hf26 => ?_
   refine w_ret (by kernel_rfl) ?_
   refine p_ret (os := []) (v := vI 0) (obs := []) hf26 (by kernel_rfl) .nil ?_
   obtain rfl := some_eq hr16
   exact ⟨_, rfl, z1, k2, rfl, hS1⟩
def F56_l1 (x0 : List Lot) (x1 : Int) : Nat → Int → Option (Int)
  | 0, _ => none
  | n1 + 1, y1 =>
    let k1 : Int → Option (Int) := F56_l1 x0 x1 n1
    (cond (decide (y1 < (x0.length : Int))) ((getI x0 y1).bind fun p1 => (cond (p1.id == x1) (some (y1)) (k1 (w64 (y1 + (1 : Int)))))) (some (-1)))
def F56 (fuel : Nat) (x0 : List Lot) (x1 : Int) : Option (Int) :=
  (F56_l1 x0 x1 fuel 0)
set_option maxRecDepth 100000 in
theorem f56_ok (fuel : Nat) (x0 : List Lot) (x1 : Int) (r : Int) (hr : F56 fuel x0 x1 = some r) (h : Zone) (L : List Atom) (w : World) (hS : St h L w) (o_x0 : Option Addr) (c_x0 : Nat) (hx_x0 : SliceR LotT h o_x0 c_x0 x0) :
    Calls Try.prog 56 #[.slice o_x0 x0.length c_x0, vI x1] w fun e w' => ∃ v, e = .returned v ∧ (∃ h', Zone.le h h' ∧ v = vI r ∧ St h' L w') := by
 refine calls_intro (N := 20) Try.func56 (by kernel_rfl) fun a hf => ?_
 refine w_sq [] [(0, .slice o_x0 x0.length c_x0), (1, vI x1)] [] hf (by kernel_rfl) .nil fun a1 hf1 => ?_
 refine w_seq (by kernel_rfl) ?_
 refine w_sq [] [(0, .slice o_x0 x0.length c_x0), (1, vI x1), (5, vI 0)] [] hf1 (by kernel_rfl) .nil fun a2 hf2 => ?_
 refine w_block (id := 0) (by kernel_rfl) ?_
 have hf3 := Fr.keep (ks := [0, 1, 5]) (r := [(0, .slice o_x0 x0.length c_x0), (1, vI x1), (5, vI 0)]) hf2 (by kernel_rfl)
 refine w_loop (by kernel_rfl) (fun n a w => ∃ z1 : Zone, ∃ y1 : Int, Zone.le h z1 ∧ Fr a 20 [(0, .slice o_x0 x0.length c_x0), (1, vI x1), (5, vI y1)] ∧ St z1 (L) w ∧ (F56_l1 x0 x1 n y1) = some r) fuel ⟨h, 0, (Zone.le_refl _), hf3, hS, hr⟩ ?_
 rintro n2 a3 ww1 ⟨z1, y1, k2, hf4, hS1, hr1⟩
 cases n2 with
 | zero => cases hr1
 | succ n1 =>
 refine w_seq (by kernel_rfl) ?_
 refine w_sq [] [(0, .slice o_x0 x0.length c_x0), (1, vI x1), (5, vI y1), (9, .bool (decide (y1 < (x0.length : Int))))] [] hf4 (by kernel_rfl) .nil fun a4 hf5 => ?_
 refine w_if hf5 (b := (decide (y1 < (x0.length : Int)))) (by kernel_rfl) (fun hb1 => ?_) (fun hb1 => ?_)
 ·have hr2 := cond_t hb1 hr1
  refine w_skip (by kernel_rfl) ?_
  refine n_then ?_
  refine w_seq (by kernel_rfl) ?_
  refine w_block (id := 1) (by kernel_rfl) ?_
  obtain ⟨p1, hp371, hr3⟩ := bind_some hr2
  obtain ⟨ad1, ho1, hb2, cc1, hc1, hk1⟩ := SliceR.getI (SliceR.mono k2 hx_x0) hp371
  subst hc1
  refine w_sq [.pointer (some ad1), vI p1.id] [(0, .slice o_x0 x0.length c_x0), (1, vI x1), (5, vI y1), (18, .bool (p1.id == x1))] [.prop (o_x0 = some ad1), .prop (0 ≤ y1 ∧ y1 < (x0.length : Nat)), .cell ((ad1.add (Int.toNat y1 * 4)).add 0) (vI p1.id)] hf5 (by kernel_rfl) (.prop ho1 (.prop hb2 (.cell (hS1.cell (hk1 0 _ rfl)) .nil))) fun a5 hf6 => ?_
  refine w_if hf6 (b := (p1.id == x1)) (by kernel_rfl) (fun hb3 => ?_) (fun hb3 => ?_)
  ·have hr4 := cond_t hb3 hr3
   refine w_sq [] [(4, vI y1)] [] hf6 (by kernel_rfl) .nil fun a6 hf7 => ?_
   refine w_ret (by kernel_rfl) ?_
   refine r_block ?_
   refine r_then ?_
   refine r_then ?_
   refine r_block ?_
   refine r_then ?_
   refine p_ret (os := []) (v := vI y1) (obs := []) hf7 (by kernel_rfl) .nil ?_
   obtain rfl := some_eq hr4
   exact ⟨_, rfl, z1, k2, rfl, hS1⟩
  ·have hr5 := cond_f hb3 hr3
   refine w_skip (by kernel_rfl) ?_
   refine n_block ?_
   refine n_then ?_
   refine w_q [] [(0, .slice o_x0 x0.length c_x0), (1, vI x1), (5, vI (w64 (y1 + (1 : Int))))] [] hf6 (by kernel_rfl) .nil fun a7 hf8 => ?_
   refine n_then ?_
   have hf9 := Fr.keep (ks := [0, 1, 5]) (r := [(0, .slice o_x0 x0.length c_x0), (1, vI x1), (5, vI (w64 (y1 + (1 : Int))))]) hf8 (by kernel_rfl)
   exact ⟨n1, Nat.lt_succ_self n1, z1, (w64 (y1 + (1 : Int))), k2, hf9, hS1, hr5⟩
 ·have hr6 := cond_f hb1 hr1
  refine w_exit (id := 0) (by kernel_rfl) ?_
  refine x_then ?_
  refine x_then ?_
  refine x_block ?_
  refine n_then ?_
  refine w_sq [] [(4, vI (-1))] [] hf5 (by kernel_rfl) .nil fun a8 hf10 => ?_
  refine w_ret (by kernel_rfl) ?_
  refine p_ret (os := []) (v := vI (-1)) (obs := []) hf10 (by kernel_rfl) .nil ?_
  obtain rfl := some_eq hr6
  exact ⟨_, rfl, z1, k2, rfl, hS1⟩
def F76_j1 (k1 : Int → Int → Option (Bool)) (y1 : Int) (y2 : Int) (p1 : Part) (y3 : Bool) : Option (Bool) :=
  (cond y3 (some (false)) (k1 (w64 (y1 + p1.mass)) (w64 (y2 + (1 : Int)))))
def F76_l1 (fuel : Nat) (x0 : List Part) : Nat → Int → Int → Option (Bool)
  | 0, _, _ => none
  | n1 + 1, y1, y2 =>
    let k1 : Int → Int → Option (Bool) := F76_l1 fuel x0 n1
    (cond (decide (y2 < (x0.length : Int))) ((getI x0 y2).bind fun p1 => ((F72 fuel p1.lot 1 9999).bind fun r1 => (cond (!r1) (F76_j1 k1 y1 y2 p1 true) ((F72 fuel p1.mass 1 100000000).bind fun r2 => (cond (!r2) (F76_j1 k1 y1 y2 p1 true) (cond (decide (y2 > (0 : Int))) ((getI x0 (w64 (y2 - (1 : Int)))).bind fun p2 => (F76_j1 k1 y1 y2 p1 (decide (p2.lot ≥ p1.lot)))) (F76_j1 k1 y1 y2 p1 false))))))) (some ((decide (y1 ≤ (100000000 : Int))))))
def F76 (fuel : Nat) (x0 : List Part) : Option (Bool) :=
  (cond (decide ((x0.length : Int) > (40 : Int))) (some (false)) (F76_l1 fuel x0 fuel 0 0))
set_option maxRecDepth 100000 in
theorem f76_ok (fuel : Nat) (x0 : List Part) (r : Bool) (hr : F76 fuel x0 = some r) (h : Zone) (L : List Atom) (w : World) (hS : St h L w) (o_x0 : Option Addr) (c_x0 : Nat) (hx_x0 : SliceR PartT h o_x0 c_x0 x0) :
    Calls Try.prog 76 #[.agg #[.slice o_x0 x0.length c_x0]] w fun e w' => ∃ v, e = .returned v ∧ (∃ h', Zone.le h h' ∧ v = .bool r ∧ St h' L w') := by
 refine calls_intro (N := 54) Try.func76 (by kernel_rfl) fun a hf => ?_
 refine w_sr (by kernel_rfl) ?_
 refine p_box (i := 0) (d := (some 1)) (cs := [.slice o_x0 x0.length c_x0]) (T := 40) (v := fun b1 => pB b1 0) hS hf (fun b => by kernel_rfl) fun b1 ww1 a1 hS1 hf1 => ⟨fun _ => trivial, ?_⟩
 refine p_qt [] [(1, pB b1 0)] [] hf1 (by kernel_rfl) .nil fun a2 hf2 => ?_
 refine w_seq (by kernel_rfl) ?_
 refine w_sq [.slice o_x0 x0.length c_x0] [(1, pB b1 0), (9, .bool (decide ((x0.length : Int) > (40 : Int))))] [.cell ⟨b1, 0, none⟩ (.slice o_x0 x0.length c_x0)] hf2 (by kernel_rfl) (.cell (hS1.box (i := 0) rfl (j := 0) rfl) .nil) fun a3 hf3 => ?_
 refine w_if hf3 (b := (decide ((x0.length : Int) > (40 : Int)))) (by kernel_rfl) (fun hb1 => ?_) (fun hb1 => ?_)
 ·have hr1 := cond_t hb1 hr
  refine w_sq [] [(2, .bool false)] [] hf3 (by kernel_rfl) .nil fun a4 hf4 => ?_
  refine w_ret (by kernel_rfl) ?_
  refine r_then ?_
  refine p_ret (os := []) (v := .bool false) (obs := []) hf4 (by kernel_rfl) .nil ?_
  obtain rfl := some_eq hr1
  exact ⟨_, rfl, h, (Zone.le_refl _), rfl, (St.drop 1 hS1)⟩
 ·have hr2 := cond_f hb1 hr
  refine w_skip (by kernel_rfl) ?_
  refine n_then ?_
  refine w_sq [] [(1, pB b1 0), (3, vI 0)] [] hf3 (by kernel_rfl) .nil fun a5 hf5 => ?_
  refine w_seq (by kernel_rfl) ?_
  refine w_sq [] [(1, pB b1 0), (3, vI 0), (4, vI 0)] [] hf5 (by kernel_rfl) .nil fun a6 hf6 => ?_
  refine w_block (id := 0) (by kernel_rfl) ?_
  have hf7 := Fr.keep (ks := [1, 3, 4]) (r := [(1, pB b1 0), (3, vI 0), (4, vI 0)]) hf6 (by kernel_rfl)
  refine w_loop (by kernel_rfl) (fun n a w => ∃ z1 : Zone, ∃ y1 : Int, ∃ y2 : Int, Zone.le h z1 ∧ Fr a 54 [(1, pB b1 0), (3, vI y1), (4, vI y2)] ∧ St z1 (box b1 [.slice o_x0 x0.length c_x0] 40 :: L) w ∧ (F76_l1 fuel x0 n y1 y2) = some r) fuel ⟨h, 0, 0, (Zone.le_refl _), hf7, hS1, hr2⟩ ?_
  rintro n2 a7 ww2 ⟨z1, y1, y2, k2, hf8, hS2, hr3⟩
  cases n2 with
  | zero => cases hr3
  | succ n1 =>
  refine w_seq (by kernel_rfl) ?_
  refine w_sq [.slice o_x0 x0.length c_x0] [(1, pB b1 0), (3, vI y1), (4, vI y2), (14, .bool (decide (y2 < (x0.length : Int))))] [.cell ⟨b1, 0, none⟩ (.slice o_x0 x0.length c_x0)] hf8 (by kernel_rfl) (.cell (hS2.box (i := 0) rfl (j := 0) rfl) .nil) fun a8 hf9 => ?_
  refine w_if hf9 (b := (decide (y2 < (x0.length : Int)))) (by kernel_rfl) (fun hb2 => ?_) (fun hb2 => ?_)
  ·have hr4 := cond_t hb2 hr3
   refine w_skip (by kernel_rfl) ?_
   refine n_then ?_
   refine w_seq (by kernel_rfl) ?_
   refine w_block (id := 1) (by kernel_rfl) ?_
   refine w_sr (by kernel_rfl) ?_
   obtain ⟨p1, hp4712, hr5⟩ := bind_some hr4
   obtain ⟨ad1, ho1, hb3, cc1, hc1, hk1⟩ := SliceR.getI (SliceR.mono k2 hx_x0) hp4712
   subst hc1
   refine p_qn 5 [.slice o_x0 x0.length c_x0, .pointer (some ad1), vI p1.lot, vI p1.mass] [(1, pB b1 0), (3, vI y1), (4, vI y2), (21, .agg #[vI p1.lot, vI p1.mass])] [.cell ⟨b1, 0, none⟩ (.slice o_x0 x0.length c_x0), .prop (o_x0 = some ad1), .prop (0 ≤ y2 ∧ y2 < (x0.length : Nat)), .cell ((ad1.add (Int.toNat y2 * 2)).add 0) (vI p1.lot), .cell ((ad1.add (Int.toNat y2 * 2)).add 1) (vI p1.mass)] hf9 (by kernel_rfl) (.cell (hS2.box (i := 0) rfl (j := 0) rfl) (.prop ho1 (.prop hb3 (.cell (hS2.cell (hk1 0 _ rfl)) (.cell (hS2.cell (hk1 1 _ rfl)) .nil))))) fun a9 hf10 => ?_
   refine p_box (i := 5) (d := (some 5)) (cs := [vI 0, vI 0]) (T := 56) (v := fun b2 => pB b2 0) hS2 hf10 (fun b => by kernel_rfl) fun b2 ww3 a10 hS3 hf11 => ⟨fun _ => trivial, ?_⟩
   refine p_store_eq (i := 6) (j := 0) (b := b2) (off := 0) (vs := [vI p1.lot, vI p1.mass]) (cs' := [vI p1.lot, vI p1.mass]) hS3 hf11 rfl (by kernel_rfl) (by kernel_rfl) rfl fun ww4 a11 hS4 hf12 => ⟨fun _ => trivial, ?_⟩
   refine p_dt (by kernel_rfl) ?_
   refine w_seq (by kernel_rfl) ?_
   refine w_mid (by kernel_rfl) (fun a w => ∃ z2 : Zone, ∃ y3 : Bool, Zone.le z1 z2 ∧ Fr a 54 [(1, pB b1 0), (3, vI y1), (4, vI y2), (5, pB b2 0), (47, .bool y3)] ∧ St z2 (box b2 [vI p1.lot, vI p1.mass] 56 :: box b1 [.slice o_x0 x0.length c_x0] 40 :: L) w ∧ (F76_j1 (F76_l1 fuel x0 n1) y1 y2 p1 y3) = some r) ?_ ?_
   ·skip
    have hS5 := hS4.drew
    have s1 : Sub z1 (box b2 [vI p1.lot, vI p1.mass] 56 :: box b1 [.slice o_x0 x0.length c_x0] 40 :: L) _ := Sub.of (Zone.le_refl _) hS5
    refine w_regD (by kernel_rfl) [(0, true), (1, true), (2, false), (3, true), (4, true), (5, true), (6, true), (7, false), (8, true), (9, true), (10, true), (11, true), (12, true), (13, true), (14, true), (15, true), (16, true), (17, true), (18, true), (19, true), (20, true), (21, true), (22, true), (23, true), (24, true), (25, true)] [] (Sub z1 (box b2 [vI p1.lot, vI p1.mass] 56 :: box b1 [.slice o_x0 x0.length c_x0] 40 :: L)) (by kernel_rfl) s1 ?_
    refine p_qS 2 [vI p1.lot] [(1, pB b1 0), (3, vI y1), (4, vI y2), (5, pB b2 0), (23, vI p1.lot)] [.cell ⟨b2, 0, none⟩ (vI p1.lot)] [] s1 hf12 (by kernel_rfl) (fun _ s => (.cell (s.box (i := 0) rfl (j := 0) rfl) .nil)) .nil fun a12 hf13 => ?_
    obtain ⟨r1, hd1, hr6⟩ := bind_some hr5
    refine p_call (i := 2) (d := some 24) (f := 72) (args := #[vI p1.lot, vI 1, vI 9999]) hf13 (by kernel_rfl) (f72_ok fuel p1.lot 1 9999 r1 hd1 z1 _ _ hS5 ) ?_
    rintro v1 ww5 a13 ⟨z3, k3, rfl, hS6⟩ hf14
    refine ⟨fun _ => Sub.of k3 hS6, ?_⟩
    have s2 : Sub z1 (box b2 [vI p1.lot, vI p1.mass] 56 :: box b1 [.slice o_x0 x0.length c_x0] 40 :: L) _ := Sub.of k3 hS6
    refine p_qS 2 [] [(1, pB b1 0), (3, vI y1), (4, vI y2), (5, pB b2 0), (26, .bool (!r1))] [] [] s2 hf14 (by kernel_rfl) (fun _ s => .nil) .nil fun a14 hf15 => ?_
    rcases Bool.eq_false_or_eq_true (!r1) with hb4 | hb4
    ·have hr7 := cond_t hb4 hr6
     have hf16 := Fr.conv hf15 (congrArg (fun z => ([(1, pB b1 0), (3, vI y1), (4, vI y2), (5, pB b2 0), (26, .bool z)] : FL)) hb4)
     refine p_qS 21 [] [(1, pB b1 0), (3, vI y1), (4, vI y2), (5, pB b2 0), (27, undef), (28, undef), (29, undef), (30, undef), (33, undef), (34, undef), (35, undef), (36, undef), (37, undef), (38, undef), (39, undef), (40, undef), (41, undef), (42, undef), (43, undef), (44, undef), (45, undef), (46, undef), (47, .bool true)] [] [] s2 hf16 (by kernel_rfl) (fun _ s => .nil) .nil fun a15 hf17 => ?_
     refine p_dt (by kernel_rfl) ?_
     have hf18 := Fr.keep (ks := [1, 3, 4, 5, 47]) (r := [(1, pB b1 0), (3, vI y1), (4, vI y2), (5, pB b2 0), (47, .bool true)]) hf17 (by kernel_rfl)
     exact ⟨z3, true, k3, hf18, hS6, hr7⟩
    ·have hr8 := cond_f hb4 hr6
     have hf19 := Fr.conv hf15 (congrArg (fun z => ([(1, pB b1 0), (3, vI y1), (4, vI y2), (5, pB b2 0), (26, .bool z)] : FL)) hb4)
     refine p_qS 2 [vI p1.mass] [(1, pB b1 0), (3, vI y1), (4, vI y2), (5, pB b2 0), (26, .bool false), (27, pB b2 1), (28, vI p1.mass)] [.cell ⟨b2, 1, none⟩ (vI p1.mass)] [] s2 hf19 (by kernel_rfl) (fun _ s => (.cell (s.box (i := 0) rfl (j := 1) rfl) .nil)) .nil fun a16 hf20 => ?_
     obtain ⟨r2, hd2, hr9⟩ := bind_some hr8
     refine p_call (i := 7) (d := some 29) (f := 72) (args := #[vI p1.mass, vI 1, vI 100000000]) hf20 (by kernel_rfl) (f72_ok fuel p1.mass 1 100000000 r2 hd2 z3 _ _ hS6 ) ?_
     rintro v2 ww6 a17 ⟨z4, k4, rfl, hS7⟩ hf21
     refine ⟨fun _ => Sub.of (Zone.le_trans k3 k4) hS7, ?_⟩
     have s3 : Sub z1 (box b2 [vI p1.lot, vI p1.mass] 56 :: box b1 [.slice o_x0 x0.length c_x0] 40 :: L) _ := Sub.of (Zone.le_trans k3 k4) hS7
     refine p_qS 3 [] [(1, pB b1 0), (3, vI y1), (4, vI y2), (5, pB b2 0), (27, pB b2 1), (28, vI p1.mass), (29, .bool r2), (30, .bool (!r2)), (32, .bool (!r2))] [] [] s3 hf21 (by kernel_rfl) (fun _ s => .nil) .nil fun a18 hf22 => ?_
     rcases Bool.eq_false_or_eq_true (!r2) with hb5 | hb5
     ·have hr10 := cond_t hb5 hr9
      have hf23 := Fr.conv hf22 (congrArg (fun z => ([(1, pB b1 0), (3, vI y1), (4, vI y2), (5, pB b2 0), (27, pB b2 1), (28, vI p1.mass), (29, .bool r2), (30, .bool (!r2)), (32, .bool z)] : FL)) hb5)
      refine p_qS 15 [] [(1, pB b1 0), (3, vI y1), (4, vI y2), (5, pB b2 0), (27, pB b2 1), (28, vI p1.mass), (29, .bool r2), (30, .bool (!r2)), (33, undef), (34, undef), (35, undef), (36, undef), (37, undef), (38, undef), (39, undef), (40, undef), (41, undef), (42, undef), (43, undef), (44, undef), (45, undef), (46, undef), (47, .bool true)] [] [] s3 hf23 (by kernel_rfl) (fun _ s => .nil) .nil fun a19 hf24 => ?_
      refine p_dt (by kernel_rfl) ?_
      have hf25 := Fr.keep (ks := [1, 3, 4, 5, 47]) (r := [(1, pB b1 0), (3, vI y1), (4, vI y2), (5, pB b2 0), (47, .bool true)]) hf24 (by kernel_rfl)
      exact ⟨z4, true, (Zone.le_trans k3 k4), hf25, hS7, hr10⟩
     ·have hr11 := cond_f hb5 hr9
      have hf26 := Fr.conv hf22 (congrArg (fun z => ([(1, pB b1 0), (3, vI y1), (4, vI y2), (5, pB b2 0), (27, pB b2 1), (28, vI p1.mass), (29, .bool r2), (30, .bool (!r2)), (32, .bool z)] : FL)) hb5)
      refine p_qS 3 [] [(1, pB b1 0), (3, vI y1), (4, vI y2), (5, pB b2 0), (27, pB b2 1), (28, vI p1.mass), (29, .bool r2), (30, .bool (!r2)), (32, .bool false), (33, vI y2), (34, .bool (decide (y2 > (0 : Int)))), (35, .bool (decide (y2 > (0 : Int))))] [] [] s3 hf26 (by kernel_rfl) (fun _ s => .nil) .nil fun a20 hf27 => ?_
      rcases Bool.eq_false_or_eq_true (decide (y2 > (0 : Int))) with hb6 | hb6
      ·have hr12 := cond_t hb6 hr11
       have hf28 := Fr.conv hf27 (congrArg (fun z => ([(1, pB b1 0), (3, vI y1), (4, vI y2), (5, pB b2 0), (27, pB b2 1), (28, vI p1.mass), (29, .bool r2), (30, .bool (!r2)), (32, .bool false), (33, vI y2), (34, .bool (decide (y2 > (0 : Int)))), (35, .bool z)] : FL)) hb6)
       obtain ⟨p2, hp5115, hr13⟩ := bind_some hr12
       obtain ⟨ad2, ho2, hb7, cc2, hc2, hk2⟩ := SliceR.getI (SliceR.mono k2 hx_x0) hp5115
       subst hc2
       refine p_qS 12 [.slice o_x0 x0.length c_x0, .pointer (some ad2), vI p2.lot, vI p1.lot] [(1, pB b1 0), (3, vI y1), (4, vI y2), (5, pB b2 0), (27, pB b2 1), (28, vI p1.mass), (29, .bool r2), (30, .bool (!r2)), (33, vI y2), (34, .bool (decide (y2 > (0 : Int)))), (35, .bool true), (36, pB b1 0), (37, .slice o_x0 x0.length c_x0), (38, vI y2), (39, vI (w64 (y2 - (1 : Int)))), (40, .pointer (some (ad2.add (Int.toNat (w64 (y2 - (1 : Int))) * 2)))), (41, .pointer (some (ad2.add (Int.toNat (w64 (y2 - (1 : Int))) * 2)))), (42, vI p2.lot), (43, pB b2 0), (44, vI p1.lot), (45, .bool (decide (p2.lot ≥ p1.lot))), (46, .bool (decide (p2.lot ≥ p1.lot))), (47, .bool (decide (p2.lot ≥ p1.lot)))] [.cell ⟨b1, 0, none⟩ (.slice o_x0 x0.length c_x0), .prop (o_x0 = some ad2), .prop (0 ≤ (w64 (y2 - (1 : Int))) ∧ (w64 (y2 - (1 : Int))) < (x0.length : Nat)), .cell ((ad2.add (Int.toNat (w64 (y2 - (1 : Int))) * 2)).add 0) (vI p2.lot), .cell ⟨b2, 0, none⟩ (vI p1.lot)] [] s3 hf28 (by kernel_rfl) (fun _ s => (.cell (s.box (i := 1) rfl (j := 0) rfl) (.prop ho2 (.prop hb7 (.cell (s.cell (hk2 0 _ rfl)) (.cell (s.box (i := 0) rfl (j := 0) rfl) .nil)))))) .nil fun a21 hf29 => ?_
       refine p_dt (by kernel_rfl) ?_
       have hf30 := Fr.keep (ks := [1, 3, 4, 5, 47]) (r := [(1, pB b1 0), (3, vI y1), (4, vI y2), (5, pB b2 0), (47, .bool (decide (p2.lot ≥ p1.lot)))]) hf29 (by kernel_rfl)
       exact ⟨z4, (decide (p2.lot ≥ p1.lot)), (Zone.le_trans k3 k4), hf30, hS7, hr13⟩
      ·have hr14 := cond_f hb6 hr11
       have hf31 := Fr.conv hf27 (congrArg (fun z => ([(1, pB b1 0), (3, vI y1), (4, vI y2), (5, pB b2 0), (27, pB b2 1), (28, vI p1.mass), (29, .bool r2), (30, .bool (!r2)), (32, .bool false), (33, vI y2), (34, .bool (decide (y2 > (0 : Int)))), (35, .bool z)] : FL)) hb6)
       refine p_qS 12 [] [(1, pB b1 0), (3, vI y1), (4, vI y2), (5, pB b2 0), (27, pB b2 1), (28, vI p1.mass), (29, .bool r2), (30, .bool (!r2)), (33, vI y2), (34, .bool (decide (y2 > (0 : Int)))), (35, .bool false), (36, undef), (37, undef), (38, undef), (39, undef), (40, undef), (41, undef), (42, undef), (43, undef), (44, undef), (45, undef), (46, .bool false), (47, .bool false)] [] [] s3 hf31 (by kernel_rfl) (fun _ s => .nil) .nil fun a22 hf32 => ?_
       refine p_dt (by kernel_rfl) ?_
       have hf33 := Fr.keep (ks := [1, 3, 4, 5, 47]) (r := [(1, pB b1 0), (3, vI y1), (4, vI y2), (5, pB b2 0), (47, .bool false)]) hf32 (by kernel_rfl)
       exact ⟨z4, false, (Zone.le_trans k3 k4), hf33, hS7, hr14⟩
   ·rintro a23 ww7 ⟨z2, y3, k5, hf34, hS8, hr15⟩
    refine w_if hf34 (b := y3) (by kernel_rfl) (fun hb8 => ?_) (fun hb8 => ?_)
    ·have hr16 := cond_t hb8 hr15
     refine w_sq [] [(2, .bool false)] [] hf34 (by kernel_rfl) .nil fun a24 hf35 => ?_
     refine w_ret (by kernel_rfl) ?_
     refine r_then ?_
     refine r_block ?_
     refine r_then ?_
     refine r_then ?_
     refine r_block ?_
     refine r_then ?_
     refine p_ret (os := []) (v := .bool false) (obs := []) hf35 (by kernel_rfl) .nil ?_
     obtain rfl := some_eq hr16
     exact ⟨_, rfl, z2, (Zone.le_trans k2 k5), rfl, (St.drop 2 hS8)⟩
    ·have hr17 := cond_f hb8 hr15
     refine w_skip (by kernel_rfl) ?_
     refine n_then ?_
     refine w_q [vI p1.mass] [(1, pB b1 0), (3, vI (w64 (y1 + p1.mass))), (4, vI y2)] [.cell ⟨b2, 1, none⟩ (vI p1.mass)] hf34 (by kernel_rfl) (.cell (hS8.box (i := 0) rfl (j := 1) rfl) .nil) fun a25 hf36 => ?_
     refine n_block ?_
     refine n_then ?_
     refine w_q [] [(1, pB b1 0), (3, vI (w64 (y1 + p1.mass))), (4, vI (w64 (y2 + (1 : Int))))] [] hf36 (by kernel_rfl) .nil fun a26 hf37 => ?_
     refine n_then ?_
     have hf38 := Fr.keep (ks := [1, 3, 4]) (r := [(1, pB b1 0), (3, vI (w64 (y1 + p1.mass))), (4, vI (w64 (y2 + (1 : Int))))]) hf37 (by kernel_rfl)
     exact ⟨n1, Nat.lt_succ_self n1, z2, (w64 (y1 + p1.mass)), (w64 (y2 + (1 : Int))), (Zone.le_trans k2 k5), hf38, (St.drop 1 hS8), hr17⟩
  ·have hr18 := cond_f hb2 hr3
   refine w_exit (id := 0) (by kernel_rfl) ?_
   refine x_then ?_
   refine x_then ?_
   refine x_block ?_
   refine n_then ?_
   refine w_sq [] [(2, .bool (decide (y1 ≤ (100000000 : Int))))] [] hf9 (by kernel_rfl) .nil fun a27 hf39 => ?_
   refine w_ret (by kernel_rfl) ?_
   refine p_ret (os := []) (v := .bool (decide (y1 ≤ (100000000 : Int)))) (obs := []) hf39 (by kernel_rfl) .nil ?_
   obtain rfl := some_eq hr18
   exact ⟨_, rfl, z1, k2, rfl, (St.drop 1 hS2)⟩
def F92_l1 (x0 : List Part) : Nat → Int → Int → Option (Int)
  | 0, _, _ => none
  | n1 + 1, y1, y2 =>
    let k1 : Int → Int → Option (Int) := F92_l1 x0 n1
    (cond (decide (y2 < (x0.length : Int))) ((getI x0 y2).bind fun p1 => (k1 (w64 (y1 + p1.mass)) (w64 (y2 + (1 : Int))))) (some (y1)))
def F92 (fuel : Nat) (x0 : List Part) : Option (Int) :=
  (F92_l1 x0 fuel 0 0)
set_option maxRecDepth 100000 in
theorem f92_ok (fuel : Nat) (x0 : List Part) (r : Int) (hr : F92 fuel x0 = some r) (h : Zone) (L : List Atom) (w : World) (hS : St h L w) (o_x0 : Option Addr) (c_x0 : Nat) (hx_x0 : SliceR PartT h o_x0 c_x0 x0) :
    Calls Try.prog 92 #[.agg #[.slice o_x0 x0.length c_x0]] w fun e w' => ∃ v, e = .returned v ∧ (∃ h', Zone.le h h' ∧ v = vI r ∧ St h' L w') := by
 refine calls_intro (N := 21) Try.func92 (by kernel_rfl) fun a hf => ?_
 refine w_sr (by kernel_rfl) ?_
 refine p_box (i := 0) (d := (some 1)) (cs := [.slice o_x0 x0.length c_x0]) (T := 40) (v := fun b1 => pB b1 0) hS hf (fun b => by kernel_rfl) fun b1 ww1 a1 hS1 hf1 => ⟨fun _ => trivial, ?_⟩
 refine p_qt [] [(1, pB b1 0)] [] hf1 (by kernel_rfl) .nil fun a2 hf2 => ?_
 refine w_sq [] [(1, pB b1 0), (3, vI 0)] [] hf2 (by kernel_rfl) .nil fun a3 hf3 => ?_
 refine w_seq (by kernel_rfl) ?_
 refine w_sq [] [(1, pB b1 0), (3, vI 0), (4, vI 0)] [] hf3 (by kernel_rfl) .nil fun a4 hf4 => ?_
 refine w_block (id := 0) (by kernel_rfl) ?_
 have hf5 := Fr.keep (ks := [1, 3, 4]) (r := [(1, pB b1 0), (3, vI 0), (4, vI 0)]) hf4 (by kernel_rfl)
 refine w_loop (by kernel_rfl) (fun n a w => ∃ z1 : Zone, ∃ y1 : Int, ∃ y2 : Int, Zone.le h z1 ∧ Fr a 21 [(1, pB b1 0), (3, vI y1), (4, vI y2)] ∧ St z1 (box b1 [.slice o_x0 x0.length c_x0] 40 :: L) w ∧ (F92_l1 x0 n y1 y2) = some r) fuel ⟨h, 0, 0, (Zone.le_refl _), hf5, hS1, hr⟩ ?_
 rintro n2 a5 ww2 ⟨z1, y1, y2, k2, hf6, hS2, hr1⟩
 cases n2 with
 | zero => cases hr1
 | succ n1 =>
 refine w_seq (by kernel_rfl) ?_
 refine w_sq [.slice o_x0 x0.length c_x0] [(1, pB b1 0), (3, vI y1), (4, vI y2), (9, .bool (decide (y2 < (x0.length : Int))))] [.cell ⟨b1, 0, none⟩ (.slice o_x0 x0.length c_x0)] hf6 (by kernel_rfl) (.cell (hS2.box (i := 0) rfl (j := 0) rfl) .nil) fun a6 hf7 => ?_
 refine w_if hf7 (b := (decide (y2 < (x0.length : Int)))) (by kernel_rfl) (fun hb1 => ?_) (fun hb1 => ?_)
 ·have hr2 := cond_t hb1 hr1
  refine w_skip (by kernel_rfl) ?_
  refine n_then ?_
  refine w_seq (by kernel_rfl) ?_
  refine w_block (id := 1) (by kernel_rfl) ?_
  obtain ⟨p1, hp309, hr3⟩ := bind_some hr2
  obtain ⟨ad1, ho1, hb2, cc1, hc1, hk1⟩ := SliceR.getI (SliceR.mono k2 hx_x0) hp309
  subst hc1
  refine w_q [.slice o_x0 x0.length c_x0, .pointer (some ad1), vI p1.mass] [(1, pB b1 0), (3, vI (w64 (y1 + p1.mass))), (4, vI y2)] [.cell ⟨b1, 0, none⟩ (.slice o_x0 x0.length c_x0), .prop (o_x0 = some ad1), .prop (0 ≤ y2 ∧ y2 < (x0.length : Nat)), .cell ((ad1.add (Int.toNat y2 * 2)).add 1) (vI p1.mass)] hf7 (by kernel_rfl) (.cell (hS2.box (i := 0) rfl (j := 0) rfl) (.prop ho1 (.prop hb2 (.cell (hS2.cell (hk1 1 _ rfl)) .nil)))) fun a7 hf8 => ?_
  refine n_block ?_
  refine n_then ?_
  refine w_q [] [(1, pB b1 0), (3, vI (w64 (y1 + p1.mass))), (4, vI (w64 (y2 + (1 : Int))))] [] hf8 (by kernel_rfl) .nil fun a8 hf9 => ?_
  refine n_then ?_
  have hf10 := Fr.keep (ks := [1, 3, 4]) (r := [(1, pB b1 0), (3, vI (w64 (y1 + p1.mass))), (4, vI (w64 (y2 + (1 : Int))))]) hf9 (by kernel_rfl)
  exact ⟨n1, Nat.lt_succ_self n1, z1, (w64 (y1 + p1.mass)), (w64 (y2 + (1 : Int))), k2, hf10, hS2, hr3⟩
 ·have hr4 := cond_f hb1 hr1
  refine w_exit (id := 0) (by kernel_rfl) ?_
  refine x_then ?_
  refine x_then ?_
  refine x_block ?_
  refine n_then ?_
  refine w_sq [] [(2, vI y1)] [] hf7 (by kernel_rfl) .nil fun a9 hf11 => ?_
  refine w_ret (by kernel_rfl) ?_
  refine p_ret (os := []) (v := vI y1) (obs := []) hf11 (by kernel_rfl) .nil ?_
  obtain rfl := some_eq hr4
  exact ⟨_, rfl, z1, k2, rfl, (St.drop 1 hS2)⟩
def F77_l1 (fuel : Nat) (x0 : List (List Part)) : Nat → Int → Int → Option (Int)
  | 0, _, _ => none
  | n1 + 1, y1, y2 =>
    let k1 : Int → Int → Option (Int) := F77_l1 fuel x0 n1
    (cond (decide (y2 < (x0.length : Int))) ((getI x0 y2).bind fun p1 => ((F92 fuel p1).bind fun r1 => (k1 (w64 (y1 + r1)) (w64 (y2 + (1 : Int)))))) (some (y1)))
def F77 (fuel : Nat) (x0 : List (List Part)) : Option (Int) :=
  (F77_l1 fuel x0 fuel 0 0)
set_option maxRecDepth 100000 in
theorem f77_ok (fuel : Nat) (x0 : List (List Part)) (r : Int) (hr : F77 fuel x0 = some r) (h : Zone) (L : List Atom) (w : World) (hS : St h L w) (o_x0 : Option Addr) (c_x0 : Nat) (hx_x0 : SliceR (Ty.slice PartT) h o_x0 c_x0 x0) :
    Calls Try.prog 77 #[.slice o_x0 x0.length c_x0] w fun e w' => ∃ v, e = .returned v ∧ (∃ h', Zone.le h h' ∧ v = vI r ∧ St h' L w') := by
 refine calls_intro (N := 19) Try.func77 (by kernel_rfl) fun a hf => ?_
 refine w_sq [] [(0, .slice o_x0 x0.length c_x0)] [] hf (by kernel_rfl) .nil fun a1 hf1 => ?_
 refine w_sq [] [(0, .slice o_x0 x0.length c_x0), (3, vI 0)] [] hf1 (by kernel_rfl) .nil fun a2 hf2 => ?_
 refine w_seq (by kernel_rfl) ?_
 refine w_sq [] [(0, .slice o_x0 x0.length c_x0), (3, vI 0), (4, vI 0)] [] hf2 (by kernel_rfl) .nil fun a3 hf3 => ?_
 refine w_block (id := 0) (by kernel_rfl) ?_
 have hf4 := Fr.keep (ks := [0, 3, 4]) (r := [(0, .slice o_x0 x0.length c_x0), (3, vI 0), (4, vI 0)]) hf3 (by kernel_rfl)
 refine w_loop (by kernel_rfl) (fun n a w => ∃ z1 : Zone, ∃ y1 : Int, ∃ y2 : Int, Zone.le h z1 ∧ Fr a 19 [(0, .slice o_x0 x0.length c_x0), (3, vI y1), (4, vI y2)] ∧ St z1 (L) w ∧ (F77_l1 fuel x0 n y1 y2) = some r) fuel ⟨h, 0, 0, (Zone.le_refl _), hf4, hS, hr⟩ ?_
 rintro n2 a4 ww1 ⟨z1, y1, y2, k2, hf5, hS1, hr1⟩
 cases n2 with
 | zero => cases hr1
 | succ n1 =>
 refine w_seq (by kernel_rfl) ?_
 refine w_sq [] [(0, .slice o_x0 x0.length c_x0), (3, vI y1), (4, vI y2), (8, .bool (decide (y2 < (x0.length : Int))))] [] hf5 (by kernel_rfl) .nil fun a5 hf6 => ?_
 refine w_if hf6 (b := (decide (y2 < (x0.length : Int)))) (by kernel_rfl) (fun hb1 => ?_) (fun hb1 => ?_)
 ·have hr2 := cond_t hb1 hr1
  refine w_skip (by kernel_rfl) ?_
  refine n_then ?_
  refine w_seq (by kernel_rfl) ?_
  refine w_block (id := 1) (by kernel_rfl) ?_
  refine w_reg (by kernel_rfl) ?_
  obtain ⟨p1, hp604, hr3⟩ := bind_some hr2
  obtain ⟨ad1, ho1, hb2, cc1, hc1, hk1⟩ := SliceR.getI (SliceR.mono k2 hx_x0) hp604
  obtain ⟨e1, q1, rfl, hx1⟩ := hc1
  refine p_qn 5 [.pointer (some ad1), .slice e1 p1.length q1] [(0, .slice o_x0 x0.length c_x0), (4, vI y2), (11, vI y1), (15, .agg #[.slice e1 p1.length q1])] [.prop (o_x0 = some ad1), .prop (0 ≤ y2 ∧ y2 < (x0.length : Nat)), .cell ((ad1.add (Int.toNat y2 * 1)).add 0) (.slice e1 p1.length q1)] hf6 (by kernel_rfl) (.prop ho1 (.prop hb2 (.cell (hS1.cell (hk1 0 _ rfl)) .nil))) fun a6 hf7 => ?_
  obtain ⟨r1, hd1, hr4⟩ := bind_some hr3
  refine p_call (i := 5) (d := some 16) (f := 92) (args := #[.agg #[.slice e1 p1.length q1]]) hf7 (by kernel_rfl) (f92_ok fuel p1 r1 hd1 z1 _ _ hS1 e1 q1 hx1) ?_
  rintro v1 ww2 a7 ⟨z2, k3, rfl, hS2⟩ hf8
  refine ⟨fun _ => trivial, ?_⟩
  refine p_qz [] [(0, .slice o_x0 x0.length c_x0), (3, vI (w64 (y1 + r1))), (4, vI y2)] [] hf8 (by kernel_rfl) .nil fun a8 hf9 => ?_
  refine n_block ?_
  refine n_then ?_
  refine w_q [] [(0, .slice o_x0 x0.length c_x0), (3, vI (w64 (y1 + r1))), (4, vI (w64 (y2 + (1 : Int))))] [] hf9 (by kernel_rfl) .nil fun a9 hf10 => ?_
  refine n_then ?_
  have hf11 := Fr.keep (ks := [0, 3, 4]) (r := [(0, .slice o_x0 x0.length c_x0), (3, vI (w64 (y1 + r1))), (4, vI (w64 (y2 + (1 : Int))))]) hf10 (by kernel_rfl)
  exact ⟨n1, Nat.lt_succ_self n1, z2, (w64 (y1 + r1)), (w64 (y2 + (1 : Int))), (Zone.le_trans k2 k3), hf11, hS2, hr4⟩
 ·have hr5 := cond_f hb1 hr1
  refine w_exit (id := 0) (by kernel_rfl) ?_
  refine x_then ?_
  refine x_then ?_
  refine x_block ?_
  refine n_then ?_
  refine w_sq [] [(2, vI y1)] [] hf6 (by kernel_rfl) .nil fun a10 hf12 => ?_
  refine w_ret (by kernel_rfl) ?_
  refine p_ret (os := []) (v := vI y1) (obs := []) hf12 (by kernel_rfl) .nil ?_
  obtain rfl := some_eq hr5
  exact ⟨_, rfl, z1, k2, rfl, hS1⟩
def F22_l3 (fuel : Nat) (k1 : Int → Option (Int)) (x0_lots : List Lot) (p1 : List (List Part)) (y1 : Int) : Nat → Int → Option (Int)
  | 0, _ => none
  | n1 + 1, y2 =>
    let k2 : Int → Option (Int) := F22_l3 fuel k1 x0_lots p1 y1 n1
    ((getI p1 y1).bind fun p2 => (cond (decide (y2 < (p2.length : Int))) ((getI p1 y1).bind fun p3 => ((getI p3 y2).bind fun p4 => ((F56 fuel x0_lots p4.lot).bind fun r1 => (cond (decide (r1 < (0 : Int))) (some (62)) (k2 (w64 (y2 + (1 : Int)))))))) (k1 (w64 (y1 + (1 : Int))))))
def F22_j1 (fuel : Nat) (k1 : Int → Option (Int)) (x0_lots : List Lot) (p1 : List (List Part)) (y1 : Int) (y3 : Bool) : Option (Int) :=
  (cond y3 (some (62)) (F22_l3 fuel k1 x0_lots p1 y1 fuel 0))
def F22_l2 (fuel : Nat) (k3 : Int → Option (Int)) (x0_lots : List Lot) (y4 : Int) (p1 : List (List Part)) : Nat → Int → Option (Int)
  | 0, _ => none
  | n2 + 1, y1 =>
    let k1 : Int → Option (Int) := F22_l2 fuel k3 x0_lots y4 p1 n2
    (cond (decide (y1 < (p1.length : Int))) ((getI p1 y1).bind fun p5 => ((F76 fuel p5).bind fun r2 => (cond (!r2) (F22_j1 fuel k1 x0_lots p1 y1 true) ((getI p1 y1).bind fun p6 => (F22_j1 fuel k1 x0_lots p1 y1 ((p6.length : Int) == (0 : Int))))))) ((F77 fuel p1).bind fun r3 => (cond (decide (r3 > (100000000 : Int))) (some (62)) (k3 (w64 (y4 + (1 : Int)))))))
def F22_l1 (fuel : Nat) (x0_lots : List Lot) (x0_holds : List (List (List Part))) : Nat → Int → Option (Int)
  | 0, _ => none
  | n3 + 1, y4 =>
    let k3 : Int → Option (Int) := F22_l1 fuel x0_lots x0_holds n3
    (cond (decide (y4 < (9 : Int))) ((getI x0_holds y4).bind fun p1 => (cond (decide ((p1.length : Int) > (4 : Int))) (some (62)) (F22_l2 fuel k3 x0_lots y4 p1 fuel 0))) (some (0)))
def F22 (fuel : Nat) (x0_lots : List Lot) (x0_holds : List (List (List Part))) : Option (Int) :=
  ((F20 fuel x0_lots).bind fun r4 => (cond (r4 != (0 : Int)) (some (62)) (F22_l1 fuel x0_lots x0_holds fuel 0)))
set_option maxRecDepth 100000 in
theorem f22_ok (fuel : Nat) (x0_lots : List Lot) (x0_holds : List (List (List Part))) (r : Int) (hr : F22 fuel x0_lots x0_holds = some r) (h : Zone) (L : List Atom) (w : World) (hS : St h L w) (o_x0_lots : Option Addr) (c_x0_lots : Nat) (hx_x0_lots : SliceR LotT h o_x0_lots c_x0_lots x0_lots) (v0_x0_holds v1_x0_holds v2_x0_holds v3_x0_holds v4_x0_holds v5_x0_holds v6_x0_holds v7_x0_holds v8_x0_holds : Value) (hx_x0_holds : (Ty.arr 9 (Ty.slice (Ty.slice PartT))).rep h [v0_x0_holds, v1_x0_holds, v2_x0_holds, v3_x0_holds, v4_x0_holds, v5_x0_holds, v6_x0_holds, v7_x0_holds, v8_x0_holds] x0_holds) :
    Calls Try.prog 22 #[.agg #[.slice o_x0_lots x0_lots.length c_x0_lots, v0_x0_holds, v1_x0_holds, v2_x0_holds, v3_x0_holds, v4_x0_holds, v5_x0_holds, v6_x0_holds, v7_x0_holds, v8_x0_holds]] w fun e w' => ∃ v, e = .returned v ∧ (∃ h', Zone.le h h' ∧ v = vI r ∧ St h' L w') := by
 refine calls_intro (N := 69) Try.func22 (by kernel_rfl) fun a hf => ?_
 refine w_sr (by kernel_rfl) ?_
 refine p_box (i := 0) (d := (some 1)) (cs := [.slice o_x0_lots x0_lots.length c_x0_lots, v0_x0_holds, v1_x0_holds, v2_x0_holds, v3_x0_holds, v4_x0_holds, v5_x0_holds, v6_x0_holds, v7_x0_holds, v8_x0_holds]) (T := 26) (v := fun b1 => pB b1 0) hS hf (fun b => by kernel_rfl) fun b1 ww1 a1 hS1 hf1 => ⟨fun _ => trivial, ?_⟩
 refine p_qt [] [(1, pB b1 0)] [] hf1 (by kernel_rfl) .nil fun a2 hf2 => ?_
 refine w_seq (by kernel_rfl) ?_
 refine w_sr (by kernel_rfl) ?_
 refine p_qn 2 [.slice o_x0_lots x0_lots.length c_x0_lots] [(1, pB b1 0), (8, .slice o_x0_lots x0_lots.length c_x0_lots)] [.cell ⟨b1, 0, none⟩ (.slice o_x0_lots x0_lots.length c_x0_lots)] hf2 (by kernel_rfl) (.cell (hS1.box (i := 0) rfl (j := 0) rfl) .nil) fun a3 hf3 => ?_
 obtain ⟨r4, hd1, hr1⟩ := bind_some hr
 refine p_call (i := 2) (d := some 9) (f := 20) (args := #[.slice o_x0_lots x0_lots.length c_x0_lots]) hf3 (by kernel_rfl) (f20_ok fuel x0_lots r4 hd1 h _ _ hS1 o_x0_lots c_x0_lots hx_x0_lots) ?_
 rintro v1 ww2 a4 ⟨z1, k4, rfl, hS2⟩ hf4
 refine ⟨fun _ => trivial, ?_⟩
 refine p_qt [] [(1, pB b1 0), (10, .bool (r4 != (0 : Int)))] [] hf4 (by kernel_rfl) .nil fun a5 hf5 => ?_
 refine w_if hf5 (b := (r4 != (0 : Int))) (by kernel_rfl) (fun hb1 => ?_) (fun hb1 => ?_)
 ·have hr2 := cond_t hb1 hr1
  refine w_sq [] [(2, vI 62)] [] hf5 (by kernel_rfl) .nil fun a6 hf6 => ?_
  refine w_ret (by kernel_rfl) ?_
  refine r_then ?_
  refine p_ret (os := []) (v := vI 62) (obs := []) hf6 (by kernel_rfl) .nil ?_
  obtain rfl := some_eq hr2
  exact ⟨_, rfl, z1, k4, rfl, (St.drop 1 hS2)⟩
 ·have hr3 := cond_f hb1 hr1
  refine w_skip (by kernel_rfl) ?_
  refine n_then ?_
  refine w_seq (by kernel_rfl) ?_
  refine w_sq [] [(1, pB b1 0), (3, vI 0)] [] hf5 (by kernel_rfl) .nil fun a7 hf7 => ?_
  refine w_block (id := 0) (by kernel_rfl) ?_
  have hf8 := Fr.keep (ks := [1, 3]) (r := [(1, pB b1 0), (3, vI 0)]) hf7 (by kernel_rfl)
  refine w_loop (by kernel_rfl) (fun n a w => ∃ z2 : Zone, ∃ y4 : Int, Zone.le z1 z2 ∧ Fr a 69 [(1, pB b1 0), (3, vI y4)] ∧ St z2 (box b1 [.slice o_x0_lots x0_lots.length c_x0_lots, v0_x0_holds, v1_x0_holds, v2_x0_holds, v3_x0_holds, v4_x0_holds, v5_x0_holds, v6_x0_holds, v7_x0_holds, v8_x0_holds] 26 :: L) w ∧ (F22_l1 fuel x0_lots x0_holds n y4) = some r) fuel ⟨z1, 0, (Zone.le_refl _), hf8, hS2, hr3⟩ ?_
  rintro n4 a8 ww3 ⟨z2, y4, k5, hf9, hS3, hr4⟩
  cases n4 with
  | zero => cases hr4
  | succ n3 =>
  refine w_seq (by kernel_rfl) ?_
  refine w_sq [] [(1, pB b1 0), (3, vI y4), (12, .bool (decide (y4 < (9 : Int))))] [] hf9 (by kernel_rfl) .nil fun a9 hf10 => ?_
  refine w_if hf10 (b := (decide (y4 < (9 : Int)))) (by kernel_rfl) (fun hb2 => ?_) (fun hb2 => ?_)
  ·have hr5 := cond_t hb2 hr4
   refine w_skip (by kernel_rfl) ?_
   refine n_then ?_
   refine w_seq (by kernel_rfl) ?_
   refine w_block (id := 1) (by kernel_rfl) ?_
   obtain ⟨p1, hp183580, hr6⟩ := bind_some hr5
   obtain ⟨hb3, _, hv1, e1, q1, hehv183584, hx1⟩ := arrGet (Ty.mono _ (Zone.le_trans k4 k5) hx_x0_holds) rfl hp183580
   obtain rfl := List.head_eq_of_cons_eq hehv183584
   refine w_sq [.slice e1 p1.length q1] [(1, pB b1 0), (3, vI y4), (4, .slice e1 p1.length q1)] [.prop (0 ≤ y4 ∧ y4 < (9 : Nat)), .cell ((⟨b1, 1, none⟩ : Addr).add (Int.toNat y4 * 1)) (.slice e1 p1.length q1)] hf10 (by kernel_rfl) (.prop hb3 (.cell ((arrAddr b1 1 y4.toNat) ▸ (hS3.box (i := 0) rfl (getElem?_app_right [.slice o_x0_lots x0_lots.length c_x0_lots] _ _ hv1 []))) .nil)) fun a10 hf11 => ?_
   refine w_seq (by kernel_rfl) ?_
   refine w_sq [] [(1, pB b1 0), (3, vI y4), (4, .slice e1 p1.length q1), (21, .bool (decide ((p1.length : Int) > (4 : Int))))] [] hf11 (by kernel_rfl) .nil fun a11 hf12 => ?_
   refine w_if hf12 (b := (decide ((p1.length : Int) > (4 : Int)))) (by kernel_rfl) (fun hb4 => ?_) (fun hb4 => ?_)
   ·have hr7 := cond_t hb4 hr6
    refine w_sq [] [(2, vI 62)] [] hf12 (by kernel_rfl) .nil fun a12 hf13 => ?_
    refine w_ret (by kernel_rfl) ?_
    refine r_then ?_
    refine r_block ?_
    refine r_then ?_
    refine r_then ?_
    refine r_block ?_
    refine r_then ?_
    refine p_ret (os := []) (v := vI 62) (obs := []) hf13 (by kernel_rfl) .nil ?_
    obtain rfl := some_eq hr7
    exact ⟨_, rfl, z2, (Zone.le_trans k4 k5), rfl, (St.drop 1 hS3)⟩
   ·have hr8 := cond_f hb4 hr6
    refine w_skip (by kernel_rfl) ?_
    refine n_then ?_
    refine w_seq (by kernel_rfl) ?_
    refine w_sq [] [(1, pB b1 0), (3, vI y4), (4, .slice e1 p1.length q1), (5, vI 0)] [] hf12 (by kernel_rfl) .nil fun a13 hf14 => ?_
    refine w_block (id := 2) (by kernel_rfl) ?_
    have hf15 := Fr.keep (ks := [1, 3, 4, 5]) (r := [(1, pB b1 0), (3, vI y4), (4, .slice e1 p1.length q1), (5, vI 0)]) hf14 (by kernel_rfl)
    refine w_loop (by kernel_rfl) (fun n a w => ∃ z3 : Zone, ∃ y1 : Int, Zone.le z2 z3 ∧ Fr a 69 [(1, pB b1 0), (3, vI y4), (4, .slice e1 p1.length q1), (5, vI y1)] ∧ St z3 (box b1 [.slice o_x0_lots x0_lots.length c_x0_lots, v0_x0_holds, v1_x0_holds, v2_x0_holds, v3_x0_holds, v4_x0_holds, v5_x0_holds, v6_x0_holds, v7_x0_holds, v8_x0_holds] 26 :: L) w ∧ (F22_l2 fuel (F22_l1 fuel x0_lots x0_holds n3) x0_lots y4 p1 n y1) = some r) fuel ⟨z2, 0, (Zone.le_refl _), hf15, hS3, hr8⟩ ?_
    rintro n5 a14 ww4 ⟨z3, y1, k6, hf16, hS4, hr9⟩
    cases n5 with
    | zero => cases hr9
    | succ n2 =>
    refine w_seq (by kernel_rfl) ?_
    refine w_sq [] [(1, pB b1 0), (3, vI y4), (4, .slice e1 p1.length q1), (5, vI y1), (25, .bool (decide (y1 < (p1.length : Int))))] [] hf16 (by kernel_rfl) .nil fun a15 hf17 => ?_
    refine w_if hf17 (b := (decide (y1 < (p1.length : Int)))) (by kernel_rfl) (fun hb5 => ?_) (fun hb5 => ?_)
    ·have hr10 := cond_t hb5 hr9
     refine w_skip (by kernel_rfl) ?_
     refine n_then ?_
     refine w_seq (by kernel_rfl) ?_
     refine w_block (id := 3) (by kernel_rfl) ?_
     refine w_seq (by kernel_rfl) ?_
     refine w_mid (by kernel_rfl) (fun a w => ∃ z4 : Zone, ∃ y3 : Bool, Zone.le z3 z4 ∧ Fr a 69 [(1, pB b1 0), (3, vI y4), (4, .slice e1 p1.length q1), (5, vI y1), (42, .bool y3)] ∧ St z4 (box b1 [.slice o_x0_lots x0_lots.length c_x0_lots, v0_x0_holds, v1_x0_holds, v2_x0_holds, v3_x0_holds, v4_x0_holds, v5_x0_holds, v6_x0_holds, v7_x0_holds, v8_x0_holds] 26 :: L) w ∧ (F22_j1 fuel (F22_l2 fuel (F22_l1 fuel x0_lots x0_holds n3) x0_lots y4 p1 n2) x0_lots p1 y1 y3) = some r) ?_ ?_
     ·skip
      refine w_reg (by kernel_rfl) ?_
      obtain ⟨p5, hp195252, hr11⟩ := bind_some hr10
      obtain ⟨ad1, ho1, hb6, cc1, hc1, hk1⟩ := SliceR.getI (SliceR.mono k6 hx1) hp195252
      obtain ⟨e2, q2, rfl, hx2⟩ := hc1
      refine p_qn 4 [.pointer (some ad1), .slice e2 p5.length q2] [(1, pB b1 0), (3, vI y4), (4, .slice e1 p1.length q1), (5, vI y1), (31, .agg #[.slice e2 p5.length q2])] [.prop (e1 = some ad1), .prop (0 ≤ y1 ∧ y1 < (p1.length : Nat)), .cell ((ad1.add (Int.toNat y1 * 1)).add 0) (.slice e2 p5.length q2)] hf17 (by kernel_rfl) (.prop ho1 (.prop hb6 (.cell (hS4.cell (hk1 0 _ rfl)) .nil))) fun a16 hf18 => ?_
      obtain ⟨r2, hd2, hr12⟩ := bind_some hr11
      refine p_call (i := 4) (d := some 32) (f := 76) (args := #[.agg #[.slice e2 p5.length q2]]) hf18 (by kernel_rfl) (f76_ok fuel p5 r2 hd2 z3 _ _ hS4 e2 q2 hx2) ?_
      rintro v2 ww5 a17 ⟨z5, k7, rfl, hS5⟩ hf19
      refine ⟨fun _ => trivial, ?_⟩
      refine p_qn 2 [] [(1, pB b1 0), (3, vI y4), (4, .slice e1 p1.length q1), (5, vI y1), (34, .bool (!r2))] [] hf19 (by kernel_rfl) .nil fun a18 hf20 => ?_
      rcases Bool.eq_false_or_eq_true (!r2) with hb7 | hb7
      ·have hr13 := cond_t hb7 hr12
       have hf21 := Fr.conv hf20 (congrArg (fun z => ([(1, pB b1 0), (3, vI y4), (4, .slice e1 p1.length q1), (5, vI y1), (34, .bool z)] : FL)) hb7)
       refine p_qt [] [(1, pB b1 0), (3, vI y4), (4, .slice e1 p1.length q1), (5, vI y1), (35, undef), (36, undef), (37, undef), (38, undef), (39, undef), (40, undef), (41, undef), (42, .bool true)] [] hf21 (by kernel_rfl) .nil fun a19 hf22 => ?_
       have hf23 := Fr.keep (ks := [1, 3, 4, 5, 42]) (r := [(1, pB b1 0), (3, vI y4), (4, .slice e1 p1.length q1), (5, vI y1), (42, .bool true)]) hf22 (by kernel_rfl)
       exact ⟨z5, true, k7, hf23, hS5, hr13⟩
      ·have hr14 := cond_f hb7 hr12
       have hf24 := Fr.conv hf20 (congrArg (fun z => ([(1, pB b1 0), (3, vI y4), (4, .slice e1 p1.length q1), (5, vI y1), (34, .bool z)] : FL)) hb7)
       obtain ⟨p6, hp195291, hr15⟩ := bind_some hr14
       obtain ⟨ad2, ho2, hb8, cc2, hc2, hk2⟩ := SliceR.getI (SliceR.mono (Zone.le_trans k6 k7) hx1) hp195291
       obtain ⟨e3, q3, rfl, hx3⟩ := hc2
       refine p_qt [.pointer (some ad2), .slice e3 p6.length q3] [(1, pB b1 0), (3, vI y4), (4, .slice e1 p1.length q1), (5, vI y1), (35, .slice e1 p1.length q1), (36, vI y1), (37, .pointer (some (ad2.add (Int.toNat y1 * 1)))), (38, .pointer (some (ad2.add (Int.toNat y1 * 1)))), (39, .slice e3 p6.length q3), (40, vI (p6.length : Int)), (41, .bool ((p6.length : Int) == (0 : Int))), (42, .bool ((p6.length : Int) == (0 : Int)))] [.prop (e1 = some ad2), .prop (0 ≤ y1 ∧ y1 < (p1.length : Nat)), .cell ((ad2.add (Int.toNat y1 * 1)).add 0) (.slice e3 p6.length q3)] hf24 (by kernel_rfl) (.prop ho2 (.prop hb8 (.cell (hS5.cell (hk2 0 _ rfl)) .nil))) fun a20 hf25 => ?_
       have hf26 := Fr.keep (ks := [1, 3, 4, 5, 42]) (r := [(1, pB b1 0), (3, vI y4), (4, .slice e1 p1.length q1), (5, vI y1), (42, .bool ((p6.length : Int) == (0 : Int)))]) hf25 (by kernel_rfl)
       exact ⟨z5, ((p6.length : Int) == (0 : Int)), k7, hf26, hS5, hr15⟩
     ·rintro a21 ww6 ⟨z4, y3, k8, hf27, hS6, hr16⟩
      refine w_if hf27 (b := y3) (by kernel_rfl) (fun hb9 => ?_) (fun hb9 => ?_)
      ·have hr17 := cond_t hb9 hr16
       refine w_sq [] [(2, vI 62)] [] hf27 (by kernel_rfl) .nil fun a22 hf28 => ?_
       refine w_ret (by kernel_rfl) ?_
       refine r_then ?_
       refine r_block ?_
       refine r_then ?_
       refine r_then ?_
       refine r_block ?_
       refine r_then ?_
       refine r_block ?_
       refine r_then ?_
       refine r_then ?_
       refine r_block ?_
       refine r_then ?_
       refine p_ret (os := []) (v := vI 62) (obs := []) hf28 (by kernel_rfl) .nil ?_
       obtain rfl := some_eq hr17
       exact ⟨_, rfl, z4, (Zone.le_trans (Zone.le_trans (Zone.le_trans k4 k5) k6) k8), rfl, (St.drop 1 hS6)⟩
      ·have hr18 := cond_f hb9 hr16
       refine w_skip (by kernel_rfl) ?_
       refine n_then ?_
       refine w_sq [] [(1, pB b1 0), (3, vI y4), (4, .slice e1 p1.length q1), (5, vI y1), (6, vI 0)] [] hf27 (by kernel_rfl) .nil fun a23 hf29 => ?_
       refine w_block (id := 4) (by kernel_rfl) ?_
       have hf30 := Fr.keep (ks := [1, 3, 4, 5, 6]) (r := [(1, pB b1 0), (3, vI y4), (4, .slice e1 p1.length q1), (5, vI y1), (6, vI 0)]) hf29 (by kernel_rfl)
       refine w_loop (by kernel_rfl) (fun n a w => ∃ z6 : Zone, ∃ y2 : Int, Zone.le z4 z6 ∧ Fr a 69 [(1, pB b1 0), (3, vI y4), (4, .slice e1 p1.length q1), (5, vI y1), (6, vI y2)] ∧ St z6 (box b1 [.slice o_x0_lots x0_lots.length c_x0_lots, v0_x0_holds, v1_x0_holds, v2_x0_holds, v3_x0_holds, v4_x0_holds, v5_x0_holds, v6_x0_holds, v7_x0_holds, v8_x0_holds] 26 :: L) w ∧ (F22_l3 fuel (F22_l2 fuel (F22_l1 fuel x0_lots x0_holds n3) x0_lots y4 p1 n2) x0_lots p1 y1 n y2) = some r) fuel ⟨z4, 0, (Zone.le_refl _), hf30, hS6, hr18⟩ ?_
       rintro n6 a24 ww7 ⟨z6, y2, k9, hf31, hS7, hr19⟩
       cases n6 with
       | zero => cases hr19
       | succ n1 =>
       refine w_seq (by kernel_rfl) ?_
       obtain ⟨p2, hp195728, hr20⟩ := bind_some hr19
       obtain ⟨ad3, ho3, hb10, cc3, hc3, hk3⟩ := SliceR.getI (SliceR.mono (Zone.le_trans (Zone.le_trans k6 k8) k9) hx1) hp195728
       obtain ⟨e4, q4, rfl, hx4⟩ := hc3
       refine w_sq [.pointer (some ad3), .slice e4 p2.length q4] [(1, pB b1 0), (3, vI y4), (4, .slice e1 p1.length q1), (5, vI y1), (6, vI y2), (50, .bool (decide (y2 < (p2.length : Int))))] [.prop (e1 = some ad3), .prop (0 ≤ y1 ∧ y1 < (p1.length : Nat)), .cell ((ad3.add (Int.toNat y1 * 1)).add 0) (.slice e4 p2.length q4)] hf31 (by kernel_rfl) (.prop ho3 (.prop hb10 (.cell (hS7.cell (hk3 0 _ rfl)) .nil))) fun a25 hf32 => ?_
       refine w_if hf32 (b := (decide (y2 < (p2.length : Int)))) (by kernel_rfl) (fun hb11 => ?_) (fun hb11 => ?_)
       ·have hr21 := cond_t hb11 hr20
        refine w_skip (by kernel_rfl) ?_
        refine n_then ?_
        refine w_seq (by kernel_rfl) ?_
        refine w_block (id := 5) (by kernel_rfl) ?_
        refine w_seq (by kernel_rfl) ?_
        have hS8 := hS7.drew
        refine w_regD (by kernel_rfl) [(0, true), (1, true), (2, true), (3, true), (4, true), (5, true), (6, true), (7, true), (8, true), (9, true), (10, true), (11, false), (12, true)] [11] (fun x => x = ww7.drew) (by kernel_rfl) rfl ?_
        obtain ⟨p3, hp195792, hr22⟩ := bind_some hr21
        obtain ⟨ad4, ho4, hb12, cc4, hc4, hk4⟩ := SliceR.getI (SliceR.mono (Zone.le_trans (Zone.le_trans k6 k8) k9) hx1) hp195792
        obtain ⟨e5, q5, rfl, hx5⟩ := hc4
        obtain ⟨p4, hp195804, hr23⟩ := bind_some hr22
        obtain ⟨ad5, ho5, hb13, cc5, hc5, hk5⟩ := SliceR.getI hx5 hp195804
        subst hc5
        refine p_qE 11 [.slice o_x0_lots x0_lots.length c_x0_lots, .pointer (some ad4), .slice e5 p3.length q5, .pointer (some ad5), vI p4.lot] [(1, pB b1 0), (3, vI y4), (4, .slice e1 p1.length q1), (5, vI y1), (6, vI y2), (54, .slice o_x0_lots x0_lots.length c_x0_lots), (63, vI p4.lot)] [.cell ⟨b1, 0, none⟩ (.slice o_x0_lots x0_lots.length c_x0_lots), .prop (e1 = some ad4), .prop (0 ≤ y1 ∧ y1 < (p1.length : Nat)), .cell ((ad4.add (Int.toNat y1 * 1)).add 0) (.slice e5 p3.length q5), .prop (e5 = some ad5), .prop (0 ≤ y2 ∧ y2 < (p3.length : Nat)), .cell ((ad5.add (Int.toNat y2 * 2)).add 0) (vI p4.lot)] [] hf32 (by kernel_rfl) (.cell (hS8.box (i := 0) rfl (j := 0) rfl) (.prop ho4 (.prop hb12 (.cell (hS8.cell (hk4 0 _ rfl)) (.prop ho5 (.prop hb13 (.cell (hS8.cell (hk5 0 _ rfl)) .nil))))))) .nil fun a26 hf33 => ?_
        obtain ⟨r1, hd3, hr24⟩ := bind_some hr23
        refine p_call (i := 11) (d := some 64) (f := 56) (args := #[.slice o_x0_lots x0_lots.length c_x0_lots, vI p4.lot]) hf33 (by kernel_rfl) (f56_ok fuel x0_lots p4.lot r1 hd3 z6 _ _ hS8 o_x0_lots c_x0_lots (SliceR.mono (Zone.le_trans (Zone.le_trans (Zone.le_trans (Zone.le_trans k4 k5) k6) k8) k9) hx_x0_lots)) ?_
        rintro v3 ww8 a27 ⟨z7, k10, rfl, hS9⟩ hf34
        refine ⟨fun e => absurd e (by decide), ?_⟩
        refine p_qP 1 [] [(1, pB b1 0), (3, vI y4), (4, .slice e1 p1.length q1), (5, vI y1), (6, vI y2), (65, .bool (decide (r1 < (0 : Int))))] [] hf34 (by kernel_rfl) (fun _ => .nil) fun a28 hf35 => ?_
        refine p_dt (by kernel_rfl) ?_
        refine w_if hf35 (b := (decide (r1 < (0 : Int)))) (by kernel_rfl) (fun hb14 => ?_) (fun hb14 => ?_)
        ·have hr25 := cond_t hb14 hr24
         refine w_sq [] [(2, vI 62)] [] hf35 (by kernel_rfl) .nil fun a29 hf36 => ?_
         refine w_ret (by kernel_rfl) ?_
         refine r_block ?_
         refine r_then ?_
         refine r_then ?_
         refine r_block ?_
         refine r_block ?_
         refine r_then ?_
         refine r_then ?_
         refine r_block ?_
         refine r_then ?_
         refine r_block ?_
         refine r_then ?_
         refine r_then ?_
         refine r_block ?_
         refine r_then ?_
         refine p_ret (os := []) (v := vI 62) (obs := []) hf36 (by kernel_rfl) .nil ?_
         obtain rfl := some_eq hr25
         exact ⟨_, rfl, z7, (Zone.le_trans (Zone.le_trans (Zone.le_trans (Zone.le_trans (Zone.le_trans k4 k5) k6) k8) k9) k10), rfl, (St.drop 1 hS9)⟩
        ·have hr26 := cond_f hb14 hr24
         refine w_skip (by kernel_rfl) ?_
         refine n_block ?_
         refine n_then ?_
         refine w_q [] [(1, pB b1 0), (3, vI y4), (4, .slice e1 p1.length q1), (5, vI y1), (6, vI (w64 (y2 + (1 : Int))))] [] hf35 (by kernel_rfl) .nil fun a30 hf37 => ?_
         refine n_then ?_
         have hf38 := Fr.keep (ks := [1, 3, 4, 5, 6]) (r := [(1, pB b1 0), (3, vI y4), (4, .slice e1 p1.length q1), (5, vI y1), (6, vI (w64 (y2 + (1 : Int))))]) hf37 (by kernel_rfl)
         exact ⟨n1, Nat.lt_succ_self n1, z7, (w64 (y2 + (1 : Int))), (Zone.le_trans k9 k10), hf38, hS9, hr26⟩
       ·have hr27 := cond_f hb11 hr20
        refine w_exit (id := 4) (by kernel_rfl) ?_
        refine x_then ?_
        refine x_then ?_
        refine x_block ?_
        refine n_block ?_
        refine n_then ?_
        refine w_q [] [(1, pB b1 0), (3, vI y4), (4, .slice e1 p1.length q1), (5, vI (w64 (y1 + (1 : Int))))] [] hf32 (by kernel_rfl) .nil fun a31 hf39 => ?_
        refine n_then ?_
        have hf40 := Fr.keep (ks := [1, 3, 4, 5]) (r := [(1, pB b1 0), (3, vI y4), (4, .slice e1 p1.length q1), (5, vI (w64 (y1 + (1 : Int))))]) hf39 (by kernel_rfl)
        exact ⟨n2, Nat.lt_succ_self n2, z6, (w64 (y1 + (1 : Int))), (Zone.le_trans (Zone.le_trans k6 k8) k9), hf40, hS7, hr27⟩
    ·have hr28 := cond_f hb5 hr9
     refine w_exit (id := 2) (by kernel_rfl) ?_
     refine x_then ?_
     refine x_then ?_
     refine x_block ?_
     refine n_then ?_
     refine w_sr (by kernel_rfl) ?_
     refine p_qn 1 [] [(1, pB b1 0), (3, vI y4), (66, .slice e1 p1.length q1)] [] hf17 (by kernel_rfl) .nil fun a32 hf41 => ?_
     obtain ⟨r3, hd4, hr29⟩ := bind_some hr28
     refine p_call (i := 1) (d := some 67) (f := 77) (args := #[.slice e1 p1.length q1]) hf41 (by kernel_rfl) (f77_ok fuel p1 r3 hd4 z3 _ _ hS4 e1 q1 (SliceR.mono k6 hx1)) ?_
     rintro v4 ww9 a33 ⟨z8, k11, rfl, hS10⟩ hf42
     refine ⟨fun _ => trivial, ?_⟩
     refine p_qt [] [(1, pB b1 0), (3, vI y4), (68, .bool (decide (r3 > (100000000 : Int))))] [] hf42 (by kernel_rfl) .nil fun a34 hf43 => ?_
     refine w_if hf43 (b := (decide (r3 > (100000000 : Int)))) (by kernel_rfl) (fun hb15 => ?_) (fun hb15 => ?_)
     ·have hr30 := cond_t hb15 hr29
      refine w_sq [] [(2, vI 62)] [] hf43 (by kernel_rfl) .nil fun a35 hf44 => ?_
      refine w_ret (by kernel_rfl) ?_
      refine r_block ?_
      refine r_then ?_
      refine r_then ?_
      refine r_block ?_
      refine r_then ?_
      refine p_ret (os := []) (v := vI 62) (obs := []) hf44 (by kernel_rfl) .nil ?_
      obtain rfl := some_eq hr30
      exact ⟨_, rfl, z8, (Zone.le_trans (Zone.le_trans (Zone.le_trans k4 k5) k6) k11), rfl, (St.drop 1 hS10)⟩
     ·have hr31 := cond_f hb15 hr29
      refine w_skip (by kernel_rfl) ?_
      refine n_block ?_
      refine n_then ?_
      refine w_q [] [(1, pB b1 0), (3, vI (w64 (y4 + (1 : Int))))] [] hf43 (by kernel_rfl) .nil fun a36 hf45 => ?_
      refine n_then ?_
      have hf46 := Fr.keep (ks := [1, 3]) (r := [(1, pB b1 0), (3, vI (w64 (y4 + (1 : Int))))]) hf45 (by kernel_rfl)
      exact ⟨n3, Nat.lt_succ_self n3, z8, (w64 (y4 + (1 : Int))), (Zone.le_trans (Zone.le_trans k5 k6) k11), hf46, hS10, hr31⟩
  ·have hr32 := cond_f hb2 hr4
   refine w_exit (id := 0) (by kernel_rfl) ?_
   refine x_then ?_
   refine x_then ?_
   refine x_block ?_
   refine n_then ?_
   refine w_sq [] [(2, vI 0)] [] hf10 (by kernel_rfl) .nil fun a37 hf47 => ?_
   refine w_ret (by kernel_rfl) ?_
   refine p_ret (os := []) (v := vI 0) (obs := []) hf47 (by kernel_rfl) .nil ?_
   obtain rfl := some_eq hr32
   exact ⟨_, rfl, z2, (Zone.le_trans k4 k5), rfl, (St.drop 1 hS3)⟩
def F118 (fuel : Nat) (x0 : Int) : Option (Bool) :=
  ((F72 fuel x0 0 8).bind fun r1 => (some (r1)))
set_option maxRecDepth 100000 in
theorem f118_ok (fuel : Nat) (x0 : Int) (r : Bool) (hr : F118 fuel x0 = some r) (h : Zone) (L : List Atom) (w : World) (hS : St h L w)  :
    Calls Try.prog 118 #[vI x0] w fun e w' => ∃ v, e = .returned v ∧ (∃ h', Zone.le h h' ∧ v = .bool r ∧ St h' L w') := by
 refine calls_intro (N := 5) Try.func118 (by kernel_rfl) fun a hf => ?_
 refine w_sq [] [(0, vI x0)] [] hf (by kernel_rfl) .nil fun a1 hf1 => ?_
 refine w_sr (by kernel_rfl) ?_
 refine p_qn 1 [] [(3, vI x0)] [] hf1 (by kernel_rfl) .nil fun a2 hf2 => ?_
 obtain ⟨r1, hd1, hr1⟩ := bind_some hr
 refine p_call (i := 1) (d := some 4) (f := 72) (args := #[vI x0, vI 0, vI 8]) hf2 (by kernel_rfl) (f72_ok fuel x0 0 8 r1 hd1 h _ _ hS ) ?_
 rintro v1 ww1 a3 ⟨z1, k1, rfl, hS1⟩ hf3
 refine ⟨fun _ => trivial, ?_⟩
 refine p_qt [] [(2, .bool r1)] [] hf3 (by kernel_rfl) .nil fun a4 hf4 => ?_
 refine w_ret (by kernel_rfl) ?_
 refine p_ret (os := []) (v := .bool r1) (obs := []) hf4 (by kernel_rfl) .nil ?_
 obtain rfl := some_eq hr1
 exact ⟨_, rfl, z1, k1, rfl, hS1⟩
def F79_j2 (y1 : Bool) : Option (Bool) :=
  (some (y1))
def F79_j5 (y2 : Bool) : Option (Bool) :=
  (some (y2))
def F79_j6 (y3 : Bool) : Option (Bool) :=
  (some (y3))
def F79_j7 (y4 : Bool) : Option (Bool) :=
  (some (y4))
def F79_j4 (fuel : Nat) (x0_lots : List Lot) (x1_kind : Int) (x1_lot : Int) (x1_from : Int) (x1_to : Int) (y5 : Bool) : Option (Bool) :=
  (cond y5 (cond (x1_from == (0 : Int)) ((F56 fuel x0_lots x1_lot).bind fun r1 => (F79_j5 (decide (r1 ≥ (0 : Int))))) (F79_j5 false)) (cond (x1_kind == (4 : Int)) (cond (x1_lot == (0 : Int)) (F79_j6 (x1_from != x1_to)) (F79_j6 false)) (cond (x1_lot == (0 : Int)) (F79_j7 (x1_to == (0 : Int))) (F79_j7 false))))
def F79_j3 (fuel : Nat) (x0_lots : List Lot) (x1_kind : Int) (x1_lot : Int) (x1_from : Int) (x1_to : Int) (y6 : Bool) : Option (Bool) :=
  (cond y6 (some (false)) (cond (x1_kind == (1 : Int)) (F79_j4 fuel x0_lots x1_kind x1_lot x1_from x1_to (x1_kind == (1 : Int))) (F79_j4 fuel x0_lots x1_kind x1_lot x1_from x1_to (x1_kind == (2 : Int)))))
def F79_j1 (fuel : Nat) (x0_lots : List Lot) (x1_kind : Int) (x1_lot : Int) (x1_from : Int) (x1_to : Int) (x1_mass : Int) (y7 : Bool) : Option (Bool) :=
  (cond y7 (some (false)) (cond (x1_kind == (6 : Int)) (cond (x1_lot == (0 : Int)) (cond (x1_to == (0 : Int)) (cond (x1_mass == (0 : Int)) ((F118 fuel x1_from).bind fun r2 => (F79_j2 r2)) (F79_j2 false)) (F79_j2 false)) (F79_j2 false)) ((F72 fuel x1_mass 1 100000000).bind fun r3 => (cond (!r3) (F79_j3 fuel x0_lots x1_kind x1_lot x1_from x1_to true) ((F118 fuel x1_from).bind fun r4 => (cond (!r4) (F79_j3 fuel x0_lots x1_kind x1_lot x1_from x1_to true) ((F118 fuel x1_to).bind fun r5 => (F79_j3 fuel x0_lots x1_kind x1_lot x1_from x1_to (!r5)))))))))
def F79 (fuel : Nat) (x0_lots : List Lot) (x0_holds : List (List (List Part))) (x1_kind : Int) (x1_lot : Int) (x1_from : Int) (x1_to : Int) (x1_mass : Int) : Option (Bool) :=
  (cond (decide (x1_kind < (1 : Int))) (F79_j1 fuel x0_lots x1_kind x1_lot x1_from x1_to x1_mass true) (F79_j1 fuel x0_lots x1_kind x1_lot x1_from x1_to x1_mass (decide (x1_kind > (6 : Int)))))
set_option maxRecDepth 100000 in
theorem f79_ok (fuel : Nat) (x0_lots : List Lot) (x0_holds : List (List (List Part))) (x1_kind : Int) (x1_lot : Int) (x1_from : Int) (x1_to : Int) (x1_mass : Int) (r : Bool) (hr : F79 fuel x0_lots x0_holds x1_kind x1_lot x1_from x1_to x1_mass = some r) (h : Zone) (L : List Atom) (w : World) (hS : St h L w) (o_x0_lots : Option Addr) (c_x0_lots : Nat) (hx_x0_lots : SliceR LotT h o_x0_lots c_x0_lots x0_lots) (v0_x0_holds v1_x0_holds v2_x0_holds v3_x0_holds v4_x0_holds v5_x0_holds v6_x0_holds v7_x0_holds v8_x0_holds : Value) (hx_x0_holds : (Ty.arr 9 (Ty.slice (Ty.slice PartT))).rep h [v0_x0_holds, v1_x0_holds, v2_x0_holds, v3_x0_holds, v4_x0_holds, v5_x0_holds, v6_x0_holds, v7_x0_holds, v8_x0_holds] x0_holds) :
    Calls Try.prog 79 #[.agg #[.slice o_x0_lots x0_lots.length c_x0_lots, v0_x0_holds, v1_x0_holds, v2_x0_holds, v3_x0_holds, v4_x0_holds, v5_x0_holds, v6_x0_holds, v7_x0_holds, v8_x0_holds], .agg #[vI x1_kind, vI x1_lot, vI x1_from, vI x1_to, vI x1_mass]] w fun e w' => ∃ v, e = .returned v ∧ (∃ h', Zone.le h h' ∧ v = .bool r ∧ St h' L w') := by
 refine calls_intro (N := 86) Try.func79 (by kernel_rfl) fun a hf => ?_
 refine w_sr (by kernel_rfl) ?_
 refine p_box (i := 0) (d := (some 2)) (cs := [.slice o_x0_lots x0_lots.length c_x0_lots, v0_x0_holds, v1_x0_holds, v2_x0_holds, v3_x0_holds, v4_x0_holds, v5_x0_holds, v6_x0_holds, v7_x0_holds, v8_x0_holds]) (T := 26) (v := fun b1 => pB b1 0) hS hf (fun b => by kernel_rfl) fun b1 ww1 a1 hS1 hf1 => ⟨fun _ => trivial, ?_⟩
 refine p_box (i := 1) (d := (some 3)) (cs := [vI x1_kind, vI x1_lot, vI x1_from, vI x1_to, vI x1_mass]) (T := 28) (v := fun b2 => pB b2 0) hS1 hf1 (fun b => by kernel_rfl) fun b2 ww2 a2 hS2 hf2 => ⟨fun _ => trivial, ?_⟩
 refine p_qt [] [(2, pB b1 0), (3, pB b2 0)] [] hf2 (by kernel_rfl) .nil fun a3 hf3 => ?_
 refine w_seq (by kernel_rfl) ?_
 refine w_mid (by kernel_rfl) (fun a w => ∃ z1 : Zone, ∃ y7 : Bool, Zone.le h z1 ∧ Fr a 86 [(2, pB b1 0), (3, pB b2 0), (12, .bool y7)] ∧ St z1 (box b2 [vI x1_kind, vI x1_lot, vI x1_from, vI x1_to, vI x1_mass] 28 :: box b1 [.slice o_x0_lots x0_lots.length c_x0_lots, v0_x0_holds, v1_x0_holds, v2_x0_holds, v3_x0_holds, v4_x0_holds, v5_x0_holds, v6_x0_holds, v7_x0_holds, v8_x0_holds] 26 :: L) w ∧ (F79_j1 fuel x0_lots x1_kind x1_lot x1_from x1_to x1_mass y7) = some r) ?_ ?_
 ·skip
  refine w_reg (by kernel_rfl) ?_
  refine p_qn 4 [vI x1_kind] [(2, pB b1 0), (3, pB b2 0), (8, .bool (decide (x1_kind < (1 : Int))))] [.cell ⟨b2, 0, none⟩ (vI x1_kind)] hf3 (by kernel_rfl) (.cell (hS2.box (i := 0) rfl (j := 0) rfl) .nil) fun a4 hf4 => ?_
  rcases Bool.eq_false_or_eq_true (decide (x1_kind < (1 : Int))) with hb1 | hb1
  ·have hr1 := cond_t hb1 hr
   have hf5 := Fr.conv hf4 (congrArg (fun z => ([(2, pB b1 0), (3, pB b2 0), (8, .bool z)] : FL)) hb1)
   refine p_qt [] [(2, pB b1 0), (3, pB b2 0), (12, .bool true)] [] hf5 (by kernel_rfl) .nil fun a5 hf6 => ?_
   have hf7 := Fr.keep (ks := [2, 3, 12]) (r := [(2, pB b1 0), (3, pB b2 0), (12, .bool true)]) hf6 (by kernel_rfl)
   exact ⟨h, true, (Zone.le_refl _), hf7, hS2, hr1⟩
  ·have hr2 := cond_f hb1 hr
   have hf8 := Fr.conv hf4 (congrArg (fun z => ([(2, pB b1 0), (3, pB b2 0), (8, .bool z)] : FL)) hb1)
   refine p_qt [vI x1_kind] [(2, pB b1 0), (3, pB b2 0), (12, .bool (decide (x1_kind > (6 : Int))))] [.cell ⟨b2, 0, none⟩ (vI x1_kind)] hf8 (by kernel_rfl) (.cell (hS2.box (i := 0) rfl (j := 0) rfl) .nil) fun a6 hf9 => ?_
   have hf10 := Fr.keep (ks := [2, 3, 12]) (r := [(2, pB b1 0), (3, pB b2 0), (12, .bool (decide (x1_kind > (6 : Int))))]) hf9 (by kernel_rfl)
   exact ⟨h, (decide (x1_kind > (6 : Int))), (Zone.le_refl _), hf10, hS2, hr2⟩
 ·rintro a7 ww3 ⟨z1, y7, k1, hf11, hS3, hr3⟩
  refine w_if hf11 (b := y7) (by kernel_rfl) (fun hb2 => ?_) (fun hb2 => ?_)
  ·have hr4 := cond_t hb2 hr3
   refine w_sq [] [(4, .bool false)] [] hf11 (by kernel_rfl) .nil fun a8 hf12 => ?_
   refine w_ret (by kernel_rfl) ?_
   refine r_then ?_
   refine p_ret (os := []) (v := .bool false) (obs := []) hf12 (by kernel_rfl) .nil ?_
   obtain rfl := some_eq hr4
   exact ⟨_, rfl, z1, k1, rfl, (St.drop 2 hS3)⟩
  ·have hr5 := cond_f hb2 hr3
   refine w_skip (by kernel_rfl) ?_
   refine n_then ?_
   refine w_seq (by kernel_rfl) ?_
   refine w_sq [vI x1_kind] [(2, pB b1 0), (3, pB b2 0), (15, .bool (x1_kind == (6 : Int)))] [.cell ⟨b2, 0, none⟩ (vI x1_kind)] hf11 (by kernel_rfl) (.cell (hS3.box (i := 0) rfl (j := 0) rfl) .nil) fun a9 hf13 => ?_
   refine w_if hf13 (b := (x1_kind == (6 : Int))) (by kernel_rfl) (fun hb3 => ?_) (fun hb3 => ?_)
   ·have hr6 := cond_t hb3 hr5
    refine w_mid (by kernel_rfl) (fun a w => ∃ z2 : Zone, ∃ y1 : Bool, Zone.le z1 z2 ∧ Fr a 86 [(4, .bool y1)] ∧ St z2 (box b2 [vI x1_kind, vI x1_lot, vI x1_from, vI x1_to, vI x1_mass] 28 :: box b1 [.slice o_x0_lots x0_lots.length c_x0_lots, v0_x0_holds, v1_x0_holds, v2_x0_holds, v3_x0_holds, v4_x0_holds, v5_x0_holds, v6_x0_holds, v7_x0_holds, v8_x0_holds] 26 :: L) w ∧ (F79_j2 y1) = some r) ?_ ?_
    ·skip
     refine w_reg (by kernel_rfl) ?_
     refine p_qn 4 [vI x1_lot] [(3, pB b2 0), (19, .bool (x1_lot == (0 : Int)))] [.cell ⟨b2, 1, none⟩ (vI x1_lot)] hf13 (by kernel_rfl) (.cell (hS3.box (i := 0) rfl (j := 1) rfl) .nil) fun a10 hf14 => ?_
     rcases Bool.eq_false_or_eq_true (x1_lot == (0 : Int)) with hb4 | hb4
     ·have hr7 := cond_t hb4 hr6
      have hf15 := Fr.conv hf14 (congrArg (fun z => ([(3, pB b2 0), (19, .bool z)] : FL)) hb4)
      refine p_qn 5 [vI x1_to] [(3, pB b2 0), (24, .bool (x1_to == (0 : Int)))] [.cell ⟨b2, 3, none⟩ (vI x1_to)] hf15 (by kernel_rfl) (.cell (hS3.box (i := 0) rfl (j := 3) rfl) .nil) fun a11 hf16 => ?_
      rcases Bool.eq_false_or_eq_true (x1_to == (0 : Int)) with hb5 | hb5
      ·have hr8 := cond_t hb5 hr7
       have hf17 := Fr.conv hf16 (congrArg (fun z => ([(3, pB b2 0), (24, .bool z)] : FL)) hb5)
       refine p_qn 5 [vI x1_mass] [(3, pB b2 0), (29, .bool (x1_mass == (0 : Int)))] [.cell ⟨b2, 4, none⟩ (vI x1_mass)] hf17 (by kernel_rfl) (.cell (hS3.box (i := 0) rfl (j := 4) rfl) .nil) fun a12 hf18 => ?_
       rcases Bool.eq_false_or_eq_true (x1_mass == (0 : Int)) with hb6 | hb6
       ·have hr9 := cond_t hb6 hr8
        have hf19 := Fr.conv hf18 (congrArg (fun z => ([(3, pB b2 0), (29, .bool z)] : FL)) hb6)
        refine p_qn 2 [vI x1_from] [(29, .bool true), (31, vI x1_from)] [.cell ⟨b2, 2, none⟩ (vI x1_from)] hf19 (by kernel_rfl) (.cell (hS3.box (i := 0) rfl (j := 2) rfl) .nil) fun a13 hf20 => ?_
        obtain ⟨r2, hd1, hr10⟩ := bind_some hr9
        refine p_call (i := 16) (d := some 32) (f := 118) (args := #[vI x1_from]) hf20 (by kernel_rfl) (f118_ok fuel x1_from r2 hd1 z1 _ _ hS3 ) ?_
        rintro v1 ww4 a14 ⟨z3, k2, rfl, hS4⟩ hf21
        refine ⟨fun _ => trivial, ?_⟩
        refine p_qt [] [(4, .bool r2)] [] hf21 (by kernel_rfl) .nil fun a15 hf22 => ?_
        have hf23 := Fr.keep (ks := [4]) (r := [(4, .bool r2)]) hf22 (by kernel_rfl)
        exact ⟨z3, r2, k2, hf23, hS4, hr10⟩
       ·have hr11 := cond_f hb6 hr8
        have hf24 := Fr.conv hf18 (congrArg (fun z => ([(3, pB b2 0), (29, .bool z)] : FL)) hb6)
        refine p_qt [] [(4, .bool false)] [] hf24 (by kernel_rfl) .nil fun a16 hf25 => ?_
        have hf26 := Fr.keep (ks := [4]) (r := [(4, .bool false)]) hf25 (by kernel_rfl)
        exact ⟨z1, false, (Zone.le_refl _), hf26, hS3, hr11⟩
      ·have hr12 := cond_f hb5 hr7
       have hf27 := Fr.conv hf16 (congrArg (fun z => ([(3, pB b2 0), (24, .bool z)] : FL)) hb5)
       refine p_qt [] [(4, .bool false)] [] hf27 (by kernel_rfl) .nil fun a17 hf28 => ?_
       have hf29 := Fr.keep (ks := [4]) (r := [(4, .bool false)]) hf28 (by kernel_rfl)
       exact ⟨z1, false, (Zone.le_refl _), hf29, hS3, hr12⟩
     ·have hr13 := cond_f hb4 hr6
      have hf30 := Fr.conv hf14 (congrArg (fun z => ([(3, pB b2 0), (19, .bool z)] : FL)) hb4)
      refine p_qt [] [(4, .bool false)] [] hf30 (by kernel_rfl) .nil fun a18 hf31 => ?_
      have hf32 := Fr.keep (ks := [4]) (r := [(4, .bool false)]) hf31 (by kernel_rfl)
      exact ⟨z1, false, (Zone.le_refl _), hf32, hS3, hr13⟩
    ·rintro a19 ww5 ⟨z2, y1, k3, hf33, hS5, hr14⟩
     refine w_ret (by kernel_rfl) ?_
     refine r_then ?_
     refine p_ret (os := []) (v := .bool y1) (obs := []) hf33 (by kernel_rfl) .nil ?_
     obtain rfl := some_eq hr14
     exact ⟨_, rfl, z2, (Zone.le_trans k1 k3), rfl, (St.drop 2 hS5)⟩
   ·have hr15 := cond_f hb3 hr5
    refine w_skip (by kernel_rfl) ?_
    refine n_then ?_
    refine w_seq (by kernel_rfl) ?_
    refine w_mid (by kernel_rfl) (fun a w => ∃ z4 : Zone, ∃ y6 : Bool, Zone.le z1 z4 ∧ Fr a 86 [(2, pB b1 0), (3, pB b2 0), (49, .bool y6)] ∧ St z4 (box b2 [vI x1_kind, vI x1_lot, vI x1_from, vI x1_to, vI x1_mass] 28 :: box b1 [.slice o_x0_lots x0_lots.length c_x0_lots, v0_x0_holds, v1_x0_holds, v2_x0_holds, v3_x0_holds, v4_x0_holds, v5_x0_holds, v6_x0_holds, v7_x0_holds, v8_x0_holds] 26 :: L) w ∧ (F79_j3 fuel x0_lots x1_kind x1_lot x1_from x1_to y6) = some r) ?_ ?_
    ·skip
     refine w_reg (by kernel_rfl) ?_
     refine p_qn 2 [vI x1_mass] [(2, pB b1 0), (3, pB b2 0), (35, vI x1_mass)] [.cell ⟨b2, 4, none⟩ (vI x1_mass)] hf13 (by kernel_rfl) (.cell (hS3.box (i := 0) rfl (j := 4) rfl) .nil) fun a20 hf34 => ?_
     obtain ⟨r3, hd2, hr16⟩ := bind_some hr15
     refine p_call (i := 2) (d := some 36) (f := 72) (args := #[vI x1_mass, vI 1, vI 100000000]) hf34 (by kernel_rfl) (f72_ok fuel x1_mass 1 100000000 r3 hd2 z1 _ _ hS3 ) ?_
     rintro v2 ww6 a21 ⟨z5, k4, rfl, hS6⟩ hf35
     refine ⟨fun _ => trivial, ?_⟩
     refine p_qn 2 [] [(2, pB b1 0), (3, pB b2 0), (38, .bool (!r3))] [] hf35 (by kernel_rfl) .nil fun a22 hf36 => ?_
     rcases Bool.eq_false_or_eq_true (!r3) with hb7 | hb7
     ·have hr17 := cond_t hb7 hr16
      have hf37 := Fr.conv hf36 (congrArg (fun z => ([(2, pB b1 0), (3, pB b2 0), (38, .bool z)] : FL)) hb7)
      refine p_qt [] [(2, pB b1 0), (3, pB b2 0), (49, .bool true)] [] hf37 (by kernel_rfl) .nil fun a23 hf38 => ?_
      have hf39 := Fr.keep (ks := [2, 3, 49]) (r := [(2, pB b1 0), (3, pB b2 0), (49, .bool true)]) hf38 (by kernel_rfl)
      exact ⟨z5, true, k4, hf39, hS6, hr17⟩
     ·have hr18 := cond_f hb7 hr16
      have hf40 := Fr.conv hf36 (congrArg (fun z => ([(2, pB b1 0), (3, pB b2 0), (38, .bool z)] : FL)) hb7)
      refine p_qn 2 [vI x1_from] [(2, pB b1 0), (3, pB b2 0), (38, .bool false), (40, vI x1_from)] [.cell ⟨b2, 2, none⟩ (vI x1_from)] hf40 (by kernel_rfl) (.cell (hS6.box (i := 0) rfl (j := 2) rfl) .nil) fun a24 hf41 => ?_
      obtain ⟨r4, hd3, hr19⟩ := bind_some hr18
      refine p_call (i := 7) (d := some 41) (f := 118) (args := #[vI x1_from]) hf41 (by kernel_rfl) (f118_ok fuel x1_from r4 hd3 z5 _ _ hS6 ) ?_
      rintro v3 ww7 a25 ⟨z6, k5, rfl, hS7⟩ hf42
      refine ⟨fun _ => trivial, ?_⟩
      refine p_qn 3 [] [(2, pB b1 0), (3, pB b2 0), (44, .bool (!r4))] [] hf42 (by kernel_rfl) .nil fun a26 hf43 => ?_
      rcases Bool.eq_false_or_eq_true (!r4) with hb8 | hb8
      ·have hr20 := cond_t hb8 hr19
       have hf44 := Fr.conv hf43 (congrArg (fun z => ([(2, pB b1 0), (3, pB b2 0), (44, .bool z)] : FL)) hb8)
       refine p_qt [] [(2, pB b1 0), (3, pB b2 0), (49, .bool true)] [] hf44 (by kernel_rfl) .nil fun a27 hf45 => ?_
       have hf46 := Fr.keep (ks := [2, 3, 49]) (r := [(2, pB b1 0), (3, pB b2 0), (49, .bool true)]) hf45 (by kernel_rfl)
       exact ⟨z6, true, (Zone.le_trans k4 k5), hf46, hS7, hr20⟩
      ·have hr21 := cond_f hb8 hr19
       have hf47 := Fr.conv hf43 (congrArg (fun z => ([(2, pB b1 0), (3, pB b2 0), (44, .bool z)] : FL)) hb8)
       refine p_qn 2 [vI x1_to] [(2, pB b1 0), (3, pB b2 0), (44, .bool false), (46, vI x1_to)] [.cell ⟨b2, 3, none⟩ (vI x1_to)] hf47 (by kernel_rfl) (.cell (hS7.box (i := 0) rfl (j := 3) rfl) .nil) fun a28 hf48 => ?_
       obtain ⟨r5, hd4, hr22⟩ := bind_some hr21
       refine p_call (i := 13) (d := some 47) (f := 118) (args := #[vI x1_to]) hf48 (by kernel_rfl) (f118_ok fuel x1_to r5 hd4 z6 _ _ hS7 ) ?_
       rintro v4 ww8 a29 ⟨z7, k6, rfl, hS8⟩ hf49
       refine ⟨fun _ => trivial, ?_⟩
       refine p_qt [] [(2, pB b1 0), (3, pB b2 0), (49, .bool (!r5))] [] hf49 (by kernel_rfl) .nil fun a30 hf50 => ?_
       have hf51 := Fr.keep (ks := [2, 3, 49]) (r := [(2, pB b1 0), (3, pB b2 0), (49, .bool (!r5))]) hf50 (by kernel_rfl)
       exact ⟨z7, (!r5), (Zone.le_trans (Zone.le_trans k4 k5) k6), hf51, hS8, hr22⟩
    ·rintro a31 ww9 ⟨z4, y6, k7, hf52, hS9, hr23⟩
     refine w_if hf52 (b := y6) (by kernel_rfl) (fun hb9 => ?_) (fun hb9 => ?_)
     ·have hr24 := cond_t hb9 hr23
      refine w_sq [] [(4, .bool false)] [] hf52 (by kernel_rfl) .nil fun a32 hf53 => ?_
      refine w_ret (by kernel_rfl) ?_
      refine r_then ?_
      refine p_ret (os := []) (v := .bool false) (obs := []) hf53 (by kernel_rfl) .nil ?_
      obtain rfl := some_eq hr24
      exact ⟨_, rfl, z4, (Zone.le_trans k1 k7), rfl, (St.drop 2 hS9)⟩
     ·have hr25 := cond_f hb9 hr23
      refine w_skip (by kernel_rfl) ?_
      refine n_then ?_
      refine w_seq (by kernel_rfl) ?_
      refine w_sq [vI x1_kind] [(2, pB b1 0), (3, pB b2 0), (51, vI x1_kind)] [.cell ⟨b2, 0, none⟩ (vI x1_kind)] hf52 (by kernel_rfl) (.cell (hS9.box (i := 0) rfl (j := 0) rfl) .nil) fun a33 hf54 => ?_
      refine w_block (id := 0) (by kernel_rfl) ?_
      refine w_mid (by kernel_rfl) (fun a w => ∃ z8 : Zone, ∃ y5 : Bool, Zone.le z4 z8 ∧ Fr a 86 [(2, pB b1 0), (3, pB b2 0), (51, vI x1_kind), (52, .bool y5)] ∧ St z8 (box b2 [vI x1_kind, vI x1_lot, vI x1_from, vI x1_to, vI x1_mass] 28 :: box b1 [.slice o_x0_lots x0_lots.length c_x0_lots, v0_x0_holds, v1_x0_holds, v2_x0_holds, v3_x0_holds, v4_x0_holds, v5_x0_holds, v6_x0_holds, v7_x0_holds, v8_x0_holds] 26 :: L) w ∧ (F79_j4 fuel x0_lots x1_kind x1_lot x1_from x1_to y5) = some r) ?_ ?_
      ·skip
       refine w_sq [] [(2, pB b1 0), (3, pB b2 0), (51, vI x1_kind), (52, .bool (x1_kind == (1 : Int)))] [] hf54 (by kernel_rfl) .nil fun a34 hf55 => ?_
       refine w_if hf55 (b := (x1_kind == (1 : Int))) (by kernel_rfl) (fun hb10 => ?_) (fun hb10 => ?_)
       ·have hr26 := cond_t hb10 hr25
        refine w_skip (by kernel_rfl) ?_
        refine n_then ?_
        have hf56 := Fr.keep (ks := [2, 3, 51, 52]) (r := [(2, pB b1 0), (3, pB b2 0), (51, vI x1_kind), (52, .bool (x1_kind == (1 : Int)))]) hf55 (by kernel_rfl)
        exact ⟨z4, (x1_kind == (1 : Int)), (Zone.le_refl _), hf56, hS9, hr26⟩
       ·have hr27 := cond_f hb10 hr25
        refine w_q [] [(2, pB b1 0), (3, pB b2 0), (51, vI x1_kind), (52, .bool (x1_kind == (2 : Int)))] [] hf55 (by kernel_rfl) .nil fun a35 hf57 => ?_
        refine n_then ?_
        have hf58 := Fr.keep (ks := [2, 3, 51, 52]) (r := [(2, pB b1 0), (3, pB b2 0), (51, vI x1_kind), (52, .bool (x1_kind == (2 : Int)))]) hf57 (by kernel_rfl)
        exact ⟨z4, (x1_kind == (2 : Int)), (Zone.le_refl _), hf58, hS9, hr27⟩
      ·rintro a36 ww10 ⟨z8, y5, k8, hf59, hS10, hr28⟩
       refine w_if hf59 (b := y5) (by kernel_rfl) (fun hb11 => ?_) (fun hb11 => ?_)
       ·have hr29 := cond_t hb11 hr28
        refine w_mid (by kernel_rfl) (fun a w => ∃ z9 : Zone, ∃ y2 : Bool, Zone.le z8 z9 ∧ Fr a 86 [(4, .bool y2)] ∧ St z9 (box b2 [vI x1_kind, vI x1_lot, vI x1_from, vI x1_to, vI x1_mass] 28 :: box b1 [.slice o_x0_lots x0_lots.length c_x0_lots, v0_x0_holds, v1_x0_holds, v2_x0_holds, v3_x0_holds, v4_x0_holds, v5_x0_holds, v6_x0_holds, v7_x0_holds, v8_x0_holds] 26 :: L) w ∧ (F79_j5 y2) = some r) ?_ ?_
        ·skip
         refine w_reg (by kernel_rfl) ?_
         refine p_qn 4 [vI x1_from] [(2, pB b1 0), (3, pB b2 0), (58, .bool (x1_from == (0 : Int)))] [.cell ⟨b2, 2, none⟩ (vI x1_from)] hf59 (by kernel_rfl) (.cell (hS10.box (i := 0) rfl (j := 2) rfl) .nil) fun a37 hf60 => ?_
         rcases Bool.eq_false_or_eq_true (x1_from == (0 : Int)) with hb12 | hb12
         ·have hr30 := cond_t hb12 hr29
          have hf61 := Fr.conv hf60 (congrArg (fun z => ([(2, pB b1 0), (3, pB b2 0), (58, .bool z)] : FL)) hb12)
          refine p_qn 4 [.slice o_x0_lots x0_lots.length c_x0_lots, vI x1_lot] [(58, .bool true), (60, .slice o_x0_lots x0_lots.length c_x0_lots), (62, vI x1_lot)] [.cell ⟨b1, 0, none⟩ (.slice o_x0_lots x0_lots.length c_x0_lots), .cell ⟨b2, 1, none⟩ (vI x1_lot)] hf61 (by kernel_rfl) (.cell (hS10.box (i := 1) rfl (j := 0) rfl) (.cell (hS10.box (i := 0) rfl (j := 1) rfl) .nil)) fun a38 hf62 => ?_
          obtain ⟨r1, hd5, hr31⟩ := bind_some hr30
          refine p_call (i := 8) (d := some 63) (f := 56) (args := #[.slice o_x0_lots x0_lots.length c_x0_lots, vI x1_lot]) hf62 (by kernel_rfl) (f56_ok fuel x0_lots x1_lot r1 hd5 z8 _ _ hS10 o_x0_lots c_x0_lots (SliceR.mono (Zone.le_trans (Zone.le_trans k1 k7) k8) hx_x0_lots)) ?_
          rintro v5 ww11 a39 ⟨z10, k9, rfl, hS11⟩ hf63
          refine ⟨fun _ => trivial, ?_⟩
          refine p_qt [] [(4, .bool (decide (r1 ≥ (0 : Int))))] [] hf63 (by kernel_rfl) .nil fun a40 hf64 => ?_
          have hf65 := Fr.keep (ks := [4]) (r := [(4, .bool (decide (r1 ≥ (0 : Int))))]) hf64 (by kernel_rfl)
          exact ⟨z10, (decide (r1 ≥ (0 : Int))), k9, hf65, hS11, hr31⟩
         ·have hr32 := cond_f hb12 hr29
          have hf66 := Fr.conv hf60 (congrArg (fun z => ([(2, pB b1 0), (3, pB b2 0), (58, .bool z)] : FL)) hb12)
          refine p_qt [] [(4, .bool false)] [] hf66 (by kernel_rfl) .nil fun a41 hf67 => ?_
          have hf68 := Fr.keep (ks := [4]) (r := [(4, .bool false)]) hf67 (by kernel_rfl)
          exact ⟨z8, false, (Zone.le_refl _), hf68, hS10, hr32⟩
        ·rintro a42 ww12 ⟨z9, y2, k10, hf69, hS12, hr33⟩
         refine w_ret (by kernel_rfl) ?_
         refine r_block ?_
         refine r_then ?_
         refine p_ret (os := []) (v := .bool y2) (obs := []) hf69 (by kernel_rfl) .nil ?_
         obtain rfl := some_eq hr33
         exact ⟨_, rfl, z9, (Zone.le_trans (Zone.le_trans (Zone.le_trans k1 k7) k8) k10), rfl, (St.drop 2 hS12)⟩
       ·have hr34 := cond_f hb11 hr28
        refine w_sq [] [(3, pB b2 0), (66, .bool (x1_kind == (4 : Int)))] [] hf59 (by kernel_rfl) .nil fun a43 hf70 => ?_
        refine w_if hf70 (b := (x1_kind == (4 : Int))) (by kernel_rfl) (fun hb13 => ?_) (fun hb13 => ?_)
        ·have hr35 := cond_t hb13 hr34
         refine w_mid (by kernel_rfl) (fun a w => ∃ z11 : Zone, ∃ y3 : Bool, Zone.le z8 z11 ∧ Fr a 86 [(4, .bool y3)] ∧ St z11 (box b2 [vI x1_kind, vI x1_lot, vI x1_from, vI x1_to, vI x1_mass] 28 :: box b1 [.slice o_x0_lots x0_lots.length c_x0_lots, v0_x0_holds, v1_x0_holds, v2_x0_holds, v3_x0_holds, v4_x0_holds, v5_x0_holds, v6_x0_holds, v7_x0_holds, v8_x0_holds] 26 :: L) w ∧ (F79_j6 y3) = some r) ?_ ?_
         ·skip
          refine w_reg (by kernel_rfl) ?_
          refine p_qn 4 [vI x1_lot] [(3, pB b2 0), (71, .bool (x1_lot == (0 : Int)))] [.cell ⟨b2, 1, none⟩ (vI x1_lot)] hf70 (by kernel_rfl) (.cell (hS10.box (i := 0) rfl (j := 1) rfl) .nil) fun a44 hf71 => ?_
          rcases Bool.eq_false_or_eq_true (x1_lot == (0 : Int)) with hb14 | hb14
          ·have hr36 := cond_t hb14 hr35
           have hf72 := Fr.conv hf71 (congrArg (fun z => ([(3, pB b2 0), (71, .bool z)] : FL)) hb14)
           refine p_qt [vI x1_from, vI x1_to] [(4, .bool (x1_from != x1_to))] [.cell ⟨b2, 2, none⟩ (vI x1_from), .cell ⟨b2, 3, none⟩ (vI x1_to)] hf72 (by kernel_rfl) (.cell (hS10.box (i := 0) rfl (j := 2) rfl) (.cell (hS10.box (i := 0) rfl (j := 3) rfl) .nil)) fun a45 hf73 => ?_
           have hf74 := Fr.keep (ks := [4]) (r := [(4, .bool (x1_from != x1_to))]) hf73 (by kernel_rfl)
           exact ⟨z8, (x1_from != x1_to), (Zone.le_refl _), hf74, hS10, hr36⟩
          ·have hr37 := cond_f hb14 hr35
           have hf75 := Fr.conv hf71 (congrArg (fun z => ([(3, pB b2 0), (71, .bool z)] : FL)) hb14)
           refine p_qt [] [(4, .bool false)] [] hf75 (by kernel_rfl) .nil fun a46 hf76 => ?_
           have hf77 := Fr.keep (ks := [4]) (r := [(4, .bool false)]) hf76 (by kernel_rfl)
           exact ⟨z8, false, (Zone.le_refl _), hf77, hS10, hr37⟩
         ·rintro a47 ww13 ⟨z11, y3, k11, hf78, hS13, hr38⟩
          refine w_ret (by kernel_rfl) ?_
          refine r_block ?_
          refine r_then ?_
          refine p_ret (os := []) (v := .bool y3) (obs := []) hf78 (by kernel_rfl) .nil ?_
          obtain rfl := some_eq hr38
          exact ⟨_, rfl, z11, (Zone.le_trans (Zone.le_trans (Zone.le_trans k1 k7) k8) k11), rfl, (St.drop 2 hS13)⟩
        ·have hr39 := cond_f hb13 hr34
         refine w_skip (by kernel_rfl) ?_
         refine n_block ?_
         refine n_then ?_
         refine w_mid (by kernel_rfl) (fun a w => ∃ z12 : Zone, ∃ y4 : Bool, Zone.le z8 z12 ∧ Fr a 86 [(4, .bool y4)] ∧ St z12 (box b2 [vI x1_kind, vI x1_lot, vI x1_from, vI x1_to, vI x1_mass] 28 :: box b1 [.slice o_x0_lots x0_lots.length c_x0_lots, v0_x0_holds, v1_x0_holds, v2_x0_holds, v3_x0_holds, v4_x0_holds, v5_x0_holds, v6_x0_holds, v7_x0_holds, v8_x0_holds] 26 :: L) w ∧ (F79_j7 y4) = some r) ?_ ?_
         ·skip
          refine w_reg (by kernel_rfl) ?_
          refine p_qn 4 [vI x1_lot] [(3, pB b2 0), (81, .bool (x1_lot == (0 : Int)))] [.cell ⟨b2, 1, none⟩ (vI x1_lot)] hf70 (by kernel_rfl) (.cell (hS10.box (i := 0) rfl (j := 1) rfl) .nil) fun a48 hf79 => ?_
          rcases Bool.eq_false_or_eq_true (x1_lot == (0 : Int)) with hb15 | hb15
          ·have hr40 := cond_t hb15 hr39
           have hf80 := Fr.conv hf79 (congrArg (fun z => ([(3, pB b2 0), (81, .bool z)] : FL)) hb15)
           refine p_qt [vI x1_to] [(4, .bool (x1_to == (0 : Int)))] [.cell ⟨b2, 3, none⟩ (vI x1_to)] hf80 (by kernel_rfl) (.cell (hS10.box (i := 0) rfl (j := 3) rfl) .nil) fun a49 hf81 => ?_
           have hf82 := Fr.keep (ks := [4]) (r := [(4, .bool (x1_to == (0 : Int)))]) hf81 (by kernel_rfl)
           exact ⟨z8, (x1_to == (0 : Int)), (Zone.le_refl _), hf82, hS10, hr40⟩
          ·have hr41 := cond_f hb15 hr39
           have hf83 := Fr.conv hf79 (congrArg (fun z => ([(3, pB b2 0), (81, .bool z)] : FL)) hb15)
           refine p_qt [] [(4, .bool false)] [] hf83 (by kernel_rfl) .nil fun a50 hf84 => ?_
           have hf85 := Fr.keep (ks := [4]) (r := [(4, .bool false)]) hf84 (by kernel_rfl)
           exact ⟨z8, false, (Zone.le_refl _), hf85, hS10, hr41⟩
         ·rintro a51 ww14 ⟨z12, y4, k12, hf86, hS14, hr42⟩
          refine w_ret (by kernel_rfl) ?_
          refine p_ret (os := []) (v := .bool y4) (obs := []) hf86 (by kernel_rfl) .nil ?_
          obtain rfl := some_eq hr42
          exact ⟨_, rfl, z12, (Zone.le_trans (Zone.le_trans (Zone.le_trans k1 k7) k8) k12), rfl, (St.drop 2 hS14)⟩
def F24_j5 (y1 : Bool) : Option (Int) :=
  (cond y1 (some (2)) (some (0)))
def F24_j4 (fuel : Nat) (x0_holds : List (List (List Part))) (x1_kind : Int) (x1_to : Int) (x1_mass : Int) (y2 : Bool) : Option (Int) :=
  (cond (x1_kind == (2 : Int)) ((getI x0_holds x1_to).bind fun p1 => (cond ((p1.length : Int) == (4 : Int)) (F24_j5 true) (cond y2 ((getI x0_holds x1_to).bind fun p2 => ((F77 fuel p2).bind fun r1 => (F24_j5 (decide ((w64 (r1 + x1_mass)) > (100000000 : Int)))))) (F24_j5 false)))) (cond y2 ((getI x0_holds x1_to).bind fun p3 => ((F77 fuel p3).bind fun r2 => (F24_j5 (decide ((w64 (r2 + x1_mass)) > (100000000 : Int)))))) (F24_j5 false)))
def F24_j3 (fuel : Nat) (x0_holds : List (List (List Part))) (x1_kind : Int) (x1_to : Int) (x1_mass : Int) (y3 : Bool) : Option (Int) :=
  (cond y3 (some (3)) (cond (x1_kind == (1 : Int)) (F24_j4 fuel x0_holds x1_kind x1_to x1_mass true) (cond (x1_kind == (2 : Int)) (F24_j4 fuel x0_holds x1_kind x1_to x1_mass true) (F24_j4 fuel x0_holds x1_kind x1_to x1_mass (x1_kind == (4 : Int))))))
def F24_j2 (fuel : Nat) (x0_holds : List (List (List Part))) (x1_kind : Int) (x1_from : Int) (x1_to : Int) (x1_mass : Int) (y4 : Bool) : Option (Int) :=
  (cond y4 (some (63)) (cond (x1_kind == (6 : Int)) ((getI x0_holds x1_from).bind fun p4 => (F24_j3 fuel x0_holds x1_kind x1_to x1_mass (decide ((p4.length : Int) < (2 : Int))))) (F24_j3 fuel x0_holds x1_kind x1_to x1_mass false)))
def F24_j1 (fuel : Nat) (x0_holds : List (List (List Part))) (x1_kind : Int) (x1_from : Int) (x1_to : Int) (x1_mass : Int) (y5 : Bool) : Option (Int) :=
  (cond y5 ((getI x0_holds x1_from).bind fun p5 => ((F77 fuel p5).bind fun r3 => (F24_j2 fuel x0_holds x1_kind x1_from x1_to x1_mass (decide (x1_mass > r3))))) (F24_j2 fuel x0_holds x1_kind x1_from x1_to x1_mass false))
def F24 (fuel : Nat) (x0_lots : List Lot) (x0_holds : List (List (List Part))) (x1_kind : Int) (x1_lot : Int) (x1_from : Int) (x1_to : Int) (x1_mass : Int) : Option (Int) :=
  ((F22 fuel x0_lots x0_holds).bind fun r4 => (cond (r4 != (0 : Int)) (some (62)) ((F79 fuel x0_lots x0_holds x1_kind x1_lot x1_from x1_to x1_mass).bind fun r5 => (cond (!r5) (some (61)) (cond (x1_kind == (3 : Int)) (F24_j1 fuel x0_holds x1_kind x1_from x1_to x1_mass true) (cond (x1_kind == (4 : Int)) (F24_j1 fuel x0_holds x1_kind x1_from x1_to x1_mass true) (F24_j1 fuel x0_holds x1_kind x1_from x1_to x1_mass (x1_kind == (5 : Int)))))))))
set_option maxRecDepth 100000 in
theorem f24_ok (fuel : Nat) (x0_lots : List Lot) (x0_holds : List (List (List Part))) (x1_kind : Int) (x1_lot : Int) (x1_from : Int) (x1_to : Int) (x1_mass : Int) (r : Int) (hr : F24 fuel x0_lots x0_holds x1_kind x1_lot x1_from x1_to x1_mass = some r) (h : Zone) (L : List Atom) (w : World) (hS : St h L w) (o_x0_lots : Option Addr) (c_x0_lots : Nat) (hx_x0_lots : SliceR LotT h o_x0_lots c_x0_lots x0_lots) (v0_x0_holds v1_x0_holds v2_x0_holds v3_x0_holds v4_x0_holds v5_x0_holds v6_x0_holds v7_x0_holds v8_x0_holds : Value) (hx_x0_holds : (Ty.arr 9 (Ty.slice (Ty.slice PartT))).rep h [v0_x0_holds, v1_x0_holds, v2_x0_holds, v3_x0_holds, v4_x0_holds, v5_x0_holds, v6_x0_holds, v7_x0_holds, v8_x0_holds] x0_holds) :
    Calls Try.prog 24 #[.agg #[.slice o_x0_lots x0_lots.length c_x0_lots, v0_x0_holds, v1_x0_holds, v2_x0_holds, v3_x0_holds, v4_x0_holds, v5_x0_holds, v6_x0_holds, v7_x0_holds, v8_x0_holds], .agg #[vI x1_kind, vI x1_lot, vI x1_from, vI x1_to, vI x1_mass]] w fun e w' => ∃ v, e = .returned v ∧ (∃ h', Zone.le h h' ∧ v = vI r ∧ St h' L w') := by
 refine calls_intro (N := 91) Try.func24 (by kernel_rfl) fun a hf => ?_
 refine w_sr (by kernel_rfl) ?_
 refine p_box (i := 0) (d := (some 2)) (cs := [.slice o_x0_lots x0_lots.length c_x0_lots, v0_x0_holds, v1_x0_holds, v2_x0_holds, v3_x0_holds, v4_x0_holds, v5_x0_holds, v6_x0_holds, v7_x0_holds, v8_x0_holds]) (T := 26) (v := fun b1 => pB b1 0) hS hf (fun b => by kernel_rfl) fun b1 ww1 a1 hS1 hf1 => ⟨fun _ => trivial, ?_⟩
 refine p_box (i := 1) (d := (some 3)) (cs := [vI x1_kind, vI x1_lot, vI x1_from, vI x1_to, vI x1_mass]) (T := 28) (v := fun b2 => pB b2 0) hS1 hf1 (fun b => by kernel_rfl) fun b2 ww2 a2 hS2 hf2 => ⟨fun _ => trivial, ?_⟩
 refine p_qt [] [(2, pB b1 0), (3, pB b2 0)] [] hf2 (by kernel_rfl) .nil fun a3 hf3 => ?_
 refine w_seq (by kernel_rfl) ?_
 refine w_sr (by kernel_rfl) ?_
 refine p_qn 1 [.slice o_x0_lots x0_lots.length c_x0_lots, v0_x0_holds, v1_x0_holds, v2_x0_holds, v3_x0_holds, v4_x0_holds, v5_x0_holds, v6_x0_holds, v7_x0_holds, v8_x0_holds] [(2, pB b1 0), (3, pB b2 0), (7, .agg #[.slice o_x0_lots x0_lots.length c_x0_lots, v0_x0_holds, v1_x0_holds, v2_x0_holds, v3_x0_holds, v4_x0_holds, v5_x0_holds, v6_x0_holds, v7_x0_holds, v8_x0_holds])] [.cell ⟨b1, 0, none⟩ (.slice o_x0_lots x0_lots.length c_x0_lots), .cell ⟨b1, 1, none⟩ (v0_x0_holds), .cell ⟨b1, 2, none⟩ (v1_x0_holds), .cell ⟨b1, 3, none⟩ (v2_x0_holds), .cell ⟨b1, 4, none⟩ (v3_x0_holds), .cell ⟨b1, 5, none⟩ (v4_x0_holds), .cell ⟨b1, 6, none⟩ (v5_x0_holds), .cell ⟨b1, 7, none⟩ (v6_x0_holds), .cell ⟨b1, 8, none⟩ (v7_x0_holds), .cell ⟨b1, 9, none⟩ (v8_x0_holds)] hf3 (by kernel_rfl) (.cell (hS2.box (i := 1) rfl (j := 0) rfl) (.cell (hS2.box (i := 1) rfl (j := 1) rfl) (.cell (hS2.box (i := 1) rfl (j := 2) rfl) (.cell (hS2.box (i := 1) rfl (j := 3) rfl) (.cell (hS2.box (i := 1) rfl (j := 4) rfl) (.cell (hS2.box (i := 1) rfl (j := 5) rfl) (.cell (hS2.box (i := 1) rfl (j := 6) rfl) (.cell (hS2.box (i := 1) rfl (j := 7) rfl) (.cell (hS2.box (i := 1) rfl (j := 8) rfl) (.cell (hS2.box (i := 1) rfl (j := 9) rfl) .nil)))))))))) fun a4 hf4 => ?_
 obtain ⟨r4, hd1, hr1⟩ := bind_some hr
 refine p_call (i := 1) (d := some 8) (f := 22) (args := #[.agg #[.slice o_x0_lots x0_lots.length c_x0_lots, v0_x0_holds, v1_x0_holds, v2_x0_holds, v3_x0_holds, v4_x0_holds, v5_x0_holds, v6_x0_holds, v7_x0_holds, v8_x0_holds]]) hf4 (by kernel_rfl) (f22_ok fuel x0_lots x0_holds r4 hd1 h _ _ hS2 o_x0_lots c_x0_lots hx_x0_lots v0_x0_holds v1_x0_holds v2_x0_holds v3_x0_holds v4_x0_holds v5_x0_holds v6_x0_holds v7_x0_holds v8_x0_holds (Ty.mono _ (Zone.le_refl _) hx_x0_holds)) ?_
 rintro v1 ww3 a5 ⟨z1, k1, rfl, hS3⟩ hf5
 refine ⟨fun _ => trivial, ?_⟩
 refine p_qt [] [(2, pB b1 0), (3, pB b2 0), (9, .bool (r4 != (0 : Int)))] [] hf5 (by kernel_rfl) .nil fun a6 hf6 => ?_
 refine w_if hf6 (b := (r4 != (0 : Int))) (by kernel_rfl) (fun hb1 => ?_) (fun hb1 => ?_)
 ·have hr2 := cond_t hb1 hr1
  refine w_sq [] [(4, vI 62)] [] hf6 (by kernel_rfl) .nil fun a7 hf7 => ?_
  refine w_ret (by kernel_rfl) ?_
  refine r_then ?_
  refine p_ret (os := []) (v := vI 62) (obs := []) hf7 (by kernel_rfl) .nil ?_
  obtain rfl := some_eq hr2
  exact ⟨_, rfl, z1, k1, rfl, (St.drop 2 hS3)⟩
 ·have hr3 := cond_f hb1 hr1
  refine w_skip (by kernel_rfl) ?_
  refine n_then ?_
  refine w_seq (by kernel_rfl) ?_
  refine w_sr (by kernel_rfl) ?_
  refine p_qn 2 [.slice o_x0_lots x0_lots.length c_x0_lots, v0_x0_holds, v1_x0_holds, v2_x0_holds, v3_x0_holds, v4_x0_holds, v5_x0_holds, v6_x0_holds, v7_x0_holds, v8_x0_holds, vI x1_kind, vI x1_lot, vI x1_from, vI x1_to, vI x1_mass] [(2, pB b1 0), (3, pB b2 0), (10, .agg #[.slice o_x0_lots x0_lots.length c_x0_lots, v0_x0_holds, v1_x0_holds, v2_x0_holds, v3_x0_holds, v4_x0_holds, v5_x0_holds, v6_x0_holds, v7_x0_holds, v8_x0_holds]), (11, .agg #[vI x1_kind, vI x1_lot, vI x1_from, vI x1_to, vI x1_mass])] [.cell ⟨b1, 0, none⟩ (.slice o_x0_lots x0_lots.length c_x0_lots), .cell ⟨b1, 1, none⟩ (v0_x0_holds), .cell ⟨b1, 2, none⟩ (v1_x0_holds), .cell ⟨b1, 3, none⟩ (v2_x0_holds), .cell ⟨b1, 4, none⟩ (v3_x0_holds), .cell ⟨b1, 5, none⟩ (v4_x0_holds), .cell ⟨b1, 6, none⟩ (v5_x0_holds), .cell ⟨b1, 7, none⟩ (v6_x0_holds), .cell ⟨b1, 8, none⟩ (v7_x0_holds), .cell ⟨b1, 9, none⟩ (v8_x0_holds), .cell ⟨b2, 0, none⟩ (vI x1_kind), .cell ⟨b2, 1, none⟩ (vI x1_lot), .cell ⟨b2, 2, none⟩ (vI x1_from), .cell ⟨b2, 3, none⟩ (vI x1_to), .cell ⟨b2, 4, none⟩ (vI x1_mass)] hf6 (by kernel_rfl) (.cell (hS3.box (i := 1) rfl (j := 0) rfl) (.cell (hS3.box (i := 1) rfl (j := 1) rfl) (.cell (hS3.box (i := 1) rfl (j := 2) rfl) (.cell (hS3.box (i := 1) rfl (j := 3) rfl) (.cell (hS3.box (i := 1) rfl (j := 4) rfl) (.cell (hS3.box (i := 1) rfl (j := 5) rfl) (.cell (hS3.box (i := 1) rfl (j := 6) rfl) (.cell (hS3.box (i := 1) rfl (j := 7) rfl) (.cell (hS3.box (i := 1) rfl (j := 8) rfl) (.cell (hS3.box (i := 1) rfl (j := 9) rfl) (.cell (hS3.box (i := 0) rfl (j := 0) rfl) (.cell (hS3.box (i := 0) rfl (j := 1) rfl) (.cell (hS3.box (i := 0) rfl (j := 2) rfl) (.cell (hS3.box (i := 0) rfl (j := 3) rfl) (.cell (hS3.box (i := 0) rfl (j := 4) rfl) .nil))))))))))))))) fun a8 hf8 => ?_
  obtain ⟨r5, hd2, hr4⟩ := bind_some hr3
  refine p_call (i := 2) (d := some 12) (f := 79) (args := #[.agg #[.slice o_x0_lots x0_lots.length c_x0_lots, v0_x0_holds, v1_x0_holds, v2_x0_holds, v3_x0_holds, v4_x0_holds, v5_x0_holds, v6_x0_holds, v7_x0_holds, v8_x0_holds], .agg #[vI x1_kind, vI x1_lot, vI x1_from, vI x1_to, vI x1_mass]]) hf8 (by kernel_rfl) (f79_ok fuel x0_lots x0_holds x1_kind x1_lot x1_from x1_to x1_mass r5 hd2 z1 _ _ hS3 o_x0_lots c_x0_lots (SliceR.mono k1 hx_x0_lots) v0_x0_holds v1_x0_holds v2_x0_holds v3_x0_holds v4_x0_holds v5_x0_holds v6_x0_holds v7_x0_holds v8_x0_holds (Ty.mono _ k1 hx_x0_holds)) ?_
  rintro v2 ww4 a9 ⟨z2, k2, rfl, hS4⟩ hf9
  refine ⟨fun _ => trivial, ?_⟩
  refine p_qt [] [(2, pB b1 0), (3, pB b2 0), (13, .bool (!r5))] [] hf9 (by kernel_rfl) .nil fun a10 hf10 => ?_
  refine w_if hf10 (b := (!r5)) (by kernel_rfl) (fun hb2 => ?_) (fun hb2 => ?_)
  ·have hr5 := cond_t hb2 hr4
   refine w_sq [] [(4, vI 61)] [] hf10 (by kernel_rfl) .nil fun a11 hf11 => ?_
   refine w_ret (by kernel_rfl) ?_
   refine r_then ?_
   refine p_ret (os := []) (v := vI 61) (obs := []) hf11 (by kernel_rfl) .nil ?_
   obtain rfl := some_eq hr5
   exact ⟨_, rfl, z2, (Zone.le_trans k1 k2), rfl, (St.drop 2 hS4)⟩
  ·have hr6 := cond_f hb2 hr4
   refine w_skip (by kernel_rfl) ?_
   refine n_then ?_
   refine w_mid (by kernel_rfl) (fun a w => ∃ z3 : Zone, ∃ y5 : Bool, Zone.le z2 z3 ∧ Fr a 91 [(2, pB b1 0), (3, pB b2 0), (5, .bool y5)] ∧ St z3 (box b2 [vI x1_kind, vI x1_lot, vI x1_from, vI x1_to, vI x1_mass] 28 :: box b1 [.slice o_x0_lots x0_lots.length c_x0_lots, v0_x0_holds, v1_x0_holds, v2_x0_holds, v3_x0_holds, v4_x0_holds, v5_x0_holds, v6_x0_holds, v7_x0_holds, v8_x0_holds] 26 :: L) w ∧ (F24_j1 fuel x0_holds x1_kind x1_from x1_to x1_mass y5) = some r) ?_ ?_
   ·skip
    refine w_reg (by kernel_rfl) ?_
    refine p_qn 4 [vI x1_kind] [(2, pB b1 0), (3, pB b2 0), (17, .bool (x1_kind == (3 : Int)))] [.cell ⟨b2, 0, none⟩ (vI x1_kind)] hf10 (by kernel_rfl) (.cell (hS4.box (i := 0) rfl (j := 0) rfl) .nil) fun a12 hf12 => ?_
    rcases Bool.eq_false_or_eq_true (x1_kind == (3 : Int)) with hb3 | hb3
    ·have hr7 := cond_t hb3 hr6
     have hf13 := Fr.conv hf12 (congrArg (fun z => ([(2, pB b1 0), (3, pB b2 0), (17, .bool z)] : FL)) hb3)
     refine p_qt [] [(2, pB b1 0), (3, pB b2 0), (5, .bool true)] [] hf13 (by kernel_rfl) .nil fun a13 hf14 => ?_
     have hf15 := Fr.keep (ks := [2, 3, 5]) (r := [(2, pB b1 0), (3, pB b2 0), (5, .bool true)]) hf14 (by kernel_rfl)
     exact ⟨z2, true, (Zone.le_refl _), hf15, hS4, hr7⟩
    ·have hr8 := cond_f hb3 hr6
     have hf16 := Fr.conv hf12 (congrArg (fun z => ([(2, pB b1 0), (3, pB b2 0), (17, .bool z)] : FL)) hb3)
     refine p_qn 5 [vI x1_kind] [(2, pB b1 0), (3, pB b2 0), (22, .bool (x1_kind == (4 : Int)))] [.cell ⟨b2, 0, none⟩ (vI x1_kind)] hf16 (by kernel_rfl) (.cell (hS4.box (i := 0) rfl (j := 0) rfl) .nil) fun a14 hf17 => ?_
     rcases Bool.eq_false_or_eq_true (x1_kind == (4 : Int)) with hb4 | hb4
     ·have hr9 := cond_t hb4 hr8
      have hf18 := Fr.conv hf17 (congrArg (fun z => ([(2, pB b1 0), (3, pB b2 0), (22, .bool z)] : FL)) hb4)
      refine p_qt [] [(2, pB b1 0), (3, pB b2 0), (5, .bool true)] [] hf18 (by kernel_rfl) .nil fun a15 hf19 => ?_
      have hf20 := Fr.keep (ks := [2, 3, 5]) (r := [(2, pB b1 0), (3, pB b2 0), (5, .bool true)]) hf19 (by kernel_rfl)
      exact ⟨z2, true, (Zone.le_refl _), hf20, hS4, hr9⟩
     ·have hr10 := cond_f hb4 hr8
      have hf21 := Fr.conv hf17 (congrArg (fun z => ([(2, pB b1 0), (3, pB b2 0), (22, .bool z)] : FL)) hb4)
      refine p_qt [vI x1_kind] [(2, pB b1 0), (3, pB b2 0), (5, .bool (x1_kind == (5 : Int)))] [.cell ⟨b2, 0, none⟩ (vI x1_kind)] hf21 (by kernel_rfl) (.cell (hS4.box (i := 0) rfl (j := 0) rfl) .nil) fun a16 hf22 => ?_
      have hf23 := Fr.keep (ks := [2, 3, 5]) (r := [(2, pB b1 0), (3, pB b2 0), (5, .bool (x1_kind == (5 : Int)))]) hf22 (by kernel_rfl)
      exact ⟨z2, (x1_kind == (5 : Int)), (Zone.le_refl _), hf23, hS4, hr10⟩
   ·rintro a17 ww5 ⟨z3, y5, k3, hf24, hS5, hr11⟩
    refine w_seq (by kernel_rfl) ?_
    refine w_mid (by kernel_rfl) (fun a w => ∃ z4 : Zone, ∃ y4 : Bool, Zone.le z3 z4 ∧ Fr a 91 [(2, pB b1 0), (3, pB b2 0), (38, .bool y4)] ∧ St z4 (box b2 [vI x1_kind, vI x1_lot, vI x1_from, vI x1_to, vI x1_mass] 28 :: box b1 [.slice o_x0_lots x0_lots.length c_x0_lots, v0_x0_holds, v1_x0_holds, v2_x0_holds, v3_x0_holds, v4_x0_holds, v5_x0_holds, v6_x0_holds, v7_x0_holds, v8_x0_holds] 26 :: L) w ∧ (F24_j2 fuel x0_holds x1_kind x1_from x1_to x1_mass y4) = some r) ?_ ?_
    ·skip
     have hS6 := hS5.drew
     have s1 : Sub z3 (box b2 [vI x1_kind, vI x1_lot, vI x1_from, vI x1_to, vI x1_mass] 28 :: box b1 [.slice o_x0_lots x0_lots.length c_x0_lots, v0_x0_holds, v1_x0_holds, v2_x0_holds, v3_x0_holds, v4_x0_holds, v5_x0_holds, v6_x0_holds, v7_x0_holds, v8_x0_holds] 26 :: L) _ := Sub.of (Zone.le_refl _) hS6
     refine w_regD (by kernel_rfl) [(0, true), (1, true), (2, true), (3, true), (4, true), (5, true), (6, true), (7, true), (8, true), (9, false), (10, true), (11, true)] [] (Sub z3 (box b2 [vI x1_kind, vI x1_lot, vI x1_from, vI x1_to, vI x1_mass] 28 :: box b1 [.slice o_x0_lots x0_lots.length c_x0_lots, v0_x0_holds, v1_x0_holds, v2_x0_holds, v3_x0_holds, v4_x0_holds, v5_x0_holds, v6_x0_holds, v7_x0_holds, v8_x0_holds] 26 :: L)) (by kernel_rfl) s1 ?_
     refine p_qS 2 [] [(2, pB b1 0), (3, pB b2 0), (28, .bool y5)] [] [] s1 hf24 (by kernel_rfl) (fun _ s => .nil) .nil fun a18 hf25 => ?_
     rcases Bool.eq_false_or_eq_true y5 with hb5 | hb5
     ·have hr12 := cond_t hb5 hr11
      have hf26 := Fr.conv hf25 (congrArg (fun z => ([(2, pB b1 0), (3, pB b2 0), (28, .bool z)] : FL)) hb5)
      obtain ⟨p5, hp368, hr13⟩ := bind_some hr12
      obtain ⟨hb6, _, hv1, e1, q1, hehv372, hx1⟩ := arrGet (Ty.mono _ (Zone.le_trans (Zone.le_trans k1 k2) k3) hx_x0_holds) rfl hp368
      obtain rfl := List.head_eq_of_cons_eq hehv372
      refine p_qS 7 [vI x1_mass, vI x1_from, .slice e1 p5.length q1] [(2, pB b1 0), (3, pB b2 0), (28, .bool true), (30, vI x1_mass), (35, .slice e1 p5.length q1)] [.cell ⟨b2, 4, none⟩ (vI x1_mass), .cell ⟨b2, 2, none⟩ (vI x1_from), .prop (0 ≤ x1_from ∧ x1_from < (9 : Nat)), .cell ((⟨b1, 1, none⟩ : Addr).add (Int.toNat x1_from * 1)) (.slice e1 p5.length q1)] [] s1 hf26 (by kernel_rfl) (fun _ s => (.cell (s.box (i := 0) rfl (j := 4) rfl) (.cell (s.box (i := 0) rfl (j := 2) rfl) (.prop hb6 (.cell ((arrAddr b1 1 x1_from.toNat) ▸ (s.box (i := 1) rfl (getElem?_app_right [.slice o_x0_lots x0_lots.length c_x0_lots] _ _ hv1 []))) .nil))))) .nil fun a19 hf27 => ?_
      obtain ⟨r3, hd3, hr14⟩ := bind_some hr13
      refine p_call (i := 9) (d := some 36) (f := 77) (args := #[.slice e1 p5.length q1]) hf27 (by kernel_rfl) (f77_ok fuel p5 r3 hd3 z3 _ _ hS6 e1 q1 hx1) ?_
      rintro v3 ww6 a20 ⟨z5, k4, rfl, hS7⟩ hf28
      refine ⟨fun _ => Sub.of k4 hS7, ?_⟩
      have s2 : Sub z3 (box b2 [vI x1_kind, vI x1_lot, vI x1_from, vI x1_to, vI x1_mass] 28 :: box b1 [.slice o_x0_lots x0_lots.length c_x0_lots, v0_x0_holds, v1_x0_holds, v2_x0_holds, v3_x0_holds, v4_x0_holds, v5_x0_holds, v6_x0_holds, v7_x0_holds, v8_x0_holds] 26 :: L) _ := Sub.of k4 hS7
      refine p_qS 2 [] [(2, pB b1 0), (3, pB b2 0), (38, .bool (decide (x1_mass > r3)))] [] [] s2 hf28 (by kernel_rfl) (fun _ s => .nil) .nil fun a21 hf29 => ?_
      refine p_dt (by kernel_rfl) ?_
      have hf30 := Fr.keep (ks := [2, 3, 38]) (r := [(2, pB b1 0), (3, pB b2 0), (38, .bool (decide (x1_mass > r3)))]) hf29 (by kernel_rfl)
      exact ⟨z5, (decide (x1_mass > r3)), k4, hf30, hS7, hr14⟩
     ·have hr15 := cond_f hb5 hr11
      have hf31 := Fr.conv hf25 (congrArg (fun z => ([(2, pB b1 0), (3, pB b2 0), (28, .bool z)] : FL)) hb5)
      refine p_qS 10 [] [(2, pB b1 0), (3, pB b2 0), (38, .bool false)] [] [] s1 hf31 (by kernel_rfl) (fun _ s => .nil) .nil fun a22 hf32 => ?_
      refine p_dt (by kernel_rfl) ?_
      have hf33 := Fr.keep (ks := [2, 3, 38]) (r := [(2, pB b1 0), (3, pB b2 0), (38, .bool false)]) hf32 (by kernel_rfl)
      exact ⟨z3, false, (Zone.le_refl _), hf33, hS6, hr15⟩
    ·rintro a23 ww7 ⟨z4, y4, k5, hf34, hS8, hr16⟩
     refine w_if hf34 (b := y4) (by kernel_rfl) (fun hb7 => ?_) (fun hb7 => ?_)
     ·have hr17 := cond_t hb7 hr16
      refine w_sq [] [(4, vI 63)] [] hf34 (by kernel_rfl) .nil fun a24 hf35 => ?_
      refine w_ret (by kernel_rfl) ?_
      refine r_then ?_
      refine p_ret (os := []) (v := vI 63) (obs := []) hf35 (by kernel_rfl) .nil ?_
      obtain rfl := some_eq hr17
      exact ⟨_, rfl, z4, (Zone.le_trans (Zone.le_trans (Zone.le_trans k1 k2) k3) k5), rfl, (St.drop 2 hS8)⟩
     ·have hr18 := cond_f hb7 hr16
      refine w_skip (by kernel_rfl) ?_
      refine n_then ?_
      refine w_seq (by kernel_rfl) ?_
      refine w_mid (by kernel_rfl) (fun a w => ∃ z6 : Zone, ∃ y3 : Bool, Zone.le z4 z6 ∧ Fr a 91 [(2, pB b1 0), (3, pB b2 0), (50, .bool y3)] ∧ St z6 (box b2 [vI x1_kind, vI x1_lot, vI x1_from, vI x1_to, vI x1_mass] 28 :: box b1 [.slice o_x0_lots x0_lots.length c_x0_lots, v0_x0_holds, v1_x0_holds, v2_x0_holds, v3_x0_holds, v4_x0_holds, v5_x0_holds, v6_x0_holds, v7_x0_holds, v8_x0_holds] 26 :: L) w ∧ (F24_j3 fuel x0_holds x1_kind x1_to x1_mass y3) = some r) ?_ ?_
      ·skip
       refine w_reg (by kernel_rfl) ?_
       refine p_qn 4 [vI x1_kind] [(2, pB b1 0), (3, pB b2 0), (42, .bool (x1_kind == (6 : Int)))] [.cell ⟨b2, 0, none⟩ (vI x1_kind)] hf34 (by kernel_rfl) (.cell (hS8.box (i := 0) rfl (j := 0) rfl) .nil) fun a25 hf36 => ?_
       rcases Bool.eq_false_or_eq_true (x1_kind == (6 : Int)) with hb8 | hb8
       ·have hr19 := cond_t hb8 hr18
        have hf37 := Fr.conv hf36 (congrArg (fun z => ([(2, pB b1 0), (3, pB b2 0), (42, .bool z)] : FL)) hb8)
        obtain ⟨p4, hp514, hr20⟩ := bind_some hr19
        obtain ⟨hb9, _, hv2, e2, q2, hehv518, hx2⟩ := arrGet (Ty.mono _ (Zone.le_trans (Zone.le_trans (Zone.le_trans k1 k2) k3) k5) hx_x0_holds) rfl hp514
        obtain rfl := List.head_eq_of_cons_eq hehv518
        refine p_qt [vI x1_from, .slice e2 p4.length q2] [(2, pB b1 0), (3, pB b2 0), (50, .bool (decide ((p4.length : Int) < (2 : Int))))] [.cell ⟨b2, 2, none⟩ (vI x1_from), .prop (0 ≤ x1_from ∧ x1_from < (9 : Nat)), .cell ((⟨b1, 1, none⟩ : Addr).add (Int.toNat x1_from * 1)) (.slice e2 p4.length q2)] hf37 (by kernel_rfl) (.cell (hS8.box (i := 0) rfl (j := 2) rfl) (.prop hb9 (.cell ((arrAddr b1 1 x1_from.toNat) ▸ (hS8.box (i := 1) rfl (getElem?_app_right [.slice o_x0_lots x0_lots.length c_x0_lots] _ _ hv2 []))) .nil))) fun a26 hf38 => ?_
        have hf39 := Fr.keep (ks := [2, 3, 50]) (r := [(2, pB b1 0), (3, pB b2 0), (50, .bool (decide ((p4.length : Int) < (2 : Int))))]) hf38 (by kernel_rfl)
        exact ⟨z4, (decide ((p4.length : Int) < (2 : Int))), (Zone.le_refl _), hf39, hS8, hr20⟩
       ·have hr21 := cond_f hb8 hr18
        have hf40 := Fr.conv hf36 (congrArg (fun z => ([(2, pB b1 0), (3, pB b2 0), (42, .bool z)] : FL)) hb8)
        refine p_qt [] [(2, pB b1 0), (3, pB b2 0), (50, .bool false)] [] hf40 (by kernel_rfl) .nil fun a27 hf41 => ?_
        have hf42 := Fr.keep (ks := [2, 3, 50]) (r := [(2, pB b1 0), (3, pB b2 0), (50, .bool false)]) hf41 (by kernel_rfl)
        exact ⟨z4, false, (Zone.le_refl _), hf42, hS8, hr21⟩
      ·rintro a28 ww8 ⟨z6, y3, k6, hf43, hS9, hr22⟩
       refine w_if hf43 (b := y3) (by kernel_rfl) (fun hb10 => ?_) (fun hb10 => ?_)
       ·have hr23 := cond_t hb10 hr22
        refine w_sq [] [(4, vI 3)] [] hf43 (by kernel_rfl) .nil fun a29 hf44 => ?_
        refine w_ret (by kernel_rfl) ?_
        refine r_then ?_
        refine p_ret (os := []) (v := vI 3) (obs := []) hf44 (by kernel_rfl) .nil ?_
        obtain rfl := some_eq hr23
        exact ⟨_, rfl, z6, (Zone.le_trans (Zone.le_trans (Zone.le_trans (Zone.le_trans k1 k2) k3) k5) k6), rfl, (St.drop 2 hS9)⟩
       ·have hr24 := cond_f hb10 hr22
        refine w_skip (by kernel_rfl) ?_
        refine n_then ?_
        refine w_mid (by kernel_rfl) (fun a w => ∃ z7 : Zone, ∃ y2 : Bool, Zone.le z6 z7 ∧ Fr a 91 [(2, pB b1 0), (3, pB b2 0), (6, .bool y2)] ∧ St z7 (box b2 [vI x1_kind, vI x1_lot, vI x1_from, vI x1_to, vI x1_mass] 28 :: box b1 [.slice o_x0_lots x0_lots.length c_x0_lots, v0_x0_holds, v1_x0_holds, v2_x0_holds, v3_x0_holds, v4_x0_holds, v5_x0_holds, v6_x0_holds, v7_x0_holds, v8_x0_holds] 26 :: L) w ∧ (F24_j4 fuel x0_holds x1_kind x1_to x1_mass y2) = some r) ?_ ?_
        ·skip
         refine w_reg (by kernel_rfl) ?_
         refine p_qn 4 [vI x1_kind] [(2, pB b1 0), (3, pB b2 0), (54, .bool (x1_kind == (1 : Int)))] [.cell ⟨b2, 0, none⟩ (vI x1_kind)] hf43 (by kernel_rfl) (.cell (hS9.box (i := 0) rfl (j := 0) rfl) .nil) fun a30 hf45 => ?_
         rcases Bool.eq_false_or_eq_true (x1_kind == (1 : Int)) with hb11 | hb11
         ·have hr25 := cond_t hb11 hr24
          have hf46 := Fr.conv hf45 (congrArg (fun z => ([(2, pB b1 0), (3, pB b2 0), (54, .bool z)] : FL)) hb11)
          refine p_qt [] [(2, pB b1 0), (3, pB b2 0), (6, .bool true)] [] hf46 (by kernel_rfl) .nil fun a31 hf47 => ?_
          have hf48 := Fr.keep (ks := [2, 3, 6]) (r := [(2, pB b1 0), (3, pB b2 0), (6, .bool true)]) hf47 (by kernel_rfl)
          exact ⟨z6, true, (Zone.le_refl _), hf48, hS9, hr25⟩
         ·have hr26 := cond_f hb11 hr24
          have hf49 := Fr.conv hf45 (congrArg (fun z => ([(2, pB b1 0), (3, pB b2 0), (54, .bool z)] : FL)) hb11)
          refine p_qn 5 [vI x1_kind] [(2, pB b1 0), (3, pB b2 0), (59, .bool (x1_kind == (2 : Int)))] [.cell ⟨b2, 0, none⟩ (vI x1_kind)] hf49 (by kernel_rfl) (.cell (hS9.box (i := 0) rfl (j := 0) rfl) .nil) fun a32 hf50 => ?_
          rcases Bool.eq_false_or_eq_true (x1_kind == (2 : Int)) with hb12 | hb12
          ·have hr27 := cond_t hb12 hr26
           have hf51 := Fr.conv hf50 (congrArg (fun z => ([(2, pB b1 0), (3, pB b2 0), (59, .bool z)] : FL)) hb12)
           refine p_qt [] [(2, pB b1 0), (3, pB b2 0), (6, .bool true)] [] hf51 (by kernel_rfl) .nil fun a33 hf52 => ?_
           have hf53 := Fr.keep (ks := [2, 3, 6]) (r := [(2, pB b1 0), (3, pB b2 0), (6, .bool true)]) hf52 (by kernel_rfl)
           exact ⟨z6, true, (Zone.le_refl _), hf53, hS9, hr27⟩
          ·have hr28 := cond_f hb12 hr26
           have hf54 := Fr.conv hf50 (congrArg (fun z => ([(2, pB b1 0), (3, pB b2 0), (59, .bool z)] : FL)) hb12)
           refine p_qt [vI x1_kind] [(2, pB b1 0), (3, pB b2 0), (6, .bool (x1_kind == (4 : Int)))] [.cell ⟨b2, 0, none⟩ (vI x1_kind)] hf54 (by kernel_rfl) (.cell (hS9.box (i := 0) rfl (j := 0) rfl) .nil) fun a34 hf55 => ?_
           have hf56 := Fr.keep (ks := [2, 3, 6]) (r := [(2, pB b1 0), (3, pB b2 0), (6, .bool (x1_kind == (4 : Int)))]) hf55 (by kernel_rfl)
           exact ⟨z6, (x1_kind == (4 : Int)), (Zone.le_refl _), hf56, hS9, hr28⟩
        ·rintro a35 ww9 ⟨z7, y2, k7, hf57, hS10, hr29⟩
         refine w_seq (by kernel_rfl) ?_
         refine w_mid (by kernel_rfl) (fun a w => ∃ z8 : Zone, ∃ y1 : Bool, Zone.le z7 z8 ∧ Fr a 91 [(90, .bool y1)] ∧ St z8 (box b2 [vI x1_kind, vI x1_lot, vI x1_from, vI x1_to, vI x1_mass] 28 :: box b1 [.slice o_x0_lots x0_lots.length c_x0_lots, v0_x0_holds, v1_x0_holds, v2_x0_holds, v3_x0_holds, v4_x0_holds, v5_x0_holds, v6_x0_holds, v7_x0_holds, v8_x0_holds] 26 :: L) w ∧ (F24_j5 y1) = some r) ?_ ?_
         ·skip
          have hS11 := hS10.drew
          have s3 : Sub z7 (box b2 [vI x1_kind, vI x1_lot, vI x1_from, vI x1_to, vI x1_mass] 28 :: box b1 [.slice o_x0_lots x0_lots.length c_x0_lots, v0_x0_holds, v1_x0_holds, v2_x0_holds, v3_x0_holds, v4_x0_holds, v5_x0_holds, v6_x0_holds, v7_x0_holds, v8_x0_holds] 26 :: L) _ := Sub.of (Zone.le_refl _) hS11
          refine w_regD (by kernel_rfl) [(0, true), (1, true), (2, true), (3, true), (4, true), (5, true), (6, true), (7, true), (8, true), (9, true), (10, true), (11, true), (12, true), (13, true), (14, true), (15, true), (16, true), (17, true), (18, true), (19, true), (21, true), (22, true), (20, false), (23, true), (24, true), (25, true), (26, true)] [] (Sub z7 (box b2 [vI x1_kind, vI x1_lot, vI x1_from, vI x1_to, vI x1_mass] 28 :: box b1 [.slice o_x0_lots x0_lots.length c_x0_lots, v0_x0_holds, v1_x0_holds, v2_x0_holds, v3_x0_holds, v4_x0_holds, v5_x0_holds, v6_x0_holds, v7_x0_holds, v8_x0_holds] 26 :: L)) (by kernel_rfl) s3 ?_
          refine p_qS 4 [vI x1_kind] [(2, pB b1 0), (3, pB b2 0), (6, .bool y2), (67, .bool (x1_kind == (2 : Int)))] [.cell ⟨b2, 0, none⟩ (vI x1_kind)] [] s3 hf57 (by kernel_rfl) (fun _ s => (.cell (s.box (i := 0) rfl (j := 0) rfl) .nil)) .nil fun a36 hf58 => ?_
          rcases Bool.eq_false_or_eq_true (x1_kind == (2 : Int)) with hb13 | hb13
          ·have hr30 := cond_t hb13 hr29
           have hf59 := Fr.conv hf58 (congrArg (fun z => ([(2, pB b1 0), (3, pB b2 0), (6, .bool y2), (67, .bool z)] : FL)) hb13)
           obtain ⟨p1, hp1055, hr31⟩ := bind_some hr30
           obtain ⟨hb14, _, hv3, e3, q3, hehv1059, hx3⟩ := arrGet (Ty.mono _ (Zone.le_trans (Zone.le_trans (Zone.le_trans (Zone.le_trans (Zone.le_trans k1 k2) k3) k5) k6) k7) hx_x0_holds) rfl hp1055
           obtain rfl := List.head_eq_of_cons_eq hehv1059
           refine p_qS 9 [vI x1_to, .slice e3 p1.length q3] [(2, pB b1 0), (3, pB b2 0), (6, .bool y2), (76, .bool ((p1.length : Int) == (4 : Int)))] [.cell ⟨b2, 3, none⟩ (vI x1_to), .prop (0 ≤ x1_to ∧ x1_to < (9 : Nat)), .cell ((⟨b1, 1, none⟩ : Addr).add (Int.toNat x1_to * 1)) (.slice e3 p1.length q3)] [] s3 hf59 (by kernel_rfl) (fun _ s => (.cell (s.box (i := 0) rfl (j := 3) rfl) (.prop hb14 (.cell ((arrAddr b1 1 x1_to.toNat) ▸ (s.box (i := 1) rfl (getElem?_app_right [.slice o_x0_lots x0_lots.length c_x0_lots] _ _ hv3 []))) .nil)))) .nil fun a37 hf60 => ?_
           rcases Bool.eq_false_or_eq_true ((p1.length : Int) == (4 : Int)) with hb15 | hb15
           ·have hr32 := cond_t hb15 hr31
            have hf61 := Fr.conv hf60 (congrArg (fun z => ([(2, pB b1 0), (3, pB b2 0), (6, .bool y2), (76, .bool z)] : FL)) hb15)
            refine p_qS 14 [] [(90, .bool true)] [] [] s3 hf61 (by kernel_rfl) (fun _ s => .nil) .nil fun a38 hf62 => ?_
            refine p_dt (by kernel_rfl) ?_
            have hf63 := Fr.keep (ks := [90]) (r := [(90, .bool true)]) hf62 (by kernel_rfl)
            exact ⟨z7, true, (Zone.le_refl _), hf63, hS11, hr32⟩
           ·have hr33 := cond_f hb15 hr31
            have hf64 := Fr.conv hf60 (congrArg (fun z => ([(2, pB b1 0), (3, pB b2 0), (6, .bool y2), (76, .bool z)] : FL)) hb15)
            refine p_qS 2 [] [(2, pB b1 0), (3, pB b2 0), (76, .bool false), (78, .bool y2)] [] [] s3 hf64 (by kernel_rfl) (fun _ s => .nil) .nil fun a39 hf65 => ?_
            rcases Bool.eq_false_or_eq_true y2 with hb16 | hb16
            ·have hr34 := cond_t hb16 hr33
             have hf66 := Fr.conv hf65 (congrArg (fun z => ([(2, pB b1 0), (3, pB b2 0), (76, .bool false), (78, .bool z)] : FL)) hb16)
             obtain ⟨p2, hp1080, hr35⟩ := bind_some hr34
             obtain ⟨hb17, _, hv4, e4, q4, hehv1084, hx4⟩ := arrGet (Ty.mono _ (Zone.le_trans (Zone.le_trans (Zone.le_trans (Zone.le_trans (Zone.le_trans k1 k2) k3) k5) k6) k7) hx_x0_holds) rfl hp1080
             obtain rfl := List.head_eq_of_cons_eq hehv1084
             refine p_qS 7 [vI x1_to, .slice e4 p2.length q4, vI x1_mass] [(76, .bool false), (78, .bool true), (83, .slice e4 p2.length q4), (86, vI x1_mass)] [.cell ⟨b2, 3, none⟩ (vI x1_to), .prop (0 ≤ x1_to ∧ x1_to < (9 : Nat)), .cell ((⟨b1, 1, none⟩ : Addr).add (Int.toNat x1_to * 1)) (.slice e4 p2.length q4), .cell ⟨b2, 4, none⟩ (vI x1_mass)] [] s3 hf66 (by kernel_rfl) (fun _ s => (.cell (s.box (i := 0) rfl (j := 3) rfl) (.prop hb17 (.cell ((arrAddr b1 1 x1_to.toNat) ▸ (s.box (i := 1) rfl (getElem?_app_right [.slice o_x0_lots x0_lots.length c_x0_lots] _ _ hv4 []))) (.cell (s.box (i := 0) rfl (j := 4) rfl) .nil))))) .nil fun a40 hf67 => ?_
             obtain ⟨r1, hd4, hr36⟩ := bind_some hr35
             refine p_call (i := 20) (d := some 84) (f := 77) (args := #[.slice e4 p2.length q4]) hf67 (by kernel_rfl) (f77_ok fuel p2 r1 hd4 z7 _ _ hS11 e4 q4 hx4) ?_
             rintro v4 ww10 a41 ⟨z9, k8, rfl, hS12⟩ hf68
             refine ⟨fun _ => Sub.of k8 hS12, ?_⟩
             have s4 : Sub z7 (box b2 [vI x1_kind, vI x1_lot, vI x1_from, vI x1_to, vI x1_mass] 28 :: box b1 [.slice o_x0_lots x0_lots.length c_x0_lots, v0_x0_holds, v1_x0_holds, v2_x0_holds, v3_x0_holds, v4_x0_holds, v5_x0_holds, v6_x0_holds, v7_x0_holds, v8_x0_holds] 26 :: L) _ := Sub.of k8 hS12
             refine p_qS 4 [] [(90, .bool (decide ((w64 (r1 + x1_mass)) > (100000000 : Int))))] [] [] s4 hf68 (by kernel_rfl) (fun _ s => .nil) .nil fun a42 hf69 => ?_
             refine p_dt (by kernel_rfl) ?_
             have hf70 := Fr.keep (ks := [90]) (r := [(90, .bool (decide ((w64 (r1 + x1_mass)) > (100000000 : Int))))]) hf69 (by kernel_rfl)
             exact ⟨z9, (decide ((w64 (r1 + x1_mass)) > (100000000 : Int))), k8, hf70, hS12, hr36⟩
            ·have hr37 := cond_f hb16 hr33
             have hf71 := Fr.conv hf65 (congrArg (fun z => ([(2, pB b1 0), (3, pB b2 0), (76, .bool false), (78, .bool z)] : FL)) hb16)
             refine p_qS 12 [] [(90, .bool false)] [] [] s3 hf71 (by kernel_rfl) (fun _ s => .nil) .nil fun a43 hf72 => ?_
             refine p_dt (by kernel_rfl) ?_
             have hf73 := Fr.keep (ks := [90]) (r := [(90, .bool false)]) hf72 (by kernel_rfl)
             exact ⟨z7, false, (Zone.le_refl _), hf73, hS11, hr37⟩
          ·have hr38 := cond_f hb13 hr29
           have hf74 := Fr.conv hf58 (congrArg (fun z => ([(2, pB b1 0), (3, pB b2 0), (6, .bool y2), (67, .bool z)] : FL)) hb13)
           refine p_qS 11 [] [(2, pB b1 0), (3, pB b2 0), (76, .bool false), (78, .bool y2)] [] [] s3 hf74 (by kernel_rfl) (fun _ s => .nil) .nil fun a44 hf75 => ?_
           rcases Bool.eq_false_or_eq_true y2 with hb18 | hb18
           ·have hr39 := cond_t hb18 hr38
            have hf76 := Fr.conv hf75 (congrArg (fun z => ([(2, pB b1 0), (3, pB b2 0), (76, .bool false), (78, .bool z)] : FL)) hb18)
            obtain ⟨p3, hp1123, hr40⟩ := bind_some hr39
            obtain ⟨hb19, _, hv5, e5, q5, hehv1127, hx5⟩ := arrGet (Ty.mono _ (Zone.le_trans (Zone.le_trans (Zone.le_trans (Zone.le_trans (Zone.le_trans k1 k2) k3) k5) k6) k7) hx_x0_holds) rfl hp1123
            obtain rfl := List.head_eq_of_cons_eq hehv1127
            refine p_qS 7 [vI x1_to, .slice e5 p3.length q5, vI x1_mass] [(76, .bool false), (78, .bool true), (83, .slice e5 p3.length q5), (86, vI x1_mass)] [.cell ⟨b2, 3, none⟩ (vI x1_to), .prop (0 ≤ x1_to ∧ x1_to < (9 : Nat)), .cell ((⟨b1, 1, none⟩ : Addr).add (Int.toNat x1_to * 1)) (.slice e5 p3.length q5), .cell ⟨b2, 4, none⟩ (vI x1_mass)] [] s3 hf76 (by kernel_rfl) (fun _ s => (.cell (s.box (i := 0) rfl (j := 3) rfl) (.prop hb19 (.cell ((arrAddr b1 1 x1_to.toNat) ▸ (s.box (i := 1) rfl (getElem?_app_right [.slice o_x0_lots x0_lots.length c_x0_lots] _ _ hv5 []))) (.cell (s.box (i := 0) rfl (j := 4) rfl) .nil))))) .nil fun a45 hf77 => ?_
            obtain ⟨r2, hd5, hr41⟩ := bind_some hr40
            refine p_call (i := 20) (d := some 84) (f := 77) (args := #[.slice e5 p3.length q5]) hf77 (by kernel_rfl) (f77_ok fuel p3 r2 hd5 z7 _ _ hS11 e5 q5 hx5) ?_
            rintro v5 ww11 a46 ⟨z10, k9, rfl, hS13⟩ hf78
            refine ⟨fun _ => Sub.of k9 hS13, ?_⟩
            have s5 : Sub z7 (box b2 [vI x1_kind, vI x1_lot, vI x1_from, vI x1_to, vI x1_mass] 28 :: box b1 [.slice o_x0_lots x0_lots.length c_x0_lots, v0_x0_holds, v1_x0_holds, v2_x0_holds, v3_x0_holds, v4_x0_holds, v5_x0_holds, v6_x0_holds, v7_x0_holds, v8_x0_holds] 26 :: L) _ := Sub.of k9 hS13
            refine p_qS 4 [] [(90, .bool (decide ((w64 (r2 + x1_mass)) > (100000000 : Int))))] [] [] s5 hf78 (by kernel_rfl) (fun _ s => .nil) .nil fun a47 hf79 => ?_
            refine p_dt (by kernel_rfl) ?_
            have hf80 := Fr.keep (ks := [90]) (r := [(90, .bool (decide ((w64 (r2 + x1_mass)) > (100000000 : Int))))]) hf79 (by kernel_rfl)
            exact ⟨z10, (decide ((w64 (r2 + x1_mass)) > (100000000 : Int))), k9, hf80, hS13, hr41⟩
           ·have hr42 := cond_f hb18 hr38
            have hf81 := Fr.conv hf75 (congrArg (fun z => ([(2, pB b1 0), (3, pB b2 0), (76, .bool false), (78, .bool z)] : FL)) hb18)
            refine p_qS 12 [] [(90, .bool false)] [] [] s3 hf81 (by kernel_rfl) (fun _ s => .nil) .nil fun a48 hf82 => ?_
            refine p_dt (by kernel_rfl) ?_
            have hf83 := Fr.keep (ks := [90]) (r := [(90, .bool false)]) hf82 (by kernel_rfl)
            exact ⟨z7, false, (Zone.le_refl _), hf83, hS11, hr42⟩
         ·rintro a49 ww12 ⟨z8, y1, k10, hf84, hS14, hr43⟩
          refine w_if hf84 (b := y1) (by kernel_rfl) (fun hb20 => ?_) (fun hb20 => ?_)
          ·have hr44 := cond_t hb20 hr43
           refine w_sq [] [(4, vI 2)] [] hf84 (by kernel_rfl) .nil fun a50 hf85 => ?_
           refine w_ret (by kernel_rfl) ?_
           refine r_then ?_
           refine p_ret (os := []) (v := vI 2) (obs := []) hf85 (by kernel_rfl) .nil ?_
           obtain rfl := some_eq hr44
           exact ⟨_, rfl, z8, (Zone.le_trans (Zone.le_trans (Zone.le_trans (Zone.le_trans (Zone.le_trans (Zone.le_trans k1 k2) k3) k5) k6) k7) k10), rfl, (St.drop 2 hS14)⟩
          ·have hr45 := cond_f hb20 hr43
           refine w_skip (by kernel_rfl) ?_
           refine n_then ?_
           refine w_sq [] [(4, vI 0)] [] hf84 (by kernel_rfl) .nil fun a51 hf86 => ?_
           refine w_ret (by kernel_rfl) ?_
           refine p_ret (os := []) (v := vI 0) (obs := []) hf86 (by kernel_rfl) .nil ?_
           obtain rfl := some_eq hr45
           exact ⟨_, rfl, z8, (Zone.le_trans (Zone.le_trans (Zone.le_trans (Zone.le_trans (Zone.le_trans (Zone.le_trans k1 k2) k3) k5) k6) k7) k10), rfl, (St.drop 2 hS14)⟩
end Go.Proofs.Ytlmgjjmighajdaa
