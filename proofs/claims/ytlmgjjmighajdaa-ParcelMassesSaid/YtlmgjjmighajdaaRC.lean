/-
  A part of the walk and of the plain law of one given statement. No condition.
-/
import Derived.Test.YtlmgjjmighajdaaSPb
set_option linter.unusedVariables false
namespace Go.Proofs.Ytlmgjjmighajdaa
open Go.Sl Go.Sx
def F72_j1 (y1 : Bool) : Option (Bool) :=
  (some (y1))
def F72 (fuel : Nat) (x0 : Int) (x1 : Int) (x2 : Int) : Option (Bool) :=
  (cond (decide (x0 ≥ x1)) (F72_j1 (decide (x0 ≤ x2))) (F72_j1 false))
set_option maxRecDepth 100000 in
theorem f72_ok (fuel : Nat) (x0 : Int) (x1 : Int) (x2 : Int) (r : Bool) (hr : F72 fuel x0 x1 x2 = some r) (h : Zone) (L : List Atom) (w : World) (hS : St h L w)  :
    Calls Try.prog 72 #[vI x0, vI x1, vI x2] w fun e w' => ∃ v, e = .returned v ∧ (∃ h', Zone.le h h' ∧ v = .bool r ∧ St h' L w') := by
 refine calls_intro (N := 15) Try.func72 (by kernel_rfl) fun a hf => ?_
 refine c_sq [] [0, 1, 2] hf .nil fun a1 hf1 => ?_
 refine c_mid (fun a w => ∃ z1 : Zone, ∃ y1 : Bool, Zone.le h z1 ∧ Fr a 15 [(6, .bool y1)] ∧ St z1 (L) w ∧ (F72_j1 y1) = some r) ?_ ?_
 ·skip
  refine c_reg ?_
  refine c_n 4 [] [0, 2, 10] hf1 .nil fun a2 hf2 => ?_
  rcases Bool.eq_false_or_eq_true (decide (x0 ≥ x1)) with hb1 | hb1
  ·have hr1 := cond_t hb1 hr
   have hf3 := hf2.lit 10 hb1
   refine c_t [] [6] hf3 .nil fun a3 hf4 => ?_
   exact ⟨h, (decide (x0 ≤ x2)), (Zone.le_refl _), hf4.to, hS, hr1⟩
  ·have hr2 := cond_f hb1 hr
   have hf6 := hf2.lit 10 hb1
   refine c_t [] [6] hf6 .nil fun a4 hf7 => ?_
   exact ⟨h, false, (Zone.le_refl _), hf7.to, hS, hr2⟩
 ·rintro a5 ww1 ⟨z1, y1, k1, hf9, hS1, hr3⟩
  refine c_ret ?_
  refine c_rt [] (.bool y1) hf9 .nil ?_
  obtain rfl := some_eq hr3
  exact ⟨_, rfl, z1, k1, rfl, hS1⟩
def F18_j1 (y1 : Bool) : Option (Int) :=
  (cond y1 (some (60)) (some (0)))
def F18 (fuel : Nat) (x0_id : Int) (x0_owner : Int) (x0_grade : Int) (x0_wet : Int) : Option (Int) :=
  ((F72 fuel x0_id 1 9999).bind fun r1 => (cond (!r1) (F18_j1 true) ((F72 fuel x0_owner 1 9).bind fun r2 => (cond (!r2) (F18_j1 true) ((F72 fuel x0_grade 1 9).bind fun r3 => (cond (!r3) (F18_j1 true) ((F72 fuel x0_wet 0 10000).bind fun r4 => (F18_j1 (!r4)))))))))
set_option maxRecDepth 100000 in
theorem f18_ok (fuel : Nat) (x0_id : Int) (x0_owner : Int) (x0_grade : Int) (x0_wet : Int) (r : Int) (hr : F18 fuel x0_id x0_owner x0_grade x0_wet = some r) (h : Zone) (L : List Atom) (w : World) (hS : St h L w)  :
    Calls Try.prog 18 #[.agg #[vI x0_id, vI x0_owner, vI x0_grade, vI x0_wet]] w fun e w' => ∃ v, e = .returned v ∧ (∃ h', Zone.le h h' ∧ v = vI r ∧ St h' L w') := by
 refine calls_intro (N := 25) Try.func18 (by kernel_rfl) fun a hf => ?_
 refine c_sr ?_
 refine c_box [vI x0_id, vI x0_owner, vI x0_grade, vI x0_wet] 33 hS hf fun b1 ww1 a1 hS1 hf1 => ⟨fun _ => trivial, ?_⟩
 refine c_t [] [1] hf1 .nil fun a2 hf2 => ?_
 refine c_seq ?_
 refine c_mid (fun a w => ∃ z1 : Zone, ∃ y1 : Bool, Zone.le h z1 ∧ Fr a 25 [(24, .bool y1)] ∧ St z1 (box b1 [vI x0_id, vI x0_owner, vI x0_grade, vI x0_wet] 33 :: L) w ∧ (F18_j1 y1) = some r) ?_ ?_
 ·skip
  refine c_reg ?_
  refine c_n 2 [vI x0_id] [1, 4] hf2 (.cell (hS1.box (i := 0) rfl (j := 0) rfl) .nil) fun a3 hf3 => ?_
  obtain ⟨r1, hd1, hr1⟩ := bind_some hr
  refine c_call hf3 (f72_ok fuel x0_id 1 9999 r1 hd1 h _ _ hS1 ) ?_
  rintro v1 ww2 a4 ⟨z2, k1, rfl, hS2⟩ hf4
  refine ⟨fun _ => trivial, ?_⟩
  refine c_n 2 [] [1, 7] hf4 .nil fun a5 hf5 => ?_
  rcases Bool.eq_false_or_eq_true (!r1) with hb1 | hb1
  ·have hr2 := cond_t hb1 hr1
   have hf6 := hf5.lit 7 hb1
   refine c_t [] [24] hf6 .nil fun a6 hf7 => ?_
   exact ⟨z2, true, k1, hf7.to, hS2, hr2⟩
  ·have hr3 := cond_f hb1 hr1
   have hf9 := hf5.lit 7 hb1
   refine c_n 2 [vI x0_owner] [1, 7, 9] hf9 (.cell (hS2.box (i := 0) rfl (j := 1) rfl) .nil) fun a7 hf10 => ?_
   obtain ⟨r2, hd2, hr4⟩ := bind_some hr3
   refine c_call hf10 (f72_ok fuel x0_owner 1 9 r2 hd2 z2 _ _ hS2 ) ?_
   rintro v2 ww3 a8 ⟨z3, k2, rfl, hS3⟩ hf11
   refine ⟨fun _ => trivial, ?_⟩
   refine c_n 3 [] [1, 13] hf11 .nil fun a9 hf12 => ?_
   rcases Bool.eq_false_or_eq_true (!r2) with hb2 | hb2
   ·have hr5 := cond_t hb2 hr4
    have hf13 := hf12.lit 13 hb2
    refine c_t [] [24] hf13 .nil fun a10 hf14 => ?_
    exact ⟨z3, true, (Zone.le_trans k1 k2), hf14.to, hS3, hr5⟩
   ·have hr6 := cond_f hb2 hr4
    have hf16 := hf12.lit 13 hb2
    refine c_n 2 [vI x0_grade] [1, 13, 15] hf16 (.cell (hS3.box (i := 0) rfl (j := 2) rfl) .nil) fun a11 hf17 => ?_
    obtain ⟨r3, hd3, hr7⟩ := bind_some hr6
    refine c_call hf17 (f72_ok fuel x0_grade 1 9 r3 hd3 z3 _ _ hS3 ) ?_
    rintro v3 ww4 a12 ⟨z4, k3, rfl, hS4⟩ hf18
    refine ⟨fun _ => trivial, ?_⟩
    refine c_n 3 [] [1, 19] hf18 .nil fun a13 hf19 => ?_
    rcases Bool.eq_false_or_eq_true (!r3) with hb3 | hb3
    ·have hr8 := cond_t hb3 hr7
     have hf20 := hf19.lit 19 hb3
     refine c_t [] [24] hf20 .nil fun a14 hf21 => ?_
     exact ⟨z4, true, (Zone.le_trans (Zone.le_trans k1 k2) k3), hf21.to, hS4, hr8⟩
    ·have hr9 := cond_f hb3 hr7
     have hf23 := hf19.lit 19 hb3
     refine c_n 2 [vI x0_wet] [19, 21] hf23 (.cell (hS4.box (i := 0) rfl (j := 3) rfl) .nil) fun a15 hf24 => ?_
     obtain ⟨r4, hd4, hr10⟩ := bind_some hr9
     refine c_call hf24 (f72_ok fuel x0_wet 0 10000 r4 hd4 z4 _ _ hS4 ) ?_
     rintro v4 ww5 a16 ⟨z5, k4, rfl, hS5⟩ hf25
     refine ⟨fun _ => trivial, ?_⟩
     refine c_t [] [24] hf25 .nil fun a17 hf26 => ?_
     exact ⟨z5, (!r4), (Zone.le_trans (Zone.le_trans (Zone.le_trans k1 k2) k3) k4), hf26.to, hS5, hr10⟩
 ·rintro a18 ww6 ⟨z1, y1, k5, hf28, hS6, hr11⟩
  refine c_if y1 hf28 (fun hb4 => ?_) (fun hb4 => ?_)
  ·have hr12 := cond_t hb4 hr11
   refine c_sq [] [2] hf28 .nil fun a19 hf29 => ?_
   refine c_ret ?_
   refine r_then ?_
   refine c_rt [] (vI 60) hf29 .nil ?_
   obtain rfl := some_eq hr12
   exact ⟨_, rfl, z1, k5, rfl, (St.drop 1 hS6)⟩
  ·have hr13 := cond_f hb4 hr11
   refine c_skip ?_
   refine n_then ?_
   refine c_sq [] [2] hf28 .nil fun a20 hf30 => ?_
   refine c_ret ?_
   refine c_rt [] (vI 0) hf30 .nil ?_
   obtain rfl := some_eq hr13
   exact ⟨_, rfl, z1, k5, rfl, (St.drop 1 hS6)⟩
def F20_j1 (k1 : Int → Option (Int)) (y1 : Int) (y2 : Bool) : Option (Int) :=
  (cond y2 (some (60)) (k1 (w64 (y1 + (1 : Int)))))
def F20_l1 (fuel : Nat) (x0 : List Lot) : Nat → Int → Option (Int)
  | 0, _ => none
  | n1 + 1, y1 =>
    let k1 : Int → Option (Int) := F20_l1 fuel x0 n1
    (cond (decide (y1 < (x0.length : Int))) ((getI x0 y1).bind fun p1 => ((F18 fuel p1.id p1.owner p1.grade p1.wet).bind fun r1 => (cond (r1 != (0 : Int)) (F20_j1 k1 y1 true) (cond (decide (y1 > (0 : Int))) ((getI x0 (w64 (y1 - (1 : Int)))).bind fun p2 => ((getI x0 y1).bind fun p3 => (F20_j1 k1 y1 (decide (p2.id ≥ p3.id))))) (F20_j1 k1 y1 false))))) (some (0)))
def F20 (fuel : Nat) (x0 : List Lot) : Option (Int) :=
  (cond (decide ((x0.length : Int) > (40 : Int))) (some (60)) (F20_l1 fuel x0 fuel 0))
set_option maxRecDepth 100000 in
theorem f20_ok (fuel : Nat) (x0 : List Lot) (r : Int) (hr : F20 fuel x0 = some r) (h : Zone) (L : List Atom) (w : World) (hS : St h L w) (o_x0 : Option Addr) (c_x0 : Nat) (hx_x0 : SliceR LotT h o_x0 c_x0 x0) :
    Calls Try.prog 20 #[.slice o_x0 x0.length c_x0] w fun e w' => ∃ v, e = .returned v ∧ (∃ h', Zone.le h h' ∧ v = vI r ∧ St h' L w') := by
 refine calls_intro (N := 37) Try.func20 (by kernel_rfl) fun a hf => ?_
 refine c_sq [] [0] hf .nil fun a1 hf1 => ?_
 refine c_seq ?_
 refine c_sq [] [0, 6] hf1 .nil fun a2 hf2 => ?_
 refine c_if (decide ((x0.length : Int) > (40 : Int))) hf2 (fun hb1 => ?_) (fun hb1 => ?_)
 ·have hr1 := cond_t hb1 hr
  refine c_sq [] [2] hf2 .nil fun a3 hf3 => ?_
  refine c_ret ?_
  refine r_then ?_
  refine c_rt [] (vI 60) hf3 .nil ?_
  obtain rfl := some_eq hr1
  exact ⟨_, rfl, h, (Zone.le_refl _), rfl, hS⟩
 ·have hr2 := cond_f hb1 hr
  refine c_skip ?_
  refine n_then ?_
  refine c_seq ?_
  refine c_sq [] [0, 3] hf2 .nil fun a4 hf4 => ?_
  refine c_block 0 ?_
  refine c_loop (fun n a w => ∃ z1 : Zone, ∃ y1 : Int, Zone.le h z1 ∧ Fr a 37 [(0, .slice o_x0 x0.length c_x0), (3, vI y1)] ∧ St z1 (L) w ∧ (F20_l1 fuel x0 n y1) = some r) fuel ⟨h, 0, (Zone.le_refl _), hf4.to, hS, hr2⟩ ?_
  rintro n2 a5 ww1 ⟨z1, y1, k2, hf6, hS1, hr3⟩
  cases n2 with
  | zero => cases hr3
  | succ n1 =>
  refine c_seq ?_
  refine c_sq [] [0, 3, 10] hf6 .nil fun a6 hf7 => ?_
  refine c_if (decide (y1 < (x0.length : Int))) hf7 (fun hb2 => ?_) (fun hb2 => ?_)
  ·have hr4 := cond_t hb2 hr3
   refine c_skip ?_
   refine n_then ?_
   refine c_seq ?_
   refine c_block 1 ?_
   refine c_mid (fun a w => ∃ z2 : Zone, ∃ y2 : Bool, Zone.le z1 z2 ∧ Fr a 37 [(0, .slice o_x0 x0.length c_x0), (3, vI y1), (36, .bool y2)] ∧ St z2 (L) w ∧ (F20_j1 (F20_l1 fuel x0 n1) y1 y2) = some r) ?_ ?_
   ·skip
    have hS2 := hS1.drew
    have s1 : Sub z1 (L) _ := Sub.of (Zone.le_refl _) hS2
    refine c_regD [(0, true), (1, true), (2, true), (3, true), (4, false), (5, true), (6, true), (7, true), (8, true), (9, true), (10, true), (11, true), (12, true), (13, true), (14, true), (15, true), (16, true), (17, true), (18, true), (19, true), (20, true), (21, true), (22, true), (23, true)] [] (Sub z1 (L)) s1 ?_
    obtain ⟨p1, hp1987, hr5⟩ := bind_some hr4
    obtain ⟨ad1, ho1, hb3, cc1, hc1, hk1⟩ := SliceR.getI (SliceR.mono k2 hx_x0) hp1987
    subst hc1
    refine c_S 4 [.pointer (some ad1), vI p1.id, vI p1.owner, vI p1.grade, vI p1.wet] [0, 3, 16] s1 hf7 (fun _ s => (.prop ho1 (.prop hb3 (.cell (s.cell (hk1 0 _ rfl)) (.cell (s.cell (hk1 1 _ rfl)) (.cell (s.cell (hk1 2 _ rfl)) (.cell (s.cell (hk1 3 _ rfl)) .nil))))))) .nil fun a7 hf8 => ?_
    obtain ⟨r1, hd1, hr6⟩ := bind_some hr5
    refine c_call hf8 (f18_ok fuel p1.id p1.owner p1.grade p1.wet r1 hd1 z1 _ _ hS2 ) ?_
    rintro v1 ww2 a8 ⟨z3, k3, rfl, hS3⟩ hf9
    refine ⟨fun _ => Sub.of k3 hS3, ?_⟩
    have s2 : Sub z1 (L) _ := Sub.of k3 hS3
    refine c_S 2 [] [0, 3, 19] s2 hf9 (fun _ s => .nil) .nil fun a9 hf10 => ?_
    rcases Bool.eq_false_or_eq_true (r1 != (0 : Int)) with hb4 | hb4
    ·have hr7 := cond_t hb4 hr6
     have hf11 := hf10.lit 19 hb4
     refine c_S 17 [] [0, 3, 20, 21, 22, 23, 24, 25, 26, 27, 28, 29, 30, 31, 32, 33, 34, 35, 36] s2 hf11 (fun _ s => .nil) .nil fun a10 hf12 => ?_
     refine c_dt ?_
     exact ⟨z3, true, k3, hf12.to, hS3, hr7⟩
    ·have hr8 := cond_f hb4 hr6
     have hf14 := hf10.lit 19 hb4
     refine c_S 3 [] [0, 3, 19, 20, 21, 22] s2 hf14 (fun _ s => .nil) .nil fun a11 hf15 => ?_
     rcases Bool.eq_false_or_eq_true (decide (y1 > (0 : Int))) with hb5 | hb5
     ·have hr9 := cond_t hb5 hr8
      have hf16 := hf15.lit 22 hb5
      obtain ⟨p2, hp2029, hr10⟩ := bind_some hr9
      obtain ⟨ad2, ho2, hb6, cc2, hc2, hk2⟩ := SliceR.getI (SliceR.mono k2 hx_x0) hp2029
      subst hc2
      obtain ⟨p3, hp2038, hr11⟩ := bind_some hr10
      obtain ⟨ad3, ho3, hb7, cc3, hc3, hk3⟩ := SliceR.getI (SliceR.mono k2 hx_x0) hp2038
      subst hc3
      refine c_S 14 [.pointer (some ad2), vI p2.id, .pointer (some ad3), vI p3.id] [0, 3, 20, 21, 22, 23, 24, 25, 26, 27, 28, 29, 30, 31, 32, 33, 34, 35, 36] s2 hf16 (fun _ s => (.prop ho2 (.prop hb6 (.cell (s.cell (hk2 0 _ rfl)) (.prop ho3 (.prop hb7 (.cell (s.cell (hk3 0 _ rfl)) .nil))))))) .nil fun a12 hf17 => ?_
      refine c_dt ?_
      exact ⟨z3, (decide (p2.id ≥ p3.id)), k3, hf17.to, hS3, hr11⟩
     ·have hr12 := cond_f hb5 hr8
      have hf19 := hf15.lit 22 hb5
      refine c_S 14 [] [0, 3, 20, 21, 22, 23, 24, 25, 26, 27, 28, 29, 30, 31, 32, 33, 34, 35, 36] s2 hf19 (fun _ s => .nil) .nil fun a13 hf20 => ?_
      refine c_dt ?_
      exact ⟨z3, false, k3, hf20.to, hS3, hr12⟩
   ·rintro a14 ww3 ⟨z2, y2, k4, hf22, hS4, hr13⟩
    refine c_if y2 hf22 (fun hb8 => ?_) (fun hb8 => ?_)
    ·have hr14 := cond_t hb8 hr13
     refine c_sq [] [2] hf22 .nil fun a15 hf23 => ?_
     refine c_ret ?_
     refine r_block ?_
     refine r_then ?_
     refine r_then ?_
     refine r_block ?_
     refine r_then ?_
     refine c_rt [] (vI 60) hf23 .nil ?_
     obtain rfl := some_eq hr14
     exact ⟨_, rfl, z2, (Zone.le_trans k2 k4), rfl, hS4⟩
    ·have hr15 := cond_f hb8 hr13
     refine c_skip ?_
     refine n_block ?_
     refine n_then ?_
     refine c_q [] [0, 3] hf22 .nil fun a16 hf24 => ?_
     refine n_then ?_
     exact ⟨n1, Nat.lt_succ_self n1, z2, (w64 (y1 + (1 : Int))), (Zone.le_trans k2 k4), hf24.to, hS4, hr15⟩
  ·have hr16 := cond_f hb2 hr3
   refine c_exit 0 ?_
   refine x_then ?_
   refine x_then ?_
   refine x_block ?_
   refine n_then ?_
   refine c_sq [] [2] hf7 .nil fun a17 hf26 => ?_
   refine c_ret ?_
   refine c_rt [] (vI 0) hf26 .nil ?_
   obtain rfl := some_eq hr16
   exact ⟨_, rfl, z1, k2, rfl, hS1⟩
def F56_l1 (x0 : List Lot) (x1 : Int) : Nat → Int → Option (Int)
  | 0, _ => none
  | n1 + 1, y1 =>
    let k1 : Int → Option (Int) := F56_l1 x0 x1 n1
    (cond (decide (y1 < (x0.length : Int))) ((getI x0 y1).bind fun p1 => (cond (p1.id == x1) (some (y1)) (k1 (w64 (y1 + (1 : Int)))))) (some (-1)))
def F56 (fuel : Nat) (x0 : List Lot) (x1 : Int) : Option (Int) :=
  (F56_l1 x0 x1 fuel 0)
set_option maxRecDepth 100000 in
theorem f56_ok (fuel : Nat) (x0 : List Lot) (x1 : Int) (r : Int) (hr : F56 fuel x0 x1 = some r) (h : Zone) (L : List Atom) (w : World) (hS : St h L w) (o_x0 : Option Addr) (c_x0 : Nat) (hx_x0 : SliceR LotT h o_x0 c_x0 x0) :
    Calls Try.prog 56 #[.slice o_x0 x0.length c_x0, vI x1] w fun e w' => ∃ v, e = .returned v ∧ (∃ h', Zone.le h h' ∧ v = vI r ∧ St h' L w') := by
 refine calls_intro (N := 20) Try.func56 (by kernel_rfl) fun a hf => ?_
 refine c_sq [] [0, 1] hf .nil fun a1 hf1 => ?_
 refine c_seq ?_
 refine c_sq [] [0, 1, 5] hf1 .nil fun a2 hf2 => ?_
 refine c_block 0 ?_
 refine c_loop (fun n a w => ∃ z1 : Zone, ∃ y1 : Int, Zone.le h z1 ∧ Fr a 20 [(0, .slice o_x0 x0.length c_x0), (1, vI x1), (5, vI y1)] ∧ St z1 (L) w ∧ (F56_l1 x0 x1 n y1) = some r) fuel ⟨h, 0, (Zone.le_refl _), hf2.to, hS, hr⟩ ?_
 rintro n2 a3 ww1 ⟨z1, y1, k2, hf4, hS1, hr1⟩
 cases n2 with
 | zero => cases hr1
 | succ n1 =>
 refine c_seq ?_
 refine c_sq [] [0, 1, 5, 9] hf4 .nil fun a4 hf5 => ?_
 refine c_if (decide (y1 < (x0.length : Int))) hf5 (fun hb1 => ?_) (fun hb1 => ?_)
 ·have hr2 := cond_t hb1 hr1
  refine c_skip ?_
  refine n_then ?_
  refine c_seq ?_
  refine c_block 1 ?_
  obtain ⟨p1, hp371, hr3⟩ := bind_some hr2
  obtain ⟨ad1, ho1, hb2, cc1, hc1, hk1⟩ := SliceR.getI (SliceR.mono k2 hx_x0) hp371
  subst hc1
  refine c_sq [.pointer (some ad1), vI p1.id] [0, 1, 5, 18] hf5 (.prop ho1 (.prop hb2 (.cell (hS1.cell (hk1 0 _ rfl)) .nil))) fun a5 hf6 => ?_
  refine c_if (p1.id == x1) hf6 (fun hb3 => ?_) (fun hb3 => ?_)
  ·have hr4 := cond_t hb3 hr3
   refine c_sq [] [4] hf6 .nil fun a6 hf7 => ?_
   refine c_ret ?_
   refine r_block ?_
   refine r_then ?_
   refine r_then ?_
   refine r_block ?_
   refine r_then ?_
   refine c_rt [] (vI y1) hf7 .nil ?_
   obtain rfl := some_eq hr4
   exact ⟨_, rfl, z1, k2, rfl, hS1⟩
  ·have hr5 := cond_f hb3 hr3
   refine c_skip ?_
   refine n_block ?_
   refine n_then ?_
   refine c_q [] [0, 1, 5] hf6 .nil fun a7 hf8 => ?_
   refine n_then ?_
   exact ⟨n1, Nat.lt_succ_self n1, z1, (w64 (y1 + (1 : Int))), k2, hf8.to, hS1, hr5⟩
 ·have hr6 := cond_f hb1 hr1
  refine c_exit 0 ?_
  refine x_then ?_
  refine x_then ?_
  refine x_block ?_
  refine n_then ?_
  refine c_sq [] [4] hf5 .nil fun a8 hf10 => ?_
  refine c_ret ?_
  refine c_rt [] (vI (-1)) hf10 .nil ?_
  obtain rfl := some_eq hr6
  exact ⟨_, rfl, z1, k2, rfl, hS1⟩
def F76_j1 (k1 : Int → Int → Option (Bool)) (y1 : Int) (y2 : Int) (p1 : Part) (y3 : Bool) : Option (Bool) :=
  (cond y3 (some (false)) (k1 (w64 (y1 + p1.mass)) (w64 (y2 + (1 : Int)))))
def F76_l1 (fuel : Nat) (x0 : List Part) : Nat → Int → Int → Option (Bool)
  | 0, _, _ => none
  | n1 + 1, y1, y2 =>
    let k1 : Int → Int → Option (Bool) := F76_l1 fuel x0 n1
    (cond (decide (y2 < (x0.length : Int))) ((getI x0 y2).bind fun p1 => ((F72 fuel p1.lot 1 9999).bind fun r1 => (cond (!r1) (F76_j1 k1 y1 y2 p1 true) ((F72 fuel p1.mass 1 100000000).bind fun r2 => (cond (!r2) (F76_j1 k1 y1 y2 p1 true) (cond (decide (y2 > (0 : Int))) ((getI x0 (w64 (y2 - (1 : Int)))).bind fun p2 => (F76_j1 k1 y1 y2 p1 (decide (p2.lot ≥ p1.lot)))) (F76_j1 k1 y1 y2 p1 false))))))) (some ((decide (y1 ≤ (100000000 : Int))))))
def F76 (fuel : Nat) (x0 : List Part) : Option (Bool) :=
  (cond (decide ((x0.length : Int) > (40 : Int))) (some (false)) (F76_l1 fuel x0 fuel 0 0))
set_option maxRecDepth 100000 in
theorem f76_ok (fuel : Nat) (x0 : List Part) (r : Bool) (hr : F76 fuel x0 = some r) (h : Zone) (L : List Atom) (w : World) (hS : St h L w) (o_x0 : Option Addr) (c_x0 : Nat) (hx_x0 : SliceR PartT h o_x0 c_x0 x0) :
    Calls Try.prog 76 #[.agg #[.slice o_x0 x0.length c_x0]] w fun e w' => ∃ v, e = .returned v ∧ (∃ h', Zone.le h h' ∧ v = .bool r ∧ St h' L w') := by
 refine calls_intro (N := 54) Try.func76 (by kernel_rfl) fun a hf => ?_
 refine c_sr ?_
 refine c_box [.slice o_x0 x0.length c_x0] 40 hS hf fun b1 ww1 a1 hS1 hf1 => ⟨fun _ => trivial, ?_⟩
 refine c_t [] [1] hf1 .nil fun a2 hf2 => ?_
 refine c_seq ?_
 refine c_sq [.slice o_x0 x0.length c_x0] [1, 9] hf2 (.cell (hS1.box (i := 0) rfl (j := 0) rfl) .nil) fun a3 hf3 => ?_
 refine c_if (decide ((x0.length : Int) > (40 : Int))) hf3 (fun hb1 => ?_) (fun hb1 => ?_)
 ·have hr1 := cond_t hb1 hr
  refine c_sq [] [2] hf3 .nil fun a4 hf4 => ?_
  refine c_ret ?_
  refine r_then ?_
  refine c_rt [] (.bool false) hf4 .nil ?_
  obtain rfl := some_eq hr1
  exact ⟨_, rfl, h, (Zone.le_refl _), rfl, (St.drop 1 hS1)⟩
 ·have hr2 := cond_f hb1 hr
  refine c_skip ?_
  refine n_then ?_
  refine c_sq [] [1, 3] hf3 .nil fun a5 hf5 => ?_
  refine c_seq ?_
  refine c_sq [] [1, 3, 4] hf5 .nil fun a6 hf6 => ?_
  refine c_block 0 ?_
  refine c_loop (fun n a w => ∃ z1 : Zone, ∃ y1 : Int, ∃ y2 : Int, Zone.le h z1 ∧ Fr a 54 [(1, pB b1 0), (3, vI y1), (4, vI y2)] ∧ St z1 (box b1 [.slice o_x0 x0.length c_x0] 40 :: L) w ∧ (F76_l1 fuel x0 n y1 y2) = some r) fuel ⟨h, 0, 0, (Zone.le_refl _), hf6.to, hS1, hr2⟩ ?_
  rintro n2 a7 ww2 ⟨z1, y1, y2, k2, hf8, hS2, hr3⟩
  cases n2 with
  | zero => cases hr3
  | succ n1 =>
  refine c_seq ?_
  refine c_sq [.slice o_x0 x0.length c_x0] [1, 3, 4, 14] hf8 (.cell (hS2.box (i := 0) rfl (j := 0) rfl) .nil) fun a8 hf9 => ?_
  refine c_if (decide (y2 < (x0.length : Int))) hf9 (fun hb2 => ?_) (fun hb2 => ?_)
  ·have hr4 := cond_t hb2 hr3
   refine c_skip ?_
   refine n_then ?_
   refine c_seq ?_
   refine c_block 1 ?_
   refine c_sr ?_
   obtain ⟨p1, hp4712, hr5⟩ := bind_some hr4
   obtain ⟨ad1, ho1, hb3, cc1, hc1, hk1⟩ := SliceR.getI (SliceR.mono k2 hx_x0) hp4712
   subst hc1
   refine c_n 5 [.slice o_x0 x0.length c_x0, .pointer (some ad1), vI p1.lot, vI p1.mass] [1, 3, 4, 21] hf9 (.cell (hS2.box (i := 0) rfl (j := 0) rfl) (.prop ho1 (.prop hb3 (.cell (hS2.cell (hk1 0 _ rfl)) (.cell (hS2.cell (hk1 1 _ rfl)) .nil))))) fun a9 hf10 => ?_
   refine c_box [vI 0, vI 0] 56 hS2 hf10 fun b2 ww3 a10 hS3 hf11 => ⟨fun _ => trivial, ?_⟩
   refine c_st 0 [vI p1.lot, vI p1.mass] hS3 hf11 rfl fun ww4 a11 hS4 hf12 => ⟨fun _ => trivial, ?_⟩
   refine c_dt ?_
   refine c_seq ?_
   refine c_mid (fun a w => ∃ z2 : Zone, ∃ y3 : Bool, Zone.le z1 z2 ∧ Fr a 54 [(1, pB b1 0), (3, vI y1), (4, vI y2), (5, pB b2 0), (47, .bool y3)] ∧ St z2 (box b2 [vI p1.lot, vI p1.mass] 56 :: box b1 [.slice o_x0 x0.length c_x0] 40 :: L) w ∧ (F76_j1 (F76_l1 fuel x0 n1) y1 y2 p1 y3) = some r) ?_ ?_
   ·skip
    have hS5 := hS4.drew
    have s1 : Sub z1 (box b2 [vI p1.lot, vI p1.mass] 56 :: box b1 [.slice o_x0 x0.length c_x0] 40 :: L) _ := Sub.of (Zone.le_refl _) hS5
    refine c_regD [(0, true), (1, true), (2, false), (3, true), (4, true), (5, true), (6, true), (7, false), (8, true), (9, true), (10, true), (11, true), (12, true), (13, true), (14, true), (15, true), (16, true), (17, true), (18, true), (19, true), (20, true), (21, true), (22, true), (23, true), (24, true), (25, true)] [] (Sub z1 (box b2 [vI p1.lot, vI p1.mass] 56 :: box b1 [.slice o_x0 x0.length c_x0] 40 :: L)) s1 ?_
    refine c_S 2 [vI p1.lot] [1, 3, 4, 5, 23] s1 hf12 (fun _ s => (.cell (s.box (i := 0) rfl (j := 0) rfl) .nil)) .nil fun a12 hf13 => ?_
    obtain ⟨r1, hd1, hr6⟩ := bind_some hr5
    refine c_call hf13 (f72_ok fuel p1.lot 1 9999 r1 hd1 z1 _ _ hS5 ) ?_
    rintro v1 ww5 a13 ⟨z3, k3, rfl, hS6⟩ hf14
    refine ⟨fun _ => Sub.of k3 hS6, ?_⟩
    have s2 : Sub z1 (box b2 [vI p1.lot, vI p1.mass] 56 :: box b1 [.slice o_x0 x0.length c_x0] 40 :: L) _ := Sub.of k3 hS6
    refine c_S 2 [] [1, 3, 4, 5, 26] s2 hf14 (fun _ s => .nil) .nil fun a14 hf15 => ?_
    rcases Bool.eq_false_or_eq_true (!r1) with hb4 | hb4
    ·have hr7 := cond_t hb4 hr6
     have hf16 := hf15.lit 26 hb4
     refine c_S 21 [] [1, 3, 4, 5, 27, 28, 29, 30, 33, 34, 35, 36, 37, 38, 39, 40, 41, 42, 43, 44, 45, 46, 47] s2 hf16 (fun _ s => .nil) .nil fun a15 hf17 => ?_
     refine c_dt ?_
     exact ⟨z3, true, k3, hf17.to, hS6, hr7⟩
    ·have hr8 := cond_f hb4 hr6
     have hf19 := hf15.lit 26 hb4
     refine c_S 2 [vI p1.mass] [1, 3, 4, 5, 26, 27, 28] s2 hf19 (fun _ s => (.cell (s.box (i := 0) rfl (j := 1) rfl) .nil)) .nil fun a16 hf20 => ?_
     obtain ⟨r2, hd2, hr9⟩ := bind_some hr8
     refine c_call hf20 (f72_ok fuel p1.mass 1 100000000 r2 hd2 z3 _ _ hS6 ) ?_
     rintro v2 ww6 a17 ⟨z4, k4, rfl, hS7⟩ hf21
     refine ⟨fun _ => Sub.of (Zone.le_trans k3 k4) hS7, ?_⟩
     have s3 : Sub z1 (box b2 [vI p1.lot, vI p1.mass] 56 :: box b1 [.slice o_x0 x0.length c_x0] 40 :: L) _ := Sub.of (Zone.le_trans k3 k4) hS7
     refine c_S 3 [] [1, 3, 4, 5, 27, 28, 29, 30, 32] s3 hf21 (fun _ s => .nil) .nil fun a18 hf22 => ?_
     rcases Bool.eq_false_or_eq_true (!r2) with hb5 | hb5
     ·have hr10 := cond_t hb5 hr9
      have hf23 := hf22.lit 32 hb5
      refine c_S 15 [] [1, 3, 4, 5, 27, 28, 29, 30, 33, 34, 35, 36, 37, 38, 39, 40, 41, 42, 43, 44, 45, 46, 47] s3 hf23 (fun _ s => .nil) .nil fun a19 hf24 => ?_
      refine c_dt ?_
      exact ⟨z4, true, (Zone.le_trans k3 k4), hf24.to, hS7, hr10⟩
     ·have hr11 := cond_f hb5 hr9
      have hf26 := hf22.lit 32 hb5
      refine c_S 3 [] [1, 3, 4, 5, 27, 28, 29, 30, 32, 33, 34, 35] s3 hf26 (fun _ s => .nil) .nil fun a20 hf27 => ?_
      rcases Bool.eq_false_or_eq_true (decide (y2 > (0 : Int))) with hb6 | hb6
      ·have hr12 := cond_t hb6 hr11
       have hf28 := hf27.lit 35 hb6
       obtain ⟨p2, hp5115, hr13⟩ := bind_some hr12
       obtain ⟨ad2, ho2, hb7, cc2, hc2, hk2⟩ := SliceR.getI (SliceR.mono k2 hx_x0) hp5115
       subst hc2
       refine c_S 12 [.slice o_x0 x0.length c_x0, .pointer (some ad2), vI p2.lot, vI p1.lot] [1, 3, 4, 5, 27, 28, 29, 30, 33, 34, 35, 36, 37, 38, 39, 40, 41, 42, 43, 44, 45, 46, 47] s3 hf28 (fun _ s => (.cell (s.box (i := 1) rfl (j := 0) rfl) (.prop ho2 (.prop hb7 (.cell (s.cell (hk2 0 _ rfl)) (.cell (s.box (i := 0) rfl (j := 0) rfl) .nil)))))) .nil fun a21 hf29 => ?_
       refine c_dt ?_
       exact ⟨z4, (decide (p2.lot ≥ p1.lot)), (Zone.le_trans k3 k4), hf29.to, hS7, hr13⟩
      ·have hr14 := cond_f hb6 hr11
       have hf31 := hf27.lit 35 hb6
       refine c_S 12 [] [1, 3, 4, 5, 27, 28, 29, 30, 33, 34, 35, 36, 37, 38, 39, 40, 41, 42, 43, 44, 45, 46, 47] s3 hf31 (fun _ s => .nil) .nil fun a22 hf32 => ?_
       refine c_dt ?_
       exact ⟨z4, false, (Zone.le_trans k3 k4), hf32.to, hS7, hr14⟩
   ·rintro a23 ww7 ⟨z2, y3, k5, hf34, hS8, hr15⟩
    refine c_if y3 hf34 (fun hb8 => ?_) (fun hb8 => ?_)
    ·have hr16 := cond_t hb8 hr15
     refine c_sq [] [2] hf34 .nil fun a24 hf35 => ?_
     refine c_ret ?_
     refine r_then ?_
     refine r_block ?_
     refine r_then ?_
     refine r_then ?_
     refine r_block ?_
     refine r_then ?_
     refine c_rt [] (.bool false) hf35 .nil ?_
     obtain rfl := some_eq hr16
     exact ⟨_, rfl, z2, (Zone.le_trans k2 k5), rfl, (St.drop 2 hS8)⟩
    ·have hr17 := cond_f hb8 hr15
     refine c_skip ?_
     refine n_then ?_
     refine c_q [vI p1.mass] [1, 3, 4] hf34 (.cell (hS8.box (i := 0) rfl (j := 1) rfl) .nil) fun a25 hf36 => ?_
     refine n_block ?_
     refine n_then ?_
     refine c_q [] [1, 3, 4] hf36 .nil fun a26 hf37 => ?_
     refine n_then ?_
     exact ⟨n1, Nat.lt_succ_self n1, z2, (w64 (y1 + p1.mass)), (w64 (y2 + (1 : Int))), (Zone.le_trans k2 k5), hf37.to, (St.drop 1 hS8), hr17⟩
  ·have hr18 := cond_f hb2 hr3
   refine c_exit 0 ?_
   refine x_then ?_
   refine x_then ?_
   refine x_block ?_
   refine n_then ?_
   refine c_sq [] [2] hf9 .nil fun a27 hf39 => ?_
   refine c_ret ?_
   refine c_rt [] (.bool (decide (y1 ≤ (100000000 : Int)))) hf39 .nil ?_
   obtain rfl := some_eq hr18
   exact ⟨_, rfl, z1, k2, rfl, (St.drop 1 hS2)⟩
def F92_l1 (x0 : List Part) : Nat → Int → Int → Option (Int)
  | 0, _, _ => none
  | n1 + 1, y1, y2 =>
    let k1 : Int → Int → Option (Int) := F92_l1 x0 n1
    (cond (decide (y2 < (x0.length : Int))) ((getI x0 y2).bind fun p1 => (k1 (w64 (y1 + p1.mass)) (w64 (y2 + (1 : Int))))) (some (y1)))
def F92 (fuel : Nat) (x0 : List Part) : Option (Int) :=
  (F92_l1 x0 fuel 0 0)
set_option maxRecDepth 100000 in
theorem f92_ok (fuel : Nat) (x0 : List Part) (r : Int) (hr : F92 fuel x0 = some r) (h : Zone) (L : List Atom) (w : World) (hS : St h L w) (o_x0 : Option Addr) (c_x0 : Nat) (hx_x0 : SliceR PartT h o_x0 c_x0 x0) :
    Calls Try.prog 92 #[.agg #[.slice o_x0 x0.length c_x0]] w fun e w' => ∃ v, e = .returned v ∧ (∃ h', Zone.le h h' ∧ v = vI r ∧ St h' L w') := by
 refine calls_intro (N := 21) Try.func92 (by kernel_rfl) fun a hf => ?_
 refine c_sr ?_
 refine c_box [.slice o_x0 x0.length c_x0] 40 hS hf fun b1 ww1 a1 hS1 hf1 => ⟨fun _ => trivial, ?_⟩
 refine c_t [] [1] hf1 .nil fun a2 hf2 => ?_
 refine c_sq [] [1, 3] hf2 .nil fun a3 hf3 => ?_
 refine c_seq ?_
 refine c_sq [] [1, 3, 4] hf3 .nil fun a4 hf4 => ?_
 refine c_block 0 ?_
 refine c_loop (fun n a w => ∃ z1 : Zone, ∃ y1 : Int, ∃ y2 : Int, Zone.le h z1 ∧ Fr a 21 [(1, pB b1 0), (3, vI y1), (4, vI y2)] ∧ St z1 (box b1 [.slice o_x0 x0.length c_x0] 40 :: L) w ∧ (F92_l1 x0 n y1 y2) = some r) fuel ⟨h, 0, 0, (Zone.le_refl _), hf4.to, hS1, hr⟩ ?_
 rintro n2 a5 ww2 ⟨z1, y1, y2, k2, hf6, hS2, hr1⟩
 cases n2 with
 | zero => cases hr1
 | succ n1 =>
 refine c_seq ?_
 refine c_sq [.slice o_x0 x0.length c_x0] [1, 3, 4, 9] hf6 (.cell (hS2.box (i := 0) rfl (j := 0) rfl) .nil) fun a6 hf7 => ?_
 refine c_if (decide (y2 < (x0.length : Int))) hf7 (fun hb1 => ?_) (fun hb1 => ?_)
 ·have hr2 := cond_t hb1 hr1
  refine c_skip ?_
  refine n_then ?_
  refine c_seq ?_
  refine c_block 1 ?_
  obtain ⟨p1, hp309, hr3⟩ := bind_some hr2
  obtain ⟨ad1, ho1, hb2, cc1, hc1, hk1⟩ := SliceR.getI (SliceR.mono k2 hx_x0) hp309
  subst hc1
  refine c_q [.slice o_x0 x0.length c_x0, .pointer (some ad1), vI p1.mass] [1, 3, 4] hf7 (.cell (hS2.box (i := 0) rfl (j := 0) rfl) (.prop ho1 (.prop hb2 (.cell (hS2.cell (hk1 1 _ rfl)) .nil)))) fun a7 hf8 => ?_
  refine n_block ?_
  refine n_then ?_
  refine c_q [] [1, 3, 4] hf8 .nil fun a8 hf9 => ?_
  refine n_then ?_
  exact ⟨n1, Nat.lt_succ_self n1, z1, (w64 (y1 + p1.mass)), (w64 (y2 + (1 : Int))), k2, hf9.to, hS2, hr3⟩
 ·have hr4 := cond_f hb1 hr1
  refine c_exit 0 ?_
  refine x_then ?_
  refine x_then ?_
  refine x_block ?_
  refine n_then ?_
  refine c_sq [] [2] hf7 .nil fun a9 hf11 => ?_
  refine c_ret ?_
  refine c_rt [] (vI y1) hf11 .nil ?_
  obtain rfl := some_eq hr4
  exact ⟨_, rfl, z1, k2, rfl, (St.drop 1 hS2)⟩
def F77_l1 (fuel : Nat) (x0 : List (List Part)) : Nat → Int → Int → Option (Int)
  | 0, _, _ => none
  | n1 + 1, y1, y2 =>
    let k1 : Int → Int → Option (Int) := F77_l1 fuel x0 n1
    (cond (decide (y2 < (x0.length : Int))) ((getI x0 y2).bind fun p1 => ((F92 fuel p1).bind fun r1 => (k1 (w64 (y1 + r1)) (w64 (y2 + (1 : Int)))))) (some (y1)))
def F77 (fuel : Nat) (x0 : List (List Part)) : Option (Int) :=
  (F77_l1 fuel x0 fuel 0 0)
set_option maxRecDepth 100000 in
theorem f77_ok (fuel : Nat) (x0 : List (List Part)) (r : Int) (hr : F77 fuel x0 = some r) (h : Zone) (L : List Atom) (w : World) (hS : St h L w) (o_x0 : Option Addr) (c_x0 : Nat) (hx_x0 : SliceR (Ty.slice PartT) h o_x0 c_x0 x0) :
    Calls Try.prog 77 #[.slice o_x0 x0.length c_x0] w fun e w' => ∃ v, e = .returned v ∧ (∃ h', Zone.le h h' ∧ v = vI r ∧ St h' L w') := by
 refine calls_intro (N := 19) Try.func77 (by kernel_rfl) fun a hf => ?_
 refine c_sq [] [0] hf .nil fun a1 hf1 => ?_
 refine c_sq [] [0, 3] hf1 .nil fun a2 hf2 => ?_
 refine c_seq ?_
 refine c_sq [] [0, 3, 4] hf2 .nil fun a3 hf3 => ?_
 refine c_block 0 ?_
 refine c_loop (fun n a w => ∃ z1 : Zone, ∃ y1 : Int, ∃ y2 : Int, Zone.le h z1 ∧ Fr a 19 [(0, .slice o_x0 x0.length c_x0), (3, vI y1), (4, vI y2)] ∧ St z1 (L) w ∧ (F77_l1 fuel x0 n y1 y2) = some r) fuel ⟨h, 0, 0, (Zone.le_refl _), hf3.to, hS, hr⟩ ?_
 rintro n2 a4 ww1 ⟨z1, y1, y2, k2, hf5, hS1, hr1⟩
 cases n2 with
 | zero => cases hr1
 | succ n1 =>
 refine c_seq ?_
 refine c_sq [] [0, 3, 4, 8] hf5 .nil fun a5 hf6 => ?_
 refine c_if (decide (y2 < (x0.length : Int))) hf6 (fun hb1 => ?_) (fun hb1 => ?_)
 ·have hr2 := cond_t hb1 hr1
  refine c_skip ?_
  refine n_then ?_
  refine c_seq ?_
  refine c_block 1 ?_
  refine c_reg ?_
  obtain ⟨p1, hp604, hr3⟩ := bind_some hr2
  obtain ⟨ad1, ho1, hb2, cc1, hc1, hk1⟩ := SliceR.getI (SliceR.mono k2 hx_x0) hp604
  obtain ⟨e1, q1, rfl, hx1⟩ := hc1
  refine c_n 5 [.pointer (some ad1), .slice e1 p1.length q1] [0, 4, 11, 15] hf6 (.prop ho1 (.prop hb2 (.cell (hS1.cell (hk1 0 _ rfl)) .nil))) fun a6 hf7 => ?_
  obtain ⟨r1, hd1, hr4⟩ := bind_some hr3
  refine c_call hf7 (f92_ok fuel p1 r1 hd1 z1 _ _ hS1 e1 q1 hx1) ?_
  rintro v1 ww2 a7 ⟨z2, k3, rfl, hS2⟩ hf8
  refine ⟨fun _ => trivial, ?_⟩
  refine c_z [] [0, 3, 4] hf8 .nil fun a8 hf9 => ?_
  refine n_block ?_
  refine n_then ?_
  refine c_q [] [0, 3, 4] hf9 .nil fun a9 hf10 => ?_
  refine n_then ?_
  exact ⟨n1, Nat.lt_succ_self n1, z2, (w64 (y1 + r1)), (w64 (y2 + (1 : Int))), (Zone.le_trans k2 k3), hf10.to, hS2, hr4⟩
 ·have hr5 := cond_f hb1 hr1
  refine c_exit 0 ?_
  refine x_then ?_
  refine x_then ?_
  refine x_block ?_
  refine n_then ?_
  refine c_sq [] [2] hf6 .nil fun a10 hf12 => ?_
  refine c_ret ?_
  refine c_rt [] (vI y1) hf12 .nil ?_
  obtain rfl := some_eq hr5
  exact ⟨_, rfl, z1, k2, rfl, hS1⟩
def F22_l3 (fuel : Nat) (k1 : Int → Option (Int)) (x0_lots : List Lot) (p1 : List (List Part)) (y1 : Int) : Nat → Int → Option (Int)
  | 0, _ => none
  | n1 + 1, y2 =>
    let k2 : Int → Option (Int) := F22_l3 fuel k1 x0_lots p1 y1 n1
    ((getI p1 y1).bind fun p2 => (cond (decide (y2 < (p2.length : Int))) ((getI p1 y1).bind fun p3 => ((getI p3 y2).bind fun p4 => ((F56 fuel x0_lots p4.lot).bind fun r1 => (cond (decide (r1 < (0 : Int))) (some (62)) (k2 (w64 (y2 + (1 : Int)))))))) (k1 (w64 (y1 + (1 : Int))))))
def F22_j1 (fuel : Nat) (k1 : Int → Option (Int)) (x0_lots : List Lot) (p1 : List (List Part)) (y1 : Int) (y3 : Bool) : Option (Int) :=
  (cond y3 (some (62)) (F22_l3 fuel k1 x0_lots p1 y1 fuel 0))
def F22_l2 (fuel : Nat) (k3 : Int → Option (Int)) (x0_lots : List Lot) (y4 : Int) (p1 : List (List Part)) : Nat → Int → Option (Int)
  | 0, _ => none
  | n2 + 1, y1 =>
    let k1 : Int → Option (Int) := F22_l2 fuel k3 x0_lots y4 p1 n2
    (cond (decide (y1 < (p1.length : Int))) ((getI p1 y1).bind fun p5 => ((F76 fuel p5).bind fun r2 => (cond (!r2) (F22_j1 fuel k1 x0_lots p1 y1 true) ((getI p1 y1).bind fun p6 => (F22_j1 fuel k1 x0_lots p1 y1 ((p6.length : Int) == (0 : Int))))))) ((F77 fuel p1).bind fun r3 => (cond (decide (r3 > (100000000 : Int))) (some (62)) (k3 (w64 (y4 + (1 : Int)))))))
def F22_l1 (fuel : Nat) (x0_lots : List Lot) (x0_holds : List (List (List Part))) : Nat → Int → Option (Int)
  | 0, _ => none
  | n3 + 1, y4 =>
    let k3 : Int → Option (Int) := F22_l1 fuel x0_lots x0_holds n3
    (cond (decide (y4 < (9 : Int))) ((getI x0_holds y4).bind fun p1 => (cond (decide ((p1.length : Int) > (4 : Int))) (some (62)) (F22_l2 fuel k3 x0_lots y4 p1 fuel 0))) (some (0)))
def F22 (fuel : Nat) (x0_lots : List Lot) (x0_holds : List (List (List Part))) : Option (Int) :=
  ((F20 fuel x0_lots).bind fun r4 => (cond (r4 != (0 : Int)) (some (62)) (F22_l1 fuel x0_lots x0_holds fuel 0)))
set_option maxRecDepth 100000 in
theorem f22_ok (fuel : Nat) (x0_lots : List Lot) (x0_holds : List (List (List Part))) (r : Int) (hr : F22 fuel x0_lots x0_holds = some r) (h : Zone) (L : List Atom) (w : World) (hS : St h L w) (o_x0_lots : Option Addr) (c_x0_lots : Nat) (hx_x0_lots : SliceR LotT h o_x0_lots c_x0_lots x0_lots) (v0_x0_holds v1_x0_holds v2_x0_holds v3_x0_holds v4_x0_holds v5_x0_holds v6_x0_holds v7_x0_holds v8_x0_holds : Value) (hx_x0_holds : (Ty.arr 9 (Ty.slice (Ty.slice PartT))).rep h [v0_x0_holds, v1_x0_holds, v2_x0_holds, v3_x0_holds, v4_x0_holds, v5_x0_holds, v6_x0_holds, v7_x0_holds, v8_x0_holds] x0_holds) :
    Calls Try.prog 22 #[.agg #[.slice o_x0_lots x0_lots.length c_x0_lots, v0_x0_holds, v1_x0_holds, v2_x0_holds, v3_x0_holds, v4_x0_holds, v5_x0_holds, v6_x0_holds, v7_x0_holds, v8_x0_holds]] w fun e w' => ∃ v, e = .returned v ∧ (∃ h', Zone.le h h' ∧ v = vI r ∧ St h' L w') := by
 refine calls_intro (N := 69) Try.func22 (by kernel_rfl) fun a hf => ?_
 refine c_sr ?_
 refine c_box [.slice o_x0_lots x0_lots.length c_x0_lots, v0_x0_holds, v1_x0_holds, v2_x0_holds, v3_x0_holds, v4_x0_holds, v5_x0_holds, v6_x0_holds, v7_x0_holds, v8_x0_holds] 26 hS hf fun b1 ww1 a1 hS1 hf1 => ⟨fun _ => trivial, ?_⟩
 refine c_t [] [1] hf1 .nil fun a2 hf2 => ?_
 refine c_seq ?_
 refine c_sr ?_
 refine c_n 2 [.slice o_x0_lots x0_lots.length c_x0_lots] [1, 8] hf2 (.cell (hS1.box (i := 0) rfl (j := 0) rfl) .nil) fun a3 hf3 => ?_
 obtain ⟨r4, hd1, hr1⟩ := bind_some hr
 refine c_call hf3 (f20_ok fuel x0_lots r4 hd1 h _ _ hS1 o_x0_lots c_x0_lots hx_x0_lots) ?_
 rintro v1 ww2 a4 ⟨z1, k4, rfl, hS2⟩ hf4
 refine ⟨fun _ => trivial, ?_⟩
 refine c_t [] [1, 10] hf4 .nil fun a5 hf5 => ?_
 refine c_if (r4 != (0 : Int)) hf5 (fun hb1 => ?_) (fun hb1 => ?_)
 ·have hr2 := cond_t hb1 hr1
  refine c_sq [] [2] hf5 .nil fun a6 hf6 => ?_
  refine c_ret ?_
  refine r_then ?_
  refine c_rt [] (vI 62) hf6 .nil ?_
  obtain rfl := some_eq hr2
  exact ⟨_, rfl, z1, k4, rfl, (St.drop 1 hS2)⟩
 ·have hr3 := cond_f hb1 hr1
  refine c_skip ?_
  refine n_then ?_
  refine c_seq ?_
  refine c_sq [] [1, 3] hf5 .nil fun a7 hf7 => ?_
  refine c_block 0 ?_
  refine c_loop (fun n a w => ∃ z2 : Zone, ∃ y4 : Int, Zone.le z1 z2 ∧ Fr a 69 [(1, pB b1 0), (3, vI y4)] ∧ St z2 (box b1 [.slice o_x0_lots x0_lots.length c_x0_lots, v0_x0_holds, v1_x0_holds, v2_x0_holds, v3_x0_holds, v4_x0_holds, v5_x0_holds, v6_x0_holds, v7_x0_holds, v8_x0_holds] 26 :: L) w ∧ (F22_l1 fuel x0_lots x0_holds n y4) = some r) fuel ⟨z1, 0, (Zone.le_refl _), hf7.to, hS2, hr3⟩ ?_
  rintro n4 a8 ww3 ⟨z2, y4, k5, hf9, hS3, hr4⟩
  cases n4 with
  | zero => cases hr4
  | succ n3 =>
  refine c_seq ?_
  refine c_sq [] [1, 3, 12] hf9 .nil fun a9 hf10 => ?_
  refine c_if (decide (y4 < (9 : Int))) hf10 (fun hb2 => ?_) (fun hb2 => ?_)
  ·have hr5 := cond_t hb2 hr4
   refine c_skip ?_
   refine n_then ?_
   refine c_seq ?_
   refine c_block 1 ?_
   obtain ⟨p1, hp183580, hr6⟩ := bind_some hr5
   obtain ⟨hb3, _, hv1, e1, q1, hehv183584, hx1⟩ := arrGet (Ty.mono _ (Zone.le_trans k4 k5) hx_x0_holds) rfl hp183580
   obtain rfl := List.head_eq_of_cons_eq hehv183584
   refine c_sq [.slice e1 p1.length q1] [1, 3, 4] hf10 (.prop hb3 (.cell ((arrAddr b1 1 y4.toNat) ▸ (hS3.box (i := 0) rfl (getElem?_app_right [.slice o_x0_lots x0_lots.length c_x0_lots] _ _ hv1 []))) .nil)) fun a10 hf11 => ?_
   refine c_seq ?_
   refine c_sq [] [1, 3, 4, 21] hf11 .nil fun a11 hf12 => ?_
   refine c_if (decide ((p1.length : Int) > (4 : Int))) hf12 (fun hb4 => ?_) (fun hb4 => ?_)
   ·have hr7 := cond_t hb4 hr6
    refine c_sq [] [2] hf12 .nil fun a12 hf13 => ?_
    refine c_ret ?_
    refine r_then ?_
    refine r_block ?_
    refine r_then ?_
    refine r_then ?_
    refine r_block ?_
    refine r_then ?_
    refine c_rt [] (vI 62) hf13 .nil ?_
    obtain rfl := some_eq hr7
    exact ⟨_, rfl, z2, (Zone.le_trans k4 k5), rfl, (St.drop 1 hS3)⟩
   ·have hr8 := cond_f hb4 hr6
    refine c_skip ?_
    refine n_then ?_
    refine c_seq ?_
    refine c_sq [] [1, 3, 4, 5] hf12 .nil fun a13 hf14 => ?_
    refine c_block 2 ?_
    refine c_loop (fun n a w => ∃ z3 : Zone, ∃ y1 : Int, Zone.le z2 z3 ∧ Fr a 69 [(1, pB b1 0), (3, vI y4), (4, .slice e1 p1.length q1), (5, vI y1)] ∧ St z3 (box b1 [.slice o_x0_lots x0_lots.length c_x0_lots, v0_x0_holds, v1_x0_holds, v2_x0_holds, v3_x0_holds, v4_x0_holds, v5_x0_holds, v6_x0_holds, v7_x0_holds, v8_x0_holds] 26 :: L) w ∧ (F22_l2 fuel (F22_l1 fuel x0_lots x0_holds n3) x0_lots y4 p1 n y1) = some r) fuel ⟨z2, 0, (Zone.le_refl _), hf14.to, hS3, hr8⟩ ?_
    rintro n5 a14 ww4 ⟨z3, y1, k6, hf16, hS4, hr9⟩
    cases n5 with
    | zero => cases hr9
    | succ n2 =>
    refine c_seq ?_
    refine c_sq [] [1, 3, 4, 5, 25] hf16 .nil fun a15 hf17 => ?_
    refine c_if (decide (y1 < (p1.length : Int))) hf17 (fun hb5 => ?_) (fun hb5 => ?_)
    ·have hr10 := cond_t hb5 hr9
     refine c_skip ?_
     refine n_then ?_
     refine c_seq ?_
     refine c_block 3 ?_
     refine c_seq ?_
     refine c_mid (fun a w => ∃ z4 : Zone, ∃ y3 : Bool, Zone.le z3 z4 ∧ Fr a 69 [(1, pB b1 0), (3, vI y4), (4, .slice e1 p1.length q1), (5, vI y1), (42, .bool y3)] ∧ St z4 (box b1 [.slice o_x0_lots x0_lots.length c_x0_lots, v0_x0_holds, v1_x0_holds, v2_x0_holds, v3_x0_holds, v4_x0_holds, v5_x0_holds, v6_x0_holds, v7_x0_holds, v8_x0_holds] 26 :: L) w ∧ (F22_j1 fuel (F22_l2 fuel (F22_l1 fuel x0_lots x0_holds n3) x0_lots y4 p1 n2) x0_lots p1 y1 y3) = some r) ?_ ?_
     ·skip
      refine c_reg ?_
      obtain ⟨p5, hp195252, hr11⟩ := bind_some hr10
      obtain ⟨ad1, ho1, hb6, cc1, hc1, hk1⟩ := SliceR.getI (SliceR.mono k6 hx1) hp195252
      obtain ⟨e2, q2, rfl, hx2⟩ := hc1
      refine c_n 4 [.pointer (some ad1), .slice e2 p5.length q2] [1, 3, 4, 5, 31] hf17 (.prop ho1 (.prop hb6 (.cell (hS4.cell (hk1 0 _ rfl)) .nil))) fun a16 hf18 => ?_
      obtain ⟨r2, hd2, hr12⟩ := bind_some hr11
      refine c_call hf18 (f76_ok fuel p5 r2 hd2 z3 _ _ hS4 e2 q2 hx2) ?_
      rintro v2 ww5 a17 ⟨z5, k7, rfl, hS5⟩ hf19
      refine ⟨fun _ => trivial, ?_⟩
      refine c_n 2 [] [1, 3, 4, 5, 34] hf19 .nil fun a18 hf20 => ?_
      rcases Bool.eq_false_or_eq_true (!r2) with hb7 | hb7
      ·have hr13 := cond_t hb7 hr12
       have hf21 := hf20.lit 34 hb7
       refine c_t [] [1, 3, 4, 5, 35, 36, 37, 38, 39, 40, 41, 42] hf21 .nil fun a19 hf22 => ?_
       exact ⟨z5, true, k7, hf22.to, hS5, hr13⟩
      ·have hr14 := cond_f hb7 hr12
       have hf24 := hf20.lit 34 hb7
       obtain ⟨p6, hp195291, hr15⟩ := bind_some hr14
       obtain ⟨ad2, ho2, hb8, cc2, hc2, hk2⟩ := SliceR.getI (SliceR.mono (Zone.le_trans k6 k7) hx1) hp195291
       obtain ⟨e3, q3, rfl, hx3⟩ := hc2
       refine c_t [.pointer (some ad2), .slice e3 p6.length q3] [1, 3, 4, 5, 35, 36, 37, 38, 39, 40, 41, 42] hf24 (.prop ho2 (.prop hb8 (.cell (hS5.cell (hk2 0 _ rfl)) .nil))) fun a20 hf25 => ?_
       exact ⟨z5, ((p6.length : Int) == (0 : Int)), k7, hf25.to, hS5, hr15⟩
     ·rintro a21 ww6 ⟨z4, y3, k8, hf27, hS6, hr16⟩
      refine c_if y3 hf27 (fun hb9 => ?_) (fun hb9 => ?_)
      ·have hr17 := cond_t hb9 hr16
       refine c_sq [] [2] hf27 .nil fun a22 hf28 => ?_
       refine c_ret ?_
       refine r_then ?_
       refine r_block ?_
       refine r_then ?_
       refine r_then ?_
       refine r_block ?_
       refine r_then ?_
       refine r_block ?_
       refine r_then ?_
       refine r_then ?_
       refine r_block ?_
       refine r_then ?_
       refine c_rt [] (vI 62) hf28 .nil ?_
       obtain rfl := some_eq hr17
       exact ⟨_, rfl, z4, (Zone.le_trans (Zone.le_trans (Zone.le_trans k4 k5) k6) k8), rfl, (St.drop 1 hS6)⟩
      ·have hr18 := cond_f hb9 hr16
       refine c_skip ?_
       refine n_then ?_
       refine c_sq [] [1, 3, 4, 5, 6] hf27 .nil fun a23 hf29 => ?_
       refine c_block 4 ?_
       refine c_loop (fun n a w => ∃ z6 : Zone, ∃ y2 : Int, Zone.le z4 z6 ∧ Fr a 69 [(1, pB b1 0), (3, vI y4), (4, .slice e1 p1.length q1), (5, vI y1), (6, vI y2)] ∧ St z6 (box b1 [.slice o_x0_lots x0_lots.length c_x0_lots, v0_x0_holds, v1_x0_holds, v2_x0_holds, v3_x0_holds, v4_x0_holds, v5_x0_holds, v6_x0_holds, v7_x0_holds, v8_x0_holds] 26 :: L) w ∧ (F22_l3 fuel (F22_l2 fuel (F22_l1 fuel x0_lots x0_holds n3) x0_lots y4 p1 n2) x0_lots p1 y1 n y2) = some r) fuel ⟨z4, 0, (Zone.le_refl _), hf29.to, hS6, hr18⟩ ?_
       rintro n6 a24 ww7 ⟨z6, y2, k9, hf31, hS7, hr19⟩
       cases n6 with
       | zero => cases hr19
       | succ n1 =>
       refine c_seq ?_
       obtain ⟨p2, hp195728, hr20⟩ := bind_some hr19
       obtain ⟨ad3, ho3, hb10, cc3, hc3, hk3⟩ := SliceR.getI (SliceR.mono (Zone.le_trans (Zone.le_trans k6 k8) k9) hx1) hp195728
       obtain ⟨e4, q4, rfl, hx4⟩ := hc3
       refine c_sq [.pointer (some ad3), .slice e4 p2.length q4] [1, 3, 4, 5, 6, 50] hf31 (.prop ho3 (.prop hb10 (.cell (hS7.cell (hk3 0 _ rfl)) .nil))) fun a25 hf32 => ?_
       refine c_if (decide (y2 < (p2.length : Int))) hf32 (fun hb11 => ?_) (fun hb11 => ?_)
       ·have hr21 := cond_t hb11 hr20
        refine c_skip ?_
        refine n_then ?_
        refine c_seq ?_
        refine c_block 5 ?_
        refine c_seq ?_
        have hS8 := hS7.drew
        refine c_regD [(0, true), (1, true), (2, true), (3, true), (4, true), (5, true), (6, true), (7, true), (8, true), (9, true), (10, true), (11, false), (12, true)] [11] (fun x => x = ww7.drew) rfl ?_
        obtain ⟨p3, hp195792, hr22⟩ := bind_some hr21
        obtain ⟨ad4, ho4, hb12, cc4, hc4, hk4⟩ := SliceR.getI (SliceR.mono (Zone.le_trans (Zone.le_trans k6 k8) k9) hx1) hp195792
        obtain ⟨e5, q5, rfl, hx5⟩ := hc4
        obtain ⟨p4, hp195804, hr23⟩ := bind_some hr22
        obtain ⟨ad5, ho5, hb13, cc5, hc5, hk5⟩ := SliceR.getI hx5 hp195804
        subst hc5
        refine c_E 11 [.slice o_x0_lots x0_lots.length c_x0_lots, .pointer (some ad4), .slice e5 p3.length q5, .pointer (some ad5), vI p4.lot] [1, 3, 4, 5, 6, 54, 63] hf32 (.cell (hS8.box (i := 0) rfl (j := 0) rfl) (.prop ho4 (.prop hb12 (.cell (hS8.cell (hk4 0 _ rfl)) (.prop ho5 (.prop hb13 (.cell (hS8.cell (hk5 0 _ rfl)) .nil))))))) .nil fun a26 hf33 => ?_
        obtain ⟨r1, hd3, hr24⟩ := bind_some hr23
        refine c_call hf33 (f56_ok fuel x0_lots p4.lot r1 hd3 z6 _ _ hS8 o_x0_lots c_x0_lots (SliceR.mono (Zone.le_trans (Zone.le_trans (Zone.le_trans (Zone.le_trans k4 k5) k6) k8) k9) hx_x0_lots)) ?_
        rintro v3 ww8 a27 ⟨z7, k10, rfl, hS9⟩ hf34
        refine ⟨fun e => absurd e (by decide), ?_⟩
        refine p_qP 1 [] [(1, pB b1 0), (3, vI y4), (4, .slice e1 p1.length q1), (5, vI y1), (6, vI y2), (65, .bool (decide (r1 < (0 : Int))))] [] hf34 (by kernel_rfl) (fun _ => .nil) fun a28 hf35 => ?_
        refine c_dt ?_
        refine c_if (decide (r1 < (0 : Int))) hf35 (fun hb14 => ?_) (fun hb14 => ?_)
        ·have hr25 := cond_t hb14 hr24
         refine c_sq [] [2] hf35 .nil fun a29 hf36 => ?_
         refine c_ret ?_
         refine r_block ?_
         refine r_then ?_
         refine r_then ?_
         refine r_block ?_
         refine r_block ?_
         refine r_then ?_
         refine r_then ?_
         refine r_block ?_
         refine r_then ?_
         refine r_block ?_
         refine r_then ?_
         refine r_then ?_
         refine r_block ?_
         refine r_then ?_
         refine c_rt [] (vI 62) hf36 .nil ?_
         obtain rfl := some_eq hr25
         exact ⟨_, rfl, z7, (Zone.le_trans (Zone.le_trans (Zone.le_trans (Zone.le_trans (Zone.le_trans k4 k5) k6) k8) k9) k10), rfl, (St.drop 1 hS9)⟩
        ·have hr26 := cond_f hb14 hr24
         refine c_skip ?_
         refine n_block ?_
         refine n_then ?_
         refine c_q [] [1, 3, 4, 5, 6] hf35 .nil fun a30 hf37 => ?_
         refine n_then ?_
         exact ⟨n1, Nat.lt_succ_self n1, z7, (w64 (y2 + (1 : Int))), (Zone.le_trans k9 k10), hf37.to, hS9, hr26⟩
       ·have hr27 := cond_f hb11 hr20
        refine c_exit 4 ?_
        refine x_then ?_
        refine x_then ?_
        refine x_block ?_
        refine n_block ?_
        refine n_then ?_
        refine c_q [] [1, 3, 4, 5] hf32 .nil fun a31 hf39 => ?_
        refine n_then ?_
        exact ⟨n2, Nat.lt_succ_self n2, z6, (w64 (y1 + (1 : Int))), (Zone.le_trans (Zone.le_trans k6 k8) k9), hf39.to, hS7, hr27⟩
    ·have hr28 := cond_f hb5 hr9
     refine c_exit 2 ?_
     refine x_then ?_
     refine x_then ?_
     refine x_block ?_
     refine n_then ?_
     refine c_sr ?_
     refine c_n 1 [] [1, 3, 66] hf17 .nil fun a32 hf41 => ?_
     obtain ⟨r3, hd4, hr29⟩ := bind_some hr28
     refine c_call hf41 (f77_ok fuel p1 r3 hd4 z3 _ _ hS4 e1 q1 (SliceR.mono k6 hx1)) ?_
     rintro v4 ww9 a33 ⟨z8, k11, rfl, hS10⟩ hf42
     refine ⟨fun _ => trivial, ?_⟩
     refine c_t [] [1, 3, 68] hf42 .nil fun a34 hf43 => ?_
     refine c_if (decide (r3 > (100000000 : Int))) hf43 (fun hb15 => ?_) (fun hb15 => ?_)
     ·have hr30 := cond_t hb15 hr29
      refine c_sq [] [2] hf43 .nil fun a35 hf44 => ?_
      refine c_ret ?_
      refine r_block ?_
      refine r_then ?_
      refine r_then ?_
      refine r_block ?_
      refine r_then ?_
      refine c_rt [] (vI 62) hf44 .nil ?_
      obtain rfl := some_eq hr30
      exact ⟨_, rfl, z8, (Zone.le_trans (Zone.le_trans (Zone.le_trans k4 k5) k6) k11), rfl, (St.drop 1 hS10)⟩
     ·have hr31 := cond_f hb15 hr29
      refine c_skip ?_
      refine n_block ?_
      refine n_then ?_
      refine c_q [] [1, 3] hf43 .nil fun a36 hf45 => ?_
      refine n_then ?_
      exact ⟨n3, Nat.lt_succ_self n3, z8, (w64 (y4 + (1 : Int))), (Zone.le_trans (Zone.le_trans k5 k6) k11), hf45.to, hS10, hr31⟩
  ·have hr32 := cond_f hb2 hr4
   refine c_exit 0 ?_
   refine x_then ?_
   refine x_then ?_
   refine x_block ?_
   refine n_then ?_
   refine c_sq [] [2] hf10 .nil fun a37 hf47 => ?_
   refine c_ret ?_
   refine c_rt [] (vI 0) hf47 .nil ?_
   obtain rfl := some_eq hr32
   exact ⟨_, rfl, z2, (Zone.le_trans k4 k5), rfl, (St.drop 1 hS3)⟩
def F118 (fuel : Nat) (x0 : Int) : Option (Bool) :=
  ((F72 fuel x0 0 8).bind fun r1 => (some (r1)))
set_option maxRecDepth 100000 in
theorem f118_ok (fuel : Nat) (x0 : Int) (r : Bool) (hr : F118 fuel x0 = some r) (h : Zone) (L : List Atom) (w : World) (hS : St h L w)  :
    Calls Try.prog 118 #[vI x0] w fun e w' => ∃ v, e = .returned v ∧ (∃ h', Zone.le h h' ∧ v = .bool r ∧ St h' L w') := by
 refine calls_intro (N := 5) Try.func118 (by kernel_rfl) fun a hf => ?_
 refine c_sq [] [0] hf .nil fun a1 hf1 => ?_
 refine c_sr ?_
 refine c_n 1 [] [3] hf1 .nil fun a2 hf2 => ?_
 obtain ⟨r1, hd1, hr1⟩ := bind_some hr
 refine c_call hf2 (f72_ok fuel x0 0 8 r1 hd1 h _ _ hS ) ?_
 rintro v1 ww1 a3 ⟨z1, k1, rfl, hS1⟩ hf3
 refine ⟨fun _ => trivial, ?_⟩
 refine c_t [] [2] hf3 .nil fun a4 hf4 => ?_
 refine c_ret ?_
 refine c_rt [] (.bool r1) hf4 .nil ?_
 obtain rfl := some_eq hr1
 exact ⟨_, rfl, z1, k1, rfl, hS1⟩
def F79_j2 (y1 : Bool) : Option (Bool) :=
  (some (y1))
def F79_j5 (y2 : Bool) : Option (Bool) :=
  (some (y2))
def F79_j6 (y3 : Bool) : Option (Bool) :=
  (some (y3))
def F79_j7 (y4 : Bool) : Option (Bool) :=
  (some (y4))
def F79_j4 (fuel : Nat) (x0_lots : List Lot) (x1_kind : Int) (x1_lot : Int) (x1_from : Int) (x1_to : Int) (y5 : Bool) : Option (Bool) :=
  (cond y5 (cond (x1_from == (0 : Int)) ((F56 fuel x0_lots x1_lot).bind fun r1 => (F79_j5 (decide (r1 ≥ (0 : Int))))) (F79_j5 false)) (cond (x1_kind == (4 : Int)) (cond (x1_lot == (0 : Int)) (F79_j6 (x1_from != x1_to)) (F79_j6 false)) (cond (x1_lot == (0 : Int)) (F79_j7 (x1_to == (0 : Int))) (F79_j7 false))))
def F79_j3 (fuel : Nat) (x0_lots : List Lot) (x1_kind : Int) (x1_lot : Int) (x1_from : Int) (x1_to : Int) (y6 : Bool) : Option (Bool) :=
  (cond y6 (some (false)) (cond (x1_kind == (1 : Int)) (F79_j4 fuel x0_lots x1_kind x1_lot x1_from x1_to (x1_kind == (1 : Int))) (F79_j4 fuel x0_lots x1_kind x1_lot x1_from x1_to (x1_kind == (2 : Int)))))
def F79_j1 (fuel : Nat) (x0_lots : List Lot) (x1_kind : Int) (x1_lot : Int) (x1_from : Int) (x1_to : Int) (x1_mass : Int) (y7 : Bool) : Option (Bool) :=
  (cond y7 (some (false)) (cond (x1_kind == (6 : Int)) (cond (x1_lot == (0 : Int)) (cond (x1_to == (0 : Int)) (cond (x1_mass == (0 : Int)) ((F118 fuel x1_from).bind fun r2 => (F79_j2 r2)) (F79_j2 false)) (F79_j2 false)) (F79_j2 false)) ((F72 fuel x1_mass 1 100000000).bind fun r3 => (cond (!r3) (F79_j3 fuel x0_lots x1_kind x1_lot x1_from x1_to true) ((F118 fuel x1_from).bind fun r4 => (cond (!r4) (F79_j3 fuel x0_lots x1_kind x1_lot x1_from x1_to true) ((F118 fuel x1_to).bind fun r5 => (F79_j3 fuel x0_lots x1_kind x1_lot x1_from x1_to (!r5)))))))))
def F79 (fuel : Nat) (x0_lots : List Lot) (x0_holds : List (List (List Part))) (x1_kind : Int) (x1_lot : Int) (x1_from : Int) (x1_to : Int) (x1_mass : Int) : Option (Bool) :=
  (cond (decide (x1_kind < (1 : Int))) (F79_j1 fuel x0_lots x1_kind x1_lot x1_from x1_to x1_mass true) (F79_j1 fuel x0_lots x1_kind x1_lot x1_from x1_to x1_mass (decide (x1_kind > (6 : Int)))))
set_option maxRecDepth 100000 in
theorem f79_ok (fuel : Nat) (x0_lots : List Lot) (x0_holds : List (List (List Part))) (x1_kind : Int) (x1_lot : Int) (x1_from : Int) (x1_to : Int) (x1_mass : Int) (r : Bool) (hr : F79 fuel x0_lots x0_holds x1_kind x1_lot x1_from x1_to x1_mass = some r) (h : Zone) (L : List Atom) (w : World) (hS : St h L w) (o_x0_lots : Option Addr) (c_x0_lots : Nat) (hx_x0_lots : SliceR LotT h o_x0_lots c_x0_lots x0_lots) (v0_x0_holds v1_x0_holds v2_x0_holds v3_x0_holds v4_x0_holds v5_x0_holds v6_x0_holds v7_x0_holds v8_x0_holds : Value) (hx_x0_holds : (Ty.arr 9 (Ty.slice (Ty.slice PartT))).rep h [v0_x0_holds, v1_x0_holds, v2_x0_holds, v3_x0_holds, v4_x0_holds, v5_x0_holds, v6_x0_holds, v7_x0_holds, v8_x0_holds] x0_holds) :
    Calls Try.prog 79 #[.agg #[.slice o_x0_lots x0_lots.length c_x0_lots, v0_x0_holds, v1_x0_holds, v2_x0_holds, v3_x0_holds, v4_x0_holds, v5_x0_holds, v6_x0_holds, v7_x0_holds, v8_x0_holds], .agg #[vI x1_kind, vI x1_lot, vI x1_from, vI x1_to, vI x1_mass]] w fun e w' => ∃ v, e = .returned v ∧ (∃ h', Zone.le h h' ∧ v = .bool r ∧ St h' L w') := by
 refine calls_intro (N := 86) Try.func79 (by kernel_rfl) fun a hf => ?_
 refine c_sr ?_
 refine c_box [.slice o_x0_lots x0_lots.length c_x0_lots, v0_x0_holds, v1_x0_holds, v2_x0_holds, v3_x0_holds, v4_x0_holds, v5_x0_holds, v6_x0_holds, v7_x0_holds, v8_x0_holds] 26 hS hf fun b1 ww1 a1 hS1 hf1 => ⟨fun _ => trivial, ?_⟩
 refine c_box [vI x1_kind, vI x1_lot, vI x1_from, vI x1_to, vI x1_mass] 28 hS1 hf1 fun b2 ww2 a2 hS2 hf2 => ⟨fun _ => trivial, ?_⟩
 refine c_t [] [2, 3] hf2 .nil fun a3 hf3 => ?_
 refine c_seq ?_
 refine c_mid (fun a w => ∃ z1 : Zone, ∃ y7 : Bool, Zone.le h z1 ∧ Fr a 86 [(2, pB b1 0), (3, pB b2 0), (12, .bool y7)] ∧ St z1 (box b2 [vI x1_kind, vI x1_lot, vI x1_from, vI x1_to, vI x1_mass] 28 :: box b1 [.slice o_x0_lots x0_lots.length c_x0_lots, v0_x0_holds, v1_x0_holds, v2_x0_holds, v3_x0_holds, v4_x0_holds, v5_x0_holds, v6_x0_holds, v7_x0_holds, v8_x0_holds] 26 :: L) w ∧ (F79_j1 fuel x0_lots x1_kind x1_lot x1_from x1_to x1_mass y7) = some r) ?_ ?_
 ·skip
  refine c_reg ?_
  refine c_n 4 [vI x1_kind] [2, 3, 8] hf3 (.cell (hS2.box (i := 0) rfl (j := 0) rfl) .nil) fun a4 hf4 => ?_
  rcases Bool.eq_false_or_eq_true (decide (x1_kind < (1 : Int))) with hb1 | hb1
  ·have hr1 := cond_t hb1 hr
   have hf5 := hf4.lit 8 hb1
   refine c_t [] [2, 3, 12] hf5 .nil fun a5 hf6 => ?_
   exact ⟨h, true, (Zone.le_refl _), hf6.to, hS2, hr1⟩
  ·have hr2 := cond_f hb1 hr
   have hf8 := hf4.lit 8 hb1
   refine c_t [vI x1_kind] [2, 3, 12] hf8 (.cell (hS2.box (i := 0) rfl (j := 0) rfl) .nil) fun a6 hf9 => ?_
   exact ⟨h, (decide (x1_kind > (6 : Int))), (Zone.le_refl _), hf9.to, hS2, hr2⟩
 ·rintro a7 ww3 ⟨z1, y7, k1, hf11, hS3, hr3⟩
  refine c_if y7 hf11 (fun hb2 => ?_) (fun hb2 => ?_)
  ·have hr4 := cond_t hb2 hr3
   refine c_sq [] [4] hf11 .nil fun a8 hf12 => ?_
   refine c_ret ?_
   refine r_then ?_
   refine c_rt [] (.bool false) hf12 .nil ?_
   obtain rfl := some_eq hr4
   exact ⟨_, rfl, z1, k1, rfl, (St.drop 2 hS3)⟩
  ·have hr5 := cond_f hb2 hr3
   refine c_skip ?_
   refine n_then ?_
   refine c_seq ?_
   refine c_sq [vI x1_kind] [2, 3, 15] hf11 (.cell (hS3.box (i := 0) rfl (j := 0) rfl) .nil) fun a9 hf13 => ?_
   refine c_if (x1_kind == (6 : Int)) hf13 (fun hb3 => ?_) (fun hb3 => ?_)
   ·have hr6 := cond_t hb3 hr5
    refine c_mid (fun a w => ∃ z2 : Zone, ∃ y1 : Bool, Zone.le z1 z2 ∧ Fr a 86 [(4, .bool y1)] ∧ St z2 (box b2 [vI x1_kind, vI x1_lot, vI x1_from, vI x1_to, vI x1_mass] 28 :: box b1 [.slice o_x0_lots x0_lots.length c_x0_lots, v0_x0_holds, v1_x0_holds, v2_x0_holds, v3_x0_holds, v4_x0_holds, v5_x0_holds, v6_x0_holds, v7_x0_holds, v8_x0_holds] 26 :: L) w ∧ (F79_j2 y1) = some r) ?_ ?_
    ·skip
     refine c_reg ?_
     refine c_n 4 [vI x1_lot] [3, 19] hf13 (.cell (hS3.box (i := 0) rfl (j := 1) rfl) .nil) fun a10 hf14 => ?_
     rcases Bool.eq_false_or_eq_true (x1_lot == (0 : Int)) with hb4 | hb4
     ·have hr7 := cond_t hb4 hr6
      have hf15 := hf14.lit 19 hb4
      refine c_n 5 [vI x1_to] [3, 24] hf15 (.cell (hS3.box (i := 0) rfl (j := 3) rfl) .nil) fun a11 hf16 => ?_
      rcases Bool.eq_false_or_eq_true (x1_to == (0 : Int)) with hb5 | hb5
      ·have hr8 := cond_t hb5 hr7
       have hf17 := hf16.lit 24 hb5
       refine c_n 5 [vI x1_mass] [3, 29] hf17 (.cell (hS3.box (i := 0) rfl (j := 4) rfl) .nil) fun a12 hf18 => ?_
       rcases Bool.eq_false_or_eq_true (x1_mass == (0 : Int)) with hb6 | hb6
       ·have hr9 := cond_t hb6 hr8
        have hf19 := hf18.lit 29 hb6
        refine c_n 2 [vI x1_from] [29, 31] hf19 (.cell (hS3.box (i := 0) rfl (j := 2) rfl) .nil) fun a13 hf20 => ?_
        obtain ⟨r2, hd1, hr10⟩ := bind_some hr9
        refine c_call hf20 (f118_ok fuel x1_from r2 hd1 z1 _ _ hS3 ) ?_
        rintro v1 ww4 a14 ⟨z3, k2, rfl, hS4⟩ hf21
        refine ⟨fun _ => trivial, ?_⟩
        refine c_t [] [4] hf21 .nil fun a15 hf22 => ?_
        exact ⟨z3, r2, k2, hf22.to, hS4, hr10⟩
       ·have hr11 := cond_f hb6 hr8
        have hf24 := hf18.lit 29 hb6
        refine c_t [] [4] hf24 .nil fun a16 hf25 => ?_
        exact ⟨z1, false, (Zone.le_refl _), hf25.to, hS3, hr11⟩
      ·have hr12 := cond_f hb5 hr7
       have hf27 := hf16.lit 24 hb5
       refine c_t [] [4] hf27 .nil fun a17 hf28 => ?_
       exact ⟨z1, false, (Zone.le_refl _), hf28.to, hS3, hr12⟩
     ·have hr13 := cond_f hb4 hr6
      have hf30 := hf14.lit 19 hb4
      refine c_t [] [4] hf30 .nil fun a18 hf31 => ?_
      exact ⟨z1, false, (Zone.le_refl _), hf31.to, hS3, hr13⟩
    ·rintro a19 ww5 ⟨z2, y1, k3, hf33, hS5, hr14⟩
     refine c_ret ?_
     refine r_then ?_
     refine c_rt [] (.bool y1) hf33 .nil ?_
     obtain rfl := some_eq hr14
     exact ⟨_, rfl, z2, (Zone.le_trans k1 k3), rfl, (St.drop 2 hS5)⟩
   ·have hr15 := cond_f hb3 hr5
    refine c_skip ?_
    refine n_then ?_
    refine c_seq ?_
    refine c_mid (fun a w => ∃ z4 : Zone, ∃ y6 : Bool, Zone.le z1 z4 ∧ Fr a 86 [(2, pB b1 0), (3, pB b2 0), (49, .bool y6)] ∧ St z4 (box b2 [vI x1_kind, vI x1_lot, vI x1_from, vI x1_to, vI x1_mass] 28 :: box b1 [.slice o_x0_lots x0_lots.length c_x0_lots, v0_x0_holds, v1_x0_holds, v2_x0_holds, v3_x0_holds, v4_x0_holds, v5_x0_holds, v6_x0_holds, v7_x0_holds, v8_x0_holds] 26 :: L) w ∧ (F79_j3 fuel x0_lots x1_kind x1_lot x1_from x1_to y6) = some r) ?_ ?_
    ·skip
     refine c_reg ?_
     refine c_n 2 [vI x1_mass] [2, 3, 35] hf13 (.cell (hS3.box (i := 0) rfl (j := 4) rfl) .nil) fun a20 hf34 => ?_
     obtain ⟨r3, hd2, hr16⟩ := bind_some hr15
     refine c_call hf34 (f72_ok fuel x1_mass 1 100000000 r3 hd2 z1 _ _ hS3 ) ?_
     rintro v2 ww6 a21 ⟨z5, k4, rfl, hS6⟩ hf35
     refine ⟨fun _ => trivial, ?_⟩
     refine c_n 2 [] [2, 3, 38] hf35 .nil fun a22 hf36 => ?_
     rcases Bool.eq_false_or_eq_true (!r3) with hb7 | hb7
     ·have hr17 := cond_t hb7 hr16
      have hf37 := hf36.lit 38 hb7
      refine c_t [] [2, 3, 49] hf37 .nil fun a23 hf38 => ?_
      exact ⟨z5, true, k4, hf38.to, hS6, hr17⟩
     ·have hr18 := cond_f hb7 hr16
      have hf40 := hf36.lit 38 hb7
      refine c_n 2 [vI x1_from] [2, 3, 38, 40] hf40 (.cell (hS6.box (i := 0) rfl (j := 2) rfl) .nil) fun a24 hf41 => ?_
      obtain ⟨r4, hd3, hr19⟩ := bind_some hr18
      refine c_call hf41 (f118_ok fuel x1_from r4 hd3 z5 _ _ hS6 ) ?_
      rintro v3 ww7 a25 ⟨z6, k5, rfl, hS7⟩ hf42
      refine ⟨fun _ => trivial, ?_⟩
      refine c_n 3 [] [2, 3, 44] hf42 .nil fun a26 hf43 => ?_
      rcases Bool.eq_false_or_eq_true (!r4) with hb8 | hb8
      ·have hr20 := cond_t hb8 hr19
       have hf44 := hf43.lit 44 hb8
       refine c_t [] [2, 3, 49] hf44 .nil fun a27 hf45 => ?_
       exact ⟨z6, true, (Zone.le_trans k4 k5), hf45.to, hS7, hr20⟩
      ·have hr21 := cond_f hb8 hr19
       have hf47 := hf43.lit 44 hb8
       refine c_n 2 [vI x1_to] [2, 3, 44, 46] hf47 (.cell (hS7.box (i := 0) rfl (j := 3) rfl) .nil) fun a28 hf48 => ?_
       obtain ⟨r5, hd4, hr22⟩ := bind_some hr21
       refine c_call hf48 (f118_ok fuel x1_to r5 hd4 z6 _ _ hS7 ) ?_
       rintro v4 ww8 a29 ⟨z7, k6, rfl, hS8⟩ hf49
       refine ⟨fun _ => trivial, ?_⟩
       refine c_t [] [2, 3, 49] hf49 .nil fun a30 hf50 => ?_
       exact ⟨z7, (!r5), (Zone.le_trans (Zone.le_trans k4 k5) k6), hf50.to, hS8, hr22⟩
    ·rintro a31 ww9 ⟨z4, y6, k7, hf52, hS9, hr23⟩
     refine c_if y6 hf52 (fun hb9 => ?_) (fun hb9 => ?_)
     ·have hr24 := cond_t hb9 hr23
      refine c_sq [] [4] hf52 .nil fun a32 hf53 => ?_
      refine c_ret ?_
      refine r_then ?_
      refine c_rt [] (.bool false) hf53 .nil ?_
      obtain rfl := some_eq hr24
      exact ⟨_, rfl, z4, (Zone.le_trans k1 k7), rfl, (St.drop 2 hS9)⟩
     ·have hr25 := cond_f hb9 hr23
      refine c_skip ?_
      refine n_then ?_
      refine c_seq ?_
      refine c_sq [vI x1_kind] [2, 3, 51] hf52 (.cell (hS9.box (i := 0) rfl (j := 0) rfl) .nil) fun a33 hf54 => ?_
      refine c_block 0 ?_
      refine c_mid (fun a w => ∃ z8 : Zone, ∃ y5 : Bool, Zone.le z4 z8 ∧ Fr a 86 [(2, pB b1 0), (3, pB b2 0), (51, vI x1_kind), (52, .bool y5)] ∧ St z8 (box b2 [vI x1_kind, vI x1_lot, vI x1_from, vI x1_to, vI x1_mass] 28 :: box b1 [.slice o_x0_lots x0_lots.length c_x0_lots, v0_x0_holds, v1_x0_holds, v2_x0_holds, v3_x0_holds, v4_x0_holds, v5_x0_holds, v6_x0_holds, v7_x0_holds, v8_x0_holds] 26 :: L) w ∧ (F79_j4 fuel x0_lots x1_kind x1_lot x1_from x1_to y5) = some r) ?_ ?_
      ·skip
       refine c_sq [] [2, 3, 51, 52] hf54 .nil fun a34 hf55 => ?_
       refine c_if (x1_kind == (1 : Int)) hf55 (fun hb10 => ?_) (fun hb10 => ?_)
       ·have hr26 := cond_t hb10 hr25
        refine c_skip ?_
        refine n_then ?_
        exact ⟨z4, (x1_kind == (1 : Int)), (Zone.le_refl _), hf55.to, hS9, hr26⟩
       ·have hr27 := cond_f hb10 hr25
        refine c_q [] [2, 3, 51, 52] hf55 .nil fun a35 hf57 => ?_
        refine n_then ?_
        exact ⟨z4, (x1_kind == (2 : Int)), (Zone.le_refl _), hf57.to, hS9, hr27⟩
      ·rintro a36 ww10 ⟨z8, y5, k8, hf59, hS10, hr28⟩
       refine c_if y5 hf59 (fun hb11 => ?_) (fun hb11 => ?_)
       ·have hr29 := cond_t hb11 hr28
        refine c_mid (fun a w => ∃ z9 : Zone, ∃ y2 : Bool, Zone.le z8 z9 ∧ Fr a 86 [(4, .bool y2)] ∧ St z9 (box b2 [vI x1_kind, vI x1_lot, vI x1_from, vI x1_to, vI x1_mass] 28 :: box b1 [.slice o_x0_lots x0_lots.length c_x0_lots, v0_x0_holds, v1_x0_holds, v2_x0_holds, v3_x0_holds, v4_x0_holds, v5_x0_holds, v6_x0_holds, v7_x0_holds, v8_x0_holds] 26 :: L) w ∧ (F79_j5 y2) = some r) ?_ ?_
        ·skip
         refine c_reg ?_
         refine c_n 4 [vI x1_from] [2, 3, 58] hf59 (.cell (hS10.box (i := 0) rfl (j := 2) rfl) .nil) fun a37 hf60 => ?_
         rcases Bool.eq_false_or_eq_true (x1_from == (0 : Int)) with hb12 | hb12
         ·have hr30 := cond_t hb12 hr29
          have hf61 := hf60.lit 58 hb12
          refine c_n 4 [.slice o_x0_lots x0_lots.length c_x0_lots, vI x1_lot] [58, 60, 62] hf61 (.cell (hS10.box (i := 1) rfl (j := 0) rfl) (.cell (hS10.box (i := 0) rfl (j := 1) rfl) .nil)) fun a38 hf62 => ?_
          obtain ⟨r1, hd5, hr31⟩ := bind_some hr30
          refine c_call hf62 (f56_ok fuel x0_lots x1_lot r1 hd5 z8 _ _ hS10 o_x0_lots c_x0_lots (SliceR.mono (Zone.le_trans (Zone.le_trans k1 k7) k8) hx_x0_lots)) ?_
          rintro v5 ww11 a39 ⟨z10, k9, rfl, hS11⟩ hf63
          refine ⟨fun _ => trivial, ?_⟩
          refine c_t [] [4] hf63 .nil fun a40 hf64 => ?_
          exact ⟨z10, (decide (r1 ≥ (0 : Int))), k9, hf64.to, hS11, hr31⟩
         ·have hr32 := cond_f hb12 hr29
          have hf66 := hf60.lit 58 hb12
          refine c_t [] [4] hf66 .nil fun a41 hf67 => ?_
          exact ⟨z8, false, (Zone.le_refl _), hf67.to, hS10, hr32⟩
        ·rintro a42 ww12 ⟨z9, y2, k10, hf69, hS12, hr33⟩
         refine c_ret ?_
         refine r_block ?_
         refine r_then ?_
         refine c_rt [] (.bool y2) hf69 .nil ?_
         obtain rfl := some_eq hr33
         exact ⟨_, rfl, z9, (Zone.le_trans (Zone.le_trans (Zone.le_trans k1 k7) k8) k10), rfl, (St.drop 2 hS12)⟩
       ·have hr34 := cond_f hb11 hr28
        refine c_sq [] [3, 66] hf59 .nil fun a43 hf70 => ?_
        refine c_if (x1_kind == (4 : Int)) hf70 (fun hb13 => ?_) (fun hb13 => ?_)
        ·have hr35 := cond_t hb13 hr34
         refine c_mid (fun a w => ∃ z11 : Zone, ∃ y3 : Bool, Zone.le z8 z11 ∧ Fr a 86 [(4, .bool y3)] ∧ St z11 (box b2 [vI x1_kind, vI x1_lot, vI x1_from, vI x1_to, vI x1_mass] 28 :: box b1 [.slice o_x0_lots x0_lots.length c_x0_lots, v0_x0_holds, v1_x0_holds, v2_x0_holds, v3_x0_holds, v4_x0_holds, v5_x0_holds, v6_x0_holds, v7_x0_holds, v8_x0_holds] 26 :: L) w ∧ (F79_j6 y3) = some r) ?_ ?_
         ·skip
          refine c_reg ?_
          refine c_n 4 [vI x1_lot] [3, 71] hf70 (.cell (hS10.box (i := 0) rfl (j := 1) rfl) .nil) fun a44 hf71 => ?_
          rcases Bool.eq_false_or_eq_true (x1_lot == (0 : Int)) with hb14 | hb14
          ·have hr36 := cond_t hb14 hr35
           have hf72 := hf71.lit 71 hb14
           refine c_t [vI x1_from, vI x1_to] [4] hf72 (.cell (hS10.box (i := 0) rfl (j := 2) rfl) (.cell (hS10.box (i := 0) rfl (j := 3) rfl) .nil)) fun a45 hf73 => ?_
           exact ⟨z8, (x1_from != x1_to), (Zone.le_refl _), hf73.to, hS10, hr36⟩
          ·have hr37 := cond_f hb14 hr35
           have hf75 := hf71.lit 71 hb14
           refine c_t [] [4] hf75 .nil fun a46 hf76 => ?_
           exact ⟨z8, false, (Zone.le_refl _), hf76.to, hS10, hr37⟩
         ·rintro a47 ww13 ⟨z11, y3, k11, hf78, hS13, hr38⟩
          refine c_ret ?_
          refine r_block ?_
          refine r_then ?_
          refine c_rt [] (.bool y3) hf78 .nil ?_
          obtain rfl := some_eq hr38
          exact ⟨_, rfl, z11, (Zone.le_trans (Zone.le_trans (Zone.le_trans k1 k7) k8) k11), rfl, (St.drop 2 hS13)⟩
        ·have hr39 := cond_f hb13 hr34
         refine c_skip ?_
         refine n_block ?_
         refine n_then ?_
         refine c_mid (fun a w => ∃ z12 : Zone, ∃ y4 : Bool, Zone.le z8 z12 ∧ Fr a 86 [(4, .bool y4)] ∧ St z12 (box b2 [vI x1_kind, vI x1_lot, vI x1_from, vI x1_to, vI x1_mass] 28 :: box b1 [.slice o_x0_lots x0_lots.length c_x0_lots, v0_x0_holds, v1_x0_holds, v2_x0_holds, v3_x0_holds, v4_x0_holds, v5_x0_holds, v6_x0_holds, v7_x0_holds, v8_x0_holds] 26 :: L) w ∧ (F79_j7 y4) = some r) ?_ ?_
         ·skip
          refine c_reg ?_
          refine c_n 4 [vI x1_lot] [3, 81] hf70 (.cell (hS10.box (i := 0) rfl (j := 1) rfl) .nil) fun a48 hf79 => ?_
          rcases Bool.eq_false_or_eq_true (x1_lot == (0 : Int)) with hb15 | hb15
          ·have hr40 := cond_t hb15 hr39
           have hf80 := hf79.lit 81 hb15
           refine c_t [vI x1_to] [4] hf80 (.cell (hS10.box (i := 0) rfl (j := 3) rfl) .nil) fun a49 hf81 => ?_
           exact ⟨z8, (x1_to == (0 : Int)), (Zone.le_refl _), hf81.to, hS10, hr40⟩
          ·have hr41 := cond_f hb15 hr39
           have hf83 := hf79.lit 81 hb15
           refine c_t [] [4] hf83 .nil fun a50 hf84 => ?_
           exact ⟨z8, false, (Zone.le_refl _), hf84.to, hS10, hr41⟩
         ·rintro a51 ww14 ⟨z12, y4, k12, hf86, hS14, hr42⟩
          refine c_ret ?_
          refine c_rt [] (.bool y4) hf86 .nil ?_
          obtain rfl := some_eq hr42
          exact ⟨_, rfl, z12, (Zone.le_trans (Zone.le_trans (Zone.le_trans k1 k7) k8) k12), rfl, (St.drop 2 hS14)⟩
def F24_j5 (y1 : Bool) : Option (Int) :=
  (cond y1 (some (2)) (some (0)))
def F24_j4 (fuel : Nat) (x0_holds : List (List (List Part))) (x1_kind : Int) (x1_to : Int) (x1_mass : Int) (y2 : Bool) : Option (Int) :=
  (cond (x1_kind == (2 : Int)) ((getI x0_holds x1_to).bind fun p1 => (cond ((p1.length : Int) == (4 : Int)) (F24_j5 true) (cond y2 ((getI x0_holds x1_to).bind fun p2 => ((F77 fuel p2).bind fun r1 => (F24_j5 (decide ((w64 (r1 + x1_mass)) > (100000000 : Int)))))) (F24_j5 false)))) (cond y2 ((getI x0_holds x1_to).bind fun p3 => ((F77 fuel p3).bind fun r2 => (F24_j5 (decide ((w64 (r2 + x1_mass)) > (100000000 : Int)))))) (F24_j5 false)))
def F24_j3 (fuel : Nat) (x0_holds : List (List (List Part))) (x1_kind : Int) (x1_to : Int) (x1_mass : Int) (y3 : Bool) : Option (Int) :=
  (cond y3 (some (3)) (cond (x1_kind == (1 : Int)) (F24_j4 fuel x0_holds x1_kind x1_to x1_mass true) (cond (x1_kind == (2 : Int)) (F24_j4 fuel x0_holds x1_kind x1_to x1_mass true) (F24_j4 fuel x0_holds x1_kind x1_to x1_mass (x1_kind == (4 : Int))))))
def F24_j2 (fuel : Nat) (x0_holds : List (List (List Part))) (x1_kind : Int) (x1_from : Int) (x1_to : Int) (x1_mass : Int) (y4 : Bool) : Option (Int) :=
  (cond y4 (some (63)) (cond (x1_kind == (6 : Int)) ((getI x0_holds x1_from).bind fun p4 => (F24_j3 fuel x0_holds x1_kind x1_to x1_mass (decide ((p4.length : Int) < (2 : Int))))) (F24_j3 fuel x0_holds x1_kind x1_to x1_mass false)))
def F24_j1 (fuel : Nat) (x0_holds : List (List (List Part))) (x1_kind : Int) (x1_from : Int) (x1_to : Int) (x1_mass : Int) (y5 : Bool) : Option (Int) :=
  (cond y5 ((getI x0_holds x1_from).bind fun p5 => ((F77 fuel p5).bind fun r3 => (F24_j2 fuel x0_holds x1_kind x1_from x1_to x1_mass (decide (x1_mass > r3))))) (F24_j2 fuel x0_holds x1_kind x1_from x1_to x1_mass false))
def F24 (fuel : Nat) (x0_lots : List Lot) (x0_holds : List (List (List Part))) (x1_kind : Int) (x1_lot : Int) (x1_from : Int) (x1_to : Int) (x1_mass : Int) : Option (Int) :=
  ((F22 fuel x0_lots x0_holds).bind fun r4 => (cond (r4 != (0 : Int)) (some (62)) ((F79 fuel x0_lots x0_holds x1_kind x1_lot x1_from x1_to x1_mass).bind fun r5 => (cond (!r5) (some (61)) (cond (x1_kind == (3 : Int)) (F24_j1 fuel x0_holds x1_kind x1_from x1_to x1_mass true) (cond (x1_kind == (4 : Int)) (F24_j1 fuel x0_holds x1_kind x1_from x1_to x1_mass true) (F24_j1 fuel x0_holds x1_kind x1_from x1_to x1_mass (x1_kind == (5 : Int)))))))))
set_option maxRecDepth 100000 in
theorem f24_ok (fuel : Nat) (x0_lots : List Lot) (x0_holds : List (List (List Part))) (x1_kind : Int) (x1_lot : Int) (x1_from : Int) (x1_to : Int) (x1_mass : Int) (r : Int) (hr : F24 fuel x0_lots x0_holds x1_kind x1_lot x1_from x1_to x1_mass = some r) (h : Zone) (L : List Atom) (w : World) (hS : St h L w) (o_x0_lots : Option Addr) (c_x0_lots : Nat) (hx_x0_lots : SliceR LotT h o_x0_lots c_x0_lots x0_lots) (v0_x0_holds v1_x0_holds v2_x0_holds v3_x0_holds v4_x0_holds v5_x0_holds v6_x0_holds v7_x0_holds v8_x0_holds : Value) (hx_x0_holds : (Ty.arr 9 (Ty.slice (Ty.slice PartT))).rep h [v0_x0_holds, v1_x0_holds, v2_x0_holds, v3_x0_holds, v4_x0_holds, v5_x0_holds, v6_x0_holds, v7_x0_holds, v8_x0_holds] x0_holds) :
    Calls Try.prog 24 #[.agg #[.slice o_x0_lots x0_lots.length c_x0_lots, v0_x0_holds, v1_x0_holds, v2_x0_holds, v3_x0_holds, v4_x0_holds, v5_x0_holds, v6_x0_holds, v7_x0_holds, v8_x0_holds], .agg #[vI x1_kind, vI x1_lot, vI x1_from, vI x1_to, vI x1_mass]] w fun e w' => ∃ v, e = .returned v ∧ (∃ h', Zone.le h h' ∧ v = vI r ∧ St h' L w') := by
 refine calls_intro (N := 91) Try.func24 (by kernel_rfl) fun a hf => ?_
 refine c_sr ?_
 refine c_box [.slice o_x0_lots x0_lots.length c_x0_lots, v0_x0_holds, v1_x0_holds, v2_x0_holds, v3_x0_holds, v4_x0_holds, v5_x0_holds, v6_x0_holds, v7_x0_holds, v8_x0_holds] 26 hS hf fun b1 ww1 a1 hS1 hf1 => ⟨fun _ => trivial, ?_⟩
 refine c_box [vI x1_kind, vI x1_lot, vI x1_from, vI x1_to, vI x1_mass] 28 hS1 hf1 fun b2 ww2 a2 hS2 hf2 => ⟨fun _ => trivial, ?_⟩
 refine c_t [] [2, 3] hf2 .nil fun a3 hf3 => ?_
 refine c_seq ?_
 refine c_sr ?_
 refine c_n 1 [.slice o_x0_lots x0_lots.length c_x0_lots, v0_x0_holds, v1_x0_holds, v2_x0_holds, v3_x0_holds, v4_x0_holds, v5_x0_holds, v6_x0_holds, v7_x0_holds, v8_x0_holds] [2, 3, 7] hf3 (.cell (hS2.box (i := 1) rfl (j := 0) rfl) (.cell (hS2.box (i := 1) rfl (j := 1) rfl) (.cell (hS2.box (i := 1) rfl (j := 2) rfl) (.cell (hS2.box (i := 1) rfl (j := 3) rfl) (.cell (hS2.box (i := 1) rfl (j := 4) rfl) (.cell (hS2.box (i := 1) rfl (j := 5) rfl) (.cell (hS2.box (i := 1) rfl (j := 6) rfl) (.cell (hS2.box (i := 1) rfl (j := 7) rfl) (.cell (hS2.box (i := 1) rfl (j := 8) rfl) (.cell (hS2.box (i := 1) rfl (j := 9) rfl) .nil)))))))))) fun a4 hf4 => ?_
 obtain ⟨r4, hd1, hr1⟩ := bind_some hr
 refine c_call hf4 (f22_ok fuel x0_lots x0_holds r4 hd1 h _ _ hS2 o_x0_lots c_x0_lots hx_x0_lots v0_x0_holds v1_x0_holds v2_x0_holds v3_x0_holds v4_x0_holds v5_x0_holds v6_x0_holds v7_x0_holds v8_x0_holds (Ty.mono _ (Zone.le_refl _) hx_x0_holds)) ?_
 rintro v1 ww3 a5 ⟨z1, k1, rfl, hS3⟩ hf5
 refine ⟨fun _ => trivial, ?_⟩
 refine c_t [] [2, 3, 9] hf5 .nil fun a6 hf6 => ?_
 refine c_if (r4 != (0 : Int)) hf6 (fun hb1 => ?_) (fun hb1 => ?_)
 ·have hr2 := cond_t hb1 hr1
  refine c_sq [] [4] hf6 .nil fun a7 hf7 => ?_
  refine c_ret ?_
  refine r_then ?_
  refine c_rt [] (vI 62) hf7 .nil ?_
  obtain rfl := some_eq hr2
  exact ⟨_, rfl, z1, k1, rfl, (St.drop 2 hS3)⟩
 ·have hr3 := cond_f hb1 hr1
  refine c_skip ?_
  refine n_then ?_
  refine c_seq ?_
  refine c_sr ?_
  refine c_n 2 [.slice o_x0_lots x0_lots.length c_x0_lots, v0_x0_holds, v1_x0_holds, v2_x0_holds, v3_x0_holds, v4_x0_holds, v5_x0_holds, v6_x0_holds, v7_x0_holds, v8_x0_holds, vI x1_kind, vI x1_lot, vI x1_from, vI x1_to, vI x1_mass] [2, 3, 10, 11] hf6 (.cell (hS3.box (i := 1) rfl (j := 0) rfl) (.cell (hS3.box (i := 1) rfl (j := 1) rfl) (.cell (hS3.box (i := 1) rfl (j := 2) rfl) (.cell (hS3.box (i := 1) rfl (j := 3) rfl) (.cell (hS3.box (i := 1) rfl (j := 4) rfl) (.cell (hS3.box (i := 1) rfl (j := 5) rfl) (.cell (hS3.box (i := 1) rfl (j := 6) rfl) (.cell (hS3.box (i := 1) rfl (j := 7) rfl) (.cell (hS3.box (i := 1) rfl (j := 8) rfl) (.cell (hS3.box (i := 1) rfl (j := 9) rfl) (.cell (hS3.box (i := 0) rfl (j := 0) rfl) (.cell (hS3.box (i := 0) rfl (j := 1) rfl) (.cell (hS3.box (i := 0) rfl (j := 2) rfl) (.cell (hS3.box (i := 0) rfl (j := 3) rfl) (.cell (hS3.box (i := 0) rfl (j := 4) rfl) .nil))))))))))))))) fun a8 hf8 => ?_
  obtain ⟨r5, hd2, hr4⟩ := bind_some hr3
  refine c_call hf8 (f79_ok fuel x0_lots x0_holds x1_kind x1_lot x1_from x1_to x1_mass r5 hd2 z1 _ _ hS3 o_x0_lots c_x0_lots (SliceR.mono k1 hx_x0_lots) v0_x0_holds v1_x0_holds v2_x0_holds v3_x0_holds v4_x0_holds v5_x0_holds v6_x0_holds v7_x0_holds v8_x0_holds (Ty.mono _ k1 hx_x0_holds)) ?_
  rintro v2 ww4 a9 ⟨z2, k2, rfl, hS4⟩ hf9
  refine ⟨fun _ => trivial, ?_⟩
  refine c_t [] [2, 3, 13] hf9 .nil fun a10 hf10 => ?_
  refine c_if (!r5) hf10 (fun hb2 => ?_) (fun hb2 => ?_)
  ·have hr5 := cond_t hb2 hr4
   refine c_sq [] [4] hf10 .nil fun a11 hf11 => ?_
   refine c_ret ?_
   refine r_then ?_
   refine c_rt [] (vI 61) hf11 .nil ?_
   obtain rfl := some_eq hr5
   exact ⟨_, rfl, z2, (Zone.le_trans k1 k2), rfl, (St.drop 2 hS4)⟩
  ·have hr6 := cond_f hb2 hr4
   refine c_skip ?_
   refine n_then ?_
   refine c_mid (fun a w => ∃ z3 : Zone, ∃ y5 : Bool, Zone.le z2 z3 ∧ Fr a 91 [(2, pB b1 0), (3, pB b2 0), (5, .bool y5)] ∧ St z3 (box b2 [vI x1_kind, vI x1_lot, vI x1_from, vI x1_to, vI x1_mass] 28 :: box b1 [.slice o_x0_lots x0_lots.length c_x0_lots, v0_x0_holds, v1_x0_holds, v2_x0_holds, v3_x0_holds, v4_x0_holds, v5_x0_holds, v6_x0_holds, v7_x0_holds, v8_x0_holds] 26 :: L) w ∧ (F24_j1 fuel x0_holds x1_kind x1_from x1_to x1_mass y5) = some r) ?_ ?_
   ·skip
    refine c_reg ?_
    refine c_n 4 [vI x1_kind] [2, 3, 17] hf10 (.cell (hS4.box (i := 0) rfl (j := 0) rfl) .nil) fun a12 hf12 => ?_
    rcases Bool.eq_false_or_eq_true (x1_kind == (3 : Int)) with hb3 | hb3
    ·have hr7 := cond_t hb3 hr6
     have hf13 := hf12.lit 17 hb3
     refine c_t [] [2, 3, 5] hf13 .nil fun a13 hf14 => ?_
     exact ⟨z2, true, (Zone.le_refl _), hf14.to, hS4, hr7⟩
    ·have hr8 := cond_f hb3 hr6
     have hf16 := hf12.lit 17 hb3
     refine c_n 5 [vI x1_kind] [2, 3, 22] hf16 (.cell (hS4.box (i := 0) rfl (j := 0) rfl) .nil) fun a14 hf17 => ?_
     rcases Bool.eq_false_or_eq_true (x1_kind == (4 : Int)) with hb4 | hb4
     ·have hr9 := cond_t hb4 hr8
      have hf18 := hf17.lit 22 hb4
      refine c_t [] [2, 3, 5] hf18 .nil fun a15 hf19 => ?_
      exact ⟨z2, true, (Zone.le_refl _), hf19.to, hS4, hr9⟩
     ·have hr10 := cond_f hb4 hr8
      have hf21 := hf17.lit 22 hb4
      refine c_t [vI x1_kind] [2, 3, 5] hf21 (.cell (hS4.box (i := 0) rfl (j := 0) rfl) .nil) fun a16 hf22 => ?_
      exact ⟨z2, (x1_kind == (5 : Int)), (Zone.le_refl _), hf22.to, hS4, hr10⟩
   ·rintro a17 ww5 ⟨z3, y5, k3, hf24, hS5, hr11⟩
    refine c_seq ?_
    refine c_mid (fun a w => ∃ z4 : Zone, ∃ y4 : Bool, Zone.le z3 z4 ∧ Fr a 91 [(2, pB b1 0), (3, pB b2 0), (38, .bool y4)] ∧ St z4 (box b2 [vI x1_kind, vI x1_lot, vI x1_from, vI x1_to, vI x1_mass] 28 :: box b1 [.slice o_x0_lots x0_lots.length c_x0_lots, v0_x0_holds, v1_x0_holds, v2_x0_holds, v3_x0_holds, v4_x0_holds, v5_x0_holds, v6_x0_holds, v7_x0_holds, v8_x0_holds] 26 :: L) w ∧ (F24_j2 fuel x0_holds x1_kind x1_from x1_to x1_mass y4) = some r) ?_ ?_
    ·skip
     have hS6 := hS5.drew
     have s1 : Sub z3 (box b2 [vI x1_kind, vI x1_lot, vI x1_from, vI x1_to, vI x1_mass] 28 :: box b1 [.slice o_x0_lots x0_lots.length c_x0_lots, v0_x0_holds, v1_x0_holds, v2_x0_holds, v3_x0_holds, v4_x0_holds, v5_x0_holds, v6_x0_holds, v7_x0_holds, v8_x0_holds] 26 :: L) _ := Sub.of (Zone.le_refl _) hS6
     refine c_regD [(0, true), (1, true), (2, true), (3, true), (4, true), (5, true), (6, true), (7, true), (8, true), (9, false), (10, true), (11, true)] [] (Sub z3 (box b2 [vI x1_kind, vI x1_lot, vI x1_from, vI x1_to, vI x1_mass] 28 :: box b1 [.slice o_x0_lots x0_lots.length c_x0_lots, v0_x0_holds, v1_x0_holds, v2_x0_holds, v3_x0_holds, v4_x0_holds, v5_x0_holds, v6_x0_holds, v7_x0_holds, v8_x0_holds] 26 :: L)) s1 ?_
     refine c_S 2 [] [2, 3, 28] s1 hf24 (fun _ s => .nil) .nil fun a18 hf25 => ?_
     rcases Bool.eq_false_or_eq_true y5 with hb5 | hb5
     ·have hr12 := cond_t hb5 hr11
      have hf26 := hf25.lit 28 hb5
      obtain ⟨p5, hp368, hr13⟩ := bind_some hr12
      obtain ⟨hb6, _, hv1, e1, q1, hehv372, hx1⟩ := arrGet (Ty.mono _ (Zone.le_trans (Zone.le_trans k1 k2) k3) hx_x0_holds) rfl hp368
      obtain rfl := List.head_eq_of_cons_eq hehv372
      refine c_S 7 [vI x1_mass, vI x1_from, .slice e1 p5.length q1] [2, 3, 28, 30, 35] s1 hf26 (fun _ s => (.cell (s.box (i := 0) rfl (j := 4) rfl) (.cell (s.box (i := 0) rfl (j := 2) rfl) (.prop hb6 (.cell ((arrAddr b1 1 x1_from.toNat) ▸ (s.box (i := 1) rfl (getElem?_app_right [.slice o_x0_lots x0_lots.length c_x0_lots] _ _ hv1 []))) .nil))))) .nil fun a19 hf27 => ?_
      obtain ⟨r3, hd3, hr14⟩ := bind_some hr13
      refine c_call hf27 (f77_ok fuel p5 r3 hd3 z3 _ _ hS6 e1 q1 hx1) ?_
      rintro v3 ww6 a20 ⟨z5, k4, rfl, hS7⟩ hf28
      refine ⟨fun _ => Sub.of k4 hS7, ?_⟩
      have s2 : Sub z3 (box b2 [vI x1_kind, vI x1_lot, vI x1_from, vI x1_to, vI x1_mass] 28 :: box b1 [.slice o_x0_lots x0_lots.length c_x0_lots, v0_x0_holds, v1_x0_holds, v2_x0_holds, v3_x0_holds, v4_x0_holds, v5_x0_holds, v6_x0_holds, v7_x0_holds, v8_x0_holds] 26 :: L) _ := Sub.of k4 hS7
      refine c_S 2 [] [2, 3, 38] s2 hf28 (fun _ s => .nil) .nil fun a21 hf29 => ?_
      refine c_dt ?_
      exact ⟨z5, (decide (x1_mass > r3)), k4, hf29.to, hS7, hr14⟩
     ·have hr15 := cond_f hb5 hr11
      have hf31 := hf25.lit 28 hb5
      refine c_S 10 [] [2, 3, 38] s1 hf31 (fun _ s => .nil) .nil fun a22 hf32 => ?_
      refine c_dt ?_
      exact ⟨z3, false, (Zone.le_refl _), hf32.to, hS6, hr15⟩
    ·rintro a23 ww7 ⟨z4, y4, k5, hf34, hS8, hr16⟩
     refine c_if y4 hf34 (fun hb7 => ?_) (fun hb7 => ?_)
     ·have hr17 := cond_t hb7 hr16
      refine c_sq [] [4] hf34 .nil fun a24 hf35 => ?_
      refine c_ret ?_
      refine r_then ?_
      refine c_rt [] (vI 63) hf35 .nil ?_
      obtain rfl := some_eq hr17
      exact ⟨_, rfl, z4, (Zone.le_trans (Zone.le_trans (Zone.le_trans k1 k2) k3) k5), rfl, (St.drop 2 hS8)⟩
     ·have hr18 := cond_f hb7 hr16
      refine c_skip ?_
      refine n_then ?_
      refine c_seq ?_
      refine c_mid (fun a w => ∃ z6 : Zone, ∃ y3 : Bool, Zone.le z4 z6 ∧ Fr a 91 [(2, pB b1 0), (3, pB b2 0), (50, .bool y3)] ∧ St z6 (box b2 [vI x1_kind, vI x1_lot, vI x1_from, vI x1_to, vI x1_mass] 28 :: box b1 [.slice o_x0_lots x0_lots.length c_x0_lots, v0_x0_holds, v1_x0_holds, v2_x0_holds, v3_x0_holds, v4_x0_holds, v5_x0_holds, v6_x0_holds, v7_x0_holds, v8_x0_holds] 26 :: L) w ∧ (F24_j3 fuel x0_holds x1_kind x1_to x1_mass y3) = some r) ?_ ?_
      ·skip
       refine c_reg ?_
       refine c_n 4 [vI x1_kind] [2, 3, 42] hf34 (.cell (hS8.box (i := 0) rfl (j := 0) rfl) .nil) fun a25 hf36 => ?_
       rcases Bool.eq_false_or_eq_true (x1_kind == (6 : Int)) with hb8 | hb8
       ·have hr19 := cond_t hb8 hr18
        have hf37 := hf36.lit 42 hb8
        obtain ⟨p4, hp514, hr20⟩ := bind_some hr19
        obtain ⟨hb9, _, hv2, e2, q2, hehv518, hx2⟩ := arrGet (Ty.mono _ (Zone.le_trans (Zone.le_trans (Zone.le_trans k1 k2) k3) k5) hx_x0_holds) rfl hp514
        obtain rfl := List.head_eq_of_cons_eq hehv518
        refine c_t [vI x1_from, .slice e2 p4.length q2] [2, 3, 50] hf37 (.cell (hS8.box (i := 0) rfl (j := 2) rfl) (.prop hb9 (.cell ((arrAddr b1 1 x1_from.toNat) ▸ (hS8.box (i := 1) rfl (getElem?_app_right [.slice o_x0_lots x0_lots.length c_x0_lots] _ _ hv2 []))) .nil))) fun a26 hf38 => ?_
        exact ⟨z4, (decide ((p4.length : Int) < (2 : Int))), (Zone.le_refl _), hf38.to, hS8, hr20⟩
       ·have hr21 := cond_f hb8 hr18
        have hf40 := hf36.lit 42 hb8
        refine c_t [] [2, 3, 50] hf40 .nil fun a27 hf41 => ?_
        exact ⟨z4, false, (Zone.le_refl _), hf41.to, hS8, hr21⟩
      ·rintro a28 ww8 ⟨z6, y3, k6, hf43, hS9, hr22⟩
       refine c_if y3 hf43 (fun hb10 => ?_) (fun hb10 => ?_)
       ·have hr23 := cond_t hb10 hr22
        refine c_sq [] [4] hf43 .nil fun a29 hf44 => ?_
        refine c_ret ?_
        refine r_then ?_
        refine c_rt [] (vI 3) hf44 .nil ?_
        obtain rfl := some_eq hr23
        exact ⟨_, rfl, z6, (Zone.le_trans (Zone.le_trans (Zone.le_trans (Zone.le_trans k1 k2) k3) k5) k6), rfl, (St.drop 2 hS9)⟩
       ·have hr24 := cond_f hb10 hr22
        refine c_skip ?_
        refine n_then ?_
        refine c_mid (fun a w => ∃ z7 : Zone, ∃ y2 : Bool, Zone.le z6 z7 ∧ Fr a 91 [(2, pB b1 0), (3, pB b2 0), (6, .bool y2)] ∧ St z7 (box b2 [vI x1_kind, vI x1_lot, vI x1_from, vI x1_to, vI x1_mass] 28 :: box b1 [.slice o_x0_lots x0_lots.length c_x0_lots, v0_x0_holds, v1_x0_holds, v2_x0_holds, v3_x0_holds, v4_x0_holds, v5_x0_holds, v6_x0_holds, v7_x0_holds, v8_x0_holds] 26 :: L) w ∧ (F24_j4 fuel x0_holds x1_kind x1_to x1_mass y2) = some r) ?_ ?_
        ·skip
         refine c_reg ?_
         refine c_n 4 [vI x1_kind] [2, 3, 54] hf43 (.cell (hS9.box (i := 0) rfl (j := 0) rfl) .nil) fun a30 hf45 => ?_
         rcases Bool.eq_false_or_eq_true (x1_kind == (1 : Int)) with hb11 | hb11
         ·have hr25 := cond_t hb11 hr24
          have hf46 := hf45.lit 54 hb11
          refine c_t [] [2, 3, 6] hf46 .nil fun a31 hf47 => ?_
          exact ⟨z6, true, (Zone.le_refl _), hf47.to, hS9, hr25⟩
         ·have hr26 := cond_f hb11 hr24
          have hf49 := hf45.lit 54 hb11
          refine c_n 5 [vI x1_kind] [2, 3, 59] hf49 (.cell (hS9.box (i := 0) rfl (j := 0) rfl) .nil) fun a32 hf50 => ?_
          rcases Bool.eq_false_or_eq_true (x1_kind == (2 : Int)) with hb12 | hb12
          ·have hr27 := cond_t hb12 hr26
           have hf51 := hf50.lit 59 hb12
           refine c_t [] [2, 3, 6] hf51 .nil fun a33 hf52 => ?_
           exact ⟨z6, true, (Zone.le_refl _), hf52.to, hS9, hr27⟩
          ·have hr28 := cond_f hb12 hr26
           have hf54 := hf50.lit 59 hb12
           refine c_t [vI x1_kind] [2, 3, 6] hf54 (.cell (hS9.box (i := 0) rfl (j := 0) rfl) .nil) fun a34 hf55 => ?_
           exact ⟨z6, (x1_kind == (4 : Int)), (Zone.le_refl _), hf55.to, hS9, hr28⟩
        ·rintro a35 ww9 ⟨z7, y2, k7, hf57, hS10, hr29⟩
         refine c_seq ?_
         refine c_mid (fun a w => ∃ z8 : Zone, ∃ y1 : Bool, Zone.le z7 z8 ∧ Fr a 91 [(90, .bool y1)] ∧ St z8 (box b2 [vI x1_kind, vI x1_lot, vI x1_from, vI x1_to, vI x1_mass] 28 :: box b1 [.slice o_x0_lots x0_lots.length c_x0_lots, v0_x0_holds, v1_x0_holds, v2_x0_holds, v3_x0_holds, v4_x0_holds, v5_x0_holds, v6_x0_holds, v7_x0_holds, v8_x0_holds] 26 :: L) w ∧ (F24_j5 y1) = some r) ?_ ?_
         ·skip
          have hS11 := hS10.drew
          have s3 : Sub z7 (box b2 [vI x1_kind, vI x1_lot, vI x1_from, vI x1_to, vI x1_mass] 28 :: box b1 [.slice o_x0_lots x0_lots.length c_x0_lots, v0_x0_holds, v1_x0_holds, v2_x0_holds, v3_x0_holds, v4_x0_holds, v5_x0_holds, v6_x0_holds, v7_x0_holds, v8_x0_holds] 26 :: L) _ := Sub.of (Zone.le_refl _) hS11
          refine c_regD [(0, true), (1, true), (2, true), (3, true), (4, true), (5, true), (6, true), (7, true), (8, true), (9, true), (10, true), (11, true), (12, true), (13, true), (14, true), (15, true), (16, true), (17, true), (18, true), (19, true), (21, true), (22, true), (20, false), (23, true), (24, true), (25, true), (26, true)] [] (Sub z7 (box b2 [vI x1_kind, vI x1_lot, vI x1_from, vI x1_to, vI x1_mass] 28 :: box b1 [.slice o_x0_lots x0_lots.length c_x0_lots, v0_x0_holds, v1_x0_holds, v2_x0_holds, v3_x0_holds, v4_x0_holds, v5_x0_holds, v6_x0_holds, v7_x0_holds, v8_x0_holds] 26 :: L)) s3 ?_
          refine c_S 4 [vI x1_kind] [2, 3, 6, 67] s3 hf57 (fun _ s => (.cell (s.box (i := 0) rfl (j := 0) rfl) .nil)) .nil fun a36 hf58 => ?_
          rcases Bool.eq_false_or_eq_true (x1_kind == (2 : Int)) with hb13 | hb13
          ·have hr30 := cond_t hb13 hr29
           have hf59 := hf58.lit 67 hb13
           obtain ⟨p1, hp1055, hr31⟩ := bind_some hr30
           obtain ⟨hb14, _, hv3, e3, q3, hehv1059, hx3⟩ := arrGet (Ty.mono _ (Zone.le_trans (Zone.le_trans (Zone.le_trans (Zone.le_trans (Zone.le_trans k1 k2) k3) k5) k6) k7) hx_x0_holds) rfl hp1055
           obtain rfl := List.head_eq_of_cons_eq hehv1059
           refine c_S 9 [vI x1_to, .slice e3 p1.length q3] [2, 3, 6, 76] s3 hf59 (fun _ s => (.cell (s.box (i := 0) rfl (j := 3) rfl) (.prop hb14 (.cell ((arrAddr b1 1 x1_to.toNat) ▸ (s.box (i := 1) rfl (getElem?_app_right [.slice o_x0_lots x0_lots.length c_x0_lots] _ _ hv3 []))) .nil)))) .nil fun a37 hf60 => ?_
           rcases Bool.eq_false_or_eq_true ((p1.length : Int) == (4 : Int)) with hb15 | hb15
           ·have hr32 := cond_t hb15 hr31
            have hf61 := hf60.lit 76 hb15
            refine c_S 14 [] [90] s3 hf61 (fun _ s => .nil) .nil fun a38 hf62 => ?_
            refine c_dt ?_
            exact ⟨z7, true, (Zone.le_refl _), hf62.to, hS11, hr32⟩
           ·have hr33 := cond_f hb15 hr31
            have hf64 := hf60.lit 76 hb15
            refine c_S 2 [] [2, 3, 76, 78] s3 hf64 (fun _ s => .nil) .nil fun a39 hf65 => ?_
            rcases Bool.eq_false_or_eq_true y2 with hb16 | hb16
            ·have hr34 := cond_t hb16 hr33
             have hf66 := hf65.lit 78 hb16
             obtain ⟨p2, hp1080, hr35⟩ := bind_some hr34
             obtain ⟨hb17, _, hv4, e4, q4, hehv1084, hx4⟩ := arrGet (Ty.mono _ (Zone.le_trans (Zone.le_trans (Zone.le_trans (Zone.le_trans (Zone.le_trans k1 k2) k3) k5) k6) k7) hx_x0_holds) rfl hp1080
             obtain rfl := List.head_eq_of_cons_eq hehv1084
             refine c_S 7 [vI x1_to, .slice e4 p2.length q4, vI x1_mass] [76, 78, 83, 86] s3 hf66 (fun _ s => (.cell (s.box (i := 0) rfl (j := 3) rfl) (.prop hb17 (.cell ((arrAddr b1 1 x1_to.toNat) ▸ (s.box (i := 1) rfl (getElem?_app_right [.slice o_x0_lots x0_lots.length c_x0_lots] _ _ hv4 []))) (.cell (s.box (i := 0) rfl (j := 4) rfl) .nil))))) .nil fun a40 hf67 => ?_
             obtain ⟨r1, hd4, hr36⟩ := bind_some hr35
             refine c_call hf67 (f77_ok fuel p2 r1 hd4 z7 _ _ hS11 e4 q4 hx4) ?_
             rintro v4 ww10 a41 ⟨z9, k8, rfl, hS12⟩ hf68
             refine ⟨fun _ => Sub.of k8 hS12, ?_⟩
             have s4 : Sub z7 (box b2 [vI x1_kind, vI x1_lot, vI x1_from, vI x1_to, vI x1_mass] 28 :: box b1 [.slice o_x0_lots x0_lots.length c_x0_lots, v0_x0_holds, v1_x0_holds, v2_x0_holds, v3_x0_holds, v4_x0_holds, v5_x0_holds, v6_x0_holds, v7_x0_holds, v8_x0_holds] 26 :: L) _ := Sub.of k8 hS12
             refine c_S 4 [] [90] s4 hf68 (fun _ s => .nil) .nil fun a42 hf69 => ?_
             refine c_dt ?_
             exact ⟨z9, (decide ((w64 (r1 + x1_mass)) > (100000000 : Int))), k8, hf69.to, hS12, hr36⟩
            ·have hr37 := cond_f hb16 hr33
             have hf71 := hf65.lit 78 hb16
             refine c_S 12 [] [90] s3 hf71 (fun _ s => .nil) .nil fun a43 hf72 => ?_
             refine c_dt ?_
             exact ⟨z7, false, (Zone.le_refl _), hf72.to, hS11, hr37⟩
          ·have hr38 := cond_f hb13 hr29
           have hf74 := hf58.lit 67 hb13
           refine c_S 11 [] [2, 3, 76, 78] s3 hf74 (fun _ s => .nil) .nil fun a44 hf75 => ?_
           rcases Bool.eq_false_or_eq_true y2 with hb18 | hb18
           ·have hr39 := cond_t hb18 hr38
            have hf76 := hf75.lit 78 hb18
            obtain ⟨p3, hp1123, hr40⟩ := bind_some hr39
            obtain ⟨hb19, _, hv5, e5, q5, hehv1127, hx5⟩ := arrGet (Ty.mono _ (Zone.le_trans (Zone.le_trans (Zone.le_trans (Zone.le_trans (Zone.le_trans k1 k2) k3) k5) k6) k7) hx_x0_holds) rfl hp1123
            obtain rfl := List.head_eq_of_cons_eq hehv1127
            refine c_S 7 [vI x1_to, .slice e5 p3.length q5, vI x1_mass] [76, 78, 83, 86] s3 hf76 (fun _ s => (.cell (s.box (i := 0) rfl (j := 3) rfl) (.prop hb19 (.cell ((arrAddr b1 1 x1_to.toNat) ▸ (s.box (i := 1) rfl (getElem?_app_right [.slice o_x0_lots x0_lots.length c_x0_lots] _ _ hv5 []))) (.cell (s.box (i := 0) rfl (j := 4) rfl) .nil))))) .nil fun a45 hf77 => ?_
            obtain ⟨r2, hd5, hr41⟩ := bind_some hr40
            refine c_call hf77 (f77_ok fuel p3 r2 hd5 z7 _ _ hS11 e5 q5 hx5) ?_
            rintro v5 ww11 a46 ⟨z10, k9, rfl, hS13⟩ hf78
            refine ⟨fun _ => Sub.of k9 hS13, ?_⟩
            have s5 : Sub z7 (box b2 [vI x1_kind, vI x1_lot, vI x1_from, vI x1_to, vI x1_mass] 28 :: box b1 [.slice o_x0_lots x0_lots.length c_x0_lots, v0_x0_holds, v1_x0_holds, v2_x0_holds, v3_x0_holds, v4_x0_holds, v5_x0_holds, v6_x0_holds, v7_x0_holds, v8_x0_holds] 26 :: L) _ := Sub.of k9 hS13
            refine c_S 4 [] [90] s5 hf78 (fun _ s => .nil) .nil fun a47 hf79 => ?_
            refine c_dt ?_
            exact ⟨z10, (decide ((w64 (r2 + x1_mass)) > (100000000 : Int))), k9, hf79.to, hS13, hr41⟩
           ·have hr42 := cond_f hb18 hr38
            have hf81 := hf75.lit 78 hb18
            refine c_S 12 [] [90] s3 hf81 (fun _ s => .nil) .nil fun a48 hf82 => ?_
            refine c_dt ?_
            exact ⟨z7, false, (Zone.le_refl _), hf82.to, hS11, hr42⟩
         ·rintro a49 ww12 ⟨z8, y1, k10, hf84, hS14, hr43⟩
          refine c_if y1 hf84 (fun hb20 => ?_) (fun hb20 => ?_)
          ·have hr44 := cond_t hb20 hr43
           refine c_sq [] [4] hf84 .nil fun a50 hf85 => ?_
           refine c_ret ?_
           refine r_then ?_
           refine c_rt [] (vI 2) hf85 .nil ?_
           obtain rfl := some_eq hr44
           exact ⟨_, rfl, z8, (Zone.le_trans (Zone.le_trans (Zone.le_trans (Zone.le_trans (Zone.le_trans (Zone.le_trans k1 k2) k3) k5) k6) k7) k10), rfl, (St.drop 2 hS14)⟩
          ·have hr45 := cond_f hb20 hr43
           refine c_skip ?_
           refine n_then ?_
           refine c_sq [] [4] hf84 .nil fun a51 hf86 => ?_
           refine c_ret ?_
           refine c_rt [] (vI 0) hf86 .nil ?_
           obtain rfl := some_eq hr45
           exact ⟨_, rfl, z8, (Zone.le_trans (Zone.le_trans (Zone.le_trans (Zone.le_trans (Zone.le_trans (Zone.le_trans k1 k2) k3) k5) k6) k7) k10), rfl, (St.drop 2 hS14)⟩
end Go.Proofs.Ytlmgjjmighajdaa
