/-
  A part of the walk and of the plain law of one given statement. No condition.
-/
import Derived.Test.YtlmgjjmighajdaaE0
set_option linter.unusedVariables false
namespace Go.Proofs.Ytlmgjjmighajdaa
open Go.Sl Go.Sx
def F71_j1 (y1 : Bool) : Option (Bool) :=
  (some (y1))
def F71 (fuel : Nat) (x0 : Int) (x1 : Int) (x2 : Int) : Option (Bool) :=
  (cond (decide (x1 ≤ x0)) (F71_j1 (decide (x0 ≤ x2))) (F71_j1 false))
set_option maxRecDepth 100000 in
theorem f71_ok (fuel : Nat) (x0 : Int) (x1 : Int) (x2 : Int) (r : Bool) (hr : F71 fuel x0 x1 x2 = some r) (h : Zone) (L : List Atom) (w : World) (hS : St h L w)  :
    Calls Try.prog 71 #[vI x0, vI x1, vI x2] w fun e w' => ∃ v, e = .returned v ∧ (∃ h', Zone.le h h' ∧ v = .bool r ∧ St h' L w') := by
 refine calls_intro (N := 15) Try.func71 (by kernel_rfl) fun a hf => ?_
 refine c_sq [] [0, 1, 2] hf .nil fun a1 hf1 => ?_
 refine c_mid (fun a w => ∃ z1 : Zone, ∃ y1 : Bool, Zone.le h z1 ∧ Fr a 15 [(6, .bool y1)] ∧ St z1 (L) w ∧ (F71_j1 y1) = some r) ?_ ?_
 ·skip
  refine c_reg ?_
  refine c_n 4 [] [0, 2, 10] hf1 .nil fun a2 hf2 => ?_
  rcases bft (decide (x1 ≤ x0)) with hb1 | hb1
  ·have hr1 := cond_t hb1 hr
   have hf3 := hf2.lit 10 hb1
   refine c_t [] [6] hf3 .nil fun a3 hf4 => ?_
   exact ⟨h, (decide (x0 ≤ x2)), zr, hf4.to, hS, hr1⟩
  ·have hr2 := cond_f hb1 hr
   have hf6 := hf2.lit 10 hb1
   refine c_t [] [6] hf6 .nil fun a4 hf7 => ?_
   exact ⟨h, false, zr, hf7.to, hS, hr2⟩
 ·rintro a5 ww1 ⟨z1, y1, k1, hf9, hS1, hr3⟩
  refine c_ret ?_
  refine c_rt [] (.bool y1) hf9 .nil ?_
  obtain rfl := some_eq hr3
  exact ⟨_, rfl, z1, k1, rfl, hS1⟩
def F17_j1 (y1 : Bool) : Option (Int) :=
  (cond y1 (some (60)) (some (0)))
def F17 (fuel : Nat) (x0i : Int) (x0w : Int) (x0g : Int) (x0e : Int) : Option (Int) :=
  ((F71 fuel x0i 1 9999).bind fun r1 => (cond (!r1) (F17_j1 true) ((F71 fuel x0w 1 9).bind fun r2 => (cond (!r2) (F17_j1 true) ((F71 fuel x0g 1 9).bind fun r3 => (cond (!r3) (F17_j1 true) ((F71 fuel x0e 0 10000).bind fun r4 => (F17_j1 (!r4)))))))))
set_option maxRecDepth 100000 in
theorem f17_ok (fuel : Nat) (x0i : Int) (x0w : Int) (x0g : Int) (x0e : Int) (r : Int) (hr : F17 fuel x0i x0w x0g x0e = some r) (h : Zone) (L : List Atom) (w : World) (hS : St h L w)  :
    Calls Try.prog 17 #[.agg #[vI x0i, vI x0w, vI x0g, vI x0e]] w fun e w' => ∃ v, e = .returned v ∧ (∃ h', Zone.le h h' ∧ v = vI r ∧ St h' L w') := by
 refine calls_intro (N := 25) Try.func17 (by kernel_rfl) fun a hf => ?_
 refine c_sr ?_
 refine c_box [vI x0i, vI x0w, vI x0g, vI x0e] 33 hS hf fun b1 ww1 a1 hS1 hf1 => ⟨fun _ => trivial, ?_⟩
 refine c_t [] [1] hf1 .nil fun a2 hf2 => ?_
 refine c_seq ?_
 refine c_mid (fun a w => ∃ z1 : Zone, ∃ y1 : Bool, Zone.le h z1 ∧ Fr a 25 [(24, .bool y1)] ∧ St z1 (box b1 [vI x0i, vI x0w, vI x0g, vI x0e] 33 :: L) w ∧ (F17_j1 y1) = some r) ?_ ?_
 ·skip
  refine c_reg ?_
  refine c_n 2 [vI x0i] [1, 4] hf2 (.cell (hS1.box (i := 0) rfl (j := 0) rfl) .nil) fun a3 hf3 => ?_
  obtain ⟨r1, hd1, hr1⟩ := bind_some hr
  refine c_call hf3 (f71_ok fuel x0i 1 9999 r1 hd1 h _ _ hS1 ) ?_
  rintro v1 ww2 a4 ⟨z2, k1, rfl, hS2⟩ hf4
  refine ⟨fun _ => trivial, ?_⟩
  refine c_n 2 [] [1, 7] hf4 .nil fun a5 hf5 => ?_
  rcases bft (!r1) with hb1 | hb1
  ·have hr2 := cond_t hb1 hr1
   have hf6 := hf5.lit 7 hb1
   refine c_t [] [24] hf6 .nil fun a6 hf7 => ?_
   exact ⟨z2, true, k1, hf7.to, hS2, hr2⟩
  ·have hr3 := cond_f hb1 hr1
   have hf9 := hf5.lit 7 hb1
   refine c_n 2 [vI x0w] [1, 7, 9] hf9 (.cell (hS2.box (i := 0) rfl (j := 1) rfl) .nil) fun a7 hf10 => ?_
   obtain ⟨r2, hd2, hr4⟩ := bind_some hr3
   refine c_call hf10 (f71_ok fuel x0w 1 9 r2 hd2 z2 _ _ hS2 ) ?_
   rintro v2 ww3 a8 ⟨z3, k2, rfl, hS3⟩ hf11
   refine ⟨fun _ => trivial, ?_⟩
   refine c_n 3 [] [1, 13] hf11 .nil fun a9 hf12 => ?_
   rcases bft (!r2) with hb2 | hb2
   ·have hr5 := cond_t hb2 hr4
    have hf13 := hf12.lit 13 hb2
    refine c_t [] [24] hf13 .nil fun a10 hf14 => ?_
    exact ⟨z3, true, (zt k1 k2), hf14.to, hS3, hr5⟩
   ·have hr6 := cond_f hb2 hr4
    have hf16 := hf12.lit 13 hb2
    refine c_n 2 [vI x0g] [1, 13, 15] hf16 (.cell (hS3.box (i := 0) rfl (j := 2) rfl) .nil) fun a11 hf17 => ?_
    obtain ⟨r3, hd3, hr7⟩ := bind_some hr6
    refine c_call hf17 (f71_ok fuel x0g 1 9 r3 hd3 z3 _ _ hS3 ) ?_
    rintro v3 ww4 a12 ⟨z4, k3, rfl, hS4⟩ hf18
    refine ⟨fun _ => trivial, ?_⟩
    refine c_n 3 [] [1, 19] hf18 .nil fun a13 hf19 => ?_
    rcases bft (!r3) with hb3 | hb3
    ·have hr8 := cond_t hb3 hr7
     have hf20 := hf19.lit 19 hb3
     refine c_t [] [24] hf20 .nil fun a14 hf21 => ?_
     exact ⟨z4, true, (zt (zt k1 k2) k3), hf21.to, hS4, hr8⟩
    ·have hr9 := cond_f hb3 hr7
     have hf23 := hf19.lit 19 hb3
     refine c_n 2 [vI x0e] [19, 21] hf23 (.cell (hS4.box (i := 0) rfl (j := 3) rfl) .nil) fun a15 hf24 => ?_
     obtain ⟨r4, hd4, hr10⟩ := bind_some hr9
     refine c_call hf24 (f71_ok fuel x0e 0 10000 r4 hd4 z4 _ _ hS4 ) ?_
     rintro v4 ww5 a16 ⟨z5, k4, rfl, hS5⟩ hf25
     refine ⟨fun _ => trivial, ?_⟩
     refine c_t [] [24] hf25 .nil fun a17 hf26 => ?_
     exact ⟨z5, (!r4), (zt (zt (zt k1 k2) k3) k4), hf26.to, hS5, hr10⟩
 ·rintro a18 ww6 ⟨z1, y1, k5, hf28, hS6, hr11⟩
  refine c_if y1 hf28 (fun hb4 => ?_) (fun hb4 => ?_)
  ·have hr12 := cond_t hb4 hr11
   refine c_sq [] [2] hf28 .nil fun a19 hf29 => ?_
   refine c_ret ?_
   refine r_then ?_
   refine c_rt [] (vI 60) hf29 .nil ?_
   obtain rfl := some_eq hr12
   exact ⟨_, rfl, z1, k5, rfl, (St.drop 1 hS6)⟩
  ·have hr13 := cond_f hb4 hr11
   refine c_skip ?_
   refine n_then ?_
   refine c_sq [] [2] hf28 .nil fun a20 hf30 => ?_
   refine c_ret ?_
   refine c_rt [] (vI 0) hf30 .nil ?_
   obtain rfl := some_eq hr13
   exact ⟨_, rfl, z1, k5, rfl, (St.drop 1 hS6)⟩
def F73_j1 (k1 : Int → Int → Option (Bool)) (y1 : Int) (y2 : Int) (p1 : Part) (y3 : Bool) : Option (Bool) :=
  (cond y3 (some (false)) (k1 (w64 (y1 + p1.mass)) (w64 (y2 + (1 : Int)))))
def F73_l1 (fuel : Nat) (x0 : List Part) : Nat → Int → Int → Option (Bool)
  | 0, _, _ => none
  | n1 + 1, y1, y2 =>
    let k1 : Int → Int → Option (Bool) := F73_l1 fuel x0 n1
    (cond (decide (y2 < (x0.length : Int))) ((getI x0 y2).bind fun p1 => ((F71 fuel p1.lot 1 9999).bind fun r1 => (cond (!r1) (F73_j1 k1 y1 y2 p1 true) ((F71 fuel p1.mass 1 100000000).bind fun r2 => (cond (!r2) (F73_j1 k1 y1 y2 p1 true) (cond (decide (y2 > (0 : Int))) ((getI x0 (w64 (y2 - (1 : Int)))).bind fun p2 => (F73_j1 k1 y1 y2 p1 (decide (p2.lot ≥ p1.lot)))) (F73_j1 k1 y1 y2 p1 false))))))) (some ((decide (y1 ≤ (100000000 : Int))))))
def F73 (fuel : Nat) (x0 : List Part) : Option (Bool) :=
  (cond (decide ((x0.length : Int) > (40 : Int))) (some (false)) (F73_l1 fuel x0 fuel 0 0))
set_option maxRecDepth 100000 in
theorem f73_ok (fuel : Nat) (x0 : List Part) (r : Bool) (hr : F73 fuel x0 = some r) (h : Zone) (L : List Atom) (w : World) (hS : St h L w) (o_x0 : Option Addr) (c_x0 : Nat) (hx_x0 : SliceR PartT h o_x0 c_x0 x0) :
    Calls Try.prog 73 #[.agg #[.slice o_x0 x0.length c_x0]] w fun e w' => ∃ v, e = .returned v ∧ (∃ h', Zone.le h h' ∧ v = .bool r ∧ St h' L w') := by
 refine calls_intro (N := 51) Try.func73 (by kernel_rfl) fun a hf => ?_
 refine c_sr ?_
 refine c_box [.slice o_x0 x0.length c_x0] 40 hS hf fun b1 ww1 a1 hS1 hf1 => ⟨fun _ => trivial, ?_⟩
 refine c_t [] [1] hf1 .nil fun a2 hf2 => ?_
 refine c_seq ?_
 refine c_sq [.slice o_x0 x0.length c_x0] [1, 9] hf2 (.cell (hS1.box (i := 0) rfl (j := 0) rfl) .nil) fun a3 hf3 => ?_
 refine c_if (decide ((x0.length : Int) > (40 : Int))) hf3 (fun hb1 => ?_) (fun hb1 => ?_)
 ·have hr1 := cond_t hb1 hr
  refine c_sq [] [2] hf3 .nil fun a4 hf4 => ?_
  refine c_ret ?_
  refine r_then ?_
  refine c_rt [] (.bool false) hf4 .nil ?_
  obtain rfl := some_eq hr1
  exact ⟨_, rfl, h, zr, rfl, (St.drop 1 hS1)⟩
 ·have hr2 := cond_f hb1 hr
  refine c_skip ?_
  refine n_then ?_
  refine c_sq [] [1, 3] hf3 .nil fun a5 hf5 => ?_
  refine c_seq ?_
  refine c_sq [.slice o_x0 x0.length c_x0] [1, 3, 11, 12, 13] hf5 (.cell (hS1.box (i := 0) rfl (j := 0) rfl) .nil) fun a6 hf6 => ?_
  refine c_block 0 ?_
  refine c_loop (fun n a w => ∃ z1 : Zone, ∃ y1 : Int, ∃ y2 : Int, Zone.le h z1 ∧ Fr a 51 [(1, pB b1 0), (3, vI y1), (11, .slice o_x0 x0.length c_x0), (12, vI (x0.length : Int)), (13, vI y2)] ∧ St z1 (box b1 [.slice o_x0 x0.length c_x0] 40 :: L) w ∧ (F73_l1 fuel x0 n y1 y2) = some r) fuel ⟨h, 0, 0, zr, hf6.to, hS1, hr2⟩ ?_
  rintro n2 a7 ww2 ⟨z1, y1, y2, k2, hf8, hS2, hr3⟩
  cases n2 with
  | zero => cases hr3
  | succ n1 =>
  refine c_sq [] [1, 3, 11, 12, 13, 14] hf8 .nil fun a8 hf9 => ?_
  refine c_seq ?_
  refine c_if (decide (y2 < (x0.length : Int))) hf9 (fun hb2 => ?_) (fun hb2 => ?_)
  ·have hr4 := cond_t hb2 hr3
   refine c_skip ?_
   refine n_then ?_
   refine c_seq ?_
   refine c_block 1 ?_
   refine c_sr ?_
   obtain ⟨p1, hp4726, hr5⟩ := bind_some hr4
   obtain ⟨ad1, ho1, hb3, cc1, hc1, hk1⟩ := SliceR.getI (SliceR.mono k2 hx_x0) hp4726
   subst hc1
   refine c_n 3 [.pointer (some ad1), vI p1.lot, vI p1.mass] [1, 3, 11, 12, 13, 15, 17] hf9 (.prop ho1 (.prop hb3 (.cell (hS2.cell (hk1 0 _ rfl)) (.cell (hS2.cell (hk1 1 _ rfl)) .nil)))) fun a9 hf10 => ?_
   refine c_box [vI 0, vI 0] 56 hS2 hf10 fun b2 ww3 a10 hS3 hf11 => ⟨fun _ => trivial, ?_⟩
   refine c_n 1 [] [1, 3, 4, 5, 11, 12, 13, 17] hf11 .nil fun a11 hf12 => ?_
   refine c_st 0 [vI p1.lot, vI p1.mass] hS3 hf12 rfl fun ww4 a12 hS4 hf13 => ⟨fun _ => trivial, ?_⟩
   refine c_dt ?_
   refine c_seq ?_
   refine c_mid (fun a w => ∃ z2 : Zone, ∃ y3 : Bool, Zone.le z1 z2 ∧ Fr a 51 [(1, pB b1 0), (3, vI y1), (5, pB b2 0), (11, .slice o_x0 x0.length c_x0), (12, vI (x0.length : Int)), (13, vI y2), (43, .bool y3)] ∧ St z2 (box b2 [vI p1.lot, vI p1.mass] 56 :: box b1 [.slice o_x0 x0.length c_x0] 40 :: L) w ∧ (F73_j1 (F73_l1 fuel x0 n1) y1 y2 p1 y3) = some r) ?_ ?_
   ·skip
    have hS5 := hS4.drew
    have s1 := Sub.of zr hS5
    refine c_regD [(0, true), (1, true), (2, false), (3, true), (4, true), (5, true), (6, true), (7, false), (8, true), (9, true), (10, true), (11, true), (12, true), (13, true), (14, true), (15, true), (16, true), (17, true), (18, true), (19, true), (20, true), (21, true), (22, true), (23, true), (24, true), (25, true)] [] _ s1 ?_
    refine c_S 2 [vI p1.lot] [1, 3, 4, 5, 11, 12, 13, 19] s1 hf13 (fun _ s => (.cell (s.box (i := 0) rfl (j := 0) rfl) .nil)) .nil fun a13 hf14 => ?_
    obtain ⟨r1, hd1, hr6⟩ := bind_some hr5
    refine c_call hf14 (f71_ok fuel p1.lot 1 9999 r1 hd1 z1 _ _ hS5 ) ?_
    rintro v1 ww5 a14 ⟨z3, k3, rfl, hS6⟩ hf15
    refine ⟨fun _ => Sub.of k3 hS6, ?_⟩
    have s2 := Sub.of k3 hS6
    refine c_S 2 [] [1, 3, 4, 5, 11, 12, 13, 22] s2 hf15 (fun _ s => .nil) .nil fun a15 hf16 => ?_
    rcases bft (!r1) with hb4 | hb4
    ·have hr7 := cond_t hb4 hr6
     have hf17 := hf16.lit 22 hb4
     refine c_S 21 [] [1, 3, 5, 11, 12, 13, 23, 24, 25, 26, 29, 30, 31, 32, 33, 34, 35, 36, 37, 38, 39, 40, 41, 42, 43] s2 hf17 (fun _ s => .nil) .nil fun a16 hf18 => ?_
     refine c_dt ?_
     exact ⟨z3, true, k3, hf18.to, hS6, hr7⟩
    ·have hr8 := cond_f hb4 hr6
     have hf20 := hf16.lit 22 hb4
     refine c_S 2 [vI p1.mass] [1, 3, 4, 5, 11, 12, 13, 22, 23, 24] s2 hf20 (fun _ s => (.cell (s.box (i := 0) rfl (j := 1) rfl) .nil)) .nil fun a17 hf21 => ?_
     obtain ⟨r2, hd2, hr9⟩ := bind_some hr8
     refine c_call hf21 (f71_ok fuel p1.mass 1 100000000 r2 hd2 z3 _ _ hS6 ) ?_
     rintro v2 ww6 a18 ⟨z4, k4, rfl, hS7⟩ hf22
     refine ⟨fun _ => Sub.of (zt k3 k4) hS7, ?_⟩
     have s3 := Sub.of (zt k3 k4) hS7
     refine c_S 3 [] [1, 3, 4, 5, 11, 12, 13, 23, 24, 25, 26, 28] s3 hf22 (fun _ s => .nil) .nil fun a19 hf23 => ?_
     rcases bft (!r2) with hb5 | hb5
     ·have hr10 := cond_t hb5 hr9
      have hf24 := hf23.lit 28 hb5
      refine c_S 15 [] [1, 3, 5, 11, 12, 13, 23, 24, 25, 26, 29, 30, 31, 32, 33, 34, 35, 36, 37, 38, 39, 40, 41, 42, 43] s3 hf24 (fun _ s => .nil) .nil fun a20 hf25 => ?_
      refine c_dt ?_
      exact ⟨z4, true, (zt k3 k4), hf25.to, hS7, hr10⟩
     ·have hr11 := cond_f hb5 hr9
      have hf27 := hf23.lit 28 hb5
      refine c_S 3 [] [1, 3, 4, 5, 11, 12, 13, 23, 24, 25, 26, 28, 29, 30, 31] s3 hf27 (fun _ s => .nil) .nil fun a21 hf28 => ?_
      rcases bft (decide (y2 > (0 : Int))) with hb6 | hb6
      ·have hr12 := cond_t hb6 hr11
       have hf29 := hf28.lit 31 hb6
       obtain ⟨p2, hp5131, hr13⟩ := bind_some hr12
       obtain ⟨ad2, ho2, hb7, cc2, hc2, hk2⟩ := SliceR.getI (SliceR.mono k2 hx_x0) hp5131
       subst hc2
       refine c_S 12 [.slice o_x0 x0.length c_x0, .pointer (some ad2), vI p2.lot, vI p1.lot] [1, 3, 5, 11, 12, 13, 23, 24, 25, 26, 29, 30, 31, 32, 33, 34, 35, 36, 37, 38, 39, 40, 41, 42, 43] s3 hf29 (fun _ s => (.cell (s.box (i := 1) rfl (j := 0) rfl) (.prop ho2 (.prop hb7 (.cell (s.cell (hk2 0 _ rfl)) (.cell (s.box (i := 0) rfl (j := 0) rfl) .nil)))))) .nil fun a22 hf30 => ?_
       refine c_dt ?_
       exact ⟨z4, (decide (p2.lot ≥ p1.lot)), (zt k3 k4), hf30.to, hS7, hr13⟩
      ·have hr14 := cond_f hb6 hr11
       have hf32 := hf28.lit 31 hb6
       refine c_S 12 [] [1, 3, 5, 11, 12, 13, 23, 24, 25, 26, 29, 30, 31, 32, 33, 34, 35, 36, 37, 38, 39, 40, 41, 42, 43] s3 hf32 (fun _ s => .nil) .nil fun a23 hf33 => ?_
       refine c_dt ?_
       exact ⟨z4, false, (zt k3 k4), hf33.to, hS7, hr14⟩
   ·rintro a24 ww7 ⟨z2, y3, k5, hf35, hS8, hr15⟩
    refine c_if y3 hf35 (fun hb8 => ?_) (fun hb8 => ?_)
    ·have hr16 := cond_t hb8 hr15
     refine c_sq [] [2] hf35 .nil fun a25 hf36 => ?_
     refine c_ret ?_
     refine r_then ?_
     refine r_block ?_
     refine r_then ?_
     refine r_then ?_
     refine r_block ?_
     refine r_then ?_
     refine c_rt [] (.bool false) hf36 .nil ?_
     obtain rfl := some_eq hr16
     exact ⟨_, rfl, z2, (zt k2 k5), rfl, (St.drop 2 hS8)⟩
    ·have hr17 := cond_f hb8 hr15
     refine c_skip ?_
     refine n_then ?_
     refine c_q [vI p1.mass] [1, 3, 11, 12, 13] hf35 (.cell (hS8.box (i := 0) rfl (j := 1) rfl) .nil) fun a26 hf37 => ?_
     refine n_block ?_
     refine n_then ?_
     refine c_q [] [1, 3, 11, 12, 13] hf37 .nil fun a27 hf38 => ?_
     refine n_then ?_
     exact ⟨n1, Nat.lt_succ_self n1, z2, (w64 (y1 + p1.mass)), (w64 (y2 + (1 : Int))), (zt k2 k5), hf38.to, (St.drop 1 hS8), hr17⟩
  ·have hr18 := cond_f hb2 hr3
   refine c_exit 0 ?_
   refine x_then ?_
   refine x_then ?_
   refine x_block ?_
   refine n_then ?_
   refine c_sq [] [2] hf9 .nil fun a28 hf40 => ?_
   refine c_ret ?_
   refine c_rt [] (.bool (decide (y1 ≤ (100000000 : Int)))) hf40 .nil ?_
   obtain rfl := some_eq hr18
   exact ⟨_, rfl, z1, k2, rfl, (St.drop 1 hS2)⟩
def F90_l1 (x0 : List Part) : Nat → Int → Int → Option (Int)
  | 0, _, _ => none
  | n1 + 1, y1, y2 =>
    let k1 : Int → Int → Option (Int) := F90_l1 x0 n1
    (cond (decide (y2 < (x0.length : Int))) ((getI x0 y2).bind fun p1 => (k1 (w64 (y1 + p1.mass)) (w64 (y2 + (1 : Int))))) (some (y1)))
def F90 (fuel : Nat) (x0 : List Part) : Option (Int) :=
  (F90_l1 x0 fuel 0 0)
set_option maxRecDepth 100000 in
theorem f90_ok (fuel : Nat) (x0 : List Part) (r : Int) (hr : F90 fuel x0 = some r) (h : Zone) (L : List Atom) (w : World) (hS : St h L w) (o_x0 : Option Addr) (c_x0 : Nat) (hx_x0 : SliceR PartT h o_x0 c_x0 x0) :
    Calls Try.prog 90 #[.agg #[.slice o_x0 x0.length c_x0]] w fun e w' => ∃ v, e = .returned v ∧ (∃ h', Zone.le h h' ∧ v = vI r ∧ St h' L w') := by
 refine calls_intro (N := 19) Try.func90 (by kernel_rfl) fun a hf => ?_
 refine c_sr ?_
 refine c_box [.slice o_x0 x0.length c_x0] 40 hS hf fun b1 ww1 a1 hS1 hf1 => ⟨fun _ => trivial, ?_⟩
 refine c_t [] [1] hf1 .nil fun a2 hf2 => ?_
 refine c_sq [] [1, 3] hf2 .nil fun a3 hf3 => ?_
 refine c_seq ?_
 refine c_sq [.slice o_x0 x0.length c_x0] [3, 7, 8, 9] hf3 (.cell (hS1.box (i := 0) rfl (j := 0) rfl) .nil) fun a4 hf4 => ?_
 refine c_block 0 ?_
 refine c_loop (fun n a w => ∃ z1 : Zone, ∃ y1 : Int, ∃ y2 : Int, Zone.le h z1 ∧ Fr a 19 [(3, vI y1), (7, .slice o_x0 x0.length c_x0), (8, vI (x0.length : Int)), (9, vI y2)] ∧ St z1 (box b1 [.slice o_x0 x0.length c_x0] 40 :: L) w ∧ (F90_l1 x0 n y1 y2) = some r) fuel ⟨h, 0, 0, zr, hf4.to, hS1, hr⟩ ?_
 rintro n2 a5 ww2 ⟨z1, y1, y2, k2, hf6, hS2, hr1⟩
 cases n2 with
 | zero => cases hr1
 | succ n1 =>
 refine c_sq [] [3, 7, 8, 9, 10] hf6 .nil fun a6 hf7 => ?_
 refine c_seq ?_
 refine c_if (decide (y2 < (x0.length : Int))) hf7 (fun hb1 => ?_) (fun hb1 => ?_)
 ·have hr2 := cond_t hb1 hr1
  refine c_skip ?_
  refine n_then ?_
  refine c_seq ?_
  refine c_block 1 ?_
  refine c_sr ?_
  obtain ⟨p1, hp458, hr3⟩ := bind_some hr2
  obtain ⟨ad1, ho1, hb2, cc1, hc1, hk1⟩ := SliceR.getI (SliceR.mono k2 hx_x0) hp458
  subst hc1
  refine c_n 2 [.pointer (some ad1), vI p1.lot, vI p1.mass] [3, 7, 8, 9, 12] hf7 (.prop ho1 (.prop hb2 (.cell (hS2.cell (hk1 0 _ rfl)) (.cell (hS2.cell (hk1 1 _ rfl)) .nil)))) fun a7 hf8 => ?_
  refine c_box [vI 0, vI 0] 56 hS2 hf8 fun b2 ww3 a8 hS3 hf9 => ⟨fun _ => trivial, ?_⟩
  refine c_st 0 [vI p1.lot, vI p1.mass] hS3 hf9 rfl fun ww4 a9 hS4 hf10 => ⟨fun _ => trivial, ?_⟩
  refine c_dt ?_
  refine c_q [vI p1.mass] [3, 7, 8, 9] hf10 (.cell (hS4.box (i := 0) rfl (j := 1) rfl) .nil) fun a10 hf11 => ?_
  refine n_block ?_
  refine n_then ?_
  refine c_q [] [3, 7, 8, 9] hf11 .nil fun a11 hf12 => ?_
  refine n_then ?_
  exact ⟨n1, Nat.lt_succ_self n1, z1, (w64 (y1 + p1.mass)), (w64 (y2 + (1 : Int))), k2, hf12.to, (St.drop 1 hS4), hr3⟩
 ·have hr4 := cond_f hb1 hr1
  refine c_exit 0 ?_
  refine x_then ?_
  refine x_then ?_
  refine x_block ?_
  refine n_then ?_
  refine c_sq [] [2] hf7 .nil fun a12 hf14 => ?_
  refine c_ret ?_
  refine c_rt [] (vI y1) hf14 .nil ?_
  obtain rfl := some_eq hr4
  exact ⟨_, rfl, z1, k2, rfl, (St.drop 1 hS2)⟩
def F137 (fuel : Nat) (x0 : Int) : Option (Bool) :=
  (some ((x0 != x0)))
set_option maxRecDepth 100000 in
theorem f137_ok (fuel : Nat) (x0 : Int) (r : Bool) (hr : F137 fuel x0 = some r) (h : Zone) (L : List Atom) (w : World) (hS : St h L w)  :
    Calls Try.prog 137 #[vI x0] w fun e w' => ∃ v, e = .returned v ∧ (v = .bool r ∧ St h L w') := by
 refine calls_intro (N := 6) Try.func137 (by kernel_rfl) fun a hf => ?_
 refine c_sq [] [0] hf .nil fun a1 hf1 => ?_
 refine c_sq [] [2] hf1 .nil fun a2 hf2 => ?_
 refine c_ret ?_
 refine c_rt [] (.bool (x0 != x0)) hf2 .nil ?_
 obtain rfl := some_eq hr
 exact ⟨_, rfl, rfl, hS⟩
def F123 (fuel : Nat) (x0 : Int) (x1 : Int) : Option (Int) :=
  ((F137 fuel x0).bind fun r1 => ((F137 fuel x1).bind fun r2 => (cond r1 (cond r2 (some (0)) (some (-1))) (cond r2 (some (1)) (cond (decide (x0 < x1)) (some (-1)) (cond (decide (x0 > x1)) (some (1)) (some (0))))))))
set_option maxRecDepth 100000 in
theorem f123_ok (fuel : Nat) (x0 : Int) (x1 : Int) (r : Int) (hr : F123 fuel x0 x1 = some r) (h : Zone) (L : List Atom) (w : World) (hS : St h L w)  :
    Calls Try.prog 123 #[vI x0, vI x1] w fun e w' => ∃ v, e = .returned v ∧ (v = vI r ∧ St h L w') := by
 refine calls_intro (N := 20) Try.func123 (by kernel_rfl) fun a hf => ?_
 refine c_sq [] [0, 1] hf .nil fun a1 hf1 => ?_
 refine c_sr ?_
 refine c_n 1 [] [0, 1, 7] hf1 .nil fun a2 hf2 => ?_
 obtain ⟨r1, hd1, hr1⟩ := bind_some hr
 refine c_call hf2 (f137_ok fuel x0 r1 hd1 h _ _ hS ) ?_
 rintro v1 ww1 a3 ⟨rfl, hS1⟩ hf3
 refine ⟨fun _ => trivial, ?_⟩
 refine c_t [] [0, 1, 5] hf3 .nil fun a4 hf4 => ?_
 refine c_sr ?_
 refine c_n 1 [] [0, 1, 5, 9] hf4 .nil fun a5 hf5 => ?_
 obtain ⟨r2, hd2, hr2⟩ := bind_some hr1
 refine c_call hf5 (f137_ok fuel x1 r2 hd2 h _ _ hS1 ) ?_
 rintro v2 ww2 a6 ⟨rfl, hS2⟩ hf6
 refine ⟨fun _ => trivial, ?_⟩
 refine c_t [] [0, 1, 5, 6] hf6 .nil fun a7 hf7 => ?_
 refine c_seq ?_
 refine c_sq [] [0, 1, 6, 11] hf7 .nil fun a8 hf8 => ?_
 refine c_if r1 hf8 (fun hb1 => ?_) (fun hb1 => ?_)
 ·have hr3 := cond_t hb1 hr2
  refine c_seq ?_
  refine c_sq [] [12] hf8 .nil fun a9 hf9 => ?_
  refine c_if r2 hf9 (fun hb2 => ?_) (fun hb2 => ?_)
  ·have hr4 := cond_t hb2 hr3
   refine c_sq [] [4] hf9 .nil fun a10 hf10 => ?_
   refine c_ret ?_
   refine r_then ?_
   refine r_then ?_
   refine c_rt [] (vI 0) hf10 .nil ?_
   obtain rfl := some_eq hr4
   exact ⟨_, rfl, rfl, hS2⟩
  ·have hr5 := cond_f hb2 hr3
   refine c_skip ?_
   refine n_then ?_
   refine c_sq [] [4] hf9 .nil fun a11 hf11 => ?_
   refine c_ret ?_
   refine r_then ?_
   refine c_rt [] (vI (-1)) hf11 .nil ?_
   obtain rfl := some_eq hr5
   exact ⟨_, rfl, rfl, hS2⟩
 ·have hr6 := cond_f hb1 hr2
  refine c_skip ?_
  refine n_then ?_
  refine c_seq ?_
  refine c_sq [] [0, 1, 13] hf8 .nil fun a12 hf12 => ?_
  refine c_if r2 hf12 (fun hb3 => ?_) (fun hb3 => ?_)
  ·have hr7 := cond_t hb3 hr6
   refine c_sq [] [4] hf12 .nil fun a13 hf13 => ?_
   refine c_ret ?_
   refine r_then ?_
   refine c_rt [] (vI 1) hf13 .nil ?_
   obtain rfl := some_eq hr7
   exact ⟨_, rfl, rfl, hS2⟩
  ·have hr8 := cond_f hb3 hr6
   refine c_skip ?_
   refine n_then ?_
   refine c_seq ?_
   refine c_sq [] [0, 1, 16] hf12 .nil fun a14 hf14 => ?_
   refine c_if (decide (x0 < x1)) hf14 (fun hb4 => ?_) (fun hb4 => ?_)
   ·have hr9 := cond_t hb4 hr8
    refine c_sq [] [4] hf14 .nil fun a15 hf15 => ?_
    refine c_ret ?_
    refine r_then ?_
    refine c_rt [] (vI (-1)) hf15 .nil ?_
    obtain rfl := some_eq hr9
    exact ⟨_, rfl, rfl, hS2⟩
   ·have hr10 := cond_f hb4 hr8
    refine c_skip ?_
    refine n_then ?_
    refine c_seq ?_
    refine c_sq [] [19] hf14 .nil fun a16 hf16 => ?_
    refine c_if (decide (x0 > x1)) hf16 (fun hb5 => ?_) (fun hb5 => ?_)
    ·have hr11 := cond_t hb5 hr10
     refine c_sq [] [4] hf16 .nil fun a17 hf17 => ?_
     refine c_ret ?_
     refine r_then ?_
     refine c_rt [] (vI 1) hf17 .nil ?_
     obtain rfl := some_eq hr11
     exact ⟨_, rfl, rfl, hS2⟩
    ·have hr12 := cond_f hb5 hr10
     refine c_skip ?_
     refine n_then ?_
     refine c_sq [] [4] hf16 .nil fun a18 hf18 => ?_
     refine c_ret ?_
     refine c_rt [] (vI 0) hf18 .nil ?_
     obtain rfl := some_eq hr12
     exact ⟨_, rfl, rfl, hS2⟩
end Go.Proofs.Ytlmgjjmighajdaa
set_option linter.unusedVariables false
namespace Go.Proofs.Ytlmgjjmighajdaa
open Go.Sl Go.Sx
def F156_l2 (y1 : Int) : Nat → (List Int) → Int → Option (List Int)
  | 0, _, _ => none
  | n1 + 1, y2, y3 =>
    let k1 : (List Int) → Int → Option (List Int) := F156_l2 y1 n1
    (cond (decide (y3 < (w64 (y1 - (1 : Int))))) ((getI y2 (w64 (y3 + (1 : Int)))).bind fun p1 => ((getI y2 y3).bind fun p2 => ((getI y2 y3).bind fun p3 => ((setI y2 y3 p1).bind fun d1 => ((getI d1 (w64 (y3 + (1 : Int)))).bind fun p4 => ((setI d1 (w64 (y3 + (1 : Int))) p2).bind fun d2 => (k1 d2 (w64 (y3 + (1 : Int)))))))))) (some (y2)))
def F156_l1 (fuel : Nat) (x4 : Int) (x5 : List Int) (x6 : Int) (x0 : List Int) (x1 : Int) : Nat → Int → Int → Option (List Int)
  | 0, _, _ => none
  | n2 + 1, y1, y4 =>
    let k2 : Int → Int → Option (List Int) := F156_l1 fuel x4 x5 x6 x0 x1 n2
    (cond (decide (y1 < y4)) ((getI x0 (w64 (Int.fdiv (IntKind.wrap .u64 (w64 (y1 + y4))) 2))).bind fun p5 => ((getI x0 x1).bind fun p6 => ((getI x5 p6).bind fun p7 => ((nz x6).bind fun _ => ((getI x5 p5).bind fun p8 => ((nz x6).bind fun _ => ((F123 fuel (Int.tmod (w64 (x4 * p7)) x6) (Int.tmod (w64 (x4 * p8)) x6)).bind fun r1 => (cond (decide (r1 < (0 : Int))) (k2 (w64 ((w64 (Int.fdiv (IntKind.wrap .u64 (w64 (y1 + y4))) 2)) + (1 : Int))) y4) (k2 y1 (w64 (Int.fdiv (IntKind.wrap .u64 (w64 (y1 + y4))) 2))))))))))) (F156_l2 y1 fuel x0 x1))
def F156_l4 (y5 : Int) : Nat → (List Int) → Int → Option (List Int)
  | 0, _, _ => none
  | n3 + 1, y6, y7 =>
    let k3 : (List Int) → Int → Option (List Int) := F156_l4 y5 n3
    (cond (decide (y7 > y5)) ((getI y6 (w64 (y7 - (1 : Int)))).bind fun p9 => ((getI y6 y7).bind fun p10 => ((getI y6 y7).bind fun p11 => ((setI y6 y7 p9).bind fun d3 => ((getI d3 (w64 (y7 - (1 : Int)))).bind fun p12 => ((setI d3 (w64 (y7 - (1 : Int))) p10).bind fun d4 => (k3 d4 (w64 (y7 - (1 : Int)))))))))) (some (y6)))
def F156_l3 (fuel : Nat) (x4 : Int) (x5 : List Int) (x6 : Int) (x0 : List Int) (x2 : Int) : Nat → Int → Int → Option (List Int)
  | 0, _, _ => none
  | n4 + 1, y5, y8 =>
    let k4 : Int → Int → Option (List Int) := F156_l3 fuel x4 x5 x6 x0 x2 n4
    (cond (decide (y5 < y8)) ((getI x0 x2).bind fun p13 => ((getI x0 (w64 (Int.fdiv (IntKind.wrap .u64 (w64 (y5 + y8))) 2))).bind fun p14 => ((getI x5 p14).bind fun p15 => ((nz x6).bind fun _ => ((getI x5 p13).bind fun p16 => ((nz x6).bind fun _ => ((F123 fuel (Int.tmod (w64 (x4 * p15)) x6) (Int.tmod (w64 (x4 * p16)) x6)).bind fun r2 => (cond (!(decide (r2 < (0 : Int)))) (k4 (w64 ((w64 (Int.fdiv (IntKind.wrap .u64 (w64 (y5 + y8))) 2)) + (1 : Int))) y8) (k4 y5 (w64 (Int.fdiv (IntKind.wrap .u64 (w64 (y5 + y8))) 2))))))))))) (F156_l4 y5 fuel x0 x2))
def F156_j6 (rec : List Int → Int → Int → Int → Option (List Int)) (x1 : Int) (x2 : Int) (x3 : Int) (y9 : Int) (y10 : List Int) (y11 : Bool) : Option (List Int) :=
  (cond y11 ((rec y10 (w64 (Int.fdiv (IntKind.wrap .u64 (w64 (x1 + x3))) 2)) (w64 ((w64 ((w64 (Int.fdiv (IntKind.wrap .u64 (w64 (x1 + x3))) 2)) + x2)) - y9)) x3).bind fun r3 => (some (r3))) (some (y10)))
def F156_j4 (rec : List Int → Int → Int → Int → Option (List Int)) (x1 : Int) (x2 : Int) (x3 : Int) (y9 : Int) (y10 : List Int) : Option (List Int) :=
  (cond (decide ((w64 (Int.fdiv (IntKind.wrap .u64 (w64 (x1 + x3))) 2)) < (w64 ((w64 ((w64 (Int.fdiv (IntKind.wrap .u64 (w64 (x1 + x3))) 2)) + x2)) - y9)))) (F156_j6 rec x1 x2 x3 y9 y10 (decide ((w64 ((w64 ((w64 (Int.fdiv (IntKind.wrap .u64 (w64 (x1 + x3))) 2)) + x2)) - y9)) < x3))) (F156_j6 rec x1 x2 x3 y9 y10 false))
def F156_j5 (rec : List Int → Int → Int → Int → Option (List Int)) (x1 : Int) (x2 : Int) (x3 : Int) (y9 : Int) (y12 : List Int) (y13 : Bool) : Option (List Int) :=
  (cond y13 ((rec y12 x1 y9 (w64 (Int.fdiv (IntKind.wrap .u64 (w64 (x1 + x3))) 2))).bind fun r4 => (F156_j4 rec x1 x2 x3 y9 r4)) (F156_j4 rec x1 x2 x3 y9 y12))
def F156_j2 (rec : List Int → Int → Int → Int → Option (List Int)) (x1 : Int) (x2 : Int) (x3 : Int) (y9 : Int) (y12 : List Int) : Option (List Int) :=
  (cond (decide (x1 < y9)) (F156_j5 rec x1 x2 x3 y9 y12 (decide (y9 < (w64 (Int.fdiv (IntKind.wrap .u64 (w64 (x1 + x3))) 2))))) (F156_j5 rec x1 x2 x3 y9 y12 false))
def F156_l7 (k5 : (List Int) → Int → Int → Option (List Int)) (x2 : Int) (y14 : Int) (y15 : Int) : Nat → (List Int) → Int → Option (List Int)
  | 0, _, _ => none
  | n5 + 1, y16, y17 =>
    let k6 : (List Int) → Int → Option (List Int) := F156_l7 k5 x2 y14 y15 n5
    (cond (decide (y17 < y15)) ((getI y16 (w64 (x2 + y17))).bind fun p17 => ((getI y16 (w64 ((w64 (x2 - y14)) + y17))).bind fun p18 => ((getI y16 (w64 ((w64 (x2 - y14)) + y17))).bind fun p19 => ((setI y16 (w64 ((w64 (x2 - y14)) + y17)) p17).bind fun d5 => ((getI d5 (w64 (x2 + y17))).bind fun p20 => ((setI d5 (w64 (x2 + y17)) p18).bind fun d6 => (k6 d6 (w64 (y17 + (1 : Int)))))))))) (k5 y16 (w64 (y14 - y15)) y15))
def F156_l8 (k5 : (List Int) → Int → Int → Option (List Int)) (x2 : Int) (y14 : Int) (y15 : Int) : Nat → (List Int) → Int → Option (List Int)
  | 0, _, _ => none
  | n6 + 1, y18, y19 =>
    let k7 : (List Int) → Int → Option (List Int) := F156_l8 k5 x2 y14 y15 n6
    (cond (decide (y19 < y14)) ((getI y18 (w64 ((w64 ((w64 (x2 + y15)) - y14)) + y19))).bind fun p21 => ((getI y18 (w64 ((w64 (x2 - y14)) + y19))).bind fun p22 => ((getI y18 (w64 ((w64 (x2 - y14)) + y19))).bind fun p23 => ((setI y18 (w64 ((w64 (x2 - y14)) + y19)) p21).bind fun d7 => ((getI d7 (w64 ((w64 ((w64 (x2 + y15)) - y14)) + y19))).bind fun p24 => ((setI d7 (w64 ((w64 ((w64 (x2 + y15)) - y14)) + y19)) p22).bind fun d8 => (k7 d8 (w64 (y19 + (1 : Int)))))))))) (k5 y18 y14 (w64 (y15 - y14))))
def F156_l9 (rec : List Int → Int → Int → Int → Option (List Int)) (x1 : Int) (x2 : Int) (x3 : Int) (y9 : Int) (y14 : Int) : Nat → (List Int) → Int → Option (List Int)
  | 0, _, _ => none
  | n7 + 1, y20, y21 =>
    let k8 : (List Int) → Int → Option (List Int) := F156_l9 rec x1 x2 x3 y9 y14 n7
    (cond (decide (y21 < y14)) ((getI y20 (w64 (x2 + y21))).bind fun p25 => ((getI y20 (w64 ((w64 (x2 - y14)) + y21))).bind fun p26 => ((getI y20 (w64 ((w64 (x2 - y14)) + y21))).bind fun p27 => ((setI y20 (w64 ((w64 (x2 - y14)) + y21)) p25).bind fun d9 => ((getI d9 (w64 (x2 + y21))).bind fun p28 => ((setI d9 (w64 (x2 + y21)) p26).bind fun d10 => (k8 d10 (w64 (y21 + (1 : Int)))))))))) (F156_j2 rec x1 x2 x3 y9 y20))
def F156_l6 (fuel : Nat) (rec : List Int → Int → Int → Int → Option (List Int)) (x1 : Int) (x2 : Int) (x3 : Int) (y9 : Int) : Nat → (List Int) → Int → Int → Option (List Int)
  | 0, _, _, _ => none
  | n8 + 1, y22, y14, y15 =>
    let k5 : (List Int) → Int → Int → Option (List Int) := F156_l6 fuel rec x1 x2 x3 y9 n8
    (cond (y14 != y15) (cond (decide (y14 > y15)) (F156_l7 k5 x2 y14 y15 fuel y22 0) (F156_l8 k5 x2 y14 y15 fuel y22 0)) (F156_l9 rec x1 x2 x3 y9 y14 fuel y22 0))
def F156_j3 (fuel : Nat) (rec : List Int → Int → Int → Int → Option (List Int)) (x0 : List Int) (x1 : Int) (x2 : Int) (x3 : Int) (y9 : Int) (y23 : Bool) : Option (List Int) :=
  (cond y23 (F156_l6 fuel rec x1 x2 x3 y9 fuel x0 (w64 (x2 - y9)) (w64 ((w64 ((w64 ((w64 (Int.fdiv (IntKind.wrap .u64 (w64 (x1 + x3))) 2)) + x2)) - y9)) - x2))) (F156_j2 rec x1 x2 x3 y9 x0))
def F156_l5 (fuel : Nat) (rec : List Int → Int → Int → Int → Option (List Int)) (x4 : Int) (x5 : List Int) (x6 : Int) (x0 : List Int) (x1 : Int) (x2 : Int) (x3 : Int) : Nat → Int → Int → Option (List Int)
  | 0, _, _ => none
  | n9 + 1, y9, y24 =>
    let k9 : Int → Int → Option (List Int) := F156_l5 fuel rec x4 x5 x6 x0 x1 x2 x3 n9
    (cond (decide (y9 < y24)) ((getI x0 (w64 ((w64 ((w64 ((w64 (Int.fdiv (IntKind.wrap .u64 (w64 (x1 + x3))) 2)) + x2)) - (1 : Int))) - (w64 (Int.fdiv (IntKind.wrap .u64 (w64 (y9 + y24))) 2))))).bind fun p29 => ((getI x0 (w64 (Int.fdiv (IntKind.wrap .u64 (w64 (y9 + y24))) 2))).bind fun p30 => ((getI x5 p30).bind fun p31 => ((nz x6).bind fun _ => ((getI x5 p29).bind fun p32 => ((nz x6).bind fun _ => ((F123 fuel (Int.tmod (w64 (x4 * p31)) x6) (Int.tmod (w64 (x4 * p32)) x6)).bind fun r5 => (cond (!(decide (r5 < (0 : Int)))) (k9 (w64 ((w64 (Int.fdiv (IntKind.wrap .u64 (w64 (y9 + y24))) 2)) + (1 : Int))) y24) (k9 y9 (w64 (Int.fdiv (IntKind.wrap .u64 (w64 (y9 + y24))) 2))))))))))) (cond (decide (y9 < x2)) (F156_j3 fuel rec x0 x1 x2 x3 y9 (decide (x2 < (w64 ((w64 ((w64 (Int.fdiv (IntKind.wrap .u64 (w64 (x1 + x3))) 2)) + x2)) - y9))))) (F156_j3 fuel rec x0 x1 x2 x3 y9 false)))
def F156_j1 (fuel : Nat) (rec : List Int → Int → Int → Int → Option (List Int)) (x4 : Int) (x5 : List Int) (x6 : Int) (x0 : List Int) (x1 : Int) (x2 : Int) (x3 : Int) (y25 : Int) (y26 : Int) : Option (List Int) :=
  (F156_l5 fuel rec x4 x5 x6 x0 x1 x2 x3 fuel y25 y26)
def F156 (fuel : Nat) (rec : List Int → Int → Int → Int → Option (List Int)) (x4 : Int) (x5 : List Int) (x6 : Int) (x0 : List Int) (x1 : Int) (x2 : Int) (x3 : Int) : Option (List Int) :=
  (cond ((w64 (x2 - x1)) == (1 : Int)) (F156_l1 fuel x4 x5 x6 x0 x1 fuel x2 x3) (cond ((w64 (x3 - x2)) == (1 : Int)) (F156_l3 fuel x4 x5 x6 x0 x2 fuel x1 x2) (cond (decide (x2 > (w64 (Int.fdiv (IntKind.wrap .u64 (w64 (x1 + x3))) 2)))) (F156_j1 fuel rec x4 x5 x6 x0 x1 x2 x3 (w64 ((w64 ((w64 (Int.fdiv (IntKind.wrap .u64 (w64 (x1 + x3))) 2)) + x2)) - x3)) (w64 (Int.fdiv (IntKind.wrap .u64 (w64 (x1 + x3))) 2))) (F156_j1 fuel rec x4 x5 x6 x0 x1 x2 x3 x1 x2))))
set_option maxRecDepth 100000 in
theorem f156_ok (fuel : Nat) (rec : List Int → Int → Int → Int → Option (List Int)) (x4 : Int) (x5 : List Int) (x6 : Int) (x0 : List Int) (x1 : Int) (x2 : Int) (x3 : Int) (hrec : ∀ (X : List Int) (I1 I2 I3 : Int) (R : List Int), rec X I1 I2 I3 = some R → ∀ (H : Zone) (M : List Atom) (W : World), St H M W → ∀ (ja jb jc jd : Nat) (O : Option Addr) (C : Nat) (BA BB BC : Nat) (OA : Option Addr) (CA : Nat), [ja, jb, jc, jd].Nodup → M[ja]? = some (ownS Ty.int 3 O C X) → M[jb]? = some (box BA [vI x4] 3) → M[jc]? = some (box BB [.slice OA x5.length CA] 53) → M[jd]? = some (box BC [vI x6] 3) → SliceR Ty.int H OA CA x5 → Calls Try.prog 156 #[.slice O X.length C, vI I1, vI I2, vI I3, .func (.func 145) #[] #[pB BA 0, pB BB 0, pB BC 0]] W fun e W' => ∃ v, e = .returned v ∧ ∃ H', Zone.le H H' ∧ v = .tuple #[] ∧ St H' (M.set ja (ownS Ty.int 3 O C R)) W' ∧ X.length = R.length) (r : List Int) (hr : F156 fuel rec x4 x5 x6 x0 x1 x2 x3 = some r) (h : Zone) (L : List Atom) (w : World) (o_x0 : Option Addr) (c_x0 b_x4 b_x5 b_x6 : Nat) (o_x5 : Option Addr) (c_x5 : Nat) (hx_x5 : SliceR Ty.int h o_x5 c_x5 x5) (hS : St h (ownS Ty.int 3 o_x0 c_x0 x0 :: box b_x4 [vI x4] 3 :: box b_x5 [.slice o_x5 x5.length c_x5] 53 :: box b_x6 [vI x6] 3 :: L) w) :
    Calls Try.prog 156 #[.slice o_x0 x0.length c_x0, vI x1, vI x2, vI x3, .func (.func 145) #[] #[pB b_x4 0, pB b_x5 0, pB b_x6 0]] w fun e w' => ∃ v, e = .returned v ∧ ∃ h', Zone.le h h' ∧ v = .tuple #[] ∧ St h' (ownS Ty.int 3 o_x0 c_x0 r :: box b_x4 [vI x4] 3 :: box b_x5 [.slice o_x5 x5.length c_x5] 53 :: box b_x6 [vI x6] 3 :: L) w' ∧ x0.length = r.length := by
 refine calls_intro (N := 220) Try.func156 (by kernel_rfl) fun a hf => ?_
 refine c_seq ?_
 refine c_sq [] [0, 1, 2, 3, 4, 28] hf .nil fun a1 hf1 => ?_
 refine c_if ((w64 (x2 - x1)) == (1 : Int)) hf1 (fun hb1 => ?_) (fun hb1 => ?_)
 ·have hr1 := cond_t hb1 hr
  refine c_sq [] [0, 1, 3, 4, 10] hf1 .nil fun a2 hf2 => ?_
  refine c_sq [] [0, 1, 4, 10, 11] hf2 .nil fun a3 hf3 => ?_
  refine c_seq ?_
  refine c_block 0 ?_
  refine c_loop (fun n a w => ∃ z1 : Zone, ∃ y1 : Int, ∃ y4 : Int, Zone.le h z1 ∧ Fr a 220 [(0, .slice o_x0 x0.length c_x0), (1, vI x1), (4, .func (.func 145) #[] #[pB b_x4 0, pB b_x5 0, pB b_x6 0]), (10, vI y1), (11, vI y4)] ∧ St z1 (ownS Ty.int 3 o_x0 c_x0 x0 :: box b_x4 [vI x4] 3 :: box b_x5 [.slice o_x5 x5.length c_x5] 53 :: box b_x6 [vI x6] 3 :: L) w ∧ (F156_l1 fuel x4 x5 x6 x0 x1 n y1 y4) = some r) fuel ⟨h, x2, x3, zr, hf3.to, hS, hr1⟩ ?_
  rintro n10 a4 ww1 ⟨z1, y1, y4, k10, hf5, hS1, hr2⟩
  cases n10 with
  | zero => cases hr2
  | succ n2 =>
  refine c_seq ?_
  refine c_sq [] [0, 1, 4, 10, 11, 33] hf5 .nil fun a5 hf6 => ?_
  refine c_if (decide (y1 < y4)) hf6 (fun hb2 => ?_) (fun hb2 => ?_)
  ·have hr3 := cond_t hb2 hr2
   refine c_skip ?_
   refine n_then ?_
   refine c_block 1 ?_
   refine c_sq [] [0, 1, 4, 10, 11, 12] hf6 .nil fun a6 hf7 => ?_
   refine c_seq ?_
   have hS2 := hS1.drew
   refine c_regD [(0, true), (1, true), (2, true), (3, true), (4, true), (5, true), (6, true), (7, true), (8, true), (9, false), (10, true)] [9] (fun x => x = ww1.drew) rfl ?_
   obtain ⟨p5, hp3264, hr4⟩ := bind_some hr3
   obtain ⟨ad1, ho1, hb3, cc1, hc1, hk1⟩ := hS2.ownGet (j := 0) rfl hp3264
   subst hc1
   obtain ⟨p6, hp3273, hr5⟩ := bind_some hr4
   obtain ⟨ad2, ho2, hb4, cc2, hc2, hk2⟩ := hS2.ownGet (j := 0) rfl hp3273
   subst hc2
   refine c_E 9 [.pointer (some ad1), vI p5, .pointer (some ad2), vI p6] [0, 1, 4, 10, 11, 12, 40, 44, 48] hf7 (.prop ho1 (.prop hb3 (.cell (hk1 0 _ rfl) (.prop ho2 (.prop hb4 (.cell (hk2 0 _ rfl) .nil)))))) .nil fun a7 hf8 => ?_
   refine p_inl (i := 9) (d := some 49) (f := 145) (args := #[vI p5, vI p6, pB b_x4 0, pB b_x5 0, pB b_x6 0]) (N' := 25) hf8 (by kernel_rfl) Try.func145 (by kernel_rfl) fun a8 hf9 => ?_
   refine c_sq [] [0, 1, 2, 3, 4] hf9 .nil fun a9 hf10 => ?_
   refine c_seq ?_
   have hS3 := hS2.drew
   refine c_regD [(0, true), (1, true), (2, true), (3, true), (4, true), (5, true), (6, true), (7, true), (8, true), (9, true), (10, true), (11, true), (12, true), (13, true), (14, true), (15, true), (16, false), (17, true)] [16] (fun x => x = (ww1.drew).drew) rfl ?_
   obtain ⟨p7, hp3337, hr6⟩ := bind_some hr5
   obtain ⟨ad3, ho3, hb5, cc3, hc3, hk3⟩ := SliceR.getI (SliceR.mono k10 hx_x5) hp3337
   subst hc3
   obtain ⟨u1, hd1, hr7⟩ := bind_some hr6
   obtain ⟨p8, hp3349, hr8⟩ := bind_some hr7
   obtain ⟨ad4, ho4, hb6, cc4, hc4, hk4⟩ := SliceR.getI (SliceR.mono k10 hx_x5) hp3349
   subst hc4
   obtain ⟨u2, hd2, hr9⟩ := bind_some hr8
   refine c_E 16 [vI x4, .slice o_x5 x5.length c_x5, .pointer (some ad3), vI p7, vI x6, vI x4, .slice o_x5 x5.length c_x5, .pointer (some ad4), vI p8, vI x6] [15, 23] hf10 (.cell (hS3.box (i := 1) rfl (j := 0) rfl) (.cell (hS3.box (i := 2) rfl (j := 0) rfl) (.prop ho3 (.prop hb5 (.cell (hS3.cell (hk3 0 _ rfl)) (.cell (hS3.box (i := 3) rfl (j := 0) rfl) (.prop (nz_spec hd1) (.cell (hS3.box (i := 1) rfl (j := 0) rfl) (.cell (hS3.box (i := 2) rfl (j := 0) rfl) (.prop ho4 (.prop hb6 (.cell (hS3.cell (hk4 0 _ rfl)) (.cell (hS3.box (i := 3) rfl (j := 0) rfl) (.prop (nz_spec hd2) .nil)))))))))))))) .nil fun a10 hf11 => ?_
   obtain ⟨r1, hd3, hr10⟩ := bind_some hr9
   refine c_call hf11 (f123_ok fuel (Int.tmod (w64 (x4 * p7)) x6) (Int.tmod (w64 (x4 * p8)) x6) r1 hd3 z1 _ _ hS3 ) ?_
   rintro v1 ww2 a11 ⟨rfl, hS4⟩ hf12
   refine ⟨fun e => absurd e (by decide), ?_⟩
   refine p_qP 1 [] [(7, vI r1)] [] hf12 (by kernel_rfl) (fun _ => .nil) fun a12 hf13 => ?_
   refine c_dt ?_
   refine c_ret ?_
   refine c_rt [] (vI r1) hf13 .nil ?_
   refine ⟨_, rfl, fun a13 hf14 => ?_⟩
   refine ⟨fun e => absurd e (by decide), ?_⟩
   refine p_qP 1 [] [(0, .slice o_x0 x0.length c_x0), (1, vI x1), (4, .func (.func 145) #[] #[pB b_x4 0, pB b_x5 0, pB b_x6 0]), (10, vI y1), (11, vI y4), (12, vI (w64 (Int.fdiv (IntKind.wrap .u64 (w64 (y1 + y4))) 2))), (50, .bool (decide (r1 < (0 : Int))))] [] hf14 (by kernel_rfl) (fun _ => .nil) fun a14 hf15 => ?_
   refine c_dt ?_
   refine c_if (decide (r1 < (0 : Int))) hf15 (fun hb7 => ?_) (fun hb7 => ?_)
   ·have hr11 := cond_t hb7 hr10
    refine c_q [] [0, 1, 4, 10, 11] hf15 .nil fun a15 hf16 => ?_
    refine n_block ?_
    refine n_then ?_
    exact ⟨n2, Nat.lt_succ_self n2, z1, (w64 ((w64 (Int.fdiv (IntKind.wrap .u64 (w64 (y1 + y4))) 2)) + (1 : Int))), y4, k10, hf16.to, hS4, hr11⟩
   ·have hr12 := cond_f hb7 hr10
    refine c_q [] [0, 1, 4, 10, 11] hf15 .nil fun a16 hf18 => ?_
    refine n_block ?_
    refine n_then ?_
    exact ⟨n2, Nat.lt_succ_self n2, z1, y1, (w64 (Int.fdiv (IntKind.wrap .u64 (w64 (y1 + y4))) 2)), k10, hf18.to, hS4, hr12⟩
  ·have hr13 := cond_f hb2 hr2
   refine c_exit 0 ?_
   refine x_then ?_
   refine x_then ?_
   refine x_block ?_
   refine n_then ?_
   refine c_seq ?_
   refine c_sq [] [0, 10, 13] hf6 .nil fun a17 hf20 => ?_
   refine c_block 2 ?_
   refine c_loop (fun n a w => ∃ z2 : Zone, ∃ y2 : List Int, ∃ y3 : Int, Zone.le z1 z2 ∧ Fr a 220 [(0, .slice o_x0 y2.length c_x0), (10, vI y1), (13, vI y3)] ∧ St z2 (ownS Ty.int 3 o_x0 c_x0 y2 :: box b_x4 [vI x4] 3 :: box b_x5 [.slice o_x5 x5.length c_x5] 53 :: box b_x6 [vI x6] 3 :: L) w ∧ y2.length = x0.length ∧ (F156_l2 y1 n y2 y3) = some r) fuel ⟨z1, x0, x1, zr, hf20.to, hS1, rfl, hr13⟩ ?_
   rintro n11 a18 ww3 ⟨z2, y2, y3, k11, hf22, hS5, hl1, hr14⟩
   cases n11 with
   | zero => cases hr14
   | succ n1 =>
   refine c_seq ?_
   refine c_sq [] [0, 10, 13, 58] hf22 .nil fun a19 hf23 => ?_
   refine c_if (decide (y3 < (w64 (y1 - (1 : Int))))) hf23 (fun hb8 => ?_) (fun hb8 => ?_)
   ·have hr15 := cond_t hb8 hr14
    refine c_skip ?_
    refine n_then ?_
    refine c_seq ?_
    refine c_block 3 ?_
    have hS6 := hS5.drew
    refine c_regD [(0, true), (1, true), (2, true), (3, true), (4, true), (5, true), (6, true), (7, true), (8, true), (9, true), (10, true), (11, true), (12, true), (13, true), (14, true), (15, false), (16, true), (17, false)] [15, 17] (fun x => x = ww3.drew) rfl ?_
    obtain ⟨p1, hp4416, hr16⟩ := bind_some hr15
    obtain ⟨ad5, ho5, hb9, cc5, hc5, hk5⟩ := hS6.ownGet (j := 0) rfl hp4416
    subst hc5
    obtain ⟨p2, hp4425, hr17⟩ := bind_some hr16
    obtain ⟨ad6, ho6, hb10, cc6, hc6, hk6⟩ := hS6.ownGet (j := 0) rfl hp4425
    subst hc6
    obtain ⟨p3, hp4434, hr18⟩ := bind_some hr17
    obtain ⟨ad7, ho7, hb11, cc7, hc7, hk7⟩ := hS6.ownGet (j := 0) rfl hp4434
    subst hc7
    refine c_E 15 [.pointer (some ad5), vI p1, .pointer (some ad6), vI p2, .pointer (some ad7)] [0, 10, 13, 63, 65, 70, 74, 75] hf23 (.prop ho5 (.prop hb9 (.cell (hk5 0 _ rfl) (.prop ho6 (.prop hb10 (.cell (hk6 0 _ rfl) (.prop ho7 (.prop hb11 .nil)))))))) .nil fun a20 hf24 => ?_
    obtain ⟨d1, hd4, hr19⟩ := bind_some hr18
    have hl2 := setI_len hd4
    refine p_setOwnI (i := 15) (j := 0) (ad := ad7) (ix := y3) (x' := p1) hS6 hf24 rfl ho7 (by kernel_rfl) hd4 fun ww4 a21 hS7 hf25 => ?_
    have hf26 := Fr.conv (fl' := [(0, .slice o_x0 d1.length c_x0), (10, vI y1), (13, vI y3), (63, .slice o_x0 d1.length c_x0), (65, vI (w64 (y3 + (1 : Int)))), (70, vI p1), (74, vI p2), (75, .pointer (some (ad7.add (Int.toNat y3 * 1))))]) hf25 (by rw [hl2] <;> kernel_rfl)
    refine ⟨fun e => absurd e (by decide), ?_⟩
    obtain ⟨p4, hp4454, hr20⟩ := bind_some hr19
    obtain ⟨ad8, ho8, hb12, cc8, hc8, hk8⟩ := hS7.ownGet (j := 0) rfl hp4454
    subst hc8
    refine p_qP 1 [.pointer (some ad8)] [(0, .slice o_x0 d1.length c_x0), (10, vI y1), (13, vI y3), (74, vI p2), (76, .pointer (some (ad8.add (Int.toNat (w64 (y3 + (1 : Int))) * 1))))] [.prop (o_x0 = some ad8), .prop (0 ≤ (w64 (y3 + (1 : Int))) ∧ (w64 (y3 + (1 : Int))) < (d1.length : Nat))] hf26 (by kernel_rfl) (fun _ => (.prop ho8 (.prop hb12 .nil))) fun a22 hf27 => ?_
    obtain ⟨d2, hd5, hr21⟩ := bind_some hr20
    have hl3 := setI_len hd5
    refine p_setOwnI (i := 17) (j := 0) (ad := ad8) (ix := (w64 (y3 + (1 : Int)))) (x' := p2) hS7 hf27 rfl ho8 (by kernel_rfl) hd5 fun ww5 a23 hS8 hf28 => ?_
    have hf29 := Fr.conv (fl' := [(0, .slice o_x0 d2.length c_x0), (10, vI y1), (13, vI y3), (74, vI p2), (76, .pointer (some (ad8.add (Int.toNat (w64 (y3 + (1 : Int))) * 1))))]) hf28 (by rw [hl3] <;> kernel_rfl)
    refine ⟨fun e => absurd e (by decide), ?_⟩
    refine c_done ?_
    refine n_block ?_
    refine n_then ?_
    refine c_q [] [0, 10, 13] hf29 .nil fun a24 hf30 => ?_
    refine n_then ?_
    exact ⟨n1, Nat.lt_succ_self n1, z2, d2, (w64 (y3 + (1 : Int))), k11, hf30.to, hS8, (hl3.symm.trans (hl2.symm.trans hl1)), hr21⟩
   ·have hr22 := cond_f hb8 hr14
    refine c_exit 2 ?_
    refine x_then ?_
    refine x_then ?_
    refine x_block ?_
    refine n_then ?_
    refine c_ret ?_
    refine r_then ?_
    refine c_rt [] (.tuple #[]) hf23 .nil ?_
    obtain rfl := some_eq hr22
    exact ⟨_, rfl, z2, (zt k10 k11), rfl, (St.pick 4 [0, 1, 2, 3] hS5 (by kernel_rfl)), (hl1).symm⟩
 ·have hr23 := cond_f hb1 hr
  refine c_skip ?_
  refine n_then ?_
  refine c_seq ?_
  refine c_sq [] [0, 1, 2, 3, 4, 80] hf1 .nil fun a25 hf32 => ?_
  refine c_if ((w64 (x3 - x2)) == (1 : Int)) hf32 (fun hb13 => ?_) (fun hb13 => ?_)
  ·have hr24 := cond_t hb13 hr23
   refine c_sq [] [0, 2, 4, 14] hf32 .nil fun a26 hf33 => ?_
   refine c_sq [] [0, 2, 4, 14, 15] hf33 .nil fun a27 hf34 => ?_
   refine c_seq ?_
   refine c_block 4 ?_
   refine c_loop (fun n a w => ∃ z3 : Zone, ∃ y5 : Int, ∃ y8 : Int, Zone.le h z3 ∧ Fr a 220 [(0, .slice o_x0 x0.length c_x0), (2, vI x2), (4, .func (.func 145) #[] #[pB b_x4 0, pB b_x5 0, pB b_x6 0]), (14, vI y5), (15, vI y8)] ∧ St z3 (ownS Ty.int 3 o_x0 c_x0 x0 :: box b_x4 [vI x4] 3 :: box b_x5 [.slice o_x5 x5.length c_x5] 53 :: box b_x6 [vI x6] 3 :: L) w ∧ (F156_l3 fuel x4 x5 x6 x0 x2 n y5 y8) = some r) fuel ⟨h, x1, x2, zr, hf34.to, hS, hr24⟩ ?_
   rintro n12 a28 ww6 ⟨z3, y5, y8, k12, hf36, hS9, hr25⟩
   cases n12 with
   | zero => cases hr25
   | succ n4 =>
   refine c_seq ?_
   refine c_sq [] [0, 2, 4, 14, 15, 85] hf36 .nil fun a29 hf37 => ?_
   refine c_if (decide (y5 < y8)) hf37 (fun hb14 => ?_) (fun hb14 => ?_)
   ·have hr26 := cond_t hb14 hr25
    refine c_skip ?_
    refine n_then ?_
    refine c_block 5 ?_
    refine c_sq [] [0, 2, 4, 14, 15, 16] hf37 .nil fun a30 hf38 => ?_
    refine c_seq ?_
    have hS10 := hS9.drew
    refine c_regD [(0, true), (1, true), (2, true), (3, true), (4, true), (5, true), (6, true), (7, true), (8, true), (9, false), (10, true), (11, true)] [9] (fun x => x = ww6.drew) rfl ?_
    obtain ⟨p13, hp7738, hr27⟩ := bind_some hr26
    obtain ⟨ad9, ho9, hb15, cc9, hc9, hk9⟩ := hS10.ownGet (j := 0) rfl hp7738
    subst hc9
    obtain ⟨p14, hp7747, hr28⟩ := bind_some hr27
    obtain ⟨ad10, ho10, hb16, cc10, hc10, hk10⟩ := hS10.ownGet (j := 0) rfl hp7747
    subst hc10
    refine c_E 9 [.pointer (some ad9), vI p13, .pointer (some ad10), vI p14] [0, 2, 4, 14, 15, 16, 92, 96, 100] hf38 (.prop ho9 (.prop hb15 (.cell (hk9 0 _ rfl) (.prop ho10 (.prop hb16 (.cell (hk10 0 _ rfl) .nil)))))) .nil fun a31 hf39 => ?_
    refine p_inl (i := 9) (d := some 101) (f := 145) (args := #[vI p13, vI p14, pB b_x4 0, pB b_x5 0, pB b_x6 0]) (N' := 25) hf39 (by kernel_rfl) Try.func145 (by kernel_rfl) fun a32 hf40 => ?_
    refine c_sq [] [0, 1, 2, 3, 4] hf40 .nil fun a33 hf41 => ?_
    refine c_seq ?_
    have hS11 := hS10.drew
    refine c_regD [(0, true), (1, true), (2, true), (3, true), (4, true), (5, true), (6, true), (7, true), (8, true), (9, true), (10, true), (11, true), (12, true), (13, true), (14, true), (15, true), (16, false), (17, true)] [16] (fun x => x = (ww6.drew).drew) rfl ?_
    obtain ⟨p15, hp7811, hr29⟩ := bind_some hr28
    obtain ⟨ad11, ho11, hb17, cc11, hc11, hk11⟩ := SliceR.getI (SliceR.mono k12 hx_x5) hp7811
    subst hc11
    obtain ⟨u3, hd6, hr30⟩ := bind_some hr29
    obtain ⟨p16, hp7823, hr31⟩ := bind_some hr30
    obtain ⟨ad12, ho12, hb18, cc12, hc12, hk12⟩ := SliceR.getI (SliceR.mono k12 hx_x5) hp7823
    subst hc12
    obtain ⟨u4, hd7, hr32⟩ := bind_some hr31
    refine c_E 16 [vI x4, .slice o_x5 x5.length c_x5, .pointer (some ad11), vI p15, vI x6, vI x4, .slice o_x5 x5.length c_x5, .pointer (some ad12), vI p16, vI x6] [15, 23] hf41 (.cell (hS11.box (i := 1) rfl (j := 0) rfl) (.cell (hS11.box (i := 2) rfl (j := 0) rfl) (.prop ho11 (.prop hb17 (.cell (hS11.cell (hk11 0 _ rfl)) (.cell (hS11.box (i := 3) rfl (j := 0) rfl) (.prop (nz_spec hd6) (.cell (hS11.box (i := 1) rfl (j := 0) rfl) (.cell (hS11.box (i := 2) rfl (j := 0) rfl) (.prop ho12 (.prop hb18 (.cell (hS11.cell (hk12 0 _ rfl)) (.cell (hS11.box (i := 3) rfl (j := 0) rfl) (.prop (nz_spec hd7) .nil)))))))))))))) .nil fun a34 hf42 => ?_
    obtain ⟨r2, hd8, hr33⟩ := bind_some hr32
    refine c_call hf42 (f123_ok fuel (Int.tmod (w64 (x4 * p15)) x6) (Int.tmod (w64 (x4 * p16)) x6) r2 hd8 z3 _ _ hS11 ) ?_
    rintro v2 ww7 a35 ⟨rfl, hS12⟩ hf43
    refine ⟨fun e => absurd e (by decide), ?_⟩
    refine p_qP 1 [] [(7, vI r2)] [] hf43 (by kernel_rfl) (fun _ => .nil) fun a36 hf44 => ?_
    refine c_dt ?_
    refine c_ret ?_
    refine c_rt [] (vI r2) hf44 .nil ?_
    refine ⟨_, rfl, fun a37 hf45 => ?_⟩
    refine ⟨fun e => absurd e (by decide), ?_⟩
    refine p_qP 2 [] [(0, .slice o_x0 x0.length c_x0), (2, vI x2), (4, .func (.func 145) #[] #[pB b_x4 0, pB b_x5 0, pB b_x6 0]), (14, vI y5), (15, vI y8), (16, vI (w64 (Int.fdiv (IntKind.wrap .u64 (w64 (y5 + y8))) 2))), (103, .bool (!(decide (r2 < (0 : Int)))))] [] hf45 (by kernel_rfl) (fun _ => .nil) fun a38 hf46 => ?_
    refine c_dt ?_
    refine c_if (!(decide (r2 < (0 : Int)))) hf46 (fun hb19 => ?_) (fun hb19 => ?_)
    ·have hr34 := cond_t hb19 hr33
     refine c_q [] [0, 2, 4, 14, 15] hf46 .nil fun a39 hf47 => ?_
     refine n_block ?_
     refine n_then ?_
     exact ⟨n4, Nat.lt_succ_self n4, z3, (w64 ((w64 (Int.fdiv (IntKind.wrap .u64 (w64 (y5 + y8))) 2)) + (1 : Int))), y8, k12, hf47.to, hS12, hr34⟩
    ·have hr35 := cond_f hb19 hr33
     refine c_q [] [0, 2, 4, 14, 15] hf46 .nil fun a40 hf49 => ?_
     refine n_block ?_
     refine n_then ?_
     exact ⟨n4, Nat.lt_succ_self n4, z3, y5, (w64 (Int.fdiv (IntKind.wrap .u64 (w64 (y5 + y8))) 2)), k12, hf49.to, hS12, hr35⟩
   ·have hr36 := cond_f hb14 hr25
    refine c_exit 4 ?_
    refine x_then ?_
    refine x_then ?_
    refine x_block ?_
    refine n_then ?_
    refine c_seq ?_
    refine c_sq [] [0, 14, 17] hf37 .nil fun a41 hf51 => ?_
    refine c_block 6 ?_
    refine c_loop (fun n a w => ∃ z4 : Zone, ∃ y6 : List Int, ∃ y7 : Int, Zone.le z3 z4 ∧ Fr a 220 [(0, .slice o_x0 y6.length c_x0), (14, vI y5), (17, vI y7)] ∧ St z4 (ownS Ty.int 3 o_x0 c_x0 y6 :: box b_x4 [vI x4] 3 :: box b_x5 [.slice o_x5 x5.length c_x5] 53 :: box b_x6 [vI x6] 3 :: L) w ∧ y6.length = x0.length ∧ (F156_l4 y5 n y6 y7) = some r) fuel ⟨z3, x0, x2, zr, hf51.to, hS9, rfl, hr36⟩ ?_
    rintro n13 a42 ww8 ⟨z4, y6, y7, k13, hf53, hS13, hl4, hr37⟩
    cases n13 with
    | zero => cases hr37
    | succ n3 =>
    refine c_seq ?_
    refine c_sq [] [0, 14, 17, 110] hf53 .nil fun a43 hf54 => ?_
    refine c_if (decide (y7 > y5)) hf54 (fun hb20 => ?_) (fun hb20 => ?_)
    ·have hr38 := cond_t hb20 hr37
     refine c_skip ?_
     refine n_then ?_
     refine c_seq ?_
     refine c_block 7 ?_
     have hS14 := hS13.drew
     refine c_regD [(0, true), (1, true), (2, true), (3, true), (4, true), (5, true), (6, true), (7, true), (8, true), (9, true), (10, true), (11, true), (12, true), (13, true), (14, true), (15, false), (16, true), (17, false)] [15, 17] (fun x => x = ww8.drew) rfl ?_
     obtain ⟨p9, hp8890, hr39⟩ := bind_some hr38
     obtain ⟨ad13, ho13, hb21, cc13, hc13, hk13⟩ := hS14.ownGet (j := 0) rfl hp8890
     subst hc13
     obtain ⟨p10, hp8899, hr40⟩ := bind_some hr39
     obtain ⟨ad14, ho14, hb22, cc14, hc14, hk14⟩ := hS14.ownGet (j := 0) rfl hp8899
     subst hc14
     obtain ⟨p11, hp8908, hr41⟩ := bind_some hr40
     obtain ⟨ad15, ho15, hb23, cc15, hc15, hk15⟩ := hS14.ownGet (j := 0) rfl hp8908
     subst hc15
     refine c_E 15 [.pointer (some ad13), vI p9, .pointer (some ad14), vI p10, .pointer (some ad15)] [0, 14, 17, 115, 117, 122, 126, 127] hf54 (.prop ho13 (.prop hb21 (.cell (hk13 0 _ rfl) (.prop ho14 (.prop hb22 (.cell (hk14 0 _ rfl) (.prop ho15 (.prop hb23 .nil)))))))) .nil fun a44 hf55 => ?_
     obtain ⟨d3, hd9, hr42⟩ := bind_some hr41
     have hl5 := setI_len hd9
     refine p_setOwnI (i := 15) (j := 0) (ad := ad15) (ix := y7) (x' := p9) hS14 hf55 rfl ho15 (by kernel_rfl) hd9 fun ww9 a45 hS15 hf56 => ?_
     have hf57 := Fr.conv (fl' := [(0, .slice o_x0 d3.length c_x0), (14, vI y5), (17, vI y7), (115, .slice o_x0 d3.length c_x0), (117, vI (w64 (y7 - (1 : Int)))), (122, vI p9), (126, vI p10), (127, .pointer (some (ad15.add (Int.toNat y7 * 1))))]) hf56 (by rw [hl5] <;> kernel_rfl)
     refine ⟨fun e => absurd e (by decide), ?_⟩
     obtain ⟨p12, hp8928, hr43⟩ := bind_some hr42
     obtain ⟨ad16, ho16, hb24, cc16, hc16, hk16⟩ := hS15.ownGet (j := 0) rfl hp8928
     subst hc16
     refine p_qP 1 [.pointer (some ad16)] [(0, .slice o_x0 d3.length c_x0), (14, vI y5), (17, vI y7), (126, vI p10), (128, .pointer (some (ad16.add (Int.toNat (w64 (y7 - (1 : Int))) * 1))))] [.prop (o_x0 = some ad16), .prop (0 ≤ (w64 (y7 - (1 : Int))) ∧ (w64 (y7 - (1 : Int))) < (d3.length : Nat))] hf57 (by kernel_rfl) (fun _ => (.prop ho16 (.prop hb24 .nil))) fun a46 hf58 => ?_
     obtain ⟨d4, hd10, hr44⟩ := bind_some hr43
     have hl6 := setI_len hd10
     refine p_setOwnI (i := 17) (j := 0) (ad := ad16) (ix := (w64 (y7 - (1 : Int)))) (x' := p10) hS15 hf58 rfl ho16 (by kernel_rfl) hd10 fun ww10 a47 hS16 hf59 => ?_
     have hf60 := Fr.conv (fl' := [(0, .slice o_x0 d4.length c_x0), (14, vI y5), (17, vI y7), (126, vI p10), (128, .pointer (some (ad16.add (Int.toNat (w64 (y7 - (1 : Int))) * 1))))]) hf59 (by rw [hl6] <;> kernel_rfl)
     refine ⟨fun e => absurd e (by decide), ?_⟩
     refine c_done ?_
     refine n_block ?_
     refine n_then ?_
     refine c_q [] [0, 14, 17] hf60 .nil fun a48 hf61 => ?_
     refine n_then ?_
     exact ⟨n3, Nat.lt_succ_self n3, z4, d4, (w64 (y7 - (1 : Int))), k13, hf61.to, hS16, (hl6.symm.trans (hl5.symm.trans hl4)), hr44⟩
    ·have hr45 := cond_f hb20 hr37
     refine c_exit 6 ?_
     refine x_then ?_
     refine x_then ?_
     refine x_block ?_
     refine n_then ?_
     refine c_ret ?_
     refine r_then ?_
     refine c_rt [] (.tuple #[]) hf54 .nil ?_
     obtain rfl := some_eq hr45
     exact ⟨_, rfl, z4, (zt k12 k13), rfl, (St.pick 4 [0, 1, 2, 3] hS13 (by kernel_rfl)), (hl4).symm⟩
  ·have hr46 := cond_f hb13 hr23
   refine c_skip ?_
   refine n_then ?_
   refine c_sq [] [0, 1, 2, 3, 4, 18] hf32 .nil fun a49 hf63 => ?_
   refine c_sq [] [0, 1, 2, 3, 4, 18, 19] hf63 .nil fun a50 hf64 => ?_
   refine c_sq [] [0, 1, 2, 3, 4, 18, 19] hf64 .nil fun a51 hf65 => ?_
   refine c_mid (fun a w => ∃ z5 : Zone, ∃ y25 : Int, ∃ y26 : Int, Zone.le h z5 ∧ Fr a 220 [(0, .slice o_x0 x0.length c_x0), (1, vI x1), (2, vI x2), (3, vI x3), (4, .func (.func 145) #[] #[pB b_x4 0, pB b_x5 0, pB b_x6 0]), (18, vI (w64 (Int.fdiv (IntKind.wrap .u64 (w64 (x1 + x3))) 2))), (19, vI (w64 ((w64 (Int.fdiv (IntKind.wrap .u64 (w64 (x1 + x3))) 2)) + x2))), (20, vI y25), (21, vI y26)] ∧ St z5 (ownS Ty.int 3 o_x0 c_x0 x0 :: box b_x4 [vI x4] 3 :: box b_x5 [.slice o_x5 x5.length c_x5] 53 :: box b_x6 [vI x6] 3 :: L) w ∧ (F156_j1 fuel rec x4 x5 x6 x0 x1 x2 x3 y25 y26) = some r) ?_ ?_
   ·skip
    refine c_sq [] [0, 1, 2, 3, 4, 18, 19, 140] hf65 .nil fun a52 hf66 => ?_
    refine c_if (decide (x2 > (w64 (Int.fdiv (IntKind.wrap .u64 (w64 (x1 + x3))) 2)))) hf66 (fun hb25 => ?_) (fun hb25 => ?_)
    ·have hr47 := cond_t hb25 hr46
     refine c_sq [] [0, 1, 2, 3, 4, 18, 19, 20] hf66 .nil fun a53 hf67 => ?_
     refine c_q [] [0, 1, 2, 3, 4, 18, 19, 20, 21] hf67 .nil fun a54 hf68 => ?_
     refine n_then ?_
     exact ⟨h, (w64 ((w64 ((w64 (Int.fdiv (IntKind.wrap .u64 (w64 (x1 + x3))) 2)) + x2)) - x3)), (w64 (Int.fdiv (IntKind.wrap .u64 (w64 (x1 + x3))) 2)), zr, hf68.to, hS, hr47⟩
    ·have hr48 := cond_f hb25 hr46
     refine c_sq [] [0, 1, 2, 3, 4, 18, 19, 20] hf66 .nil fun a55 hf70 => ?_
     refine c_q [] [0, 1, 2, 3, 4, 18, 19, 20, 21] hf70 .nil fun a56 hf71 => ?_
     refine n_then ?_
     exact ⟨h, x1, x2, zr, hf71.to, hS, hr48⟩
   ·rintro a57 ww11 ⟨z5, y25, y26, k14, hf73, hS17, hr49⟩
    refine c_sq [] [0, 1, 2, 3, 4, 18, 19, 20, 21, 22] hf73 .nil fun a58 hf74 => ?_
    refine c_seq ?_
    refine c_block 8 ?_
    refine c_loop (fun n a w => ∃ z6 : Zone, ∃ y9 : Int, ∃ y24 : Int, Zone.le z5 z6 ∧ Fr a 220 [(0, .slice o_x0 x0.length c_x0), (1, vI x1), (2, vI x2), (3, vI x3), (4, .func (.func 145) #[] #[pB b_x4 0, pB b_x5 0, pB b_x6 0]), (18, vI (w64 (Int.fdiv (IntKind.wrap .u64 (w64 (x1 + x3))) 2))), (19, vI (w64 ((w64 (Int.fdiv (IntKind.wrap .u64 (w64 (x1 + x3))) 2)) + x2))), (20, vI y9), (21, vI y24), (22, vI (w64 ((w64 ((w64 (Int.fdiv (IntKind.wrap .u64 (w64 (x1 + x3))) 2)) + x2)) - (1 : Int))))] ∧ St z6 (ownS Ty.int 3 o_x0 c_x0 x0 :: box b_x4 [vI x4] 3 :: box b_x5 [.slice o_x5 x5.length c_x5] 53 :: box b_x6 [vI x6] 3 :: L) w ∧ (F156_l5 fuel rec x4 x5 x6 x0 x1 x2 x3 n y9 y24) = some r) fuel ⟨z5, y25, y26, zr, hf74.to, hS17, hr49⟩ ?_
    rintro n14 a59 ww12 ⟨z6, y9, y24, k15, hf76, hS18, hr50⟩
    cases n14 with
    | zero => cases hr50
    | succ n9 =>
    refine c_seq ?_
    refine c_sq [] [0, 1, 2, 3, 4, 18, 19, 20, 21, 22, 151] hf76 .nil fun a60 hf77 => ?_
    refine c_if (decide (y9 < y24)) hf77 (fun hb26 => ?_) (fun hb26 => ?_)
    ·have hr51 := cond_t hb26 hr50
     refine c_skip ?_
     refine n_then ?_
     refine c_block 9 ?_
     refine c_sq [] [0, 1, 2, 3, 4, 18, 19, 20, 21, 22, 23] hf77 .nil fun a61 hf78 => ?_
     refine c_seq ?_
     have hS19 := hS18.drew
     refine c_regD [(0, true), (1, true), (2, true), (3, true), (4, true), (5, true), (6, true), (7, true), (8, true), (9, true), (10, true), (11, false), (12, true), (13, true)] [11] (fun x => x = ww12.drew) rfl ?_
     obtain ⟨p29, hp10037, hr52⟩ := bind_some hr51
     obtain ⟨ad17, ho17, hb27, cc17, hc17, hk17⟩ := hS19.ownGet (j := 0) rfl hp10037
     subst hc17
     obtain ⟨p30, hp10046, hr53⟩ := bind_some hr52
     obtain ⟨ad18, ho18, hb28, cc18, hc18, hk18⟩ := hS19.ownGet (j := 0) rfl hp10046
     subst hc18
     refine c_E 11 [.pointer (some ad17), vI p29, .pointer (some ad18), vI p30] [0, 1, 2, 3, 4, 18, 19, 20, 21, 22, 23, 158, 164, 168] hf78 (.prop ho17 (.prop hb27 (.cell (hk17 0 _ rfl) (.prop ho18 (.prop hb28 (.cell (hk18 0 _ rfl) .nil)))))) .nil fun a62 hf79 => ?_
     refine p_inl (i := 11) (d := some 169) (f := 145) (args := #[vI p29, vI p30, pB b_x4 0, pB b_x5 0, pB b_x6 0]) (N' := 25) hf79 (by kernel_rfl) Try.func145 (by kernel_rfl) fun a63 hf80 => ?_
     refine c_sq [] [0, 1, 2, 3, 4] hf80 .nil fun a64 hf81 => ?_
     refine c_seq ?_
     have hS20 := hS19.drew
     refine c_regD [(0, true), (1, true), (2, true), (3, true), (4, true), (5, true), (6, true), (7, true), (8, true), (9, true), (10, true), (11, true), (12, true), (13, true), (14, true), (15, true), (16, false), (17, true)] [16] (fun x => x = (ww12.drew).drew) rfl ?_
     obtain ⟨p31, hp10110, hr54⟩ := bind_some hr53
     obtain ⟨ad19, ho19, hb29, cc19, hc19, hk19⟩ := SliceR.getI (SliceR.mono (zt k14 k15) hx_x5) hp10110
     subst hc19
     obtain ⟨u5, hd11, hr55⟩ := bind_some hr54
     obtain ⟨p32, hp10122, hr56⟩ := bind_some hr55
     obtain ⟨ad20, ho20, hb30, cc20, hc20, hk20⟩ := SliceR.getI (SliceR.mono (zt k14 k15) hx_x5) hp10122
     subst hc20
     obtain ⟨u6, hd12, hr57⟩ := bind_some hr56
     refine c_E 16 [vI x4, .slice o_x5 x5.length c_x5, .pointer (some ad19), vI p31, vI x6, vI x4, .slice o_x5 x5.length c_x5, .pointer (some ad20), vI p32, vI x6] [15, 23] hf81 (.cell (hS20.box (i := 1) rfl (j := 0) rfl) (.cell (hS20.box (i := 2) rfl (j := 0) rfl) (.prop ho19 (.prop hb29 (.cell (hS20.cell (hk19 0 _ rfl)) (.cell (hS20.box (i := 3) rfl (j := 0) rfl) (.prop (nz_spec hd11) (.cell (hS20.box (i := 1) rfl (j := 0) rfl) (.cell (hS20.box (i := 2) rfl (j := 0) rfl) (.prop ho20 (.prop hb30 (.cell (hS20.cell (hk20 0 _ rfl)) (.cell (hS20.box (i := 3) rfl (j := 0) rfl) (.prop (nz_spec hd12) .nil)))))))))))))) .nil fun a65 hf82 => ?_
     obtain ⟨r5, hd13, hr58⟩ := bind_some hr57
     refine c_call hf82 (f123_ok fuel (Int.tmod (w64 (x4 * p31)) x6) (Int.tmod (w64 (x4 * p32)) x6) r5 hd13 z6 _ _ hS20 ) ?_
     rintro v3 ww13 a66 ⟨rfl, hS21⟩ hf83
     refine ⟨fun e => absurd e (by decide), ?_⟩
     refine p_qP 1 [] [(7, vI r5)] [] hf83 (by kernel_rfl) (fun _ => .nil) fun a67 hf84 => ?_
     refine c_dt ?_
     refine c_ret ?_
     refine c_rt [] (vI r5) hf84 .nil ?_
     refine ⟨_, rfl, fun a68 hf85 => ?_⟩
     refine ⟨fun e => absurd e (by decide), ?_⟩
     refine p_qP 2 [] [(0, .slice o_x0 x0.length c_x0), (1, vI x1), (2, vI x2), (3, vI x3), (4, .func (.func 145) #[] #[pB b_x4 0, pB b_x5 0, pB b_x6 0]), (18, vI (w64 (Int.fdiv (IntKind.wrap .u64 (w64 (x1 + x3))) 2))), (19, vI (w64 ((w64 (Int.fdiv (IntKind.wrap .u64 (w64 (x1 + x3))) 2)) + x2))), (20, vI y9), (21, vI y24), (22, vI (w64 ((w64 ((w64 (Int.fdiv (IntKind.wrap .u64 (w64 (x1 + x3))) 2)) + x2)) - (1 : Int)))), (23, vI (w64 (Int.fdiv (IntKind.wrap .u64 (w64 (y9 + y24))) 2))), (171, .bool (!(decide (r5 < (0 : Int)))))] [] hf85 (by kernel_rfl) (fun _ => .nil) fun a69 hf86 => ?_
     refine c_dt ?_
     refine c_if (!(decide (r5 < (0 : Int)))) hf86 (fun hb31 => ?_) (fun hb31 => ?_)
     ·have hr59 := cond_t hb31 hr58
      refine c_q [] [0, 1, 2, 3, 4, 18, 19, 20, 21, 22] hf86 .nil fun a70 hf87 => ?_
      refine n_block ?_
      refine n_then ?_
      exact ⟨n9, Nat.lt_succ_self n9, z6, (w64 ((w64 (Int.fdiv (IntKind.wrap .u64 (w64 (y9 + y24))) 2)) + (1 : Int))), y24, k15, hf87.to, hS21, hr59⟩
     ·have hr60 := cond_f hb31 hr58
      refine c_q [] [0, 1, 2, 3, 4, 18, 19, 20, 21, 22] hf86 .nil fun a71 hf89 => ?_
      refine n_block ?_
      refine n_then ?_
      exact ⟨n9, Nat.lt_succ_self n9, z6, y9, (w64 (Int.fdiv (IntKind.wrap .u64 (w64 (y9 + y24))) 2)), k15, hf89.to, hS21, hr60⟩
    ·have hr61 := cond_f hb26 hr50
     refine c_exit 8 ?_
     refine x_then ?_
     refine x_then ?_
     refine x_block ?_
     refine n_then ?_
     refine c_sq [] [0, 1, 2, 3, 4, 18, 20, 24] hf77 .nil fun a72 hf91 => ?_
     refine c_mid (fun a w => ∃ z7 : Zone, ∃ y12 : List Int, Zone.le z6 z7 ∧ Fr a 220 [(0, .slice o_x0 y12.length c_x0), (1, vI x1), (3, vI x3), (4, .func (.func 145) #[] #[pB b_x4 0, pB b_x5 0, pB b_x6 0]), (18, vI (w64 (Int.fdiv (IntKind.wrap .u64 (w64 (x1 + x3))) 2))), (20, vI y9), (24, vI (w64 ((w64 ((w64 (Int.fdiv (IntKind.wrap .u64 (w64 (x1 + x3))) 2)) + x2)) - y9)))] ∧ St z7 (ownS Ty.int 3 o_x0 c_x0 y12 :: box b_x4 [vI x4] 3 :: box b_x5 [.slice o_x5 x5.length c_x5] 53 :: box b_x6 [vI x6] 3 :: L) w ∧ y12.length = x0.length ∧ (F156_j2 rec x1 x2 x3 y9 y12) = some r) ?_ ?_
     ·skip
      refine c_mid (fun a w => ∃ z8 : Zone, ∃ y23 : Bool, Zone.le z6 z8 ∧ Fr a 220 [(0, .slice o_x0 x0.length c_x0), (1, vI x1), (2, vI x2), (3, vI x3), (4, .func (.func 145) #[] #[pB b_x4 0, pB b_x5 0, pB b_x6 0]), (18, vI (w64 (Int.fdiv (IntKind.wrap .u64 (w64 (x1 + x3))) 2))), (20, vI y9), (24, vI (w64 ((w64 ((w64 (Int.fdiv (IntKind.wrap .u64 (w64 (x1 + x3))) 2)) + x2)) - y9))), (185, .bool y23)] ∧ St z8 (ownS Ty.int 3 o_x0 c_x0 x0 :: box b_x4 [vI x4] 3 :: box b_x5 [.slice o_x5 x5.length c_x5] 53 :: box b_x6 [vI x6] 3 :: L) w ∧ (F156_j3 fuel rec x0 x1 x2 x3 y9 y23) = some r) ?_ ?_
      ·skip
       refine c_reg ?_
       refine c_n 4 [] [0, 1, 2, 3, 4, 18, 20, 24, 181] hf91 .nil fun a73 hf92 => ?_
       rcases bft (decide (y9 < x2)) with hb32 | hb32
       ·have hr62 := cond_t hb32 hr61
        have hf93 := hf92.lit 181 hb32
        refine c_t [] [0, 1, 2, 3, 4, 18, 20, 24, 185] hf93 .nil fun a74 hf94 => ?_
        exact ⟨z6, (decide (x2 < (w64 ((w64 ((w64 (Int.fdiv (IntKind.wrap .u64 (w64 (x1 + x3))) 2)) + x2)) - y9)))), zr, hf94.to, hS18, hr62⟩
       ·have hr63 := cond_f hb32 hr61
        have hf96 := hf92.lit 181 hb32
        refine c_t [] [0, 1, 2, 3, 4, 18, 20, 24, 185] hf96 .nil fun a75 hf97 => ?_
        exact ⟨z6, false, zr, hf97.to, hS18, hr63⟩
      ·rintro a76 ww14 ⟨z8, y23, k16, hf99, hS22, hr64⟩
       refine c_if y23 hf99 (fun hb33 => ?_) (fun hb33 => ?_)
       ·have hr65 := cond_t hb33 hr64
        refine c_reg ?_
        refine c_n 5 [] [0, 1, 3, 4, 18, 20, 24, 186, 187, 188, 189, 190] hf99 .nil fun a77 hf100 => ?_
        refine p_inl (i := 5) (d := some 191) (f := 157) (args := #[.slice o_x0 x0.length c_x0, vI y9, vI x2, vI (w64 ((w64 ((w64 (Int.fdiv (IntKind.wrap .u64 (w64 (x1 + x3))) 2)) + x2)) - y9)), .func (.func 145) #[] #[pB b_x4 0, pB b_x5 0, pB b_x6 0]]) (N' := 58) hf100 (by kernel_rfl) Try.func157 (by kernel_rfl) fun a78 hf101 => ?_
        refine c_sq [] [0, 2, 3, 4, 10] hf101 .nil fun a79 hf102 => ?_
        refine c_sq [] [0, 2, 4, 10, 11] hf102 .nil fun a80 hf103 => ?_
        refine c_seq ?_
        refine c_block 0 ?_
        refine c_loop (fun n a w => ∃ z9 : Zone, ∃ y22 : List Int, ∃ y14 : Int, ∃ y15 : Int, Zone.le z8 z9 ∧ Fr a 58 [(0, .slice o_x0 y22.length c_x0), (2, vI x2), (4, .func (.func 145) #[] #[pB b_x4 0, pB b_x5 0, pB b_x6 0]), (10, vI y14), (11, vI y15)] ∧ St z9 (ownS Ty.int 3 o_x0 c_x0 y22 :: box b_x4 [vI x4] 3 :: box b_x5 [.slice o_x5 x5.length c_x5] 53 :: box b_x6 [vI x6] 3 :: L) w ∧ y22.length = x0.length ∧ (F156_l6 fuel rec x1 x2 x3 y9 n y22 y14 y15) = some r) fuel ⟨z8, x0, (w64 (x2 - y9)), (w64 ((w64 ((w64 ((w64 (Int.fdiv (IntKind.wrap .u64 (w64 (x1 + x3))) 2)) + x2)) - y9)) - x2)), zr, hf103.to, hS22, rfl, hr65⟩ ?_
        rintro n15 a81 ww15 ⟨z9, y22, y14, y15, k17, hf105, hS23, hl7, hr66⟩
        cases n15 with
        | zero => cases hr66
        | succ n8 =>
        refine c_seq ?_
        refine c_sq [] [0, 2, 4, 10, 11, 20] hf105 .nil fun a82 hf106 => ?_
        refine c_if (y14 != y15) hf106 (fun hb34 => ?_) (fun hb34 => ?_)
        ·have hr67 := cond_t hb34 hr66
         refine c_skip ?_
         refine n_then ?_
         refine c_block 1 ?_
         refine c_sq [] [0, 2, 4, 10, 11, 23] hf106 .nil fun a83 hf107 => ?_
         refine c_if (decide (y14 > y15)) hf107 (fun hb35 => ?_) (fun hb35 => ?_)
         ·have hr68 := cond_t hb35 hr67
          refine c_sr ?_
          refine c_n 7 [] [0, 2, 4, 10, 11, 24, 27, 28, 29, 30] hf107 .nil fun a84 hf108 => ?_
          refine p_inl (i := 7) (d := some 31) (f := 158) (args := #[.slice o_x0 y22.length c_x0, vI (w64 (x2 - y14)), vI x2, vI y15, .func (.func 145) #[] #[pB b_x4 0, pB b_x5 0, pB b_x6 0]]) (N' := 38) hf108 (by kernel_rfl) Try.func158 (by kernel_rfl) fun a85 hf109 => ?_
          refine c_sq [] [0, 1, 2, 3, 10] hf109 .nil fun a86 hf110 => ?_
          refine c_block 0 ?_
          refine c_loop (fun n a w => ∃ z10 : Zone, ∃ y16 : List Int, ∃ y17 : Int, Zone.le z9 z10 ∧ Fr a 38 [(0, .slice o_x0 y16.length c_x0), (1, vI (w64 (x2 - y14))), (2, vI x2), (3, vI y15), (10, vI y17)] ∧ St z10 (ownS Ty.int 3 o_x0 c_x0 y16 :: box b_x4 [vI x4] 3 :: box b_x5 [.slice o_x5 x5.length c_x5] 53 :: box b_x6 [vI x6] 3 :: L) w ∧ y16.length = x0.length ∧ (F156_l7 (F156_l6 fuel rec x1 x2 x3 y9 n8) x2 y14 y15 n y16 y17) = some r) fuel ⟨z9, y22, 0, zr, hf110.to, hS23, hl7, hr68⟩ ?_
          rintro n16 a87 ww16 ⟨z10, y16, y17, k18, hf112, hS24, hl8, hr69⟩
          cases n16 with
          | zero => cases hr69
          | succ n5 =>
          refine c_seq ?_
          refine c_sq [] [0, 1, 2, 3, 10, 13] hf112 .nil fun a88 hf113 => ?_
          refine c_if (decide (y17 < y15)) hf113 (fun hb36 => ?_) (fun hb36 => ?_)
          ·have hr70 := cond_t hb36 hr69
           refine c_skip ?_
           refine n_then ?_
           refine c_seq ?_
           refine c_block 1 ?_
           have hS25 := hS24.drew
           refine c_regD [(0, true), (1, true), (2, true), (3, true), (4, true), (5, true), (6, true), (7, true), (8, true), (9, true), (10, true), (11, true), (12, true), (13, true), (14, true), (15, true), (16, true), (17, true), (18, true), (19, true), (20, true), (21, false), (22, true), (23, false)] [21, 23] (fun x => x = ww16.drew) rfl ?_
           obtain ⟨p17, hp159102, hr71⟩ := bind_some hr70
           obtain ⟨ad21, ho21, hb37, cc21, hc21, hk21⟩ := hS25.ownGet (j := 0) rfl hp159102
           subst hc21
           obtain ⟨p18, hp159111, hr72⟩ := bind_some hr71
           obtain ⟨ad22, ho22, hb38, cc22, hc22, hk22⟩ := hS25.ownGet (j := 0) rfl hp159111
           subst hc22
           obtain ⟨p19, hp159120, hr73⟩ := bind_some hr72
           obtain ⟨ad23, ho23, hb39, cc23, hc23, hk23⟩ := hS25.ownGet (j := 0) rfl hp159120
           subst hc23
           refine c_E 21 [.pointer (some ad21), vI p17, .pointer (some ad22), vI p18, .pointer (some ad23)] [0, 1, 2, 3, 10, 20, 23, 29, 35, 36] hf113 (.prop ho21 (.prop hb37 (.cell (hk21 0 _ rfl) (.prop ho22 (.prop hb38 (.cell (hk22 0 _ rfl) (.prop ho23 (.prop hb39 .nil)))))))) .nil fun a89 hf114 => ?_
           obtain ⟨d5, hd14, hr74⟩ := bind_some hr73
           have hl9 := setI_len hd14
           refine p_setOwnI (i := 21) (j := 0) (ad := ad23) (ix := (w64 ((w64 (x2 - y14)) + y17))) (x' := p17) hS25 hf114 rfl ho23 (by kernel_rfl) hd14 fun ww17 a90 hS26 hf115 => ?_
           have hf116 := Fr.conv (fl' := [(0, .slice o_x0 d5.length c_x0), (1, vI (w64 (x2 - y14))), (2, vI x2), (3, vI y15), (10, vI y17), (20, .slice o_x0 d5.length c_x0), (23, vI (w64 (x2 + y17))), (29, vI p17), (35, vI p18), (36, .pointer (some (ad23.add (Int.toNat (w64 ((w64 (x2 - y14)) + y17)) * 1))))]) hf115 (by rw [hl9] <;> kernel_rfl)
           refine ⟨fun e => absurd e (by decide), ?_⟩
           obtain ⟨p20, hp159140, hr75⟩ := bind_some hr74
           obtain ⟨ad24, ho24, hb40, cc24, hc24, hk24⟩ := hS26.ownGet (j := 0) rfl hp159140
           subst hc24
           refine p_qP 1 [.pointer (some ad24)] [(0, .slice o_x0 d5.length c_x0), (1, vI (w64 (x2 - y14))), (2, vI x2), (3, vI y15), (10, vI y17), (35, vI p18), (37, .pointer (some (ad24.add (Int.toNat (w64 (x2 + y17)) * 1))))] [.prop (o_x0 = some ad24), .prop (0 ≤ (w64 (x2 + y17)) ∧ (w64 (x2 + y17)) < (d5.length : Nat))] hf116 (by kernel_rfl) (fun _ => (.prop ho24 (.prop hb40 .nil))) fun a91 hf117 => ?_
           obtain ⟨d6, hd15, hr76⟩ := bind_some hr75
           have hl10 := setI_len hd15
           refine p_setOwnI (i := 23) (j := 0) (ad := ad24) (ix := (w64 (x2 + y17))) (x' := p18) hS26 hf117 rfl ho24 (by kernel_rfl) hd15 fun ww18 a92 hS27 hf118 => ?_
           have hf119 := Fr.conv (fl' := [(0, .slice o_x0 d6.length c_x0), (1, vI (w64 (x2 - y14))), (2, vI x2), (3, vI y15), (10, vI y17), (35, vI p18), (37, .pointer (some (ad24.add (Int.toNat (w64 (x2 + y17)) * 1))))]) hf118 (by rw [hl10] <;> kernel_rfl)
           refine ⟨fun e => absurd e (by decide), ?_⟩
           refine c_done ?_
           refine n_block ?_
           refine n_then ?_
           refine c_q [] [0, 1, 2, 3, 10] hf119 .nil fun a93 hf120 => ?_
           refine n_then ?_
           exact ⟨n5, Nat.lt_succ_self n5, z10, d6, (w64 (y17 + (1 : Int))), k18, hf120.to, hS27, (hl10.symm.trans (hl9.symm.trans hl8)), hr76⟩
          ·have hr77 := cond_f hb36 hr69
           refine c_exit 0 ?_
           refine x_then ?_
           refine x_then ?_
           refine x_block ?_
           refine c_fall [] (.tuple #[]) hf113 .nil ?_
           refine ⟨_, rfl, fun a94 hf122 => ?_⟩
           have hl11 : y16.length = y22.length := Eq.trans (b := x0.length) hl8 (Eq.symm hl7)
           have hf123 := Fr.conv (fl' := [(31, .tuple #[]), (0, .slice o_x0 y16.length c_x0), (2, vI x2), (4, .func (.func 145) #[] #[pB b_x4 0, pB b_x5 0, pB b_x6 0]), (10, vI y14), (11, vI y15), (24, .slice o_x0 y16.length c_x0), (27, vI (w64 (x2 - y14))), (28, vI x2), (29, vI y15), (30, .func (.func 145) #[] #[pB b_x4 0, pB b_x5 0, pB b_x6 0])]) hf122 (by rw [hl11] <;> kernel_rfl)
           refine ⟨fun _ => trivial, ?_⟩
           refine c_dt ?_
           refine c_q [] [0, 2, 4, 10, 11] hf123 .nil fun a95 hf124 => ?_
           refine n_block ?_
           refine n_then ?_
           exact ⟨n8, Nat.lt_succ_self n8, z10, y16, (w64 (y14 - y15)), y15, (zt k17 k18), hf124.to, hS24, hl8, hr77⟩
         ·have hr78 := cond_f hb35 hr67
          refine c_sr ?_
          refine c_n 11 [] [0, 2, 4, 10, 11, 35, 38, 43, 44, 45] hf107 .nil fun a96 hf126 => ?_
          refine p_inl (i := 11) (d := some 46) (f := 158) (args := #[.slice o_x0 y22.length c_x0, vI (w64 (x2 - y14)), vI (w64 ((w64 (x2 + y15)) - y14)), vI y14, .func (.func 145) #[] #[pB b_x4 0, pB b_x5 0, pB b_x6 0]]) (N' := 38) hf126 (by kernel_rfl) Try.func158 (by kernel_rfl) fun a97 hf127 => ?_
          refine c_sq [] [0, 1, 2, 3, 10] hf127 .nil fun a98 hf128 => ?_
          refine c_block 0 ?_
          refine c_loop (fun n a w => ∃ z11 : Zone, ∃ y18 : List Int, ∃ y19 : Int, Zone.le z9 z11 ∧ Fr a 38 [(0, .slice o_x0 y18.length c_x0), (1, vI (w64 (x2 - y14))), (2, vI (w64 ((w64 (x2 + y15)) - y14))), (3, vI y14), (10, vI y19)] ∧ St z11 (ownS Ty.int 3 o_x0 c_x0 y18 :: box b_x4 [vI x4] 3 :: box b_x5 [.slice o_x5 x5.length c_x5] 53 :: box b_x6 [vI x6] 3 :: L) w ∧ y18.length = x0.length ∧ (F156_l8 (F156_l6 fuel rec x1 x2 x3 y9 n8) x2 y14 y15 n y18 y19) = some r) fuel ⟨z9, y22, 0, zr, hf128.to, hS23, hl7, hr78⟩ ?_
          rintro n17 a99 ww19 ⟨z11, y18, y19, k19, hf130, hS28, hl12, hr79⟩
          cases n17 with
          | zero => cases hr79
          | succ n6 =>
          refine c_seq ?_
          refine c_sq [] [0, 1, 2, 3, 10, 13] hf130 .nil fun a100 hf131 => ?_
          refine c_if (decide (y19 < y14)) hf131 (fun hb41 => ?_) (fun hb41 => ?_)
          ·have hr80 := cond_t hb41 hr79
           refine c_skip ?_
           refine n_then ?_
           refine c_seq ?_
           refine c_block 1 ?_
           have hS29 := hS28.drew
           refine c_regD [(0, true), (1, true), (2, true), (3, true), (4, true), (5, true), (6, true), (7, true), (8, true), (9, true), (10, true), (11, true), (12, true), (13, true), (14, true), (15, true), (16, true), (17, true), (18, true), (19, true), (20, true), (21, false), (22, true), (23, false)] [21, 23] (fun x => x = ww19.drew) rfl ?_
           obtain ⟨p21, hp160203, hr81⟩ := bind_some hr80
           obtain ⟨ad25, ho25, hb42, cc25, hc25, hk25⟩ := hS29.ownGet (j := 0) rfl hp160203
           subst hc25
           obtain ⟨p22, hp160212, hr82⟩ := bind_some hr81
           obtain ⟨ad26, ho26, hb43, cc26, hc26, hk26⟩ := hS29.ownGet (j := 0) rfl hp160212
           subst hc26
           obtain ⟨p23, hp160221, hr83⟩ := bind_some hr82
           obtain ⟨ad27, ho27, hb44, cc27, hc27, hk27⟩ := hS29.ownGet (j := 0) rfl hp160221
           subst hc27
           refine c_E 21 [.pointer (some ad25), vI p21, .pointer (some ad26), vI p22, .pointer (some ad27)] [0, 1, 2, 3, 10, 20, 23, 29, 35, 36] hf131 (.prop ho25 (.prop hb42 (.cell (hk25 0 _ rfl) (.prop ho26 (.prop hb43 (.cell (hk26 0 _ rfl) (.prop ho27 (.prop hb44 .nil)))))))) .nil fun a101 hf132 => ?_
           obtain ⟨d7, hd16, hr84⟩ := bind_some hr83
           have hl13 := setI_len hd16
           refine p_setOwnI (i := 21) (j := 0) (ad := ad27) (ix := (w64 ((w64 (x2 - y14)) + y19))) (x' := p21) hS29 hf132 rfl ho27 (by kernel_rfl) hd16 fun ww20 a102 hS30 hf133 => ?_
           have hf134 := Fr.conv (fl' := [(0, .slice o_x0 d7.length c_x0), (1, vI (w64 (x2 - y14))), (2, vI (w64 ((w64 (x2 + y15)) - y14))), (3, vI y14), (10, vI y19), (20, .slice o_x0 d7.length c_x0), (23, vI (w64 ((w64 ((w64 (x2 + y15)) - y14)) + y19))), (29, vI p21), (35, vI p22), (36, .pointer (some (ad27.add (Int.toNat (w64 ((w64 (x2 - y14)) + y19)) * 1))))]) hf133 (by rw [hl13] <;> kernel_rfl)
           refine ⟨fun e => absurd e (by decide), ?_⟩
           obtain ⟨p24, hp160241, hr85⟩ := bind_some hr84
           obtain ⟨ad28, ho28, hb45, cc28, hc28, hk28⟩ := hS30.ownGet (j := 0) rfl hp160241
           subst hc28
           refine p_qP 1 [.pointer (some ad28)] [(0, .slice o_x0 d7.length c_x0), (1, vI (w64 (x2 - y14))), (2, vI (w64 ((w64 (x2 + y15)) - y14))), (3, vI y14), (10, vI y19), (35, vI p22), (37, .pointer (some (ad28.add (Int.toNat (w64 ((w64 ((w64 (x2 + y15)) - y14)) + y19)) * 1))))] [.prop (o_x0 = some ad28), .prop (0 ≤ (w64 ((w64 ((w64 (x2 + y15)) - y14)) + y19)) ∧ (w64 ((w64 ((w64 (x2 + y15)) - y14)) + y19)) < (d7.length : Nat))] hf134 (by kernel_rfl) (fun _ => (.prop ho28 (.prop hb45 .nil))) fun a103 hf135 => ?_
           obtain ⟨d8, hd17, hr86⟩ := bind_some hr85
           have hl14 := setI_len hd17
           refine p_setOwnI (i := 23) (j := 0) (ad := ad28) (ix := (w64 ((w64 ((w64 (x2 + y15)) - y14)) + y19))) (x' := p22) hS30 hf135 rfl ho28 (by kernel_rfl) hd17 fun ww21 a104 hS31 hf136 => ?_
           have hf137 := Fr.conv (fl' := [(0, .slice o_x0 d8.length c_x0), (1, vI (w64 (x2 - y14))), (2, vI (w64 ((w64 (x2 + y15)) - y14))), (3, vI y14), (10, vI y19), (35, vI p22), (37, .pointer (some (ad28.add (Int.toNat (w64 ((w64 ((w64 (x2 + y15)) - y14)) + y19)) * 1))))]) hf136 (by rw [hl14] <;> kernel_rfl)
           refine ⟨fun e => absurd e (by decide), ?_⟩
           refine c_done ?_
           refine n_block ?_
           refine n_then ?_
           refine c_q [] [0, 1, 2, 3, 10] hf137 .nil fun a105 hf138 => ?_
           refine n_then ?_
           exact ⟨n6, Nat.lt_succ_self n6, z11, d8, (w64 (y19 + (1 : Int))), k19, hf138.to, hS31, (hl14.symm.trans (hl13.symm.trans hl12)), hr86⟩
          ·have hr87 := cond_f hb41 hr79
           refine c_exit 0 ?_
           refine x_then ?_
           refine x_then ?_
           refine x_block ?_
           refine c_fall [] (.tuple #[]) hf131 .nil ?_
           refine ⟨_, rfl, fun a106 hf140 => ?_⟩
           have hl15 : y18.length = y22.length := Eq.trans (b := x0.length) hl12 (Eq.symm hl7)
           have hf141 := Fr.conv (fl' := [(46, .tuple #[]), (0, .slice o_x0 y18.length c_x0), (2, vI x2), (4, .func (.func 145) #[] #[pB b_x4 0, pB b_x5 0, pB b_x6 0]), (10, vI y14), (11, vI y15), (35, .slice o_x0 y18.length c_x0), (38, vI (w64 (x2 - y14))), (43, vI (w64 ((w64 (x2 + y15)) - y14))), (44, vI y14), (45, .func (.func 145) #[] #[pB b_x4 0, pB b_x5 0, pB b_x6 0])]) hf140 (by rw [hl15] <;> kernel_rfl)
           refine ⟨fun _ => trivial, ?_⟩
           refine c_dt ?_
           refine c_q [] [0, 2, 4, 10, 11] hf141 .nil fun a107 hf142 => ?_
           refine n_block ?_
           refine n_then ?_
           exact ⟨n8, Nat.lt_succ_self n8, z11, y18, y14, (w64 (y15 - y14)), (zt k17 k19), hf142.to, hS28, hl12, hr87⟩
        ·have hr88 := cond_f hb34 hr66
         refine c_exit 0 ?_
         refine x_then ?_
         refine x_then ?_
         refine x_block ?_
         refine n_then ?_
         refine c_reg ?_
         refine c_n 7 [] [50, 53, 54, 55, 56] hf106 .nil fun a108 hf144 => ?_
         refine p_inl (i := 7) (d := some 57) (f := 158) (args := #[.slice o_x0 y22.length c_x0, vI (w64 (x2 - y14)), vI x2, vI y14, .func (.func 145) #[] #[pB b_x4 0, pB b_x5 0, pB b_x6 0]]) (N' := 38) hf144 (by kernel_rfl) Try.func158 (by kernel_rfl) fun a109 hf145 => ?_
         refine c_sq [] [0, 1, 2, 3, 10] hf145 .nil fun a110 hf146 => ?_
         refine c_block 0 ?_
         refine c_loop (fun n a w => ∃ z12 : Zone, ∃ y20 : List Int, ∃ y21 : Int, Zone.le z9 z12 ∧ Fr a 38 [(0, .slice o_x0 y20.length c_x0), (1, vI (w64 (x2 - y14))), (2, vI x2), (3, vI y14), (10, vI y21)] ∧ St z12 (ownS Ty.int 3 o_x0 c_x0 y20 :: box b_x4 [vI x4] 3 :: box b_x5 [.slice o_x5 x5.length c_x5] 53 :: box b_x6 [vI x6] 3 :: L) w ∧ y20.length = x0.length ∧ (F156_l9 rec x1 x2 x3 y9 y14 n y20 y21) = some r) fuel ⟨z9, y22, 0, zr, hf146.to, hS23, hl7, hr88⟩ ?_
         rintro n18 a111 ww22 ⟨z12, y20, y21, k20, hf148, hS32, hl16, hr89⟩
         cases n18 with
         | zero => cases hr89
         | succ n7 =>
         refine c_seq ?_
         refine c_sq [] [0, 1, 2, 3, 10, 13] hf148 .nil fun a112 hf149 => ?_
         refine c_if (decide (y21 < y14)) hf149 (fun hb46 => ?_) (fun hb46 => ?_)
         ·have hr90 := cond_t hb46 hr89
          refine c_skip ?_
          refine n_then ?_
          refine c_seq ?_
          refine c_block 1 ?_
          have hS33 := hS32.drew
          refine c_regD [(0, true), (1, true), (2, true), (3, true), (4, true), (5, true), (6, true), (7, true), (8, true), (9, true), (10, true), (11, true), (12, true), (13, true), (14, true), (15, true), (16, true), (17, true), (18, true), (19, true), (20, true), (21, false), (22, true), (23, false)] [21, 23] (fun x => x = ww22.drew) rfl ?_
          obtain ⟨p25, hp161304, hr91⟩ := bind_some hr90
          obtain ⟨ad29, ho29, hb47, cc29, hc29, hk29⟩ := hS33.ownGet (j := 0) rfl hp161304
          subst hc29
          obtain ⟨p26, hp161313, hr92⟩ := bind_some hr91
          obtain ⟨ad30, ho30, hb48, cc30, hc30, hk30⟩ := hS33.ownGet (j := 0) rfl hp161313
          subst hc30
          obtain ⟨p27, hp161322, hr93⟩ := bind_some hr92
          obtain ⟨ad31, ho31, hb49, cc31, hc31, hk31⟩ := hS33.ownGet (j := 0) rfl hp161322
          subst hc31
          refine c_E 21 [.pointer (some ad29), vI p25, .pointer (some ad30), vI p26, .pointer (some ad31)] [0, 1, 2, 3, 10, 20, 23, 29, 35, 36] hf149 (.prop ho29 (.prop hb47 (.cell (hk29 0 _ rfl) (.prop ho30 (.prop hb48 (.cell (hk30 0 _ rfl) (.prop ho31 (.prop hb49 .nil)))))))) .nil fun a113 hf150 => ?_
          obtain ⟨d9, hd18, hr94⟩ := bind_some hr93
          have hl17 := setI_len hd18
          refine p_setOwnI (i := 21) (j := 0) (ad := ad31) (ix := (w64 ((w64 (x2 - y14)) + y21))) (x' := p25) hS33 hf150 rfl ho31 (by kernel_rfl) hd18 fun ww23 a114 hS34 hf151 => ?_
          have hf152 := Fr.conv (fl' := [(0, .slice o_x0 d9.length c_x0), (1, vI (w64 (x2 - y14))), (2, vI x2), (3, vI y14), (10, vI y21), (20, .slice o_x0 d9.length c_x0), (23, vI (w64 (x2 + y21))), (29, vI p25), (35, vI p26), (36, .pointer (some (ad31.add (Int.toNat (w64 ((w64 (x2 - y14)) + y21)) * 1))))]) hf151 (by rw [hl17] <;> kernel_rfl)
          refine ⟨fun e => absurd e (by decide), ?_⟩
          obtain ⟨p28, hp161342, hr95⟩ := bind_some hr94
          obtain ⟨ad32, ho32, hb50, cc32, hc32, hk32⟩ := hS34.ownGet (j := 0) rfl hp161342
          subst hc32
          refine p_qP 1 [.pointer (some ad32)] [(0, .slice o_x0 d9.length c_x0), (1, vI (w64 (x2 - y14))), (2, vI x2), (3, vI y14), (10, vI y21), (35, vI p26), (37, .pointer (some (ad32.add (Int.toNat (w64 (x2 + y21)) * 1))))] [.prop (o_x0 = some ad32), .prop (0 ≤ (w64 (x2 + y21)) ∧ (w64 (x2 + y21)) < (d9.length : Nat))] hf152 (by kernel_rfl) (fun _ => (.prop ho32 (.prop hb50 .nil))) fun a115 hf153 => ?_
          obtain ⟨d10, hd19, hr96⟩ := bind_some hr95
          have hl18 := setI_len hd19
          refine p_setOwnI (i := 23) (j := 0) (ad := ad32) (ix := (w64 (x2 + y21))) (x' := p26) hS34 hf153 rfl ho32 (by kernel_rfl) hd19 fun ww24 a116 hS35 hf154 => ?_
          have hf155 := Fr.conv (fl' := [(0, .slice o_x0 d10.length c_x0), (1, vI (w64 (x2 - y14))), (2, vI x2), (3, vI y14), (10, vI y21), (35, vI p26), (37, .pointer (some (ad32.add (Int.toNat (w64 (x2 + y21)) * 1))))]) hf154 (by rw [hl18] <;> kernel_rfl)
          refine ⟨fun e => absurd e (by decide), ?_⟩
          refine c_done ?_
          refine n_block ?_
          refine n_then ?_
          refine c_q [] [0, 1, 2, 3, 10] hf155 .nil fun a117 hf156 => ?_
          refine n_then ?_
          exact ⟨n7, Nat.lt_succ_self n7, z12, d10, (w64 (y21 + (1 : Int))), k20, hf156.to, hS35, (hl18.symm.trans (hl17.symm.trans hl16)), hr96⟩
         ·have hr97 := cond_f hb46 hr89
          refine c_exit 0 ?_
          refine x_then ?_
          refine x_then ?_
          refine x_block ?_
          refine c_fall [] (.tuple #[]) hf149 .nil ?_
          refine ⟨_, rfl, fun a118 hf158 => ?_⟩
          have hl19 : y20.length = y22.length := Eq.trans (b := x0.length) hl16 (Eq.symm hl7)
          have hf159 := Fr.conv (fl' := [(57, .tuple #[]), (50, .slice o_x0 y20.length c_x0), (53, vI (w64 (x2 - y14))), (54, vI x2), (55, vI y14), (56, .func (.func 145) #[] #[pB b_x4 0, pB b_x5 0, pB b_x6 0])]) hf158 (by rw [hl19] <;> kernel_rfl)
          refine ⟨fun _ => trivial, ?_⟩
          refine c_done ?_
          refine c_fall [] (.tuple #[]) hf159 .nil ?_
          refine ⟨_, rfl, fun a119 hf160 => ?_⟩
          have hl20 : y20.length = x0.length := Eq.trans (b := x0.length) hl16 (Eq.symm rfl)
          have hf161 := Fr.conv (fl' := [(191, .tuple #[]), (0, .slice o_x0 y20.length c_x0), (1, vI x1), (3, vI x3), (4, .func (.func 145) #[] #[pB b_x4 0, pB b_x5 0, pB b_x6 0]), (18, vI (w64 (Int.fdiv (IntKind.wrap .u64 (w64 (x1 + x3))) 2))), (20, vI y9), (24, vI (w64 ((w64 ((w64 (Int.fdiv (IntKind.wrap .u64 (w64 (x1 + x3))) 2)) + x2)) - y9))), (186, .slice o_x0 y20.length c_x0), (187, vI y9), (188, vI x2), (189, vI (w64 ((w64 ((w64 (Int.fdiv (IntKind.wrap .u64 (w64 (x1 + x3))) 2)) + x2)) - y9))), (190, .func (.func 145) #[] #[pB b_x4 0, pB b_x5 0, pB b_x6 0])]) hf160 (by rw [hl20] <;> kernel_rfl)
          refine ⟨fun _ => trivial, ?_⟩
          refine c_dt ?_
          exact ⟨z12, y20, (zt (zt k16 k17) k20), hf161.to, hS32, hl16, hr97⟩
       ·have hr98 := cond_f hb33 hr64
        refine c_skip ?_
        refine n_then ?_
        exact ⟨z8, x0, k16, hf99.to, hS22, rfl, hr98⟩
     ·rintro a120 ww25 ⟨z7, y12, k21, hf164, hS36, hl21, hr99⟩
      refine c_mid (fun a w => ∃ z13 : Zone, ∃ y10 : List Int, Zone.le z7 z13 ∧ Fr a 220 [(0, .slice o_x0 y10.length c_x0), (3, vI x3), (4, .func (.func 145) #[] #[pB b_x4 0, pB b_x5 0, pB b_x6 0]), (18, vI (w64 (Int.fdiv (IntKind.wrap .u64 (w64 (x1 + x3))) 2))), (24, vI (w64 ((w64 ((w64 (Int.fdiv (IntKind.wrap .u64 (w64 (x1 + x3))) 2)) + x2)) - y9)))] ∧ St z13 (ownS Ty.int 3 o_x0 c_x0 y10 :: box b_x4 [vI x4] 3 :: box b_x5 [.slice o_x5 x5.length c_x5] 53 :: box b_x6 [vI x6] 3 :: L) w ∧ y10.length = x0.length ∧ (F156_j4 rec x1 x2 x3 y9 y10) = some r) ?_ ?_
      ·skip
       refine c_mid (fun a w => ∃ z14 : Zone, ∃ y13 : Bool, Zone.le z7 z14 ∧ Fr a 220 [(0, .slice o_x0 y12.length c_x0), (1, vI x1), (3, vI x3), (4, .func (.func 145) #[] #[pB b_x4 0, pB b_x5 0, pB b_x6 0]), (18, vI (w64 (Int.fdiv (IntKind.wrap .u64 (w64 (x1 + x3))) 2))), (20, vI y9), (24, vI (w64 ((w64 ((w64 (Int.fdiv (IntKind.wrap .u64 (w64 (x1 + x3))) 2)) + x2)) - y9))), (199, .bool y13)] ∧ St z14 (ownS Ty.int 3 o_x0 c_x0 y12 :: box b_x4 [vI x4] 3 :: box b_x5 [.slice o_x5 x5.length c_x5] 53 :: box b_x6 [vI x6] 3 :: L) w ∧ (F156_j5 rec x1 x2 x3 y9 y12 y13) = some r) ?_ ?_
       ·skip
        refine c_reg ?_
        refine c_n 4 [] [0, 1, 3, 4, 18, 20, 24, 195] hf164 .nil fun a121 hf165 => ?_
        rcases bft (decide (x1 < y9)) with hb51 | hb51
        ·have hr100 := cond_t hb51 hr99
         have hf166 := hf165.lit 195 hb51
         refine c_t [] [0, 1, 3, 4, 18, 20, 24, 199] hf166 .nil fun a122 hf167 => ?_
         exact ⟨z7, (decide (y9 < (w64 (Int.fdiv (IntKind.wrap .u64 (w64 (x1 + x3))) 2)))), zr, hf167.to, hS36, hr100⟩
        ·have hr101 := cond_f hb51 hr99
         have hf169 := hf165.lit 195 hb51
         refine c_t [] [0, 1, 3, 4, 18, 20, 24, 199] hf169 .nil fun a123 hf170 => ?_
         exact ⟨z7, false, zr, hf170.to, hS36, hr101⟩
       ·rintro a124 ww26 ⟨z14, y13, k22, hf172, hS37, hr102⟩
        refine c_if y13 hf172 (fun hb52 => ?_) (fun hb52 => ?_)
        ·have hr103 := cond_t hb52 hr102
         refine c_reg ?_
         refine c_n 5 [] [0, 3, 4, 18, 24, 200, 201, 202, 203, 204] hf172 .nil fun a125 hf173 => ?_
         obtain ⟨r4, hd20, hr104⟩ := bind_some hr103
         refine c_call hf173 (hrec y12 x1 y9 (w64 (Int.fdiv (IntKind.wrap .u64 (w64 (x1 + x3))) 2)) r4 hd20 _ _ _ hS37 0 1 2 3 _ _ _ _ _ _ _ (by decide) rfl rfl rfl rfl (SliceR.mono (zt (zt (zt k14 k15) k21) k22) hx_x5)) ?_
         rintro v4 ww27 a126 ⟨z15, k23, rfl, hS38, hl22⟩ hf174
         have hf175 := Fr.conv (fl' := [(205, .tuple #[]), (0, .slice o_x0 r4.length c_x0), (3, vI x3), (4, .func (.func 145) #[] #[pB b_x4 0, pB b_x5 0, pB b_x6 0]), (18, vI (w64 (Int.fdiv (IntKind.wrap .u64 (w64 (x1 + x3))) 2))), (24, vI (w64 ((w64 ((w64 (Int.fdiv (IntKind.wrap .u64 (w64 (x1 + x3))) 2)) + x2)) - y9))), (200, .slice o_x0 r4.length c_x0), (201, vI x1), (202, vI y9), (203, vI (w64 (Int.fdiv (IntKind.wrap .u64 (w64 (x1 + x3))) 2))), (204, .func (.func 145) #[] #[pB b_x4 0, pB b_x5 0, pB b_x6 0])]) hf174 (by rw [hl22] <;> kernel_rfl)
         refine ⟨fun _ => trivial, ?_⟩
         refine c_dt ?_
         exact ⟨z15, r4, (zt k22 k23), hf175.to, hS38, (hl22.symm.trans hl21), hr104⟩
        ·have hr105 := cond_f hb52 hr102
         refine c_skip ?_
         refine n_then ?_
         exact ⟨z14, y12, k22, hf172.to, hS37, hl21, hr105⟩
      ·rintro a127 ww28 ⟨z13, y10, k24, hf178, hS39, hl23, hr106⟩
       refine c_mid (fun a w => ∃ z16 : Zone, ∃ y11 : Bool, Zone.le z13 z16 ∧ Fr a 220 [(0, .slice o_x0 y10.length c_x0), (3, vI x3), (4, .func (.func 145) #[] #[pB b_x4 0, pB b_x5 0, pB b_x6 0]), (18, vI (w64 (Int.fdiv (IntKind.wrap .u64 (w64 (x1 + x3))) 2))), (24, vI (w64 ((w64 ((w64 (Int.fdiv (IntKind.wrap .u64 (w64 (x1 + x3))) 2)) + x2)) - y9))), (213, .bool y11)] ∧ St z16 (ownS Ty.int 3 o_x0 c_x0 y10 :: box b_x4 [vI x4] 3 :: box b_x5 [.slice o_x5 x5.length c_x5] 53 :: box b_x6 [vI x6] 3 :: L) w ∧ (F156_j6 rec x1 x2 x3 y9 y10 y11) = some r) ?_ ?_
       ·skip
        refine c_reg ?_
        refine c_n 4 [] [0, 3, 4, 18, 24, 209] hf178 .nil fun a128 hf179 => ?_
        rcases bft (decide ((w64 (Int.fdiv (IntKind.wrap .u64 (w64 (x1 + x3))) 2)) < (w64 ((w64 ((w64 (Int.fdiv (IntKind.wrap .u64 (w64 (x1 + x3))) 2)) + x2)) - y9)))) with hb53 | hb53
        ·have hr107 := cond_t hb53 hr106
         have hf180 := hf179.lit 209 hb53
         refine c_t [] [0, 3, 4, 18, 24, 213] hf180 .nil fun a129 hf181 => ?_
         exact ⟨z13, (decide ((w64 ((w64 ((w64 (Int.fdiv (IntKind.wrap .u64 (w64 (x1 + x3))) 2)) + x2)) - y9)) < x3)), zr, hf181.to, hS39, hr107⟩
        ·have hr108 := cond_f hb53 hr106
         have hf183 := hf179.lit 209 hb53
         refine c_t [] [0, 3, 4, 18, 24, 213] hf183 .nil fun a130 hf184 => ?_
         exact ⟨z13, false, zr, hf184.to, hS39, hr108⟩
       ·rintro a131 ww29 ⟨z16, y11, k25, hf186, hS40, hr109⟩
        refine c_if y11 hf186 (fun hb54 => ?_) (fun hb54 => ?_)
        ·have hr110 := cond_t hb54 hr109
         refine c_reg ?_
         refine c_n 5 [] [214, 215, 216, 217, 218] hf186 .nil fun a132 hf187 => ?_
         obtain ⟨r3, hd21, hr111⟩ := bind_some hr110
         refine c_call hf187 (hrec y10 (w64 (Int.fdiv (IntKind.wrap .u64 (w64 (x1 + x3))) 2)) (w64 ((w64 ((w64 (Int.fdiv (IntKind.wrap .u64 (w64 (x1 + x3))) 2)) + x2)) - y9)) x3 r3 hd21 _ _ _ hS40 0 1 2 3 _ _ _ _ _ _ _ (by decide) rfl rfl rfl rfl (SliceR.mono (zt (zt (zt (zt k14 k15) k21) k24) k25) hx_x5)) ?_
         rintro v5 ww30 a133 ⟨z17, k26, rfl, hS41, hl24⟩ hf188
         have hf189 := Fr.conv (fl' := [(219, .tuple #[]), (214, .slice o_x0 r3.length c_x0), (215, vI (w64 (Int.fdiv (IntKind.wrap .u64 (w64 (x1 + x3))) 2))), (216, vI (w64 ((w64 ((w64 (Int.fdiv (IntKind.wrap .u64 (w64 (x1 + x3))) 2)) + x2)) - y9))), (217, vI x3), (218, .func (.func 145) #[] #[pB b_x4 0, pB b_x5 0, pB b_x6 0])]) hf188 (by rw [hl24] <;> kernel_rfl)
         refine ⟨fun _ => trivial, ?_⟩
         refine c_done ?_
         refine c_fall [] (.tuple #[]) hf189 .nil ?_
         obtain rfl := some_eq hr111
         exact ⟨_, rfl, z17, (zt (zt (zt (zt (zt k14 k15) k21) k24) k25) k26), rfl, (St.pick 4 [0, 1, 2, 3] hS41 (by kernel_rfl)), ((hl24.symm.trans hl23)).symm⟩
        ·have hr112 := cond_f hb54 hr109
         refine c_skip ?_
         refine c_fall [] (.tuple #[]) hf186 .nil ?_
         obtain rfl := some_eq hr112
         exact ⟨_, rfl, z16, (zt (zt (zt (zt k14 k15) k21) k24) k25), rfl, (St.pick 4 [0, 1, 2, 3] hS40 (by kernel_rfl)), (hl23).symm⟩
end Go.Proofs.Ytlmgjjmighajdaa
set_option linter.unusedVariables false
set_option linter.unusedSimpArgs false
namespace Go.Proofs.Ytlmgjjmighajdaa
open Go.Sl Go.Sx
theorem st_pull {h : Zone} {L : List Atom} {w : World} (s : St h L w) {i : Nat} {A : Atom} (hi : L[i]? = some A) : St h (A :: L.set i emp) w := by
  have := St.swapTo (i := i + 1) (j := 0) (St.addEmp s) (by simpa using hi) rfl (by omega)
  simpa using this
theorem st_push {h : Zone} {L : List Atom} {w : World} {A : Atom} (s : St h (A :: L) w) {j : Nat} (hj : L[j]? = some emp) : St h (L.set j A) w := by
  have := St.swapTo (i := 0) (j := j + 1) s rfl (by simpa using hj) (by omega)
  have := St.drop 1 this
  simpa using this
def F156r (fuel : Nat) (m : Int) (xs : List Int) (s : Int) : Nat → List Int → Int → Int → Int → Option (List Int)
  | 0, _, _, _, _ => none
  | n + 1, X, I1, I2, I3 => F156 fuel (F156r fuel m xs s n) m xs s X I1 I2 I3
theorem f156_n (fuel : Nat) (x4 : Int) (x5 : List Int) (x6 : Int) : ∀ (n : Nat) (X : List Int) (I1 I2 I3 : Int) (R : List Int), F156r fuel x4 x5 x6 n X I1 I2 I3 = some R → ∀ (H : Zone) (M : List Atom) (W : World), St H M W → ∀ (ja jb jc jd : Nat) (O : Option Addr) (C : Nat) (BA BB BC : Nat) (OA : Option Addr) (CA : Nat),
    [ja, jb, jc, jd].Nodup → M[ja]? = some (ownS Ty.int 3 O C X) → M[jb]? = some (box BA [.int .i64 x4] 3) → M[jc]? = some (box BB [.slice OA x5.length CA] 53) → M[jd]? = some (box BC [.int .i64 x6] 3) → SliceR Ty.int H OA CA x5 →
    Calls Try.prog 156 #[.slice O X.length C, .int .i64 I1, .int .i64 I2, .int .i64 I3, .func (.func 145) #[] #[.pointer (some ⟨BA, 0, none⟩), .pointer (some ⟨BB, 0, none⟩), .pointer (some ⟨BC, 0, none⟩)]] W fun e W' => ∃ v, e = .returned v ∧ ∃ H', Zone.le H H' ∧ v = .tuple #[] ∧ St H' (M.set ja (ownS Ty.int 3 O C R)) W' ∧ X.length = R.length
  | 0, _, _, _, _, _, hr => by cases hr
  | n + 1, X, I1, I2, I3, R, hr => fun H M W hS ja jb jc jd O C BA BB BC OA CA hne ha hb hc hd hx => by
    simp only [List.nodup_cons, List.mem_cons, List.not_mem_nil, or_false, not_or, List.nodup_nil, not_false_eq_true, and_true] at hne
    obtain ⟨⟨n1, n2, n3⟩, ⟨n4, n5⟩, n6⟩ := hne
    have m1 : ¬ jb = ja := fun e => n1 e.symm
    have m2 : ¬ jc = ja := fun e => n2 e.symm
    have m3 : ¬ jd = ja := fun e => n3 e.symm
    have m4 : ¬ jc = jb := fun e => n4 e.symm
    have m5 : ¬ jd = jb := fun e => n5 e.symm
    have m6 : ¬ jd = jc := fun e => n6 e.symm
    have s1 := st_pull hS hd
    have s2 := st_pull s1 (i := jc + 1) (A := box BB [.slice OA x5.length CA] 53) (by simpa [List.getElem?_set_ne (Ne.symm n6)] using hc)
    have s3 := st_pull s2 (i := jb + 2) (A := box BA [.int .i64 x4] 3) (by simpa [List.getElem?_set_ne (Ne.symm n5), List.getElem?_set_ne (Ne.symm n4)] using hb)
    have s4 := st_pull s3 (i := ja + 3) (A := ownS Ty.int 3 O C X) (by simpa [List.getElem?_set_ne (Ne.symm n3), List.getElem?_set_ne (Ne.symm n2), List.getElem?_set_ne (Ne.symm n1)] using ha)
    simp only [List.set_cons_succ] at s4
    have la := (List.getElem?_eq_some_iff.1 ha).1
    have lb := (List.getElem?_eq_some_iff.1 hb).1
    have lc := (List.getElem?_eq_some_iff.1 hc).1
    have ld := (List.getElem?_eq_some_iff.1 hd).1
    refine (f156_ok fuel (F156r fuel x4 x5 x6 n) x4 x5 x6 X I1 I2 I3 (f156_n fuel x4 x5 x6 n) R hr H _ W O C BA BB BC OA CA hx s4).mono fun e W' ⟨v, he, H', hle, hv, hs, hl⟩ => ?_
    refine ⟨v, he, H', hle, hv, ?_, hl⟩
    have p1 := st_push hs (j := ja + 3) (by simp [List.getElem?_set, la, lb, lc, ld, n1, n2, n3, n4, n5, n6, m1, m2, m3, m4, m5, m6])
    have p2 := st_push p1 (j := jb + 2) (by simp [List.getElem?_set, la, lb, lc, ld, n1, n2, n3, n4, n5, n6, m1, m2, m3, m4, m5, m6])
    have p3 := st_push p2 (j := jc + 1) (by simp [List.getElem?_set, la, lb, lc, ld, n1, n2, n3, n4, n5, n6, m1, m2, m3, m4, m5, m6])
    have p4 := st_push p3 (j := jd) (by simp [List.getElem?_set, la, lb, lc, ld, n1, n2, n3, n4, n5, n6, m1, m2, m3, m4, m5, m6])
    have e : (((((((M.set jd emp).set jc emp).set jb emp).set ja emp).set ja (ownS Ty.int 3 O C R)).set jb (box BA [.int .i64 x4] 3)).set jc (box BB [.slice OA x5.length CA] 53)).set jd (box BC [.int .i64 x6] 3) = M.set ja (ownS Ty.int 3 O C R) := by
      refine List.ext_getElem? fun i => ?_
      simp only [List.getElem?_set, List.length_set, la, lb, lc, ld, if_true]
      by_cases k1 : jd = i
      · subst k1; simp [n3, hd]
      · by_cases k2 : jc = i
        · subst k2; simp [k1, n2, hc]
        · by_cases k3 : jb = i
          · subst k3; simp [k1, k2, n1, hb]
          · by_cases k4 : ja = i
            · subst k4; simp [k1, k2, k3]
            · simp [k1, k2, k3, k4]
    rw [← e]
    exact p4
end Go.Proofs.Ytlmgjjmighajdaa
set_option linter.unusedVariables false
namespace Go.Proofs.Ytlmgjjmighajdaa
open Go.Sl Go.Sx
def F127_j2 (k1 : (List Int) → Int → Option (List Int)) (k2 : (List Int) → Int → Option (List Int)) (y1 : Int) (y2 : List Int) (y3 : Int) (y4 : Bool) : Option (List Int) :=
  (cond y4 ((getI y2 (w64 (y3 - (1 : Int)))).bind fun p1 => ((getI y2 y3).bind fun p2 => ((getI y2 y3).bind fun p3 => ((setI y2 y3 p1).bind fun d1 => ((getI d1 (w64 (y3 - (1 : Int)))).bind fun p4 => ((setI d1 (w64 (y3 - (1 : Int))) p2).bind fun d2 => (k2 d2 (w64 (y3 - (1 : Int)))))))))) (k1 y2 (w64 (y1 + (1 : Int)))))
def F127_l5 (fuel : Nat) (k1 : (List Int) → Int → Option (List Int)) (x0 : Int) (x1 : List Int) (y5 : Int) (y6 : Int) (y1 : Int) : Nat → (List Int) → Int → Option (List Int)
  | 0, _, _ => none
  | n1 + 1, y2, y3 =>
    let k2 : (List Int) → Int → Option (List Int) := F127_l5 fuel k1 x0 x1 y5 y6 y1 n1
    (cond (decide (y3 > y6)) ((getI y2 y3).bind fun p5 => ((getI y2 (w64 (y3 - (1 : Int)))).bind fun p6 => ((getI x1 p6).bind fun p7 => ((nz y5).bind fun _ => ((getI x1 p5).bind fun p8 => ((nz y5).bind fun _ => ((F123 fuel (Int.tmod (w64 (x0 * p7)) y5) (Int.tmod (w64 (x0 * p8)) y5)).bind fun r1 => (F127_j2 k1 k2 y1 y2 y3 (decide (r1 < (0 : Int))))))))))) (F127_j2 k1 k2 y1 y2 y3 false))
def F127_l4 (fuel : Nat) (k3 : (List Int) → Int → Int → Option (List Int)) (x0 : Int) (x1 : List Int) (y5 : Int) (y6 : Int) (y7 : Int) : Nat → (List Int) → Int → Option (List Int)
  | 0, _, _ => none
  | n2 + 1, y8, y1 =>
    let k1 : (List Int) → Int → Option (List Int) := F127_l4 fuel k3 x0 x1 y5 y6 y7 n2
    (cond (decide (y1 < y7)) (F127_l5 fuel k1 x0 x1 y5 y6 y1 fuel y8 y1) (k3 y8 y7 (w64 (y7 + (20 : Int)))))
def F127_j3 (k4 : (List Int) → Int → Option (List Int)) (k5 : (List Int) → Int → Option (List Int)) (y9 : Int) (y10 : List Int) (y11 : Int) (y12 : Bool) : Option (List Int) :=
  (cond y12 ((getI y10 (w64 (y11 - (1 : Int)))).bind fun p9 => ((getI y10 y11).bind fun p10 => ((getI y10 y11).bind fun p11 => ((setI y10 y11 p9).bind fun d3 => ((getI d3 (w64 (y11 - (1 : Int)))).bind fun p12 => ((setI d3 (w64 (y11 - (1 : Int))) p10).bind fun d4 => (k5 d4 (w64 (y11 - (1 : Int)))))))))) (k4 y10 (w64 (y9 + (1 : Int)))))
def F127_l7 (fuel : Nat) (k4 : (List Int) → Int → Option (List Int)) (x0 : Int) (x1 : List Int) (y5 : Int) (y6 : Int) (y9 : Int) : Nat → (List Int) → Int → Option (List Int)
  | 0, _, _ => none
  | n3 + 1, y10, y11 =>
    let k5 : (List Int) → Int → Option (List Int) := F127_l7 fuel k4 x0 x1 y5 y6 y9 n3
    (cond (decide (y11 > y6)) ((getI y10 y11).bind fun p13 => ((getI y10 (w64 (y11 - (1 : Int)))).bind fun p14 => ((getI x1 p14).bind fun p15 => ((nz y5).bind fun _ => ((getI x1 p13).bind fun p16 => ((nz y5).bind fun _ => ((F123 fuel (Int.tmod (w64 (x0 * p15)) y5) (Int.tmod (w64 (x0 * p16)) y5)).bind fun r2 => (F127_j3 k4 k5 y9 y10 y11 (decide (r2 < (0 : Int))))))))))) (F127_j3 k4 k5 y9 y10 y11 false))
def F127_j4 (k6 : (List Int) → Int → Option (List Int)) (y13 : Int) (y14 : List Int) : Option (List Int) :=
  (k6 y14 (w64 (y13 * (2 : Int))))
def F127_l9 (fuel : Nat) (k6 : (List Int) → Int → Option (List Int)) (x0 : Int) (x1 : List Int) (y5 : Int) (y15 : List Int) (y13 : Int) : Nat → (List Int) → Int → Int → Option (List Int)
  | 0, _, _, _ => none
  | n4 + 1, y16, y17, y18 =>
    let k7 : (List Int) → Int → Int → Option (List Int) := F127_l9 fuel k6 x0 x1 y5 y15 y13 n4
    (cond (decide (y18 ≤ (y15.length : Int))) ((F156r fuel x0 x1 y5 fuel y16 y17 (w64 (y17 + y13)) y18).bind fun r3 => (k7 r3 y18 (w64 (y18 + (w64 ((2 : Int) * y13)))))) (cond (decide ((w64 (y17 + y13)) < (y15.length : Int))) ((F156r fuel x0 x1 y5 fuel y16 y17 (w64 (y17 + y13)) (y15.length : Int)).bind fun r4 => (F127_j4 k6 y13 r4)) (F127_j4 k6 y13 y16)))
def F127_l10 (d5 : List Int) : Nat → (List Int) → Int → Option (List Int)
  | 0, _, _ => none
  | n5 + 1, y19, y20 =>
    let k8 : (List Int) → Int → Option (List Int) := F127_l10 d5 n5
    (cond (decide (y20 < (d5.length : Int))) ((getI d5 y20).bind fun p17 => ((getI y19 p17).bind fun p18 => ((getI y19 p17).bind fun p19 => ((setI y19 p17 (w64 (p18 + (1 : Int)))).bind fun d6 => (k8 d6 (w64 (y20 + (1 : Int)))))))) (some (y19)))
def F127_l8 (fuel : Nat) (x0 : Int) (x1 : List Int) (y5 : Int) (y21 : List Int) (y15 : List Int) (y22 : Int) : Nat → (List Int) → Int → Option (List Int)
  | 0, _, _ => none
  | n6 + 1, y23, y13 =>
    let k6 : (List Int) → Int → Option (List Int) := F127_l8 fuel x0 x1 y5 y21 y15 y22 n6
    (cond (decide (y13 < (y15.length : Int))) (F127_l9 fuel k6 x0 x1 y5 y15 y13 fuel y23 0 (w64 ((2 : Int) * y13))) ((subI y23 0 y22).bind fun d5 => (F127_l10 d5 fuel y21 0)))
def F127_l6 (fuel : Nat) (x0 : Int) (x1 : List Int) (y5 : Int) (y21 : List Int) (y15 : List Int) (y22 : Int) (y6 : Int) : Nat → (List Int) → Int → Option (List Int)
  | 0, _, _ => none
  | n7 + 1, y24, y9 =>
    let k4 : (List Int) → Int → Option (List Int) := F127_l6 fuel x0 x1 y5 y21 y15 y22 y6 n7
    (cond (decide (y9 < (y15.length : Int))) (F127_l7 fuel k4 x0 x1 y5 y6 y9 fuel y24 y9) (F127_l8 fuel x0 x1 y5 y21 y15 y22 fuel y24 20))
def F127_l3 (fuel : Nat) (x0 : Int) (x1 : List Int) (y5 : Int) (y21 : List Int) (y15 : List Int) (y22 : Int) : Nat → (List Int) → Int → Int → Option (List Int)
  | 0, _, _, _ => none
  | n8 + 1, y25, y6, y7 =>
    let k3 : (List Int) → Int → Int → Option (List Int) := F127_l3 fuel x0 x1 y5 y21 y15 y22 n8
    (cond (decide (y7 ≤ (y15.length : Int))) (F127_l4 fuel k3 x0 x1 y5 y6 y7 fuel y25 (w64 (y6 + (1 : Int)))) (F127_l6 fuel x0 x1 y5 y21 y15 y22 y6 fuel y25 (w64 (y6 + (1 : Int)))))
def F127_l2 (fuel : Nat) (x0 : Int) (x1 : List Int) (y5 : Int) : Nat → (List Int) → (List Int) → Int → Int → Option (List Int)
  | 0, _, _, _, _ => none
  | n9 + 1, y21, y15, y22, y26 =>
    let k9 : (List Int) → (List Int) → Int → Int → Option (List Int) := F127_l2 fuel x0 x1 y5 n9
    (cond (decide (y26 < (x1.length : Int))) ((getI x1 y26).bind fun p20 => ((nz y5).bind fun _ => ((getI y21 y26).bind fun p21 => ((setI y21 y26 (w64 (Int.tdiv (w64 (x0 * p20)) y5))).bind fun d7 => ((getI y15 y26).bind fun p22 => ((setI y15 y26 y26).bind fun d8 => ((getI d7 y26).bind fun p23 => (k9 d7 d8 (w64 (y22 - p23)) (w64 (y26 + (1 : Int))))))))))) (F127_l3 fuel x0 x1 y5 y21 y15 y22 fuel y15 0 20))
def F127_j1 (fuel : Nat) (x0 : Int) (x1 : List Int) (y5 : Int) (y27 : List Int) : Option (List Int) :=
  (cond (y5 == (0 : Int)) (some (y27)) (F127_l2 fuel x0 x1 y5 fuel y27 y27 x0 0))
def F127_l1 (fuel : Nat) (x0 : Int) (x1 : List Int) : Nat → Int → Int → Option (List Int)
  | 0, _, _ => none
  | n10 + 1, y5, y28 =>
    let k10 : Int → Int → Option (List Int) := F127_l1 fuel x0 x1 n10
    (cond (decide (y28 < (x1.length : Int))) ((getI x1 y28).bind fun p24 => (k10 (w64 (y5 + p24)) (w64 (y28 + (1 : Int))))) ((mkC (x1.length : Int) (0 : Int)).bind fun d9 => (F127_j1 fuel x0 x1 y5 d9)))
def F127 (fuel : Nat) (x0 : Int) (x1 : List Int) : Option (List Int) :=
  (F127_l1 fuel x0 x1 fuel 0 0)
set_option maxRecDepth 100000 in
theorem f127_ok (fuel : Nat) (x0 : Int) (x1 : List Int) (r : List Int) (hr : F127 fuel x0 x1 = some r) (h : Zone) (L : List Atom) (w : World) (hS : St h L w) (o_x1 : Option Addr) (c_x1 : Nat) (hx_x1 : SliceR Ty.int h o_x1 c_x1 x1) :
    Calls Try.prog 127 #[vI x0, .slice o_x1 x1.length c_x1] w fun e w' => ∃ v, e = .returned v ∧ (∃ h', ∃ o0 : Option Addr, ∃ c0 : Nat, Zone.le h h' ∧ v = .slice o0 r.length c0 ∧ St h' L w' ∧ SliceR Ty.int h' o0 c0 r) := by
 refine calls_intro (N := 80) Try.func127 (by kernel_rfl) fun a hf => ?_
 refine c_sr ?_
 refine c_box [vI x0] 3 hS hf fun b1 ww1 a1 hS1 hf1 => ⟨fun _ => trivial, ?_⟩
 refine c_box [.slice o_x1 x1.length c_x1] 53 hS1 hf1 fun b2 ww2 a2 hS2 hf2 => ⟨fun _ => trivial, ?_⟩
 refine c_t [] [2, 3] hf2 .nil fun a3 hf3 => ?_
 refine c_sr ?_
 refine c_box [vI 0] 3 hS2 hf3 fun b3 ww3 a4 hS3 hf4 => ⟨fun _ => trivial, ?_⟩
 refine c_st 0 [vI 0] hS3 hf4 rfl fun ww4 a5 hS4 hf5 => ⟨fun _ => trivial, ?_⟩
 refine c_dt ?_
 refine c_seq ?_
 refine c_sq [.slice o_x1 x1.length c_x1] [2, 3, 5, 15, 16, 17] hf5 (.cell (hS4.box (i := 1) rfl (j := 0) rfl) .nil) fun a6 hf6 => ?_
 refine c_block 0 ?_
 refine c_loop (fun n a w => ∃ z1 : Zone, ∃ y5 : Int, ∃ y28 : Int, Zone.le h z1 ∧ Fr a 80 [(2, pB b1 0), (3, pB b2 0), (5, pB b3 0), (15, .slice o_x1 x1.length c_x1), (16, vI (x1.length : Int)), (17, vI y28)] ∧ St z1 (box b3 [vI y5] 3 :: box b2 [.slice o_x1 x1.length c_x1] 53 :: box b1 [vI x0] 3 :: L) w ∧ (F127_l1 fuel x0 x1 n y5 y28) = some r) fuel ⟨h, 0, 0, zr, hf6.to, hS4, hr⟩ ?_
 rintro n11 a7 ww5 ⟨z1, y5, y28, k11, hf8, hS5, hr1⟩
 cases n11 with
 | zero => cases hr1
 | succ n10 =>
 refine c_sq [] [2, 3, 5, 15, 16, 17, 18] hf8 .nil fun a8 hf9 => ?_
 refine c_seq ?_
 refine c_if (decide (y28 < (x1.length : Int))) hf9 (fun hb1 => ?_) (fun hb1 => ?_)
 ·have hr2 := cond_t hb1 hr1
  refine c_skip ?_
  refine n_then ?_
  refine c_seq ?_
  refine c_block 1 ?_
  obtain ⟨p24, hp396, hr3⟩ := bind_some hr2
  obtain ⟨ad1, ho1, hb2, cc1, hc1, hk1⟩ := SliceR.getI (SliceR.mono k11 hx_x1) hp396
  subst hc1
  refine c_sq [.pointer (some ad1), vI p24] [2, 3, 5, 7, 15, 16, 17] hf9 (.prop ho1 (.prop hb2 (.cell (hS5.cell (hk1 0 _ rfl)) .nil))) fun a9 hf10 => ?_
  refine c_reg ?_
  refine c_n 3 [vI y5] [2, 3, 5, 15, 16, 17, 23] hf10 (.cell (hS5.box (i := 0) rfl (j := 0) rfl) .nil) fun a10 hf11 => ?_
  refine c_st 0 [vI (w64 (y5 + p24))] hS5 hf11 rfl fun ww6 a11 hS6 hf12 => ⟨fun _ => trivial, ?_⟩
  refine c_done ?_
  refine n_block ?_
  refine n_then ?_
  refine c_q [] [2, 3, 5, 15, 16, 17] hf12 .nil fun a12 hf13 => ?_
  refine n_then ?_
  exact ⟨n10, Nat.lt_succ_self n10, z1, (w64 (y5 + p24)), (w64 (y28 + (1 : Int))), k11, hf13.to, hS6, hr3⟩
 ·have hr4 := cond_f hb1 hr1
  refine c_exit 0 ?_
  refine x_then ?_
  refine x_then ?_
  refine x_block ?_
  refine n_then ?_
  refine c_mid (fun a w => ∃ z2 : Zone, ∃ y27 : List Int, ∃ e1 : Option Addr, ∃ q1 : Nat, ∃ e2 : Option Addr, Zone.le z1 z2 ∧ Fr a 80 [(2, pB b1 0), (3, pB b2 0), (5, pB b3 0), (8, .slice e1 y27.length q1), (9, .slice e2 y27.length q1), (10, vI x0)] ∧ St z2 (ownS Ty.int 3 e1 q1 y27 :: ownS Ty.int 3 e2 q1 y27 :: box b3 [vI y5] 3 :: box b2 [.slice o_x1 x1.length c_x1] 53 :: box b1 [vI x0] 3 :: L) w ∧ (F127_j1 fuel x0 x1 y5 y27) = some r) ?_ ?_
  ·skip
   have hS7 := hS5.drew
   have s1 := Sub.of zr hS7
   refine w_regB (by kernel_rfl) [] (Sub z1 (box b3 [vI y5] 3 :: box b2 [.slice o_x1 x1.length c_x1] 53 :: box b1 [vI x0] 3 :: L)) (by kernel_rfl) ?_
   refine k_seg' 5 [(0, true), (1, true), (3, true), (4, true), (6, true)] (by kernel_rfl) (by kernel_rfl) (At.start s1) (by kernel_rfl) ?_
   refine c_S 5 [.slice o_x1 x1.length c_x1, .slice o_x1 x1.length c_x1, vI x0] [2, 3, 5, 26, 29, 31] s1 hf9 (fun _ s => (.cell (s.box (i := 1) rfl (j := 0) rfl) (.cell (s.box (i := 1) rfl (j := 0) rfl) (.cell (s.box (i := 2) rfl (j := 0) rfl) .nil)))) .nil fun a13 hf15 => ?_
   refine c_done ?_
   intro hA1
   refine k_any' 4 [2, 5] (by kernel_rfl) hA1 (by kernel_rfl) (by kernel_rfl) ?_
   refine (all_cons ?_ (all_cons ?_ all_nil))
   ·skip
    obtain ⟨d9, hd1, hr5⟩ := bind_some hr4
    refine p_make (T := Ty.int) (i := 2) (d := some 27) (x0 := (0 : Int)) el53 hS7 hf15 (by kernel_rfl) rfl hd1 fun e3 ww7 a14 hS8 hf16 => ⟨fun _ => Sub.of zr (St.drop 1 hS8), ?_⟩
    refine c_done ?_
    intro hA2
    have s2 := Sub.of zr (St.drop 1 hS8)
    refine k_seg' 0 [(7, true), (5, false), (8, true), (9, true)] (by kernel_rfl) (by kernel_rfl) hA2 (by kernel_rfl) ?_
    refine c_S 1 [] [2, 3, 5, 8, 29, 31] s2 hf16 (fun _ s => .nil) .nil fun a15 hf17 => ?_
    refine p_make (T := Ty.int) (i := 5) (d := some 30) (x0 := (0 : Int)) el53 hS8 hf17 (by kernel_rfl) rfl hd1 fun e4 ww8 a16 hS9 hf18 => ⟨fun _ => Sub.of zr (St.drop 2 hS9), ?_⟩
    have s3 := Sub.of zr (St.drop 2 hS9)
    refine c_S 2 [] [2, 3, 5, 8, 9, 10] s3 hf18 (fun _ s => .nil) .nil fun a17 hf19 => ?_
    refine c_done ?_
    intro hA3
    refine k_done' (by kernel_rfl) (by kernel_rfl) ?_
    refine n_then ?_
    exact ⟨z1, d9, (some e3), d9.length, (some e4), zr, hf19.to, (St.pick 2 [1, 0] hS9 (by kernel_rfl)), hr5⟩
   ·skip
    obtain ⟨d10, hd2, hr6⟩ := bind_some hr4
    refine p_make (T := Ty.int) (i := 5) (d := some 30) (x0 := (0 : Int)) el53 hS7 hf15 (by kernel_rfl) rfl hd2 fun e5 ww9 a18 hS10 hf21 => ⟨fun _ => Sub.of zr (St.drop 1 hS10), ?_⟩
    refine c_done ?_
    intro hA4
    have s4 := Sub.of zr (St.drop 1 hS10)
    refine k_seg' 0 [(2, false), (7, true), (8, true), (9, true)] (by kernel_rfl) (by kernel_rfl) hA4 (by kernel_rfl) ?_
    refine p_make (T := Ty.int) (i := 2) (d := some 27) (x0 := (0 : Int)) el53 hS10 hf21 (by kernel_rfl) rfl hd2 fun e6 ww10 a19 hS11 hf22 => ⟨fun _ => Sub.of zr (St.drop 2 hS11), ?_⟩
    have s5 := Sub.of zr (St.drop 2 hS11)
    refine c_S 3 [] [2, 3, 5, 8, 9, 10] s5 hf22 (fun _ s => .nil) .nil fun a20 hf23 => ?_
    refine c_done ?_
    intro hA5
    refine k_done' (by kernel_rfl) (by kernel_rfl) ?_
    refine n_then ?_
    exact ⟨z1, d10, (some e6), d10.length, (some e5), zr, hf23.to, (St.pick 2 [0, 1] hS11 (by kernel_rfl)), hr6⟩
  ·rintro a21 ww11 ⟨z2, y27, e1, q1, e2, k12, hf25, hS12, hr7⟩
   refine c_seq ?_
   refine c_sq [vI y5] [2, 3, 5, 8, 9, 10, 33] hf25 (.cell (hS12.box (i := 2) rfl (j := 0) rfl) .nil) fun a22 hf26 => ?_
   refine c_if (y5 == (0 : Int)) hf26 (fun hb3 => ?_) (fun hb3 => ?_)
   ·have hr8 := cond_t hb3 hr7
    refine c_sq [] [4] hf26 .nil fun a23 hf27 => ?_
    refine c_ret ?_
    refine r_then ?_
    obtain ⟨z3, k13, hS13, hx1⟩ := hS12.share (j := 0) rfl
    refine c_rt [] (.slice e1 y27.length q1) hf27 .nil ?_
    obtain rfl := some_eq hr8
    exact ⟨_, rfl, z3, e1, q1, (zt (zt k11 k12) k13), rfl, (St.drop 5 hS13), hx1⟩
   ·have hr9 := cond_f hb3 hr7
    refine c_skip ?_
    refine n_then ?_
    refine c_seq ?_
    refine c_sq [.slice o_x1 x1.length c_x1] [2, 3, 5, 8, 9, 10, 35, 36, 37] hf26 (.cell (hS12.box (i := 3) rfl (j := 0) rfl) .nil) fun a24 hf28 => ?_
    refine c_block 2 ?_
    refine c_loop (fun n a w => ∃ z4 : Zone, ∃ y21 : List Int, ∃ y15 : List Int, ∃ y22 : Int, ∃ y26 : Int, Zone.le z2 z4 ∧ Fr a 80 [(2, pB b1 0), (3, pB b2 0), (5, pB b3 0), (8, .slice e1 y21.length q1), (9, .slice e2 y15.length q1), (10, vI y22), (35, .slice o_x1 x1.length c_x1), (36, vI (x1.length : Int)), (37, vI y26)] ∧ St z4 (ownS Ty.int 3 e1 q1 y21 :: ownS Ty.int 3 e2 q1 y15 :: box b3 [vI y5] 3 :: box b2 [.slice o_x1 x1.length c_x1] 53 :: box b1 [vI x0] 3 :: L) w ∧ y21.length = y27.length ∧ y15.length = y27.length ∧ (F127_l2 fuel x0 x1 y5 n y21 y15 y22 y26) = some r) fuel ⟨z2, y27, y27, x0, 0, zr, hf28.to, hS12, rfl, rfl, hr9⟩ ?_
    rintro n12 a25 ww12 ⟨z4, y21, y15, y22, y26, k14, hf30, hS14, hl1, hl2, hr10⟩
    cases n12 with
    | zero => cases hr10
    | succ n9 =>
    refine c_sq [] [2, 3, 5, 8, 9, 10, 35, 36, 37, 38] hf30 .nil fun a26 hf31 => ?_
    refine c_seq ?_
    refine c_if (decide (y26 < (x1.length : Int))) hf31 (fun hb4 => ?_) (fun hb4 => ?_)
    ·have hr11 := cond_t hb4 hr10
     refine c_skip ?_
     refine n_then ?_
     refine c_seq ?_
     refine c_block 3 ?_
     obtain ⟨p20, hp1785, hr12⟩ := bind_some hr11
     obtain ⟨ad2, ho2, hb5, cc2, hc2, hk2⟩ := SliceR.getI (SliceR.mono (zt (zt k11 k12) k14) hx_x1) hp1785
     subst hc2
     refine c_sq [.pointer (some ad2), vI p20] [2, 3, 5, 8, 9, 10, 11, 12, 35, 36, 37] hf31 (.prop ho2 (.prop hb5 (.cell (hS14.cell (hk2 0 _ rfl)) .nil))) fun a27 hf32 => ?_
     refine c_sr ?_
     obtain ⟨u1, hd3, hr13⟩ := bind_some hr12
     obtain ⟨p21, hp1799, hr14⟩ := bind_some hr13
     obtain ⟨ad3, ho3, hb6, cc3, hc3, hk3⟩ := hS14.ownGet (j := 0) rfl hp1799
     subst hc3
     refine c_n 11 [vI x0, vI y5, .pointer (some ad3)] [2, 3, 5, 8, 9, 10, 11, 35, 36, 37, 44, 45, 50, 51, 52] hf32 (.cell (hS14.box (i := 4) rfl (j := 0) rfl) (.cell (hS14.box (i := 2) rfl (j := 0) rfl) (.prop (nz_spec hd3) (.prop ho3 (.prop hb6 .nil))))) fun a28 hf33 => ?_
     obtain ⟨d7, hd4, hr15⟩ := bind_some hr14
     have hl3 := setI_len hd4
     refine p_setOwnI (i := 11) (j := 0) (ad := ad3) (ix := y26) (x' := (w64 (Int.tdiv (w64 (x0 * p20)) y5))) hS14 hf33 rfl ho3 (by kernel_rfl) hd4 fun ww13 a29 hS15 hf34 => ?_
     have hf35 := Fr.conv (fl' := [(2, pB b1 0), (3, pB b2 0), (5, pB b3 0), (8, .slice e1 d7.length q1), (9, .slice e2 y15.length q1), (10, vI y22), (11, vI y26), (35, .slice o_x1 x1.length c_x1), (36, vI (x1.length : Int)), (37, vI y26), (44, .slice e2 y15.length q1), (45, vI y26), (50, vI (w64 (Int.tdiv (w64 (x0 * p20)) y5))), (51, vI y26), (52, .pointer (some (ad3.add (Int.toNat y26 * 1))))]) hf34 (by rw [hl3] <;> kernel_rfl)
     refine ⟨fun _ => trivial, ?_⟩
     obtain ⟨p22, hp1819, hr16⟩ := bind_some hr15
     obtain ⟨ad4, ho4, hb7, cc4, hc4, hk4⟩ := hS15.ownGet (j := 1) rfl hp1819
     subst hc4
     refine c_n 1 [.pointer (some ad4)] [2, 3, 5, 8, 9, 10, 11, 35, 36, 37, 51, 53] hf35 (.prop ho4 (.prop hb7 .nil)) fun a30 hf36 => ?_
     obtain ⟨d8, hd5, hr17⟩ := bind_some hr16
     have hl4 := setI_len hd5
     refine p_setOwnI (i := 13) (j := 1) (ad := ad4) (ix := y26) (x' := y26) hS15 hf36 rfl ho4 (by kernel_rfl) hd5 fun ww14 a31 hS16 hf37 => ?_
     have hf38 := Fr.conv (fl' := [(2, pB b1 0), (3, pB b2 0), (5, pB b3 0), (8, .slice e1 d7.length q1), (9, .slice e2 d8.length q1), (10, vI y22), (11, vI y26), (35, .slice o_x1 x1.length c_x1), (36, vI (x1.length : Int)), (37, vI y26), (51, vI y26), (53, .pointer (some (ad4.add (Int.toNat y26 * 1))))]) hf37 (by rw [hl4] <;> kernel_rfl)
     refine ⟨fun _ => trivial, ?_⟩
     refine c_dt ?_
     obtain ⟨p23, hp1839, hr18⟩ := bind_some hr17
     obtain ⟨ad5, ho5, hb8, cc5, hc5, hk5⟩ := hS16.ownGet (j := 0) rfl hp1839
     subst hc5
     refine c_q [.pointer (some ad5), vI p23] [2, 3, 5, 8, 9, 10, 35, 36, 37] hf38 (.prop ho5 (.prop hb8 (.cell (hk5 0 _ rfl) .nil))) fun a32 hf39 => ?_
     refine n_block ?_
     refine n_then ?_
     refine c_q [] [2, 3, 5, 8, 9, 10, 35, 36, 37] hf39 .nil fun a33 hf40 => ?_
     refine n_then ?_
     exact ⟨n9, Nat.lt_succ_self n9, z4, d7, d8, (w64 (y22 - p23)), (w64 (y26 + (1 : Int))), k14, hf40.to, hS16, (hl3.symm.trans hl1), (hl4.symm.trans hl2), hr18⟩
    ·have hr19 := cond_f hb4 hr10
     refine c_exit 2 ?_
     refine x_then ?_
     refine x_then ?_
     refine x_block ?_
     refine n_then ?_
     refine c_sr ?_
     refine c_n 2 [] [8, 9, 10, 61, 62] hf31 .nil fun a34 hf42 => ?_
     refine p_inl (i := 2) (d := some 63) (f := 144) (args := #[.slice e2 y15.length q1, .func (.func 145) #[] #[pB b1 0, pB b2 0, pB b3 0]]) (N' := 9) hf42 (by kernel_rfl) Try.func144 (by kernel_rfl) fun a35 hf43 => ?_
     refine c_reg ?_
     refine c_n 4 [] [4, 6, 7] hf43 .nil fun a36 hf44 => ?_
     refine p_inl (i := 4) (d := some 8) (f := 153) (args := #[.slice e2 y15.length q1, vI (y15.length : Int), .func (.func 145) #[] #[pB b1 0, pB b2 0, pB b3 0]]) (N' := 63) hf44 (by kernel_rfl) Try.func153 (by kernel_rfl) fun a37 hf45 => ?_
     refine c_sq [] [0, 1, 2, 6] hf45 .nil fun a38 hf46 => ?_
     refine c_sq [] [0, 1, 2, 6, 7, 8] hf46 .nil fun a39 hf47 => ?_
     refine c_seq ?_
     refine c_block 0 ?_
     refine c_loop (fun n a w => ∃ z5 : Zone, ∃ y25 : List Int, ∃ y6 : Int, ∃ y7 : Int, Zone.le z4 z5 ∧ Fr a 63 [(0, .slice e2 y25.length q1), (1, vI (y15.length : Int)), (2, .func (.func 145) #[] #[pB b1 0, pB b2 0, pB b3 0]), (6, vI 20), (7, vI y6), (8, vI y7)] ∧ St z5 (ownS Ty.int 3 e1 q1 y21 :: ownS Ty.int 3 e2 q1 y25 :: box b3 [vI y5] 3 :: box b2 [.slice o_x1 x1.length c_x1] 53 :: box b1 [vI x0] 3 :: L) w ∧ y25.length = y27.length ∧ (F127_l3 fuel x0 x1 y5 y21 y15 y22 n y25 y6 y7) = some r) fuel ⟨z4, y15, 0, 20, zr, hf47.to, hS14, hl2, hr19⟩ ?_
     rintro n13 a40 ww15 ⟨z5, y25, y6, y7, k15, hf49, hS17, hl5, hr20⟩
     cases n13 with
     | zero => cases hr20
     | succ n8 =>
     refine c_seq ?_
     refine c_sq [] [0, 1, 2, 6, 7, 8, 13] hf49 .nil fun a41 hf50 => ?_
     refine c_if (decide (y7 ≤ (y15.length : Int))) hf50 (fun hb9 => ?_) (fun hb9 => ?_)
     ·have hr21 := cond_t hb9 hr20
      refine c_skip ?_
      refine n_then ?_
      refine c_block 1 ?_
      refine c_sr ?_
      refine c_n 4 [] [0, 1, 2, 6, 8, 14, 15, 16, 17] hf50 .nil fun a42 hf51 => ?_
      refine p_inl (i := 4) (d := some 18) (f := 155) (args := #[.slice e2 y25.length q1, vI y6, vI y7, .func (.func 145) #[] #[pB b1 0, pB b2 0, pB b3 0]]) (N' := 53) hf51 (by kernel_rfl) Try.func155 (by kernel_rfl) fun a43 hf52 => ?_
      refine c_sq [] [0, 1, 2, 3, 8] hf52 .nil fun a44 hf53 => ?_
      refine c_block 0 ?_
      refine c_loop (fun n a w => ∃ z6 : Zone, ∃ y8 : List Int, ∃ y1 : Int, Zone.le z5 z6 ∧ Fr a 53 [(0, .slice e2 y8.length q1), (1, vI y6), (2, vI y7), (3, .func (.func 145) #[] #[pB b1 0, pB b2 0, pB b3 0]), (8, vI y1)] ∧ St z6 (ownS Ty.int 3 e1 q1 y21 :: ownS Ty.int 3 e2 q1 y8 :: box b3 [vI y5] 3 :: box b2 [.slice o_x1 x1.length c_x1] 53 :: box b1 [vI x0] 3 :: L) w ∧ y8.length = y27.length ∧ (F127_l4 fuel (F127_l3 fuel x0 x1 y5 y21 y15 y22 n8) x0 x1 y5 y6 y7 n y8 y1) = some r) fuel ⟨z5, y25, (w64 (y6 + (1 : Int))), zr, hf53.to, hS17, hl5, hr21⟩ ?_
      rintro n14 a45 ww16 ⟨z6, y8, y1, k16, hf55, hS18, hl6, hr22⟩
      cases n14 with
      | zero => cases hr22
      | succ n2 =>
      refine c_seq ?_
      refine c_sq [] [0, 1, 2, 3, 8, 14] hf55 .nil fun a46 hf56 => ?_
      refine c_if (decide (y1 < y7)) hf56 (fun hb10 => ?_) (fun hb10 => ?_)
      ·have hr23 := cond_t hb10 hr22
       refine c_skip ?_
       refine n_then ?_
       refine c_seq ?_
       refine c_block 1 ?_
       refine c_sq [] [0, 1, 2, 3, 8, 9] hf56 .nil fun a47 hf57 => ?_
       refine c_block 2 ?_
       refine c_loop (fun n a w => ∃ z7 : Zone, ∃ y2 : List Int, ∃ y3 : Int, Zone.le z6 z7 ∧ Fr a 53 [(0, .slice e2 y2.length q1), (1, vI y6), (2, vI y7), (3, .func (.func 145) #[] #[pB b1 0, pB b2 0, pB b3 0]), (8, vI y1), (9, vI y3)] ∧ St z7 (ownS Ty.int 3 e1 q1 y21 :: ownS Ty.int 3 e2 q1 y2 :: box b3 [vI y5] 3 :: box b2 [.slice o_x1 x1.length c_x1] 53 :: box b1 [vI x0] 3 :: L) w ∧ y2.length = y27.length ∧ (F127_l5 fuel (F127_l4 fuel (F127_l3 fuel x0 x1 y5 y21 y15 y22 n8) x0 x1 y5 y6 y7 n2) x0 x1 y5 y6 y1 n y2 y3) = some r) fuel ⟨z6, y8, y1, zr, hf57.to, hS18, hl6, hr23⟩ ?_
       rintro n15 a48 ww17 ⟨z7, y2, y3, k17, hf59, hS19, hl7, hr24⟩
       cases n15 with
       | zero => cases hr24
       | succ n1 =>
       refine c_seq ?_
       refine c_mid (fun a w => ∃ z8 : Zone, ∃ y4 : Bool, Zone.le z7 z8 ∧ Fr a 53 [(0, .slice e2 y2.length q1), (1, vI y6), (2, vI y7), (3, .func (.func 145) #[] #[pB b1 0, pB b2 0, pB b3 0]), (8, vI y1), (9, vI y3), (34, .bool y4)] ∧ St z8 (ownS Ty.int 3 e1 q1 y21 :: ownS Ty.int 3 e2 q1 y2 :: box b3 [vI y5] 3 :: box b2 [.slice o_x1 x1.length c_x1] 53 :: box b1 [vI x0] 3 :: L) w ∧ (F127_j2 (F127_l4 fuel (F127_l3 fuel x0 x1 y5 y21 y15 y22 n8) x0 x1 y5 y6 y7 n2) (F127_l5 fuel (F127_l4 fuel (F127_l3 fuel x0 x1 y5 y21 y15 y22 n8) x0 x1 y5 y6 y7 n2) x0 x1 y5 y6 y1 n1) y1 y2 y3 y4) = some r) ?_ ?_
       ·skip
        have hS20 := hS19.drew
        refine c_regD [(0, true), (1, true), (2, true), (3, true), (4, true), (5, true), (6, true), (7, true), (8, true), (9, true), (10, true), (11, true), (12, true), (13, true), (14, false), (15, true), (16, true)] [14] (fun x => x = ww17.drew) rfl ?_
        refine c_E 4 [] [0, 1, 2, 3, 8, 9, 21] hf59 .nil .nil fun a49 hf60 => ?_
        rcases bft (decide (y3 > y6)) with hb11 | hb11
        ·have hr25 := cond_t hb11 hr24
         have hf61 := hf60.lit 21 hb11
         obtain ⟨p5, hp2012453, hr26⟩ := bind_some hr25
         obtain ⟨ad6, ho6, hb12, cc6, hc6, hk6⟩ := hS20.ownGet (j := 1) rfl hp2012453
         subst hc6
         obtain ⟨p6, hp2012462, hr27⟩ := bind_some hr26
         obtain ⟨ad7, ho7, hb13, cc7, hc7, hk7⟩ := hS20.ownGet (j := 1) rfl hp2012462
         subst hc7
         refine c_E 10 [.pointer (some ad6), vI p5, .pointer (some ad7), vI p6] [0, 1, 2, 3, 8, 9, 21, 22, 26, 31] hf61 (.prop ho6 (.prop hb12 (.cell (hk6 0 _ rfl) (.prop ho7 (.prop hb13 (.cell (hk7 0 _ rfl) .nil)))))) .nil fun a50 hf62 => ?_
         refine p_inl (i := 14) (d := some 32) (f := 145) (args := #[vI p5, vI p6, pB b1 0, pB b2 0, pB b3 0]) (N' := 25) hf62 (by kernel_rfl) Try.func145 (by kernel_rfl) fun a51 hf63 => ?_
         refine c_sq [] [0, 1, 2, 3, 4] hf63 .nil fun a52 hf64 => ?_
         refine c_seq ?_
         have hS21 := hS20.drew
         refine c_regD [(0, true), (1, true), (2, true), (3, true), (4, true), (5, true), (6, true), (7, true), (8, true), (9, true), (10, true), (11, true), (12, true), (13, true), (14, true), (15, true), (16, false), (17, true)] [16] (fun x => x = (ww17.drew).drew) rfl ?_
         obtain ⟨p7, hp2012526, hr28⟩ := bind_some hr27
         obtain ⟨ad8, ho8, hb14, cc8, hc8, hk8⟩ := SliceR.getI (SliceR.mono (zt (zt (zt (zt (zt k11 k12) k14) k15) k16) k17) hx_x1) hp2012526
         subst hc8
         obtain ⟨u2, hd6, hr29⟩ := bind_some hr28
         obtain ⟨p8, hp2012538, hr30⟩ := bind_some hr29
         obtain ⟨ad9, ho9, hb15, cc9, hc9, hk9⟩ := SliceR.getI (SliceR.mono (zt (zt (zt (zt (zt k11 k12) k14) k15) k16) k17) hx_x1) hp2012538
         subst hc9
         obtain ⟨u3, hd7, hr31⟩ := bind_some hr30
         refine c_E 16 [vI x0, .slice o_x1 x1.length c_x1, .pointer (some ad8), vI p7, vI y5, vI x0, .slice o_x1 x1.length c_x1, .pointer (some ad9), vI p8, vI y5] [15, 23] hf64 (.cell (hS21.box (i := 4) rfl (j := 0) rfl) (.cell (hS21.box (i := 3) rfl (j := 0) rfl) (.prop ho8 (.prop hb14 (.cell (hS21.cell (hk8 0 _ rfl)) (.cell (hS21.box (i := 2) rfl (j := 0) rfl) (.prop (nz_spec hd6) (.cell (hS21.box (i := 4) rfl (j := 0) rfl) (.cell (hS21.box (i := 3) rfl (j := 0) rfl) (.prop ho9 (.prop hb15 (.cell (hS21.cell (hk9 0 _ rfl)) (.cell (hS21.box (i := 2) rfl (j := 0) rfl) (.prop (nz_spec hd7) .nil)))))))))))))) .nil fun a53 hf65 => ?_
         obtain ⟨r1, hd8, hr32⟩ := bind_some hr31
         refine c_call hf65 (f123_ok fuel (Int.tmod (w64 (x0 * p7)) y5) (Int.tmod (w64 (x0 * p8)) y5) r1 hd8 z7 _ _ hS21 ) ?_
         rintro v1 ww18 a54 ⟨rfl, hS22⟩ hf66
         refine ⟨fun e => absurd e (by decide), ?_⟩
         refine p_qP 1 [] [(7, vI r1)] [] hf66 (by kernel_rfl) (fun _ => .nil) fun a55 hf67 => ?_
         refine c_dt ?_
         refine c_ret ?_
         refine c_rt [] (vI r1) hf67 .nil ?_
         refine ⟨_, rfl, fun a56 hf68 => ?_⟩
         refine ⟨fun e => absurd e (by decide), ?_⟩
         refine p_qP 2 [] [(0, .slice e2 y2.length q1), (1, vI y6), (2, vI y7), (3, .func (.func 145) #[] #[pB b1 0, pB b2 0, pB b3 0]), (8, vI y1), (9, vI y3), (34, .bool (decide (r1 < (0 : Int))))] [] hf68 (by kernel_rfl) (fun _ => .nil) fun a57 hf69 => ?_
         refine c_dt ?_
         exact ⟨z7, (decide (r1 < (0 : Int))), zr, hf69.to, hS22, hr32⟩
        ·have hr33 := cond_f hb11 hr24
         have hf71 := hf60.lit 21 hb11
         refine c_E 10 [] [0, 1, 2, 3, 8, 9, 21, 22, 26, 31] hf71 .nil .nil fun a58 hf72 => ?_
         refine p_qL 1 [] [(0, .slice e2 y2.length q1), (1, vI y6), (2, vI y7), (3, .func (.func 145) #[] #[pB b1 0, pB b2 0, pB b3 0]), (8, vI y1), (9, vI y3), (21, .bool false), (32, undef)] [] hf72 (by kernel_rfl) .nil fun a59 hf73 => ?_
         refine c_tE [] [0, 1, 2, 3, 8, 9, 34] hf73 .nil .nil fun a60 hf74 => ?_
         exact ⟨z7, false, zr, hf74.to, hS20, hr33⟩
       ·rintro a61 ww19 ⟨z8, y4, k18, hf76, hS23, hr34⟩
        refine c_if y4 hf76 (fun hb16 => ?_) (fun hb16 => ?_)
        ·have hr35 := cond_t hb16 hr34
         refine c_skip ?_
         refine n_then ?_
         refine c_seq ?_
         refine c_block 3 ?_
         have hS24 := hS23.drew
         refine c_regD [(0, true), (1, true), (2, true), (3, true), (4, true), (5, true), (6, true), (7, true), (8, true), (9, true), (10, true), (11, true), (12, true), (13, true), (14, true), (15, false), (16, true), (17, false)] [15, 17] (fun x => x = ww19.drew) rfl ?_
         obtain ⟨p1, hp2012644, hr36⟩ := bind_some hr35
         obtain ⟨ad10, ho10, hb17, cc10, hc10, hk10⟩ := hS24.ownGet (j := 1) rfl hp2012644
         subst hc10
         obtain ⟨p2, hp2012653, hr37⟩ := bind_some hr36
         obtain ⟨ad11, ho11, hb18, cc11, hc11, hk11⟩ := hS24.ownGet (j := 1) rfl hp2012653
         subst hc11
         obtain ⟨p3, hp2012662, hr38⟩ := bind_some hr37
         obtain ⟨ad12, ho12, hb19, cc12, hc12, hk12⟩ := hS24.ownGet (j := 1) rfl hp2012662
         subst hc12
         refine c_E 15 [.pointer (some ad10), vI p1, .pointer (some ad11), vI p2, .pointer (some ad12)] [0, 1, 2, 3, 8, 9, 39, 41, 46, 50, 51] hf76 (.prop ho10 (.prop hb17 (.cell (hk10 0 _ rfl) (.prop ho11 (.prop hb18 (.cell (hk11 0 _ rfl) (.prop ho12 (.prop hb19 .nil)))))))) .nil fun a62 hf77 => ?_
         obtain ⟨d1, hd9, hr39⟩ := bind_some hr38
         have hl8 := setI_len hd9
         refine p_setOwnI (i := 15) (j := 1) (ad := ad12) (ix := y3) (x' := p1) hS24 hf77 rfl ho12 (by kernel_rfl) hd9 fun ww20 a63 hS25 hf78 => ?_
         have hf79 := Fr.conv (fl' := [(0, .slice e2 d1.length q1), (1, vI y6), (2, vI y7), (3, .func (.func 145) #[] #[pB b1 0, pB b2 0, pB b3 0]), (8, vI y1), (9, vI y3), (39, .slice e2 d1.length q1), (41, vI (w64 (y3 - (1 : Int)))), (46, vI p1), (50, vI p2), (51, .pointer (some (ad12.add (Int.toNat y3 * 1))))]) hf78 (by rw [hl8] <;> kernel_rfl)
         refine ⟨fun e => absurd e (by decide), ?_⟩
         obtain ⟨p4, hp2012682, hr40⟩ := bind_some hr39
         obtain ⟨ad13, ho13, hb20, cc13, hc13, hk13⟩ := hS25.ownGet (j := 1) rfl hp2012682
         subst hc13
         refine p_qP 1 [.pointer (some ad13)] [(0, .slice e2 d1.length q1), (1, vI y6), (2, vI y7), (3, .func (.func 145) #[] #[pB b1 0, pB b2 0, pB b3 0]), (8, vI y1), (9, vI y3), (50, vI p2), (52, .pointer (some (ad13.add (Int.toNat (w64 (y3 - (1 : Int))) * 1))))] [.prop (e2 = some ad13), .prop (0 ≤ (w64 (y3 - (1 : Int))) ∧ (w64 (y3 - (1 : Int))) < (d1.length : Nat))] hf79 (by kernel_rfl) (fun _ => (.prop ho13 (.prop hb20 .nil))) fun a64 hf80 => ?_
         obtain ⟨d2, hd10, hr41⟩ := bind_some hr40
         have hl9 := setI_len hd10
         refine p_setOwnI (i := 17) (j := 1) (ad := ad13) (ix := (w64 (y3 - (1 : Int)))) (x' := p2) hS25 hf80 rfl ho13 (by kernel_rfl) hd10 fun ww21 a65 hS26 hf81 => ?_
         have hf82 := Fr.conv (fl' := [(0, .slice e2 d2.length q1), (1, vI y6), (2, vI y7), (3, .func (.func 145) #[] #[pB b1 0, pB b2 0, pB b3 0]), (8, vI y1), (9, vI y3), (50, vI p2), (52, .pointer (some (ad13.add (Int.toNat (w64 (y3 - (1 : Int))) * 1))))]) hf81 (by rw [hl9] <;> kernel_rfl)
         refine ⟨fun e => absurd e (by decide), ?_⟩
         refine c_done ?_
         refine n_block ?_
         refine n_then ?_
         refine c_q [] [0, 1, 2, 3, 8, 9] hf82 .nil fun a66 hf83 => ?_
         refine n_then ?_
         exact ⟨n1, Nat.lt_succ_self n1, z8, d2, (w64 (y3 - (1 : Int))), (zt k17 k18), hf83.to, hS26, (hl9.symm.trans (hl8.symm.trans hl7)), hr41⟩
        ·have hr42 := cond_f hb16 hr34
         refine c_exit 2 ?_
         refine x_then ?_
         refine x_then ?_
         refine x_block ?_
         refine n_block ?_
         refine n_then ?_
         refine c_q [] [0, 1, 2, 3, 8] hf76 .nil fun a67 hf85 => ?_
         refine n_then ?_
         exact ⟨n2, Nat.lt_succ_self n2, z8, y2, (w64 (y1 + (1 : Int))), (zt (zt k16 k17) k18), hf85.to, hS23, hl7, hr42⟩
      ·have hr43 := cond_f hb10 hr22
       refine c_exit 0 ?_
       refine x_then ?_
       refine x_then ?_
       refine x_block ?_
       refine c_fall [] (.tuple #[]) hf56 .nil ?_
       refine ⟨_, rfl, fun a68 hf87 => ?_⟩
       have hl10 : y8.length = y25.length := Eq.trans (b := y27.length) hl6 (Eq.symm hl5)
       have hf88 := Fr.conv (fl' := [(18, .tuple #[]), (0, .slice e2 y8.length q1), (1, vI (y15.length : Int)), (2, .func (.func 145) #[] #[pB b1 0, pB b2 0, pB b3 0]), (6, vI 20), (8, vI y7), (14, .slice e2 y8.length q1), (15, vI y6), (16, vI y7), (17, .func (.func 145) #[] #[pB b1 0, pB b2 0, pB b3 0])]) hf87 (by rw [hl10] <;> kernel_rfl)
       refine ⟨fun _ => trivial, ?_⟩
       refine c_dt ?_
       refine c_sq [] [0, 1, 2, 6, 7, 8] hf88 .nil fun a69 hf89 => ?_
       refine c_q [] [0, 1, 2, 6, 7, 8] hf89 .nil fun a70 hf90 => ?_
       refine n_block ?_
       refine n_then ?_
       exact ⟨n8, Nat.lt_succ_self n8, z6, y8, y7, (w64 (y7 + (20 : Int))), (zt k15 k16), hf90.to, hS18, hl6, hr43⟩
     ·have hr44 := cond_f hb9 hr20
      refine c_exit 0 ?_
      refine x_then ?_
      refine x_then ?_
      refine x_block ?_
      refine n_then ?_
      refine c_sr ?_
      refine c_n 4 [] [0, 1, 2, 6, 23, 24, 25, 26] hf50 .nil fun a71 hf92 => ?_
      refine p_inl (i := 4) (d := some 27) (f := 155) (args := #[.slice e2 y25.length q1, vI y6, vI (y15.length : Int), .func (.func 145) #[] #[pB b1 0, pB b2 0, pB b3 0]]) (N' := 53) hf92 (by kernel_rfl) Try.func155 (by kernel_rfl) fun a72 hf93 => ?_
      refine c_sq [] [0, 1, 2, 3, 8] hf93 .nil fun a73 hf94 => ?_
      refine c_block 0 ?_
      refine c_loop (fun n a w => ∃ z9 : Zone, ∃ y24 : List Int, ∃ y9 : Int, Zone.le z5 z9 ∧ Fr a 53 [(0, .slice e2 y24.length q1), (1, vI y6), (2, vI (y15.length : Int)), (3, .func (.func 145) #[] #[pB b1 0, pB b2 0, pB b3 0]), (8, vI y9)] ∧ St z9 (ownS Ty.int 3 e1 q1 y21 :: ownS Ty.int 3 e2 q1 y24 :: box b3 [vI y5] 3 :: box b2 [.slice o_x1 x1.length c_x1] 53 :: box b1 [vI x0] 3 :: L) w ∧ y24.length = y27.length ∧ (F127_l6 fuel x0 x1 y5 y21 y15 y22 y6 n y24 y9) = some r) fuel ⟨z5, y25, (w64 (y6 + (1 : Int))), zr, hf94.to, hS17, hl5, hr44⟩ ?_
      rintro n16 a74 ww22 ⟨z9, y24, y9, k19, hf96, hS27, hl11, hr45⟩
      cases n16 with
      | zero => cases hr45
      | succ n7 =>
      refine c_seq ?_
      refine c_sq [] [0, 1, 2, 3, 8, 14] hf96 .nil fun a75 hf97 => ?_
      refine c_if (decide (y9 < (y15.length : Int))) hf97 (fun hb21 => ?_) (fun hb21 => ?_)
      ·have hr46 := cond_t hb21 hr45
       refine c_skip ?_
       refine n_then ?_
       refine c_seq ?_
       refine c_block 1 ?_
       refine c_sq [] [0, 1, 2, 3, 8, 9] hf97 .nil fun a76 hf98 => ?_
       refine c_block 2 ?_
       refine c_loop (fun n a w => ∃ z10 : Zone, ∃ y10 : List Int, ∃ y11 : Int, Zone.le z9 z10 ∧ Fr a 53 [(0, .slice e2 y10.length q1), (1, vI y6), (2, vI (y15.length : Int)), (3, .func (.func 145) #[] #[pB b1 0, pB b2 0, pB b3 0]), (8, vI y9), (9, vI y11)] ∧ St z10 (ownS Ty.int 3 e1 q1 y21 :: ownS Ty.int 3 e2 q1 y10 :: box b3 [vI y5] 3 :: box b2 [.slice o_x1 x1.length c_x1] 53 :: box b1 [vI x0] 3 :: L) w ∧ y10.length = y27.length ∧ (F127_l7 fuel (F127_l6 fuel x0 x1 y5 y21 y15 y22 y6 n7) x0 x1 y5 y6 y9 n y10 y11) = some r) fuel ⟨z9, y24, y9, zr, hf98.to, hS27, hl11, hr46⟩ ?_
       rintro n17 a77 ww23 ⟨z10, y10, y11, k20, hf100, hS28, hl12, hr47⟩
       cases n17 with
       | zero => cases hr47
       | succ n3 =>
       refine c_seq ?_
       refine c_mid (fun a w => ∃ z11 : Zone, ∃ y12 : Bool, Zone.le z10 z11 ∧ Fr a 53 [(0, .slice e2 y10.length q1), (1, vI y6), (2, vI (y15.length : Int)), (3, .func (.func 145) #[] #[pB b1 0, pB b2 0, pB b3 0]), (8, vI y9), (9, vI y11), (34, .bool y12)] ∧ St z11 (ownS Ty.int 3 e1 q1 y21 :: ownS Ty.int 3 e2 q1 y10 :: box b3 [vI y5] 3 :: box b2 [.slice o_x1 x1.length c_x1] 53 :: box b1 [vI x0] 3 :: L) w ∧ (F127_j3 (F127_l6 fuel x0 x1 y5 y21 y15 y22 y6 n7) (F127_l7 fuel (F127_l6 fuel x0 x1 y5 y21 y15 y22 y6 n7) x0 x1 y5 y6 y9 n3) y9 y10 y11 y12) = some r) ?_ ?_
       ·skip
        have hS29 := hS28.drew
        refine c_regD [(0, true), (1, true), (2, true), (3, true), (4, true), (5, true), (6, true), (7, true), (8, true), (9, true), (10, true), (11, true), (12, true), (13, true), (14, false), (15, true), (16, true)] [14] (fun x => x = ww23.drew) rfl ?_
        refine c_E 4 [] [0, 1, 2, 3, 8, 9, 21] hf100 .nil .nil fun a78 hf101 => ?_
        rcases bft (decide (y11 > y6)) with hb22 | hb22
        ·have hr48 := cond_t hb22 hr47
         have hf102 := hf101.lit 21 hb22
         obtain ⟨p13, hp2072255, hr49⟩ := bind_some hr48
         obtain ⟨ad14, ho14, hb23, cc14, hc14, hk14⟩ := hS29.ownGet (j := 1) rfl hp2072255
         subst hc14
         obtain ⟨p14, hp2072264, hr50⟩ := bind_some hr49
         obtain ⟨ad15, ho15, hb24, cc15, hc15, hk15⟩ := hS29.ownGet (j := 1) rfl hp2072264
         subst hc15
         refine c_E 10 [.pointer (some ad14), vI p13, .pointer (some ad15), vI p14] [0, 1, 2, 3, 8, 9, 21, 22, 26, 31] hf102 (.prop ho14 (.prop hb23 (.cell (hk14 0 _ rfl) (.prop ho15 (.prop hb24 (.cell (hk15 0 _ rfl) .nil)))))) .nil fun a79 hf103 => ?_
         refine p_inl (i := 14) (d := some 32) (f := 145) (args := #[vI p13, vI p14, pB b1 0, pB b2 0, pB b3 0]) (N' := 25) hf103 (by kernel_rfl) Try.func145 (by kernel_rfl) fun a80 hf104 => ?_
         refine c_sq [] [0, 1, 2, 3, 4] hf104 .nil fun a81 hf105 => ?_
         refine c_seq ?_
         have hS30 := hS29.drew
         refine c_regD [(0, true), (1, true), (2, true), (3, true), (4, true), (5, true), (6, true), (7, true), (8, true), (9, true), (10, true), (11, true), (12, true), (13, true), (14, true), (15, true), (16, false), (17, true)] [16] (fun x => x = (ww23.drew).drew) rfl ?_
         obtain ⟨p15, hp2072328, hr51⟩ := bind_some hr50
         obtain ⟨ad16, ho16, hb25, cc16, hc16, hk16⟩ := SliceR.getI (SliceR.mono (zt (zt (zt (zt (zt k11 k12) k14) k15) k19) k20) hx_x1) hp2072328
         subst hc16
         obtain ⟨u4, hd11, hr52⟩ := bind_some hr51
         obtain ⟨p16, hp2072340, hr53⟩ := bind_some hr52
         obtain ⟨ad17, ho17, hb26, cc17, hc17, hk17⟩ := SliceR.getI (SliceR.mono (zt (zt (zt (zt (zt k11 k12) k14) k15) k19) k20) hx_x1) hp2072340
         subst hc17
         obtain ⟨u5, hd12, hr54⟩ := bind_some hr53
         refine c_E 16 [vI x0, .slice o_x1 x1.length c_x1, .pointer (some ad16), vI p15, vI y5, vI x0, .slice o_x1 x1.length c_x1, .pointer (some ad17), vI p16, vI y5] [15, 23] hf105 (.cell (hS30.box (i := 4) rfl (j := 0) rfl) (.cell (hS30.box (i := 3) rfl (j := 0) rfl) (.prop ho16 (.prop hb25 (.cell (hS30.cell (hk16 0 _ rfl)) (.cell (hS30.box (i := 2) rfl (j := 0) rfl) (.prop (nz_spec hd11) (.cell (hS30.box (i := 4) rfl (j := 0) rfl) (.cell (hS30.box (i := 3) rfl (j := 0) rfl) (.prop ho17 (.prop hb26 (.cell (hS30.cell (hk17 0 _ rfl)) (.cell (hS30.box (i := 2) rfl (j := 0) rfl) (.prop (nz_spec hd12) .nil)))))))))))))) .nil fun a82 hf106 => ?_
         obtain ⟨r2, hd13, hr55⟩ := bind_some hr54
         refine c_call hf106 (f123_ok fuel (Int.tmod (w64 (x0 * p15)) y5) (Int.tmod (w64 (x0 * p16)) y5) r2 hd13 z10 _ _ hS30 ) ?_
         rintro v2 ww24 a83 ⟨rfl, hS31⟩ hf107
         refine ⟨fun e => absurd e (by decide), ?_⟩
         refine p_qP 1 [] [(7, vI r2)] [] hf107 (by kernel_rfl) (fun _ => .nil) fun a84 hf108 => ?_
         refine c_dt ?_
         refine c_ret ?_
         refine c_rt [] (vI r2) hf108 .nil ?_
         refine ⟨_, rfl, fun a85 hf109 => ?_⟩
         refine ⟨fun e => absurd e (by decide), ?_⟩
         refine p_qP 2 [] [(0, .slice e2 y10.length q1), (1, vI y6), (2, vI (y15.length : Int)), (3, .func (.func 145) #[] #[pB b1 0, pB b2 0, pB b3 0]), (8, vI y9), (9, vI y11), (34, .bool (decide (r2 < (0 : Int))))] [] hf109 (by kernel_rfl) (fun _ => .nil) fun a86 hf110 => ?_
         refine c_dt ?_
         exact ⟨z10, (decide (r2 < (0 : Int))), zr, hf110.to, hS31, hr55⟩
        ·have hr56 := cond_f hb22 hr47
         have hf112 := hf101.lit 21 hb22
         refine c_E 10 [] [0, 1, 2, 3, 8, 9, 21, 22, 26, 31] hf112 .nil .nil fun a87 hf113 => ?_
         refine p_qL 1 [] [(0, .slice e2 y10.length q1), (1, vI y6), (2, vI (y15.length : Int)), (3, .func (.func 145) #[] #[pB b1 0, pB b2 0, pB b3 0]), (8, vI y9), (9, vI y11), (21, .bool false), (32, undef)] [] hf113 (by kernel_rfl) .nil fun a88 hf114 => ?_
         refine c_tE [] [0, 1, 2, 3, 8, 9, 34] hf114 .nil .nil fun a89 hf115 => ?_
         exact ⟨z10, false, zr, hf115.to, hS29, hr56⟩
       ·rintro a90 ww25 ⟨z11, y12, k21, hf117, hS32, hr57⟩
        refine c_if y12 hf117 (fun hb27 => ?_) (fun hb27 => ?_)
        ·have hr58 := cond_t hb27 hr57
         refine c_skip ?_
         refine n_then ?_
         refine c_seq ?_
         refine c_block 3 ?_
         have hS33 := hS32.drew
         refine c_regD [(0, true), (1, true), (2, true), (3, true), (4, true), (5, true), (6, true), (7, true), (8, true), (9, true), (10, true), (11, true), (12, true), (13, true), (14, true), (15, false), (16, true), (17, false)] [15, 17] (fun x => x = ww25.drew) rfl ?_
         obtain ⟨p9, hp2072446, hr59⟩ := bind_some hr58
         obtain ⟨ad18, ho18, hb28, cc18, hc18, hk18⟩ := hS33.ownGet (j := 1) rfl hp2072446
         subst hc18
         obtain ⟨p10, hp2072455, hr60⟩ := bind_some hr59
         obtain ⟨ad19, ho19, hb29, cc19, hc19, hk19⟩ := hS33.ownGet (j := 1) rfl hp2072455
         subst hc19
         obtain ⟨p11, hp2072464, hr61⟩ := bind_some hr60
         obtain ⟨ad20, ho20, hb30, cc20, hc20, hk20⟩ := hS33.ownGet (j := 1) rfl hp2072464
         subst hc20
         refine c_E 15 [.pointer (some ad18), vI p9, .pointer (some ad19), vI p10, .pointer (some ad20)] [0, 1, 2, 3, 8, 9, 39, 41, 46, 50, 51] hf117 (.prop ho18 (.prop hb28 (.cell (hk18 0 _ rfl) (.prop ho19 (.prop hb29 (.cell (hk19 0 _ rfl) (.prop ho20 (.prop hb30 .nil)))))))) .nil fun a91 hf118 => ?_
         obtain ⟨d3, hd14, hr62⟩ := bind_some hr61
         have hl13 := setI_len hd14
         refine p_setOwnI (i := 15) (j := 1) (ad := ad20) (ix := y11) (x' := p9) hS33 hf118 rfl ho20 (by kernel_rfl) hd14 fun ww26 a92 hS34 hf119 => ?_
         have hf120 := Fr.conv (fl' := [(0, .slice e2 d3.length q1), (1, vI y6), (2, vI (y15.length : Int)), (3, .func (.func 145) #[] #[pB b1 0, pB b2 0, pB b3 0]), (8, vI y9), (9, vI y11), (39, .slice e2 d3.length q1), (41, vI (w64 (y11 - (1 : Int)))), (46, vI p9), (50, vI p10), (51, .pointer (some (ad20.add (Int.toNat y11 * 1))))]) hf119 (by rw [hl13] <;> kernel_rfl)
         refine ⟨fun e => absurd e (by decide), ?_⟩
         obtain ⟨p12, hp2072484, hr63⟩ := bind_some hr62
         obtain ⟨ad21, ho21, hb31, cc21, hc21, hk21⟩ := hS34.ownGet (j := 1) rfl hp2072484
         subst hc21
         refine p_qP 1 [.pointer (some ad21)] [(0, .slice e2 d3.length q1), (1, vI y6), (2, vI (y15.length : Int)), (3, .func (.func 145) #[] #[pB b1 0, pB b2 0, pB b3 0]), (8, vI y9), (9, vI y11), (50, vI p10), (52, .pointer (some (ad21.add (Int.toNat (w64 (y11 - (1 : Int))) * 1))))] [.prop (e2 = some ad21), .prop (0 ≤ (w64 (y11 - (1 : Int))) ∧ (w64 (y11 - (1 : Int))) < (d3.length : Nat))] hf120 (by kernel_rfl) (fun _ => (.prop ho21 (.prop hb31 .nil))) fun a93 hf121 => ?_
         obtain ⟨d4, hd15, hr64⟩ := bind_some hr63
         have hl14 := setI_len hd15
         refine p_setOwnI (i := 17) (j := 1) (ad := ad21) (ix := (w64 (y11 - (1 : Int)))) (x' := p10) hS34 hf121 rfl ho21 (by kernel_rfl) hd15 fun ww27 a94 hS35 hf122 => ?_
         have hf123 := Fr.conv (fl' := [(0, .slice e2 d4.length q1), (1, vI y6), (2, vI (y15.length : Int)), (3, .func (.func 145) #[] #[pB b1 0, pB b2 0, pB b3 0]), (8, vI y9), (9, vI y11), (50, vI p10), (52, .pointer (some (ad21.add (Int.toNat (w64 (y11 - (1 : Int))) * 1))))]) hf122 (by rw [hl14] <;> kernel_rfl)
         refine ⟨fun e => absurd e (by decide), ?_⟩
         refine c_done ?_
         refine n_block ?_
         refine n_then ?_
         refine c_q [] [0, 1, 2, 3, 8, 9] hf123 .nil fun a95 hf124 => ?_
         refine n_then ?_
         exact ⟨n3, Nat.lt_succ_self n3, z11, d4, (w64 (y11 - (1 : Int))), (zt k20 k21), hf124.to, hS35, (hl14.symm.trans (hl13.symm.trans hl12)), hr64⟩
        ·have hr65 := cond_f hb27 hr57
         refine c_exit 2 ?_
         refine x_then ?_
         refine x_then ?_
         refine x_block ?_
         refine n_block ?_
         refine n_then ?_
         refine c_q [] [0, 1, 2, 3, 8] hf117 .nil fun a96 hf126 => ?_
         refine n_then ?_
         exact ⟨n7, Nat.lt_succ_self n7, z11, y10, (w64 (y9 + (1 : Int))), (zt (zt k19 k20) k21), hf126.to, hS32, hl12, hr65⟩
      ·have hr66 := cond_f hb21 hr45
       refine c_exit 0 ?_
       refine x_then ?_
       refine x_then ?_
       refine x_block ?_
       refine c_fall [] (.tuple #[]) hf97 .nil ?_
       refine ⟨_, rfl, fun a97 hf128 => ?_⟩
       have hl15 : y24.length = y25.length := Eq.trans (b := y27.length) hl11 (Eq.symm hl5)
       have hf129 := Fr.conv (fl' := [(27, .tuple #[]), (0, .slice e2 y24.length q1), (1, vI (y15.length : Int)), (2, .func (.func 145) #[] #[pB b1 0, pB b2 0, pB b3 0]), (6, vI 20), (23, .slice e2 y24.length q1), (24, vI y6), (25, vI (y15.length : Int)), (26, .func (.func 145) #[] #[pB b1 0, pB b2 0, pB b3 0])]) hf128 (by rw [hl15] <;> kernel_rfl)
       refine ⟨fun _ => trivial, ?_⟩
       refine c_dt ?_
       refine c_block 2 ?_
       refine c_loop (fun n a w => ∃ z12 : Zone, ∃ y23 : List Int, ∃ y13 : Int, Zone.le z9 z12 ∧ Fr a 63 [(0, .slice e2 y23.length q1), (1, vI (y15.length : Int)), (2, .func (.func 145) #[] #[pB b1 0, pB b2 0, pB b3 0]), (6, vI y13)] ∧ St z12 (ownS Ty.int 3 e1 q1 y21 :: ownS Ty.int 3 e2 q1 y23 :: box b3 [vI y5] 3 :: box b2 [.slice o_x1 x1.length c_x1] 53 :: box b1 [vI x0] 3 :: L) w ∧ y23.length = y27.length ∧ (F127_l8 fuel x0 x1 y5 y21 y15 y22 n y23 y13) = some r) fuel ⟨z9, y24, 20, zr, hf129.to, hS27, hl11, hr66⟩ ?_
       rintro n18 a98 ww28 ⟨z12, y23, y13, k22, hf131, hS36, hl16, hr67⟩
       cases n18 with
       | zero => cases hr67
       | succ n6 =>
       refine c_seq ?_
       refine c_sq [] [0, 1, 2, 6, 30] hf131 .nil fun a99 hf132 => ?_
       refine c_if (decide (y13 < (y15.length : Int))) hf132 (fun hb32 => ?_) (fun hb32 => ?_)
       ·have hr68 := cond_t hb32 hr67
        refine c_skip ?_
        refine n_then ?_
        refine c_block 3 ?_
        refine c_sq [] [0, 1, 2, 6, 7, 8] hf132 .nil fun a100 hf133 => ?_
        refine c_seq ?_
        refine c_block 4 ?_
        refine c_loop (fun n a w => ∃ z13 : Zone, ∃ y16 : List Int, ∃ y17 : Int, ∃ y18 : Int, Zone.le z12 z13 ∧ Fr a 63 [(0, .slice e2 y16.length q1), (1, vI (y15.length : Int)), (2, .func (.func 145) #[] #[pB b1 0, pB b2 0, pB b3 0]), (6, vI y13), (7, vI y17), (8, vI y18)] ∧ St z13 (ownS Ty.int 3 e1 q1 y21 :: ownS Ty.int 3 e2 q1 y16 :: box b3 [vI y5] 3 :: box b2 [.slice o_x1 x1.length c_x1] 53 :: box b1 [vI x0] 3 :: L) w ∧ y16.length = y27.length ∧ (F127_l9 fuel (F127_l8 fuel x0 x1 y5 y21 y15 y22 n6) x0 x1 y5 y15 y13 n y16 y17 y18) = some r) fuel ⟨z12, y23, 0, (w64 ((2 : Int) * y13)), zr, hf133.to, hS36, hl16, hr68⟩ ?_
        rintro n19 a101 ww29 ⟨z13, y16, y17, y18, k23, hf135, hS37, hl17, hr69⟩
        cases n19 with
        | zero => cases hr69
        | succ n4 =>
        refine c_seq ?_
        refine c_sq [] [0, 1, 2, 6, 7, 8, 35] hf135 .nil fun a102 hf136 => ?_
        refine c_if (decide (y18 ≤ (y15.length : Int))) hf136 (fun hb33 => ?_) (fun hb33 => ?_)
        ·have hr70 := cond_t hb33 hr69
         refine c_skip ?_
         refine n_then ?_
         refine c_block 5 ?_
         refine c_sr ?_
         refine c_n 7 [] [0, 1, 2, 6, 8, 36, 37, 40, 41, 42] hf136 .nil fun a103 hf137 => ?_
         obtain ⟨r3, hd16, hr71⟩ := bind_some hr70
         refine c_call hf137 (f156_n fuel x0 x1 y5 fuel y16 y17 (w64 (y17 + y13)) y18 r3 hd16 _ _ _ hS37 1 4 3 2 _ _ _ _ _ _ _ (by decide) rfl rfl rfl rfl (SliceR.mono (zt (zt (zt (zt (zt (zt k11 k12) k14) k15) k19) k22) k23) hx_x1)) ?_
         rintro v3 ww30 a104 ⟨z14, k24, rfl, hS38, hl18⟩ hf138
         have hf139 := Fr.conv (fl' := [(43, .tuple #[]), (0, .slice e2 r3.length q1), (1, vI (y15.length : Int)), (2, .func (.func 145) #[] #[pB b1 0, pB b2 0, pB b3 0]), (6, vI y13), (8, vI y18), (36, .slice e2 r3.length q1), (37, vI y17), (40, vI (w64 (y17 + y13))), (41, vI y18), (42, .func (.func 145) #[] #[pB b1 0, pB b2 0, pB b3 0])]) hf138 (by rw [hl18] <;> kernel_rfl)
         refine ⟨fun _ => trivial, ?_⟩
         refine c_dt ?_
         refine c_sq [] [0, 1, 2, 6, 7, 8] hf139 .nil fun a105 hf140 => ?_
         refine c_q [] [0, 1, 2, 6, 7, 8] hf140 .nil fun a106 hf141 => ?_
         refine n_block ?_
         refine n_then ?_
         exact ⟨n4, Nat.lt_succ_self n4, z14, r3, y18, (w64 (y18 + (w64 ((2 : Int) * y13)))), (zt k23 k24), hf141.to, hS38, (hl18.symm.trans hl17), hr71⟩
        ·have hr72 := cond_f hb33 hr69
         refine c_exit 4 ?_
         refine x_then ?_
         refine x_then ?_
         refine x_block ?_
         refine n_then ?_
         refine c_mid (fun a w => ∃ z15 : Zone, ∃ y14 : List Int, Zone.le z13 z15 ∧ Fr a 63 [(0, .slice e2 y14.length q1), (1, vI (y15.length : Int)), (2, .func (.func 145) #[] #[pB b1 0, pB b2 0, pB b3 0]), (6, vI y13)] ∧ St z15 (ownS Ty.int 3 e1 q1 y21 :: ownS Ty.int 3 e2 q1 y14 :: box b3 [vI y5] 3 :: box b2 [.slice o_x1 x1.length c_x1] 53 :: box b1 [vI x0] 3 :: L) w ∧ y14.length = y27.length ∧ (F127_j4 (F127_l8 fuel x0 x1 y5 y21 y15 y22 n6) y13 y14) = some r) ?_ ?_
         ·skip
          refine c_sq [] [0, 1, 2, 6, 7, 9] hf136 .nil fun a107 hf143 => ?_
          refine c_sq [] [0, 1, 2, 6, 7, 9, 54] hf143 .nil fun a108 hf144 => ?_
          refine c_if (decide ((w64 (y17 + y13)) < (y15.length : Int))) hf144 (fun hb34 => ?_) (fun hb34 => ?_)
          ·have hr73 := cond_t hb34 hr72
           refine c_reg ?_
           refine c_n 5 [] [0, 1, 2, 6, 55, 56, 57, 58, 59] hf144 .nil fun a109 hf145 => ?_
           obtain ⟨r4, hd17, hr74⟩ := bind_some hr73
           refine c_call hf145 (f156_n fuel x0 x1 y5 fuel y16 y17 (w64 (y17 + y13)) (y15.length : Int) r4 hd17 _ _ _ hS37 1 4 3 2 _ _ _ _ _ _ _ (by decide) rfl rfl rfl rfl (SliceR.mono (zt (zt (zt (zt (zt (zt k11 k12) k14) k15) k19) k22) k23) hx_x1)) ?_
           rintro v4 ww31 a110 ⟨z16, k25, rfl, hS39, hl19⟩ hf146
           have hf147 := Fr.conv (fl' := [(60, .tuple #[]), (0, .slice e2 r4.length q1), (1, vI (y15.length : Int)), (2, .func (.func 145) #[] #[pB b1 0, pB b2 0, pB b3 0]), (6, vI y13), (55, .slice e2 r4.length q1), (56, vI y17), (57, vI (w64 (y17 + y13))), (58, vI (y15.length : Int)), (59, .func (.func 145) #[] #[pB b1 0, pB b2 0, pB b3 0])]) hf146 (by rw [hl19] <;> kernel_rfl)
           refine ⟨fun _ => trivial, ?_⟩
           refine c_dt ?_
           exact ⟨z16, r4, k25, hf147.to, hS39, (hl19.symm.trans hl17), hr74⟩
          ·have hr75 := cond_f hb34 hr72
           refine c_skip ?_
           refine n_then ?_
           exact ⟨z13, y16, zr, hf144.to, hS37, hl17, hr75⟩
         ·rintro a111 ww32 ⟨z15, y14, k26, hf150, hS40, hl20, hr76⟩
          refine c_q [] [0, 1, 2, 6] hf150 .nil fun a112 hf151 => ?_
          refine n_block ?_
          refine n_then ?_
          exact ⟨n6, Nat.lt_succ_self n6, z15, y14, (w64 (y13 * (2 : Int))), (zt (zt k22 k23) k26), hf151.to, hS40, hl20, hr76⟩
       ·have hr77 := cond_f hb32 hr67
        refine c_exit 2 ?_
        refine x_then ?_
        refine x_then ?_
        refine x_block ?_
        refine c_fall [] (.tuple #[]) hf132 .nil ?_
        refine ⟨_, rfl, fun a113 hf153 => ?_⟩
        have hl21 : y23.length = y15.length := Eq.trans (b := y27.length) hl16 (Eq.symm hl2)
        have hf154 := Fr.conv (fl' := [(8, .tuple #[]), (4, .slice e2 y23.length q1), (6, vI (y15.length : Int)), (7, .func (.func 145) #[] #[pB b1 0, pB b2 0, pB b3 0])]) hf153 (by rw [hl21] <;> kernel_rfl)
        refine ⟨fun _ => trivial, ?_⟩
        refine c_done ?_
        refine c_fall [] (.tuple #[]) hf154 .nil ?_
        refine ⟨_, rfl, fun a114 hf155 => ?_⟩
        have hl22 : y23.length = y15.length := Eq.trans (b := y27.length) hl16 (Eq.symm hl2)
        have hf156 := Fr.conv (fl' := [(63, .tuple #[]), (8, .slice e1 y21.length q1), (9, .slice e2 y23.length q1), (10, vI y22), (61, .slice e2 y23.length q1), (62, .func (.func 145) #[] #[pB b1 0, pB b2 0, pB b3 0])]) hf155 (by rw [hl22] <;> kernel_rfl)
        refine ⟨fun _ => trivial, ?_⟩
        refine c_dt ?_
        refine c_seq ?_
        obtain ⟨d5, hd18, hr78⟩ := bind_some hr77
        obtain ⟨hv1, hb35, hS41⟩ := hS36.ownSub (j := 1) rfl hd18
        refine c_sq [.slice e2 d5.length q1] [8, 66, 67, 68] hf156 (.prop hv1 (.prop hb35 .nil)) fun a115 hf157 => ?_
        refine c_block 4 ?_
        refine c_loop (fun n a w => ∃ z17 : Zone, ∃ y19 : List Int, ∃ y20 : Int, Zone.le z12 z17 ∧ Fr a 80 [(8, .slice e1 y19.length q1), (66, .slice e2 d5.length q1), (67, vI (d5.length : Int)), (68, vI y20)] ∧ St z17 (ownS Ty.int 3 e1 q1 y19 :: ownS Ty.int 3 e2 q1 d5 :: box b3 [vI y5] 3 :: box b2 [.slice o_x1 x1.length c_x1] 53 :: box b1 [vI x0] 3 :: L) w ∧ y19.length = y27.length ∧ (F127_l10 d5 n y19 y20) = some r) fuel ⟨z12, y21, 0, zr, hf157.to, hS41, hl1, hr78⟩ ?_
        rintro n20 a116 ww33 ⟨z17, y19, y20, k27, hf159, hS42, hl23, hr79⟩
        cases n20 with
        | zero => cases hr79
        | succ n5 =>
        refine c_sq [] [8, 66, 67, 68, 69] hf159 .nil fun a117 hf160 => ?_
        refine c_seq ?_
        refine c_if (decide (y20 < (d5.length : Int))) hf160 (fun hb36 => ?_) (fun hb36 => ?_)
        ·have hr80 := cond_t hb36 hr79
         refine c_skip ?_
         refine n_then ?_
         refine c_seq ?_
         refine c_block 5 ?_
         obtain ⟨p17, hp2074898, hr81⟩ := bind_some hr80
         obtain ⟨ad22, ho22, hb37, cc22, hc22, hk22⟩ := hS42.ownGet (j := 1) rfl hp2074898
         subst hc22
         refine c_sq [.pointer (some ad22), vI p17] [8, 14, 66, 67, 68] hf160 (.prop ho22 (.prop hb37 (.cell (hk22 0 _ rfl) .nil))) fun a118 hf161 => ?_
         refine c_reg ?_
         obtain ⟨p18, hp2074909, hr82⟩ := bind_some hr81
         obtain ⟨ad23, ho23, hb38, cc23, hc23, hk23⟩ := hS42.ownGet (j := 0) rfl hp2074909
         subst hc23
         obtain ⟨p19, hp2074918, hr83⟩ := bind_some hr82
         obtain ⟨ad24, ho24, hb39, cc24, hc24, hk24⟩ := hS42.ownGet (j := 0) rfl hp2074918
         subst hc24
         refine c_n 6 [.pointer (some ad23), vI p18, .pointer (some ad24)] [8, 66, 67, 68, 76, 77] hf161 (.prop ho23 (.prop hb38 (.cell (hk23 0 _ rfl) (.prop ho24 (.prop hb39 .nil))))) fun a119 hf162 => ?_
         obtain ⟨d6, hd19, hr84⟩ := bind_some hr83
         have hl24 := setI_len hd19
         refine p_setOwnI (i := 6) (j := 0) (ad := ad24) (ix := p17) (x' := (w64 (p18 + (1 : Int)))) hS42 hf162 rfl ho24 (by kernel_rfl) hd19 fun ww34 a120 hS43 hf163 => ?_
         have hf164 := Fr.conv (fl' := [(8, .slice e1 d6.length q1), (66, .slice e2 d5.length q1), (67, vI (d5.length : Int)), (68, vI y20), (76, vI (w64 (p18 + (1 : Int)))), (77, .pointer (some (ad24.add (Int.toNat p17 * 1))))]) hf163 (by rw [hl24] <;> kernel_rfl)
         refine ⟨fun _ => trivial, ?_⟩
         refine c_done ?_
         refine n_block ?_
         refine n_then ?_
         refine c_q [] [8, 66, 67, 68] hf164 .nil fun a121 hf165 => ?_
         refine n_then ?_
         exact ⟨n5, Nat.lt_succ_self n5, z17, d6, (w64 (y20 + (1 : Int))), k27, hf165.to, hS43, (hl24.symm.trans hl23), hr84⟩
        ·have hr85 := cond_f hb36 hr79
         refine c_exit 4 ?_
         refine x_then ?_
         refine x_then ?_
         refine x_block ?_
         refine n_then ?_
         refine c_sq [] [4] hf160 .nil fun a122 hf167 => ?_
         refine c_ret ?_
         obtain ⟨z18, k28, hS44, hx2⟩ := hS42.share (j := 0) rfl
         refine c_rt [] (.slice e1 y19.length q1) hf167 .nil ?_
         obtain rfl := some_eq hr85
         exact ⟨_, rfl, z18, e1, q1, (zt (zt (zt (zt (zt (zt (zt k11 k12) k14) k15) k19) k22) k27) k28), rfl, (St.drop 5 hS44), hx2⟩
end Go.Proofs.Ytlmgjjmighajdaa
