/-
  The walks of functions 42, 111, 115, 54, 55, 120, 116, 57, 58, 59, 105, 119, 60, 62, 63, 64, 65, 66, 67, 68, 15: what the code does is what a plain function computes. No condition.
-/
import Derived.Test.YtlmgjjmighajdaaRC
set_option linter.unusedVariables false
namespace Go.Proofs.Ytlmgjjmighajdaa
open Go.Sl Go.Sx
def F42 (fuel : Nat) (x0_lots : List Lot) (x0_holds : List (List (List Part))) (x1 : Int) : Option (Int × Int) :=
  ((F103 fuel x0_lots x0_holds x1).bind fun r1 => (cond (r1 != (0 : Int)) (some (0, r1)) ((getI x0_holds x1).bind fun p1 => ((F75 fuel p1).bind fun r2 => (some (r2, 0))))))
set_option maxRecDepth 100000 in
theorem f42_ok (fuel : Nat) (x0_lots : List Lot) (x0_holds : List (List (List Part))) (x1 : Int) (r : Int × Int) (hr : F42 fuel x0_lots x0_holds x1 = some r) (h : Zone) (L : List Atom) (w : World) (hS : St h L w) (o_x0_lots : Option Addr) (c_x0_lots : Nat) (hx_x0_lots : SliceR LotT h o_x0_lots c_x0_lots x0_lots) (v0_x0_holds v1_x0_holds v2_x0_holds v3_x0_holds v4_x0_holds v5_x0_holds v6_x0_holds v7_x0_holds v8_x0_holds : Value) (hx_x0_holds : (Ty.arr 9 (Ty.slice (Ty.slice PartT))).rep h [v0_x0_holds, v1_x0_holds, v2_x0_holds, v3_x0_holds, v4_x0_holds, v5_x0_holds, v6_x0_holds, v7_x0_holds, v8_x0_holds] x0_holds) :
    Calls Try.prog 42 #[.agg #[.slice o_x0_lots x0_lots.length c_x0_lots, v0_x0_holds, v1_x0_holds, v2_x0_holds, v3_x0_holds, v4_x0_holds, v5_x0_holds, v6_x0_holds, v7_x0_holds, v8_x0_holds], vI x1] w fun e w' => ∃ v, e = .returned v ∧ (∃ h', Zone.le h h' ∧ v = .tuple #[vI r.1, vI r.2] ∧ St h' L w') := by
 refine calls_intro (N := 18) Try.func42 (by kernel_rfl) fun a hf => ?_
 refine c_sr ?_
 refine c_box [.slice o_x0_lots x0_lots.length c_x0_lots, v0_x0_holds, v1_x0_holds, v2_x0_holds, v3_x0_holds, v4_x0_holds, v5_x0_holds, v6_x0_holds, v7_x0_holds, v8_x0_holds] 26 hS hf fun b1 ww1 a1 hS1 hf1 => ⟨fun _ => trivial, ?_⟩
 refine c_t [] [1, 2] hf1 .nil fun a2 hf2 => ?_
 refine c_seq ?_
 refine c_sr ?_
 refine c_n 2 [.slice o_x0_lots x0_lots.length c_x0_lots, v0_x0_holds, v1_x0_holds, v2_x0_holds, v3_x0_holds, v4_x0_holds, v5_x0_holds, v6_x0_holds, v7_x0_holds, v8_x0_holds] [1, 2, 7, 8] hf2 (.cell (hS1.box (i := 0) rfl (j := 0) rfl) (.cell (hS1.box (i := 0) rfl (j := 1) rfl) (.cell (hS1.box (i := 0) rfl (j := 2) rfl) (.cell (hS1.box (i := 0) rfl (j := 3) rfl) (.cell (hS1.box (i := 0) rfl (j := 4) rfl) (.cell (hS1.box (i := 0) rfl (j := 5) rfl) (.cell (hS1.box (i := 0) rfl (j := 6) rfl) (.cell (hS1.box (i := 0) rfl (j := 7) rfl) (.cell (hS1.box (i := 0) rfl (j := 8) rfl) (.cell (hS1.box (i := 0) rfl (j := 9) rfl) .nil)))))))))) fun a3 hf3 => ?_
 obtain ⟨r1, hd1, hr1⟩ := bind_some hr
 refine c_call hf3 (f103_ok fuel x0_lots x0_holds x1 r1 hd1 h _ _ hS1 o_x0_lots c_x0_lots hx_x0_lots v0_x0_holds v1_x0_holds v2_x0_holds v3_x0_holds v4_x0_holds v5_x0_holds v6_x0_holds v7_x0_holds v8_x0_holds (Ty.mono _ (Zone.le_refl _) hx_x0_holds)) ?_
 rintro v1 ww2 a4 ⟨z1, k1, rfl, hS2⟩ hf4
 refine ⟨fun _ => trivial, ?_⟩
 refine c_t [] [1, 2, 6] hf4 .nil fun a5 hf5 => ?_
 refine c_sq [] [1, 2, 6, 11] hf5 .nil fun a6 hf6 => ?_
 refine c_if (r1 != (0 : Int)) hf6 (fun hb1 => ?_) (fun hb1 => ?_)
 ·have hr2 := cond_t hb1 hr1
  refine c_sq [] [4, 5] hf6 .nil fun a7 hf7 => ?_
  refine c_ret ?_
  refine r_then ?_
  refine c_rt [] (.tuple #[vI 0, vI r1]) hf7 .nil ?_
  obtain rfl := some_eq hr2
  exact ⟨_, rfl, z1, k1, rfl, (St.drop 1 hS2)⟩
 ·have hr3 := cond_f hb1 hr1
  refine c_skip ?_
  refine n_then ?_
  refine c_sr ?_
  obtain ⟨p1, hp61, hr4⟩ := bind_some hr3
  obtain ⟨hb2, _, hv1, e1, q1, hehv65, hx1⟩ := arrGet (Ty.mono _ k1 hx_x0_holds) rfl hp61
  obtain rfl := List.head_eq_of_cons_eq hehv65
  refine c_n 4 [.slice e1 p1.length q1] [16] hf6 (.prop hb2 (.cell ((arrAddr b1 1 x1.toNat) ▸ (hS2.box (i := 0) rfl (getElem?_app_right [.slice o_x0_lots x0_lots.length c_x0_lots] _ _ hv1 []))) .nil)) fun a8 hf8 => ?_
  obtain ⟨r2, hd2, hr5⟩ := bind_some hr4
  refine c_call hf8 (f75_ok fuel p1 r2 hd2 z1 _ _ hS2 e1 q1 hx1) ?_
  rintro v2 ww3 a9 ⟨z2, k2, rfl, hS3⟩ hf9
  refine ⟨fun _ => trivial, ?_⟩
  refine c_t [] [4, 5] hf9 .nil fun a10 hf10 => ?_
  refine c_ret ?_
  refine c_rt [] (.tuple #[vI r2, vI 0]) hf10 .nil ?_
  obtain rfl := some_eq hr5
  exact ⟨_, rfl, z2, (Zone.le_trans k1 k2), rfl, (St.drop 1 hS3)⟩
def F111 (fuel : Nat) (x0_lots : List Lot) (x0_holds : List (List (List Part))) (x1 : Int) : Option (Int) :=
  ((F21 fuel x0_lots x0_holds).bind fun r1 => (cond (r1 != (0 : Int)) (some (r1)) ((F71 fuel x1 1 9).bind fun r2 => (cond (!r2) (some (1)) (some (0))))))
set_option maxRecDepth 100000 in
theorem f111_ok (fuel : Nat) (x0_lots : List Lot) (x0_holds : List (List (List Part))) (x1 : Int) (r : Int) (hr : F111 fuel x0_lots x0_holds x1 = some r) (h : Zone) (L : List Atom) (w : World) (hS : St h L w) (o_x0_lots : Option Addr) (c_x0_lots : Nat) (hx_x0_lots : SliceR LotT h o_x0_lots c_x0_lots x0_lots) (v0_x0_holds v1_x0_holds v2_x0_holds v3_x0_holds v4_x0_holds v5_x0_holds v6_x0_holds v7_x0_holds v8_x0_holds : Value) (hx_x0_holds : (Ty.arr 9 (Ty.slice (Ty.slice PartT))).rep h [v0_x0_holds, v1_x0_holds, v2_x0_holds, v3_x0_holds, v4_x0_holds, v5_x0_holds, v6_x0_holds, v7_x0_holds, v8_x0_holds] x0_holds) :
    Calls Try.prog 111 #[.agg #[.slice o_x0_lots x0_lots.length c_x0_lots, v0_x0_holds, v1_x0_holds, v2_x0_holds, v3_x0_holds, v4_x0_holds, v5_x0_holds, v6_x0_holds, v7_x0_holds, v8_x0_holds], vI x1] w fun e w' => ∃ v, e = .returned v ∧ (∃ h', Zone.le h h' ∧ v = vI r ∧ St h' L w') := by
 refine calls_intro (N := 14) Try.func111 (by kernel_rfl) fun a hf => ?_
 refine c_sr ?_
 refine c_box [.slice o_x0_lots x0_lots.length c_x0_lots, v0_x0_holds, v1_x0_holds, v2_x0_holds, v3_x0_holds, v4_x0_holds, v5_x0_holds, v6_x0_holds, v7_x0_holds, v8_x0_holds] 26 hS hf fun b1 ww1 a1 hS1 hf1 => ⟨fun _ => trivial, ?_⟩
 refine c_t [] [1, 2] hf1 .nil fun a2 hf2 => ?_
 refine c_seq ?_
 refine c_sr ?_
 refine c_n 1 [.slice o_x0_lots x0_lots.length c_x0_lots, v0_x0_holds, v1_x0_holds, v2_x0_holds, v3_x0_holds, v4_x0_holds, v5_x0_holds, v6_x0_holds, v7_x0_holds, v8_x0_holds] [1, 6] hf2 (.cell (hS1.box (i := 0) rfl (j := 0) rfl) (.cell (hS1.box (i := 0) rfl (j := 1) rfl) (.cell (hS1.box (i := 0) rfl (j := 2) rfl) (.cell (hS1.box (i := 0) rfl (j := 3) rfl) (.cell (hS1.box (i := 0) rfl (j := 4) rfl) (.cell (hS1.box (i := 0) rfl (j := 5) rfl) (.cell (hS1.box (i := 0) rfl (j := 6) rfl) (.cell (hS1.box (i := 0) rfl (j := 7) rfl) (.cell (hS1.box (i := 0) rfl (j := 8) rfl) (.cell (hS1.box (i := 0) rfl (j := 9) rfl) .nil)))))))))) fun a3 hf3 => ?_
 obtain ⟨r1, hd1, hr1⟩ := bind_some hr
 refine c_call hf3 (f21_ok fuel x0_lots x0_holds r1 hd1 h _ _ hS1 o_x0_lots c_x0_lots hx_x0_lots v0_x0_holds v1_x0_holds v2_x0_holds v3_x0_holds v4_x0_holds v5_x0_holds v6_x0_holds v7_x0_holds v8_x0_holds (Ty.mono _ (Zone.le_refl _) hx_x0_holds)) ?_
 rintro v1 ww2 a4 ⟨z1, k1, rfl, hS2⟩ hf4
 refine ⟨fun _ => trivial, ?_⟩
 refine c_t [] [1, 5] hf4 .nil fun a5 hf5 => ?_
 refine c_sq [] [1, 5, 9] hf5 .nil fun a6 hf6 => ?_
 refine c_if (r1 != (0 : Int)) hf6 (fun hb1 => ?_) (fun hb1 => ?_)
 ·have hr2 := cond_t hb1 hr1
  refine c_sq [] [4] hf6 .nil fun a7 hf7 => ?_
  refine c_ret ?_
  refine r_then ?_
  refine c_rt [] (vI r1) hf7 .nil ?_
  obtain rfl := some_eq hr2
  exact ⟨_, rfl, z1, k1, rfl, (St.drop 1 hS2)⟩
 ·have hr3 := cond_f hb1 hr1
  refine c_skip ?_
  refine n_then ?_
  refine c_seq ?_
  refine c_sr ?_
  refine c_n 1 [] [11] hf6 .nil fun a8 hf8 => ?_
  obtain ⟨r2, hd2, hr4⟩ := bind_some hr3
  refine c_call hf8 (f71_ok fuel x1 1 9 r2 hd2 z1 _ _ hS2 ) ?_
  rintro v2 ww3 a9 ⟨z2, k2, rfl, hS3⟩ hf9
  refine ⟨fun _ => trivial, ?_⟩
  refine c_t [] [13] hf9 .nil fun a10 hf10 => ?_
  refine c_if (!r2) hf10 (fun hb2 => ?_) (fun hb2 => ?_)
  ·have hr5 := cond_t hb2 hr4
   refine c_sq [] [4] hf10 .nil fun a11 hf11 => ?_
   refine c_ret ?_
   refine r_then ?_
   refine c_rt [] (vI 1) hf11 .nil ?_
   obtain rfl := some_eq hr5
   exact ⟨_, rfl, z2, (Zone.le_trans k1 k2), rfl, (St.drop 1 hS3)⟩
  ·have hr6 := cond_f hb2 hr4
   refine c_skip ?_
   refine n_then ?_
   refine c_sq [] [4] hf10 .nil fun a12 hf12 => ?_
   refine c_ret ?_
   refine c_rt [] (vI 0) hf12 .nil ?_
   obtain rfl := some_eq hr6
   exact ⟨_, rfl, z2, (Zone.le_trans k1 k2), rfl, (St.drop 1 hS3)⟩
def F115 (fuel : Nat) (x0_lots : List Lot) (x0_holds : List (List (List Part))) (x1 : Int) : Option (Int) :=
  ((F74 fuel x0_lots x1).bind fun r1 => ((getI x0_lots r1.1).bind fun p1 => (some (p1.owner))))
set_option maxRecDepth 100000 in
theorem f115_ok (fuel : Nat) (x0_lots : List Lot) (x0_holds : List (List (List Part))) (x1 : Int) (r : Int) (hr : F115 fuel x0_lots x0_holds x1 = some r) (h : Zone) (L : List Atom) (w : World) (hS : St h L w) (o_x0_lots : Option Addr) (c_x0_lots : Nat) (hx_x0_lots : SliceR LotT h o_x0_lots c_x0_lots x0_lots) (v0_x0_holds v1_x0_holds v2_x0_holds v3_x0_holds v4_x0_holds v5_x0_holds v6_x0_holds v7_x0_holds v8_x0_holds : Value) (hx_x0_holds : (Ty.arr 9 (Ty.slice (Ty.slice PartT))).rep h [v0_x0_holds, v1_x0_holds, v2_x0_holds, v3_x0_holds, v4_x0_holds, v5_x0_holds, v6_x0_holds, v7_x0_holds, v8_x0_holds] x0_holds) :
    Calls Try.prog 115 #[.agg #[.slice o_x0_lots x0_lots.length c_x0_lots, v0_x0_holds, v1_x0_holds, v2_x0_holds, v3_x0_holds, v4_x0_holds, v5_x0_holds, v6_x0_holds, v7_x0_holds, v8_x0_holds], vI x1] w fun e w' => ∃ v, e = .returned v ∧ (∃ h', Zone.le h h' ∧ v = vI r ∧ St h' L w') := by
 refine calls_intro (N := 20) Try.func115 (by kernel_rfl) fun a hf => ?_
 refine c_sr ?_
 refine c_box [.slice o_x0_lots x0_lots.length c_x0_lots, v0_x0_holds, v1_x0_holds, v2_x0_holds, v3_x0_holds, v4_x0_holds, v5_x0_holds, v6_x0_holds, v7_x0_holds, v8_x0_holds] 26 hS hf fun b1 ww1 a1 hS1 hf1 => ⟨fun _ => trivial, ?_⟩
 refine c_t [] [1, 2] hf1 .nil fun a2 hf2 => ?_
 refine c_sr ?_
 refine c_n 3 [.slice o_x0_lots x0_lots.length c_x0_lots] [2, 9, 10] hf2 (.cell (hS1.box (i := 0) rfl (j := 0) rfl) .nil) fun a3 hf3 => ?_
 obtain ⟨r1, hd1, hr1⟩ := bind_some hr
 refine c_call hf3 (f74_ok fuel x0_lots x1 r1 hd1 h _ _ hS1 o_x0_lots c_x0_lots hx_x0_lots) ?_
 rintro v1 ww2 a4 ⟨z1, k1, rfl, hS2⟩ hf4
 refine ⟨fun _ => trivial, ?_⟩
 refine c_t [] [2, 5] hf4 .nil fun a5 hf5 => ?_
 obtain ⟨p1, hp28, hr2⟩ := bind_some hr1
 obtain ⟨ad1, ho1, hb1, cc1, hc1, hk1⟩ := SliceR.getI (SliceR.mono k1 hx_x0_lots) hp28
 subst hc1
 refine c_sq [.slice o_x0_lots x0_lots.length c_x0_lots, .pointer (some ad1), vI p1.owner] [4] hf5 (.cell (hS2.box (i := 0) rfl (j := 0) rfl) (.prop ho1 (.prop hb1 (.cell (hS2.cell (hk1 1 _ rfl)) .nil)))) fun a6 hf6 => ?_
 refine c_ret ?_
 refine c_rt [] (vI p1.owner) hf6 .nil ?_
 obtain rfl := some_eq hr2
 exact ⟨_, rfl, z1, k1, rfl, (St.drop 1 hS2)⟩
def F54_j1 (fuel : Nat) (k1 : (List Int) → Int → Option (List Int × Int)) (k2 : (List Int) → Int → Option (List Int × Int)) (y1 : Int) (y2 : List Int) (y3 : Int) (p1 : List Part) (y4 : Int) : Option (List Int × Int) :=
  (cond (decide (y4 ≥ (0 : Int))) (k1 y2 (w64 (y1 + (1 : Int)))) ((getI y2 y1).bind fun p2 => ((F90 fuel p1).bind fun r1 => ((getI y2 y1).bind fun p3 => ((setI y2 y1 (w64 (p2 + r1))).bind fun d1 => (k2 d1 (w64 (y3 - (1 : Int)))))))))
def F54_l3 (fuel : Nat) (k1 : (List Int) → Int → Option (List Int × Int)) (k2 : (List Int) → Int → Option (List Int × Int)) (x0_lots : List Lot) (x0_holds : List (List (List Part))) (x1 : Int) (y1 : Int) (y2 : List Int) (y3 : Int) (p1 : List Part) : Nat → Int → Option (List Int × Int)
  | 0, _ => none
  | n1 + 1, y5 =>
    let k3 : Int → Option (List Int × Int) := F54_l3 fuel k1 k2 x0_lots x0_holds x1 y1 y2 y3 p1 n1
    (cond (decide (y5 < (p1.length : Int))) ((getI p1 y5).bind fun p4 => ((F115 fuel x0_lots x0_holds p4.lot).bind fun r2 => (cond (r2 != x1) (F54_j1 fuel k1 k2 y1 y2 y3 p1 y5) (k3 (w64 (y5 + (1 : Int))))))) (F54_j1 fuel k1 k2 y1 y2 y3 p1 (-1)))
def F54_l2 (fuel : Nat) (k1 : (List Int) → Int → Option (List Int × Int)) (x0_lots : List Lot) (x0_holds : List (List (List Part))) (x1 : Int) (y1 : Int) (p5 : List (List Part)) : Nat → (List Int) → Int → Option (List Int × Int)
  | 0, _, _ => none
  | n2 + 1, y2, y3 =>
    let k2 : (List Int) → Int → Option (List Int × Int) := F54_l2 fuel k1 x0_lots x0_holds x1 y1 p5 n2
    (cond (decide (y3 ≥ (0 : Int))) ((getI p5 y3).bind fun p1 => (F54_l3 fuel k1 k2 x0_lots x0_holds x1 y1 y2 y3 p1 fuel 0)) (k1 y2 (w64 (y1 + (1 : Int)))))
def F54_l1 (fuel : Nat) (x0_lots : List Lot) (x0_holds : List (List (List Part))) (x1 : Int) : Nat → (List Int) → Int → Option (List Int × Int)
  | 0, _, _ => none
  | n3 + 1, y6, y1 =>
    let k1 : (List Int) → Int → Option (List Int × Int) := F54_l1 fuel x0_lots x0_holds x1 n3
    (cond (decide (y1 < (9 : Int))) ((getI x0_holds y1).bind fun p5 => (F54_l2 fuel k1 x0_lots x0_holds x1 y1 p5 fuel y6 (w64 ((p5.length : Int) - (1 : Int))))) (some (y6, 0)))
def F54 (fuel : Nat) (x0_lots : List Lot) (x0_holds : List (List (List Part))) (x1 : Int) : Option (List Int × Int) :=
  ((F111 fuel x0_lots x0_holds x1).bind fun r3 => (cond (r3 != (0 : Int)) (some ([], r3)) ((mkC 9 (0 : Int)).bind fun d2 => (F54_l1 fuel x0_lots x0_holds x1 fuel d2 0))))
set_option maxRecDepth 100000 in
theorem f54_ok (fuel : Nat) (x0_lots : List Lot) (x0_holds : List (List (List Part))) (x1 : Int) (r : List Int × Int) (hr : F54 fuel x0_lots x0_holds x1 = some r) (h : Zone) (L : List Atom) (w : World) (hS : St h L w) (o_x0_lots : Option Addr) (c_x0_lots : Nat) (hx_x0_lots : SliceR LotT h o_x0_lots c_x0_lots x0_lots) (v0_x0_holds v1_x0_holds v2_x0_holds v3_x0_holds v4_x0_holds v5_x0_holds v6_x0_holds v7_x0_holds v8_x0_holds : Value) (hx_x0_holds : (Ty.arr 9 (Ty.slice (Ty.slice PartT))).rep h [v0_x0_holds, v1_x0_holds, v2_x0_holds, v3_x0_holds, v4_x0_holds, v5_x0_holds, v6_x0_holds, v7_x0_holds, v8_x0_holds] x0_holds) :
    Calls Try.prog 54 #[.agg #[.slice o_x0_lots x0_lots.length c_x0_lots, v0_x0_holds, v1_x0_holds, v2_x0_holds, v3_x0_holds, v4_x0_holds, v5_x0_holds, v6_x0_holds, v7_x0_holds, v8_x0_holds], vI x1] w fun e w' => ∃ v, e = .returned v ∧ (∃ h', ∃ o0 : Option Addr, ∃ c0 : Nat, Zone.le h h' ∧ v = .tuple #[.slice o0 r.1.length c0, vI r.2] ∧ St h' L w' ∧ SliceR Ty.int h' o0 c0 r.1) := by
 refine calls_intro (N := 43) Try.func54 (by kernel_rfl) fun a hf => ?_
 refine c_sr ?_
 refine c_box [.slice o_x0_lots x0_lots.length c_x0_lots, v0_x0_holds, v1_x0_holds, v2_x0_holds, v3_x0_holds, v4_x0_holds, v5_x0_holds, v6_x0_holds, v7_x0_holds, v8_x0_holds] 26 hS hf fun b1 ww1 a1 hS1 hf1 => ⟨fun _ => trivial, ?_⟩
 refine c_box [vI x1] 3 hS1 hf1 fun b2 ww2 a2 hS2 hf2 => ⟨fun _ => trivial, ?_⟩
 refine c_t [] [2, 3] hf2 .nil fun a3 hf3 => ?_
 refine c_seq ?_
 refine c_sr ?_
 refine c_n 2 [.slice o_x0_lots x0_lots.length c_x0_lots, v0_x0_holds, v1_x0_holds, v2_x0_holds, v3_x0_holds, v4_x0_holds, v5_x0_holds, v6_x0_holds, v7_x0_holds, v8_x0_holds, vI x1] [2, 3, 12, 13] hf3 (.cell (hS2.box (i := 1) rfl (j := 0) rfl) (.cell (hS2.box (i := 1) rfl (j := 1) rfl) (.cell (hS2.box (i := 1) rfl (j := 2) rfl) (.cell (hS2.box (i := 1) rfl (j := 3) rfl) (.cell (hS2.box (i := 1) rfl (j := 4) rfl) (.cell (hS2.box (i := 1) rfl (j := 5) rfl) (.cell (hS2.box (i := 1) rfl (j := 6) rfl) (.cell (hS2.box (i := 1) rfl (j := 7) rfl) (.cell (hS2.box (i := 1) rfl (j := 8) rfl) (.cell (hS2.box (i := 1) rfl (j := 9) rfl) (.cell (hS2.box (i := 0) rfl (j := 0) rfl) .nil))))))))))) fun a4 hf4 => ?_
 obtain ⟨r3, hd1, hr1⟩ := bind_some hr
 refine c_call hf4 (f111_ok fuel x0_lots x0_holds x1 r3 hd1 h _ _ hS2 o_x0_lots c_x0_lots hx_x0_lots v0_x0_holds v1_x0_holds v2_x0_holds v3_x0_holds v4_x0_holds v5_x0_holds v6_x0_holds v7_x0_holds v8_x0_holds (Ty.mono _ (Zone.le_refl _) hx_x0_holds)) ?_
 rintro v1 ww3 a5 ⟨z1, k4, rfl, hS3⟩ hf5
 refine ⟨fun _ => trivial, ?_⟩
 refine c_t [] [2, 3, 6] hf5 .nil fun a6 hf6 => ?_
 refine c_sq [] [2, 3, 6, 16] hf6 .nil fun a7 hf7 => ?_
 refine c_if (r3 != (0 : Int)) hf7 (fun hb1 => ?_) (fun hb1 => ?_)
 ·have hr2 := cond_t hb1 hr1
  refine c_sq [] [4, 5] hf7 .nil fun a8 hf8 => ?_
  refine c_ret ?_
  refine r_then ?_
  refine c_rt [] (.tuple #[.slice none 0 0, vI r3]) hf8 .nil ?_
  obtain rfl := some_eq hr2
  exact ⟨_, rfl, z1, none, 0, k4, rfl, (St.drop 2 hS3), SliceR.nil' _ _⟩
 ·have hr3 := cond_f hb1 hr1
  refine c_skip ?_
  refine n_then ?_
  refine c_sr ?_
  obtain ⟨d2, hd2, hr4⟩ := bind_some hr3
  refine p_make (T := Ty.int) (i := 0) (d := some 18) (x0 := (0 : Int)) el53 hS3 hf7 (by kernel_rfl) rfl hd2 fun e1 ww4 a9 hS4 hf9 => ⟨fun _ => trivial, ?_⟩
  refine c_box [.slice none 0 0] 53 hS4 hf9 fun b3 ww5 a10 hS5 hf10 => ⟨fun _ => trivial, ?_⟩
  refine c_st 0 [.slice (some e1) d2.length d2.length] hS5 hf10 rfl fun ww6 a11 hS6 hf11 => ⟨fun _ => trivial, ?_⟩
  refine c_dt ?_
  refine c_seq ?_
  refine c_sq [v0_x0_holds, v1_x0_holds, v2_x0_holds, v3_x0_holds, v4_x0_holds, v5_x0_holds, v6_x0_holds, v7_x0_holds, v8_x0_holds] [2, 3, 7, 20, 21] hf11 (.cell (hS6.box (i := 3) rfl (j := 1) rfl) (.cell (hS6.box (i := 3) rfl (j := 2) rfl) (.cell (hS6.box (i := 3) rfl (j := 3) rfl) (.cell (hS6.box (i := 3) rfl (j := 4) rfl) (.cell (hS6.box (i := 3) rfl (j := 5) rfl) (.cell (hS6.box (i := 3) rfl (j := 6) rfl) (.cell (hS6.box (i := 3) rfl (j := 7) rfl) (.cell (hS6.box (i := 3) rfl (j := 8) rfl) (.cell (hS6.box (i := 3) rfl (j := 9) rfl) .nil))))))))) fun a12 hf12 => ?_
  refine c_block 0 ?_
  have hS7 := defs0 hS6
  refine c_loop (fun n a w => ∃ z2 : Zone, ∃ y6 : List Int, ∃ y1 : Int, ∃ gs289129 : List Nat, Zone.le z1 z2 ∧ Fr a 43 [(2, pB b1 0), (3, pB b2 0), (7, pB b3 0), (20, .agg #[v0_x0_holds, v1_x0_holds, v2_x0_holds, v3_x0_holds, v4_x0_holds, v5_x0_holds, v6_x0_holds, v7_x0_holds, v8_x0_holds]), (21, vI y1)] gs289129 ∧ St z2 (defsA gs289129 :: box b3 [.slice (some e1) y6.length d2.length] 53 :: ownS Ty.int 3 (some e1) d2.length y6 :: box b2 [vI x1] 3 :: box b1 [.slice o_x0_lots x0_lots.length c_x0_lots, v0_x0_holds, v1_x0_holds, v2_x0_holds, v3_x0_holds, v4_x0_holds, v5_x0_holds, v6_x0_holds, v7_x0_holds, v8_x0_holds] 26 :: L) w ∧ y6.length = d2.length ∧ (F54_l1 fuel x0_lots x0_holds x1 n y6 y1) = some r) fuel ⟨z1, d2, 0, [], (Zone.le_refl _), hf12.to, hS7, rfl, hr4⟩ ?_
  rintro n4 a13 ww7 ⟨z2, y6, y1, gs289129, k5, hf14, hS8, hl1, hr5⟩
  cases n4 with
  | zero => cases hr5
  | succ n3 =>
  refine c_sq [] [2, 3, 7, 20, 21, 22] hf14 .nil fun a14 hf15 => ?_
  refine c_seq ?_
  refine c_if (decide (y1 < (9 : Int))) hf15 (fun hb2 => ?_) (fun hb2 => ?_)
  ·have hr6 := cond_t hb2 hr5
   refine c_skip ?_
   refine n_then ?_
   refine c_seq ?_
   refine c_block 1 ?_
   refine c_sr ?_
   obtain ⟨p5, hp289153, hr7⟩ := bind_some hr6
   obtain ⟨hb3, _, hv1, e2, q1, hehv289157, hx1⟩ := arrGet (Ty.mono _ (Zone.le_trans k4 k5) hx_x0_holds) rfl hp289153
   obtain rfl := List.head_eq_of_cons_eq hehv289157
   have hk1 := arrIdx hv1
   refine c_n 2 [.slice e2 p5.length q1] [2, 3, 7, 20, 21, 23, 24] hf15 (.prop hb3 (.prop hk1 .nil)) fun a15 hf16 => ?_
   refine c_box [vI 0] 3 hS8 hf16 fun b4 ww8 a16 hS9 hf17 => ⟨fun _ => trivial, ?_⟩
   refine c_st 0 [vI y1] hS9 hf17 rfl fun ww9 a17 hS10 hf18 => ⟨fun _ => trivial, ?_⟩
   refine c_t [] [2, 3, 7, 8, 9, 20, 21] hf18 .nil fun a18 hf19 => ?_
   refine c_sr ?_
   refine c_n 1 [] [2, 3, 7, 8, 20, 21, 25] hf19 .nil fun a19 hf20 => ?_
   refine p_inl (i := 1) (d := some 26) (f := 112) (args := #[.slice e2 p5.length q1]) (N' := 4) hf20 (by kernel_rfl) Try.func112 (by kernel_rfl) fun a20 hf21 => ?_
   refine c_sr ?_
   refine c_box [.slice e2 p5.length q1] 23 hS10 hf21 fun b5 ww10 a21 hS11 hf22 => ⟨fun _ => trivial, ?_⟩
   refine c_t [] [1] hf22 .nil fun a22 hf23 => ?_
   refine c_sq [] [2] hf23 .nil fun a23 hf24 => ?_
   refine c_ret ?_
   refine c_rt [] (.func (.func 135) #[] #[pB b5 0]) hf24 .nil ?_
   refine ⟨_, rfl, fun a24 hf25 => ?_⟩
   refine ⟨fun _ => trivial, ?_⟩
   refine c_dt ?_
   refine c_block 2 ?_
   have hf26 := Fr.to (r := [(2, pB b1 0), (3, pB b2 0), (7, pB b3 0), (8, pB b4 0), (20, .agg #[v0_x0_holds, v1_x0_holds, v2_x0_holds, v3_x0_holds, v4_x0_holds, v5_x0_holds, v6_x0_holds, v7_x0_holds, v8_x0_holds]), (21, vI y1), (26, .func (.func 135) #[] #[pB b5 0])]) hf25
   refine w_range (g := 26) (gf := 135) (lb := #[pB b5 0]) (by kernel_rfl) hf26 hS11 (by kernel_rfl) (fun l => by kernel_rfl) fun ps1 RA1 RB1 hps1 hA1 hB1 l1 D1 ww11 hS12 => ?_
   refine calls_intro (N := 19) Try.func135 (by kernel_rfl) fun a25 hf27 => ?_
   refine c_sq [.slice e2 p5.length q1] [0, 1, 3] hf27 (.cell (hS12.box (i := 2) rfl (j := 0) rfl) .nil) fun a26 hf28 => ?_
   refine c_block 0 ?_
   refine c_loop (fun n a w => ∃ z3 : Zone, ∃ y2 : List Int, ∃ y3 : Int, Zone.le z2 z3 ∧ Fr a 19 [(0, .func (.yield l1) #[] #[]), (1, pB b5 0), (3, vI y3)] ∧ St z3 (loopA l1 43 [(2, pB b1 0), (3, pB b2 0), (7, pB b3 0), (8, pB b4 0), (20, .agg #[v0_x0_holds, v1_x0_holds, v2_x0_holds, v3_x0_holds, v4_x0_holds, v5_x0_holds, v6_x0_holds, v7_x0_holds, v8_x0_holds]), (21, vI y1), (26, .func (.func 135) #[] #[pB b5 0])] ps1 RA1 RB1 D1 .ready none :: defA D1 :: box b5 [.slice e2 p5.length q1] 23 :: box b4 [vI y1] 3 :: defsA gs289129 :: box b3 [.slice (some e1) y2.length d2.length] 53 :: ownS Ty.int 3 (some e1) d2.length y2 :: box b2 [vI x1] 3 :: box b1 [.slice o_x0_lots x0_lots.length c_x0_lots, v0_x0_holds, v1_x0_holds, v2_x0_holds, v3_x0_holds, v4_x0_holds, v5_x0_holds, v6_x0_holds, v7_x0_holds, v8_x0_holds] 26 :: L) w ∧ y2.length = d2.length ∧ (F54_l2 fuel (F54_l1 fuel x0_lots x0_holds x1 n3) x0_lots x0_holds x1 y1 p5 n y2 y3) = some r) fuel ⟨z2, y6, (w64 ((p5.length : Int) - (1 : Int))), (Zone.le_refl _), hf28.to, hS12, hl1, hr7⟩ ?_
   rintro n5 a27 ww12 ⟨z3, y2, y3, k6, hf30, hS13, hl2, hr8⟩
   cases n5 with
   | zero => cases hr8
   | succ n2 =>
   refine c_seq ?_
   refine c_sq [] [0, 1, 3, 8] hf30 .nil fun a28 hf31 => ?_
   refine c_if (decide (y3 ≥ (0 : Int))) hf31 (fun hb4 => ?_) (fun hb4 => ?_)
   ·have hr9 := cond_t hb4 hr8
    refine c_skip ?_
    refine n_then ?_
    refine c_seq ?_
    refine c_block 1 ?_
    refine c_seq ?_
    refine w_regY 6 (by kernel_rfl) ?_
    obtain ⟨p1, hp373453, hr10⟩ := bind_some hr9
    obtain ⟨ad1, ho1, hb5, cc1, hc1, hk2⟩ := SliceR.getI (SliceR.mono k6 hx1) hp373453
    obtain ⟨e3, q2, rfl, hx2⟩ := hc1
    refine c_z [.slice e2 p5.length q1, .pointer (some ad1), .slice e3 p1.length q2] [0, 1, 3, 11, 12, 16] hf31 (.cell (hS13.box (i := 2) rfl (j := 0) rfl) (.prop ho1 (.prop hb5 (.cell (hS13.cell (hk2 0 _ rfl)) .nil)))) fun a29 hf32 => ?_
    refine p_yield (d := some 17) (l := l1) (args := #[vI y3, .agg #[.slice e3 p1.length q2]]) hf32 (by kernel_rfl) hS13 (j := 0) rfl (by rw [hps1]; kernel_rfl) fun a30 hf33 => ?_
    rw [hps1] at hf33
    refine cw_eq hA1 ?_
    refine c_reg ?_
    refine c_box [.slice none 0 0] 40 hS13 hf33 fun b6 ww13 a31 hS14 hf34 => ⟨fun _ => trivial, ?_⟩
    refine c_st 0 [.slice e3 p1.length q2] hS14 hf34 rfl fun ww14 a32 hS15 hf35 => ⟨fun _ => trivial, ?_⟩
    refine c_dt ?_
    refine p_begin hS15 (j := 1) rfl fun ww15 hS16 => ?_
    refine cw_eq hB1 ?_
    refine c_block 3 ?_
    refine c_seq ?_
    refine c_sr ?_
    refine c_n 3 [.slice e3 p1.length q2] [7, 8, 11, 30, 31] hf35 (.cell (hS16.box (i := 0) rfl (j := 0) rfl) .nil) fun a33 hf36 => ?_
    refine p_inl (i := 3) (d := some 32) (f := 113) (args := #[.slice e3 p1.length q2, .func (.func 114) #[] #[pB b1 0, pB b2 0]]) (N' := 9) hf36 (by kernel_rfl) Try.func113 (by kernel_rfl) fun a34 hf37 => ?_
    refine c_sq [] [0, 1] hf37 .nil fun a35 hf38 => ?_
    refine c_sr ?_
    refine c_n 2 [] [5, 6] hf38 .nil fun a36 hf39 => ?_
    refine c_call (f := 136) (args := #[.slice e3 p1.length q2, .func (.func 114) #[] #[pB b1 0, pB b2 0]]) (Φ := fun v w => ∃ z4 : Zone, ∃ y4 : Int, Zone.le z3 z4 ∧ v = vI y4 ∧ St z4 (box b6 [.slice e3 p1.length q2] 40 :: loopA l1 43 [(2, pB b1 0), (3, pB b2 0), (7, pB b3 0), (8, pB b4 0), (20, .agg #[v0_x0_holds, v1_x0_holds, v2_x0_holds, v3_x0_holds, v4_x0_holds, v5_x0_holds, v6_x0_holds, v7_x0_holds, v8_x0_holds]), (21, vI y1), (26, .func (.func 135) #[] #[pB b5 0])] ps1 RA1 RB1 D1 .busy none :: defA D1 :: box b5 [.slice e2 p5.length q1] 23 :: box b4 [vI y1] 3 :: defsA gs289129 :: box b3 [.slice (some e1) y2.length d2.length] 53 :: ownS Ty.int 3 (some e1) d2.length y2 :: box b2 [vI x1] 3 :: box b1 [.slice o_x0_lots x0_lots.length c_x0_lots, v0_x0_holds, v1_x0_holds, v2_x0_holds, v3_x0_holds, v4_x0_holds, v5_x0_holds, v6_x0_holds, v7_x0_holds, v8_x0_holds] 26 :: L) w ∧ (F54_j1 fuel (F54_l1 fuel x0_lots x0_holds x1 n3) (F54_l2 fuel (F54_l1 fuel x0_lots x0_holds x1 n3) x0_lots x0_holds x1 y1 p5 n2) y1 y2 y3 p1 y4) = some r) hf39 ?_ ?_
    ·refine calls_intro (N := 19) Try.func136 (by kernel_rfl) fun a37 hf40 => ?_
     refine c_sq [] [0, 1] hf40 .nil fun a38 hf41 => ?_
     refine c_seq ?_
     refine c_sq [] [0, 1, 7, 8] hf41 .nil fun a39 hf42 => ?_
     refine c_block 0 ?_
     refine c_loop (fun n a w => ∃ z5 : Zone, ∃ y5 : Int, Zone.le z3 z5 ∧ Fr a 19 [(0, .slice e3 p1.length q2), (1, .func (.func 114) #[] #[pB b1 0, pB b2 0]), (7, vI (p1.length : Int)), (8, vI y5)] ∧ St z5 (box b6 [.slice e3 p1.length q2] 40 :: loopA l1 43 [(2, pB b1 0), (3, pB b2 0), (7, pB b3 0), (8, pB b4 0), (20, .agg #[v0_x0_holds, v1_x0_holds, v2_x0_holds, v3_x0_holds, v4_x0_holds, v5_x0_holds, v6_x0_holds, v7_x0_holds, v8_x0_holds]), (21, vI y1), (26, .func (.func 135) #[] #[pB b5 0])] ps1 RA1 RB1 D1 .busy none :: defA D1 :: box b5 [.slice e2 p5.length q1] 23 :: box b4 [vI y1] 3 :: defsA gs289129 :: box b3 [.slice (some e1) y2.length d2.length] 53 :: ownS Ty.int 3 (some e1) d2.length y2 :: box b2 [vI x1] 3 :: box b1 [.slice o_x0_lots x0_lots.length c_x0_lots, v0_x0_holds, v1_x0_holds, v2_x0_holds, v3_x0_holds, v4_x0_holds, v5_x0_holds, v6_x0_holds, v7_x0_holds, v8_x0_holds] 26 :: L) w ∧ (F54_l3 fuel (F54_l1 fuel x0_lots x0_holds x1 n3) (F54_l2 fuel (F54_l1 fuel x0_lots x0_holds x1 n3) x0_lots x0_holds x1 y1 p5 n2) x0_lots x0_holds x1 y1 y2 y3 p1 n y5) = some r) fuel ⟨z3, 0, (Zone.le_refl _), hf42.to, hS16, hr10⟩ ?_
     rintro n6 a40 ww16 ⟨z5, y5, k7, hf44, hS17, hr11⟩
     cases n6 with
     | zero => cases hr11
     | succ n1 =>
     refine c_sq [] [0, 1, 7, 8, 9] hf44 .nil fun a41 hf45 => ?_
     refine c_seq ?_
     refine c_if (decide (y5 < (p1.length : Int))) hf45 (fun hb6 => ?_) (fun hb6 => ?_)
     ·have hr12 := cond_t hb6 hr11
      refine c_skip ?_
      refine n_then ?_
      refine c_seq ?_
      refine c_block 1 ?_
      refine c_sq [] [0, 1, 5, 7, 8] hf45 .nil fun a42 hf46 => ?_
      refine c_sr ?_
      obtain ⟨p4, hp385319, hr13⟩ := bind_some hr12
      obtain ⟨ad2, ho2, hb7, cc2, hc2, hk3⟩ := SliceR.getI (SliceR.mono k7 hx2) hp385319
      subst hc2
      refine c_n 5 [.pointer (some ad2), vI p4.lot, vI p4.mass] [0, 1, 5, 7, 8, 11, 15] hf46 (.prop ho2 (.prop hb7 (.cell (hS17.cell (hk3 0 _ rfl)) (.cell (hS17.cell (hk3 1 _ rfl)) .nil)))) fun a43 hf47 => ?_
      refine p_inl (i := 5) (d := some 16) (f := 114) (args := #[.agg #[vI p4.lot, vI p4.mass], pB b1 0, pB b2 0]) (N' := 11) hf47 (by kernel_rfl) Try.func114 (by kernel_rfl) fun a44 hf48 => ?_
      refine c_sr ?_
      refine c_box [vI p4.lot, vI p4.mass] 56 hS17 hf48 fun b7 ww17 a45 hS18 hf49 => ⟨fun _ => trivial, ?_⟩
      refine c_t [] [1, 2, 3] hf49 .nil fun a46 hf50 => ?_
      refine c_seq ?_
      have hS19 := hS18.drew
      have s1 : Sub z5 (box b7 [vI p4.lot, vI p4.mass] 56 :: box b6 [.slice e3 p1.length q2] 40 :: loopA l1 43 [(2, pB b1 0), (3, pB b2 0), (7, pB b3 0), (8, pB b4 0), (20, .agg #[v0_x0_holds, v1_x0_holds, v2_x0_holds, v3_x0_holds, v4_x0_holds, v5_x0_holds, v6_x0_holds, v7_x0_holds, v8_x0_holds]), (21, vI y1), (26, .func (.func 135) #[] #[pB b5 0])] ps1 RA1 RB1 D1 .busy none :: defA D1 :: box b5 [.slice e2 p5.length q1] 23 :: box b4 [vI y1] 3 :: defsA gs289129 :: box b3 [.slice (some e1) y2.length d2.length] 53 :: ownS Ty.int 3 (some e1) d2.length y2 :: box b2 [vI x1] 3 :: box b1 [.slice o_x0_lots x0_lots.length c_x0_lots, v0_x0_holds, v1_x0_holds, v2_x0_holds, v3_x0_holds, v4_x0_holds, v5_x0_holds, v6_x0_holds, v7_x0_holds, v8_x0_holds] 26 :: L) _ := Sub.of (Zone.le_refl _) hS19
      refine c_regD [(0, true), (1, true), (2, true), (4, true), (3, false), (5, true), (6, true)] [] (Sub z5 (box b7 [vI p4.lot, vI p4.mass] 56 :: box b6 [.slice e3 p1.length q2] 40 :: loopA l1 43 [(2, pB b1 0), (3, pB b2 0), (7, pB b3 0), (8, pB b4 0), (20, .agg #[v0_x0_holds, v1_x0_holds, v2_x0_holds, v3_x0_holds, v4_x0_holds, v5_x0_holds, v6_x0_holds, v7_x0_holds, v8_x0_holds]), (21, vI y1), (26, .func (.func 135) #[] #[pB b5 0])] ps1 RA1 RB1 D1 .busy none :: defA D1 :: box b5 [.slice e2 p5.length q1] 23 :: box b4 [vI y1] 3 :: defsA gs289129 :: box b3 [.slice (some e1) y2.length d2.length] 53 :: ownS Ty.int 3 (some e1) d2.length y2 :: box b2 [vI x1] 3 :: box b1 [.slice o_x0_lots x0_lots.length c_x0_lots, v0_x0_holds, v1_x0_holds, v2_x0_holds, v3_x0_holds, v4_x0_holds, v5_x0_holds, v6_x0_holds, v7_x0_holds, v8_x0_holds] 26 :: L)) s1 ?_
      refine c_S 4 [.slice o_x0_lots x0_lots.length c_x0_lots, v0_x0_holds, v1_x0_holds, v2_x0_holds, v3_x0_holds, v4_x0_holds, v5_x0_holds, v6_x0_holds, v7_x0_holds, v8_x0_holds, vI p4.lot, vI x1] [5, 7, 9] s1 hf50 (fun _ s => (.cell (s.box (i := 10) rfl (j := 0) rfl) (.cell (s.box (i := 10) rfl (j := 1) rfl) (.cell (s.box (i := 10) rfl (j := 2) rfl) (.cell (s.box (i := 10) rfl (j := 3) rfl) (.cell (s.box (i := 10) rfl (j := 4) rfl) (.cell (s.box (i := 10) rfl (j := 5) rfl) (.cell (s.box (i := 10) rfl (j := 6) rfl) (.cell (s.box (i := 10) rfl (j := 7) rfl) (.cell (s.box (i := 10) rfl (j := 8) rfl) (.cell (s.box (i := 10) rfl (j := 9) rfl) (.cell (s.box (i := 0) rfl (j := 0) rfl) (.cell (s.box (i := 9) rfl (j := 0) rfl) .nil))))))))))))) .nil fun a47 hf51 => ?_
      obtain ⟨r2, hd3, hr14⟩ := bind_some hr13
      refine c_call hf51 (f115_ok fuel x0_lots x0_holds p4.lot r2 hd3 z5 _ _ hS19 o_x0_lots c_x0_lots (SliceR.mono (Zone.le_trans (Zone.le_trans (Zone.le_trans k4 k5) k6) k7) hx_x0_lots) v0_x0_holds v1_x0_holds v2_x0_holds v3_x0_holds v4_x0_holds v5_x0_holds v6_x0_holds v7_x0_holds v8_x0_holds (Ty.mono _ (Zone.le_trans (Zone.le_trans (Zone.le_trans k4 k5) k6) k7) hx_x0_holds)) ?_
      rintro v2 ww18 a48 ⟨z6, k8, rfl, hS20⟩ hf52
      refine ⟨fun _ => Sub.of k8 hS20, ?_⟩
      have s2 : Sub z5 (box b7 [vI p4.lot, vI p4.mass] 56 :: box b6 [.slice e3 p1.length q2] 40 :: loopA l1 43 [(2, pB b1 0), (3, pB b2 0), (7, pB b3 0), (8, pB b4 0), (20, .agg #[v0_x0_holds, v1_x0_holds, v2_x0_holds, v3_x0_holds, v4_x0_holds, v5_x0_holds, v6_x0_holds, v7_x0_holds, v8_x0_holds]), (21, vI y1), (26, .func (.func 135) #[] #[pB b5 0])] ps1 RA1 RB1 D1 .busy none :: defA D1 :: box b5 [.slice e2 p5.length q1] 23 :: box b4 [vI y1] 3 :: defsA gs289129 :: box b3 [.slice (some e1) y2.length d2.length] 53 :: ownS Ty.int 3 (some e1) d2.length y2 :: box b2 [vI x1] 3 :: box b1 [.slice o_x0_lots x0_lots.length c_x0_lots, v0_x0_holds, v1_x0_holds, v2_x0_holds, v3_x0_holds, v4_x0_holds, v5_x0_holds, v6_x0_holds, v7_x0_holds, v8_x0_holds] 26 :: L) _ := Sub.of k8 hS20
      refine c_S 2 [] [4] s2 hf52 (fun _ s => .nil) .nil fun a49 hf53 => ?_
      refine c_dt ?_
      refine c_ret ?_
      refine c_rt [] (.bool (r2 != x1)) hf53 .nil ?_
      refine ⟨_, rfl, fun a50 hf54 => ?_⟩
      have hS21 := St.drop 1 hS20
      refine ⟨fun _ => trivial, ?_⟩
      refine c_dt ?_
      refine c_if (r2 != x1) hf54 (fun hb8 => ?_) (fun hb8 => ?_)
      ·have hr15 := cond_t hb8 hr14
       refine c_sq [] [4] hf54 .nil fun a51 hf55 => ?_
       refine c_ret ?_
       refine r_block ?_
       refine r_then ?_
       refine r_then ?_
       refine r_block ?_
       refine r_then ?_
       refine c_rt [] (vI y5) hf55 .nil ?_
       exact ⟨_, rfl, z6, y5, (Zone.le_trans k7 k8), rfl, hS21, hr15⟩
      ·have hr16 := cond_f hb8 hr14
       refine c_skip ?_
       refine n_block ?_
       refine n_then ?_
       refine c_q [] [0, 1, 7, 8] hf54 .nil fun a52 hf56 => ?_
       refine n_then ?_
       exact ⟨n1, Nat.lt_succ_self n1, z6, (w64 (y5 + (1 : Int))), (Zone.le_trans k7 k8), hf56.to, hS21, hr16⟩
     ·have hr17 := cond_f hb6 hr11
      refine c_exit 0 ?_
      refine x_then ?_
      refine x_then ?_
      refine x_block ?_
      refine n_then ?_
      refine c_sq [] [4] hf45 .nil fun a53 hf58 => ?_
      refine c_ret ?_
      refine c_rt [] (vI (-1)) hf58 .nil ?_
      exact ⟨_, rfl, z5, -1, k7, rfl, hS17, hr17⟩
    ·rintro v3 ww19 a54 ⟨z4, y4, k9, rfl, hS22, hr18⟩ hf59
     refine ⟨fun _ => trivial, ?_⟩
     refine c_t [] [4] hf59 .nil fun a55 hf60 => ?_
     refine c_ret ?_
     refine c_rt [] (.bool (decide (y4 ≥ (0 : Int)))) hf60 .nil ?_
     refine ⟨_, rfl, fun a56 hf61 => ?_⟩
     refine ⟨fun _ => trivial, ?_⟩
     refine c_dt ?_
     refine c_if (decide (y4 ≥ (0 : Int))) hf61 (fun hb9 => ?_) (fun hb9 => ?_)
     ·have hr19 := cond_t hb9 hr18
      refine c_exit 2 ?_
      refine x_then ?_
      refine x_pass rfl ?_
      refine p_roundX hS22 (j := 1) rfl fun ww20 a57 hS23 hf62 => ?_
      have hS24 := St.drop 1 hS23
      refine c_t [] [0, 1, 3, 18] hf62 .nil fun a58 hf63 => ?_
      refine w_if_true hf63 (by kernel_rfl) ?_
      refine c_ret ?_
      refine r_block ?_
      refine r_then ?_
      refine r_then ?_
      refine r_block ?_
      refine c_rt [] (.tuple #[]) hf63 .nil ?_
      refine ⟨_, rfl, fun a59 hf64 => ?_⟩
      refine p_jumpX hS24 (j := 0) rfl (fun h => by cases h) fun ww21 hS25 => ?_
      refine x_block ?_
      refine n_block ?_
      refine n_then ?_
      refine c_q [] [2, 3, 7, 20, 21] hf64 .nil fun a60 hf65 => ?_
      refine n_then ?_
      have hS26 := defsJoin (i := 1) (j := 4) hS25 rfl rfl (by decide)
      exact ⟨n3, Nat.lt_succ_self n3, z4, y2, (w64 (y1 + (1 : Int))), D1 :: gs289129, (Zone.le_trans (Zone.le_trans k5 k6) k9), hf65.to, (St.drop 4 hS26), hl2, hr19⟩
     ·have hr20 := cond_f hb9 hr18
      refine c_skip ?_
      refine n_then ?_
      have hS27 := hS22.drew
      have s3 : Sub z4 (box b6 [.slice e3 p1.length q2] 40 :: loopA l1 43 [(2, pB b1 0), (3, pB b2 0), (7, pB b3 0), (8, pB b4 0), (20, .agg #[v0_x0_holds, v1_x0_holds, v2_x0_holds, v3_x0_holds, v4_x0_holds, v5_x0_holds, v6_x0_holds, v7_x0_holds, v8_x0_holds]), (21, vI y1), (26, .func (.func 135) #[] #[pB b5 0])] ps1 RA1 RB1 D1 .busy none :: defA D1 :: box b5 [.slice e2 p5.length q1] 23 :: box b4 [vI y1] 3 :: defsA gs289129 :: box b3 [.slice (some e1) y2.length d2.length] 53 :: ownS Ty.int 3 (some e1) d2.length y2 :: box b2 [vI x1] 3 :: box b1 [.slice o_x0_lots x0_lots.length c_x0_lots, v0_x0_holds, v1_x0_holds, v2_x0_holds, v3_x0_holds, v4_x0_holds, v5_x0_holds, v6_x0_holds, v7_x0_holds, v8_x0_holds] 26 :: L) _ := Sub.of (Zone.le_refl _) hS27
      refine c_regD [(0, true), (1, true), (2, true), (3, true), (4, true), (5, false), (6, true), (7, true), (8, false)] [8] (Sub z4 (box b6 [.slice e3 p1.length q2] 40 :: loopA l1 43 [(2, pB b1 0), (3, pB b2 0), (7, pB b3 0), (8, pB b4 0), (20, .agg #[v0_x0_holds, v1_x0_holds, v2_x0_holds, v3_x0_holds, v4_x0_holds, v5_x0_holds, v6_x0_holds, v7_x0_holds, v8_x0_holds]), (21, vI y1), (26, .func (.func 135) #[] #[pB b5 0])] ps1 RA1 RB1 D1 .busy none :: defA D1 :: box b5 [.slice e2 p5.length q1] 23 :: box b4 [vI y1] 3 :: defsA gs289129 :: box b3 [.slice (some e1) y2.length d2.length] 53 :: ownS Ty.int 3 (some e1) d2.length y2 :: box b2 [vI x1] 3 :: box b1 [.slice o_x0_lots x0_lots.length c_x0_lots, v0_x0_holds, v1_x0_holds, v2_x0_holds, v3_x0_holds, v4_x0_holds, v5_x0_holds, v6_x0_holds, v7_x0_holds, v8_x0_holds] 26 :: L)) s3 ?_
      obtain ⟨p2, hp385431, hr21⟩ := bind_some hr20
      obtain ⟨ad3, ho3, hb10, cc3, hc3, hk4⟩ := hS27.ownGet (j := 7) rfl hp385431
      subst hc3
      refine c_S 5 [.slice (some e1) y2.length d2.length, vI y1, .pointer (some ad3), vI p2, .slice e3 p1.length q2] [33, 34, 36, 37] s3 hf61 (fun _ s => (.cell (s.box (i := 6) rfl (j := 0) rfl) (.cell (s.box (i := 4) rfl (j := 0) rfl) (.prop ho3 (.prop hb10 (.cell (s.ownCell (j := 7) rfl ho3 hp385431 (fun _ _ e => e) (k := 0) rfl) (.cell (s.box (i := 0) rfl (j := 0) rfl) .nil))))))) .nil fun a61 hf67 => ?_
      obtain ⟨r1, hd4, hr22⟩ := bind_some hr21
      refine c_call hf67 (f90_ok fuel p1 r1 hd4 z4 _ _ hS27 e3 q2 (SliceR.mono k9 hx2)) ?_
      rintro v4 ww22 a62 ⟨z7, k10, rfl, hS28⟩ hf68
      refine ⟨fun _ => Sub.of k10 hS28, ?_⟩
      have s4 : Sub z4 (box b6 [.slice e3 p1.length q2] 40 :: loopA l1 43 [(2, pB b1 0), (3, pB b2 0), (7, pB b3 0), (8, pB b4 0), (20, .agg #[v0_x0_holds, v1_x0_holds, v2_x0_holds, v3_x0_holds, v4_x0_holds, v5_x0_holds, v6_x0_holds, v7_x0_holds, v8_x0_holds]), (21, vI y1), (26, .func (.func 135) #[] #[pB b5 0])] ps1 RA1 RB1 D1 .busy none :: defA D1 :: box b5 [.slice e2 p5.length q1] 23 :: box b4 [vI y1] 3 :: defsA gs289129 :: box b3 [.slice (some e1) y2.length d2.length] 53 :: ownS Ty.int 3 (some e1) d2.length y2 :: box b2 [vI x1] 3 :: box b1 [.slice o_x0_lots x0_lots.length c_x0_lots, v0_x0_holds, v1_x0_holds, v2_x0_holds, v3_x0_holds, v4_x0_holds, v5_x0_holds, v6_x0_holds, v7_x0_holds, v8_x0_holds] 26 :: L) _ := Sub.of k10 hS28
      obtain ⟨p3, hp385458, hr23⟩ := bind_some hr22
      obtain ⟨ad4, ho4, hb11, cc4, hc4, hk5⟩ := hS28.ownGet (j := 7) rfl hp385458
      subst hc4
      refine c_S 2 [.pointer (some ad4)] [39, 40] s4 hf68 (fun _ s => (.prop ho4 (.prop hb11 .nil))) .nil fun a63 hf69 => ?_
      obtain ⟨d1, hd5, hr24⟩ := bind_some hr23
      have hl3 := setI_len hd5
      refine p_setOwnI (i := 8) (j := 7) (ad := ad4) (ix := y1) (x' := (w64 (p2 + r1))) hS28 hf69 rfl ho4 (by kernel_rfl) hd5 fun ww23 a64 hS29 hf70 => ?_
      have hS30 := St.convL (L' := box b6 [.slice e3 p1.length q2] 40 :: loopA l1 43 [(2, pB b1 0), (3, pB b2 0), (7, pB b3 0), (8, pB b4 0), (20, .agg #[v0_x0_holds, v1_x0_holds, v2_x0_holds, v3_x0_holds, v4_x0_holds, v5_x0_holds, v6_x0_holds, v7_x0_holds, v8_x0_holds]), (21, vI y1), (26, .func (.func 135) #[] #[pB b5 0])] ps1 RA1 RB1 D1 .busy none :: defA D1 :: box b5 [.slice e2 p5.length q1] 23 :: box b4 [vI y1] 3 :: defsA gs289129 :: box b3 [.slice (some e1) d1.length d2.length] 53 :: ownS Ty.int 3 (some e1) d2.length d1 :: box b2 [vI x1] 3 :: box b1 [.slice o_x0_lots x0_lots.length c_x0_lots, v0_x0_holds, v1_x0_holds, v2_x0_holds, v3_x0_holds, v4_x0_holds, v5_x0_holds, v6_x0_holds, v7_x0_holds, v8_x0_holds] 26 :: L) hS29 (by rw [hl3] <;> rfl)
      refine ⟨fun e => absurd e (by decide), ?_⟩
      refine c_done ?_
      refine n_block ?_
      refine p_roundN hS30 (j := 1) rfl fun ww24 a65 hS31 hf71 => ?_
      have hS32 := St.drop 1 hS31
      refine c_t [] [0, 1, 3, 18] hf71 .nil fun a66 hf72 => ?_
      refine w_if_false hf72 (by kernel_rfl) ?_
      refine c_skip ?_
      refine n_block ?_
      refine n_then ?_
      refine c_q [] [0, 1, 3] hf72 .nil fun a67 hf73 => ?_
      refine n_then ?_
      exact ⟨n2, Nat.lt_succ_self n2, z7, d1, (w64 (y3 - (1 : Int))), (Zone.le_trans (Zone.le_trans k6 k9) k10), hf73.to, hS32, (hl3.symm.trans hl2), hr24⟩
   ·have hr25 := cond_f hb4 hr8
    refine c_exit 0 ?_
    refine x_then ?_
    refine x_then ?_
    refine x_block ?_
    refine c_fall [] (.tuple #[]) hf31 .nil ?_
    refine ⟨_, rfl, fun a68 hf75 => ?_⟩
    refine p_jump0 hS13 (j := 0) rfl (fun h => by cases h) fun ww25 hS33 => ?_
    refine n_block ?_
    refine n_block ?_
    refine n_then ?_
    refine c_q [] [2, 3, 7, 20, 21] hf75 .nil fun a69 hf76 => ?_
    refine n_then ?_
    have hS34 := defsJoin (i := 1) (j := 4) hS33 rfl rfl (by decide)
    exact ⟨n3, Nat.lt_succ_self n3, z3, y2, (w64 (y1 + (1 : Int))), D1 :: gs289129, (Zone.le_trans k5 k6), hf76.to, (St.drop 4 hS34), hl2, hr25⟩
  ·have hr26 := cond_f hb2 hr5
   refine c_exit 0 ?_
   refine x_then ?_
   refine x_then ?_
   refine x_block ?_
   refine n_then ?_
   refine c_sq [.slice (some e1) y6.length d2.length] [4, 5] hf15 (.cell (hS8.box (i := 1) rfl (j := 0) rfl) .nil) fun a70 hf78 => ?_
   refine c_ret ?_
   obtain ⟨z8, k11, hS35, hx3⟩ := hS8.share (j := 2) rfl
   refine p_retM hf78 ?_
   refine p_marksE hS35 (j := 0) rfl fun ww26 hS36 => ?_
   refine p_end (os := []) (v := .tuple #[.slice (some e1) y6.length d2.length, vI 0]) (obs := []) hf78 (by kernel_rfl) .nil ?_
   obtain rfl := some_eq hr26
   exact ⟨_, rfl, z8, (some e1), d2.length, (Zone.le_trans (Zone.le_trans k4 k5) k11), rfl, (St.drop 5 hS36), hx3⟩
def F55_j1 (k1 : (List Int) → Int → Option (List Int × Int)) (y1 : Int) (y2 : List Int) : Option (List Int × Int) :=
  (k1 y2 (w64 (y1 + (1 : Int))))
def F55_l3 (fuel : Nat) (k2 : (List Int) → Int → Option (List Int × Int)) (x0_lots : List Lot) (x0_holds : List (List (List Part))) (x1 : Int) (y3 : Int) (y4 : Int) (p1 : List Part) : Nat → (List Int) → Int → Option (List Int × Int)
  | 0, _, _ => none
  | n1 + 1, y5, y1 =>
    let k1 : (List Int) → Int → Option (List Int × Int) := F55_l3 fuel k2 x0_lots x0_holds x1 y3 y4 p1 n1
    (cond (decide (y1 < (p1.length : Int))) ((getI p1 y1).bind fun p2 => ((F115 fuel x0_lots x0_holds p2.lot).bind fun r1 => (cond (r1 == x1) ((getI y5 y3).bind fun p3 => ((getI y5 y3).bind fun p4 => ((setI y5 y3 (w64 (p3 + p2.mass))).bind fun d1 => (F55_j1 k1 y1 d1)))) (F55_j1 k1 y1 y5)))) (k2 y5 (w64 (y4 + (1 : Int)))))
def F55_l2 (fuel : Nat) (k3 : (List Int) → Int → Option (List Int × Int)) (x0_lots : List Lot) (x0_holds : List (List (List Part))) (x1 : Int) (y3 : Int) (p5 : List (List Part)) : Nat → (List Int) → Int → Option (List Int × Int)
  | 0, _, _ => none
  | n2 + 1, y6, y4 =>
    let k2 : (List Int) → Int → Option (List Int × Int) := F55_l2 fuel k3 x0_lots x0_holds x1 y3 p5 n2
    (cond (decide (y4 < (p5.length : Int))) ((getI p5 y4).bind fun p1 => (F55_l3 fuel k2 x0_lots x0_holds x1 y3 y4 p1 fuel y6 0)) (k3 y6 (w64 (y3 + (1 : Int)))))
def F55_l1 (fuel : Nat) (x0_lots : List Lot) (x0_holds : List (List (List Part))) (x1 : Int) : Nat → (List Int) → Int → Option (List Int × Int)
  | 0, _, _ => none
  | n3 + 1, y7, y3 =>
    let k3 : (List Int) → Int → Option (List Int × Int) := F55_l1 fuel x0_lots x0_holds x1 n3
    (cond (decide (y3 < (9 : Int))) ((getI x0_holds y3).bind fun p5 => (F55_l2 fuel k3 x0_lots x0_holds x1 y3 p5 fuel y7 0)) (some (y7, 0)))
def F55 (fuel : Nat) (x0_lots : List Lot) (x0_holds : List (List (List Part))) (x1 : Int) : Option (List Int × Int) :=
  ((F111 fuel x0_lots x0_holds x1).bind fun r2 => (cond (r2 != (0 : Int)) (some ([], r2)) ((mkC 9 (0 : Int)).bind fun d2 => (F55_l1 fuel x0_lots x0_holds x1 fuel d2 0))))
set_option maxRecDepth 100000 in
theorem f55_ok (fuel : Nat) (x0_lots : List Lot) (x0_holds : List (List (List Part))) (x1 : Int) (r : List Int × Int) (hr : F55 fuel x0_lots x0_holds x1 = some r) (h : Zone) (L : List Atom) (w : World) (hS : St h L w) (o_x0_lots : Option Addr) (c_x0_lots : Nat) (hx_x0_lots : SliceR LotT h o_x0_lots c_x0_lots x0_lots) (v0_x0_holds v1_x0_holds v2_x0_holds v3_x0_holds v4_x0_holds v5_x0_holds v6_x0_holds v7_x0_holds v8_x0_holds : Value) (hx_x0_holds : (Ty.arr 9 (Ty.slice (Ty.slice PartT))).rep h [v0_x0_holds, v1_x0_holds, v2_x0_holds, v3_x0_holds, v4_x0_holds, v5_x0_holds, v6_x0_holds, v7_x0_holds, v8_x0_holds] x0_holds) :
    Calls Try.prog 55 #[.agg #[.slice o_x0_lots x0_lots.length c_x0_lots, v0_x0_holds, v1_x0_holds, v2_x0_holds, v3_x0_holds, v4_x0_holds, v5_x0_holds, v6_x0_holds, v7_x0_holds, v8_x0_holds], vI x1] w fun e w' => ∃ v, e = .returned v ∧ (∃ h', ∃ o0 : Option Addr, ∃ c0 : Nat, Zone.le h h' ∧ v = .tuple #[.slice o0 r.1.length c0, vI r.2] ∧ St h' L w' ∧ SliceR Ty.int h' o0 c0 r.1) := by
 refine calls_intro (N := 58) Try.func55 (by kernel_rfl) fun a hf => ?_
 refine c_sr ?_
 refine c_box [.slice o_x0_lots x0_lots.length c_x0_lots, v0_x0_holds, v1_x0_holds, v2_x0_holds, v3_x0_holds, v4_x0_holds, v5_x0_holds, v6_x0_holds, v7_x0_holds, v8_x0_holds] 26 hS hf fun b1 ww1 a1 hS1 hf1 => ⟨fun _ => trivial, ?_⟩
 refine c_t [] [1, 2] hf1 .nil fun a2 hf2 => ?_
 refine c_seq ?_
 refine c_sr ?_
 refine c_n 2 [.slice o_x0_lots x0_lots.length c_x0_lots, v0_x0_holds, v1_x0_holds, v2_x0_holds, v3_x0_holds, v4_x0_holds, v5_x0_holds, v6_x0_holds, v7_x0_holds, v8_x0_holds] [1, 2, 14, 15] hf2 (.cell (hS1.box (i := 0) rfl (j := 0) rfl) (.cell (hS1.box (i := 0) rfl (j := 1) rfl) (.cell (hS1.box (i := 0) rfl (j := 2) rfl) (.cell (hS1.box (i := 0) rfl (j := 3) rfl) (.cell (hS1.box (i := 0) rfl (j := 4) rfl) (.cell (hS1.box (i := 0) rfl (j := 5) rfl) (.cell (hS1.box (i := 0) rfl (j := 6) rfl) (.cell (hS1.box (i := 0) rfl (j := 7) rfl) (.cell (hS1.box (i := 0) rfl (j := 8) rfl) (.cell (hS1.box (i := 0) rfl (j := 9) rfl) .nil)))))))))) fun a3 hf3 => ?_
 obtain ⟨r2, hd1, hr1⟩ := bind_some hr
 refine c_call hf3 (f111_ok fuel x0_lots x0_holds x1 r2 hd1 h _ _ hS1 o_x0_lots c_x0_lots hx_x0_lots v0_x0_holds v1_x0_holds v2_x0_holds v3_x0_holds v4_x0_holds v5_x0_holds v6_x0_holds v7_x0_holds v8_x0_holds (Ty.mono _ (Zone.le_refl _) hx_x0_holds)) ?_
 rintro v1 ww2 a4 ⟨z1, k4, rfl, hS2⟩ hf4
 refine ⟨fun _ => trivial, ?_⟩
 refine c_t [] [1, 2, 6] hf4 .nil fun a5 hf5 => ?_
 refine c_sq [] [1, 2, 6, 18] hf5 .nil fun a6 hf6 => ?_
 refine c_if (r2 != (0 : Int)) hf6 (fun hb1 => ?_) (fun hb1 => ?_)
 ·have hr2 := cond_t hb1 hr1
  refine c_sq [] [4, 5] hf6 .nil fun a7 hf7 => ?_
  refine c_ret ?_
  refine r_then ?_
  refine c_rt [] (.tuple #[.slice none 0 0, vI r2]) hf7 .nil ?_
  obtain rfl := some_eq hr2
  exact ⟨_, rfl, z1, none, 0, k4, rfl, (St.drop 1 hS2), SliceR.nil' _ _⟩
 ·have hr3 := cond_f hb1 hr1
  refine c_skip ?_
  refine n_then ?_
  refine c_sr ?_
  obtain ⟨d2, hd2, hr4⟩ := bind_some hr3
  refine p_make (T := Ty.int) (i := 0) (d := some 20) (x0 := (0 : Int)) el53 hS2 hf6 (by kernel_rfl) rfl hd2 fun e1 ww3 a8 hS3 hf8 => ⟨fun _ => trivial, ?_⟩
  refine c_t [] [1, 2, 7] hf8 .nil fun a9 hf9 => ?_
  refine c_seq ?_
  refine c_sq [v0_x0_holds, v1_x0_holds, v2_x0_holds, v3_x0_holds, v4_x0_holds, v5_x0_holds, v6_x0_holds, v7_x0_holds, v8_x0_holds] [1, 2, 7, 22, 23] hf9 (.cell (hS3.box (i := 1) rfl (j := 1) rfl) (.cell (hS3.box (i := 1) rfl (j := 2) rfl) (.cell (hS3.box (i := 1) rfl (j := 3) rfl) (.cell (hS3.box (i := 1) rfl (j := 4) rfl) (.cell (hS3.box (i := 1) rfl (j := 5) rfl) (.cell (hS3.box (i := 1) rfl (j := 6) rfl) (.cell (hS3.box (i := 1) rfl (j := 7) rfl) (.cell (hS3.box (i := 1) rfl (j := 8) rfl) (.cell (hS3.box (i := 1) rfl (j := 9) rfl) .nil))))))))) fun a10 hf10 => ?_
  refine c_block 0 ?_
  refine c_loop (fun n a w => ∃ z2 : Zone, ∃ y7 : List Int, ∃ y3 : Int, Zone.le z1 z2 ∧ Fr a 58 [(1, vI x1), (2, pB b1 0), (7, .slice (some e1) y7.length d2.length), (22, .agg #[v0_x0_holds, v1_x0_holds, v2_x0_holds, v3_x0_holds, v4_x0_holds, v5_x0_holds, v6_x0_holds, v7_x0_holds, v8_x0_holds]), (23, vI y3)] ∧ St z2 (ownS Ty.int 3 (some e1) d2.length y7 :: box b1 [.slice o_x0_lots x0_lots.length c_x0_lots, v0_x0_holds, v1_x0_holds, v2_x0_holds, v3_x0_holds, v4_x0_holds, v5_x0_holds, v6_x0_holds, v7_x0_holds, v8_x0_holds] 26 :: L) w ∧ y7.length = d2.length ∧ (F55_l1 fuel x0_lots x0_holds x1 n y7 y3) = some r) fuel ⟨z1, d2, 0, (Zone.le_refl _), hf10.to, hS3, rfl, hr4⟩ ?_
  rintro n4 a11 ww4 ⟨z2, y7, y3, k5, hf12, hS4, hl1, hr5⟩
  cases n4 with
  | zero => cases hr5
  | succ n3 =>
  refine c_sq [] [1, 2, 7, 22, 23, 24] hf12 .nil fun a12 hf13 => ?_
  refine c_seq ?_
  refine c_if (decide (y3 < (9 : Int))) hf13 (fun hb2 => ?_) (fun hb2 => ?_)
  ·have hr6 := cond_t hb2 hr5
   refine c_skip ?_
   refine n_then ?_
   refine c_seq ?_
   refine c_block 1 ?_
   obtain ⟨p5, hp82656, hr7⟩ := bind_some hr6
   obtain ⟨hb3, _, hv1, e2, q1, hehv82660, hx1⟩ := arrGet (Ty.mono _ (Zone.le_trans k4 k5) hx_x0_holds) rfl hp82656
   obtain rfl := List.head_eq_of_cons_eq hehv82660
   have hk1 := arrIdx hv1
   refine c_sq [.slice e2 p5.length q1] [1, 2, 7, 8, 9, 22, 23] hf13 (.prop hb3 (.prop hk1 .nil)) fun a13 hf14 => ?_
   refine c_sq [] [1, 2, 7, 8, 22, 23, 27, 28, 29] hf14 .nil fun a14 hf15 => ?_
   refine c_block 2 ?_
   refine c_loop (fun n a w => ∃ z3 : Zone, ∃ y6 : List Int, ∃ y4 : Int, Zone.le z2 z3 ∧ Fr a 58 [(1, vI x1), (2, pB b1 0), (7, .slice (some e1) y6.length d2.length), (8, vI y3), (22, .agg #[v0_x0_holds, v1_x0_holds, v2_x0_holds, v3_x0_holds, v4_x0_holds, v5_x0_holds, v6_x0_holds, v7_x0_holds, v8_x0_holds]), (23, vI y3), (27, .slice e2 p5.length q1), (28, vI (p5.length : Int)), (29, vI y4)] ∧ St z3 (ownS Ty.int 3 (some e1) d2.length y6 :: box b1 [.slice o_x0_lots x0_lots.length c_x0_lots, v0_x0_holds, v1_x0_holds, v2_x0_holds, v3_x0_holds, v4_x0_holds, v5_x0_holds, v6_x0_holds, v7_x0_holds, v8_x0_holds] 26 :: L) w ∧ y6.length = d2.length ∧ (F55_l2 fuel (F55_l1 fuel x0_lots x0_holds x1 n3) x0_lots x0_holds x1 y3 p5 n y6 y4) = some r) fuel ⟨z2, y7, 0, (Zone.le_refl _), hf15.to, hS4, hl1, hr7⟩ ?_
   rintro n5 a15 ww5 ⟨z3, y6, y4, k6, hf17, hS5, hl2, hr8⟩
   cases n5 with
   | zero => cases hr8
   | succ n2 =>
   refine c_sq [] [1, 2, 7, 8, 22, 23, 27, 28, 29, 30] hf17 .nil fun a16 hf18 => ?_
   refine c_seq ?_
   refine c_if (decide (y4 < (p5.length : Int))) hf18 (fun hb4 => ?_) (fun hb4 => ?_)
   ·have hr9 := cond_t hb4 hr8
    refine c_skip ?_
    refine n_then ?_
    refine c_seq ?_
    refine c_block 3 ?_
    refine c_sr ?_
    obtain ⟨p1, hp87474, hr10⟩ := bind_some hr9
    obtain ⟨ad1, ho1, hb5, cc1, hc1, hk2⟩ := SliceR.getI (SliceR.mono k6 hx1) hp87474
    obtain ⟨e3, q2, rfl, hx2⟩ := hc1
    refine c_n 2 [.pointer (some ad1), .slice e3 p1.length q2] [1, 2, 7, 8, 22, 23, 27, 28, 29, 32] hf18 (.prop ho1 (.prop hb5 (.cell (hS5.cell (hk2 0 _ rfl)) .nil))) fun a17 hf19 => ?_
    refine c_box [.slice none 0 0] 40 hS5 hf19 fun b2 ww6 a18 hS6 hf20 => ⟨fun _ => trivial, ?_⟩
    refine c_st 0 [.slice e3 p1.length q2] hS6 hf20 rfl fun ww7 a19 hS7 hf21 => ⟨fun _ => trivial, ?_⟩
    refine c_dt ?_
    refine c_sq [.slice e3 p1.length q2] [1, 2, 7, 8, 22, 23, 27, 28, 29, 34, 35, 36] hf21 (.cell (hS7.box (i := 0) rfl (j := 0) rfl) .nil) fun a20 hf22 => ?_
    refine c_block 4 ?_
    refine c_loop (fun n a w => ∃ z4 : Zone, ∃ y5 : List Int, ∃ y1 : Int, Zone.le z3 z4 ∧ Fr a 58 [(1, vI x1), (2, pB b1 0), (7, .slice (some e1) y5.length d2.length), (8, vI y3), (22, .agg #[v0_x0_holds, v1_x0_holds, v2_x0_holds, v3_x0_holds, v4_x0_holds, v5_x0_holds, v6_x0_holds, v7_x0_holds, v8_x0_holds]), (23, vI y3), (27, .slice e2 p5.length q1), (28, vI (p5.length : Int)), (29, vI y4), (34, .slice e3 p1.length q2), (35, vI (p1.length : Int)), (36, vI y1)] ∧ St z4 (box b2 [.slice e3 p1.length q2] 40 :: ownS Ty.int 3 (some e1) d2.length y5 :: box b1 [.slice o_x0_lots x0_lots.length c_x0_lots, v0_x0_holds, v1_x0_holds, v2_x0_holds, v3_x0_holds, v4_x0_holds, v5_x0_holds, v6_x0_holds, v7_x0_holds, v8_x0_holds] 26 :: L) w ∧ y5.length = d2.length ∧ (F55_l3 fuel (F55_l2 fuel (F55_l1 fuel x0_lots x0_holds x1 n3) x0_lots x0_holds x1 y3 p5 n2) x0_lots x0_holds x1 y3 y4 p1 n y5 y1) = some r) fuel ⟨z3, y6, 0, (Zone.le_refl _), hf22.to, hS7, hl2, hr10⟩ ?_
    rintro n6 a21 ww8 ⟨z4, y5, y1, k7, hf24, hS8, hl3, hr11⟩
    cases n6 with
    | zero => cases hr11
    | succ n1 =>
    refine c_sq [] [1, 2, 7, 8, 22, 23, 27, 28, 29, 34, 35, 36, 37] hf24 .nil fun a22 hf25 => ?_
    refine c_seq ?_
    refine c_if (decide (y1 < (p1.length : Int))) hf25 (fun hb6 => ?_) (fun hb6 => ?_)
    ·have hr12 := cond_t hb6 hr11
     refine c_skip ?_
     refine n_then ?_
     refine c_mid (fun a w => ∃ z5 : Zone, ∃ y2 : List Int, Zone.le z4 z5 ∧ Fr a 58 [(1, vI x1), (2, pB b1 0), (7, .slice (some e1) y2.length d2.length), (8, vI y3), (22, .agg #[v0_x0_holds, v1_x0_holds, v2_x0_holds, v3_x0_holds, v4_x0_holds, v5_x0_holds, v6_x0_holds, v7_x0_holds, v8_x0_holds]), (23, vI y3), (27, .slice e2 p5.length q1), (28, vI (p5.length : Int)), (29, vI y4), (34, .slice e3 p1.length q2), (35, vI (p1.length : Int)), (36, vI y1)] ∧ St z5 (box b2 [.slice e3 p1.length q2] 40 :: ownS Ty.int 3 (some e1) d2.length y2 :: box b1 [.slice o_x0_lots x0_lots.length c_x0_lots, v0_x0_holds, v1_x0_holds, v2_x0_holds, v3_x0_holds, v4_x0_holds, v5_x0_holds, v6_x0_holds, v7_x0_holds, v8_x0_holds] 26 :: L) w ∧ y2.length = d2.length ∧ (F55_j1 (F55_l3 fuel (F55_l2 fuel (F55_l1 fuel x0_lots x0_holds x1 n3) x0_lots x0_holds x1 y3 p5 n2) x0_lots x0_holds x1 y3 y4 p1 n1) y1 y2) = some r) ?_ ?_
     ·skip
      refine c_block 5 ?_
      refine c_sr ?_
      obtain ⟨p2, hp88154, hr13⟩ := bind_some hr12
      obtain ⟨ad2, ho2, hb7, cc2, hc2, hk3⟩ := SliceR.getI (SliceR.mono k7 hx2) hp88154
      subst hc2
      refine c_n 2 [.pointer (some ad2), vI p2.lot, vI p2.mass] [1, 2, 7, 8, 22, 23, 27, 28, 29, 34, 35, 36, 39] hf25 (.prop ho2 (.prop hb7 (.cell (hS8.cell (hk3 0 _ rfl)) (.cell (hS8.cell (hk3 1 _ rfl)) .nil)))) fun a23 hf26 => ?_
      refine c_box [vI 0, vI 0] 56 hS8 hf26 fun b3 ww9 a24 hS9 hf27 => ⟨fun _ => trivial, ?_⟩
      refine c_st 0 [vI p2.lot, vI p2.mass] hS9 hf27 rfl fun ww10 a25 hS10 hf28 => ⟨fun _ => trivial, ?_⟩
      refine c_dt ?_
      refine c_sr ?_
      refine c_n 3 [.slice o_x0_lots x0_lots.length c_x0_lots, v0_x0_holds, v1_x0_holds, v2_x0_holds, v3_x0_holds, v4_x0_holds, v5_x0_holds, v6_x0_holds, v7_x0_holds, v8_x0_holds, vI p2.lot] [1, 2, 7, 8, 13, 22, 23, 27, 28, 29, 34, 35, 36, 40, 42] hf28 (.cell (hS10.box (i := 3) rfl (j := 0) rfl) (.cell (hS10.box (i := 3) rfl (j := 1) rfl) (.cell (hS10.box (i := 3) rfl (j := 2) rfl) (.cell (hS10.box (i := 3) rfl (j := 3) rfl) (.cell (hS10.box (i := 3) rfl (j := 4) rfl) (.cell (hS10.box (i := 3) rfl (j := 5) rfl) (.cell (hS10.box (i := 3) rfl (j := 6) rfl) (.cell (hS10.box (i := 3) rfl (j := 7) rfl) (.cell (hS10.box (i := 3) rfl (j := 8) rfl) (.cell (hS10.box (i := 3) rfl (j := 9) rfl) (.cell (hS10.box (i := 0) rfl (j := 0) rfl) .nil))))))))))) fun a26 hf29 => ?_
      obtain ⟨r1, hd3, hr14⟩ := bind_some hr13
      refine c_call hf29 (f115_ok fuel x0_lots x0_holds p2.lot r1 hd3 z4 _ _ hS10 o_x0_lots c_x0_lots (SliceR.mono (Zone.le_trans (Zone.le_trans (Zone.le_trans k4 k5) k6) k7) hx_x0_lots) v0_x0_holds v1_x0_holds v2_x0_holds v3_x0_holds v4_x0_holds v5_x0_holds v6_x0_holds v7_x0_holds v8_x0_holds (Ty.mono _ (Zone.le_trans (Zone.le_trans (Zone.le_trans k4 k5) k6) k7) hx_x0_holds)) ?_
      rintro v2 ww11 a27 ⟨z6, k8, rfl, hS11⟩ hf30
      refine ⟨fun _ => trivial, ?_⟩
      refine c_t [] [1, 2, 7, 8, 13, 22, 23, 27, 28, 29, 34, 35, 36, 45] hf30 .nil fun a28 hf31 => ?_
      refine c_if (r1 == x1) hf31 (fun hb8 => ?_) (fun hb8 => ?_)
      ·have hr15 := cond_t hb8 hr14
       have hS12 := hS11.drew
       refine c_regD [(0, true), (1, true), (2, true), (3, true), (4, true), (5, true), (6, true), (7, true), (8, false)] [8] (fun x => x = ww11.drew) rfl ?_
       obtain ⟨p3, hp88197, hr16⟩ := bind_some hr15
       obtain ⟨ad3, ho3, hb9, cc3, hc3, hk4⟩ := hS12.ownGet (j := 2) rfl hp88197
       subst hc3
       obtain ⟨p4, hp88206, hr17⟩ := bind_some hr16
       obtain ⟨ad4, ho4, hb10, cc4, hc4, hk5⟩ := hS12.ownGet (j := 2) rfl hp88206
       subst hc4
       refine c_E 8 [.pointer (some ad3), vI p3, vI p2.mass, .pointer (some ad4)] [1, 2, 7, 8, 22, 23, 27, 28, 29, 34, 35, 36, 52, 53] hf31 (.prop ho3 (.prop hb9 (.cell (hk4 0 _ rfl) (.cell (hS12.box (i := 0) rfl (j := 1) rfl) (.prop ho4 (.prop hb10 .nil)))))) .nil fun a29 hf32 => ?_
       obtain ⟨d1, hd4, hr18⟩ := bind_some hr17
       have hl4 := setI_len hd4
       refine p_setOwnI (i := 8) (j := 2) (ad := ad4) (ix := y3) (x' := (w64 (p3 + p2.mass))) hS12 hf32 rfl ho4 (by kernel_rfl) hd4 fun ww12 a30 hS13 hf33 => ?_
       have hf34 := Fr.conv (fl' := [(1, vI x1), (2, pB b1 0), (7, .slice (some e1) d1.length d2.length), (8, vI y3), (22, .agg #[v0_x0_holds, v1_x0_holds, v2_x0_holds, v3_x0_holds, v4_x0_holds, v5_x0_holds, v6_x0_holds, v7_x0_holds, v8_x0_holds]), (23, vI y3), (27, .slice e2 p5.length q1), (28, vI (p5.length : Int)), (29, vI y4), (34, .slice e3 p1.length q2), (35, vI (p1.length : Int)), (36, vI y1), (52, vI (w64 (p3 + p2.mass))), (53, .pointer (some (ad4.add (Int.toNat y3 * 1))))]) hf33 (by rw [hl4] <;> kernel_rfl)
       refine ⟨fun e => absurd e (by decide), ?_⟩
       refine c_done ?_
       refine n_block ?_
       refine n_then ?_
       exact ⟨z6, d1, k8, hf34.to, (St.drop 1 hS13), (hl4.symm.trans hl3), hr18⟩
      ·have hr19 := cond_f hb8 hr14
       refine c_skip ?_
       refine n_block ?_
       refine n_then ?_
       exact ⟨z6, y5, k8, hf31.to, (St.drop 1 hS11), hl3, hr19⟩
     ·rintro a31 ww13 ⟨z5, y2, k9, hf37, hS14, hl5, hr20⟩
      refine c_q [] [1, 2, 7, 8, 22, 23, 27, 28, 29, 34, 35, 36] hf37 .nil fun a32 hf38 => ?_
      refine n_then ?_
      exact ⟨n1, Nat.lt_succ_self n1, z5, y2, (w64 (y1 + (1 : Int))), (Zone.le_trans k7 k9), hf38.to, hS14, hl5, hr20⟩
    ·have hr21 := cond_f hb6 hr11
     refine c_exit 4 ?_
     refine x_then ?_
     refine x_then ?_
     refine x_block ?_
     refine n_block ?_
     refine n_then ?_
     refine c_q [] [1, 2, 7, 8, 22, 23, 27, 28, 29] hf25 .nil fun a33 hf40 => ?_
     refine n_then ?_
     exact ⟨n2, Nat.lt_succ_self n2, z4, y5, (w64 (y4 + (1 : Int))), (Zone.le_trans k6 k7), hf40.to, (St.drop 1 hS8), hl3, hr21⟩
   ·have hr22 := cond_f hb4 hr8
    refine c_exit 2 ?_
    refine x_then ?_
    refine x_then ?_
    refine x_block ?_
    refine n_block ?_
    refine n_then ?_
    refine c_q [] [1, 2, 7, 22, 23] hf18 .nil fun a34 hf42 => ?_
    refine n_then ?_
    exact ⟨n3, Nat.lt_succ_self n3, z3, y6, (w64 (y3 + (1 : Int))), (Zone.le_trans k5 k6), hf42.to, hS5, hl2, hr22⟩
  ·have hr23 := cond_f hb2 hr5
   refine c_exit 0 ?_
   refine x_then ?_
   refine x_then ?_
   refine x_block ?_
   refine n_then ?_
   refine c_sq [] [4, 5] hf13 .nil fun a35 hf44 => ?_
   refine c_ret ?_
   obtain ⟨z7, k10, hS15, hx3⟩ := hS4.share (j := 0) rfl
   refine c_rt [] (.tuple #[.slice (some e1) y7.length d2.length, vI 0]) hf44 .nil ?_
   obtain rfl := some_eq hr23
   exact ⟨_, rfl, z7, (some e1), d2.length, (Zone.le_trans (Zone.le_trans k4 k5) k10), rfl, (St.drop 2 hS15), hx3⟩
def F120 (fuel : Nat) (x0_lots : List Lot) (x0_holds : List (List (List Part))) (x1 : Int) : Option (Int) :=
  ((F56 fuel x0_lots x1).bind fun r1 => ((getI x0_lots r1).bind fun p1 => (some (p1.owner))))
set_option maxRecDepth 100000 in
theorem f120_ok (fuel : Nat) (x0_lots : List Lot) (x0_holds : List (List (List Part))) (x1 : Int) (r : Int) (hr : F120 fuel x0_lots x0_holds x1 = some r) (h : Zone) (L : List Atom) (w : World) (hS : St h L w) (o_x0_lots : Option Addr) (c_x0_lots : Nat) (hx_x0_lots : SliceR LotT h o_x0_lots c_x0_lots x0_lots) (v0_x0_holds v1_x0_holds v2_x0_holds v3_x0_holds v4_x0_holds v5_x0_holds v6_x0_holds v7_x0_holds v8_x0_holds : Value) (hx_x0_holds : (Ty.arr 9 (Ty.slice (Ty.slice PartT))).rep h [v0_x0_holds, v1_x0_holds, v2_x0_holds, v3_x0_holds, v4_x0_holds, v5_x0_holds, v6_x0_holds, v7_x0_holds, v8_x0_holds] x0_holds) :
    Calls Try.prog 120 #[.agg #[.slice o_x0_lots x0_lots.length c_x0_lots, v0_x0_holds, v1_x0_holds, v2_x0_holds, v3_x0_holds, v4_x0_holds, v5_x0_holds, v6_x0_holds, v7_x0_holds, v8_x0_holds], vI x1] w fun e w' => ∃ v, e = .returned v ∧ (∃ h', Zone.le h h' ∧ v = vI r ∧ St h' L w') := by
 refine calls_intro (N := 14) Try.func120 (by kernel_rfl) fun a hf => ?_
 refine c_sr ?_
 refine c_box [.slice o_x0_lots x0_lots.length c_x0_lots, v0_x0_holds, v1_x0_holds, v2_x0_holds, v3_x0_holds, v4_x0_holds, v5_x0_holds, v6_x0_holds, v7_x0_holds, v8_x0_holds] 26 hS hf fun b1 ww1 a1 hS1 hf1 => ⟨fun _ => trivial, ?_⟩
 refine c_t [] [1, 2] hf1 .nil fun a2 hf2 => ?_
 refine c_seq ?_
 have hS2 := hS1.drew
 have s1 : Sub h (box b1 [.slice o_x0_lots x0_lots.length c_x0_lots, v0_x0_holds, v1_x0_holds, v2_x0_holds, v3_x0_holds, v4_x0_holds, v5_x0_holds, v6_x0_holds, v7_x0_holds, v8_x0_holds] 26 :: L) _ := Sub.of (Zone.le_refl _) hS2
 refine c_regD [(0, true), (1, true), (2, true), (3, true), (4, true), (5, false), (6, true), (7, true), (8, true), (9, true)] [] (Sub h (box b1 [.slice o_x0_lots x0_lots.length c_x0_lots, v0_x0_holds, v1_x0_holds, v2_x0_holds, v3_x0_holds, v4_x0_holds, v5_x0_holds, v6_x0_holds, v7_x0_holds, v8_x0_holds] 26 :: L)) s1 ?_
 refine c_S 5 [.slice o_x0_lots x0_lots.length c_x0_lots, .slice o_x0_lots x0_lots.length c_x0_lots] [6, 8, 9] s1 hf2 (fun _ s => (.cell (s.box (i := 0) rfl (j := 0) rfl) (.cell (s.box (i := 0) rfl (j := 0) rfl) .nil))) .nil fun a3 hf3 => ?_
 obtain ⟨r1, hd1, hr1⟩ := bind_some hr
 refine c_call hf3 (f56_ok fuel x0_lots x1 r1 hd1 h _ _ hS2 o_x0_lots c_x0_lots hx_x0_lots) ?_
 rintro v1 ww2 a4 ⟨z1, k1, rfl, hS3⟩ hf4
 refine ⟨fun _ => Sub.of k1 hS3, ?_⟩
 have s2 : Sub h (box b1 [.slice o_x0_lots x0_lots.length c_x0_lots, v0_x0_holds, v1_x0_holds, v2_x0_holds, v3_x0_holds, v4_x0_holds, v5_x0_holds, v6_x0_holds, v7_x0_holds, v8_x0_holds] 26 :: L) _ := Sub.of k1 hS3
 obtain ⟨p1, hp29, hr2⟩ := bind_some hr1
 obtain ⟨ad1, ho1, hb1, cc1, hc1, hk1⟩ := SliceR.getI hx_x0_lots hp29
 subst hc1
 refine c_S 4 [.pointer (some ad1), vI p1.owner] [4] s2 hf4 (fun _ s => (.prop ho1 (.prop hb1 (.cell (s.cell (hk1 1 _ rfl)) .nil)))) .nil fun a5 hf5 => ?_
 refine c_dt ?_
 refine c_ret ?_
 refine c_rt [] (vI p1.owner) hf5 .nil ?_
 obtain rfl := some_eq hr2
 exact ⟨_, rfl, z1, k1, rfl, (St.drop 1 hS3)⟩
def F116_j1 (k1 : Int → Int → Option (Int)) (y1 : Int) (y2 : Int) : Option (Int) :=
  (k1 y2 (w64 (y1 + (1 : Int))))
def F116_l1 (fuel : Nat) (x0_lots : List Lot) (x0_holds : List (List (List Part))) (x1 : List Part) (x2 : Int) : Nat → Int → Int → Option (Int)
  | 0, _, _ => none
  | n1 + 1, y3, y1 =>
    let k1 : Int → Int → Option (Int) := F116_l1 fuel x0_lots x0_holds x1 x2 n1
    (cond (decide (y1 < (x1.length : Int))) ((getI x1 y1).bind fun p1 => ((F120 fuel x0_lots x0_holds p1.lot).bind fun r1 => (cond (r1 == x2) ((getI x1 y1).bind fun p2 => (F116_j1 k1 y1 (w64 (y3 + p2.mass)))) (F116_j1 k1 y1 y3)))) (some (y3)))
def F116 (fuel : Nat) (x0_lots : List Lot) (x0_holds : List (List (List Part))) (x1 : List Part) (x2 : Int) : Option (Int) :=
  (F116_l1 fuel x0_lots x0_holds x1 x2 fuel 0 0)
set_option maxRecDepth 100000 in
theorem f116_ok (fuel : Nat) (x0_lots : List Lot) (x0_holds : List (List (List Part))) (x1 : List Part) (x2 : Int) (r : Int) (hr : F116 fuel x0_lots x0_holds x1 x2 = some r) (h : Zone) (L : List Atom) (w : World) (hS : St h L w) (o_x0_lots : Option Addr) (c_x0_lots : Nat) (hx_x0_lots : SliceR LotT h o_x0_lots c_x0_lots x0_lots) (v0_x0_holds v1_x0_holds v2_x0_holds v3_x0_holds v4_x0_holds v5_x0_holds v6_x0_holds v7_x0_holds v8_x0_holds : Value) (hx_x0_holds : (Ty.arr 9 (Ty.slice (Ty.slice PartT))).rep h [v0_x0_holds, v1_x0_holds, v2_x0_holds, v3_x0_holds, v4_x0_holds, v5_x0_holds, v6_x0_holds, v7_x0_holds, v8_x0_holds] x0_holds) (o_x1 : Option Addr) (c_x1 : Nat) (hx_x1 : SliceR PartT h o_x1 c_x1 x1) :
    Calls Try.prog 116 #[.agg #[.slice o_x0_lots x0_lots.length c_x0_lots, v0_x0_holds, v1_x0_holds, v2_x0_holds, v3_x0_holds, v4_x0_holds, v5_x0_holds, v6_x0_holds, v7_x0_holds, v8_x0_holds], .agg #[.slice o_x1 x1.length c_x1], vI x2] w fun e w' => ∃ v, e = .returned v ∧ (∃ h', Zone.le h h' ∧ v = vI r ∧ St h' L w') := by
 refine calls_intro (N := 35) Try.func116 (by kernel_rfl) fun a hf => ?_
 refine c_sr ?_
 refine c_box [.slice o_x0_lots x0_lots.length c_x0_lots, v0_x0_holds, v1_x0_holds, v2_x0_holds, v3_x0_holds, v4_x0_holds, v5_x0_holds, v6_x0_holds, v7_x0_holds, v8_x0_holds] 26 hS hf fun b1 ww1 a1 hS1 hf1 => ⟨fun _ => trivial, ?_⟩
 refine c_box [.slice o_x1 x1.length c_x1] 40 hS1 hf1 fun b2 ww2 a2 hS2 hf2 => ⟨fun _ => trivial, ?_⟩
 refine c_t [] [2, 3, 4] hf2 .nil fun a3 hf3 => ?_
 refine c_sq [] [2, 3, 4, 7] hf3 .nil fun a4 hf4 => ?_
 refine c_seq ?_
 refine c_sq [] [2, 3, 4, 7, 8] hf4 .nil fun a5 hf5 => ?_
 refine c_block 0 ?_
 refine c_loop (fun n a w => ∃ z1 : Zone, ∃ y3 : Int, ∃ y1 : Int, Zone.le h z1 ∧ Fr a 35 [(2, vI x2), (3, pB b1 0), (4, pB b2 0), (7, vI y3), (8, vI y1)] ∧ St z1 (box b2 [.slice o_x1 x1.length c_x1] 40 :: box b1 [.slice o_x0_lots x0_lots.length c_x0_lots, v0_x0_holds, v1_x0_holds, v2_x0_holds, v3_x0_holds, v4_x0_holds, v5_x0_holds, v6_x0_holds, v7_x0_holds, v8_x0_holds] 26 :: L) w ∧ (F116_l1 fuel x0_lots x0_holds x1 x2 n y3 y1) = some r) fuel ⟨h, 0, 0, (Zone.le_refl _), hf5.to, hS2, hr⟩ ?_
 rintro n2 a6 ww3 ⟨z1, y3, y1, k2, hf7, hS3, hr1⟩
 cases n2 with
 | zero => cases hr1
 | succ n1 =>
 refine c_seq ?_
 refine c_sq [.slice o_x1 x1.length c_x1] [2, 3, 4, 7, 8, 13] hf7 (.cell (hS3.box (i := 0) rfl (j := 0) rfl) .nil) fun a7 hf8 => ?_
 refine c_if (decide (y1 < (x1.length : Int))) hf8 (fun hb1 => ?_) (fun hb1 => ?_)
 ·have hr2 := cond_t hb1 hr1
  refine c_skip ?_
  refine n_then ?_
  refine c_mid (fun a w => ∃ z2 : Zone, ∃ y2 : Int, Zone.le z1 z2 ∧ Fr a 35 [(2, vI x2), (3, pB b1 0), (4, pB b2 0), (7, vI y2), (8, vI y1)] ∧ St z2 (box b2 [.slice o_x1 x1.length c_x1] 40 :: box b1 [.slice o_x0_lots x0_lots.length c_x0_lots, v0_x0_holds, v1_x0_holds, v2_x0_holds, v3_x0_holds, v4_x0_holds, v5_x0_holds, v6_x0_holds, v7_x0_holds, v8_x0_holds] 26 :: L) w ∧ (F116_j1 (F116_l1 fuel x0_lots x0_holds x1 x2 n1) y1 y2) = some r) ?_ ?_
  ·skip
   refine c_block 1 ?_
   refine c_seq ?_
   have hS4 := hS3.drew
   refine c_regD [(0, true), (1, true), (2, true), (3, true), (4, true), (5, true), (6, true), (8, true), (7, false), (9, true)] [7] (fun x => x = ww3.drew) rfl ?_
   obtain ⟨p1, hp867, hr3⟩ := bind_some hr2
   obtain ⟨ad1, ho1, hb2, cc1, hc1, hk1⟩ := SliceR.getI (SliceR.mono k2 hx_x1) hp867
   subst hc1
   refine c_E 8 [.slice o_x0_lots x0_lots.length c_x0_lots, v0_x0_holds, v1_x0_holds, v2_x0_holds, v3_x0_holds, v4_x0_holds, v5_x0_holds, v6_x0_holds, v7_x0_holds, v8_x0_holds, .slice o_x1 x1.length c_x1, .pointer (some ad1), vI p1.lot] [2, 3, 4, 7, 8, 16, 22, 24] hf8 (.cell (hS4.box (i := 1) rfl (j := 0) rfl) (.cell (hS4.box (i := 1) rfl (j := 1) rfl) (.cell (hS4.box (i := 1) rfl (j := 2) rfl) (.cell (hS4.box (i := 1) rfl (j := 3) rfl) (.cell (hS4.box (i := 1) rfl (j := 4) rfl) (.cell (hS4.box (i := 1) rfl (j := 5) rfl) (.cell (hS4.box (i := 1) rfl (j := 6) rfl) (.cell (hS4.box (i := 1) rfl (j := 7) rfl) (.cell (hS4.box (i := 1) rfl (j := 8) rfl) (.cell (hS4.box (i := 1) rfl (j := 9) rfl) (.cell (hS4.box (i := 0) rfl (j := 0) rfl) (.prop ho1 (.prop hb2 (.cell (hS4.cell (hk1 0 _ rfl)) .nil)))))))))))))) .nil fun a8 hf9 => ?_
   obtain ⟨r1, hd1, hr4⟩ := bind_some hr3
   refine c_call hf9 (f120_ok fuel x0_lots x0_holds p1.lot r1 hd1 z1 _ _ hS4 o_x0_lots c_x0_lots (SliceR.mono k2 hx_x0_lots) v0_x0_holds v1_x0_holds v2_x0_holds v3_x0_holds v4_x0_holds v5_x0_holds v6_x0_holds v7_x0_holds v8_x0_holds (Ty.mono _ k2 hx_x0_holds)) ?_
   rintro v1 ww4 a9 ⟨z3, k3, rfl, hS5⟩ hf10
   refine ⟨fun e => absurd e (by decide), ?_⟩
   refine p_qP 1 [] [(2, vI x2), (3, pB b1 0), (4, pB b2 0), (7, vI y3), (8, vI y1), (25, .bool (r1 == x2))] [] hf10 (by kernel_rfl) (fun _ => .nil) fun a10 hf11 => ?_
   refine c_dt ?_
   refine c_if (r1 == x2) hf11 (fun hb3 => ?_) (fun hb3 => ?_)
   ·have hr5 := cond_t hb3 hr4
    obtain ⟨p2, hp898, hr6⟩ := bind_some hr5
    obtain ⟨ad2, ho2, hb4, cc2, hc2, hk2⟩ := SliceR.getI (SliceR.mono (Zone.le_trans k2 k3) hx_x1) hp898
    subst hc2
    refine c_q [.slice o_x1 x1.length c_x1, .pointer (some ad2), vI p2.mass] [2, 3, 4, 7, 8] hf11 (.cell (hS5.box (i := 0) rfl (j := 0) rfl) (.prop ho2 (.prop hb4 (.cell (hS5.cell (hk2 1 _ rfl)) .nil)))) fun a11 hf12 => ?_
    refine n_block ?_
    refine n_then ?_
    exact ⟨z3, (w64 (y3 + p2.mass)), k3, hf12.to, hS5, hr6⟩
   ·have hr7 := cond_f hb3 hr4
    refine c_skip ?_
    refine n_block ?_
    refine n_then ?_
    exact ⟨z3, y3, k3, hf11.to, hS5, hr7⟩
  ·rintro a12 ww5 ⟨z2, y2, k4, hf15, hS6, hr8⟩
   refine c_q [] [2, 3, 4, 7, 8] hf15 .nil fun a13 hf16 => ?_
   refine n_then ?_
   exact ⟨n1, Nat.lt_succ_self n1, z2, y2, (w64 (y1 + (1 : Int))), (Zone.le_trans k2 k4), hf16.to, hS6, hr8⟩
 ·have hr9 := cond_f hb1 hr1
  refine c_exit 0 ?_
  refine x_then ?_
  refine x_then ?_
  refine x_block ?_
  refine n_then ?_
  refine c_sq [] [6] hf8 .nil fun a14 hf18 => ?_
  refine c_ret ?_
  refine c_rt [] (vI y3) hf18 .nil ?_
  obtain rfl := some_eq hr9
  exact ⟨_, rfl, z1, k2, rfl, (St.drop 2 hS3)⟩
def F57_l2 (fuel : Nat) (k1 : (List Int) → Int → Option (List Int × Int)) (x0_lots : List Lot) (x0_holds : List (List (List Part))) (x1 : Int) (y1 : List Int) (y2 : Int) : Nat → Int → Int → Option (List Int × Int)
  | 0, _, _ => none
  | n1 + 1, y3, y4 =>
    let k2 : Int → Int → Option (List Int × Int) := F57_l2 fuel k1 x0_lots x0_holds x1 y1 y2 n1
    ((getI x0_holds y2).bind fun p1 => (cond (decide (y4 < (p1.length : Int))) ((getI x0_holds y2).bind fun p2 => ((getI p2 y4).bind fun p3 => ((F116 fuel x0_lots x0_holds p3 x1).bind fun r1 => (k2 (w64 (y3 + r1)) (w64 (y4 + (1 : Int))))))) ((appC y1 ([y3])).bind fun d1 => (k1 d1 (w64 (y2 + (1 : Int)))))))
def F57_l1 (fuel : Nat) (x0_lots : List Lot) (x0_holds : List (List (List Part))) (x1 : Int) : Nat → (List Int) → Int → Option (List Int × Int)
  | 0, _, _ => none
  | n2 + 1, y1, y2 =>
    let k1 : (List Int) → Int → Option (List Int × Int) := F57_l1 fuel x0_lots x0_holds x1 n2
    (cond (decide (y2 < (9 : Int))) (F57_l2 fuel k1 x0_lots x0_holds x1 y1 y2 fuel 0 0) (some (y1, 0)))
def F57 (fuel : Nat) (x0_lots : List Lot) (x0_holds : List (List (List Part))) (x1 : Int) : Option (List Int × Int) :=
  ((F22 fuel x0_lots x0_holds).bind fun r2 => (cond (r2 != (0 : Int)) (some ([], 62)) ((F72 fuel x1 1 9).bind fun r3 => (cond (!r3) (some ([], 1)) (F57_l1 fuel x0_lots x0_holds x1 fuel ([]) 0)))))
set_option maxRecDepth 100000 in
theorem f57_ok (fuel : Nat) (x0_lots : List Lot) (x0_holds : List (List (List Part))) (x1 : Int) (r : List Int × Int) (hr : F57 fuel x0_lots x0_holds x1 = some r) (h : Zone) (L : List Atom) (w : World) (hS : St h L w) (o_x0_lots : Option Addr) (c_x0_lots : Nat) (hx_x0_lots : SliceR LotT h o_x0_lots c_x0_lots x0_lots) (v0_x0_holds v1_x0_holds v2_x0_holds v3_x0_holds v4_x0_holds v5_x0_holds v6_x0_holds v7_x0_holds v8_x0_holds : Value) (hx_x0_holds : (Ty.arr 9 (Ty.slice (Ty.slice PartT))).rep h [v0_x0_holds, v1_x0_holds, v2_x0_holds, v3_x0_holds, v4_x0_holds, v5_x0_holds, v6_x0_holds, v7_x0_holds, v8_x0_holds] x0_holds) :
    Calls Try.prog 57 #[.agg #[.slice o_x0_lots x0_lots.length c_x0_lots, v0_x0_holds, v1_x0_holds, v2_x0_holds, v3_x0_holds, v4_x0_holds, v5_x0_holds, v6_x0_holds, v7_x0_holds, v8_x0_holds], vI x1] w fun e w' => ∃ v, e = .returned v ∧ (∃ h', ∃ o0 : Option Addr, ∃ c0 : Nat, Zone.le h h' ∧ v = .tuple #[.slice o0 r.1.length c0, vI r.2] ∧ St h' L w' ∧ SliceR Ty.int h' o0 c0 r.1) := by
 refine calls_intro (N := 46) Try.func57 (by kernel_rfl) fun a hf => ?_
 refine c_sr ?_
 refine c_box [.slice o_x0_lots x0_lots.length c_x0_lots, v0_x0_holds, v1_x0_holds, v2_x0_holds, v3_x0_holds, v4_x0_holds, v5_x0_holds, v6_x0_holds, v7_x0_holds, v8_x0_holds] 26 hS hf fun b1 ww1 a1 hS1 hf1 => ⟨fun _ => trivial, ?_⟩
 refine c_t [] [1, 2] hf1 .nil fun a2 hf2 => ?_
 refine c_seq ?_
 refine c_sr ?_
 refine c_n 1 [.slice o_x0_lots x0_lots.length c_x0_lots, v0_x0_holds, v1_x0_holds, v2_x0_holds, v3_x0_holds, v4_x0_holds, v5_x0_holds, v6_x0_holds, v7_x0_holds, v8_x0_holds] [1, 2, 10] hf2 (.cell (hS1.box (i := 0) rfl (j := 0) rfl) (.cell (hS1.box (i := 0) rfl (j := 1) rfl) (.cell (hS1.box (i := 0) rfl (j := 2) rfl) (.cell (hS1.box (i := 0) rfl (j := 3) rfl) (.cell (hS1.box (i := 0) rfl (j := 4) rfl) (.cell (hS1.box (i := 0) rfl (j := 5) rfl) (.cell (hS1.box (i := 0) rfl (j := 6) rfl) (.cell (hS1.box (i := 0) rfl (j := 7) rfl) (.cell (hS1.box (i := 0) rfl (j := 8) rfl) (.cell (hS1.box (i := 0) rfl (j := 9) rfl) .nil)))))))))) fun a3 hf3 => ?_
 obtain ⟨r2, hd1, hr1⟩ := bind_some hr
 refine c_call hf3 (f22_ok fuel x0_lots x0_holds r2 hd1 h _ _ hS1 o_x0_lots c_x0_lots hx_x0_lots v0_x0_holds v1_x0_holds v2_x0_holds v3_x0_holds v4_x0_holds v5_x0_holds v6_x0_holds v7_x0_holds v8_x0_holds (Ty.mono _ (Zone.le_refl _) hx_x0_holds)) ?_
 rintro v1 ww2 a4 ⟨z1, k3, rfl, hS2⟩ hf4
 refine ⟨fun _ => trivial, ?_⟩
 refine c_t [] [1, 2, 12] hf4 .nil fun a5 hf5 => ?_
 refine c_if (r2 != (0 : Int)) hf5 (fun hb1 => ?_) (fun hb1 => ?_)
 ·have hr2 := cond_t hb1 hr1
  refine c_sq [] [4, 5] hf5 .nil fun a6 hf6 => ?_
  refine c_ret ?_
  refine r_then ?_
  refine c_rt [] (.tuple #[.slice none 0 0, vI 62]) hf6 .nil ?_
  obtain rfl := some_eq hr2
  exact ⟨_, rfl, z1, none, 0, k3, rfl, (St.drop 1 hS2), SliceR.nil' _ _⟩
 ·have hr3 := cond_f hb1 hr1
  refine c_skip ?_
  refine n_then ?_
  refine c_seq ?_
  refine c_sr ?_
  refine c_n 1 [] [1, 2, 13] hf5 .nil fun a7 hf7 => ?_
  obtain ⟨r3, hd2, hr4⟩ := bind_some hr3
  refine c_call hf7 (f72_ok fuel x1 1 9 r3 hd2 z1 _ _ hS2 ) ?_
  rintro v2 ww3 a8 ⟨z2, k4, rfl, hS3⟩ hf8
  refine ⟨fun _ => trivial, ?_⟩
  refine c_t [] [1, 2, 15] hf8 .nil fun a9 hf9 => ?_
  refine c_if (!r3) hf9 (fun hb2 => ?_) (fun hb2 => ?_)
  ·have hr5 := cond_t hb2 hr4
   refine c_sq [] [4, 5] hf9 .nil fun a10 hf10 => ?_
   refine c_ret ?_
   refine r_then ?_
   refine c_rt [] (.tuple #[.slice none 0 0, vI 1]) hf10 .nil ?_
   obtain rfl := some_eq hr5
   exact ⟨_, rfl, z2, none, 0, (Zone.le_trans k3 k4), rfl, (St.drop 1 hS3), SliceR.nil' _ _⟩
  ·have hr6 := cond_f hb2 hr4
   refine c_skip ?_
   refine n_then ?_
   refine c_sq [] [1, 2, 6] hf9 .nil fun a11 hf11 => ?_
   refine c_seq ?_
   refine c_sq [] [1, 2, 6, 7] hf11 .nil fun a12 hf12 => ?_
   refine c_block 0 ?_
   have hS4 := hS3.ownNil Ty.int 3
   refine c_loop (fun n a w => ∃ z3 : Zone, ∃ y1 : List Int, ∃ y2 : Int, ∃ e1 : Option Addr, ∃ q1 : Nat, Zone.le z2 z3 ∧ Fr a 46 [(1, vI x1), (2, pB b1 0), (6, .slice e1 y1.length q1), (7, vI y2)] ∧ St z3 (ownS Ty.int 3 e1 q1 y1 :: box b1 [.slice o_x0_lots x0_lots.length c_x0_lots, v0_x0_holds, v1_x0_holds, v2_x0_holds, v3_x0_holds, v4_x0_holds, v5_x0_holds, v6_x0_holds, v7_x0_holds, v8_x0_holds] 26 :: L) w ∧ (F57_l1 fuel x0_lots x0_holds x1 n y1 y2) = some r) fuel ⟨z2, [], 0, none, 0, (Zone.le_refl _), hf12.to, hS4, hr6⟩ ?_
   rintro n3 a13 ww4 ⟨z3, y1, y2, e1, q1, k5, hf14, hS5, hr7⟩
   cases n3 with
   | zero => cases hr7
   | succ n2 =>
   refine c_seq ?_
   refine c_sq [] [1, 2, 6, 7, 17] hf14 .nil fun a14 hf15 => ?_
   refine c_if (decide (y2 < (9 : Int))) hf15 (fun hb3 => ?_) (fun hb3 => ?_)
   ·have hr8 := cond_t hb3 hr7
    refine c_skip ?_
    refine n_then ?_
    refine c_seq ?_
    refine c_block 1 ?_
    refine c_sq [] [1, 2, 6, 7, 8] hf15 .nil fun a15 hf16 => ?_
    refine c_seq ?_
    refine c_sq [] [1, 2, 6, 7, 8, 9] hf16 .nil fun a16 hf17 => ?_
    refine c_block 2 ?_
    refine c_loop (fun n a w => ∃ z4 : Zone, ∃ y3 : Int, ∃ y4 : Int, Zone.le z3 z4 ∧ Fr a 46 [(1, vI x1), (2, pB b1 0), (6, .slice e1 y1.length q1), (7, vI y2), (8, vI y3), (9, vI y4)] ∧ St z4 (ownS Ty.int 3 e1 q1 y1 :: box b1 [.slice o_x0_lots x0_lots.length c_x0_lots, v0_x0_holds, v1_x0_holds, v2_x0_holds, v3_x0_holds, v4_x0_holds, v5_x0_holds, v6_x0_holds, v7_x0_holds, v8_x0_holds] 26 :: L) w ∧ (F57_l2 fuel (F57_l1 fuel x0_lots x0_holds x1 n2) x0_lots x0_holds x1 y1 y2 n y3 y4) = some r) fuel ⟨z3, 0, 0, (Zone.le_refl _), hf17.to, hS5, hr8⟩ ?_
    rintro n4 a17 ww5 ⟨z4, y3, y4, k6, hf19, hS6, hr9⟩
    cases n4 with
    | zero => cases hr9
    | succ n1 =>
    refine c_seq ?_
    obtain ⟨p1, hp20006, hr10⟩ := bind_some hr9
    obtain ⟨hb4, _, hv1, e2, q2, hehv20010, hx1⟩ := arrGet (Ty.mono _ (Zone.le_trans (Zone.le_trans (Zone.le_trans k3 k4) k5) k6) hx_x0_holds) rfl hp20006
    obtain rfl := List.head_eq_of_cons_eq hehv20010
    refine c_sq [.slice e2 p1.length q2] [1, 2, 6, 7, 8, 9, 26] hf19 (.prop hb4 (.cell ((arrAddr b1 1 y2.toNat) ▸ (hS6.box (i := 1) rfl (getElem?_app_right [.slice o_x0_lots x0_lots.length c_x0_lots] _ _ hv1 []))) .nil)) fun a18 hf20 => ?_
    refine c_if (decide (y4 < (p1.length : Int))) hf20 (fun hb5 => ?_) (fun hb5 => ?_)
    ·have hr11 := cond_t hb5 hr10
     refine c_skip ?_
     refine n_then ?_
     refine c_seq ?_
     refine c_block 3 ?_
     have hS7 := hS6.drew
     refine c_regD [(0, true), (1, true), (2, true), (3, true), (4, true), (5, true), (6, true), (7, true), (8, true), (9, true), (10, false), (11, true), (12, true)] [10] (fun x => x = ww5.drew) rfl ?_
     obtain ⟨p2, hp20064, hr12⟩ := bind_some hr11
     obtain ⟨hb6, _, hv2, e3, q3, hehv20068, hx2⟩ := arrGet (Ty.mono _ (Zone.le_trans (Zone.le_trans (Zone.le_trans k3 k4) k5) k6) hx_x0_holds) rfl hp20064
     obtain rfl := List.head_eq_of_cons_eq hehv20068
     obtain ⟨p3, hp20074, hr13⟩ := bind_some hr12
     obtain ⟨ad1, ho1, hb7, cc1, hc1, hk1⟩ := SliceR.getI hx2 hp20074
     obtain ⟨e4, q4, rfl, hx3⟩ := hc1
     refine c_E 10 [.slice o_x0_lots x0_lots.length c_x0_lots, v0_x0_holds, v1_x0_holds, v2_x0_holds, v3_x0_holds, v4_x0_holds, v5_x0_holds, v6_x0_holds, v7_x0_holds, v8_x0_holds, .slice e3 p2.length q3, .pointer (some ad1), .slice e4 p3.length q4] [1, 2, 6, 7, 9, 29, 30, 37, 38] hf20 (.cell (hS7.box (i := 1) rfl (j := 0) rfl) (.cell (hS7.box (i := 1) rfl (j := 1) rfl) (.cell (hS7.box (i := 1) rfl (j := 2) rfl) (.cell (hS7.box (i := 1) rfl (j := 3) rfl) (.cell (hS7.box (i := 1) rfl (j := 4) rfl) (.cell (hS7.box (i := 1) rfl (j := 5) rfl) (.cell (hS7.box (i := 1) rfl (j := 6) rfl) (.cell (hS7.box (i := 1) rfl (j := 7) rfl) (.cell (hS7.box (i := 1) rfl (j := 8) rfl) (.cell (hS7.box (i := 1) rfl (j := 9) rfl) (.prop hb6 (.cell ((arrAddr b1 1 y2.toNat) ▸ (hS7.box (i := 1) rfl (getElem?_app_right [.slice o_x0_lots x0_lots.length c_x0_lots] _ _ hv2 []))) (.prop ho1 (.prop hb7 (.cell (hS7.cell (hk1 0 _ rfl)) .nil))))))))))))))) .nil fun a19 hf21 => ?_
     obtain ⟨r1, hd3, hr14⟩ := bind_some hr13
     refine c_call hf21 (f116_ok fuel x0_lots x0_holds p3 x1 r1 hd3 z4 _ _ hS7 o_x0_lots c_x0_lots (SliceR.mono (Zone.le_trans (Zone.le_trans (Zone.le_trans k3 k4) k5) k6) hx_x0_lots) v0_x0_holds v1_x0_holds v2_x0_holds v3_x0_holds v4_x0_holds v5_x0_holds v6_x0_holds v7_x0_holds v8_x0_holds (Ty.mono _ (Zone.le_trans (Zone.le_trans (Zone.le_trans k3 k4) k5) k6) hx_x0_holds) e4 q4 hx3) ?_
     rintro v3 ww6 a20 ⟨z5, k7, rfl, hS8⟩ hf22
     refine ⟨fun e => absurd e (by decide), ?_⟩
     refine p_qP 2 [] [(1, vI x1), (2, pB b1 0), (6, .slice e1 y1.length q1), (7, vI y2), (8, vI (w64 (y3 + r1))), (9, vI y4)] [] hf22 (by kernel_rfl) (fun _ => .nil) fun a21 hf23 => ?_
     refine c_done ?_
     refine n_block ?_
     refine n_then ?_
     refine c_q [] [1, 2, 6, 7, 8, 9] hf23 .nil fun a22 hf24 => ?_
     refine n_then ?_
     exact ⟨n1, Nat.lt_succ_self n1, z5, (w64 (y3 + r1)), (w64 (y4 + (1 : Int))), (Zone.le_trans k6 k7), hf24.to, hS8, hr14⟩
    ·have hr15 := cond_f hb5 hr10
     refine c_exit 2 ?_
     refine x_then ?_
     refine x_then ?_
     refine x_block ?_
     refine n_then ?_
     refine c_reg ?_
     refine c_n 2 [] [1, 2, 7, 41, 42] hf20 .nil fun a23 hf26 => ?_
     refine p_box (i := 2) (d := (some 43)) (cs := [vI y3]) (T := 3) (v := fun b2 => .slice (some ⟨b2, 0, none⟩) 1 1) hS6 hf26 (fun b => by kernel_rfl) fun b2 ww7 a24 hS9 hf27 => ⟨fun _ => trivial, ?_⟩
     have hS10 := hS9.ownBox (T := Ty.int) (E := 3) (n := 1) (xs := [y3]) (i := 0) rfl (Rows.cons (c := [vI y3]) rfl rfl) rfl (by decide)
     obtain ⟨d1, hd4, hr16⟩ := bind_some hr15
     refine p_append (T := Ty.int) (i := 3) (j := 1) (d := some 44) (o2 := (some ⟨b2, 0, none⟩)) (c2 := 1) (ys := ([y3])) el53 hS10 hf27 rfl (by kernel_rfl) (hS10.ownSrc (j := 0) rfl) hd4 fun e5 q5 ww8 a25 hS11 hf28 => ⟨fun _ => trivial, ?_⟩
     refine c_z [] [1, 2, 6, 7] hf28 .nil fun a26 hf29 => ?_
     refine n_block ?_
     refine n_then ?_
     refine c_q [] [1, 2, 6, 7] hf29 .nil fun a27 hf30 => ?_
     refine n_then ?_
     exact ⟨n2, Nat.lt_succ_self n2, z4, d1, (w64 (y2 + (1 : Int))), e5, q5, (Zone.le_trans k5 k6), hf30.to, (St.drop 1 hS11), hr16⟩
   ·have hr17 := cond_f hb3 hr7
    refine c_exit 0 ?_
    refine x_then ?_
    refine x_then ?_
    refine x_block ?_
    refine n_then ?_
    refine c_sq [] [4, 5] hf15 .nil fun a28 hf32 => ?_
    refine c_ret ?_
    obtain ⟨z6, k8, hS12, hx4⟩ := hS5.share (j := 0) rfl
    refine c_rt [] (.tuple #[.slice e1 y1.length q1, vI 0]) hf32 .nil ?_
    obtain rfl := some_eq hr17
    exact ⟨_, rfl, z6, e1, q1, (Zone.le_trans (Zone.le_trans (Zone.le_trans k3 k4) k5) k8), rfl, (St.drop 2 hS12), hx4⟩
def F58_j1 (fuel : Nat) (k1 : (List Int) → Int → Option (List Int × Int)) (k2 : Int → Int → Option (List Int × Int)) (x0_holds : List (List (List Part))) (y1 : List Int) (y2 : Int) (y3 : Int) (y4 : Int) (y5 : Bool) : Option (List Int × Int) :=
  (cond y5 ((getI x0_holds y2).bind fun p1 => ((getI p1 y4).bind fun p2 => ((F92 fuel p2).bind fun r1 => (k2 (w64 (y3 + r1)) (w64 (y4 - (1 : Int))))))) ((appC y1 ([y3])).bind fun d1 => (k1 d1 (w64 (y2 + (1 : Int))))))
def F58_l2 (fuel : Nat) (k1 : (List Int) → Int → Option (List Int × Int)) (x0_lots : List Lot) (x0_holds : List (List (List Part))) (x1 : Int) (y1 : List Int) (y2 : Int) : Nat → Int → Int → Option (List Int × Int)
  | 0, _, _ => none
  | n1 + 1, y3, y4 =>
    let k2 : Int → Int → Option (List Int × Int) := F58_l2 fuel k1 x0_lots x0_holds x1 y1 y2 n1
    (cond (decide (y4 ≥ (0 : Int))) ((getI x0_holds y2).bind fun p3 => ((getI p3 y4).bind fun p4 => ((getI x0_holds y2).bind fun p5 => ((getI p5 y4).bind fun p6 => ((F116 fuel x0_lots x0_holds p4 x1).bind fun r2 => ((F92 fuel p6).bind fun r3 => (F58_j1 fuel k1 k2 x0_holds y1 y2 y3 y4 (r2 == r3)))))))) (F58_j1 fuel k1 k2 x0_holds y1 y2 y3 y4 false))
def F58_l1 (fuel : Nat) (x0_lots : List Lot) (x0_holds : List (List (List Part))) (x1 : Int) : Nat → (List Int) → Int → Option (List Int × Int)
  | 0, _, _ => none
  | n2 + 1, y1, y2 =>
    let k1 : (List Int) → Int → Option (List Int × Int) := F58_l1 fuel x0_lots x0_holds x1 n2
    (cond (decide (y2 < (9 : Int))) ((getI x0_holds y2).bind fun p7 => (F58_l2 fuel k1 x0_lots x0_holds x1 y1 y2 fuel 0 (w64 ((p7.length : Int) - (1 : Int))))) (some (y1, 0)))
def F58 (fuel : Nat) (x0_lots : List Lot) (x0_holds : List (List (List Part))) (x1 : Int) : Option (List Int × Int) :=
  ((F22 fuel x0_lots x0_holds).bind fun r4 => (cond (r4 != (0 : Int)) (some ([], 62)) ((F72 fuel x1 1 9).bind fun r5 => (cond (!r5) (some ([], 1)) (F58_l1 fuel x0_lots x0_holds x1 fuel ([]) 0)))))
set_option maxRecDepth 100000 in
theorem f58_ok (fuel : Nat) (x0_lots : List Lot) (x0_holds : List (List (List Part))) (x1 : Int) (r : List Int × Int) (hr : F58 fuel x0_lots x0_holds x1 = some r) (h : Zone) (L : List Atom) (w : World) (hS : St h L w) (o_x0_lots : Option Addr) (c_x0_lots : Nat) (hx_x0_lots : SliceR LotT h o_x0_lots c_x0_lots x0_lots) (v0_x0_holds v1_x0_holds v2_x0_holds v3_x0_holds v4_x0_holds v5_x0_holds v6_x0_holds v7_x0_holds v8_x0_holds : Value) (hx_x0_holds : (Ty.arr 9 (Ty.slice (Ty.slice PartT))).rep h [v0_x0_holds, v1_x0_holds, v2_x0_holds, v3_x0_holds, v4_x0_holds, v5_x0_holds, v6_x0_holds, v7_x0_holds, v8_x0_holds] x0_holds) :
    Calls Try.prog 58 #[.agg #[.slice o_x0_lots x0_lots.length c_x0_lots, v0_x0_holds, v1_x0_holds, v2_x0_holds, v3_x0_holds, v4_x0_holds, v5_x0_holds, v6_x0_holds, v7_x0_holds, v8_x0_holds], vI x1] w fun e w' => ∃ v, e = .returned v ∧ (∃ h', ∃ o0 : Option Addr, ∃ c0 : Nat, Zone.le h h' ∧ v = .tuple #[.slice o0 r.1.length c0, vI r.2] ∧ St h' L w' ∧ SliceR Ty.int h' o0 c0 r.1) := by
 refine calls_intro (N := 66) Try.func58 (by kernel_rfl) fun a hf => ?_
 refine c_sr ?_
 refine c_box [.slice o_x0_lots x0_lots.length c_x0_lots, v0_x0_holds, v1_x0_holds, v2_x0_holds, v3_x0_holds, v4_x0_holds, v5_x0_holds, v6_x0_holds, v7_x0_holds, v8_x0_holds] 26 hS hf fun b1 ww1 a1 hS1 hf1 => ⟨fun _ => trivial, ?_⟩
 refine c_t [] [1, 2] hf1 .nil fun a2 hf2 => ?_
 refine c_seq ?_
 refine c_sr ?_
 refine c_n 1 [.slice o_x0_lots x0_lots.length c_x0_lots, v0_x0_holds, v1_x0_holds, v2_x0_holds, v3_x0_holds, v4_x0_holds, v5_x0_holds, v6_x0_holds, v7_x0_holds, v8_x0_holds] [1, 2, 10] hf2 (.cell (hS1.box (i := 0) rfl (j := 0) rfl) (.cell (hS1.box (i := 0) rfl (j := 1) rfl) (.cell (hS1.box (i := 0) rfl (j := 2) rfl) (.cell (hS1.box (i := 0) rfl (j := 3) rfl) (.cell (hS1.box (i := 0) rfl (j := 4) rfl) (.cell (hS1.box (i := 0) rfl (j := 5) rfl) (.cell (hS1.box (i := 0) rfl (j := 6) rfl) (.cell (hS1.box (i := 0) rfl (j := 7) rfl) (.cell (hS1.box (i := 0) rfl (j := 8) rfl) (.cell (hS1.box (i := 0) rfl (j := 9) rfl) .nil)))))))))) fun a3 hf3 => ?_
 obtain ⟨r4, hd1, hr1⟩ := bind_some hr
 refine c_call hf3 (f22_ok fuel x0_lots x0_holds r4 hd1 h _ _ hS1 o_x0_lots c_x0_lots hx_x0_lots v0_x0_holds v1_x0_holds v2_x0_holds v3_x0_holds v4_x0_holds v5_x0_holds v6_x0_holds v7_x0_holds v8_x0_holds (Ty.mono _ (Zone.le_refl _) hx_x0_holds)) ?_
 rintro v1 ww2 a4 ⟨z1, k3, rfl, hS2⟩ hf4
 refine ⟨fun _ => trivial, ?_⟩
 refine c_t [] [1, 2, 12] hf4 .nil fun a5 hf5 => ?_
 refine c_if (r4 != (0 : Int)) hf5 (fun hb1 => ?_) (fun hb1 => ?_)
 ·have hr2 := cond_t hb1 hr1
  refine c_sq [] [4, 5] hf5 .nil fun a6 hf6 => ?_
  refine c_ret ?_
  refine r_then ?_
  refine c_rt [] (.tuple #[.slice none 0 0, vI 62]) hf6 .nil ?_
  obtain rfl := some_eq hr2
  exact ⟨_, rfl, z1, none, 0, k3, rfl, (St.drop 1 hS2), SliceR.nil' _ _⟩
 ·have hr3 := cond_f hb1 hr1
  refine c_skip ?_
  refine n_then ?_
  refine c_seq ?_
  refine c_sr ?_
  refine c_n 1 [] [1, 2, 13] hf5 .nil fun a7 hf7 => ?_
  obtain ⟨r5, hd2, hr4⟩ := bind_some hr3
  refine c_call hf7 (f72_ok fuel x1 1 9 r5 hd2 z1 _ _ hS2 ) ?_
  rintro v2 ww3 a8 ⟨z2, k4, rfl, hS3⟩ hf8
  refine ⟨fun _ => trivial, ?_⟩
  refine c_t [] [1, 2, 15] hf8 .nil fun a9 hf9 => ?_
  refine c_if (!r5) hf9 (fun hb2 => ?_) (fun hb2 => ?_)
  ·have hr5 := cond_t hb2 hr4
   refine c_sq [] [4, 5] hf9 .nil fun a10 hf10 => ?_
   refine c_ret ?_
   refine r_then ?_
   refine c_rt [] (.tuple #[.slice none 0 0, vI 1]) hf10 .nil ?_
   obtain rfl := some_eq hr5
   exact ⟨_, rfl, z2, none, 0, (Zone.le_trans k3 k4), rfl, (St.drop 1 hS3), SliceR.nil' _ _⟩
  ·have hr6 := cond_f hb2 hr4
   refine c_skip ?_
   refine n_then ?_
   refine c_sq [] [1, 2, 6] hf9 .nil fun a11 hf11 => ?_
   refine c_seq ?_
   refine c_sq [] [1, 2, 6, 7] hf11 .nil fun a12 hf12 => ?_
   refine c_block 0 ?_
   have hS4 := hS3.ownNil Ty.int 3
   refine c_loop (fun n a w => ∃ z3 : Zone, ∃ y1 : List Int, ∃ y2 : Int, ∃ e1 : Option Addr, ∃ q1 : Nat, Zone.le z2 z3 ∧ Fr a 66 [(1, vI x1), (2, pB b1 0), (6, .slice e1 y1.length q1), (7, vI y2)] ∧ St z3 (ownS Ty.int 3 e1 q1 y1 :: box b1 [.slice o_x0_lots x0_lots.length c_x0_lots, v0_x0_holds, v1_x0_holds, v2_x0_holds, v3_x0_holds, v4_x0_holds, v5_x0_holds, v6_x0_holds, v7_x0_holds, v8_x0_holds] 26 :: L) w ∧ (F58_l1 fuel x0_lots x0_holds x1 n y1 y2) = some r) fuel ⟨z2, [], 0, none, 0, (Zone.le_refl _), hf12.to, hS4, hr6⟩ ?_
   rintro n3 a13 ww4 ⟨z3, y1, y2, e1, q1, k5, hf14, hS5, hr7⟩
   cases n3 with
   | zero => cases hr7
   | succ n2 =>
   refine c_seq ?_
   refine c_sq [] [1, 2, 6, 7, 17] hf14 .nil fun a14 hf15 => ?_
   refine c_if (decide (y2 < (9 : Int))) hf15 (fun hb3 => ?_) (fun hb3 => ?_)
   ·have hr8 := cond_t hb3 hr7
    refine c_skip ?_
    refine n_then ?_
    refine c_seq ?_
    refine c_block 1 ?_
    refine c_sq [] [1, 2, 6, 7, 8] hf15 .nil fun a15 hf16 => ?_
    refine c_seq ?_
    obtain ⟨p7, hp81566, hr9⟩ := bind_some hr8
    obtain ⟨hb4, _, hv1, e2, q2, hehv81570, hx1⟩ := arrGet (Ty.mono _ (Zone.le_trans (Zone.le_trans k3 k4) k5) hx_x0_holds) rfl hp81566
    obtain rfl := List.head_eq_of_cons_eq hehv81570
    refine c_sq [.slice e2 p7.length q2] [1, 2, 6, 7, 8, 9] hf16 (.prop hb4 (.cell ((arrAddr b1 1 y2.toNat) ▸ (hS5.box (i := 1) rfl (getElem?_app_right [.slice o_x0_lots x0_lots.length c_x0_lots] _ _ hv1 []))) .nil)) fun a16 hf17 => ?_
    refine c_block 2 ?_
    refine c_loop (fun n a w => ∃ z4 : Zone, ∃ y3 : Int, ∃ y4 : Int, Zone.le z3 z4 ∧ Fr a 66 [(1, vI x1), (2, pB b1 0), (6, .slice e1 y1.length q1), (7, vI y2), (8, vI y3), (9, vI y4)] ∧ St z4 (ownS Ty.int 3 e1 q1 y1 :: box b1 [.slice o_x0_lots x0_lots.length c_x0_lots, v0_x0_holds, v1_x0_holds, v2_x0_holds, v3_x0_holds, v4_x0_holds, v5_x0_holds, v6_x0_holds, v7_x0_holds, v8_x0_holds] 26 :: L) w ∧ (F58_l2 fuel (F58_l1 fuel x0_lots x0_holds x1 n2) x0_lots x0_holds x1 y1 y2 n y3 y4) = some r) fuel ⟨z3, 0, (w64 ((p7.length : Int) - (1 : Int))), (Zone.le_refl _), hf17.to, hS5, hr9⟩ ?_
    rintro n4 a17 ww5 ⟨z4, y3, y4, k6, hf19, hS6, hr10⟩
    cases n4 with
    | zero => cases hr10
    | succ n1 =>
    refine c_seq ?_
    refine c_mid (fun a w => ∃ z5 : Zone, ∃ y5 : Bool, Zone.le z4 z5 ∧ Fr a 66 [(1, vI x1), (2, pB b1 0), (6, .slice e1 y1.length q1), (7, vI y2), (8, vI y3), (9, vI y4), (48, .bool y5)] ∧ St z5 (ownS Ty.int 3 e1 q1 y1 :: box b1 [.slice o_x0_lots x0_lots.length c_x0_lots, v0_x0_holds, v1_x0_holds, v2_x0_holds, v3_x0_holds, v4_x0_holds, v5_x0_holds, v6_x0_holds, v7_x0_holds, v8_x0_holds] 26 :: L) w ∧ (F58_j1 fuel (F58_l1 fuel x0_lots x0_holds x1 n2) (F58_l2 fuel (F58_l1 fuel x0_lots x0_holds x1 n2) x0_lots x0_holds x1 y1 y2 n1) x0_holds y1 y2 y3 y4 y5) = some r) ?_ ?_
    ·skip
     have hS7 := hS6.drew
     have s1 : Sub z4 (ownS Ty.int 3 e1 q1 y1 :: box b1 [.slice o_x0_lots x0_lots.length c_x0_lots, v0_x0_holds, v1_x0_holds, v2_x0_holds, v3_x0_holds, v4_x0_holds, v5_x0_holds, v6_x0_holds, v7_x0_holds, v8_x0_holds] 26 :: L) _ := Sub.of (Zone.le_refl _) hS7
     refine c_regD [(0, true), (1, true), (2, true), (3, true), (4, true), (5, true), (6, true), (7, true), (8, true), (9, true), (10, true), (11, true), (13, true), (14, true), (15, true), (16, true), (17, true), (18, true), (19, true), (12, false), (20, false), (21, true), (22, true)] [20] (Sub z4 (ownS Ty.int 3 e1 q1 y1 :: box b1 [.slice o_x0_lots x0_lots.length c_x0_lots, v0_x0_holds, v1_x0_holds, v2_x0_holds, v3_x0_holds, v4_x0_holds, v5_x0_holds, v6_x0_holds, v7_x0_holds, v8_x0_holds] 26 :: L)) s1 ?_
     refine c_S 3 [] [1, 2, 6, 7, 8, 9, 28] s1 hf19 (fun _ s => .nil) .nil fun a18 hf20 => ?_
     rcases Bool.eq_false_or_eq_true (decide (y4 ≥ (0 : Int))) with hb5 | hb5
     ·have hr11 := cond_t hb5 hr10
      have hf21 := hf20.lit 28 hb5
      obtain ⟨p3, hp83408, hr12⟩ := bind_some hr11
      obtain ⟨hb6, _, hv2, e3, q3, hehv83412, hx2⟩ := arrGet (Ty.mono _ (Zone.le_trans (Zone.le_trans (Zone.le_trans k3 k4) k5) k6) hx_x0_holds) rfl hp83408
      obtain rfl := List.head_eq_of_cons_eq hehv83412
      obtain ⟨p4, hp83418, hr13⟩ := bind_some hr12
      obtain ⟨ad1, ho1, hb7, cc1, hc1, hk1⟩ := SliceR.getI hx2 hp83418
      obtain ⟨e4, q4, rfl, hx3⟩ := hc1
      obtain ⟨p5, hp83430, hr14⟩ := bind_some hr13
      obtain ⟨hb8, _, hv3, e5, q5, hehv83434, hx4⟩ := arrGet (Ty.mono _ (Zone.le_trans (Zone.le_trans (Zone.le_trans k3 k4) k5) k6) hx_x0_holds) rfl hp83430
      obtain rfl := List.head_eq_of_cons_eq hehv83434
      obtain ⟨p6, hp83440, hr15⟩ := bind_some hr14
      obtain ⟨ad2, ho2, hb9, cc2, hc2, hk2⟩ := SliceR.getI hx4 hp83440
      obtain ⟨e6, q6, rfl, hx5⟩ := hc2
      refine c_S 16 [.slice o_x0_lots x0_lots.length c_x0_lots, v0_x0_holds, v1_x0_holds, v2_x0_holds, v3_x0_holds, v4_x0_holds, v5_x0_holds, v6_x0_holds, v7_x0_holds, v8_x0_holds, .slice e3 p3.length q3, .pointer (some ad1), .slice e4 p4.length q4, .slice e5 p5.length q5, .pointer (some ad2), .slice e6 p6.length q6] [1, 2, 6, 7, 8, 9, 28, 29, 30, 31, 32, 33, 34, 35, 36, 37, 39, 40, 41, 42, 43, 44, 45] s1 hf21 (fun _ s => (.cell (s.box (i := 1) rfl (j := 0) rfl) (.cell (s.box (i := 1) rfl (j := 1) rfl) (.cell (s.box (i := 1) rfl (j := 2) rfl) (.cell (s.box (i := 1) rfl (j := 3) rfl) (.cell (s.box (i := 1) rfl (j := 4) rfl) (.cell (s.box (i := 1) rfl (j := 5) rfl) (.cell (s.box (i := 1) rfl (j := 6) rfl) (.cell (s.box (i := 1) rfl (j := 7) rfl) (.cell (s.box (i := 1) rfl (j := 8) rfl) (.cell (s.box (i := 1) rfl (j := 9) rfl) (.prop hb6 (.cell ((arrAddr b1 1 y2.toNat) ▸ (s.box (i := 1) rfl (getElem?_app_right [.slice o_x0_lots x0_lots.length c_x0_lots] _ _ hv2 []))) (.prop ho1 (.prop hb7 (.cell (s.cell (hk1 0 _ rfl)) (.prop hb8 (.cell ((arrAddr b1 1 y2.toNat) ▸ (s.box (i := 1) rfl (getElem?_app_right [.slice o_x0_lots x0_lots.length c_x0_lots] _ _ hv3 []))) (.prop ho2 (.prop hb9 (.cell (s.cell (hk2 0 _ rfl)) .nil))))))))))))))))))))) .nil fun a19 hf22 => ?_
      obtain ⟨r2, hd3, hr16⟩ := bind_some hr15
      refine c_call hf22 (f116_ok fuel x0_lots x0_holds p4 x1 r2 hd3 z4 _ _ hS7 o_x0_lots c_x0_lots (SliceR.mono (Zone.le_trans (Zone.le_trans (Zone.le_trans k3 k4) k5) k6) hx_x0_lots) v0_x0_holds v1_x0_holds v2_x0_holds v3_x0_holds v4_x0_holds v5_x0_holds v6_x0_holds v7_x0_holds v8_x0_holds (Ty.mono _ (Zone.le_trans (Zone.le_trans (Zone.le_trans k3 k4) k5) k6) hx_x0_holds) e4 q4 hx3) ?_
      rintro v3 ww6 a20 ⟨z6, k7, rfl, hS8⟩ hf23
      refine ⟨fun _ => Sub.of k7 hS8, ?_⟩
      have s2 : Sub z4 (ownS Ty.int 3 e1 q1 y1 :: box b1 [.slice o_x0_lots x0_lots.length c_x0_lots, v0_x0_holds, v1_x0_holds, v2_x0_holds, v3_x0_holds, v4_x0_holds, v5_x0_holds, v6_x0_holds, v7_x0_holds, v8_x0_holds] 26 :: L) _ := Sub.of k7 hS8
      obtain ⟨r3, hd4, hr17⟩ := bind_some hr16
      refine c_call hf23 (f92_ok fuel p6 r3 hd4 z6 _ _ hS8 e6 q6 (SliceR.mono k7 hx5)) ?_
      rintro v4 ww7 a21 ⟨z7, k8, rfl, hS9⟩ hf24
      refine ⟨fun e => absurd e (by decide), ?_⟩
      refine p_qP 2 [] [(1, vI x1), (2, pB b1 0), (6, .slice e1 y1.length q1), (7, vI y2), (8, vI y3), (9, vI y4), (29, .agg #[.slice o_x0_lots x0_lots.length c_x0_lots, v0_x0_holds, v1_x0_holds, v2_x0_holds, v3_x0_holds, v4_x0_holds, v5_x0_holds, v6_x0_holds, v7_x0_holds, v8_x0_holds]), (30, vI y2), (31, pB b1 1), (32, .pointer (some ((⟨b1, 1, none⟩ : Addr).add (Int.toNat y2 * 1)))), (33, .slice e3 p3.length q3), (34, vI y4), (35, .pointer (some (ad1.add (Int.toNat y4 * 1)))), (36, .agg #[.slice e4 p4.length q4]), (37, vI x1), (38, vI r2), (39, vI y2), (40, pB b1 1), (41, .pointer (some ((⟨b1, 1, none⟩ : Addr).add (Int.toNat y2 * 1)))), (42, .slice e5 p5.length q5), (43, vI y4), (44, .pointer (some (ad2.add (Int.toNat y4 * 1)))), (45, .agg #[.slice e6 p6.length q6]), (46, vI r3), (47, .bool (r2 == r3)), (48, .bool (r2 == r3))] [] hf24 (by kernel_rfl) (fun _ => .nil) fun a22 hf25 => ?_
      refine c_dt ?_
      exact ⟨z7, (r2 == r3), (Zone.le_trans k7 k8), hf25.to, hS9, hr17⟩
     ·have hr18 := cond_f hb5 hr10
      have hf27 := hf20.lit 28 hb5
      refine c_S 17 [] [1, 2, 6, 7, 8, 9, 28, 29, 30, 31, 32, 33, 34, 35, 36, 37, 38, 39, 40, 41, 42, 43, 44, 45] s1 hf27 (fun _ s => .nil) .nil fun a23 hf28 => ?_
      refine p_qL 1 [] [(1, vI x1), (2, pB b1 0), (6, .slice e1 y1.length q1), (7, vI y2), (8, vI y3), (9, vI y4), (28, .bool false), (29, undef), (30, undef), (31, undef), (32, undef), (33, undef), (34, undef), (35, undef), (36, undef), (37, undef), (38, undef), (39, undef), (40, undef), (41, undef), (42, undef), (43, undef), (44, undef), (45, undef), (46, undef)] [] hf28 (by kernel_rfl) .nil fun a24 hf29 => ?_
      refine c_S 2 [] [1, 2, 6, 7, 8, 9, 29, 30, 31, 32, 33, 34, 35, 36, 37, 38, 39, 40, 41, 42, 43, 44, 45, 46, 47, 48] s1 hf29 (fun _ s => .nil) .nil fun a25 hf30 => ?_
      refine c_dt ?_
      exact ⟨z4, false, (Zone.le_refl _), hf30.to, hS7, hr18⟩
    ·rintro a26 ww8 ⟨z5, y5, k9, hf32, hS10, hr19⟩
     refine c_if y5 hf32 (fun hb10 => ?_) (fun hb10 => ?_)
     ·have hr20 := cond_t hb10 hr19
      refine c_skip ?_
      refine n_then ?_
      refine c_seq ?_
      refine c_block 3 ?_
      refine c_reg ?_
      obtain ⟨p1, hp83541, hr21⟩ := bind_some hr20
      obtain ⟨hb11, _, hv4, e7, q7, hehv83545, hx6⟩ := arrGet (Ty.mono _ (Zone.le_trans (Zone.le_trans (Zone.le_trans (Zone.le_trans k3 k4) k5) k6) k9) hx_x0_holds) rfl hp83541
      obtain rfl := List.head_eq_of_cons_eq hehv83545
      obtain ⟨p2, hp83551, hr22⟩ := bind_some hr21
      obtain ⟨ad3, ho3, hb12, cc3, hc3, hk3⟩ := SliceR.getI hx6 hp83551
      obtain ⟨e8, q8, rfl, hx7⟩ := hc3
      refine c_n 8 [.slice e7 p1.length q7, .pointer (some ad3), .slice e8 p2.length q8] [1, 2, 6, 7, 9, 51, 58] hf32 (.prop hb11 (.cell ((arrAddr b1 1 y2.toNat) ▸ (hS10.box (i := 1) rfl (getElem?_app_right [.slice o_x0_lots x0_lots.length c_x0_lots] _ _ hv4 []))) (.prop ho3 (.prop hb12 (.cell (hS10.cell (hk3 0 _ rfl)) .nil))))) fun a27 hf33 => ?_
      obtain ⟨r1, hd5, hr23⟩ := bind_some hr22
      refine c_call hf33 (f92_ok fuel p2 r1 hd5 z5 _ _ hS10 e8 q8 hx7) ?_
      rintro v5 ww9 a28 ⟨z8, k10, rfl, hS11⟩ hf34
      refine ⟨fun _ => trivial, ?_⟩
      refine c_z [] [1, 2, 6, 7, 8, 9] hf34 .nil fun a29 hf35 => ?_
      refine n_block ?_
      refine n_then ?_
      refine c_q [] [1, 2, 6, 7, 8, 9] hf35 .nil fun a30 hf36 => ?_
      refine n_then ?_
      exact ⟨n1, Nat.lt_succ_self n1, z8, (w64 (y3 + r1)), (w64 (y4 - (1 : Int))), (Zone.le_trans (Zone.le_trans k6 k9) k10), hf36.to, hS11, hr23⟩
     ·have hr24 := cond_f hb10 hr19
      refine c_exit 2 ?_
      refine x_then ?_
      refine x_then ?_
      refine x_block ?_
      refine n_then ?_
      refine c_reg ?_
      refine c_n 2 [] [1, 2, 7, 61, 62] hf32 .nil fun a31 hf38 => ?_
      refine p_box (i := 2) (d := (some 63)) (cs := [vI y3]) (T := 3) (v := fun b2 => .slice (some ⟨b2, 0, none⟩) 1 1) hS10 hf38 (fun b => by kernel_rfl) fun b2 ww10 a32 hS12 hf39 => ⟨fun _ => trivial, ?_⟩
      have hS13 := hS12.ownBox (T := Ty.int) (E := 3) (n := 1) (xs := [y3]) (i := 0) rfl (Rows.cons (c := [vI y3]) rfl rfl) rfl (by decide)
      obtain ⟨d1, hd6, hr25⟩ := bind_some hr24
      refine p_append (T := Ty.int) (i := 3) (j := 1) (d := some 64) (o2 := (some ⟨b2, 0, none⟩)) (c2 := 1) (ys := ([y3])) el53 hS13 hf39 rfl (by kernel_rfl) (hS13.ownSrc (j := 0) rfl) hd6 fun e9 q9 ww11 a33 hS14 hf40 => ⟨fun _ => trivial, ?_⟩
      refine c_z [] [1, 2, 6, 7] hf40 .nil fun a34 hf41 => ?_
      refine n_block ?_
      refine n_then ?_
      refine c_q [] [1, 2, 6, 7] hf41 .nil fun a35 hf42 => ?_
      refine n_then ?_
      exact ⟨n2, Nat.lt_succ_self n2, z5, d1, (w64 (y2 + (1 : Int))), e9, q9, (Zone.le_trans (Zone.le_trans k5 k6) k9), hf42.to, (St.drop 1 hS14), hr25⟩
   ·have hr26 := cond_f hb3 hr7
    refine c_exit 0 ?_
    refine x_then ?_
    refine x_then ?_
    refine x_block ?_
    refine n_then ?_
    refine c_sq [] [4, 5] hf15 .nil fun a36 hf44 => ?_
    refine c_ret ?_
    obtain ⟨z9, k11, hS15, hx8⟩ := hS5.share (j := 0) rfl
    refine c_rt [] (.tuple #[.slice e1 y1.length q1, vI 0]) hf44 .nil ?_
    obtain rfl := some_eq hr26
    exact ⟨_, rfl, z9, e1, q1, (Zone.le_trans (Zone.le_trans (Zone.le_trans k3 k4) k5) k11), rfl, (St.drop 2 hS15), hx8⟩
def F59_j1 (k1 : Int → Int → Option (Int × Int × Int)) (y1 : Int) (y2 : Int) : Option (Int × Int × Int) :=
  (k1 y2 (w64 (y1 + (1 : Int))))
def F59_l2 (k2 : Int → Int → Option (Int × Int × Int)) (x2 : Int) (y3 : Int) (p1 : List Part) : Nat → Int → Int → Option (Int × Int × Int)
  | 0, _, _ => none
  | n1 + 1, y4, y1 =>
    let k1 : Int → Int → Option (Int × Int × Int) := F59_l2 k2 x2 y3 p1 n1
    (cond (decide (y1 < (p1.length : Int))) ((getI p1 y1).bind fun p2 => (cond (p2.lot == x2) (F59_j1 k1 y1 (w64 (y4 + p2.mass))) (F59_j1 k1 y1 y4))) (k2 y4 (w64 (y3 + (1 : Int)))))
def F59_l1 (fuel : Nat) (x2 : Int) (r1 : Int) (p3 : List (List Part)) : Nat → Int → Int → Option (Int × Int × Int)
  | 0, _, _ => none
  | n2 + 1, y5, y3 =>
    let k2 : Int → Int → Option (Int × Int × Int) := F59_l1 fuel x2 r1 p3 n2
    (cond (decide (y3 < (p3.length : Int))) ((getI p3 y3).bind fun p1 => (F59_l2 k2 x2 y3 p1 fuel y5 0)) ((F117 fuel y5 r1).bind fun r2 => (some (r2.1, r2.2, 0))))
def F59 (fuel : Nat) (x0_lots : List Lot) (x0_holds : List (List (List Part))) (x1 : Int) (x2 : Int) : Option (Int × Int × Int) :=
  ((F103 fuel x0_lots x0_holds x1).bind fun r3 => (cond (r3 != (0 : Int)) (some (0, 0, r3)) ((F74 fuel x0_lots x2).bind fun r4 => (cond (!r4.2) (some (0, 0, 60)) ((getI x0_holds x1).bind fun p4 => ((F75 fuel p4).bind fun r1 => (cond (r1 == (0 : Int)) (some (0, 0, 3)) ((getI x0_holds x1).bind fun p3 => (F59_l1 fuel x2 r1 p3 fuel 0 0)))))))))
set_option maxRecDepth 100000 in
theorem f59_ok (fuel : Nat) (x0_lots : List Lot) (x0_holds : List (List (List Part))) (x1 : Int) (x2 : Int) (r : Int × Int × Int) (hr : F59 fuel x0_lots x0_holds x1 x2 = some r) (h : Zone) (L : List Atom) (w : World) (hS : St h L w) (o_x0_lots : Option Addr) (c_x0_lots : Nat) (hx_x0_lots : SliceR LotT h o_x0_lots c_x0_lots x0_lots) (v0_x0_holds v1_x0_holds v2_x0_holds v3_x0_holds v4_x0_holds v5_x0_holds v6_x0_holds v7_x0_holds v8_x0_holds : Value) (hx_x0_holds : (Ty.arr 9 (Ty.slice (Ty.slice PartT))).rep h [v0_x0_holds, v1_x0_holds, v2_x0_holds, v3_x0_holds, v4_x0_holds, v5_x0_holds, v6_x0_holds, v7_x0_holds, v8_x0_holds] x0_holds) :
    Calls Try.prog 59 #[.agg #[.slice o_x0_lots x0_lots.length c_x0_lots, v0_x0_holds, v1_x0_holds, v2_x0_holds, v3_x0_holds, v4_x0_holds, v5_x0_holds, v6_x0_holds, v7_x0_holds, v8_x0_holds], vI x1, vI x2] w fun e w' => ∃ v, e = .returned v ∧ (∃ h', Zone.le h h' ∧ v = .tuple #[.agg #[vI r.1, vI r.2.1], vI r.2.2] ∧ St h' L w') := by
 refine calls_intro (N := 71) Try.func59 (by kernel_rfl) fun a hf => ?_
 refine c_sr ?_
 refine c_box [.slice o_x0_lots x0_lots.length c_x0_lots, v0_x0_holds, v1_x0_holds, v2_x0_holds, v3_x0_holds, v4_x0_holds, v5_x0_holds, v6_x0_holds, v7_x0_holds, v8_x0_holds] 26 hS hf fun b1 ww1 a1 hS1 hf1 => ⟨fun _ => trivial, ?_⟩
 refine c_box [vI 0, vI 0] 100 hS1 hf1 fun b2 ww2 a2 hS2 hf2 => ⟨fun _ => trivial, ?_⟩
 refine c_t [] [1, 2, 3, 6] hf2 .nil fun a3 hf3 => ?_
 refine c_seq ?_
 refine c_sr ?_
 refine c_n 2 [.slice o_x0_lots x0_lots.length c_x0_lots, v0_x0_holds, v1_x0_holds, v2_x0_holds, v3_x0_holds, v4_x0_holds, v5_x0_holds, v6_x0_holds, v7_x0_holds, v8_x0_holds] [1, 2, 3, 6, 17, 18] hf3 (.cell (hS2.box (i := 1) rfl (j := 0) rfl) (.cell (hS2.box (i := 1) rfl (j := 1) rfl) (.cell (hS2.box (i := 1) rfl (j := 2) rfl) (.cell (hS2.box (i := 1) rfl (j := 3) rfl) (.cell (hS2.box (i := 1) rfl (j := 4) rfl) (.cell (hS2.box (i := 1) rfl (j := 5) rfl) (.cell (hS2.box (i := 1) rfl (j := 6) rfl) (.cell (hS2.box (i := 1) rfl (j := 7) rfl) (.cell (hS2.box (i := 1) rfl (j := 8) rfl) (.cell (hS2.box (i := 1) rfl (j := 9) rfl) .nil)))))))))) fun a4 hf4 => ?_
 obtain ⟨r3, hd1, hr1⟩ := bind_some hr
 refine c_call hf4 (f103_ok fuel x0_lots x0_holds x1 r3 hd1 h _ _ hS2 o_x0_lots c_x0_lots hx_x0_lots v0_x0_holds v1_x0_holds v2_x0_holds v3_x0_holds v4_x0_holds v5_x0_holds v6_x0_holds v7_x0_holds v8_x0_holds (Ty.mono _ (Zone.le_refl _) hx_x0_holds)) ?_
 rintro v1 ww3 a5 ⟨z1, k3, rfl, hS3⟩ hf5
 refine ⟨fun _ => trivial, ?_⟩
 refine c_t [] [1, 2, 3, 6, 8] hf5 .nil fun a6 hf6 => ?_
 refine c_sq [] [1, 2, 3, 6, 8, 21] hf6 .nil fun a7 hf7 => ?_
 refine c_if (r3 != (0 : Int)) hf7 (fun hb1 => ?_) (fun hb1 => ?_)
 ·have hr2 := cond_t hb1 hr1
  refine c_sr ?_
  refine c_n 2 [] [6, 22, 23] hf7 .nil fun a8 hf8 => ?_
  refine c_st 0 [vI 0, vI 0] hS3 hf8 rfl fun ww4 a9 hS4 hf9 => ⟨fun _ => trivial, ?_⟩
  refine c_t [] [6, 7] hf9 .nil fun a10 hf10 => ?_
  refine c_ret ?_
  refine r_then ?_
  refine c_rt [vI 0, vI 0] (.tuple #[.agg #[vI 0, vI 0], vI r3]) hf10 (.cell (hS4.box (i := 0) rfl (j := 0) rfl) (.cell (hS4.box (i := 0) rfl (j := 1) rfl) .nil)) ?_
  obtain rfl := some_eq hr2
  exact ⟨_, rfl, z1, k3, rfl, (St.drop 2 hS4)⟩
 ·have hr3 := cond_f hb1 hr1
  refine c_skip ?_
  refine n_then ?_
  refine c_seq ?_
  refine c_sr ?_
  refine c_n 3 [.slice o_x0_lots x0_lots.length c_x0_lots] [1, 2, 3, 6, 26, 27] hf7 (.cell (hS3.box (i := 1) rfl (j := 0) rfl) .nil) fun a11 hf11 => ?_
  obtain ⟨r4, hd2, hr4⟩ := bind_some hr3
  refine c_call hf11 (f74_ok fuel x0_lots x2 r4 hd2 z1 _ _ hS3 o_x0_lots c_x0_lots (SliceR.mono k3 hx_x0_lots)) ?_
  rintro v2 ww5 a12 ⟨z2, k4, rfl, hS5⟩ hf12
  refine ⟨fun _ => trivial, ?_⟩
  refine c_t [] [1, 2, 3, 6, 10] hf12 .nil fun a13 hf13 => ?_
  refine c_sq [] [1, 2, 3, 6, 32] hf13 .nil fun a14 hf14 => ?_
  refine c_if (!r4.2) hf14 (fun hb2 => ?_) (fun hb2 => ?_)
  ·have hr5 := cond_t hb2 hr4
   refine c_sr ?_
   refine c_n 1 [] [6, 33] hf14 .nil fun a15 hf15 => ?_
   refine c_st 0 [vI 0, vI 0] hS5 hf15 rfl fun ww6 a16 hS6 hf16 => ⟨fun _ => trivial, ?_⟩
   refine c_t [] [6, 7] hf16 .nil fun a17 hf17 => ?_
   refine c_ret ?_
   refine r_then ?_
   refine c_rt [vI 0, vI 0] (.tuple #[.agg #[vI 0, vI 0], vI 60]) hf17 (.cell (hS6.box (i := 0) rfl (j := 0) rfl) (.cell (hS6.box (i := 0) rfl (j := 1) rfl) .nil)) ?_
   obtain rfl := some_eq hr5
   exact ⟨_, rfl, z2, (Zone.le_trans k3 k4), rfl, (St.drop 2 hS6)⟩
  ·have hr6 := cond_f hb2 hr4
   refine c_skip ?_
   refine n_then ?_
   refine c_sr ?_
   obtain ⟨p4, hp142, hr7⟩ := bind_some hr6
   obtain ⟨hb3, _, hv1, e1, q1, hehv146, hx1⟩ := arrGet (Ty.mono _ (Zone.le_trans k3 k4) hx_x0_holds) rfl hp142
   obtain rfl := List.head_eq_of_cons_eq hehv146
   refine c_n 4 [.slice e1 p4.length q1] [1, 2, 3, 6, 37] hf14 (.prop hb3 (.cell ((arrAddr b1 1 x1.toNat) ▸ (hS5.box (i := 1) rfl (getElem?_app_right [.slice o_x0_lots x0_lots.length c_x0_lots] _ _ hv1 []))) .nil)) fun a18 hf18 => ?_
   obtain ⟨r1, hd3, hr8⟩ := bind_some hr7
   refine c_call hf18 (f75_ok fuel p4 r1 hd3 z2 _ _ hS5 e1 q1 hx1) ?_
   rintro v3 ww7 a19 ⟨z3, k5, rfl, hS7⟩ hf19
   refine ⟨fun _ => trivial, ?_⟩
   refine c_t [] [1, 2, 3, 6, 11, 12] hf19 .nil fun a20 hf20 => ?_
   refine c_seq ?_
   refine c_sq [] [1, 2, 3, 6, 11, 12, 40] hf20 .nil fun a21 hf21 => ?_
   refine c_if (r1 == (0 : Int)) hf21 (fun hb4 => ?_) (fun hb4 => ?_)
   ·have hr9 := cond_t hb4 hr8
    refine c_sr ?_
    refine c_n 1 [] [6, 41] hf21 .nil fun a22 hf22 => ?_
    refine c_st 0 [vI 0, vI 0] hS7 hf22 rfl fun ww8 a23 hS8 hf23 => ⟨fun _ => trivial, ?_⟩
    refine c_t [] [6, 7] hf23 .nil fun a24 hf24 => ?_
    refine c_ret ?_
    refine r_then ?_
    refine c_rt [vI 0, vI 0] (.tuple #[.agg #[vI 0, vI 0], vI 3]) hf24 (.cell (hS8.box (i := 0) rfl (j := 0) rfl) (.cell (hS8.box (i := 0) rfl (j := 1) rfl) .nil)) ?_
    obtain rfl := some_eq hr9
    exact ⟨_, rfl, z3, (Zone.le_trans (Zone.le_trans k3 k4) k5), rfl, (St.drop 2 hS8)⟩
   ·have hr10 := cond_f hb4 hr8
    refine c_skip ?_
    refine n_then ?_
    refine c_seq ?_
    obtain ⟨p3, hp2755, hr11⟩ := bind_some hr10
    obtain ⟨hb5, _, hv2, e2, q2, hehv2759, hx2⟩ := arrGet (Ty.mono _ (Zone.le_trans (Zone.le_trans k3 k4) k5) hx_x0_holds) rfl hp2755
    obtain rfl := List.head_eq_of_cons_eq hehv2759
    refine c_sq [.slice e2 p3.length q2] [2, 6, 11, 12, 45, 46, 47] hf21 (.prop hb5 (.cell ((arrAddr b1 1 x1.toNat) ▸ (hS7.box (i := 1) rfl (getElem?_app_right [.slice o_x0_lots x0_lots.length c_x0_lots] _ _ hv2 []))) .nil)) fun a25 hf25 => ?_
    refine c_block 0 ?_
    refine c_loop (fun n a w => ∃ z4 : Zone, ∃ y5 : Int, ∃ y3 : Int, Zone.le z3 z4 ∧ Fr a 71 [(2, vI x2), (6, pB b2 0), (11, vI r1), (12, vI y5), (45, .slice e2 p3.length q2), (46, vI (p3.length : Int)), (47, vI y3)] ∧ St z4 (box b2 [vI 0, vI 0] 100 :: box b1 [.slice o_x0_lots x0_lots.length c_x0_lots, v0_x0_holds, v1_x0_holds, v2_x0_holds, v3_x0_holds, v4_x0_holds, v5_x0_holds, v6_x0_holds, v7_x0_holds, v8_x0_holds] 26 :: L) w ∧ (F59_l1 fuel x2 r1 p3 n y5 y3) = some r) fuel ⟨z3, 0, 0, (Zone.le_refl _), hf25.to, hS7, hr11⟩ ?_
    rintro n3 a26 ww9 ⟨z4, y5, y3, k6, hf27, hS9, hr12⟩
    cases n3 with
    | zero => cases hr12
    | succ n2 =>
    refine c_sq [] [2, 6, 11, 12, 45, 46, 47, 48] hf27 .nil fun a27 hf28 => ?_
    refine c_seq ?_
    refine c_if (decide (y3 < (p3.length : Int))) hf28 (fun hb6 => ?_) (fun hb6 => ?_)
    ·have hr13 := cond_t hb6 hr12
     refine c_skip ?_
     refine n_then ?_
     refine c_seq ?_
     refine c_block 1 ?_
     refine c_sr ?_
     obtain ⟨p1, hp4999, hr14⟩ := bind_some hr13
     obtain ⟨ad1, ho1, hb7, cc1, hc1, hk1⟩ := SliceR.getI (SliceR.mono k6 hx2) hp4999
     obtain ⟨e3, q3, rfl, hx3⟩ := hc1
     refine c_n 2 [.pointer (some ad1), .slice e3 p1.length q3] [2, 6, 11, 12, 45, 46, 47, 50] hf28 (.prop ho1 (.prop hb7 (.cell (hS9.cell (hk1 0 _ rfl)) .nil))) fun a28 hf29 => ?_
     refine c_box [.slice none 0 0] 40 hS9 hf29 fun b3 ww10 a29 hS10 hf30 => ⟨fun _ => trivial, ?_⟩
     refine c_st 0 [.slice e3 p1.length q3] hS10 hf30 rfl fun ww11 a30 hS11 hf31 => ⟨fun _ => trivial, ?_⟩
     refine c_dt ?_
     refine c_sq [.slice e3 p1.length q3] [2, 6, 11, 12, 45, 46, 47, 52, 53, 54] hf31 (.cell (hS11.box (i := 0) rfl (j := 0) rfl) .nil) fun a31 hf32 => ?_
     refine c_block 2 ?_
     refine c_loop (fun n a w => ∃ z5 : Zone, ∃ y4 : Int, ∃ y1 : Int, Zone.le z4 z5 ∧ Fr a 71 [(2, vI x2), (6, pB b2 0), (11, vI r1), (12, vI y4), (45, .slice e2 p3.length q2), (46, vI (p3.length : Int)), (47, vI y3), (52, .slice e3 p1.length q3), (53, vI (p1.length : Int)), (54, vI y1)] ∧ St z5 (box b3 [.slice e3 p1.length q3] 40 :: box b2 [vI 0, vI 0] 100 :: box b1 [.slice o_x0_lots x0_lots.length c_x0_lots, v0_x0_holds, v1_x0_holds, v2_x0_holds, v3_x0_holds, v4_x0_holds, v5_x0_holds, v6_x0_holds, v7_x0_holds, v8_x0_holds] 26 :: L) w ∧ (F59_l2 (F59_l1 fuel x2 r1 p3 n2) x2 y3 p1 n y4 y1) = some r) fuel ⟨z4, y5, 0, (Zone.le_refl _), hf32.to, hS11, hr14⟩ ?_
     rintro n4 a32 ww12 ⟨z5, y4, y1, k7, hf34, hS12, hr15⟩
     cases n4 with
     | zero => cases hr15
     | succ n1 =>
     refine c_sq [] [2, 6, 11, 12, 45, 46, 47, 52, 53, 54, 55] hf34 .nil fun a33 hf35 => ?_
     refine c_seq ?_
     refine c_if (decide (y1 < (p1.length : Int))) hf35 (fun hb8 => ?_) (fun hb8 => ?_)
     ·have hr16 := cond_t hb8 hr15
      refine c_skip ?_
      refine n_then ?_
      refine c_mid (fun a w => ∃ z6 : Zone, ∃ y2 : Int, Zone.le z5 z6 ∧ Fr a 71 [(2, vI x2), (6, pB b2 0), (11, vI r1), (12, vI y2), (45, .slice e2 p3.length q2), (46, vI (p3.length : Int)), (47, vI y3), (52, .slice e3 p1.length q3), (53, vI (p1.length : Int)), (54, vI y1)] ∧ St z6 (box b3 [.slice e3 p1.length q3] 40 :: box b2 [vI 0, vI 0] 100 :: box b1 [.slice o_x0_lots x0_lots.length c_x0_lots, v0_x0_holds, v1_x0_holds, v2_x0_holds, v3_x0_holds, v4_x0_holds, v5_x0_holds, v6_x0_holds, v7_x0_holds, v8_x0_holds] 26 :: L) w ∧ (F59_j1 (F59_l2 (F59_l1 fuel x2 r1 p3 n2) x2 y3 p1 n1) y1 y2) = some r) ?_ ?_
      ·skip
       refine c_block 3 ?_
       refine c_sr ?_
       obtain ⟨p2, hp5312, hr17⟩ := bind_some hr16
       obtain ⟨ad2, ho2, hb9, cc2, hc2, hk2⟩ := SliceR.getI (SliceR.mono k7 hx3) hp5312
       subst hc2
       refine c_n 2 [.pointer (some ad2), vI p2.lot, vI p2.mass] [2, 6, 11, 12, 45, 46, 47, 52, 53, 54, 57] hf35 (.prop ho2 (.prop hb9 (.cell (hS12.cell (hk2 0 _ rfl)) (.cell (hS12.cell (hk2 1 _ rfl)) .nil)))) fun a34 hf36 => ?_
       refine c_box [vI 0, vI 0] 56 hS12 hf36 fun b4 ww13 a35 hS13 hf37 => ⟨fun _ => trivial, ?_⟩
       refine c_st 0 [vI p2.lot, vI p2.mass] hS13 hf37 rfl fun ww14 a36 hS14 hf38 => ⟨fun _ => trivial, ?_⟩
       refine c_dt ?_
       refine c_sq [vI p2.lot] [2, 6, 11, 12, 16, 45, 46, 47, 52, 53, 54, 61] hf38 (.cell (hS14.box (i := 0) rfl (j := 0) rfl) .nil) fun a37 hf39 => ?_
       refine c_if (p2.lot == x2) hf39 (fun hb10 => ?_) (fun hb10 => ?_)
       ·have hr18 := cond_t hb10 hr17
        refine c_q [vI p2.mass] [2, 6, 11, 12, 45, 46, 47, 52, 53, 54] hf39 (.cell (hS14.box (i := 0) rfl (j := 1) rfl) .nil) fun a38 hf40 => ?_
        refine n_block ?_
        refine n_then ?_
        exact ⟨z5, (w64 (y4 + p2.mass)), (Zone.le_refl _), hf40.to, (St.drop 1 hS14), hr18⟩
       ·have hr19 := cond_f hb10 hr17
        refine c_skip ?_
        refine n_block ?_
        refine n_then ?_
        exact ⟨z5, y4, (Zone.le_refl _), hf39.to, (St.drop 1 hS14), hr19⟩
      ·rintro a39 ww15 ⟨z6, y2, k8, hf43, hS15, hr20⟩
       refine c_q [] [2, 6, 11, 12, 45, 46, 47, 52, 53, 54] hf43 .nil fun a40 hf44 => ?_
       refine n_then ?_
       exact ⟨n1, Nat.lt_succ_self n1, z6, y2, (w64 (y1 + (1 : Int))), (Zone.le_trans k7 k8), hf44.to, hS15, hr20⟩
     ·have hr21 := cond_f hb8 hr15
      refine c_exit 2 ?_
      refine x_then ?_
      refine x_then ?_
      refine x_block ?_
      refine n_block ?_
      refine n_then ?_
      refine c_q [] [2, 6, 11, 12, 45, 46, 47] hf35 .nil fun a41 hf46 => ?_
      refine n_then ?_
      exact ⟨n2, Nat.lt_succ_self n2, z5, y4, (w64 (y3 + (1 : Int))), (Zone.le_trans k6 k7), hf46.to, (St.drop 1 hS12), hr21⟩
    ·have hr22 := cond_f hb6 hr12
     refine c_exit 0 ?_
     refine x_then ?_
     refine x_then ?_
     refine x_block ?_
     refine n_then ?_
     refine c_sr ?_
     refine c_n 2 [] [6, 68, 69] hf28 .nil fun a42 hf48 => ?_
     obtain ⟨r2, hd4, hr23⟩ := bind_some hr22
     refine c_call hf48 (f117_ok fuel y5 r1 r2 hd4 z4 _ _ hS9 ) ?_
     rintro v4 ww16 a43 ⟨z7, k9, rfl, hS16⟩ hf49
     refine ⟨fun _ => trivial, ?_⟩
     refine c_st 0 [vI r2.1, vI r2.2] hS16 hf49 rfl fun ww17 a44 hS17 hf50 => ⟨fun _ => trivial, ?_⟩
     refine c_t [] [6, 7] hf50 .nil fun a45 hf51 => ?_
     refine c_ret ?_
     refine c_rt [vI r2.1, vI r2.2] (.tuple #[.agg #[vI r2.1, vI r2.2], vI 0]) hf51 (.cell (hS17.box (i := 0) rfl (j := 0) rfl) (.cell (hS17.box (i := 0) rfl (j := 1) rfl) .nil)) ?_
     obtain rfl := some_eq hr23
     exact ⟨_, rfl, z7, (Zone.le_trans (Zone.le_trans (Zone.le_trans (Zone.le_trans k3 k4) k5) k6) k9), rfl, (St.drop 2 hS17)⟩
def F105_l1 (x0 : List Part) (x1 : Int) : Nat → Int → Option (Int)
  | 0, _ => none
  | n1 + 1, y1 =>
    let k1 : Int → Option (Int) := F105_l1 x0 x1 n1
    (cond (decide (y1 < (x0.length : Int))) ((getI x0 y1).bind fun p1 => (cond (p1.lot == x1) ((getI x0 y1).bind fun p2 => (some (p2.mass))) (k1 (w64 (y1 + (1 : Int)))))) (some (0)))
def F105 (fuel : Nat) (x0 : List Part) (x1 : Int) : Option (Int) :=
  (F105_l1 x0 x1 fuel 0)
set_option maxRecDepth 100000 in
theorem f105_ok (fuel : Nat) (x0 : List Part) (x1 : Int) (r : Int) (hr : F105 fuel x0 x1 = some r) (h : Zone) (L : List Atom) (w : World) (hS : St h L w) (o_x0 : Option Addr) (c_x0 : Nat) (hx_x0 : SliceR PartT h o_x0 c_x0 x0) :
    Calls Try.prog 105 #[.agg #[.slice o_x0 x0.length c_x0], vI x1] w fun e w' => ∃ v, e = .returned v ∧ (∃ h', Zone.le h h' ∧ v = vI r ∧ St h' L w') := by
 refine calls_intro (N := 27) Try.func105 (by kernel_rfl) fun a hf => ?_
 refine c_sr ?_
 refine c_box [.slice o_x0 x0.length c_x0] 40 hS hf fun b1 ww1 a1 hS1 hf1 => ⟨fun _ => trivial, ?_⟩
 refine c_t [] [1, 2] hf1 .nil fun a2 hf2 => ?_
 refine c_seq ?_
 refine c_sq [] [1, 2, 5] hf2 .nil fun a3 hf3 => ?_
 refine c_block 0 ?_
 refine c_loop (fun n a w => ∃ z1 : Zone, ∃ y1 : Int, Zone.le h z1 ∧ Fr a 27 [(1, vI x1), (2, pB b1 0), (5, vI y1)] ∧ St z1 (box b1 [.slice o_x0 x0.length c_x0] 40 :: L) w ∧ (F105_l1 x0 x1 n y1) = some r) fuel ⟨h, 0, (Zone.le_refl _), hf3.to, hS1, hr⟩ ?_
 rintro n2 a4 ww2 ⟨z1, y1, k2, hf5, hS2, hr1⟩
 cases n2 with
 | zero => cases hr1
 | succ n1 =>
 refine c_seq ?_
 refine c_sq [.slice o_x0 x0.length c_x0] [1, 2, 5, 10] hf5 (.cell (hS2.box (i := 0) rfl (j := 0) rfl) .nil) fun a5 hf6 => ?_
 refine c_if (decide (y1 < (x0.length : Int))) hf6 (fun hb1 => ?_) (fun hb1 => ?_)
 ·have hr2 := cond_t hb1 hr1
  refine c_skip ?_
  refine n_then ?_
  refine c_seq ?_
  refine c_block 1 ?_
  obtain ⟨p1, hp511, hr3⟩ := bind_some hr2
  obtain ⟨ad1, ho1, hb2, cc1, hc1, hk1⟩ := SliceR.getI (SliceR.mono k2 hx_x0) hp511
  subst hc1
  refine c_sq [.slice o_x0 x0.length c_x0, .pointer (some ad1), vI p1.lot] [1, 2, 5, 20] hf6 (.cell (hS2.box (i := 0) rfl (j := 0) rfl) (.prop ho1 (.prop hb2 (.cell (hS2.cell (hk1 0 _ rfl)) .nil)))) fun a6 hf7 => ?_
  refine c_if (p1.lot == x1) hf7 (fun hb3 => ?_) (fun hb3 => ?_)
  ·have hr4 := cond_t hb3 hr3
   obtain ⟨p2, hp525, hr5⟩ := bind_some hr4
   obtain ⟨ad2, ho2, hb4, cc2, hc2, hk2⟩ := SliceR.getI (SliceR.mono k2 hx_x0) hp525
   subst hc2
   refine c_sq [.slice o_x0 x0.length c_x0, .pointer (some ad2), vI p2.mass] [4] hf7 (.cell (hS2.box (i := 0) rfl (j := 0) rfl) (.prop ho2 (.prop hb4 (.cell (hS2.cell (hk2 1 _ rfl)) .nil)))) fun a7 hf8 => ?_
   refine c_ret ?_
   refine r_block ?_
   refine r_then ?_
   refine r_then ?_
   refine r_block ?_
   refine r_then ?_
   refine c_rt [] (vI p2.mass) hf8 .nil ?_
   obtain rfl := some_eq hr5
   exact ⟨_, rfl, z1, k2, rfl, (St.drop 1 hS2)⟩
  ·have hr6 := cond_f hb3 hr3
   refine c_skip ?_
   refine n_block ?_
   refine n_then ?_
   refine c_q [] [1, 2, 5] hf7 .nil fun a8 hf9 => ?_
   refine n_then ?_
   exact ⟨n1, Nat.lt_succ_self n1, z1, (w64 (y1 + (1 : Int))), k2, hf9.to, hS2, hr6⟩
 ·have hr7 := cond_f hb1 hr1
  refine c_exit 0 ?_
  refine x_then ?_
  refine x_then ?_
  refine x_block ?_
  refine n_then ?_
  refine c_sq [] [4] hf6 .nil fun a9 hf11 => ?_
  refine c_ret ?_
  refine c_rt [] (vI 0) hf11 .nil ?_
  obtain rfl := some_eq hr7
  exact ⟨_, rfl, z1, k2, rfl, (St.drop 1 hS2)⟩
def F119_l1 (x0 : Int) (x1 : Int) : Nat → Int → Int → Option (Int × Int)
  | 0, _, _ => none
  | n1 + 1, y1, y2 =>
    let k1 : Int → Int → Option (Int × Int) := F119_l1 x0 x1 n1
    (cond (decide (y2 > (0 : Int))) ((nz y2).bind fun _ => (k1 y2 (Int.tmod y1 y2))) ((nz y1).bind fun _ => ((nz y1).bind fun _ => (some ((w64 (Int.tdiv x0 y1)), (w64 (Int.tdiv x1 y1)))))))
def F119 (fuel : Nat) (x0 : Int) (x1 : Int) : Option (Int × Int) :=
  (F119_l1 x0 x1 fuel x0 x1)
set_option maxRecDepth 100000 in
theorem f119_ok (fuel : Nat) (x0 : Int) (x1 : Int) (r : Int × Int) (hr : F119 fuel x0 x1 = some r) (h : Zone) (L : List Atom) (w : World) (hS : St h L w)  :
    Calls Try.prog 119 #[vI x0, vI x1] w fun e w' => ∃ v, e = .returned v ∧ (∃ h', Zone.le h h' ∧ v = .agg #[vI r.1, vI r.2] ∧ St h' L w') := by
 refine calls_intro (N := 22) Try.func119 (by kernel_rfl) fun a hf => ?_
 refine c_sr ?_
 refine c_box [vI 0, vI 0] 100 hS hf fun b1 ww1 a1 hS1 hf1 => ⟨fun _ => trivial, ?_⟩
 refine c_dt ?_
 refine c_sq [] [0, 1, 4, 5] hf1 .nil fun a2 hf2 => ?_
 refine c_sq [] [0, 1, 4, 5, 6] hf2 .nil fun a3 hf3 => ?_
 refine c_seq ?_
 refine c_block 0 ?_
 refine c_loop (fun n a w => ∃ z1 : Zone, ∃ y1 : Int, ∃ y2 : Int, Zone.le h z1 ∧ Fr a 22 [(0, vI x0), (1, vI x1), (4, pB b1 0), (5, vI y1), (6, vI y2)] ∧ St z1 (box b1 [vI 0, vI 0] 100 :: L) w ∧ (F119_l1 x0 x1 n y1 y2) = some r) fuel ⟨h, x0, x1, (Zone.le_refl _), hf3.to, hS1, hr⟩ ?_
 rintro n2 a4 ww2 ⟨z1, y1, y2, k2, hf5, hS2, hr1⟩
 cases n2 with
 | zero => cases hr1
 | succ n1 =>
 refine c_seq ?_
 refine c_sq [] [0, 1, 4, 5, 6, 10] hf5 .nil fun a5 hf6 => ?_
 refine c_if (decide (y2 > (0 : Int))) hf6 (fun hb1 => ?_) (fun hb1 => ?_)
 ·have hr2 := cond_t hb1 hr1
  refine c_skip ?_
  refine n_then ?_
  refine c_block 1 ?_
  have hS3 := hS2.drew
  obtain ⟨u1, hd1, hr3⟩ := bind_some hr2
  refine c_qD [(0, true), (1, true), (2, true), (3, true), (4, true), (5, true)] [] [] [0, 1, 4, 5, 6] hf6 (.prop (nz_spec hd1) .nil) .nil fun a6 hf7 => ?_
  refine n_block ?_
  refine n_then ?_
  exact ⟨n1, Nat.lt_succ_self n1, z1, y2, (Int.tmod y1 y2), k2, hf7.to, hS3, hr3⟩
 ·have hr4 := cond_f hb1 hr1
  refine c_exit 0 ?_
  refine x_then ?_
  refine x_then ?_
  refine x_block ?_
  refine n_then ?_
  refine c_seq ?_
  have hS4 := hS2.drew
  refine c_regD [(0, true), (1, true), (2, true), (3, true), (4, true), (5, true), (6, true), (7, false)] [7] (fun x => x = ww2.drew) rfl ?_
  obtain ⟨u2, hd2, hr5⟩ := bind_some hr4
  obtain ⟨u3, hd3, hr6⟩ := bind_some hr5
  refine c_E 7 [] [4, 21] hf6 (.prop (nz_spec hd2) (.prop (nz_spec hd3) .nil)) .nil fun a7 hf9 => ?_
  refine c_st 0 [vI (w64 (Int.tdiv x0 y1)), vI (w64 (Int.tdiv x1 y1))] hS4 hf9 rfl fun ww3 a8 hS5 hf10 => ⟨fun e => absurd e (by decide), ?_⟩
  refine c_dt ?_
  refine c_ret ?_
  refine c_rt [vI (w64 (Int.tdiv x0 y1)), vI (w64 (Int.tdiv x1 y1))] (.agg #[vI (w64 (Int.tdiv x0 y1)), vI (w64 (Int.tdiv x1 y1))]) hf10 (.cell (hS5.box (i := 0) rfl (j := 0) rfl) (.cell (hS5.box (i := 0) rfl (j := 1) rfl) .nil)) ?_
  obtain rfl := some_eq hr6
  exact ⟨_, rfl, z1, k2, rfl, (St.drop 1 hS5)⟩
def F60_l1 (fuel : Nat) (x0_holds : List (List (List Part))) (x1 : Int) (x2 : Int) : Nat → Int → Int → Option (Int × Int × Int)
  | 0, _, _ => none
  | n1 + 1, y1, y2 =>
    let k1 : Int → Int → Option (Int × Int × Int) := F60_l1 fuel x0_holds x1 x2 n1
    ((getI x0_holds x1).bind fun p1 => (cond (decide (y2 < (p1.length : Int))) ((getI x0_holds x1).bind fun p2 => ((getI p2 y2).bind fun p3 => ((F105 fuel p3 x2).bind fun r1 => (k1 (w64 (y1 + r1)) (w64 (y2 + (1 : Int))))))) ((getI x0_holds x1).bind fun p4 => ((F77 fuel p4).bind fun r2 => (cond (r2 == (0 : Int)) (some (0, 0, 3)) ((F119 fuel y1 r2).bind fun r3 => (some (r3.1, r3.2, 0))))))))
def F60 (fuel : Nat) (x0_lots : List Lot) (x0_holds : List (List (List Part))) (x1 : Int) (x2 : Int) : Option (Int × Int × Int) :=
  ((F22 fuel x0_lots x0_holds).bind fun r4 => (cond (r4 != (0 : Int)) (some (0, 0, 62)) ((F118 fuel x1).bind fun r5 => (cond (!r5) (some (0, 0, 1)) ((F56 fuel x0_lots x2).bind fun r6 => (cond (decide (r6 < (0 : Int))) (some (0, 0, 60)) (F60_l1 fuel x0_holds x1 x2 fuel 0 0)))))))
set_option maxRecDepth 100000 in
theorem f60_ok (fuel : Nat) (x0_lots : List Lot) (x0_holds : List (List (List Part))) (x1 : Int) (x2 : Int) (r : Int × Int × Int) (hr : F60 fuel x0_lots x0_holds x1 x2 = some r) (h : Zone) (L : List Atom) (w : World) (hS : St h L w) (o_x0_lots : Option Addr) (c_x0_lots : Nat) (hx_x0_lots : SliceR LotT h o_x0_lots c_x0_lots x0_lots) (v0_x0_holds v1_x0_holds v2_x0_holds v3_x0_holds v4_x0_holds v5_x0_holds v6_x0_holds v7_x0_holds v8_x0_holds : Value) (hx_x0_holds : (Ty.arr 9 (Ty.slice (Ty.slice PartT))).rep h [v0_x0_holds, v1_x0_holds, v2_x0_holds, v3_x0_holds, v4_x0_holds, v5_x0_holds, v6_x0_holds, v7_x0_holds, v8_x0_holds] x0_holds) :
    Calls Try.prog 60 #[.agg #[.slice o_x0_lots x0_lots.length c_x0_lots, v0_x0_holds, v1_x0_holds, v2_x0_holds, v3_x0_holds, v4_x0_holds, v5_x0_holds, v6_x0_holds, v7_x0_holds, v8_x0_holds], vI x1, vI x2] w fun e w' => ∃ v, e = .returned v ∧ (∃ h', Zone.le h h' ∧ v = .tuple #[.agg #[vI r.1, vI r.2.1], vI r.2.2] ∧ St h' L w') := by
 refine calls_intro (N := 56) Try.func60 (by kernel_rfl) fun a hf => ?_
 refine c_sr ?_
 refine c_box [.slice o_x0_lots x0_lots.length c_x0_lots, v0_x0_holds, v1_x0_holds, v2_x0_holds, v3_x0_holds, v4_x0_holds, v5_x0_holds, v6_x0_holds, v7_x0_holds, v8_x0_holds] 26 hS hf fun b1 ww1 a1 hS1 hf1 => ⟨fun _ => trivial, ?_⟩
 refine c_box [vI 0, vI 0] 100 hS1 hf1 fun b2 ww2 a2 hS2 hf2 => ⟨fun _ => trivial, ?_⟩
 refine c_t [] [1, 2, 3, 6] hf2 .nil fun a3 hf3 => ?_
 refine c_seq ?_
 refine c_sr ?_
 refine c_n 1 [.slice o_x0_lots x0_lots.length c_x0_lots, v0_x0_holds, v1_x0_holds, v2_x0_holds, v3_x0_holds, v4_x0_holds, v5_x0_holds, v6_x0_holds, v7_x0_holds, v8_x0_holds] [1, 2, 3, 6, 11] hf3 (.cell (hS2.box (i := 1) rfl (j := 0) rfl) (.cell (hS2.box (i := 1) rfl (j := 1) rfl) (.cell (hS2.box (i := 1) rfl (j := 2) rfl) (.cell (hS2.box (i := 1) rfl (j := 3) rfl) (.cell (hS2.box (i := 1) rfl (j := 4) rfl) (.cell (hS2.box (i := 1) rfl (j := 5) rfl) (.cell (hS2.box (i := 1) rfl (j := 6) rfl) (.cell (hS2.box (i := 1) rfl (j := 7) rfl) (.cell (hS2.box (i := 1) rfl (j := 8) rfl) (.cell (hS2.box (i := 1) rfl (j := 9) rfl) .nil)))))))))) fun a4 hf4 => ?_
 obtain ⟨r4, hd1, hr1⟩ := bind_some hr
 refine c_call hf4 (f22_ok fuel x0_lots x0_holds r4 hd1 h _ _ hS2 o_x0_lots c_x0_lots hx_x0_lots v0_x0_holds v1_x0_holds v2_x0_holds v3_x0_holds v4_x0_holds v5_x0_holds v6_x0_holds v7_x0_holds v8_x0_holds (Ty.mono _ (Zone.le_refl _) hx_x0_holds)) ?_
 rintro v1 ww3 a5 ⟨z1, k2, rfl, hS3⟩ hf5
 refine ⟨fun _ => trivial, ?_⟩
 refine c_t [] [1, 2, 3, 6, 13] hf5 .nil fun a6 hf6 => ?_
 refine c_if (r4 != (0 : Int)) hf6 (fun hb1 => ?_) (fun hb1 => ?_)
 ·have hr2 := cond_t hb1 hr1
  refine c_sr ?_
  refine c_n 1 [] [6, 14] hf6 .nil fun a7 hf7 => ?_
  refine c_st 0 [vI 0, vI 0] hS3 hf7 rfl fun ww4 a8 hS4 hf8 => ⟨fun _ => trivial, ?_⟩
  refine c_t [] [6, 7] hf8 .nil fun a9 hf9 => ?_
  refine c_ret ?_
  refine r_then ?_
  refine c_rt [vI 0, vI 0] (.tuple #[.agg #[vI 0, vI 0], vI 62]) hf9 (.cell (hS4.box (i := 0) rfl (j := 0) rfl) (.cell (hS4.box (i := 0) rfl (j := 1) rfl) .nil)) ?_
  obtain rfl := some_eq hr2
  exact ⟨_, rfl, z1, k2, rfl, (St.drop 2 hS4)⟩
 ·have hr3 := cond_f hb1 hr1
  refine c_skip ?_
  refine n_then ?_
  refine c_seq ?_
  refine c_sr ?_
  refine c_n 1 [] [1, 2, 3, 6, 15] hf6 .nil fun a10 hf10 => ?_
  obtain ⟨r5, hd2, hr4⟩ := bind_some hr3
  refine c_call hf10 (f118_ok fuel x1 r5 hd2 z1 _ _ hS3 ) ?_
  rintro v2 ww5 a11 ⟨z2, k3, rfl, hS5⟩ hf11
  refine ⟨fun _ => trivial, ?_⟩
  refine c_t [] [1, 2, 3, 6, 17] hf11 .nil fun a12 hf12 => ?_
  refine c_if (!r5) hf12 (fun hb2 => ?_) (fun hb2 => ?_)
  ·have hr5 := cond_t hb2 hr4
   refine c_sr ?_
   refine c_n 1 [] [6, 18] hf12 .nil fun a13 hf13 => ?_
   refine c_st 0 [vI 0, vI 0] hS5 hf13 rfl fun ww6 a14 hS6 hf14 => ⟨fun _ => trivial, ?_⟩
   refine c_t [] [6, 7] hf14 .nil fun a15 hf15 => ?_
   refine c_ret ?_
   refine r_then ?_
   refine c_rt [vI 0, vI 0] (.tuple #[.agg #[vI 0, vI 0], vI 1]) hf15 (.cell (hS6.box (i := 0) rfl (j := 0) rfl) (.cell (hS6.box (i := 0) rfl (j := 1) rfl) .nil)) ?_
   obtain rfl := some_eq hr5
   exact ⟨_, rfl, z2, (Zone.le_trans k2 k3), rfl, (St.drop 2 hS6)⟩
  ·have hr6 := cond_f hb2 hr4
   refine c_skip ?_
   refine n_then ?_
   refine c_seq ?_
   refine c_sr ?_
   refine c_n 3 [.slice o_x0_lots x0_lots.length c_x0_lots] [1, 2, 3, 6, 20, 21] hf12 (.cell (hS5.box (i := 1) rfl (j := 0) rfl) .nil) fun a16 hf16 => ?_
   obtain ⟨r6, hd3, hr7⟩ := bind_some hr6
   refine c_call hf16 (f56_ok fuel x0_lots x2 r6 hd3 z2 _ _ hS5 o_x0_lots c_x0_lots (SliceR.mono (Zone.le_trans k2 k3) hx_x0_lots)) ?_
   rintro v3 ww7 a17 ⟨z3, k4, rfl, hS7⟩ hf17
   refine ⟨fun _ => trivial, ?_⟩
   refine c_t [] [1, 2, 3, 6, 23] hf17 .nil fun a18 hf18 => ?_
   refine c_if (decide (r6 < (0 : Int))) hf18 (fun hb3 => ?_) (fun hb3 => ?_)
   ·have hr8 := cond_t hb3 hr7
    refine c_sr ?_
    refine c_n 1 [] [6, 24] hf18 .nil fun a19 hf19 => ?_
    refine c_st 0 [vI 0, vI 0] hS7 hf19 rfl fun ww8 a20 hS8 hf20 => ⟨fun _ => trivial, ?_⟩
    refine c_t [] [6, 7] hf20 .nil fun a21 hf21 => ?_
    refine c_ret ?_
    refine r_then ?_
    refine c_rt [vI 0, vI 0] (.tuple #[.agg #[vI 0, vI 0], vI 60]) hf21 (.cell (hS8.box (i := 0) rfl (j := 0) rfl) (.cell (hS8.box (i := 0) rfl (j := 1) rfl) .nil)) ?_
    obtain rfl := some_eq hr8
    exact ⟨_, rfl, z3, (Zone.le_trans (Zone.le_trans k2 k3) k4), rfl, (St.drop 2 hS8)⟩
   ·have hr9 := cond_f hb3 hr7
    refine c_skip ?_
    refine n_then ?_
    refine c_sq [] [1, 2, 3, 6, 8] hf18 .nil fun a22 hf22 => ?_
    refine c_seq ?_
    refine c_sq [] [1, 2, 3, 6, 8, 9] hf22 .nil fun a23 hf23 => ?_
    refine c_block 0 ?_
    refine c_loop (fun n a w => ∃ z4 : Zone, ∃ y1 : Int, ∃ y2 : Int, Zone.le z3 z4 ∧ Fr a 56 [(1, vI x1), (2, vI x2), (3, pB b1 0), (6, pB b2 0), (8, vI y1), (9, vI y2)] ∧ St z4 (box b2 [vI 0, vI 0] 100 :: box b1 [.slice o_x0_lots x0_lots.length c_x0_lots, v0_x0_holds, v1_x0_holds, v2_x0_holds, v3_x0_holds, v4_x0_holds, v5_x0_holds, v6_x0_holds, v7_x0_holds, v8_x0_holds] 26 :: L) w ∧ (F60_l1 fuel x0_holds x1 x2 n y1 y2) = some r) fuel ⟨z3, 0, 0, (Zone.le_refl _), hf23.to, hS7, hr9⟩ ?_
    rintro n2 a24 ww9 ⟨z4, y1, y2, k5, hf25, hS9, hr10⟩
    cases n2 with
    | zero => cases hr10
    | succ n1 =>
    refine c_seq ?_
    obtain ⟨p1, hp1048, hr11⟩ := bind_some hr10
    obtain ⟨hb4, _, hv1, e1, q1, hehv1052, hx1⟩ := arrGet (Ty.mono _ (Zone.le_trans (Zone.le_trans (Zone.le_trans k2 k3) k4) k5) hx_x0_holds) rfl hp1048
    obtain rfl := List.head_eq_of_cons_eq hehv1052
    refine c_sq [.slice e1 p1.length q1] [1, 2, 3, 6, 8, 9, 31] hf25 (.prop hb4 (.cell ((arrAddr b1 1 x1.toNat) ▸ (hS9.box (i := 1) rfl (getElem?_app_right [.slice o_x0_lots x0_lots.length c_x0_lots] _ _ hv1 []))) .nil)) fun a25 hf26 => ?_
    refine c_if (decide (y2 < (p1.length : Int))) hf26 (fun hb5 => ?_) (fun hb5 => ?_)
    ·have hr12 := cond_t hb5 hr11
     refine c_skip ?_
     refine n_then ?_
     refine c_seq ?_
     refine c_block 1 ?_
     refine c_reg ?_
     obtain ⟨p2, hp1104, hr13⟩ := bind_some hr12
     obtain ⟨hb6, _, hv2, e2, q2, hehv1108, hx2⟩ := arrGet (Ty.mono _ (Zone.le_trans (Zone.le_trans (Zone.le_trans k2 k3) k4) k5) hx_x0_holds) rfl hp1104
     obtain rfl := List.head_eq_of_cons_eq hehv1108
     obtain ⟨p3, hp1114, hr14⟩ := bind_some hr13
     obtain ⟨ad1, ho1, hb7, cc1, hc1, hk1⟩ := SliceR.getI hx2 hp1114
     obtain ⟨e3, q3, rfl, hx3⟩ := hc1
     refine c_n 9 [.slice e2 p2.length q2, .pointer (some ad1), .slice e3 p3.length q3] [1, 2, 3, 6, 9, 34, 41, 42] hf26 (.prop hb6 (.cell ((arrAddr b1 1 x1.toNat) ▸ (hS9.box (i := 1) rfl (getElem?_app_right [.slice o_x0_lots x0_lots.length c_x0_lots] _ _ hv2 []))) (.prop ho1 (.prop hb7 (.cell (hS9.cell (hk1 0 _ rfl)) .nil))))) fun a26 hf27 => ?_
     obtain ⟨r1, hd4, hr15⟩ := bind_some hr14
     refine c_call hf27 (f105_ok fuel p3 x2 r1 hd4 z4 _ _ hS9 e3 q3 hx3) ?_
     rintro v4 ww10 a27 ⟨z5, k6, rfl, hS10⟩ hf28
     refine ⟨fun _ => trivial, ?_⟩
     refine c_z [] [1, 2, 3, 6, 8, 9] hf28 .nil fun a28 hf29 => ?_
     refine n_block ?_
     refine n_then ?_
     refine c_q [] [1, 2, 3, 6, 8, 9] hf29 .nil fun a29 hf30 => ?_
     refine n_then ?_
     exact ⟨n1, Nat.lt_succ_self n1, z5, (w64 (y1 + r1)), (w64 (y2 + (1 : Int))), (Zone.le_trans k5 k6), hf30.to, hS10, hr15⟩
    ·have hr16 := cond_f hb5 hr11
     refine c_exit 0 ?_
     refine x_then ?_
     refine x_then ?_
     refine x_block ?_
     refine n_then ?_
     refine c_sr ?_
     obtain ⟨p4, hp1148, hr17⟩ := bind_some hr16
     obtain ⟨hb8, _, hv3, e4, q4, hehv1152, hx4⟩ := arrGet (Ty.mono _ (Zone.le_trans (Zone.le_trans (Zone.le_trans k2 k3) k4) k5) hx_x0_holds) rfl hp1148
     obtain rfl := List.head_eq_of_cons_eq hehv1152
     refine c_n 4 [.slice e4 p4.length q4] [6, 8, 48] hf26 (.prop hb8 (.cell ((arrAddr b1 1 x1.toNat) ▸ (hS9.box (i := 1) rfl (getElem?_app_right [.slice o_x0_lots x0_lots.length c_x0_lots] _ _ hv3 []))) .nil)) fun a30 hf32 => ?_
     obtain ⟨r2, hd5, hr18⟩ := bind_some hr17
     refine c_call hf32 (f77_ok fuel p4 r2 hd5 z4 _ _ hS9 e4 q4 hx4) ?_
     rintro v5 ww11 a31 ⟨z6, k7, rfl, hS11⟩ hf33
     refine ⟨fun _ => trivial, ?_⟩
     refine c_t [] [6, 8, 10] hf33 .nil fun a32 hf34 => ?_
     refine c_seq ?_
     refine c_sq [] [6, 8, 10, 51] hf34 .nil fun a33 hf35 => ?_
     refine c_if (r2 == (0 : Int)) hf35 (fun hb9 => ?_) (fun hb9 => ?_)
     ·have hr19 := cond_t hb9 hr18
      refine c_sr ?_
      refine c_n 1 [] [6, 52] hf35 .nil fun a34 hf36 => ?_
      refine c_st 0 [vI 0, vI 0] hS11 hf36 rfl fun ww12 a35 hS12 hf37 => ⟨fun _ => trivial, ?_⟩
      refine c_t [] [6, 7] hf37 .nil fun a36 hf38 => ?_
      refine c_ret ?_
      refine r_then ?_
      refine c_rt [vI 0, vI 0] (.tuple #[.agg #[vI 0, vI 0], vI 3]) hf38 (.cell (hS12.box (i := 0) rfl (j := 0) rfl) (.cell (hS12.box (i := 0) rfl (j := 1) rfl) .nil)) ?_
      obtain rfl := some_eq hr19
      exact ⟨_, rfl, z6, (Zone.le_trans (Zone.le_trans (Zone.le_trans (Zone.le_trans k2 k3) k4) k5) k7), rfl, (St.drop 2 hS12)⟩
     ·have hr20 := cond_f hb9 hr18
      refine c_skip ?_
      refine n_then ?_
      refine c_sr ?_
      refine c_n 2 [] [6, 53, 54] hf35 .nil fun a37 hf39 => ?_
      obtain ⟨r3, hd6, hr21⟩ := bind_some hr20
      refine c_call hf39 (f119_ok fuel y1 r2 r3 hd6 z6 _ _ hS11 ) ?_
      rintro v6 ww13 a38 ⟨z7, k8, rfl, hS13⟩ hf40
      refine ⟨fun _ => trivial, ?_⟩
      refine c_st 0 [vI r3.1, vI r3.2] hS13 hf40 rfl fun ww14 a39 hS14 hf41 => ⟨fun _ => trivial, ?_⟩
      refine c_t [] [6, 7] hf41 .nil fun a40 hf42 => ?_
      refine c_ret ?_
      refine c_rt [vI r3.1, vI r3.2] (.tuple #[.agg #[vI r3.1, vI r3.2], vI 0]) hf42 (.cell (hS14.box (i := 0) rfl (j := 0) rfl) (.cell (hS14.box (i := 0) rfl (j := 1) rfl) .nil)) ?_
      obtain rfl := some_eq hr21
      exact ⟨_, rfl, z7, (Zone.le_trans (Zone.le_trans (Zone.le_trans (Zone.le_trans (Zone.le_trans k2 k3) k4) k5) k7) k8), rfl, (St.drop 2 hS14)⟩
def F62_l2 (fuel : Nat) (k1 : Int → Int → Option (Int × Int × Int)) (x0_lots : List Lot) (y1 : Int) (p1 : List Part) : Nat → Int → Int → Option (Int × Int × Int)
  | 0, _, _ => none
  | n1 + 1, y2, y3 =>
    let k2 : Int → Int → Option (Int × Int × Int) := F62_l2 fuel k1 x0_lots y1 p1 n1
    (cond (decide (y3 < (p1.length : Int))) ((getI p1 y3).bind fun p2 => ((getI p1 y3).bind fun p3 => ((F56 fuel x0_lots p3.lot).bind fun r1 => ((getI x0_lots r1).bind fun p4 => (k2 (w64 (y2 + (w64 (p2.mass * p4.wet)))) (w64 (y3 + (1 : Int)))))))) (k1 y2 (w64 (y1 + (1 : Int)))))
def F62_l1 (fuel : Nat) (x0_lots : List Lot) (x0_holds : List (List (List Part))) (x1 : Int) : Nat → Int → Int → Option (Int × Int × Int)
  | 0, _, _ => none
  | n2 + 1, y4, y1 =>
    let k1 : Int → Int → Option (Int × Int × Int) := F62_l1 fuel x0_lots x0_holds x1 n2
    ((getI x0_holds x1).bind fun p5 => (cond (decide (y1 < (p5.length : Int))) ((getI x0_holds x1).bind fun p6 => ((getI p6 y1).bind fun p1 => (F62_l2 fuel k1 x0_lots y1 p1 fuel y4 0))) ((getI x0_holds x1).bind fun p7 => ((F77 fuel p7).bind fun r2 => (cond (r2 == (0 : Int)) (some (0, 0, 3)) ((F119 fuel y4 r2).bind fun r3 => (some (r3.1, r3.2, 0))))))))
def F62 (fuel : Nat) (x0_lots : List Lot) (x0_holds : List (List (List Part))) (x1 : Int) : Option (Int × Int × Int) :=
  ((F22 fuel x0_lots x0_holds).bind fun r4 => (cond (r4 != (0 : Int)) (some (0, 0, 62)) ((F118 fuel x1).bind fun r5 => (cond (!r5) (some (0, 0, 1)) (F62_l1 fuel x0_lots x0_holds x1 fuel 0 0)))))
set_option maxRecDepth 100000 in
theorem f62_ok (fuel : Nat) (x0_lots : List Lot) (x0_holds : List (List (List Part))) (x1 : Int) (r : Int × Int × Int) (hr : F62 fuel x0_lots x0_holds x1 = some r) (h : Zone) (L : List Atom) (w : World) (hS : St h L w) (o_x0_lots : Option Addr) (c_x0_lots : Nat) (hx_x0_lots : SliceR LotT h o_x0_lots c_x0_lots x0_lots) (v0_x0_holds v1_x0_holds v2_x0_holds v3_x0_holds v4_x0_holds v5_x0_holds v6_x0_holds v7_x0_holds v8_x0_holds : Value) (hx_x0_holds : (Ty.arr 9 (Ty.slice (Ty.slice PartT))).rep h [v0_x0_holds, v1_x0_holds, v2_x0_holds, v3_x0_holds, v4_x0_holds, v5_x0_holds, v6_x0_holds, v7_x0_holds, v8_x0_holds] x0_holds) :
    Calls Try.prog 62 #[.agg #[.slice o_x0_lots x0_lots.length c_x0_lots, v0_x0_holds, v1_x0_holds, v2_x0_holds, v3_x0_holds, v4_x0_holds, v5_x0_holds, v6_x0_holds, v7_x0_holds, v8_x0_holds], vI x1] w fun e w' => ∃ v, e = .returned v ∧ (∃ h', Zone.le h h' ∧ v = .tuple #[.agg #[vI r.1, vI r.2.1], vI r.2.2] ∧ St h' L w') := by
 refine calls_intro (N := 74) Try.func62 (by kernel_rfl) fun a hf => ?_
 refine c_sr ?_
 refine c_box [.slice o_x0_lots x0_lots.length c_x0_lots, v0_x0_holds, v1_x0_holds, v2_x0_holds, v3_x0_holds, v4_x0_holds, v5_x0_holds, v6_x0_holds, v7_x0_holds, v8_x0_holds] 26 hS hf fun b1 ww1 a1 hS1 hf1 => ⟨fun _ => trivial, ?_⟩
 refine c_box [vI 0, vI 0] 100 hS1 hf1 fun b2 ww2 a2 hS2 hf2 => ⟨fun _ => trivial, ?_⟩
 refine c_t [] [1, 2, 4] hf2 .nil fun a3 hf3 => ?_
 refine c_seq ?_
 refine c_sr ?_
 refine c_n 1 [.slice o_x0_lots x0_lots.length c_x0_lots, v0_x0_holds, v1_x0_holds, v2_x0_holds, v3_x0_holds, v4_x0_holds, v5_x0_holds, v6_x0_holds, v7_x0_holds, v8_x0_holds] [1, 2, 4, 11] hf3 (.cell (hS2.box (i := 1) rfl (j := 0) rfl) (.cell (hS2.box (i := 1) rfl (j := 1) rfl) (.cell (hS2.box (i := 1) rfl (j := 2) rfl) (.cell (hS2.box (i := 1) rfl (j := 3) rfl) (.cell (hS2.box (i := 1) rfl (j := 4) rfl) (.cell (hS2.box (i := 1) rfl (j := 5) rfl) (.cell (hS2.box (i := 1) rfl (j := 6) rfl) (.cell (hS2.box (i := 1) rfl (j := 7) rfl) (.cell (hS2.box (i := 1) rfl (j := 8) rfl) (.cell (hS2.box (i := 1) rfl (j := 9) rfl) .nil)))))))))) fun a4 hf4 => ?_
 obtain ⟨r4, hd1, hr1⟩ := bind_some hr
 refine c_call hf4 (f22_ok fuel x0_lots x0_holds r4 hd1 h _ _ hS2 o_x0_lots c_x0_lots hx_x0_lots v0_x0_holds v1_x0_holds v2_x0_holds v3_x0_holds v4_x0_holds v5_x0_holds v6_x0_holds v7_x0_holds v8_x0_holds (Ty.mono _ (Zone.le_refl _) hx_x0_holds)) ?_
 rintro v1 ww3 a5 ⟨z1, k3, rfl, hS3⟩ hf5
 refine ⟨fun _ => trivial, ?_⟩
 refine c_t [] [1, 2, 4, 13] hf5 .nil fun a6 hf6 => ?_
 refine c_if (r4 != (0 : Int)) hf6 (fun hb1 => ?_) (fun hb1 => ?_)
 ·have hr2 := cond_t hb1 hr1
  refine c_sr ?_
  refine c_n 1 [] [4, 14] hf6 .nil fun a7 hf7 => ?_
  refine c_st 0 [vI 0, vI 0] hS3 hf7 rfl fun ww4 a8 hS4 hf8 => ⟨fun _ => trivial, ?_⟩
  refine c_t [] [4, 5] hf8 .nil fun a9 hf9 => ?_
  refine c_ret ?_
  refine r_then ?_
  refine c_rt [vI 0, vI 0] (.tuple #[.agg #[vI 0, vI 0], vI 62]) hf9 (.cell (hS4.box (i := 0) rfl (j := 0) rfl) (.cell (hS4.box (i := 0) rfl (j := 1) rfl) .nil)) ?_
  obtain rfl := some_eq hr2
  exact ⟨_, rfl, z1, k3, rfl, (St.drop 2 hS4)⟩
 ·have hr3 := cond_f hb1 hr1
  refine c_skip ?_
  refine n_then ?_
  refine c_seq ?_
  refine c_sr ?_
  refine c_n 1 [] [1, 2, 4, 15] hf6 .nil fun a10 hf10 => ?_
  obtain ⟨r5, hd2, hr4⟩ := bind_some hr3
  refine c_call hf10 (f118_ok fuel x1 r5 hd2 z1 _ _ hS3 ) ?_
  rintro v2 ww5 a11 ⟨z2, k4, rfl, hS5⟩ hf11
  refine ⟨fun _ => trivial, ?_⟩
  refine c_t [] [1, 2, 4, 17] hf11 .nil fun a12 hf12 => ?_
  refine c_if (!r5) hf12 (fun hb2 => ?_) (fun hb2 => ?_)
  ·have hr5 := cond_t hb2 hr4
   refine c_sr ?_
   refine c_n 1 [] [4, 18] hf12 .nil fun a13 hf13 => ?_
   refine c_st 0 [vI 0, vI 0] hS5 hf13 rfl fun ww6 a14 hS6 hf14 => ⟨fun _ => trivial, ?_⟩
   refine c_t [] [4, 5] hf14 .nil fun a15 hf15 => ?_
   refine c_ret ?_
   refine r_then ?_
   refine c_rt [vI 0, vI 0] (.tuple #[.agg #[vI 0, vI 0], vI 1]) hf15 (.cell (hS6.box (i := 0) rfl (j := 0) rfl) (.cell (hS6.box (i := 0) rfl (j := 1) rfl) .nil)) ?_
   obtain rfl := some_eq hr5
   exact ⟨_, rfl, z2, (Zone.le_trans k3 k4), rfl, (St.drop 2 hS6)⟩
  ·have hr6 := cond_f hb2 hr4
   refine c_skip ?_
   refine n_then ?_
   refine c_sq [] [1, 2, 4, 6] hf12 .nil fun a16 hf16 => ?_
   refine c_seq ?_
   refine c_sq [] [1, 2, 4, 6, 7] hf16 .nil fun a17 hf17 => ?_
   refine c_block 0 ?_
   refine c_loop (fun n a w => ∃ z3 : Zone, ∃ y4 : Int, ∃ y1 : Int, Zone.le z2 z3 ∧ Fr a 74 [(1, vI x1), (2, pB b1 0), (4, pB b2 0), (6, vI y4), (7, vI y1)] ∧ St z3 (box b2 [vI 0, vI 0] 100 :: box b1 [.slice o_x0_lots x0_lots.length c_x0_lots, v0_x0_holds, v1_x0_holds, v2_x0_holds, v3_x0_holds, v4_x0_holds, v5_x0_holds, v6_x0_holds, v7_x0_holds, v8_x0_holds] 26 :: L) w ∧ (F62_l1 fuel x0_lots x0_holds x1 n y4 y1) = some r) fuel ⟨z2, 0, 0, (Zone.le_refl _), hf17.to, hS5, hr6⟩ ?_
   rintro n3 a18 ww7 ⟨z3, y4, y1, k5, hf19, hS7, hr7⟩
   cases n3 with
   | zero => cases hr7
   | succ n2 =>
   refine c_seq ?_
   obtain ⟨p5, hp7190, hr8⟩ := bind_some hr7
   obtain ⟨hb3, _, hv1, e1, q1, hehv7194, hx1⟩ := arrGet (Ty.mono _ (Zone.le_trans (Zone.le_trans k3 k4) k5) hx_x0_holds) rfl hp7190
   obtain rfl := List.head_eq_of_cons_eq hehv7194
   refine c_sq [.slice e1 p5.length q1] [1, 2, 4, 6, 7, 25] hf19 (.prop hb3 (.cell ((arrAddr b1 1 x1.toNat) ▸ (hS7.box (i := 1) rfl (getElem?_app_right [.slice o_x0_lots x0_lots.length c_x0_lots] _ _ hv1 []))) .nil)) fun a19 hf20 => ?_
   refine c_if (decide (y1 < (p5.length : Int))) hf20 (fun hb4 => ?_) (fun hb4 => ?_)
   ·have hr9 := cond_t hb4 hr8
    refine c_skip ?_
    refine n_then ?_
    refine c_seq ?_
    refine c_block 1 ?_
    obtain ⟨p6, hp7689, hr10⟩ := bind_some hr9
    obtain ⟨hb5, _, hv2, e2, q2, hehv7693, hx2⟩ := arrGet (Ty.mono _ (Zone.le_trans (Zone.le_trans k3 k4) k5) hx_x0_holds) rfl hp7689
    obtain rfl := List.head_eq_of_cons_eq hehv7693
    obtain ⟨p1, hp7699, hr11⟩ := bind_some hr10
    obtain ⟨ad1, ho1, hb6, cc1, hc1, hk1⟩ := SliceR.getI hx2 hp7699
    obtain ⟨e3, q3, rfl, hx3⟩ := hc1
    refine c_sq [.slice e2 p6.length q2, .pointer (some ad1), .slice e3 p1.length q3] [1, 2, 4, 6, 7, 8] hf20 (.prop hb5 (.cell ((arrAddr b1 1 x1.toNat) ▸ (hS7.box (i := 1) rfl (getElem?_app_right [.slice o_x0_lots x0_lots.length c_x0_lots] _ _ hv2 []))) (.prop ho1 (.prop hb6 (.cell (hS7.cell (hk1 0 _ rfl)) .nil))))) fun a20 hf21 => ?_
    refine c_sq [] [1, 2, 4, 6, 7, 8, 9] hf21 .nil fun a21 hf22 => ?_
    refine c_block 2 ?_
    refine c_loop (fun n a w => ∃ z4 : Zone, ∃ y2 : Int, ∃ y3 : Int, Zone.le z3 z4 ∧ Fr a 74 [(1, vI x1), (2, pB b1 0), (4, pB b2 0), (6, vI y2), (7, vI y1), (8, .slice e3 p1.length q3), (9, vI y3)] ∧ St z4 (box b2 [vI 0, vI 0] 100 :: box b1 [.slice o_x0_lots x0_lots.length c_x0_lots, v0_x0_holds, v1_x0_holds, v2_x0_holds, v3_x0_holds, v4_x0_holds, v5_x0_holds, v6_x0_holds, v7_x0_holds, v8_x0_holds] 26 :: L) w ∧ (F62_l2 fuel (F62_l1 fuel x0_lots x0_holds x1 n2) x0_lots y1 p1 n y2 y3) = some r) fuel ⟨z3, y4, 0, (Zone.le_refl _), hf22.to, hS7, hr11⟩ ?_
    rintro n4 a22 ww8 ⟨z4, y2, y3, k6, hf24, hS8, hr12⟩
    cases n4 with
    | zero => cases hr12
    | succ n1 =>
    refine c_seq ?_
    refine c_sq [] [1, 2, 4, 6, 7, 8, 9, 39] hf24 .nil fun a23 hf25 => ?_
    refine c_if (decide (y3 < (p1.length : Int))) hf25 (fun hb7 => ?_) (fun hb7 => ?_)
    ·have hr13 := cond_t hb7 hr12
     refine c_skip ?_
     refine n_then ?_
     refine c_seq ?_
     refine c_block 3 ?_
     have hS9 := hS8.drew
     have s1 : Sub z4 (box b2 [vI 0, vI 0] 100 :: box b1 [.slice o_x0_lots x0_lots.length c_x0_lots, v0_x0_holds, v1_x0_holds, v2_x0_holds, v3_x0_holds, v4_x0_holds, v5_x0_holds, v6_x0_holds, v7_x0_holds, v8_x0_holds] 26 :: L) _ := Sub.of (Zone.le_refl _) hS9
     refine c_regD [(0, true), (1, true), (2, true), (3, true), (4, true), (5, true), (6, true), (7, true), (8, true), (9, true), (10, true), (11, true), (12, true), (13, true), (14, true), (15, false), (16, true), (17, true), (18, true), (19, true), (20, true), (21, true)] [] (Sub z4 (box b2 [vI 0, vI 0] 100 :: box b1 [.slice o_x0_lots x0_lots.length c_x0_lots, v0_x0_holds, v1_x0_holds, v2_x0_holds, v3_x0_holds, v4_x0_holds, v5_x0_holds, v6_x0_holds, v7_x0_holds, v8_x0_holds] 26 :: L)) s1 ?_
     obtain ⟨p2, hp8123, hr14⟩ := bind_some hr13
     obtain ⟨ad2, ho2, hb8, cc2, hc2, hk2⟩ := SliceR.getI (SliceR.mono k6 hx3) hp8123
     subst hc2
     obtain ⟨p3, hp8132, hr15⟩ := bind_some hr14
     obtain ⟨ad3, ho3, hb9, cc3, hc3, hk3⟩ := SliceR.getI (SliceR.mono k6 hx3) hp8132
     subst hc3
     refine c_S 15 [.pointer (some ad2), vI p2.mass, .slice o_x0_lots x0_lots.length c_x0_lots, .slice o_x0_lots x0_lots.length c_x0_lots, .pointer (some ad3), vI p3.lot] [1, 2, 4, 7, 8, 9, 42, 47, 49, 51, 56] s1 hf25 (fun _ s => (.prop ho2 (.prop hb8 (.cell (s.cell (hk2 1 _ rfl)) (.cell (s.box (i := 1) rfl (j := 0) rfl) (.cell (s.box (i := 1) rfl (j := 0) rfl) (.prop ho3 (.prop hb9 (.cell (s.cell (hk3 0 _ rfl)) .nil))))))))) .nil fun a24 hf26 => ?_
     obtain ⟨r1, hd3, hr16⟩ := bind_some hr15
     refine c_call hf26 (f56_ok fuel x0_lots p3.lot r1 hd3 z4 _ _ hS9 o_x0_lots c_x0_lots (SliceR.mono (Zone.le_trans (Zone.le_trans (Zone.le_trans k3 k4) k5) k6) hx_x0_lots)) ?_
     rintro v3 ww9 a25 ⟨z5, k7, rfl, hS10⟩ hf27
     refine ⟨fun _ => Sub.of k7 hS10, ?_⟩
     have s2 : Sub z4 (box b2 [vI 0, vI 0] 100 :: box b1 [.slice o_x0_lots x0_lots.length c_x0_lots, v0_x0_holds, v1_x0_holds, v2_x0_holds, v3_x0_holds, v4_x0_holds, v5_x0_holds, v6_x0_holds, v7_x0_holds, v8_x0_holds] 26 :: L) _ := Sub.of k7 hS10
     obtain ⟨p4, hp8159, hr17⟩ := bind_some hr16
     obtain ⟨ad4, ho4, hb10, cc4, hc4, hk4⟩ := SliceR.getI (SliceR.mono (Zone.le_trans (Zone.le_trans (Zone.le_trans k3 k4) k5) k6) hx_x0_lots) hp8159
     subst hc4
     refine c_S 6 [.pointer (some ad4), vI p4.wet] [1, 2, 4, 6, 7, 8, 9] s2 hf27 (fun _ s => (.prop ho4 (.prop hb10 (.cell (s.cell (hk4 3 _ rfl)) .nil)))) .nil fun a26 hf28 => ?_
     refine c_done ?_
     refine n_block ?_
     refine n_then ?_
     refine c_q [] [1, 2, 4, 6, 7, 8, 9] hf28 .nil fun a27 hf29 => ?_
     refine n_then ?_
     exact ⟨n1, Nat.lt_succ_self n1, z5, (w64 (y2 + (w64 (p2.mass * p4.wet)))), (w64 (y3 + (1 : Int))), (Zone.le_trans k6 k7), hf29.to, hS10, hr17⟩
    ·have hr18 := cond_f hb7 hr12
     refine c_exit 2 ?_
     refine x_then ?_
     refine x_then ?_
     refine x_block ?_
     refine n_block ?_
     refine n_then ?_
     refine c_q [] [1, 2, 4, 6, 7] hf25 .nil fun a28 hf31 => ?_
     refine n_then ?_
     exact ⟨n2, Nat.lt_succ_self n2, z4, y2, (w64 (y1 + (1 : Int))), (Zone.le_trans k5 k6), hf31.to, hS8, hr18⟩
   ·have hr19 := cond_f hb4 hr8
    refine c_exit 0 ?_
    refine x_then ?_
    refine x_then ?_
    refine x_block ?_
    refine n_then ?_
    refine c_sr ?_
    obtain ⟨p7, hp8176, hr20⟩ := bind_some hr19
    obtain ⟨hb11, _, hv3, e4, q4, hehv8180, hx4⟩ := arrGet (Ty.mono _ (Zone.le_trans (Zone.le_trans k3 k4) k5) hx_x0_holds) rfl hp8176
    obtain rfl := List.head_eq_of_cons_eq hehv8180
    refine c_n 4 [.slice e4 p7.length q4] [4, 6, 66] hf20 (.prop hb11 (.cell ((arrAddr b1 1 x1.toNat) ▸ (hS7.box (i := 1) rfl (getElem?_app_right [.slice o_x0_lots x0_lots.length c_x0_lots] _ _ hv3 []))) .nil)) fun a29 hf33 => ?_
    obtain ⟨r2, hd4, hr21⟩ := bind_some hr20
    refine c_call hf33 (f77_ok fuel p7 r2 hd4 z3 _ _ hS7 e4 q4 hx4) ?_
    rintro v4 ww10 a30 ⟨z6, k8, rfl, hS11⟩ hf34
    refine ⟨fun _ => trivial, ?_⟩
    refine c_t [] [4, 6, 10] hf34 .nil fun a31 hf35 => ?_
    refine c_seq ?_
    refine c_sq [] [4, 6, 10, 69] hf35 .nil fun a32 hf36 => ?_
    refine c_if (r2 == (0 : Int)) hf36 (fun hb12 => ?_) (fun hb12 => ?_)
    ·have hr22 := cond_t hb12 hr21
     refine c_sr ?_
     refine c_n 1 [] [4, 70] hf36 .nil fun a33 hf37 => ?_
     refine c_st 0 [vI 0, vI 0] hS11 hf37 rfl fun ww11 a34 hS12 hf38 => ⟨fun _ => trivial, ?_⟩
     refine c_t [] [4, 5] hf38 .nil fun a35 hf39 => ?_
     refine c_ret ?_
     refine r_then ?_
     refine c_rt [vI 0, vI 0] (.tuple #[.agg #[vI 0, vI 0], vI 3]) hf39 (.cell (hS12.box (i := 0) rfl (j := 0) rfl) (.cell (hS12.box (i := 0) rfl (j := 1) rfl) .nil)) ?_
     obtain rfl := some_eq hr22
     exact ⟨_, rfl, z6, (Zone.le_trans (Zone.le_trans (Zone.le_trans k3 k4) k5) k8), rfl, (St.drop 2 hS12)⟩
    ·have hr23 := cond_f hb12 hr21
     refine c_skip ?_
     refine n_then ?_
     refine c_sr ?_
     refine c_n 2 [] [4, 71, 72] hf36 .nil fun a36 hf40 => ?_
     obtain ⟨r3, hd5, hr24⟩ := bind_some hr23
     refine c_call hf40 (f119_ok fuel y4 r2 r3 hd5 z6 _ _ hS11 ) ?_
     rintro v5 ww12 a37 ⟨z7, k9, rfl, hS13⟩ hf41
     refine ⟨fun _ => trivial, ?_⟩
     refine c_st 0 [vI r3.1, vI r3.2] hS13 hf41 rfl fun ww13 a38 hS14 hf42 => ⟨fun _ => trivial, ?_⟩
     refine c_t [] [4, 5] hf42 .nil fun a39 hf43 => ?_
     refine c_ret ?_
     refine c_rt [vI r3.1, vI r3.2] (.tuple #[.agg #[vI r3.1, vI r3.2], vI 0]) hf43 (.cell (hS14.box (i := 0) rfl (j := 0) rfl) (.cell (hS14.box (i := 0) rfl (j := 1) rfl) .nil)) ?_
     obtain rfl := some_eq hr24
     exact ⟨_, rfl, z7, (Zone.le_trans (Zone.le_trans (Zone.le_trans (Zone.le_trans k3 k4) k5) k8) k9), rfl, (St.drop 2 hS14)⟩
def F63_l2 (fuel : Nat) (k1 : (List Int) → Int → Option (List Int × Int)) (x0_lots : List Lot) (y1 : Int) (p1 : List Part) : Nat → (List Int) → Int → Option (List Int × Int)
  | 0, _, _ => none
  | n1 + 1, y2, y3 =>
    let k2 : (List Int) → Int → Option (List Int × Int) := F63_l2 fuel k1 x0_lots y1 p1 n1
    (cond (decide (y3 < (p1.length : Int))) ((getI p1 y3).bind fun p2 => ((F74 fuel x0_lots p2.lot).bind fun r1 => ((getI x0_lots r1.1).bind fun p3 => ((getI y2 (w64 (p3.grade - (1 : Int)))).bind fun p4 => ((getI y2 (w64 (p3.grade - (1 : Int)))).bind fun p5 => ((setI y2 (w64 (p3.grade - (1 : Int))) (w64 (p4 + p2.mass))).bind fun d1 => (k2 d1 (w64 (y3 + (1 : Int)))))))))) (k1 y2 (w64 (y1 + (1 : Int)))))
def F63_l1 (fuel : Nat) (x0_lots : List Lot) (p6 : List (List Part)) : Nat → (List Int) → Int → Option (List Int × Int)
  | 0, _, _ => none
  | n2 + 1, y4, y1 =>
    let k1 : (List Int) → Int → Option (List Int × Int) := F63_l1 fuel x0_lots p6 n2
    (cond (decide (y1 < (p6.length : Int))) ((getI p6 y1).bind fun p1 => (F63_l2 fuel k1 x0_lots y1 p1 fuel y4 0)) (some (y4, 0)))
def F63 (fuel : Nat) (x0_lots : List Lot) (x0_holds : List (List (List Part))) (x1 : Int) : Option (List Int × Int) :=
  ((F103 fuel x0_lots x0_holds x1).bind fun r2 => (cond (r2 != (0 : Int)) (some ([], r2)) ((mkC 9 (0 : Int)).bind fun d2 => ((getI x0_holds x1).bind fun p6 => (F63_l1 fuel x0_lots p6 fuel d2 0)))))
set_option maxRecDepth 100000 in
theorem f63_ok (fuel : Nat) (x0_lots : List Lot) (x0_holds : List (List (List Part))) (x1 : Int) (r : List Int × Int) (hr : F63 fuel x0_lots x0_holds x1 = some r) (h : Zone) (L : List Atom) (w : World) (hS : St h L w) (o_x0_lots : Option Addr) (c_x0_lots : Nat) (hx_x0_lots : SliceR LotT h o_x0_lots c_x0_lots x0_lots) (v0_x0_holds v1_x0_holds v2_x0_holds v3_x0_holds v4_x0_holds v5_x0_holds v6_x0_holds v7_x0_holds v8_x0_holds : Value) (hx_x0_holds : (Ty.arr 9 (Ty.slice (Ty.slice PartT))).rep h [v0_x0_holds, v1_x0_holds, v2_x0_holds, v3_x0_holds, v4_x0_holds, v5_x0_holds, v6_x0_holds, v7_x0_holds, v8_x0_holds] x0_holds) :
    Calls Try.prog 63 #[.agg #[.slice o_x0_lots x0_lots.length c_x0_lots, v0_x0_holds, v1_x0_holds, v2_x0_holds, v3_x0_holds, v4_x0_holds, v5_x0_holds, v6_x0_holds, v7_x0_holds, v8_x0_holds], vI x1] w fun e w' => ∃ v, e = .returned v ∧ (∃ h', ∃ o0 : Option Addr, ∃ c0 : Nat, Zone.le h h' ∧ v = .tuple #[.slice o0 r.1.length c0, vI r.2] ∧ St h' L w' ∧ SliceR Ty.int h' o0 c0 r.1) := by
 refine calls_intro (N := 62) Try.func63 (by kernel_rfl) fun a hf => ?_
 refine c_sr ?_
 refine c_box [.slice o_x0_lots x0_lots.length c_x0_lots, v0_x0_holds, v1_x0_holds, v2_x0_holds, v3_x0_holds, v4_x0_holds, v5_x0_holds, v6_x0_holds, v7_x0_holds, v8_x0_holds] 26 hS hf fun b1 ww1 a1 hS1 hf1 => ⟨fun _ => trivial, ?_⟩
 refine c_t [] [1, 2] hf1 .nil fun a2 hf2 => ?_
 refine c_seq ?_
 refine c_sr ?_
 refine c_n 2 [.slice o_x0_lots x0_lots.length c_x0_lots, v0_x0_holds, v1_x0_holds, v2_x0_holds, v3_x0_holds, v4_x0_holds, v5_x0_holds, v6_x0_holds, v7_x0_holds, v8_x0_holds] [1, 2, 14, 15] hf2 (.cell (hS1.box (i := 0) rfl (j := 0) rfl) (.cell (hS1.box (i := 0) rfl (j := 1) rfl) (.cell (hS1.box (i := 0) rfl (j := 2) rfl) (.cell (hS1.box (i := 0) rfl (j := 3) rfl) (.cell (hS1.box (i := 0) rfl (j := 4) rfl) (.cell (hS1.box (i := 0) rfl (j := 5) rfl) (.cell (hS1.box (i := 0) rfl (j := 6) rfl) (.cell (hS1.box (i := 0) rfl (j := 7) rfl) (.cell (hS1.box (i := 0) rfl (j := 8) rfl) (.cell (hS1.box (i := 0) rfl (j := 9) rfl) .nil)))))))))) fun a3 hf3 => ?_
 obtain ⟨r2, hd1, hr1⟩ := bind_some hr
 refine c_call hf3 (f103_ok fuel x0_lots x0_holds x1 r2 hd1 h _ _ hS1 o_x0_lots c_x0_lots hx_x0_lots v0_x0_holds v1_x0_holds v2_x0_holds v3_x0_holds v4_x0_holds v5_x0_holds v6_x0_holds v7_x0_holds v8_x0_holds (Ty.mono _ (Zone.le_refl _) hx_x0_holds)) ?_
 rintro v1 ww2 a4 ⟨z1, k3, rfl, hS2⟩ hf4
 refine ⟨fun _ => trivial, ?_⟩
 refine c_t [] [1, 2, 6] hf4 .nil fun a5 hf5 => ?_
 refine c_sq [] [1, 2, 6, 18] hf5 .nil fun a6 hf6 => ?_
 refine c_if (r2 != (0 : Int)) hf6 (fun hb1 => ?_) (fun hb1 => ?_)
 ·have hr2 := cond_t hb1 hr1
  refine c_sq [] [4, 5] hf6 .nil fun a7 hf7 => ?_
  refine c_ret ?_
  refine r_then ?_
  refine c_rt [] (.tuple #[.slice none 0 0, vI r2]) hf7 .nil ?_
  obtain rfl := some_eq hr2
  exact ⟨_, rfl, z1, none, 0, k3, rfl, (St.drop 1 hS2), SliceR.nil' _ _⟩
 ·have hr3 := cond_f hb1 hr1
  refine c_skip ?_
  refine n_then ?_
  refine c_sr ?_
  obtain ⟨d2, hd2, hr4⟩ := bind_some hr3
  refine p_make (T := Ty.int) (i := 0) (d := some 20) (x0 := (0 : Int)) el53 hS2 hf6 (by kernel_rfl) rfl hd2 fun e1 ww3 a8 hS3 hf8 => ⟨fun _ => trivial, ?_⟩
  refine c_t [] [1, 2, 7] hf8 .nil fun a9 hf9 => ?_
  refine c_seq ?_
  obtain ⟨p6, hp5825, hr5⟩ := bind_some hr4
  obtain ⟨hb2, _, hv1, e2, q1, hehv5829, hx1⟩ := arrGet (Ty.mono _ k3 hx_x0_holds) rfl hp5825
  obtain rfl := List.head_eq_of_cons_eq hehv5829
  refine c_sq [.slice e2 p6.length q1] [2, 7, 24, 25, 26] hf9 (.prop hb2 (.cell ((arrAddr b1 1 x1.toNat) ▸ (hS3.box (i := 1) rfl (getElem?_app_right [.slice o_x0_lots x0_lots.length c_x0_lots] _ _ hv1 []))) .nil)) fun a10 hf10 => ?_
  refine c_block 0 ?_
  refine c_loop (fun n a w => ∃ z2 : Zone, ∃ y4 : List Int, ∃ y1 : Int, Zone.le z1 z2 ∧ Fr a 62 [(2, pB b1 0), (7, .slice (some e1) y4.length d2.length), (24, .slice e2 p6.length q1), (25, vI (p6.length : Int)), (26, vI y1)] ∧ St z2 (ownS Ty.int 3 (some e1) d2.length y4 :: box b1 [.slice o_x0_lots x0_lots.length c_x0_lots, v0_x0_holds, v1_x0_holds, v2_x0_holds, v3_x0_holds, v4_x0_holds, v5_x0_holds, v6_x0_holds, v7_x0_holds, v8_x0_holds] 26 :: L) w ∧ y4.length = d2.length ∧ (F63_l1 fuel x0_lots p6 n y4 y1) = some r) fuel ⟨z1, d2, 0, (Zone.le_refl _), hf10.to, hS3, rfl, hr5⟩ ?_
  rintro n3 a11 ww4 ⟨z2, y4, y1, k4, hf12, hS4, hl1, hr6⟩
  cases n3 with
  | zero => cases hr6
  | succ n2 =>
  refine c_sq [] [2, 7, 24, 25, 26, 27] hf12 .nil fun a12 hf13 => ?_
  refine c_seq ?_
  refine c_if (decide (y1 < (p6.length : Int))) hf13 (fun hb3 => ?_) (fun hb3 => ?_)
  ·have hr7 := cond_t hb3 hr6
   refine c_skip ?_
   refine n_then ?_
   refine c_seq ?_
   refine c_block 1 ?_
   refine c_sr ?_
   obtain ⟨p1, hp10865, hr8⟩ := bind_some hr7
   obtain ⟨ad1, ho1, hb4, cc1, hc1, hk1⟩ := SliceR.getI (SliceR.mono k4 hx1) hp10865
   obtain ⟨e3, q2, rfl, hx2⟩ := hc1
   refine c_n 2 [.pointer (some ad1), .slice e3 p1.length q2] [2, 7, 24, 25, 26, 29] hf13 (.prop ho1 (.prop hb4 (.cell (hS4.cell (hk1 0 _ rfl)) .nil))) fun a13 hf14 => ?_
   refine c_box [.slice none 0 0] 40 hS4 hf14 fun b2 ww5 a14 hS5 hf15 => ⟨fun _ => trivial, ?_⟩
   refine c_st 0 [.slice e3 p1.length q2] hS5 hf15 rfl fun ww6 a15 hS6 hf16 => ⟨fun _ => trivial, ?_⟩
   refine c_dt ?_
   refine c_sq [.slice e3 p1.length q2] [2, 7, 24, 25, 26, 31, 32, 33] hf16 (.cell (hS6.box (i := 0) rfl (j := 0) rfl) .nil) fun a16 hf17 => ?_
   refine c_block 2 ?_
   refine c_loop (fun n a w => ∃ z3 : Zone, ∃ y2 : List Int, ∃ y3 : Int, Zone.le z2 z3 ∧ Fr a 62 [(2, pB b1 0), (7, .slice (some e1) y2.length d2.length), (24, .slice e2 p6.length q1), (25, vI (p6.length : Int)), (26, vI y1), (31, .slice e3 p1.length q2), (32, vI (p1.length : Int)), (33, vI y3)] ∧ St z3 (box b2 [.slice e3 p1.length q2] 40 :: ownS Ty.int 3 (some e1) d2.length y2 :: box b1 [.slice o_x0_lots x0_lots.length c_x0_lots, v0_x0_holds, v1_x0_holds, v2_x0_holds, v3_x0_holds, v4_x0_holds, v5_x0_holds, v6_x0_holds, v7_x0_holds, v8_x0_holds] 26 :: L) w ∧ y2.length = d2.length ∧ (F63_l2 fuel (F63_l1 fuel x0_lots p6 n2) x0_lots y1 p1 n y2 y3) = some r) fuel ⟨z2, y4, 0, (Zone.le_refl _), hf17.to, hS6, hl1, hr8⟩ ?_
   rintro n4 a17 ww7 ⟨z3, y2, y3, k5, hf19, hS7, hl2, hr9⟩
   cases n4 with
   | zero => cases hr9
   | succ n1 =>
   refine c_sq [] [2, 7, 24, 25, 26, 31, 32, 33, 34] hf19 .nil fun a18 hf20 => ?_
   refine c_seq ?_
   refine c_if (decide (y3 < (p1.length : Int))) hf20 (fun hb5 => ?_) (fun hb5 => ?_)
   ·have hr10 := cond_t hb5 hr9
    refine c_skip ?_
    refine n_then ?_
    refine c_seq ?_
    refine c_block 3 ?_
    refine c_sr ?_
    obtain ⟨p2, hp11494, hr11⟩ := bind_some hr10
    obtain ⟨ad2, ho2, hb6, cc2, hc2, hk2⟩ := SliceR.getI (SliceR.mono k5 hx2) hp11494
    subst hc2
    refine c_n 2 [.pointer (some ad2), vI p2.lot, vI p2.mass] [2, 7, 24, 25, 26, 31, 32, 33, 36] hf20 (.prop ho2 (.prop hb6 (.cell (hS7.cell (hk2 0 _ rfl)) (.cell (hS7.cell (hk2 1 _ rfl)) .nil)))) fun a19 hf21 => ?_
    refine c_box [vI 0, vI 0] 56 hS7 hf21 fun b3 ww8 a20 hS8 hf22 => ⟨fun _ => trivial, ?_⟩
    refine c_st 0 [vI p2.lot, vI p2.mass] hS8 hf22 rfl fun ww9 a21 hS9 hf23 => ⟨fun _ => trivial, ?_⟩
    refine c_dt ?_
    refine c_sr ?_
    refine c_n 4 [.slice o_x0_lots x0_lots.length c_x0_lots, vI p2.lot] [2, 7, 11, 24, 25, 26, 31, 32, 33, 39, 41] hf23 (.cell (hS9.box (i := 3) rfl (j := 0) rfl) (.cell (hS9.box (i := 0) rfl (j := 0) rfl) .nil)) fun a22 hf24 => ?_
    obtain ⟨r1, hd3, hr12⟩ := bind_some hr11
    refine c_call hf24 (f74_ok fuel x0_lots p2.lot r1 hd3 z3 _ _ hS9 o_x0_lots c_x0_lots (SliceR.mono (Zone.le_trans (Zone.le_trans k3 k4) k5) hx_x0_lots)) ?_
    rintro v2 ww10 a23 ⟨z4, k6, rfl, hS10⟩ hf25
    refine ⟨fun _ => trivial, ?_⟩
    refine c_t [] [2, 7, 11, 12, 24, 25, 26, 31, 32, 33] hf25 .nil fun a24 hf26 => ?_
    have hS11 := hS10.drew
    refine c_regD [(0, true), (1, true), (2, true), (3, true), (4, true), (5, true), (6, true), (7, true), (8, true), (9, true), (10, true), (11, true), (12, true), (13, true), (14, false)] [14] (fun x => x = ww10.drew) rfl ?_
    obtain ⟨p3, hp11534, hr13⟩ := bind_some hr12
    obtain ⟨ad3, ho3, hb7, cc3, hc3, hk3⟩ := SliceR.getI (SliceR.mono (Zone.le_trans (Zone.le_trans (Zone.le_trans k3 k4) k5) k6) hx_x0_lots) hp11534
    subst hc3
    obtain ⟨p4, hp11543, hr14⟩ := bind_some hr13
    obtain ⟨ad4, ho4, hb8, cc4, hc4, hk4⟩ := hS11.ownGet (j := 2) rfl hp11543
    subst hc4
    obtain ⟨p5, hp11552, hr15⟩ := bind_some hr14
    obtain ⟨ad5, ho5, hb9, cc5, hc5, hk5⟩ := hS11.ownGet (j := 2) rfl hp11552
    subst hc5
    refine c_E 14 [.slice o_x0_lots x0_lots.length c_x0_lots, .pointer (some ad3), vI p3.grade, .pointer (some ad4), vI p4, vI p2.mass, .pointer (some ad5)] [2, 7, 24, 25, 26, 31, 32, 33, 57, 58] hf26 (.cell (hS11.box (i := 3) rfl (j := 0) rfl) (.prop ho3 (.prop hb7 (.cell (hS11.cell (hk3 2 _ rfl)) (.prop ho4 (.prop hb8 (.cell (hk4 0 _ rfl) (.cell (hS11.box (i := 0) rfl (j := 1) rfl) (.prop ho5 (.prop hb9 .nil)))))))))) .nil fun a25 hf27 => ?_
    obtain ⟨d1, hd4, hr16⟩ := bind_some hr15
    have hl3 := setI_len hd4
    refine p_setOwnI (i := 14) (j := 2) (ad := ad5) (ix := (w64 (p3.grade - (1 : Int)))) (x' := (w64 (p4 + p2.mass))) hS11 hf27 rfl ho5 (by kernel_rfl) hd4 fun ww11 a26 hS12 hf28 => ?_
    have hf29 := Fr.conv (fl' := [(2, pB b1 0), (7, .slice (some e1) d1.length d2.length), (24, .slice e2 p6.length q1), (25, vI (p6.length : Int)), (26, vI y1), (31, .slice e3 p1.length q2), (32, vI (p1.length : Int)), (33, vI y3), (57, vI (w64 (p4 + p2.mass))), (58, .pointer (some (ad5.add (Int.toNat (w64 (p3.grade - (1 : Int))) * 1))))]) hf28 (by rw [hl3] <;> kernel_rfl)
    refine ⟨fun e => absurd e (by decide), ?_⟩
    refine c_done ?_
    refine n_block ?_
    refine n_then ?_
    refine c_q [] [2, 7, 24, 25, 26, 31, 32, 33] hf29 .nil fun a27 hf30 => ?_
    refine n_then ?_
    exact ⟨n1, Nat.lt_succ_self n1, z4, d1, (w64 (y3 + (1 : Int))), (Zone.le_trans k5 k6), hf30.to, (St.drop 1 hS12), (hl3.symm.trans hl2), hr16⟩
   ·have hr17 := cond_f hb5 hr9
    refine c_exit 2 ?_
    refine x_then ?_
    refine x_then ?_
    refine x_block ?_
    refine n_block ?_
    refine n_then ?_
    refine c_q [] [2, 7, 24, 25, 26] hf20 .nil fun a28 hf32 => ?_
    refine n_then ?_
    exact ⟨n2, Nat.lt_succ_self n2, z3, y2, (w64 (y1 + (1 : Int))), (Zone.le_trans k4 k5), hf32.to, (St.drop 1 hS7), hl2, hr17⟩
  ·have hr18 := cond_f hb3 hr6
   refine c_exit 0 ?_
   refine x_then ?_
   refine x_then ?_
   refine x_block ?_
   refine n_then ?_
   refine c_sq [] [4, 5] hf13 .nil fun a29 hf34 => ?_
   refine c_ret ?_
   obtain ⟨z5, k7, hS13, hx3⟩ := hS4.share (j := 0) rfl
   refine c_rt [] (.tuple #[.slice (some e1) y4.length d2.length, vI 0]) hf34 .nil ?_
   obtain rfl := some_eq hr18
   exact ⟨_, rfl, z5, (some e1), d2.length, (Zone.le_trans (Zone.le_trans k3 k4) k7), rfl, (St.drop 2 hS13), hx3⟩
def F64_l2 (fuel : Nat) (k1 : (List Int) → Int → Option (List Int × Int)) (x0_lots : List Lot) (y1 : Int) (p1 : List Part) : Nat → (List Int) → Int → Option (List Int × Int)
  | 0, _, _ => none
  | n1 + 1, y2, y3 =>
    let k2 : (List Int) → Int → Option (List Int × Int) := F64_l2 fuel k1 x0_lots y1 p1 n1
    (cond (decide (y3 < (p1.length : Int))) ((getI p1 y3).bind fun p2 => ((F56 fuel x0_lots p2.lot).bind fun r1 => ((getI x0_lots r1).bind fun p3 => ((getI y2 (w64 (p3.grade - (1 : Int)))).bind fun p4 => ((getI p1 y3).bind fun p5 => ((getI y2 (w64 (p3.grade - (1 : Int)))).bind fun p6 => ((setI y2 (w64 (p3.grade - (1 : Int))) (w64 (p4 + p5.mass))).bind fun d1 => (k2 d1 (w64 (y3 + (1 : Int))))))))))) (k1 y2 (w64 (y1 + (1 : Int)))))
def F64_l1 (fuel : Nat) (x0_lots : List Lot) (x0_holds : List (List (List Part))) (x1 : Int) : Nat → (List Int) → Int → Option (List Int × Int)
  | 0, _, _ => none
  | n2 + 1, y4, y1 =>
    let k1 : (List Int) → Int → Option (List Int × Int) := F64_l1 fuel x0_lots x0_holds x1 n2
    ((getI x0_holds x1).bind fun p7 => (cond (decide (y1 < (p7.length : Int))) ((getI x0_holds x1).bind fun p8 => ((getI p8 y1).bind fun p1 => (F64_l2 fuel k1 x0_lots y1 p1 fuel y4 0))) (some (y4, 0))))
def F64 (fuel : Nat) (x0_lots : List Lot) (x0_holds : List (List (List Part))) (x1 : Int) : Option (List Int × Int) :=
  ((F22 fuel x0_lots x0_holds).bind fun r2 => (cond (r2 != (0 : Int)) (some ([], 62)) ((F118 fuel x1).bind fun r3 => (cond (!r3) (some ([], 1)) ((mkC 9 (0 : Int)).bind fun d2 => (F64_l1 fuel x0_lots x0_holds x1 fuel d2 0))))))
set_option maxRecDepth 100000 in
theorem f64_ok (fuel : Nat) (x0_lots : List Lot) (x0_holds : List (List (List Part))) (x1 : Int) (r : List Int × Int) (hr : F64 fuel x0_lots x0_holds x1 = some r) (h : Zone) (L : List Atom) (w : World) (hS : St h L w) (o_x0_lots : Option Addr) (c_x0_lots : Nat) (hx_x0_lots : SliceR LotT h o_x0_lots c_x0_lots x0_lots) (v0_x0_holds v1_x0_holds v2_x0_holds v3_x0_holds v4_x0_holds v5_x0_holds v6_x0_holds v7_x0_holds v8_x0_holds : Value) (hx_x0_holds : (Ty.arr 9 (Ty.slice (Ty.slice PartT))).rep h [v0_x0_holds, v1_x0_holds, v2_x0_holds, v3_x0_holds, v4_x0_holds, v5_x0_holds, v6_x0_holds, v7_x0_holds, v8_x0_holds] x0_holds) :
    Calls Try.prog 64 #[.agg #[.slice o_x0_lots x0_lots.length c_x0_lots, v0_x0_holds, v1_x0_holds, v2_x0_holds, v3_x0_holds, v4_x0_holds, v5_x0_holds, v6_x0_holds, v7_x0_holds, v8_x0_holds], vI x1] w fun e w' => ∃ v, e = .returned v ∧ (∃ h', ∃ o0 : Option Addr, ∃ c0 : Nat, Zone.le h h' ∧ v = .tuple #[.slice o0 r.1.length c0, vI r.2] ∧ St h' L w' ∧ SliceR Ty.int h' o0 c0 r.1) := by
 refine calls_intro (N := 69) Try.func64 (by kernel_rfl) fun a hf => ?_
 refine c_sr ?_
 refine c_box [.slice o_x0_lots x0_lots.length c_x0_lots, v0_x0_holds, v1_x0_holds, v2_x0_holds, v3_x0_holds, v4_x0_holds, v5_x0_holds, v6_x0_holds, v7_x0_holds, v8_x0_holds] 26 hS hf fun b1 ww1 a1 hS1 hf1 => ⟨fun _ => trivial, ?_⟩
 refine c_t [] [1, 2] hf1 .nil fun a2 hf2 => ?_
 refine c_seq ?_
 refine c_sr ?_
 refine c_n 1 [.slice o_x0_lots x0_lots.length c_x0_lots, v0_x0_holds, v1_x0_holds, v2_x0_holds, v3_x0_holds, v4_x0_holds, v5_x0_holds, v6_x0_holds, v7_x0_holds, v8_x0_holds] [1, 2, 11] hf2 (.cell (hS1.box (i := 0) rfl (j := 0) rfl) (.cell (hS1.box (i := 0) rfl (j := 1) rfl) (.cell (hS1.box (i := 0) rfl (j := 2) rfl) (.cell (hS1.box (i := 0) rfl (j := 3) rfl) (.cell (hS1.box (i := 0) rfl (j := 4) rfl) (.cell (hS1.box (i := 0) rfl (j := 5) rfl) (.cell (hS1.box (i := 0) rfl (j := 6) rfl) (.cell (hS1.box (i := 0) rfl (j := 7) rfl) (.cell (hS1.box (i := 0) rfl (j := 8) rfl) (.cell (hS1.box (i := 0) rfl (j := 9) rfl) .nil)))))))))) fun a3 hf3 => ?_
 obtain ⟨r2, hd1, hr1⟩ := bind_some hr
 refine c_call hf3 (f22_ok fuel x0_lots x0_holds r2 hd1 h _ _ hS1 o_x0_lots c_x0_lots hx_x0_lots v0_x0_holds v1_x0_holds v2_x0_holds v3_x0_holds v4_x0_holds v5_x0_holds v6_x0_holds v7_x0_holds v8_x0_holds (Ty.mono _ (Zone.le_refl _) hx_x0_holds)) ?_
 rintro v1 ww2 a4 ⟨z1, k3, rfl, hS2⟩ hf4
 refine ⟨fun _ => trivial, ?_⟩
 refine c_t [] [1, 2, 13] hf4 .nil fun a5 hf5 => ?_
 refine c_if (r2 != (0 : Int)) hf5 (fun hb1 => ?_) (fun hb1 => ?_)
 ·have hr2 := cond_t hb1 hr1
  refine c_sq [] [4, 5] hf5 .nil fun a6 hf6 => ?_
  refine c_ret ?_
  refine r_then ?_
  refine c_rt [] (.tuple #[.slice none 0 0, vI 62]) hf6 .nil ?_
  obtain rfl := some_eq hr2
  exact ⟨_, rfl, z1, none, 0, k3, rfl, (St.drop 1 hS2), SliceR.nil' _ _⟩
 ·have hr3 := cond_f hb1 hr1
  refine c_skip ?_
  refine n_then ?_
  refine c_seq ?_
  refine c_sr ?_
  refine c_n 1 [] [1, 2, 14] hf5 .nil fun a7 hf7 => ?_
  obtain ⟨r3, hd2, hr4⟩ := bind_some hr3
  refine c_call hf7 (f118_ok fuel x1 r3 hd2 z1 _ _ hS2 ) ?_
  rintro v2 ww3 a8 ⟨z2, k4, rfl, hS3⟩ hf8
  refine ⟨fun _ => trivial, ?_⟩
  refine c_t [] [1, 2, 16] hf8 .nil fun a9 hf9 => ?_
  refine c_if (!r3) hf9 (fun hb2 => ?_) (fun hb2 => ?_)
  ·have hr5 := cond_t hb2 hr4
   refine c_sq [] [4, 5] hf9 .nil fun a10 hf10 => ?_
   refine c_ret ?_
   refine r_then ?_
   refine c_rt [] (.tuple #[.slice none 0 0, vI 1]) hf10 .nil ?_
   obtain rfl := some_eq hr5
   exact ⟨_, rfl, z2, none, 0, (Zone.le_trans k3 k4), rfl, (St.drop 1 hS3), SliceR.nil' _ _⟩
  ·have hr6 := cond_f hb2 hr4
   refine c_skip ?_
   refine n_then ?_
   refine c_sr ?_
   obtain ⟨d2, hd3, hr7⟩ := bind_some hr6
   refine p_make (T := Ty.int) (i := 0) (d := some 17) (x0 := (0 : Int)) el53 hS3 hf9 (by kernel_rfl) rfl hd3 fun e1 ww4 a11 hS4 hf11 => ⟨fun _ => trivial, ?_⟩
   refine c_t [] [1, 2, 6] hf11 .nil fun a12 hf12 => ?_
   refine c_seq ?_
   refine c_sq [] [1, 2, 6, 7] hf12 .nil fun a13 hf13 => ?_
   refine c_block 0 ?_
   refine c_loop (fun n a w => ∃ z3 : Zone, ∃ y4 : List Int, ∃ y1 : Int, Zone.le z2 z3 ∧ Fr a 69 [(1, vI x1), (2, pB b1 0), (6, .slice (some e1) y4.length d2.length), (7, vI y1)] ∧ St z3 (ownS Ty.int 3 (some e1) d2.length y4 :: box b1 [.slice o_x0_lots x0_lots.length c_x0_lots, v0_x0_holds, v1_x0_holds, v2_x0_holds, v3_x0_holds, v4_x0_holds, v5_x0_holds, v6_x0_holds, v7_x0_holds, v8_x0_holds] 26 :: L) w ∧ y4.length = d2.length ∧ (F64_l1 fuel x0_lots x0_holds x1 n y4 y1) = some r) fuel ⟨z2, d2, 0, (Zone.le_refl _), hf13.to, hS4, rfl, hr7⟩ ?_
   rintro n3 a14 ww5 ⟨z3, y4, y1, k5, hf15, hS5, hl1, hr8⟩
   cases n3 with
   | zero => cases hr8
   | succ n2 =>
   refine c_seq ?_
   obtain ⟨p7, hp10578, hr9⟩ := bind_some hr8
   obtain ⟨hb3, _, hv1, e2, q1, hehv10582, hx1⟩ := arrGet (Ty.mono _ (Zone.le_trans (Zone.le_trans k3 k4) k5) hx_x0_holds) rfl hp10578
   obtain rfl := List.head_eq_of_cons_eq hehv10582
   refine c_sq [.slice e2 p7.length q1] [1, 2, 6, 7, 24] hf15 (.prop hb3 (.cell ((arrAddr b1 1 x1.toNat) ▸ (hS5.box (i := 1) rfl (getElem?_app_right [.slice o_x0_lots x0_lots.length c_x0_lots] _ _ hv1 []))) .nil)) fun a15 hf16 => ?_
   refine c_if (decide (y1 < (p7.length : Int))) hf16 (fun hb4 => ?_) (fun hb4 => ?_)
   ·have hr10 := cond_t hb4 hr9
    refine c_skip ?_
    refine n_then ?_
    refine c_seq ?_
    refine c_block 1 ?_
    obtain ⟨p8, hp11320, hr11⟩ := bind_some hr10
    obtain ⟨hb5, _, hv2, e3, q2, hehv11324, hx2⟩ := arrGet (Ty.mono _ (Zone.le_trans (Zone.le_trans k3 k4) k5) hx_x0_holds) rfl hp11320
    obtain rfl := List.head_eq_of_cons_eq hehv11324
    obtain ⟨p1, hp11330, hr12⟩ := bind_some hr11
    obtain ⟨ad1, ho1, hb6, cc1, hc1, hk1⟩ := SliceR.getI hx2 hp11330
    obtain ⟨e4, q3, rfl, hx3⟩ := hc1
    refine c_sq [.slice e3 p8.length q2, .pointer (some ad1), .slice e4 p1.length q3] [1, 2, 6, 7, 8] hf16 (.prop hb5 (.cell ((arrAddr b1 1 x1.toNat) ▸ (hS5.box (i := 1) rfl (getElem?_app_right [.slice o_x0_lots x0_lots.length c_x0_lots] _ _ hv2 []))) (.prop ho1 (.prop hb6 (.cell (hS5.cell (hk1 0 _ rfl)) .nil))))) fun a16 hf17 => ?_
    refine c_sq [] [1, 2, 6, 7, 8, 9] hf17 .nil fun a17 hf18 => ?_
    refine c_block 2 ?_
    refine c_loop (fun n a w => ∃ z4 : Zone, ∃ y2 : List Int, ∃ y3 : Int, Zone.le z3 z4 ∧ Fr a 69 [(1, vI x1), (2, pB b1 0), (6, .slice (some e1) y2.length d2.length), (7, vI y1), (8, .slice e4 p1.length q3), (9, vI y3)] ∧ St z4 (ownS Ty.int 3 (some e1) d2.length y2 :: box b1 [.slice o_x0_lots x0_lots.length c_x0_lots, v0_x0_holds, v1_x0_holds, v2_x0_holds, v3_x0_holds, v4_x0_holds, v5_x0_holds, v6_x0_holds, v7_x0_holds, v8_x0_holds] 26 :: L) w ∧ y2.length = d2.length ∧ (F64_l2 fuel (F64_l1 fuel x0_lots x0_holds x1 n2) x0_lots y1 p1 n y2 y3) = some r) fuel ⟨z3, y4, 0, (Zone.le_refl _), hf18.to, hS5, hl1, hr12⟩ ?_
    rintro n4 a18 ww6 ⟨z4, y2, y3, k6, hf20, hS6, hl2, hr13⟩
    cases n4 with
    | zero => cases hr13
    | succ n1 =>
    refine c_seq ?_
    refine c_sq [] [1, 2, 6, 7, 8, 9, 38] hf20 .nil fun a19 hf21 => ?_
    refine c_if (decide (y3 < (p1.length : Int))) hf21 (fun hb7 => ?_) (fun hb7 => ?_)
    ·have hr14 := cond_t hb7 hr13
     refine c_skip ?_
     refine n_then ?_
     refine c_seq ?_
     refine c_block 3 ?_
     refine c_seq ?_
     have hS7 := hS6.drew
     have s1 : Sub z4 (ownS Ty.int 3 (some e1) d2.length y2 :: box b1 [.slice o_x0_lots x0_lots.length c_x0_lots, v0_x0_holds, v1_x0_holds, v2_x0_holds, v3_x0_holds, v4_x0_holds, v5_x0_holds, v6_x0_holds, v7_x0_holds, v8_x0_holds] 26 :: L) _ := Sub.of (Zone.le_refl _) hS7
     refine c_regD [(0, true), (1, true), (2, true), (3, true), (4, true), (5, true), (6, true), (7, true), (8, true), (9, false), (10, true), (11, true), (12, true), (13, true), (14, true)] [] (Sub z4 (ownS Ty.int 3 (some e1) d2.length y2 :: box b1 [.slice o_x0_lots x0_lots.length c_x0_lots, v0_x0_holds, v1_x0_holds, v2_x0_holds, v3_x0_holds, v4_x0_holds, v5_x0_holds, v6_x0_holds, v7_x0_holds, v8_x0_holds] 26 :: L)) s1 ?_
     obtain ⟨p2, hp11967, hr15⟩ := bind_some hr14
     obtain ⟨ad2, ho2, hb8, cc2, hc2, hk2⟩ := SliceR.getI (SliceR.mono k6 hx3) hp11967
     subst hc2
     refine c_S 9 [.slice o_x0_lots x0_lots.length c_x0_lots, .slice o_x0_lots x0_lots.length c_x0_lots, .pointer (some ad2), vI p2.lot] [1, 2, 6, 7, 8, 9, 42, 44, 49] s1 hf21 (fun _ s => (.cell (s.box (i := 1) rfl (j := 0) rfl) (.cell (s.box (i := 1) rfl (j := 0) rfl) (.prop ho2 (.prop hb8 (.cell (s.cell (hk2 0 _ rfl)) .nil)))))) .nil fun a20 hf22 => ?_
     obtain ⟨r1, hd4, hr16⟩ := bind_some hr15
     refine c_call hf22 (f56_ok fuel x0_lots p2.lot r1 hd4 z4 _ _ hS7 o_x0_lots c_x0_lots (SliceR.mono (Zone.le_trans (Zone.le_trans (Zone.le_trans k3 k4) k5) k6) hx_x0_lots)) ?_
     rintro v3 ww7 a21 ⟨z5, k7, rfl, hS8⟩ hf23
     refine ⟨fun _ => Sub.of k7 hS8, ?_⟩
     have s2 : Sub z4 (ownS Ty.int 3 (some e1) d2.length y2 :: box b1 [.slice o_x0_lots x0_lots.length c_x0_lots, v0_x0_holds, v1_x0_holds, v2_x0_holds, v3_x0_holds, v4_x0_holds, v5_x0_holds, v6_x0_holds, v7_x0_holds, v8_x0_holds] 26 :: L) _ := Sub.of k7 hS8
     obtain ⟨p3, hp11994, hr17⟩ := bind_some hr16
     obtain ⟨ad3, ho3, hb9, cc3, hc3, hk3⟩ := SliceR.getI (SliceR.mono (Zone.le_trans (Zone.le_trans (Zone.le_trans k3 k4) k5) k6) hx_x0_lots) hp11994
     subst hc3
     refine c_S 5 [.pointer (some ad3), vI p3.grade] [1, 2, 6, 7, 8, 9, 10] s2 hf23 (fun _ s => (.prop ho3 (.prop hb9 (.cell (s.cell (hk3 2 _ rfl)) .nil)))) .nil fun a22 hf24 => ?_
     refine c_dt ?_
     have hS9 := hS8.drew
     refine c_regD [(0, true), (1, true), (2, true), (3, true), (4, true), (5, true), (6, true), (7, true), (8, true), (9, true), (10, true), (11, true), (12, true), (13, false)] [13] (fun x => x = ww7.drew) rfl ?_
     obtain ⟨p4, hp12006, hr18⟩ := bind_some hr17
     obtain ⟨ad4, ho4, hb10, cc4, hc4, hk4⟩ := hS9.ownGet (j := 0) rfl hp12006
     subst hc4
     obtain ⟨p5, hp12015, hr19⟩ := bind_some hr18
     obtain ⟨ad5, ho5, hb11, cc5, hc5, hk5⟩ := SliceR.getI (SliceR.mono (Zone.le_trans k6 k7) hx3) hp12015
     subst hc5
     obtain ⟨p6, hp12024, hr20⟩ := bind_some hr19
     obtain ⟨ad6, ho6, hb12, cc6, hc6, hk6⟩ := hS9.ownGet (j := 0) rfl hp12024
     subst hc6
     refine c_E 13 [.pointer (some ad4), vI p4, .pointer (some ad5), vI p5.mass, .pointer (some ad6)] [1, 2, 6, 7, 8, 9, 66, 67] hf24 (.prop ho4 (.prop hb10 (.cell (hk4 0 _ rfl) (.prop ho5 (.prop hb11 (.cell (hS9.cell (hk5 1 _ rfl)) (.prop ho6 (.prop hb12 .nil)))))))) .nil fun a23 hf25 => ?_
     obtain ⟨d1, hd5, hr21⟩ := bind_some hr20
     have hl3 := setI_len hd5
     refine p_setOwnI (i := 13) (j := 0) (ad := ad6) (ix := (w64 (p3.grade - (1 : Int)))) (x' := (w64 (p4 + p5.mass))) hS9 hf25 rfl ho6 (by kernel_rfl) hd5 fun ww8 a24 hS10 hf26 => ?_
     have hf27 := Fr.conv (fl' := [(1, vI x1), (2, pB b1 0), (6, .slice (some e1) d1.length d2.length), (7, vI y1), (8, .slice e4 p1.length q3), (9, vI y3), (66, vI (w64 (p4 + p5.mass))), (67, .pointer (some (ad6.add (Int.toNat (w64 (p3.grade - (1 : Int))) * 1))))]) hf26 (by rw [hl3] <;> kernel_rfl)
     refine ⟨fun e => absurd e (by decide), ?_⟩
     refine c_done ?_
     refine n_block ?_
     refine n_then ?_
     refine c_q [] [1, 2, 6, 7, 8, 9] hf27 .nil fun a25 hf28 => ?_
     refine n_then ?_
     exact ⟨n1, Nat.lt_succ_self n1, z5, d1, (w64 (y3 + (1 : Int))), (Zone.le_trans k6 k7), hf28.to, hS10, (hl3.symm.trans hl2), hr21⟩
    ·have hr22 := cond_f hb7 hr13
     refine c_exit 2 ?_
     refine x_then ?_
     refine x_then ?_
     refine x_block ?_
     refine n_block ?_
     refine n_then ?_
     refine c_q [] [1, 2, 6, 7] hf21 .nil fun a26 hf30 => ?_
     refine n_then ?_
     exact ⟨n2, Nat.lt_succ_self n2, z4, y2, (w64 (y1 + (1 : Int))), (Zone.le_trans k5 k6), hf30.to, hS6, hl2, hr22⟩
   ·have hr23 := cond_f hb4 hr9
    refine c_exit 0 ?_
    refine x_then ?_
    refine x_then ?_
    refine x_block ?_
    refine n_then ?_
    refine c_sq [] [4, 5] hf16 .nil fun a27 hf32 => ?_
    refine c_ret ?_
    obtain ⟨z6, k8, hS11, hx4⟩ := hS5.share (j := 0) rfl
    refine c_rt [] (.tuple #[.slice (some e1) y4.length d2.length, vI 0]) hf32 .nil ?_
    obtain rfl := some_eq hr23
    exact ⟨_, rfl, z6, (some e1), d2.length, (Zone.le_trans (Zone.le_trans (Zone.le_trans k3 k4) k5) k8), rfl, (St.drop 2 hS11), hx4⟩
def F65_j1 (k1 : (List Int) → (List (Int × Bool)) → Int → Option (List Int × Int)) (y1 : Int) (y2 : List Int) (y3 : List (Int × Bool)) : Option (List Int × Int) :=
  (k1 y2 y3 (w64 (y1 + (1 : Int))))
def F65_l3 (fuel : Nat) (k1 : (List Int) → (List (Int × Bool)) → Int → Option (List Int × Int)) (k2 : (List (Int × Bool)) → Int → Option (List Int × Int)) (x0_lots : List Lot) (x0_holds : List (List (List Part))) (y4 : List Int) (y1 : Int) (y5 : Int) (p1 : List Part) : Nat → (List (Int × Bool)) → Int → Option (List Int × Int)
  | 0, _, _ => none
  | n1 + 1, y6, y7 =>
    let k3 : (List (Int × Bool)) → Int → Option (List Int × Int) := F65_l3 fuel k1 k2 x0_lots x0_holds y4 y1 y5 p1 n1
    (cond (decide (y7 < (p1.length : Int))) ((getI p1 y7).bind fun p2 => ((F115 fuel x0_lots x0_holds p2.lot).bind fun r1 => (k3 (putK y6 r1 true) (w64 (y7 + (1 : Int)))))) (cond (decide ((y6.length : Int) > (1 : Int))) (F65_j1 k1 y1 y4 y6) (k2 y6 (w64 (y5 + (1 : Int))))))
def F65_l2 (fuel : Nat) (k1 : (List Int) → (List (Int × Bool)) → Int → Option (List Int × Int)) (x0_lots : List Lot) (x0_holds : List (List (List Part))) (y4 : List Int) (y1 : Int) (p3 : List (List Part)) : Nat → (List (Int × Bool)) → Int → Option (List Int × Int)
  | 0, _, _ => none
  | n2 + 1, y8, y5 =>
    let k2 : (List (Int × Bool)) → Int → Option (List Int × Int) := F65_l2 fuel k1 x0_lots x0_holds y4 y1 p3 n2
    (cond (decide (y5 < (p3.length : Int))) ((getI p3 y5).bind fun p1 => (F65_l3 fuel k1 k2 x0_lots x0_holds y4 y1 y5 p1 fuel ([]) 0)) (cond (decide ((p3.length : Int) > (0 : Int))) ((appC y4 ([y1])).bind fun d1 => (F65_j1 k1 y1 d1 y8)) (F65_j1 k1 y1 y4 y8)))
def F65_l1 (fuel : Nat) (x0_lots : List Lot) (x0_holds : List (List (List Part))) : Nat → (List Int) → (List (Int × Bool)) → Int → Option (List Int × Int)
  | 0, _, _, _ => none
  | n3 + 1, y4, y9, y1 =>
    let k1 : (List Int) → (List (Int × Bool)) → Int → Option (List Int × Int) := F65_l1 fuel x0_lots x0_holds n3
    (cond (decide (y1 < (9 : Int))) ((getI x0_holds y1).bind fun p3 => (F65_l2 fuel k1 x0_lots x0_holds y4 y1 p3 fuel y9 0)) (some (y4, 0)))
def F65 (fuel : Nat) (x0_lots : List Lot) (x0_holds : List (List (List Part))) : Option (List Int × Int) :=
  ((F21 fuel x0_lots x0_holds).bind fun r2 => (cond (r2 != (0 : Int)) (some ([], r2)) (F65_l1 fuel x0_lots x0_holds fuel ([]) ([]) 0)))
set_option maxRecDepth 100000 in
theorem f65_ok (fuel : Nat) (x0_lots : List Lot) (x0_holds : List (List (List Part))) (r : List Int × Int) (hr : F65 fuel x0_lots x0_holds = some r) (h : Zone) (L : List Atom) (w : World) (hS : St h L w) (o_x0_lots : Option Addr) (c_x0_lots : Nat) (hx_x0_lots : SliceR LotT h o_x0_lots c_x0_lots x0_lots) (v0_x0_holds v1_x0_holds v2_x0_holds v3_x0_holds v4_x0_holds v5_x0_holds v6_x0_holds v7_x0_holds v8_x0_holds : Value) (hx_x0_holds : (Ty.arr 9 (Ty.slice (Ty.slice PartT))).rep h [v0_x0_holds, v1_x0_holds, v2_x0_holds, v3_x0_holds, v4_x0_holds, v5_x0_holds, v6_x0_holds, v7_x0_holds, v8_x0_holds] x0_holds) :
    Calls Try.prog 65 #[.agg #[.slice o_x0_lots x0_lots.length c_x0_lots, v0_x0_holds, v1_x0_holds, v2_x0_holds, v3_x0_holds, v4_x0_holds, v5_x0_holds, v6_x0_holds, v7_x0_holds, v8_x0_holds]] w fun e w' => ∃ v, e = .returned v ∧ (∃ h', ∃ o0 : Option Addr, ∃ c0 : Nat, Zone.le h h' ∧ v = .tuple #[.slice o0 r.1.length c0, vI r.2] ∧ St h' L w' ∧ SliceR Ty.int h' o0 c0 r.1) := by
 refine calls_intro (N := 58) Try.func65 (by kernel_rfl) fun a hf => ?_
 refine c_sr ?_
 refine c_box [.slice o_x0_lots x0_lots.length c_x0_lots, v0_x0_holds, v1_x0_holds, v2_x0_holds, v3_x0_holds, v4_x0_holds, v5_x0_holds, v6_x0_holds, v7_x0_holds, v8_x0_holds] 26 hS hf fun b1 ww1 a1 hS1 hf1 => ⟨fun _ => trivial, ?_⟩
 refine c_t [] [1] hf1 .nil fun a2 hf2 => ?_
 refine c_scope ?_
 refine c_seq ?_
 refine c_sr ?_
 refine c_n 1 [.slice o_x0_lots x0_lots.length c_x0_lots, v0_x0_holds, v1_x0_holds, v2_x0_holds, v3_x0_holds, v4_x0_holds, v5_x0_holds, v6_x0_holds, v7_x0_holds, v8_x0_holds] [1, 13] hf2 (.cell (hS1.box (i := 0) rfl (j := 0) rfl) (.cell (hS1.box (i := 0) rfl (j := 1) rfl) (.cell (hS1.box (i := 0) rfl (j := 2) rfl) (.cell (hS1.box (i := 0) rfl (j := 3) rfl) (.cell (hS1.box (i := 0) rfl (j := 4) rfl) (.cell (hS1.box (i := 0) rfl (j := 5) rfl) (.cell (hS1.box (i := 0) rfl (j := 6) rfl) (.cell (hS1.box (i := 0) rfl (j := 7) rfl) (.cell (hS1.box (i := 0) rfl (j := 8) rfl) (.cell (hS1.box (i := 0) rfl (j := 9) rfl) .nil)))))))))) fun a3 hf3 => ?_
 obtain ⟨r2, hd1, hr1⟩ := bind_some hr
 refine c_call hf3 (f21_ok fuel x0_lots x0_holds r2 hd1 h _ _ hS1 o_x0_lots c_x0_lots hx_x0_lots v0_x0_holds v1_x0_holds v2_x0_holds v3_x0_holds v4_x0_holds v5_x0_holds v6_x0_holds v7_x0_holds v8_x0_holds (Ty.mono _ (Zone.le_refl _) hx_x0_holds)) ?_
 rintro v1 ww2 a4 ⟨z1, k4, rfl, hS2⟩ hf4
 refine ⟨fun _ => trivial, ?_⟩
 refine c_t [] [1, 4] hf4 .nil fun a5 hf5 => ?_
 refine c_sq [] [1, 4, 16] hf5 .nil fun a6 hf6 => ?_
 refine c_if (r2 != (0 : Int)) hf6 (fun hb1 => ?_) (fun hb1 => ?_)
 ·have hr2 := cond_t hb1 hr1
  refine c_sq [] [2, 3] hf6 .nil fun a7 hf7 => ?_
  refine c_ret ?_
  refine r_then ?_
  refine r_scope ?_
  refine c_rt [] (.tuple #[.slice none 0 0, vI r2]) hf7 .nil ?_
  obtain rfl := some_eq hr2
  exact ⟨_, rfl, z1, none, 0, k4, rfl, (St.drop 1 hS2), SliceR.nil' _ _⟩
 ·have hr3 := cond_f hb1 hr1
  refine c_skip ?_
  refine n_then ?_
  refine c_sq [] [1, 5] hf6 .nil fun a8 hf8 => ?_
  refine c_sr ?_
  refine p_makeMap (i := 0) (d := (some 18)) Value.bool hS2 hf8 (fun b => by kernel_rfl) fun b2 ww3 a9 hS3 hf9 => ⟨fun _ => trivial, ?_⟩
  refine c_t [] [1, 5, 6] hf9 .nil fun a10 hf10 => ?_
  refine c_seq ?_
  refine c_skip ?_
  refine n_then ?_
  refine c_seq ?_
  refine c_sq [v0_x0_holds, v1_x0_holds, v2_x0_holds, v3_x0_holds, v4_x0_holds, v5_x0_holds, v6_x0_holds, v7_x0_holds, v8_x0_holds] [1, 5, 6, 20, 21] hf10 (.cell (hS3.box (i := 1) rfl (j := 1) rfl) (.cell (hS3.box (i := 1) rfl (j := 2) rfl) (.cell (hS3.box (i := 1) rfl (j := 3) rfl) (.cell (hS3.box (i := 1) rfl (j := 4) rfl) (.cell (hS3.box (i := 1) rfl (j := 5) rfl) (.cell (hS3.box (i := 1) rfl (j := 6) rfl) (.cell (hS3.box (i := 1) rfl (j := 7) rfl) (.cell (hS3.box (i := 1) rfl (j := 8) rfl) (.cell (hS3.box (i := 1) rfl (j := 9) rfl) .nil))))))))) fun a11 hf11 => ?_
  refine c_block 0 ?_
  have hS4 := hS3.ownNil Ty.int 3
  refine c_loop (fun n a w => ∃ z2 : Zone, ∃ y4 : List Int, ∃ y9 : List (Int × Bool), ∃ y1 : Int, ∃ e1 : Option Addr, ∃ q1 : Nat, Zone.le z1 z2 ∧ Fr a 58 [(1, pB b1 0), (5, .slice e1 y4.length q1), (6, .map (some b2)), (20, .agg #[v0_x0_holds, v1_x0_holds, v2_x0_holds, v3_x0_holds, v4_x0_holds, v5_x0_holds, v6_x0_holds, v7_x0_holds, v8_x0_holds]), (21, vI y1)] ∧ St z2 (ownS Ty.int 3 e1 q1 y4 :: mapA Value.bool b2 y9 :: box b1 [.slice o_x0_lots x0_lots.length c_x0_lots, v0_x0_holds, v1_x0_holds, v2_x0_holds, v3_x0_holds, v4_x0_holds, v5_x0_holds, v6_x0_holds, v7_x0_holds, v8_x0_holds] 26 :: L) w ∧ (F65_l1 fuel x0_lots x0_holds n y4 y9 y1) = some r) fuel ⟨z1, [], [], 0, none, 0, (Zone.le_refl _), hf11.to, hS4, hr3⟩ ?_
  rintro n4 a12 ww4 ⟨z2, y4, y9, y1, e1, q1, k5, hf13, hS5, hr4⟩
  cases n4 with
  | zero => cases hr4
  | succ n3 =>
  refine c_sq [] [1, 5, 6, 20, 21, 22] hf13 .nil fun a13 hf14 => ?_
  refine c_seq ?_
  refine c_if (decide (y1 < (9 : Int))) hf14 (fun hb2 => ?_) (fun hb2 => ?_)
  ·have hr5 := cond_t hb2 hr4
   refine c_skip ?_
   refine n_then ?_
   refine c_mid (fun a w => ∃ z3 : Zone, ∃ y2 : List Int, ∃ y3 : List (Int × Bool), ∃ e2 : Option Addr, ∃ q2 : Nat, Zone.le z2 z3 ∧ Fr a 58 [(1, pB b1 0), (5, .slice e2 y2.length q2), (6, .map (some b2)), (20, .agg #[v0_x0_holds, v1_x0_holds, v2_x0_holds, v3_x0_holds, v4_x0_holds, v5_x0_holds, v6_x0_holds, v7_x0_holds, v8_x0_holds]), (21, vI y1)] ∧ St z3 (ownS Ty.int 3 e2 q2 y2 :: mapA Value.bool b2 y3 :: box b1 [.slice o_x0_lots x0_lots.length c_x0_lots, v0_x0_holds, v1_x0_holds, v2_x0_holds, v3_x0_holds, v4_x0_holds, v5_x0_holds, v6_x0_holds, v7_x0_holds, v8_x0_holds] 26 :: L) w ∧ (F65_j1 (F65_l1 fuel x0_lots x0_holds n3) y1 y2 y3) = some r) ?_ ?_
   ·skip
    refine c_block 1 ?_
    obtain ⟨p3, hp316393, hr6⟩ := bind_some hr5
    obtain ⟨hb3, _, hv1, e3, q3, hehv316397, hx1⟩ := arrGet (Ty.mono _ (Zone.le_trans k4 k5) hx_x0_holds) rfl hp316393
    obtain rfl := List.head_eq_of_cons_eq hehv316397
    have hk1 := arrIdx hv1
    refine c_sq [.slice e3 p3.length q3] [1, 5, 6, 7, 8, 20, 21] hf14 (.prop hb3 (.prop hk1 .nil)) fun a14 hf15 => ?_
    refine c_seq ?_
    refine c_sq [] [1, 5, 6, 7, 8, 20, 21, 25, 26, 27] hf15 .nil fun a15 hf16 => ?_
    refine c_block 2 ?_
    refine c_loop (fun n a w => ∃ z4 : Zone, ∃ y8 : List (Int × Bool), ∃ y5 : Int, Zone.le z2 z4 ∧ Fr a 58 [(1, pB b1 0), (5, .slice e1 y4.length q1), (6, .map (some b2)), (7, vI y1), (8, .slice e3 p3.length q3), (20, .agg #[v0_x0_holds, v1_x0_holds, v2_x0_holds, v3_x0_holds, v4_x0_holds, v5_x0_holds, v6_x0_holds, v7_x0_holds, v8_x0_holds]), (21, vI y1), (25, .slice e3 p3.length q3), (26, vI (p3.length : Int)), (27, vI y5)] ∧ St z4 (ownS Ty.int 3 e1 q1 y4 :: mapA Value.bool b2 y8 :: box b1 [.slice o_x0_lots x0_lots.length c_x0_lots, v0_x0_holds, v1_x0_holds, v2_x0_holds, v3_x0_holds, v4_x0_holds, v5_x0_holds, v6_x0_holds, v7_x0_holds, v8_x0_holds] 26 :: L) w ∧ (F65_l2 fuel (F65_l1 fuel x0_lots x0_holds n3) x0_lots x0_holds y4 y1 p3 n y8 y5) = some r) fuel ⟨z2, y9, 0, (Zone.le_refl _), hf16.to, hS5, hr6⟩ ?_
    rintro n5 a16 ww5 ⟨z4, y8, y5, k6, hf18, hS6, hr7⟩
    cases n5 with
    | zero => cases hr7
    | succ n2 =>
    refine c_sq [] [1, 5, 6, 7, 8, 20, 21, 25, 26, 27, 28] hf18 .nil fun a17 hf19 => ?_
    refine c_seq ?_
    refine c_if (decide (y5 < (p3.length : Int))) hf19 (fun hb4 => ?_) (fun hb4 => ?_)
    ·have hr8 := cond_t hb4 hr7
     refine c_skip ?_
     refine n_then ?_
     refine c_seq ?_
     refine c_block 3 ?_
     refine c_sr ?_
     obtain ⟨p1, hp329842, hr9⟩ := bind_some hr8
     obtain ⟨ad1, ho1, hb5, cc1, hc1, hk2⟩ := SliceR.getI (SliceR.mono k6 hx1) hp329842
     obtain ⟨e4, q4, rfl, hx2⟩ := hc1
     refine c_n 2 [.pointer (some ad1), .slice e4 p1.length q4] [1, 5, 6, 7, 8, 20, 21, 25, 26, 27, 30] hf19 (.prop ho1 (.prop hb5 (.cell (hS6.cell (hk2 0 _ rfl)) .nil))) fun a18 hf20 => ?_
     refine c_box [.slice none 0 0] 40 hS6 hf20 fun b3 ww6 a19 hS7 hf21 => ⟨fun _ => trivial, ?_⟩
     refine c_st 0 [.slice e4 p1.length q4] hS7 hf21 rfl fun ww7 a20 hS8 hf22 => ⟨fun _ => trivial, ?_⟩
     refine c_dt ?_
     refine c_sr ?_
     refine c_n 1 [] [1, 5, 6, 7, 8, 10, 20, 21, 25, 26, 27, 31] hf22 .nil fun a21 hf23 => ?_
     refine p_clear (i := 1) (j := 2) (d := none) (t := 117) (r := b2) hS8 hf23 rfl (by kernel_rfl) mp117 fun ww8 a22 hS9 hf24 => ⟨fun _ => trivial, ?_⟩
     refine c_dt ?_
     refine c_seq ?_
     refine c_sq [.slice e4 p1.length q4] [1, 5, 6, 7, 8, 20, 21, 25, 26, 27, 33, 34, 35] hf24 (.cell (hS9.box (i := 0) rfl (j := 0) rfl) .nil) fun a23 hf25 => ?_
     refine c_block 4 ?_
     refine c_loop (fun n a w => ∃ z5 : Zone, ∃ y6 : List (Int × Bool), ∃ y7 : Int, Zone.le z4 z5 ∧ Fr a 58 [(1, pB b1 0), (5, .slice e1 y4.length q1), (6, .map (some b2)), (7, vI y1), (8, .slice e3 p3.length q3), (20, .agg #[v0_x0_holds, v1_x0_holds, v2_x0_holds, v3_x0_holds, v4_x0_holds, v5_x0_holds, v6_x0_holds, v7_x0_holds, v8_x0_holds]), (21, vI y1), (25, .slice e3 p3.length q3), (26, vI (p3.length : Int)), (27, vI y5), (33, .slice e4 p1.length q4), (34, vI (p1.length : Int)), (35, vI y7)] ∧ St z5 (box b3 [.slice e4 p1.length q4] 40 :: ownS Ty.int 3 e1 q1 y4 :: mapA Value.bool b2 y6 :: box b1 [.slice o_x0_lots x0_lots.length c_x0_lots, v0_x0_holds, v1_x0_holds, v2_x0_holds, v3_x0_holds, v4_x0_holds, v5_x0_holds, v6_x0_holds, v7_x0_holds, v8_x0_holds] 26 :: L) w ∧ (F65_l3 fuel (F65_l1 fuel x0_lots x0_holds n3) (F65_l2 fuel (F65_l1 fuel x0_lots x0_holds n3) x0_lots x0_holds y4 y1 p3 n2) x0_lots x0_holds y4 y1 y5 p1 n y6 y7) = some r) fuel ⟨z4, [], 0, (Zone.le_refl _), hf25.to, hS9, hr9⟩ ?_
     rintro n6 a24 ww9 ⟨z5, y6, y7, k7, hf27, hS10, hr10⟩
     cases n6 with
     | zero => cases hr10
     | succ n1 =>
     refine c_sq [] [1, 5, 6, 7, 8, 20, 21, 25, 26, 27, 33, 34, 35, 36] hf27 .nil fun a25 hf28 => ?_
     refine c_seq ?_
     refine c_if (decide (y7 < (p1.length : Int))) hf28 (fun hb6 => ?_) (fun hb6 => ?_)
     ·have hr11 := cond_t hb6 hr10
      refine c_skip ?_
      refine n_then ?_
      refine c_seq ?_
      refine c_block 5 ?_
      refine c_sr ?_
      obtain ⟨p2, hp330667, hr12⟩ := bind_some hr11
      obtain ⟨ad2, ho2, hb7, cc2, hc2, hk3⟩ := SliceR.getI (SliceR.mono k7 hx2) hp330667
      subst hc2
      refine c_n 2 [.pointer (some ad2), vI p2.lot, vI p2.mass] [1, 5, 6, 7, 8, 20, 21, 25, 26, 27, 33, 34, 35, 38] hf28 (.prop ho2 (.prop hb7 (.cell (hS10.cell (hk3 0 _ rfl)) (.cell (hS10.cell (hk3 1 _ rfl)) .nil)))) fun a26 hf29 => ?_
      refine c_box [vI 0, vI 0] 56 hS10 hf29 fun b4 ww10 a27 hS11 hf30 => ⟨fun _ => trivial, ?_⟩
      refine c_st 0 [vI p2.lot, vI p2.mass] hS11 hf30 rfl fun ww11 a28 hS12 hf31 => ⟨fun _ => trivial, ?_⟩
      refine c_dt ?_
      refine c_reg ?_
      refine c_n 4 [.slice o_x0_lots x0_lots.length c_x0_lots, v0_x0_holds, v1_x0_holds, v2_x0_holds, v3_x0_holds, v4_x0_holds, v5_x0_holds, v6_x0_holds, v7_x0_holds, v8_x0_holds, vI p2.lot] [1, 5, 6, 7, 8, 20, 21, 25, 26, 27, 33, 34, 35, 39, 40, 42] hf31 (.cell (hS12.box (i := 4) rfl (j := 0) rfl) (.cell (hS12.box (i := 4) rfl (j := 1) rfl) (.cell (hS12.box (i := 4) rfl (j := 2) rfl) (.cell (hS12.box (i := 4) rfl (j := 3) rfl) (.cell (hS12.box (i := 4) rfl (j := 4) rfl) (.cell (hS12.box (i := 4) rfl (j := 5) rfl) (.cell (hS12.box (i := 4) rfl (j := 6) rfl) (.cell (hS12.box (i := 4) rfl (j := 7) rfl) (.cell (hS12.box (i := 4) rfl (j := 8) rfl) (.cell (hS12.box (i := 4) rfl (j := 9) rfl) (.cell (hS12.box (i := 0) rfl (j := 0) rfl) .nil))))))))))) fun a29 hf32 => ?_
      obtain ⟨r1, hd2, hr13⟩ := bind_some hr12
      refine c_call hf32 (f115_ok fuel x0_lots x0_holds p2.lot r1 hd2 z5 _ _ hS12 o_x0_lots c_x0_lots (SliceR.mono (Zone.le_trans (Zone.le_trans (Zone.le_trans k4 k5) k6) k7) hx_x0_lots) v0_x0_holds v1_x0_holds v2_x0_holds v3_x0_holds v4_x0_holds v5_x0_holds v6_x0_holds v7_x0_holds v8_x0_holds (Ty.mono _ (Zone.le_trans (Zone.le_trans (Zone.le_trans k4 k5) k6) k7) hx_x0_holds)) ?_
      rintro v2 ww12 a30 ⟨z6, k8, rfl, hS13⟩ hf33
      refine ⟨fun _ => trivial, ?_⟩
      refine p_put (i := 5) (j := 3) (t := 117) (r := b2) (k := r1) (v := true) hS13 hf33 rfl (by kernel_rfl) mp117 fun ww13 a31 hS14 hf34 => ⟨fun _ => trivial, ?_⟩
      refine c_done ?_
      refine n_block ?_
      refine n_then ?_
      refine c_q [] [1, 5, 6, 7, 8, 20, 21, 25, 26, 27, 33, 34, 35] hf34 .nil fun a32 hf35 => ?_
      refine n_then ?_
      exact ⟨n1, Nat.lt_succ_self n1, z6, (putK y6 r1 true), (w64 (y7 + (1 : Int))), (Zone.le_trans k7 k8), hf35.to, (St.drop 1 hS14), hr13⟩
     ·have hr14 := cond_f hb6 hr10
      refine c_exit 4 ?_
      refine x_then ?_
      refine x_then ?_
      refine x_block ?_
      refine n_then ?_
      refine c_sr ?_
      refine c_n 1 [] [1, 5, 6, 7, 8, 20, 21, 25, 26, 27, 45] hf28 .nil fun a33 hf37 => ?_
      refine p_lenMap (i := 1) (d := (some 46)) (t := 117) (o := (some b2)) (D := y6) hf37 (by kernel_rfl) mp117 (hS10.mapLook (j := 2) rfl) fun a34 hf38 => ⟨fun _ => trivial, ?_⟩
      refine c_t [] [1, 5, 6, 7, 8, 20, 21, 25, 26, 27, 47] hf38 .nil fun a35 hf39 => ?_
      refine c_if (decide ((y6.length : Int) > (1 : Int))) hf39 (fun hb8 => ?_) (fun hb8 => ?_)
      ·have hr15 := cond_t hb8 hr14
       refine c_exit 1 ?_
       refine x_pass rfl ?_
       refine x_then ?_
       refine x_then ?_
       refine x_pass rfl ?_
       refine x_then ?_
       refine x_block ?_
       refine n_then ?_
       exact ⟨z5, y4, y6, e1, q1, (Zone.le_trans k6 k7), hf39.to, (St.drop 1 hS10), hr15⟩
      ·have hr16 := cond_f hb8 hr14
       refine c_skip ?_
       refine n_block ?_
       refine n_then ?_
       refine c_q [] [1, 5, 6, 7, 8, 20, 21, 25, 26, 27] hf39 .nil fun a36 hf41 => ?_
       refine n_then ?_
       exact ⟨n2, Nat.lt_succ_self n2, z5, y6, (w64 (y5 + (1 : Int))), (Zone.le_trans k6 k7), hf41.to, (St.drop 1 hS10), hr16⟩
    ·have hr17 := cond_f hb4 hr7
     refine c_exit 2 ?_
     refine x_then ?_
     refine x_then ?_
     refine x_block ?_
     refine n_then ?_
     refine c_sq [] [1, 5, 6, 7, 20, 21, 51] hf19 .nil fun a37 hf43 => ?_
     refine c_if (decide ((p3.length : Int) > (0 : Int))) hf43 (fun hb9 => ?_) (fun hb9 => ?_)
     ·have hr18 := cond_t hb9 hr17
      refine c_reg ?_
      refine c_n 2 [] [1, 6, 20, 21, 52, 53] hf43 .nil fun a38 hf44 => ?_
      refine p_box (i := 2) (d := (some 54)) (cs := [vI y1]) (T := 3) (v := fun b5 => .slice (some ⟨b5, 0, none⟩) 1 1) hS6 hf44 (fun b => by kernel_rfl) fun b5 ww14 a39 hS15 hf45 => ⟨fun _ => trivial, ?_⟩
      have hS16 := hS15.ownBox (T := Ty.int) (E := 3) (n := 1) (xs := [y1]) (i := 0) rfl (Rows.cons (c := [vI y1]) rfl rfl) rfl (by decide)
      obtain ⟨d1, hd3, hr19⟩ := bind_some hr18
      refine p_append (T := Ty.int) (i := 3) (j := 1) (d := some 55) (o2 := (some ⟨b5, 0, none⟩)) (c2 := 1) (ys := ([y1])) el53 hS16 hf45 rfl (by kernel_rfl) (hS16.ownSrc (j := 0) rfl) hd3 fun e5 q5 ww15 a40 hS17 hf46 => ⟨fun _ => trivial, ?_⟩
      refine c_z [] [1, 5, 6, 20, 21] hf46 .nil fun a41 hf47 => ?_
      refine n_block ?_
      refine n_then ?_
      exact ⟨z4, d1, y8, e5, q5, k6, hf47.to, (St.drop 1 hS17), hr19⟩
     ·have hr20 := cond_f hb9 hr17
      refine c_skip ?_
      refine n_block ?_
      refine n_then ?_
      exact ⟨z4, y4, y8, e1, q1, k6, hf43.to, hS6, hr20⟩
   ·rintro a42 ww16 ⟨z3, y2, y3, e2, q2, k9, hf50, hS18, hr21⟩
    refine c_q [] [1, 5, 6, 20, 21] hf50 .nil fun a43 hf51 => ?_
    refine n_then ?_
    exact ⟨n3, Nat.lt_succ_self n3, z3, y2, y3, (w64 (y1 + (1 : Int))), e2, q2, (Zone.le_trans k5 k9), hf51.to, hS18, hr21⟩
  ·have hr22 := cond_f hb2 hr4
   refine c_exit 0 ?_
   refine x_then ?_
   refine x_then ?_
   refine x_block ?_
   refine n_then ?_
   refine c_sq [] [2, 3] hf14 .nil fun a44 hf53 => ?_
   refine c_ret ?_
   refine r_scope ?_
   obtain ⟨z7, k10, hS19, hx3⟩ := hS5.share (j := 0) rfl
   refine c_rt [] (.tuple #[.slice e1 y4.length q1, vI 0]) hf53 .nil ?_
   obtain rfl := some_eq hr22
   exact ⟨_, rfl, z7, e1, q1, (Zone.le_trans (Zone.le_trans k4 k5) k10), rfl, (St.drop 3 hS19), hx3⟩
def F66_j1 (k1 : (List Int) → Int → Option (List Int × Int)) (y1 : Int) (y2 : List Int) : Option (List Int × Int) :=
  (k1 y2 (w64 (y1 + (1 : Int))))
def F66_j2 (k2 : Bool → Int → Option (List Int × Int)) (y3 : Int) (y4 : Bool) : Option (List Int × Int) :=
  (k2 y4 (w64 (y3 + (1 : Int))))
def F66_l2 (fuel : Nat) (k1 : (List Int) → Int → Option (List Int × Int)) (x0_lots : List Lot) (x0_holds : List (List (List Part))) (y5 : List Int) (y1 : Int) : Nat → Bool → Int → Option (List Int × Int)
  | 0, _, _ => none
  | n1 + 1, y6, y3 =>
    let k2 : Bool → Int → Option (List Int × Int) := F66_l2 fuel k1 x0_lots x0_holds y5 y1 n1
    ((getI x0_holds y1).bind fun p1 => (cond (decide (y3 < (p1.length : Int))) ((getI x0_holds y1).bind fun p2 => ((getI p2 y3).bind fun p3 => (cond y6 ((getI p3 0).bind fun p4 => ((F120 fuel x0_lots x0_holds p4.lot).bind fun r1 => ((F116 fuel x0_lots x0_holds p3 r1).bind fun r2 => ((F92 fuel p3).bind fun r3 => (F66_j2 k2 y3 (r2 == r3)))))) (F66_j2 k2 y3 false)))) (cond y6 ((appC y5 ([y1])).bind fun d1 => (F66_j1 k1 y1 d1)) (F66_j1 k1 y1 y5))))
def F66_l1 (fuel : Nat) (x0_lots : List Lot) (x0_holds : List (List (List Part))) : Nat → (List Int) → Int → Option (List Int × Int)
  | 0, _, _ => none
  | n2 + 1, y5, y1 =>
    let k1 : (List Int) → Int → Option (List Int × Int) := F66_l1 fuel x0_lots x0_holds n2
    (cond (decide (y1 < (9 : Int))) ((getI x0_holds y1).bind fun p5 => (F66_l2 fuel k1 x0_lots x0_holds y5 y1 fuel (decide ((p5.length : Int) > (0 : Int))) 0)) (some (y5, 0)))
def F66 (fuel : Nat) (x0_lots : List Lot) (x0_holds : List (List (List Part))) : Option (List Int × Int) :=
  ((F22 fuel x0_lots x0_holds).bind fun r4 => (cond (r4 != (0 : Int)) (some ([], 62)) (F66_l1 fuel x0_lots x0_holds fuel ([]) 0)))
set_option maxRecDepth 100000 in
theorem f66_ok (fuel : Nat) (x0_lots : List Lot) (x0_holds : List (List (List Part))) (r : List Int × Int) (hr : F66 fuel x0_lots x0_holds = some r) (h : Zone) (L : List Atom) (w : World) (hS : St h L w) (o_x0_lots : Option Addr) (c_x0_lots : Nat) (hx_x0_lots : SliceR LotT h o_x0_lots c_x0_lots x0_lots) (v0_x0_holds v1_x0_holds v2_x0_holds v3_x0_holds v4_x0_holds v5_x0_holds v6_x0_holds v7_x0_holds v8_x0_holds : Value) (hx_x0_holds : (Ty.arr 9 (Ty.slice (Ty.slice PartT))).rep h [v0_x0_holds, v1_x0_holds, v2_x0_holds, v3_x0_holds, v4_x0_holds, v5_x0_holds, v6_x0_holds, v7_x0_holds, v8_x0_holds] x0_holds) :
    Calls Try.prog 66 #[.agg #[.slice o_x0_lots x0_lots.length c_x0_lots, v0_x0_holds, v1_x0_holds, v2_x0_holds, v3_x0_holds, v4_x0_holds, v5_x0_holds, v6_x0_holds, v7_x0_holds, v8_x0_holds]] w fun e w' => ∃ v, e = .returned v ∧ (∃ h', ∃ o0 : Option Addr, ∃ c0 : Nat, Zone.le h h' ∧ v = .tuple #[.slice o0 r.1.length c0, vI r.2] ∧ St h' L w' ∧ SliceR Ty.int h' o0 c0 r.1) := by
 refine calls_intro (N := 60) Try.func66 (by kernel_rfl) fun a hf => ?_
 refine c_sr ?_
 refine c_box [.slice o_x0_lots x0_lots.length c_x0_lots, v0_x0_holds, v1_x0_holds, v2_x0_holds, v3_x0_holds, v4_x0_holds, v5_x0_holds, v6_x0_holds, v7_x0_holds, v8_x0_holds] 26 hS hf fun b1 ww1 a1 hS1 hf1 => ⟨fun _ => trivial, ?_⟩
 refine c_t [] [1] hf1 .nil fun a2 hf2 => ?_
 refine c_seq ?_
 refine c_sr ?_
 refine c_n 1 [.slice o_x0_lots x0_lots.length c_x0_lots, v0_x0_holds, v1_x0_holds, v2_x0_holds, v3_x0_holds, v4_x0_holds, v5_x0_holds, v6_x0_holds, v7_x0_holds, v8_x0_holds] [1, 9] hf2 (.cell (hS1.box (i := 0) rfl (j := 0) rfl) (.cell (hS1.box (i := 0) rfl (j := 1) rfl) (.cell (hS1.box (i := 0) rfl (j := 2) rfl) (.cell (hS1.box (i := 0) rfl (j := 3) rfl) (.cell (hS1.box (i := 0) rfl (j := 4) rfl) (.cell (hS1.box (i := 0) rfl (j := 5) rfl) (.cell (hS1.box (i := 0) rfl (j := 6) rfl) (.cell (hS1.box (i := 0) rfl (j := 7) rfl) (.cell (hS1.box (i := 0) rfl (j := 8) rfl) (.cell (hS1.box (i := 0) rfl (j := 9) rfl) .nil)))))))))) fun a3 hf3 => ?_
 obtain ⟨r4, hd1, hr1⟩ := bind_some hr
 refine c_call hf3 (f22_ok fuel x0_lots x0_holds r4 hd1 h _ _ hS1 o_x0_lots c_x0_lots hx_x0_lots v0_x0_holds v1_x0_holds v2_x0_holds v3_x0_holds v4_x0_holds v5_x0_holds v6_x0_holds v7_x0_holds v8_x0_holds (Ty.mono _ (Zone.le_refl _) hx_x0_holds)) ?_
 rintro v1 ww2 a4 ⟨z1, k3, rfl, hS2⟩ hf4
 refine ⟨fun _ => trivial, ?_⟩
 refine c_t [] [1, 11] hf4 .nil fun a5 hf5 => ?_
 refine c_if (r4 != (0 : Int)) hf5 (fun hb1 => ?_) (fun hb1 => ?_)
 ·have hr2 := cond_t hb1 hr1
  refine c_sq [] [2, 3] hf5 .nil fun a6 hf6 => ?_
  refine c_ret ?_
  refine r_then ?_
  refine c_rt [] (.tuple #[.slice none 0 0, vI 62]) hf6 .nil ?_
  obtain rfl := some_eq hr2
  exact ⟨_, rfl, z1, none, 0, k3, rfl, (St.drop 1 hS2), SliceR.nil' _ _⟩
 ·have hr3 := cond_f hb1 hr1
  refine c_skip ?_
  refine n_then ?_
  refine c_sq [] [1, 4] hf5 .nil fun a7 hf7 => ?_
  refine c_seq ?_
  refine c_sq [] [1, 4, 5] hf7 .nil fun a8 hf8 => ?_
  refine c_block 0 ?_
  have hS3 := hS2.ownNil Ty.int 3
  refine c_loop (fun n a w => ∃ z2 : Zone, ∃ y5 : List Int, ∃ y1 : Int, ∃ e1 : Option Addr, ∃ q1 : Nat, Zone.le z1 z2 ∧ Fr a 60 [(1, pB b1 0), (4, .slice e1 y5.length q1), (5, vI y1)] ∧ St z2 (ownS Ty.int 3 e1 q1 y5 :: box b1 [.slice o_x0_lots x0_lots.length c_x0_lots, v0_x0_holds, v1_x0_holds, v2_x0_holds, v3_x0_holds, v4_x0_holds, v5_x0_holds, v6_x0_holds, v7_x0_holds, v8_x0_holds] 26 :: L) w ∧ (F66_l1 fuel x0_lots x0_holds n y5 y1) = some r) fuel ⟨z1, [], 0, none, 0, (Zone.le_refl _), hf8.to, hS3, hr3⟩ ?_
  rintro n3 a9 ww3 ⟨z2, y5, y1, e1, q1, k4, hf10, hS4, hr4⟩
  cases n3 with
  | zero => cases hr4
  | succ n2 =>
  refine c_seq ?_
  refine c_sq [] [1, 4, 5, 13] hf10 .nil fun a10 hf11 => ?_
  refine c_if (decide (y1 < (9 : Int))) hf11 (fun hb2 => ?_) (fun hb2 => ?_)
  ·have hr5 := cond_t hb2 hr4
   refine c_skip ?_
   refine n_then ?_
   refine c_mid (fun a w => ∃ z3 : Zone, ∃ y2 : List Int, ∃ e2 : Option Addr, ∃ q2 : Nat, Zone.le z2 z3 ∧ Fr a 60 [(1, pB b1 0), (4, .slice e2 y2.length q2), (5, vI y1)] ∧ St z3 (ownS Ty.int 3 e2 q2 y2 :: box b1 [.slice o_x0_lots x0_lots.length c_x0_lots, v0_x0_holds, v1_x0_holds, v2_x0_holds, v3_x0_holds, v4_x0_holds, v5_x0_holds, v6_x0_holds, v7_x0_holds, v8_x0_holds] 26 :: L) w ∧ (F66_j1 (F66_l1 fuel x0_lots x0_holds n2) y1 y2) = some r) ?_ ?_
   ·skip
    refine c_block 1 ?_
    obtain ⟨p5, hp49677, hr6⟩ := bind_some hr5
    obtain ⟨hb3, _, hv1, e3, q3, hehv49681, hx1⟩ := arrGet (Ty.mono _ (Zone.le_trans k3 k4) hx_x0_holds) rfl hp49677
    obtain rfl := List.head_eq_of_cons_eq hehv49681
    refine c_sq [.slice e3 p5.length q3] [1, 4, 5, 6] hf11 (.prop hb3 (.cell ((arrAddr b1 1 y1.toNat) ▸ (hS4.box (i := 1) rfl (getElem?_app_right [.slice o_x0_lots x0_lots.length c_x0_lots] _ _ hv1 []))) .nil)) fun a11 hf12 => ?_
    refine c_seq ?_
    refine c_sq [] [1, 4, 5, 6, 7] hf12 .nil fun a12 hf13 => ?_
    refine c_block 2 ?_
    refine c_loop (fun n a w => ∃ z4 : Zone, ∃ y6 : Bool, ∃ y3 : Int, Zone.le z2 z4 ∧ Fr a 60 [(1, pB b1 0), (4, .slice e1 y5.length q1), (5, vI y1), (6, .bool y6), (7, vI y3)] ∧ St z4 (ownS Ty.int 3 e1 q1 y5 :: box b1 [.slice o_x0_lots x0_lots.length c_x0_lots, v0_x0_holds, v1_x0_holds, v2_x0_holds, v3_x0_holds, v4_x0_holds, v5_x0_holds, v6_x0_holds, v7_x0_holds, v8_x0_holds] 26 :: L) w ∧ (F66_l2 fuel (F66_l1 fuel x0_lots x0_holds n2) x0_lots x0_holds y5 y1 n y6 y3) = some r) fuel ⟨z2, (decide ((p5.length : Int) > (0 : Int))), 0, (Zone.le_refl _), hf13.to, hS4, hr6⟩ ?_
    rintro n4 a13 ww4 ⟨z4, y6, y3, k5, hf15, hS5, hr7⟩
    cases n4 with
    | zero => cases hr7
    | succ n1 =>
    refine c_seq ?_
    obtain ⟨p1, hp51500, hr8⟩ := bind_some hr7
    obtain ⟨hb4, _, hv2, e4, q4, hehv51504, hx2⟩ := arrGet (Ty.mono _ (Zone.le_trans (Zone.le_trans k3 k4) k5) hx_x0_holds) rfl hp51500
    obtain rfl := List.head_eq_of_cons_eq hehv51504
    refine c_sq [.slice e4 p1.length q4] [1, 4, 5, 6, 7, 28] hf15 (.prop hb4 (.cell ((arrAddr b1 1 y1.toNat) ▸ (hS5.box (i := 1) rfl (getElem?_app_right [.slice o_x0_lots x0_lots.length c_x0_lots] _ _ hv2 []))) .nil)) fun a14 hf16 => ?_
    refine c_if (decide (y3 < (p1.length : Int))) hf16 (fun hb5 => ?_) (fun hb5 => ?_)
    ·have hr9 := cond_t hb5 hr8
     refine c_skip ?_
     refine n_then ?_
     refine c_mid (fun a w => ∃ z5 : Zone, ∃ y4 : Bool, Zone.le z4 z5 ∧ Fr a 60 [(1, pB b1 0), (4, .slice e1 y5.length q1), (5, vI y1), (6, .bool y4), (7, vI y3)] ∧ St z5 (ownS Ty.int 3 e1 q1 y5 :: box b1 [.slice o_x0_lots x0_lots.length c_x0_lots, v0_x0_holds, v1_x0_holds, v2_x0_holds, v3_x0_holds, v4_x0_holds, v5_x0_holds, v6_x0_holds, v7_x0_holds, v8_x0_holds] 26 :: L) w ∧ (F66_j2 (F66_l2 fuel (F66_l1 fuel x0_lots x0_holds n2) x0_lots x0_holds y5 y1 n1) y3 y4) = some r) ?_ ?_
     ·skip
      refine c_block 3 ?_
      refine c_sr ?_
      obtain ⟨p2, hp51739, hr10⟩ := bind_some hr9
      obtain ⟨hb6, _, hv3, e5, q5, hehv51743, hx3⟩ := arrGet (Ty.mono _ (Zone.le_trans (Zone.le_trans k3 k4) k5) hx_x0_holds) rfl hp51739
      obtain rfl := List.head_eq_of_cons_eq hehv51743
      obtain ⟨p3, hp51749, hr11⟩ := bind_some hr10
      obtain ⟨ad1, ho1, hb7, cc1, hc1, hk1⟩ := SliceR.getI hx3 hp51749
      obtain ⟨e6, q6, rfl, hx4⟩ := hc1
      refine c_n 7 [.slice e5 p2.length q5, .pointer (some ad1), .slice e6 p3.length q6] [1, 4, 5, 6, 7, 37] hf16 (.prop hb6 (.cell ((arrAddr b1 1 y1.toNat) ▸ (hS5.box (i := 1) rfl (getElem?_app_right [.slice o_x0_lots x0_lots.length c_x0_lots] _ _ hv3 []))) (.prop ho1 (.prop hb7 (.cell (hS5.cell (hk1 0 _ rfl)) .nil))))) fun a15 hf17 => ?_
      refine c_box [.slice none 0 0] 40 hS5 hf17 fun b2 ww5 a16 hS6 hf18 => ⟨fun _ => trivial, ?_⟩
      refine c_st 0 [.slice e6 p3.length q6] hS6 hf18 rfl fun ww6 a17 hS7 hf19 => ⟨fun _ => trivial, ?_⟩
      refine c_dt ?_
      have hS8 := hS7.drew
      have s1 : Sub z4 (box b2 [.slice e6 p3.length q6] 40 :: ownS Ty.int 3 e1 q1 y5 :: box b1 [.slice o_x0_lots x0_lots.length c_x0_lots, v0_x0_holds, v1_x0_holds, v2_x0_holds, v3_x0_holds, v4_x0_holds, v5_x0_holds, v6_x0_holds, v7_x0_holds, v8_x0_holds] 26 :: L) _ := Sub.of (Zone.le_refl _) hS8
      refine c_regD [(0, true), (1, true), (2, true), (3, true), (4, true), (5, true), (6, true), (7, true), (8, true), (9, true), (12, true), (10, false), (11, false), (13, false), (14, true), (15, true), (16, true)] [13] (Sub z4 (box b2 [.slice e6 p3.length q6] 40 :: ownS Ty.int 3 e1 q1 y5 :: box b1 [.slice o_x0_lots x0_lots.length c_x0_lots, v0_x0_holds, v1_x0_holds, v2_x0_holds, v3_x0_holds, v4_x0_holds, v5_x0_holds, v6_x0_holds, v7_x0_holds, v8_x0_holds] 26 :: L)) s1 ?_
      refine c_S 2 [] [1, 4, 5, 7, 8, 39] s1 hf19 (fun _ s => .nil) .nil fun a18 hf20 => ?_
      rcases Bool.eq_false_or_eq_true y6 with hb8 | hb8
      ·have hr12 := cond_t hb8 hr11
       have hf21 := hf20.lit 39 hb8
       obtain ⟨p4, hp51779, hr13⟩ := bind_some hr12
       obtain ⟨ad2, ho2, hb9, cc2, hc2, hk2⟩ := SliceR.getI hx4 hp51779
       subst hc2
       refine c_S 9 [.slice o_x0_lots x0_lots.length c_x0_lots, v0_x0_holds, v1_x0_holds, v2_x0_holds, v3_x0_holds, v4_x0_holds, v5_x0_holds, v6_x0_holds, v7_x0_holds, v8_x0_holds, .slice e6 p3.length q6, .slice o_x0_lots x0_lots.length c_x0_lots, v0_x0_holds, v1_x0_holds, v2_x0_holds, v3_x0_holds, v4_x0_holds, v5_x0_holds, v6_x0_holds, v7_x0_holds, v8_x0_holds, .slice e6 p3.length q6, .pointer (some ad2), vI p4.lot, .slice e6 p3.length q6] [1, 4, 5, 7, 39, 40, 41, 42, 43, 44, 45, 46, 47, 50] s1 hf21 (fun _ s => (.cell (s.box (i := 2) rfl (j := 0) rfl) (.cell (s.box (i := 2) rfl (j := 1) rfl) (.cell (s.box (i := 2) rfl (j := 2) rfl) (.cell (s.box (i := 2) rfl (j := 3) rfl) (.cell (s.box (i := 2) rfl (j := 4) rfl) (.cell (s.box (i := 2) rfl (j := 5) rfl) (.cell (s.box (i := 2) rfl (j := 6) rfl) (.cell (s.box (i := 2) rfl (j := 7) rfl) (.cell (s.box (i := 2) rfl (j := 8) rfl) (.cell (s.box (i := 2) rfl (j := 9) rfl) (.cell (s.box (i := 0) rfl (j := 0) rfl) (.cell (s.box (i := 2) rfl (j := 0) rfl) (.cell (s.box (i := 2) rfl (j := 1) rfl) (.cell (s.box (i := 2) rfl (j := 2) rfl) (.cell (s.box (i := 2) rfl (j := 3) rfl) (.cell (s.box (i := 2) rfl (j := 4) rfl) (.cell (s.box (i := 2) rfl (j := 5) rfl) (.cell (s.box (i := 2) rfl (j := 6) rfl) (.cell (s.box (i := 2) rfl (j := 7) rfl) (.cell (s.box (i := 2) rfl (j := 8) rfl) (.cell (s.box (i := 2) rfl (j := 9) rfl) (.cell (s.box (i := 0) rfl (j := 0) rfl) (.prop ho2 (.prop hb9 (.cell (s.cell (hk2 0 _ rfl)) (.cell (s.box (i := 0) rfl (j := 0) rfl) .nil))))))))))))))))))))))))))) .nil fun a19 hf22 => ?_
       obtain ⟨r1, hd2, hr14⟩ := bind_some hr13
       refine c_call hf22 (f120_ok fuel x0_lots x0_holds p4.lot r1 hd2 z4 _ _ hS8 o_x0_lots c_x0_lots (SliceR.mono (Zone.le_trans (Zone.le_trans k3 k4) k5) hx_x0_lots) v0_x0_holds v1_x0_holds v2_x0_holds v3_x0_holds v4_x0_holds v5_x0_holds v6_x0_holds v7_x0_holds v8_x0_holds (Ty.mono _ (Zone.le_trans (Zone.le_trans k3 k4) k5) hx_x0_holds)) ?_
       rintro v2 ww7 a20 ⟨z6, k6, rfl, hS9⟩ hf23
       refine ⟨fun _ => Sub.of k6 hS9, ?_⟩
       have s2 : Sub z4 (box b2 [.slice e6 p3.length q6] 40 :: ownS Ty.int 3 e1 q1 y5 :: box b1 [.slice o_x0_lots x0_lots.length c_x0_lots, v0_x0_holds, v1_x0_holds, v2_x0_holds, v3_x0_holds, v4_x0_holds, v5_x0_holds, v6_x0_holds, v7_x0_holds, v8_x0_holds] 26 :: L) _ := Sub.of k6 hS9
       obtain ⟨r2, hd3, hr15⟩ := bind_some hr14
       refine c_call hf23 (f116_ok fuel x0_lots x0_holds p3 r1 r2 hd3 z6 _ _ hS9 o_x0_lots c_x0_lots (SliceR.mono (Zone.le_trans (Zone.le_trans (Zone.le_trans k3 k4) k5) k6) hx_x0_lots) v0_x0_holds v1_x0_holds v2_x0_holds v3_x0_holds v4_x0_holds v5_x0_holds v6_x0_holds v7_x0_holds v8_x0_holds (Ty.mono _ (Zone.le_trans (Zone.le_trans (Zone.le_trans k3 k4) k5) k6) hx_x0_holds) e6 q6 (SliceR.mono k6 hx4)) ?_
       rintro v3 ww8 a21 ⟨z7, k7, rfl, hS10⟩ hf24
       refine ⟨fun _ => Sub.of (Zone.le_trans k6 k7) hS10, ?_⟩
       have s3 : Sub z4 (box b2 [.slice e6 p3.length q6] 40 :: ownS Ty.int 3 e1 q1 y5 :: box b1 [.slice o_x0_lots x0_lots.length c_x0_lots, v0_x0_holds, v1_x0_holds, v2_x0_holds, v3_x0_holds, v4_x0_holds, v5_x0_holds, v6_x0_holds, v7_x0_holds, v8_x0_holds] 26 :: L) _ := Sub.of (Zone.le_trans k6 k7) hS10
       obtain ⟨r3, hd4, hr16⟩ := bind_some hr15
       refine c_call hf24 (f92_ok fuel p3 r3 hd4 z7 _ _ hS10 e6 q6 (SliceR.mono (Zone.le_trans k6 k7) hx4)) ?_
       rintro v4 ww9 a22 ⟨z8, k8, rfl, hS11⟩ hf25
       refine ⟨fun e => absurd e (by decide), ?_⟩
       refine p_qP 3 [] [(1, pB b1 0), (4, .slice e1 y5.length q1), (5, vI y1), (6, .bool (r2 == r3)), (7, vI y3), (40, .agg #[.slice o_x0_lots x0_lots.length c_x0_lots, v0_x0_holds, v1_x0_holds, v2_x0_holds, v3_x0_holds, v4_x0_holds, v5_x0_holds, v6_x0_holds, v7_x0_holds, v8_x0_holds]), (41, .agg #[.slice e6 p3.length q6]), (42, .agg #[.slice o_x0_lots x0_lots.length c_x0_lots, v0_x0_holds, v1_x0_holds, v2_x0_holds, v3_x0_holds, v4_x0_holds, v5_x0_holds, v6_x0_holds, v7_x0_holds, v8_x0_holds]), (43, pB b2 0), (44, .slice e6 p3.length q6), (45, .pointer (some (ad2.add (Int.toNat 0 * 2)))), (46, .pointer (some (ad2.add (Int.toNat 0 * 2)))), (47, vI p4.lot), (48, vI r1), (49, vI r2), (50, .agg #[.slice e6 p3.length q6]), (51, vI r3), (52, .bool (r2 == r3))] [] hf25 (by kernel_rfl) (fun _ => .nil) fun a23 hf26 => ?_
       refine c_done ?_
       refine n_block ?_
       refine n_then ?_
       exact ⟨z8, (r2 == r3), (Zone.le_trans (Zone.le_trans k6 k7) k8), hf26.to, (St.drop 1 hS11), hr16⟩
      ·have hr17 := cond_f hb8 hr11
       have hf28 := hf20.lit 39 hb8
       refine c_S 11 [] [1, 4, 5, 7, 39, 40, 41, 42, 43, 44, 45, 46, 47, 48, 49, 50] s1 hf28 (fun _ s => .nil) .nil fun a24 hf29 => ?_
       refine p_qL 1 [] [(1, pB b1 0), (4, .slice e1 y5.length q1), (5, vI y1), (7, vI y3), (39, .bool false), (40, undef), (41, undef), (42, undef), (43, undef), (44, undef), (45, undef), (46, undef), (47, undef), (48, undef), (49, undef), (50, undef), (51, undef)] [] hf29 (by kernel_rfl) .nil fun a25 hf30 => ?_
       refine c_S 3 [] [1, 4, 5, 6, 7, 40, 41, 42, 43, 44, 45, 46, 47, 48, 49, 50, 51, 52] s1 hf30 (fun _ s => .nil) .nil fun a26 hf31 => ?_
       refine c_done ?_
       refine n_block ?_
       refine n_then ?_
       exact ⟨z4, false, (Zone.le_refl _), hf31.to, (St.drop 1 hS8), hr17⟩
     ·rintro a27 ww10 ⟨z5, y4, k9, hf33, hS12, hr18⟩
      refine c_q [] [1, 4, 5, 6, 7] hf33 .nil fun a28 hf34 => ?_
      refine n_then ?_
      exact ⟨n1, Nat.lt_succ_self n1, z5, y4, (w64 (y3 + (1 : Int))), (Zone.le_trans k5 k9), hf34.to, hS12, hr18⟩
    ·have hr19 := cond_f hb5 hr8
     refine c_exit 2 ?_
     refine x_then ?_
     refine x_then ?_
     refine x_block ?_
     refine n_then ?_
     refine c_sq [] [1, 4, 5, 54] hf16 .nil fun a29 hf36 => ?_
     refine c_if y6 hf36 (fun hb10 => ?_) (fun hb10 => ?_)
     ·have hr20 := cond_t hb10 hr19
      refine c_reg ?_
      refine c_n 2 [] [1, 5, 55, 56] hf36 .nil fun a30 hf37 => ?_
      refine p_box (i := 2) (d := (some 57)) (cs := [vI y1]) (T := 3) (v := fun b3 => .slice (some ⟨b3, 0, none⟩) 1 1) hS5 hf37 (fun b => by kernel_rfl) fun b3 ww11 a31 hS13 hf38 => ⟨fun _ => trivial, ?_⟩
      have hS14 := hS13.ownBox (T := Ty.int) (E := 3) (n := 1) (xs := [y1]) (i := 0) rfl (Rows.cons (c := [vI y1]) rfl rfl) rfl (by decide)
      obtain ⟨d1, hd5, hr21⟩ := bind_some hr20
      refine p_append (T := Ty.int) (i := 3) (j := 1) (d := some 58) (o2 := (some ⟨b3, 0, none⟩)) (c2 := 1) (ys := ([y1])) el53 hS14 hf38 rfl (by kernel_rfl) (hS14.ownSrc (j := 0) rfl) hd5 fun e7 q7 ww12 a32 hS15 hf39 => ⟨fun _ => trivial, ?_⟩
      refine c_z [] [1, 4, 5] hf39 .nil fun a33 hf40 => ?_
      refine n_block ?_
      refine n_then ?_
      exact ⟨z4, d1, e7, q7, k5, hf40.to, (St.drop 1 hS15), hr21⟩
     ·have hr22 := cond_f hb10 hr19
      refine c_skip ?_
      refine n_block ?_
      refine n_then ?_
      exact ⟨z4, y5, e1, q1, k5, hf36.to, hS5, hr22⟩
   ·rintro a34 ww13 ⟨z3, y2, e2, q2, k10, hf43, hS16, hr23⟩
    refine c_q [] [1, 4, 5] hf43 .nil fun a35 hf44 => ?_
    refine n_then ?_
    exact ⟨n2, Nat.lt_succ_self n2, z3, y2, (w64 (y1 + (1 : Int))), e2, q2, (Zone.le_trans k4 k10), hf44.to, hS16, hr23⟩
  ·have hr24 := cond_f hb2 hr4
   refine c_exit 0 ?_
   refine x_then ?_
   refine x_then ?_
   refine x_block ?_
   refine n_then ?_
   refine c_sq [] [2, 3] hf11 .nil fun a36 hf46 => ?_
   refine c_ret ?_
   obtain ⟨z9, k11, hS17, hx5⟩ := hS4.share (j := 0) rfl
   refine c_rt [] (.tuple #[.slice e1 y5.length q1, vI 0]) hf46 .nil ?_
   obtain rfl := some_eq hr24
   exact ⟨_, rfl, z9, e1, q1, (Zone.le_trans (Zone.le_trans k3 k4) k11), rfl, (St.drop 2 hS17), hx5⟩
def F67 (fuel : Nat) (x0_lots : List Lot) (x0_holds : List (List (List Part))) (x1 : Int) : Option (Int × Int) :=
  ((F22 fuel x0_lots x0_holds).bind fun r1 => (cond (r1 != (0 : Int)) (some (0, 62)) ((F118 fuel x1).bind fun r2 => (cond (!r2) (some (0, 1)) ((getI x0_holds x1).bind fun p1 => ((F77 fuel p1).bind fun r3 => (some (r3, 0))))))))
set_option maxRecDepth 100000 in
theorem f67_ok (fuel : Nat) (x0_lots : List Lot) (x0_holds : List (List (List Part))) (x1 : Int) (r : Int × Int) (hr : F67 fuel x0_lots x0_holds x1 = some r) (h : Zone) (L : List Atom) (w : World) (hS : St h L w) (o_x0_lots : Option Addr) (c_x0_lots : Nat) (hx_x0_lots : SliceR LotT h o_x0_lots c_x0_lots x0_lots) (v0_x0_holds v1_x0_holds v2_x0_holds v3_x0_holds v4_x0_holds v5_x0_holds v6_x0_holds v7_x0_holds v8_x0_holds : Value) (hx_x0_holds : (Ty.arr 9 (Ty.slice (Ty.slice PartT))).rep h [v0_x0_holds, v1_x0_holds, v2_x0_holds, v3_x0_holds, v4_x0_holds, v5_x0_holds, v6_x0_holds, v7_x0_holds, v8_x0_holds] x0_holds) :
    Calls Try.prog 67 #[.agg #[.slice o_x0_lots x0_lots.length c_x0_lots, v0_x0_holds, v1_x0_holds, v2_x0_holds, v3_x0_holds, v4_x0_holds, v5_x0_holds, v6_x0_holds, v7_x0_holds, v8_x0_holds], vI x1] w fun e w' => ∃ v, e = .returned v ∧ (∃ h', Zone.le h h' ∧ v = .tuple #[vI r.1, vI r.2] ∧ St h' L w') := by
 refine calls_intro (N := 17) Try.func67 (by kernel_rfl) fun a hf => ?_
 refine c_sr ?_
 refine c_box [.slice o_x0_lots x0_lots.length c_x0_lots, v0_x0_holds, v1_x0_holds, v2_x0_holds, v3_x0_holds, v4_x0_holds, v5_x0_holds, v6_x0_holds, v7_x0_holds, v8_x0_holds] 26 hS hf fun b1 ww1 a1 hS1 hf1 => ⟨fun _ => trivial, ?_⟩
 refine c_t [] [1, 2] hf1 .nil fun a2 hf2 => ?_
 refine c_seq ?_
 refine c_sr ?_
 refine c_n 1 [.slice o_x0_lots x0_lots.length c_x0_lots, v0_x0_holds, v1_x0_holds, v2_x0_holds, v3_x0_holds, v4_x0_holds, v5_x0_holds, v6_x0_holds, v7_x0_holds, v8_x0_holds] [1, 2, 6] hf2 (.cell (hS1.box (i := 0) rfl (j := 0) rfl) (.cell (hS1.box (i := 0) rfl (j := 1) rfl) (.cell (hS1.box (i := 0) rfl (j := 2) rfl) (.cell (hS1.box (i := 0) rfl (j := 3) rfl) (.cell (hS1.box (i := 0) rfl (j := 4) rfl) (.cell (hS1.box (i := 0) rfl (j := 5) rfl) (.cell (hS1.box (i := 0) rfl (j := 6) rfl) (.cell (hS1.box (i := 0) rfl (j := 7) rfl) (.cell (hS1.box (i := 0) rfl (j := 8) rfl) (.cell (hS1.box (i := 0) rfl (j := 9) rfl) .nil)))))))))) fun a3 hf3 => ?_
 obtain ⟨r1, hd1, hr1⟩ := bind_some hr
 refine c_call hf3 (f22_ok fuel x0_lots x0_holds r1 hd1 h _ _ hS1 o_x0_lots c_x0_lots hx_x0_lots v0_x0_holds v1_x0_holds v2_x0_holds v3_x0_holds v4_x0_holds v5_x0_holds v6_x0_holds v7_x0_holds v8_x0_holds (Ty.mono _ (Zone.le_refl _) hx_x0_holds)) ?_
 rintro v1 ww2 a4 ⟨z1, k1, rfl, hS2⟩ hf4
 refine ⟨fun _ => trivial, ?_⟩
 refine c_t [] [1, 2, 8] hf4 .nil fun a5 hf5 => ?_
 refine c_if (r1 != (0 : Int)) hf5 (fun hb1 => ?_) (fun hb1 => ?_)
 ·have hr2 := cond_t hb1 hr1
  refine c_sq [] [4, 5] hf5 .nil fun a6 hf6 => ?_
  refine c_ret ?_
  refine r_then ?_
  refine c_rt [] (.tuple #[vI 0, vI 62]) hf6 .nil ?_
  obtain rfl := some_eq hr2
  exact ⟨_, rfl, z1, k1, rfl, (St.drop 1 hS2)⟩
 ·have hr3 := cond_f hb1 hr1
  refine c_skip ?_
  refine n_then ?_
  refine c_seq ?_
  refine c_sr ?_
  refine c_n 1 [] [1, 2, 9] hf5 .nil fun a7 hf7 => ?_
  obtain ⟨r2, hd2, hr4⟩ := bind_some hr3
  refine c_call hf7 (f118_ok fuel x1 r2 hd2 z1 _ _ hS2 ) ?_
  rintro v2 ww3 a8 ⟨z2, k2, rfl, hS3⟩ hf8
  refine ⟨fun _ => trivial, ?_⟩
  refine c_t [] [1, 2, 11] hf8 .nil fun a9 hf9 => ?_
  refine c_if (!r2) hf9 (fun hb2 => ?_) (fun hb2 => ?_)
  ·have hr5 := cond_t hb2 hr4
   refine c_sq [] [4, 5] hf9 .nil fun a10 hf10 => ?_
   refine c_ret ?_
   refine r_then ?_
   refine c_rt [] (.tuple #[vI 0, vI 1]) hf10 .nil ?_
   obtain rfl := some_eq hr5
   exact ⟨_, rfl, z2, (Zone.le_trans k1 k2), rfl, (St.drop 1 hS3)⟩
  ·have hr6 := cond_f hb2 hr4
   refine c_skip ?_
   refine n_then ?_
   refine c_sr ?_
   obtain ⟨p1, hp105, hr7⟩ := bind_some hr6
   obtain ⟨hb3, _, hv1, e1, q1, hehv109, hx1⟩ := arrGet (Ty.mono _ (Zone.le_trans k1 k2) hx_x0_holds) rfl hp105
   obtain rfl := List.head_eq_of_cons_eq hehv109
   refine c_n 4 [.slice e1 p1.length q1] [15] hf9 (.prop hb3 (.cell ((arrAddr b1 1 x1.toNat) ▸ (hS3.box (i := 0) rfl (getElem?_app_right [.slice o_x0_lots x0_lots.length c_x0_lots] _ _ hv1 []))) .nil)) fun a11 hf11 => ?_
   obtain ⟨r3, hd3, hr8⟩ := bind_some hr7
   refine c_call hf11 (f77_ok fuel p1 r3 hd3 z2 _ _ hS3 e1 q1 hx1) ?_
   rintro v3 ww4 a12 ⟨z3, k3, rfl, hS4⟩ hf12
   refine ⟨fun _ => trivial, ?_⟩
   refine c_t [] [4, 5] hf12 .nil fun a13 hf13 => ?_
   refine c_ret ?_
   refine c_rt [] (.tuple #[vI r3, vI 0]) hf13 .nil ?_
   obtain rfl := some_eq hr8
   exact ⟨_, rfl, z3, (Zone.le_trans (Zone.le_trans k1 k2) k3), rfl, (St.drop 1 hS4)⟩
def F68_j1 (k1 : Bool → Int → Option (Bool)) (x0 : List Int) (x1 : List Int) (y1 : Bool) (y2 : Int) (y3 : Bool) : Option (Bool) :=
  (cond y3 ((getI x0 y2).bind fun p1 => ((getI x1 y2).bind fun p2 => (k1 (p1 == p2) (w64 (y2 + (1 : Int)))))) (some (y1)))
def F68_l1 (x0 : List Int) (x1 : List Int) : Nat → Bool → Int → Option (Bool)
  | 0, _, _ => none
  | n1 + 1, y1, y2 =>
    let k1 : Bool → Int → Option (Bool) := F68_l1 x0 x1 n1
    (cond (decide (y2 < (x0.length : Int))) (F68_j1 k1 x0 x1 y1 y2 y1) (F68_j1 k1 x0 x1 y1 y2 false))
def F68 (fuel : Nat) (x0 : List Int) (x1 : List Int) : Option (Bool) :=
  (F68_l1 x0 x1 fuel ((x0.length : Int) == (x1.length : Int)) 0)
set_option maxRecDepth 100000 in
theorem f68_ok (fuel : Nat) (x0 : List Int) (x1 : List Int) (r : Bool) (hr : F68 fuel x0 x1 = some r) (h : Zone) (L : List Atom) (w : World) (hS : St h L w) (o_x0 : Option Addr) (c_x0 : Nat) (hx_x0 : SliceR Ty.int h o_x0 c_x0 x0) (o_x1 : Option Addr) (c_x1 : Nat) (hx_x1 : SliceR Ty.int h o_x1 c_x1 x1) :
    Calls Try.prog 68 #[.slice o_x0 x0.length c_x0, .slice o_x1 x1.length c_x1] w fun e w' => ∃ v, e = .returned v ∧ (∃ h', Zone.le h h' ∧ v = .bool r ∧ St h' L w') := by
 refine calls_intro (N := 31) Try.func68 (by kernel_rfl) fun a hf => ?_
 refine c_sq [] [0, 1] hf .nil fun a1 hf1 => ?_
 refine c_sq [] [0, 1, 5] hf1 .nil fun a2 hf2 => ?_
 refine c_seq ?_
 refine c_sq [] [0, 1, 5, 6] hf2 .nil fun a3 hf3 => ?_
 refine c_block 0 ?_
 refine c_loop (fun n a w => ∃ z1 : Zone, ∃ y1 : Bool, ∃ y2 : Int, Zone.le h z1 ∧ Fr a 31 [(0, .slice o_x0 x0.length c_x0), (1, .slice o_x1 x1.length c_x1), (5, .bool y1), (6, vI y2)] ∧ St z1 (L) w ∧ (F68_l1 x0 x1 n y1 y2) = some r) fuel ⟨h, ((x0.length : Int) == (x1.length : Int)), 0, (Zone.le_refl _), hf3.to, hS, hr⟩ ?_
 rintro n2 a4 ww1 ⟨z1, y1, y2, k2, hf5, hS1, hr1⟩
 cases n2 with
 | zero => cases hr1
 | succ n1 =>
 refine c_seq ?_
 refine c_mid (fun a w => ∃ z2 : Zone, ∃ y3 : Bool, Zone.le z1 z2 ∧ Fr a 31 [(0, .slice o_x0 x0.length c_x0), (1, .slice o_x1 x1.length c_x1), (5, .bool y1), (6, vI y2), (18, .bool y3)] ∧ St z2 (L) w ∧ (F68_j1 (F68_l1 x0 x1 n1) x0 x1 y1 y2 y3) = some r) ?_ ?_
 ·skip
  refine c_reg ?_
  refine c_n 5 [] [0, 1, 5, 6, 16] hf5 .nil fun a5 hf6 => ?_
  rcases Bool.eq_false_or_eq_true (decide (y2 < (x0.length : Int))) with hb1 | hb1
  ·have hr2 := cond_t hb1 hr1
   have hf7 := hf6.lit 16 hb1
   refine c_t [] [0, 1, 5, 6, 17, 18] hf7 .nil fun a6 hf8 => ?_
   exact ⟨z1, y1, (Zone.le_refl _), hf8.to, hS1, hr2⟩
  ·have hr3 := cond_f hb1 hr1
   have hf10 := hf6.lit 16 hb1
   refine c_t [] [0, 1, 5, 6, 17, 18] hf10 .nil fun a7 hf11 => ?_
   exact ⟨z1, false, (Zone.le_refl _), hf11.to, hS1, hr3⟩
 ·rintro a8 ww2 ⟨z2, y3, k3, hf13, hS2, hr4⟩
  refine c_if y3 hf13 (fun hb2 => ?_) (fun hb2 => ?_)
  ·have hr5 := cond_t hb2 hr4
   refine c_skip ?_
   refine n_then ?_
   refine c_seq ?_
   refine c_block 1 ?_
   have hS3 := hS2.drew
   obtain ⟨p1, hp841, hr6⟩ := bind_some hr5
   obtain ⟨ad1, ho1, hb3, cc1, hc1, hk1⟩ := SliceR.getI (SliceR.mono (Zone.le_trans k2 k3) hx_x0) hp841
   subst hc1
   obtain ⟨p2, hp850, hr7⟩ := bind_some hr6
   obtain ⟨ad2, ho2, hb4, cc2, hc2, hk2⟩ := SliceR.getI (SliceR.mono (Zone.le_trans k2 k3) hx_x1) hp850
   subst hc2
   refine c_qD [(0, true), (1, true), (2, true), (3, true), (4, true), (5, true), (6, true), (7, true), (8, true), (9, true)] [] [.pointer (some ad1), vI p1, .pointer (some ad2), vI p2] [0, 1, 5, 6] hf13 (.prop ho1 (.prop hb3 (.cell (hS3.cell (hk1 0 _ rfl)) (.prop ho2 (.prop hb4 (.cell (hS3.cell (hk2 0 _ rfl)) .nil)))))) .nil fun a9 hf14 => ?_
   refine n_block ?_
   refine n_then ?_
   refine c_q [] [0, 1, 5, 6] hf14 .nil fun a10 hf15 => ?_
   refine n_then ?_
   exact ⟨n1, Nat.lt_succ_self n1, z2, (p1 == p2), (w64 (y2 + (1 : Int))), (Zone.le_trans k2 k3), hf15.to, hS3, hr7⟩
  ·have hr8 := cond_f hb2 hr4
   refine c_exit 0 ?_
   refine x_then ?_
   refine x_then ?_
   refine x_block ?_
   refine n_then ?_
   refine c_sq [] [4] hf13 .nil fun a11 hf17 => ?_
   refine c_ret ?_
   refine c_rt [] (.bool y1) hf17 .nil ?_
   obtain rfl := some_eq hr8
   exact ⟨_, rfl, z2, (Zone.le_trans k2 k3), rfl, hS2⟩
def F15_j1 (y1 : Bool) : Option (Bool) :=
  (some (y1))
def F15 (fuel : Nat) (x0_lots : List Lot) (x0_holds : List (List (List Part))) (y2 : Int) (y3 : Int) (y4 : Int) : Option (Bool) :=
  ((F16 fuel ).bind fun r1 => ((F55 fuel x0_lots x0_holds y2).bind fun r2 => ((F57 fuel x0_lots x0_holds y2).bind fun r3 => ((F54 fuel x0_lots x0_holds y2).bind fun r4 => ((F58 fuel x0_lots x0_holds y2).bind fun r5 => ((F59 fuel x0_lots x0_holds y3 y4).bind fun r6 => ((F60 fuel x0_lots x0_holds y3 y4).bind fun r7 => ((F61 fuel x0_lots x0_holds y3).bind fun r8 => ((F62 fuel x0_lots x0_holds y3).bind fun r9 => ((F63 fuel x0_lots x0_holds y3).bind fun r10 => ((F64 fuel x0_lots x0_holds y3).bind fun r11 => ((F65 fuel x0_lots x0_holds).bind fun r12 => ((F66 fuel x0_lots x0_holds).bind fun r13 => ((F42 fuel x0_lots x0_holds y3).bind fun r14 => ((F67 fuel x0_lots x0_holds y3).bind fun r15 => ((F68 fuel r2.1 r3.1).bind fun r16 => ((F68 fuel r4.1 r5.1).bind fun r17 => ((F68 fuel r10.1 r11.1).bind fun r18 => ((F68 fuel r12.1 r13.1).bind fun r19 => (cond r1 (cond r16 (cond r17 (cond r18 (cond r19 (cond (r2.2 == r3.2) (cond (r4.2 == r5.2) (cond ((r6.1 == r7.1) && ((r6.2.1 == r7.2.1) && true)) (cond (r6.2.2 == r7.2.2) (cond ((r8.1 == r9.1) && ((r8.2.1 == r9.2.1) && true)) (cond (r8.2.2 == r9.2.2) (cond (r10.2 == r11.2) (cond (r12.2 == r13.2) (cond (r14.1 == r15.1) (F15_j1 (r14.2 == r15.2)) (F15_j1 false)) (F15_j1 false)) (F15_j1 false)) (F15_j1 false)) (F15_j1 false)) (F15_j1 false)) (F15_j1 false)) (F15_j1 false)) (F15_j1 false)) (F15_j1 false)) (F15_j1 false)) (F15_j1 false)) (F15_j1 false)) (F15_j1 false)))))))))))))))))))))
set_option maxRecDepth 100000 in
theorem f15_ok (fuel : Nat) (x0_lots : List Lot) (x0_holds : List (List (List Part))) (y2 : Int) (y3 : Int) (y4 : Int) (r : Bool) (hr : F15 fuel x0_lots x0_holds y2 y3 y4 = some r) (h : Zone) (L : List Atom) (w : World) (hS : St h L w) (o_x0_lots : Option Addr) (c_x0_lots : Nat) (hx_x0_lots : SliceR LotT h o_x0_lots c_x0_lots x0_lots) (v0_x0_holds v1_x0_holds v2_x0_holds v3_x0_holds v4_x0_holds v5_x0_holds v6_x0_holds v7_x0_holds v8_x0_holds : Value) (hx_x0_holds : (Ty.arr 9 (Ty.slice (Ty.slice PartT))).rep h [v0_x0_holds, v1_x0_holds, v2_x0_holds, v3_x0_holds, v4_x0_holds, v5_x0_holds, v6_x0_holds, v7_x0_holds, v8_x0_holds] x0_holds) :
    Calls Try.prog 15 #[.agg #[.slice o_x0_lots x0_lots.length c_x0_lots, v0_x0_holds, v1_x0_holds, v2_x0_holds, v3_x0_holds, v4_x0_holds, v5_x0_holds, v6_x0_holds, v7_x0_holds, v8_x0_holds], .agg #[vI y2, vI y3, vI y4]] w fun e w' => ∃ v, e = .returned v ∧ (∃ h', Zone.le h h' ∧ v = .bool r ∧ St h' L w') := by
 refine calls_intro (N := 212) Try.func15 (by kernel_rfl) fun a hf => ?_
 refine c_sr ?_
 refine c_box [.slice o_x0_lots x0_lots.length c_x0_lots, v0_x0_holds, v1_x0_holds, v2_x0_holds, v3_x0_holds, v4_x0_holds, v5_x0_holds, v6_x0_holds, v7_x0_holds, v8_x0_holds] 26 hS hf fun b1 ww1 a1 hS1 hf1 => ⟨fun _ => trivial, ?_⟩
 refine c_box [vI y2, vI y3, vI y4] 61 hS1 hf1 fun b2 ww2 a2 hS2 hf2 => ⟨fun _ => trivial, ?_⟩
 refine c_t [] [2, 3] hf2 .nil fun a3 hf3 => ?_
 refine c_sr ?_
 obtain ⟨r1, hd1, hr1⟩ := bind_some hr
 refine c_call hf3 (f16_ok fuel  r1 hd1 h _ _ hS2 ) ?_
 rintro v1 ww3 a4 ⟨z1, k1, rfl, hS3⟩ hf4
 refine ⟨fun _ => trivial, ?_⟩
 refine c_t [] [2, 3, 5] hf4 .nil fun a5 hf5 => ?_
 refine c_sr ?_
 refine c_n (oC := [.cell ⟨b1, 0, none⟩ (.slice o_x0_lots x0_lots.length c_x0_lots), .cell ⟨b1, 1, none⟩ (v0_x0_holds), .cell ⟨b1, 2, none⟩ (v1_x0_holds), .cell ⟨b1, 3, none⟩ (v2_x0_holds), .cell ⟨b1, 4, none⟩ (v3_x0_holds), .cell ⟨b1, 5, none⟩ (v4_x0_holds), .cell ⟨b1, 6, none⟩ (v5_x0_holds), .cell ⟨b1, 7, none⟩ (v6_x0_holds), .cell ⟨b1, 8, none⟩ (v7_x0_holds), .cell ⟨b1, 9, none⟩ (v8_x0_holds), .prop ((0 : Int) ≤ 0 ∧ (0 : Int) < (3 : Nat)), .cell ⟨b2, 0, none⟩ (vI y2)]) 3 [.slice o_x0_lots x0_lots.length c_x0_lots, v0_x0_holds, v1_x0_holds, v2_x0_holds, v3_x0_holds, v4_x0_holds, v5_x0_holds, v6_x0_holds, v7_x0_holds, v8_x0_holds, vI y2] [2, 3, 5, 40, 42] hf5 (.cell (hS3.box (i := 1) rfl (j := 0) rfl) (.cell (hS3.box (i := 1) rfl (j := 1) rfl) (.cell (hS3.box (i := 1) rfl (j := 2) rfl) (.cell (hS3.box (i := 1) rfl (j := 3) rfl) (.cell (hS3.box (i := 1) rfl (j := 4) rfl) (.cell (hS3.box (i := 1) rfl (j := 5) rfl) (.cell (hS3.box (i := 1) rfl (j := 6) rfl) (.cell (hS3.box (i := 1) rfl (j := 7) rfl) (.cell (hS3.box (i := 1) rfl (j := 8) rfl) (.cell (hS3.box (i := 1) rfl (j := 9) rfl) (.prop (by decide) (.cell (hS3.box (i := 0) rfl (j := 0) rfl) .nil)))))))))))) fun a6 hf6 => ?_
 obtain ⟨r2, hd2, hr2⟩ := bind_some hr1
 refine c_call hf6 (f55_ok fuel x0_lots x0_holds y2 r2 hd2 z1 _ _ hS3 o_x0_lots c_x0_lots (SliceR.mono k1 hx_x0_lots) v0_x0_holds v1_x0_holds v2_x0_holds v3_x0_holds v4_x0_holds v5_x0_holds v6_x0_holds v7_x0_holds v8_x0_holds (Ty.mono _ k1 hx_x0_holds)) ?_
 rintro v2 ww4 a7 ⟨z2, e1, q1, k2, rfl, hS4, hx1⟩ hf7
 refine ⟨fun _ => trivial, ?_⟩
 refine c_t [] [2, 3, 5, 6, 7] hf7 .nil fun a8 hf8 => ?_
 refine c_sr ?_
 refine c_n (oC := [.cell ⟨b1, 0, none⟩ (.slice o_x0_lots x0_lots.length c_x0_lots), .cell ⟨b1, 1, none⟩ (v0_x0_holds), .cell ⟨b1, 2, none⟩ (v1_x0_holds), .cell ⟨b1, 3, none⟩ (v2_x0_holds), .cell ⟨b1, 4, none⟩ (v3_x0_holds), .cell ⟨b1, 5, none⟩ (v4_x0_holds), .cell ⟨b1, 6, none⟩ (v5_x0_holds), .cell ⟨b1, 7, none⟩ (v6_x0_holds), .cell ⟨b1, 8, none⟩ (v7_x0_holds), .cell ⟨b1, 9, none⟩ (v8_x0_holds), .prop ((0 : Int) ≤ 0 ∧ (0 : Int) < (3 : Nat)), .cell ⟨b2, 0, none⟩ (vI y2)]) 3 [.slice o_x0_lots x0_lots.length c_x0_lots, v0_x0_holds, v1_x0_holds, v2_x0_holds, v3_x0_holds, v4_x0_holds, v5_x0_holds, v6_x0_holds, v7_x0_holds, v8_x0_holds, vI y2] [2, 3, 5, 6, 7, 47, 49] hf8 (.cell (hS4.box (i := 1) rfl (j := 0) rfl) (.cell (hS4.box (i := 1) rfl (j := 1) rfl) (.cell (hS4.box (i := 1) rfl (j := 2) rfl) (.cell (hS4.box (i := 1) rfl (j := 3) rfl) (.cell (hS4.box (i := 1) rfl (j := 4) rfl) (.cell (hS4.box (i := 1) rfl (j := 5) rfl) (.cell (hS4.box (i := 1) rfl (j := 6) rfl) (.cell (hS4.box (i := 1) rfl (j := 7) rfl) (.cell (hS4.box (i := 1) rfl (j := 8) rfl) (.cell (hS4.box (i := 1) rfl (j := 9) rfl) (.prop (by decide) (.cell (hS4.box (i := 0) rfl (j := 0) rfl) .nil)))))))))))) fun a9 hf9 => ?_
 obtain ⟨r3, hd3, hr3⟩ := bind_some hr2
 refine c_call hf9 (f57_ok fuel x0_lots x0_holds y2 r3 hd3 z2 _ _ hS4 o_x0_lots c_x0_lots (SliceR.mono (Zone.le_trans k1 k2) hx_x0_lots) v0_x0_holds v1_x0_holds v2_x0_holds v3_x0_holds v4_x0_holds v5_x0_holds v6_x0_holds v7_x0_holds v8_x0_holds (Ty.mono _ (Zone.le_trans k1 k2) hx_x0_holds)) ?_
 rintro v3 ww5 a10 ⟨z3, e2, q2, k3, rfl, hS5, hx2⟩ hf10
 refine ⟨fun _ => trivial, ?_⟩
 refine c_t [] [2, 3, 5, 6, 7, 8, 9] hf10 .nil fun a11 hf11 => ?_
 refine c_sr ?_
 refine c_n (oC := [.cell ⟨b1, 0, none⟩ (.slice o_x0_lots x0_lots.length c_x0_lots), .cell ⟨b1, 1, none⟩ (v0_x0_holds), .cell ⟨b1, 2, none⟩ (v1_x0_holds), .cell ⟨b1, 3, none⟩ (v2_x0_holds), .cell ⟨b1, 4, none⟩ (v3_x0_holds), .cell ⟨b1, 5, none⟩ (v4_x0_holds), .cell ⟨b1, 6, none⟩ (v5_x0_holds), .cell ⟨b1, 7, none⟩ (v6_x0_holds), .cell ⟨b1, 8, none⟩ (v7_x0_holds), .cell ⟨b1, 9, none⟩ (v8_x0_holds), .prop ((0 : Int) ≤ 0 ∧ (0 : Int) < (3 : Nat)), .cell ⟨b2, 0, none⟩ (vI y2)]) 3 [.slice o_x0_lots x0_lots.length c_x0_lots, v0_x0_holds, v1_x0_holds, v2_x0_holds, v3_x0_holds, v4_x0_holds, v5_x0_holds, v6_x0_holds, v7_x0_holds, v8_x0_holds, vI y2] [2, 3, 5, 6, 7, 8, 9, 54, 56] hf11 (.cell (hS5.box (i := 1) rfl (j := 0) rfl) (.cell (hS5.box (i := 1) rfl (j := 1) rfl) (.cell (hS5.box (i := 1) rfl (j := 2) rfl) (.cell (hS5.box (i := 1) rfl (j := 3) rfl) (.cell (hS5.box (i := 1) rfl (j := 4) rfl) (.cell (hS5.box (i := 1) rfl (j := 5) rfl) (.cell (hS5.box (i := 1) rfl (j := 6) rfl) (.cell (hS5.box (i := 1) rfl (j := 7) rfl) (.cell (hS5.box (i := 1) rfl (j := 8) rfl) (.cell (hS5.box (i := 1) rfl (j := 9) rfl) (.prop (by decide) (.cell (hS5.box (i := 0) rfl (j := 0) rfl) .nil)))))))))))) fun a12 hf12 => ?_
 obtain ⟨r4, hd4, hr4⟩ := bind_some hr3
 refine c_call hf12 (f54_ok fuel x0_lots x0_holds y2 r4 hd4 z3 _ _ hS5 o_x0_lots c_x0_lots (SliceR.mono (Zone.le_trans (Zone.le_trans k1 k2) k3) hx_x0_lots) v0_x0_holds v1_x0_holds v2_x0_holds v3_x0_holds v4_x0_holds v5_x0_holds v6_x0_holds v7_x0_holds v8_x0_holds (Ty.mono _ (Zone.le_trans (Zone.le_trans k1 k2) k3) hx_x0_holds)) ?_
 rintro v4 ww6 a13 ⟨z4, e3, q3, k4, rfl, hS6, hx3⟩ hf13
 refine ⟨fun _ => trivial, ?_⟩
 refine c_t [] [2, 3, 5, 6, 7, 8, 9, 10, 11] hf13 .nil fun a14 hf14 => ?_
 refine c_sr ?_
 refine c_n (oC := [.cell ⟨b1, 0, none⟩ (.slice o_x0_lots x0_lots.length c_x0_lots), .cell ⟨b1, 1, none⟩ (v0_x0_holds), .cell ⟨b1, 2, none⟩ (v1_x0_holds), .cell ⟨b1, 3, none⟩ (v2_x0_holds), .cell ⟨b1, 4, none⟩ (v3_x0_holds), .cell ⟨b1, 5, none⟩ (v4_x0_holds), .cell ⟨b1, 6, none⟩ (v5_x0_holds), .cell ⟨b1, 7, none⟩ (v6_x0_holds), .cell ⟨b1, 8, none⟩ (v7_x0_holds), .cell ⟨b1, 9, none⟩ (v8_x0_holds), .prop ((0 : Int) ≤ 0 ∧ (0 : Int) < (3 : Nat)), .cell ⟨b2, 0, none⟩ (vI y2)]) 3 [.slice o_x0_lots x0_lots.length c_x0_lots, v0_x0_holds, v1_x0_holds, v2_x0_holds, v3_x0_holds, v4_x0_holds, v5_x0_holds, v6_x0_holds, v7_x0_holds, v8_x0_holds, vI y2] [2, 3, 5, 6, 7, 8, 9, 10, 11, 61, 63] hf14 (.cell (hS6.box (i := 1) rfl (j := 0) rfl) (.cell (hS6.box (i := 1) rfl (j := 1) rfl) (.cell (hS6.box (i := 1) rfl (j := 2) rfl) (.cell (hS6.box (i := 1) rfl (j := 3) rfl) (.cell (hS6.box (i := 1) rfl (j := 4) rfl) (.cell (hS6.box (i := 1) rfl (j := 5) rfl) (.cell (hS6.box (i := 1) rfl (j := 6) rfl) (.cell (hS6.box (i := 1) rfl (j := 7) rfl) (.cell (hS6.box (i := 1) rfl (j := 8) rfl) (.cell (hS6.box (i := 1) rfl (j := 9) rfl) (.prop (by decide) (.cell (hS6.box (i := 0) rfl (j := 0) rfl) .nil)))))))))))) fun a15 hf15 => ?_
 obtain ⟨r5, hd5, hr5⟩ := bind_some hr4
 refine c_call hf15 (f58_ok fuel x0_lots x0_holds y2 r5 hd5 z4 _ _ hS6 o_x0_lots c_x0_lots (SliceR.mono (Zone.le_trans (Zone.le_trans (Zone.le_trans k1 k2) k3) k4) hx_x0_lots) v0_x0_holds v1_x0_holds v2_x0_holds v3_x0_holds v4_x0_holds v5_x0_holds v6_x0_holds v7_x0_holds v8_x0_holds (Ty.mono _ (Zone.le_trans (Zone.le_trans (Zone.le_trans k1 k2) k3) k4) hx_x0_holds)) ?_
 rintro v5 ww7 a16 ⟨z5, e4, q4, k5, rfl, hS7, hx4⟩ hf16
 refine ⟨fun _ => trivial, ?_⟩
 refine c_t [] [2, 3, 5, 6, 7, 8, 9, 10, 11, 12, 13] hf16 .nil fun a17 hf17 => ?_
 refine c_sr ?_
 refine c_n (oC := [.cell ⟨b1, 0, none⟩ (.slice o_x0_lots x0_lots.length c_x0_lots), .cell ⟨b1, 1, none⟩ (v0_x0_holds), .cell ⟨b1, 2, none⟩ (v1_x0_holds), .cell ⟨b1, 3, none⟩ (v2_x0_holds), .cell ⟨b1, 4, none⟩ (v3_x0_holds), .cell ⟨b1, 5, none⟩ (v4_x0_holds), .cell ⟨b1, 6, none⟩ (v5_x0_holds), .cell ⟨b1, 7, none⟩ (v6_x0_holds), .cell ⟨b1, 8, none⟩ (v7_x0_holds), .cell ⟨b1, 9, none⟩ (v8_x0_holds), .prop ((0 : Int) ≤ 1 ∧ (1 : Int) < (3 : Nat)), .cell ⟨b2, 1, none⟩ (vI y3), .prop ((0 : Int) ≤ 2 ∧ (2 : Int) < (3 : Nat)), .cell ⟨b2, 2, none⟩ (vI y4)]) 5 [.slice o_x0_lots x0_lots.length c_x0_lots, v0_x0_holds, v1_x0_holds, v2_x0_holds, v3_x0_holds, v4_x0_holds, v5_x0_holds, v6_x0_holds, v7_x0_holds, v8_x0_holds, vI y3, vI y4] [2, 3, 5, 6, 7, 8, 9, 10, 11, 12, 13, 68, 70, 72] hf17 (.cell (hS7.box (i := 1) rfl (j := 0) rfl) (.cell (hS7.box (i := 1) rfl (j := 1) rfl) (.cell (hS7.box (i := 1) rfl (j := 2) rfl) (.cell (hS7.box (i := 1) rfl (j := 3) rfl) (.cell (hS7.box (i := 1) rfl (j := 4) rfl) (.cell (hS7.box (i := 1) rfl (j := 5) rfl) (.cell (hS7.box (i := 1) rfl (j := 6) rfl) (.cell (hS7.box (i := 1) rfl (j := 7) rfl) (.cell (hS7.box (i := 1) rfl (j := 8) rfl) (.cell (hS7.box (i := 1) rfl (j := 9) rfl) (.prop (by decide) (.cell (hS7.box (i := 0) rfl (j := 1) rfl) (.prop (by decide) (.cell (hS7.box (i := 0) rfl (j := 2) rfl) .nil)))))))))))))) fun a18 hf18 => ?_
 obtain ⟨r6, hd6, hr6⟩ := bind_some hr5
 refine c_call hf18 (f59_ok fuel x0_lots x0_holds y3 y4 r6 hd6 z5 _ _ hS7 o_x0_lots c_x0_lots (SliceR.mono (Zone.le_trans (Zone.le_trans (Zone.le_trans (Zone.le_trans k1 k2) k3) k4) k5) hx_x0_lots) v0_x0_holds v1_x0_holds v2_x0_holds v3_x0_holds v4_x0_holds v5_x0_holds v6_x0_holds v7_x0_holds v8_x0_holds (Ty.mono _ (Zone.le_trans (Zone.le_trans (Zone.le_trans (Zone.le_trans k1 k2) k3) k4) k5) hx_x0_holds)) ?_
 rintro v6 ww8 a19 ⟨z6, k6, rfl, hS8⟩ hf19
 refine ⟨fun _ => trivial, ?_⟩
 refine c_n 3 [] [2, 3, 5, 6, 7, 8, 9, 10, 11, 12, 13, 74, 75] hf19 .nil fun a20 hf20 => ?_
 refine c_box [vI 0, vI 0] 100 hS8 hf20 fun b3 ww9 a21 hS9 hf21 => ⟨fun _ => trivial, ?_⟩
 refine c_st 0 [vI r6.1, vI r6.2.1] hS9 hf21 rfl fun ww10 a22 hS10 hf22 => ⟨fun _ => trivial, ?_⟩
 refine c_t [] [2, 3, 5, 6, 7, 8, 9, 10, 11, 12, 13, 14, 15] hf22 .nil fun a23 hf23 => ?_
 refine c_sr ?_
 refine c_n (oC := [.cell ⟨b1, 0, none⟩ (.slice o_x0_lots x0_lots.length c_x0_lots), .cell ⟨b1, 1, none⟩ (v0_x0_holds), .cell ⟨b1, 2, none⟩ (v1_x0_holds), .cell ⟨b1, 3, none⟩ (v2_x0_holds), .cell ⟨b1, 4, none⟩ (v3_x0_holds), .cell ⟨b1, 5, none⟩ (v4_x0_holds), .cell ⟨b1, 6, none⟩ (v5_x0_holds), .cell ⟨b1, 7, none⟩ (v6_x0_holds), .cell ⟨b1, 8, none⟩ (v7_x0_holds), .cell ⟨b1, 9, none⟩ (v8_x0_holds), .prop ((0 : Int) ≤ 1 ∧ (1 : Int) < (3 : Nat)), .cell ⟨b2, 1, none⟩ (vI y3), .prop ((0 : Int) ≤ 2 ∧ (2 : Int) < (3 : Nat)), .cell ⟨b2, 2, none⟩ (vI y4)]) 5 [.slice o_x0_lots x0_lots.length c_x0_lots, v0_x0_holds, v1_x0_holds, v2_x0_holds, v3_x0_holds, v4_x0_holds, v5_x0_holds, v6_x0_holds, v7_x0_holds, v8_x0_holds, vI y3, vI y4] [2, 3, 5, 6, 7, 8, 9, 10, 11, 12, 13, 14, 15, 77, 79, 81] hf23 (.cell (hS10.box (i := 2) rfl (j := 0) rfl) (.cell (hS10.box (i := 2) rfl (j := 1) rfl) (.cell (hS10.box (i := 2) rfl (j := 2) rfl) (.cell (hS10.box (i := 2) rfl (j := 3) rfl) (.cell (hS10.box (i := 2) rfl (j := 4) rfl) (.cell (hS10.box (i := 2) rfl (j := 5) rfl) (.cell (hS10.box (i := 2) rfl (j := 6) rfl) (.cell (hS10.box (i := 2) rfl (j := 7) rfl) (.cell (hS10.box (i := 2) rfl (j := 8) rfl) (.cell (hS10.box (i := 2) rfl (j := 9) rfl) (.prop (by decide) (.cell (hS10.box (i := 1) rfl (j := 1) rfl) (.prop (by decide) (.cell (hS10.box (i := 1) rfl (j := 2) rfl) .nil)))))))))))))) fun a24 hf24 => ?_
 obtain ⟨r7, hd7, hr7⟩ := bind_some hr6
 refine c_call hf24 (f60_ok fuel x0_lots x0_holds y3 y4 r7 hd7 z6 _ _ hS10 o_x0_lots c_x0_lots (SliceR.mono (Zone.le_trans (Zone.le_trans (Zone.le_trans (Zone.le_trans (Zone.le_trans k1 k2) k3) k4) k5) k6) hx_x0_lots) v0_x0_holds v1_x0_holds v2_x0_holds v3_x0_holds v4_x0_holds v5_x0_holds v6_x0_holds v7_x0_holds v8_x0_holds (Ty.mono _ (Zone.le_trans (Zone.le_trans (Zone.le_trans (Zone.le_trans (Zone.le_trans k1 k2) k3) k4) k5) k6) hx_x0_holds)) ?_
 rintro v7 ww11 a25 ⟨z7, k7, rfl, hS11⟩ hf25
 refine ⟨fun _ => trivial, ?_⟩
 refine c_n 3 [] [2, 3, 5, 6, 7, 8, 9, 10, 11, 12, 13, 14, 15, 83, 84] hf25 .nil fun a26 hf26 => ?_
 refine c_box [vI 0, vI 0] 100 hS11 hf26 fun b4 ww12 a27 hS12 hf27 => ⟨fun _ => trivial, ?_⟩
 refine c_st 0 [vI r7.1, vI r7.2.1] hS12 hf27 rfl fun ww13 a28 hS13 hf28 => ⟨fun _ => trivial, ?_⟩
 refine c_t [] [2, 3, 5, 6, 7, 8, 9, 10, 11, 12, 13, 14, 15, 16, 17] hf28 .nil fun a29 hf29 => ?_
 refine c_sr ?_
 refine c_n (oC := [.cell ⟨b1, 0, none⟩ (.slice o_x0_lots x0_lots.length c_x0_lots), .cell ⟨b1, 1, none⟩ (v0_x0_holds), .cell ⟨b1, 2, none⟩ (v1_x0_holds), .cell ⟨b1, 3, none⟩ (v2_x0_holds), .cell ⟨b1, 4, none⟩ (v3_x0_holds), .cell ⟨b1, 5, none⟩ (v4_x0_holds), .cell ⟨b1, 6, none⟩ (v5_x0_holds), .cell ⟨b1, 7, none⟩ (v6_x0_holds), .cell ⟨b1, 8, none⟩ (v7_x0_holds), .cell ⟨b1, 9, none⟩ (v8_x0_holds), .prop ((0 : Int) ≤ 1 ∧ (1 : Int) < (3 : Nat)), .cell ⟨b2, 1, none⟩ (vI y3)]) 3 [.slice o_x0_lots x0_lots.length c_x0_lots, v0_x0_holds, v1_x0_holds, v2_x0_holds, v3_x0_holds, v4_x0_holds, v5_x0_holds, v6_x0_holds, v7_x0_holds, v8_x0_holds, vI y3] [2, 3, 5, 6, 7, 8, 9, 10, 11, 12, 13, 14, 15, 16, 17, 86, 88] hf29 (.cell (hS13.box (i := 3) rfl (j := 0) rfl) (.cell (hS13.box (i := 3) rfl (j := 1) rfl) (.cell (hS13.box (i := 3) rfl (j := 2) rfl) (.cell (hS13.box (i := 3) rfl (j := 3) rfl) (.cell (hS13.box (i := 3) rfl (j := 4) rfl) (.cell (hS13.box (i := 3) rfl (j := 5) rfl) (.cell (hS13.box (i := 3) rfl (j := 6) rfl) (.cell (hS13.box (i := 3) rfl (j := 7) rfl) (.cell (hS13.box (i := 3) rfl (j := 8) rfl) (.cell (hS13.box (i := 3) rfl (j := 9) rfl) (.prop (by decide) (.cell (hS13.box (i := 2) rfl (j := 1) rfl) .nil)))))))))))) fun a30 hf30 => ?_
 obtain ⟨r8, hd8, hr8⟩ := bind_some hr7
 refine c_call hf30 (f61_ok fuel x0_lots x0_holds y3 r8 hd8 z7 _ _ hS13 o_x0_lots c_x0_lots (SliceR.mono (Zone.le_trans (Zone.le_trans (Zone.le_trans (Zone.le_trans (Zone.le_trans (Zone.le_trans k1 k2) k3) k4) k5) k6) k7) hx_x0_lots) v0_x0_holds v1_x0_holds v2_x0_holds v3_x0_holds v4_x0_holds v5_x0_holds v6_x0_holds v7_x0_holds v8_x0_holds (Ty.mono _ (Zone.le_trans (Zone.le_trans (Zone.le_trans (Zone.le_trans (Zone.le_trans (Zone.le_trans k1 k2) k3) k4) k5) k6) k7) hx_x0_holds)) ?_
 rintro v8 ww14 a31 ⟨z8, k8, rfl, hS14⟩ hf31
 refine ⟨fun _ => trivial, ?_⟩
 refine c_n 3 [] [2, 3, 5, 6, 7, 8, 9, 10, 11, 12, 13, 14, 15, 16, 17, 90, 91] hf31 .nil fun a32 hf32 => ?_
 refine c_box [vI 0, vI 0] 100 hS14 hf32 fun b5 ww15 a33 hS15 hf33 => ⟨fun _ => trivial, ?_⟩
 refine c_st 0 [vI r8.1, vI r8.2.1] hS15 hf33 rfl fun ww16 a34 hS16 hf34 => ⟨fun _ => trivial, ?_⟩
 refine c_t [] [2, 3, 5, 6, 7, 8, 9, 10, 11, 12, 13, 14, 15, 16, 17, 18, 19] hf34 .nil fun a35 hf35 => ?_
 refine c_sr ?_
 refine c_n (oC := [.cell ⟨b1, 0, none⟩ (.slice o_x0_lots x0_lots.length c_x0_lots), .cell ⟨b1, 1, none⟩ (v0_x0_holds), .cell ⟨b1, 2, none⟩ (v1_x0_holds), .cell ⟨b1, 3, none⟩ (v2_x0_holds), .cell ⟨b1, 4, none⟩ (v3_x0_holds), .cell ⟨b1, 5, none⟩ (v4_x0_holds), .cell ⟨b1, 6, none⟩ (v5_x0_holds), .cell ⟨b1, 7, none⟩ (v6_x0_holds), .cell ⟨b1, 8, none⟩ (v7_x0_holds), .cell ⟨b1, 9, none⟩ (v8_x0_holds), .prop ((0 : Int) ≤ 1 ∧ (1 : Int) < (3 : Nat)), .cell ⟨b2, 1, none⟩ (vI y3)]) 3 [.slice o_x0_lots x0_lots.length c_x0_lots, v0_x0_holds, v1_x0_holds, v2_x0_holds, v3_x0_holds, v4_x0_holds, v5_x0_holds, v6_x0_holds, v7_x0_holds, v8_x0_holds, vI y3] [2, 3, 5, 6, 7, 8, 9, 10, 11, 12, 13, 14, 15, 16, 17, 18, 19, 93, 95] hf35 (.cell (hS16.box (i := 4) rfl (j := 0) rfl) (.cell (hS16.box (i := 4) rfl (j := 1) rfl) (.cell (hS16.box (i := 4) rfl (j := 2) rfl) (.cell (hS16.box (i := 4) rfl (j := 3) rfl) (.cell (hS16.box (i := 4) rfl (j := 4) rfl) (.cell (hS16.box (i := 4) rfl (j := 5) rfl) (.cell (hS16.box (i := 4) rfl (j := 6) rfl) (.cell (hS16.box (i := 4) rfl (j := 7) rfl) (.cell (hS16.box (i := 4) rfl (j := 8) rfl) (.cell (hS16.box (i := 4) rfl (j := 9) rfl) (.prop (by decide) (.cell (hS16.box (i := 3) rfl (j := 1) rfl) .nil)))))))))))) fun a36 hf36 => ?_
 obtain ⟨r9, hd9, hr9⟩ := bind_some hr8
 refine c_call hf36 (f62_ok fuel x0_lots x0_holds y3 r9 hd9 z8 _ _ hS16 o_x0_lots c_x0_lots (SliceR.mono (Zone.le_trans (Zone.le_trans (Zone.le_trans (Zone.le_trans (Zone.le_trans (Zone.le_trans (Zone.le_trans k1 k2) k3) k4) k5) k6) k7) k8) hx_x0_lots) v0_x0_holds v1_x0_holds v2_x0_holds v3_x0_holds v4_x0_holds v5_x0_holds v6_x0_holds v7_x0_holds v8_x0_holds (Ty.mono _ (Zone.le_trans (Zone.le_trans (Zone.le_trans (Zone.le_trans (Zone.le_trans (Zone.le_trans (Zone.le_trans k1 k2) k3) k4) k5) k6) k7) k8) hx_x0_holds)) ?_
 rintro v9 ww17 a37 ⟨z9, k9, rfl, hS17⟩ hf37
 refine ⟨fun _ => trivial, ?_⟩
 refine c_n 3 [] [2, 3, 5, 6, 7, 8, 9, 10, 11, 12, 13, 14, 15, 16, 17, 18, 19, 97, 98] hf37 .nil fun a38 hf38 => ?_
 refine c_box [vI 0, vI 0] 100 hS17 hf38 fun b6 ww18 a39 hS18 hf39 => ⟨fun _ => trivial, ?_⟩
 refine c_st 0 [vI r9.1, vI r9.2.1] hS18 hf39 rfl fun ww19 a40 hS19 hf40 => ⟨fun _ => trivial, ?_⟩
 refine c_t [] [2, 3, 5, 6, 7, 8, 9, 10, 11, 12, 13, 14, 15, 16, 17, 18, 19, 20, 21] hf40 .nil fun a41 hf41 => ?_
 refine c_sr ?_
 refine c_n (oC := [.cell ⟨b1, 0, none⟩ (.slice o_x0_lots x0_lots.length c_x0_lots), .cell ⟨b1, 1, none⟩ (v0_x0_holds), .cell ⟨b1, 2, none⟩ (v1_x0_holds), .cell ⟨b1, 3, none⟩ (v2_x0_holds), .cell ⟨b1, 4, none⟩ (v3_x0_holds), .cell ⟨b1, 5, none⟩ (v4_x0_holds), .cell ⟨b1, 6, none⟩ (v5_x0_holds), .cell ⟨b1, 7, none⟩ (v6_x0_holds), .cell ⟨b1, 8, none⟩ (v7_x0_holds), .cell ⟨b1, 9, none⟩ (v8_x0_holds), .prop ((0 : Int) ≤ 1 ∧ (1 : Int) < (3 : Nat)), .cell ⟨b2, 1, none⟩ (vI y3)]) 3 [.slice o_x0_lots x0_lots.length c_x0_lots, v0_x0_holds, v1_x0_holds, v2_x0_holds, v3_x0_holds, v4_x0_holds, v5_x0_holds, v6_x0_holds, v7_x0_holds, v8_x0_holds, vI y3] [2, 3, 5, 6, 7, 8, 9, 10, 11, 12, 13, 14, 15, 16, 17, 18, 19, 20, 21, 100, 102] hf41 (.cell (hS19.box (i := 5) rfl (j := 0) rfl) (.cell (hS19.box (i := 5) rfl (j := 1) rfl) (.cell (hS19.box (i := 5) rfl (j := 2) rfl) (.cell (hS19.box (i := 5) rfl (j := 3) rfl) (.cell (hS19.box (i := 5) rfl (j := 4) rfl) (.cell (hS19.box (i := 5) rfl (j := 5) rfl) (.cell (hS19.box (i := 5) rfl (j := 6) rfl) (.cell (hS19.box (i := 5) rfl (j := 7) rfl) (.cell (hS19.box (i := 5) rfl (j := 8) rfl) (.cell (hS19.box (i := 5) rfl (j := 9) rfl) (.prop (by decide) (.cell (hS19.box (i := 4) rfl (j := 1) rfl) .nil)))))))))))) fun a42 hf42 => ?_
 obtain ⟨r10, hd10, hr10⟩ := bind_some hr9
 refine c_call hf42 (f63_ok fuel x0_lots x0_holds y3 r10 hd10 z9 _ _ hS19 o_x0_lots c_x0_lots (SliceR.mono (Zone.le_trans (Zone.le_trans (Zone.le_trans (Zone.le_trans (Zone.le_trans (Zone.le_trans (Zone.le_trans (Zone.le_trans k1 k2) k3) k4) k5) k6) k7) k8) k9) hx_x0_lots) v0_x0_holds v1_x0_holds v2_x0_holds v3_x0_holds v4_x0_holds v5_x0_holds v6_x0_holds v7_x0_holds v8_x0_holds (Ty.mono _ (Zone.le_trans (Zone.le_trans (Zone.le_trans (Zone.le_trans (Zone.le_trans (Zone.le_trans (Zone.le_trans (Zone.le_trans k1 k2) k3) k4) k5) k6) k7) k8) k9) hx_x0_holds)) ?_
 rintro v10 ww20 a43 ⟨z10, e5, q5, k10, rfl, hS20, hx5⟩ hf43
 refine ⟨fun _ => trivial, ?_⟩
 refine c_t [] [2, 3, 5, 6, 7, 8, 9, 10, 11, 12, 13, 14, 15, 16, 17, 18, 19, 20, 21, 22, 23] hf43 .nil fun a44 hf44 => ?_
 refine c_sr ?_
 refine c_n (oC := [.cell ⟨b1, 0, none⟩ (.slice o_x0_lots x0_lots.length c_x0_lots), .cell ⟨b1, 1, none⟩ (v0_x0_holds), .cell ⟨b1, 2, none⟩ (v1_x0_holds), .cell ⟨b1, 3, none⟩ (v2_x0_holds), .cell ⟨b1, 4, none⟩ (v3_x0_holds), .cell ⟨b1, 5, none⟩ (v4_x0_holds), .cell ⟨b1, 6, none⟩ (v5_x0_holds), .cell ⟨b1, 7, none⟩ (v6_x0_holds), .cell ⟨b1, 8, none⟩ (v7_x0_holds), .cell ⟨b1, 9, none⟩ (v8_x0_holds), .prop ((0 : Int) ≤ 1 ∧ (1 : Int) < (3 : Nat)), .cell ⟨b2, 1, none⟩ (vI y3)]) 3 [.slice o_x0_lots x0_lots.length c_x0_lots, v0_x0_holds, v1_x0_holds, v2_x0_holds, v3_x0_holds, v4_x0_holds, v5_x0_holds, v6_x0_holds, v7_x0_holds, v8_x0_holds, vI y3] [2, 3, 5, 6, 7, 8, 9, 10, 11, 12, 13, 14, 15, 16, 17, 18, 19, 20, 21, 22, 23, 107, 109] hf44 (.cell (hS20.box (i := 5) rfl (j := 0) rfl) (.cell (hS20.box (i := 5) rfl (j := 1) rfl) (.cell (hS20.box (i := 5) rfl (j := 2) rfl) (.cell (hS20.box (i := 5) rfl (j := 3) rfl) (.cell (hS20.box (i := 5) rfl (j := 4) rfl) (.cell (hS20.box (i := 5) rfl (j := 5) rfl) (.cell (hS20.box (i := 5) rfl (j := 6) rfl) (.cell (hS20.box (i := 5) rfl (j := 7) rfl) (.cell (hS20.box (i := 5) rfl (j := 8) rfl) (.cell (hS20.box (i := 5) rfl (j := 9) rfl) (.prop (by decide) (.cell (hS20.box (i := 4) rfl (j := 1) rfl) .nil)))))))))))) fun a45 hf45 => ?_
 obtain ⟨r11, hd11, hr11⟩ := bind_some hr10
 refine c_call hf45 (f64_ok fuel x0_lots x0_holds y3 r11 hd11 z10 _ _ hS20 o_x0_lots c_x0_lots (SliceR.mono (Zone.le_trans (Zone.le_trans (Zone.le_trans (Zone.le_trans (Zone.le_trans (Zone.le_trans (Zone.le_trans (Zone.le_trans (Zone.le_trans k1 k2) k3) k4) k5) k6) k7) k8) k9) k10) hx_x0_lots) v0_x0_holds v1_x0_holds v2_x0_holds v3_x0_holds v4_x0_holds v5_x0_holds v6_x0_holds v7_x0_holds v8_x0_holds (Ty.mono _ (Zone.le_trans (Zone.le_trans (Zone.le_trans (Zone.le_trans (Zone.le_trans (Zone.le_trans (Zone.le_trans (Zone.le_trans (Zone.le_trans k1 k2) k3) k4) k5) k6) k7) k8) k9) k10) hx_x0_holds)) ?_
 rintro v11 ww21 a46 ⟨z11, e6, q6, k11, rfl, hS21, hx6⟩ hf46
 refine ⟨fun _ => trivial, ?_⟩
 refine c_t [] [2, 3, 5, 6, 7, 8, 9, 10, 11, 12, 13, 14, 15, 16, 17, 18, 19, 20, 21, 22, 23, 24, 25] hf46 .nil fun a47 hf47 => ?_
 refine c_sr ?_
 refine c_n 1 [.slice o_x0_lots x0_lots.length c_x0_lots, v0_x0_holds, v1_x0_holds, v2_x0_holds, v3_x0_holds, v4_x0_holds, v5_x0_holds, v6_x0_holds, v7_x0_holds, v8_x0_holds] [2, 3, 5, 6, 7, 8, 9, 10, 11, 12, 13, 14, 15, 16, 17, 18, 19, 20, 21, 22, 23, 24, 25, 114] hf47 (.cell (hS21.box (i := 5) rfl (j := 0) rfl) (.cell (hS21.box (i := 5) rfl (j := 1) rfl) (.cell (hS21.box (i := 5) rfl (j := 2) rfl) (.cell (hS21.box (i := 5) rfl (j := 3) rfl) (.cell (hS21.box (i := 5) rfl (j := 4) rfl) (.cell (hS21.box (i := 5) rfl (j := 5) rfl) (.cell (hS21.box (i := 5) rfl (j := 6) rfl) (.cell (hS21.box (i := 5) rfl (j := 7) rfl) (.cell (hS21.box (i := 5) rfl (j := 8) rfl) (.cell (hS21.box (i := 5) rfl (j := 9) rfl) .nil)))))))))) fun a48 hf48 => ?_
 obtain ⟨r12, hd12, hr12⟩ := bind_some hr11
 refine c_call hf48 (f65_ok fuel x0_lots x0_holds r12 hd12 z11 _ _ hS21 o_x0_lots c_x0_lots (SliceR.mono (Zone.le_trans (Zone.le_trans (Zone.le_trans (Zone.le_trans (Zone.le_trans (Zone.le_trans (Zone.le_trans (Zone.le_trans (Zone.le_trans (Zone.le_trans k1 k2) k3) k4) k5) k6) k7) k8) k9) k10) k11) hx_x0_lots) v0_x0_holds v1_x0_holds v2_x0_holds v3_x0_holds v4_x0_holds v5_x0_holds v6_x0_holds v7_x0_holds v8_x0_holds (Ty.mono _ (Zone.le_trans (Zone.le_trans (Zone.le_trans (Zone.le_trans (Zone.le_trans (Zone.le_trans (Zone.le_trans (Zone.le_trans (Zone.le_trans (Zone.le_trans k1 k2) k3) k4) k5) k6) k7) k8) k9) k10) k11) hx_x0_holds)) ?_
 rintro v12 ww22 a49 ⟨z12, e7, q7, k12, rfl, hS22, hx7⟩ hf49
 refine ⟨fun _ => trivial, ?_⟩
 refine c_t [] [2, 3, 5, 6, 7, 8, 9, 10, 11, 12, 13, 14, 15, 16, 17, 18, 19, 20, 21, 22, 23, 24, 25, 26, 27] hf49 .nil fun a50 hf50 => ?_
 refine c_sr ?_
 refine c_n 1 [.slice o_x0_lots x0_lots.length c_x0_lots, v0_x0_holds, v1_x0_holds, v2_x0_holds, v3_x0_holds, v4_x0_holds, v5_x0_holds, v6_x0_holds, v7_x0_holds, v8_x0_holds] [2, 3, 5, 6, 7, 8, 9, 10, 11, 12, 13, 14, 15, 16, 17, 18, 19, 20, 21, 22, 23, 24, 25, 26, 27, 119] hf50 (.cell (hS22.box (i := 5) rfl (j := 0) rfl) (.cell (hS22.box (i := 5) rfl (j := 1) rfl) (.cell (hS22.box (i := 5) rfl (j := 2) rfl) (.cell (hS22.box (i := 5) rfl (j := 3) rfl) (.cell (hS22.box (i := 5) rfl (j := 4) rfl) (.cell (hS22.box (i := 5) rfl (j := 5) rfl) (.cell (hS22.box (i := 5) rfl (j := 6) rfl) (.cell (hS22.box (i := 5) rfl (j := 7) rfl) (.cell (hS22.box (i := 5) rfl (j := 8) rfl) (.cell (hS22.box (i := 5) rfl (j := 9) rfl) .nil)))))))))) fun a51 hf51 => ?_
 obtain ⟨r13, hd13, hr13⟩ := bind_some hr12
 refine c_call hf51 (f66_ok fuel x0_lots x0_holds r13 hd13 z12 _ _ hS22 o_x0_lots c_x0_lots (SliceR.mono (Zone.le_trans (Zone.le_trans (Zone.le_trans (Zone.le_trans (Zone.le_trans (Zone.le_trans (Zone.le_trans (Zone.le_trans (Zone.le_trans (Zone.le_trans (Zone.le_trans k1 k2) k3) k4) k5) k6) k7) k8) k9) k10) k11) k12) hx_x0_lots) v0_x0_holds v1_x0_holds v2_x0_holds v3_x0_holds v4_x0_holds v5_x0_holds v6_x0_holds v7_x0_holds v8_x0_holds (Ty.mono _ (Zone.le_trans (Zone.le_trans (Zone.le_trans (Zone.le_trans (Zone.le_trans (Zone.le_trans (Zone.le_trans (Zone.le_trans (Zone.le_trans (Zone.le_trans (Zone.le_trans k1 k2) k3) k4) k5) k6) k7) k8) k9) k10) k11) k12) hx_x0_holds)) ?_
 rintro v13 ww23 a52 ⟨z13, e8, q8, k13, rfl, hS23, hx8⟩ hf52
 refine ⟨fun _ => trivial, ?_⟩
 refine c_t [] [2, 3, 5, 6, 7, 8, 9, 10, 11, 12, 13, 14, 15, 16, 17, 18, 19, 20, 21, 22, 23, 24, 25, 26, 27, 28, 29] hf52 .nil fun a53 hf53 => ?_
 refine c_sr ?_
 refine c_n (oC := [.cell ⟨b1, 0, none⟩ (.slice o_x0_lots x0_lots.length c_x0_lots), .cell ⟨b1, 1, none⟩ (v0_x0_holds), .cell ⟨b1, 2, none⟩ (v1_x0_holds), .cell ⟨b1, 3, none⟩ (v2_x0_holds), .cell ⟨b1, 4, none⟩ (v3_x0_holds), .cell ⟨b1, 5, none⟩ (v4_x0_holds), .cell ⟨b1, 6, none⟩ (v5_x0_holds), .cell ⟨b1, 7, none⟩ (v6_x0_holds), .cell ⟨b1, 8, none⟩ (v7_x0_holds), .cell ⟨b1, 9, none⟩ (v8_x0_holds), .prop ((0 : Int) ≤ 1 ∧ (1 : Int) < (3 : Nat)), .cell ⟨b2, 1, none⟩ (vI y3)]) 3 [.slice o_x0_lots x0_lots.length c_x0_lots, v0_x0_holds, v1_x0_holds, v2_x0_holds, v3_x0_holds, v4_x0_holds, v5_x0_holds, v6_x0_holds, v7_x0_holds, v8_x0_holds, vI y3] [2, 3, 5, 6, 7, 8, 9, 10, 11, 12, 13, 14, 15, 16, 17, 18, 19, 20, 21, 22, 23, 24, 25, 26, 27, 28, 29, 124, 126] hf53 (.cell (hS23.box (i := 5) rfl (j := 0) rfl) (.cell (hS23.box (i := 5) rfl (j := 1) rfl) (.cell (hS23.box (i := 5) rfl (j := 2) rfl) (.cell (hS23.box (i := 5) rfl (j := 3) rfl) (.cell (hS23.box (i := 5) rfl (j := 4) rfl) (.cell (hS23.box (i := 5) rfl (j := 5) rfl) (.cell (hS23.box (i := 5) rfl (j := 6) rfl) (.cell (hS23.box (i := 5) rfl (j := 7) rfl) (.cell (hS23.box (i := 5) rfl (j := 8) rfl) (.cell (hS23.box (i := 5) rfl (j := 9) rfl) (.prop (by decide) (.cell (hS23.box (i := 4) rfl (j := 1) rfl) .nil)))))))))))) fun a54 hf54 => ?_
 obtain ⟨r14, hd14, hr14⟩ := bind_some hr13
 refine c_call hf54 (f42_ok fuel x0_lots x0_holds y3 r14 hd14 z13 _ _ hS23 o_x0_lots c_x0_lots (SliceR.mono (Zone.le_trans (Zone.le_trans (Zone.le_trans (Zone.le_trans (Zone.le_trans (Zone.le_trans (Zone.le_trans (Zone.le_trans (Zone.le_trans (Zone.le_trans (Zone.le_trans (Zone.le_trans k1 k2) k3) k4) k5) k6) k7) k8) k9) k10) k11) k12) k13) hx_x0_lots) v0_x0_holds v1_x0_holds v2_x0_holds v3_x0_holds v4_x0_holds v5_x0_holds v6_x0_holds v7_x0_holds v8_x0_holds (Ty.mono _ (Zone.le_trans (Zone.le_trans (Zone.le_trans (Zone.le_trans (Zone.le_trans (Zone.le_trans (Zone.le_trans (Zone.le_trans (Zone.le_trans (Zone.le_trans (Zone.le_trans (Zone.le_trans k1 k2) k3) k4) k5) k6) k7) k8) k9) k10) k11) k12) k13) hx_x0_holds)) ?_
 rintro v14 ww24 a55 ⟨z14, k14, rfl, hS24⟩ hf55
 refine ⟨fun _ => trivial, ?_⟩
 refine c_t [] [2, 3, 5, 6, 7, 8, 9, 10, 11, 12, 13, 14, 15, 16, 17, 18, 19, 20, 21, 22, 23, 24, 25, 26, 27, 28, 29, 30, 31] hf55 .nil fun a56 hf56 => ?_
 refine c_sr ?_
 refine c_n (oC := [.cell ⟨b1, 0, none⟩ (.slice o_x0_lots x0_lots.length c_x0_lots), .cell ⟨b1, 1, none⟩ (v0_x0_holds), .cell ⟨b1, 2, none⟩ (v1_x0_holds), .cell ⟨b1, 3, none⟩ (v2_x0_holds), .cell ⟨b1, 4, none⟩ (v3_x0_holds), .cell ⟨b1, 5, none⟩ (v4_x0_holds), .cell ⟨b1, 6, none⟩ (v5_x0_holds), .cell ⟨b1, 7, none⟩ (v6_x0_holds), .cell ⟨b1, 8, none⟩ (v7_x0_holds), .cell ⟨b1, 9, none⟩ (v8_x0_holds), .prop ((0 : Int) ≤ 1 ∧ (1 : Int) < (3 : Nat)), .cell ⟨b2, 1, none⟩ (vI y3)]) 3 [.slice o_x0_lots x0_lots.length c_x0_lots, v0_x0_holds, v1_x0_holds, v2_x0_holds, v3_x0_holds, v4_x0_holds, v5_x0_holds, v6_x0_holds, v7_x0_holds, v8_x0_holds, vI y3] [5, 6, 7, 8, 9, 10, 11, 12, 13, 14, 15, 16, 17, 18, 19, 20, 21, 22, 23, 24, 25, 26, 27, 28, 29, 30, 31, 131, 133] hf56 (.cell (hS24.box (i := 5) rfl (j := 0) rfl) (.cell (hS24.box (i := 5) rfl (j := 1) rfl) (.cell (hS24.box (i := 5) rfl (j := 2) rfl) (.cell (hS24.box (i := 5) rfl (j := 3) rfl) (.cell (hS24.box (i := 5) rfl (j := 4) rfl) (.cell (hS24.box (i := 5) rfl (j := 5) rfl) (.cell (hS24.box (i := 5) rfl (j := 6) rfl) (.cell (hS24.box (i := 5) rfl (j := 7) rfl) (.cell (hS24.box (i := 5) rfl (j := 8) rfl) (.cell (hS24.box (i := 5) rfl (j := 9) rfl) (.prop (by decide) (.cell (hS24.box (i := 4) rfl (j := 1) rfl) .nil)))))))))))) fun a57 hf57 => ?_
 obtain ⟨r15, hd15, hr15⟩ := bind_some hr14
 refine c_call hf57 (f67_ok fuel x0_lots x0_holds y3 r15 hd15 z14 _ _ hS24 o_x0_lots c_x0_lots (SliceR.mono (Zone.le_trans (Zone.le_trans (Zone.le_trans (Zone.le_trans (Zone.le_trans (Zone.le_trans (Zone.le_trans (Zone.le_trans (Zone.le_trans (Zone.le_trans (Zone.le_trans (Zone.le_trans (Zone.le_trans k1 k2) k3) k4) k5) k6) k7) k8) k9) k10) k11) k12) k13) k14) hx_x0_lots) v0_x0_holds v1_x0_holds v2_x0_holds v3_x0_holds v4_x0_holds v5_x0_holds v6_x0_holds v7_x0_holds v8_x0_holds (Ty.mono _ (Zone.le_trans (Zone.le_trans (Zone.le_trans (Zone.le_trans (Zone.le_trans (Zone.le_trans (Zone.le_trans (Zone.le_trans (Zone.le_trans (Zone.le_trans (Zone.le_trans (Zone.le_trans (Zone.le_trans k1 k2) k3) k4) k5) k6) k7) k8) k9) k10) k11) k12) k13) k14) hx_x0_holds)) ?_
 rintro v15 ww25 a58 ⟨z15, k15, rfl, hS25⟩ hf58
 refine ⟨fun _ => trivial, ?_⟩
 refine c_t [] [5, 6, 7, 8, 9, 10, 11, 12, 13, 14, 15, 16, 17, 18, 19, 20, 21, 22, 23, 24, 25, 26, 27, 28, 29, 30, 31, 32, 33] hf58 .nil fun a59 hf59 => ?_
 refine c_sr ?_
 refine c_n 2 [] [5, 7, 9, 10, 11, 12, 13, 14, 15, 16, 17, 18, 19, 20, 21, 22, 23, 24, 25, 26, 27, 28, 29, 30, 31, 32, 33, 137, 138] hf59 .nil fun a60 hf60 => ?_
 obtain ⟨r16, hd16, hr16⟩ := bind_some hr15
 refine c_call hf60 (f68_ok fuel r2.1 r3.1 r16 hd16 z15 _ _ hS25 e1 q1 (SliceR.mono (Zone.le_trans (Zone.le_trans (Zone.le_trans (Zone.le_trans (Zone.le_trans (Zone.le_trans (Zone.le_trans (Zone.le_trans (Zone.le_trans (Zone.le_trans (Zone.le_trans (Zone.le_trans k3 k4) k5) k6) k7) k8) k9) k10) k11) k12) k13) k14) k15) hx1) e2 q2 (SliceR.mono (Zone.le_trans (Zone.le_trans (Zone.le_trans (Zone.le_trans (Zone.le_trans (Zone.le_trans (Zone.le_trans (Zone.le_trans (Zone.le_trans (Zone.le_trans (Zone.le_trans k4 k5) k6) k7) k8) k9) k10) k11) k12) k13) k14) k15) hx2)) ?_
 rintro v16 ww26 a61 ⟨z16, k16, rfl, hS26⟩ hf61
 refine ⟨fun _ => trivial, ?_⟩
 refine c_t [] [5, 7, 9, 10, 11, 12, 13, 14, 15, 16, 17, 18, 19, 20, 21, 22, 23, 24, 25, 26, 27, 28, 29, 30, 31, 32, 33, 34] hf61 .nil fun a62 hf62 => ?_
 refine c_sr ?_
 refine c_n 2 [] [5, 7, 9, 11, 13, 14, 15, 16, 17, 18, 19, 20, 21, 22, 23, 24, 25, 26, 27, 28, 29, 30, 31, 32, 33, 34, 140, 141] hf62 .nil fun a63 hf63 => ?_
 obtain ⟨r17, hd17, hr17⟩ := bind_some hr16
 refine c_call hf63 (f68_ok fuel r4.1 r5.1 r17 hd17 z16 _ _ hS26 e3 q3 (SliceR.mono (Zone.le_trans (Zone.le_trans (Zone.le_trans (Zone.le_trans (Zone.le_trans (Zone.le_trans (Zone.le_trans (Zone.le_trans (Zone.le_trans (Zone.le_trans (Zone.le_trans k5 k6) k7) k8) k9) k10) k11) k12) k13) k14) k15) k16) hx3) e4 q4 (SliceR.mono (Zone.le_trans (Zone.le_trans (Zone.le_trans (Zone.le_trans (Zone.le_trans (Zone.le_trans (Zone.le_trans (Zone.le_trans (Zone.le_trans (Zone.le_trans k6 k7) k8) k9) k10) k11) k12) k13) k14) k15) k16) hx4)) ?_
 rintro v17 ww27 a64 ⟨z17, k17, rfl, hS27⟩ hf64
 refine ⟨fun _ => trivial, ?_⟩
 refine c_t [] [5, 7, 9, 11, 13, 14, 15, 16, 17, 18, 19, 20, 21, 22, 23, 24, 25, 26, 27, 28, 29, 30, 31, 32, 33, 34, 35] hf64 .nil fun a65 hf65 => ?_
 refine c_sr ?_
 refine c_n 2 [] [5, 7, 9, 11, 13, 14, 15, 16, 17, 18, 19, 20, 21, 23, 25, 26, 27, 28, 29, 30, 31, 32, 33, 34, 35, 143, 144] hf65 .nil fun a66 hf66 => ?_
 obtain ⟨r18, hd18, hr18⟩ := bind_some hr17
 refine c_call hf66 (f68_ok fuel r10.1 r11.1 r18 hd18 z17 _ _ hS27 e5 q5 (SliceR.mono (Zone.le_trans (Zone.le_trans (Zone.le_trans (Zone.le_trans (Zone.le_trans (Zone.le_trans k11 k12) k13) k14) k15) k16) k17) hx5) e6 q6 (SliceR.mono (Zone.le_trans (Zone.le_trans (Zone.le_trans (Zone.le_trans (Zone.le_trans k12 k13) k14) k15) k16) k17) hx6)) ?_
 rintro v18 ww28 a67 ⟨z18, k18, rfl, hS28⟩ hf67
 refine ⟨fun _ => trivial, ?_⟩
 refine c_t [] [5, 7, 9, 11, 13, 14, 15, 16, 17, 18, 19, 20, 21, 23, 25, 26, 27, 28, 29, 30, 31, 32, 33, 34, 35, 36] hf67 .nil fun a68 hf68 => ?_
 refine c_sr ?_
 refine c_n 2 [] [5, 7, 9, 11, 13, 14, 15, 16, 17, 18, 19, 20, 21, 23, 25, 27, 29, 30, 31, 32, 33, 34, 35, 36, 146, 147] hf68 .nil fun a69 hf69 => ?_
 obtain ⟨r19, hd19, hr19⟩ := bind_some hr18
 refine c_call hf69 (f68_ok fuel r12.1 r13.1 r19 hd19 z18 _ _ hS28 e7 q7 (SliceR.mono (Zone.le_trans (Zone.le_trans (Zone.le_trans (Zone.le_trans (Zone.le_trans k13 k14) k15) k16) k17) k18) hx7) e8 q8 (SliceR.mono (Zone.le_trans (Zone.le_trans (Zone.le_trans (Zone.le_trans k14 k15) k16) k17) k18) hx8)) ?_
 rintro v19 ww29 a70 ⟨z19, k19, rfl, hS29⟩ hf70
 refine ⟨fun _ => trivial, ?_⟩
 refine c_t [] [5, 7, 9, 11, 13, 14, 15, 16, 17, 18, 19, 20, 21, 23, 25, 27, 29, 30, 31, 32, 33, 34, 35, 36, 37] hf70 .nil fun a71 hf71 => ?_
 refine c_mid (fun a w => ∃ z20 : Zone, ∃ y1 : Bool, Zone.le z19 z20 ∧ Fr a 212 [(4, .bool y1)] ∧ St z20 (box b6 [vI r9.1, vI r9.2.1] 100 :: box b5 [vI r8.1, vI r8.2.1] 100 :: box b4 [vI r7.1, vI r7.2.1] 100 :: box b3 [vI r6.1, vI r6.2.1] 100 :: box b2 [vI y2, vI y3, vI y4] 61 :: box b1 [.slice o_x0_lots x0_lots.length c_x0_lots, v0_x0_holds, v1_x0_holds, v2_x0_holds, v3_x0_holds, v4_x0_holds, v5_x0_holds, v6_x0_holds, v7_x0_holds, v8_x0_holds] 26 :: L) w ∧ (F15_j1 y1) = some r) ?_ ?_
 ·skip
  refine c_reg ?_
  refine c_n 2 [] [7, 9, 11, 13, 14, 15, 16, 17, 18, 19, 20, 21, 23, 25, 27, 29, 30, 31, 32, 33, 34, 35, 36, 37, 150] hf71 .nil fun a72 hf72 => ?_
  rcases Bool.eq_false_or_eq_true r1 with hb1 | hb1
  ·have hr20 := cond_t hb1 hr19
   have hf73 := hf72.lit 150 hb1
   refine c_n 3 [] [7, 9, 11, 13, 14, 15, 16, 17, 18, 19, 20, 21, 23, 25, 27, 29, 30, 31, 32, 33, 35, 36, 37, 153] hf73 .nil fun a73 hf74 => ?_
   rcases Bool.eq_false_or_eq_true r16 with hb2 | hb2
   ·have hr21 := cond_t hb2 hr20
    have hf75 := hf74.lit 153 hb2
    refine c_n 3 [] [7, 9, 11, 13, 14, 15, 16, 17, 18, 19, 20, 21, 23, 25, 27, 29, 30, 31, 32, 33, 36, 37, 156] hf75 .nil fun a74 hf76 => ?_
    rcases Bool.eq_false_or_eq_true r17 with hb3 | hb3
    ·have hr22 := cond_t hb3 hr21
     have hf77 := hf76.lit 156 hb3
     refine c_n 3 [] [7, 9, 11, 13, 14, 15, 16, 17, 18, 19, 20, 21, 23, 25, 27, 29, 30, 31, 32, 33, 37, 159] hf77 .nil fun a75 hf78 => ?_
     rcases Bool.eq_false_or_eq_true r18 with hb4 | hb4
     ·have hr23 := cond_t hb4 hr22
      have hf79 := hf78.lit 159 hb4
      refine c_n 3 [] [7, 9, 11, 13, 14, 15, 16, 17, 18, 19, 20, 21, 23, 25, 27, 29, 30, 31, 32, 33, 162] hf79 .nil fun a76 hf80 => ?_
      rcases Bool.eq_false_or_eq_true r19 with hb5 | hb5
      ·have hr24 := cond_t hb5 hr23
       have hf81 := hf80.lit 162 hb5
       refine c_n 5 [] [11, 13, 14, 15, 16, 17, 18, 19, 20, 21, 23, 25, 27, 29, 30, 31, 32, 33, 167] hf81 .nil fun a77 hf82 => ?_
       rcases Bool.eq_false_or_eq_true (r2.2 == r3.2) with hb6 | hb6
       ·have hr25 := cond_t hb6 hr24
        have hf83 := hf82.lit 167 hb6
        refine c_n 5 [] [14, 15, 16, 17, 18, 19, 20, 21, 23, 25, 27, 29, 30, 31, 32, 33, 172] hf83 .nil fun a78 hf84 => ?_
        rcases Bool.eq_false_or_eq_true (r4.2 == r5.2) with hb7 | hb7
        ·have hr26 := cond_t hb7 hr25
         have hf85 := hf84.lit 172 hb7
         refine c_n 5 [vI r6.1, vI r6.2.1, vI r7.1, vI r7.2.1] [15, 17, 18, 19, 20, 21, 23, 25, 27, 29, 30, 31, 32, 33, 177] hf85 (.cell (hS29.box (i := 3) rfl (j := 0) rfl) (.cell (hS29.box (i := 3) rfl (j := 1) rfl) (.cell (hS29.box (i := 2) rfl (j := 0) rfl) (.cell (hS29.box (i := 2) rfl (j := 1) rfl) .nil)))) fun a79 hf86 => ?_
         rcases Bool.eq_false_or_eq_true ((r6.1 == r7.1) && ((r6.2.1 == r7.2.1) && true)) with hb8 | hb8
         ·have hr27 := cond_t hb8 hr26
          have hf87 := hf86.lit 177 hb8
          refine c_n 5 [] [18, 19, 20, 21, 23, 25, 27, 29, 30, 31, 32, 33, 182] hf87 .nil fun a80 hf88 => ?_
          rcases Bool.eq_false_or_eq_true (r6.2.2 == r7.2.2) with hb9 | hb9
          ·have hr28 := cond_t hb9 hr27
           have hf89 := hf88.lit 182 hb9
           refine c_n 5 [vI r8.1, vI r8.2.1, vI r9.1, vI r9.2.1] [19, 21, 23, 25, 27, 29, 30, 31, 32, 33, 187] hf89 (.cell (hS29.box (i := 1) rfl (j := 0) rfl) (.cell (hS29.box (i := 1) rfl (j := 1) rfl) (.cell (hS29.box (i := 0) rfl (j := 0) rfl) (.cell (hS29.box (i := 0) rfl (j := 1) rfl) .nil)))) fun a81 hf90 => ?_
           rcases Bool.eq_false_or_eq_true ((r8.1 == r9.1) && ((r8.2.1 == r9.2.1) && true)) with hb10 | hb10
           ·have hr29 := cond_t hb10 hr28
            have hf91 := hf90.lit 187 hb10
            refine c_n 5 [] [23, 25, 27, 29, 30, 31, 32, 33, 192] hf91 .nil fun a82 hf92 => ?_
            rcases Bool.eq_false_or_eq_true (r8.2.2 == r9.2.2) with hb11 | hb11
            ·have hr30 := cond_t hb11 hr29
             have hf93 := hf92.lit 192 hb11
             refine c_n 5 [] [27, 29, 30, 31, 32, 33, 197] hf93 .nil fun a83 hf94 => ?_
             rcases Bool.eq_false_or_eq_true (r10.2 == r11.2) with hb12 | hb12
             ·have hr31 := cond_t hb12 hr30
              have hf95 := hf94.lit 197 hb12
              refine c_n 5 [] [30, 31, 32, 33, 202] hf95 .nil fun a84 hf96 => ?_
              rcases Bool.eq_false_or_eq_true (r12.2 == r13.2) with hb13 | hb13
              ·have hr32 := cond_t hb13 hr31
               have hf97 := hf96.lit 202 hb13
               refine c_n 5 [] [31, 33, 207] hf97 .nil fun a85 hf98 => ?_
               rcases Bool.eq_false_or_eq_true (r14.1 == r15.1) with hb14 | hb14
               ·have hr33 := cond_t hb14 hr32
                have hf99 := hf98.lit 207 hb14
                refine c_t [] [4] hf99 .nil fun a86 hf100 => ?_
                exact ⟨z19, (r14.2 == r15.2), (Zone.le_refl _), hf100.to, hS29, hr33⟩
               ·have hr34 := cond_f hb14 hr32
                have hf102 := hf98.lit 207 hb14
                refine c_t [] [4] hf102 .nil fun a87 hf103 => ?_
                exact ⟨z19, false, (Zone.le_refl _), hf103.to, hS29, hr34⟩
              ·have hr35 := cond_f hb13 hr31
               have hf105 := hf96.lit 202 hb13
               refine c_t [] [4] hf105 .nil fun a88 hf106 => ?_
               exact ⟨z19, false, (Zone.le_refl _), hf106.to, hS29, hr35⟩
             ·have hr36 := cond_f hb12 hr30
              have hf108 := hf94.lit 197 hb12
              refine c_t [] [4] hf108 .nil fun a89 hf109 => ?_
              exact ⟨z19, false, (Zone.le_refl _), hf109.to, hS29, hr36⟩
            ·have hr37 := cond_f hb11 hr29
             have hf111 := hf92.lit 192 hb11
             refine c_t [] [4] hf111 .nil fun a90 hf112 => ?_
             exact ⟨z19, false, (Zone.le_refl _), hf112.to, hS29, hr37⟩
           ·have hr38 := cond_f hb10 hr28
            have hf114 := hf90.lit 187 hb10
            refine c_t [] [4] hf114 .nil fun a91 hf115 => ?_
            exact ⟨z19, false, (Zone.le_refl _), hf115.to, hS29, hr38⟩
          ·have hr39 := cond_f hb9 hr27
           have hf117 := hf88.lit 182 hb9
           refine c_t [] [4] hf117 .nil fun a92 hf118 => ?_
           exact ⟨z19, false, (Zone.le_refl _), hf118.to, hS29, hr39⟩
         ·have hr40 := cond_f hb8 hr26
          have hf120 := hf86.lit 177 hb8
          refine c_t [] [4] hf120 .nil fun a93 hf121 => ?_
          exact ⟨z19, false, (Zone.le_refl _), hf121.to, hS29, hr40⟩
        ·have hr41 := cond_f hb7 hr25
         have hf123 := hf84.lit 172 hb7
         refine c_t [] [4] hf123 .nil fun a94 hf124 => ?_
         exact ⟨z19, false, (Zone.le_refl _), hf124.to, hS29, hr41⟩
       ·have hr42 := cond_f hb6 hr24
        have hf126 := hf82.lit 167 hb6
        refine c_t [] [4] hf126 .nil fun a95 hf127 => ?_
        exact ⟨z19, false, (Zone.le_refl _), hf127.to, hS29, hr42⟩
      ·have hr43 := cond_f hb5 hr23
       have hf129 := hf80.lit 162 hb5
       refine c_t [] [4] hf129 .nil fun a96 hf130 => ?_
       exact ⟨z19, false, (Zone.le_refl _), hf130.to, hS29, hr43⟩
     ·have hr44 := cond_f hb4 hr22
      have hf132 := hf78.lit 159 hb4
      refine c_t [] [4] hf132 .nil fun a97 hf133 => ?_
      exact ⟨z19, false, (Zone.le_refl _), hf133.to, hS29, hr44⟩
    ·have hr45 := cond_f hb3 hr21
     have hf135 := hf76.lit 156 hb3
     refine c_t [] [4] hf135 .nil fun a98 hf136 => ?_
     exact ⟨z19, false, (Zone.le_refl _), hf136.to, hS29, hr45⟩
   ·have hr46 := cond_f hb2 hr20
    have hf138 := hf74.lit 153 hb2
    refine c_t [] [4] hf138 .nil fun a99 hf139 => ?_
    exact ⟨z19, false, (Zone.le_refl _), hf139.to, hS29, hr46⟩
  ·have hr47 := cond_f hb1 hr19
   have hf141 := hf72.lit 150 hb1
   refine c_t [] [4] hf141 .nil fun a100 hf142 => ?_
   exact ⟨z19, false, (Zone.le_refl _), hf142.to, hS29, hr47⟩
 ·rintro a101 ww30 ⟨z20, y1, k20, hf144, hS30, hr48⟩
  refine c_ret ?_
  refine c_rt [] (.bool y1) hf144 .nil ?_
  obtain rfl := some_eq hr48
  exact ⟨_, rfl, z20, (Zone.le_trans (Zone.le_trans (Zone.le_trans (Zone.le_trans (Zone.le_trans (Zone.le_trans (Zone.le_trans (Zone.le_trans (Zone.le_trans (Zone.le_trans (Zone.le_trans (Zone.le_trans (Zone.le_trans (Zone.le_trans (Zone.le_trans (Zone.le_trans (Zone.le_trans (Zone.le_trans (Zone.le_trans k1 k2) k3) k4) k5) k6) k7) k8) k9) k10) k11) k12) k13) k14) k15) k16) k17) k18) k19) k20), rfl, (St.drop 6 hS30)⟩
end Go.Proofs.Ytlmgjjmighajdaa
