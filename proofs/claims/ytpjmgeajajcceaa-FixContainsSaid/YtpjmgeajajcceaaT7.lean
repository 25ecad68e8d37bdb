/-
  The walks of functions 36, 35, 37, 38, 40, 41, 7: what the code does is what a plain function computes. No condition.
-/
import Derived.Test.YtpjmgeajajcceaaSFb
set_option linter.unusedVariables false
namespace Go.Proofs.Ytpjmgeajajcceaa
open Go.Sl Go.Sx
def F36 (fuel : Nat) (x0 : Int) : Option (Int) :=
  (some ((w64 ((Int.tmod (w64 ((Int.tmod x0 2000001) + (2000001 : Int))) 2000001) - (1000000 : Int)))))
set_option maxRecDepth 100000 in
theorem f36_ok (fuel : Nat) (x0 : Int) (r : Int) (hr : F36 fuel x0 = some r) (h : Zone) (L : List Atom) (w : World) (hS : St h L w)  :
    Calls Try.prog 36 #[vI x0] w fun e w' => ∃ v, e = .returned v ∧ (v = vI r ∧ St h L w') := by
 refine calls_intro (N := 8) Try.func36 (by kernel_rfl) fun a hf => ?_
 refine w_sq [] [(0, vI x0)] [] hf (by kernel_rfl) .nil fun a1 hf1 => ?_
 refine w_sq [] [(2, vI (w64 ((Int.tmod (w64 ((Int.tmod x0 2000001) + (2000001 : Int))) 2000001) - (1000000 : Int))))] [.prop ((2000001 : Int) ≠ 0), .prop ((2000001 : Int) ≠ 0)] hf1 (by kernel_rfl) (.prop (by decide) (.prop (by decide) .nil)) fun a2 hf2 => ?_
 refine w_ret (by kernel_rfl) ?_
 refine p_ret (os := []) (v := vI (w64 ((Int.tmod (w64 ((Int.tmod x0 2000001) + (2000001 : Int))) 2000001) - (1000000 : Int)))) (obs := []) hf2 (by kernel_rfl) .nil ?_
 obtain rfl := some_eq hr
 exact ⟨_, rfl, rfl, hS⟩
def F35 (fuel : Nat) (x0 : Int) (x1 : Int) (x2 : Int) : Option (Int × Int × Int) :=
  ((F36 fuel x0).bind fun r1 => ((F36 fuel x1).bind fun r2 => ((F36 fuel x0).bind fun r3 => ((F36 fuel x1).bind fun r4 => ((nz (w64 ((w64 ((if r4 > r3 then r4 else r3) - (if r2 < r1 then r2 else r1))) + (1 : Int)))).bind fun _ => ((nz (w64 ((w64 ((if r4 > r3 then r4 else r3) - (if r2 < r1 then r2 else r1))) + (1 : Int)))).bind fun _ => (some ((if r2 < r1 then r2 else r1), (if r4 > r3 then r4 else r3), (w64 ((if r2 < r1 then r2 else r1) + (Int.tmod (w64 ((w64 ((w64 ((Int.tmod x2 (w64 ((w64 ((if r4 > r3 then r4 else r3) - (if r2 < r1 then r2 else r1))) + (1 : Int)))) + (if r4 > r3 then r4 else r3))) - (if r2 < r1 then r2 else r1))) + (1 : Int))) (w64 ((w64 ((if r4 > r3 then r4 else r3) - (if r2 < r1 then r2 else r1))) + (1 : Int))))))))))))))
set_option maxRecDepth 100000 in
theorem f35_ok (fuel : Nat) (x0 : Int) (x1 : Int) (x2 : Int) (r : Int × Int × Int) (hr : F35 fuel x0 x1 x2 = some r) (h : Zone) (L : List Atom) (w : World) (hS : St h L w)  :
    Calls Try.prog 35 #[vI x0, vI x1, vI x2] w fun e w' => ∃ v, e = .returned v ∧ (v = .tuple #[.agg #[vI r.1, vI r.2.1], vI r.2.2] ∧ St h L w') := by
 refine calls_intro (N := 41) Try.func35 (by kernel_rfl) fun a hf => ?_
 refine w_sr (by kernel_rfl) ?_
 refine p_box (i := 0) (d := (some 6)) (cs := [vI 0, vI 0]) (T := 41) (v := fun b1 => pB b1 0) hS hf (fun b => by kernel_rfl) fun b1 ww1 a1 hS1 hf1 => ⟨fun _ => trivial, ?_⟩
 refine p_qt [] [(0, vI x0), (1, vI x1), (2, vI x2), (6, pB b1 0)] [] hf1 (by kernel_rfl) .nil fun a2 hf2 => ?_
 refine w_sr (by kernel_rfl) ?_
 refine p_qn 1 [] [(0, vI x0), (1, vI x1), (2, vI x2), (6, pB b1 0), (10, vI x0)] [] hf2 (by kernel_rfl) .nil fun a3 hf3 => ?_
 obtain ⟨r1, hd1, hr1⟩ := bind_some hr
 refine p_call (i := 1) (d := some 11) (f := 36) (args := #[vI x0]) hf3 (by kernel_rfl) (f36_ok fuel x0 r1 hd1 h _ _ hS1 ) ?_
 rintro v1 ww2 a4 ⟨rfl, hS2⟩ hf4
 refine ⟨fun _ => trivial, ?_⟩
 refine p_qn 1 [] [(0, vI x0), (1, vI x1), (2, vI x2), (6, pB b1 0), (11, vI r1), (12, vI x1)] [] hf4 (by kernel_rfl) .nil fun a5 hf5 => ?_
 obtain ⟨r2, hd2, hr2⟩ := bind_some hr1
 refine p_call (i := 3) (d := some 13) (f := 36) (args := #[vI x1]) hf5 (by kernel_rfl) (f36_ok fuel x1 r2 hd2 h _ _ hS2 ) ?_
 rintro v2 ww3 a6 ⟨rfl, hS3⟩ hf6
 refine ⟨fun _ => trivial, ?_⟩
 refine p_qt [] [(0, vI x0), (1, vI x1), (2, vI x2), (6, pB b1 0), (8, vI (if r2 < r1 then r2 else r1))] [] hf6 (by kernel_rfl) .nil fun a7 hf7 => ?_
 refine w_sr (by kernel_rfl) ?_
 refine p_qn 1 [] [(1, vI x1), (2, vI x2), (6, pB b1 0), (8, vI (if r2 < r1 then r2 else r1)), (15, vI x0)] [] hf7 (by kernel_rfl) .nil fun a8 hf8 => ?_
 obtain ⟨r3, hd3, hr3⟩ := bind_some hr2
 refine p_call (i := 1) (d := some 16) (f := 36) (args := #[vI x0]) hf8 (by kernel_rfl) (f36_ok fuel x0 r3 hd3 h _ _ hS3 ) ?_
 rintro v3 ww4 a9 ⟨rfl, hS4⟩ hf9
 refine ⟨fun _ => trivial, ?_⟩
 refine p_qn 1 [] [(2, vI x2), (6, pB b1 0), (8, vI (if r2 < r1 then r2 else r1)), (16, vI r3), (17, vI x1)] [] hf9 (by kernel_rfl) .nil fun a10 hf10 => ?_
 obtain ⟨r4, hd4, hr4⟩ := bind_some hr3
 refine p_call (i := 3) (d := some 18) (f := 36) (args := #[vI x1]) hf10 (by kernel_rfl) (f36_ok fuel x1 r4 hd4 h _ _ hS4 ) ?_
 rintro v4 ww5 a11 ⟨rfl, hS5⟩ hf11
 refine ⟨fun _ => trivial, ?_⟩
 refine p_qt [] [(2, vI x2), (6, pB b1 0), (8, vI (if r2 < r1 then r2 else r1)), (9, vI (if r4 > r3 then r4 else r3))] [] hf11 (by kernel_rfl) .nil fun a12 hf12 => ?_
 refine w_seq (by kernel_rfl) ?_
 have hS6 := hS5.drew
 refine w_regD (by kernel_rfl) [(0, true), (1, true), (2, true), (3, true), (4, true), (5, true), (6, true), (7, true), (8, true), (9, true), (10, true), (11, true), (12, true), (13, true), (14, true), (15, true), (16, true), (17, true), (18, true), (19, true), (20, true), (21, false), (22, true)] [21] (fun x => x = ww5.drew) (by kernel_rfl) rfl ?_
 obtain ⟨u1, hd5, hr5⟩ := bind_some hr4
 obtain ⟨u2, hd6, hr6⟩ := bind_some hr5
 refine p_qE 21 [] [(6, pB b1 0), (22, .agg #[vI (if r2 < r1 then r2 else r1), vI (if r4 > r3 then r4 else r3)]), (40, vI (w64 ((if r2 < r1 then r2 else r1) + (Int.tmod (w64 ((w64 ((w64 ((Int.tmod x2 (w64 ((w64 ((if r4 > r3 then r4 else r3) - (if r2 < r1 then r2 else r1))) + (1 : Int)))) + (if r4 > r3 then r4 else r3))) - (if r2 < r1 then r2 else r1))) + (1 : Int))) (w64 ((w64 ((if r4 > r3 then r4 else r3) - (if r2 < r1 then r2 else r1))) + (1 : Int)))))))] [.prop ((w64 ((w64 ((if r4 > r3 then r4 else r3) - (if r2 < r1 then r2 else r1))) + (1 : Int))) ≠ 0), .prop ((w64 ((w64 ((if r4 > r3 then r4 else r3) - (if r2 < r1 then r2 else r1))) + (1 : Int))) ≠ 0)] [] hf12 (by kernel_rfl) (.prop (nz_spec hd5) (.prop (nz_spec hd6) .nil)) .nil fun a13 hf13 => ?_
 refine p_store_eq (i := 21) (j := 0) (b := b1) (off := 0) (vs := [vI (if r2 < r1 then r2 else r1), vI (if r4 > r3 then r4 else r3)]) (cs' := [vI (if r2 < r1 then r2 else r1), vI (if r4 > r3 then r4 else r3)]) hS6 hf13 rfl (by kernel_rfl) (by kernel_rfl) rfl fun ww6 a14 hS7 hf14 => ⟨fun e => absurd e (by decide), ?_⟩
 refine p_qP 1 [] [(6, pB b1 0), (7, vI (w64 ((if r2 < r1 then r2 else r1) + (Int.tmod (w64 ((w64 ((w64 ((Int.tmod x2 (w64 ((w64 ((if r4 > r3 then r4 else r3) - (if r2 < r1 then r2 else r1))) + (1 : Int)))) + (if r4 > r3 then r4 else r3))) - (if r2 < r1 then r2 else r1))) + (1 : Int))) (w64 ((w64 ((if r4 > r3 then r4 else r3) - (if r2 < r1 then r2 else r1))) + (1 : Int)))))))] [] hf14 (by kernel_rfl) (fun _ => .nil) fun a15 hf15 => ?_
 refine p_dt (by kernel_rfl) ?_
 refine w_ret (by kernel_rfl) ?_
 refine p_ret (os := [vI (if r2 < r1 then r2 else r1), vI (if r4 > r3 then r4 else r3)]) (v := .tuple #[.agg #[vI (if r2 < r1 then r2 else r1), vI (if r4 > r3 then r4 else r3)], vI (w64 ((if r2 < r1 then r2 else r1) + (Int.tmod (w64 ((w64 ((w64 ((Int.tmod x2 (w64 ((w64 ((if r4 > r3 then r4 else r3) - (if r2 < r1 then r2 else r1))) + (1 : Int)))) + (if r4 > r3 then r4 else r3))) - (if r2 < r1 then r2 else r1))) + (1 : Int))) (w64 ((w64 ((if r4 > r3 then r4 else r3) - (if r2 < r1 then r2 else r1))) + (1 : Int))))))]) (obs := [.cell ⟨b1, 0, none⟩ (vI (if r2 < r1 then r2 else r1)), .cell ⟨b1, 1, none⟩ (vI (if r4 > r3 then r4 else r3))]) hf15 (by kernel_rfl) (.cell (hS7.box (i := 0) rfl (j := 0) rfl) (.cell (hS7.box (i := 0) rfl (j := 1) rfl) .nil)) ?_
 obtain rfl := some_eq hr6
 exact ⟨_, rfl, rfl, (St.drop 1 hS7)⟩
def F37_j1 (y1 : Int) (y2 : Int) (y3 : Int) : Option (Int × Int × Int) :=
  (some (y1, y2, y3))
def F37_j2 (k1 : Int → Int → Bool → Int → Option (Int × Int × Int)) (p1 : Int) (y4 : Int) (p2 : Int) (y5 : Int) (y6 : Int) (y7 : Bool) : Option (Int × Int × Int) :=
  (k1 (if (w64 (p1 + p2)) < y5 then (w64 (p1 + p2)) else y5) (if (w64 (p1 + p2)) > y6 then (w64 (p1 + p2)) else y6) y7 (w64 (y4 + (1 : Int))))
def F37_l2 (k2 : Int → Int → Bool → Int → Option (Int × Int × Int)) (x1_lo : Int) (x1_hi : Int) (y8 : Int) (p1 : Int) : Nat → Int → Int → Bool → Int → Option (Int × Int × Int)
  | 0, _, _, _, _ => none
  | n1 + 1, y9, y10, y11, y4 =>
    let k1 : Int → Int → Bool → Int → Option (Int × Int × Int) := F37_l2 k2 x1_lo x1_hi y8 p1 n1
    (cond (decide (y4 < (2 : Int))) ((getI ([(x1_lo : Int), (x1_hi : Int)]) y4).bind fun p2 => (cond (!y11) (F37_j2 k1 p1 y4 p2 (w64 (p1 + p2)) (w64 (p1 + p2)) true) (F37_j2 k1 p1 y4 p2 y9 y10 y11))) (k2 y9 y10 y11 (w64 (y8 + (1 : Int)))))
def F37_j3 (y12 : Int) (y13 : Int) (y14 : Int) : Option (Int × Int × Int) :=
  (F37_j1 y12 y13 y14)
def F37_l1 (fuel : Nat) (x0_lo : Int) (x0_hi : Int) (x1_lo : Int) (x1_hi : Int) : Nat → Int → Int → Bool → Int → Option (Int × Int × Int)
  | 0, _, _, _, _ => none
  | n2 + 1, y15, y16, y17, y8 =>
    let k2 : Int → Int → Bool → Int → Option (Int × Int × Int) := F37_l1 fuel x0_lo x0_hi x1_lo x1_hi n2
    (cond (decide (y8 < (2 : Int))) ((getI ([(x0_lo : Int), (x0_hi : Int)]) y8).bind fun p1 => (F37_l2 k2 x1_lo x1_hi y8 p1 fuel y15 y16 y17 0)) ((F52 fuel y15 y16).bind fun r1 => (cond (r1 != (0 : Int)) (F37_j3 0 0 5) (F37_j3 y15 y16 0))))
def F37 (fuel : Nat) (x0_lo : Int) (x0_hi : Int) (x1_lo : Int) (x1_hi : Int) : Option (Int × Int × Int) :=
  ((F106 fuel x0_lo x0_hi x1_lo x1_hi).bind fun r2 => (cond (r2 != (0 : Int)) (F37_j1 0 0 r2) (F37_l1 fuel x0_lo x0_hi x1_lo x1_hi fuel 0 0 false 0)))
set_option maxRecDepth 100000 in
theorem f37_ok (fuel : Nat) (x0_lo : Int) (x0_hi : Int) (x1_lo : Int) (x1_hi : Int) (r : Int × Int × Int) (hr : F37 fuel x0_lo x0_hi x1_lo x1_hi = some r) (h : Zone) (L : List Atom) (w : World) (hS : St h L w)  :
    Calls Try.prog 37 #[.agg #[vI x0_lo, vI x0_hi], .agg #[vI x1_lo, vI x1_hi]] w fun e w' => ∃ v, e = .returned v ∧ (∃ h', Zone.le h h' ∧ v = .tuple #[.agg #[vI r.1, vI r.2.1], vI r.2.2] ∧ St h' L w') := by
 refine calls_intro (N := 11) Try.func37 (by kernel_rfl) fun a hf => ?_
 refine w_sr (by kernel_rfl) ?_
 refine p_box (i := 0) (d := (some 2)) (cs := [vI x0_lo, vI x0_hi]) (T := 41) (v := fun b1 => pB b1 0) hS hf (fun b => by kernel_rfl) fun b1 ww1 a1 hS1 hf1 => ⟨fun _ => trivial, ?_⟩
 refine p_box (i := 1) (d := (some 3)) (cs := [vI x1_lo, vI x1_hi]) (T := 41) (v := fun b2 => pB b2 0) hS1 hf1 (fun b => by kernel_rfl) fun b2 ww2 a2 hS2 hf2 => ⟨fun _ => trivial, ?_⟩
 refine p_box (i := 2) (d := (some 4)) (cs := [vI 0, vI 0]) (T := 41) (v := fun b3 => pB b3 0) hS2 hf2 (fun b => by kernel_rfl) fun b3 ww3 a3 hS3 hf3 => ⟨fun _ => trivial, ?_⟩
 refine p_qt [] [(2, pB b1 0), (3, pB b2 0), (4, pB b3 0)] [] hf3 (by kernel_rfl) .nil fun a4 hf4 => ?_
 refine w_sr (by kernel_rfl) ?_
 refine p_qn 2 [vI x0_lo, vI x0_hi, vI x1_lo, vI x1_hi] [(4, pB b3 0), (6, .agg #[vI x0_lo, vI x0_hi]), (7, .agg #[vI x1_lo, vI x1_hi])] [.cell ⟨b1, 0, none⟩ (vI x0_lo), .cell ⟨b1, 1, none⟩ (vI x0_hi), .cell ⟨b2, 0, none⟩ (vI x1_lo), .cell ⟨b2, 1, none⟩ (vI x1_hi)] hf4 (by kernel_rfl) (.cell (hS3.box (i := 2) rfl (j := 0) rfl) (.cell (hS3.box (i := 2) rfl (j := 1) rfl) (.cell (hS3.box (i := 1) rfl (j := 0) rfl) (.cell (hS3.box (i := 1) rfl (j := 1) rfl) .nil)))) fun a5 hf5 => ?_
 refine p_call (i := 2) (d := some 8) (f := 101) (args := #[.agg #[vI x0_lo, vI x0_hi], .agg #[vI x1_lo, vI x1_hi], .func (.func 102) #[] #[]]) hf5 (by kernel_rfl) (Φ := fun v w => ∃ z1 : Zone, ∃ y1 : Int, ∃ y2 : Int, ∃ y3 : Int, Zone.le h z1 ∧ v = .tuple #[.agg #[vI y1, vI y2], vI y3] ∧ St z1 (box b3 [vI 0, vI 0] 41 :: box b2 [vI x1_lo, vI x1_hi] 41 :: box b1 [vI x0_lo, vI x0_hi] 41 :: L) w ∧ (F37_j1 y1 y2 y3) = some r) ?_ ?_
 ·refine calls_intro (N := 46) Try.func101 (by kernel_rfl) fun a6 hf6 => ?_
  refine w_sr (by kernel_rfl) ?_
  refine p_box (i := 0) (d := (some 3)) (cs := [vI x0_lo, vI x0_hi]) (T := 41) (v := fun b4 => pB b4 0) hS3 hf6 (fun b => by kernel_rfl) fun b4 ww4 a7 hS4 hf7 => ⟨fun _ => trivial, ?_⟩
  refine p_box (i := 1) (d := (some 4)) (cs := [vI x1_lo, vI x1_hi]) (T := 41) (v := fun b5 => pB b5 0) hS4 hf7 (fun b => by kernel_rfl) fun b5 ww5 a8 hS5 hf8 => ⟨fun _ => trivial, ?_⟩
  refine p_box (i := 2) (d := (some 6)) (cs := [vI 0, vI 0]) (T := 41) (v := fun b6 => pB b6 0) hS5 hf8 (fun b => by kernel_rfl) fun b6 ww6 a9 hS6 hf9 => ⟨fun _ => trivial, ?_⟩
  refine p_qt [] [(2, .func (.func 102) #[] #[]), (3, pB b4 0), (4, pB b5 0), (6, pB b6 0)] [] hf9 (by kernel_rfl) .nil fun a10 hf10 => ?_
  refine w_seq (by kernel_rfl) ?_
  refine w_sr (by kernel_rfl) ?_
  refine p_qn 2 [vI x0_lo, vI x0_hi, vI x1_lo, vI x1_hi] [(2, .func (.func 102) #[] #[]), (3, pB b4 0), (4, pB b5 0), (6, pB b6 0), (14, .agg #[vI x0_lo, vI x0_hi]), (15, .agg #[vI x1_lo, vI x1_hi])] [.cell ⟨b4, 0, none⟩ (vI x0_lo), .cell ⟨b4, 1, none⟩ (vI x0_hi), .cell ⟨b5, 0, none⟩ (vI x1_lo), .cell ⟨b5, 1, none⟩ (vI x1_hi)] hf10 (by kernel_rfl) (.cell (hS6.box (i := 2) rfl (j := 0) rfl) (.cell (hS6.box (i := 2) rfl (j := 1) rfl) (.cell (hS6.box (i := 1) rfl (j := 0) rfl) (.cell (hS6.box (i := 1) rfl (j := 1) rfl) .nil)))) fun a11 hf11 => ?_
  obtain ⟨r2, hd1, hr1⟩ := bind_some hr
  refine p_call (i := 2) (d := some 16) (f := 106) (args := #[.agg #[vI x0_lo, vI x0_hi], .agg #[vI x1_lo, vI x1_hi]]) hf11 (by kernel_rfl) (f106_ok fuel x0_lo x0_hi x1_lo x1_hi r2 hd1 h _ _ hS6 ) ?_
  rintro v1 ww7 a12 ⟨z2, k3, rfl, hS7⟩ hf12
  refine ⟨fun _ => trivial, ?_⟩
  refine p_qt [] [(2, .func (.func 102) #[] #[]), (3, pB b4 0), (4, pB b5 0), (6, pB b6 0), (8, vI r2)] [] hf12 (by kernel_rfl) .nil fun a13 hf13 => ?_
  refine w_sq [] [(2, .func (.func 102) #[] #[]), (3, pB b4 0), (4, pB b5 0), (6, pB b6 0), (8, vI r2), (18, .bool (r2 != (0 : Int)))] [] hf13 (by kernel_rfl) .nil fun a14 hf14 => ?_
  refine w_if hf14 (b := (r2 != (0 : Int))) (by kernel_rfl) (fun hb1 => ?_) (fun hb1 => ?_)
  ·have hr2 := cond_t hb1 hr1
   refine w_sr (by kernel_rfl) ?_
   refine p_qn 2 [] [(6, pB b6 0), (19, .agg #[vI 0, vI 0]), (20, vI r2)] [] hf14 (by kernel_rfl) .nil fun a15 hf15 => ?_
   refine p_store_eq (i := 2) (j := 0) (b := b6) (off := 0) (vs := [vI 0, vI 0]) (cs' := [vI 0, vI 0]) hS7 hf15 rfl (by kernel_rfl) (by kernel_rfl) rfl fun ww8 a16 hS8 hf16 => ⟨fun _ => trivial, ?_⟩
   refine p_qt [] [(6, pB b6 0), (7, vI r2)] [] hf16 (by kernel_rfl) .nil fun a17 hf17 => ?_
   refine w_ret (by kernel_rfl) ?_
   refine r_then ?_
   refine p_ret (os := [vI 0, vI 0]) (v := .tuple #[.agg #[vI 0, vI 0], vI r2]) (obs := [.cell ⟨b6, 0, none⟩ (vI 0), .cell ⟨b6, 1, none⟩ (vI 0)]) hf17 (by kernel_rfl) (.cell (hS8.box (i := 0) rfl (j := 0) rfl) (.cell (hS8.box (i := 0) rfl (j := 1) rfl) .nil)) ?_
   exact ⟨_, rfl, z2, 0, 0, r2, k3, rfl, (St.drop 3 hS8), hr2⟩
  ·have hr3 := cond_f hb1 hr1
   refine w_skip (by kernel_rfl) ?_
   refine n_then ?_
   refine w_sr (by kernel_rfl) ?_
   refine p_box (i := 0) (d := (some 9)) (cs := [vI 0, vI 0, .bool false, .bool false]) (T := 100) (v := fun b7 => pB b7 0) hS7 hf14 (fun b => by kernel_rfl) fun b7 ww9 a18 hS9 hf18 => ⟨fun _ => trivial, ?_⟩
   refine p_dt (by kernel_rfl) ?_
   refine w_seq (by kernel_rfl) ?_
   refine w_sq [vI x0_lo, vI x0_hi] [(2, .func (.func 102) #[] #[]), (4, pB b5 0), (6, pB b6 0), (9, pB b7 0), (25, .agg #[vI x0_lo, vI x0_hi]), (26, vI 0)] [.cell ⟨b4, 0, none⟩ (vI x0_lo), .cell ⟨b4, 1, none⟩ (vI x0_hi)] hf18 (by kernel_rfl) (.cell (hS9.box (i := 3) rfl (j := 0) rfl) (.cell (hS9.box (i := 3) rfl (j := 1) rfl) .nil)) fun a19 hf19 => ?_
   refine w_block (id := 0) (by kernel_rfl) ?_
   have hf20 := Fr.keep (ks := [2, 4, 6, 9, 25, 26]) (r := [(2, .func (.func 102) #[] #[]), (4, pB b5 0), (6, pB b6 0), (9, pB b7 0), (25, .agg #[vI x0_lo, vI x0_hi]), (26, vI 0)]) hf19 (by kernel_rfl)
   refine w_loop (by kernel_rfl) (fun n a w => ∃ z3 : Zone, ∃ y15 : Int, ∃ y16 : Int, ∃ y17 : Bool, ∃ y8 : Int, Zone.le z2 z3 ∧ Fr a 46 [(2, .func (.func 102) #[] #[]), (4, pB b5 0), (6, pB b6 0), (9, pB b7 0), (25, .agg #[vI x0_lo, vI x0_hi]), (26, vI y8)] ∧ St z3 (box b7 [vI y15, vI y16, .bool y17, .bool false] 100 :: box b6 [vI 0, vI 0] 41 :: box b5 [vI x1_lo, vI x1_hi] 41 :: box b4 [vI x0_lo, vI x0_hi] 41 :: box b3 [vI 0, vI 0] 41 :: box b2 [vI x1_lo, vI x1_hi] 41 :: box b1 [vI x0_lo, vI x0_hi] 41 :: L) w ∧ (F37_l1 fuel x0_lo x0_hi x1_lo x1_hi n y15 y16 y17 y8) = some r) fuel ⟨z2, 0, 0, false, 0, (Zone.le_refl _), hf20, hS9, hr3⟩ ?_
   rintro n3 a20 ww10 ⟨z3, y15, y16, y17, y8, k4, hf21, hS10, hr4⟩
   cases n3 with
   | zero => cases hr4
   | succ n2 =>
   refine w_sq [] [(2, .func (.func 102) #[] #[]), (4, pB b5 0), (6, pB b6 0), (9, pB b7 0), (25, .agg #[vI x0_lo, vI x0_hi]), (26, vI y8), (27, .bool (decide (y8 < (2 : Int))))] [] hf21 (by kernel_rfl) .nil fun a21 hf22 => ?_
   refine w_seq (by kernel_rfl) ?_
   refine w_if hf22 (b := (decide (y8 < (2 : Int)))) (by kernel_rfl) (fun hb2 => ?_) (fun hb2 => ?_)
   ·have hr5 := cond_t hb2 hr4
    refine w_skip (by kernel_rfl) ?_
    refine n_then ?_
    refine w_seq (by kernel_rfl) ?_
    refine w_block (id := 1) (by kernel_rfl) ?_
    obtain ⟨p1, hp53857, hr6⟩ := bind_some hr5
    obtain ⟨hb3, hk1⟩ := getI_idx (f := Value.int .i64) (n := 2) rfl hp53857
    refine w_sq [vI p1] [(2, .func (.func 102) #[] #[]), (4, pB b5 0), (6, pB b6 0), (9, pB b7 0), (11, vI p1), (25, .agg #[vI x0_lo, vI x0_hi]), (26, vI y8)] [.prop (0 ≤ y8 ∧ y8 < (2 : Nat)), .prop ((#[vI x0_lo, vI x0_hi] : Array Value)[Int.toNat y8 * 1]? = some (vI p1))] hf22 (by kernel_rfl) (.prop hb3 (.prop hk1 .nil)) fun a22 hf23 => ?_
    refine w_sq [vI x1_lo, vI x1_hi] [(2, .func (.func 102) #[] #[]), (4, pB b5 0), (6, pB b6 0), (9, pB b7 0), (11, vI p1), (25, .agg #[vI x0_lo, vI x0_hi]), (26, vI y8), (33, .agg #[vI x1_lo, vI x1_hi]), (34, vI 0)] [.cell ⟨b5, 0, none⟩ (vI x1_lo), .cell ⟨b5, 1, none⟩ (vI x1_hi)] hf23 (by kernel_rfl) (.cell (hS10.box (i := 2) rfl (j := 0) rfl) (.cell (hS10.box (i := 2) rfl (j := 1) rfl) .nil)) fun a23 hf24 => ?_
    refine w_block (id := 2) (by kernel_rfl) ?_
    have hf25 := Fr.keep (ks := [2, 4, 6, 9, 11, 25, 26, 33, 34]) (r := [(2, .func (.func 102) #[] #[]), (4, pB b5 0), (6, pB b6 0), (9, pB b7 0), (11, vI p1), (25, .agg #[vI x0_lo, vI x0_hi]), (26, vI y8), (33, .agg #[vI x1_lo, vI x1_hi]), (34, vI 0)]) hf24 (by kernel_rfl)
    refine w_loop (by kernel_rfl) (fun n a w => ∃ z4 : Zone, ∃ y9 : Int, ∃ y10 : Int, ∃ y11 : Bool, ∃ y4 : Int, Zone.le z3 z4 ∧ Fr a 46 [(2, .func (.func 102) #[] #[]), (4, pB b5 0), (6, pB b6 0), (9, pB b7 0), (11, vI p1), (25, .agg #[vI x0_lo, vI x0_hi]), (26, vI y8), (33, .agg #[vI x1_lo, vI x1_hi]), (34, vI y4)] ∧ St z4 (box b7 [vI y9, vI y10, .bool y11, .bool false] 100 :: box b6 [vI 0, vI 0] 41 :: box b5 [vI x1_lo, vI x1_hi] 41 :: box b4 [vI x0_lo, vI x0_hi] 41 :: box b3 [vI 0, vI 0] 41 :: box b2 [vI x1_lo, vI x1_hi] 41 :: box b1 [vI x0_lo, vI x0_hi] 41 :: L) w ∧ (F37_l2 (F37_l1 fuel x0_lo x0_hi x1_lo x1_hi n2) x1_lo x1_hi y8 p1 n y9 y10 y11 y4) = some r) fuel ⟨z3, y15, y16, y17, 0, (Zone.le_refl _), hf25, hS10, hr6⟩ ?_
    rintro n4 a24 ww11 ⟨z4, y9, y10, y11, y4, k5, hf26, hS11, hr7⟩
    cases n4 with
    | zero => cases hr7
    | succ n1 =>
    refine w_sq [] [(2, .func (.func 102) #[] #[]), (4, pB b5 0), (6, pB b6 0), (9, pB b7 0), (11, vI p1), (25, .agg #[vI x0_lo, vI x0_hi]), (26, vI y8), (33, .agg #[vI x1_lo, vI x1_hi]), (34, vI y4), (35, .bool (decide (y4 < (2 : Int))))] [] hf26 (by kernel_rfl) .nil fun a25 hf27 => ?_
    refine w_seq (by kernel_rfl) ?_
    refine w_if hf27 (b := (decide (y4 < (2 : Int)))) (by kernel_rfl) (fun hb4 => ?_) (fun hb4 => ?_)
    ·have hr8 := cond_t hb4 hr7
     refine w_skip (by kernel_rfl) ?_
     refine n_then ?_
     refine w_seq (by kernel_rfl) ?_
     refine w_block (id := 3) (by kernel_rfl) ?_
     obtain ⟨p2, hp55442, hr9⟩ := bind_some hr8
     obtain ⟨hb5, hk2⟩ := getI_idx (f := Value.int .i64) (n := 2) rfl hp55442
     refine w_sq [vI p2] [(2, .func (.func 102) #[] #[]), (4, pB b5 0), (6, pB b6 0), (9, pB b7 0), (11, vI p1), (13, vI p2), (25, .agg #[vI x0_lo, vI x0_hi]), (26, vI y8), (33, .agg #[vI x1_lo, vI x1_hi]), (34, vI y4)] [.prop (0 ≤ y4 ∧ y4 < (2 : Nat)), .prop ((#[vI x1_lo, vI x1_hi] : Array Value)[Int.toNat y4 * 1]? = some (vI p2))] hf27 (by kernel_rfl) (.prop hb5 (.prop hk2 .nil)) fun a26 hf28 => ?_
     refine w_reg (by kernel_rfl) ?_
     refine p_qn 3 [] [(2, .func (.func 102) #[] #[]), (4, pB b5 0), (6, pB b6 0), (9, pB b7 0), (11, vI p1), (25, .agg #[vI x0_lo, vI x0_hi]), (26, vI y8), (33, .agg #[vI x1_lo, vI x1_hi]), (34, vI y4), (37, .func (.func 102) #[] #[]), (38, vI p1), (39, vI p2)] [] hf28 (by kernel_rfl) .nil fun a27 hf29 => ?_
     refine p_inl (i := 3) (d := some 40) (f := 102) (args := #[pB b7 0, vI p1, vI p2]) (N' := 11) hf29 (by kernel_rfl) Try.func102 (by kernel_rfl) fun a28 hf30 => ?_
     refine w_reg (by kernel_rfl) ?_
     refine p_qn 4 [] [(6, pB b7 0), (9, vI (w64 (p1 + p2)))] [] hf30 (by kernel_rfl) .nil fun a29 hf31 => ?_
     refine p_inl (i := 4) (d := some 10) (f := 89) (args := #[pB b7 0, vI (w64 (p1 + p2))]) (N' := 36) hf31 (by kernel_rfl) Try.func89 (by kernel_rfl) fun a30 hf32 => ?_
     refine w_mid (by kernel_rfl) (fun a w => ∃ z5 : Zone, ∃ y5 : Int, ∃ y6 : Int, ∃ y7 : Bool, Zone.le z4 z5 ∧ Fr a 36 [(0, pB b7 0), (1, vI (w64 (p1 + p2)))] ∧ St z5 (box b7 [vI y5, vI y6, .bool y7, .bool false] 100 :: box b6 [vI 0, vI 0] 41 :: box b5 [vI x1_lo, vI x1_hi] 41 :: box b4 [vI x0_lo, vI x0_hi] 41 :: box b3 [vI 0, vI 0] 41 :: box b2 [vI x1_lo, vI x1_hi] 41 :: box b1 [vI x0_lo, vI x0_hi] 41 :: L) w ∧ (F37_j2 (F37_l2 (F37_l1 fuel x0_lo x0_hi x1_lo x1_hi n2) x1_lo x1_hi y8 p1 n1) p1 y4 p2 y5 y6 y7) = some r) ?_ ?_
     ·skip
      refine w_sq [.bool y11] [(0, pB b7 0), (1, vI (w64 (p1 + p2))), (8, .bool (!y11))] [.cell ⟨b7, 2, none⟩ (.bool y11)] hf32 (by kernel_rfl) (.cell (hS11.box (i := 0) rfl (j := 2) rfl) .nil) fun a31 hf33 => ?_
      refine w_if hf33 (b := (!y11)) (by kernel_rfl) (fun hb6 => ?_) (fun hb6 => ?_)
      ·have hr10 := cond_t hb6 hr9
       refine w_reg (by kernel_rfl) ?_
       refine p_qn 7 [] [(0, pB b7 0), (1, vI (w64 (p1 + p2))), (10, pB b7 0), (13, .agg #[vI (w64 (p1 + p2)), vI (w64 (p1 + p2))]), (15, pB b7 0)] [] hf33 (by kernel_rfl) .nil fun a32 hf34 => ?_
       refine p_store_eq (i := 7) (j := 0) (b := b7) (off := 0) (vs := [vI (w64 (p1 + p2)), vI (w64 (p1 + p2))]) (cs' := [vI (w64 (p1 + p2)), vI (w64 (p1 + p2)), .bool y11, .bool false]) hS11 hf34 rfl (by kernel_rfl) (by kernel_rfl) rfl fun ww12 a33 hS12 hf35 => ⟨fun _ => trivial, ?_⟩
       refine p_qn 2 [] [(0, pB b7 0), (1, vI (w64 (p1 + p2))), (17, pB b7 2)] [] hf35 (by kernel_rfl) .nil fun a34 hf36 => ?_
       refine p_store_eq (i := 10) (j := 0) (b := b7) (off := 2) (vs := [.bool true]) (cs' := [vI (w64 (p1 + p2)), vI (w64 (p1 + p2)), .bool true, .bool false]) hS12 hf36 rfl (by kernel_rfl) (by kernel_rfl) rfl fun ww13 a35 hS13 hf37 => ⟨fun _ => trivial, ?_⟩
       refine p_dt (by kernel_rfl) ?_
       have hf38 := Fr.keep (ks := [0, 1]) (r := [(0, pB b7 0), (1, vI (w64 (p1 + p2)))]) hf37 (by kernel_rfl)
       exact ⟨z4, (w64 (p1 + p2)), (w64 (p1 + p2)), true, (Zone.le_refl _), hf38, hS13, hr10⟩
      ·have hr11 := cond_f hb6 hr9
       refine w_skip (by kernel_rfl) ?_
       refine n_then ?_
       have hf39 := Fr.keep (ks := [0, 1]) (r := [(0, pB b7 0), (1, vI (w64 (p1 + p2)))]) hf33 (by kernel_rfl)
       exact ⟨z4, y9, y10, y11, (Zone.le_refl _), hf39, hS11, hr11⟩
     ·rintro a36 ww14 ⟨z5, y5, y6, y7, k6, hf40, hS14, hr12⟩
      have hS15 := hS14.drew
      refine w_regD (by kernel_rfl) [(0, true), (1, true), (2, true), (3, true), (4, true), (5, true), (6, true), (7, true), (8, true), (9, true), (10, true), (11, true), (12, true), (13, true), (14, true), (15, true), (16, true), (17, true), (18, false)] [18] (fun x => x = ww14.drew) (by kernel_rfl) rfl ?_
      refine p_qE 18 [vI y5, vI y6] [(33, .agg #[vI (if (w64 (p1 + p2)) < y5 then (w64 (p1 + p2)) else y5), vI (if (w64 (p1 + p2)) > y6 then (w64 (p1 + p2)) else y6)]), (35, pB b7 0)] [.cell ⟨b7, 0, none⟩ (vI y5), .cell ⟨b7, 1, none⟩ (vI y6)] [] hf40 (by kernel_rfl) (.cell (hS15.box (i := 0) rfl (j := 0) rfl) (.cell (hS15.box (i := 0) rfl (j := 1) rfl) .nil)) .nil fun a37 hf41 => ?_
      refine p_store_eq (i := 18) (j := 0) (b := b7) (off := 0) (vs := [vI (if (w64 (p1 + p2)) < y5 then (w64 (p1 + p2)) else y5), vI (if (w64 (p1 + p2)) > y6 then (w64 (p1 + p2)) else y6)]) (cs' := [vI (if (w64 (p1 + p2)) < y5 then (w64 (p1 + p2)) else y5), vI (if (w64 (p1 + p2)) > y6 then (w64 (p1 + p2)) else y6), .bool y7, .bool false]) hS15 hf41 rfl (by kernel_rfl) (by kernel_rfl) rfl fun ww15 a38 hS16 hf42 => ⟨fun e => absurd e (by decide), ?_⟩
      refine p_done (by kernel_rfl) ?_
      refine p_fall (os := []) (v := .tuple #[]) (obs := []) hf42 (by kernel_rfl) .nil ?_
      refine ⟨_, rfl, fun a39 hf43 => ?_⟩
      refine ⟨fun _ => trivial, ?_⟩
      refine p_done (by kernel_rfl) ?_
      refine p_fall (os := []) (v := .tuple #[]) (obs := []) hf43 (by kernel_rfl) .nil ?_
      refine ⟨_, rfl, fun a40 hf44 => ?_⟩
      refine ⟨fun _ => trivial, ?_⟩
      refine p_done (by kernel_rfl) ?_
      refine n_block ?_
      refine n_then ?_
      refine w_q [] [(2, .func (.func 102) #[] #[]), (4, pB b5 0), (6, pB b6 0), (9, pB b7 0), (11, vI p1), (25, .agg #[vI x0_lo, vI x0_hi]), (26, vI y8), (33, .agg #[vI x1_lo, vI x1_hi]), (34, vI (w64 (y4 + (1 : Int))))] [] hf44 (by kernel_rfl) .nil fun a41 hf45 => ?_
      refine n_then ?_
      have hf46 := Fr.keep (ks := [2, 4, 6, 9, 11, 25, 26, 33, 34]) (r := [(2, .func (.func 102) #[] #[]), (4, pB b5 0), (6, pB b6 0), (9, pB b7 0), (11, vI p1), (25, .agg #[vI x0_lo, vI x0_hi]), (26, vI y8), (33, .agg #[vI x1_lo, vI x1_hi]), (34, vI (w64 (y4 + (1 : Int))))]) hf45 (by kernel_rfl)
      exact ⟨n1, Nat.lt_succ_self n1, z5, (if (w64 (p1 + p2)) < y5 then (w64 (p1 + p2)) else y5), (if (w64 (p1 + p2)) > y6 then (w64 (p1 + p2)) else y6), y7, (w64 (y4 + (1 : Int))), (Zone.le_trans k5 k6), hf46, hS16, hr12⟩
    ·have hr13 := cond_f hb4 hr7
     refine w_exit (id := 2) (by kernel_rfl) ?_
     refine x_then ?_
     refine x_then ?_
     refine x_block ?_
     refine n_block ?_
     refine n_then ?_
     refine w_q [] [(2, .func (.func 102) #[] #[]), (4, pB b5 0), (6, pB b6 0), (9, pB b7 0), (25, .agg #[vI x0_lo, vI x0_hi]), (26, vI (w64 (y8 + (1 : Int))))] [] hf27 (by kernel_rfl) .nil fun a42 hf47 => ?_
     refine n_then ?_
     have hf48 := Fr.keep (ks := [2, 4, 6, 9, 25, 26]) (r := [(2, .func (.func 102) #[] #[]), (4, pB b5 0), (6, pB b6 0), (9, pB b7 0), (25, .agg #[vI x0_lo, vI x0_hi]), (26, vI (w64 (y8 + (1 : Int))))]) hf47 (by kernel_rfl)
     exact ⟨n2, Nat.lt_succ_self n2, z4, y9, y10, y11, (w64 (y8 + (1 : Int))), (Zone.le_trans k4 k5), hf48, hS11, hr13⟩
   ·have hr14 := cond_f hb2 hr4
    refine w_exit (id := 0) (by kernel_rfl) ?_
    refine x_then ?_
    refine x_then ?_
    refine x_block ?_
    refine n_then ?_
    refine w_sr (by kernel_rfl) ?_
    refine p_call (i := 0) (d := some 43) (f := 105) (args := #[pB b7 0]) hf22 (by kernel_rfl) (Φ := fun v w => ∃ z6 : Zone, ∃ y12 : Int, ∃ y13 : Int, ∃ y14 : Int, Zone.le z3 z6 ∧ v = .tuple #[.agg #[vI y12, vI y13], vI y14] ∧ St z6 (box b7 [vI y15, vI y16, .bool y17, .bool false] 100 :: box b6 [vI 0, vI 0] 41 :: box b5 [vI x1_lo, vI x1_hi] 41 :: box b4 [vI x0_lo, vI x0_hi] 41 :: box b3 [vI 0, vI 0] 41 :: box b2 [vI x1_lo, vI x1_hi] 41 :: box b1 [vI x0_lo, vI x0_hi] 41 :: L) w ∧ (F37_j3 y12 y13 y14) = some r) ?_ ?_
    ·refine calls_intro (N := 21) Try.func105 (by kernel_rfl) fun a43 hf49 => ?_
     refine w_sr (by kernel_rfl) ?_
     refine p_box (i := 0) (d := (some 2)) (cs := [vI 0, vI 0]) (T := 41) (v := fun b8 => pB b8 0) hS10 hf49 (fun b => by kernel_rfl) fun b8 ww16 a44 hS17 hf50 => ⟨fun _ => trivial, ?_⟩
     refine p_qt [] [(0, pB b7 0), (2, pB b8 0)] [] hf50 (by kernel_rfl) .nil fun a45 hf51 => ?_
     refine w_seq (by kernel_rfl) ?_
     refine w_sr (by kernel_rfl) ?_
     refine p_qn 9 [.bool false, vI y15, vI y16] [(0, pB b7 0), (2, pB b8 0), (8, .bool false), (12, .agg #[vI y15, vI y16])] [.cell ⟨b7, 3, none⟩ (.bool false), .cell ⟨b7, 0, none⟩ (vI y15), .cell ⟨b7, 1, none⟩ (vI y16)] hf51 (by kernel_rfl) (.cell (hS17.box (i := 1) rfl (j := 3) rfl) (.cell (hS17.box (i := 1) rfl (j := 0) rfl) (.cell (hS17.box (i := 1) rfl (j := 1) rfl) .nil))) fun a46 hf52 => ?_
     obtain ⟨r1, hd2, hr15⟩ := bind_some hr14
     refine p_call (i := 9) (d := some 13) (f := 52) (args := #[.agg #[vI y15, vI y16]]) hf52 (by kernel_rfl) (f52_ok fuel y15 y16 r1 hd2 z3 _ _ hS17 ) ?_
     rintro v2 ww17 a47 ⟨z7, k7, rfl, hS18⟩ hf53
     refine ⟨fun _ => trivial, ?_⟩
     refine p_qt [] [(0, pB b7 0), (2, pB b8 0), (15, .bool (r1 != (0 : Int)))] [] hf53 (by kernel_rfl) .nil fun a48 hf54 => ?_
     refine w_if hf54 (b := (r1 != (0 : Int))) (by kernel_rfl) (fun hb7 => ?_) (fun hb7 => ?_)
     ·have hr16 := cond_t hb7 hr15
      refine w_sr (by kernel_rfl) ?_
      refine p_qn 1 [] [(2, pB b8 0), (16, .agg #[vI 0, vI 0])] [] hf54 (by kernel_rfl) .nil fun a49 hf55 => ?_
      refine p_store_eq (i := 1) (j := 0) (b := b8) (off := 0) (vs := [vI 0, vI 0]) (cs' := [vI 0, vI 0]) hS18 hf55 rfl (by kernel_rfl) (by kernel_rfl) rfl fun ww18 a50 hS19 hf56 => ⟨fun _ => trivial, ?_⟩
      refine p_qt [] [(2, pB b8 0), (3, vI 5)] [] hf56 (by kernel_rfl) .nil fun a51 hf57 => ?_
      refine w_ret (by kernel_rfl) ?_
      refine r_then ?_
      refine p_ret (os := [vI 0, vI 0]) (v := .tuple #[.agg #[vI 0, vI 0], vI 5]) (obs := [.cell ⟨b8, 0, none⟩ (vI 0), .cell ⟨b8, 1, none⟩ (vI 0)]) hf57 (by kernel_rfl) (.cell (hS19.box (i := 0) rfl (j := 0) rfl) (.cell (hS19.box (i := 0) rfl (j := 1) rfl) .nil)) ?_
      exact ⟨_, rfl, z7, 0, 0, 5, k7, rfl, (St.drop 1 hS19), hr16⟩
     ·have hr17 := cond_f hb7 hr15
      refine w_skip (by kernel_rfl) ?_
      refine n_then ?_
      refine w_sr (by kernel_rfl) ?_
      refine p_qn 4 [vI y15, vI y16] [(2, pB b8 0), (20, .agg #[vI y15, vI y16])] [.cell ⟨b7, 0, none⟩ (vI y15), .cell ⟨b7, 1, none⟩ (vI y16)] hf54 (by kernel_rfl) (.cell (hS18.box (i := 1) rfl (j := 0) rfl) (.cell (hS18.box (i := 1) rfl (j := 1) rfl) .nil)) fun a52 hf58 => ?_
      refine p_store_eq (i := 4) (j := 0) (b := b8) (off := 0) (vs := [vI y15, vI y16]) (cs' := [vI y15, vI y16]) hS18 hf58 rfl (by kernel_rfl) (by kernel_rfl) rfl fun ww19 a53 hS20 hf59 => ⟨fun _ => trivial, ?_⟩
      refine p_qt [] [(2, pB b8 0), (3, vI 0)] [] hf59 (by kernel_rfl) .nil fun a54 hf60 => ?_
      refine w_ret (by kernel_rfl) ?_
      refine p_ret (os := [vI y15, vI y16]) (v := .tuple #[.agg #[vI y15, vI y16], vI 0]) (obs := [.cell ⟨b8, 0, none⟩ (vI y15), .cell ⟨b8, 1, none⟩ (vI y16)]) hf60 (by kernel_rfl) (.cell (hS20.box (i := 0) rfl (j := 0) rfl) (.cell (hS20.box (i := 0) rfl (j := 1) rfl) .nil)) ?_
      exact ⟨_, rfl, z7, y15, y16, 0, k7, rfl, (St.drop 1 hS20), hr17⟩
    ·rintro v3 ww20 a55 ⟨z6, y12, y13, y14, k8, rfl, hS21, hr18⟩ hf61
     refine ⟨fun _ => trivial, ?_⟩
     refine p_qn 2 [] [(6, pB b6 0), (44, .agg #[vI y12, vI y13]), (45, vI y14)] [] hf61 (by kernel_rfl) .nil fun a56 hf62 => ?_
     refine p_store_eq (i := 3) (j := 1) (b := b6) (off := 0) (vs := [vI y12, vI y13]) (cs' := [vI y12, vI y13]) hS21 hf62 rfl (by kernel_rfl) (by kernel_rfl) rfl fun ww21 a57 hS22 hf63 => ⟨fun _ => trivial, ?_⟩
     refine p_qt [] [(6, pB b6 0), (7, vI y14)] [] hf63 (by kernel_rfl) .nil fun a58 hf64 => ?_
     refine w_ret (by kernel_rfl) ?_
     refine p_ret (os := [vI y12, vI y13]) (v := .tuple #[.agg #[vI y12, vI y13], vI y14]) (obs := [.cell ⟨b6, 0, none⟩ (vI y12), .cell ⟨b6, 1, none⟩ (vI y13)]) hf64 (by kernel_rfl) (.cell (hS22.box (i := 1) rfl (j := 0) rfl) (.cell (hS22.box (i := 1) rfl (j := 1) rfl) .nil)) ?_
     exact ⟨_, rfl, z6, y12, y13, y14, (Zone.le_trans (Zone.le_trans k3 k4) k8), rfl, (St.drop 4 hS22), hr18⟩
 ·rintro v4 ww22 a59 ⟨z1, y1, y2, y3, k9, rfl, hS23, hr19⟩ hf65
  refine ⟨fun _ => trivial, ?_⟩
  refine p_qn 2 [] [(4, pB b3 0), (9, .agg #[vI y1, vI y2]), (10, vI y3)] [] hf65 (by kernel_rfl) .nil fun a60 hf66 => ?_
  refine p_store_eq (i := 5) (j := 0) (b := b3) (off := 0) (vs := [vI y1, vI y2]) (cs' := [vI y1, vI y2]) hS23 hf66 rfl (by kernel_rfl) (by kernel_rfl) rfl fun ww23 a61 hS24 hf67 => ⟨fun _ => trivial, ?_⟩
  refine p_qt [] [(4, pB b3 0), (5, vI y3)] [] hf67 (by kernel_rfl) .nil fun a62 hf68 => ?_
  refine w_ret (by kernel_rfl) ?_
  refine p_ret (os := [vI y1, vI y2]) (v := .tuple #[.agg #[vI y1, vI y2], vI y3]) (obs := [.cell ⟨b3, 0, none⟩ (vI y1), .cell ⟨b3, 1, none⟩ (vI y2)]) hf68 (by kernel_rfl) (.cell (hS24.box (i := 0) rfl (j := 0) rfl) (.cell (hS24.box (i := 0) rfl (j := 1) rfl) .nil)) ?_
  obtain rfl := some_eq hr19
  exact ⟨_, rfl, z1, k9, rfl, (St.drop 3 hS24)⟩
def F38_j1 (y1 : Int) (y2 : Int) (y3 : Int) : Option (Int × Int × Int) :=
  (some (y1, y2, y3))
def F38_j2 (k1 : Int → Int → Bool → Int → Option (Int × Int × Int)) (p1 : Int) (y4 : Int) (p2 : Int) (y5 : Int) (y6 : Int) (y7 : Bool) : Option (Int × Int × Int) :=
  (k1 (if (w64 (p1 - p2)) < y5 then (w64 (p1 - p2)) else y5) (if (w64 (p1 - p2)) > y6 then (w64 (p1 - p2)) else y6) y7 (w64 (y4 + (1 : Int))))
def F38_l2 (k2 : Int → Int → Bool → Int → Option (Int × Int × Int)) (x1_lo : Int) (x1_hi : Int) (y8 : Int) (p1 : Int) : Nat → Int → Int → Bool → Int → Option (Int × Int × Int)
  | 0, _, _, _, _ => none
  | n1 + 1, y9, y10, y11, y4 =>
    let k1 : Int → Int → Bool → Int → Option (Int × Int × Int) := F38_l2 k2 x1_lo x1_hi y8 p1 n1
    (cond (decide (y4 < (2 : Int))) ((getI ([(x1_lo : Int), (x1_hi : Int)]) y4).bind fun p2 => (cond (!y11) (F38_j2 k1 p1 y4 p2 (w64 (p1 - p2)) (w64 (p1 - p2)) true) (F38_j2 k1 p1 y4 p2 y9 y10 y11))) (k2 y9 y10 y11 (w64 (y8 + (1 : Int)))))
def F38_j3 (y12 : Int) (y13 : Int) (y14 : Int) : Option (Int × Int × Int) :=
  (F38_j1 y12 y13 y14)
def F38_l1 (fuel : Nat) (x0_lo : Int) (x0_hi : Int) (x1_lo : Int) (x1_hi : Int) : Nat → Int → Int → Bool → Int → Option (Int × Int × Int)
  | 0, _, _, _, _ => none
  | n2 + 1, y15, y16, y17, y8 =>
    let k2 : Int → Int → Bool → Int → Option (Int × Int × Int) := F38_l1 fuel x0_lo x0_hi x1_lo x1_hi n2
    (cond (decide (y8 < (2 : Int))) ((getI ([(x0_lo : Int), (x0_hi : Int)]) y8).bind fun p1 => (F38_l2 k2 x1_lo x1_hi y8 p1 fuel y15 y16 y17 0)) ((F52 fuel y15 y16).bind fun r1 => (cond (r1 != (0 : Int)) (F38_j3 0 0 5) (F38_j3 y15 y16 0))))
def F38 (fuel : Nat) (x0_lo : Int) (x0_hi : Int) (x1_lo : Int) (x1_hi : Int) : Option (Int × Int × Int) :=
  ((F106 fuel x0_lo x0_hi x1_lo x1_hi).bind fun r2 => (cond (r2 != (0 : Int)) (F38_j1 0 0 r2) (F38_l1 fuel x0_lo x0_hi x1_lo x1_hi fuel 0 0 false 0)))
set_option maxRecDepth 100000 in
theorem f38_ok (fuel : Nat) (x0_lo : Int) (x0_hi : Int) (x1_lo : Int) (x1_hi : Int) (r : Int × Int × Int) (hr : F38 fuel x0_lo x0_hi x1_lo x1_hi = some r) (h : Zone) (L : List Atom) (w : World) (hS : St h L w)  :
    Calls Try.prog 38 #[.agg #[vI x0_lo, vI x0_hi], .agg #[vI x1_lo, vI x1_hi]] w fun e w' => ∃ v, e = .returned v ∧ (∃ h', Zone.le h h' ∧ v = .tuple #[.agg #[vI r.1, vI r.2.1], vI r.2.2] ∧ St h' L w') := by
 refine calls_intro (N := 11) Try.func38 (by kernel_rfl) fun a hf => ?_
 refine w_sr (by kernel_rfl) ?_
 refine p_box (i := 0) (d := (some 2)) (cs := [vI x0_lo, vI x0_hi]) (T := 41) (v := fun b1 => pB b1 0) hS hf (fun b => by kernel_rfl) fun b1 ww1 a1 hS1 hf1 => ⟨fun _ => trivial, ?_⟩
 refine p_box (i := 1) (d := (some 3)) (cs := [vI x1_lo, vI x1_hi]) (T := 41) (v := fun b2 => pB b2 0) hS1 hf1 (fun b => by kernel_rfl) fun b2 ww2 a2 hS2 hf2 => ⟨fun _ => trivial, ?_⟩
 refine p_box (i := 2) (d := (some 4)) (cs := [vI 0, vI 0]) (T := 41) (v := fun b3 => pB b3 0) hS2 hf2 (fun b => by kernel_rfl) fun b3 ww3 a3 hS3 hf3 => ⟨fun _ => trivial, ?_⟩
 refine p_qt [] [(2, pB b1 0), (3, pB b2 0), (4, pB b3 0)] [] hf3 (by kernel_rfl) .nil fun a4 hf4 => ?_
 refine w_sr (by kernel_rfl) ?_
 refine p_qn 2 [vI x0_lo, vI x0_hi, vI x1_lo, vI x1_hi] [(4, pB b3 0), (6, .agg #[vI x0_lo, vI x0_hi]), (7, .agg #[vI x1_lo, vI x1_hi])] [.cell ⟨b1, 0, none⟩ (vI x0_lo), .cell ⟨b1, 1, none⟩ (vI x0_hi), .cell ⟨b2, 0, none⟩ (vI x1_lo), .cell ⟨b2, 1, none⟩ (vI x1_hi)] hf4 (by kernel_rfl) (.cell (hS3.box (i := 2) rfl (j := 0) rfl) (.cell (hS3.box (i := 2) rfl (j := 1) rfl) (.cell (hS3.box (i := 1) rfl (j := 0) rfl) (.cell (hS3.box (i := 1) rfl (j := 1) rfl) .nil)))) fun a5 hf5 => ?_
 refine p_call (i := 2) (d := some 8) (f := 101) (args := #[.agg #[vI x0_lo, vI x0_hi], .agg #[vI x1_lo, vI x1_hi], .func (.func 103) #[] #[]]) hf5 (by kernel_rfl) (Φ := fun v w => ∃ z1 : Zone, ∃ y1 : Int, ∃ y2 : Int, ∃ y3 : Int, Zone.le h z1 ∧ v = .tuple #[.agg #[vI y1, vI y2], vI y3] ∧ St z1 (box b3 [vI 0, vI 0] 41 :: box b2 [vI x1_lo, vI x1_hi] 41 :: box b1 [vI x0_lo, vI x0_hi] 41 :: L) w ∧ (F38_j1 y1 y2 y3) = some r) ?_ ?_
 ·refine calls_intro (N := 46) Try.func101 (by kernel_rfl) fun a6 hf6 => ?_
  refine w_sr (by kernel_rfl) ?_
  refine p_box (i := 0) (d := (some 3)) (cs := [vI x0_lo, vI x0_hi]) (T := 41) (v := fun b4 => pB b4 0) hS3 hf6 (fun b => by kernel_rfl) fun b4 ww4 a7 hS4 hf7 => ⟨fun _ => trivial, ?_⟩
  refine p_box (i := 1) (d := (some 4)) (cs := [vI x1_lo, vI x1_hi]) (T := 41) (v := fun b5 => pB b5 0) hS4 hf7 (fun b => by kernel_rfl) fun b5 ww5 a8 hS5 hf8 => ⟨fun _ => trivial, ?_⟩
  refine p_box (i := 2) (d := (some 6)) (cs := [vI 0, vI 0]) (T := 41) (v := fun b6 => pB b6 0) hS5 hf8 (fun b => by kernel_rfl) fun b6 ww6 a9 hS6 hf9 => ⟨fun _ => trivial, ?_⟩
  refine p_qt [] [(2, .func (.func 103) #[] #[]), (3, pB b4 0), (4, pB b5 0), (6, pB b6 0)] [] hf9 (by kernel_rfl) .nil fun a10 hf10 => ?_
  refine w_seq (by kernel_rfl) ?_
  refine w_sr (by kernel_rfl) ?_
  refine p_qn 2 [vI x0_lo, vI x0_hi, vI x1_lo, vI x1_hi] [(2, .func (.func 103) #[] #[]), (3, pB b4 0), (4, pB b5 0), (6, pB b6 0), (14, .agg #[vI x0_lo, vI x0_hi]), (15, .agg #[vI x1_lo, vI x1_hi])] [.cell ⟨b4, 0, none⟩ (vI x0_lo), .cell ⟨b4, 1, none⟩ (vI x0_hi), .cell ⟨b5, 0, none⟩ (vI x1_lo), .cell ⟨b5, 1, none⟩ (vI x1_hi)] hf10 (by kernel_rfl) (.cell (hS6.box (i := 2) rfl (j := 0) rfl) (.cell (hS6.box (i := 2) rfl (j := 1) rfl) (.cell (hS6.box (i := 1) rfl (j := 0) rfl) (.cell (hS6.box (i := 1) rfl (j := 1) rfl) .nil)))) fun a11 hf11 => ?_
  obtain ⟨r2, hd1, hr1⟩ := bind_some hr
  refine p_call (i := 2) (d := some 16) (f := 106) (args := #[.agg #[vI x0_lo, vI x0_hi], .agg #[vI x1_lo, vI x1_hi]]) hf11 (by kernel_rfl) (f106_ok fuel x0_lo x0_hi x1_lo x1_hi r2 hd1 h _ _ hS6 ) ?_
  rintro v1 ww7 a12 ⟨z2, k3, rfl, hS7⟩ hf12
  refine ⟨fun _ => trivial, ?_⟩
  refine p_qt [] [(2, .func (.func 103) #[] #[]), (3, pB b4 0), (4, pB b5 0), (6, pB b6 0), (8, vI r2)] [] hf12 (by kernel_rfl) .nil fun a13 hf13 => ?_
  refine w_sq [] [(2, .func (.func 103) #[] #[]), (3, pB b4 0), (4, pB b5 0), (6, pB b6 0), (8, vI r2), (18, .bool (r2 != (0 : Int)))] [] hf13 (by kernel_rfl) .nil fun a14 hf14 => ?_
  refine w_if hf14 (b := (r2 != (0 : Int))) (by kernel_rfl) (fun hb1 => ?_) (fun hb1 => ?_)
  ·have hr2 := cond_t hb1 hr1
   refine w_sr (by kernel_rfl) ?_
   refine p_qn 2 [] [(6, pB b6 0), (19, .agg #[vI 0, vI 0]), (20, vI r2)] [] hf14 (by kernel_rfl) .nil fun a15 hf15 => ?_
   refine p_store_eq (i := 2) (j := 0) (b := b6) (off := 0) (vs := [vI 0, vI 0]) (cs' := [vI 0, vI 0]) hS7 hf15 rfl (by kernel_rfl) (by kernel_rfl) rfl fun ww8 a16 hS8 hf16 => ⟨fun _ => trivial, ?_⟩
   refine p_qt [] [(6, pB b6 0), (7, vI r2)] [] hf16 (by kernel_rfl) .nil fun a17 hf17 => ?_
   refine w_ret (by kernel_rfl) ?_
   refine r_then ?_
   refine p_ret (os := [vI 0, vI 0]) (v := .tuple #[.agg #[vI 0, vI 0], vI r2]) (obs := [.cell ⟨b6, 0, none⟩ (vI 0), .cell ⟨b6, 1, none⟩ (vI 0)]) hf17 (by kernel_rfl) (.cell (hS8.box (i := 0) rfl (j := 0) rfl) (.cell (hS8.box (i := 0) rfl (j := 1) rfl) .nil)) ?_
   exact ⟨_, rfl, z2, 0, 0, r2, k3, rfl, (St.drop 3 hS8), hr2⟩
  ·have hr3 := cond_f hb1 hr1
   refine w_skip (by kernel_rfl) ?_
   refine n_then ?_
   refine w_sr (by kernel_rfl) ?_
   refine p_box (i := 0) (d := (some 9)) (cs := [vI 0, vI 0, .bool false, .bool false]) (T := 100) (v := fun b7 => pB b7 0) hS7 hf14 (fun b => by kernel_rfl) fun b7 ww9 a18 hS9 hf18 => ⟨fun _ => trivial, ?_⟩
   refine p_dt (by kernel_rfl) ?_
   refine w_seq (by kernel_rfl) ?_
   refine w_sq [vI x0_lo, vI x0_hi] [(2, .func (.func 103) #[] #[]), (4, pB b5 0), (6, pB b6 0), (9, pB b7 0), (25, .agg #[vI x0_lo, vI x0_hi]), (26, vI 0)] [.cell ⟨b4, 0, none⟩ (vI x0_lo), .cell ⟨b4, 1, none⟩ (vI x0_hi)] hf18 (by kernel_rfl) (.cell (hS9.box (i := 3) rfl (j := 0) rfl) (.cell (hS9.box (i := 3) rfl (j := 1) rfl) .nil)) fun a19 hf19 => ?_
   refine w_block (id := 0) (by kernel_rfl) ?_
   have hf20 := Fr.keep (ks := [2, 4, 6, 9, 25, 26]) (r := [(2, .func (.func 103) #[] #[]), (4, pB b5 0), (6, pB b6 0), (9, pB b7 0), (25, .agg #[vI x0_lo, vI x0_hi]), (26, vI 0)]) hf19 (by kernel_rfl)
   refine w_loop (by kernel_rfl) (fun n a w => ∃ z3 : Zone, ∃ y15 : Int, ∃ y16 : Int, ∃ y17 : Bool, ∃ y8 : Int, Zone.le z2 z3 ∧ Fr a 46 [(2, .func (.func 103) #[] #[]), (4, pB b5 0), (6, pB b6 0), (9, pB b7 0), (25, .agg #[vI x0_lo, vI x0_hi]), (26, vI y8)] ∧ St z3 (box b7 [vI y15, vI y16, .bool y17, .bool false] 100 :: box b6 [vI 0, vI 0] 41 :: box b5 [vI x1_lo, vI x1_hi] 41 :: box b4 [vI x0_lo, vI x0_hi] 41 :: box b3 [vI 0, vI 0] 41 :: box b2 [vI x1_lo, vI x1_hi] 41 :: box b1 [vI x0_lo, vI x0_hi] 41 :: L) w ∧ (F38_l1 fuel x0_lo x0_hi x1_lo x1_hi n y15 y16 y17 y8) = some r) fuel ⟨z2, 0, 0, false, 0, (Zone.le_refl _), hf20, hS9, hr3⟩ ?_
   rintro n3 a20 ww10 ⟨z3, y15, y16, y17, y8, k4, hf21, hS10, hr4⟩
   cases n3 with
   | zero => cases hr4
   | succ n2 =>
   refine w_sq [] [(2, .func (.func 103) #[] #[]), (4, pB b5 0), (6, pB b6 0), (9, pB b7 0), (25, .agg #[vI x0_lo, vI x0_hi]), (26, vI y8), (27, .bool (decide (y8 < (2 : Int))))] [] hf21 (by kernel_rfl) .nil fun a21 hf22 => ?_
   refine w_seq (by kernel_rfl) ?_
   refine w_if hf22 (b := (decide (y8 < (2 : Int)))) (by kernel_rfl) (fun hb2 => ?_) (fun hb2 => ?_)
   ·have hr5 := cond_t hb2 hr4
    refine w_skip (by kernel_rfl) ?_
    refine n_then ?_
    refine w_seq (by kernel_rfl) ?_
    refine w_block (id := 1) (by kernel_rfl) ?_
    obtain ⟨p1, hp53857, hr6⟩ := bind_some hr5
    obtain ⟨hb3, hk1⟩ := getI_idx (f := Value.int .i64) (n := 2) rfl hp53857
    refine w_sq [vI p1] [(2, .func (.func 103) #[] #[]), (4, pB b5 0), (6, pB b6 0), (9, pB b7 0), (11, vI p1), (25, .agg #[vI x0_lo, vI x0_hi]), (26, vI y8)] [.prop (0 ≤ y8 ∧ y8 < (2 : Nat)), .prop ((#[vI x0_lo, vI x0_hi] : Array Value)[Int.toNat y8 * 1]? = some (vI p1))] hf22 (by kernel_rfl) (.prop hb3 (.prop hk1 .nil)) fun a22 hf23 => ?_
    refine w_sq [vI x1_lo, vI x1_hi] [(2, .func (.func 103) #[] #[]), (4, pB b5 0), (6, pB b6 0), (9, pB b7 0), (11, vI p1), (25, .agg #[vI x0_lo, vI x0_hi]), (26, vI y8), (33, .agg #[vI x1_lo, vI x1_hi]), (34, vI 0)] [.cell ⟨b5, 0, none⟩ (vI x1_lo), .cell ⟨b5, 1, none⟩ (vI x1_hi)] hf23 (by kernel_rfl) (.cell (hS10.box (i := 2) rfl (j := 0) rfl) (.cell (hS10.box (i := 2) rfl (j := 1) rfl) .nil)) fun a23 hf24 => ?_
    refine w_block (id := 2) (by kernel_rfl) ?_
    have hf25 := Fr.keep (ks := [2, 4, 6, 9, 11, 25, 26, 33, 34]) (r := [(2, .func (.func 103) #[] #[]), (4, pB b5 0), (6, pB b6 0), (9, pB b7 0), (11, vI p1), (25, .agg #[vI x0_lo, vI x0_hi]), (26, vI y8), (33, .agg #[vI x1_lo, vI x1_hi]), (34, vI 0)]) hf24 (by kernel_rfl)
    refine w_loop (by kernel_rfl) (fun n a w => ∃ z4 : Zone, ∃ y9 : Int, ∃ y10 : Int, ∃ y11 : Bool, ∃ y4 : Int, Zone.le z3 z4 ∧ Fr a 46 [(2, .func (.func 103) #[] #[]), (4, pB b5 0), (6, pB b6 0), (9, pB b7 0), (11, vI p1), (25, .agg #[vI x0_lo, vI x0_hi]), (26, vI y8), (33, .agg #[vI x1_lo, vI x1_hi]), (34, vI y4)] ∧ St z4 (box b7 [vI y9, vI y10, .bool y11, .bool false] 100 :: box b6 [vI 0, vI 0] 41 :: box b5 [vI x1_lo, vI x1_hi] 41 :: box b4 [vI x0_lo, vI x0_hi] 41 :: box b3 [vI 0, vI 0] 41 :: box b2 [vI x1_lo, vI x1_hi] 41 :: box b1 [vI x0_lo, vI x0_hi] 41 :: L) w ∧ (F38_l2 (F38_l1 fuel x0_lo x0_hi x1_lo x1_hi n2) x1_lo x1_hi y8 p1 n y9 y10 y11 y4) = some r) fuel ⟨z3, y15, y16, y17, 0, (Zone.le_refl _), hf25, hS10, hr6⟩ ?_
    rintro n4 a24 ww11 ⟨z4, y9, y10, y11, y4, k5, hf26, hS11, hr7⟩
    cases n4 with
    | zero => cases hr7
    | succ n1 =>
    refine w_sq [] [(2, .func (.func 103) #[] #[]), (4, pB b5 0), (6, pB b6 0), (9, pB b7 0), (11, vI p1), (25, .agg #[vI x0_lo, vI x0_hi]), (26, vI y8), (33, .agg #[vI x1_lo, vI x1_hi]), (34, vI y4), (35, .bool (decide (y4 < (2 : Int))))] [] hf26 (by kernel_rfl) .nil fun a25 hf27 => ?_
    refine w_seq (by kernel_rfl) ?_
    refine w_if hf27 (b := (decide (y4 < (2 : Int)))) (by kernel_rfl) (fun hb4 => ?_) (fun hb4 => ?_)
    ·have hr8 := cond_t hb4 hr7
     refine w_skip (by kernel_rfl) ?_
     refine n_then ?_
     refine w_seq (by kernel_rfl) ?_
     refine w_block (id := 3) (by kernel_rfl) ?_
     obtain ⟨p2, hp55442, hr9⟩ := bind_some hr8
     obtain ⟨hb5, hk2⟩ := getI_idx (f := Value.int .i64) (n := 2) rfl hp55442
     refine w_sq [vI p2] [(2, .func (.func 103) #[] #[]), (4, pB b5 0), (6, pB b6 0), (9, pB b7 0), (11, vI p1), (13, vI p2), (25, .agg #[vI x0_lo, vI x0_hi]), (26, vI y8), (33, .agg #[vI x1_lo, vI x1_hi]), (34, vI y4)] [.prop (0 ≤ y4 ∧ y4 < (2 : Nat)), .prop ((#[vI x1_lo, vI x1_hi] : Array Value)[Int.toNat y4 * 1]? = some (vI p2))] hf27 (by kernel_rfl) (.prop hb5 (.prop hk2 .nil)) fun a26 hf28 => ?_
     refine w_reg (by kernel_rfl) ?_
     refine p_qn 3 [] [(2, .func (.func 103) #[] #[]), (4, pB b5 0), (6, pB b6 0), (9, pB b7 0), (11, vI p1), (25, .agg #[vI x0_lo, vI x0_hi]), (26, vI y8), (33, .agg #[vI x1_lo, vI x1_hi]), (34, vI y4), (37, .func (.func 103) #[] #[]), (38, vI p1), (39, vI p2)] [] hf28 (by kernel_rfl) .nil fun a27 hf29 => ?_
     refine p_inl (i := 3) (d := some 40) (f := 103) (args := #[pB b7 0, vI p1, vI p2]) (N' := 11) hf29 (by kernel_rfl) Try.func103 (by kernel_rfl) fun a28 hf30 => ?_
     refine w_reg (by kernel_rfl) ?_
     refine p_qn 4 [] [(6, pB b7 0), (9, vI (w64 (p1 - p2)))] [] hf30 (by kernel_rfl) .nil fun a29 hf31 => ?_
     refine p_inl (i := 4) (d := some 10) (f := 89) (args := #[pB b7 0, vI (w64 (p1 - p2))]) (N' := 36) hf31 (by kernel_rfl) Try.func89 (by kernel_rfl) fun a30 hf32 => ?_
     refine w_mid (by kernel_rfl) (fun a w => ∃ z5 : Zone, ∃ y5 : Int, ∃ y6 : Int, ∃ y7 : Bool, Zone.le z4 z5 ∧ Fr a 36 [(0, pB b7 0), (1, vI (w64 (p1 - p2)))] ∧ St z5 (box b7 [vI y5, vI y6, .bool y7, .bool false] 100 :: box b6 [vI 0, vI 0] 41 :: box b5 [vI x1_lo, vI x1_hi] 41 :: box b4 [vI x0_lo, vI x0_hi] 41 :: box b3 [vI 0, vI 0] 41 :: box b2 [vI x1_lo, vI x1_hi] 41 :: box b1 [vI x0_lo, vI x0_hi] 41 :: L) w ∧ (F38_j2 (F38_l2 (F38_l1 fuel x0_lo x0_hi x1_lo x1_hi n2) x1_lo x1_hi y8 p1 n1) p1 y4 p2 y5 y6 y7) = some r) ?_ ?_
     ·skip
      refine w_sq [.bool y11] [(0, pB b7 0), (1, vI (w64 (p1 - p2))), (8, .bool (!y11))] [.cell ⟨b7, 2, none⟩ (.bool y11)] hf32 (by kernel_rfl) (.cell (hS11.box (i := 0) rfl (j := 2) rfl) .nil) fun a31 hf33 => ?_
      refine w_if hf33 (b := (!y11)) (by kernel_rfl) (fun hb6 => ?_) (fun hb6 => ?_)
      ·have hr10 := cond_t hb6 hr9
       refine w_reg (by kernel_rfl) ?_
       refine p_qn 7 [] [(0, pB b7 0), (1, vI (w64 (p1 - p2))), (10, pB b7 0), (13, .agg #[vI (w64 (p1 - p2)), vI (w64 (p1 - p2))]), (15, pB b7 0)] [] hf33 (by kernel_rfl) .nil fun a32 hf34 => ?_
       refine p_store_eq (i := 7) (j := 0) (b := b7) (off := 0) (vs := [vI (w64 (p1 - p2)), vI (w64 (p1 - p2))]) (cs' := [vI (w64 (p1 - p2)), vI (w64 (p1 - p2)), .bool y11, .bool false]) hS11 hf34 rfl (by kernel_rfl) (by kernel_rfl) rfl fun ww12 a33 hS12 hf35 => ⟨fun _ => trivial, ?_⟩
       refine p_qn 2 [] [(0, pB b7 0), (1, vI (w64 (p1 - p2))), (17, pB b7 2)] [] hf35 (by kernel_rfl) .nil fun a34 hf36 => ?_
       refine p_store_eq (i := 10) (j := 0) (b := b7) (off := 2) (vs := [.bool true]) (cs' := [vI (w64 (p1 - p2)), vI (w64 (p1 - p2)), .bool true, .bool false]) hS12 hf36 rfl (by kernel_rfl) (by kernel_rfl) rfl fun ww13 a35 hS13 hf37 => ⟨fun _ => trivial, ?_⟩
       refine p_dt (by kernel_rfl) ?_
       have hf38 := Fr.keep (ks := [0, 1]) (r := [(0, pB b7 0), (1, vI (w64 (p1 - p2)))]) hf37 (by kernel_rfl)
       exact ⟨z4, (w64 (p1 - p2)), (w64 (p1 - p2)), true, (Zone.le_refl _), hf38, hS13, hr10⟩
      ·have hr11 := cond_f hb6 hr9
       refine w_skip (by kernel_rfl) ?_
       refine n_then ?_
       have hf39 := Fr.keep (ks := [0, 1]) (r := [(0, pB b7 0), (1, vI (w64 (p1 - p2)))]) hf33 (by kernel_rfl)
       exact ⟨z4, y9, y10, y11, (Zone.le_refl _), hf39, hS11, hr11⟩
     ·rintro a36 ww14 ⟨z5, y5, y6, y7, k6, hf40, hS14, hr12⟩
      have hS15 := hS14.drew
      refine w_regD (by kernel_rfl) [(0, true), (1, true), (2, true), (3, true), (4, true), (5, true), (6, true), (7, true), (8, true), (9, true), (10, true), (11, true), (12, true), (13, true), (14, true), (15, true), (16, true), (17, true), (18, false)] [18] (fun x => x = ww14.drew) (by kernel_rfl) rfl ?_
      refine p_qE 18 [vI y5, vI y6] [(33, .agg #[vI (if (w64 (p1 - p2)) < y5 then (w64 (p1 - p2)) else y5), vI (if (w64 (p1 - p2)) > y6 then (w64 (p1 - p2)) else y6)]), (35, pB b7 0)] [.cell ⟨b7, 0, none⟩ (vI y5), .cell ⟨b7, 1, none⟩ (vI y6)] [] hf40 (by kernel_rfl) (.cell (hS15.box (i := 0) rfl (j := 0) rfl) (.cell (hS15.box (i := 0) rfl (j := 1) rfl) .nil)) .nil fun a37 hf41 => ?_
      refine p_store_eq (i := 18) (j := 0) (b := b7) (off := 0) (vs := [vI (if (w64 (p1 - p2)) < y5 then (w64 (p1 - p2)) else y5), vI (if (w64 (p1 - p2)) > y6 then (w64 (p1 - p2)) else y6)]) (cs' := [vI (if (w64 (p1 - p2)) < y5 then (w64 (p1 - p2)) else y5), vI (if (w64 (p1 - p2)) > y6 then (w64 (p1 - p2)) else y6), .bool y7, .bool false]) hS15 hf41 rfl (by kernel_rfl) (by kernel_rfl) rfl fun ww15 a38 hS16 hf42 => ⟨fun e => absurd e (by decide), ?_⟩
      refine p_done (by kernel_rfl) ?_
      refine p_fall (os := []) (v := .tuple #[]) (obs := []) hf42 (by kernel_rfl) .nil ?_
      refine ⟨_, rfl, fun a39 hf43 => ?_⟩
      refine ⟨fun _ => trivial, ?_⟩
      refine p_done (by kernel_rfl) ?_
      refine p_fall (os := []) (v := .tuple #[]) (obs := []) hf43 (by kernel_rfl) .nil ?_
      refine ⟨_, rfl, fun a40 hf44 => ?_⟩
      refine ⟨fun _ => trivial, ?_⟩
      refine p_done (by kernel_rfl) ?_
      refine n_block ?_
      refine n_then ?_
      refine w_q [] [(2, .func (.func 103) #[] #[]), (4, pB b5 0), (6, pB b6 0), (9, pB b7 0), (11, vI p1), (25, .agg #[vI x0_lo, vI x0_hi]), (26, vI y8), (33, .agg #[vI x1_lo, vI x1_hi]), (34, vI (w64 (y4 + (1 : Int))))] [] hf44 (by kernel_rfl) .nil fun a41 hf45 => ?_
      refine n_then ?_
      have hf46 := Fr.keep (ks := [2, 4, 6, 9, 11, 25, 26, 33, 34]) (r := [(2, .func (.func 103) #[] #[]), (4, pB b5 0), (6, pB b6 0), (9, pB b7 0), (11, vI p1), (25, .agg #[vI x0_lo, vI x0_hi]), (26, vI y8), (33, .agg #[vI x1_lo, vI x1_hi]), (34, vI (w64 (y4 + (1 : Int))))]) hf45 (by kernel_rfl)
      exact ⟨n1, Nat.lt_succ_self n1, z5, (if (w64 (p1 - p2)) < y5 then (w64 (p1 - p2)) else y5), (if (w64 (p1 - p2)) > y6 then (w64 (p1 - p2)) else y6), y7, (w64 (y4 + (1 : Int))), (Zone.le_trans k5 k6), hf46, hS16, hr12⟩
    ·have hr13 := cond_f hb4 hr7
     refine w_exit (id := 2) (by kernel_rfl) ?_
     refine x_then ?_
     refine x_then ?_
     refine x_block ?_
     refine n_block ?_
     refine n_then ?_
     refine w_q [] [(2, .func (.func 103) #[] #[]), (4, pB b5 0), (6, pB b6 0), (9, pB b7 0), (25, .agg #[vI x0_lo, vI x0_hi]), (26, vI (w64 (y8 + (1 : Int))))] [] hf27 (by kernel_rfl) .nil fun a42 hf47 => ?_
     refine n_then ?_
     have hf48 := Fr.keep (ks := [2, 4, 6, 9, 25, 26]) (r := [(2, .func (.func 103) #[] #[]), (4, pB b5 0), (6, pB b6 0), (9, pB b7 0), (25, .agg #[vI x0_lo, vI x0_hi]), (26, vI (w64 (y8 + (1 : Int))))]) hf47 (by kernel_rfl)
     exact ⟨n2, Nat.lt_succ_self n2, z4, y9, y10, y11, (w64 (y8 + (1 : Int))), (Zone.le_trans k4 k5), hf48, hS11, hr13⟩
   ·have hr14 := cond_f hb2 hr4
    refine w_exit (id := 0) (by kernel_rfl) ?_
    refine x_then ?_
    refine x_then ?_
    refine x_block ?_
    refine n_then ?_
    refine w_sr (by kernel_rfl) ?_
    refine p_call (i := 0) (d := some 43) (f := 105) (args := #[pB b7 0]) hf22 (by kernel_rfl) (Φ := fun v w => ∃ z6 : Zone, ∃ y12 : Int, ∃ y13 : Int, ∃ y14 : Int, Zone.le z3 z6 ∧ v = .tuple #[.agg #[vI y12, vI y13], vI y14] ∧ St z6 (box b7 [vI y15, vI y16, .bool y17, .bool false] 100 :: box b6 [vI 0, vI 0] 41 :: box b5 [vI x1_lo, vI x1_hi] 41 :: box b4 [vI x0_lo, vI x0_hi] 41 :: box b3 [vI 0, vI 0] 41 :: box b2 [vI x1_lo, vI x1_hi] 41 :: box b1 [vI x0_lo, vI x0_hi] 41 :: L) w ∧ (F38_j3 y12 y13 y14) = some r) ?_ ?_
    ·refine calls_intro (N := 21) Try.func105 (by kernel_rfl) fun a43 hf49 => ?_
     refine w_sr (by kernel_rfl) ?_
     refine p_box (i := 0) (d := (some 2)) (cs := [vI 0, vI 0]) (T := 41) (v := fun b8 => pB b8 0) hS10 hf49 (fun b => by kernel_rfl) fun b8 ww16 a44 hS17 hf50 => ⟨fun _ => trivial, ?_⟩
     refine p_qt [] [(0, pB b7 0), (2, pB b8 0)] [] hf50 (by kernel_rfl) .nil fun a45 hf51 => ?_
     refine w_seq (by kernel_rfl) ?_
     refine w_sr (by kernel_rfl) ?_
     refine p_qn 9 [.bool false, vI y15, vI y16] [(0, pB b7 0), (2, pB b8 0), (8, .bool false), (12, .agg #[vI y15, vI y16])] [.cell ⟨b7, 3, none⟩ (.bool false), .cell ⟨b7, 0, none⟩ (vI y15), .cell ⟨b7, 1, none⟩ (vI y16)] hf51 (by kernel_rfl) (.cell (hS17.box (i := 1) rfl (j := 3) rfl) (.cell (hS17.box (i := 1) rfl (j := 0) rfl) (.cell (hS17.box (i := 1) rfl (j := 1) rfl) .nil))) fun a46 hf52 => ?_
     obtain ⟨r1, hd2, hr15⟩ := bind_some hr14
     refine p_call (i := 9) (d := some 13) (f := 52) (args := #[.agg #[vI y15, vI y16]]) hf52 (by kernel_rfl) (f52_ok fuel y15 y16 r1 hd2 z3 _ _ hS17 ) ?_
     rintro v2 ww17 a47 ⟨z7, k7, rfl, hS18⟩ hf53
     refine ⟨fun _ => trivial, ?_⟩
     refine p_qt [] [(0, pB b7 0), (2, pB b8 0), (15, .bool (r1 != (0 : Int)))] [] hf53 (by kernel_rfl) .nil fun a48 hf54 => ?_
     refine w_if hf54 (b := (r1 != (0 : Int))) (by kernel_rfl) (fun hb7 => ?_) (fun hb7 => ?_)
     ·have hr16 := cond_t hb7 hr15
      refine w_sr (by kernel_rfl) ?_
      refine p_qn 1 [] [(2, pB b8 0), (16, .agg #[vI 0, vI 0])] [] hf54 (by kernel_rfl) .nil fun a49 hf55 => ?_
      refine p_store_eq (i := 1) (j := 0) (b := b8) (off := 0) (vs := [vI 0, vI 0]) (cs' := [vI 0, vI 0]) hS18 hf55 rfl (by kernel_rfl) (by kernel_rfl) rfl fun ww18 a50 hS19 hf56 => ⟨fun _ => trivial, ?_⟩
      refine p_qt [] [(2, pB b8 0), (3, vI 5)] [] hf56 (by kernel_rfl) .nil fun a51 hf57 => ?_
      refine w_ret (by kernel_rfl) ?_
      refine r_then ?_
      refine p_ret (os := [vI 0, vI 0]) (v := .tuple #[.agg #[vI 0, vI 0], vI 5]) (obs := [.cell ⟨b8, 0, none⟩ (vI 0), .cell ⟨b8, 1, none⟩ (vI 0)]) hf57 (by kernel_rfl) (.cell (hS19.box (i := 0) rfl (j := 0) rfl) (.cell (hS19.box (i := 0) rfl (j := 1) rfl) .nil)) ?_
      exact ⟨_, rfl, z7, 0, 0, 5, k7, rfl, (St.drop 1 hS19), hr16⟩
     ·have hr17 := cond_f hb7 hr15
      refine w_skip (by kernel_rfl) ?_
      refine n_then ?_
      refine w_sr (by kernel_rfl) ?_
      refine p_qn 4 [vI y15, vI y16] [(2, pB b8 0), (20, .agg #[vI y15, vI y16])] [.cell ⟨b7, 0, none⟩ (vI y15), .cell ⟨b7, 1, none⟩ (vI y16)] hf54 (by kernel_rfl) (.cell (hS18.box (i := 1) rfl (j := 0) rfl) (.cell (hS18.box (i := 1) rfl (j := 1) rfl) .nil)) fun a52 hf58 => ?_
      refine p_store_eq (i := 4) (j := 0) (b := b8) (off := 0) (vs := [vI y15, vI y16]) (cs' := [vI y15, vI y16]) hS18 hf58 rfl (by kernel_rfl) (by kernel_rfl) rfl fun ww19 a53 hS20 hf59 => ⟨fun _ => trivial, ?_⟩
      refine p_qt [] [(2, pB b8 0), (3, vI 0)] [] hf59 (by kernel_rfl) .nil fun a54 hf60 => ?_
      refine w_ret (by kernel_rfl) ?_
      refine p_ret (os := [vI y15, vI y16]) (v := .tuple #[.agg #[vI y15, vI y16], vI 0]) (obs := [.cell ⟨b8, 0, none⟩ (vI y15), .cell ⟨b8, 1, none⟩ (vI y16)]) hf60 (by kernel_rfl) (.cell (hS20.box (i := 0) rfl (j := 0) rfl) (.cell (hS20.box (i := 0) rfl (j := 1) rfl) .nil)) ?_
      exact ⟨_, rfl, z7, y15, y16, 0, k7, rfl, (St.drop 1 hS20), hr17⟩
    ·rintro v3 ww20 a55 ⟨z6, y12, y13, y14, k8, rfl, hS21, hr18⟩ hf61
     refine ⟨fun _ => trivial, ?_⟩
     refine p_qn 2 [] [(6, pB b6 0), (44, .agg #[vI y12, vI y13]), (45, vI y14)] [] hf61 (by kernel_rfl) .nil fun a56 hf62 => ?_
     refine p_store_eq (i := 3) (j := 1) (b := b6) (off := 0) (vs := [vI y12, vI y13]) (cs' := [vI y12, vI y13]) hS21 hf62 rfl (by kernel_rfl) (by kernel_rfl) rfl fun ww21 a57 hS22 hf63 => ⟨fun _ => trivial, ?_⟩
     refine p_qt [] [(6, pB b6 0), (7, vI y14)] [] hf63 (by kernel_rfl) .nil fun a58 hf64 => ?_
     refine w_ret (by kernel_rfl) ?_
     refine p_ret (os := [vI y12, vI y13]) (v := .tuple #[.agg #[vI y12, vI y13], vI y14]) (obs := [.cell ⟨b6, 0, none⟩ (vI y12), .cell ⟨b6, 1, none⟩ (vI y13)]) hf64 (by kernel_rfl) (.cell (hS22.box (i := 1) rfl (j := 0) rfl) (.cell (hS22.box (i := 1) rfl (j := 1) rfl) .nil)) ?_
     exact ⟨_, rfl, z6, y12, y13, y14, (Zone.le_trans (Zone.le_trans k3 k4) k8), rfl, (St.drop 4 hS22), hr18⟩
 ·rintro v4 ww22 a59 ⟨z1, y1, y2, y3, k9, rfl, hS23, hr19⟩ hf65
  refine ⟨fun _ => trivial, ?_⟩
  refine p_qn 2 [] [(4, pB b3 0), (9, .agg #[vI y1, vI y2]), (10, vI y3)] [] hf65 (by kernel_rfl) .nil fun a60 hf66 => ?_
  refine p_store_eq (i := 5) (j := 0) (b := b3) (off := 0) (vs := [vI y1, vI y2]) (cs' := [vI y1, vI y2]) hS23 hf66 rfl (by kernel_rfl) (by kernel_rfl) rfl fun ww23 a61 hS24 hf67 => ⟨fun _ => trivial, ?_⟩
  refine p_qt [] [(4, pB b3 0), (5, vI y3)] [] hf67 (by kernel_rfl) .nil fun a62 hf68 => ?_
  refine w_ret (by kernel_rfl) ?_
  refine p_ret (os := [vI y1, vI y2]) (v := .tuple #[.agg #[vI y1, vI y2], vI y3]) (obs := [.cell ⟨b3, 0, none⟩ (vI y1), .cell ⟨b3, 1, none⟩ (vI y2)]) hf68 (by kernel_rfl) (.cell (hS24.box (i := 0) rfl (j := 0) rfl) (.cell (hS24.box (i := 0) rfl (j := 1) rfl) .nil)) ?_
  obtain rfl := some_eq hr19
  exact ⟨_, rfl, z1, k9, rfl, (St.drop 3 hS24)⟩
def F40_j4 (k1 : Int → Int → Bool → Int → Option (Int × Int × Int)) (x1 : Int) (y1 : Int) (r1 : Int) (r2 : Int) (y2 : Int) (y3 : Int) (y4 : Bool) : Option (Int × Int × Int) :=
  (k1 (if (w64 ((w64 (r1 * x1)) + r2)) < y2 then (w64 ((w64 (r1 * x1)) + r2)) else y2) (if (w64 ((w64 (r1 * x1)) + r2)) > y3 then (w64 ((w64 (r1 * x1)) + r2)) else y3) y4 (w64 (y1 + (1 : Int))))
def F40_j3 (fuel : Nat) (k1 : Int → Int → Bool → Int → Option (Int × Int × Int)) (x1 : Int) (x2 : Int) (y1 : Int) (p1 : Int) (r1 : Int) (r3 : Int) (y5 : Int) (y6 : Int) (y7 : Bool) : Option (Int × Int × Int) :=
  ((F86 fuel (w64 ((w64 (p1 - (w64 (r1 * x2)))) * x1)) x2).bind fun r2 => (cond (!y7) (F40_j4 k1 x1 y1 r1 r2 (w64 ((w64 (r1 * x1)) + r2)) (w64 ((w64 (r1 * x1)) + r2)) true) (F40_j4 k1 x1 y1 r1 r2 (if (w64 ((w64 (r1 * x1)) + r3)) < y5 then (w64 ((w64 (r1 * x1)) + r3)) else y5) (if (w64 ((w64 (r1 * x1)) + r3)) > y6 then (w64 ((w64 (r1 * x1)) + r3)) else y6) y7)))
def F40_j2 (fuel : Nat) (k1 : Int → Int → Bool → Int → Option (Int × Int × Int)) (x1 : Int) (x2 : Int) (y8 : Int) (y9 : Int) (y10 : Bool) (y1 : Int) (p1 : Int) (r1 : Int) (y11 : Bool) : Option (Int × Int × Int) :=
  (cond y11 (some (0, 0, 5)) ((F85 fuel (w64 ((w64 (p1 - (w64 (r1 * x2)))) * x1)) x2).bind fun r3 => (cond (!y10) (F40_j3 fuel k1 x1 x2 y1 p1 r1 r3 (w64 ((w64 (r1 * x1)) + r3)) (w64 ((w64 (r1 * x1)) + r3)) true) (F40_j3 fuel k1 x1 x2 y1 p1 r1 r3 y8 y9 y10))))
def F40_j5 (y12 : Int) (y13 : Int) (y14 : Int) : Option (Int × Int × Int) :=
  (some (y12, y13, y14))
def F40_l1 (fuel : Nat) (x0_lo : Int) (x0_hi : Int) (x1 : Int) (x2 : Int) : Nat → Int → Int → Bool → Int → Option (Int × Int × Int)
  | 0, _, _, _, _ => none
  | n1 + 1, y8, y9, y10, y1 =>
    let k1 : Int → Int → Bool → Int → Option (Int × Int × Int) := F40_l1 fuel x0_lo x0_hi x1 x2 n1
    (cond (decide (y1 < (2 : Int))) ((getI ([(x0_lo : Int), (x0_hi : Int)]) y1).bind fun p1 => ((F85 fuel p1 x2).bind fun r1 => (cond (x1 != (0 : Int)) ((nz (if (w64 (0 - x1)) > x1 then (w64 (0 - x1)) else x1)).bind fun _ => (F40_j2 fuel k1 x1 x2 y8 y9 y10 y1 p1 r1 (decide ((if (w64 (0 - r1)) > r1 then (w64 (0 - r1)) else r1) > (w64 (Int.tdiv 2000000000000000 (if (w64 (0 - x1)) > x1 then (w64 (0 - x1)) else x1))))))) (F40_j2 fuel k1 x1 x2 y8 y9 y10 y1 p1 r1 false)))) ((F52 fuel y8 y9).bind fun r4 => (cond (r4 != (0 : Int)) (F40_j5 0 0 5) (F40_j5 y8 y9 0))))
def F40_j1 (fuel : Nat) (x0_lo : Int) (x0_hi : Int) (x1 : Int) (x2 : Int) (y15 : Bool) : Option (Int × Int × Int) :=
  (cond y15 (some (0, 0, 1)) (F40_l1 fuel x0_lo x0_hi x1 x2 fuel 0 0 false 0))
def F40 (fuel : Nat) (x0_lo : Int) (x0_hi : Int) (x1 : Int) (x2 : Int) : Option (Int × Int × Int) :=
  ((F52 fuel x0_lo x0_hi).bind fun r5 => (cond (r5 != (0 : Int)) (some (0, 0, r5)) ((F90 fuel x1 (-1000000000) 1000000000).bind fun r6 => (cond (!r6) (F40_j1 fuel x0_lo x0_hi x1 x2 true) ((F90 fuel x2 1 1000000000).bind fun r7 => (F40_j1 fuel x0_lo x0_hi x1 x2 (!r7)))))))
set_option maxRecDepth 100000 in
theorem f40_ok (fuel : Nat) (x0_lo : Int) (x0_hi : Int) (x1 : Int) (x2 : Int) (r : Int × Int × Int) (hr : F40 fuel x0_lo x0_hi x1 x2 = some r) (h : Zone) (L : List Atom) (w : World) (hS : St h L w)  :
    Calls Try.prog 40 #[.agg #[vI x0_lo, vI x0_hi], vI x1, vI x2] w fun e w' => ∃ v, e = .returned v ∧ (∃ h', Zone.le h h' ∧ v = .tuple #[.agg #[vI r.1, vI r.2.1], vI r.2.2] ∧ St h' L w') := by
 refine calls_intro (N := 86) Try.func40 (by kernel_rfl) fun a hf => ?_
 refine w_sr (by kernel_rfl) ?_
 refine p_box (i := 0) (d := (some 3)) (cs := [vI x0_lo, vI x0_hi]) (T := 41) (v := fun b1 => pB b1 0) hS hf (fun b => by kernel_rfl) fun b1 ww1 a1 hS1 hf1 => ⟨fun _ => trivial, ?_⟩
 refine p_box (i := 1) (d := (some 6)) (cs := [vI 0, vI 0]) (T := 41) (v := fun b2 => pB b2 0) hS1 hf1 (fun b => by kernel_rfl) fun b2 ww2 a2 hS2 hf2 => ⟨fun _ => trivial, ?_⟩
 refine p_qt [] [(1, vI x1), (2, vI x2), (3, pB b1 0), (6, pB b2 0)] [] hf2 (by kernel_rfl) .nil fun a3 hf3 => ?_
 refine w_seq (by kernel_rfl) ?_
 refine w_sr (by kernel_rfl) ?_
 refine p_qn 1 [vI x0_lo, vI x0_hi] [(1, vI x1), (2, vI x2), (3, pB b1 0), (6, pB b2 0), (15, .agg #[vI x0_lo, vI x0_hi])] [.cell ⟨b1, 0, none⟩ (vI x0_lo), .cell ⟨b1, 1, none⟩ (vI x0_hi)] hf3 (by kernel_rfl) (.cell (hS2.box (i := 1) rfl (j := 0) rfl) (.cell (hS2.box (i := 1) rfl (j := 1) rfl) .nil)) fun a4 hf4 => ?_
 obtain ⟨r5, hd1, hr1⟩ := bind_some hr
 refine p_call (i := 1) (d := some 16) (f := 52) (args := #[.agg #[vI x0_lo, vI x0_hi]]) hf4 (by kernel_rfl) (f52_ok fuel x0_lo x0_hi r5 hd1 h _ _ hS2 ) ?_
 rintro v1 ww3 a5 ⟨z1, k2, rfl, hS3⟩ hf5
 refine ⟨fun _ => trivial, ?_⟩
 refine p_qt [] [(1, vI x1), (2, vI x2), (3, pB b1 0), (6, pB b2 0), (8, vI r5)] [] hf5 (by kernel_rfl) .nil fun a6 hf6 => ?_
 refine w_sq [] [(1, vI x1), (2, vI x2), (3, pB b1 0), (6, pB b2 0), (8, vI r5), (18, .bool (r5 != (0 : Int)))] [] hf6 (by kernel_rfl) .nil fun a7 hf7 => ?_
 refine w_if hf7 (b := (r5 != (0 : Int))) (by kernel_rfl) (fun hb1 => ?_) (fun hb1 => ?_)
 ·have hr2 := cond_t hb1 hr1
  refine w_sr (by kernel_rfl) ?_
  refine p_qn 2 [] [(6, pB b2 0), (19, .agg #[vI 0, vI 0]), (20, vI r5)] [] hf7 (by kernel_rfl) .nil fun a8 hf8 => ?_
  refine p_store_eq (i := 2) (j := 0) (b := b2) (off := 0) (vs := [vI 0, vI 0]) (cs' := [vI 0, vI 0]) hS3 hf8 rfl (by kernel_rfl) (by kernel_rfl) rfl fun ww4 a9 hS4 hf9 => ⟨fun _ => trivial, ?_⟩
  refine p_qt [] [(6, pB b2 0), (7, vI r5)] [] hf9 (by kernel_rfl) .nil fun a10 hf10 => ?_
  refine w_ret (by kernel_rfl) ?_
  refine r_then ?_
  refine p_ret (os := [vI 0, vI 0]) (v := .tuple #[.agg #[vI 0, vI 0], vI r5]) (obs := [.cell ⟨b2, 0, none⟩ (vI 0), .cell ⟨b2, 1, none⟩ (vI 0)]) hf10 (by kernel_rfl) (.cell (hS4.box (i := 0) rfl (j := 0) rfl) (.cell (hS4.box (i := 0) rfl (j := 1) rfl) .nil)) ?_
  obtain rfl := some_eq hr2
  exact ⟨_, rfl, z1, k2, rfl, (St.drop 2 hS4)⟩
 ·have hr3 := cond_f hb1 hr1
  refine w_skip (by kernel_rfl) ?_
  refine n_then ?_
  refine w_seq (by kernel_rfl) ?_
  refine w_mid (by kernel_rfl) (fun a w => ∃ z2 : Zone, ∃ y15 : Bool, Zone.le z1 z2 ∧ Fr a 86 [(1, vI x1), (2, vI x2), (3, pB b1 0), (6, pB b2 0), (28, .bool y15)] ∧ St z2 (box b2 [vI 0, vI 0] 41 :: box b1 [vI x0_lo, vI x0_hi] 41 :: L) w ∧ (F40_j1 fuel x0_lo x0_hi x1 x2 y15) = some r) ?_ ?_
  ·skip
   refine w_reg (by kernel_rfl) ?_
   refine p_qn 1 [] [(1, vI x1), (2, vI x2), (3, pB b1 0), (6, pB b2 0), (21, vI x1)] [] hf7 (by kernel_rfl) .nil fun a11 hf11 => ?_
   obtain ⟨r6, hd2, hr4⟩ := bind_some hr3
   refine p_call (i := 1) (d := some 22) (f := 90) (args := #[vI x1, vI (-1000000000), vI 1000000000]) hf11 (by kernel_rfl) (f90_ok fuel x1 (-1000000000) 1000000000 r6 hd2 z1 _ _ hS3 ) ?_
   rintro v2 ww5 a12 ⟨z3, k3, rfl, hS5⟩ hf12
   refine ⟨fun _ => trivial, ?_⟩
   refine p_qn 2 [] [(1, vI x1), (2, vI x2), (3, pB b1 0), (6, pB b2 0), (24, .bool (!r6))] [] hf12 (by kernel_rfl) .nil fun a13 hf13 => ?_
   rcases Bool.eq_false_or_eq_true (!r6) with hb2 | hb2
   ·have hr5 := cond_t hb2 hr4
    have hf14 := Fr.conv hf13 (congrArg (fun z => ([(1, vI x1), (2, vI x2), (3, pB b1 0), (6, pB b2 0), (24, .bool z)] : FL)) hb2)
    refine p_qt [] [(1, vI x1), (2, vI x2), (3, pB b1 0), (6, pB b2 0), (28, .bool true)] [] hf14 (by kernel_rfl) .nil fun a14 hf15 => ?_
    have hf16 := Fr.keep (ks := [1, 2, 3, 6, 28]) (r := [(1, vI x1), (2, vI x2), (3, pB b1 0), (6, pB b2 0), (28, .bool true)]) hf15 (by kernel_rfl)
    exact ⟨z3, true, k3, hf16, hS5, hr5⟩
   ·have hr6 := cond_f hb2 hr4
    have hf17 := Fr.conv hf13 (congrArg (fun z => ([(1, vI x1), (2, vI x2), (3, pB b1 0), (6, pB b2 0), (24, .bool z)] : FL)) hb2)
    refine p_qn 1 [] [(1, vI x1), (2, vI x2), (3, pB b1 0), (6, pB b2 0), (24, .bool false), (25, vI x2)] [] hf17 (by kernel_rfl) .nil fun a15 hf18 => ?_
    obtain ⟨r7, hd3, hr7⟩ := bind_some hr6
    refine p_call (i := 5) (d := some 26) (f := 90) (args := #[vI x2, vI 1, vI 1000000000]) hf18 (by kernel_rfl) (f90_ok fuel x2 1 1000000000 r7 hd3 z3 _ _ hS5 ) ?_
    rintro v3 ww6 a16 ⟨z4, k4, rfl, hS6⟩ hf19
    refine ⟨fun _ => trivial, ?_⟩
    refine p_qt [] [(1, vI x1), (2, vI x2), (3, pB b1 0), (6, pB b2 0), (28, .bool (!r7))] [] hf19 (by kernel_rfl) .nil fun a17 hf20 => ?_
    have hf21 := Fr.keep (ks := [1, 2, 3, 6, 28]) (r := [(1, vI x1), (2, vI x2), (3, pB b1 0), (6, pB b2 0), (28, .bool (!r7))]) hf20 (by kernel_rfl)
    exact ⟨z4, (!r7), (Zone.le_trans k3 k4), hf21, hS6, hr7⟩
  ·rintro a18 ww7 ⟨z2, y15, k5, hf22, hS7, hr8⟩
   refine w_if hf22 (b := y15) (by kernel_rfl) (fun hb3 => ?_) (fun hb3 => ?_)
   ·have hr9 := cond_t hb3 hr8
    refine w_sr (by kernel_rfl) ?_
    refine p_qn 1 [] [(6, pB b2 0), (29, .agg #[vI 0, vI 0])] [] hf22 (by kernel_rfl) .nil fun a19 hf23 => ?_
    refine p_store_eq (i := 1) (j := 0) (b := b2) (off := 0) (vs := [vI 0, vI 0]) (cs' := [vI 0, vI 0]) hS7 hf23 rfl (by kernel_rfl) (by kernel_rfl) rfl fun ww8 a20 hS8 hf24 => ⟨fun _ => trivial, ?_⟩
    refine p_qt [] [(6, pB b2 0), (7, vI 1)] [] hf24 (by kernel_rfl) .nil fun a21 hf25 => ?_
    refine w_ret (by kernel_rfl) ?_
    refine r_then ?_
    refine p_ret (os := [vI 0, vI 0]) (v := .tuple #[.agg #[vI 0, vI 0], vI 1]) (obs := [.cell ⟨b2, 0, none⟩ (vI 0), .cell ⟨b2, 1, none⟩ (vI 0)]) hf25 (by kernel_rfl) (.cell (hS8.box (i := 0) rfl (j := 0) rfl) (.cell (hS8.box (i := 0) rfl (j := 1) rfl) .nil)) ?_
    obtain rfl := some_eq hr9
    exact ⟨_, rfl, z2, (Zone.le_trans k2 k5), rfl, (St.drop 2 hS8)⟩
   ·have hr10 := cond_f hb3 hr8
    refine w_skip (by kernel_rfl) ?_
    refine n_then ?_
    refine w_sr (by kernel_rfl) ?_
    refine p_box (i := 0) (d := (some 9)) (cs := [vI 0, vI 0, .bool false, .bool false]) (T := 100) (v := fun b3 => pB b3 0) hS7 hf22 (fun b => by kernel_rfl) fun b3 ww9 a22 hS9 hf26 => ⟨fun _ => trivial, ?_⟩
    refine p_dt (by kernel_rfl) ?_
    refine w_sq [] [(1, vI x1), (2, vI x2), (3, pB b1 0), (6, pB b2 0), (9, pB b3 0), (10, .func (.func 89) #[pB b3 0] #[])] [] hf26 (by kernel_rfl) .nil fun a23 hf27 => ?_
    refine w_seq (by kernel_rfl) ?_
    refine w_sq [vI x0_lo, vI x0_hi] [(1, vI x1), (2, vI x2), (6, pB b2 0), (9, pB b3 0), (10, .func (.func 89) #[pB b3 0] #[]), (35, .agg #[vI x0_lo, vI x0_hi]), (36, vI 0)] [.cell ⟨b1, 0, none⟩ (vI x0_lo), .cell ⟨b1, 1, none⟩ (vI x0_hi)] hf27 (by kernel_rfl) (.cell (hS9.box (i := 2) rfl (j := 0) rfl) (.cell (hS9.box (i := 2) rfl (j := 1) rfl) .nil)) fun a24 hf28 => ?_
    refine w_block (id := 0) (by kernel_rfl) ?_
    have hf29 := Fr.keep (ks := [1, 2, 6, 9, 10, 35, 36]) (r := [(1, vI x1), (2, vI x2), (6, pB b2 0), (9, pB b3 0), (10, .func (.func 89) #[pB b3 0] #[]), (35, .agg #[vI x0_lo, vI x0_hi]), (36, vI 0)]) hf28 (by kernel_rfl)
    refine w_loop (by kernel_rfl) (fun n a w => ∃ z5 : Zone, ∃ y8 : Int, ∃ y9 : Int, ∃ y10 : Bool, ∃ y1 : Int, Zone.le z2 z5 ∧ Fr a 86 [(1, vI x1), (2, vI x2), (6, pB b2 0), (9, pB b3 0), (10, .func (.func 89) #[pB b3 0] #[]), (35, .agg #[vI x0_lo, vI x0_hi]), (36, vI y1)] ∧ St z5 (box b3 [vI y8, vI y9, .bool y10, .bool false] 100 :: box b2 [vI 0, vI 0] 41 :: box b1 [vI x0_lo, vI x0_hi] 41 :: L) w ∧ (F40_l1 fuel x0_lo x0_hi x1 x2 n y8 y9 y10 y1) = some r) fuel ⟨z2, 0, 0, false, 0, (Zone.le_refl _), hf29, hS9, hr10⟩ ?_
    rintro n2 a25 ww10 ⟨z5, y8, y9, y10, y1, k6, hf30, hS10, hr11⟩
    cases n2 with
    | zero => cases hr11
    | succ n1 =>
    refine w_sq [] [(1, vI x1), (2, vI x2), (6, pB b2 0), (9, pB b3 0), (10, .func (.func 89) #[pB b3 0] #[]), (35, .agg #[vI x0_lo, vI x0_hi]), (36, vI y1), (37, .bool (decide (y1 < (2 : Int))))] [] hf30 (by kernel_rfl) .nil fun a26 hf31 => ?_
    refine w_seq (by kernel_rfl) ?_
    refine w_if hf31 (b := (decide (y1 < (2 : Int)))) (by kernel_rfl) (fun hb4 => ?_) (fun hb4 => ?_)
    ·have hr12 := cond_t hb4 hr11
     refine w_skip (by kernel_rfl) ?_
     refine n_then ?_
     refine w_seq (by kernel_rfl) ?_
     refine w_block (id := 1) (by kernel_rfl) ?_
     obtain ⟨p1, hp4834, hr13⟩ := bind_some hr12
     obtain ⟨hb5, hk1⟩ := getI_idx (f := Value.int .i64) (n := 2) rfl hp4834
     refine w_sq [vI p1] [(1, vI x1), (2, vI x2), (6, pB b2 0), (9, pB b3 0), (10, .func (.func 89) #[pB b3 0] #[]), (12, vI p1), (35, .agg #[vI x0_lo, vI x0_hi]), (36, vI y1)] [.prop (0 ≤ y1 ∧ y1 < (2 : Nat)), .prop ((#[vI x0_lo, vI x0_hi] : Array Value)[Int.toNat y1 * 1]? = some (vI p1))] hf31 (by kernel_rfl) (.prop hb5 (.prop hk1 .nil)) fun a27 hf32 => ?_
     refine w_sr (by kernel_rfl) ?_
     refine p_qn 2 [] [(1, vI x1), (2, vI x2), (6, pB b2 0), (9, pB b3 0), (10, .func (.func 89) #[pB b3 0] #[]), (12, vI p1), (35, .agg #[vI x0_lo, vI x0_hi]), (36, vI y1), (39, vI p1), (40, vI x2)] [] hf32 (by kernel_rfl) .nil fun a28 hf33 => ?_
     obtain ⟨r1, hd4, hr14⟩ := bind_some hr13
     refine p_call (i := 2) (d := some 41) (f := 85) (args := #[vI p1, vI x2]) hf33 (by kernel_rfl) (f85_ok fuel p1 x2 r1 hd4 z5 _ _ hS10 ) ?_
     rintro v4 ww11 a29 ⟨rfl, hS11⟩ hf34
     refine ⟨fun _ => trivial, ?_⟩
     refine p_qt [] [(1, vI x1), (2, vI x2), (6, pB b2 0), (9, pB b3 0), (10, .func (.func 89) #[pB b3 0] #[]), (12, vI p1), (13, vI r1), (35, .agg #[vI x0_lo, vI x0_hi]), (36, vI y1)] [] hf34 (by kernel_rfl) .nil fun a30 hf35 => ?_
     refine w_seq (by kernel_rfl) ?_
     refine w_mid (by kernel_rfl) (fun a w => ∃ z6 : Zone, ∃ y11 : Bool, Zone.le z5 z6 ∧ Fr a 86 [(1, vI x1), (2, vI x2), (6, pB b2 0), (9, pB b3 0), (10, .func (.func 89) #[pB b3 0] #[]), (12, vI p1), (13, vI r1), (35, .agg #[vI x0_lo, vI x0_hi]), (36, vI y1), (55, .bool y11)] ∧ St z6 (box b3 [vI y8, vI y9, .bool y10, .bool false] 100 :: box b2 [vI 0, vI 0] 41 :: box b1 [vI x0_lo, vI x0_hi] 41 :: L) w ∧ (F40_j2 fuel (F40_l1 fuel x0_lo x0_hi x1 x2 n1) x1 x2 y8 y9 y10 y1 p1 r1 y11) = some r) ?_ ?_
     ·skip
      refine w_reg (by kernel_rfl) ?_
      refine p_qn 3 [] [(1, vI x1), (2, vI x2), (6, pB b2 0), (9, pB b3 0), (10, .func (.func 89) #[pB b3 0] #[]), (12, vI p1), (13, vI r1), (35, .agg #[vI x0_lo, vI x0_hi]), (36, vI y1), (44, .bool (x1 != (0 : Int)))] [] hf35 (by kernel_rfl) .nil fun a31 hf36 => ?_
      rcases Bool.eq_false_or_eq_true (x1 != (0 : Int)) with hb6 | hb6
      ·have hr15 := cond_t hb6 hr14
       have hf37 := Fr.conv hf36 (congrArg (fun z => ([(1, vI x1), (2, vI x2), (6, pB b2 0), (9, pB b3 0), (10, .func (.func 89) #[pB b3 0] #[]), (12, vI p1), (13, vI r1), (35, .agg #[vI x0_lo, vI x0_hi]), (36, vI y1), (44, .bool z)] : FL)) hb6)
       obtain ⟨u1, hd5, hr16⟩ := bind_some hr15
       refine p_qt [] [(1, vI x1), (2, vI x2), (6, pB b2 0), (9, pB b3 0), (10, .func (.func 89) #[pB b3 0] #[]), (12, vI p1), (13, vI r1), (35, .agg #[vI x0_lo, vI x0_hi]), (36, vI y1), (45, vI r1), (46, vI r1), (47, vI (w64 (0 - r1))), (48, vI (if (w64 (0 - r1)) > r1 then (w64 (0 - r1)) else r1)), (49, vI x1), (50, vI x1), (51, vI (w64 (0 - x1))), (52, vI (if (w64 (0 - x1)) > x1 then (w64 (0 - x1)) else x1)), (53, vI (w64 (Int.tdiv 2000000000000000 (if (w64 (0 - x1)) > x1 then (w64 (0 - x1)) else x1)))), (54, .bool (decide ((if (w64 (0 - r1)) > r1 then (w64 (0 - r1)) else r1) > (w64 (Int.tdiv 2000000000000000 (if (w64 (0 - x1)) > x1 then (w64 (0 - x1)) else x1)))))), (55, .bool (decide ((if (w64 (0 - r1)) > r1 then (w64 (0 - r1)) else r1) > (w64 (Int.tdiv 2000000000000000 (if (w64 (0 - x1)) > x1 then (w64 (0 - x1)) else x1))))))] [.prop ((if (w64 (0 - x1)) > x1 then (w64 (0 - x1)) else x1) ≠ 0)] hf37 (by kernel_rfl) (.prop (nz_spec hd5) .nil) fun a32 hf38 => ?_
       have hf39 := Fr.keep (ks := [1, 2, 6, 9, 10, 12, 13, 35, 36, 55]) (r := [(1, vI x1), (2, vI x2), (6, pB b2 0), (9, pB b3 0), (10, .func (.func 89) #[pB b3 0] #[]), (12, vI p1), (13, vI r1), (35, .agg #[vI x0_lo, vI x0_hi]), (36, vI y1), (55, .bool (decide ((if (w64 (0 - r1)) > r1 then (w64 (0 - r1)) else r1) > (w64 (Int.tdiv 2000000000000000 (if (w64 (0 - x1)) > x1 then (w64 (0 - x1)) else x1))))))]) hf38 (by kernel_rfl)
       exact ⟨z5, (decide ((if (w64 (0 - r1)) > r1 then (w64 (0 - r1)) else r1) > (w64 (Int.tdiv 2000000000000000 (if (w64 (0 - x1)) > x1 then (w64 (0 - x1)) else x1))))), (Zone.le_refl _), hf39, hS11, hr16⟩
      ·have hr17 := cond_f hb6 hr14
       have hf40 := Fr.conv hf36 (congrArg (fun z => ([(1, vI x1), (2, vI x2), (6, pB b2 0), (9, pB b3 0), (10, .func (.func 89) #[pB b3 0] #[]), (12, vI p1), (13, vI r1), (35, .agg #[vI x0_lo, vI x0_hi]), (36, vI y1), (44, .bool z)] : FL)) hb6)
       refine p_qt [] [(1, vI x1), (2, vI x2), (6, pB b2 0), (9, pB b3 0), (10, .func (.func 89) #[pB b3 0] #[]), (12, vI p1), (13, vI r1), (35, .agg #[vI x0_lo, vI x0_hi]), (36, vI y1), (45, undef), (46, undef), (47, undef), (48, undef), (49, undef), (50, undef), (51, undef), (52, undef), (53, undef), (54, undef), (55, .bool false)] [] hf40 (by kernel_rfl) .nil fun a33 hf41 => ?_
       have hf42 := Fr.keep (ks := [1, 2, 6, 9, 10, 12, 13, 35, 36, 55]) (r := [(1, vI x1), (2, vI x2), (6, pB b2 0), (9, pB b3 0), (10, .func (.func 89) #[pB b3 0] #[]), (12, vI p1), (13, vI r1), (35, .agg #[vI x0_lo, vI x0_hi]), (36, vI y1), (55, .bool false)]) hf41 (by kernel_rfl)
       exact ⟨z5, false, (Zone.le_refl _), hf42, hS11, hr17⟩
     ·rintro a34 ww12 ⟨z6, y11, k7, hf43, hS12, hr18⟩
      refine w_if hf43 (b := y11) (by kernel_rfl) (fun hb7 => ?_) (fun hb7 => ?_)
      ·have hr19 := cond_t hb7 hr18
       refine w_sr (by kernel_rfl) ?_
       refine p_qn 1 [] [(6, pB b2 0), (56, .agg #[vI 0, vI 0])] [] hf43 (by kernel_rfl) .nil fun a35 hf44 => ?_
       refine p_store_eq (i := 1) (j := 1) (b := b2) (off := 0) (vs := [vI 0, vI 0]) (cs' := [vI 0, vI 0]) hS12 hf44 rfl (by kernel_rfl) (by kernel_rfl) rfl fun ww13 a36 hS13 hf45 => ⟨fun _ => trivial, ?_⟩
       refine p_qt [] [(6, pB b2 0), (7, vI 5)] [] hf45 (by kernel_rfl) .nil fun a37 hf46 => ?_
       refine w_ret (by kernel_rfl) ?_
       refine r_then ?_
       refine r_block ?_
       refine r_then ?_
       refine r_then ?_
       refine r_block ?_
       refine r_then ?_
       refine p_ret (os := [vI 0, vI 0]) (v := .tuple #[.agg #[vI 0, vI 0], vI 5]) (obs := [.cell ⟨b2, 0, none⟩ (vI 0), .cell ⟨b2, 1, none⟩ (vI 0)]) hf46 (by kernel_rfl) (.cell (hS13.box (i := 1) rfl (j := 0) rfl) (.cell (hS13.box (i := 1) rfl (j := 1) rfl) .nil)) ?_
       obtain rfl := some_eq hr19
       exact ⟨_, rfl, z6, (Zone.le_trans (Zone.le_trans (Zone.le_trans k2 k5) k6) k7), rfl, (St.drop 3 hS13)⟩
      ·have hr20 := cond_f hb7 hr18
       refine w_skip (by kernel_rfl) ?_
       refine n_then ?_
       refine w_sq [] [(1, vI x1), (2, vI x2), (6, pB b2 0), (9, pB b3 0), (10, .func (.func 89) #[pB b3 0] #[]), (13, vI r1), (14, vI (w64 ((w64 (p1 - (w64 (r1 * x2)))) * x1))), (35, .agg #[vI x0_lo, vI x0_hi]), (36, vI y1)] [] hf43 (by kernel_rfl) .nil fun a38 hf47 => ?_
       refine w_sr (by kernel_rfl) ?_
       refine p_qn 6 [] [(1, vI x1), (2, vI x2), (6, pB b2 0), (9, pB b3 0), (10, .func (.func 89) #[pB b3 0] #[]), (13, vI r1), (14, vI (w64 ((w64 (p1 - (w64 (r1 * x2)))) * x1))), (35, .agg #[vI x0_lo, vI x0_hi]), (36, vI y1), (64, .func (.func 89) #[pB b3 0] #[]), (67, vI (w64 (r1 * x1))), (68, vI (w64 ((w64 (p1 - (w64 (r1 * x2)))) * x1))), (69, vI x2)] [] hf47 (by kernel_rfl) .nil fun a39 hf48 => ?_
       obtain ⟨r3, hd6, hr21⟩ := bind_some hr20
       refine p_call (i := 6) (d := some 70) (f := 85) (args := #[vI (w64 ((w64 (p1 - (w64 (r1 * x2)))) * x1)), vI x2]) hf48 (by kernel_rfl) (f85_ok fuel (w64 ((w64 (p1 - (w64 (r1 * x2)))) * x1)) x2 r3 hd6 z6 _ _ hS12 ) ?_
       rintro v5 ww14 a40 ⟨rfl, hS14⟩ hf49
       refine ⟨fun _ => trivial, ?_⟩
       refine p_qn 1 [] [(1, vI x1), (2, vI x2), (6, pB b2 0), (9, pB b3 0), (10, .func (.func 89) #[pB b3 0] #[]), (13, vI r1), (14, vI (w64 ((w64 (p1 - (w64 (r1 * x2)))) * x1))), (35, .agg #[vI x0_lo, vI x0_hi]), (36, vI y1), (64, .func (.func 89) #[pB b3 0] #[]), (71, vI (w64 ((w64 (r1 * x1)) + r3)))] [] hf49 (by kernel_rfl) .nil fun a41 hf50 => ?_
       refine p_inl (i := 8) (d := some 72) (f := 89) (args := #[pB b3 0, vI (w64 ((w64 (r1 * x1)) + r3))]) (N' := 36) hf50 (by kernel_rfl) Try.func89 (by kernel_rfl) fun a42 hf51 => ?_
       refine w_mid (by kernel_rfl) (fun a w => ∃ z7 : Zone, ∃ y5 : Int, ∃ y6 : Int, ∃ y7 : Bool, Zone.le z6 z7 ∧ Fr a 36 [(0, pB b3 0), (1, vI (w64 ((w64 (r1 * x1)) + r3)))] ∧ St z7 (box b3 [vI y5, vI y6, .bool y7, .bool false] 100 :: box b2 [vI 0, vI 0] 41 :: box b1 [vI x0_lo, vI x0_hi] 41 :: L) w ∧ (F40_j3 fuel (F40_l1 fuel x0_lo x0_hi x1 x2 n1) x1 x2 y1 p1 r1 r3 y5 y6 y7) = some r) ?_ ?_
       ·skip
        refine w_sq [.bool y10] [(0, pB b3 0), (1, vI (w64 ((w64 (r1 * x1)) + r3))), (8, .bool (!y10))] [.cell ⟨b3, 2, none⟩ (.bool y10)] hf51 (by kernel_rfl) (.cell (hS14.box (i := 0) rfl (j := 2) rfl) .nil) fun a43 hf52 => ?_
        refine w_if hf52 (b := (!y10)) (by kernel_rfl) (fun hb8 => ?_) (fun hb8 => ?_)
        ·have hr22 := cond_t hb8 hr21
         refine w_reg (by kernel_rfl) ?_
         refine p_qn 7 [] [(0, pB b3 0), (1, vI (w64 ((w64 (r1 * x1)) + r3))), (10, pB b3 0), (13, .agg #[vI (w64 ((w64 (r1 * x1)) + r3)), vI (w64 ((w64 (r1 * x1)) + r3))]), (15, pB b3 0)] [] hf52 (by kernel_rfl) .nil fun a44 hf53 => ?_
         refine p_store_eq (i := 7) (j := 0) (b := b3) (off := 0) (vs := [vI (w64 ((w64 (r1 * x1)) + r3)), vI (w64 ((w64 (r1 * x1)) + r3))]) (cs' := [vI (w64 ((w64 (r1 * x1)) + r3)), vI (w64 ((w64 (r1 * x1)) + r3)), .bool y10, .bool false]) hS14 hf53 rfl (by kernel_rfl) (by kernel_rfl) rfl fun ww15 a45 hS15 hf54 => ⟨fun _ => trivial, ?_⟩
         refine p_qn 2 [] [(0, pB b3 0), (1, vI (w64 ((w64 (r1 * x1)) + r3))), (17, pB b3 2)] [] hf54 (by kernel_rfl) .nil fun a46 hf55 => ?_
         refine p_store_eq (i := 10) (j := 0) (b := b3) (off := 2) (vs := [.bool true]) (cs' := [vI (w64 ((w64 (r1 * x1)) + r3)), vI (w64 ((w64 (r1 * x1)) + r3)), .bool true, .bool false]) hS15 hf55 rfl (by kernel_rfl) (by kernel_rfl) rfl fun ww16 a47 hS16 hf56 => ⟨fun _ => trivial, ?_⟩
         refine p_dt (by kernel_rfl) ?_
         have hf57 := Fr.keep (ks := [0, 1]) (r := [(0, pB b3 0), (1, vI (w64 ((w64 (r1 * x1)) + r3)))]) hf56 (by kernel_rfl)
         exact ⟨z6, (w64 ((w64 (r1 * x1)) + r3)), (w64 ((w64 (r1 * x1)) + r3)), true, (Zone.le_refl _), hf57, hS16, hr22⟩
        ·have hr23 := cond_f hb8 hr21
         refine w_skip (by kernel_rfl) ?_
         refine n_then ?_
         have hf58 := Fr.keep (ks := [0, 1]) (r := [(0, pB b3 0), (1, vI (w64 ((w64 (r1 * x1)) + r3)))]) hf52 (by kernel_rfl)
         exact ⟨z6, y8, y9, y10, (Zone.le_refl _), hf58, hS14, hr23⟩
       ·rintro a48 ww17 ⟨z7, y5, y6, y7, k8, hf59, hS17, hr24⟩
        have hS18 := hS17.drew
        refine w_regD (by kernel_rfl) [(0, true), (1, true), (2, true), (3, true), (4, true), (5, true), (6, true), (7, true), (8, true), (9, true), (10, true), (11, true), (12, true), (13, true), (14, true), (15, true), (16, true), (17, true), (18, false)] [18] (fun x => x = ww17.drew) (by kernel_rfl) rfl ?_
        refine p_qE 18 [vI y5, vI y6] [(33, .agg #[vI (if (w64 ((w64 (r1 * x1)) + r3)) < y5 then (w64 ((w64 (r1 * x1)) + r3)) else y5), vI (if (w64 ((w64 (r1 * x1)) + r3)) > y6 then (w64 ((w64 (r1 * x1)) + r3)) else y6)]), (35, pB b3 0)] [.cell ⟨b3, 0, none⟩ (vI y5), .cell ⟨b3, 1, none⟩ (vI y6)] [] hf59 (by kernel_rfl) (.cell (hS18.box (i := 0) rfl (j := 0) rfl) (.cell (hS18.box (i := 0) rfl (j := 1) rfl) .nil)) .nil fun a49 hf60 => ?_
        refine p_store_eq (i := 18) (j := 0) (b := b3) (off := 0) (vs := [vI (if (w64 ((w64 (r1 * x1)) + r3)) < y5 then (w64 ((w64 (r1 * x1)) + r3)) else y5), vI (if (w64 ((w64 (r1 * x1)) + r3)) > y6 then (w64 ((w64 (r1 * x1)) + r3)) else y6)]) (cs' := [vI (if (w64 ((w64 (r1 * x1)) + r3)) < y5 then (w64 ((w64 (r1 * x1)) + r3)) else y5), vI (if (w64 ((w64 (r1 * x1)) + r3)) > y6 then (w64 ((w64 (r1 * x1)) + r3)) else y6), .bool y7, .bool false]) hS18 hf60 rfl (by kernel_rfl) (by kernel_rfl) rfl fun ww18 a50 hS19 hf61 => ⟨fun e => absurd e (by decide), ?_⟩
        refine p_done (by kernel_rfl) ?_
        refine p_fall (os := []) (v := .tuple #[]) (obs := []) hf61 (by kernel_rfl) .nil ?_
        refine ⟨_, rfl, fun a51 hf62 => ?_⟩
        refine ⟨fun _ => trivial, ?_⟩
        refine p_dt (by kernel_rfl) ?_
        refine w_reg (by kernel_rfl) ?_
        refine p_qn 6 [] [(1, vI x1), (2, vI x2), (6, pB b2 0), (9, pB b3 0), (10, .func (.func 89) #[pB b3 0] #[]), (35, .agg #[vI x0_lo, vI x0_hi]), (36, vI y1), (73, .func (.func 89) #[pB b3 0] #[]), (76, vI (w64 (r1 * x1))), (77, vI (w64 ((w64 (p1 - (w64 (r1 * x2)))) * x1))), (78, vI x2)] [] hf62 (by kernel_rfl) .nil fun a52 hf63 => ?_
        obtain ⟨r2, hd7, hr25⟩ := bind_some hr24
        refine p_call (i := 6) (d := some 79) (f := 86) (args := #[vI (w64 ((w64 (p1 - (w64 (r1 * x2)))) * x1)), vI x2]) hf63 (by kernel_rfl) (f86_ok fuel (w64 ((w64 (p1 - (w64 (r1 * x2)))) * x1)) x2 r2 hd7 z7 _ _ hS19 ) ?_
        rintro v6 ww19 a53 ⟨rfl, hS20⟩ hf64
        refine ⟨fun _ => trivial, ?_⟩
        refine p_qn 1 [] [(1, vI x1), (2, vI x2), (6, pB b2 0), (9, pB b3 0), (10, .func (.func 89) #[pB b3 0] #[]), (35, .agg #[vI x0_lo, vI x0_hi]), (36, vI y1), (73, .func (.func 89) #[pB b3 0] #[]), (80, vI (w64 ((w64 (r1 * x1)) + r2)))] [] hf64 (by kernel_rfl) .nil fun a54 hf65 => ?_
        refine p_inl (i := 8) (d := some 81) (f := 89) (args := #[pB b3 0, vI (w64 ((w64 (r1 * x1)) + r2))]) (N' := 36) hf65 (by kernel_rfl) Try.func89 (by kernel_rfl) fun a55 hf66 => ?_
        refine w_mid (by kernel_rfl) (fun a w => ∃ z8 : Zone, ∃ y2 : Int, ∃ y3 : Int, ∃ y4 : Bool, Zone.le z7 z8 ∧ Fr a 36 [(0, pB b3 0), (1, vI (w64 ((w64 (r1 * x1)) + r2)))] ∧ St z8 (box b3 [vI y2, vI y3, .bool y4, .bool false] 100 :: box b2 [vI 0, vI 0] 41 :: box b1 [vI x0_lo, vI x0_hi] 41 :: L) w ∧ (F40_j4 (F40_l1 fuel x0_lo x0_hi x1 x2 n1) x1 y1 r1 r2 y2 y3 y4) = some r) ?_ ?_
        ·skip
         refine w_sq [.bool y7] [(0, pB b3 0), (1, vI (w64 ((w64 (r1 * x1)) + r2))), (8, .bool (!y7))] [.cell ⟨b3, 2, none⟩ (.bool y7)] hf66 (by kernel_rfl) (.cell (hS20.box (i := 0) rfl (j := 2) rfl) .nil) fun a56 hf67 => ?_
         refine w_if hf67 (b := (!y7)) (by kernel_rfl) (fun hb9 => ?_) (fun hb9 => ?_)
         ·have hr26 := cond_t hb9 hr25
          refine w_reg (by kernel_rfl) ?_
          refine p_qn 7 [] [(0, pB b3 0), (1, vI (w64 ((w64 (r1 * x1)) + r2))), (10, pB b3 0), (13, .agg #[vI (w64 ((w64 (r1 * x1)) + r2)), vI (w64 ((w64 (r1 * x1)) + r2))]), (15, pB b3 0)] [] hf67 (by kernel_rfl) .nil fun a57 hf68 => ?_
          refine p_store_eq (i := 7) (j := 0) (b := b3) (off := 0) (vs := [vI (w64 ((w64 (r1 * x1)) + r2)), vI (w64 ((w64 (r1 * x1)) + r2))]) (cs' := [vI (w64 ((w64 (r1 * x1)) + r2)), vI (w64 ((w64 (r1 * x1)) + r2)), .bool y7, .bool false]) hS20 hf68 rfl (by kernel_rfl) (by kernel_rfl) rfl fun ww20 a58 hS21 hf69 => ⟨fun _ => trivial, ?_⟩
          refine p_qn 2 [] [(0, pB b3 0), (1, vI (w64 ((w64 (r1 * x1)) + r2))), (17, pB b3 2)] [] hf69 (by kernel_rfl) .nil fun a59 hf70 => ?_
          refine p_store_eq (i := 10) (j := 0) (b := b3) (off := 2) (vs := [.bool true]) (cs' := [vI (w64 ((w64 (r1 * x1)) + r2)), vI (w64 ((w64 (r1 * x1)) + r2)), .bool true, .bool false]) hS21 hf70 rfl (by kernel_rfl) (by kernel_rfl) rfl fun ww21 a60 hS22 hf71 => ⟨fun _ => trivial, ?_⟩
          refine p_dt (by kernel_rfl) ?_
          have hf72 := Fr.keep (ks := [0, 1]) (r := [(0, pB b3 0), (1, vI (w64 ((w64 (r1 * x1)) + r2)))]) hf71 (by kernel_rfl)
          exact ⟨z7, (w64 ((w64 (r1 * x1)) + r2)), (w64 ((w64 (r1 * x1)) + r2)), true, (Zone.le_refl _), hf72, hS22, hr26⟩
         ·have hr27 := cond_f hb9 hr25
          refine w_skip (by kernel_rfl) ?_
          refine n_then ?_
          have hf73 := Fr.keep (ks := [0, 1]) (r := [(0, pB b3 0), (1, vI (w64 ((w64 (r1 * x1)) + r2)))]) hf67 (by kernel_rfl)
          exact ⟨z7, (if (w64 ((w64 (r1 * x1)) + r3)) < y5 then (w64 ((w64 (r1 * x1)) + r3)) else y5), (if (w64 ((w64 (r1 * x1)) + r3)) > y6 then (w64 ((w64 (r1 * x1)) + r3)) else y6), y7, (Zone.le_refl _), hf73, hS20, hr27⟩
        ·rintro a61 ww22 ⟨z8, y2, y3, y4, k9, hf74, hS23, hr28⟩
         have hS24 := hS23.drew
         refine w_regD (by kernel_rfl) [(0, true), (1, true), (2, true), (3, true), (4, true), (5, true), (6, true), (7, true), (8, true), (9, true), (10, true), (11, true), (12, true), (13, true), (14, true), (15, true), (16, true), (17, true), (18, false)] [18] (fun x => x = ww22.drew) (by kernel_rfl) rfl ?_
         refine p_qE 18 [vI y2, vI y3] [(33, .agg #[vI (if (w64 ((w64 (r1 * x1)) + r2)) < y2 then (w64 ((w64 (r1 * x1)) + r2)) else y2), vI (if (w64 ((w64 (r1 * x1)) + r2)) > y3 then (w64 ((w64 (r1 * x1)) + r2)) else y3)]), (35, pB b3 0)] [.cell ⟨b3, 0, none⟩ (vI y2), .cell ⟨b3, 1, none⟩ (vI y3)] [] hf74 (by kernel_rfl) (.cell (hS24.box (i := 0) rfl (j := 0) rfl) (.cell (hS24.box (i := 0) rfl (j := 1) rfl) .nil)) .nil fun a62 hf75 => ?_
         refine p_store_eq (i := 18) (j := 0) (b := b3) (off := 0) (vs := [vI (if (w64 ((w64 (r1 * x1)) + r2)) < y2 then (w64 ((w64 (r1 * x1)) + r2)) else y2), vI (if (w64 ((w64 (r1 * x1)) + r2)) > y3 then (w64 ((w64 (r1 * x1)) + r2)) else y3)]) (cs' := [vI (if (w64 ((w64 (r1 * x1)) + r2)) < y2 then (w64 ((w64 (r1 * x1)) + r2)) else y2), vI (if (w64 ((w64 (r1 * x1)) + r2)) > y3 then (w64 ((w64 (r1 * x1)) + r2)) else y3), .bool y4, .bool false]) hS24 hf75 rfl (by kernel_rfl) (by kernel_rfl) rfl fun ww23 a63 hS25 hf76 => ⟨fun e => absurd e (by decide), ?_⟩
         refine p_done (by kernel_rfl) ?_
         refine p_fall (os := []) (v := .tuple #[]) (obs := []) hf76 (by kernel_rfl) .nil ?_
         refine ⟨_, rfl, fun a64 hf77 => ?_⟩
         refine ⟨fun _ => trivial, ?_⟩
         refine p_done (by kernel_rfl) ?_
         refine n_block ?_
         refine n_then ?_
         refine w_q [] [(1, vI x1), (2, vI x2), (6, pB b2 0), (9, pB b3 0), (10, .func (.func 89) #[pB b3 0] #[]), (35, .agg #[vI x0_lo, vI x0_hi]), (36, vI (w64 (y1 + (1 : Int))))] [] hf77 (by kernel_rfl) .nil fun a65 hf78 => ?_
         refine n_then ?_
         have hf79 := Fr.keep (ks := [1, 2, 6, 9, 10, 35, 36]) (r := [(1, vI x1), (2, vI x2), (6, pB b2 0), (9, pB b3 0), (10, .func (.func 89) #[pB b3 0] #[]), (35, .agg #[vI x0_lo, vI x0_hi]), (36, vI (w64 (y1 + (1 : Int))))]) hf78 (by kernel_rfl)
         exact ⟨n1, Nat.lt_succ_self n1, z8, (if (w64 ((w64 (r1 * x1)) + r2)) < y2 then (w64 ((w64 (r1 * x1)) + r2)) else y2), (if (w64 ((w64 (r1 * x1)) + r2)) > y3 then (w64 ((w64 (r1 * x1)) + r2)) else y3), y4, (w64 (y1 + (1 : Int))), (Zone.le_trans (Zone.le_trans (Zone.le_trans k6 k7) k8) k9), hf79, hS25, hr28⟩
    ·have hr29 := cond_f hb4 hr11
     refine w_exit (id := 0) (by kernel_rfl) ?_
     refine x_then ?_
     refine x_then ?_
     refine x_block ?_
     refine n_then ?_
     refine w_sr (by kernel_rfl) ?_
     refine p_call (i := 0) (d := some 83) (f := 105) (args := #[pB b3 0]) hf31 (by kernel_rfl) (Φ := fun v w => ∃ z9 : Zone, ∃ y12 : Int, ∃ y13 : Int, ∃ y14 : Int, Zone.le z5 z9 ∧ v = .tuple #[.agg #[vI y12, vI y13], vI y14] ∧ St z9 (box b3 [vI y8, vI y9, .bool y10, .bool false] 100 :: box b2 [vI 0, vI 0] 41 :: box b1 [vI x0_lo, vI x0_hi] 41 :: L) w ∧ (F40_j5 y12 y13 y14) = some r) ?_ ?_
     ·refine calls_intro (N := 21) Try.func105 (by kernel_rfl) fun a66 hf80 => ?_
      refine w_sr (by kernel_rfl) ?_
      refine p_box (i := 0) (d := (some 2)) (cs := [vI 0, vI 0]) (T := 41) (v := fun b4 => pB b4 0) hS10 hf80 (fun b => by kernel_rfl) fun b4 ww24 a67 hS26 hf81 => ⟨fun _ => trivial, ?_⟩
      refine p_qt [] [(0, pB b3 0), (2, pB b4 0)] [] hf81 (by kernel_rfl) .nil fun a68 hf82 => ?_
      refine w_seq (by kernel_rfl) ?_
      refine w_sr (by kernel_rfl) ?_
      refine p_qn 9 [.bool false, vI y8, vI y9] [(0, pB b3 0), (2, pB b4 0), (8, .bool false), (12, .agg #[vI y8, vI y9])] [.cell ⟨b3, 3, none⟩ (.bool false), .cell ⟨b3, 0, none⟩ (vI y8), .cell ⟨b3, 1, none⟩ (vI y9)] hf82 (by kernel_rfl) (.cell (hS26.box (i := 1) rfl (j := 3) rfl) (.cell (hS26.box (i := 1) rfl (j := 0) rfl) (.cell (hS26.box (i := 1) rfl (j := 1) rfl) .nil))) fun a69 hf83 => ?_
      obtain ⟨r4, hd8, hr30⟩ := bind_some hr29
      refine p_call (i := 9) (d := some 13) (f := 52) (args := #[.agg #[vI y8, vI y9]]) hf83 (by kernel_rfl) (f52_ok fuel y8 y9 r4 hd8 z5 _ _ hS26 ) ?_
      rintro v7 ww25 a70 ⟨z10, k10, rfl, hS27⟩ hf84
      refine ⟨fun _ => trivial, ?_⟩
      refine p_qt [] [(0, pB b3 0), (2, pB b4 0), (15, .bool (r4 != (0 : Int)))] [] hf84 (by kernel_rfl) .nil fun a71 hf85 => ?_
      refine w_if hf85 (b := (r4 != (0 : Int))) (by kernel_rfl) (fun hb10 => ?_) (fun hb10 => ?_)
      ·have hr31 := cond_t hb10 hr30
       refine w_sr (by kernel_rfl) ?_
       refine p_qn 1 [] [(2, pB b4 0), (16, .agg #[vI 0, vI 0])] [] hf85 (by kernel_rfl) .nil fun a72 hf86 => ?_
       refine p_store_eq (i := 1) (j := 0) (b := b4) (off := 0) (vs := [vI 0, vI 0]) (cs' := [vI 0, vI 0]) hS27 hf86 rfl (by kernel_rfl) (by kernel_rfl) rfl fun ww26 a73 hS28 hf87 => ⟨fun _ => trivial, ?_⟩
       refine p_qt [] [(2, pB b4 0), (3, vI 5)] [] hf87 (by kernel_rfl) .nil fun a74 hf88 => ?_
       refine w_ret (by kernel_rfl) ?_
       refine r_then ?_
       refine p_ret (os := [vI 0, vI 0]) (v := .tuple #[.agg #[vI 0, vI 0], vI 5]) (obs := [.cell ⟨b4, 0, none⟩ (vI 0), .cell ⟨b4, 1, none⟩ (vI 0)]) hf88 (by kernel_rfl) (.cell (hS28.box (i := 0) rfl (j := 0) rfl) (.cell (hS28.box (i := 0) rfl (j := 1) rfl) .nil)) ?_
       exact ⟨_, rfl, z10, 0, 0, 5, k10, rfl, (St.drop 1 hS28), hr31⟩
      ·have hr32 := cond_f hb10 hr30
       refine w_skip (by kernel_rfl) ?_
       refine n_then ?_
       refine w_sr (by kernel_rfl) ?_
       refine p_qn 4 [vI y8, vI y9] [(2, pB b4 0), (20, .agg #[vI y8, vI y9])] [.cell ⟨b3, 0, none⟩ (vI y8), .cell ⟨b3, 1, none⟩ (vI y9)] hf85 (by kernel_rfl) (.cell (hS27.box (i := 1) rfl (j := 0) rfl) (.cell (hS27.box (i := 1) rfl (j := 1) rfl) .nil)) fun a75 hf89 => ?_
       refine p_store_eq (i := 4) (j := 0) (b := b4) (off := 0) (vs := [vI y8, vI y9]) (cs' := [vI y8, vI y9]) hS27 hf89 rfl (by kernel_rfl) (by kernel_rfl) rfl fun ww27 a76 hS29 hf90 => ⟨fun _ => trivial, ?_⟩
       refine p_qt [] [(2, pB b4 0), (3, vI 0)] [] hf90 (by kernel_rfl) .nil fun a77 hf91 => ?_
       refine w_ret (by kernel_rfl) ?_
       refine p_ret (os := [vI y8, vI y9]) (v := .tuple #[.agg #[vI y8, vI y9], vI 0]) (obs := [.cell ⟨b4, 0, none⟩ (vI y8), .cell ⟨b4, 1, none⟩ (vI y9)]) hf91 (by kernel_rfl) (.cell (hS29.box (i := 0) rfl (j := 0) rfl) (.cell (hS29.box (i := 0) rfl (j := 1) rfl) .nil)) ?_
       exact ⟨_, rfl, z10, y8, y9, 0, k10, rfl, (St.drop 1 hS29), hr32⟩
     ·rintro v8 ww28 a78 ⟨z9, y12, y13, y14, k11, rfl, hS30, hr33⟩ hf92
      refine ⟨fun _ => trivial, ?_⟩
      refine p_qn 2 [] [(6, pB b2 0), (84, .agg #[vI y12, vI y13]), (85, vI y14)] [] hf92 (by kernel_rfl) .nil fun a79 hf93 => ?_
      refine p_store_eq (i := 3) (j := 1) (b := b2) (off := 0) (vs := [vI y12, vI y13]) (cs' := [vI y12, vI y13]) hS30 hf93 rfl (by kernel_rfl) (by kernel_rfl) rfl fun ww29 a80 hS31 hf94 => ⟨fun _ => trivial, ?_⟩
      refine p_qt [] [(6, pB b2 0), (7, vI y14)] [] hf94 (by kernel_rfl) .nil fun a81 hf95 => ?_
      refine w_ret (by kernel_rfl) ?_
      refine p_ret (os := [vI y12, vI y13]) (v := .tuple #[.agg #[vI y12, vI y13], vI y14]) (obs := [.cell ⟨b2, 0, none⟩ (vI y12), .cell ⟨b2, 1, none⟩ (vI y13)]) hf95 (by kernel_rfl) (.cell (hS31.box (i := 1) rfl (j := 0) rfl) (.cell (hS31.box (i := 1) rfl (j := 1) rfl) .nil)) ?_
      obtain rfl := some_eq hr33
      exact ⟨_, rfl, z9, (Zone.le_trans (Zone.le_trans (Zone.le_trans k2 k5) k6) k11), rfl, (St.drop 3 hS31)⟩
def F41 (fuel : Nat) (x0_lo : Int) (x0_hi : Int) (x1_lo : Int) (x1_hi : Int) : Option (Int × Int × Int) :=
  ((F106 fuel x0_lo x0_hi x1_lo x1_hi).bind fun r1 => (cond (r1 != (0 : Int)) (some (0, 0, r1)) (some ((if x1_lo < x0_lo then x1_lo else x0_lo), (if x1_hi > x0_hi then x1_hi else x0_hi), 0))))
set_option maxRecDepth 100000 in
theorem f41_ok (fuel : Nat) (x0_lo : Int) (x0_hi : Int) (x1_lo : Int) (x1_hi : Int) (r : Int × Int × Int) (hr : F41 fuel x0_lo x0_hi x1_lo x1_hi = some r) (h : Zone) (L : List Atom) (w : World) (hS : St h L w)  :
    Calls Try.prog 41 #[.agg #[vI x0_lo, vI x0_hi], .agg #[vI x1_lo, vI x1_hi]] w fun e w' => ∃ v, e = .returned v ∧ (∃ h', Zone.le h h' ∧ v = .tuple #[.agg #[vI r.1, vI r.2.1], vI r.2.2] ∧ St h' L w') := by
 refine calls_intro (N := 25) Try.func41 (by kernel_rfl) fun a hf => ?_
 refine w_sr (by kernel_rfl) ?_
 refine p_box (i := 0) (d := (some 2)) (cs := [vI x0_lo, vI x0_hi]) (T := 41) (v := fun b1 => pB b1 0) hS hf (fun b => by kernel_rfl) fun b1 ww1 a1 hS1 hf1 => ⟨fun _ => trivial, ?_⟩
 refine p_box (i := 1) (d := (some 3)) (cs := [vI x1_lo, vI x1_hi]) (T := 41) (v := fun b2 => pB b2 0) hS1 hf1 (fun b => by kernel_rfl) fun b2 ww2 a2 hS2 hf2 => ⟨fun _ => trivial, ?_⟩
 refine p_box (i := 2) (d := (some 4)) (cs := [vI 0, vI 0]) (T := 41) (v := fun b3 => pB b3 0) hS2 hf2 (fun b => by kernel_rfl) fun b3 ww3 a3 hS3 hf3 => ⟨fun _ => trivial, ?_⟩
 refine p_qt [] [(2, pB b1 0), (3, pB b2 0), (4, pB b3 0)] [] hf3 (by kernel_rfl) .nil fun a4 hf4 => ?_
 refine w_seq (by kernel_rfl) ?_
 refine w_sr (by kernel_rfl) ?_
 refine p_qn 2 [vI x0_lo, vI x0_hi, vI x1_lo, vI x1_hi] [(2, pB b1 0), (3, pB b2 0), (4, pB b3 0), (7, .agg #[vI x0_lo, vI x0_hi]), (8, .agg #[vI x1_lo, vI x1_hi])] [.cell ⟨b1, 0, none⟩ (vI x0_lo), .cell ⟨b1, 1, none⟩ (vI x0_hi), .cell ⟨b2, 0, none⟩ (vI x1_lo), .cell ⟨b2, 1, none⟩ (vI x1_hi)] hf4 (by kernel_rfl) (.cell (hS3.box (i := 2) rfl (j := 0) rfl) (.cell (hS3.box (i := 2) rfl (j := 1) rfl) (.cell (hS3.box (i := 1) rfl (j := 0) rfl) (.cell (hS3.box (i := 1) rfl (j := 1) rfl) .nil)))) fun a5 hf5 => ?_
 obtain ⟨r1, hd1, hr1⟩ := bind_some hr
 refine p_call (i := 2) (d := some 9) (f := 106) (args := #[.agg #[vI x0_lo, vI x0_hi], .agg #[vI x1_lo, vI x1_hi]]) hf5 (by kernel_rfl) (f106_ok fuel x0_lo x0_hi x1_lo x1_hi r1 hd1 h _ _ hS3 ) ?_
 rintro v1 ww4 a6 ⟨z1, k1, rfl, hS4⟩ hf6
 refine ⟨fun _ => trivial, ?_⟩
 refine p_qt [] [(2, pB b1 0), (3, pB b2 0), (4, pB b3 0), (6, vI r1)] [] hf6 (by kernel_rfl) .nil fun a7 hf7 => ?_
 refine w_sq [] [(2, pB b1 0), (3, pB b2 0), (4, pB b3 0), (6, vI r1), (11, .bool (r1 != (0 : Int)))] [] hf7 (by kernel_rfl) .nil fun a8 hf8 => ?_
 refine w_if hf8 (b := (r1 != (0 : Int))) (by kernel_rfl) (fun hb1 => ?_) (fun hb1 => ?_)
 ·have hr2 := cond_t hb1 hr1
  refine w_sr (by kernel_rfl) ?_
  refine p_qn 2 [] [(4, pB b3 0), (12, .agg #[vI 0, vI 0]), (13, vI r1)] [] hf8 (by kernel_rfl) .nil fun a9 hf9 => ?_
  refine p_store_eq (i := 2) (j := 0) (b := b3) (off := 0) (vs := [vI 0, vI 0]) (cs' := [vI 0, vI 0]) hS4 hf9 rfl (by kernel_rfl) (by kernel_rfl) rfl fun ww5 a10 hS5 hf10 => ⟨fun _ => trivial, ?_⟩
  refine p_qt [] [(4, pB b3 0), (5, vI r1)] [] hf10 (by kernel_rfl) .nil fun a11 hf11 => ?_
  refine w_ret (by kernel_rfl) ?_
  refine r_then ?_
  refine p_ret (os := [vI 0, vI 0]) (v := .tuple #[.agg #[vI 0, vI 0], vI r1]) (obs := [.cell ⟨b3, 0, none⟩ (vI 0), .cell ⟨b3, 1, none⟩ (vI 0)]) hf11 (by kernel_rfl) (.cell (hS5.box (i := 0) rfl (j := 0) rfl) (.cell (hS5.box (i := 0) rfl (j := 1) rfl) .nil)) ?_
  obtain rfl := some_eq hr2
  exact ⟨_, rfl, z1, k1, rfl, (St.drop 3 hS5)⟩
 ·have hr3 := cond_f hb1 hr1
  refine w_skip (by kernel_rfl) ?_
  refine n_then ?_
  refine w_sr (by kernel_rfl) ?_
  refine p_qn 11 [vI x0_lo, vI x1_lo, vI x0_hi, vI x1_hi] [(4, pB b3 0), (24, .agg #[vI (if x1_lo < x0_lo then x1_lo else x0_lo), vI (if x1_hi > x0_hi then x1_hi else x0_hi)])] [.cell ⟨b1, 0, none⟩ (vI x0_lo), .cell ⟨b2, 0, none⟩ (vI x1_lo), .cell ⟨b1, 1, none⟩ (vI x0_hi), .cell ⟨b2, 1, none⟩ (vI x1_hi)] hf8 (by kernel_rfl) (.cell (hS4.box (i := 2) rfl (j := 0) rfl) (.cell (hS4.box (i := 1) rfl (j := 0) rfl) (.cell (hS4.box (i := 2) rfl (j := 1) rfl) (.cell (hS4.box (i := 1) rfl (j := 1) rfl) .nil)))) fun a12 hf12 => ?_
  refine p_store_eq (i := 11) (j := 0) (b := b3) (off := 0) (vs := [vI (if x1_lo < x0_lo then x1_lo else x0_lo), vI (if x1_hi > x0_hi then x1_hi else x0_hi)]) (cs' := [vI (if x1_lo < x0_lo then x1_lo else x0_lo), vI (if x1_hi > x0_hi then x1_hi else x0_hi)]) hS4 hf12 rfl (by kernel_rfl) (by kernel_rfl) rfl fun ww6 a13 hS6 hf13 => ⟨fun _ => trivial, ?_⟩
  refine p_qt [] [(4, pB b3 0), (5, vI 0)] [] hf13 (by kernel_rfl) .nil fun a14 hf14 => ?_
  refine w_ret (by kernel_rfl) ?_
  refine p_ret (os := [vI (if x1_lo < x0_lo then x1_lo else x0_lo), vI (if x1_hi > x0_hi then x1_hi else x0_hi)]) (v := .tuple #[.agg #[vI (if x1_lo < x0_lo then x1_lo else x0_lo), vI (if x1_hi > x0_hi then x1_hi else x0_hi)], vI 0]) (obs := [.cell ⟨b3, 0, none⟩ (vI (if x1_lo < x0_lo then x1_lo else x0_lo)), .cell ⟨b3, 1, none⟩ (vI (if x1_hi > x0_hi then x1_hi else x0_hi))]) hf14 (by kernel_rfl) (.cell (hS6.box (i := 0) rfl (j := 0) rfl) (.cell (hS6.box (i := 0) rfl (j := 1) rfl) .nil)) ?_
  obtain rfl := some_eq hr3
  exact ⟨_, rfl, z1, k1, rfl, (St.drop 3 hS6)⟩
def F7_j4 (y1 : Bool) : Option (Bool) :=
  (some (y1))
def F7_j3 (fuel : Nat) (r1 : Int × Int × Int) (r2 : Int × Int × Int) (y2 : Bool) : Option (Bool) :=
  (cond (r2.2.2 == (0 : Int)) ((F43 fuel r2.1 r2.2.1 r1.2.2).bind fun r3 => (cond (y2 == r3) (cond (r2.2.2 == (0 : Int)) ((F13 fuel ).bind fun r4 => (F7_j4 r4)) (cond (r2.2.2 == (3 : Int)) ((F13 fuel ).bind fun r5 => (F7_j4 r5)) (F7_j4 false))) (F7_j4 false))) (cond (y2 == false) (cond (r2.2.2 == (0 : Int)) ((F13 fuel ).bind fun r6 => (F7_j4 r6)) (cond (r2.2.2 == (3 : Int)) ((F13 fuel ).bind fun r7 => (F7_j4 r7)) (F7_j4 false))) (F7_j4 false)))
def F7_j2 (fuel : Nat) (r1 : Int × Int × Int) (r8 : Int × Int × Int) (r2 : Int × Int × Int) (y3 : Bool) : Option (Bool) :=
  (cond y3 (some (false)) ((F43 fuel r1.1 r1.2.1 r1.2.2).bind fun r9 => (cond r9 ((F43 fuel r8.1 r8.2.1 r1.2.2).bind fun r10 => (F7_j3 fuel r1 r2 r10)) (F7_j3 fuel r1 r2 false))))
def F7_j1 (fuel : Nat) (r1 : Int × Int × Int) (r8 : Int × Int × Int) (r11 : Int) (r12 : Int) (r13 : Int) (r14 : Int × Int × Int) (r15 : Int × Int × Int) (r16 : Int × Int × Int) (r17 : Int × Int × Int) (r18 : Int × Int × Int) (r2 : Int × Int × Int) (y4 : Bool) : Option (Bool) :=
  (cond y4 (some (false)) ((F43 fuel r14.1 r14.2.1 (w64 (r1.2.2 + r8.2.2))).bind fun r19 => (cond (!r19) (F7_j2 fuel r1 r8 r2 true) ((F43 fuel r15.1 r15.2.1 (w64 (r1.2.2 - r8.2.2))).bind fun r20 => (cond (!r20) (F7_j2 fuel r1 r8 r2 true) ((F43 fuel r16.1 r16.2.1 (w64 (r1.2.2 * r8.2.2))).bind fun r21 => (cond (!r21) (F7_j2 fuel r1 r8 r2 true) (cond (decide ((w64 (r17.1 * (w64 ((1 : Int) + (Int.tmod (if (w64 (0 - r13)) > r12 then (w64 (0 - r13)) else r12) 1000))))) > (w64 (r1.2.2 * (Int.tmod r11 1001))))) (F7_j2 fuel r1 r8 r2 true) (cond (decide ((w64 (r17.2.1 * (w64 ((1 : Int) + (Int.tmod (if (w64 (0 - r13)) > r12 then (w64 (0 - r13)) else r12) 1000))))) < (w64 (r1.2.2 * (Int.tmod r11 1001))))) (F7_j2 fuel r1 r8 r2 true) ((F43 fuel r18.1 r18.2.1 r1.2.2).bind fun r22 => (cond (!r22) (F7_j2 fuel r1 r8 r2 true) ((F43 fuel r18.1 r18.2.1 r8.2.2).bind fun r23 => (F7_j2 fuel r1 r8 r2 (!r23))))))))))))))
def F7 (fuel : Nat) (y5 : Int) (y6 : Int) (y7 : Int) (y8 : Int) (y9 : Int) (y10 : Int) (x1 : Int) (x2 : Int) : Option (Bool) :=
  ((F35 fuel y5 y6 y7).bind fun r1 => ((F35 fuel y8 y9 y10).bind fun r8 => ((F36 fuel x1).bind fun r11 => ((F36 fuel x2).bind fun r12 => ((F36 fuel x2).bind fun r13 => ((F37 fuel r1.1 r1.2.1 r8.1 r8.2.1).bind fun r14 => ((F38 fuel r1.1 r1.2.1 r8.1 r8.2.1).bind fun r15 => ((F39 fuel r1.1 r1.2.1 r8.1 r8.2.1).bind fun r16 => ((F40 fuel r1.1 r1.2.1 (Int.tmod r11 1001) (w64 ((1 : Int) + (Int.tmod (if (w64 (0 - r13)) > r12 then (w64 (0 - r13)) else r12) 1000)))).bind fun r17 => ((F41 fuel r1.1 r1.2.1 r8.1 r8.2.1).bind fun r18 => ((F42 fuel r1.1 r1.2.1 r8.1 r8.2.1).bind fun r2 => (cond (r14.2.2 != (0 : Int)) (F7_j1 fuel r1 r8 r11 r12 r13 r14 r15 r16 r17 r18 r2 true) (cond (r15.2.2 != (0 : Int)) (F7_j1 fuel r1 r8 r11 r12 r13 r14 r15 r16 r17 r18 r2 true) (cond (r16.2.2 != (0 : Int)) (F7_j1 fuel r1 r8 r11 r12 r13 r14 r15 r16 r17 r18 r2 true) (cond (r17.2.2 != (0 : Int)) (F7_j1 fuel r1 r8 r11 r12 r13 r14 r15 r16 r17 r18 r2 true) (F7_j1 fuel r1 r8 r11 r12 r13 r14 r15 r16 r17 r18 r2 (r18.2.2 != (0 : Int))))))))))))))))))
set_option maxRecDepth 100000 in
theorem f7_ok (fuel : Nat) (y5 : Int) (y6 : Int) (y7 : Int) (y8 : Int) (y9 : Int) (y10 : Int) (x1 : Int) (x2 : Int) (r : Bool) (hr : F7 fuel y5 y6 y7 y8 y9 y10 x1 x2 = some r) (h : Zone) (L : List Atom) (w : World) (hS : St h L w)  :
    Calls Try.prog 7 #[.agg #[vI y5, vI y6, vI y7, vI y8, vI y9, vI y10], vI x1, vI x2] w fun e w' => ∃ v, e = .returned v ∧ (∃ h', Zone.le h h' ∧ v = .bool r ∧ St h' L w') := by
 refine calls_intro (N := 192) Try.func7 (by kernel_rfl) fun a hf => ?_
 refine w_sr (by kernel_rfl) ?_
 refine p_box (i := 0) (d := (some 3)) (cs := [vI y5, vI y6, vI y7, vI y8, vI y9, vI y10]) (T := 63) (v := fun b1 => pB b1 0) hS hf (fun b => by kernel_rfl) fun b1 ww1 a1 hS1 hf1 => ⟨fun _ => trivial, ?_⟩
 refine p_qt [] [(1, vI x1), (2, vI x2), (3, pB b1 0)] [] hf1 (by kernel_rfl) .nil fun a2 hf2 => ?_
 refine w_sr (by kernel_rfl) ?_
 refine p_qn 6 [vI y5, vI y6, vI y7] [(1, vI x1), (2, vI x2), (3, pB b1 0), (26, vI y5), (28, vI y6), (30, vI y7)] [.prop ((0 : Int) ≤ 0 ∧ (0 : Int) < (6 : Nat)), .cell ⟨b1, 0, none⟩ (vI y5), .prop ((0 : Int) ≤ 1 ∧ (1 : Int) < (6 : Nat)), .cell ⟨b1, 1, none⟩ (vI y6), .prop ((0 : Int) ≤ 2 ∧ (2 : Int) < (6 : Nat)), .cell ⟨b1, 2, none⟩ (vI y7)] hf2 (by kernel_rfl) (.prop (by decide) (.cell (hS1.box (i := 0) rfl (j := 0) rfl) (.prop (by decide) (.cell (hS1.box (i := 0) rfl (j := 1) rfl) (.prop (by decide) (.cell (hS1.box (i := 0) rfl (j := 2) rfl) .nil)))))) fun a3 hf3 => ?_
 obtain ⟨r1, hd1, hr1⟩ := bind_some hr
 refine p_call (i := 6) (d := some 31) (f := 35) (args := #[vI y5, vI y6, vI y7]) hf3 (by kernel_rfl) (f35_ok fuel y5 y6 y7 r1 hd1 h _ _ hS1 ) ?_
 rintro v1 ww2 a4 ⟨rfl, hS2⟩ hf4
 refine ⟨fun _ => trivial, ?_⟩
 refine p_qn 3 [] [(1, vI x1), (2, vI x2), (3, pB b1 0), (32, .agg #[vI r1.1, vI r1.2.1]), (33, vI r1.2.2)] [] hf4 (by kernel_rfl) .nil fun a5 hf5 => ?_
 refine p_box (i := 10) (d := (some 7)) (cs := [vI 0, vI 0]) (T := 41) (v := fun b2 => pB b2 0) hS2 hf5 (fun b => by kernel_rfl) fun b2 ww3 a6 hS3 hf6 => ⟨fun _ => trivial, ?_⟩
 refine p_store_eq (i := 11) (j := 0) (b := b2) (off := 0) (vs := [vI r1.1, vI r1.2.1]) (cs' := [vI r1.1, vI r1.2.1]) hS3 hf6 rfl (by kernel_rfl) (by kernel_rfl) rfl fun ww4 a7 hS4 hf7 => ⟨fun _ => trivial, ?_⟩
 refine p_qt [] [(1, vI x1), (2, vI x2), (3, pB b1 0), (7, pB b2 0), (8, vI r1.2.2)] [] hf7 (by kernel_rfl) .nil fun a8 hf8 => ?_
 refine w_sr (by kernel_rfl) ?_
 refine p_qn 6 [vI y8, vI y9, vI y10] [(1, vI x1), (2, vI x2), (7, pB b2 0), (8, vI r1.2.2), (36, vI y8), (38, vI y9), (40, vI y10)] [.prop ((0 : Int) ≤ 3 ∧ (3 : Int) < (6 : Nat)), .cell ⟨b1, 3, none⟩ (vI y8), .prop ((0 : Int) ≤ 4 ∧ (4 : Int) < (6 : Nat)), .cell ⟨b1, 4, none⟩ (vI y9), .prop ((0 : Int) ≤ 5 ∧ (5 : Int) < (6 : Nat)), .cell ⟨b1, 5, none⟩ (vI y10)] hf8 (by kernel_rfl) (.prop (by decide) (.cell (hS4.box (i := 1) rfl (j := 3) rfl) (.prop (by decide) (.cell (hS4.box (i := 1) rfl (j := 4) rfl) (.prop (by decide) (.cell (hS4.box (i := 1) rfl (j := 5) rfl) .nil)))))) fun a9 hf9 => ?_
 obtain ⟨r8, hd2, hr2⟩ := bind_some hr1
 refine p_call (i := 6) (d := some 41) (f := 35) (args := #[vI y8, vI y9, vI y10]) hf9 (by kernel_rfl) (f35_ok fuel y8 y9 y10 r8 hd2 h _ _ hS4 ) ?_
 rintro v2 ww5 a10 ⟨rfl, hS5⟩ hf10
 refine ⟨fun _ => trivial, ?_⟩
 refine p_qn 3 [] [(1, vI x1), (2, vI x2), (7, pB b2 0), (8, vI r1.2.2), (42, .agg #[vI r8.1, vI r8.2.1]), (43, vI r8.2.2)] [] hf10 (by kernel_rfl) .nil fun a11 hf11 => ?_
 refine p_box (i := 10) (d := (some 9)) (cs := [vI 0, vI 0]) (T := 41) (v := fun b3 => pB b3 0) hS5 hf11 (fun b => by kernel_rfl) fun b3 ww6 a12 hS6 hf12 => ⟨fun _ => trivial, ?_⟩
 refine p_store_eq (i := 11) (j := 0) (b := b3) (off := 0) (vs := [vI r8.1, vI r8.2.1]) (cs' := [vI r8.1, vI r8.2.1]) hS6 hf12 rfl (by kernel_rfl) (by kernel_rfl) rfl fun ww7 a13 hS7 hf13 => ⟨fun _ => trivial, ?_⟩
 refine p_qt [] [(1, vI x1), (2, vI x2), (7, pB b2 0), (8, vI r1.2.2), (9, pB b3 0), (10, vI r8.2.2)] [] hf13 (by kernel_rfl) .nil fun a14 hf14 => ?_
 refine w_sr (by kernel_rfl) ?_
 refine p_qn 1 [] [(2, vI x2), (7, pB b2 0), (8, vI r1.2.2), (9, pB b3 0), (10, vI r8.2.2), (44, vI x1)] [] hf14 (by kernel_rfl) .nil fun a15 hf15 => ?_
 obtain ⟨r11, hd3, hr3⟩ := bind_some hr2
 refine p_call (i := 1) (d := some 45) (f := 36) (args := #[vI x1]) hf15 (by kernel_rfl) (f36_ok fuel x1 r11 hd3 h _ _ hS7 ) ?_
 rintro v3 ww8 a16 ⟨rfl, hS8⟩ hf16
 refine ⟨fun _ => trivial, ?_⟩
 refine p_qt [] [(1, vI (Int.tmod r11 1001)), (2, vI x2), (7, pB b2 0), (8, vI r1.2.2), (9, pB b3 0), (10, vI r8.2.2)] [.prop ((1001 : Int) ≠ 0)] hf16 (by kernel_rfl) (.prop (by decide) .nil) fun a17 hf17 => ?_
 refine w_sr (by kernel_rfl) ?_
 refine p_qn 1 [] [(1, vI (Int.tmod r11 1001)), (2, vI x2), (7, pB b2 0), (8, vI r1.2.2), (9, pB b3 0), (10, vI r8.2.2), (47, vI x2)] [] hf17 (by kernel_rfl) .nil fun a18 hf18 => ?_
 obtain ⟨r12, hd4, hr4⟩ := bind_some hr3
 refine p_call (i := 1) (d := some 48) (f := 36) (args := #[vI x2]) hf18 (by kernel_rfl) (f36_ok fuel x2 r12 hd4 h _ _ hS8 ) ?_
 rintro v4 ww9 a19 ⟨rfl, hS9⟩ hf19
 refine ⟨fun _ => trivial, ?_⟩
 refine p_qn 1 [] [(1, vI (Int.tmod r11 1001)), (7, pB b2 0), (8, vI r1.2.2), (9, pB b3 0), (10, vI r8.2.2), (48, vI r12), (49, vI x2)] [] hf19 (by kernel_rfl) .nil fun a20 hf20 => ?_
 obtain ⟨r13, hd5, hr5⟩ := bind_some hr4
 refine p_call (i := 3) (d := some 50) (f := 36) (args := #[vI x2]) hf20 (by kernel_rfl) (f36_ok fuel x2 r13 hd5 h _ _ hS9 ) ?_
 rintro v5 ww10 a21 ⟨rfl, hS10⟩ hf21
 refine ⟨fun _ => trivial, ?_⟩
 refine p_qt [] [(1, vI (Int.tmod r11 1001)), (2, vI (w64 ((1 : Int) + (Int.tmod (if (w64 (0 - r13)) > r12 then (w64 (0 - r13)) else r12) 1000)))), (7, pB b2 0), (8, vI r1.2.2), (9, pB b3 0), (10, vI r8.2.2)] [.prop ((1000 : Int) ≠ 0)] hf21 (by kernel_rfl) (.prop (by decide) .nil) fun a22 hf22 => ?_
 refine w_sr (by kernel_rfl) ?_
 refine p_qn 2 [vI r1.1, vI r1.2.1, vI r8.1, vI r8.2.1] [(1, vI (Int.tmod r11 1001)), (2, vI (w64 ((1 : Int) + (Int.tmod (if (w64 (0 - r13)) > r12 then (w64 (0 - r13)) else r12) 1000)))), (7, pB b2 0), (8, vI r1.2.2), (9, pB b3 0), (10, vI r8.2.2), (56, .agg #[vI r1.1, vI r1.2.1]), (57, .agg #[vI r8.1, vI r8.2.1])] [.cell ⟨b2, 0, none⟩ (vI r1.1), .cell ⟨b2, 1, none⟩ (vI r1.2.1), .cell ⟨b3, 0, none⟩ (vI r8.1), .cell ⟨b3, 1, none⟩ (vI r8.2.1)] hf22 (by kernel_rfl) (.cell (hS10.box (i := 1) rfl (j := 0) rfl) (.cell (hS10.box (i := 1) rfl (j := 1) rfl) (.cell (hS10.box (i := 0) rfl (j := 0) rfl) (.cell (hS10.box (i := 0) rfl (j := 1) rfl) .nil)))) fun a23 hf23 => ?_
 obtain ⟨r14, hd6, hr6⟩ := bind_some hr5
 refine p_call (i := 2) (d := some 58) (f := 37) (args := #[.agg #[vI r1.1, vI r1.2.1], .agg #[vI r8.1, vI r8.2.1]]) hf23 (by kernel_rfl) (f37_ok fuel r1.1 r1.2.1 r8.1 r8.2.1 r14 hd6 h _ _ hS10 ) ?_
 rintro v6 ww11 a24 ⟨z1, k1, rfl, hS11⟩ hf24
 refine ⟨fun _ => trivial, ?_⟩
 refine p_qn 3 [] [(1, vI (Int.tmod r11 1001)), (2, vI (w64 ((1 : Int) + (Int.tmod (if (w64 (0 - r13)) > r12 then (w64 (0 - r13)) else r12) 1000)))), (7, pB b2 0), (8, vI r1.2.2), (9, pB b3 0), (10, vI r8.2.2), (59, .agg #[vI r14.1, vI r14.2.1]), (60, vI r14.2.2)] [] hf24 (by kernel_rfl) .nil fun a25 hf25 => ?_
 refine p_box (i := 6) (d := (some 11)) (cs := [vI 0, vI 0]) (T := 41) (v := fun b4 => pB b4 0) hS11 hf25 (fun b => by kernel_rfl) fun b4 ww12 a26 hS12 hf26 => ⟨fun _ => trivial, ?_⟩
 refine p_store_eq (i := 7) (j := 0) (b := b4) (off := 0) (vs := [vI r14.1, vI r14.2.1]) (cs' := [vI r14.1, vI r14.2.1]) hS12 hf26 rfl (by kernel_rfl) (by kernel_rfl) rfl fun ww13 a27 hS13 hf27 => ⟨fun _ => trivial, ?_⟩
 refine p_qt [] [(1, vI (Int.tmod r11 1001)), (2, vI (w64 ((1 : Int) + (Int.tmod (if (w64 (0 - r13)) > r12 then (w64 (0 - r13)) else r12) 1000)))), (7, pB b2 0), (8, vI r1.2.2), (9, pB b3 0), (10, vI r8.2.2), (11, pB b4 0), (12, vI r14.2.2)] [] hf27 (by kernel_rfl) .nil fun a28 hf28 => ?_
 refine w_sr (by kernel_rfl) ?_
 refine p_qn 2 [vI r1.1, vI r1.2.1, vI r8.1, vI r8.2.1] [(1, vI (Int.tmod r11 1001)), (2, vI (w64 ((1 : Int) + (Int.tmod (if (w64 (0 - r13)) > r12 then (w64 (0 - r13)) else r12) 1000)))), (7, pB b2 0), (8, vI r1.2.2), (9, pB b3 0), (10, vI r8.2.2), (11, pB b4 0), (12, vI r14.2.2), (62, .agg #[vI r1.1, vI r1.2.1]), (63, .agg #[vI r8.1, vI r8.2.1])] [.cell ⟨b2, 0, none⟩ (vI r1.1), .cell ⟨b2, 1, none⟩ (vI r1.2.1), .cell ⟨b3, 0, none⟩ (vI r8.1), .cell ⟨b3, 1, none⟩ (vI r8.2.1)] hf28 (by kernel_rfl) (.cell (hS13.box (i := 2) rfl (j := 0) rfl) (.cell (hS13.box (i := 2) rfl (j := 1) rfl) (.cell (hS13.box (i := 1) rfl (j := 0) rfl) (.cell (hS13.box (i := 1) rfl (j := 1) rfl) .nil)))) fun a29 hf29 => ?_
 obtain ⟨r15, hd7, hr7⟩ := bind_some hr6
 refine p_call (i := 2) (d := some 64) (f := 38) (args := #[.agg #[vI r1.1, vI r1.2.1], .agg #[vI r8.1, vI r8.2.1]]) hf29 (by kernel_rfl) (f38_ok fuel r1.1 r1.2.1 r8.1 r8.2.1 r15 hd7 z1 _ _ hS13 ) ?_
 rintro v7 ww14 a30 ⟨z2, k2, rfl, hS14⟩ hf30
 refine ⟨fun _ => trivial, ?_⟩
 refine p_qn 3 [] [(1, vI (Int.tmod r11 1001)), (2, vI (w64 ((1 : Int) + (Int.tmod (if (w64 (0 - r13)) > r12 then (w64 (0 - r13)) else r12) 1000)))), (7, pB b2 0), (8, vI r1.2.2), (9, pB b3 0), (10, vI r8.2.2), (11, pB b4 0), (12, vI r14.2.2), (65, .agg #[vI r15.1, vI r15.2.1]), (66, vI r15.2.2)] [] hf30 (by kernel_rfl) .nil fun a31 hf31 => ?_
 refine p_box (i := 6) (d := (some 13)) (cs := [vI 0, vI 0]) (T := 41) (v := fun b5 => pB b5 0) hS14 hf31 (fun b => by kernel_rfl) fun b5 ww15 a32 hS15 hf32 => ⟨fun _ => trivial, ?_⟩
 refine p_store_eq (i := 7) (j := 0) (b := b5) (off := 0) (vs := [vI r15.1, vI r15.2.1]) (cs' := [vI r15.1, vI r15.2.1]) hS15 hf32 rfl (by kernel_rfl) (by kernel_rfl) rfl fun ww16 a33 hS16 hf33 => ⟨fun _ => trivial, ?_⟩
 refine p_qt [] [(1, vI (Int.tmod r11 1001)), (2, vI (w64 ((1 : Int) + (Int.tmod (if (w64 (0 - r13)) > r12 then (w64 (0 - r13)) else r12) 1000)))), (7, pB b2 0), (8, vI r1.2.2), (9, pB b3 0), (10, vI r8.2.2), (11, pB b4 0), (12, vI r14.2.2), (13, pB b5 0), (14, vI r15.2.2)] [] hf33 (by kernel_rfl) .nil fun a34 hf34 => ?_
 refine w_sr (by kernel_rfl) ?_
 refine p_qn 2 [vI r1.1, vI r1.2.1, vI r8.1, vI r8.2.1] [(1, vI (Int.tmod r11 1001)), (2, vI (w64 ((1 : Int) + (Int.tmod (if (w64 (0 - r13)) > r12 then (w64 (0 - r13)) else r12) 1000)))), (7, pB b2 0), (8, vI r1.2.2), (9, pB b3 0), (10, vI r8.2.2), (11, pB b4 0), (12, vI r14.2.2), (13, pB b5 0), (14, vI r15.2.2), (68, .agg #[vI r1.1, vI r1.2.1]), (69, .agg #[vI r8.1, vI r8.2.1])] [.cell ⟨b2, 0, none⟩ (vI r1.1), .cell ⟨b2, 1, none⟩ (vI r1.2.1), .cell ⟨b3, 0, none⟩ (vI r8.1), .cell ⟨b3, 1, none⟩ (vI r8.2.1)] hf34 (by kernel_rfl) (.cell (hS16.box (i := 3) rfl (j := 0) rfl) (.cell (hS16.box (i := 3) rfl (j := 1) rfl) (.cell (hS16.box (i := 2) rfl (j := 0) rfl) (.cell (hS16.box (i := 2) rfl (j := 1) rfl) .nil)))) fun a35 hf35 => ?_
 obtain ⟨r16, hd8, hr8⟩ := bind_some hr7
 refine p_call (i := 2) (d := some 70) (f := 39) (args := #[.agg #[vI r1.1, vI r1.2.1], .agg #[vI r8.1, vI r8.2.1]]) hf35 (by kernel_rfl) (f39_ok fuel r1.1 r1.2.1 r8.1 r8.2.1 r16 hd8 z2 _ _ hS16 ) ?_
 rintro v8 ww17 a36 ⟨z3, k3, rfl, hS17⟩ hf36
 refine ⟨fun _ => trivial, ?_⟩
 refine p_qn 3 [] [(1, vI (Int.tmod r11 1001)), (2, vI (w64 ((1 : Int) + (Int.tmod (if (w64 (0 - r13)) > r12 then (w64 (0 - r13)) else r12) 1000)))), (7, pB b2 0), (8, vI r1.2.2), (9, pB b3 0), (10, vI r8.2.2), (11, pB b4 0), (12, vI r14.2.2), (13, pB b5 0), (14, vI r15.2.2), (71, .agg #[vI r16.1, vI r16.2.1]), (72, vI r16.2.2)] [] hf36 (by kernel_rfl) .nil fun a37 hf37 => ?_
 refine p_box (i := 6) (d := (some 15)) (cs := [vI 0, vI 0]) (T := 41) (v := fun b6 => pB b6 0) hS17 hf37 (fun b => by kernel_rfl) fun b6 ww18 a38 hS18 hf38 => ⟨fun _ => trivial, ?_⟩
 refine p_store_eq (i := 7) (j := 0) (b := b6) (off := 0) (vs := [vI r16.1, vI r16.2.1]) (cs' := [vI r16.1, vI r16.2.1]) hS18 hf38 rfl (by kernel_rfl) (by kernel_rfl) rfl fun ww19 a39 hS19 hf39 => ⟨fun _ => trivial, ?_⟩
 refine p_qt [] [(1, vI (Int.tmod r11 1001)), (2, vI (w64 ((1 : Int) + (Int.tmod (if (w64 (0 - r13)) > r12 then (w64 (0 - r13)) else r12) 1000)))), (7, pB b2 0), (8, vI r1.2.2), (9, pB b3 0), (10, vI r8.2.2), (11, pB b4 0), (12, vI r14.2.2), (13, pB b5 0), (14, vI r15.2.2), (15, pB b6 0), (16, vI r16.2.2)] [] hf39 (by kernel_rfl) .nil fun a40 hf40 => ?_
 refine w_sr (by kernel_rfl) ?_
 refine p_qn 3 [vI r1.1, vI r1.2.1] [(1, vI (Int.tmod r11 1001)), (2, vI (w64 ((1 : Int) + (Int.tmod (if (w64 (0 - r13)) > r12 then (w64 (0 - r13)) else r12) 1000)))), (7, pB b2 0), (8, vI r1.2.2), (9, pB b3 0), (10, vI r8.2.2), (11, pB b4 0), (12, vI r14.2.2), (13, pB b5 0), (14, vI r15.2.2), (15, pB b6 0), (16, vI r16.2.2), (74, .agg #[vI r1.1, vI r1.2.1]), (75, vI (Int.tmod r11 1001)), (76, vI (w64 ((1 : Int) + (Int.tmod (if (w64 (0 - r13)) > r12 then (w64 (0 - r13)) else r12) 1000))))] [.cell ⟨b2, 0, none⟩ (vI r1.1), .cell ⟨b2, 1, none⟩ (vI r1.2.1)] hf40 (by kernel_rfl) (.cell (hS19.box (i := 4) rfl (j := 0) rfl) (.cell (hS19.box (i := 4) rfl (j := 1) rfl) .nil)) fun a41 hf41 => ?_
 obtain ⟨r17, hd9, hr9⟩ := bind_some hr8
 refine p_call (i := 3) (d := some 77) (f := 40) (args := #[.agg #[vI r1.1, vI r1.2.1], vI (Int.tmod r11 1001), vI (w64 ((1 : Int) + (Int.tmod (if (w64 (0 - r13)) > r12 then (w64 (0 - r13)) else r12) 1000)))]) hf41 (by kernel_rfl) (f40_ok fuel r1.1 r1.2.1 (Int.tmod r11 1001) (w64 ((1 : Int) + (Int.tmod (if (w64 (0 - r13)) > r12 then (w64 (0 - r13)) else r12) 1000))) r17 hd9 z3 _ _ hS19 ) ?_
 rintro v9 ww20 a42 ⟨z4, k4, rfl, hS20⟩ hf42
 refine ⟨fun _ => trivial, ?_⟩
 refine p_qn 3 [] [(1, vI (Int.tmod r11 1001)), (2, vI (w64 ((1 : Int) + (Int.tmod (if (w64 (0 - r13)) > r12 then (w64 (0 - r13)) else r12) 1000)))), (7, pB b2 0), (8, vI r1.2.2), (9, pB b3 0), (10, vI r8.2.2), (11, pB b4 0), (12, vI r14.2.2), (13, pB b5 0), (14, vI r15.2.2), (15, pB b6 0), (16, vI r16.2.2), (78, .agg #[vI r17.1, vI r17.2.1]), (79, vI r17.2.2)] [] hf42 (by kernel_rfl) .nil fun a43 hf43 => ?_
 refine p_box (i := 7) (d := (some 17)) (cs := [vI 0, vI 0]) (T := 41) (v := fun b7 => pB b7 0) hS20 hf43 (fun b => by kernel_rfl) fun b7 ww21 a44 hS21 hf44 => ⟨fun _ => trivial, ?_⟩
 refine p_store_eq (i := 8) (j := 0) (b := b7) (off := 0) (vs := [vI r17.1, vI r17.2.1]) (cs' := [vI r17.1, vI r17.2.1]) hS21 hf44 rfl (by kernel_rfl) (by kernel_rfl) rfl fun ww22 a45 hS22 hf45 => ⟨fun _ => trivial, ?_⟩
 refine p_qt [] [(1, vI (Int.tmod r11 1001)), (2, vI (w64 ((1 : Int) + (Int.tmod (if (w64 (0 - r13)) > r12 then (w64 (0 - r13)) else r12) 1000)))), (7, pB b2 0), (8, vI r1.2.2), (9, pB b3 0), (10, vI r8.2.2), (11, pB b4 0), (12, vI r14.2.2), (13, pB b5 0), (14, vI r15.2.2), (15, pB b6 0), (16, vI r16.2.2), (17, pB b7 0), (18, vI r17.2.2)] [] hf45 (by kernel_rfl) .nil fun a46 hf46 => ?_
 refine w_sr (by kernel_rfl) ?_
 refine p_qn 2 [vI r1.1, vI r1.2.1, vI r8.1, vI r8.2.1] [(1, vI (Int.tmod r11 1001)), (2, vI (w64 ((1 : Int) + (Int.tmod (if (w64 (0 - r13)) > r12 then (w64 (0 - r13)) else r12) 1000)))), (7, pB b2 0), (8, vI r1.2.2), (9, pB b3 0), (10, vI r8.2.2), (11, pB b4 0), (12, vI r14.2.2), (13, pB b5 0), (14, vI r15.2.2), (15, pB b6 0), (16, vI r16.2.2), (17, pB b7 0), (18, vI r17.2.2), (81, .agg #[vI r1.1, vI r1.2.1]), (82, .agg #[vI r8.1, vI r8.2.1])] [.cell ⟨b2, 0, none⟩ (vI r1.1), .cell ⟨b2, 1, none⟩ (vI r1.2.1), .cell ⟨b3, 0, none⟩ (vI r8.1), .cell ⟨b3, 1, none⟩ (vI r8.2.1)] hf46 (by kernel_rfl) (.cell (hS22.box (i := 5) rfl (j := 0) rfl) (.cell (hS22.box (i := 5) rfl (j := 1) rfl) (.cell (hS22.box (i := 4) rfl (j := 0) rfl) (.cell (hS22.box (i := 4) rfl (j := 1) rfl) .nil)))) fun a47 hf47 => ?_
 obtain ⟨r18, hd10, hr10⟩ := bind_some hr9
 refine p_call (i := 2) (d := some 83) (f := 41) (args := #[.agg #[vI r1.1, vI r1.2.1], .agg #[vI r8.1, vI r8.2.1]]) hf47 (by kernel_rfl) (f41_ok fuel r1.1 r1.2.1 r8.1 r8.2.1 r18 hd10 z4 _ _ hS22 ) ?_
 rintro v10 ww23 a48 ⟨z5, k5, rfl, hS23⟩ hf48
 refine ⟨fun _ => trivial, ?_⟩
 refine p_qn 3 [] [(1, vI (Int.tmod r11 1001)), (2, vI (w64 ((1 : Int) + (Int.tmod (if (w64 (0 - r13)) > r12 then (w64 (0 - r13)) else r12) 1000)))), (7, pB b2 0), (8, vI r1.2.2), (9, pB b3 0), (10, vI r8.2.2), (11, pB b4 0), (12, vI r14.2.2), (13, pB b5 0), (14, vI r15.2.2), (15, pB b6 0), (16, vI r16.2.2), (17, pB b7 0), (18, vI r17.2.2), (84, .agg #[vI r18.1, vI r18.2.1]), (85, vI r18.2.2)] [] hf48 (by kernel_rfl) .nil fun a49 hf49 => ?_
 refine p_box (i := 6) (d := (some 19)) (cs := [vI 0, vI 0]) (T := 41) (v := fun b8 => pB b8 0) hS23 hf49 (fun b => by kernel_rfl) fun b8 ww24 a50 hS24 hf50 => ⟨fun _ => trivial, ?_⟩
 refine p_store_eq (i := 7) (j := 0) (b := b8) (off := 0) (vs := [vI r18.1, vI r18.2.1]) (cs' := [vI r18.1, vI r18.2.1]) hS24 hf50 rfl (by kernel_rfl) (by kernel_rfl) rfl fun ww25 a51 hS25 hf51 => ⟨fun _ => trivial, ?_⟩
 refine p_qt [] [(1, vI (Int.tmod r11 1001)), (2, vI (w64 ((1 : Int) + (Int.tmod (if (w64 (0 - r13)) > r12 then (w64 (0 - r13)) else r12) 1000)))), (7, pB b2 0), (8, vI r1.2.2), (9, pB b3 0), (10, vI r8.2.2), (11, pB b4 0), (12, vI r14.2.2), (13, pB b5 0), (14, vI r15.2.2), (15, pB b6 0), (16, vI r16.2.2), (17, pB b7 0), (18, vI r17.2.2), (19, pB b8 0), (20, vI r18.2.2)] [] hf51 (by kernel_rfl) .nil fun a52 hf52 => ?_
 refine w_sr (by kernel_rfl) ?_
 refine p_qn 2 [vI r1.1, vI r1.2.1, vI r8.1, vI r8.2.1] [(1, vI (Int.tmod r11 1001)), (2, vI (w64 ((1 : Int) + (Int.tmod (if (w64 (0 - r13)) > r12 then (w64 (0 - r13)) else r12) 1000)))), (7, pB b2 0), (8, vI r1.2.2), (9, pB b3 0), (10, vI r8.2.2), (11, pB b4 0), (12, vI r14.2.2), (13, pB b5 0), (14, vI r15.2.2), (15, pB b6 0), (16, vI r16.2.2), (17, pB b7 0), (18, vI r17.2.2), (19, pB b8 0), (20, vI r18.2.2), (87, .agg #[vI r1.1, vI r1.2.1]), (88, .agg #[vI r8.1, vI r8.2.1])] [.cell ⟨b2, 0, none⟩ (vI r1.1), .cell ⟨b2, 1, none⟩ (vI r1.2.1), .cell ⟨b3, 0, none⟩ (vI r8.1), .cell ⟨b3, 1, none⟩ (vI r8.2.1)] hf52 (by kernel_rfl) (.cell (hS25.box (i := 6) rfl (j := 0) rfl) (.cell (hS25.box (i := 6) rfl (j := 1) rfl) (.cell (hS25.box (i := 5) rfl (j := 0) rfl) (.cell (hS25.box (i := 5) rfl (j := 1) rfl) .nil)))) fun a53 hf53 => ?_
 obtain ⟨r2, hd11, hr11⟩ := bind_some hr10
 refine p_call (i := 2) (d := some 89) (f := 42) (args := #[.agg #[vI r1.1, vI r1.2.1], .agg #[vI r8.1, vI r8.2.1]]) hf53 (by kernel_rfl) (f42_ok fuel r1.1 r1.2.1 r8.1 r8.2.1 r2 hd11 z5 _ _ hS25 ) ?_
 rintro v11 ww26 a54 ⟨z6, k6, rfl, hS26⟩ hf54
 refine ⟨fun _ => trivial, ?_⟩
 refine p_qn 3 [] [(1, vI (Int.tmod r11 1001)), (2, vI (w64 ((1 : Int) + (Int.tmod (if (w64 (0 - r13)) > r12 then (w64 (0 - r13)) else r12) 1000)))), (7, pB b2 0), (8, vI r1.2.2), (9, pB b3 0), (10, vI r8.2.2), (11, pB b4 0), (12, vI r14.2.2), (13, pB b5 0), (14, vI r15.2.2), (15, pB b6 0), (16, vI r16.2.2), (17, pB b7 0), (18, vI r17.2.2), (19, pB b8 0), (20, vI r18.2.2), (90, .agg #[vI r2.1, vI r2.2.1]), (91, vI r2.2.2)] [] hf54 (by kernel_rfl) .nil fun a55 hf55 => ?_
 refine p_box (i := 6) (d := (some 21)) (cs := [vI 0, vI 0]) (T := 41) (v := fun b9 => pB b9 0) hS26 hf55 (fun b => by kernel_rfl) fun b9 ww27 a56 hS27 hf56 => ⟨fun _ => trivial, ?_⟩
 refine p_store_eq (i := 7) (j := 0) (b := b9) (off := 0) (vs := [vI r2.1, vI r2.2.1]) (cs' := [vI r2.1, vI r2.2.1]) hS27 hf56 rfl (by kernel_rfl) (by kernel_rfl) rfl fun ww28 a57 hS28 hf57 => ⟨fun _ => trivial, ?_⟩
 refine p_qt [] [(1, vI (Int.tmod r11 1001)), (2, vI (w64 ((1 : Int) + (Int.tmod (if (w64 (0 - r13)) > r12 then (w64 (0 - r13)) else r12) 1000)))), (7, pB b2 0), (8, vI r1.2.2), (9, pB b3 0), (10, vI r8.2.2), (11, pB b4 0), (12, vI r14.2.2), (13, pB b5 0), (14, vI r15.2.2), (15, pB b6 0), (16, vI r16.2.2), (17, pB b7 0), (18, vI r17.2.2), (19, pB b8 0), (20, vI r18.2.2), (21, pB b9 0), (22, vI r2.2.2)] [] hf57 (by kernel_rfl) .nil fun a58 hf58 => ?_
 refine w_seq (by kernel_rfl) ?_
 refine w_mid (by kernel_rfl) (fun a w => ∃ z7 : Zone, ∃ y4 : Bool, Zone.le z6 z7 ∧ Fr a 192 [(1, vI (Int.tmod r11 1001)), (2, vI (w64 ((1 : Int) + (Int.tmod (if (w64 (0 - r13)) > r12 then (w64 (0 - r13)) else r12) 1000)))), (7, pB b2 0), (8, vI r1.2.2), (9, pB b3 0), (10, vI r8.2.2), (11, pB b4 0), (13, pB b5 0), (15, pB b6 0), (17, pB b7 0), (19, pB b8 0), (21, pB b9 0), (22, vI r2.2.2), (109, .bool y4)] ∧ St z7 (box b9 [vI r2.1, vI r2.2.1] 41 :: box b8 [vI r18.1, vI r18.2.1] 41 :: box b7 [vI r17.1, vI r17.2.1] 41 :: box b6 [vI r16.1, vI r16.2.1] 41 :: box b5 [vI r15.1, vI r15.2.1] 41 :: box b4 [vI r14.1, vI r14.2.1] 41 :: box b3 [vI r8.1, vI r8.2.1] 41 :: box b2 [vI r1.1, vI r1.2.1] 41 :: box b1 [vI y5, vI y6, vI y7, vI y8, vI y9, vI y10] 63 :: L) w ∧ (F7_j1 fuel r1 r8 r11 r12 r13 r14 r15 r16 r17 r18 r2 y4) = some r) ?_ ?_
 ·skip
  refine w_reg (by kernel_rfl) ?_
  refine p_qn 3 [] [(1, vI (Int.tmod r11 1001)), (2, vI (w64 ((1 : Int) + (Int.tmod (if (w64 (0 - r13)) > r12 then (w64 (0 - r13)) else r12) 1000)))), (7, pB b2 0), (8, vI r1.2.2), (9, pB b3 0), (10, vI r8.2.2), (11, pB b4 0), (13, pB b5 0), (14, vI r15.2.2), (15, pB b6 0), (16, vI r16.2.2), (17, pB b7 0), (18, vI r17.2.2), (19, pB b8 0), (20, vI r18.2.2), (21, pB b9 0), (22, vI r2.2.2), (94, .bool (r14.2.2 != (0 : Int)))] [] hf58 (by kernel_rfl) .nil fun a59 hf59 => ?_
  rcases Bool.eq_false_or_eq_true (r14.2.2 != (0 : Int)) with hb1 | hb1
  ·have hr12 := cond_t hb1 hr11
   have hf60 := Fr.conv hf59 (congrArg (fun z => ([(1, vI (Int.tmod r11 1001)), (2, vI (w64 ((1 : Int) + (Int.tmod (if (w64 (0 - r13)) > r12 then (w64 (0 - r13)) else r12) 1000)))), (7, pB b2 0), (8, vI r1.2.2), (9, pB b3 0), (10, vI r8.2.2), (11, pB b4 0), (13, pB b5 0), (14, vI r15.2.2), (15, pB b6 0), (16, vI r16.2.2), (17, pB b7 0), (18, vI r17.2.2), (19, pB b8 0), (20, vI r18.2.2), (21, pB b9 0), (22, vI r2.2.2), (94, .bool z)] : FL)) hb1)
   refine p_qt [] [(1, vI (Int.tmod r11 1001)), (2, vI (w64 ((1 : Int) + (Int.tmod (if (w64 (0 - r13)) > r12 then (w64 (0 - r13)) else r12) 1000)))), (7, pB b2 0), (8, vI r1.2.2), (9, pB b3 0), (10, vI r8.2.2), (11, pB b4 0), (13, pB b5 0), (15, pB b6 0), (17, pB b7 0), (19, pB b8 0), (21, pB b9 0), (22, vI r2.2.2), (109, .bool true)] [] hf60 (by kernel_rfl) .nil fun a60 hf61 => ?_
   have hf62 := Fr.keep (ks := [1, 2, 7, 8, 9, 10, 11, 13, 15, 17, 19, 21, 22, 109]) (r := [(1, vI (Int.tmod r11 1001)), (2, vI (w64 ((1 : Int) + (Int.tmod (if (w64 (0 - r13)) > r12 then (w64 (0 - r13)) else r12) 1000)))), (7, pB b2 0), (8, vI r1.2.2), (9, pB b3 0), (10, vI r8.2.2), (11, pB b4 0), (13, pB b5 0), (15, pB b6 0), (17, pB b7 0), (19, pB b8 0), (21, pB b9 0), (22, vI r2.2.2), (109, .bool true)]) hf61 (by kernel_rfl)
   exact ⟨z6, true, (Zone.le_refl _), hf62, hS28, hr12⟩
  ·have hr13 := cond_f hb1 hr11
   have hf63 := Fr.conv hf59 (congrArg (fun z => ([(1, vI (Int.tmod r11 1001)), (2, vI (w64 ((1 : Int) + (Int.tmod (if (w64 (0 - r13)) > r12 then (w64 (0 - r13)) else r12) 1000)))), (7, pB b2 0), (8, vI r1.2.2), (9, pB b3 0), (10, vI r8.2.2), (11, pB b4 0), (13, pB b5 0), (14, vI r15.2.2), (15, pB b6 0), (16, vI r16.2.2), (17, pB b7 0), (18, vI r17.2.2), (19, pB b8 0), (20, vI r18.2.2), (21, pB b9 0), (22, vI r2.2.2), (94, .bool z)] : FL)) hb1)
   refine p_qn 4 [] [(1, vI (Int.tmod r11 1001)), (2, vI (w64 ((1 : Int) + (Int.tmod (if (w64 (0 - r13)) > r12 then (w64 (0 - r13)) else r12) 1000)))), (7, pB b2 0), (8, vI r1.2.2), (9, pB b3 0), (10, vI r8.2.2), (11, pB b4 0), (13, pB b5 0), (15, pB b6 0), (16, vI r16.2.2), (17, pB b7 0), (18, vI r17.2.2), (19, pB b8 0), (20, vI r18.2.2), (21, pB b9 0), (22, vI r2.2.2), (98, .bool (r15.2.2 != (0 : Int)))] [] hf63 (by kernel_rfl) .nil fun a61 hf64 => ?_
   rcases Bool.eq_false_or_eq_true (r15.2.2 != (0 : Int)) with hb2 | hb2
   ·have hr14 := cond_t hb2 hr13
    have hf65 := Fr.conv hf64 (congrArg (fun z => ([(1, vI (Int.tmod r11 1001)), (2, vI (w64 ((1 : Int) + (Int.tmod (if (w64 (0 - r13)) > r12 then (w64 (0 - r13)) else r12) 1000)))), (7, pB b2 0), (8, vI r1.2.2), (9, pB b3 0), (10, vI r8.2.2), (11, pB b4 0), (13, pB b5 0), (15, pB b6 0), (16, vI r16.2.2), (17, pB b7 0), (18, vI r17.2.2), (19, pB b8 0), (20, vI r18.2.2), (21, pB b9 0), (22, vI r2.2.2), (98, .bool z)] : FL)) hb2)
    refine p_qt [] [(1, vI (Int.tmod r11 1001)), (2, vI (w64 ((1 : Int) + (Int.tmod (if (w64 (0 - r13)) > r12 then (w64 (0 - r13)) else r12) 1000)))), (7, pB b2 0), (8, vI r1.2.2), (9, pB b3 0), (10, vI r8.2.2), (11, pB b4 0), (13, pB b5 0), (15, pB b6 0), (17, pB b7 0), (19, pB b8 0), (21, pB b9 0), (22, vI r2.2.2), (109, .bool true)] [] hf65 (by kernel_rfl) .nil fun a62 hf66 => ?_
    have hf67 := Fr.keep (ks := [1, 2, 7, 8, 9, 10, 11, 13, 15, 17, 19, 21, 22, 109]) (r := [(1, vI (Int.tmod r11 1001)), (2, vI (w64 ((1 : Int) + (Int.tmod (if (w64 (0 - r13)) > r12 then (w64 (0 - r13)) else r12) 1000)))), (7, pB b2 0), (8, vI r1.2.2), (9, pB b3 0), (10, vI r8.2.2), (11, pB b4 0), (13, pB b5 0), (15, pB b6 0), (17, pB b7 0), (19, pB b8 0), (21, pB b9 0), (22, vI r2.2.2), (109, .bool true)]) hf66 (by kernel_rfl)
    exact ⟨z6, true, (Zone.le_refl _), hf67, hS28, hr14⟩
   ·have hr15 := cond_f hb2 hr13
    have hf68 := Fr.conv hf64 (congrArg (fun z => ([(1, vI (Int.tmod r11 1001)), (2, vI (w64 ((1 : Int) + (Int.tmod (if (w64 (0 - r13)) > r12 then (w64 (0 - r13)) else r12) 1000)))), (7, pB b2 0), (8, vI r1.2.2), (9, pB b3 0), (10, vI r8.2.2), (11, pB b4 0), (13, pB b5 0), (15, pB b6 0), (16, vI r16.2.2), (17, pB b7 0), (18, vI r17.2.2), (19, pB b8 0), (20, vI r18.2.2), (21, pB b9 0), (22, vI r2.2.2), (98, .bool z)] : FL)) hb2)
    refine p_qn 4 [] [(1, vI (Int.tmod r11 1001)), (2, vI (w64 ((1 : Int) + (Int.tmod (if (w64 (0 - r13)) > r12 then (w64 (0 - r13)) else r12) 1000)))), (7, pB b2 0), (8, vI r1.2.2), (9, pB b3 0), (10, vI r8.2.2), (11, pB b4 0), (13, pB b5 0), (15, pB b6 0), (17, pB b7 0), (18, vI r17.2.2), (19, pB b8 0), (20, vI r18.2.2), (21, pB b9 0), (22, vI r2.2.2), (102, .bool (r16.2.2 != (0 : Int)))] [] hf68 (by kernel_rfl) .nil fun a63 hf69 => ?_
    rcases Bool.eq_false_or_eq_true (r16.2.2 != (0 : Int)) with hb3 | hb3
    ·have hr16 := cond_t hb3 hr15
     have hf70 := Fr.conv hf69 (congrArg (fun z => ([(1, vI (Int.tmod r11 1001)), (2, vI (w64 ((1 : Int) + (Int.tmod (if (w64 (0 - r13)) > r12 then (w64 (0 - r13)) else r12) 1000)))), (7, pB b2 0), (8, vI r1.2.2), (9, pB b3 0), (10, vI r8.2.2), (11, pB b4 0), (13, pB b5 0), (15, pB b6 0), (17, pB b7 0), (18, vI r17.2.2), (19, pB b8 0), (20, vI r18.2.2), (21, pB b9 0), (22, vI r2.2.2), (102, .bool z)] : FL)) hb3)
     refine p_qt [] [(1, vI (Int.tmod r11 1001)), (2, vI (w64 ((1 : Int) + (Int.tmod (if (w64 (0 - r13)) > r12 then (w64 (0 - r13)) else r12) 1000)))), (7, pB b2 0), (8, vI r1.2.2), (9, pB b3 0), (10, vI r8.2.2), (11, pB b4 0), (13, pB b5 0), (15, pB b6 0), (17, pB b7 0), (19, pB b8 0), (21, pB b9 0), (22, vI r2.2.2), (109, .bool true)] [] hf70 (by kernel_rfl) .nil fun a64 hf71 => ?_
     have hf72 := Fr.keep (ks := [1, 2, 7, 8, 9, 10, 11, 13, 15, 17, 19, 21, 22, 109]) (r := [(1, vI (Int.tmod r11 1001)), (2, vI (w64 ((1 : Int) + (Int.tmod (if (w64 (0 - r13)) > r12 then (w64 (0 - r13)) else r12) 1000)))), (7, pB b2 0), (8, vI r1.2.2), (9, pB b3 0), (10, vI r8.2.2), (11, pB b4 0), (13, pB b5 0), (15, pB b6 0), (17, pB b7 0), (19, pB b8 0), (21, pB b9 0), (22, vI r2.2.2), (109, .bool true)]) hf71 (by kernel_rfl)
     exact ⟨z6, true, (Zone.le_refl _), hf72, hS28, hr16⟩
    ·have hr17 := cond_f hb3 hr15
     have hf73 := Fr.conv hf69 (congrArg (fun z => ([(1, vI (Int.tmod r11 1001)), (2, vI (w64 ((1 : Int) + (Int.tmod (if (w64 (0 - r13)) > r12 then (w64 (0 - r13)) else r12) 1000)))), (7, pB b2 0), (8, vI r1.2.2), (9, pB b3 0), (10, vI r8.2.2), (11, pB b4 0), (13, pB b5 0), (15, pB b6 0), (17, pB b7 0), (18, vI r17.2.2), (19, pB b8 0), (20, vI r18.2.2), (21, pB b9 0), (22, vI r2.2.2), (102, .bool z)] : FL)) hb3)
     refine p_qn 4 [] [(1, vI (Int.tmod r11 1001)), (2, vI (w64 ((1 : Int) + (Int.tmod (if (w64 (0 - r13)) > r12 then (w64 (0 - r13)) else r12) 1000)))), (7, pB b2 0), (8, vI r1.2.2), (9, pB b3 0), (10, vI r8.2.2), (11, pB b4 0), (13, pB b5 0), (15, pB b6 0), (17, pB b7 0), (19, pB b8 0), (20, vI r18.2.2), (21, pB b9 0), (22, vI r2.2.2), (106, .bool (r17.2.2 != (0 : Int)))] [] hf73 (by kernel_rfl) .nil fun a65 hf74 => ?_
     rcases Bool.eq_false_or_eq_true (r17.2.2 != (0 : Int)) with hb4 | hb4
     ·have hr18 := cond_t hb4 hr17
      have hf75 := Fr.conv hf74 (congrArg (fun z => ([(1, vI (Int.tmod r11 1001)), (2, vI (w64 ((1 : Int) + (Int.tmod (if (w64 (0 - r13)) > r12 then (w64 (0 - r13)) else r12) 1000)))), (7, pB b2 0), (8, vI r1.2.2), (9, pB b3 0), (10, vI r8.2.2), (11, pB b4 0), (13, pB b5 0), (15, pB b6 0), (17, pB b7 0), (19, pB b8 0), (20, vI r18.2.2), (21, pB b9 0), (22, vI r2.2.2), (106, .bool z)] : FL)) hb4)
      refine p_qt [] [(1, vI (Int.tmod r11 1001)), (2, vI (w64 ((1 : Int) + (Int.tmod (if (w64 (0 - r13)) > r12 then (w64 (0 - r13)) else r12) 1000)))), (7, pB b2 0), (8, vI r1.2.2), (9, pB b3 0), (10, vI r8.2.2), (11, pB b4 0), (13, pB b5 0), (15, pB b6 0), (17, pB b7 0), (19, pB b8 0), (21, pB b9 0), (22, vI r2.2.2), (109, .bool true)] [] hf75 (by kernel_rfl) .nil fun a66 hf76 => ?_
      have hf77 := Fr.keep (ks := [1, 2, 7, 8, 9, 10, 11, 13, 15, 17, 19, 21, 22, 109]) (r := [(1, vI (Int.tmod r11 1001)), (2, vI (w64 ((1 : Int) + (Int.tmod (if (w64 (0 - r13)) > r12 then (w64 (0 - r13)) else r12) 1000)))), (7, pB b2 0), (8, vI r1.2.2), (9, pB b3 0), (10, vI r8.2.2), (11, pB b4 0), (13, pB b5 0), (15, pB b6 0), (17, pB b7 0), (19, pB b8 0), (21, pB b9 0), (22, vI r2.2.2), (109, .bool true)]) hf76 (by kernel_rfl)
      exact ⟨z6, true, (Zone.le_refl _), hf77, hS28, hr18⟩
     ·have hr19 := cond_f hb4 hr17
      have hf78 := Fr.conv hf74 (congrArg (fun z => ([(1, vI (Int.tmod r11 1001)), (2, vI (w64 ((1 : Int) + (Int.tmod (if (w64 (0 - r13)) > r12 then (w64 (0 - r13)) else r12) 1000)))), (7, pB b2 0), (8, vI r1.2.2), (9, pB b3 0), (10, vI r8.2.2), (11, pB b4 0), (13, pB b5 0), (15, pB b6 0), (17, pB b7 0), (19, pB b8 0), (20, vI r18.2.2), (21, pB b9 0), (22, vI r2.2.2), (106, .bool z)] : FL)) hb4)
      refine p_qt [] [(1, vI (Int.tmod r11 1001)), (2, vI (w64 ((1 : Int) + (Int.tmod (if (w64 (0 - r13)) > r12 then (w64 (0 - r13)) else r12) 1000)))), (7, pB b2 0), (8, vI r1.2.2), (9, pB b3 0), (10, vI r8.2.2), (11, pB b4 0), (13, pB b5 0), (15, pB b6 0), (17, pB b7 0), (19, pB b8 0), (21, pB b9 0), (22, vI r2.2.2), (109, .bool (r18.2.2 != (0 : Int)))] [] hf78 (by kernel_rfl) .nil fun a67 hf79 => ?_
      have hf80 := Fr.keep (ks := [1, 2, 7, 8, 9, 10, 11, 13, 15, 17, 19, 21, 22, 109]) (r := [(1, vI (Int.tmod r11 1001)), (2, vI (w64 ((1 : Int) + (Int.tmod (if (w64 (0 - r13)) > r12 then (w64 (0 - r13)) else r12) 1000)))), (7, pB b2 0), (8, vI r1.2.2), (9, pB b3 0), (10, vI r8.2.2), (11, pB b4 0), (13, pB b5 0), (15, pB b6 0), (17, pB b7 0), (19, pB b8 0), (21, pB b9 0), (22, vI r2.2.2), (109, .bool (r18.2.2 != (0 : Int)))]) hf79 (by kernel_rfl)
      exact ⟨z6, (r18.2.2 != (0 : Int)), (Zone.le_refl _), hf80, hS28, hr19⟩
 ·rintro a68 ww29 ⟨z7, y4, k7, hf81, hS29, hr20⟩
  refine w_if hf81 (b := y4) (by kernel_rfl) (fun hb5 => ?_) (fun hb5 => ?_)
  ·have hr21 := cond_t hb5 hr20
   refine w_sq [] [(6, .bool false)] [] hf81 (by kernel_rfl) .nil fun a69 hf82 => ?_
   refine w_ret (by kernel_rfl) ?_
   refine r_then ?_
   refine p_ret (os := []) (v := .bool false) (obs := []) hf82 (by kernel_rfl) .nil ?_
   obtain rfl := some_eq hr21
   exact ⟨_, rfl, z7, (Zone.le_trans (Zone.le_trans (Zone.le_trans (Zone.le_trans (Zone.le_trans (Zone.le_trans k1 k2) k3) k4) k5) k6) k7), rfl, (St.drop 9 hS29)⟩
  ·have hr22 := cond_f hb5 hr20
   refine w_skip (by kernel_rfl) ?_
   refine n_then ?_
   refine w_seq (by kernel_rfl) ?_
   refine w_mid (by kernel_rfl) (fun a w => ∃ z8 : Zone, ∃ y3 : Bool, Zone.le z7 z8 ∧ Fr a 192 [(7, pB b2 0), (8, vI r1.2.2), (9, pB b3 0), (21, pB b9 0), (22, vI r2.2.2), (163, .bool y3)] ∧ St z8 (box b9 [vI r2.1, vI r2.2.1] 41 :: box b8 [vI r18.1, vI r18.2.1] 41 :: box b7 [vI r17.1, vI r17.2.1] 41 :: box b6 [vI r16.1, vI r16.2.1] 41 :: box b5 [vI r15.1, vI r15.2.1] 41 :: box b4 [vI r14.1, vI r14.2.1] 41 :: box b3 [vI r8.1, vI r8.2.1] 41 :: box b2 [vI r1.1, vI r1.2.1] 41 :: box b1 [vI y5, vI y6, vI y7, vI y8, vI y9, vI y10] 63 :: L) w ∧ (F7_j2 fuel r1 r8 r2 y3) = some r) ?_ ?_
   ·skip
    refine w_reg (by kernel_rfl) ?_
    refine p_qn 4 [vI r14.1, vI r14.2.1] [(1, vI (Int.tmod r11 1001)), (2, vI (w64 ((1 : Int) + (Int.tmod (if (w64 (0 - r13)) > r12 then (w64 (0 - r13)) else r12) 1000)))), (7, pB b2 0), (8, vI r1.2.2), (9, pB b3 0), (10, vI r8.2.2), (13, pB b5 0), (15, pB b6 0), (17, pB b7 0), (19, pB b8 0), (21, pB b9 0), (22, vI r2.2.2), (110, .agg #[vI r14.1, vI r14.2.1]), (113, vI (w64 (r1.2.2 + r8.2.2)))] [.cell ⟨b4, 0, none⟩ (vI r14.1), .cell ⟨b4, 1, none⟩ (vI r14.2.1)] hf81 (by kernel_rfl) (.cell (hS29.box (i := 5) rfl (j := 0) rfl) (.cell (hS29.box (i := 5) rfl (j := 1) rfl) .nil)) fun a70 hf83 => ?_
    obtain ⟨r19, hd12, hr23⟩ := bind_some hr22
    refine p_call (i := 4) (d := some 114) (f := 43) (args := #[.agg #[vI r14.1, vI r14.2.1], vI (w64 (r1.2.2 + r8.2.2))]) hf83 (by kernel_rfl) (f43_ok fuel r14.1 r14.2.1 (w64 (r1.2.2 + r8.2.2)) r19 hd12 z7 _ _ hS29 ) ?_
    rintro v12 ww30 a71 ⟨z9, k8, rfl, hS30⟩ hf84
    refine ⟨fun _ => trivial, ?_⟩
    refine p_qn 2 [] [(1, vI (Int.tmod r11 1001)), (2, vI (w64 ((1 : Int) + (Int.tmod (if (w64 (0 - r13)) > r12 then (w64 (0 - r13)) else r12) 1000)))), (7, pB b2 0), (8, vI r1.2.2), (9, pB b3 0), (10, vI r8.2.2), (13, pB b5 0), (15, pB b6 0), (17, pB b7 0), (19, pB b8 0), (21, pB b9 0), (22, vI r2.2.2), (116, .bool (!r19))] [] hf84 (by kernel_rfl) .nil fun a72 hf85 => ?_
    rcases Bool.eq_false_or_eq_true (!r19) with hb6 | hb6
    ·have hr24 := cond_t hb6 hr23
     have hf86 := Fr.conv hf85 (congrArg (fun z => ([(1, vI (Int.tmod r11 1001)), (2, vI (w64 ((1 : Int) + (Int.tmod (if (w64 (0 - r13)) > r12 then (w64 (0 - r13)) else r12) 1000)))), (7, pB b2 0), (8, vI r1.2.2), (9, pB b3 0), (10, vI r8.2.2), (13, pB b5 0), (15, pB b6 0), (17, pB b7 0), (19, pB b8 0), (21, pB b9 0), (22, vI r2.2.2), (116, .bool z)] : FL)) hb6)
     refine p_qt [] [(7, pB b2 0), (8, vI r1.2.2), (9, pB b3 0), (21, pB b9 0), (22, vI r2.2.2), (163, .bool true)] [] hf86 (by kernel_rfl) .nil fun a73 hf87 => ?_
     have hf88 := Fr.keep (ks := [7, 8, 9, 21, 22, 163]) (r := [(7, pB b2 0), (8, vI r1.2.2), (9, pB b3 0), (21, pB b9 0), (22, vI r2.2.2), (163, .bool true)]) hf87 (by kernel_rfl)
     exact ⟨z9, true, k8, hf88, hS30, hr24⟩
    ·have hr25 := cond_f hb6 hr23
     have hf89 := Fr.conv hf85 (congrArg (fun z => ([(1, vI (Int.tmod r11 1001)), (2, vI (w64 ((1 : Int) + (Int.tmod (if (w64 (0 - r13)) > r12 then (w64 (0 - r13)) else r12) 1000)))), (7, pB b2 0), (8, vI r1.2.2), (9, pB b3 0), (10, vI r8.2.2), (13, pB b5 0), (15, pB b6 0), (17, pB b7 0), (19, pB b8 0), (21, pB b9 0), (22, vI r2.2.2), (116, .bool z)] : FL)) hb6)
     refine p_qn 4 [vI r15.1, vI r15.2.1] [(1, vI (Int.tmod r11 1001)), (2, vI (w64 ((1 : Int) + (Int.tmod (if (w64 (0 - r13)) > r12 then (w64 (0 - r13)) else r12) 1000)))), (7, pB b2 0), (8, vI r1.2.2), (9, pB b3 0), (10, vI r8.2.2), (15, pB b6 0), (17, pB b7 0), (19, pB b8 0), (21, pB b9 0), (22, vI r2.2.2), (116, .bool false), (117, .agg #[vI r15.1, vI r15.2.1]), (120, vI (w64 (r1.2.2 - r8.2.2)))] [.cell ⟨b5, 0, none⟩ (vI r15.1), .cell ⟨b5, 1, none⟩ (vI r15.2.1)] hf89 (by kernel_rfl) (.cell (hS30.box (i := 4) rfl (j := 0) rfl) (.cell (hS30.box (i := 4) rfl (j := 1) rfl) .nil)) fun a74 hf90 => ?_
     obtain ⟨r20, hd13, hr26⟩ := bind_some hr25
     refine p_call (i := 11) (d := some 121) (f := 43) (args := #[.agg #[vI r15.1, vI r15.2.1], vI (w64 (r1.2.2 - r8.2.2))]) hf90 (by kernel_rfl) (f43_ok fuel r15.1 r15.2.1 (w64 (r1.2.2 - r8.2.2)) r20 hd13 z9 _ _ hS30 ) ?_
     rintro v13 ww31 a75 ⟨z10, k9, rfl, hS31⟩ hf91
     refine ⟨fun _ => trivial, ?_⟩
     refine p_qn 3 [] [(1, vI (Int.tmod r11 1001)), (2, vI (w64 ((1 : Int) + (Int.tmod (if (w64 (0 - r13)) > r12 then (w64 (0 - r13)) else r12) 1000)))), (7, pB b2 0), (8, vI r1.2.2), (9, pB b3 0), (10, vI r8.2.2), (15, pB b6 0), (17, pB b7 0), (19, pB b8 0), (21, pB b9 0), (22, vI r2.2.2), (124, .bool (!r20))] [] hf91 (by kernel_rfl) .nil fun a76 hf92 => ?_
     rcases Bool.eq_false_or_eq_true (!r20) with hb7 | hb7
     ·have hr27 := cond_t hb7 hr26
      have hf93 := Fr.conv hf92 (congrArg (fun z => ([(1, vI (Int.tmod r11 1001)), (2, vI (w64 ((1 : Int) + (Int.tmod (if (w64 (0 - r13)) > r12 then (w64 (0 - r13)) else r12) 1000)))), (7, pB b2 0), (8, vI r1.2.2), (9, pB b3 0), (10, vI r8.2.2), (15, pB b6 0), (17, pB b7 0), (19, pB b8 0), (21, pB b9 0), (22, vI r2.2.2), (124, .bool z)] : FL)) hb7)
      refine p_qt [] [(7, pB b2 0), (8, vI r1.2.2), (9, pB b3 0), (21, pB b9 0), (22, vI r2.2.2), (163, .bool true)] [] hf93 (by kernel_rfl) .nil fun a77 hf94 => ?_
      have hf95 := Fr.keep (ks := [7, 8, 9, 21, 22, 163]) (r := [(7, pB b2 0), (8, vI r1.2.2), (9, pB b3 0), (21, pB b9 0), (22, vI r2.2.2), (163, .bool true)]) hf94 (by kernel_rfl)
      exact ⟨z10, true, (Zone.le_trans k8 k9), hf95, hS31, hr27⟩
     ·have hr28 := cond_f hb7 hr26
      have hf96 := Fr.conv hf92 (congrArg (fun z => ([(1, vI (Int.tmod r11 1001)), (2, vI (w64 ((1 : Int) + (Int.tmod (if (w64 (0 - r13)) > r12 then (w64 (0 - r13)) else r12) 1000)))), (7, pB b2 0), (8, vI r1.2.2), (9, pB b3 0), (10, vI r8.2.2), (15, pB b6 0), (17, pB b7 0), (19, pB b8 0), (21, pB b9 0), (22, vI r2.2.2), (124, .bool z)] : FL)) hb7)
      refine p_qn 4 [vI r16.1, vI r16.2.1] [(1, vI (Int.tmod r11 1001)), (2, vI (w64 ((1 : Int) + (Int.tmod (if (w64 (0 - r13)) > r12 then (w64 (0 - r13)) else r12) 1000)))), (7, pB b2 0), (8, vI r1.2.2), (9, pB b3 0), (10, vI r8.2.2), (17, pB b7 0), (19, pB b8 0), (21, pB b9 0), (22, vI r2.2.2), (124, .bool false), (125, .agg #[vI r16.1, vI r16.2.1]), (128, vI (w64 (r1.2.2 * r8.2.2)))] [.cell ⟨b6, 0, none⟩ (vI r16.1), .cell ⟨b6, 1, none⟩ (vI r16.2.1)] hf96 (by kernel_rfl) (.cell (hS31.box (i := 3) rfl (j := 0) rfl) (.cell (hS31.box (i := 3) rfl (j := 1) rfl) .nil)) fun a78 hf97 => ?_
      obtain ⟨r21, hd14, hr29⟩ := bind_some hr28
      refine p_call (i := 19) (d := some 129) (f := 43) (args := #[.agg #[vI r16.1, vI r16.2.1], vI (w64 (r1.2.2 * r8.2.2))]) hf97 (by kernel_rfl) (f43_ok fuel r16.1 r16.2.1 (w64 (r1.2.2 * r8.2.2)) r21 hd14 z10 _ _ hS31 ) ?_
      rintro v14 ww32 a79 ⟨z11, k10, rfl, hS32⟩ hf98
      refine ⟨fun _ => trivial, ?_⟩
      refine p_qn 3 [] [(1, vI (Int.tmod r11 1001)), (2, vI (w64 ((1 : Int) + (Int.tmod (if (w64 (0 - r13)) > r12 then (w64 (0 - r13)) else r12) 1000)))), (7, pB b2 0), (8, vI r1.2.2), (9, pB b3 0), (10, vI r8.2.2), (17, pB b7 0), (19, pB b8 0), (21, pB b9 0), (22, vI r2.2.2), (132, .bool (!r21))] [] hf98 (by kernel_rfl) .nil fun a80 hf99 => ?_
      rcases Bool.eq_false_or_eq_true (!r21) with hb8 | hb8
      ·have hr30 := cond_t hb8 hr29
       have hf100 := Fr.conv hf99 (congrArg (fun z => ([(1, vI (Int.tmod r11 1001)), (2, vI (w64 ((1 : Int) + (Int.tmod (if (w64 (0 - r13)) > r12 then (w64 (0 - r13)) else r12) 1000)))), (7, pB b2 0), (8, vI r1.2.2), (9, pB b3 0), (10, vI r8.2.2), (17, pB b7 0), (19, pB b8 0), (21, pB b9 0), (22, vI r2.2.2), (132, .bool z)] : FL)) hb8)
       refine p_qt [] [(7, pB b2 0), (8, vI r1.2.2), (9, pB b3 0), (21, pB b9 0), (22, vI r2.2.2), (163, .bool true)] [] hf100 (by kernel_rfl) .nil fun a81 hf101 => ?_
       have hf102 := Fr.keep (ks := [7, 8, 9, 21, 22, 163]) (r := [(7, pB b2 0), (8, vI r1.2.2), (9, pB b3 0), (21, pB b9 0), (22, vI r2.2.2), (163, .bool true)]) hf101 (by kernel_rfl)
       exact ⟨z11, true, (Zone.le_trans (Zone.le_trans k8 k9) k10), hf102, hS32, hr30⟩
      ·have hr31 := cond_f hb8 hr29
       have hf103 := Fr.conv hf99 (congrArg (fun z => ([(1, vI (Int.tmod r11 1001)), (2, vI (w64 ((1 : Int) + (Int.tmod (if (w64 (0 - r13)) > r12 then (w64 (0 - r13)) else r12) 1000)))), (7, pB b2 0), (8, vI r1.2.2), (9, pB b3 0), (10, vI r8.2.2), (17, pB b7 0), (19, pB b8 0), (21, pB b9 0), (22, vI r2.2.2), (132, .bool z)] : FL)) hb8)
       refine p_qn 10 [vI r17.1] [(1, vI (Int.tmod r11 1001)), (2, vI (w64 ((1 : Int) + (Int.tmod (if (w64 (0 - r13)) > r12 then (w64 (0 - r13)) else r12) 1000)))), (7, pB b2 0), (8, vI r1.2.2), (9, pB b3 0), (10, vI r8.2.2), (17, pB b7 0), (19, pB b8 0), (21, pB b9 0), (22, vI r2.2.2), (142, .bool (decide ((w64 (r17.1 * (w64 ((1 : Int) + (Int.tmod (if (w64 (0 - r13)) > r12 then (w64 (0 - r13)) else r12) 1000))))) > (w64 (r1.2.2 * (Int.tmod r11 1001))))))] [.cell ⟨b7, 0, none⟩ (vI r17.1)] hf103 (by kernel_rfl) (.cell (hS32.box (i := 2) rfl (j := 0) rfl) .nil) fun a82 hf104 => ?_
       rcases Bool.eq_false_or_eq_true (decide ((w64 (r17.1 * (w64 ((1 : Int) + (Int.tmod (if (w64 (0 - r13)) > r12 then (w64 (0 - r13)) else r12) 1000))))) > (w64 (r1.2.2 * (Int.tmod r11 1001))))) with hb9 | hb9
       ·have hr32 := cond_t hb9 hr31
        have hf105 := Fr.conv hf104 (congrArg (fun z => ([(1, vI (Int.tmod r11 1001)), (2, vI (w64 ((1 : Int) + (Int.tmod (if (w64 (0 - r13)) > r12 then (w64 (0 - r13)) else r12) 1000)))), (7, pB b2 0), (8, vI r1.2.2), (9, pB b3 0), (10, vI r8.2.2), (17, pB b7 0), (19, pB b8 0), (21, pB b9 0), (22, vI r2.2.2), (142, .bool z)] : FL)) hb9)
        refine p_qt [] [(7, pB b2 0), (8, vI r1.2.2), (9, pB b3 0), (21, pB b9 0), (22, vI r2.2.2), (163, .bool true)] [] hf105 (by kernel_rfl) .nil fun a83 hf106 => ?_
        have hf107 := Fr.keep (ks := [7, 8, 9, 21, 22, 163]) (r := [(7, pB b2 0), (8, vI r1.2.2), (9, pB b3 0), (21, pB b9 0), (22, vI r2.2.2), (163, .bool true)]) hf106 (by kernel_rfl)
        exact ⟨z11, true, (Zone.le_trans (Zone.le_trans k8 k9) k10), hf107, hS32, hr32⟩
       ·have hr33 := cond_f hb9 hr31
        have hf108 := Fr.conv hf104 (congrArg (fun z => ([(1, vI (Int.tmod r11 1001)), (2, vI (w64 ((1 : Int) + (Int.tmod (if (w64 (0 - r13)) > r12 then (w64 (0 - r13)) else r12) 1000)))), (7, pB b2 0), (8, vI r1.2.2), (9, pB b3 0), (10, vI r8.2.2), (17, pB b7 0), (19, pB b8 0), (21, pB b9 0), (22, vI r2.2.2), (142, .bool z)] : FL)) hb9)
        refine p_qn 10 [vI r17.2.1] [(7, pB b2 0), (8, vI r1.2.2), (9, pB b3 0), (10, vI r8.2.2), (19, pB b8 0), (21, pB b9 0), (22, vI r2.2.2), (152, .bool (decide ((w64 (r17.2.1 * (w64 ((1 : Int) + (Int.tmod (if (w64 (0 - r13)) > r12 then (w64 (0 - r13)) else r12) 1000))))) < (w64 (r1.2.2 * (Int.tmod r11 1001))))))] [.cell ⟨b7, 1, none⟩ (vI r17.2.1)] hf108 (by kernel_rfl) (.cell (hS32.box (i := 2) rfl (j := 1) rfl) .nil) fun a84 hf109 => ?_
        rcases Bool.eq_false_or_eq_true (decide ((w64 (r17.2.1 * (w64 ((1 : Int) + (Int.tmod (if (w64 (0 - r13)) > r12 then (w64 (0 - r13)) else r12) 1000))))) < (w64 (r1.2.2 * (Int.tmod r11 1001))))) with hb10 | hb10
        ·have hr34 := cond_t hb10 hr33
         have hf110 := Fr.conv hf109 (congrArg (fun z => ([(7, pB b2 0), (8, vI r1.2.2), (9, pB b3 0), (10, vI r8.2.2), (19, pB b8 0), (21, pB b9 0), (22, vI r2.2.2), (152, .bool z)] : FL)) hb10)
         refine p_qt [] [(7, pB b2 0), (8, vI r1.2.2), (9, pB b3 0), (21, pB b9 0), (22, vI r2.2.2), (163, .bool true)] [] hf110 (by kernel_rfl) .nil fun a85 hf111 => ?_
         have hf112 := Fr.keep (ks := [7, 8, 9, 21, 22, 163]) (r := [(7, pB b2 0), (8, vI r1.2.2), (9, pB b3 0), (21, pB b9 0), (22, vI r2.2.2), (163, .bool true)]) hf111 (by kernel_rfl)
         exact ⟨z11, true, (Zone.le_trans (Zone.le_trans k8 k9) k10), hf112, hS32, hr34⟩
        ·have hr35 := cond_f hb10 hr33
         have hf113 := Fr.conv hf109 (congrArg (fun z => ([(7, pB b2 0), (8, vI r1.2.2), (9, pB b3 0), (10, vI r8.2.2), (19, pB b8 0), (21, pB b9 0), (22, vI r2.2.2), (152, .bool z)] : FL)) hb10)
         refine p_qn 2 [vI r18.1, vI r18.2.1] [(7, pB b2 0), (8, vI r1.2.2), (9, pB b3 0), (10, vI r8.2.2), (19, pB b8 0), (21, pB b9 0), (22, vI r2.2.2), (152, .bool false), (153, .agg #[vI r18.1, vI r18.2.1]), (154, vI r1.2.2)] [.cell ⟨b8, 0, none⟩ (vI r18.1), .cell ⟨b8, 1, none⟩ (vI r18.2.1)] hf113 (by kernel_rfl) (.cell (hS32.box (i := 1) rfl (j := 0) rfl) (.cell (hS32.box (i := 1) rfl (j := 1) rfl) .nil)) fun a86 hf114 => ?_
         obtain ⟨r22, hd15, hr36⟩ := bind_some hr35
         refine p_call (i := 45) (d := some 155) (f := 43) (args := #[.agg #[vI r18.1, vI r18.2.1], vI r1.2.2]) hf114 (by kernel_rfl) (f43_ok fuel r18.1 r18.2.1 r1.2.2 r22 hd15 z11 _ _ hS32 ) ?_
         rintro v15 ww33 a87 ⟨z12, k11, rfl, hS33⟩ hf115
         refine ⟨fun _ => trivial, ?_⟩
         refine p_qn 3 [] [(7, pB b2 0), (8, vI r1.2.2), (9, pB b3 0), (10, vI r8.2.2), (19, pB b8 0), (21, pB b9 0), (22, vI r2.2.2), (158, .bool (!r22))] [] hf115 (by kernel_rfl) .nil fun a88 hf116 => ?_
         rcases Bool.eq_false_or_eq_true (!r22) with hb11 | hb11
         ·have hr37 := cond_t hb11 hr36
          have hf117 := Fr.conv hf116 (congrArg (fun z => ([(7, pB b2 0), (8, vI r1.2.2), (9, pB b3 0), (10, vI r8.2.2), (19, pB b8 0), (21, pB b9 0), (22, vI r2.2.2), (158, .bool z)] : FL)) hb11)
          refine p_qt [] [(7, pB b2 0), (8, vI r1.2.2), (9, pB b3 0), (21, pB b9 0), (22, vI r2.2.2), (163, .bool true)] [] hf117 (by kernel_rfl) .nil fun a89 hf118 => ?_
          have hf119 := Fr.keep (ks := [7, 8, 9, 21, 22, 163]) (r := [(7, pB b2 0), (8, vI r1.2.2), (9, pB b3 0), (21, pB b9 0), (22, vI r2.2.2), (163, .bool true)]) hf118 (by kernel_rfl)
          exact ⟨z12, true, (Zone.le_trans (Zone.le_trans (Zone.le_trans k8 k9) k10) k11), hf119, hS33, hr37⟩
         ·have hr38 := cond_f hb11 hr36
          have hf120 := Fr.conv hf116 (congrArg (fun z => ([(7, pB b2 0), (8, vI r1.2.2), (9, pB b3 0), (10, vI r8.2.2), (19, pB b8 0), (21, pB b9 0), (22, vI r2.2.2), (158, .bool z)] : FL)) hb11)
          refine p_qn 2 [vI r18.1, vI r18.2.1] [(7, pB b2 0), (8, vI r1.2.2), (9, pB b3 0), (21, pB b9 0), (22, vI r2.2.2), (158, .bool false), (159, .agg #[vI r18.1, vI r18.2.1]), (160, vI r8.2.2)] [.cell ⟨b8, 0, none⟩ (vI r18.1), .cell ⟨b8, 1, none⟩ (vI r18.2.1)] hf120 (by kernel_rfl) (.cell (hS33.box (i := 1) rfl (j := 0) rfl) (.cell (hS33.box (i := 1) rfl (j := 1) rfl) .nil)) fun a90 hf121 => ?_
          obtain ⟨r23, hd16, hr39⟩ := bind_some hr38
          refine p_call (i := 51) (d := some 161) (f := 43) (args := #[.agg #[vI r18.1, vI r18.2.1], vI r8.2.2]) hf121 (by kernel_rfl) (f43_ok fuel r18.1 r18.2.1 r8.2.2 r23 hd16 z12 _ _ hS33 ) ?_
          rintro v16 ww34 a91 ⟨z13, k12, rfl, hS34⟩ hf122
          refine ⟨fun _ => trivial, ?_⟩
          refine p_qt [] [(7, pB b2 0), (8, vI r1.2.2), (9, pB b3 0), (21, pB b9 0), (22, vI r2.2.2), (163, .bool (!r23))] [] hf122 (by kernel_rfl) .nil fun a92 hf123 => ?_
          have hf124 := Fr.keep (ks := [7, 8, 9, 21, 22, 163]) (r := [(7, pB b2 0), (8, vI r1.2.2), (9, pB b3 0), (21, pB b9 0), (22, vI r2.2.2), (163, .bool (!r23))]) hf123 (by kernel_rfl)
          exact ⟨z13, (!r23), (Zone.le_trans (Zone.le_trans (Zone.le_trans (Zone.le_trans k8 k9) k10) k11) k12), hf124, hS34, hr39⟩
   ·rintro a93 ww35 ⟨z8, y3, k13, hf125, hS35, hr40⟩
    refine w_if hf125 (b := y3) (by kernel_rfl) (fun hb12 => ?_) (fun hb12 => ?_)
    ·have hr41 := cond_t hb12 hr40
     refine w_sq [] [(6, .bool false)] [] hf125 (by kernel_rfl) .nil fun a94 hf126 => ?_
     refine w_ret (by kernel_rfl) ?_
     refine r_then ?_
     refine p_ret (os := []) (v := .bool false) (obs := []) hf126 (by kernel_rfl) .nil ?_
     obtain rfl := some_eq hr41
     exact ⟨_, rfl, z8, (Zone.le_trans (Zone.le_trans (Zone.le_trans (Zone.le_trans (Zone.le_trans (Zone.le_trans (Zone.le_trans k1 k2) k3) k4) k5) k6) k7) k13), rfl, (St.drop 9 hS35)⟩
    ·have hr42 := cond_f hb12 hr40
     refine w_skip (by kernel_rfl) ?_
     refine n_then ?_
     refine w_mid (by kernel_rfl) (fun a w => ∃ z14 : Zone, ∃ y2 : Bool, Zone.le z8 z14 ∧ Fr a 192 [(8, vI r1.2.2), (21, pB b9 0), (22, vI r2.2.2), (23, .bool y2)] ∧ St z14 (box b9 [vI r2.1, vI r2.2.1] 41 :: box b8 [vI r18.1, vI r18.2.1] 41 :: box b7 [vI r17.1, vI r17.2.1] 41 :: box b6 [vI r16.1, vI r16.2.1] 41 :: box b5 [vI r15.1, vI r15.2.1] 41 :: box b4 [vI r14.1, vI r14.2.1] 41 :: box b3 [vI r8.1, vI r8.2.1] 41 :: box b2 [vI r1.1, vI r1.2.1] 41 :: box b1 [vI y5, vI y6, vI y7, vI y8, vI y9, vI y10] 63 :: L) w ∧ (F7_j3 fuel r1 r2 y2) = some r) ?_ ?_
     ·skip
      refine w_reg (by kernel_rfl) ?_
      refine p_qn 2 [vI r1.1, vI r1.2.1] [(8, vI r1.2.2), (9, pB b3 0), (21, pB b9 0), (22, vI r2.2.2), (164, .agg #[vI r1.1, vI r1.2.1]), (165, vI r1.2.2)] [.cell ⟨b2, 0, none⟩ (vI r1.1), .cell ⟨b2, 1, none⟩ (vI r1.2.1)] hf125 (by kernel_rfl) (.cell (hS35.box (i := 7) rfl (j := 0) rfl) (.cell (hS35.box (i := 7) rfl (j := 1) rfl) .nil)) fun a95 hf127 => ?_
      obtain ⟨r9, hd17, hr43⟩ := bind_some hr42
      refine p_call (i := 2) (d := some 166) (f := 43) (args := #[.agg #[vI r1.1, vI r1.2.1], vI r1.2.2]) hf127 (by kernel_rfl) (f43_ok fuel r1.1 r1.2.1 r1.2.2 r9 hd17 z8 _ _ hS35 ) ?_
      rintro v17 ww36 a96 ⟨z15, k14, rfl, hS36⟩ hf128
      refine ⟨fun _ => trivial, ?_⟩
      refine p_qn 1 [] [(8, vI r1.2.2), (9, pB b3 0), (21, pB b9 0), (22, vI r2.2.2), (167, .bool r9)] [] hf128 (by kernel_rfl) .nil fun a97 hf129 => ?_
      rcases Bool.eq_false_or_eq_true r9 with hb13 | hb13
      ·have hr44 := cond_t hb13 hr43
       have hf130 := Fr.conv hf129 (congrArg (fun z => ([(8, vI r1.2.2), (9, pB b3 0), (21, pB b9 0), (22, vI r2.2.2), (167, .bool z)] : FL)) hb13)
       refine p_qn 2 [vI r8.1, vI r8.2.1] [(8, vI r1.2.2), (21, pB b9 0), (22, vI r2.2.2), (167, .bool true), (168, .agg #[vI r8.1, vI r8.2.1]), (169, vI r1.2.2)] [.cell ⟨b3, 0, none⟩ (vI r8.1), .cell ⟨b3, 1, none⟩ (vI r8.2.1)] hf130 (by kernel_rfl) (.cell (hS36.box (i := 6) rfl (j := 0) rfl) (.cell (hS36.box (i := 6) rfl (j := 1) rfl) .nil)) fun a98 hf131 => ?_
       obtain ⟨r10, hd18, hr45⟩ := bind_some hr44
       refine p_call (i := 6) (d := some 170) (f := 43) (args := #[.agg #[vI r8.1, vI r8.2.1], vI r1.2.2]) hf131 (by kernel_rfl) (f43_ok fuel r8.1 r8.2.1 r1.2.2 r10 hd18 z15 _ _ hS36 ) ?_
       rintro v18 ww37 a99 ⟨z16, k15, rfl, hS37⟩ hf132
       refine ⟨fun _ => trivial, ?_⟩
       refine p_qt [] [(8, vI r1.2.2), (21, pB b9 0), (22, vI r2.2.2), (23, .bool r10)] [] hf132 (by kernel_rfl) .nil fun a100 hf133 => ?_
       have hf134 := Fr.keep (ks := [8, 21, 22, 23]) (r := [(8, vI r1.2.2), (21, pB b9 0), (22, vI r2.2.2), (23, .bool r10)]) hf133 (by kernel_rfl)
       exact ⟨z16, r10, (Zone.le_trans k14 k15), hf134, hS37, hr45⟩
      ·have hr46 := cond_f hb13 hr43
       have hf135 := Fr.conv hf129 (congrArg (fun z => ([(8, vI r1.2.2), (9, pB b3 0), (21, pB b9 0), (22, vI r2.2.2), (167, .bool z)] : FL)) hb13)
       refine p_qt [] [(8, vI r1.2.2), (21, pB b9 0), (22, vI r2.2.2), (23, .bool false)] [] hf135 (by kernel_rfl) .nil fun a101 hf136 => ?_
       have hf137 := Fr.keep (ks := [8, 21, 22, 23]) (r := [(8, vI r1.2.2), (21, pB b9 0), (22, vI r2.2.2), (23, .bool false)]) hf136 (by kernel_rfl)
       exact ⟨z15, false, k14, hf137, hS36, hr46⟩
     ·rintro a102 ww38 ⟨z14, y2, k16, hf138, hS38, hr47⟩
      refine w_mid (by kernel_rfl) (fun a w => ∃ z17 : Zone, ∃ y1 : Bool, Zone.le z14 z17 ∧ Fr a 192 [(6, .bool y1)] ∧ St z17 (box b9 [vI r2.1, vI r2.2.1] 41 :: box b8 [vI r18.1, vI r18.2.1] 41 :: box b7 [vI r17.1, vI r17.2.1] 41 :: box b6 [vI r16.1, vI r16.2.1] 41 :: box b5 [vI r15.1, vI r15.2.1] 41 :: box b4 [vI r14.1, vI r14.2.1] 41 :: box b3 [vI r8.1, vI r8.2.1] 41 :: box b2 [vI r1.1, vI r1.2.1] 41 :: box b1 [vI y5, vI y6, vI y7, vI y8, vI y9, vI y10] 63 :: L) w ∧ (F7_j4 y1) = some r) ?_ ?_
      ·skip
       refine w_reg (by kernel_rfl) ?_
       refine p_qn 4 [] [(8, vI r1.2.2), (21, pB b9 0), (22, vI r2.2.2), (172, .bool y2), (175, .bool (r2.2.2 == (0 : Int)))] [] hf138 (by kernel_rfl) .nil fun a103 hf139 => ?_
       rcases Bool.eq_false_or_eq_true (r2.2.2 == (0 : Int)) with hb14 | hb14
       ·have hr48 := cond_t hb14 hr47
        have hf140 := Fr.conv hf139 (congrArg (fun z => ([(8, vI r1.2.2), (21, pB b9 0), (22, vI r2.2.2), (172, .bool y2), (175, .bool z)] : FL)) hb14)
        refine p_qn 2 [vI r2.1, vI r2.2.1] [(22, vI r2.2.2), (172, .bool y2), (175, .bool true), (176, .agg #[vI r2.1, vI r2.2.1]), (177, vI r1.2.2)] [.cell ⟨b9, 0, none⟩ (vI r2.1), .cell ⟨b9, 1, none⟩ (vI r2.2.1)] hf140 (by kernel_rfl) (.cell (hS38.box (i := 0) rfl (j := 0) rfl) (.cell (hS38.box (i := 0) rfl (j := 1) rfl) .nil)) fun a104 hf141 => ?_
        obtain ⟨r3, hd19, hr49⟩ := bind_some hr48
        refine p_call (i := 6) (d := some 178) (f := 43) (args := #[.agg #[vI r2.1, vI r2.2.1], vI r1.2.2]) hf141 (by kernel_rfl) (f43_ok fuel r2.1 r2.2.1 r1.2.2 r3 hd19 z14 _ _ hS38 ) ?_
        rintro v19 ww39 a105 ⟨z18, k17, rfl, hS39⟩ hf142
        refine ⟨fun _ => trivial, ?_⟩
        refine p_qn 3 [] [(22, vI r2.2.2), (181, .bool (y2 == r3))] [] hf142 (by kernel_rfl) .nil fun a106 hf143 => ?_
        rcases Bool.eq_false_or_eq_true (y2 == r3) with hb15 | hb15
        ·have hr50 := cond_t hb15 hr49
         have hf144 := Fr.conv hf143 (congrArg (fun z => ([(22, vI r2.2.2), (181, .bool z)] : FL)) hb15)
         refine p_qn 3 [] [(22, vI r2.2.2), (181, .bool true), (184, .bool (r2.2.2 == (0 : Int)))] [] hf144 (by kernel_rfl) .nil fun a107 hf145 => ?_
         rcases Bool.eq_false_or_eq_true (r2.2.2 == (0 : Int)) with hb16 | hb16
         ·have hr51 := cond_t hb16 hr50
          have hf146 := Fr.conv hf145 (congrArg (fun z => ([(22, vI r2.2.2), (181, .bool true), (184, .bool z)] : FL)) hb16)
          refine p_qn 5 [] [(189, .bool true)] [] hf146 (by kernel_rfl) .nil fun a108 hf147 => ?_
          obtain ⟨r4, hd20, hr52⟩ := bind_some hr51
          refine p_call (i := 18) (d := some 190) (f := 13) (args := #[]) hf147 (by kernel_rfl) (f13_ok fuel  r4 hd20 z18 _ _ hS39 ) ?_
          rintro v20 ww40 a109 ⟨z19, k18, rfl, hS40⟩ hf148
          refine ⟨fun _ => trivial, ?_⟩
          refine p_qt [] [(6, .bool r4)] [] hf148 (by kernel_rfl) .nil fun a110 hf149 => ?_
          have hf150 := Fr.keep (ks := [6]) (r := [(6, .bool r4)]) hf149 (by kernel_rfl)
          exact ⟨z19, r4, (Zone.le_trans k17 k18), hf150, hS40, hr52⟩
         ·have hr53 := cond_f hb16 hr50
          have hf151 := Fr.conv hf145 (congrArg (fun z => ([(22, vI r2.2.2), (181, .bool true), (184, .bool z)] : FL)) hb16)
          refine p_qn 5 [] [(189, .bool (r2.2.2 == (3 : Int)))] [] hf151 (by kernel_rfl) .nil fun a111 hf152 => ?_
          rcases Bool.eq_false_or_eq_true (r2.2.2 == (3 : Int)) with hb17 | hb17
          ·have hr54 := cond_t hb17 hr53
           have hf153 := Fr.conv hf152 (congrArg (fun z => ([(189, .bool z)] : FL)) hb17)
           obtain ⟨r5, hd21, hr55⟩ := bind_some hr54
           refine p_call (i := 18) (d := some 190) (f := 13) (args := #[]) hf153 (by kernel_rfl) (f13_ok fuel  r5 hd21 z18 _ _ hS39 ) ?_
           rintro v21 ww41 a112 ⟨z20, k19, rfl, hS41⟩ hf154
           refine ⟨fun _ => trivial, ?_⟩
           refine p_qt [] [(6, .bool r5)] [] hf154 (by kernel_rfl) .nil fun a113 hf155 => ?_
           have hf156 := Fr.keep (ks := [6]) (r := [(6, .bool r5)]) hf155 (by kernel_rfl)
           exact ⟨z20, r5, (Zone.le_trans k17 k19), hf156, hS41, hr55⟩
          ·have hr56 := cond_f hb17 hr53
           have hf157 := Fr.conv hf152 (congrArg (fun z => ([(189, .bool z)] : FL)) hb17)
           refine p_qt [] [(6, .bool false)] [] hf157 (by kernel_rfl) .nil fun a114 hf158 => ?_
           have hf159 := Fr.keep (ks := [6]) (r := [(6, .bool false)]) hf158 (by kernel_rfl)
           exact ⟨z18, false, k17, hf159, hS39, hr56⟩
        ·have hr57 := cond_f hb15 hr49
         have hf160 := Fr.conv hf143 (congrArg (fun z => ([(22, vI r2.2.2), (181, .bool z)] : FL)) hb15)
         refine p_qt [] [(6, .bool false)] [] hf160 (by kernel_rfl) .nil fun a115 hf161 => ?_
         have hf162 := Fr.keep (ks := [6]) (r := [(6, .bool false)]) hf161 (by kernel_rfl)
         exact ⟨z18, false, k17, hf162, hS39, hr57⟩
       ·have hr58 := cond_f hb14 hr47
        have hf163 := Fr.conv hf139 (congrArg (fun z => ([(8, vI r1.2.2), (21, pB b9 0), (22, vI r2.2.2), (172, .bool y2), (175, .bool z)] : FL)) hb14)
        refine p_qn 6 [] [(22, vI r2.2.2), (181, .bool (y2 == false))] [] hf163 (by kernel_rfl) .nil fun a116 hf164 => ?_
        rcases Bool.eq_false_or_eq_true (y2 == false) with hb18 | hb18
        ·have hr59 := cond_t hb18 hr58
         have hf165 := Fr.conv hf164 (congrArg (fun z => ([(22, vI r2.2.2), (181, .bool z)] : FL)) hb18)
         refine p_qn 3 [] [(22, vI r2.2.2), (181, .bool true), (184, .bool (r2.2.2 == (0 : Int)))] [] hf165 (by kernel_rfl) .nil fun a117 hf166 => ?_
         rcases Bool.eq_false_or_eq_true (r2.2.2 == (0 : Int)) with hb19 | hb19
         ·have hr60 := cond_t hb19 hr59
          have hf167 := Fr.conv hf166 (congrArg (fun z => ([(22, vI r2.2.2), (181, .bool true), (184, .bool z)] : FL)) hb19)
          refine p_qn 5 [] [(189, .bool true)] [] hf167 (by kernel_rfl) .nil fun a118 hf168 => ?_
          obtain ⟨r6, hd22, hr61⟩ := bind_some hr60
          refine p_call (i := 18) (d := some 190) (f := 13) (args := #[]) hf168 (by kernel_rfl) (f13_ok fuel  r6 hd22 z14 _ _ hS38 ) ?_
          rintro v22 ww42 a119 ⟨z21, k20, rfl, hS42⟩ hf169
          refine ⟨fun _ => trivial, ?_⟩
          refine p_qt [] [(6, .bool r6)] [] hf169 (by kernel_rfl) .nil fun a120 hf170 => ?_
          have hf171 := Fr.keep (ks := [6]) (r := [(6, .bool r6)]) hf170 (by kernel_rfl)
          exact ⟨z21, r6, k20, hf171, hS42, hr61⟩
         ·have hr62 := cond_f hb19 hr59
          have hf172 := Fr.conv hf166 (congrArg (fun z => ([(22, vI r2.2.2), (181, .bool true), (184, .bool z)] : FL)) hb19)
          refine p_qn 5 [] [(189, .bool (r2.2.2 == (3 : Int)))] [] hf172 (by kernel_rfl) .nil fun a121 hf173 => ?_
          rcases Bool.eq_false_or_eq_true (r2.2.2 == (3 : Int)) with hb20 | hb20
          ·have hr63 := cond_t hb20 hr62
           have hf174 := Fr.conv hf173 (congrArg (fun z => ([(189, .bool z)] : FL)) hb20)
           obtain ⟨r7, hd23, hr64⟩ := bind_some hr63
           refine p_call (i := 18) (d := some 190) (f := 13) (args := #[]) hf174 (by kernel_rfl) (f13_ok fuel  r7 hd23 z14 _ _ hS38 ) ?_
           rintro v23 ww43 a122 ⟨z22, k21, rfl, hS43⟩ hf175
           refine ⟨fun _ => trivial, ?_⟩
           refine p_qt [] [(6, .bool r7)] [] hf175 (by kernel_rfl) .nil fun a123 hf176 => ?_
           have hf177 := Fr.keep (ks := [6]) (r := [(6, .bool r7)]) hf176 (by kernel_rfl)
           exact ⟨z22, r7, k21, hf177, hS43, hr64⟩
          ·have hr65 := cond_f hb20 hr62
           have hf178 := Fr.conv hf173 (congrArg (fun z => ([(189, .bool z)] : FL)) hb20)
           refine p_qt [] [(6, .bool false)] [] hf178 (by kernel_rfl) .nil fun a124 hf179 => ?_
           have hf180 := Fr.keep (ks := [6]) (r := [(6, .bool false)]) hf179 (by kernel_rfl)
           exact ⟨z14, false, (Zone.le_refl _), hf180, hS38, hr65⟩
        ·have hr66 := cond_f hb18 hr58
         have hf181 := Fr.conv hf164 (congrArg (fun z => ([(22, vI r2.2.2), (181, .bool z)] : FL)) hb18)
         refine p_qt [] [(6, .bool false)] [] hf181 (by kernel_rfl) .nil fun a125 hf182 => ?_
         have hf183 := Fr.keep (ks := [6]) (r := [(6, .bool false)]) hf182 (by kernel_rfl)
         exact ⟨z14, false, (Zone.le_refl _), hf183, hS38, hr66⟩
      ·rintro a126 ww44 ⟨z17, y1, k22, hf184, hS44, hr67⟩
       refine w_ret (by kernel_rfl) ?_
       refine p_ret (os := []) (v := .bool y1) (obs := []) hf184 (by kernel_rfl) .nil ?_
       obtain rfl := some_eq hr67
       exact ⟨_, rfl, z17, (Zone.le_trans (Zone.le_trans (Zone.le_trans (Zone.le_trans (Zone.le_trans (Zone.le_trans (Zone.le_trans (Zone.le_trans (Zone.le_trans k1 k2) k3) k4) k5) k6) k7) k13) k16) k22), rfl, (St.drop 9 hS44)⟩
end Go.Proofs.Ytpjmgeajajcceaa
