/-
  The walks of functions 27, 98, 28, 99, 29, 31, 12, 73, 74, 91, 122, 100, 30, 80, 92, 64, 65, 66, 68, 69, 70, 71, 10: what the code does is what a plain function computes. No condition.
-/
import Derived.Test.YtpjmgeajajcceaaSFb
set_option linter.unusedVariables false
namespace Go.Proofs.Ytpjmgeajajcceaa
open Go.Sl Go.Sx
def F27 (fuel : Nat) (x0 : List Pt) (x1 : Int) : Option (Int × Int × Int) :=
  ((F67 fuel x0).bind fun r1 => (cond (r1 != (0 : Int)) (some (0, 0, r1)) ((F81 fuel x0 x1 x1).bind fun r2 => (cond (!r2) (some (0, 0, 4)) ((F88 fuel x0 x1).bind fun r3 => (some (r3.1, r3.2, 0)))))))
set_option maxRecDepth 100000 in
theorem f27_ok (fuel : Nat) (x0 : List Pt) (x1 : Int) (r : Int × Int × Int) (hr : F27 fuel x0 x1 = some r) (h : Zone) (L : List Atom) (w : World) (hS : St h L w) (o_x0 : Option Addr) (c_x0 : Nat) (hx_x0 : SliceR PtT h o_x0 c_x0 x0) :
    Calls Try.prog 27 #[.agg #[.slice o_x0 x0.length c_x0], vI x1] w fun e w' => ∃ v, e = .returned v ∧ (∃ h', Zone.le h h' ∧ v = .tuple #[.agg #[vI r.1, vI r.2.1], vI r.2.2] ∧ St h' L w') := by
 refine calls_intro (N := 23) Try.func27 (by kernel_rfl) fun a hf => ?_
 refine w_sr (by kernel_rfl) ?_
 refine p_box (i := 0) (d := (some 2)) (cs := [.slice o_x0 x0.length c_x0]) (T := 24) (v := fun b1 => pB b1 0) hS hf (fun b => by kernel_rfl) fun b1 ww1 a1 hS1 hf1 => ⟨fun _ => trivial, ?_⟩
 refine p_box (i := 1) (d := (some 4)) (cs := [vI 0, vI 0]) (T := 41) (v := fun b2 => pB b2 0) hS1 hf1 (fun b => by kernel_rfl) fun b2 ww2 a2 hS2 hf2 => ⟨fun _ => trivial, ?_⟩
 refine p_qt [] [(1, vI x1), (2, pB b1 0), (4, pB b2 0)] [] hf2 (by kernel_rfl) .nil fun a3 hf3 => ?_
 refine w_seq (by kernel_rfl) ?_
 refine w_sr (by kernel_rfl) ?_
 refine p_qn 1 [.slice o_x0 x0.length c_x0] [(1, vI x1), (2, pB b1 0), (4, pB b2 0), (7, .agg #[.slice o_x0 x0.length c_x0])] [.cell ⟨b1, 0, none⟩ (.slice o_x0 x0.length c_x0)] hf3 (by kernel_rfl) (.cell (hS2.box (i := 1) rfl (j := 0) rfl) .nil) fun a4 hf4 => ?_
 obtain ⟨r1, hd1, hr1⟩ := bind_some hr
 refine p_call (i := 1) (d := some 8) (f := 67) (args := #[.agg #[.slice o_x0 x0.length c_x0]]) hf4 (by kernel_rfl) (f67_ok fuel x0 r1 hd1 h _ _ hS2 o_x0 c_x0 hx_x0) ?_
 rintro v1 ww3 a5 ⟨z1, k1, rfl, hS3⟩ hf5
 refine ⟨fun _ => trivial, ?_⟩
 refine p_qt [] [(1, vI x1), (2, pB b1 0), (4, pB b2 0), (6, vI r1)] [] hf5 (by kernel_rfl) .nil fun a6 hf6 => ?_
 refine w_sq [] [(1, vI x1), (2, pB b1 0), (4, pB b2 0), (6, vI r1), (10, .bool (r1 != (0 : Int)))] [] hf6 (by kernel_rfl) .nil fun a7 hf7 => ?_
 refine w_if hf7 (b := (r1 != (0 : Int))) (by kernel_rfl) (fun hb1 => ?_) (fun hb1 => ?_)
 ·have hr2 := cond_t hb1 hr1
  refine w_sr (by kernel_rfl) ?_
  refine p_qn 2 [] [(4, pB b2 0), (11, .agg #[vI 0, vI 0]), (12, vI r1)] [] hf7 (by kernel_rfl) .nil fun a8 hf8 => ?_
  refine p_store_eq (i := 2) (j := 0) (b := b2) (off := 0) (vs := [vI 0, vI 0]) (cs' := [vI 0, vI 0]) hS3 hf8 rfl (by kernel_rfl) (by kernel_rfl) rfl fun ww4 a9 hS4 hf9 => ⟨fun _ => trivial, ?_⟩
  refine p_qt [] [(4, pB b2 0), (5, vI r1)] [] hf9 (by kernel_rfl) .nil fun a10 hf10 => ?_
  refine w_ret (by kernel_rfl) ?_
  refine r_then ?_
  refine p_ret (os := [vI 0, vI 0]) (v := .tuple #[.agg #[vI 0, vI 0], vI r1]) (obs := [.cell ⟨b2, 0, none⟩ (vI 0), .cell ⟨b2, 1, none⟩ (vI 0)]) hf10 (by kernel_rfl) (.cell (hS4.box (i := 0) rfl (j := 0) rfl) (.cell (hS4.box (i := 0) rfl (j := 1) rfl) .nil)) ?_
  obtain rfl := some_eq hr2
  exact ⟨_, rfl, z1, k1, rfl, (St.drop 2 hS4)⟩
 ·have hr3 := cond_f hb1 hr1
  refine w_skip (by kernel_rfl) ?_
  refine n_then ?_
  refine w_seq (by kernel_rfl) ?_
  refine w_sr (by kernel_rfl) ?_
  refine p_qn 4 [.slice o_x0 x0.length c_x0] [(1, vI x1), (2, pB b1 0), (4, pB b2 0), (13, .agg #[.slice o_x0 x0.length c_x0]), (16, .agg #[vI x1, vI x1])] [.cell ⟨b1, 0, none⟩ (.slice o_x0 x0.length c_x0)] hf7 (by kernel_rfl) (.cell (hS3.box (i := 1) rfl (j := 0) rfl) .nil) fun a11 hf11 => ?_
  obtain ⟨r2, hd2, hr4⟩ := bind_some hr3
  refine p_call (i := 4) (d := some 17) (f := 81) (args := #[.agg #[.slice o_x0 x0.length c_x0], .agg #[vI x1, vI x1]]) hf11 (by kernel_rfl) (f81_ok fuel x0 x1 x1 r2 hd2 z1 _ _ hS3 o_x0 c_x0 (SliceR.mono k1 hx_x0)) ?_
  rintro v2 ww5 a12 ⟨z2, k2, rfl, hS5⟩ hf12
  refine ⟨fun _ => trivial, ?_⟩
  refine p_qt [] [(1, vI x1), (2, pB b1 0), (4, pB b2 0), (18, .bool (!r2))] [] hf12 (by kernel_rfl) .nil fun a13 hf13 => ?_
  refine w_if hf13 (b := (!r2)) (by kernel_rfl) (fun hb2 => ?_) (fun hb2 => ?_)
  ·have hr5 := cond_t hb2 hr4
   refine w_sr (by kernel_rfl) ?_
   refine p_qn 1 [] [(4, pB b2 0), (19, .agg #[vI 0, vI 0])] [] hf13 (by kernel_rfl) .nil fun a14 hf14 => ?_
   refine p_store_eq (i := 1) (j := 0) (b := b2) (off := 0) (vs := [vI 0, vI 0]) (cs' := [vI 0, vI 0]) hS5 hf14 rfl (by kernel_rfl) (by kernel_rfl) rfl fun ww6 a15 hS6 hf15 => ⟨fun _ => trivial, ?_⟩
   refine p_qt [] [(4, pB b2 0), (5, vI 4)] [] hf15 (by kernel_rfl) .nil fun a16 hf16 => ?_
   refine w_ret (by kernel_rfl) ?_
   refine r_then ?_
   refine p_ret (os := [vI 0, vI 0]) (v := .tuple #[.agg #[vI 0, vI 0], vI 4]) (obs := [.cell ⟨b2, 0, none⟩ (vI 0), .cell ⟨b2, 1, none⟩ (vI 0)]) hf16 (by kernel_rfl) (.cell (hS6.box (i := 0) rfl (j := 0) rfl) (.cell (hS6.box (i := 0) rfl (j := 1) rfl) .nil)) ?_
   obtain rfl := some_eq hr5
   exact ⟨_, rfl, z2, (Zone.le_trans k1 k2), rfl, (St.drop 2 hS6)⟩
  ·have hr6 := cond_f hb2 hr4
   refine w_skip (by kernel_rfl) ?_
   refine n_then ?_
   refine w_sr (by kernel_rfl) ?_
   refine p_qn 2 [.slice o_x0 x0.length c_x0] [(4, pB b2 0), (20, .agg #[.slice o_x0 x0.length c_x0]), (21, vI x1)] [.cell ⟨b1, 0, none⟩ (.slice o_x0 x0.length c_x0)] hf13 (by kernel_rfl) (.cell (hS5.box (i := 1) rfl (j := 0) rfl) .nil) fun a17 hf17 => ?_
   obtain ⟨r3, hd3, hr7⟩ := bind_some hr6
   refine p_call (i := 2) (d := some 22) (f := 88) (args := #[.agg #[.slice o_x0 x0.length c_x0], vI x1]) hf17 (by kernel_rfl) (f88_ok fuel x0 x1 r3 hd3 z2 _ _ hS5 o_x0 c_x0 (SliceR.mono (Zone.le_trans k1 k2) hx_x0)) ?_
   rintro v3 ww7 a18 ⟨z3, k3, rfl, hS7⟩ hf18
   refine ⟨fun _ => trivial, ?_⟩
   refine p_store_eq (i := 3) (j := 0) (b := b2) (off := 0) (vs := [vI r3.1, vI r3.2]) (cs' := [vI r3.1, vI r3.2]) hS7 hf18 rfl (by kernel_rfl) (by kernel_rfl) rfl fun ww8 a19 hS8 hf19 => ⟨fun _ => trivial, ?_⟩
   refine p_qt [] [(4, pB b2 0), (5, vI 0)] [] hf19 (by kernel_rfl) .nil fun a20 hf20 => ?_
   refine w_ret (by kernel_rfl) ?_
   refine p_ret (os := [vI r3.1, vI r3.2]) (v := .tuple #[.agg #[vI r3.1, vI r3.2], vI 0]) (obs := [.cell ⟨b2, 0, none⟩ (vI r3.1), .cell ⟨b2, 1, none⟩ (vI r3.2)]) hf20 (by kernel_rfl) (.cell (hS8.box (i := 0) rfl (j := 0) rfl) (.cell (hS8.box (i := 0) rfl (j := 1) rfl) .nil)) ?_
   obtain rfl := some_eq hr7
   exact ⟨_, rfl, z3, (Zone.le_trans (Zone.le_trans k1 k2) k3), rfl, (St.drop 2 hS8)⟩
def F98 (fuel : Nat) (x0_x : Int) (x0_lo : Int) (x0_hi : Int) (x1_x : Int) (x1_lo : Int) (x1_hi : Int) : Option (Bool) :=
  (some ((decide (x1_lo ≥ x0_hi))))
set_option maxRecDepth 100000 in
theorem f98_ok (fuel : Nat) (x0_x : Int) (x0_lo : Int) (x0_hi : Int) (x1_x : Int) (x1_lo : Int) (x1_hi : Int) (r : Bool) (hr : F98 fuel x0_x x0_lo x0_hi x1_x x1_lo x1_hi = some r) (h : Zone) (L : List Atom) (w : World) (hS : St h L w)  :
    Calls Try.prog 98 #[.agg #[vI x0_x, vI x0_lo, vI x0_hi], .agg #[vI x1_x, vI x1_lo, vI x1_hi]] w fun e w' => ∃ v, e = .returned v ∧ (v = .bool r ∧ St h L w') := by
 refine calls_intro (N := 10) Try.func98 (by kernel_rfl) fun a hf => ?_
 refine w_sr (by kernel_rfl) ?_
 refine p_box (i := 0) (d := (some 2)) (cs := [vI x0_x, vI x0_lo, vI x0_hi]) (T := 52) (v := fun b1 => pB b1 0) hS hf (fun b => by kernel_rfl) fun b1 ww1 a1 hS1 hf1 => ⟨fun _ => trivial, ?_⟩
 refine p_box (i := 1) (d := (some 3)) (cs := [vI x1_x, vI x1_lo, vI x1_hi]) (T := 52) (v := fun b2 => pB b2 0) hS1 hf1 (fun b => by kernel_rfl) fun b2 ww2 a2 hS2 hf2 => ⟨fun _ => trivial, ?_⟩
 refine p_qt [] [(2, pB b1 0), (3, pB b2 0)] [] hf2 (by kernel_rfl) .nil fun a3 hf3 => ?_
 refine w_sq [vI x1_lo, vI x0_hi] [(4, .bool (decide (x1_lo ≥ x0_hi)))] [.cell ⟨b2, 1, none⟩ (vI x1_lo), .cell ⟨b1, 2, none⟩ (vI x0_hi)] hf3 (by kernel_rfl) (.cell (hS2.box (i := 0) rfl (j := 1) rfl) (.cell (hS2.box (i := 1) rfl (j := 2) rfl) .nil)) fun a4 hf4 => ?_
 refine w_ret (by kernel_rfl) ?_
 refine p_ret (os := []) (v := .bool (decide (x1_lo ≥ x0_hi))) (obs := []) hf4 (by kernel_rfl) .nil ?_
 obtain rfl := some_eq hr
 exact ⟨_, rfl, rfl, (St.drop 2 hS2)⟩
def F28_j1 (y1 : Bool) : Option (Bool) :=
  (some (y1))
def F28_l1 (fuel : Nat) (x0 : List Pt) (d1 : List Pt) : Nat → Int → Option (Bool)
  | 0, _ => none
  | n1 + 1, y2 =>
    let k1 : Int → Option (Bool) := F28_l1 fuel x0 d1 n1
    (cond (decide (y2 < (d1.length : Int))) ((getI d1 y2).bind fun p1 => ((getI x0 y2).bind fun p2 => ((F98 fuel p2.x p2.lo p2.hi p1.x p1.lo p1.hi).bind fun r1 => (cond (!r1) (F28_j1 false) (k1 (w64 (y2 + (1 : Int)))))))) (F28_j1 true))
def F28 (fuel : Nat) (x0 : List Pt) : Option (Bool) :=
  ((F67 fuel x0).bind fun r2 => (cond (r2 != (0 : Int)) (F28_j1 false) ((subI x0 1 (x0.length : Int)).bind fun d1 => (F28_l1 fuel x0 d1 fuel 0))))
set_option maxRecDepth 100000 in
theorem f28_ok (fuel : Nat) (x0 : List Pt) (r : Bool) (hr : F28 fuel x0 = some r) (h : Zone) (L : List Atom) (w : World) (hS : St h L w) (o_x0 : Option Addr) (c_x0 : Nat) (hx_x0 : SliceR PtT h o_x0 c_x0 x0) :
    Calls Try.prog 28 #[.agg #[.slice o_x0 x0.length c_x0]] w fun e w' => ∃ v, e = .returned v ∧ (∃ h', Zone.le h h' ∧ v = .bool r ∧ St h' L w') := by
 refine calls_intro (N := 5) Try.func28 (by kernel_rfl) fun a hf => ?_
 refine w_sr (by kernel_rfl) ?_
 refine p_box (i := 0) (d := (some 1)) (cs := [.slice o_x0 x0.length c_x0]) (T := 24) (v := fun b1 => pB b1 0) hS hf (fun b => by kernel_rfl) fun b1 ww1 a1 hS1 hf1 => ⟨fun _ => trivial, ?_⟩
 refine p_qt [] [(1, pB b1 0)] [] hf1 (by kernel_rfl) .nil fun a2 hf2 => ?_
 refine w_sr (by kernel_rfl) ?_
 refine p_qn 1 [.slice o_x0 x0.length c_x0] [(3, .agg #[.slice o_x0 x0.length c_x0])] [.cell ⟨b1, 0, none⟩ (.slice o_x0 x0.length c_x0)] hf2 (by kernel_rfl) (.cell (hS1.box (i := 0) rfl (j := 0) rfl) .nil) fun a3 hf3 => ?_
 refine p_call (i := 1) (d := some 4) (f := 97) (args := #[.agg #[.slice o_x0 x0.length c_x0], .func (.func 98) #[] #[]]) hf3 (by kernel_rfl) (Φ := fun v w => ∃ z1 : Zone, ∃ y1 : Bool, Zone.le h z1 ∧ v = .bool y1 ∧ St z1 (box b1 [.slice o_x0 x0.length c_x0] 24 :: L) w ∧ (F28_j1 y1) = some r) ?_ ?_
 ·refine calls_intro (N := 29) Try.func97 (by kernel_rfl) fun a4 hf4 => ?_
  refine w_sr (by kernel_rfl) ?_
  refine p_box (i := 0) (d := (some 2)) (cs := [.slice o_x0 x0.length c_x0]) (T := 24) (v := fun b2 => pB b2 0) hS1 hf4 (fun b => by kernel_rfl) fun b2 ww2 a5 hS2 hf5 => ⟨fun _ => trivial, ?_⟩
  refine p_qt [] [(1, .func (.func 98) #[] #[]), (2, pB b2 0)] [] hf5 (by kernel_rfl) .nil fun a6 hf6 => ?_
  refine w_seq (by kernel_rfl) ?_
  refine w_sr (by kernel_rfl) ?_
  refine p_qn 1 [.slice o_x0 x0.length c_x0] [(1, .func (.func 98) #[] #[]), (2, pB b2 0), (7, .agg #[.slice o_x0 x0.length c_x0])] [.cell ⟨b2, 0, none⟩ (.slice o_x0 x0.length c_x0)] hf6 (by kernel_rfl) (.cell (hS2.box (i := 0) rfl (j := 0) rfl) .nil) fun a7 hf7 => ?_
  obtain ⟨r2, hd1, hr1⟩ := bind_some hr
  refine p_call (i := 1) (d := some 8) (f := 67) (args := #[.agg #[.slice o_x0 x0.length c_x0]]) hf7 (by kernel_rfl) (f67_ok fuel x0 r2 hd1 h _ _ hS2 o_x0 c_x0 hx_x0) ?_
  rintro v1 ww3 a8 ⟨z2, k2, rfl, hS3⟩ hf8
  refine ⟨fun _ => trivial, ?_⟩
  refine p_qt [] [(1, .func (.func 98) #[] #[]), (2, pB b2 0), (9, .bool (r2 != (0 : Int)))] [] hf8 (by kernel_rfl) .nil fun a9 hf9 => ?_
  refine w_if hf9 (b := (r2 != (0 : Int))) (by kernel_rfl) (fun hb1 => ?_) (fun hb1 => ?_)
  ·have hr2 := cond_t hb1 hr1
   refine w_sq [] [(4, .bool false)] [] hf9 (by kernel_rfl) .nil fun a10 hf10 => ?_
   refine w_ret (by kernel_rfl) ?_
   refine r_then ?_
   refine p_ret (os := []) (v := .bool false) (obs := []) hf10 (by kernel_rfl) .nil ?_
   exact ⟨_, rfl, z2, false, k2, rfl, (St.drop 1 hS3), hr2⟩
  ·have hr3 := cond_f hb1 hr1
   refine w_skip (by kernel_rfl) ?_
   refine n_then ?_
   refine w_seq (by kernel_rfl) ?_
   obtain ⟨d1, hd2, hr4⟩ := bind_some hr3
   obtain ⟨e1, q1, hv1, hb2, hx1⟩ := SliceR.subV (SliceR.mono k2 hx_x0) hd2
   refine w_sq [.slice o_x0 x0.length c_x0, .slice e1 d1.length q1] [(1, .func (.func 98) #[] #[]), (2, pB b2 0), (12, .slice e1 d1.length q1), (13, vI (d1.length : Int)), (14, vI 0)] [.cell ⟨b2, 0, none⟩ (.slice o_x0 x0.length c_x0), .prop ((.slice e1 d1.length q1 : Value) = .slice (subO o_x0 c_x0 (Int.toNat 1) 3) (Int.toNat (x0.length : Int) - Int.toNat 1) (c_x0 - Int.toNat 1)), .prop ((0 : Int) ≤ 1 ∧ (1 : Int) ≤ (x0.length : Int) ∧ (x0.length : Int) ≤ (c_x0 : Nat) ∧ x0.length ≤ c_x0)] hf9 (by kernel_rfl) (.cell (hS3.box (i := 0) rfl (j := 0) rfl) (.prop hv1 (.prop hb2 .nil))) fun a11 hf11 => ?_
   refine w_block (id := 0) (by kernel_rfl) ?_
   have hf12 := Fr.keep (ks := [1, 2, 12, 13, 14]) (r := [(1, .func (.func 98) #[] #[]), (2, pB b2 0), (12, .slice e1 d1.length q1), (13, vI (d1.length : Int)), (14, vI 0)]) hf11 (by kernel_rfl)
   refine w_loop (by kernel_rfl) (fun n a w => ∃ z3 : Zone, ∃ y2 : Int, Zone.le z2 z3 ∧ Fr a 29 [(1, .func (.func 98) #[] #[]), (2, pB b2 0), (12, .slice e1 d1.length q1), (13, vI (d1.length : Int)), (14, vI y2)] ∧ St z3 (box b2 [.slice o_x0 x0.length c_x0] 24 :: box b1 [.slice o_x0 x0.length c_x0] 24 :: L) w ∧ (F28_l1 fuel x0 d1 n y2) = some r) fuel ⟨z2, 0, (Zone.le_refl _), hf12, hS3, hr4⟩ ?_
   rintro n2 a12 ww4 ⟨z3, y2, k3, hf13, hS4, hr5⟩
   cases n2 with
   | zero => cases hr5
   | succ n1 =>
   refine w_sq [] [(1, .func (.func 98) #[] #[]), (2, pB b2 0), (12, .slice e1 d1.length q1), (13, vI (d1.length : Int)), (14, vI y2), (15, .bool (decide (y2 < (d1.length : Int))))] [] hf13 (by kernel_rfl) .nil fun a13 hf14 => ?_
   refine w_seq (by kernel_rfl) ?_
   refine w_if hf14 (b := (decide (y2 < (d1.length : Int)))) (by kernel_rfl) (fun hb3 => ?_) (fun hb3 => ?_)
   ·have hr6 := cond_t hb3 hr5
    refine w_skip (by kernel_rfl) ?_
    refine n_then ?_
    refine w_seq (by kernel_rfl) ?_
    refine w_block (id := 1) (by kernel_rfl) ?_
    refine w_sr (by kernel_rfl) ?_
    obtain ⟨p1, hp2069, hr7⟩ := bind_some hr6
    obtain ⟨ad1, ho1, hb4, cc1, hc1, hk1⟩ := SliceR.getI (SliceR.mono k3 hx1) hp2069
    subst hc1
    refine p_qn 3 [.pointer (some ad1), vI p1.x, vI p1.lo, vI p1.hi] [(1, .func (.func 98) #[] #[]), (2, pB b2 0), (12, .slice e1 d1.length q1), (13, vI (d1.length : Int)), (14, vI y2), (16, vI y2), (18, .agg #[vI p1.x, vI p1.lo, vI p1.hi])] [.prop (e1 = some ad1), .prop (0 ≤ y2 ∧ y2 < (d1.length : Nat)), .cell ((ad1.add (Int.toNat y2 * 3)).add 0) (vI p1.x), .cell ((ad1.add (Int.toNat y2 * 3)).add 1) (vI p1.lo), .cell ((ad1.add (Int.toNat y2 * 3)).add 2) (vI p1.hi)] hf14 (by kernel_rfl) (.prop ho1 (.prop hb4 (.cell (hS4.cell (hk1 0 _ rfl)) (.cell (hS4.cell (hk1 1 _ rfl)) (.cell (hS4.cell (hk1 2 _ rfl)) .nil))))) fun a14 hf15 => ?_
    refine p_box (i := 3) (d := (some 6)) (cs := [vI 0, vI 0, vI 0]) (T := 52) (v := fun b3 => pB b3 0) hS4 hf15 (fun b => by kernel_rfl) fun b3 ww5 a15 hS5 hf16 => ⟨fun _ => trivial, ?_⟩
    refine p_qn 1 [] [(1, .func (.func 98) #[] #[]), (2, pB b2 0), (5, vI y2), (6, pB b3 0), (12, .slice e1 d1.length q1), (13, vI (d1.length : Int)), (14, vI y2), (18, .agg #[vI p1.x, vI p1.lo, vI p1.hi])] [] hf16 (by kernel_rfl) .nil fun a16 hf17 => ?_
    refine p_store_eq (i := 5) (j := 0) (b := b3) (off := 0) (vs := [vI p1.x, vI p1.lo, vI p1.hi]) (cs' := [vI p1.x, vI p1.lo, vI p1.hi]) hS5 hf17 rfl (by kernel_rfl) (by kernel_rfl) rfl fun ww6 a17 hS6 hf18 => ⟨fun _ => trivial, ?_⟩
    refine p_dt (by kernel_rfl) ?_
    refine w_seq (by kernel_rfl) ?_
    have hS7 := hS6.drew
    refine w_regD (by kernel_rfl) [(0, true), (1, true), (2, true), (3, true), (4, true), (5, true), (6, true), (7, false), (8, true)] [7] (fun x => x = ww6.drew) (by kernel_rfl) rfl ?_
    obtain ⟨p2, hp2092, hr8⟩ := bind_some hr7
    obtain ⟨ad2, ho2, hb5, cc2, hc2, hk2⟩ := SliceR.getI (SliceR.mono (Zone.le_trans k2 k3) hx_x0) hp2092
    subst hc2
    refine p_qE 7 [.slice o_x0 x0.length c_x0, .pointer (some ad2), vI p2.x, vI p2.lo, vI p2.hi, vI p1.x, vI p1.lo, vI p1.hi] [(1, .func (.func 98) #[] #[]), (2, pB b2 0), (12, .slice e1 d1.length q1), (13, vI (d1.length : Int)), (14, vI y2), (19, .func (.func 98) #[] #[]), (24, .agg #[vI p2.x, vI p2.lo, vI p2.hi]), (25, .agg #[vI p1.x, vI p1.lo, vI p1.hi])] [.cell ⟨b2, 0, none⟩ (.slice o_x0 x0.length c_x0), .prop (o_x0 = some ad2), .prop (0 ≤ y2 ∧ y2 < (x0.length : Nat)), .cell ((ad2.add (Int.toNat y2 * 3)).add 0) (vI p2.x), .cell ((ad2.add (Int.toNat y2 * 3)).add 1) (vI p2.lo), .cell ((ad2.add (Int.toNat y2 * 3)).add 2) (vI p2.hi), .cell ⟨b3, 0, none⟩ (vI p1.x), .cell ⟨b3, 1, none⟩ (vI p1.lo), .cell ⟨b3, 2, none⟩ (vI p1.hi)] [] hf18 (by kernel_rfl) (.cell (hS7.box (i := 1) rfl (j := 0) rfl) (.prop ho2 (.prop hb5 (.cell (hS7.cell (hk2 0 _ rfl)) (.cell (hS7.cell (hk2 1 _ rfl)) (.cell (hS7.cell (hk2 2 _ rfl)) (.cell (hS7.box (i := 0) rfl (j := 0) rfl) (.cell (hS7.box (i := 0) rfl (j := 1) rfl) (.cell (hS7.box (i := 0) rfl (j := 2) rfl) .nil))))))))) .nil fun a18 hf19 => ?_
    obtain ⟨r1, hd3, hr9⟩ := bind_some hr8
    refine p_call (i := 7) (d := some 26) (f := 98) (args := #[.agg #[vI p2.x, vI p2.lo, vI p2.hi], .agg #[vI p1.x, vI p1.lo, vI p1.hi]]) hf19 (by kernel_rfl) (f98_ok fuel p2.x p2.lo p2.hi p1.x p1.lo p1.hi r1 hd3 z3 _ _ hS7 ) ?_
    rintro v2 ww7 a19 ⟨rfl, hS8⟩ hf20
    refine ⟨fun e => absurd e (by decide), ?_⟩
    refine p_qP 1 [] [(1, .func (.func 98) #[] #[]), (2, pB b2 0), (12, .slice e1 d1.length q1), (13, vI (d1.length : Int)), (14, vI y2), (27, .bool (!r1))] [] hf20 (by kernel_rfl) (fun _ => .nil) fun a20 hf21 => ?_
    refine p_dt (by kernel_rfl) ?_
    refine w_if hf21 (b := (!r1)) (by kernel_rfl) (fun hb6 => ?_) (fun hb6 => ?_)
    ·have hr10 := cond_t hb6 hr9
     refine w_sq [] [(4, .bool false)] [] hf21 (by kernel_rfl) .nil fun a21 hf22 => ?_
     refine w_ret (by kernel_rfl) ?_
     refine r_block ?_
     refine r_then ?_
     refine r_then ?_
     refine r_block ?_
     refine r_then ?_
     refine p_ret (os := []) (v := .bool false) (obs := []) hf22 (by kernel_rfl) .nil ?_
     exact ⟨_, rfl, z3, false, (Zone.le_trans k2 k3), rfl, (St.drop 2 hS8), hr10⟩
    ·have hr11 := cond_f hb6 hr9
     refine w_skip (by kernel_rfl) ?_
     refine n_block ?_
     refine n_then ?_
     refine w_q [] [(1, .func (.func 98) #[] #[]), (2, pB b2 0), (12, .slice e1 d1.length q1), (13, vI (d1.length : Int)), (14, vI (w64 (y2 + (1 : Int))))] [] hf21 (by kernel_rfl) .nil fun a22 hf23 => ?_
     refine n_then ?_
     have hf24 := Fr.keep (ks := [1, 2, 12, 13, 14]) (r := [(1, .func (.func 98) #[] #[]), (2, pB b2 0), (12, .slice e1 d1.length q1), (13, vI (d1.length : Int)), (14, vI (w64 (y2 + (1 : Int))))]) hf23 (by kernel_rfl)
     exact ⟨n1, Nat.lt_succ_self n1, z3, (w64 (y2 + (1 : Int))), k3, hf24, (St.drop 1 hS8), hr11⟩
   ·have hr12 := cond_f hb3 hr5
    refine w_exit (id := 0) (by kernel_rfl) ?_
    refine x_then ?_
    refine x_then ?_
    refine x_block ?_
    refine n_then ?_
    refine w_sq [] [(4, .bool true)] [] hf14 (by kernel_rfl) .nil fun a23 hf25 => ?_
    refine w_ret (by kernel_rfl) ?_
    refine p_ret (os := []) (v := .bool true) (obs := []) hf25 (by kernel_rfl) .nil ?_
    exact ⟨_, rfl, z3, true, (Zone.le_trans k2 k3), rfl, (St.drop 1 hS4), hr12⟩
 ·rintro v3 ww8 a24 ⟨z1, y1, k4, rfl, hS9, hr13⟩ hf26
  refine ⟨fun _ => trivial, ?_⟩
  refine p_qt [] [(2, .bool y1)] [] hf26 (by kernel_rfl) .nil fun a25 hf27 => ?_
  refine w_ret (by kernel_rfl) ?_
  refine p_ret (os := []) (v := .bool y1) (obs := []) hf27 (by kernel_rfl) .nil ?_
  obtain rfl := some_eq hr13
  exact ⟨_, rfl, z1, k4, rfl, (St.drop 1 hS9)⟩
def F99 (fuel : Nat) (x0_x : Int) (x0_lo : Int) (x0_hi : Int) (x1_x : Int) (x1_lo : Int) (x1_hi : Int) : Option (Bool) :=
  (some ((decide (x1_hi ≤ x0_lo))))
set_option maxRecDepth 100000 in
theorem f99_ok (fuel : Nat) (x0_x : Int) (x0_lo : Int) (x0_hi : Int) (x1_x : Int) (x1_lo : Int) (x1_hi : Int) (r : Bool) (hr : F99 fuel x0_x x0_lo x0_hi x1_x x1_lo x1_hi = some r) (h : Zone) (L : List Atom) (w : World) (hS : St h L w)  :
    Calls Try.prog 99 #[.agg #[vI x0_x, vI x0_lo, vI x0_hi], .agg #[vI x1_x, vI x1_lo, vI x1_hi]] w fun e w' => ∃ v, e = .returned v ∧ (v = .bool r ∧ St h L w') := by
 refine calls_intro (N := 10) Try.func99 (by kernel_rfl) fun a hf => ?_
 refine w_sr (by kernel_rfl) ?_
 refine p_box (i := 0) (d := (some 2)) (cs := [vI x0_x, vI x0_lo, vI x0_hi]) (T := 52) (v := fun b1 => pB b1 0) hS hf (fun b => by kernel_rfl) fun b1 ww1 a1 hS1 hf1 => ⟨fun _ => trivial, ?_⟩
 refine p_box (i := 1) (d := (some 3)) (cs := [vI x1_x, vI x1_lo, vI x1_hi]) (T := 52) (v := fun b2 => pB b2 0) hS1 hf1 (fun b => by kernel_rfl) fun b2 ww2 a2 hS2 hf2 => ⟨fun _ => trivial, ?_⟩
 refine p_qt [] [(2, pB b1 0), (3, pB b2 0)] [] hf2 (by kernel_rfl) .nil fun a3 hf3 => ?_
 refine w_sq [vI x1_hi, vI x0_lo] [(4, .bool (decide (x1_hi ≤ x0_lo)))] [.cell ⟨b2, 2, none⟩ (vI x1_hi), .cell ⟨b1, 1, none⟩ (vI x0_lo)] hf3 (by kernel_rfl) (.cell (hS2.box (i := 0) rfl (j := 2) rfl) (.cell (hS2.box (i := 1) rfl (j := 1) rfl) .nil)) fun a4 hf4 => ?_
 refine w_ret (by kernel_rfl) ?_
 refine p_ret (os := []) (v := .bool (decide (x1_hi ≤ x0_lo))) (obs := []) hf4 (by kernel_rfl) .nil ?_
 obtain rfl := some_eq hr
 exact ⟨_, rfl, rfl, (St.drop 2 hS2)⟩
def F29_j1 (y1 : Bool) : Option (Bool) :=
  (some (y1))
def F29_l1 (fuel : Nat) (x0 : List Pt) (d1 : List Pt) : Nat → Int → Option (Bool)
  | 0, _ => none
  | n1 + 1, y2 =>
    let k1 : Int → Option (Bool) := F29_l1 fuel x0 d1 n1
    (cond (decide (y2 < (d1.length : Int))) ((getI d1 y2).bind fun p1 => ((getI x0 y2).bind fun p2 => ((F99 fuel p2.x p2.lo p2.hi p1.x p1.lo p1.hi).bind fun r1 => (cond (!r1) (F29_j1 false) (k1 (w64 (y2 + (1 : Int)))))))) (F29_j1 true))
def F29 (fuel : Nat) (x0 : List Pt) : Option (Bool) :=
  ((F67 fuel x0).bind fun r2 => (cond (r2 != (0 : Int)) (F29_j1 false) ((subI x0 1 (x0.length : Int)).bind fun d1 => (F29_l1 fuel x0 d1 fuel 0))))
set_option maxRecDepth 100000 in
theorem f29_ok (fuel : Nat) (x0 : List Pt) (r : Bool) (hr : F29 fuel x0 = some r) (h : Zone) (L : List Atom) (w : World) (hS : St h L w) (o_x0 : Option Addr) (c_x0 : Nat) (hx_x0 : SliceR PtT h o_x0 c_x0 x0) :
    Calls Try.prog 29 #[.agg #[.slice o_x0 x0.length c_x0]] w fun e w' => ∃ v, e = .returned v ∧ (∃ h', Zone.le h h' ∧ v = .bool r ∧ St h' L w') := by
 refine calls_intro (N := 5) Try.func29 (by kernel_rfl) fun a hf => ?_
 refine w_sr (by kernel_rfl) ?_
 refine p_box (i := 0) (d := (some 1)) (cs := [.slice o_x0 x0.length c_x0]) (T := 24) (v := fun b1 => pB b1 0) hS hf (fun b => by kernel_rfl) fun b1 ww1 a1 hS1 hf1 => ⟨fun _ => trivial, ?_⟩
 refine p_qt [] [(1, pB b1 0)] [] hf1 (by kernel_rfl) .nil fun a2 hf2 => ?_
 refine w_sr (by kernel_rfl) ?_
 refine p_qn 1 [.slice o_x0 x0.length c_x0] [(3, .agg #[.slice o_x0 x0.length c_x0])] [.cell ⟨b1, 0, none⟩ (.slice o_x0 x0.length c_x0)] hf2 (by kernel_rfl) (.cell (hS1.box (i := 0) rfl (j := 0) rfl) .nil) fun a3 hf3 => ?_
 refine p_call (i := 1) (d := some 4) (f := 97) (args := #[.agg #[.slice o_x0 x0.length c_x0], .func (.func 99) #[] #[]]) hf3 (by kernel_rfl) (Φ := fun v w => ∃ z1 : Zone, ∃ y1 : Bool, Zone.le h z1 ∧ v = .bool y1 ∧ St z1 (box b1 [.slice o_x0 x0.length c_x0] 24 :: L) w ∧ (F29_j1 y1) = some r) ?_ ?_
 ·refine calls_intro (N := 29) Try.func97 (by kernel_rfl) fun a4 hf4 => ?_
  refine w_sr (by kernel_rfl) ?_
  refine p_box (i := 0) (d := (some 2)) (cs := [.slice o_x0 x0.length c_x0]) (T := 24) (v := fun b2 => pB b2 0) hS1 hf4 (fun b => by kernel_rfl) fun b2 ww2 a5 hS2 hf5 => ⟨fun _ => trivial, ?_⟩
  refine p_qt [] [(1, .func (.func 99) #[] #[]), (2, pB b2 0)] [] hf5 (by kernel_rfl) .nil fun a6 hf6 => ?_
  refine w_seq (by kernel_rfl) ?_
  refine w_sr (by kernel_rfl) ?_
  refine p_qn 1 [.slice o_x0 x0.length c_x0] [(1, .func (.func 99) #[] #[]), (2, pB b2 0), (7, .agg #[.slice o_x0 x0.length c_x0])] [.cell ⟨b2, 0, none⟩ (.slice o_x0 x0.length c_x0)] hf6 (by kernel_rfl) (.cell (hS2.box (i := 0) rfl (j := 0) rfl) .nil) fun a7 hf7 => ?_
  obtain ⟨r2, hd1, hr1⟩ := bind_some hr
  refine p_call (i := 1) (d := some 8) (f := 67) (args := #[.agg #[.slice o_x0 x0.length c_x0]]) hf7 (by kernel_rfl) (f67_ok fuel x0 r2 hd1 h _ _ hS2 o_x0 c_x0 hx_x0) ?_
  rintro v1 ww3 a8 ⟨z2, k2, rfl, hS3⟩ hf8
  refine ⟨fun _ => trivial, ?_⟩
  refine p_qt [] [(1, .func (.func 99) #[] #[]), (2, pB b2 0), (9, .bool (r2 != (0 : Int)))] [] hf8 (by kernel_rfl) .nil fun a9 hf9 => ?_
  refine w_if hf9 (b := (r2 != (0 : Int))) (by kernel_rfl) (fun hb1 => ?_) (fun hb1 => ?_)
  ·have hr2 := cond_t hb1 hr1
   refine w_sq [] [(4, .bool false)] [] hf9 (by kernel_rfl) .nil fun a10 hf10 => ?_
   refine w_ret (by kernel_rfl) ?_
   refine r_then ?_
   refine p_ret (os := []) (v := .bool false) (obs := []) hf10 (by kernel_rfl) .nil ?_
   exact ⟨_, rfl, z2, false, k2, rfl, (St.drop 1 hS3), hr2⟩
  ·have hr3 := cond_f hb1 hr1
   refine w_skip (by kernel_rfl) ?_
   refine n_then ?_
   refine w_seq (by kernel_rfl) ?_
   obtain ⟨d1, hd2, hr4⟩ := bind_some hr3
   obtain ⟨e1, q1, hv1, hb2, hx1⟩ := SliceR.subV (SliceR.mono k2 hx_x0) hd2
   refine w_sq [.slice o_x0 x0.length c_x0, .slice e1 d1.length q1] [(1, .func (.func 99) #[] #[]), (2, pB b2 0), (12, .slice e1 d1.length q1), (13, vI (d1.length : Int)), (14, vI 0)] [.cell ⟨b2, 0, none⟩ (.slice o_x0 x0.length c_x0), .prop ((.slice e1 d1.length q1 : Value) = .slice (subO o_x0 c_x0 (Int.toNat 1) 3) (Int.toNat (x0.length : Int) - Int.toNat 1) (c_x0 - Int.toNat 1)), .prop ((0 : Int) ≤ 1 ∧ (1 : Int) ≤ (x0.length : Int) ∧ (x0.length : Int) ≤ (c_x0 : Nat) ∧ x0.length ≤ c_x0)] hf9 (by kernel_rfl) (.cell (hS3.box (i := 0) rfl (j := 0) rfl) (.prop hv1 (.prop hb2 .nil))) fun a11 hf11 => ?_
   refine w_block (id := 0) (by kernel_rfl) ?_
   have hf12 := Fr.keep (ks := [1, 2, 12, 13, 14]) (r := [(1, .func (.func 99) #[] #[]), (2, pB b2 0), (12, .slice e1 d1.length q1), (13, vI (d1.length : Int)), (14, vI 0)]) hf11 (by kernel_rfl)
   refine w_loop (by kernel_rfl) (fun n a w => ∃ z3 : Zone, ∃ y2 : Int, Zone.le z2 z3 ∧ Fr a 29 [(1, .func (.func 99) #[] #[]), (2, pB b2 0), (12, .slice e1 d1.length q1), (13, vI (d1.length : Int)), (14, vI y2)] ∧ St z3 (box b2 [.slice o_x0 x0.length c_x0] 24 :: box b1 [.slice o_x0 x0.length c_x0] 24 :: L) w ∧ (F29_l1 fuel x0 d1 n y2) = some r) fuel ⟨z2, 0, (Zone.le_refl _), hf12, hS3, hr4⟩ ?_
   rintro n2 a12 ww4 ⟨z3, y2, k3, hf13, hS4, hr5⟩
   cases n2 with
   | zero => cases hr5
   | succ n1 =>
   refine w_sq [] [(1, .func (.func 99) #[] #[]), (2, pB b2 0), (12, .slice e1 d1.length q1), (13, vI (d1.length : Int)), (14, vI y2), (15, .bool (decide (y2 < (d1.length : Int))))] [] hf13 (by kernel_rfl) .nil fun a13 hf14 => ?_
   refine w_seq (by kernel_rfl) ?_
   refine w_if hf14 (b := (decide (y2 < (d1.length : Int)))) (by kernel_rfl) (fun hb3 => ?_) (fun hb3 => ?_)
   ·have hr6 := cond_t hb3 hr5
    refine w_skip (by kernel_rfl) ?_
    refine n_then ?_
    refine w_seq (by kernel_rfl) ?_
    refine w_block (id := 1) (by kernel_rfl) ?_
    refine w_sr (by kernel_rfl) ?_
    obtain ⟨p1, hp2069, hr7⟩ := bind_some hr6
    obtain ⟨ad1, ho1, hb4, cc1, hc1, hk1⟩ := SliceR.getI (SliceR.mono k3 hx1) hp2069
    subst hc1
    refine p_qn 3 [.pointer (some ad1), vI p1.x, vI p1.lo, vI p1.hi] [(1, .func (.func 99) #[] #[]), (2, pB b2 0), (12, .slice e1 d1.length q1), (13, vI (d1.length : Int)), (14, vI y2), (16, vI y2), (18, .agg #[vI p1.x, vI p1.lo, vI p1.hi])] [.prop (e1 = some ad1), .prop (0 ≤ y2 ∧ y2 < (d1.length : Nat)), .cell ((ad1.add (Int.toNat y2 * 3)).add 0) (vI p1.x), .cell ((ad1.add (Int.toNat y2 * 3)).add 1) (vI p1.lo), .cell ((ad1.add (Int.toNat y2 * 3)).add 2) (vI p1.hi)] hf14 (by kernel_rfl) (.prop ho1 (.prop hb4 (.cell (hS4.cell (hk1 0 _ rfl)) (.cell (hS4.cell (hk1 1 _ rfl)) (.cell (hS4.cell (hk1 2 _ rfl)) .nil))))) fun a14 hf15 => ?_
    refine p_box (i := 3) (d := (some 6)) (cs := [vI 0, vI 0, vI 0]) (T := 52) (v := fun b3 => pB b3 0) hS4 hf15 (fun b => by kernel_rfl) fun b3 ww5 a15 hS5 hf16 => ⟨fun _ => trivial, ?_⟩
    refine p_qn 1 [] [(1, .func (.func 99) #[] #[]), (2, pB b2 0), (5, vI y2), (6, pB b3 0), (12, .slice e1 d1.length q1), (13, vI (d1.length : Int)), (14, vI y2), (18, .agg #[vI p1.x, vI p1.lo, vI p1.hi])] [] hf16 (by kernel_rfl) .nil fun a16 hf17 => ?_
    refine p_store_eq (i := 5) (j := 0) (b := b3) (off := 0) (vs := [vI p1.x, vI p1.lo, vI p1.hi]) (cs' := [vI p1.x, vI p1.lo, vI p1.hi]) hS5 hf17 rfl (by kernel_rfl) (by kernel_rfl) rfl fun ww6 a17 hS6 hf18 => ⟨fun _ => trivial, ?_⟩
    refine p_dt (by kernel_rfl) ?_
    refine w_seq (by kernel_rfl) ?_
    have hS7 := hS6.drew
    refine w_regD (by kernel_rfl) [(0, true), (1, true), (2, true), (3, true), (4, true), (5, true), (6, true), (7, false), (8, true)] [7] (fun x => x = ww6.drew) (by kernel_rfl) rfl ?_
    obtain ⟨p2, hp2092, hr8⟩ := bind_some hr7
    obtain ⟨ad2, ho2, hb5, cc2, hc2, hk2⟩ := SliceR.getI (SliceR.mono (Zone.le_trans k2 k3) hx_x0) hp2092
    subst hc2
    refine p_qE 7 [.slice o_x0 x0.length c_x0, .pointer (some ad2), vI p2.x, vI p2.lo, vI p2.hi, vI p1.x, vI p1.lo, vI p1.hi] [(1, .func (.func 99) #[] #[]), (2, pB b2 0), (12, .slice e1 d1.length q1), (13, vI (d1.length : Int)), (14, vI y2), (19, .func (.func 99) #[] #[]), (24, .agg #[vI p2.x, vI p2.lo, vI p2.hi]), (25, .agg #[vI p1.x, vI p1.lo, vI p1.hi])] [.cell ⟨b2, 0, none⟩ (.slice o_x0 x0.length c_x0), .prop (o_x0 = some ad2), .prop (0 ≤ y2 ∧ y2 < (x0.length : Nat)), .cell ((ad2.add (Int.toNat y2 * 3)).add 0) (vI p2.x), .cell ((ad2.add (Int.toNat y2 * 3)).add 1) (vI p2.lo), .cell ((ad2.add (Int.toNat y2 * 3)).add 2) (vI p2.hi), .cell ⟨b3, 0, none⟩ (vI p1.x), .cell ⟨b3, 1, none⟩ (vI p1.lo), .cell ⟨b3, 2, none⟩ (vI p1.hi)] [] hf18 (by kernel_rfl) (.cell (hS7.box (i := 1) rfl (j := 0) rfl) (.prop ho2 (.prop hb5 (.cell (hS7.cell (hk2 0 _ rfl)) (.cell (hS7.cell (hk2 1 _ rfl)) (.cell (hS7.cell (hk2 2 _ rfl)) (.cell (hS7.box (i := 0) rfl (j := 0) rfl) (.cell (hS7.box (i := 0) rfl (j := 1) rfl) (.cell (hS7.box (i := 0) rfl (j := 2) rfl) .nil))))))))) .nil fun a18 hf19 => ?_
    obtain ⟨r1, hd3, hr9⟩ := bind_some hr8
    refine p_call (i := 7) (d := some 26) (f := 99) (args := #[.agg #[vI p2.x, vI p2.lo, vI p2.hi], .agg #[vI p1.x, vI p1.lo, vI p1.hi]]) hf19 (by kernel_rfl) (f99_ok fuel p2.x p2.lo p2.hi p1.x p1.lo p1.hi r1 hd3 z3 _ _ hS7 ) ?_
    rintro v2 ww7 a19 ⟨rfl, hS8⟩ hf20
    refine ⟨fun e => absurd e (by decide), ?_⟩
    refine p_qP 1 [] [(1, .func (.func 99) #[] #[]), (2, pB b2 0), (12, .slice e1 d1.length q1), (13, vI (d1.length : Int)), (14, vI y2), (27, .bool (!r1))] [] hf20 (by kernel_rfl) (fun _ => .nil) fun a20 hf21 => ?_
    refine p_dt (by kernel_rfl) ?_
    refine w_if hf21 (b := (!r1)) (by kernel_rfl) (fun hb6 => ?_) (fun hb6 => ?_)
    ·have hr10 := cond_t hb6 hr9
     refine w_sq [] [(4, .bool false)] [] hf21 (by kernel_rfl) .nil fun a21 hf22 => ?_
     refine w_ret (by kernel_rfl) ?_
     refine r_block ?_
     refine r_then ?_
     refine r_then ?_
     refine r_block ?_
     refine r_then ?_
     refine p_ret (os := []) (v := .bool false) (obs := []) hf22 (by kernel_rfl) .nil ?_
     exact ⟨_, rfl, z3, false, (Zone.le_trans k2 k3), rfl, (St.drop 2 hS8), hr10⟩
    ·have hr11 := cond_f hb6 hr9
     refine w_skip (by kernel_rfl) ?_
     refine n_block ?_
     refine n_then ?_
     refine w_q [] [(1, .func (.func 99) #[] #[]), (2, pB b2 0), (12, .slice e1 d1.length q1), (13, vI (d1.length : Int)), (14, vI (w64 (y2 + (1 : Int))))] [] hf21 (by kernel_rfl) .nil fun a22 hf23 => ?_
     refine n_then ?_
     have hf24 := Fr.keep (ks := [1, 2, 12, 13, 14]) (r := [(1, .func (.func 99) #[] #[]), (2, pB b2 0), (12, .slice e1 d1.length q1), (13, vI (d1.length : Int)), (14, vI (w64 (y2 + (1 : Int))))]) hf23 (by kernel_rfl)
     exact ⟨n1, Nat.lt_succ_self n1, z3, (w64 (y2 + (1 : Int))), k3, hf24, (St.drop 1 hS8), hr11⟩
   ·have hr12 := cond_f hb3 hr5
    refine w_exit (id := 0) (by kernel_rfl) ?_
    refine x_then ?_
    refine x_then ?_
    refine x_block ?_
    refine n_then ?_
    refine w_sq [] [(4, .bool true)] [] hf14 (by kernel_rfl) .nil fun a23 hf25 => ?_
    refine w_ret (by kernel_rfl) ?_
    refine p_ret (os := []) (v := .bool true) (obs := []) hf25 (by kernel_rfl) .nil ?_
    exact ⟨_, rfl, z3, true, (Zone.le_trans k2 k3), rfl, (St.drop 1 hS4), hr12⟩
 ·rintro v3 ww8 a24 ⟨z1, y1, k4, rfl, hS9, hr13⟩ hf26
  refine ⟨fun _ => trivial, ?_⟩
  refine p_qt [] [(2, .bool y1)] [] hf26 (by kernel_rfl) .nil fun a25 hf27 => ?_
  refine w_ret (by kernel_rfl) ?_
  refine p_ret (os := []) (v := .bool y1) (obs := []) hf27 (by kernel_rfl) .nil ?_
  obtain rfl := some_eq hr13
  exact ⟨_, rfl, z1, k4, rfl, (St.drop 1 hS9)⟩
def F31_l1 (fuel : Nat) (x0 : List Pt) (x1 : List Int) : Nat → Int → Option (Int)
  | 0, _ => none
  | n1 + 1, y1 =>
    let k1 : Int → Option (Int) := F31_l1 fuel x0 x1 n1
    (cond (decide (y1 < (x0.length : Int))) ((getI x0 y1).bind fun p1 => ((getI x1 y1).bind fun p2 => ((F90 fuel p2 p1.lo p1.hi).bind fun r1 => (cond (!r1) (some (4)) (k1 (w64 (y1 + (1 : Int)))))))) (some (0)))
def F31 (fuel : Nat) (x0 : List Pt) (x1 : List Int) : Option (Int) :=
  ((F67 fuel x0).bind fun r2 => (cond (r2 != (0 : Int)) (some (r2)) (cond ((x1.length : Int) != (x0.length : Int)) (some (4)) (F31_l1 fuel x0 x1 fuel 0))))
set_option maxRecDepth 100000 in
theorem f31_ok (fuel : Nat) (x0 : List Pt) (x1 : List Int) (r : Int) (hr : F31 fuel x0 x1 = some r) (h : Zone) (L : List Atom) (w : World) (hS : St h L w) (o_x0 : Option Addr) (c_x0 : Nat) (hx_x0 : SliceR PtT h o_x0 c_x0 x0) (o_x1 : Option Addr) (c_x1 : Nat) (hx_x1 : SliceR Ty.int h o_x1 c_x1 x1) :
    Calls Try.prog 31 #[.agg #[.slice o_x0 x0.length c_x0], .slice o_x1 x1.length c_x1] w fun e w' => ∃ v, e = .returned v ∧ (∃ h', Zone.le h h' ∧ v = vI r ∧ St h' L w') := by
 refine calls_intro (N := 38) Try.func31 (by kernel_rfl) fun a hf => ?_
 refine w_sr (by kernel_rfl) ?_
 refine p_box (i := 0) (d := (some 2)) (cs := [.slice o_x0 x0.length c_x0]) (T := 24) (v := fun b1 => pB b1 0) hS hf (fun b => by kernel_rfl) fun b1 ww1 a1 hS1 hf1 => ⟨fun _ => trivial, ?_⟩
 refine p_qt [] [(1, .slice o_x1 x1.length c_x1), (2, pB b1 0)] [] hf1 (by kernel_rfl) .nil fun a2 hf2 => ?_
 refine w_seq (by kernel_rfl) ?_
 refine w_sr (by kernel_rfl) ?_
 refine p_qn 1 [.slice o_x0 x0.length c_x0] [(1, .slice o_x1 x1.length c_x1), (2, pB b1 0), (8, .agg #[.slice o_x0 x0.length c_x0])] [.cell ⟨b1, 0, none⟩ (.slice o_x0 x0.length c_x0)] hf2 (by kernel_rfl) (.cell (hS1.box (i := 0) rfl (j := 0) rfl) .nil) fun a3 hf3 => ?_
 obtain ⟨r2, hd1, hr1⟩ := bind_some hr
 refine p_call (i := 1) (d := some 9) (f := 67) (args := #[.agg #[.slice o_x0 x0.length c_x0]]) hf3 (by kernel_rfl) (f67_ok fuel x0 r2 hd1 h _ _ hS1 o_x0 c_x0 hx_x0) ?_
 rintro v1 ww2 a4 ⟨z1, k2, rfl, hS2⟩ hf4
 refine ⟨fun _ => trivial, ?_⟩
 refine p_qt [] [(1, .slice o_x1 x1.length c_x1), (2, pB b1 0), (5, vI r2)] [] hf4 (by kernel_rfl) .nil fun a5 hf5 => ?_
 refine w_sq [] [(1, .slice o_x1 x1.length c_x1), (2, pB b1 0), (5, vI r2), (11, .bool (r2 != (0 : Int)))] [] hf5 (by kernel_rfl) .nil fun a6 hf6 => ?_
 refine w_if hf6 (b := (r2 != (0 : Int))) (by kernel_rfl) (fun hb1 => ?_) (fun hb1 => ?_)
 ·have hr2 := cond_t hb1 hr1
  refine w_sq [] [(4, vI r2)] [] hf6 (by kernel_rfl) .nil fun a7 hf7 => ?_
  refine w_ret (by kernel_rfl) ?_
  refine r_then ?_
  refine p_ret (os := []) (v := vI r2) (obs := []) hf7 (by kernel_rfl) .nil ?_
  obtain rfl := some_eq hr2
  exact ⟨_, rfl, z1, k2, rfl, (St.drop 1 hS2)⟩
 ·have hr3 := cond_f hb1 hr1
  refine w_skip (by kernel_rfl) ?_
  refine n_then ?_
  refine w_seq (by kernel_rfl) ?_
  refine w_sq [.slice o_x0 x0.length c_x0] [(1, .slice o_x1 x1.length c_x1), (2, pB b1 0), (18, .bool ((x1.length : Int) != (x0.length : Int)))] [.cell ⟨b1, 0, none⟩ (.slice o_x0 x0.length c_x0)] hf6 (by kernel_rfl) (.cell (hS2.box (i := 0) rfl (j := 0) rfl) .nil) fun a8 hf8 => ?_
  refine w_if hf8 (b := ((x1.length : Int) != (x0.length : Int))) (by kernel_rfl) (fun hb2 => ?_) (fun hb2 => ?_)
  ·have hr4 := cond_t hb2 hr3
   refine w_sq [] [(4, vI 4)] [] hf8 (by kernel_rfl) .nil fun a9 hf9 => ?_
   refine w_ret (by kernel_rfl) ?_
   refine r_then ?_
   refine p_ret (os := []) (v := vI 4) (obs := []) hf9 (by kernel_rfl) .nil ?_
   obtain rfl := some_eq hr4
   exact ⟨_, rfl, z1, k2, rfl, (St.drop 1 hS2)⟩
  ·have hr5 := cond_f hb2 hr3
   refine w_skip (by kernel_rfl) ?_
   refine n_then ?_
   refine w_seq (by kernel_rfl) ?_
   refine w_sq [.slice o_x0 x0.length c_x0] [(1, .slice o_x1 x1.length c_x1), (20, .slice o_x0 x0.length c_x0), (21, vI (x0.length : Int)), (22, vI 0)] [.cell ⟨b1, 0, none⟩ (.slice o_x0 x0.length c_x0)] hf8 (by kernel_rfl) (.cell (hS2.box (i := 0) rfl (j := 0) rfl) .nil) fun a10 hf10 => ?_
   refine w_block (id := 0) (by kernel_rfl) ?_
   have hf11 := Fr.keep (ks := [1, 20, 21, 22]) (r := [(1, .slice o_x1 x1.length c_x1), (20, .slice o_x0 x0.length c_x0), (21, vI (x0.length : Int)), (22, vI 0)]) hf10 (by kernel_rfl)
   refine w_loop (by kernel_rfl) (fun n a w => ∃ z2 : Zone, ∃ y1 : Int, Zone.le z1 z2 ∧ Fr a 38 [(1, .slice o_x1 x1.length c_x1), (20, .slice o_x0 x0.length c_x0), (21, vI (x0.length : Int)), (22, vI y1)] ∧ St z2 (box b1 [.slice o_x0 x0.length c_x0] 24 :: L) w ∧ (F31_l1 fuel x0 x1 n y1) = some r) fuel ⟨z1, 0, (Zone.le_refl _), hf11, hS2, hr5⟩ ?_
   rintro n2 a11 ww3 ⟨z2, y1, k3, hf12, hS3, hr6⟩
   cases n2 with
   | zero => cases hr6
   | succ n1 =>
   refine w_sq [] [(1, .slice o_x1 x1.length c_x1), (20, .slice o_x0 x0.length c_x0), (21, vI (x0.length : Int)), (22, vI y1), (23, .bool (decide (y1 < (x0.length : Int))))] [] hf12 (by kernel_rfl) .nil fun a12 hf13 => ?_
   refine w_seq (by kernel_rfl) ?_
   refine w_if hf13 (b := (decide (y1 < (x0.length : Int)))) (by kernel_rfl) (fun hb3 => ?_) (fun hb3 => ?_)
   ·have hr7 := cond_t hb3 hr6
    refine w_skip (by kernel_rfl) ?_
    refine n_then ?_
    refine w_seq (by kernel_rfl) ?_
    refine w_block (id := 1) (by kernel_rfl) ?_
    refine w_sr (by kernel_rfl) ?_
    obtain ⟨p1, hp1026, hr8⟩ := bind_some hr7
    obtain ⟨ad1, ho1, hb4, cc1, hc1, hk1⟩ := SliceR.getI (SliceR.mono (Zone.le_trans k2 k3) hx_x0) hp1026
    subst hc1
    refine p_qn 3 [.pointer (some ad1), vI p1.x, vI p1.lo, vI p1.hi] [(1, .slice o_x1 x1.length c_x1), (20, .slice o_x0 x0.length c_x0), (21, vI (x0.length : Int)), (22, vI y1), (24, vI y1), (26, .agg #[vI p1.x, vI p1.lo, vI p1.hi])] [.prop (o_x0 = some ad1), .prop (0 ≤ y1 ∧ y1 < (x0.length : Nat)), .cell ((ad1.add (Int.toNat y1 * 3)).add 0) (vI p1.x), .cell ((ad1.add (Int.toNat y1 * 3)).add 1) (vI p1.lo), .cell ((ad1.add (Int.toNat y1 * 3)).add 2) (vI p1.hi)] hf13 (by kernel_rfl) (.prop ho1 (.prop hb4 (.cell (hS3.cell (hk1 0 _ rfl)) (.cell (hS3.cell (hk1 1 _ rfl)) (.cell (hS3.cell (hk1 2 _ rfl)) .nil))))) fun a13 hf14 => ?_
    refine p_box (i := 3) (d := (some 7)) (cs := [vI 0, vI 0, vI 0]) (T := 52) (v := fun b2 => pB b2 0) hS3 hf14 (fun b => by kernel_rfl) fun b2 ww4 a14 hS4 hf15 => ⟨fun _ => trivial, ?_⟩
    refine p_qn 1 [] [(1, .slice o_x1 x1.length c_x1), (6, vI y1), (7, pB b2 0), (20, .slice o_x0 x0.length c_x0), (21, vI (x0.length : Int)), (22, vI y1), (26, .agg #[vI p1.x, vI p1.lo, vI p1.hi])] [] hf15 (by kernel_rfl) .nil fun a15 hf16 => ?_
    refine p_store_eq (i := 5) (j := 0) (b := b2) (off := 0) (vs := [vI p1.x, vI p1.lo, vI p1.hi]) (cs' := [vI p1.x, vI p1.lo, vI p1.hi]) hS4 hf16 rfl (by kernel_rfl) (by kernel_rfl) rfl fun ww5 a16 hS5 hf17 => ⟨fun _ => trivial, ?_⟩
    refine p_dt (by kernel_rfl) ?_
    refine w_seq (by kernel_rfl) ?_
    have hS6 := hS5.drew
    refine w_regD (by kernel_rfl) [(0, true), (1, true), (2, true), (3, true), (4, true), (5, true), (6, true), (7, true), (8, false), (9, true)] [8] (fun x => x = ww5.drew) (by kernel_rfl) rfl ?_
    obtain ⟨p2, hp1049, hr9⟩ := bind_some hr8
    obtain ⟨ad2, ho2, hb5, cc2, hc2, hk2⟩ := SliceR.getI (SliceR.mono (Zone.le_trans k2 k3) hx_x1) hp1049
    subst hc2
    refine p_qE 8 [.pointer (some ad2), vI p2, vI p1.lo, vI p1.hi] [(1, .slice o_x1 x1.length c_x1), (20, .slice o_x0 x0.length c_x0), (21, vI (x0.length : Int)), (22, vI y1), (30, vI p2), (32, vI p1.lo), (34, vI p1.hi)] [.prop (o_x1 = some ad2), .prop (0 ≤ y1 ∧ y1 < (x1.length : Nat)), .cell ((ad2.add (Int.toNat y1 * 1)).add 0) (vI p2), .cell ⟨b2, 1, none⟩ (vI p1.lo), .cell ⟨b2, 2, none⟩ (vI p1.hi)] [] hf17 (by kernel_rfl) (.prop ho2 (.prop hb5 (.cell (hS6.cell (hk2 0 _ rfl)) (.cell (hS6.box (i := 0) rfl (j := 1) rfl) (.cell (hS6.box (i := 0) rfl (j := 2) rfl) .nil))))) .nil fun a17 hf18 => ?_
    obtain ⟨r1, hd2, hr10⟩ := bind_some hr9
    refine p_call (i := 8) (d := some 35) (f := 90) (args := #[vI p2, vI p1.lo, vI p1.hi]) hf18 (by kernel_rfl) (f90_ok fuel p2 p1.lo p1.hi r1 hd2 z2 _ _ hS6 ) ?_
    rintro v2 ww6 a18 ⟨z3, k4, rfl, hS7⟩ hf19
    refine ⟨fun e => absurd e (by decide), ?_⟩
    refine p_qP 1 [] [(1, .slice o_x1 x1.length c_x1), (20, .slice o_x0 x0.length c_x0), (21, vI (x0.length : Int)), (22, vI y1), (36, .bool (!r1))] [] hf19 (by kernel_rfl) (fun _ => .nil) fun a19 hf20 => ?_
    refine p_dt (by kernel_rfl) ?_
    refine w_if hf20 (b := (!r1)) (by kernel_rfl) (fun hb6 => ?_) (fun hb6 => ?_)
    ·have hr11 := cond_t hb6 hr10
     refine w_sq [] [(4, vI 4)] [] hf20 (by kernel_rfl) .nil fun a20 hf21 => ?_
     refine w_ret (by kernel_rfl) ?_
     refine r_block ?_
     refine r_then ?_
     refine r_then ?_
     refine r_block ?_
     refine r_then ?_
     refine p_ret (os := []) (v := vI 4) (obs := []) hf21 (by kernel_rfl) .nil ?_
     obtain rfl := some_eq hr11
     exact ⟨_, rfl, z3, (Zone.le_trans (Zone.le_trans k2 k3) k4), rfl, (St.drop 2 hS7)⟩
    ·have hr12 := cond_f hb6 hr10
     refine w_skip (by kernel_rfl) ?_
     refine n_block ?_
     refine n_then ?_
     refine w_q [] [(1, .slice o_x1 x1.length c_x1), (20, .slice o_x0 x0.length c_x0), (21, vI (x0.length : Int)), (22, vI (w64 (y1 + (1 : Int))))] [] hf20 (by kernel_rfl) .nil fun a21 hf22 => ?_
     refine n_then ?_
     have hf23 := Fr.keep (ks := [1, 20, 21, 22]) (r := [(1, .slice o_x1 x1.length c_x1), (20, .slice o_x0 x0.length c_x0), (21, vI (x0.length : Int)), (22, vI (w64 (y1 + (1 : Int))))]) hf22 (by kernel_rfl)
     exact ⟨n1, Nat.lt_succ_self n1, z3, (w64 (y1 + (1 : Int))), (Zone.le_trans k3 k4), hf23, (St.drop 1 hS7), hr12⟩
   ·have hr13 := cond_f hb3 hr6
    refine w_exit (id := 0) (by kernel_rfl) ?_
    refine x_then ?_
    refine x_then ?_
    refine x_block ?_
    refine n_then ?_
    refine w_sq [] [(4, vI 0)] [] hf13 (by kernel_rfl) .nil fun a22 hf24 => ?_
    refine w_ret (by kernel_rfl) ?_
    refine p_ret (os := []) (v := vI 0) (obs := []) hf24 (by kernel_rfl) .nil ?_
    obtain rfl := some_eq hr13
    exact ⟨_, rfl, z2, (Zone.le_trans k2 k3), rfl, (St.drop 1 hS3)⟩
def F12_j2 (k1 : Int → Option (Bool)) (y1 : Int) (y2 : Bool) : Option (Bool) :=
  (cond y2 (some (false)) (k1 (w64 (y1 + (1 : Int)))))
def F12_l1 (x0 : List Pt) : Nat → Int → Option (Bool)
  | 0, _ => none
  | n1 + 1, y1 =>
    let k1 : Int → Option (Bool) := F12_l1 x0 n1
    (cond (decide (y1 < (x0.length : Int))) ((getI x0 y1).bind fun p1 => (cond (decide (p1.x < (0 : Int))) (F12_j2 k1 y1 true) (cond (decide (p1.x > (1000000 : Int))) (F12_j2 k1 y1 true) (cond (decide (y1 > (0 : Int))) ((getI x0 (w64 (y1 - (1 : Int)))).bind fun p2 => (cond (decide (p2.x ≥ p1.x)) (F12_j2 k1 y1 true) (cond (decide (p1.lo < (-1000000000 : Int))) (F12_j2 k1 y1 true) (cond (decide (p1.lo > p1.hi)) (F12_j2 k1 y1 true) (F12_j2 k1 y1 (decide (p1.hi > (1000000000 : Int)))))))) (cond (decide (p1.lo < (-1000000000 : Int))) (F12_j2 k1 y1 true) (cond (decide (p1.lo > p1.hi)) (F12_j2 k1 y1 true) (F12_j2 k1 y1 (decide (p1.hi > (1000000000 : Int)))))))))) (some (true)))
def F12_j1 (fuel : Nat) (x0 : List Pt) (y3 : Bool) : Option (Bool) :=
  (cond y3 (some (false)) (F12_l1 x0 fuel 0))
def F12 (fuel : Nat) (x0 : List Pt) : Option (Bool) :=
  (cond (decide ((x0.length : Int) < (1 : Int))) (F12_j1 fuel x0 true) (F12_j1 fuel x0 (decide ((x0.length : Int) > (40 : Int)))))
set_option maxRecDepth 100000 in
theorem f12_ok (fuel : Nat) (x0 : List Pt) (r : Bool) (hr : F12 fuel x0 = some r) (h : Zone) (L : List Atom) (w : World) (hS : St h L w) (o_x0 : Option Addr) (c_x0 : Nat) (hx_x0 : SliceR PtT h o_x0 c_x0 x0) :
    Calls Try.prog 12 #[.agg #[.slice o_x0 x0.length c_x0]] w fun e w' => ∃ v, e = .returned v ∧ (∃ h', Zone.le h h' ∧ v = .bool r ∧ St h' L w') := by
 refine calls_intro (N := 65) Try.func12 (by kernel_rfl) fun a hf => ?_
 refine w_sr (by kernel_rfl) ?_
 refine p_box (i := 0) (d := (some 1)) (cs := [.slice o_x0 x0.length c_x0]) (T := 24) (v := fun b1 => pB b1 0) hS hf (fun b => by kernel_rfl) fun b1 ww1 a1 hS1 hf1 => ⟨fun _ => trivial, ?_⟩
 refine p_qt [] [(1, pB b1 0)] [] hf1 (by kernel_rfl) .nil fun a2 hf2 => ?_
 refine w_seq (by kernel_rfl) ?_
 refine w_mid (by kernel_rfl) (fun a w => ∃ z1 : Zone, ∃ y3 : Bool, Zone.le h z1 ∧ Fr a 65 [(1, pB b1 0), (14, .bool y3)] ∧ St z1 (box b1 [.slice o_x0 x0.length c_x0] 24 :: L) w ∧ (F12_j1 fuel x0 y3) = some r) ?_ ?_
 ·skip
  refine w_reg (by kernel_rfl) ?_
  refine p_qn 5 [.slice o_x0 x0.length c_x0] [(1, pB b1 0), (9, .bool (decide ((x0.length : Int) < (1 : Int))))] [.cell ⟨b1, 0, none⟩ (.slice o_x0 x0.length c_x0)] hf2 (by kernel_rfl) (.cell (hS1.box (i := 0) rfl (j := 0) rfl) .nil) fun a3 hf3 => ?_
  rcases Bool.eq_false_or_eq_true (decide ((x0.length : Int) < (1 : Int))) with hb1 | hb1
  ·have hr1 := cond_t hb1 hr
   have hf4 := Fr.conv hf3 (congrArg (fun z => ([(1, pB b1 0), (9, .bool z)] : FL)) hb1)
   refine p_qt [] [(1, pB b1 0), (14, .bool true)] [] hf4 (by kernel_rfl) .nil fun a4 hf5 => ?_
   have hf6 := Fr.keep (ks := [1, 14]) (r := [(1, pB b1 0), (14, .bool true)]) hf5 (by kernel_rfl)
   exact ⟨h, true, (Zone.le_refl _), hf6, hS1, hr1⟩
  ·have hr2 := cond_f hb1 hr
   have hf7 := Fr.conv hf3 (congrArg (fun z => ([(1, pB b1 0), (9, .bool z)] : FL)) hb1)
   refine p_qt [.slice o_x0 x0.length c_x0] [(1, pB b1 0), (14, .bool (decide ((x0.length : Int) > (40 : Int))))] [.cell ⟨b1, 0, none⟩ (.slice o_x0 x0.length c_x0)] hf7 (by kernel_rfl) (.cell (hS1.box (i := 0) rfl (j := 0) rfl) .nil) fun a5 hf8 => ?_
   have hf9 := Fr.keep (ks := [1, 14]) (r := [(1, pB b1 0), (14, .bool (decide ((x0.length : Int) > (40 : Int))))]) hf8 (by kernel_rfl)
   exact ⟨h, (decide ((x0.length : Int) > (40 : Int))), (Zone.le_refl _), hf9, hS1, hr2⟩
 ·rintro a6 ww2 ⟨z1, y3, k2, hf10, hS2, hr3⟩
  refine w_if hf10 (b := y3) (by kernel_rfl) (fun hb2 => ?_) (fun hb2 => ?_)
  ·have hr4 := cond_t hb2 hr3
   refine w_sq [] [(2, .bool false)] [] hf10 (by kernel_rfl) .nil fun a7 hf11 => ?_
   refine w_ret (by kernel_rfl) ?_
   refine r_then ?_
   refine p_ret (os := []) (v := .bool false) (obs := []) hf11 (by kernel_rfl) .nil ?_
   obtain rfl := some_eq hr4
   exact ⟨_, rfl, z1, k2, rfl, (St.drop 1 hS2)⟩
  ·have hr5 := cond_f hb2 hr3
   refine w_skip (by kernel_rfl) ?_
   refine n_then ?_
   refine w_seq (by kernel_rfl) ?_
   refine w_sq [.slice o_x0 x0.length c_x0] [(1, pB b1 0), (16, .slice o_x0 x0.length c_x0), (17, vI (x0.length : Int)), (18, vI 0)] [.cell ⟨b1, 0, none⟩ (.slice o_x0 x0.length c_x0)] hf10 (by kernel_rfl) (.cell (hS2.box (i := 0) rfl (j := 0) rfl) .nil) fun a8 hf12 => ?_
   refine w_block (id := 0) (by kernel_rfl) ?_
   have hf13 := Fr.keep (ks := [1, 16, 17, 18]) (r := [(1, pB b1 0), (16, .slice o_x0 x0.length c_x0), (17, vI (x0.length : Int)), (18, vI 0)]) hf12 (by kernel_rfl)
   refine w_loop (by kernel_rfl) (fun n a w => ∃ z2 : Zone, ∃ y1 : Int, Zone.le z1 z2 ∧ Fr a 65 [(1, pB b1 0), (16, .slice o_x0 x0.length c_x0), (17, vI (x0.length : Int)), (18, vI y1)] ∧ St z2 (box b1 [.slice o_x0 x0.length c_x0] 24 :: L) w ∧ (F12_l1 x0 n y1) = some r) fuel ⟨z1, 0, (Zone.le_refl _), hf13, hS2, hr5⟩ ?_
   rintro n2 a9 ww3 ⟨z2, y1, k3, hf14, hS3, hr6⟩
   cases n2 with
   | zero => cases hr6
   | succ n1 =>
   refine w_sq [] [(1, pB b1 0), (16, .slice o_x0 x0.length c_x0), (17, vI (x0.length : Int)), (18, vI y1), (19, .bool (decide (y1 < (x0.length : Int))))] [] hf14 (by kernel_rfl) .nil fun a10 hf15 => ?_
   refine w_seq (by kernel_rfl) ?_
   refine w_if hf15 (b := (decide (y1 < (x0.length : Int)))) (by kernel_rfl) (fun hb3 => ?_) (fun hb3 => ?_)
   ·have hr7 := cond_t hb3 hr6
    refine w_skip (by kernel_rfl) ?_
    refine n_then ?_
    refine w_seq (by kernel_rfl) ?_
    refine w_block (id := 1) (by kernel_rfl) ?_
    refine w_sr (by kernel_rfl) ?_
    obtain ⟨p1, hp2448, hr8⟩ := bind_some hr7
    obtain ⟨ad1, ho1, hb4, cc1, hc1, hk1⟩ := SliceR.getI (SliceR.mono (Zone.le_trans k2 k3) hx_x0) hp2448
    subst hc1
    refine p_qn 3 [.pointer (some ad1), vI p1.x, vI p1.lo, vI p1.hi] [(1, pB b1 0), (16, .slice o_x0 x0.length c_x0), (17, vI (x0.length : Int)), (18, vI y1), (20, vI y1), (22, .agg #[vI p1.x, vI p1.lo, vI p1.hi])] [.prop (o_x0 = some ad1), .prop (0 ≤ y1 ∧ y1 < (x0.length : Nat)), .cell ((ad1.add (Int.toNat y1 * 3)).add 0) (vI p1.x), .cell ((ad1.add (Int.toNat y1 * 3)).add 1) (vI p1.lo), .cell ((ad1.add (Int.toNat y1 * 3)).add 2) (vI p1.hi)] hf15 (by kernel_rfl) (.prop ho1 (.prop hb4 (.cell (hS3.cell (hk1 0 _ rfl)) (.cell (hS3.cell (hk1 1 _ rfl)) (.cell (hS3.cell (hk1 2 _ rfl)) .nil))))) fun a11 hf16 => ?_
    refine p_box (i := 3) (d := (some 4)) (cs := [vI 0, vI 0, vI 0]) (T := 52) (v := fun b2 => pB b2 0) hS3 hf16 (fun b => by kernel_rfl) fun b2 ww4 a12 hS4 hf17 => ⟨fun _ => trivial, ?_⟩
    refine p_qn 1 [] [(1, pB b1 0), (3, vI y1), (4, pB b2 0), (16, .slice o_x0 x0.length c_x0), (17, vI (x0.length : Int)), (18, vI y1), (22, .agg #[vI p1.x, vI p1.lo, vI p1.hi])] [] hf17 (by kernel_rfl) .nil fun a13 hf18 => ?_
    refine p_store_eq (i := 5) (j := 0) (b := b2) (off := 0) (vs := [vI p1.x, vI p1.lo, vI p1.hi]) (cs' := [vI p1.x, vI p1.lo, vI p1.hi]) hS4 hf18 rfl (by kernel_rfl) (by kernel_rfl) rfl fun ww5 a14 hS5 hf19 => ⟨fun _ => trivial, ?_⟩
    refine p_dt (by kernel_rfl) ?_
    refine w_mid (by kernel_rfl) (fun a w => ∃ z3 : Zone, ∃ y2 : Bool, Zone.le z2 z3 ∧ Fr a 65 [(1, pB b1 0), (16, .slice o_x0 x0.length c_x0), (17, vI (x0.length : Int)), (18, vI y1), (63, .bool y2)] ∧ St z3 (box b2 [vI p1.x, vI p1.lo, vI p1.hi] 52 :: box b1 [.slice o_x0 x0.length c_x0] 24 :: L) w ∧ (F12_j2 (F12_l1 x0 n1) y1 y2) = some r) ?_ ?_
    ·skip
     have hS6 := hS5.drew
     refine w_regD (by kernel_rfl) [(0, true), (1, true), (2, true), (3, true), (4, true), (5, true), (6, true), (7, true), (8, true), (9, true), (10, true), (11, true), (12, true), (13, true), (14, true), (15, true), (16, true), (17, true), (18, true), (19, true), (20, true), (21, true), (22, true), (23, true), (24, true), (25, true), (26, true), (27, true), (28, true), (29, true), (30, true), (31, true), (32, true), (33, true), (34, true), (35, true), (36, true), (37, true), (38, true), (39, true), (40, true)] [] (fun x => x = ww5.drew) (by kernel_rfl) rfl ?_
     refine p_qE 4 [vI p1.x] [(1, pB b1 0), (3, vI y1), (4, pB b2 0), (16, .slice o_x0 x0.length c_x0), (17, vI (x0.length : Int)), (18, vI y1), (26, .bool (decide (p1.x < (0 : Int))))] [.cell ⟨b2, 0, none⟩ (vI p1.x)] [] hf19 (by kernel_rfl) (.cell (hS6.box (i := 0) rfl (j := 0) rfl) .nil) .nil fun a15 hf20 => ?_
     rcases Bool.eq_false_or_eq_true (decide (p1.x < (0 : Int))) with hb5 | hb5
     ·have hr9 := cond_t hb5 hr8
      have hf21 := Fr.conv hf20 (congrArg (fun z => ([(1, pB b1 0), (3, vI y1), (4, pB b2 0), (16, .slice o_x0 x0.length c_x0), (17, vI (x0.length : Int)), (18, vI y1), (26, .bool z)] : FL)) hb5)
      refine p_qtE [] [(1, pB b1 0), (16, .slice o_x0 x0.length c_x0), (17, vI (x0.length : Int)), (18, vI y1), (27, undef), (28, undef), (29, undef), (32, undef), (33, undef), (34, undef), (35, undef), (36, undef), (37, undef), (38, undef), (39, undef), (40, undef), (41, undef), (42, undef), (43, undef), (44, undef), (45, undef), (48, undef), (49, undef), (50, undef), (53, undef), (54, undef), (55, undef), (56, undef), (57, undef), (60, undef), (61, undef), (62, undef), (63, .bool true)] [] [] hf21 (by kernel_rfl) .nil .nil fun a16 hf22 => ?_
      have hf23 := Fr.keep (ks := [1, 16, 17, 18, 63]) (r := [(1, pB b1 0), (16, .slice o_x0 x0.length c_x0), (17, vI (x0.length : Int)), (18, vI y1), (63, .bool true)]) hf22 (by kernel_rfl)
      exact ⟨z2, true, (Zone.le_refl _), hf23, hS6, hr9⟩
     ·have hr10 := cond_f hb5 hr8
      have hf24 := Fr.conv hf20 (congrArg (fun z => ([(1, pB b1 0), (3, vI y1), (4, pB b2 0), (16, .slice o_x0 x0.length c_x0), (17, vI (x0.length : Int)), (18, vI y1), (26, .bool z)] : FL)) hb5)
      refine p_qE 5 [vI p1.x] [(1, pB b1 0), (3, vI y1), (4, pB b2 0), (16, .slice o_x0 x0.length c_x0), (17, vI (x0.length : Int)), (18, vI y1), (27, pB b2 0), (28, vI p1.x), (29, .bool (decide (p1.x > (1000000 : Int)))), (31, .bool (decide (p1.x > (1000000 : Int))))] [.cell ⟨b2, 0, none⟩ (vI p1.x)] [] hf24 (by kernel_rfl) (.cell (hS6.box (i := 0) rfl (j := 0) rfl) .nil) .nil fun a17 hf25 => ?_
      rcases Bool.eq_false_or_eq_true (decide (p1.x > (1000000 : Int))) with hb6 | hb6
      ·have hr11 := cond_t hb6 hr10
       have hf26 := Fr.conv hf25 (congrArg (fun z => ([(1, pB b1 0), (3, vI y1), (4, pB b2 0), (16, .slice o_x0 x0.length c_x0), (17, vI (x0.length : Int)), (18, vI y1), (27, pB b2 0), (28, vI p1.x), (29, .bool (decide (p1.x > (1000000 : Int)))), (31, .bool z)] : FL)) hb6)
       refine p_qtE [] [(1, pB b1 0), (16, .slice o_x0 x0.length c_x0), (17, vI (x0.length : Int)), (18, vI y1), (27, pB b2 0), (28, vI p1.x), (29, .bool (decide (p1.x > (1000000 : Int)))), (32, undef), (33, undef), (34, undef), (35, undef), (36, undef), (37, undef), (38, undef), (39, undef), (40, undef), (41, undef), (42, undef), (43, undef), (44, undef), (45, undef), (48, undef), (49, undef), (50, undef), (53, undef), (54, undef), (55, undef), (56, undef), (57, undef), (60, undef), (61, undef), (62, undef), (63, .bool true)] [] [] hf26 (by kernel_rfl) .nil .nil fun a18 hf27 => ?_
       have hf28 := Fr.keep (ks := [1, 16, 17, 18, 63]) (r := [(1, pB b1 0), (16, .slice o_x0 x0.length c_x0), (17, vI (x0.length : Int)), (18, vI y1), (63, .bool true)]) hf27 (by kernel_rfl)
       exact ⟨z2, true, (Zone.le_refl _), hf28, hS6, hr11⟩
      ·have hr12 := cond_f hb6 hr10
       have hf29 := Fr.conv hf25 (congrArg (fun z => ([(1, pB b1 0), (3, vI y1), (4, pB b2 0), (16, .slice o_x0 x0.length c_x0), (17, vI (x0.length : Int)), (18, vI y1), (27, pB b2 0), (28, vI p1.x), (29, .bool (decide (p1.x > (1000000 : Int)))), (31, .bool z)] : FL)) hb6)
       refine p_qE 3 [] [(1, pB b1 0), (3, vI y1), (4, pB b2 0), (16, .slice o_x0 x0.length c_x0), (17, vI (x0.length : Int)), (18, vI y1), (27, pB b2 0), (28, vI p1.x), (29, .bool (decide (p1.x > (1000000 : Int)))), (31, .bool false), (32, vI y1), (33, .bool (decide (y1 > (0 : Int)))), (34, .bool (decide (y1 > (0 : Int))))] [] [] hf29 (by kernel_rfl) .nil .nil fun a19 hf30 => ?_
       rcases Bool.eq_false_or_eq_true (decide (y1 > (0 : Int))) with hb7 | hb7
       ·have hr13 := cond_t hb7 hr12
        have hf31 := Fr.conv hf30 (congrArg (fun z => ([(1, pB b1 0), (3, vI y1), (4, pB b2 0), (16, .slice o_x0 x0.length c_x0), (17, vI (x0.length : Int)), (18, vI y1), (27, pB b2 0), (28, vI p1.x), (29, .bool (decide (p1.x > (1000000 : Int)))), (31, .bool false), (32, vI y1), (33, .bool (decide (y1 > (0 : Int)))), (34, .bool z)] : FL)) hb7)
        obtain ⟨p2, hp2672, hr14⟩ := bind_some hr13
        obtain ⟨ad2, ho2, hb8, cc2, hc2, hk2⟩ := SliceR.getI (SliceR.mono (Zone.le_trans k2 k3) hx_x0) hp2672
        subst hc2
        refine p_qE 13 [.slice o_x0 x0.length c_x0, .pointer (some ad2), vI p2.x, vI p1.x] [(1, pB b1 0), (4, pB b2 0), (16, .slice o_x0 x0.length c_x0), (17, vI (x0.length : Int)), (18, vI y1), (27, pB b2 0), (28, vI p1.x), (29, .bool (decide (p1.x > (1000000 : Int)))), (32, vI y1), (33, .bool (decide (y1 > (0 : Int)))), (34, .bool true), (35, pB b1 0), (36, .slice o_x0 x0.length c_x0), (37, vI y1), (38, vI (w64 (y1 - (1 : Int)))), (39, .pointer (some (ad2.add (Int.toNat (w64 (y1 - (1 : Int))) * 3)))), (40, .pointer (some (ad2.add (Int.toNat (w64 (y1 - (1 : Int))) * 3)))), (41, vI p2.x), (42, pB b2 0), (43, vI p1.x), (44, .bool (decide (p2.x ≥ p1.x))), (45, .bool (decide (p2.x ≥ p1.x))), (47, .bool (decide (p2.x ≥ p1.x)))] [.cell ⟨b1, 0, none⟩ (.slice o_x0 x0.length c_x0), .prop (o_x0 = some ad2), .prop (0 ≤ (w64 (y1 - (1 : Int))) ∧ (w64 (y1 - (1 : Int))) < (x0.length : Nat)), .cell ((ad2.add (Int.toNat (w64 (y1 - (1 : Int))) * 3)).add 0) (vI p2.x), .cell ⟨b2, 0, none⟩ (vI p1.x)] [] hf31 (by kernel_rfl) (.cell (hS6.box (i := 1) rfl (j := 0) rfl) (.prop ho2 (.prop hb8 (.cell (hS6.cell (hk2 0 _ rfl)) (.cell (hS6.box (i := 0) rfl (j := 0) rfl) .nil))))) .nil fun a20 hf32 => ?_
        rcases Bool.eq_false_or_eq_true (decide (p2.x ≥ p1.x)) with hb9 | hb9
        ·have hr15 := cond_t hb9 hr14
         have hf33 := Fr.conv hf32 (congrArg (fun z => ([(1, pB b1 0), (4, pB b2 0), (16, .slice o_x0 x0.length c_x0), (17, vI (x0.length : Int)), (18, vI y1), (27, pB b2 0), (28, vI p1.x), (29, .bool (decide (p1.x > (1000000 : Int)))), (32, vI y1), (33, .bool (decide (y1 > (0 : Int)))), (34, .bool true), (35, pB b1 0), (36, .slice o_x0 x0.length c_x0), (37, vI y1), (38, vI (w64 (y1 - (1 : Int)))), (39, .pointer (some (ad2.add (Int.toNat (w64 (y1 - (1 : Int))) * 3)))), (40, .pointer (some (ad2.add (Int.toNat (w64 (y1 - (1 : Int))) * 3)))), (41, vI p2.x), (42, pB b2 0), (43, vI p1.x), (44, .bool (decide (p2.x ≥ p1.x))), (45, .bool (decide (p2.x ≥ p1.x))), (47, .bool z)] : FL)) hb9)
         refine p_qtE [] [(1, pB b1 0), (16, .slice o_x0 x0.length c_x0), (17, vI (x0.length : Int)), (18, vI y1), (27, pB b2 0), (28, vI p1.x), (29, .bool (decide (p1.x > (1000000 : Int)))), (32, vI y1), (33, .bool (decide (y1 > (0 : Int)))), (34, .bool true), (35, pB b1 0), (36, .slice o_x0 x0.length c_x0), (37, vI y1), (38, vI (w64 (y1 - (1 : Int)))), (39, .pointer (some (ad2.add (Int.toNat (w64 (y1 - (1 : Int))) * 3)))), (40, .pointer (some (ad2.add (Int.toNat (w64 (y1 - (1 : Int))) * 3)))), (41, vI p2.x), (42, pB b2 0), (43, vI p1.x), (44, .bool (decide (p2.x ≥ p1.x))), (45, .bool (decide (p2.x ≥ p1.x))), (48, undef), (49, undef), (50, undef), (53, undef), (54, undef), (55, undef), (56, undef), (57, undef), (60, undef), (61, undef), (62, undef), (63, .bool true)] [] [] hf33 (by kernel_rfl) .nil .nil fun a21 hf34 => ?_
         have hf35 := Fr.keep (ks := [1, 16, 17, 18, 63]) (r := [(1, pB b1 0), (16, .slice o_x0 x0.length c_x0), (17, vI (x0.length : Int)), (18, vI y1), (63, .bool true)]) hf34 (by kernel_rfl)
         exact ⟨z2, true, (Zone.le_refl _), hf35, hS6, hr15⟩
        ·have hr16 := cond_f hb9 hr14
         have hf36 := Fr.conv hf32 (congrArg (fun z => ([(1, pB b1 0), (4, pB b2 0), (16, .slice o_x0 x0.length c_x0), (17, vI (x0.length : Int)), (18, vI y1), (27, pB b2 0), (28, vI p1.x), (29, .bool (decide (p1.x > (1000000 : Int)))), (32, vI y1), (33, .bool (decide (y1 > (0 : Int)))), (34, .bool true), (35, pB b1 0), (36, .slice o_x0 x0.length c_x0), (37, vI y1), (38, vI (w64 (y1 - (1 : Int)))), (39, .pointer (some (ad2.add (Int.toNat (w64 (y1 - (1 : Int))) * 3)))), (40, .pointer (some (ad2.add (Int.toNat (w64 (y1 - (1 : Int))) * 3)))), (41, vI p2.x), (42, pB b2 0), (43, vI p1.x), (44, .bool (decide (p2.x ≥ p1.x))), (45, .bool (decide (p2.x ≥ p1.x))), (47, .bool z)] : FL)) hb9)
         refine p_qE 5 [vI p1.lo] [(1, pB b1 0), (4, pB b2 0), (16, .slice o_x0 x0.length c_x0), (17, vI (x0.length : Int)), (18, vI y1), (27, pB b2 0), (28, vI p1.x), (29, .bool (decide (p1.x > (1000000 : Int)))), (32, vI y1), (33, .bool (decide (y1 > (0 : Int)))), (34, .bool true), (35, pB b1 0), (36, .slice o_x0 x0.length c_x0), (37, vI y1), (38, vI (w64 (y1 - (1 : Int)))), (39, .pointer (some (ad2.add (Int.toNat (w64 (y1 - (1 : Int))) * 3)))), (40, .pointer (some (ad2.add (Int.toNat (w64 (y1 - (1 : Int))) * 3)))), (41, vI p2.x), (42, pB b2 0), (43, vI p1.x), (44, .bool (decide (p2.x ≥ p1.x))), (45, .bool (decide (p2.x ≥ p1.x))), (48, pB b2 1), (49, vI p1.lo), (50, .bool (decide (p1.lo < (-1000000000 : Int)))), (52, .bool (decide (p1.lo < (-1000000000 : Int))))] [.cell ⟨b2, 1, none⟩ (vI p1.lo)] [] hf36 (by kernel_rfl) (.cell (hS6.box (i := 0) rfl (j := 1) rfl) .nil) .nil fun a22 hf37 => ?_
         rcases Bool.eq_false_or_eq_true (decide (p1.lo < (-1000000000 : Int))) with hb10 | hb10
         ·have hr17 := cond_t hb10 hr16
          have hf38 := Fr.conv hf37 (congrArg (fun z => ([(1, pB b1 0), (4, pB b2 0), (16, .slice o_x0 x0.length c_x0), (17, vI (x0.length : Int)), (18, vI y1), (27, pB b2 0), (28, vI p1.x), (29, .bool (decide (p1.x > (1000000 : Int)))), (32, vI y1), (33, .bool (decide (y1 > (0 : Int)))), (34, .bool true), (35, pB b1 0), (36, .slice o_x0 x0.length c_x0), (37, vI y1), (38, vI (w64 (y1 - (1 : Int)))), (39, .pointer (some (ad2.add (Int.toNat (w64 (y1 - (1 : Int))) * 3)))), (40, .pointer (some (ad2.add (Int.toNat (w64 (y1 - (1 : Int))) * 3)))), (41, vI p2.x), (42, pB b2 0), (43, vI p1.x), (44, .bool (decide (p2.x ≥ p1.x))), (45, .bool (decide (p2.x ≥ p1.x))), (48, pB b2 1), (49, vI p1.lo), (50, .bool (decide (p1.lo < (-1000000000 : Int)))), (52, .bool z)] : FL)) hb10)
          refine p_qtE [] [(1, pB b1 0), (16, .slice o_x0 x0.length c_x0), (17, vI (x0.length : Int)), (18, vI y1), (27, pB b2 0), (28, vI p1.x), (29, .bool (decide (p1.x > (1000000 : Int)))), (32, vI y1), (33, .bool (decide (y1 > (0 : Int)))), (34, .bool true), (35, pB b1 0), (36, .slice o_x0 x0.length c_x0), (37, vI y1), (38, vI (w64 (y1 - (1 : Int)))), (39, .pointer (some (ad2.add (Int.toNat (w64 (y1 - (1 : Int))) * 3)))), (40, .pointer (some (ad2.add (Int.toNat (w64 (y1 - (1 : Int))) * 3)))), (41, vI p2.x), (42, pB b2 0), (43, vI p1.x), (44, .bool (decide (p2.x ≥ p1.x))), (45, .bool (decide (p2.x ≥ p1.x))), (48, pB b2 1), (49, vI p1.lo), (50, .bool (decide (p1.lo < (-1000000000 : Int)))), (53, undef), (54, undef), (55, undef), (56, undef), (57, undef), (60, undef), (61, undef), (62, undef), (63, .bool true)] [] [] hf38 (by kernel_rfl) .nil .nil fun a23 hf39 => ?_
          have hf40 := Fr.keep (ks := [1, 16, 17, 18, 63]) (r := [(1, pB b1 0), (16, .slice o_x0 x0.length c_x0), (17, vI (x0.length : Int)), (18, vI y1), (63, .bool true)]) hf39 (by kernel_rfl)
          exact ⟨z2, true, (Zone.le_refl _), hf40, hS6, hr17⟩
         ·have hr18 := cond_f hb10 hr16
          have hf41 := Fr.conv hf37 (congrArg (fun z => ([(1, pB b1 0), (4, pB b2 0), (16, .slice o_x0 x0.length c_x0), (17, vI (x0.length : Int)), (18, vI y1), (27, pB b2 0), (28, vI p1.x), (29, .bool (decide (p1.x > (1000000 : Int)))), (32, vI y1), (33, .bool (decide (y1 > (0 : Int)))), (34, .bool true), (35, pB b1 0), (36, .slice o_x0 x0.length c_x0), (37, vI y1), (38, vI (w64 (y1 - (1 : Int)))), (39, .pointer (some (ad2.add (Int.toNat (w64 (y1 - (1 : Int))) * 3)))), (40, .pointer (some (ad2.add (Int.toNat (w64 (y1 - (1 : Int))) * 3)))), (41, vI p2.x), (42, pB b2 0), (43, vI p1.x), (44, .bool (decide (p2.x ≥ p1.x))), (45, .bool (decide (p2.x ≥ p1.x))), (48, pB b2 1), (49, vI p1.lo), (50, .bool (decide (p1.lo < (-1000000000 : Int)))), (52, .bool z)] : FL)) hb10)
          refine p_qE 7 [vI p1.lo, vI p1.hi] [(1, pB b1 0), (4, pB b2 0), (16, .slice o_x0 x0.length c_x0), (17, vI (x0.length : Int)), (18, vI y1), (27, pB b2 0), (28, vI p1.x), (29, .bool (decide (p1.x > (1000000 : Int)))), (32, vI y1), (33, .bool (decide (y1 > (0 : Int)))), (34, .bool true), (35, pB b1 0), (36, .slice o_x0 x0.length c_x0), (37, vI y1), (38, vI (w64 (y1 - (1 : Int)))), (39, .pointer (some (ad2.add (Int.toNat (w64 (y1 - (1 : Int))) * 3)))), (40, .pointer (some (ad2.add (Int.toNat (w64 (y1 - (1 : Int))) * 3)))), (41, vI p2.x), (42, pB b2 0), (43, vI p1.x), (44, .bool (decide (p2.x ≥ p1.x))), (45, .bool (decide (p2.x ≥ p1.x))), (48, pB b2 1), (49, vI p1.lo), (50, .bool (decide (p1.lo < (-1000000000 : Int)))), (53, pB b2 1), (54, vI p1.lo), (55, pB b2 2), (56, vI p1.hi), (57, .bool (decide (p1.lo > p1.hi))), (59, .bool (decide (p1.lo > p1.hi)))] [.cell ⟨b2, 1, none⟩ (vI p1.lo), .cell ⟨b2, 2, none⟩ (vI p1.hi)] [] hf41 (by kernel_rfl) (.cell (hS6.box (i := 0) rfl (j := 1) rfl) (.cell (hS6.box (i := 0) rfl (j := 2) rfl) .nil)) .nil fun a24 hf42 => ?_
          rcases Bool.eq_false_or_eq_true (decide (p1.lo > p1.hi)) with hb11 | hb11
          ·have hr19 := cond_t hb11 hr18
           have hf43 := Fr.conv hf42 (congrArg (fun z => ([(1, pB b1 0), (4, pB b2 0), (16, .slice o_x0 x0.length c_x0), (17, vI (x0.length : Int)), (18, vI y1), (27, pB b2 0), (28, vI p1.x), (29, .bool (decide (p1.x > (1000000 : Int)))), (32, vI y1), (33, .bool (decide (y1 > (0 : Int)))), (34, .bool true), (35, pB b1 0), (36, .slice o_x0 x0.length c_x0), (37, vI y1), (38, vI (w64 (y1 - (1 : Int)))), (39, .pointer (some (ad2.add (Int.toNat (w64 (y1 - (1 : Int))) * 3)))), (40, .pointer (some (ad2.add (Int.toNat (w64 (y1 - (1 : Int))) * 3)))), (41, vI p2.x), (42, pB b2 0), (43, vI p1.x), (44, .bool (decide (p2.x ≥ p1.x))), (45, .bool (decide (p2.x ≥ p1.x))), (48, pB b2 1), (49, vI p1.lo), (50, .bool (decide (p1.lo < (-1000000000 : Int)))), (53, pB b2 1), (54, vI p1.lo), (55, pB b2 2), (56, vI p1.hi), (57, .bool (decide (p1.lo > p1.hi))), (59, .bool z)] : FL)) hb11)
           refine p_qtE [] [(1, pB b1 0), (16, .slice o_x0 x0.length c_x0), (17, vI (x0.length : Int)), (18, vI y1), (27, pB b2 0), (28, vI p1.x), (29, .bool (decide (p1.x > (1000000 : Int)))), (32, vI y1), (33, .bool (decide (y1 > (0 : Int)))), (34, .bool true), (35, pB b1 0), (36, .slice o_x0 x0.length c_x0), (37, vI y1), (38, vI (w64 (y1 - (1 : Int)))), (39, .pointer (some (ad2.add (Int.toNat (w64 (y1 - (1 : Int))) * 3)))), (40, .pointer (some (ad2.add (Int.toNat (w64 (y1 - (1 : Int))) * 3)))), (41, vI p2.x), (42, pB b2 0), (43, vI p1.x), (44, .bool (decide (p2.x ≥ p1.x))), (45, .bool (decide (p2.x ≥ p1.x))), (48, pB b2 1), (49, vI p1.lo), (50, .bool (decide (p1.lo < (-1000000000 : Int)))), (53, pB b2 1), (54, vI p1.lo), (55, pB b2 2), (56, vI p1.hi), (57, .bool (decide (p1.lo > p1.hi))), (60, undef), (61, undef), (62, undef), (63, .bool true)] [] [] hf43 (by kernel_rfl) .nil .nil fun a25 hf44 => ?_
           have hf45 := Fr.keep (ks := [1, 16, 17, 18, 63]) (r := [(1, pB b1 0), (16, .slice o_x0 x0.length c_x0), (17, vI (x0.length : Int)), (18, vI y1), (63, .bool true)]) hf44 (by kernel_rfl)
           exact ⟨z2, true, (Zone.le_refl _), hf45, hS6, hr19⟩
          ·have hr20 := cond_f hb11 hr18
           have hf46 := Fr.conv hf42 (congrArg (fun z => ([(1, pB b1 0), (4, pB b2 0), (16, .slice o_x0 x0.length c_x0), (17, vI (x0.length : Int)), (18, vI y1), (27, pB b2 0), (28, vI p1.x), (29, .bool (decide (p1.x > (1000000 : Int)))), (32, vI y1), (33, .bool (decide (y1 > (0 : Int)))), (34, .bool true), (35, pB b1 0), (36, .slice o_x0 x0.length c_x0), (37, vI y1), (38, vI (w64 (y1 - (1 : Int)))), (39, .pointer (some (ad2.add (Int.toNat (w64 (y1 - (1 : Int))) * 3)))), (40, .pointer (some (ad2.add (Int.toNat (w64 (y1 - (1 : Int))) * 3)))), (41, vI p2.x), (42, pB b2 0), (43, vI p1.x), (44, .bool (decide (p2.x ≥ p1.x))), (45, .bool (decide (p2.x ≥ p1.x))), (48, pB b2 1), (49, vI p1.lo), (50, .bool (decide (p1.lo < (-1000000000 : Int)))), (53, pB b2 1), (54, vI p1.lo), (55, pB b2 2), (56, vI p1.hi), (57, .bool (decide (p1.lo > p1.hi))), (59, .bool z)] : FL)) hb11)
           refine p_qtE [vI p1.hi] [(1, pB b1 0), (16, .slice o_x0 x0.length c_x0), (17, vI (x0.length : Int)), (18, vI y1), (27, pB b2 0), (28, vI p1.x), (29, .bool (decide (p1.x > (1000000 : Int)))), (32, vI y1), (33, .bool (decide (y1 > (0 : Int)))), (34, .bool true), (35, pB b1 0), (36, .slice o_x0 x0.length c_x0), (37, vI y1), (38, vI (w64 (y1 - (1 : Int)))), (39, .pointer (some (ad2.add (Int.toNat (w64 (y1 - (1 : Int))) * 3)))), (40, .pointer (some (ad2.add (Int.toNat (w64 (y1 - (1 : Int))) * 3)))), (41, vI p2.x), (42, pB b2 0), (43, vI p1.x), (44, .bool (decide (p2.x ≥ p1.x))), (45, .bool (decide (p2.x ≥ p1.x))), (48, pB b2 1), (49, vI p1.lo), (50, .bool (decide (p1.lo < (-1000000000 : Int)))), (53, pB b2 1), (54, vI p1.lo), (55, pB b2 2), (56, vI p1.hi), (57, .bool (decide (p1.lo > p1.hi))), (60, pB b2 2), (61, vI p1.hi), (62, .bool (decide (p1.hi > (1000000000 : Int)))), (63, .bool (decide (p1.hi > (1000000000 : Int))))] [.cell ⟨b2, 2, none⟩ (vI p1.hi)] [] hf46 (by kernel_rfl) (.cell (hS6.box (i := 0) rfl (j := 2) rfl) .nil) .nil fun a26 hf47 => ?_
           have hf48 := Fr.keep (ks := [1, 16, 17, 18, 63]) (r := [(1, pB b1 0), (16, .slice o_x0 x0.length c_x0), (17, vI (x0.length : Int)), (18, vI y1), (63, .bool (decide (p1.hi > (1000000000 : Int))))]) hf47 (by kernel_rfl)
           exact ⟨z2, (decide (p1.hi > (1000000000 : Int))), (Zone.le_refl _), hf48, hS6, hr20⟩
       ·have hr21 := cond_f hb7 hr12
        have hf49 := Fr.conv hf30 (congrArg (fun z => ([(1, pB b1 0), (3, vI y1), (4, pB b2 0), (16, .slice o_x0 x0.length c_x0), (17, vI (x0.length : Int)), (18, vI y1), (27, pB b2 0), (28, vI p1.x), (29, .bool (decide (p1.x > (1000000 : Int)))), (31, .bool false), (32, vI y1), (33, .bool (decide (y1 > (0 : Int)))), (34, .bool z)] : FL)) hb7)
        refine p_qE 18 [vI p1.lo] [(1, pB b1 0), (4, pB b2 0), (16, .slice o_x0 x0.length c_x0), (17, vI (x0.length : Int)), (18, vI y1), (27, pB b2 0), (28, vI p1.x), (29, .bool (decide (p1.x > (1000000 : Int)))), (32, vI y1), (33, .bool (decide (y1 > (0 : Int)))), (34, .bool false), (35, undef), (36, undef), (37, undef), (38, undef), (39, undef), (40, undef), (41, undef), (42, undef), (43, undef), (44, undef), (45, .bool false), (48, pB b2 1), (49, vI p1.lo), (50, .bool (decide (p1.lo < (-1000000000 : Int)))), (52, .bool (decide (p1.lo < (-1000000000 : Int))))] [.cell ⟨b2, 1, none⟩ (vI p1.lo)] [] hf49 (by kernel_rfl) (.cell (hS6.box (i := 0) rfl (j := 1) rfl) .nil) .nil fun a27 hf50 => ?_
        rcases Bool.eq_false_or_eq_true (decide (p1.lo < (-1000000000 : Int))) with hb12 | hb12
        ·have hr22 := cond_t hb12 hr21
         have hf51 := Fr.conv hf50 (congrArg (fun z => ([(1, pB b1 0), (4, pB b2 0), (16, .slice o_x0 x0.length c_x0), (17, vI (x0.length : Int)), (18, vI y1), (27, pB b2 0), (28, vI p1.x), (29, .bool (decide (p1.x > (1000000 : Int)))), (32, vI y1), (33, .bool (decide (y1 > (0 : Int)))), (34, .bool false), (35, undef), (36, undef), (37, undef), (38, undef), (39, undef), (40, undef), (41, undef), (42, undef), (43, undef), (44, undef), (45, .bool false), (48, pB b2 1), (49, vI p1.lo), (50, .bool (decide (p1.lo < (-1000000000 : Int)))), (52, .bool z)] : FL)) hb12)
         refine p_qtE [] [(1, pB b1 0), (16, .slice o_x0 x0.length c_x0), (17, vI (x0.length : Int)), (18, vI y1), (27, pB b2 0), (28, vI p1.x), (29, .bool (decide (p1.x > (1000000 : Int)))), (32, vI y1), (33, .bool (decide (y1 > (0 : Int)))), (34, .bool false), (35, undef), (36, undef), (37, undef), (38, undef), (39, undef), (40, undef), (41, undef), (42, undef), (43, undef), (44, undef), (45, .bool false), (48, pB b2 1), (49, vI p1.lo), (50, .bool (decide (p1.lo < (-1000000000 : Int)))), (53, undef), (54, undef), (55, undef), (56, undef), (57, undef), (60, undef), (61, undef), (62, undef), (63, .bool true)] [] [] hf51 (by kernel_rfl) .nil .nil fun a28 hf52 => ?_
         have hf53 := Fr.keep (ks := [1, 16, 17, 18, 63]) (r := [(1, pB b1 0), (16, .slice o_x0 x0.length c_x0), (17, vI (x0.length : Int)), (18, vI y1), (63, .bool true)]) hf52 (by kernel_rfl)
         exact ⟨z2, true, (Zone.le_refl _), hf53, hS6, hr22⟩
        ·have hr23 := cond_f hb12 hr21
         have hf54 := Fr.conv hf50 (congrArg (fun z => ([(1, pB b1 0), (4, pB b2 0), (16, .slice o_x0 x0.length c_x0), (17, vI (x0.length : Int)), (18, vI y1), (27, pB b2 0), (28, vI p1.x), (29, .bool (decide (p1.x > (1000000 : Int)))), (32, vI y1), (33, .bool (decide (y1 > (0 : Int)))), (34, .bool false), (35, undef), (36, undef), (37, undef), (38, undef), (39, undef), (40, undef), (41, undef), (42, undef), (43, undef), (44, undef), (45, .bool false), (48, pB b2 1), (49, vI p1.lo), (50, .bool (decide (p1.lo < (-1000000000 : Int)))), (52, .bool z)] : FL)) hb12)
         refine p_qE 7 [vI p1.lo, vI p1.hi] [(1, pB b1 0), (4, pB b2 0), (16, .slice o_x0 x0.length c_x0), (17, vI (x0.length : Int)), (18, vI y1), (27, pB b2 0), (28, vI p1.x), (29, .bool (decide (p1.x > (1000000 : Int)))), (32, vI y1), (33, .bool (decide (y1 > (0 : Int)))), (34, .bool false), (35, undef), (36, undef), (37, undef), (38, undef), (39, undef), (40, undef), (41, undef), (42, undef), (43, undef), (44, undef), (45, .bool false), (48, pB b2 1), (49, vI p1.lo), (50, .bool (decide (p1.lo < (-1000000000 : Int)))), (53, pB b2 1), (54, vI p1.lo), (55, pB b2 2), (56, vI p1.hi), (57, .bool (decide (p1.lo > p1.hi))), (59, .bool (decide (p1.lo > p1.hi)))] [.cell ⟨b2, 1, none⟩ (vI p1.lo), .cell ⟨b2, 2, none⟩ (vI p1.hi)] [] hf54 (by kernel_rfl) (.cell (hS6.box (i := 0) rfl (j := 1) rfl) (.cell (hS6.box (i := 0) rfl (j := 2) rfl) .nil)) .nil fun a29 hf55 => ?_
         rcases Bool.eq_false_or_eq_true (decide (p1.lo > p1.hi)) with hb13 | hb13
         ·have hr24 := cond_t hb13 hr23
          have hf56 := Fr.conv hf55 (congrArg (fun z => ([(1, pB b1 0), (4, pB b2 0), (16, .slice o_x0 x0.length c_x0), (17, vI (x0.length : Int)), (18, vI y1), (27, pB b2 0), (28, vI p1.x), (29, .bool (decide (p1.x > (1000000 : Int)))), (32, vI y1), (33, .bool (decide (y1 > (0 : Int)))), (34, .bool false), (35, undef), (36, undef), (37, undef), (38, undef), (39, undef), (40, undef), (41, undef), (42, undef), (43, undef), (44, undef), (45, .bool false), (48, pB b2 1), (49, vI p1.lo), (50, .bool (decide (p1.lo < (-1000000000 : Int)))), (53, pB b2 1), (54, vI p1.lo), (55, pB b2 2), (56, vI p1.hi), (57, .bool (decide (p1.lo > p1.hi))), (59, .bool z)] : FL)) hb13)
          refine p_qtE [] [(1, pB b1 0), (16, .slice o_x0 x0.length c_x0), (17, vI (x0.length : Int)), (18, vI y1), (27, pB b2 0), (28, vI p1.x), (29, .bool (decide (p1.x > (1000000 : Int)))), (32, vI y1), (33, .bool (decide (y1 > (0 : Int)))), (34, .bool false), (35, undef), (36, undef), (37, undef), (38, undef), (39, undef), (40, undef), (41, undef), (42, undef), (43, undef), (44, undef), (45, .bool false), (48, pB b2 1), (49, vI p1.lo), (50, .bool (decide (p1.lo < (-1000000000 : Int)))), (53, pB b2 1), (54, vI p1.lo), (55, pB b2 2), (56, vI p1.hi), (57, .bool (decide (p1.lo > p1.hi))), (60, undef), (61, undef), (62, undef), (63, .bool true)] [] [] hf56 (by kernel_rfl) .nil .nil fun a30 hf57 => ?_
          have hf58 := Fr.keep (ks := [1, 16, 17, 18, 63]) (r := [(1, pB b1 0), (16, .slice o_x0 x0.length c_x0), (17, vI (x0.length : Int)), (18, vI y1), (63, .bool true)]) hf57 (by kernel_rfl)
          exact ⟨z2, true, (Zone.le_refl _), hf58, hS6, hr24⟩
         ·have hr25 := cond_f hb13 hr23
          have hf59 := Fr.conv hf55 (congrArg (fun z => ([(1, pB b1 0), (4, pB b2 0), (16, .slice o_x0 x0.length c_x0), (17, vI (x0.length : Int)), (18, vI y1), (27, pB b2 0), (28, vI p1.x), (29, .bool (decide (p1.x > (1000000 : Int)))), (32, vI y1), (33, .bool (decide (y1 > (0 : Int)))), (34, .bool false), (35, undef), (36, undef), (37, undef), (38, undef), (39, undef), (40, undef), (41, undef), (42, undef), (43, undef), (44, undef), (45, .bool false), (48, pB b2 1), (49, vI p1.lo), (50, .bool (decide (p1.lo < (-1000000000 : Int)))), (53, pB b2 1), (54, vI p1.lo), (55, pB b2 2), (56, vI p1.hi), (57, .bool (decide (p1.lo > p1.hi))), (59, .bool z)] : FL)) hb13)
          refine p_qtE [vI p1.hi] [(1, pB b1 0), (16, .slice o_x0 x0.length c_x0), (17, vI (x0.length : Int)), (18, vI y1), (27, pB b2 0), (28, vI p1.x), (29, .bool (decide (p1.x > (1000000 : Int)))), (32, vI y1), (33, .bool (decide (y1 > (0 : Int)))), (34, .bool false), (35, undef), (36, undef), (37, undef), (38, undef), (39, undef), (40, undef), (41, undef), (42, undef), (43, undef), (44, undef), (45, .bool false), (48, pB b2 1), (49, vI p1.lo), (50, .bool (decide (p1.lo < (-1000000000 : Int)))), (53, pB b2 1), (54, vI p1.lo), (55, pB b2 2), (56, vI p1.hi), (57, .bool (decide (p1.lo > p1.hi))), (60, pB b2 2), (61, vI p1.hi), (62, .bool (decide (p1.hi > (1000000000 : Int)))), (63, .bool (decide (p1.hi > (1000000000 : Int))))] [.cell ⟨b2, 2, none⟩ (vI p1.hi)] [] hf59 (by kernel_rfl) (.cell (hS6.box (i := 0) rfl (j := 2) rfl) .nil) .nil fun a31 hf60 => ?_
          have hf61 := Fr.keep (ks := [1, 16, 17, 18, 63]) (r := [(1, pB b1 0), (16, .slice o_x0 x0.length c_x0), (17, vI (x0.length : Int)), (18, vI y1), (63, .bool (decide (p1.hi > (1000000000 : Int))))]) hf60 (by kernel_rfl)
          exact ⟨z2, (decide (p1.hi > (1000000000 : Int))), (Zone.le_refl _), hf61, hS6, hr25⟩
    ·rintro a32 ww6 ⟨z3, y2, k4, hf62, hS7, hr26⟩
     refine w_if hf62 (b := y2) (by kernel_rfl) (fun hb14 => ?_) (fun hb14 => ?_)
     ·have hr27 := cond_t hb14 hr26
      refine w_sq [] [(2, .bool false)] [] hf62 (by kernel_rfl) .nil fun a33 hf63 => ?_
      refine w_ret (by kernel_rfl) ?_
      refine r_block ?_
      refine r_then ?_
      refine r_then ?_
      refine r_block ?_
      refine r_then ?_
      refine p_ret (os := []) (v := .bool false) (obs := []) hf63 (by kernel_rfl) .nil ?_
      obtain rfl := some_eq hr27
      exact ⟨_, rfl, z3, (Zone.le_trans (Zone.le_trans k2 k3) k4), rfl, (St.drop 2 hS7)⟩
     ·have hr28 := cond_f hb14 hr26
      refine w_skip (by kernel_rfl) ?_
      refine n_block ?_
      refine n_then ?_
      refine w_q [] [(1, pB b1 0), (16, .slice o_x0 x0.length c_x0), (17, vI (x0.length : Int)), (18, vI (w64 (y1 + (1 : Int))))] [] hf62 (by kernel_rfl) .nil fun a34 hf64 => ?_
      refine n_then ?_
      have hf65 := Fr.keep (ks := [1, 16, 17, 18]) (r := [(1, pB b1 0), (16, .slice o_x0 x0.length c_x0), (17, vI (x0.length : Int)), (18, vI (w64 (y1 + (1 : Int))))]) hf64 (by kernel_rfl)
      exact ⟨n1, Nat.lt_succ_self n1, z3, (w64 (y1 + (1 : Int))), (Zone.le_trans k3 k4), hf65, (St.drop 1 hS7), hr28⟩
   ·have hr29 := cond_f hb3 hr6
    refine w_exit (id := 0) (by kernel_rfl) ?_
    refine x_then ?_
    refine x_then ?_
    refine x_block ?_
    refine n_then ?_
    refine w_sq [] [(2, .bool true)] [] hf15 (by kernel_rfl) .nil fun a35 hf66 => ?_
    refine w_ret (by kernel_rfl) ?_
    refine p_ret (os := []) (v := .bool true) (obs := []) hf66 (by kernel_rfl) .nil ?_
    obtain rfl := some_eq hr29
    exact ⟨_, rfl, z2, (Zone.le_trans k2 k3), rfl, (St.drop 1 hS3)⟩
def F73 (fuel : Nat) (x0 : List Pt) : Option (Int) :=
  ((getI x0 0).bind fun p1 => (some (p1.x)))
set_option maxRecDepth 100000 in
theorem f73_ok (fuel : Nat) (x0 : List Pt) (r : Int) (hr : F73 fuel x0 = some r) (h : Zone) (L : List Atom) (w : World) (hS : St h L w) (o_x0 : Option Addr) (c_x0 : Nat) (hx_x0 : SliceR PtT h o_x0 c_x0 x0) :
    Calls Try.prog 73 #[.agg #[.slice o_x0 x0.length c_x0]] w fun e w' => ∃ v, e = .returned v ∧ (v = vI r ∧ St h L w') := by
 refine calls_intro (N := 8) Try.func73 (by kernel_rfl) fun a hf => ?_
 refine w_sr (by kernel_rfl) ?_
 refine p_box (i := 0) (d := (some 1)) (cs := [.slice o_x0 x0.length c_x0]) (T := 24) (v := fun b1 => pB b1 0) hS hf (fun b => by kernel_rfl) fun b1 ww1 a1 hS1 hf1 => ⟨fun _ => trivial, ?_⟩
 refine p_qt [] [(1, pB b1 0)] [] hf1 (by kernel_rfl) .nil fun a2 hf2 => ?_
 obtain ⟨p1, hp9, hr1⟩ := bind_some hr
 obtain ⟨ad1, ho1, hb1, cc1, hc1, hk1⟩ := SliceR.getI hx_x0 hp9
 subst hc1
 refine w_sq [.slice o_x0 x0.length c_x0, .pointer (some ad1), vI p1.x] [(2, vI p1.x)] [.cell ⟨b1, 0, none⟩ (.slice o_x0 x0.length c_x0), .prop (o_x0 = some ad1), .prop (0 ≤ (0 : Int) ∧ (0 : Int) < (x0.length : Nat)), .cell ((ad1.add (Int.toNat 0 * 3)).add 0) (vI p1.x)] hf2 (by kernel_rfl) (.cell (hS1.box (i := 0) rfl (j := 0) rfl) (.prop ho1 (.prop hb1 (.cell (hS1.cell (hk1 0 _ rfl)) .nil)))) fun a3 hf3 => ?_
 refine w_ret (by kernel_rfl) ?_
 refine p_ret (os := []) (v := vI p1.x) (obs := []) hf3 (by kernel_rfl) .nil ?_
 obtain rfl := some_eq hr1
 exact ⟨_, rfl, rfl, (St.drop 1 hS1)⟩
def F74 (fuel : Nat) (x0 : List Pt) : Option (Int) :=
  ((getI x0 (w64 ((x0.length : Int) - (1 : Int)))).bind fun p1 => (some (p1.x)))
set_option maxRecDepth 100000 in
theorem f74_ok (fuel : Nat) (x0 : List Pt) (r : Int) (hr : F74 fuel x0 = some r) (h : Zone) (L : List Atom) (w : World) (hS : St h L w) (o_x0 : Option Addr) (c_x0 : Nat) (hx_x0 : SliceR PtT h o_x0 c_x0 x0) :
    Calls Try.prog 74 #[.agg #[.slice o_x0 x0.length c_x0]] w fun e w' => ∃ v, e = .returned v ∧ (v = vI r ∧ St h L w') := by
 refine calls_intro (N := 12) Try.func74 (by kernel_rfl) fun a hf => ?_
 refine w_sr (by kernel_rfl) ?_
 refine p_box (i := 0) (d := (some 1)) (cs := [.slice o_x0 x0.length c_x0]) (T := 24) (v := fun b1 => pB b1 0) hS hf (fun b => by kernel_rfl) fun b1 ww1 a1 hS1 hf1 => ⟨fun _ => trivial, ?_⟩
 refine p_qt [] [(1, pB b1 0)] [] hf1 (by kernel_rfl) .nil fun a2 hf2 => ?_
 obtain ⟨p1, hp9, hr1⟩ := bind_some hr
 obtain ⟨ad1, ho1, hb1, cc1, hc1, hk1⟩ := SliceR.getI hx_x0 hp9
 subst hc1
 refine w_sq [.slice o_x0 x0.length c_x0, .slice o_x0 x0.length c_x0, .pointer (some ad1), vI p1.x] [(2, vI p1.x)] [.cell ⟨b1, 0, none⟩ (.slice o_x0 x0.length c_x0), .cell ⟨b1, 0, none⟩ (.slice o_x0 x0.length c_x0), .prop (o_x0 = some ad1), .prop (0 ≤ (w64 ((x0.length : Int) - (1 : Int))) ∧ (w64 ((x0.length : Int) - (1 : Int))) < (x0.length : Nat)), .cell ((ad1.add (Int.toNat (w64 ((x0.length : Int) - (1 : Int))) * 3)).add 0) (vI p1.x)] hf2 (by kernel_rfl) (.cell (hS1.box (i := 0) rfl (j := 0) rfl) (.cell (hS1.box (i := 0) rfl (j := 0) rfl) (.prop ho1 (.prop hb1 (.cell (hS1.cell (hk1 0 _ rfl)) .nil))))) fun a3 hf3 => ?_
 refine w_ret (by kernel_rfl) ?_
 refine p_ret (os := []) (v := vI p1.x) (obs := []) hf3 (by kernel_rfl) .nil ?_
 obtain rfl := some_eq hr1
 exact ⟨_, rfl, rfl, (St.drop 1 hS1)⟩
def F91_j1 (y1 : Bool) : Option (Bool) :=
  (some (y1))
def F91 (fuel : Nat) (x0 : List Pt) (x1 : Int) : Option (Bool) :=
  ((F73 fuel x0).bind fun r1 => (cond (decide (r1 ≤ x1)) ((F74 fuel x0).bind fun r2 => (F91_j1 (decide (x1 ≤ r2)))) (F91_j1 false)))
set_option maxRecDepth 100000 in
theorem f91_ok (fuel : Nat) (x0 : List Pt) (x1 : Int) (r : Bool) (hr : F91 fuel x0 x1 = some r) (h : Zone) (L : List Atom) (w : World) (hS : St h L w) (o_x0 : Option Addr) (c_x0 : Nat) (hx_x0 : SliceR PtT h o_x0 c_x0 x0) :
    Calls Try.prog 91 #[.agg #[.slice o_x0 x0.length c_x0], vI x1] w fun e w' => ∃ v, e = .returned v ∧ (∃ h', Zone.le h h' ∧ v = .bool r ∧ St h' L w') := by
 refine calls_intro (N := 15) Try.func91 (by kernel_rfl) fun a hf => ?_
 refine w_sr (by kernel_rfl) ?_
 refine p_box (i := 0) (d := (some 2)) (cs := [.slice o_x0 x0.length c_x0]) (T := 24) (v := fun b1 => pB b1 0) hS hf (fun b => by kernel_rfl) fun b1 ww1 a1 hS1 hf1 => ⟨fun _ => trivial, ?_⟩
 refine p_qt [] [(1, vI x1), (2, pB b1 0)] [] hf1 (by kernel_rfl) .nil fun a2 hf2 => ?_
 refine w_mid (by kernel_rfl) (fun a w => ∃ z1 : Zone, ∃ y1 : Bool, Zone.le h z1 ∧ Fr a 15 [(4, .bool y1)] ∧ St z1 (box b1 [.slice o_x0 x0.length c_x0] 24 :: L) w ∧ (F91_j1 y1) = some r) ?_ ?_
 ·skip
  refine w_reg (by kernel_rfl) ?_
  refine p_qn 1 [.slice o_x0 x0.length c_x0] [(1, vI x1), (2, pB b1 0), (5, .agg #[.slice o_x0 x0.length c_x0])] [.cell ⟨b1, 0, none⟩ (.slice o_x0 x0.length c_x0)] hf2 (by kernel_rfl) (.cell (hS1.box (i := 0) rfl (j := 0) rfl) .nil) fun a3 hf3 => ?_
  obtain ⟨r1, hd1, hr1⟩ := bind_some hr
  refine p_call (i := 1) (d := some 6) (f := 73) (args := #[.agg #[.slice o_x0 x0.length c_x0]]) hf3 (by kernel_rfl) (f73_ok fuel x0 r1 hd1 h _ _ hS1 o_x0 c_x0 hx_x0) ?_
  rintro v1 ww2 a4 ⟨rfl, hS2⟩ hf4
  refine ⟨fun _ => trivial, ?_⟩
  refine p_qn 3 [] [(1, vI x1), (2, pB b1 0), (9, .bool (decide (r1 ≤ x1)))] [] hf4 (by kernel_rfl) .nil fun a5 hf5 => ?_
  rcases Bool.eq_false_or_eq_true (decide (r1 ≤ x1)) with hb1 | hb1
  ·have hr2 := cond_t hb1 hr1
   have hf6 := Fr.conv hf5 (congrArg (fun z => ([(1, vI x1), (2, pB b1 0), (9, .bool z)] : FL)) hb1)
   refine p_qn 2 [.slice o_x0 x0.length c_x0] [(9, .bool true), (10, vI x1), (11, .agg #[.slice o_x0 x0.length c_x0])] [.cell ⟨b1, 0, none⟩ (.slice o_x0 x0.length c_x0)] hf6 (by kernel_rfl) (.cell (hS2.box (i := 0) rfl (j := 0) rfl) .nil) fun a6 hf7 => ?_
   obtain ⟨r2, hd2, hr3⟩ := bind_some hr2
   refine p_call (i := 7) (d := some 12) (f := 74) (args := #[.agg #[.slice o_x0 x0.length c_x0]]) hf7 (by kernel_rfl) (f74_ok fuel x0 r2 hd2 h _ _ hS2 o_x0 c_x0 hx_x0) ?_
   rintro v2 ww3 a7 ⟨rfl, hS3⟩ hf8
   refine ⟨fun _ => trivial, ?_⟩
   refine p_qt [] [(4, .bool (decide (x1 ≤ r2)))] [] hf8 (by kernel_rfl) .nil fun a8 hf9 => ?_
   have hf10 := Fr.keep (ks := [4]) (r := [(4, .bool (decide (x1 ≤ r2)))]) hf9 (by kernel_rfl)
   exact ⟨h, (decide (x1 ≤ r2)), (Zone.le_refl _), hf10, hS3, hr3⟩
  ·have hr4 := cond_f hb1 hr1
   have hf11 := Fr.conv hf5 (congrArg (fun z => ([(1, vI x1), (2, pB b1 0), (9, .bool z)] : FL)) hb1)
   refine p_qt [] [(4, .bool false)] [] hf11 (by kernel_rfl) .nil fun a9 hf12 => ?_
   have hf13 := Fr.keep (ks := [4]) (r := [(4, .bool false)]) hf12 (by kernel_rfl)
   exact ⟨h, false, (Zone.le_refl _), hf13, hS2, hr4⟩
 ·rintro a10 ww4 ⟨z1, y1, k1, hf14, hS4, hr5⟩
  refine w_ret (by kernel_rfl) ?_
  refine p_ret (os := []) (v := .bool y1) (obs := []) hf14 (by kernel_rfl) .nil ?_
  obtain rfl := some_eq hr5
  exact ⟨_, rfl, z1, k1, rfl, (St.drop 1 hS4)⟩
def F122 (fuel : Nat) (x0_w : Int) (x0_n : Int) (x0_d : Int) : Option (Int) :=
  (cond (decide (x0_n > (0 : Int))) (some ((w64 (x0_w + (1 : Int))))) (some (x0_w)))
set_option maxRecDepth 100000 in
theorem f122_ok (fuel : Nat) (x0_w : Int) (x0_n : Int) (x0_d : Int) (r : Int) (hr : F122 fuel x0_w x0_n x0_d = some r) (h : Zone) (L : List Atom) (w : World) (hS : St h L w)  :
    Calls Try.prog 122 #[.agg #[vI x0_w, vI x0_n, vI x0_d]] w fun e w' => ∃ v, e = .returned v ∧ (v = vI r ∧ St h L w') := by
 refine calls_intro (N := 11) Try.func122 (by kernel_rfl) fun a hf => ?_
 refine w_sr (by kernel_rfl) ?_
 refine p_box (i := 0) (d := (some 1)) (cs := [vI x0_w, vI x0_n, vI x0_d]) (T := 56) (v := fun b1 => pB b1 0) hS hf (fun b => by kernel_rfl) fun b1 ww1 a1 hS1 hf1 => ⟨fun _ => trivial, ?_⟩
 refine p_qt [] [(1, pB b1 0)] [] hf1 (by kernel_rfl) .nil fun a2 hf2 => ?_
 refine w_seq (by kernel_rfl) ?_
 refine w_sq [vI x0_n] [(1, pB b1 0), (5, .bool (decide (x0_n > (0 : Int))))] [.cell ⟨b1, 1, none⟩ (vI x0_n)] hf2 (by kernel_rfl) (.cell (hS1.box (i := 0) rfl (j := 1) rfl) .nil) fun a3 hf3 => ?_
 refine w_if hf3 (b := (decide (x0_n > (0 : Int)))) (by kernel_rfl) (fun hb1 => ?_) (fun hb1 => ?_)
 ·have hr1 := cond_t hb1 hr
  refine w_sq [vI x0_w] [(2, vI (w64 (x0_w + (1 : Int))))] [.cell ⟨b1, 0, none⟩ (vI x0_w)] hf3 (by kernel_rfl) (.cell (hS1.box (i := 0) rfl (j := 0) rfl) .nil) fun a4 hf4 => ?_
  refine w_ret (by kernel_rfl) ?_
  refine r_then ?_
  refine p_ret (os := []) (v := vI (w64 (x0_w + (1 : Int)))) (obs := []) hf4 (by kernel_rfl) .nil ?_
  obtain rfl := some_eq hr1
  exact ⟨_, rfl, rfl, (St.drop 1 hS1)⟩
 ·have hr2 := cond_f hb1 hr
  refine w_skip (by kernel_rfl) ?_
  refine n_then ?_
  refine w_sq [vI x0_w] [(2, vI x0_w)] [.cell ⟨b1, 0, none⟩ (vI x0_w)] hf3 (by kernel_rfl) (.cell (hS1.box (i := 0) rfl (j := 0) rfl) .nil) fun a5 hf5 => ?_
  refine w_ret (by kernel_rfl) ?_
  refine p_ret (os := []) (v := vI x0_w) (obs := []) hf5 (by kernel_rfl) .nil ?_
  obtain rfl := some_eq hr2
  exact ⟨_, rfl, rfl, (St.drop 1 hS1)⟩
def F100_j1 (y1 : Int) : Option (Int) :=
  (some (y1))
def F100 (fuel : Nat) (x0 : Int) (x1 : Int) : Option (Int) :=
  ((nz x1).bind fun _ => ((nz x1).bind fun _ => (cond (decide ((Int.tmod x0 x1) < (0 : Int))) (F100_j1 (w64 ((w64 (Int.tdiv x0 x1)) - (1 : Int)))) (F100_j1 (w64 (Int.tdiv x0 x1))))))
set_option maxRecDepth 100000 in
theorem f100_ok (fuel : Nat) (x0 : Int) (x1 : Int) (r : Int) (hr : F100 fuel x0 x1 = some r) (h : Zone) (L : List Atom) (w : World) (hS : St h L w)  :
    Calls Try.prog 100 #[vI x0, vI x1] w fun e w' => ∃ v, e = .returned v ∧ (∃ h', Zone.le h h' ∧ v = vI r ∧ St h' L w') := by
 refine calls_intro (N := 16) Try.func100 (by kernel_rfl) fun a hf => ?_
 refine w_sq [] [(0, vI x0), (1, vI x1)] [] hf (by kernel_rfl) .nil fun a1 hf1 => ?_
 obtain ⟨u1, hd1, hr1⟩ := bind_some hr
 refine w_sq [] [(0, vI x0), (1, vI x1), (5, vI (w64 (Int.tdiv x0 x1)))] [.prop (x1 ≠ 0)] hf1 (by kernel_rfl) (.prop (nz_spec hd1) .nil) fun a2 hf2 => ?_
 refine w_mid (by kernel_rfl) (fun a w => ∃ z1 : Zone, ∃ y1 : Int, Zone.le h z1 ∧ Fr a 16 [(5, vI y1)] ∧ St z1 (L) w ∧ (F100_j1 y1) = some r) ?_ ?_
 ·skip
  obtain ⟨u2, hd2, hr2⟩ := bind_some hr1
  refine w_sq [] [(5, vI (w64 (Int.tdiv x0 x1))), (12, .bool (decide ((Int.tmod x0 x1) < (0 : Int))))] [.prop (x1 ≠ 0)] hf2 (by kernel_rfl) (.prop (nz_spec hd2) .nil) fun a3 hf3 => ?_
  refine w_if hf3 (b := (decide ((Int.tmod x0 x1) < (0 : Int)))) (by kernel_rfl) (fun hb1 => ?_) (fun hb1 => ?_)
  ·have hr3 := cond_t hb1 hr2
   refine w_q [] [(5, vI (w64 ((w64 (Int.tdiv x0 x1)) - (1 : Int))))] [] hf3 (by kernel_rfl) .nil fun a4 hf4 => ?_
   refine n_then ?_
   have hf5 := Fr.keep (ks := [5]) (r := [(5, vI (w64 ((w64 (Int.tdiv x0 x1)) - (1 : Int))))]) hf4 (by kernel_rfl)
   exact ⟨h, (w64 ((w64 (Int.tdiv x0 x1)) - (1 : Int))), (Zone.le_refl _), hf5, hS, hr3⟩
  ·have hr4 := cond_f hb1 hr2
   refine w_skip (by kernel_rfl) ?_
   refine n_then ?_
   have hf6 := Fr.keep (ks := [5]) (r := [(5, vI (w64 (Int.tdiv x0 x1)))]) hf3 (by kernel_rfl)
   exact ⟨h, (w64 (Int.tdiv x0 x1)), (Zone.le_refl _), hf6, hS, hr4⟩
 ·rintro a5 ww1 ⟨z1, y1, k1, hf7, hS1, hr5⟩
  refine w_sq [] [(4, vI y1)] [] hf7 (by kernel_rfl) .nil fun a6 hf8 => ?_
  refine w_ret (by kernel_rfl) ?_
  refine p_ret (os := []) (v := vI y1) (obs := []) hf8 (by kernel_rfl) .nil ?_
  obtain rfl := some_eq hr5
  exact ⟨_, rfl, z1, k1, rfl, hS1⟩
def F30_j1 (fuel : Nat) (k1 : Int → Option (Int × Int × Int)) (x0 : List Int) (x1 : List Int) (x2 : Int) (y1 : Int) (y2 : Bool) : Option (Int × Int × Int) :=
  (cond y2 (k1 (w64 (y1 + (1 : Int)))) ((getI x0 y1).bind fun p1 => (cond (p1 == x2) ((getI x1 y1).bind fun p2 => (some (p2, 0, 1))) ((getI x0 (w64 (y1 + (1 : Int)))).bind fun p3 => ((getI x0 y1).bind fun p4 => ((getI x1 (w64 (y1 + (1 : Int)))).bind fun p5 => ((getI x1 y1).bind fun p6 => ((getI x0 y1).bind fun p7 => ((F100 fuel (w64 ((w64 (p5 - p6)) * (w64 (x2 - p7)))) (w64 (p3 - p4))).bind fun r1 => ((getI x1 y1).bind fun p8 => (some ((w64 (p8 + r1)), (w64 ((w64 ((w64 (p5 - p6)) * (w64 (x2 - p7)))) - (w64 (r1 * (w64 (p3 - p4)))))), (w64 (p3 - p4))))))))))))))
def F30_l1 (fuel : Nat) (x0 : List Int) (x1 : List Int) (x2 : Int) : Nat → Int → Option (Int × Int × Int)
  | 0, _ => none
  | n1 + 1, y1 =>
    let k1 : Int → Option (Int × Int × Int) := F30_l1 fuel x0 x1 x2 n1
    (cond (decide ((w64 (y1 + (1 : Int))) < (x0.length : Int))) ((getI x0 (w64 (y1 + (1 : Int)))).bind fun p9 => (F30_j1 fuel k1 x0 x1 x2 y1 (decide (p9 ≤ x2)))) (F30_j1 fuel k1 x0 x1 x2 y1 false))
def F30 (fuel : Nat) (x0 : List Int) (x1 : List Int) (x2 : Int) : Option (Int × Int × Int) :=
  (F30_l1 fuel x0 x1 x2 fuel 0)
set_option maxRecDepth 100000 in
theorem f30_ok (fuel : Nat) (x0 : List Int) (x1 : List Int) (x2 : Int) (r : Int × Int × Int) (hr : F30 fuel x0 x1 x2 = some r) (h : Zone) (L : List Atom) (w : World) (hS : St h L w) (o_x0 : Option Addr) (c_x0 : Nat) (hx_x0 : SliceR Ty.int h o_x0 c_x0 x0) (o_x1 : Option Addr) (c_x1 : Nat) (hx_x1 : SliceR Ty.int h o_x1 c_x1 x1) :
    Calls Try.prog 30 #[.slice o_x0 x0.length c_x0, .slice o_x1 x1.length c_x1, vI x2] w fun e w' => ∃ v, e = .returned v ∧ (∃ h', Zone.le h h' ∧ v = .agg #[vI r.1, vI r.2.1, vI r.2.2] ∧ St h' L w') := by
 refine calls_intro (N := 81) Try.func30 (by kernel_rfl) fun a hf => ?_
 refine w_sr (by kernel_rfl) ?_
 refine p_box (i := 0) (d := (some 6)) (cs := [vI 0, vI 0, vI 0]) (T := 56) (v := fun b1 => pB b1 0) hS hf (fun b => by kernel_rfl) fun b1 ww1 a1 hS1 hf1 => ⟨fun _ => trivial, ?_⟩
 refine p_dt (by kernel_rfl) ?_
 refine w_sq [] [(0, .slice o_x0 x0.length c_x0), (1, .slice o_x1 x1.length c_x1), (2, vI x2), (6, pB b1 0), (7, vI 0)] [] hf1 (by kernel_rfl) .nil fun a2 hf2 => ?_
 refine w_seq (by kernel_rfl) ?_
 refine w_block (id := 0) (by kernel_rfl) ?_
 have hf3 := Fr.keep (ks := [0, 1, 2, 6, 7]) (r := [(0, .slice o_x0 x0.length c_x0), (1, .slice o_x1 x1.length c_x1), (2, vI x2), (6, pB b1 0), (7, vI 0)]) hf2 (by kernel_rfl)
 refine w_loop (by kernel_rfl) (fun n a w => ∃ z1 : Zone, ∃ y1 : Int, Zone.le h z1 ∧ Fr a 81 [(0, .slice o_x0 x0.length c_x0), (1, .slice o_x1 x1.length c_x1), (2, vI x2), (6, pB b1 0), (7, vI y1)] ∧ St z1 (box b1 [vI 0, vI 0, vI 0] 56 :: L) w ∧ (F30_l1 fuel x0 x1 x2 n y1) = some r) fuel ⟨h, 0, (Zone.le_refl _), hf3, hS1, hr⟩ ?_
 rintro n2 a3 ww2 ⟨z1, y1, k2, hf4, hS2, hr1⟩
 cases n2 with
 | zero => cases hr1
 | succ n1 =>
 refine w_seq (by kernel_rfl) ?_
 refine w_mid (by kernel_rfl) (fun a w => ∃ z2 : Zone, ∃ y2 : Bool, Zone.le z1 z2 ∧ Fr a 81 [(0, .slice o_x0 x0.length c_x0), (1, .slice o_x1 x1.length c_x1), (2, vI x2), (6, pB b1 0), (7, vI y1), (24, .bool y2)] ∧ St z2 (box b1 [vI 0, vI 0, vI 0] 56 :: L) w ∧ (F30_j1 fuel (F30_l1 fuel x0 x1 x2 n1) x0 x1 x2 y1 y2) = some r) ?_ ?_
 ·skip
  refine w_reg (by kernel_rfl) ?_
  refine p_qn 6 [] [(0, .slice o_x0 x0.length c_x0), (1, .slice o_x1 x1.length c_x1), (2, vI x2), (6, pB b1 0), (7, vI y1), (16, .bool (decide ((w64 (y1 + (1 : Int))) < (x0.length : Int))))] [] hf4 (by kernel_rfl) .nil fun a4 hf5 => ?_
  rcases Bool.eq_false_or_eq_true (decide ((w64 (y1 + (1 : Int))) < (x0.length : Int))) with hb1 | hb1
  ·have hr2 := cond_t hb1 hr1
   have hf6 := Fr.conv hf5 (congrArg (fun z => ([(0, .slice o_x0 x0.length c_x0), (1, .slice o_x1 x1.length c_x1), (2, vI x2), (6, pB b1 0), (7, vI y1), (16, .bool z)] : FL)) hb1)
   obtain ⟨p9, hp795, hr3⟩ := bind_some hr2
   obtain ⟨ad1, ho1, hb2, cc1, hc1, hk1⟩ := SliceR.getI (SliceR.mono k2 hx_x0) hp795
   subst hc1
   refine p_qt [.pointer (some ad1), vI p9] [(0, .slice o_x0 x0.length c_x0), (1, .slice o_x1 x1.length c_x1), (2, vI x2), (6, pB b1 0), (7, vI y1), (17, .slice o_x0 x0.length c_x0), (18, vI y1), (19, vI (w64 (y1 + (1 : Int)))), (20, .pointer (some (ad1.add (Int.toNat (w64 (y1 + (1 : Int))) * 1)))), (21, vI p9), (22, vI x2), (23, .bool (decide (p9 ≤ x2))), (24, .bool (decide (p9 ≤ x2)))] [.prop (o_x0 = some ad1), .prop (0 ≤ (w64 (y1 + (1 : Int))) ∧ (w64 (y1 + (1 : Int))) < (x0.length : Nat)), .cell ((ad1.add (Int.toNat (w64 (y1 + (1 : Int))) * 1)).add 0) (vI p9)] hf6 (by kernel_rfl) (.prop ho1 (.prop hb2 (.cell (hS2.cell (hk1 0 _ rfl)) .nil))) fun a5 hf7 => ?_
   have hf8 := Fr.keep (ks := [0, 1, 2, 6, 7, 24]) (r := [(0, .slice o_x0 x0.length c_x0), (1, .slice o_x1 x1.length c_x1), (2, vI x2), (6, pB b1 0), (7, vI y1), (24, .bool (decide (p9 ≤ x2)))]) hf7 (by kernel_rfl)
   exact ⟨z1, (decide (p9 ≤ x2)), (Zone.le_refl _), hf8, hS2, hr3⟩
  ·have hr4 := cond_f hb1 hr1
   have hf9 := Fr.conv hf5 (congrArg (fun z => ([(0, .slice o_x0 x0.length c_x0), (1, .slice o_x1 x1.length c_x1), (2, vI x2), (6, pB b1 0), (7, vI y1), (16, .bool z)] : FL)) hb1)
   refine p_qt [] [(0, .slice o_x0 x0.length c_x0), (1, .slice o_x1 x1.length c_x1), (2, vI x2), (6, pB b1 0), (7, vI y1), (17, undef), (18, undef), (19, undef), (20, undef), (21, undef), (22, undef), (23, undef), (24, .bool false)] [] hf9 (by kernel_rfl) .nil fun a6 hf10 => ?_
   have hf11 := Fr.keep (ks := [0, 1, 2, 6, 7, 24]) (r := [(0, .slice o_x0 x0.length c_x0), (1, .slice o_x1 x1.length c_x1), (2, vI x2), (6, pB b1 0), (7, vI y1), (24, .bool false)]) hf10 (by kernel_rfl)
   exact ⟨z1, false, (Zone.le_refl _), hf11, hS2, hr4⟩
 ·rintro a7 ww3 ⟨z2, y2, k3, hf12, hS3, hr5⟩
  refine w_if hf12 (b := y2) (by kernel_rfl) (fun hb3 => ?_) (fun hb3 => ?_)
  ·have hr6 := cond_t hb3 hr5
   refine w_skip (by kernel_rfl) ?_
   refine n_then ?_
   refine w_block (id := 1) (by kernel_rfl) ?_
   refine w_q [] [(0, .slice o_x0 x0.length c_x0), (1, .slice o_x1 x1.length c_x1), (2, vI x2), (6, pB b1 0), (7, vI (w64 (y1 + (1 : Int))))] [] hf12 (by kernel_rfl) .nil fun a8 hf13 => ?_
   refine n_block ?_
   refine n_then ?_
   have hf14 := Fr.keep (ks := [0, 1, 2, 6, 7]) (r := [(0, .slice o_x0 x0.length c_x0), (1, .slice o_x1 x1.length c_x1), (2, vI x2), (6, pB b1 0), (7, vI (w64 (y1 + (1 : Int))))]) hf13 (by kernel_rfl)
   exact ⟨n1, Nat.lt_succ_self n1, z2, (w64 (y1 + (1 : Int))), (Zone.le_trans k2 k3), hf14, hS3, hr6⟩
  ·have hr7 := cond_f hb3 hr5
   refine w_exit (id := 0) (by kernel_rfl) ?_
   refine x_then ?_
   refine x_then ?_
   refine x_block ?_
   refine n_then ?_
   refine w_seq (by kernel_rfl) ?_
   obtain ⟨p1, hp847, hr8⟩ := bind_some hr7
   obtain ⟨ad2, ho2, hb4, cc2, hc2, hk2⟩ := SliceR.getI (SliceR.mono (Zone.le_trans k2 k3) hx_x0) hp847
   subst hc2
   refine w_sq [.pointer (some ad2), vI p1] [(0, .slice o_x0 x0.length c_x0), (1, .slice o_x1 x1.length c_x1), (2, vI x2), (6, pB b1 0), (7, vI y1), (32, .bool (p1 == x2))] [.prop (o_x0 = some ad2), .prop (0 ≤ y1 ∧ y1 < (x0.length : Nat)), .cell ((ad2.add (Int.toNat y1 * 1)).add 0) (vI p1)] hf12 (by kernel_rfl) (.prop ho2 (.prop hb4 (.cell (hS3.cell (hk2 0 _ rfl)) .nil))) fun a9 hf15 => ?_
   refine w_if hf15 (b := (p1 == x2)) (by kernel_rfl) (fun hb5 => ?_) (fun hb5 => ?_)
   ·have hr9 := cond_t hb5 hr8
    refine w_sr (by kernel_rfl) ?_
    obtain ⟨p2, hp861, hr10⟩ := bind_some hr9
    obtain ⟨ad3, ho3, hb6, cc3, hc3, hk3⟩ := SliceR.getI (SliceR.mono (Zone.le_trans k2 k3) hx_x1) hp861
    subst hc3
    refine p_qn 5 [.pointer (some ad3), vI p2] [(6, pB b1 0), (37, .agg #[vI p2, vI 0, vI 1])] [.prop (o_x1 = some ad3), .prop (0 ≤ y1 ∧ y1 < (x1.length : Nat)), .cell ((ad3.add (Int.toNat y1 * 1)).add 0) (vI p2)] hf15 (by kernel_rfl) (.prop ho3 (.prop hb6 (.cell (hS3.cell (hk3 0 _ rfl)) .nil))) fun a10 hf16 => ?_
    refine p_store_eq (i := 5) (j := 0) (b := b1) (off := 0) (vs := [vI p2, vI 0, vI 1]) (cs' := [vI p2, vI 0, vI 1]) hS3 hf16 rfl (by kernel_rfl) (by kernel_rfl) rfl fun ww4 a11 hS4 hf17 => ⟨fun _ => trivial, ?_⟩
    refine p_dt (by kernel_rfl) ?_
    refine w_ret (by kernel_rfl) ?_
    refine r_then ?_
    refine p_ret (os := [vI p2, vI 0, vI 1]) (v := .agg #[vI p2, vI 0, vI 1]) (obs := [.cell ⟨b1, 0, none⟩ (vI p2), .cell ⟨b1, 1, none⟩ (vI 0), .cell ⟨b1, 2, none⟩ (vI 1)]) hf17 (by kernel_rfl) (.cell (hS4.box (i := 0) rfl (j := 0) rfl) (.cell (hS4.box (i := 0) rfl (j := 1) rfl) (.cell (hS4.box (i := 0) rfl (j := 2) rfl) .nil))) ?_
    obtain rfl := some_eq hr10
    exact ⟨_, rfl, z2, (Zone.le_trans k2 k3), rfl, (St.drop 1 hS4)⟩
   ·have hr11 := cond_f hb5 hr8
    refine w_skip (by kernel_rfl) ?_
    refine n_then ?_
    have hS5 := hS3.drew
    obtain ⟨p3, hp877, hr12⟩ := bind_some hr11
    obtain ⟨ad4, ho4, hb7, cc4, hc4, hk4⟩ := SliceR.getI (SliceR.mono (Zone.le_trans k2 k3) hx_x0) hp877
    subst hc4
    obtain ⟨p4, hp886, hr13⟩ := bind_some hr12
    obtain ⟨ad5, ho5, hb8, cc5, hc5, hk5⟩ := SliceR.getI (SliceR.mono (Zone.le_trans k2 k3) hx_x0) hp886
    subst hc5
    refine w_sqD [(0, true), (1, true), (2, true), (3, true), (4, true), (5, true), (6, true), (7, true), (8, true), (9, true), (10, true)] [] [.pointer (some ad4), vI p3, .pointer (some ad5), vI p4] [(0, .slice o_x0 x0.length c_x0), (1, .slice o_x1 x1.length c_x1), (2, vI x2), (6, pB b1 0), (7, vI y1), (8, vI (w64 (p3 - p4)))] [.prop (o_x0 = some ad4), .prop (0 ≤ (w64 (y1 + (1 : Int))) ∧ (w64 (y1 + (1 : Int))) < (x0.length : Nat)), .cell ((ad4.add (Int.toNat (w64 (y1 + (1 : Int))) * 1)).add 0) (vI p3), .prop (o_x0 = some ad5), .prop (0 ≤ y1 ∧ y1 < (x0.length : Nat)), .cell ((ad5.add (Int.toNat y1 * 1)).add 0) (vI p4)] [] hf15 (by kernel_rfl) (.prop ho4 (.prop hb7 (.cell (hS5.cell (hk4 0 _ rfl)) (.prop ho5 (.prop hb8 (.cell (hS5.cell (hk5 0 _ rfl)) .nil)))))) .nil fun a12 hf18 => ?_
    have hS6 := hS5.drew
    obtain ⟨p5, hp898, hr14⟩ := bind_some hr13
    obtain ⟨ad6, ho6, hb9, cc6, hc6, hk6⟩ := SliceR.getI (SliceR.mono (Zone.le_trans k2 k3) hx_x1) hp898
    subst hc6
    obtain ⟨p6, hp907, hr15⟩ := bind_some hr14
    obtain ⟨ad7, ho7, hb10, cc7, hc7, hk7⟩ := SliceR.getI (SliceR.mono (Zone.le_trans k2 k3) hx_x1) hp907
    subst hc7
    obtain ⟨p7, hp916, hr16⟩ := bind_some hr15
    obtain ⟨ad8, ho8, hb11, cc8, hc8, hk8⟩ := SliceR.getI (SliceR.mono (Zone.le_trans k2 k3) hx_x0) hp916
    subst hc8
    refine w_sqD [(0, true), (1, true), (2, true), (3, true), (4, true), (5, true), (6, true), (7, true), (8, true), (9, true), (10, true), (11, true), (12, true), (13, true), (14, true), (15, true), (16, true), (17, true)] [] [.pointer (some ad6), vI p5, .pointer (some ad7), vI p6, .pointer (some ad8), vI p7] [(1, .slice o_x1 x1.length c_x1), (6, pB b1 0), (7, vI y1), (8, vI (w64 (p3 - p4))), (9, vI (w64 ((w64 (p5 - p6)) * (w64 (x2 - p7)))))] [.prop (o_x1 = some ad6), .prop (0 ≤ (w64 (y1 + (1 : Int))) ∧ (w64 (y1 + (1 : Int))) < (x1.length : Nat)), .cell ((ad6.add (Int.toNat (w64 (y1 + (1 : Int))) * 1)).add 0) (vI p5), .prop (o_x1 = some ad7), .prop (0 ≤ y1 ∧ y1 < (x1.length : Nat)), .cell ((ad7.add (Int.toNat y1 * 1)).add 0) (vI p6), .prop (o_x0 = some ad8), .prop (0 ≤ y1 ∧ y1 < (x0.length : Nat)), .cell ((ad8.add (Int.toNat y1 * 1)).add 0) (vI p7)] [] hf18 (by kernel_rfl) (.prop ho6 (.prop hb9 (.cell (hS6.cell (hk6 0 _ rfl)) (.prop ho7 (.prop hb10 (.cell (hS6.cell (hk7 0 _ rfl)) (.prop ho8 (.prop hb11 (.cell (hS6.cell (hk8 0 _ rfl)) .nil))))))))) .nil fun a13 hf19 => ?_
    refine w_sr (by kernel_rfl) ?_
    refine p_qn 2 [] [(1, .slice o_x1 x1.length c_x1), (6, pB b1 0), (7, vI y1), (8, vI (w64 (p3 - p4))), (9, vI (w64 ((w64 (p5 - p6)) * (w64 (x2 - p7))))), (65, vI (w64 ((w64 (p5 - p6)) * (w64 (x2 - p7))))), (66, vI (w64 (p3 - p4)))] [] hf19 (by kernel_rfl) .nil fun a14 hf20 => ?_
    obtain ⟨r1, hd1, hr17⟩ := bind_some hr16
    refine p_call (i := 2) (d := some 67) (f := 100) (args := #[vI (w64 ((w64 (p5 - p6)) * (w64 (x2 - p7)))), vI (w64 (p3 - p4))]) hf20 (by kernel_rfl) (f100_ok fuel (w64 ((w64 (p5 - p6)) * (w64 (x2 - p7)))) (w64 (p3 - p4)) r1 hd1 z2 _ _ hS6 ) ?_
    rintro v1 ww5 a15 ⟨z3, k4, rfl, hS7⟩ hf21
    refine ⟨fun _ => trivial, ?_⟩
    refine p_qt [] [(1, .slice o_x1 x1.length c_x1), (6, pB b1 0), (7, vI y1), (8, vI (w64 (p3 - p4))), (9, vI (w64 ((w64 (p5 - p6)) * (w64 (x2 - p7))))), (10, vI r1)] [] hf21 (by kernel_rfl) .nil fun a16 hf22 => ?_
    refine w_sr (by kernel_rfl) ?_
    obtain ⟨p8, hp946, hr18⟩ := bind_some hr17
    obtain ⟨ad9, ho9, hb12, cc9, hc9, hk9⟩ := SliceR.getI (SliceR.mono (Zone.le_trans (Zone.le_trans k2 k3) k4) hx_x1) hp946
    subst hc9
    refine p_qn 13 [.pointer (some ad9), vI p8] [(6, pB b1 0), (80, .agg #[vI (w64 (p8 + r1)), vI (w64 ((w64 ((w64 (p5 - p6)) * (w64 (x2 - p7)))) - (w64 (r1 * (w64 (p3 - p4)))))), vI (w64 (p3 - p4))])] [.prop (o_x1 = some ad9), .prop (0 ≤ y1 ∧ y1 < (x1.length : Nat)), .cell ((ad9.add (Int.toNat y1 * 1)).add 0) (vI p8)] hf22 (by kernel_rfl) (.prop ho9 (.prop hb12 (.cell (hS7.cell (hk9 0 _ rfl)) .nil))) fun a17 hf23 => ?_
    refine p_store_eq (i := 13) (j := 0) (b := b1) (off := 0) (vs := [vI (w64 (p8 + r1)), vI (w64 ((w64 ((w64 (p5 - p6)) * (w64 (x2 - p7)))) - (w64 (r1 * (w64 (p3 - p4)))))), vI (w64 (p3 - p4))]) (cs' := [vI (w64 (p8 + r1)), vI (w64 ((w64 ((w64 (p5 - p6)) * (w64 (x2 - p7)))) - (w64 (r1 * (w64 (p3 - p4)))))), vI (w64 (p3 - p4))]) hS7 hf23 rfl (by kernel_rfl) (by kernel_rfl) rfl fun ww6 a18 hS8 hf24 => ⟨fun _ => trivial, ?_⟩
    refine p_dt (by kernel_rfl) ?_
    refine w_ret (by kernel_rfl) ?_
    refine p_ret (os := [vI (w64 (p8 + r1)), vI (w64 ((w64 ((w64 (p5 - p6)) * (w64 (x2 - p7)))) - (w64 (r1 * (w64 (p3 - p4)))))), vI (w64 (p3 - p4))]) (v := .agg #[vI (w64 (p8 + r1)), vI (w64 ((w64 ((w64 (p5 - p6)) * (w64 (x2 - p7)))) - (w64 (r1 * (w64 (p3 - p4)))))), vI (w64 (p3 - p4))]) (obs := [.cell ⟨b1, 0, none⟩ (vI (w64 (p8 + r1))), .cell ⟨b1, 1, none⟩ (vI (w64 ((w64 ((w64 (p5 - p6)) * (w64 (x2 - p7)))) - (w64 (r1 * (w64 (p3 - p4))))))), .cell ⟨b1, 2, none⟩ (vI (w64 (p3 - p4)))]) hf24 (by kernel_rfl) (.cell (hS8.box (i := 0) rfl (j := 0) rfl) (.cell (hS8.box (i := 0) rfl (j := 1) rfl) (.cell (hS8.box (i := 0) rfl (j := 2) rfl) .nil))) ?_
    obtain rfl := some_eq hr18
    exact ⟨_, rfl, z3, (Zone.le_trans (Zone.le_trans k2 k3) k4), rfl, (St.drop 1 hS8)⟩
def F80_l1 (x0 : List Pt) : Nat → (List Int) → (List Int) → (List Int) → Int → Option (List Int × List Int × List Int)
  | 0, _, _, _, _ => none
  | n1 + 1, y1, y2, y3, y4 =>
    let k1 : (List Int) → (List Int) → (List Int) → Int → Option (List Int × List Int × List Int) := F80_l1 x0 n1
    (cond (decide (y4 < (x0.length : Int))) ((getI x0 y4).bind fun p1 => ((appC y3 ([p1.x])).bind fun d1 => ((appC y2 ([p1.lo])).bind fun d2 => ((appC y1 ([p1.hi])).bind fun d3 => (k1 d3 d2 d1 (w64 (y4 + (1 : Int)))))))) (some (y3, y2, y1)))
def F80 (fuel : Nat) (x0 : List Pt) : Option (List Int × List Int × List Int) :=
  (F80_l1 x0 fuel ([]) ([]) ([]) 0)
set_option maxRecDepth 100000 in
theorem f80_ok (fuel : Nat) (x0 : List Pt) (r : List Int × List Int × List Int) (hr : F80 fuel x0 = some r) (h : Zone) (L : List Atom) (w : World) (hS : St h L w) (o_x0 : Option Addr) (c_x0 : Nat) (hx_x0 : SliceR PtT h o_x0 c_x0 x0) :
    Calls Try.prog 80 #[.agg #[.slice o_x0 x0.length c_x0]] w fun e w' => ∃ v, e = .returned v ∧ (∃ h', ∃ o0 : Option Addr, ∃ c0 : Nat, ∃ o1 : Option Addr, ∃ c1 : Nat, ∃ o2 : Option Addr, ∃ c2 : Nat, Zone.le h h' ∧ v = .tuple #[.slice o0 r.1.length c0, .slice o1 r.2.1.length c1, .slice o2 r.2.2.length c2] ∧ St h' L w' ∧ SliceR Ty.int h' o0 c0 r.1 ∧ SliceR Ty.int h' o1 c1 r.2.1 ∧ SliceR Ty.int h' o2 c2 r.2.2) := by
 refine calls_intro (N := 36) Try.func80 (by kernel_rfl) fun a hf => ?_
 refine w_sr (by kernel_rfl) ?_
 refine p_box (i := 0) (d := (some 1)) (cs := [.slice o_x0 x0.length c_x0]) (T := 24) (v := fun b1 => pB b1 0) hS hf (fun b => by kernel_rfl) fun b1 ww1 a1 hS1 hf1 => ⟨fun _ => trivial, ?_⟩
 refine p_qt [] [(1, pB b1 0)] [] hf1 (by kernel_rfl) .nil fun a2 hf2 => ?_
 refine w_sq [] [(1, pB b1 0), (5, .slice none 0 0)] [] hf2 (by kernel_rfl) .nil fun a3 hf3 => ?_
 refine w_sq [] [(1, pB b1 0), (5, .slice none 0 0), (6, .slice none 0 0)] [] hf3 (by kernel_rfl) .nil fun a4 hf4 => ?_
 refine w_sq [] [(1, pB b1 0), (5, .slice none 0 0), (6, .slice none 0 0), (7, .slice none 0 0)] [] hf4 (by kernel_rfl) .nil fun a5 hf5 => ?_
 refine w_seq (by kernel_rfl) ?_
 refine w_sq [.slice o_x0 x0.length c_x0] [(5, .slice none 0 0), (6, .slice none 0 0), (7, .slice none 0 0), (11, .slice o_x0 x0.length c_x0), (12, vI (x0.length : Int)), (13, vI 0)] [.cell ⟨b1, 0, none⟩ (.slice o_x0 x0.length c_x0)] hf5 (by kernel_rfl) (.cell (hS1.box (i := 0) rfl (j := 0) rfl) .nil) fun a6 hf6 => ?_
 refine w_block (id := 0) (by kernel_rfl) ?_
 have hS2 := hS1.ownNil Ty.int 3
 have hS3 := hS2.ownNil Ty.int 3
 have hS4 := hS3.ownNil Ty.int 3
 have hf7 := Fr.keep (ks := [5, 6, 7, 11, 12, 13]) (r := [(5, .slice none 0 0), (6, .slice none 0 0), (7, .slice none 0 0), (11, .slice o_x0 x0.length c_x0), (12, vI (x0.length : Int)), (13, vI 0)]) hf6 (by kernel_rfl)
 refine w_loop (by kernel_rfl) (fun n a w => ∃ z1 : Zone, ∃ y1 : List Int, ∃ y2 : List Int, ∃ y3 : List Int, ∃ y4 : Int, ∃ e1 : Option Addr, ∃ q1 : Nat, ∃ e2 : Option Addr, ∃ q2 : Nat, ∃ e3 : Option Addr, ∃ q3 : Nat, Zone.le h z1 ∧ Fr a 36 [(5, .slice e3 y3.length q3), (6, .slice e2 y2.length q2), (7, .slice e1 y1.length q1), (11, .slice o_x0 x0.length c_x0), (12, vI (x0.length : Int)), (13, vI y4)] ∧ St z1 (ownS Ty.int 3 e1 q1 y1 :: ownS Ty.int 3 e2 q2 y2 :: ownS Ty.int 3 e3 q3 y3 :: box b1 [.slice o_x0 x0.length c_x0] 24 :: L) w ∧ (F80_l1 x0 n y1 y2 y3 y4) = some r) fuel ⟨h, [], [], [], 0, none, 0, none, 0, none, 0, (Zone.le_refl _), hf7, hS4, hr⟩ ?_
 rintro n2 a7 ww2 ⟨z1, y1, y2, y3, y4, e1, q1, e2, q2, e3, q3, k2, hf8, hS5, hr1⟩
 cases n2 with
 | zero => cases hr1
 | succ n1 =>
 refine w_sq [] [(5, .slice e3 y3.length q3), (6, .slice e2 y2.length q2), (7, .slice e1 y1.length q1), (11, .slice o_x0 x0.length c_x0), (12, vI (x0.length : Int)), (13, vI y4), (14, .bool (decide (y4 < (x0.length : Int))))] [] hf8 (by kernel_rfl) .nil fun a8 hf9 => ?_
 refine w_seq (by kernel_rfl) ?_
 refine w_if hf9 (b := (decide (y4 < (x0.length : Int)))) (by kernel_rfl) (fun hb1 => ?_) (fun hb1 => ?_)
 ·have hr2 := cond_t hb1 hr1
  refine w_skip (by kernel_rfl) ?_
  refine n_then ?_
  refine w_seq (by kernel_rfl) ?_
  refine w_block (id := 1) (by kernel_rfl) ?_
  refine w_sr (by kernel_rfl) ?_
  obtain ⟨p1, hp1984, hr3⟩ := bind_some hr2
  obtain ⟨ad1, ho1, hb2, cc1, hc1, hk1⟩ := SliceR.getI (SliceR.mono k2 hx_x0) hp1984
  subst hc1
  refine p_qn 2 [.pointer (some ad1), vI p1.x, vI p1.lo, vI p1.hi] [(5, .slice e3 y3.length q3), (6, .slice e2 y2.length q2), (7, .slice e1 y1.length q1), (11, .slice o_x0 x0.length c_x0), (12, vI (x0.length : Int)), (13, vI y4), (16, .agg #[vI p1.x, vI p1.lo, vI p1.hi])] [.prop (o_x0 = some ad1), .prop (0 ≤ y4 ∧ y4 < (x0.length : Nat)), .cell ((ad1.add (Int.toNat y4 * 3)).add 0) (vI p1.x), .cell ((ad1.add (Int.toNat y4 * 3)).add 1) (vI p1.lo), .cell ((ad1.add (Int.toNat y4 * 3)).add 2) (vI p1.hi)] hf9 (by kernel_rfl) (.prop ho1 (.prop hb2 (.cell (hS5.cell (hk1 0 _ rfl)) (.cell (hS5.cell (hk1 1 _ rfl)) (.cell (hS5.cell (hk1 2 _ rfl)) .nil))))) fun a9 hf10 => ?_
  refine p_box (i := 2) (d := (some 9)) (cs := [vI 0, vI 0, vI 0]) (T := 52) (v := fun b2 => pB b2 0) hS5 hf10 (fun b => by kernel_rfl) fun b2 ww3 a10 hS6 hf11 => ⟨fun _ => trivial, ?_⟩
  refine p_store_eq (i := 3) (j := 0) (b := b2) (off := 0) (vs := [vI p1.x, vI p1.lo, vI p1.hi]) (cs' := [vI p1.x, vI p1.lo, vI p1.hi]) hS6 hf11 rfl (by kernel_rfl) (by kernel_rfl) rfl fun ww4 a11 hS7 hf12 => ⟨fun _ => trivial, ?_⟩
  refine p_dt (by kernel_rfl) ?_
  refine w_sr (by kernel_rfl) ?_
  refine p_qn 3 [vI p1.x] [(6, .slice e2 y2.length q2), (7, .slice e1 y1.length q1), (9, pB b2 0), (11, .slice o_x0 x0.length c_x0), (12, vI (x0.length : Int)), (13, vI y4), (17, .slice e3 y3.length q3), (19, vI p1.x)] [.cell ⟨b2, 0, none⟩ (vI p1.x)] hf12 (by kernel_rfl) (.cell (hS7.box (i := 0) rfl (j := 0) rfl) .nil) fun a12 hf13 => ?_
  refine p_box (i := 3) (d := (some 20)) (cs := [vI p1.x]) (T := 3) (v := fun b3 => .slice (some ⟨b3, 0, none⟩) 1 1) hS7 hf13 (fun b => by kernel_rfl) fun b3 ww5 a13 hS8 hf14 => ⟨fun _ => trivial, ?_⟩
  have hS9 := hS8.ownBox (T := Ty.int) (E := 3) (n := 1) (xs := [p1.x]) (i := 0) rfl (Rows.cons (c := [vI p1.x]) rfl rfl) rfl (by decide)
  obtain ⟨d1, hd1, hr4⟩ := bind_some hr3
  refine p_append (T := Ty.int) (i := 4) (j := 4) (d := some 21) (o2 := (some ⟨b3, 0, none⟩)) (c2 := 1) (ys := ([p1.x])) el25 hS9 hf14 rfl (by kernel_rfl) (hS9.ownSrc (j := 0) rfl) hd1 fun e4 q4 ww6 a14 hS10 hf15 => ⟨fun _ => trivial, ?_⟩
  refine p_qt [] [(5, .slice e4 d1.length q4), (6, .slice e2 y2.length q2), (7, .slice e1 y1.length q1), (9, pB b2 0), (11, .slice o_x0 x0.length c_x0), (12, vI (x0.length : Int)), (13, vI y4)] [] hf15 (by kernel_rfl) .nil fun a15 hf16 => ?_
  refine w_sr (by kernel_rfl) ?_
  refine p_qn 3 [vI p1.lo] [(5, .slice e4 d1.length q4), (7, .slice e1 y1.length q1), (9, pB b2 0), (11, .slice o_x0 x0.length c_x0), (12, vI (x0.length : Int)), (13, vI y4), (22, .slice e2 y2.length q2), (24, vI p1.lo)] [.cell ⟨b2, 1, none⟩ (vI p1.lo)] hf16 (by kernel_rfl) (.cell (hS10.box (i := 1) rfl (j := 1) rfl) .nil) fun a16 hf17 => ?_
  refine p_box (i := 3) (d := (some 25)) (cs := [vI p1.lo]) (T := 3) (v := fun b4 => .slice (some ⟨b4, 0, none⟩) 1 1) hS10 hf17 (fun b => by kernel_rfl) fun b4 ww7 a17 hS11 hf18 => ⟨fun _ => trivial, ?_⟩
  have hS12 := hS11.ownBox (T := Ty.int) (E := 3) (n := 1) (xs := [p1.lo]) (i := 0) rfl (Rows.cons (c := [vI p1.lo]) rfl rfl) rfl (by decide)
  obtain ⟨d2, hd2, hr5⟩ := bind_some hr4
  refine p_append (T := Ty.int) (i := 4) (j := 4) (d := some 26) (o2 := (some ⟨b4, 0, none⟩)) (c2 := 1) (ys := ([p1.lo])) el25 hS12 hf18 rfl (by kernel_rfl) (hS12.ownSrc (j := 0) rfl) hd2 fun e5 q5 ww8 a18 hS13 hf19 => ⟨fun _ => trivial, ?_⟩
  refine p_qt [] [(5, .slice e4 d1.length q4), (6, .slice e5 d2.length q5), (7, .slice e1 y1.length q1), (9, pB b2 0), (11, .slice o_x0 x0.length c_x0), (12, vI (x0.length : Int)), (13, vI y4)] [] hf19 (by kernel_rfl) .nil fun a19 hf20 => ?_
  refine w_reg (by kernel_rfl) ?_
  refine p_qn 3 [vI p1.hi] [(5, .slice e4 d1.length q4), (6, .slice e5 d2.length q5), (11, .slice o_x0 x0.length c_x0), (12, vI (x0.length : Int)), (13, vI y4), (27, .slice e1 y1.length q1), (29, vI p1.hi)] [.cell ⟨b2, 2, none⟩ (vI p1.hi)] hf20 (by kernel_rfl) (.cell (hS13.box (i := 2) rfl (j := 2) rfl) .nil) fun a20 hf21 => ?_
  refine p_box (i := 3) (d := (some 30)) (cs := [vI p1.hi]) (T := 3) (v := fun b5 => .slice (some ⟨b5, 0, none⟩) 1 1) hS13 hf21 (fun b => by kernel_rfl) fun b5 ww9 a21 hS14 hf22 => ⟨fun _ => trivial, ?_⟩
  have hS15 := hS14.ownBox (T := Ty.int) (E := 3) (n := 1) (xs := [p1.hi]) (i := 0) rfl (Rows.cons (c := [vI p1.hi]) rfl rfl) rfl (by decide)
  obtain ⟨d3, hd3, hr6⟩ := bind_some hr5
  refine p_append (T := Ty.int) (i := 4) (j := 4) (d := some 31) (o2 := (some ⟨b5, 0, none⟩)) (c2 := 1) (ys := ([p1.hi])) el25 hS15 hf22 rfl (by kernel_rfl) (hS15.ownSrc (j := 0) rfl) hd3 fun e6 q6 ww10 a22 hS16 hf23 => ⟨fun _ => trivial, ?_⟩
  refine p_qz [] [(5, .slice e4 d1.length q4), (6, .slice e5 d2.length q5), (7, .slice e6 d3.length q6), (11, .slice o_x0 x0.length c_x0), (12, vI (x0.length : Int)), (13, vI y4)] [] hf23 (by kernel_rfl) .nil fun a23 hf24 => ?_
  refine n_block ?_
  refine n_then ?_
  refine w_q [] [(5, .slice e4 d1.length q4), (6, .slice e5 d2.length q5), (7, .slice e6 d3.length q6), (11, .slice o_x0 x0.length c_x0), (12, vI (x0.length : Int)), (13, vI (w64 (y4 + (1 : Int))))] [] hf24 (by kernel_rfl) .nil fun a24 hf25 => ?_
  refine n_then ?_
  have hf26 := Fr.keep (ks := [5, 6, 7, 11, 12, 13]) (r := [(5, .slice e4 d1.length q4), (6, .slice e5 d2.length q5), (7, .slice e6 d3.length q6), (11, .slice o_x0 x0.length c_x0), (12, vI (x0.length : Int)), (13, vI (w64 (y4 + (1 : Int))))]) hf25 (by kernel_rfl)
  exact ⟨n1, Nat.lt_succ_self n1, z1, d3, d2, d1, (w64 (y4 + (1 : Int))), e6, q6, e5, q5, e4, q4, k2, hf26, (St.drop 4 hS16), hr6⟩
 ·have hr7 := cond_f hb1 hr1
  refine w_exit (id := 0) (by kernel_rfl) ?_
  refine x_then ?_
  refine x_then ?_
  refine x_block ?_
  refine n_then ?_
  refine w_sq [] [(2, .slice e3 y3.length q3), (3, .slice e2 y2.length q2), (4, .slice e1 y1.length q1)] [] hf9 (by kernel_rfl) .nil fun a25 hf27 => ?_
  refine w_ret (by kernel_rfl) ?_
  obtain ⟨z2, k3, hS17, hx1⟩ := hS5.share (j := 2) rfl
  obtain ⟨z3, k4, hS18, hx2⟩ := hS17.share (j := 1) rfl
  obtain ⟨z4, k5, hS19, hx3⟩ := hS18.share (j := 0) rfl
  refine p_ret (os := []) (v := .tuple #[.slice e3 y3.length q3, .slice e2 y2.length q2, .slice e1 y1.length q1]) (obs := []) hf27 (by kernel_rfl) .nil ?_
  obtain rfl := some_eq hr7
  exact ⟨_, rfl, z4, e3, q3, e2, q2, e1, q1, (Zone.le_trans (Zone.le_trans (Zone.le_trans k2 k3) k4) k5), rfl, (St.drop 4 hS19), (SliceR.mono (Zone.le_trans k4 k5) hx1), (SliceR.mono k5 hx2), hx3⟩
def F92 (fuel : Nat) (x0 : List Pt) (x1 : Int) : Option (Int × Int) :=
  ((F80 fuel x0).bind fun r1 => ((F30 fuel r1.1 r1.2.1 x1).bind fun r2 => ((F30 fuel r1.1 r1.2.2 x1).bind fun r3 => ((F122 fuel r3.1 r3.2.1 r3.2.2).bind fun r4 => (some (r2.1, r4))))))
set_option maxRecDepth 100000 in
theorem f92_ok (fuel : Nat) (x0 : List Pt) (x1 : Int) (r : Int × Int) (hr : F92 fuel x0 x1 = some r) (h : Zone) (L : List Atom) (w : World) (hS : St h L w) (o_x0 : Option Addr) (c_x0 : Nat) (hx_x0 : SliceR PtT h o_x0 c_x0 x0) :
    Calls Try.prog 92 #[.agg #[.slice o_x0 x0.length c_x0], vI x1] w fun e w' => ∃ v, e = .returned v ∧ (∃ h', Zone.le h h' ∧ v = .agg #[vI r.1, vI r.2] ∧ St h' L w') := by
 refine calls_intro (N := 25) Try.func92 (by kernel_rfl) fun a hf => ?_
 refine w_sr (by kernel_rfl) ?_
 refine p_box (i := 0) (d := (some 2)) (cs := [.slice o_x0 x0.length c_x0]) (T := 24) (v := fun b1 => pB b1 0) hS hf (fun b => by kernel_rfl) fun b1 ww1 a1 hS1 hf1 => ⟨fun _ => trivial, ?_⟩
 refine p_box (i := 1) (d := (some 4)) (cs := [vI 0, vI 0]) (T := 41) (v := fun b2 => pB b2 0) hS1 hf1 (fun b => by kernel_rfl) fun b2 ww2 a2 hS2 hf2 => ⟨fun _ => trivial, ?_⟩
 refine p_dt (by kernel_rfl) ?_
 refine w_sr (by kernel_rfl) ?_
 refine p_qn 1 [.slice o_x0 x0.length c_x0] [(1, vI x1), (4, pB b2 0), (9, .agg #[.slice o_x0 x0.length c_x0])] [.cell ⟨b1, 0, none⟩ (.slice o_x0 x0.length c_x0)] hf2 (by kernel_rfl) (.cell (hS2.box (i := 1) rfl (j := 0) rfl) .nil) fun a3 hf3 => ?_
 obtain ⟨r1, hd1, hr1⟩ := bind_some hr
 refine p_call (i := 1) (d := some 10) (f := 80) (args := #[.agg #[.slice o_x0 x0.length c_x0]]) hf3 (by kernel_rfl) (f80_ok fuel x0 r1 hd1 h _ _ hS2 o_x0 c_x0 hx_x0) ?_
 rintro v1 ww3 a4 ⟨z1, e1, q1, e2, q2, e3, q3, k1, rfl, hS3, hx1, hx2, hx3⟩ hf4
 refine ⟨fun _ => trivial, ?_⟩
 refine p_qt [] [(1, vI x1), (4, pB b2 0), (5, .slice e1 r1.1.length q1), (6, .slice e2 r1.2.1.length q2), (7, .slice e3 r1.2.2.length q3)] [] hf4 (by kernel_rfl) .nil fun a5 hf5 => ?_
 refine w_sr (by kernel_rfl) ?_
 refine p_qn 3 [] [(1, vI x1), (4, pB b2 0), (5, .slice e1 r1.1.length q1), (7, .slice e3 r1.2.2.length q3), (14, .slice e1 r1.1.length q1), (15, .slice e2 r1.2.1.length q2), (16, vI x1)] [] hf5 (by kernel_rfl) .nil fun a6 hf6 => ?_
 obtain ⟨r2, hd2, hr2⟩ := bind_some hr1
 refine p_call (i := 3) (d := some 17) (f := 30) (args := #[.slice e1 r1.1.length q1, .slice e2 r1.2.1.length q2, vI x1]) hf6 (by kernel_rfl) (f30_ok fuel r1.1 r1.2.1 x1 r2 hd2 z1 _ _ hS3 e1 q1 hx1 e2 q2 hx2) ?_
 rintro v2 ww4 a7 ⟨z2, k2, rfl, hS4⟩ hf7
 refine ⟨fun _ => trivial, ?_⟩
 refine p_qn 4 [] [(4, pB b2 0), (18, vI r2.1), (19, .slice e1 r1.1.length q1), (20, .slice e3 r1.2.2.length q3), (21, vI x1)] [] hf7 (by kernel_rfl) .nil fun a8 hf8 => ?_
 obtain ⟨r3, hd3, hr3⟩ := bind_some hr2
 refine p_call (i := 8) (d := some 22) (f := 30) (args := #[.slice e1 r1.1.length q1, .slice e3 r1.2.2.length q3, vI x1]) hf8 (by kernel_rfl) (f30_ok fuel r1.1 r1.2.2 x1 r3 hd3 z2 _ _ hS4 e1 q1 (SliceR.mono k2 hx1) e3 q3 (SliceR.mono k2 hx3)) ?_
 rintro v3 ww5 a9 ⟨z3, k3, rfl, hS5⟩ hf9
 refine ⟨fun _ => trivial, ?_⟩
 obtain ⟨r4, hd4, hr4⟩ := bind_some hr3
 refine p_call (i := 9) (d := some 23) (f := 122) (args := #[.agg #[vI r3.1, vI r3.2.1, vI r3.2.2]]) hf9 (by kernel_rfl) (f122_ok fuel r3.1 r3.2.1 r3.2.2 r4 hd4 z3 _ _ hS5 ) ?_
 rintro v4 ww6 a10 ⟨rfl, hS6⟩ hf10
 refine ⟨fun _ => trivial, ?_⟩
 refine p_qn 1 [] [(4, pB b2 0), (24, .agg #[vI r2.1, vI r4])] [] hf10 (by kernel_rfl) .nil fun a11 hf11 => ?_
 refine p_store_eq (i := 11) (j := 0) (b := b2) (off := 0) (vs := [vI r2.1, vI r4]) (cs' := [vI r2.1, vI r4]) hS6 hf11 rfl (by kernel_rfl) (by kernel_rfl) rfl fun ww7 a12 hS7 hf12 => ⟨fun _ => trivial, ?_⟩
 refine p_dt (by kernel_rfl) ?_
 refine w_ret (by kernel_rfl) ?_
 refine p_ret (os := [vI r2.1, vI r4]) (v := .agg #[vI r2.1, vI r4]) (obs := [.cell ⟨b2, 0, none⟩ (vI r2.1), .cell ⟨b2, 1, none⟩ (vI r4)]) hf12 (by kernel_rfl) (.cell (hS7.box (i := 0) rfl (j := 0) rfl) (.cell (hS7.box (i := 0) rfl (j := 1) rfl) .nil)) ?_
 obtain rfl := some_eq hr4
 exact ⟨_, rfl, z3, (Zone.le_trans (Zone.le_trans k1 k2) k3), rfl, (St.drop 2 hS7)⟩
def F64 (fuel : Nat) (x0 : List Pt) (x1 : Int) : Option (Int × Int × Int) :=
  ((F12 fuel x0).bind fun r1 => (cond (!r1) (some (0, 0, 11)) ((F91 fuel x0 x1).bind fun r2 => (cond (!r2) (some (0, 0, 4)) ((F92 fuel x0 x1).bind fun r3 => (some (r3.1, r3.2, 0)))))))
set_option maxRecDepth 100000 in
theorem f64_ok (fuel : Nat) (x0 : List Pt) (x1 : Int) (r : Int × Int × Int) (hr : F64 fuel x0 x1 = some r) (h : Zone) (L : List Atom) (w : World) (hS : St h L w) (o_x0 : Option Addr) (c_x0 : Nat) (hx_x0 : SliceR PtT h o_x0 c_x0 x0) :
    Calls Try.prog 64 #[.agg #[.slice o_x0 x0.length c_x0], vI x1] w fun e w' => ∃ v, e = .returned v ∧ (∃ h', Zone.le h h' ∧ v = .tuple #[.agg #[vI r.1, vI r.2.1], vI r.2.2] ∧ St h' L w') := by
 refine calls_intro (N := 18) Try.func64 (by kernel_rfl) fun a hf => ?_
 refine w_sr (by kernel_rfl) ?_
 refine p_box (i := 0) (d := (some 2)) (cs := [.slice o_x0 x0.length c_x0]) (T := 24) (v := fun b1 => pB b1 0) hS hf (fun b => by kernel_rfl) fun b1 ww1 a1 hS1 hf1 => ⟨fun _ => trivial, ?_⟩
 refine p_box (i := 1) (d := (some 4)) (cs := [vI 0, vI 0]) (T := 41) (v := fun b2 => pB b2 0) hS1 hf1 (fun b => by kernel_rfl) fun b2 ww2 a2 hS2 hf2 => ⟨fun _ => trivial, ?_⟩
 refine p_qt [] [(1, vI x1), (2, pB b1 0), (4, pB b2 0)] [] hf2 (by kernel_rfl) .nil fun a3 hf3 => ?_
 refine w_seq (by kernel_rfl) ?_
 refine w_sr (by kernel_rfl) ?_
 refine p_qn 1 [.slice o_x0 x0.length c_x0] [(1, vI x1), (2, pB b1 0), (4, pB b2 0), (6, .agg #[.slice o_x0 x0.length c_x0])] [.cell ⟨b1, 0, none⟩ (.slice o_x0 x0.length c_x0)] hf3 (by kernel_rfl) (.cell (hS2.box (i := 1) rfl (j := 0) rfl) .nil) fun a4 hf4 => ?_
 obtain ⟨r1, hd1, hr1⟩ := bind_some hr
 refine p_call (i := 1) (d := some 7) (f := 12) (args := #[.agg #[.slice o_x0 x0.length c_x0]]) hf4 (by kernel_rfl) (f12_ok fuel x0 r1 hd1 h _ _ hS2 o_x0 c_x0 hx_x0) ?_
 rintro v1 ww3 a5 ⟨z1, k1, rfl, hS3⟩ hf5
 refine ⟨fun _ => trivial, ?_⟩
 refine p_qt [] [(1, vI x1), (2, pB b1 0), (4, pB b2 0), (8, .bool (!r1))] [] hf5 (by kernel_rfl) .nil fun a6 hf6 => ?_
 refine w_if hf6 (b := (!r1)) (by kernel_rfl) (fun hb1 => ?_) (fun hb1 => ?_)
 ·have hr2 := cond_t hb1 hr1
  refine w_sr (by kernel_rfl) ?_
  refine p_qn 1 [] [(4, pB b2 0), (9, .agg #[vI 0, vI 0])] [] hf6 (by kernel_rfl) .nil fun a7 hf7 => ?_
  refine p_store_eq (i := 1) (j := 0) (b := b2) (off := 0) (vs := [vI 0, vI 0]) (cs' := [vI 0, vI 0]) hS3 hf7 rfl (by kernel_rfl) (by kernel_rfl) rfl fun ww4 a8 hS4 hf8 => ⟨fun _ => trivial, ?_⟩
  refine p_qt [] [(4, pB b2 0), (5, vI 11)] [] hf8 (by kernel_rfl) .nil fun a9 hf9 => ?_
  refine w_ret (by kernel_rfl) ?_
  refine r_then ?_
  refine p_ret (os := [vI 0, vI 0]) (v := .tuple #[.agg #[vI 0, vI 0], vI 11]) (obs := [.cell ⟨b2, 0, none⟩ (vI 0), .cell ⟨b2, 1, none⟩ (vI 0)]) hf9 (by kernel_rfl) (.cell (hS4.box (i := 0) rfl (j := 0) rfl) (.cell (hS4.box (i := 0) rfl (j := 1) rfl) .nil)) ?_
  obtain rfl := some_eq hr2
  exact ⟨_, rfl, z1, k1, rfl, (St.drop 2 hS4)⟩
 ·have hr3 := cond_f hb1 hr1
  refine w_skip (by kernel_rfl) ?_
  refine n_then ?_
  refine w_seq (by kernel_rfl) ?_
  refine w_sr (by kernel_rfl) ?_
  refine p_qn 2 [.slice o_x0 x0.length c_x0] [(1, vI x1), (2, pB b1 0), (4, pB b2 0), (10, .agg #[.slice o_x0 x0.length c_x0]), (11, vI x1)] [.cell ⟨b1, 0, none⟩ (.slice o_x0 x0.length c_x0)] hf6 (by kernel_rfl) (.cell (hS3.box (i := 1) rfl (j := 0) rfl) .nil) fun a10 hf10 => ?_
  obtain ⟨r2, hd2, hr4⟩ := bind_some hr3
  refine p_call (i := 2) (d := some 12) (f := 91) (args := #[.agg #[.slice o_x0 x0.length c_x0], vI x1]) hf10 (by kernel_rfl) (f91_ok fuel x0 x1 r2 hd2 z1 _ _ hS3 o_x0 c_x0 (SliceR.mono k1 hx_x0)) ?_
  rintro v2 ww5 a11 ⟨z2, k2, rfl, hS5⟩ hf11
  refine ⟨fun _ => trivial, ?_⟩
  refine p_qt [] [(1, vI x1), (2, pB b1 0), (4, pB b2 0), (13, .bool (!r2))] [] hf11 (by kernel_rfl) .nil fun a12 hf12 => ?_
  refine w_if hf12 (b := (!r2)) (by kernel_rfl) (fun hb2 => ?_) (fun hb2 => ?_)
  ·have hr5 := cond_t hb2 hr4
   refine w_sr (by kernel_rfl) ?_
   refine p_qn 1 [] [(4, pB b2 0), (14, .agg #[vI 0, vI 0])] [] hf12 (by kernel_rfl) .nil fun a13 hf13 => ?_
   refine p_store_eq (i := 1) (j := 0) (b := b2) (off := 0) (vs := [vI 0, vI 0]) (cs' := [vI 0, vI 0]) hS5 hf13 rfl (by kernel_rfl) (by kernel_rfl) rfl fun ww6 a14 hS6 hf14 => ⟨fun _ => trivial, ?_⟩
   refine p_qt [] [(4, pB b2 0), (5, vI 4)] [] hf14 (by kernel_rfl) .nil fun a15 hf15 => ?_
   refine w_ret (by kernel_rfl) ?_
   refine r_then ?_
   refine p_ret (os := [vI 0, vI 0]) (v := .tuple #[.agg #[vI 0, vI 0], vI 4]) (obs := [.cell ⟨b2, 0, none⟩ (vI 0), .cell ⟨b2, 1, none⟩ (vI 0)]) hf15 (by kernel_rfl) (.cell (hS6.box (i := 0) rfl (j := 0) rfl) (.cell (hS6.box (i := 0) rfl (j := 1) rfl) .nil)) ?_
   obtain rfl := some_eq hr5
   exact ⟨_, rfl, z2, (Zone.le_trans k1 k2), rfl, (St.drop 2 hS6)⟩
  ·have hr6 := cond_f hb2 hr4
   refine w_skip (by kernel_rfl) ?_
   refine n_then ?_
   refine w_sr (by kernel_rfl) ?_
   refine p_qn 2 [.slice o_x0 x0.length c_x0] [(4, pB b2 0), (15, .agg #[.slice o_x0 x0.length c_x0]), (16, vI x1)] [.cell ⟨b1, 0, none⟩ (.slice o_x0 x0.length c_x0)] hf12 (by kernel_rfl) (.cell (hS5.box (i := 1) rfl (j := 0) rfl) .nil) fun a16 hf16 => ?_
   obtain ⟨r3, hd3, hr7⟩ := bind_some hr6
   refine p_call (i := 2) (d := some 17) (f := 92) (args := #[.agg #[.slice o_x0 x0.length c_x0], vI x1]) hf16 (by kernel_rfl) (f92_ok fuel x0 x1 r3 hd3 z2 _ _ hS5 o_x0 c_x0 (SliceR.mono (Zone.le_trans k1 k2) hx_x0)) ?_
   rintro v3 ww7 a17 ⟨z3, k3, rfl, hS7⟩ hf17
   refine ⟨fun _ => trivial, ?_⟩
   refine p_store_eq (i := 3) (j := 0) (b := b2) (off := 0) (vs := [vI r3.1, vI r3.2]) (cs' := [vI r3.1, vI r3.2]) hS7 hf17 rfl (by kernel_rfl) (by kernel_rfl) rfl fun ww8 a18 hS8 hf18 => ⟨fun _ => trivial, ?_⟩
   refine p_qt [] [(4, pB b2 0), (5, vI 0)] [] hf18 (by kernel_rfl) .nil fun a19 hf19 => ?_
   refine w_ret (by kernel_rfl) ?_
   refine p_ret (os := [vI r3.1, vI r3.2]) (v := .tuple #[.agg #[vI r3.1, vI r3.2], vI 0]) (obs := [.cell ⟨b2, 0, none⟩ (vI r3.1), .cell ⟨b2, 1, none⟩ (vI r3.2)]) hf19 (by kernel_rfl) (.cell (hS8.box (i := 0) rfl (j := 0) rfl) (.cell (hS8.box (i := 0) rfl (j := 1) rfl) .nil)) ?_
   obtain rfl := some_eq hr7
   exact ⟨_, rfl, z3, (Zone.le_trans (Zone.le_trans k1 k2) k3), rfl, (St.drop 2 hS8)⟩
def F65_j2 (k1 : (List Int) → Int → Option (List Pt × Int)) (y1 : Int) (y2 : List Int) : Option (List Pt × Int) :=
  (k1 y2 (w64 (y1 + (1 : Int))))
def F65_j3 (k1 : (List Int) → Int → Option (List Pt × Int)) (y3 : List Int) (y1 : Int) (p1 : Pt) (y4 : Bool) : Option (List Pt × Int) :=
  (cond y4 ((appC y3 ([p1.x])).bind fun d1 => (F65_j2 k1 y1 d1)) (F65_j2 k1 y1 y3))
def F65_j5 (y5 : List Pt) (y6 : Int) : Option (List Pt × Int) :=
  (some (y5, y6))
def F65_j6 (k2 : (List Pt) → Int → Option (List Pt × Int)) (y7 : List Pt) (y8 : Int) (p2 : Int) (r1 : Int × Int) (y9 : Bool) : Option (List Pt × Int) :=
  (cond y9 (F65_j5 ([]) 5) ((appC y7 ([⟨p2, r1.1, r1.2⟩])).bind fun d2 => (k2 d2 (w64 (y8 + (1 : Int))))))
def F65_l2 (fuel : Nat) (x0 : List Pt) (y10 : List Int) : Nat → (List Pt) → Int → Option (List Pt × Int)
  | 0, _, _ => none
  | n1 + 1, y7, y8 =>
    let k2 : (List Pt) → Int → Option (List Pt × Int) := F65_l2 fuel x0 y10 n1
    (cond (decide (y8 < (y10.length : Int))) ((getI y10 y8).bind fun p2 => ((F88 fuel x0 p2).bind fun r1 => (cond (decide (r1.1 < (-1000000000 : Int))) (F65_j6 k2 y7 y8 p2 r1 true) (F65_j6 k2 y7 y8 p2 r1 (decide (r1.2 > (1000000000 : Int))))))) (F65_j5 y7 0))
def F65_j4 (fuel : Nat) (x0 : List Pt) (y10 : List Int) : Option (List Pt × Int) :=
  (F65_l2 fuel x0 y10 fuel ([]) 0)
def F65_l1 (fuel : Nat) (x0 : List Pt) (x1 : Int) (x2 : Int) : Nat → (List Int) → Int → Option (List Pt × Int)
  | 0, _, _ => none
  | n2 + 1, y3, y1 =>
    let k1 : (List Int) → Int → Option (List Pt × Int) := F65_l1 fuel x0 x1 x2 n2
    (cond (decide (y1 < (x0.length : Int))) ((getI x0 y1).bind fun p1 => (cond (decide (x1 < p1.x)) (F65_j3 k1 y3 y1 p1 (decide (p1.x < x2))) (F65_j3 k1 y3 y1 p1 false))) (cond (decide (x2 > x1)) ((appC y3 ([x2])).bind fun d3 => (F65_j4 fuel x0 d3)) (F65_j4 fuel x0 y3)))
def F65_j1 (fuel : Nat) (x0 : List Pt) (x1 : Int) (x2 : Int) (y11 : Bool) : Option (List Pt × Int) :=
  (cond y11 (some ([], 4)) (F65_l1 fuel x0 x1 x2 fuel ([x1]) 0))
def F65 (fuel : Nat) (x0 : List Pt) (x1 : Int) (x2 : Int) : Option (List Pt × Int) :=
  ((F67 fuel x0).bind fun r2 => (cond (r2 != (0 : Int)) (some ([], r2)) (cond (decide (x1 > x2)) (F65_j1 fuel x0 x1 x2 true) ((F81 fuel x0 x1 x2).bind fun r3 => (F65_j1 fuel x0 x1 x2 (!r3))))))
set_option maxRecDepth 100000 in
theorem f65_ok (fuel : Nat) (x0 : List Pt) (x1 : Int) (x2 : Int) (r : List Pt × Int) (hr : F65 fuel x0 x1 x2 = some r) (h : Zone) (L : List Atom) (w : World) (hS : St h L w) (o_x0 : Option Addr) (c_x0 : Nat) (hx_x0 : SliceR PtT h o_x0 c_x0 x0) :
    Calls Try.prog 65 #[.agg #[.slice o_x0 x0.length c_x0], vI x1, vI x2] w fun e w' => ∃ v, e = .returned v ∧ (∃ h', ∃ o0 : Option Addr, ∃ c0 : Nat, Zone.le h h' ∧ v = .tuple #[.agg #[.slice o0 r.1.length c0], vI r.2] ∧ St h' L w' ∧ SliceR PtT h' o0 c0 r.1) := by
 refine calls_intro (N := 67) Try.func65 (by kernel_rfl) fun a hf => ?_
 refine w_sr (by kernel_rfl) ?_
 refine p_box (i := 0) (d := (some 3)) (cs := [.slice o_x0 x0.length c_x0]) (T := 24) (v := fun b1 => pB b1 0) hS hf (fun b => by kernel_rfl) fun b1 ww1 a1 hS1 hf1 => ⟨fun _ => trivial, ?_⟩
 refine p_box (i := 1) (d := (some 6)) (cs := [.slice none 0 0]) (T := 24) (v := fun b2 => pB b2 0) hS1 hf1 (fun b => by kernel_rfl) fun b2 ww2 a2 hS2 hf2 => ⟨fun _ => trivial, ?_⟩
 refine p_qt [] [(1, vI x1), (2, vI x2), (3, pB b1 0), (6, pB b2 0)] [] hf2 (by kernel_rfl) .nil fun a3 hf3 => ?_
 refine w_seq (by kernel_rfl) ?_
 refine w_sr (by kernel_rfl) ?_
 refine p_qn 1 [.slice o_x0 x0.length c_x0] [(1, vI x1), (2, vI x2), (3, pB b1 0), (6, pB b2 0), (12, .agg #[.slice o_x0 x0.length c_x0])] [.cell ⟨b1, 0, none⟩ (.slice o_x0 x0.length c_x0)] hf3 (by kernel_rfl) (.cell (hS2.box (i := 1) rfl (j := 0) rfl) .nil) fun a4 hf4 => ?_
 obtain ⟨r2, hd1, hr1⟩ := bind_some hr
 refine p_call (i := 1) (d := some 13) (f := 67) (args := #[.agg #[.slice o_x0 x0.length c_x0]]) hf4 (by kernel_rfl) (f67_ok fuel x0 r2 hd1 h _ _ hS2 o_x0 c_x0 hx_x0) ?_
 rintro v1 ww3 a5 ⟨z1, k3, rfl, hS3⟩ hf5
 refine ⟨fun _ => trivial, ?_⟩
 refine p_qt [] [(1, vI x1), (2, vI x2), (3, pB b1 0), (6, pB b2 0), (8, vI r2)] [] hf5 (by kernel_rfl) .nil fun a6 hf6 => ?_
 refine w_sq [] [(1, vI x1), (2, vI x2), (3, pB b1 0), (6, pB b2 0), (8, vI r2), (15, .bool (r2 != (0 : Int)))] [] hf6 (by kernel_rfl) .nil fun a7 hf7 => ?_
 refine w_if hf7 (b := (r2 != (0 : Int))) (by kernel_rfl) (fun hb1 => ?_) (fun hb1 => ?_)
 ·have hr2 := cond_t hb1 hr1
  refine w_sr (by kernel_rfl) ?_
  refine p_qn 2 [] [(6, pB b2 0), (16, .agg #[.slice none 0 0]), (17, vI r2)] [] hf7 (by kernel_rfl) .nil fun a8 hf8 => ?_
  refine p_store_eq (i := 2) (j := 0) (b := b2) (off := 0) (vs := [.slice none 0 0]) (cs' := [.slice none 0 0]) hS3 hf8 rfl (by kernel_rfl) (by kernel_rfl) rfl fun ww4 a9 hS4 hf9 => ⟨fun _ => trivial, ?_⟩
  refine p_qt [] [(6, pB b2 0), (7, vI r2)] [] hf9 (by kernel_rfl) .nil fun a10 hf10 => ?_
  refine w_ret (by kernel_rfl) ?_
  refine r_then ?_
  refine p_ret (os := [.slice none 0 0]) (v := .tuple #[.agg #[.slice none 0 0], vI r2]) (obs := [.cell ⟨b2, 0, none⟩ (.slice none 0 0)]) hf10 (by kernel_rfl) (.cell (hS4.box (i := 0) rfl (j := 0) rfl) .nil) ?_
  obtain rfl := some_eq hr2
  exact ⟨_, rfl, z1, none, 0, k3, rfl, (St.drop 2 hS4), SliceR.nil' _ _⟩
 ·have hr3 := cond_f hb1 hr1
  refine w_skip (by kernel_rfl) ?_
  refine n_then ?_
  refine w_seq (by kernel_rfl) ?_
  refine w_mid (by kernel_rfl) (fun a w => ∃ z2 : Zone, ∃ y11 : Bool, Zone.le z1 z2 ∧ Fr a 67 [(1, vI x1), (2, vI x2), (3, pB b1 0), (6, pB b2 0), (28, .bool y11)] ∧ St z2 (box b2 [.slice none 0 0] 24 :: box b1 [.slice o_x0 x0.length c_x0] 24 :: L) w ∧ (F65_j1 fuel x0 x1 x2 y11) = some r) ?_ ?_
  ·skip
   refine w_reg (by kernel_rfl) ?_
   refine p_qn 4 [] [(1, vI x1), (2, vI x2), (3, pB b1 0), (6, pB b2 0), (21, .bool (decide (x1 > x2)))] [] hf7 (by kernel_rfl) .nil fun a11 hf11 => ?_
   rcases Bool.eq_false_or_eq_true (decide (x1 > x2)) with hb2 | hb2
   ·have hr4 := cond_t hb2 hr3
    have hf12 := Fr.conv hf11 (congrArg (fun z => ([(1, vI x1), (2, vI x2), (3, pB b1 0), (6, pB b2 0), (21, .bool z)] : FL)) hb2)
    refine p_qt [] [(1, vI x1), (2, vI x2), (3, pB b1 0), (6, pB b2 0), (28, .bool true)] [] hf12 (by kernel_rfl) .nil fun a12 hf13 => ?_
    have hf14 := Fr.keep (ks := [1, 2, 3, 6, 28]) (r := [(1, vI x1), (2, vI x2), (3, pB b1 0), (6, pB b2 0), (28, .bool true)]) hf13 (by kernel_rfl)
    exact ⟨z1, true, (Zone.le_refl _), hf14, hS3, hr4⟩
   ·have hr5 := cond_f hb2 hr3
    have hf15 := Fr.conv hf11 (congrArg (fun z => ([(1, vI x1), (2, vI x2), (3, pB b1 0), (6, pB b2 0), (21, .bool z)] : FL)) hb2)
    refine p_qn 4 [.slice o_x0 x0.length c_x0] [(1, vI x1), (2, vI x2), (3, pB b1 0), (6, pB b2 0), (21, .bool false), (22, .agg #[.slice o_x0 x0.length c_x0]), (25, .agg #[vI x1, vI x2])] [.cell ⟨b1, 0, none⟩ (.slice o_x0 x0.length c_x0)] hf15 (by kernel_rfl) (.cell (hS3.box (i := 1) rfl (j := 0) rfl) .nil) fun a13 hf16 => ?_
    obtain ⟨r3, hd2, hr6⟩ := bind_some hr5
    refine p_call (i := 8) (d := some 26) (f := 81) (args := #[.agg #[.slice o_x0 x0.length c_x0], .agg #[vI x1, vI x2]]) hf16 (by kernel_rfl) (f81_ok fuel x0 x1 x2 r3 hd2 z1 _ _ hS3 o_x0 c_x0 (SliceR.mono k3 hx_x0)) ?_
    rintro v2 ww5 a14 ⟨z3, k4, rfl, hS5⟩ hf17
    refine ⟨fun _ => trivial, ?_⟩
    refine p_qt [] [(1, vI x1), (2, vI x2), (3, pB b1 0), (6, pB b2 0), (28, .bool (!r3))] [] hf17 (by kernel_rfl) .nil fun a15 hf18 => ?_
    have hf19 := Fr.keep (ks := [1, 2, 3, 6, 28]) (r := [(1, vI x1), (2, vI x2), (3, pB b1 0), (6, pB b2 0), (28, .bool (!r3))]) hf18 (by kernel_rfl)
    exact ⟨z3, (!r3), k4, hf19, hS5, hr6⟩
  ·rintro a16 ww6 ⟨z2, y11, k5, hf20, hS6, hr7⟩
   refine w_if hf20 (b := y11) (by kernel_rfl) (fun hb3 => ?_) (fun hb3 => ?_)
   ·have hr8 := cond_t hb3 hr7
    refine w_sr (by kernel_rfl) ?_
    refine p_qn 1 [] [(6, pB b2 0), (29, .agg #[.slice none 0 0])] [] hf20 (by kernel_rfl) .nil fun a17 hf21 => ?_
    refine p_store_eq (i := 1) (j := 0) (b := b2) (off := 0) (vs := [.slice none 0 0]) (cs' := [.slice none 0 0]) hS6 hf21 rfl (by kernel_rfl) (by kernel_rfl) rfl fun ww7 a18 hS7 hf22 => ⟨fun _ => trivial, ?_⟩
    refine p_qt [] [(6, pB b2 0), (7, vI 4)] [] hf22 (by kernel_rfl) .nil fun a19 hf23 => ?_
    refine w_ret (by kernel_rfl) ?_
    refine r_then ?_
    refine p_ret (os := [.slice none 0 0]) (v := .tuple #[.agg #[.slice none 0 0], vI 4]) (obs := [.cell ⟨b2, 0, none⟩ (.slice none 0 0)]) hf23 (by kernel_rfl) (.cell (hS7.box (i := 0) rfl (j := 0) rfl) .nil) ?_
    obtain rfl := some_eq hr8
    exact ⟨_, rfl, z2, none, 0, (Zone.le_trans k3 k5), rfl, (St.drop 2 hS7), SliceR.nil' _ _⟩
   ·have hr9 := cond_f hb3 hr7
    refine w_skip (by kernel_rfl) ?_
    refine n_then ?_
    refine w_sr (by kernel_rfl) ?_
    refine p_qn 1 [] [(1, vI x1), (2, vI x2), (3, pB b1 0), (6, pB b2 0), (30, vI x1)] [] hf20 (by kernel_rfl) .nil fun a20 hf24 => ?_
    refine p_box (i := 1) (d := (some 31)) (cs := [vI x1]) (T := 3) (v := fun b3 => .slice (some ⟨b3, 0, none⟩) 1 1) hS6 hf24 (fun b => by kernel_rfl) fun b3 ww8 a21 hS8 hf25 => ⟨fun _ => trivial, ?_⟩
    have hS9 := hS8.ownBox (T := Ty.int) (E := 3) (n := 1) (xs := [x1]) (i := 0) rfl (Rows.cons (c := [vI x1]) rfl rfl) rfl (by decide)
    refine p_qt [] [(1, vI x1), (2, vI x2), (3, pB b1 0), (6, pB b2 0), (9, .slice (some ⟨b3, 0, none⟩) 1 1)] [] hf25 (by kernel_rfl) .nil fun a22 hf26 => ?_
    refine w_seq (by kernel_rfl) ?_
    refine w_sq [.slice o_x0 x0.length c_x0] [(1, vI x1), (2, vI x2), (3, pB b1 0), (6, pB b2 0), (9, .slice (some ⟨b3, 0, none⟩) 1 1), (33, .slice o_x0 x0.length c_x0), (34, vI (x0.length : Int)), (35, vI 0)] [.cell ⟨b1, 0, none⟩ (.slice o_x0 x0.length c_x0)] hf26 (by kernel_rfl) (.cell (hS9.box (i := 2) rfl (j := 0) rfl) .nil) fun a23 hf27 => ?_
    refine w_block (id := 0) (by kernel_rfl) ?_
    have hf28 := Fr.keep (ks := [1, 2, 3, 6, 9, 33, 34, 35]) (r := [(1, vI x1), (2, vI x2), (3, pB b1 0), (6, pB b2 0), (9, .slice (some ⟨b3, 0, none⟩) 1 1), (33, .slice o_x0 x0.length c_x0), (34, vI (x0.length : Int)), (35, vI 0)]) hf27 (by kernel_rfl)
    refine w_loop (by kernel_rfl) (fun n a w => ∃ z4 : Zone, ∃ y3 : List Int, ∃ y1 : Int, ∃ e1 : Option Addr, ∃ q1 : Nat, Zone.le z2 z4 ∧ Fr a 67 [(1, vI x1), (2, vI x2), (3, pB b1 0), (6, pB b2 0), (9, .slice e1 y3.length q1), (33, .slice o_x0 x0.length c_x0), (34, vI (x0.length : Int)), (35, vI y1)] ∧ St z4 (ownS Ty.int 3 e1 q1 y3 :: box b2 [.slice none 0 0] 24 :: box b1 [.slice o_x0 x0.length c_x0] 24 :: L) w ∧ (F65_l1 fuel x0 x1 x2 n y3 y1) = some r) fuel ⟨z2, [x1], 0, (some ⟨b3, 0, none⟩), 1, (Zone.le_refl _), hf28, hS9, hr9⟩ ?_
    rintro n3 a24 ww9 ⟨z4, y3, y1, e1, q1, k6, hf29, hS10, hr10⟩
    cases n3 with
    | zero => cases hr10
    | succ n2 =>
    refine w_sq [] [(1, vI x1), (2, vI x2), (3, pB b1 0), (6, pB b2 0), (9, .slice e1 y3.length q1), (33, .slice o_x0 x0.length c_x0), (34, vI (x0.length : Int)), (35, vI y1), (36, .bool (decide (y1 < (x0.length : Int))))] [] hf29 (by kernel_rfl) .nil fun a25 hf30 => ?_
    refine w_seq (by kernel_rfl) ?_
    refine w_if hf30 (b := (decide (y1 < (x0.length : Int)))) (by kernel_rfl) (fun hb4 => ?_) (fun hb4 => ?_)
    ·have hr11 := cond_t hb4 hr10
     refine w_skip (by kernel_rfl) ?_
     refine n_then ?_
     refine w_mid (by kernel_rfl) (fun a w => ∃ z5 : Zone, ∃ y2 : List Int, ∃ e2 : Option Addr, ∃ q2 : Nat, Zone.le z4 z5 ∧ Fr a 67 [(1, vI x1), (2, vI x2), (3, pB b1 0), (6, pB b2 0), (9, .slice e2 y2.length q2), (33, .slice o_x0 x0.length c_x0), (34, vI (x0.length : Int)), (35, vI y1)] ∧ St z5 (ownS Ty.int 3 e2 q2 y2 :: box b2 [.slice none 0 0] 24 :: box b1 [.slice o_x0 x0.length c_x0] 24 :: L) w ∧ (F65_j2 (F65_l1 fuel x0 x1 x2 n2) y1 y2) = some r) ?_ ?_
     ·skip
      refine w_block (id := 1) (by kernel_rfl) ?_
      refine w_sr (by kernel_rfl) ?_
      obtain ⟨p1, hp2375, hr12⟩ := bind_some hr11
      obtain ⟨ad1, ho1, hb5, cc1, hc1, hk1⟩ := SliceR.getI (SliceR.mono (Zone.le_trans (Zone.le_trans k3 k5) k6) hx_x0) hp2375
      subst hc1
      refine p_qn 2 [.pointer (some ad1), vI p1.x, vI p1.lo, vI p1.hi] [(1, vI x1), (2, vI x2), (3, pB b1 0), (6, pB b2 0), (9, .slice e1 y3.length q1), (33, .slice o_x0 x0.length c_x0), (34, vI (x0.length : Int)), (35, vI y1), (38, .agg #[vI p1.x, vI p1.lo, vI p1.hi])] [.prop (o_x0 = some ad1), .prop (0 ≤ y1 ∧ y1 < (x0.length : Nat)), .cell ((ad1.add (Int.toNat y1 * 3)).add 0) (vI p1.x), .cell ((ad1.add (Int.toNat y1 * 3)).add 1) (vI p1.lo), .cell ((ad1.add (Int.toNat y1 * 3)).add 2) (vI p1.hi)] hf30 (by kernel_rfl) (.prop ho1 (.prop hb5 (.cell (hS10.cell (hk1 0 _ rfl)) (.cell (hS10.cell (hk1 1 _ rfl)) (.cell (hS10.cell (hk1 2 _ rfl)) .nil))))) fun a26 hf31 => ?_
      refine p_box (i := 2) (d := (some 11)) (cs := [vI 0, vI 0, vI 0]) (T := 52) (v := fun b4 => pB b4 0) hS10 hf31 (fun b => by kernel_rfl) fun b4 ww10 a27 hS11 hf32 => ⟨fun _ => trivial, ?_⟩
      refine p_store_eq (i := 3) (j := 0) (b := b4) (off := 0) (vs := [vI p1.x, vI p1.lo, vI p1.hi]) (cs' := [vI p1.x, vI p1.lo, vI p1.hi]) hS11 hf32 rfl (by kernel_rfl) (by kernel_rfl) rfl fun ww11 a28 hS12 hf33 => ⟨fun _ => trivial, ?_⟩
      refine p_dt (by kernel_rfl) ?_
      refine w_mid (by kernel_rfl) (fun a w => ∃ z6 : Zone, ∃ y4 : Bool, Zone.le z4 z6 ∧ Fr a 67 [(1, vI x1), (2, vI x2), (3, pB b1 0), (6, pB b2 0), (9, .slice e1 y3.length q1), (11, pB b4 0), (33, .slice o_x0 x0.length c_x0), (34, vI (x0.length : Int)), (35, vI y1), (48, .bool y4)] ∧ St z6 (box b4 [vI p1.x, vI p1.lo, vI p1.hi] 52 :: ownS Ty.int 3 e1 q1 y3 :: box b2 [.slice none 0 0] 24 :: box b1 [.slice o_x0 x0.length c_x0] 24 :: L) w ∧ (F65_j3 (F65_l1 fuel x0 x1 x2 n2) y3 y1 p1 y4) = some r) ?_ ?_
      ·skip
       refine w_reg (by kernel_rfl) ?_
       refine p_qn 5 [vI p1.x] [(1, vI x1), (2, vI x2), (3, pB b1 0), (6, pB b2 0), (9, .slice e1 y3.length q1), (11, pB b4 0), (33, .slice o_x0 x0.length c_x0), (34, vI (x0.length : Int)), (35, vI y1), (43, .bool (decide (x1 < p1.x)))] [.cell ⟨b4, 0, none⟩ (vI p1.x)] hf33 (by kernel_rfl) (.cell (hS12.box (i := 0) rfl (j := 0) rfl) .nil) fun a29 hf34 => ?_
       rcases Bool.eq_false_or_eq_true (decide (x1 < p1.x)) with hb6 | hb6
       ·have hr13 := cond_t hb6 hr12
        have hf35 := Fr.conv hf34 (congrArg (fun z => ([(1, vI x1), (2, vI x2), (3, pB b1 0), (6, pB b2 0), (9, .slice e1 y3.length q1), (11, pB b4 0), (33, .slice o_x0 x0.length c_x0), (34, vI (x0.length : Int)), (35, vI y1), (43, .bool z)] : FL)) hb6)
        refine p_qt [vI p1.x] [(1, vI x1), (2, vI x2), (3, pB b1 0), (6, pB b2 0), (9, .slice e1 y3.length q1), (11, pB b4 0), (33, .slice o_x0 x0.length c_x0), (34, vI (x0.length : Int)), (35, vI y1), (44, pB b4 0), (45, vI p1.x), (46, vI x2), (47, .bool (decide (p1.x < x2))), (48, .bool (decide (p1.x < x2)))] [.cell ⟨b4, 0, none⟩ (vI p1.x)] hf35 (by kernel_rfl) (.cell (hS12.box (i := 0) rfl (j := 0) rfl) .nil) fun a30 hf36 => ?_
        have hf37 := Fr.keep (ks := [1, 2, 3, 6, 9, 11, 33, 34, 35, 48]) (r := [(1, vI x1), (2, vI x2), (3, pB b1 0), (6, pB b2 0), (9, .slice e1 y3.length q1), (11, pB b4 0), (33, .slice o_x0 x0.length c_x0), (34, vI (x0.length : Int)), (35, vI y1), (48, .bool (decide (p1.x < x2)))]) hf36 (by kernel_rfl)
        exact ⟨z4, (decide (p1.x < x2)), (Zone.le_refl _), hf37, hS12, hr13⟩
       ·have hr14 := cond_f hb6 hr12
        have hf38 := Fr.conv hf34 (congrArg (fun z => ([(1, vI x1), (2, vI x2), (3, pB b1 0), (6, pB b2 0), (9, .slice e1 y3.length q1), (11, pB b4 0), (33, .slice o_x0 x0.length c_x0), (34, vI (x0.length : Int)), (35, vI y1), (43, .bool z)] : FL)) hb6)
        refine p_qt [] [(1, vI x1), (2, vI x2), (3, pB b1 0), (6, pB b2 0), (9, .slice e1 y3.length q1), (11, pB b4 0), (33, .slice o_x0 x0.length c_x0), (34, vI (x0.length : Int)), (35, vI y1), (44, undef), (45, undef), (46, undef), (47, undef), (48, .bool false)] [] hf38 (by kernel_rfl) .nil fun a31 hf39 => ?_
        have hf40 := Fr.keep (ks := [1, 2, 3, 6, 9, 11, 33, 34, 35, 48]) (r := [(1, vI x1), (2, vI x2), (3, pB b1 0), (6, pB b2 0), (9, .slice e1 y3.length q1), (11, pB b4 0), (33, .slice o_x0 x0.length c_x0), (34, vI (x0.length : Int)), (35, vI y1), (48, .bool false)]) hf39 (by kernel_rfl)
        exact ⟨z4, false, (Zone.le_refl _), hf40, hS12, hr14⟩
      ·rintro a32 ww12 ⟨z6, y4, k7, hf41, hS13, hr15⟩
       refine w_if hf41 (b := y4) (by kernel_rfl) (fun hb7 => ?_) (fun hb7 => ?_)
       ·have hr16 := cond_t hb7 hr15
        refine w_reg (by kernel_rfl) ?_
        refine p_qn 3 [vI p1.x] [(1, vI x1), (2, vI x2), (3, pB b1 0), (6, pB b2 0), (33, .slice o_x0 x0.length c_x0), (34, vI (x0.length : Int)), (35, vI y1), (49, .slice e1 y3.length q1), (51, vI p1.x)] [.cell ⟨b4, 0, none⟩ (vI p1.x)] hf41 (by kernel_rfl) (.cell (hS13.box (i := 0) rfl (j := 0) rfl) .nil) fun a33 hf42 => ?_
        refine p_box (i := 3) (d := (some 52)) (cs := [vI p1.x]) (T := 3) (v := fun b5 => .slice (some ⟨b5, 0, none⟩) 1 1) hS13 hf42 (fun b => by kernel_rfl) fun b5 ww13 a34 hS14 hf43 => ⟨fun _ => trivial, ?_⟩
        have hS15 := hS14.ownBox (T := Ty.int) (E := 3) (n := 1) (xs := [p1.x]) (i := 0) rfl (Rows.cons (c := [vI p1.x]) rfl rfl) rfl (by decide)
        obtain ⟨d1, hd3, hr17⟩ := bind_some hr16
        refine p_append (T := Ty.int) (i := 4) (j := 2) (d := some 53) (o2 := (some ⟨b5, 0, none⟩)) (c2 := 1) (ys := ([p1.x])) el25 hS15 hf43 rfl (by kernel_rfl) (hS15.ownSrc (j := 0) rfl) hd3 fun e3 q3 ww14 a35 hS16 hf44 => ⟨fun _ => trivial, ?_⟩
        refine p_qz [] [(1, vI x1), (2, vI x2), (3, pB b1 0), (6, pB b2 0), (9, .slice e3 d1.length q3), (33, .slice o_x0 x0.length c_x0), (34, vI (x0.length : Int)), (35, vI y1)] [] hf44 (by kernel_rfl) .nil fun a36 hf45 => ?_
        refine n_block ?_
        refine n_then ?_
        have hf46 := Fr.keep (ks := [1, 2, 3, 6, 9, 33, 34, 35]) (r := [(1, vI x1), (2, vI x2), (3, pB b1 0), (6, pB b2 0), (9, .slice e3 d1.length q3), (33, .slice o_x0 x0.length c_x0), (34, vI (x0.length : Int)), (35, vI y1)]) hf45 (by kernel_rfl)
        exact ⟨z6, d1, e3, q3, k7, hf46, (St.drop 2 hS16), hr17⟩
       ·have hr18 := cond_f hb7 hr15
        refine w_skip (by kernel_rfl) ?_
        refine n_block ?_
        refine n_then ?_
        have hf47 := Fr.keep (ks := [1, 2, 3, 6, 9, 33, 34, 35]) (r := [(1, vI x1), (2, vI x2), (3, pB b1 0), (6, pB b2 0), (9, .slice e1 y3.length q1), (33, .slice o_x0 x0.length c_x0), (34, vI (x0.length : Int)), (35, vI y1)]) hf41 (by kernel_rfl)
        exact ⟨z6, y3, e1, q1, k7, hf47, (St.drop 1 hS13), hr18⟩
     ·rintro a37 ww15 ⟨z5, y2, e2, q2, k8, hf48, hS17, hr19⟩
      refine w_q [] [(1, vI x1), (2, vI x2), (3, pB b1 0), (6, pB b2 0), (9, .slice e2 y2.length q2), (33, .slice o_x0 x0.length c_x0), (34, vI (x0.length : Int)), (35, vI (w64 (y1 + (1 : Int))))] [] hf48 (by kernel_rfl) .nil fun a38 hf49 => ?_
      refine n_then ?_
      have hf50 := Fr.keep (ks := [1, 2, 3, 6, 9, 33, 34, 35]) (r := [(1, vI x1), (2, vI x2), (3, pB b1 0), (6, pB b2 0), (9, .slice e2 y2.length q2), (33, .slice o_x0 x0.length c_x0), (34, vI (x0.length : Int)), (35, vI (w64 (y1 + (1 : Int))))]) hf49 (by kernel_rfl)
      exact ⟨n2, Nat.lt_succ_self n2, z5, y2, (w64 (y1 + (1 : Int))), e2, q2, (Zone.le_trans k6 k8), hf50, hS17, hr19⟩
    ·have hr20 := cond_f hb4 hr10
     refine w_exit (id := 0) (by kernel_rfl) ?_
     refine x_then ?_
     refine x_then ?_
     refine x_block ?_
     refine n_then ?_
     refine w_mid (by kernel_rfl) (fun a w => ∃ z7 : Zone, ∃ y10 : List Int, ∃ e4 : Option Addr, ∃ q4 : Nat, Zone.le z4 z7 ∧ Fr a 67 [(3, pB b1 0), (6, pB b2 0), (9, .slice e4 y10.length q4)] ∧ St z7 (ownS Ty.int 3 e4 q4 y10 :: box b2 [.slice none 0 0] 24 :: box b1 [.slice o_x0 x0.length c_x0] 24 :: L) w ∧ (F65_j4 fuel x0 y10) = some r) ?_ ?_
     ·skip
      refine w_sq [] [(2, vI x2), (3, pB b1 0), (6, pB b2 0), (9, .slice e1 y3.length q1), (57, .bool (decide (x2 > x1)))] [] hf30 (by kernel_rfl) .nil fun a39 hf51 => ?_
      refine w_if hf51 (b := (decide (x2 > x1))) (by kernel_rfl) (fun hb8 => ?_) (fun hb8 => ?_)
      ·have hr21 := cond_t hb8 hr20
       refine w_reg (by kernel_rfl) ?_
       refine p_qn 2 [] [(3, pB b1 0), (6, pB b2 0), (58, .slice e1 y3.length q1), (59, vI x2)] [] hf51 (by kernel_rfl) .nil fun a40 hf52 => ?_
       refine p_box (i := 2) (d := (some 60)) (cs := [vI x2]) (T := 3) (v := fun b6 => .slice (some ⟨b6, 0, none⟩) 1 1) hS10 hf52 (fun b => by kernel_rfl) fun b6 ww16 a41 hS18 hf53 => ⟨fun _ => trivial, ?_⟩
       have hS19 := hS18.ownBox (T := Ty.int) (E := 3) (n := 1) (xs := [x2]) (i := 0) rfl (Rows.cons (c := [vI x2]) rfl rfl) rfl (by decide)
       obtain ⟨d3, hd4, hr22⟩ := bind_some hr21
       refine p_append (T := Ty.int) (i := 3) (j := 1) (d := some 61) (o2 := (some ⟨b6, 0, none⟩)) (c2 := 1) (ys := ([x2])) el25 hS19 hf53 rfl (by kernel_rfl) (hS19.ownSrc (j := 0) rfl) hd4 fun e5 q5 ww17 a42 hS20 hf54 => ⟨fun _ => trivial, ?_⟩
       refine p_qt [] [(3, pB b1 0), (6, pB b2 0), (9, .slice e5 d3.length q5)] [] hf54 (by kernel_rfl) .nil fun a43 hf55 => ?_
       have hf56 := Fr.keep (ks := [3, 6, 9]) (r := [(3, pB b1 0), (6, pB b2 0), (9, .slice e5 d3.length q5)]) hf55 (by kernel_rfl)
       exact ⟨z4, d3, e5, q5, (Zone.le_refl _), hf56, (St.drop 1 hS20), hr22⟩
      ·have hr23 := cond_f hb8 hr20
       refine w_skip (by kernel_rfl) ?_
       refine n_then ?_
       have hf57 := Fr.keep (ks := [3, 6, 9]) (r := [(3, pB b1 0), (6, pB b2 0), (9, .slice e1 y3.length q1)]) hf51 (by kernel_rfl)
       exact ⟨z4, y3, e1, q1, (Zone.le_refl _), hf57, hS10, hr23⟩
     ·rintro a44 ww18 ⟨z7, y10, e4, q4, k9, hf58, hS21, hr24⟩
      refine w_sr (by kernel_rfl) ?_
      refine p_qn 2 [] [(6, pB b2 0), (62, .slice e4 y10.length q4), (63, .func (.func 116) #[] #[pB b1 0])] [] hf58 (by kernel_rfl) .nil fun a45 hf59 => ?_
      refine p_call (i := 2) (d := some 64) (f := 115) (args := #[.slice e4 y10.length q4, .func (.func 116) #[] #[pB b1 0]]) hf59 (by kernel_rfl) (Φ := fun v w => ∃ z8 : Zone, ∃ y5 : List Pt, ∃ y6 : Int, ∃ e6 : Option Addr, ∃ q6 : Nat, Zone.le z7 z8 ∧ v = .tuple #[.agg #[.slice e6 y5.length q6], vI y6] ∧ St z8 (ownS PtT 52 e6 q6 y5 :: ownS Ty.int 3 e4 q4 y10 :: box b2 [.slice none 0 0] 24 :: box b1 [.slice o_x0 x0.length c_x0] 24 :: L) w ∧ (F65_j5 y5 y6) = some r) ?_ ?_
      ·refine calls_intro (N := 41) Try.func115 (by kernel_rfl) fun a46 hf60 => ?_
       refine w_sr (by kernel_rfl) ?_
       refine p_box (i := 0) (d := (some 4)) (cs := [.slice none 0 0]) (T := 24) (v := fun b7 => pB b7 0) hS21 hf60 (fun b => by kernel_rfl) fun b7 ww19 a47 hS22 hf61 => ⟨fun _ => trivial, ?_⟩
       refine p_qt [] [(0, .slice e4 y10.length q4), (1, .func (.func 116) #[] #[pB b1 0]), (4, pB b7 0)] [] hf61 (by kernel_rfl) .nil fun a48 hf62 => ?_
       refine w_sr (by kernel_rfl) ?_
       refine p_box (i := 0) (d := (some 6)) (cs := [.slice none 0 0]) (T := 24) (v := fun b8 => pB b8 0) hS22 hf62 (fun b => by kernel_rfl) fun b8 ww20 a49 hS23 hf63 => ⟨fun _ => trivial, ?_⟩
       refine p_dt (by kernel_rfl) ?_
       refine w_seq (by kernel_rfl) ?_
       refine w_sq [] [(1, .func (.func 116) #[] #[pB b1 0]), (4, pB b7 0), (6, pB b8 0), (10, .slice e4 y10.length q4), (11, vI (y10.length : Int)), (12, vI 0)] [] hf63 (by kernel_rfl) .nil fun a50 hf64 => ?_
       refine w_block (id := 0) (by kernel_rfl) ?_
       have hS24 := hS23.ownNil PtT 52
       have hf65 := Fr.keep (ks := [1, 4, 6, 10, 11, 12]) (r := [(1, .func (.func 116) #[] #[pB b1 0]), (4, pB b7 0), (6, pB b8 0), (10, .slice e4 y10.length q4), (11, vI (y10.length : Int)), (12, vI 0)]) hf64 (by kernel_rfl)
       refine w_loop (by kernel_rfl) (fun n a w => ∃ z9 : Zone, ∃ y7 : List Pt, ∃ y8 : Int, ∃ e7 : Option Addr, ∃ q7 : Nat, Zone.le z7 z9 ∧ Fr a 41 [(1, .func (.func 116) #[] #[pB b1 0]), (4, pB b7 0), (6, pB b8 0), (10, .slice e4 y10.length q4), (11, vI (y10.length : Int)), (12, vI y8)] ∧ St z9 (ownS PtT 52 e7 q7 y7 :: box b8 [.slice e7 y7.length q7] 24 :: box b7 [.slice none 0 0] 24 :: ownS Ty.int 3 e4 q4 y10 :: box b2 [.slice none 0 0] 24 :: box b1 [.slice o_x0 x0.length c_x0] 24 :: L) w ∧ (F65_l2 fuel x0 y10 n y7 y8) = some r) fuel ⟨z7, [], 0, none, 0, (Zone.le_refl _), hf65, hS24, hr24⟩ ?_
       rintro n4 a51 ww21 ⟨z9, y7, y8, e7, q7, k10, hf66, hS25, hr25⟩
       cases n4 with
       | zero => cases hr25
       | succ n1 =>
       refine w_sq [] [(1, .func (.func 116) #[] #[pB b1 0]), (4, pB b7 0), (6, pB b8 0), (10, .slice e4 y10.length q4), (11, vI (y10.length : Int)), (12, vI y8), (13, .bool (decide (y8 < (y10.length : Int))))] [] hf66 (by kernel_rfl) .nil fun a52 hf67 => ?_
       refine w_seq (by kernel_rfl) ?_
       refine w_if hf67 (b := (decide (y8 < (y10.length : Int)))) (by kernel_rfl) (fun hb9 => ?_) (fun hb9 => ?_)
       ·have hr26 := cond_t hb9 hr25
        refine w_skip (by kernel_rfl) ?_
        refine n_then ?_
        refine w_seq (by kernel_rfl) ?_
        refine w_block (id := 1) (by kernel_rfl) ?_
        obtain ⟨p2, hp10942, hr27⟩ := bind_some hr26
        obtain ⟨ad2, ho2, hb10, cc2, hc2, hk2⟩ := hS25.ownGet (j := 3) rfl hp10942
        subst hc2
        refine w_sq [.pointer (some ad2), vI p2] [(1, .func (.func 116) #[] #[pB b1 0]), (4, pB b7 0), (6, pB b8 0), (8, vI p2), (10, .slice e4 y10.length q4), (11, vI (y10.length : Int)), (12, vI y8)] [.prop (e4 = some ad2), .prop (0 ≤ y8 ∧ y8 < (y10.length : Nat)), .cell ((ad2.add (Int.toNat y8 * 1)).add 0) (vI p2)] hf67 (by kernel_rfl) (.prop ho2 (.prop hb10 (.cell (hk2 0 _ rfl) .nil))) fun a53 hf68 => ?_
        refine w_sr (by kernel_rfl) ?_
        refine p_qn 2 [] [(1, .func (.func 116) #[] #[pB b1 0]), (4, pB b7 0), (6, pB b8 0), (8, vI p2), (10, .slice e4 y10.length q4), (11, vI (y10.length : Int)), (12, vI y8), (16, .func (.func 116) #[] #[pB b1 0]), (17, vI p2)] [] hf68 (by kernel_rfl) .nil fun a54 hf69 => ?_
        refine p_inl (i := 2) (d := some 18) (f := 116) (args := #[vI p2, pB b1 0]) (N' := 7) hf69 (by kernel_rfl) Try.func116 (by kernel_rfl) fun a55 hf70 => ?_
        refine w_sr (by kernel_rfl) ?_
        refine p_box (i := 0) (d := (some 3)) (cs := [vI 0, vI 0]) (T := 41) (v := fun b9 => pB b9 0) hS25 hf70 (fun b => by kernel_rfl) fun b9 ww22 a56 hS26 hf71 => ⟨fun _ => trivial, ?_⟩
        refine p_dt (by kernel_rfl) ?_
        refine w_sr (by kernel_rfl) ?_
        refine p_qn 2 [.slice o_x0 x0.length c_x0] [(3, pB b9 0), (4, .agg #[.slice o_x0 x0.length c_x0]), (5, vI p2)] [.cell ⟨b1, 0, none⟩ (.slice o_x0 x0.length c_x0)] hf71 (by kernel_rfl) (.cell (hS26.box (i := 6) rfl (j := 0) rfl) .nil) fun a57 hf72 => ?_
        obtain ⟨r1, hd5, hr28⟩ := bind_some hr27
        refine p_call (i := 2) (d := some 6) (f := 88) (args := #[.agg #[.slice o_x0 x0.length c_x0], vI p2]) hf72 (by kernel_rfl) (f88_ok fuel x0 p2 r1 hd5 z9 _ _ hS26 o_x0 c_x0 (SliceR.mono (Zone.le_trans (Zone.le_trans (Zone.le_trans (Zone.le_trans k3 k5) k6) k9) k10) hx_x0)) ?_
        rintro v3 ww23 a58 ⟨z10, k11, rfl, hS27⟩ hf73
        refine ⟨fun _ => trivial, ?_⟩
        refine p_store_eq (i := 3) (j := 0) (b := b9) (off := 0) (vs := [vI r1.1, vI r1.2]) (cs' := [vI r1.1, vI r1.2]) hS27 hf73 rfl (by kernel_rfl) (by kernel_rfl) rfl fun ww24 a59 hS28 hf74 => ⟨fun _ => trivial, ?_⟩
        refine p_dt (by kernel_rfl) ?_
        refine w_ret (by kernel_rfl) ?_
        refine p_ret (os := [vI r1.1, vI r1.2]) (v := .agg #[vI r1.1, vI r1.2]) (obs := [.cell ⟨b9, 0, none⟩ (vI r1.1), .cell ⟨b9, 1, none⟩ (vI r1.2)]) hf74 (by kernel_rfl) (.cell (hS28.box (i := 0) rfl (j := 0) rfl) (.cell (hS28.box (i := 0) rfl (j := 1) rfl) .nil)) ?_
        refine ⟨_, rfl, fun a60 hf75 => ?_⟩
        have hS29 := St.drop 1 hS28
        refine ⟨fun _ => trivial, ?_⟩
        refine p_box (i := 3) (d := (some 9)) (cs := [vI 0, vI 0]) (T := 41) (v := fun b10 => pB b10 0) hS29 hf75 (fun b => by kernel_rfl) fun b10 ww25 a61 hS30 hf76 => ⟨fun _ => trivial, ?_⟩
        refine p_store_eq (i := 4) (j := 0) (b := b10) (off := 0) (vs := [vI r1.1, vI r1.2]) (cs' := [vI r1.1, vI r1.2]) hS30 hf76 rfl (by kernel_rfl) (by kernel_rfl) rfl fun ww26 a62 hS31 hf77 => ⟨fun _ => trivial, ?_⟩
        refine p_dt (by kernel_rfl) ?_
        refine w_seq (by kernel_rfl) ?_
        refine w_mid (by kernel_rfl) (fun a w => ∃ z11 : Zone, ∃ y9 : Bool, Zone.le z10 z11 ∧ Fr a 41 [(1, .func (.func 116) #[] #[pB b1 0]), (4, pB b7 0), (6, pB b8 0), (8, vI p2), (9, pB b10 0), (10, .slice e4 y10.length q4), (11, vI (y10.length : Int)), (12, vI y8), (26, .bool y9)] ∧ St z11 (box b10 [vI r1.1, vI r1.2] 41 :: ownS PtT 52 e7 q7 y7 :: box b8 [.slice e7 y7.length q7] 24 :: box b7 [.slice none 0 0] 24 :: ownS Ty.int 3 e4 q4 y10 :: box b2 [.slice none 0 0] 24 :: box b1 [.slice o_x0 x0.length c_x0] 24 :: L) w ∧ (F65_j6 (F65_l2 fuel x0 y10 n1) y7 y8 p2 r1 y9) = some r) ?_ ?_
        ·skip
         refine w_reg (by kernel_rfl) ?_
         refine p_qn 4 [vI r1.1] [(1, .func (.func 116) #[] #[pB b1 0]), (4, pB b7 0), (6, pB b8 0), (8, vI p2), (9, pB b10 0), (10, .slice e4 y10.length q4), (11, vI (y10.length : Int)), (12, vI y8), (22, .bool (decide (r1.1 < (-1000000000 : Int))))] [.cell ⟨b10, 0, none⟩ (vI r1.1)] hf77 (by kernel_rfl) (.cell (hS31.box (i := 0) rfl (j := 0) rfl) .nil) fun a63 hf78 => ?_
         rcases Bool.eq_false_or_eq_true (decide (r1.1 < (-1000000000 : Int))) with hb11 | hb11
         ·have hr29 := cond_t hb11 hr28
          have hf79 := Fr.conv hf78 (congrArg (fun z => ([(1, .func (.func 116) #[] #[pB b1 0]), (4, pB b7 0), (6, pB b8 0), (8, vI p2), (9, pB b10 0), (10, .slice e4 y10.length q4), (11, vI (y10.length : Int)), (12, vI y8), (22, .bool z)] : FL)) hb11)
          refine p_qt [] [(1, .func (.func 116) #[] #[pB b1 0]), (4, pB b7 0), (6, pB b8 0), (8, vI p2), (9, pB b10 0), (10, .slice e4 y10.length q4), (11, vI (y10.length : Int)), (12, vI y8), (23, undef), (24, undef), (25, undef), (26, .bool true)] [] hf79 (by kernel_rfl) .nil fun a64 hf80 => ?_
          have hf81 := Fr.keep (ks := [1, 4, 6, 8, 9, 10, 11, 12, 26]) (r := [(1, .func (.func 116) #[] #[pB b1 0]), (4, pB b7 0), (6, pB b8 0), (8, vI p2), (9, pB b10 0), (10, .slice e4 y10.length q4), (11, vI (y10.length : Int)), (12, vI y8), (26, .bool true)]) hf80 (by kernel_rfl)
          exact ⟨z10, true, (Zone.le_refl _), hf81, hS31, hr29⟩
         ·have hr30 := cond_f hb11 hr28
          have hf82 := Fr.conv hf78 (congrArg (fun z => ([(1, .func (.func 116) #[] #[pB b1 0]), (4, pB b7 0), (6, pB b8 0), (8, vI p2), (9, pB b10 0), (10, .slice e4 y10.length q4), (11, vI (y10.length : Int)), (12, vI y8), (22, .bool z)] : FL)) hb11)
          refine p_qt [vI r1.2] [(1, .func (.func 116) #[] #[pB b1 0]), (4, pB b7 0), (6, pB b8 0), (8, vI p2), (9, pB b10 0), (10, .slice e4 y10.length q4), (11, vI (y10.length : Int)), (12, vI y8), (23, pB b10 1), (24, vI r1.2), (25, .bool (decide (r1.2 > (1000000000 : Int)))), (26, .bool (decide (r1.2 > (1000000000 : Int))))] [.cell ⟨b10, 1, none⟩ (vI r1.2)] hf82 (by kernel_rfl) (.cell (hS31.box (i := 0) rfl (j := 1) rfl) .nil) fun a65 hf83 => ?_
          have hf84 := Fr.keep (ks := [1, 4, 6, 8, 9, 10, 11, 12, 26]) (r := [(1, .func (.func 116) #[] #[pB b1 0]), (4, pB b7 0), (6, pB b8 0), (8, vI p2), (9, pB b10 0), (10, .slice e4 y10.length q4), (11, vI (y10.length : Int)), (12, vI y8), (26, .bool (decide (r1.2 > (1000000000 : Int))))]) hf83 (by kernel_rfl)
          exact ⟨z10, (decide (r1.2 > (1000000000 : Int))), (Zone.le_refl _), hf84, hS31, hr30⟩
        ·rintro a66 ww27 ⟨z11, y9, k12, hf85, hS32, hr31⟩
         refine w_if hf85 (b := y9) (by kernel_rfl) (fun hb12 => ?_) (fun hb12 => ?_)
         ·have hr32 := cond_t hb12 hr31
          refine w_sr (by kernel_rfl) ?_
          refine p_qn 1 [] [(4, pB b7 0), (27, .agg #[.slice none 0 0])] [] hf85 (by kernel_rfl) .nil fun a67 hf86 => ?_
          refine p_store_eq (i := 1) (j := 3) (b := b7) (off := 0) (vs := [.slice none 0 0]) (cs' := [.slice none 0 0]) hS32 hf86 rfl (by kernel_rfl) (by kernel_rfl) rfl fun ww28 a68 hS33 hf87 => ⟨fun _ => trivial, ?_⟩
          refine p_qt [] [(4, pB b7 0), (5, vI 5)] [] hf87 (by kernel_rfl) .nil fun a69 hf88 => ?_
          refine w_ret (by kernel_rfl) ?_
          refine r_then ?_
          refine r_block ?_
          refine r_then ?_
          refine r_then ?_
          refine r_block ?_
          refine r_then ?_
          refine p_ret (os := [.slice none 0 0]) (v := .tuple #[.agg #[.slice none 0 0], vI 5]) (obs := [.cell ⟨b7, 0, none⟩ (.slice none 0 0)]) hf88 (by kernel_rfl) (.cell (hS33.box (i := 3) rfl (j := 0) rfl) .nil) ?_
          have hS34 := St.ownNil hS33 PtT 52
          exact ⟨_, rfl, z11, [], 5, none, 0, (Zone.le_trans (Zone.le_trans k10 k11) k12), rfl, (St.pick 5 [0] hS34 (by kernel_rfl)), hr32⟩
         ·have hr33 := cond_f hb12 hr31
          refine w_skip (by kernel_rfl) ?_
          refine n_then ?_
          refine w_reg (by kernel_rfl) ?_
          refine p_qn 8 [.slice e7 y7.length q7, vI r1.1, vI r1.2] [(1, .func (.func 116) #[] #[pB b1 0]), (4, pB b7 0), (6, pB b8 0), (10, .slice e4 y10.length q4), (11, vI (y10.length : Int)), (12, vI y8), (29, .slice e7 y7.length q7), (35, .agg #[vI p2, vI r1.1, vI r1.2])] [.cell ⟨b8, 0, none⟩ (.slice e7 y7.length q7), .cell ⟨b10, 0, none⟩ (vI r1.1), .cell ⟨b10, 1, none⟩ (vI r1.2)] hf85 (by kernel_rfl) (.cell (hS32.box (i := 2) rfl (j := 0) rfl) (.cell (hS32.box (i := 0) rfl (j := 0) rfl) (.cell (hS32.box (i := 0) rfl (j := 1) rfl) .nil))) fun a70 hf89 => ?_
          refine p_box (i := 8) (d := (some 36)) (cs := [vI p2, vI r1.1, vI r1.2]) (T := 52) (v := fun b11 => .slice (some ⟨b11, 0, none⟩) 1 1) hS32 hf89 (fun b => by kernel_rfl) fun b11 ww29 a71 hS35 hf90 => ⟨fun _ => trivial, ?_⟩
          have hS36 := hS35.ownBox (T := PtT) (E := 52) (n := 1) (xs := [⟨p2, r1.1, r1.2⟩]) (i := 0) rfl (Rows.cons (c := [vI p2, vI r1.1, vI r1.2]) rfl rfl) rfl (by decide)
          obtain ⟨d2, hd6, hr34⟩ := bind_some hr33
          refine p_append (T := PtT) (i := 9) (j := 2) (d := some 37) (o2 := (some ⟨b11, 0, none⟩)) (c2 := 1) (ys := ([⟨p2, r1.1, r1.2⟩])) el22 hS36 hf90 rfl (by kernel_rfl) (hS36.ownSrc (j := 0) rfl) hd6 fun e8 q8 ww30 a72 hS37 hf91 => ⟨fun _ => trivial, ?_⟩
          refine p_qn 1 [] [(1, .func (.func 116) #[] #[pB b1 0]), (4, pB b7 0), (6, pB b8 0), (10, .slice e4 y10.length q4), (11, vI (y10.length : Int)), (12, vI y8), (37, .slice e8 d2.length q8), (38, pB b8 0)] [] hf91 (by kernel_rfl) .nil fun a73 hf92 => ?_
          refine p_store_eq (i := 11) (j := 3) (b := b8) (off := 0) (vs := [.slice e8 d2.length q8]) (cs' := [.slice e8 d2.length q8]) hS37 hf92 rfl (by kernel_rfl) (by kernel_rfl) rfl fun ww31 a74 hS38 hf93 => ⟨fun _ => trivial, ?_⟩
          refine p_done (by kernel_rfl) ?_
          refine n_block ?_
          refine n_then ?_
          refine w_q [] [(1, .func (.func 116) #[] #[pB b1 0]), (4, pB b7 0), (6, pB b8 0), (10, .slice e4 y10.length q4), (11, vI (y10.length : Int)), (12, vI (w64 (y8 + (1 : Int))))] [] hf93 (by kernel_rfl) .nil fun a75 hf94 => ?_
          refine n_then ?_
          have hf95 := Fr.keep (ks := [1, 4, 6, 10, 11, 12]) (r := [(1, .func (.func 116) #[] #[pB b1 0]), (4, pB b7 0), (6, pB b8 0), (10, .slice e4 y10.length q4), (11, vI (y10.length : Int)), (12, vI (w64 (y8 + (1 : Int))))]) hf94 (by kernel_rfl)
          exact ⟨n1, Nat.lt_succ_self n1, z11, d2, (w64 (y8 + (1 : Int))), e8, q8, (Zone.le_trans (Zone.le_trans k10 k11) k12), hf95, (St.drop 2 hS38), hr34⟩
       ·have hr35 := cond_f hb9 hr25
        refine w_exit (id := 0) (by kernel_rfl) ?_
        refine x_then ?_
        refine x_then ?_
        refine x_block ?_
        refine n_then ?_
        refine w_sr (by kernel_rfl) ?_
        refine p_qn 1 [.slice e7 y7.length q7] [(4, pB b7 0), (40, .agg #[.slice e7 y7.length q7])] [.cell ⟨b8, 0, none⟩ (.slice e7 y7.length q7)] hf67 (by kernel_rfl) (.cell (hS25.box (i := 1) rfl (j := 0) rfl) .nil) fun a76 hf96 => ?_
        refine p_store_eq (i := 1) (j := 2) (b := b7) (off := 0) (vs := [.slice e7 y7.length q7]) (cs' := [.slice e7 y7.length q7]) hS25 hf96 rfl (by kernel_rfl) (by kernel_rfl) rfl fun ww32 a77 hS39 hf97 => ⟨fun _ => trivial, ?_⟩
        refine p_qt [] [(4, pB b7 0), (5, vI 0)] [] hf97 (by kernel_rfl) .nil fun a78 hf98 => ?_
        refine w_ret (by kernel_rfl) ?_
        refine p_ret (os := [.slice e7 y7.length q7]) (v := .tuple #[.agg #[.slice e7 y7.length q7], vI 0]) (obs := [.cell ⟨b7, 0, none⟩ (.slice e7 y7.length q7)]) hf98 (by kernel_rfl) (.cell (hS39.box (i := 2) rfl (j := 0) rfl) .nil) ?_
        exact ⟨_, rfl, z9, y7, 0, e7, q7, k10, rfl, (St.pick 3 [0] hS39 (by kernel_rfl)), hr35⟩
      ·rintro v4 ww33 a79 ⟨z8, y5, y6, e6, q6, k13, rfl, hS40, hr36⟩ hf99
       refine ⟨fun _ => trivial, ?_⟩
       refine p_qn 2 [] [(6, pB b2 0), (65, .agg #[.slice e6 y5.length q6]), (66, vI y6)] [] hf99 (by kernel_rfl) .nil fun a80 hf100 => ?_
       refine p_store_eq (i := 5) (j := 2) (b := b2) (off := 0) (vs := [.slice e6 y5.length q6]) (cs' := [.slice e6 y5.length q6]) hS40 hf100 rfl (by kernel_rfl) (by kernel_rfl) rfl fun ww34 a81 hS41 hf101 => ⟨fun _ => trivial, ?_⟩
       refine p_qt [] [(6, pB b2 0), (7, vI y6)] [] hf101 (by kernel_rfl) .nil fun a82 hf102 => ?_
       refine w_ret (by kernel_rfl) ?_
       obtain ⟨z12, k14, hS42, hx1⟩ := hS41.share (j := 0) rfl
       refine p_ret (os := [.slice e6 y5.length q6]) (v := .tuple #[.agg #[.slice e6 y5.length q6], vI y6]) (obs := [.cell ⟨b2, 0, none⟩ (.slice e6 y5.length q6)]) hf102 (by kernel_rfl) (.cell (hS42.box (i := 2) rfl (j := 0) rfl) .nil) ?_
       obtain rfl := some_eq hr36
       exact ⟨_, rfl, z12, e6, q6, (Zone.le_trans (Zone.le_trans (Zone.le_trans (Zone.le_trans (Zone.le_trans k3 k5) k6) k9) k13) k14), rfl, (St.drop 4 hS42), hx1⟩
def F66_j2 (k1 : (List Pt) → Int → Option (List Pt × Int)) (y1 : Int) (y2 : List Pt) : Option (List Pt × Int) :=
  (k1 y2 (w64 (y1 + (1 : Int))))
def F66_j3 (k1 : (List Pt) → Int → Option (List Pt × Int)) (y3 : List Pt) (y1 : Int) (p1 : Pt) (y4 : Bool) : Option (List Pt × Int) :=
  (cond y4 ((appC y3 ([⟨p1.x, p1.lo, p1.hi⟩])).bind fun d1 => (F66_j2 k1 y1 d1)) (F66_j2 k1 y1 y3))
def F66_j4 (y5 : List Pt) : Option (List Pt × Int) :=
  (some (y5, 0))
def F66_l1 (x0 : List Pt) (x1 : Int) (x2 : Int) (r1 : Int × Int) : Nat → (List Pt) → Int → Option (List Pt × Int)
  | 0, _, _ => none
  | n1 + 1, y3, y1 =>
    let k1 : (List Pt) → Int → Option (List Pt × Int) := F66_l1 x0 x1 x2 r1 n1
    (cond (decide (y1 < (x0.length : Int))) ((getI x0 y1).bind fun p1 => (cond (decide (x1 < p1.x)) (F66_j3 k1 y3 y1 p1 (decide (p1.x < x2))) (F66_j3 k1 y3 y1 p1 false))) (cond (decide (x1 < x2)) ((appC y3 ([⟨x2, r1.1, r1.2⟩])).bind fun d2 => (F66_j4 d2)) (F66_j4 y3)))
def F66_j1 (fuel : Nat) (x0 : List Pt) (x1 : Int) (x2 : Int) (y6 : Bool) : Option (List Pt × Int) :=
  (cond y6 (some ([], 4)) ((F92 fuel x0 x1).bind fun r2 => ((F92 fuel x0 x2).bind fun r1 => (F66_l1 x0 x1 x2 r1 fuel ([⟨x1, r2.1, r2.2⟩]) 0))))
def F66 (fuel : Nat) (x0 : List Pt) (x1 : Int) (x2 : Int) : Option (List Pt × Int) :=
  ((F12 fuel x0).bind fun r3 => (cond (!r3) (some ([], 11)) (cond (decide (x1 > x2)) (F66_j1 fuel x0 x1 x2 true) ((F91 fuel x0 x1).bind fun r4 => (cond (!r4) (F66_j1 fuel x0 x1 x2 true) ((F91 fuel x0 x2).bind fun r5 => (F66_j1 fuel x0 x1 x2 (!r5))))))))
set_option maxRecDepth 100000 in
theorem f66_ok (fuel : Nat) (x0 : List Pt) (x1 : Int) (x2 : Int) (r : List Pt × Int) (hr : F66 fuel x0 x1 x2 = some r) (h : Zone) (L : List Atom) (w : World) (hS : St h L w) (o_x0 : Option Addr) (c_x0 : Nat) (hx_x0 : SliceR PtT h o_x0 c_x0 x0) :
    Calls Try.prog 66 #[.agg #[.slice o_x0 x0.length c_x0], vI x1, vI x2] w fun e w' => ∃ v, e = .returned v ∧ (∃ h', ∃ o0 : Option Addr, ∃ c0 : Nat, Zone.le h h' ∧ v = .tuple #[.agg #[.slice o0 r.1.length c0], vI r.2] ∧ St h' L w' ∧ SliceR PtT h' o0 c0 r.1) := by
 refine calls_intro (N := 82) Try.func66 (by kernel_rfl) fun a hf => ?_
 refine w_sr (by kernel_rfl) ?_
 refine p_box (i := 0) (d := (some 3)) (cs := [.slice o_x0 x0.length c_x0]) (T := 24) (v := fun b1 => pB b1 0) hS hf (fun b => by kernel_rfl) fun b1 ww1 a1 hS1 hf1 => ⟨fun _ => trivial, ?_⟩
 refine p_box (i := 1) (d := (some 6)) (cs := [.slice none 0 0]) (T := 24) (v := fun b2 => pB b2 0) hS1 hf1 (fun b => by kernel_rfl) fun b2 ww2 a2 hS2 hf2 => ⟨fun _ => trivial, ?_⟩
 refine p_qt [] [(1, vI x1), (2, vI x2), (3, pB b1 0), (6, pB b2 0)] [] hf2 (by kernel_rfl) .nil fun a3 hf3 => ?_
 refine w_seq (by kernel_rfl) ?_
 refine w_sr (by kernel_rfl) ?_
 refine p_qn 1 [.slice o_x0 x0.length c_x0] [(1, vI x1), (2, vI x2), (3, pB b1 0), (6, pB b2 0), (13, .agg #[.slice o_x0 x0.length c_x0])] [.cell ⟨b1, 0, none⟩ (.slice o_x0 x0.length c_x0)] hf3 (by kernel_rfl) (.cell (hS2.box (i := 1) rfl (j := 0) rfl) .nil) fun a4 hf4 => ?_
 obtain ⟨r3, hd1, hr1⟩ := bind_some hr
 refine p_call (i := 1) (d := some 14) (f := 12) (args := #[.agg #[.slice o_x0 x0.length c_x0]]) hf4 (by kernel_rfl) (f12_ok fuel x0 r3 hd1 h _ _ hS2 o_x0 c_x0 hx_x0) ?_
 rintro v1 ww3 a5 ⟨z1, k2, rfl, hS3⟩ hf5
 refine ⟨fun _ => trivial, ?_⟩
 refine p_qt [] [(1, vI x1), (2, vI x2), (3, pB b1 0), (6, pB b2 0), (15, .bool (!r3))] [] hf5 (by kernel_rfl) .nil fun a6 hf6 => ?_
 refine w_if hf6 (b := (!r3)) (by kernel_rfl) (fun hb1 => ?_) (fun hb1 => ?_)
 ·have hr2 := cond_t hb1 hr1
  refine w_sr (by kernel_rfl) ?_
  refine p_qn 1 [] [(6, pB b2 0), (16, .agg #[.slice none 0 0])] [] hf6 (by kernel_rfl) .nil fun a7 hf7 => ?_
  refine p_store_eq (i := 1) (j := 0) (b := b2) (off := 0) (vs := [.slice none 0 0]) (cs' := [.slice none 0 0]) hS3 hf7 rfl (by kernel_rfl) (by kernel_rfl) rfl fun ww4 a8 hS4 hf8 => ⟨fun _ => trivial, ?_⟩
  refine p_qt [] [(6, pB b2 0), (7, vI 11)] [] hf8 (by kernel_rfl) .nil fun a9 hf9 => ?_
  refine w_ret (by kernel_rfl) ?_
  refine r_then ?_
  refine p_ret (os := [.slice none 0 0]) (v := .tuple #[.agg #[.slice none 0 0], vI 11]) (obs := [.cell ⟨b2, 0, none⟩ (.slice none 0 0)]) hf9 (by kernel_rfl) (.cell (hS4.box (i := 0) rfl (j := 0) rfl) .nil) ?_
  obtain rfl := some_eq hr2
  exact ⟨_, rfl, z1, none, 0, k2, rfl, (St.drop 2 hS4), SliceR.nil' _ _⟩
 ·have hr3 := cond_f hb1 hr1
  refine w_skip (by kernel_rfl) ?_
  refine n_then ?_
  refine w_seq (by kernel_rfl) ?_
  refine w_mid (by kernel_rfl) (fun a w => ∃ z2 : Zone, ∃ y6 : Bool, Zone.le z1 z2 ∧ Fr a 82 [(1, vI x1), (2, vI x2), (3, pB b1 0), (6, pB b2 0), (31, .bool y6)] ∧ St z2 (box b2 [.slice none 0 0] 24 :: box b1 [.slice o_x0 x0.length c_x0] 24 :: L) w ∧ (F66_j1 fuel x0 x1 x2 y6) = some r) ?_ ?_
  ·skip
   refine w_reg (by kernel_rfl) ?_
   refine p_qn 4 [] [(1, vI x1), (2, vI x2), (3, pB b1 0), (6, pB b2 0), (20, .bool (decide (x1 > x2)))] [] hf6 (by kernel_rfl) .nil fun a10 hf10 => ?_
   rcases Bool.eq_false_or_eq_true (decide (x1 > x2)) with hb2 | hb2
   ·have hr4 := cond_t hb2 hr3
    have hf11 := Fr.conv hf10 (congrArg (fun z => ([(1, vI x1), (2, vI x2), (3, pB b1 0), (6, pB b2 0), (20, .bool z)] : FL)) hb2)
    refine p_qt [] [(1, vI x1), (2, vI x2), (3, pB b1 0), (6, pB b2 0), (31, .bool true)] [] hf11 (by kernel_rfl) .nil fun a11 hf12 => ?_
    have hf13 := Fr.keep (ks := [1, 2, 3, 6, 31]) (r := [(1, vI x1), (2, vI x2), (3, pB b1 0), (6, pB b2 0), (31, .bool true)]) hf12 (by kernel_rfl)
    exact ⟨z1, true, (Zone.le_refl _), hf13, hS3, hr4⟩
   ·have hr5 := cond_f hb2 hr3
    have hf14 := Fr.conv hf10 (congrArg (fun z => ([(1, vI x1), (2, vI x2), (3, pB b1 0), (6, pB b2 0), (20, .bool z)] : FL)) hb2)
    refine p_qn 2 [.slice o_x0 x0.length c_x0] [(1, vI x1), (2, vI x2), (3, pB b1 0), (6, pB b2 0), (20, .bool false), (21, .agg #[.slice o_x0 x0.length c_x0]), (22, vI x1)] [.cell ⟨b1, 0, none⟩ (.slice o_x0 x0.length c_x0)] hf14 (by kernel_rfl) (.cell (hS3.box (i := 1) rfl (j := 0) rfl) .nil) fun a12 hf15 => ?_
    obtain ⟨r4, hd2, hr6⟩ := bind_some hr5
    refine p_call (i := 6) (d := some 23) (f := 91) (args := #[.agg #[.slice o_x0 x0.length c_x0], vI x1]) hf15 (by kernel_rfl) (f91_ok fuel x0 x1 r4 hd2 z1 _ _ hS3 o_x0 c_x0 (SliceR.mono k2 hx_x0)) ?_
    rintro v2 ww5 a13 ⟨z3, k3, rfl, hS5⟩ hf16
    refine ⟨fun _ => trivial, ?_⟩
    refine p_qn 3 [] [(1, vI x1), (2, vI x2), (3, pB b1 0), (6, pB b2 0), (26, .bool (!r4))] [] hf16 (by kernel_rfl) .nil fun a14 hf17 => ?_
    rcases Bool.eq_false_or_eq_true (!r4) with hb3 | hb3
    ·have hr7 := cond_t hb3 hr6
     have hf18 := Fr.conv hf17 (congrArg (fun z => ([(1, vI x1), (2, vI x2), (3, pB b1 0), (6, pB b2 0), (26, .bool z)] : FL)) hb3)
     refine p_qt [] [(1, vI x1), (2, vI x2), (3, pB b1 0), (6, pB b2 0), (31, .bool true)] [] hf18 (by kernel_rfl) .nil fun a15 hf19 => ?_
     have hf20 := Fr.keep (ks := [1, 2, 3, 6, 31]) (r := [(1, vI x1), (2, vI x2), (3, pB b1 0), (6, pB b2 0), (31, .bool true)]) hf19 (by kernel_rfl)
     exact ⟨z3, true, k3, hf20, hS5, hr7⟩
    ·have hr8 := cond_f hb3 hr6
     have hf21 := Fr.conv hf17 (congrArg (fun z => ([(1, vI x1), (2, vI x2), (3, pB b1 0), (6, pB b2 0), (26, .bool z)] : FL)) hb3)
     refine p_qn 2 [.slice o_x0 x0.length c_x0] [(1, vI x1), (2, vI x2), (3, pB b1 0), (6, pB b2 0), (26, .bool false), (27, .agg #[.slice o_x0 x0.length c_x0]), (28, vI x2)] [.cell ⟨b1, 0, none⟩ (.slice o_x0 x0.length c_x0)] hf21 (by kernel_rfl) (.cell (hS5.box (i := 1) rfl (j := 0) rfl) .nil) fun a16 hf22 => ?_
     obtain ⟨r5, hd3, hr9⟩ := bind_some hr8
     refine p_call (i := 12) (d := some 29) (f := 91) (args := #[.agg #[.slice o_x0 x0.length c_x0], vI x2]) hf22 (by kernel_rfl) (f91_ok fuel x0 x2 r5 hd3 z3 _ _ hS5 o_x0 c_x0 (SliceR.mono (Zone.le_trans k2 k3) hx_x0)) ?_
     rintro v3 ww6 a17 ⟨z4, k4, rfl, hS6⟩ hf23
     refine ⟨fun _ => trivial, ?_⟩
     refine p_qt [] [(1, vI x1), (2, vI x2), (3, pB b1 0), (6, pB b2 0), (31, .bool (!r5))] [] hf23 (by kernel_rfl) .nil fun a18 hf24 => ?_
     have hf25 := Fr.keep (ks := [1, 2, 3, 6, 31]) (r := [(1, vI x1), (2, vI x2), (3, pB b1 0), (6, pB b2 0), (31, .bool (!r5))]) hf24 (by kernel_rfl)
     exact ⟨z4, (!r5), (Zone.le_trans k3 k4), hf25, hS6, hr9⟩
  ·rintro a19 ww7 ⟨z2, y6, k5, hf26, hS7, hr10⟩
   refine w_if hf26 (b := y6) (by kernel_rfl) (fun hb4 => ?_) (fun hb4 => ?_)
   ·have hr11 := cond_t hb4 hr10
    refine w_sr (by kernel_rfl) ?_
    refine p_qn 1 [] [(6, pB b2 0), (32, .agg #[.slice none 0 0])] [] hf26 (by kernel_rfl) .nil fun a20 hf27 => ?_
    refine p_store_eq (i := 1) (j := 0) (b := b2) (off := 0) (vs := [.slice none 0 0]) (cs' := [.slice none 0 0]) hS7 hf27 rfl (by kernel_rfl) (by kernel_rfl) rfl fun ww8 a21 hS8 hf28 => ⟨fun _ => trivial, ?_⟩
    refine p_qt [] [(6, pB b2 0), (7, vI 4)] [] hf28 (by kernel_rfl) .nil fun a22 hf29 => ?_
    refine w_ret (by kernel_rfl) ?_
    refine r_then ?_
    refine p_ret (os := [.slice none 0 0]) (v := .tuple #[.agg #[.slice none 0 0], vI 4]) (obs := [.cell ⟨b2, 0, none⟩ (.slice none 0 0)]) hf29 (by kernel_rfl) (.cell (hS8.box (i := 0) rfl (j := 0) rfl) .nil) ?_
    obtain rfl := some_eq hr11
    exact ⟨_, rfl, z2, none, 0, (Zone.le_trans k2 k5), rfl, (St.drop 2 hS8), SliceR.nil' _ _⟩
   ·have hr12 := cond_f hb4 hr10
    refine w_skip (by kernel_rfl) ?_
    refine n_then ?_
    refine w_sr (by kernel_rfl) ?_
    refine p_qn 2 [.slice o_x0 x0.length c_x0] [(1, vI x1), (2, vI x2), (3, pB b1 0), (6, pB b2 0), (33, .agg #[.slice o_x0 x0.length c_x0]), (34, vI x1)] [.cell ⟨b1, 0, none⟩ (.slice o_x0 x0.length c_x0)] hf26 (by kernel_rfl) (.cell (hS7.box (i := 1) rfl (j := 0) rfl) .nil) fun a23 hf30 => ?_
    obtain ⟨r2, hd4, hr13⟩ := bind_some hr12
    refine p_call (i := 2) (d := some 35) (f := 92) (args := #[.agg #[.slice o_x0 x0.length c_x0], vI x1]) hf30 (by kernel_rfl) (f92_ok fuel x0 x1 r2 hd4 z2 _ _ hS7 o_x0 c_x0 (SliceR.mono (Zone.le_trans k2 k5) hx_x0)) ?_
    rintro v4 ww9 a24 ⟨z5, k6, rfl, hS9⟩ hf31
    refine ⟨fun _ => trivial, ?_⟩
    refine p_box (i := 3) (d := (some 8)) (cs := [vI 0, vI 0]) (T := 41) (v := fun b3 => pB b3 0) hS9 hf31 (fun b => by kernel_rfl) fun b3 ww10 a25 hS10 hf32 => ⟨fun _ => trivial, ?_⟩
    refine p_store_eq (i := 4) (j := 0) (b := b3) (off := 0) (vs := [vI r2.1, vI r2.2]) (cs' := [vI r2.1, vI r2.2]) hS10 hf32 rfl (by kernel_rfl) (by kernel_rfl) rfl fun ww11 a26 hS11 hf33 => ⟨fun _ => trivial, ?_⟩
    refine p_dt (by kernel_rfl) ?_
    refine w_sr (by kernel_rfl) ?_
    refine p_qn 2 [.slice o_x0 x0.length c_x0] [(1, vI x1), (2, vI x2), (3, pB b1 0), (6, pB b2 0), (8, pB b3 0), (36, .agg #[.slice o_x0 x0.length c_x0]), (37, vI x2)] [.cell ⟨b1, 0, none⟩ (.slice o_x0 x0.length c_x0)] hf33 (by kernel_rfl) (.cell (hS11.box (i := 2) rfl (j := 0) rfl) .nil) fun a27 hf34 => ?_
    obtain ⟨r1, hd5, hr14⟩ := bind_some hr13
    refine p_call (i := 2) (d := some 38) (f := 92) (args := #[.agg #[.slice o_x0 x0.length c_x0], vI x2]) hf34 (by kernel_rfl) (f92_ok fuel x0 x2 r1 hd5 z5 _ _ hS11 o_x0 c_x0 (SliceR.mono (Zone.le_trans (Zone.le_trans k2 k5) k6) hx_x0)) ?_
    rintro v5 ww12 a28 ⟨z6, k7, rfl, hS12⟩ hf35
    refine ⟨fun _ => trivial, ?_⟩
    refine p_box (i := 3) (d := (some 9)) (cs := [vI 0, vI 0]) (T := 41) (v := fun b4 => pB b4 0) hS12 hf35 (fun b => by kernel_rfl) fun b4 ww13 a29 hS13 hf36 => ⟨fun _ => trivial, ?_⟩
    refine p_store_eq (i := 4) (j := 0) (b := b4) (off := 0) (vs := [vI r1.1, vI r1.2]) (cs' := [vI r1.1, vI r1.2]) hS13 hf36 rfl (by kernel_rfl) (by kernel_rfl) rfl fun ww14 a30 hS14 hf37 => ⟨fun _ => trivial, ?_⟩
    refine p_dt (by kernel_rfl) ?_
    refine w_sr (by kernel_rfl) ?_
    refine p_qn 6 [vI r2.1, vI r2.2] [(1, vI x1), (2, vI x2), (3, pB b1 0), (6, pB b2 0), (9, pB b4 0), (44, .agg #[vI x1, vI r2.1, vI r2.2])] [.cell ⟨b3, 0, none⟩ (vI r2.1), .cell ⟨b3, 1, none⟩ (vI r2.2)] hf37 (by kernel_rfl) (.cell (hS14.box (i := 1) rfl (j := 0) rfl) (.cell (hS14.box (i := 1) rfl (j := 1) rfl) .nil)) fun a31 hf38 => ?_
    refine p_box (i := 6) (d := (some 45)) (cs := [vI x1, vI r2.1, vI r2.2]) (T := 52) (v := fun b5 => .slice (some ⟨b5, 0, none⟩) 1 1) hS14 hf38 (fun b => by kernel_rfl) fun b5 ww15 a32 hS15 hf39 => ⟨fun _ => trivial, ?_⟩
    have hS16 := hS15.ownBox (T := PtT) (E := 52) (n := 1) (xs := [⟨x1, r2.1, r2.2⟩]) (i := 0) rfl (Rows.cons (c := [vI x1, vI r2.1, vI r2.2]) rfl rfl) rfl (by decide)
    refine p_qt [] [(1, vI x1), (2, vI x2), (3, pB b1 0), (6, pB b2 0), (9, pB b4 0), (10, .slice (some ⟨b5, 0, none⟩) 1 1)] [] hf39 (by kernel_rfl) .nil fun a33 hf40 => ?_
    refine w_seq (by kernel_rfl) ?_
    refine w_sq [.slice o_x0 x0.length c_x0] [(1, vI x1), (2, vI x2), (6, pB b2 0), (9, pB b4 0), (10, .slice (some ⟨b5, 0, none⟩) 1 1), (47, .slice o_x0 x0.length c_x0), (48, vI (x0.length : Int)), (49, vI 0)] [.cell ⟨b1, 0, none⟩ (.slice o_x0 x0.length c_x0)] hf40 (by kernel_rfl) (.cell (hS16.box (i := 4) rfl (j := 0) rfl) .nil) fun a34 hf41 => ?_
    refine w_block (id := 0) (by kernel_rfl) ?_
    have hf42 := Fr.keep (ks := [1, 2, 6, 9, 10, 47, 48, 49]) (r := [(1, vI x1), (2, vI x2), (6, pB b2 0), (9, pB b4 0), (10, .slice (some ⟨b5, 0, none⟩) 1 1), (47, .slice o_x0 x0.length c_x0), (48, vI (x0.length : Int)), (49, vI 0)]) hf41 (by kernel_rfl)
    refine w_loop (by kernel_rfl) (fun n a w => ∃ z7 : Zone, ∃ y3 : List Pt, ∃ y1 : Int, ∃ e1 : Option Addr, ∃ q1 : Nat, Zone.le z6 z7 ∧ Fr a 82 [(1, vI x1), (2, vI x2), (6, pB b2 0), (9, pB b4 0), (10, .slice e1 y3.length q1), (47, .slice o_x0 x0.length c_x0), (48, vI (x0.length : Int)), (49, vI y1)] ∧ St z7 (ownS PtT 52 e1 q1 y3 :: box b4 [vI r1.1, vI r1.2] 41 :: box b3 [vI r2.1, vI r2.2] 41 :: box b2 [.slice none 0 0] 24 :: box b1 [.slice o_x0 x0.length c_x0] 24 :: L) w ∧ (F66_l1 x0 x1 x2 r1 n y3 y1) = some r) fuel ⟨z6, [⟨x1, r2.1, r2.2⟩], 0, (some ⟨b5, 0, none⟩), 1, (Zone.le_refl _), hf42, hS16, hr14⟩ ?_
    rintro n2 a35 ww16 ⟨z7, y3, y1, e1, q1, k8, hf43, hS17, hr15⟩
    cases n2 with
    | zero => cases hr15
    | succ n1 =>
    refine w_sq [] [(1, vI x1), (2, vI x2), (6, pB b2 0), (9, pB b4 0), (10, .slice e1 y3.length q1), (47, .slice o_x0 x0.length c_x0), (48, vI (x0.length : Int)), (49, vI y1), (50, .bool (decide (y1 < (x0.length : Int))))] [] hf43 (by kernel_rfl) .nil fun a36 hf44 => ?_
    refine w_seq (by kernel_rfl) ?_
    refine w_if hf44 (b := (decide (y1 < (x0.length : Int)))) (by kernel_rfl) (fun hb5 => ?_) (fun hb5 => ?_)
    ·have hr16 := cond_t hb5 hr15
     refine w_skip (by kernel_rfl) ?_
     refine n_then ?_
     refine w_mid (by kernel_rfl) (fun a w => ∃ z8 : Zone, ∃ y2 : List Pt, ∃ e2 : Option Addr, ∃ q2 : Nat, Zone.le z7 z8 ∧ Fr a 82 [(1, vI x1), (2, vI x2), (6, pB b2 0), (9, pB b4 0), (10, .slice e2 y2.length q2), (47, .slice o_x0 x0.length c_x0), (48, vI (x0.length : Int)), (49, vI y1)] ∧ St z8 (ownS PtT 52 e2 q2 y2 :: box b4 [vI r1.1, vI r1.2] 41 :: box b3 [vI r2.1, vI r2.2] 41 :: box b2 [.slice none 0 0] 24 :: box b1 [.slice o_x0 x0.length c_x0] 24 :: L) w ∧ (F66_j2 (F66_l1 x0 x1 x2 r1 n1) y1 y2) = some r) ?_ ?_
     ·skip
      refine w_block (id := 1) (by kernel_rfl) ?_
      refine w_sr (by kernel_rfl) ?_
      obtain ⟨p1, hp2580, hr17⟩ := bind_some hr16
      obtain ⟨ad1, ho1, hb6, cc1, hc1, hk1⟩ := SliceR.getI (SliceR.mono (Zone.le_trans (Zone.le_trans (Zone.le_trans (Zone.le_trans k2 k5) k6) k7) k8) hx_x0) hp2580
      subst hc1
      refine p_qn 2 [.pointer (some ad1), vI p1.x, vI p1.lo, vI p1.hi] [(1, vI x1), (2, vI x2), (6, pB b2 0), (9, pB b4 0), (10, .slice e1 y3.length q1), (47, .slice o_x0 x0.length c_x0), (48, vI (x0.length : Int)), (49, vI y1), (52, .agg #[vI p1.x, vI p1.lo, vI p1.hi])] [.prop (o_x0 = some ad1), .prop (0 ≤ y1 ∧ y1 < (x0.length : Nat)), .cell ((ad1.add (Int.toNat y1 * 3)).add 0) (vI p1.x), .cell ((ad1.add (Int.toNat y1 * 3)).add 1) (vI p1.lo), .cell ((ad1.add (Int.toNat y1 * 3)).add 2) (vI p1.hi)] hf44 (by kernel_rfl) (.prop ho1 (.prop hb6 (.cell (hS17.cell (hk1 0 _ rfl)) (.cell (hS17.cell (hk1 1 _ rfl)) (.cell (hS17.cell (hk1 2 _ rfl)) .nil))))) fun a37 hf45 => ?_
      refine p_box (i := 2) (d := (some 12)) (cs := [vI 0, vI 0, vI 0]) (T := 52) (v := fun b6 => pB b6 0) hS17 hf45 (fun b => by kernel_rfl) fun b6 ww17 a38 hS18 hf46 => ⟨fun _ => trivial, ?_⟩
      refine p_store_eq (i := 3) (j := 0) (b := b6) (off := 0) (vs := [vI p1.x, vI p1.lo, vI p1.hi]) (cs' := [vI p1.x, vI p1.lo, vI p1.hi]) hS18 hf46 rfl (by kernel_rfl) (by kernel_rfl) rfl fun ww18 a39 hS19 hf47 => ⟨fun _ => trivial, ?_⟩
      refine p_dt (by kernel_rfl) ?_
      refine w_mid (by kernel_rfl) (fun a w => ∃ z9 : Zone, ∃ y4 : Bool, Zone.le z7 z9 ∧ Fr a 82 [(1, vI x1), (2, vI x2), (6, pB b2 0), (9, pB b4 0), (10, .slice e1 y3.length q1), (12, pB b6 0), (47, .slice o_x0 x0.length c_x0), (48, vI (x0.length : Int)), (49, vI y1), (62, .bool y4)] ∧ St z9 (box b6 [vI p1.x, vI p1.lo, vI p1.hi] 52 :: ownS PtT 52 e1 q1 y3 :: box b4 [vI r1.1, vI r1.2] 41 :: box b3 [vI r2.1, vI r2.2] 41 :: box b2 [.slice none 0 0] 24 :: box b1 [.slice o_x0 x0.length c_x0] 24 :: L) w ∧ (F66_j3 (F66_l1 x0 x1 x2 r1 n1) y3 y1 p1 y4) = some r) ?_ ?_
      ·skip
       refine w_reg (by kernel_rfl) ?_
       refine p_qn 5 [vI p1.x] [(1, vI x1), (2, vI x2), (6, pB b2 0), (9, pB b4 0), (10, .slice e1 y3.length q1), (12, pB b6 0), (47, .slice o_x0 x0.length c_x0), (48, vI (x0.length : Int)), (49, vI y1), (57, .bool (decide (x1 < p1.x)))] [.cell ⟨b6, 0, none⟩ (vI p1.x)] hf47 (by kernel_rfl) (.cell (hS19.box (i := 0) rfl (j := 0) rfl) .nil) fun a40 hf48 => ?_
       rcases Bool.eq_false_or_eq_true (decide (x1 < p1.x)) with hb7 | hb7
       ·have hr18 := cond_t hb7 hr17
        have hf49 := Fr.conv hf48 (congrArg (fun z => ([(1, vI x1), (2, vI x2), (6, pB b2 0), (9, pB b4 0), (10, .slice e1 y3.length q1), (12, pB b6 0), (47, .slice o_x0 x0.length c_x0), (48, vI (x0.length : Int)), (49, vI y1), (57, .bool z)] : FL)) hb7)
        refine p_qt [vI p1.x] [(1, vI x1), (2, vI x2), (6, pB b2 0), (9, pB b4 0), (10, .slice e1 y3.length q1), (12, pB b6 0), (47, .slice o_x0 x0.length c_x0), (48, vI (x0.length : Int)), (49, vI y1), (58, pB b6 0), (59, vI p1.x), (60, vI x2), (61, .bool (decide (p1.x < x2))), (62, .bool (decide (p1.x < x2)))] [.cell ⟨b6, 0, none⟩ (vI p1.x)] hf49 (by kernel_rfl) (.cell (hS19.box (i := 0) rfl (j := 0) rfl) .nil) fun a41 hf50 => ?_
        have hf51 := Fr.keep (ks := [1, 2, 6, 9, 10, 12, 47, 48, 49, 62]) (r := [(1, vI x1), (2, vI x2), (6, pB b2 0), (9, pB b4 0), (10, .slice e1 y3.length q1), (12, pB b6 0), (47, .slice o_x0 x0.length c_x0), (48, vI (x0.length : Int)), (49, vI y1), (62, .bool (decide (p1.x < x2)))]) hf50 (by kernel_rfl)
        exact ⟨z7, (decide (p1.x < x2)), (Zone.le_refl _), hf51, hS19, hr18⟩
       ·have hr19 := cond_f hb7 hr17
        have hf52 := Fr.conv hf48 (congrArg (fun z => ([(1, vI x1), (2, vI x2), (6, pB b2 0), (9, pB b4 0), (10, .slice e1 y3.length q1), (12, pB b6 0), (47, .slice o_x0 x0.length c_x0), (48, vI (x0.length : Int)), (49, vI y1), (57, .bool z)] : FL)) hb7)
        refine p_qt [] [(1, vI x1), (2, vI x2), (6, pB b2 0), (9, pB b4 0), (10, .slice e1 y3.length q1), (12, pB b6 0), (47, .slice o_x0 x0.length c_x0), (48, vI (x0.length : Int)), (49, vI y1), (58, undef), (59, undef), (60, undef), (61, undef), (62, .bool false)] [] hf52 (by kernel_rfl) .nil fun a42 hf53 => ?_
        have hf54 := Fr.keep (ks := [1, 2, 6, 9, 10, 12, 47, 48, 49, 62]) (r := [(1, vI x1), (2, vI x2), (6, pB b2 0), (9, pB b4 0), (10, .slice e1 y3.length q1), (12, pB b6 0), (47, .slice o_x0 x0.length c_x0), (48, vI (x0.length : Int)), (49, vI y1), (62, .bool false)]) hf53 (by kernel_rfl)
        exact ⟨z7, false, (Zone.le_refl _), hf54, hS19, hr19⟩
      ·rintro a43 ww19 ⟨z9, y4, k9, hf55, hS20, hr20⟩
       refine w_if hf55 (b := y4) (by kernel_rfl) (fun hb8 => ?_) (fun hb8 => ?_)
       ·have hr21 := cond_t hb8 hr20
        refine w_reg (by kernel_rfl) ?_
        refine p_qn 2 [vI p1.x, vI p1.lo, vI p1.hi] [(1, vI x1), (2, vI x2), (6, pB b2 0), (9, pB b4 0), (47, .slice o_x0 x0.length c_x0), (48, vI (x0.length : Int)), (49, vI y1), (63, .slice e1 y3.length q1), (64, .agg #[vI p1.x, vI p1.lo, vI p1.hi])] [.cell ⟨b6, 0, none⟩ (vI p1.x), .cell ⟨b6, 1, none⟩ (vI p1.lo), .cell ⟨b6, 2, none⟩ (vI p1.hi)] hf55 (by kernel_rfl) (.cell (hS20.box (i := 0) rfl (j := 0) rfl) (.cell (hS20.box (i := 0) rfl (j := 1) rfl) (.cell (hS20.box (i := 0) rfl (j := 2) rfl) .nil))) fun a44 hf56 => ?_
        refine p_box (i := 2) (d := (some 65)) (cs := [vI p1.x, vI p1.lo, vI p1.hi]) (T := 52) (v := fun b7 => .slice (some ⟨b7, 0, none⟩) 1 1) hS20 hf56 (fun b => by kernel_rfl) fun b7 ww20 a45 hS21 hf57 => ⟨fun _ => trivial, ?_⟩
        have hS22 := hS21.ownBox (T := PtT) (E := 52) (n := 1) (xs := [⟨p1.x, p1.lo, p1.hi⟩]) (i := 0) rfl (Rows.cons (c := [vI p1.x, vI p1.lo, vI p1.hi]) rfl rfl) rfl (by decide)
        obtain ⟨d1, hd6, hr22⟩ := bind_some hr21
        refine p_append (T := PtT) (i := 3) (j := 2) (d := some 66) (o2 := (some ⟨b7, 0, none⟩)) (c2 := 1) (ys := ([⟨p1.x, p1.lo, p1.hi⟩])) el22 hS22 hf57 rfl (by kernel_rfl) (hS22.ownSrc (j := 0) rfl) hd6 fun e3 q3 ww21 a46 hS23 hf58 => ⟨fun _ => trivial, ?_⟩
        refine p_qz [] [(1, vI x1), (2, vI x2), (6, pB b2 0), (9, pB b4 0), (10, .slice e3 d1.length q3), (47, .slice o_x0 x0.length c_x0), (48, vI (x0.length : Int)), (49, vI y1)] [] hf58 (by kernel_rfl) .nil fun a47 hf59 => ?_
        refine n_block ?_
        refine n_then ?_
        have hf60 := Fr.keep (ks := [1, 2, 6, 9, 10, 47, 48, 49]) (r := [(1, vI x1), (2, vI x2), (6, pB b2 0), (9, pB b4 0), (10, .slice e3 d1.length q3), (47, .slice o_x0 x0.length c_x0), (48, vI (x0.length : Int)), (49, vI y1)]) hf59 (by kernel_rfl)
        exact ⟨z9, d1, e3, q3, k9, hf60, (St.drop 2 hS23), hr22⟩
       ·have hr23 := cond_f hb8 hr20
        refine w_skip (by kernel_rfl) ?_
        refine n_block ?_
        refine n_then ?_
        have hf61 := Fr.keep (ks := [1, 2, 6, 9, 10, 47, 48, 49]) (r := [(1, vI x1), (2, vI x2), (6, pB b2 0), (9, pB b4 0), (10, .slice e1 y3.length q1), (47, .slice o_x0 x0.length c_x0), (48, vI (x0.length : Int)), (49, vI y1)]) hf55 (by kernel_rfl)
        exact ⟨z9, y3, e1, q1, k9, hf61, (St.drop 1 hS20), hr23⟩
     ·rintro a48 ww22 ⟨z8, y2, e2, q2, k10, hf62, hS24, hr24⟩
      refine w_q [] [(1, vI x1), (2, vI x2), (6, pB b2 0), (9, pB b4 0), (10, .slice e2 y2.length q2), (47, .slice o_x0 x0.length c_x0), (48, vI (x0.length : Int)), (49, vI (w64 (y1 + (1 : Int))))] [] hf62 (by kernel_rfl) .nil fun a49 hf63 => ?_
      refine n_then ?_
      have hf64 := Fr.keep (ks := [1, 2, 6, 9, 10, 47, 48, 49]) (r := [(1, vI x1), (2, vI x2), (6, pB b2 0), (9, pB b4 0), (10, .slice e2 y2.length q2), (47, .slice o_x0 x0.length c_x0), (48, vI (x0.length : Int)), (49, vI (w64 (y1 + (1 : Int))))]) hf63 (by kernel_rfl)
      exact ⟨n1, Nat.lt_succ_self n1, z8, y2, (w64 (y1 + (1 : Int))), e2, q2, (Zone.le_trans k8 k10), hf64, hS24, hr24⟩
    ·have hr25 := cond_f hb5 hr15
     refine w_exit (id := 0) (by kernel_rfl) ?_
     refine x_then ?_
     refine x_then ?_
     refine x_block ?_
     refine n_then ?_
     refine w_mid (by kernel_rfl) (fun a w => ∃ z10 : Zone, ∃ y5 : List Pt, ∃ e4 : Option Addr, ∃ q4 : Nat, Zone.le z7 z10 ∧ Fr a 82 [(6, pB b2 0), (10, .slice e4 y5.length q4)] ∧ St z10 (ownS PtT 52 e4 q4 y5 :: box b4 [vI r1.1, vI r1.2] 41 :: box b3 [vI r2.1, vI r2.2] 41 :: box b2 [.slice none 0 0] 24 :: box b1 [.slice o_x0 x0.length c_x0] 24 :: L) w ∧ (F66_j4 y5) = some r) ?_ ?_
     ·skip
      refine w_sq [] [(2, vI x2), (6, pB b2 0), (9, pB b4 0), (10, .slice e1 y3.length q1), (70, .bool (decide (x1 < x2)))] [] hf44 (by kernel_rfl) .nil fun a50 hf65 => ?_
      refine w_if hf65 (b := (decide (x1 < x2))) (by kernel_rfl) (fun hb9 => ?_) (fun hb9 => ?_)
      ·have hr26 := cond_t hb9 hr25
       refine w_reg (by kernel_rfl) ?_
       refine p_qn 7 [vI r1.1, vI r1.2] [(6, pB b2 0), (71, .slice e1 y3.length q1), (77, .agg #[vI x2, vI r1.1, vI r1.2])] [.cell ⟨b4, 0, none⟩ (vI r1.1), .cell ⟨b4, 1, none⟩ (vI r1.2)] hf65 (by kernel_rfl) (.cell (hS17.box (i := 1) rfl (j := 0) rfl) (.cell (hS17.box (i := 1) rfl (j := 1) rfl) .nil)) fun a51 hf66 => ?_
       refine p_box (i := 7) (d := (some 78)) (cs := [vI x2, vI r1.1, vI r1.2]) (T := 52) (v := fun b8 => .slice (some ⟨b8, 0, none⟩) 1 1) hS17 hf66 (fun b => by kernel_rfl) fun b8 ww23 a52 hS25 hf67 => ⟨fun _ => trivial, ?_⟩
       have hS26 := hS25.ownBox (T := PtT) (E := 52) (n := 1) (xs := [⟨x2, r1.1, r1.2⟩]) (i := 0) rfl (Rows.cons (c := [vI x2, vI r1.1, vI r1.2]) rfl rfl) rfl (by decide)
       obtain ⟨d2, hd7, hr27⟩ := bind_some hr26
       refine p_append (T := PtT) (i := 8) (j := 1) (d := some 79) (o2 := (some ⟨b8, 0, none⟩)) (c2 := 1) (ys := ([⟨x2, r1.1, r1.2⟩])) el22 hS26 hf67 rfl (by kernel_rfl) (hS26.ownSrc (j := 0) rfl) hd7 fun e5 q5 ww24 a53 hS27 hf68 => ⟨fun _ => trivial, ?_⟩
       refine p_qt [] [(6, pB b2 0), (10, .slice e5 d2.length q5)] [] hf68 (by kernel_rfl) .nil fun a54 hf69 => ?_
       have hf70 := Fr.keep (ks := [6, 10]) (r := [(6, pB b2 0), (10, .slice e5 d2.length q5)]) hf69 (by kernel_rfl)
       exact ⟨z7, d2, e5, q5, (Zone.le_refl _), hf70, (St.drop 1 hS27), hr27⟩
      ·have hr28 := cond_f hb9 hr25
       refine w_skip (by kernel_rfl) ?_
       refine n_then ?_
       have hf71 := Fr.keep (ks := [6, 10]) (r := [(6, pB b2 0), (10, .slice e1 y3.length q1)]) hf65 (by kernel_rfl)
       exact ⟨z7, y3, e1, q1, (Zone.le_refl _), hf71, hS17, hr28⟩
     ·rintro a55 ww25 ⟨z10, y5, e4, q4, k11, hf72, hS28, hr29⟩
      refine w_sr (by kernel_rfl) ?_
      refine p_qn 2 [] [(6, pB b2 0), (81, .agg #[.slice e4 y5.length q4])] [] hf72 (by kernel_rfl) .nil fun a56 hf73 => ?_
      refine p_store_eq (i := 2) (j := 3) (b := b2) (off := 0) (vs := [.slice e4 y5.length q4]) (cs' := [.slice e4 y5.length q4]) hS28 hf73 rfl (by kernel_rfl) (by kernel_rfl) rfl fun ww26 a57 hS29 hf74 => ⟨fun _ => trivial, ?_⟩
      refine p_qt [] [(6, pB b2 0), (7, vI 0)] [] hf74 (by kernel_rfl) .nil fun a58 hf75 => ?_
      refine w_ret (by kernel_rfl) ?_
      obtain ⟨z11, k12, hS30, hx1⟩ := hS29.share (j := 0) rfl
      refine p_ret (os := [.slice e4 y5.length q4]) (v := .tuple #[.agg #[.slice e4 y5.length q4], vI 0]) (obs := [.cell ⟨b2, 0, none⟩ (.slice e4 y5.length q4)]) hf75 (by kernel_rfl) (.cell (hS30.box (i := 3) rfl (j := 0) rfl) .nil) ?_
      obtain rfl := some_eq hr29
      exact ⟨_, rfl, z11, e4, q4, (Zone.le_trans (Zone.le_trans (Zone.le_trans (Zone.le_trans (Zone.le_trans (Zone.le_trans k2 k5) k6) k7) k8) k11) k12), rfl, (St.drop 5 hS30), hx1⟩
def F68 (fuel : Nat) (x0 : List Pt) : Option (Int) :=
  ((F12 fuel x0).bind fun r1 => (cond (!r1) (some (11)) (some (0))))
set_option maxRecDepth 100000 in
theorem f68_ok (fuel : Nat) (x0 : List Pt) (r : Int) (hr : F68 fuel x0 = some r) (h : Zone) (L : List Atom) (w : World) (hS : St h L w) (o_x0 : Option Addr) (c_x0 : Nat) (hx_x0 : SliceR PtT h o_x0 c_x0 x0) :
    Calls Try.prog 68 #[.agg #[.slice o_x0 x0.length c_x0]] w fun e w' => ∃ v, e = .returned v ∧ (∃ h', Zone.le h h' ∧ v = vI r ∧ St h' L w') := by
 refine calls_intro (N := 6) Try.func68 (by kernel_rfl) fun a hf => ?_
 refine w_sr (by kernel_rfl) ?_
 refine p_box (i := 0) (d := (some 1)) (cs := [.slice o_x0 x0.length c_x0]) (T := 24) (v := fun b1 => pB b1 0) hS hf (fun b => by kernel_rfl) fun b1 ww1 a1 hS1 hf1 => ⟨fun _ => trivial, ?_⟩
 refine p_qt [] [(1, pB b1 0)] [] hf1 (by kernel_rfl) .nil fun a2 hf2 => ?_
 refine w_seq (by kernel_rfl) ?_
 refine w_sr (by kernel_rfl) ?_
 refine p_qn 1 [.slice o_x0 x0.length c_x0] [(3, .agg #[.slice o_x0 x0.length c_x0])] [.cell ⟨b1, 0, none⟩ (.slice o_x0 x0.length c_x0)] hf2 (by kernel_rfl) (.cell (hS1.box (i := 0) rfl (j := 0) rfl) .nil) fun a3 hf3 => ?_
 obtain ⟨r1, hd1, hr1⟩ := bind_some hr
 refine p_call (i := 1) (d := some 4) (f := 12) (args := #[.agg #[.slice o_x0 x0.length c_x0]]) hf3 (by kernel_rfl) (f12_ok fuel x0 r1 hd1 h _ _ hS1 o_x0 c_x0 hx_x0) ?_
 rintro v1 ww2 a4 ⟨z1, k1, rfl, hS2⟩ hf4
 refine ⟨fun _ => trivial, ?_⟩
 refine p_qt [] [(5, .bool (!r1))] [] hf4 (by kernel_rfl) .nil fun a5 hf5 => ?_
 refine w_if hf5 (b := (!r1)) (by kernel_rfl) (fun hb1 => ?_) (fun hb1 => ?_)
 ·have hr2 := cond_t hb1 hr1
  refine w_sq [] [(2, vI 11)] [] hf5 (by kernel_rfl) .nil fun a6 hf6 => ?_
  refine w_ret (by kernel_rfl) ?_
  refine r_then ?_
  refine p_ret (os := []) (v := vI 11) (obs := []) hf6 (by kernel_rfl) .nil ?_
  obtain rfl := some_eq hr2
  exact ⟨_, rfl, z1, k1, rfl, (St.drop 1 hS2)⟩
 ·have hr3 := cond_f hb1 hr1
  refine w_skip (by kernel_rfl) ?_
  refine n_then ?_
  refine w_sq [] [(2, vI 0)] [] hf5 (by kernel_rfl) .nil fun a7 hf7 => ?_
  refine w_ret (by kernel_rfl) ?_
  refine p_ret (os := []) (v := vI 0) (obs := []) hf7 (by kernel_rfl) .nil ?_
  obtain rfl := some_eq hr3
  exact ⟨_, rfl, z1, k1, rfl, (St.drop 1 hS2)⟩
def F69_j1 (k1 : Int → Option (Int)) (y1 : Int) (y2 : Bool) : Option (Int) :=
  (cond y2 (some (4)) (k1 (w64 (y1 + (1 : Int)))))
def F69_l1 (x0 : List Pt) (x1 : List Int) : Nat → Int → Option (Int)
  | 0, _ => none
  | n1 + 1, y1 =>
    let k1 : Int → Option (Int) := F69_l1 x0 x1 n1
    (cond (decide (y1 < (x1.length : Int))) ((getI x1 y1).bind fun p1 => ((getI x0 y1).bind fun p2 => (cond (decide (p1 < p2.lo)) (F69_j1 k1 y1 true) ((getI x0 y1).bind fun p3 => (F69_j1 k1 y1 (decide (p1 > p3.hi))))))) (some (0)))
def F69 (fuel : Nat) (x0 : List Pt) (x1 : List Int) : Option (Int) :=
  ((F12 fuel x0).bind fun r1 => (cond (!r1) (some (11)) (cond ((x1.length : Int) != (x0.length : Int)) (some (4)) (F69_l1 x0 x1 fuel 0))))
set_option maxRecDepth 100000 in
theorem f69_ok (fuel : Nat) (x0 : List Pt) (x1 : List Int) (r : Int) (hr : F69 fuel x0 x1 = some r) (h : Zone) (L : List Atom) (w : World) (hS : St h L w) (o_x0 : Option Addr) (c_x0 : Nat) (hx_x0 : SliceR PtT h o_x0 c_x0 x0) (o_x1 : Option Addr) (c_x1 : Nat) (hx_x1 : SliceR Ty.int h o_x1 c_x1 x1) :
    Calls Try.prog 69 #[.agg #[.slice o_x0 x0.length c_x0], .slice o_x1 x1.length c_x1] w fun e w' => ∃ v, e = .returned v ∧ (∃ h', Zone.le h h' ∧ v = vI r ∧ St h' L w') := by
 refine calls_intro (N := 42) Try.func69 (by kernel_rfl) fun a hf => ?_
 refine w_sr (by kernel_rfl) ?_
 refine p_box (i := 0) (d := (some 2)) (cs := [.slice o_x0 x0.length c_x0]) (T := 24) (v := fun b1 => pB b1 0) hS hf (fun b => by kernel_rfl) fun b1 ww1 a1 hS1 hf1 => ⟨fun _ => trivial, ?_⟩
 refine p_qt [] [(1, .slice o_x1 x1.length c_x1), (2, pB b1 0)] [] hf1 (by kernel_rfl) .nil fun a2 hf2 => ?_
 refine w_seq (by kernel_rfl) ?_
 refine w_sr (by kernel_rfl) ?_
 refine p_qn 1 [.slice o_x0 x0.length c_x0] [(1, .slice o_x1 x1.length c_x1), (2, pB b1 0), (7, .agg #[.slice o_x0 x0.length c_x0])] [.cell ⟨b1, 0, none⟩ (.slice o_x0 x0.length c_x0)] hf2 (by kernel_rfl) (.cell (hS1.box (i := 0) rfl (j := 0) rfl) .nil) fun a3 hf3 => ?_
 obtain ⟨r1, hd1, hr1⟩ := bind_some hr
 refine p_call (i := 1) (d := some 8) (f := 12) (args := #[.agg #[.slice o_x0 x0.length c_x0]]) hf3 (by kernel_rfl) (f12_ok fuel x0 r1 hd1 h _ _ hS1 o_x0 c_x0 hx_x0) ?_
 rintro v1 ww2 a4 ⟨z1, k2, rfl, hS2⟩ hf4
 refine ⟨fun _ => trivial, ?_⟩
 refine p_qt [] [(1, .slice o_x1 x1.length c_x1), (2, pB b1 0), (9, .bool (!r1))] [] hf4 (by kernel_rfl) .nil fun a5 hf5 => ?_
 refine w_if hf5 (b := (!r1)) (by kernel_rfl) (fun hb1 => ?_) (fun hb1 => ?_)
 ·have hr2 := cond_t hb1 hr1
  refine w_sq [] [(4, vI 11)] [] hf5 (by kernel_rfl) .nil fun a6 hf6 => ?_
  refine w_ret (by kernel_rfl) ?_
  refine r_then ?_
  refine p_ret (os := []) (v := vI 11) (obs := []) hf6 (by kernel_rfl) .nil ?_
  obtain rfl := some_eq hr2
  exact ⟨_, rfl, z1, k2, rfl, (St.drop 1 hS2)⟩
 ·have hr3 := cond_f hb1 hr1
  refine w_skip (by kernel_rfl) ?_
  refine n_then ?_
  refine w_seq (by kernel_rfl) ?_
  refine w_sq [.slice o_x0 x0.length c_x0] [(1, .slice o_x1 x1.length c_x1), (2, pB b1 0), (15, .bool ((x1.length : Int) != (x0.length : Int)))] [.cell ⟨b1, 0, none⟩ (.slice o_x0 x0.length c_x0)] hf5 (by kernel_rfl) (.cell (hS2.box (i := 0) rfl (j := 0) rfl) .nil) fun a7 hf7 => ?_
  refine w_if hf7 (b := ((x1.length : Int) != (x0.length : Int))) (by kernel_rfl) (fun hb2 => ?_) (fun hb2 => ?_)
  ·have hr4 := cond_t hb2 hr3
   refine w_sq [] [(4, vI 4)] [] hf7 (by kernel_rfl) .nil fun a8 hf8 => ?_
   refine w_ret (by kernel_rfl) ?_
   refine r_then ?_
   refine p_ret (os := []) (v := vI 4) (obs := []) hf8 (by kernel_rfl) .nil ?_
   obtain rfl := some_eq hr4
   exact ⟨_, rfl, z1, k2, rfl, (St.drop 1 hS2)⟩
  ·have hr5 := cond_f hb2 hr3
   refine w_skip (by kernel_rfl) ?_
   refine n_then ?_
   refine w_seq (by kernel_rfl) ?_
   refine w_sq [] [(2, pB b1 0), (16, .slice o_x1 x1.length c_x1), (17, vI (x1.length : Int)), (18, vI 0)] [] hf7 (by kernel_rfl) .nil fun a9 hf9 => ?_
   refine w_block (id := 0) (by kernel_rfl) ?_
   have hf10 := Fr.keep (ks := [2, 16, 17, 18]) (r := [(2, pB b1 0), (16, .slice o_x1 x1.length c_x1), (17, vI (x1.length : Int)), (18, vI 0)]) hf9 (by kernel_rfl)
   refine w_loop (by kernel_rfl) (fun n a w => ∃ z2 : Zone, ∃ y1 : Int, Zone.le z1 z2 ∧ Fr a 42 [(2, pB b1 0), (16, .slice o_x1 x1.length c_x1), (17, vI (x1.length : Int)), (18, vI y1)] ∧ St z2 (box b1 [.slice o_x0 x0.length c_x0] 24 :: L) w ∧ (F69_l1 x0 x1 n y1) = some r) fuel ⟨z1, 0, (Zone.le_refl _), hf10, hS2, hr5⟩ ?_
   rintro n2 a10 ww3 ⟨z2, y1, k3, hf11, hS3, hr6⟩
   cases n2 with
   | zero => cases hr6
   | succ n1 =>
   refine w_sq [] [(2, pB b1 0), (16, .slice o_x1 x1.length c_x1), (17, vI (x1.length : Int)), (18, vI y1), (19, .bool (decide (y1 < (x1.length : Int))))] [] hf11 (by kernel_rfl) .nil fun a11 hf12 => ?_
   refine w_seq (by kernel_rfl) ?_
   refine w_if hf12 (b := (decide (y1 < (x1.length : Int)))) (by kernel_rfl) (fun hb3 => ?_) (fun hb3 => ?_)
   ·have hr7 := cond_t hb3 hr6
    refine w_skip (by kernel_rfl) ?_
    refine n_then ?_
    refine w_seq (by kernel_rfl) ?_
    refine w_block (id := 1) (by kernel_rfl) ?_
    obtain ⟨p1, hp1337, hr8⟩ := bind_some hr7
    obtain ⟨ad1, ho1, hb4, cc1, hc1, hk1⟩ := SliceR.getI (SliceR.mono (Zone.le_trans k2 k3) hx_x1) hp1337
    subst hc1
    refine w_sq [.pointer (some ad1), vI p1] [(2, pB b1 0), (5, vI y1), (6, vI p1), (16, .slice o_x1 x1.length c_x1), (17, vI (x1.length : Int)), (18, vI y1)] [.prop (o_x1 = some ad1), .prop (0 ≤ y1 ∧ y1 < (x1.length : Nat)), .cell ((ad1.add (Int.toNat y1 * 1)).add 0) (vI p1)] hf12 (by kernel_rfl) (.prop ho1 (.prop hb4 (.cell (hS3.cell (hk1 0 _ rfl)) .nil))) fun a12 hf13 => ?_
    refine w_mid (by kernel_rfl) (fun a w => ∃ z3 : Zone, ∃ y2 : Bool, Zone.le z2 z3 ∧ Fr a 42 [(2, pB b1 0), (16, .slice o_x1 x1.length c_x1), (17, vI (x1.length : Int)), (18, vI y1), (40, .bool y2)] ∧ St z3 (box b1 [.slice o_x0 x0.length c_x0] 24 :: L) w ∧ (F69_j1 (F69_l1 x0 x1 n1) y1 y2) = some r) ?_ ?_
    ·skip
     refine w_reg (by kernel_rfl) ?_
     obtain ⟨p2, hp1414, hr9⟩ := bind_some hr8
     obtain ⟨ad2, ho2, hb5, cc2, hc2, hk2⟩ := SliceR.getI (SliceR.mono (Zone.le_trans k2 k3) hx_x0) hp1414
     subst hc2
     refine p_qn 9 [.slice o_x0 x0.length c_x0, .pointer (some ad2), vI p2.lo] [(2, pB b1 0), (5, vI y1), (6, vI p1), (16, .slice o_x1 x1.length c_x1), (17, vI (x1.length : Int)), (18, vI y1), (31, .bool (decide (p1 < p2.lo)))] [.cell ⟨b1, 0, none⟩ (.slice o_x0 x0.length c_x0), .prop (o_x0 = some ad2), .prop (0 ≤ y1 ∧ y1 < (x0.length : Nat)), .cell ((ad2.add (Int.toNat y1 * 3)).add 1) (vI p2.lo)] hf13 (by kernel_rfl) (.cell (hS3.box (i := 0) rfl (j := 0) rfl) (.prop ho2 (.prop hb5 (.cell (hS3.cell (hk2 1 _ rfl)) .nil)))) fun a13 hf14 => ?_
     rcases Bool.eq_false_or_eq_true (decide (p1 < p2.lo)) with hb6 | hb6
     ·have hr10 := cond_t hb6 hr9
      have hf15 := Fr.conv hf14 (congrArg (fun z => ([(2, pB b1 0), (5, vI y1), (6, vI p1), (16, .slice o_x1 x1.length c_x1), (17, vI (x1.length : Int)), (18, vI y1), (31, .bool z)] : FL)) hb6)
      refine p_qt [] [(2, pB b1 0), (16, .slice o_x1 x1.length c_x1), (17, vI (x1.length : Int)), (18, vI y1), (32, undef), (33, undef), (34, undef), (35, undef), (36, undef), (37, undef), (38, undef), (39, undef), (40, .bool true)] [] hf15 (by kernel_rfl) .nil fun a14 hf16 => ?_
      have hf17 := Fr.keep (ks := [2, 16, 17, 18, 40]) (r := [(2, pB b1 0), (16, .slice o_x1 x1.length c_x1), (17, vI (x1.length : Int)), (18, vI y1), (40, .bool true)]) hf16 (by kernel_rfl)
      exact ⟨z2, true, (Zone.le_refl _), hf17, hS3, hr10⟩
     ·have hr11 := cond_f hb6 hr9
      have hf18 := Fr.conv hf14 (congrArg (fun z => ([(2, pB b1 0), (5, vI y1), (6, vI p1), (16, .slice o_x1 x1.length c_x1), (17, vI (x1.length : Int)), (18, vI y1), (31, .bool z)] : FL)) hb6)
      obtain ⟨p3, hp1433, hr12⟩ := bind_some hr11
      obtain ⟨ad3, ho3, hb7, cc3, hc3, hk3⟩ := SliceR.getI (SliceR.mono (Zone.le_trans k2 k3) hx_x0) hp1433
      subst hc3
      refine p_qt [.slice o_x0 x0.length c_x0, .pointer (some ad3), vI p3.hi] [(2, pB b1 0), (16, .slice o_x1 x1.length c_x1), (17, vI (x1.length : Int)), (18, vI y1), (32, vI p1), (33, pB b1 0), (34, .slice o_x0 x0.length c_x0), (35, vI y1), (36, .pointer (some (ad3.add (Int.toNat y1 * 3)))), (37, .pointer (some ((ad3.add (Int.toNat y1 * 3)).add 2))), (38, vI p3.hi), (39, .bool (decide (p1 > p3.hi))), (40, .bool (decide (p1 > p3.hi)))] [.cell ⟨b1, 0, none⟩ (.slice o_x0 x0.length c_x0), .prop (o_x0 = some ad3), .prop (0 ≤ y1 ∧ y1 < (x0.length : Nat)), .cell ((ad3.add (Int.toNat y1 * 3)).add 2) (vI p3.hi)] hf18 (by kernel_rfl) (.cell (hS3.box (i := 0) rfl (j := 0) rfl) (.prop ho3 (.prop hb7 (.cell (hS3.cell (hk3 2 _ rfl)) .nil)))) fun a15 hf19 => ?_
      have hf20 := Fr.keep (ks := [2, 16, 17, 18, 40]) (r := [(2, pB b1 0), (16, .slice o_x1 x1.length c_x1), (17, vI (x1.length : Int)), (18, vI y1), (40, .bool (decide (p1 > p3.hi)))]) hf19 (by kernel_rfl)
      exact ⟨z2, (decide (p1 > p3.hi)), (Zone.le_refl _), hf20, hS3, hr12⟩
    ·rintro a16 ww4 ⟨z3, y2, k4, hf21, hS4, hr13⟩
     refine w_if hf21 (b := y2) (by kernel_rfl) (fun hb8 => ?_) (fun hb8 => ?_)
     ·have hr14 := cond_t hb8 hr13
      refine w_sq [] [(4, vI 4)] [] hf21 (by kernel_rfl) .nil fun a17 hf22 => ?_
      refine w_ret (by kernel_rfl) ?_
      refine r_block ?_
      refine r_then ?_
      refine r_then ?_
      refine r_block ?_
      refine r_then ?_
      refine p_ret (os := []) (v := vI 4) (obs := []) hf22 (by kernel_rfl) .nil ?_
      obtain rfl := some_eq hr14
      exact ⟨_, rfl, z3, (Zone.le_trans (Zone.le_trans k2 k3) k4), rfl, (St.drop 1 hS4)⟩
     ·have hr15 := cond_f hb8 hr13
      refine w_skip (by kernel_rfl) ?_
      refine n_block ?_
      refine n_then ?_
      refine w_q [] [(2, pB b1 0), (16, .slice o_x1 x1.length c_x1), (17, vI (x1.length : Int)), (18, vI (w64 (y1 + (1 : Int))))] [] hf21 (by kernel_rfl) .nil fun a18 hf23 => ?_
      refine n_then ?_
      have hf24 := Fr.keep (ks := [2, 16, 17, 18]) (r := [(2, pB b1 0), (16, .slice o_x1 x1.length c_x1), (17, vI (x1.length : Int)), (18, vI (w64 (y1 + (1 : Int))))]) hf23 (by kernel_rfl)
      exact ⟨n1, Nat.lt_succ_self n1, z3, (w64 (y1 + (1 : Int))), (Zone.le_trans k3 k4), hf24, hS4, hr15⟩
   ·have hr16 := cond_f hb3 hr6
    refine w_exit (id := 0) (by kernel_rfl) ?_
    refine x_then ?_
    refine x_then ?_
    refine x_block ?_
    refine n_then ?_
    refine w_sq [] [(4, vI 0)] [] hf12 (by kernel_rfl) .nil fun a19 hf25 => ?_
    refine w_ret (by kernel_rfl) ?_
    refine p_ret (os := []) (v := vI 0) (obs := []) hf25 (by kernel_rfl) .nil ?_
    obtain rfl := some_eq hr16
    exact ⟨_, rfl, z2, (Zone.le_trans k2 k3), rfl, (St.drop 1 hS3)⟩
def F70_l1 (x0 : List Pt) : Nat → Int → Option (Bool)
  | 0, _ => none
  | n1 + 1, y1 =>
    let k1 : Int → Option (Bool) := F70_l1 x0 n1
    (cond (decide (y1 < (x0.length : Int))) ((getI x0 y1).bind fun p1 => ((getI x0 (w64 (y1 - (1 : Int)))).bind fun p2 => (cond (decide (p1.lo < p2.hi)) (some (false)) (k1 (w64 (y1 + (1 : Int))))))) (some (true)))
def F70 (fuel : Nat) (x0 : List Pt) : Option (Bool) :=
  ((F12 fuel x0).bind fun r1 => (cond (!r1) (some (false)) (F70_l1 x0 fuel 1)))
set_option maxRecDepth 100000 in
theorem f70_ok (fuel : Nat) (x0 : List Pt) (r : Bool) (hr : F70 fuel x0 = some r) (h : Zone) (L : List Atom) (w : World) (hS : St h L w) (o_x0 : Option Addr) (c_x0 : Nat) (hx_x0 : SliceR PtT h o_x0 c_x0 x0) :
    Calls Try.prog 70 #[.agg #[.slice o_x0 x0.length c_x0]] w fun e w' => ∃ v, e = .returned v ∧ (∃ h', Zone.le h h' ∧ v = .bool r ∧ St h' L w') := by
 refine calls_intro (N := 28) Try.func70 (by kernel_rfl) fun a hf => ?_
 refine w_sr (by kernel_rfl) ?_
 refine p_box (i := 0) (d := (some 1)) (cs := [.slice o_x0 x0.length c_x0]) (T := 24) (v := fun b1 => pB b1 0) hS hf (fun b => by kernel_rfl) fun b1 ww1 a1 hS1 hf1 => ⟨fun _ => trivial, ?_⟩
 refine p_qt [] [(1, pB b1 0)] [] hf1 (by kernel_rfl) .nil fun a2 hf2 => ?_
 refine w_seq (by kernel_rfl) ?_
 refine w_sr (by kernel_rfl) ?_
 refine p_qn 1 [.slice o_x0 x0.length c_x0] [(1, pB b1 0), (4, .agg #[.slice o_x0 x0.length c_x0])] [.cell ⟨b1, 0, none⟩ (.slice o_x0 x0.length c_x0)] hf2 (by kernel_rfl) (.cell (hS1.box (i := 0) rfl (j := 0) rfl) .nil) fun a3 hf3 => ?_
 obtain ⟨r1, hd1, hr1⟩ := bind_some hr
 refine p_call (i := 1) (d := some 5) (f := 12) (args := #[.agg #[.slice o_x0 x0.length c_x0]]) hf3 (by kernel_rfl) (f12_ok fuel x0 r1 hd1 h _ _ hS1 o_x0 c_x0 hx_x0) ?_
 rintro v1 ww2 a4 ⟨z1, k2, rfl, hS2⟩ hf4
 refine ⟨fun _ => trivial, ?_⟩
 refine p_qt [] [(1, pB b1 0), (6, .bool (!r1))] [] hf4 (by kernel_rfl) .nil fun a5 hf5 => ?_
 refine w_if hf5 (b := (!r1)) (by kernel_rfl) (fun hb1 => ?_) (fun hb1 => ?_)
 ·have hr2 := cond_t hb1 hr1
  refine w_sq [] [(2, .bool false)] [] hf5 (by kernel_rfl) .nil fun a6 hf6 => ?_
  refine w_ret (by kernel_rfl) ?_
  refine r_then ?_
  refine p_ret (os := []) (v := .bool false) (obs := []) hf6 (by kernel_rfl) .nil ?_
  obtain rfl := some_eq hr2
  exact ⟨_, rfl, z1, k2, rfl, (St.drop 1 hS2)⟩
 ·have hr3 := cond_f hb1 hr1
  refine w_skip (by kernel_rfl) ?_
  refine n_then ?_
  refine w_seq (by kernel_rfl) ?_
  refine w_sq [] [(1, pB b1 0), (3, vI 1)] [] hf5 (by kernel_rfl) .nil fun a7 hf7 => ?_
  refine w_block (id := 0) (by kernel_rfl) ?_
  have hf8 := Fr.keep (ks := [1, 3]) (r := [(1, pB b1 0), (3, vI 1)]) hf7 (by kernel_rfl)
  refine w_loop (by kernel_rfl) (fun n a w => ∃ z2 : Zone, ∃ y1 : Int, Zone.le z1 z2 ∧ Fr a 28 [(1, pB b1 0), (3, vI y1)] ∧ St z2 (box b1 [.slice o_x0 x0.length c_x0] 24 :: L) w ∧ (F70_l1 x0 n y1) = some r) fuel ⟨z1, 1, (Zone.le_refl _), hf8, hS2, hr3⟩ ?_
  rintro n2 a8 ww3 ⟨z2, y1, k3, hf9, hS3, hr4⟩
  cases n2 with
  | zero => cases hr4
  | succ n1 =>
  refine w_seq (by kernel_rfl) ?_
  refine w_sq [.slice o_x0 x0.length c_x0] [(1, pB b1 0), (3, vI y1), (11, .bool (decide (y1 < (x0.length : Int))))] [.cell ⟨b1, 0, none⟩ (.slice o_x0 x0.length c_x0)] hf9 (by kernel_rfl) (.cell (hS3.box (i := 0) rfl (j := 0) rfl) .nil) fun a9 hf10 => ?_
  refine w_if hf10 (b := (decide (y1 < (x0.length : Int)))) (by kernel_rfl) (fun hb2 => ?_) (fun hb2 => ?_)
  ·have hr5 := cond_t hb2 hr4
   refine w_skip (by kernel_rfl) ?_
   refine n_then ?_
   refine w_seq (by kernel_rfl) ?_
   refine w_block (id := 1) (by kernel_rfl) ?_
   have hS4 := hS3.drew
   obtain ⟨p1, hp575, hr6⟩ := bind_some hr5
   obtain ⟨ad1, ho1, hb3, cc1, hc1, hk1⟩ := SliceR.getI (SliceR.mono (Zone.le_trans k2 k3) hx_x0) hp575
   subst hc1
   obtain ⟨p2, hp584, hr7⟩ := bind_some hr6
   obtain ⟨ad2, ho2, hb4, cc2, hc2, hk2⟩ := SliceR.getI (SliceR.mono (Zone.le_trans k2 k3) hx_x0) hp584
   subst hc2
   refine w_sqD [(0, true), (1, true), (2, true), (3, true), (4, true), (5, true), (6, true), (7, true), (8, true), (9, true), (10, true), (11, true), (12, true), (13, true)] [] [.slice o_x0 x0.length c_x0, .pointer (some ad1), vI p1.lo, .slice o_x0 x0.length c_x0, .pointer (some ad2), vI p2.hi] [(1, pB b1 0), (3, vI y1), (27, .bool (decide (p1.lo < p2.hi)))] [.cell ⟨b1, 0, none⟩ (.slice o_x0 x0.length c_x0), .prop (o_x0 = some ad1), .prop (0 ≤ y1 ∧ y1 < (x0.length : Nat)), .cell ((ad1.add (Int.toNat y1 * 3)).add 1) (vI p1.lo), .cell ⟨b1, 0, none⟩ (.slice o_x0 x0.length c_x0), .prop (o_x0 = some ad2), .prop (0 ≤ (w64 (y1 - (1 : Int))) ∧ (w64 (y1 - (1 : Int))) < (x0.length : Nat)), .cell ((ad2.add (Int.toNat (w64 (y1 - (1 : Int))) * 3)).add 2) (vI p2.hi)] [] hf10 (by kernel_rfl) (.cell (hS4.box (i := 0) rfl (j := 0) rfl) (.prop ho1 (.prop hb3 (.cell (hS4.cell (hk1 1 _ rfl)) (.cell (hS4.box (i := 0) rfl (j := 0) rfl) (.prop ho2 (.prop hb4 (.cell (hS4.cell (hk2 2 _ rfl)) .nil)))))))) .nil fun a10 hf11 => ?_
   refine w_if hf11 (b := (decide (p1.lo < p2.hi))) (by kernel_rfl) (fun hb5 => ?_) (fun hb5 => ?_)
   ·have hr8 := cond_t hb5 hr7
    refine w_sq [] [(2, .bool false)] [] hf11 (by kernel_rfl) .nil fun a11 hf12 => ?_
    refine w_ret (by kernel_rfl) ?_
    refine r_block ?_
    refine r_then ?_
    refine r_then ?_
    refine r_block ?_
    refine r_then ?_
    refine p_ret (os := []) (v := .bool false) (obs := []) hf12 (by kernel_rfl) .nil ?_
    obtain rfl := some_eq hr8
    exact ⟨_, rfl, z2, (Zone.le_trans k2 k3), rfl, (St.drop 1 hS4)⟩
   ·have hr9 := cond_f hb5 hr7
    refine w_skip (by kernel_rfl) ?_
    refine n_block ?_
    refine n_then ?_
    refine w_q [] [(1, pB b1 0), (3, vI (w64 (y1 + (1 : Int))))] [] hf11 (by kernel_rfl) .nil fun a12 hf13 => ?_
    refine n_then ?_
    have hf14 := Fr.keep (ks := [1, 3]) (r := [(1, pB b1 0), (3, vI (w64 (y1 + (1 : Int))))]) hf13 (by kernel_rfl)
    exact ⟨n1, Nat.lt_succ_self n1, z2, (w64 (y1 + (1 : Int))), k3, hf14, hS4, hr9⟩
  ·have hr10 := cond_f hb2 hr4
   refine w_exit (id := 0) (by kernel_rfl) ?_
   refine x_then ?_
   refine x_then ?_
   refine x_block ?_
   refine n_then ?_
   refine w_sq [] [(2, .bool true)] [] hf10 (by kernel_rfl) .nil fun a13 hf15 => ?_
   refine w_ret (by kernel_rfl) ?_
   refine p_ret (os := []) (v := .bool true) (obs := []) hf15 (by kernel_rfl) .nil ?_
   obtain rfl := some_eq hr10
   exact ⟨_, rfl, z2, (Zone.le_trans k2 k3), rfl, (St.drop 1 hS3)⟩
def F71_l1 (x0 : List Pt) : Nat → Int → Option (Bool)
  | 0, _ => none
  | n1 + 1, y1 =>
    let k1 : Int → Option (Bool) := F71_l1 x0 n1
    (cond (decide (y1 < (x0.length : Int))) ((getI x0 y1).bind fun p1 => ((getI x0 (w64 (y1 - (1 : Int)))).bind fun p2 => (cond (decide (p1.hi > p2.lo)) (some (false)) (k1 (w64 (y1 + (1 : Int))))))) (some (true)))
def F71 (fuel : Nat) (x0 : List Pt) : Option (Bool) :=
  ((F12 fuel x0).bind fun r1 => (cond (!r1) (some (false)) (F71_l1 x0 fuel 1)))
set_option maxRecDepth 100000 in
theorem f71_ok (fuel : Nat) (x0 : List Pt) (r : Bool) (hr : F71 fuel x0 = some r) (h : Zone) (L : List Atom) (w : World) (hS : St h L w) (o_x0 : Option Addr) (c_x0 : Nat) (hx_x0 : SliceR PtT h o_x0 c_x0 x0) :
    Calls Try.prog 71 #[.agg #[.slice o_x0 x0.length c_x0]] w fun e w' => ∃ v, e = .returned v ∧ (∃ h', Zone.le h h' ∧ v = .bool r ∧ St h' L w') := by
 refine calls_intro (N := 28) Try.func71 (by kernel_rfl) fun a hf => ?_
 refine w_sr (by kernel_rfl) ?_
 refine p_box (i := 0) (d := (some 1)) (cs := [.slice o_x0 x0.length c_x0]) (T := 24) (v := fun b1 => pB b1 0) hS hf (fun b => by kernel_rfl) fun b1 ww1 a1 hS1 hf1 => ⟨fun _ => trivial, ?_⟩
 refine p_qt [] [(1, pB b1 0)] [] hf1 (by kernel_rfl) .nil fun a2 hf2 => ?_
 refine w_seq (by kernel_rfl) ?_
 refine w_sr (by kernel_rfl) ?_
 refine p_qn 1 [.slice o_x0 x0.length c_x0] [(1, pB b1 0), (4, .agg #[.slice o_x0 x0.length c_x0])] [.cell ⟨b1, 0, none⟩ (.slice o_x0 x0.length c_x0)] hf2 (by kernel_rfl) (.cell (hS1.box (i := 0) rfl (j := 0) rfl) .nil) fun a3 hf3 => ?_
 obtain ⟨r1, hd1, hr1⟩ := bind_some hr
 refine p_call (i := 1) (d := some 5) (f := 12) (args := #[.agg #[.slice o_x0 x0.length c_x0]]) hf3 (by kernel_rfl) (f12_ok fuel x0 r1 hd1 h _ _ hS1 o_x0 c_x0 hx_x0) ?_
 rintro v1 ww2 a4 ⟨z1, k2, rfl, hS2⟩ hf4
 refine ⟨fun _ => trivial, ?_⟩
 refine p_qt [] [(1, pB b1 0), (6, .bool (!r1))] [] hf4 (by kernel_rfl) .nil fun a5 hf5 => ?_
 refine w_if hf5 (b := (!r1)) (by kernel_rfl) (fun hb1 => ?_) (fun hb1 => ?_)
 ·have hr2 := cond_t hb1 hr1
  refine w_sq [] [(2, .bool false)] [] hf5 (by kernel_rfl) .nil fun a6 hf6 => ?_
  refine w_ret (by kernel_rfl) ?_
  refine r_then ?_
  refine p_ret (os := []) (v := .bool false) (obs := []) hf6 (by kernel_rfl) .nil ?_
  obtain rfl := some_eq hr2
  exact ⟨_, rfl, z1, k2, rfl, (St.drop 1 hS2)⟩
 ·have hr3 := cond_f hb1 hr1
  refine w_skip (by kernel_rfl) ?_
  refine n_then ?_
  refine w_seq (by kernel_rfl) ?_
  refine w_sq [] [(1, pB b1 0), (3, vI 1)] [] hf5 (by kernel_rfl) .nil fun a7 hf7 => ?_
  refine w_block (id := 0) (by kernel_rfl) ?_
  have hf8 := Fr.keep (ks := [1, 3]) (r := [(1, pB b1 0), (3, vI 1)]) hf7 (by kernel_rfl)
  refine w_loop (by kernel_rfl) (fun n a w => ∃ z2 : Zone, ∃ y1 : Int, Zone.le z1 z2 ∧ Fr a 28 [(1, pB b1 0), (3, vI y1)] ∧ St z2 (box b1 [.slice o_x0 x0.length c_x0] 24 :: L) w ∧ (F71_l1 x0 n y1) = some r) fuel ⟨z1, 1, (Zone.le_refl _), hf8, hS2, hr3⟩ ?_
  rintro n2 a8 ww3 ⟨z2, y1, k3, hf9, hS3, hr4⟩
  cases n2 with
  | zero => cases hr4
  | succ n1 =>
  refine w_seq (by kernel_rfl) ?_
  refine w_sq [.slice o_x0 x0.length c_x0] [(1, pB b1 0), (3, vI y1), (11, .bool (decide (y1 < (x0.length : Int))))] [.cell ⟨b1, 0, none⟩ (.slice o_x0 x0.length c_x0)] hf9 (by kernel_rfl) (.cell (hS3.box (i := 0) rfl (j := 0) rfl) .nil) fun a9 hf10 => ?_
  refine w_if hf10 (b := (decide (y1 < (x0.length : Int)))) (by kernel_rfl) (fun hb2 => ?_) (fun hb2 => ?_)
  ·have hr5 := cond_t hb2 hr4
   refine w_skip (by kernel_rfl) ?_
   refine n_then ?_
   refine w_seq (by kernel_rfl) ?_
   refine w_block (id := 1) (by kernel_rfl) ?_
   have hS4 := hS3.drew
   obtain ⟨p1, hp575, hr6⟩ := bind_some hr5
   obtain ⟨ad1, ho1, hb3, cc1, hc1, hk1⟩ := SliceR.getI (SliceR.mono (Zone.le_trans k2 k3) hx_x0) hp575
   subst hc1
   obtain ⟨p2, hp584, hr7⟩ := bind_some hr6
   obtain ⟨ad2, ho2, hb4, cc2, hc2, hk2⟩ := SliceR.getI (SliceR.mono (Zone.le_trans k2 k3) hx_x0) hp584
   subst hc2
   refine w_sqD [(0, true), (1, true), (2, true), (3, true), (4, true), (5, true), (6, true), (7, true), (8, true), (9, true), (10, true), (11, true), (12, true), (13, true)] [] [.slice o_x0 x0.length c_x0, .pointer (some ad1), vI p1.hi, .slice o_x0 x0.length c_x0, .pointer (some ad2), vI p2.lo] [(1, pB b1 0), (3, vI y1), (27, .bool (decide (p1.hi > p2.lo)))] [.cell ⟨b1, 0, none⟩ (.slice o_x0 x0.length c_x0), .prop (o_x0 = some ad1), .prop (0 ≤ y1 ∧ y1 < (x0.length : Nat)), .cell ((ad1.add (Int.toNat y1 * 3)).add 2) (vI p1.hi), .cell ⟨b1, 0, none⟩ (.slice o_x0 x0.length c_x0), .prop (o_x0 = some ad2), .prop (0 ≤ (w64 (y1 - (1 : Int))) ∧ (w64 (y1 - (1 : Int))) < (x0.length : Nat)), .cell ((ad2.add (Int.toNat (w64 (y1 - (1 : Int))) * 3)).add 1) (vI p2.lo)] [] hf10 (by kernel_rfl) (.cell (hS4.box (i := 0) rfl (j := 0) rfl) (.prop ho1 (.prop hb3 (.cell (hS4.cell (hk1 2 _ rfl)) (.cell (hS4.box (i := 0) rfl (j := 0) rfl) (.prop ho2 (.prop hb4 (.cell (hS4.cell (hk2 1 _ rfl)) .nil)))))))) .nil fun a10 hf11 => ?_
   refine w_if hf11 (b := (decide (p1.hi > p2.lo))) (by kernel_rfl) (fun hb5 => ?_) (fun hb5 => ?_)
   ·have hr8 := cond_t hb5 hr7
    refine w_sq [] [(2, .bool false)] [] hf11 (by kernel_rfl) .nil fun a11 hf12 => ?_
    refine w_ret (by kernel_rfl) ?_
    refine r_block ?_
    refine r_then ?_
    refine r_then ?_
    refine r_block ?_
    refine r_then ?_
    refine p_ret (os := []) (v := .bool false) (obs := []) hf12 (by kernel_rfl) .nil ?_
    obtain rfl := some_eq hr8
    exact ⟨_, rfl, z2, (Zone.le_trans k2 k3), rfl, (St.drop 1 hS4)⟩
   ·have hr9 := cond_f hb5 hr7
    refine w_skip (by kernel_rfl) ?_
    refine n_block ?_
    refine n_then ?_
    refine w_q [] [(1, pB b1 0), (3, vI (w64 (y1 + (1 : Int))))] [] hf11 (by kernel_rfl) .nil fun a12 hf13 => ?_
    refine n_then ?_
    have hf14 := Fr.keep (ks := [1, 3]) (r := [(1, pB b1 0), (3, vI (w64 (y1 + (1 : Int))))]) hf13 (by kernel_rfl)
    exact ⟨n1, Nat.lt_succ_self n1, z2, (w64 (y1 + (1 : Int))), k3, hf14, hS4, hr9⟩
  ·have hr10 := cond_f hb2 hr4
   refine w_exit (id := 0) (by kernel_rfl) ?_
   refine x_then ?_
   refine x_then ?_
   refine x_block ?_
   refine n_then ?_
   refine w_sq [] [(2, .bool true)] [] hf10 (by kernel_rfl) .nil fun a13 hf15 => ?_
   refine w_ret (by kernel_rfl) ?_
   refine p_ret (os := []) (v := .bool true) (obs := []) hf15 (by kernel_rfl) .nil ?_
   obtain rfl := some_eq hr10
   exact ⟨_, rfl, z2, (Zone.le_trans k2 k3), rfl, (St.drop 1 hS3)⟩
def F10_j2 (y1 : Bool) : Option (Bool) :=
  (some (y1))
def F10_j1 (fuel : Nat) (x0 : List Pt) (x1 : List Int) (y2 : Bool) : Option (Bool) :=
  (cond y2 (some (false)) ((F67 fuel x0).bind fun r1 => ((F68 fuel x0).bind fun r2 => (cond (r1 == r2) ((F31 fuel x0 x1).bind fun r3 => ((F69 fuel x0 x1).bind fun r4 => (cond (r3 == r4) ((F28 fuel x0).bind fun r5 => ((F70 fuel x0).bind fun r6 => (cond (r5 == r6) ((F29 fuel x0).bind fun r7 => ((F71 fuel x0).bind fun r8 => (cond (r7 == r8) ((F13 fuel ).bind fun r9 => (F10_j2 r9)) (F10_j2 false)))) (F10_j2 false)))) (F10_j2 false)))) (F10_j2 false)))))
def F10 (fuel : Nat) (x0 : List Pt) (x1 : List Int) (y3 : Int) (y4 : Int) : Option (Bool) :=
  ((F27 fuel x0 y3).bind fun r10 => ((F64 fuel x0 y3).bind fun r11 => ((F65 fuel x0 y3 y4).bind fun r12 => ((F66 fuel x0 y3 y4).bind fun r13 => (cond (!((r10.1 == r11.1) && ((r10.2.1 == r11.2.1) && true))) (F10_j1 fuel x0 x1 true) (cond (r10.2.2 != r11.2.2) (F10_j1 fuel x0 x1 true) ((F63 fuel r12.1 r13.1).bind fun r14 => (cond (!r14) (F10_j1 fuel x0 x1 true) (F10_j1 fuel x0 x1 (r12.2 != r13.2))))))))))
set_option maxRecDepth 100000 in
theorem f10_ok (fuel : Nat) (x0 : List Pt) (x1 : List Int) (y3 : Int) (y4 : Int) (r : Bool) (hr : F10 fuel x0 x1 y3 y4 = some r) (h : Zone) (L : List Atom) (w : World) (hS : St h L w) (o_x0 : Option Addr) (c_x0 : Nat) (hx_x0 : SliceR PtT h o_x0 c_x0 x0) (o_x1 : Option Addr) (c_x1 : Nat) (hx_x1 : SliceR Ty.int h o_x1 c_x1 x1) :
    Calls Try.prog 10 #[.agg #[.slice o_x0 x0.length c_x0], .slice o_x1 x1.length c_x1, .agg #[vI y3, vI y4]] w fun e w' => ∃ v, e = .returned v ∧ (∃ h', Zone.le h h' ∧ v = .bool r ∧ St h' L w') := by
 refine calls_intro (N := 97) Try.func10 (by kernel_rfl) fun a hf => ?_
 refine w_sr (by kernel_rfl) ?_
 refine p_box (i := 0) (d := (some 3)) (cs := [.slice o_x0 x0.length c_x0]) (T := 24) (v := fun b1 => pB b1 0) hS hf (fun b => by kernel_rfl) fun b1 ww1 a1 hS1 hf1 => ⟨fun _ => trivial, ?_⟩
 refine p_box (i := 1) (d := (some 5)) (cs := [vI y3, vI y4]) (T := 42) (v := fun b2 => pB b2 0) hS1 hf1 (fun b => by kernel_rfl) fun b2 ww2 a2 hS2 hf2 => ⟨fun _ => trivial, ?_⟩
 refine p_qt [] [(1, .slice o_x1 x1.length c_x1), (3, pB b1 0), (5, pB b2 0)] [] hf2 (by kernel_rfl) .nil fun a3 hf3 => ?_
 refine w_sr (by kernel_rfl) ?_
 refine p_qn 3 [.slice o_x0 x0.length c_x0, vI y3] [(1, .slice o_x1 x1.length c_x1), (3, pB b1 0), (5, pB b2 0), (16, .agg #[.slice o_x0 x0.length c_x0]), (18, vI y3)] [.cell ⟨b1, 0, none⟩ (.slice o_x0 x0.length c_x0), .prop ((0 : Int) ≤ 0 ∧ (0 : Int) < (2 : Nat)), .cell ⟨b2, 0, none⟩ (vI y3)] hf3 (by kernel_rfl) (.cell (hS2.box (i := 1) rfl (j := 0) rfl) (.prop (by decide) (.cell (hS2.box (i := 0) rfl (j := 0) rfl) .nil))) fun a4 hf4 => ?_
 obtain ⟨r10, hd1, hr1⟩ := bind_some hr
 refine p_call (i := 3) (d := some 19) (f := 27) (args := #[.agg #[.slice o_x0 x0.length c_x0], vI y3]) hf4 (by kernel_rfl) (f27_ok fuel x0 y3 r10 hd1 h _ _ hS2 o_x0 c_x0 hx_x0) ?_
 rintro v1 ww3 a5 ⟨z1, k1, rfl, hS3⟩ hf5
 refine ⟨fun _ => trivial, ?_⟩
 refine p_qn 3 [] [(1, .slice o_x1 x1.length c_x1), (3, pB b1 0), (5, pB b2 0), (20, .agg #[vI r10.1, vI r10.2.1]), (21, vI r10.2.2)] [] hf5 (by kernel_rfl) .nil fun a6 hf6 => ?_
 refine p_box (i := 7) (d := (some 7)) (cs := [vI 0, vI 0]) (T := 41) (v := fun b3 => pB b3 0) hS3 hf6 (fun b => by kernel_rfl) fun b3 ww4 a7 hS4 hf7 => ⟨fun _ => trivial, ?_⟩
 refine p_store_eq (i := 8) (j := 0) (b := b3) (off := 0) (vs := [vI r10.1, vI r10.2.1]) (cs' := [vI r10.1, vI r10.2.1]) hS4 hf7 rfl (by kernel_rfl) (by kernel_rfl) rfl fun ww5 a8 hS5 hf8 => ⟨fun _ => trivial, ?_⟩
 refine p_qt [] [(1, .slice o_x1 x1.length c_x1), (3, pB b1 0), (5, pB b2 0), (7, pB b3 0), (8, vI r10.2.2)] [] hf8 (by kernel_rfl) .nil fun a9 hf9 => ?_
 refine w_sr (by kernel_rfl) ?_
 refine p_qn 3 [.slice o_x0 x0.length c_x0, vI y3] [(1, .slice o_x1 x1.length c_x1), (3, pB b1 0), (5, pB b2 0), (7, pB b3 0), (8, vI r10.2.2), (23, .agg #[.slice o_x0 x0.length c_x0]), (25, vI y3)] [.cell ⟨b1, 0, none⟩ (.slice o_x0 x0.length c_x0), .prop ((0 : Int) ≤ 0 ∧ (0 : Int) < (2 : Nat)), .cell ⟨b2, 0, none⟩ (vI y3)] hf9 (by kernel_rfl) (.cell (hS5.box (i := 2) rfl (j := 0) rfl) (.prop (by decide) (.cell (hS5.box (i := 1) rfl (j := 0) rfl) .nil))) fun a10 hf10 => ?_
 obtain ⟨r11, hd2, hr2⟩ := bind_some hr1
 refine p_call (i := 3) (d := some 26) (f := 64) (args := #[.agg #[.slice o_x0 x0.length c_x0], vI y3]) hf10 (by kernel_rfl) (f64_ok fuel x0 y3 r11 hd2 z1 _ _ hS5 o_x0 c_x0 (SliceR.mono k1 hx_x0)) ?_
 rintro v2 ww6 a11 ⟨z2, k2, rfl, hS6⟩ hf11
 refine ⟨fun _ => trivial, ?_⟩
 refine p_qn 3 [] [(1, .slice o_x1 x1.length c_x1), (3, pB b1 0), (5, pB b2 0), (7, pB b3 0), (8, vI r10.2.2), (27, .agg #[vI r11.1, vI r11.2.1]), (28, vI r11.2.2)] [] hf11 (by kernel_rfl) .nil fun a12 hf12 => ?_
 refine p_box (i := 7) (d := (some 9)) (cs := [vI 0, vI 0]) (T := 41) (v := fun b4 => pB b4 0) hS6 hf12 (fun b => by kernel_rfl) fun b4 ww7 a13 hS7 hf13 => ⟨fun _ => trivial, ?_⟩
 refine p_store_eq (i := 8) (j := 0) (b := b4) (off := 0) (vs := [vI r11.1, vI r11.2.1]) (cs' := [vI r11.1, vI r11.2.1]) hS7 hf13 rfl (by kernel_rfl) (by kernel_rfl) rfl fun ww8 a14 hS8 hf14 => ⟨fun _ => trivial, ?_⟩
 refine p_qt [] [(1, .slice o_x1 x1.length c_x1), (3, pB b1 0), (5, pB b2 0), (7, pB b3 0), (8, vI r10.2.2), (9, pB b4 0), (10, vI r11.2.2)] [] hf14 (by kernel_rfl) .nil fun a15 hf15 => ?_
 refine w_sr (by kernel_rfl) ?_
 refine p_qn 5 [.slice o_x0 x0.length c_x0, vI y3, vI y4] [(1, .slice o_x1 x1.length c_x1), (3, pB b1 0), (5, pB b2 0), (7, pB b3 0), (8, vI r10.2.2), (9, pB b4 0), (10, vI r11.2.2), (30, .agg #[.slice o_x0 x0.length c_x0]), (32, vI y3), (34, vI y4)] [.cell ⟨b1, 0, none⟩ (.slice o_x0 x0.length c_x0), .prop ((0 : Int) ≤ 0 ∧ (0 : Int) < (2 : Nat)), .cell ⟨b2, 0, none⟩ (vI y3), .prop ((0 : Int) ≤ 1 ∧ (1 : Int) < (2 : Nat)), .cell ⟨b2, 1, none⟩ (vI y4)] hf15 (by kernel_rfl) (.cell (hS8.box (i := 3) rfl (j := 0) rfl) (.prop (by decide) (.cell (hS8.box (i := 2) rfl (j := 0) rfl) (.prop (by decide) (.cell (hS8.box (i := 2) rfl (j := 1) rfl) .nil))))) fun a16 hf16 => ?_
 obtain ⟨r12, hd3, hr3⟩ := bind_some hr2
 refine p_call (i := 5) (d := some 35) (f := 65) (args := #[.agg #[.slice o_x0 x0.length c_x0], vI y3, vI y4]) hf16 (by kernel_rfl) (f65_ok fuel x0 y3 y4 r12 hd3 z2 _ _ hS8 o_x0 c_x0 (SliceR.mono (Zone.le_trans k1 k2) hx_x0)) ?_
 rintro v3 ww9 a17 ⟨z3, e1, q1, k3, rfl, hS9, hx1⟩ hf17
 refine ⟨fun _ => trivial, ?_⟩
 refine p_qn 3 [] [(1, .slice o_x1 x1.length c_x1), (3, pB b1 0), (5, pB b2 0), (7, pB b3 0), (8, vI r10.2.2), (9, pB b4 0), (10, vI r11.2.2), (36, .agg #[.slice e1 r12.1.length q1]), (37, vI r12.2)] [] hf17 (by kernel_rfl) .nil fun a18 hf18 => ?_
 refine p_box (i := 9) (d := (some 11)) (cs := [.slice none 0 0]) (T := 24) (v := fun b5 => pB b5 0) hS9 hf18 (fun b => by kernel_rfl) fun b5 ww10 a19 hS10 hf19 => ⟨fun _ => trivial, ?_⟩
 refine p_store_eq (i := 10) (j := 0) (b := b5) (off := 0) (vs := [.slice e1 r12.1.length q1]) (cs' := [.slice e1 r12.1.length q1]) hS10 hf19 rfl (by kernel_rfl) (by kernel_rfl) rfl fun ww11 a20 hS11 hf20 => ⟨fun _ => trivial, ?_⟩
 refine p_qt [] [(1, .slice o_x1 x1.length c_x1), (3, pB b1 0), (5, pB b2 0), (7, pB b3 0), (8, vI r10.2.2), (9, pB b4 0), (10, vI r11.2.2), (11, pB b5 0), (12, vI r12.2)] [] hf20 (by kernel_rfl) .nil fun a21 hf21 => ?_
 refine w_sr (by kernel_rfl) ?_
 refine p_qn 5 [.slice o_x0 x0.length c_x0, vI y3, vI y4] [(1, .slice o_x1 x1.length c_x1), (3, pB b1 0), (7, pB b3 0), (8, vI r10.2.2), (9, pB b4 0), (10, vI r11.2.2), (11, pB b5 0), (12, vI r12.2), (39, .agg #[.slice o_x0 x0.length c_x0]), (41, vI y3), (43, vI y4)] [.cell ⟨b1, 0, none⟩ (.slice o_x0 x0.length c_x0), .prop ((0 : Int) ≤ 0 ∧ (0 : Int) < (2 : Nat)), .cell ⟨b2, 0, none⟩ (vI y3), .prop ((0 : Int) ≤ 1 ∧ (1 : Int) < (2 : Nat)), .cell ⟨b2, 1, none⟩ (vI y4)] hf21 (by kernel_rfl) (.cell (hS11.box (i := 4) rfl (j := 0) rfl) (.prop (by decide) (.cell (hS11.box (i := 3) rfl (j := 0) rfl) (.prop (by decide) (.cell (hS11.box (i := 3) rfl (j := 1) rfl) .nil))))) fun a22 hf22 => ?_
 obtain ⟨r13, hd4, hr4⟩ := bind_some hr3
 refine p_call (i := 5) (d := some 44) (f := 66) (args := #[.agg #[.slice o_x0 x0.length c_x0], vI y3, vI y4]) hf22 (by kernel_rfl) (f66_ok fuel x0 y3 y4 r13 hd4 z3 _ _ hS11 o_x0 c_x0 (SliceR.mono (Zone.le_trans (Zone.le_trans k1 k2) k3) hx_x0)) ?_
 rintro v4 ww12 a23 ⟨z4, e2, q2, k4, rfl, hS12, hx2⟩ hf23
 refine ⟨fun _ => trivial, ?_⟩
 refine p_qn 3 [] [(1, .slice o_x1 x1.length c_x1), (3, pB b1 0), (7, pB b3 0), (8, vI r10.2.2), (9, pB b4 0), (10, vI r11.2.2), (11, pB b5 0), (12, vI r12.2), (45, .agg #[.slice e2 r13.1.length q2]), (46, vI r13.2)] [] hf23 (by kernel_rfl) .nil fun a24 hf24 => ?_
 refine p_box (i := 9) (d := (some 13)) (cs := [.slice none 0 0]) (T := 24) (v := fun b6 => pB b6 0) hS12 hf24 (fun b => by kernel_rfl) fun b6 ww13 a25 hS13 hf25 => ⟨fun _ => trivial, ?_⟩
 refine p_store_eq (i := 10) (j := 0) (b := b6) (off := 0) (vs := [.slice e2 r13.1.length q2]) (cs' := [.slice e2 r13.1.length q2]) hS13 hf25 rfl (by kernel_rfl) (by kernel_rfl) rfl fun ww14 a26 hS14 hf26 => ⟨fun _ => trivial, ?_⟩
 refine p_qt [] [(1, .slice o_x1 x1.length c_x1), (3, pB b1 0), (7, pB b3 0), (8, vI r10.2.2), (9, pB b4 0), (10, vI r11.2.2), (11, pB b5 0), (12, vI r12.2), (13, pB b6 0), (14, vI r13.2)] [] hf26 (by kernel_rfl) .nil fun a27 hf27 => ?_
 refine w_seq (by kernel_rfl) ?_
 refine w_mid (by kernel_rfl) (fun a w => ∃ z5 : Zone, ∃ y2 : Bool, Zone.le z4 z5 ∧ Fr a 97 [(1, .slice o_x1 x1.length c_x1), (3, pB b1 0), (65, .bool y2)] ∧ St z5 (box b6 [.slice e2 r13.1.length q2] 24 :: box b5 [.slice e1 r12.1.length q1] 24 :: box b4 [vI r11.1, vI r11.2.1] 41 :: box b3 [vI r10.1, vI r10.2.1] 41 :: box b2 [vI y3, vI y4] 42 :: box b1 [.slice o_x0 x0.length c_x0] 24 :: L) w ∧ (F10_j1 fuel x0 x1 y2) = some r) ?_ ?_
 ·skip
  refine w_reg (by kernel_rfl) ?_
  refine p_qn 4 [vI r10.1, vI r10.2.1, vI r11.1, vI r11.2.1] [(1, .slice o_x1 x1.length c_x1), (3, pB b1 0), (8, vI r10.2.2), (10, vI r11.2.2), (11, pB b5 0), (12, vI r12.2), (13, pB b6 0), (14, vI r13.2), (50, .bool (!((r10.1 == r11.1) && ((r10.2.1 == r11.2.1) && true))))] [.cell ⟨b3, 0, none⟩ (vI r10.1), .cell ⟨b3, 1, none⟩ (vI r10.2.1), .cell ⟨b4, 0, none⟩ (vI r11.1), .cell ⟨b4, 1, none⟩ (vI r11.2.1)] hf27 (by kernel_rfl) (.cell (hS14.box (i := 3) rfl (j := 0) rfl) (.cell (hS14.box (i := 3) rfl (j := 1) rfl) (.cell (hS14.box (i := 2) rfl (j := 0) rfl) (.cell (hS14.box (i := 2) rfl (j := 1) rfl) .nil)))) fun a28 hf28 => ?_
  rcases Bool.eq_false_or_eq_true (!((r10.1 == r11.1) && ((r10.2.1 == r11.2.1) && true))) with hb1 | hb1
  ·have hr5 := cond_t hb1 hr4
   have hf29 := Fr.conv hf28 (congrArg (fun z => ([(1, .slice o_x1 x1.length c_x1), (3, pB b1 0), (8, vI r10.2.2), (10, vI r11.2.2), (11, pB b5 0), (12, vI r12.2), (13, pB b6 0), (14, vI r13.2), (50, .bool z)] : FL)) hb1)
   refine p_qt [] [(1, .slice o_x1 x1.length c_x1), (3, pB b1 0), (65, .bool true)] [] hf29 (by kernel_rfl) .nil fun a29 hf30 => ?_
   have hf31 := Fr.keep (ks := [1, 3, 65]) (r := [(1, .slice o_x1 x1.length c_x1), (3, pB b1 0), (65, .bool true)]) hf30 (by kernel_rfl)
   exact ⟨z4, true, (Zone.le_refl _), hf31, hS14, hr5⟩
  ·have hr6 := cond_f hb1 hr4
   have hf32 := Fr.conv hf28 (congrArg (fun z => ([(1, .slice o_x1 x1.length c_x1), (3, pB b1 0), (8, vI r10.2.2), (10, vI r11.2.2), (11, pB b5 0), (12, vI r12.2), (13, pB b6 0), (14, vI r13.2), (50, .bool z)] : FL)) hb1)
   refine p_qn 5 [] [(1, .slice o_x1 x1.length c_x1), (3, pB b1 0), (11, pB b5 0), (12, vI r12.2), (13, pB b6 0), (14, vI r13.2), (55, .bool (r10.2.2 != r11.2.2))] [] hf32 (by kernel_rfl) .nil fun a30 hf33 => ?_
   rcases Bool.eq_false_or_eq_true (r10.2.2 != r11.2.2) with hb2 | hb2
   ·have hr7 := cond_t hb2 hr6
    have hf34 := Fr.conv hf33 (congrArg (fun z => ([(1, .slice o_x1 x1.length c_x1), (3, pB b1 0), (11, pB b5 0), (12, vI r12.2), (13, pB b6 0), (14, vI r13.2), (55, .bool z)] : FL)) hb2)
    refine p_qt [] [(1, .slice o_x1 x1.length c_x1), (3, pB b1 0), (65, .bool true)] [] hf34 (by kernel_rfl) .nil fun a31 hf35 => ?_
    have hf36 := Fr.keep (ks := [1, 3, 65]) (r := [(1, .slice o_x1 x1.length c_x1), (3, pB b1 0), (65, .bool true)]) hf35 (by kernel_rfl)
    exact ⟨z4, true, (Zone.le_refl _), hf36, hS14, hr7⟩
   ·have hr8 := cond_f hb2 hr6
    have hf37 := Fr.conv hf33 (congrArg (fun z => ([(1, .slice o_x1 x1.length c_x1), (3, pB b1 0), (11, pB b5 0), (12, vI r12.2), (13, pB b6 0), (14, vI r13.2), (55, .bool z)] : FL)) hb2)
    refine p_qn 2 [.slice e1 r12.1.length q1, .slice e2 r13.1.length q2] [(1, .slice o_x1 x1.length c_x1), (3, pB b1 0), (12, vI r12.2), (14, vI r13.2), (55, .bool false), (56, .agg #[.slice e1 r12.1.length q1]), (57, .agg #[.slice e2 r13.1.length q2])] [.cell ⟨b5, 0, none⟩ (.slice e1 r12.1.length q1), .cell ⟨b6, 0, none⟩ (.slice e2 r13.1.length q2)] hf37 (by kernel_rfl) (.cell (hS14.box (i := 1) rfl (j := 0) rfl) (.cell (hS14.box (i := 0) rfl (j := 0) rfl) .nil)) fun a32 hf38 => ?_
    obtain ⟨r14, hd5, hr9⟩ := bind_some hr8
    refine p_call (i := 11) (d := some 58) (f := 63) (args := #[.agg #[.slice e1 r12.1.length q1], .agg #[.slice e2 r13.1.length q2]]) hf38 (by kernel_rfl) (f63_ok fuel r12.1 r13.1 r14 hd5 z4 _ _ hS14 e1 q1 (SliceR.mono k4 hx1) e2 q2 hx2) ?_
    rintro v5 ww15 a33 ⟨z6, k5, rfl, hS15⟩ hf39
    refine ⟨fun _ => trivial, ?_⟩
    refine p_qn 3 [] [(1, .slice o_x1 x1.length c_x1), (3, pB b1 0), (12, vI r12.2), (14, vI r13.2), (61, .bool (!r14))] [] hf39 (by kernel_rfl) .nil fun a34 hf40 => ?_
    rcases Bool.eq_false_or_eq_true (!r14) with hb3 | hb3
    ·have hr10 := cond_t hb3 hr9
     have hf41 := Fr.conv hf40 (congrArg (fun z => ([(1, .slice o_x1 x1.length c_x1), (3, pB b1 0), (12, vI r12.2), (14, vI r13.2), (61, .bool z)] : FL)) hb3)
     refine p_qt [] [(1, .slice o_x1 x1.length c_x1), (3, pB b1 0), (65, .bool true)] [] hf41 (by kernel_rfl) .nil fun a35 hf42 => ?_
     have hf43 := Fr.keep (ks := [1, 3, 65]) (r := [(1, .slice o_x1 x1.length c_x1), (3, pB b1 0), (65, .bool true)]) hf42 (by kernel_rfl)
     exact ⟨z6, true, k5, hf43, hS15, hr10⟩
    ·have hr11 := cond_f hb3 hr9
     have hf44 := Fr.conv hf40 (congrArg (fun z => ([(1, .slice o_x1 x1.length c_x1), (3, pB b1 0), (12, vI r12.2), (14, vI r13.2), (61, .bool z)] : FL)) hb3)
     refine p_qt [] [(1, .slice o_x1 x1.length c_x1), (3, pB b1 0), (65, .bool (r12.2 != r13.2))] [] hf44 (by kernel_rfl) .nil fun a36 hf45 => ?_
     have hf46 := Fr.keep (ks := [1, 3, 65]) (r := [(1, .slice o_x1 x1.length c_x1), (3, pB b1 0), (65, .bool (r12.2 != r13.2))]) hf45 (by kernel_rfl)
     exact ⟨z6, (r12.2 != r13.2), k5, hf46, hS15, hr11⟩
 ·rintro a37 ww16 ⟨z5, y2, k6, hf47, hS16, hr12⟩
  refine w_if hf47 (b := y2) (by kernel_rfl) (fun hb4 => ?_) (fun hb4 => ?_)
  ·have hr13 := cond_t hb4 hr12
   refine w_sq [] [(6, .bool false)] [] hf47 (by kernel_rfl) .nil fun a38 hf48 => ?_
   refine w_ret (by kernel_rfl) ?_
   refine r_then ?_
   refine p_ret (os := []) (v := .bool false) (obs := []) hf48 (by kernel_rfl) .nil ?_
   obtain rfl := some_eq hr13
   exact ⟨_, rfl, z5, (Zone.le_trans (Zone.le_trans (Zone.le_trans (Zone.le_trans k1 k2) k3) k4) k6), rfl, (St.drop 6 hS16)⟩
  ·have hr14 := cond_f hb4 hr12
   refine w_skip (by kernel_rfl) ?_
   refine n_then ?_
   refine w_mid (by kernel_rfl) (fun a w => ∃ z7 : Zone, ∃ y1 : Bool, Zone.le z5 z7 ∧ Fr a 97 [(6, .bool y1)] ∧ St z7 (box b6 [.slice e2 r13.1.length q2] 24 :: box b5 [.slice e1 r12.1.length q1] 24 :: box b4 [vI r11.1, vI r11.2.1] 41 :: box b3 [vI r10.1, vI r10.2.1] 41 :: box b2 [vI y3, vI y4] 42 :: box b1 [.slice o_x0 x0.length c_x0] 24 :: L) w ∧ (F10_j2 y1) = some r) ?_ ?_
   ·skip
    have hS17 := hS16.drew
    have s1 : Sub z5 (box b6 [.slice e2 r13.1.length q2] 24 :: box b5 [.slice e1 r12.1.length q1] 24 :: box b4 [vI r11.1, vI r11.2.1] 41 :: box b3 [vI r10.1, vI r10.2.1] 41 :: box b2 [vI y3, vI y4] 42 :: box b1 [.slice o_x0 x0.length c_x0] 24 :: L) _ := Sub.of (Zone.le_refl _) hS17
    refine w_regD (by kernel_rfl) [(0, true), (2, true), (1, false), (3, false), (4, true), (5, true), (6, true), (7, true), (9, true), (10, true), (8, false), (11, false), (12, true), (13, true), (14, true), (15, true), (17, true), (16, false), (18, false), (19, true), (20, true), (21, true), (22, true), (24, true), (23, false), (25, false), (26, true), (27, true), (28, true), (29, false), (30, true), (31, true)] [25, 29] (Sub z5 (box b6 [.slice e2 r13.1.length q2] 24 :: box b5 [.slice e1 r12.1.length q1] 24 :: box b4 [vI r11.1, vI r11.2.1] 41 :: box b3 [vI r10.1, vI r10.2.1] 41 :: box b2 [vI y3, vI y4] 42 :: box b1 [.slice o_x0 x0.length c_x0] 24 :: L)) (by kernel_rfl) s1 ?_
    refine p_qS 2 [.slice o_x0 x0.length c_x0, .slice o_x0 x0.length c_x0] [(1, .slice o_x1 x1.length c_x1), (3, pB b1 0), (66, .agg #[.slice o_x0 x0.length c_x0]), (68, .agg #[.slice o_x0 x0.length c_x0])] [.cell ⟨b1, 0, none⟩ (.slice o_x0 x0.length c_x0), .cell ⟨b1, 0, none⟩ (.slice o_x0 x0.length c_x0)] [] s1 hf47 (by kernel_rfl) (fun _ s => (.cell (s.box (i := 5) rfl (j := 0) rfl) (.cell (s.box (i := 5) rfl (j := 0) rfl) .nil))) .nil fun a39 hf49 => ?_
    obtain ⟨r1, hd6, hr15⟩ := bind_some hr14
    refine p_call (i := 1) (d := some 67) (f := 67) (args := #[.agg #[.slice o_x0 x0.length c_x0]]) hf49 (by kernel_rfl) (f67_ok fuel x0 r1 hd6 z5 _ _ hS17 o_x0 c_x0 (SliceR.mono (Zone.le_trans (Zone.le_trans (Zone.le_trans (Zone.le_trans k1 k2) k3) k4) k6) hx_x0)) ?_
    rintro v6 ww17 a40 ⟨z8, k7, rfl, hS18⟩ hf50
    refine ⟨fun _ => Sub.of k7 hS18, ?_⟩
    have s2 : Sub z5 (box b6 [.slice e2 r13.1.length q2] 24 :: box b5 [.slice e1 r12.1.length q1] 24 :: box b4 [vI r11.1, vI r11.2.1] 41 :: box b3 [vI r10.1, vI r10.2.1] 41 :: box b2 [vI y3, vI y4] 42 :: box b1 [.slice o_x0 x0.length c_x0] 24 :: L) _ := Sub.of k7 hS18
    obtain ⟨r2, hd7, hr16⟩ := bind_some hr15
    refine p_call (i := 3) (d := some 69) (f := 68) (args := #[.agg #[.slice o_x0 x0.length c_x0]]) hf50 (by kernel_rfl) (f68_ok fuel x0 r2 hd7 z8 _ _ hS18 o_x0 c_x0 (SliceR.mono (Zone.le_trans (Zone.le_trans (Zone.le_trans (Zone.le_trans (Zone.le_trans k1 k2) k3) k4) k6) k7) hx_x0)) ?_
    rintro v7 ww18 a41 ⟨z9, k8, rfl, hS19⟩ hf51
    refine ⟨fun _ => Sub.of (Zone.le_trans k7 k8) hS19, ?_⟩
    have s3 : Sub z5 (box b6 [.slice e2 r13.1.length q2] 24 :: box b5 [.slice e1 r12.1.length q1] 24 :: box b4 [vI r11.1, vI r11.2.1] 41 :: box b3 [vI r10.1, vI r10.2.1] 41 :: box b2 [vI y3, vI y4] 42 :: box b1 [.slice o_x0 x0.length c_x0] 24 :: L) _ := Sub.of (Zone.le_trans k7 k8) hS19
    refine p_qS 2 [] [(1, .slice o_x1 x1.length c_x1), (3, pB b1 0), (71, .bool (r1 == r2))] [] [] s3 hf51 (by kernel_rfl) (fun _ s => .nil) .nil fun a42 hf52 => ?_
    rcases Bool.eq_false_or_eq_true (r1 == r2) with hb5 | hb5
    ·have hr17 := cond_t hb5 hr16
     have hf53 := Fr.conv hf52 (congrArg (fun z => ([(1, .slice o_x1 x1.length c_x1), (3, pB b1 0), (71, .bool z)] : FL)) hb5)
     refine p_qS 4 [.slice o_x0 x0.length c_x0, .slice o_x0 x0.length c_x0] [(3, pB b1 0), (71, .bool true), (72, .agg #[.slice o_x0 x0.length c_x0]), (73, .slice o_x1 x1.length c_x1), (75, .agg #[.slice o_x0 x0.length c_x0]), (76, .slice o_x1 x1.length c_x1)] [.cell ⟨b1, 0, none⟩ (.slice o_x0 x0.length c_x0), .cell ⟨b1, 0, none⟩ (.slice o_x0 x0.length c_x0)] [] s3 hf53 (by kernel_rfl) (fun _ s => (.cell (s.box (i := 5) rfl (j := 0) rfl) (.cell (s.box (i := 5) rfl (j := 0) rfl) .nil))) .nil fun a43 hf54 => ?_
     obtain ⟨r3, hd8, hr18⟩ := bind_some hr17
     refine p_call (i := 8) (d := some 74) (f := 31) (args := #[.agg #[.slice o_x0 x0.length c_x0], .slice o_x1 x1.length c_x1]) hf54 (by kernel_rfl) (f31_ok fuel x0 x1 r3 hd8 z9 _ _ hS19 o_x0 c_x0 (SliceR.mono (Zone.le_trans (Zone.le_trans (Zone.le_trans (Zone.le_trans (Zone.le_trans (Zone.le_trans k1 k2) k3) k4) k6) k7) k8) hx_x0) o_x1 c_x1 (SliceR.mono (Zone.le_trans (Zone.le_trans (Zone.le_trans (Zone.le_trans (Zone.le_trans (Zone.le_trans k1 k2) k3) k4) k6) k7) k8) hx_x1)) ?_
     rintro v8 ww19 a44 ⟨z10, k9, rfl, hS20⟩ hf55
     refine ⟨fun _ => Sub.of (Zone.le_trans (Zone.le_trans k7 k8) k9) hS20, ?_⟩
     have s4 : Sub z5 (box b6 [.slice e2 r13.1.length q2] 24 :: box b5 [.slice e1 r12.1.length q1] 24 :: box b4 [vI r11.1, vI r11.2.1] 41 :: box b3 [vI r10.1, vI r10.2.1] 41 :: box b2 [vI y3, vI y4] 42 :: box b1 [.slice o_x0 x0.length c_x0] 24 :: L) _ := Sub.of (Zone.le_trans (Zone.le_trans k7 k8) k9) hS20
     obtain ⟨r4, hd9, hr19⟩ := bind_some hr18
     refine p_call (i := 11) (d := some 77) (f := 69) (args := #[.agg #[.slice o_x0 x0.length c_x0], .slice o_x1 x1.length c_x1]) hf55 (by kernel_rfl) (f69_ok fuel x0 x1 r4 hd9 z10 _ _ hS20 o_x0 c_x0 (SliceR.mono (Zone.le_trans (Zone.le_trans (Zone.le_trans (Zone.le_trans (Zone.le_trans (Zone.le_trans (Zone.le_trans k1 k2) k3) k4) k6) k7) k8) k9) hx_x0) o_x1 c_x1 (SliceR.mono (Zone.le_trans (Zone.le_trans (Zone.le_trans (Zone.le_trans (Zone.le_trans (Zone.le_trans (Zone.le_trans k1 k2) k3) k4) k6) k7) k8) k9) hx_x1)) ?_
     rintro v9 ww20 a45 ⟨z11, k10, rfl, hS21⟩ hf56
     refine ⟨fun _ => Sub.of (Zone.le_trans (Zone.le_trans (Zone.le_trans k7 k8) k9) k10) hS21, ?_⟩
     have s5 : Sub z5 (box b6 [.slice e2 r13.1.length q2] 24 :: box b5 [.slice e1 r12.1.length q1] 24 :: box b4 [vI r11.1, vI r11.2.1] 41 :: box b3 [vI r10.1, vI r10.2.1] 41 :: box b2 [vI y3, vI y4] 42 :: box b1 [.slice o_x0 x0.length c_x0] 24 :: L) _ := Sub.of (Zone.le_trans (Zone.le_trans (Zone.le_trans k7 k8) k9) k10) hS21
     refine p_qS 3 [] [(3, pB b1 0), (80, .bool (r3 == r4))] [] [] s5 hf56 (by kernel_rfl) (fun _ s => .nil) .nil fun a46 hf57 => ?_
     rcases Bool.eq_false_or_eq_true (r3 == r4) with hb6 | hb6
     ·have hr20 := cond_t hb6 hr19
      have hf58 := Fr.conv hf57 (congrArg (fun z => ([(3, pB b1 0), (80, .bool z)] : FL)) hb6)
      refine p_qS 2 [.slice o_x0 x0.length c_x0, .slice o_x0 x0.length c_x0] [(3, pB b1 0), (80, .bool true), (81, .agg #[.slice o_x0 x0.length c_x0]), (83, .agg #[.slice o_x0 x0.length c_x0])] [.cell ⟨b1, 0, none⟩ (.slice o_x0 x0.length c_x0), .cell ⟨b1, 0, none⟩ (.slice o_x0 x0.length c_x0)] [] s5 hf58 (by kernel_rfl) (fun _ s => (.cell (s.box (i := 5) rfl (j := 0) rfl) (.cell (s.box (i := 5) rfl (j := 0) rfl) .nil))) .nil fun a47 hf59 => ?_
      obtain ⟨r5, hd10, hr21⟩ := bind_some hr20
      refine p_call (i := 16) (d := some 82) (f := 28) (args := #[.agg #[.slice o_x0 x0.length c_x0]]) hf59 (by kernel_rfl) (f28_ok fuel x0 r5 hd10 z11 _ _ hS21 o_x0 c_x0 (SliceR.mono (Zone.le_trans (Zone.le_trans (Zone.le_trans (Zone.le_trans (Zone.le_trans (Zone.le_trans (Zone.le_trans (Zone.le_trans k1 k2) k3) k4) k6) k7) k8) k9) k10) hx_x0)) ?_
      rintro v10 ww21 a48 ⟨z12, k11, rfl, hS22⟩ hf60
      refine ⟨fun _ => Sub.of (Zone.le_trans (Zone.le_trans (Zone.le_trans (Zone.le_trans k7 k8) k9) k10) k11) hS22, ?_⟩
      have s6 : Sub z5 (box b6 [.slice e2 r13.1.length q2] 24 :: box b5 [.slice e1 r12.1.length q1] 24 :: box b4 [vI r11.1, vI r11.2.1] 41 :: box b3 [vI r10.1, vI r10.2.1] 41 :: box b2 [vI y3, vI y4] 42 :: box b1 [.slice o_x0 x0.length c_x0] 24 :: L) _ := Sub.of (Zone.le_trans (Zone.le_trans (Zone.le_trans (Zone.le_trans k7 k8) k9) k10) k11) hS22
      obtain ⟨r6, hd11, hr22⟩ := bind_some hr21
      refine p_call (i := 18) (d := some 84) (f := 70) (args := #[.agg #[.slice o_x0 x0.length c_x0]]) hf60 (by kernel_rfl) (f70_ok fuel x0 r6 hd11 z12 _ _ hS22 o_x0 c_x0 (SliceR.mono (Zone.le_trans (Zone.le_trans (Zone.le_trans (Zone.le_trans (Zone.le_trans (Zone.le_trans (Zone.le_trans (Zone.le_trans (Zone.le_trans k1 k2) k3) k4) k6) k7) k8) k9) k10) k11) hx_x0)) ?_
      rintro v11 ww22 a49 ⟨z13, k12, rfl, hS23⟩ hf61
      refine ⟨fun _ => Sub.of (Zone.le_trans (Zone.le_trans (Zone.le_trans (Zone.le_trans (Zone.le_trans k7 k8) k9) k10) k11) k12) hS23, ?_⟩
      have s7 : Sub z5 (box b6 [.slice e2 r13.1.length q2] 24 :: box b5 [.slice e1 r12.1.length q1] 24 :: box b4 [vI r11.1, vI r11.2.1] 41 :: box b3 [vI r10.1, vI r10.2.1] 41 :: box b2 [vI y3, vI y4] 42 :: box b1 [.slice o_x0 x0.length c_x0] 24 :: L) _ := Sub.of (Zone.le_trans (Zone.le_trans (Zone.le_trans (Zone.le_trans (Zone.le_trans k7 k8) k9) k10) k11) k12) hS23
      refine p_qS 3 [] [(3, pB b1 0), (87, .bool (r5 == r6))] [] [] s7 hf61 (by kernel_rfl) (fun _ s => .nil) .nil fun a50 hf62 => ?_
      rcases Bool.eq_false_or_eq_true (r5 == r6) with hb7 | hb7
      ·have hr23 := cond_t hb7 hr22
       have hf63 := Fr.conv hf62 (congrArg (fun z => ([(3, pB b1 0), (87, .bool z)] : FL)) hb7)
       refine p_qS 2 [.slice o_x0 x0.length c_x0, .slice o_x0 x0.length c_x0] [(87, .bool true), (88, .agg #[.slice o_x0 x0.length c_x0]), (90, .agg #[.slice o_x0 x0.length c_x0])] [.cell ⟨b1, 0, none⟩ (.slice o_x0 x0.length c_x0), .cell ⟨b1, 0, none⟩ (.slice o_x0 x0.length c_x0)] [] s7 hf63 (by kernel_rfl) (fun _ s => (.cell (s.box (i := 5) rfl (j := 0) rfl) (.cell (s.box (i := 5) rfl (j := 0) rfl) .nil))) .nil fun a51 hf64 => ?_
       obtain ⟨r7, hd12, hr24⟩ := bind_some hr23
       refine p_call (i := 23) (d := some 89) (f := 29) (args := #[.agg #[.slice o_x0 x0.length c_x0]]) hf64 (by kernel_rfl) (f29_ok fuel x0 r7 hd12 z13 _ _ hS23 o_x0 c_x0 (SliceR.mono (Zone.le_trans (Zone.le_trans (Zone.le_trans (Zone.le_trans (Zone.le_trans (Zone.le_trans (Zone.le_trans (Zone.le_trans (Zone.le_trans (Zone.le_trans k1 k2) k3) k4) k6) k7) k8) k9) k10) k11) k12) hx_x0)) ?_
       rintro v12 ww23 a52 ⟨z14, k13, rfl, hS24⟩ hf65
       refine ⟨fun _ => Sub.of (Zone.le_trans (Zone.le_trans (Zone.le_trans (Zone.le_trans (Zone.le_trans (Zone.le_trans k7 k8) k9) k10) k11) k12) k13) hS24, ?_⟩
       have s8 : Sub z5 (box b6 [.slice e2 r13.1.length q2] 24 :: box b5 [.slice e1 r12.1.length q1] 24 :: box b4 [vI r11.1, vI r11.2.1] 41 :: box b3 [vI r10.1, vI r10.2.1] 41 :: box b2 [vI y3, vI y4] 42 :: box b1 [.slice o_x0 x0.length c_x0] 24 :: L) _ := Sub.of (Zone.le_trans (Zone.le_trans (Zone.le_trans (Zone.le_trans (Zone.le_trans (Zone.le_trans k7 k8) k9) k10) k11) k12) k13) hS24
       obtain ⟨r8, hd13, hr25⟩ := bind_some hr24
       refine p_call (i := 25) (d := some 91) (f := 71) (args := #[.agg #[.slice o_x0 x0.length c_x0]]) hf65 (by kernel_rfl) (f71_ok fuel x0 r8 hd13 z14 _ _ hS24 o_x0 c_x0 (SliceR.mono (Zone.le_trans (Zone.le_trans (Zone.le_trans (Zone.le_trans (Zone.le_trans (Zone.le_trans (Zone.le_trans (Zone.le_trans (Zone.le_trans (Zone.le_trans (Zone.le_trans k1 k2) k3) k4) k6) k7) k8) k9) k10) k11) k12) k13) hx_x0)) ?_
       rintro v13 ww24 a53 ⟨z15, k14, rfl, hS25⟩ hf66
       refine ⟨fun e => absurd e (by decide), ?_⟩
       refine p_qP 3 [] [(94, .bool (r7 == r8))] [] hf66 (by kernel_rfl) (fun _ => .nil) fun a54 hf67 => ?_
       rcases Bool.eq_false_or_eq_true (r7 == r8) with hb8 | hb8
       ·have hr26 := cond_t hb8 hr25
        have hf68 := Fr.conv hf67 (congrArg (fun z => ([(94, .bool z)] : FL)) hb8)
        obtain ⟨r9, hd14, hr27⟩ := bind_some hr26
        refine p_call (i := 29) (d := some 95) (f := 13) (args := #[]) hf68 (by kernel_rfl) (f13_ok fuel  r9 hd14 z15 _ _ hS25 ) ?_
        rintro v14 ww25 a55 ⟨z16, k15, rfl, hS26⟩ hf69
        refine ⟨fun e => absurd e (by decide), ?_⟩
        refine p_qP 2 [] [(6, .bool r9)] [] hf69 (by kernel_rfl) (fun _ => .nil) fun a56 hf70 => ?_
        refine p_dt (by kernel_rfl) ?_
        have hf71 := Fr.keep (ks := [6]) (r := [(6, .bool r9)]) hf70 (by kernel_rfl)
        exact ⟨z16, r9, (Zone.le_trans (Zone.le_trans (Zone.le_trans (Zone.le_trans (Zone.le_trans (Zone.le_trans (Zone.le_trans (Zone.le_trans k7 k8) k9) k10) k11) k12) k13) k14) k15), hf71, hS26, hr27⟩
       ·have hr28 := cond_f hb8 hr25
        have hf72 := Fr.conv hf67 (congrArg (fun z => ([(94, .bool z)] : FL)) hb8)
        refine p_qL 1 [] [(94, .bool false), (95, undef)] [] hf72 (by kernel_rfl) .nil fun a57 hf73 => ?_
        refine p_qP 2 [] [(6, .bool false)] [] hf73 (by kernel_rfl) (fun _ => .nil) fun a58 hf74 => ?_
        refine p_dt (by kernel_rfl) ?_
        have hf75 := Fr.keep (ks := [6]) (r := [(6, .bool false)]) hf74 (by kernel_rfl)
        exact ⟨z15, false, (Zone.le_trans (Zone.le_trans (Zone.le_trans (Zone.le_trans (Zone.le_trans (Zone.le_trans (Zone.le_trans k7 k8) k9) k10) k11) k12) k13) k14), hf75, hS25, hr28⟩
      ·have hr29 := cond_f hb7 hr22
       have hf76 := Fr.conv hf62 (congrArg (fun z => ([(3, pB b1 0), (87, .bool z)] : FL)) hb7)
       refine p_qS 3 [] [(87, .bool false), (89, undef), (90, undef)] [] [] s7 hf76 (by kernel_rfl) (fun _ s => .nil) .nil fun a59 hf77 => ?_
       refine p_qL 1 [] [(87, .bool false), (89, undef), (91, undef)] [] hf77 (by kernel_rfl) .nil fun a60 hf78 => ?_
       refine p_qS 3 [] [(94, .bool false)] [] [] s7 hf78 (by kernel_rfl) (fun _ s => .nil) .nil fun a61 hf79 => ?_
       refine p_qL 1 [] [(94, .bool false), (95, undef)] [] hf79 (by kernel_rfl) .nil fun a62 hf80 => ?_
       refine p_qS 2 [] [(6, .bool false)] [] [] s7 hf80 (by kernel_rfl) (fun _ s => .nil) .nil fun a63 hf81 => ?_
       refine p_dt (by kernel_rfl) ?_
       have hf82 := Fr.keep (ks := [6]) (r := [(6, .bool false)]) hf81 (by kernel_rfl)
       exact ⟨z13, false, (Zone.le_trans (Zone.le_trans (Zone.le_trans (Zone.le_trans (Zone.le_trans k7 k8) k9) k10) k11) k12), hf82, hS23, hr29⟩
     ·have hr30 := cond_f hb6 hr19
      have hf83 := Fr.conv hf57 (congrArg (fun z => ([(3, pB b1 0), (80, .bool z)] : FL)) hb6)
      refine p_qS 10 [] [(87, .bool false), (89, undef), (90, undef)] [] [] s5 hf83 (by kernel_rfl) (fun _ s => .nil) .nil fun a64 hf84 => ?_
      refine p_qL 1 [] [(87, .bool false), (89, undef), (91, undef)] [] hf84 (by kernel_rfl) .nil fun a65 hf85 => ?_
      refine p_qS 3 [] [(94, .bool false)] [] [] s5 hf85 (by kernel_rfl) (fun _ s => .nil) .nil fun a66 hf86 => ?_
      refine p_qL 1 [] [(94, .bool false), (95, undef)] [] hf86 (by kernel_rfl) .nil fun a67 hf87 => ?_
      refine p_qS 2 [] [(6, .bool false)] [] [] s5 hf87 (by kernel_rfl) (fun _ s => .nil) .nil fun a68 hf88 => ?_
      refine p_dt (by kernel_rfl) ?_
      have hf89 := Fr.keep (ks := [6]) (r := [(6, .bool false)]) hf88 (by kernel_rfl)
      exact ⟨z11, false, (Zone.le_trans (Zone.le_trans (Zone.le_trans k7 k8) k9) k10), hf89, hS21, hr30⟩
    ·have hr31 := cond_f hb5 hr16
     have hf90 := Fr.conv hf52 (congrArg (fun z => ([(1, .slice o_x1 x1.length c_x1), (3, pB b1 0), (71, .bool z)] : FL)) hb5)
     refine p_qS 19 [] [(87, .bool false), (89, undef), (90, undef)] [] [] s3 hf90 (by kernel_rfl) (fun _ s => .nil) .nil fun a69 hf91 => ?_
     refine p_qL 1 [] [(87, .bool false), (89, undef), (91, undef)] [] hf91 (by kernel_rfl) .nil fun a70 hf92 => ?_
     refine p_qS 3 [] [(94, .bool false)] [] [] s3 hf92 (by kernel_rfl) (fun _ s => .nil) .nil fun a71 hf93 => ?_
     refine p_qL 1 [] [(94, .bool false), (95, undef)] [] hf93 (by kernel_rfl) .nil fun a72 hf94 => ?_
     refine p_qS 2 [] [(6, .bool false)] [] [] s3 hf94 (by kernel_rfl) (fun _ s => .nil) .nil fun a73 hf95 => ?_
     refine p_dt (by kernel_rfl) ?_
     have hf96 := Fr.keep (ks := [6]) (r := [(6, .bool false)]) hf95 (by kernel_rfl)
     exact ⟨z9, false, (Zone.le_trans k7 k8), hf96, hS19, hr31⟩
   ·rintro a74 ww26 ⟨z7, y1, k16, hf97, hS27, hr32⟩
    refine w_ret (by kernel_rfl) ?_
    refine p_ret (os := []) (v := .bool y1) (obs := []) hf97 (by kernel_rfl) .nil ?_
    obtain rfl := some_eq hr32
    exact ⟨_, rfl, z7, (Zone.le_trans (Zone.le_trans (Zone.le_trans (Zone.le_trans (Zone.le_trans k1 k2) k3) k4) k6) k16), rfl, (St.drop 6 hS27)⟩
end Go.Proofs.Ytpjmgeajajcceaa
