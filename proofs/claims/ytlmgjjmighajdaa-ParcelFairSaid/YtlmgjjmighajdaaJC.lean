/-
  The walks of functions 25, 26: what the code does is what a plain function computes. No condition.
-/
import Derived.Test.YtlmgjjmighajdaaSPc
set_option linter.unusedVariables false
namespace Go.Proofs.Ytlmgjjmighajdaa
open Go.Sl Go.Sx
def F25_j1 (fuel : Nat) (x0 : List Part) (x1 : List Part) (y1 : Bool) : Option (List Part × Int) :=
  (cond y1 (some ([], 62)) ((F80 fuel x0 x1).bind fun r1 => ((F73 fuel r1).bind fun r2 => (cond (!r2) (some ([], 2)) (some (r1, 0))))))
def F25 (fuel : Nat) (x0 : List Part) (x1 : List Part) : Option (List Part × Int) :=
  ((F73 fuel x0).bind fun r3 => (cond (!r3) (F25_j1 fuel x0 x1 true) ((F73 fuel x1).bind fun r4 => (F25_j1 fuel x0 x1 (!r4)))))
set_option maxRecDepth 100000 in
theorem f25_ok (fuel : Nat) (x0 : List Part) (x1 : List Part) (r : List Part × Int) (hr : F25 fuel x0 x1 = some r) (h : Zone) (L : List Atom) (w : World) (hS : St h L w) (o_x0 : Option Addr) (c_x0 : Nat) (hx_x0 : SliceR PartT h o_x0 c_x0 x0) (o_x1 : Option Addr) (c_x1 : Nat) (hx_x1 : SliceR PartT h o_x1 c_x1 x1) :
    Calls Try.prog 25 #[.agg #[.slice o_x0 x0.length c_x0], .agg #[.slice o_x1 x1.length c_x1]] w fun e w' => ∃ v, e = .returned v ∧ (∃ h', ∃ o0 : Option Addr, ∃ c0 : Nat, Zone.le h h' ∧ v = .tuple #[.agg #[.slice o0 r.1.length c0], vI r.2] ∧ St h' L w' ∧ SliceR PartT h' o0 c0 r.1) := by
 refine calls_intro (N := 24) Try.func25 (by kernel_rfl) fun a hf => ?_
 refine w_sr (by kernel_rfl) ?_
 refine p_box (i := 0) (d := (some 2)) (cs := [.slice o_x0 x0.length c_x0]) (T := 40) (v := fun b1 => pB b1 0) hS hf (fun b => by kernel_rfl) fun b1 ww1 a1 hS1 hf1 => ⟨fun _ => trivial, ?_⟩
 refine p_box (i := 1) (d := (some 3)) (cs := [.slice o_x1 x1.length c_x1]) (T := 40) (v := fun b2 => pB b2 0) hS1 hf1 (fun b => by kernel_rfl) fun b2 ww2 a2 hS2 hf2 => ⟨fun _ => trivial, ?_⟩
 refine p_box (i := 2) (d := (some 4)) (cs := [.slice none 0 0]) (T := 40) (v := fun b3 => pB b3 0) hS2 hf2 (fun b => by kernel_rfl) fun b3 ww3 a3 hS3 hf3 => ⟨fun _ => trivial, ?_⟩
 refine p_qt [] [(2, pB b1 0), (3, pB b2 0), (4, pB b3 0)] [] hf3 (by kernel_rfl) .nil fun a4 hf4 => ?_
 refine w_seq (by kernel_rfl) ?_
 refine w_mid (by kernel_rfl) (fun a w => ∃ z1 : Zone, ∃ y1 : Bool, Zone.le h z1 ∧ Fr a 24 [(2, pB b1 0), (3, pB b2 0), (4, pB b3 0), (14, .bool y1)] ∧ St z1 (box b3 [.slice none 0 0] 40 :: box b2 [.slice o_x1 x1.length c_x1] 40 :: box b1 [.slice o_x0 x0.length c_x0] 40 :: L) w ∧ (F25_j1 fuel x0 x1 y1) = some r) ?_ ?_
 ·skip
  refine w_reg (by kernel_rfl) ?_
  refine p_qn 1 [.slice o_x0 x0.length c_x0] [(2, pB b1 0), (3, pB b2 0), (4, pB b3 0), (7, .agg #[.slice o_x0 x0.length c_x0])] [.cell ⟨b1, 0, none⟩ (.slice o_x0 x0.length c_x0)] hf4 (by kernel_rfl) (.cell (hS3.box (i := 2) rfl (j := 0) rfl) .nil) fun a5 hf5 => ?_
  obtain ⟨r3, hd1, hr1⟩ := bind_some hr
  refine p_call (i := 1) (d := some 8) (f := 73) (args := #[.agg #[.slice o_x0 x0.length c_x0]]) hf5 (by kernel_rfl) (f73_ok fuel x0 r3 hd1 h _ _ hS3 o_x0 c_x0 hx_x0) ?_
  rintro v1 ww4 a6 ⟨z2, k1, rfl, hS4⟩ hf6
  refine ⟨fun _ => trivial, ?_⟩
  refine p_qn 2 [] [(2, pB b1 0), (3, pB b2 0), (4, pB b3 0), (10, .bool (!r3))] [] hf6 (by kernel_rfl) .nil fun a7 hf7 => ?_
  rcases Bool.eq_false_or_eq_true (!r3) with hb1 | hb1
  ·have hr2 := cond_t hb1 hr1
   have hf8 := Fr.conv hf7 (congrArg (fun z => ([(2, pB b1 0), (3, pB b2 0), (4, pB b3 0), (10, .bool z)] : FL)) hb1)
   refine p_qt [] [(2, pB b1 0), (3, pB b2 0), (4, pB b3 0), (14, .bool true)] [] hf8 (by kernel_rfl) .nil fun a8 hf9 => ?_
   have hf10 := Fr.keep (ks := [2, 3, 4, 14]) (r := [(2, pB b1 0), (3, pB b2 0), (4, pB b3 0), (14, .bool true)]) hf9 (by kernel_rfl)
   exact ⟨z2, true, k1, hf10, hS4, hr2⟩
  ·have hr3 := cond_f hb1 hr1
   have hf11 := Fr.conv hf7 (congrArg (fun z => ([(2, pB b1 0), (3, pB b2 0), (4, pB b3 0), (10, .bool z)] : FL)) hb1)
   refine p_qn 1 [.slice o_x1 x1.length c_x1] [(2, pB b1 0), (3, pB b2 0), (4, pB b3 0), (10, .bool false), (11, .agg #[.slice o_x1 x1.length c_x1])] [.cell ⟨b2, 0, none⟩ (.slice o_x1 x1.length c_x1)] hf11 (by kernel_rfl) (.cell (hS4.box (i := 1) rfl (j := 0) rfl) .nil) fun a9 hf12 => ?_
   obtain ⟨r4, hd2, hr4⟩ := bind_some hr3
   refine p_call (i := 5) (d := some 12) (f := 73) (args := #[.agg #[.slice o_x1 x1.length c_x1]]) hf12 (by kernel_rfl) (f73_ok fuel x1 r4 hd2 z2 _ _ hS4 o_x1 c_x1 (SliceR.mono k1 hx_x1)) ?_
   rintro v2 ww5 a10 ⟨z3, k2, rfl, hS5⟩ hf13
   refine ⟨fun _ => trivial, ?_⟩
   refine p_qt [] [(2, pB b1 0), (3, pB b2 0), (4, pB b3 0), (14, .bool (!r4))] [] hf13 (by kernel_rfl) .nil fun a11 hf14 => ?_
   have hf15 := Fr.keep (ks := [2, 3, 4, 14]) (r := [(2, pB b1 0), (3, pB b2 0), (4, pB b3 0), (14, .bool (!r4))]) hf14 (by kernel_rfl)
   exact ⟨z3, (!r4), (Zone.le_trans k1 k2), hf15, hS5, hr4⟩
 ·rintro a12 ww6 ⟨z1, y1, k3, hf16, hS6, hr5⟩
  refine w_if hf16 (b := y1) (by kernel_rfl) (fun hb2 => ?_) (fun hb2 => ?_)
  ·have hr6 := cond_t hb2 hr5
   refine w_sr (by kernel_rfl) ?_
   refine p_qn 1 [] [(4, pB b3 0), (15, .agg #[.slice none 0 0])] [] hf16 (by kernel_rfl) .nil fun a13 hf17 => ?_
   refine p_store_eq (i := 1) (j := 0) (b := b3) (off := 0) (vs := [.slice none 0 0]) (cs' := [.slice none 0 0]) hS6 hf17 rfl (by kernel_rfl) (by kernel_rfl) rfl fun ww7 a14 hS7 hf18 => ⟨fun _ => trivial, ?_⟩
   refine p_qt [] [(4, pB b3 0), (5, vI 62)] [] hf18 (by kernel_rfl) .nil fun a15 hf19 => ?_
   refine w_ret (by kernel_rfl) ?_
   refine r_then ?_
   refine p_ret (os := [.slice none 0 0]) (v := .tuple #[.agg #[.slice none 0 0], vI 62]) (obs := [.cell ⟨b3, 0, none⟩ (.slice none 0 0)]) hf19 (by kernel_rfl) (.cell (hS7.box (i := 0) rfl (j := 0) rfl) .nil) ?_
   obtain rfl := some_eq hr6
   exact ⟨_, rfl, z1, none, 0, k3, rfl, (St.drop 3 hS7), SliceR.nil' _ _⟩
  ·have hr7 := cond_f hb2 hr5
   refine w_skip (by kernel_rfl) ?_
   refine n_then ?_
   refine w_sr (by kernel_rfl) ?_
   refine p_qn 2 [.slice o_x0 x0.length c_x0, .slice o_x1 x1.length c_x1] [(4, pB b3 0), (16, .agg #[.slice o_x0 x0.length c_x0]), (17, .agg #[.slice o_x1 x1.length c_x1])] [.cell ⟨b1, 0, none⟩ (.slice o_x0 x0.length c_x0), .cell ⟨b2, 0, none⟩ (.slice o_x1 x1.length c_x1)] hf16 (by kernel_rfl) (.cell (hS6.box (i := 2) rfl (j := 0) rfl) (.cell (hS6.box (i := 1) rfl (j := 0) rfl) .nil)) fun a16 hf20 => ?_
   obtain ⟨r1, hd3, hr8⟩ := bind_some hr7
   refine p_call (i := 2) (d := some 18) (f := 80) (args := #[.agg #[.slice o_x0 x0.length c_x0], .agg #[.slice o_x1 x1.length c_x1]]) hf20 (by kernel_rfl) (f80_ok fuel x0 x1 r1 hd3 z1 _ _ hS6 o_x0 c_x0 (SliceR.mono k3 hx_x0) o_x1 c_x1 (SliceR.mono k3 hx_x1)) ?_
   rintro v3 ww8 a17 ⟨z4, e1, q1, k4, rfl, hS8, hx1⟩ hf21
   refine ⟨fun _ => trivial, ?_⟩
   refine p_box (i := 3) (d := (some 6)) (cs := [.slice none 0 0]) (T := 40) (v := fun b4 => pB b4 0) hS8 hf21 (fun b => by kernel_rfl) fun b4 ww9 a18 hS9 hf22 => ⟨fun _ => trivial, ?_⟩
   refine p_store_eq (i := 4) (j := 0) (b := b4) (off := 0) (vs := [.slice e1 r1.length q1]) (cs' := [.slice e1 r1.length q1]) hS9 hf22 rfl (by kernel_rfl) (by kernel_rfl) rfl fun ww10 a19 hS10 hf23 => ⟨fun _ => trivial, ?_⟩
   refine p_dt (by kernel_rfl) ?_
   refine w_seq (by kernel_rfl) ?_
   refine w_sr (by kernel_rfl) ?_
   refine p_qn 1 [.slice e1 r1.length q1] [(4, pB b3 0), (6, pB b4 0), (19, .agg #[.slice e1 r1.length q1])] [.cell ⟨b4, 0, none⟩ (.slice e1 r1.length q1)] hf23 (by kernel_rfl) (.cell (hS10.box (i := 0) rfl (j := 0) rfl) .nil) fun a20 hf24 => ?_
   obtain ⟨r2, hd4, hr9⟩ := bind_some hr8
   refine p_call (i := 1) (d := some 20) (f := 73) (args := #[.agg #[.slice e1 r1.length q1]]) hf24 (by kernel_rfl) (f73_ok fuel r1 r2 hd4 z4 _ _ hS10 e1 q1 hx1) ?_
   rintro v4 ww11 a21 ⟨z5, k5, rfl, hS11⟩ hf25
   refine ⟨fun _ => trivial, ?_⟩
   refine p_qt [] [(4, pB b3 0), (6, pB b4 0), (21, .bool (!r2))] [] hf25 (by kernel_rfl) .nil fun a22 hf26 => ?_
   refine w_if hf26 (b := (!r2)) (by kernel_rfl) (fun hb3 => ?_) (fun hb3 => ?_)
   ·have hr10 := cond_t hb3 hr9
    refine w_sr (by kernel_rfl) ?_
    refine p_qn 1 [] [(4, pB b3 0), (22, .agg #[.slice none 0 0])] [] hf26 (by kernel_rfl) .nil fun a23 hf27 => ?_
    refine p_store_eq (i := 1) (j := 1) (b := b3) (off := 0) (vs := [.slice none 0 0]) (cs' := [.slice none 0 0]) hS11 hf27 rfl (by kernel_rfl) (by kernel_rfl) rfl fun ww12 a24 hS12 hf28 => ⟨fun _ => trivial, ?_⟩
    refine p_qt [] [(4, pB b3 0), (5, vI 2)] [] hf28 (by kernel_rfl) .nil fun a25 hf29 => ?_
    refine w_ret (by kernel_rfl) ?_
    refine r_then ?_
    refine p_ret (os := [.slice none 0 0]) (v := .tuple #[.agg #[.slice none 0 0], vI 2]) (obs := [.cell ⟨b3, 0, none⟩ (.slice none 0 0)]) hf29 (by kernel_rfl) (.cell (hS12.box (i := 1) rfl (j := 0) rfl) .nil) ?_
    obtain rfl := some_eq hr10
    exact ⟨_, rfl, z5, none, 0, (Zone.le_trans (Zone.le_trans k3 k4) k5), rfl, (St.drop 4 hS12), SliceR.nil' _ _⟩
   ·have hr11 := cond_f hb3 hr9
    refine w_skip (by kernel_rfl) ?_
    refine n_then ?_
    refine w_sr (by kernel_rfl) ?_
    refine p_qn 1 [.slice e1 r1.length q1] [(4, pB b3 0), (23, .agg #[.slice e1 r1.length q1])] [.cell ⟨b4, 0, none⟩ (.slice e1 r1.length q1)] hf26 (by kernel_rfl) (.cell (hS11.box (i := 0) rfl (j := 0) rfl) .nil) fun a26 hf30 => ?_
    refine p_store_eq (i := 1) (j := 1) (b := b3) (off := 0) (vs := [.slice e1 r1.length q1]) (cs' := [.slice e1 r1.length q1]) hS11 hf30 rfl (by kernel_rfl) (by kernel_rfl) rfl fun ww13 a27 hS13 hf31 => ⟨fun _ => trivial, ?_⟩
    refine p_qt [] [(4, pB b3 0), (5, vI 0)] [] hf31 (by kernel_rfl) .nil fun a28 hf32 => ?_
    refine w_ret (by kernel_rfl) ?_
    refine p_ret (os := [.slice e1 r1.length q1]) (v := .tuple #[.agg #[.slice e1 r1.length q1], vI 0]) (obs := [.cell ⟨b3, 0, none⟩ (.slice e1 r1.length q1)]) hf32 (by kernel_rfl) (.cell (hS13.box (i := 1) rfl (j := 0) rfl) .nil) ?_
    obtain rfl := some_eq hr11
    exact ⟨_, rfl, z5, e1, q1, (Zone.le_trans (Zone.le_trans k3 k4) k5), rfl, (St.drop 4 hS13), (SliceR.mono k5 hx1)⟩
def F26_l1 (x0 : List Part) (x1 : List Part) : Nat → Int → Option (Bool)
  | 0, _ => none
  | n1 + 1, y1 =>
    let k1 : Int → Option (Bool) := F26_l1 x0 x1 n1
    (cond (decide (y1 < (x0.length : Int))) ((getI x0 y1).bind fun p1 => ((getI x1 y1).bind fun p2 => (cond (!((p1.lot == p2.lot) && ((p1.mass == p2.mass) && true))) (some (false)) (k1 (w64 (y1 + (1 : Int))))))) (some (true)))
def F26 (fuel : Nat) (x0 : List Part) (x1 : List Part) : Option (Bool) :=
  (cond ((x0.length : Int) != (x1.length : Int)) (some (false)) (F26_l1 x0 x1 fuel 0))
set_option maxRecDepth 100000 in
theorem f26_ok (fuel : Nat) (x0 : List Part) (x1 : List Part) (r : Bool) (hr : F26 fuel x0 x1 = some r) (h : Zone) (L : List Atom) (w : World) (hS : St h L w) (o_x0 : Option Addr) (c_x0 : Nat) (hx_x0 : SliceR PartT h o_x0 c_x0 x0) (o_x1 : Option Addr) (c_x1 : Nat) (hx_x1 : SliceR PartT h o_x1 c_x1 x1) :
    Calls Try.prog 26 #[.agg #[.slice o_x0 x0.length c_x0], .agg #[.slice o_x1 x1.length c_x1]] w fun e w' => ∃ v, e = .returned v ∧ (∃ h', Zone.le h h' ∧ v = .bool r ∧ St h' L w') := by
 refine calls_intro (N := 31) Try.func26 (by kernel_rfl) fun a hf => ?_
 refine w_sr (by kernel_rfl) ?_
 refine p_box (i := 0) (d := (some 2)) (cs := [.slice o_x0 x0.length c_x0]) (T := 40) (v := fun b1 => pB b1 0) hS hf (fun b => by kernel_rfl) fun b1 ww1 a1 hS1 hf1 => ⟨fun _ => trivial, ?_⟩
 refine p_box (i := 1) (d := (some 3)) (cs := [.slice o_x1 x1.length c_x1]) (T := 40) (v := fun b2 => pB b2 0) hS1 hf1 (fun b => by kernel_rfl) fun b2 ww2 a2 hS2 hf2 => ⟨fun _ => trivial, ?_⟩
 refine p_qt [] [(2, pB b1 0), (3, pB b2 0)] [] hf2 (by kernel_rfl) .nil fun a3 hf3 => ?_
 refine w_seq (by kernel_rfl) ?_
 refine w_sq [.slice o_x0 x0.length c_x0, .slice o_x1 x1.length c_x1] [(2, pB b1 0), (3, pB b2 0), (12, .bool ((x0.length : Int) != (x1.length : Int)))] [.cell ⟨b1, 0, none⟩ (.slice o_x0 x0.length c_x0), .cell ⟨b2, 0, none⟩ (.slice o_x1 x1.length c_x1)] hf3 (by kernel_rfl) (.cell (hS2.box (i := 1) rfl (j := 0) rfl) (.cell (hS2.box (i := 0) rfl (j := 0) rfl) .nil)) fun a4 hf4 => ?_
 refine w_if hf4 (b := ((x0.length : Int) != (x1.length : Int))) (by kernel_rfl) (fun hb1 => ?_) (fun hb1 => ?_)
 ·have hr1 := cond_t hb1 hr
  refine w_sq [] [(4, .bool false)] [] hf4 (by kernel_rfl) .nil fun a5 hf5 => ?_
  refine w_ret (by kernel_rfl) ?_
  refine r_then ?_
  refine p_ret (os := []) (v := .bool false) (obs := []) hf5 (by kernel_rfl) .nil ?_
  obtain rfl := some_eq hr1
  exact ⟨_, rfl, h, (Zone.le_refl _), rfl, (St.drop 2 hS2)⟩
 ·have hr2 := cond_f hb1 hr
  refine w_skip (by kernel_rfl) ?_
  refine n_then ?_
  refine w_seq (by kernel_rfl) ?_
  refine w_sq [] [(2, pB b1 0), (3, pB b2 0), (5, vI 0)] [] hf4 (by kernel_rfl) .nil fun a6 hf6 => ?_
  refine w_block (id := 0) (by kernel_rfl) ?_
  have hf7 := Fr.keep (ks := [2, 3, 5]) (r := [(2, pB b1 0), (3, pB b2 0), (5, vI 0)]) hf6 (by kernel_rfl)
  refine w_loop (by kernel_rfl) (fun n a w => ∃ z1 : Zone, ∃ y1 : Int, Zone.le h z1 ∧ Fr a 31 [(2, pB b1 0), (3, pB b2 0), (5, vI y1)] ∧ St z1 (box b2 [.slice o_x1 x1.length c_x1] 40 :: box b1 [.slice o_x0 x0.length c_x0] 40 :: L) w ∧ (F26_l1 x0 x1 n y1) = some r) fuel ⟨h, 0, (Zone.le_refl _), hf7, hS2, hr2⟩ ?_
  rintro n2 a7 ww3 ⟨z1, y1, k2, hf8, hS3, hr3⟩
  cases n2 with
  | zero => cases hr3
  | succ n1 =>
  refine w_seq (by kernel_rfl) ?_
  refine w_sq [.slice o_x0 x0.length c_x0] [(2, pB b1 0), (3, pB b2 0), (5, vI y1), (17, .bool (decide (y1 < (x0.length : Int))))] [.cell ⟨b1, 0, none⟩ (.slice o_x0 x0.length c_x0)] hf8 (by kernel_rfl) (.cell (hS3.box (i := 1) rfl (j := 0) rfl) .nil) fun a8 hf9 => ?_
  refine w_if hf9 (b := (decide (y1 < (x0.length : Int)))) (by kernel_rfl) (fun hb2 => ?_) (fun hb2 => ?_)
  ·have hr4 := cond_t hb2 hr3
   refine w_skip (by kernel_rfl) ?_
   refine n_then ?_
   refine w_seq (by kernel_rfl) ?_
   refine w_block (id := 1) (by kernel_rfl) ?_
   have hS4 := hS3.drew
   obtain ⟨p1, hp546, hr5⟩ := bind_some hr4
   obtain ⟨ad1, ho1, hb3, cc1, hc1, hk1⟩ := SliceR.getI (SliceR.mono k2 hx_x0) hp546
   subst hc1
   obtain ⟨p2, hp555, hr6⟩ := bind_some hr5
   obtain ⟨ad2, ho2, hb4, cc2, hc2, hk2⟩ := SliceR.getI (SliceR.mono k2 hx_x1) hp555
   subst hc2
   refine w_sqD [(0, true), (1, true), (2, true), (3, true), (4, true), (5, true), (6, true), (7, true), (8, true), (9, true), (10, true)] [] [.slice o_x0 x0.length c_x0, .pointer (some ad1), vI p1.lot, vI p1.mass, .slice o_x1 x1.length c_x1, .pointer (some ad2), vI p2.lot, vI p2.mass] [(2, pB b1 0), (3, pB b2 0), (5, vI y1), (30, .bool (!((p1.lot == p2.lot) && ((p1.mass == p2.mass) && true))))] [.cell ⟨b1, 0, none⟩ (.slice o_x0 x0.length c_x0), .prop (o_x0 = some ad1), .prop (0 ≤ y1 ∧ y1 < (x0.length : Nat)), .cell ((ad1.add (Int.toNat y1 * 2)).add 0) (vI p1.lot), .cell ((ad1.add (Int.toNat y1 * 2)).add 1) (vI p1.mass), .cell ⟨b2, 0, none⟩ (.slice o_x1 x1.length c_x1), .prop (o_x1 = some ad2), .prop (0 ≤ y1 ∧ y1 < (x1.length : Nat)), .cell ((ad2.add (Int.toNat y1 * 2)).add 0) (vI p2.lot), .cell ((ad2.add (Int.toNat y1 * 2)).add 1) (vI p2.mass)] [] hf9 (by kernel_rfl) (.cell (hS4.box (i := 1) rfl (j := 0) rfl) (.prop ho1 (.prop hb3 (.cell (hS4.cell (hk1 0 _ rfl)) (.cell (hS4.cell (hk1 1 _ rfl)) (.cell (hS4.box (i := 0) rfl (j := 0) rfl) (.prop ho2 (.prop hb4 (.cell (hS4.cell (hk2 0 _ rfl)) (.cell (hS4.cell (hk2 1 _ rfl)) .nil)))))))))) .nil fun a9 hf10 => ?_
   refine w_if hf10 (b := (!((p1.lot == p2.lot) && ((p1.mass == p2.mass) && true)))) (by kernel_rfl) (fun hb5 => ?_) (fun hb5 => ?_)
   ·have hr7 := cond_t hb5 hr6
    refine w_sq [] [(4, .bool false)] [] hf10 (by kernel_rfl) .nil fun a10 hf11 => ?_
    refine w_ret (by kernel_rfl) ?_
    refine r_block ?_
    refine r_then ?_
    refine r_then ?_
    refine r_block ?_
    refine r_then ?_
    refine p_ret (os := []) (v := .bool false) (obs := []) hf11 (by kernel_rfl) .nil ?_
    obtain rfl := some_eq hr7
    exact ⟨_, rfl, z1, k2, rfl, (St.drop 2 hS4)⟩
   ·have hr8 := cond_f hb5 hr6
    refine w_skip (by kernel_rfl) ?_
    refine n_block ?_
    refine n_then ?_
    refine w_q [] [(2, pB b1 0), (3, pB b2 0), (5, vI (w64 (y1 + (1 : Int))))] [] hf10 (by kernel_rfl) .nil fun a11 hf12 => ?_
    refine n_then ?_
    have hf13 := Fr.keep (ks := [2, 3, 5]) (r := [(2, pB b1 0), (3, pB b2 0), (5, vI (w64 (y1 + (1 : Int))))]) hf12 (by kernel_rfl)
    exact ⟨n1, Nat.lt_succ_self n1, z1, (w64 (y1 + (1 : Int))), k2, hf13, hS4, hr8⟩
  ·have hr9 := cond_f hb2 hr3
   refine w_exit (id := 0) (by kernel_rfl) ?_
   refine x_then ?_
   refine x_then ?_
   refine x_block ?_
   refine n_then ?_
   refine w_sq [] [(4, .bool true)] [] hf9 (by kernel_rfl) .nil fun a12 hf14 => ?_
   refine w_ret (by kernel_rfl) ?_
   refine p_ret (os := []) (v := .bool true) (obs := []) hf14 (by kernel_rfl) .nil ?_
   obtain rfl := some_eq hr9
   exact ⟨_, rfl, z1, k2, rfl, (St.drop 2 hS3)⟩
end Go.Proofs.Ytlmgjjmighajdaa
