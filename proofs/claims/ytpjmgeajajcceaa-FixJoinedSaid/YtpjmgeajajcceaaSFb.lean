/-
  The walks of functions 90, 67, 117, 81, 83, 84, 85, 86, 18, 52, 120, 131, 121, 88, 19, 21, 26, 106, 39, 111, 125, 42, 43, 57, 63, 76, 77, 13: what the code does is what a plain function computes. No condition.
-/
import Derived.Test.YtpjmgeajajcceaaSFa
set_option linter.unusedVariables false
namespace Go.Proofs.Ytpjmgeajajcceaa
open Go.Sl Go.Sx
set_option maxRecDepth 100000 in
theorem f19_ok (fuel : Nat) (x0 : List Pt) (x1_lo : Int) (x1_hi : Int) (r : Int × Int × Int) (hr : F19 fuel x0 x1_lo x1_hi = some r) (h : Zone) (L : List Atom) (w : World) (hS : St h L w) (o_x0 : Option Addr) (c_x0 : Nat) (hx_x0 : SliceR PtT h o_x0 c_x0 x0) :
    Calls Try.prog 19 #[.agg #[.slice o_x0 x0.length c_x0], .agg #[vI x1_lo, vI x1_hi]] w fun e w' => ∃ v, e = .returned v ∧ (∃ h', Zone.le h h' ∧ v = .tuple #[.agg #[vI r.1, vI r.2.1], vI r.2.2] ∧ St h' L w') := by
 refine calls_intro (N := 59) Try.func19 (by kernel_rfl) fun a hf => ?_
 refine w_sr (by kernel_rfl) ?_
 refine p_box (i := 0) (d := (some 2)) (cs := [.slice o_x0 x0.length c_x0]) (T := 24) (v := fun b1 => pB b1 0) hS hf (fun b => by kernel_rfl) fun b1 ww1 a1 hS1 hf1 => ⟨fun _ => trivial, ?_⟩
 refine p_box (i := 1) (d := (some 3)) (cs := [vI x1_lo, vI x1_hi]) (T := 41) (v := fun b2 => pB b2 0) hS1 hf1 (fun b => by kernel_rfl) fun b2 ww2 a2 hS2 hf2 => ⟨fun _ => trivial, ?_⟩
 refine p_box (i := 2) (d := (some 4)) (cs := [vI 0, vI 0]) (T := 41) (v := fun b3 => pB b3 0) hS2 hf2 (fun b => by kernel_rfl) fun b3 ww3 a3 hS3 hf3 => ⟨fun _ => trivial, ?_⟩
 refine p_qt [] [(2, pB b1 0), (3, pB b2 0), (4, pB b3 0)] [] hf3 (by kernel_rfl) .nil fun a4 hf4 => ?_
 refine w_seq (by kernel_rfl) ?_
 refine w_sr (by kernel_rfl) ?_
 refine p_qn 1 [.slice o_x0 x0.length c_x0] [(2, pB b1 0), (3, pB b2 0), (4, pB b3 0), (12, .agg #[.slice o_x0 x0.length c_x0])] [.cell ⟨b1, 0, none⟩ (.slice o_x0 x0.length c_x0)] hf4 (by kernel_rfl) (.cell (hS3.box (i := 2) rfl (j := 0) rfl) .nil) fun a5 hf5 => ?_
 obtain ⟨r3, hd1, hr1⟩ := bind_some hr
 refine p_call (i := 1) (d := some 13) (f := 67) (args := #[.agg #[.slice o_x0 x0.length c_x0]]) hf5 (by kernel_rfl) (f67_ok fuel x0 r3 hd1 h _ _ hS3 o_x0 c_x0 hx_x0) ?_
 rintro v1 ww4 a6 ⟨z1, k2, rfl, hS4⟩ hf6
 refine ⟨fun _ => trivial, ?_⟩
 refine p_qt [] [(2, pB b1 0), (3, pB b2 0), (4, pB b3 0), (6, vI r3)] [] hf6 (by kernel_rfl) .nil fun a7 hf7 => ?_
 refine w_sq [] [(2, pB b1 0), (3, pB b2 0), (4, pB b3 0), (6, vI r3), (15, .bool (r3 != (0 : Int)))] [] hf7 (by kernel_rfl) .nil fun a8 hf8 => ?_
 refine w_if hf8 (b := (r3 != (0 : Int))) (by kernel_rfl) (fun hb1 => ?_) (fun hb1 => ?_)
 ·have hr2 := cond_t hb1 hr1
  refine w_sr (by kernel_rfl) ?_
  refine p_qn 2 [] [(4, pB b3 0), (16, .agg #[vI 0, vI 0]), (17, vI r3)] [] hf8 (by kernel_rfl) .nil fun a9 hf9 => ?_
  refine p_store_eq (i := 2) (j := 0) (b := b3) (off := 0) (vs := [vI 0, vI 0]) (cs' := [vI 0, vI 0]) hS4 hf9 rfl (by kernel_rfl) (by kernel_rfl) rfl fun ww5 a10 hS5 hf10 => ⟨fun _ => trivial, ?_⟩
  refine p_qt [] [(4, pB b3 0), (5, vI r3)] [] hf10 (by kernel_rfl) .nil fun a11 hf11 => ?_
  refine w_ret (by kernel_rfl) ?_
  refine r_then ?_
  refine p_ret (os := [vI 0, vI 0]) (v := .tuple #[.agg #[vI 0, vI 0], vI r3]) (obs := [.cell ⟨b3, 0, none⟩ (vI 0), .cell ⟨b3, 1, none⟩ (vI 0)]) hf11 (by kernel_rfl) (.cell (hS5.box (i := 0) rfl (j := 0) rfl) (.cell (hS5.box (i := 0) rfl (j := 1) rfl) .nil)) ?_
  obtain rfl := some_eq hr2
  exact ⟨_, rfl, z1, k2, rfl, (St.drop 3 hS5)⟩
 ·have hr3 := cond_f hb1 hr1
  refine w_skip (by kernel_rfl) ?_
  refine n_then ?_
  refine w_seq (by kernel_rfl) ?_
  refine w_sr (by kernel_rfl) ?_
  refine p_qn 1 [vI x1_lo, vI x1_hi] [(2, pB b1 0), (3, pB b2 0), (4, pB b3 0), (18, .agg #[vI x1_lo, vI x1_hi])] [.cell ⟨b2, 0, none⟩ (vI x1_lo), .cell ⟨b2, 1, none⟩ (vI x1_hi)] hf8 (by kernel_rfl) (.cell (hS4.box (i := 1) rfl (j := 0) rfl) (.cell (hS4.box (i := 1) rfl (j := 1) rfl) .nil)) fun a12 hf12 => ?_
  obtain ⟨r4, hd2, hr4⟩ := bind_some hr3
  refine p_call (i := 1) (d := some 19) (f := 52) (args := #[.agg #[vI x1_lo, vI x1_hi]]) hf12 (by kernel_rfl) (f52_ok fuel x1_lo x1_hi r4 hd2 z1 _ _ hS4 ) ?_
  rintro v2 ww6 a13 ⟨z2, k3, rfl, hS6⟩ hf13
  refine ⟨fun _ => trivial, ?_⟩
  refine p_qt [] [(2, pB b1 0), (3, pB b2 0), (4, pB b3 0), (7, vI r4)] [] hf13 (by kernel_rfl) .nil fun a14 hf14 => ?_
  refine w_sq [] [(2, pB b1 0), (3, pB b2 0), (4, pB b3 0), (7, vI r4), (21, .bool (r4 != (0 : Int)))] [] hf14 (by kernel_rfl) .nil fun a15 hf15 => ?_
  refine w_if hf15 (b := (r4 != (0 : Int))) (by kernel_rfl) (fun hb2 => ?_) (fun hb2 => ?_)
  ·have hr5 := cond_t hb2 hr4
   refine w_sr (by kernel_rfl) ?_
   refine p_qn 2 [] [(4, pB b3 0), (22, .agg #[vI 0, vI 0]), (23, vI r4)] [] hf15 (by kernel_rfl) .nil fun a16 hf16 => ?_
   refine p_store_eq (i := 2) (j := 0) (b := b3) (off := 0) (vs := [vI 0, vI 0]) (cs' := [vI 0, vI 0]) hS6 hf16 rfl (by kernel_rfl) (by kernel_rfl) rfl fun ww7 a17 hS7 hf17 => ⟨fun _ => trivial, ?_⟩
   refine p_qt [] [(4, pB b3 0), (5, vI r4)] [] hf17 (by kernel_rfl) .nil fun a18 hf18 => ?_
   refine w_ret (by kernel_rfl) ?_
   refine r_then ?_
   refine p_ret (os := [vI 0, vI 0]) (v := .tuple #[.agg #[vI 0, vI 0], vI r4]) (obs := [.cell ⟨b3, 0, none⟩ (vI 0), .cell ⟨b3, 1, none⟩ (vI 0)]) hf18 (by kernel_rfl) (.cell (hS7.box (i := 0) rfl (j := 0) rfl) (.cell (hS7.box (i := 0) rfl (j := 1) rfl) .nil)) ?_
   obtain rfl := some_eq hr5
   exact ⟨_, rfl, z2, (Zone.le_trans k2 k3), rfl, (St.drop 3 hS7)⟩
  ·have hr6 := cond_f hb2 hr4
   refine w_skip (by kernel_rfl) ?_
   refine n_then ?_
   refine w_seq (by kernel_rfl) ?_
   refine w_sr (by kernel_rfl) ?_
   refine p_qn 2 [.slice o_x0 x0.length c_x0, vI x1_lo, vI x1_hi] [(2, pB b1 0), (3, pB b2 0), (4, pB b3 0), (24, .agg #[.slice o_x0 x0.length c_x0]), (25, .agg #[vI x1_lo, vI x1_hi])] [.cell ⟨b1, 0, none⟩ (.slice o_x0 x0.length c_x0), .cell ⟨b2, 0, none⟩ (vI x1_lo), .cell ⟨b2, 1, none⟩ (vI x1_hi)] hf15 (by kernel_rfl) (.cell (hS6.box (i := 2) rfl (j := 0) rfl) (.cell (hS6.box (i := 1) rfl (j := 0) rfl) (.cell (hS6.box (i := 1) rfl (j := 1) rfl) .nil))) fun a19 hf19 => ?_
   obtain ⟨r5, hd3, hr7⟩ := bind_some hr6
   refine p_call (i := 2) (d := some 26) (f := 81) (args := #[.agg #[.slice o_x0 x0.length c_x0], .agg #[vI x1_lo, vI x1_hi]]) hf19 (by kernel_rfl) (f81_ok fuel x0 x1_lo x1_hi r5 hd3 z2 _ _ hS6 o_x0 c_x0 (SliceR.mono (Zone.le_trans k2 k3) hx_x0)) ?_
   rintro v3 ww8 a20 ⟨z3, k4, rfl, hS8⟩ hf20
   refine ⟨fun _ => trivial, ?_⟩
   refine p_qt [] [(2, pB b1 0), (3, pB b2 0), (4, pB b3 0), (27, .bool (!r5))] [] hf20 (by kernel_rfl) .nil fun a21 hf21 => ?_
   refine w_if hf21 (b := (!r5)) (by kernel_rfl) (fun hb3 => ?_) (fun hb3 => ?_)
   ·have hr8 := cond_t hb3 hr7
    refine w_sr (by kernel_rfl) ?_
    refine p_qn 1 [] [(4, pB b3 0), (28, .agg #[vI 0, vI 0])] [] hf21 (by kernel_rfl) .nil fun a22 hf22 => ?_
    refine p_store_eq (i := 1) (j := 0) (b := b3) (off := 0) (vs := [vI 0, vI 0]) (cs' := [vI 0, vI 0]) hS8 hf22 rfl (by kernel_rfl) (by kernel_rfl) rfl fun ww9 a23 hS9 hf23 => ⟨fun _ => trivial, ?_⟩
    refine p_qt [] [(4, pB b3 0), (5, vI 4)] [] hf23 (by kernel_rfl) .nil fun a24 hf24 => ?_
    refine w_ret (by kernel_rfl) ?_
    refine r_then ?_
    refine p_ret (os := [vI 0, vI 0]) (v := .tuple #[.agg #[vI 0, vI 0], vI 4]) (obs := [.cell ⟨b3, 0, none⟩ (vI 0), .cell ⟨b3, 1, none⟩ (vI 0)]) hf24 (by kernel_rfl) (.cell (hS9.box (i := 0) rfl (j := 0) rfl) (.cell (hS9.box (i := 0) rfl (j := 1) rfl) .nil)) ?_
    obtain rfl := some_eq hr8
    exact ⟨_, rfl, z3, (Zone.le_trans (Zone.le_trans k2 k3) k4), rfl, (St.drop 3 hS9)⟩
   ·have hr9 := cond_f hb3 hr7
    refine w_skip (by kernel_rfl) ?_
    refine n_then ?_
    refine w_sr (by kernel_rfl) ?_
    refine p_box (i := 0) (d := (some 8)) (cs := [vI 0, vI 0, .bool false, .bool false]) (T := 100) (v := fun b4 => pB b4 0) hS8 hf21 (fun b => by kernel_rfl) fun b4 ww10 a25 hS10 hf25 => ⟨fun _ => trivial, ?_⟩
    refine p_dt (by kernel_rfl) ?_
    refine w_sq [] [(2, pB b1 0), (3, pB b2 0), (4, pB b3 0), (8, pB b4 0), (9, .func (.func 87) #[] #[pB b1 0, pB b4 0])] [] hf25 (by kernel_rfl) .nil fun a26 hf26 => ?_
    refine w_sr (by kernel_rfl) ?_
    refine p_qn 3 [vI x1_lo] [(2, pB b1 0), (3, pB b2 0), (4, pB b3 0), (8, pB b4 0), (9, .func (.func 87) #[] #[pB b1 0, pB b4 0]), (30, .func (.func 87) #[] #[pB b1 0, pB b4 0]), (32, vI x1_lo)] [.cell ⟨b2, 0, none⟩ (vI x1_lo)] hf26 (by kernel_rfl) (.cell (hS10.box (i := 2) rfl (j := 0) rfl) .nil) fun a27 hf27 => ?_
    refine p_inl (i := 3) (d := some 33) (f := 87) (args := #[vI x1_lo, pB b1 0, pB b4 0]) (N' := 14) hf27 (by kernel_rfl) Try.func87 (by kernel_rfl) fun a28 hf28 => ?_
    refine w_sr (by kernel_rfl) ?_
    refine p_qn 2 [.slice o_x0 x0.length c_x0] [(2, pB b4 0), (5, .agg #[.slice o_x0 x0.length c_x0]), (6, vI x1_lo)] [.cell ⟨b1, 0, none⟩ (.slice o_x0 x0.length c_x0)] hf28 (by kernel_rfl) (.cell (hS10.box (i := 3) rfl (j := 0) rfl) .nil) fun a29 hf29 => ?_
    obtain ⟨r6, hd4, hr10⟩ := bind_some hr9
    refine p_call (i := 2) (d := some 7) (f := 88) (args := #[.agg #[.slice o_x0 x0.length c_x0], vI x1_lo]) hf29 (by kernel_rfl) (f88_ok fuel x0 x1_lo r6 hd4 z3 _ _ hS10 o_x0 c_x0 (SliceR.mono (Zone.le_trans (Zone.le_trans k2 k3) k4) hx_x0)) ?_
    rintro v4 ww11 a30 ⟨z4, k5, rfl, hS11⟩ hf30
    refine ⟨fun _ => trivial, ?_⟩
    refine p_box (i := 3) (d := (some 4)) (cs := [vI 0, vI 0]) (T := 41) (v := fun b5 => pB b5 0) hS11 hf30 (fun b => by kernel_rfl) fun b5 ww12 a31 hS12 hf31 => ⟨fun _ => trivial, ?_⟩
    refine p_store_eq (i := 4) (j := 0) (b := b5) (off := 0) (vs := [vI r6.1, vI r6.2]) (cs' := [vI r6.1, vI r6.2]) hS12 hf31 rfl (by kernel_rfl) (by kernel_rfl) rfl fun ww13 a32 hS13 hf32 => ⟨fun _ => trivial, ?_⟩
    refine p_dt (by kernel_rfl) ?_
    refine w_sr (by kernel_rfl) ?_
    refine p_qn 2 [vI r6.1] [(2, pB b4 0), (4, pB b5 0), (9, vI r6.1)] [.cell ⟨b5, 0, none⟩ (vI r6.1)] hf32 (by kernel_rfl) (.cell (hS13.box (i := 0) rfl (j := 0) rfl) .nil) fun a33 hf33 => ?_
    refine p_inl (i := 2) (d := some 10) (f := 89) (args := #[pB b4 0, vI r6.1]) (N' := 36) hf33 (by kernel_rfl) Try.func89 (by kernel_rfl) fun a34 hf34 => ?_
    refine w_seq (by kernel_rfl) ?_
    refine w_sq [.bool false] [(0, pB b4 0), (1, vI r6.1), (8, .bool true)] [.cell ⟨b4, 2, none⟩ (.bool false)] hf34 (by kernel_rfl) (.cell (hS13.box (i := 1) rfl (j := 2) rfl) .nil) fun a35 hf35 => ?_
    refine w_if_true hf35 (by kernel_rfl) ?_
    refine w_reg (by kernel_rfl) ?_
    refine p_qn 7 [] [(0, pB b4 0), (1, vI r6.1), (10, pB b4 0), (13, .agg #[vI r6.1, vI r6.1]), (15, pB b4 0)] [] hf35 (by kernel_rfl) .nil fun a36 hf36 => ?_
    refine p_store_eq (i := 7) (j := 1) (b := b4) (off := 0) (vs := [vI r6.1, vI r6.1]) (cs' := [vI r6.1, vI r6.1, .bool false, .bool false]) hS13 hf36 rfl (by kernel_rfl) (by kernel_rfl) rfl fun ww14 a37 hS14 hf37 => ⟨fun _ => trivial, ?_⟩
    refine p_qn 2 [] [(0, pB b4 0), (1, vI r6.1), (17, pB b4 2)] [] hf37 (by kernel_rfl) .nil fun a38 hf38 => ?_
    refine p_store_eq (i := 10) (j := 1) (b := b4) (off := 2) (vs := [.bool true]) (cs' := [vI r6.1, vI r6.1, .bool true, .bool false]) hS14 hf38 rfl (by kernel_rfl) (by kernel_rfl) rfl fun ww15 a39 hS15 hf39 => ⟨fun _ => trivial, ?_⟩
    refine p_dt (by kernel_rfl) ?_
    have hS16 := hS15.drew
    refine w_regD (by kernel_rfl) [(0, true), (1, true), (2, true), (3, true), (4, true), (5, true), (6, true), (7, true), (8, true), (9, true), (10, true), (11, true), (12, true), (13, true), (14, true), (15, true), (16, true), (17, true), (18, false)] [18] (fun x => x = ww15.drew) (by kernel_rfl) rfl ?_
    refine p_qE 18 [vI r6.1, vI r6.1] [(33, .agg #[vI (if r6.1 < r6.1 then r6.1 else r6.1), vI (if r6.1 > r6.1 then r6.1 else r6.1)]), (35, pB b4 0)] [.cell ⟨b4, 0, none⟩ (vI r6.1), .cell ⟨b4, 1, none⟩ (vI r6.1)] [] hf39 (by kernel_rfl) (.cell (hS16.box (i := 1) rfl (j := 0) rfl) (.cell (hS16.box (i := 1) rfl (j := 1) rfl) .nil)) .nil fun a40 hf40 => ?_
    refine p_store_eq (i := 18) (j := 1) (b := b4) (off := 0) (vs := [vI (if r6.1 < r6.1 then r6.1 else r6.1), vI (if r6.1 > r6.1 then r6.1 else r6.1)]) (cs' := [vI (if r6.1 < r6.1 then r6.1 else r6.1), vI (if r6.1 > r6.1 then r6.1 else r6.1), .bool true, .bool false]) hS16 hf40 rfl (by kernel_rfl) (by kernel_rfl) rfl fun ww16 a41 hS17 hf41 => ⟨fun e => absurd e (by decide), ?_⟩
    refine p_done (by kernel_rfl) ?_
    refine p_fall (os := []) (v := .tuple #[]) (obs := []) hf41 (by kernel_rfl) .nil ?_
    refine ⟨_, rfl, fun a42 hf42 => ?_⟩
    refine ⟨fun _ => trivial, ?_⟩
    refine p_dt (by kernel_rfl) ?_
    refine w_reg (by kernel_rfl) ?_
    refine p_qn 2 [vI r6.2] [(2, pB b4 0), (12, vI r6.2)] [.cell ⟨b5, 1, none⟩ (vI r6.2)] hf42 (by kernel_rfl) (.cell (hS17.box (i := 0) rfl (j := 1) rfl) .nil) fun a43 hf43 => ?_
    refine p_inl (i := 2) (d := some 13) (f := 89) (args := #[pB b4 0, vI r6.2]) (N' := 36) hf43 (by kernel_rfl) Try.func89 (by kernel_rfl) fun a44 hf44 => ?_
    refine w_seq (by kernel_rfl) ?_
    refine w_sq [.bool true] [(0, pB b4 0), (1, vI r6.2), (8, .bool false)] [.cell ⟨b4, 2, none⟩ (.bool true)] hf44 (by kernel_rfl) (.cell (hS17.box (i := 1) rfl (j := 2) rfl) .nil) fun a45 hf45 => ?_
    refine w_if_false hf45 (by kernel_rfl) ?_
    refine w_skip (by kernel_rfl) ?_
    refine n_then ?_
    have hS18 := hS17.drew
    refine w_regD (by kernel_rfl) [(0, true), (1, true), (2, true), (3, true), (4, true), (5, true), (6, true), (7, true), (8, true), (9, true), (10, true), (11, true), (12, true), (13, true), (14, true), (15, true), (16, true), (17, true), (18, false)] [18] (fun x => x = ww16.drew) (by kernel_rfl) rfl ?_
    refine p_qE 18 [vI (if r6.1 < r6.1 then r6.1 else r6.1), vI (if r6.1 > r6.1 then r6.1 else r6.1)] [(33, .agg #[vI (if r6.2 < (if r6.1 < r6.1 then r6.1 else r6.1) then r6.2 else (if r6.1 < r6.1 then r6.1 else r6.1)), vI (if r6.2 > (if r6.1 > r6.1 then r6.1 else r6.1) then r6.2 else (if r6.1 > r6.1 then r6.1 else r6.1))]), (35, pB b4 0)] [.cell ⟨b4, 0, none⟩ (vI (if r6.1 < r6.1 then r6.1 else r6.1)), .cell ⟨b4, 1, none⟩ (vI (if r6.1 > r6.1 then r6.1 else r6.1))] [] hf45 (by kernel_rfl) (.cell (hS18.box (i := 1) rfl (j := 0) rfl) (.cell (hS18.box (i := 1) rfl (j := 1) rfl) .nil)) .nil fun a46 hf46 => ?_
    refine p_store_eq (i := 18) (j := 1) (b := b4) (off := 0) (vs := [vI (if r6.2 < (if r6.1 < r6.1 then r6.1 else r6.1) then r6.2 else (if r6.1 < r6.1 then r6.1 else r6.1)), vI (if r6.2 > (if r6.1 > r6.1 then r6.1 else r6.1) then r6.2 else (if r6.1 > r6.1 then r6.1 else r6.1))]) (cs' := [vI (if r6.2 < (if r6.1 < r6.1 then r6.1 else r6.1) then r6.2 else (if r6.1 < r6.1 then r6.1 else r6.1)), vI (if r6.2 > (if r6.1 > r6.1 then r6.1 else r6.1) then r6.2 else (if r6.1 > r6.1 then r6.1 else r6.1)), .bool true, .bool false]) hS18 hf46 rfl (by kernel_rfl) (by kernel_rfl) rfl fun ww17 a47 hS19 hf47 => ⟨fun e => absurd e (by decide), ?_⟩
    refine p_done (by kernel_rfl) ?_
    refine p_fall (os := []) (v := .tuple #[]) (obs := []) hf47 (by kernel_rfl) .nil ?_
    refine ⟨_, rfl, fun a48 hf48 => ?_⟩
    refine ⟨fun _ => trivial, ?_⟩
    refine p_done (by kernel_rfl) ?_
    refine p_fall (os := []) (v := .tuple #[]) (obs := []) hf48 (by kernel_rfl) .nil ?_
    refine ⟨_, rfl, fun a49 hf49 => ?_⟩
    have hS20 := St.drop 1 hS19
    refine ⟨fun _ => trivial, ?_⟩
    refine p_dt (by kernel_rfl) ?_
    refine w_sr (by kernel_rfl) ?_
    refine p_qn 3 [vI x1_hi] [(2, pB b1 0), (3, pB b2 0), (4, pB b3 0), (8, pB b4 0), (9, .func (.func 87) #[] #[pB b1 0, pB b4 0]), (34, .func (.func 87) #[] #[pB b1 0, pB b4 0]), (36, vI x1_hi)] [.cell ⟨b2, 1, none⟩ (vI x1_hi)] hf49 (by kernel_rfl) (.cell (hS20.box (i := 2) rfl (j := 1) rfl) .nil) fun a50 hf50 => ?_
    refine p_inl (i := 3) (d := some 37) (f := 87) (args := #[vI x1_hi, pB b1 0, pB b4 0]) (N' := 14) hf50 (by kernel_rfl) Try.func87 (by kernel_rfl) fun a51 hf51 => ?_
    refine w_sr (by kernel_rfl) ?_
    refine p_qn 2 [.slice o_x0 x0.length c_x0] [(2, pB b4 0), (5, .agg #[.slice o_x0 x0.length c_x0]), (6, vI x1_hi)] [.cell ⟨b1, 0, none⟩ (.slice o_x0 x0.length c_x0)] hf51 (by kernel_rfl) (.cell (hS20.box (i := 3) rfl (j := 0) rfl) .nil) fun a52 hf52 => ?_
    obtain ⟨r7, hd5, hr11⟩ := bind_some hr10
    refine p_call (i := 2) (d := some 7) (f := 88) (args := #[.agg #[.slice o_x0 x0.length c_x0], vI x1_hi]) hf52 (by kernel_rfl) (f88_ok fuel x0 x1_hi r7 hd5 z4 _ _ hS20 o_x0 c_x0 (SliceR.mono (Zone.le_trans (Zone.le_trans (Zone.le_trans k2 k3) k4) k5) hx_x0)) ?_
    rintro v5 ww18 a53 ⟨z5, k6, rfl, hS21⟩ hf53
    refine ⟨fun _ => trivial, ?_⟩
    refine p_box (i := 3) (d := (some 4)) (cs := [vI 0, vI 0]) (T := 41) (v := fun b6 => pB b6 0) hS21 hf53 (fun b => by kernel_rfl) fun b6 ww19 a54 hS22 hf54 => ⟨fun _ => trivial, ?_⟩
    refine p_store_eq (i := 4) (j := 0) (b := b6) (off := 0) (vs := [vI r7.1, vI r7.2]) (cs' := [vI r7.1, vI r7.2]) hS22 hf54 rfl (by kernel_rfl) (by kernel_rfl) rfl fun ww20 a55 hS23 hf55 => ⟨fun _ => trivial, ?_⟩
    refine p_dt (by kernel_rfl) ?_
    refine w_sr (by kernel_rfl) ?_
    refine p_qn 2 [vI r7.1] [(2, pB b4 0), (4, pB b6 0), (9, vI r7.1)] [.cell ⟨b6, 0, none⟩ (vI r7.1)] hf55 (by kernel_rfl) (.cell (hS23.box (i := 0) rfl (j := 0) rfl) .nil) fun a56 hf56 => ?_
    refine p_inl (i := 2) (d := some 10) (f := 89) (args := #[pB b4 0, vI r7.1]) (N' := 36) hf56 (by kernel_rfl) Try.func89 (by kernel_rfl) fun a57 hf57 => ?_
    refine w_seq (by kernel_rfl) ?_
    refine w_sq [.bool true] [(0, pB b4 0), (1, vI r7.1), (8, .bool false)] [.cell ⟨b4, 2, none⟩ (.bool true)] hf57 (by kernel_rfl) (.cell (hS23.box (i := 1) rfl (j := 2) rfl) .nil) fun a58 hf58 => ?_
    refine w_if_false hf58 (by kernel_rfl) ?_
    refine w_skip (by kernel_rfl) ?_
    refine n_then ?_
    have hS24 := hS23.drew
    refine w_regD (by kernel_rfl) [(0, true), (1, true), (2, true), (3, true), (4, true), (5, true), (6, true), (7, true), (8, true), (9, true), (10, true), (11, true), (12, true), (13, true), (14, true), (15, true), (16, true), (17, true), (18, false)] [18] (fun x => x = ww20.drew) (by kernel_rfl) rfl ?_
    refine p_qE 18 [vI (if r6.2 < (if r6.1 < r6.1 then r6.1 else r6.1) then r6.2 else (if r6.1 < r6.1 then r6.1 else r6.1)), vI (if r6.2 > (if r6.1 > r6.1 then r6.1 else r6.1) then r6.2 else (if r6.1 > r6.1 then r6.1 else r6.1))] [(33, .agg #[vI (if r7.1 < (if r6.2 < (if r6.1 < r6.1 then r6.1 else r6.1) then r6.2 else (if r6.1 < r6.1 then r6.1 else r6.1)) then r7.1 else (if r6.2 < (if r6.1 < r6.1 then r6.1 else r6.1) then r6.2 else (if r6.1 < r6.1 then r6.1 else r6.1))), vI (if r7.1 > (if r6.2 > (if r6.1 > r6.1 then r6.1 else r6.1) then r6.2 else (if r6.1 > r6.1 then r6.1 else r6.1)) then r7.1 else (if r6.2 > (if r6.1 > r6.1 then r6.1 else r6.1) then r6.2 else (if r6.1 > r6.1 then r6.1 else r6.1)))]), (35, pB b4 0)] [.cell ⟨b4, 0, none⟩ (vI (if r6.2 < (if r6.1 < r6.1 then r6.1 else r6.1) then r6.2 else (if r6.1 < r6.1 then r6.1 else r6.1))), .cell ⟨b4, 1, none⟩ (vI (if r6.2 > (if r6.1 > r6.1 then r6.1 else r6.1) then r6.2 else (if r6.1 > r6.1 then r6.1 else r6.1)))] [] hf58 (by kernel_rfl) (.cell (hS24.box (i := 1) rfl (j := 0) rfl) (.cell (hS24.box (i := 1) rfl (j := 1) rfl) .nil)) .nil fun a59 hf59 => ?_
    refine p_store_eq (i := 18) (j := 1) (b := b4) (off := 0) (vs := [vI (if r7.1 < (if r6.2 < (if r6.1 < r6.1 then r6.1 else r6.1) then r6.2 else (if r6.1 < r6.1 then r6.1 else r6.1)) then r7.1 else (if r6.2 < (if r6.1 < r6.1 then r6.1 else r6.1) then r6.2 else (if r6.1 < r6.1 then r6.1 else r6.1))), vI (if r7.1 > (if r6.2 > (if r6.1 > r6.1 then r6.1 else r6.1) then r6.2 else (if r6.1 > r6.1 then r6.1 else r6.1)) then r7.1 else (if r6.2 > (if r6.1 > r6.1 then r6.1 else r6.1) then r6.2 else (if r6.1 > r6.1 then r6.1 else r6.1)))]) (cs' := [vI (if r7.1 < (if r6.2 < (if r6.1 < r6.1 then r6.1 else r6.1) then r6.2 else (if r6.1 < r6.1 then r6.1 else r6.1)) then r7.1 else (if r6.2 < (if r6.1 < r6.1 then r6.1 else r6.1) then r6.2 else (if r6.1 < r6.1 then r6.1 else r6.1))), vI (if r7.1 > (if r6.2 > (if r6.1 > r6.1 then r6.1 else r6.1) then r6.2 else (if r6.1 > r6.1 then r6.1 else r6.1)) then r7.1 else (if r6.2 > (if r6.1 > r6.1 then r6.1 else r6.1) then r6.2 else (if r6.1 > r6.1 then r6.1 else r6.1))), .bool true, .bool false]) hS24 hf59 rfl (by kernel_rfl) (by kernel_rfl) rfl fun ww21 a60 hS25 hf60 => ⟨fun e => absurd e (by decide), ?_⟩
    refine p_done (by kernel_rfl) ?_
    refine p_fall (os := []) (v := .tuple #[]) (obs := []) hf60 (by kernel_rfl) .nil ?_
    refine ⟨_, rfl, fun a61 hf61 => ?_⟩
    refine ⟨fun _ => trivial, ?_⟩
    refine p_dt (by kernel_rfl) ?_
    refine w_reg (by kernel_rfl) ?_
    refine p_qn 2 [vI r7.2] [(2, pB b4 0), (12, vI r7.2)] [.cell ⟨b6, 1, none⟩ (vI r7.2)] hf61 (by kernel_rfl) (.cell (hS25.box (i := 0) rfl (j := 1) rfl) .nil) fun a62 hf62 => ?_
    refine p_inl (i := 2) (d := some 13) (f := 89) (args := #[pB b4 0, vI r7.2]) (N' := 36) hf62 (by kernel_rfl) Try.func89 (by kernel_rfl) fun a63 hf63 => ?_
    refine w_seq (by kernel_rfl) ?_
    refine w_sq [.bool true] [(0, pB b4 0), (1, vI r7.2), (8, .bool false)] [.cell ⟨b4, 2, none⟩ (.bool true)] hf63 (by kernel_rfl) (.cell (hS25.box (i := 1) rfl (j := 2) rfl) .nil) fun a64 hf64 => ?_
    refine w_if_false hf64 (by kernel_rfl) ?_
    refine w_skip (by kernel_rfl) ?_
    refine n_then ?_
    have hS26 := hS25.drew
    refine w_regD (by kernel_rfl) [(0, true), (1, true), (2, true), (3, true), (4, true), (5, true), (6, true), (7, true), (8, true), (9, true), (10, true), (11, true), (12, true), (13, true), (14, true), (15, true), (16, true), (17, true), (18, false)] [18] (fun x => x = ww21.drew) (by kernel_rfl) rfl ?_
    refine p_qE 18 [vI (if r7.1 < (if r6.2 < (if r6.1 < r6.1 then r6.1 else r6.1) then r6.2 else (if r6.1 < r6.1 then r6.1 else r6.1)) then r7.1 else (if r6.2 < (if r6.1 < r6.1 then r6.1 else r6.1) then r6.2 else (if r6.1 < r6.1 then r6.1 else r6.1))), vI (if r7.1 > (if r6.2 > (if r6.1 > r6.1 then r6.1 else r6.1) then r6.2 else (if r6.1 > r6.1 then r6.1 else r6.1)) then r7.1 else (if r6.2 > (if r6.1 > r6.1 then r6.1 else r6.1) then r6.2 else (if r6.1 > r6.1 then r6.1 else r6.1)))] [(33, .agg #[vI (if r7.2 < (if r7.1 < (if r6.2 < (if r6.1 < r6.1 then r6.1 else r6.1) then r6.2 else (if r6.1 < r6.1 then r6.1 else r6.1)) then r7.1 else (if r6.2 < (if r6.1 < r6.1 then r6.1 else r6.1) then r6.2 else (if r6.1 < r6.1 then r6.1 else r6.1))) then r7.2 else (if r7.1 < (if r6.2 < (if r6.1 < r6.1 then r6.1 else r6.1) then r6.2 else (if r6.1 < r6.1 then r6.1 else r6.1)) then r7.1 else (if r6.2 < (if r6.1 < r6.1 then r6.1 else r6.1) then r6.2 else (if r6.1 < r6.1 then r6.1 else r6.1)))), vI (if r7.2 > (if r7.1 > (if r6.2 > (if r6.1 > r6.1 then r6.1 else r6.1) then r6.2 else (if r6.1 > r6.1 then r6.1 else r6.1)) then r7.1 else (if r6.2 > (if r6.1 > r6.1 then r6.1 else r6.1) then r6.2 else (if r6.1 > r6.1 then r6.1 else r6.1))) then r7.2 else (if r7.1 > (if r6.2 > (if r6.1 > r6.1 then r6.1 else r6.1) then r6.2 else (if r6.1 > r6.1 then r6.1 else r6.1)) then r7.1 else (if r6.2 > (if r6.1 > r6.1 then r6.1 else r6.1) then r6.2 else (if r6.1 > r6.1 then r6.1 else r6.1))))]), (35, pB b4 0)] [.cell ⟨b4, 0, none⟩ (vI (if r7.1 < (if r6.2 < (if r6.1 < r6.1 then r6.1 else r6.1) then r6.2 else (if r6.1 < r6.1 then r6.1 else r6.1)) then r7.1 else (if r6.2 < (if r6.1 < r6.1 then r6.1 else r6.1) then r6.2 else (if r6.1 < r6.1 then r6.1 else r6.1)))), .cell ⟨b4, 1, none⟩ (vI (if r7.1 > (if r6.2 > (if r6.1 > r6.1 then r6.1 else r6.1) then r6.2 else (if r6.1 > r6.1 then r6.1 else r6.1)) then r7.1 else (if r6.2 > (if r6.1 > r6.1 then r6.1 else r6.1) then r6.2 else (if r6.1 > r6.1 then r6.1 else r6.1))))] [] hf64 (by kernel_rfl) (.cell (hS26.box (i := 1) rfl (j := 0) rfl) (.cell (hS26.box (i := 1) rfl (j := 1) rfl) .nil)) .nil fun a65 hf65 => ?_
    refine p_store_eq (i := 18) (j := 1) (b := b4) (off := 0) (vs := [vI (if r7.2 < (if r7.1 < (if r6.2 < (if r6.1 < r6.1 then r6.1 else r6.1) then r6.2 else (if r6.1 < r6.1 then r6.1 else r6.1)) then r7.1 else (if r6.2 < (if r6.1 < r6.1 then r6.1 else r6.1) then r6.2 else (if r6.1 < r6.1 then r6.1 else r6.1))) then r7.2 else (if r7.1 < (if r6.2 < (if r6.1 < r6.1 then r6.1 else r6.1) then r6.2 else (if r6.1 < r6.1 then r6.1 else r6.1)) then r7.1 else (if r6.2 < (if r6.1 < r6.1 then r6.1 else r6.1) then r6.2 else (if r6.1 < r6.1 then r6.1 else r6.1)))), vI (if r7.2 > (if r7.1 > (if r6.2 > (if r6.1 > r6.1 then r6.1 else r6.1) then r6.2 else (if r6.1 > r6.1 then r6.1 else r6.1)) then r7.1 else (if r6.2 > (if r6.1 > r6.1 then r6.1 else r6.1) then r6.2 else (if r6.1 > r6.1 then r6.1 else r6.1))) then r7.2 else (if r7.1 > (if r6.2 > (if r6.1 > r6.1 then r6.1 else r6.1) then r6.2 else (if r6.1 > r6.1 then r6.1 else r6.1)) then r7.1 else (if r6.2 > (if r6.1 > r6.1 then r6.1 else r6.1) then r6.2 else (if r6.1 > r6.1 then r6.1 else r6.1))))]) (cs' := [vI (if r7.2 < (if r7.1 < (if r6.2 < (if r6.1 < r6.1 then r6.1 else r6.1) then r6.2 else (if r6.1 < r6.1 then r6.1 else r6.1)) then r7.1 else (if r6.2 < (if r6.1 < r6.1 then r6.1 else r6.1) then r6.2 else (if r6.1 < r6.1 then r6.1 else r6.1))) then r7.2 else (if r7.1 < (if r6.2 < (if r6.1 < r6.1 then r6.1 else r6.1) then r6.2 else (if r6.1 < r6.1 then r6.1 else r6.1)) then r7.1 else (if r6.2 < (if r6.1 < r6.1 then r6.1 else r6.1) then r6.2 else (if r6.1 < r6.1 then r6.1 else r6.1)))), vI (if r7.2 > (if r7.1 > (if r6.2 > (if r6.1 > r6.1 then r6.1 else r6.1) then r6.2 else (if r6.1 > r6.1 then r6.1 else r6.1)) then r7.1 else (if r6.2 > (if r6.1 > r6.1 then r6.1 else r6.1) then r6.2 else (if r6.1 > r6.1 then r6.1 else r6.1))) then r7.2 else (if r7.1 > (if r6.2 > (if r6.1 > r6.1 then r6.1 else r6.1) then r6.2 else (if r6.1 > r6.1 then r6.1 else r6.1)) then r7.1 else (if r6.2 > (if r6.1 > r6.1 then r6.1 else r6.1) then r6.2 else (if r6.1 > r6.1 then r6.1 else r6.1)))), .bool true, .bool false]) hS26 hf65 rfl (by kernel_rfl) (by kernel_rfl) rfl fun ww22 a66 hS27 hf66 => ⟨fun e => absurd e (by decide), ?_⟩
    refine p_done (by kernel_rfl) ?_
    refine p_fall (os := []) (v := .tuple #[]) (obs := []) hf66 (by kernel_rfl) .nil ?_
    refine ⟨_, rfl, fun a67 hf67 => ?_⟩
    refine ⟨fun _ => trivial, ?_⟩
    refine p_done (by kernel_rfl) ?_
    refine p_fall (os := []) (v := .tuple #[]) (obs := []) hf67 (by kernel_rfl) .nil ?_
    refine ⟨_, rfl, fun a68 hf68 => ?_⟩
    have hS28 := St.drop 1 hS27
    refine ⟨fun _ => trivial, ?_⟩
    refine p_dt (by kernel_rfl) ?_
    refine w_seq (by kernel_rfl) ?_
    refine w_sq [.slice o_x0 x0.length c_x0] [(3, pB b2 0), (4, pB b3 0), (8, pB b4 0), (9, .func (.func 87) #[] #[pB b1 0, pB b4 0]), (39, .slice o_x0 x0.length c_x0), (40, vI (x0.length : Int)), (41, vI 0)] [.cell ⟨b1, 0, none⟩ (.slice o_x0 x0.length c_x0)] hf68 (by kernel_rfl) (.cell (hS28.box (i := 3) rfl (j := 0) rfl) .nil) fun a69 hf69 => ?_
    refine w_block (id := 0) (by kernel_rfl) ?_
    have hf70 := Fr.keep (ks := [3, 4, 8, 9, 39, 40, 41]) (r := [(3, pB b2 0), (4, pB b3 0), (8, pB b4 0), (9, .func (.func 87) #[] #[pB b1 0, pB b4 0]), (39, .slice o_x0 x0.length c_x0), (40, vI (x0.length : Int)), (41, vI 0)]) hf69 (by kernel_rfl)
    refine w_loop (by kernel_rfl) (fun n a w => ∃ z6 : Zone, ∃ y4 : Int, ∃ y5 : Int, ∃ y1 : Int, Zone.le z5 z6 ∧ Fr a 59 [(3, pB b2 0), (4, pB b3 0), (8, pB b4 0), (9, .func (.func 87) #[] #[pB b1 0, pB b4 0]), (39, .slice o_x0 x0.length c_x0), (40, vI (x0.length : Int)), (41, vI y1)] ∧ St z6 (box b4 [vI y4, vI y5, .bool true, .bool false] 100 :: box b3 [vI 0, vI 0] 41 :: box b2 [vI x1_lo, vI x1_hi] 41 :: box b1 [.slice o_x0 x0.length c_x0] 24 :: L) w ∧ (F19_l1 fuel x0 x1_lo x1_hi n y4 y5 y1) = some r) fuel ⟨z5, (if r7.2 < (if r7.1 < (if r6.2 < (if r6.1 < r6.1 then r6.1 else r6.1) then r6.2 else (if r6.1 < r6.1 then r6.1 else r6.1)) then r7.1 else (if r6.2 < (if r6.1 < r6.1 then r6.1 else r6.1) then r6.2 else (if r6.1 < r6.1 then r6.1 else r6.1))) then r7.2 else (if r7.1 < (if r6.2 < (if r6.1 < r6.1 then r6.1 else r6.1) then r6.2 else (if r6.1 < r6.1 then r6.1 else r6.1)) then r7.1 else (if r6.2 < (if r6.1 < r6.1 then r6.1 else r6.1) then r6.2 else (if r6.1 < r6.1 then r6.1 else r6.1)))), (if r7.2 > (if r7.1 > (if r6.2 > (if r6.1 > r6.1 then r6.1 else r6.1) then r6.2 else (if r6.1 > r6.1 then r6.1 else r6.1)) then r7.1 else (if r6.2 > (if r6.1 > r6.1 then r6.1 else r6.1) then r6.2 else (if r6.1 > r6.1 then r6.1 else r6.1))) then r7.2 else (if r7.1 > (if r6.2 > (if r6.1 > r6.1 then r6.1 else r6.1) then r6.2 else (if r6.1 > r6.1 then r6.1 else r6.1)) then r7.1 else (if r6.2 > (if r6.1 > r6.1 then r6.1 else r6.1) then r6.2 else (if r6.1 > r6.1 then r6.1 else r6.1)))), 0, (Zone.le_refl _), hf70, hS28, hr11⟩ ?_
    rintro n2 a70 ww23 ⟨z6, y4, y5, y1, k7, hf71, hS29, hr12⟩
    cases n2 with
    | zero => cases hr12
    | succ n1 =>
    refine w_sq [] [(3, pB b2 0), (4, pB b3 0), (8, pB b4 0), (9, .func (.func 87) #[] #[pB b1 0, pB b4 0]), (39, .slice o_x0 x0.length c_x0), (40, vI (x0.length : Int)), (41, vI y1), (42, .bool (decide (y1 < (x0.length : Int))))] [] hf71 (by kernel_rfl) .nil fun a71 hf72 => ?_
    refine w_seq (by kernel_rfl) ?_
    refine w_if hf72 (b := (decide (y1 < (x0.length : Int)))) (by kernel_rfl) (fun hb4 => ?_) (fun hb4 => ?_)
    ·have hr13 := cond_t hb4 hr12
     refine w_skip (by kernel_rfl) ?_
     refine n_then ?_
     refine w_mid (by kernel_rfl) (fun a w => ∃ z7 : Zone, ∃ y2 : Int, ∃ y3 : Int, Zone.le z6 z7 ∧ Fr a 59 [(3, pB b2 0), (4, pB b3 0), (8, pB b4 0), (9, .func (.func 87) #[] #[pB b1 0, pB b4 0]), (39, .slice o_x0 x0.length c_x0), (40, vI (x0.length : Int)), (41, vI y1)] ∧ St z7 (box b4 [vI y2, vI y3, .bool true, .bool false] 100 :: box b3 [vI 0, vI 0] 41 :: box b2 [vI x1_lo, vI x1_hi] 41 :: box b1 [.slice o_x0 x0.length c_x0] 24 :: L) w ∧ (F19_j1 (F19_l1 fuel x0 x1_lo x1_hi n1) y1 y2 y3) = some r) ?_ ?_
     ·skip
      refine w_block (id := 1) (by kernel_rfl) ?_
      refine w_sr (by kernel_rfl) ?_
      obtain ⟨p1, hp4548, hr14⟩ := bind_some hr13
      obtain ⟨ad1, ho1, hb5, cc1, hc1, hk1⟩ := SliceR.getI (SliceR.mono (Zone.le_trans (Zone.le_trans (Zone.le_trans (Zone.le_trans (Zone.le_trans k2 k3) k4) k5) k6) k7) hx_x0) hp4548
      subst hc1
      refine p_qn 2 [.pointer (some ad1), vI p1.x, vI p1.lo, vI p1.hi] [(3, pB b2 0), (4, pB b3 0), (8, pB b4 0), (9, .func (.func 87) #[] #[pB b1 0, pB b4 0]), (39, .slice o_x0 x0.length c_x0), (40, vI (x0.length : Int)), (41, vI y1), (44, .agg #[vI p1.x, vI p1.lo, vI p1.hi])] [.prop (o_x0 = some ad1), .prop (0 ≤ y1 ∧ y1 < (x0.length : Nat)), .cell ((ad1.add (Int.toNat y1 * 3)).add 0) (vI p1.x), .cell ((ad1.add (Int.toNat y1 * 3)).add 1) (vI p1.lo), .cell ((ad1.add (Int.toNat y1 * 3)).add 2) (vI p1.hi)] hf72 (by kernel_rfl) (.prop ho1 (.prop hb5 (.cell (hS29.cell (hk1 0 _ rfl)) (.cell (hS29.cell (hk1 1 _ rfl)) (.cell (hS29.cell (hk1 2 _ rfl)) .nil))))) fun a72 hf73 => ?_
      refine p_box (i := 2) (d := (some 11)) (cs := [vI 0, vI 0, vI 0]) (T := 52) (v := fun b7 => pB b7 0) hS29 hf73 (fun b => by kernel_rfl) fun b7 ww24 a73 hS30 hf74 => ⟨fun _ => trivial, ?_⟩
      refine p_store_eq (i := 3) (j := 0) (b := b7) (off := 0) (vs := [vI p1.x, vI p1.lo, vI p1.hi]) (cs' := [vI p1.x, vI p1.lo, vI p1.hi]) hS30 hf74 rfl (by kernel_rfl) (by kernel_rfl) rfl fun ww25 a74 hS31 hf75 => ⟨fun _ => trivial, ?_⟩
      refine p_dt (by kernel_rfl) ?_
      refine w_sr (by kernel_rfl) ?_
      refine p_qn 6 [vI p1.x, vI x1_lo, vI x1_hi] [(3, pB b2 0), (4, pB b3 0), (8, pB b4 0), (9, .func (.func 87) #[] #[pB b1 0, pB b4 0]), (11, pB b7 0), (39, .slice o_x0 x0.length c_x0), (40, vI (x0.length : Int)), (41, vI y1), (46, vI p1.x), (48, vI x1_lo), (50, vI x1_hi)] [.cell ⟨b7, 0, none⟩ (vI p1.x), .cell ⟨b2, 0, none⟩ (vI x1_lo), .cell ⟨b2, 1, none⟩ (vI x1_hi)] hf75 (by kernel_rfl) (.cell (hS31.box (i := 0) rfl (j := 0) rfl) (.cell (hS31.box (i := 3) rfl (j := 0) rfl) (.cell (hS31.box (i := 3) rfl (j := 1) rfl) .nil))) fun a75 hf76 => ?_
      obtain ⟨r1, hd6, hr15⟩ := bind_some hr14
      refine p_call (i := 6) (d := some 51) (f := 90) (args := #[vI p1.x, vI x1_lo, vI x1_hi]) hf76 (by kernel_rfl) (f90_ok fuel p1.x x1_lo x1_hi r1 hd6 z6 _ _ hS31 ) ?_
      rintro v6 ww26 a76 ⟨z8, k8, rfl, hS32⟩ hf77
      refine ⟨fun _ => trivial, ?_⟩
      refine p_dt (by kernel_rfl) ?_
      refine w_if hf77 (b := r1) (by kernel_rfl) (fun hb6 => ?_) (fun hb6 => ?_)
      ·have hr16 := cond_t hb6 hr15
       refine w_reg (by kernel_rfl) ?_
       refine p_qn 3 [vI p1.x] [(3, pB b2 0), (4, pB b3 0), (8, pB b4 0), (9, .func (.func 87) #[] #[pB b1 0, pB b4 0]), (39, .slice o_x0 x0.length c_x0), (40, vI (x0.length : Int)), (41, vI y1), (52, .func (.func 87) #[] #[pB b1 0, pB b4 0]), (54, vI p1.x)] [.cell ⟨b7, 0, none⟩ (vI p1.x)] hf77 (by kernel_rfl) (.cell (hS32.box (i := 0) rfl (j := 0) rfl) .nil) fun a77 hf78 => ?_
       refine p_inl (i := 3) (d := some 55) (f := 87) (args := #[vI p1.x, pB b1 0, pB b4 0]) (N' := 14) hf78 (by kernel_rfl) Try.func87 (by kernel_rfl) fun a78 hf79 => ?_
       refine w_sr (by kernel_rfl) ?_
       refine p_qn 2 [.slice o_x0 x0.length c_x0] [(2, pB b4 0), (5, .agg #[.slice o_x0 x0.length c_x0]), (6, vI p1.x)] [.cell ⟨b1, 0, none⟩ (.slice o_x0 x0.length c_x0)] hf79 (by kernel_rfl) (.cell (hS32.box (i := 4) rfl (j := 0) rfl) .nil) fun a79 hf80 => ?_
       obtain ⟨r2, hd7, hr17⟩ := bind_some hr16
       refine p_call (i := 2) (d := some 7) (f := 88) (args := #[.agg #[.slice o_x0 x0.length c_x0], vI p1.x]) hf80 (by kernel_rfl) (f88_ok fuel x0 p1.x r2 hd7 z8 _ _ hS32 o_x0 c_x0 (SliceR.mono (Zone.le_trans (Zone.le_trans (Zone.le_trans (Zone.le_trans (Zone.le_trans (Zone.le_trans k2 k3) k4) k5) k6) k7) k8) hx_x0)) ?_
       rintro v7 ww27 a80 ⟨z9, k9, rfl, hS33⟩ hf81
       refine ⟨fun _ => trivial, ?_⟩
       refine p_box (i := 3) (d := (some 4)) (cs := [vI 0, vI 0]) (T := 41) (v := fun b8 => pB b8 0) hS33 hf81 (fun b => by kernel_rfl) fun b8 ww28 a81 hS34 hf82 => ⟨fun _ => trivial, ?_⟩
       refine p_store_eq (i := 4) (j := 0) (b := b8) (off := 0) (vs := [vI r2.1, vI r2.2]) (cs' := [vI r2.1, vI r2.2]) hS34 hf82 rfl (by kernel_rfl) (by kernel_rfl) rfl fun ww29 a82 hS35 hf83 => ⟨fun _ => trivial, ?_⟩
       refine p_dt (by kernel_rfl) ?_
       refine w_sr (by kernel_rfl) ?_
       refine p_qn 2 [vI r2.1] [(2, pB b4 0), (4, pB b8 0), (9, vI r2.1)] [.cell ⟨b8, 0, none⟩ (vI r2.1)] hf83 (by kernel_rfl) (.cell (hS35.box (i := 0) rfl (j := 0) rfl) .nil) fun a83 hf84 => ?_
       refine p_inl (i := 2) (d := some 10) (f := 89) (args := #[pB b4 0, vI r2.1]) (N' := 36) hf84 (by kernel_rfl) Try.func89 (by kernel_rfl) fun a84 hf85 => ?_
       refine w_seq (by kernel_rfl) ?_
       refine w_sq [.bool true] [(0, pB b4 0), (1, vI r2.1), (8, .bool false)] [.cell ⟨b4, 2, none⟩ (.bool true)] hf85 (by kernel_rfl) (.cell (hS35.box (i := 2) rfl (j := 2) rfl) .nil) fun a85 hf86 => ?_
       refine w_if_false hf86 (by kernel_rfl) ?_
       refine w_skip (by kernel_rfl) ?_
       refine n_then ?_
       have hS36 := hS35.drew
       refine w_regD (by kernel_rfl) [(0, true), (1, true), (2, true), (3, true), (4, true), (5, true), (6, true), (7, true), (8, true), (9, true), (10, true), (11, true), (12, true), (13, true), (14, true), (15, true), (16, true), (17, true), (18, false)] [18] (fun x => x = ww29.drew) (by kernel_rfl) rfl ?_
       refine p_qE 18 [vI y4, vI y5] [(33, .agg #[vI (if r2.1 < y4 then r2.1 else y4), vI (if r2.1 > y5 then r2.1 else y5)]), (35, pB b4 0)] [.cell ⟨b4, 0, none⟩ (vI y4), .cell ⟨b4, 1, none⟩ (vI y5)] [] hf86 (by kernel_rfl) (.cell (hS36.box (i := 2) rfl (j := 0) rfl) (.cell (hS36.box (i := 2) rfl (j := 1) rfl) .nil)) .nil fun a86 hf87 => ?_
       refine p_store_eq (i := 18) (j := 2) (b := b4) (off := 0) (vs := [vI (if r2.1 < y4 then r2.1 else y4), vI (if r2.1 > y5 then r2.1 else y5)]) (cs' := [vI (if r2.1 < y4 then r2.1 else y4), vI (if r2.1 > y5 then r2.1 else y5), .bool true, .bool false]) hS36 hf87 rfl (by kernel_rfl) (by kernel_rfl) rfl fun ww30 a87 hS37 hf88 => ⟨fun e => absurd e (by decide), ?_⟩
       refine p_done (by kernel_rfl) ?_
       refine p_fall (os := []) (v := .tuple #[]) (obs := []) hf88 (by kernel_rfl) .nil ?_
       refine ⟨_, rfl, fun a88 hf89 => ?_⟩
       refine ⟨fun _ => trivial, ?_⟩
       refine p_dt (by kernel_rfl) ?_
       refine w_reg (by kernel_rfl) ?_
       refine p_qn 2 [vI r2.2] [(2, pB b4 0), (12, vI r2.2)] [.cell ⟨b8, 1, none⟩ (vI r2.2)] hf89 (by kernel_rfl) (.cell (hS37.box (i := 0) rfl (j := 1) rfl) .nil) fun a89 hf90 => ?_
       refine p_inl (i := 2) (d := some 13) (f := 89) (args := #[pB b4 0, vI r2.2]) (N' := 36) hf90 (by kernel_rfl) Try.func89 (by kernel_rfl) fun a90 hf91 => ?_
       refine w_seq (by kernel_rfl) ?_
       refine w_sq [.bool true] [(0, pB b4 0), (1, vI r2.2), (8, .bool false)] [.cell ⟨b4, 2, none⟩ (.bool true)] hf91 (by kernel_rfl) (.cell (hS37.box (i := 2) rfl (j := 2) rfl) .nil) fun a91 hf92 => ?_
       refine w_if_false hf92 (by kernel_rfl) ?_
       refine w_skip (by kernel_rfl) ?_
       refine n_then ?_
       have hS38 := hS37.drew
       refine w_regD (by kernel_rfl) [(0, true), (1, true), (2, true), (3, true), (4, true), (5, true), (6, true), (7, true), (8, true), (9, true), (10, true), (11, true), (12, true), (13, true), (14, true), (15, true), (16, true), (17, true), (18, false)] [18] (fun x => x = ww30.drew) (by kernel_rfl) rfl ?_
       refine p_qE 18 [vI (if r2.1 < y4 then r2.1 else y4), vI (if r2.1 > y5 then r2.1 else y5)] [(33, .agg #[vI (if r2.2 < (if r2.1 < y4 then r2.1 else y4) then r2.2 else (if r2.1 < y4 then r2.1 else y4)), vI (if r2.2 > (if r2.1 > y5 then r2.1 else y5) then r2.2 else (if r2.1 > y5 then r2.1 else y5))]), (35, pB b4 0)] [.cell ⟨b4, 0, none⟩ (vI (if r2.1 < y4 then r2.1 else y4)), .cell ⟨b4, 1, none⟩ (vI (if r2.1 > y5 then r2.1 else y5))] [] hf92 (by kernel_rfl) (.cell (hS38.box (i := 2) rfl (j := 0) rfl) (.cell (hS38.box (i := 2) rfl (j := 1) rfl) .nil)) .nil fun a92 hf93 => ?_
       refine p_store_eq (i := 18) (j := 2) (b := b4) (off := 0) (vs := [vI (if r2.2 < (if r2.1 < y4 then r2.1 else y4) then r2.2 else (if r2.1 < y4 then r2.1 else y4)), vI (if r2.2 > (if r2.1 > y5 then r2.1 else y5) then r2.2 else (if r2.1 > y5 then r2.1 else y5))]) (cs' := [vI (if r2.2 < (if r2.1 < y4 then r2.1 else y4) then r2.2 else (if r2.1 < y4 then r2.1 else y4)), vI (if r2.2 > (if r2.1 > y5 then r2.1 else y5) then r2.2 else (if r2.1 > y5 then r2.1 else y5)), .bool true, .bool false]) hS38 hf93 rfl (by kernel_rfl) (by kernel_rfl) rfl fun ww31 a93 hS39 hf94 => ⟨fun e => absurd e (by decide), ?_⟩
       refine p_done (by kernel_rfl) ?_
       refine p_fall (os := []) (v := .tuple #[]) (obs := []) hf94 (by kernel_rfl) .nil ?_
       refine ⟨_, rfl, fun a94 hf95 => ?_⟩
       refine ⟨fun _ => trivial, ?_⟩
       refine p_done (by kernel_rfl) ?_
       refine p_fall (os := []) (v := .tuple #[]) (obs := []) hf95 (by kernel_rfl) .nil ?_
       refine ⟨_, rfl, fun a95 hf96 => ?_⟩
       have hS40 := St.drop 1 hS39
       refine ⟨fun _ => trivial, ?_⟩
       refine p_done (by kernel_rfl) ?_
       refine n_block ?_
       refine n_then ?_
       have hf97 := Fr.keep (ks := [3, 4, 8, 9, 39, 40, 41]) (r := [(3, pB b2 0), (4, pB b3 0), (8, pB b4 0), (9, .func (.func 87) #[] #[pB b1 0, pB b4 0]), (39, .slice o_x0 x0.length c_x0), (40, vI (x0.length : Int)), (41, vI y1)]) hf96 (by kernel_rfl)
       exact ⟨z9, (if r2.2 < (if r2.1 < y4 then r2.1 else y4) then r2.2 else (if r2.1 < y4 then r2.1 else y4)), (if r2.2 > (if r2.1 > y5 then r2.1 else y5) then r2.2 else (if r2.1 > y5 then r2.1 else y5)), (Zone.le_trans k8 k9), hf97, (St.drop 1 hS40), hr17⟩
      ·have hr18 := cond_f hb6 hr15
       refine w_skip (by kernel_rfl) ?_
       refine n_block ?_
       refine n_then ?_
       have hf98 := Fr.keep (ks := [3, 4, 8, 9, 39, 40, 41]) (r := [(3, pB b2 0), (4, pB b3 0), (8, pB b4 0), (9, .func (.func 87) #[] #[pB b1 0, pB b4 0]), (39, .slice o_x0 x0.length c_x0), (40, vI (x0.length : Int)), (41, vI y1)]) hf77 (by kernel_rfl)
       exact ⟨z8, y4, y5, k8, hf98, (St.drop 1 hS32), hr18⟩
     ·rintro a96 ww32 ⟨z7, y2, y3, k10, hf99, hS41, hr19⟩
      refine w_q [] [(3, pB b2 0), (4, pB b3 0), (8, pB b4 0), (9, .func (.func 87) #[] #[pB b1 0, pB b4 0]), (39, .slice o_x0 x0.length c_x0), (40, vI (x0.length : Int)), (41, vI (w64 (y1 + (1 : Int))))] [] hf99 (by kernel_rfl) .nil fun a97 hf100 => ?_
      refine n_then ?_
      have hf101 := Fr.keep (ks := [3, 4, 8, 9, 39, 40, 41]) (r := [(3, pB b2 0), (4, pB b3 0), (8, pB b4 0), (9, .func (.func 87) #[] #[pB b1 0, pB b4 0]), (39, .slice o_x0 x0.length c_x0), (40, vI (x0.length : Int)), (41, vI (w64 (y1 + (1 : Int))))]) hf100 (by kernel_rfl)
      exact ⟨n1, Nat.lt_succ_self n1, z7, y2, y3, (w64 (y1 + (1 : Int))), (Zone.le_trans k7 k10), hf101, hS41, hr19⟩
    ·have hr20 := cond_f hb4 hr12
     refine w_exit (id := 0) (by kernel_rfl) ?_
     refine x_then ?_
     refine x_then ?_
     refine x_block ?_
     refine n_then ?_
     refine w_sr (by kernel_rfl) ?_
     refine p_qn 2 [vI y4, vI y5] [(4, pB b3 0), (58, .agg #[vI y4, vI y5])] [.cell ⟨b4, 0, none⟩ (vI y4), .cell ⟨b4, 1, none⟩ (vI y5)] hf72 (by kernel_rfl) (.cell (hS29.box (i := 0) rfl (j := 0) rfl) (.cell (hS29.box (i := 0) rfl (j := 1) rfl) .nil)) fun a98 hf102 => ?_
     refine p_store_eq (i := 2) (j := 1) (b := b3) (off := 0) (vs := [vI y4, vI y5]) (cs' := [vI y4, vI y5]) hS29 hf102 rfl (by kernel_rfl) (by kernel_rfl) rfl fun ww33 a99 hS42 hf103 => ⟨fun _ => trivial, ?_⟩
     refine p_qt [] [(4, pB b3 0), (5, vI 0)] [] hf103 (by kernel_rfl) .nil fun a100 hf104 => ?_
     refine w_ret (by kernel_rfl) ?_
     refine p_ret (os := [vI y4, vI y5]) (v := .tuple #[.agg #[vI y4, vI y5], vI 0]) (obs := [.cell ⟨b3, 0, none⟩ (vI y4), .cell ⟨b3, 1, none⟩ (vI y5)]) hf104 (by kernel_rfl) (.cell (hS42.box (i := 1) rfl (j := 0) rfl) (.cell (hS42.box (i := 1) rfl (j := 1) rfl) .nil)) ?_
     obtain rfl := some_eq hr20
     exact ⟨_, rfl, z6, (Zone.le_trans (Zone.le_trans (Zone.le_trans (Zone.le_trans (Zone.le_trans k2 k3) k4) k5) k6) k7), rfl, (St.drop 4 hS42)⟩
def F21_j1 (y1 : List Rng) : Option (List Rng × Int) :=
  (some (y1, 0))
def F21_j2 (k1 : (List Rng) → Int → Int → Option (List Rng × Int)) (y2 : Int) (y3 : List Rng) : Option (List Rng × Int) :=
  (k1 y3 y2 (w64 (y2 + (1 : Int))))
def F21_j4 (k1 : (List Rng) → Int → Int → Option (List Rng × Int)) (y4 : List Rng) (y2 : Int) (y5 : Bool) : Option (List Rng × Int) :=
  (cond y5 ((getI y4 (w64 ((y4.length : Int) - (1 : Int)))).bind fun p1 => ((setI y4 (w64 ((y4.length : Int) - (1 : Int))) ({ p1 with hi := y2 })).bind fun d1 => (F21_j2 k1 y2 d1))) ((appC y4 ([⟨y2, y2⟩])).bind fun d2 => (F21_j2 k1 y2 d2)))
def F21_j3 (k1 : (List Rng) → Int → Int → Option (List Rng × Int)) (y4 : List Rng) (y2 : Int) (y6 : Bool) : Option (List Rng × Int) :=
  (cond (!y6) (F21_j2 k1 y2 y4) (cond (decide ((w64 ((y4.length : Int) - (1 : Int))) ≥ (0 : Int))) ((getI y4 (w64 ((y4.length : Int) - (1 : Int)))).bind fun p2 => (F21_j4 k1 y4 y2 (p2.hi == (w64 (y2 - (1 : Int)))))) (F21_j4 k1 y4 y2 false)))
def F21_l1 (fuel : Nat) (x1_lo : Int) (x1_hi : Int) (p3 : Pt) (p4 : Pt) : Nat → (List Rng) → Int → Int → Option (List Rng × Int)
  | 0, _, _, _ => none
  | n1 + 1, y4, y7, y2 =>
    let k1 : (List Rng) → Int → Int → Option (List Rng × Int) := F21_l1 fuel x1_lo x1_hi p3 p4 n1
    (cond (decide (y2 ≤ p4.x)) ((F121 fuel p3.x p3.lo p3.hi p4.x p4.lo p4.hi y2).bind fun r1 => (cond (decide (r1.1 ≤ x1_hi)) (F21_j3 k1 y4 y2 (decide (x1_lo ≤ r1.2))) (F21_j3 k1 y4 y2 false))) (F21_j1 y4))
def F21_j5 (k2 : (List Rng) → Int → Int → Option (List Rng × Int)) (y8 : Int) (y9 : List Rng) : Option (List Rng × Int) :=
  (k2 y9 y8 (w64 (y8 + (1 : Int))))
def F21_j7 (k2 : (List Rng) → Int → Int → Option (List Rng × Int)) (y10 : List Rng) (y8 : Int) (y11 : Bool) : Option (List Rng × Int) :=
  (cond y11 ((getI y10 (w64 ((y10.length : Int) - (1 : Int)))).bind fun p5 => ((setI y10 (w64 ((y10.length : Int) - (1 : Int))) ({ p5 with hi := y8 })).bind fun d3 => (F21_j5 k2 y8 d3))) ((appC y10 ([⟨y8, y8⟩])).bind fun d4 => (F21_j5 k2 y8 d4)))
def F21_j6 (k2 : (List Rng) → Int → Int → Option (List Rng × Int)) (y10 : List Rng) (y8 : Int) (y12 : Bool) : Option (List Rng × Int) :=
  (cond (!y12) (F21_j5 k2 y8 y10) (cond (decide ((w64 ((y10.length : Int) - (1 : Int))) ≥ (0 : Int))) ((getI y10 (w64 ((y10.length : Int) - (1 : Int)))).bind fun p6 => (F21_j7 k2 y10 y8 (p6.hi == (w64 (y8 - (1 : Int)))))) (F21_j7 k2 y10 y8 false)))
def F21_l3 (fuel : Nat) (k3 : (List Rng) → Int → Int → Option (List Rng × Int)) (x1_lo : Int) (x1_hi : Int) (y13 : Int) (p7 : Pt) (p8 : Pt) : Nat → (List Rng) → Int → Int → Option (List Rng × Int)
  | 0, _, _, _ => none
  | n2 + 1, y10, y14, y8 =>
    let k2 : (List Rng) → Int → Int → Option (List Rng × Int) := F21_l3 fuel k3 x1_lo x1_hi y13 p7 p8 n2
    (cond (decide (y8 ≤ p7.x)) ((F121 fuel p8.x p8.lo p8.hi p7.x p7.lo p7.hi y8).bind fun r2 => (cond (decide (r2.1 ≤ x1_hi)) (F21_j6 k2 y10 y8 (decide (x1_lo ≤ r2.2))) (F21_j6 k2 y10 y8 false))) (k3 y10 y14 (w64 (y13 + (1 : Int)))))
def F21_l2 (fuel : Nat) (x0 : List Pt) (x1_lo : Int) (x1_hi : Int) (d5 : List Pt) : Nat → (List Rng) → Int → Int → Option (List Rng × Int)
  | 0, _, _, _ => none
  | n3 + 1, y15, y16, y13 =>
    let k3 : (List Rng) → Int → Int → Option (List Rng × Int) := F21_l2 fuel x0 x1_lo x1_hi d5 n3
    (cond (decide (y13 < (d5.length : Int))) ((getI d5 y13).bind fun p7 => ((getI x0 y13).bind fun p8 => (F21_l3 fuel k3 x1_lo x1_hi y13 p7 p8 fuel y15 y16 (if (w64 (y16 + (1 : Int))) > p8.x then (w64 (y16 + (1 : Int))) else p8.x)))) (F21_j1 y15))
def F21 (fuel : Nat) (x0 : List Pt) (x1_lo : Int) (x1_hi : Int) : Option (List Rng × Int) :=
  ((F67 fuel x0).bind fun r3 => (cond (r3 != (0 : Int)) (some ([], r3)) ((F52 fuel x1_lo x1_hi).bind fun r4 => (cond (r4 != (0 : Int)) (some ([], r4)) (cond ((x0.length : Int) == (1 : Int)) ((getI x0 0).bind fun p3 => ((getI x0 0).bind fun p4 => (F21_l1 fuel x1_lo x1_hi p3 p4 fuel ([]) (-1) (if 0 > p3.x then 0 else p3.x)))) ((subI x0 1 (x0.length : Int)).bind fun d5 => (F21_l2 fuel x0 x1_lo x1_hi d5 fuel ([]) (-1) 0)))))))
set_option maxRecDepth 100000 in
theorem f21_ok (fuel : Nat) (x0 : List Pt) (x1_lo : Int) (x1_hi : Int) (r : List Rng × Int) (hr : F21 fuel x0 x1_lo x1_hi = some r) (h : Zone) (L : List Atom) (w : World) (hS : St h L w) (o_x0 : Option Addr) (c_x0 : Nat) (hx_x0 : SliceR PtT h o_x0 c_x0 x0) :
    Calls Try.prog 21 #[.agg #[.slice o_x0 x0.length c_x0], .agg #[vI x1_lo, vI x1_hi]] w fun e w' => ∃ v, e = .returned v ∧ (∃ h', ∃ o0 : Option Addr, ∃ c0 : Nat, Zone.le h h' ∧ v = .tuple #[.slice o0 r.1.length c0, vI r.2] ∧ St h' L w' ∧ SliceR RngT h' o0 c0 r.1) := by
 refine calls_intro (N := 21) Try.func21 (by kernel_rfl) fun a hf => ?_
 refine w_sr (by kernel_rfl) ?_
 refine p_box (i := 0) (d := (some 2)) (cs := [.slice o_x0 x0.length c_x0]) (T := 24) (v := fun b1 => pB b1 0) hS hf (fun b => by kernel_rfl) fun b1 ww1 a1 hS1 hf1 => ⟨fun _ => trivial, ?_⟩
 refine p_box (i := 1) (d := (some 3)) (cs := [vI x1_lo, vI x1_hi]) (T := 41) (v := fun b2 => pB b2 0) hS1 hf1 (fun b => by kernel_rfl) fun b2 ww2 a2 hS2 hf2 => ⟨fun _ => trivial, ?_⟩
 refine p_qt [] [(2, pB b1 0), (3, pB b2 0)] [] hf2 (by kernel_rfl) .nil fun a3 hf3 => ?_
 refine w_seq (by kernel_rfl) ?_
 refine w_sr (by kernel_rfl) ?_
 refine p_qn 1 [.slice o_x0 x0.length c_x0] [(2, pB b1 0), (3, pB b2 0), (8, .agg #[.slice o_x0 x0.length c_x0])] [.cell ⟨b1, 0, none⟩ (.slice o_x0 x0.length c_x0)] hf3 (by kernel_rfl) (.cell (hS2.box (i := 1) rfl (j := 0) rfl) .nil) fun a4 hf4 => ?_
 obtain ⟨r3, hd1, hr1⟩ := bind_some hr
 refine p_call (i := 1) (d := some 9) (f := 67) (args := #[.agg #[.slice o_x0 x0.length c_x0]]) hf4 (by kernel_rfl) (f67_ok fuel x0 r3 hd1 h _ _ hS2 o_x0 c_x0 hx_x0) ?_
 rintro v1 ww3 a5 ⟨z1, k4, rfl, hS3⟩ hf5
 refine ⟨fun _ => trivial, ?_⟩
 refine p_qt [] [(2, pB b1 0), (3, pB b2 0), (6, vI r3)] [] hf5 (by kernel_rfl) .nil fun a6 hf6 => ?_
 refine w_sq [] [(2, pB b1 0), (3, pB b2 0), (6, vI r3), (11, .bool (r3 != (0 : Int)))] [] hf6 (by kernel_rfl) .nil fun a7 hf7 => ?_
 refine w_if hf7 (b := (r3 != (0 : Int))) (by kernel_rfl) (fun hb1 => ?_) (fun hb1 => ?_)
 ·have hr2 := cond_t hb1 hr1
  refine w_sq [] [(4, .slice none 0 0), (5, vI r3)] [] hf7 (by kernel_rfl) .nil fun a8 hf8 => ?_
  refine w_ret (by kernel_rfl) ?_
  refine r_then ?_
  refine p_ret (os := []) (v := .tuple #[.slice none 0 0, vI r3]) (obs := []) hf8 (by kernel_rfl) .nil ?_
  obtain rfl := some_eq hr2
  exact ⟨_, rfl, z1, none, 0, k4, rfl, (St.drop 2 hS3), SliceR.nil' _ _⟩
 ·have hr3 := cond_f hb1 hr1
  refine w_skip (by kernel_rfl) ?_
  refine n_then ?_
  refine w_seq (by kernel_rfl) ?_
  refine w_sr (by kernel_rfl) ?_
  refine p_qn 1 [vI x1_lo, vI x1_hi] [(2, pB b1 0), (3, pB b2 0), (13, .agg #[vI x1_lo, vI x1_hi])] [.cell ⟨b2, 0, none⟩ (vI x1_lo), .cell ⟨b2, 1, none⟩ (vI x1_hi)] hf7 (by kernel_rfl) (.cell (hS3.box (i := 0) rfl (j := 0) rfl) (.cell (hS3.box (i := 0) rfl (j := 1) rfl) .nil)) fun a9 hf9 => ?_
  obtain ⟨r4, hd2, hr4⟩ := bind_some hr3
  refine p_call (i := 1) (d := some 14) (f := 52) (args := #[.agg #[vI x1_lo, vI x1_hi]]) hf9 (by kernel_rfl) (f52_ok fuel x1_lo x1_hi r4 hd2 z1 _ _ hS3 ) ?_
  rintro v2 ww4 a10 ⟨z2, k5, rfl, hS4⟩ hf10
  refine ⟨fun _ => trivial, ?_⟩
  refine p_qt [] [(2, pB b1 0), (3, pB b2 0), (7, vI r4)] [] hf10 (by kernel_rfl) .nil fun a11 hf11 => ?_
  refine w_sq [] [(2, pB b1 0), (3, pB b2 0), (7, vI r4), (16, .bool (r4 != (0 : Int)))] [] hf11 (by kernel_rfl) .nil fun a12 hf12 => ?_
  refine w_if hf12 (b := (r4 != (0 : Int))) (by kernel_rfl) (fun hb2 => ?_) (fun hb2 => ?_)
  ·have hr5 := cond_t hb2 hr4
   refine w_sq [] [(4, .slice none 0 0), (5, vI r4)] [] hf12 (by kernel_rfl) .nil fun a13 hf13 => ?_
   refine w_ret (by kernel_rfl) ?_
   refine r_then ?_
   refine p_ret (os := []) (v := .tuple #[.slice none 0 0, vI r4]) (obs := []) hf13 (by kernel_rfl) .nil ?_
   obtain rfl := some_eq hr5
   exact ⟨_, rfl, z2, none, 0, (Zone.le_trans k4 k5), rfl, (St.drop 2 hS4), SliceR.nil' _ _⟩
  ·have hr6 := cond_f hb2 hr4
   refine w_skip (by kernel_rfl) ?_
   refine n_then ?_
   refine w_sr (by kernel_rfl) ?_
   refine p_qn 2 [.slice o_x0 x0.length c_x0] [(18, .agg #[.slice o_x0 x0.length c_x0]), (19, .func (.func 94) #[] #[pB b2 0])] [.cell ⟨b1, 0, none⟩ (.slice o_x0 x0.length c_x0)] hf12 (by kernel_rfl) (.cell (hS4.box (i := 1) rfl (j := 0) rfl) .nil) fun a14 hf14 => ?_
   refine p_call (i := 2) (d := some 20) (f := 93) (args := #[.agg #[.slice o_x0 x0.length c_x0], .func (.func 94) #[] #[pB b2 0]]) hf14 (by kernel_rfl) (Φ := fun v w => ∃ z3 : Zone, ∃ y1 : List Rng, ∃ e1 : Option Addr, ∃ q1 : Nat, Zone.le z2 z3 ∧ v = .slice e1 y1.length q1 ∧ St z3 (ownS RngT 41 e1 q1 y1 :: box b2 [vI x1_lo, vI x1_hi] 41 :: box b1 [.slice o_x0 x0.length c_x0] 24 :: L) w ∧ (F21_j1 y1) = some r) ?_ ?_
   ·refine calls_intro (N := 60) Try.func93 (by kernel_rfl) fun a15 hf15 => ?_
    refine w_sr (by kernel_rfl) ?_
    refine p_box (i := 0) (d := (some 2)) (cs := [.slice o_x0 x0.length c_x0]) (T := 24) (v := fun b3 => pB b3 0) hS4 hf15 (fun b => by kernel_rfl) fun b3 ww5 a16 hS5 hf16 => ⟨fun _ => trivial, ?_⟩
    refine p_box (i := 1) (d := (some 3)) (cs := [.func (.func 94) #[] #[pB b2 0]]) (T := 61) (v := fun b4 => pB b4 0) hS5 hf16 (fun b => by kernel_rfl) fun b4 ww6 a17 hS6 hf17 => ⟨fun _ => trivial, ?_⟩
    refine p_qt [] [(2, pB b3 0), (3, pB b4 0)] [] hf17 (by kernel_rfl) .nil fun a18 hf18 => ?_
    refine w_sr (by kernel_rfl) ?_
    refine p_box (i := 0) (d := (some 5)) (cs := [.slice none 0 0]) (T := 45) (v := fun b5 => pB b5 0) hS6 hf18 (fun b => by kernel_rfl) fun b5 ww7 a19 hS7 hf19 => ⟨fun _ => trivial, ?_⟩
    refine p_dt (by kernel_rfl) ?_
    refine w_sr (by kernel_rfl) ?_
    refine p_box (i := 0) (d := (some 6)) (cs := [vI 0]) (T := 3) (v := fun b6 => pB b6 0) hS7 hf19 (fun b => by kernel_rfl) fun b6 ww8 a20 hS8 hf20 => ⟨fun _ => trivial, ?_⟩
    refine p_store_eq (i := 1) (j := 0) (b := b6) (off := 0) (vs := [vI (-1)]) (cs' := [vI (-1)]) hS8 hf20 rfl (by kernel_rfl) (by kernel_rfl) rfl fun ww9 a21 hS9 hf21 => ⟨fun _ => trivial, ?_⟩
    refine p_dt (by kernel_rfl) ?_
    refine w_seq (by kernel_rfl) ?_
    refine w_sr (by kernel_rfl) ?_
    refine p_qn 1 [.slice o_x0 x0.length c_x0] [(3, pB b4 0), (5, pB b5 0), (6, pB b6 0), (10, .agg #[.slice o_x0 x0.length c_x0])] [.cell ⟨b3, 0, none⟩ (.slice o_x0 x0.length c_x0)] hf21 (by kernel_rfl) (.cell (hS9.box (i := 3) rfl (j := 0) rfl) .nil) fun a22 hf22 => ?_
    refine p_inl (i := 1) (d := some 11) (f := 118) (args := #[.agg #[.slice o_x0 x0.length c_x0]]) (N' := 4) hf22 (by kernel_rfl) Try.func118 (by kernel_rfl) fun a23 hf23 => ?_
    refine w_sr (by kernel_rfl) ?_
    refine p_box (i := 0) (d := (some 1)) (cs := [.slice o_x0 x0.length c_x0]) (T := 24) (v := fun b7 => pB b7 0) hS9 hf23 (fun b => by kernel_rfl) fun b7 ww10 a24 hS10 hf24 => ⟨fun _ => trivial, ?_⟩
    refine p_qt [] [(1, pB b7 0)] [] hf24 (by kernel_rfl) .nil fun a25 hf25 => ?_
    refine w_sq [] [(2, .func (.func 130) #[] #[pB b7 0])] [] hf25 (by kernel_rfl) .nil fun a26 hf26 => ?_
    refine w_ret (by kernel_rfl) ?_
    refine p_ret (os := []) (v := .func (.func 130) #[] #[pB b7 0]) (obs := []) hf26 (by kernel_rfl) .nil ?_
    refine ⟨_, rfl, fun a27 hf27 => ?_⟩
    refine ⟨fun _ => trivial, ?_⟩
    refine p_dt (by kernel_rfl) ?_
    refine w_block (id := 0) (by kernel_rfl) ?_
    have hf28 := Fr.keep (ks := [3, 5, 6, 11]) (r := [(3, pB b4 0), (5, pB b5 0), (6, pB b6 0), (11, .func (.func 130) #[] #[pB b7 0])]) hf27 (by kernel_rfl)
    refine w_range (g := 11) (gf := 130) (lb := #[pB b7 0]) (by kernel_rfl) hf28 hS10 (by kernel_rfl) (fun l => by kernel_rfl) fun ps1 A1 B1 hps1 hA1 hB1 l1 D1 ww11 hS11 => ?_
    refine calls_intro (N := 40) Try.func130 (by kernel_rfl) fun a28 hf29 => ?_
    refine w_seq (by kernel_rfl) ?_
    refine w_sq [.slice o_x0 x0.length c_x0] [(0, .func (.yield l1) #[] #[]), (1, pB b7 0), (8, .bool ((x0.length : Int) == (1 : Int)))] [.cell ⟨b7, 0, none⟩ (.slice o_x0 x0.length c_x0)] hf29 (by kernel_rfl) (.cell (hS11.box (i := 2) rfl (j := 0) rfl) .nil) fun a29 hf30 => ?_
    refine w_if hf30 (b := ((x0.length : Int) == (1 : Int))) (by kernel_rfl) (fun hb3 => ?_) (fun hb3 => ?_)
    ·have hr7 := cond_t hb3 hr6
     refine w_seq (by kernel_rfl) ?_
     refine w_regDY (by kernel_rfl) 10 [(0, true), (1, true), (2, true), (3, true), (4, true), (5, true), (6, true), (7, true), (8, true), (9, true)] [] (by kernel_rfl) ?_
     have hS12 := hS11.drew
     obtain ⟨p3, hp34462, hr8⟩ := bind_some hr7
     obtain ⟨ad1, ho1, hb4, cc1, hc1, hk1⟩ := SliceR.getI (SliceR.mono (Zone.le_trans k4 k5) hx_x0) hp34462
     subst hc1
     obtain ⟨p4, hp34471, hr9⟩ := bind_some hr8
     obtain ⟨ad2, ho2, hb5, cc2, hc2, hk2⟩ := SliceR.getI (SliceR.mono (Zone.le_trans k4 k5) hx_x0) hp34471
     subst hc2
     refine p_qzE [.slice o_x0 x0.length c_x0, .pointer (some ad1), vI p3.x, vI p3.lo, vI p3.hi, .slice o_x0 x0.length c_x0, .pointer (some ad2), vI p4.x, vI p4.lo, vI p4.hi] [(9, .func (.yield l1) #[] #[]), (18, .agg #[vI p3.x, vI p3.lo, vI p3.hi, vI p4.x, vI p4.lo, vI p4.hi])] [.cell ⟨b7, 0, none⟩ (.slice o_x0 x0.length c_x0), .prop (o_x0 = some ad1), .prop (0 ≤ (0 : Int) ∧ (0 : Int) < (x0.length : Nat)), .cell ((ad1.add (Int.toNat 0 * 3)).add 0) (vI p3.x), .cell ((ad1.add (Int.toNat 0 * 3)).add 1) (vI p3.lo), .cell ((ad1.add (Int.toNat 0 * 3)).add 2) (vI p3.hi), .cell ⟨b7, 0, none⟩ (.slice o_x0 x0.length c_x0), .prop (o_x0 = some ad2), .prop (0 ≤ (0 : Int) ∧ (0 : Int) < (x0.length : Nat)), .cell ((ad2.add (Int.toNat 0 * 3)).add 0) (vI p4.x), .cell ((ad2.add (Int.toNat 0 * 3)).add 1) (vI p4.lo), .cell ((ad2.add (Int.toNat 0 * 3)).add 2) (vI p4.hi)] [] hf30 (by kernel_rfl) (.cell (hS12.box (i := 2) rfl (j := 0) rfl) (.prop ho1 (.prop hb4 (.cell (hS12.cell (hk1 0 _ rfl)) (.cell (hS12.cell (hk1 1 _ rfl)) (.cell (hS12.cell (hk1 2 _ rfl)) (.cell (hS12.box (i := 2) rfl (j := 0) rfl) (.prop ho2 (.prop hb5 (.cell (hS12.cell (hk2 0 _ rfl)) (.cell (hS12.cell (hk2 1 _ rfl)) (.cell (hS12.cell (hk2 2 _ rfl)) .nil)))))))))))) .nil fun a30 hf31 => ?_
     refine p_yield (d := some 19) (l := l1) (args := #[.agg #[vI p3.x, vI p3.lo, vI p3.hi, vI p4.x, vI p4.lo, vI p4.hi]]) hf31 (by kernel_rfl) hS12 (j := 0) rfl (by rw [hps1]; kernel_rfl) fun a31 hf32 => ?_
     rw [hps1] at hf32
     refine cw_eq hA1 ?_
     refine w_reg (by kernel_rfl) ?_
     refine p_box (i := 0) (d := (some 7)) (cs := [vI 0, vI 0, vI 0, vI 0, vI 0, vI 0]) (T := 127) (v := fun b8 => pB b8 0) hS12 hf32 (fun b => by kernel_rfl) fun b8 ww12 a32 hS13 hf33 => ⟨fun _ => trivial, ?_⟩
     refine p_store_eq (i := 1) (j := 0) (b := b8) (off := 0) (vs := [vI p3.x, vI p3.lo, vI p3.hi, vI p4.x, vI p4.lo, vI p4.hi]) (cs' := [vI p3.x, vI p3.lo, vI p3.hi, vI p4.x, vI p4.lo, vI p4.hi]) hS13 hf33 rfl (by kernel_rfl) (by kernel_rfl) rfl fun ww13 a33 hS14 hf34 => ⟨fun _ => trivial, ?_⟩
     refine p_dt (by kernel_rfl) ?_
     refine p_begin hS14 (j := 1) rfl fun ww14 hS15 => ?_
     refine cw_eq hB1 ?_
     refine w_block (id := 1) (by kernel_rfl) ?_
     refine w_sq [vI p3.x, vI (-1)] [(3, pB b4 0), (5, pB b5 0), (6, pB b6 0), (7, pB b8 0), (8, vI (if 0 > p3.x then 0 else p3.x))] [.cell ⟨b8, 0, none⟩ (vI p3.x), .cell ⟨b6, 0, none⟩ (vI (-1))] hf34 (by kernel_rfl) (.cell (hS15.box (i := 0) rfl (j := 0) rfl) (.cell (hS15.box (i := 4) rfl (j := 0) rfl) .nil)) fun a34 hf35 => ?_
     refine w_block (id := 2) (by kernel_rfl) ?_
     have hS16 := hS15.ownNil RngT 41
     have hf36 := Fr.keep (ks := [3, 5, 6, 7, 8]) (r := [(3, pB b4 0), (5, pB b5 0), (6, pB b6 0), (7, pB b8 0), (8, vI (if 0 > p3.x then 0 else p3.x))]) hf35 (by kernel_rfl)
     refine w_loop (by kernel_rfl) (fun n a w => ∃ z4 : Zone, ∃ y4 : List Rng, ∃ y7 : Int, ∃ y2 : Int, ∃ e2 : Option Addr, ∃ q2 : Nat, Zone.le z2 z4 ∧ Fr a 60 [(3, pB b4 0), (5, pB b5 0), (6, pB b6 0), (7, pB b8 0), (8, vI y2)] ∧ St z4 (ownS RngT 41 e2 q2 y4 :: box b8 [vI p3.x, vI p3.lo, vI p3.hi, vI p4.x, vI p4.lo, vI p4.hi] 127 :: loopA l1 60 [(3, pB b4 0), (5, pB b5 0), (6, pB b6 0), (11, .func (.func 130) #[] #[pB b7 0])] ps1 A1 B1 D1 .busy none :: defA D1 :: box b7 [.slice o_x0 x0.length c_x0] 24 :: box b6 [vI y7] 3 :: box b5 [.slice e2 y4.length q2] 45 :: box b4 [.func (.func 94) #[] #[pB b2 0]] 61 :: box b3 [.slice o_x0 x0.length c_x0] 24 :: box b2 [vI x1_lo, vI x1_hi] 41 :: box b1 [.slice o_x0 x0.length c_x0] 24 :: L) w ∧ (F21_l1 fuel x1_lo x1_hi p3 p4 n y4 y7 y2) = some r) fuel ⟨z2, [], -1, (if 0 > p3.x then 0 else p3.x), none, 0, (Zone.le_refl _), hf36, hS16, hr9⟩ ?_
     rintro n4 a35 ww15 ⟨z4, y4, y7, y2, e2, q2, k6, hf37, hS17, hr10⟩
     cases n4 with
     | zero => cases hr10
     | succ n1 =>
     refine w_seq (by kernel_rfl) ?_
     refine w_sq [vI p4.x] [(3, pB b4 0), (5, pB b5 0), (6, pB b6 0), (7, pB b8 0), (8, vI y2), (23, .bool (decide (y2 ≤ p4.x)))] [.cell ⟨b8, 3, none⟩ (vI p4.x)] hf37 (by kernel_rfl) (.cell (hS17.box (i := 1) rfl (j := 3) rfl) .nil) fun a36 hf38 => ?_
     refine w_if hf38 (b := (decide (y2 ≤ p4.x))) (by kernel_rfl) (fun hb6 => ?_) (fun hb6 => ?_)
     ·have hr11 := cond_t hb6 hr10
      refine w_skip (by kernel_rfl) ?_
      refine n_then ?_
      refine w_mid (by kernel_rfl) (fun a w => ∃ z5 : Zone, ∃ y3 : List Rng, ∃ e3 : Option Addr, ∃ q3 : Nat, Zone.le z4 z5 ∧ Fr a 60 [(3, pB b4 0), (5, pB b5 0), (6, pB b6 0), (7, pB b8 0), (8, vI y2)] ∧ St z5 (ownS RngT 41 e3 q3 y3 :: box b8 [vI p3.x, vI p3.lo, vI p3.hi, vI p4.x, vI p4.lo, vI p4.hi] 127 :: loopA l1 60 [(3, pB b4 0), (5, pB b5 0), (6, pB b6 0), (11, .func (.func 130) #[] #[pB b7 0])] ps1 A1 B1 D1 .busy none :: defA D1 :: box b7 [.slice o_x0 x0.length c_x0] 24 :: box b6 [vI y2] 3 :: box b5 [.slice e3 y3.length q3] 45 :: box b4 [.func (.func 94) #[] #[pB b2 0]] 61 :: box b3 [.slice o_x0 x0.length c_x0] 24 :: box b2 [vI x1_lo, vI x1_hi] 41 :: box b1 [.slice o_x0 x0.length c_x0] 24 :: L) w ∧ (F21_j2 (F21_l1 fuel x1_lo x1_hi p3 p4 n1) y2 y3) = some r) ?_ ?_
      ·skip
       refine w_block (id := 3) (by kernel_rfl) ?_
       refine w_sr (by kernel_rfl) ?_
       refine p_qn 1 [] [(3, pB b4 0), (5, pB b5 0), (6, pB b6 0), (7, pB b8 0), (8, vI y2), (26, vI y2)] [] hf38 (by kernel_rfl) .nil fun a37 hf39 => ?_
       refine p_store_eq (i := 1) (j := 5) (b := b6) (off := 0) (vs := [vI y2]) (cs' := [vI y2]) hS17 hf39 rfl (by kernel_rfl) (by kernel_rfl) rfl fun ww16 a38 hS18 hf40 => ⟨fun _ => trivial, ?_⟩
       refine p_dt (by kernel_rfl) ?_
       refine w_seq (by kernel_rfl) ?_
       refine w_seq (by kernel_rfl) ?_
       have hS19 := hS18.drew
       have s1 : Sub z4 (ownS RngT 41 e2 q2 y4 :: box b8 [vI p3.x, vI p3.lo, vI p3.hi, vI p4.x, vI p4.lo, vI p4.hi] 127 :: loopA l1 60 [(3, pB b4 0), (5, pB b5 0), (6, pB b6 0), (11, .func (.func 130) #[] #[pB b7 0])] ps1 A1 B1 D1 .busy none :: defA D1 :: box b7 [.slice o_x0 x0.length c_x0] 24 :: box b6 [vI y2] 3 :: box b5 [.slice e2 y4.length q2] 45 :: box b4 [.func (.func 94) #[] #[pB b2 0]] 61 :: box b3 [.slice o_x0 x0.length c_x0] 24 :: box b2 [vI x1_lo, vI x1_hi] 41 :: box b1 [.slice o_x0 x0.length c_x0] 24 :: L) _ := Sub.of (Zone.le_refl _) hS19
       refine w_regD (by kernel_rfl) [(0, true), (1, true), (2, true), (3, false), (4, false), (5, true)] [4] (Sub z4 (ownS RngT 41 e2 q2 y4 :: box b8 [vI p3.x, vI p3.lo, vI p3.hi, vI p4.x, vI p4.lo, vI p4.hi] 127 :: loopA l1 60 [(3, pB b4 0), (5, pB b5 0), (6, pB b6 0), (11, .func (.func 130) #[] #[pB b7 0])] ps1 A1 B1 D1 .busy none :: defA D1 :: box b7 [.slice o_x0 x0.length c_x0] 24 :: box b6 [vI y2] 3 :: box b5 [.slice e2 y4.length q2] 45 :: box b4 [.func (.func 94) #[] #[pB b2 0]] 61 :: box b3 [.slice o_x0 x0.length c_x0] 24 :: box b2 [vI x1_lo, vI x1_hi] 41 :: box b1 [.slice o_x0 x0.length c_x0] 24 :: L)) (by kernel_rfl) s1 ?_
       refine p_qS 3 [.func (.func 94) #[] #[pB b2 0], vI p3.x, vI p3.lo, vI p3.hi, vI p4.x, vI p4.lo, vI p4.hi] [(3, pB b4 0), (5, pB b5 0), (6, pB b6 0), (7, pB b8 0), (8, vI y2), (27, .func (.func 94) #[] #[pB b2 0]), (28, .agg #[vI p3.x, vI p3.lo, vI p3.hi, vI p4.x, vI p4.lo, vI p4.hi]), (29, vI y2)] [.cell ⟨b4, 0, none⟩ (.func (.func 94) #[] #[pB b2 0]), .cell ⟨b8, 0, none⟩ (vI p3.x), .cell ⟨b8, 1, none⟩ (vI p3.lo), .cell ⟨b8, 2, none⟩ (vI p3.hi), .cell ⟨b8, 3, none⟩ (vI p4.x), .cell ⟨b8, 4, none⟩ (vI p4.lo), .cell ⟨b8, 5, none⟩ (vI p4.hi)] [] s1 hf40 (by kernel_rfl) (fun _ s => (.cell (s.box (i := 7) rfl (j := 0) rfl) (.cell (s.box (i := 1) rfl (j := 0) rfl) (.cell (s.box (i := 1) rfl (j := 1) rfl) (.cell (s.box (i := 1) rfl (j := 2) rfl) (.cell (s.box (i := 1) rfl (j := 3) rfl) (.cell (s.box (i := 1) rfl (j := 4) rfl) (.cell (s.box (i := 1) rfl (j := 5) rfl) .nil)))))))) .nil fun a39 hf41 => ?_
       obtain ⟨r1, hd3, hr12⟩ := bind_some hr11
       refine p_call (i := 3) (d := some 30) (f := 121) (args := #[.agg #[vI p3.x, vI p3.lo, vI p3.hi, vI p4.x, vI p4.lo, vI p4.hi], vI y2]) hf41 (by kernel_rfl) (f121_ok fuel p3.x p3.lo p3.hi p4.x p4.lo p4.hi y2 r1 hd3 z4 _ _ hS19 ) ?_
       rintro v3 ww17 a40 ⟨rfl, hS20⟩ hf42
       refine ⟨fun _ => Sub.of (Zone.le_refl _) hS20, ?_⟩
       have s2 : Sub z4 (ownS RngT 41 e2 q2 y4 :: box b8 [vI p3.x, vI p3.lo, vI p3.hi, vI p4.x, vI p4.lo, vI p4.hi] 127 :: loopA l1 60 [(3, pB b4 0), (5, pB b5 0), (6, pB b6 0), (11, .func (.func 130) #[] #[pB b7 0])] ps1 A1 B1 D1 .busy none :: defA D1 :: box b7 [.slice o_x0 x0.length c_x0] 24 :: box b6 [vI y2] 3 :: box b5 [.slice e2 y4.length q2] 45 :: box b4 [.func (.func 94) #[] #[pB b2 0]] 61 :: box b3 [.slice o_x0 x0.length c_x0] 24 :: box b2 [vI x1_lo, vI x1_hi] 41 :: box b1 [.slice o_x0 x0.length c_x0] 24 :: L) _ := Sub.of (Zone.le_refl _) hS20
       refine p_inl (i := 4) (d := some 31) (f := 94) (args := #[.agg #[vI r1.1, vI r1.2], pB b2 0]) (N' := 16) hf42 (by kernel_rfl) Try.func94 (by kernel_rfl) fun a41 hf43 => ?_
       refine w_sr (by kernel_rfl) ?_
       refine p_box (i := 0) (d := (some 2)) (cs := [vI r1.1, vI r1.2]) (T := 41) (v := fun b9 => pB b9 0) hS20 hf43 (fun b => by kernel_rfl) fun b9 ww18 a42 hS21 hf44 => ⟨fun _ => trivial, ?_⟩
       refine p_qt [] [(1, pB b2 0), (2, pB b9 0)] [] hf44 (by kernel_rfl) .nil fun a43 hf45 => ?_
       refine w_mid (by kernel_rfl) (fun a w => ∃ z6 : Zone, ∃ y6 : Bool, Zone.le z4 z6 ∧ Fr a 16 [(3, .bool y6)] ∧ St z6 (box b9 [vI r1.1, vI r1.2] 41 :: ownS RngT 41 e2 q2 y4 :: box b8 [vI p3.x, vI p3.lo, vI p3.hi, vI p4.x, vI p4.lo, vI p4.hi] 127 :: loopA l1 60 [(3, pB b4 0), (5, pB b5 0), (6, pB b6 0), (11, .func (.func 130) #[] #[pB b7 0])] ps1 A1 B1 D1 .busy none :: defA D1 :: box b7 [.slice o_x0 x0.length c_x0] 24 :: box b6 [vI y2] 3 :: box b5 [.slice e2 y4.length q2] 45 :: box b4 [.func (.func 94) #[] #[pB b2 0]] 61 :: box b3 [.slice o_x0 x0.length c_x0] 24 :: box b2 [vI x1_lo, vI x1_hi] 41 :: box b1 [.slice o_x0 x0.length c_x0] 24 :: L) w ∧ (F21_j3 (F21_l1 fuel x1_lo x1_hi p3 p4 n1) y4 y2 y6) = some r) ?_ ?_
       ·skip
        refine w_reg (by kernel_rfl) ?_
        refine p_qn 6 [vI r1.1, vI x1_hi] [(1, pB b2 0), (2, pB b9 0), (9, .bool (decide (r1.1 ≤ x1_hi)))] [.cell ⟨b9, 0, none⟩ (vI r1.1), .cell ⟨b2, 1, none⟩ (vI x1_hi)] hf45 (by kernel_rfl) (.cell (hS21.box (i := 0) rfl (j := 0) rfl) (.cell (hS21.box (i := 10) rfl (j := 1) rfl) .nil)) fun a44 hf46 => ?_
        rcases Bool.eq_false_or_eq_true (decide (r1.1 ≤ x1_hi)) with hb7 | hb7
        ·have hr13 := cond_t hb7 hr12
         have hf47 := Fr.conv hf46 (congrArg (fun z => ([(1, pB b2 0), (2, pB b9 0), (9, .bool z)] : FL)) hb7)
         refine p_qt [vI x1_lo, vI r1.2] [(3, .bool (decide (x1_lo ≤ r1.2)))] [.cell ⟨b2, 0, none⟩ (vI x1_lo), .cell ⟨b9, 1, none⟩ (vI r1.2)] hf47 (by kernel_rfl) (.cell (hS21.box (i := 10) rfl (j := 0) rfl) (.cell (hS21.box (i := 0) rfl (j := 1) rfl) .nil)) fun a45 hf48 => ?_
         have hf49 := Fr.keep (ks := [3]) (r := [(3, .bool (decide (x1_lo ≤ r1.2)))]) hf48 (by kernel_rfl)
         exact ⟨z4, (decide (x1_lo ≤ r1.2)), (Zone.le_refl _), hf49, hS21, hr13⟩
        ·have hr14 := cond_f hb7 hr12
         have hf50 := Fr.conv hf46 (congrArg (fun z => ([(1, pB b2 0), (2, pB b9 0), (9, .bool z)] : FL)) hb7)
         refine p_qt [] [(3, .bool false)] [] hf50 (by kernel_rfl) .nil fun a46 hf51 => ?_
         have hf52 := Fr.keep (ks := [3]) (r := [(3, .bool false)]) hf51 (by kernel_rfl)
         exact ⟨z4, false, (Zone.le_refl _), hf52, hS21, hr14⟩
       ·rintro a47 ww19 ⟨z6, y6, k7, hf53, hS22, hr15⟩
        refine w_ret (by kernel_rfl) ?_
        refine p_ret (os := []) (v := .bool y6) (obs := []) hf53 (by kernel_rfl) .nil ?_
        refine ⟨_, rfl, fun a48 hf54 => ?_⟩
        have hS23 := St.drop 1 hS22
        refine ⟨fun e => absurd e (by decide), ?_⟩
        refine p_qP 1 [] [(3, pB b4 0), (5, pB b5 0), (6, pB b6 0), (7, pB b8 0), (8, vI y2), (32, .bool (!y6))] [] hf54 (by kernel_rfl) (fun _ => .nil) fun a49 hf55 => ?_
        refine p_dt (by kernel_rfl) ?_
        refine w_if hf55 (b := (!y6)) (by kernel_rfl) (fun hb8 => ?_) (fun hb8 => ?_)
        ·have hr16 := cond_t hb8 hr15
         refine w_exit (id := 3) (by kernel_rfl) ?_
         refine x_then ?_
         refine x_block ?_
         refine n_then ?_
         have hf56 := Fr.keep (ks := [3, 5, 6, 7, 8]) (r := [(3, pB b4 0), (5, pB b5 0), (6, pB b6 0), (7, pB b8 0), (8, vI y2)]) hf55 (by kernel_rfl)
         exact ⟨z6, y4, e2, q2, k7, hf56, hS23, hr16⟩
        ·have hr17 := cond_f hb8 hr15
         refine w_skip (by kernel_rfl) ?_
         refine n_then ?_
         refine w_sq [.slice e2 y4.length q2] [(3, pB b4 0), (5, pB b5 0), (6, pB b6 0), (7, pB b8 0), (8, vI y2), (9, vI (w64 ((y4.length : Int) - (1 : Int))))] [.cell ⟨b5, 0, none⟩ (.slice e2 y4.length q2)] hf55 (by kernel_rfl) (.cell (hS23.box (i := 6) rfl (j := 0) rfl) .nil) fun a50 hf57 => ?_
         refine w_mid (by kernel_rfl) (fun a w => ∃ z7 : Zone, ∃ y5 : Bool, Zone.le z6 z7 ∧ Fr a 60 [(3, pB b4 0), (5, pB b5 0), (6, pB b6 0), (7, pB b8 0), (8, vI y2), (9, vI (w64 ((y4.length : Int) - (1 : Int)))), (47, .bool y5)] ∧ St z7 (ownS RngT 41 e2 q2 y4 :: box b8 [vI p3.x, vI p3.lo, vI p3.hi, vI p4.x, vI p4.lo, vI p4.hi] 127 :: loopA l1 60 [(3, pB b4 0), (5, pB b5 0), (6, pB b6 0), (11, .func (.func 130) #[] #[pB b7 0])] ps1 A1 B1 D1 .busy none :: defA D1 :: box b7 [.slice o_x0 x0.length c_x0] 24 :: box b6 [vI y2] 3 :: box b5 [.slice e2 y4.length q2] 45 :: box b4 [.func (.func 94) #[] #[pB b2 0]] 61 :: box b3 [.slice o_x0 x0.length c_x0] 24 :: box b2 [vI x1_lo, vI x1_hi] 41 :: box b1 [.slice o_x0 x0.length c_x0] 24 :: L) w ∧ (F21_j4 (F21_l1 fuel x1_lo x1_hi p3 p4 n1) y4 y2 y5) = some r) ?_ ?_
         ·skip
          refine w_reg (by kernel_rfl) ?_
          refine p_qn 3 [] [(3, pB b4 0), (5, pB b5 0), (6, pB b6 0), (7, pB b8 0), (8, vI y2), (9, vI (w64 ((y4.length : Int) - (1 : Int)))), (38, .bool (decide ((w64 ((y4.length : Int) - (1 : Int))) ≥ (0 : Int))))] [] hf57 (by kernel_rfl) .nil fun a51 hf58 => ?_
          rcases Bool.eq_false_or_eq_true (decide ((w64 ((y4.length : Int) - (1 : Int))) ≥ (0 : Int))) with hb9 | hb9
          ·have hr18 := cond_t hb9 hr17
           have hf59 := Fr.conv hf58 (congrArg (fun z => ([(3, pB b4 0), (5, pB b5 0), (6, pB b6 0), (7, pB b8 0), (8, vI y2), (9, vI (w64 ((y4.length : Int) - (1 : Int)))), (38, .bool z)] : FL)) hb9)
           obtain ⟨p2, hp37757, hr19⟩ := bind_some hr18
           obtain ⟨ad3, ho3, hb10, cc3, hc3, hk3⟩ := hS23.ownGet (j := 0) rfl hp37757
           subst hc3
           refine p_qt [.slice e2 y4.length q2, .pointer (some ad3), vI p2.hi] [(3, pB b4 0), (5, pB b5 0), (6, pB b6 0), (7, pB b8 0), (8, vI y2), (9, vI (w64 ((y4.length : Int) - (1 : Int)))), (39, .slice e2 y4.length q2), (40, vI (w64 ((y4.length : Int) - (1 : Int)))), (41, .pointer (some (ad3.add (Int.toNat (w64 ((y4.length : Int) - (1 : Int))) * 2)))), (42, .pointer (some ((ad3.add (Int.toNat (w64 ((y4.length : Int) - (1 : Int))) * 2)).add 1))), (43, vI p2.hi), (44, vI y2), (45, vI (w64 (y2 - (1 : Int)))), (46, .bool (p2.hi == (w64 (y2 - (1 : Int))))), (47, .bool (p2.hi == (w64 (y2 - (1 : Int)))))] [.cell ⟨b5, 0, none⟩ (.slice e2 y4.length q2), .prop (e2 = some ad3), .prop (0 ≤ (w64 ((y4.length : Int) - (1 : Int))) ∧ (w64 ((y4.length : Int) - (1 : Int))) < (y4.length : Nat)), .cell ((ad3.add (Int.toNat (w64 ((y4.length : Int) - (1 : Int))) * 2)).add 1) (vI p2.hi)] hf59 (by kernel_rfl) (.cell (hS23.box (i := 6) rfl (j := 0) rfl) (.prop ho3 (.prop hb10 (.cell (hk3 1 _ rfl) .nil)))) fun a52 hf60 => ?_
           have hf61 := Fr.keep (ks := [3, 5, 6, 7, 8, 9, 47]) (r := [(3, pB b4 0), (5, pB b5 0), (6, pB b6 0), (7, pB b8 0), (8, vI y2), (9, vI (w64 ((y4.length : Int) - (1 : Int)))), (47, .bool (p2.hi == (w64 (y2 - (1 : Int)))))]) hf60 (by kernel_rfl)
           exact ⟨z6, (p2.hi == (w64 (y2 - (1 : Int)))), (Zone.le_refl _), hf61, hS23, hr19⟩
          ·have hr20 := cond_f hb9 hr17
           have hf62 := Fr.conv hf58 (congrArg (fun z => ([(3, pB b4 0), (5, pB b5 0), (6, pB b6 0), (7, pB b8 0), (8, vI y2), (9, vI (w64 ((y4.length : Int) - (1 : Int)))), (38, .bool z)] : FL)) hb9)
           refine p_qt [] [(3, pB b4 0), (5, pB b5 0), (6, pB b6 0), (7, pB b8 0), (8, vI y2), (9, vI (w64 ((y4.length : Int) - (1 : Int)))), (39, undef), (40, undef), (41, undef), (42, undef), (43, undef), (44, undef), (45, undef), (46, undef), (47, .bool false)] [] hf62 (by kernel_rfl) .nil fun a53 hf63 => ?_
           have hf64 := Fr.keep (ks := [3, 5, 6, 7, 8, 9, 47]) (r := [(3, pB b4 0), (5, pB b5 0), (6, pB b6 0), (7, pB b8 0), (8, vI y2), (9, vI (w64 ((y4.length : Int) - (1 : Int)))), (47, .bool false)]) hf63 (by kernel_rfl)
           exact ⟨z6, false, (Zone.le_refl _), hf64, hS23, hr20⟩
         ·rintro a54 ww20 ⟨z7, y5, k8, hf65, hS24, hr21⟩
          refine w_if hf65 (b := y5) (by kernel_rfl) (fun hb11 => ?_) (fun hb11 => ?_)
          ·have hr22 := cond_t hb11 hr21
           refine w_reg (by kernel_rfl) ?_
           obtain ⟨p1, hp37777, hr23⟩ := bind_some hr22
           obtain ⟨ad4, ho4, hb12, cc4, hc4, hk4⟩ := hS24.ownGet (j := 0) rfl hp37777
           subst hc4
           refine p_qn 5 [.slice e2 y4.length q2, .pointer (some ad4)] [(3, pB b4 0), (5, pB b5 0), (6, pB b6 0), (7, pB b8 0), (8, vI y2), (50, vI y2), (52, .pointer (some ((ad4.add (Int.toNat (w64 ((y4.length : Int) - (1 : Int))) * 2)).add 1)))] [.cell ⟨b5, 0, none⟩ (.slice e2 y4.length q2), .prop (e2 = some ad4), .prop (0 ≤ (w64 ((y4.length : Int) - (1 : Int))) ∧ (w64 ((y4.length : Int) - (1 : Int))) < (y4.length : Nat))] hf65 (by kernel_rfl) (.cell (hS24.box (i := 6) rfl (j := 0) rfl) (.prop ho4 (.prop hb12 .nil))) fun a55 hf66 => ?_
           obtain ⟨d1, hd4, hr24⟩ := bind_some hr23
           have hl1 := setI_len hd4
           refine p_setOwn (i := 5) (j := 0) (ad := ad4) (ix := (w64 ((y4.length : Int) - (1 : Int)))) (off := 1) (vs := [vI y2]) (x' := ({ p1 with hi := y2 })) hS24 hf66 rfl ho4 hp37777 (by kernel_rfl) (by kernel_rfl) rfl hd4 fun ww21 a56 hS25 hf67 => ?_
           have hS26 := St.convL (L' := ownS RngT 41 e2 q2 d1 :: box b8 [vI p3.x, vI p3.lo, vI p3.hi, vI p4.x, vI p4.lo, vI p4.hi] 127 :: loopA l1 60 [(3, pB b4 0), (5, pB b5 0), (6, pB b6 0), (11, .func (.func 130) #[] #[pB b7 0])] ps1 A1 B1 D1 .busy none :: defA D1 :: box b7 [.slice o_x0 x0.length c_x0] 24 :: box b6 [vI y2] 3 :: box b5 [.slice e2 d1.length q2] 45 :: box b4 [.func (.func 94) #[] #[pB b2 0]] 61 :: box b3 [.slice o_x0 x0.length c_x0] 24 :: box b2 [vI x1_lo, vI x1_hi] 41 :: box b1 [.slice o_x0 x0.length c_x0] 24 :: L) hS25 (by rw [hl1] <;> rfl)
           refine ⟨fun _ => trivial, ?_⟩
           refine p_done (by kernel_rfl) ?_
           refine n_block ?_
           refine n_then ?_
           have hf68 := Fr.keep (ks := [3, 5, 6, 7, 8]) (r := [(3, pB b4 0), (5, pB b5 0), (6, pB b6 0), (7, pB b8 0), (8, vI y2)]) hf67 (by kernel_rfl)
           exact ⟨z7, d1, e2, q2, (Zone.le_trans k7 k8), hf68, hS26, hr24⟩
          ·have hr25 := cond_f hb11 hr21
           refine w_reg (by kernel_rfl) ?_
           refine p_qn 4 [.slice e2 y4.length q2] [(3, pB b4 0), (5, pB b5 0), (6, pB b6 0), (7, pB b8 0), (8, vI y2), (53, .slice e2 y4.length q2), (56, .agg #[vI y2, vI y2])] [.cell ⟨b5, 0, none⟩ (.slice e2 y4.length q2)] hf65 (by kernel_rfl) (.cell (hS24.box (i := 6) rfl (j := 0) rfl) .nil) fun a57 hf69 => ?_
           refine p_box (i := 4) (d := (some 57)) (cs := [vI y2, vI y2]) (T := 41) (v := fun b10 => .slice (some ⟨b10, 0, none⟩) 1 1) hS24 hf69 (fun b => by kernel_rfl) fun b10 ww22 a58 hS27 hf70 => ⟨fun _ => trivial, ?_⟩
           have hS28 := hS27.ownBox (T := RngT) (E := 41) (n := 1) (xs := [⟨y2, y2⟩]) (i := 0) rfl (Rows.cons (c := [vI y2, vI y2]) rfl rfl) rfl (by decide)
           obtain ⟨d2, hd5, hr26⟩ := bind_some hr25
           refine p_append (T := RngT) (i := 5) (j := 1) (d := some 58) (o2 := (some ⟨b10, 0, none⟩)) (c2 := 1) (ys := ([⟨y2, y2⟩])) el45 hS28 hf70 rfl (by kernel_rfl) (hS28.ownSrc (j := 0) rfl) hd5 fun e4 q4 ww23 a59 hS29 hf71 => ⟨fun _ => trivial, ?_⟩
           refine p_store_eq (i := 6) (j := 7) (b := b5) (off := 0) (vs := [.slice e4 d2.length q4]) (cs' := [.slice e4 d2.length q4]) hS29 hf71 rfl (by kernel_rfl) (by kernel_rfl) rfl fun ww24 a60 hS30 hf72 => ⟨fun _ => trivial, ?_⟩
           refine p_done (by kernel_rfl) ?_
           refine n_block ?_
           refine n_then ?_
           have hf73 := Fr.keep (ks := [3, 5, 6, 7, 8]) (r := [(3, pB b4 0), (5, pB b5 0), (6, pB b6 0), (7, pB b8 0), (8, vI y2)]) hf72 (by kernel_rfl)
           exact ⟨z7, d2, e4, q4, (Zone.le_trans k7 k8), hf73, (St.drop 1 hS30), hr26⟩
      ·rintro a61 ww25 ⟨z5, y3, e3, q3, k9, hf74, hS31, hr27⟩
       refine w_q [] [(3, pB b4 0), (5, pB b5 0), (6, pB b6 0), (7, pB b8 0), (8, vI (w64 (y2 + (1 : Int))))] [] hf74 (by kernel_rfl) .nil fun a62 hf75 => ?_
       refine n_then ?_
       have hf76 := Fr.keep (ks := [3, 5, 6, 7, 8]) (r := [(3, pB b4 0), (5, pB b5 0), (6, pB b6 0), (7, pB b8 0), (8, vI (w64 (y2 + (1 : Int))))]) hf75 (by kernel_rfl)
       exact ⟨n1, Nat.lt_succ_self n1, z5, y3, y2, (w64 (y2 + (1 : Int))), e3, q3, (Zone.le_trans k6 k9), hf76, hS31, hr27⟩
     ·have hr28 := cond_f hb6 hr10
      refine w_exit (id := 2) (by kernel_rfl) ?_
      refine x_then ?_
      refine x_then ?_
      refine x_block ?_
      refine n_block ?_
      refine p_roundN hS17 (j := 2) rfl fun ww26 a63 hS32 hf77 => ?_
      refine p_dt (by kernel_rfl) ?_
      refine w_ret (by kernel_rfl) ?_
      refine r_then ?_
      refine p_ret (os := []) (v := .tuple #[]) (obs := []) hf77 (by kernel_rfl) .nil ?_
      refine ⟨_, rfl, fun a64 hf78 => ?_⟩
      refine p_jump0 hS32 (j := 2) rfl (fun h => by cases h) fun ww27 hS33 => ?_
      refine n_block ?_
      refine n_then ?_
      refine w_sq [.slice e2 y4.length q2] [(4, .slice e2 y4.length q2)] [.cell ⟨b5, 0, none⟩ (.slice e2 y4.length q2)] hf78 (by kernel_rfl) (.cell (hS33.box (i := 6) rfl (j := 0) rfl) .nil) fun a65 hf79 => ?_
      refine w_ret (by kernel_rfl) ?_
      refine p_retM hf79 ?_
      refine p_mark hS33 (j := 3) rfl fun ww28 hS34 => ?_
      refine p_end (os := []) (v := .slice e2 y4.length q2) (obs := []) hf79 (by kernel_rfl) .nil ?_
      exact ⟨_, rfl, z4, y4, e2, q2, k6, rfl, (St.pick 9 [0] hS34 (by kernel_rfl)), hr28⟩
    ·have hr29 := cond_f hb3 hr6
     refine w_skip (by kernel_rfl) ?_
     refine n_then ?_
     obtain ⟨d5, hd6, hr30⟩ := bind_some hr29
     obtain ⟨e5, q5, hv1, hb13, hx1⟩ := SliceR.subV (SliceR.mono (Zone.le_trans k4 k5) hx_x0) hd6
     refine w_sq [.slice o_x0 x0.length c_x0, .slice e5 d5.length q5] [(0, .func (.yield l1) #[] #[]), (1, pB b7 0), (22, .slice e5 d5.length q5), (23, vI (d5.length : Int)), (24, vI 0)] [.cell ⟨b7, 0, none⟩ (.slice o_x0 x0.length c_x0), .prop ((.slice e5 d5.length q5 : Value) = .slice (subO o_x0 c_x0 (Int.toNat 1) 3) (Int.toNat (x0.length : Int) - Int.toNat 1) (c_x0 - Int.toNat 1)), .prop ((0 : Int) ≤ 1 ∧ (1 : Int) ≤ (x0.length : Int) ∧ (x0.length : Int) ≤ (c_x0 : Nat) ∧ x0.length ≤ c_x0)] hf30 (by kernel_rfl) (.cell (hS11.box (i := 2) rfl (j := 0) rfl) (.prop hv1 (.prop hb13 .nil))) fun a66 hf80 => ?_
     refine w_block (id := 0) (by kernel_rfl) ?_
     have hS35 := hS11.ownNil RngT 41
     have hf81 := Fr.keep (ks := [0, 1, 22, 23, 24]) (r := [(0, .func (.yield l1) #[] #[]), (1, pB b7 0), (22, .slice e5 d5.length q5), (23, vI (d5.length : Int)), (24, vI 0)]) hf80 (by kernel_rfl)
     refine w_loop (by kernel_rfl) (fun n a w => ∃ z8 : Zone, ∃ y15 : List Rng, ∃ y16 : Int, ∃ y13 : Int, ∃ e6 : Option Addr, ∃ q6 : Nat, Zone.le z2 z8 ∧ Fr a 40 [(0, .func (.yield l1) #[] #[]), (1, pB b7 0), (22, .slice e5 d5.length q5), (23, vI (d5.length : Int)), (24, vI y13)] ∧ St z8 (ownS RngT 41 e6 q6 y15 :: loopA l1 60 [(3, pB b4 0), (5, pB b5 0), (6, pB b6 0), (11, .func (.func 130) #[] #[pB b7 0])] ps1 A1 B1 D1 .ready none :: defA D1 :: box b7 [.slice o_x0 x0.length c_x0] 24 :: box b6 [vI y16] 3 :: box b5 [.slice e6 y15.length q6] 45 :: box b4 [.func (.func 94) #[] #[pB b2 0]] 61 :: box b3 [.slice o_x0 x0.length c_x0] 24 :: box b2 [vI x1_lo, vI x1_hi] 41 :: box b1 [.slice o_x0 x0.length c_x0] 24 :: L) w ∧ (F21_l2 fuel x0 x1_lo x1_hi d5 n y15 y16 y13) = some r) fuel ⟨z2, [], -1, 0, none, 0, (Zone.le_refl _), hf81, hS35, hr30⟩ ?_
     rintro n5 a67 ww29 ⟨z8, y15, y16, y13, e6, q6, k10, hf82, hS36, hr31⟩
     cases n5 with
     | zero => cases hr31
     | succ n3 =>
     refine w_sq [] [(0, .func (.yield l1) #[] #[]), (1, pB b7 0), (22, .slice e5 d5.length q5), (23, vI (d5.length : Int)), (24, vI y13), (25, .bool (decide (y13 < (d5.length : Int))))] [] hf82 (by kernel_rfl) .nil fun a68 hf83 => ?_
     refine w_seq (by kernel_rfl) ?_
     refine w_if hf83 (b := (decide (y13 < (d5.length : Int)))) (by kernel_rfl) (fun hb14 => ?_) (fun hb14 => ?_)
     ·have hr32 := cond_t hb14 hr31
      refine w_skip (by kernel_rfl) ?_
      refine n_then ?_
      refine w_seq (by kernel_rfl) ?_
      refine w_block (id := 1) (by kernel_rfl) ?_
      refine w_sr (by kernel_rfl) ?_
      obtain ⟨p7, hp60425, hr33⟩ := bind_some hr32
      obtain ⟨ad5, ho5, hb15, cc5, hc5, hk5⟩ := SliceR.getI (SliceR.mono k10 hx1) hp60425
      subst hc5
      refine p_qn 3 [.pointer (some ad5), vI p7.x, vI p7.lo, vI p7.hi] [(0, .func (.yield l1) #[] #[]), (1, pB b7 0), (22, .slice e5 d5.length q5), (23, vI (d5.length : Int)), (24, vI y13), (26, vI y13), (28, .agg #[vI p7.x, vI p7.lo, vI p7.hi])] [.prop (e5 = some ad5), .prop (0 ≤ y13 ∧ y13 < (d5.length : Nat)), .cell ((ad5.add (Int.toNat y13 * 3)).add 0) (vI p7.x), .cell ((ad5.add (Int.toNat y13 * 3)).add 1) (vI p7.lo), .cell ((ad5.add (Int.toNat y13 * 3)).add 2) (vI p7.hi)] hf83 (by kernel_rfl) (.prop ho5 (.prop hb15 (.cell (hS36.cell (hk5 0 _ rfl)) (.cell (hS36.cell (hk5 1 _ rfl)) (.cell (hS36.cell (hk5 2 _ rfl)) .nil))))) fun a69 hf84 => ?_
      refine p_box (i := 3) (d := (some 4)) (cs := [vI 0, vI 0, vI 0]) (T := 52) (v := fun b11 => pB b11 0) hS36 hf84 (fun b => by kernel_rfl) fun b11 ww30 a70 hS37 hf85 => ⟨fun _ => trivial, ?_⟩
      refine p_qn 1 [] [(0, .func (.yield l1) #[] #[]), (1, pB b7 0), (3, vI y13), (4, pB b11 0), (22, .slice e5 d5.length q5), (23, vI (d5.length : Int)), (24, vI y13), (28, .agg #[vI p7.x, vI p7.lo, vI p7.hi])] [] hf85 (by kernel_rfl) .nil fun a71 hf86 => ?_
      refine p_store_eq (i := 5) (j := 0) (b := b11) (off := 0) (vs := [vI p7.x, vI p7.lo, vI p7.hi]) (cs' := [vI p7.x, vI p7.lo, vI p7.hi]) hS37 hf86 rfl (by kernel_rfl) (by kernel_rfl) rfl fun ww31 a72 hS38 hf87 => ⟨fun _ => trivial, ?_⟩
      refine p_dt (by kernel_rfl) ?_
      refine w_seq (by kernel_rfl) ?_
      refine w_regDY (by kernel_rfl) 8 [(0, true), (1, true), (2, true), (3, true), (4, true), (5, true), (6, true), (7, true)] [(9, false)] (by kernel_rfl) ?_
      have hS39 := hS38.drew
      obtain ⟨p8, hp60448, hr34⟩ := bind_some hr33
      obtain ⟨ad6, ho6, hb16, cc6, hc6, hk6⟩ := SliceR.getI (SliceR.mono (Zone.le_trans (Zone.le_trans k4 k5) k10) hx_x0) hp60448
      subst hc6
      refine p_qzE [.slice o_x0 x0.length c_x0, .pointer (some ad6), vI p8.x, vI p8.lo, vI p8.hi, vI p7.x, vI p7.lo, vI p7.hi] [(0, .func (.yield l1) #[] #[]), (1, pB b7 0), (22, .slice e5 d5.length q5), (23, vI (d5.length : Int)), (24, vI y13), (29, .func (.yield l1) #[] #[]), (36, .agg #[vI p8.x, vI p8.lo, vI p8.hi, vI p7.x, vI p7.lo, vI p7.hi])] [.cell ⟨b7, 0, none⟩ (.slice o_x0 x0.length c_x0), .prop (o_x0 = some ad6), .prop (0 ≤ y13 ∧ y13 < (x0.length : Nat)), .cell ((ad6.add (Int.toNat y13 * 3)).add 0) (vI p8.x), .cell ((ad6.add (Int.toNat y13 * 3)).add 1) (vI p8.lo), .cell ((ad6.add (Int.toNat y13 * 3)).add 2) (vI p8.hi), .cell ⟨b11, 0, none⟩ (vI p7.x), .cell ⟨b11, 1, none⟩ (vI p7.lo), .cell ⟨b11, 2, none⟩ (vI p7.hi)] [] hf87 (by kernel_rfl) (.cell (hS39.box (i := 4) rfl (j := 0) rfl) (.prop ho6 (.prop hb16 (.cell (hS39.cell (hk6 0 _ rfl)) (.cell (hS39.cell (hk6 1 _ rfl)) (.cell (hS39.cell (hk6 2 _ rfl)) (.cell (hS39.box (i := 0) rfl (j := 0) rfl) (.cell (hS39.box (i := 0) rfl (j := 1) rfl) (.cell (hS39.box (i := 0) rfl (j := 2) rfl) .nil))))))))) .nil fun a73 hf88 => ?_
      refine p_yield (d := some 37) (l := l1) (args := #[.agg #[vI p8.x, vI p8.lo, vI p8.hi, vI p7.x, vI p7.lo, vI p7.hi]]) hf88 (by kernel_rfl) hS39 (j := 2) rfl (by rw [hps1]; kernel_rfl) fun a74 hf89 => ?_
      rw [hps1] at hf89
      refine cw_eq hA1 ?_
      refine w_reg (by kernel_rfl) ?_
      refine p_box (i := 0) (d := (some 7)) (cs := [vI 0, vI 0, vI 0, vI 0, vI 0, vI 0]) (T := 127) (v := fun b12 => pB b12 0) hS39 hf89 (fun b => by kernel_rfl) fun b12 ww32 a75 hS40 hf90 => ⟨fun _ => trivial, ?_⟩
      refine p_store_eq (i := 1) (j := 0) (b := b12) (off := 0) (vs := [vI p8.x, vI p8.lo, vI p8.hi, vI p7.x, vI p7.lo, vI p7.hi]) (cs' := [vI p8.x, vI p8.lo, vI p8.hi, vI p7.x, vI p7.lo, vI p7.hi]) hS40 hf90 rfl (by kernel_rfl) (by kernel_rfl) rfl fun ww33 a76 hS41 hf91 => ⟨fun _ => trivial, ?_⟩
      refine p_dt (by kernel_rfl) ?_
      refine p_begin hS41 (j := 3) rfl fun ww34 hS42 => ?_
      refine cw_eq hB1 ?_
      refine w_block (id := 1) (by kernel_rfl) ?_
      refine w_sq [vI p8.x, vI y16] [(3, pB b4 0), (5, pB b5 0), (6, pB b6 0), (7, pB b12 0), (8, vI (if (w64 (y16 + (1 : Int))) > p8.x then (w64 (y16 + (1 : Int))) else p8.x))] [.cell ⟨b12, 0, none⟩ (vI p8.x), .cell ⟨b6, 0, none⟩ (vI y16)] hf91 (by kernel_rfl) (.cell (hS42.box (i := 0) rfl (j := 0) rfl) (.cell (hS42.box (i := 6) rfl (j := 0) rfl) .nil)) fun a77 hf92 => ?_
      refine w_block (id := 2) (by kernel_rfl) ?_
      have hf93 := Fr.keep (ks := [3, 5, 6, 7, 8]) (r := [(3, pB b4 0), (5, pB b5 0), (6, pB b6 0), (7, pB b12 0), (8, vI (if (w64 (y16 + (1 : Int))) > p8.x then (w64 (y16 + (1 : Int))) else p8.x))]) hf92 (by kernel_rfl)
      refine w_loop (by kernel_rfl) (fun n a w => ∃ z9 : Zone, ∃ y10 : List Rng, ∃ y14 : Int, ∃ y8 : Int, ∃ e7 : Option Addr, ∃ q7 : Nat, Zone.le z8 z9 ∧ Fr a 60 [(3, pB b4 0), (5, pB b5 0), (6, pB b6 0), (7, pB b12 0), (8, vI y8)] ∧ St z9 (box b12 [vI p8.x, vI p8.lo, vI p8.hi, vI p7.x, vI p7.lo, vI p7.hi] 127 :: box b11 [vI p7.x, vI p7.lo, vI p7.hi] 52 :: ownS RngT 41 e7 q7 y10 :: loopA l1 60 [(3, pB b4 0), (5, pB b5 0), (6, pB b6 0), (11, .func (.func 130) #[] #[pB b7 0])] ps1 A1 B1 D1 .busy none :: defA D1 :: box b7 [.slice o_x0 x0.length c_x0] 24 :: box b6 [vI y14] 3 :: box b5 [.slice e7 y10.length q7] 45 :: box b4 [.func (.func 94) #[] #[pB b2 0]] 61 :: box b3 [.slice o_x0 x0.length c_x0] 24 :: box b2 [vI x1_lo, vI x1_hi] 41 :: box b1 [.slice o_x0 x0.length c_x0] 24 :: L) w ∧ (F21_l3 fuel (F21_l2 fuel x0 x1_lo x1_hi d5 n3) x1_lo x1_hi y13 p7 p8 n y10 y14 y8) = some r) fuel ⟨z8, y15, y16, (if (w64 (y16 + (1 : Int))) > p8.x then (w64 (y16 + (1 : Int))) else p8.x), e6, q6, (Zone.le_refl _), hf93, hS42, hr34⟩ ?_
      rintro n6 a78 ww35 ⟨z9, y10, y14, y8, e7, q7, k11, hf94, hS43, hr35⟩
      cases n6 with
      | zero => cases hr35
      | succ n2 =>
      refine w_seq (by kernel_rfl) ?_
      refine w_sq [vI p7.x] [(3, pB b4 0), (5, pB b5 0), (6, pB b6 0), (7, pB b12 0), (8, vI y8), (23, .bool (decide (y8 ≤ p7.x)))] [.cell ⟨b12, 3, none⟩ (vI p7.x)] hf94 (by kernel_rfl) (.cell (hS43.box (i := 0) rfl (j := 3) rfl) .nil) fun a79 hf95 => ?_
      refine w_if hf95 (b := (decide (y8 ≤ p7.x))) (by kernel_rfl) (fun hb17 => ?_) (fun hb17 => ?_)
      ·have hr36 := cond_t hb17 hr35
       refine w_skip (by kernel_rfl) ?_
       refine n_then ?_
       refine w_mid (by kernel_rfl) (fun a w => ∃ z10 : Zone, ∃ y9 : List Rng, ∃ e8 : Option Addr, ∃ q8 : Nat, Zone.le z9 z10 ∧ Fr a 60 [(3, pB b4 0), (5, pB b5 0), (6, pB b6 0), (7, pB b12 0), (8, vI y8)] ∧ St z10 (box b12 [vI p8.x, vI p8.lo, vI p8.hi, vI p7.x, vI p7.lo, vI p7.hi] 127 :: box b11 [vI p7.x, vI p7.lo, vI p7.hi] 52 :: ownS RngT 41 e8 q8 y9 :: loopA l1 60 [(3, pB b4 0), (5, pB b5 0), (6, pB b6 0), (11, .func (.func 130) #[] #[pB b7 0])] ps1 A1 B1 D1 .busy none :: defA D1 :: box b7 [.slice o_x0 x0.length c_x0] 24 :: box b6 [vI y8] 3 :: box b5 [.slice e8 y9.length q8] 45 :: box b4 [.func (.func 94) #[] #[pB b2 0]] 61 :: box b3 [.slice o_x0 x0.length c_x0] 24 :: box b2 [vI x1_lo, vI x1_hi] 41 :: box b1 [.slice o_x0 x0.length c_x0] 24 :: L) w ∧ (F21_j5 (F21_l3 fuel (F21_l2 fuel x0 x1_lo x1_hi d5 n3) x1_lo x1_hi y13 p7 p8 n2) y8 y9) = some r) ?_ ?_
       ·skip
        refine w_block (id := 3) (by kernel_rfl) ?_
        refine w_sr (by kernel_rfl) ?_
        refine p_qn 1 [] [(3, pB b4 0), (5, pB b5 0), (6, pB b6 0), (7, pB b12 0), (8, vI y8), (26, vI y8)] [] hf95 (by kernel_rfl) .nil fun a80 hf96 => ?_
        refine p_store_eq (i := 1) (j := 6) (b := b6) (off := 0) (vs := [vI y8]) (cs' := [vI y8]) hS43 hf96 rfl (by kernel_rfl) (by kernel_rfl) rfl fun ww36 a81 hS44 hf97 => ⟨fun _ => trivial, ?_⟩
        refine p_dt (by kernel_rfl) ?_
        refine w_seq (by kernel_rfl) ?_
        refine w_seq (by kernel_rfl) ?_
        have hS45 := hS44.drew
        have s3 : Sub z9 (box b12 [vI p8.x, vI p8.lo, vI p8.hi, vI p7.x, vI p7.lo, vI p7.hi] 127 :: box b11 [vI p7.x, vI p7.lo, vI p7.hi] 52 :: ownS RngT 41 e7 q7 y10 :: loopA l1 60 [(3, pB b4 0), (5, pB b5 0), (6, pB b6 0), (11, .func (.func 130) #[] #[pB b7 0])] ps1 A1 B1 D1 .busy none :: defA D1 :: box b7 [.slice o_x0 x0.length c_x0] 24 :: box b6 [vI y8] 3 :: box b5 [.slice e7 y10.length q7] 45 :: box b4 [.func (.func 94) #[] #[pB b2 0]] 61 :: box b3 [.slice o_x0 x0.length c_x0] 24 :: box b2 [vI x1_lo, vI x1_hi] 41 :: box b1 [.slice o_x0 x0.length c_x0] 24 :: L) _ := Sub.of (Zone.le_refl _) hS45
        refine w_regD (by kernel_rfl) [(0, true), (1, true), (2, true), (3, false), (4, false), (5, true)] [4] (Sub z9 (box b12 [vI p8.x, vI p8.lo, vI p8.hi, vI p7.x, vI p7.lo, vI p7.hi] 127 :: box b11 [vI p7.x, vI p7.lo, vI p7.hi] 52 :: ownS RngT 41 e7 q7 y10 :: loopA l1 60 [(3, pB b4 0), (5, pB b5 0), (6, pB b6 0), (11, .func (.func 130) #[] #[pB b7 0])] ps1 A1 B1 D1 .busy none :: defA D1 :: box b7 [.slice o_x0 x0.length c_x0] 24 :: box b6 [vI y8] 3 :: box b5 [.slice e7 y10.length q7] 45 :: box b4 [.func (.func 94) #[] #[pB b2 0]] 61 :: box b3 [.slice o_x0 x0.length c_x0] 24 :: box b2 [vI x1_lo, vI x1_hi] 41 :: box b1 [.slice o_x0 x0.length c_x0] 24 :: L)) (by kernel_rfl) s3 ?_
        refine p_qS 3 [.func (.func 94) #[] #[pB b2 0], vI p8.x, vI p8.lo, vI p8.hi, vI p7.x, vI p7.lo, vI p7.hi] [(3, pB b4 0), (5, pB b5 0), (6, pB b6 0), (7, pB b12 0), (8, vI y8), (27, .func (.func 94) #[] #[pB b2 0]), (28, .agg #[vI p8.x, vI p8.lo, vI p8.hi, vI p7.x, vI p7.lo, vI p7.hi]), (29, vI y8)] [.cell ⟨b4, 0, none⟩ (.func (.func 94) #[] #[pB b2 0]), .cell ⟨b12, 0, none⟩ (vI p8.x), .cell ⟨b12, 1, none⟩ (vI p8.lo), .cell ⟨b12, 2, none⟩ (vI p8.hi), .cell ⟨b12, 3, none⟩ (vI p7.x), .cell ⟨b12, 4, none⟩ (vI p7.lo), .cell ⟨b12, 5, none⟩ (vI p7.hi)] [] s3 hf97 (by kernel_rfl) (fun _ s => (.cell (s.box (i := 8) rfl (j := 0) rfl) (.cell (s.box (i := 0) rfl (j := 0) rfl) (.cell (s.box (i := 0) rfl (j := 1) rfl) (.cell (s.box (i := 0) rfl (j := 2) rfl) (.cell (s.box (i := 0) rfl (j := 3) rfl) (.cell (s.box (i := 0) rfl (j := 4) rfl) (.cell (s.box (i := 0) rfl (j := 5) rfl) .nil)))))))) .nil fun a82 hf98 => ?_
        obtain ⟨r2, hd7, hr37⟩ := bind_some hr36
        refine p_call (i := 3) (d := some 30) (f := 121) (args := #[.agg #[vI p8.x, vI p8.lo, vI p8.hi, vI p7.x, vI p7.lo, vI p7.hi], vI y8]) hf98 (by kernel_rfl) (f121_ok fuel p8.x p8.lo p8.hi p7.x p7.lo p7.hi y8 r2 hd7 z9 _ _ hS45 ) ?_
        rintro v4 ww37 a83 ⟨rfl, hS46⟩ hf99
        refine ⟨fun _ => Sub.of (Zone.le_refl _) hS46, ?_⟩
        have s4 : Sub z9 (box b12 [vI p8.x, vI p8.lo, vI p8.hi, vI p7.x, vI p7.lo, vI p7.hi] 127 :: box b11 [vI p7.x, vI p7.lo, vI p7.hi] 52 :: ownS RngT 41 e7 q7 y10 :: loopA l1 60 [(3, pB b4 0), (5, pB b5 0), (6, pB b6 0), (11, .func (.func 130) #[] #[pB b7 0])] ps1 A1 B1 D1 .busy none :: defA D1 :: box b7 [.slice o_x0 x0.length c_x0] 24 :: box b6 [vI y8] 3 :: box b5 [.slice e7 y10.length q7] 45 :: box b4 [.func (.func 94) #[] #[pB b2 0]] 61 :: box b3 [.slice o_x0 x0.length c_x0] 24 :: box b2 [vI x1_lo, vI x1_hi] 41 :: box b1 [.slice o_x0 x0.length c_x0] 24 :: L) _ := Sub.of (Zone.le_refl _) hS46
        refine p_inl (i := 4) (d := some 31) (f := 94) (args := #[.agg #[vI r2.1, vI r2.2], pB b2 0]) (N' := 16) hf99 (by kernel_rfl) Try.func94 (by kernel_rfl) fun a84 hf100 => ?_
        refine w_sr (by kernel_rfl) ?_
        refine p_box (i := 0) (d := (some 2)) (cs := [vI r2.1, vI r2.2]) (T := 41) (v := fun b13 => pB b13 0) hS46 hf100 (fun b => by kernel_rfl) fun b13 ww38 a85 hS47 hf101 => ⟨fun _ => trivial, ?_⟩
        refine p_qt [] [(1, pB b2 0), (2, pB b13 0)] [] hf101 (by kernel_rfl) .nil fun a86 hf102 => ?_
        refine w_mid (by kernel_rfl) (fun a w => ∃ z11 : Zone, ∃ y12 : Bool, Zone.le z9 z11 ∧ Fr a 16 [(3, .bool y12)] ∧ St z11 (box b13 [vI r2.1, vI r2.2] 41 :: box b12 [vI p8.x, vI p8.lo, vI p8.hi, vI p7.x, vI p7.lo, vI p7.hi] 127 :: box b11 [vI p7.x, vI p7.lo, vI p7.hi] 52 :: ownS RngT 41 e7 q7 y10 :: loopA l1 60 [(3, pB b4 0), (5, pB b5 0), (6, pB b6 0), (11, .func (.func 130) #[] #[pB b7 0])] ps1 A1 B1 D1 .busy none :: defA D1 :: box b7 [.slice o_x0 x0.length c_x0] 24 :: box b6 [vI y8] 3 :: box b5 [.slice e7 y10.length q7] 45 :: box b4 [.func (.func 94) #[] #[pB b2 0]] 61 :: box b3 [.slice o_x0 x0.length c_x0] 24 :: box b2 [vI x1_lo, vI x1_hi] 41 :: box b1 [.slice o_x0 x0.length c_x0] 24 :: L) w ∧ (F21_j6 (F21_l3 fuel (F21_l2 fuel x0 x1_lo x1_hi d5 n3) x1_lo x1_hi y13 p7 p8 n2) y10 y8 y12) = some r) ?_ ?_
        ·skip
         refine w_reg (by kernel_rfl) ?_
         refine p_qn 6 [vI r2.1, vI x1_hi] [(1, pB b2 0), (2, pB b13 0), (9, .bool (decide (r2.1 ≤ x1_hi)))] [.cell ⟨b13, 0, none⟩ (vI r2.1), .cell ⟨b2, 1, none⟩ (vI x1_hi)] hf102 (by kernel_rfl) (.cell (hS47.box (i := 0) rfl (j := 0) rfl) (.cell (hS47.box (i := 11) rfl (j := 1) rfl) .nil)) fun a87 hf103 => ?_
         rcases Bool.eq_false_or_eq_true (decide (r2.1 ≤ x1_hi)) with hb18 | hb18
         ·have hr38 := cond_t hb18 hr37
          have hf104 := Fr.conv hf103 (congrArg (fun z => ([(1, pB b2 0), (2, pB b13 0), (9, .bool z)] : FL)) hb18)
          refine p_qt [vI x1_lo, vI r2.2] [(3, .bool (decide (x1_lo ≤ r2.2)))] [.cell ⟨b2, 0, none⟩ (vI x1_lo), .cell ⟨b13, 1, none⟩ (vI r2.2)] hf104 (by kernel_rfl) (.cell (hS47.box (i := 11) rfl (j := 0) rfl) (.cell (hS47.box (i := 0) rfl (j := 1) rfl) .nil)) fun a88 hf105 => ?_
          have hf106 := Fr.keep (ks := [3]) (r := [(3, .bool (decide (x1_lo ≤ r2.2)))]) hf105 (by kernel_rfl)
          exact ⟨z9, (decide (x1_lo ≤ r2.2)), (Zone.le_refl _), hf106, hS47, hr38⟩
         ·have hr39 := cond_f hb18 hr37
          have hf107 := Fr.conv hf103 (congrArg (fun z => ([(1, pB b2 0), (2, pB b13 0), (9, .bool z)] : FL)) hb18)
          refine p_qt [] [(3, .bool false)] [] hf107 (by kernel_rfl) .nil fun a89 hf108 => ?_
          have hf109 := Fr.keep (ks := [3]) (r := [(3, .bool false)]) hf108 (by kernel_rfl)
          exact ⟨z9, false, (Zone.le_refl _), hf109, hS47, hr39⟩
        ·rintro a90 ww39 ⟨z11, y12, k12, hf110, hS48, hr40⟩
         refine w_ret (by kernel_rfl) ?_
         refine p_ret (os := []) (v := .bool y12) (obs := []) hf110 (by kernel_rfl) .nil ?_
         refine ⟨_, rfl, fun a91 hf111 => ?_⟩
         have hS49 := St.drop 1 hS48
         refine ⟨fun e => absurd e (by decide), ?_⟩
         refine p_qP 1 [] [(3, pB b4 0), (5, pB b5 0), (6, pB b6 0), (7, pB b12 0), (8, vI y8), (32, .bool (!y12))] [] hf111 (by kernel_rfl) (fun _ => .nil) fun a92 hf112 => ?_
         refine p_dt (by kernel_rfl) ?_
         refine w_if hf112 (b := (!y12)) (by kernel_rfl) (fun hb19 => ?_) (fun hb19 => ?_)
         ·have hr41 := cond_t hb19 hr40
          refine w_exit (id := 3) (by kernel_rfl) ?_
          refine x_then ?_
          refine x_block ?_
          refine n_then ?_
          have hf113 := Fr.keep (ks := [3, 5, 6, 7, 8]) (r := [(3, pB b4 0), (5, pB b5 0), (6, pB b6 0), (7, pB b12 0), (8, vI y8)]) hf112 (by kernel_rfl)
          exact ⟨z11, y10, e7, q7, k12, hf113, hS49, hr41⟩
         ·have hr42 := cond_f hb19 hr40
          refine w_skip (by kernel_rfl) ?_
          refine n_then ?_
          refine w_sq [.slice e7 y10.length q7] [(3, pB b4 0), (5, pB b5 0), (6, pB b6 0), (7, pB b12 0), (8, vI y8), (9, vI (w64 ((y10.length : Int) - (1 : Int))))] [.cell ⟨b5, 0, none⟩ (.slice e7 y10.length q7)] hf112 (by kernel_rfl) (.cell (hS49.box (i := 7) rfl (j := 0) rfl) .nil) fun a93 hf114 => ?_
          refine w_mid (by kernel_rfl) (fun a w => ∃ z12 : Zone, ∃ y11 : Bool, Zone.le z11 z12 ∧ Fr a 60 [(3, pB b4 0), (5, pB b5 0), (6, pB b6 0), (7, pB b12 0), (8, vI y8), (9, vI (w64 ((y10.length : Int) - (1 : Int)))), (47, .bool y11)] ∧ St z12 (box b12 [vI p8.x, vI p8.lo, vI p8.hi, vI p7.x, vI p7.lo, vI p7.hi] 127 :: box b11 [vI p7.x, vI p7.lo, vI p7.hi] 52 :: ownS RngT 41 e7 q7 y10 :: loopA l1 60 [(3, pB b4 0), (5, pB b5 0), (6, pB b6 0), (11, .func (.func 130) #[] #[pB b7 0])] ps1 A1 B1 D1 .busy none :: defA D1 :: box b7 [.slice o_x0 x0.length c_x0] 24 :: box b6 [vI y8] 3 :: box b5 [.slice e7 y10.length q7] 45 :: box b4 [.func (.func 94) #[] #[pB b2 0]] 61 :: box b3 [.slice o_x0 x0.length c_x0] 24 :: box b2 [vI x1_lo, vI x1_hi] 41 :: box b1 [.slice o_x0 x0.length c_x0] 24 :: L) w ∧ (F21_j7 (F21_l3 fuel (F21_l2 fuel x0 x1_lo x1_hi d5 n3) x1_lo x1_hi y13 p7 p8 n2) y10 y8 y11) = some r) ?_ ?_
          ·skip
           refine w_reg (by kernel_rfl) ?_
           refine p_qn 3 [] [(3, pB b4 0), (5, pB b5 0), (6, pB b6 0), (7, pB b12 0), (8, vI y8), (9, vI (w64 ((y10.length : Int) - (1 : Int)))), (38, .bool (decide ((w64 ((y10.length : Int) - (1 : Int))) ≥ (0 : Int))))] [] hf114 (by kernel_rfl) .nil fun a94 hf115 => ?_
           rcases Bool.eq_false_or_eq_true (decide ((w64 ((y10.length : Int) - (1 : Int))) ≥ (0 : Int))) with hb20 | hb20
           ·have hr43 := cond_t hb20 hr42
            have hf116 := Fr.conv hf115 (congrArg (fun z => ([(3, pB b4 0), (5, pB b5 0), (6, pB b6 0), (7, pB b12 0), (8, vI y8), (9, vI (w64 ((y10.length : Int) - (1 : Int)))), (38, .bool z)] : FL)) hb20)
            obtain ⟨p6, hp63179, hr44⟩ := bind_some hr43
            obtain ⟨ad7, ho7, hb21, cc7, hc7, hk7⟩ := hS49.ownGet (j := 2) rfl hp63179
            subst hc7
            refine p_qt [.slice e7 y10.length q7, .pointer (some ad7), vI p6.hi] [(3, pB b4 0), (5, pB b5 0), (6, pB b6 0), (7, pB b12 0), (8, vI y8), (9, vI (w64 ((y10.length : Int) - (1 : Int)))), (39, .slice e7 y10.length q7), (40, vI (w64 ((y10.length : Int) - (1 : Int)))), (41, .pointer (some (ad7.add (Int.toNat (w64 ((y10.length : Int) - (1 : Int))) * 2)))), (42, .pointer (some ((ad7.add (Int.toNat (w64 ((y10.length : Int) - (1 : Int))) * 2)).add 1))), (43, vI p6.hi), (44, vI y8), (45, vI (w64 (y8 - (1 : Int)))), (46, .bool (p6.hi == (w64 (y8 - (1 : Int))))), (47, .bool (p6.hi == (w64 (y8 - (1 : Int)))))] [.cell ⟨b5, 0, none⟩ (.slice e7 y10.length q7), .prop (e7 = some ad7), .prop (0 ≤ (w64 ((y10.length : Int) - (1 : Int))) ∧ (w64 ((y10.length : Int) - (1 : Int))) < (y10.length : Nat)), .cell ((ad7.add (Int.toNat (w64 ((y10.length : Int) - (1 : Int))) * 2)).add 1) (vI p6.hi)] hf116 (by kernel_rfl) (.cell (hS49.box (i := 7) rfl (j := 0) rfl) (.prop ho7 (.prop hb21 (.cell (hk7 1 _ rfl) .nil)))) fun a95 hf117 => ?_
            have hf118 := Fr.keep (ks := [3, 5, 6, 7, 8, 9, 47]) (r := [(3, pB b4 0), (5, pB b5 0), (6, pB b6 0), (7, pB b12 0), (8, vI y8), (9, vI (w64 ((y10.length : Int) - (1 : Int)))), (47, .bool (p6.hi == (w64 (y8 - (1 : Int)))))]) hf117 (by kernel_rfl)
            exact ⟨z11, (p6.hi == (w64 (y8 - (1 : Int)))), (Zone.le_refl _), hf118, hS49, hr44⟩
           ·have hr45 := cond_f hb20 hr42
            have hf119 := Fr.conv hf115 (congrArg (fun z => ([(3, pB b4 0), (5, pB b5 0), (6, pB b6 0), (7, pB b12 0), (8, vI y8), (9, vI (w64 ((y10.length : Int) - (1 : Int)))), (38, .bool z)] : FL)) hb20)
            refine p_qt [] [(3, pB b4 0), (5, pB b5 0), (6, pB b6 0), (7, pB b12 0), (8, vI y8), (9, vI (w64 ((y10.length : Int) - (1 : Int)))), (39, undef), (40, undef), (41, undef), (42, undef), (43, undef), (44, undef), (45, undef), (46, undef), (47, .bool false)] [] hf119 (by kernel_rfl) .nil fun a96 hf120 => ?_
            have hf121 := Fr.keep (ks := [3, 5, 6, 7, 8, 9, 47]) (r := [(3, pB b4 0), (5, pB b5 0), (6, pB b6 0), (7, pB b12 0), (8, vI y8), (9, vI (w64 ((y10.length : Int) - (1 : Int)))), (47, .bool false)]) hf120 (by kernel_rfl)
            exact ⟨z11, false, (Zone.le_refl _), hf121, hS49, hr45⟩
          ·rintro a97 ww40 ⟨z12, y11, k13, hf122, hS50, hr46⟩
           refine w_if hf122 (b := y11) (by kernel_rfl) (fun hb22 => ?_) (fun hb22 => ?_)
           ·have hr47 := cond_t hb22 hr46
            refine w_reg (by kernel_rfl) ?_
            obtain ⟨p5, hp63199, hr48⟩ := bind_some hr47
            obtain ⟨ad8, ho8, hb23, cc8, hc8, hk8⟩ := hS50.ownGet (j := 2) rfl hp63199
            subst hc8
            refine p_qn 5 [.slice e7 y10.length q7, .pointer (some ad8)] [(3, pB b4 0), (5, pB b5 0), (6, pB b6 0), (7, pB b12 0), (8, vI y8), (50, vI y8), (52, .pointer (some ((ad8.add (Int.toNat (w64 ((y10.length : Int) - (1 : Int))) * 2)).add 1)))] [.cell ⟨b5, 0, none⟩ (.slice e7 y10.length q7), .prop (e7 = some ad8), .prop (0 ≤ (w64 ((y10.length : Int) - (1 : Int))) ∧ (w64 ((y10.length : Int) - (1 : Int))) < (y10.length : Nat))] hf122 (by kernel_rfl) (.cell (hS50.box (i := 7) rfl (j := 0) rfl) (.prop ho8 (.prop hb23 .nil))) fun a98 hf123 => ?_
            obtain ⟨d3, hd8, hr49⟩ := bind_some hr48
            have hl2 := setI_len hd8
            refine p_setOwn (i := 5) (j := 2) (ad := ad8) (ix := (w64 ((y10.length : Int) - (1 : Int)))) (off := 1) (vs := [vI y8]) (x' := ({ p5 with hi := y8 })) hS50 hf123 rfl ho8 hp63199 (by kernel_rfl) (by kernel_rfl) rfl hd8 fun ww41 a99 hS51 hf124 => ?_
            have hS52 := St.convL (L' := box b12 [vI p8.x, vI p8.lo, vI p8.hi, vI p7.x, vI p7.lo, vI p7.hi] 127 :: box b11 [vI p7.x, vI p7.lo, vI p7.hi] 52 :: ownS RngT 41 e7 q7 d3 :: loopA l1 60 [(3, pB b4 0), (5, pB b5 0), (6, pB b6 0), (11, .func (.func 130) #[] #[pB b7 0])] ps1 A1 B1 D1 .busy none :: defA D1 :: box b7 [.slice o_x0 x0.length c_x0] 24 :: box b6 [vI y8] 3 :: box b5 [.slice e7 d3.length q7] 45 :: box b4 [.func (.func 94) #[] #[pB b2 0]] 61 :: box b3 [.slice o_x0 x0.length c_x0] 24 :: box b2 [vI x1_lo, vI x1_hi] 41 :: box b1 [.slice o_x0 x0.length c_x0] 24 :: L) hS51 (by rw [hl2] <;> rfl)
            refine ⟨fun _ => trivial, ?_⟩
            refine p_done (by kernel_rfl) ?_
            refine n_block ?_
            refine n_then ?_
            have hf125 := Fr.keep (ks := [3, 5, 6, 7, 8]) (r := [(3, pB b4 0), (5, pB b5 0), (6, pB b6 0), (7, pB b12 0), (8, vI y8)]) hf124 (by kernel_rfl)
            exact ⟨z12, d3, e7, q7, (Zone.le_trans k12 k13), hf125, hS52, hr49⟩
           ·have hr50 := cond_f hb22 hr46
            refine w_reg (by kernel_rfl) ?_
            refine p_qn 4 [.slice e7 y10.length q7] [(3, pB b4 0), (5, pB b5 0), (6, pB b6 0), (7, pB b12 0), (8, vI y8), (53, .slice e7 y10.length q7), (56, .agg #[vI y8, vI y8])] [.cell ⟨b5, 0, none⟩ (.slice e7 y10.length q7)] hf122 (by kernel_rfl) (.cell (hS50.box (i := 7) rfl (j := 0) rfl) .nil) fun a100 hf126 => ?_
            refine p_box (i := 4) (d := (some 57)) (cs := [vI y8, vI y8]) (T := 41) (v := fun b14 => .slice (some ⟨b14, 0, none⟩) 1 1) hS50 hf126 (fun b => by kernel_rfl) fun b14 ww42 a101 hS53 hf127 => ⟨fun _ => trivial, ?_⟩
            have hS54 := hS53.ownBox (T := RngT) (E := 41) (n := 1) (xs := [⟨y8, y8⟩]) (i := 0) rfl (Rows.cons (c := [vI y8, vI y8]) rfl rfl) rfl (by decide)
            obtain ⟨d4, hd9, hr51⟩ := bind_some hr50
            refine p_append (T := RngT) (i := 5) (j := 3) (d := some 58) (o2 := (some ⟨b14, 0, none⟩)) (c2 := 1) (ys := ([⟨y8, y8⟩])) el45 hS54 hf127 rfl (by kernel_rfl) (hS54.ownSrc (j := 0) rfl) hd9 fun e9 q9 ww43 a102 hS55 hf128 => ⟨fun _ => trivial, ?_⟩
            refine p_store_eq (i := 6) (j := 8) (b := b5) (off := 0) (vs := [.slice e9 d4.length q9]) (cs' := [.slice e9 d4.length q9]) hS55 hf128 rfl (by kernel_rfl) (by kernel_rfl) rfl fun ww44 a103 hS56 hf129 => ⟨fun _ => trivial, ?_⟩
            refine p_done (by kernel_rfl) ?_
            refine n_block ?_
            refine n_then ?_
            have hf130 := Fr.keep (ks := [3, 5, 6, 7, 8]) (r := [(3, pB b4 0), (5, pB b5 0), (6, pB b6 0), (7, pB b12 0), (8, vI y8)]) hf129 (by kernel_rfl)
            exact ⟨z12, d4, e9, q9, (Zone.le_trans k12 k13), hf130, (St.drop 1 hS56), hr51⟩
       ·rintro a104 ww45 ⟨z10, y9, e8, q8, k14, hf131, hS57, hr52⟩
        refine w_q [] [(3, pB b4 0), (5, pB b5 0), (6, pB b6 0), (7, pB b12 0), (8, vI (w64 (y8 + (1 : Int))))] [] hf131 (by kernel_rfl) .nil fun a105 hf132 => ?_
        refine n_then ?_
        have hf133 := Fr.keep (ks := [3, 5, 6, 7, 8]) (r := [(3, pB b4 0), (5, pB b5 0), (6, pB b6 0), (7, pB b12 0), (8, vI (w64 (y8 + (1 : Int))))]) hf132 (by kernel_rfl)
        exact ⟨n2, Nat.lt_succ_self n2, z10, y9, y8, (w64 (y8 + (1 : Int))), e8, q8, (Zone.le_trans k11 k14), hf133, hS57, hr52⟩
      ·have hr53 := cond_f hb17 hr35
       refine w_exit (id := 2) (by kernel_rfl) ?_
       refine x_then ?_
       refine x_then ?_
       refine x_block ?_
       refine n_block ?_
       refine p_roundN hS43 (j := 3) rfl fun ww46 a106 hS58 hf134 => ?_
       have hS59 := St.drop 1 hS58
       refine p_qt [] [(0, .func (.yield l1) #[] #[]), (1, pB b7 0), (22, .slice e5 d5.length q5), (23, vI (d5.length : Int)), (24, vI y13), (38, .bool false)] [] hf134 (by kernel_rfl) .nil fun a107 hf135 => ?_
       refine w_if_false hf135 (by kernel_rfl) ?_
       refine w_skip (by kernel_rfl) ?_
       refine n_block ?_
       refine n_then ?_
       refine w_q [] [(0, .func (.yield l1) #[] #[]), (1, pB b7 0), (22, .slice e5 d5.length q5), (23, vI (d5.length : Int)), (24, vI (w64 (y13 + (1 : Int))))] [] hf135 (by kernel_rfl) .nil fun a108 hf136 => ?_
       refine n_then ?_
       have hf137 := Fr.keep (ks := [0, 1, 22, 23, 24]) (r := [(0, .func (.yield l1) #[] #[]), (1, pB b7 0), (22, .slice e5 d5.length q5), (23, vI (d5.length : Int)), (24, vI (w64 (y13 + (1 : Int))))]) hf136 (by kernel_rfl)
       exact ⟨n3, Nat.lt_succ_self n3, z9, y10, y14, (w64 (y13 + (1 : Int))), e7, q7, (Zone.le_trans k10 k11), hf137, (St.drop 1 hS59), hr53⟩
     ·have hr54 := cond_f hb14 hr31
      refine w_exit (id := 0) (by kernel_rfl) ?_
      refine x_then ?_
      refine x_then ?_
      refine x_block ?_
      refine p_fall (os := []) (v := .tuple #[]) (obs := []) hf83 (by kernel_rfl) .nil ?_
      refine ⟨_, rfl, fun a109 hf138 => ?_⟩
      refine p_jump0 hS36 (j := 1) rfl (fun h => by cases h) fun ww47 hS60 => ?_
      refine n_block ?_
      refine n_then ?_
      refine w_sq [.slice e6 y15.length q6] [(4, .slice e6 y15.length q6)] [.cell ⟨b5, 0, none⟩ (.slice e6 y15.length q6)] hf138 (by kernel_rfl) (.cell (hS60.box (i := 5) rfl (j := 0) rfl) .nil) fun a110 hf139 => ?_
      refine w_ret (by kernel_rfl) ?_
      refine p_retM hf139 ?_
      refine p_mark hS60 (j := 2) rfl fun ww48 hS61 => ?_
      refine p_end (os := []) (v := .slice e6 y15.length q6) (obs := []) hf139 (by kernel_rfl) .nil ?_
      exact ⟨_, rfl, z8, y15, e6, q6, k10, rfl, (St.pick 8 [0] hS61 (by kernel_rfl)), hr54⟩
   ·rintro v5 ww49 a111 ⟨z3, y1, e1, q1, k15, rfl, hS62, hr55⟩ hf140
    refine ⟨fun _ => trivial, ?_⟩
    refine p_qt [] [(4, .slice e1 y1.length q1), (5, vI 0)] [] hf140 (by kernel_rfl) .nil fun a112 hf141 => ?_
    refine w_ret (by kernel_rfl) ?_
    obtain ⟨z13, k16, hS63, hx2⟩ := hS62.share (j := 0) rfl
    refine p_ret (os := []) (v := .tuple #[.slice e1 y1.length q1, vI 0]) (obs := []) hf141 (by kernel_rfl) .nil ?_
    obtain rfl := some_eq hr55
    exact ⟨_, rfl, z13, e1, q1, (Zone.le_trans (Zone.le_trans (Zone.le_trans k4 k5) k15) k16), rfl, (St.drop 3 hS63), hx2⟩
def F26_l1 (x0 : List Rng) (x1 : List Rng) : Nat → Int → Option (Bool)
  | 0, _ => none
  | n1 + 1, y1 =>
    let k1 : Int → Option (Bool) := F26_l1 x0 x1 n1
    (cond (decide (y1 < (x0.length : Int))) ((getI x0 y1).bind fun p1 => ((getI x1 y1).bind fun p2 => (cond (!((p1.lo == p2.lo) && ((p1.hi == p2.hi) && true))) (some (false)) (k1 (w64 (y1 + (1 : Int))))))) (some (true)))
def F26 (fuel : Nat) (x0 : List Rng) (x1 : List Rng) : Option (Bool) :=
  (cond ((x0.length : Int) != (x1.length : Int)) (some (false)) (F26_l1 x0 x1 fuel 0))
set_option maxRecDepth 100000 in
theorem f26_ok (fuel : Nat) (x0 : List Rng) (x1 : List Rng) (r : Bool) (hr : F26 fuel x0 x1 = some r) (h : Zone) (L : List Atom) (w : World) (hS : St h L w) (o_x0 : Option Addr) (c_x0 : Nat) (hx_x0 : SliceR RngT h o_x0 c_x0 x0) (o_x1 : Option Addr) (c_x1 : Nat) (hx_x1 : SliceR RngT h o_x1 c_x1 x1) :
    Calls Try.prog 26 #[.slice o_x0 x0.length c_x0, .slice o_x1 x1.length c_x1] w fun e w' => ∃ v, e = .returned v ∧ (∃ h', Zone.le h h' ∧ v = .bool r ∧ St h' L w') := by
 refine calls_intro (N := 26) Try.func26 (by kernel_rfl) fun a hf => ?_
 refine w_sq [] [(0, .slice o_x0 x0.length c_x0), (1, .slice o_x1 x1.length c_x1)] [] hf (by kernel_rfl) .nil fun a1 hf1 => ?_
 refine w_seq (by kernel_rfl) ?_
 refine w_sq [] [(0, .slice o_x0 x0.length c_x0), (1, .slice o_x1 x1.length c_x1), (10, .bool ((x0.length : Int) != (x1.length : Int)))] [] hf1 (by kernel_rfl) .nil fun a2 hf2 => ?_
 refine w_if hf2 (b := ((x0.length : Int) != (x1.length : Int))) (by kernel_rfl) (fun hb1 => ?_) (fun hb1 => ?_)
 ·have hr1 := cond_t hb1 hr
  refine w_sq [] [(4, .bool false)] [] hf2 (by kernel_rfl) .nil fun a3 hf3 => ?_
  refine w_ret (by kernel_rfl) ?_
  refine r_then ?_
  refine p_ret (os := []) (v := .bool false) (obs := []) hf3 (by kernel_rfl) .nil ?_
  obtain rfl := some_eq hr1
  exact ⟨_, rfl, h, (Zone.le_refl _), rfl, hS⟩
 ·have hr2 := cond_f hb1 hr
  refine w_skip (by kernel_rfl) ?_
  refine n_then ?_
  refine w_seq (by kernel_rfl) ?_
  refine w_sq [] [(0, .slice o_x0 x0.length c_x0), (1, .slice o_x1 x1.length c_x1), (12, vI (x0.length : Int)), (13, vI 0)] [] hf2 (by kernel_rfl) .nil fun a4 hf4 => ?_
  refine w_block (id := 0) (by kernel_rfl) ?_
  have hf5 := Fr.keep (ks := [0, 1, 12, 13]) (r := [(0, .slice o_x0 x0.length c_x0), (1, .slice o_x1 x1.length c_x1), (12, vI (x0.length : Int)), (13, vI 0)]) hf4 (by kernel_rfl)
  refine w_loop (by kernel_rfl) (fun n a w => ∃ z1 : Zone, ∃ y1 : Int, Zone.le h z1 ∧ Fr a 26 [(0, .slice o_x0 x0.length c_x0), (1, .slice o_x1 x1.length c_x1), (12, vI (x0.length : Int)), (13, vI y1)] ∧ St z1 (L) w ∧ (F26_l1 x0 x1 n y1) = some r) fuel ⟨h, 0, (Zone.le_refl _), hf5, hS, hr2⟩ ?_
  rintro n2 a5 ww1 ⟨z1, y1, k2, hf6, hS1, hr3⟩
  cases n2 with
  | zero => cases hr3
  | succ n1 =>
  refine w_sq [] [(0, .slice o_x0 x0.length c_x0), (1, .slice o_x1 x1.length c_x1), (12, vI (x0.length : Int)), (13, vI y1), (14, .bool (decide (y1 < (x0.length : Int))))] [] hf6 (by kernel_rfl) .nil fun a6 hf7 => ?_
  refine w_seq (by kernel_rfl) ?_
  refine w_if hf7 (b := (decide (y1 < (x0.length : Int)))) (by kernel_rfl) (fun hb2 => ?_) (fun hb2 => ?_)
  ·have hr4 := cond_t hb2 hr3
   refine w_skip (by kernel_rfl) ?_
   refine n_then ?_
   refine w_seq (by kernel_rfl) ?_
   refine w_block (id := 1) (by kernel_rfl) ?_
   refine w_sq [] [(0, .slice o_x0 x0.length c_x0), (1, .slice o_x1 x1.length c_x1), (5, vI y1), (12, vI (x0.length : Int)), (13, vI y1)] [] hf7 (by kernel_rfl) .nil fun a7 hf8 => ?_
   have hS2 := hS1.drew
   obtain ⟨p1, hp552, hr5⟩ := bind_some hr4
   obtain ⟨ad1, ho1, hb3, cc1, hc1, hk1⟩ := SliceR.getI (SliceR.mono k2 hx_x0) hp552
   subst hc1
   obtain ⟨p2, hp561, hr6⟩ := bind_some hr5
   obtain ⟨ad2, ho2, hb4, cc2, hc2, hk2⟩ := SliceR.getI (SliceR.mono k2 hx_x1) hp561
   subst hc2
   refine w_sqD [(0, true), (1, true), (2, true), (3, true), (4, true), (5, true), (6, true), (7, true), (8, true)] [] [.pointer (some ad1), vI p1.lo, vI p1.hi, .pointer (some ad2), vI p2.lo, vI p2.hi] [(0, .slice o_x0 x0.length c_x0), (1, .slice o_x1 x1.length c_x1), (12, vI (x0.length : Int)), (13, vI y1), (24, .bool (!((p1.lo == p2.lo) && ((p1.hi == p2.hi) && true))))] [.prop (o_x0 = some ad1), .prop (0 ≤ y1 ∧ y1 < (x0.length : Nat)), .cell ((ad1.add (Int.toNat y1 * 2)).add 0) (vI p1.lo), .cell ((ad1.add (Int.toNat y1 * 2)).add 1) (vI p1.hi), .prop (o_x1 = some ad2), .prop (0 ≤ y1 ∧ y1 < (x1.length : Nat)), .cell ((ad2.add (Int.toNat y1 * 2)).add 0) (vI p2.lo), .cell ((ad2.add (Int.toNat y1 * 2)).add 1) (vI p2.hi)] [] hf8 (by kernel_rfl) (.prop ho1 (.prop hb3 (.cell (hS2.cell (hk1 0 _ rfl)) (.cell (hS2.cell (hk1 1 _ rfl)) (.prop ho2 (.prop hb4 (.cell (hS2.cell (hk2 0 _ rfl)) (.cell (hS2.cell (hk2 1 _ rfl)) .nil)))))))) .nil fun a8 hf9 => ?_
   refine w_if hf9 (b := (!((p1.lo == p2.lo) && ((p1.hi == p2.hi) && true)))) (by kernel_rfl) (fun hb5 => ?_) (fun hb5 => ?_)
   ·have hr7 := cond_t hb5 hr6
    refine w_sq [] [(4, .bool false)] [] hf9 (by kernel_rfl) .nil fun a9 hf10 => ?_
    refine w_ret (by kernel_rfl) ?_
    refine r_block ?_
    refine r_then ?_
    refine r_then ?_
    refine r_block ?_
    refine r_then ?_
    refine p_ret (os := []) (v := .bool false) (obs := []) hf10 (by kernel_rfl) .nil ?_
    obtain rfl := some_eq hr7
    exact ⟨_, rfl, z1, k2, rfl, hS2⟩
   ·have hr8 := cond_f hb5 hr6
    refine w_skip (by kernel_rfl) ?_
    refine n_block ?_
    refine n_then ?_
    refine w_q [] [(0, .slice o_x0 x0.length c_x0), (1, .slice o_x1 x1.length c_x1), (12, vI (x0.length : Int)), (13, vI (w64 (y1 + (1 : Int))))] [] hf9 (by kernel_rfl) .nil fun a10 hf11 => ?_
    refine n_then ?_
    have hf12 := Fr.keep (ks := [0, 1, 12, 13]) (r := [(0, .slice o_x0 x0.length c_x0), (1, .slice o_x1 x1.length c_x1), (12, vI (x0.length : Int)), (13, vI (w64 (y1 + (1 : Int))))]) hf11 (by kernel_rfl)
    exact ⟨n1, Nat.lt_succ_self n1, z1, (w64 (y1 + (1 : Int))), k2, hf12, hS2, hr8⟩
  ·have hr9 := cond_f hb2 hr3
   refine w_exit (id := 0) (by kernel_rfl) ?_
   refine x_then ?_
   refine x_then ?_
   refine x_block ?_
   refine n_then ?_
   refine w_sq [] [(4, .bool true)] [] hf7 (by kernel_rfl) .nil fun a11 hf13 => ?_
   refine w_ret (by kernel_rfl) ?_
   refine p_ret (os := []) (v := .bool true) (obs := []) hf13 (by kernel_rfl) .nil ?_
   obtain rfl := some_eq hr9
   exact ⟨_, rfl, z1, k2, rfl, hS1⟩
def F106 (fuel : Nat) (x0_lo : Int) (x0_hi : Int) (x1_lo : Int) (x1_hi : Int) : Option (Int) :=
  ((F52 fuel x0_lo x0_hi).bind fun r1 => (cond (r1 != (0 : Int)) (some (r1)) ((F52 fuel x1_lo x1_hi).bind fun r2 => (some (r2)))))
set_option maxRecDepth 100000 in
theorem f106_ok (fuel : Nat) (x0_lo : Int) (x0_hi : Int) (x1_lo : Int) (x1_hi : Int) (r : Int) (hr : F106 fuel x0_lo x0_hi x1_lo x1_hi = some r) (h : Zone) (L : List Atom) (w : World) (hS : St h L w)  :
    Calls Try.prog 106 #[.agg #[vI x0_lo, vI x0_hi], .agg #[vI x1_lo, vI x1_hi]] w fun e w' => ∃ v, e = .returned v ∧ (∃ h', Zone.le h h' ∧ v = vI r ∧ St h' L w') := by
 refine calls_intro (N := 13) Try.func106 (by kernel_rfl) fun a hf => ?_
 refine w_sr (by kernel_rfl) ?_
 refine p_box (i := 0) (d := (some 2)) (cs := [vI x0_lo, vI x0_hi]) (T := 41) (v := fun b1 => pB b1 0) hS hf (fun b => by kernel_rfl) fun b1 ww1 a1 hS1 hf1 => ⟨fun _ => trivial, ?_⟩
 refine p_box (i := 1) (d := (some 3)) (cs := [vI x1_lo, vI x1_hi]) (T := 41) (v := fun b2 => pB b2 0) hS1 hf1 (fun b => by kernel_rfl) fun b2 ww2 a2 hS2 hf2 => ⟨fun _ => trivial, ?_⟩
 refine p_qt [] [(2, pB b1 0), (3, pB b2 0)] [] hf2 (by kernel_rfl) .nil fun a3 hf3 => ?_
 refine w_seq (by kernel_rfl) ?_
 refine w_sr (by kernel_rfl) ?_
 refine p_qn 1 [vI x0_lo, vI x0_hi] [(3, pB b2 0), (6, .agg #[vI x0_lo, vI x0_hi])] [.cell ⟨b1, 0, none⟩ (vI x0_lo), .cell ⟨b1, 1, none⟩ (vI x0_hi)] hf3 (by kernel_rfl) (.cell (hS2.box (i := 1) rfl (j := 0) rfl) (.cell (hS2.box (i := 1) rfl (j := 1) rfl) .nil)) fun a4 hf4 => ?_
 obtain ⟨r1, hd1, hr1⟩ := bind_some hr
 refine p_call (i := 1) (d := some 7) (f := 52) (args := #[.agg #[vI x0_lo, vI x0_hi]]) hf4 (by kernel_rfl) (f52_ok fuel x0_lo x0_hi r1 hd1 h _ _ hS2 ) ?_
 rintro v1 ww3 a5 ⟨z1, k1, rfl, hS3⟩ hf5
 refine ⟨fun _ => trivial, ?_⟩
 refine p_qt [] [(3, pB b2 0), (5, vI r1)] [] hf5 (by kernel_rfl) .nil fun a6 hf6 => ?_
 refine w_sq [] [(3, pB b2 0), (5, vI r1), (9, .bool (r1 != (0 : Int)))] [] hf6 (by kernel_rfl) .nil fun a7 hf7 => ?_
 refine w_if hf7 (b := (r1 != (0 : Int))) (by kernel_rfl) (fun hb1 => ?_) (fun hb1 => ?_)
 ·have hr2 := cond_t hb1 hr1
  refine w_sq [] [(4, vI r1)] [] hf7 (by kernel_rfl) .nil fun a8 hf8 => ?_
  refine w_ret (by kernel_rfl) ?_
  refine r_then ?_
  refine p_ret (os := []) (v := vI r1) (obs := []) hf8 (by kernel_rfl) .nil ?_
  obtain rfl := some_eq hr2
  exact ⟨_, rfl, z1, k1, rfl, (St.drop 2 hS3)⟩
 ·have hr3 := cond_f hb1 hr1
  refine w_skip (by kernel_rfl) ?_
  refine n_then ?_
  refine w_sr (by kernel_rfl) ?_
  refine p_qn 1 [vI x1_lo, vI x1_hi] [(11, .agg #[vI x1_lo, vI x1_hi])] [.cell ⟨b2, 0, none⟩ (vI x1_lo), .cell ⟨b2, 1, none⟩ (vI x1_hi)] hf7 (by kernel_rfl) (.cell (hS3.box (i := 0) rfl (j := 0) rfl) (.cell (hS3.box (i := 0) rfl (j := 1) rfl) .nil)) fun a9 hf9 => ?_
  obtain ⟨r2, hd2, hr4⟩ := bind_some hr3
  refine p_call (i := 1) (d := some 12) (f := 52) (args := #[.agg #[vI x1_lo, vI x1_hi]]) hf9 (by kernel_rfl) (f52_ok fuel x1_lo x1_hi r2 hd2 z1 _ _ hS3 ) ?_
  rintro v2 ww4 a10 ⟨z2, k2, rfl, hS4⟩ hf10
  refine ⟨fun _ => trivial, ?_⟩
  refine p_qt [] [(4, vI r2)] [] hf10 (by kernel_rfl) .nil fun a11 hf11 => ?_
  refine w_ret (by kernel_rfl) ?_
  refine p_ret (os := []) (v := vI r2) (obs := []) hf11 (by kernel_rfl) .nil ?_
  obtain rfl := some_eq hr4
  exact ⟨_, rfl, z2, (Zone.le_trans k1 k2), rfl, (St.drop 2 hS4)⟩
def F39_j1 (y1 : Int) (y2 : Int) (y3 : Int) : Option (Int × Int × Int) :=
  (some (y1, y2, y3))
def F39_j2 (k1 : Int → Int → Bool → Bool → Int → Option (Int × Int × Int)) (y4 : Int) (y5 : Int) (y6 : Int) (y7 : Bool) (y8 : Bool) : Option (Int × Int × Int) :=
  (k1 y5 y6 y7 y8 (w64 (y4 + (1 : Int))))
def F39_j4 (k1 : Int → Int → Bool → Bool → Int → Option (Int × Int × Int)) (p1 : Int) (y9 : Bool) (y4 : Int) (p2 : Int) (y10 : Int) (y11 : Int) (y12 : Bool) : Option (Int × Int × Int) :=
  (F39_j2 k1 y4 (if (w64 (p1 * p2)) < y10 then (w64 (p1 * p2)) else y10) (if (w64 (p1 * p2)) > y11 then (w64 (p1 * p2)) else y11) y12 y9)
def F39_j3 (k1 : Int → Int → Bool → Bool → Int → Option (Int × Int × Int)) (p1 : Int) (y13 : Int) (y14 : Int) (y15 : Bool) (y9 : Bool) (y4 : Int) (p2 : Int) (y16 : Bool) : Option (Int × Int × Int) :=
  (cond y16 (F39_j2 k1 y4 y13 y14 y15 true) (cond (!y15) (F39_j4 k1 p1 y9 y4 p2 (w64 (p1 * p2)) (w64 (p1 * p2)) true) (F39_j4 k1 p1 y9 y4 p2 y13 y14 y15)))
def F39_l2 (k2 : Int → Int → Bool → Bool → Int → Option (Int × Int × Int)) (x1_lo : Int) (x1_hi : Int) (y17 : Int) (p1 : Int) : Nat → Int → Int → Bool → Bool → Int → Option (Int × Int × Int)
  | 0, _, _, _, _, _ => none
  | n1 + 1, y13, y14, y15, y9, y4 =>
    let k1 : Int → Int → Bool → Bool → Int → Option (Int × Int × Int) := F39_l2 k2 x1_lo x1_hi y17 p1 n1
    (cond (decide (y4 < (2 : Int))) ((getI ([(x1_lo : Int), (x1_hi : Int)]) y4).bind fun p2 => (cond (p1 != (0 : Int)) ((nz (if (w64 (0 - p1)) > p1 then (w64 (0 - p1)) else p1)).bind fun _ => (F39_j3 k1 p1 y13 y14 y15 y9 y4 p2 (decide ((if (w64 (0 - p2)) > p2 then (w64 (0 - p2)) else p2) > (w64 (Int.tdiv 1000000000000000 (if (w64 (0 - p1)) > p1 then (w64 (0 - p1)) else p1))))))) (F39_j3 k1 p1 y13 y14 y15 y9 y4 p2 false))) (k2 y13 y14 y15 y9 (w64 (y17 + (1 : Int)))))
def F39_j5 (y18 : Int) (y19 : Int) (y20 : Int) : Option (Int × Int × Int) :=
  (F39_j1 y18 y19 y20)
def F39_j6 (y21 : Int) (y22 : Int) (y23 : Bool) : Option (Int × Int × Int) :=
  (cond y23 (F39_j5 0 0 5) (F39_j5 y21 y22 0))
def F39_l1 (fuel : Nat) (x0_lo : Int) (x0_hi : Int) (x1_lo : Int) (x1_hi : Int) : Nat → Int → Int → Bool → Bool → Int → Option (Int × Int × Int)
  | 0, _, _, _, _, _ => none
  | n2 + 1, y21, y22, y24, y25, y17 =>
    let k2 : Int → Int → Bool → Bool → Int → Option (Int × Int × Int) := F39_l1 fuel x0_lo x0_hi x1_lo x1_hi n2
    (cond (decide (y17 < (2 : Int))) ((getI ([(x0_lo : Int), (x0_hi : Int)]) y17).bind fun p1 => (F39_l2 k2 x1_lo x1_hi y17 p1 fuel y21 y22 y24 y25 0)) (cond y25 (F39_j6 y21 y22 true) ((F52 fuel y21 y22).bind fun r1 => (F39_j6 y21 y22 (r1 != (0 : Int))))))
def F39 (fuel : Nat) (x0_lo : Int) (x0_hi : Int) (x1_lo : Int) (x1_hi : Int) : Option (Int × Int × Int) :=
  ((F106 fuel x0_lo x0_hi x1_lo x1_hi).bind fun r2 => (cond (r2 != (0 : Int)) (F39_j1 0 0 r2) (F39_l1 fuel x0_lo x0_hi x1_lo x1_hi fuel 0 0 false false 0)))
set_option maxRecDepth 100000 in
theorem f39_ok (fuel : Nat) (x0_lo : Int) (x0_hi : Int) (x1_lo : Int) (x1_hi : Int) (r : Int × Int × Int) (hr : F39 fuel x0_lo x0_hi x1_lo x1_hi = some r) (h : Zone) (L : List Atom) (w : World) (hS : St h L w)  :
    Calls Try.prog 39 #[.agg #[vI x0_lo, vI x0_hi], .agg #[vI x1_lo, vI x1_hi]] w fun e w' => ∃ v, e = .returned v ∧ (∃ h', Zone.le h h' ∧ v = .tuple #[.agg #[vI r.1, vI r.2.1], vI r.2.2] ∧ St h' L w') := by
 refine calls_intro (N := 11) Try.func39 (by kernel_rfl) fun a hf => ?_
 refine w_sr (by kernel_rfl) ?_
 refine p_box (i := 0) (d := (some 2)) (cs := [vI x0_lo, vI x0_hi]) (T := 41) (v := fun b1 => pB b1 0) hS hf (fun b => by kernel_rfl) fun b1 ww1 a1 hS1 hf1 => ⟨fun _ => trivial, ?_⟩
 refine p_box (i := 1) (d := (some 3)) (cs := [vI x1_lo, vI x1_hi]) (T := 41) (v := fun b2 => pB b2 0) hS1 hf1 (fun b => by kernel_rfl) fun b2 ww2 a2 hS2 hf2 => ⟨fun _ => trivial, ?_⟩
 refine p_box (i := 2) (d := (some 4)) (cs := [vI 0, vI 0]) (T := 41) (v := fun b3 => pB b3 0) hS2 hf2 (fun b => by kernel_rfl) fun b3 ww3 a3 hS3 hf3 => ⟨fun _ => trivial, ?_⟩
 refine p_qt [] [(2, pB b1 0), (3, pB b2 0), (4, pB b3 0)] [] hf3 (by kernel_rfl) .nil fun a4 hf4 => ?_
 refine w_sr (by kernel_rfl) ?_
 refine p_qn 2 [vI x0_lo, vI x0_hi, vI x1_lo, vI x1_hi] [(4, pB b3 0), (6, .agg #[vI x0_lo, vI x0_hi]), (7, .agg #[vI x1_lo, vI x1_hi])] [.cell ⟨b1, 0, none⟩ (vI x0_lo), .cell ⟨b1, 1, none⟩ (vI x0_hi), .cell ⟨b2, 0, none⟩ (vI x1_lo), .cell ⟨b2, 1, none⟩ (vI x1_hi)] hf4 (by kernel_rfl) (.cell (hS3.box (i := 2) rfl (j := 0) rfl) (.cell (hS3.box (i := 2) rfl (j := 1) rfl) (.cell (hS3.box (i := 1) rfl (j := 0) rfl) (.cell (hS3.box (i := 1) rfl (j := 1) rfl) .nil)))) fun a5 hf5 => ?_
 refine p_call (i := 2) (d := some 8) (f := 101) (args := #[.agg #[vI x0_lo, vI x0_hi], .agg #[vI x1_lo, vI x1_hi], .func (.func 104) #[] #[]]) hf5 (by kernel_rfl) (Φ := fun v w => ∃ z1 : Zone, ∃ y1 : Int, ∃ y2 : Int, ∃ y3 : Int, Zone.le h z1 ∧ v = .tuple #[.agg #[vI y1, vI y2], vI y3] ∧ St z1 (box b3 [vI 0, vI 0] 41 :: box b2 [vI x1_lo, vI x1_hi] 41 :: box b1 [vI x0_lo, vI x0_hi] 41 :: L) w ∧ (F39_j1 y1 y2 y3) = some r) ?_ ?_
 ·refine calls_intro (N := 46) Try.func101 (by kernel_rfl) fun a6 hf6 => ?_
  refine w_sr (by kernel_rfl) ?_
  refine p_box (i := 0) (d := (some 3)) (cs := [vI x0_lo, vI x0_hi]) (T := 41) (v := fun b4 => pB b4 0) hS3 hf6 (fun b => by kernel_rfl) fun b4 ww4 a7 hS4 hf7 => ⟨fun _ => trivial, ?_⟩
  refine p_box (i := 1) (d := (some 4)) (cs := [vI x1_lo, vI x1_hi]) (T := 41) (v := fun b5 => pB b5 0) hS4 hf7 (fun b => by kernel_rfl) fun b5 ww5 a8 hS5 hf8 => ⟨fun _ => trivial, ?_⟩
  refine p_box (i := 2) (d := (some 6)) (cs := [vI 0, vI 0]) (T := 41) (v := fun b6 => pB b6 0) hS5 hf8 (fun b => by kernel_rfl) fun b6 ww6 a9 hS6 hf9 => ⟨fun _ => trivial, ?_⟩
  refine p_qt [] [(2, .func (.func 104) #[] #[]), (3, pB b4 0), (4, pB b5 0), (6, pB b6 0)] [] hf9 (by kernel_rfl) .nil fun a10 hf10 => ?_
  refine w_seq (by kernel_rfl) ?_
  refine w_sr (by kernel_rfl) ?_
  refine p_qn 2 [vI x0_lo, vI x0_hi, vI x1_lo, vI x1_hi] [(2, .func (.func 104) #[] #[]), (3, pB b4 0), (4, pB b5 0), (6, pB b6 0), (14, .agg #[vI x0_lo, vI x0_hi]), (15, .agg #[vI x1_lo, vI x1_hi])] [.cell ⟨b4, 0, none⟩ (vI x0_lo), .cell ⟨b4, 1, none⟩ (vI x0_hi), .cell ⟨b5, 0, none⟩ (vI x1_lo), .cell ⟨b5, 1, none⟩ (vI x1_hi)] hf10 (by kernel_rfl) (.cell (hS6.box (i := 2) rfl (j := 0) rfl) (.cell (hS6.box (i := 2) rfl (j := 1) rfl) (.cell (hS6.box (i := 1) rfl (j := 0) rfl) (.cell (hS6.box (i := 1) rfl (j := 1) rfl) .nil)))) fun a11 hf11 => ?_
  obtain ⟨r2, hd1, hr1⟩ := bind_some hr
  refine p_call (i := 2) (d := some 16) (f := 106) (args := #[.agg #[vI x0_lo, vI x0_hi], .agg #[vI x1_lo, vI x1_hi]]) hf11 (by kernel_rfl) (f106_ok fuel x0_lo x0_hi x1_lo x1_hi r2 hd1 h _ _ hS6 ) ?_
  rintro v1 ww7 a12 ⟨z2, k3, rfl, hS7⟩ hf12
  refine ⟨fun _ => trivial, ?_⟩
  refine p_qt [] [(2, .func (.func 104) #[] #[]), (3, pB b4 0), (4, pB b5 0), (6, pB b6 0), (8, vI r2)] [] hf12 (by kernel_rfl) .nil fun a13 hf13 => ?_
  refine w_sq [] [(2, .func (.func 104) #[] #[]), (3, pB b4 0), (4, pB b5 0), (6, pB b6 0), (8, vI r2), (18, .bool (r2 != (0 : Int)))] [] hf13 (by kernel_rfl) .nil fun a14 hf14 => ?_
  refine w_if hf14 (b := (r2 != (0 : Int))) (by kernel_rfl) (fun hb1 => ?_) (fun hb1 => ?_)
  ·have hr2 := cond_t hb1 hr1
   refine w_sr (by kernel_rfl) ?_
   refine p_qn 2 [] [(6, pB b6 0), (19, .agg #[vI 0, vI 0]), (20, vI r2)] [] hf14 (by kernel_rfl) .nil fun a15 hf15 => ?_
   refine p_store_eq (i := 2) (j := 0) (b := b6) (off := 0) (vs := [vI 0, vI 0]) (cs' := [vI 0, vI 0]) hS7 hf15 rfl (by kernel_rfl) (by kernel_rfl) rfl fun ww8 a16 hS8 hf16 => ⟨fun _ => trivial, ?_⟩
   refine p_qt [] [(6, pB b6 0), (7, vI r2)] [] hf16 (by kernel_rfl) .nil fun a17 hf17 => ?_
   refine w_ret (by kernel_rfl) ?_
   refine r_then ?_
   refine p_ret (os := [vI 0, vI 0]) (v := .tuple #[.agg #[vI 0, vI 0], vI r2]) (obs := [.cell ⟨b6, 0, none⟩ (vI 0), .cell ⟨b6, 1, none⟩ (vI 0)]) hf17 (by kernel_rfl) (.cell (hS8.box (i := 0) rfl (j := 0) rfl) (.cell (hS8.box (i := 0) rfl (j := 1) rfl) .nil)) ?_
   exact ⟨_, rfl, z2, 0, 0, r2, k3, rfl, (St.drop 3 hS8), hr2⟩
  ·have hr3 := cond_f hb1 hr1
   refine w_skip (by kernel_rfl) ?_
   refine n_then ?_
   refine w_sr (by kernel_rfl) ?_
   refine p_box (i := 0) (d := (some 9)) (cs := [vI 0, vI 0, .bool false, .bool false]) (T := 100) (v := fun b7 => pB b7 0) hS7 hf14 (fun b => by kernel_rfl) fun b7 ww9 a18 hS9 hf18 => ⟨fun _ => trivial, ?_⟩
   refine p_dt (by kernel_rfl) ?_
   refine w_seq (by kernel_rfl) ?_
   refine w_sq [vI x0_lo, vI x0_hi] [(2, .func (.func 104) #[] #[]), (4, pB b5 0), (6, pB b6 0), (9, pB b7 0), (25, .agg #[vI x0_lo, vI x0_hi]), (26, vI 0)] [.cell ⟨b4, 0, none⟩ (vI x0_lo), .cell ⟨b4, 1, none⟩ (vI x0_hi)] hf18 (by kernel_rfl) (.cell (hS9.box (i := 3) rfl (j := 0) rfl) (.cell (hS9.box (i := 3) rfl (j := 1) rfl) .nil)) fun a19 hf19 => ?_
   refine w_block (id := 0) (by kernel_rfl) ?_
   have hf20 := Fr.keep (ks := [2, 4, 6, 9, 25, 26]) (r := [(2, .func (.func 104) #[] #[]), (4, pB b5 0), (6, pB b6 0), (9, pB b7 0), (25, .agg #[vI x0_lo, vI x0_hi]), (26, vI 0)]) hf19 (by kernel_rfl)
   refine w_loop (by kernel_rfl) (fun n a w => ∃ z3 : Zone, ∃ y21 : Int, ∃ y22 : Int, ∃ y24 : Bool, ∃ y25 : Bool, ∃ y17 : Int, Zone.le z2 z3 ∧ Fr a 46 [(2, .func (.func 104) #[] #[]), (4, pB b5 0), (6, pB b6 0), (9, pB b7 0), (25, .agg #[vI x0_lo, vI x0_hi]), (26, vI y17)] ∧ St z3 (box b7 [vI y21, vI y22, .bool y24, .bool y25] 100 :: box b6 [vI 0, vI 0] 41 :: box b5 [vI x1_lo, vI x1_hi] 41 :: box b4 [vI x0_lo, vI x0_hi] 41 :: box b3 [vI 0, vI 0] 41 :: box b2 [vI x1_lo, vI x1_hi] 41 :: box b1 [vI x0_lo, vI x0_hi] 41 :: L) w ∧ (F39_l1 fuel x0_lo x0_hi x1_lo x1_hi n y21 y22 y24 y25 y17) = some r) fuel ⟨z2, 0, 0, false, false, 0, (Zone.le_refl _), hf20, hS9, hr3⟩ ?_
   rintro n3 a20 ww10 ⟨z3, y21, y22, y24, y25, y17, k4, hf21, hS10, hr4⟩
   cases n3 with
   | zero => cases hr4
   | succ n2 =>
   refine w_sq [] [(2, .func (.func 104) #[] #[]), (4, pB b5 0), (6, pB b6 0), (9, pB b7 0), (25, .agg #[vI x0_lo, vI x0_hi]), (26, vI y17), (27, .bool (decide (y17 < (2 : Int))))] [] hf21 (by kernel_rfl) .nil fun a21 hf22 => ?_
   refine w_seq (by kernel_rfl) ?_
   refine w_if hf22 (b := (decide (y17 < (2 : Int)))) (by kernel_rfl) (fun hb2 => ?_) (fun hb2 => ?_)
   ·have hr5 := cond_t hb2 hr4
    refine w_skip (by kernel_rfl) ?_
    refine n_then ?_
    refine w_seq (by kernel_rfl) ?_
    refine w_block (id := 1) (by kernel_rfl) ?_
    obtain ⟨p1, hp96206, hr6⟩ := bind_some hr5
    obtain ⟨hb3, hk1⟩ := getI_idx (f := Value.int .i64) (n := 2) rfl hp96206
    refine w_sq [vI p1] [(2, .func (.func 104) #[] #[]), (4, pB b5 0), (6, pB b6 0), (9, pB b7 0), (11, vI p1), (25, .agg #[vI x0_lo, vI x0_hi]), (26, vI y17)] [.prop (0 ≤ y17 ∧ y17 < (2 : Nat)), .prop ((#[vI x0_lo, vI x0_hi] : Array Value)[Int.toNat y17 * 1]? = some (vI p1))] hf22 (by kernel_rfl) (.prop hb3 (.prop hk1 .nil)) fun a22 hf23 => ?_
    refine w_sq [vI x1_lo, vI x1_hi] [(2, .func (.func 104) #[] #[]), (4, pB b5 0), (6, pB b6 0), (9, pB b7 0), (11, vI p1), (25, .agg #[vI x0_lo, vI x0_hi]), (26, vI y17), (33, .agg #[vI x1_lo, vI x1_hi]), (34, vI 0)] [.cell ⟨b5, 0, none⟩ (vI x1_lo), .cell ⟨b5, 1, none⟩ (vI x1_hi)] hf23 (by kernel_rfl) (.cell (hS10.box (i := 2) rfl (j := 0) rfl) (.cell (hS10.box (i := 2) rfl (j := 1) rfl) .nil)) fun a23 hf24 => ?_
    refine w_block (id := 2) (by kernel_rfl) ?_
    have hf25 := Fr.keep (ks := [2, 4, 6, 9, 11, 25, 26, 33, 34]) (r := [(2, .func (.func 104) #[] #[]), (4, pB b5 0), (6, pB b6 0), (9, pB b7 0), (11, vI p1), (25, .agg #[vI x0_lo, vI x0_hi]), (26, vI y17), (33, .agg #[vI x1_lo, vI x1_hi]), (34, vI 0)]) hf24 (by kernel_rfl)
    refine w_loop (by kernel_rfl) (fun n a w => ∃ z4 : Zone, ∃ y13 : Int, ∃ y14 : Int, ∃ y15 : Bool, ∃ y9 : Bool, ∃ y4 : Int, Zone.le z3 z4 ∧ Fr a 46 [(2, .func (.func 104) #[] #[]), (4, pB b5 0), (6, pB b6 0), (9, pB b7 0), (11, vI p1), (25, .agg #[vI x0_lo, vI x0_hi]), (26, vI y17), (33, .agg #[vI x1_lo, vI x1_hi]), (34, vI y4)] ∧ St z4 (box b7 [vI y13, vI y14, .bool y15, .bool y9] 100 :: box b6 [vI 0, vI 0] 41 :: box b5 [vI x1_lo, vI x1_hi] 41 :: box b4 [vI x0_lo, vI x0_hi] 41 :: box b3 [vI 0, vI 0] 41 :: box b2 [vI x1_lo, vI x1_hi] 41 :: box b1 [vI x0_lo, vI x0_hi] 41 :: L) w ∧ (F39_l2 (F39_l1 fuel x0_lo x0_hi x1_lo x1_hi n2) x1_lo x1_hi y17 p1 n y13 y14 y15 y9 y4) = some r) fuel ⟨z3, y21, y22, y24, y25, 0, (Zone.le_refl _), hf25, hS10, hr6⟩ ?_
    rintro n4 a24 ww11 ⟨z4, y13, y14, y15, y9, y4, k5, hf26, hS11, hr7⟩
    cases n4 with
    | zero => cases hr7
    | succ n1 =>
    refine w_sq [] [(2, .func (.func 104) #[] #[]), (4, pB b5 0), (6, pB b6 0), (9, pB b7 0), (11, vI p1), (25, .agg #[vI x0_lo, vI x0_hi]), (26, vI y17), (33, .agg #[vI x1_lo, vI x1_hi]), (34, vI y4), (35, .bool (decide (y4 < (2 : Int))))] [] hf26 (by kernel_rfl) .nil fun a25 hf27 => ?_
    refine w_seq (by kernel_rfl) ?_
    refine w_if hf27 (b := (decide (y4 < (2 : Int)))) (by kernel_rfl) (fun hb4 => ?_) (fun hb4 => ?_)
    ·have hr8 := cond_t hb4 hr7
     refine w_skip (by kernel_rfl) ?_
     refine n_then ?_
     refine w_seq (by kernel_rfl) ?_
     refine w_block (id := 3) (by kernel_rfl) ?_
     obtain ⟨p2, hp98984, hr9⟩ := bind_some hr8
     obtain ⟨hb5, hk2⟩ := getI_idx (f := Value.int .i64) (n := 2) rfl hp98984
     refine w_sq [vI p2] [(2, .func (.func 104) #[] #[]), (4, pB b5 0), (6, pB b6 0), (9, pB b7 0), (11, vI p1), (13, vI p2), (25, .agg #[vI x0_lo, vI x0_hi]), (26, vI y17), (33, .agg #[vI x1_lo, vI x1_hi]), (34, vI y4)] [.prop (0 ≤ y4 ∧ y4 < (2 : Nat)), .prop ((#[vI x1_lo, vI x1_hi] : Array Value)[Int.toNat y4 * 1]? = some (vI p2))] hf27 (by kernel_rfl) (.prop hb5 (.prop hk2 .nil)) fun a26 hf28 => ?_
     refine w_reg (by kernel_rfl) ?_
     refine p_qn 3 [] [(2, .func (.func 104) #[] #[]), (4, pB b5 0), (6, pB b6 0), (9, pB b7 0), (11, vI p1), (25, .agg #[vI x0_lo, vI x0_hi]), (26, vI y17), (33, .agg #[vI x1_lo, vI x1_hi]), (34, vI y4), (37, .func (.func 104) #[] #[]), (38, vI p1), (39, vI p2)] [] hf28 (by kernel_rfl) .nil fun a27 hf29 => ?_
     refine p_call (i := 3) (d := some 40) (f := 104) (args := #[pB b7 0, vI p1, vI p2]) hf29 (by kernel_rfl) (Φ := fun v w => ∃ z5 : Zone, ∃ y5 : Int, ∃ y6 : Int, ∃ y7 : Bool, ∃ y8 : Bool, Zone.le z4 z5 ∧ v = .tuple #[] ∧ St z5 (box b7 [vI y5, vI y6, .bool y7, .bool y8] 100 :: box b6 [vI 0, vI 0] 41 :: box b5 [vI x1_lo, vI x1_hi] 41 :: box b4 [vI x0_lo, vI x0_hi] 41 :: box b3 [vI 0, vI 0] 41 :: box b2 [vI x1_lo, vI x1_hi] 41 :: box b1 [vI x0_lo, vI x0_hi] 41 :: L) w ∧ (F39_j2 (F39_l2 (F39_l1 fuel x0_lo x0_hi x1_lo x1_hi n2) x1_lo x1_hi y17 p1 n1) y4 y5 y6 y7 y8) = some r) ?_ ?_
     ·refine calls_intro (N := 28) Try.func104 (by kernel_rfl) fun a28 hf30 => ?_
      refine w_seq (by kernel_rfl) ?_
      refine w_mid (by kernel_rfl) (fun a w => ∃ z6 : Zone, ∃ y16 : Bool, Zone.le z4 z6 ∧ Fr a 28 [(0, pB b7 0), (1, vI p1), (2, vI p2), (19, .bool y16)] ∧ St z6 (box b7 [vI y13, vI y14, .bool y15, .bool y9] 100 :: box b6 [vI 0, vI 0] 41 :: box b5 [vI x1_lo, vI x1_hi] 41 :: box b4 [vI x0_lo, vI x0_hi] 41 :: box b3 [vI 0, vI 0] 41 :: box b2 [vI x1_lo, vI x1_hi] 41 :: box b1 [vI x0_lo, vI x0_hi] 41 :: L) w ∧ (F39_j3 (F39_l2 (F39_l1 fuel x0_lo x0_hi x1_lo x1_hi n2) x1_lo x1_hi y17 p1 n1) p1 y13 y14 y15 y9 y4 p2 y16) = some r) ?_ ?_
      ·skip
       refine w_reg (by kernel_rfl) ?_
       refine p_qn 3 [] [(0, pB b7 0), (1, vI p1), (2, vI p2), (8, .bool (p1 != (0 : Int)))] [] hf30 (by kernel_rfl) .nil fun a29 hf31 => ?_
       rcases Bool.eq_false_or_eq_true (p1 != (0 : Int)) with hb6 | hb6
       ·have hr10 := cond_t hb6 hr9
        have hf32 := Fr.conv hf31 (congrArg (fun z => ([(0, pB b7 0), (1, vI p1), (2, vI p2), (8, .bool z)] : FL)) hb6)
        obtain ⟨u1, hd2, hr11⟩ := bind_some hr10
        refine p_qt [] [(0, pB b7 0), (1, vI p1), (2, vI p2), (19, .bool (decide ((if (w64 (0 - p2)) > p2 then (w64 (0 - p2)) else p2) > (w64 (Int.tdiv 1000000000000000 (if (w64 (0 - p1)) > p1 then (w64 (0 - p1)) else p1))))))] [.prop ((if (w64 (0 - p1)) > p1 then (w64 (0 - p1)) else p1) ≠ 0)] hf32 (by kernel_rfl) (.prop (nz_spec hd2) .nil) fun a30 hf33 => ?_
        have hf34 := Fr.keep (ks := [0, 1, 2, 19]) (r := [(0, pB b7 0), (1, vI p1), (2, vI p2), (19, .bool (decide ((if (w64 (0 - p2)) > p2 then (w64 (0 - p2)) else p2) > (w64 (Int.tdiv 1000000000000000 (if (w64 (0 - p1)) > p1 then (w64 (0 - p1)) else p1))))))]) hf33 (by kernel_rfl)
        exact ⟨z4, (decide ((if (w64 (0 - p2)) > p2 then (w64 (0 - p2)) else p2) > (w64 (Int.tdiv 1000000000000000 (if (w64 (0 - p1)) > p1 then (w64 (0 - p1)) else p1))))), (Zone.le_refl _), hf34, hS11, hr11⟩
       ·have hr12 := cond_f hb6 hr9
        have hf35 := Fr.conv hf31 (congrArg (fun z => ([(0, pB b7 0), (1, vI p1), (2, vI p2), (8, .bool z)] : FL)) hb6)
        refine p_qt [] [(0, pB b7 0), (1, vI p1), (2, vI p2), (19, .bool false)] [] hf35 (by kernel_rfl) .nil fun a31 hf36 => ?_
        have hf37 := Fr.keep (ks := [0, 1, 2, 19]) (r := [(0, pB b7 0), (1, vI p1), (2, vI p2), (19, .bool false)]) hf36 (by kernel_rfl)
        exact ⟨z4, false, (Zone.le_refl _), hf37, hS11, hr12⟩
      ·rintro a32 ww12 ⟨z6, y16, k6, hf38, hS12, hr13⟩
       refine w_if hf38 (b := y16) (by kernel_rfl) (fun hb7 => ?_) (fun hb7 => ?_)
       ·have hr14 := cond_t hb7 hr13
        refine w_sr (by kernel_rfl) ?_
        refine p_qn 3 [] [(22, pB b7 3)] [] hf38 (by kernel_rfl) .nil fun a33 hf39 => ?_
        refine p_store_eq (i := 3) (j := 0) (b := b7) (off := 3) (vs := [.bool true]) (cs' := [vI y13, vI y14, .bool y15, .bool true]) hS12 hf39 rfl (by kernel_rfl) (by kernel_rfl) rfl fun ww13 a34 hS13 hf40 => ⟨fun _ => trivial, ?_⟩
        refine p_dt (by kernel_rfl) ?_
        refine w_ret (by kernel_rfl) ?_
        refine r_then ?_
        refine p_ret (os := []) (v := .tuple #[]) (obs := []) hf40 (by kernel_rfl) .nil ?_
        exact ⟨_, rfl, z6, y13, y14, y15, true, k6, rfl, hS13, hr14⟩
       ·have hr15 := cond_f hb7 hr13
        refine w_skip (by kernel_rfl) ?_
        refine n_then ?_
        refine w_reg (by kernel_rfl) ?_
        refine p_qn 4 [] [(23, pB b7 0), (26, vI (w64 (p1 * p2)))] [] hf38 (by kernel_rfl) .nil fun a35 hf41 => ?_
        refine p_inl (i := 4) (d := some 27) (f := 89) (args := #[pB b7 0, vI (w64 (p1 * p2))]) (N' := 36) hf41 (by kernel_rfl) Try.func89 (by kernel_rfl) fun a36 hf42 => ?_
        refine w_mid (by kernel_rfl) (fun a w => ∃ z7 : Zone, ∃ y10 : Int, ∃ y11 : Int, ∃ y12 : Bool, Zone.le z6 z7 ∧ Fr a 36 [(0, pB b7 0), (1, vI (w64 (p1 * p2)))] ∧ St z7 (box b7 [vI y10, vI y11, .bool y12, .bool y9] 100 :: box b6 [vI 0, vI 0] 41 :: box b5 [vI x1_lo, vI x1_hi] 41 :: box b4 [vI x0_lo, vI x0_hi] 41 :: box b3 [vI 0, vI 0] 41 :: box b2 [vI x1_lo, vI x1_hi] 41 :: box b1 [vI x0_lo, vI x0_hi] 41 :: L) w ∧ (F39_j4 (F39_l2 (F39_l1 fuel x0_lo x0_hi x1_lo x1_hi n2) x1_lo x1_hi y17 p1 n1) p1 y9 y4 p2 y10 y11 y12) = some r) ?_ ?_
        ·skip
         refine w_sq [.bool y15] [(0, pB b7 0), (1, vI (w64 (p1 * p2))), (8, .bool (!y15))] [.cell ⟨b7, 2, none⟩ (.bool y15)] hf42 (by kernel_rfl) (.cell (hS12.box (i := 0) rfl (j := 2) rfl) .nil) fun a37 hf43 => ?_
         refine w_if hf43 (b := (!y15)) (by kernel_rfl) (fun hb8 => ?_) (fun hb8 => ?_)
         ·have hr16 := cond_t hb8 hr15
          refine w_reg (by kernel_rfl) ?_
          refine p_qn 7 [] [(0, pB b7 0), (1, vI (w64 (p1 * p2))), (10, pB b7 0), (13, .agg #[vI (w64 (p1 * p2)), vI (w64 (p1 * p2))]), (15, pB b7 0)] [] hf43 (by kernel_rfl) .nil fun a38 hf44 => ?_
          refine p_store_eq (i := 7) (j := 0) (b := b7) (off := 0) (vs := [vI (w64 (p1 * p2)), vI (w64 (p1 * p2))]) (cs' := [vI (w64 (p1 * p2)), vI (w64 (p1 * p2)), .bool y15, .bool y9]) hS12 hf44 rfl (by kernel_rfl) (by kernel_rfl) rfl fun ww14 a39 hS14 hf45 => ⟨fun _ => trivial, ?_⟩
          refine p_qn 2 [] [(0, pB b7 0), (1, vI (w64 (p1 * p2))), (17, pB b7 2)] [] hf45 (by kernel_rfl) .nil fun a40 hf46 => ?_
          refine p_store_eq (i := 10) (j := 0) (b := b7) (off := 2) (vs := [.bool true]) (cs' := [vI (w64 (p1 * p2)), vI (w64 (p1 * p2)), .bool true, .bool y9]) hS14 hf46 rfl (by kernel_rfl) (by kernel_rfl) rfl fun ww15 a41 hS15 hf47 => ⟨fun _ => trivial, ?_⟩
          refine p_dt (by kernel_rfl) ?_
          have hf48 := Fr.keep (ks := [0, 1]) (r := [(0, pB b7 0), (1, vI (w64 (p1 * p2)))]) hf47 (by kernel_rfl)
          exact ⟨z6, (w64 (p1 * p2)), (w64 (p1 * p2)), true, (Zone.le_refl _), hf48, hS15, hr16⟩
         ·have hr17 := cond_f hb8 hr15
          refine w_skip (by kernel_rfl) ?_
          refine n_then ?_
          have hf49 := Fr.keep (ks := [0, 1]) (r := [(0, pB b7 0), (1, vI (w64 (p1 * p2)))]) hf43 (by kernel_rfl)
          exact ⟨z6, y13, y14, y15, (Zone.le_refl _), hf49, hS12, hr17⟩
        ·rintro a42 ww16 ⟨z7, y10, y11, y12, k7, hf50, hS16, hr18⟩
         have hS17 := hS16.drew
         refine w_regD (by kernel_rfl) [(0, true), (1, true), (2, true), (3, true), (4, true), (5, true), (6, true), (7, true), (8, true), (9, true), (10, true), (11, true), (12, true), (13, true), (14, true), (15, true), (16, true), (17, true), (18, false)] [18] (fun x => x = ww16.drew) (by kernel_rfl) rfl ?_
         refine p_qE 18 [vI y10, vI y11] [(33, .agg #[vI (if (w64 (p1 * p2)) < y10 then (w64 (p1 * p2)) else y10), vI (if (w64 (p1 * p2)) > y11 then (w64 (p1 * p2)) else y11)]), (35, pB b7 0)] [.cell ⟨b7, 0, none⟩ (vI y10), .cell ⟨b7, 1, none⟩ (vI y11)] [] hf50 (by kernel_rfl) (.cell (hS17.box (i := 0) rfl (j := 0) rfl) (.cell (hS17.box (i := 0) rfl (j := 1) rfl) .nil)) .nil fun a43 hf51 => ?_
         refine p_store_eq (i := 18) (j := 0) (b := b7) (off := 0) (vs := [vI (if (w64 (p1 * p2)) < y10 then (w64 (p1 * p2)) else y10), vI (if (w64 (p1 * p2)) > y11 then (w64 (p1 * p2)) else y11)]) (cs' := [vI (if (w64 (p1 * p2)) < y10 then (w64 (p1 * p2)) else y10), vI (if (w64 (p1 * p2)) > y11 then (w64 (p1 * p2)) else y11), .bool y12, .bool y9]) hS17 hf51 rfl (by kernel_rfl) (by kernel_rfl) rfl fun ww17 a44 hS18 hf52 => ⟨fun e => absurd e (by decide), ?_⟩
         refine p_done (by kernel_rfl) ?_
         refine p_fall (os := []) (v := .tuple #[]) (obs := []) hf52 (by kernel_rfl) .nil ?_
         refine ⟨_, rfl, fun a45 hf53 => ?_⟩
         refine ⟨fun _ => trivial, ?_⟩
         refine p_done (by kernel_rfl) ?_
         refine p_fall (os := []) (v := .tuple #[]) (obs := []) hf53 (by kernel_rfl) .nil ?_
         exact ⟨_, rfl, z7, (if (w64 (p1 * p2)) < y10 then (w64 (p1 * p2)) else y10), (if (w64 (p1 * p2)) > y11 then (w64 (p1 * p2)) else y11), y12, y9, (Zone.le_trans k6 k7), rfl, hS18, hr18⟩
     ·rintro v2 ww18 a46 ⟨z5, y5, y6, y7, y8, k8, rfl, hS19, hr19⟩ hf54
      refine ⟨fun _ => trivial, ?_⟩
      refine p_done (by kernel_rfl) ?_
      refine n_block ?_
      refine n_then ?_
      refine w_q [] [(2, .func (.func 104) #[] #[]), (4, pB b5 0), (6, pB b6 0), (9, pB b7 0), (11, vI p1), (25, .agg #[vI x0_lo, vI x0_hi]), (26, vI y17), (33, .agg #[vI x1_lo, vI x1_hi]), (34, vI (w64 (y4 + (1 : Int))))] [] hf54 (by kernel_rfl) .nil fun a47 hf55 => ?_
      refine n_then ?_
      have hf56 := Fr.keep (ks := [2, 4, 6, 9, 11, 25, 26, 33, 34]) (r := [(2, .func (.func 104) #[] #[]), (4, pB b5 0), (6, pB b6 0), (9, pB b7 0), (11, vI p1), (25, .agg #[vI x0_lo, vI x0_hi]), (26, vI y17), (33, .agg #[vI x1_lo, vI x1_hi]), (34, vI (w64 (y4 + (1 : Int))))]) hf55 (by kernel_rfl)
      exact ⟨n1, Nat.lt_succ_self n1, z5, y5, y6, y7, y8, (w64 (y4 + (1 : Int))), (Zone.le_trans k5 k8), hf56, hS19, hr19⟩
    ·have hr20 := cond_f hb4 hr7
     refine w_exit (id := 2) (by kernel_rfl) ?_
     refine x_then ?_
     refine x_then ?_
     refine x_block ?_
     refine n_block ?_
     refine n_then ?_
     refine w_q [] [(2, .func (.func 104) #[] #[]), (4, pB b5 0), (6, pB b6 0), (9, pB b7 0), (25, .agg #[vI x0_lo, vI x0_hi]), (26, vI (w64 (y17 + (1 : Int))))] [] hf27 (by kernel_rfl) .nil fun a48 hf57 => ?_
     refine n_then ?_
     have hf58 := Fr.keep (ks := [2, 4, 6, 9, 25, 26]) (r := [(2, .func (.func 104) #[] #[]), (4, pB b5 0), (6, pB b6 0), (9, pB b7 0), (25, .agg #[vI x0_lo, vI x0_hi]), (26, vI (w64 (y17 + (1 : Int))))]) hf57 (by kernel_rfl)
     exact ⟨n2, Nat.lt_succ_self n2, z4, y13, y14, y15, y9, (w64 (y17 + (1 : Int))), (Zone.le_trans k4 k5), hf58, hS11, hr20⟩
   ·have hr21 := cond_f hb2 hr4
    refine w_exit (id := 0) (by kernel_rfl) ?_
    refine x_then ?_
    refine x_then ?_
    refine x_block ?_
    refine n_then ?_
    refine w_sr (by kernel_rfl) ?_
    refine p_call (i := 0) (d := some 43) (f := 105) (args := #[pB b7 0]) hf22 (by kernel_rfl) (Φ := fun v w => ∃ z8 : Zone, ∃ y18 : Int, ∃ y19 : Int, ∃ y20 : Int, Zone.le z3 z8 ∧ v = .tuple #[.agg #[vI y18, vI y19], vI y20] ∧ St z8 (box b7 [vI y21, vI y22, .bool y24, .bool y25] 100 :: box b6 [vI 0, vI 0] 41 :: box b5 [vI x1_lo, vI x1_hi] 41 :: box b4 [vI x0_lo, vI x0_hi] 41 :: box b3 [vI 0, vI 0] 41 :: box b2 [vI x1_lo, vI x1_hi] 41 :: box b1 [vI x0_lo, vI x0_hi] 41 :: L) w ∧ (F39_j5 y18 y19 y20) = some r) ?_ ?_
    ·refine calls_intro (N := 21) Try.func105 (by kernel_rfl) fun a49 hf59 => ?_
     refine w_sr (by kernel_rfl) ?_
     refine p_box (i := 0) (d := (some 2)) (cs := [vI 0, vI 0]) (T := 41) (v := fun b8 => pB b8 0) hS10 hf59 (fun b => by kernel_rfl) fun b8 ww19 a50 hS20 hf60 => ⟨fun _ => trivial, ?_⟩
     refine p_qt [] [(0, pB b7 0), (2, pB b8 0)] [] hf60 (by kernel_rfl) .nil fun a51 hf61 => ?_
     refine w_seq (by kernel_rfl) ?_
     refine w_mid (by kernel_rfl) (fun a w => ∃ z9 : Zone, ∃ y23 : Bool, Zone.le z3 z9 ∧ Fr a 21 [(0, pB b7 0), (2, pB b8 0), (15, .bool y23)] ∧ St z9 (box b8 [vI 0, vI 0] 41 :: box b7 [vI y21, vI y22, .bool y24, .bool y25] 100 :: box b6 [vI 0, vI 0] 41 :: box b5 [vI x1_lo, vI x1_hi] 41 :: box b4 [vI x0_lo, vI x0_hi] 41 :: box b3 [vI 0, vI 0] 41 :: box b2 [vI x1_lo, vI x1_hi] 41 :: box b1 [vI x0_lo, vI x0_hi] 41 :: L) w ∧ (F39_j6 y21 y22 y23) = some r) ?_ ?_
     ·skip
      refine w_reg (by kernel_rfl) ?_
      refine p_qn 5 [.bool y25] [(0, pB b7 0), (2, pB b8 0), (8, .bool y25)] [.cell ⟨b7, 3, none⟩ (.bool y25)] hf61 (by kernel_rfl) (.cell (hS20.box (i := 1) rfl (j := 3) rfl) .nil) fun a52 hf62 => ?_
      rcases Bool.eq_false_or_eq_true y25 with hb9 | hb9
      ·have hr22 := cond_t hb9 hr21
       have hf63 := Fr.conv hf62 (congrArg (fun z => ([(0, pB b7 0), (2, pB b8 0), (8, .bool z)] : FL)) hb9)
       refine p_qt [] [(0, pB b7 0), (2, pB b8 0), (15, .bool true)] [] hf63 (by kernel_rfl) .nil fun a53 hf64 => ?_
       have hf65 := Fr.keep (ks := [0, 2, 15]) (r := [(0, pB b7 0), (2, pB b8 0), (15, .bool true)]) hf64 (by kernel_rfl)
       exact ⟨z3, true, (Zone.le_refl _), hf65, hS20, hr22⟩
      ·have hr23 := cond_f hb9 hr21
       have hf66 := Fr.conv hf62 (congrArg (fun z => ([(0, pB b7 0), (2, pB b8 0), (8, .bool z)] : FL)) hb9)
       refine p_qn 4 [vI y21, vI y22] [(0, pB b7 0), (2, pB b8 0), (8, .bool false), (12, .agg #[vI y21, vI y22])] [.cell ⟨b7, 0, none⟩ (vI y21), .cell ⟨b7, 1, none⟩ (vI y22)] hf66 (by kernel_rfl) (.cell (hS20.box (i := 1) rfl (j := 0) rfl) (.cell (hS20.box (i := 1) rfl (j := 1) rfl) .nil)) fun a54 hf67 => ?_
       obtain ⟨r1, hd3, hr24⟩ := bind_some hr23
       refine p_call (i := 9) (d := some 13) (f := 52) (args := #[.agg #[vI y21, vI y22]]) hf67 (by kernel_rfl) (f52_ok fuel y21 y22 r1 hd3 z3 _ _ hS20 ) ?_
       rintro v3 ww20 a55 ⟨z10, k9, rfl, hS21⟩ hf68
       refine ⟨fun _ => trivial, ?_⟩
       refine p_qt [] [(0, pB b7 0), (2, pB b8 0), (15, .bool (r1 != (0 : Int)))] [] hf68 (by kernel_rfl) .nil fun a56 hf69 => ?_
       have hf70 := Fr.keep (ks := [0, 2, 15]) (r := [(0, pB b7 0), (2, pB b8 0), (15, .bool (r1 != (0 : Int)))]) hf69 (by kernel_rfl)
       exact ⟨z10, (r1 != (0 : Int)), k9, hf70, hS21, hr24⟩
     ·rintro a57 ww21 ⟨z9, y23, k10, hf71, hS22, hr25⟩
      refine w_if hf71 (b := y23) (by kernel_rfl) (fun hb10 => ?_) (fun hb10 => ?_)
      ·have hr26 := cond_t hb10 hr25
       refine w_sr (by kernel_rfl) ?_
       refine p_qn 1 [] [(2, pB b8 0), (16, .agg #[vI 0, vI 0])] [] hf71 (by kernel_rfl) .nil fun a58 hf72 => ?_
       refine p_store_eq (i := 1) (j := 0) (b := b8) (off := 0) (vs := [vI 0, vI 0]) (cs' := [vI 0, vI 0]) hS22 hf72 rfl (by kernel_rfl) (by kernel_rfl) rfl fun ww22 a59 hS23 hf73 => ⟨fun _ => trivial, ?_⟩
       refine p_qt [] [(2, pB b8 0), (3, vI 5)] [] hf73 (by kernel_rfl) .nil fun a60 hf74 => ?_
       refine w_ret (by kernel_rfl) ?_
       refine r_then ?_
       refine p_ret (os := [vI 0, vI 0]) (v := .tuple #[.agg #[vI 0, vI 0], vI 5]) (obs := [.cell ⟨b8, 0, none⟩ (vI 0), .cell ⟨b8, 1, none⟩ (vI 0)]) hf74 (by kernel_rfl) (.cell (hS23.box (i := 0) rfl (j := 0) rfl) (.cell (hS23.box (i := 0) rfl (j := 1) rfl) .nil)) ?_
       exact ⟨_, rfl, z9, 0, 0, 5, k10, rfl, (St.drop 1 hS23), hr26⟩
      ·have hr27 := cond_f hb10 hr25
       refine w_skip (by kernel_rfl) ?_
       refine n_then ?_
       refine w_sr (by kernel_rfl) ?_
       refine p_qn 4 [vI y21, vI y22] [(2, pB b8 0), (20, .agg #[vI y21, vI y22])] [.cell ⟨b7, 0, none⟩ (vI y21), .cell ⟨b7, 1, none⟩ (vI y22)] hf71 (by kernel_rfl) (.cell (hS22.box (i := 1) rfl (j := 0) rfl) (.cell (hS22.box (i := 1) rfl (j := 1) rfl) .nil)) fun a61 hf75 => ?_
       refine p_store_eq (i := 4) (j := 0) (b := b8) (off := 0) (vs := [vI y21, vI y22]) (cs' := [vI y21, vI y22]) hS22 hf75 rfl (by kernel_rfl) (by kernel_rfl) rfl fun ww23 a62 hS24 hf76 => ⟨fun _ => trivial, ?_⟩
       refine p_qt [] [(2, pB b8 0), (3, vI 0)] [] hf76 (by kernel_rfl) .nil fun a63 hf77 => ?_
       refine w_ret (by kernel_rfl) ?_
       refine p_ret (os := [vI y21, vI y22]) (v := .tuple #[.agg #[vI y21, vI y22], vI 0]) (obs := [.cell ⟨b8, 0, none⟩ (vI y21), .cell ⟨b8, 1, none⟩ (vI y22)]) hf77 (by kernel_rfl) (.cell (hS24.box (i := 0) rfl (j := 0) rfl) (.cell (hS24.box (i := 0) rfl (j := 1) rfl) .nil)) ?_
       exact ⟨_, rfl, z9, y21, y22, 0, k10, rfl, (St.drop 1 hS24), hr27⟩
    ·rintro v4 ww24 a64 ⟨z8, y18, y19, y20, k11, rfl, hS25, hr28⟩ hf78
     refine ⟨fun _ => trivial, ?_⟩
     refine p_qn 2 [] [(6, pB b6 0), (44, .agg #[vI y18, vI y19]), (45, vI y20)] [] hf78 (by kernel_rfl) .nil fun a65 hf79 => ?_
     refine p_store_eq (i := 3) (j := 1) (b := b6) (off := 0) (vs := [vI y18, vI y19]) (cs' := [vI y18, vI y19]) hS25 hf79 rfl (by kernel_rfl) (by kernel_rfl) rfl fun ww25 a66 hS26 hf80 => ⟨fun _ => trivial, ?_⟩
     refine p_qt [] [(6, pB b6 0), (7, vI y20)] [] hf80 (by kernel_rfl) .nil fun a67 hf81 => ?_
     refine w_ret (by kernel_rfl) ?_
     refine p_ret (os := [vI y18, vI y19]) (v := .tuple #[.agg #[vI y18, vI y19], vI y20]) (obs := [.cell ⟨b6, 0, none⟩ (vI y18), .cell ⟨b6, 1, none⟩ (vI y19)]) hf81 (by kernel_rfl) (.cell (hS26.box (i := 1) rfl (j := 0) rfl) (.cell (hS26.box (i := 1) rfl (j := 1) rfl) .nil)) ?_
     exact ⟨_, rfl, z8, y18, y19, y20, (Zone.le_trans (Zone.le_trans k3 k4) k11), rfl, (St.drop 4 hS26), hr28⟩
 ·rintro v5 ww26 a68 ⟨z1, y1, y2, y3, k12, rfl, hS27, hr29⟩ hf82
  refine ⟨fun _ => trivial, ?_⟩
  refine p_qn 2 [] [(4, pB b3 0), (9, .agg #[vI y1, vI y2]), (10, vI y3)] [] hf82 (by kernel_rfl) .nil fun a69 hf83 => ?_
  refine p_store_eq (i := 5) (j := 0) (b := b3) (off := 0) (vs := [vI y1, vI y2]) (cs' := [vI y1, vI y2]) hS27 hf83 rfl (by kernel_rfl) (by kernel_rfl) rfl fun ww27 a70 hS28 hf84 => ⟨fun _ => trivial, ?_⟩
  refine p_qt [] [(4, pB b3 0), (5, vI y3)] [] hf84 (by kernel_rfl) .nil fun a71 hf85 => ?_
  refine w_ret (by kernel_rfl) ?_
  refine p_ret (os := [vI y1, vI y2]) (v := .tuple #[.agg #[vI y1, vI y2], vI y3]) (obs := [.cell ⟨b3, 0, none⟩ (vI y1), .cell ⟨b3, 1, none⟩ (vI y2)]) hf85 (by kernel_rfl) (.cell (hS28.box (i := 0) rfl (j := 0) rfl) (.cell (hS28.box (i := 0) rfl (j := 1) rfl) .nil)) ?_
  obtain rfl := some_eq hr29
  exact ⟨_, rfl, z1, k12, rfl, (St.drop 3 hS28)⟩
def F111 (fuel : Nat) (x0_lo : Int) (x0_hi : Int) (x1_lo : Int) (x1_hi : Int) : Option (Int × Int) :=
  (some ((w64 (x0_lo + x1_lo)), (w64 (x0_hi + x1_hi))))
set_option maxRecDepth 100000 in
theorem f111_ok (fuel : Nat) (x0_lo : Int) (x0_hi : Int) (x1_lo : Int) (x1_hi : Int) (r : Int × Int) (hr : F111 fuel x0_lo x0_hi x1_lo x1_hi = some r) (h : Zone) (L : List Atom) (w : World) (hS : St h L w)  :
    Calls Try.prog 111 #[.agg #[vI x0_lo, vI x0_hi], .agg #[vI x1_lo, vI x1_hi]] w fun e w' => ∃ v, e = .returned v ∧ (v = .agg #[vI r.1, vI r.2] ∧ St h L w') := by
 refine calls_intro (N := 16) Try.func111 (by kernel_rfl) fun a hf => ?_
 refine w_sr (by kernel_rfl) ?_
 refine p_box (i := 0) (d := (some 2)) (cs := [vI x0_lo, vI x0_hi]) (T := 41) (v := fun b1 => pB b1 0) hS hf (fun b => by kernel_rfl) fun b1 ww1 a1 hS1 hf1 => ⟨fun _ => trivial, ?_⟩
 refine p_box (i := 1) (d := (some 3)) (cs := [vI x1_lo, vI x1_hi]) (T := 41) (v := fun b2 => pB b2 0) hS1 hf1 (fun b => by kernel_rfl) fun b2 ww2 a2 hS2 hf2 => ⟨fun _ => trivial, ?_⟩
 refine p_box (i := 2) (d := (some 4)) (cs := [vI 0, vI 0]) (T := 41) (v := fun b3 => pB b3 0) hS2 hf2 (fun b => by kernel_rfl) fun b3 ww3 a3 hS3 hf3 => ⟨fun _ => trivial, ?_⟩
 refine p_dt (by kernel_rfl) ?_
 refine w_sr (by kernel_rfl) ?_
 refine p_qn 11 [vI x0_lo, vI x1_lo, vI x0_hi, vI x1_hi] [(4, pB b3 0), (15, .agg #[vI (w64 (x0_lo + x1_lo)), vI (w64 (x0_hi + x1_hi))])] [.cell ⟨b1, 0, none⟩ (vI x0_lo), .cell ⟨b2, 0, none⟩ (vI x1_lo), .cell ⟨b1, 1, none⟩ (vI x0_hi), .cell ⟨b2, 1, none⟩ (vI x1_hi)] hf3 (by kernel_rfl) (.cell (hS3.box (i := 2) rfl (j := 0) rfl) (.cell (hS3.box (i := 1) rfl (j := 0) rfl) (.cell (hS3.box (i := 2) rfl (j := 1) rfl) (.cell (hS3.box (i := 1) rfl (j := 1) rfl) .nil)))) fun a4 hf4 => ?_
 refine p_store_eq (i := 11) (j := 0) (b := b3) (off := 0) (vs := [vI (w64 (x0_lo + x1_lo)), vI (w64 (x0_hi + x1_hi))]) (cs' := [vI (w64 (x0_lo + x1_lo)), vI (w64 (x0_hi + x1_hi))]) hS3 hf4 rfl (by kernel_rfl) (by kernel_rfl) rfl fun ww4 a5 hS4 hf5 => ⟨fun _ => trivial, ?_⟩
 refine p_dt (by kernel_rfl) ?_
 refine w_ret (by kernel_rfl) ?_
 refine p_ret (os := [vI (w64 (x0_lo + x1_lo)), vI (w64 (x0_hi + x1_hi))]) (v := .agg #[vI (w64 (x0_lo + x1_lo)), vI (w64 (x0_hi + x1_hi))]) (obs := [.cell ⟨b3, 0, none⟩ (vI (w64 (x0_lo + x1_lo))), .cell ⟨b3, 1, none⟩ (vI (w64 (x0_hi + x1_hi)))]) hf5 (by kernel_rfl) (.cell (hS4.box (i := 0) rfl (j := 0) rfl) (.cell (hS4.box (i := 0) rfl (j := 1) rfl) .nil)) ?_
 obtain rfl := some_eq hr
 exact ⟨_, rfl, rfl, (St.drop 3 hS4)⟩
def F125_l2 (x0 : List (List Pt)) : Nat → (List Pt) → Int → Option (List Pt)
  | 0, _, _ => none
  | n1 + 1, y1, y2 =>
    let k1 : (List Pt) → Int → Option (List Pt) := F125_l2 x0 n1
    (cond (decide (y2 < (x0.length : Int))) ((getI x0 y2).bind fun p1 => ((appC y1 p1).bind fun d1 => (k1 d1 (w64 (y2 + (1 : Int)))))) (some (y1)))
def F125_l1 (fuel : Nat) (x0 : List (List Pt)) : Nat → Int → Int → Option (List Pt)
  | 0, _, _ => none
  | n2 + 1, y3, y4 =>
    let k2 : Int → Int → Option (List Pt) := F125_l1 fuel x0 n2
    (cond (decide (y4 < (x0.length : Int))) ((getI x0 y4).bind fun p2 => (cond (decide ((w64 (y3 + (p2.length : Int))) < (0 : Int))) (none) (k2 (w64 (y3 + (p2.length : Int))) (w64 (y4 + (1 : Int)))))) ((growC y3).bind fun _ => (F125_l2 x0 fuel ([]) 0)))
def F125 (fuel : Nat) (x0 : List (List Pt)) : Option (List Pt) :=
  (F125_l1 fuel x0 fuel 0 0)
set_option maxRecDepth 100000 in
theorem f125_ok (fuel : Nat) (x0 : List (List Pt)) (r : List Pt) (hr : F125 fuel x0 = some r) (h : Zone) (L : List Atom) (w : World) (hS : St h L w) (o_x0 : Option Addr) (c_x0 : Nat) (hx_x0 : SliceR (Ty.slice PtT) h o_x0 c_x0 x0) :
    Calls Try.prog 125 #[.slice o_x0 x0.length c_x0] w fun e w' => ∃ v, e = .returned v ∧ (∃ h', ∃ o0 : Option Addr, ∃ c0 : Nat, Zone.le h h' ∧ v = .slice o0 r.length c0 ∧ St h' L w' ∧ SliceR PtT h' o0 c0 r) := by
 refine calls_intro (N := 36) Try.func125 (by kernel_rfl) fun a hf => ?_
 refine w_sq [] [(0, .slice o_x0 x0.length c_x0)] [] hf (by kernel_rfl) .nil fun a1 hf1 => ?_
 refine w_sq [] [(0, .slice o_x0 x0.length c_x0), (3, vI 0)] [] hf1 (by kernel_rfl) .nil fun a2 hf2 => ?_
 refine w_seq (by kernel_rfl) ?_
 refine w_sq [] [(0, .slice o_x0 x0.length c_x0), (3, vI 0), (9, .slice o_x0 x0.length c_x0), (10, vI (x0.length : Int)), (11, vI 0)] [] hf2 (by kernel_rfl) .nil fun a3 hf3 => ?_
 refine w_block (id := 0) (by kernel_rfl) ?_
 have hf4 := Fr.keep (ks := [0, 3, 9, 10, 11]) (r := [(0, .slice o_x0 x0.length c_x0), (3, vI 0), (9, .slice o_x0 x0.length c_x0), (10, vI (x0.length : Int)), (11, vI 0)]) hf3 (by kernel_rfl)
 refine w_loop (by kernel_rfl) (fun n a w => ∃ z1 : Zone, ∃ y3 : Int, ∃ y4 : Int, Zone.le h z1 ∧ Fr a 36 [(0, .slice o_x0 x0.length c_x0), (3, vI y3), (9, .slice o_x0 x0.length c_x0), (10, vI (x0.length : Int)), (11, vI y4)] ∧ St z1 (L) w ∧ (F125_l1 fuel x0 n y3 y4) = some r) fuel ⟨h, 0, 0, (Zone.le_refl _), hf4, hS, hr⟩ ?_
 rintro n3 a4 ww1 ⟨z1, y3, y4, k3, hf5, hS1, hr1⟩
 cases n3 with
 | zero => cases hr1
 | succ n2 =>
 refine w_sq [] [(0, .slice o_x0 x0.length c_x0), (3, vI y3), (9, .slice o_x0 x0.length c_x0), (10, vI (x0.length : Int)), (11, vI y4), (12, .bool (decide (y4 < (x0.length : Int))))] [] hf5 (by kernel_rfl) .nil fun a5 hf6 => ?_
 refine w_seq (by kernel_rfl) ?_
 refine w_if hf6 (b := (decide (y4 < (x0.length : Int)))) (by kernel_rfl) (fun hb1 => ?_) (fun hb1 => ?_)
 ·have hr2 := cond_t hb1 hr1
  refine w_skip (by kernel_rfl) ?_
  refine n_then ?_
  refine w_seq (by kernel_rfl) ?_
  refine w_block (id := 1) (by kernel_rfl) ?_
  obtain ⟨p2, hp438, hr3⟩ := bind_some hr2
  obtain ⟨ad1, ho1, hb2, cc1, hc1, hk1⟩ := SliceR.getI (SliceR.mono k3 hx_x0) hp438
  obtain ⟨e1, q1, rfl, hx1⟩ := hc1
  refine w_sq [.pointer (some ad1), .slice e1 p2.length q1] [(0, .slice o_x0 x0.length c_x0), (3, vI y3), (5, .slice e1 p2.length q1), (9, .slice o_x0 x0.length c_x0), (10, vI (x0.length : Int)), (11, vI y4)] [.prop (o_x0 = some ad1), .prop (0 ≤ y4 ∧ y4 < (x0.length : Nat)), .cell ((ad1.add (Int.toNat y4 * 1)).add 0) (.slice e1 p2.length q1)] hf6 (by kernel_rfl) (.prop ho1 (.prop hb2 (.cell (hS1.cell (hk1 0 _ rfl)) .nil))) fun a6 hf7 => ?_
  refine w_sq [] [(0, .slice o_x0 x0.length c_x0), (3, vI (w64 (y3 + (p2.length : Int)))), (9, .slice o_x0 x0.length c_x0), (10, vI (x0.length : Int)), (11, vI y4)] [] hf7 (by kernel_rfl) .nil fun a7 hf8 => ?_
  refine w_sq [] [(0, .slice o_x0 x0.length c_x0), (3, vI (w64 (y3 + (p2.length : Int)))), (9, .slice o_x0 x0.length c_x0), (10, vI (x0.length : Int)), (11, vI y4), (20, .bool (decide ((w64 (y3 + (p2.length : Int))) < (0 : Int))))] [] hf8 (by kernel_rfl) .nil fun a8 hf9 => ?_
  refine w_if hf9 (b := (decide ((w64 (y3 + (p2.length : Int))) < (0 : Int)))) (by kernel_rfl) (fun hb3 => ?_) (fun hb3 => ?_)
  ·have hr4 := cond_t hb3 hr3
   cases hr4
  ·have hr5 := cond_f hb3 hr3
   refine w_skip (by kernel_rfl) ?_
   refine n_block ?_
   refine n_then ?_
   refine w_q [] [(0, .slice o_x0 x0.length c_x0), (3, vI (w64 (y3 + (p2.length : Int)))), (9, .slice o_x0 x0.length c_x0), (10, vI (x0.length : Int)), (11, vI (w64 (y4 + (1 : Int))))] [] hf9 (by kernel_rfl) .nil fun a9 hf10 => ?_
   refine n_then ?_
   have hf11 := Fr.keep (ks := [0, 3, 9, 10, 11]) (r := [(0, .slice o_x0 x0.length c_x0), (3, vI (w64 (y3 + (p2.length : Int)))), (9, .slice o_x0 x0.length c_x0), (10, vI (x0.length : Int)), (11, vI (w64 (y4 + (1 : Int))))]) hf10 (by kernel_rfl)
   exact ⟨n2, Nat.lt_succ_self n2, z1, (w64 (y3 + (p2.length : Int))), (w64 (y4 + (1 : Int))), k3, hf11, hS1, hr5⟩
 ·have hr6 := cond_f hb1 hr1
  refine w_exit (id := 0) (by kernel_rfl) ?_
  refine x_then ?_
  refine x_then ?_
  refine x_block ?_
  refine n_then ?_
  refine w_sr (by kernel_rfl) ?_
  refine p_qn 1 [] [(0, .slice o_x0 x0.length c_x0), (23, vI y3)] [] hf6 (by kernel_rfl) .nil fun a10 hf12 => ?_
  obtain ⟨u1, hd1, hr7⟩ := bind_some hr6
  refine p_call (i := 1) (d := some 24) (f := 133) (args := #[.slice none 0 0, vI y3]) hf12 (by kernel_rfl) (grow133 hS1 hd1) ?_
  rintro v1 ww2 a11 ⟨e2, q2, rfl, hS2⟩ hf13
  refine ⟨fun _ => trivial, ?_⟩
  refine p_qt [] [(0, .slice o_x0 x0.length c_x0), (6, .slice e2 0 q2)] [] hf13 (by kernel_rfl) .nil fun a12 hf14 => ?_
  refine w_seq (by kernel_rfl) ?_
  refine w_sq [] [(6, .slice e2 0 q2), (25, .slice o_x0 x0.length c_x0), (26, vI (x0.length : Int)), (27, vI 0)] [] hf14 (by kernel_rfl) .nil fun a13 hf15 => ?_
  refine w_block (id := 2) (by kernel_rfl) ?_
  have hf16 := Fr.keep (ks := [6, 25, 26, 27]) (r := [(6, .slice e2 0 q2), (25, .slice o_x0 x0.length c_x0), (26, vI (x0.length : Int)), (27, vI 0)]) hf15 (by kernel_rfl)
  refine w_loop (by kernel_rfl) (fun n a w => ∃ z2 : Zone, ∃ y1 : List Pt, ∃ y2 : Int, ∃ e3 : Option Addr, ∃ q3 : Nat, Zone.le z1 z2 ∧ Fr a 36 [(6, .slice e3 y1.length q3), (25, .slice o_x0 x0.length c_x0), (26, vI (x0.length : Int)), (27, vI y2)] ∧ St z2 (ownS PtT 52 e3 q3 y1 :: L) w ∧ (F125_l2 x0 n y1 y2) = some r) fuel ⟨z1, [], 0, e2, q2, (Zone.le_refl _), hf16, hS2, hr7⟩ ?_
  rintro n4 a14 ww3 ⟨z2, y1, y2, e3, q3, k4, hf17, hS3, hr8⟩
  cases n4 with
  | zero => cases hr8
  | succ n1 =>
  refine w_sq [] [(6, .slice e3 y1.length q3), (25, .slice o_x0 x0.length c_x0), (26, vI (x0.length : Int)), (27, vI y2), (28, .bool (decide (y2 < (x0.length : Int))))] [] hf17 (by kernel_rfl) .nil fun a15 hf18 => ?_
  refine w_seq (by kernel_rfl) ?_
  refine w_if hf18 (b := (decide (y2 < (x0.length : Int)))) (by kernel_rfl) (fun hb4 => ?_) (fun hb4 => ?_)
  ·have hr9 := cond_t hb4 hr8
   refine w_skip (by kernel_rfl) ?_
   refine n_then ?_
   refine w_seq (by kernel_rfl) ?_
   refine w_block (id := 3) (by kernel_rfl) ?_
   obtain ⟨p1, hp1075, hr10⟩ := bind_some hr9
   obtain ⟨ad2, ho2, hb5, cc2, hc2, hk2⟩ := SliceR.getI (SliceR.mono (Zone.le_trans k3 k4) hx_x0) hp1075
   obtain ⟨e4, q4, rfl, hx2⟩ := hc2
   refine w_sq [.pointer (some ad2), .slice e4 p1.length q4] [(6, .slice e3 y1.length q3), (8, .slice e4 p1.length q4), (25, .slice o_x0 x0.length c_x0), (26, vI (x0.length : Int)), (27, vI y2)] [.prop (o_x0 = some ad2), .prop (0 ≤ y2 ∧ y2 < (x0.length : Nat)), .cell ((ad2.add (Int.toNat y2 * 1)).add 0) (.slice e4 p1.length q4)] hf18 (by kernel_rfl) (.prop ho2 (.prop hb5 (.cell (hS3.cell (hk2 0 _ rfl)) .nil))) fun a16 hf19 => ?_
   refine w_reg (by kernel_rfl) ?_
   refine p_qn 2 [] [(25, .slice o_x0 x0.length c_x0), (26, vI (x0.length : Int)), (27, vI y2), (31, .slice e3 y1.length q3), (32, .slice e4 p1.length q4)] [] hf19 (by kernel_rfl) .nil fun a17 hf20 => ?_
   obtain ⟨d1, hd2, hr11⟩ := bind_some hr10
   refine p_append (T := PtT) (i := 2) (j := 0) (d := some 33) (o2 := e4) (c2 := q4) (ys := p1) el22 hS3 hf20 rfl (by kernel_rfl) (SliceR.src hx2 hS3) hd2 fun e5 q5 ww4 a18 hS4 hf21 => ⟨fun _ => trivial, ?_⟩
   refine p_qz [] [(6, .slice e5 d1.length q5), (25, .slice o_x0 x0.length c_x0), (26, vI (x0.length : Int)), (27, vI y2)] [] hf21 (by kernel_rfl) .nil fun a19 hf22 => ?_
   refine n_block ?_
   refine n_then ?_
   refine w_q [] [(6, .slice e5 d1.length q5), (25, .slice o_x0 x0.length c_x0), (26, vI (x0.length : Int)), (27, vI (w64 (y2 + (1 : Int))))] [] hf22 (by kernel_rfl) .nil fun a20 hf23 => ?_
   refine n_then ?_
   have hf24 := Fr.keep (ks := [6, 25, 26, 27]) (r := [(6, .slice e5 d1.length q5), (25, .slice o_x0 x0.length c_x0), (26, vI (x0.length : Int)), (27, vI (w64 (y2 + (1 : Int))))]) hf23 (by kernel_rfl)
   exact ⟨n1, Nat.lt_succ_self n1, z2, d1, (w64 (y2 + (1 : Int))), e5, q5, k4, hf24, hS4, hr11⟩
  ·have hr12 := cond_f hb4 hr8
   refine w_exit (id := 2) (by kernel_rfl) ?_
   refine x_then ?_
   refine x_then ?_
   refine x_block ?_
   refine n_then ?_
   refine w_sq [] [(2, .slice e3 y1.length q3)] [] hf18 (by kernel_rfl) .nil fun a21 hf25 => ?_
   refine w_ret (by kernel_rfl) ?_
   obtain ⟨z3, k5, hS5, hx3⟩ := hS3.share (j := 0) rfl
   refine p_ret (os := []) (v := .slice e3 y1.length q3) (obs := []) hf25 (by kernel_rfl) .nil ?_
   obtain rfl := some_eq hr12
   exact ⟨_, rfl, z3, e3, q3, (Zone.le_trans (Zone.le_trans k3 k4) k5), rfl, (St.drop 1 hS5), hx3⟩
def F42 (fuel : Nat) (x0_lo : Int) (x0_hi : Int) (x1_lo : Int) (x1_hi : Int) : Option (Int × Int × Int) :=
  ((F106 fuel x0_lo x0_hi x1_lo x1_hi).bind fun r1 => (cond (r1 != (0 : Int)) (some (0, 0, r1)) (cond (decide ((if x1_lo > x0_lo then x1_lo else x0_lo) > (if x1_hi < x0_hi then x1_hi else x0_hi))) (some (0, 0, 3)) (some ((if x1_lo > x0_lo then x1_lo else x0_lo), (if x1_hi < x0_hi then x1_hi else x0_hi), 0)))))
set_option maxRecDepth 100000 in
theorem f42_ok (fuel : Nat) (x0_lo : Int) (x0_hi : Int) (x1_lo : Int) (x1_hi : Int) (r : Int × Int × Int) (hr : F42 fuel x0_lo x0_hi x1_lo x1_hi = some r) (h : Zone) (L : List Atom) (w : World) (hS : St h L w)  :
    Calls Try.prog 42 #[.agg #[vI x0_lo, vI x0_hi], .agg #[vI x1_lo, vI x1_hi]] w fun e w' => ∃ v, e = .returned v ∧ (∃ h', Zone.le h h' ∧ v = .tuple #[.agg #[vI r.1, vI r.2.1], vI r.2.2] ∧ St h' L w') := by
 refine calls_intro (N := 33) Try.func42 (by kernel_rfl) fun a hf => ?_
 refine w_sr (by kernel_rfl) ?_
 refine p_box (i := 0) (d := (some 2)) (cs := [vI x0_lo, vI x0_hi]) (T := 41) (v := fun b1 => pB b1 0) hS hf (fun b => by kernel_rfl) fun b1 ww1 a1 hS1 hf1 => ⟨fun _ => trivial, ?_⟩
 refine p_box (i := 1) (d := (some 3)) (cs := [vI x1_lo, vI x1_hi]) (T := 41) (v := fun b2 => pB b2 0) hS1 hf1 (fun b => by kernel_rfl) fun b2 ww2 a2 hS2 hf2 => ⟨fun _ => trivial, ?_⟩
 refine p_box (i := 2) (d := (some 4)) (cs := [vI 0, vI 0]) (T := 41) (v := fun b3 => pB b3 0) hS2 hf2 (fun b => by kernel_rfl) fun b3 ww3 a3 hS3 hf3 => ⟨fun _ => trivial, ?_⟩
 refine p_qt [] [(2, pB b1 0), (3, pB b2 0), (4, pB b3 0)] [] hf3 (by kernel_rfl) .nil fun a4 hf4 => ?_
 refine w_seq (by kernel_rfl) ?_
 refine w_sr (by kernel_rfl) ?_
 refine p_qn 2 [vI x0_lo, vI x0_hi, vI x1_lo, vI x1_hi] [(2, pB b1 0), (3, pB b2 0), (4, pB b3 0), (8, .agg #[vI x0_lo, vI x0_hi]), (9, .agg #[vI x1_lo, vI x1_hi])] [.cell ⟨b1, 0, none⟩ (vI x0_lo), .cell ⟨b1, 1, none⟩ (vI x0_hi), .cell ⟨b2, 0, none⟩ (vI x1_lo), .cell ⟨b2, 1, none⟩ (vI x1_hi)] hf4 (by kernel_rfl) (.cell (hS3.box (i := 2) rfl (j := 0) rfl) (.cell (hS3.box (i := 2) rfl (j := 1) rfl) (.cell (hS3.box (i := 1) rfl (j := 0) rfl) (.cell (hS3.box (i := 1) rfl (j := 1) rfl) .nil)))) fun a5 hf5 => ?_
 obtain ⟨r1, hd1, hr1⟩ := bind_some hr
 refine p_call (i := 2) (d := some 10) (f := 106) (args := #[.agg #[vI x0_lo, vI x0_hi], .agg #[vI x1_lo, vI x1_hi]]) hf5 (by kernel_rfl) (f106_ok fuel x0_lo x0_hi x1_lo x1_hi r1 hd1 h _ _ hS3 ) ?_
 rintro v1 ww4 a6 ⟨z1, k1, rfl, hS4⟩ hf6
 refine ⟨fun _ => trivial, ?_⟩
 refine p_qt [] [(2, pB b1 0), (3, pB b2 0), (4, pB b3 0), (6, vI r1)] [] hf6 (by kernel_rfl) .nil fun a7 hf7 => ?_
 refine w_sq [] [(2, pB b1 0), (3, pB b2 0), (4, pB b3 0), (6, vI r1), (12, .bool (r1 != (0 : Int)))] [] hf7 (by kernel_rfl) .nil fun a8 hf8 => ?_
 refine w_if hf8 (b := (r1 != (0 : Int))) (by kernel_rfl) (fun hb1 => ?_) (fun hb1 => ?_)
 ·have hr2 := cond_t hb1 hr1
  refine w_sr (by kernel_rfl) ?_
  refine p_qn 2 [] [(4, pB b3 0), (13, .agg #[vI 0, vI 0]), (14, vI r1)] [] hf8 (by kernel_rfl) .nil fun a9 hf9 => ?_
  refine p_store_eq (i := 2) (j := 0) (b := b3) (off := 0) (vs := [vI 0, vI 0]) (cs' := [vI 0, vI 0]) hS4 hf9 rfl (by kernel_rfl) (by kernel_rfl) rfl fun ww5 a10 hS5 hf10 => ⟨fun _ => trivial, ?_⟩
  refine p_qt [] [(4, pB b3 0), (5, vI r1)] [] hf10 (by kernel_rfl) .nil fun a11 hf11 => ?_
  refine w_ret (by kernel_rfl) ?_
  refine r_then ?_
  refine p_ret (os := [vI 0, vI 0]) (v := .tuple #[.agg #[vI 0, vI 0], vI r1]) (obs := [.cell ⟨b3, 0, none⟩ (vI 0), .cell ⟨b3, 1, none⟩ (vI 0)]) hf11 (by kernel_rfl) (.cell (hS5.box (i := 0) rfl (j := 0) rfl) (.cell (hS5.box (i := 0) rfl (j := 1) rfl) .nil)) ?_
  obtain rfl := some_eq hr2
  exact ⟨_, rfl, z1, k1, rfl, (St.drop 3 hS5)⟩
 ·have hr3 := cond_f hb1 hr1
  refine w_skip (by kernel_rfl) ?_
  refine n_then ?_
  refine w_sr (by kernel_rfl) ?_
  refine p_qn 11 [vI x0_lo, vI x1_lo, vI x0_hi, vI x1_hi] [(4, pB b3 0), (25, .agg #[vI (if x1_lo > x0_lo then x1_lo else x0_lo), vI (if x1_hi < x0_hi then x1_hi else x0_hi)])] [.cell ⟨b1, 0, none⟩ (vI x0_lo), .cell ⟨b2, 0, none⟩ (vI x1_lo), .cell ⟨b1, 1, none⟩ (vI x0_hi), .cell ⟨b2, 1, none⟩ (vI x1_hi)] hf8 (by kernel_rfl) (.cell (hS4.box (i := 2) rfl (j := 0) rfl) (.cell (hS4.box (i := 1) rfl (j := 0) rfl) (.cell (hS4.box (i := 2) rfl (j := 1) rfl) (.cell (hS4.box (i := 1) rfl (j := 1) rfl) .nil)))) fun a12 hf12 => ?_
  refine p_box (i := 11) (d := (some 7)) (cs := [vI 0, vI 0]) (T := 41) (v := fun b4 => pB b4 0) hS4 hf12 (fun b => by kernel_rfl) fun b4 ww6 a13 hS6 hf13 => ⟨fun _ => trivial, ?_⟩
  refine p_store_eq (i := 12) (j := 0) (b := b4) (off := 0) (vs := [vI (if x1_lo > x0_lo then x1_lo else x0_lo), vI (if x1_hi < x0_hi then x1_hi else x0_hi)]) (cs' := [vI (if x1_lo > x0_lo then x1_lo else x0_lo), vI (if x1_hi < x0_hi then x1_hi else x0_hi)]) hS6 hf13 rfl (by kernel_rfl) (by kernel_rfl) rfl fun ww7 a14 hS7 hf14 => ⟨fun _ => trivial, ?_⟩
  refine p_dt (by kernel_rfl) ?_
  refine w_seq (by kernel_rfl) ?_
  refine w_sq [vI (if x1_lo > x0_lo then x1_lo else x0_lo), vI (if x1_hi < x0_hi then x1_hi else x0_hi)] [(4, pB b3 0), (7, pB b4 0), (30, .bool (decide ((if x1_lo > x0_lo then x1_lo else x0_lo) > (if x1_hi < x0_hi then x1_hi else x0_hi))))] [.cell ⟨b4, 0, none⟩ (vI (if x1_lo > x0_lo then x1_lo else x0_lo)), .cell ⟨b4, 1, none⟩ (vI (if x1_hi < x0_hi then x1_hi else x0_hi))] hf14 (by kernel_rfl) (.cell (hS7.box (i := 0) rfl (j := 0) rfl) (.cell (hS7.box (i := 0) rfl (j := 1) rfl) .nil)) fun a15 hf15 => ?_
  refine w_if hf15 (b := (decide ((if x1_lo > x0_lo then x1_lo else x0_lo) > (if x1_hi < x0_hi then x1_hi else x0_hi)))) (by kernel_rfl) (fun hb2 => ?_) (fun hb2 => ?_)
  ·have hr4 := cond_t hb2 hr3
   refine w_sr (by kernel_rfl) ?_
   refine p_qn 1 [] [(4, pB b3 0), (31, .agg #[vI 0, vI 0])] [] hf15 (by kernel_rfl) .nil fun a16 hf16 => ?_
   refine p_store_eq (i := 1) (j := 1) (b := b3) (off := 0) (vs := [vI 0, vI 0]) (cs' := [vI 0, vI 0]) hS7 hf16 rfl (by kernel_rfl) (by kernel_rfl) rfl fun ww8 a17 hS8 hf17 => ⟨fun _ => trivial, ?_⟩
   refine p_qt [] [(4, pB b3 0), (5, vI 3)] [] hf17 (by kernel_rfl) .nil fun a18 hf18 => ?_
   refine w_ret (by kernel_rfl) ?_
   refine r_then ?_
   refine p_ret (os := [vI 0, vI 0]) (v := .tuple #[.agg #[vI 0, vI 0], vI 3]) (obs := [.cell ⟨b3, 0, none⟩ (vI 0), .cell ⟨b3, 1, none⟩ (vI 0)]) hf18 (by kernel_rfl) (.cell (hS8.box (i := 1) rfl (j := 0) rfl) (.cell (hS8.box (i := 1) rfl (j := 1) rfl) .nil)) ?_
   obtain rfl := some_eq hr4
   exact ⟨_, rfl, z1, k1, rfl, (St.drop 4 hS8)⟩
  ·have hr5 := cond_f hb2 hr3
   refine w_skip (by kernel_rfl) ?_
   refine n_then ?_
   refine w_sr (by kernel_rfl) ?_
   refine p_qn 1 [vI (if x1_lo > x0_lo then x1_lo else x0_lo), vI (if x1_hi < x0_hi then x1_hi else x0_hi)] [(4, pB b3 0), (32, .agg #[vI (if x1_lo > x0_lo then x1_lo else x0_lo), vI (if x1_hi < x0_hi then x1_hi else x0_hi)])] [.cell ⟨b4, 0, none⟩ (vI (if x1_lo > x0_lo then x1_lo else x0_lo)), .cell ⟨b4, 1, none⟩ (vI (if x1_hi < x0_hi then x1_hi else x0_hi))] hf15 (by kernel_rfl) (.cell (hS7.box (i := 0) rfl (j := 0) rfl) (.cell (hS7.box (i := 0) rfl (j := 1) rfl) .nil)) fun a19 hf19 => ?_
   refine p_store_eq (i := 1) (j := 1) (b := b3) (off := 0) (vs := [vI (if x1_lo > x0_lo then x1_lo else x0_lo), vI (if x1_hi < x0_hi then x1_hi else x0_hi)]) (cs' := [vI (if x1_lo > x0_lo then x1_lo else x0_lo), vI (if x1_hi < x0_hi then x1_hi else x0_hi)]) hS7 hf19 rfl (by kernel_rfl) (by kernel_rfl) rfl fun ww9 a20 hS9 hf20 => ⟨fun _ => trivial, ?_⟩
   refine p_qt [] [(4, pB b3 0), (5, vI 0)] [] hf20 (by kernel_rfl) .nil fun a21 hf21 => ?_
   refine w_ret (by kernel_rfl) ?_
   refine p_ret (os := [vI (if x1_lo > x0_lo then x1_lo else x0_lo), vI (if x1_hi < x0_hi then x1_hi else x0_hi)]) (v := .tuple #[.agg #[vI (if x1_lo > x0_lo then x1_lo else x0_lo), vI (if x1_hi < x0_hi then x1_hi else x0_hi)], vI 0]) (obs := [.cell ⟨b3, 0, none⟩ (vI (if x1_lo > x0_lo then x1_lo else x0_lo)), .cell ⟨b3, 1, none⟩ (vI (if x1_hi < x0_hi then x1_hi else x0_hi))]) hf21 (by kernel_rfl) (.cell (hS9.box (i := 1) rfl (j := 0) rfl) (.cell (hS9.box (i := 1) rfl (j := 1) rfl) .nil)) ?_
   obtain rfl := some_eq hr5
   exact ⟨_, rfl, z1, k1, rfl, (St.drop 4 hS9)⟩
def F43_j1 (y1 : Bool) : Option (Bool) :=
  (some (y1))
def F43 (fuel : Nat) (x0_lo : Int) (x0_hi : Int) (x1 : Int) : Option (Bool) :=
  ((F52 fuel x0_lo x0_hi).bind fun r1 => (cond (r1 == (0 : Int)) ((F90 fuel x1 x0_lo x0_hi).bind fun r2 => (F43_j1 r2)) (F43_j1 false)))
set_option maxRecDepth 100000 in
theorem f43_ok (fuel : Nat) (x0_lo : Int) (x0_hi : Int) (x1 : Int) (r : Bool) (hr : F43 fuel x0_lo x0_hi x1 = some r) (h : Zone) (L : List Atom) (w : World) (hS : St h L w)  :
    Calls Try.prog 43 #[.agg #[vI x0_lo, vI x0_hi], vI x1] w fun e w' => ∃ v, e = .returned v ∧ (∃ h', Zone.le h h' ∧ v = .bool r ∧ St h' L w') := by
 refine calls_intro (N := 16) Try.func43 (by kernel_rfl) fun a hf => ?_
 refine w_sr (by kernel_rfl) ?_
 refine p_box (i := 0) (d := (some 2)) (cs := [vI x0_lo, vI x0_hi]) (T := 41) (v := fun b1 => pB b1 0) hS hf (fun b => by kernel_rfl) fun b1 ww1 a1 hS1 hf1 => ⟨fun _ => trivial, ?_⟩
 refine p_qt [] [(1, vI x1), (2, pB b1 0)] [] hf1 (by kernel_rfl) .nil fun a2 hf2 => ?_
 refine w_mid (by kernel_rfl) (fun a w => ∃ z1 : Zone, ∃ y1 : Bool, Zone.le h z1 ∧ Fr a 16 [(4, .bool y1)] ∧ St z1 (box b1 [vI x0_lo, vI x0_hi] 41 :: L) w ∧ (F43_j1 y1) = some r) ?_ ?_
 ·skip
  refine w_reg (by kernel_rfl) ?_
  refine p_qn 1 [vI x0_lo, vI x0_hi] [(1, vI x1), (2, pB b1 0), (5, .agg #[vI x0_lo, vI x0_hi])] [.cell ⟨b1, 0, none⟩ (vI x0_lo), .cell ⟨b1, 1, none⟩ (vI x0_hi)] hf2 (by kernel_rfl) (.cell (hS1.box (i := 0) rfl (j := 0) rfl) (.cell (hS1.box (i := 0) rfl (j := 1) rfl) .nil)) fun a3 hf3 => ?_
  obtain ⟨r1, hd1, hr1⟩ := bind_some hr
  refine p_call (i := 1) (d := some 6) (f := 52) (args := #[.agg #[vI x0_lo, vI x0_hi]]) hf3 (by kernel_rfl) (f52_ok fuel x0_lo x0_hi r1 hd1 h _ _ hS1 ) ?_
  rintro v1 ww2 a4 ⟨z2, k1, rfl, hS2⟩ hf4
  refine ⟨fun _ => trivial, ?_⟩
  refine p_qn 2 [] [(1, vI x1), (2, pB b1 0), (8, .bool (r1 == (0 : Int)))] [] hf4 (by kernel_rfl) .nil fun a5 hf5 => ?_
  rcases Bool.eq_false_or_eq_true (r1 == (0 : Int)) with hb1 | hb1
  ·have hr2 := cond_t hb1 hr1
   have hf6 := Fr.conv hf5 (congrArg (fun z => ([(1, vI x1), (2, pB b1 0), (8, .bool z)] : FL)) hb1)
   refine p_qn 5 [vI x0_lo, vI x0_hi] [(8, .bool true), (9, vI x1), (11, vI x0_lo), (13, vI x0_hi)] [.cell ⟨b1, 0, none⟩ (vI x0_lo), .cell ⟨b1, 1, none⟩ (vI x0_hi)] hf6 (by kernel_rfl) (.cell (hS2.box (i := 0) rfl (j := 0) rfl) (.cell (hS2.box (i := 0) rfl (j := 1) rfl) .nil)) fun a6 hf7 => ?_
   obtain ⟨r2, hd2, hr3⟩ := bind_some hr2
   refine p_call (i := 9) (d := some 14) (f := 90) (args := #[vI x1, vI x0_lo, vI x0_hi]) hf7 (by kernel_rfl) (f90_ok fuel x1 x0_lo x0_hi r2 hd2 z2 _ _ hS2 ) ?_
   rintro v2 ww3 a7 ⟨z3, k2, rfl, hS3⟩ hf8
   refine ⟨fun _ => trivial, ?_⟩
   refine p_qt [] [(4, .bool r2)] [] hf8 (by kernel_rfl) .nil fun a8 hf9 => ?_
   have hf10 := Fr.keep (ks := [4]) (r := [(4, .bool r2)]) hf9 (by kernel_rfl)
   exact ⟨z3, r2, (Zone.le_trans k1 k2), hf10, hS3, hr3⟩
  ·have hr4 := cond_f hb1 hr1
   have hf11 := Fr.conv hf5 (congrArg (fun z => ([(1, vI x1), (2, pB b1 0), (8, .bool z)] : FL)) hb1)
   refine p_qt [] [(4, .bool false)] [] hf11 (by kernel_rfl) .nil fun a9 hf12 => ?_
   have hf13 := Fr.keep (ks := [4]) (r := [(4, .bool false)]) hf12 (by kernel_rfl)
   exact ⟨z2, false, k1, hf13, hS2, hr4⟩
 ·rintro a10 ww4 ⟨z1, y1, k3, hf14, hS4, hr5⟩
  refine w_ret (by kernel_rfl) ?_
  refine p_ret (os := []) (v := .bool y1) (obs := []) hf14 (by kernel_rfl) .nil ?_
  obtain rfl := some_eq hr5
  exact ⟨_, rfl, z1, k3, rfl, (St.drop 1 hS4)⟩
def F57_j1 (y1 : List Pt) (y2 : Int) : Option (List Pt × Int) :=
  (some (y1, y2))
def F57_j3 (k1 : (List Int) → Int → Option (List Pt × Int)) (y3 : Int) (y4 : List Int) : Option (List Pt × Int) :=
  (k1 y4 (w64 (y3 + (1 : Int))))
def F57_j4 (y5 : List Pt) (y6 : Int) : Option (List Pt × Int) :=
  (F57_j1 y5 y6)
def F57_j5 (k2 : (List Pt) → Int → Option (List Pt × Int)) (y7 : List Pt) (y8 : Int) (p1 : Int) (r1 : Int × Int) (y9 : Bool) : Option (List Pt × Int) :=
  (cond y9 (F57_j4 ([]) 5) ((appC y7 ([⟨p1, r1.1, r1.2⟩])).bind fun d1 => (k2 d1 (w64 (y8 + (1 : Int))))))
def F57_l2 (fuel : Nat) (x0 : List Pt) (x1 : List Pt) (y10 : List Int) : Nat → (List Pt) → Int → Option (List Pt × Int)
  | 0, _, _ => none
  | n1 + 1, y7, y8 =>
    let k2 : (List Pt) → Int → Option (List Pt × Int) := F57_l2 fuel x0 x1 y10 n1
    (cond (decide (y8 < ((compL (sortL y10)).length : Int))) ((getI (compL (sortL y10)) y8).bind fun p1 => ((F88 fuel x0 p1).bind fun r2 => ((F88 fuel x1 p1).bind fun r3 => ((F111 fuel r2.1 r2.2 r3.1 r3.2).bind fun r1 => (cond (decide (r1.1 < (-1000000000 : Int))) (F57_j5 k2 y7 y8 p1 r1 true) (F57_j5 k2 y7 y8 p1 r1 (decide (r1.2 > (1000000000 : Int))))))))) (F57_j4 y7 0))
def F57_l1 (fuel : Nat) (x0 : List Pt) (x1 : List Pt) (y11 : Int) (y12 : Int) (r4 : List Pt) : Nat → (List Int) → Int → Option (List Pt × Int)
  | 0, _, _ => none
  | n2 + 1, y10, y3 =>
    let k1 : (List Int) → Int → Option (List Pt × Int) := F57_l1 fuel x0 x1 y11 y12 r4 n2
    (cond (decide (y3 < (r4.length : Int))) ((getI r4 y3).bind fun p2 => ((F43 fuel y11 y12 p2.x).bind fun r5 => (cond r5 ((appC y10 ([p2.x])).bind fun d2 => (F57_j3 k1 y3 d2)) (F57_j3 k1 y3 y10)))) ((lenC y10).bind fun _ => ((lenC (sortL y10)).bind fun _ => (cond (decide (((compL (sortL y10)).length : Int) > (40 : Int))) (F57_j1 ([]) 2) (F57_l2 fuel x0 x1 y10 fuel ([]) 0)))))
def F57_j2 (fuel : Nat) (x0 : List Pt) (x1 : List Pt) (y13 : Int) (y11 : Int) (y12 : Int) : Option (List Pt × Int) :=
  (cond (y13 != (0 : Int)) (F57_j1 ([]) 4) ((F125 fuel ([x0, x1])).bind fun r4 => (F57_l1 fuel x0 x1 y11 y12 r4 fuel ([]) 0)))
def F57 (fuel : Nat) (x0 : List Pt) (x1 : List Pt) : Option (List Pt × Int) :=
  ((F67 fuel x0).bind fun r6 => (cond (r6 != (0 : Int)) (F57_j1 ([]) r6) ((F67 fuel x1).bind fun r7 => (cond (r7 != (0 : Int)) (F57_j1 ([]) r7) ((F117 fuel x0).bind fun r8 => ((F117 fuel x1).bind fun r9 => ((F42 fuel r8.1 r8.2 r9.1 r9.2).bind fun r10 => (F57_j2 fuel x0 x1 r10.2.2 r10.1 r10.2.1))))))))
set_option maxRecDepth 100000 in
theorem f57_ok (fuel : Nat) (x0 : List Pt) (x1 : List Pt) (r : List Pt × Int) (hr : F57 fuel x0 x1 = some r) (h : Zone) (L : List Atom) (w : World) (hS : St h L w) (o_x0 : Option Addr) (c_x0 : Nat) (hx_x0 : SliceR PtT h o_x0 c_x0 x0) (o_x1 : Option Addr) (c_x1 : Nat) (hx_x1 : SliceR PtT h o_x1 c_x1 x1) :
    Calls Try.prog 57 #[.agg #[.slice o_x0 x0.length c_x0], .agg #[.slice o_x1 x1.length c_x1]] w fun e w' => ∃ v, e = .returned v ∧ (∃ h', ∃ o0 : Option Addr, ∃ c0 : Nat, Zone.le h h' ∧ v = .tuple #[.agg #[.slice o0 r.1.length c0], vI r.2] ∧ St h' L w' ∧ SliceR PtT h' o0 c0 r.1) := by
 refine calls_intro (N := 11) Try.func57 (by kernel_rfl) fun a hf => ?_
 refine w_sr (by kernel_rfl) ?_
 refine p_box (i := 0) (d := (some 2)) (cs := [.slice o_x0 x0.length c_x0]) (T := 24) (v := fun b1 => pB b1 0) hS hf (fun b => by kernel_rfl) fun b1 ww1 a1 hS1 hf1 => ⟨fun _ => trivial, ?_⟩
 refine p_box (i := 1) (d := (some 3)) (cs := [.slice o_x1 x1.length c_x1]) (T := 24) (v := fun b2 => pB b2 0) hS1 hf1 (fun b => by kernel_rfl) fun b2 ww2 a2 hS2 hf2 => ⟨fun _ => trivial, ?_⟩
 refine p_box (i := 2) (d := (some 4)) (cs := [.slice none 0 0]) (T := 24) (v := fun b3 => pB b3 0) hS2 hf2 (fun b => by kernel_rfl) fun b3 ww3 a3 hS3 hf3 => ⟨fun _ => trivial, ?_⟩
 refine p_qt [] [(2, pB b1 0), (3, pB b2 0), (4, pB b3 0)] [] hf3 (by kernel_rfl) .nil fun a4 hf4 => ?_
 refine w_sr (by kernel_rfl) ?_
 refine p_qn 2 [.slice o_x0 x0.length c_x0, .slice o_x1 x1.length c_x1] [(4, pB b3 0), (6, .agg #[.slice o_x0 x0.length c_x0]), (7, .agg #[.slice o_x1 x1.length c_x1])] [.cell ⟨b1, 0, none⟩ (.slice o_x0 x0.length c_x0), .cell ⟨b2, 0, none⟩ (.slice o_x1 x1.length c_x1)] hf4 (by kernel_rfl) (.cell (hS3.box (i := 2) rfl (j := 0) rfl) (.cell (hS3.box (i := 1) rfl (j := 0) rfl) .nil)) fun a5 hf5 => ?_
 refine p_call (i := 2) (d := some 8) (f := 110) (args := #[.agg #[.slice o_x0 x0.length c_x0], .agg #[.slice o_x1 x1.length c_x1], .func (.func 111) #[] #[]]) hf5 (by kernel_rfl) (Φ := fun v w => ∃ z1 : Zone, ∃ y1 : List Pt, ∃ y2 : Int, ∃ e1 : Option Addr, ∃ q1 : Nat, Zone.le h z1 ∧ v = .tuple #[.agg #[.slice e1 y1.length q1], vI y2] ∧ St z1 (ownS PtT 52 e1 q1 y1 :: box b3 [.slice none 0 0] 24 :: box b2 [.slice o_x1 x1.length c_x1] 24 :: box b1 [.slice o_x0 x0.length c_x0] 24 :: L) w ∧ (F57_j1 y1 y2) = some r) ?_ ?_
 ·refine calls_intro (N := 72) Try.func110 (by kernel_rfl) fun a6 hf6 => ?_
  refine w_sr (by kernel_rfl) ?_
  refine p_box (i := 0) (d := (some 3)) (cs := [.slice o_x0 x0.length c_x0]) (T := 24) (v := fun b4 => pB b4 0) hS3 hf6 (fun b => by kernel_rfl) fun b4 ww4 a7 hS4 hf7 => ⟨fun _ => trivial, ?_⟩
  refine p_box (i := 1) (d := (some 4)) (cs := [.slice o_x1 x1.length c_x1]) (T := 24) (v := fun b5 => pB b5 0) hS4 hf7 (fun b => by kernel_rfl) fun b5 ww5 a8 hS5 hf8 => ⟨fun _ => trivial, ?_⟩
  refine p_box (i := 2) (d := (some 5)) (cs := [.func (.func 111) #[] #[]]) (T := 118) (v := fun b6 => pB b6 0) hS5 hf8 (fun b => by kernel_rfl) fun b6 ww6 a9 hS6 hf9 => ⟨fun _ => trivial, ?_⟩
  refine p_box (i := 3) (d := (some 6)) (cs := [.slice none 0 0]) (T := 24) (v := fun b7 => pB b7 0) hS6 hf9 (fun b => by kernel_rfl) fun b7 ww7 a10 hS7 hf10 => ⟨fun _ => trivial, ?_⟩
  refine p_qt [] [(3, pB b4 0), (4, pB b5 0), (5, pB b6 0), (6, pB b7 0)] [] hf10 (by kernel_rfl) .nil fun a11 hf11 => ?_
  refine w_seq (by kernel_rfl) ?_
  refine w_sr (by kernel_rfl) ?_
  refine p_qn 1 [.slice o_x0 x0.length c_x0] [(3, pB b4 0), (4, pB b5 0), (5, pB b6 0), (6, pB b7 0), (15, .agg #[.slice o_x0 x0.length c_x0])] [.cell ⟨b4, 0, none⟩ (.slice o_x0 x0.length c_x0)] hf11 (by kernel_rfl) (.cell (hS7.box (i := 3) rfl (j := 0) rfl) .nil) fun a12 hf12 => ?_
  obtain ⟨r6, hd1, hr1⟩ := bind_some hr
  refine p_call (i := 1) (d := some 16) (f := 67) (args := #[.agg #[.slice o_x0 x0.length c_x0]]) hf12 (by kernel_rfl) (f67_ok fuel x0 r6 hd1 h _ _ hS7 o_x0 c_x0 hx_x0) ?_
  rintro v1 ww8 a13 ⟨z2, k3, rfl, hS8⟩ hf13
  refine ⟨fun _ => trivial, ?_⟩
  refine p_qt [] [(3, pB b4 0), (4, pB b5 0), (5, pB b6 0), (6, pB b7 0), (8, vI r6)] [] hf13 (by kernel_rfl) .nil fun a14 hf14 => ?_
  refine w_sq [] [(3, pB b4 0), (4, pB b5 0), (5, pB b6 0), (6, pB b7 0), (8, vI r6), (18, .bool (r6 != (0 : Int)))] [] hf14 (by kernel_rfl) .nil fun a15 hf15 => ?_
  refine w_if hf15 (b := (r6 != (0 : Int))) (by kernel_rfl) (fun hb1 => ?_) (fun hb1 => ?_)
  ·have hr2 := cond_t hb1 hr1
   refine w_sr (by kernel_rfl) ?_
   refine p_qn 2 [] [(6, pB b7 0), (19, .agg #[.slice none 0 0]), (20, vI r6)] [] hf15 (by kernel_rfl) .nil fun a16 hf16 => ?_
   refine p_store_eq (i := 2) (j := 0) (b := b7) (off := 0) (vs := [.slice none 0 0]) (cs' := [.slice none 0 0]) hS8 hf16 rfl (by kernel_rfl) (by kernel_rfl) rfl fun ww9 a17 hS9 hf17 => ⟨fun _ => trivial, ?_⟩
   refine p_qt [] [(6, pB b7 0), (7, vI r6)] [] hf17 (by kernel_rfl) .nil fun a18 hf18 => ?_
   refine w_ret (by kernel_rfl) ?_
   refine r_then ?_
   refine p_ret (os := [.slice none 0 0]) (v := .tuple #[.agg #[.slice none 0 0], vI r6]) (obs := [.cell ⟨b7, 0, none⟩ (.slice none 0 0)]) hf18 (by kernel_rfl) (.cell (hS9.box (i := 0) rfl (j := 0) rfl) .nil) ?_
   have hS10 := St.ownNil hS9 PtT 52
   exact ⟨_, rfl, z2, [], r6, none, 0, k3, rfl, (St.pick 5 [0] hS10 (by kernel_rfl)), hr2⟩
  ·have hr3 := cond_f hb1 hr1
   refine w_skip (by kernel_rfl) ?_
   refine n_then ?_
   refine w_seq (by kernel_rfl) ?_
   refine w_sr (by kernel_rfl) ?_
   refine p_qn 1 [.slice o_x1 x1.length c_x1] [(3, pB b4 0), (4, pB b5 0), (5, pB b6 0), (6, pB b7 0), (21, .agg #[.slice o_x1 x1.length c_x1])] [.cell ⟨b5, 0, none⟩ (.slice o_x1 x1.length c_x1)] hf15 (by kernel_rfl) (.cell (hS8.box (i := 2) rfl (j := 0) rfl) .nil) fun a19 hf19 => ?_
   obtain ⟨r7, hd2, hr4⟩ := bind_some hr3
   refine p_call (i := 1) (d := some 22) (f := 67) (args := #[.agg #[.slice o_x1 x1.length c_x1]]) hf19 (by kernel_rfl) (f67_ok fuel x1 r7 hd2 z2 _ _ hS8 o_x1 c_x1 (SliceR.mono k3 hx_x1)) ?_
   rintro v2 ww10 a20 ⟨z3, k4, rfl, hS11⟩ hf20
   refine ⟨fun _ => trivial, ?_⟩
   refine p_qt [] [(3, pB b4 0), (4, pB b5 0), (5, pB b6 0), (6, pB b7 0), (9, vI r7)] [] hf20 (by kernel_rfl) .nil fun a21 hf21 => ?_
   refine w_sq [] [(3, pB b4 0), (4, pB b5 0), (5, pB b6 0), (6, pB b7 0), (9, vI r7), (24, .bool (r7 != (0 : Int)))] [] hf21 (by kernel_rfl) .nil fun a22 hf22 => ?_
   refine w_if hf22 (b := (r7 != (0 : Int))) (by kernel_rfl) (fun hb2 => ?_) (fun hb2 => ?_)
   ·have hr5 := cond_t hb2 hr4
    refine w_sr (by kernel_rfl) ?_
    refine p_qn 2 [] [(6, pB b7 0), (25, .agg #[.slice none 0 0]), (26, vI r7)] [] hf22 (by kernel_rfl) .nil fun a23 hf23 => ?_
    refine p_store_eq (i := 2) (j := 0) (b := b7) (off := 0) (vs := [.slice none 0 0]) (cs' := [.slice none 0 0]) hS11 hf23 rfl (by kernel_rfl) (by kernel_rfl) rfl fun ww11 a24 hS12 hf24 => ⟨fun _ => trivial, ?_⟩
    refine p_qt [] [(6, pB b7 0), (7, vI r7)] [] hf24 (by kernel_rfl) .nil fun a25 hf25 => ?_
    refine w_ret (by kernel_rfl) ?_
    refine r_then ?_
    refine p_ret (os := [.slice none 0 0]) (v := .tuple #[.agg #[.slice none 0 0], vI r7]) (obs := [.cell ⟨b7, 0, none⟩ (.slice none 0 0)]) hf25 (by kernel_rfl) (.cell (hS12.box (i := 0) rfl (j := 0) rfl) .nil) ?_
    have hS13 := St.ownNil hS12 PtT 52
    exact ⟨_, rfl, z3, [], r7, none, 0, (Zone.le_trans k3 k4), rfl, (St.pick 5 [0] hS13 (by kernel_rfl)), hr5⟩
   ·have hr6 := cond_f hb2 hr4
    refine w_skip (by kernel_rfl) ?_
    refine n_then ?_
    refine w_mid (by kernel_rfl) (fun a w => ∃ z4 : Zone, ∃ y13 : Int, ∃ y11 : Int, ∃ y12 : Int, ∃ b8 : Nat, Zone.le z3 z4 ∧ Fr a 72 [(3, pB b4 0), (4, pB b5 0), (5, pB b6 0), (6, pB b7 0), (10, pB b8 0), (11, vI y13)] ∧ St z4 (box b8 [vI y11, vI y12] 41 :: box b7 [.slice none 0 0] 24 :: box b6 [.func (.func 111) #[] #[]] 118 :: box b5 [.slice o_x1 x1.length c_x1] 24 :: box b4 [.slice o_x0 x0.length c_x0] 24 :: box b3 [.slice none 0 0] 24 :: box b2 [.slice o_x1 x1.length c_x1] 24 :: box b1 [.slice o_x0 x0.length c_x0] 24 :: L) w ∧ (F57_j2 fuel x0 x1 y13 y11 y12) = some r) ?_ ?_
    ·skip
     have hS14 := hS11.drew
     have s1 : Sub z3 (box b7 [.slice none 0 0] 24 :: box b6 [.func (.func 111) #[] #[]] 118 :: box b5 [.slice o_x1 x1.length c_x1] 24 :: box b4 [.slice o_x0 x0.length c_x0] 24 :: box b3 [.slice none 0 0] 24 :: box b2 [.slice o_x1 x1.length c_x1] 24 :: box b1 [.slice o_x0 x0.length c_x0] 24 :: L) _ := Sub.of (Zone.le_refl _) hS14
     refine w_regB (by kernel_rfl) [3, 4, 9] (Sub z3 (box b7 [.slice none 0 0] 24 :: box b6 [.func (.func 111) #[] #[]] 118 :: box b5 [.slice o_x1 x1.length c_x1] 24 :: box b4 [.slice o_x0 x0.length c_x0] 24 :: box b3 [.slice none 0 0] 24 :: box b2 [.slice o_x1 x1.length c_x1] 24 :: box b1 [.slice o_x0 x0.length c_x0] 24 :: L)) (by kernel_rfl) ?_
     refine k_seg' 9 [(0, true), (2, true)] (by kernel_rfl) (by kernel_rfl) (At.start s1) (by kernel_rfl) ?_
     refine p_qS 2 [.slice o_x0 x0.length c_x0, .slice o_x1 x1.length c_x1] [(3, pB b4 0), (4, pB b5 0), (5, pB b6 0), (6, pB b7 0), (28, .agg #[.slice o_x0 x0.length c_x0]), (30, .agg #[.slice o_x1 x1.length c_x1])] [.cell ⟨b4, 0, none⟩ (.slice o_x0 x0.length c_x0), .cell ⟨b5, 0, none⟩ (.slice o_x1 x1.length c_x1)] [] s1 hf22 (by kernel_rfl) (fun _ s => (.cell (s.box (i := 3) rfl (j := 0) rfl) (.cell (s.box (i := 2) rfl (j := 0) rfl) .nil))) .nil fun a26 hf26 => ?_
     refine p_done (by kernel_rfl) ?_
     intro hA1
     refine k_any' 8 [1, 8] (by kernel_rfl) hA1 (by kernel_rfl) (by kernel_rfl) ?_
     refine (all_cons ?_ (all_cons ?_ all_nil))
     ·skip
      obtain ⟨r8, hd3, hr7⟩ := bind_some hr6
      refine p_call (i := 1) (d := some 29) (f := 117) (args := #[.agg #[.slice o_x0 x0.length c_x0]]) hf26 (by kernel_rfl) (f117_ok fuel x0 r8 hd3 z3 _ _ hS14 o_x0 c_x0 (SliceR.mono (Zone.le_trans k3 k4) hx_x0)) ?_
      rintro v3 ww12 a27 ⟨rfl, hS15⟩ hf27
      refine ⟨fun _ => Sub.of (Zone.le_refl _) hS15, ?_⟩
      refine p_done (by kernel_rfl) ?_
      intro hA2
      have s2 : Sub z3 (box b7 [.slice none 0 0] 24 :: box b6 [.func (.func 111) #[] #[]] 118 :: box b5 [.slice o_x1 x1.length c_x1] 24 :: box b4 [.slice o_x0 x0.length c_x0] 24 :: box b3 [.slice none 0 0] 24 :: box b2 [.slice o_x1 x1.length c_x1] 24 :: box b1 [.slice o_x0 x0.length c_x0] 24 :: L) _ := Sub.of (Zone.le_refl _) hS15
      refine k_seg' 8 [] (by kernel_rfl) (by kernel_rfl) hA2 (by kernel_rfl) ?_
      refine p_done (by kernel_rfl) ?_
      intro hA3
      refine k_any' 7 [3, 8] (by kernel_rfl) hA3 (by kernel_rfl) (by kernel_rfl) ?_
      refine (all_cons ?_ (all_cons ?_ all_nil))
      ·skip
       obtain ⟨r9, hd4, hr8⟩ := bind_some hr7
       refine p_call (i := 3) (d := some 31) (f := 117) (args := #[.agg #[.slice o_x1 x1.length c_x1]]) hf27 (by kernel_rfl) (f117_ok fuel x1 r9 hd4 z3 _ _ hS15 o_x1 c_x1 (SliceR.mono (Zone.le_trans k3 k4) hx_x1)) ?_
       rintro v4 ww13 a28 ⟨rfl, hS16⟩ hf28
       refine ⟨fun e => absurd e (by decide), ?_⟩
       refine p_done (by kernel_rfl) ?_
       intro hA4
       refine k_seg' 7 [] (by kernel_rfl) (by kernel_rfl) hA4 (by kernel_rfl) ?_
       refine p_done (by kernel_rfl) ?_
       intro hA5
       refine k_any' 6 [4, 8] (by kernel_rfl) hA5 (by kernel_rfl) (by kernel_rfl) ?_
       refine (all_cons ?_ (all_cons ?_ all_nil))
       ·skip
        obtain ⟨r10, hd5, hr9⟩ := bind_some hr8
        refine p_call (i := 4) (d := some 32) (f := 42) (args := #[.agg #[vI r8.1, vI r8.2], .agg #[vI r9.1, vI r9.2]]) hf28 (by kernel_rfl) (f42_ok fuel r8.1 r8.2 r9.1 r9.2 r10 hd5 z3 _ _ hS16 ) ?_
        rintro v5 ww14 a29 ⟨z5, k5, rfl, hS17⟩ hf29
        refine ⟨fun e => absurd e (by decide), ?_⟩
        refine p_done (by kernel_rfl) ?_
        intro hA6
        refine k_seg' 0 [(5, true), (6, true), (7, true), (8, false), (9, false), (10, true)] (by kernel_rfl) (by kernel_rfl) hA6 (by kernel_rfl) ?_
        refine p_qP 3 [] [(3, pB b4 0), (4, pB b5 0), (5, pB b6 0), (6, pB b7 0), (33, .agg #[vI r10.1, vI r10.2.1]), (34, vI r10.2.2)] [] hf29 (by kernel_rfl) (fun _ => .nil) fun a30 hf30 => ?_
        refine p_box (i := 8) (d := (some 10)) (cs := [vI 0, vI 0]) (T := 41) (v := fun b9 => pB b9 0) hS17 hf30 (fun b => by kernel_rfl) fun b9 ww15 a31 hS18 hf31 => ⟨fun _ => Sub.of k5 (St.drop 1 hS18), ?_⟩
        have s3 : Sub z3 (box b7 [.slice none 0 0] 24 :: box b6 [.func (.func 111) #[] #[]] 118 :: box b5 [.slice o_x1 x1.length c_x1] 24 :: box b4 [.slice o_x0 x0.length c_x0] 24 :: box b3 [.slice none 0 0] 24 :: box b2 [.slice o_x1 x1.length c_x1] 24 :: box b1 [.slice o_x0 x0.length c_x0] 24 :: L) _ := Sub.of k5 (St.drop 1 hS18)
        refine p_store_eq (i := 9) (j := 0) (b := b9) (off := 0) (vs := [vI r10.1, vI r10.2.1]) (cs' := [vI r10.1, vI r10.2.1]) hS18 hf31 rfl (by kernel_rfl) (by kernel_rfl) rfl fun ww16 a32 hS19 hf32 => ⟨fun e => absurd e (by decide), ?_⟩
        refine p_qP 1 [] [(3, pB b4 0), (4, pB b5 0), (5, pB b6 0), (6, pB b7 0), (10, pB b9 0), (11, vI r10.2.2)] [] hf32 (by kernel_rfl) (fun _ => .nil) fun a33 hf33 => ?_
        refine p_done (by kernel_rfl) ?_
        intro hA7
        refine k_done' (by kernel_rfl) (by kernel_rfl) ?_
        refine n_then ?_
        have hf34 := Fr.keep (ks := [3, 4, 5, 6, 10, 11]) (r := [(3, pB b4 0), (4, pB b5 0), (5, pB b6 0), (6, pB b7 0), (10, pB b9 0), (11, vI r10.2.2)]) hf33 (by kernel_rfl)
        exact ⟨z5, r10.2.2, r10.1, r10.2.1, b9, k5, hf34, (St.pick 1 [0] hS19 (by kernel_rfl)), hr9⟩
       ·skip
        refine p_box (i := 8) (d := (some 10)) (cs := [vI 0, vI 0]) (T := 41) (v := fun b10 => pB b10 0) hS16 hf28 (fun b => by kernel_rfl) fun b10 ww17 a34 hS20 hf35 => ⟨fun _ => Sub.of (Zone.le_refl _) (St.drop 1 hS20), ?_⟩
        refine p_done (by kernel_rfl) ?_
        intro hA8
        refine k_seg' 0 [(4, false), (5, true), (6, true), (7, true), (9, false), (10, true)] (by kernel_rfl) (by kernel_rfl) hA8 (by kernel_rfl) ?_
        obtain ⟨r11, hd6, hr10⟩ := bind_some hr8
        refine p_call (i := 4) (d := some 32) (f := 42) (args := #[.agg #[vI r8.1, vI r8.2], .agg #[vI r9.1, vI r9.2]]) hf35 (by kernel_rfl) (f42_ok fuel r8.1 r8.2 r9.1 r9.2 r11 hd6 z3 _ _ hS20 ) ?_
        rintro v6 ww18 a35 ⟨z6, k6, rfl, hS21⟩ hf36
        refine ⟨fun e => absurd e (by decide), ?_⟩
        refine p_qP 3 [] [(3, pB b4 0), (4, pB b5 0), (5, pB b6 0), (6, pB b7 0), (10, pB b10 0), (33, .agg #[vI r11.1, vI r11.2.1]), (34, vI r11.2.2)] [] hf36 (by kernel_rfl) (fun _ => .nil) fun a36 hf37 => ?_
        refine p_store_eq (i := 9) (j := 0) (b := b10) (off := 0) (vs := [vI r11.1, vI r11.2.1]) (cs' := [vI r11.1, vI r11.2.1]) hS21 hf37 rfl (by kernel_rfl) (by kernel_rfl) rfl fun ww19 a37 hS22 hf38 => ⟨fun e => absurd e (by decide), ?_⟩
        refine p_qP 1 [] [(3, pB b4 0), (4, pB b5 0), (5, pB b6 0), (6, pB b7 0), (10, pB b10 0), (11, vI r11.2.2)] [] hf38 (by kernel_rfl) (fun _ => .nil) fun a38 hf39 => ?_
        refine p_done (by kernel_rfl) ?_
        intro hA9
        refine k_done' (by kernel_rfl) (by kernel_rfl) ?_
        refine n_then ?_
        have hf40 := Fr.keep (ks := [3, 4, 5, 6, 10, 11]) (r := [(3, pB b4 0), (4, pB b5 0), (5, pB b6 0), (6, pB b7 0), (10, pB b10 0), (11, vI r11.2.2)]) hf39 (by kernel_rfl)
        exact ⟨z6, r11.2.2, r11.1, r11.2.1, b10, k6, hf40, (St.pick 1 [0] hS22 (by kernel_rfl)), hr10⟩
      ·skip
       refine p_box (i := 8) (d := (some 10)) (cs := [vI 0, vI 0]) (T := 41) (v := fun b11 => pB b11 0) hS15 hf27 (fun b => by kernel_rfl) fun b11 ww20 a39 hS23 hf41 => ⟨fun _ => Sub.of (Zone.le_refl _) (St.drop 1 hS23), ?_⟩
       refine p_done (by kernel_rfl) ?_
       intro hA10
       have s4 : Sub z3 (box b7 [.slice none 0 0] 24 :: box b6 [.func (.func 111) #[] #[]] 118 :: box b5 [.slice o_x1 x1.length c_x1] 24 :: box b4 [.slice o_x0 x0.length c_x0] 24 :: box b3 [.slice none 0 0] 24 :: box b2 [.slice o_x1 x1.length c_x1] 24 :: box b1 [.slice o_x0 x0.length c_x0] 24 :: L) _ := Sub.of (Zone.le_refl _) (St.drop 1 hS23)
       refine k_seg' 0 [(3, false), (4, false), (5, true), (6, true), (7, true), (9, false), (10, true)] (by kernel_rfl) (by kernel_rfl) hA10 (by kernel_rfl) ?_
       obtain ⟨r12, hd7, hr11⟩ := bind_some hr7
       refine p_call (i := 3) (d := some 31) (f := 117) (args := #[.agg #[.slice o_x1 x1.length c_x1]]) hf41 (by kernel_rfl) (f117_ok fuel x1 r12 hd7 z3 _ _ hS23 o_x1 c_x1 (SliceR.mono (Zone.le_trans k3 k4) hx_x1)) ?_
       rintro v7 ww21 a40 ⟨rfl, hS24⟩ hf42
       refine ⟨fun e => absurd e (by decide), ?_⟩
       obtain ⟨r13, hd8, hr12⟩ := bind_some hr11
       refine p_call (i := 4) (d := some 32) (f := 42) (args := #[.agg #[vI r8.1, vI r8.2], .agg #[vI r12.1, vI r12.2]]) hf42 (by kernel_rfl) (f42_ok fuel r8.1 r8.2 r12.1 r12.2 r13 hd8 z3 _ _ hS24 ) ?_
       rintro v8 ww22 a41 ⟨z7, k7, rfl, hS25⟩ hf43
       refine ⟨fun e => absurd e (by decide), ?_⟩
       refine p_qP 3 [] [(3, pB b4 0), (4, pB b5 0), (5, pB b6 0), (6, pB b7 0), (10, pB b11 0), (33, .agg #[vI r13.1, vI r13.2.1]), (34, vI r13.2.2)] [] hf43 (by kernel_rfl) (fun _ => .nil) fun a42 hf44 => ?_
       refine p_store_eq (i := 9) (j := 0) (b := b11) (off := 0) (vs := [vI r13.1, vI r13.2.1]) (cs' := [vI r13.1, vI r13.2.1]) hS25 hf44 rfl (by kernel_rfl) (by kernel_rfl) rfl fun ww23 a43 hS26 hf45 => ⟨fun e => absurd e (by decide), ?_⟩
       refine p_qP 1 [] [(3, pB b4 0), (4, pB b5 0), (5, pB b6 0), (6, pB b7 0), (10, pB b11 0), (11, vI r13.2.2)] [] hf45 (by kernel_rfl) (fun _ => .nil) fun a44 hf46 => ?_
       refine p_done (by kernel_rfl) ?_
       intro hA11
       refine k_done' (by kernel_rfl) (by kernel_rfl) ?_
       refine n_then ?_
       have hf47 := Fr.keep (ks := [3, 4, 5, 6, 10, 11]) (r := [(3, pB b4 0), (4, pB b5 0), (5, pB b6 0), (6, pB b7 0), (10, pB b11 0), (11, vI r13.2.2)]) hf46 (by kernel_rfl)
       exact ⟨z7, r13.2.2, r13.1, r13.2.1, b11, k7, hf47, (St.pick 1 [0] hS26 (by kernel_rfl)), hr12⟩
     ·skip
      refine p_box (i := 8) (d := (some 10)) (cs := [vI 0, vI 0]) (T := 41) (v := fun b12 => pB b12 0) hS14 hf26 (fun b => by kernel_rfl) fun b12 ww24 a45 hS27 hf48 => ⟨fun _ => Sub.of (Zone.le_refl _) (St.drop 1 hS27), ?_⟩
      refine p_done (by kernel_rfl) ?_
      intro hA12
      have s5 : Sub z3 (box b7 [.slice none 0 0] 24 :: box b6 [.func (.func 111) #[] #[]] 118 :: box b5 [.slice o_x1 x1.length c_x1] 24 :: box b4 [.slice o_x0 x0.length c_x0] 24 :: box b3 [.slice none 0 0] 24 :: box b2 [.slice o_x1 x1.length c_x1] 24 :: box b1 [.slice o_x0 x0.length c_x0] 24 :: L) _ := Sub.of (Zone.le_refl _) (St.drop 1 hS27)
      refine k_seg' 0 [(1, false), (3, false), (4, false), (5, true), (6, true), (7, true), (9, false), (10, true)] (by kernel_rfl) (by kernel_rfl) hA12 (by kernel_rfl) ?_
      obtain ⟨r14, hd9, hr13⟩ := bind_some hr6
      refine p_call (i := 1) (d := some 29) (f := 117) (args := #[.agg #[.slice o_x0 x0.length c_x0]]) hf48 (by kernel_rfl) (f117_ok fuel x0 r14 hd9 z3 _ _ hS27 o_x0 c_x0 (SliceR.mono (Zone.le_trans k3 k4) hx_x0)) ?_
      rintro v9 ww25 a46 ⟨rfl, hS28⟩ hf49
      refine ⟨fun _ => Sub.of (Zone.le_refl _) (St.drop 1 hS28), ?_⟩
      have s6 : Sub z3 (box b7 [.slice none 0 0] 24 :: box b6 [.func (.func 111) #[] #[]] 118 :: box b5 [.slice o_x1 x1.length c_x1] 24 :: box b4 [.slice o_x0 x0.length c_x0] 24 :: box b3 [.slice none 0 0] 24 :: box b2 [.slice o_x1 x1.length c_x1] 24 :: box b1 [.slice o_x0 x0.length c_x0] 24 :: L) _ := Sub.of (Zone.le_refl _) (St.drop 1 hS28)
      obtain ⟨r15, hd10, hr14⟩ := bind_some hr13
      refine p_call (i := 3) (d := some 31) (f := 117) (args := #[.agg #[.slice o_x1 x1.length c_x1]]) hf49 (by kernel_rfl) (f117_ok fuel x1 r15 hd10 z3 _ _ hS28 o_x1 c_x1 (SliceR.mono (Zone.le_trans k3 k4) hx_x1)) ?_
      rintro v10 ww26 a47 ⟨rfl, hS29⟩ hf50
      refine ⟨fun e => absurd e (by decide), ?_⟩
      obtain ⟨r16, hd11, hr15⟩ := bind_some hr14
      refine p_call (i := 4) (d := some 32) (f := 42) (args := #[.agg #[vI r14.1, vI r14.2], .agg #[vI r15.1, vI r15.2]]) hf50 (by kernel_rfl) (f42_ok fuel r14.1 r14.2 r15.1 r15.2 r16 hd11 z3 _ _ hS29 ) ?_
      rintro v11 ww27 a48 ⟨z8, k8, rfl, hS30⟩ hf51
      refine ⟨fun e => absurd e (by decide), ?_⟩
      refine p_qP 3 [] [(3, pB b4 0), (4, pB b5 0), (5, pB b6 0), (6, pB b7 0), (10, pB b12 0), (33, .agg #[vI r16.1, vI r16.2.1]), (34, vI r16.2.2)] [] hf51 (by kernel_rfl) (fun _ => .nil) fun a49 hf52 => ?_
      refine p_store_eq (i := 9) (j := 0) (b := b12) (off := 0) (vs := [vI r16.1, vI r16.2.1]) (cs' := [vI r16.1, vI r16.2.1]) hS30 hf52 rfl (by kernel_rfl) (by kernel_rfl) rfl fun ww28 a50 hS31 hf53 => ⟨fun e => absurd e (by decide), ?_⟩
      refine p_qP 1 [] [(3, pB b4 0), (4, pB b5 0), (5, pB b6 0), (6, pB b7 0), (10, pB b12 0), (11, vI r16.2.2)] [] hf53 (by kernel_rfl) (fun _ => .nil) fun a51 hf54 => ?_
      refine p_done (by kernel_rfl) ?_
      intro hA13
      refine k_done' (by kernel_rfl) (by kernel_rfl) ?_
      refine n_then ?_
      have hf55 := Fr.keep (ks := [3, 4, 5, 6, 10, 11]) (r := [(3, pB b4 0), (4, pB b5 0), (5, pB b6 0), (6, pB b7 0), (10, pB b12 0), (11, vI r16.2.2)]) hf54 (by kernel_rfl)
      exact ⟨z8, r16.2.2, r16.1, r16.2.1, b12, k8, hf55, (St.pick 1 [0] hS31 (by kernel_rfl)), hr15⟩
    ·rintro a52 ww29 ⟨z4, y13, y11, y12, b8, k9, hf56, hS32, hr16⟩
     refine w_seq (by kernel_rfl) ?_
     refine w_sq [] [(3, pB b4 0), (4, pB b5 0), (5, pB b6 0), (6, pB b7 0), (10, pB b8 0), (36, .bool (y13 != (0 : Int)))] [] hf56 (by kernel_rfl) .nil fun a53 hf57 => ?_
     refine w_if hf57 (b := (y13 != (0 : Int))) (by kernel_rfl) (fun hb3 => ?_) (fun hb3 => ?_)
     ·have hr17 := cond_t hb3 hr16
      refine w_sr (by kernel_rfl) ?_
      refine p_qn 1 [] [(6, pB b7 0), (37, .agg #[.slice none 0 0])] [] hf57 (by kernel_rfl) .nil fun a54 hf58 => ?_
      refine p_store_eq (i := 1) (j := 1) (b := b7) (off := 0) (vs := [.slice none 0 0]) (cs' := [.slice none 0 0]) hS32 hf58 rfl (by kernel_rfl) (by kernel_rfl) rfl fun ww30 a55 hS33 hf59 => ⟨fun _ => trivial, ?_⟩
      refine p_qt [] [(6, pB b7 0), (7, vI 4)] [] hf59 (by kernel_rfl) .nil fun a56 hf60 => ?_
      refine w_ret (by kernel_rfl) ?_
      refine r_then ?_
      refine p_ret (os := [.slice none 0 0]) (v := .tuple #[.agg #[.slice none 0 0], vI 4]) (obs := [.cell ⟨b7, 0, none⟩ (.slice none 0 0)]) hf60 (by kernel_rfl) (.cell (hS33.box (i := 1) rfl (j := 0) rfl) .nil) ?_
      have hS34 := St.ownNil hS33 PtT 52
      exact ⟨_, rfl, z4, [], 4, none, 0, (Zone.le_trans (Zone.le_trans k3 k4) k9), rfl, (St.pick 6 [0] hS34 (by kernel_rfl)), hr17⟩
     ·have hr18 := cond_f hb3 hr16
      refine w_skip (by kernel_rfl) ?_
      refine n_then ?_
      refine w_sq [] [(3, pB b4 0), (4, pB b5 0), (5, pB b6 0), (6, pB b7 0), (10, pB b8 0), (12, .slice none 0 0)] [] hf57 (by kernel_rfl) .nil fun a57 hf61 => ?_
      refine w_seq (by kernel_rfl) ?_
      refine w_sr (by kernel_rfl) ?_
      refine p_qn 4 [.slice o_x0 x0.length c_x0, .slice o_x1 x1.length c_x1] [(3, pB b4 0), (4, pB b5 0), (5, pB b6 0), (6, pB b7 0), (10, pB b8 0), (12, .slice none 0 0), (39, .slice o_x0 x0.length c_x0), (41, .slice o_x1 x1.length c_x1)] [.cell ⟨b4, 0, none⟩ (.slice o_x0 x0.length c_x0), .cell ⟨b5, 0, none⟩ (.slice o_x1 x1.length c_x1)] hf61 (by kernel_rfl) (.cell (hS32.box (i := 4) rfl (j := 0) rfl) (.cell (hS32.box (i := 3) rfl (j := 0) rfl) .nil)) fun a58 hf62 => ?_
      refine p_box (i := 4) (d := (some 42)) (cs := [.slice o_x0 x0.length c_x0, .slice o_x1 x1.length c_x1]) (T := 22) (v := fun b13 => .slice (some ⟨b13, 0, none⟩) 2 2) hS32 hf62 (fun b => by kernel_rfl) fun b13 ww31 a59 hS35 hf63 => ⟨fun _ => trivial, ?_⟩
      have hS36 := hS35.ownBox (T := (Ty.slice PtT)) (E := 22) (n := 2) (xs := [x0, x1]) (i := 0) rfl (Rows.cons (c := [.slice o_x0 x0.length c_x0]) (sliceRep ((SliceR.mono (Zone.le_trans (Zone.le_trans k3 k4) k9) hx_x0))) (Rows.cons (c := [.slice o_x1 x1.length c_x1]) (sliceRep ((SliceR.mono (Zone.le_trans (Zone.le_trans k3 k4) k9) hx_x1))) rfl)) rfl (by decide)
      obtain ⟨z9, k10, hS37, hx1⟩ := hS36.share (j := 0) rfl
      obtain ⟨r4, hd12, hr19⟩ := bind_some hr18
      refine p_call (i := 5) (d := some 43) (f := 125) (args := #[.slice (some ⟨b13, 0, none⟩) 2 2]) hf63 (by kernel_rfl) (f125_ok fuel ([x0, x1]) r4 hd12 z9 _ _ hS37 (some ⟨b13, 0, none⟩) 2 hx1) ?_
      rintro v12 ww32 a60 ⟨z10, e2, q2, k11, rfl, hS38, hx2⟩ hf64
      refine ⟨fun _ => trivial, ?_⟩
      refine p_qt [] [(3, pB b4 0), (4, pB b5 0), (5, pB b6 0), (6, pB b7 0), (10, pB b8 0), (12, .slice none 0 0), (43, .slice e2 r4.length q2), (44, vI (r4.length : Int)), (45, vI 0)] [] hf64 (by kernel_rfl) .nil fun a61 hf65 => ?_
      refine w_block (id := 0) (by kernel_rfl) ?_
      have hS39 := hS38.ownNil Ty.int 3
      have hf66 := Fr.keep (ks := [3, 4, 5, 6, 10, 12, 43, 44, 45]) (r := [(3, pB b4 0), (4, pB b5 0), (5, pB b6 0), (6, pB b7 0), (10, pB b8 0), (12, .slice none 0 0), (43, .slice e2 r4.length q2), (44, vI (r4.length : Int)), (45, vI 0)]) hf65 (by kernel_rfl)
      refine w_loop (by kernel_rfl) (fun n a w => ∃ z11 : Zone, ∃ y10 : List Int, ∃ y3 : Int, ∃ e3 : Option Addr, ∃ q3 : Nat, Zone.le z10 z11 ∧ Fr a 72 [(3, pB b4 0), (4, pB b5 0), (5, pB b6 0), (6, pB b7 0), (10, pB b8 0), (12, .slice e3 y10.length q3), (43, .slice e2 r4.length q2), (44, vI (r4.length : Int)), (45, vI y3)] ∧ St z11 (ownS Ty.int 3 e3 q3 y10 :: emp :: box b8 [vI y11, vI y12] 41 :: box b7 [.slice none 0 0] 24 :: box b6 [.func (.func 111) #[] #[]] 118 :: box b5 [.slice o_x1 x1.length c_x1] 24 :: box b4 [.slice o_x0 x0.length c_x0] 24 :: box b3 [.slice none 0 0] 24 :: box b2 [.slice o_x1 x1.length c_x1] 24 :: box b1 [.slice o_x0 x0.length c_x0] 24 :: L) w ∧ (F57_l1 fuel x0 x1 y11 y12 r4 n y10 y3) = some r) fuel ⟨z10, [], 0, none, 0, (Zone.le_refl _), hf66, hS39, hr19⟩ ?_
      rintro n3 a62 ww33 ⟨z11, y10, y3, e3, q3, k12, hf67, hS40, hr20⟩
      cases n3 with
      | zero => cases hr20
      | succ n2 =>
      refine w_sq [] [(3, pB b4 0), (4, pB b5 0), (5, pB b6 0), (6, pB b7 0), (10, pB b8 0), (12, .slice e3 y10.length q3), (43, .slice e2 r4.length q2), (44, vI (r4.length : Int)), (45, vI y3), (46, .bool (decide (y3 < (r4.length : Int))))] [] hf67 (by kernel_rfl) .nil fun a63 hf68 => ?_
      refine w_seq (by kernel_rfl) ?_
      refine w_if hf68 (b := (decide (y3 < (r4.length : Int)))) (by kernel_rfl) (fun hb4 => ?_) (fun hb4 => ?_)
      ·have hr21 := cond_t hb4 hr20
       refine w_skip (by kernel_rfl) ?_
       refine n_then ?_
       refine w_mid (by kernel_rfl) (fun a w => ∃ z12 : Zone, ∃ y4 : List Int, ∃ e4 : Option Addr, ∃ q4 : Nat, Zone.le z11 z12 ∧ Fr a 72 [(3, pB b4 0), (4, pB b5 0), (5, pB b6 0), (6, pB b7 0), (10, pB b8 0), (12, .slice e4 y4.length q4), (43, .slice e2 r4.length q2), (44, vI (r4.length : Int)), (45, vI y3)] ∧ St z12 (ownS Ty.int 3 e4 q4 y4 :: emp :: box b8 [vI y11, vI y12] 41 :: box b7 [.slice none 0 0] 24 :: box b6 [.func (.func 111) #[] #[]] 118 :: box b5 [.slice o_x1 x1.length c_x1] 24 :: box b4 [.slice o_x0 x0.length c_x0] 24 :: box b3 [.slice none 0 0] 24 :: box b2 [.slice o_x1 x1.length c_x1] 24 :: box b1 [.slice o_x0 x0.length c_x0] 24 :: L) w ∧ (F57_j3 (F57_l1 fuel x0 x1 y11 y12 r4 n2) y3 y4) = some r) ?_ ?_
       ·skip
        refine w_block (id := 1) (by kernel_rfl) ?_
        refine w_sr (by kernel_rfl) ?_
        obtain ⟨p2, hp17172, hr22⟩ := bind_some hr21
        obtain ⟨ad1, ho1, hb5, cc1, hc1, hk1⟩ := SliceR.getI (SliceR.mono k12 hx2) hp17172
        subst hc1
        refine p_qn 2 [.pointer (some ad1), vI p2.x, vI p2.lo, vI p2.hi] [(3, pB b4 0), (4, pB b5 0), (5, pB b6 0), (6, pB b7 0), (10, pB b8 0), (12, .slice e3 y10.length q3), (43, .slice e2 r4.length q2), (44, vI (r4.length : Int)), (45, vI y3), (48, .agg #[vI p2.x, vI p2.lo, vI p2.hi])] [.prop (e2 = some ad1), .prop (0 ≤ y3 ∧ y3 < (r4.length : Nat)), .cell ((ad1.add (Int.toNat y3 * 3)).add 0) (vI p2.x), .cell ((ad1.add (Int.toNat y3 * 3)).add 1) (vI p2.lo), .cell ((ad1.add (Int.toNat y3 * 3)).add 2) (vI p2.hi)] hf68 (by kernel_rfl) (.prop ho1 (.prop hb5 (.cell (hS40.cell (hk1 0 _ rfl)) (.cell (hS40.cell (hk1 1 _ rfl)) (.cell (hS40.cell (hk1 2 _ rfl)) .nil))))) fun a64 hf69 => ?_
        refine p_box (i := 2) (d := (some 14)) (cs := [vI 0, vI 0, vI 0]) (T := 52) (v := fun b14 => pB b14 0) hS40 hf69 (fun b => by kernel_rfl) fun b14 ww34 a65 hS41 hf70 => ⟨fun _ => trivial, ?_⟩
        refine p_store_eq (i := 3) (j := 0) (b := b14) (off := 0) (vs := [vI p2.x, vI p2.lo, vI p2.hi]) (cs' := [vI p2.x, vI p2.lo, vI p2.hi]) hS41 hf70 rfl (by kernel_rfl) (by kernel_rfl) rfl fun ww35 a66 hS42 hf71 => ⟨fun _ => trivial, ?_⟩
        refine p_dt (by kernel_rfl) ?_
        refine w_sr (by kernel_rfl) ?_
        refine p_qn 3 [vI y11, vI y12, vI p2.x] [(3, pB b4 0), (4, pB b5 0), (5, pB b6 0), (6, pB b7 0), (10, pB b8 0), (12, .slice e3 y10.length q3), (14, pB b14 0), (43, .slice e2 r4.length q2), (44, vI (r4.length : Int)), (45, vI y3), (49, .agg #[vI y11, vI y12]), (51, vI p2.x)] [.cell ⟨b8, 0, none⟩ (vI y11), .cell ⟨b8, 1, none⟩ (vI y12), .cell ⟨b14, 0, none⟩ (vI p2.x)] hf71 (by kernel_rfl) (.cell (hS42.box (i := 3) rfl (j := 0) rfl) (.cell (hS42.box (i := 3) rfl (j := 1) rfl) (.cell (hS42.box (i := 0) rfl (j := 0) rfl) .nil))) fun a67 hf72 => ?_
        obtain ⟨r5, hd13, hr23⟩ := bind_some hr22
        refine p_call (i := 3) (d := some 52) (f := 43) (args := #[.agg #[vI y11, vI y12], vI p2.x]) hf72 (by kernel_rfl) (f43_ok fuel y11 y12 p2.x r5 hd13 z11 _ _ hS42 ) ?_
        rintro v13 ww36 a68 ⟨z13, k13, rfl, hS43⟩ hf73
        refine ⟨fun _ => trivial, ?_⟩
        refine p_dt (by kernel_rfl) ?_
        refine w_if hf73 (b := r5) (by kernel_rfl) (fun hb6 => ?_) (fun hb6 => ?_)
        ·have hr24 := cond_t hb6 hr23
         refine w_reg (by kernel_rfl) ?_
         refine p_qn 3 [vI p2.x] [(3, pB b4 0), (4, pB b5 0), (5, pB b6 0), (6, pB b7 0), (10, pB b8 0), (43, .slice e2 r4.length q2), (44, vI (r4.length : Int)), (45, vI y3), (53, .slice e3 y10.length q3), (55, vI p2.x)] [.cell ⟨b14, 0, none⟩ (vI p2.x)] hf73 (by kernel_rfl) (.cell (hS43.box (i := 0) rfl (j := 0) rfl) .nil) fun a69 hf74 => ?_
         refine p_box (i := 3) (d := (some 56)) (cs := [vI p2.x]) (T := 3) (v := fun b15 => .slice (some ⟨b15, 0, none⟩) 1 1) hS43 hf74 (fun b => by kernel_rfl) fun b15 ww37 a70 hS44 hf75 => ⟨fun _ => trivial, ?_⟩
         have hS45 := hS44.ownBox (T := Ty.int) (E := 3) (n := 1) (xs := [p2.x]) (i := 0) rfl (Rows.cons (c := [vI p2.x]) rfl rfl) rfl (by decide)
         obtain ⟨d2, hd14, hr25⟩ := bind_some hr24
         refine p_append (T := Ty.int) (i := 4) (j := 2) (d := some 57) (o2 := (some ⟨b15, 0, none⟩)) (c2 := 1) (ys := ([p2.x])) el25 hS45 hf75 rfl (by kernel_rfl) (hS45.ownSrc (j := 0) rfl) hd14 fun e5 q5 ww38 a71 hS46 hf76 => ⟨fun _ => trivial, ?_⟩
         refine p_qz [] [(3, pB b4 0), (4, pB b5 0), (5, pB b6 0), (6, pB b7 0), (10, pB b8 0), (12, .slice e5 d2.length q5), (43, .slice e2 r4.length q2), (44, vI (r4.length : Int)), (45, vI y3)] [] hf76 (by kernel_rfl) .nil fun a72 hf77 => ?_
         refine n_block ?_
         refine n_then ?_
         have hf78 := Fr.keep (ks := [3, 4, 5, 6, 10, 12, 43, 44, 45]) (r := [(3, pB b4 0), (4, pB b5 0), (5, pB b6 0), (6, pB b7 0), (10, pB b8 0), (12, .slice e5 d2.length q5), (43, .slice e2 r4.length q2), (44, vI (r4.length : Int)), (45, vI y3)]) hf77 (by kernel_rfl)
         exact ⟨z13, d2, e5, q5, k13, hf78, (St.drop 2 hS46), hr25⟩
        ·have hr26 := cond_f hb6 hr23
         refine w_skip (by kernel_rfl) ?_
         refine n_block ?_
         refine n_then ?_
         have hf79 := Fr.keep (ks := [3, 4, 5, 6, 10, 12, 43, 44, 45]) (r := [(3, pB b4 0), (4, pB b5 0), (5, pB b6 0), (6, pB b7 0), (10, pB b8 0), (12, .slice e3 y10.length q3), (43, .slice e2 r4.length q2), (44, vI (r4.length : Int)), (45, vI y3)]) hf73 (by kernel_rfl)
         exact ⟨z13, y10, e3, q3, k13, hf79, (St.drop 1 hS43), hr26⟩
       ·rintro a73 ww39 ⟨z12, y4, e4, q4, k14, hf80, hS47, hr27⟩
        refine w_q [] [(3, pB b4 0), (4, pB b5 0), (5, pB b6 0), (6, pB b7 0), (10, pB b8 0), (12, .slice e4 y4.length q4), (43, .slice e2 r4.length q2), (44, vI (r4.length : Int)), (45, vI (w64 (y3 + (1 : Int))))] [] hf80 (by kernel_rfl) .nil fun a74 hf81 => ?_
        refine n_then ?_
        have hf82 := Fr.keep (ks := [3, 4, 5, 6, 10, 12, 43, 44, 45]) (r := [(3, pB b4 0), (4, pB b5 0), (5, pB b6 0), (6, pB b7 0), (10, pB b8 0), (12, .slice e4 y4.length q4), (43, .slice e2 r4.length q2), (44, vI (r4.length : Int)), (45, vI (w64 (y3 + (1 : Int))))]) hf81 (by kernel_rfl)
        exact ⟨n2, Nat.lt_succ_self n2, z12, y4, (w64 (y3 + (1 : Int))), e4, q4, (Zone.le_trans k12 k14), hf82, hS47, hr27⟩
      ·have hr28 := cond_f hb4 hr20
       refine w_exit (id := 0) (by kernel_rfl) ?_
       refine x_then ?_
       refine x_then ?_
       refine x_block ?_
       refine n_then ?_
       refine w_sr (by kernel_rfl) ?_
       refine p_qn 1 [] [(3, pB b4 0), (4, pB b5 0), (5, pB b6 0), (6, pB b7 0), (12, .slice e3 y10.length q3), (59, .slice e3 y10.length q3)] [] hf68 (by kernel_rfl) .nil fun a75 hf83 => ?_
       obtain ⟨u1, hd15, hr29⟩ := bind_some hr28
       refine p_call (i := 1) (d := some 60) (f := 126) (args := #[.slice e3 y10.length q3]) hf83 (by kernel_rfl) (sort126 hS40 (j := 0) rfl (lenC_spec hd15)) ?_
       rintro v14 ww40 a76 ⟨rfl, hS48⟩ hf84
       have hl1 := sortL_len y10
       have hf85 := Fr.conv (fl' := [(60, .tuple #[]), (3, pB b4 0), (4, pB b5 0), (5, pB b6 0), (6, pB b7 0), (12, .slice e3 ((sortL y10).length) q3), (59, .slice e3 ((sortL y10).length) q3)]) hf84 (by rw [hl1] <;> rfl)
       refine ⟨fun _ => trivial, ?_⟩
       refine p_dt (by kernel_rfl) ?_
       refine w_sr (by kernel_rfl) ?_
       refine p_qn 1 [] [(3, pB b4 0), (4, pB b5 0), (5, pB b6 0), (6, pB b7 0), (61, .slice e3 ((sortL y10).length) q3)] [] hf85 (by kernel_rfl) .nil fun a77 hf86 => ?_
       obtain ⟨u2, hd16, hr30⟩ := bind_some hr29
       refine p_call (i := 1) (d := some 62) (f := 127) (args := #[.slice e3 ((sortL y10).length) q3]) hf86 (by kernel_rfl) (compact127 hS48 (j := 0) rfl (lenC_spec hd16)) ?_
       rintro v15 ww41 a78 ⟨rfl, hS49⟩ hf87
       refine ⟨fun _ => trivial, ?_⟩
       refine p_qt [] [(3, pB b4 0), (4, pB b5 0), (5, pB b6 0), (6, pB b7 0), (12, .slice e3 ((compL (sortL y10)).length) q3)] [] hf87 (by kernel_rfl) .nil fun a79 hf88 => ?_
       refine w_seq (by kernel_rfl) ?_
       refine w_sq [] [(3, pB b4 0), (4, pB b5 0), (5, pB b6 0), (6, pB b7 0), (12, .slice e3 ((compL (sortL y10)).length) q3), (65, .bool (decide (((compL (sortL y10)).length : Int) > (40 : Int))))] [] hf88 (by kernel_rfl) .nil fun a80 hf89 => ?_
       refine w_if hf89 (b := (decide (((compL (sortL y10)).length : Int) > (40 : Int)))) (by kernel_rfl) (fun hb7 => ?_) (fun hb7 => ?_)
       ·have hr31 := cond_t hb7 hr30
        refine w_sr (by kernel_rfl) ?_
        refine p_qn 1 [] [(6, pB b7 0), (66, .agg #[.slice none 0 0])] [] hf89 (by kernel_rfl) .nil fun a81 hf90 => ?_
        refine p_store_eq (i := 1) (j := 3) (b := b7) (off := 0) (vs := [.slice none 0 0]) (cs' := [.slice none 0 0]) hS49 hf90 rfl (by kernel_rfl) (by kernel_rfl) rfl fun ww42 a82 hS50 hf91 => ⟨fun _ => trivial, ?_⟩
        refine p_qt [] [(6, pB b7 0), (7, vI 2)] [] hf91 (by kernel_rfl) .nil fun a83 hf92 => ?_
        refine w_ret (by kernel_rfl) ?_
        refine r_then ?_
        refine p_ret (os := [.slice none 0 0]) (v := .tuple #[.agg #[.slice none 0 0], vI 2]) (obs := [.cell ⟨b7, 0, none⟩ (.slice none 0 0)]) hf92 (by kernel_rfl) (.cell (hS50.box (i := 3) rfl (j := 0) rfl) .nil) ?_
        have hS51 := St.ownNil hS50 PtT 52
        exact ⟨_, rfl, z11, [], 2, none, 0, (Zone.le_trans (Zone.le_trans (Zone.le_trans (Zone.le_trans (Zone.le_trans k3 k4) k9) k10) k11) k12), rfl, (St.pick 8 [0] hS51 (by kernel_rfl)), hr31⟩
       ·have hr32 := cond_f hb7 hr30
        refine w_skip (by kernel_rfl) ?_
        refine n_then ?_
        refine w_sr (by kernel_rfl) ?_
        refine p_qn 2 [] [(6, pB b7 0), (67, .slice e3 ((compL (sortL y10)).length) q3), (68, .func (.func 128) #[] #[pB b6 0, pB b4 0, pB b5 0])] [] hf89 (by kernel_rfl) .nil fun a84 hf93 => ?_
        refine p_call (i := 2) (d := some 69) (f := 115) (args := #[.slice e3 ((compL (sortL y10)).length) q3, .func (.func 128) #[] #[pB b6 0, pB b4 0, pB b5 0]]) hf93 (by kernel_rfl) (Φ := fun v w => ∃ z14 : Zone, ∃ y5 : List Pt, ∃ y6 : Int, ∃ e6 : Option Addr, ∃ q6 : Nat, Zone.le z11 z14 ∧ v = .tuple #[.agg #[.slice e6 y5.length q6], vI y6] ∧ St z14 (ownS PtT 52 e6 q6 y5 :: ownS Ty.int 3 e3 q3 (compL (sortL y10)) :: emp :: box b8 [vI y11, vI y12] 41 :: box b7 [.slice none 0 0] 24 :: box b6 [.func (.func 111) #[] #[]] 118 :: box b5 [.slice o_x1 x1.length c_x1] 24 :: box b4 [.slice o_x0 x0.length c_x0] 24 :: box b3 [.slice none 0 0] 24 :: box b2 [.slice o_x1 x1.length c_x1] 24 :: box b1 [.slice o_x0 x0.length c_x0] 24 :: L) w ∧ (F57_j4 y5 y6) = some r) ?_ ?_
        ·refine calls_intro (N := 41) Try.func115 (by kernel_rfl) fun a85 hf94 => ?_
         refine w_sr (by kernel_rfl) ?_
         refine p_box (i := 0) (d := (some 4)) (cs := [.slice none 0 0]) (T := 24) (v := fun b16 => pB b16 0) hS49 hf94 (fun b => by kernel_rfl) fun b16 ww43 a86 hS52 hf95 => ⟨fun _ => trivial, ?_⟩
         refine p_qt [] [(0, .slice e3 ((compL (sortL y10)).length) q3), (1, .func (.func 128) #[] #[pB b6 0, pB b4 0, pB b5 0]), (4, pB b16 0)] [] hf95 (by kernel_rfl) .nil fun a87 hf96 => ?_
         refine w_sr (by kernel_rfl) ?_
         refine p_box (i := 0) (d := (some 6)) (cs := [.slice none 0 0]) (T := 24) (v := fun b17 => pB b17 0) hS52 hf96 (fun b => by kernel_rfl) fun b17 ww44 a88 hS53 hf97 => ⟨fun _ => trivial, ?_⟩
         refine p_dt (by kernel_rfl) ?_
         refine w_seq (by kernel_rfl) ?_
         refine w_sq [] [(1, .func (.func 128) #[] #[pB b6 0, pB b4 0, pB b5 0]), (4, pB b16 0), (6, pB b17 0), (10, .slice e3 ((compL (sortL y10)).length) q3), (11, vI ((compL (sortL y10)).length : Int)), (12, vI 0)] [] hf97 (by kernel_rfl) .nil fun a89 hf98 => ?_
         refine w_block (id := 0) (by kernel_rfl) ?_
         have hS54 := hS53.ownNil PtT 52
         have hf99 := Fr.keep (ks := [1, 4, 6, 10, 11, 12]) (r := [(1, .func (.func 128) #[] #[pB b6 0, pB b4 0, pB b5 0]), (4, pB b16 0), (6, pB b17 0), (10, .slice e3 ((compL (sortL y10)).length) q3), (11, vI ((compL (sortL y10)).length : Int)), (12, vI 0)]) hf98 (by kernel_rfl)
         refine w_loop (by kernel_rfl) (fun n a w => ∃ z15 : Zone, ∃ y7 : List Pt, ∃ y8 : Int, ∃ e7 : Option Addr, ∃ q7 : Nat, Zone.le z11 z15 ∧ Fr a 41 [(1, .func (.func 128) #[] #[pB b6 0, pB b4 0, pB b5 0]), (4, pB b16 0), (6, pB b17 0), (10, .slice e3 ((compL (sortL y10)).length) q3), (11, vI ((compL (sortL y10)).length : Int)), (12, vI y8)] ∧ St z15 (ownS PtT 52 e7 q7 y7 :: box b17 [.slice e7 y7.length q7] 24 :: box b16 [.slice none 0 0] 24 :: ownS Ty.int 3 e3 q3 (compL (sortL y10)) :: emp :: box b8 [vI y11, vI y12] 41 :: box b7 [.slice none 0 0] 24 :: box b6 [.func (.func 111) #[] #[]] 118 :: box b5 [.slice o_x1 x1.length c_x1] 24 :: box b4 [.slice o_x0 x0.length c_x0] 24 :: box b3 [.slice none 0 0] 24 :: box b2 [.slice o_x1 x1.length c_x1] 24 :: box b1 [.slice o_x0 x0.length c_x0] 24 :: L) w ∧ (F57_l2 fuel x0 x1 y10 n y7 y8) = some r) fuel ⟨z11, [], 0, none, 0, (Zone.le_refl _), hf99, hS54, hr32⟩ ?_
         rintro n4 a90 ww45 ⟨z15, y7, y8, e7, q7, k15, hf100, hS55, hr33⟩
         cases n4 with
         | zero => cases hr33
         | succ n1 =>
         refine w_sq [] [(1, .func (.func 128) #[] #[pB b6 0, pB b4 0, pB b5 0]), (4, pB b16 0), (6, pB b17 0), (10, .slice e3 ((compL (sortL y10)).length) q3), (11, vI ((compL (sortL y10)).length : Int)), (12, vI y8), (13, .bool (decide (y8 < ((compL (sortL y10)).length : Int))))] [] hf100 (by kernel_rfl) .nil fun a91 hf101 => ?_
         refine w_seq (by kernel_rfl) ?_
         refine w_if hf101 (b := (decide (y8 < ((compL (sortL y10)).length : Int)))) (by kernel_rfl) (fun hb8 => ?_) (fun hb8 => ?_)
         ·have hr34 := cond_t hb8 hr33
          refine w_skip (by kernel_rfl) ?_
          refine n_then ?_
          refine w_seq (by kernel_rfl) ?_
          refine w_block (id := 1) (by kernel_rfl) ?_
          obtain ⟨p1, hp28170, hr35⟩ := bind_some hr34
          obtain ⟨ad2, ho2, hb9, cc2, hc2, hk2⟩ := hS55.ownGet (j := 3) rfl hp28170
          subst hc2
          refine w_sq [.pointer (some ad2), vI p1] [(1, .func (.func 128) #[] #[pB b6 0, pB b4 0, pB b5 0]), (4, pB b16 0), (6, pB b17 0), (8, vI p1), (10, .slice e3 ((compL (sortL y10)).length) q3), (11, vI ((compL (sortL y10)).length : Int)), (12, vI y8)] [.prop (e3 = some ad2), .prop (0 ≤ y8 ∧ y8 < ((compL (sortL y10)).length : Nat)), .cell ((ad2.add (Int.toNat y8 * 1)).add 0) (vI p1)] hf101 (by kernel_rfl) (.prop ho2 (.prop hb9 (.cell (hk2 0 _ rfl) .nil))) fun a92 hf102 => ?_
          refine w_sr (by kernel_rfl) ?_
          refine p_qn 2 [] [(1, .func (.func 128) #[] #[pB b6 0, pB b4 0, pB b5 0]), (4, pB b16 0), (6, pB b17 0), (8, vI p1), (10, .slice e3 ((compL (sortL y10)).length) q3), (11, vI ((compL (sortL y10)).length : Int)), (12, vI y8), (16, .func (.func 128) #[] #[pB b6 0, pB b4 0, pB b5 0]), (17, vI p1)] [] hf102 (by kernel_rfl) .nil fun a93 hf103 => ?_
          refine p_inl (i := 2) (d := some 18) (f := 128) (args := #[vI p1, pB b6 0, pB b4 0, pB b5 0]) (N' := 14) hf103 (by kernel_rfl) Try.func128 (by kernel_rfl) fun a94 hf104 => ?_
          refine w_sr (by kernel_rfl) ?_
          refine p_box (i := 0) (d := (some 5)) (cs := [vI 0, vI 0]) (T := 41) (v := fun b18 => pB b18 0) hS55 hf104 (fun b => by kernel_rfl) fun b18 ww46 a95 hS56 hf105 => ⟨fun _ => trivial, ?_⟩
          refine p_dt (by kernel_rfl) ?_
          refine w_seq (by kernel_rfl) ?_
          have hS57 := hS56.drew
          have s7 : Sub z15 (box b18 [vI 0, vI 0] 41 :: ownS PtT 52 e7 q7 y7 :: box b17 [.slice e7 y7.length q7] 24 :: box b16 [.slice none 0 0] 24 :: ownS Ty.int 3 e3 q3 (compL (sortL y10)) :: emp :: box b8 [vI y11, vI y12] 41 :: box b7 [.slice none 0 0] 24 :: box b6 [.func (.func 111) #[] #[]] 118 :: box b5 [.slice o_x1 x1.length c_x1] 24 :: box b4 [.slice o_x0 x0.length c_x0] 24 :: box b3 [.slice none 0 0] 24 :: box b2 [.slice o_x1 x1.length c_x1] 24 :: box b1 [.slice o_x0 x0.length c_x0] 24 :: L) _ := Sub.of (Zone.le_refl _) hS57
          refine w_regD (by kernel_rfl) [(0, true), (1, true), (2, true), (4, true), (5, true), (3, false), (6, false), (7, false), (8, false)] [7, 8] (Sub z15 (box b18 [vI 0, vI 0] 41 :: ownS PtT 52 e7 q7 y7 :: box b17 [.slice e7 y7.length q7] 24 :: box b16 [.slice none 0 0] 24 :: ownS Ty.int 3 e3 q3 (compL (sortL y10)) :: emp :: box b8 [vI y11, vI y12] 41 :: box b7 [.slice none 0 0] 24 :: box b6 [.func (.func 111) #[] #[]] 118 :: box b5 [.slice o_x1 x1.length c_x1] 24 :: box b4 [.slice o_x0 x0.length c_x0] 24 :: box b3 [.slice none 0 0] 24 :: box b2 [.slice o_x1 x1.length c_x1] 24 :: box b1 [.slice o_x0 x0.length c_x0] 24 :: L)) (by kernel_rfl) s7 ?_
          refine p_qS 5 [.func (.func 111) #[] #[], .slice o_x0 x0.length c_x0, .slice o_x1 x1.length c_x1] [(5, pB b18 0), (6, .func (.func 111) #[] #[]), (7, .agg #[.slice o_x0 x0.length c_x0]), (8, vI p1), (10, .agg #[.slice o_x1 x1.length c_x1]), (11, vI p1)] [.cell ⟨b6, 0, none⟩ (.func (.func 111) #[] #[]), .cell ⟨b4, 0, none⟩ (.slice o_x0 x0.length c_x0), .cell ⟨b5, 0, none⟩ (.slice o_x1 x1.length c_x1)] [] s7 hf105 (by kernel_rfl) (fun _ s => (.cell (s.box (i := 8) rfl (j := 0) rfl) (.cell (s.box (i := 10) rfl (j := 0) rfl) (.cell (s.box (i := 9) rfl (j := 0) rfl) .nil)))) .nil fun a96 hf106 => ?_
          obtain ⟨r2, hd17, hr36⟩ := bind_some hr35
          refine p_call (i := 3) (d := some 9) (f := 88) (args := #[.agg #[.slice o_x0 x0.length c_x0], vI p1]) hf106 (by kernel_rfl) (f88_ok fuel x0 p1 r2 hd17 z15 _ _ hS57 o_x0 c_x0 (SliceR.mono (Zone.le_trans (Zone.le_trans (Zone.le_trans (Zone.le_trans (Zone.le_trans (Zone.le_trans k3 k4) k9) k10) k11) k12) k15) hx_x0)) ?_
          rintro v16 ww47 a97 ⟨z16, k16, rfl, hS58⟩ hf107
          refine ⟨fun _ => Sub.of k16 hS58, ?_⟩
          have s8 : Sub z15 (box b18 [vI 0, vI 0] 41 :: ownS PtT 52 e7 q7 y7 :: box b17 [.slice e7 y7.length q7] 24 :: box b16 [.slice none 0 0] 24 :: ownS Ty.int 3 e3 q3 (compL (sortL y10)) :: emp :: box b8 [vI y11, vI y12] 41 :: box b7 [.slice none 0 0] 24 :: box b6 [.func (.func 111) #[] #[]] 118 :: box b5 [.slice o_x1 x1.length c_x1] 24 :: box b4 [.slice o_x0 x0.length c_x0] 24 :: box b3 [.slice none 0 0] 24 :: box b2 [.slice o_x1 x1.length c_x1] 24 :: box b1 [.slice o_x0 x0.length c_x0] 24 :: L) _ := Sub.of k16 hS58
          obtain ⟨r3, hd18, hr37⟩ := bind_some hr36
          refine p_call (i := 6) (d := some 12) (f := 88) (args := #[.agg #[.slice o_x1 x1.length c_x1], vI p1]) hf107 (by kernel_rfl) (f88_ok fuel x1 p1 r3 hd18 z16 _ _ hS58 o_x1 c_x1 (SliceR.mono (Zone.le_trans (Zone.le_trans (Zone.le_trans (Zone.le_trans (Zone.le_trans (Zone.le_trans (Zone.le_trans k3 k4) k9) k10) k11) k12) k15) k16) hx_x1)) ?_
          rintro v17 ww48 a98 ⟨z17, k17, rfl, hS59⟩ hf108
          refine ⟨fun _ => Sub.of (Zone.le_trans k16 k17) hS59, ?_⟩
          have s9 : Sub z15 (box b18 [vI 0, vI 0] 41 :: ownS PtT 52 e7 q7 y7 :: box b17 [.slice e7 y7.length q7] 24 :: box b16 [.slice none 0 0] 24 :: ownS Ty.int 3 e3 q3 (compL (sortL y10)) :: emp :: box b8 [vI y11, vI y12] 41 :: box b7 [.slice none 0 0] 24 :: box b6 [.func (.func 111) #[] #[]] 118 :: box b5 [.slice o_x1 x1.length c_x1] 24 :: box b4 [.slice o_x0 x0.length c_x0] 24 :: box b3 [.slice none 0 0] 24 :: box b2 [.slice o_x1 x1.length c_x1] 24 :: box b1 [.slice o_x0 x0.length c_x0] 24 :: L) _ := Sub.of (Zone.le_trans k16 k17) hS59
          obtain ⟨r1, hd19, hr38⟩ := bind_some hr37
          refine p_call (i := 7) (d := some 13) (f := 111) (args := #[.agg #[vI r2.1, vI r2.2], .agg #[vI r3.1, vI r3.2]]) hf108 (by kernel_rfl) (f111_ok fuel r2.1 r2.2 r3.1 r3.2 r1 hd19 z17 _ _ hS59 ) ?_
          rintro v18 ww49 a99 ⟨rfl, hS60⟩ hf109
          refine ⟨fun e => absurd e (by decide), ?_⟩
          refine p_store_eq (i := 8) (j := 0) (b := b18) (off := 0) (vs := [vI r1.1, vI r1.2]) (cs' := [vI r1.1, vI r1.2]) hS60 hf109 rfl (by kernel_rfl) (by kernel_rfl) rfl fun ww50 a100 hS61 hf110 => ⟨fun e => absurd e (by decide), ?_⟩
          refine p_dt (by kernel_rfl) ?_
          refine w_ret (by kernel_rfl) ?_
          refine p_ret (os := [vI r1.1, vI r1.2]) (v := .agg #[vI r1.1, vI r1.2]) (obs := [.cell ⟨b18, 0, none⟩ (vI r1.1), .cell ⟨b18, 1, none⟩ (vI r1.2)]) hf110 (by kernel_rfl) (.cell (hS61.box (i := 0) rfl (j := 0) rfl) (.cell (hS61.box (i := 0) rfl (j := 1) rfl) .nil)) ?_
          refine ⟨_, rfl, fun a101 hf111 => ?_⟩
          have hS62 := St.drop 1 hS61
          refine ⟨fun _ => trivial, ?_⟩
          refine p_box (i := 3) (d := (some 9)) (cs := [vI 0, vI 0]) (T := 41) (v := fun b19 => pB b19 0) hS62 hf111 (fun b => by kernel_rfl) fun b19 ww51 a102 hS63 hf112 => ⟨fun _ => trivial, ?_⟩
          refine p_store_eq (i := 4) (j := 0) (b := b19) (off := 0) (vs := [vI r1.1, vI r1.2]) (cs' := [vI r1.1, vI r1.2]) hS63 hf112 rfl (by kernel_rfl) (by kernel_rfl) rfl fun ww52 a103 hS64 hf113 => ⟨fun _ => trivial, ?_⟩
          refine p_dt (by kernel_rfl) ?_
          refine w_seq (by kernel_rfl) ?_
          refine w_mid (by kernel_rfl) (fun a w => ∃ z18 : Zone, ∃ y9 : Bool, Zone.le z17 z18 ∧ Fr a 41 [(1, .func (.func 128) #[] #[pB b6 0, pB b4 0, pB b5 0]), (4, pB b16 0), (6, pB b17 0), (8, vI p1), (9, pB b19 0), (10, .slice e3 ((compL (sortL y10)).length) q3), (11, vI ((compL (sortL y10)).length : Int)), (12, vI y8), (26, .bool y9)] ∧ St z18 (box b19 [vI r1.1, vI r1.2] 41 :: ownS PtT 52 e7 q7 y7 :: box b17 [.slice e7 y7.length q7] 24 :: box b16 [.slice none 0 0] 24 :: ownS Ty.int 3 e3 q3 (compL (sortL y10)) :: emp :: box b8 [vI y11, vI y12] 41 :: box b7 [.slice none 0 0] 24 :: box b6 [.func (.func 111) #[] #[]] 118 :: box b5 [.slice o_x1 x1.length c_x1] 24 :: box b4 [.slice o_x0 x0.length c_x0] 24 :: box b3 [.slice none 0 0] 24 :: box b2 [.slice o_x1 x1.length c_x1] 24 :: box b1 [.slice o_x0 x0.length c_x0] 24 :: L) w ∧ (F57_j5 (F57_l2 fuel x0 x1 y10 n1) y7 y8 p1 r1 y9) = some r) ?_ ?_
          ·skip
           refine w_reg (by kernel_rfl) ?_
           refine p_qn 4 [vI r1.1] [(1, .func (.func 128) #[] #[pB b6 0, pB b4 0, pB b5 0]), (4, pB b16 0), (6, pB b17 0), (8, vI p1), (9, pB b19 0), (10, .slice e3 ((compL (sortL y10)).length) q3), (11, vI ((compL (sortL y10)).length : Int)), (12, vI y8), (22, .bool (decide (r1.1 < (-1000000000 : Int))))] [.cell ⟨b19, 0, none⟩ (vI r1.1)] hf113 (by kernel_rfl) (.cell (hS64.box (i := 0) rfl (j := 0) rfl) .nil) fun a104 hf114 => ?_
           rcases Bool.eq_false_or_eq_true (decide (r1.1 < (-1000000000 : Int))) with hb10 | hb10
           ·have hr39 := cond_t hb10 hr38
            have hf115 := Fr.conv hf114 (congrArg (fun z => ([(1, .func (.func 128) #[] #[pB b6 0, pB b4 0, pB b5 0]), (4, pB b16 0), (6, pB b17 0), (8, vI p1), (9, pB b19 0), (10, .slice e3 ((compL (sortL y10)).length) q3), (11, vI ((compL (sortL y10)).length : Int)), (12, vI y8), (22, .bool z)] : FL)) hb10)
            refine p_qt [] [(1, .func (.func 128) #[] #[pB b6 0, pB b4 0, pB b5 0]), (4, pB b16 0), (6, pB b17 0), (8, vI p1), (9, pB b19 0), (10, .slice e3 ((compL (sortL y10)).length) q3), (11, vI ((compL (sortL y10)).length : Int)), (12, vI y8), (23, undef), (24, undef), (25, undef), (26, .bool true)] [] hf115 (by kernel_rfl) .nil fun a105 hf116 => ?_
            have hf117 := Fr.keep (ks := [1, 4, 6, 8, 9, 10, 11, 12, 26]) (r := [(1, .func (.func 128) #[] #[pB b6 0, pB b4 0, pB b5 0]), (4, pB b16 0), (6, pB b17 0), (8, vI p1), (9, pB b19 0), (10, .slice e3 ((compL (sortL y10)).length) q3), (11, vI ((compL (sortL y10)).length : Int)), (12, vI y8), (26, .bool true)]) hf116 (by kernel_rfl)
            exact ⟨z17, true, (Zone.le_refl _), hf117, hS64, hr39⟩
           ·have hr40 := cond_f hb10 hr38
            have hf118 := Fr.conv hf114 (congrArg (fun z => ([(1, .func (.func 128) #[] #[pB b6 0, pB b4 0, pB b5 0]), (4, pB b16 0), (6, pB b17 0), (8, vI p1), (9, pB b19 0), (10, .slice e3 ((compL (sortL y10)).length) q3), (11, vI ((compL (sortL y10)).length : Int)), (12, vI y8), (22, .bool z)] : FL)) hb10)
            refine p_qt [vI r1.2] [(1, .func (.func 128) #[] #[pB b6 0, pB b4 0, pB b5 0]), (4, pB b16 0), (6, pB b17 0), (8, vI p1), (9, pB b19 0), (10, .slice e3 ((compL (sortL y10)).length) q3), (11, vI ((compL (sortL y10)).length : Int)), (12, vI y8), (23, pB b19 1), (24, vI r1.2), (25, .bool (decide (r1.2 > (1000000000 : Int)))), (26, .bool (decide (r1.2 > (1000000000 : Int))))] [.cell ⟨b19, 1, none⟩ (vI r1.2)] hf118 (by kernel_rfl) (.cell (hS64.box (i := 0) rfl (j := 1) rfl) .nil) fun a106 hf119 => ?_
            have hf120 := Fr.keep (ks := [1, 4, 6, 8, 9, 10, 11, 12, 26]) (r := [(1, .func (.func 128) #[] #[pB b6 0, pB b4 0, pB b5 0]), (4, pB b16 0), (6, pB b17 0), (8, vI p1), (9, pB b19 0), (10, .slice e3 ((compL (sortL y10)).length) q3), (11, vI ((compL (sortL y10)).length : Int)), (12, vI y8), (26, .bool (decide (r1.2 > (1000000000 : Int))))]) hf119 (by kernel_rfl)
            exact ⟨z17, (decide (r1.2 > (1000000000 : Int))), (Zone.le_refl _), hf120, hS64, hr40⟩
          ·rintro a107 ww53 ⟨z18, y9, k18, hf121, hS65, hr41⟩
           refine w_if hf121 (b := y9) (by kernel_rfl) (fun hb11 => ?_) (fun hb11 => ?_)
           ·have hr42 := cond_t hb11 hr41
            refine w_sr (by kernel_rfl) ?_
            refine p_qn 1 [] [(4, pB b16 0), (27, .agg #[.slice none 0 0])] [] hf121 (by kernel_rfl) .nil fun a108 hf122 => ?_
            refine p_store_eq (i := 1) (j := 3) (b := b16) (off := 0) (vs := [.slice none 0 0]) (cs' := [.slice none 0 0]) hS65 hf122 rfl (by kernel_rfl) (by kernel_rfl) rfl fun ww54 a109 hS66 hf123 => ⟨fun _ => trivial, ?_⟩
            refine p_qt [] [(4, pB b16 0), (5, vI 5)] [] hf123 (by kernel_rfl) .nil fun a110 hf124 => ?_
            refine w_ret (by kernel_rfl) ?_
            refine r_then ?_
            refine r_block ?_
            refine r_then ?_
            refine r_then ?_
            refine r_block ?_
            refine r_then ?_
            refine p_ret (os := [.slice none 0 0]) (v := .tuple #[.agg #[.slice none 0 0], vI 5]) (obs := [.cell ⟨b16, 0, none⟩ (.slice none 0 0)]) hf124 (by kernel_rfl) (.cell (hS66.box (i := 3) rfl (j := 0) rfl) .nil) ?_
            have hS67 := St.ownNil hS66 PtT 52
            exact ⟨_, rfl, z18, [], 5, none, 0, (Zone.le_trans (Zone.le_trans (Zone.le_trans k15 k16) k17) k18), rfl, (St.pick 5 [0] hS67 (by kernel_rfl)), hr42⟩
           ·have hr43 := cond_f hb11 hr41
            refine w_skip (by kernel_rfl) ?_
            refine n_then ?_
            refine w_reg (by kernel_rfl) ?_
            refine p_qn 8 [.slice e7 y7.length q7, vI r1.1, vI r1.2] [(1, .func (.func 128) #[] #[pB b6 0, pB b4 0, pB b5 0]), (4, pB b16 0), (6, pB b17 0), (10, .slice e3 ((compL (sortL y10)).length) q3), (11, vI ((compL (sortL y10)).length : Int)), (12, vI y8), (29, .slice e7 y7.length q7), (35, .agg #[vI p1, vI r1.1, vI r1.2])] [.cell ⟨b17, 0, none⟩ (.slice e7 y7.length q7), .cell ⟨b19, 0, none⟩ (vI r1.1), .cell ⟨b19, 1, none⟩ (vI r1.2)] hf121 (by kernel_rfl) (.cell (hS65.box (i := 2) rfl (j := 0) rfl) (.cell (hS65.box (i := 0) rfl (j := 0) rfl) (.cell (hS65.box (i := 0) rfl (j := 1) rfl) .nil))) fun a111 hf125 => ?_
            refine p_box (i := 8) (d := (some 36)) (cs := [vI p1, vI r1.1, vI r1.2]) (T := 52) (v := fun b20 => .slice (some ⟨b20, 0, none⟩) 1 1) hS65 hf125 (fun b => by kernel_rfl) fun b20 ww55 a112 hS68 hf126 => ⟨fun _ => trivial, ?_⟩
            have hS69 := hS68.ownBox (T := PtT) (E := 52) (n := 1) (xs := [⟨p1, r1.1, r1.2⟩]) (i := 0) rfl (Rows.cons (c := [vI p1, vI r1.1, vI r1.2]) rfl rfl) rfl (by decide)
            obtain ⟨d1, hd20, hr44⟩ := bind_some hr43
            refine p_append (T := PtT) (i := 9) (j := 2) (d := some 37) (o2 := (some ⟨b20, 0, none⟩)) (c2 := 1) (ys := ([⟨p1, r1.1, r1.2⟩])) el22 hS69 hf126 rfl (by kernel_rfl) (hS69.ownSrc (j := 0) rfl) hd20 fun e8 q8 ww56 a113 hS70 hf127 => ⟨fun _ => trivial, ?_⟩
            refine p_qn 1 [] [(1, .func (.func 128) #[] #[pB b6 0, pB b4 0, pB b5 0]), (4, pB b16 0), (6, pB b17 0), (10, .slice e3 ((compL (sortL y10)).length) q3), (11, vI ((compL (sortL y10)).length : Int)), (12, vI y8), (37, .slice e8 d1.length q8), (38, pB b17 0)] [] hf127 (by kernel_rfl) .nil fun a114 hf128 => ?_
            refine p_store_eq (i := 11) (j := 3) (b := b17) (off := 0) (vs := [.slice e8 d1.length q8]) (cs' := [.slice e8 d1.length q8]) hS70 hf128 rfl (by kernel_rfl) (by kernel_rfl) rfl fun ww57 a115 hS71 hf129 => ⟨fun _ => trivial, ?_⟩
            refine p_done (by kernel_rfl) ?_
            refine n_block ?_
            refine n_then ?_
            refine w_q [] [(1, .func (.func 128) #[] #[pB b6 0, pB b4 0, pB b5 0]), (4, pB b16 0), (6, pB b17 0), (10, .slice e3 ((compL (sortL y10)).length) q3), (11, vI ((compL (sortL y10)).length : Int)), (12, vI (w64 (y8 + (1 : Int))))] [] hf129 (by kernel_rfl) .nil fun a116 hf130 => ?_
            refine n_then ?_
            have hf131 := Fr.keep (ks := [1, 4, 6, 10, 11, 12]) (r := [(1, .func (.func 128) #[] #[pB b6 0, pB b4 0, pB b5 0]), (4, pB b16 0), (6, pB b17 0), (10, .slice e3 ((compL (sortL y10)).length) q3), (11, vI ((compL (sortL y10)).length : Int)), (12, vI (w64 (y8 + (1 : Int))))]) hf130 (by kernel_rfl)
            exact ⟨n1, Nat.lt_succ_self n1, z18, d1, (w64 (y8 + (1 : Int))), e8, q8, (Zone.le_trans (Zone.le_trans (Zone.le_trans k15 k16) k17) k18), hf131, (St.drop 2 hS71), hr44⟩
         ·have hr45 := cond_f hb8 hr33
          refine w_exit (id := 0) (by kernel_rfl) ?_
          refine x_then ?_
          refine x_then ?_
          refine x_block ?_
          refine n_then ?_
          refine w_sr (by kernel_rfl) ?_
          refine p_qn 1 [.slice e7 y7.length q7] [(4, pB b16 0), (40, .agg #[.slice e7 y7.length q7])] [.cell ⟨b17, 0, none⟩ (.slice e7 y7.length q7)] hf101 (by kernel_rfl) (.cell (hS55.box (i := 1) rfl (j := 0) rfl) .nil) fun a117 hf132 => ?_
          refine p_store_eq (i := 1) (j := 2) (b := b16) (off := 0) (vs := [.slice e7 y7.length q7]) (cs' := [.slice e7 y7.length q7]) hS55 hf132 rfl (by kernel_rfl) (by kernel_rfl) rfl fun ww58 a118 hS72 hf133 => ⟨fun _ => trivial, ?_⟩
          refine p_qt [] [(4, pB b16 0), (5, vI 0)] [] hf133 (by kernel_rfl) .nil fun a119 hf134 => ?_
          refine w_ret (by kernel_rfl) ?_
          refine p_ret (os := [.slice e7 y7.length q7]) (v := .tuple #[.agg #[.slice e7 y7.length q7], vI 0]) (obs := [.cell ⟨b16, 0, none⟩ (.slice e7 y7.length q7)]) hf134 (by kernel_rfl) (.cell (hS72.box (i := 2) rfl (j := 0) rfl) .nil) ?_
          exact ⟨_, rfl, z15, y7, 0, e7, q7, k15, rfl, (St.pick 3 [0] hS72 (by kernel_rfl)), hr45⟩
        ·rintro v19 ww59 a120 ⟨z14, y5, y6, e6, q6, k19, rfl, hS73, hr46⟩ hf135
         refine ⟨fun _ => trivial, ?_⟩
         refine p_qn 2 [] [(6, pB b7 0), (70, .agg #[.slice e6 y5.length q6]), (71, vI y6)] [] hf135 (by kernel_rfl) .nil fun a121 hf136 => ?_
         refine p_store_eq (i := 5) (j := 4) (b := b7) (off := 0) (vs := [.slice e6 y5.length q6]) (cs' := [.slice e6 y5.length q6]) hS73 hf136 rfl (by kernel_rfl) (by kernel_rfl) rfl fun ww60 a122 hS74 hf137 => ⟨fun _ => trivial, ?_⟩
         refine p_qt [] [(6, pB b7 0), (7, vI y6)] [] hf137 (by kernel_rfl) .nil fun a123 hf138 => ?_
         refine w_ret (by kernel_rfl) ?_
         refine p_ret (os := [.slice e6 y5.length q6]) (v := .tuple #[.agg #[.slice e6 y5.length q6], vI y6]) (obs := [.cell ⟨b7, 0, none⟩ (.slice e6 y5.length q6)]) hf138 (by kernel_rfl) (.cell (hS74.box (i := 4) rfl (j := 0) rfl) .nil) ?_
         exact ⟨_, rfl, z14, y5, y6, e6, q6, (Zone.le_trans (Zone.le_trans (Zone.le_trans (Zone.le_trans (Zone.le_trans (Zone.le_trans k3 k4) k9) k10) k11) k12) k19), rfl, (St.pick 8 [0] hS74 (by kernel_rfl)), hr46⟩
 ·rintro v20 ww61 a124 ⟨z1, y1, y2, e1, q1, k20, rfl, hS75, hr47⟩ hf139
  refine ⟨fun _ => trivial, ?_⟩
  refine p_qn 2 [] [(4, pB b3 0), (9, .agg #[.slice e1 y1.length q1]), (10, vI y2)] [] hf139 (by kernel_rfl) .nil fun a125 hf140 => ?_
  refine p_store_eq (i := 5) (j := 1) (b := b3) (off := 0) (vs := [.slice e1 y1.length q1]) (cs' := [.slice e1 y1.length q1]) hS75 hf140 rfl (by kernel_rfl) (by kernel_rfl) rfl fun ww62 a126 hS76 hf141 => ⟨fun _ => trivial, ?_⟩
  refine p_qt [] [(4, pB b3 0), (5, vI y2)] [] hf141 (by kernel_rfl) .nil fun a127 hf142 => ?_
  refine w_ret (by kernel_rfl) ?_
  obtain ⟨z19, k21, hS77, hx3⟩ := hS76.share (j := 0) rfl
  refine p_ret (os := [.slice e1 y1.length q1]) (v := .tuple #[.agg #[.slice e1 y1.length q1], vI y2]) (obs := [.cell ⟨b3, 0, none⟩ (.slice e1 y1.length q1)]) hf142 (by kernel_rfl) (.cell (hS77.box (i := 1) rfl (j := 0) rfl) .nil) ?_
  obtain rfl := some_eq hr47
  exact ⟨_, rfl, z19, e1, q1, (Zone.le_trans k20 k21), rfl, (St.drop 4 hS77), hx3⟩
def F63_l1 (x0 : List Pt) (x1 : List Pt) : Nat → Int → Option (Bool)
  | 0, _ => none
  | n1 + 1, y1 =>
    let k1 : Int → Option (Bool) := F63_l1 x0 x1 n1
    (cond (decide (y1 < (x0.length : Int))) ((getI x0 y1).bind fun p1 => ((getI x1 y1).bind fun p2 => (cond (!((p1.x == p2.x) && ((p1.lo == p2.lo) && ((p1.hi == p2.hi) && true)))) (some (false)) (k1 (w64 (y1 + (1 : Int))))))) (some (true)))
def F63 (fuel : Nat) (x0 : List Pt) (x1 : List Pt) : Option (Bool) :=
  (cond ((x0.length : Int) != (x1.length : Int)) (some (false)) (F63_l1 x0 x1 fuel 0))
set_option maxRecDepth 100000 in
theorem f63_ok (fuel : Nat) (x0 : List Pt) (x1 : List Pt) (r : Bool) (hr : F63 fuel x0 x1 = some r) (h : Zone) (L : List Atom) (w : World) (hS : St h L w) (o_x0 : Option Addr) (c_x0 : Nat) (hx_x0 : SliceR PtT h o_x0 c_x0 x0) (o_x1 : Option Addr) (c_x1 : Nat) (hx_x1 : SliceR PtT h o_x1 c_x1 x1) :
    Calls Try.prog 63 #[.agg #[.slice o_x0 x0.length c_x0], .agg #[.slice o_x1 x1.length c_x1]] w fun e w' => ∃ v, e = .returned v ∧ (∃ h', Zone.le h h' ∧ v = .bool r ∧ St h' L w') := by
 refine calls_intro (N := 31) Try.func63 (by kernel_rfl) fun a hf => ?_
 refine w_sr (by kernel_rfl) ?_
 refine p_box (i := 0) (d := (some 2)) (cs := [.slice o_x0 x0.length c_x0]) (T := 24) (v := fun b1 => pB b1 0) hS hf (fun b => by kernel_rfl) fun b1 ww1 a1 hS1 hf1 => ⟨fun _ => trivial, ?_⟩
 refine p_box (i := 1) (d := (some 3)) (cs := [.slice o_x1 x1.length c_x1]) (T := 24) (v := fun b2 => pB b2 0) hS1 hf1 (fun b => by kernel_rfl) fun b2 ww2 a2 hS2 hf2 => ⟨fun _ => trivial, ?_⟩
 refine p_qt [] [(2, pB b1 0), (3, pB b2 0)] [] hf2 (by kernel_rfl) .nil fun a3 hf3 => ?_
 refine w_seq (by kernel_rfl) ?_
 refine w_sq [.slice o_x0 x0.length c_x0, .slice o_x1 x1.length c_x1] [(2, pB b1 0), (3, pB b2 0), (12, .bool ((x0.length : Int) != (x1.length : Int)))] [.cell ⟨b1, 0, none⟩ (.slice o_x0 x0.length c_x0), .cell ⟨b2, 0, none⟩ (.slice o_x1 x1.length c_x1)] hf3 (by kernel_rfl) (.cell (hS2.box (i := 1) rfl (j := 0) rfl) (.cell (hS2.box (i := 0) rfl (j := 0) rfl) .nil)) fun a4 hf4 => ?_
 refine w_if hf4 (b := ((x0.length : Int) != (x1.length : Int))) (by kernel_rfl) (fun hb1 => ?_) (fun hb1 => ?_)
 ·have hr1 := cond_t hb1 hr
  refine w_sq [] [(4, .bool false)] [] hf4 (by kernel_rfl) .nil fun a5 hf5 => ?_
  refine w_ret (by kernel_rfl) ?_
  refine r_then ?_
  refine p_ret (os := []) (v := .bool false) (obs := []) hf5 (by kernel_rfl) .nil ?_
  obtain rfl := some_eq hr1
  exact ⟨_, rfl, h, (Zone.le_refl _), rfl, (St.drop 2 hS2)⟩
 ·have hr2 := cond_f hb1 hr
  refine w_skip (by kernel_rfl) ?_
  refine n_then ?_
  refine w_seq (by kernel_rfl) ?_
  refine w_sq [.slice o_x0 x0.length c_x0] [(2, pB b1 0), (3, pB b2 0), (15, vI (x0.length : Int)), (16, vI 0)] [.cell ⟨b1, 0, none⟩ (.slice o_x0 x0.length c_x0)] hf4 (by kernel_rfl) (.cell (hS2.box (i := 1) rfl (j := 0) rfl) .nil) fun a6 hf6 => ?_
  refine w_block (id := 0) (by kernel_rfl) ?_
  have hf7 := Fr.keep (ks := [2, 3, 15, 16]) (r := [(2, pB b1 0), (3, pB b2 0), (15, vI (x0.length : Int)), (16, vI 0)]) hf6 (by kernel_rfl)
  refine w_loop (by kernel_rfl) (fun n a w => ∃ z1 : Zone, ∃ y1 : Int, Zone.le h z1 ∧ Fr a 31 [(2, pB b1 0), (3, pB b2 0), (15, vI (x0.length : Int)), (16, vI y1)] ∧ St z1 (box b2 [.slice o_x1 x1.length c_x1] 24 :: box b1 [.slice o_x0 x0.length c_x0] 24 :: L) w ∧ (F63_l1 x0 x1 n y1) = some r) fuel ⟨h, 0, (Zone.le_refl _), hf7, hS2, hr2⟩ ?_
  rintro n2 a7 ww3 ⟨z1, y1, k2, hf8, hS3, hr3⟩
  cases n2 with
  | zero => cases hr3
  | succ n1 =>
  refine w_sq [] [(2, pB b1 0), (3, pB b2 0), (15, vI (x0.length : Int)), (16, vI y1), (17, .bool (decide (y1 < (x0.length : Int))))] [] hf8 (by kernel_rfl) .nil fun a8 hf9 => ?_
  refine w_seq (by kernel_rfl) ?_
  refine w_if hf9 (b := (decide (y1 < (x0.length : Int)))) (by kernel_rfl) (fun hb2 => ?_) (fun hb2 => ?_)
  ·have hr4 := cond_t hb2 hr3
   refine w_skip (by kernel_rfl) ?_
   refine n_then ?_
   refine w_seq (by kernel_rfl) ?_
   refine w_block (id := 1) (by kernel_rfl) ?_
   refine w_sq [] [(2, pB b1 0), (3, pB b2 0), (5, vI y1), (15, vI (x0.length : Int)), (16, vI y1)] [] hf9 (by kernel_rfl) .nil fun a9 hf10 => ?_
   have hS4 := hS3.drew
   obtain ⟨p1, hp562, hr5⟩ := bind_some hr4
   obtain ⟨ad1, ho1, hb3, cc1, hc1, hk1⟩ := SliceR.getI (SliceR.mono k2 hx_x0) hp562
   subst hc1
   obtain ⟨p2, hp571, hr6⟩ := bind_some hr5
   obtain ⟨ad2, ho2, hb4, cc2, hc2, hk2⟩ := SliceR.getI (SliceR.mono k2 hx_x1) hp571
   subst hc2
   refine w_sqD [(0, true), (1, true), (2, true), (3, true), (4, true), (5, true), (6, true), (7, true), (8, true), (9, true), (10, true)] [] [.slice o_x0 x0.length c_x0, .pointer (some ad1), vI p1.x, vI p1.lo, vI p1.hi, .slice o_x1 x1.length c_x1, .pointer (some ad2), vI p2.x, vI p2.lo, vI p2.hi] [(2, pB b1 0), (3, pB b2 0), (15, vI (x0.length : Int)), (16, vI y1), (29, .bool (!((p1.x == p2.x) && ((p1.lo == p2.lo) && ((p1.hi == p2.hi) && true)))))] [.cell ⟨b1, 0, none⟩ (.slice o_x0 x0.length c_x0), .prop (o_x0 = some ad1), .prop (0 ≤ y1 ∧ y1 < (x0.length : Nat)), .cell ((ad1.add (Int.toNat y1 * 3)).add 0) (vI p1.x), .cell ((ad1.add (Int.toNat y1 * 3)).add 1) (vI p1.lo), .cell ((ad1.add (Int.toNat y1 * 3)).add 2) (vI p1.hi), .cell ⟨b2, 0, none⟩ (.slice o_x1 x1.length c_x1), .prop (o_x1 = some ad2), .prop (0 ≤ y1 ∧ y1 < (x1.length : Nat)), .cell ((ad2.add (Int.toNat y1 * 3)).add 0) (vI p2.x), .cell ((ad2.add (Int.toNat y1 * 3)).add 1) (vI p2.lo), .cell ((ad2.add (Int.toNat y1 * 3)).add 2) (vI p2.hi)] [] hf10 (by kernel_rfl) (.cell (hS4.box (i := 1) rfl (j := 0) rfl) (.prop ho1 (.prop hb3 (.cell (hS4.cell (hk1 0 _ rfl)) (.cell (hS4.cell (hk1 1 _ rfl)) (.cell (hS4.cell (hk1 2 _ rfl)) (.cell (hS4.box (i := 0) rfl (j := 0) rfl) (.prop ho2 (.prop hb4 (.cell (hS4.cell (hk2 0 _ rfl)) (.cell (hS4.cell (hk2 1 _ rfl)) (.cell (hS4.cell (hk2 2 _ rfl)) .nil)))))))))))) .nil fun a10 hf11 => ?_
   refine w_if hf11 (b := (!((p1.x == p2.x) && ((p1.lo == p2.lo) && ((p1.hi == p2.hi) && true))))) (by kernel_rfl) (fun hb5 => ?_) (fun hb5 => ?_)
   ·have hr7 := cond_t hb5 hr6
    refine w_sq [] [(4, .bool false)] [] hf11 (by kernel_rfl) .nil fun a11 hf12 => ?_
    refine w_ret (by kernel_rfl) ?_
    refine r_block ?_
    refine r_then ?_
    refine r_then ?_
    refine r_block ?_
    refine r_then ?_
    refine p_ret (os := []) (v := .bool false) (obs := []) hf12 (by kernel_rfl) .nil ?_
    obtain rfl := some_eq hr7
    exact ⟨_, rfl, z1, k2, rfl, (St.drop 2 hS4)⟩
   ·have hr8 := cond_f hb5 hr6
    refine w_skip (by kernel_rfl) ?_
    refine n_block ?_
    refine n_then ?_
    refine w_q [] [(2, pB b1 0), (3, pB b2 0), (15, vI (x0.length : Int)), (16, vI (w64 (y1 + (1 : Int))))] [] hf11 (by kernel_rfl) .nil fun a12 hf13 => ?_
    refine n_then ?_
    have hf14 := Fr.keep (ks := [2, 3, 15, 16]) (r := [(2, pB b1 0), (3, pB b2 0), (15, vI (x0.length : Int)), (16, vI (w64 (y1 + (1 : Int))))]) hf13 (by kernel_rfl)
    exact ⟨n1, Nat.lt_succ_self n1, z1, (w64 (y1 + (1 : Int))), k2, hf14, hS4, hr8⟩
  ·have hr9 := cond_f hb2 hr3
   refine w_exit (id := 0) (by kernel_rfl) ?_
   refine x_then ?_
   refine x_then ?_
   refine x_block ?_
   refine n_then ?_
   refine w_sq [] [(4, .bool true)] [] hf9 (by kernel_rfl) .nil fun a13 hf15 => ?_
   refine w_ret (by kernel_rfl) ?_
   refine p_ret (os := []) (v := .bool true) (obs := []) hf15 (by kernel_rfl) .nil ?_
   obtain rfl := some_eq hr9
   exact ⟨_, rfl, z1, k2, rfl, (St.drop 2 hS3)⟩
def F76 (fuel : Nat)  : Option (List Pt) :=
  (some ([⟨0, 0, 0⟩, ⟨10, 5, 8⟩, ⟨40, 20, 20⟩]))
set_option maxRecDepth 100000 in
theorem f76_ok (fuel : Nat)  (r : List Pt) (hr : F76 fuel  = some r) (h : Zone) (L : List Atom) (w : World) (hS : St h L w)  :
    Calls Try.prog 76 #[] w fun e w' => ∃ v, e = .returned v ∧ (∃ h', ∃ o0 : Option Addr, ∃ c0 : Nat, Zone.le h h' ∧ v = .agg #[.slice o0 r.length c0] ∧ St h' L w' ∧ SliceR PtT h' o0 c0 r) := by
 refine calls_intro (N := 6) Try.func76 (by kernel_rfl) fun a hf => ?_
 refine w_sr (by kernel_rfl) ?_
 refine p_box (i := 0) (d := (some 0)) (cs := [.slice none 0 0]) (T := 24) (v := fun b1 => pB b1 0) hS hf (fun b => by kernel_rfl) fun b1 ww1 a1 hS1 hf1 => ⟨fun _ => trivial, ?_⟩
 refine p_dt (by kernel_rfl) ?_
 refine w_sr (by kernel_rfl) ?_
 refine p_qn 3 [] [(0, pB b1 0), (1, .agg #[vI 0, vI 0, vI 0]), (2, .agg #[vI 10, vI 5, vI 8]), (3, .agg #[vI 40, vI 20, vI 20])] [] hf1 (by kernel_rfl) .nil fun a2 hf2 => ?_
 refine p_box (i := 3) (d := (some 4)) (cs := [vI 0, vI 0, vI 0, vI 10, vI 5, vI 8, vI 40, vI 20, vI 20]) (T := 52) (v := fun b2 => .slice (some ⟨b2, 0, none⟩) 3 3) hS1 hf2 (fun b => by kernel_rfl) fun b2 ww2 a3 hS2 hf3 => ⟨fun _ => trivial, ?_⟩
 have hS3 := hS2.ownBox (T := PtT) (E := 52) (n := 3) (xs := [⟨0, 0, 0⟩, ⟨10, 5, 8⟩, ⟨40, 20, 20⟩]) (i := 0) rfl (Rows.cons (c := [vI 0, vI 0, vI 0]) rfl (Rows.cons (c := [vI 10, vI 5, vI 8]) rfl (Rows.cons (c := [vI 40, vI 20, vI 20]) rfl rfl))) rfl (by decide)
 refine p_qn 1 [] [(0, pB b1 0), (5, .agg #[.slice (some ⟨b2, 0, none⟩) 3 3])] [] hf3 (by kernel_rfl) .nil fun a4 hf4 => ?_
 refine p_store_eq (i := 5) (j := 1) (b := b1) (off := 0) (vs := [.slice (some ⟨b2, 0, none⟩) 3 3]) (cs' := [.slice (some ⟨b2, 0, none⟩) 3 3]) hS3 hf4 rfl (by kernel_rfl) (by kernel_rfl) rfl fun ww3 a5 hS4 hf5 => ⟨fun _ => trivial, ?_⟩
 refine p_dt (by kernel_rfl) ?_
 refine w_ret (by kernel_rfl) ?_
 obtain ⟨z1, k1, hS5, hx1⟩ := hS4.share (j := 0) rfl
 refine p_ret (os := [.slice (some ⟨b2, 0, none⟩) 3 3]) (v := .agg #[.slice (some ⟨b2, 0, none⟩) 3 3]) (obs := [.cell ⟨b1, 0, none⟩ (.slice (some ⟨b2, 0, none⟩) 3 3)]) hf5 (by kernel_rfl) (.cell (hS5.box (i := 1) rfl (j := 0) rfl) .nil) ?_
 obtain rfl := some_eq hr
 exact ⟨_, rfl, z1, (some ⟨b2, 0, none⟩), 3, k1, rfl, (St.drop 2 hS5), hx1⟩
def F77 (fuel : Nat)  : Option (List Pt) :=
  (some ([⟨5, 1, 2⟩, ⟨20, 1, 4⟩]))
set_option maxRecDepth 100000 in
theorem f77_ok (fuel : Nat)  (r : List Pt) (hr : F77 fuel  = some r) (h : Zone) (L : List Atom) (w : World) (hS : St h L w)  :
    Calls Try.prog 77 #[] w fun e w' => ∃ v, e = .returned v ∧ (∃ h', ∃ o0 : Option Addr, ∃ c0 : Nat, Zone.le h h' ∧ v = .agg #[.slice o0 r.length c0] ∧ St h' L w' ∧ SliceR PtT h' o0 c0 r) := by
 refine calls_intro (N := 5) Try.func77 (by kernel_rfl) fun a hf => ?_
 refine w_sr (by kernel_rfl) ?_
 refine p_box (i := 0) (d := (some 0)) (cs := [.slice none 0 0]) (T := 24) (v := fun b1 => pB b1 0) hS hf (fun b => by kernel_rfl) fun b1 ww1 a1 hS1 hf1 => ⟨fun _ => trivial, ?_⟩
 refine p_dt (by kernel_rfl) ?_
 refine w_sr (by kernel_rfl) ?_
 refine p_qn 2 [] [(0, pB b1 0), (1, .agg #[vI 5, vI 1, vI 2]), (2, .agg #[vI 20, vI 1, vI 4])] [] hf1 (by kernel_rfl) .nil fun a2 hf2 => ?_
 refine p_box (i := 2) (d := (some 3)) (cs := [vI 5, vI 1, vI 2, vI 20, vI 1, vI 4]) (T := 52) (v := fun b2 => .slice (some ⟨b2, 0, none⟩) 2 2) hS1 hf2 (fun b => by kernel_rfl) fun b2 ww2 a3 hS2 hf3 => ⟨fun _ => trivial, ?_⟩
 have hS3 := hS2.ownBox (T := PtT) (E := 52) (n := 2) (xs := [⟨5, 1, 2⟩, ⟨20, 1, 4⟩]) (i := 0) rfl (Rows.cons (c := [vI 5, vI 1, vI 2]) rfl (Rows.cons (c := [vI 20, vI 1, vI 4]) rfl rfl)) rfl (by decide)
 refine p_qn 1 [] [(0, pB b1 0), (4, .agg #[.slice (some ⟨b2, 0, none⟩) 2 2])] [] hf3 (by kernel_rfl) .nil fun a4 hf4 => ?_
 refine p_store_eq (i := 4) (j := 1) (b := b1) (off := 0) (vs := [.slice (some ⟨b2, 0, none⟩) 2 2]) (cs' := [.slice (some ⟨b2, 0, none⟩) 2 2]) hS3 hf4 rfl (by kernel_rfl) (by kernel_rfl) rfl fun ww3 a5 hS4 hf5 => ⟨fun _ => trivial, ?_⟩
 refine p_dt (by kernel_rfl) ?_
 refine w_ret (by kernel_rfl) ?_
 obtain ⟨z1, k1, hS5, hx1⟩ := hS4.share (j := 0) rfl
 refine p_ret (os := [.slice (some ⟨b2, 0, none⟩) 2 2]) (v := .agg #[.slice (some ⟨b2, 0, none⟩) 2 2]) (obs := [.cell ⟨b1, 0, none⟩ (.slice (some ⟨b2, 0, none⟩) 2 2)]) hf5 (by kernel_rfl) (.cell (hS5.box (i := 1) rfl (j := 0) rfl) .nil) ?_
 obtain rfl := some_eq hr
 exact ⟨_, rfl, z1, (some ⟨b2, 0, none⟩), 2, k1, rfl, (St.drop 2 hS5), hx1⟩
def F13_j3 (y1 : Bool) : Option (Bool) :=
  (some (y1))
def F13_j2 (fuel : Nat) (r1 : Int × Int × Int) (r2 : Int × Int × Int) (y2 : List Pt) (r3 : Int × Int × Int) (r4 : List Rng × Int) (y3 : Bool) : Option (Bool) :=
  (cond y3 (cond ((r1.1 == (-10 : Int)) && ((r1.2.1 == (15 : Int)) && true)) (cond ((r2.1 == (2 : Int)) && ((r2.2.1 == (9 : Int)) && true)) ((F63 fuel y2 ([⟨5, 3, 6⟩, ⟨10, 6, 11⟩, ⟨20, 11, 16⟩])).bind fun r5 => (cond r5 (cond (r3.1 == (48 : Int)) (cond (r3.2.1 == (77 : Int)) ((F26 fuel r4.1 ([⟨7, 13⟩])).bind fun r6 => (F13_j3 r6)) (F13_j3 false)) (F13_j3 false)) (F13_j3 false))) (F13_j3 false)) (F13_j3 false)) (F13_j3 false))
def F13_j1 (fuel : Nat) (r7 : List Pt) (r1 : Int × Int × Int) (r2 : Int × Int × Int) (y4 : Int) (y2 : List Pt) : Option (Bool) :=
  ((F18 fuel r7 5 11).bind fun r3 => ((F21 fuel r7 6 6).bind fun r4 => (cond (r1.2.2 == (0 : Int)) (cond (r2.2.2 == (0 : Int)) (cond (y4 == (0 : Int)) (cond (r3.2.2 == (0 : Int)) (F13_j2 fuel r1 r2 y2 r3 r4 (r4.2 == (0 : Int))) (F13_j2 fuel r1 r2 y2 r3 r4 false)) (F13_j2 fuel r1 r2 y2 r3 r4 false)) (F13_j2 fuel r1 r2 y2 r3 r4 false)) (F13_j2 fuel r1 r2 y2 r3 r4 false))))
def F13 (fuel : Nat)  : Option (Bool) :=
  ((F76 fuel ).bind fun r7 => ((F39 fuel (-2) 3 4 5).bind fun r1 => ((F19 fuel r7 5 12).bind fun r2 => ((F77 fuel ).bind fun r8 => ((F57 fuel r7 r8).bind fun r9 => (F13_j1 fuel r7 r1 r2 r9.2 r9.1))))))
set_option maxRecDepth 100000 in
theorem f13_ok (fuel : Nat)  (r : Bool) (hr : F13 fuel  = some r) (h : Zone) (L : List Atom) (w : World) (hS : St h L w)  :
    Calls Try.prog 13 #[] w fun e w' => ∃ v, e = .returned v ∧ (∃ h', Zone.le h h' ∧ v = .bool r ∧ St h' L w') := by
 refine calls_intro (N := 97) Try.func13 (by kernel_rfl) fun a hf => ?_
 refine w_sq [] [] [] hf (by kernel_rfl) .nil fun a1 hf1 => ?_
 refine w_sr (by kernel_rfl) ?_
 obtain ⟨r7, hd1, hr1⟩ := bind_some hr
 refine p_call (i := 0) (d := some 14) (f := 76) (args := #[]) hf1 (by kernel_rfl) (f76_ok fuel  r7 hd1 h _ _ hS ) ?_
 rintro v1 ww1 a2 ⟨z1, e1, q1, k1, rfl, hS1, hx1⟩ hf2
 refine ⟨fun _ => trivial, ?_⟩
 refine p_box (i := 1) (d := (some 1)) (cs := [.slice none 0 0]) (T := 24) (v := fun b1 => pB b1 0) hS1 hf2 (fun b => by kernel_rfl) fun b1 ww2 a3 hS2 hf3 => ⟨fun _ => trivial, ?_⟩
 refine p_store_eq (i := 2) (j := 0) (b := b1) (off := 0) (vs := [.slice e1 r7.length q1]) (cs' := [.slice e1 r7.length q1]) hS2 hf3 rfl (by kernel_rfl) (by kernel_rfl) rfl fun ww3 a4 hS3 hf4 => ⟨fun _ => trivial, ?_⟩
 refine p_dt (by kernel_rfl) ?_
 refine w_sr (by kernel_rfl) ?_
 refine p_qn 2 [] [(1, pB b1 0), (16, .agg #[vI (-2), vI 3]), (17, .agg #[vI 4, vI 5])] [] hf4 (by kernel_rfl) .nil fun a5 hf5 => ?_
 obtain ⟨r1, hd2, hr2⟩ := bind_some hr1
 refine p_call (i := 2) (d := some 18) (f := 39) (args := #[.agg #[vI (-2), vI 3], .agg #[vI 4, vI 5]]) hf5 (by kernel_rfl) (f39_ok fuel (-2) 3 4 5 r1 hd2 z1 _ _ hS3 ) ?_
 rintro v2 ww4 a6 ⟨z2, k2, rfl, hS4⟩ hf6
 refine ⟨fun _ => trivial, ?_⟩
 refine p_qn 3 [] [(1, pB b1 0), (19, .agg #[vI r1.1, vI r1.2.1]), (20, vI r1.2.2)] [] hf6 (by kernel_rfl) .nil fun a7 hf7 => ?_
 refine p_box (i := 6) (d := (some 2)) (cs := [vI 0, vI 0]) (T := 41) (v := fun b2 => pB b2 0) hS4 hf7 (fun b => by kernel_rfl) fun b2 ww5 a8 hS5 hf8 => ⟨fun _ => trivial, ?_⟩
 refine p_store_eq (i := 7) (j := 0) (b := b2) (off := 0) (vs := [vI r1.1, vI r1.2.1]) (cs' := [vI r1.1, vI r1.2.1]) hS5 hf8 rfl (by kernel_rfl) (by kernel_rfl) rfl fun ww6 a9 hS6 hf9 => ⟨fun _ => trivial, ?_⟩
 refine p_qt [] [(1, pB b1 0), (2, pB b2 0), (3, vI r1.2.2)] [] hf9 (by kernel_rfl) .nil fun a10 hf10 => ?_
 refine w_sr (by kernel_rfl) ?_
 refine p_qn 2 [.slice e1 r7.length q1] [(1, pB b1 0), (2, pB b2 0), (3, vI r1.2.2), (22, .agg #[.slice e1 r7.length q1]), (23, .agg #[vI 5, vI 12])] [.cell ⟨b1, 0, none⟩ (.slice e1 r7.length q1)] hf10 (by kernel_rfl) (.cell (hS6.box (i := 1) rfl (j := 0) rfl) .nil) fun a11 hf11 => ?_
 obtain ⟨r2, hd3, hr3⟩ := bind_some hr2
 refine p_call (i := 2) (d := some 24) (f := 19) (args := #[.agg #[.slice e1 r7.length q1], .agg #[vI 5, vI 12]]) hf11 (by kernel_rfl) (f19_ok fuel r7 5 12 r2 hd3 z2 _ _ hS6 e1 q1 (SliceR.mono k2 hx1)) ?_
 rintro v3 ww7 a12 ⟨z3, k3, rfl, hS7⟩ hf12
 refine ⟨fun _ => trivial, ?_⟩
 refine p_qn 3 [] [(1, pB b1 0), (2, pB b2 0), (3, vI r1.2.2), (25, .agg #[vI r2.1, vI r2.2.1]), (26, vI r2.2.2)] [] hf12 (by kernel_rfl) .nil fun a13 hf13 => ?_
 refine p_box (i := 6) (d := (some 4)) (cs := [vI 0, vI 0]) (T := 41) (v := fun b3 => pB b3 0) hS7 hf13 (fun b => by kernel_rfl) fun b3 ww8 a14 hS8 hf14 => ⟨fun _ => trivial, ?_⟩
 refine p_store_eq (i := 7) (j := 0) (b := b3) (off := 0) (vs := [vI r2.1, vI r2.2.1]) (cs' := [vI r2.1, vI r2.2.1]) hS8 hf14 rfl (by kernel_rfl) (by kernel_rfl) rfl fun ww9 a15 hS9 hf15 => ⟨fun _ => trivial, ?_⟩
 refine p_qt [] [(1, pB b1 0), (2, pB b2 0), (3, vI r1.2.2), (4, pB b3 0), (5, vI r2.2.2)] [] hf15 (by kernel_rfl) .nil fun a16 hf16 => ?_
 refine w_mid (by kernel_rfl) (fun a w => ∃ z4 : Zone, ∃ y4 : Int, ∃ y2 : List Pt, ∃ b4 : Nat, ∃ e2 : Option Addr, ∃ q2 : Nat, Zone.le z3 z4 ∧ Fr a 97 [(1, pB b1 0), (2, pB b2 0), (3, vI r1.2.2), (4, pB b3 0), (5, vI r2.2.2), (6, pB b4 0), (7, vI y4)] ∧ St z4 (box b4 [.slice e2 y2.length q2] 24 :: box b3 [vI r2.1, vI r2.2.1] 41 :: box b2 [vI r1.1, vI r1.2.1] 41 :: box b1 [.slice e1 r7.length q1] 24 :: L) w ∧ SliceR PtT z4 e2 q2 y2 ∧ (F13_j1 fuel r7 r1 r2 y4 y2) = some r) ?_ ?_
 ·skip
  have hS10 := hS9.drew
  have s1 : Sub z3 (box b3 [vI r2.1, vI r2.2.1] 41 :: box b2 [vI r1.1, vI r1.2.1] 41 :: box b1 [.slice e1 r7.length q1] 24 :: L) _ := Sub.of (Zone.le_refl _) hS10
  refine w_regB (by kernel_rfl) [2, 7] (Sub z3 (box b3 [vI r2.1, vI r2.2.1] 41 :: box b2 [vI r1.1, vI r1.2.1] 41 :: box b1 [.slice e1 r7.length q1] 24 :: L)) (by kernel_rfl) ?_
  refine k_seg' 8 [(0, true)] (by kernel_rfl) (by kernel_rfl) (At.start s1) (by kernel_rfl) ?_
  refine p_qS 1 [.slice e1 r7.length q1] [(1, pB b1 0), (2, pB b2 0), (3, vI r1.2.2), (4, pB b3 0), (5, vI r2.2.2), (28, .agg #[.slice e1 r7.length q1])] [.cell ⟨b1, 0, none⟩ (.slice e1 r7.length q1)] [] s1 hf16 (by kernel_rfl) (fun _ s => (.cell (s.box (i := 2) rfl (j := 0) rfl) .nil)) .nil fun a17 hf17 => ?_
  refine p_done (by kernel_rfl) ?_
  intro hA1
  refine k_any' 7 [1, 6] (by kernel_rfl) hA1 (by kernel_rfl) (by kernel_rfl) ?_
  refine (all_cons ?_ (all_cons ?_ all_nil))
  ·skip
   obtain ⟨r8, hd4, hr4⟩ := bind_some hr3
   refine p_call (i := 1) (d := some 29) (f := 77) (args := #[]) hf17 (by kernel_rfl) (f77_ok fuel  r8 hd4 z3 _ _ hS10 ) ?_
   rintro v4 ww10 a18 ⟨z5, e3, q3, k4, rfl, hS11, hx2⟩ hf18
   refine ⟨fun _ => Sub.of k4 hS11, ?_⟩
   refine p_done (by kernel_rfl) ?_
   intro hA2
   have s2 : Sub z3 (box b3 [vI r2.1, vI r2.2.1] 41 :: box b2 [vI r1.1, vI r1.2.1] 41 :: box b1 [.slice e1 r7.length q1] 24 :: L) _ := Sub.of k4 hS11
   refine k_seg' 7 [] (by kernel_rfl) (by kernel_rfl) hA2 (by kernel_rfl) ?_
   refine p_done (by kernel_rfl) ?_
   intro hA3
   refine k_any' 6 [2, 6] (by kernel_rfl) hA3 (by kernel_rfl) (by kernel_rfl) ?_
   refine (all_cons ?_ (all_cons ?_ all_nil))
   ·skip
    obtain ⟨r9, hd5, hr5⟩ := bind_some hr4
    refine p_call (i := 2) (d := some 30) (f := 57) (args := #[.agg #[.slice e1 r7.length q1], .agg #[.slice e3 r8.length q3]]) hf18 (by kernel_rfl) (f57_ok fuel r7 r8 r9 hd5 z5 _ _ hS11 e1 q1 (SliceR.mono (Zone.le_trans (Zone.le_trans k2 k3) k4) hx1) e3 q3 hx2) ?_
    rintro v5 ww11 a19 ⟨z6, e4, q4, k5, rfl, hS12, hx3⟩ hf19
    refine ⟨fun e => absurd e (by decide), ?_⟩
    refine p_done (by kernel_rfl) ?_
    intro hA4
    refine k_seg' 0 [(3, true), (4, true), (5, true), (6, false), (7, false), (8, true)] (by kernel_rfl) (by kernel_rfl) hA4 (by kernel_rfl) ?_
    refine p_qP 3 [] [(1, pB b1 0), (2, pB b2 0), (3, vI r1.2.2), (4, pB b3 0), (5, vI r2.2.2), (31, .agg #[.slice e4 r9.1.length q4]), (32, vI r9.2)] [] hf19 (by kernel_rfl) (fun _ => .nil) fun a20 hf20 => ?_
    refine p_box (i := 6) (d := (some 6)) (cs := [.slice none 0 0]) (T := 24) (v := fun b5 => pB b5 0) hS12 hf20 (fun b => by kernel_rfl) fun b5 ww12 a21 hS13 hf21 => ⟨fun _ => Sub.of (Zone.le_trans k4 k5) (St.drop 1 hS13), ?_⟩
    have s3 : Sub z3 (box b3 [vI r2.1, vI r2.2.1] 41 :: box b2 [vI r1.1, vI r1.2.1] 41 :: box b1 [.slice e1 r7.length q1] 24 :: L) _ := Sub.of (Zone.le_trans k4 k5) (St.drop 1 hS13)
    refine p_store_eq (i := 7) (j := 0) (b := b5) (off := 0) (vs := [.slice e4 r9.1.length q4]) (cs' := [.slice e4 r9.1.length q4]) hS13 hf21 rfl (by kernel_rfl) (by kernel_rfl) rfl fun ww13 a22 hS14 hf22 => ⟨fun e => absurd e (by decide), ?_⟩
    refine p_qP 1 [] [(1, pB b1 0), (2, pB b2 0), (3, vI r1.2.2), (4, pB b3 0), (5, vI r2.2.2), (6, pB b5 0), (7, vI r9.2)] [] hf22 (by kernel_rfl) (fun _ => .nil) fun a23 hf23 => ?_
    refine p_done (by kernel_rfl) ?_
    intro hA5
    refine k_done' (by kernel_rfl) (by kernel_rfl) ?_
    refine n_then ?_
    have hf24 := Fr.keep (ks := [1, 2, 3, 4, 5, 6, 7]) (r := [(1, pB b1 0), (2, pB b2 0), (3, vI r1.2.2), (4, pB b3 0), (5, vI r2.2.2), (6, pB b5 0), (7, vI r9.2)]) hf23 (by kernel_rfl)
    exact ⟨z6, r9.2, r9.1, b5, e4, q4, (Zone.le_trans k4 k5), hf24, (St.pick 1 [0] hS14 (by kernel_rfl)), hx3, hr5⟩
   ·skip
    refine p_box (i := 6) (d := (some 6)) (cs := [.slice none 0 0]) (T := 24) (v := fun b6 => pB b6 0) hS11 hf18 (fun b => by kernel_rfl) fun b6 ww14 a24 hS15 hf25 => ⟨fun _ => Sub.of k4 (St.drop 1 hS15), ?_⟩
    refine p_done (by kernel_rfl) ?_
    intro hA6
    have s4 : Sub z3 (box b3 [vI r2.1, vI r2.2.1] 41 :: box b2 [vI r1.1, vI r1.2.1] 41 :: box b1 [.slice e1 r7.length q1] 24 :: L) _ := Sub.of k4 (St.drop 1 hS15)
    refine k_seg' 0 [(2, false), (3, true), (4, true), (5, true), (7, false), (8, true)] (by kernel_rfl) (by kernel_rfl) hA6 (by kernel_rfl) ?_
    obtain ⟨r10, hd6, hr6⟩ := bind_some hr4
    refine p_call (i := 2) (d := some 30) (f := 57) (args := #[.agg #[.slice e1 r7.length q1], .agg #[.slice e3 r8.length q3]]) hf25 (by kernel_rfl) (f57_ok fuel r7 r8 r10 hd6 z5 _ _ hS15 e1 q1 (SliceR.mono (Zone.le_trans (Zone.le_trans k2 k3) k4) hx1) e3 q3 hx2) ?_
    rintro v6 ww15 a25 ⟨z7, e5, q5, k6, rfl, hS16, hx4⟩ hf26
    refine ⟨fun e => absurd e (by decide), ?_⟩
    refine p_qP 3 [] [(1, pB b1 0), (2, pB b2 0), (3, vI r1.2.2), (4, pB b3 0), (5, vI r2.2.2), (6, pB b6 0), (31, .agg #[.slice e5 r10.1.length q5]), (32, vI r10.2)] [] hf26 (by kernel_rfl) (fun _ => .nil) fun a26 hf27 => ?_
    refine p_store_eq (i := 7) (j := 0) (b := b6) (off := 0) (vs := [.slice e5 r10.1.length q5]) (cs' := [.slice e5 r10.1.length q5]) hS16 hf27 rfl (by kernel_rfl) (by kernel_rfl) rfl fun ww16 a27 hS17 hf28 => ⟨fun e => absurd e (by decide), ?_⟩
    refine p_qP 1 [] [(1, pB b1 0), (2, pB b2 0), (3, vI r1.2.2), (4, pB b3 0), (5, vI r2.2.2), (6, pB b6 0), (7, vI r10.2)] [] hf28 (by kernel_rfl) (fun _ => .nil) fun a28 hf29 => ?_
    refine p_done (by kernel_rfl) ?_
    intro hA7
    refine k_done' (by kernel_rfl) (by kernel_rfl) ?_
    refine n_then ?_
    have hf30 := Fr.keep (ks := [1, 2, 3, 4, 5, 6, 7]) (r := [(1, pB b1 0), (2, pB b2 0), (3, vI r1.2.2), (4, pB b3 0), (5, vI r2.2.2), (6, pB b6 0), (7, vI r10.2)]) hf29 (by kernel_rfl)
    exact ⟨z7, r10.2, r10.1, b6, e5, q5, (Zone.le_trans k4 k6), hf30, (St.pick 1 [0] hS17 (by kernel_rfl)), hx4, hr6⟩
  ·skip
   refine p_box (i := 6) (d := (some 6)) (cs := [.slice none 0 0]) (T := 24) (v := fun b7 => pB b7 0) hS10 hf17 (fun b => by kernel_rfl) fun b7 ww17 a29 hS18 hf31 => ⟨fun _ => Sub.of (Zone.le_refl _) (St.drop 1 hS18), ?_⟩
   refine p_done (by kernel_rfl) ?_
   intro hA8
   have s5 : Sub z3 (box b3 [vI r2.1, vI r2.2.1] 41 :: box b2 [vI r1.1, vI r1.2.1] 41 :: box b1 [.slice e1 r7.length q1] 24 :: L) _ := Sub.of (Zone.le_refl _) (St.drop 1 hS18)
   refine k_seg' 0 [(1, false), (2, false), (3, true), (4, true), (5, true), (7, false), (8, true)] (by kernel_rfl) (by kernel_rfl) hA8 (by kernel_rfl) ?_
   obtain ⟨r11, hd7, hr7⟩ := bind_some hr3
   refine p_call (i := 1) (d := some 29) (f := 77) (args := #[]) hf31 (by kernel_rfl) (f77_ok fuel  r11 hd7 z3 _ _ hS18 ) ?_
   rintro v7 ww18 a30 ⟨z8, e6, q6, k7, rfl, hS19, hx5⟩ hf32
   refine ⟨fun _ => Sub.of k7 (St.drop 1 hS19), ?_⟩
   have s6 : Sub z3 (box b3 [vI r2.1, vI r2.2.1] 41 :: box b2 [vI r1.1, vI r1.2.1] 41 :: box b1 [.slice e1 r7.length q1] 24 :: L) _ := Sub.of k7 (St.drop 1 hS19)
   obtain ⟨r12, hd8, hr8⟩ := bind_some hr7
   refine p_call (i := 2) (d := some 30) (f := 57) (args := #[.agg #[.slice e1 r7.length q1], .agg #[.slice e6 r11.length q6]]) hf32 (by kernel_rfl) (f57_ok fuel r7 r11 r12 hd8 z8 _ _ hS19 e1 q1 (SliceR.mono (Zone.le_trans (Zone.le_trans k2 k3) k7) hx1) e6 q6 hx5) ?_
   rintro v8 ww19 a31 ⟨z9, e7, q7, k8, rfl, hS20, hx6⟩ hf33
   refine ⟨fun e => absurd e (by decide), ?_⟩
   refine p_qP 3 [] [(1, pB b1 0), (2, pB b2 0), (3, vI r1.2.2), (4, pB b3 0), (5, vI r2.2.2), (6, pB b7 0), (31, .agg #[.slice e7 r12.1.length q7]), (32, vI r12.2)] [] hf33 (by kernel_rfl) (fun _ => .nil) fun a32 hf34 => ?_
   refine p_store_eq (i := 7) (j := 0) (b := b7) (off := 0) (vs := [.slice e7 r12.1.length q7]) (cs' := [.slice e7 r12.1.length q7]) hS20 hf34 rfl (by kernel_rfl) (by kernel_rfl) rfl fun ww20 a33 hS21 hf35 => ⟨fun e => absurd e (by decide), ?_⟩
   refine p_qP 1 [] [(1, pB b1 0), (2, pB b2 0), (3, vI r1.2.2), (4, pB b3 0), (5, vI r2.2.2), (6, pB b7 0), (7, vI r12.2)] [] hf35 (by kernel_rfl) (fun _ => .nil) fun a34 hf36 => ?_
   refine p_done (by kernel_rfl) ?_
   intro hA9
   refine k_done' (by kernel_rfl) (by kernel_rfl) ?_
   refine n_then ?_
   have hf37 := Fr.keep (ks := [1, 2, 3, 4, 5, 6, 7]) (r := [(1, pB b1 0), (2, pB b2 0), (3, vI r1.2.2), (4, pB b3 0), (5, vI r2.2.2), (6, pB b7 0), (7, vI r12.2)]) hf36 (by kernel_rfl)
   exact ⟨z9, r12.2, r12.1, b7, e7, q7, (Zone.le_trans k7 k8), hf37, (St.pick 1 [0] hS21 (by kernel_rfl)), hx6, hr8⟩
 ·rintro a35 ww21 ⟨z4, y4, y2, b4, e2, q2, k9, hf38, hS22, hx7, hr9⟩
  refine w_sr (by kernel_rfl) ?_
  refine p_qn 1 [.slice e1 r7.length q1] [(1, pB b1 0), (2, pB b2 0), (3, vI r1.2.2), (4, pB b3 0), (5, vI r2.2.2), (6, pB b4 0), (7, vI y4), (34, .agg #[.slice e1 r7.length q1])] [.cell ⟨b1, 0, none⟩ (.slice e1 r7.length q1)] hf38 (by kernel_rfl) (.cell (hS22.box (i := 3) rfl (j := 0) rfl) .nil) fun a36 hf39 => ?_
  obtain ⟨r3, hd9, hr10⟩ := bind_some hr9
  refine p_call (i := 1) (d := some 35) (f := 18) (args := #[.agg #[.slice e1 r7.length q1], vI 5, vI 11]) hf39 (by kernel_rfl) (f18_ok fuel r7 5 11 r3 hd9 z4 _ _ hS22 e1 q1 (SliceR.mono (Zone.le_trans (Zone.le_trans k2 k3) k9) hx1)) ?_
  rintro v9 ww22 a37 ⟨z10, k10, rfl, hS23⟩ hf40
  refine ⟨fun _ => trivial, ?_⟩
  refine p_qt [] [(1, pB b1 0), (2, pB b2 0), (3, vI r1.2.2), (4, pB b3 0), (5, vI r2.2.2), (6, pB b4 0), (7, vI y4), (8, vI r3.1), (9, vI r3.2.1), (10, vI r3.2.2)] [] hf40 (by kernel_rfl) .nil fun a38 hf41 => ?_
  refine w_sr (by kernel_rfl) ?_
  refine p_qn 2 [.slice e1 r7.length q1] [(2, pB b2 0), (3, vI r1.2.2), (4, pB b3 0), (5, vI r2.2.2), (6, pB b4 0), (7, vI y4), (8, vI r3.1), (9, vI r3.2.1), (10, vI r3.2.2), (40, .agg #[.slice e1 r7.length q1]), (41, .agg #[vI 6, vI 6])] [.cell ⟨b1, 0, none⟩ (.slice e1 r7.length q1)] hf41 (by kernel_rfl) (.cell (hS23.box (i := 3) rfl (j := 0) rfl) .nil) fun a39 hf42 => ?_
  obtain ⟨r4, hd10, hr11⟩ := bind_some hr10
  refine p_call (i := 2) (d := some 42) (f := 21) (args := #[.agg #[.slice e1 r7.length q1], .agg #[vI 6, vI 6]]) hf42 (by kernel_rfl) (f21_ok fuel r7 6 6 r4 hd10 z10 _ _ hS23 e1 q1 (SliceR.mono (Zone.le_trans (Zone.le_trans (Zone.le_trans k2 k3) k9) k10) hx1)) ?_
  rintro v10 ww23 a40 ⟨z11, e8, q8, k11, rfl, hS24, hx8⟩ hf43
  refine ⟨fun _ => trivial, ?_⟩
  refine p_qt [] [(2, pB b2 0), (3, vI r1.2.2), (4, pB b3 0), (5, vI r2.2.2), (6, pB b4 0), (7, vI y4), (8, vI r3.1), (9, vI r3.2.1), (10, vI r3.2.2), (11, .slice e8 r4.1.length q8), (12, vI r4.2)] [] hf43 (by kernel_rfl) .nil fun a41 hf44 => ?_
  refine w_mid (by kernel_rfl) (fun a w => ∃ z12 : Zone, ∃ y3 : Bool, Zone.le z11 z12 ∧ Fr a 97 [(2, pB b2 0), (4, pB b3 0), (6, pB b4 0), (8, vI r3.1), (9, vI r3.2.1), (11, .slice e8 r4.1.length q8), (13, .bool y3)] ∧ St z12 (box b4 [.slice e2 y2.length q2] 24 :: box b3 [vI r2.1, vI r2.2.1] 41 :: box b2 [vI r1.1, vI r1.2.1] 41 :: box b1 [.slice e1 r7.length q1] 24 :: L) w ∧ (F13_j2 fuel r1 r2 y2 r3 r4 y3) = some r) ?_ ?_
  ·skip
   refine w_reg (by kernel_rfl) ?_
   refine p_qn 3 [] [(2, pB b2 0), (4, pB b3 0), (5, vI r2.2.2), (6, pB b4 0), (7, vI y4), (8, vI r3.1), (9, vI r3.2.1), (10, vI r3.2.2), (11, .slice e8 r4.1.length q8), (12, vI r4.2), (47, .bool (r1.2.2 == (0 : Int)))] [] hf44 (by kernel_rfl) .nil fun a42 hf45 => ?_
   rcases Bool.eq_false_or_eq_true (r1.2.2 == (0 : Int)) with hb1 | hb1
   ·have hr12 := cond_t hb1 hr11
    have hf46 := Fr.conv hf45 (congrArg (fun z => ([(2, pB b2 0), (4, pB b3 0), (5, vI r2.2.2), (6, pB b4 0), (7, vI y4), (8, vI r3.1), (9, vI r3.2.1), (10, vI r3.2.2), (11, .slice e8 r4.1.length q8), (12, vI r4.2), (47, .bool z)] : FL)) hb1)
    refine p_qn 4 [] [(2, pB b2 0), (4, pB b3 0), (6, pB b4 0), (7, vI y4), (8, vI r3.1), (9, vI r3.2.1), (10, vI r3.2.2), (11, .slice e8 r4.1.length q8), (12, vI r4.2), (51, .bool (r2.2.2 == (0 : Int)))] [] hf46 (by kernel_rfl) .nil fun a43 hf47 => ?_
    rcases Bool.eq_false_or_eq_true (r2.2.2 == (0 : Int)) with hb2 | hb2
    ·have hr13 := cond_t hb2 hr12
     have hf48 := Fr.conv hf47 (congrArg (fun z => ([(2, pB b2 0), (4, pB b3 0), (6, pB b4 0), (7, vI y4), (8, vI r3.1), (9, vI r3.2.1), (10, vI r3.2.2), (11, .slice e8 r4.1.length q8), (12, vI r4.2), (51, .bool z)] : FL)) hb2)
     refine p_qn 4 [] [(2, pB b2 0), (4, pB b3 0), (6, pB b4 0), (8, vI r3.1), (9, vI r3.2.1), (10, vI r3.2.2), (11, .slice e8 r4.1.length q8), (12, vI r4.2), (55, .bool (y4 == (0 : Int)))] [] hf48 (by kernel_rfl) .nil fun a44 hf49 => ?_
     rcases Bool.eq_false_or_eq_true (y4 == (0 : Int)) with hb3 | hb3
     ·have hr14 := cond_t hb3 hr13
      have hf50 := Fr.conv hf49 (congrArg (fun z => ([(2, pB b2 0), (4, pB b3 0), (6, pB b4 0), (8, vI r3.1), (9, vI r3.2.1), (10, vI r3.2.2), (11, .slice e8 r4.1.length q8), (12, vI r4.2), (55, .bool z)] : FL)) hb3)
      refine p_qn 4 [] [(2, pB b2 0), (4, pB b3 0), (6, pB b4 0), (8, vI r3.1), (9, vI r3.2.1), (11, .slice e8 r4.1.length q8), (12, vI r4.2), (59, .bool (r3.2.2 == (0 : Int)))] [] hf50 (by kernel_rfl) .nil fun a45 hf51 => ?_
      rcases Bool.eq_false_or_eq_true (r3.2.2 == (0 : Int)) with hb4 | hb4
      ·have hr15 := cond_t hb4 hr14
       have hf52 := Fr.conv hf51 (congrArg (fun z => ([(2, pB b2 0), (4, pB b3 0), (6, pB b4 0), (8, vI r3.1), (9, vI r3.2.1), (11, .slice e8 r4.1.length q8), (12, vI r4.2), (59, .bool z)] : FL)) hb4)
       refine p_qt [] [(2, pB b2 0), (4, pB b3 0), (6, pB b4 0), (8, vI r3.1), (9, vI r3.2.1), (11, .slice e8 r4.1.length q8), (13, .bool (r4.2 == (0 : Int)))] [] hf52 (by kernel_rfl) .nil fun a46 hf53 => ?_
       have hf54 := Fr.keep (ks := [2, 4, 6, 8, 9, 11, 13]) (r := [(2, pB b2 0), (4, pB b3 0), (6, pB b4 0), (8, vI r3.1), (9, vI r3.2.1), (11, .slice e8 r4.1.length q8), (13, .bool (r4.2 == (0 : Int)))]) hf53 (by kernel_rfl)
       exact ⟨z11, (r4.2 == (0 : Int)), (Zone.le_refl _), hf54, hS24, hr15⟩
      ·have hr16 := cond_f hb4 hr14
       have hf55 := Fr.conv hf51 (congrArg (fun z => ([(2, pB b2 0), (4, pB b3 0), (6, pB b4 0), (8, vI r3.1), (9, vI r3.2.1), (11, .slice e8 r4.1.length q8), (12, vI r4.2), (59, .bool z)] : FL)) hb4)
       refine p_qt [] [(2, pB b2 0), (4, pB b3 0), (6, pB b4 0), (8, vI r3.1), (9, vI r3.2.1), (11, .slice e8 r4.1.length q8), (13, .bool false)] [] hf55 (by kernel_rfl) .nil fun a47 hf56 => ?_
       have hf57 := Fr.keep (ks := [2, 4, 6, 8, 9, 11, 13]) (r := [(2, pB b2 0), (4, pB b3 0), (6, pB b4 0), (8, vI r3.1), (9, vI r3.2.1), (11, .slice e8 r4.1.length q8), (13, .bool false)]) hf56 (by kernel_rfl)
       exact ⟨z11, false, (Zone.le_refl _), hf57, hS24, hr16⟩
     ·have hr17 := cond_f hb3 hr13
      have hf58 := Fr.conv hf49 (congrArg (fun z => ([(2, pB b2 0), (4, pB b3 0), (6, pB b4 0), (8, vI r3.1), (9, vI r3.2.1), (10, vI r3.2.2), (11, .slice e8 r4.1.length q8), (12, vI r4.2), (55, .bool z)] : FL)) hb3)
      refine p_qt [] [(2, pB b2 0), (4, pB b3 0), (6, pB b4 0), (8, vI r3.1), (9, vI r3.2.1), (11, .slice e8 r4.1.length q8), (13, .bool false)] [] hf58 (by kernel_rfl) .nil fun a48 hf59 => ?_
      have hf60 := Fr.keep (ks := [2, 4, 6, 8, 9, 11, 13]) (r := [(2, pB b2 0), (4, pB b3 0), (6, pB b4 0), (8, vI r3.1), (9, vI r3.2.1), (11, .slice e8 r4.1.length q8), (13, .bool false)]) hf59 (by kernel_rfl)
      exact ⟨z11, false, (Zone.le_refl _), hf60, hS24, hr17⟩
    ·have hr18 := cond_f hb2 hr12
     have hf61 := Fr.conv hf47 (congrArg (fun z => ([(2, pB b2 0), (4, pB b3 0), (6, pB b4 0), (7, vI y4), (8, vI r3.1), (9, vI r3.2.1), (10, vI r3.2.2), (11, .slice e8 r4.1.length q8), (12, vI r4.2), (51, .bool z)] : FL)) hb2)
     refine p_qt [] [(2, pB b2 0), (4, pB b3 0), (6, pB b4 0), (8, vI r3.1), (9, vI r3.2.1), (11, .slice e8 r4.1.length q8), (13, .bool false)] [] hf61 (by kernel_rfl) .nil fun a49 hf62 => ?_
     have hf63 := Fr.keep (ks := [2, 4, 6, 8, 9, 11, 13]) (r := [(2, pB b2 0), (4, pB b3 0), (6, pB b4 0), (8, vI r3.1), (9, vI r3.2.1), (11, .slice e8 r4.1.length q8), (13, .bool false)]) hf62 (by kernel_rfl)
     exact ⟨z11, false, (Zone.le_refl _), hf63, hS24, hr18⟩
   ·have hr19 := cond_f hb1 hr11
    have hf64 := Fr.conv hf45 (congrArg (fun z => ([(2, pB b2 0), (4, pB b3 0), (5, vI r2.2.2), (6, pB b4 0), (7, vI y4), (8, vI r3.1), (9, vI r3.2.1), (10, vI r3.2.2), (11, .slice e8 r4.1.length q8), (12, vI r4.2), (47, .bool z)] : FL)) hb1)
    refine p_qt [] [(2, pB b2 0), (4, pB b3 0), (6, pB b4 0), (8, vI r3.1), (9, vI r3.2.1), (11, .slice e8 r4.1.length q8), (13, .bool false)] [] hf64 (by kernel_rfl) .nil fun a50 hf65 => ?_
    have hf66 := Fr.keep (ks := [2, 4, 6, 8, 9, 11, 13]) (r := [(2, pB b2 0), (4, pB b3 0), (6, pB b4 0), (8, vI r3.1), (9, vI r3.2.1), (11, .slice e8 r4.1.length q8), (13, .bool false)]) hf65 (by kernel_rfl)
    exact ⟨z11, false, (Zone.le_refl _), hf66, hS24, hr19⟩
  ·rintro a51 ww24 ⟨z12, y3, k12, hf67, hS25, hr20⟩
   refine w_mid (by kernel_rfl) (fun a w => ∃ z13 : Zone, ∃ y1 : Bool, Zone.le z12 z13 ∧ Fr a 97 [(0, .bool y1)] ∧ St z13 (box b4 [.slice e2 y2.length q2] 24 :: box b3 [vI r2.1, vI r2.2.1] 41 :: box b2 [vI r1.1, vI r1.2.1] 41 :: box b1 [.slice e1 r7.length q1] 24 :: L) w ∧ (F13_j3 y1) = some r) ?_ ?_
   ·skip
    refine w_reg (by kernel_rfl) ?_
    refine p_qn 2 [] [(2, pB b2 0), (4, pB b3 0), (6, pB b4 0), (8, vI r3.1), (9, vI r3.2.1), (11, .slice e8 r4.1.length q8), (64, .bool y3)] [] hf67 (by kernel_rfl) .nil fun a52 hf68 => ?_
    rcases Bool.eq_false_or_eq_true y3 with hb5 | hb5
    ·have hr21 := cond_t hb5 hr20
     have hf69 := Fr.conv hf68 (congrArg (fun z => ([(2, pB b2 0), (4, pB b3 0), (6, pB b4 0), (8, vI r3.1), (9, vI r3.2.1), (11, .slice e8 r4.1.length q8), (64, .bool z)] : FL)) hb5)
     refine p_qn 5 [vI r1.1, vI r1.2.1] [(4, pB b3 0), (6, pB b4 0), (8, vI r3.1), (9, vI r3.2.1), (11, .slice e8 r4.1.length q8), (69, .bool ((r1.1 == (-10 : Int)) && ((r1.2.1 == (15 : Int)) && true)))] [.cell ⟨b2, 0, none⟩ (vI r1.1), .cell ⟨b2, 1, none⟩ (vI r1.2.1)] hf69 (by kernel_rfl) (.cell (hS25.box (i := 2) rfl (j := 0) rfl) (.cell (hS25.box (i := 2) rfl (j := 1) rfl) .nil)) fun a53 hf70 => ?_
     rcases Bool.eq_false_or_eq_true ((r1.1 == (-10 : Int)) && ((r1.2.1 == (15 : Int)) && true)) with hb6 | hb6
     ·have hr22 := cond_t hb6 hr21
      have hf71 := Fr.conv hf70 (congrArg (fun z => ([(4, pB b3 0), (6, pB b4 0), (8, vI r3.1), (9, vI r3.2.1), (11, .slice e8 r4.1.length q8), (69, .bool z)] : FL)) hb6)
      refine p_qn 5 [vI r2.1, vI r2.2.1] [(6, pB b4 0), (8, vI r3.1), (9, vI r3.2.1), (11, .slice e8 r4.1.length q8), (74, .bool ((r2.1 == (2 : Int)) && ((r2.2.1 == (9 : Int)) && true)))] [.cell ⟨b3, 0, none⟩ (vI r2.1), .cell ⟨b3, 1, none⟩ (vI r2.2.1)] hf71 (by kernel_rfl) (.cell (hS25.box (i := 1) rfl (j := 0) rfl) (.cell (hS25.box (i := 1) rfl (j := 1) rfl) .nil)) fun a54 hf72 => ?_
      rcases Bool.eq_false_or_eq_true ((r2.1 == (2 : Int)) && ((r2.2.1 == (9 : Int)) && true)) with hb7 | hb7
      ·have hr23 := cond_t hb7 hr22
       have hf73 := Fr.conv hf72 (congrArg (fun z => ([(6, pB b4 0), (8, vI r3.1), (9, vI r3.2.1), (11, .slice e8 r4.1.length q8), (74, .bool z)] : FL)) hb7)
       refine p_qn 4 [.slice e2 y2.length q2] [(8, vI r3.1), (9, vI r3.2.1), (11, .slice e8 r4.1.length q8), (74, .bool true), (75, .agg #[.slice e2 y2.length q2]), (76, .agg #[vI 5, vI 3, vI 6]), (77, .agg #[vI 10, vI 6, vI 11]), (78, .agg #[vI 20, vI 11, vI 16])] [.cell ⟨b4, 0, none⟩ (.slice e2 y2.length q2)] hf73 (by kernel_rfl) (.cell (hS25.box (i := 0) rfl (j := 0) rfl) .nil) fun a55 hf74 => ?_
       refine p_box (i := 16) (d := (some 79)) (cs := [vI 5, vI 3, vI 6, vI 10, vI 6, vI 11, vI 20, vI 11, vI 16]) (T := 52) (v := fun b8 => .slice (some ⟨b8, 0, none⟩) 3 3) hS25 hf74 (fun b => by kernel_rfl) fun b8 ww25 a56 hS26 hf75 => ⟨fun _ => trivial, ?_⟩
       have hS27 := hS26.ownBox (T := PtT) (E := 52) (n := 3) (xs := [⟨5, 3, 6⟩, ⟨10, 6, 11⟩, ⟨20, 11, 16⟩]) (i := 0) rfl (Rows.cons (c := [vI 5, vI 3, vI 6]) rfl (Rows.cons (c := [vI 10, vI 6, vI 11]) rfl (Rows.cons (c := [vI 20, vI 11, vI 16]) rfl rfl))) rfl (by decide)
       refine p_qn 1 [] [(8, vI r3.1), (9, vI r3.2.1), (11, .slice e8 r4.1.length q8), (74, .bool true), (75, .agg #[.slice e2 y2.length q2]), (80, .agg #[.slice (some ⟨b8, 0, none⟩) 3 3])] [] hf75 (by kernel_rfl) .nil fun a57 hf76 => ?_
       obtain ⟨z14, k13, hS28, hx9⟩ := hS27.share (j := 0) rfl
       obtain ⟨r5, hd11, hr24⟩ := bind_some hr23
       refine p_call (i := 18) (d := some 81) (f := 63) (args := #[.agg #[.slice e2 y2.length q2], .agg #[.slice (some ⟨b8, 0, none⟩) 3 3]]) hf76 (by kernel_rfl) (f63_ok fuel y2 ([⟨5, 3, 6⟩, ⟨10, 6, 11⟩, ⟨20, 11, 16⟩]) r5 hd11 z14 _ _ hS28 e2 q2 (SliceR.mono (Zone.le_trans (Zone.le_trans (Zone.le_trans k10 k11) k12) k13) hx7) (some ⟨b8, 0, none⟩) 3 hx9) ?_
       rintro v11 ww26 a58 ⟨z15, k14, rfl, hS29⟩ hf77
       refine ⟨fun _ => trivial, ?_⟩
       refine p_qn 2 [] [(8, vI r3.1), (9, vI r3.2.1), (11, .slice e8 r4.1.length q8), (83, .bool r5)] [] hf77 (by kernel_rfl) .nil fun a59 hf78 => ?_
       rcases Bool.eq_false_or_eq_true r5 with hb8 | hb8
       ·have hr25 := cond_t hb8 hr24
        have hf79 := Fr.conv hf78 (congrArg (fun z => ([(8, vI r3.1), (9, vI r3.2.1), (11, .slice e8 r4.1.length q8), (83, .bool z)] : FL)) hb8)
        refine p_qn 4 [] [(9, vI r3.2.1), (11, .slice e8 r4.1.length q8), (87, .bool (r3.1 == (48 : Int)))] [] hf79 (by kernel_rfl) .nil fun a60 hf80 => ?_
        rcases Bool.eq_false_or_eq_true (r3.1 == (48 : Int)) with hb9 | hb9
        ·have hr26 := cond_t hb9 hr25
         have hf81 := Fr.conv hf80 (congrArg (fun z => ([(9, vI r3.2.1), (11, .slice e8 r4.1.length q8), (87, .bool z)] : FL)) hb9)
         refine p_qn 4 [] [(11, .slice e8 r4.1.length q8), (91, .bool (r3.2.1 == (77 : Int)))] [] hf81 (by kernel_rfl) .nil fun a61 hf82 => ?_
         rcases Bool.eq_false_or_eq_true (r3.2.1 == (77 : Int)) with hb10 | hb10
         ·have hr27 := cond_t hb10 hr26
          have hf83 := Fr.conv hf82 (congrArg (fun z => ([(11, .slice e8 r4.1.length q8), (91, .bool z)] : FL)) hb10)
          refine p_qn 2 [] [(91, .bool true), (92, .slice e8 r4.1.length q8), (93, .agg #[vI 7, vI 13])] [] hf83 (by kernel_rfl) .nil fun a62 hf84 => ?_
          refine p_box (i := 31) (d := (some 94)) (cs := [vI 7, vI 13]) (T := 41) (v := fun b9 => .slice (some ⟨b9, 0, none⟩) 1 1) hS29 hf84 (fun b => by kernel_rfl) fun b9 ww27 a63 hS30 hf85 => ⟨fun _ => trivial, ?_⟩
          have hS31 := hS30.ownBox (T := RngT) (E := 41) (n := 1) (xs := [⟨7, 13⟩]) (i := 0) rfl (Rows.cons (c := [vI 7, vI 13]) rfl rfl) rfl (by decide)
          obtain ⟨z16, k15, hS32, hx10⟩ := hS31.share (j := 0) rfl
          obtain ⟨r6, hd12, hr28⟩ := bind_some hr27
          refine p_call (i := 32) (d := some 95) (f := 26) (args := #[.slice e8 r4.1.length q8, .slice (some ⟨b9, 0, none⟩) 1 1]) hf85 (by kernel_rfl) (f26_ok fuel r4.1 ([⟨7, 13⟩]) r6 hd12 z16 _ _ hS32 e8 q8 (SliceR.mono (Zone.le_trans (Zone.le_trans (Zone.le_trans k12 k13) k14) k15) hx8) (some ⟨b9, 0, none⟩) 1 hx10) ?_
          rintro v12 ww28 a64 ⟨z17, k16, rfl, hS33⟩ hf86
          refine ⟨fun _ => trivial, ?_⟩
          refine p_qt [] [(0, .bool r6)] [] hf86 (by kernel_rfl) .nil fun a65 hf87 => ?_
          have hf88 := Fr.keep (ks := [0]) (r := [(0, .bool r6)]) hf87 (by kernel_rfl)
          exact ⟨z17, r6, (Zone.le_trans (Zone.le_trans (Zone.le_trans k13 k14) k15) k16), hf88, (St.drop 2 hS33), hr28⟩
         ·have hr29 := cond_f hb10 hr26
          have hf89 := Fr.conv hf82 (congrArg (fun z => ([(11, .slice e8 r4.1.length q8), (91, .bool z)] : FL)) hb10)
          refine p_qt [] [(0, .bool false)] [] hf89 (by kernel_rfl) .nil fun a66 hf90 => ?_
          have hf91 := Fr.keep (ks := [0]) (r := [(0, .bool false)]) hf90 (by kernel_rfl)
          exact ⟨z15, false, (Zone.le_trans k13 k14), hf91, (St.drop 1 hS29), hr29⟩
        ·have hr30 := cond_f hb9 hr25
         have hf92 := Fr.conv hf80 (congrArg (fun z => ([(9, vI r3.2.1), (11, .slice e8 r4.1.length q8), (87, .bool z)] : FL)) hb9)
         refine p_qt [] [(0, .bool false)] [] hf92 (by kernel_rfl) .nil fun a67 hf93 => ?_
         have hf94 := Fr.keep (ks := [0]) (r := [(0, .bool false)]) hf93 (by kernel_rfl)
         exact ⟨z15, false, (Zone.le_trans k13 k14), hf94, (St.drop 1 hS29), hr30⟩
       ·have hr31 := cond_f hb8 hr24
        have hf95 := Fr.conv hf78 (congrArg (fun z => ([(8, vI r3.1), (9, vI r3.2.1), (11, .slice e8 r4.1.length q8), (83, .bool z)] : FL)) hb8)
        refine p_qt [] [(0, .bool false)] [] hf95 (by kernel_rfl) .nil fun a68 hf96 => ?_
        have hf97 := Fr.keep (ks := [0]) (r := [(0, .bool false)]) hf96 (by kernel_rfl)
        exact ⟨z15, false, (Zone.le_trans k13 k14), hf97, (St.drop 1 hS29), hr31⟩
      ·have hr32 := cond_f hb7 hr22
       have hf98 := Fr.conv hf72 (congrArg (fun z => ([(6, pB b4 0), (8, vI r3.1), (9, vI r3.2.1), (11, .slice e8 r4.1.length q8), (74, .bool z)] : FL)) hb7)
       refine p_qt [] [(0, .bool false)] [] hf98 (by kernel_rfl) .nil fun a69 hf99 => ?_
       have hf100 := Fr.keep (ks := [0]) (r := [(0, .bool false)]) hf99 (by kernel_rfl)
       exact ⟨z12, false, (Zone.le_refl _), hf100, hS25, hr32⟩
     ·have hr33 := cond_f hb6 hr21
      have hf101 := Fr.conv hf70 (congrArg (fun z => ([(4, pB b3 0), (6, pB b4 0), (8, vI r3.1), (9, vI r3.2.1), (11, .slice e8 r4.1.length q8), (69, .bool z)] : FL)) hb6)
      refine p_qt [] [(0, .bool false)] [] hf101 (by kernel_rfl) .nil fun a70 hf102 => ?_
      have hf103 := Fr.keep (ks := [0]) (r := [(0, .bool false)]) hf102 (by kernel_rfl)
      exact ⟨z12, false, (Zone.le_refl _), hf103, hS25, hr33⟩
    ·have hr34 := cond_f hb5 hr20
     have hf104 := Fr.conv hf68 (congrArg (fun z => ([(2, pB b2 0), (4, pB b3 0), (6, pB b4 0), (8, vI r3.1), (9, vI r3.2.1), (11, .slice e8 r4.1.length q8), (64, .bool z)] : FL)) hb5)
     refine p_qt [] [(0, .bool false)] [] hf104 (by kernel_rfl) .nil fun a71 hf105 => ?_
     have hf106 := Fr.keep (ks := [0]) (r := [(0, .bool false)]) hf105 (by kernel_rfl)
     exact ⟨z12, false, (Zone.le_refl _), hf106, hS25, hr34⟩
   ·rintro a72 ww29 ⟨z13, y1, k17, hf107, hS34, hr35⟩
    refine w_ret (by kernel_rfl) ?_
    refine p_ret (os := []) (v := .bool y1) (obs := []) hf107 (by kernel_rfl) .nil ?_
    obtain rfl := some_eq hr35
    exact ⟨_, rfl, z13, (Zone.le_trans (Zone.le_trans (Zone.le_trans (Zone.le_trans (Zone.le_trans (Zone.le_trans (Zone.le_trans k1 k2) k3) k9) k10) k11) k12) k17), rfl, (St.drop 4 hS34)⟩
end Go.Proofs.Ytpjmgeajajcceaa

