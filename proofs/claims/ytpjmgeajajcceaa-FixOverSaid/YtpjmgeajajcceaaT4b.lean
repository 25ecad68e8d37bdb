/-
  The walks of functions 12, 34, 73, 74, 91, 122, 100, 30, 80, 92, 20, 132, 123, 95, 22, 23, 24, 78, 79, 15, 25, 4: what the code does is what a plain function computes. No condition.
-/
import Derived.Test.YtpjmgeajajcceaaT4a
set_option linter.unusedVariables false
namespace Go.Proofs.Ytpjmgeajajcceaa
open Go.Sl Go.Sx
set_option maxRecDepth 100000 in
theorem f4_ok (fuel : Nat) (x0 : List Pt) (x1_lo : Int) (x1_hi : Int) (y2 : Int) (y3 : Int) (r : Bool) (hr : F4 fuel x0 x1_lo x1_hi y2 y3 = some r) (h : Zone) (L : List Atom) (w : World) (hS : St h L w) (o_x0 : Option Addr) (c_x0 : Nat) (hx_x0 : SliceR PtT h o_x0 c_x0 x0) :
    Calls Try.prog 4 #[.agg #[.slice o_x0 x0.length c_x0], .agg #[vI x1_lo, vI x1_hi], .agg #[vI y2, vI y3]] w fun e w' => ∃ v, e = .returned v ∧ (∃ h', Zone.le h h' ∧ v = .bool r ∧ St h' L w') := by
 refine calls_intro (N := 129) Try.func4 (by kernel_rfl) fun a hf => ?_
 refine w_sr (by kernel_rfl) ?_
 refine p_box (i := 0) (d := (some 3)) (cs := [.slice o_x0 x0.length c_x0]) (T := 24) (v := fun b1 => pB b1 0) hS hf (fun b => by kernel_rfl) fun b1 ww1 a1 hS1 hf1 => ⟨fun _ => trivial, ?_⟩
 refine p_box (i := 1) (d := (some 4)) (cs := [vI x1_lo, vI x1_hi]) (T := 41) (v := fun b2 => pB b2 0) hS1 hf1 (fun b => by kernel_rfl) fun b2 ww2 a2 hS2 hf2 => ⟨fun _ => trivial, ?_⟩
 refine p_box (i := 2) (d := (some 5)) (cs := [vI y2, vI y3]) (T := 42) (v := fun b3 => pB b3 0) hS2 hf2 (fun b => by kernel_rfl) fun b3 ww3 a3 hS3 hf3 => ⟨fun _ => trivial, ?_⟩
 refine p_qt [] [(3, pB b1 0), (4, pB b2 0), (5, pB b3 0)] [] hf3 (by kernel_rfl) .nil fun a4 hf4 => ?_
 refine w_sr (by kernel_rfl) ?_
 refine p_qn 2 [.slice o_x0 x0.length c_x0, vI x1_lo, vI x1_hi] [(3, pB b1 0), (4, pB b2 0), (5, pB b3 0), (26, .agg #[.slice o_x0 x0.length c_x0]), (27, .agg #[vI x1_lo, vI x1_hi])] [.cell ⟨b1, 0, none⟩ (.slice o_x0 x0.length c_x0), .cell ⟨b2, 0, none⟩ (vI x1_lo), .cell ⟨b2, 1, none⟩ (vI x1_hi)] hf4 (by kernel_rfl) (.cell (hS3.box (i := 2) rfl (j := 0) rfl) (.cell (hS3.box (i := 1) rfl (j := 0) rfl) (.cell (hS3.box (i := 1) rfl (j := 1) rfl) .nil))) fun a5 hf5 => ?_
 obtain ⟨r1, hd1, hr1⟩ := bind_some hr
 refine p_call (i := 2) (d := some 28) (f := 19) (args := #[.agg #[.slice o_x0 x0.length c_x0], .agg #[vI x1_lo, vI x1_hi]]) hf5 (by kernel_rfl) (f19_ok fuel x0 x1_lo x1_hi r1 hd1 h _ _ hS3 o_x0 c_x0 hx_x0) ?_
 rintro v1 ww4 a6 ⟨z1, k1, rfl, hS4⟩ hf6
 refine ⟨fun _ => trivial, ?_⟩
 refine p_qn 3 [] [(3, pB b1 0), (4, pB b2 0), (5, pB b3 0), (29, .agg #[vI r1.1, vI r1.2.1]), (30, vI r1.2.2)] [] hf6 (by kernel_rfl) .nil fun a7 hf7 => ?_
 refine p_box (i := 6) (d := (some 7)) (cs := [vI 0, vI 0]) (T := 41) (v := fun b4 => pB b4 0) hS4 hf7 (fun b => by kernel_rfl) fun b4 ww5 a8 hS5 hf8 => ⟨fun _ => trivial, ?_⟩
 refine p_store_eq (i := 7) (j := 0) (b := b4) (off := 0) (vs := [vI r1.1, vI r1.2.1]) (cs' := [vI r1.1, vI r1.2.1]) hS5 hf8 rfl (by kernel_rfl) (by kernel_rfl) rfl fun ww6 a9 hS6 hf9 => ⟨fun _ => trivial, ?_⟩
 refine p_qt [] [(3, pB b1 0), (4, pB b2 0), (5, pB b3 0), (7, pB b4 0), (8, vI r1.2.2)] [] hf9 (by kernel_rfl) .nil fun a10 hf10 => ?_
 refine w_sr (by kernel_rfl) ?_
 refine p_qn 2 [.slice o_x0 x0.length c_x0, vI x1_lo, vI x1_hi] [(3, pB b1 0), (4, pB b2 0), (5, pB b3 0), (7, pB b4 0), (8, vI r1.2.2), (32, .agg #[.slice o_x0 x0.length c_x0]), (33, .agg #[vI x1_lo, vI x1_hi])] [.cell ⟨b1, 0, none⟩ (.slice o_x0 x0.length c_x0), .cell ⟨b2, 0, none⟩ (vI x1_lo), .cell ⟨b2, 1, none⟩ (vI x1_hi)] hf10 (by kernel_rfl) (.cell (hS6.box (i := 3) rfl (j := 0) rfl) (.cell (hS6.box (i := 2) rfl (j := 0) rfl) (.cell (hS6.box (i := 2) rfl (j := 1) rfl) .nil))) fun a11 hf11 => ?_
 obtain ⟨r2, hd2, hr2⟩ := bind_some hr1
 refine p_call (i := 2) (d := some 34) (f := 20) (args := #[.agg #[.slice o_x0 x0.length c_x0], .agg #[vI x1_lo, vI x1_hi]]) hf11 (by kernel_rfl) (f20_ok fuel x0 x1_lo x1_hi r2 hd2 z1 _ _ hS6 o_x0 c_x0 (SliceR.mono k1 hx_x0)) ?_
 rintro v2 ww7 a12 ⟨z2, k2, rfl, hS7⟩ hf12
 refine ⟨fun _ => trivial, ?_⟩
 refine p_qn 3 [] [(3, pB b1 0), (4, pB b2 0), (5, pB b3 0), (7, pB b4 0), (8, vI r1.2.2), (35, .agg #[vI r2.1, vI r2.2.1]), (36, vI r2.2.2)] [] hf12 (by kernel_rfl) .nil fun a13 hf13 => ?_
 refine p_box (i := 6) (d := (some 9)) (cs := [vI 0, vI 0]) (T := 41) (v := fun b5 => pB b5 0) hS7 hf13 (fun b => by kernel_rfl) fun b5 ww8 a14 hS8 hf14 => ⟨fun _ => trivial, ?_⟩
 refine p_store_eq (i := 7) (j := 0) (b := b5) (off := 0) (vs := [vI r2.1, vI r2.2.1]) (cs' := [vI r2.1, vI r2.2.1]) hS8 hf14 rfl (by kernel_rfl) (by kernel_rfl) rfl fun ww9 a15 hS9 hf15 => ⟨fun _ => trivial, ?_⟩
 refine p_qt [] [(3, pB b1 0), (4, pB b2 0), (5, pB b3 0), (7, pB b4 0), (8, vI r1.2.2), (9, pB b5 0), (10, vI r2.2.2)] [] hf15 (by kernel_rfl) .nil fun a16 hf16 => ?_
 refine w_sr (by kernel_rfl) ?_
 refine p_qn 2 [.slice o_x0 x0.length c_x0, vI x1_lo, vI x1_hi] [(3, pB b1 0), (4, pB b2 0), (5, pB b3 0), (7, pB b4 0), (8, vI r1.2.2), (9, pB b5 0), (10, vI r2.2.2), (38, .agg #[.slice o_x0 x0.length c_x0]), (39, .agg #[vI x1_lo, vI x1_hi])] [.cell ⟨b1, 0, none⟩ (.slice o_x0 x0.length c_x0), .cell ⟨b2, 0, none⟩ (vI x1_lo), .cell ⟨b2, 1, none⟩ (vI x1_hi)] hf16 (by kernel_rfl) (.cell (hS9.box (i := 4) rfl (j := 0) rfl) (.cell (hS9.box (i := 3) rfl (j := 0) rfl) (.cell (hS9.box (i := 3) rfl (j := 1) rfl) .nil))) fun a17 hf17 => ?_
 obtain ⟨r3, hd3, hr3⟩ := bind_some hr2
 refine p_call (i := 2) (d := some 40) (f := 21) (args := #[.agg #[.slice o_x0 x0.length c_x0], .agg #[vI x1_lo, vI x1_hi]]) hf17 (by kernel_rfl) (f21_ok fuel x0 x1_lo x1_hi r3 hd3 z2 _ _ hS9 o_x0 c_x0 (SliceR.mono (Zone.le_trans k1 k2) hx_x0)) ?_
 rintro v3 ww10 a18 ⟨z3, e1, q1, k3, rfl, hS10, hx1⟩ hf18
 refine ⟨fun _ => trivial, ?_⟩
 refine p_qt [] [(3, pB b1 0), (4, pB b2 0), (5, pB b3 0), (7, pB b4 0), (8, vI r1.2.2), (9, pB b5 0), (10, vI r2.2.2), (11, .slice e1 r3.1.length q1), (12, vI r3.2)] [] hf18 (by kernel_rfl) .nil fun a19 hf19 => ?_
 refine w_sr (by kernel_rfl) ?_
 refine p_qn 2 [.slice o_x0 x0.length c_x0, vI x1_lo, vI x1_hi] [(3, pB b1 0), (5, pB b3 0), (7, pB b4 0), (8, vI r1.2.2), (9, pB b5 0), (10, vI r2.2.2), (11, .slice e1 r3.1.length q1), (12, vI r3.2), (44, .agg #[.slice o_x0 x0.length c_x0]), (45, .agg #[vI x1_lo, vI x1_hi])] [.cell ⟨b1, 0, none⟩ (.slice o_x0 x0.length c_x0), .cell ⟨b2, 0, none⟩ (vI x1_lo), .cell ⟨b2, 1, none⟩ (vI x1_hi)] hf19 (by kernel_rfl) (.cell (hS10.box (i := 4) rfl (j := 0) rfl) (.cell (hS10.box (i := 3) rfl (j := 0) rfl) (.cell (hS10.box (i := 3) rfl (j := 1) rfl) .nil))) fun a20 hf20 => ?_
 obtain ⟨r4, hd4, hr4⟩ := bind_some hr3
 refine p_call (i := 2) (d := some 46) (f := 22) (args := #[.agg #[.slice o_x0 x0.length c_x0], .agg #[vI x1_lo, vI x1_hi]]) hf20 (by kernel_rfl) (f22_ok fuel x0 x1_lo x1_hi r4 hd4 z3 _ _ hS10 o_x0 c_x0 (SliceR.mono (Zone.le_trans (Zone.le_trans k1 k2) k3) hx_x0)) ?_
 rintro v4 ww11 a21 ⟨z4, e2, q2, k4, rfl, hS11, hx2⟩ hf21
 refine ⟨fun _ => trivial, ?_⟩
 refine p_qt [] [(3, pB b1 0), (5, pB b3 0), (7, pB b4 0), (8, vI r1.2.2), (9, pB b5 0), (10, vI r2.2.2), (11, .slice e1 r3.1.length q1), (12, vI r3.2), (13, .slice e2 r4.1.length q2), (14, vI r4.2)] [] hf21 (by kernel_rfl) .nil fun a22 hf22 => ?_
 refine w_sr (by kernel_rfl) ?_
 refine p_qn 3 [.slice o_x0 x0.length c_x0, vI y2] [(3, pB b1 0), (5, pB b3 0), (7, pB b4 0), (8, vI r1.2.2), (9, pB b5 0), (10, vI r2.2.2), (11, .slice e1 r3.1.length q1), (12, vI r3.2), (13, .slice e2 r4.1.length q2), (14, vI r4.2), (50, .agg #[.slice o_x0 x0.length c_x0]), (52, vI y2)] [.cell ⟨b1, 0, none⟩ (.slice o_x0 x0.length c_x0), .prop ((0 : Int) ≤ 0 ∧ (0 : Int) < (2 : Nat)), .cell ⟨b3, 0, none⟩ (vI y2)] hf22 (by kernel_rfl) (.cell (hS11.box (i := 4) rfl (j := 0) rfl) (.prop (by decide) (.cell (hS11.box (i := 2) rfl (j := 0) rfl) .nil))) fun a23 hf23 => ?_
 obtain ⟨r5, hd5, hr5⟩ := bind_some hr4
 refine p_call (i := 3) (d := some 53) (f := 23) (args := #[.agg #[.slice o_x0 x0.length c_x0], vI y2]) hf23 (by kernel_rfl) (f23_ok fuel x0 y2 r5 hd5 z4 _ _ hS11 o_x0 c_x0 (SliceR.mono (Zone.le_trans (Zone.le_trans (Zone.le_trans k1 k2) k3) k4) hx_x0)) ?_
 rintro v5 ww12 a24 ⟨z5, e3, q3, k5, rfl, hS12, hx3⟩ hf24
 refine ⟨fun _ => trivial, ?_⟩
 refine p_qt [] [(3, pB b1 0), (5, pB b3 0), (7, pB b4 0), (8, vI r1.2.2), (9, pB b5 0), (10, vI r2.2.2), (11, .slice e1 r3.1.length q1), (12, vI r3.2), (13, .slice e2 r4.1.length q2), (14, vI r4.2), (15, .slice e3 r5.1.length q3), (16, vI r5.2)] [] hf24 (by kernel_rfl) .nil fun a25 hf25 => ?_
 refine w_sr (by kernel_rfl) ?_
 refine p_qn 3 [.slice o_x0 x0.length c_x0, vI y2] [(3, pB b1 0), (5, pB b3 0), (7, pB b4 0), (8, vI r1.2.2), (9, pB b5 0), (10, vI r2.2.2), (11, .slice e1 r3.1.length q1), (12, vI r3.2), (13, .slice e2 r4.1.length q2), (14, vI r4.2), (15, .slice e3 r5.1.length q3), (16, vI r5.2), (57, .agg #[.slice o_x0 x0.length c_x0]), (59, vI y2)] [.cell ⟨b1, 0, none⟩ (.slice o_x0 x0.length c_x0), .prop ((0 : Int) ≤ 0 ∧ (0 : Int) < (2 : Nat)), .cell ⟨b3, 0, none⟩ (vI y2)] hf25 (by kernel_rfl) (.cell (hS12.box (i := 4) rfl (j := 0) rfl) (.prop (by decide) (.cell (hS12.box (i := 2) rfl (j := 0) rfl) .nil))) fun a26 hf26 => ?_
 obtain ⟨r6, hd6, hr6⟩ := bind_some hr5
 refine p_call (i := 3) (d := some 60) (f := 24) (args := #[.agg #[.slice o_x0 x0.length c_x0], vI y2]) hf26 (by kernel_rfl) (f24_ok fuel x0 y2 r6 hd6 z5 _ _ hS12 o_x0 c_x0 (SliceR.mono (Zone.le_trans (Zone.le_trans (Zone.le_trans (Zone.le_trans k1 k2) k3) k4) k5) hx_x0)) ?_
 rintro v6 ww13 a27 ⟨z6, e4, q4, k6, rfl, hS13, hx4⟩ hf27
 refine ⟨fun _ => trivial, ?_⟩
 refine p_qt [] [(3, pB b1 0), (5, pB b3 0), (7, pB b4 0), (8, vI r1.2.2), (9, pB b5 0), (10, vI r2.2.2), (11, .slice e1 r3.1.length q1), (12, vI r3.2), (13, .slice e2 r4.1.length q2), (14, vI r4.2), (15, .slice e3 r5.1.length q3), (16, vI r5.2), (17, .slice e4 r6.1.length q4), (18, vI r6.2)] [] hf27 (by kernel_rfl) .nil fun a28 hf28 => ?_
 refine w_sr (by kernel_rfl) ?_
 refine p_qn 5 [.slice o_x0 x0.length c_x0, vI y2, vI y3] [(3, pB b1 0), (5, pB b3 0), (7, pB b4 0), (8, vI r1.2.2), (9, pB b5 0), (10, vI r2.2.2), (11, .slice e1 r3.1.length q1), (12, vI r3.2), (13, .slice e2 r4.1.length q2), (14, vI r4.2), (15, .slice e3 r5.1.length q3), (16, vI r5.2), (17, .slice e4 r6.1.length q4), (18, vI r6.2), (64, .agg #[.slice o_x0 x0.length c_x0]), (66, vI y2), (68, vI y3)] [.cell ⟨b1, 0, none⟩ (.slice o_x0 x0.length c_x0), .prop ((0 : Int) ≤ 0 ∧ (0 : Int) < (2 : Nat)), .cell ⟨b3, 0, none⟩ (vI y2), .prop ((0 : Int) ≤ 1 ∧ (1 : Int) < (2 : Nat)), .cell ⟨b3, 1, none⟩ (vI y3)] hf28 (by kernel_rfl) (.cell (hS13.box (i := 4) rfl (j := 0) rfl) (.prop (by decide) (.cell (hS13.box (i := 2) rfl (j := 0) rfl) (.prop (by decide) (.cell (hS13.box (i := 2) rfl (j := 1) rfl) .nil))))) fun a29 hf29 => ?_
 obtain ⟨r7, hd7, hr7⟩ := bind_some hr6
 refine p_call (i := 5) (d := some 69) (f := 18) (args := #[.agg #[.slice o_x0 x0.length c_x0], vI y2, vI y3]) hf29 (by kernel_rfl) (f18_ok fuel x0 y2 y3 r7 hd7 z6 _ _ hS13 o_x0 c_x0 (SliceR.mono (Zone.le_trans (Zone.le_trans (Zone.le_trans (Zone.le_trans (Zone.le_trans k1 k2) k3) k4) k5) k6) hx_x0)) ?_
 rintro v7 ww14 a30 ⟨z7, k7, rfl, hS14⟩ hf30
 refine ⟨fun _ => trivial, ?_⟩
 refine p_qt [] [(3, pB b1 0), (5, pB b3 0), (7, pB b4 0), (8, vI r1.2.2), (9, pB b5 0), (10, vI r2.2.2), (11, .slice e1 r3.1.length q1), (12, vI r3.2), (13, .slice e2 r4.1.length q2), (14, vI r4.2), (15, .slice e3 r5.1.length q3), (16, vI r5.2), (17, .slice e4 r6.1.length q4), (18, vI r6.2), (19, vI r7.1), (20, vI r7.2.1), (21, vI r7.2.2)] [] hf30 (by kernel_rfl) .nil fun a31 hf31 => ?_
 refine w_sr (by kernel_rfl) ?_
 refine p_qn 5 [.slice o_x0 x0.length c_x0, vI y2, vI y3] [(7, pB b4 0), (8, vI r1.2.2), (9, pB b5 0), (10, vI r2.2.2), (11, .slice e1 r3.1.length q1), (12, vI r3.2), (13, .slice e2 r4.1.length q2), (14, vI r4.2), (15, .slice e3 r5.1.length q3), (16, vI r5.2), (17, .slice e4 r6.1.length q4), (18, vI r6.2), (19, vI r7.1), (20, vI r7.2.1), (21, vI r7.2.2), (74, .agg #[.slice o_x0 x0.length c_x0]), (76, vI y2), (78, vI y3)] [.cell ⟨b1, 0, none⟩ (.slice o_x0 x0.length c_x0), .prop ((0 : Int) ≤ 0 ∧ (0 : Int) < (2 : Nat)), .cell ⟨b3, 0, none⟩ (vI y2), .prop ((0 : Int) ≤ 1 ∧ (1 : Int) < (2 : Nat)), .cell ⟨b3, 1, none⟩ (vI y3)] hf31 (by kernel_rfl) (.cell (hS14.box (i := 4) rfl (j := 0) rfl) (.prop (by decide) (.cell (hS14.box (i := 2) rfl (j := 0) rfl) (.prop (by decide) (.cell (hS14.box (i := 2) rfl (j := 1) rfl) .nil))))) fun a32 hf32 => ?_
 obtain ⟨r8, hd8, hr8⟩ := bind_some hr7
 refine p_call (i := 5) (d := some 79) (f := 25) (args := #[.agg #[.slice o_x0 x0.length c_x0], vI y2, vI y3]) hf32 (by kernel_rfl) (f25_ok fuel x0 y2 y3 r8 hd8 z7 _ _ hS14 o_x0 c_x0 (SliceR.mono (Zone.le_trans (Zone.le_trans (Zone.le_trans (Zone.le_trans (Zone.le_trans (Zone.le_trans k1 k2) k3) k4) k5) k6) k7) hx_x0)) ?_
 rintro v8 ww15 a33 ⟨z8, k8, rfl, hS15⟩ hf33
 refine ⟨fun _ => trivial, ?_⟩
 refine p_qt [] [(7, pB b4 0), (8, vI r1.2.2), (9, pB b5 0), (10, vI r2.2.2), (11, .slice e1 r3.1.length q1), (12, vI r3.2), (13, .slice e2 r4.1.length q2), (14, vI r4.2), (15, .slice e3 r5.1.length q3), (16, vI r5.2), (17, .slice e4 r6.1.length q4), (18, vI r6.2), (19, vI r7.1), (20, vI r7.2.1), (21, vI r7.2.2), (22, vI r8.1), (23, vI r8.2.1), (24, vI r8.2.2)] [] hf33 (by kernel_rfl) .nil fun a34 hf34 => ?_
 refine w_mid (by kernel_rfl) (fun a w => ∃ z9 : Zone, ∃ y1 : Bool, Zone.le z8 z9 ∧ Fr a 129 [(6, .bool y1)] ∧ St z9 (box b5 [vI r2.1, vI r2.2.1] 41 :: box b4 [vI r1.1, vI r1.2.1] 41 :: box b3 [vI y2, vI y3] 42 :: box b2 [vI x1_lo, vI x1_hi] 41 :: box b1 [.slice o_x0 x0.length c_x0] 24 :: L) w ∧ (F4_j1 y1) = some r) ?_ ?_
 ·skip
  refine w_reg (by kernel_rfl) ?_
  refine p_qn 4 [vI r1.1, vI r1.2.1, vI r2.1, vI r2.2.1] [(8, vI r1.2.2), (10, vI r2.2.2), (11, .slice e1 r3.1.length q1), (12, vI r3.2), (13, .slice e2 r4.1.length q2), (14, vI r4.2), (15, .slice e3 r5.1.length q3), (16, vI r5.2), (17, .slice e4 r6.1.length q4), (18, vI r6.2), (19, vI r7.1), (20, vI r7.2.1), (21, vI r7.2.2), (22, vI r8.1), (23, vI r8.2.1), (24, vI r8.2.2), (86, .bool ((r1.1 == r2.1) && ((r1.2.1 == r2.2.1) && true)))] [.cell ⟨b4, 0, none⟩ (vI r1.1), .cell ⟨b4, 1, none⟩ (vI r1.2.1), .cell ⟨b5, 0, none⟩ (vI r2.1), .cell ⟨b5, 1, none⟩ (vI r2.2.1)] hf34 (by kernel_rfl) (.cell (hS15.box (i := 1) rfl (j := 0) rfl) (.cell (hS15.box (i := 1) rfl (j := 1) rfl) (.cell (hS15.box (i := 0) rfl (j := 0) rfl) (.cell (hS15.box (i := 0) rfl (j := 1) rfl) .nil)))) fun a35 hf35 => ?_
  rcases Bool.eq_false_or_eq_true ((r1.1 == r2.1) && ((r1.2.1 == r2.2.1) && true)) with hb1 | hb1
  ·have hr9 := cond_t hb1 hr8
   have hf36 := Fr.conv hf35 (congrArg (fun z => ([(8, vI r1.2.2), (10, vI r2.2.2), (11, .slice e1 r3.1.length q1), (12, vI r3.2), (13, .slice e2 r4.1.length q2), (14, vI r4.2), (15, .slice e3 r5.1.length q3), (16, vI r5.2), (17, .slice e4 r6.1.length q4), (18, vI r6.2), (19, vI r7.1), (20, vI r7.2.1), (21, vI r7.2.2), (22, vI r8.1), (23, vI r8.2.1), (24, vI r8.2.2), (86, .bool z)] : FL)) hb1)
   refine p_qn 5 [] [(11, .slice e1 r3.1.length q1), (12, vI r3.2), (13, .slice e2 r4.1.length q2), (14, vI r4.2), (15, .slice e3 r5.1.length q3), (16, vI r5.2), (17, .slice e4 r6.1.length q4), (18, vI r6.2), (19, vI r7.1), (20, vI r7.2.1), (21, vI r7.2.2), (22, vI r8.1), (23, vI r8.2.1), (24, vI r8.2.2), (91, .bool (r1.2.2 == r2.2.2))] [] hf36 (by kernel_rfl) .nil fun a36 hf37 => ?_
   rcases Bool.eq_false_or_eq_true (r1.2.2 == r2.2.2) with hb2 | hb2
   ·have hr10 := cond_t hb2 hr9
    have hf38 := Fr.conv hf37 (congrArg (fun z => ([(11, .slice e1 r3.1.length q1), (12, vI r3.2), (13, .slice e2 r4.1.length q2), (14, vI r4.2), (15, .slice e3 r5.1.length q3), (16, vI r5.2), (17, .slice e4 r6.1.length q4), (18, vI r6.2), (19, vI r7.1), (20, vI r7.2.1), (21, vI r7.2.2), (22, vI r8.1), (23, vI r8.2.1), (24, vI r8.2.2), (91, .bool z)] : FL)) hb2)
    refine p_qn 2 [] [(12, vI r3.2), (14, vI r4.2), (15, .slice e3 r5.1.length q3), (16, vI r5.2), (17, .slice e4 r6.1.length q4), (18, vI r6.2), (19, vI r7.1), (20, vI r7.2.1), (21, vI r7.2.2), (22, vI r8.1), (23, vI r8.2.1), (24, vI r8.2.2), (91, .bool true), (92, .slice e1 r3.1.length q1), (93, .slice e2 r4.1.length q2)] [] hf38 (by kernel_rfl) .nil fun a37 hf39 => ?_
    obtain ⟨r9, hd9, hr11⟩ := bind_some hr10
    refine p_call (i := 11) (d := some 94) (f := 26) (args := #[.slice e1 r3.1.length q1, .slice e2 r4.1.length q2]) hf39 (by kernel_rfl) (f26_ok fuel r3.1 r4.1 r9 hd9 z8 _ _ hS15 e1 q1 (SliceR.mono (Zone.le_trans (Zone.le_trans (Zone.le_trans (Zone.le_trans k4 k5) k6) k7) k8) hx1) e2 q2 (SliceR.mono (Zone.le_trans (Zone.le_trans (Zone.le_trans k5 k6) k7) k8) hx2)) ?_
    rintro v9 ww16 a38 ⟨z10, k9, rfl, hS16⟩ hf40
    refine ⟨fun _ => trivial, ?_⟩
    refine p_qn 2 [] [(12, vI r3.2), (14, vI r4.2), (15, .slice e3 r5.1.length q3), (16, vI r5.2), (17, .slice e4 r6.1.length q4), (18, vI r6.2), (19, vI r7.1), (20, vI r7.2.1), (21, vI r7.2.2), (22, vI r8.1), (23, vI r8.2.1), (24, vI r8.2.2), (96, .bool r9)] [] hf40 (by kernel_rfl) .nil fun a39 hf41 => ?_
    rcases Bool.eq_false_or_eq_true r9 with hb3 | hb3
    ·have hr12 := cond_t hb3 hr11
     have hf42 := Fr.conv hf41 (congrArg (fun z => ([(12, vI r3.2), (14, vI r4.2), (15, .slice e3 r5.1.length q3), (16, vI r5.2), (17, .slice e4 r6.1.length q4), (18, vI r6.2), (19, vI r7.1), (20, vI r7.2.1), (21, vI r7.2.2), (22, vI r8.1), (23, vI r8.2.1), (24, vI r8.2.2), (96, .bool z)] : FL)) hb3)
     refine p_qn 5 [] [(15, .slice e3 r5.1.length q3), (16, vI r5.2), (17, .slice e4 r6.1.length q4), (18, vI r6.2), (19, vI r7.1), (20, vI r7.2.1), (21, vI r7.2.2), (22, vI r8.1), (23, vI r8.2.1), (24, vI r8.2.2), (101, .bool (r3.2 == r4.2))] [] hf42 (by kernel_rfl) .nil fun a40 hf43 => ?_
     rcases Bool.eq_false_or_eq_true (r3.2 == r4.2) with hb4 | hb4
     ·have hr13 := cond_t hb4 hr12
      have hf44 := Fr.conv hf43 (congrArg (fun z => ([(15, .slice e3 r5.1.length q3), (16, vI r5.2), (17, .slice e4 r6.1.length q4), (18, vI r6.2), (19, vI r7.1), (20, vI r7.2.1), (21, vI r7.2.2), (22, vI r8.1), (23, vI r8.2.1), (24, vI r8.2.2), (101, .bool z)] : FL)) hb4)
      refine p_qn 2 [] [(16, vI r5.2), (18, vI r6.2), (19, vI r7.1), (20, vI r7.2.1), (21, vI r7.2.2), (22, vI r8.1), (23, vI r8.2.1), (24, vI r8.2.2), (101, .bool true), (102, .slice e3 r5.1.length q3), (103, .slice e4 r6.1.length q4)] [] hf44 (by kernel_rfl) .nil fun a41 hf45 => ?_
      obtain ⟨r10, hd10, hr14⟩ := bind_some hr13
      refine p_call (i := 21) (d := some 104) (f := 26) (args := #[.slice e3 r5.1.length q3, .slice e4 r6.1.length q4]) hf45 (by kernel_rfl) (f26_ok fuel r5.1 r6.1 r10 hd10 z10 _ _ hS16 e3 q3 (SliceR.mono (Zone.le_trans (Zone.le_trans (Zone.le_trans k6 k7) k8) k9) hx3) e4 q4 (SliceR.mono (Zone.le_trans (Zone.le_trans k7 k8) k9) hx4)) ?_
      rintro v10 ww17 a42 ⟨z11, k10, rfl, hS17⟩ hf46
      refine ⟨fun _ => trivial, ?_⟩
      refine p_qn 2 [] [(16, vI r5.2), (18, vI r6.2), (19, vI r7.1), (20, vI r7.2.1), (21, vI r7.2.2), (22, vI r8.1), (23, vI r8.2.1), (24, vI r8.2.2), (106, .bool r10)] [] hf46 (by kernel_rfl) .nil fun a43 hf47 => ?_
      rcases Bool.eq_false_or_eq_true r10 with hb5 | hb5
      ·have hr15 := cond_t hb5 hr14
       have hf48 := Fr.conv hf47 (congrArg (fun z => ([(16, vI r5.2), (18, vI r6.2), (19, vI r7.1), (20, vI r7.2.1), (21, vI r7.2.2), (22, vI r8.1), (23, vI r8.2.1), (24, vI r8.2.2), (106, .bool z)] : FL)) hb5)
       refine p_qn 5 [] [(19, vI r7.1), (20, vI r7.2.1), (21, vI r7.2.2), (22, vI r8.1), (23, vI r8.2.1), (24, vI r8.2.2), (111, .bool (r5.2 == r6.2))] [] hf48 (by kernel_rfl) .nil fun a44 hf49 => ?_
       rcases Bool.eq_false_or_eq_true (r5.2 == r6.2) with hb6 | hb6
       ·have hr16 := cond_t hb6 hr15
        have hf50 := Fr.conv hf49 (congrArg (fun z => ([(19, vI r7.1), (20, vI r7.2.1), (21, vI r7.2.2), (22, vI r8.1), (23, vI r8.2.1), (24, vI r8.2.2), (111, .bool z)] : FL)) hb6)
        refine p_qn 5 [] [(20, vI r7.2.1), (21, vI r7.2.2), (23, vI r8.2.1), (24, vI r8.2.2), (116, .bool (r7.1 == r8.1))] [] hf50 (by kernel_rfl) .nil fun a45 hf51 => ?_
        rcases Bool.eq_false_or_eq_true (r7.1 == r8.1) with hb7 | hb7
        ·have hr17 := cond_t hb7 hr16
         have hf52 := Fr.conv hf51 (congrArg (fun z => ([(20, vI r7.2.1), (21, vI r7.2.2), (23, vI r8.2.1), (24, vI r8.2.2), (116, .bool z)] : FL)) hb7)
         refine p_qn 5 [] [(21, vI r7.2.2), (24, vI r8.2.2), (121, .bool (r7.2.1 == r8.2.1))] [] hf52 (by kernel_rfl) .nil fun a46 hf53 => ?_
         rcases Bool.eq_false_or_eq_true (r7.2.1 == r8.2.1) with hb8 | hb8
         ·have hr18 := cond_t hb8 hr17
          have hf54 := Fr.conv hf53 (congrArg (fun z => ([(21, vI r7.2.2), (24, vI r8.2.2), (121, .bool z)] : FL)) hb8)
          refine p_qn 5 [] [(126, .bool (r7.2.2 == r8.2.2))] [] hf54 (by kernel_rfl) .nil fun a47 hf55 => ?_
          rcases Bool.eq_false_or_eq_true (r7.2.2 == r8.2.2) with hb9 | hb9
          ·have hr19 := cond_t hb9 hr18
           have hf56 := Fr.conv hf55 (congrArg (fun z => ([(126, .bool z)] : FL)) hb9)
           obtain ⟨r11, hd11, hr20⟩ := bind_some hr19
           refine p_call (i := 44) (d := some 127) (f := 13) (args := #[]) hf56 (by kernel_rfl) (f13_ok fuel  r11 hd11 z11 _ _ hS17 ) ?_
           rintro v11 ww18 a48 ⟨z12, k11, rfl, hS18⟩ hf57
           refine ⟨fun _ => trivial, ?_⟩
           refine p_qt [] [(6, .bool r11)] [] hf57 (by kernel_rfl) .nil fun a49 hf58 => ?_
           have hf59 := Fr.keep (ks := [6]) (r := [(6, .bool r11)]) hf58 (by kernel_rfl)
           exact ⟨z12, r11, (Zone.le_trans (Zone.le_trans k9 k10) k11), hf59, hS18, hr20⟩
          ·have hr21 := cond_f hb9 hr18
           have hf60 := Fr.conv hf55 (congrArg (fun z => ([(126, .bool z)] : FL)) hb9)
           refine p_qt [] [(6, .bool false)] [] hf60 (by kernel_rfl) .nil fun a50 hf61 => ?_
           have hf62 := Fr.keep (ks := [6]) (r := [(6, .bool false)]) hf61 (by kernel_rfl)
           exact ⟨z11, false, (Zone.le_trans k9 k10), hf62, hS17, hr21⟩
         ·have hr22 := cond_f hb8 hr17
          have hf63 := Fr.conv hf53 (congrArg (fun z => ([(21, vI r7.2.2), (24, vI r8.2.2), (121, .bool z)] : FL)) hb8)
          refine p_qt [] [(6, .bool false)] [] hf63 (by kernel_rfl) .nil fun a51 hf64 => ?_
          have hf65 := Fr.keep (ks := [6]) (r := [(6, .bool false)]) hf64 (by kernel_rfl)
          exact ⟨z11, false, (Zone.le_trans k9 k10), hf65, hS17, hr22⟩
        ·have hr23 := cond_f hb7 hr16
         have hf66 := Fr.conv hf51 (congrArg (fun z => ([(20, vI r7.2.1), (21, vI r7.2.2), (23, vI r8.2.1), (24, vI r8.2.2), (116, .bool z)] : FL)) hb7)
         refine p_qt [] [(6, .bool false)] [] hf66 (by kernel_rfl) .nil fun a52 hf67 => ?_
         have hf68 := Fr.keep (ks := [6]) (r := [(6, .bool false)]) hf67 (by kernel_rfl)
         exact ⟨z11, false, (Zone.le_trans k9 k10), hf68, hS17, hr23⟩
       ·have hr24 := cond_f hb6 hr15
        have hf69 := Fr.conv hf49 (congrArg (fun z => ([(19, vI r7.1), (20, vI r7.2.1), (21, vI r7.2.2), (22, vI r8.1), (23, vI r8.2.1), (24, vI r8.2.2), (111, .bool z)] : FL)) hb6)
        refine p_qt [] [(6, .bool false)] [] hf69 (by kernel_rfl) .nil fun a53 hf70 => ?_
        have hf71 := Fr.keep (ks := [6]) (r := [(6, .bool false)]) hf70 (by kernel_rfl)
        exact ⟨z11, false, (Zone.le_trans k9 k10), hf71, hS17, hr24⟩
      ·have hr25 := cond_f hb5 hr14
       have hf72 := Fr.conv hf47 (congrArg (fun z => ([(16, vI r5.2), (18, vI r6.2), (19, vI r7.1), (20, vI r7.2.1), (21, vI r7.2.2), (22, vI r8.1), (23, vI r8.2.1), (24, vI r8.2.2), (106, .bool z)] : FL)) hb5)
       refine p_qt [] [(6, .bool false)] [] hf72 (by kernel_rfl) .nil fun a54 hf73 => ?_
       have hf74 := Fr.keep (ks := [6]) (r := [(6, .bool false)]) hf73 (by kernel_rfl)
       exact ⟨z11, false, (Zone.le_trans k9 k10), hf74, hS17, hr25⟩
     ·have hr26 := cond_f hb4 hr12
      have hf75 := Fr.conv hf43 (congrArg (fun z => ([(15, .slice e3 r5.1.length q3), (16, vI r5.2), (17, .slice e4 r6.1.length q4), (18, vI r6.2), (19, vI r7.1), (20, vI r7.2.1), (21, vI r7.2.2), (22, vI r8.1), (23, vI r8.2.1), (24, vI r8.2.2), (101, .bool z)] : FL)) hb4)
      refine p_qt [] [(6, .bool false)] [] hf75 (by kernel_rfl) .nil fun a55 hf76 => ?_
      have hf77 := Fr.keep (ks := [6]) (r := [(6, .bool false)]) hf76 (by kernel_rfl)
      exact ⟨z10, false, k9, hf77, hS16, hr26⟩
    ·have hr27 := cond_f hb3 hr11
     have hf78 := Fr.conv hf41 (congrArg (fun z => ([(12, vI r3.2), (14, vI r4.2), (15, .slice e3 r5.1.length q3), (16, vI r5.2), (17, .slice e4 r6.1.length q4), (18, vI r6.2), (19, vI r7.1), (20, vI r7.2.1), (21, vI r7.2.2), (22, vI r8.1), (23, vI r8.2.1), (24, vI r8.2.2), (96, .bool z)] : FL)) hb3)
     refine p_qt [] [(6, .bool false)] [] hf78 (by kernel_rfl) .nil fun a56 hf79 => ?_
     have hf80 := Fr.keep (ks := [6]) (r := [(6, .bool false)]) hf79 (by kernel_rfl)
     exact ⟨z10, false, k9, hf80, hS16, hr27⟩
   ·have hr28 := cond_f hb2 hr9
    have hf81 := Fr.conv hf37 (congrArg (fun z => ([(11, .slice e1 r3.1.length q1), (12, vI r3.2), (13, .slice e2 r4.1.length q2), (14, vI r4.2), (15, .slice e3 r5.1.length q3), (16, vI r5.2), (17, .slice e4 r6.1.length q4), (18, vI r6.2), (19, vI r7.1), (20, vI r7.2.1), (21, vI r7.2.2), (22, vI r8.1), (23, vI r8.2.1), (24, vI r8.2.2), (91, .bool z)] : FL)) hb2)
    refine p_qt [] [(6, .bool false)] [] hf81 (by kernel_rfl) .nil fun a57 hf82 => ?_
    have hf83 := Fr.keep (ks := [6]) (r := [(6, .bool false)]) hf82 (by kernel_rfl)
    exact ⟨z8, false, (Zone.le_refl _), hf83, hS15, hr28⟩
  ·have hr29 := cond_f hb1 hr8
   have hf84 := Fr.conv hf35 (congrArg (fun z => ([(8, vI r1.2.2), (10, vI r2.2.2), (11, .slice e1 r3.1.length q1), (12, vI r3.2), (13, .slice e2 r4.1.length q2), (14, vI r4.2), (15, .slice e3 r5.1.length q3), (16, vI r5.2), (17, .slice e4 r6.1.length q4), (18, vI r6.2), (19, vI r7.1), (20, vI r7.2.1), (21, vI r7.2.2), (22, vI r8.1), (23, vI r8.2.1), (24, vI r8.2.2), (86, .bool z)] : FL)) hb1)
   refine p_qt [] [(6, .bool false)] [] hf84 (by kernel_rfl) .nil fun a58 hf85 => ?_
   have hf86 := Fr.keep (ks := [6]) (r := [(6, .bool false)]) hf85 (by kernel_rfl)
   exact ⟨z8, false, (Zone.le_refl _), hf86, hS15, hr29⟩
 ·rintro a59 ww19 ⟨z9, y1, k12, hf87, hS19, hr30⟩
  refine w_ret (by kernel_rfl) ?_
  refine p_ret (os := []) (v := .bool y1) (obs := []) hf87 (by kernel_rfl) .nil ?_
  obtain rfl := some_eq hr30
  exact ⟨_, rfl, z9, (Zone.le_trans (Zone.le_trans (Zone.le_trans (Zone.le_trans (Zone.le_trans (Zone.le_trans (Zone.le_trans (Zone.le_trans k1 k2) k3) k4) k5) k6) k7) k8) k12), rfl, (St.drop 5 hS19)⟩
end Go.Proofs.Ytpjmgeajajcceaa

