/-
  The walks of functions 4: what the code does is what a plain function computes. No condition.
-/
import Derived.Test.YtlmgjjmighajdaaJC
set_option linter.unusedVariables false
namespace Go.Proofs.Ytlmgjjmighajdaa
open Go.Sl Go.Sx
def F4_j2 (y1 : Bool) : Option (Bool) :=
  (some (y1))
def F4_j1 (r1 : Bool) (r2 : List Part × Int) (r3 : List Part × Int) (r4 : List Part × Int) (r5 : List Part × Int) (r6 : Bool) (y2 : Bool) : Option (Bool) :=
  (cond y2 (some (false)) (cond r1 (cond (r2.2 != (0 : Int)) (F4_j2 true) (cond (r4.2 != (0 : Int)) (F4_j2 true) (cond (r3.2 == r5.2) (F4_j2 r6) (F4_j2 false)))) (F4_j2 false)))
def F4 (fuel : Nat) (x0 : List Part) (x1 : List Part) (x2 : List Part) : Option (Bool) :=
  ((F16 fuel ).bind fun r1 => ((F25 fuel x0 x1).bind fun r2 => ((F25 fuel x1 x0).bind fun r7 => ((F26 fuel r2.1 r7.1).bind fun r8 => ((F25 fuel r2.1 x2).bind fun r3 => ((F25 fuel x1 x2).bind fun r4 => ((F25 fuel x0 r4.1).bind fun r5 => ((F26 fuel r3.1 r5.1).bind fun r6 => (cond (r2.2 != r7.2) (F4_j1 r1 r2 r3 r4 r5 r6 true) (F4_j1 r1 r2 r3 r4 r5 r6 (!r8)))))))))))
set_option maxRecDepth 100000 in
theorem f4_ok (fuel : Nat) (x0 : List Part) (x1 : List Part) (x2 : List Part) (r : Bool) (hr : F4 fuel x0 x1 x2 = some r) (h : Zone) (L : List Atom) (w : World) (hS : St h L w) (o_x0 : Option Addr) (c_x0 : Nat) (hx_x0 : SliceR PartT h o_x0 c_x0 x0) (o_x1 : Option Addr) (c_x1 : Nat) (hx_x1 : SliceR PartT h o_x1 c_x1 x1) (o_x2 : Option Addr) (c_x2 : Nat) (hx_x2 : SliceR PartT h o_x2 c_x2 x2) :
    Calls Try.prog 4 #[.agg #[.slice o_x0 x0.length c_x0], .agg #[.slice o_x1 x1.length c_x1], .agg #[.slice o_x2 x2.length c_x2]] w fun e w' => ∃ v, e = .returned v ∧ (∃ h', Zone.le h h' ∧ v = .bool r ∧ St h' L w') := by
 refine calls_intro (N := 81) Try.func4 (by kernel_rfl) fun a hf => ?_
 refine w_sr (by kernel_rfl) ?_
 refine p_box (i := 0) (d := (some 3)) (cs := [.slice o_x0 x0.length c_x0]) (T := 40) (v := fun b1 => pB b1 0) hS hf (fun b => by kernel_rfl) fun b1 ww1 a1 hS1 hf1 => ⟨fun _ => trivial, ?_⟩
 refine p_box (i := 1) (d := (some 4)) (cs := [.slice o_x1 x1.length c_x1]) (T := 40) (v := fun b2 => pB b2 0) hS1 hf1 (fun b => by kernel_rfl) fun b2 ww2 a2 hS2 hf2 => ⟨fun _ => trivial, ?_⟩
 refine p_box (i := 2) (d := (some 5)) (cs := [.slice o_x2 x2.length c_x2]) (T := 40) (v := fun b3 => pB b3 0) hS2 hf2 (fun b => by kernel_rfl) fun b3 ww3 a3 hS3 hf3 => ⟨fun _ => trivial, ?_⟩
 refine p_qt [] [(3, pB b1 0), (4, pB b2 0), (5, pB b3 0)] [] hf3 (by kernel_rfl) .nil fun a4 hf4 => ?_
 refine w_sr (by kernel_rfl) ?_
 obtain ⟨r1, hd1, hr1⟩ := bind_some hr
 refine p_call (i := 0) (d := some 20) (f := 16) (args := #[]) hf4 (by kernel_rfl) (f16_ok fuel  r1 hd1 h _ _ hS3 ) ?_
 rintro v1 ww4 a5 ⟨z1, k1, rfl, hS4⟩ hf5
 refine ⟨fun _ => trivial, ?_⟩
 refine p_qt [] [(3, pB b1 0), (4, pB b2 0), (5, pB b3 0), (7, .bool r1)] [] hf5 (by kernel_rfl) .nil fun a6 hf6 => ?_
 refine w_sr (by kernel_rfl) ?_
 refine p_qn 2 [.slice o_x0 x0.length c_x0, .slice o_x1 x1.length c_x1] [(3, pB b1 0), (4, pB b2 0), (5, pB b3 0), (7, .bool r1), (22, .agg #[.slice o_x0 x0.length c_x0]), (23, .agg #[.slice o_x1 x1.length c_x1])] [.cell ⟨b1, 0, none⟩ (.slice o_x0 x0.length c_x0), .cell ⟨b2, 0, none⟩ (.slice o_x1 x1.length c_x1)] hf6 (by kernel_rfl) (.cell (hS4.box (i := 2) rfl (j := 0) rfl) (.cell (hS4.box (i := 1) rfl (j := 0) rfl) .nil)) fun a7 hf7 => ?_
 obtain ⟨r2, hd2, hr2⟩ := bind_some hr1
 refine p_call (i := 2) (d := some 24) (f := 25) (args := #[.agg #[.slice o_x0 x0.length c_x0], .agg #[.slice o_x1 x1.length c_x1]]) hf7 (by kernel_rfl) (f25_ok fuel x0 x1 r2 hd2 z1 _ _ hS4 o_x0 c_x0 (SliceR.mono k1 hx_x0) o_x1 c_x1 (SliceR.mono k1 hx_x1)) ?_
 rintro v2 ww5 a8 ⟨z2, e1, q1, k2, rfl, hS5, hx1⟩ hf8
 refine ⟨fun _ => trivial, ?_⟩
 refine p_qn 3 [] [(3, pB b1 0), (4, pB b2 0), (5, pB b3 0), (7, .bool r1), (25, .agg #[.slice e1 r2.1.length q1]), (26, vI r2.2)] [] hf8 (by kernel_rfl) .nil fun a9 hf9 => ?_
 refine p_box (i := 6) (d := (some 8)) (cs := [.slice none 0 0]) (T := 40) (v := fun b4 => pB b4 0) hS5 hf9 (fun b => by kernel_rfl) fun b4 ww6 a10 hS6 hf10 => ⟨fun _ => trivial, ?_⟩
 refine p_store_eq (i := 7) (j := 0) (b := b4) (off := 0) (vs := [.slice e1 r2.1.length q1]) (cs' := [.slice e1 r2.1.length q1]) hS6 hf10 rfl (by kernel_rfl) (by kernel_rfl) rfl fun ww7 a11 hS7 hf11 => ⟨fun _ => trivial, ?_⟩
 refine p_qt [] [(3, pB b1 0), (4, pB b2 0), (5, pB b3 0), (7, .bool r1), (8, pB b4 0), (9, vI r2.2)] [] hf11 (by kernel_rfl) .nil fun a12 hf12 => ?_
 refine w_sr (by kernel_rfl) ?_
 refine p_qn 2 [.slice o_x1 x1.length c_x1, .slice o_x0 x0.length c_x0] [(3, pB b1 0), (4, pB b2 0), (5, pB b3 0), (7, .bool r1), (8, pB b4 0), (9, vI r2.2), (28, .agg #[.slice o_x1 x1.length c_x1]), (29, .agg #[.slice o_x0 x0.length c_x0])] [.cell ⟨b2, 0, none⟩ (.slice o_x1 x1.length c_x1), .cell ⟨b1, 0, none⟩ (.slice o_x0 x0.length c_x0)] hf12 (by kernel_rfl) (.cell (hS7.box (i := 2) rfl (j := 0) rfl) (.cell (hS7.box (i := 3) rfl (j := 0) rfl) .nil)) fun a13 hf13 => ?_
 obtain ⟨r7, hd3, hr3⟩ := bind_some hr2
 refine p_call (i := 2) (d := some 30) (f := 25) (args := #[.agg #[.slice o_x1 x1.length c_x1], .agg #[.slice o_x0 x0.length c_x0]]) hf13 (by kernel_rfl) (f25_ok fuel x1 x0 r7 hd3 z2 _ _ hS7 o_x1 c_x1 (SliceR.mono (Zone.le_trans k1 k2) hx_x1) o_x0 c_x0 (SliceR.mono (Zone.le_trans k1 k2) hx_x0)) ?_
 rintro v3 ww8 a14 ⟨z3, e2, q2, k3, rfl, hS8, hx2⟩ hf14
 refine ⟨fun _ => trivial, ?_⟩
 refine p_qn 3 [] [(3, pB b1 0), (4, pB b2 0), (5, pB b3 0), (7, .bool r1), (8, pB b4 0), (9, vI r2.2), (31, .agg #[.slice e2 r7.1.length q2]), (32, vI r7.2)] [] hf14 (by kernel_rfl) .nil fun a15 hf15 => ?_
 refine p_box (i := 6) (d := (some 10)) (cs := [.slice none 0 0]) (T := 40) (v := fun b5 => pB b5 0) hS8 hf15 (fun b => by kernel_rfl) fun b5 ww9 a16 hS9 hf16 => ⟨fun _ => trivial, ?_⟩
 refine p_store_eq (i := 7) (j := 0) (b := b5) (off := 0) (vs := [.slice e2 r7.1.length q2]) (cs' := [.slice e2 r7.1.length q2]) hS9 hf16 rfl (by kernel_rfl) (by kernel_rfl) rfl fun ww10 a17 hS10 hf17 => ⟨fun _ => trivial, ?_⟩
 refine p_qt [] [(3, pB b1 0), (4, pB b2 0), (5, pB b3 0), (7, .bool r1), (8, pB b4 0), (9, vI r2.2), (10, pB b5 0), (11, vI r7.2)] [] hf17 (by kernel_rfl) .nil fun a18 hf18 => ?_
 refine w_sr (by kernel_rfl) ?_
 refine p_qn 2 [.slice e1 r2.1.length q1, .slice e2 r7.1.length q2] [(3, pB b1 0), (4, pB b2 0), (5, pB b3 0), (7, .bool r1), (8, pB b4 0), (9, vI r2.2), (11, vI r7.2), (33, .agg #[.slice e1 r2.1.length q1]), (34, .agg #[.slice e2 r7.1.length q2])] [.cell ⟨b4, 0, none⟩ (.slice e1 r2.1.length q1), .cell ⟨b5, 0, none⟩ (.slice e2 r7.1.length q2)] hf18 (by kernel_rfl) (.cell (hS10.box (i := 1) rfl (j := 0) rfl) (.cell (hS10.box (i := 0) rfl (j := 0) rfl) .nil)) fun a19 hf19 => ?_
 obtain ⟨r8, hd4, hr4⟩ := bind_some hr3
 refine p_call (i := 2) (d := some 35) (f := 26) (args := #[.agg #[.slice e1 r2.1.length q1], .agg #[.slice e2 r7.1.length q2]]) hf19 (by kernel_rfl) (f26_ok fuel r2.1 r7.1 r8 hd4 z3 _ _ hS10 e1 q1 (SliceR.mono k3 hx1) e2 q2 hx2) ?_
 rintro v4 ww11 a20 ⟨z4, k4, rfl, hS11⟩ hf20
 refine ⟨fun _ => trivial, ?_⟩
 refine p_qt [] [(3, pB b1 0), (4, pB b2 0), (5, pB b3 0), (7, .bool r1), (8, pB b4 0), (9, vI r2.2), (11, vI r7.2), (12, .bool r8)] [] hf20 (by kernel_rfl) .nil fun a21 hf21 => ?_
 refine w_sr (by kernel_rfl) ?_
 refine p_qn 2 [.slice e1 r2.1.length q1, .slice o_x2 x2.length c_x2] [(3, pB b1 0), (4, pB b2 0), (5, pB b3 0), (7, .bool r1), (9, vI r2.2), (11, vI r7.2), (12, .bool r8), (37, .agg #[.slice e1 r2.1.length q1]), (38, .agg #[.slice o_x2 x2.length c_x2])] [.cell ⟨b4, 0, none⟩ (.slice e1 r2.1.length q1), .cell ⟨b3, 0, none⟩ (.slice o_x2 x2.length c_x2)] hf21 (by kernel_rfl) (.cell (hS11.box (i := 1) rfl (j := 0) rfl) (.cell (hS11.box (i := 2) rfl (j := 0) rfl) .nil)) fun a22 hf22 => ?_
 obtain ⟨r3, hd5, hr5⟩ := bind_some hr4
 refine p_call (i := 2) (d := some 39) (f := 25) (args := #[.agg #[.slice e1 r2.1.length q1], .agg #[.slice o_x2 x2.length c_x2]]) hf22 (by kernel_rfl) (f25_ok fuel r2.1 x2 r3 hd5 z4 _ _ hS11 e1 q1 (SliceR.mono (Zone.le_trans k3 k4) hx1) o_x2 c_x2 (SliceR.mono (Zone.le_trans (Zone.le_trans (Zone.le_trans k1 k2) k3) k4) hx_x2)) ?_
 rintro v5 ww12 a23 ⟨z5, e3, q3, k5, rfl, hS12, hx3⟩ hf23
 refine ⟨fun _ => trivial, ?_⟩
 refine p_qn 3 [] [(3, pB b1 0), (4, pB b2 0), (5, pB b3 0), (7, .bool r1), (9, vI r2.2), (11, vI r7.2), (12, .bool r8), (40, .agg #[.slice e3 r3.1.length q3]), (41, vI r3.2)] [] hf23 (by kernel_rfl) .nil fun a24 hf24 => ?_
 refine p_box (i := 6) (d := (some 13)) (cs := [.slice none 0 0]) (T := 40) (v := fun b6 => pB b6 0) hS12 hf24 (fun b => by kernel_rfl) fun b6 ww13 a25 hS13 hf25 => ⟨fun _ => trivial, ?_⟩
 refine p_store_eq (i := 7) (j := 0) (b := b6) (off := 0) (vs := [.slice e3 r3.1.length q3]) (cs' := [.slice e3 r3.1.length q3]) hS13 hf25 rfl (by kernel_rfl) (by kernel_rfl) rfl fun ww14 a26 hS14 hf26 => ⟨fun _ => trivial, ?_⟩
 refine p_qt [] [(3, pB b1 0), (4, pB b2 0), (5, pB b3 0), (7, .bool r1), (9, vI r2.2), (11, vI r7.2), (12, .bool r8), (13, pB b6 0), (14, vI r3.2)] [] hf26 (by kernel_rfl) .nil fun a27 hf27 => ?_
 refine w_sr (by kernel_rfl) ?_
 refine p_qn 2 [.slice o_x1 x1.length c_x1, .slice o_x2 x2.length c_x2] [(3, pB b1 0), (7, .bool r1), (9, vI r2.2), (11, vI r7.2), (12, .bool r8), (13, pB b6 0), (14, vI r3.2), (43, .agg #[.slice o_x1 x1.length c_x1]), (44, .agg #[.slice o_x2 x2.length c_x2])] [.cell ⟨b2, 0, none⟩ (.slice o_x1 x1.length c_x1), .cell ⟨b3, 0, none⟩ (.slice o_x2 x2.length c_x2)] hf27 (by kernel_rfl) (.cell (hS14.box (i := 4) rfl (j := 0) rfl) (.cell (hS14.box (i := 3) rfl (j := 0) rfl) .nil)) fun a28 hf28 => ?_
 obtain ⟨r4, hd6, hr6⟩ := bind_some hr5
 refine p_call (i := 2) (d := some 45) (f := 25) (args := #[.agg #[.slice o_x1 x1.length c_x1], .agg #[.slice o_x2 x2.length c_x2]]) hf28 (by kernel_rfl) (f25_ok fuel x1 x2 r4 hd6 z5 _ _ hS14 o_x1 c_x1 (SliceR.mono (Zone.le_trans (Zone.le_trans (Zone.le_trans (Zone.le_trans k1 k2) k3) k4) k5) hx_x1) o_x2 c_x2 (SliceR.mono (Zone.le_trans (Zone.le_trans (Zone.le_trans (Zone.le_trans k1 k2) k3) k4) k5) hx_x2)) ?_
 rintro v6 ww15 a29 ⟨z6, e4, q4, k6, rfl, hS15, hx4⟩ hf29
 refine ⟨fun _ => trivial, ?_⟩
 refine p_qn 3 [] [(3, pB b1 0), (7, .bool r1), (9, vI r2.2), (11, vI r7.2), (12, .bool r8), (13, pB b6 0), (14, vI r3.2), (46, .agg #[.slice e4 r4.1.length q4]), (47, vI r4.2)] [] hf29 (by kernel_rfl) .nil fun a30 hf30 => ?_
 refine p_box (i := 6) (d := (some 15)) (cs := [.slice none 0 0]) (T := 40) (v := fun b7 => pB b7 0) hS15 hf30 (fun b => by kernel_rfl) fun b7 ww16 a31 hS16 hf31 => ⟨fun _ => trivial, ?_⟩
 refine p_store_eq (i := 7) (j := 0) (b := b7) (off := 0) (vs := [.slice e4 r4.1.length q4]) (cs' := [.slice e4 r4.1.length q4]) hS16 hf31 rfl (by kernel_rfl) (by kernel_rfl) rfl fun ww17 a32 hS17 hf32 => ⟨fun _ => trivial, ?_⟩
 refine p_qt [] [(3, pB b1 0), (7, .bool r1), (9, vI r2.2), (11, vI r7.2), (12, .bool r8), (13, pB b6 0), (14, vI r3.2), (15, pB b7 0), (16, vI r4.2)] [] hf32 (by kernel_rfl) .nil fun a33 hf33 => ?_
 refine w_sr (by kernel_rfl) ?_
 refine p_qn 2 [.slice o_x0 x0.length c_x0, .slice e4 r4.1.length q4] [(7, .bool r1), (9, vI r2.2), (11, vI r7.2), (12, .bool r8), (13, pB b6 0), (14, vI r3.2), (16, vI r4.2), (49, .agg #[.slice o_x0 x0.length c_x0]), (50, .agg #[.slice e4 r4.1.length q4])] [.cell ⟨b1, 0, none⟩ (.slice o_x0 x0.length c_x0), .cell ⟨b7, 0, none⟩ (.slice e4 r4.1.length q4)] hf33 (by kernel_rfl) (.cell (hS17.box (i := 6) rfl (j := 0) rfl) (.cell (hS17.box (i := 0) rfl (j := 0) rfl) .nil)) fun a34 hf34 => ?_
 obtain ⟨r5, hd7, hr7⟩ := bind_some hr6
 refine p_call (i := 2) (d := some 51) (f := 25) (args := #[.agg #[.slice o_x0 x0.length c_x0], .agg #[.slice e4 r4.1.length q4]]) hf34 (by kernel_rfl) (f25_ok fuel x0 r4.1 r5 hd7 z6 _ _ hS17 o_x0 c_x0 (SliceR.mono (Zone.le_trans (Zone.le_trans (Zone.le_trans (Zone.le_trans (Zone.le_trans k1 k2) k3) k4) k5) k6) hx_x0) e4 q4 hx4) ?_
 rintro v7 ww18 a35 ⟨z7, e5, q5, k7, rfl, hS18, hx5⟩ hf35
 refine ⟨fun _ => trivial, ?_⟩
 refine p_qn 3 [] [(7, .bool r1), (9, vI r2.2), (11, vI r7.2), (12, .bool r8), (13, pB b6 0), (14, vI r3.2), (16, vI r4.2), (52, .agg #[.slice e5 r5.1.length q5]), (53, vI r5.2)] [] hf35 (by kernel_rfl) .nil fun a36 hf36 => ?_
 refine p_box (i := 6) (d := (some 17)) (cs := [.slice none 0 0]) (T := 40) (v := fun b8 => pB b8 0) hS18 hf36 (fun b => by kernel_rfl) fun b8 ww19 a37 hS19 hf37 => ⟨fun _ => trivial, ?_⟩
 refine p_store_eq (i := 7) (j := 0) (b := b8) (off := 0) (vs := [.slice e5 r5.1.length q5]) (cs' := [.slice e5 r5.1.length q5]) hS19 hf37 rfl (by kernel_rfl) (by kernel_rfl) rfl fun ww20 a38 hS20 hf38 => ⟨fun _ => trivial, ?_⟩
 refine p_qt [] [(7, .bool r1), (9, vI r2.2), (11, vI r7.2), (12, .bool r8), (13, pB b6 0), (14, vI r3.2), (16, vI r4.2), (17, pB b8 0), (18, vI r5.2)] [] hf38 (by kernel_rfl) .nil fun a39 hf39 => ?_
 refine w_sr (by kernel_rfl) ?_
 refine p_qn 2 [.slice e3 r3.1.length q3, .slice e5 r5.1.length q5] [(7, .bool r1), (9, vI r2.2), (11, vI r7.2), (12, .bool r8), (14, vI r3.2), (16, vI r4.2), (18, vI r5.2), (54, .agg #[.slice e3 r3.1.length q3]), (55, .agg #[.slice e5 r5.1.length q5])] [.cell ⟨b6, 0, none⟩ (.slice e3 r3.1.length q3), .cell ⟨b8, 0, none⟩ (.slice e5 r5.1.length q5)] hf39 (by kernel_rfl) (.cell (hS20.box (i := 2) rfl (j := 0) rfl) (.cell (hS20.box (i := 0) rfl (j := 0) rfl) .nil)) fun a40 hf40 => ?_
 obtain ⟨r6, hd8, hr8⟩ := bind_some hr7
 refine p_call (i := 2) (d := some 56) (f := 26) (args := #[.agg #[.slice e3 r3.1.length q3], .agg #[.slice e5 r5.1.length q5]]) hf40 (by kernel_rfl) (f26_ok fuel r3.1 r5.1 r6 hd8 z7 _ _ hS20 e3 q3 (SliceR.mono (Zone.le_trans k6 k7) hx3) e5 q5 hx5) ?_
 rintro v8 ww21 a41 ⟨z8, k8, rfl, hS21⟩ hf41
 refine ⟨fun _ => trivial, ?_⟩
 refine p_qt [] [(7, .bool r1), (9, vI r2.2), (11, vI r7.2), (12, .bool r8), (14, vI r3.2), (16, vI r4.2), (18, vI r5.2), (19, .bool r6)] [] hf41 (by kernel_rfl) .nil fun a42 hf42 => ?_
 refine w_seq (by kernel_rfl) ?_
 refine w_mid (by kernel_rfl) (fun a w => ∃ z9 : Zone, ∃ y2 : Bool, Zone.le z8 z9 ∧ Fr a 81 [(7, .bool r1), (9, vI r2.2), (14, vI r3.2), (16, vI r4.2), (18, vI r5.2), (19, .bool r6), (63, .bool y2)] ∧ St z9 (box b8 [.slice e5 r5.1.length q5] 40 :: box b7 [.slice e4 r4.1.length q4] 40 :: box b6 [.slice e3 r3.1.length q3] 40 :: box b5 [.slice e2 r7.1.length q2] 40 :: box b4 [.slice e1 r2.1.length q1] 40 :: box b3 [.slice o_x2 x2.length c_x2] 40 :: box b2 [.slice o_x1 x1.length c_x1] 40 :: box b1 [.slice o_x0 x0.length c_x0] 40 :: L) w ∧ (F4_j1 r1 r2 r3 r4 r5 r6 y2) = some r) ?_ ?_
 ·skip
  refine w_reg (by kernel_rfl) ?_
  refine p_qn 4 [] [(7, .bool r1), (9, vI r2.2), (12, .bool r8), (14, vI r3.2), (16, vI r4.2), (18, vI r5.2), (19, .bool r6), (60, .bool (r2.2 != r7.2))] [] hf42 (by kernel_rfl) .nil fun a43 hf43 => ?_
  rcases Bool.eq_false_or_eq_true (r2.2 != r7.2) with hb1 | hb1
  ·have hr9 := cond_t hb1 hr8
   have hf44 := Fr.conv hf43 (congrArg (fun z => ([(7, .bool r1), (9, vI r2.2), (12, .bool r8), (14, vI r3.2), (16, vI r4.2), (18, vI r5.2), (19, .bool r6), (60, .bool z)] : FL)) hb1)
   refine p_qt [] [(7, .bool r1), (9, vI r2.2), (14, vI r3.2), (16, vI r4.2), (18, vI r5.2), (19, .bool r6), (63, .bool true)] [] hf44 (by kernel_rfl) .nil fun a44 hf45 => ?_
   have hf46 := Fr.keep (ks := [7, 9, 14, 16, 18, 19, 63]) (r := [(7, .bool r1), (9, vI r2.2), (14, vI r3.2), (16, vI r4.2), (18, vI r5.2), (19, .bool r6), (63, .bool true)]) hf45 (by kernel_rfl)
   exact ⟨z8, true, (Zone.le_refl _), hf46, hS21, hr9⟩
  ·have hr10 := cond_f hb1 hr8
   have hf47 := Fr.conv hf43 (congrArg (fun z => ([(7, .bool r1), (9, vI r2.2), (12, .bool r8), (14, vI r3.2), (16, vI r4.2), (18, vI r5.2), (19, .bool r6), (60, .bool z)] : FL)) hb1)
   refine p_qt [] [(7, .bool r1), (9, vI r2.2), (14, vI r3.2), (16, vI r4.2), (18, vI r5.2), (19, .bool r6), (63, .bool (!r8))] [] hf47 (by kernel_rfl) .nil fun a45 hf48 => ?_
   have hf49 := Fr.keep (ks := [7, 9, 14, 16, 18, 19, 63]) (r := [(7, .bool r1), (9, vI r2.2), (14, vI r3.2), (16, vI r4.2), (18, vI r5.2), (19, .bool r6), (63, .bool (!r8))]) hf48 (by kernel_rfl)
   exact ⟨z8, (!r8), (Zone.le_refl _), hf49, hS21, hr10⟩
 ·rintro a46 ww22 ⟨z9, y2, k9, hf50, hS22, hr11⟩
  refine w_if hf50 (b := y2) (by kernel_rfl) (fun hb2 => ?_) (fun hb2 => ?_)
  ·have hr12 := cond_t hb2 hr11
   refine w_sq [] [(6, .bool false)] [] hf50 (by kernel_rfl) .nil fun a47 hf51 => ?_
   refine w_ret (by kernel_rfl) ?_
   refine r_then ?_
   refine p_ret (os := []) (v := .bool false) (obs := []) hf51 (by kernel_rfl) .nil ?_
   obtain rfl := some_eq hr12
   exact ⟨_, rfl, z9, (Zone.le_trans (Zone.le_trans (Zone.le_trans (Zone.le_trans (Zone.le_trans (Zone.le_trans (Zone.le_trans (Zone.le_trans k1 k2) k3) k4) k5) k6) k7) k8) k9), rfl, (St.drop 8 hS22)⟩
  ·have hr13 := cond_f hb2 hr11
   refine w_skip (by kernel_rfl) ?_
   refine n_then ?_
   refine w_mid (by kernel_rfl) (fun a w => ∃ z10 : Zone, ∃ y1 : Bool, Zone.le z9 z10 ∧ Fr a 81 [(6, .bool y1)] ∧ St z10 (box b8 [.slice e5 r5.1.length q5] 40 :: box b7 [.slice e4 r4.1.length q4] 40 :: box b6 [.slice e3 r3.1.length q3] 40 :: box b5 [.slice e2 r7.1.length q2] 40 :: box b4 [.slice e1 r2.1.length q1] 40 :: box b3 [.slice o_x2 x2.length c_x2] 40 :: box b2 [.slice o_x1 x1.length c_x1] 40 :: box b1 [.slice o_x0 x0.length c_x0] 40 :: L) w ∧ (F4_j2 y1) = some r) ?_ ?_
   ·skip
    refine w_reg (by kernel_rfl) ?_
    refine p_qn 2 [] [(9, vI r2.2), (14, vI r3.2), (16, vI r4.2), (18, vI r5.2), (19, .bool r6), (65, .bool r1)] [] hf50 (by kernel_rfl) .nil fun a48 hf52 => ?_
    rcases Bool.eq_false_or_eq_true r1 with hb3 | hb3
    ·have hr14 := cond_t hb3 hr13
     have hf53 := Fr.conv hf52 (congrArg (fun z => ([(9, vI r2.2), (14, vI r3.2), (16, vI r4.2), (18, vI r5.2), (19, .bool r6), (65, .bool z)] : FL)) hb3)
     refine p_qn 3 [] [(14, vI r3.2), (16, vI r4.2), (18, vI r5.2), (19, .bool r6), (65, .bool true), (68, .bool (r2.2 != (0 : Int)))] [] hf53 (by kernel_rfl) .nil fun a49 hf54 => ?_
     rcases Bool.eq_false_or_eq_true (r2.2 != (0 : Int)) with hb4 | hb4
     ·have hr15 := cond_t hb4 hr14
      have hf55 := Fr.conv hf54 (congrArg (fun z => ([(14, vI r3.2), (16, vI r4.2), (18, vI r5.2), (19, .bool r6), (65, .bool true), (68, .bool z)] : FL)) hb4)
      refine p_qt [] [(6, .bool true)] [] hf55 (by kernel_rfl) .nil fun a50 hf56 => ?_
      have hf57 := Fr.keep (ks := [6]) (r := [(6, .bool true)]) hf56 (by kernel_rfl)
      exact ⟨z9, true, (Zone.le_refl _), hf57, hS22, hr15⟩
     ·have hr16 := cond_f hb4 hr14
      have hf58 := Fr.conv hf54 (congrArg (fun z => ([(14, vI r3.2), (16, vI r4.2), (18, vI r5.2), (19, .bool r6), (65, .bool true), (68, .bool z)] : FL)) hb4)
      refine p_qn 4 [] [(14, vI r3.2), (18, vI r5.2), (19, .bool r6), (65, .bool true), (72, .bool (r4.2 != (0 : Int)))] [] hf58 (by kernel_rfl) .nil fun a51 hf59 => ?_
      rcases Bool.eq_false_or_eq_true (r4.2 != (0 : Int)) with hb5 | hb5
      ·have hr17 := cond_t hb5 hr16
       have hf60 := Fr.conv hf59 (congrArg (fun z => ([(14, vI r3.2), (18, vI r5.2), (19, .bool r6), (65, .bool true), (72, .bool z)] : FL)) hb5)
       refine p_qt [] [(6, .bool true)] [] hf60 (by kernel_rfl) .nil fun a52 hf61 => ?_
       have hf62 := Fr.keep (ks := [6]) (r := [(6, .bool true)]) hf61 (by kernel_rfl)
       exact ⟨z9, true, (Zone.le_refl _), hf62, hS22, hr17⟩
      ·have hr18 := cond_f hb5 hr16
       have hf63 := Fr.conv hf59 (congrArg (fun z => ([(14, vI r3.2), (18, vI r5.2), (19, .bool r6), (65, .bool true), (72, .bool z)] : FL)) hb5)
       refine p_qn 4 [] [(19, .bool r6), (65, .bool true), (72, .bool false), (76, .bool (r3.2 == r5.2))] [] hf63 (by kernel_rfl) .nil fun a53 hf64 => ?_
       rcases Bool.eq_false_or_eq_true (r3.2 == r5.2) with hb6 | hb6
       ·have hr19 := cond_t hb6 hr18
        have hf65 := Fr.conv hf64 (congrArg (fun z => ([(19, .bool r6), (65, .bool true), (72, .bool false), (76, .bool z)] : FL)) hb6)
        refine p_qt [] [(6, .bool r6)] [] hf65 (by kernel_rfl) .nil fun a54 hf66 => ?_
        have hf67 := Fr.keep (ks := [6]) (r := [(6, .bool r6)]) hf66 (by kernel_rfl)
        exact ⟨z9, r6, (Zone.le_refl _), hf67, hS22, hr19⟩
       ·have hr20 := cond_f hb6 hr18
        have hf68 := Fr.conv hf64 (congrArg (fun z => ([(19, .bool r6), (65, .bool true), (72, .bool false), (76, .bool z)] : FL)) hb6)
        refine p_qt [] [(6, .bool false)] [] hf68 (by kernel_rfl) .nil fun a55 hf69 => ?_
        have hf70 := Fr.keep (ks := [6]) (r := [(6, .bool false)]) hf69 (by kernel_rfl)
        exact ⟨z9, false, (Zone.le_refl _), hf70, hS22, hr20⟩
    ·have hr21 := cond_f hb3 hr13
     have hf71 := Fr.conv hf52 (congrArg (fun z => ([(9, vI r2.2), (14, vI r3.2), (16, vI r4.2), (18, vI r5.2), (19, .bool r6), (65, .bool z)] : FL)) hb3)
     refine p_qt [] [(6, .bool false)] [] hf71 (by kernel_rfl) .nil fun a56 hf72 => ?_
     have hf73 := Fr.keep (ks := [6]) (r := [(6, .bool false)]) hf72 (by kernel_rfl)
     exact ⟨z9, false, (Zone.le_refl _), hf73, hS22, hr21⟩
   ·rintro a57 ww23 ⟨z10, y1, k10, hf74, hS23, hr22⟩
    refine w_ret (by kernel_rfl) ?_
    refine p_ret (os := []) (v := .bool y1) (obs := []) hf74 (by kernel_rfl) .nil ?_
    obtain rfl := some_eq hr22
    exact ⟨_, rfl, z10, (Zone.le_trans (Zone.le_trans (Zone.le_trans (Zone.le_trans (Zone.le_trans (Zone.le_trans (Zone.le_trans (Zone.le_trans (Zone.le_trans k1 k2) k3) k4) k5) k6) k7) k8) k9) k10), rfl, (St.drop 8 hS23)⟩
end Go.Proofs.Ytlmgjjmighajdaa
