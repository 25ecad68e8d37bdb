/-
  A part of the walk and of the plain law of one given statement. No condition.
-/
import Derived.Test.YtpjmgeajajcceaaS8a
set_option linter.unusedVariables false
namespace Go.Proofs.Ytpjmgeajajcceaa
open Go.Sl Go.Sx
set_option maxRecDepth 100000 in
theorem f8_ok (fuel : Nat) (x0_a_lo : Int) (x0_a_hi : Int) (x0_b_lo : Int) (x0_b_hi : Int) (x0_n : Int) (x0_d : Int) (r : Bool) (hr : F8 fuel x0_a_lo x0_a_hi x0_b_lo x0_b_hi x0_n x0_d = some r) (h : Zone) (L : List Atom) (w : World) (hS : St h L w)  :
    Calls Try.prog 8 #[.agg #[vI x0_a_lo, vI x0_a_hi, vI x0_b_lo, vI x0_b_hi, vI x0_n, vI x0_d]] w fun e w' => ∃ v, e = .returned v ∧ (∃ h', Zone.le h h' ∧ v = .bool r ∧ St h' L w') := by
  refine calls_intro (N := 245) Try.func8 (by kernel_rfl) fun a hf => ?_
  refine w_seq (by kernel_rfl) ?_
  refine w_reg (by kernel_rfl) ?_
  refine p_box (i := 0) (d := (some 1)) (cs := [vI x0_a_lo, vI x0_a_hi, vI x0_b_lo, vI x0_b_hi, vI x0_n, vI x0_d]) (T := 72) (v := fun b1 => pB b1 0) hS hf (fun b => by kernel_rfl) fun b1 ww1 a1 hS1 hf1 => ⟨fun _ => trivial, ?_⟩
  refine p_run 1 [] [1] (fl' := [(1, pB b1 0)]) (obs := []) trivial hf1 (by kernel_rfl) (by kernel_rfl) .nil fun a2 hf2 => ?_
  refine p_done (by kernel_rfl) ?_
  refine n_then ?_
  refine w_seq (by kernel_rfl) ?_
  refine w_reg (by kernel_rfl) ?_
  refine p_run 4 [vI x0_a_lo, vI x0_a_hi, vI x0_b_lo, vI x0_b_hi] [1, 33, 35] (fl' := [(1, pB b1 0), (33, .agg #[vI x0_a_lo, vI x0_a_hi]), (35, .agg #[vI x0_b_lo, vI x0_b_hi])]) (obs := [.cell ⟨b1, 0, none⟩ (vI x0_a_lo), .cell ⟨b1, 1, none⟩ (vI x0_a_hi), .cell ⟨b1, 2, none⟩ (vI x0_b_lo), .cell ⟨b1, 3, none⟩ (vI x0_b_hi)]) trivial hf2 (by kernel_rfl) (by kernel_rfl) (.cell (hS1.box (i := 0) rfl (j := 0) rfl) (.cell (hS1.box (i := 0) rfl (j := 1) rfl) (.cell (hS1.box (i := 0) rfl (j := 2) rfl) (.cell (hS1.box (i := 0) rfl (j := 3) rfl) .nil)))) fun a3 hf3 => ?_
  obtain ⟨r8, hd1, hr1⟩ := bind_some hr
  refine p_call (i := 4) (d := some 36) (f := 37) (args := #[.agg #[vI x0_a_lo, vI x0_a_hi], .agg #[vI x0_b_lo, vI x0_b_hi]]) hf3 (by kernel_rfl) (f37_ok fuel x0_a_lo x0_a_hi x0_b_lo x0_b_hi r8 hd1 h _ _ hS1 ) ?_
  rintro v1 ww2 a4 ⟨z1, k1, rfl, hS2⟩ hf4
  refine ⟨fun _ => trivial, ?_⟩
  refine p_run 3 [] [1, 37, 38] (fl' := [(1, pB b1 0), (37, .agg #[vI r8.1, vI r8.2.1]), (38, vI r8.2.2)]) (obs := []) trivial hf4 (by kernel_rfl) (by kernel_rfl) .nil fun a5 hf5 => ?_
  refine p_box (i := 8) (d := (some 3)) (cs := [vI 0, vI 0]) (T := 41) (v := fun b2 => pB b2 0) hS2 hf5 (fun b => by kernel_rfl) fun b2 ww3 a6 hS3 hf6 => ⟨fun _ => trivial, ?_⟩
  refine p_store_eq (i := 9) (j := 0) (b := b2) (off := 0) (vs := [vI r8.1, vI r8.2.1]) (cs' := [vI r8.1, vI r8.2.1]) hS3 hf6 rfl (by kernel_rfl) (by kernel_rfl) rfl fun ww4 a7 hS4 hf7 => ⟨fun _ => trivial, ?_⟩
  refine p_run 1 [] [1, 3, 4] (fl' := [(1, pB b1 0), (3, pB b2 0), (4, vI r8.2.2)]) (obs := []) trivial hf7 (by kernel_rfl) (by kernel_rfl) .nil fun a8 hf8 => ?_
  refine p_done (by kernel_rfl) ?_
  refine n_then ?_
  refine w_seq (by kernel_rfl) ?_
  refine w_reg (by kernel_rfl) ?_
  refine p_run 4 [vI x0_a_lo, vI x0_a_hi, vI x0_b_lo, vI x0_b_hi] [1, 3, 4, 41, 43] (fl' := [(1, pB b1 0), (3, pB b2 0), (4, vI r8.2.2), (41, .agg #[vI x0_a_lo, vI x0_a_hi]), (43, .agg #[vI x0_b_lo, vI x0_b_hi])]) (obs := [.cell ⟨b1, 0, none⟩ (vI x0_a_lo), .cell ⟨b1, 1, none⟩ (vI x0_a_hi), .cell ⟨b1, 2, none⟩ (vI x0_b_lo), .cell ⟨b1, 3, none⟩ (vI x0_b_hi)]) trivial hf8 (by kernel_rfl) (by kernel_rfl) (.cell (hS4.box (i := 1) rfl (j := 0) rfl) (.cell (hS4.box (i := 1) rfl (j := 1) rfl) (.cell (hS4.box (i := 1) rfl (j := 2) rfl) (.cell (hS4.box (i := 1) rfl (j := 3) rfl) .nil)))) fun a9 hf9 => ?_
  obtain ⟨r9, hd2, hr2⟩ := bind_some hr1
  refine p_call (i := 4) (d := some 44) (f := 44) (args := #[.agg #[vI x0_a_lo, vI x0_a_hi], .agg #[vI x0_b_lo, vI x0_b_hi]]) hf9 (by kernel_rfl) (f44_ok fuel x0_a_lo x0_a_hi x0_b_lo x0_b_hi r9 hd2 z1 _ _ hS4 ) ?_
  rintro v2 ww5 a10 ⟨z2, k2, rfl, hS5⟩ hf10
  refine ⟨fun _ => trivial, ?_⟩
  refine p_run 3 [] [1, 3, 4, 45, 46] (fl' := [(1, pB b1 0), (3, pB b2 0), (4, vI r8.2.2), (45, .agg #[vI r9.1, vI r9.2.1]), (46, vI r9.2.2)]) (obs := []) trivial hf10 (by kernel_rfl) (by kernel_rfl) .nil fun a11 hf11 => ?_
  refine p_box (i := 8) (d := (some 5)) (cs := [vI 0, vI 0]) (T := 41) (v := fun b3 => pB b3 0) hS5 hf11 (fun b => by kernel_rfl) fun b3 ww6 a12 hS6 hf12 => ⟨fun _ => trivial, ?_⟩
  refine p_store_eq (i := 9) (j := 0) (b := b3) (off := 0) (vs := [vI r9.1, vI r9.2.1]) (cs' := [vI r9.1, vI r9.2.1]) hS6 hf12 rfl (by kernel_rfl) (by kernel_rfl) rfl fun ww7 a13 hS7 hf13 => ⟨fun _ => trivial, ?_⟩
  refine p_run 1 [] [1, 3, 4, 5, 6] (fl' := [(1, pB b1 0), (3, pB b2 0), (4, vI r8.2.2), (5, pB b3 0), (6, vI r9.2.2)]) (obs := []) trivial hf13 (by kernel_rfl) (by kernel_rfl) .nil fun a14 hf14 => ?_
  refine p_done (by kernel_rfl) ?_
  refine n_then ?_
  refine w_seq (by kernel_rfl) ?_
  refine w_reg (by kernel_rfl) ?_
  refine p_run 4 [vI x0_a_lo, vI x0_a_hi, vI x0_b_lo, vI x0_b_hi] [1, 3, 4, 5, 6, 49, 51] (fl' := [(1, pB b1 0), (3, pB b2 0), (4, vI r8.2.2), (5, pB b3 0), (6, vI r9.2.2), (49, .agg #[vI x0_a_lo, vI x0_a_hi]), (51, .agg #[vI x0_b_lo, vI x0_b_hi])]) (obs := [.cell ⟨b1, 0, none⟩ (vI x0_a_lo), .cell ⟨b1, 1, none⟩ (vI x0_a_hi), .cell ⟨b1, 2, none⟩ (vI x0_b_lo), .cell ⟨b1, 3, none⟩ (vI x0_b_hi)]) trivial hf14 (by kernel_rfl) (by kernel_rfl) (.cell (hS7.box (i := 2) rfl (j := 0) rfl) (.cell (hS7.box (i := 2) rfl (j := 1) rfl) (.cell (hS7.box (i := 2) rfl (j := 2) rfl) (.cell (hS7.box (i := 2) rfl (j := 3) rfl) .nil)))) fun a15 hf15 => ?_
  obtain ⟨r10, hd3, hr3⟩ := bind_some hr2
  refine p_call (i := 4) (d := some 52) (f := 38) (args := #[.agg #[vI x0_a_lo, vI x0_a_hi], .agg #[vI x0_b_lo, vI x0_b_hi]]) hf15 (by kernel_rfl) (f38_ok fuel x0_a_lo x0_a_hi x0_b_lo x0_b_hi r10 hd3 z2 _ _ hS7 ) ?_
  rintro v3 ww8 a16 ⟨z3, k3, rfl, hS8⟩ hf16
  refine ⟨fun _ => trivial, ?_⟩
  refine p_run 3 [] [1, 3, 4, 5, 6, 53, 54] (fl' := [(1, pB b1 0), (3, pB b2 0), (4, vI r8.2.2), (5, pB b3 0), (6, vI r9.2.2), (53, .agg #[vI r10.1, vI r10.2.1]), (54, vI r10.2.2)]) (obs := []) trivial hf16 (by kernel_rfl) (by kernel_rfl) .nil fun a17 hf17 => ?_
  refine p_box (i := 8) (d := (some 7)) (cs := [vI 0, vI 0]) (T := 41) (v := fun b4 => pB b4 0) hS8 hf17 (fun b => by kernel_rfl) fun b4 ww9 a18 hS9 hf18 => ⟨fun _ => trivial, ?_⟩
  refine p_store_eq (i := 9) (j := 0) (b := b4) (off := 0) (vs := [vI r10.1, vI r10.2.1]) (cs' := [vI r10.1, vI r10.2.1]) hS9 hf18 rfl (by kernel_rfl) (by kernel_rfl) rfl fun ww10 a19 hS10 hf19 => ⟨fun _ => trivial, ?_⟩
  refine p_run 1 [] [1, 3, 4, 5, 6, 7, 8] (fl' := [(1, pB b1 0), (3, pB b2 0), (4, vI r8.2.2), (5, pB b3 0), (6, vI r9.2.2), (7, pB b4 0), (8, vI r10.2.2)]) (obs := []) trivial hf19 (by kernel_rfl) (by kernel_rfl) .nil fun a20 hf20 => ?_
  refine p_done (by kernel_rfl) ?_
  refine n_then ?_
  refine w_seq (by kernel_rfl) ?_
  refine w_reg (by kernel_rfl) ?_
  refine p_run 4 [vI x0_a_lo, vI x0_a_hi, vI x0_b_lo, vI x0_b_hi] [1, 3, 4, 5, 6, 7, 8, 57, 59] (fl' := [(1, pB b1 0), (3, pB b2 0), (4, vI r8.2.2), (5, pB b3 0), (6, vI r9.2.2), (7, pB b4 0), (8, vI r10.2.2), (57, .agg #[vI x0_a_lo, vI x0_a_hi]), (59, .agg #[vI x0_b_lo, vI x0_b_hi])]) (obs := [.cell ⟨b1, 0, none⟩ (vI x0_a_lo), .cell ⟨b1, 1, none⟩ (vI x0_a_hi), .cell ⟨b1, 2, none⟩ (vI x0_b_lo), .cell ⟨b1, 3, none⟩ (vI x0_b_hi)]) trivial hf20 (by kernel_rfl) (by kernel_rfl) (.cell (hS10.box (i := 3) rfl (j := 0) rfl) (.cell (hS10.box (i := 3) rfl (j := 1) rfl) (.cell (hS10.box (i := 3) rfl (j := 2) rfl) (.cell (hS10.box (i := 3) rfl (j := 3) rfl) .nil)))) fun a21 hf21 => ?_
  obtain ⟨r11, hd4, hr4⟩ := bind_some hr3
  refine p_call (i := 4) (d := some 60) (f := 45) (args := #[.agg #[vI x0_a_lo, vI x0_a_hi], .agg #[vI x0_b_lo, vI x0_b_hi]]) hf21 (by kernel_rfl) (f45_ok fuel x0_a_lo x0_a_hi x0_b_lo x0_b_hi r11 hd4 z3 _ _ hS10 ) ?_
  rintro v4 ww11 a22 ⟨z4, k4, rfl, hS11⟩ hf22
  refine ⟨fun _ => trivial, ?_⟩
  refine p_run 3 [] [1, 3, 4, 5, 6, 7, 8, 61, 62] (fl' := [(1, pB b1 0), (3, pB b2 0), (4, vI r8.2.2), (5, pB b3 0), (6, vI r9.2.2), (7, pB b4 0), (8, vI r10.2.2), (61, .agg #[vI r11.1, vI r11.2.1]), (62, vI r11.2.2)]) (obs := []) trivial hf22 (by kernel_rfl) (by kernel_rfl) .nil fun a23 hf23 => ?_
  refine p_box (i := 8) (d := (some 9)) (cs := [vI 0, vI 0]) (T := 41) (v := fun b5 => pB b5 0) hS11 hf23 (fun b => by kernel_rfl) fun b5 ww12 a24 hS12 hf24 => ⟨fun _ => trivial, ?_⟩
  refine p_store_eq (i := 9) (j := 0) (b := b5) (off := 0) (vs := [vI r11.1, vI r11.2.1]) (cs' := [vI r11.1, vI r11.2.1]) hS12 hf24 rfl (by kernel_rfl) (by kernel_rfl) rfl fun ww13 a25 hS13 hf25 => ⟨fun _ => trivial, ?_⟩
  refine p_run 1 [] [1, 3, 4, 5, 6, 7, 8, 9, 10] (fl' := [(1, pB b1 0), (3, pB b2 0), (4, vI r8.2.2), (5, pB b3 0), (6, vI r9.2.2), (7, pB b4 0), (8, vI r10.2.2), (9, pB b5 0), (10, vI r11.2.2)]) (obs := []) trivial hf25 (by kernel_rfl) (by kernel_rfl) .nil fun a26 hf26 => ?_
  refine p_done (by kernel_rfl) ?_
  refine n_then ?_
  refine w_seq (by kernel_rfl) ?_
  refine w_reg (by kernel_rfl) ?_
  refine p_run 2 [vI x0_a_lo, vI x0_a_hi] [1, 3, 4, 5, 6, 7, 8, 9, 10, 65] (fl' := [(1, pB b1 0), (3, pB b2 0), (4, vI r8.2.2), (5, pB b3 0), (6, vI r9.2.2), (7, pB b4 0), (8, vI r10.2.2), (9, pB b5 0), (10, vI r11.2.2), (65, .agg #[vI x0_a_lo, vI x0_a_hi])]) (obs := [.cell ⟨b1, 0, none⟩ (vI x0_a_lo), .cell ⟨b1, 1, none⟩ (vI x0_a_hi)]) trivial hf26 (by kernel_rfl) (by kernel_rfl) (.cell (hS13.box (i := 4) rfl (j := 0) rfl) (.cell (hS13.box (i := 4) rfl (j := 1) rfl) .nil)) fun a27 hf27 => ?_
  obtain ⟨r12, hd5, hr5⟩ := bind_some hr4
  refine p_call (i := 2) (d := some 66) (f := 46) (args := #[.agg #[vI x0_a_lo, vI x0_a_hi]]) hf27 (by kernel_rfl) (f46_ok fuel x0_a_lo x0_a_hi r12 hd5 z4 _ _ hS13 ) ?_
  rintro v5 ww14 a28 ⟨z5, k5, rfl, hS14⟩ hf28
  refine ⟨fun _ => trivial, ?_⟩
  refine p_run 3 [] [1, 3, 4, 5, 6, 7, 8, 9, 10, 67, 68] (fl' := [(1, pB b1 0), (3, pB b2 0), (4, vI r8.2.2), (5, pB b3 0), (6, vI r9.2.2), (7, pB b4 0), (8, vI r10.2.2), (9, pB b5 0), (10, vI r11.2.2), (67, .agg #[vI r12.1, vI r12.2.1]), (68, vI r12.2.2)]) (obs := []) trivial hf28 (by kernel_rfl) (by kernel_rfl) .nil fun a29 hf29 => ?_
  refine p_box (i := 6) (d := (some 11)) (cs := [vI 0, vI 0]) (T := 41) (v := fun b6 => pB b6 0) hS14 hf29 (fun b => by kernel_rfl) fun b6 ww15 a30 hS15 hf30 => ⟨fun _ => trivial, ?_⟩
  refine p_store_eq (i := 7) (j := 0) (b := b6) (off := 0) (vs := [vI r12.1, vI r12.2.1]) (cs' := [vI r12.1, vI r12.2.1]) hS15 hf30 rfl (by kernel_rfl) (by kernel_rfl) rfl fun ww16 a31 hS16 hf31 => ⟨fun _ => trivial, ?_⟩
  refine p_run 1 [] [1, 3, 4, 5, 6, 7, 8, 9, 10, 11, 12] (fl' := [(1, pB b1 0), (3, pB b2 0), (4, vI r8.2.2), (5, pB b3 0), (6, vI r9.2.2), (7, pB b4 0), (8, vI r10.2.2), (9, pB b5 0), (10, vI r11.2.2), (11, pB b6 0), (12, vI r12.2.2)]) (obs := []) trivial hf31 (by kernel_rfl) (by kernel_rfl) .nil fun a32 hf32 => ?_
  refine p_done (by kernel_rfl) ?_
  refine n_then ?_
  refine w_seq (by kernel_rfl) ?_
  refine w_reg (by kernel_rfl) ?_
  refine p_run 2 [vI x0_a_lo, vI x0_a_hi] [1, 3, 4, 5, 6, 7, 8, 9, 10, 11, 12, 71] (fl' := [(1, pB b1 0), (3, pB b2 0), (4, vI r8.2.2), (5, pB b3 0), (6, vI r9.2.2), (7, pB b4 0), (8, vI r10.2.2), (9, pB b5 0), (10, vI r11.2.2), (11, pB b6 0), (12, vI r12.2.2), (71, .agg #[vI x0_a_lo, vI x0_a_hi])]) (obs := [.cell ⟨b1, 0, none⟩ (vI x0_a_lo), .cell ⟨b1, 1, none⟩ (vI x0_a_hi)]) trivial hf32 (by kernel_rfl) (by kernel_rfl) (.cell (hS16.box (i := 5) rfl (j := 0) rfl) (.cell (hS16.box (i := 5) rfl (j := 1) rfl) .nil)) fun a33 hf33 => ?_
  obtain ⟨r13, hd6, hr6⟩ := bind_some hr5
  refine p_call (i := 2) (d := some 72) (f := 47) (args := #[.agg #[vI x0_a_lo, vI x0_a_hi]]) hf33 (by kernel_rfl) (f47_ok fuel x0_a_lo x0_a_hi r13 hd6 z5 _ _ hS16 ) ?_
  rintro v6 ww17 a34 ⟨z6, k6, rfl, hS17⟩ hf34
  refine ⟨fun _ => trivial, ?_⟩
  refine p_run 3 [] [1, 3, 4, 5, 6, 7, 8, 9, 10, 11, 12, 73, 74] (fl' := [(1, pB b1 0), (3, pB b2 0), (4, vI r8.2.2), (5, pB b3 0), (6, vI r9.2.2), (7, pB b4 0), (8, vI r10.2.2), (9, pB b5 0), (10, vI r11.2.2), (11, pB b6 0), (12, vI r12.2.2), (73, .agg #[vI r13.1, vI r13.2.1]), (74, vI r13.2.2)]) (obs := []) trivial hf34 (by kernel_rfl) (by kernel_rfl) .nil fun a35 hf35 => ?_
  refine p_box (i := 6) (d := (some 13)) (cs := [vI 0, vI 0]) (T := 41) (v := fun b7 => pB b7 0) hS17 hf35 (fun b => by kernel_rfl) fun b7 ww18 a36 hS18 hf36 => ⟨fun _ => trivial, ?_⟩
  refine p_store_eq (i := 7) (j := 0) (b := b7) (off := 0) (vs := [vI r13.1, vI r13.2.1]) (cs' := [vI r13.1, vI r13.2.1]) hS18 hf36 rfl (by kernel_rfl) (by kernel_rfl) rfl fun ww19 a37 hS19 hf37 => ⟨fun _ => trivial, ?_⟩
  refine p_run 1 [] [1, 3, 4, 5, 6, 7, 8, 9, 10, 11, 12, 13, 14] (fl' := [(1, pB b1 0), (3, pB b2 0), (4, vI r8.2.2), (5, pB b3 0), (6, vI r9.2.2), (7, pB b4 0), (8, vI r10.2.2), (9, pB b5 0), (10, vI r11.2.2), (11, pB b6 0), (12, vI r12.2.2), (13, pB b7 0), (14, vI r13.2.2)]) (obs := []) trivial hf37 (by kernel_rfl) (by kernel_rfl) .nil fun a38 hf38 => ?_
  refine p_done (by kernel_rfl) ?_
  refine n_then ?_
  refine w_seq (by kernel_rfl) ?_
  refine w_reg (by kernel_rfl) ?_
  refine p_run 4 [vI x0_a_lo, vI x0_a_hi, vI x0_b_lo, vI x0_b_hi] [1, 3, 4, 5, 6, 7, 8, 9, 10, 11, 12, 13, 14, 77, 79] (fl' := [(1, pB b1 0), (3, pB b2 0), (4, vI r8.2.2), (5, pB b3 0), (6, vI r9.2.2), (7, pB b4 0), (8, vI r10.2.2), (9, pB b5 0), (10, vI r11.2.2), (11, pB b6 0), (12, vI r12.2.2), (13, pB b7 0), (14, vI r13.2.2), (77, .agg #[vI x0_a_lo, vI x0_a_hi]), (79, .agg #[vI x0_b_lo, vI x0_b_hi])]) (obs := [.cell ⟨b1, 0, none⟩ (vI x0_a_lo), .cell ⟨b1, 1, none⟩ (vI x0_a_hi), .cell ⟨b1, 2, none⟩ (vI x0_b_lo), .cell ⟨b1, 3, none⟩ (vI x0_b_hi)]) trivial hf38 (by kernel_rfl) (by kernel_rfl) (.cell (hS19.box (i := 6) rfl (j := 0) rfl) (.cell (hS19.box (i := 6) rfl (j := 1) rfl) (.cell (hS19.box (i := 6) rfl (j := 2) rfl) (.cell (hS19.box (i := 6) rfl (j := 3) rfl) .nil)))) fun a39 hf39 => ?_
  obtain ⟨r14, hd7, hr7⟩ := bind_some hr6
  refine p_call (i := 4) (d := some 80) (f := 39) (args := #[.agg #[vI x0_a_lo, vI x0_a_hi], .agg #[vI x0_b_lo, vI x0_b_hi]]) hf39 (by kernel_rfl) (f39_ok fuel x0_a_lo x0_a_hi x0_b_lo x0_b_hi r14 hd7 z6 _ _ hS19 ) ?_
  rintro v7 ww20 a40 ⟨z7, k7, rfl, hS20⟩ hf40
  refine ⟨fun _ => trivial, ?_⟩
  refine p_run 3 [] [1, 3, 4, 5, 6, 7, 8, 9, 10, 11, 12, 13, 14, 81, 82] (fl' := [(1, pB b1 0), (3, pB b2 0), (4, vI r8.2.2), (5, pB b3 0), (6, vI r9.2.2), (7, pB b4 0), (8, vI r10.2.2), (9, pB b5 0), (10, vI r11.2.2), (11, pB b6 0), (12, vI r12.2.2), (13, pB b7 0), (14, vI r13.2.2), (81, .agg #[vI r14.1, vI r14.2.1]), (82, vI r14.2.2)]) (obs := []) trivial hf40 (by kernel_rfl) (by kernel_rfl) .nil fun a41 hf41 => ?_
  refine p_box (i := 8) (d := (some 15)) (cs := [vI 0, vI 0]) (T := 41) (v := fun b8 => pB b8 0) hS20 hf41 (fun b => by kernel_rfl) fun b8 ww21 a42 hS21 hf42 => ⟨fun _ => trivial, ?_⟩
  refine p_store_eq (i := 9) (j := 0) (b := b8) (off := 0) (vs := [vI r14.1, vI r14.2.1]) (cs' := [vI r14.1, vI r14.2.1]) hS21 hf42 rfl (by kernel_rfl) (by kernel_rfl) rfl fun ww22 a43 hS22 hf43 => ⟨fun _ => trivial, ?_⟩
  refine p_run 1 [] [1, 3, 4, 5, 6, 7, 8, 9, 10, 11, 12, 13, 14, 15, 16] (fl' := [(1, pB b1 0), (3, pB b2 0), (4, vI r8.2.2), (5, pB b3 0), (6, vI r9.2.2), (7, pB b4 0), (8, vI r10.2.2), (9, pB b5 0), (10, vI r11.2.2), (11, pB b6 0), (12, vI r12.2.2), (13, pB b7 0), (14, vI r13.2.2), (15, pB b8 0), (16, vI r14.2.2)]) (obs := []) trivial hf43 (by kernel_rfl) (by kernel_rfl) .nil fun a44 hf44 => ?_
  refine p_done (by kernel_rfl) ?_
  refine n_then ?_
  refine w_seq (by kernel_rfl) ?_
  refine w_reg (by kernel_rfl) ?_
  refine p_run 4 [vI x0_a_lo, vI x0_a_hi, vI x0_b_lo, vI x0_b_hi] [1, 3, 4, 5, 6, 7, 8, 9, 10, 11, 12, 13, 14, 15, 16, 85, 87] (fl' := [(1, pB b1 0), (3, pB b2 0), (4, vI r8.2.2), (5, pB b3 0), (6, vI r9.2.2), (7, pB b4 0), (8, vI r10.2.2), (9, pB b5 0), (10, vI r11.2.2), (11, pB b6 0), (12, vI r12.2.2), (13, pB b7 0), (14, vI r13.2.2), (15, pB b8 0), (16, vI r14.2.2), (85, .agg #[vI x0_a_lo, vI x0_a_hi]), (87, .agg #[vI x0_b_lo, vI x0_b_hi])]) (obs := [.cell ⟨b1, 0, none⟩ (vI x0_a_lo), .cell ⟨b1, 1, none⟩ (vI x0_a_hi), .cell ⟨b1, 2, none⟩ (vI x0_b_lo), .cell ⟨b1, 3, none⟩ (vI x0_b_hi)]) trivial hf44 (by kernel_rfl) (by kernel_rfl) (.cell (hS22.box (i := 7) rfl (j := 0) rfl) (.cell (hS22.box (i := 7) rfl (j := 1) rfl) (.cell (hS22.box (i := 7) rfl (j := 2) rfl) (.cell (hS22.box (i := 7) rfl (j := 3) rfl) .nil)))) fun a45 hf45 => ?_
  obtain ⟨r15, hd8, hr8⟩ := bind_some hr7
  refine p_call (i := 4) (d := some 88) (f := 48) (args := #[.agg #[vI x0_a_lo, vI x0_a_hi], .agg #[vI x0_b_lo, vI x0_b_hi]]) hf45 (by kernel_rfl) (f48_ok fuel x0_a_lo x0_a_hi x0_b_lo x0_b_hi r15 hd8 z7 _ _ hS22 ) ?_
  rintro v8 ww23 a46 ⟨z8, k8, rfl, hS23⟩ hf46
  refine ⟨fun _ => trivial, ?_⟩
  refine p_run 3 [] [1, 3, 4, 5, 6, 7, 8, 9, 10, 11, 12, 13, 14, 15, 16, 89, 90] (fl' := [(1, pB b1 0), (3, pB b2 0), (4, vI r8.2.2), (5, pB b3 0), (6, vI r9.2.2), (7, pB b4 0), (8, vI r10.2.2), (9, pB b5 0), (10, vI r11.2.2), (11, pB b6 0), (12, vI r12.2.2), (13, pB b7 0), (14, vI r13.2.2), (15, pB b8 0), (16, vI r14.2.2), (89, .agg #[vI r15.1, vI r15.2.1]), (90, vI r15.2.2)]) (obs := []) trivial hf46 (by kernel_rfl) (by kernel_rfl) .nil fun a47 hf47 => ?_
  refine p_box (i := 8) (d := (some 17)) (cs := [vI 0, vI 0]) (T := 41) (v := fun b9 => pB b9 0) hS23 hf47 (fun b => by kernel_rfl) fun b9 ww24 a48 hS24 hf48 => ⟨fun _ => trivial, ?_⟩
  refine p_store_eq (i := 9) (j := 0) (b := b9) (off := 0) (vs := [vI r15.1, vI r15.2.1]) (cs' := [vI r15.1, vI r15.2.1]) hS24 hf48 rfl (by kernel_rfl) (by kernel_rfl) rfl fun ww25 a49 hS25 hf49 => ⟨fun _ => trivial, ?_⟩
  refine p_run 1 [] [1, 3, 4, 5, 6, 7, 8, 9, 10, 11, 12, 13, 14, 15, 16, 17, 18] (fl' := [(1, pB b1 0), (3, pB b2 0), (4, vI r8.2.2), (5, pB b3 0), (6, vI r9.2.2), (7, pB b4 0), (8, vI r10.2.2), (9, pB b5 0), (10, vI r11.2.2), (11, pB b6 0), (12, vI r12.2.2), (13, pB b7 0), (14, vI r13.2.2), (15, pB b8 0), (16, vI r14.2.2), (17, pB b9 0), (18, vI r15.2.2)]) (obs := []) trivial hf49 (by kernel_rfl) (by kernel_rfl) .nil fun a50 hf50 => ?_
  refine p_done (by kernel_rfl) ?_
  refine n_then ?_
  refine w_seq (by kernel_rfl) ?_
  refine w_reg (by kernel_rfl) ?_
  refine p_run 6 [vI x0_a_lo, vI x0_a_hi, vI x0_n, vI x0_d] [1, 3, 4, 5, 6, 7, 8, 9, 10, 11, 12, 13, 14, 15, 16, 17, 18, 93, 95, 97] (fl' := [(1, pB b1 0), (3, pB b2 0), (4, vI r8.2.2), (5, pB b3 0), (6, vI r9.2.2), (7, pB b4 0), (8, vI r10.2.2), (9, pB b5 0), (10, vI r11.2.2), (11, pB b6 0), (12, vI r12.2.2), (13, pB b7 0), (14, vI r13.2.2), (15, pB b8 0), (16, vI r14.2.2), (17, pB b9 0), (18, vI r15.2.2), (93, .agg #[vI x0_a_lo, vI x0_a_hi]), (95, vI x0_n), (97, vI x0_d)]) (obs := [.cell ⟨b1, 0, none⟩ (vI x0_a_lo), .cell ⟨b1, 1, none⟩ (vI x0_a_hi), .cell ⟨b1, 4, none⟩ (vI x0_n), .cell ⟨b1, 5, none⟩ (vI x0_d)]) trivial hf50 (by kernel_rfl) (by kernel_rfl) (.cell (hS25.box (i := 8) rfl (j := 0) rfl) (.cell (hS25.box (i := 8) rfl (j := 1) rfl) (.cell (hS25.box (i := 8) rfl (j := 4) rfl) (.cell (hS25.box (i := 8) rfl (j := 5) rfl) .nil)))) fun a51 hf51 => ?_
  obtain ⟨r16, hd9, hr9⟩ := bind_some hr8
  refine p_call (i := 6) (d := some 98) (f := 40) (args := #[.agg #[vI x0_a_lo, vI x0_a_hi], vI x0_n, vI x0_d]) hf51 (by kernel_rfl) (f40_ok fuel x0_a_lo x0_a_hi x0_n x0_d r16 hd9 z8 _ _ hS25 ) ?_
  rintro v9 ww26 a52 ⟨z9, k9, rfl, hS26⟩ hf52
  refine ⟨fun _ => trivial, ?_⟩
  refine p_run 3 [] [1, 3, 4, 5, 6, 7, 8, 9, 10, 11, 12, 13, 14, 15, 16, 17, 18, 99, 100] (fl' := [(1, pB b1 0), (3, pB b2 0), (4, vI r8.2.2), (5, pB b3 0), (6, vI r9.2.2), (7, pB b4 0), (8, vI r10.2.2), (9, pB b5 0), (10, vI r11.2.2), (11, pB b6 0), (12, vI r12.2.2), (13, pB b7 0), (14, vI r13.2.2), (15, pB b8 0), (16, vI r14.2.2), (17, pB b9 0), (18, vI r15.2.2), (99, .agg #[vI r16.1, vI r16.2.1]), (100, vI r16.2.2)]) (obs := []) trivial hf52 (by kernel_rfl) (by kernel_rfl) .nil fun a53 hf53 => ?_
  refine p_box (i := 10) (d := (some 19)) (cs := [vI 0, vI 0]) (T := 41) (v := fun b10 => pB b10 0) hS26 hf53 (fun b => by kernel_rfl) fun b10 ww27 a54 hS27 hf54 => ⟨fun _ => trivial, ?_⟩
  refine p_store_eq (i := 11) (j := 0) (b := b10) (off := 0) (vs := [vI r16.1, vI r16.2.1]) (cs' := [vI r16.1, vI r16.2.1]) hS27 hf54 rfl (by kernel_rfl) (by kernel_rfl) rfl fun ww28 a55 hS28 hf55 => ⟨fun _ => trivial, ?_⟩
  refine p_run 1 [] [1, 3, 4, 5, 6, 7, 8, 9, 10, 11, 12, 13, 14, 15, 16, 17, 18, 19, 20] (fl' := [(1, pB b1 0), (3, pB b2 0), (4, vI r8.2.2), (5, pB b3 0), (6, vI r9.2.2), (7, pB b4 0), (8, vI r10.2.2), (9, pB b5 0), (10, vI r11.2.2), (11, pB b6 0), (12, vI r12.2.2), (13, pB b7 0), (14, vI r13.2.2), (15, pB b8 0), (16, vI r14.2.2), (17, pB b9 0), (18, vI r15.2.2), (19, pB b10 0), (20, vI r16.2.2)]) (obs := []) trivial hf55 (by kernel_rfl) (by kernel_rfl) .nil fun a56 hf56 => ?_
  refine p_done (by kernel_rfl) ?_
  refine n_then ?_
  refine w_seq (by kernel_rfl) ?_
  refine w_reg (by kernel_rfl) ?_
  refine p_run 6 [vI x0_a_lo, vI x0_a_hi, vI x0_n, vI x0_d] [1, 3, 4, 5, 6, 7, 8, 9, 10, 11, 12, 13, 14, 15, 16, 17, 18, 19, 20, 103, 105, 107] (fl' := [(1, pB b1 0), (3, pB b2 0), (4, vI r8.2.2), (5, pB b3 0), (6, vI r9.2.2), (7, pB b4 0), (8, vI r10.2.2), (9, pB b5 0), (10, vI r11.2.2), (11, pB b6 0), (12, vI r12.2.2), (13, pB b7 0), (14, vI r13.2.2), (15, pB b8 0), (16, vI r14.2.2), (17, pB b9 0), (18, vI r15.2.2), (19, pB b10 0), (20, vI r16.2.2), (103, .agg #[vI x0_a_lo, vI x0_a_hi]), (105, vI x0_n), (107, vI x0_d)]) (obs := [.cell ⟨b1, 0, none⟩ (vI x0_a_lo), .cell ⟨b1, 1, none⟩ (vI x0_a_hi), .cell ⟨b1, 4, none⟩ (vI x0_n), .cell ⟨b1, 5, none⟩ (vI x0_d)]) trivial hf56 (by kernel_rfl) (by kernel_rfl) (.cell (hS28.box (i := 9) rfl (j := 0) rfl) (.cell (hS28.box (i := 9) rfl (j := 1) rfl) (.cell (hS28.box (i := 9) rfl (j := 4) rfl) (.cell (hS28.box (i := 9) rfl (j := 5) rfl) .nil)))) fun a57 hf57 => ?_
  obtain ⟨r17, hd10, hr10⟩ := bind_some hr9
  refine p_call (i := 6) (d := some 108) (f := 49) (args := #[.agg #[vI x0_a_lo, vI x0_a_hi], vI x0_n, vI x0_d]) hf57 (by kernel_rfl) (f49_ok fuel x0_a_lo x0_a_hi x0_n x0_d r17 hd10 z9 _ _ hS28 ) ?_
  rintro v10 ww29 a58 ⟨z10, k10, rfl, hS29⟩ hf58
  refine ⟨fun _ => trivial, ?_⟩
  refine p_run 3 [] [1, 3, 4, 5, 6, 7, 8, 9, 10, 11, 12, 13, 14, 15, 16, 17, 18, 19, 20, 109, 110] (fl' := [(1, pB b1 0), (3, pB b2 0), (4, vI r8.2.2), (5, pB b3 0), (6, vI r9.2.2), (7, pB b4 0), (8, vI r10.2.2), (9, pB b5 0), (10, vI r11.2.2), (11, pB b6 0), (12, vI r12.2.2), (13, pB b7 0), (14, vI r13.2.2), (15, pB b8 0), (16, vI r14.2.2), (17, pB b9 0), (18, vI r15.2.2), (19, pB b10 0), (20, vI r16.2.2), (109, .agg #[vI r17.1, vI r17.2.1]), (110, vI r17.2.2)]) (obs := []) trivial hf58 (by kernel_rfl) (by kernel_rfl) .nil fun a59 hf59 => ?_
  refine p_box (i := 10) (d := (some 21)) (cs := [vI 0, vI 0]) (T := 41) (v := fun b11 => pB b11 0) hS29 hf59 (fun b => by kernel_rfl) fun b11 ww30 a60 hS30 hf60 => ⟨fun _ => trivial, ?_⟩
  refine p_store_eq (i := 11) (j := 0) (b := b11) (off := 0) (vs := [vI r17.1, vI r17.2.1]) (cs' := [vI r17.1, vI r17.2.1]) hS30 hf60 rfl (by kernel_rfl) (by kernel_rfl) rfl fun ww31 a61 hS31 hf61 => ⟨fun _ => trivial, ?_⟩
  refine p_run 1 [] [1, 3, 4, 5, 6, 7, 8, 9, 10, 11, 12, 13, 14, 15, 16, 17, 18, 19, 20, 21, 22] (fl' := [(1, pB b1 0), (3, pB b2 0), (4, vI r8.2.2), (5, pB b3 0), (6, vI r9.2.2), (7, pB b4 0), (8, vI r10.2.2), (9, pB b5 0), (10, vI r11.2.2), (11, pB b6 0), (12, vI r12.2.2), (13, pB b7 0), (14, vI r13.2.2), (15, pB b8 0), (16, vI r14.2.2), (17, pB b9 0), (18, vI r15.2.2), (19, pB b10 0), (20, vI r16.2.2), (21, pB b11 0), (22, vI r17.2.2)]) (obs := []) trivial hf61 (by kernel_rfl) (by kernel_rfl) .nil fun a62 hf62 => ?_
  refine p_done (by kernel_rfl) ?_
  refine n_then ?_
  refine w_seq (by kernel_rfl) ?_
  refine w_reg (by kernel_rfl) ?_
  refine p_run 4 [vI x0_a_lo, vI x0_a_hi, vI x0_b_lo, vI x0_b_hi] [1, 3, 4, 5, 6, 7, 8, 9, 10, 11, 12, 13, 14, 15, 16, 17, 18, 19, 20, 21, 22, 113, 115] (fl' := [(1, pB b1 0), (3, pB b2 0), (4, vI r8.2.2), (5, pB b3 0), (6, vI r9.2.2), (7, pB b4 0), (8, vI r10.2.2), (9, pB b5 0), (10, vI r11.2.2), (11, pB b6 0), (12, vI r12.2.2), (13, pB b7 0), (14, vI r13.2.2), (15, pB b8 0), (16, vI r14.2.2), (17, pB b9 0), (18, vI r15.2.2), (19, pB b10 0), (20, vI r16.2.2), (21, pB b11 0), (22, vI r17.2.2), (113, .agg #[vI x0_a_lo, vI x0_a_hi]), (115, .agg #[vI x0_b_lo, vI x0_b_hi])]) (obs := [.cell ⟨b1, 0, none⟩ (vI x0_a_lo), .cell ⟨b1, 1, none⟩ (vI x0_a_hi), .cell ⟨b1, 2, none⟩ (vI x0_b_lo), .cell ⟨b1, 3, none⟩ (vI x0_b_hi)]) trivial hf62 (by kernel_rfl) (by kernel_rfl) (.cell (hS31.box (i := 10) rfl (j := 0) rfl) (.cell (hS31.box (i := 10) rfl (j := 1) rfl) (.cell (hS31.box (i := 10) rfl (j := 2) rfl) (.cell (hS31.box (i := 10) rfl (j := 3) rfl) .nil)))) fun a63 hf63 => ?_
  obtain ⟨r18, hd11, hr11⟩ := bind_some hr10
  refine p_call (i := 4) (d := some 116) (f := 41) (args := #[.agg #[vI x0_a_lo, vI x0_a_hi], .agg #[vI x0_b_lo, vI x0_b_hi]]) hf63 (by kernel_rfl) (f41_ok fuel x0_a_lo x0_a_hi x0_b_lo x0_b_hi r18 hd11 z10 _ _ hS31 ) ?_
  rintro v11 ww32 a64 ⟨z11, k11, rfl, hS32⟩ hf64
  refine ⟨fun _ => trivial, ?_⟩
  refine p_run 3 [] [1, 3, 4, 5, 6, 7, 8, 9, 10, 11, 12, 13, 14, 15, 16, 17, 18, 19, 20, 21, 22, 117, 118] (fl' := [(1, pB b1 0), (3, pB b2 0), (4, vI r8.2.2), (5, pB b3 0), (6, vI r9.2.2), (7, pB b4 0), (8, vI r10.2.2), (9, pB b5 0), (10, vI r11.2.2), (11, pB b6 0), (12, vI r12.2.2), (13, pB b7 0), (14, vI r13.2.2), (15, pB b8 0), (16, vI r14.2.2), (17, pB b9 0), (18, vI r15.2.2), (19, pB b10 0), (20, vI r16.2.2), (21, pB b11 0), (22, vI r17.2.2), (117, .agg #[vI r18.1, vI r18.2.1]), (118, vI r18.2.2)]) (obs := []) trivial hf64 (by kernel_rfl) (by kernel_rfl) .nil fun a65 hf65 => ?_
  refine p_box (i := 8) (d := (some 23)) (cs := [vI 0, vI 0]) (T := 41) (v := fun b12 => pB b12 0) hS32 hf65 (fun b => by kernel_rfl) fun b12 ww33 a66 hS33 hf66 => ⟨fun _ => trivial, ?_⟩
  refine p_store_eq (i := 9) (j := 0) (b := b12) (off := 0) (vs := [vI r18.1, vI r18.2.1]) (cs' := [vI r18.1, vI r18.2.1]) hS33 hf66 rfl (by kernel_rfl) (by kernel_rfl) rfl fun ww34 a67 hS34 hf67 => ⟨fun _ => trivial, ?_⟩
  refine p_run 1 [] [1, 3, 4, 5, 6, 7, 8, 9, 10, 11, 12, 13, 14, 15, 16, 17, 18, 19, 20, 21, 22, 23, 24] (fl' := [(1, pB b1 0), (3, pB b2 0), (4, vI r8.2.2), (5, pB b3 0), (6, vI r9.2.2), (7, pB b4 0), (8, vI r10.2.2), (9, pB b5 0), (10, vI r11.2.2), (11, pB b6 0), (12, vI r12.2.2), (13, pB b7 0), (14, vI r13.2.2), (15, pB b8 0), (16, vI r14.2.2), (17, pB b9 0), (18, vI r15.2.2), (19, pB b10 0), (20, vI r16.2.2), (21, pB b11 0), (22, vI r17.2.2), (23, pB b12 0), (24, vI r18.2.2)]) (obs := []) trivial hf67 (by kernel_rfl) (by kernel_rfl) .nil fun a68 hf68 => ?_
  refine p_done (by kernel_rfl) ?_
  refine n_then ?_
  refine w_seq (by kernel_rfl) ?_
  refine w_reg (by kernel_rfl) ?_
  refine p_run 4 [vI x0_a_lo, vI x0_a_hi, vI x0_b_lo, vI x0_b_hi] [1, 3, 4, 5, 6, 7, 8, 9, 10, 11, 12, 13, 14, 15, 16, 17, 18, 19, 20, 21, 22, 23, 24, 121, 123] (fl' := [(1, pB b1 0), (3, pB b2 0), (4, vI r8.2.2), (5, pB b3 0), (6, vI r9.2.2), (7, pB b4 0), (8, vI r10.2.2), (9, pB b5 0), (10, vI r11.2.2), (11, pB b6 0), (12, vI r12.2.2), (13, pB b7 0), (14, vI r13.2.2), (15, pB b8 0), (16, vI r14.2.2), (17, pB b9 0), (18, vI r15.2.2), (19, pB b10 0), (20, vI r16.2.2), (21, pB b11 0), (22, vI r17.2.2), (23, pB b12 0), (24, vI r18.2.2), (121, .agg #[vI x0_a_lo, vI x0_a_hi]), (123, .agg #[vI x0_b_lo, vI x0_b_hi])]) (obs := [.cell ⟨b1, 0, none⟩ (vI x0_a_lo), .cell ⟨b1, 1, none⟩ (vI x0_a_hi), .cell ⟨b1, 2, none⟩ (vI x0_b_lo), .cell ⟨b1, 3, none⟩ (vI x0_b_hi)]) trivial hf68 (by kernel_rfl) (by kernel_rfl) (.cell (hS34.box (i := 11) rfl (j := 0) rfl) (.cell (hS34.box (i := 11) rfl (j := 1) rfl) (.cell (hS34.box (i := 11) rfl (j := 2) rfl) (.cell (hS34.box (i := 11) rfl (j := 3) rfl) .nil)))) fun a69 hf69 => ?_
  obtain ⟨r19, hd12, hr12⟩ := bind_some hr11
  refine p_call (i := 4) (d := some 124) (f := 50) (args := #[.agg #[vI x0_a_lo, vI x0_a_hi], .agg #[vI x0_b_lo, vI x0_b_hi]]) hf69 (by kernel_rfl) (f50_ok fuel x0_a_lo x0_a_hi x0_b_lo x0_b_hi r19 hd12 z11 _ _ hS34 ) ?_
  rintro v12 ww35 a70 ⟨z12, k12, rfl, hS35⟩ hf70
  refine ⟨fun _ => trivial, ?_⟩
  refine p_run 3 [] [1, 3, 4, 5, 6, 7, 8, 9, 10, 11, 12, 13, 14, 15, 16, 17, 18, 19, 20, 21, 22, 23, 24, 125, 126] (fl' := [(1, pB b1 0), (3, pB b2 0), (4, vI r8.2.2), (5, pB b3 0), (6, vI r9.2.2), (7, pB b4 0), (8, vI r10.2.2), (9, pB b5 0), (10, vI r11.2.2), (11, pB b6 0), (12, vI r12.2.2), (13, pB b7 0), (14, vI r13.2.2), (15, pB b8 0), (16, vI r14.2.2), (17, pB b9 0), (18, vI r15.2.2), (19, pB b10 0), (20, vI r16.2.2), (21, pB b11 0), (22, vI r17.2.2), (23, pB b12 0), (24, vI r18.2.2), (125, .agg #[vI r19.1, vI r19.2.1]), (126, vI r19.2.2)]) (obs := []) trivial hf70 (by kernel_rfl) (by kernel_rfl) .nil fun a71 hf71 => ?_
  refine p_box (i := 8) (d := (some 25)) (cs := [vI 0, vI 0]) (T := 41) (v := fun b13 => pB b13 0) hS35 hf71 (fun b => by kernel_rfl) fun b13 ww36 a72 hS36 hf72 => ⟨fun _ => trivial, ?_⟩
  refine p_store_eq (i := 9) (j := 0) (b := b13) (off := 0) (vs := [vI r19.1, vI r19.2.1]) (cs' := [vI r19.1, vI r19.2.1]) hS36 hf72 rfl (by kernel_rfl) (by kernel_rfl) rfl fun ww37 a73 hS37 hf73 => ⟨fun _ => trivial, ?_⟩
  refine p_run 1 [] [1, 3, 4, 5, 6, 7, 8, 9, 10, 11, 12, 13, 14, 15, 16, 17, 18, 19, 20, 21, 22, 23, 24, 25, 26] (fl' := [(1, pB b1 0), (3, pB b2 0), (4, vI r8.2.2), (5, pB b3 0), (6, vI r9.2.2), (7, pB b4 0), (8, vI r10.2.2), (9, pB b5 0), (10, vI r11.2.2), (11, pB b6 0), (12, vI r12.2.2), (13, pB b7 0), (14, vI r13.2.2), (15, pB b8 0), (16, vI r14.2.2), (17, pB b9 0), (18, vI r15.2.2), (19, pB b10 0), (20, vI r16.2.2), (21, pB b11 0), (22, vI r17.2.2), (23, pB b12 0), (24, vI r18.2.2), (25, pB b13 0), (26, vI r19.2.2)]) (obs := []) trivial hf73 (by kernel_rfl) (by kernel_rfl) .nil fun a74 hf74 => ?_
  refine p_done (by kernel_rfl) ?_
  refine n_then ?_
  refine w_seq (by kernel_rfl) ?_
  refine w_reg (by kernel_rfl) ?_
  refine p_run 4 [vI x0_a_lo, vI x0_a_hi, vI x0_b_lo, vI x0_b_hi] [1, 3, 4, 5, 6, 7, 8, 9, 10, 11, 12, 13, 14, 15, 16, 17, 18, 19, 20, 21, 22, 23, 24, 25, 26, 129, 131] (fl' := [(1, pB b1 0), (3, pB b2 0), (4, vI r8.2.2), (5, pB b3 0), (6, vI r9.2.2), (7, pB b4 0), (8, vI r10.2.2), (9, pB b5 0), (10, vI r11.2.2), (11, pB b6 0), (12, vI r12.2.2), (13, pB b7 0), (14, vI r13.2.2), (15, pB b8 0), (16, vI r14.2.2), (17, pB b9 0), (18, vI r15.2.2), (19, pB b10 0), (20, vI r16.2.2), (21, pB b11 0), (22, vI r17.2.2), (23, pB b12 0), (24, vI r18.2.2), (25, pB b13 0), (26, vI r19.2.2), (129, .agg #[vI x0_a_lo, vI x0_a_hi]), (131, .agg #[vI x0_b_lo, vI x0_b_hi])]) (obs := [.cell ⟨b1, 0, none⟩ (vI x0_a_lo), .cell ⟨b1, 1, none⟩ (vI x0_a_hi), .cell ⟨b1, 2, none⟩ (vI x0_b_lo), .cell ⟨b1, 3, none⟩ (vI x0_b_hi)]) trivial hf74 (by kernel_rfl) (by kernel_rfl) (.cell (hS37.box (i := 12) rfl (j := 0) rfl) (.cell (hS37.box (i := 12) rfl (j := 1) rfl) (.cell (hS37.box (i := 12) rfl (j := 2) rfl) (.cell (hS37.box (i := 12) rfl (j := 3) rfl) .nil)))) fun a75 hf75 => ?_
  obtain ⟨r20, hd13, hr13⟩ := bind_some hr12
  refine p_call (i := 4) (d := some 132) (f := 42) (args := #[.agg #[vI x0_a_lo, vI x0_a_hi], .agg #[vI x0_b_lo, vI x0_b_hi]]) hf75 (by kernel_rfl) (f42_ok fuel x0_a_lo x0_a_hi x0_b_lo x0_b_hi r20 hd13 z12 _ _ hS37 ) ?_
  rintro v13 ww38 a76 ⟨z13, k13, rfl, hS38⟩ hf76
  refine ⟨fun _ => trivial, ?_⟩
  refine p_run 3 [] [1, 3, 4, 5, 6, 7, 8, 9, 10, 11, 12, 13, 14, 15, 16, 17, 18, 19, 20, 21, 22, 23, 24, 25, 26, 133, 134] (fl' := [(1, pB b1 0), (3, pB b2 0), (4, vI r8.2.2), (5, pB b3 0), (6, vI r9.2.2), (7, pB b4 0), (8, vI r10.2.2), (9, pB b5 0), (10, vI r11.2.2), (11, pB b6 0), (12, vI r12.2.2), (13, pB b7 0), (14, vI r13.2.2), (15, pB b8 0), (16, vI r14.2.2), (17, pB b9 0), (18, vI r15.2.2), (19, pB b10 0), (20, vI r16.2.2), (21, pB b11 0), (22, vI r17.2.2), (23, pB b12 0), (24, vI r18.2.2), (25, pB b13 0), (26, vI r19.2.2), (133, .agg #[vI r20.1, vI r20.2.1]), (134, vI r20.2.2)]) (obs := []) trivial hf76 (by kernel_rfl) (by kernel_rfl) .nil fun a77 hf77 => ?_
  refine p_box (i := 8) (d := (some 27)) (cs := [vI 0, vI 0]) (T := 41) (v := fun b14 => pB b14 0) hS38 hf77 (fun b => by kernel_rfl) fun b14 ww39 a78 hS39 hf78 => ⟨fun _ => trivial, ?_⟩
  refine p_store_eq (i := 9) (j := 0) (b := b14) (off := 0) (vs := [vI r20.1, vI r20.2.1]) (cs' := [vI r20.1, vI r20.2.1]) hS39 hf78 rfl (by kernel_rfl) (by kernel_rfl) rfl fun ww40 a79 hS40 hf79 => ⟨fun _ => trivial, ?_⟩
  refine p_run 1 [] [1, 3, 4, 5, 6, 7, 8, 9, 10, 11, 12, 13, 14, 15, 16, 17, 18, 19, 20, 21, 22, 23, 24, 25, 26, 27, 28] (fl' := [(1, pB b1 0), (3, pB b2 0), (4, vI r8.2.2), (5, pB b3 0), (6, vI r9.2.2), (7, pB b4 0), (8, vI r10.2.2), (9, pB b5 0), (10, vI r11.2.2), (11, pB b6 0), (12, vI r12.2.2), (13, pB b7 0), (14, vI r13.2.2), (15, pB b8 0), (16, vI r14.2.2), (17, pB b9 0), (18, vI r15.2.2), (19, pB b10 0), (20, vI r16.2.2), (21, pB b11 0), (22, vI r17.2.2), (23, pB b12 0), (24, vI r18.2.2), (25, pB b13 0), (26, vI r19.2.2), (27, pB b14 0), (28, vI r20.2.2)]) (obs := []) trivial hf79 (by kernel_rfl) (by kernel_rfl) .nil fun a80 hf80 => ?_
  refine p_done (by kernel_rfl) ?_
  refine n_then ?_
  refine w_seq (by kernel_rfl) ?_
  refine w_reg (by kernel_rfl) ?_
  refine p_run 4 [vI x0_a_lo, vI x0_a_hi, vI x0_b_lo, vI x0_b_hi] [1, 3, 4, 5, 6, 7, 8, 9, 10, 11, 12, 13, 14, 15, 16, 17, 18, 19, 20, 21, 22, 23, 24, 25, 26, 27, 28, 137, 139] (fl' := [(1, pB b1 0), (3, pB b2 0), (4, vI r8.2.2), (5, pB b3 0), (6, vI r9.2.2), (7, pB b4 0), (8, vI r10.2.2), (9, pB b5 0), (10, vI r11.2.2), (11, pB b6 0), (12, vI r12.2.2), (13, pB b7 0), (14, vI r13.2.2), (15, pB b8 0), (16, vI r14.2.2), (17, pB b9 0), (18, vI r15.2.2), (19, pB b10 0), (20, vI r16.2.2), (21, pB b11 0), (22, vI r17.2.2), (23, pB b12 0), (24, vI r18.2.2), (25, pB b13 0), (26, vI r19.2.2), (27, pB b14 0), (28, vI r20.2.2), (137, .agg #[vI x0_a_lo, vI x0_a_hi]), (139, .agg #[vI x0_b_lo, vI x0_b_hi])]) (obs := [.cell ⟨b1, 0, none⟩ (vI x0_a_lo), .cell ⟨b1, 1, none⟩ (vI x0_a_hi), .cell ⟨b1, 2, none⟩ (vI x0_b_lo), .cell ⟨b1, 3, none⟩ (vI x0_b_hi)]) trivial hf80 (by kernel_rfl) (by kernel_rfl) (.cell (hS40.box (i := 13) rfl (j := 0) rfl) (.cell (hS40.box (i := 13) rfl (j := 1) rfl) (.cell (hS40.box (i := 13) rfl (j := 2) rfl) (.cell (hS40.box (i := 13) rfl (j := 3) rfl) .nil)))) fun a81 hf81 => ?_
  obtain ⟨r21, hd14, hr14⟩ := bind_some hr13
  refine p_call (i := 4) (d := some 140) (f := 51) (args := #[.agg #[vI x0_a_lo, vI x0_a_hi], .agg #[vI x0_b_lo, vI x0_b_hi]]) hf81 (by kernel_rfl) (f51_ok fuel x0_a_lo x0_a_hi x0_b_lo x0_b_hi r21 hd14 z13 _ _ hS40 ) ?_
  rintro v14 ww41 a82 ⟨z14, k14, rfl, hS41⟩ hf82
  refine ⟨fun _ => trivial, ?_⟩
  refine p_run 3 [] [1, 3, 4, 5, 6, 7, 8, 9, 10, 11, 12, 13, 14, 15, 16, 17, 18, 19, 20, 21, 22, 23, 24, 25, 26, 27, 28, 141, 142] (fl' := [(1, pB b1 0), (3, pB b2 0), (4, vI r8.2.2), (5, pB b3 0), (6, vI r9.2.2), (7, pB b4 0), (8, vI r10.2.2), (9, pB b5 0), (10, vI r11.2.2), (11, pB b6 0), (12, vI r12.2.2), (13, pB b7 0), (14, vI r13.2.2), (15, pB b8 0), (16, vI r14.2.2), (17, pB b9 0), (18, vI r15.2.2), (19, pB b10 0), (20, vI r16.2.2), (21, pB b11 0), (22, vI r17.2.2), (23, pB b12 0), (24, vI r18.2.2), (25, pB b13 0), (26, vI r19.2.2), (27, pB b14 0), (28, vI r20.2.2), (141, .agg #[vI r21.1, vI r21.2.1]), (142, vI r21.2.2)]) (obs := []) trivial hf82 (by kernel_rfl) (by kernel_rfl) .nil fun a83 hf83 => ?_
  refine p_box (i := 8) (d := (some 29)) (cs := [vI 0, vI 0]) (T := 41) (v := fun b15 => pB b15 0) hS41 hf83 (fun b => by kernel_rfl) fun b15 ww42 a84 hS42 hf84 => ⟨fun _ => trivial, ?_⟩
  refine p_store_eq (i := 9) (j := 0) (b := b15) (off := 0) (vs := [vI r21.1, vI r21.2.1]) (cs' := [vI r21.1, vI r21.2.1]) hS42 hf84 rfl (by kernel_rfl) (by kernel_rfl) rfl fun ww43 a85 hS43 hf85 => ⟨fun _ => trivial, ?_⟩
  refine p_run 1 [] [1, 3, 4, 5, 6, 7, 8, 9, 10, 11, 12, 13, 14, 15, 16, 17, 18, 19, 20, 21, 22, 23, 24, 25, 26, 27, 28, 29, 30] (fl' := [(1, pB b1 0), (3, pB b2 0), (4, vI r8.2.2), (5, pB b3 0), (6, vI r9.2.2), (7, pB b4 0), (8, vI r10.2.2), (9, pB b5 0), (10, vI r11.2.2), (11, pB b6 0), (12, vI r12.2.2), (13, pB b7 0), (14, vI r13.2.2), (15, pB b8 0), (16, vI r14.2.2), (17, pB b9 0), (18, vI r15.2.2), (19, pB b10 0), (20, vI r16.2.2), (21, pB b11 0), (22, vI r17.2.2), (23, pB b12 0), (24, vI r18.2.2), (25, pB b13 0), (26, vI r19.2.2), (27, pB b14 0), (28, vI r20.2.2), (29, pB b15 0), (30, vI r21.2.2)]) (obs := []) trivial hf85 (by kernel_rfl) (by kernel_rfl) .nil fun a86 hf86 => ?_
  refine p_done (by kernel_rfl) ?_
  refine n_then ?_
  refine w_seq (by kernel_rfl) ?_
  refine w_mid (by kernel_rfl) (fun a w => ∃ z15 : Zone, ∃ y3 : Bool, Zone.le z14 z15 ∧ Fr a 245 [(1, pB b1 0), (3, pB b2 0), (5, pB b3 0), (7, pB b4 0), (9, pB b5 0), (11, pB b6 0), (13, pB b7 0), (15, pB b8 0), (17, pB b9 0), (19, pB b10 0), (21, pB b11 0), (23, pB b12 0), (25, pB b13 0), (27, pB b14 0), (29, pB b15 0), (175, .bool y3)] ∧ St z15 (box b15 [vI r21.1, vI r21.2.1] 41 :: box b14 [vI r20.1, vI r20.2.1] 41 :: box b13 [vI r19.1, vI r19.2.1] 41 :: box b12 [vI r18.1, vI r18.2.1] 41 :: box b11 [vI r17.1, vI r17.2.1] 41 :: box b10 [vI r16.1, vI r16.2.1] 41 :: box b9 [vI r15.1, vI r15.2.1] 41 :: box b8 [vI r14.1, vI r14.2.1] 41 :: box b7 [vI r13.1, vI r13.2.1] 41 :: box b6 [vI r12.1, vI r12.2.1] 41 :: box b5 [vI r11.1, vI r11.2.1] 41 :: box b4 [vI r10.1, vI r10.2.1] 41 :: box b3 [vI r9.1, vI r9.2.1] 41 :: box b2 [vI r8.1, vI r8.2.1] 41 :: box b1 [vI x0_a_lo, vI x0_a_hi, vI x0_b_lo, vI x0_b_hi, vI x0_n, vI x0_d] 72 :: L) w ∧ (F8_j1 fuel x0_a_lo x0_a_hi x0_b_lo x0_b_hi x0_n r8 r9 r10 r11 r12 r13 r14 r15 r16 r17 r18 r19 r20 r21 y3) = some r) ?_ ?_
  · skip
    refine w_reg (by kernel_rfl) ?_
    refine p_run 4 [] [1, 3, 5, 7, 8, 9, 10, 11, 12, 13, 14, 15, 16, 17, 18, 19, 20, 21, 22, 23, 24, 25, 26, 27, 28, 29, 30, 146] (fl' := [(1, pB b1 0), (3, pB b2 0), (5, pB b3 0), (7, pB b4 0), (8, vI r10.2.2), (9, pB b5 0), (10, vI r11.2.2), (11, pB b6 0), (12, vI r12.2.2), (13, pB b7 0), (14, vI r13.2.2), (15, pB b8 0), (16, vI r14.2.2), (17, pB b9 0), (18, vI r15.2.2), (19, pB b10 0), (20, vI r16.2.2), (21, pB b11 0), (22, vI r17.2.2), (23, pB b12 0), (24, vI r18.2.2), (25, pB b13 0), (26, vI r19.2.2), (27, pB b14 0), (28, vI r20.2.2), (29, pB b15 0), (30, vI r21.2.2), (146, .bool (r8.2.2 != r9.2.2))]) (obs := []) trivial hf86 (by kernel_rfl) (by kernel_rfl) .nil fun a87 hf87 => ?_
    rcases Bool.eq_false_or_eq_true (r8.2.2 != r9.2.2) with hb1 | hb1
    · have hr15 := cond_t hb1 hr14
      have hf88 := Fr.conv hf87 (congrArg (fun z => ([(1, pB b1 0), (3, pB b2 0), (5, pB b3 0), (7, pB b4 0), (8, vI r10.2.2), (9, pB b5 0), (10, vI r11.2.2), (11, pB b6 0), (12, vI r12.2.2), (13, pB b7 0), (14, vI r13.2.2), (15, pB b8 0), (16, vI r14.2.2), (17, pB b9 0), (18, vI r15.2.2), (19, pB b10 0), (20, vI r16.2.2), (21, pB b11 0), (22, vI r17.2.2), (23, pB b12 0), (24, vI r18.2.2), (25, pB b13 0), (26, vI r19.2.2), (27, pB b14 0), (28, vI r20.2.2), (29, pB b15 0), (30, vI r21.2.2), (146, .bool z)] : FL)) hb1)
      refine p_run 29 [] [1, 3, 5, 7, 9, 11, 13, 15, 17, 19, 21, 23, 25, 27, 29, 175] (fl' := [(1, pB b1 0), (3, pB b2 0), (5, pB b3 0), (7, pB b4 0), (9, pB b5 0), (11, pB b6 0), (13, pB b7 0), (15, pB b8 0), (17, pB b9 0), (19, pB b10 0), (21, pB b11 0), (23, pB b12 0), (25, pB b13 0), (27, pB b14 0), (29, pB b15 0), (175, .bool true)]) (obs := []) trivial hf88 (by kernel_rfl) (by kernel_rfl) .nil fun a88 hf89 => ?_
      refine p_done (by kernel_rfl) ?_
      refine n_then ?_
      have hf90 := Fr.keep (ks := [1, 3, 5, 7, 9, 11, 13, 15, 17, 19, 21, 23, 25, 27, 29, 175]) (r := [(1, pB b1 0), (3, pB b2 0), (5, pB b3 0), (7, pB b4 0), (9, pB b5 0), (11, pB b6 0), (13, pB b7 0), (15, pB b8 0), (17, pB b9 0), (19, pB b10 0), (21, pB b11 0), (23, pB b12 0), (25, pB b13 0), (27, pB b14 0), (29, pB b15 0), (175, .bool true)]) hf89 (by kernel_rfl)
      exact ⟨z14, true, (Zone.le_refl _), hf90, hS43, hr15⟩
    · have hr16 := cond_f hb1 hr14
      have hf91 := Fr.conv hf87 (congrArg (fun z => ([(1, pB b1 0), (3, pB b2 0), (5, pB b3 0), (7, pB b4 0), (8, vI r10.2.2), (9, pB b5 0), (10, vI r11.2.2), (11, pB b6 0), (12, vI r12.2.2), (13, pB b7 0), (14, vI r13.2.2), (15, pB b8 0), (16, vI r14.2.2), (17, pB b9 0), (18, vI r15.2.2), (19, pB b10 0), (20, vI r16.2.2), (21, pB b11 0), (22, vI r17.2.2), (23, pB b12 0), (24, vI r18.2.2), (25, pB b13 0), (26, vI r19.2.2), (27, pB b14 0), (28, vI r20.2.2), (29, pB b15 0), (30, vI r21.2.2), (146, .bool z)] : FL)) hb1)
      refine p_run 5 [] [1, 3, 5, 7, 9, 11, 12, 13, 14, 15, 16, 17, 18, 19, 20, 21, 22, 23, 24, 25, 26, 27, 28, 29, 30, 151] (fl' := [(1, pB b1 0), (3, pB b2 0), (5, pB b3 0), (7, pB b4 0), (9, pB b5 0), (11, pB b6 0), (12, vI r12.2.2), (13, pB b7 0), (14, vI r13.2.2), (15, pB b8 0), (16, vI r14.2.2), (17, pB b9 0), (18, vI r15.2.2), (19, pB b10 0), (20, vI r16.2.2), (21, pB b11 0), (22, vI r17.2.2), (23, pB b12 0), (24, vI r18.2.2), (25, pB b13 0), (26, vI r19.2.2), (27, pB b14 0), (28, vI r20.2.2), (29, pB b15 0), (30, vI r21.2.2), (151, .bool (r10.2.2 != r11.2.2))]) (obs := []) trivial hf91 (by kernel_rfl) (by kernel_rfl) .nil fun a89 hf92 => ?_
      rcases Bool.eq_false_or_eq_true (r10.2.2 != r11.2.2) with hb2 | hb2
      · have hr17 := cond_t hb2 hr16
        have hf93 := Fr.conv hf92 (congrArg (fun z => ([(1, pB b1 0), (3, pB b2 0), (5, pB b3 0), (7, pB b4 0), (9, pB b5 0), (11, pB b6 0), (12, vI r12.2.2), (13, pB b7 0), (14, vI r13.2.2), (15, pB b8 0), (16, vI r14.2.2), (17, pB b9 0), (18, vI r15.2.2), (19, pB b10 0), (20, vI r16.2.2), (21, pB b11 0), (22, vI r17.2.2), (23, pB b12 0), (24, vI r18.2.2), (25, pB b13 0), (26, vI r19.2.2), (27, pB b14 0), (28, vI r20.2.2), (29, pB b15 0), (30, vI r21.2.2), (151, .bool z)] : FL)) hb2)
        refine p_run 24 [] [1, 3, 5, 7, 9, 11, 13, 15, 17, 19, 21, 23, 25, 27, 29, 175] (fl' := [(1, pB b1 0), (3, pB b2 0), (5, pB b3 0), (7, pB b4 0), (9, pB b5 0), (11, pB b6 0), (13, pB b7 0), (15, pB b8 0), (17, pB b9 0), (19, pB b10 0), (21, pB b11 0), (23, pB b12 0), (25, pB b13 0), (27, pB b14 0), (29, pB b15 0), (175, .bool true)]) (obs := []) trivial hf93 (by kernel_rfl) (by kernel_rfl) .nil fun a90 hf94 => ?_
        refine p_done (by kernel_rfl) ?_
        refine n_then ?_
        have hf95 := Fr.keep (ks := [1, 3, 5, 7, 9, 11, 13, 15, 17, 19, 21, 23, 25, 27, 29, 175]) (r := [(1, pB b1 0), (3, pB b2 0), (5, pB b3 0), (7, pB b4 0), (9, pB b5 0), (11, pB b6 0), (13, pB b7 0), (15, pB b8 0), (17, pB b9 0), (19, pB b10 0), (21, pB b11 0), (23, pB b12 0), (25, pB b13 0), (27, pB b14 0), (29, pB b15 0), (175, .bool true)]) hf94 (by kernel_rfl)
        exact ⟨z14, true, (Zone.le_refl _), hf95, hS43, hr17⟩
      · have hr18 := cond_f hb2 hr16
        have hf96 := Fr.conv hf92 (congrArg (fun z => ([(1, pB b1 0), (3, pB b2 0), (5, pB b3 0), (7, pB b4 0), (9, pB b5 0), (11, pB b6 0), (12, vI r12.2.2), (13, pB b7 0), (14, vI r13.2.2), (15, pB b8 0), (16, vI r14.2.2), (17, pB b9 0), (18, vI r15.2.2), (19, pB b10 0), (20, vI r16.2.2), (21, pB b11 0), (22, vI r17.2.2), (23, pB b12 0), (24, vI r18.2.2), (25, pB b13 0), (26, vI r19.2.2), (27, pB b14 0), (28, vI r20.2.2), (29, pB b15 0), (30, vI r21.2.2), (151, .bool z)] : FL)) hb2)
        refine p_run 5 [] [1, 3, 5, 7, 9, 11, 13, 15, 16, 17, 18, 19, 20, 21, 22, 23, 24, 25, 26, 27, 28, 29, 30, 156] (fl' := [(1, pB b1 0), (3, pB b2 0), (5, pB b3 0), (7, pB b4 0), (9, pB b5 0), (11, pB b6 0), (13, pB b7 0), (15, pB b8 0), (16, vI r14.2.2), (17, pB b9 0), (18, vI r15.2.2), (19, pB b10 0), (20, vI r16.2.2), (21, pB b11 0), (22, vI r17.2.2), (23, pB b12 0), (24, vI r18.2.2), (25, pB b13 0), (26, vI r19.2.2), (27, pB b14 0), (28, vI r20.2.2), (29, pB b15 0), (30, vI r21.2.2), (156, .bool (r12.2.2 != r13.2.2))]) (obs := []) trivial hf96 (by kernel_rfl) (by kernel_rfl) .nil fun a91 hf97 => ?_
        rcases Bool.eq_false_or_eq_true (r12.2.2 != r13.2.2) with hb3 | hb3
        · have hr19 := cond_t hb3 hr18
          have hf98 := Fr.conv hf97 (congrArg (fun z => ([(1, pB b1 0), (3, pB b2 0), (5, pB b3 0), (7, pB b4 0), (9, pB b5 0), (11, pB b6 0), (13, pB b7 0), (15, pB b8 0), (16, vI r14.2.2), (17, pB b9 0), (18, vI r15.2.2), (19, pB b10 0), (20, vI r16.2.2), (21, pB b11 0), (22, vI r17.2.2), (23, pB b12 0), (24, vI r18.2.2), (25, pB b13 0), (26, vI r19.2.2), (27, pB b14 0), (28, vI r20.2.2), (29, pB b15 0), (30, vI r21.2.2), (156, .bool z)] : FL)) hb3)
          refine p_run 19 [] [1, 3, 5, 7, 9, 11, 13, 15, 17, 19, 21, 23, 25, 27, 29, 175] (fl' := [(1, pB b1 0), (3, pB b2 0), (5, pB b3 0), (7, pB b4 0), (9, pB b5 0), (11, pB b6 0), (13, pB b7 0), (15, pB b8 0), (17, pB b9 0), (19, pB b10 0), (21, pB b11 0), (23, pB b12 0), (25, pB b13 0), (27, pB b14 0), (29, pB b15 0), (175, .bool true)]) (obs := []) trivial hf98 (by kernel_rfl) (by kernel_rfl) .nil fun a92 hf99 => ?_
          refine p_done (by kernel_rfl) ?_
          refine n_then ?_
          have hf100 := Fr.keep (ks := [1, 3, 5, 7, 9, 11, 13, 15, 17, 19, 21, 23, 25, 27, 29, 175]) (r := [(1, pB b1 0), (3, pB b2 0), (5, pB b3 0), (7, pB b4 0), (9, pB b5 0), (11, pB b6 0), (13, pB b7 0), (15, pB b8 0), (17, pB b9 0), (19, pB b10 0), (21, pB b11 0), (23, pB b12 0), (25, pB b13 0), (27, pB b14 0), (29, pB b15 0), (175, .bool true)]) hf99 (by kernel_rfl)
          exact ⟨z14, true, (Zone.le_refl _), hf100, hS43, hr19⟩
        · have hr20 := cond_f hb3 hr18
          have hf101 := Fr.conv hf97 (congrArg (fun z => ([(1, pB b1 0), (3, pB b2 0), (5, pB b3 0), (7, pB b4 0), (9, pB b5 0), (11, pB b6 0), (13, pB b7 0), (15, pB b8 0), (16, vI r14.2.2), (17, pB b9 0), (18, vI r15.2.2), (19, pB b10 0), (20, vI r16.2.2), (21, pB b11 0), (22, vI r17.2.2), (23, pB b12 0), (24, vI r18.2.2), (25, pB b13 0), (26, vI r19.2.2), (27, pB b14 0), (28, vI r20.2.2), (29, pB b15 0), (30, vI r21.2.2), (156, .bool z)] : FL)) hb3)
          refine p_run 5 [] [1, 3, 5, 7, 9, 11, 13, 15, 17, 19, 20, 21, 22, 23, 24, 25, 26, 27, 28, 29, 30, 161] (fl' := [(1, pB b1 0), (3, pB b2 0), (5, pB b3 0), (7, pB b4 0), (9, pB b5 0), (11, pB b6 0), (13, pB b7 0), (15, pB b8 0), (17, pB b9 0), (19, pB b10 0), (20, vI r16.2.2), (21, pB b11 0), (22, vI r17.2.2), (23, pB b12 0), (24, vI r18.2.2), (25, pB b13 0), (26, vI r19.2.2), (27, pB b14 0), (28, vI r20.2.2), (29, pB b15 0), (30, vI r21.2.2), (161, .bool (r14.2.2 != r15.2.2))]) (obs := []) trivial hf101 (by kernel_rfl) (by kernel_rfl) .nil fun a93 hf102 => ?_
          rcases Bool.eq_false_or_eq_true (r14.2.2 != r15.2.2) with hb4 | hb4
          · have hr21 := cond_t hb4 hr20
            have hf103 := Fr.conv hf102 (congrArg (fun z => ([(1, pB b1 0), (3, pB b2 0), (5, pB b3 0), (7, pB b4 0), (9, pB b5 0), (11, pB b6 0), (13, pB b7 0), (15, pB b8 0), (17, pB b9 0), (19, pB b10 0), (20, vI r16.2.2), (21, pB b11 0), (22, vI r17.2.2), (23, pB b12 0), (24, vI r18.2.2), (25, pB b13 0), (26, vI r19.2.2), (27, pB b14 0), (28, vI r20.2.2), (29, pB b15 0), (30, vI r21.2.2), (161, .bool z)] : FL)) hb4)
            refine p_run 14 [] [1, 3, 5, 7, 9, 11, 13, 15, 17, 19, 21, 23, 25, 27, 29, 175] (fl' := [(1, pB b1 0), (3, pB b2 0), (5, pB b3 0), (7, pB b4 0), (9, pB b5 0), (11, pB b6 0), (13, pB b7 0), (15, pB b8 0), (17, pB b9 0), (19, pB b10 0), (21, pB b11 0), (23, pB b12 0), (25, pB b13 0), (27, pB b14 0), (29, pB b15 0), (175, .bool true)]) (obs := []) trivial hf103 (by kernel_rfl) (by kernel_rfl) .nil fun a94 hf104 => ?_
            refine p_done (by kernel_rfl) ?_
            refine n_then ?_
            have hf105 := Fr.keep (ks := [1, 3, 5, 7, 9, 11, 13, 15, 17, 19, 21, 23, 25, 27, 29, 175]) (r := [(1, pB b1 0), (3, pB b2 0), (5, pB b3 0), (7, pB b4 0), (9, pB b5 0), (11, pB b6 0), (13, pB b7 0), (15, pB b8 0), (17, pB b9 0), (19, pB b10 0), (21, pB b11 0), (23, pB b12 0), (25, pB b13 0), (27, pB b14 0), (29, pB b15 0), (175, .bool true)]) hf104 (by kernel_rfl)
            exact ⟨z14, true, (Zone.le_refl _), hf105, hS43, hr21⟩
          · have hr22 := cond_f hb4 hr20
            have hf106 := Fr.conv hf102 (congrArg (fun z => ([(1, pB b1 0), (3, pB b2 0), (5, pB b3 0), (7, pB b4 0), (9, pB b5 0), (11, pB b6 0), (13, pB b7 0), (15, pB b8 0), (17, pB b9 0), (19, pB b10 0), (20, vI r16.2.2), (21, pB b11 0), (22, vI r17.2.2), (23, pB b12 0), (24, vI r18.2.2), (25, pB b13 0), (26, vI r19.2.2), (27, pB b14 0), (28, vI r20.2.2), (29, pB b15 0), (30, vI r21.2.2), (161, .bool z)] : FL)) hb4)
            refine p_run 5 [] [1, 3, 5, 7, 9, 11, 13, 15, 17, 19, 21, 23, 24, 25, 26, 27, 28, 29, 30, 166] (fl' := [(1, pB b1 0), (3, pB b2 0), (5, pB b3 0), (7, pB b4 0), (9, pB b5 0), (11, pB b6 0), (13, pB b7 0), (15, pB b8 0), (17, pB b9 0), (19, pB b10 0), (21, pB b11 0), (23, pB b12 0), (24, vI r18.2.2), (25, pB b13 0), (26, vI r19.2.2), (27, pB b14 0), (28, vI r20.2.2), (29, pB b15 0), (30, vI r21.2.2), (166, .bool (r16.2.2 != r17.2.2))]) (obs := []) trivial hf106 (by kernel_rfl) (by kernel_rfl) .nil fun a95 hf107 => ?_
            rcases Bool.eq_false_or_eq_true (r16.2.2 != r17.2.2) with hb5 | hb5
            · have hr23 := cond_t hb5 hr22
              have hf108 := Fr.conv hf107 (congrArg (fun z => ([(1, pB b1 0), (3, pB b2 0), (5, pB b3 0), (7, pB b4 0), (9, pB b5 0), (11, pB b6 0), (13, pB b7 0), (15, pB b8 0), (17, pB b9 0), (19, pB b10 0), (21, pB b11 0), (23, pB b12 0), (24, vI r18.2.2), (25, pB b13 0), (26, vI r19.2.2), (27, pB b14 0), (28, vI r20.2.2), (29, pB b15 0), (30, vI r21.2.2), (166, .bool z)] : FL)) hb5)
              refine p_run 9 [] [1, 3, 5, 7, 9, 11, 13, 15, 17, 19, 21, 23, 25, 27, 29, 175] (fl' := [(1, pB b1 0), (3, pB b2 0), (5, pB b3 0), (7, pB b4 0), (9, pB b5 0), (11, pB b6 0), (13, pB b7 0), (15, pB b8 0), (17, pB b9 0), (19, pB b10 0), (21, pB b11 0), (23, pB b12 0), (25, pB b13 0), (27, pB b14 0), (29, pB b15 0), (175, .bool true)]) (obs := []) trivial hf108 (by kernel_rfl) (by kernel_rfl) .nil fun a96 hf109 => ?_
              refine p_done (by kernel_rfl) ?_
              refine n_then ?_
              have hf110 := Fr.keep (ks := [1, 3, 5, 7, 9, 11, 13, 15, 17, 19, 21, 23, 25, 27, 29, 175]) (r := [(1, pB b1 0), (3, pB b2 0), (5, pB b3 0), (7, pB b4 0), (9, pB b5 0), (11, pB b6 0), (13, pB b7 0), (15, pB b8 0), (17, pB b9 0), (19, pB b10 0), (21, pB b11 0), (23, pB b12 0), (25, pB b13 0), (27, pB b14 0), (29, pB b15 0), (175, .bool true)]) hf109 (by kernel_rfl)
              exact ⟨z14, true, (Zone.le_refl _), hf110, hS43, hr23⟩
            · have hr24 := cond_f hb5 hr22
              have hf111 := Fr.conv hf107 (congrArg (fun z => ([(1, pB b1 0), (3, pB b2 0), (5, pB b3 0), (7, pB b4 0), (9, pB b5 0), (11, pB b6 0), (13, pB b7 0), (15, pB b8 0), (17, pB b9 0), (19, pB b10 0), (21, pB b11 0), (23, pB b12 0), (24, vI r18.2.2), (25, pB b13 0), (26, vI r19.2.2), (27, pB b14 0), (28, vI r20.2.2), (29, pB b15 0), (30, vI r21.2.2), (166, .bool z)] : FL)) hb5)
              refine p_run 5 [] [1, 3, 5, 7, 9, 11, 13, 15, 17, 19, 21, 23, 25, 27, 28, 29, 30, 171] (fl' := [(1, pB b1 0), (3, pB b2 0), (5, pB b3 0), (7, pB b4 0), (9, pB b5 0), (11, pB b6 0), (13, pB b7 0), (15, pB b8 0), (17, pB b9 0), (19, pB b10 0), (21, pB b11 0), (23, pB b12 0), (25, pB b13 0), (27, pB b14 0), (28, vI r20.2.2), (29, pB b15 0), (30, vI r21.2.2), (171, .bool (r18.2.2 != r19.2.2))]) (obs := []) trivial hf111 (by kernel_rfl) (by kernel_rfl) .nil fun a97 hf112 => ?_
              rcases Bool.eq_false_or_eq_true (r18.2.2 != r19.2.2) with hb6 | hb6
              · have hr25 := cond_t hb6 hr24
                have hf113 := Fr.conv hf112 (congrArg (fun z => ([(1, pB b1 0), (3, pB b2 0), (5, pB b3 0), (7, pB b4 0), (9, pB b5 0), (11, pB b6 0), (13, pB b7 0), (15, pB b8 0), (17, pB b9 0), (19, pB b10 0), (21, pB b11 0), (23, pB b12 0), (25, pB b13 0), (27, pB b14 0), (28, vI r20.2.2), (29, pB b15 0), (30, vI r21.2.2), (171, .bool z)] : FL)) hb6)
                refine p_run 4 [] [1, 3, 5, 7, 9, 11, 13, 15, 17, 19, 21, 23, 25, 27, 29, 175] (fl' := [(1, pB b1 0), (3, pB b2 0), (5, pB b3 0), (7, pB b4 0), (9, pB b5 0), (11, pB b6 0), (13, pB b7 0), (15, pB b8 0), (17, pB b9 0), (19, pB b10 0), (21, pB b11 0), (23, pB b12 0), (25, pB b13 0), (27, pB b14 0), (29, pB b15 0), (175, .bool true)]) (obs := []) trivial hf113 (by kernel_rfl) (by kernel_rfl) .nil fun a98 hf114 => ?_
                refine p_done (by kernel_rfl) ?_
                refine n_then ?_
                have hf115 := Fr.keep (ks := [1, 3, 5, 7, 9, 11, 13, 15, 17, 19, 21, 23, 25, 27, 29, 175]) (r := [(1, pB b1 0), (3, pB b2 0), (5, pB b3 0), (7, pB b4 0), (9, pB b5 0), (11, pB b6 0), (13, pB b7 0), (15, pB b8 0), (17, pB b9 0), (19, pB b10 0), (21, pB b11 0), (23, pB b12 0), (25, pB b13 0), (27, pB b14 0), (29, pB b15 0), (175, .bool true)]) hf114 (by kernel_rfl)
                exact ⟨z14, true, (Zone.le_refl _), hf115, hS43, hr25⟩
              · have hr26 := cond_f hb6 hr24
                have hf116 := Fr.conv hf112 (congrArg (fun z => ([(1, pB b1 0), (3, pB b2 0), (5, pB b3 0), (7, pB b4 0), (9, pB b5 0), (11, pB b6 0), (13, pB b7 0), (15, pB b8 0), (17, pB b9 0), (19, pB b10 0), (21, pB b11 0), (23, pB b12 0), (25, pB b13 0), (27, pB b14 0), (28, vI r20.2.2), (29, pB b15 0), (30, vI r21.2.2), (171, .bool z)] : FL)) hb6)
                refine p_run 4 [] [1, 3, 5, 7, 9, 11, 13, 15, 17, 19, 21, 23, 25, 27, 29, 175] (fl' := [(1, pB b1 0), (3, pB b2 0), (5, pB b3 0), (7, pB b4 0), (9, pB b5 0), (11, pB b6 0), (13, pB b7 0), (15, pB b8 0), (17, pB b9 0), (19, pB b10 0), (21, pB b11 0), (23, pB b12 0), (25, pB b13 0), (27, pB b14 0), (29, pB b15 0), (175, .bool (r20.2.2 != r21.2.2))]) (obs := []) trivial hf116 (by kernel_rfl) (by kernel_rfl) .nil fun a99 hf117 => ?_
                refine p_done (by kernel_rfl) ?_
                refine n_then ?_
                have hf118 := Fr.keep (ks := [1, 3, 5, 7, 9, 11, 13, 15, 17, 19, 21, 23, 25, 27, 29, 175]) (r := [(1, pB b1 0), (3, pB b2 0), (5, pB b3 0), (7, pB b4 0), (9, pB b5 0), (11, pB b6 0), (13, pB b7 0), (15, pB b8 0), (17, pB b9 0), (19, pB b10 0), (21, pB b11 0), (23, pB b12 0), (25, pB b13 0), (27, pB b14 0), (29, pB b15 0), (175, .bool (r20.2.2 != r21.2.2))]) hf117 (by kernel_rfl)
                exact ⟨z14, (r20.2.2 != r21.2.2), (Zone.le_refl _), hf118, hS43, hr26⟩
  · rintro a100 ww44 ⟨z15, y3, k15, hf119, hS44, hr27⟩
    refine w_if hf119 (b := y3) (by kernel_rfl) (fun hb7 => ?_) (fun hb7 => ?_)
    · have hr28 := cond_t hb7 hr27
      refine w_seq (by kernel_rfl) ?_
      refine w_reg (by kernel_rfl) ?_
      refine p_run 1 [] [2] (fl' := [(2, .bool false)]) (obs := []) trivial hf119 (by kernel_rfl) (by kernel_rfl) .nil fun a101 hf120 => ?_
      refine p_done (by kernel_rfl) ?_
      refine n_then ?_
      refine w_ret (by kernel_rfl) ?_
      refine r_then ?_
      refine p_ret (os := []) (v := .bool false) (obs := []) hf120 (by kernel_rfl) .nil ?_
      obtain rfl := some_eq hr28
      exact ⟨_, rfl, z15, (Zone.le_trans (Zone.le_trans (Zone.le_trans (Zone.le_trans (Zone.le_trans (Zone.le_trans (Zone.le_trans (Zone.le_trans (Zone.le_trans (Zone.le_trans (Zone.le_trans (Zone.le_trans (Zone.le_trans (Zone.le_trans k1 k2) k3) k4) k5) k6) k7) k8) k9) k10) k11) k12) k13) k14) k15), rfl, (St.drop 15 hS44)⟩
    · have hr29 := cond_f hb7 hr27
      refine w_skip (by kernel_rfl) ?_
      refine n_then ?_
      refine w_seq (by kernel_rfl) ?_
      refine w_mid (by kernel_rfl) (fun a w => ∃ z16 : Zone, ∃ y2 : Bool, Zone.le z15 z16 ∧ Fr a 245 [(1, pB b1 0), (208, .bool y2)] ∧ St z16 (box b15 [vI r21.1, vI r21.2.1] 41 :: box b14 [vI r20.1, vI r20.2.1] 41 :: box b13 [vI r19.1, vI r19.2.1] 41 :: box b12 [vI r18.1, vI r18.2.1] 41 :: box b11 [vI r17.1, vI r17.2.1] 41 :: box b10 [vI r16.1, vI r16.2.1] 41 :: box b9 [vI r15.1, vI r15.2.1] 41 :: box b8 [vI r14.1, vI r14.2.1] 41 :: box b7 [vI r13.1, vI r13.2.1] 41 :: box b6 [vI r12.1, vI r12.2.1] 41 :: box b5 [vI r11.1, vI r11.2.1] 41 :: box b4 [vI r10.1, vI r10.2.1] 41 :: box b3 [vI r9.1, vI r9.2.1] 41 :: box b2 [vI r8.1, vI r8.2.1] 41 :: box b1 [vI x0_a_lo, vI x0_a_hi, vI x0_b_lo, vI x0_b_hi, vI x0_n, vI x0_d] 72 :: L) w ∧ (F8_j2 fuel x0_a_lo x0_a_hi x0_b_lo x0_b_hi x0_n y2) = some r) ?_ ?_
      · skip
        refine w_reg (by kernel_rfl) ?_
        refine p_run 4 [vI r8.1, vI r8.2.1, vI r9.1, vI r9.2.1] [1, 7, 9, 11, 13, 15, 17, 19, 21, 23, 25, 27, 29, 179] (fl' := [(1, pB b1 0), (7, pB b4 0), (9, pB b5 0), (11, pB b6 0), (13, pB b7 0), (15, pB b8 0), (17, pB b9 0), (19, pB b10 0), (21, pB b11 0), (23, pB b12 0), (25, pB b13 0), (27, pB b14 0), (29, pB b15 0), (179, .bool (!((r8.1 == r9.1) && ((r8.2.1 == r9.2.1) && true))))]) (obs := [.cell ⟨b2, 0, none⟩ (vI r8.1), .cell ⟨b2, 1, none⟩ (vI r8.2.1), .cell ⟨b3, 0, none⟩ (vI r9.1), .cell ⟨b3, 1, none⟩ (vI r9.2.1)]) trivial hf119 (by kernel_rfl) (by kernel_rfl) (.cell (hS44.box (i := 13) rfl (j := 0) rfl) (.cell (hS44.box (i := 13) rfl (j := 1) rfl) (.cell (hS44.box (i := 12) rfl (j := 0) rfl) (.cell (hS44.box (i := 12) rfl (j := 1) rfl) .nil)))) fun a102 hf121 => ?_
        rcases Bool.eq_false_or_eq_true (!((r8.1 == r9.1) && ((r8.2.1 == r9.2.1) && true))) with hb8 | hb8
        · have hr30 := cond_t hb8 hr29
          have hf122 := Fr.conv hf121 (congrArg (fun z => ([(1, pB b1 0), (7, pB b4 0), (9, pB b5 0), (11, pB b6 0), (13, pB b7 0), (15, pB b8 0), (17, pB b9 0), (19, pB b10 0), (21, pB b11 0), (23, pB b12 0), (25, pB b13 0), (27, pB b14 0), (29, pB b15 0), (179, .bool z)] : FL)) hb8)
          refine p_run 29 [] [1, 208] (fl' := [(1, pB b1 0), (208, .bool true)]) (obs := []) trivial hf122 (by kernel_rfl) (by kernel_rfl) .nil fun a103 hf123 => ?_
          refine p_done (by kernel_rfl) ?_
          refine n_then ?_
          have hf124 := Fr.keep (ks := [1, 208]) (r := [(1, pB b1 0), (208, .bool true)]) hf123 (by kernel_rfl)
          exact ⟨z15, true, (Zone.le_refl _), hf124, hS44, hr30⟩
        · have hr31 := cond_f hb8 hr29
          have hf125 := Fr.conv hf121 (congrArg (fun z => ([(1, pB b1 0), (7, pB b4 0), (9, pB b5 0), (11, pB b6 0), (13, pB b7 0), (15, pB b8 0), (17, pB b9 0), (19, pB b10 0), (21, pB b11 0), (23, pB b12 0), (25, pB b13 0), (27, pB b14 0), (29, pB b15 0), (179, .bool z)] : FL)) hb8)
          refine p_run 5 [vI r10.1, vI r10.2.1, vI r11.1, vI r11.2.1] [1, 11, 13, 15, 17, 19, 21, 23, 25, 27, 29, 184] (fl' := [(1, pB b1 0), (11, pB b6 0), (13, pB b7 0), (15, pB b8 0), (17, pB b9 0), (19, pB b10 0), (21, pB b11 0), (23, pB b12 0), (25, pB b13 0), (27, pB b14 0), (29, pB b15 0), (184, .bool (!((r10.1 == r11.1) && ((r10.2.1 == r11.2.1) && true))))]) (obs := [.cell ⟨b4, 0, none⟩ (vI r10.1), .cell ⟨b4, 1, none⟩ (vI r10.2.1), .cell ⟨b5, 0, none⟩ (vI r11.1), .cell ⟨b5, 1, none⟩ (vI r11.2.1)]) trivial hf125 (by kernel_rfl) (by kernel_rfl) (.cell (hS44.box (i := 11) rfl (j := 0) rfl) (.cell (hS44.box (i := 11) rfl (j := 1) rfl) (.cell (hS44.box (i := 10) rfl (j := 0) rfl) (.cell (hS44.box (i := 10) rfl (j := 1) rfl) .nil)))) fun a104 hf126 => ?_
          rcases Bool.eq_false_or_eq_true (!((r10.1 == r11.1) && ((r10.2.1 == r11.2.1) && true))) with hb9 | hb9
          · have hr32 := cond_t hb9 hr31
            have hf127 := Fr.conv hf126 (congrArg (fun z => ([(1, pB b1 0), (11, pB b6 0), (13, pB b7 0), (15, pB b8 0), (17, pB b9 0), (19, pB b10 0), (21, pB b11 0), (23, pB b12 0), (25, pB b13 0), (27, pB b14 0), (29, pB b15 0), (184, .bool z)] : FL)) hb9)
            refine p_run 24 [] [1, 208] (fl' := [(1, pB b1 0), (208, .bool true)]) (obs := []) trivial hf127 (by kernel_rfl) (by kernel_rfl) .nil fun a105 hf128 => ?_
            refine p_done (by kernel_rfl) ?_
            refine n_then ?_
            have hf129 := Fr.keep (ks := [1, 208]) (r := [(1, pB b1 0), (208, .bool true)]) hf128 (by kernel_rfl)
            exact ⟨z15, true, (Zone.le_refl _), hf129, hS44, hr32⟩
          · have hr33 := cond_f hb9 hr31
            have hf130 := Fr.conv hf126 (congrArg (fun z => ([(1, pB b1 0), (11, pB b6 0), (13, pB b7 0), (15, pB b8 0), (17, pB b9 0), (19, pB b10 0), (21, pB b11 0), (23, pB b12 0), (25, pB b13 0), (27, pB b14 0), (29, pB b15 0), (184, .bool z)] : FL)) hb9)
            refine p_run 5 [vI r12.1, vI r12.2.1, vI r13.1, vI r13.2.1] [1, 15, 17, 19, 21, 23, 25, 27, 29, 189] (fl' := [(1, pB b1 0), (15, pB b8 0), (17, pB b9 0), (19, pB b10 0), (21, pB b11 0), (23, pB b12 0), (25, pB b13 0), (27, pB b14 0), (29, pB b15 0), (189, .bool (!((r12.1 == r13.1) && ((r12.2.1 == r13.2.1) && true))))]) (obs := [.cell ⟨b6, 0, none⟩ (vI r12.1), .cell ⟨b6, 1, none⟩ (vI r12.2.1), .cell ⟨b7, 0, none⟩ (vI r13.1), .cell ⟨b7, 1, none⟩ (vI r13.2.1)]) trivial hf130 (by kernel_rfl) (by kernel_rfl) (.cell (hS44.box (i := 9) rfl (j := 0) rfl) (.cell (hS44.box (i := 9) rfl (j := 1) rfl) (.cell (hS44.box (i := 8) rfl (j := 0) rfl) (.cell (hS44.box (i := 8) rfl (j := 1) rfl) .nil)))) fun a106 hf131 => ?_
            rcases Bool.eq_false_or_eq_true (!((r12.1 == r13.1) && ((r12.2.1 == r13.2.1) && true))) with hb10 | hb10
            · have hr34 := cond_t hb10 hr33
              have hf132 := Fr.conv hf131 (congrArg (fun z => ([(1, pB b1 0), (15, pB b8 0), (17, pB b9 0), (19, pB b10 0), (21, pB b11 0), (23, pB b12 0), (25, pB b13 0), (27, pB b14 0), (29, pB b15 0), (189, .bool z)] : FL)) hb10)
              refine p_run 19 [] [1, 208] (fl' := [(1, pB b1 0), (208, .bool true)]) (obs := []) trivial hf132 (by kernel_rfl) (by kernel_rfl) .nil fun a107 hf133 => ?_
              refine p_done (by kernel_rfl) ?_
              refine n_then ?_
              have hf134 := Fr.keep (ks := [1, 208]) (r := [(1, pB b1 0), (208, .bool true)]) hf133 (by kernel_rfl)
              exact ⟨z15, true, (Zone.le_refl _), hf134, hS44, hr34⟩
            · have hr35 := cond_f hb10 hr33
              have hf135 := Fr.conv hf131 (congrArg (fun z => ([(1, pB b1 0), (15, pB b8 0), (17, pB b9 0), (19, pB b10 0), (21, pB b11 0), (23, pB b12 0), (25, pB b13 0), (27, pB b14 0), (29, pB b15 0), (189, .bool z)] : FL)) hb10)
              refine p_run 5 [vI r14.1, vI r14.2.1, vI r15.1, vI r15.2.1] [1, 19, 21, 23, 25, 27, 29, 194] (fl' := [(1, pB b1 0), (19, pB b10 0), (21, pB b11 0), (23, pB b12 0), (25, pB b13 0), (27, pB b14 0), (29, pB b15 0), (194, .bool (!((r14.1 == r15.1) && ((r14.2.1 == r15.2.1) && true))))]) (obs := [.cell ⟨b8, 0, none⟩ (vI r14.1), .cell ⟨b8, 1, none⟩ (vI r14.2.1), .cell ⟨b9, 0, none⟩ (vI r15.1), .cell ⟨b9, 1, none⟩ (vI r15.2.1)]) trivial hf135 (by kernel_rfl) (by kernel_rfl) (.cell (hS44.box (i := 7) rfl (j := 0) rfl) (.cell (hS44.box (i := 7) rfl (j := 1) rfl) (.cell (hS44.box (i := 6) rfl (j := 0) rfl) (.cell (hS44.box (i := 6) rfl (j := 1) rfl) .nil)))) fun a108 hf136 => ?_
              rcases Bool.eq_false_or_eq_true (!((r14.1 == r15.1) && ((r14.2.1 == r15.2.1) && true))) with hb11 | hb11
              · have hr36 := cond_t hb11 hr35
                have hf137 := Fr.conv hf136 (congrArg (fun z => ([(1, pB b1 0), (19, pB b10 0), (21, pB b11 0), (23, pB b12 0), (25, pB b13 0), (27, pB b14 0), (29, pB b15 0), (194, .bool z)] : FL)) hb11)
                refine p_run 14 [] [1, 208] (fl' := [(1, pB b1 0), (208, .bool true)]) (obs := []) trivial hf137 (by kernel_rfl) (by kernel_rfl) .nil fun a109 hf138 => ?_
                refine p_done (by kernel_rfl) ?_
                refine n_then ?_
                have hf139 := Fr.keep (ks := [1, 208]) (r := [(1, pB b1 0), (208, .bool true)]) hf138 (by kernel_rfl)
                exact ⟨z15, true, (Zone.le_refl _), hf139, hS44, hr36⟩
              · have hr37 := cond_f hb11 hr35
                have hf140 := Fr.conv hf136 (congrArg (fun z => ([(1, pB b1 0), (19, pB b10 0), (21, pB b11 0), (23, pB b12 0), (25, pB b13 0), (27, pB b14 0), (29, pB b15 0), (194, .bool z)] : FL)) hb11)
                refine p_run 5 [vI r16.1, vI r16.2.1, vI r17.1, vI r17.2.1] [1, 23, 25, 27, 29, 199] (fl' := [(1, pB b1 0), (23, pB b12 0), (25, pB b13 0), (27, pB b14 0), (29, pB b15 0), (199, .bool (!((r16.1 == r17.1) && ((r16.2.1 == r17.2.1) && true))))]) (obs := [.cell ⟨b10, 0, none⟩ (vI r16.1), .cell ⟨b10, 1, none⟩ (vI r16.2.1), .cell ⟨b11, 0, none⟩ (vI r17.1), .cell ⟨b11, 1, none⟩ (vI r17.2.1)]) trivial hf140 (by kernel_rfl) (by kernel_rfl) (.cell (hS44.box (i := 5) rfl (j := 0) rfl) (.cell (hS44.box (i := 5) rfl (j := 1) rfl) (.cell (hS44.box (i := 4) rfl (j := 0) rfl) (.cell (hS44.box (i := 4) rfl (j := 1) rfl) .nil)))) fun a110 hf141 => ?_
                rcases Bool.eq_false_or_eq_true (!((r16.1 == r17.1) && ((r16.2.1 == r17.2.1) && true))) with hb12 | hb12
                · have hr38 := cond_t hb12 hr37
                  have hf142 := Fr.conv hf141 (congrArg (fun z => ([(1, pB b1 0), (23, pB b12 0), (25, pB b13 0), (27, pB b14 0), (29, pB b15 0), (199, .bool z)] : FL)) hb12)
                  refine p_run 9 [] [1, 208] (fl' := [(1, pB b1 0), (208, .bool true)]) (obs := []) trivial hf142 (by kernel_rfl) (by kernel_rfl) .nil fun a111 hf143 => ?_
                  refine p_done (by kernel_rfl) ?_
                  refine n_then ?_
                  have hf144 := Fr.keep (ks := [1, 208]) (r := [(1, pB b1 0), (208, .bool true)]) hf143 (by kernel_rfl)
                  exact ⟨z15, true, (Zone.le_refl _), hf144, hS44, hr38⟩
                · have hr39 := cond_f hb12 hr37
                  have hf145 := Fr.conv hf141 (congrArg (fun z => ([(1, pB b1 0), (23, pB b12 0), (25, pB b13 0), (27, pB b14 0), (29, pB b15 0), (199, .bool z)] : FL)) hb12)
                  refine p_run 5 [vI r18.1, vI r18.2.1, vI r19.1, vI r19.2.1] [1, 27, 29, 204] (fl' := [(1, pB b1 0), (27, pB b14 0), (29, pB b15 0), (204, .bool (!((r18.1 == r19.1) && ((r18.2.1 == r19.2.1) && true))))]) (obs := [.cell ⟨b12, 0, none⟩ (vI r18.1), .cell ⟨b12, 1, none⟩ (vI r18.2.1), .cell ⟨b13, 0, none⟩ (vI r19.1), .cell ⟨b13, 1, none⟩ (vI r19.2.1)]) trivial hf145 (by kernel_rfl) (by kernel_rfl) (.cell (hS44.box (i := 3) rfl (j := 0) rfl) (.cell (hS44.box (i := 3) rfl (j := 1) rfl) (.cell (hS44.box (i := 2) rfl (j := 0) rfl) (.cell (hS44.box (i := 2) rfl (j := 1) rfl) .nil)))) fun a112 hf146 => ?_
                  rcases Bool.eq_false_or_eq_true (!((r18.1 == r19.1) && ((r18.2.1 == r19.2.1) && true))) with hb13 | hb13
                  · have hr40 := cond_t hb13 hr39
                    have hf147 := Fr.conv hf146 (congrArg (fun z => ([(1, pB b1 0), (27, pB b14 0), (29, pB b15 0), (204, .bool z)] : FL)) hb13)
                    refine p_run 4 [] [1, 208] (fl' := [(1, pB b1 0), (208, .bool true)]) (obs := []) trivial hf147 (by kernel_rfl) (by kernel_rfl) .nil fun a113 hf148 => ?_
                    refine p_done (by kernel_rfl) ?_
                    refine n_then ?_
                    have hf149 := Fr.keep (ks := [1, 208]) (r := [(1, pB b1 0), (208, .bool true)]) hf148 (by kernel_rfl)
                    exact ⟨z15, true, (Zone.le_refl _), hf149, hS44, hr40⟩
                  · have hr41 := cond_f hb13 hr39
                    have hf150 := Fr.conv hf146 (congrArg (fun z => ([(1, pB b1 0), (27, pB b14 0), (29, pB b15 0), (204, .bool z)] : FL)) hb13)
                    refine p_run 4 [vI r20.1, vI r20.2.1, vI r21.1, vI r21.2.1] [1, 208] (fl' := [(1, pB b1 0), (208, .bool (!((r20.1 == r21.1) && ((r20.2.1 == r21.2.1) && true))))]) (obs := [.cell ⟨b14, 0, none⟩ (vI r20.1), .cell ⟨b14, 1, none⟩ (vI r20.2.1), .cell ⟨b15, 0, none⟩ (vI r21.1), .cell ⟨b15, 1, none⟩ (vI r21.2.1)]) trivial hf150 (by kernel_rfl) (by kernel_rfl) (.cell (hS44.box (i := 1) rfl (j := 0) rfl) (.cell (hS44.box (i := 1) rfl (j := 1) rfl) (.cell (hS44.box (i := 0) rfl (j := 0) rfl) (.cell (hS44.box (i := 0) rfl (j := 1) rfl) .nil)))) fun a114 hf151 => ?_
                    refine p_done (by kernel_rfl) ?_
                    refine n_then ?_
                    have hf152 := Fr.keep (ks := [1, 208]) (r := [(1, pB b1 0), (208, .bool (!((r20.1 == r21.1) && ((r20.2.1 == r21.2.1) && true))))]) hf151 (by kernel_rfl)
                    exact ⟨z15, (!((r20.1 == r21.1) && ((r20.2.1 == r21.2.1) && true))), (Zone.le_refl _), hf152, hS44, hr41⟩
      · rintro a115 ww45 ⟨z16, y2, k16, hf153, hS45, hr42⟩
        refine w_if hf153 (b := y2) (by kernel_rfl) (fun hb14 => ?_) (fun hb14 => ?_)
        · have hr43 := cond_t hb14 hr42
          refine w_seq (by kernel_rfl) ?_
          refine w_reg (by kernel_rfl) ?_
          refine p_run 1 [] [2] (fl' := [(2, .bool false)]) (obs := []) trivial hf153 (by kernel_rfl) (by kernel_rfl) .nil fun a116 hf154 => ?_
          refine p_done (by kernel_rfl) ?_
          refine n_then ?_
          refine w_ret (by kernel_rfl) ?_
          refine r_then ?_
          refine p_ret (os := []) (v := .bool false) (obs := []) hf154 (by kernel_rfl) .nil ?_
          obtain rfl := some_eq hr43
          exact ⟨_, rfl, z16, (Zone.le_trans (Zone.le_trans (Zone.le_trans (Zone.le_trans (Zone.le_trans (Zone.le_trans (Zone.le_trans (Zone.le_trans (Zone.le_trans (Zone.le_trans (Zone.le_trans (Zone.le_trans (Zone.le_trans (Zone.le_trans (Zone.le_trans k1 k2) k3) k4) k5) k6) k7) k8) k9) k10) k11) k12) k13) k14) k15) k16), rfl, (St.drop 15 hS45)⟩
        · have hr44 := cond_f hb14 hr42
          refine w_skip (by kernel_rfl) ?_
          refine n_then ?_
          refine w_mid (by kernel_rfl) (fun a w => ∃ z17 : Zone, ∃ y1 : Bool, Zone.le z16 z17 ∧ Fr a 245 [(2, .bool y1)] ∧ St z17 (box b15 [vI r21.1, vI r21.2.1] 41 :: box b14 [vI r20.1, vI r20.2.1] 41 :: box b13 [vI r19.1, vI r19.2.1] 41 :: box b12 [vI r18.1, vI r18.2.1] 41 :: box b11 [vI r17.1, vI r17.2.1] 41 :: box b10 [vI r16.1, vI r16.2.1] 41 :: box b9 [vI r15.1, vI r15.2.1] 41 :: box b8 [vI r14.1, vI r14.2.1] 41 :: box b7 [vI r13.1, vI r13.2.1] 41 :: box b6 [vI r12.1, vI r12.2.1] 41 :: box b5 [vI r11.1, vI r11.2.1] 41 :: box b4 [vI r10.1, vI r10.2.1] 41 :: box b3 [vI r9.1, vI r9.2.1] 41 :: box b2 [vI r8.1, vI r8.2.1] 41 :: box b1 [vI x0_a_lo, vI x0_a_hi, vI x0_b_lo, vI x0_b_hi, vI x0_n, vI x0_d] 72 :: L) w ∧ (F8_j3 y1) = some r) ?_ ?_
          · skip
            have hS46 := hS45.drew
            have s1 : Sub z16 (box b15 [vI r21.1, vI r21.2.1] 41 :: box b14 [vI r20.1, vI r20.2.1] 41 :: box b13 [vI r19.1, vI r19.2.1] 41 :: box b12 [vI r18.1, vI r18.2.1] 41 :: box b11 [vI r17.1, vI r17.2.1] 41 :: box b10 [vI r16.1, vI r16.2.1] 41 :: box b9 [vI r15.1, vI r15.2.1] 41 :: box b8 [vI r14.1, vI r14.2.1] 41 :: box b7 [vI r13.1, vI r13.2.1] 41 :: box b6 [vI r12.1, vI r12.2.1] 41 :: box b5 [vI r11.1, vI r11.2.1] 41 :: box b4 [vI r10.1, vI r10.2.1] 41 :: box b3 [vI r9.1, vI r9.2.1] 41 :: box b2 [vI r8.1, vI r8.2.1] 41 :: box b1 [vI x0_a_lo, vI x0_a_hi, vI x0_b_lo, vI x0_b_hi, vI x0_n, vI x0_d] 72 :: L) _ := Sub.of (Zone.le_refl _) hS46
            refine w_regD (by kernel_rfl) [(0, true), (1, true), (3, true), (4, true), (2, false), (5, false), (6, true), (7, true), (8, true), (9, true), (10, true), (11, true), (13, true), (14, true), (15, true), (16, true), (12, false), (17, false), (18, true), (19, true), (20, true), (21, true), (22, true), (23, true), (24, true), (26, true), (27, true), (28, true), (29, true), (25, false), (30, false), (31, true), (32, true), (33, true), (34, false), (35, true), (36, true)] [30, 34] (Sub z16 (box b15 [vI r21.1, vI r21.2.1] 41 :: box b14 [vI r20.1, vI r20.2.1] 41 :: box b13 [vI r19.1, vI r19.2.1] 41 :: box b12 [vI r18.1, vI r18.2.1] 41 :: box b11 [vI r17.1, vI r17.2.1] 41 :: box b10 [vI r16.1, vI r16.2.1] 41 :: box b9 [vI r15.1, vI r15.2.1] 41 :: box b8 [vI r14.1, vI r14.2.1] 41 :: box b7 [vI r13.1, vI r13.2.1] 41 :: box b6 [vI r12.1, vI r12.2.1] 41 :: box b5 [vI r11.1, vI r11.2.1] 41 :: box b4 [vI r10.1, vI r10.2.1] 41 :: box b3 [vI r9.1, vI r9.2.1] 41 :: box b2 [vI r8.1, vI r8.2.1] 41 :: box b1 [vI x0_a_lo, vI x0_a_hi, vI x0_b_lo, vI x0_b_hi, vI x0_n, vI x0_d] 72 :: L)) (by kernel_rfl) s1 ?_
            refine p_firstP 1 [] [1, 209] (fl' := [(1, pB b1 0), (209, pB b1 0)]) (obs := []) hf153 (by kernel_rfl) (by kernel_rfl) (fun _ => .nil) fun a117 hf155 => ?_
            refine p_first 1 [vI x0_a_lo, vI x0_a_hi] [1, 210] (fl' := [(1, pB b1 0), (210, .agg #[vI x0_a_lo, vI x0_a_hi])]) (obs := [.cell ⟨b1, 0, none⟩ (vI x0_a_lo), .cell ⟨b1, 1, none⟩ (vI x0_a_hi)]) s1 (by kernel_rfl) hf155 (by kernel_rfl) (by kernel_rfl) (fun _ s => (.cell (s.box (i := 14) rfl (j := 0) rfl) (.cell (s.box (i := 14) rfl (j := 1) rfl) .nil))) fun a118 hf156 => ?_
            refine p_firstP 1 [] [1, 210, 212] (fl' := [(1, pB b1 0), (210, .agg #[vI x0_a_lo, vI x0_a_hi]), (212, pB b1 0)]) (obs := []) hf156 (by kernel_rfl) (by kernel_rfl) (fun _ => .nil) fun a119 hf157 => ?_
            refine p_first 1 [vI x0_a_lo, vI x0_a_hi] [1, 210, 213] (fl' := [(1, pB b1 0), (210, .agg #[vI x0_a_lo, vI x0_a_hi]), (213, .agg #[vI x0_a_lo, vI x0_a_hi])]) (obs := [.cell ⟨b1, 0, none⟩ (vI x0_a_lo), .cell ⟨b1, 1, none⟩ (vI x0_a_hi)]) s1 (by kernel_rfl) hf157 (by kernel_rfl) (by kernel_rfl) (fun _ s => (.cell (s.box (i := 14) rfl (j := 0) rfl) (.cell (s.box (i := 14) rfl (j := 1) rfl) .nil))) fun a120 hf158 => ?_
            obtain ⟨r1, hd15, hr45⟩ := bind_some hr44
            refine p_call (i := 2) (d := some 211) (f := 52) (args := #[.agg #[vI x0_a_lo, vI x0_a_hi]]) hf158 (by kernel_rfl) (f52_ok fuel x0_a_lo x0_a_hi r1 hd15 z16 _ _ hS46 ) ?_
            rintro v15 ww46 a121 ⟨z18, k17, rfl, hS47⟩ hf159
            refine ⟨fun _ => Sub.of k17 hS47, ?_⟩
            have s2 : Sub z16 (box b15 [vI r21.1, vI r21.2.1] 41 :: box b14 [vI r20.1, vI r20.2.1] 41 :: box b13 [vI r19.1, vI r19.2.1] 41 :: box b12 [vI r18.1, vI r18.2.1] 41 :: box b11 [vI r17.1, vI r17.2.1] 41 :: box b10 [vI r16.1, vI r16.2.1] 41 :: box b9 [vI r15.1, vI r15.2.1] 41 :: box b8 [vI r14.1, vI r14.2.1] 41 :: box b7 [vI r13.1, vI r13.2.1] 41 :: box b6 [vI r12.1, vI r12.2.1] 41 :: box b5 [vI r11.1, vI r11.2.1] 41 :: box b4 [vI r10.1, vI r10.2.1] 41 :: box b3 [vI r9.1, vI r9.2.1] 41 :: box b2 [vI r8.1, vI r8.2.1] 41 :: box b1 [vI x0_a_lo, vI x0_a_hi, vI x0_b_lo, vI x0_b_hi, vI x0_n, vI x0_d] 72 :: L) _ := Sub.of k17 hS47
            obtain ⟨r2, hd16, hr46⟩ := bind_some hr45
            refine p_call (i := 5) (d := some 214) (f := 53) (args := #[.agg #[vI x0_a_lo, vI x0_a_hi]]) hf159 (by kernel_rfl) (f53_ok fuel x0_a_lo x0_a_hi r2 hd16 z18 _ _ hS47 ) ?_
            rintro v16 ww47 a122 ⟨z19, k18, rfl, hS48⟩ hf160
            refine ⟨fun _ => Sub.of (Zone.le_trans k17 k18) hS48, ?_⟩
            have s3 : Sub z16 (box b15 [vI r21.1, vI r21.2.1] 41 :: box b14 [vI r20.1, vI r20.2.1] 41 :: box b13 [vI r19.1, vI r19.2.1] 41 :: box b12 [vI r18.1, vI r18.2.1] 41 :: box b11 [vI r17.1, vI r17.2.1] 41 :: box b10 [vI r16.1, vI r16.2.1] 41 :: box b9 [vI r15.1, vI r15.2.1] 41 :: box b8 [vI r14.1, vI r14.2.1] 41 :: box b7 [vI r13.1, vI r13.2.1] 41 :: box b6 [vI r12.1, vI r12.2.1] 41 :: box b5 [vI r11.1, vI r11.2.1] 41 :: box b4 [vI r10.1, vI r10.2.1] 41 :: box b3 [vI r9.1, vI r9.2.1] 41 :: box b2 [vI r8.1, vI r8.2.1] 41 :: box b1 [vI x0_a_lo, vI x0_a_hi, vI x0_b_lo, vI x0_b_hi, vI x0_n, vI x0_d] 72 :: L) _ := Sub.of (Zone.le_trans k17 k18) hS48
            refine p_firstP 2 [] [1, 216] (fl' := [(1, pB b1 0), (216, .bool (r1 == r2))]) (obs := []) hf160 (by kernel_rfl) (by kernel_rfl) (fun _ => .nil) fun a123 hf161 => ?_
            rcases Bool.eq_false_or_eq_true (r1 == r2) with hb15 | hb15
            · have hr47 := cond_t hb15 hr46
              have hf162 := Fr.conv hf161 (congrArg (fun z => ([(1, pB b1 0), (216, .bool z)] : FL)) hb15)
              refine p_firstP 1 [] [1, 216, 217] (fl' := [(1, pB b1 0), (216, .bool true), (217, pB b1 0)]) (obs := []) hf162 (by kernel_rfl) (by kernel_rfl) (fun _ => .nil) fun a124 hf163 => ?_
              refine p_first 1 [vI x0_a_lo, vI x0_a_hi] [1, 216, 218] (fl' := [(1, pB b1 0), (216, .bool true), (218, .agg #[vI x0_a_lo, vI x0_a_hi])]) (obs := [.cell ⟨b1, 0, none⟩ (vI x0_a_lo), .cell ⟨b1, 1, none⟩ (vI x0_a_hi)]) s3 (by kernel_rfl) hf163 (by kernel_rfl) (by kernel_rfl) (fun _ s => (.cell (s.box (i := 14) rfl (j := 0) rfl) (.cell (s.box (i := 14) rfl (j := 1) rfl) .nil))) fun a125 hf164 => ?_
              refine p_firstP 1 [] [1, 216, 218, 219] (fl' := [(1, pB b1 0), (216, .bool true), (218, .agg #[vI x0_a_lo, vI x0_a_hi]), (219, pB b1 4)]) (obs := []) hf164 (by kernel_rfl) (by kernel_rfl) (fun _ => .nil) fun a126 hf165 => ?_
              refine p_first 1 [vI x0_n] [1, 216, 218, 220] (fl' := [(1, pB b1 0), (216, .bool true), (218, .agg #[vI x0_a_lo, vI x0_a_hi]), (220, vI x0_n)]) (obs := [.cell ⟨b1, 4, none⟩ (vI x0_n)]) s3 (by kernel_rfl) hf165 (by kernel_rfl) (by kernel_rfl) (fun _ s => (.cell (s.box (i := 14) rfl (j := 4) rfl) .nil)) fun a127 hf166 => ?_
              refine p_firstP 1 [] [1, 216, 218, 220, 222] (fl' := [(1, pB b1 0), (216, .bool true), (218, .agg #[vI x0_a_lo, vI x0_a_hi]), (220, vI x0_n), (222, pB b1 0)]) (obs := []) hf166 (by kernel_rfl) (by kernel_rfl) (fun _ => .nil) fun a128 hf167 => ?_
              refine p_first 1 [vI x0_a_lo, vI x0_a_hi] [1, 216, 218, 220, 223] (fl' := [(1, pB b1 0), (216, .bool true), (218, .agg #[vI x0_a_lo, vI x0_a_hi]), (220, vI x0_n), (223, .agg #[vI x0_a_lo, vI x0_a_hi])]) (obs := [.cell ⟨b1, 0, none⟩ (vI x0_a_lo), .cell ⟨b1, 1, none⟩ (vI x0_a_hi)]) s3 (by kernel_rfl) hf167 (by kernel_rfl) (by kernel_rfl) (fun _ s => (.cell (s.box (i := 14) rfl (j := 0) rfl) (.cell (s.box (i := 14) rfl (j := 1) rfl) .nil))) fun a129 hf168 => ?_
              refine p_firstP 1 [] [1, 216, 218, 220, 223, 224] (fl' := [(1, pB b1 0), (216, .bool true), (218, .agg #[vI x0_a_lo, vI x0_a_hi]), (220, vI x0_n), (223, .agg #[vI x0_a_lo, vI x0_a_hi]), (224, pB b1 4)]) (obs := []) hf168 (by kernel_rfl) (by kernel_rfl) (fun _ => .nil) fun a130 hf169 => ?_
              refine p_first 1 [vI x0_n] [1, 216, 218, 220, 223, 225] (fl' := [(1, pB b1 0), (216, .bool true), (218, .agg #[vI x0_a_lo, vI x0_a_hi]), (220, vI x0_n), (223, .agg #[vI x0_a_lo, vI x0_a_hi]), (225, vI x0_n)]) (obs := [.cell ⟨b1, 4, none⟩ (vI x0_n)]) s3 (by kernel_rfl) hf169 (by kernel_rfl) (by kernel_rfl) (fun _ s => (.cell (s.box (i := 14) rfl (j := 4) rfl) .nil)) fun a131 hf170 => ?_
              obtain ⟨r3, hd17, hr48⟩ := bind_some hr47
              refine p_call (i := 12) (d := some 221) (f := 43) (args := #[.agg #[vI x0_a_lo, vI x0_a_hi], vI x0_n]) hf170 (by kernel_rfl) (f43_ok fuel x0_a_lo x0_a_hi x0_n r3 hd17 z19 _ _ hS48 ) ?_
              rintro v17 ww48 a132 ⟨z20, k19, rfl, hS49⟩ hf171
              refine ⟨fun _ => Sub.of (Zone.le_trans (Zone.le_trans k17 k18) k19) hS49, ?_⟩
              have s4 : Sub z16 (box b15 [vI r21.1, vI r21.2.1] 41 :: box b14 [vI r20.1, vI r20.2.1] 41 :: box b13 [vI r19.1, vI r19.2.1] 41 :: box b12 [vI r18.1, vI r18.2.1] 41 :: box b11 [vI r17.1, vI r17.2.1] 41 :: box b10 [vI r16.1, vI r16.2.1] 41 :: box b9 [vI r15.1, vI r15.2.1] 41 :: box b8 [vI r14.1, vI r14.2.1] 41 :: box b7 [vI r13.1, vI r13.2.1] 41 :: box b6 [vI r12.1, vI r12.2.1] 41 :: box b5 [vI r11.1, vI r11.2.1] 41 :: box b4 [vI r10.1, vI r10.2.1] 41 :: box b3 [vI r9.1, vI r9.2.1] 41 :: box b2 [vI r8.1, vI r8.2.1] 41 :: box b1 [vI x0_a_lo, vI x0_a_hi, vI x0_b_lo, vI x0_b_hi, vI x0_n, vI x0_d] 72 :: L) _ := Sub.of (Zone.le_trans (Zone.le_trans k17 k18) k19) hS49
              obtain ⟨r4, hd18, hr49⟩ := bind_some hr48
              refine p_call (i := 17) (d := some 226) (f := 54) (args := #[.agg #[vI x0_a_lo, vI x0_a_hi], vI x0_n]) hf171 (by kernel_rfl) (f54_ok fuel x0_a_lo x0_a_hi x0_n r4 hd18 z20 _ _ hS49 ) ?_
              rintro v18 ww49 a133 ⟨z21, k20, rfl, hS50⟩ hf172
              refine ⟨fun _ => Sub.of (Zone.le_trans (Zone.le_trans (Zone.le_trans k17 k18) k19) k20) hS50, ?_⟩
              have s5 : Sub z16 (box b15 [vI r21.1, vI r21.2.1] 41 :: box b14 [vI r20.1, vI r20.2.1] 41 :: box b13 [vI r19.1, vI r19.2.1] 41 :: box b12 [vI r18.1, vI r18.2.1] 41 :: box b11 [vI r17.1, vI r17.2.1] 41 :: box b10 [vI r16.1, vI r16.2.1] 41 :: box b9 [vI r15.1, vI r15.2.1] 41 :: box b8 [vI r14.1, vI r14.2.1] 41 :: box b7 [vI r13.1, vI r13.2.1] 41 :: box b6 [vI r12.1, vI r12.2.1] 41 :: box b5 [vI r11.1, vI r11.2.1] 41 :: box b4 [vI r10.1, vI r10.2.1] 41 :: box b3 [vI r9.1, vI r9.2.1] 41 :: box b2 [vI r8.1, vI r8.2.1] 41 :: box b1 [vI x0_a_lo, vI x0_a_hi, vI x0_b_lo, vI x0_b_hi, vI x0_n, vI x0_d] 72 :: L) _ := Sub.of (Zone.le_trans (Zone.le_trans (Zone.le_trans k17 k18) k19) k20) hS50
              refine p_firstP 3 [] [1, 229] (fl' := [(1, pB b1 0), (229, .bool (r3 == r4))]) (obs := []) hf172 (by kernel_rfl) (by kernel_rfl) (fun _ => .nil) fun a134 hf173 => ?_
              rcases Bool.eq_false_or_eq_true (r3 == r4) with hb16 | hb16
              · have hr50 := cond_t hb16 hr49
                have hf174 := Fr.conv hf173 (congrArg (fun z => ([(1, pB b1 0), (229, .bool z)] : FL)) hb16)
                refine p_firstP 1 [] [1, 229, 230] (fl' := [(1, pB b1 0), (229, .bool true), (230, pB b1 0)]) (obs := []) hf174 (by kernel_rfl) (by kernel_rfl) (fun _ => .nil) fun a135 hf175 => ?_
                refine p_first 1 [vI x0_a_lo, vI x0_a_hi] [1, 229, 231] (fl' := [(1, pB b1 0), (229, .bool true), (231, .agg #[vI x0_a_lo, vI x0_a_hi])]) (obs := [.cell ⟨b1, 0, none⟩ (vI x0_a_lo), .cell ⟨b1, 1, none⟩ (vI x0_a_hi)]) s5 (by kernel_rfl) hf175 (by kernel_rfl) (by kernel_rfl) (fun _ s => (.cell (s.box (i := 14) rfl (j := 0) rfl) (.cell (s.box (i := 14) rfl (j := 1) rfl) .nil))) fun a136 hf176 => ?_
                refine p_firstP 1 [] [1, 229, 231, 232] (fl' := [(1, pB b1 0), (229, .bool true), (231, .agg #[vI x0_a_lo, vI x0_a_hi]), (232, pB b1 2)]) (obs := []) hf176 (by kernel_rfl) (by kernel_rfl) (fun _ => .nil) fun a137 hf177 => ?_
                refine p_first 1 [vI x0_b_lo, vI x0_b_hi] [1, 229, 231, 233] (fl' := [(1, pB b1 0), (229, .bool true), (231, .agg #[vI x0_a_lo, vI x0_a_hi]), (233, .agg #[vI x0_b_lo, vI x0_b_hi])]) (obs := [.cell ⟨b1, 2, none⟩ (vI x0_b_lo), .cell ⟨b1, 3, none⟩ (vI x0_b_hi)]) s5 (by kernel_rfl) hf177 (by kernel_rfl) (by kernel_rfl) (fun _ s => (.cell (s.box (i := 14) rfl (j := 2) rfl) (.cell (s.box (i := 14) rfl (j := 3) rfl) .nil))) fun a138 hf178 => ?_
                refine p_firstP 1 [] [1, 229, 231, 233, 235] (fl' := [(1, pB b1 0), (229, .bool true), (231, .agg #[vI x0_a_lo, vI x0_a_hi]), (233, .agg #[vI x0_b_lo, vI x0_b_hi]), (235, pB b1 0)]) (obs := []) hf178 (by kernel_rfl) (by kernel_rfl) (fun _ => .nil) fun a139 hf179 => ?_
                refine p_first 1 [vI x0_a_lo, vI x0_a_hi] [1, 229, 231, 233, 236] (fl' := [(1, pB b1 0), (229, .bool true), (231, .agg #[vI x0_a_lo, vI x0_a_hi]), (233, .agg #[vI x0_b_lo, vI x0_b_hi]), (236, .agg #[vI x0_a_lo, vI x0_a_hi])]) (obs := [.cell ⟨b1, 0, none⟩ (vI x0_a_lo), .cell ⟨b1, 1, none⟩ (vI x0_a_hi)]) s5 (by kernel_rfl) hf179 (by kernel_rfl) (by kernel_rfl) (fun _ s => (.cell (s.box (i := 14) rfl (j := 0) rfl) (.cell (s.box (i := 14) rfl (j := 1) rfl) .nil))) fun a140 hf180 => ?_
                refine p_firstP 1 [] [229, 231, 233, 236, 237] (fl' := [(229, .bool true), (231, .agg #[vI x0_a_lo, vI x0_a_hi]), (233, .agg #[vI x0_b_lo, vI x0_b_hi]), (236, .agg #[vI x0_a_lo, vI x0_a_hi]), (237, pB b1 2)]) (obs := []) hf180 (by kernel_rfl) (by kernel_rfl) (fun _ => .nil) fun a141 hf181 => ?_
                refine p_first 1 [vI x0_b_lo, vI x0_b_hi] [229, 231, 233, 236, 238] (fl' := [(229, .bool true), (231, .agg #[vI x0_a_lo, vI x0_a_hi]), (233, .agg #[vI x0_b_lo, vI x0_b_hi]), (236, .agg #[vI x0_a_lo, vI x0_a_hi]), (238, .agg #[vI x0_b_lo, vI x0_b_hi])]) (obs := [.cell ⟨b1, 2, none⟩ (vI x0_b_lo), .cell ⟨b1, 3, none⟩ (vI x0_b_hi)]) s5 (by kernel_rfl) hf181 (by kernel_rfl) (by kernel_rfl) (fun _ s => (.cell (s.box (i := 14) rfl (j := 2) rfl) (.cell (s.box (i := 14) rfl (j := 3) rfl) .nil))) fun a142 hf182 => ?_
                obtain ⟨r5, hd19, hr51⟩ := bind_some hr50
                refine p_call (i := 25) (d := some 234) (f := 55) (args := #[.agg #[vI x0_a_lo, vI x0_a_hi], .agg #[vI x0_b_lo, vI x0_b_hi]]) hf182 (by kernel_rfl) (f55_ok fuel x0_a_lo x0_a_hi x0_b_lo x0_b_hi r5 hd19 z21 _ _ hS50 ) ?_
                rintro v19 ww50 a143 ⟨z22, k21, rfl, hS51⟩ hf183
                refine ⟨fun _ => Sub.of (Zone.le_trans (Zone.le_trans (Zone.le_trans (Zone.le_trans k17 k18) k19) k20) k21) hS51, ?_⟩
                have s6 : Sub z16 (box b15 [vI r21.1, vI r21.2.1] 41 :: box b14 [vI r20.1, vI r20.2.1] 41 :: box b13 [vI r19.1, vI r19.2.1] 41 :: box b12 [vI r18.1, vI r18.2.1] 41 :: box b11 [vI r17.1, vI r17.2.1] 41 :: box b10 [vI r16.1, vI r16.2.1] 41 :: box b9 [vI r15.1, vI r15.2.1] 41 :: box b8 [vI r14.1, vI r14.2.1] 41 :: box b7 [vI r13.1, vI r13.2.1] 41 :: box b6 [vI r12.1, vI r12.2.1] 41 :: box b5 [vI r11.1, vI r11.2.1] 41 :: box b4 [vI r10.1, vI r10.2.1] 41 :: box b3 [vI r9.1, vI r9.2.1] 41 :: box b2 [vI r8.1, vI r8.2.1] 41 :: box b1 [vI x0_a_lo, vI x0_a_hi, vI x0_b_lo, vI x0_b_hi, vI x0_n, vI x0_d] 72 :: L) _ := Sub.of (Zone.le_trans (Zone.le_trans (Zone.le_trans (Zone.le_trans k17 k18) k19) k20) k21) hS51
                obtain ⟨r6, hd20, hr52⟩ := bind_some hr51
                refine p_call (i := 30) (d := some 239) (f := 56) (args := #[.agg #[vI x0_a_lo, vI x0_a_hi], .agg #[vI x0_b_lo, vI x0_b_hi]]) hf183 (by kernel_rfl) (f56_ok fuel x0_a_lo x0_a_hi x0_b_lo x0_b_hi r6 hd20 z22 _ _ hS51 ) ?_
                rintro v20 ww51 a144 ⟨z23, k22, rfl, hS52⟩ hf184
                refine ⟨fun e => absurd e (by decide), ?_⟩
                refine p_firstP 3 [] [242] (fl' := [(242, .bool (r5 == r6))]) (obs := []) hf184 (by kernel_rfl) (by kernel_rfl) (fun _ => .nil) fun a145 hf185 => ?_
                rcases Bool.eq_false_or_eq_true (r5 == r6) with hb17 | hb17
                · have hr53 := cond_t hb17 hr52
                  have hf186 := Fr.conv hf185 (congrArg (fun z => ([(242, .bool z)] : FL)) hb17)
                  obtain ⟨r7, hd21, hr54⟩ := bind_some hr53
                  refine p_call (i := 34) (d := some 243) (f := 13) (args := #[]) hf186 (by kernel_rfl) (f13_ok fuel  r7 hd21 z23 _ _ hS52 ) ?_
                  rintro v21 ww52 a146 ⟨z24, k23, rfl, hS53⟩ hf187
                  refine ⟨fun e => absurd e (by decide), ?_⟩
                  refine p_firstP 2 [] [2] (fl' := [(2, .bool r7)]) (obs := []) hf187 (by kernel_rfl) (by kernel_rfl) (fun _ => .nil) fun a147 hf188 => ?_
                  refine p_done (by kernel_rfl) ?_
                  refine n_then ?_
                  have hf189 := Fr.keep (ks := [2]) (r := [(2, .bool r7)]) hf188 (by kernel_rfl)
                  exact ⟨z24, r7, (Zone.le_trans (Zone.le_trans (Zone.le_trans (Zone.le_trans (Zone.le_trans (Zone.le_trans k17 k18) k19) k20) k21) k22) k23), hf189, hS53, hr54⟩
                · have hr55 := cond_f hb17 hr52
                  have hf190 := Fr.conv hf185 (congrArg (fun z => ([(242, .bool z)] : FL)) hb17)
                  refine p_runL 1 [] [242, 243] (fl' := [(242, .bool false), (243, undef)]) (obs := []) (by kernel_rfl) hf190 (by kernel_rfl) (by kernel_rfl) .nil fun a148 hf191 => ?_
                  refine p_firstP 2 [] [2] (fl' := [(2, .bool false)]) (obs := []) hf191 (by kernel_rfl) (by kernel_rfl) (fun _ => .nil) fun a149 hf192 => ?_
                  refine p_done (by kernel_rfl) ?_
                  refine n_then ?_
                  have hf193 := Fr.keep (ks := [2]) (r := [(2, .bool false)]) hf192 (by kernel_rfl)
                  exact ⟨z23, false, (Zone.le_trans (Zone.le_trans (Zone.le_trans (Zone.le_trans (Zone.le_trans k17 k18) k19) k20) k21) k22), hf193, hS52, hr55⟩
              · have hr56 := cond_f hb16 hr49
                have hf194 := Fr.conv hf173 (congrArg (fun z => ([(1, pB b1 0), (229, .bool z)] : FL)) hb16)
                refine p_firstP 1 [] [1, 229, 230] (fl' := [(1, pB b1 0), (229, .bool false), (230, undef)]) (obs := []) hf194 (by kernel_rfl) (by kernel_rfl) (fun _ => .nil) fun a150 hf195 => ?_
                refine p_first 1 [] [1, 229, 231] (fl' := [(1, pB b1 0), (229, .bool false), (231, undef)]) (obs := []) s5 (by kernel_rfl) hf195 (by kernel_rfl) (by kernel_rfl) (fun _ s => .nil) fun a151 hf196 => ?_
                refine p_firstP 1 [] [1, 229, 231, 232] (fl' := [(1, pB b1 0), (229, .bool false), (231, undef), (232, undef)]) (obs := []) hf196 (by kernel_rfl) (by kernel_rfl) (fun _ => .nil) fun a152 hf197 => ?_
                refine p_first 1 [] [1, 229, 231, 233] (fl' := [(1, pB b1 0), (229, .bool false), (231, undef), (233, undef)]) (obs := []) s5 (by kernel_rfl) hf197 (by kernel_rfl) (by kernel_rfl) (fun _ s => .nil) fun a153 hf198 => ?_
                refine p_firstP 1 [] [1, 229, 231, 233, 235] (fl' := [(1, pB b1 0), (229, .bool false), (231, undef), (233, undef), (235, undef)]) (obs := []) hf198 (by kernel_rfl) (by kernel_rfl) (fun _ => .nil) fun a154 hf199 => ?_
                refine p_first 1 [] [1, 229, 231, 233, 236] (fl' := [(1, pB b1 0), (229, .bool false), (231, undef), (233, undef), (236, undef)]) (obs := []) s5 (by kernel_rfl) hf199 (by kernel_rfl) (by kernel_rfl) (fun _ s => .nil) fun a155 hf200 => ?_
                refine p_firstP 1 [] [229, 231, 233, 236, 237] (fl' := [(229, .bool false), (231, undef), (233, undef), (236, undef), (237, undef)]) (obs := []) hf200 (by kernel_rfl) (by kernel_rfl) (fun _ => .nil) fun a156 hf201 => ?_
                refine p_first 1 [] [229, 231, 233, 236, 238] (fl' := [(229, .bool false), (231, undef), (233, undef), (236, undef), (238, undef)]) (obs := []) s5 (by kernel_rfl) hf201 (by kernel_rfl) (by kernel_rfl) (fun _ s => .nil) fun a157 hf202 => ?_
                refine p_run 1 [] [229, 231, 233, 234, 236, 238] (fl' := [(229, .bool false), (231, undef), (233, undef), (234, undef), (236, undef), (238, undef)]) (obs := []) s5 hf202 (by kernel_rfl) (by kernel_rfl) .nil fun a158 hf203 => ?_
                refine p_runL 1 [] [229, 231, 233, 234, 236, 238, 239] (fl' := [(229, .bool false), (231, undef), (233, undef), (234, undef), (236, undef), (238, undef), (239, undef)]) (obs := []) (by kernel_rfl) hf203 (by kernel_rfl) (by kernel_rfl) .nil fun a159 hf204 => ?_
                refine p_firstP 3 [] [242] (fl' := [(242, .bool false)]) (obs := []) hf204 (by kernel_rfl) (by kernel_rfl) (fun _ => .nil) fun a160 hf205 => ?_
                refine p_runL 1 [] [242, 243] (fl' := [(242, .bool false), (243, undef)]) (obs := []) (by kernel_rfl) hf205 (by kernel_rfl) (by kernel_rfl) .nil fun a161 hf206 => ?_
                refine p_firstP 2 [] [2] (fl' := [(2, .bool false)]) (obs := []) hf206 (by kernel_rfl) (by kernel_rfl) (fun _ => .nil) fun a162 hf207 => ?_
                refine p_done (by kernel_rfl) ?_
                refine n_then ?_
                have hf208 := Fr.keep (ks := [2]) (r := [(2, .bool false)]) hf207 (by kernel_rfl)
                exact ⟨z21, false, (Zone.le_trans (Zone.le_trans (Zone.le_trans k17 k18) k19) k20), hf208, hS50, hr56⟩
            · have hr57 := cond_f hb15 hr46
              have hf209 := Fr.conv hf161 (congrArg (fun z => ([(1, pB b1 0), (216, .bool z)] : FL)) hb15)
              refine p_firstP 1 [] [1, 216, 217] (fl' := [(1, pB b1 0), (216, .bool false), (217, undef)]) (obs := []) hf209 (by kernel_rfl) (by kernel_rfl) (fun _ => .nil) fun a163 hf210 => ?_
              refine p_first 1 [] [1, 216, 218] (fl' := [(1, pB b1 0), (216, .bool false), (218, undef)]) (obs := []) s3 (by kernel_rfl) hf210 (by kernel_rfl) (by kernel_rfl) (fun _ s => .nil) fun a164 hf211 => ?_
              refine p_firstP 1 [] [1, 216, 218, 219] (fl' := [(1, pB b1 0), (216, .bool false), (218, undef), (219, undef)]) (obs := []) hf211 (by kernel_rfl) (by kernel_rfl) (fun _ => .nil) fun a165 hf212 => ?_
              refine p_first 1 [] [1, 216, 218, 220] (fl' := [(1, pB b1 0), (216, .bool false), (218, undef), (220, undef)]) (obs := []) s3 (by kernel_rfl) hf212 (by kernel_rfl) (by kernel_rfl) (fun _ s => .nil) fun a166 hf213 => ?_
              refine p_firstP 1 [] [1, 216, 218, 220, 222] (fl' := [(1, pB b1 0), (216, .bool false), (218, undef), (220, undef), (222, undef)]) (obs := []) hf213 (by kernel_rfl) (by kernel_rfl) (fun _ => .nil) fun a167 hf214 => ?_
              refine p_first 1 [] [1, 216, 218, 220, 223] (fl' := [(1, pB b1 0), (216, .bool false), (218, undef), (220, undef), (223, undef)]) (obs := []) s3 (by kernel_rfl) hf214 (by kernel_rfl) (by kernel_rfl) (fun _ s => .nil) fun a168 hf215 => ?_
              refine p_firstP 1 [] [1, 216, 218, 220, 223, 224] (fl' := [(1, pB b1 0), (216, .bool false), (218, undef), (220, undef), (223, undef), (224, undef)]) (obs := []) hf215 (by kernel_rfl) (by kernel_rfl) (fun _ => .nil) fun a169 hf216 => ?_
              refine p_first 1 [] [1, 216, 218, 220, 223, 225] (fl' := [(1, pB b1 0), (216, .bool false), (218, undef), (220, undef), (223, undef), (225, undef)]) (obs := []) s3 (by kernel_rfl) hf216 (by kernel_rfl) (by kernel_rfl) (fun _ s => .nil) fun a170 hf217 => ?_
              refine p_run 1 [] [1, 216, 218, 220, 221, 223, 225] (fl' := [(1, pB b1 0), (216, .bool false), (218, undef), (220, undef), (221, undef), (223, undef), (225, undef)]) (obs := []) s3 hf217 (by kernel_rfl) (by kernel_rfl) .nil fun a171 hf218 => ?_
              refine p_run 1 [] [1, 216, 218, 220, 221, 223, 225, 226] (fl' := [(1, pB b1 0), (216, .bool false), (218, undef), (220, undef), (221, undef), (223, undef), (225, undef), (226, undef)]) (obs := []) s3 hf218 (by kernel_rfl) (by kernel_rfl) .nil fun a172 hf219 => ?_
              refine p_firstP 4 [] [1, 229, 230] (fl' := [(1, pB b1 0), (229, .bool false), (230, undef)]) (obs := []) hf219 (by kernel_rfl) (by kernel_rfl) (fun _ => .nil) fun a173 hf220 => ?_
              refine p_first 1 [] [1, 229, 231] (fl' := [(1, pB b1 0), (229, .bool false), (231, undef)]) (obs := []) s3 (by kernel_rfl) hf220 (by kernel_rfl) (by kernel_rfl) (fun _ s => .nil) fun a174 hf221 => ?_
              refine p_firstP 1 [] [1, 229, 231, 232] (fl' := [(1, pB b1 0), (229, .bool false), (231, undef), (232, undef)]) (obs := []) hf221 (by kernel_rfl) (by kernel_rfl) (fun _ => .nil) fun a175 hf222 => ?_
              refine p_first 1 [] [1, 229, 231, 233] (fl' := [(1, pB b1 0), (229, .bool false), (231, undef), (233, undef)]) (obs := []) s3 (by kernel_rfl) hf222 (by kernel_rfl) (by kernel_rfl) (fun _ s => .nil) fun a176 hf223 => ?_
              refine p_firstP 1 [] [1, 229, 231, 233, 235] (fl' := [(1, pB b1 0), (229, .bool false), (231, undef), (233, undef), (235, undef)]) (obs := []) hf223 (by kernel_rfl) (by kernel_rfl) (fun _ => .nil) fun a177 hf224 => ?_
              refine p_first 1 [] [1, 229, 231, 233, 236] (fl' := [(1, pB b1 0), (229, .bool false), (231, undef), (233, undef), (236, undef)]) (obs := []) s3 (by kernel_rfl) hf224 (by kernel_rfl) (by kernel_rfl) (fun _ s => .nil) fun a178 hf225 => ?_
              refine p_firstP 1 [] [229, 231, 233, 236, 237] (fl' := [(229, .bool false), (231, undef), (233, undef), (236, undef), (237, undef)]) (obs := []) hf225 (by kernel_rfl) (by kernel_rfl) (fun _ => .nil) fun a179 hf226 => ?_
              refine p_first 1 [] [229, 231, 233, 236, 238] (fl' := [(229, .bool false), (231, undef), (233, undef), (236, undef), (238, undef)]) (obs := []) s3 (by kernel_rfl) hf226 (by kernel_rfl) (by kernel_rfl) (fun _ s => .nil) fun a180 hf227 => ?_
              refine p_run 1 [] [229, 231, 233, 234, 236, 238] (fl' := [(229, .bool false), (231, undef), (233, undef), (234, undef), (236, undef), (238, undef)]) (obs := []) s3 hf227 (by kernel_rfl) (by kernel_rfl) .nil fun a181 hf228 => ?_
              refine p_runL 1 [] [229, 231, 233, 234, 236, 238, 239] (fl' := [(229, .bool false), (231, undef), (233, undef), (234, undef), (236, undef), (238, undef), (239, undef)]) (obs := []) (by kernel_rfl) hf228 (by kernel_rfl) (by kernel_rfl) .nil fun a182 hf229 => ?_
              refine p_firstP 3 [] [242] (fl' := [(242, .bool false)]) (obs := []) hf229 (by kernel_rfl) (by kernel_rfl) (fun _ => .nil) fun a183 hf230 => ?_
              refine p_runL 1 [] [242, 243] (fl' := [(242, .bool false), (243, undef)]) (obs := []) (by kernel_rfl) hf230 (by kernel_rfl) (by kernel_rfl) .nil fun a184 hf231 => ?_
              refine p_firstP 2 [] [2] (fl' := [(2, .bool false)]) (obs := []) hf231 (by kernel_rfl) (by kernel_rfl) (fun _ => .nil) fun a185 hf232 => ?_
              refine p_done (by kernel_rfl) ?_
              refine n_then ?_
              have hf233 := Fr.keep (ks := [2]) (r := [(2, .bool false)]) hf232 (by kernel_rfl)
              exact ⟨z19, false, (Zone.le_trans k17 k18), hf233, hS48, hr57⟩
          · rintro a186 ww53 ⟨z17, y1, k24, hf234, hS54, hr58⟩
            refine w_ret (by kernel_rfl) ?_
            refine p_ret (os := []) (v := .bool y1) (obs := []) hf234 (by kernel_rfl) .nil ?_
            obtain rfl := some_eq hr58
            exact ⟨_, rfl, z17, (Zone.le_trans (Zone.le_trans (Zone.le_trans (Zone.le_trans (Zone.le_trans (Zone.le_trans (Zone.le_trans (Zone.le_trans (Zone.le_trans (Zone.le_trans (Zone.le_trans (Zone.le_trans (Zone.le_trans (Zone.le_trans (Zone.le_trans (Zone.le_trans k1 k2) k3) k4) k5) k6) k7) k8) k9) k10) k11) k12) k13) k14) k15) k16) k24), rfl, (St.drop 15 hS54)⟩
end Go.Proofs.Ytpjmgeajajcceaa

