/-
  A part of the walk and of the plain law of one given statement. No condition.
-/
import Derived.Test.YtpjmgeajajcceaaSFd
set_option linter.unusedVariables false
namespace Go.Proofs.Ytpjmgeajajcceaa
open Go.Sl Go.Sx
def F37_j1 (y1 : Int) (y2 : Int) (y3 : Int) : Option (Int × Int × Int) :=
  (some (y1, y2, y3))
def F37_j2 (k1 : Int → Int → Bool → Int → Option (Int × Int × Int)) (p1 : Int) (y4 : Int) (p2 : Int) (y5 : Int) (y6 : Int) (y7 : Bool) : Option (Int × Int × Int) :=
  (k1 (if (w64 (p1 + p2)) < y5 then (w64 (p1 + p2)) else y5) (if (w64 (p1 + p2)) > y6 then (w64 (p1 + p2)) else y6) y7 (w64 (y4 + (1 : Int))))
def F37_l2 (k2 : Int → Int → Bool → Int → Option (Int × Int × Int)) (x1_lo : Int) (x1_hi : Int) (y8 : Int) (p1 : Int) : Nat → Int → Int → Bool → Int → Option (Int × Int × Int)
  | 0, _, _, _, _ => none
  | n1 + 1, y9, y10, y11, y4 =>
    let k1 : Int → Int → Bool → Int → Option (Int × Int × Int) := F37_l2 k2 x1_lo x1_hi y8 p1 n1
    (cond (decide (y4 < (2 : Int))) ((getI ([(x1_lo : Int), (x1_hi : Int)]) y4).bind fun p2 => (cond (!y11) (F37_j2 k1 p1 y4 p2 (w64 (p1 + p2)) (w64 (p1 + p2)) true) (F37_j2 k1 p1 y4 p2 y9 y10 y11))) (k2 y9 y10 y11 (w64 (y8 + (1 : Int)))))
def F37_j3 (y12 : Int) (y13 : Int) (y14 : Int) : Option (Int × Int × Int) :=
  (F37_j1 y12 y13 y14)
def F37_l1 (fuel : Nat) (x0_lo : Int) (x0_hi : Int) (x1_lo : Int) (x1_hi : Int) : Nat → Int → Int → Bool → Int → Option (Int × Int × Int)
  | 0, _, _, _, _ => none
  | n2 + 1, y15, y16, y17, y8 =>
    let k2 : Int → Int → Bool → Int → Option (Int × Int × Int) := F37_l1 fuel x0_lo x0_hi x1_lo x1_hi n2
    (cond (decide (y8 < (2 : Int))) ((getI ([(x0_lo : Int), (x0_hi : Int)]) y8).bind fun p1 => (F37_l2 k2 x1_lo x1_hi y8 p1 fuel y15 y16 y17 0)) ((F52 fuel y15 y16).bind fun r1 => (cond (r1 != (0 : Int)) (F37_j3 0 0 5) (F37_j3 y15 y16 0))))
def F37 (fuel : Nat) (x0_lo : Int) (x0_hi : Int) (x1_lo : Int) (x1_hi : Int) : Option (Int × Int × Int) :=
  ((F106 fuel x0_lo x0_hi x1_lo x1_hi).bind fun r2 => (cond (r2 != (0 : Int)) (F37_j1 0 0 r2) (F37_l1 fuel x0_lo x0_hi x1_lo x1_hi fuel 0 0 false 0)))
set_option maxRecDepth 100000 in
theorem f37_ok (fuel : Nat) (x0_lo : Int) (x0_hi : Int) (x1_lo : Int) (x1_hi : Int) (r : Int × Int × Int) (hr : F37 fuel x0_lo x0_hi x1_lo x1_hi = some r) (h : Zone) (L : List Atom) (w : World) (hS : St h L w)  :
    Calls Try.prog 37 #[.agg #[vI x0_lo, vI x0_hi], .agg #[vI x1_lo, vI x1_hi]] w fun e w' => ∃ v, e = .returned v ∧ (∃ h', Zone.le h h' ∧ v = .tuple #[.agg #[vI r.1, vI r.2.1], vI r.2.2] ∧ St h' L w') := by
  refine calls_intro (N := 11) Try.func37 (by kernel_rfl) fun a hf => ?_
  refine w_seq (by kernel_rfl) ?_
  refine w_reg (by kernel_rfl) ?_
  refine p_box (i := 0) (d := (some 2)) (cs := [vI x0_lo, vI x0_hi]) (T := 41) (v := fun b1 => pB b1 0) hS hf (fun b => by kernel_rfl) fun b1 ww1 a1 hS1 hf1 => ⟨fun _ => trivial, ?_⟩
  refine p_box (i := 1) (d := (some 3)) (cs := [vI x1_lo, vI x1_hi]) (T := 41) (v := fun b2 => pB b2 0) hS1 hf1 (fun b => by kernel_rfl) fun b2 ww2 a2 hS2 hf2 => ⟨fun _ => trivial, ?_⟩
  refine p_box (i := 2) (d := (some 4)) (cs := [vI 0, vI 0]) (T := 41) (v := fun b3 => pB b3 0) hS2 hf2 (fun b => by kernel_rfl) fun b3 ww3 a3 hS3 hf3 => ⟨fun _ => trivial, ?_⟩
  refine p_run 1 [] [2, 3, 4] (fl' := [(2, pB b1 0), (3, pB b2 0), (4, pB b3 0)]) (obs := []) trivial hf3 (by kernel_rfl) (by kernel_rfl) .nil fun a4 hf4 => ?_
  refine p_done (by kernel_rfl) ?_
  refine n_then ?_
  refine w_seq (by kernel_rfl) ?_
  refine w_reg (by kernel_rfl) ?_
  refine p_run 2 [vI x0_lo, vI x0_hi, vI x1_lo, vI x1_hi] [4, 6, 7] (fl' := [(4, pB b3 0), (6, .agg #[vI x0_lo, vI x0_hi]), (7, .agg #[vI x1_lo, vI x1_hi])]) (obs := [.cell ⟨b1, 0, none⟩ (vI x0_lo), .cell ⟨b1, 1, none⟩ (vI x0_hi), .cell ⟨b2, 0, none⟩ (vI x1_lo), .cell ⟨b2, 1, none⟩ (vI x1_hi)]) trivial hf4 (by kernel_rfl) (by kernel_rfl) (.cell (hS3.box (i := 2) rfl (j := 0) rfl) (.cell (hS3.box (i := 2) rfl (j := 1) rfl) (.cell (hS3.box (i := 1) rfl (j := 0) rfl) (.cell (hS3.box (i := 1) rfl (j := 1) rfl) .nil)))) fun a5 hf5 => ?_
  refine p_call (i := 2) (d := some 8) (f := 101) (args := #[.agg #[vI x0_lo, vI x0_hi], .agg #[vI x1_lo, vI x1_hi], .func (.func 102) #[] #[]]) hf5 (by kernel_rfl) (Φ := fun v w => ∃ z1 : Zone, ∃ y1 : Int, ∃ y2 : Int, ∃ y3 : Int, Zone.le h z1 ∧ v = .tuple #[.agg #[vI y1, vI y2], vI y3] ∧ St z1 (box b3 [vI 0, vI 0] 41 :: box b2 [vI x1_lo, vI x1_hi] 41 :: box b1 [vI x0_lo, vI x0_hi] 41 :: L) w ∧ (F37_j1 y1 y2 y3) = some r) ?_ ?_
  · refine calls_intro (N := 46) Try.func101 (by kernel_rfl) fun a6 hf6 => ?_
    refine w_seq (by kernel_rfl) ?_
    refine w_reg (by kernel_rfl) ?_
    refine p_box (i := 0) (d := (some 3)) (cs := [vI x0_lo, vI x0_hi]) (T := 41) (v := fun b4 => pB b4 0) hS3 hf6 (fun b => by kernel_rfl) fun b4 ww4 a7 hS4 hf7 => ⟨fun _ => trivial, ?_⟩
    refine p_box (i := 1) (d := (some 4)) (cs := [vI x1_lo, vI x1_hi]) (T := 41) (v := fun b5 => pB b5 0) hS4 hf7 (fun b => by kernel_rfl) fun b5 ww5 a8 hS5 hf8 => ⟨fun _ => trivial, ?_⟩
    refine p_box (i := 2) (d := (some 6)) (cs := [vI 0, vI 0]) (T := 41) (v := fun b6 => pB b6 0) hS5 hf8 (fun b => by kernel_rfl) fun b6 ww6 a9 hS6 hf9 => ⟨fun _ => trivial, ?_⟩
    refine p_run 1 [] [2, 3, 4, 6] (fl' := [(2, .func (.func 102) #[] #[]), (3, pB b4 0), (4, pB b5 0), (6, pB b6 0)]) (obs := []) trivial hf9 (by kernel_rfl) (by kernel_rfl) .nil fun a10 hf10 => ?_
    refine p_done (by kernel_rfl) ?_
    refine n_then ?_
    refine w_seq (by kernel_rfl) ?_
    refine w_seq (by kernel_rfl) ?_
    refine w_reg (by kernel_rfl) ?_
    refine p_run 2 [vI x0_lo, vI x0_hi, vI x1_lo, vI x1_hi] [2, 3, 4, 6, 14, 15] (fl' := [(2, .func (.func 102) #[] #[]), (3, pB b4 0), (4, pB b5 0), (6, pB b6 0), (14, .agg #[vI x0_lo, vI x0_hi]), (15, .agg #[vI x1_lo, vI x1_hi])]) (obs := [.cell ⟨b4, 0, none⟩ (vI x0_lo), .cell ⟨b4, 1, none⟩ (vI x0_hi), .cell ⟨b5, 0, none⟩ (vI x1_lo), .cell ⟨b5, 1, none⟩ (vI x1_hi)]) trivial hf10 (by kernel_rfl) (by kernel_rfl) (.cell (hS6.box (i := 2) rfl (j := 0) rfl) (.cell (hS6.box (i := 2) rfl (j := 1) rfl) (.cell (hS6.box (i := 1) rfl (j := 0) rfl) (.cell (hS6.box (i := 1) rfl (j := 1) rfl) .nil)))) fun a11 hf11 => ?_
    obtain ⟨r2, hd1, hr1⟩ := bind_some hr
    refine p_call (i := 2) (d := some 16) (f := 106) (args := #[.agg #[vI x0_lo, vI x0_hi], .agg #[vI x1_lo, vI x1_hi]]) hf11 (by kernel_rfl) (f106_ok fuel x0_lo x0_hi x1_lo x1_hi r2 hd1 h _ _ hS6 ) ?_
    rintro v1 ww7 a12 ⟨z2, k3, rfl, hS7⟩ hf12
    refine ⟨fun _ => trivial, ?_⟩
    refine p_run 1 [] [2, 3, 4, 6, 8] (fl' := [(2, .func (.func 102) #[] #[]), (3, pB b4 0), (4, pB b5 0), (6, pB b6 0), (8, vI r2)]) (obs := []) trivial hf12 (by kernel_rfl) (by kernel_rfl) .nil fun a13 hf13 => ?_
    refine p_done (by kernel_rfl) ?_
    refine n_then ?_
    refine w_seq (by kernel_rfl) ?_
    refine w_reg (by kernel_rfl) ?_
    refine p_run 2 [] [2, 3, 4, 6, 8, 18] (fl' := [(2, .func (.func 102) #[] #[]), (3, pB b4 0), (4, pB b5 0), (6, pB b6 0), (8, vI r2), (18, .bool (r2 != (0 : Int)))]) (obs := []) trivial hf13 (by kernel_rfl) (by kernel_rfl) .nil fun a14 hf14 => ?_
    refine p_done (by kernel_rfl) ?_
    refine n_then ?_
    refine w_if hf14 (b := (r2 != (0 : Int))) (by kernel_rfl) (fun hb1 => ?_) (fun hb1 => ?_)
    · have hr2 := cond_t hb1 hr1
      refine w_seq (by kernel_rfl) ?_
      refine w_reg (by kernel_rfl) ?_
      refine p_run 2 [] [6, 19, 20] (fl' := [(6, pB b6 0), (19, .agg #[vI 0, vI 0]), (20, vI r2)]) (obs := []) trivial hf14 (by kernel_rfl) (by kernel_rfl) .nil fun a15 hf15 => ?_
      refine p_store_eq (i := 2) (j := 0) (b := b6) (off := 0) (vs := [vI 0, vI 0]) (cs' := [vI 0, vI 0]) hS7 hf15 rfl (by kernel_rfl) (by kernel_rfl) rfl fun ww8 a16 hS8 hf16 => ⟨fun _ => trivial, ?_⟩
      refine p_run 1 [] [6, 7] (fl' := [(6, pB b6 0), (7, vI r2)]) (obs := []) trivial hf16 (by kernel_rfl) (by kernel_rfl) .nil fun a17 hf17 => ?_
      refine p_done (by kernel_rfl) ?_
      refine n_then ?_
      refine w_ret (by kernel_rfl) ?_
      refine r_then ?_
      refine p_ret (os := [vI 0, vI 0]) (v := .tuple #[.agg #[vI 0, vI 0], vI r2]) (obs := [.cell ⟨b6, 0, none⟩ (vI 0), .cell ⟨b6, 1, none⟩ (vI 0)]) hf17 (by kernel_rfl) (.cell (hS8.box (i := 0) rfl (j := 0) rfl) (.cell (hS8.box (i := 0) rfl (j := 1) rfl) .nil)) ?_
      exact ⟨_, rfl, z2, 0, 0, r2, k3, rfl, (St.drop 3 hS8), hr2⟩
    · have hr3 := cond_f hb1 hr1
      refine w_skip (by kernel_rfl) ?_
      refine n_then ?_
      refine w_seq (by kernel_rfl) ?_
      refine w_reg (by kernel_rfl) ?_
      refine p_box (i := 0) (d := (some 9)) (cs := [vI 0, vI 0, .bool false, .bool false]) (T := 100) (v := fun b7 => pB b7 0) hS7 hf14 (fun b => by kernel_rfl) fun b7 ww9 a18 hS9 hf18 => ⟨fun _ => trivial, ?_⟩
      refine p_done (by kernel_rfl) ?_
      refine n_then ?_
      refine w_seq (by kernel_rfl) ?_
      refine w_seq (by kernel_rfl) ?_
      refine w_reg (by kernel_rfl) ?_
      refine p_run 6 [vI x0_lo, vI x0_hi] [2, 4, 6, 9, 25, 26] (fl' := [(2, .func (.func 102) #[] #[]), (4, pB b5 0), (6, pB b6 0), (9, pB b7 0), (25, .agg #[vI x0_lo, vI x0_hi]), (26, vI 0)]) (obs := [.cell ⟨b4, 0, none⟩ (vI x0_lo), .cell ⟨b4, 1, none⟩ (vI x0_hi)]) trivial hf18 (by kernel_rfl) (by kernel_rfl) (.cell (hS9.box (i := 3) rfl (j := 0) rfl) (.cell (hS9.box (i := 3) rfl (j := 1) rfl) .nil)) fun a19 hf19 => ?_
      refine p_done (by kernel_rfl) ?_
      refine n_then ?_
      refine w_block (id := 0) (by kernel_rfl) ?_
      have hf20 := Fr.keep (ks := [2, 4, 6, 9, 25, 26]) (r := [(2, .func (.func 102) #[] #[]), (4, pB b5 0), (6, pB b6 0), (9, pB b7 0), (25, .agg #[vI x0_lo, vI x0_hi]), (26, vI 0)]) hf19 (by kernel_rfl)
      refine w_loop (by kernel_rfl) (fun n a w => ∃ z3 : Zone, ∃ y15 : Int, ∃ y16 : Int, ∃ y17 : Bool, ∃ y8 : Int, Zone.le z2 z3 ∧ Fr a 46 [(2, .func (.func 102) #[] #[]), (4, pB b5 0), (6, pB b6 0), (9, pB b7 0), (25, .agg #[vI x0_lo, vI x0_hi]), (26, vI y8)] ∧ St z3 (box b7 [vI y15, vI y16, .bool y17, .bool false] 100 :: box b6 [vI 0, vI 0] 41 :: box b5 [vI x1_lo, vI x1_hi] 41 :: box b4 [vI x0_lo, vI x0_hi] 41 :: box b3 [vI 0, vI 0] 41 :: box b2 [vI x1_lo, vI x1_hi] 41 :: box b1 [vI x0_lo, vI x0_hi] 41 :: L) w ∧ (F37_l1 fuel x0_lo x0_hi x1_lo x1_hi n y15 y16 y17 y8) = some r) fuel ⟨z2, 0, 0, false, 0, (Zone.le_refl _), hf20, hS9, hr3⟩ ?_
      rintro n3 a20 ww10 ⟨z3, y15, y16, y17, y8, k4, hf21, hS10, hr4⟩
      cases n3 with
      | zero => cases hr4
      | succ n2 =>
      refine w_seq (by kernel_rfl) ?_
      refine w_reg (by kernel_rfl) ?_
      refine p_run 1 [] [2, 4, 6, 9, 25, 26, 27] (fl' := [(2, .func (.func 102) #[] #[]), (4, pB b5 0), (6, pB b6 0), (9, pB b7 0), (25, .agg #[vI x0_lo, vI x0_hi]), (26, vI y8), (27, .bool (decide (y8 < (2 : Int))))]) (obs := []) trivial hf21 (by kernel_rfl) (by kernel_rfl) .nil fun a21 hf22 => ?_
      refine p_done (by kernel_rfl) ?_
      refine n_then ?_
      refine w_seq (by kernel_rfl) ?_
      refine w_if hf22 (b := (decide (y8 < (2 : Int)))) (by kernel_rfl) (fun hb2 => ?_) (fun hb2 => ?_)
      · have hr5 := cond_t hb2 hr4
        refine w_skip (by kernel_rfl) ?_
        refine n_then ?_
        refine w_seq (by kernel_rfl) ?_
        refine w_block (id := 1) (by kernel_rfl) ?_
        refine w_seq (by kernel_rfl) ?_
        refine w_reg (by kernel_rfl) ?_
        obtain ⟨p1, hp61793, hr6⟩ := bind_some hr5
        obtain ⟨hb3, hk1⟩ := getI_idx (f := Value.int .i64) (n := 2) rfl hp61793
        refine p_run 2 [vI p1] [2, 4, 6, 9, 11, 25, 26] (fl' := [(2, .func (.func 102) #[] #[]), (4, pB b5 0), (6, pB b6 0), (9, pB b7 0), (11, vI p1), (25, .agg #[vI x0_lo, vI x0_hi]), (26, vI y8)]) (obs := [.prop (0 ≤ y8 ∧ y8 < (2 : Nat)), .prop ((#[vI x0_lo, vI x0_hi] : Array Value)[Int.toNat y8 * 1]? = some (vI p1))]) trivial hf22 (by kernel_rfl) (by kernel_rfl) (.prop hb3 (.prop hk1 .nil)) fun a22 hf23 => ?_
        refine p_done (by kernel_rfl) ?_
        refine n_then ?_
        refine w_seq (by kernel_rfl) ?_
        refine w_reg (by kernel_rfl) ?_
        refine p_run 6 [vI x1_lo, vI x1_hi] [2, 4, 6, 9, 11, 25, 26, 33, 34] (fl' := [(2, .func (.func 102) #[] #[]), (4, pB b5 0), (6, pB b6 0), (9, pB b7 0), (11, vI p1), (25, .agg #[vI x0_lo, vI x0_hi]), (26, vI y8), (33, .agg #[vI x1_lo, vI x1_hi]), (34, vI 0)]) (obs := [.cell ⟨b5, 0, none⟩ (vI x1_lo), .cell ⟨b5, 1, none⟩ (vI x1_hi)]) trivial hf23 (by kernel_rfl) (by kernel_rfl) (.cell (hS10.box (i := 2) rfl (j := 0) rfl) (.cell (hS10.box (i := 2) rfl (j := 1) rfl) .nil)) fun a23 hf24 => ?_
        refine p_done (by kernel_rfl) ?_
        refine n_then ?_
        refine w_block (id := 2) (by kernel_rfl) ?_
        have hf25 := Fr.keep (ks := [2, 4, 6, 9, 11, 25, 26, 33, 34]) (r := [(2, .func (.func 102) #[] #[]), (4, pB b5 0), (6, pB b6 0), (9, pB b7 0), (11, vI p1), (25, .agg #[vI x0_lo, vI x0_hi]), (26, vI y8), (33, .agg #[vI x1_lo, vI x1_hi]), (34, vI 0)]) hf24 (by kernel_rfl)
        refine w_loop (by kernel_rfl) (fun n a w => ∃ z4 : Zone, ∃ y9 : Int, ∃ y10 : Int, ∃ y11 : Bool, ∃ y4 : Int, Zone.le z3 z4 ∧ Fr a 46 [(2, .func (.func 102) #[] #[]), (4, pB b5 0), (6, pB b6 0), (9, pB b7 0), (11, vI p1), (25, .agg #[vI x0_lo, vI x0_hi]), (26, vI y8), (33, .agg #[vI x1_lo, vI x1_hi]), (34, vI y4)] ∧ St z4 (box b7 [vI y9, vI y10, .bool y11, .bool false] 100 :: box b6 [vI 0, vI 0] 41 :: box b5 [vI x1_lo, vI x1_hi] 41 :: box b4 [vI x0_lo, vI x0_hi] 41 :: box b3 [vI 0, vI 0] 41 :: box b2 [vI x1_lo, vI x1_hi] 41 :: box b1 [vI x0_lo, vI x0_hi] 41 :: L) w ∧ (F37_l2 (F37_l1 fuel x0_lo x0_hi x1_lo x1_hi n2) x1_lo x1_hi y8 p1 n y9 y10 y11 y4) = some r) fuel ⟨z3, y15, y16, y17, 0, (Zone.le_refl _), hf25, hS10, hr6⟩ ?_
        rintro n4 a24 ww11 ⟨z4, y9, y10, y11, y4, k5, hf26, hS11, hr7⟩
        cases n4 with
        | zero => cases hr7
        | succ n1 =>
        refine w_seq (by kernel_rfl) ?_
        refine w_reg (by kernel_rfl) ?_
        refine p_run 1 [] [2, 4, 6, 9, 11, 25, 26, 33, 34, 35] (fl' := [(2, .func (.func 102) #[] #[]), (4, pB b5 0), (6, pB b6 0), (9, pB b7 0), (11, vI p1), (25, .agg #[vI x0_lo, vI x0_hi]), (26, vI y8), (33, .agg #[vI x1_lo, vI x1_hi]), (34, vI y4), (35, .bool (decide (y4 < (2 : Int))))]) (obs := []) trivial hf26 (by kernel_rfl) (by kernel_rfl) .nil fun a25 hf27 => ?_
        refine p_done (by kernel_rfl) ?_
        refine n_then ?_
        refine w_seq (by kernel_rfl) ?_
        refine w_if hf27 (b := (decide (y4 < (2 : Int)))) (by kernel_rfl) (fun hb4 => ?_) (fun hb4 => ?_)
        · have hr8 := cond_t hb4 hr7
          refine w_skip (by kernel_rfl) ?_
          refine n_then ?_
          refine w_seq (by kernel_rfl) ?_
          refine w_block (id := 3) (by kernel_rfl) ?_
          refine w_seq (by kernel_rfl) ?_
          refine w_reg (by kernel_rfl) ?_
          obtain ⟨p2, hp63602, hr9⟩ := bind_some hr8
          obtain ⟨hb5, hk2⟩ := getI_idx (f := Value.int .i64) (n := 2) rfl hp63602
          refine p_run 2 [vI p2] [2, 4, 6, 9, 11, 13, 25, 26, 33, 34] (fl' := [(2, .func (.func 102) #[] #[]), (4, pB b5 0), (6, pB b6 0), (9, pB b7 0), (11, vI p1), (13, vI p2), (25, .agg #[vI x0_lo, vI x0_hi]), (26, vI y8), (33, .agg #[vI x1_lo, vI x1_hi]), (34, vI y4)]) (obs := [.prop (0 ≤ y4 ∧ y4 < (2 : Nat)), .prop ((#[vI x1_lo, vI x1_hi] : Array Value)[Int.toNat y4 * 1]? = some (vI p2))]) trivial hf27 (by kernel_rfl) (by kernel_rfl) (.prop hb5 (.prop hk2 .nil)) fun a26 hf28 => ?_
          refine p_done (by kernel_rfl) ?_
          refine n_then ?_
          refine w_reg (by kernel_rfl) ?_
          refine p_run 3 [] [2, 4, 6, 9, 11, 25, 26, 33, 34, 37, 38, 39] (fl' := [(2, .func (.func 102) #[] #[]), (4, pB b5 0), (6, pB b6 0), (9, pB b7 0), (11, vI p1), (25, .agg #[vI x0_lo, vI x0_hi]), (26, vI y8), (33, .agg #[vI x1_lo, vI x1_hi]), (34, vI y4), (37, .func (.func 102) #[] #[]), (38, vI p1), (39, vI p2)]) (obs := []) trivial hf28 (by kernel_rfl) (by kernel_rfl) .nil fun a27 hf29 => ?_
          refine p_inl (i := 3) (d := some 40) (f := 102) (args := #[pB b7 0, vI p1, vI p2]) (N' := 11) hf29 (by kernel_rfl) Try.func102 (by kernel_rfl) fun a28 hf30 => ?_
          refine w_reg (by kernel_rfl) ?_
          refine p_run 4 [] [6, 9] (fl' := [(6, pB b7 0), (9, vI (w64 (p1 + p2)))]) (obs := []) trivial hf30 (by kernel_rfl) (by kernel_rfl) .nil fun a29 hf31 => ?_
          refine p_inl (i := 4) (d := some 10) (f := 89) (args := #[pB b7 0, vI (w64 (p1 + p2))]) (N' := 36) hf31 (by kernel_rfl) Try.func89 (by kernel_rfl) fun a30 hf32 => ?_
          refine w_mid (by kernel_rfl) (fun a w => ∃ z5 : Zone, ∃ y5 : Int, ∃ y6 : Int, ∃ y7 : Bool, Zone.le z4 z5 ∧ Fr a 36 [(0, pB b7 0), (1, vI (w64 (p1 + p2)))] ∧ St z5 (box b7 [vI y5, vI y6, .bool y7, .bool false] 100 :: box b6 [vI 0, vI 0] 41 :: box b5 [vI x1_lo, vI x1_hi] 41 :: box b4 [vI x0_lo, vI x0_hi] 41 :: box b3 [vI 0, vI 0] 41 :: box b2 [vI x1_lo, vI x1_hi] 41 :: box b1 [vI x0_lo, vI x0_hi] 41 :: L) w ∧ (F37_j2 (F37_l2 (F37_l1 fuel x0_lo x0_hi x1_lo x1_hi n2) x1_lo x1_hi y8 p1 n1) p1 y4 p2 y5 y6 y7) = some r) ?_ ?_
          · skip
            refine w_seq (by kernel_rfl) ?_
            refine w_reg (by kernel_rfl) ?_
            refine p_run 5 [.bool y11] [0, 1, 8] (fl' := [(0, pB b7 0), (1, vI (w64 (p1 + p2))), (8, .bool (!y11))]) (obs := [.cell ⟨b7, 2, none⟩ (.bool y11)]) trivial hf32 (by kernel_rfl) (by kernel_rfl) (.cell (hS11.box (i := 0) rfl (j := 2) rfl) .nil) fun a31 hf33 => ?_
            refine p_done (by kernel_rfl) ?_
            refine n_then ?_
            refine w_if hf33 (b := (!y11)) (by kernel_rfl) (fun hb6 => ?_) (fun hb6 => ?_)
            · have hr10 := cond_t hb6 hr9
              refine w_reg (by kernel_rfl) ?_
              refine p_run 7 [] [0, 1, 10, 13, 15] (fl' := [(0, pB b7 0), (1, vI (w64 (p1 + p2))), (10, pB b7 0), (13, .agg #[vI (w64 (p1 + p2)), vI (w64 (p1 + p2))]), (15, pB b7 0)]) (obs := []) trivial hf33 (by kernel_rfl) (by kernel_rfl) .nil fun a32 hf34 => ?_
              refine p_store_eq (i := 7) (j := 0) (b := b7) (off := 0) (vs := [vI (w64 (p1 + p2)), vI (w64 (p1 + p2))]) (cs' := [vI (w64 (p1 + p2)), vI (w64 (p1 + p2)), .bool y11, .bool false]) hS11 hf34 rfl (by kernel_rfl) (by kernel_rfl) rfl fun ww12 a33 hS12 hf35 => ⟨fun _ => trivial, ?_⟩
              refine p_run 2 [] [0, 1, 17] (fl' := [(0, pB b7 0), (1, vI (w64 (p1 + p2))), (17, pB b7 2)]) (obs := []) trivial hf35 (by kernel_rfl) (by kernel_rfl) .nil fun a34 hf36 => ?_
              refine p_store_eq (i := 10) (j := 0) (b := b7) (off := 2) (vs := [.bool true]) (cs' := [vI (w64 (p1 + p2)), vI (w64 (p1 + p2)), .bool true, .bool false]) hS12 hf36 rfl (by kernel_rfl) (by kernel_rfl) rfl fun ww13 a35 hS13 hf37 => ⟨fun _ => trivial, ?_⟩
              refine p_done (by kernel_rfl) ?_
              refine n_then ?_
              have hf38 := Fr.keep (ks := [0, 1]) (r := [(0, pB b7 0), (1, vI (w64 (p1 + p2)))]) hf37 (by kernel_rfl)
              exact ⟨z4, (w64 (p1 + p2)), (w64 (p1 + p2)), true, (Zone.le_refl _), hf38, hS13, hr10⟩
            · have hr11 := cond_f hb6 hr9
              refine w_skip (by kernel_rfl) ?_
              refine n_then ?_
              have hf39 := Fr.keep (ks := [0, 1]) (r := [(0, pB b7 0), (1, vI (w64 (p1 + p2)))]) hf33 (by kernel_rfl)
              exact ⟨z4, y9, y10, y11, (Zone.le_refl _), hf39, hS11, hr11⟩
          · rintro a36 ww14 ⟨z5, y5, y6, y7, k6, hf40, hS14, hr12⟩
            have hS15 := hS14.drew
            refine w_regD (by kernel_rfl) [(0, true), (1, true), (2, true), (3, true), (4, true), (5, true), (6, true), (7, true), (8, true), (9, true), (10, true), (11, true), (12, true), (13, true), (14, true), (15, true), (16, true), (17, true), (18, false)] [18] (fun x => x = ww14.drew) (by kernel_rfl) rfl ?_
            refine p_firstP 5 [] [0, 1, 18, 22] (fl' := [(0, pB b7 0), (1, vI (w64 (p1 + p2))), (18, pB b7 0), (22, pB b7 0)]) (obs := []) hf40 (by kernel_rfl) (by kernel_rfl) (fun _ => .nil) fun a37 hf41 => ?_
            refine p_firstE 1 [vI y5] [0, 1, 18, 23] (fl' := [(0, pB b7 0), (1, vI (w64 (p1 + p2))), (18, pB b7 0), (23, vI y5)]) (obs := [.cell ⟨b7, 0, none⟩ (vI y5)]) (by kernel_rfl) hf41 (by kernel_rfl) (by kernel_rfl) (.cell (hS15.box (i := 0) rfl (j := 0) rfl) .nil) fun a38 hf42 => ?_
            refine p_firstP 6 [] [1, 18, 25, 29] (fl' := [(1, vI (w64 (p1 + p2))), (18, pB b7 0), (25, vI (if (w64 (p1 + p2)) < y5 then (w64 (p1 + p2)) else y5)), (29, pB b7 1)]) (obs := []) hf42 (by kernel_rfl) (by kernel_rfl) (fun _ => .nil) fun a39 hf43 => ?_
            refine p_firstE 1 [vI y6] [1, 18, 25, 30] (fl' := [(1, vI (w64 (p1 + p2))), (18, pB b7 0), (25, vI (if (w64 (p1 + p2)) < y5 then (w64 (p1 + p2)) else y5)), (30, vI y6)]) (obs := [.cell ⟨b7, 1, none⟩ (vI y6)]) (by kernel_rfl) hf43 (by kernel_rfl) (by kernel_rfl) (.cell (hS15.box (i := 0) rfl (j := 1) rfl) .nil) fun a40 hf44 => ?_
            refine p_firstP 5 [] [33, 35] (fl' := [(33, .agg #[vI (if (w64 (p1 + p2)) < y5 then (w64 (p1 + p2)) else y5), vI (if (w64 (p1 + p2)) > y6 then (w64 (p1 + p2)) else y6)]), (35, pB b7 0)]) (obs := []) hf44 (by kernel_rfl) (by kernel_rfl) (fun _ => .nil) fun a41 hf45 => ?_
            refine p_store_eq (i := 18) (j := 0) (b := b7) (off := 0) (vs := [vI (if (w64 (p1 + p2)) < y5 then (w64 (p1 + p2)) else y5), vI (if (w64 (p1 + p2)) > y6 then (w64 (p1 + p2)) else y6)]) (cs' := [vI (if (w64 (p1 + p2)) < y5 then (w64 (p1 + p2)) else y5), vI (if (w64 (p1 + p2)) > y6 then (w64 (p1 + p2)) else y6), .bool y7, .bool false]) hS15 hf45 rfl (by kernel_rfl) (by kernel_rfl) rfl fun ww15 a42 hS16 hf46 => ⟨fun e => absurd e (by decide), ?_⟩
            refine p_done (by kernel_rfl) ?_
            refine p_fall (os := []) (v := .tuple #[]) (obs := []) hf46 (by kernel_rfl) .nil ?_
            refine ⟨_, rfl, fun a43 hf47 => ?_⟩
            refine ⟨fun _ => trivial, ?_⟩
            refine p_done (by kernel_rfl) ?_
            refine p_fall (os := []) (v := .tuple #[]) (obs := []) hf47 (by kernel_rfl) .nil ?_
            refine ⟨_, rfl, fun a44 hf48 => ?_⟩
            refine ⟨fun _ => trivial, ?_⟩
            refine p_done (by kernel_rfl) ?_
            refine n_block ?_
            refine n_then ?_
            refine w_reg (by kernel_rfl) ?_
            refine p_run 2 [] [2, 4, 6, 9, 11, 25, 26, 33, 34] (fl' := [(2, .func (.func 102) #[] #[]), (4, pB b5 0), (6, pB b6 0), (9, pB b7 0), (11, vI p1), (25, .agg #[vI x0_lo, vI x0_hi]), (26, vI y8), (33, .agg #[vI x1_lo, vI x1_hi]), (34, vI (w64 (y4 + (1 : Int))))]) (obs := []) trivial hf48 (by kernel_rfl) (by kernel_rfl) .nil fun a45 hf49 => ?_
            refine p_done (by kernel_rfl) ?_
            refine n_then ?_
            have hf50 := Fr.keep (ks := [2, 4, 6, 9, 11, 25, 26, 33, 34]) (r := [(2, .func (.func 102) #[] #[]), (4, pB b5 0), (6, pB b6 0), (9, pB b7 0), (11, vI p1), (25, .agg #[vI x0_lo, vI x0_hi]), (26, vI y8), (33, .agg #[vI x1_lo, vI x1_hi]), (34, vI (w64 (y4 + (1 : Int))))]) hf49 (by kernel_rfl)
            exact ⟨n1, Nat.lt_succ_self n1, z5, (if (w64 (p1 + p2)) < y5 then (w64 (p1 + p2)) else y5), (if (w64 (p1 + p2)) > y6 then (w64 (p1 + p2)) else y6), y7, (w64 (y4 + (1 : Int))), (Zone.le_trans k5 k6), hf50, hS16, hr12⟩
        · have hr13 := cond_f hb4 hr7
          refine w_exit (id := 2) (by kernel_rfl) ?_
          refine x_then ?_
          refine x_then ?_
          refine x_block ?_
          refine n_block ?_
          refine n_then ?_
          refine w_reg (by kernel_rfl) ?_
          refine p_run 2 [] [2, 4, 6, 9, 25, 26] (fl' := [(2, .func (.func 102) #[] #[]), (4, pB b5 0), (6, pB b6 0), (9, pB b7 0), (25, .agg #[vI x0_lo, vI x0_hi]), (26, vI (w64 (y8 + (1 : Int))))]) (obs := []) trivial hf27 (by kernel_rfl) (by kernel_rfl) .nil fun a46 hf51 => ?_
          refine p_done (by kernel_rfl) ?_
          refine n_then ?_
          have hf52 := Fr.keep (ks := [2, 4, 6, 9, 25, 26]) (r := [(2, .func (.func 102) #[] #[]), (4, pB b5 0), (6, pB b6 0), (9, pB b7 0), (25, .agg #[vI x0_lo, vI x0_hi]), (26, vI (w64 (y8 + (1 : Int))))]) hf51 (by kernel_rfl)
          exact ⟨n2, Nat.lt_succ_self n2, z4, y9, y10, y11, (w64 (y8 + (1 : Int))), (Zone.le_trans k4 k5), hf52, hS11, hr13⟩
      · have hr14 := cond_f hb2 hr4
        refine w_exit (id := 0) (by kernel_rfl) ?_
        refine x_then ?_
        refine x_then ?_
        refine x_block ?_
        refine n_then ?_
        refine w_seq (by kernel_rfl) ?_
        refine w_reg (by kernel_rfl) ?_
        refine p_call (i := 0) (d := some 43) (f := 105) (args := #[pB b7 0]) hf22 (by kernel_rfl) (Φ := fun v w => ∃ z6 : Zone, ∃ y12 : Int, ∃ y13 : Int, ∃ y14 : Int, Zone.le z3 z6 ∧ v = .tuple #[.agg #[vI y12, vI y13], vI y14] ∧ St z6 (box b7 [vI y15, vI y16, .bool y17, .bool false] 100 :: box b6 [vI 0, vI 0] 41 :: box b5 [vI x1_lo, vI x1_hi] 41 :: box b4 [vI x0_lo, vI x0_hi] 41 :: box b3 [vI 0, vI 0] 41 :: box b2 [vI x1_lo, vI x1_hi] 41 :: box b1 [vI x0_lo, vI x0_hi] 41 :: L) w ∧ (F37_j3 y12 y13 y14) = some r) ?_ ?_
        · refine calls_intro (N := 21) Try.func105 (by kernel_rfl) fun a47 hf53 => ?_
          refine w_seq (by kernel_rfl) ?_
          refine w_reg (by kernel_rfl) ?_
          refine p_box (i := 0) (d := (some 2)) (cs := [vI 0, vI 0]) (T := 41) (v := fun b8 => pB b8 0) hS10 hf53 (fun b => by kernel_rfl) fun b8 ww16 a48 hS17 hf54 => ⟨fun _ => trivial, ?_⟩
          refine p_run 1 [] [0, 2] (fl' := [(0, pB b7 0), (2, pB b8 0)]) (obs := []) trivial hf54 (by kernel_rfl) (by kernel_rfl) .nil fun a49 hf55 => ?_
          refine p_done (by kernel_rfl) ?_
          refine n_then ?_
          refine w_seq (by kernel_rfl) ?_
          refine w_seq (by kernel_rfl) ?_
          refine w_reg (by kernel_rfl) ?_
          refine p_run 9 [.bool false, vI y15, vI y16] [0, 2, 8, 12] (fl' := [(0, pB b7 0), (2, pB b8 0), (8, .bool false), (12, .agg #[vI y15, vI y16])]) (obs := [.cell ⟨b7, 3, none⟩ (.bool false), .cell ⟨b7, 0, none⟩ (vI y15), .cell ⟨b7, 1, none⟩ (vI y16)]) trivial hf55 (by kernel_rfl) (by kernel_rfl) (.cell (hS17.box (i := 1) rfl (j := 3) rfl) (.cell (hS17.box (i := 1) rfl (j := 0) rfl) (.cell (hS17.box (i := 1) rfl (j := 1) rfl) .nil))) fun a50 hf56 => ?_
          obtain ⟨r1, hd2, hr15⟩ := bind_some hr14
          refine p_call (i := 9) (d := some 13) (f := 52) (args := #[.agg #[vI y15, vI y16]]) hf56 (by kernel_rfl) (f52_ok fuel y15 y16 r1 hd2 z3 _ _ hS17 ) ?_
          rintro v2 ww17 a51 ⟨z7, k7, rfl, hS18⟩ hf57
          refine ⟨fun _ => trivial, ?_⟩
          refine p_run 2 [] [0, 2, 15] (fl' := [(0, pB b7 0), (2, pB b8 0), (15, .bool (r1 != (0 : Int)))]) (obs := []) trivial hf57 (by kernel_rfl) (by kernel_rfl) .nil fun a52 hf58 => ?_
          refine p_done (by kernel_rfl) ?_
          refine n_then ?_
          refine w_if hf58 (b := (r1 != (0 : Int))) (by kernel_rfl) (fun hb7 => ?_) (fun hb7 => ?_)
          · have hr16 := cond_t hb7 hr15
            refine w_seq (by kernel_rfl) ?_
            refine w_reg (by kernel_rfl) ?_
            refine p_run 1 [] [2, 16] (fl' := [(2, pB b8 0), (16, .agg #[vI 0, vI 0])]) (obs := []) trivial hf58 (by kernel_rfl) (by kernel_rfl) .nil fun a53 hf59 => ?_
            refine p_store_eq (i := 1) (j := 0) (b := b8) (off := 0) (vs := [vI 0, vI 0]) (cs' := [vI 0, vI 0]) hS18 hf59 rfl (by kernel_rfl) (by kernel_rfl) rfl fun ww18 a54 hS19 hf60 => ⟨fun _ => trivial, ?_⟩
            refine p_run 1 [] [2, 3] (fl' := [(2, pB b8 0), (3, vI 5)]) (obs := []) trivial hf60 (by kernel_rfl) (by kernel_rfl) .nil fun a55 hf61 => ?_
            refine p_done (by kernel_rfl) ?_
            refine n_then ?_
            refine w_ret (by kernel_rfl) ?_
            refine r_then ?_
            refine p_ret (os := [vI 0, vI 0]) (v := .tuple #[.agg #[vI 0, vI 0], vI 5]) (obs := [.cell ⟨b8, 0, none⟩ (vI 0), .cell ⟨b8, 1, none⟩ (vI 0)]) hf61 (by kernel_rfl) (.cell (hS19.box (i := 0) rfl (j := 0) rfl) (.cell (hS19.box (i := 0) rfl (j := 1) rfl) .nil)) ?_
            exact ⟨_, rfl, z7, 0, 0, 5, k7, rfl, (St.drop 1 hS19), hr16⟩
          · have hr17 := cond_f hb7 hr15
            refine w_skip (by kernel_rfl) ?_
            refine n_then ?_
            refine w_seq (by kernel_rfl) ?_
            refine w_reg (by kernel_rfl) ?_
            refine p_run 4 [vI y15, vI y16] [2, 20] (fl' := [(2, pB b8 0), (20, .agg #[vI y15, vI y16])]) (obs := [.cell ⟨b7, 0, none⟩ (vI y15), .cell ⟨b7, 1, none⟩ (vI y16)]) trivial hf58 (by kernel_rfl) (by kernel_rfl) (.cell (hS18.box (i := 1) rfl (j := 0) rfl) (.cell (hS18.box (i := 1) rfl (j := 1) rfl) .nil)) fun a56 hf62 => ?_
            refine p_store_eq (i := 4) (j := 0) (b := b8) (off := 0) (vs := [vI y15, vI y16]) (cs' := [vI y15, vI y16]) hS18 hf62 rfl (by kernel_rfl) (by kernel_rfl) rfl fun ww19 a57 hS20 hf63 => ⟨fun _ => trivial, ?_⟩
            refine p_run 1 [] [2, 3] (fl' := [(2, pB b8 0), (3, vI 0)]) (obs := []) trivial hf63 (by kernel_rfl) (by kernel_rfl) .nil fun a58 hf64 => ?_
            refine p_done (by kernel_rfl) ?_
            refine n_then ?_
            refine w_ret (by kernel_rfl) ?_
            refine p_ret (os := [vI y15, vI y16]) (v := .tuple #[.agg #[vI y15, vI y16], vI 0]) (obs := [.cell ⟨b8, 0, none⟩ (vI y15), .cell ⟨b8, 1, none⟩ (vI y16)]) hf64 (by kernel_rfl) (.cell (hS20.box (i := 0) rfl (j := 0) rfl) (.cell (hS20.box (i := 0) rfl (j := 1) rfl) .nil)) ?_
            exact ⟨_, rfl, z7, y15, y16, 0, k7, rfl, (St.drop 1 hS20), hr17⟩
        · rintro v3 ww20 a59 ⟨z6, y12, y13, y14, k8, rfl, hS21, hr18⟩ hf65
          refine ⟨fun _ => trivial, ?_⟩
          refine p_run 2 [] [6, 44, 45] (fl' := [(6, pB b6 0), (44, .agg #[vI y12, vI y13]), (45, vI y14)]) (obs := []) trivial hf65 (by kernel_rfl) (by kernel_rfl) .nil fun a60 hf66 => ?_
          refine p_store_eq (i := 3) (j := 1) (b := b6) (off := 0) (vs := [vI y12, vI y13]) (cs' := [vI y12, vI y13]) hS21 hf66 rfl (by kernel_rfl) (by kernel_rfl) rfl fun ww21 a61 hS22 hf67 => ⟨fun _ => trivial, ?_⟩
          refine p_run 1 [] [6, 7] (fl' := [(6, pB b6 0), (7, vI y14)]) (obs := []) trivial hf67 (by kernel_rfl) (by kernel_rfl) .nil fun a62 hf68 => ?_
          refine p_done (by kernel_rfl) ?_
          refine n_then ?_
          refine w_ret (by kernel_rfl) ?_
          refine p_ret (os := [vI y12, vI y13]) (v := .tuple #[.agg #[vI y12, vI y13], vI y14]) (obs := [.cell ⟨b6, 0, none⟩ (vI y12), .cell ⟨b6, 1, none⟩ (vI y13)]) hf68 (by kernel_rfl) (.cell (hS22.box (i := 1) rfl (j := 0) rfl) (.cell (hS22.box (i := 1) rfl (j := 1) rfl) .nil)) ?_
          exact ⟨_, rfl, z6, y12, y13, y14, (Zone.le_trans (Zone.le_trans k3 k4) k8), rfl, (St.drop 4 hS22), hr18⟩
  · rintro v4 ww22 a63 ⟨z1, y1, y2, y3, k9, rfl, hS23, hr19⟩ hf69
    refine ⟨fun _ => trivial, ?_⟩
    refine p_run 2 [] [4, 9, 10] (fl' := [(4, pB b3 0), (9, .agg #[vI y1, vI y2]), (10, vI y3)]) (obs := []) trivial hf69 (by kernel_rfl) (by kernel_rfl) .nil fun a64 hf70 => ?_
    refine p_store_eq (i := 5) (j := 0) (b := b3) (off := 0) (vs := [vI y1, vI y2]) (cs' := [vI y1, vI y2]) hS23 hf70 rfl (by kernel_rfl) (by kernel_rfl) rfl fun ww23 a65 hS24 hf71 => ⟨fun _ => trivial, ?_⟩
    refine p_run 1 [] [4, 5] (fl' := [(4, pB b3 0), (5, vI y3)]) (obs := []) trivial hf71 (by kernel_rfl) (by kernel_rfl) .nil fun a66 hf72 => ?_
    refine p_done (by kernel_rfl) ?_
    refine n_then ?_
    refine w_ret (by kernel_rfl) ?_
    refine p_ret (os := [vI y1, vI y2]) (v := .tuple #[.agg #[vI y1, vI y2], vI y3]) (obs := [.cell ⟨b3, 0, none⟩ (vI y1), .cell ⟨b3, 1, none⟩ (vI y2)]) hf72 (by kernel_rfl) (.cell (hS24.box (i := 0) rfl (j := 0) rfl) (.cell (hS24.box (i := 0) rfl (j := 1) rfl) .nil)) ?_
    obtain rfl := some_eq hr19
    exact ⟨_, rfl, z1, k9, rfl, (St.drop 3 hS24)⟩
def F38_j1 (y1 : Int) (y2 : Int) (y3 : Int) : Option (Int × Int × Int) :=
  (some (y1, y2, y3))
def F38_j2 (k1 : Int → Int → Bool → Int → Option (Int × Int × Int)) (p1 : Int) (y4 : Int) (p2 : Int) (y5 : Int) (y6 : Int) (y7 : Bool) : Option (Int × Int × Int) :=
  (k1 (if (w64 (p1 - p2)) < y5 then (w64 (p1 - p2)) else y5) (if (w64 (p1 - p2)) > y6 then (w64 (p1 - p2)) else y6) y7 (w64 (y4 + (1 : Int))))
def F38_l2 (k2 : Int → Int → Bool → Int → Option (Int × Int × Int)) (x1_lo : Int) (x1_hi : Int) (y8 : Int) (p1 : Int) : Nat → Int → Int → Bool → Int → Option (Int × Int × Int)
  | 0, _, _, _, _ => none
  | n1 + 1, y9, y10, y11, y4 =>
    let k1 : Int → Int → Bool → Int → Option (Int × Int × Int) := F38_l2 k2 x1_lo x1_hi y8 p1 n1
    (cond (decide (y4 < (2 : Int))) ((getI ([(x1_lo : Int), (x1_hi : Int)]) y4).bind fun p2 => (cond (!y11) (F38_j2 k1 p1 y4 p2 (w64 (p1 - p2)) (w64 (p1 - p2)) true) (F38_j2 k1 p1 y4 p2 y9 y10 y11))) (k2 y9 y10 y11 (w64 (y8 + (1 : Int)))))
def F38_j3 (y12 : Int) (y13 : Int) (y14 : Int) : Option (Int × Int × Int) :=
  (F38_j1 y12 y13 y14)
def F38_l1 (fuel : Nat) (x0_lo : Int) (x0_hi : Int) (x1_lo : Int) (x1_hi : Int) : Nat → Int → Int → Bool → Int → Option (Int × Int × Int)
  | 0, _, _, _, _ => none
  | n2 + 1, y15, y16, y17, y8 =>
    let k2 : Int → Int → Bool → Int → Option (Int × Int × Int) := F38_l1 fuel x0_lo x0_hi x1_lo x1_hi n2
    (cond (decide (y8 < (2 : Int))) ((getI ([(x0_lo : Int), (x0_hi : Int)]) y8).bind fun p1 => (F38_l2 k2 x1_lo x1_hi y8 p1 fuel y15 y16 y17 0)) ((F52 fuel y15 y16).bind fun r1 => (cond (r1 != (0 : Int)) (F38_j3 0 0 5) (F38_j3 y15 y16 0))))
def F38 (fuel : Nat) (x0_lo : Int) (x0_hi : Int) (x1_lo : Int) (x1_hi : Int) : Option (Int × Int × Int) :=
  ((F106 fuel x0_lo x0_hi x1_lo x1_hi).bind fun r2 => (cond (r2 != (0 : Int)) (F38_j1 0 0 r2) (F38_l1 fuel x0_lo x0_hi x1_lo x1_hi fuel 0 0 false 0)))
set_option maxRecDepth 100000 in
theorem f38_ok (fuel : Nat) (x0_lo : Int) (x0_hi : Int) (x1_lo : Int) (x1_hi : Int) (r : Int × Int × Int) (hr : F38 fuel x0_lo x0_hi x1_lo x1_hi = some r) (h : Zone) (L : List Atom) (w : World) (hS : St h L w)  :
    Calls Try.prog 38 #[.agg #[vI x0_lo, vI x0_hi], .agg #[vI x1_lo, vI x1_hi]] w fun e w' => ∃ v, e = .returned v ∧ (∃ h', Zone.le h h' ∧ v = .tuple #[.agg #[vI r.1, vI r.2.1], vI r.2.2] ∧ St h' L w') := by
  refine calls_intro (N := 11) Try.func38 (by kernel_rfl) fun a hf => ?_
  refine w_seq (by kernel_rfl) ?_
  refine w_reg (by kernel_rfl) ?_
  refine p_box (i := 0) (d := (some 2)) (cs := [vI x0_lo, vI x0_hi]) (T := 41) (v := fun b1 => pB b1 0) hS hf (fun b => by kernel_rfl) fun b1 ww1 a1 hS1 hf1 => ⟨fun _ => trivial, ?_⟩
  refine p_box (i := 1) (d := (some 3)) (cs := [vI x1_lo, vI x1_hi]) (T := 41) (v := fun b2 => pB b2 0) hS1 hf1 (fun b => by kernel_rfl) fun b2 ww2 a2 hS2 hf2 => ⟨fun _ => trivial, ?_⟩
  refine p_box (i := 2) (d := (some 4)) (cs := [vI 0, vI 0]) (T := 41) (v := fun b3 => pB b3 0) hS2 hf2 (fun b => by kernel_rfl) fun b3 ww3 a3 hS3 hf3 => ⟨fun _ => trivial, ?_⟩
  refine p_run 1 [] [2, 3, 4] (fl' := [(2, pB b1 0), (3, pB b2 0), (4, pB b3 0)]) (obs := []) trivial hf3 (by kernel_rfl) (by kernel_rfl) .nil fun a4 hf4 => ?_
  refine p_done (by kernel_rfl) ?_
  refine n_then ?_
  refine w_seq (by kernel_rfl) ?_
  refine w_reg (by kernel_rfl) ?_
  refine p_run 2 [vI x0_lo, vI x0_hi, vI x1_lo, vI x1_hi] [4, 6, 7] (fl' := [(4, pB b3 0), (6, .agg #[vI x0_lo, vI x0_hi]), (7, .agg #[vI x1_lo, vI x1_hi])]) (obs := [.cell ⟨b1, 0, none⟩ (vI x0_lo), .cell ⟨b1, 1, none⟩ (vI x0_hi), .cell ⟨b2, 0, none⟩ (vI x1_lo), .cell ⟨b2, 1, none⟩ (vI x1_hi)]) trivial hf4 (by kernel_rfl) (by kernel_rfl) (.cell (hS3.box (i := 2) rfl (j := 0) rfl) (.cell (hS3.box (i := 2) rfl (j := 1) rfl) (.cell (hS3.box (i := 1) rfl (j := 0) rfl) (.cell (hS3.box (i := 1) rfl (j := 1) rfl) .nil)))) fun a5 hf5 => ?_
  refine p_call (i := 2) (d := some 8) (f := 101) (args := #[.agg #[vI x0_lo, vI x0_hi], .agg #[vI x1_lo, vI x1_hi], .func (.func 103) #[] #[]]) hf5 (by kernel_rfl) (Φ := fun v w => ∃ z1 : Zone, ∃ y1 : Int, ∃ y2 : Int, ∃ y3 : Int, Zone.le h z1 ∧ v = .tuple #[.agg #[vI y1, vI y2], vI y3] ∧ St z1 (box b3 [vI 0, vI 0] 41 :: box b2 [vI x1_lo, vI x1_hi] 41 :: box b1 [vI x0_lo, vI x0_hi] 41 :: L) w ∧ (F38_j1 y1 y2 y3) = some r) ?_ ?_
  · refine calls_intro (N := 46) Try.func101 (by kernel_rfl) fun a6 hf6 => ?_
    refine w_seq (by kernel_rfl) ?_
    refine w_reg (by kernel_rfl) ?_
    refine p_box (i := 0) (d := (some 3)) (cs := [vI x0_lo, vI x0_hi]) (T := 41) (v := fun b4 => pB b4 0) hS3 hf6 (fun b => by kernel_rfl) fun b4 ww4 a7 hS4 hf7 => ⟨fun _ => trivial, ?_⟩
    refine p_box (i := 1) (d := (some 4)) (cs := [vI x1_lo, vI x1_hi]) (T := 41) (v := fun b5 => pB b5 0) hS4 hf7 (fun b => by kernel_rfl) fun b5 ww5 a8 hS5 hf8 => ⟨fun _ => trivial, ?_⟩
    refine p_box (i := 2) (d := (some 6)) (cs := [vI 0, vI 0]) (T := 41) (v := fun b6 => pB b6 0) hS5 hf8 (fun b => by kernel_rfl) fun b6 ww6 a9 hS6 hf9 => ⟨fun _ => trivial, ?_⟩
    refine p_run 1 [] [2, 3, 4, 6] (fl' := [(2, .func (.func 103) #[] #[]), (3, pB b4 0), (4, pB b5 0), (6, pB b6 0)]) (obs := []) trivial hf9 (by kernel_rfl) (by kernel_rfl) .nil fun a10 hf10 => ?_
    refine p_done (by kernel_rfl) ?_
    refine n_then ?_
    refine w_seq (by kernel_rfl) ?_
    refine w_seq (by kernel_rfl) ?_
    refine w_reg (by kernel_rfl) ?_
    refine p_run 2 [vI x0_lo, vI x0_hi, vI x1_lo, vI x1_hi] [2, 3, 4, 6, 14, 15] (fl' := [(2, .func (.func 103) #[] #[]), (3, pB b4 0), (4, pB b5 0), (6, pB b6 0), (14, .agg #[vI x0_lo, vI x0_hi]), (15, .agg #[vI x1_lo, vI x1_hi])]) (obs := [.cell ⟨b4, 0, none⟩ (vI x0_lo), .cell ⟨b4, 1, none⟩ (vI x0_hi), .cell ⟨b5, 0, none⟩ (vI x1_lo), .cell ⟨b5, 1, none⟩ (vI x1_hi)]) trivial hf10 (by kernel_rfl) (by kernel_rfl) (.cell (hS6.box (i := 2) rfl (j := 0) rfl) (.cell (hS6.box (i := 2) rfl (j := 1) rfl) (.cell (hS6.box (i := 1) rfl (j := 0) rfl) (.cell (hS6.box (i := 1) rfl (j := 1) rfl) .nil)))) fun a11 hf11 => ?_
    obtain ⟨r2, hd1, hr1⟩ := bind_some hr
    refine p_call (i := 2) (d := some 16) (f := 106) (args := #[.agg #[vI x0_lo, vI x0_hi], .agg #[vI x1_lo, vI x1_hi]]) hf11 (by kernel_rfl) (f106_ok fuel x0_lo x0_hi x1_lo x1_hi r2 hd1 h _ _ hS6 ) ?_
    rintro v1 ww7 a12 ⟨z2, k3, rfl, hS7⟩ hf12
    refine ⟨fun _ => trivial, ?_⟩
    refine p_run 1 [] [2, 3, 4, 6, 8] (fl' := [(2, .func (.func 103) #[] #[]), (3, pB b4 0), (4, pB b5 0), (6, pB b6 0), (8, vI r2)]) (obs := []) trivial hf12 (by kernel_rfl) (by kernel_rfl) .nil fun a13 hf13 => ?_
    refine p_done (by kernel_rfl) ?_
    refine n_then ?_
    refine w_seq (by kernel_rfl) ?_
    refine w_reg (by kernel_rfl) ?_
    refine p_run 2 [] [2, 3, 4, 6, 8, 18] (fl' := [(2, .func (.func 103) #[] #[]), (3, pB b4 0), (4, pB b5 0), (6, pB b6 0), (8, vI r2), (18, .bool (r2 != (0 : Int)))]) (obs := []) trivial hf13 (by kernel_rfl) (by kernel_rfl) .nil fun a14 hf14 => ?_
    refine p_done (by kernel_rfl) ?_
    refine n_then ?_
    refine w_if hf14 (b := (r2 != (0 : Int))) (by kernel_rfl) (fun hb1 => ?_) (fun hb1 => ?_)
    · have hr2 := cond_t hb1 hr1
      refine w_seq (by kernel_rfl) ?_
      refine w_reg (by kernel_rfl) ?_
      refine p_run 2 [] [6, 19, 20] (fl' := [(6, pB b6 0), (19, .agg #[vI 0, vI 0]), (20, vI r2)]) (obs := []) trivial hf14 (by kernel_rfl) (by kernel_rfl) .nil fun a15 hf15 => ?_
      refine p_store_eq (i := 2) (j := 0) (b := b6) (off := 0) (vs := [vI 0, vI 0]) (cs' := [vI 0, vI 0]) hS7 hf15 rfl (by kernel_rfl) (by kernel_rfl) rfl fun ww8 a16 hS8 hf16 => ⟨fun _ => trivial, ?_⟩
      refine p_run 1 [] [6, 7] (fl' := [(6, pB b6 0), (7, vI r2)]) (obs := []) trivial hf16 (by kernel_rfl) (by kernel_rfl) .nil fun a17 hf17 => ?_
      refine p_done (by kernel_rfl) ?_
      refine n_then ?_
      refine w_ret (by kernel_rfl) ?_
      refine r_then ?_
      refine p_ret (os := [vI 0, vI 0]) (v := .tuple #[.agg #[vI 0, vI 0], vI r2]) (obs := [.cell ⟨b6, 0, none⟩ (vI 0), .cell ⟨b6, 1, none⟩ (vI 0)]) hf17 (by kernel_rfl) (.cell (hS8.box (i := 0) rfl (j := 0) rfl) (.cell (hS8.box (i := 0) rfl (j := 1) rfl) .nil)) ?_
      exact ⟨_, rfl, z2, 0, 0, r2, k3, rfl, (St.drop 3 hS8), hr2⟩
    · have hr3 := cond_f hb1 hr1
      refine w_skip (by kernel_rfl) ?_
      refine n_then ?_
      refine w_seq (by kernel_rfl) ?_
      refine w_reg (by kernel_rfl) ?_
      refine p_box (i := 0) (d := (some 9)) (cs := [vI 0, vI 0, .bool false, .bool false]) (T := 100) (v := fun b7 => pB b7 0) hS7 hf14 (fun b => by kernel_rfl) fun b7 ww9 a18 hS9 hf18 => ⟨fun _ => trivial, ?_⟩
      refine p_done (by kernel_rfl) ?_
      refine n_then ?_
      refine w_seq (by kernel_rfl) ?_
      refine w_seq (by kernel_rfl) ?_
      refine w_reg (by kernel_rfl) ?_
      refine p_run 6 [vI x0_lo, vI x0_hi] [2, 4, 6, 9, 25, 26] (fl' := [(2, .func (.func 103) #[] #[]), (4, pB b5 0), (6, pB b6 0), (9, pB b7 0), (25, .agg #[vI x0_lo, vI x0_hi]), (26, vI 0)]) (obs := [.cell ⟨b4, 0, none⟩ (vI x0_lo), .cell ⟨b4, 1, none⟩ (vI x0_hi)]) trivial hf18 (by kernel_rfl) (by kernel_rfl) (.cell (hS9.box (i := 3) rfl (j := 0) rfl) (.cell (hS9.box (i := 3) rfl (j := 1) rfl) .nil)) fun a19 hf19 => ?_
      refine p_done (by kernel_rfl) ?_
      refine n_then ?_
      refine w_block (id := 0) (by kernel_rfl) ?_
      have hf20 := Fr.keep (ks := [2, 4, 6, 9, 25, 26]) (r := [(2, .func (.func 103) #[] #[]), (4, pB b5 0), (6, pB b6 0), (9, pB b7 0), (25, .agg #[vI x0_lo, vI x0_hi]), (26, vI 0)]) hf19 (by kernel_rfl)
      refine w_loop (by kernel_rfl) (fun n a w => ∃ z3 : Zone, ∃ y15 : Int, ∃ y16 : Int, ∃ y17 : Bool, ∃ y8 : Int, Zone.le z2 z3 ∧ Fr a 46 [(2, .func (.func 103) #[] #[]), (4, pB b5 0), (6, pB b6 0), (9, pB b7 0), (25, .agg #[vI x0_lo, vI x0_hi]), (26, vI y8)] ∧ St z3 (box b7 [vI y15, vI y16, .bool y17, .bool false] 100 :: box b6 [vI 0, vI 0] 41 :: box b5 [vI x1_lo, vI x1_hi] 41 :: box b4 [vI x0_lo, vI x0_hi] 41 :: box b3 [vI 0, vI 0] 41 :: box b2 [vI x1_lo, vI x1_hi] 41 :: box b1 [vI x0_lo, vI x0_hi] 41 :: L) w ∧ (F38_l1 fuel x0_lo x0_hi x1_lo x1_hi n y15 y16 y17 y8) = some r) fuel ⟨z2, 0, 0, false, 0, (Zone.le_refl _), hf20, hS9, hr3⟩ ?_
      rintro n3 a20 ww10 ⟨z3, y15, y16, y17, y8, k4, hf21, hS10, hr4⟩
      cases n3 with
      | zero => cases hr4
      | succ n2 =>
      refine w_seq (by kernel_rfl) ?_
      refine w_reg (by kernel_rfl) ?_
      refine p_run 1 [] [2, 4, 6, 9, 25, 26, 27] (fl' := [(2, .func (.func 103) #[] #[]), (4, pB b5 0), (6, pB b6 0), (9, pB b7 0), (25, .agg #[vI x0_lo, vI x0_hi]), (26, vI y8), (27, .bool (decide (y8 < (2 : Int))))]) (obs := []) trivial hf21 (by kernel_rfl) (by kernel_rfl) .nil fun a21 hf22 => ?_
      refine p_done (by kernel_rfl) ?_
      refine n_then ?_
      refine w_seq (by kernel_rfl) ?_
      refine w_if hf22 (b := (decide (y8 < (2 : Int)))) (by kernel_rfl) (fun hb2 => ?_) (fun hb2 => ?_)
      · have hr5 := cond_t hb2 hr4
        refine w_skip (by kernel_rfl) ?_
        refine n_then ?_
        refine w_seq (by kernel_rfl) ?_
        refine w_block (id := 1) (by kernel_rfl) ?_
        refine w_seq (by kernel_rfl) ?_
        refine w_reg (by kernel_rfl) ?_
        obtain ⟨p1, hp61793, hr6⟩ := bind_some hr5
        obtain ⟨hb3, hk1⟩ := getI_idx (f := Value.int .i64) (n := 2) rfl hp61793
        refine p_run 2 [vI p1] [2, 4, 6, 9, 11, 25, 26] (fl' := [(2, .func (.func 103) #[] #[]), (4, pB b5 0), (6, pB b6 0), (9, pB b7 0), (11, vI p1), (25, .agg #[vI x0_lo, vI x0_hi]), (26, vI y8)]) (obs := [.prop (0 ≤ y8 ∧ y8 < (2 : Nat)), .prop ((#[vI x0_lo, vI x0_hi] : Array Value)[Int.toNat y8 * 1]? = some (vI p1))]) trivial hf22 (by kernel_rfl) (by kernel_rfl) (.prop hb3 (.prop hk1 .nil)) fun a22 hf23 => ?_
        refine p_done (by kernel_rfl) ?_
        refine n_then ?_
        refine w_seq (by kernel_rfl) ?_
        refine w_reg (by kernel_rfl) ?_
        refine p_run 6 [vI x1_lo, vI x1_hi] [2, 4, 6, 9, 11, 25, 26, 33, 34] (fl' := [(2, .func (.func 103) #[] #[]), (4, pB b5 0), (6, pB b6 0), (9, pB b7 0), (11, vI p1), (25, .agg #[vI x0_lo, vI x0_hi]), (26, vI y8), (33, .agg #[vI x1_lo, vI x1_hi]), (34, vI 0)]) (obs := [.cell ⟨b5, 0, none⟩ (vI x1_lo), .cell ⟨b5, 1, none⟩ (vI x1_hi)]) trivial hf23 (by kernel_rfl) (by kernel_rfl) (.cell (hS10.box (i := 2) rfl (j := 0) rfl) (.cell (hS10.box (i := 2) rfl (j := 1) rfl) .nil)) fun a23 hf24 => ?_
        refine p_done (by kernel_rfl) ?_
        refine n_then ?_
        refine w_block (id := 2) (by kernel_rfl) ?_
        have hf25 := Fr.keep (ks := [2, 4, 6, 9, 11, 25, 26, 33, 34]) (r := [(2, .func (.func 103) #[] #[]), (4, pB b5 0), (6, pB b6 0), (9, pB b7 0), (11, vI p1), (25, .agg #[vI x0_lo, vI x0_hi]), (26, vI y8), (33, .agg #[vI x1_lo, vI x1_hi]), (34, vI 0)]) hf24 (by kernel_rfl)
        refine w_loop (by kernel_rfl) (fun n a w => ∃ z4 : Zone, ∃ y9 : Int, ∃ y10 : Int, ∃ y11 : Bool, ∃ y4 : Int, Zone.le z3 z4 ∧ Fr a 46 [(2, .func (.func 103) #[] #[]), (4, pB b5 0), (6, pB b6 0), (9, pB b7 0), (11, vI p1), (25, .agg #[vI x0_lo, vI x0_hi]), (26, vI y8), (33, .agg #[vI x1_lo, vI x1_hi]), (34, vI y4)] ∧ St z4 (box b7 [vI y9, vI y10, .bool y11, .bool false] 100 :: box b6 [vI 0, vI 0] 41 :: box b5 [vI x1_lo, vI x1_hi] 41 :: box b4 [vI x0_lo, vI x0_hi] 41 :: box b3 [vI 0, vI 0] 41 :: box b2 [vI x1_lo, vI x1_hi] 41 :: box b1 [vI x0_lo, vI x0_hi] 41 :: L) w ∧ (F38_l2 (F38_l1 fuel x0_lo x0_hi x1_lo x1_hi n2) x1_lo x1_hi y8 p1 n y9 y10 y11 y4) = some r) fuel ⟨z3, y15, y16, y17, 0, (Zone.le_refl _), hf25, hS10, hr6⟩ ?_
        rintro n4 a24 ww11 ⟨z4, y9, y10, y11, y4, k5, hf26, hS11, hr7⟩
        cases n4 with
        | zero => cases hr7
        | succ n1 =>
        refine w_seq (by kernel_rfl) ?_
        refine w_reg (by kernel_rfl) ?_
        refine p_run 1 [] [2, 4, 6, 9, 11, 25, 26, 33, 34, 35] (fl' := [(2, .func (.func 103) #[] #[]), (4, pB b5 0), (6, pB b6 0), (9, pB b7 0), (11, vI p1), (25, .agg #[vI x0_lo, vI x0_hi]), (26, vI y8), (33, .agg #[vI x1_lo, vI x1_hi]), (34, vI y4), (35, .bool (decide (y4 < (2 : Int))))]) (obs := []) trivial hf26 (by kernel_rfl) (by kernel_rfl) .nil fun a25 hf27 => ?_
        refine p_done (by kernel_rfl) ?_
        refine n_then ?_
        refine w_seq (by kernel_rfl) ?_
        refine w_if hf27 (b := (decide (y4 < (2 : Int)))) (by kernel_rfl) (fun hb4 => ?_) (fun hb4 => ?_)
        · have hr8 := cond_t hb4 hr7
          refine w_skip (by kernel_rfl) ?_
          refine n_then ?_
          refine w_seq (by kernel_rfl) ?_
          refine w_block (id := 3) (by kernel_rfl) ?_
          refine w_seq (by kernel_rfl) ?_
          refine w_reg (by kernel_rfl) ?_
          obtain ⟨p2, hp63602, hr9⟩ := bind_some hr8
          obtain ⟨hb5, hk2⟩ := getI_idx (f := Value.int .i64) (n := 2) rfl hp63602
          refine p_run 2 [vI p2] [2, 4, 6, 9, 11, 13, 25, 26, 33, 34] (fl' := [(2, .func (.func 103) #[] #[]), (4, pB b5 0), (6, pB b6 0), (9, pB b7 0), (11, vI p1), (13, vI p2), (25, .agg #[vI x0_lo, vI x0_hi]), (26, vI y8), (33, .agg #[vI x1_lo, vI x1_hi]), (34, vI y4)]) (obs := [.prop (0 ≤ y4 ∧ y4 < (2 : Nat)), .prop ((#[vI x1_lo, vI x1_hi] : Array Value)[Int.toNat y4 * 1]? = some (vI p2))]) trivial hf27 (by kernel_rfl) (by kernel_rfl) (.prop hb5 (.prop hk2 .nil)) fun a26 hf28 => ?_
          refine p_done (by kernel_rfl) ?_
          refine n_then ?_
          refine w_reg (by kernel_rfl) ?_
          refine p_run 3 [] [2, 4, 6, 9, 11, 25, 26, 33, 34, 37, 38, 39] (fl' := [(2, .func (.func 103) #[] #[]), (4, pB b5 0), (6, pB b6 0), (9, pB b7 0), (11, vI p1), (25, .agg #[vI x0_lo, vI x0_hi]), (26, vI y8), (33, .agg #[vI x1_lo, vI x1_hi]), (34, vI y4), (37, .func (.func 103) #[] #[]), (38, vI p1), (39, vI p2)]) (obs := []) trivial hf28 (by kernel_rfl) (by kernel_rfl) .nil fun a27 hf29 => ?_
          refine p_inl (i := 3) (d := some 40) (f := 103) (args := #[pB b7 0, vI p1, vI p2]) (N' := 11) hf29 (by kernel_rfl) Try.func103 (by kernel_rfl) fun a28 hf30 => ?_
          refine w_reg (by kernel_rfl) ?_
          refine p_run 4 [] [6, 9] (fl' := [(6, pB b7 0), (9, vI (w64 (p1 - p2)))]) (obs := []) trivial hf30 (by kernel_rfl) (by kernel_rfl) .nil fun a29 hf31 => ?_
          refine p_inl (i := 4) (d := some 10) (f := 89) (args := #[pB b7 0, vI (w64 (p1 - p2))]) (N' := 36) hf31 (by kernel_rfl) Try.func89 (by kernel_rfl) fun a30 hf32 => ?_
          refine w_mid (by kernel_rfl) (fun a w => ∃ z5 : Zone, ∃ y5 : Int, ∃ y6 : Int, ∃ y7 : Bool, Zone.le z4 z5 ∧ Fr a 36 [(0, pB b7 0), (1, vI (w64 (p1 - p2)))] ∧ St z5 (box b7 [vI y5, vI y6, .bool y7, .bool false] 100 :: box b6 [vI 0, vI 0] 41 :: box b5 [vI x1_lo, vI x1_hi] 41 :: box b4 [vI x0_lo, vI x0_hi] 41 :: box b3 [vI 0, vI 0] 41 :: box b2 [vI x1_lo, vI x1_hi] 41 :: box b1 [vI x0_lo, vI x0_hi] 41 :: L) w ∧ (F38_j2 (F38_l2 (F38_l1 fuel x0_lo x0_hi x1_lo x1_hi n2) x1_lo x1_hi y8 p1 n1) p1 y4 p2 y5 y6 y7) = some r) ?_ ?_
          · skip
            refine w_seq (by kernel_rfl) ?_
            refine w_reg (by kernel_rfl) ?_
            refine p_run 5 [.bool y11] [0, 1, 8] (fl' := [(0, pB b7 0), (1, vI (w64 (p1 - p2))), (8, .bool (!y11))]) (obs := [.cell ⟨b7, 2, none⟩ (.bool y11)]) trivial hf32 (by kernel_rfl) (by kernel_rfl) (.cell (hS11.box (i := 0) rfl (j := 2) rfl) .nil) fun a31 hf33 => ?_
            refine p_done (by kernel_rfl) ?_
            refine n_then ?_
            refine w_if hf33 (b := (!y11)) (by kernel_rfl) (fun hb6 => ?_) (fun hb6 => ?_)
            · have hr10 := cond_t hb6 hr9
              refine w_reg (by kernel_rfl) ?_
              refine p_run 7 [] [0, 1, 10, 13, 15] (fl' := [(0, pB b7 0), (1, vI (w64 (p1 - p2))), (10, pB b7 0), (13, .agg #[vI (w64 (p1 - p2)), vI (w64 (p1 - p2))]), (15, pB b7 0)]) (obs := []) trivial hf33 (by kernel_rfl) (by kernel_rfl) .nil fun a32 hf34 => ?_
              refine p_store_eq (i := 7) (j := 0) (b := b7) (off := 0) (vs := [vI (w64 (p1 - p2)), vI (w64 (p1 - p2))]) (cs' := [vI (w64 (p1 - p2)), vI (w64 (p1 - p2)), .bool y11, .bool false]) hS11 hf34 rfl (by kernel_rfl) (by kernel_rfl) rfl fun ww12 a33 hS12 hf35 => ⟨fun _ => trivial, ?_⟩
              refine p_run 2 [] [0, 1, 17] (fl' := [(0, pB b7 0), (1, vI (w64 (p1 - p2))), (17, pB b7 2)]) (obs := []) trivial hf35 (by kernel_rfl) (by kernel_rfl) .nil fun a34 hf36 => ?_
              refine p_store_eq (i := 10) (j := 0) (b := b7) (off := 2) (vs := [.bool true]) (cs' := [vI (w64 (p1 - p2)), vI (w64 (p1 - p2)), .bool true, .bool false]) hS12 hf36 rfl (by kernel_rfl) (by kernel_rfl) rfl fun ww13 a35 hS13 hf37 => ⟨fun _ => trivial, ?_⟩
              refine p_done (by kernel_rfl) ?_
              refine n_then ?_
              have hf38 := Fr.keep (ks := [0, 1]) (r := [(0, pB b7 0), (1, vI (w64 (p1 - p2)))]) hf37 (by kernel_rfl)
              exact ⟨z4, (w64 (p1 - p2)), (w64 (p1 - p2)), true, (Zone.le_refl _), hf38, hS13, hr10⟩
            · have hr11 := cond_f hb6 hr9
              refine w_skip (by kernel_rfl) ?_
              refine n_then ?_
              have hf39 := Fr.keep (ks := [0, 1]) (r := [(0, pB b7 0), (1, vI (w64 (p1 - p2)))]) hf33 (by kernel_rfl)
              exact ⟨z4, y9, y10, y11, (Zone.le_refl _), hf39, hS11, hr11⟩
          · rintro a36 ww14 ⟨z5, y5, y6, y7, k6, hf40, hS14, hr12⟩
            have hS15 := hS14.drew
            refine w_regD (by kernel_rfl) [(0, true), (1, true), (2, true), (3, true), (4, true), (5, true), (6, true), (7, true), (8, true), (9, true), (10, true), (11, true), (12, true), (13, true), (14, true), (15, true), (16, true), (17, true), (18, false)] [18] (fun x => x = ww14.drew) (by kernel_rfl) rfl ?_
            refine p_firstP 5 [] [0, 1, 18, 22] (fl' := [(0, pB b7 0), (1, vI (w64 (p1 - p2))), (18, pB b7 0), (22, pB b7 0)]) (obs := []) hf40 (by kernel_rfl) (by kernel_rfl) (fun _ => .nil) fun a37 hf41 => ?_
            refine p_firstE 1 [vI y5] [0, 1, 18, 23] (fl' := [(0, pB b7 0), (1, vI (w64 (p1 - p2))), (18, pB b7 0), (23, vI y5)]) (obs := [.cell ⟨b7, 0, none⟩ (vI y5)]) (by kernel_rfl) hf41 (by kernel_rfl) (by kernel_rfl) (.cell (hS15.box (i := 0) rfl (j := 0) rfl) .nil) fun a38 hf42 => ?_
            refine p_firstP 6 [] [1, 18, 25, 29] (fl' := [(1, vI (w64 (p1 - p2))), (18, pB b7 0), (25, vI (if (w64 (p1 - p2)) < y5 then (w64 (p1 - p2)) else y5)), (29, pB b7 1)]) (obs := []) hf42 (by kernel_rfl) (by kernel_rfl) (fun _ => .nil) fun a39 hf43 => ?_
            refine p_firstE 1 [vI y6] [1, 18, 25, 30] (fl' := [(1, vI (w64 (p1 - p2))), (18, pB b7 0), (25, vI (if (w64 (p1 - p2)) < y5 then (w64 (p1 - p2)) else y5)), (30, vI y6)]) (obs := [.cell ⟨b7, 1, none⟩ (vI y6)]) (by kernel_rfl) hf43 (by kernel_rfl) (by kernel_rfl) (.cell (hS15.box (i := 0) rfl (j := 1) rfl) .nil) fun a40 hf44 => ?_
            refine p_firstP 5 [] [33, 35] (fl' := [(33, .agg #[vI (if (w64 (p1 - p2)) < y5 then (w64 (p1 - p2)) else y5), vI (if (w64 (p1 - p2)) > y6 then (w64 (p1 - p2)) else y6)]), (35, pB b7 0)]) (obs := []) hf44 (by kernel_rfl) (by kernel_rfl) (fun _ => .nil) fun a41 hf45 => ?_
            refine p_store_eq (i := 18) (j := 0) (b := b7) (off := 0) (vs := [vI (if (w64 (p1 - p2)) < y5 then (w64 (p1 - p2)) else y5), vI (if (w64 (p1 - p2)) > y6 then (w64 (p1 - p2)) else y6)]) (cs' := [vI (if (w64 (p1 - p2)) < y5 then (w64 (p1 - p2)) else y5), vI (if (w64 (p1 - p2)) > y6 then (w64 (p1 - p2)) else y6), .bool y7, .bool false]) hS15 hf45 rfl (by kernel_rfl) (by kernel_rfl) rfl fun ww15 a42 hS16 hf46 => ⟨fun e => absurd e (by decide), ?_⟩
            refine p_done (by kernel_rfl) ?_
            refine p_fall (os := []) (v := .tuple #[]) (obs := []) hf46 (by kernel_rfl) .nil ?_
            refine ⟨_, rfl, fun a43 hf47 => ?_⟩
            refine ⟨fun _ => trivial, ?_⟩
            refine p_done (by kernel_rfl) ?_
            refine p_fall (os := []) (v := .tuple #[]) (obs := []) hf47 (by kernel_rfl) .nil ?_
            refine ⟨_, rfl, fun a44 hf48 => ?_⟩
            refine ⟨fun _ => trivial, ?_⟩
            refine p_done (by kernel_rfl) ?_
            refine n_block ?_
            refine n_then ?_
            refine w_reg (by kernel_rfl) ?_
            refine p_run 2 [] [2, 4, 6, 9, 11, 25, 26, 33, 34] (fl' := [(2, .func (.func 103) #[] #[]), (4, pB b5 0), (6, pB b6 0), (9, pB b7 0), (11, vI p1), (25, .agg #[vI x0_lo, vI x0_hi]), (26, vI y8), (33, .agg #[vI x1_lo, vI x1_hi]), (34, vI (w64 (y4 + (1 : Int))))]) (obs := []) trivial hf48 (by kernel_rfl) (by kernel_rfl) .nil fun a45 hf49 => ?_
            refine p_done (by kernel_rfl) ?_
            refine n_then ?_
            have hf50 := Fr.keep (ks := [2, 4, 6, 9, 11, 25, 26, 33, 34]) (r := [(2, .func (.func 103) #[] #[]), (4, pB b5 0), (6, pB b6 0), (9, pB b7 0), (11, vI p1), (25, .agg #[vI x0_lo, vI x0_hi]), (26, vI y8), (33, .agg #[vI x1_lo, vI x1_hi]), (34, vI (w64 (y4 + (1 : Int))))]) hf49 (by kernel_rfl)
            exact ⟨n1, Nat.lt_succ_self n1, z5, (if (w64 (p1 - p2)) < y5 then (w64 (p1 - p2)) else y5), (if (w64 (p1 - p2)) > y6 then (w64 (p1 - p2)) else y6), y7, (w64 (y4 + (1 : Int))), (Zone.le_trans k5 k6), hf50, hS16, hr12⟩
        · have hr13 := cond_f hb4 hr7
          refine w_exit (id := 2) (by kernel_rfl) ?_
          refine x_then ?_
          refine x_then ?_
          refine x_block ?_
          refine n_block ?_
          refine n_then ?_
          refine w_reg (by kernel_rfl) ?_
          refine p_run 2 [] [2, 4, 6, 9, 25, 26] (fl' := [(2, .func (.func 103) #[] #[]), (4, pB b5 0), (6, pB b6 0), (9, pB b7 0), (25, .agg #[vI x0_lo, vI x0_hi]), (26, vI (w64 (y8 + (1 : Int))))]) (obs := []) trivial hf27 (by kernel_rfl) (by kernel_rfl) .nil fun a46 hf51 => ?_
          refine p_done (by kernel_rfl) ?_
          refine n_then ?_
          have hf52 := Fr.keep (ks := [2, 4, 6, 9, 25, 26]) (r := [(2, .func (.func 103) #[] #[]), (4, pB b5 0), (6, pB b6 0), (9, pB b7 0), (25, .agg #[vI x0_lo, vI x0_hi]), (26, vI (w64 (y8 + (1 : Int))))]) hf51 (by kernel_rfl)
          exact ⟨n2, Nat.lt_succ_self n2, z4, y9, y10, y11, (w64 (y8 + (1 : Int))), (Zone.le_trans k4 k5), hf52, hS11, hr13⟩
      · have hr14 := cond_f hb2 hr4
        refine w_exit (id := 0) (by kernel_rfl) ?_
        refine x_then ?_
        refine x_then ?_
        refine x_block ?_
        refine n_then ?_
        refine w_seq (by kernel_rfl) ?_
        refine w_reg (by kernel_rfl) ?_
        refine p_call (i := 0) (d := some 43) (f := 105) (args := #[pB b7 0]) hf22 (by kernel_rfl) (Φ := fun v w => ∃ z6 : Zone, ∃ y12 : Int, ∃ y13 : Int, ∃ y14 : Int, Zone.le z3 z6 ∧ v = .tuple #[.agg #[vI y12, vI y13], vI y14] ∧ St z6 (box b7 [vI y15, vI y16, .bool y17, .bool false] 100 :: box b6 [vI 0, vI 0] 41 :: box b5 [vI x1_lo, vI x1_hi] 41 :: box b4 [vI x0_lo, vI x0_hi] 41 :: box b3 [vI 0, vI 0] 41 :: box b2 [vI x1_lo, vI x1_hi] 41 :: box b1 [vI x0_lo, vI x0_hi] 41 :: L) w ∧ (F38_j3 y12 y13 y14) = some r) ?_ ?_
        · refine calls_intro (N := 21) Try.func105 (by kernel_rfl) fun a47 hf53 => ?_
          refine w_seq (by kernel_rfl) ?_
          refine w_reg (by kernel_rfl) ?_
          refine p_box (i := 0) (d := (some 2)) (cs := [vI 0, vI 0]) (T := 41) (v := fun b8 => pB b8 0) hS10 hf53 (fun b => by kernel_rfl) fun b8 ww16 a48 hS17 hf54 => ⟨fun _ => trivial, ?_⟩
          refine p_run 1 [] [0, 2] (fl' := [(0, pB b7 0), (2, pB b8 0)]) (obs := []) trivial hf54 (by kernel_rfl) (by kernel_rfl) .nil fun a49 hf55 => ?_
          refine p_done (by kernel_rfl) ?_
          refine n_then ?_
          refine w_seq (by kernel_rfl) ?_
          refine w_seq (by kernel_rfl) ?_
          refine w_reg (by kernel_rfl) ?_
          refine p_run 9 [.bool false, vI y15, vI y16] [0, 2, 8, 12] (fl' := [(0, pB b7 0), (2, pB b8 0), (8, .bool false), (12, .agg #[vI y15, vI y16])]) (obs := [.cell ⟨b7, 3, none⟩ (.bool false), .cell ⟨b7, 0, none⟩ (vI y15), .cell ⟨b7, 1, none⟩ (vI y16)]) trivial hf55 (by kernel_rfl) (by kernel_rfl) (.cell (hS17.box (i := 1) rfl (j := 3) rfl) (.cell (hS17.box (i := 1) rfl (j := 0) rfl) (.cell (hS17.box (i := 1) rfl (j := 1) rfl) .nil))) fun a50 hf56 => ?_
          obtain ⟨r1, hd2, hr15⟩ := bind_some hr14
          refine p_call (i := 9) (d := some 13) (f := 52) (args := #[.agg #[vI y15, vI y16]]) hf56 (by kernel_rfl) (f52_ok fuel y15 y16 r1 hd2 z3 _ _ hS17 ) ?_
          rintro v2 ww17 a51 ⟨z7, k7, rfl, hS18⟩ hf57
          refine ⟨fun _ => trivial, ?_⟩
          refine p_run 2 [] [0, 2, 15] (fl' := [(0, pB b7 0), (2, pB b8 0), (15, .bool (r1 != (0 : Int)))]) (obs := []) trivial hf57 (by kernel_rfl) (by kernel_rfl) .nil fun a52 hf58 => ?_
          refine p_done (by kernel_rfl) ?_
          refine n_then ?_
          refine w_if hf58 (b := (r1 != (0 : Int))) (by kernel_rfl) (fun hb7 => ?_) (fun hb7 => ?_)
          · have hr16 := cond_t hb7 hr15
            refine w_seq (by kernel_rfl) ?_
            refine w_reg (by kernel_rfl) ?_
            refine p_run 1 [] [2, 16] (fl' := [(2, pB b8 0), (16, .agg #[vI 0, vI 0])]) (obs := []) trivial hf58 (by kernel_rfl) (by kernel_rfl) .nil fun a53 hf59 => ?_
            refine p_store_eq (i := 1) (j := 0) (b := b8) (off := 0) (vs := [vI 0, vI 0]) (cs' := [vI 0, vI 0]) hS18 hf59 rfl (by kernel_rfl) (by kernel_rfl) rfl fun ww18 a54 hS19 hf60 => ⟨fun _ => trivial, ?_⟩
            refine p_run 1 [] [2, 3] (fl' := [(2, pB b8 0), (3, vI 5)]) (obs := []) trivial hf60 (by kernel_rfl) (by kernel_rfl) .nil fun a55 hf61 => ?_
            refine p_done (by kernel_rfl) ?_
            refine n_then ?_
            refine w_ret (by kernel_rfl) ?_
            refine r_then ?_
            refine p_ret (os := [vI 0, vI 0]) (v := .tuple #[.agg #[vI 0, vI 0], vI 5]) (obs := [.cell ⟨b8, 0, none⟩ (vI 0), .cell ⟨b8, 1, none⟩ (vI 0)]) hf61 (by kernel_rfl) (.cell (hS19.box (i := 0) rfl (j := 0) rfl) (.cell (hS19.box (i := 0) rfl (j := 1) rfl) .nil)) ?_
            exact ⟨_, rfl, z7, 0, 0, 5, k7, rfl, (St.drop 1 hS19), hr16⟩
          · have hr17 := cond_f hb7 hr15
            refine w_skip (by kernel_rfl) ?_
            refine n_then ?_
            refine w_seq (by kernel_rfl) ?_
            refine w_reg (by kernel_rfl) ?_
            refine p_run 4 [vI y15, vI y16] [2, 20] (fl' := [(2, pB b8 0), (20, .agg #[vI y15, vI y16])]) (obs := [.cell ⟨b7, 0, none⟩ (vI y15), .cell ⟨b7, 1, none⟩ (vI y16)]) trivial hf58 (by kernel_rfl) (by kernel_rfl) (.cell (hS18.box (i := 1) rfl (j := 0) rfl) (.cell (hS18.box (i := 1) rfl (j := 1) rfl) .nil)) fun a56 hf62 => ?_
            refine p_store_eq (i := 4) (j := 0) (b := b8) (off := 0) (vs := [vI y15, vI y16]) (cs' := [vI y15, vI y16]) hS18 hf62 rfl (by kernel_rfl) (by kernel_rfl) rfl fun ww19 a57 hS20 hf63 => ⟨fun _ => trivial, ?_⟩
            refine p_run 1 [] [2, 3] (fl' := [(2, pB b8 0), (3, vI 0)]) (obs := []) trivial hf63 (by kernel_rfl) (by kernel_rfl) .nil fun a58 hf64 => ?_
            refine p_done (by kernel_rfl) ?_
            refine n_then ?_
            refine w_ret (by kernel_rfl) ?_
            refine p_ret (os := [vI y15, vI y16]) (v := .tuple #[.agg #[vI y15, vI y16], vI 0]) (obs := [.cell ⟨b8, 0, none⟩ (vI y15), .cell ⟨b8, 1, none⟩ (vI y16)]) hf64 (by kernel_rfl) (.cell (hS20.box (i := 0) rfl (j := 0) rfl) (.cell (hS20.box (i := 0) rfl (j := 1) rfl) .nil)) ?_
            exact ⟨_, rfl, z7, y15, y16, 0, k7, rfl, (St.drop 1 hS20), hr17⟩
        · rintro v3 ww20 a59 ⟨z6, y12, y13, y14, k8, rfl, hS21, hr18⟩ hf65
          refine ⟨fun _ => trivial, ?_⟩
          refine p_run 2 [] [6, 44, 45] (fl' := [(6, pB b6 0), (44, .agg #[vI y12, vI y13]), (45, vI y14)]) (obs := []) trivial hf65 (by kernel_rfl) (by kernel_rfl) .nil fun a60 hf66 => ?_
          refine p_store_eq (i := 3) (j := 1) (b := b6) (off := 0) (vs := [vI y12, vI y13]) (cs' := [vI y12, vI y13]) hS21 hf66 rfl (by kernel_rfl) (by kernel_rfl) rfl fun ww21 a61 hS22 hf67 => ⟨fun _ => trivial, ?_⟩
          refine p_run 1 [] [6, 7] (fl' := [(6, pB b6 0), (7, vI y14)]) (obs := []) trivial hf67 (by kernel_rfl) (by kernel_rfl) .nil fun a62 hf68 => ?_
          refine p_done (by kernel_rfl) ?_
          refine n_then ?_
          refine w_ret (by kernel_rfl) ?_
          refine p_ret (os := [vI y12, vI y13]) (v := .tuple #[.agg #[vI y12, vI y13], vI y14]) (obs := [.cell ⟨b6, 0, none⟩ (vI y12), .cell ⟨b6, 1, none⟩ (vI y13)]) hf68 (by kernel_rfl) (.cell (hS22.box (i := 1) rfl (j := 0) rfl) (.cell (hS22.box (i := 1) rfl (j := 1) rfl) .nil)) ?_
          exact ⟨_, rfl, z6, y12, y13, y14, (Zone.le_trans (Zone.le_trans k3 k4) k8), rfl, (St.drop 4 hS22), hr18⟩
  · rintro v4 ww22 a63 ⟨z1, y1, y2, y3, k9, rfl, hS23, hr19⟩ hf69
    refine ⟨fun _ => trivial, ?_⟩
    refine p_run 2 [] [4, 9, 10] (fl' := [(4, pB b3 0), (9, .agg #[vI y1, vI y2]), (10, vI y3)]) (obs := []) trivial hf69 (by kernel_rfl) (by kernel_rfl) .nil fun a64 hf70 => ?_
    refine p_store_eq (i := 5) (j := 0) (b := b3) (off := 0) (vs := [vI y1, vI y2]) (cs' := [vI y1, vI y2]) hS23 hf70 rfl (by kernel_rfl) (by kernel_rfl) rfl fun ww23 a65 hS24 hf71 => ⟨fun _ => trivial, ?_⟩
    refine p_run 1 [] [4, 5] (fl' := [(4, pB b3 0), (5, vI y3)]) (obs := []) trivial hf71 (by kernel_rfl) (by kernel_rfl) .nil fun a66 hf72 => ?_
    refine p_done (by kernel_rfl) ?_
    refine n_then ?_
    refine w_ret (by kernel_rfl) ?_
    refine p_ret (os := [vI y1, vI y2]) (v := .tuple #[.agg #[vI y1, vI y2], vI y3]) (obs := [.cell ⟨b3, 0, none⟩ (vI y1), .cell ⟨b3, 1, none⟩ (vI y2)]) hf72 (by kernel_rfl) (.cell (hS24.box (i := 0) rfl (j := 0) rfl) (.cell (hS24.box (i := 0) rfl (j := 1) rfl) .nil)) ?_
    obtain rfl := some_eq hr19
    exact ⟨_, rfl, z1, k9, rfl, (St.drop 3 hS24)⟩
def F40_j4 (k1 : Int → Int → Bool → Int → Option (Int × Int × Int)) (x1 : Int) (y1 : Int) (r1 : Int) (r2 : Int) (y2 : Int) (y3 : Int) (y4 : Bool) : Option (Int × Int × Int) :=
  (k1 (if (w64 ((w64 (r1 * x1)) + r2)) < y2 then (w64 ((w64 (r1 * x1)) + r2)) else y2) (if (w64 ((w64 (r1 * x1)) + r2)) > y3 then (w64 ((w64 (r1 * x1)) + r2)) else y3) y4 (w64 (y1 + (1 : Int))))
def F40_j3 (fuel : Nat) (k1 : Int → Int → Bool → Int → Option (Int × Int × Int)) (x1 : Int) (x2 : Int) (y1 : Int) (p1 : Int) (r1 : Int) (r3 : Int) (y5 : Int) (y6 : Int) (y7 : Bool) : Option (Int × Int × Int) :=
  ((F86 fuel (w64 ((w64 (p1 - (w64 (r1 * x2)))) * x1)) x2).bind fun r2 => (cond (!y7) (F40_j4 k1 x1 y1 r1 r2 (w64 ((w64 (r1 * x1)) + r2)) (w64 ((w64 (r1 * x1)) + r2)) true) (F40_j4 k1 x1 y1 r1 r2 (if (w64 ((w64 (r1 * x1)) + r3)) < y5 then (w64 ((w64 (r1 * x1)) + r3)) else y5) (if (w64 ((w64 (r1 * x1)) + r3)) > y6 then (w64 ((w64 (r1 * x1)) + r3)) else y6) y7)))
def F40_j2 (fuel : Nat) (k1 : Int → Int → Bool → Int → Option (Int × Int × Int)) (x1 : Int) (x2 : Int) (y8 : Int) (y9 : Int) (y10 : Bool) (y1 : Int) (p1 : Int) (r1 : Int) (y11 : Bool) : Option (Int × Int × Int) :=
  (cond y11 (some (0, 0, 5)) ((F85 fuel (w64 ((w64 (p1 - (w64 (r1 * x2)))) * x1)) x2).bind fun r3 => (cond (!y10) (F40_j3 fuel k1 x1 x2 y1 p1 r1 r3 (w64 ((w64 (r1 * x1)) + r3)) (w64 ((w64 (r1 * x1)) + r3)) true) (F40_j3 fuel k1 x1 x2 y1 p1 r1 r3 y8 y9 y10))))
def F40_j5 (y12 : Int) (y13 : Int) (y14 : Int) : Option (Int × Int × Int) :=
  (some (y12, y13, y14))
def F40_l1 (fuel : Nat) (x0_lo : Int) (x0_hi : Int) (x1 : Int) (x2 : Int) : Nat → Int → Int → Bool → Int → Option (Int × Int × Int)
  | 0, _, _, _, _ => none
  | n1 + 1, y8, y9, y10, y1 =>
    let k1 : Int → Int → Bool → Int → Option (Int × Int × Int) := F40_l1 fuel x0_lo x0_hi x1 x2 n1
    (cond (decide (y1 < (2 : Int))) ((getI ([(x0_lo : Int), (x0_hi : Int)]) y1).bind fun p1 => ((F85 fuel p1 x2).bind fun r1 => (cond (x1 != (0 : Int)) ((nz (if (w64 (0 - x1)) > x1 then (w64 (0 - x1)) else x1)).bind fun _ => (F40_j2 fuel k1 x1 x2 y8 y9 y10 y1 p1 r1 (decide ((if (w64 (0 - r1)) > r1 then (w64 (0 - r1)) else r1) > (w64 (Int.tdiv 2000000000000000 (if (w64 (0 - x1)) > x1 then (w64 (0 - x1)) else x1))))))) (F40_j2 fuel k1 x1 x2 y8 y9 y10 y1 p1 r1 false)))) ((F52 fuel y8 y9).bind fun r4 => (cond (r4 != (0 : Int)) (F40_j5 0 0 5) (F40_j5 y8 y9 0))))
def F40_j1 (fuel : Nat) (x0_lo : Int) (x0_hi : Int) (x1 : Int) (x2 : Int) (y15 : Bool) : Option (Int × Int × Int) :=
  (cond y15 (some (0, 0, 1)) (F40_l1 fuel x0_lo x0_hi x1 x2 fuel 0 0 false 0))
def F40 (fuel : Nat) (x0_lo : Int) (x0_hi : Int) (x1 : Int) (x2 : Int) : Option (Int × Int × Int) :=
  ((F52 fuel x0_lo x0_hi).bind fun r5 => (cond (r5 != (0 : Int)) (some (0, 0, r5)) ((F90 fuel x1 (-1000000000) 1000000000).bind fun r6 => (cond (!r6) (F40_j1 fuel x0_lo x0_hi x1 x2 true) ((F90 fuel x2 1 1000000000).bind fun r7 => (F40_j1 fuel x0_lo x0_hi x1 x2 (!r7)))))))
set_option maxRecDepth 100000 in
theorem f40_ok (fuel : Nat) (x0_lo : Int) (x0_hi : Int) (x1 : Int) (x2 : Int) (r : Int × Int × Int) (hr : F40 fuel x0_lo x0_hi x1 x2 = some r) (h : Zone) (L : List Atom) (w : World) (hS : St h L w)  :
    Calls Try.prog 40 #[.agg #[vI x0_lo, vI x0_hi], vI x1, vI x2] w fun e w' => ∃ v, e = .returned v ∧ (∃ h', Zone.le h h' ∧ v = .tuple #[.agg #[vI r.1, vI r.2.1], vI r.2.2] ∧ St h' L w') := by
  refine calls_intro (N := 86) Try.func40 (by kernel_rfl) fun a hf => ?_
  refine w_seq (by kernel_rfl) ?_
  refine w_reg (by kernel_rfl) ?_
  refine p_box (i := 0) (d := (some 3)) (cs := [vI x0_lo, vI x0_hi]) (T := 41) (v := fun b1 => pB b1 0) hS hf (fun b => by kernel_rfl) fun b1 ww1 a1 hS1 hf1 => ⟨fun _ => trivial, ?_⟩
  refine p_box (i := 1) (d := (some 6)) (cs := [vI 0, vI 0]) (T := 41) (v := fun b2 => pB b2 0) hS1 hf1 (fun b => by kernel_rfl) fun b2 ww2 a2 hS2 hf2 => ⟨fun _ => trivial, ?_⟩
  refine p_run 1 [] [1, 2, 3, 6] (fl' := [(1, vI x1), (2, vI x2), (3, pB b1 0), (6, pB b2 0)]) (obs := []) trivial hf2 (by kernel_rfl) (by kernel_rfl) .nil fun a3 hf3 => ?_
  refine p_done (by kernel_rfl) ?_
  refine n_then ?_
  refine w_seq (by kernel_rfl) ?_
  refine w_seq (by kernel_rfl) ?_
  refine w_reg (by kernel_rfl) ?_
  refine p_run 1 [vI x0_lo, vI x0_hi] [1, 2, 3, 6, 15] (fl' := [(1, vI x1), (2, vI x2), (3, pB b1 0), (6, pB b2 0), (15, .agg #[vI x0_lo, vI x0_hi])]) (obs := [.cell ⟨b1, 0, none⟩ (vI x0_lo), .cell ⟨b1, 1, none⟩ (vI x0_hi)]) trivial hf3 (by kernel_rfl) (by kernel_rfl) (.cell (hS2.box (i := 1) rfl (j := 0) rfl) (.cell (hS2.box (i := 1) rfl (j := 1) rfl) .nil)) fun a4 hf4 => ?_
  obtain ⟨r5, hd1, hr1⟩ := bind_some hr
  refine p_call (i := 1) (d := some 16) (f := 52) (args := #[.agg #[vI x0_lo, vI x0_hi]]) hf4 (by kernel_rfl) (f52_ok fuel x0_lo x0_hi r5 hd1 h _ _ hS2 ) ?_
  rintro v1 ww3 a5 ⟨z1, k2, rfl, hS3⟩ hf5
  refine ⟨fun _ => trivial, ?_⟩
  refine p_run 1 [] [1, 2, 3, 6, 8] (fl' := [(1, vI x1), (2, vI x2), (3, pB b1 0), (6, pB b2 0), (8, vI r5)]) (obs := []) trivial hf5 (by kernel_rfl) (by kernel_rfl) .nil fun a6 hf6 => ?_
  refine p_done (by kernel_rfl) ?_
  refine n_then ?_
  refine w_seq (by kernel_rfl) ?_
  refine w_reg (by kernel_rfl) ?_
  refine p_run 2 [] [1, 2, 3, 6, 8, 18] (fl' := [(1, vI x1), (2, vI x2), (3, pB b1 0), (6, pB b2 0), (8, vI r5), (18, .bool (r5 != (0 : Int)))]) (obs := []) trivial hf6 (by kernel_rfl) (by kernel_rfl) .nil fun a7 hf7 => ?_
  refine p_done (by kernel_rfl) ?_
  refine n_then ?_
  refine w_if hf7 (b := (r5 != (0 : Int))) (by kernel_rfl) (fun hb1 => ?_) (fun hb1 => ?_)
  · have hr2 := cond_t hb1 hr1
    refine w_seq (by kernel_rfl) ?_
    refine w_reg (by kernel_rfl) ?_
    refine p_run 2 [] [6, 19, 20] (fl' := [(6, pB b2 0), (19, .agg #[vI 0, vI 0]), (20, vI r5)]) (obs := []) trivial hf7 (by kernel_rfl) (by kernel_rfl) .nil fun a8 hf8 => ?_
    refine p_store_eq (i := 2) (j := 0) (b := b2) (off := 0) (vs := [vI 0, vI 0]) (cs' := [vI 0, vI 0]) hS3 hf8 rfl (by kernel_rfl) (by kernel_rfl) rfl fun ww4 a9 hS4 hf9 => ⟨fun _ => trivial, ?_⟩
    refine p_run 1 [] [6, 7] (fl' := [(6, pB b2 0), (7, vI r5)]) (obs := []) trivial hf9 (by kernel_rfl) (by kernel_rfl) .nil fun a10 hf10 => ?_
    refine p_done (by kernel_rfl) ?_
    refine n_then ?_
    refine w_ret (by kernel_rfl) ?_
    refine r_then ?_
    refine p_ret (os := [vI 0, vI 0]) (v := .tuple #[.agg #[vI 0, vI 0], vI r5]) (obs := [.cell ⟨b2, 0, none⟩ (vI 0), .cell ⟨b2, 1, none⟩ (vI 0)]) hf10 (by kernel_rfl) (.cell (hS4.box (i := 0) rfl (j := 0) rfl) (.cell (hS4.box (i := 0) rfl (j := 1) rfl) .nil)) ?_
    obtain rfl := some_eq hr2
    exact ⟨_, rfl, z1, k2, rfl, (St.drop 2 hS4)⟩
  · have hr3 := cond_f hb1 hr1
    refine w_skip (by kernel_rfl) ?_
    refine n_then ?_
    refine w_seq (by kernel_rfl) ?_
    refine w_mid (by kernel_rfl) (fun a w => ∃ z2 : Zone, ∃ y15 : Bool, Zone.le z1 z2 ∧ Fr a 86 [(1, vI x1), (2, vI x2), (3, pB b1 0), (6, pB b2 0), (28, .bool y15)] ∧ St z2 (box b2 [vI 0, vI 0] 41 :: box b1 [vI x0_lo, vI x0_hi] 41 :: L) w ∧ (F40_j1 fuel x0_lo x0_hi x1 x2 y15) = some r) ?_ ?_
    · skip
      refine w_reg (by kernel_rfl) ?_
      refine p_run 1 [] [1, 2, 3, 6, 21] (fl' := [(1, vI x1), (2, vI x2), (3, pB b1 0), (6, pB b2 0), (21, vI x1)]) (obs := []) trivial hf7 (by kernel_rfl) (by kernel_rfl) .nil fun a11 hf11 => ?_
      obtain ⟨r6, hd2, hr4⟩ := bind_some hr3
      refine p_call (i := 1) (d := some 22) (f := 90) (args := #[vI x1, vI (-1000000000), vI 1000000000]) hf11 (by kernel_rfl) (f90_ok fuel x1 (-1000000000) 1000000000 r6 hd2 z1 _ _ hS3 ) ?_
      rintro v2 ww5 a12 ⟨z3, k3, rfl, hS5⟩ hf12
      refine ⟨fun _ => trivial, ?_⟩
      refine p_run 2 [] [1, 2, 3, 6, 24] (fl' := [(1, vI x1), (2, vI x2), (3, pB b1 0), (6, pB b2 0), (24, .bool (!r6))]) (obs := []) trivial hf12 (by kernel_rfl) (by kernel_rfl) .nil fun a13 hf13 => ?_
      rcases Bool.eq_false_or_eq_true (!r6) with hb2 | hb2
      · have hr5 := cond_t hb2 hr4
        have hf14 := Fr.conv hf13 (congrArg (fun z => ([(1, vI x1), (2, vI x2), (3, pB b1 0), (6, pB b2 0), (24, .bool z)] : FL)) hb2)
        refine p_run 1 [] [1, 2, 3, 6, 24, 25] (fl' := [(1, vI x1), (2, vI x2), (3, pB b1 0), (6, pB b2 0), (24, .bool true), (25, undef)]) (obs := []) trivial hf14 (by kernel_rfl) (by kernel_rfl) .nil fun a14 hf15 => ?_
        refine p_run 1 [] [1, 2, 3, 6, 24, 25, 26] (fl' := [(1, vI x1), (2, vI x2), (3, pB b1 0), (6, pB b2 0), (24, .bool true), (25, undef), (26, undef)]) (obs := []) trivial hf15 (by kernel_rfl) (by kernel_rfl) .nil fun a15 hf16 => ?_
        refine p_run 2 [] [1, 2, 3, 6, 28] (fl' := [(1, vI x1), (2, vI x2), (3, pB b1 0), (6, pB b2 0), (28, .bool true)]) (obs := []) trivial hf16 (by kernel_rfl) (by kernel_rfl) .nil fun a16 hf17 => ?_
        refine p_done (by kernel_rfl) ?_
        refine n_then ?_
        have hf18 := Fr.keep (ks := [1, 2, 3, 6, 28]) (r := [(1, vI x1), (2, vI x2), (3, pB b1 0), (6, pB b2 0), (28, .bool true)]) hf17 (by kernel_rfl)
        exact ⟨z3, true, k3, hf18, hS5, hr5⟩
      · have hr6 := cond_f hb2 hr4
        have hf19 := Fr.conv hf13 (congrArg (fun z => ([(1, vI x1), (2, vI x2), (3, pB b1 0), (6, pB b2 0), (24, .bool z)] : FL)) hb2)
        refine p_run 1 [] [1, 2, 3, 6, 24, 25] (fl' := [(1, vI x1), (2, vI x2), (3, pB b1 0), (6, pB b2 0), (24, .bool false), (25, vI x2)]) (obs := []) trivial hf19 (by kernel_rfl) (by kernel_rfl) .nil fun a17 hf20 => ?_
        obtain ⟨r7, hd3, hr7⟩ := bind_some hr6
        refine p_call (i := 5) (d := some 26) (f := 90) (args := #[vI x2, vI 1, vI 1000000000]) hf20 (by kernel_rfl) (f90_ok fuel x2 1 1000000000 r7 hd3 z3 _ _ hS5 ) ?_
        rintro v3 ww6 a18 ⟨z4, k4, rfl, hS6⟩ hf21
        refine ⟨fun _ => trivial, ?_⟩
        refine p_run 2 [] [1, 2, 3, 6, 28] (fl' := [(1, vI x1), (2, vI x2), (3, pB b1 0), (6, pB b2 0), (28, .bool (!r7))]) (obs := []) trivial hf21 (by kernel_rfl) (by kernel_rfl) .nil fun a19 hf22 => ?_
        refine p_done (by kernel_rfl) ?_
        refine n_then ?_
        have hf23 := Fr.keep (ks := [1, 2, 3, 6, 28]) (r := [(1, vI x1), (2, vI x2), (3, pB b1 0), (6, pB b2 0), (28, .bool (!r7))]) hf22 (by kernel_rfl)
        exact ⟨z4, (!r7), (Zone.le_trans k3 k4), hf23, hS6, hr7⟩
    · rintro a20 ww7 ⟨z2, y15, k5, hf24, hS7, hr8⟩
      refine w_if hf24 (b := y15) (by kernel_rfl) (fun hb3 => ?_) (fun hb3 => ?_)
      · have hr9 := cond_t hb3 hr8
        refine w_seq (by kernel_rfl) ?_
        refine w_reg (by kernel_rfl) ?_
        refine p_run 1 [] [6, 29] (fl' := [(6, pB b2 0), (29, .agg #[vI 0, vI 0])]) (obs := []) trivial hf24 (by kernel_rfl) (by kernel_rfl) .nil fun a21 hf25 => ?_
        refine p_store_eq (i := 1) (j := 0) (b := b2) (off := 0) (vs := [vI 0, vI 0]) (cs' := [vI 0, vI 0]) hS7 hf25 rfl (by kernel_rfl) (by kernel_rfl) rfl fun ww8 a22 hS8 hf26 => ⟨fun _ => trivial, ?_⟩
        refine p_run 1 [] [6, 7] (fl' := [(6, pB b2 0), (7, vI 1)]) (obs := []) trivial hf26 (by kernel_rfl) (by kernel_rfl) .nil fun a23 hf27 => ?_
        refine p_done (by kernel_rfl) ?_
        refine n_then ?_
        refine w_ret (by kernel_rfl) ?_
        refine r_then ?_
        refine p_ret (os := [vI 0, vI 0]) (v := .tuple #[.agg #[vI 0, vI 0], vI 1]) (obs := [.cell ⟨b2, 0, none⟩ (vI 0), .cell ⟨b2, 1, none⟩ (vI 0)]) hf27 (by kernel_rfl) (.cell (hS8.box (i := 0) rfl (j := 0) rfl) (.cell (hS8.box (i := 0) rfl (j := 1) rfl) .nil)) ?_
        obtain rfl := some_eq hr9
        exact ⟨_, rfl, z2, (Zone.le_trans k2 k5), rfl, (St.drop 2 hS8)⟩
      · have hr10 := cond_f hb3 hr8
        refine w_skip (by kernel_rfl) ?_
        refine n_then ?_
        refine w_seq (by kernel_rfl) ?_
        refine w_reg (by kernel_rfl) ?_
        refine p_box (i := 0) (d := (some 9)) (cs := [vI 0, vI 0, .bool false, .bool false]) (T := 100) (v := fun b3 => pB b3 0) hS7 hf24 (fun b => by kernel_rfl) fun b3 ww9 a24 hS9 hf28 => ⟨fun _ => trivial, ?_⟩
        refine p_done (by kernel_rfl) ?_
        refine n_then ?_
        refine w_seq (by kernel_rfl) ?_
        refine w_reg (by kernel_rfl) ?_
        refine p_run 2 [] [1, 2, 3, 6, 9, 10] (fl' := [(1, vI x1), (2, vI x2), (3, pB b1 0), (6, pB b2 0), (9, pB b3 0), (10, .func (.func 89) #[pB b3 0] #[])]) (obs := []) trivial hf28 (by kernel_rfl) (by kernel_rfl) .nil fun a25 hf29 => ?_
        refine p_done (by kernel_rfl) ?_
        refine n_then ?_
        refine w_seq (by kernel_rfl) ?_
        refine w_seq (by kernel_rfl) ?_
        refine w_reg (by kernel_rfl) ?_
        refine p_run 6 [vI x0_lo, vI x0_hi] [1, 2, 6, 9, 10, 35, 36] (fl' := [(1, vI x1), (2, vI x2), (6, pB b2 0), (9, pB b3 0), (10, .func (.func 89) #[pB b3 0] #[]), (35, .agg #[vI x0_lo, vI x0_hi]), (36, vI 0)]) (obs := [.cell ⟨b1, 0, none⟩ (vI x0_lo), .cell ⟨b1, 1, none⟩ (vI x0_hi)]) trivial hf29 (by kernel_rfl) (by kernel_rfl) (.cell (hS9.box (i := 2) rfl (j := 0) rfl) (.cell (hS9.box (i := 2) rfl (j := 1) rfl) .nil)) fun a26 hf30 => ?_
        refine p_done (by kernel_rfl) ?_
        refine n_then ?_
        refine w_block (id := 0) (by kernel_rfl) ?_
        have hf31 := Fr.keep (ks := [1, 2, 6, 9, 10, 35, 36]) (r := [(1, vI x1), (2, vI x2), (6, pB b2 0), (9, pB b3 0), (10, .func (.func 89) #[pB b3 0] #[]), (35, .agg #[vI x0_lo, vI x0_hi]), (36, vI 0)]) hf30 (by kernel_rfl)
        refine w_loop (by kernel_rfl) (fun n a w => ∃ z5 : Zone, ∃ y8 : Int, ∃ y9 : Int, ∃ y10 : Bool, ∃ y1 : Int, Zone.le z2 z5 ∧ Fr a 86 [(1, vI x1), (2, vI x2), (6, pB b2 0), (9, pB b3 0), (10, .func (.func 89) #[pB b3 0] #[]), (35, .agg #[vI x0_lo, vI x0_hi]), (36, vI y1)] ∧ St z5 (box b3 [vI y8, vI y9, .bool y10, .bool false] 100 :: box b2 [vI 0, vI 0] 41 :: box b1 [vI x0_lo, vI x0_hi] 41 :: L) w ∧ (F40_l1 fuel x0_lo x0_hi x1 x2 n y8 y9 y10 y1) = some r) fuel ⟨z2, 0, 0, false, 0, (Zone.le_refl _), hf31, hS9, hr10⟩ ?_
        rintro n2 a27 ww10 ⟨z5, y8, y9, y10, y1, k6, hf32, hS10, hr11⟩
        cases n2 with
        | zero => cases hr11
        | succ n1 =>
        refine w_seq (by kernel_rfl) ?_
        refine w_reg (by kernel_rfl) ?_
        refine p_run 1 [] [1, 2, 6, 9, 10, 35, 36, 37] (fl' := [(1, vI x1), (2, vI x2), (6, pB b2 0), (9, pB b3 0), (10, .func (.func 89) #[pB b3 0] #[]), (35, .agg #[vI x0_lo, vI x0_hi]), (36, vI y1), (37, .bool (decide (y1 < (2 : Int))))]) (obs := []) trivial hf32 (by kernel_rfl) (by kernel_rfl) .nil fun a28 hf33 => ?_
        refine p_done (by kernel_rfl) ?_
        refine n_then ?_
        refine w_seq (by kernel_rfl) ?_
        refine w_if hf33 (b := (decide (y1 < (2 : Int)))) (by kernel_rfl) (fun hb4 => ?_) (fun hb4 => ?_)
        · have hr12 := cond_t hb4 hr11
          refine w_skip (by kernel_rfl) ?_
          refine n_then ?_
          refine w_seq (by kernel_rfl) ?_
          refine w_block (id := 1) (by kernel_rfl) ?_
          refine w_seq (by kernel_rfl) ?_
          refine w_reg (by kernel_rfl) ?_
          obtain ⟨p1, hp5334, hr13⟩ := bind_some hr12
          obtain ⟨hb5, hk1⟩ := getI_idx (f := Value.int .i64) (n := 2) rfl hp5334
          refine p_run 2 [vI p1] [1, 2, 6, 9, 10, 12, 35, 36] (fl' := [(1, vI x1), (2, vI x2), (6, pB b2 0), (9, pB b3 0), (10, .func (.func 89) #[pB b3 0] #[]), (12, vI p1), (35, .agg #[vI x0_lo, vI x0_hi]), (36, vI y1)]) (obs := [.prop (0 ≤ y1 ∧ y1 < (2 : Nat)), .prop ((#[vI x0_lo, vI x0_hi] : Array Value)[Int.toNat y1 * 1]? = some (vI p1))]) trivial hf33 (by kernel_rfl) (by kernel_rfl) (.prop hb5 (.prop hk1 .nil)) fun a29 hf34 => ?_
          refine p_done (by kernel_rfl) ?_
          refine n_then ?_
          refine w_seq (by kernel_rfl) ?_
          refine w_reg (by kernel_rfl) ?_
          refine p_run 2 [] [1, 2, 6, 9, 10, 12, 35, 36, 39, 40] (fl' := [(1, vI x1), (2, vI x2), (6, pB b2 0), (9, pB b3 0), (10, .func (.func 89) #[pB b3 0] #[]), (12, vI p1), (35, .agg #[vI x0_lo, vI x0_hi]), (36, vI y1), (39, vI p1), (40, vI x2)]) (obs := []) trivial hf34 (by kernel_rfl) (by kernel_rfl) .nil fun a30 hf35 => ?_
          obtain ⟨r1, hd4, hr14⟩ := bind_some hr13
          refine p_call (i := 2) (d := some 41) (f := 85) (args := #[vI p1, vI x2]) hf35 (by kernel_rfl) (f85_ok fuel p1 x2 r1 hd4 z5 _ _ hS10 ) ?_
          rintro v4 ww11 a31 ⟨rfl, hS11⟩ hf36
          refine ⟨fun _ => trivial, ?_⟩
          refine p_run 1 [] [1, 2, 6, 9, 10, 12, 13, 35, 36] (fl' := [(1, vI x1), (2, vI x2), (6, pB b2 0), (9, pB b3 0), (10, .func (.func 89) #[pB b3 0] #[]), (12, vI p1), (13, vI r1), (35, .agg #[vI x0_lo, vI x0_hi]), (36, vI y1)]) (obs := []) trivial hf36 (by kernel_rfl) (by kernel_rfl) .nil fun a32 hf37 => ?_
          refine p_done (by kernel_rfl) ?_
          refine n_then ?_
          refine w_seq (by kernel_rfl) ?_
          refine w_mid (by kernel_rfl) (fun a w => ∃ z6 : Zone, ∃ y11 : Bool, Zone.le z5 z6 ∧ Fr a 86 [(1, vI x1), (2, vI x2), (6, pB b2 0), (9, pB b3 0), (10, .func (.func 89) #[pB b3 0] #[]), (12, vI p1), (13, vI r1), (35, .agg #[vI x0_lo, vI x0_hi]), (36, vI y1), (55, .bool y11)] ∧ St z6 (box b3 [vI y8, vI y9, .bool y10, .bool false] 100 :: box b2 [vI 0, vI 0] 41 :: box b1 [vI x0_lo, vI x0_hi] 41 :: L) w ∧ (F40_j2 fuel (F40_l1 fuel x0_lo x0_hi x1 x2 n1) x1 x2 y8 y9 y10 y1 p1 r1 y11) = some r) ?_ ?_
          · skip
            refine w_reg (by kernel_rfl) ?_
            refine p_run 3 [] [1, 2, 6, 9, 10, 12, 13, 35, 36, 44] (fl' := [(1, vI x1), (2, vI x2), (6, pB b2 0), (9, pB b3 0), (10, .func (.func 89) #[pB b3 0] #[]), (12, vI p1), (13, vI r1), (35, .agg #[vI x0_lo, vI x0_hi]), (36, vI y1), (44, .bool (x1 != (0 : Int)))]) (obs := []) trivial hf37 (by kernel_rfl) (by kernel_rfl) .nil fun a33 hf38 => ?_
            rcases Bool.eq_false_or_eq_true (x1 != (0 : Int)) with hb6 | hb6
            · have hr15 := cond_t hb6 hr14
              have hf39 := Fr.conv hf38 (congrArg (fun z => ([(1, vI x1), (2, vI x2), (6, pB b2 0), (9, pB b3 0), (10, .func (.func 89) #[pB b3 0] #[]), (12, vI p1), (13, vI r1), (35, .agg #[vI x0_lo, vI x0_hi]), (36, vI y1), (44, .bool z)] : FL)) hb6)
              obtain ⟨u1, hd5, hr16⟩ := bind_some hr15
              refine p_run 11 [] [1, 2, 6, 9, 10, 12, 13, 35, 36, 45, 46, 47, 48, 49, 50, 51, 52, 53, 54, 55] (fl' := [(1, vI x1), (2, vI x2), (6, pB b2 0), (9, pB b3 0), (10, .func (.func 89) #[pB b3 0] #[]), (12, vI p1), (13, vI r1), (35, .agg #[vI x0_lo, vI x0_hi]), (36, vI y1), (45, vI r1), (46, vI r1), (47, vI (w64 (0 - r1))), (48, vI (if (w64 (0 - r1)) > r1 then (w64 (0 - r1)) else r1)), (49, vI x1), (50, vI x1), (51, vI (w64 (0 - x1))), (52, vI (if (w64 (0 - x1)) > x1 then (w64 (0 - x1)) else x1)), (53, vI (w64 (Int.tdiv 2000000000000000 (if (w64 (0 - x1)) > x1 then (w64 (0 - x1)) else x1)))), (54, .bool (decide ((if (w64 (0 - r1)) > r1 then (w64 (0 - r1)) else r1) > (w64 (Int.tdiv 2000000000000000 (if (w64 (0 - x1)) > x1 then (w64 (0 - x1)) else x1)))))), (55, .bool (decide ((if (w64 (0 - r1)) > r1 then (w64 (0 - r1)) else r1) > (w64 (Int.tdiv 2000000000000000 (if (w64 (0 - x1)) > x1 then (w64 (0 - x1)) else x1))))))]) (obs := [.prop ((if (w64 (0 - x1)) > x1 then (w64 (0 - x1)) else x1) ≠ 0)]) trivial hf39 (by kernel_rfl) (by kernel_rfl) (.prop (nz_spec hd5) .nil) fun a34 hf40 => ?_
              refine p_done (by kernel_rfl) ?_
              refine n_then ?_
              have hf41 := Fr.keep (ks := [1, 2, 6, 9, 10, 12, 13, 35, 36, 55]) (r := [(1, vI x1), (2, vI x2), (6, pB b2 0), (9, pB b3 0), (10, .func (.func 89) #[pB b3 0] #[]), (12, vI p1), (13, vI r1), (35, .agg #[vI x0_lo, vI x0_hi]), (36, vI y1), (55, .bool (decide ((if (w64 (0 - r1)) > r1 then (w64 (0 - r1)) else r1) > (w64 (Int.tdiv 2000000000000000 (if (w64 (0 - x1)) > x1 then (w64 (0 - x1)) else x1))))))]) hf40 (by kernel_rfl)
              exact ⟨z5, (decide ((if (w64 (0 - r1)) > r1 then (w64 (0 - r1)) else r1) > (w64 (Int.tdiv 2000000000000000 (if (w64 (0 - x1)) > x1 then (w64 (0 - x1)) else x1))))), (Zone.le_refl _), hf41, hS11, hr16⟩
            · have hr17 := cond_f hb6 hr14
              have hf42 := Fr.conv hf38 (congrArg (fun z => ([(1, vI x1), (2, vI x2), (6, pB b2 0), (9, pB b3 0), (10, .func (.func 89) #[pB b3 0] #[]), (12, vI p1), (13, vI r1), (35, .agg #[vI x0_lo, vI x0_hi]), (36, vI y1), (44, .bool z)] : FL)) hb6)
              refine p_run 11 [] [1, 2, 6, 9, 10, 12, 13, 35, 36, 45, 46, 47, 48, 49, 50, 51, 52, 53, 54, 55] (fl' := [(1, vI x1), (2, vI x2), (6, pB b2 0), (9, pB b3 0), (10, .func (.func 89) #[pB b3 0] #[]), (12, vI p1), (13, vI r1), (35, .agg #[vI x0_lo, vI x0_hi]), (36, vI y1), (45, undef), (46, undef), (47, undef), (48, undef), (49, undef), (50, undef), (51, undef), (52, undef), (53, undef), (54, undef), (55, .bool false)]) (obs := []) trivial hf42 (by kernel_rfl) (by kernel_rfl) .nil fun a35 hf43 => ?_
              refine p_done (by kernel_rfl) ?_
              refine n_then ?_
              have hf44 := Fr.keep (ks := [1, 2, 6, 9, 10, 12, 13, 35, 36, 55]) (r := [(1, vI x1), (2, vI x2), (6, pB b2 0), (9, pB b3 0), (10, .func (.func 89) #[pB b3 0] #[]), (12, vI p1), (13, vI r1), (35, .agg #[vI x0_lo, vI x0_hi]), (36, vI y1), (55, .bool false)]) hf43 (by kernel_rfl)
              exact ⟨z5, false, (Zone.le_refl _), hf44, hS11, hr17⟩
          · rintro a36 ww12 ⟨z6, y11, k7, hf45, hS12, hr18⟩
            refine w_if hf45 (b := y11) (by kernel_rfl) (fun hb7 => ?_) (fun hb7 => ?_)
            · have hr19 := cond_t hb7 hr18
              refine w_seq (by kernel_rfl) ?_
              refine w_reg (by kernel_rfl) ?_
              refine p_run 1 [] [6, 56] (fl' := [(6, pB b2 0), (56, .agg #[vI 0, vI 0])]) (obs := []) trivial hf45 (by kernel_rfl) (by kernel_rfl) .nil fun a37 hf46 => ?_
              refine p_store_eq (i := 1) (j := 1) (b := b2) (off := 0) (vs := [vI 0, vI 0]) (cs' := [vI 0, vI 0]) hS12 hf46 rfl (by kernel_rfl) (by kernel_rfl) rfl fun ww13 a38 hS13 hf47 => ⟨fun _ => trivial, ?_⟩
              refine p_run 1 [] [6, 7] (fl' := [(6, pB b2 0), (7, vI 5)]) (obs := []) trivial hf47 (by kernel_rfl) (by kernel_rfl) .nil fun a39 hf48 => ?_
              refine p_done (by kernel_rfl) ?_
              refine n_then ?_
              refine w_ret (by kernel_rfl) ?_
              refine r_then ?_
              refine r_block ?_
              refine r_then ?_
              refine r_then ?_
              refine r_block ?_
              refine r_then ?_
              refine p_ret (os := [vI 0, vI 0]) (v := .tuple #[.agg #[vI 0, vI 0], vI 5]) (obs := [.cell ⟨b2, 0, none⟩ (vI 0), .cell ⟨b2, 1, none⟩ (vI 0)]) hf48 (by kernel_rfl) (.cell (hS13.box (i := 1) rfl (j := 0) rfl) (.cell (hS13.box (i := 1) rfl (j := 1) rfl) .nil)) ?_
              obtain rfl := some_eq hr19
              exact ⟨_, rfl, z6, (Zone.le_trans (Zone.le_trans (Zone.le_trans k2 k5) k6) k7), rfl, (St.drop 3 hS13)⟩
            · have hr20 := cond_f hb7 hr18
              refine w_skip (by kernel_rfl) ?_
              refine n_then ?_
              refine w_seq (by kernel_rfl) ?_
              refine w_reg (by kernel_rfl) ?_
              refine p_run 8 [] [1, 2, 6, 9, 10, 13, 14, 35, 36] (fl' := [(1, vI x1), (2, vI x2), (6, pB b2 0), (9, pB b3 0), (10, .func (.func 89) #[pB b3 0] #[]), (13, vI r1), (14, vI (w64 ((w64 (p1 - (w64 (r1 * x2)))) * x1))), (35, .agg #[vI x0_lo, vI x0_hi]), (36, vI y1)]) (obs := []) trivial hf45 (by kernel_rfl) (by kernel_rfl) .nil fun a40 hf49 => ?_
              refine p_done (by kernel_rfl) ?_
              refine n_then ?_
              refine w_seq (by kernel_rfl) ?_
              refine w_reg (by kernel_rfl) ?_
              refine p_run 6 [] [1, 2, 6, 9, 10, 13, 14, 35, 36, 64, 67, 68, 69] (fl' := [(1, vI x1), (2, vI x2), (6, pB b2 0), (9, pB b3 0), (10, .func (.func 89) #[pB b3 0] #[]), (13, vI r1), (14, vI (w64 ((w64 (p1 - (w64 (r1 * x2)))) * x1))), (35, .agg #[vI x0_lo, vI x0_hi]), (36, vI y1), (64, .func (.func 89) #[pB b3 0] #[]), (67, vI (w64 (r1 * x1))), (68, vI (w64 ((w64 (p1 - (w64 (r1 * x2)))) * x1))), (69, vI x2)]) (obs := []) trivial hf49 (by kernel_rfl) (by kernel_rfl) .nil fun a41 hf50 => ?_
              obtain ⟨r3, hd6, hr21⟩ := bind_some hr20
              refine p_call (i := 6) (d := some 70) (f := 85) (args := #[vI (w64 ((w64 (p1 - (w64 (r1 * x2)))) * x1)), vI x2]) hf50 (by kernel_rfl) (f85_ok fuel (w64 ((w64 (p1 - (w64 (r1 * x2)))) * x1)) x2 r3 hd6 z6 _ _ hS12 ) ?_
              rintro v5 ww14 a42 ⟨rfl, hS14⟩ hf51
              refine ⟨fun _ => trivial, ?_⟩
              refine p_run 1 [] [1, 2, 6, 9, 10, 13, 14, 35, 36, 64, 71] (fl' := [(1, vI x1), (2, vI x2), (6, pB b2 0), (9, pB b3 0), (10, .func (.func 89) #[pB b3 0] #[]), (13, vI r1), (14, vI (w64 ((w64 (p1 - (w64 (r1 * x2)))) * x1))), (35, .agg #[vI x0_lo, vI x0_hi]), (36, vI y1), (64, .func (.func 89) #[pB b3 0] #[]), (71, vI (w64 ((w64 (r1 * x1)) + r3)))]) (obs := []) trivial hf51 (by kernel_rfl) (by kernel_rfl) .nil fun a43 hf52 => ?_
              refine p_inl (i := 8) (d := some 72) (f := 89) (args := #[pB b3 0, vI (w64 ((w64 (r1 * x1)) + r3))]) (N' := 36) hf52 (by kernel_rfl) Try.func89 (by kernel_rfl) fun a44 hf53 => ?_
              refine w_mid (by kernel_rfl) (fun a w => ∃ z7 : Zone, ∃ y5 : Int, ∃ y6 : Int, ∃ y7 : Bool, Zone.le z6 z7 ∧ Fr a 36 [(0, pB b3 0), (1, vI (w64 ((w64 (r1 * x1)) + r3)))] ∧ St z7 (box b3 [vI y5, vI y6, .bool y7, .bool false] 100 :: box b2 [vI 0, vI 0] 41 :: box b1 [vI x0_lo, vI x0_hi] 41 :: L) w ∧ (F40_j3 fuel (F40_l1 fuel x0_lo x0_hi x1 x2 n1) x1 x2 y1 p1 r1 r3 y5 y6 y7) = some r) ?_ ?_
              · skip
                refine w_seq (by kernel_rfl) ?_
                refine w_reg (by kernel_rfl) ?_
                refine p_run 5 [.bool y10] [0, 1, 8] (fl' := [(0, pB b3 0), (1, vI (w64 ((w64 (r1 * x1)) + r3))), (8, .bool (!y10))]) (obs := [.cell ⟨b3, 2, none⟩ (.bool y10)]) trivial hf53 (by kernel_rfl) (by kernel_rfl) (.cell (hS14.box (i := 0) rfl (j := 2) rfl) .nil) fun a45 hf54 => ?_
                refine p_done (by kernel_rfl) ?_
                refine n_then ?_
                refine w_if hf54 (b := (!y10)) (by kernel_rfl) (fun hb8 => ?_) (fun hb8 => ?_)
                · have hr22 := cond_t hb8 hr21
                  refine w_reg (by kernel_rfl) ?_
                  refine p_run 7 [] [0, 1, 10, 13, 15] (fl' := [(0, pB b3 0), (1, vI (w64 ((w64 (r1 * x1)) + r3))), (10, pB b3 0), (13, .agg #[vI (w64 ((w64 (r1 * x1)) + r3)), vI (w64 ((w64 (r1 * x1)) + r3))]), (15, pB b3 0)]) (obs := []) trivial hf54 (by kernel_rfl) (by kernel_rfl) .nil fun a46 hf55 => ?_
                  refine p_store_eq (i := 7) (j := 0) (b := b3) (off := 0) (vs := [vI (w64 ((w64 (r1 * x1)) + r3)), vI (w64 ((w64 (r1 * x1)) + r3))]) (cs' := [vI (w64 ((w64 (r1 * x1)) + r3)), vI (w64 ((w64 (r1 * x1)) + r3)), .bool y10, .bool false]) hS14 hf55 rfl (by kernel_rfl) (by kernel_rfl) rfl fun ww15 a47 hS15 hf56 => ⟨fun _ => trivial, ?_⟩
                  refine p_run 2 [] [0, 1, 17] (fl' := [(0, pB b3 0), (1, vI (w64 ((w64 (r1 * x1)) + r3))), (17, pB b3 2)]) (obs := []) trivial hf56 (by kernel_rfl) (by kernel_rfl) .nil fun a48 hf57 => ?_
                  refine p_store_eq (i := 10) (j := 0) (b := b3) (off := 2) (vs := [.bool true]) (cs' := [vI (w64 ((w64 (r1 * x1)) + r3)), vI (w64 ((w64 (r1 * x1)) + r3)), .bool true, .bool false]) hS15 hf57 rfl (by kernel_rfl) (by kernel_rfl) rfl fun ww16 a49 hS16 hf58 => ⟨fun _ => trivial, ?_⟩
                  refine p_done (by kernel_rfl) ?_
                  refine n_then ?_
                  have hf59 := Fr.keep (ks := [0, 1]) (r := [(0, pB b3 0), (1, vI (w64 ((w64 (r1 * x1)) + r3)))]) hf58 (by kernel_rfl)
                  exact ⟨z6, (w64 ((w64 (r1 * x1)) + r3)), (w64 ((w64 (r1 * x1)) + r3)), true, (Zone.le_refl _), hf59, hS16, hr22⟩
                · have hr23 := cond_f hb8 hr21
                  refine w_skip (by kernel_rfl) ?_
                  refine n_then ?_
                  have hf60 := Fr.keep (ks := [0, 1]) (r := [(0, pB b3 0), (1, vI (w64 ((w64 (r1 * x1)) + r3)))]) hf54 (by kernel_rfl)
                  exact ⟨z6, y8, y9, y10, (Zone.le_refl _), hf60, hS14, hr23⟩
              · rintro a50 ww17 ⟨z7, y5, y6, y7, k8, hf61, hS17, hr24⟩
                have hS18 := hS17.drew
                refine w_regD (by kernel_rfl) [(0, true), (1, true), (2, true), (3, true), (4, true), (5, true), (6, true), (7, true), (8, true), (9, true), (10, true), (11, true), (12, true), (13, true), (14, true), (15, true), (16, true), (17, true), (18, false)] [18] (fun x => x = ww17.drew) (by kernel_rfl) rfl ?_
                refine p_firstP 5 [] [0, 1, 18, 22] (fl' := [(0, pB b3 0), (1, vI (w64 ((w64 (r1 * x1)) + r3))), (18, pB b3 0), (22, pB b3 0)]) (obs := []) hf61 (by kernel_rfl) (by kernel_rfl) (fun _ => .nil) fun a51 hf62 => ?_
                refine p_firstE 1 [vI y5] [0, 1, 18, 23] (fl' := [(0, pB b3 0), (1, vI (w64 ((w64 (r1 * x1)) + r3))), (18, pB b3 0), (23, vI y5)]) (obs := [.cell ⟨b3, 0, none⟩ (vI y5)]) (by kernel_rfl) hf62 (by kernel_rfl) (by kernel_rfl) (.cell (hS18.box (i := 0) rfl (j := 0) rfl) .nil) fun a52 hf63 => ?_
                refine p_firstP 6 [] [1, 18, 25, 29] (fl' := [(1, vI (w64 ((w64 (r1 * x1)) + r3))), (18, pB b3 0), (25, vI (if (w64 ((w64 (r1 * x1)) + r3)) < y5 then (w64 ((w64 (r1 * x1)) + r3)) else y5)), (29, pB b3 1)]) (obs := []) hf63 (by kernel_rfl) (by kernel_rfl) (fun _ => .nil) fun a53 hf64 => ?_
                refine p_firstE 1 [vI y6] [1, 18, 25, 30] (fl' := [(1, vI (w64 ((w64 (r1 * x1)) + r3))), (18, pB b3 0), (25, vI (if (w64 ((w64 (r1 * x1)) + r3)) < y5 then (w64 ((w64 (r1 * x1)) + r3)) else y5)), (30, vI y6)]) (obs := [.cell ⟨b3, 1, none⟩ (vI y6)]) (by kernel_rfl) hf64 (by kernel_rfl) (by kernel_rfl) (.cell (hS18.box (i := 0) rfl (j := 1) rfl) .nil) fun a54 hf65 => ?_
                refine p_firstP 5 [] [33, 35] (fl' := [(33, .agg #[vI (if (w64 ((w64 (r1 * x1)) + r3)) < y5 then (w64 ((w64 (r1 * x1)) + r3)) else y5), vI (if (w64 ((w64 (r1 * x1)) + r3)) > y6 then (w64 ((w64 (r1 * x1)) + r3)) else y6)]), (35, pB b3 0)]) (obs := []) hf65 (by kernel_rfl) (by kernel_rfl) (fun _ => .nil) fun a55 hf66 => ?_
                refine p_store_eq (i := 18) (j := 0) (b := b3) (off := 0) (vs := [vI (if (w64 ((w64 (r1 * x1)) + r3)) < y5 then (w64 ((w64 (r1 * x1)) + r3)) else y5), vI (if (w64 ((w64 (r1 * x1)) + r3)) > y6 then (w64 ((w64 (r1 * x1)) + r3)) else y6)]) (cs' := [vI (if (w64 ((w64 (r1 * x1)) + r3)) < y5 then (w64 ((w64 (r1 * x1)) + r3)) else y5), vI (if (w64 ((w64 (r1 * x1)) + r3)) > y6 then (w64 ((w64 (r1 * x1)) + r3)) else y6), .bool y7, .bool false]) hS18 hf66 rfl (by kernel_rfl) (by kernel_rfl) rfl fun ww18 a56 hS19 hf67 => ⟨fun e => absurd e (by decide), ?_⟩
                refine p_done (by kernel_rfl) ?_
                refine p_fall (os := []) (v := .tuple #[]) (obs := []) hf67 (by kernel_rfl) .nil ?_
                refine ⟨_, rfl, fun a57 hf68 => ?_⟩
                refine ⟨fun _ => trivial, ?_⟩
                refine p_done (by kernel_rfl) ?_
                refine n_then ?_
                refine w_reg (by kernel_rfl) ?_
                refine p_run 6 [] [1, 2, 6, 9, 10, 35, 36, 73, 76, 77, 78] (fl' := [(1, vI x1), (2, vI x2), (6, pB b2 0), (9, pB b3 0), (10, .func (.func 89) #[pB b3 0] #[]), (35, .agg #[vI x0_lo, vI x0_hi]), (36, vI y1), (73, .func (.func 89) #[pB b3 0] #[]), (76, vI (w64 (r1 * x1))), (77, vI (w64 ((w64 (p1 - (w64 (r1 * x2)))) * x1))), (78, vI x2)]) (obs := []) trivial hf68 (by kernel_rfl) (by kernel_rfl) .nil fun a58 hf69 => ?_
                obtain ⟨r2, hd7, hr25⟩ := bind_some hr24
                refine p_call (i := 6) (d := some 79) (f := 86) (args := #[vI (w64 ((w64 (p1 - (w64 (r1 * x2)))) * x1)), vI x2]) hf69 (by kernel_rfl) (f86_ok fuel (w64 ((w64 (p1 - (w64 (r1 * x2)))) * x1)) x2 r2 hd7 z7 _ _ hS19 ) ?_
                rintro v6 ww19 a59 ⟨rfl, hS20⟩ hf70
                refine ⟨fun _ => trivial, ?_⟩
                refine p_run 1 [] [1, 2, 6, 9, 10, 35, 36, 73, 80] (fl' := [(1, vI x1), (2, vI x2), (6, pB b2 0), (9, pB b3 0), (10, .func (.func 89) #[pB b3 0] #[]), (35, .agg #[vI x0_lo, vI x0_hi]), (36, vI y1), (73, .func (.func 89) #[pB b3 0] #[]), (80, vI (w64 ((w64 (r1 * x1)) + r2)))]) (obs := []) trivial hf70 (by kernel_rfl) (by kernel_rfl) .nil fun a60 hf71 => ?_
                refine p_inl (i := 8) (d := some 81) (f := 89) (args := #[pB b3 0, vI (w64 ((w64 (r1 * x1)) + r2))]) (N' := 36) hf71 (by kernel_rfl) Try.func89 (by kernel_rfl) fun a61 hf72 => ?_
                refine w_mid (by kernel_rfl) (fun a w => ∃ z8 : Zone, ∃ y2 : Int, ∃ y3 : Int, ∃ y4 : Bool, Zone.le z7 z8 ∧ Fr a 36 [(0, pB b3 0), (1, vI (w64 ((w64 (r1 * x1)) + r2)))] ∧ St z8 (box b3 [vI y2, vI y3, .bool y4, .bool false] 100 :: box b2 [vI 0, vI 0] 41 :: box b1 [vI x0_lo, vI x0_hi] 41 :: L) w ∧ (F40_j4 (F40_l1 fuel x0_lo x0_hi x1 x2 n1) x1 y1 r1 r2 y2 y3 y4) = some r) ?_ ?_
                · skip
                  refine w_seq (by kernel_rfl) ?_
                  refine w_reg (by kernel_rfl) ?_
                  refine p_run 5 [.bool y7] [0, 1, 8] (fl' := [(0, pB b3 0), (1, vI (w64 ((w64 (r1 * x1)) + r2))), (8, .bool (!y7))]) (obs := [.cell ⟨b3, 2, none⟩ (.bool y7)]) trivial hf72 (by kernel_rfl) (by kernel_rfl) (.cell (hS20.box (i := 0) rfl (j := 2) rfl) .nil) fun a62 hf73 => ?_
                  refine p_done (by kernel_rfl) ?_
                  refine n_then ?_
                  refine w_if hf73 (b := (!y7)) (by kernel_rfl) (fun hb9 => ?_) (fun hb9 => ?_)
                  · have hr26 := cond_t hb9 hr25
                    refine w_reg (by kernel_rfl) ?_
                    refine p_run 7 [] [0, 1, 10, 13, 15] (fl' := [(0, pB b3 0), (1, vI (w64 ((w64 (r1 * x1)) + r2))), (10, pB b3 0), (13, .agg #[vI (w64 ((w64 (r1 * x1)) + r2)), vI (w64 ((w64 (r1 * x1)) + r2))]), (15, pB b3 0)]) (obs := []) trivial hf73 (by kernel_rfl) (by kernel_rfl) .nil fun a63 hf74 => ?_
                    refine p_store_eq (i := 7) (j := 0) (b := b3) (off := 0) (vs := [vI (w64 ((w64 (r1 * x1)) + r2)), vI (w64 ((w64 (r1 * x1)) + r2))]) (cs' := [vI (w64 ((w64 (r1 * x1)) + r2)), vI (w64 ((w64 (r1 * x1)) + r2)), .bool y7, .bool false]) hS20 hf74 rfl (by kernel_rfl) (by kernel_rfl) rfl fun ww20 a64 hS21 hf75 => ⟨fun _ => trivial, ?_⟩
                    refine p_run 2 [] [0, 1, 17] (fl' := [(0, pB b3 0), (1, vI (w64 ((w64 (r1 * x1)) + r2))), (17, pB b3 2)]) (obs := []) trivial hf75 (by kernel_rfl) (by kernel_rfl) .nil fun a65 hf76 => ?_
                    refine p_store_eq (i := 10) (j := 0) (b := b3) (off := 2) (vs := [.bool true]) (cs' := [vI (w64 ((w64 (r1 * x1)) + r2)), vI (w64 ((w64 (r1 * x1)) + r2)), .bool true, .bool false]) hS21 hf76 rfl (by kernel_rfl) (by kernel_rfl) rfl fun ww21 a66 hS22 hf77 => ⟨fun _ => trivial, ?_⟩
                    refine p_done (by kernel_rfl) ?_
                    refine n_then ?_
                    have hf78 := Fr.keep (ks := [0, 1]) (r := [(0, pB b3 0), (1, vI (w64 ((w64 (r1 * x1)) + r2)))]) hf77 (by kernel_rfl)
                    exact ⟨z7, (w64 ((w64 (r1 * x1)) + r2)), (w64 ((w64 (r1 * x1)) + r2)), true, (Zone.le_refl _), hf78, hS22, hr26⟩
                  · have hr27 := cond_f hb9 hr25
                    refine w_skip (by kernel_rfl) ?_
                    refine n_then ?_
                    have hf79 := Fr.keep (ks := [0, 1]) (r := [(0, pB b3 0), (1, vI (w64 ((w64 (r1 * x1)) + r2)))]) hf73 (by kernel_rfl)
                    exact ⟨z7, (if (w64 ((w64 (r1 * x1)) + r3)) < y5 then (w64 ((w64 (r1 * x1)) + r3)) else y5), (if (w64 ((w64 (r1 * x1)) + r3)) > y6 then (w64 ((w64 (r1 * x1)) + r3)) else y6), y7, (Zone.le_refl _), hf79, hS20, hr27⟩
                · rintro a67 ww22 ⟨z8, y2, y3, y4, k9, hf80, hS23, hr28⟩
                  have hS24 := hS23.drew
                  refine w_regD (by kernel_rfl) [(0, true), (1, true), (2, true), (3, true), (4, true), (5, true), (6, true), (7, true), (8, true), (9, true), (10, true), (11, true), (12, true), (13, true), (14, true), (15, true), (16, true), (17, true), (18, false)] [18] (fun x => x = ww22.drew) (by kernel_rfl) rfl ?_
                  refine p_firstP 5 [] [0, 1, 18, 22] (fl' := [(0, pB b3 0), (1, vI (w64 ((w64 (r1 * x1)) + r2))), (18, pB b3 0), (22, pB b3 0)]) (obs := []) hf80 (by kernel_rfl) (by kernel_rfl) (fun _ => .nil) fun a68 hf81 => ?_
                  refine p_firstE 1 [vI y2] [0, 1, 18, 23] (fl' := [(0, pB b3 0), (1, vI (w64 ((w64 (r1 * x1)) + r2))), (18, pB b3 0), (23, vI y2)]) (obs := [.cell ⟨b3, 0, none⟩ (vI y2)]) (by kernel_rfl) hf81 (by kernel_rfl) (by kernel_rfl) (.cell (hS24.box (i := 0) rfl (j := 0) rfl) .nil) fun a69 hf82 => ?_
                  refine p_firstP 6 [] [1, 18, 25, 29] (fl' := [(1, vI (w64 ((w64 (r1 * x1)) + r2))), (18, pB b3 0), (25, vI (if (w64 ((w64 (r1 * x1)) + r2)) < y2 then (w64 ((w64 (r1 * x1)) + r2)) else y2)), (29, pB b3 1)]) (obs := []) hf82 (by kernel_rfl) (by kernel_rfl) (fun _ => .nil) fun a70 hf83 => ?_
                  refine p_firstE 1 [vI y3] [1, 18, 25, 30] (fl' := [(1, vI (w64 ((w64 (r1 * x1)) + r2))), (18, pB b3 0), (25, vI (if (w64 ((w64 (r1 * x1)) + r2)) < y2 then (w64 ((w64 (r1 * x1)) + r2)) else y2)), (30, vI y3)]) (obs := [.cell ⟨b3, 1, none⟩ (vI y3)]) (by kernel_rfl) hf83 (by kernel_rfl) (by kernel_rfl) (.cell (hS24.box (i := 0) rfl (j := 1) rfl) .nil) fun a71 hf84 => ?_
                  refine p_firstP 5 [] [33, 35] (fl' := [(33, .agg #[vI (if (w64 ((w64 (r1 * x1)) + r2)) < y2 then (w64 ((w64 (r1 * x1)) + r2)) else y2), vI (if (w64 ((w64 (r1 * x1)) + r2)) > y3 then (w64 ((w64 (r1 * x1)) + r2)) else y3)]), (35, pB b3 0)]) (obs := []) hf84 (by kernel_rfl) (by kernel_rfl) (fun _ => .nil) fun a72 hf85 => ?_
                  refine p_store_eq (i := 18) (j := 0) (b := b3) (off := 0) (vs := [vI (if (w64 ((w64 (r1 * x1)) + r2)) < y2 then (w64 ((w64 (r1 * x1)) + r2)) else y2), vI (if (w64 ((w64 (r1 * x1)) + r2)) > y3 then (w64 ((w64 (r1 * x1)) + r2)) else y3)]) (cs' := [vI (if (w64 ((w64 (r1 * x1)) + r2)) < y2 then (w64 ((w64 (r1 * x1)) + r2)) else y2), vI (if (w64 ((w64 (r1 * x1)) + r2)) > y3 then (w64 ((w64 (r1 * x1)) + r2)) else y3), .bool y4, .bool false]) hS24 hf85 rfl (by kernel_rfl) (by kernel_rfl) rfl fun ww23 a73 hS25 hf86 => ⟨fun e => absurd e (by decide), ?_⟩
                  refine p_done (by kernel_rfl) ?_
                  refine p_fall (os := []) (v := .tuple #[]) (obs := []) hf86 (by kernel_rfl) .nil ?_
                  refine ⟨_, rfl, fun a74 hf87 => ?_⟩
                  refine ⟨fun _ => trivial, ?_⟩
                  refine p_done (by kernel_rfl) ?_
                  refine n_block ?_
                  refine n_then ?_
                  refine w_reg (by kernel_rfl) ?_
                  refine p_run 2 [] [1, 2, 6, 9, 10, 35, 36] (fl' := [(1, vI x1), (2, vI x2), (6, pB b2 0), (9, pB b3 0), (10, .func (.func 89) #[pB b3 0] #[]), (35, .agg #[vI x0_lo, vI x0_hi]), (36, vI (w64 (y1 + (1 : Int))))]) (obs := []) trivial hf87 (by kernel_rfl) (by kernel_rfl) .nil fun a75 hf88 => ?_
                  refine p_done (by kernel_rfl) ?_
                  refine n_then ?_
                  have hf89 := Fr.keep (ks := [1, 2, 6, 9, 10, 35, 36]) (r := [(1, vI x1), (2, vI x2), (6, pB b2 0), (9, pB b3 0), (10, .func (.func 89) #[pB b3 0] #[]), (35, .agg #[vI x0_lo, vI x0_hi]), (36, vI (w64 (y1 + (1 : Int))))]) hf88 (by kernel_rfl)
                  exact ⟨n1, Nat.lt_succ_self n1, z8, (if (w64 ((w64 (r1 * x1)) + r2)) < y2 then (w64 ((w64 (r1 * x1)) + r2)) else y2), (if (w64 ((w64 (r1 * x1)) + r2)) > y3 then (w64 ((w64 (r1 * x1)) + r2)) else y3), y4, (w64 (y1 + (1 : Int))), (Zone.le_trans (Zone.le_trans (Zone.le_trans k6 k7) k8) k9), hf89, hS25, hr28⟩
        · have hr29 := cond_f hb4 hr11
          refine w_exit (id := 0) (by kernel_rfl) ?_
          refine x_then ?_
          refine x_then ?_
          refine x_block ?_
          refine n_then ?_
          refine w_seq (by kernel_rfl) ?_
          refine w_reg (by kernel_rfl) ?_
          refine p_call (i := 0) (d := some 83) (f := 105) (args := #[pB b3 0]) hf33 (by kernel_rfl) (Φ := fun v w => ∃ z9 : Zone, ∃ y12 : Int, ∃ y13 : Int, ∃ y14 : Int, Zone.le z5 z9 ∧ v = .tuple #[.agg #[vI y12, vI y13], vI y14] ∧ St z9 (box b3 [vI y8, vI y9, .bool y10, .bool false] 100 :: box b2 [vI 0, vI 0] 41 :: box b1 [vI x0_lo, vI x0_hi] 41 :: L) w ∧ (F40_j5 y12 y13 y14) = some r) ?_ ?_
          · refine calls_intro (N := 21) Try.func105 (by kernel_rfl) fun a76 hf90 => ?_
            refine w_seq (by kernel_rfl) ?_
            refine w_reg (by kernel_rfl) ?_
            refine p_box (i := 0) (d := (some 2)) (cs := [vI 0, vI 0]) (T := 41) (v := fun b4 => pB b4 0) hS10 hf90 (fun b => by kernel_rfl) fun b4 ww24 a77 hS26 hf91 => ⟨fun _ => trivial, ?_⟩
            refine p_run 1 [] [0, 2] (fl' := [(0, pB b3 0), (2, pB b4 0)]) (obs := []) trivial hf91 (by kernel_rfl) (by kernel_rfl) .nil fun a78 hf92 => ?_
            refine p_done (by kernel_rfl) ?_
            refine n_then ?_
            refine w_seq (by kernel_rfl) ?_
            refine w_seq (by kernel_rfl) ?_
            refine w_reg (by kernel_rfl) ?_
            refine p_run 9 [.bool false, vI y8, vI y9] [0, 2, 8, 12] (fl' := [(0, pB b3 0), (2, pB b4 0), (8, .bool false), (12, .agg #[vI y8, vI y9])]) (obs := [.cell ⟨b3, 3, none⟩ (.bool false), .cell ⟨b3, 0, none⟩ (vI y8), .cell ⟨b3, 1, none⟩ (vI y9)]) trivial hf92 (by kernel_rfl) (by kernel_rfl) (.cell (hS26.box (i := 1) rfl (j := 3) rfl) (.cell (hS26.box (i := 1) rfl (j := 0) rfl) (.cell (hS26.box (i := 1) rfl (j := 1) rfl) .nil))) fun a79 hf93 => ?_
            obtain ⟨r4, hd8, hr30⟩ := bind_some hr29
            refine p_call (i := 9) (d := some 13) (f := 52) (args := #[.agg #[vI y8, vI y9]]) hf93 (by kernel_rfl) (f52_ok fuel y8 y9 r4 hd8 z5 _ _ hS26 ) ?_
            rintro v7 ww25 a80 ⟨z10, k10, rfl, hS27⟩ hf94
            refine ⟨fun _ => trivial, ?_⟩
            refine p_run 2 [] [0, 2, 15] (fl' := [(0, pB b3 0), (2, pB b4 0), (15, .bool (r4 != (0 : Int)))]) (obs := []) trivial hf94 (by kernel_rfl) (by kernel_rfl) .nil fun a81 hf95 => ?_
            refine p_done (by kernel_rfl) ?_
            refine n_then ?_
            refine w_if hf95 (b := (r4 != (0 : Int))) (by kernel_rfl) (fun hb10 => ?_) (fun hb10 => ?_)
            · have hr31 := cond_t hb10 hr30
              refine w_seq (by kernel_rfl) ?_
              refine w_reg (by kernel_rfl) ?_
              refine p_run 1 [] [2, 16] (fl' := [(2, pB b4 0), (16, .agg #[vI 0, vI 0])]) (obs := []) trivial hf95 (by kernel_rfl) (by kernel_rfl) .nil fun a82 hf96 => ?_
              refine p_store_eq (i := 1) (j := 0) (b := b4) (off := 0) (vs := [vI 0, vI 0]) (cs' := [vI 0, vI 0]) hS27 hf96 rfl (by kernel_rfl) (by kernel_rfl) rfl fun ww26 a83 hS28 hf97 => ⟨fun _ => trivial, ?_⟩
              refine p_run 1 [] [2, 3] (fl' := [(2, pB b4 0), (3, vI 5)]) (obs := []) trivial hf97 (by kernel_rfl) (by kernel_rfl) .nil fun a84 hf98 => ?_
              refine p_done (by kernel_rfl) ?_
              refine n_then ?_
              refine w_ret (by kernel_rfl) ?_
              refine r_then ?_
              refine p_ret (os := [vI 0, vI 0]) (v := .tuple #[.agg #[vI 0, vI 0], vI 5]) (obs := [.cell ⟨b4, 0, none⟩ (vI 0), .cell ⟨b4, 1, none⟩ (vI 0)]) hf98 (by kernel_rfl) (.cell (hS28.box (i := 0) rfl (j := 0) rfl) (.cell (hS28.box (i := 0) rfl (j := 1) rfl) .nil)) ?_
              exact ⟨_, rfl, z10, 0, 0, 5, k10, rfl, (St.drop 1 hS28), hr31⟩
            · have hr32 := cond_f hb10 hr30
              refine w_skip (by kernel_rfl) ?_
              refine n_then ?_
              refine w_seq (by kernel_rfl) ?_
              refine w_reg (by kernel_rfl) ?_
              refine p_run 4 [vI y8, vI y9] [2, 20] (fl' := [(2, pB b4 0), (20, .agg #[vI y8, vI y9])]) (obs := [.cell ⟨b3, 0, none⟩ (vI y8), .cell ⟨b3, 1, none⟩ (vI y9)]) trivial hf95 (by kernel_rfl) (by kernel_rfl) (.cell (hS27.box (i := 1) rfl (j := 0) rfl) (.cell (hS27.box (i := 1) rfl (j := 1) rfl) .nil)) fun a85 hf99 => ?_
              refine p_store_eq (i := 4) (j := 0) (b := b4) (off := 0) (vs := [vI y8, vI y9]) (cs' := [vI y8, vI y9]) hS27 hf99 rfl (by kernel_rfl) (by kernel_rfl) rfl fun ww27 a86 hS29 hf100 => ⟨fun _ => trivial, ?_⟩
              refine p_run 1 [] [2, 3] (fl' := [(2, pB b4 0), (3, vI 0)]) (obs := []) trivial hf100 (by kernel_rfl) (by kernel_rfl) .nil fun a87 hf101 => ?_
              refine p_done (by kernel_rfl) ?_
              refine n_then ?_
              refine w_ret (by kernel_rfl) ?_
              refine p_ret (os := [vI y8, vI y9]) (v := .tuple #[.agg #[vI y8, vI y9], vI 0]) (obs := [.cell ⟨b4, 0, none⟩ (vI y8), .cell ⟨b4, 1, none⟩ (vI y9)]) hf101 (by kernel_rfl) (.cell (hS29.box (i := 0) rfl (j := 0) rfl) (.cell (hS29.box (i := 0) rfl (j := 1) rfl) .nil)) ?_
              exact ⟨_, rfl, z10, y8, y9, 0, k10, rfl, (St.drop 1 hS29), hr32⟩
          · rintro v8 ww28 a88 ⟨z9, y12, y13, y14, k11, rfl, hS30, hr33⟩ hf102
            refine ⟨fun _ => trivial, ?_⟩
            refine p_run 2 [] [6, 84, 85] (fl' := [(6, pB b2 0), (84, .agg #[vI y12, vI y13]), (85, vI y14)]) (obs := []) trivial hf102 (by kernel_rfl) (by kernel_rfl) .nil fun a89 hf103 => ?_
            refine p_store_eq (i := 3) (j := 1) (b := b2) (off := 0) (vs := [vI y12, vI y13]) (cs' := [vI y12, vI y13]) hS30 hf103 rfl (by kernel_rfl) (by kernel_rfl) rfl fun ww29 a90 hS31 hf104 => ⟨fun _ => trivial, ?_⟩
            refine p_run 1 [] [6, 7] (fl' := [(6, pB b2 0), (7, vI y14)]) (obs := []) trivial hf104 (by kernel_rfl) (by kernel_rfl) .nil fun a91 hf105 => ?_
            refine p_done (by kernel_rfl) ?_
            refine n_then ?_
            refine w_ret (by kernel_rfl) ?_
            refine p_ret (os := [vI y12, vI y13]) (v := .tuple #[.agg #[vI y12, vI y13], vI y14]) (obs := [.cell ⟨b2, 0, none⟩ (vI y12), .cell ⟨b2, 1, none⟩ (vI y13)]) hf105 (by kernel_rfl) (.cell (hS31.box (i := 1) rfl (j := 0) rfl) (.cell (hS31.box (i := 1) rfl (j := 1) rfl) .nil)) ?_
            obtain rfl := some_eq hr33
            exact ⟨_, rfl, z9, (Zone.le_trans (Zone.le_trans (Zone.le_trans k2 k5) k6) k11), rfl, (St.drop 3 hS31)⟩
def F41 (fuel : Nat) (x0_lo : Int) (x0_hi : Int) (x1_lo : Int) (x1_hi : Int) : Option (Int × Int × Int) :=
  ((F106 fuel x0_lo x0_hi x1_lo x1_hi).bind fun r1 => (cond (r1 != (0 : Int)) (some (0, 0, r1)) (some ((if x1_lo < x0_lo then x1_lo else x0_lo), (if x1_hi > x0_hi then x1_hi else x0_hi), 0))))
set_option maxRecDepth 100000 in
theorem f41_ok (fuel : Nat) (x0_lo : Int) (x0_hi : Int) (x1_lo : Int) (x1_hi : Int) (r : Int × Int × Int) (hr : F41 fuel x0_lo x0_hi x1_lo x1_hi = some r) (h : Zone) (L : List Atom) (w : World) (hS : St h L w)  :
    Calls Try.prog 41 #[.agg #[vI x0_lo, vI x0_hi], .agg #[vI x1_lo, vI x1_hi]] w fun e w' => ∃ v, e = .returned v ∧ (∃ h', Zone.le h h' ∧ v = .tuple #[.agg #[vI r.1, vI r.2.1], vI r.2.2] ∧ St h' L w') := by
  refine calls_intro (N := 25) Try.func41 (by kernel_rfl) fun a hf => ?_
  refine w_seq (by kernel_rfl) ?_
  refine w_reg (by kernel_rfl) ?_
  refine p_box (i := 0) (d := (some 2)) (cs := [vI x0_lo, vI x0_hi]) (T := 41) (v := fun b1 => pB b1 0) hS hf (fun b => by kernel_rfl) fun b1 ww1 a1 hS1 hf1 => ⟨fun _ => trivial, ?_⟩
  refine p_box (i := 1) (d := (some 3)) (cs := [vI x1_lo, vI x1_hi]) (T := 41) (v := fun b2 => pB b2 0) hS1 hf1 (fun b => by kernel_rfl) fun b2 ww2 a2 hS2 hf2 => ⟨fun _ => trivial, ?_⟩
  refine p_box (i := 2) (d := (some 4)) (cs := [vI 0, vI 0]) (T := 41) (v := fun b3 => pB b3 0) hS2 hf2 (fun b => by kernel_rfl) fun b3 ww3 a3 hS3 hf3 => ⟨fun _ => trivial, ?_⟩
  refine p_run 1 [] [2, 3, 4] (fl' := [(2, pB b1 0), (3, pB b2 0), (4, pB b3 0)]) (obs := []) trivial hf3 (by kernel_rfl) (by kernel_rfl) .nil fun a4 hf4 => ?_
  refine p_done (by kernel_rfl) ?_
  refine n_then ?_
  refine w_seq (by kernel_rfl) ?_
  refine w_seq (by kernel_rfl) ?_
  refine w_reg (by kernel_rfl) ?_
  refine p_run 2 [vI x0_lo, vI x0_hi, vI x1_lo, vI x1_hi] [2, 3, 4, 7, 8] (fl' := [(2, pB b1 0), (3, pB b2 0), (4, pB b3 0), (7, .agg #[vI x0_lo, vI x0_hi]), (8, .agg #[vI x1_lo, vI x1_hi])]) (obs := [.cell ⟨b1, 0, none⟩ (vI x0_lo), .cell ⟨b1, 1, none⟩ (vI x0_hi), .cell ⟨b2, 0, none⟩ (vI x1_lo), .cell ⟨b2, 1, none⟩ (vI x1_hi)]) trivial hf4 (by kernel_rfl) (by kernel_rfl) (.cell (hS3.box (i := 2) rfl (j := 0) rfl) (.cell (hS3.box (i := 2) rfl (j := 1) rfl) (.cell (hS3.box (i := 1) rfl (j := 0) rfl) (.cell (hS3.box (i := 1) rfl (j := 1) rfl) .nil)))) fun a5 hf5 => ?_
  obtain ⟨r1, hd1, hr1⟩ := bind_some hr
  refine p_call (i := 2) (d := some 9) (f := 106) (args := #[.agg #[vI x0_lo, vI x0_hi], .agg #[vI x1_lo, vI x1_hi]]) hf5 (by kernel_rfl) (f106_ok fuel x0_lo x0_hi x1_lo x1_hi r1 hd1 h _ _ hS3 ) ?_
  rintro v1 ww4 a6 ⟨z1, k1, rfl, hS4⟩ hf6
  refine ⟨fun _ => trivial, ?_⟩
  refine p_run 1 [] [2, 3, 4, 6] (fl' := [(2, pB b1 0), (3, pB b2 0), (4, pB b3 0), (6, vI r1)]) (obs := []) trivial hf6 (by kernel_rfl) (by kernel_rfl) .nil fun a7 hf7 => ?_
  refine p_done (by kernel_rfl) ?_
  refine n_then ?_
  refine w_seq (by kernel_rfl) ?_
  refine w_reg (by kernel_rfl) ?_
  refine p_run 2 [] [2, 3, 4, 6, 11] (fl' := [(2, pB b1 0), (3, pB b2 0), (4, pB b3 0), (6, vI r1), (11, .bool (r1 != (0 : Int)))]) (obs := []) trivial hf7 (by kernel_rfl) (by kernel_rfl) .nil fun a8 hf8 => ?_
  refine p_done (by kernel_rfl) ?_
  refine n_then ?_
  refine w_if hf8 (b := (r1 != (0 : Int))) (by kernel_rfl) (fun hb1 => ?_) (fun hb1 => ?_)
  · have hr2 := cond_t hb1 hr1
    refine w_seq (by kernel_rfl) ?_
    refine w_reg (by kernel_rfl) ?_
    refine p_run 2 [] [4, 12, 13] (fl' := [(4, pB b3 0), (12, .agg #[vI 0, vI 0]), (13, vI r1)]) (obs := []) trivial hf8 (by kernel_rfl) (by kernel_rfl) .nil fun a9 hf9 => ?_
    refine p_store_eq (i := 2) (j := 0) (b := b3) (off := 0) (vs := [vI 0, vI 0]) (cs' := [vI 0, vI 0]) hS4 hf9 rfl (by kernel_rfl) (by kernel_rfl) rfl fun ww5 a10 hS5 hf10 => ⟨fun _ => trivial, ?_⟩
    refine p_run 1 [] [4, 5] (fl' := [(4, pB b3 0), (5, vI r1)]) (obs := []) trivial hf10 (by kernel_rfl) (by kernel_rfl) .nil fun a11 hf11 => ?_
    refine p_done (by kernel_rfl) ?_
    refine n_then ?_
    refine w_ret (by kernel_rfl) ?_
    refine r_then ?_
    refine p_ret (os := [vI 0, vI 0]) (v := .tuple #[.agg #[vI 0, vI 0], vI r1]) (obs := [.cell ⟨b3, 0, none⟩ (vI 0), .cell ⟨b3, 1, none⟩ (vI 0)]) hf11 (by kernel_rfl) (.cell (hS5.box (i := 0) rfl (j := 0) rfl) (.cell (hS5.box (i := 0) rfl (j := 1) rfl) .nil)) ?_
    obtain rfl := some_eq hr2
    exact ⟨_, rfl, z1, k1, rfl, (St.drop 3 hS5)⟩
  · have hr3 := cond_f hb1 hr1
    refine w_skip (by kernel_rfl) ?_
    refine n_then ?_
    refine w_seq (by kernel_rfl) ?_
    refine w_reg (by kernel_rfl) ?_
    refine p_run 11 [vI x0_lo, vI x1_lo, vI x0_hi, vI x1_hi] [4, 24] (fl' := [(4, pB b3 0), (24, .agg #[vI (if x1_lo < x0_lo then x1_lo else x0_lo), vI (if x1_hi > x0_hi then x1_hi else x0_hi)])]) (obs := [.cell ⟨b1, 0, none⟩ (vI x0_lo), .cell ⟨b2, 0, none⟩ (vI x1_lo), .cell ⟨b1, 1, none⟩ (vI x0_hi), .cell ⟨b2, 1, none⟩ (vI x1_hi)]) trivial hf8 (by kernel_rfl) (by kernel_rfl) (.cell (hS4.box (i := 2) rfl (j := 0) rfl) (.cell (hS4.box (i := 1) rfl (j := 0) rfl) (.cell (hS4.box (i := 2) rfl (j := 1) rfl) (.cell (hS4.box (i := 1) rfl (j := 1) rfl) .nil)))) fun a12 hf12 => ?_
    refine p_store_eq (i := 11) (j := 0) (b := b3) (off := 0) (vs := [vI (if x1_lo < x0_lo then x1_lo else x0_lo), vI (if x1_hi > x0_hi then x1_hi else x0_hi)]) (cs' := [vI (if x1_lo < x0_lo then x1_lo else x0_lo), vI (if x1_hi > x0_hi then x1_hi else x0_hi)]) hS4 hf12 rfl (by kernel_rfl) (by kernel_rfl) rfl fun ww6 a13 hS6 hf13 => ⟨fun _ => trivial, ?_⟩
    refine p_run 1 [] [4, 5] (fl' := [(4, pB b3 0), (5, vI 0)]) (obs := []) trivial hf13 (by kernel_rfl) (by kernel_rfl) .nil fun a14 hf14 => ?_
    refine p_done (by kernel_rfl) ?_
    refine n_then ?_
    refine w_ret (by kernel_rfl) ?_
    refine p_ret (os := [vI (if x1_lo < x0_lo then x1_lo else x0_lo), vI (if x1_hi > x0_hi then x1_hi else x0_hi)]) (v := .tuple #[.agg #[vI (if x1_lo < x0_lo then x1_lo else x0_lo), vI (if x1_hi > x0_hi then x1_hi else x0_hi)], vI 0]) (obs := [.cell ⟨b3, 0, none⟩ (vI (if x1_lo < x0_lo then x1_lo else x0_lo)), .cell ⟨b3, 1, none⟩ (vI (if x1_hi > x0_hi then x1_hi else x0_hi))]) hf14 (by kernel_rfl) (.cell (hS6.box (i := 0) rfl (j := 0) rfl) (.cell (hS6.box (i := 0) rfl (j := 1) rfl) .nil)) ?_
    obtain rfl := some_eq hr3
    exact ⟨_, rfl, z1, k1, rfl, (St.drop 3 hS6)⟩
def F34_j1 (y1 : Bool) : Option (Bool) :=
  (some (y1))
def F34 (fuel : Nat) (x0_lo : Int) (x0_hi : Int) : Option (Bool) :=
  (cond (decide ((-1000000000000000 : Int) ≤ x0_lo)) (cond (decide (x0_lo ≤ x0_hi)) (F34_j1 (decide (x0_hi ≤ (1000000000000000 : Int)))) (F34_j1 false)) (F34_j1 false))
set_option maxRecDepth 100000 in
theorem f34_ok (fuel : Nat) (x0_lo : Int) (x0_hi : Int) (r : Bool) (hr : F34 fuel x0_lo x0_hi = some r) (h : Zone) (L : List Atom) (w : World) (hS : St h L w)  :
    Calls Try.prog 34 #[.agg #[vI x0_lo, vI x0_hi]] w fun e w' => ∃ v, e = .returned v ∧ (∃ h', Zone.le h h' ∧ v = .bool r ∧ St h' L w') := by
  refine calls_intro (N := 18) Try.func34 (by kernel_rfl) fun a hf => ?_
  refine w_seq (by kernel_rfl) ?_
  refine w_reg (by kernel_rfl) ?_
  refine p_box (i := 0) (d := (some 1)) (cs := [vI x0_lo, vI x0_hi]) (T := 41) (v := fun b1 => pB b1 0) hS hf (fun b => by kernel_rfl) fun b1 ww1 a1 hS1 hf1 => ⟨fun _ => trivial, ?_⟩
  refine p_run 1 [] [1] (fl' := [(1, pB b1 0)]) (obs := []) trivial hf1 (by kernel_rfl) (by kernel_rfl) .nil fun a2 hf2 => ?_
  refine p_done (by kernel_rfl) ?_
  refine n_then ?_
  refine w_mid (by kernel_rfl) (fun a w => ∃ z1 : Zone, ∃ y1 : Bool, Zone.le h z1 ∧ Fr a 18 [(2, .bool y1)] ∧ St z1 (box b1 [vI x0_lo, vI x0_hi] 41 :: L) w ∧ (F34_j1 y1) = some r) ?_ ?_
  · skip
    refine w_reg (by kernel_rfl) ?_
    refine p_run 4 [vI x0_lo] [1, 6] (fl' := [(1, pB b1 0), (6, .bool (decide ((-1000000000000000 : Int) ≤ x0_lo)))]) (obs := [.cell ⟨b1, 0, none⟩ (vI x0_lo)]) trivial hf2 (by kernel_rfl) (by kernel_rfl) (.cell (hS1.box (i := 0) rfl (j := 0) rfl) .nil) fun a3 hf3 => ?_
    rcases Bool.eq_false_or_eq_true (decide ((-1000000000000000 : Int) ≤ x0_lo)) with hb1 | hb1
    · have hr1 := cond_t hb1 hr
      have hf4 := Fr.conv hf3 (congrArg (fun z => ([(1, pB b1 0), (6, .bool z)] : FL)) hb1)
      refine p_run 7 [vI x0_lo, vI x0_hi] [1, 13] (fl' := [(1, pB b1 0), (13, .bool (decide (x0_lo ≤ x0_hi)))]) (obs := [.cell ⟨b1, 0, none⟩ (vI x0_lo), .cell ⟨b1, 1, none⟩ (vI x0_hi)]) trivial hf4 (by kernel_rfl) (by kernel_rfl) (.cell (hS1.box (i := 0) rfl (j := 0) rfl) (.cell (hS1.box (i := 0) rfl (j := 1) rfl) .nil)) fun a4 hf5 => ?_
      rcases Bool.eq_false_or_eq_true (decide (x0_lo ≤ x0_hi)) with hb2 | hb2
      · have hr2 := cond_t hb2 hr1
        have hf6 := Fr.conv hf5 (congrArg (fun z => ([(1, pB b1 0), (13, .bool z)] : FL)) hb2)
        refine p_run 5 [vI x0_hi] [2] (fl' := [(2, .bool (decide (x0_hi ≤ (1000000000000000 : Int))))]) (obs := [.cell ⟨b1, 1, none⟩ (vI x0_hi)]) trivial hf6 (by kernel_rfl) (by kernel_rfl) (.cell (hS1.box (i := 0) rfl (j := 1) rfl) .nil) fun a5 hf7 => ?_
        refine p_done (by kernel_rfl) ?_
        refine n_then ?_
        have hf8 := Fr.keep (ks := [2]) (r := [(2, .bool (decide (x0_hi ≤ (1000000000000000 : Int))))]) hf7 (by kernel_rfl)
        exact ⟨h, (decide (x0_hi ≤ (1000000000000000 : Int))), (Zone.le_refl _), hf8, hS1, hr2⟩
      · have hr3 := cond_f hb2 hr1
        have hf9 := Fr.conv hf5 (congrArg (fun z => ([(1, pB b1 0), (13, .bool z)] : FL)) hb2)
        refine p_run 5 [] [2] (fl' := [(2, .bool false)]) (obs := []) trivial hf9 (by kernel_rfl) (by kernel_rfl) .nil fun a6 hf10 => ?_
        refine p_done (by kernel_rfl) ?_
        refine n_then ?_
        have hf11 := Fr.keep (ks := [2]) (r := [(2, .bool false)]) hf10 (by kernel_rfl)
        exact ⟨h, false, (Zone.le_refl _), hf11, hS1, hr3⟩
    · have hr4 := cond_f hb1 hr
      have hf12 := Fr.conv hf3 (congrArg (fun z => ([(1, pB b1 0), (6, .bool z)] : FL)) hb1)
      refine p_run 12 [] [2] (fl' := [(2, .bool false)]) (obs := []) trivial hf12 (by kernel_rfl) (by kernel_rfl) .nil fun a7 hf13 => ?_
      refine p_done (by kernel_rfl) ?_
      refine n_then ?_
      have hf14 := Fr.keep (ks := [2]) (r := [(2, .bool false)]) hf13 (by kernel_rfl)
      exact ⟨h, false, (Zone.le_refl _), hf14, hS1, hr4⟩
  · rintro a8 ww2 ⟨z1, y1, k1, hf15, hS2, hr5⟩
    refine w_ret (by kernel_rfl) ?_
    refine p_ret (os := []) (v := .bool y1) (obs := []) hf15 (by kernel_rfl) .nil ?_
    obtain rfl := some_eq hr5
    exact ⟨_, rfl, z1, k1, rfl, (St.drop 1 hS2)⟩
def F107 (fuel : Nat) (x0 : Int) (x1 : Int) : Option (Int × Int × Int) :=
  ((F34 fuel x0 x1).bind fun r1 => (cond (!r1) (some (0, 0, 5)) (some (x0, x1, 0))))
set_option maxRecDepth 100000 in
theorem f107_ok (fuel : Nat) (x0 : Int) (x1 : Int) (r : Int × Int × Int) (hr : F107 fuel x0 x1 = some r) (h : Zone) (L : List Atom) (w : World) (hS : St h L w)  :
    Calls Try.prog 107 #[vI x0, vI x1] w fun e w' => ∃ v, e = .returned v ∧ (∃ h', Zone.le h h' ∧ v = .tuple #[.agg #[vI r.1, vI r.2.1], vI r.2.2] ∧ St h' L w') := by
  refine calls_intro (N := 15) Try.func107 (by kernel_rfl) fun a hf => ?_
  refine w_seq (by kernel_rfl) ?_
  refine w_reg (by kernel_rfl) ?_
  refine p_box (i := 0) (d := (some 4)) (cs := [vI 0, vI 0]) (T := 41) (v := fun b1 => pB b1 0) hS hf (fun b => by kernel_rfl) fun b1 ww1 a1 hS1 hf1 => ⟨fun _ => trivial, ?_⟩
  refine p_run 1 [] [0, 1, 4] (fl' := [(0, vI x0), (1, vI x1), (4, pB b1 0)]) (obs := []) trivial hf1 (by kernel_rfl) (by kernel_rfl) .nil fun a2 hf2 => ?_
  refine p_done (by kernel_rfl) ?_
  refine n_then ?_
  refine w_seq (by kernel_rfl) ?_
  refine w_reg (by kernel_rfl) ?_
  refine p_run 3 [] [4, 9] (fl' := [(4, pB b1 0), (9, .agg #[vI x0, vI x1])]) (obs := []) trivial hf2 (by kernel_rfl) (by kernel_rfl) .nil fun a3 hf3 => ?_
  refine p_box (i := 3) (d := (some 6)) (cs := [vI 0, vI 0]) (T := 41) (v := fun b2 => pB b2 0) hS1 hf3 (fun b => by kernel_rfl) fun b2 ww2 a4 hS2 hf4 => ⟨fun _ => trivial, ?_⟩
  refine p_store_eq (i := 4) (j := 0) (b := b2) (off := 0) (vs := [vI x0, vI x1]) (cs' := [vI x0, vI x1]) hS2 hf4 rfl (by kernel_rfl) (by kernel_rfl) rfl fun ww3 a5 hS3 hf5 => ⟨fun _ => trivial, ?_⟩
  refine p_done (by kernel_rfl) ?_
  refine n_then ?_
  refine w_seq (by kernel_rfl) ?_
  refine w_seq (by kernel_rfl) ?_
  refine w_reg (by kernel_rfl) ?_
  refine p_run 1 [vI x0, vI x1] [4, 6, 10] (fl' := [(4, pB b1 0), (6, pB b2 0), (10, .agg #[vI x0, vI x1])]) (obs := [.cell ⟨b2, 0, none⟩ (vI x0), .cell ⟨b2, 1, none⟩ (vI x1)]) trivial hf5 (by kernel_rfl) (by kernel_rfl) (.cell (hS3.box (i := 0) rfl (j := 0) rfl) (.cell (hS3.box (i := 0) rfl (j := 1) rfl) .nil)) fun a6 hf6 => ?_
  obtain ⟨r1, hd1, hr1⟩ := bind_some hr
  refine p_call (i := 1) (d := some 11) (f := 34) (args := #[.agg #[vI x0, vI x1]]) hf6 (by kernel_rfl) (f34_ok fuel x0 x1 r1 hd1 h _ _ hS3 ) ?_
  rintro v1 ww4 a7 ⟨z1, k1, rfl, hS4⟩ hf7
  refine ⟨fun _ => trivial, ?_⟩
  refine p_run 1 [] [4, 6, 12] (fl' := [(4, pB b1 0), (6, pB b2 0), (12, .bool (!r1))]) (obs := []) trivial hf7 (by kernel_rfl) (by kernel_rfl) .nil fun a8 hf8 => ?_
  refine p_done (by kernel_rfl) ?_
  refine n_then ?_
  refine w_if hf8 (b := (!r1)) (by kernel_rfl) (fun hb1 => ?_) (fun hb1 => ?_)
  · have hr2 := cond_t hb1 hr1
    refine w_seq (by kernel_rfl) ?_
    refine w_reg (by kernel_rfl) ?_
    refine p_run 1 [] [4, 13] (fl' := [(4, pB b1 0), (13, .agg #[vI 0, vI 0])]) (obs := []) trivial hf8 (by kernel_rfl) (by kernel_rfl) .nil fun a9 hf9 => ?_
    refine p_store_eq (i := 1) (j := 1) (b := b1) (off := 0) (vs := [vI 0, vI 0]) (cs' := [vI 0, vI 0]) hS4 hf9 rfl (by kernel_rfl) (by kernel_rfl) rfl fun ww5 a10 hS5 hf10 => ⟨fun _ => trivial, ?_⟩
    refine p_run 1 [] [4, 5] (fl' := [(4, pB b1 0), (5, vI 5)]) (obs := []) trivial hf10 (by kernel_rfl) (by kernel_rfl) .nil fun a11 hf11 => ?_
    refine p_done (by kernel_rfl) ?_
    refine n_then ?_
    refine w_ret (by kernel_rfl) ?_
    refine r_then ?_
    refine p_ret (os := [vI 0, vI 0]) (v := .tuple #[.agg #[vI 0, vI 0], vI 5]) (obs := [.cell ⟨b1, 0, none⟩ (vI 0), .cell ⟨b1, 1, none⟩ (vI 0)]) hf11 (by kernel_rfl) (.cell (hS5.box (i := 1) rfl (j := 0) rfl) (.cell (hS5.box (i := 1) rfl (j := 1) rfl) .nil)) ?_
    obtain rfl := some_eq hr2
    exact ⟨_, rfl, z1, k1, rfl, (St.drop 2 hS5)⟩
  · have hr3 := cond_f hb1 hr1
    refine w_skip (by kernel_rfl) ?_
    refine n_then ?_
    refine w_seq (by kernel_rfl) ?_
    refine w_reg (by kernel_rfl) ?_
    refine p_run 1 [vI x0, vI x1] [4, 14] (fl' := [(4, pB b1 0), (14, .agg #[vI x0, vI x1])]) (obs := [.cell ⟨b2, 0, none⟩ (vI x0), .cell ⟨b2, 1, none⟩ (vI x1)]) trivial hf8 (by kernel_rfl) (by kernel_rfl) (.cell (hS4.box (i := 0) rfl (j := 0) rfl) (.cell (hS4.box (i := 0) rfl (j := 1) rfl) .nil)) fun a12 hf12 => ?_
    refine p_store_eq (i := 1) (j := 1) (b := b1) (off := 0) (vs := [vI x0, vI x1]) (cs' := [vI x0, vI x1]) hS4 hf12 rfl (by kernel_rfl) (by kernel_rfl) rfl fun ww6 a13 hS6 hf13 => ⟨fun _ => trivial, ?_⟩
    refine p_run 1 [] [4, 5] (fl' := [(4, pB b1 0), (5, vI 0)]) (obs := []) trivial hf13 (by kernel_rfl) (by kernel_rfl) .nil fun a14 hf14 => ?_
    refine p_done (by kernel_rfl) ?_
    refine n_then ?_
    refine w_ret (by kernel_rfl) ?_
    refine p_ret (os := [vI x0, vI x1]) (v := .tuple #[.agg #[vI x0, vI x1], vI 0]) (obs := [.cell ⟨b1, 0, none⟩ (vI x0), .cell ⟨b1, 1, none⟩ (vI x1)]) hf14 (by kernel_rfl) (.cell (hS6.box (i := 1) rfl (j := 0) rfl) (.cell (hS6.box (i := 1) rfl (j := 1) rfl) .nil)) ?_
    obtain rfl := some_eq hr3
    exact ⟨_, rfl, z1, k1, rfl, (St.drop 2 hS6)⟩
def F44_j1 (fuel : Nat) (x0_lo : Int) (x0_hi : Int) (x1_lo : Int) (x1_hi : Int) (y1 : Bool) : Option (Int × Int × Int) :=
  (cond y1 (some (0, 0, 10)) ((F107 fuel (w64 (x0_lo + x1_lo)) (w64 (x0_hi + x1_hi))).bind fun r1 => (some (r1.1, r1.2.1, r1.2.2))))
def F44 (fuel : Nat) (x0_lo : Int) (x0_hi : Int) (x1_lo : Int) (x1_hi : Int) : Option (Int × Int × Int) :=
  ((F34 fuel x0_lo x0_hi).bind fun r2 => (cond (!r2) (F44_j1 fuel x0_lo x0_hi x1_lo x1_hi true) ((F34 fuel x1_lo x1_hi).bind fun r3 => (F44_j1 fuel x0_lo x0_hi x1_lo x1_hi (!r3)))))
set_option maxRecDepth 100000 in
theorem f44_ok (fuel : Nat) (x0_lo : Int) (x0_hi : Int) (x1_lo : Int) (x1_hi : Int) (r : Int × Int × Int) (hr : F44 fuel x0_lo x0_hi x1_lo x1_hi = some r) (h : Zone) (L : List Atom) (w : World) (hS : St h L w)  :
    Calls Try.prog 44 #[.agg #[vI x0_lo, vI x0_hi], .agg #[vI x1_lo, vI x1_hi]] w fun e w' => ∃ v, e = .returned v ∧ (∃ h', Zone.le h h' ∧ v = .tuple #[.agg #[vI r.1, vI r.2.1], vI r.2.2] ∧ St h' L w') := by
  refine calls_intro (N := 28) Try.func44 (by kernel_rfl) fun a hf => ?_
  refine w_seq (by kernel_rfl) ?_
  refine w_reg (by kernel_rfl) ?_
  refine p_box (i := 0) (d := (some 2)) (cs := [vI x0_lo, vI x0_hi]) (T := 41) (v := fun b1 => pB b1 0) hS hf (fun b => by kernel_rfl) fun b1 ww1 a1 hS1 hf1 => ⟨fun _ => trivial, ?_⟩
  refine p_box (i := 1) (d := (some 3)) (cs := [vI x1_lo, vI x1_hi]) (T := 41) (v := fun b2 => pB b2 0) hS1 hf1 (fun b => by kernel_rfl) fun b2 ww2 a2 hS2 hf2 => ⟨fun _ => trivial, ?_⟩
  refine p_box (i := 2) (d := (some 4)) (cs := [vI 0, vI 0]) (T := 41) (v := fun b3 => pB b3 0) hS2 hf2 (fun b => by kernel_rfl) fun b3 ww3 a3 hS3 hf3 => ⟨fun _ => trivial, ?_⟩
  refine p_run 1 [] [2, 3, 4] (fl' := [(2, pB b1 0), (3, pB b2 0), (4, pB b3 0)]) (obs := []) trivial hf3 (by kernel_rfl) (by kernel_rfl) .nil fun a4 hf4 => ?_
  refine p_done (by kernel_rfl) ?_
  refine n_then ?_
  refine w_seq (by kernel_rfl) ?_
  refine w_mid (by kernel_rfl) (fun a w => ∃ z1 : Zone, ∃ y1 : Bool, Zone.le h z1 ∧ Fr a 28 [(2, pB b1 0), (3, pB b2 0), (4, pB b3 0), (13, .bool y1)] ∧ St z1 (box b3 [vI 0, vI 0] 41 :: box b2 [vI x1_lo, vI x1_hi] 41 :: box b1 [vI x0_lo, vI x0_hi] 41 :: L) w ∧ (F44_j1 fuel x0_lo x0_hi x1_lo x1_hi y1) = some r) ?_ ?_
  · skip
    refine w_reg (by kernel_rfl) ?_
    refine p_run 1 [vI x0_lo, vI x0_hi] [2, 3, 4, 6] (fl' := [(2, pB b1 0), (3, pB b2 0), (4, pB b3 0), (6, .agg #[vI x0_lo, vI x0_hi])]) (obs := [.cell ⟨b1, 0, none⟩ (vI x0_lo), .cell ⟨b1, 1, none⟩ (vI x0_hi)]) trivial hf4 (by kernel_rfl) (by kernel_rfl) (.cell (hS3.box (i := 2) rfl (j := 0) rfl) (.cell (hS3.box (i := 2) rfl (j := 1) rfl) .nil)) fun a5 hf5 => ?_
    obtain ⟨r2, hd1, hr1⟩ := bind_some hr
    refine p_call (i := 1) (d := some 7) (f := 34) (args := #[.agg #[vI x0_lo, vI x0_hi]]) hf5 (by kernel_rfl) (f34_ok fuel x0_lo x0_hi r2 hd1 h _ _ hS3 ) ?_
    rintro v1 ww4 a6 ⟨z2, k1, rfl, hS4⟩ hf6
    refine ⟨fun _ => trivial, ?_⟩
    refine p_run 2 [] [2, 3, 4, 9] (fl' := [(2, pB b1 0), (3, pB b2 0), (4, pB b3 0), (9, .bool (!r2))]) (obs := []) trivial hf6 (by kernel_rfl) (by kernel_rfl) .nil fun a7 hf7 => ?_
    rcases Bool.eq_false_or_eq_true (!r2) with hb1 | hb1
    · have hr2 := cond_t hb1 hr1
      have hf8 := Fr.conv hf7 (congrArg (fun z => ([(2, pB b1 0), (3, pB b2 0), (4, pB b3 0), (9, .bool z)] : FL)) hb1)
      refine p_run 1 [] [2, 3, 4, 9, 10] (fl' := [(2, pB b1 0), (3, pB b2 0), (4, pB b3 0), (9, .bool true), (10, undef)]) (obs := []) trivial hf8 (by kernel_rfl) (by kernel_rfl) .nil fun a8 hf9 => ?_
      refine p_run 1 [] [2, 3, 4, 9, 10, 11] (fl' := [(2, pB b1 0), (3, pB b2 0), (4, pB b3 0), (9, .bool true), (10, undef), (11, undef)]) (obs := []) trivial hf9 (by kernel_rfl) (by kernel_rfl) .nil fun a9 hf10 => ?_
      refine p_run 2 [] [2, 3, 4, 13] (fl' := [(2, pB b1 0), (3, pB b2 0), (4, pB b3 0), (13, .bool true)]) (obs := []) trivial hf10 (by kernel_rfl) (by kernel_rfl) .nil fun a10 hf11 => ?_
      refine p_done (by kernel_rfl) ?_
      refine n_then ?_
      have hf12 := Fr.keep (ks := [2, 3, 4, 13]) (r := [(2, pB b1 0), (3, pB b2 0), (4, pB b3 0), (13, .bool true)]) hf11 (by kernel_rfl)
      exact ⟨z2, true, k1, hf12, hS4, hr2⟩
    · have hr3 := cond_f hb1 hr1
      have hf13 := Fr.conv hf7 (congrArg (fun z => ([(2, pB b1 0), (3, pB b2 0), (4, pB b3 0), (9, .bool z)] : FL)) hb1)
      refine p_run 1 [vI x1_lo, vI x1_hi] [2, 3, 4, 9, 10] (fl' := [(2, pB b1 0), (3, pB b2 0), (4, pB b3 0), (9, .bool false), (10, .agg #[vI x1_lo, vI x1_hi])]) (obs := [.cell ⟨b2, 0, none⟩ (vI x1_lo), .cell ⟨b2, 1, none⟩ (vI x1_hi)]) trivial hf13 (by kernel_rfl) (by kernel_rfl) (.cell (hS4.box (i := 1) rfl (j := 0) rfl) (.cell (hS4.box (i := 1) rfl (j := 1) rfl) .nil)) fun a11 hf14 => ?_
      obtain ⟨r3, hd2, hr4⟩ := bind_some hr3
      refine p_call (i := 5) (d := some 11) (f := 34) (args := #[.agg #[vI x1_lo, vI x1_hi]]) hf14 (by kernel_rfl) (f34_ok fuel x1_lo x1_hi r3 hd2 z2 _ _ hS4 ) ?_
      rintro v2 ww5 a12 ⟨z3, k2, rfl, hS5⟩ hf15
      refine ⟨fun _ => trivial, ?_⟩
      refine p_run 2 [] [2, 3, 4, 13] (fl' := [(2, pB b1 0), (3, pB b2 0), (4, pB b3 0), (13, .bool (!r3))]) (obs := []) trivial hf15 (by kernel_rfl) (by kernel_rfl) .nil fun a13 hf16 => ?_
      refine p_done (by kernel_rfl) ?_
      refine n_then ?_
      have hf17 := Fr.keep (ks := [2, 3, 4, 13]) (r := [(2, pB b1 0), (3, pB b2 0), (4, pB b3 0), (13, .bool (!r3))]) hf16 (by kernel_rfl)
      exact ⟨z3, (!r3), (Zone.le_trans k1 k2), hf17, hS5, hr4⟩
  · rintro a14 ww6 ⟨z1, y1, k3, hf18, hS6, hr5⟩
    refine w_if hf18 (b := y1) (by kernel_rfl) (fun hb2 => ?_) (fun hb2 => ?_)
    · have hr6 := cond_t hb2 hr5
      refine w_seq (by kernel_rfl) ?_
      refine w_reg (by kernel_rfl) ?_
      refine p_run 1 [] [4, 14] (fl' := [(4, pB b3 0), (14, .agg #[vI 0, vI 0])]) (obs := []) trivial hf18 (by kernel_rfl) (by kernel_rfl) .nil fun a15 hf19 => ?_
      refine p_store_eq (i := 1) (j := 0) (b := b3) (off := 0) (vs := [vI 0, vI 0]) (cs' := [vI 0, vI 0]) hS6 hf19 rfl (by kernel_rfl) (by kernel_rfl) rfl fun ww7 a16 hS7 hf20 => ⟨fun _ => trivial, ?_⟩
      refine p_run 1 [] [4, 5] (fl' := [(4, pB b3 0), (5, vI 10)]) (obs := []) trivial hf20 (by kernel_rfl) (by kernel_rfl) .nil fun a17 hf21 => ?_
      refine p_done (by kernel_rfl) ?_
      refine n_then ?_
      refine w_ret (by kernel_rfl) ?_
      refine r_then ?_
      refine p_ret (os := [vI 0, vI 0]) (v := .tuple #[.agg #[vI 0, vI 0], vI 10]) (obs := [.cell ⟨b3, 0, none⟩ (vI 0), .cell ⟨b3, 1, none⟩ (vI 0)]) hf21 (by kernel_rfl) (.cell (hS7.box (i := 0) rfl (j := 0) rfl) (.cell (hS7.box (i := 0) rfl (j := 1) rfl) .nil)) ?_
      obtain rfl := some_eq hr6
      exact ⟨_, rfl, z1, k3, rfl, (St.drop 3 hS7)⟩
    · have hr7 := cond_f hb2 hr5
      refine w_skip (by kernel_rfl) ?_
      refine n_then ?_
      refine w_seq (by kernel_rfl) ?_
      refine w_reg (by kernel_rfl) ?_
      refine p_run 10 [vI x0_lo, vI x1_lo, vI x0_hi, vI x1_hi] [4, 19, 24] (fl' := [(4, pB b3 0), (19, vI (w64 (x0_lo + x1_lo))), (24, vI (w64 (x0_hi + x1_hi)))]) (obs := [.cell ⟨b1, 0, none⟩ (vI x0_lo), .cell ⟨b2, 0, none⟩ (vI x1_lo), .cell ⟨b1, 1, none⟩ (vI x0_hi), .cell ⟨b2, 1, none⟩ (vI x1_hi)]) trivial hf18 (by kernel_rfl) (by kernel_rfl) (.cell (hS6.box (i := 2) rfl (j := 0) rfl) (.cell (hS6.box (i := 1) rfl (j := 0) rfl) (.cell (hS6.box (i := 2) rfl (j := 1) rfl) (.cell (hS6.box (i := 1) rfl (j := 1) rfl) .nil)))) fun a18 hf22 => ?_
      obtain ⟨r1, hd3, hr8⟩ := bind_some hr7
      refine p_call (i := 10) (d := some 25) (f := 107) (args := #[vI (w64 (x0_lo + x1_lo)), vI (w64 (x0_hi + x1_hi))]) hf22 (by kernel_rfl) (f107_ok fuel (w64 (x0_lo + x1_lo)) (w64 (x0_hi + x1_hi)) r1 hd3 z1 _ _ hS6 ) ?_
      rintro v3 ww8 a19 ⟨z4, k4, rfl, hS8⟩ hf23
      refine ⟨fun _ => trivial, ?_⟩
      refine p_run 2 [] [4, 26, 27] (fl' := [(4, pB b3 0), (26, .agg #[vI r1.1, vI r1.2.1]), (27, vI r1.2.2)]) (obs := []) trivial hf23 (by kernel_rfl) (by kernel_rfl) .nil fun a20 hf24 => ?_
      refine p_store_eq (i := 13) (j := 0) (b := b3) (off := 0) (vs := [vI r1.1, vI r1.2.1]) (cs' := [vI r1.1, vI r1.2.1]) hS8 hf24 rfl (by kernel_rfl) (by kernel_rfl) rfl fun ww9 a21 hS9 hf25 => ⟨fun _ => trivial, ?_⟩
      refine p_run 1 [] [4, 5] (fl' := [(4, pB b3 0), (5, vI r1.2.2)]) (obs := []) trivial hf25 (by kernel_rfl) (by kernel_rfl) .nil fun a22 hf26 => ?_
      refine p_done (by kernel_rfl) ?_
      refine n_then ?_
      refine w_ret (by kernel_rfl) ?_
      refine p_ret (os := [vI r1.1, vI r1.2.1]) (v := .tuple #[.agg #[vI r1.1, vI r1.2.1], vI r1.2.2]) (obs := [.cell ⟨b3, 0, none⟩ (vI r1.1), .cell ⟨b3, 1, none⟩ (vI r1.2.1)]) hf26 (by kernel_rfl) (.cell (hS9.box (i := 0) rfl (j := 0) rfl) (.cell (hS9.box (i := 0) rfl (j := 1) rfl) .nil)) ?_
      obtain rfl := some_eq hr8
      exact ⟨_, rfl, z4, (Zone.le_trans k3 k4), rfl, (St.drop 3 hS9)⟩
def F45_j1 (fuel : Nat) (x0_lo : Int) (x0_hi : Int) (x1_lo : Int) (x1_hi : Int) (y1 : Bool) : Option (Int × Int × Int) :=
  (cond y1 (some (0, 0, 10)) ((F107 fuel (w64 (x0_lo - x1_hi)) (w64 (x0_hi - x1_lo))).bind fun r1 => (some (r1.1, r1.2.1, r1.2.2))))
def F45 (fuel : Nat) (x0_lo : Int) (x0_hi : Int) (x1_lo : Int) (x1_hi : Int) : Option (Int × Int × Int) :=
  ((F34 fuel x0_lo x0_hi).bind fun r2 => (cond (!r2) (F45_j1 fuel x0_lo x0_hi x1_lo x1_hi true) ((F34 fuel x1_lo x1_hi).bind fun r3 => (F45_j1 fuel x0_lo x0_hi x1_lo x1_hi (!r3)))))
set_option maxRecDepth 100000 in
theorem f45_ok (fuel : Nat) (x0_lo : Int) (x0_hi : Int) (x1_lo : Int) (x1_hi : Int) (r : Int × Int × Int) (hr : F45 fuel x0_lo x0_hi x1_lo x1_hi = some r) (h : Zone) (L : List Atom) (w : World) (hS : St h L w)  :
    Calls Try.prog 45 #[.agg #[vI x0_lo, vI x0_hi], .agg #[vI x1_lo, vI x1_hi]] w fun e w' => ∃ v, e = .returned v ∧ (∃ h', Zone.le h h' ∧ v = .tuple #[.agg #[vI r.1, vI r.2.1], vI r.2.2] ∧ St h' L w') := by
  refine calls_intro (N := 28) Try.func45 (by kernel_rfl) fun a hf => ?_
  refine w_seq (by kernel_rfl) ?_
  refine w_reg (by kernel_rfl) ?_
  refine p_box (i := 0) (d := (some 2)) (cs := [vI x0_lo, vI x0_hi]) (T := 41) (v := fun b1 => pB b1 0) hS hf (fun b => by kernel_rfl) fun b1 ww1 a1 hS1 hf1 => ⟨fun _ => trivial, ?_⟩
  refine p_box (i := 1) (d := (some 3)) (cs := [vI x1_lo, vI x1_hi]) (T := 41) (v := fun b2 => pB b2 0) hS1 hf1 (fun b => by kernel_rfl) fun b2 ww2 a2 hS2 hf2 => ⟨fun _ => trivial, ?_⟩
  refine p_box (i := 2) (d := (some 4)) (cs := [vI 0, vI 0]) (T := 41) (v := fun b3 => pB b3 0) hS2 hf2 (fun b => by kernel_rfl) fun b3 ww3 a3 hS3 hf3 => ⟨fun _ => trivial, ?_⟩
  refine p_run 1 [] [2, 3, 4] (fl' := [(2, pB b1 0), (3, pB b2 0), (4, pB b3 0)]) (obs := []) trivial hf3 (by kernel_rfl) (by kernel_rfl) .nil fun a4 hf4 => ?_
  refine p_done (by kernel_rfl) ?_
  refine n_then ?_
  refine w_seq (by kernel_rfl) ?_
  refine w_mid (by kernel_rfl) (fun a w => ∃ z1 : Zone, ∃ y1 : Bool, Zone.le h z1 ∧ Fr a 28 [(2, pB b1 0), (3, pB b2 0), (4, pB b3 0), (13, .bool y1)] ∧ St z1 (box b3 [vI 0, vI 0] 41 :: box b2 [vI x1_lo, vI x1_hi] 41 :: box b1 [vI x0_lo, vI x0_hi] 41 :: L) w ∧ (F45_j1 fuel x0_lo x0_hi x1_lo x1_hi y1) = some r) ?_ ?_
  · skip
    refine w_reg (by kernel_rfl) ?_
    refine p_run 1 [vI x0_lo, vI x0_hi] [2, 3, 4, 6] (fl' := [(2, pB b1 0), (3, pB b2 0), (4, pB b3 0), (6, .agg #[vI x0_lo, vI x0_hi])]) (obs := [.cell ⟨b1, 0, none⟩ (vI x0_lo), .cell ⟨b1, 1, none⟩ (vI x0_hi)]) trivial hf4 (by kernel_rfl) (by kernel_rfl) (.cell (hS3.box (i := 2) rfl (j := 0) rfl) (.cell (hS3.box (i := 2) rfl (j := 1) rfl) .nil)) fun a5 hf5 => ?_
    obtain ⟨r2, hd1, hr1⟩ := bind_some hr
    refine p_call (i := 1) (d := some 7) (f := 34) (args := #[.agg #[vI x0_lo, vI x0_hi]]) hf5 (by kernel_rfl) (f34_ok fuel x0_lo x0_hi r2 hd1 h _ _ hS3 ) ?_
    rintro v1 ww4 a6 ⟨z2, k1, rfl, hS4⟩ hf6
    refine ⟨fun _ => trivial, ?_⟩
    refine p_run 2 [] [2, 3, 4, 9] (fl' := [(2, pB b1 0), (3, pB b2 0), (4, pB b3 0), (9, .bool (!r2))]) (obs := []) trivial hf6 (by kernel_rfl) (by kernel_rfl) .nil fun a7 hf7 => ?_
    rcases Bool.eq_false_or_eq_true (!r2) with hb1 | hb1
    · have hr2 := cond_t hb1 hr1
      have hf8 := Fr.conv hf7 (congrArg (fun z => ([(2, pB b1 0), (3, pB b2 0), (4, pB b3 0), (9, .bool z)] : FL)) hb1)
      refine p_run 1 [] [2, 3, 4, 9, 10] (fl' := [(2, pB b1 0), (3, pB b2 0), (4, pB b3 0), (9, .bool true), (10, undef)]) (obs := []) trivial hf8 (by kernel_rfl) (by kernel_rfl) .nil fun a8 hf9 => ?_
      refine p_run 1 [] [2, 3, 4, 9, 10, 11] (fl' := [(2, pB b1 0), (3, pB b2 0), (4, pB b3 0), (9, .bool true), (10, undef), (11, undef)]) (obs := []) trivial hf9 (by kernel_rfl) (by kernel_rfl) .nil fun a9 hf10 => ?_
      refine p_run 2 [] [2, 3, 4, 13] (fl' := [(2, pB b1 0), (3, pB b2 0), (4, pB b3 0), (13, .bool true)]) (obs := []) trivial hf10 (by kernel_rfl) (by kernel_rfl) .nil fun a10 hf11 => ?_
      refine p_done (by kernel_rfl) ?_
      refine n_then ?_
      have hf12 := Fr.keep (ks := [2, 3, 4, 13]) (r := [(2, pB b1 0), (3, pB b2 0), (4, pB b3 0), (13, .bool true)]) hf11 (by kernel_rfl)
      exact ⟨z2, true, k1, hf12, hS4, hr2⟩
    · have hr3 := cond_f hb1 hr1
      have hf13 := Fr.conv hf7 (congrArg (fun z => ([(2, pB b1 0), (3, pB b2 0), (4, pB b3 0), (9, .bool z)] : FL)) hb1)
      refine p_run 1 [vI x1_lo, vI x1_hi] [2, 3, 4, 9, 10] (fl' := [(2, pB b1 0), (3, pB b2 0), (4, pB b3 0), (9, .bool false), (10, .agg #[vI x1_lo, vI x1_hi])]) (obs := [.cell ⟨b2, 0, none⟩ (vI x1_lo), .cell ⟨b2, 1, none⟩ (vI x1_hi)]) trivial hf13 (by kernel_rfl) (by kernel_rfl) (.cell (hS4.box (i := 1) rfl (j := 0) rfl) (.cell (hS4.box (i := 1) rfl (j := 1) rfl) .nil)) fun a11 hf14 => ?_
      obtain ⟨r3, hd2, hr4⟩ := bind_some hr3
      refine p_call (i := 5) (d := some 11) (f := 34) (args := #[.agg #[vI x1_lo, vI x1_hi]]) hf14 (by kernel_rfl) (f34_ok fuel x1_lo x1_hi r3 hd2 z2 _ _ hS4 ) ?_
      rintro v2 ww5 a12 ⟨z3, k2, rfl, hS5⟩ hf15
      refine ⟨fun _ => trivial, ?_⟩
      refine p_run 2 [] [2, 3, 4, 13] (fl' := [(2, pB b1 0), (3, pB b2 0), (4, pB b3 0), (13, .bool (!r3))]) (obs := []) trivial hf15 (by kernel_rfl) (by kernel_rfl) .nil fun a13 hf16 => ?_
      refine p_done (by kernel_rfl) ?_
      refine n_then ?_
      have hf17 := Fr.keep (ks := [2, 3, 4, 13]) (r := [(2, pB b1 0), (3, pB b2 0), (4, pB b3 0), (13, .bool (!r3))]) hf16 (by kernel_rfl)
      exact ⟨z3, (!r3), (Zone.le_trans k1 k2), hf17, hS5, hr4⟩
  · rintro a14 ww6 ⟨z1, y1, k3, hf18, hS6, hr5⟩
    refine w_if hf18 (b := y1) (by kernel_rfl) (fun hb2 => ?_) (fun hb2 => ?_)
    · have hr6 := cond_t hb2 hr5
      refine w_seq (by kernel_rfl) ?_
      refine w_reg (by kernel_rfl) ?_
      refine p_run 1 [] [4, 14] (fl' := [(4, pB b3 0), (14, .agg #[vI 0, vI 0])]) (obs := []) trivial hf18 (by kernel_rfl) (by kernel_rfl) .nil fun a15 hf19 => ?_
      refine p_store_eq (i := 1) (j := 0) (b := b3) (off := 0) (vs := [vI 0, vI 0]) (cs' := [vI 0, vI 0]) hS6 hf19 rfl (by kernel_rfl) (by kernel_rfl) rfl fun ww7 a16 hS7 hf20 => ⟨fun _ => trivial, ?_⟩
      refine p_run 1 [] [4, 5] (fl' := [(4, pB b3 0), (5, vI 10)]) (obs := []) trivial hf20 (by kernel_rfl) (by kernel_rfl) .nil fun a17 hf21 => ?_
      refine p_done (by kernel_rfl) ?_
      refine n_then ?_
      refine w_ret (by kernel_rfl) ?_
      refine r_then ?_
      refine p_ret (os := [vI 0, vI 0]) (v := .tuple #[.agg #[vI 0, vI 0], vI 10]) (obs := [.cell ⟨b3, 0, none⟩ (vI 0), .cell ⟨b3, 1, none⟩ (vI 0)]) hf21 (by kernel_rfl) (.cell (hS7.box (i := 0) rfl (j := 0) rfl) (.cell (hS7.box (i := 0) rfl (j := 1) rfl) .nil)) ?_
      obtain rfl := some_eq hr6
      exact ⟨_, rfl, z1, k3, rfl, (St.drop 3 hS7)⟩
    · have hr7 := cond_f hb2 hr5
      refine w_skip (by kernel_rfl) ?_
      refine n_then ?_
      refine w_seq (by kernel_rfl) ?_
      refine w_reg (by kernel_rfl) ?_
      refine p_run 10 [vI x0_lo, vI x1_hi, vI x0_hi, vI x1_lo] [4, 19, 24] (fl' := [(4, pB b3 0), (19, vI (w64 (x0_lo - x1_hi))), (24, vI (w64 (x0_hi - x1_lo)))]) (obs := [.cell ⟨b1, 0, none⟩ (vI x0_lo), .cell ⟨b2, 1, none⟩ (vI x1_hi), .cell ⟨b1, 1, none⟩ (vI x0_hi), .cell ⟨b2, 0, none⟩ (vI x1_lo)]) trivial hf18 (by kernel_rfl) (by kernel_rfl) (.cell (hS6.box (i := 2) rfl (j := 0) rfl) (.cell (hS6.box (i := 1) rfl (j := 1) rfl) (.cell (hS6.box (i := 2) rfl (j := 1) rfl) (.cell (hS6.box (i := 1) rfl (j := 0) rfl) .nil)))) fun a18 hf22 => ?_
      obtain ⟨r1, hd3, hr8⟩ := bind_some hr7
      refine p_call (i := 10) (d := some 25) (f := 107) (args := #[vI (w64 (x0_lo - x1_hi)), vI (w64 (x0_hi - x1_lo))]) hf22 (by kernel_rfl) (f107_ok fuel (w64 (x0_lo - x1_hi)) (w64 (x0_hi - x1_lo)) r1 hd3 z1 _ _ hS6 ) ?_
      rintro v3 ww8 a19 ⟨z4, k4, rfl, hS8⟩ hf23
      refine ⟨fun _ => trivial, ?_⟩
      refine p_run 2 [] [4, 26, 27] (fl' := [(4, pB b3 0), (26, .agg #[vI r1.1, vI r1.2.1]), (27, vI r1.2.2)]) (obs := []) trivial hf23 (by kernel_rfl) (by kernel_rfl) .nil fun a20 hf24 => ?_
      refine p_store_eq (i := 13) (j := 0) (b := b3) (off := 0) (vs := [vI r1.1, vI r1.2.1]) (cs' := [vI r1.1, vI r1.2.1]) hS8 hf24 rfl (by kernel_rfl) (by kernel_rfl) rfl fun ww9 a21 hS9 hf25 => ⟨fun _ => trivial, ?_⟩
      refine p_run 1 [] [4, 5] (fl' := [(4, pB b3 0), (5, vI r1.2.2)]) (obs := []) trivial hf25 (by kernel_rfl) (by kernel_rfl) .nil fun a22 hf26 => ?_
      refine p_done (by kernel_rfl) ?_
      refine n_then ?_
      refine w_ret (by kernel_rfl) ?_
      refine p_ret (os := [vI r1.1, vI r1.2.1]) (v := .tuple #[.agg #[vI r1.1, vI r1.2.1], vI r1.2.2]) (obs := [.cell ⟨b3, 0, none⟩ (vI r1.1), .cell ⟨b3, 1, none⟩ (vI r1.2.1)]) hf26 (by kernel_rfl) (.cell (hS9.box (i := 0) rfl (j := 0) rfl) (.cell (hS9.box (i := 0) rfl (j := 1) rfl) .nil)) ?_
      obtain rfl := some_eq hr8
      exact ⟨_, rfl, z4, (Zone.le_trans k3 k4), rfl, (St.drop 3 hS9)⟩
def F46 (fuel : Nat) (x0_lo : Int) (x0_hi : Int) : Option (Int × Int × Int) :=
  ((F38 fuel 0 0 x0_lo x0_hi).bind fun r1 => (some (r1.1, r1.2.1, r1.2.2)))
set_option maxRecDepth 100000 in
theorem f46_ok (fuel : Nat) (x0_lo : Int) (x0_hi : Int) (r : Int × Int × Int) (hr : F46 fuel x0_lo x0_hi = some r) (h : Zone) (L : List Atom) (w : World) (hS : St h L w)  :
    Calls Try.prog 46 #[.agg #[vI x0_lo, vI x0_hi]] w fun e w' => ∃ v, e = .returned v ∧ (∃ h', Zone.le h h' ∧ v = .tuple #[.agg #[vI r.1, vI r.2.1], vI r.2.2] ∧ St h' L w') := by
  refine calls_intro (N := 9) Try.func46 (by kernel_rfl) fun a hf => ?_
  refine w_seq (by kernel_rfl) ?_
  refine w_reg (by kernel_rfl) ?_
  refine p_box (i := 0) (d := (some 1)) (cs := [vI x0_lo, vI x0_hi]) (T := 41) (v := fun b1 => pB b1 0) hS hf (fun b => by kernel_rfl) fun b1 ww1 a1 hS1 hf1 => ⟨fun _ => trivial, ?_⟩
  refine p_box (i := 1) (d := (some 2)) (cs := [vI 0, vI 0]) (T := 41) (v := fun b2 => pB b2 0) hS1 hf1 (fun b => by kernel_rfl) fun b2 ww2 a2 hS2 hf2 => ⟨fun _ => trivial, ?_⟩
  refine p_run 1 [] [1, 2] (fl' := [(1, pB b1 0), (2, pB b2 0)]) (obs := []) trivial hf2 (by kernel_rfl) (by kernel_rfl) .nil fun a3 hf3 => ?_
  refine p_done (by kernel_rfl) ?_
  refine n_then ?_
  refine w_seq (by kernel_rfl) ?_
  refine w_reg (by kernel_rfl) ?_
  refine p_run 2 [vI x0_lo, vI x0_hi] [2, 4, 5] (fl' := [(2, pB b2 0), (4, .agg #[vI 0, vI 0]), (5, .agg #[vI x0_lo, vI x0_hi])]) (obs := [.cell ⟨b1, 0, none⟩ (vI x0_lo), .cell ⟨b1, 1, none⟩ (vI x0_hi)]) trivial hf3 (by kernel_rfl) (by kernel_rfl) (.cell (hS2.box (i := 1) rfl (j := 0) rfl) (.cell (hS2.box (i := 1) rfl (j := 1) rfl) .nil)) fun a4 hf4 => ?_
  obtain ⟨r1, hd1, hr1⟩ := bind_some hr
  refine p_call (i := 2) (d := some 6) (f := 38) (args := #[.agg #[vI 0, vI 0], .agg #[vI x0_lo, vI x0_hi]]) hf4 (by kernel_rfl) (f38_ok fuel 0 0 x0_lo x0_hi r1 hd1 h _ _ hS2 ) ?_
  rintro v1 ww3 a5 ⟨z1, k1, rfl, hS3⟩ hf5
  refine ⟨fun _ => trivial, ?_⟩
  refine p_run 2 [] [2, 7, 8] (fl' := [(2, pB b2 0), (7, .agg #[vI r1.1, vI r1.2.1]), (8, vI r1.2.2)]) (obs := []) trivial hf5 (by kernel_rfl) (by kernel_rfl) .nil fun a6 hf6 => ?_
  refine p_store_eq (i := 5) (j := 0) (b := b2) (off := 0) (vs := [vI r1.1, vI r1.2.1]) (cs' := [vI r1.1, vI r1.2.1]) hS3 hf6 rfl (by kernel_rfl) (by kernel_rfl) rfl fun ww4 a7 hS4 hf7 => ⟨fun _ => trivial, ?_⟩
  refine p_run 1 [] [2, 3] (fl' := [(2, pB b2 0), (3, vI r1.2.2)]) (obs := []) trivial hf7 (by kernel_rfl) (by kernel_rfl) .nil fun a8 hf8 => ?_
  refine p_done (by kernel_rfl) ?_
  refine n_then ?_
  refine w_ret (by kernel_rfl) ?_
  refine p_ret (os := [vI r1.1, vI r1.2.1]) (v := .tuple #[.agg #[vI r1.1, vI r1.2.1], vI r1.2.2]) (obs := [.cell ⟨b2, 0, none⟩ (vI r1.1), .cell ⟨b2, 1, none⟩ (vI r1.2.1)]) hf8 (by kernel_rfl) (.cell (hS4.box (i := 0) rfl (j := 0) rfl) (.cell (hS4.box (i := 0) rfl (j := 1) rfl) .nil)) ?_
  obtain rfl := some_eq hr1
  exact ⟨_, rfl, z1, k1, rfl, (St.drop 2 hS4)⟩
def F47 (fuel : Nat) (x0_lo : Int) (x0_hi : Int) : Option (Int × Int × Int) :=
  ((F34 fuel x0_lo x0_hi).bind fun r1 => (cond (!r1) (some (0, 0, 10)) (some ((w64 (0 - x0_hi)), (w64 (0 - x0_lo)), 0))))
set_option maxRecDepth 100000 in
theorem f47_ok (fuel : Nat) (x0_lo : Int) (x0_hi : Int) (r : Int × Int × Int) (hr : F47 fuel x0_lo x0_hi = some r) (h : Zone) (L : List Atom) (w : World) (hS : St h L w)  :
    Calls Try.prog 47 #[.agg #[vI x0_lo, vI x0_hi]] w fun e w' => ∃ v, e = .returned v ∧ (∃ h', Zone.le h h' ∧ v = .tuple #[.agg #[vI r.1, vI r.2.1], vI r.2.2] ∧ St h' L w') := by
  refine calls_intro (N := 15) Try.func47 (by kernel_rfl) fun a hf => ?_
  refine w_seq (by kernel_rfl) ?_
  refine w_reg (by kernel_rfl) ?_
  refine p_box (i := 0) (d := (some 1)) (cs := [vI x0_lo, vI x0_hi]) (T := 41) (v := fun b1 => pB b1 0) hS hf (fun b => by kernel_rfl) fun b1 ww1 a1 hS1 hf1 => ⟨fun _ => trivial, ?_⟩
  refine p_box (i := 1) (d := (some 2)) (cs := [vI 0, vI 0]) (T := 41) (v := fun b2 => pB b2 0) hS1 hf1 (fun b => by kernel_rfl) fun b2 ww2 a2 hS2 hf2 => ⟨fun _ => trivial, ?_⟩
  refine p_run 1 [] [1, 2] (fl' := [(1, pB b1 0), (2, pB b2 0)]) (obs := []) trivial hf2 (by kernel_rfl) (by kernel_rfl) .nil fun a3 hf3 => ?_
  refine p_done (by kernel_rfl) ?_
  refine n_then ?_
  refine w_seq (by kernel_rfl) ?_
  refine w_seq (by kernel_rfl) ?_
  refine w_reg (by kernel_rfl) ?_
  refine p_run 1 [vI x0_lo, vI x0_hi] [1, 2, 4] (fl' := [(1, pB b1 0), (2, pB b2 0), (4, .agg #[vI x0_lo, vI x0_hi])]) (obs := [.cell ⟨b1, 0, none⟩ (vI x0_lo), .cell ⟨b1, 1, none⟩ (vI x0_hi)]) trivial hf3 (by kernel_rfl) (by kernel_rfl) (.cell (hS2.box (i := 1) rfl (j := 0) rfl) (.cell (hS2.box (i := 1) rfl (j := 1) rfl) .nil)) fun a4 hf4 => ?_
  obtain ⟨r1, hd1, hr1⟩ := bind_some hr
  refine p_call (i := 1) (d := some 5) (f := 34) (args := #[.agg #[vI x0_lo, vI x0_hi]]) hf4 (by kernel_rfl) (f34_ok fuel x0_lo x0_hi r1 hd1 h _ _ hS2 ) ?_
  rintro v1 ww3 a5 ⟨z1, k1, rfl, hS3⟩ hf5
  refine ⟨fun _ => trivial, ?_⟩
  refine p_run 1 [] [1, 2, 6] (fl' := [(1, pB b1 0), (2, pB b2 0), (6, .bool (!r1))]) (obs := []) trivial hf5 (by kernel_rfl) (by kernel_rfl) .nil fun a6 hf6 => ?_
  refine p_done (by kernel_rfl) ?_
  refine n_then ?_
  refine w_if hf6 (b := (!r1)) (by kernel_rfl) (fun hb1 => ?_) (fun hb1 => ?_)
  · have hr2 := cond_t hb1 hr1
    refine w_seq (by kernel_rfl) ?_
    refine w_reg (by kernel_rfl) ?_
    refine p_run 1 [] [2, 7] (fl' := [(2, pB b2 0), (7, .agg #[vI 0, vI 0])]) (obs := []) trivial hf6 (by kernel_rfl) (by kernel_rfl) .nil fun a7 hf7 => ?_
    refine p_store_eq (i := 1) (j := 0) (b := b2) (off := 0) (vs := [vI 0, vI 0]) (cs' := [vI 0, vI 0]) hS3 hf7 rfl (by kernel_rfl) (by kernel_rfl) rfl fun ww4 a8 hS4 hf8 => ⟨fun _ => trivial, ?_⟩
    refine p_run 1 [] [2, 3] (fl' := [(2, pB b2 0), (3, vI 10)]) (obs := []) trivial hf8 (by kernel_rfl) (by kernel_rfl) .nil fun a9 hf9 => ?_
    refine p_done (by kernel_rfl) ?_
    refine n_then ?_
    refine w_ret (by kernel_rfl) ?_
    refine r_then ?_
    refine p_ret (os := [vI 0, vI 0]) (v := .tuple #[.agg #[vI 0, vI 0], vI 10]) (obs := [.cell ⟨b2, 0, none⟩ (vI 0), .cell ⟨b2, 1, none⟩ (vI 0)]) hf9 (by kernel_rfl) (.cell (hS4.box (i := 0) rfl (j := 0) rfl) (.cell (hS4.box (i := 0) rfl (j := 1) rfl) .nil)) ?_
    obtain rfl := some_eq hr2
    exact ⟨_, rfl, z1, k1, rfl, (St.drop 2 hS4)⟩
  · have hr3 := cond_f hb1 hr1
    refine w_skip (by kernel_rfl) ?_
    refine n_then ?_
    refine w_seq (by kernel_rfl) ?_
    refine w_reg (by kernel_rfl) ?_
    refine p_run 7 [vI x0_hi, vI x0_lo] [2, 14] (fl' := [(2, pB b2 0), (14, .agg #[vI (w64 (0 - x0_hi)), vI (w64 (0 - x0_lo))])]) (obs := [.cell ⟨b1, 1, none⟩ (vI x0_hi), .cell ⟨b1, 0, none⟩ (vI x0_lo)]) trivial hf6 (by kernel_rfl) (by kernel_rfl) (.cell (hS3.box (i := 1) rfl (j := 1) rfl) (.cell (hS3.box (i := 1) rfl (j := 0) rfl) .nil)) fun a10 hf10 => ?_
    refine p_store_eq (i := 7) (j := 0) (b := b2) (off := 0) (vs := [vI (w64 (0 - x0_hi)), vI (w64 (0 - x0_lo))]) (cs' := [vI (w64 (0 - x0_hi)), vI (w64 (0 - x0_lo))]) hS3 hf10 rfl (by kernel_rfl) (by kernel_rfl) rfl fun ww5 a11 hS5 hf11 => ⟨fun _ => trivial, ?_⟩
    refine p_run 1 [] [2, 3] (fl' := [(2, pB b2 0), (3, vI 0)]) (obs := []) trivial hf11 (by kernel_rfl) (by kernel_rfl) .nil fun a12 hf12 => ?_
    refine p_done (by kernel_rfl) ?_
    refine n_then ?_
    refine w_ret (by kernel_rfl) ?_
    refine p_ret (os := [vI (w64 (0 - x0_hi)), vI (w64 (0 - x0_lo))]) (v := .tuple #[.agg #[vI (w64 (0 - x0_hi)), vI (w64 (0 - x0_lo))], vI 0]) (obs := [.cell ⟨b2, 0, none⟩ (vI (w64 (0 - x0_hi))), .cell ⟨b2, 1, none⟩ (vI (w64 (0 - x0_lo)))]) hf12 (by kernel_rfl) (.cell (hS5.box (i := 0) rfl (j := 0) rfl) (.cell (hS5.box (i := 0) rfl (j := 1) rfl) .nil)) ?_
    obtain rfl := some_eq hr3
    exact ⟨_, rfl, z1, k1, rfl, (St.drop 2 hS5)⟩
def F108_j1 (x0 : Int) (x1 : Int) (y1 : Bool) : Option (Int × Bool) :=
  (cond y1 (some (0, false)) (some ((w64 (x0 * x1)), true)))
def F108 (fuel : Nat) (x0 : Int) (x1 : Int) : Option (Int × Bool) :=
  (cond ((if (w64 (0 - x1)) > x1 then (w64 (0 - x1)) else x1) != (0 : Int)) ((nz (if (w64 (0 - x1)) > x1 then (w64 (0 - x1)) else x1)).bind fun _ => (F108_j1 x0 x1 (decide ((if (w64 (0 - x0)) > x0 then (w64 (0 - x0)) else x0) > (w64 (Int.tdiv 1000000000000000 (if (w64 (0 - x1)) > x1 then (w64 (0 - x1)) else x1))))))) (F108_j1 x0 x1 false))
set_option maxRecDepth 100000 in
theorem f108_ok (fuel : Nat) (x0 : Int) (x1 : Int) (r : Int × Bool) (hr : F108 fuel x0 x1 = some r) (h : Zone) (L : List Atom) (w : World) (hS : St h L w)  :
    Calls Try.prog 108 #[vI x0, vI x1] w fun e w' => ∃ v, e = .returned v ∧ (∃ h', Zone.le h h' ∧ v = .tuple #[vI r.1, .bool r.2] ∧ St h' L w') := by
  refine calls_intro (N := 27) Try.func108 (by kernel_rfl) fun a hf => ?_
  refine w_seq (by kernel_rfl) ?_
  refine w_reg (by kernel_rfl) ?_
  refine p_run 2 [] [0, 1] (fl' := [(0, vI x0), (1, vI x1)]) (obs := []) trivial hf (by kernel_rfl) (by kernel_rfl) .nil fun a1 hf1 => ?_
  refine p_done (by kernel_rfl) ?_
  refine n_then ?_
  refine w_seq (by kernel_rfl) ?_
  refine w_reg (by kernel_rfl) ?_
  refine p_run 5 [] [0, 1, 6] (fl' := [(0, vI x0), (1, vI x1), (6, vI (if (w64 (0 - x0)) > x0 then (w64 (0 - x0)) else x0))]) (obs := []) trivial hf1 (by kernel_rfl) (by kernel_rfl) .nil fun a2 hf2 => ?_
  refine p_done (by kernel_rfl) ?_
  refine n_then ?_
  refine w_seq (by kernel_rfl) ?_
  refine w_reg (by kernel_rfl) ?_
  refine p_run 5 [] [0, 1, 6, 7] (fl' := [(0, vI x0), (1, vI x1), (6, vI (if (w64 (0 - x0)) > x0 then (w64 (0 - x0)) else x0)), (7, vI (if (w64 (0 - x1)) > x1 then (w64 (0 - x1)) else x1))]) (obs := []) trivial hf2 (by kernel_rfl) (by kernel_rfl) .nil fun a3 hf3 => ?_
  refine p_done (by kernel_rfl) ?_
  refine n_then ?_
  refine w_seq (by kernel_rfl) ?_
  refine w_mid (by kernel_rfl) (fun a w => ∃ z1 : Zone, ∃ y1 : Bool, Zone.le h z1 ∧ Fr a 27 [(0, vI x0), (1, vI x1), (23, .bool y1)] ∧ St z1 (L) w ∧ (F108_j1 x0 x1 y1) = some r) ?_ ?_
  · skip
    refine w_reg (by kernel_rfl) ?_
    refine p_run 3 [] [0, 1, 6, 7, 18] (fl' := [(0, vI x0), (1, vI x1), (6, vI (if (w64 (0 - x0)) > x0 then (w64 (0 - x0)) else x0)), (7, vI (if (w64 (0 - x1)) > x1 then (w64 (0 - x1)) else x1)), (18, .bool ((if (w64 (0 - x1)) > x1 then (w64 (0 - x1)) else x1) != (0 : Int)))]) (obs := []) trivial hf3 (by kernel_rfl) (by kernel_rfl) .nil fun a4 hf4 => ?_
    rcases Bool.eq_false_or_eq_true ((if (w64 (0 - x1)) > x1 then (w64 (0 - x1)) else x1) != (0 : Int)) with hb1 | hb1
    · have hr1 := cond_t hb1 hr
      have hf5 := Fr.conv hf4 (congrArg (fun z => ([(0, vI x0), (1, vI x1), (6, vI (if (w64 (0 - x0)) > x0 then (w64 (0 - x0)) else x0)), (7, vI (if (w64 (0 - x1)) > x1 then (w64 (0 - x1)) else x1)), (18, .bool z)] : FL)) hb1)
      obtain ⟨u1, hd1, hr2⟩ := bind_some hr1
      refine p_run 5 [] [0, 1, 23] (fl' := [(0, vI x0), (1, vI x1), (23, .bool (decide ((if (w64 (0 - x0)) > x0 then (w64 (0 - x0)) else x0) > (w64 (Int.tdiv 1000000000000000 (if (w64 (0 - x1)) > x1 then (w64 (0 - x1)) else x1))))))]) (obs := [.prop ((if (w64 (0 - x1)) > x1 then (w64 (0 - x1)) else x1) ≠ 0)]) trivial hf5 (by kernel_rfl) (by kernel_rfl) (.prop (nz_spec hd1) .nil) fun a5 hf6 => ?_
      refine p_done (by kernel_rfl) ?_
      refine n_then ?_
      have hf7 := Fr.keep (ks := [0, 1, 23]) (r := [(0, vI x0), (1, vI x1), (23, .bool (decide ((if (w64 (0 - x0)) > x0 then (w64 (0 - x0)) else x0) > (w64 (Int.tdiv 1000000000000000 (if (w64 (0 - x1)) > x1 then (w64 (0 - x1)) else x1))))))]) hf6 (by kernel_rfl)
      exact ⟨h, (decide ((if (w64 (0 - x0)) > x0 then (w64 (0 - x0)) else x0) > (w64 (Int.tdiv 1000000000000000 (if (w64 (0 - x1)) > x1 then (w64 (0 - x1)) else x1))))), (Zone.le_refl _), hf7, hS, hr2⟩
    · have hr3 := cond_f hb1 hr
      have hf8 := Fr.conv hf4 (congrArg (fun z => ([(0, vI x0), (1, vI x1), (6, vI (if (w64 (0 - x0)) > x0 then (w64 (0 - x0)) else x0)), (7, vI (if (w64 (0 - x1)) > x1 then (w64 (0 - x1)) else x1)), (18, .bool z)] : FL)) hb1)
      refine p_run 5 [] [0, 1, 23] (fl' := [(0, vI x0), (1, vI x1), (23, .bool false)]) (obs := []) trivial hf8 (by kernel_rfl) (by kernel_rfl) .nil fun a6 hf9 => ?_
      refine p_done (by kernel_rfl) ?_
      refine n_then ?_
      have hf10 := Fr.keep (ks := [0, 1, 23]) (r := [(0, vI x0), (1, vI x1), (23, .bool false)]) hf9 (by kernel_rfl)
      exact ⟨h, false, (Zone.le_refl _), hf10, hS, hr3⟩
  · rintro a7 ww1 ⟨z1, y1, k1, hf11, hS1, hr4⟩
    refine w_if hf11 (b := y1) (by kernel_rfl) (fun hb2 => ?_) (fun hb2 => ?_)
    · have hr5 := cond_t hb2 hr4
      refine w_seq (by kernel_rfl) ?_
      refine w_reg (by kernel_rfl) ?_
      refine p_run 2 [] [4, 5] (fl' := [(4, vI 0), (5, .bool false)]) (obs := []) trivial hf11 (by kernel_rfl) (by kernel_rfl) .nil fun a8 hf12 => ?_
      refine p_done (by kernel_rfl) ?_
      refine n_then ?_
      refine w_ret (by kernel_rfl) ?_
      refine r_then ?_
      refine p_ret (os := []) (v := .tuple #[vI 0, .bool false]) (obs := []) hf12 (by kernel_rfl) .nil ?_
      obtain rfl := some_eq hr5
      exact ⟨_, rfl, z1, k1, rfl, hS1⟩
    · have hr6 := cond_f hb2 hr4
      refine w_skip (by kernel_rfl) ?_
      refine n_then ?_
      refine w_seq (by kernel_rfl) ?_
      refine w_reg (by kernel_rfl) ?_
      refine p_run 5 [] [4, 5] (fl' := [(4, vI (w64 (x0 * x1))), (5, .bool true)]) (obs := []) trivial hf11 (by kernel_rfl) (by kernel_rfl) .nil fun a9 hf13 => ?_
      refine p_done (by kernel_rfl) ?_
      refine n_then ?_
      refine w_ret (by kernel_rfl) ?_
      refine p_ret (os := []) (v := .tuple #[vI (w64 (x0 * x1)), .bool true]) (obs := []) hf13 (by kernel_rfl) .nil ?_
      obtain rfl := some_eq hr6
      exact ⟨_, rfl, z1, k1, rfl, hS1⟩
def F48_l2 (fuel : Nat) (k1 : Int → Int → Int → Option (Int × Int × Int)) (x1_lo : Int) (x1_hi : Int) (y1 : Int) (p1 : Int) : Nat → Int → Int → Int → Option (Int × Int × Int)
  | 0, _, _, _ => none
  | n1 + 1, y2, y3, y4 =>
    let k2 : Int → Int → Int → Option (Int × Int × Int) := F48_l2 fuel k1 x1_lo x1_hi y1 p1 n1
    (cond (decide (y4 < (2 : Int))) ((getI ([x1_lo, x1_hi]) y4).bind fun p2 => ((F108 fuel p1 p2).bind fun r1 => (cond (!r1.2) (some (0, 0, 5)) (k2 (if r1.1 < y2 then r1.1 else y2) (if r1.1 > y3 then r1.1 else y3) (w64 (y4 + (1 : Int))))))) (k1 y2 y3 (w64 (y1 + (1 : Int)))))
def F48_l1 (fuel : Nat) (x0_lo : Int) (x0_hi : Int) (x1_lo : Int) (x1_hi : Int) : Nat → Int → Int → Int → Option (Int × Int × Int)
  | 0, _, _, _ => none
  | n2 + 1, y5, y6, y1 =>
    let k1 : Int → Int → Int → Option (Int × Int × Int) := F48_l1 fuel x0_lo x0_hi x1_lo x1_hi n2
    (cond (decide (y1 < (2 : Int))) ((getI ([x0_lo, x0_hi]) y1).bind fun p1 => (F48_l2 fuel k1 x1_lo x1_hi y1 p1 fuel y5 y6 0)) (some (y5, y6, 0)))
def F48_j1 (fuel : Nat) (x0_lo : Int) (x0_hi : Int) (x1_lo : Int) (x1_hi : Int) (y7 : Bool) : Option (Int × Int × Int) :=
  (cond y7 (some (0, 0, 10)) (F48_l1 fuel x0_lo x0_hi x1_lo x1_hi fuel 1000000000000000 (-1000000000000000) 0))
def F48 (fuel : Nat) (x0_lo : Int) (x0_hi : Int) (x1_lo : Int) (x1_hi : Int) : Option (Int × Int × Int) :=
  ((F34 fuel x0_lo x0_hi).bind fun r2 => (cond (!r2) (F48_j1 fuel x0_lo x0_hi x1_lo x1_hi true) ((F34 fuel x1_lo x1_hi).bind fun r3 => (F48_j1 fuel x0_lo x0_hi x1_lo x1_hi (!r3)))))
set_option maxRecDepth 100000 in
theorem f48_ok (fuel : Nat) (x0_lo : Int) (x0_hi : Int) (x1_lo : Int) (x1_hi : Int) (r : Int × Int × Int) (hr : F48 fuel x0_lo x0_hi x1_lo x1_hi = some r) (h : Zone) (L : List Atom) (w : World) (hS : St h L w)  :
    Calls Try.prog 48 #[.agg #[vI x0_lo, vI x0_hi], .agg #[vI x1_lo, vI x1_hi]] w fun e w' => ∃ v, e = .returned v ∧ (∃ h', Zone.le h h' ∧ v = .tuple #[.agg #[vI r.1, vI r.2.1], vI r.2.2] ∧ St h' L w') := by
  refine calls_intro (N := 64) Try.func48 (by kernel_rfl) fun a hf => ?_
  refine w_seq (by kernel_rfl) ?_
  refine w_reg (by kernel_rfl) ?_
  refine p_box (i := 0) (d := (some 2)) (cs := [vI x0_lo, vI x0_hi]) (T := 41) (v := fun b1 => pB b1 0) hS hf (fun b => by kernel_rfl) fun b1 ww1 a1 hS1 hf1 => ⟨fun _ => trivial, ?_⟩
  refine p_box (i := 1) (d := (some 3)) (cs := [vI x1_lo, vI x1_hi]) (T := 41) (v := fun b2 => pB b2 0) hS1 hf1 (fun b => by kernel_rfl) fun b2 ww2 a2 hS2 hf2 => ⟨fun _ => trivial, ?_⟩
  refine p_box (i := 2) (d := (some 4)) (cs := [vI 0, vI 0]) (T := 41) (v := fun b3 => pB b3 0) hS2 hf2 (fun b => by kernel_rfl) fun b3 ww3 a3 hS3 hf3 => ⟨fun _ => trivial, ?_⟩
  refine p_run 1 [] [2, 3, 4] (fl' := [(2, pB b1 0), (3, pB b2 0), (4, pB b3 0)]) (obs := []) trivial hf3 (by kernel_rfl) (by kernel_rfl) .nil fun a4 hf4 => ?_
  refine p_done (by kernel_rfl) ?_
  refine n_then ?_
  refine w_seq (by kernel_rfl) ?_
  refine w_mid (by kernel_rfl) (fun a w => ∃ z1 : Zone, ∃ y7 : Bool, Zone.le h z1 ∧ Fr a 64 [(2, pB b1 0), (3, pB b2 0), (4, pB b3 0), (20, .bool y7)] ∧ St z1 (box b3 [vI 0, vI 0] 41 :: box b2 [vI x1_lo, vI x1_hi] 41 :: box b1 [vI x0_lo, vI x0_hi] 41 :: L) w ∧ (F48_j1 fuel x0_lo x0_hi x1_lo x1_hi y7) = some r) ?_ ?_
  · skip
    refine w_reg (by kernel_rfl) ?_
    refine p_run 1 [vI x0_lo, vI x0_hi] [2, 3, 4, 13] (fl' := [(2, pB b1 0), (3, pB b2 0), (4, pB b3 0), (13, .agg #[vI x0_lo, vI x0_hi])]) (obs := [.cell ⟨b1, 0, none⟩ (vI x0_lo), .cell ⟨b1, 1, none⟩ (vI x0_hi)]) trivial hf4 (by kernel_rfl) (by kernel_rfl) (.cell (hS3.box (i := 2) rfl (j := 0) rfl) (.cell (hS3.box (i := 2) rfl (j := 1) rfl) .nil)) fun a5 hf5 => ?_
    obtain ⟨r2, hd1, hr1⟩ := bind_some hr
    refine p_call (i := 1) (d := some 14) (f := 34) (args := #[.agg #[vI x0_lo, vI x0_hi]]) hf5 (by kernel_rfl) (f34_ok fuel x0_lo x0_hi r2 hd1 h _ _ hS3 ) ?_
    rintro v1 ww4 a6 ⟨z2, k3, rfl, hS4⟩ hf6
    refine ⟨fun _ => trivial, ?_⟩
    refine p_run 2 [] [2, 3, 4, 16] (fl' := [(2, pB b1 0), (3, pB b2 0), (4, pB b3 0), (16, .bool (!r2))]) (obs := []) trivial hf6 (by kernel_rfl) (by kernel_rfl) .nil fun a7 hf7 => ?_
    rcases Bool.eq_false_or_eq_true (!r2) with hb1 | hb1
    · have hr2 := cond_t hb1 hr1
      have hf8 := Fr.conv hf7 (congrArg (fun z => ([(2, pB b1 0), (3, pB b2 0), (4, pB b3 0), (16, .bool z)] : FL)) hb1)
      refine p_run 1 [] [2, 3, 4, 16, 17] (fl' := [(2, pB b1 0), (3, pB b2 0), (4, pB b3 0), (16, .bool true), (17, undef)]) (obs := []) trivial hf8 (by kernel_rfl) (by kernel_rfl) .nil fun a8 hf9 => ?_
      refine p_run 1 [] [2, 3, 4, 16, 17, 18] (fl' := [(2, pB b1 0), (3, pB b2 0), (4, pB b3 0), (16, .bool true), (17, undef), (18, undef)]) (obs := []) trivial hf9 (by kernel_rfl) (by kernel_rfl) .nil fun a9 hf10 => ?_
      refine p_run 2 [] [2, 3, 4, 20] (fl' := [(2, pB b1 0), (3, pB b2 0), (4, pB b3 0), (20, .bool true)]) (obs := []) trivial hf10 (by kernel_rfl) (by kernel_rfl) .nil fun a10 hf11 => ?_
      refine p_done (by kernel_rfl) ?_
      refine n_then ?_
      have hf12 := Fr.keep (ks := [2, 3, 4, 20]) (r := [(2, pB b1 0), (3, pB b2 0), (4, pB b3 0), (20, .bool true)]) hf11 (by kernel_rfl)
      exact ⟨z2, true, k3, hf12, hS4, hr2⟩
    · have hr3 := cond_f hb1 hr1
      have hf13 := Fr.conv hf7 (congrArg (fun z => ([(2, pB b1 0), (3, pB b2 0), (4, pB b3 0), (16, .bool z)] : FL)) hb1)
      refine p_run 1 [vI x1_lo, vI x1_hi] [2, 3, 4, 16, 17] (fl' := [(2, pB b1 0), (3, pB b2 0), (4, pB b3 0), (16, .bool false), (17, .agg #[vI x1_lo, vI x1_hi])]) (obs := [.cell ⟨b2, 0, none⟩ (vI x1_lo), .cell ⟨b2, 1, none⟩ (vI x1_hi)]) trivial hf13 (by kernel_rfl) (by kernel_rfl) (.cell (hS4.box (i := 1) rfl (j := 0) rfl) (.cell (hS4.box (i := 1) rfl (j := 1) rfl) .nil)) fun a11 hf14 => ?_
      obtain ⟨r3, hd2, hr4⟩ := bind_some hr3
      refine p_call (i := 5) (d := some 18) (f := 34) (args := #[.agg #[vI x1_lo, vI x1_hi]]) hf14 (by kernel_rfl) (f34_ok fuel x1_lo x1_hi r3 hd2 z2 _ _ hS4 ) ?_
      rintro v2 ww5 a12 ⟨z3, k4, rfl, hS5⟩ hf15
      refine ⟨fun _ => trivial, ?_⟩
      refine p_run 2 [] [2, 3, 4, 20] (fl' := [(2, pB b1 0), (3, pB b2 0), (4, pB b3 0), (20, .bool (!r3))]) (obs := []) trivial hf15 (by kernel_rfl) (by kernel_rfl) .nil fun a13 hf16 => ?_
      refine p_done (by kernel_rfl) ?_
      refine n_then ?_
      have hf17 := Fr.keep (ks := [2, 3, 4, 20]) (r := [(2, pB b1 0), (3, pB b2 0), (4, pB b3 0), (20, .bool (!r3))]) hf16 (by kernel_rfl)
      exact ⟨z3, (!r3), (Zone.le_trans k3 k4), hf17, hS5, hr4⟩
  · rintro a14 ww6 ⟨z1, y7, k5, hf18, hS6, hr5⟩
    refine w_if hf18 (b := y7) (by kernel_rfl) (fun hb2 => ?_) (fun hb2 => ?_)
    · have hr6 := cond_t hb2 hr5
      refine w_seq (by kernel_rfl) ?_
      refine w_reg (by kernel_rfl) ?_
      refine p_run 1 [] [4, 21] (fl' := [(4, pB b3 0), (21, .agg #[vI 0, vI 0])]) (obs := []) trivial hf18 (by kernel_rfl) (by kernel_rfl) .nil fun a15 hf19 => ?_
      refine p_store_eq (i := 1) (j := 0) (b := b3) (off := 0) (vs := [vI 0, vI 0]) (cs' := [vI 0, vI 0]) hS6 hf19 rfl (by kernel_rfl) (by kernel_rfl) rfl fun ww7 a16 hS7 hf20 => ⟨fun _ => trivial, ?_⟩
      refine p_run 1 [] [4, 5] (fl' := [(4, pB b3 0), (5, vI 10)]) (obs := []) trivial hf20 (by kernel_rfl) (by kernel_rfl) .nil fun a17 hf21 => ?_
      refine p_done (by kernel_rfl) ?_
      refine n_then ?_
      refine w_ret (by kernel_rfl) ?_
      refine r_then ?_
      refine p_ret (os := [vI 0, vI 0]) (v := .tuple #[.agg #[vI 0, vI 0], vI 10]) (obs := [.cell ⟨b3, 0, none⟩ (vI 0), .cell ⟨b3, 1, none⟩ (vI 0)]) hf21 (by kernel_rfl) (.cell (hS7.box (i := 0) rfl (j := 0) rfl) (.cell (hS7.box (i := 0) rfl (j := 1) rfl) .nil)) ?_
      obtain rfl := some_eq hr6
      exact ⟨_, rfl, z1, k5, rfl, (St.drop 3 hS7)⟩
    · have hr7 := cond_f hb2 hr5
      refine w_skip (by kernel_rfl) ?_
      refine n_then ?_
      refine w_seq (by kernel_rfl) ?_
      refine w_reg (by kernel_rfl) ?_
      refine p_run 1 [] [2, 3, 4, 22] (fl' := [(2, pB b1 0), (3, pB b2 0), (4, pB b3 0), (22, .agg #[vI 1000000000000000, vI (-1000000000000000)])]) (obs := []) trivial hf18 (by kernel_rfl) (by kernel_rfl) .nil fun a18 hf22 => ?_
      refine p_box (i := 1) (d := (some 6)) (cs := [vI 0, vI 0]) (T := 41) (v := fun b4 => pB b4 0) hS6 hf22 (fun b => by kernel_rfl) fun b4 ww8 a19 hS8 hf23 => ⟨fun _ => trivial, ?_⟩
      refine p_store_eq (i := 2) (j := 0) (b := b4) (off := 0) (vs := [vI 1000000000000000, vI (-1000000000000000)]) (cs' := [vI 1000000000000000, vI (-1000000000000000)]) hS8 hf23 rfl (by kernel_rfl) (by kernel_rfl) rfl fun ww9 a20 hS9 hf24 => ⟨fun _ => trivial, ?_⟩
      refine p_done (by kernel_rfl) ?_
      refine n_then ?_
      refine w_seq (by kernel_rfl) ?_
      refine w_seq (by kernel_rfl) ?_
      refine w_reg (by kernel_rfl) ?_
      refine p_run 4 [vI x0_lo, vI x0_hi] [3, 4, 6, 24, 26] (fl' := [(3, pB b2 0), (4, pB b3 0), (6, pB b4 0), (24, vI x0_lo), (26, vI x0_hi)]) (obs := [.cell ⟨b1, 0, none⟩ (vI x0_lo), .cell ⟨b1, 1, none⟩ (vI x0_hi)]) trivial hf24 (by kernel_rfl) (by kernel_rfl) (.cell (hS9.box (i := 3) rfl (j := 0) rfl) (.cell (hS9.box (i := 3) rfl (j := 1) rfl) .nil)) fun a21 hf25 => ?_
      refine p_box (i := 4) (d := (some 27)) (cs := [vI x0_lo, vI x0_hi]) (T := 3) (v := fun b5 => .slice (some ⟨b5, 0, none⟩) 2 2) hS9 hf25 (fun b => by kernel_rfl) fun b5 ww10 a22 hS10 hf26 => ⟨fun _ => trivial, ?_⟩
      have hS11 := hS10.ownBox (T := Ty.int) (E := 3) (n := 2) (xs := [x0_lo, x0_hi]) (i := 0) rfl (Rows.cons (c := [vI x0_lo]) rfl (Rows.cons (c := [vI x0_hi]) rfl rfl)) rfl (by decide)
      refine p_run 2 [] [3, 4, 6, 27, 28, 29] (fl' := [(3, pB b2 0), (4, pB b3 0), (6, pB b4 0), (27, .slice (some ⟨b5, 0, none⟩) 2 2), (28, vI 2), (29, vI 0)]) (obs := []) trivial hf26 (by kernel_rfl) (by kernel_rfl) .nil fun a23 hf27 => ?_
      refine p_done (by kernel_rfl) ?_
      refine n_then ?_
      refine w_block (id := 0) (by kernel_rfl) ?_
      have hf28 := Fr.keep (ks := [3, 4, 6, 27, 28, 29]) (r := [(3, pB b2 0), (4, pB b3 0), (6, pB b4 0), (27, .slice (some ⟨b5, 0, none⟩) 2 2), (28, vI 2), (29, vI 0)]) hf27 (by kernel_rfl)
      refine w_loop (by kernel_rfl) (fun n a w => ∃ z4 : Zone, ∃ y5 : Int, ∃ y6 : Int, ∃ y1 : Int, Zone.le z1 z4 ∧ Fr a 64 [(3, pB b2 0), (4, pB b3 0), (6, pB b4 0), (27, .slice (some ⟨b5, 0, none⟩) ([x0_lo, x0_hi].length) 2), (28, vI 2), (29, vI y1)] ∧ St z4 (ownS Ty.int 3 (some ⟨b5, 0, none⟩) 2 ([x0_lo, x0_hi]) :: box b4 [vI y5, vI y6] 41 :: box b3 [vI 0, vI 0] 41 :: box b2 [vI x1_lo, vI x1_hi] 41 :: box b1 [vI x0_lo, vI x0_hi] 41 :: L) w ∧ (F48_l1 fuel x0_lo x0_hi x1_lo x1_hi n y5 y6 y1) = some r) fuel ⟨z1, 1000000000000000, -1000000000000000, 0, (Zone.le_refl _), hf28, hS11, hr7⟩ ?_
      rintro n3 a24 ww11 ⟨z4, y5, y6, y1, k6, hf29, hS12, hr8⟩
      cases n3 with
      | zero => cases hr8
      | succ n2 =>
      refine w_seq (by kernel_rfl) ?_
      refine w_reg (by kernel_rfl) ?_
      refine p_run 1 [] [3, 4, 6, 27, 28, 29, 30] (fl' := [(3, pB b2 0), (4, pB b3 0), (6, pB b4 0), (27, .slice (some ⟨b5, 0, none⟩) ([x0_lo, x0_hi].length) 2), (28, vI 2), (29, vI y1), (30, .bool (decide (y1 < (2 : Int))))]) (obs := []) trivial hf29 (by kernel_rfl) (by kernel_rfl) .nil fun a25 hf30 => ?_
      refine p_done (by kernel_rfl) ?_
      refine n_then ?_
      refine w_seq (by kernel_rfl) ?_
      refine w_if hf30 (b := (decide (y1 < (2 : Int)))) (by kernel_rfl) (fun hb3 => ?_) (fun hb3 => ?_)
      · have hr9 := cond_t hb3 hr8
        refine w_skip (by kernel_rfl) ?_
        refine n_then ?_
        refine w_seq (by kernel_rfl) ?_
        refine w_block (id := 1) (by kernel_rfl) ?_
        refine w_seq (by kernel_rfl) ?_
        refine w_reg (by kernel_rfl) ?_
        obtain ⟨p1, hp8932, hr10⟩ := bind_some hr9
        obtain ⟨ad1, ho1, hb4, cc1, hc1, hk1⟩ := hS12.ownGet (j := 0) rfl hp8932
        subst hc1
        refine p_run 3 [.pointer (some ad1), vI p1] [3, 4, 6, 8, 27, 28, 29] (fl' := [(3, pB b2 0), (4, pB b3 0), (6, pB b4 0), (8, vI p1), (27, .slice (some ⟨b5, 0, none⟩) ([x0_lo, x0_hi].length) 2), (28, vI 2), (29, vI y1)]) (obs := [.prop ((some ⟨b5, 0, none⟩) = some ad1), .prop (0 ≤ y1 ∧ y1 < ([x0_lo, x0_hi].length : Nat)), .cell ((ad1.add (Int.toNat y1 * 1)).add 0) (vI p1)]) trivial hf30 (by kernel_rfl) (by kernel_rfl) (.prop ho1 (.prop hb4 (.cell (hk1 0 _ rfl) .nil))) fun a26 hf31 => ?_
        refine p_done (by kernel_rfl) ?_
        refine n_then ?_
        refine w_seq (by kernel_rfl) ?_
        refine w_reg (by kernel_rfl) ?_
        refine p_run 4 [vI x1_lo, vI x1_hi] [3, 4, 6, 8, 27, 28, 29, 34, 36] (fl' := [(3, pB b2 0), (4, pB b3 0), (6, pB b4 0), (8, vI p1), (27, .slice (some ⟨b5, 0, none⟩) ([x0_lo, x0_hi].length) 2), (28, vI 2), (29, vI y1), (34, vI x1_lo), (36, vI x1_hi)]) (obs := [.cell ⟨b2, 0, none⟩ (vI x1_lo), .cell ⟨b2, 1, none⟩ (vI x1_hi)]) trivial hf31 (by kernel_rfl) (by kernel_rfl) (.cell (hS12.box (i := 3) rfl (j := 0) rfl) (.cell (hS12.box (i := 3) rfl (j := 1) rfl) .nil)) fun a27 hf32 => ?_
        refine p_box (i := 4) (d := (some 37)) (cs := [vI x1_lo, vI x1_hi]) (T := 3) (v := fun b6 => .slice (some ⟨b6, 0, none⟩) 2 2) hS12 hf32 (fun b => by kernel_rfl) fun b6 ww12 a28 hS13 hf33 => ⟨fun _ => trivial, ?_⟩
        have hS14 := hS13.ownBox (T := Ty.int) (E := 3) (n := 2) (xs := [x1_lo, x1_hi]) (i := 0) rfl (Rows.cons (c := [vI x1_lo]) rfl (Rows.cons (c := [vI x1_hi]) rfl rfl)) rfl (by decide)
        refine p_run 2 [] [3, 4, 6, 8, 27, 28, 29, 37, 38, 39] (fl' := [(3, pB b2 0), (4, pB b3 0), (6, pB b4 0), (8, vI p1), (27, .slice (some ⟨b5, 0, none⟩) ([x0_lo, x0_hi].length) 2), (28, vI 2), (29, vI y1), (37, .slice (some ⟨b6, 0, none⟩) 2 2), (38, vI 2), (39, vI 0)]) (obs := []) trivial hf33 (by kernel_rfl) (by kernel_rfl) .nil fun a29 hf34 => ?_
        refine p_done (by kernel_rfl) ?_
        refine n_then ?_
        refine w_block (id := 2) (by kernel_rfl) ?_
        have hf35 := Fr.keep (ks := [3, 4, 6, 8, 27, 28, 29, 37, 38, 39]) (r := [(3, pB b2 0), (4, pB b3 0), (6, pB b4 0), (8, vI p1), (27, .slice (some ⟨b5, 0, none⟩) ([x0_lo, x0_hi].length) 2), (28, vI 2), (29, vI y1), (37, .slice (some ⟨b6, 0, none⟩) 2 2), (38, vI 2), (39, vI 0)]) hf34 (by kernel_rfl)
        refine w_loop (by kernel_rfl) (fun n a w => ∃ z5 : Zone, ∃ y2 : Int, ∃ y3 : Int, ∃ y4 : Int, Zone.le z4 z5 ∧ Fr a 64 [(3, pB b2 0), (4, pB b3 0), (6, pB b4 0), (8, vI p1), (27, .slice (some ⟨b5, 0, none⟩) ([x0_lo, x0_hi].length) 2), (28, vI 2), (29, vI y1), (37, .slice (some ⟨b6, 0, none⟩) ([x1_lo, x1_hi].length) 2), (38, vI 2), (39, vI y4)] ∧ St z5 (ownS Ty.int 3 (some ⟨b6, 0, none⟩) 2 ([x1_lo, x1_hi]) :: ownS Ty.int 3 (some ⟨b5, 0, none⟩) 2 ([x0_lo, x0_hi]) :: box b4 [vI y2, vI y3] 41 :: box b3 [vI 0, vI 0] 41 :: box b2 [vI x1_lo, vI x1_hi] 41 :: box b1 [vI x0_lo, vI x0_hi] 41 :: L) w ∧ (F48_l2 fuel (F48_l1 fuel x0_lo x0_hi x1_lo x1_hi n2) x1_lo x1_hi y1 p1 n y2 y3 y4) = some r) fuel ⟨z4, y5, y6, 0, (Zone.le_refl _), hf35, hS14, hr10⟩ ?_
        rintro n4 a30 ww13 ⟨z5, y2, y3, y4, k7, hf36, hS15, hr11⟩
        cases n4 with
        | zero => cases hr11
        | succ n1 =>
        refine w_seq (by kernel_rfl) ?_
        refine w_reg (by kernel_rfl) ?_
        refine p_run 1 [] [3, 4, 6, 8, 27, 28, 29, 37, 38, 39, 40] (fl' := [(3, pB b2 0), (4, pB b3 0), (6, pB b4 0), (8, vI p1), (27, .slice (some ⟨b5, 0, none⟩) ([x0_lo, x0_hi].length) 2), (28, vI 2), (29, vI y1), (37, .slice (some ⟨b6, 0, none⟩) ([x1_lo, x1_hi].length) 2), (38, vI 2), (39, vI y4), (40, .bool (decide (y4 < (2 : Int))))]) (obs := []) trivial hf36 (by kernel_rfl) (by kernel_rfl) .nil fun a31 hf37 => ?_
        refine p_done (by kernel_rfl) ?_
        refine n_then ?_
        refine w_seq (by kernel_rfl) ?_
        refine w_if hf37 (b := (decide (y4 < (2 : Int)))) (by kernel_rfl) (fun hb5 => ?_) (fun hb5 => ?_)
        · have hr12 := cond_t hb5 hr11
          refine w_skip (by kernel_rfl) ?_
          refine n_then ?_
          refine w_seq (by kernel_rfl) ?_
          refine w_block (id := 3) (by kernel_rfl) ?_
          refine w_seq (by kernel_rfl) ?_
          refine w_reg (by kernel_rfl) ?_
          obtain ⟨p2, hp9434, hr13⟩ := bind_some hr12
          obtain ⟨ad2, ho2, hb6, cc2, hc2, hk2⟩ := hS15.ownGet (j := 0) rfl hp9434
          subst hc2
          refine p_run 3 [.pointer (some ad2), vI p2] [3, 4, 6, 8, 10, 27, 28, 29, 37, 38, 39] (fl' := [(3, pB b2 0), (4, pB b3 0), (6, pB b4 0), (8, vI p1), (10, vI p2), (27, .slice (some ⟨b5, 0, none⟩) ([x0_lo, x0_hi].length) 2), (28, vI 2), (29, vI y1), (37, .slice (some ⟨b6, 0, none⟩) ([x1_lo, x1_hi].length) 2), (38, vI 2), (39, vI y4)]) (obs := [.prop ((some ⟨b6, 0, none⟩) = some ad2), .prop (0 ≤ y4 ∧ y4 < ([x1_lo, x1_hi].length : Nat)), .cell ((ad2.add (Int.toNat y4 * 1)).add 0) (vI p2)]) trivial hf37 (by kernel_rfl) (by kernel_rfl) (.prop ho2 (.prop hb6 (.cell (hk2 0 _ rfl) .nil))) fun a32 hf38 => ?_
          refine p_done (by kernel_rfl) ?_
          refine n_then ?_
          refine w_seq (by kernel_rfl) ?_
          refine w_reg (by kernel_rfl) ?_
          refine p_run 2 [] [3, 4, 6, 8, 27, 28, 29, 37, 38, 39, 44, 45] (fl' := [(3, pB b2 0), (4, pB b3 0), (6, pB b4 0), (8, vI p1), (27, .slice (some ⟨b5, 0, none⟩) ([x0_lo, x0_hi].length) 2), (28, vI 2), (29, vI y1), (37, .slice (some ⟨b6, 0, none⟩) ([x1_lo, x1_hi].length) 2), (38, vI 2), (39, vI y4), (44, vI p1), (45, vI p2)]) (obs := []) trivial hf38 (by kernel_rfl) (by kernel_rfl) .nil fun a33 hf39 => ?_
          obtain ⟨r1, hd3, hr14⟩ := bind_some hr13
          refine p_call (i := 2) (d := some 46) (f := 108) (args := #[vI p1, vI p2]) hf39 (by kernel_rfl) (f108_ok fuel p1 p2 r1 hd3 z5 _ _ hS15 ) ?_
          rintro v3 ww14 a34 ⟨z6, k8, rfl, hS16⟩ hf40
          refine ⟨fun _ => trivial, ?_⟩
          refine p_run 5 [] [3, 4, 6, 8, 11, 12, 27, 28, 29, 37, 38, 39] (fl' := [(3, pB b2 0), (4, pB b3 0), (6, pB b4 0), (8, vI p1), (11, vI r1.1), (12, .bool r1.2), (27, .slice (some ⟨b5, 0, none⟩) ([x0_lo, x0_hi].length) 2), (28, vI 2), (29, vI y1), (37, .slice (some ⟨b6, 0, none⟩) ([x1_lo, x1_hi].length) 2), (38, vI 2), (39, vI y4)]) (obs := []) trivial hf40 (by kernel_rfl) (by kernel_rfl) .nil fun a35 hf41 => ?_
          refine p_done (by kernel_rfl) ?_
          refine n_then ?_
          refine w_seq (by kernel_rfl) ?_
          refine w_seq (by kernel_rfl) ?_
          refine w_reg (by kernel_rfl) ?_
          refine p_run 2 [] [3, 4, 6, 8, 11, 27, 28, 29, 37, 38, 39, 50] (fl' := [(3, pB b2 0), (4, pB b3 0), (6, pB b4 0), (8, vI p1), (11, vI r1.1), (27, .slice (some ⟨b5, 0, none⟩) ([x0_lo, x0_hi].length) 2), (28, vI 2), (29, vI y1), (37, .slice (some ⟨b6, 0, none⟩) ([x1_lo, x1_hi].length) 2), (38, vI 2), (39, vI y4), (50, .bool (!r1.2))]) (obs := []) trivial hf41 (by kernel_rfl) (by kernel_rfl) .nil fun a36 hf42 => ?_
          refine p_done (by kernel_rfl) ?_
          refine n_then ?_
          refine w_if hf42 (b := (!r1.2)) (by kernel_rfl) (fun hb7 => ?_) (fun hb7 => ?_)
          · have hr15 := cond_t hb7 hr14
            refine w_seq (by kernel_rfl) ?_
            refine w_reg (by kernel_rfl) ?_
            refine p_run 1 [] [4, 51] (fl' := [(4, pB b3 0), (51, .agg #[vI 0, vI 0])]) (obs := []) trivial hf42 (by kernel_rfl) (by kernel_rfl) .nil fun a37 hf43 => ?_
            refine p_store_eq (i := 1) (j := 3) (b := b3) (off := 0) (vs := [vI 0, vI 0]) (cs' := [vI 0, vI 0]) hS16 hf43 rfl (by kernel_rfl) (by kernel_rfl) rfl fun ww15 a38 hS17 hf44 => ⟨fun _ => trivial, ?_⟩
            refine p_run 1 [] [4, 5] (fl' := [(4, pB b3 0), (5, vI 5)]) (obs := []) trivial hf44 (by kernel_rfl) (by kernel_rfl) .nil fun a39 hf45 => ?_
            refine p_done (by kernel_rfl) ?_
            refine n_then ?_
            refine w_ret (by kernel_rfl) ?_
            refine r_then ?_
            refine r_block ?_
            refine r_then ?_
            refine r_then ?_
            refine r_block ?_
            refine r_block ?_
            refine r_then ?_
            refine r_then ?_
            refine r_block ?_
            refine r_then ?_
            refine p_ret (os := [vI 0, vI 0]) (v := .tuple #[.agg #[vI 0, vI 0], vI 5]) (obs := [.cell ⟨b3, 0, none⟩ (vI 0), .cell ⟨b3, 1, none⟩ (vI 0)]) hf45 (by kernel_rfl) (.cell (hS17.box (i := 3) rfl (j := 0) rfl) (.cell (hS17.box (i := 3) rfl (j := 1) rfl) .nil)) ?_
            obtain rfl := some_eq hr15
            exact ⟨_, rfl, z6, (Zone.le_trans (Zone.le_trans (Zone.le_trans k5 k6) k7) k8), rfl, (St.drop 6 hS17)⟩
          · have hr16 := cond_f hb7 hr14
            refine w_skip (by kernel_rfl) ?_
            refine n_then ?_
            refine w_reg (by kernel_rfl) ?_
            refine p_run 9 [vI y2, vI y3] [3, 4, 6, 8, 27, 28, 29, 37, 38, 39, 60] (fl' := [(3, pB b2 0), (4, pB b3 0), (6, pB b4 0), (8, vI p1), (27, .slice (some ⟨b5, 0, none⟩) ([x0_lo, x0_hi].length) 2), (28, vI 2), (29, vI y1), (37, .slice (some ⟨b6, 0, none⟩) ([x1_lo, x1_hi].length) 2), (38, vI 2), (39, vI y4), (60, .agg #[vI (if r1.1 < y2 then r1.1 else y2), vI (if r1.1 > y3 then r1.1 else y3)])]) (obs := [.cell ⟨b4, 0, none⟩ (vI y2), .cell ⟨b4, 1, none⟩ (vI y3)]) trivial hf42 (by kernel_rfl) (by kernel_rfl) (.cell (hS16.box (i := 2) rfl (j := 0) rfl) (.cell (hS16.box (i := 2) rfl (j := 1) rfl) .nil)) fun a40 hf46 => ?_
            refine p_store_eq (i := 9) (j := 2) (b := b4) (off := 0) (vs := [vI (if r1.1 < y2 then r1.1 else y2), vI (if r1.1 > y3 then r1.1 else y3)]) (cs' := [vI (if r1.1 < y2 then r1.1 else y2), vI (if r1.1 > y3 then r1.1 else y3)]) hS16 hf46 rfl (by kernel_rfl) (by kernel_rfl) rfl fun ww16 a41 hS18 hf47 => ⟨fun _ => trivial, ?_⟩
            refine p_done (by kernel_rfl) ?_
            refine n_block ?_
            refine n_then ?_
            refine w_reg (by kernel_rfl) ?_
            refine p_run 2 [] [3, 4, 6, 8, 27, 28, 29, 37, 38, 39] (fl' := [(3, pB b2 0), (4, pB b3 0), (6, pB b4 0), (8, vI p1), (27, .slice (some ⟨b5, 0, none⟩) ([x0_lo, x0_hi].length) 2), (28, vI 2), (29, vI y1), (37, .slice (some ⟨b6, 0, none⟩) ([x1_lo, x1_hi].length) 2), (38, vI 2), (39, vI (w64 (y4 + (1 : Int))))]) (obs := []) trivial hf47 (by kernel_rfl) (by kernel_rfl) .nil fun a42 hf48 => ?_
            refine p_done (by kernel_rfl) ?_
            refine n_then ?_
            have hf49 := Fr.keep (ks := [3, 4, 6, 8, 27, 28, 29, 37, 38, 39]) (r := [(3, pB b2 0), (4, pB b3 0), (6, pB b4 0), (8, vI p1), (27, .slice (some ⟨b5, 0, none⟩) ([x0_lo, x0_hi].length) 2), (28, vI 2), (29, vI y1), (37, .slice (some ⟨b6, 0, none⟩) ([x1_lo, x1_hi].length) 2), (38, vI 2), (39, vI (w64 (y4 + (1 : Int))))]) hf48 (by kernel_rfl)
            exact ⟨n1, Nat.lt_succ_self n1, z6, (if r1.1 < y2 then r1.1 else y2), (if r1.1 > y3 then r1.1 else y3), (w64 (y4 + (1 : Int))), (Zone.le_trans k7 k8), hf49, hS18, hr16⟩
        · have hr17 := cond_f hb5 hr11
          refine w_exit (id := 2) (by kernel_rfl) ?_
          refine x_then ?_
          refine x_then ?_
          refine x_block ?_
          refine n_block ?_
          refine n_then ?_
          refine w_reg (by kernel_rfl) ?_
          refine p_run 2 [] [3, 4, 6, 27, 28, 29] (fl' := [(3, pB b2 0), (4, pB b3 0), (6, pB b4 0), (27, .slice (some ⟨b5, 0, none⟩) ([x0_lo, x0_hi].length) 2), (28, vI 2), (29, vI (w64 (y1 + (1 : Int))))]) (obs := []) trivial hf37 (by kernel_rfl) (by kernel_rfl) .nil fun a43 hf50 => ?_
          refine p_done (by kernel_rfl) ?_
          refine n_then ?_
          have hf51 := Fr.keep (ks := [3, 4, 6, 27, 28, 29]) (r := [(3, pB b2 0), (4, pB b3 0), (6, pB b4 0), (27, .slice (some ⟨b5, 0, none⟩) ([x0_lo, x0_hi].length) 2), (28, vI 2), (29, vI (w64 (y1 + (1 : Int))))]) hf50 (by kernel_rfl)
          exact ⟨n2, Nat.lt_succ_self n2, z5, y2, y3, (w64 (y1 + (1 : Int))), (Zone.le_trans k6 k7), hf51, (St.drop 1 hS15), hr17⟩
      · have hr18 := cond_f hb3 hr8
        refine w_exit (id := 0) (by kernel_rfl) ?_
        refine x_then ?_
        refine x_then ?_
        refine x_block ?_
        refine n_then ?_
        refine w_seq (by kernel_rfl) ?_
        refine w_reg (by kernel_rfl) ?_
        refine p_run 1 [vI y5, vI y6] [4, 63] (fl' := [(4, pB b3 0), (63, .agg #[vI y5, vI y6])]) (obs := [.cell ⟨b4, 0, none⟩ (vI y5), .cell ⟨b4, 1, none⟩ (vI y6)]) trivial hf30 (by kernel_rfl) (by kernel_rfl) (.cell (hS12.box (i := 1) rfl (j := 0) rfl) (.cell (hS12.box (i := 1) rfl (j := 1) rfl) .nil)) fun a44 hf52 => ?_
        refine p_store_eq (i := 1) (j := 2) (b := b3) (off := 0) (vs := [vI y5, vI y6]) (cs' := [vI y5, vI y6]) hS12 hf52 rfl (by kernel_rfl) (by kernel_rfl) rfl fun ww17 a45 hS19 hf53 => ⟨fun _ => trivial, ?_⟩
        refine p_run 1 [] [4, 5] (fl' := [(4, pB b3 0), (5, vI 0)]) (obs := []) trivial hf53 (by kernel_rfl) (by kernel_rfl) .nil fun a46 hf54 => ?_
        refine p_done (by kernel_rfl) ?_
        refine n_then ?_
        refine w_ret (by kernel_rfl) ?_
        refine p_ret (os := [vI y5, vI y6]) (v := .tuple #[.agg #[vI y5, vI y6], vI 0]) (obs := [.cell ⟨b3, 0, none⟩ (vI y5), .cell ⟨b3, 1, none⟩ (vI y6)]) hf54 (by kernel_rfl) (.cell (hS19.box (i := 2) rfl (j := 0) rfl) (.cell (hS19.box (i := 2) rfl (j := 1) rfl) .nil)) ?_
        obtain rfl := some_eq hr18
        exact ⟨_, rfl, z4, (Zone.le_trans k5 k6), rfl, (St.drop 5 hS19)⟩
def F100_j1 (y1 : Int) : Option (Int) :=
  (some (y1))
def F100 (fuel : Nat) (x0 : Int) (x1 : Int) : Option (Int) :=
  ((nz x1).bind fun _ => ((nz x1).bind fun _ => (cond (decide ((Int.tmod x0 x1) < (0 : Int))) (F100_j1 (w64 ((w64 (Int.tdiv x0 x1)) - (1 : Int)))) (F100_j1 (w64 (Int.tdiv x0 x1))))))
set_option maxRecDepth 100000 in
theorem f100_ok (fuel : Nat) (x0 : Int) (x1 : Int) (r : Int) (hr : F100 fuel x0 x1 = some r) (h : Zone) (L : List Atom) (w : World) (hS : St h L w)  :
    Calls Try.prog 100 #[vI x0, vI x1] w fun e w' => ∃ v, e = .returned v ∧ (∃ h', Zone.le h h' ∧ v = vI r ∧ St h' L w') := by
  refine calls_intro (N := 16) Try.func100 (by kernel_rfl) fun a hf => ?_
  refine w_seq (by kernel_rfl) ?_
  refine w_reg (by kernel_rfl) ?_
  refine p_run 1 [] [0, 1] (fl' := [(0, vI x0), (1, vI x1)]) (obs := []) trivial hf (by kernel_rfl) (by kernel_rfl) .nil fun a1 hf1 => ?_
  refine p_done (by kernel_rfl) ?_
  refine n_then ?_
  refine w_seq (by kernel_rfl) ?_
  refine w_reg (by kernel_rfl) ?_
  obtain ⟨u1, hd1, hr1⟩ := bind_some hr
  refine p_run 4 [] [0, 1, 5] (fl' := [(0, vI x0), (1, vI x1), (5, vI (w64 (Int.tdiv x0 x1)))]) (obs := [.prop (x1 ≠ 0)]) trivial hf1 (by kernel_rfl) (by kernel_rfl) (.prop (nz_spec hd1) .nil) fun a2 hf2 => ?_
  refine p_done (by kernel_rfl) ?_
  refine n_then ?_
  refine w_mid (by kernel_rfl) (fun a w => ∃ z1 : Zone, ∃ y1 : Int, Zone.le h z1 ∧ Fr a 16 [(5, vI y1)] ∧ St z1 (L) w ∧ (F100_j1 y1) = some r) ?_ ?_
  · skip
    refine w_seq (by kernel_rfl) ?_
    refine w_reg (by kernel_rfl) ?_
    obtain ⟨u2, hd2, hr2⟩ := bind_some hr1
    refine p_run 4 [] [5, 12] (fl' := [(5, vI (w64 (Int.tdiv x0 x1))), (12, .bool (decide ((Int.tmod x0 x1) < (0 : Int))))]) (obs := [.prop (x1 ≠ 0)]) trivial hf2 (by kernel_rfl) (by kernel_rfl) (.prop (nz_spec hd2) .nil) fun a3 hf3 => ?_
    refine p_done (by kernel_rfl) ?_
    refine n_then ?_
    refine w_if hf3 (b := (decide ((Int.tmod x0 x1) < (0 : Int)))) (by kernel_rfl) (fun hb1 => ?_) (fun hb1 => ?_)
    · have hr3 := cond_t hb1 hr2
      refine w_reg (by kernel_rfl) ?_
      refine p_run 3 [] [5] (fl' := [(5, vI (w64 ((w64 (Int.tdiv x0 x1)) - (1 : Int))))]) (obs := []) trivial hf3 (by kernel_rfl) (by kernel_rfl) .nil fun a4 hf4 => ?_
      refine p_done (by kernel_rfl) ?_
      refine n_then ?_
      have hf5 := Fr.keep (ks := [5]) (r := [(5, vI (w64 ((w64 (Int.tdiv x0 x1)) - (1 : Int))))]) hf4 (by kernel_rfl)
      exact ⟨h, (w64 ((w64 (Int.tdiv x0 x1)) - (1 : Int))), (Zone.le_refl _), hf5, hS, hr3⟩
    · have hr4 := cond_f hb1 hr2
      refine w_skip (by kernel_rfl) ?_
      refine n_then ?_
      have hf6 := Fr.keep (ks := [5]) (r := [(5, vI (w64 (Int.tdiv x0 x1)))]) hf3 (by kernel_rfl)
      exact ⟨h, (w64 (Int.tdiv x0 x1)), (Zone.le_refl _), hf6, hS, hr4⟩
  · rintro a5 ww1 ⟨z1, y1, k1, hf7, hS1, hr5⟩
    refine w_seq (by kernel_rfl) ?_
    refine w_reg (by kernel_rfl) ?_
    refine p_run 2 [] [4] (fl' := [(4, vI y1)]) (obs := []) trivial hf7 (by kernel_rfl) (by kernel_rfl) .nil fun a6 hf8 => ?_
    refine p_done (by kernel_rfl) ?_
    refine n_then ?_
    refine w_ret (by kernel_rfl) ?_
    refine p_ret (os := []) (v := vI y1) (obs := []) hf8 (by kernel_rfl) .nil ?_
    obtain rfl := some_eq hr5
    exact ⟨_, rfl, z1, k1, rfl, hS1⟩
def F109_j1 (fuel : Nat) (x0 : Int) (x1 : Int) (x2 : Int) (r1 : Int) (y1 : Bool) : Option (Int × Bool) :=
  (cond y1 (some (0, false)) ((F100 fuel (w64 ((w64 (x0 - (w64 (r1 * x2)))) * x1)) x2).bind fun r2 => (some ((w64 ((w64 (r1 * x1)) + r2)), true))))
def F109 (fuel : Nat) (x0 : Int) (x1 : Int) (x2 : Int) : Option (Int × Bool) :=
  ((F100 fuel x0 x2).bind fun r1 => (cond ((if (w64 (0 - x1)) > x1 then (w64 (0 - x1)) else x1) != (0 : Int)) ((nz (if (w64 (0 - x1)) > x1 then (w64 (0 - x1)) else x1)).bind fun _ => (F109_j1 fuel x0 x1 x2 r1 (decide ((if (w64 (0 - r1)) > r1 then (w64 (0 - r1)) else r1) > (w64 ((w64 (Int.tdiv 1000000000000000 (if (w64 (0 - x1)) > x1 then (w64 (0 - x1)) else x1))) + (1 : Int))))))) (F109_j1 fuel x0 x1 x2 r1 false)))
set_option maxRecDepth 100000 in
theorem f109_ok (fuel : Nat) (x0 : Int) (x1 : Int) (x2 : Int) (r : Int × Bool) (hr : F109 fuel x0 x1 x2 = some r) (h : Zone) (L : List Atom) (w : World) (hS : St h L w)  :
    Calls Try.prog 109 #[vI x0, vI x1, vI x2] w fun e w' => ∃ v, e = .returned v ∧ (∃ h', Zone.le h h' ∧ v = .tuple #[vI r.1, .bool r.2] ∧ St h' L w') := by
  refine calls_intro (N := 44) Try.func109 (by kernel_rfl) fun a hf => ?_
  refine w_seq (by kernel_rfl) ?_
  refine w_reg (by kernel_rfl) ?_
  refine p_run 2 [] [0, 1, 2] (fl' := [(0, vI x0), (1, vI x1), (2, vI x2)]) (obs := []) trivial hf (by kernel_rfl) (by kernel_rfl) .nil fun a1 hf1 => ?_
  refine p_done (by kernel_rfl) ?_
  refine n_then ?_
  refine w_seq (by kernel_rfl) ?_
  refine w_reg (by kernel_rfl) ?_
  refine p_run 2 [] [0, 1, 2, 11, 12] (fl' := [(0, vI x0), (1, vI x1), (2, vI x2), (11, vI x0), (12, vI x2)]) (obs := []) trivial hf1 (by kernel_rfl) (by kernel_rfl) .nil fun a2 hf2 => ?_
  obtain ⟨r1, hd1, hr1⟩ := bind_some hr
  refine p_call (i := 2) (d := some 13) (f := 100) (args := #[vI x0, vI x2]) hf2 (by kernel_rfl) (f100_ok fuel x0 x2 r1 hd1 h _ _ hS ) ?_
  rintro v1 ww1 a3 ⟨z1, k1, rfl, hS1⟩ hf3
  refine ⟨fun _ => trivial, ?_⟩
  refine p_run 1 [] [0, 1, 2, 8] (fl' := [(0, vI x0), (1, vI x1), (2, vI x2), (8, vI r1)]) (obs := []) trivial hf3 (by kernel_rfl) (by kernel_rfl) .nil fun a4 hf4 => ?_
  refine p_done (by kernel_rfl) ?_
  refine n_then ?_
  refine w_seq (by kernel_rfl) ?_
  refine w_reg (by kernel_rfl) ?_
  refine p_run 6 [] [1, 2, 8, 9] (fl' := [(1, vI x1), (2, vI x2), (8, vI r1), (9, vI (w64 (x0 - (w64 (r1 * x2)))))]) (obs := []) trivial hf4 (by kernel_rfl) (by kernel_rfl) .nil fun a5 hf5 => ?_
  refine p_done (by kernel_rfl) ?_
  refine n_then ?_
  refine w_seq (by kernel_rfl) ?_
  refine w_reg (by kernel_rfl) ?_
  refine p_run 5 [] [1, 2, 8, 9, 10] (fl' := [(1, vI x1), (2, vI x2), (8, vI r1), (9, vI (w64 (x0 - (w64 (r1 * x2))))), (10, vI (if (w64 (0 - x1)) > x1 then (w64 (0 - x1)) else x1))]) (obs := []) trivial hf5 (by kernel_rfl) (by kernel_rfl) .nil fun a6 hf6 => ?_
  refine p_done (by kernel_rfl) ?_
  refine n_then ?_
  refine w_seq (by kernel_rfl) ?_
  refine w_mid (by kernel_rfl) (fun a w => ∃ z2 : Zone, ∃ y1 : Bool, Zone.le z1 z2 ∧ Fr a 44 [(1, vI x1), (2, vI x2), (8, vI r1), (9, vI (w64 (x0 - (w64 (r1 * x2))))), (34, .bool y1)] ∧ St z2 (L) w ∧ (F109_j1 fuel x0 x1 x2 r1 y1) = some r) ?_ ?_
  · skip
    refine w_reg (by kernel_rfl) ?_
    refine p_run 3 [] [1, 2, 8, 9, 10, 25] (fl' := [(1, vI x1), (2, vI x2), (8, vI r1), (9, vI (w64 (x0 - (w64 (r1 * x2))))), (10, vI (if (w64 (0 - x1)) > x1 then (w64 (0 - x1)) else x1)), (25, .bool ((if (w64 (0 - x1)) > x1 then (w64 (0 - x1)) else x1) != (0 : Int)))]) (obs := []) trivial hf6 (by kernel_rfl) (by kernel_rfl) .nil fun a7 hf7 => ?_
    rcases Bool.eq_false_or_eq_true ((if (w64 (0 - x1)) > x1 then (w64 (0 - x1)) else x1) != (0 : Int)) with hb1 | hb1
    · have hr2 := cond_t hb1 hr1
      have hf8 := Fr.conv hf7 (congrArg (fun z => ([(1, vI x1), (2, vI x2), (8, vI r1), (9, vI (w64 (x0 - (w64 (r1 * x2))))), (10, vI (if (w64 (0 - x1)) > x1 then (w64 (0 - x1)) else x1)), (25, .bool z)] : FL)) hb1)
      obtain ⟨u1, hd2, hr3⟩ := bind_some hr2
      refine p_run 9 [] [1, 2, 8, 9, 34] (fl' := [(1, vI x1), (2, vI x2), (8, vI r1), (9, vI (w64 (x0 - (w64 (r1 * x2))))), (34, .bool (decide ((if (w64 (0 - r1)) > r1 then (w64 (0 - r1)) else r1) > (w64 ((w64 (Int.tdiv 1000000000000000 (if (w64 (0 - x1)) > x1 then (w64 (0 - x1)) else x1))) + (1 : Int))))))]) (obs := [.prop ((if (w64 (0 - x1)) > x1 then (w64 (0 - x1)) else x1) ≠ 0)]) trivial hf8 (by kernel_rfl) (by kernel_rfl) (.prop (nz_spec hd2) .nil) fun a8 hf9 => ?_
      refine p_done (by kernel_rfl) ?_
      refine n_then ?_
      have hf10 := Fr.keep (ks := [1, 2, 8, 9, 34]) (r := [(1, vI x1), (2, vI x2), (8, vI r1), (9, vI (w64 (x0 - (w64 (r1 * x2))))), (34, .bool (decide ((if (w64 (0 - r1)) > r1 then (w64 (0 - r1)) else r1) > (w64 ((w64 (Int.tdiv 1000000000000000 (if (w64 (0 - x1)) > x1 then (w64 (0 - x1)) else x1))) + (1 : Int))))))]) hf9 (by kernel_rfl)
      exact ⟨z1, (decide ((if (w64 (0 - r1)) > r1 then (w64 (0 - r1)) else r1) > (w64 ((w64 (Int.tdiv 1000000000000000 (if (w64 (0 - x1)) > x1 then (w64 (0 - x1)) else x1))) + (1 : Int))))), (Zone.le_refl _), hf10, hS1, hr3⟩
    · have hr4 := cond_f hb1 hr1
      have hf11 := Fr.conv hf7 (congrArg (fun z => ([(1, vI x1), (2, vI x2), (8, vI r1), (9, vI (w64 (x0 - (w64 (r1 * x2))))), (10, vI (if (w64 (0 - x1)) > x1 then (w64 (0 - x1)) else x1)), (25, .bool z)] : FL)) hb1)
      refine p_run 9 [] [1, 2, 8, 9, 34] (fl' := [(1, vI x1), (2, vI x2), (8, vI r1), (9, vI (w64 (x0 - (w64 (r1 * x2))))), (34, .bool false)]) (obs := []) trivial hf11 (by kernel_rfl) (by kernel_rfl) .nil fun a9 hf12 => ?_
      refine p_done (by kernel_rfl) ?_
      refine n_then ?_
      have hf13 := Fr.keep (ks := [1, 2, 8, 9, 34]) (r := [(1, vI x1), (2, vI x2), (8, vI r1), (9, vI (w64 (x0 - (w64 (r1 * x2))))), (34, .bool false)]) hf12 (by kernel_rfl)
      exact ⟨z1, false, (Zone.le_refl _), hf13, hS1, hr4⟩
  · rintro a10 ww2 ⟨z2, y1, k2, hf14, hS2, hr5⟩
    refine w_if hf14 (b := y1) (by kernel_rfl) (fun hb2 => ?_) (fun hb2 => ?_)
    · have hr6 := cond_t hb2 hr5
      refine w_seq (by kernel_rfl) ?_
      refine w_reg (by kernel_rfl) ?_
      refine p_run 2 [] [6, 7] (fl' := [(6, vI 0), (7, .bool false)]) (obs := []) trivial hf14 (by kernel_rfl) (by kernel_rfl) .nil fun a11 hf15 => ?_
      refine p_done (by kernel_rfl) ?_
      refine n_then ?_
      refine w_ret (by kernel_rfl) ?_
      refine r_then ?_
      refine p_ret (os := []) (v := .tuple #[vI 0, .bool false]) (obs := []) hf15 (by kernel_rfl) .nil ?_
      obtain rfl := some_eq hr6
      exact ⟨_, rfl, z2, (Zone.le_trans k1 k2), rfl, hS2⟩
    · have hr7 := cond_f hb2 hr5
      refine w_skip (by kernel_rfl) ?_
      refine n_then ?_
      refine w_seq (by kernel_rfl) ?_
      refine w_reg (by kernel_rfl) ?_
      refine p_run 7 [] [37, 40, 41] (fl' := [(37, vI (w64 (r1 * x1))), (40, vI (w64 ((w64 (x0 - (w64 (r1 * x2)))) * x1))), (41, vI x2)]) (obs := []) trivial hf14 (by kernel_rfl) (by kernel_rfl) .nil fun a12 hf16 => ?_
      obtain ⟨r2, hd3, hr8⟩ := bind_some hr7
      refine p_call (i := 7) (d := some 42) (f := 100) (args := #[vI (w64 ((w64 (x0 - (w64 (r1 * x2)))) * x1)), vI x2]) hf16 (by kernel_rfl) (f100_ok fuel (w64 ((w64 (x0 - (w64 (r1 * x2)))) * x1)) x2 r2 hd3 z2 _ _ hS2 ) ?_
      rintro v2 ww3 a13 ⟨z3, k3, rfl, hS3⟩ hf17
      refine ⟨fun _ => trivial, ?_⟩
      refine p_run 3 [] [6, 7] (fl' := [(6, vI (w64 ((w64 (r1 * x1)) + r2))), (7, .bool true)]) (obs := []) trivial hf17 (by kernel_rfl) (by kernel_rfl) .nil fun a14 hf18 => ?_
      refine p_done (by kernel_rfl) ?_
      refine n_then ?_
      refine w_ret (by kernel_rfl) ?_
      refine p_ret (os := []) (v := .tuple #[vI (w64 ((w64 (r1 * x1)) + r2)), .bool true]) (obs := []) hf18 (by kernel_rfl) .nil ?_
      obtain rfl := some_eq hr8
      exact ⟨_, rfl, z3, (Zone.le_trans (Zone.le_trans k1 k2) k3), rfl, hS3⟩
def F49_j3 (fuel : Nat) (r1 : Int × Bool) (r2 : Int × Bool) (y1 : Bool) : Option (Int × Int × Int) :=
  (cond y1 (some (0, 0, 5)) ((F107 fuel r1.1 (w64 (0 - r2.1))).bind fun r3 => (some (r3.1, r3.2.1, r3.2.2))))
def F49_j2 (fuel : Nat) (x1 : Int) (x2 : Int) (y2 : Int) (y3 : Int) : Option (Int × Int × Int) :=
  ((F109 fuel y2 x1 x2).bind fun r1 => ((F109 fuel (w64 (0 - y3)) x1 x2).bind fun r2 => (cond (!r1.2) (F49_j3 fuel r1 r2 true) (F49_j3 fuel r1 r2 (!r2.2)))))
def F49_j1 (fuel : Nat) (x0_lo : Int) (x0_hi : Int) (x1 : Int) (x2 : Int) (y4 : Bool) : Option (Int × Int × Int) :=
  (cond y4 (some (0, 0, 1)) (cond (decide (x1 < (0 : Int))) (F49_j2 fuel x1 x2 x0_hi x0_lo) (F49_j2 fuel x1 x2 x0_lo x0_hi)))
def F49 (fuel : Nat) (x0_lo : Int) (x0_hi : Int) (x1 : Int) (x2 : Int) : Option (Int × Int × Int) :=
  ((F34 fuel x0_lo x0_hi).bind fun r4 => (cond (!r4) (some (0, 0, 10)) (cond (decide (x1 < (-1000000000 : Int))) (F49_j1 fuel x0_lo x0_hi x1 x2 true) (cond (decide (x1 > (1000000000 : Int))) (F49_j1 fuel x0_lo x0_hi x1 x2 true) (cond (decide (x2 < (1 : Int))) (F49_j1 fuel x0_lo x0_hi x1 x2 true) (F49_j1 fuel x0_lo x0_hi x1 x2 (decide (x2 > (1000000000 : Int)))))))))
set_option maxRecDepth 100000 in
theorem f49_ok (fuel : Nat) (x0_lo : Int) (x0_hi : Int) (x1 : Int) (x2 : Int) (r : Int × Int × Int) (hr : F49 fuel x0_lo x0_hi x1 x2 = some r) (h : Zone) (L : List Atom) (w : World) (hS : St h L w)  :
    Calls Try.prog 49 #[.agg #[vI x0_lo, vI x0_hi], vI x1, vI x2] w fun e w' => ∃ v, e = .returned v ∧ (∃ h', Zone.le h h' ∧ v = .tuple #[.agg #[vI r.1, vI r.2.1], vI r.2.2] ∧ St h' L w') := by
  refine calls_intro (N := 71) Try.func49 (by kernel_rfl) fun a hf => ?_
  refine w_seq (by kernel_rfl) ?_
  refine w_reg (by kernel_rfl) ?_
  refine p_box (i := 0) (d := (some 3)) (cs := [vI x0_lo, vI x0_hi]) (T := 41) (v := fun b1 => pB b1 0) hS hf (fun b => by kernel_rfl) fun b1 ww1 a1 hS1 hf1 => ⟨fun _ => trivial, ?_⟩
  refine p_box (i := 1) (d := (some 6)) (cs := [vI 0, vI 0]) (T := 41) (v := fun b2 => pB b2 0) hS1 hf1 (fun b => by kernel_rfl) fun b2 ww2 a2 hS2 hf2 => ⟨fun _ => trivial, ?_⟩
  refine p_run 1 [] [1, 2, 3, 6] (fl' := [(1, vI x1), (2, vI x2), (3, pB b1 0), (6, pB b2 0)]) (obs := []) trivial hf2 (by kernel_rfl) (by kernel_rfl) .nil fun a3 hf3 => ?_
  refine p_done (by kernel_rfl) ?_
  refine n_then ?_
  refine w_seq (by kernel_rfl) ?_
  refine w_seq (by kernel_rfl) ?_
  refine w_reg (by kernel_rfl) ?_
  refine p_run 1 [vI x0_lo, vI x0_hi] [1, 2, 3, 6, 14] (fl' := [(1, vI x1), (2, vI x2), (3, pB b1 0), (6, pB b2 0), (14, .agg #[vI x0_lo, vI x0_hi])]) (obs := [.cell ⟨b1, 0, none⟩ (vI x0_lo), .cell ⟨b1, 1, none⟩ (vI x0_hi)]) trivial hf3 (by kernel_rfl) (by kernel_rfl) (.cell (hS2.box (i := 1) rfl (j := 0) rfl) (.cell (hS2.box (i := 1) rfl (j := 1) rfl) .nil)) fun a4 hf4 => ?_
  obtain ⟨r4, hd1, hr1⟩ := bind_some hr
  refine p_call (i := 1) (d := some 15) (f := 34) (args := #[.agg #[vI x0_lo, vI x0_hi]]) hf4 (by kernel_rfl) (f34_ok fuel x0_lo x0_hi r4 hd1 h _ _ hS2 ) ?_
  rintro v1 ww3 a5 ⟨z1, k1, rfl, hS3⟩ hf5
  refine ⟨fun _ => trivial, ?_⟩
  refine p_run 1 [] [1, 2, 3, 6, 16] (fl' := [(1, vI x1), (2, vI x2), (3, pB b1 0), (6, pB b2 0), (16, .bool (!r4))]) (obs := []) trivial hf5 (by kernel_rfl) (by kernel_rfl) .nil fun a6 hf6 => ?_
  refine p_done (by kernel_rfl) ?_
  refine n_then ?_
  refine w_if hf6 (b := (!r4)) (by kernel_rfl) (fun hb1 => ?_) (fun hb1 => ?_)
  · have hr2 := cond_t hb1 hr1
    refine w_seq (by kernel_rfl) ?_
    refine w_reg (by kernel_rfl) ?_
    refine p_run 1 [] [6, 17] (fl' := [(6, pB b2 0), (17, .agg #[vI 0, vI 0])]) (obs := []) trivial hf6 (by kernel_rfl) (by kernel_rfl) .nil fun a7 hf7 => ?_
    refine p_store_eq (i := 1) (j := 0) (b := b2) (off := 0) (vs := [vI 0, vI 0]) (cs' := [vI 0, vI 0]) hS3 hf7 rfl (by kernel_rfl) (by kernel_rfl) rfl fun ww4 a8 hS4 hf8 => ⟨fun _ => trivial, ?_⟩
    refine p_run 1 [] [6, 7] (fl' := [(6, pB b2 0), (7, vI 10)]) (obs := []) trivial hf8 (by kernel_rfl) (by kernel_rfl) .nil fun a9 hf9 => ?_
    refine p_done (by kernel_rfl) ?_
    refine n_then ?_
    refine w_ret (by kernel_rfl) ?_
    refine r_then ?_
    refine p_ret (os := [vI 0, vI 0]) (v := .tuple #[.agg #[vI 0, vI 0], vI 10]) (obs := [.cell ⟨b2, 0, none⟩ (vI 0), .cell ⟨b2, 1, none⟩ (vI 0)]) hf9 (by kernel_rfl) (.cell (hS4.box (i := 0) rfl (j := 0) rfl) (.cell (hS4.box (i := 0) rfl (j := 1) rfl) .nil)) ?_
    obtain rfl := some_eq hr2
    exact ⟨_, rfl, z1, k1, rfl, (St.drop 2 hS4)⟩
  · have hr3 := cond_f hb1 hr1
    refine w_skip (by kernel_rfl) ?_
    refine n_then ?_
    refine w_seq (by kernel_rfl) ?_
    refine w_mid (by kernel_rfl) (fun a w => ∃ z2 : Zone, ∃ y4 : Bool, Zone.le z1 z2 ∧ Fr a 71 [(1, vI x1), (2, vI x2), (3, pB b1 0), (6, pB b2 0), (31, .bool y4)] ∧ St z2 (box b2 [vI 0, vI 0] 41 :: box b1 [vI x0_lo, vI x0_hi] 41 :: L) w ∧ (F49_j1 fuel x0_lo x0_hi x1 x2 y4) = some r) ?_ ?_
    · skip
      refine w_reg (by kernel_rfl) ?_
      refine p_run 3 [] [1, 2, 3, 6, 20] (fl' := [(1, vI x1), (2, vI x2), (3, pB b1 0), (6, pB b2 0), (20, .bool (decide (x1 < (-1000000000 : Int))))]) (obs := []) trivial hf6 (by kernel_rfl) (by kernel_rfl) .nil fun a10 hf10 => ?_
      rcases Bool.eq_false_or_eq_true (decide (x1 < (-1000000000 : Int))) with hb2 | hb2
      · have hr4 := cond_t hb2 hr3
        have hf11 := Fr.conv hf10 (congrArg (fun z => ([(1, vI x1), (2, vI x2), (3, pB b1 0), (6, pB b2 0), (20, .bool z)] : FL)) hb2)
        refine p_run 11 [] [1, 2, 3, 6, 31] (fl' := [(1, vI x1), (2, vI x2), (3, pB b1 0), (6, pB b2 0), (31, .bool true)]) (obs := []) trivial hf11 (by kernel_rfl) (by kernel_rfl) .nil fun a11 hf12 => ?_
        refine p_done (by kernel_rfl) ?_
        refine n_then ?_
        have hf13 := Fr.keep (ks := [1, 2, 3, 6, 31]) (r := [(1, vI x1), (2, vI x2), (3, pB b1 0), (6, pB b2 0), (31, .bool true)]) hf12 (by kernel_rfl)
        exact ⟨z1, true, (Zone.le_refl _), hf13, hS3, hr4⟩
      · have hr5 := cond_f hb2 hr3
        have hf14 := Fr.conv hf10 (congrArg (fun z => ([(1, vI x1), (2, vI x2), (3, pB b1 0), (6, pB b2 0), (20, .bool z)] : FL)) hb2)
        refine p_run 4 [] [1, 2, 3, 6, 24] (fl' := [(1, vI x1), (2, vI x2), (3, pB b1 0), (6, pB b2 0), (24, .bool (decide (x1 > (1000000000 : Int))))]) (obs := []) trivial hf14 (by kernel_rfl) (by kernel_rfl) .nil fun a12 hf15 => ?_
        rcases Bool.eq_false_or_eq_true (decide (x1 > (1000000000 : Int))) with hb3 | hb3
        · have hr6 := cond_t hb3 hr5
          have hf16 := Fr.conv hf15 (congrArg (fun z => ([(1, vI x1), (2, vI x2), (3, pB b1 0), (6, pB b2 0), (24, .bool z)] : FL)) hb3)
          refine p_run 7 [] [1, 2, 3, 6, 31] (fl' := [(1, vI x1), (2, vI x2), (3, pB b1 0), (6, pB b2 0), (31, .bool true)]) (obs := []) trivial hf16 (by kernel_rfl) (by kernel_rfl) .nil fun a13 hf17 => ?_
          refine p_done (by kernel_rfl) ?_
          refine n_then ?_
          have hf18 := Fr.keep (ks := [1, 2, 3, 6, 31]) (r := [(1, vI x1), (2, vI x2), (3, pB b1 0), (6, pB b2 0), (31, .bool true)]) hf17 (by kernel_rfl)
          exact ⟨z1, true, (Zone.le_refl _), hf18, hS3, hr6⟩
        · have hr7 := cond_f hb3 hr5
          have hf19 := Fr.conv hf15 (congrArg (fun z => ([(1, vI x1), (2, vI x2), (3, pB b1 0), (6, pB b2 0), (24, .bool z)] : FL)) hb3)
          refine p_run 4 [] [1, 2, 3, 6, 28] (fl' := [(1, vI x1), (2, vI x2), (3, pB b1 0), (6, pB b2 0), (28, .bool (decide (x2 < (1 : Int))))]) (obs := []) trivial hf19 (by kernel_rfl) (by kernel_rfl) .nil fun a14 hf20 => ?_
          rcases Bool.eq_false_or_eq_true (decide (x2 < (1 : Int))) with hb4 | hb4
          · have hr8 := cond_t hb4 hr7
            have hf21 := Fr.conv hf20 (congrArg (fun z => ([(1, vI x1), (2, vI x2), (3, pB b1 0), (6, pB b2 0), (28, .bool z)] : FL)) hb4)
            refine p_run 3 [] [1, 2, 3, 6, 31] (fl' := [(1, vI x1), (2, vI x2), (3, pB b1 0), (6, pB b2 0), (31, .bool true)]) (obs := []) trivial hf21 (by kernel_rfl) (by kernel_rfl) .nil fun a15 hf22 => ?_
            refine p_done (by kernel_rfl) ?_
            refine n_then ?_
            have hf23 := Fr.keep (ks := [1, 2, 3, 6, 31]) (r := [(1, vI x1), (2, vI x2), (3, pB b1 0), (6, pB b2 0), (31, .bool true)]) hf22 (by kernel_rfl)
            exact ⟨z1, true, (Zone.le_refl _), hf23, hS3, hr8⟩
          · have hr9 := cond_f hb4 hr7
            have hf24 := Fr.conv hf20 (congrArg (fun z => ([(1, vI x1), (2, vI x2), (3, pB b1 0), (6, pB b2 0), (28, .bool z)] : FL)) hb4)
            refine p_run 3 [] [1, 2, 3, 6, 31] (fl' := [(1, vI x1), (2, vI x2), (3, pB b1 0), (6, pB b2 0), (31, .bool (decide (x2 > (1000000000 : Int))))]) (obs := []) trivial hf24 (by kernel_rfl) (by kernel_rfl) .nil fun a16 hf25 => ?_
            refine p_done (by kernel_rfl) ?_
            refine n_then ?_
            have hf26 := Fr.keep (ks := [1, 2, 3, 6, 31]) (r := [(1, vI x1), (2, vI x2), (3, pB b1 0), (6, pB b2 0), (31, .bool (decide (x2 > (1000000000 : Int))))]) hf25 (by kernel_rfl)
            exact ⟨z1, (decide (x2 > (1000000000 : Int))), (Zone.le_refl _), hf26, hS3, hr9⟩
    · rintro a17 ww5 ⟨z2, y4, k2, hf27, hS5, hr10⟩
      refine w_if hf27 (b := y4) (by kernel_rfl) (fun hb5 => ?_) (fun hb5 => ?_)
      · have hr11 := cond_t hb5 hr10
        refine w_seq (by kernel_rfl) ?_
        refine w_reg (by kernel_rfl) ?_
        refine p_run 1 [] [6, 32] (fl' := [(6, pB b2 0), (32, .agg #[vI 0, vI 0])]) (obs := []) trivial hf27 (by kernel_rfl) (by kernel_rfl) .nil fun a18 hf28 => ?_
        refine p_store_eq (i := 1) (j := 0) (b := b2) (off := 0) (vs := [vI 0, vI 0]) (cs' := [vI 0, vI 0]) hS5 hf28 rfl (by kernel_rfl) (by kernel_rfl) rfl fun ww6 a19 hS6 hf29 => ⟨fun _ => trivial, ?_⟩
        refine p_run 1 [] [6, 7] (fl' := [(6, pB b2 0), (7, vI 1)]) (obs := []) trivial hf29 (by kernel_rfl) (by kernel_rfl) .nil fun a20 hf30 => ?_
        refine p_done (by kernel_rfl) ?_
        refine n_then ?_
        refine w_ret (by kernel_rfl) ?_
        refine r_then ?_
        refine p_ret (os := [vI 0, vI 0]) (v := .tuple #[.agg #[vI 0, vI 0], vI 1]) (obs := [.cell ⟨b2, 0, none⟩ (vI 0), .cell ⟨b2, 1, none⟩ (vI 0)]) hf30 (by kernel_rfl) (.cell (hS6.box (i := 0) rfl (j := 0) rfl) (.cell (hS6.box (i := 0) rfl (j := 1) rfl) .nil)) ?_
        obtain rfl := some_eq hr11
        exact ⟨_, rfl, z2, (Zone.le_trans k1 k2), rfl, (St.drop 2 hS6)⟩
      · have hr12 := cond_f hb5 hr10
        refine w_skip (by kernel_rfl) ?_
        refine n_then ?_
        refine w_seq (by kernel_rfl) ?_
        refine w_reg (by kernel_rfl) ?_
        refine p_run 3 [vI x0_lo] [1, 2, 3, 6, 8] (fl' := [(1, vI x1), (2, vI x2), (3, pB b1 0), (6, pB b2 0), (8, vI x0_lo)]) (obs := [.cell ⟨b1, 0, none⟩ (vI x0_lo)]) trivial hf27 (by kernel_rfl) (by kernel_rfl) (.cell (hS5.box (i := 1) rfl (j := 0) rfl) .nil) fun a21 hf31 => ?_
        refine p_done (by kernel_rfl) ?_
        refine n_then ?_
        refine w_seq (by kernel_rfl) ?_
        refine w_reg (by kernel_rfl) ?_
        refine p_run 3 [vI x0_hi] [1, 2, 3, 6, 8, 9] (fl' := [(1, vI x1), (2, vI x2), (3, pB b1 0), (6, pB b2 0), (8, vI x0_lo), (9, vI x0_hi)]) (obs := [.cell ⟨b1, 1, none⟩ (vI x0_hi)]) trivial hf31 (by kernel_rfl) (by kernel_rfl) (.cell (hS5.box (i := 1) rfl (j := 1) rfl) .nil) fun a22 hf32 => ?_
        refine p_done (by kernel_rfl) ?_
        refine n_then ?_
        refine w_mid (by kernel_rfl) (fun a w => ∃ z3 : Zone, ∃ y2 : Int, ∃ y3 : Int, Zone.le z2 z3 ∧ Fr a 71 [(1, vI x1), (2, vI x2), (6, pB b2 0), (8, vI y2), (9, vI y3)] ∧ St z3 (box b2 [vI 0, vI 0] 41 :: box b1 [vI x0_lo, vI x0_hi] 41 :: L) w ∧ (F49_j2 fuel x1 x2 y2 y3) = some r) ?_ ?_
        · skip
          refine w_seq (by kernel_rfl) ?_
          refine w_reg (by kernel_rfl) ?_
          refine p_run 2 [] [1, 2, 3, 6, 8, 9, 38] (fl' := [(1, vI x1), (2, vI x2), (3, pB b1 0), (6, pB b2 0), (8, vI x0_lo), (9, vI x0_hi), (38, .bool (decide (x1 < (0 : Int))))]) (obs := []) trivial hf32 (by kernel_rfl) (by kernel_rfl) .nil fun a23 hf33 => ?_
          refine p_done (by kernel_rfl) ?_
          refine n_then ?_
          refine w_if hf33 (b := (decide (x1 < (0 : Int)))) (by kernel_rfl) (fun hb6 => ?_) (fun hb6 => ?_)
          · have hr13 := cond_t hb6 hr12
            refine w_seq (by kernel_rfl) ?_
            refine w_reg (by kernel_rfl) ?_
            refine p_run 3 [vI x0_hi] [1, 2, 3, 6, 8] (fl' := [(1, vI x1), (2, vI x2), (3, pB b1 0), (6, pB b2 0), (8, vI x0_hi)]) (obs := [.cell ⟨b1, 1, none⟩ (vI x0_hi)]) trivial hf33 (by kernel_rfl) (by kernel_rfl) (.cell (hS5.box (i := 1) rfl (j := 1) rfl) .nil) fun a24 hf34 => ?_
            refine p_done (by kernel_rfl) ?_
            refine n_then ?_
            refine w_reg (by kernel_rfl) ?_
            refine p_run 3 [vI x0_lo] [1, 2, 6, 8, 9] (fl' := [(1, vI x1), (2, vI x2), (6, pB b2 0), (8, vI x0_hi), (9, vI x0_lo)]) (obs := [.cell ⟨b1, 0, none⟩ (vI x0_lo)]) trivial hf34 (by kernel_rfl) (by kernel_rfl) (.cell (hS5.box (i := 1) rfl (j := 0) rfl) .nil) fun a25 hf35 => ?_
            refine p_done (by kernel_rfl) ?_
            refine n_then ?_
            have hf36 := Fr.keep (ks := [1, 2, 6, 8, 9]) (r := [(1, vI x1), (2, vI x2), (6, pB b2 0), (8, vI x0_hi), (9, vI x0_lo)]) hf35 (by kernel_rfl)
            exact ⟨z2, x0_hi, x0_lo, (Zone.le_refl _), hf36, hS5, hr13⟩
          · have hr14 := cond_f hb6 hr12
            refine w_skip (by kernel_rfl) ?_
            refine n_then ?_
            have hf37 := Fr.keep (ks := [1, 2, 6, 8, 9]) (r := [(1, vI x1), (2, vI x2), (6, pB b2 0), (8, vI x0_lo), (9, vI x0_hi)]) hf33 (by kernel_rfl)
            exact ⟨z2, x0_lo, x0_hi, (Zone.le_refl _), hf37, hS5, hr14⟩
        · rintro a26 ww7 ⟨z3, y2, y3, k3, hf38, hS7, hr15⟩
          refine w_seq (by kernel_rfl) ?_
          refine w_reg (by kernel_rfl) ?_
          refine p_run 3 [] [1, 2, 6, 9, 44, 45, 46] (fl' := [(1, vI x1), (2, vI x2), (6, pB b2 0), (9, vI y3), (44, vI y2), (45, vI x1), (46, vI x2)]) (obs := []) trivial hf38 (by kernel_rfl) (by kernel_rfl) .nil fun a27 hf39 => ?_
          obtain ⟨r1, hd2, hr16⟩ := bind_some hr15
          refine p_call (i := 3) (d := some 47) (f := 109) (args := #[vI y2, vI x1, vI x2]) hf39 (by kernel_rfl) (f109_ok fuel y2 x1 x2 r1 hd2 z3 _ _ hS7 ) ?_
          rintro v2 ww8 a28 ⟨z4, k4, rfl, hS8⟩ hf40
          refine ⟨fun _ => trivial, ?_⟩
          refine p_run 5 [] [1, 2, 6, 9, 10, 11] (fl' := [(1, vI x1), (2, vI x2), (6, pB b2 0), (9, vI y3), (10, vI r1.1), (11, .bool r1.2)]) (obs := []) trivial hf40 (by kernel_rfl) (by kernel_rfl) .nil fun a29 hf41 => ?_
          refine p_done (by kernel_rfl) ?_
          refine n_then ?_
          refine w_seq (by kernel_rfl) ?_
          refine w_reg (by kernel_rfl) ?_
          refine p_run 4 [] [6, 10, 11, 52, 53, 54] (fl' := [(6, pB b2 0), (10, vI r1.1), (11, .bool r1.2), (52, vI (w64 (0 - y3))), (53, vI x1), (54, vI x2)]) (obs := []) trivial hf41 (by kernel_rfl) (by kernel_rfl) .nil fun a30 hf42 => ?_
          obtain ⟨r2, hd3, hr17⟩ := bind_some hr16
          refine p_call (i := 4) (d := some 55) (f := 109) (args := #[vI (w64 (0 - y3)), vI x1, vI x2]) hf42 (by kernel_rfl) (f109_ok fuel (w64 (0 - y3)) x1 x2 r2 hd3 z4 _ _ hS8 ) ?_
          rintro v3 ww9 a31 ⟨z5, k5, rfl, hS9⟩ hf43
          refine ⟨fun _ => trivial, ?_⟩
          refine p_run 5 [] [6, 10, 11, 12, 13] (fl' := [(6, pB b2 0), (10, vI r1.1), (11, .bool r1.2), (12, vI r2.1), (13, .bool r2.2)]) (obs := []) trivial hf43 (by kernel_rfl) (by kernel_rfl) .nil fun a32 hf44 => ?_
          refine p_done (by kernel_rfl) ?_
          refine n_then ?_
          refine w_seq (by kernel_rfl) ?_
          refine w_mid (by kernel_rfl) (fun a w => ∃ z6 : Zone, ∃ y1 : Bool, Zone.le z5 z6 ∧ Fr a 71 [(6, pB b2 0), (10, vI r1.1), (12, vI r2.1), (63, .bool y1)] ∧ St z6 (box b2 [vI 0, vI 0] 41 :: box b1 [vI x0_lo, vI x0_hi] 41 :: L) w ∧ (F49_j3 fuel r1 r2 y1) = some r) ?_ ?_
          · skip
            refine w_reg (by kernel_rfl) ?_
            refine p_run 3 [] [6, 10, 12, 13, 60] (fl' := [(6, pB b2 0), (10, vI r1.1), (12, vI r2.1), (13, .bool r2.2), (60, .bool (!r1.2))]) (obs := []) trivial hf44 (by kernel_rfl) (by kernel_rfl) .nil fun a33 hf45 => ?_
            rcases Bool.eq_false_or_eq_true (!r1.2) with hb7 | hb7
            · have hr18 := cond_t hb7 hr17
              have hf46 := Fr.conv hf45 (congrArg (fun z => ([(6, pB b2 0), (10, vI r1.1), (12, vI r2.1), (13, .bool r2.2), (60, .bool z)] : FL)) hb7)
              refine p_run 3 [] [6, 10, 12, 63] (fl' := [(6, pB b2 0), (10, vI r1.1), (12, vI r2.1), (63, .bool true)]) (obs := []) trivial hf46 (by kernel_rfl) (by kernel_rfl) .nil fun a34 hf47 => ?_
              refine p_done (by kernel_rfl) ?_
              refine n_then ?_
              have hf48 := Fr.keep (ks := [6, 10, 12, 63]) (r := [(6, pB b2 0), (10, vI r1.1), (12, vI r2.1), (63, .bool true)]) hf47 (by kernel_rfl)
              exact ⟨z5, true, (Zone.le_refl _), hf48, hS9, hr18⟩
            · have hr19 := cond_f hb7 hr17
              have hf49 := Fr.conv hf45 (congrArg (fun z => ([(6, pB b2 0), (10, vI r1.1), (12, vI r2.1), (13, .bool r2.2), (60, .bool z)] : FL)) hb7)
              refine p_run 3 [] [6, 10, 12, 63] (fl' := [(6, pB b2 0), (10, vI r1.1), (12, vI r2.1), (63, .bool (!r2.2))]) (obs := []) trivial hf49 (by kernel_rfl) (by kernel_rfl) .nil fun a35 hf50 => ?_
              refine p_done (by kernel_rfl) ?_
              refine n_then ?_
              have hf51 := Fr.keep (ks := [6, 10, 12, 63]) (r := [(6, pB b2 0), (10, vI r1.1), (12, vI r2.1), (63, .bool (!r2.2))]) hf50 (by kernel_rfl)
              exact ⟨z5, (!r2.2), (Zone.le_refl _), hf51, hS9, hr19⟩
          · rintro a36 ww10 ⟨z6, y1, k6, hf52, hS10, hr20⟩
            refine w_if hf52 (b := y1) (by kernel_rfl) (fun hb8 => ?_) (fun hb8 => ?_)
            · have hr21 := cond_t hb8 hr20
              refine w_seq (by kernel_rfl) ?_
              refine w_reg (by kernel_rfl) ?_
              refine p_run 1 [] [6, 64] (fl' := [(6, pB b2 0), (64, .agg #[vI 0, vI 0])]) (obs := []) trivial hf52 (by kernel_rfl) (by kernel_rfl) .nil fun a37 hf53 => ?_
              refine p_store_eq (i := 1) (j := 0) (b := b2) (off := 0) (vs := [vI 0, vI 0]) (cs' := [vI 0, vI 0]) hS10 hf53 rfl (by kernel_rfl) (by kernel_rfl) rfl fun ww11 a38 hS11 hf54 => ⟨fun _ => trivial, ?_⟩
              refine p_run 1 [] [6, 7] (fl' := [(6, pB b2 0), (7, vI 5)]) (obs := []) trivial hf54 (by kernel_rfl) (by kernel_rfl) .nil fun a39 hf55 => ?_
              refine p_done (by kernel_rfl) ?_
              refine n_then ?_
              refine w_ret (by kernel_rfl) ?_
              refine r_then ?_
              refine p_ret (os := [vI 0, vI 0]) (v := .tuple #[.agg #[vI 0, vI 0], vI 5]) (obs := [.cell ⟨b2, 0, none⟩ (vI 0), .cell ⟨b2, 1, none⟩ (vI 0)]) hf55 (by kernel_rfl) (.cell (hS11.box (i := 0) rfl (j := 0) rfl) (.cell (hS11.box (i := 0) rfl (j := 1) rfl) .nil)) ?_
              obtain rfl := some_eq hr21
              exact ⟨_, rfl, z6, (Zone.le_trans (Zone.le_trans (Zone.le_trans (Zone.le_trans (Zone.le_trans k1 k2) k3) k4) k5) k6), rfl, (St.drop 2 hS11)⟩
            · have hr22 := cond_f hb8 hr20
              refine w_skip (by kernel_rfl) ?_
              refine n_then ?_
              refine w_seq (by kernel_rfl) ?_
              refine w_reg (by kernel_rfl) ?_
              refine p_run 3 [] [6, 65, 67] (fl' := [(6, pB b2 0), (65, vI r1.1), (67, vI (w64 (0 - r2.1)))]) (obs := []) trivial hf52 (by kernel_rfl) (by kernel_rfl) .nil fun a40 hf56 => ?_
              obtain ⟨r3, hd4, hr23⟩ := bind_some hr22
              refine p_call (i := 3) (d := some 68) (f := 107) (args := #[vI r1.1, vI (w64 (0 - r2.1))]) hf56 (by kernel_rfl) (f107_ok fuel r1.1 (w64 (0 - r2.1)) r3 hd4 z6 _ _ hS10 ) ?_
              rintro v4 ww12 a41 ⟨z7, k7, rfl, hS12⟩ hf57
              refine ⟨fun _ => trivial, ?_⟩
              refine p_run 2 [] [6, 69, 70] (fl' := [(6, pB b2 0), (69, .agg #[vI r3.1, vI r3.2.1]), (70, vI r3.2.2)]) (obs := []) trivial hf57 (by kernel_rfl) (by kernel_rfl) .nil fun a42 hf58 => ?_
              refine p_store_eq (i := 6) (j := 0) (b := b2) (off := 0) (vs := [vI r3.1, vI r3.2.1]) (cs' := [vI r3.1, vI r3.2.1]) hS12 hf58 rfl (by kernel_rfl) (by kernel_rfl) rfl fun ww13 a43 hS13 hf59 => ⟨fun _ => trivial, ?_⟩
              refine p_run 1 [] [6, 7] (fl' := [(6, pB b2 0), (7, vI r3.2.2)]) (obs := []) trivial hf59 (by kernel_rfl) (by kernel_rfl) .nil fun a44 hf60 => ?_
              refine p_done (by kernel_rfl) ?_
              refine n_then ?_
              refine w_ret (by kernel_rfl) ?_
              refine p_ret (os := [vI r3.1, vI r3.2.1]) (v := .tuple #[.agg #[vI r3.1, vI r3.2.1], vI r3.2.2]) (obs := [.cell ⟨b2, 0, none⟩ (vI r3.1), .cell ⟨b2, 1, none⟩ (vI r3.2.1)]) hf60 (by kernel_rfl) (.cell (hS13.box (i := 0) rfl (j := 0) rfl) (.cell (hS13.box (i := 0) rfl (j := 1) rfl) .nil)) ?_
              obtain rfl := some_eq hr23
              exact ⟨_, rfl, z7, (Zone.le_trans (Zone.le_trans (Zone.le_trans (Zone.le_trans (Zone.le_trans (Zone.le_trans k1 k2) k3) k4) k5) k6) k7), rfl, (St.drop 2 hS13)⟩
def F50_j1 (x0_lo : Int) (x0_hi : Int) (x1_lo : Int) (x1_hi : Int) (y1 : Bool) : Option (Int × Int × Int) :=
  (cond y1 (some (0, 0, 10)) (some ((if x1_lo < x0_lo then x1_lo else x0_lo), (if x1_hi > x0_hi then x1_hi else x0_hi), 0)))
def F50 (fuel : Nat) (x0_lo : Int) (x0_hi : Int) (x1_lo : Int) (x1_hi : Int) : Option (Int × Int × Int) :=
  ((F34 fuel x0_lo x0_hi).bind fun r1 => (cond (!r1) (F50_j1 x0_lo x0_hi x1_lo x1_hi true) ((F34 fuel x1_lo x1_hi).bind fun r2 => (F50_j1 x0_lo x0_hi x1_lo x1_hi (!r2)))))
set_option maxRecDepth 100000 in
theorem f50_ok (fuel : Nat) (x0_lo : Int) (x0_hi : Int) (x1_lo : Int) (x1_hi : Int) (r : Int × Int × Int) (hr : F50 fuel x0_lo x0_hi x1_lo x1_hi = some r) (h : Zone) (L : List Atom) (w : World) (hS : St h L w)  :
    Calls Try.prog 50 #[.agg #[vI x0_lo, vI x0_hi], .agg #[vI x1_lo, vI x1_hi]] w fun e w' => ∃ v, e = .returned v ∧ (∃ h', Zone.le h h' ∧ v = .tuple #[.agg #[vI r.1, vI r.2.1], vI r.2.2] ∧ St h' L w') := by
  refine calls_intro (N := 26) Try.func50 (by kernel_rfl) fun a hf => ?_
  refine w_seq (by kernel_rfl) ?_
  refine w_reg (by kernel_rfl) ?_
  refine p_box (i := 0) (d := (some 2)) (cs := [vI x0_lo, vI x0_hi]) (T := 41) (v := fun b1 => pB b1 0) hS hf (fun b => by kernel_rfl) fun b1 ww1 a1 hS1 hf1 => ⟨fun _ => trivial, ?_⟩
  refine p_box (i := 1) (d := (some 3)) (cs := [vI x1_lo, vI x1_hi]) (T := 41) (v := fun b2 => pB b2 0) hS1 hf1 (fun b => by kernel_rfl) fun b2 ww2 a2 hS2 hf2 => ⟨fun _ => trivial, ?_⟩
  refine p_box (i := 2) (d := (some 4)) (cs := [vI 0, vI 0]) (T := 41) (v := fun b3 => pB b3 0) hS2 hf2 (fun b => by kernel_rfl) fun b3 ww3 a3 hS3 hf3 => ⟨fun _ => trivial, ?_⟩
  refine p_run 1 [] [2, 3, 4] (fl' := [(2, pB b1 0), (3, pB b2 0), (4, pB b3 0)]) (obs := []) trivial hf3 (by kernel_rfl) (by kernel_rfl) .nil fun a4 hf4 => ?_
  refine p_done (by kernel_rfl) ?_
  refine n_then ?_
  refine w_seq (by kernel_rfl) ?_
  refine w_mid (by kernel_rfl) (fun a w => ∃ z1 : Zone, ∃ y1 : Bool, Zone.le h z1 ∧ Fr a 26 [(2, pB b1 0), (3, pB b2 0), (4, pB b3 0), (13, .bool y1)] ∧ St z1 (box b3 [vI 0, vI 0] 41 :: box b2 [vI x1_lo, vI x1_hi] 41 :: box b1 [vI x0_lo, vI x0_hi] 41 :: L) w ∧ (F50_j1 x0_lo x0_hi x1_lo x1_hi y1) = some r) ?_ ?_
  · skip
    refine w_reg (by kernel_rfl) ?_
    refine p_run 1 [vI x0_lo, vI x0_hi] [2, 3, 4, 6] (fl' := [(2, pB b1 0), (3, pB b2 0), (4, pB b3 0), (6, .agg #[vI x0_lo, vI x0_hi])]) (obs := [.cell ⟨b1, 0, none⟩ (vI x0_lo), .cell ⟨b1, 1, none⟩ (vI x0_hi)]) trivial hf4 (by kernel_rfl) (by kernel_rfl) (.cell (hS3.box (i := 2) rfl (j := 0) rfl) (.cell (hS3.box (i := 2) rfl (j := 1) rfl) .nil)) fun a5 hf5 => ?_
    obtain ⟨r1, hd1, hr1⟩ := bind_some hr
    refine p_call (i := 1) (d := some 7) (f := 34) (args := #[.agg #[vI x0_lo, vI x0_hi]]) hf5 (by kernel_rfl) (f34_ok fuel x0_lo x0_hi r1 hd1 h _ _ hS3 ) ?_
    rintro v1 ww4 a6 ⟨z2, k1, rfl, hS4⟩ hf6
    refine ⟨fun _ => trivial, ?_⟩
    refine p_run 2 [] [2, 3, 4, 9] (fl' := [(2, pB b1 0), (3, pB b2 0), (4, pB b3 0), (9, .bool (!r1))]) (obs := []) trivial hf6 (by kernel_rfl) (by kernel_rfl) .nil fun a7 hf7 => ?_
    rcases Bool.eq_false_or_eq_true (!r1) with hb1 | hb1
    · have hr2 := cond_t hb1 hr1
      have hf8 := Fr.conv hf7 (congrArg (fun z => ([(2, pB b1 0), (3, pB b2 0), (4, pB b3 0), (9, .bool z)] : FL)) hb1)
      refine p_run 1 [] [2, 3, 4, 9, 10] (fl' := [(2, pB b1 0), (3, pB b2 0), (4, pB b3 0), (9, .bool true), (10, undef)]) (obs := []) trivial hf8 (by kernel_rfl) (by kernel_rfl) .nil fun a8 hf9 => ?_
      refine p_run 1 [] [2, 3, 4, 9, 10, 11] (fl' := [(2, pB b1 0), (3, pB b2 0), (4, pB b3 0), (9, .bool true), (10, undef), (11, undef)]) (obs := []) trivial hf9 (by kernel_rfl) (by kernel_rfl) .nil fun a9 hf10 => ?_
      refine p_run 2 [] [2, 3, 4, 13] (fl' := [(2, pB b1 0), (3, pB b2 0), (4, pB b3 0), (13, .bool true)]) (obs := []) trivial hf10 (by kernel_rfl) (by kernel_rfl) .nil fun a10 hf11 => ?_
      refine p_done (by kernel_rfl) ?_
      refine n_then ?_
      have hf12 := Fr.keep (ks := [2, 3, 4, 13]) (r := [(2, pB b1 0), (3, pB b2 0), (4, pB b3 0), (13, .bool true)]) hf11 (by kernel_rfl)
      exact ⟨z2, true, k1, hf12, hS4, hr2⟩
    · have hr3 := cond_f hb1 hr1
      have hf13 := Fr.conv hf7 (congrArg (fun z => ([(2, pB b1 0), (3, pB b2 0), (4, pB b3 0), (9, .bool z)] : FL)) hb1)
      refine p_run 1 [vI x1_lo, vI x1_hi] [2, 3, 4, 9, 10] (fl' := [(2, pB b1 0), (3, pB b2 0), (4, pB b3 0), (9, .bool false), (10, .agg #[vI x1_lo, vI x1_hi])]) (obs := [.cell ⟨b2, 0, none⟩ (vI x1_lo), .cell ⟨b2, 1, none⟩ (vI x1_hi)]) trivial hf13 (by kernel_rfl) (by kernel_rfl) (.cell (hS4.box (i := 1) rfl (j := 0) rfl) (.cell (hS4.box (i := 1) rfl (j := 1) rfl) .nil)) fun a11 hf14 => ?_
      obtain ⟨r2, hd2, hr4⟩ := bind_some hr3
      refine p_call (i := 5) (d := some 11) (f := 34) (args := #[.agg #[vI x1_lo, vI x1_hi]]) hf14 (by kernel_rfl) (f34_ok fuel x1_lo x1_hi r2 hd2 z2 _ _ hS4 ) ?_
      rintro v2 ww5 a12 ⟨z3, k2, rfl, hS5⟩ hf15
      refine ⟨fun _ => trivial, ?_⟩
      refine p_run 2 [] [2, 3, 4, 13] (fl' := [(2, pB b1 0), (3, pB b2 0), (4, pB b3 0), (13, .bool (!r2))]) (obs := []) trivial hf15 (by kernel_rfl) (by kernel_rfl) .nil fun a13 hf16 => ?_
      refine p_done (by kernel_rfl) ?_
      refine n_then ?_
      have hf17 := Fr.keep (ks := [2, 3, 4, 13]) (r := [(2, pB b1 0), (3, pB b2 0), (4, pB b3 0), (13, .bool (!r2))]) hf16 (by kernel_rfl)
      exact ⟨z3, (!r2), (Zone.le_trans k1 k2), hf17, hS5, hr4⟩
  · rintro a14 ww6 ⟨z1, y1, k3, hf18, hS6, hr5⟩
    refine w_if hf18 (b := y1) (by kernel_rfl) (fun hb2 => ?_) (fun hb2 => ?_)
    · have hr6 := cond_t hb2 hr5
      refine w_seq (by kernel_rfl) ?_
      refine w_reg (by kernel_rfl) ?_
      refine p_run 1 [] [4, 14] (fl' := [(4, pB b3 0), (14, .agg #[vI 0, vI 0])]) (obs := []) trivial hf18 (by kernel_rfl) (by kernel_rfl) .nil fun a15 hf19 => ?_
      refine p_store_eq (i := 1) (j := 0) (b := b3) (off := 0) (vs := [vI 0, vI 0]) (cs' := [vI 0, vI 0]) hS6 hf19 rfl (by kernel_rfl) (by kernel_rfl) rfl fun ww7 a16 hS7 hf20 => ⟨fun _ => trivial, ?_⟩
      refine p_run 1 [] [4, 5] (fl' := [(4, pB b3 0), (5, vI 10)]) (obs := []) trivial hf20 (by kernel_rfl) (by kernel_rfl) .nil fun a17 hf21 => ?_
      refine p_done (by kernel_rfl) ?_
      refine n_then ?_
      refine w_ret (by kernel_rfl) ?_
      refine r_then ?_
      refine p_ret (os := [vI 0, vI 0]) (v := .tuple #[.agg #[vI 0, vI 0], vI 10]) (obs := [.cell ⟨b3, 0, none⟩ (vI 0), .cell ⟨b3, 1, none⟩ (vI 0)]) hf21 (by kernel_rfl) (.cell (hS7.box (i := 0) rfl (j := 0) rfl) (.cell (hS7.box (i := 0) rfl (j := 1) rfl) .nil)) ?_
      obtain rfl := some_eq hr6
      exact ⟨_, rfl, z1, k3, rfl, (St.drop 3 hS7)⟩
    · have hr7 := cond_f hb2 hr5
      refine w_skip (by kernel_rfl) ?_
      refine n_then ?_
      refine w_seq (by kernel_rfl) ?_
      refine w_reg (by kernel_rfl) ?_
      refine p_run 11 [vI x0_lo, vI x1_lo, vI x0_hi, vI x1_hi] [4, 25] (fl' := [(4, pB b3 0), (25, .agg #[vI (if x1_lo < x0_lo then x1_lo else x0_lo), vI (if x1_hi > x0_hi then x1_hi else x0_hi)])]) (obs := [.cell ⟨b1, 0, none⟩ (vI x0_lo), .cell ⟨b2, 0, none⟩ (vI x1_lo), .cell ⟨b1, 1, none⟩ (vI x0_hi), .cell ⟨b2, 1, none⟩ (vI x1_hi)]) trivial hf18 (by kernel_rfl) (by kernel_rfl) (.cell (hS6.box (i := 2) rfl (j := 0) rfl) (.cell (hS6.box (i := 1) rfl (j := 0) rfl) (.cell (hS6.box (i := 2) rfl (j := 1) rfl) (.cell (hS6.box (i := 1) rfl (j := 1) rfl) .nil)))) fun a18 hf22 => ?_
      refine p_store_eq (i := 11) (j := 0) (b := b3) (off := 0) (vs := [vI (if x1_lo < x0_lo then x1_lo else x0_lo), vI (if x1_hi > x0_hi then x1_hi else x0_hi)]) (cs' := [vI (if x1_lo < x0_lo then x1_lo else x0_lo), vI (if x1_hi > x0_hi then x1_hi else x0_hi)]) hS6 hf22 rfl (by kernel_rfl) (by kernel_rfl) rfl fun ww8 a19 hS8 hf23 => ⟨fun _ => trivial, ?_⟩
      refine p_run 1 [] [4, 5] (fl' := [(4, pB b3 0), (5, vI 0)]) (obs := []) trivial hf23 (by kernel_rfl) (by kernel_rfl) .nil fun a20 hf24 => ?_
      refine p_done (by kernel_rfl) ?_
      refine n_then ?_
      refine w_ret (by kernel_rfl) ?_
      refine p_ret (os := [vI (if x1_lo < x0_lo then x1_lo else x0_lo), vI (if x1_hi > x0_hi then x1_hi else x0_hi)]) (v := .tuple #[.agg #[vI (if x1_lo < x0_lo then x1_lo else x0_lo), vI (if x1_hi > x0_hi then x1_hi else x0_hi)], vI 0]) (obs := [.cell ⟨b3, 0, none⟩ (vI (if x1_lo < x0_lo then x1_lo else x0_lo)), .cell ⟨b3, 1, none⟩ (vI (if x1_hi > x0_hi then x1_hi else x0_hi))]) hf24 (by kernel_rfl) (.cell (hS8.box (i := 0) rfl (j := 0) rfl) (.cell (hS8.box (i := 0) rfl (j := 1) rfl) .nil)) ?_
      obtain rfl := some_eq hr7
      exact ⟨_, rfl, z1, k3, rfl, (St.drop 3 hS8)⟩
def F51_j1 (x0_lo : Int) (x0_hi : Int) (x1_lo : Int) (x1_hi : Int) (y1 : Bool) : Option (Int × Int × Int) :=
  (cond y1 (some (0, 0, 10)) (cond (decide ((if x1_lo > x0_lo then x1_lo else x0_lo) > (if x1_hi < x0_hi then x1_hi else x0_hi))) (some (0, 0, 3)) (some ((if x1_lo > x0_lo then x1_lo else x0_lo), (if x1_hi < x0_hi then x1_hi else x0_hi), 0))))
def F51 (fuel : Nat) (x0_lo : Int) (x0_hi : Int) (x1_lo : Int) (x1_hi : Int) : Option (Int × Int × Int) :=
  ((F34 fuel x0_lo x0_hi).bind fun r1 => (cond (!r1) (F51_j1 x0_lo x0_hi x1_lo x1_hi true) ((F34 fuel x1_lo x1_hi).bind fun r2 => (F51_j1 x0_lo x0_hi x1_lo x1_hi (!r2)))))
set_option maxRecDepth 100000 in
theorem f51_ok (fuel : Nat) (x0_lo : Int) (x0_hi : Int) (x1_lo : Int) (x1_hi : Int) (r : Int × Int × Int) (hr : F51 fuel x0_lo x0_hi x1_lo x1_hi = some r) (h : Zone) (L : List Atom) (w : World) (hS : St h L w)  :
    Calls Try.prog 51 #[.agg #[vI x0_lo, vI x0_hi], .agg #[vI x1_lo, vI x1_hi]] w fun e w' => ∃ v, e = .returned v ∧ (∃ h', Zone.le h h' ∧ v = .tuple #[.agg #[vI r.1, vI r.2.1], vI r.2.2] ∧ St h' L w') := by
  refine calls_intro (N := 34) Try.func51 (by kernel_rfl) fun a hf => ?_
  refine w_seq (by kernel_rfl) ?_
  refine w_reg (by kernel_rfl) ?_
  refine p_box (i := 0) (d := (some 2)) (cs := [vI x0_lo, vI x0_hi]) (T := 41) (v := fun b1 => pB b1 0) hS hf (fun b => by kernel_rfl) fun b1 ww1 a1 hS1 hf1 => ⟨fun _ => trivial, ?_⟩
  refine p_box (i := 1) (d := (some 3)) (cs := [vI x1_lo, vI x1_hi]) (T := 41) (v := fun b2 => pB b2 0) hS1 hf1 (fun b => by kernel_rfl) fun b2 ww2 a2 hS2 hf2 => ⟨fun _ => trivial, ?_⟩
  refine p_box (i := 2) (d := (some 4)) (cs := [vI 0, vI 0]) (T := 41) (v := fun b3 => pB b3 0) hS2 hf2 (fun b => by kernel_rfl) fun b3 ww3 a3 hS3 hf3 => ⟨fun _ => trivial, ?_⟩
  refine p_run 1 [] [2, 3, 4] (fl' := [(2, pB b1 0), (3, pB b2 0), (4, pB b3 0)]) (obs := []) trivial hf3 (by kernel_rfl) (by kernel_rfl) .nil fun a4 hf4 => ?_
  refine p_done (by kernel_rfl) ?_
  refine n_then ?_
  refine w_seq (by kernel_rfl) ?_
  refine w_mid (by kernel_rfl) (fun a w => ∃ z1 : Zone, ∃ y1 : Bool, Zone.le h z1 ∧ Fr a 34 [(2, pB b1 0), (3, pB b2 0), (4, pB b3 0), (14, .bool y1)] ∧ St z1 (box b3 [vI 0, vI 0] 41 :: box b2 [vI x1_lo, vI x1_hi] 41 :: box b1 [vI x0_lo, vI x0_hi] 41 :: L) w ∧ (F51_j1 x0_lo x0_hi x1_lo x1_hi y1) = some r) ?_ ?_
  · skip
    refine w_reg (by kernel_rfl) ?_
    refine p_run 1 [vI x0_lo, vI x0_hi] [2, 3, 4, 7] (fl' := [(2, pB b1 0), (3, pB b2 0), (4, pB b3 0), (7, .agg #[vI x0_lo, vI x0_hi])]) (obs := [.cell ⟨b1, 0, none⟩ (vI x0_lo), .cell ⟨b1, 1, none⟩ (vI x0_hi)]) trivial hf4 (by kernel_rfl) (by kernel_rfl) (.cell (hS3.box (i := 2) rfl (j := 0) rfl) (.cell (hS3.box (i := 2) rfl (j := 1) rfl) .nil)) fun a5 hf5 => ?_
    obtain ⟨r1, hd1, hr1⟩ := bind_some hr
    refine p_call (i := 1) (d := some 8) (f := 34) (args := #[.agg #[vI x0_lo, vI x0_hi]]) hf5 (by kernel_rfl) (f34_ok fuel x0_lo x0_hi r1 hd1 h _ _ hS3 ) ?_
    rintro v1 ww4 a6 ⟨z2, k1, rfl, hS4⟩ hf6
    refine ⟨fun _ => trivial, ?_⟩
    refine p_run 2 [] [2, 3, 4, 10] (fl' := [(2, pB b1 0), (3, pB b2 0), (4, pB b3 0), (10, .bool (!r1))]) (obs := []) trivial hf6 (by kernel_rfl) (by kernel_rfl) .nil fun a7 hf7 => ?_
    rcases Bool.eq_false_or_eq_true (!r1) with hb1 | hb1
    · have hr2 := cond_t hb1 hr1
      have hf8 := Fr.conv hf7 (congrArg (fun z => ([(2, pB b1 0), (3, pB b2 0), (4, pB b3 0), (10, .bool z)] : FL)) hb1)
      refine p_run 1 [] [2, 3, 4, 10, 11] (fl' := [(2, pB b1 0), (3, pB b2 0), (4, pB b3 0), (10, .bool true), (11, undef)]) (obs := []) trivial hf8 (by kernel_rfl) (by kernel_rfl) .nil fun a8 hf9 => ?_
      refine p_run 1 [] [2, 3, 4, 10, 11, 12] (fl' := [(2, pB b1 0), (3, pB b2 0), (4, pB b3 0), (10, .bool true), (11, undef), (12, undef)]) (obs := []) trivial hf9 (by kernel_rfl) (by kernel_rfl) .nil fun a9 hf10 => ?_
      refine p_run 2 [] [2, 3, 4, 14] (fl' := [(2, pB b1 0), (3, pB b2 0), (4, pB b3 0), (14, .bool true)]) (obs := []) trivial hf10 (by kernel_rfl) (by kernel_rfl) .nil fun a10 hf11 => ?_
      refine p_done (by kernel_rfl) ?_
      refine n_then ?_
      have hf12 := Fr.keep (ks := [2, 3, 4, 14]) (r := [(2, pB b1 0), (3, pB b2 0), (4, pB b3 0), (14, .bool true)]) hf11 (by kernel_rfl)
      exact ⟨z2, true, k1, hf12, hS4, hr2⟩
    · have hr3 := cond_f hb1 hr1
      have hf13 := Fr.conv hf7 (congrArg (fun z => ([(2, pB b1 0), (3, pB b2 0), (4, pB b3 0), (10, .bool z)] : FL)) hb1)
      refine p_run 1 [vI x1_lo, vI x1_hi] [2, 3, 4, 10, 11] (fl' := [(2, pB b1 0), (3, pB b2 0), (4, pB b3 0), (10, .bool false), (11, .agg #[vI x1_lo, vI x1_hi])]) (obs := [.cell ⟨b2, 0, none⟩ (vI x1_lo), .cell ⟨b2, 1, none⟩ (vI x1_hi)]) trivial hf13 (by kernel_rfl) (by kernel_rfl) (.cell (hS4.box (i := 1) rfl (j := 0) rfl) (.cell (hS4.box (i := 1) rfl (j := 1) rfl) .nil)) fun a11 hf14 => ?_
      obtain ⟨r2, hd2, hr4⟩ := bind_some hr3
      refine p_call (i := 5) (d := some 12) (f := 34) (args := #[.agg #[vI x1_lo, vI x1_hi]]) hf14 (by kernel_rfl) (f34_ok fuel x1_lo x1_hi r2 hd2 z2 _ _ hS4 ) ?_
      rintro v2 ww5 a12 ⟨z3, k2, rfl, hS5⟩ hf15
      refine ⟨fun _ => trivial, ?_⟩
      refine p_run 2 [] [2, 3, 4, 14] (fl' := [(2, pB b1 0), (3, pB b2 0), (4, pB b3 0), (14, .bool (!r2))]) (obs := []) trivial hf15 (by kernel_rfl) (by kernel_rfl) .nil fun a13 hf16 => ?_
      refine p_done (by kernel_rfl) ?_
      refine n_then ?_
      have hf17 := Fr.keep (ks := [2, 3, 4, 14]) (r := [(2, pB b1 0), (3, pB b2 0), (4, pB b3 0), (14, .bool (!r2))]) hf16 (by kernel_rfl)
      exact ⟨z3, (!r2), (Zone.le_trans k1 k2), hf17, hS5, hr4⟩
  · rintro a14 ww6 ⟨z1, y1, k3, hf18, hS6, hr5⟩
    refine w_if hf18 (b := y1) (by kernel_rfl) (fun hb2 => ?_) (fun hb2 => ?_)
    · have hr6 := cond_t hb2 hr5
      refine w_seq (by kernel_rfl) ?_
      refine w_reg (by kernel_rfl) ?_
      refine p_run 1 [] [4, 15] (fl' := [(4, pB b3 0), (15, .agg #[vI 0, vI 0])]) (obs := []) trivial hf18 (by kernel_rfl) (by kernel_rfl) .nil fun a15 hf19 => ?_
      refine p_store_eq (i := 1) (j := 0) (b := b3) (off := 0) (vs := [vI 0, vI 0]) (cs' := [vI 0, vI 0]) hS6 hf19 rfl (by kernel_rfl) (by kernel_rfl) rfl fun ww7 a16 hS7 hf20 => ⟨fun _ => trivial, ?_⟩
      refine p_run 1 [] [4, 5] (fl' := [(4, pB b3 0), (5, vI 10)]) (obs := []) trivial hf20 (by kernel_rfl) (by kernel_rfl) .nil fun a17 hf21 => ?_
      refine p_done (by kernel_rfl) ?_
      refine n_then ?_
      refine w_ret (by kernel_rfl) ?_
      refine r_then ?_
      refine p_ret (os := [vI 0, vI 0]) (v := .tuple #[.agg #[vI 0, vI 0], vI 10]) (obs := [.cell ⟨b3, 0, none⟩ (vI 0), .cell ⟨b3, 1, none⟩ (vI 0)]) hf21 (by kernel_rfl) (.cell (hS7.box (i := 0) rfl (j := 0) rfl) (.cell (hS7.box (i := 0) rfl (j := 1) rfl) .nil)) ?_
      obtain rfl := some_eq hr6
      exact ⟨_, rfl, z1, k3, rfl, (St.drop 3 hS7)⟩
    · have hr7 := cond_f hb2 hr5
      refine w_skip (by kernel_rfl) ?_
      refine n_then ?_
      refine w_seq (by kernel_rfl) ?_
      refine w_reg (by kernel_rfl) ?_
      refine p_run 11 [vI x0_lo, vI x1_lo, vI x0_hi, vI x1_hi] [4, 26] (fl' := [(4, pB b3 0), (26, .agg #[vI (if x1_lo > x0_lo then x1_lo else x0_lo), vI (if x1_hi < x0_hi then x1_hi else x0_hi)])]) (obs := [.cell ⟨b1, 0, none⟩ (vI x0_lo), .cell ⟨b2, 0, none⟩ (vI x1_lo), .cell ⟨b1, 1, none⟩ (vI x0_hi), .cell ⟨b2, 1, none⟩ (vI x1_hi)]) trivial hf18 (by kernel_rfl) (by kernel_rfl) (.cell (hS6.box (i := 2) rfl (j := 0) rfl) (.cell (hS6.box (i := 1) rfl (j := 0) rfl) (.cell (hS6.box (i := 2) rfl (j := 1) rfl) (.cell (hS6.box (i := 1) rfl (j := 1) rfl) .nil)))) fun a18 hf22 => ?_
      refine p_box (i := 11) (d := (some 6)) (cs := [vI 0, vI 0]) (T := 41) (v := fun b4 => pB b4 0) hS6 hf22 (fun b => by kernel_rfl) fun b4 ww8 a19 hS8 hf23 => ⟨fun _ => trivial, ?_⟩
      refine p_store_eq (i := 12) (j := 0) (b := b4) (off := 0) (vs := [vI (if x1_lo > x0_lo then x1_lo else x0_lo), vI (if x1_hi < x0_hi then x1_hi else x0_hi)]) (cs' := [vI (if x1_lo > x0_lo then x1_lo else x0_lo), vI (if x1_hi < x0_hi then x1_hi else x0_hi)]) hS8 hf23 rfl (by kernel_rfl) (by kernel_rfl) rfl fun ww9 a20 hS9 hf24 => ⟨fun _ => trivial, ?_⟩
      refine p_done (by kernel_rfl) ?_
      refine n_then ?_
      refine w_seq (by kernel_rfl) ?_
      refine w_seq (by kernel_rfl) ?_
      refine w_reg (by kernel_rfl) ?_
      refine p_run 5 [vI (if x1_lo > x0_lo then x1_lo else x0_lo), vI (if x1_hi < x0_hi then x1_hi else x0_hi)] [4, 6, 31] (fl' := [(4, pB b3 0), (6, pB b4 0), (31, .bool (decide ((if x1_lo > x0_lo then x1_lo else x0_lo) > (if x1_hi < x0_hi then x1_hi else x0_hi))))]) (obs := [.cell ⟨b4, 0, none⟩ (vI (if x1_lo > x0_lo then x1_lo else x0_lo)), .cell ⟨b4, 1, none⟩ (vI (if x1_hi < x0_hi then x1_hi else x0_hi))]) trivial hf24 (by kernel_rfl) (by kernel_rfl) (.cell (hS9.box (i := 0) rfl (j := 0) rfl) (.cell (hS9.box (i := 0) rfl (j := 1) rfl) .nil)) fun a21 hf25 => ?_
      refine p_done (by kernel_rfl) ?_
      refine n_then ?_
      refine w_if hf25 (b := (decide ((if x1_lo > x0_lo then x1_lo else x0_lo) > (if x1_hi < x0_hi then x1_hi else x0_hi)))) (by kernel_rfl) (fun hb3 => ?_) (fun hb3 => ?_)
      · have hr8 := cond_t hb3 hr7
        refine w_seq (by kernel_rfl) ?_
        refine w_reg (by kernel_rfl) ?_
        refine p_run 1 [] [4, 32] (fl' := [(4, pB b3 0), (32, .agg #[vI 0, vI 0])]) (obs := []) trivial hf25 (by kernel_rfl) (by kernel_rfl) .nil fun a22 hf26 => ?_
        refine p_store_eq (i := 1) (j := 1) (b := b3) (off := 0) (vs := [vI 0, vI 0]) (cs' := [vI 0, vI 0]) hS9 hf26 rfl (by kernel_rfl) (by kernel_rfl) rfl fun ww10 a23 hS10 hf27 => ⟨fun _ => trivial, ?_⟩
        refine p_run 1 [] [4, 5] (fl' := [(4, pB b3 0), (5, vI 3)]) (obs := []) trivial hf27 (by kernel_rfl) (by kernel_rfl) .nil fun a24 hf28 => ?_
        refine p_done (by kernel_rfl) ?_
        refine n_then ?_
        refine w_ret (by kernel_rfl) ?_
        refine r_then ?_
        refine p_ret (os := [vI 0, vI 0]) (v := .tuple #[.agg #[vI 0, vI 0], vI 3]) (obs := [.cell ⟨b3, 0, none⟩ (vI 0), .cell ⟨b3, 1, none⟩ (vI 0)]) hf28 (by kernel_rfl) (.cell (hS10.box (i := 1) rfl (j := 0) rfl) (.cell (hS10.box (i := 1) rfl (j := 1) rfl) .nil)) ?_
        obtain rfl := some_eq hr8
        exact ⟨_, rfl, z1, k3, rfl, (St.drop 4 hS10)⟩
      · have hr9 := cond_f hb3 hr7
        refine w_skip (by kernel_rfl) ?_
        refine n_then ?_
        refine w_seq (by kernel_rfl) ?_
        refine w_reg (by kernel_rfl) ?_
        refine p_run 1 [vI (if x1_lo > x0_lo then x1_lo else x0_lo), vI (if x1_hi < x0_hi then x1_hi else x0_hi)] [4, 33] (fl' := [(4, pB b3 0), (33, .agg #[vI (if x1_lo > x0_lo then x1_lo else x0_lo), vI (if x1_hi < x0_hi then x1_hi else x0_hi)])]) (obs := [.cell ⟨b4, 0, none⟩ (vI (if x1_lo > x0_lo then x1_lo else x0_lo)), .cell ⟨b4, 1, none⟩ (vI (if x1_hi < x0_hi then x1_hi else x0_hi))]) trivial hf25 (by kernel_rfl) (by kernel_rfl) (.cell (hS9.box (i := 0) rfl (j := 0) rfl) (.cell (hS9.box (i := 0) rfl (j := 1) rfl) .nil)) fun a25 hf29 => ?_
        refine p_store_eq (i := 1) (j := 1) (b := b3) (off := 0) (vs := [vI (if x1_lo > x0_lo then x1_lo else x0_lo), vI (if x1_hi < x0_hi then x1_hi else x0_hi)]) (cs' := [vI (if x1_lo > x0_lo then x1_lo else x0_lo), vI (if x1_hi < x0_hi then x1_hi else x0_hi)]) hS9 hf29 rfl (by kernel_rfl) (by kernel_rfl) rfl fun ww11 a26 hS11 hf30 => ⟨fun _ => trivial, ?_⟩
        refine p_run 1 [] [4, 5] (fl' := [(4, pB b3 0), (5, vI 0)]) (obs := []) trivial hf30 (by kernel_rfl) (by kernel_rfl) .nil fun a27 hf31 => ?_
        refine p_done (by kernel_rfl) ?_
        refine n_then ?_
        refine w_ret (by kernel_rfl) ?_
        refine p_ret (os := [vI (if x1_lo > x0_lo then x1_lo else x0_lo), vI (if x1_hi < x0_hi then x1_hi else x0_hi)]) (v := .tuple #[.agg #[vI (if x1_lo > x0_lo then x1_lo else x0_lo), vI (if x1_hi < x0_hi then x1_hi else x0_hi)], vI 0]) (obs := [.cell ⟨b3, 0, none⟩ (vI (if x1_lo > x0_lo then x1_lo else x0_lo)), .cell ⟨b3, 1, none⟩ (vI (if x1_hi < x0_hi then x1_hi else x0_hi))]) hf31 (by kernel_rfl) (.cell (hS11.box (i := 1) rfl (j := 0) rfl) (.cell (hS11.box (i := 1) rfl (j := 1) rfl) .nil)) ?_
        obtain rfl := some_eq hr9
        exact ⟨_, rfl, z1, k3, rfl, (St.drop 4 hS11)⟩
def F53 (fuel : Nat) (x0_lo : Int) (x0_hi : Int) : Option (Int) :=
  ((F34 fuel x0_lo x0_hi).bind fun r1 => (cond (!r1) (some (10)) (some (0))))
set_option maxRecDepth 100000 in
theorem f53_ok (fuel : Nat) (x0_lo : Int) (x0_hi : Int) (r : Int) (hr : F53 fuel x0_lo x0_hi = some r) (h : Zone) (L : List Atom) (w : World) (hS : St h L w)  :
    Calls Try.prog 53 #[.agg #[vI x0_lo, vI x0_hi]] w fun e w' => ∃ v, e = .returned v ∧ (∃ h', Zone.le h h' ∧ v = vI r ∧ St h' L w') := by
  refine calls_intro (N := 6) Try.func53 (by kernel_rfl) fun a hf => ?_
  refine w_seq (by kernel_rfl) ?_
  refine w_reg (by kernel_rfl) ?_
  refine p_box (i := 0) (d := (some 1)) (cs := [vI x0_lo, vI x0_hi]) (T := 41) (v := fun b1 => pB b1 0) hS hf (fun b => by kernel_rfl) fun b1 ww1 a1 hS1 hf1 => ⟨fun _ => trivial, ?_⟩
  refine p_run 1 [] [1] (fl' := [(1, pB b1 0)]) (obs := []) trivial hf1 (by kernel_rfl) (by kernel_rfl) .nil fun a2 hf2 => ?_
  refine p_done (by kernel_rfl) ?_
  refine n_then ?_
  refine w_seq (by kernel_rfl) ?_
  refine w_seq (by kernel_rfl) ?_
  refine w_reg (by kernel_rfl) ?_
  refine p_run 1 [vI x0_lo, vI x0_hi] [3] (fl' := [(3, .agg #[vI x0_lo, vI x0_hi])]) (obs := [.cell ⟨b1, 0, none⟩ (vI x0_lo), .cell ⟨b1, 1, none⟩ (vI x0_hi)]) trivial hf2 (by kernel_rfl) (by kernel_rfl) (.cell (hS1.box (i := 0) rfl (j := 0) rfl) (.cell (hS1.box (i := 0) rfl (j := 1) rfl) .nil)) fun a3 hf3 => ?_
  obtain ⟨r1, hd1, hr1⟩ := bind_some hr
  refine p_call (i := 1) (d := some 4) (f := 34) (args := #[.agg #[vI x0_lo, vI x0_hi]]) hf3 (by kernel_rfl) (f34_ok fuel x0_lo x0_hi r1 hd1 h _ _ hS1 ) ?_
  rintro v1 ww2 a4 ⟨z1, k1, rfl, hS2⟩ hf4
  refine ⟨fun _ => trivial, ?_⟩
  refine p_run 1 [] [5] (fl' := [(5, .bool (!r1))]) (obs := []) trivial hf4 (by kernel_rfl) (by kernel_rfl) .nil fun a5 hf5 => ?_
  refine p_done (by kernel_rfl) ?_
  refine n_then ?_
  refine w_if hf5 (b := (!r1)) (by kernel_rfl) (fun hb1 => ?_) (fun hb1 => ?_)
  · have hr2 := cond_t hb1 hr1
    refine w_seq (by kernel_rfl) ?_
    refine w_reg (by kernel_rfl) ?_
    refine p_run 1 [] [2] (fl' := [(2, vI 10)]) (obs := []) trivial hf5 (by kernel_rfl) (by kernel_rfl) .nil fun a6 hf6 => ?_
    refine p_done (by kernel_rfl) ?_
    refine n_then ?_
    refine w_ret (by kernel_rfl) ?_
    refine r_then ?_
    refine p_ret (os := []) (v := vI 10) (obs := []) hf6 (by kernel_rfl) .nil ?_
    obtain rfl := some_eq hr2
    exact ⟨_, rfl, z1, k1, rfl, (St.drop 1 hS2)⟩
  · have hr3 := cond_f hb1 hr1
    refine w_skip (by kernel_rfl) ?_
    refine n_then ?_
    refine w_seq (by kernel_rfl) ?_
    refine w_reg (by kernel_rfl) ?_
    refine p_run 1 [] [2] (fl' := [(2, vI 0)]) (obs := []) trivial hf5 (by kernel_rfl) (by kernel_rfl) .nil fun a7 hf7 => ?_
    refine p_done (by kernel_rfl) ?_
    refine n_then ?_
    refine w_ret (by kernel_rfl) ?_
    refine p_ret (os := []) (v := vI 0) (obs := []) hf7 (by kernel_rfl) .nil ?_
    obtain rfl := some_eq hr3
    exact ⟨_, rfl, z1, k1, rfl, (St.drop 1 hS2)⟩
def F54_j1 (y1 : Bool) : Option (Bool) :=
  (some (y1))
def F54 (fuel : Nat) (x0_lo : Int) (x0_hi : Int) (x1 : Int) : Option (Bool) :=
  ((F34 fuel x0_lo x0_hi).bind fun r1 => (cond r1 (cond (decide (x0_lo ≤ x1)) (F54_j1 (decide (x1 ≤ x0_hi))) (F54_j1 false)) (F54_j1 false)))
set_option maxRecDepth 100000 in
theorem f54_ok (fuel : Nat) (x0_lo : Int) (x0_hi : Int) (x1 : Int) (r : Bool) (hr : F54 fuel x0_lo x0_hi x1 = some r) (h : Zone) (L : List Atom) (w : World) (hS : St h L w)  :
    Calls Try.prog 54 #[.agg #[vI x0_lo, vI x0_hi], vI x1] w fun e w' => ∃ v, e = .returned v ∧ (∃ h', Zone.le h h' ∧ v = .bool r ∧ St h' L w') := by
  refine calls_intro (N := 19) Try.func54 (by kernel_rfl) fun a hf => ?_
  refine w_seq (by kernel_rfl) ?_
  refine w_reg (by kernel_rfl) ?_
  refine p_box (i := 0) (d := (some 2)) (cs := [vI x0_lo, vI x0_hi]) (T := 41) (v := fun b1 => pB b1 0) hS hf (fun b => by kernel_rfl) fun b1 ww1 a1 hS1 hf1 => ⟨fun _ => trivial, ?_⟩
  refine p_run 1 [] [1, 2] (fl' := [(1, vI x1), (2, pB b1 0)]) (obs := []) trivial hf1 (by kernel_rfl) (by kernel_rfl) .nil fun a2 hf2 => ?_
  refine p_done (by kernel_rfl) ?_
  refine n_then ?_
  refine w_mid (by kernel_rfl) (fun a w => ∃ z1 : Zone, ∃ y1 : Bool, Zone.le h z1 ∧ Fr a 19 [(4, .bool y1)] ∧ St z1 (box b1 [vI x0_lo, vI x0_hi] 41 :: L) w ∧ (F54_j1 y1) = some r) ?_ ?_
  · skip
    refine w_reg (by kernel_rfl) ?_
    refine p_run 1 [vI x0_lo, vI x0_hi] [1, 2, 5] (fl' := [(1, vI x1), (2, pB b1 0), (5, .agg #[vI x0_lo, vI x0_hi])]) (obs := [.cell ⟨b1, 0, none⟩ (vI x0_lo), .cell ⟨b1, 1, none⟩ (vI x0_hi)]) trivial hf2 (by kernel_rfl) (by kernel_rfl) (.cell (hS1.box (i := 0) rfl (j := 0) rfl) (.cell (hS1.box (i := 0) rfl (j := 1) rfl) .nil)) fun a3 hf3 => ?_
    obtain ⟨r1, hd1, hr1⟩ := bind_some hr
    refine p_call (i := 1) (d := some 6) (f := 34) (args := #[.agg #[vI x0_lo, vI x0_hi]]) hf3 (by kernel_rfl) (f34_ok fuel x0_lo x0_hi r1 hd1 h _ _ hS1 ) ?_
    rintro v1 ww2 a4 ⟨z2, k1, rfl, hS2⟩ hf4
    refine ⟨fun _ => trivial, ?_⟩
    refine p_run 1 [] [1, 2, 7] (fl' := [(1, vI x1), (2, pB b1 0), (7, .bool r1)]) (obs := []) trivial hf4 (by kernel_rfl) (by kernel_rfl) .nil fun a5 hf5 => ?_
    rcases Bool.eq_false_or_eq_true r1 with hb1 | hb1
    · have hr2 := cond_t hb1 hr1
      have hf6 := Fr.conv hf5 (congrArg (fun z => ([(1, vI x1), (2, pB b1 0), (7, .bool z)] : FL)) hb1)
      refine p_run 6 [vI x0_lo] [1, 2, 13] (fl' := [(1, vI x1), (2, pB b1 0), (13, .bool (decide (x0_lo ≤ x1)))]) (obs := [.cell ⟨b1, 0, none⟩ (vI x0_lo)]) trivial hf6 (by kernel_rfl) (by kernel_rfl) (.cell (hS2.box (i := 0) rfl (j := 0) rfl) .nil) fun a6 hf7 => ?_
      rcases Bool.eq_false_or_eq_true (decide (x0_lo ≤ x1)) with hb2 | hb2
      · have hr3 := cond_t hb2 hr2
        have hf8 := Fr.conv hf7 (congrArg (fun z => ([(1, vI x1), (2, pB b1 0), (13, .bool z)] : FL)) hb2)
        refine p_run 6 [vI x0_hi] [4] (fl' := [(4, .bool (decide (x1 ≤ x0_hi)))]) (obs := [.cell ⟨b1, 1, none⟩ (vI x0_hi)]) trivial hf8 (by kernel_rfl) (by kernel_rfl) (.cell (hS2.box (i := 0) rfl (j := 1) rfl) .nil) fun a7 hf9 => ?_
        refine p_done (by kernel_rfl) ?_
        refine n_then ?_
        have hf10 := Fr.keep (ks := [4]) (r := [(4, .bool (decide (x1 ≤ x0_hi)))]) hf9 (by kernel_rfl)
        exact ⟨z2, (decide (x1 ≤ x0_hi)), k1, hf10, hS2, hr3⟩
      · have hr4 := cond_f hb2 hr2
        have hf11 := Fr.conv hf7 (congrArg (fun z => ([(1, vI x1), (2, pB b1 0), (13, .bool z)] : FL)) hb2)
        refine p_run 6 [] [4] (fl' := [(4, .bool false)]) (obs := []) trivial hf11 (by kernel_rfl) (by kernel_rfl) .nil fun a8 hf12 => ?_
        refine p_done (by kernel_rfl) ?_
        refine n_then ?_
        have hf13 := Fr.keep (ks := [4]) (r := [(4, .bool false)]) hf12 (by kernel_rfl)
        exact ⟨z2, false, k1, hf13, hS2, hr4⟩
    · have hr5 := cond_f hb1 hr1
      have hf14 := Fr.conv hf5 (congrArg (fun z => ([(1, vI x1), (2, pB b1 0), (7, .bool z)] : FL)) hb1)
      refine p_run 12 [] [4] (fl' := [(4, .bool false)]) (obs := []) trivial hf14 (by kernel_rfl) (by kernel_rfl) .nil fun a9 hf15 => ?_
      refine p_done (by kernel_rfl) ?_
      refine n_then ?_
      have hf16 := Fr.keep (ks := [4]) (r := [(4, .bool false)]) hf15 (by kernel_rfl)
      exact ⟨z2, false, k1, hf16, hS2, hr5⟩
  · rintro a10 ww3 ⟨z1, y1, k2, hf17, hS3, hr6⟩
    refine w_ret (by kernel_rfl) ?_
    refine p_ret (os := []) (v := .bool y1) (obs := []) hf17 (by kernel_rfl) .nil ?_
    obtain rfl := some_eq hr6
    exact ⟨_, rfl, z1, k2, rfl, (St.drop 1 hS3)⟩
def F55_j1 (y1 : Bool) : Option (Bool) :=
  (some (y1))
def F55 (fuel : Nat) (x0_lo : Int) (x0_hi : Int) (x1_lo : Int) (x1_hi : Int) : Option (Bool) :=
  ((F106 fuel x0_lo x0_hi x1_lo x1_hi).bind fun r1 => (cond (r1 == (0 : Int)) (F55_j1 (decide (x0_hi < x1_lo))) (F55_j1 false)))
set_option maxRecDepth 100000 in
theorem f55_ok (fuel : Nat) (x0_lo : Int) (x0_hi : Int) (x1_lo : Int) (x1_hi : Int) (r : Bool) (hr : F55 fuel x0_lo x0_hi x1_lo x1_hi = some r) (h : Zone) (L : List Atom) (w : World) (hS : St h L w)  :
    Calls Try.prog 55 #[.agg #[vI x0_lo, vI x0_hi], .agg #[vI x1_lo, vI x1_hi]] w fun e w' => ∃ v, e = .returned v ∧ (∃ h', Zone.le h h' ∧ v = .bool r ∧ St h' L w') := by
  refine calls_intro (N := 16) Try.func55 (by kernel_rfl) fun a hf => ?_
  refine w_seq (by kernel_rfl) ?_
  refine w_reg (by kernel_rfl) ?_
  refine p_box (i := 0) (d := (some 2)) (cs := [vI x0_lo, vI x0_hi]) (T := 41) (v := fun b1 => pB b1 0) hS hf (fun b => by kernel_rfl) fun b1 ww1 a1 hS1 hf1 => ⟨fun _ => trivial, ?_⟩
  refine p_box (i := 1) (d := (some 3)) (cs := [vI x1_lo, vI x1_hi]) (T := 41) (v := fun b2 => pB b2 0) hS1 hf1 (fun b => by kernel_rfl) fun b2 ww2 a2 hS2 hf2 => ⟨fun _ => trivial, ?_⟩
  refine p_run 1 [] [2, 3] (fl' := [(2, pB b1 0), (3, pB b2 0)]) (obs := []) trivial hf2 (by kernel_rfl) (by kernel_rfl) .nil fun a3 hf3 => ?_
  refine p_done (by kernel_rfl) ?_
  refine n_then ?_
  refine w_mid (by kernel_rfl) (fun a w => ∃ z1 : Zone, ∃ y1 : Bool, Zone.le h z1 ∧ Fr a 16 [(4, .bool y1)] ∧ St z1 (box b2 [vI x1_lo, vI x1_hi] 41 :: box b1 [vI x0_lo, vI x0_hi] 41 :: L) w ∧ (F55_j1 y1) = some r) ?_ ?_
  · skip
    refine w_reg (by kernel_rfl) ?_
    refine p_run 2 [vI x0_lo, vI x0_hi, vI x1_lo, vI x1_hi] [2, 3, 5, 6] (fl' := [(2, pB b1 0), (3, pB b2 0), (5, .agg #[vI x0_lo, vI x0_hi]), (6, .agg #[vI x1_lo, vI x1_hi])]) (obs := [.cell ⟨b1, 0, none⟩ (vI x0_lo), .cell ⟨b1, 1, none⟩ (vI x0_hi), .cell ⟨b2, 0, none⟩ (vI x1_lo), .cell ⟨b2, 1, none⟩ (vI x1_hi)]) trivial hf3 (by kernel_rfl) (by kernel_rfl) (.cell (hS2.box (i := 1) rfl (j := 0) rfl) (.cell (hS2.box (i := 1) rfl (j := 1) rfl) (.cell (hS2.box (i := 0) rfl (j := 0) rfl) (.cell (hS2.box (i := 0) rfl (j := 1) rfl) .nil)))) fun a4 hf4 => ?_
    obtain ⟨r1, hd1, hr1⟩ := bind_some hr
    refine p_call (i := 2) (d := some 7) (f := 106) (args := #[.agg #[vI x0_lo, vI x0_hi], .agg #[vI x1_lo, vI x1_hi]]) hf4 (by kernel_rfl) (f106_ok fuel x0_lo x0_hi x1_lo x1_hi r1 hd1 h _ _ hS2 ) ?_
    rintro v1 ww3 a5 ⟨z2, k1, rfl, hS3⟩ hf5
    refine ⟨fun _ => trivial, ?_⟩
    refine p_run 2 [] [2, 3, 9] (fl' := [(2, pB b1 0), (3, pB b2 0), (9, .bool (r1 == (0 : Int)))]) (obs := []) trivial hf5 (by kernel_rfl) (by kernel_rfl) .nil fun a6 hf6 => ?_
    rcases Bool.eq_false_or_eq_true (r1 == (0 : Int)) with hb1 | hb1
    · have hr2 := cond_t hb1 hr1
      have hf7 := Fr.conv hf6 (congrArg (fun z => ([(2, pB b1 0), (3, pB b2 0), (9, .bool z)] : FL)) hb1)
      refine p_run 7 [vI x0_hi, vI x1_lo] [4] (fl' := [(4, .bool (decide (x0_hi < x1_lo)))]) (obs := [.cell ⟨b1, 1, none⟩ (vI x0_hi), .cell ⟨b2, 0, none⟩ (vI x1_lo)]) trivial hf7 (by kernel_rfl) (by kernel_rfl) (.cell (hS3.box (i := 1) rfl (j := 1) rfl) (.cell (hS3.box (i := 0) rfl (j := 0) rfl) .nil)) fun a7 hf8 => ?_
      refine p_done (by kernel_rfl) ?_
      refine n_then ?_
      have hf9 := Fr.keep (ks := [4]) (r := [(4, .bool (decide (x0_hi < x1_lo)))]) hf8 (by kernel_rfl)
      exact ⟨z2, (decide (x0_hi < x1_lo)), k1, hf9, hS3, hr2⟩
    · have hr3 := cond_f hb1 hr1
      have hf10 := Fr.conv hf6 (congrArg (fun z => ([(2, pB b1 0), (3, pB b2 0), (9, .bool z)] : FL)) hb1)
      refine p_run 7 [] [4] (fl' := [(4, .bool false)]) (obs := []) trivial hf10 (by kernel_rfl) (by kernel_rfl) .nil fun a8 hf11 => ?_
      refine p_done (by kernel_rfl) ?_
      refine n_then ?_
      have hf12 := Fr.keep (ks := [4]) (r := [(4, .bool false)]) hf11 (by kernel_rfl)
      exact ⟨z2, false, k1, hf12, hS3, hr3⟩
  · rintro a9 ww4 ⟨z1, y1, k2, hf13, hS4, hr4⟩
    refine w_ret (by kernel_rfl) ?_
    refine p_ret (os := []) (v := .bool y1) (obs := []) hf13 (by kernel_rfl) .nil ?_
    obtain rfl := some_eq hr4
    exact ⟨_, rfl, z1, k2, rfl, (St.drop 2 hS4)⟩
def F56_j1 (y1 : Bool) : Option (Bool) :=
  (some (y1))
def F56 (fuel : Nat) (x0_lo : Int) (x0_hi : Int) (x1_lo : Int) (x1_hi : Int) : Option (Bool) :=
  ((F34 fuel x0_lo x0_hi).bind fun r1 => (cond r1 ((F34 fuel x1_lo x1_hi).bind fun r2 => (cond r2 (F56_j1 (decide (x0_hi < x1_lo))) (F56_j1 false))) (F56_j1 false)))
set_option maxRecDepth 100000 in
theorem f56_ok (fuel : Nat) (x0_lo : Int) (x0_hi : Int) (x1_lo : Int) (x1_hi : Int) (r : Bool) (hr : F56 fuel x0_lo x0_hi x1_lo x1_hi = some r) (h : Zone) (L : List Atom) (w : World) (hS : St h L w)  :
    Calls Try.prog 56 #[.agg #[vI x0_lo, vI x0_hi], .agg #[vI x1_lo, vI x1_hi]] w fun e w' => ∃ v, e = .returned v ∧ (∃ h', Zone.le h h' ∧ v = .bool r ∧ St h' L w') := by
  refine calls_intro (N := 18) Try.func56 (by kernel_rfl) fun a hf => ?_
  refine w_seq (by kernel_rfl) ?_
  refine w_reg (by kernel_rfl) ?_
  refine p_box (i := 0) (d := (some 2)) (cs := [vI x0_lo, vI x0_hi]) (T := 41) (v := fun b1 => pB b1 0) hS hf (fun b => by kernel_rfl) fun b1 ww1 a1 hS1 hf1 => ⟨fun _ => trivial, ?_⟩
  refine p_box (i := 1) (d := (some 3)) (cs := [vI x1_lo, vI x1_hi]) (T := 41) (v := fun b2 => pB b2 0) hS1 hf1 (fun b => by kernel_rfl) fun b2 ww2 a2 hS2 hf2 => ⟨fun _ => trivial, ?_⟩
  refine p_run 1 [] [2, 3] (fl' := [(2, pB b1 0), (3, pB b2 0)]) (obs := []) trivial hf2 (by kernel_rfl) (by kernel_rfl) .nil fun a3 hf3 => ?_
  refine p_done (by kernel_rfl) ?_
  refine n_then ?_
  refine w_mid (by kernel_rfl) (fun a w => ∃ z1 : Zone, ∃ y1 : Bool, Zone.le h z1 ∧ Fr a 18 [(4, .bool y1)] ∧ St z1 (box b2 [vI x1_lo, vI x1_hi] 41 :: box b1 [vI x0_lo, vI x0_hi] 41 :: L) w ∧ (F56_j1 y1) = some r) ?_ ?_
  · skip
    refine w_reg (by kernel_rfl) ?_
    refine p_run 1 [vI x0_lo, vI x0_hi] [2, 3, 5] (fl' := [(2, pB b1 0), (3, pB b2 0), (5, .agg #[vI x0_lo, vI x0_hi])]) (obs := [.cell ⟨b1, 0, none⟩ (vI x0_lo), .cell ⟨b1, 1, none⟩ (vI x0_hi)]) trivial hf3 (by kernel_rfl) (by kernel_rfl) (.cell (hS2.box (i := 1) rfl (j := 0) rfl) (.cell (hS2.box (i := 1) rfl (j := 1) rfl) .nil)) fun a4 hf4 => ?_
    obtain ⟨r1, hd1, hr1⟩ := bind_some hr
    refine p_call (i := 1) (d := some 6) (f := 34) (args := #[.agg #[vI x0_lo, vI x0_hi]]) hf4 (by kernel_rfl) (f34_ok fuel x0_lo x0_hi r1 hd1 h _ _ hS2 ) ?_
    rintro v1 ww3 a5 ⟨z2, k1, rfl, hS3⟩ hf5
    refine ⟨fun _ => trivial, ?_⟩
    refine p_run 1 [] [2, 3, 7] (fl' := [(2, pB b1 0), (3, pB b2 0), (7, .bool r1)]) (obs := []) trivial hf5 (by kernel_rfl) (by kernel_rfl) .nil fun a6 hf6 => ?_
    rcases Bool.eq_false_or_eq_true r1 with hb1 | hb1
    · have hr2 := cond_t hb1 hr1
      have hf7 := Fr.conv hf6 (congrArg (fun z => ([(2, pB b1 0), (3, pB b2 0), (7, .bool z)] : FL)) hb1)
      refine p_run 1 [vI x1_lo, vI x1_hi] [2, 3, 7, 8] (fl' := [(2, pB b1 0), (3, pB b2 0), (7, .bool true), (8, .agg #[vI x1_lo, vI x1_hi])]) (obs := [.cell ⟨b2, 0, none⟩ (vI x1_lo), .cell ⟨b2, 1, none⟩ (vI x1_hi)]) trivial hf7 (by kernel_rfl) (by kernel_rfl) (.cell (hS3.box (i := 0) rfl (j := 0) rfl) (.cell (hS3.box (i := 0) rfl (j := 1) rfl) .nil)) fun a7 hf8 => ?_
      obtain ⟨r2, hd2, hr3⟩ := bind_some hr2
      refine p_call (i := 4) (d := some 9) (f := 34) (args := #[.agg #[vI x1_lo, vI x1_hi]]) hf8 (by kernel_rfl) (f34_ok fuel x1_lo x1_hi r2 hd2 z2 _ _ hS3 ) ?_
      rintro v2 ww4 a8 ⟨z3, k2, rfl, hS4⟩ hf9
      refine ⟨fun _ => trivial, ?_⟩
      refine p_run 2 [] [2, 3, 11] (fl' := [(2, pB b1 0), (3, pB b2 0), (11, .bool r2)]) (obs := []) trivial hf9 (by kernel_rfl) (by kernel_rfl) .nil fun a9 hf10 => ?_
      rcases Bool.eq_false_or_eq_true r2 with hb2 | hb2
      · have hr4 := cond_t hb2 hr3
        have hf11 := Fr.conv hf10 (congrArg (fun z => ([(2, pB b1 0), (3, pB b2 0), (11, .bool z)] : FL)) hb2)
        refine p_run 7 [vI x0_hi, vI x1_lo] [4] (fl' := [(4, .bool (decide (x0_hi < x1_lo)))]) (obs := [.cell ⟨b1, 1, none⟩ (vI x0_hi), .cell ⟨b2, 0, none⟩ (vI x1_lo)]) trivial hf11 (by kernel_rfl) (by kernel_rfl) (.cell (hS4.box (i := 1) rfl (j := 1) rfl) (.cell (hS4.box (i := 0) rfl (j := 0) rfl) .nil)) fun a10 hf12 => ?_
        refine p_done (by kernel_rfl) ?_
        refine n_then ?_
        have hf13 := Fr.keep (ks := [4]) (r := [(4, .bool (decide (x0_hi < x1_lo)))]) hf12 (by kernel_rfl)
        exact ⟨z3, (decide (x0_hi < x1_lo)), (Zone.le_trans k1 k2), hf13, hS4, hr4⟩
      · have hr5 := cond_f hb2 hr3
        have hf14 := Fr.conv hf10 (congrArg (fun z => ([(2, pB b1 0), (3, pB b2 0), (11, .bool z)] : FL)) hb2)
        refine p_run 7 [] [4] (fl' := [(4, .bool false)]) (obs := []) trivial hf14 (by kernel_rfl) (by kernel_rfl) .nil fun a11 hf15 => ?_
        refine p_done (by kernel_rfl) ?_
        refine n_then ?_
        have hf16 := Fr.keep (ks := [4]) (r := [(4, .bool false)]) hf15 (by kernel_rfl)
        exact ⟨z3, false, (Zone.le_trans k1 k2), hf16, hS4, hr5⟩
    · have hr6 := cond_f hb1 hr1
      have hf17 := Fr.conv hf6 (congrArg (fun z => ([(2, pB b1 0), (3, pB b2 0), (7, .bool z)] : FL)) hb1)
      refine p_run 1 [] [2, 3, 7, 8] (fl' := [(2, pB b1 0), (3, pB b2 0), (7, .bool false), (8, undef)]) (obs := []) trivial hf17 (by kernel_rfl) (by kernel_rfl) .nil fun a12 hf18 => ?_
      refine p_run 1 [] [2, 3, 7, 8, 9] (fl' := [(2, pB b1 0), (3, pB b2 0), (7, .bool false), (8, undef), (9, undef)]) (obs := []) trivial hf18 (by kernel_rfl) (by kernel_rfl) .nil fun a13 hf19 => ?_
      refine p_run 9 [] [4] (fl' := [(4, .bool false)]) (obs := []) trivial hf19 (by kernel_rfl) (by kernel_rfl) .nil fun a14 hf20 => ?_
      refine p_done (by kernel_rfl) ?_
      refine n_then ?_
      have hf21 := Fr.keep (ks := [4]) (r := [(4, .bool false)]) hf20 (by kernel_rfl)
      exact ⟨z2, false, k1, hf21, hS3, hr6⟩
  · rintro a15 ww5 ⟨z1, y1, k3, hf22, hS5, hr7⟩
    refine w_ret (by kernel_rfl) ?_
    refine p_ret (os := []) (v := .bool y1) (obs := []) hf22 (by kernel_rfl) .nil ?_
    obtain rfl := some_eq hr7
    exact ⟨_, rfl, z1, k3, rfl, (St.drop 2 hS5)⟩
def F8_j3 (y1 : Bool) : Option (Bool) :=
  (some (y1))
def F8_j2 (fuel : Nat) (x0_a_lo : Int) (x0_a_hi : Int) (x0_b_lo : Int) (x0_b_hi : Int) (x0_n : Int) (y2 : Bool) : Option (Bool) :=
  (cond y2 (some (false)) ((F52 fuel x0_a_lo x0_a_hi).bind fun r1 => ((F53 fuel x0_a_lo x0_a_hi).bind fun r2 => (cond (r1 == r2) ((F43 fuel x0_a_lo x0_a_hi x0_n).bind fun r3 => ((F54 fuel x0_a_lo x0_a_hi x0_n).bind fun r4 => (cond (r3 == r4) ((F55 fuel x0_a_lo x0_a_hi x0_b_lo x0_b_hi).bind fun r5 => ((F56 fuel x0_a_lo x0_a_hi x0_b_lo x0_b_hi).bind fun r6 => (cond (r5 == r6) ((F13 fuel ).bind fun r7 => (F8_j3 r7)) (F8_j3 false)))) (F8_j3 false)))) (F8_j3 false)))))
def F8_j1 (fuel : Nat) (x0_a_lo : Int) (x0_a_hi : Int) (x0_b_lo : Int) (x0_b_hi : Int) (x0_n : Int) (r8 : Int × Int × Int) (r9 : Int × Int × Int) (r10 : Int × Int × Int) (r11 : Int × Int × Int) (r12 : Int × Int × Int) (r13 : Int × Int × Int) (r14 : Int × Int × Int) (r15 : Int × Int × Int) (r16 : Int × Int × Int) (r17 : Int × Int × Int) (r18 : Int × Int × Int) (r19 : Int × Int × Int) (r20 : Int × Int × Int) (r21 : Int × Int × Int) (y3 : Bool) : Option (Bool) :=
  (cond y3 (some (false)) (cond (!((r8.1 == r9.1) && ((r8.2.1 == r9.2.1) && true))) (F8_j2 fuel x0_a_lo x0_a_hi x0_b_lo x0_b_hi x0_n true) (cond (!((r10.1 == r11.1) && ((r10.2.1 == r11.2.1) && true))) (F8_j2 fuel x0_a_lo x0_a_hi x0_b_lo x0_b_hi x0_n true) (cond (!((r12.1 == r13.1) && ((r12.2.1 == r13.2.1) && true))) (F8_j2 fuel x0_a_lo x0_a_hi x0_b_lo x0_b_hi x0_n true) (cond (!((r14.1 == r15.1) && ((r14.2.1 == r15.2.1) && true))) (F8_j2 fuel x0_a_lo x0_a_hi x0_b_lo x0_b_hi x0_n true) (cond (!((r16.1 == r17.1) && ((r16.2.1 == r17.2.1) && true))) (F8_j2 fuel x0_a_lo x0_a_hi x0_b_lo x0_b_hi x0_n true) (cond (!((r18.1 == r19.1) && ((r18.2.1 == r19.2.1) && true))) (F8_j2 fuel x0_a_lo x0_a_hi x0_b_lo x0_b_hi x0_n true) (F8_j2 fuel x0_a_lo x0_a_hi x0_b_lo x0_b_hi x0_n (!((r20.1 == r21.1) && ((r20.2.1 == r21.2.1) && true)))))))))))
def F8 (fuel : Nat) (x0_a_lo : Int) (x0_a_hi : Int) (x0_b_lo : Int) (x0_b_hi : Int) (x0_n : Int) (x0_d : Int) : Option (Bool) :=
  ((F37 fuel x0_a_lo x0_a_hi x0_b_lo x0_b_hi).bind fun r8 => ((F44 fuel x0_a_lo x0_a_hi x0_b_lo x0_b_hi).bind fun r9 => ((F38 fuel x0_a_lo x0_a_hi x0_b_lo x0_b_hi).bind fun r10 => ((F45 fuel x0_a_lo x0_a_hi x0_b_lo x0_b_hi).bind fun r11 => ((F46 fuel x0_a_lo x0_a_hi).bind fun r12 => ((F47 fuel x0_a_lo x0_a_hi).bind fun r13 => ((F39 fuel x0_a_lo x0_a_hi x0_b_lo x0_b_hi).bind fun r14 => ((F48 fuel x0_a_lo x0_a_hi x0_b_lo x0_b_hi).bind fun r15 => ((F40 fuel x0_a_lo x0_a_hi x0_n x0_d).bind fun r16 => ((F49 fuel x0_a_lo x0_a_hi x0_n x0_d).bind fun r17 => ((F41 fuel x0_a_lo x0_a_hi x0_b_lo x0_b_hi).bind fun r18 => ((F50 fuel x0_a_lo x0_a_hi x0_b_lo x0_b_hi).bind fun r19 => ((F42 fuel x0_a_lo x0_a_hi x0_b_lo x0_b_hi).bind fun r20 => ((F51 fuel x0_a_lo x0_a_hi x0_b_lo x0_b_hi).bind fun r21 => (cond (r8.2.2 != r9.2.2) (F8_j1 fuel x0_a_lo x0_a_hi x0_b_lo x0_b_hi x0_n r8 r9 r10 r11 r12 r13 r14 r15 r16 r17 r18 r19 r20 r21 true) (cond (r10.2.2 != r11.2.2) (F8_j1 fuel x0_a_lo x0_a_hi x0_b_lo x0_b_hi x0_n r8 r9 r10 r11 r12 r13 r14 r15 r16 r17 r18 r19 r20 r21 true) (cond (r12.2.2 != r13.2.2) (F8_j1 fuel x0_a_lo x0_a_hi x0_b_lo x0_b_hi x0_n r8 r9 r10 r11 r12 r13 r14 r15 r16 r17 r18 r19 r20 r21 true) (cond (r14.2.2 != r15.2.2) (F8_j1 fuel x0_a_lo x0_a_hi x0_b_lo x0_b_hi x0_n r8 r9 r10 r11 r12 r13 r14 r15 r16 r17 r18 r19 r20 r21 true) (cond (r16.2.2 != r17.2.2) (F8_j1 fuel x0_a_lo x0_a_hi x0_b_lo x0_b_hi x0_n r8 r9 r10 r11 r12 r13 r14 r15 r16 r17 r18 r19 r20 r21 true) (cond (r18.2.2 != r19.2.2) (F8_j1 fuel x0_a_lo x0_a_hi x0_b_lo x0_b_hi x0_n r8 r9 r10 r11 r12 r13 r14 r15 r16 r17 r18 r19 r20 r21 true) (F8_j1 fuel x0_a_lo x0_a_hi x0_b_lo x0_b_hi x0_n r8 r9 r10 r11 r12 r13 r14 r15 r16 r17 r18 r19 r20 r21 (r20.2.2 != r21.2.2))))))))))))))))))))))
end Go.Proofs.Ytpjmgeajajcceaa

