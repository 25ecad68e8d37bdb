/-
  A part of the walk and of the plain law of one given statement. No condition.
-/
import Derived.Test.YtpjmgeajajcceaaSFa
set_option linter.unusedVariables false
namespace Go.Proofs.Ytpjmgeajajcceaa
open Go.Sl Go.Sx
set_option maxRecDepth 100000 in
theorem f18_ok (fuel : Nat) (x0 : List Pt) (x1 : Int) (x2 : Int) (r : Int × Int × Int) (hr : F18 fuel x0 x1 x2 = some r) (h : Zone) (L : List Atom) (w : World) (hS : St h L w) (o_x0 : Option Addr) (c_x0 : Nat) (hx_x0 : SliceR PtT h o_x0 c_x0 x0) :
    Calls Try.prog 18 #[.agg #[.slice o_x0 x0.length c_x0], vI x1, vI x2] w fun e w' => ∃ v, e = .returned v ∧ (∃ h', Zone.le h h' ∧ v = .tuple #[vI r.1, vI r.2.1, vI r.2.2] ∧ St h' L w') := by
  refine calls_intro (N := 52) Try.func18 (by kernel_rfl) fun a hf => ?_
  refine w_seq (by kernel_rfl) ?_
  refine w_reg (by kernel_rfl) ?_
  refine p_box (i := 0) (d := (some 3)) (cs := [.slice o_x0 x0.length c_x0]) (T := 24) (v := fun b1 => pB b1 0) hS hf (fun b => by kernel_rfl) fun b1 ww1 a1 hS1 hf1 => ⟨fun _ => trivial, ?_⟩
  refine p_run 3 [] [1, 2, 3] (fl' := [(1, vI x1), (2, vI x2), (3, pB b1 0)]) (obs := []) trivial hf1 (by kernel_rfl) (by kernel_rfl) .nil fun a2 hf2 => ?_
  refine p_done (by kernel_rfl) ?_
  refine n_then ?_
  refine w_seq (by kernel_rfl) ?_
  refine w_seq (by kernel_rfl) ?_
  refine w_reg (by kernel_rfl) ?_
  refine p_run 1 [.slice o_x0 x0.length c_x0] [1, 2, 3, 12] (fl' := [(1, vI x1), (2, vI x2), (3, pB b1 0), (12, .agg #[.slice o_x0 x0.length c_x0])]) (obs := [.cell ⟨b1, 0, none⟩ (.slice o_x0 x0.length c_x0)]) trivial hf2 (by kernel_rfl) (by kernel_rfl) (.cell (hS1.box (i := 0) rfl (j := 0) rfl) .nil) fun a3 hf3 => ?_
  obtain ⟨r27, hd1, hr1⟩ := bind_some hr
  refine p_call (i := 1) (d := some 13) (f := 67) (args := #[.agg #[.slice o_x0 x0.length c_x0]]) hf3 (by kernel_rfl) (f67_ok fuel x0 r27 hd1 h _ _ hS1 o_x0 c_x0 hx_x0) ?_
  rintro v1 ww2 a4 ⟨z1, k3, rfl, hS2⟩ hf4
  refine ⟨fun _ => trivial, ?_⟩
  refine p_run 1 [] [1, 2, 3, 9] (fl' := [(1, vI x1), (2, vI x2), (3, pB b1 0), (9, vI r27)]) (obs := []) trivial hf4 (by kernel_rfl) (by kernel_rfl) .nil fun a5 hf5 => ?_
  refine p_done (by kernel_rfl) ?_
  refine n_then ?_
  refine w_seq (by kernel_rfl) ?_
  refine w_reg (by kernel_rfl) ?_
  refine p_run 2 [] [1, 2, 3, 9, 15] (fl' := [(1, vI x1), (2, vI x2), (3, pB b1 0), (9, vI r27), (15, .bool (r27 != (0 : Int)))]) (obs := []) trivial hf5 (by kernel_rfl) (by kernel_rfl) .nil fun a6 hf6 => ?_
  refine p_done (by kernel_rfl) ?_
  refine n_then ?_
  refine w_if hf6 (b := (r27 != (0 : Int))) (by kernel_rfl) (fun hb1 => ?_) (fun hb1 => ?_)
  · have hr2 := cond_t hb1 hr1
    refine w_seq (by kernel_rfl) ?_
    refine w_reg (by kernel_rfl) ?_
    refine p_run 4 [] [6, 7, 8] (fl' := [(6, vI 0), (7, vI 0), (8, vI r27)]) (obs := []) trivial hf6 (by kernel_rfl) (by kernel_rfl) .nil fun a7 hf7 => ?_
    refine p_done (by kernel_rfl) ?_
    refine n_then ?_
    refine w_ret (by kernel_rfl) ?_
    refine r_then ?_
    refine p_ret (os := []) (v := .tuple #[vI 0, vI 0, vI r27]) (obs := []) hf7 (by kernel_rfl) .nil ?_
    obtain rfl := some_eq hr2
    exact ⟨_, rfl, z1, k3, rfl, (St.drop 1 hS2)⟩
  · have hr3 := cond_f hb1 hr1
    refine w_skip (by kernel_rfl) ?_
    refine n_then ?_
    refine w_seq (by kernel_rfl) ?_
    refine w_mid (by kernel_rfl) (fun a w => ∃ z2 : Zone, ∃ y33 : Bool, Zone.le z1 z2 ∧ Fr a 52 [(1, vI x1), (2, vI x2), (3, pB b1 0), (27, .bool y33)] ∧ St z2 (box b1 [.slice o_x0 x0.length c_x0] 24 :: L) w ∧ (F18_j1 fuel x0 x1 x2 y33) = some r) ?_ ?_
    · skip
      refine w_reg (by kernel_rfl) ?_
      refine p_run 4 [] [1, 2, 3, 20] (fl' := [(1, vI x1), (2, vI x2), (3, pB b1 0), (20, .bool (decide (x1 > x2)))]) (obs := []) trivial hf6 (by kernel_rfl) (by kernel_rfl) .nil fun a8 hf8 => ?_
      rcases Bool.eq_false_or_eq_true (decide (x1 > x2)) with hb2 | hb2
      · have hr4 := cond_t hb2 hr3
        have hf9 := Fr.conv hf8 (congrArg (fun z => ([(1, vI x1), (2, vI x2), (3, pB b1 0), (20, .bool z)] : FL)) hb2)
        refine p_run 4 [] [1, 2, 3, 20, 21, 24] (fl' := [(1, vI x1), (2, vI x2), (3, pB b1 0), (20, .bool true), (21, undef), (24, undef)]) (obs := []) trivial hf9 (by kernel_rfl) (by kernel_rfl) .nil fun a9 hf10 => ?_
        refine p_run 1 [] [1, 2, 3, 20, 21, 24, 25] (fl' := [(1, vI x1), (2, vI x2), (3, pB b1 0), (20, .bool true), (21, undef), (24, undef), (25, undef)]) (obs := []) trivial hf10 (by kernel_rfl) (by kernel_rfl) .nil fun a10 hf11 => ?_
        refine p_run 2 [] [1, 2, 3, 27] (fl' := [(1, vI x1), (2, vI x2), (3, pB b1 0), (27, .bool true)]) (obs := []) trivial hf11 (by kernel_rfl) (by kernel_rfl) .nil fun a11 hf12 => ?_
        refine p_done (by kernel_rfl) ?_
        refine n_then ?_
        have hf13 := Fr.keep (ks := [1, 2, 3, 27]) (r := [(1, vI x1), (2, vI x2), (3, pB b1 0), (27, .bool true)]) hf12 (by kernel_rfl)
        exact ⟨z1, true, (Zone.le_refl _), hf13, hS2, hr4⟩
      · have hr5 := cond_f hb2 hr3
        have hf14 := Fr.conv hf8 (congrArg (fun z => ([(1, vI x1), (2, vI x2), (3, pB b1 0), (20, .bool z)] : FL)) hb2)
        refine p_run 4 [.slice o_x0 x0.length c_x0] [1, 2, 3, 20, 21, 24] (fl' := [(1, vI x1), (2, vI x2), (3, pB b1 0), (20, .bool false), (21, .agg #[.slice o_x0 x0.length c_x0]), (24, .agg #[vI x1, vI x2])]) (obs := [.cell ⟨b1, 0, none⟩ (.slice o_x0 x0.length c_x0)]) trivial hf14 (by kernel_rfl) (by kernel_rfl) (.cell (hS2.box (i := 0) rfl (j := 0) rfl) .nil) fun a12 hf15 => ?_
        obtain ⟨r28, hd2, hr6⟩ := bind_some hr5
        refine p_call (i := 8) (d := some 25) (f := 81) (args := #[.agg #[.slice o_x0 x0.length c_x0], .agg #[vI x1, vI x2]]) hf15 (by kernel_rfl) (f81_ok fuel x0 x1 x2 r28 hd2 z1 _ _ hS2 o_x0 c_x0 (SliceR.mono k3 hx_x0)) ?_
        rintro v2 ww3 a13 ⟨z3, k4, rfl, hS3⟩ hf16
        refine ⟨fun _ => trivial, ?_⟩
        refine p_run 2 [] [1, 2, 3, 27] (fl' := [(1, vI x1), (2, vI x2), (3, pB b1 0), (27, .bool (!r28))]) (obs := []) trivial hf16 (by kernel_rfl) (by kernel_rfl) .nil fun a14 hf17 => ?_
        refine p_done (by kernel_rfl) ?_
        refine n_then ?_
        have hf18 := Fr.keep (ks := [1, 2, 3, 27]) (r := [(1, vI x1), (2, vI x2), (3, pB b1 0), (27, .bool (!r28))]) hf17 (by kernel_rfl)
        exact ⟨z3, (!r28), k4, hf18, hS3, hr6⟩
    · rintro a15 ww4 ⟨z2, y33, k5, hf19, hS4, hr7⟩
      refine w_if hf19 (b := y33) (by kernel_rfl) (fun hb3 => ?_) (fun hb3 => ?_)
      · have hr8 := cond_t hb3 hr7
        refine w_seq (by kernel_rfl) ?_
        refine w_reg (by kernel_rfl) ?_
        refine p_run 3 [] [6, 7, 8] (fl' := [(6, vI 0), (7, vI 0), (8, vI 4)]) (obs := []) trivial hf19 (by kernel_rfl) (by kernel_rfl) .nil fun a16 hf20 => ?_
        refine p_done (by kernel_rfl) ?_
        refine n_then ?_
        refine w_ret (by kernel_rfl) ?_
        refine r_then ?_
        refine p_ret (os := []) (v := .tuple #[vI 0, vI 0, vI 4]) (obs := []) hf20 (by kernel_rfl) .nil ?_
        obtain rfl := some_eq hr8
        exact ⟨_, rfl, z2, (Zone.le_trans k3 k5), rfl, (St.drop 1 hS4)⟩
      · have hr9 := cond_f hb3 hr7
        refine w_skip (by kernel_rfl) ?_
        refine n_then ?_
        refine w_seq (by kernel_rfl) ?_
        refine w_reg (by kernel_rfl) ?_
        refine p_run 3 [.slice o_x0 x0.length c_x0] [1, 2, 3, 28, 29, 30] (fl' := [(1, vI x1), (2, vI x2), (3, pB b1 0), (28, .agg #[.slice o_x0 x0.length c_x0]), (29, vI x1), (30, vI x2)]) (obs := [.cell ⟨b1, 0, none⟩ (.slice o_x0 x0.length c_x0)]) trivial hf19 (by kernel_rfl) (by kernel_rfl) (.cell (hS4.box (i := 0) rfl (j := 0) rfl) .nil) fun a17 hf21 => ?_
        refine p_call (i := 3) (d := some 31) (f := 82) (args := #[.agg #[.slice o_x0 x0.length c_x0], vI x1, vI x2, .func (.func 83) #[] #[]]) hf21 (by kernel_rfl) (Φ := fun v w => ∃ z4 : Zone, ∃ y1 : Int, ∃ y2 : Int, ∃ y3 : Int, Zone.le z2 z4 ∧ v = .agg #[vI y1, vI y2, vI y3] ∧ St z4 (box b1 [.slice o_x0 x0.length c_x0] 24 :: L) w ∧ (F18_j2 fuel x0 x1 x2 y1 y2 y3) = some r) ?_ ?_
        · refine calls_intro (N := 94) Try.func82 (by kernel_rfl) fun a18 hf22 => ?_
          refine w_seq (by kernel_rfl) ?_
          refine w_reg (by kernel_rfl) ?_
          refine p_box (i := 0) (d := (some 4)) (cs := [.slice o_x0 x0.length c_x0]) (T := 24) (v := fun b2 => pB b2 0) hS4 hf22 (fun b => by kernel_rfl) fun b2 ww5 a19 hS5 hf23 => ⟨fun _ => trivial, ?_⟩
          refine p_box (i := 1) (d := (some 5)) (cs := [vI x1]) (T := 3) (v := fun b3 => pB b3 0) hS5 hf23 (fun b => by kernel_rfl) fun b3 ww6 a20 hS6 hf24 => ⟨fun _ => trivial, ?_⟩
          refine p_box (i := 2) (d := (some 6)) (cs := [vI x2]) (T := 3) (v := fun b4 => pB b4 0) hS6 hf24 (fun b => by kernel_rfl) fun b4 ww7 a21 hS7 hf25 => ⟨fun _ => trivial, ?_⟩
          refine p_box (i := 3) (d := (some 7)) (cs := [.func (.func 83) #[] #[]]) (T := 97) (v := fun b5 => pB b5 0) hS7 hf25 (fun b => by kernel_rfl) fun b5 ww8 a22 hS8 hf26 => ⟨fun _ => trivial, ?_⟩
          refine p_box (i := 4) (d := (some 8)) (cs := [vI 0, vI 0, vI 0]) (T := 95) (v := fun b6 => pB b6 0) hS8 hf26 (fun b => by kernel_rfl) fun b6 ww9 a23 hS9 hf27 => ⟨fun _ => trivial, ?_⟩
          refine p_done (by kernel_rfl) ?_
          refine n_then ?_
          refine w_seq (by kernel_rfl) ?_
          refine w_reg (by kernel_rfl) ?_
          refine p_run 1 [] [4, 5, 6, 7, 8, 18] (fl' := [(4, pB b2 0), (5, pB b3 0), (6, pB b4 0), (7, pB b5 0), (8, pB b6 0), (18, .agg #[vI 0, vI 0, vI 1])]) (obs := []) trivial hf27 (by kernel_rfl) (by kernel_rfl) .nil fun a24 hf28 => ?_
          refine p_box (i := 1) (d := (some 9)) (cs := [vI 0, vI 0, vI 0]) (T := 95) (v := fun b7 => pB b7 0) hS9 hf28 (fun b => by kernel_rfl) fun b7 ww10 a25 hS10 hf29 => ⟨fun _ => trivial, ?_⟩
          refine p_store_eq (i := 2) (j := 0) (b := b7) (off := 0) (vs := [vI 0, vI 0, vI 1]) (cs' := [vI 0, vI 0, vI 1]) hS10 hf29 rfl (by kernel_rfl) (by kernel_rfl) rfl fun ww11 a26 hS11 hf30 => ⟨fun _ => trivial, ?_⟩
          refine p_done (by kernel_rfl) ?_
          refine n_then ?_
          refine w_seq (by kernel_rfl) ?_
          refine w_seq (by kernel_rfl) ?_
          refine w_reg (by kernel_rfl) ?_
          refine p_run 1 [.slice o_x0 x0.length c_x0] [5, 6, 7, 8, 9, 19] (fl' := [(5, pB b3 0), (6, pB b4 0), (7, pB b5 0), (8, pB b6 0), (9, pB b7 0), (19, .agg #[.slice o_x0 x0.length c_x0])]) (obs := [.cell ⟨b2, 0, none⟩ (.slice o_x0 x0.length c_x0)]) trivial hf30 (by kernel_rfl) (by kernel_rfl) (.cell (hS11.box (i := 5) rfl (j := 0) rfl) .nil) fun a27 hf31 => ?_
          refine p_inl (i := 1) (d := some 20) (f := 118) (args := #[.agg #[.slice o_x0 x0.length c_x0]]) (N' := 4) hf31 (by kernel_rfl) Try.func118 (by kernel_rfl) fun a28 hf32 => ?_
          refine w_seq (by kernel_rfl) ?_
          refine w_reg (by kernel_rfl) ?_
          refine p_box (i := 0) (d := (some 1)) (cs := [.slice o_x0 x0.length c_x0]) (T := 24) (v := fun b8 => pB b8 0) hS11 hf32 (fun b => by kernel_rfl) fun b8 ww12 a29 hS12 hf33 => ⟨fun _ => trivial, ?_⟩
          refine p_run 1 [] [1] (fl' := [(1, pB b8 0)]) (obs := []) trivial hf33 (by kernel_rfl) (by kernel_rfl) .nil fun a30 hf34 => ?_
          refine p_done (by kernel_rfl) ?_
          refine n_then ?_
          refine w_seq (by kernel_rfl) ?_
          refine w_reg (by kernel_rfl) ?_
          refine p_run 2 [] [2] (fl' := [(2, .func (.func 130) #[] #[pB b8 0])]) (obs := []) trivial hf34 (by kernel_rfl) (by kernel_rfl) .nil fun a31 hf35 => ?_
          refine p_done (by kernel_rfl) ?_
          refine n_then ?_
          refine w_ret (by kernel_rfl) ?_
          refine p_ret (os := []) (v := .func (.func 130) #[] #[pB b8 0]) (obs := []) hf35 (by kernel_rfl) .nil ?_
          refine ⟨_, rfl, fun a32 hf36 => ?_⟩
          refine ⟨fun _ => trivial, ?_⟩
          refine p_done (by kernel_rfl) ?_
          refine n_then ?_
          refine w_block (id := 0) (by kernel_rfl) ?_
          have hf37 := Fr.keep (ks := [5, 6, 7, 8, 9, 20]) (r := [(5, pB b3 0), (6, pB b4 0), (7, pB b5 0), (8, pB b6 0), (9, pB b7 0), (20, .func (.func 130) #[] #[pB b8 0])]) hf36 (by kernel_rfl)
          refine w_range (g := 20) (gf := 130) (lb := #[pB b8 0]) (by kernel_rfl) hf37 hS12 (by kernel_rfl) (fun l => by kernel_rfl) fun ps1 A1 B1 hps1 hA1 hB1 l1 D1 ww13 hS13 => ?_
          refine calls_intro (N := 40) Try.func130 (by kernel_rfl) fun a33 hf38 => ?_
          refine w_seq (by kernel_rfl) ?_
          refine w_seq (by kernel_rfl) ?_
          refine w_reg (by kernel_rfl) ?_
          refine p_run 4 [.slice o_x0 x0.length c_x0] [0, 1, 8] (fl' := [(0, .func (.yield l1) #[] #[]), (1, pB b8 0), (8, .bool ((x0.length : Int) == (1 : Int)))]) (obs := [.cell ⟨b8, 0, none⟩ (.slice o_x0 x0.length c_x0)]) trivial hf38 (by kernel_rfl) (by kernel_rfl) (.cell (hS13.box (i := 2) rfl (j := 0) rfl) .nil) fun a34 hf39 => ?_
          refine p_done (by kernel_rfl) ?_
          refine n_then ?_
          refine w_if hf39 (b := ((x0.length : Int) == (1 : Int))) (by kernel_rfl) (fun hb4 => ?_) (fun hb4 => ?_)
          · have hr10 := cond_t hb4 hr9
            refine w_seq (by kernel_rfl) ?_
            refine w_regDY (by kernel_rfl) 10 [(0, true), (1, true), (2, true), (3, true), (4, true), (5, true), (6, true), (7, true), (8, true), (9, true)] [] (by kernel_rfl) ?_
            have hS14 := hS13.drew
            refine p_firstP 2 [] [1, 9, 10] (fl' := [(1, pB b8 0), (9, .func (.yield l1) #[] #[]), (10, pB b8 0)]) (obs := []) hf39 (by kernel_rfl) (by kernel_rfl) (fun _ => .nil) fun a35 hf40 => ?_
            refine p_firstE 1 [.slice o_x0 x0.length c_x0] [1, 9, 11] (fl' := [(1, pB b8 0), (9, .func (.yield l1) #[] #[]), (11, .slice o_x0 x0.length c_x0)]) (obs := [.cell ⟨b8, 0, none⟩ (.slice o_x0 x0.length c_x0)]) (by kernel_rfl) hf40 (by kernel_rfl) (by kernel_rfl) (.cell (hS14.box (i := 2) rfl (j := 0) rfl) .nil) fun a36 hf41 => ?_
            obtain ⟨p7, hp4439, hr11⟩ := bind_some hr10
            obtain ⟨ad1, ho1, hb5, cc1, hc1, hk1⟩ := SliceR.getI (SliceR.mono (Zone.le_trans k3 k5) hx_x0) hp4439
            subst hc1
            refine p_firstP 1 [.pointer (some ad1)] [1, 9, 12] (fl' := [(1, pB b8 0), (9, .func (.yield l1) #[] #[]), (12, .pointer (some (ad1.add (Int.toNat 0 * 3))))]) (obs := [.prop (o_x0 = some ad1), .prop (0 ≤ (0 : Int) ∧ (0 : Int) < (x0.length : Nat))]) hf41 (by kernel_rfl) (by kernel_rfl) (fun _ => (.prop ho1 (.prop hb5 .nil))) fun a37 hf42 => ?_
            refine p_firstE 1 [vI p7.x, vI p7.lo, vI p7.hi] [1, 9, 13] (fl' := [(1, pB b8 0), (9, .func (.yield l1) #[] #[]), (13, .agg #[vI p7.x, vI p7.lo, vI p7.hi])]) (obs := [.cell ((ad1.add (Int.toNat 0 * 3)).add 0) (vI p7.x), .cell ((ad1.add (Int.toNat 0 * 3)).add 1) (vI p7.lo), .cell ((ad1.add (Int.toNat 0 * 3)).add 2) (vI p7.hi)]) (by kernel_rfl) hf42 (by kernel_rfl) (by kernel_rfl) (.cell (hS14.cell (hk1 0 _ rfl)) (.cell (hS14.cell (hk1 1 _ rfl)) (.cell (hS14.cell (hk1 2 _ rfl)) .nil))) fun a38 hf43 => ?_
            refine p_firstP 1 [] [9, 13, 14] (fl' := [(9, .func (.yield l1) #[] #[]), (13, .agg #[vI p7.x, vI p7.lo, vI p7.hi]), (14, pB b8 0)]) (obs := []) hf43 (by kernel_rfl) (by kernel_rfl) (fun _ => .nil) fun a39 hf44 => ?_
            refine p_firstE 1 [.slice o_x0 x0.length c_x0] [9, 13, 15] (fl' := [(9, .func (.yield l1) #[] #[]), (13, .agg #[vI p7.x, vI p7.lo, vI p7.hi]), (15, .slice o_x0 x0.length c_x0)]) (obs := [.cell ⟨b8, 0, none⟩ (.slice o_x0 x0.length c_x0)]) (by kernel_rfl) hf44 (by kernel_rfl) (by kernel_rfl) (.cell (hS14.box (i := 2) rfl (j := 0) rfl) .nil) fun a40 hf45 => ?_
            obtain ⟨p8, hp4456, hr12⟩ := bind_some hr11
            obtain ⟨ad2, ho2, hb6, cc2, hc2, hk2⟩ := SliceR.getI (SliceR.mono (Zone.le_trans k3 k5) hx_x0) hp4456
            subst hc2
            refine p_firstP 1 [.pointer (some ad2)] [9, 13, 16] (fl' := [(9, .func (.yield l1) #[] #[]), (13, .agg #[vI p7.x, vI p7.lo, vI p7.hi]), (16, .pointer (some (ad2.add (Int.toNat 0 * 3))))]) (obs := [.prop (o_x0 = some ad2), .prop (0 ≤ (0 : Int) ∧ (0 : Int) < (x0.length : Nat))]) hf45 (by kernel_rfl) (by kernel_rfl) (fun _ => (.prop ho2 (.prop hb6 .nil))) fun a41 hf46 => ?_
            refine p_firstE 1 [vI p8.x, vI p8.lo, vI p8.hi] [9, 13, 17] (fl' := [(9, .func (.yield l1) #[] #[]), (13, .agg #[vI p7.x, vI p7.lo, vI p7.hi]), (17, .agg #[vI p8.x, vI p8.lo, vI p8.hi])]) (obs := [.cell ((ad2.add (Int.toNat 0 * 3)).add 0) (vI p8.x), .cell ((ad2.add (Int.toNat 0 * 3)).add 1) (vI p8.lo), .cell ((ad2.add (Int.toNat 0 * 3)).add 2) (vI p8.hi)]) (by kernel_rfl) hf46 (by kernel_rfl) (by kernel_rfl) (.cell (hS14.cell (hk2 0 _ rfl)) (.cell (hS14.cell (hk2 1 _ rfl)) (.cell (hS14.cell (hk2 2 _ rfl)) .nil))) fun a42 hf47 => ?_
            refine p_firstP 1 [] [9, 18] (fl' := [(9, .func (.yield l1) #[] #[]), (18, .agg #[vI p7.x, vI p7.lo, vI p7.hi, vI p8.x, vI p8.lo, vI p8.hi])]) (obs := []) hf47 (by kernel_rfl) (by kernel_rfl) (fun _ => .nil) fun a43 hf48 => ?_
            refine p_done (by kernel_rfl) ?_
            refine p_yield (d := some 19) (l := l1) (args := #[.agg #[vI p7.x, vI p7.lo, vI p7.hi, vI p8.x, vI p8.lo, vI p8.hi]]) hf48 (by kernel_rfl) hS14 (j := 0) rfl (by rw [hps1]; kernel_rfl) fun a44 hf49 => ?_
            rw [hps1] at hf49
            refine cw_eq hA1 ?_
            refine w_reg (by kernel_rfl) ?_
            refine p_box (i := 0) (d := (some 10)) (cs := [vI 0, vI 0, vI 0, vI 0, vI 0, vI 0]) (T := 127) (v := fun b9 => pB b9 0) hS14 hf49 (fun b => by kernel_rfl) fun b9 ww14 a45 hS15 hf50 => ⟨fun _ => trivial, ?_⟩
            refine p_store_eq (i := 1) (j := 0) (b := b9) (off := 0) (vs := [vI p7.x, vI p7.lo, vI p7.hi, vI p8.x, vI p8.lo, vI p8.hi]) (cs' := [vI p7.x, vI p7.lo, vI p7.hi, vI p8.x, vI p8.lo, vI p8.hi]) hS15 hf50 rfl (by kernel_rfl) (by kernel_rfl) rfl fun ww15 a46 hS16 hf51 => ⟨fun _ => trivial, ?_⟩
            refine p_done (by kernel_rfl) ?_
            refine n_then ?_
            refine p_begin hS16 (j := 1) rfl fun ww16 hS17 => ?_
            refine cw_eq hB1 ?_
            refine w_block (id := 1) (by kernel_rfl) ?_
            refine w_seq (by kernel_rfl) ?_
            have hS18 := hS17.drew
            refine w_regD (by kernel_rfl) [(0, true), (1, true), (2, true), (3, true), (4, true), (5, true), (6, true), (7, true), (8, true), (9, true), (10, true), (11, true)] [] (fun x => x = ww16.drew) (by kernel_rfl) rfl ?_
            refine p_firstP 2 [] [5, 6, 7, 9, 10, 23] (fl' := [(5, pB b3 0), (6, pB b4 0), (7, pB b5 0), (9, pB b7 0), (10, pB b9 0), (23, pB b9 0)]) (obs := []) hf51 (by kernel_rfl) (by kernel_rfl) (fun _ => .nil) fun a47 hf52 => ?_
            refine p_firstE 2 [vI p7.x, vI x1] [6, 7, 9, 10, 24, 25] (fl' := [(6, pB b4 0), (7, pB b5 0), (9, pB b7 0), (10, pB b9 0), (24, vI p7.x), (25, vI x1)]) (obs := [.cell ⟨b9, 0, none⟩ (vI p7.x), .cell ⟨b3, 0, none⟩ (vI x1)]) (by kernel_rfl) hf52 (by kernel_rfl) (by kernel_rfl) (.cell (hS18.box (i := 0) rfl (j := 0) rfl) (.cell (hS18.box (i := 8) rfl (j := 0) rfl) .nil)) fun a48 hf53 => ?_
            refine p_firstP 3 [] [6, 7, 9, 10, 26, 28] (fl' := [(6, pB b4 0), (7, pB b5 0), (9, pB b7 0), (10, pB b9 0), (26, vI (if x1 > p7.x then x1 else p7.x)), (28, pB b9 3)]) (obs := []) hf53 (by kernel_rfl) (by kernel_rfl) (fun _ => .nil) fun a49 hf54 => ?_
            refine p_firstE 2 [vI p8.x, vI x2] [7, 9, 10, 26, 29, 30] (fl' := [(7, pB b5 0), (9, pB b7 0), (10, pB b9 0), (26, vI (if x1 > p7.x then x1 else p7.x)), (29, vI p8.x), (30, vI x2)]) (obs := [.cell ⟨b9, 3, none⟩ (vI p8.x), .cell ⟨b4, 0, none⟩ (vI x2)]) (by kernel_rfl) hf54 (by kernel_rfl) (by kernel_rfl) (.cell (hS18.box (i := 0) rfl (j := 3) rfl) (.cell (hS18.box (i := 7) rfl (j := 0) rfl) .nil)) fun a50 hf55 => ?_
            refine p_firstP 3 [] [7, 9, 10, 11, 12] (fl' := [(7, pB b5 0), (9, pB b7 0), (10, pB b9 0), (11, vI (if x1 > p7.x then x1 else p7.x)), (12, vI (if x2 < p8.x then x2 else p8.x))]) (obs := []) hf55 (by kernel_rfl) (by kernel_rfl) (fun _ => .nil) fun a51 hf56 => ?_
            refine p_done (by kernel_rfl) ?_
            refine n_then ?_
            refine w_seq (by kernel_rfl) ?_
            refine w_seq (by kernel_rfl) ?_
            refine w_reg (by kernel_rfl) ?_
            refine p_run 3 [] [7, 9, 10, 11, 12, 34] (fl' := [(7, pB b5 0), (9, pB b7 0), (10, pB b9 0), (11, vI (if x1 > p7.x then x1 else p7.x)), (12, vI (if x2 < p8.x then x2 else p8.x)), (34, .bool (decide ((if x1 > p7.x then x1 else p7.x) ≥ (if x2 < p8.x then x2 else p8.x))))]) (obs := []) trivial hf56 (by kernel_rfl) (by kernel_rfl) .nil fun a52 hf57 => ?_
            refine p_done (by kernel_rfl) ?_
            refine n_then ?_
            refine w_if hf57 (b := (decide ((if x1 > p7.x then x1 else p7.x) ≥ (if x2 < p8.x then x2 else p8.x)))) (by kernel_rfl) (fun hb7 => ?_) (fun hb7 => ?_)
            · have hr13 := cond_t hb7 hr12
              refine w_exit (id := 1) (by kernel_rfl) ?_
              refine x_then ?_
              refine x_block ?_
              refine p_roundN hS18 (j := 1) rfl fun ww17 a53 hS19 hf58 => ?_
              have hS20 := St.drop 1 hS19
              refine p_done (by kernel_rfl) ?_
              refine n_then ?_
              refine w_ret (by kernel_rfl) ?_
              refine r_then ?_
              refine p_ret (os := []) (v := .tuple #[]) (obs := []) hf58 (by kernel_rfl) .nil ?_
              refine ⟨_, rfl, fun a54 hf59 => ?_⟩
              refine p_jump0 hS20 (j := 0) rfl (fun h => by cases h) fun ww18 hS21 => ?_
              refine n_block ?_
              refine n_then ?_
              refine w_seq (by kernel_rfl) ?_
              refine w_reg (by kernel_rfl) ?_
              refine p_run 1 [vI 0, vI 0, vI 1] [8, 93] (fl' := [(8, pB b6 0), (93, .agg #[vI 0, vI 0, vI 1])]) (obs := [.cell ⟨b7, 0, none⟩ (vI 0), .cell ⟨b7, 1, none⟩ (vI 0), .cell ⟨b7, 2, none⟩ (vI 1)]) trivial hf59 (by kernel_rfl) (by kernel_rfl) (.cell (hS21.box (i := 3) rfl (j := 0) rfl) (.cell (hS21.box (i := 3) rfl (j := 1) rfl) (.cell (hS21.box (i := 3) rfl (j := 2) rfl) .nil))) fun a55 hf60 => ?_
              refine p_store_eq (i := 1) (j := 4) (b := b6) (off := 0) (vs := [vI 0, vI 0, vI 1]) (cs' := [vI 0, vI 0, vI 1]) hS21 hf60 rfl (by kernel_rfl) (by kernel_rfl) rfl fun ww19 a56 hS22 hf61 => ⟨fun _ => trivial, ?_⟩
              refine p_done (by kernel_rfl) ?_
              refine n_then ?_
              refine w_ret (by kernel_rfl) ?_
              refine p_retM hf61 ?_
              refine p_mark hS22 (j := 1) rfl fun ww20 hS23 => ?_
              refine p_end (os := [vI 0, vI 0, vI 1]) (v := .agg #[vI 0, vI 0, vI 1]) (obs := [.cell ⟨b6, 0, none⟩ (vI 0), .cell ⟨b6, 1, none⟩ (vI 0), .cell ⟨b6, 2, none⟩ (vI 1)]) hf61 (by kernel_rfl) (.cell (hS23.box (i := 4) rfl (j := 0) rfl) (.cell (hS23.box (i := 4) rfl (j := 1) rfl) (.cell (hS23.box (i := 4) rfl (j := 2) rfl) .nil))) ?_
              exact ⟨_, rfl, z2, 0, 0, 1, (Zone.le_refl _), rfl, (St.drop 9 hS23), hr13⟩
            · have hr14 := cond_f hb7 hr12
              refine w_skip (by kernel_rfl) ?_
              refine n_then ?_
              refine w_seq (by kernel_rfl) ?_
              have hS24 := hS18.drew
              have s1 : Sub z2 (box b9 [vI p7.x, vI p7.lo, vI p7.hi, vI p8.x, vI p8.lo, vI p8.hi] 127 :: loopA l1 94 [(5, pB b3 0), (6, pB b4 0), (7, pB b5 0), (8, pB b6 0), (9, pB b7 0), (20, .func (.func 130) #[] #[pB b8 0])] ps1 A1 B1 D1 .busy none :: defA D1 :: box b8 [.slice o_x0 x0.length c_x0] 24 :: box b7 [vI 0, vI 0, vI 1] 95 :: box b6 [vI 0, vI 0, vI 0] 95 :: box b5 [.func (.func 83) #[] #[]] 97 :: box b4 [vI x2] 3 :: box b3 [vI x1] 3 :: box b2 [.slice o_x0 x0.length c_x0] 24 :: box b1 [.slice o_x0 x0.length c_x0] 24 :: L) _ := Sub.of (Zone.le_refl _) hS24
              refine w_regD (by kernel_rfl) [(0, true), (1, true), (2, true), (4, true), (5, true), (6, true), (8, true), (9, true), (10, true), (13, true), (14, true), (15, true), (16, true), (17, true), (18, true), (19, true), (3, false), (7, false), (11, false), (12, true), (20, true), (21, true), (22, true)] [] (Sub z2 (box b9 [vI p7.x, vI p7.lo, vI p7.hi, vI p8.x, vI p8.lo, vI p8.hi] 127 :: loopA l1 94 [(5, pB b3 0), (6, pB b4 0), (7, pB b5 0), (8, pB b6 0), (9, pB b7 0), (20, .func (.func 130) #[] #[pB b8 0])] ps1 A1 B1 D1 .busy none :: defA D1 :: box b8 [.slice o_x0 x0.length c_x0] 24 :: box b7 [vI 0, vI 0, vI 1] 95 :: box b6 [vI 0, vI 0, vI 0] 95 :: box b5 [.func (.func 83) #[] #[]] 97 :: box b4 [vI x2] 3 :: box b3 [vI x1] 3 :: box b2 [.slice o_x0 x0.length c_x0] 24 :: box b1 [.slice o_x0 x0.length c_x0] 24 :: L)) (by kernel_rfl) s1 ?_
              refine p_first 1 [.func (.func 83) #[] #[]] [7, 9, 10, 11, 12, 35] (fl' := [(7, pB b5 0), (9, pB b7 0), (10, pB b9 0), (11, vI (if x1 > p7.x then x1 else p7.x)), (12, vI (if x2 < p8.x then x2 else p8.x)), (35, .func (.func 83) #[] #[])]) (obs := [.cell ⟨b5, 0, none⟩ (.func (.func 83) #[] #[])]) s1 (by kernel_rfl) hf57 (by kernel_rfl) (by kernel_rfl) (fun _ s => (.cell (s.box (i := 6) rfl (j := 0) rfl) .nil)) fun a57 hf62 => ?_
              refine p_firstP 1 [] [7, 9, 10, 11, 12, 35, 36] (fl' := [(7, pB b5 0), (9, pB b7 0), (10, pB b9 0), (11, vI (if x1 > p7.x then x1 else p7.x)), (12, vI (if x2 < p8.x then x2 else p8.x)), (35, .func (.func 83) #[] #[]), (36, pB b9 0)]) (obs := []) hf62 (by kernel_rfl) (by kernel_rfl) (fun _ => .nil) fun a58 hf63 => ?_
              refine p_first 2 [vI p7.x, vI p7.lo, vI p7.hi, .func (.func 83) #[] #[]] [7, 9, 10, 11, 12, 35, 37, 39] (fl' := [(7, pB b5 0), (9, pB b7 0), (10, pB b9 0), (11, vI (if x1 > p7.x then x1 else p7.x)), (12, vI (if x2 < p8.x then x2 else p8.x)), (35, .func (.func 83) #[] #[]), (37, .agg #[vI p7.x, vI p7.lo, vI p7.hi]), (39, .func (.func 83) #[] #[])]) (obs := [.cell ⟨b9, 0, none⟩ (vI p7.x), .cell ⟨b9, 1, none⟩ (vI p7.lo), .cell ⟨b9, 2, none⟩ (vI p7.hi), .cell ⟨b5, 0, none⟩ (.func (.func 83) #[] #[])]) s1 (by kernel_rfl) hf63 (by kernel_rfl) (by kernel_rfl) (fun _ s => (.cell (s.box (i := 0) rfl (j := 0) rfl) (.cell (s.box (i := 0) rfl (j := 1) rfl) (.cell (s.box (i := 0) rfl (j := 2) rfl) (.cell (s.box (i := 6) rfl (j := 0) rfl) .nil))))) fun a59 hf64 => ?_
              refine p_firstP 1 [] [7, 9, 10, 11, 12, 35, 37, 39, 40] (fl' := [(7, pB b5 0), (9, pB b7 0), (10, pB b9 0), (11, vI (if x1 > p7.x then x1 else p7.x)), (12, vI (if x2 < p8.x then x2 else p8.x)), (35, .func (.func 83) #[] #[]), (37, .agg #[vI p7.x, vI p7.lo, vI p7.hi]), (39, .func (.func 83) #[] #[]), (40, pB b9 3)]) (obs := []) hf64 (by kernel_rfl) (by kernel_rfl) (fun _ => .nil) fun a60 hf65 => ?_
              refine p_first 2 [vI p8.x, vI p8.lo, vI p8.hi, .func (.func 83) #[] #[]] [9, 10, 11, 12, 35, 37, 39, 41, 43] (fl' := [(9, pB b7 0), (10, pB b9 0), (11, vI (if x1 > p7.x then x1 else p7.x)), (12, vI (if x2 < p8.x then x2 else p8.x)), (35, .func (.func 83) #[] #[]), (37, .agg #[vI p7.x, vI p7.lo, vI p7.hi]), (39, .func (.func 83) #[] #[]), (41, .agg #[vI p8.x, vI p8.lo, vI p8.hi]), (43, .func (.func 83) #[] #[])]) (obs := [.cell ⟨b9, 3, none⟩ (vI p8.x), .cell ⟨b9, 4, none⟩ (vI p8.lo), .cell ⟨b9, 5, none⟩ (vI p8.hi), .cell ⟨b5, 0, none⟩ (.func (.func 83) #[] #[])]) s1 (by kernel_rfl) hf65 (by kernel_rfl) (by kernel_rfl) (fun _ s => (.cell (s.box (i := 0) rfl (j := 3) rfl) (.cell (s.box (i := 0) rfl (j := 4) rfl) (.cell (s.box (i := 0) rfl (j := 5) rfl) (.cell (s.box (i := 6) rfl (j := 0) rfl) .nil))))) fun a61 hf66 => ?_
              refine p_firstP 1 [] [9, 10, 11, 12, 35, 37, 39, 41, 43, 44] (fl' := [(9, pB b7 0), (10, pB b9 0), (11, vI (if x1 > p7.x then x1 else p7.x)), (12, vI (if x2 < p8.x then x2 else p8.x)), (35, .func (.func 83) #[] #[]), (37, .agg #[vI p7.x, vI p7.lo, vI p7.hi]), (39, .func (.func 83) #[] #[]), (41, .agg #[vI p8.x, vI p8.lo, vI p8.hi]), (43, .func (.func 83) #[] #[]), (44, pB b9 0)]) (obs := []) hf66 (by kernel_rfl) (by kernel_rfl) (fun _ => .nil) fun a62 hf67 => ?_
              refine p_first 1 [vI p7.x, vI p7.lo, vI p7.hi] [9, 10, 11, 12, 35, 37, 39, 41, 43, 45] (fl' := [(9, pB b7 0), (10, pB b9 0), (11, vI (if x1 > p7.x then x1 else p7.x)), (12, vI (if x2 < p8.x then x2 else p8.x)), (35, .func (.func 83) #[] #[]), (37, .agg #[vI p7.x, vI p7.lo, vI p7.hi]), (39, .func (.func 83) #[] #[]), (41, .agg #[vI p8.x, vI p8.lo, vI p8.hi]), (43, .func (.func 83) #[] #[]), (45, .agg #[vI p7.x, vI p7.lo, vI p7.hi])]) (obs := [.cell ⟨b9, 0, none⟩ (vI p7.x), .cell ⟨b9, 1, none⟩ (vI p7.lo), .cell ⟨b9, 2, none⟩ (vI p7.hi)]) s1 (by kernel_rfl) hf67 (by kernel_rfl) (by kernel_rfl) (fun _ s => (.cell (s.box (i := 0) rfl (j := 0) rfl) (.cell (s.box (i := 0) rfl (j := 1) rfl) (.cell (s.box (i := 0) rfl (j := 2) rfl) .nil)))) fun a63 hf68 => ?_
              refine p_firstP 2 [] [9, 10, 11, 12, 35, 37, 39, 41, 43, 45, 49] (fl' := [(9, pB b7 0), (10, pB b9 0), (11, vI (if x1 > p7.x then x1 else p7.x)), (12, vI (if x2 < p8.x then x2 else p8.x)), (35, .func (.func 83) #[] #[]), (37, .agg #[vI p7.x, vI p7.lo, vI p7.hi]), (39, .func (.func 83) #[] #[]), (41, .agg #[vI p8.x, vI p8.lo, vI p8.hi]), (43, .func (.func 83) #[] #[]), (45, .agg #[vI p7.x, vI p7.lo, vI p7.hi]), (49, pB b9 3)]) (obs := []) hf68 (by kernel_rfl) (by kernel_rfl) (fun _ => .nil) fun a64 hf69 => ?_
              refine p_first 1 [vI p8.x] [9, 10, 11, 12, 35, 37, 39, 41, 43, 45, 50] (fl' := [(9, pB b7 0), (10, pB b9 0), (11, vI (if x1 > p7.x then x1 else p7.x)), (12, vI (if x2 < p8.x then x2 else p8.x)), (35, .func (.func 83) #[] #[]), (37, .agg #[vI p7.x, vI p7.lo, vI p7.hi]), (39, .func (.func 83) #[] #[]), (41, .agg #[vI p8.x, vI p8.lo, vI p8.hi]), (43, .func (.func 83) #[] #[]), (45, .agg #[vI p7.x, vI p7.lo, vI p7.hi]), (50, vI p8.x)]) (obs := [.cell ⟨b9, 3, none⟩ (vI p8.x)]) s1 (by kernel_rfl) hf69 (by kernel_rfl) (by kernel_rfl) (fun _ s => (.cell (s.box (i := 0) rfl (j := 3) rfl) .nil)) fun a65 hf70 => ?_
              refine p_firstP 2 [] [9, 10, 11, 12, 35, 37, 39, 41, 43, 45, 50, 52] (fl' := [(9, pB b7 0), (10, pB b9 0), (11, vI (if x1 > p7.x then x1 else p7.x)), (12, vI (if x2 < p8.x then x2 else p8.x)), (35, .func (.func 83) #[] #[]), (37, .agg #[vI p7.x, vI p7.lo, vI p7.hi]), (39, .func (.func 83) #[] #[]), (41, .agg #[vI p8.x, vI p8.lo, vI p8.hi]), (43, .func (.func 83) #[] #[]), (45, .agg #[vI p7.x, vI p7.lo, vI p7.hi]), (50, vI p8.x), (52, pB b9 0)]) (obs := []) hf70 (by kernel_rfl) (by kernel_rfl) (fun _ => .nil) fun a66 hf71 => ?_
              refine p_first 1 [vI p7.x] [9, 10, 11, 12, 35, 37, 39, 41, 43, 45, 50, 53] (fl' := [(9, pB b7 0), (10, pB b9 0), (11, vI (if x1 > p7.x then x1 else p7.x)), (12, vI (if x2 < p8.x then x2 else p8.x)), (35, .func (.func 83) #[] #[]), (37, .agg #[vI p7.x, vI p7.lo, vI p7.hi]), (39, .func (.func 83) #[] #[]), (41, .agg #[vI p8.x, vI p8.lo, vI p8.hi]), (43, .func (.func 83) #[] #[]), (45, .agg #[vI p7.x, vI p7.lo, vI p7.hi]), (50, vI p8.x), (53, vI p7.x)]) (obs := [.cell ⟨b9, 0, none⟩ (vI p7.x)]) s1 (by kernel_rfl) hf71 (by kernel_rfl) (by kernel_rfl) (fun _ s => (.cell (s.box (i := 0) rfl (j := 0) rfl) .nil)) fun a67 hf72 => ?_
              refine p_firstP 1 [] [9, 10, 11, 12, 35, 37, 39, 41, 43, 45, 54] (fl' := [(9, pB b7 0), (10, pB b9 0), (11, vI (if x1 > p7.x then x1 else p7.x)), (12, vI (if x2 < p8.x then x2 else p8.x)), (35, .func (.func 83) #[] #[]), (37, .agg #[vI p7.x, vI p7.lo, vI p7.hi]), (39, .func (.func 83) #[] #[]), (41, .agg #[vI p8.x, vI p8.lo, vI p8.hi]), (43, .func (.func 83) #[] #[]), (45, .agg #[vI p7.x, vI p7.lo, vI p7.hi]), (54, vI (w64 (p8.x - p7.x)))]) (obs := []) hf72 (by kernel_rfl) (by kernel_rfl) (fun _ => .nil) fun a68 hf73 => ?_
              obtain ⟨r21, hd3, hr15⟩ := bind_some hr14
              refine p_call (i := 3) (d := some 38) (f := 83) (args := #[.agg #[vI p7.x, vI p7.lo, vI p7.hi]]) hf73 (by kernel_rfl) (f83_ok fuel p7.x p7.lo p7.hi r21 hd3 z2 _ _ hS24 ) ?_
              rintro v3 ww21 a69 ⟨rfl, hS25⟩ hf74
              refine ⟨fun _ => Sub.of (Zone.le_refl _) hS25, ?_⟩
              have s2 : Sub z2 (box b9 [vI p7.x, vI p7.lo, vI p7.hi, vI p8.x, vI p8.lo, vI p8.hi] 127 :: loopA l1 94 [(5, pB b3 0), (6, pB b4 0), (7, pB b5 0), (8, pB b6 0), (9, pB b7 0), (20, .func (.func 130) #[] #[pB b8 0])] ps1 A1 B1 D1 .busy none :: defA D1 :: box b8 [.slice o_x0 x0.length c_x0] 24 :: box b7 [vI 0, vI 0, vI 1] 95 :: box b6 [vI 0, vI 0, vI 0] 95 :: box b5 [.func (.func 83) #[] #[]] 97 :: box b4 [vI x2] 3 :: box b3 [vI x1] 3 :: box b2 [.slice o_x0 x0.length c_x0] 24 :: box b1 [.slice o_x0 x0.length c_x0] 24 :: L) _ := Sub.of (Zone.le_refl _) hS25
              obtain ⟨r22, hd4, hr16⟩ := bind_some hr15
              refine p_call (i := 7) (d := some 42) (f := 83) (args := #[.agg #[vI p8.x, vI p8.lo, vI p8.hi]]) hf74 (by kernel_rfl) (f83_ok fuel p8.x p8.lo p8.hi r22 hd4 z2 _ _ hS25 ) ?_
              rintro v4 ww22 a70 ⟨rfl, hS26⟩ hf75
              refine ⟨fun _ => Sub.of (Zone.le_refl _) hS26, ?_⟩
              have s3 : Sub z2 (box b9 [vI p7.x, vI p7.lo, vI p7.hi, vI p8.x, vI p8.lo, vI p8.hi] 127 :: loopA l1 94 [(5, pB b3 0), (6, pB b4 0), (7, pB b5 0), (8, pB b6 0), (9, pB b7 0), (20, .func (.func 130) #[] #[pB b8 0])] ps1 A1 B1 D1 .busy none :: defA D1 :: box b8 [.slice o_x0 x0.length c_x0] 24 :: box b7 [vI 0, vI 0, vI 1] 95 :: box b6 [vI 0, vI 0, vI 0] 95 :: box b5 [.func (.func 83) #[] #[]] 97 :: box b4 [vI x2] 3 :: box b3 [vI x1] 3 :: box b2 [.slice o_x0 x0.length c_x0] 24 :: box b1 [.slice o_x0 x0.length c_x0] 24 :: L) _ := Sub.of (Zone.le_refl _) hS26
              obtain ⟨r23, hd5, hr17⟩ := bind_some hr16
              refine p_call (i := 11) (d := some 46) (f := 83) (args := #[.agg #[vI p7.x, vI p7.lo, vI p7.hi]]) hf75 (by kernel_rfl) (f83_ok fuel p7.x p7.lo p7.hi r23 hd5 z2 _ _ hS26 ) ?_
              rintro v5 ww23 a71 ⟨rfl, hS27⟩ hf76
              refine ⟨fun _ => Sub.of (Zone.le_refl _) hS27, ?_⟩
              have s4 : Sub z2 (box b9 [vI p7.x, vI p7.lo, vI p7.hi, vI p8.x, vI p8.lo, vI p8.hi] 127 :: loopA l1 94 [(5, pB b3 0), (6, pB b4 0), (7, pB b5 0), (8, pB b6 0), (9, pB b7 0), (20, .func (.func 130) #[] #[pB b8 0])] ps1 A1 B1 D1 .busy none :: defA D1 :: box b8 [.slice o_x0 x0.length c_x0] 24 :: box b7 [vI 0, vI 0, vI 1] 95 :: box b6 [vI 0, vI 0, vI 0] 95 :: box b5 [.func (.func 83) #[] #[]] 97 :: box b4 [vI x2] 3 :: box b3 [vI x1] 3 :: box b2 [.slice o_x0 x0.length c_x0] 24 :: box b1 [.slice o_x0 x0.length c_x0] 24 :: L) _ := Sub.of (Zone.le_refl _) hS27
              refine p_firstP 4 [] [9, 10, 11, 12, 13, 14, 15] (fl' := [(9, pB b7 0), (10, pB b9 0), (11, vI (if x1 > p7.x then x1 else p7.x)), (12, vI (if x2 < p8.x then x2 else p8.x)), (13, vI r21), (14, vI (w64 (r22 - r23))), (15, vI (w64 (p8.x - p7.x)))]) (obs := []) hf76 (by kernel_rfl) (by kernel_rfl) (fun _ => .nil) fun a72 hf77 => ?_
              refine p_done (by kernel_rfl) ?_
              refine n_then ?_
              refine w_seq (by kernel_rfl) ?_
              refine w_reg (by kernel_rfl) ?_
              refine p_run 13 [vI p7.x] [9, 11, 12, 13, 14, 15, 16] (fl' := [(9, pB b7 0), (11, vI (if x1 > p7.x then x1 else p7.x)), (12, vI (if x2 < p8.x then x2 else p8.x)), (13, vI r21), (14, vI (w64 (r22 - r23))), (15, vI (w64 (p8.x - p7.x))), (16, vI (w64 ((w64 ((if x2 < p8.x then x2 else p8.x) - (if x1 > p7.x then x1 else p7.x))) * (w64 ((w64 ((if x1 > p7.x then x1 else p7.x) + (if x2 < p8.x then x2 else p8.x))) - (w64 ((2 : Int) * p7.x)))))))]) (obs := [.cell ⟨b9, 0, none⟩ (vI p7.x)]) trivial hf77 (by kernel_rfl) (by kernel_rfl) (.cell (hS27.box (i := 0) rfl (j := 0) rfl) .nil) fun a73 hf78 => ?_
              refine p_done (by kernel_rfl) ?_
              refine n_then ?_
              refine w_seq (by kernel_rfl) ?_
              refine w_reg (by kernel_rfl) ?_
              refine p_run 2 [] [9, 11, 12, 13, 14, 15, 16, 67, 68] (fl' := [(9, pB b7 0), (11, vI (if x1 > p7.x then x1 else p7.x)), (12, vI (if x2 < p8.x then x2 else p8.x)), (13, vI r21), (14, vI (w64 (r22 - r23))), (15, vI (w64 (p8.x - p7.x))), (16, vI (w64 ((w64 ((if x2 < p8.x then x2 else p8.x) - (if x1 > p7.x then x1 else p7.x))) * (w64 ((w64 ((if x1 > p7.x then x1 else p7.x) + (if x2 < p8.x then x2 else p8.x))) - (w64 ((2 : Int) * p7.x))))))), (67, vI (w64 (r22 - r23))), (68, vI (w64 (p8.x - p7.x)))]) (obs := []) trivial hf78 (by kernel_rfl) (by kernel_rfl) .nil fun a74 hf79 => ?_
              obtain ⟨r24, hd6, hr18⟩ := bind_some hr17
              refine p_call (i := 2) (d := some 69) (f := 85) (args := #[vI (w64 (r22 - r23)), vI (w64 (p8.x - p7.x))]) hf79 (by kernel_rfl) (f85_ok fuel (w64 (r22 - r23)) (w64 (p8.x - p7.x)) r24 hd6 z2 _ _ hS27 ) ?_
              rintro v6 ww24 a75 ⟨rfl, hS28⟩ hf80
              refine ⟨fun _ => trivial, ?_⟩
              refine p_run 1 [] [9, 11, 12, 13, 14, 15, 16, 17] (fl' := [(9, pB b7 0), (11, vI (if x1 > p7.x then x1 else p7.x)), (12, vI (if x2 < p8.x then x2 else p8.x)), (13, vI r21), (14, vI (w64 (r22 - r23))), (15, vI (w64 (p8.x - p7.x))), (16, vI (w64 ((w64 ((if x2 < p8.x then x2 else p8.x) - (if x1 > p7.x then x1 else p7.x))) * (w64 ((w64 ((if x1 > p7.x then x1 else p7.x) + (if x2 < p8.x then x2 else p8.x))) - (w64 ((2 : Int) * p7.x))))))), (17, vI r24)]) (obs := []) trivial hf80 (by kernel_rfl) (by kernel_rfl) .nil fun a76 hf81 => ?_
              refine p_done (by kernel_rfl) ?_
              refine n_then ?_
              refine w_seq (by kernel_rfl) ?_
              refine w_reg (by kernel_rfl) ?_
              refine p_run 14 [vI 0] [9, 14, 15, 16, 17, 82, 83] (fl' := [(9, pB b7 0), (14, vI (w64 (r22 - r23))), (15, vI (w64 (p8.x - p7.x))), (16, vI (w64 ((w64 ((if x2 < p8.x then x2 else p8.x) - (if x1 > p7.x then x1 else p7.x))) * (w64 ((w64 ((if x1 > p7.x then x1 else p7.x) + (if x2 < p8.x then x2 else p8.x))) - (w64 ((2 : Int) * p7.x))))))), (17, vI r24), (82, vI (w64 ((0 : Int) + (w64 ((w64 ((w64 ((2 : Int) * r21)) * (w64 ((if x2 < p8.x then x2 else p8.x) - (if x1 > p7.x then x1 else p7.x))))) + (w64 (r24 * (w64 ((w64 ((if x2 < p8.x then x2 else p8.x) - (if x1 > p7.x then x1 else p7.x))) * (w64 ((w64 ((if x1 > p7.x then x1 else p7.x) + (if x2 < p8.x then x2 else p8.x))) - (w64 ((2 : Int) * p7.x))))))))))))), (83, pB b7 0)]) (obs := [.cell ⟨b7, 0, none⟩ (vI 0)]) trivial hf81 (by kernel_rfl) (by kernel_rfl) (.cell (hS28.box (i := 4) rfl (j := 0) rfl) .nil) fun a77 hf82 => ?_
              refine p_store_eq (i := 14) (j := 4) (b := b7) (off := 0) (vs := [vI (w64 ((0 : Int) + (w64 ((w64 ((w64 ((2 : Int) * r21)) * (w64 ((if x2 < p8.x then x2 else p8.x) - (if x1 > p7.x then x1 else p7.x))))) + (w64 (r24 * (w64 ((w64 ((if x2 < p8.x then x2 else p8.x) - (if x1 > p7.x then x1 else p7.x))) * (w64 ((w64 ((if x1 > p7.x then x1 else p7.x) + (if x2 < p8.x then x2 else p8.x))) - (w64 ((2 : Int) * p7.x))))))))))))]) (cs' := [vI (w64 ((0 : Int) + (w64 ((w64 ((w64 ((2 : Int) * r21)) * (w64 ((if x2 < p8.x then x2 else p8.x) - (if x1 > p7.x then x1 else p7.x))))) + (w64 (r24 * (w64 ((w64 ((if x2 < p8.x then x2 else p8.x) - (if x1 > p7.x then x1 else p7.x))) * (w64 ((w64 ((if x1 > p7.x then x1 else p7.x) + (if x2 < p8.x then x2 else p8.x))) - (w64 ((2 : Int) * p7.x)))))))))))), vI 0, vI 1]) hS28 hf82 rfl (by kernel_rfl) (by kernel_rfl) rfl fun ww25 a78 hS29 hf83 => ⟨fun _ => trivial, ?_⟩
              refine p_done (by kernel_rfl) ?_
              refine n_then ?_
              refine w_reg (by kernel_rfl) ?_
              refine p_run 8 [] [9, 90, 91] (fl' := [(9, pB b7 0), (90, vI (w64 ((w64 ((w64 (r22 - r23)) - (w64 (r24 * (w64 (p8.x - p7.x)))))) * (w64 ((w64 ((if x2 < p8.x then x2 else p8.x) - (if x1 > p7.x then x1 else p7.x))) * (w64 ((w64 ((if x1 > p7.x then x1 else p7.x) + (if x2 < p8.x then x2 else p8.x))) - (w64 ((2 : Int) * p7.x))))))))), (91, vI (w64 (p8.x - p7.x)))]) (obs := []) trivial hf83 (by kernel_rfl) (by kernel_rfl) .nil fun a79 hf84 => ?_
              refine p_call (i := 8) (d := some 92) (f := 119) (args := #[pB b7 0, vI (w64 ((w64 ((w64 (r22 - r23)) - (w64 (r24 * (w64 (p8.x - p7.x)))))) * (w64 ((w64 ((if x2 < p8.x then x2 else p8.x) - (if x1 > p7.x then x1 else p7.x))) * (w64 ((w64 ((if x1 > p7.x then x1 else p7.x) + (if x2 < p8.x then x2 else p8.x))) - (w64 ((2 : Int) * p7.x)))))))), vI (w64 (p8.x - p7.x))]) hf84 (by kernel_rfl) (Φ := fun v w => ∃ z5 : Zone, ∃ y20 : Int, ∃ y21 : Int, ∃ y22 : Int, Zone.le z2 z5 ∧ v = .tuple #[] ∧ St z5 (box b9 [vI p7.x, vI p7.lo, vI p7.hi, vI p8.x, vI p8.lo, vI p8.hi] 127 :: loopA l1 94 [(5, pB b3 0), (6, pB b4 0), (7, pB b5 0), (8, pB b6 0), (9, pB b7 0), (20, .func (.func 130) #[] #[pB b8 0])] ps1 A1 B1 D1 .busy none :: defA D1 :: box b8 [.slice o_x0 x0.length c_x0] 24 :: box b7 [vI y20, vI y21, vI y22] 95 :: box b6 [vI 0, vI 0, vI 0] 95 :: box b5 [.func (.func 83) #[] #[]] 97 :: box b4 [vI x2] 3 :: box b3 [vI x1] 3 :: box b2 [.slice o_x0 x0.length c_x0] 24 :: box b1 [.slice o_x0 x0.length c_x0] 24 :: L) w ∧ (F18_j3 fuel x0 x1 x2 y20 y21 y22) = some r) ?_ ?_
              · refine calls_intro (N := 51) Try.func119 (by kernel_rfl) fun a80 hf85 => ?_
                refine w_seq (by kernel_rfl) ?_
                have hS30 := hS29.drew
                have s5 : Sub z2 (box b9 [vI p7.x, vI p7.lo, vI p7.hi, vI p8.x, vI p8.lo, vI p8.hi] 127 :: loopA l1 94 [(5, pB b3 0), (6, pB b4 0), (7, pB b5 0), (8, pB b6 0), (9, pB b7 0), (20, .func (.func 130) #[] #[pB b8 0])] ps1 A1 B1 D1 .busy none :: defA D1 :: box b8 [.slice o_x0 x0.length c_x0] 24 :: box b7 [vI (w64 ((0 : Int) + (w64 ((w64 ((w64 ((2 : Int) * r21)) * (w64 ((if x2 < p8.x then x2 else p8.x) - (if x1 > p7.x then x1 else p7.x))))) + (w64 (r24 * (w64 ((w64 ((if x2 < p8.x then x2 else p8.x) - (if x1 > p7.x then x1 else p7.x))) * (w64 ((w64 ((if x1 > p7.x then x1 else p7.x) + (if x2 < p8.x then x2 else p8.x))) - (w64 ((2 : Int) * p7.x)))))))))))), vI 0, vI 1] 95 :: box b6 [vI 0, vI 0, vI 0] 95 :: box b5 [.func (.func 83) #[] #[]] 97 :: box b4 [vI x2] 3 :: box b3 [vI x1] 3 :: box b2 [.slice o_x0 x0.length c_x0] 24 :: box b1 [.slice o_x0 x0.length c_x0] 24 :: L) _ := Sub.of (Zone.le_refl _) hS30
                refine w_regD (by kernel_rfl) [(0, true), (1, true), (2, true), (3, true), (4, true), (5, true), (6, false), (7, true), (8, true), (9, true), (10, false)] [10] (Sub z2 (box b9 [vI p7.x, vI p7.lo, vI p7.hi, vI p8.x, vI p8.lo, vI p8.hi] 127 :: loopA l1 94 [(5, pB b3 0), (6, pB b4 0), (7, pB b5 0), (8, pB b6 0), (9, pB b7 0), (20, .func (.func 130) #[] #[pB b8 0])] ps1 A1 B1 D1 .busy none :: defA D1 :: box b8 [.slice o_x0 x0.length c_x0] 24 :: box b7 [vI (w64 ((0 : Int) + (w64 ((w64 ((w64 ((2 : Int) * r21)) * (w64 ((if x2 < p8.x then x2 else p8.x) - (if x1 > p7.x then x1 else p7.x))))) + (w64 (r24 * (w64 ((w64 ((if x2 < p8.x then x2 else p8.x) - (if x1 > p7.x then x1 else p7.x))) * (w64 ((w64 ((if x1 > p7.x then x1 else p7.x) + (if x2 < p8.x then x2 else p8.x))) - (w64 ((2 : Int) * p7.x)))))))))))), vI 0, vI 1] 95 :: box b6 [vI 0, vI 0, vI 0] 95 :: box b5 [.func (.func 83) #[] #[]] 97 :: box b4 [vI x2] 3 :: box b3 [vI x1] 3 :: box b2 [.slice o_x0 x0.length c_x0] 24 :: box b1 [.slice o_x0 x0.length c_x0] 24 :: L)) (by kernel_rfl) s5 ?_
                refine p_firstP 3 [] [0, 1, 2, 7, 9] (fl' := [(0, pB b7 0), (1, vI (w64 ((w64 ((w64 (r22 - r23)) - (w64 (r24 * (w64 (p8.x - p7.x)))))) * (w64 ((w64 ((if x2 < p8.x then x2 else p8.x) - (if x1 > p7.x then x1 else p7.x))) * (w64 ((w64 ((if x1 > p7.x then x1 else p7.x) + (if x2 < p8.x then x2 else p8.x))) - (w64 ((2 : Int) * p7.x))))))))), (2, vI (w64 (p8.x - p7.x))), (7, pB b7 0), (9, pB b7 0)]) (obs := []) hf85 (by kernel_rfl) (by kernel_rfl) (fun _ => .nil) fun a81 hf86 => ?_
                refine p_first 1 [vI (w64 ((0 : Int) + (w64 ((w64 ((w64 ((2 : Int) * r21)) * (w64 ((if x2 < p8.x then x2 else p8.x) - (if x1 > p7.x then x1 else p7.x))))) + (w64 (r24 * (w64 ((w64 ((if x2 < p8.x then x2 else p8.x) - (if x1 > p7.x then x1 else p7.x))) * (w64 ((w64 ((if x1 > p7.x then x1 else p7.x) + (if x2 < p8.x then x2 else p8.x))) - (w64 ((2 : Int) * p7.x))))))))))))] [0, 1, 2, 7, 10] (fl' := [(0, pB b7 0), (1, vI (w64 ((w64 ((w64 (r22 - r23)) - (w64 (r24 * (w64 (p8.x - p7.x)))))) * (w64 ((w64 ((if x2 < p8.x then x2 else p8.x) - (if x1 > p7.x then x1 else p7.x))) * (w64 ((w64 ((if x1 > p7.x then x1 else p7.x) + (if x2 < p8.x then x2 else p8.x))) - (w64 ((2 : Int) * p7.x))))))))), (2, vI (w64 (p8.x - p7.x))), (7, pB b7 0), (10, vI (w64 ((0 : Int) + (w64 ((w64 ((w64 ((2 : Int) * r21)) * (w64 ((if x2 < p8.x then x2 else p8.x) - (if x1 > p7.x then x1 else p7.x))))) + (w64 (r24 * (w64 ((w64 ((if x2 < p8.x then x2 else p8.x) - (if x1 > p7.x then x1 else p7.x))) * (w64 ((w64 ((if x1 > p7.x then x1 else p7.x) + (if x2 < p8.x then x2 else p8.x))) - (w64 ((2 : Int) * p7.x)))))))))))))]) (obs := [.cell ⟨b7, 0, none⟩ (vI (w64 ((0 : Int) + (w64 ((w64 ((w64 ((2 : Int) * r21)) * (w64 ((if x2 < p8.x then x2 else p8.x) - (if x1 > p7.x then x1 else p7.x))))) + (w64 (r24 * (w64 ((w64 ((if x2 < p8.x then x2 else p8.x) - (if x1 > p7.x then x1 else p7.x))) * (w64 ((w64 ((if x1 > p7.x then x1 else p7.x) + (if x2 < p8.x then x2 else p8.x))) - (w64 ((2 : Int) * p7.x)))))))))))))]) s5 (by kernel_rfl) hf86 (by kernel_rfl) (by kernel_rfl) (fun _ s => (.cell (s.box (i := 4) rfl (j := 0) rfl) .nil)) fun a82 hf87 => ?_
                refine p_firstP 2 [] [0, 1, 2, 7, 10, 11, 12] (fl' := [(0, pB b7 0), (1, vI (w64 ((w64 ((w64 (r22 - r23)) - (w64 (r24 * (w64 (p8.x - p7.x)))))) * (w64 ((w64 ((if x2 < p8.x then x2 else p8.x) - (if x1 > p7.x then x1 else p7.x))) * (w64 ((w64 ((if x1 > p7.x then x1 else p7.x) + (if x2 < p8.x then x2 else p8.x))) - (w64 ((2 : Int) * p7.x))))))))), (2, vI (w64 (p8.x - p7.x))), (7, pB b7 0), (10, vI (w64 ((0 : Int) + (w64 ((w64 ((w64 ((2 : Int) * r21)) * (w64 ((if x2 < p8.x then x2 else p8.x) - (if x1 > p7.x then x1 else p7.x))))) + (w64 (r24 * (w64 ((w64 ((if x2 < p8.x then x2 else p8.x) - (if x1 > p7.x then x1 else p7.x))) * (w64 ((w64 ((if x1 > p7.x then x1 else p7.x) + (if x2 < p8.x then x2 else p8.x))) - (w64 ((2 : Int) * p7.x))))))))))))), (11, vI (w64 ((w64 ((w64 (r22 - r23)) - (w64 (r24 * (w64 (p8.x - p7.x)))))) * (w64 ((w64 ((if x2 < p8.x then x2 else p8.x) - (if x1 > p7.x then x1 else p7.x))) * (w64 ((w64 ((if x1 > p7.x then x1 else p7.x) + (if x2 < p8.x then x2 else p8.x))) - (w64 ((2 : Int) * p7.x))))))))), (12, vI (w64 (p8.x - p7.x)))]) (obs := []) hf87 (by kernel_rfl) (by kernel_rfl) (fun _ => .nil) fun a83 hf88 => ?_
                obtain ⟨r25, hd7, hr19⟩ := bind_some hr18
                refine p_call (i := 6) (d := some 13) (f := 85) (args := #[vI (w64 ((w64 ((w64 (r22 - r23)) - (w64 (r24 * (w64 (p8.x - p7.x)))))) * (w64 ((w64 ((if x2 < p8.x then x2 else p8.x) - (if x1 > p7.x then x1 else p7.x))) * (w64 ((w64 ((if x1 > p7.x then x1 else p7.x) + (if x2 < p8.x then x2 else p8.x))) - (w64 ((2 : Int) * p7.x)))))))), vI (w64 (p8.x - p7.x))]) hf88 (by kernel_rfl) (f85_ok fuel (w64 ((w64 ((w64 (r22 - r23)) - (w64 (r24 * (w64 (p8.x - p7.x)))))) * (w64 ((w64 ((if x2 < p8.x then x2 else p8.x) - (if x1 > p7.x then x1 else p7.x))) * (w64 ((w64 ((if x1 > p7.x then x1 else p7.x) + (if x2 < p8.x then x2 else p8.x))) - (w64 ((2 : Int) * p7.x)))))))) (w64 (p8.x - p7.x)) r25 hd7 z2 _ _ hS30 ) ?_
                rintro v7 ww26 a84 ⟨rfl, hS31⟩ hf89
                refine ⟨fun _ => Sub.of (Zone.le_refl _) hS31, ?_⟩
                have s6 : Sub z2 (box b9 [vI p7.x, vI p7.lo, vI p7.hi, vI p8.x, vI p8.lo, vI p8.hi] 127 :: loopA l1 94 [(5, pB b3 0), (6, pB b4 0), (7, pB b5 0), (8, pB b6 0), (9, pB b7 0), (20, .func (.func 130) #[] #[pB b8 0])] ps1 A1 B1 D1 .busy none :: defA D1 :: box b8 [.slice o_x0 x0.length c_x0] 24 :: box b7 [vI (w64 ((0 : Int) + (w64 ((w64 ((w64 ((2 : Int) * r21)) * (w64 ((if x2 < p8.x then x2 else p8.x) - (if x1 > p7.x then x1 else p7.x))))) + (w64 (r24 * (w64 ((w64 ((if x2 < p8.x then x2 else p8.x) - (if x1 > p7.x then x1 else p7.x))) * (w64 ((w64 ((if x1 > p7.x then x1 else p7.x) + (if x2 < p8.x then x2 else p8.x))) - (w64 ((2 : Int) * p7.x)))))))))))), vI 0, vI 1] 95 :: box b6 [vI 0, vI 0, vI 0] 95 :: box b5 [.func (.func 83) #[] #[]] 97 :: box b4 [vI x2] 3 :: box b3 [vI x1] 3 :: box b2 [.slice o_x0 x0.length c_x0] 24 :: box b1 [.slice o_x0 x0.length c_x0] 24 :: L) _ := Sub.of (Zone.le_refl _) hS31
                refine p_firstP 3 [] [0, 1, 2, 14, 16] (fl' := [(0, pB b7 0), (1, vI (w64 ((w64 ((w64 (r22 - r23)) - (w64 (r24 * (w64 (p8.x - p7.x)))))) * (w64 ((w64 ((if x2 < p8.x then x2 else p8.x) - (if x1 > p7.x then x1 else p7.x))) * (w64 ((w64 ((if x1 > p7.x then x1 else p7.x) + (if x2 < p8.x then x2 else p8.x))) - (w64 ((2 : Int) * p7.x))))))))), (2, vI (w64 (p8.x - p7.x))), (14, vI (w64 ((w64 ((0 : Int) + (w64 ((w64 ((w64 ((2 : Int) * r21)) * (w64 ((if x2 < p8.x then x2 else p8.x) - (if x1 > p7.x then x1 else p7.x))))) + (w64 (r24 * (w64 ((w64 ((if x2 < p8.x then x2 else p8.x) - (if x1 > p7.x then x1 else p7.x))) * (w64 ((w64 ((if x1 > p7.x then x1 else p7.x) + (if x2 < p8.x then x2 else p8.x))) - (w64 ((2 : Int) * p7.x)))))))))))) + r25))), (16, pB b7 0)]) (obs := []) hf89 (by kernel_rfl) (by kernel_rfl) (fun _ => .nil) fun a85 hf90 => ?_
                refine p_store_eq (i := 10) (j := 4) (b := b7) (off := 0) (vs := [vI (w64 ((w64 ((0 : Int) + (w64 ((w64 ((w64 ((2 : Int) * r21)) * (w64 ((if x2 < p8.x then x2 else p8.x) - (if x1 > p7.x then x1 else p7.x))))) + (w64 (r24 * (w64 ((w64 ((if x2 < p8.x then x2 else p8.x) - (if x1 > p7.x then x1 else p7.x))) * (w64 ((w64 ((if x1 > p7.x then x1 else p7.x) + (if x2 < p8.x then x2 else p8.x))) - (w64 ((2 : Int) * p7.x)))))))))))) + r25))]) (cs' := [vI (w64 ((w64 ((0 : Int) + (w64 ((w64 ((w64 ((2 : Int) * r21)) * (w64 ((if x2 < p8.x then x2 else p8.x) - (if x1 > p7.x then x1 else p7.x))))) + (w64 (r24 * (w64 ((w64 ((if x2 < p8.x then x2 else p8.x) - (if x1 > p7.x then x1 else p7.x))) * (w64 ((w64 ((if x1 > p7.x then x1 else p7.x) + (if x2 < p8.x then x2 else p8.x))) - (w64 ((2 : Int) * p7.x)))))))))))) + r25)), vI 0, vI 1]) hS31 hf90 rfl (by kernel_rfl) (by kernel_rfl) rfl fun ww27 a86 hS32 hf91 => ⟨fun e => absurd e (by decide), ?_⟩
                refine p_done (by kernel_rfl) ?_
                refine n_then ?_
                refine w_seq (by kernel_rfl) ?_
                refine w_reg (by kernel_rfl) ?_
                refine p_run 3 [] [0, 2, 17, 18, 19] (fl' := [(0, pB b7 0), (2, vI (w64 (p8.x - p7.x))), (17, vI (w64 ((w64 ((w64 (r22 - r23)) - (w64 (r24 * (w64 (p8.x - p7.x)))))) * (w64 ((w64 ((if x2 < p8.x then x2 else p8.x) - (if x1 > p7.x then x1 else p7.x))) * (w64 ((w64 ((if x1 > p7.x then x1 else p7.x) + (if x2 < p8.x then x2 else p8.x))) - (w64 ((2 : Int) * p7.x))))))))), (18, vI (w64 ((w64 ((w64 (r22 - r23)) - (w64 (r24 * (w64 (p8.x - p7.x)))))) * (w64 ((w64 ((if x2 < p8.x then x2 else p8.x) - (if x1 > p7.x then x1 else p7.x))) * (w64 ((w64 ((if x1 > p7.x then x1 else p7.x) + (if x2 < p8.x then x2 else p8.x))) - (w64 ((2 : Int) * p7.x))))))))), (19, vI (w64 (p8.x - p7.x)))]) (obs := []) trivial hf91 (by kernel_rfl) (by kernel_rfl) .nil fun a87 hf92 => ?_
                obtain ⟨r26, hd8, hr20⟩ := bind_some hr19
                refine p_call (i := 3) (d := some 20) (f := 85) (args := #[vI (w64 ((w64 ((w64 (r22 - r23)) - (w64 (r24 * (w64 (p8.x - p7.x)))))) * (w64 ((w64 ((if x2 < p8.x then x2 else p8.x) - (if x1 > p7.x then x1 else p7.x))) * (w64 ((w64 ((if x1 > p7.x then x1 else p7.x) + (if x2 < p8.x then x2 else p8.x))) - (w64 ((2 : Int) * p7.x)))))))), vI (w64 (p8.x - p7.x))]) hf92 (by kernel_rfl) (f85_ok fuel (w64 ((w64 ((w64 (r22 - r23)) - (w64 (r24 * (w64 (p8.x - p7.x)))))) * (w64 ((w64 ((if x2 < p8.x then x2 else p8.x) - (if x1 > p7.x then x1 else p7.x))) * (w64 ((w64 ((if x1 > p7.x then x1 else p7.x) + (if x2 < p8.x then x2 else p8.x))) - (w64 ((2 : Int) * p7.x)))))))) (w64 (p8.x - p7.x)) r26 hd8 z2 _ _ hS32 ) ?_
                rintro v8 ww28 a88 ⟨rfl, hS33⟩ hf93
                refine ⟨fun _ => trivial, ?_⟩
                refine p_run 4 [] [0, 2, 6] (fl' := [(0, pB b7 0), (2, vI (w64 (p8.x - p7.x))), (6, vI (w64 ((w64 ((w64 ((w64 (r22 - r23)) - (w64 (r24 * (w64 (p8.x - p7.x)))))) * (w64 ((w64 ((if x2 < p8.x then x2 else p8.x) - (if x1 > p7.x then x1 else p7.x))) * (w64 ((w64 ((if x1 > p7.x then x1 else p7.x) + (if x2 < p8.x then x2 else p8.x))) - (w64 ((2 : Int) * p7.x)))))))) - (w64 (r26 * (w64 (p8.x - p7.x)))))))]) (obs := []) trivial hf93 (by kernel_rfl) (by kernel_rfl) .nil fun a89 hf94 => ?_
                refine p_done (by kernel_rfl) ?_
                refine n_then ?_
                refine w_seq (by kernel_rfl) ?_
                refine w_reg (by kernel_rfl) ?_
                refine p_run 2 [] [0, 2, 6, 25] (fl' := [(0, pB b7 0), (2, vI (w64 (p8.x - p7.x))), (6, vI (w64 ((w64 ((w64 ((w64 (r22 - r23)) - (w64 (r24 * (w64 (p8.x - p7.x)))))) * (w64 ((w64 ((if x2 < p8.x then x2 else p8.x) - (if x1 > p7.x then x1 else p7.x))) * (w64 ((w64 ((if x1 > p7.x then x1 else p7.x) + (if x2 < p8.x then x2 else p8.x))) - (w64 ((2 : Int) * p7.x)))))))) - (w64 (r26 * (w64 (p8.x - p7.x))))))), (25, .bool (decide ((w64 ((w64 ((w64 ((w64 (r22 - r23)) - (w64 (r24 * (w64 (p8.x - p7.x)))))) * (w64 ((w64 ((if x2 < p8.x then x2 else p8.x) - (if x1 > p7.x then x1 else p7.x))) * (w64 ((w64 ((if x1 > p7.x then x1 else p7.x) + (if x2 < p8.x then x2 else p8.x))) - (w64 ((2 : Int) * p7.x)))))))) - (w64 (r26 * (w64 (p8.x - p7.x)))))) > (0 : Int))))]) (obs := []) trivial hf94 (by kernel_rfl) (by kernel_rfl) .nil fun a90 hf95 => ?_
                refine p_done (by kernel_rfl) ?_
                refine n_then ?_
                refine w_if hf95 (b := (decide ((w64 ((w64 ((w64 ((w64 (r22 - r23)) - (w64 (r24 * (w64 (p8.x - p7.x)))))) * (w64 ((w64 ((if x2 < p8.x then x2 else p8.x) - (if x1 > p7.x then x1 else p7.x))) * (w64 ((w64 ((if x1 > p7.x then x1 else p7.x) + (if x2 < p8.x then x2 else p8.x))) - (w64 ((2 : Int) * p7.x)))))))) - (w64 (r26 * (w64 (p8.x - p7.x)))))) > (0 : Int)))) (by kernel_rfl) (fun hb8 => ?_) (fun hb8 => ?_)
                · have hr21 := cond_t hb8 hr20
                  have hS34 := hS33.drew
                  refine w_regD (by kernel_rfl) [(0, true), (1, true), (2, true), (3, true), (4, true), (5, true), (6, true), (7, true), (8, true), (9, true), (10, true), (11, true), (12, true), (13, true), (14, true), (15, true), (16, true), (17, true), (18, true), (19, true), (20, true), (21, true), (22, true), (23, false), (24, true), (25, true), (26, false)] [23, 26] (fun x => x = ww28.drew) (by kernel_rfl) rfl ?_
                  refine p_firstP 5 [] [0, 2, 6, 26, 27, 30] (fl' := [(0, pB b7 0), (2, vI (w64 (p8.x - p7.x))), (6, vI (w64 ((w64 ((w64 ((w64 (r22 - r23)) - (w64 (r24 * (w64 (p8.x - p7.x)))))) * (w64 ((w64 ((if x2 < p8.x then x2 else p8.x) - (if x1 > p7.x then x1 else p7.x))) * (w64 ((w64 ((if x1 > p7.x then x1 else p7.x) + (if x2 < p8.x then x2 else p8.x))) - (w64 ((2 : Int) * p7.x)))))))) - (w64 (r26 * (w64 (p8.x - p7.x))))))), (26, pB b7 0), (27, pB b7 0), (30, pB b7 1)]) (obs := []) hf95 (by kernel_rfl) (by kernel_rfl) (fun _ => .nil) fun a91 hf96 => ?_
                  refine p_firstE 1 [vI 0] [0, 2, 6, 26, 27, 31] (fl' := [(0, pB b7 0), (2, vI (w64 (p8.x - p7.x))), (6, vI (w64 ((w64 ((w64 ((w64 (r22 - r23)) - (w64 (r24 * (w64 (p8.x - p7.x)))))) * (w64 ((w64 ((if x2 < p8.x then x2 else p8.x) - (if x1 > p7.x then x1 else p7.x))) * (w64 ((w64 ((if x1 > p7.x then x1 else p7.x) + (if x2 < p8.x then x2 else p8.x))) - (w64 ((2 : Int) * p7.x)))))))) - (w64 (r26 * (w64 (p8.x - p7.x))))))), (26, pB b7 0), (27, pB b7 0), (31, vI 0)]) (obs := [.cell ⟨b7, 1, none⟩ (vI 0)]) (by kernel_rfl) hf96 (by kernel_rfl) (by kernel_rfl) (.cell (hS34.box (i := 4) rfl (j := 1) rfl) .nil) fun a92 hf97 => ?_
                  refine p_firstP 6 [] [0, 2, 26, 27, 33, 34, 37] (fl' := [(0, pB b7 0), (2, vI (w64 (p8.x - p7.x))), (26, pB b7 0), (27, pB b7 0), (33, vI (w64 ((0 : Int) * (w64 (p8.x - p7.x))))), (34, vI (w64 ((w64 ((w64 ((w64 (r22 - r23)) - (w64 (r24 * (w64 (p8.x - p7.x)))))) * (w64 ((w64 ((if x2 < p8.x then x2 else p8.x) - (if x1 > p7.x then x1 else p7.x))) * (w64 ((w64 ((if x1 > p7.x then x1 else p7.x) + (if x2 < p8.x then x2 else p8.x))) - (w64 ((2 : Int) * p7.x)))))))) - (w64 (r26 * (w64 (p8.x - p7.x))))))), (37, pB b7 2)]) (obs := []) hf97 (by kernel_rfl) (by kernel_rfl) (fun _ => .nil) fun a93 hf98 => ?_
                  refine p_firstE 1 [vI 1] [0, 2, 26, 27, 33, 34, 38] (fl' := [(0, pB b7 0), (2, vI (w64 (p8.x - p7.x))), (26, pB b7 0), (27, pB b7 0), (33, vI (w64 ((0 : Int) * (w64 (p8.x - p7.x))))), (34, vI (w64 ((w64 ((w64 ((w64 (r22 - r23)) - (w64 (r24 * (w64 (p8.x - p7.x)))))) * (w64 ((w64 ((if x2 < p8.x then x2 else p8.x) - (if x1 > p7.x then x1 else p7.x))) * (w64 ((w64 ((if x1 > p7.x then x1 else p7.x) + (if x2 < p8.x then x2 else p8.x))) - (w64 ((2 : Int) * p7.x)))))))) - (w64 (r26 * (w64 (p8.x - p7.x))))))), (38, vI 1)]) (obs := [.cell ⟨b7, 2, none⟩ (vI 1)]) (by kernel_rfl) hf98 (by kernel_rfl) (by kernel_rfl) (.cell (hS34.box (i := 4) rfl (j := 2) rfl) .nil) fun a94 hf99 => ?_
                  refine p_firstP 5 [] [2, 26, 27, 40, 43] (fl' := [(2, vI (w64 (p8.x - p7.x))), (26, pB b7 0), (27, pB b7 0), (40, vI (w64 ((w64 ((0 : Int) * (w64 (p8.x - p7.x)))) + (w64 ((w64 ((w64 ((w64 ((w64 (r22 - r23)) - (w64 (r24 * (w64 (p8.x - p7.x)))))) * (w64 ((w64 ((if x2 < p8.x then x2 else p8.x) - (if x1 > p7.x then x1 else p7.x))) * (w64 ((w64 ((if x1 > p7.x then x1 else p7.x) + (if x2 < p8.x then x2 else p8.x))) - (w64 ((2 : Int) * p7.x)))))))) - (w64 (r26 * (w64 (p8.x - p7.x)))))) * (1 : Int)))))), (43, pB b7 2)]) (obs := []) hf99 (by kernel_rfl) (by kernel_rfl) (fun _ => .nil) fun a95 hf100 => ?_
                  refine p_firstE 1 [vI 1] [2, 26, 27, 40, 44] (fl' := [(2, vI (w64 (p8.x - p7.x))), (26, pB b7 0), (27, pB b7 0), (40, vI (w64 ((w64 ((0 : Int) * (w64 (p8.x - p7.x)))) + (w64 ((w64 ((w64 ((w64 ((w64 (r22 - r23)) - (w64 (r24 * (w64 (p8.x - p7.x)))))) * (w64 ((w64 ((if x2 < p8.x then x2 else p8.x) - (if x1 > p7.x then x1 else p7.x))) * (w64 ((w64 ((if x1 > p7.x then x1 else p7.x) + (if x2 < p8.x then x2 else p8.x))) - (w64 ((2 : Int) * p7.x)))))))) - (w64 (r26 * (w64 (p8.x - p7.x)))))) * (1 : Int)))))), (44, vI 1)]) (obs := [.cell ⟨b7, 2, none⟩ (vI 1)]) (by kernel_rfl) hf100 (by kernel_rfl) (by kernel_rfl) (.cell (hS34.box (i := 4) rfl (j := 2) rfl) .nil) fun a96 hf101 => ?_
                  refine p_firstP 4 [] [27, 40, 46, 48] (fl' := [(27, pB b7 0), (40, vI (w64 ((w64 ((0 : Int) * (w64 (p8.x - p7.x)))) + (w64 ((w64 ((w64 ((w64 ((w64 (r22 - r23)) - (w64 (r24 * (w64 (p8.x - p7.x)))))) * (w64 ((w64 ((if x2 < p8.x then x2 else p8.x) - (if x1 > p7.x then x1 else p7.x))) * (w64 ((w64 ((if x1 > p7.x then x1 else p7.x) + (if x2 < p8.x then x2 else p8.x))) - (w64 ((2 : Int) * p7.x)))))))) - (w64 (r26 * (w64 (p8.x - p7.x)))))) * (1 : Int)))))), (46, vI (w64 ((1 : Int) * (w64 (p8.x - p7.x))))), (48, pB b7 1)]) (obs := []) hf101 (by kernel_rfl) (by kernel_rfl) (fun _ => .nil) fun a97 hf102 => ?_
                  refine p_store_eq (i := 23) (j := 4) (b := b7) (off := 1) (vs := [vI (w64 ((w64 ((0 : Int) * (w64 (p8.x - p7.x)))) + (w64 ((w64 ((w64 ((w64 ((w64 (r22 - r23)) - (w64 (r24 * (w64 (p8.x - p7.x)))))) * (w64 ((w64 ((if x2 < p8.x then x2 else p8.x) - (if x1 > p7.x then x1 else p7.x))) * (w64 ((w64 ((if x1 > p7.x then x1 else p7.x) + (if x2 < p8.x then x2 else p8.x))) - (w64 ((2 : Int) * p7.x)))))))) - (w64 (r26 * (w64 (p8.x - p7.x)))))) * (1 : Int)))))]) (cs' := [vI (w64 ((w64 ((0 : Int) + (w64 ((w64 ((w64 ((2 : Int) * r21)) * (w64 ((if x2 < p8.x then x2 else p8.x) - (if x1 > p7.x then x1 else p7.x))))) + (w64 (r24 * (w64 ((w64 ((if x2 < p8.x then x2 else p8.x) - (if x1 > p7.x then x1 else p7.x))) * (w64 ((w64 ((if x1 > p7.x then x1 else p7.x) + (if x2 < p8.x then x2 else p8.x))) - (w64 ((2 : Int) * p7.x)))))))))))) + r25)), vI (w64 ((w64 ((0 : Int) * (w64 (p8.x - p7.x)))) + (w64 ((w64 ((w64 ((w64 ((w64 (r22 - r23)) - (w64 (r24 * (w64 (p8.x - p7.x)))))) * (w64 ((w64 ((if x2 < p8.x then x2 else p8.x) - (if x1 > p7.x then x1 else p7.x))) * (w64 ((w64 ((if x1 > p7.x then x1 else p7.x) + (if x2 < p8.x then x2 else p8.x))) - (w64 ((2 : Int) * p7.x)))))))) - (w64 (r26 * (w64 (p8.x - p7.x)))))) * (1 : Int))))), vI 1]) hS34 hf102 rfl (by kernel_rfl) (by kernel_rfl) rfl fun ww29 a98 hS35 hf103 => ⟨fun e => absurd e (by decide), ?_⟩
                  refine p_firstP 2 [] [46, 50] (fl' := [(46, vI (w64 ((1 : Int) * (w64 (p8.x - p7.x))))), (50, pB b7 2)]) (obs := []) hf103 (by kernel_rfl) (by kernel_rfl) (fun _ => .nil) fun a99 hf104 => ?_
                  refine p_store_eq (i := 26) (j := 4) (b := b7) (off := 2) (vs := [vI (w64 ((1 : Int) * (w64 (p8.x - p7.x))))]) (cs' := [vI (w64 ((w64 ((0 : Int) + (w64 ((w64 ((w64 ((2 : Int) * r21)) * (w64 ((if x2 < p8.x then x2 else p8.x) - (if x1 > p7.x then x1 else p7.x))))) + (w64 (r24 * (w64 ((w64 ((if x2 < p8.x then x2 else p8.x) - (if x1 > p7.x then x1 else p7.x))) * (w64 ((w64 ((if x1 > p7.x then x1 else p7.x) + (if x2 < p8.x then x2 else p8.x))) - (w64 ((2 : Int) * p7.x)))))))))))) + r25)), vI (w64 ((w64 ((0 : Int) * (w64 (p8.x - p7.x)))) + (w64 ((w64 ((w64 ((w64 ((w64 (r22 - r23)) - (w64 (r24 * (w64 (p8.x - p7.x)))))) * (w64 ((w64 ((if x2 < p8.x then x2 else p8.x) - (if x1 > p7.x then x1 else p7.x))) * (w64 ((w64 ((if x1 > p7.x then x1 else p7.x) + (if x2 < p8.x then x2 else p8.x))) - (w64 ((2 : Int) * p7.x)))))))) - (w64 (r26 * (w64 (p8.x - p7.x)))))) * (1 : Int))))), vI (w64 ((1 : Int) * (w64 (p8.x - p7.x))))]) hS35 hf104 rfl (by kernel_rfl) (by kernel_rfl) rfl fun ww30 a100 hS36 hf105 => ⟨fun e => absurd e (by decide), ?_⟩
                  refine p_done (by kernel_rfl) ?_
                  refine p_fall (os := []) (v := .tuple #[]) (obs := []) hf105 (by kernel_rfl) .nil ?_
                  exact ⟨_, rfl, z2, (w64 ((w64 ((0 : Int) + (w64 ((w64 ((w64 ((2 : Int) * r21)) * (w64 ((if x2 < p8.x then x2 else p8.x) - (if x1 > p7.x then x1 else p7.x))))) + (w64 (r24 * (w64 ((w64 ((if x2 < p8.x then x2 else p8.x) - (if x1 > p7.x then x1 else p7.x))) * (w64 ((w64 ((if x1 > p7.x then x1 else p7.x) + (if x2 < p8.x then x2 else p8.x))) - (w64 ((2 : Int) * p7.x)))))))))))) + r25)), (w64 ((w64 ((0 : Int) * (w64 (p8.x - p7.x)))) + (w64 ((w64 ((w64 ((w64 ((w64 (r22 - r23)) - (w64 (r24 * (w64 (p8.x - p7.x)))))) * (w64 ((w64 ((if x2 < p8.x then x2 else p8.x) - (if x1 > p7.x then x1 else p7.x))) * (w64 ((w64 ((if x1 > p7.x then x1 else p7.x) + (if x2 < p8.x then x2 else p8.x))) - (w64 ((2 : Int) * p7.x)))))))) - (w64 (r26 * (w64 (p8.x - p7.x)))))) * (1 : Int))))), (w64 ((1 : Int) * (w64 (p8.x - p7.x)))), (Zone.le_refl _), rfl, hS36, hr21⟩
                · have hr22 := cond_f hb8 hr20
                  refine w_skip (by kernel_rfl) ?_
                  refine p_fall (os := []) (v := .tuple #[]) (obs := []) hf95 (by kernel_rfl) .nil ?_
                  exact ⟨_, rfl, z2, (w64 ((w64 ((0 : Int) + (w64 ((w64 ((w64 ((2 : Int) * r21)) * (w64 ((if x2 < p8.x then x2 else p8.x) - (if x1 > p7.x then x1 else p7.x))))) + (w64 (r24 * (w64 ((w64 ((if x2 < p8.x then x2 else p8.x) - (if x1 > p7.x then x1 else p7.x))) * (w64 ((w64 ((if x1 > p7.x then x1 else p7.x) + (if x2 < p8.x then x2 else p8.x))) - (w64 ((2 : Int) * p7.x)))))))))))) + r25)), 0, 1, (Zone.le_refl _), rfl, hS33, hr22⟩
              · rintro v9 ww31 a101 ⟨z5, y20, y21, y22, k6, rfl, hS37, hr23⟩ hf106
                refine ⟨fun _ => trivial, ?_⟩
                refine p_done (by kernel_rfl) ?_
                refine n_block ?_
                refine p_roundN hS37 (j := 1) rfl fun ww32 a102 hS38 hf107 => ?_
                have hS39 := St.drop 1 hS38
                refine p_done (by kernel_rfl) ?_
                refine n_then ?_
                refine w_ret (by kernel_rfl) ?_
                refine r_then ?_
                refine p_ret (os := []) (v := .tuple #[]) (obs := []) hf107 (by kernel_rfl) .nil ?_
                refine ⟨_, rfl, fun a103 hf108 => ?_⟩
                refine p_jump0 hS39 (j := 0) rfl (fun h => by cases h) fun ww33 hS40 => ?_
                refine n_block ?_
                refine n_then ?_
                refine w_seq (by kernel_rfl) ?_
                refine w_reg (by kernel_rfl) ?_
                refine p_run 1 [vI y20, vI y21, vI y22] [8, 93] (fl' := [(8, pB b6 0), (93, .agg #[vI y20, vI y21, vI y22])]) (obs := [.cell ⟨b7, 0, none⟩ (vI y20), .cell ⟨b7, 1, none⟩ (vI y21), .cell ⟨b7, 2, none⟩ (vI y22)]) trivial hf108 (by kernel_rfl) (by kernel_rfl) (.cell (hS40.box (i := 3) rfl (j := 0) rfl) (.cell (hS40.box (i := 3) rfl (j := 1) rfl) (.cell (hS40.box (i := 3) rfl (j := 2) rfl) .nil))) fun a104 hf109 => ?_
                refine p_store_eq (i := 1) (j := 4) (b := b6) (off := 0) (vs := [vI y20, vI y21, vI y22]) (cs' := [vI y20, vI y21, vI y22]) hS40 hf109 rfl (by kernel_rfl) (by kernel_rfl) rfl fun ww34 a105 hS41 hf110 => ⟨fun _ => trivial, ?_⟩
                refine p_done (by kernel_rfl) ?_
                refine n_then ?_
                refine w_ret (by kernel_rfl) ?_
                refine p_retM hf110 ?_
                refine p_mark hS41 (j := 1) rfl fun ww35 hS42 => ?_
                refine p_end (os := [vI y20, vI y21, vI y22]) (v := .agg #[vI y20, vI y21, vI y22]) (obs := [.cell ⟨b6, 0, none⟩ (vI y20), .cell ⟨b6, 1, none⟩ (vI y21), .cell ⟨b6, 2, none⟩ (vI y22)]) hf110 (by kernel_rfl) (.cell (hS42.box (i := 4) rfl (j := 0) rfl) (.cell (hS42.box (i := 4) rfl (j := 1) rfl) (.cell (hS42.box (i := 4) rfl (j := 2) rfl) .nil))) ?_
                exact ⟨_, rfl, z5, y20, y21, y22, k6, rfl, (St.drop 9 hS42), hr23⟩
          · have hr24 := cond_f hb4 hr9
            refine w_skip (by kernel_rfl) ?_
            refine n_then ?_
            refine w_seq (by kernel_rfl) ?_
            refine w_reg (by kernel_rfl) ?_
            obtain ⟨d2, hd9, hr25⟩ := bind_some hr24
            obtain ⟨e1, q1, hv1, hb9, hx1⟩ := SliceR.subV (SliceR.mono (Zone.le_trans k3 k5) hx_x0) hd9
            refine p_run 5 [.slice o_x0 x0.length c_x0, .slice e1 d2.length q1] [0, 1, 22, 23, 24] (fl' := [(0, .func (.yield l1) #[] #[]), (1, pB b8 0), (22, .slice e1 d2.length q1), (23, vI (d2.length : Int)), (24, vI 0)]) (obs := [.cell ⟨b8, 0, none⟩ (.slice o_x0 x0.length c_x0), .prop ((.slice e1 d2.length q1 : Value) = .slice (subO o_x0 c_x0 (Int.toNat 1) 3) (Int.toNat (x0.length : Int) - Int.toNat 1) (c_x0 - Int.toNat 1)), .prop ((0 : Int) ≤ 1 ∧ (1 : Int) ≤ (x0.length : Int) ∧ (x0.length : Int) ≤ (c_x0 : Nat) ∧ x0.length ≤ c_x0)]) trivial hf39 (by kernel_rfl) (by kernel_rfl) (.cell (hS13.box (i := 2) rfl (j := 0) rfl) (.prop hv1 (.prop hb9 .nil))) fun a106 hf111 => ?_
            refine p_done (by kernel_rfl) ?_
            refine n_then ?_
            refine w_block (id := 0) (by kernel_rfl) ?_
            have hf112 := Fr.keep (ks := [0, 1, 22, 23, 24]) (r := [(0, .func (.yield l1) #[] #[]), (1, pB b8 0), (22, .slice e1 d2.length q1), (23, vI (d2.length : Int)), (24, vI 0)]) hf111 (by kernel_rfl)
            refine w_loop (by kernel_rfl) (fun n a w => ∃ z6 : Zone, ∃ y30 : Int, ∃ y31 : Int, ∃ y32 : Int, ∃ y23 : Int, Zone.le z2 z6 ∧ Fr a 40 [(0, .func (.yield l1) #[] #[]), (1, pB b8 0), (22, .slice e1 d2.length q1), (23, vI (d2.length : Int)), (24, vI y23)] ∧ St z6 (loopA l1 94 [(5, pB b3 0), (6, pB b4 0), (7, pB b5 0), (8, pB b6 0), (9, pB b7 0), (20, .func (.func 130) #[] #[pB b8 0])] ps1 A1 B1 D1 .ready none :: defA D1 :: box b8 [.slice o_x0 x0.length c_x0] 24 :: box b7 [vI y30, vI y31, vI y32] 95 :: box b6 [vI 0, vI 0, vI 0] 95 :: box b5 [.func (.func 83) #[] #[]] 97 :: box b4 [vI x2] 3 :: box b3 [vI x1] 3 :: box b2 [.slice o_x0 x0.length c_x0] 24 :: box b1 [.slice o_x0 x0.length c_x0] 24 :: L) w ∧ (F18_l1 fuel x0 x1 x2 d2 n y30 y31 y32 y23) = some r) fuel ⟨z2, 0, 0, 1, 0, (Zone.le_refl _), hf112, hS13, hr25⟩ ?_
            rintro n3 a107 ww36 ⟨z6, y30, y31, y32, y23, k7, hf113, hS43, hr26⟩
            cases n3 with
            | zero => cases hr26
            | succ n2 =>
            refine w_seq (by kernel_rfl) ?_
            refine w_reg (by kernel_rfl) ?_
            refine p_run 1 [] [0, 1, 22, 23, 24, 25] (fl' := [(0, .func (.yield l1) #[] #[]), (1, pB b8 0), (22, .slice e1 d2.length q1), (23, vI (d2.length : Int)), (24, vI y23), (25, .bool (decide (y23 < (d2.length : Int))))]) (obs := []) trivial hf113 (by kernel_rfl) (by kernel_rfl) .nil fun a108 hf114 => ?_
            refine p_done (by kernel_rfl) ?_
            refine n_then ?_
            refine w_seq (by kernel_rfl) ?_
            refine w_if hf114 (b := (decide (y23 < (d2.length : Int)))) (by kernel_rfl) (fun hb10 => ?_) (fun hb10 => ?_)
            · have hr27 := cond_t hb10 hr26
              refine w_skip (by kernel_rfl) ?_
              refine n_then ?_
              refine w_mid (by kernel_rfl) (fun a w => ∃ z7 : Zone, ∃ y24 : Int, ∃ y25 : Int, ∃ y26 : Int, Zone.le z6 z7 ∧ Fr a 40 [(0, .func (.yield l1) #[] #[]), (1, pB b8 0), (22, .slice e1 d2.length q1), (23, vI (d2.length : Int)), (24, vI y23)] ∧ St z7 (loopA l1 94 [(5, pB b3 0), (6, pB b4 0), (7, pB b5 0), (8, pB b6 0), (9, pB b7 0), (20, .func (.func 130) #[] #[pB b8 0])] ps1 A1 B1 D1 .ready none :: defA D1 :: box b8 [.slice o_x0 x0.length c_x0] 24 :: box b7 [vI y24, vI y25, vI y26] 95 :: box b6 [vI 0, vI 0, vI 0] 95 :: box b5 [.func (.func 83) #[] #[]] 97 :: box b4 [vI x2] 3 :: box b3 [vI x1] 3 :: box b2 [.slice o_x0 x0.length c_x0] 24 :: box b1 [.slice o_x0 x0.length c_x0] 24 :: L) w ∧ (F18_j4 (F18_l1 fuel x0 x1 x2 d2 n2) y23 y24 y25 y26) = some r) ?_ ?_
              · skip
                refine w_block (id := 1) (by kernel_rfl) ?_
                refine w_seq (by kernel_rfl) ?_
                refine w_reg (by kernel_rfl) ?_
                obtain ⟨p5, hp7731, hr28⟩ := bind_some hr27
                obtain ⟨ad3, ho3, hb11, cc3, hc3, hk3⟩ := SliceR.getI (SliceR.mono k7 hx1) hp7731
                subst hc3
                refine p_run 3 [.pointer (some ad3), vI p5.x, vI p5.lo, vI p5.hi] [0, 1, 22, 23, 24, 26, 28] (fl' := [(0, .func (.yield l1) #[] #[]), (1, pB b8 0), (22, .slice e1 d2.length q1), (23, vI (d2.length : Int)), (24, vI y23), (26, vI y23), (28, .agg #[vI p5.x, vI p5.lo, vI p5.hi])]) (obs := [.prop (e1 = some ad3), .prop (0 ≤ y23 ∧ y23 < (d2.length : Nat)), .cell ((ad3.add (Int.toNat y23 * 3)).add 0) (vI p5.x), .cell ((ad3.add (Int.toNat y23 * 3)).add 1) (vI p5.lo), .cell ((ad3.add (Int.toNat y23 * 3)).add 2) (vI p5.hi)]) trivial hf114 (by kernel_rfl) (by kernel_rfl) (.prop ho3 (.prop hb11 (.cell (hS43.cell (hk3 0 _ rfl)) (.cell (hS43.cell (hk3 1 _ rfl)) (.cell (hS43.cell (hk3 2 _ rfl)) .nil))))) fun a109 hf115 => ?_
                refine p_box (i := 3) (d := (some 4)) (cs := [vI 0, vI 0, vI 0]) (T := 52) (v := fun b10 => pB b10 0) hS43 hf115 (fun b => by kernel_rfl) fun b10 ww37 a110 hS44 hf116 => ⟨fun _ => trivial, ?_⟩
                refine p_run 1 [] [0, 1, 3, 4, 22, 23, 24, 28] (fl' := [(0, .func (.yield l1) #[] #[]), (1, pB b8 0), (3, vI y23), (4, pB b10 0), (22, .slice e1 d2.length q1), (23, vI (d2.length : Int)), (24, vI y23), (28, .agg #[vI p5.x, vI p5.lo, vI p5.hi])]) (obs := []) trivial hf116 (by kernel_rfl) (by kernel_rfl) .nil fun a111 hf117 => ?_
                refine p_store_eq (i := 5) (j := 0) (b := b10) (off := 0) (vs := [vI p5.x, vI p5.lo, vI p5.hi]) (cs' := [vI p5.x, vI p5.lo, vI p5.hi]) hS44 hf117 rfl (by kernel_rfl) (by kernel_rfl) rfl fun ww38 a112 hS45 hf118 => ⟨fun _ => trivial, ?_⟩
                refine p_done (by kernel_rfl) ?_
                refine n_then ?_
                refine w_seq (by kernel_rfl) ?_
                refine w_regDY (by kernel_rfl) 8 [(0, true), (1, true), (2, true), (3, true), (4, true), (5, true), (6, true), (7, true)] [(9, false)] (by kernel_rfl) ?_
                have hS46 := hS45.drew
                refine p_firstP 2 [] [0, 1, 3, 4, 22, 23, 24, 29, 30] (fl' := [(0, .func (.yield l1) #[] #[]), (1, pB b8 0), (3, vI y23), (4, pB b10 0), (22, .slice e1 d2.length q1), (23, vI (d2.length : Int)), (24, vI y23), (29, .func (.yield l1) #[] #[]), (30, pB b8 0)]) (obs := []) hf118 (by kernel_rfl) (by kernel_rfl) (fun _ => .nil) fun a113 hf119 => ?_
                refine p_firstE 1 [.slice o_x0 x0.length c_x0] [0, 1, 3, 4, 22, 23, 24, 29, 31] (fl' := [(0, .func (.yield l1) #[] #[]), (1, pB b8 0), (3, vI y23), (4, pB b10 0), (22, .slice e1 d2.length q1), (23, vI (d2.length : Int)), (24, vI y23), (29, .func (.yield l1) #[] #[]), (31, .slice o_x0 x0.length c_x0)]) (obs := [.cell ⟨b8, 0, none⟩ (.slice o_x0 x0.length c_x0)]) (by kernel_rfl) hf119 (by kernel_rfl) (by kernel_rfl) (.cell (hS46.box (i := 3) rfl (j := 0) rfl) .nil) fun a114 hf120 => ?_
                obtain ⟨p6, hp7758, hr29⟩ := bind_some hr28
                obtain ⟨ad4, ho4, hb12, cc4, hc4, hk4⟩ := SliceR.getI (SliceR.mono (Zone.le_trans (Zone.le_trans k3 k5) k7) hx_x0) hp7758
                subst hc4
                refine p_firstP 2 [.pointer (some ad4)] [0, 1, 4, 22, 23, 24, 29, 33] (fl' := [(0, .func (.yield l1) #[] #[]), (1, pB b8 0), (4, pB b10 0), (22, .slice e1 d2.length q1), (23, vI (d2.length : Int)), (24, vI y23), (29, .func (.yield l1) #[] #[]), (33, .pointer (some (ad4.add (Int.toNat y23 * 3))))]) (obs := [.prop (o_x0 = some ad4), .prop (0 ≤ y23 ∧ y23 < (x0.length : Nat))]) hf120 (by kernel_rfl) (by kernel_rfl) (fun _ => (.prop ho4 (.prop hb12 .nil))) fun a115 hf121 => ?_
                refine p_firstE 2 [vI p6.x, vI p6.lo, vI p6.hi, vI p5.x, vI p5.lo, vI p5.hi] [0, 1, 22, 23, 24, 29, 34, 35] (fl' := [(0, .func (.yield l1) #[] #[]), (1, pB b8 0), (22, .slice e1 d2.length q1), (23, vI (d2.length : Int)), (24, vI y23), (29, .func (.yield l1) #[] #[]), (34, .agg #[vI p6.x, vI p6.lo, vI p6.hi]), (35, .agg #[vI p5.x, vI p5.lo, vI p5.hi])]) (obs := [.cell ((ad4.add (Int.toNat y23 * 3)).add 0) (vI p6.x), .cell ((ad4.add (Int.toNat y23 * 3)).add 1) (vI p6.lo), .cell ((ad4.add (Int.toNat y23 * 3)).add 2) (vI p6.hi), .cell ⟨b10, 0, none⟩ (vI p5.x), .cell ⟨b10, 1, none⟩ (vI p5.lo), .cell ⟨b10, 2, none⟩ (vI p5.hi)]) (by kernel_rfl) hf121 (by kernel_rfl) (by kernel_rfl) (.cell (hS46.cell (hk4 0 _ rfl)) (.cell (hS46.cell (hk4 1 _ rfl)) (.cell (hS46.cell (hk4 2 _ rfl)) (.cell (hS46.box (i := 0) rfl (j := 0) rfl) (.cell (hS46.box (i := 0) rfl (j := 1) rfl) (.cell (hS46.box (i := 0) rfl (j := 2) rfl) .nil)))))) fun a116 hf122 => ?_
                refine p_firstP 1 [] [0, 1, 22, 23, 24, 29, 36] (fl' := [(0, .func (.yield l1) #[] #[]), (1, pB b8 0), (22, .slice e1 d2.length q1), (23, vI (d2.length : Int)), (24, vI y23), (29, .func (.yield l1) #[] #[]), (36, .agg #[vI p6.x, vI p6.lo, vI p6.hi, vI p5.x, vI p5.lo, vI p5.hi])]) (obs := []) hf122 (by kernel_rfl) (by kernel_rfl) (fun _ => .nil) fun a117 hf123 => ?_
                refine p_done (by kernel_rfl) ?_
                refine p_yield (d := some 37) (l := l1) (args := #[.agg #[vI p6.x, vI p6.lo, vI p6.hi, vI p5.x, vI p5.lo, vI p5.hi]]) hf123 (by kernel_rfl) hS46 (j := 1) rfl (by rw [hps1]; kernel_rfl) fun a118 hf124 => ?_
                rw [hps1] at hf124
                refine cw_eq hA1 ?_
                refine w_reg (by kernel_rfl) ?_
                refine p_box (i := 0) (d := (some 10)) (cs := [vI 0, vI 0, vI 0, vI 0, vI 0, vI 0]) (T := 127) (v := fun b11 => pB b11 0) hS46 hf124 (fun b => by kernel_rfl) fun b11 ww39 a119 hS47 hf125 => ⟨fun _ => trivial, ?_⟩
                refine p_store_eq (i := 1) (j := 0) (b := b11) (off := 0) (vs := [vI p6.x, vI p6.lo, vI p6.hi, vI p5.x, vI p5.lo, vI p5.hi]) (cs' := [vI p6.x, vI p6.lo, vI p6.hi, vI p5.x, vI p5.lo, vI p5.hi]) hS47 hf125 rfl (by kernel_rfl) (by kernel_rfl) rfl fun ww40 a120 hS48 hf126 => ⟨fun _ => trivial, ?_⟩
                refine p_done (by kernel_rfl) ?_
                refine n_then ?_
                refine p_begin hS48 (j := 2) rfl fun ww41 hS49 => ?_
                refine cw_eq hB1 ?_
                refine w_block (id := 1) (by kernel_rfl) ?_
                refine w_seq (by kernel_rfl) ?_
                have hS50 := hS49.drew
                refine w_regD (by kernel_rfl) [(0, true), (1, true), (2, true), (3, true), (4, true), (5, true), (6, true), (7, true), (8, true), (9, true), (10, true), (11, true)] [] (fun x => x = ww41.drew) (by kernel_rfl) rfl ?_
                refine p_firstP 2 [] [5, 6, 7, 9, 10, 23] (fl' := [(5, pB b3 0), (6, pB b4 0), (7, pB b5 0), (9, pB b7 0), (10, pB b11 0), (23, pB b11 0)]) (obs := []) hf126 (by kernel_rfl) (by kernel_rfl) (fun _ => .nil) fun a121 hf127 => ?_
                refine p_firstE 2 [vI p6.x, vI x1] [6, 7, 9, 10, 24, 25] (fl' := [(6, pB b4 0), (7, pB b5 0), (9, pB b7 0), (10, pB b11 0), (24, vI p6.x), (25, vI x1)]) (obs := [.cell ⟨b11, 0, none⟩ (vI p6.x), .cell ⟨b3, 0, none⟩ (vI x1)]) (by kernel_rfl) hf127 (by kernel_rfl) (by kernel_rfl) (.cell (hS50.box (i := 0) rfl (j := 0) rfl) (.cell (hS50.box (i := 9) rfl (j := 0) rfl) .nil)) fun a122 hf128 => ?_
                refine p_firstP 3 [] [6, 7, 9, 10, 26, 28] (fl' := [(6, pB b4 0), (7, pB b5 0), (9, pB b7 0), (10, pB b11 0), (26, vI (if x1 > p6.x then x1 else p6.x)), (28, pB b11 3)]) (obs := []) hf128 (by kernel_rfl) (by kernel_rfl) (fun _ => .nil) fun a123 hf129 => ?_
                refine p_firstE 2 [vI p5.x, vI x2] [7, 9, 10, 26, 29, 30] (fl' := [(7, pB b5 0), (9, pB b7 0), (10, pB b11 0), (26, vI (if x1 > p6.x then x1 else p6.x)), (29, vI p5.x), (30, vI x2)]) (obs := [.cell ⟨b11, 3, none⟩ (vI p5.x), .cell ⟨b4, 0, none⟩ (vI x2)]) (by kernel_rfl) hf129 (by kernel_rfl) (by kernel_rfl) (.cell (hS50.box (i := 0) rfl (j := 3) rfl) (.cell (hS50.box (i := 8) rfl (j := 0) rfl) .nil)) fun a124 hf130 => ?_
                refine p_firstP 3 [] [7, 9, 10, 11, 12] (fl' := [(7, pB b5 0), (9, pB b7 0), (10, pB b11 0), (11, vI (if x1 > p6.x then x1 else p6.x)), (12, vI (if x2 < p5.x then x2 else p5.x))]) (obs := []) hf130 (by kernel_rfl) (by kernel_rfl) (fun _ => .nil) fun a125 hf131 => ?_
                refine p_done (by kernel_rfl) ?_
                refine n_then ?_
                refine w_seq (by kernel_rfl) ?_
                refine w_seq (by kernel_rfl) ?_
                refine w_reg (by kernel_rfl) ?_
                refine p_run 3 [] [7, 9, 10, 11, 12, 34] (fl' := [(7, pB b5 0), (9, pB b7 0), (10, pB b11 0), (11, vI (if x1 > p6.x then x1 else p6.x)), (12, vI (if x2 < p5.x then x2 else p5.x)), (34, .bool (decide ((if x1 > p6.x then x1 else p6.x) ≥ (if x2 < p5.x then x2 else p5.x))))]) (obs := []) trivial hf131 (by kernel_rfl) (by kernel_rfl) .nil fun a126 hf132 => ?_
                refine p_done (by kernel_rfl) ?_
                refine n_then ?_
                refine w_if hf132 (b := (decide ((if x1 > p6.x then x1 else p6.x) ≥ (if x2 < p5.x then x2 else p5.x)))) (by kernel_rfl) (fun hb13 => ?_) (fun hb13 => ?_)
                · have hr30 := cond_t hb13 hr29
                  refine w_exit (id := 1) (by kernel_rfl) ?_
                  refine x_then ?_
                  refine x_block ?_
                  refine p_roundN hS50 (j := 2) rfl fun ww42 a127 hS51 hf133 => ?_
                  have hS52 := St.drop 1 hS51
                  refine p_run 1 [] [0, 1, 22, 23, 24, 38] (fl' := [(0, .func (.yield l1) #[] #[]), (1, pB b8 0), (22, .slice e1 d2.length q1), (23, vI (d2.length : Int)), (24, vI y23), (38, .bool false)]) (obs := []) trivial hf133 (by kernel_rfl) (by kernel_rfl) .nil fun a128 hf134 => ?_
                  refine p_done (by kernel_rfl) ?_
                  refine n_then ?_
                  refine w_if_false hf134 (by kernel_rfl) ?_
                  refine w_skip (by kernel_rfl) ?_
                  refine n_block ?_
                  refine n_then ?_
                  have hf135 := Fr.keep (ks := [0, 1, 22, 23, 24]) (r := [(0, .func (.yield l1) #[] #[]), (1, pB b8 0), (22, .slice e1 d2.length q1), (23, vI (d2.length : Int)), (24, vI y23)]) hf134 (by kernel_rfl)
                  exact ⟨z6, y30, y31, y32, (Zone.le_refl _), hf135, (St.drop 1 hS52), hr30⟩
                · have hr31 := cond_f hb13 hr29
                  refine w_skip (by kernel_rfl) ?_
                  refine n_then ?_
                  refine w_seq (by kernel_rfl) ?_
                  have hS53 := hS50.drew
                  have s7 : Sub z6 (box b11 [vI p6.x, vI p6.lo, vI p6.hi, vI p5.x, vI p5.lo, vI p5.hi] 127 :: box b10 [vI p5.x, vI p5.lo, vI p5.hi] 52 :: loopA l1 94 [(5, pB b3 0), (6, pB b4 0), (7, pB b5 0), (8, pB b6 0), (9, pB b7 0), (20, .func (.func 130) #[] #[pB b8 0])] ps1 A1 B1 D1 .busy none :: defA D1 :: box b8 [.slice o_x0 x0.length c_x0] 24 :: box b7 [vI y30, vI y31, vI y32] 95 :: box b6 [vI 0, vI 0, vI 0] 95 :: box b5 [.func (.func 83) #[] #[]] 97 :: box b4 [vI x2] 3 :: box b3 [vI x1] 3 :: box b2 [.slice o_x0 x0.length c_x0] 24 :: box b1 [.slice o_x0 x0.length c_x0] 24 :: L) _ := Sub.of (Zone.le_refl _) hS53
                  refine w_regD (by kernel_rfl) [(0, true), (1, true), (2, true), (4, true), (5, true), (6, true), (8, true), (9, true), (10, true), (13, true), (14, true), (15, true), (16, true), (17, true), (18, true), (19, true), (3, false), (7, false), (11, false), (12, true), (20, true), (21, true), (22, true)] [] (Sub z6 (box b11 [vI p6.x, vI p6.lo, vI p6.hi, vI p5.x, vI p5.lo, vI p5.hi] 127 :: box b10 [vI p5.x, vI p5.lo, vI p5.hi] 52 :: loopA l1 94 [(5, pB b3 0), (6, pB b4 0), (7, pB b5 0), (8, pB b6 0), (9, pB b7 0), (20, .func (.func 130) #[] #[pB b8 0])] ps1 A1 B1 D1 .busy none :: defA D1 :: box b8 [.slice o_x0 x0.length c_x0] 24 :: box b7 [vI y30, vI y31, vI y32] 95 :: box b6 [vI 0, vI 0, vI 0] 95 :: box b5 [.func (.func 83) #[] #[]] 97 :: box b4 [vI x2] 3 :: box b3 [vI x1] 3 :: box b2 [.slice o_x0 x0.length c_x0] 24 :: box b1 [.slice o_x0 x0.length c_x0] 24 :: L)) (by kernel_rfl) s7 ?_
                  refine p_first 1 [.func (.func 83) #[] #[]] [7, 9, 10, 11, 12, 35] (fl' := [(7, pB b5 0), (9, pB b7 0), (10, pB b11 0), (11, vI (if x1 > p6.x then x1 else p6.x)), (12, vI (if x2 < p5.x then x2 else p5.x)), (35, .func (.func 83) #[] #[])]) (obs := [.cell ⟨b5, 0, none⟩ (.func (.func 83) #[] #[])]) s7 (by kernel_rfl) hf132 (by kernel_rfl) (by kernel_rfl) (fun _ s => (.cell (s.box (i := 7) rfl (j := 0) rfl) .nil)) fun a129 hf136 => ?_
                  refine p_firstP 1 [] [7, 9, 10, 11, 12, 35, 36] (fl' := [(7, pB b5 0), (9, pB b7 0), (10, pB b11 0), (11, vI (if x1 > p6.x then x1 else p6.x)), (12, vI (if x2 < p5.x then x2 else p5.x)), (35, .func (.func 83) #[] #[]), (36, pB b11 0)]) (obs := []) hf136 (by kernel_rfl) (by kernel_rfl) (fun _ => .nil) fun a130 hf137 => ?_
                  refine p_first 2 [vI p6.x, vI p6.lo, vI p6.hi, .func (.func 83) #[] #[]] [7, 9, 10, 11, 12, 35, 37, 39] (fl' := [(7, pB b5 0), (9, pB b7 0), (10, pB b11 0), (11, vI (if x1 > p6.x then x1 else p6.x)), (12, vI (if x2 < p5.x then x2 else p5.x)), (35, .func (.func 83) #[] #[]), (37, .agg #[vI p6.x, vI p6.lo, vI p6.hi]), (39, .func (.func 83) #[] #[])]) (obs := [.cell ⟨b11, 0, none⟩ (vI p6.x), .cell ⟨b11, 1, none⟩ (vI p6.lo), .cell ⟨b11, 2, none⟩ (vI p6.hi), .cell ⟨b5, 0, none⟩ (.func (.func 83) #[] #[])]) s7 (by kernel_rfl) hf137 (by kernel_rfl) (by kernel_rfl) (fun _ s => (.cell (s.box (i := 0) rfl (j := 0) rfl) (.cell (s.box (i := 0) rfl (j := 1) rfl) (.cell (s.box (i := 0) rfl (j := 2) rfl) (.cell (s.box (i := 7) rfl (j := 0) rfl) .nil))))) fun a131 hf138 => ?_
                  refine p_firstP 1 [] [7, 9, 10, 11, 12, 35, 37, 39, 40] (fl' := [(7, pB b5 0), (9, pB b7 0), (10, pB b11 0), (11, vI (if x1 > p6.x then x1 else p6.x)), (12, vI (if x2 < p5.x then x2 else p5.x)), (35, .func (.func 83) #[] #[]), (37, .agg #[vI p6.x, vI p6.lo, vI p6.hi]), (39, .func (.func 83) #[] #[]), (40, pB b11 3)]) (obs := []) hf138 (by kernel_rfl) (by kernel_rfl) (fun _ => .nil) fun a132 hf139 => ?_
                  refine p_first 2 [vI p5.x, vI p5.lo, vI p5.hi, .func (.func 83) #[] #[]] [9, 10, 11, 12, 35, 37, 39, 41, 43] (fl' := [(9, pB b7 0), (10, pB b11 0), (11, vI (if x1 > p6.x then x1 else p6.x)), (12, vI (if x2 < p5.x then x2 else p5.x)), (35, .func (.func 83) #[] #[]), (37, .agg #[vI p6.x, vI p6.lo, vI p6.hi]), (39, .func (.func 83) #[] #[]), (41, .agg #[vI p5.x, vI p5.lo, vI p5.hi]), (43, .func (.func 83) #[] #[])]) (obs := [.cell ⟨b11, 3, none⟩ (vI p5.x), .cell ⟨b11, 4, none⟩ (vI p5.lo), .cell ⟨b11, 5, none⟩ (vI p5.hi), .cell ⟨b5, 0, none⟩ (.func (.func 83) #[] #[])]) s7 (by kernel_rfl) hf139 (by kernel_rfl) (by kernel_rfl) (fun _ s => (.cell (s.box (i := 0) rfl (j := 3) rfl) (.cell (s.box (i := 0) rfl (j := 4) rfl) (.cell (s.box (i := 0) rfl (j := 5) rfl) (.cell (s.box (i := 7) rfl (j := 0) rfl) .nil))))) fun a133 hf140 => ?_
                  refine p_firstP 1 [] [9, 10, 11, 12, 35, 37, 39, 41, 43, 44] (fl' := [(9, pB b7 0), (10, pB b11 0), (11, vI (if x1 > p6.x then x1 else p6.x)), (12, vI (if x2 < p5.x then x2 else p5.x)), (35, .func (.func 83) #[] #[]), (37, .agg #[vI p6.x, vI p6.lo, vI p6.hi]), (39, .func (.func 83) #[] #[]), (41, .agg #[vI p5.x, vI p5.lo, vI p5.hi]), (43, .func (.func 83) #[] #[]), (44, pB b11 0)]) (obs := []) hf140 (by kernel_rfl) (by kernel_rfl) (fun _ => .nil) fun a134 hf141 => ?_
                  refine p_first 1 [vI p6.x, vI p6.lo, vI p6.hi] [9, 10, 11, 12, 35, 37, 39, 41, 43, 45] (fl' := [(9, pB b7 0), (10, pB b11 0), (11, vI (if x1 > p6.x then x1 else p6.x)), (12, vI (if x2 < p5.x then x2 else p5.x)), (35, .func (.func 83) #[] #[]), (37, .agg #[vI p6.x, vI p6.lo, vI p6.hi]), (39, .func (.func 83) #[] #[]), (41, .agg #[vI p5.x, vI p5.lo, vI p5.hi]), (43, .func (.func 83) #[] #[]), (45, .agg #[vI p6.x, vI p6.lo, vI p6.hi])]) (obs := [.cell ⟨b11, 0, none⟩ (vI p6.x), .cell ⟨b11, 1, none⟩ (vI p6.lo), .cell ⟨b11, 2, none⟩ (vI p6.hi)]) s7 (by kernel_rfl) hf141 (by kernel_rfl) (by kernel_rfl) (fun _ s => (.cell (s.box (i := 0) rfl (j := 0) rfl) (.cell (s.box (i := 0) rfl (j := 1) rfl) (.cell (s.box (i := 0) rfl (j := 2) rfl) .nil)))) fun a135 hf142 => ?_
                  refine p_firstP 2 [] [9, 10, 11, 12, 35, 37, 39, 41, 43, 45, 49] (fl' := [(9, pB b7 0), (10, pB b11 0), (11, vI (if x1 > p6.x then x1 else p6.x)), (12, vI (if x2 < p5.x then x2 else p5.x)), (35, .func (.func 83) #[] #[]), (37, .agg #[vI p6.x, vI p6.lo, vI p6.hi]), (39, .func (.func 83) #[] #[]), (41, .agg #[vI p5.x, vI p5.lo, vI p5.hi]), (43, .func (.func 83) #[] #[]), (45, .agg #[vI p6.x, vI p6.lo, vI p6.hi]), (49, pB b11 3)]) (obs := []) hf142 (by kernel_rfl) (by kernel_rfl) (fun _ => .nil) fun a136 hf143 => ?_
                  refine p_first 1 [vI p5.x] [9, 10, 11, 12, 35, 37, 39, 41, 43, 45, 50] (fl' := [(9, pB b7 0), (10, pB b11 0), (11, vI (if x1 > p6.x then x1 else p6.x)), (12, vI (if x2 < p5.x then x2 else p5.x)), (35, .func (.func 83) #[] #[]), (37, .agg #[vI p6.x, vI p6.lo, vI p6.hi]), (39, .func (.func 83) #[] #[]), (41, .agg #[vI p5.x, vI p5.lo, vI p5.hi]), (43, .func (.func 83) #[] #[]), (45, .agg #[vI p6.x, vI p6.lo, vI p6.hi]), (50, vI p5.x)]) (obs := [.cell ⟨b11, 3, none⟩ (vI p5.x)]) s7 (by kernel_rfl) hf143 (by kernel_rfl) (by kernel_rfl) (fun _ s => (.cell (s.box (i := 0) rfl (j := 3) rfl) .nil)) fun a137 hf144 => ?_
                  refine p_firstP 2 [] [9, 10, 11, 12, 35, 37, 39, 41, 43, 45, 50, 52] (fl' := [(9, pB b7 0), (10, pB b11 0), (11, vI (if x1 > p6.x then x1 else p6.x)), (12, vI (if x2 < p5.x then x2 else p5.x)), (35, .func (.func 83) #[] #[]), (37, .agg #[vI p6.x, vI p6.lo, vI p6.hi]), (39, .func (.func 83) #[] #[]), (41, .agg #[vI p5.x, vI p5.lo, vI p5.hi]), (43, .func (.func 83) #[] #[]), (45, .agg #[vI p6.x, vI p6.lo, vI p6.hi]), (50, vI p5.x), (52, pB b11 0)]) (obs := []) hf144 (by kernel_rfl) (by kernel_rfl) (fun _ => .nil) fun a138 hf145 => ?_
                  refine p_first 1 [vI p6.x] [9, 10, 11, 12, 35, 37, 39, 41, 43, 45, 50, 53] (fl' := [(9, pB b7 0), (10, pB b11 0), (11, vI (if x1 > p6.x then x1 else p6.x)), (12, vI (if x2 < p5.x then x2 else p5.x)), (35, .func (.func 83) #[] #[]), (37, .agg #[vI p6.x, vI p6.lo, vI p6.hi]), (39, .func (.func 83) #[] #[]), (41, .agg #[vI p5.x, vI p5.lo, vI p5.hi]), (43, .func (.func 83) #[] #[]), (45, .agg #[vI p6.x, vI p6.lo, vI p6.hi]), (50, vI p5.x), (53, vI p6.x)]) (obs := [.cell ⟨b11, 0, none⟩ (vI p6.x)]) s7 (by kernel_rfl) hf145 (by kernel_rfl) (by kernel_rfl) (fun _ s => (.cell (s.box (i := 0) rfl (j := 0) rfl) .nil)) fun a139 hf146 => ?_
                  refine p_firstP 1 [] [9, 10, 11, 12, 35, 37, 39, 41, 43, 45, 54] (fl' := [(9, pB b7 0), (10, pB b11 0), (11, vI (if x1 > p6.x then x1 else p6.x)), (12, vI (if x2 < p5.x then x2 else p5.x)), (35, .func (.func 83) #[] #[]), (37, .agg #[vI p6.x, vI p6.lo, vI p6.hi]), (39, .func (.func 83) #[] #[]), (41, .agg #[vI p5.x, vI p5.lo, vI p5.hi]), (43, .func (.func 83) #[] #[]), (45, .agg #[vI p6.x, vI p6.lo, vI p6.hi]), (54, vI (w64 (p5.x - p6.x)))]) (obs := []) hf146 (by kernel_rfl) (by kernel_rfl) (fun _ => .nil) fun a140 hf147 => ?_
                  obtain ⟨r15, hd10, hr32⟩ := bind_some hr31
                  refine p_call (i := 3) (d := some 38) (f := 83) (args := #[.agg #[vI p6.x, vI p6.lo, vI p6.hi]]) hf147 (by kernel_rfl) (f83_ok fuel p6.x p6.lo p6.hi r15 hd10 z6 _ _ hS53 ) ?_
                  rintro v10 ww43 a141 ⟨rfl, hS54⟩ hf148
                  refine ⟨fun _ => Sub.of (Zone.le_refl _) hS54, ?_⟩
                  have s8 : Sub z6 (box b11 [vI p6.x, vI p6.lo, vI p6.hi, vI p5.x, vI p5.lo, vI p5.hi] 127 :: box b10 [vI p5.x, vI p5.lo, vI p5.hi] 52 :: loopA l1 94 [(5, pB b3 0), (6, pB b4 0), (7, pB b5 0), (8, pB b6 0), (9, pB b7 0), (20, .func (.func 130) #[] #[pB b8 0])] ps1 A1 B1 D1 .busy none :: defA D1 :: box b8 [.slice o_x0 x0.length c_x0] 24 :: box b7 [vI y30, vI y31, vI y32] 95 :: box b6 [vI 0, vI 0, vI 0] 95 :: box b5 [.func (.func 83) #[] #[]] 97 :: box b4 [vI x2] 3 :: box b3 [vI x1] 3 :: box b2 [.slice o_x0 x0.length c_x0] 24 :: box b1 [.slice o_x0 x0.length c_x0] 24 :: L) _ := Sub.of (Zone.le_refl _) hS54
                  obtain ⟨r16, hd11, hr33⟩ := bind_some hr32
                  refine p_call (i := 7) (d := some 42) (f := 83) (args := #[.agg #[vI p5.x, vI p5.lo, vI p5.hi]]) hf148 (by kernel_rfl) (f83_ok fuel p5.x p5.lo p5.hi r16 hd11 z6 _ _ hS54 ) ?_
                  rintro v11 ww44 a142 ⟨rfl, hS55⟩ hf149
                  refine ⟨fun _ => Sub.of (Zone.le_refl _) hS55, ?_⟩
                  have s9 : Sub z6 (box b11 [vI p6.x, vI p6.lo, vI p6.hi, vI p5.x, vI p5.lo, vI p5.hi] 127 :: box b10 [vI p5.x, vI p5.lo, vI p5.hi] 52 :: loopA l1 94 [(5, pB b3 0), (6, pB b4 0), (7, pB b5 0), (8, pB b6 0), (9, pB b7 0), (20, .func (.func 130) #[] #[pB b8 0])] ps1 A1 B1 D1 .busy none :: defA D1 :: box b8 [.slice o_x0 x0.length c_x0] 24 :: box b7 [vI y30, vI y31, vI y32] 95 :: box b6 [vI 0, vI 0, vI 0] 95 :: box b5 [.func (.func 83) #[] #[]] 97 :: box b4 [vI x2] 3 :: box b3 [vI x1] 3 :: box b2 [.slice o_x0 x0.length c_x0] 24 :: box b1 [.slice o_x0 x0.length c_x0] 24 :: L) _ := Sub.of (Zone.le_refl _) hS55
                  obtain ⟨r17, hd12, hr34⟩ := bind_some hr33
                  refine p_call (i := 11) (d := some 46) (f := 83) (args := #[.agg #[vI p6.x, vI p6.lo, vI p6.hi]]) hf149 (by kernel_rfl) (f83_ok fuel p6.x p6.lo p6.hi r17 hd12 z6 _ _ hS55 ) ?_
                  rintro v12 ww45 a143 ⟨rfl, hS56⟩ hf150
                  refine ⟨fun _ => Sub.of (Zone.le_refl _) hS56, ?_⟩
                  have s10 : Sub z6 (box b11 [vI p6.x, vI p6.lo, vI p6.hi, vI p5.x, vI p5.lo, vI p5.hi] 127 :: box b10 [vI p5.x, vI p5.lo, vI p5.hi] 52 :: loopA l1 94 [(5, pB b3 0), (6, pB b4 0), (7, pB b5 0), (8, pB b6 0), (9, pB b7 0), (20, .func (.func 130) #[] #[pB b8 0])] ps1 A1 B1 D1 .busy none :: defA D1 :: box b8 [.slice o_x0 x0.length c_x0] 24 :: box b7 [vI y30, vI y31, vI y32] 95 :: box b6 [vI 0, vI 0, vI 0] 95 :: box b5 [.func (.func 83) #[] #[]] 97 :: box b4 [vI x2] 3 :: box b3 [vI x1] 3 :: box b2 [.slice o_x0 x0.length c_x0] 24 :: box b1 [.slice o_x0 x0.length c_x0] 24 :: L) _ := Sub.of (Zone.le_refl _) hS56
                  refine p_firstP 4 [] [9, 10, 11, 12, 13, 14, 15] (fl' := [(9, pB b7 0), (10, pB b11 0), (11, vI (if x1 > p6.x then x1 else p6.x)), (12, vI (if x2 < p5.x then x2 else p5.x)), (13, vI r15), (14, vI (w64 (r16 - r17))), (15, vI (w64 (p5.x - p6.x)))]) (obs := []) hf150 (by kernel_rfl) (by kernel_rfl) (fun _ => .nil) fun a144 hf151 => ?_
                  refine p_done (by kernel_rfl) ?_
                  refine n_then ?_
                  refine w_seq (by kernel_rfl) ?_
                  refine w_reg (by kernel_rfl) ?_
                  refine p_run 13 [vI p6.x] [9, 11, 12, 13, 14, 15, 16] (fl' := [(9, pB b7 0), (11, vI (if x1 > p6.x then x1 else p6.x)), (12, vI (if x2 < p5.x then x2 else p5.x)), (13, vI r15), (14, vI (w64 (r16 - r17))), (15, vI (w64 (p5.x - p6.x))), (16, vI (w64 ((w64 ((if x2 < p5.x then x2 else p5.x) - (if x1 > p6.x then x1 else p6.x))) * (w64 ((w64 ((if x1 > p6.x then x1 else p6.x) + (if x2 < p5.x then x2 else p5.x))) - (w64 ((2 : Int) * p6.x)))))))]) (obs := [.cell ⟨b11, 0, none⟩ (vI p6.x)]) trivial hf151 (by kernel_rfl) (by kernel_rfl) (.cell (hS56.box (i := 0) rfl (j := 0) rfl) .nil) fun a145 hf152 => ?_
                  refine p_done (by kernel_rfl) ?_
                  refine n_then ?_
                  refine w_seq (by kernel_rfl) ?_
                  refine w_reg (by kernel_rfl) ?_
                  refine p_run 2 [] [9, 11, 12, 13, 14, 15, 16, 67, 68] (fl' := [(9, pB b7 0), (11, vI (if x1 > p6.x then x1 else p6.x)), (12, vI (if x2 < p5.x then x2 else p5.x)), (13, vI r15), (14, vI (w64 (r16 - r17))), (15, vI (w64 (p5.x - p6.x))), (16, vI (w64 ((w64 ((if x2 < p5.x then x2 else p5.x) - (if x1 > p6.x then x1 else p6.x))) * (w64 ((w64 ((if x1 > p6.x then x1 else p6.x) + (if x2 < p5.x then x2 else p5.x))) - (w64 ((2 : Int) * p6.x))))))), (67, vI (w64 (r16 - r17))), (68, vI (w64 (p5.x - p6.x)))]) (obs := []) trivial hf152 (by kernel_rfl) (by kernel_rfl) .nil fun a146 hf153 => ?_
                  obtain ⟨r18, hd13, hr35⟩ := bind_some hr34
                  refine p_call (i := 2) (d := some 69) (f := 85) (args := #[vI (w64 (r16 - r17)), vI (w64 (p5.x - p6.x))]) hf153 (by kernel_rfl) (f85_ok fuel (w64 (r16 - r17)) (w64 (p5.x - p6.x)) r18 hd13 z6 _ _ hS56 ) ?_
                  rintro v13 ww46 a147 ⟨rfl, hS57⟩ hf154
                  refine ⟨fun _ => trivial, ?_⟩
                  refine p_run 1 [] [9, 11, 12, 13, 14, 15, 16, 17] (fl' := [(9, pB b7 0), (11, vI (if x1 > p6.x then x1 else p6.x)), (12, vI (if x2 < p5.x then x2 else p5.x)), (13, vI r15), (14, vI (w64 (r16 - r17))), (15, vI (w64 (p5.x - p6.x))), (16, vI (w64 ((w64 ((if x2 < p5.x then x2 else p5.x) - (if x1 > p6.x then x1 else p6.x))) * (w64 ((w64 ((if x1 > p6.x then x1 else p6.x) + (if x2 < p5.x then x2 else p5.x))) - (w64 ((2 : Int) * p6.x))))))), (17, vI r18)]) (obs := []) trivial hf154 (by kernel_rfl) (by kernel_rfl) .nil fun a148 hf155 => ?_
                  refine p_done (by kernel_rfl) ?_
                  refine n_then ?_
                  refine w_seq (by kernel_rfl) ?_
                  refine w_reg (by kernel_rfl) ?_
                  refine p_run 14 [vI y30] [9, 14, 15, 16, 17, 82, 83] (fl' := [(9, pB b7 0), (14, vI (w64 (r16 - r17))), (15, vI (w64 (p5.x - p6.x))), (16, vI (w64 ((w64 ((if x2 < p5.x then x2 else p5.x) - (if x1 > p6.x then x1 else p6.x))) * (w64 ((w64 ((if x1 > p6.x then x1 else p6.x) + (if x2 < p5.x then x2 else p5.x))) - (w64 ((2 : Int) * p6.x))))))), (17, vI r18), (82, vI (w64 (y30 + (w64 ((w64 ((w64 ((2 : Int) * r15)) * (w64 ((if x2 < p5.x then x2 else p5.x) - (if x1 > p6.x then x1 else p6.x))))) + (w64 (r18 * (w64 ((w64 ((if x2 < p5.x then x2 else p5.x) - (if x1 > p6.x then x1 else p6.x))) * (w64 ((w64 ((if x1 > p6.x then x1 else p6.x) + (if x2 < p5.x then x2 else p5.x))) - (w64 ((2 : Int) * p6.x))))))))))))), (83, pB b7 0)]) (obs := [.cell ⟨b7, 0, none⟩ (vI y30)]) trivial hf155 (by kernel_rfl) (by kernel_rfl) (.cell (hS57.box (i := 5) rfl (j := 0) rfl) .nil) fun a149 hf156 => ?_
                  refine p_store_eq (i := 14) (j := 5) (b := b7) (off := 0) (vs := [vI (w64 (y30 + (w64 ((w64 ((w64 ((2 : Int) * r15)) * (w64 ((if x2 < p5.x then x2 else p5.x) - (if x1 > p6.x then x1 else p6.x))))) + (w64 (r18 * (w64 ((w64 ((if x2 < p5.x then x2 else p5.x) - (if x1 > p6.x then x1 else p6.x))) * (w64 ((w64 ((if x1 > p6.x then x1 else p6.x) + (if x2 < p5.x then x2 else p5.x))) - (w64 ((2 : Int) * p6.x))))))))))))]) (cs' := [vI (w64 (y30 + (w64 ((w64 ((w64 ((2 : Int) * r15)) * (w64 ((if x2 < p5.x then x2 else p5.x) - (if x1 > p6.x then x1 else p6.x))))) + (w64 (r18 * (w64 ((w64 ((if x2 < p5.x then x2 else p5.x) - (if x1 > p6.x then x1 else p6.x))) * (w64 ((w64 ((if x1 > p6.x then x1 else p6.x) + (if x2 < p5.x then x2 else p5.x))) - (w64 ((2 : Int) * p6.x)))))))))))), vI y31, vI y32]) hS57 hf156 rfl (by kernel_rfl) (by kernel_rfl) rfl fun ww47 a150 hS58 hf157 => ⟨fun _ => trivial, ?_⟩
                  refine p_done (by kernel_rfl) ?_
                  refine n_then ?_
                  refine w_reg (by kernel_rfl) ?_
                  refine p_run 8 [] [9, 90, 91] (fl' := [(9, pB b7 0), (90, vI (w64 ((w64 ((w64 (r16 - r17)) - (w64 (r18 * (w64 (p5.x - p6.x)))))) * (w64 ((w64 ((if x2 < p5.x then x2 else p5.x) - (if x1 > p6.x then x1 else p6.x))) * (w64 ((w64 ((if x1 > p6.x then x1 else p6.x) + (if x2 < p5.x then x2 else p5.x))) - (w64 ((2 : Int) * p6.x))))))))), (91, vI (w64 (p5.x - p6.x)))]) (obs := []) trivial hf157 (by kernel_rfl) (by kernel_rfl) .nil fun a151 hf158 => ?_
                  refine p_call (i := 8) (d := some 92) (f := 119) (args := #[pB b7 0, vI (w64 ((w64 ((w64 (r16 - r17)) - (w64 (r18 * (w64 (p5.x - p6.x)))))) * (w64 ((w64 ((if x2 < p5.x then x2 else p5.x) - (if x1 > p6.x then x1 else p6.x))) * (w64 ((w64 ((if x1 > p6.x then x1 else p6.x) + (if x2 < p5.x then x2 else p5.x))) - (w64 ((2 : Int) * p6.x)))))))), vI (w64 (p5.x - p6.x))]) hf158 (by kernel_rfl) (Φ := fun v w => ∃ z8 : Zone, ∃ y27 : Int, ∃ y28 : Int, ∃ y29 : Int, Zone.le z6 z8 ∧ v = .tuple #[] ∧ St z8 (box b11 [vI p6.x, vI p6.lo, vI p6.hi, vI p5.x, vI p5.lo, vI p5.hi] 127 :: box b10 [vI p5.x, vI p5.lo, vI p5.hi] 52 :: loopA l1 94 [(5, pB b3 0), (6, pB b4 0), (7, pB b5 0), (8, pB b6 0), (9, pB b7 0), (20, .func (.func 130) #[] #[pB b8 0])] ps1 A1 B1 D1 .busy none :: defA D1 :: box b8 [.slice o_x0 x0.length c_x0] 24 :: box b7 [vI y27, vI y28, vI y29] 95 :: box b6 [vI 0, vI 0, vI 0] 95 :: box b5 [.func (.func 83) #[] #[]] 97 :: box b4 [vI x2] 3 :: box b3 [vI x1] 3 :: box b2 [.slice o_x0 x0.length c_x0] 24 :: box b1 [.slice o_x0 x0.length c_x0] 24 :: L) w ∧ (F18_j5 (F18_l1 fuel x0 x1 x2 d2 n2) y23 y27 y28 y29) = some r) ?_ ?_
                  · refine calls_intro (N := 51) Try.func119 (by kernel_rfl) fun a152 hf159 => ?_
                    refine w_seq (by kernel_rfl) ?_
                    have hS59 := hS58.drew
                    have s11 : Sub z6 (box b11 [vI p6.x, vI p6.lo, vI p6.hi, vI p5.x, vI p5.lo, vI p5.hi] 127 :: box b10 [vI p5.x, vI p5.lo, vI p5.hi] 52 :: loopA l1 94 [(5, pB b3 0), (6, pB b4 0), (7, pB b5 0), (8, pB b6 0), (9, pB b7 0), (20, .func (.func 130) #[] #[pB b8 0])] ps1 A1 B1 D1 .busy none :: defA D1 :: box b8 [.slice o_x0 x0.length c_x0] 24 :: box b7 [vI (w64 (y30 + (w64 ((w64 ((w64 ((2 : Int) * r15)) * (w64 ((if x2 < p5.x then x2 else p5.x) - (if x1 > p6.x then x1 else p6.x))))) + (w64 (r18 * (w64 ((w64 ((if x2 < p5.x then x2 else p5.x) - (if x1 > p6.x then x1 else p6.x))) * (w64 ((w64 ((if x1 > p6.x then x1 else p6.x) + (if x2 < p5.x then x2 else p5.x))) - (w64 ((2 : Int) * p6.x)))))))))))), vI y31, vI y32] 95 :: box b6 [vI 0, vI 0, vI 0] 95 :: box b5 [.func (.func 83) #[] #[]] 97 :: box b4 [vI x2] 3 :: box b3 [vI x1] 3 :: box b2 [.slice o_x0 x0.length c_x0] 24 :: box b1 [.slice o_x0 x0.length c_x0] 24 :: L) _ := Sub.of (Zone.le_refl _) hS59
                    refine w_regD (by kernel_rfl) [(0, true), (1, true), (2, true), (3, true), (4, true), (5, true), (6, false), (7, true), (8, true), (9, true), (10, false)] [10] (Sub z6 (box b11 [vI p6.x, vI p6.lo, vI p6.hi, vI p5.x, vI p5.lo, vI p5.hi] 127 :: box b10 [vI p5.x, vI p5.lo, vI p5.hi] 52 :: loopA l1 94 [(5, pB b3 0), (6, pB b4 0), (7, pB b5 0), (8, pB b6 0), (9, pB b7 0), (20, .func (.func 130) #[] #[pB b8 0])] ps1 A1 B1 D1 .busy none :: defA D1 :: box b8 [.slice o_x0 x0.length c_x0] 24 :: box b7 [vI (w64 (y30 + (w64 ((w64 ((w64 ((2 : Int) * r15)) * (w64 ((if x2 < p5.x then x2 else p5.x) - (if x1 > p6.x then x1 else p6.x))))) + (w64 (r18 * (w64 ((w64 ((if x2 < p5.x then x2 else p5.x) - (if x1 > p6.x then x1 else p6.x))) * (w64 ((w64 ((if x1 > p6.x then x1 else p6.x) + (if x2 < p5.x then x2 else p5.x))) - (w64 ((2 : Int) * p6.x)))))))))))), vI y31, vI y32] 95 :: box b6 [vI 0, vI 0, vI 0] 95 :: box b5 [.func (.func 83) #[] #[]] 97 :: box b4 [vI x2] 3 :: box b3 [vI x1] 3 :: box b2 [.slice o_x0 x0.length c_x0] 24 :: box b1 [.slice o_x0 x0.length c_x0] 24 :: L)) (by kernel_rfl) s11 ?_
                    refine p_firstP 3 [] [0, 1, 2, 7, 9] (fl' := [(0, pB b7 0), (1, vI (w64 ((w64 ((w64 (r16 - r17)) - (w64 (r18 * (w64 (p5.x - p6.x)))))) * (w64 ((w64 ((if x2 < p5.x then x2 else p5.x) - (if x1 > p6.x then x1 else p6.x))) * (w64 ((w64 ((if x1 > p6.x then x1 else p6.x) + (if x2 < p5.x then x2 else p5.x))) - (w64 ((2 : Int) * p6.x))))))))), (2, vI (w64 (p5.x - p6.x))), (7, pB b7 0), (9, pB b7 0)]) (obs := []) hf159 (by kernel_rfl) (by kernel_rfl) (fun _ => .nil) fun a153 hf160 => ?_
                    refine p_first 1 [vI (w64 (y30 + (w64 ((w64 ((w64 ((2 : Int) * r15)) * (w64 ((if x2 < p5.x then x2 else p5.x) - (if x1 > p6.x then x1 else p6.x))))) + (w64 (r18 * (w64 ((w64 ((if x2 < p5.x then x2 else p5.x) - (if x1 > p6.x then x1 else p6.x))) * (w64 ((w64 ((if x1 > p6.x then x1 else p6.x) + (if x2 < p5.x then x2 else p5.x))) - (w64 ((2 : Int) * p6.x))))))))))))] [0, 1, 2, 7, 10] (fl' := [(0, pB b7 0), (1, vI (w64 ((w64 ((w64 (r16 - r17)) - (w64 (r18 * (w64 (p5.x - p6.x)))))) * (w64 ((w64 ((if x2 < p5.x then x2 else p5.x) - (if x1 > p6.x then x1 else p6.x))) * (w64 ((w64 ((if x1 > p6.x then x1 else p6.x) + (if x2 < p5.x then x2 else p5.x))) - (w64 ((2 : Int) * p6.x))))))))), (2, vI (w64 (p5.x - p6.x))), (7, pB b7 0), (10, vI (w64 (y30 + (w64 ((w64 ((w64 ((2 : Int) * r15)) * (w64 ((if x2 < p5.x then x2 else p5.x) - (if x1 > p6.x then x1 else p6.x))))) + (w64 (r18 * (w64 ((w64 ((if x2 < p5.x then x2 else p5.x) - (if x1 > p6.x then x1 else p6.x))) * (w64 ((w64 ((if x1 > p6.x then x1 else p6.x) + (if x2 < p5.x then x2 else p5.x))) - (w64 ((2 : Int) * p6.x)))))))))))))]) (obs := [.cell ⟨b7, 0, none⟩ (vI (w64 (y30 + (w64 ((w64 ((w64 ((2 : Int) * r15)) * (w64 ((if x2 < p5.x then x2 else p5.x) - (if x1 > p6.x then x1 else p6.x))))) + (w64 (r18 * (w64 ((w64 ((if x2 < p5.x then x2 else p5.x) - (if x1 > p6.x then x1 else p6.x))) * (w64 ((w64 ((if x1 > p6.x then x1 else p6.x) + (if x2 < p5.x then x2 else p5.x))) - (w64 ((2 : Int) * p6.x)))))))))))))]) s11 (by kernel_rfl) hf160 (by kernel_rfl) (by kernel_rfl) (fun _ s => (.cell (s.box (i := 5) rfl (j := 0) rfl) .nil)) fun a154 hf161 => ?_
                    refine p_firstP 2 [] [0, 1, 2, 7, 10, 11, 12] (fl' := [(0, pB b7 0), (1, vI (w64 ((w64 ((w64 (r16 - r17)) - (w64 (r18 * (w64 (p5.x - p6.x)))))) * (w64 ((w64 ((if x2 < p5.x then x2 else p5.x) - (if x1 > p6.x then x1 else p6.x))) * (w64 ((w64 ((if x1 > p6.x then x1 else p6.x) + (if x2 < p5.x then x2 else p5.x))) - (w64 ((2 : Int) * p6.x))))))))), (2, vI (w64 (p5.x - p6.x))), (7, pB b7 0), (10, vI (w64 (y30 + (w64 ((w64 ((w64 ((2 : Int) * r15)) * (w64 ((if x2 < p5.x then x2 else p5.x) - (if x1 > p6.x then x1 else p6.x))))) + (w64 (r18 * (w64 ((w64 ((if x2 < p5.x then x2 else p5.x) - (if x1 > p6.x then x1 else p6.x))) * (w64 ((w64 ((if x1 > p6.x then x1 else p6.x) + (if x2 < p5.x then x2 else p5.x))) - (w64 ((2 : Int) * p6.x))))))))))))), (11, vI (w64 ((w64 ((w64 (r16 - r17)) - (w64 (r18 * (w64 (p5.x - p6.x)))))) * (w64 ((w64 ((if x2 < p5.x then x2 else p5.x) - (if x1 > p6.x then x1 else p6.x))) * (w64 ((w64 ((if x1 > p6.x then x1 else p6.x) + (if x2 < p5.x then x2 else p5.x))) - (w64 ((2 : Int) * p6.x))))))))), (12, vI (w64 (p5.x - p6.x)))]) (obs := []) hf161 (by kernel_rfl) (by kernel_rfl) (fun _ => .nil) fun a155 hf162 => ?_
                    obtain ⟨r19, hd14, hr36⟩ := bind_some hr35
                    refine p_call (i := 6) (d := some 13) (f := 85) (args := #[vI (w64 ((w64 ((w64 (r16 - r17)) - (w64 (r18 * (w64 (p5.x - p6.x)))))) * (w64 ((w64 ((if x2 < p5.x then x2 else p5.x) - (if x1 > p6.x then x1 else p6.x))) * (w64 ((w64 ((if x1 > p6.x then x1 else p6.x) + (if x2 < p5.x then x2 else p5.x))) - (w64 ((2 : Int) * p6.x)))))))), vI (w64 (p5.x - p6.x))]) hf162 (by kernel_rfl) (f85_ok fuel (w64 ((w64 ((w64 (r16 - r17)) - (w64 (r18 * (w64 (p5.x - p6.x)))))) * (w64 ((w64 ((if x2 < p5.x then x2 else p5.x) - (if x1 > p6.x then x1 else p6.x))) * (w64 ((w64 ((if x1 > p6.x then x1 else p6.x) + (if x2 < p5.x then x2 else p5.x))) - (w64 ((2 : Int) * p6.x)))))))) (w64 (p5.x - p6.x)) r19 hd14 z6 _ _ hS59 ) ?_
                    rintro v14 ww48 a156 ⟨rfl, hS60⟩ hf163
                    refine ⟨fun _ => Sub.of (Zone.le_refl _) hS60, ?_⟩
                    have s12 : Sub z6 (box b11 [vI p6.x, vI p6.lo, vI p6.hi, vI p5.x, vI p5.lo, vI p5.hi] 127 :: box b10 [vI p5.x, vI p5.lo, vI p5.hi] 52 :: loopA l1 94 [(5, pB b3 0), (6, pB b4 0), (7, pB b5 0), (8, pB b6 0), (9, pB b7 0), (20, .func (.func 130) #[] #[pB b8 0])] ps1 A1 B1 D1 .busy none :: defA D1 :: box b8 [.slice o_x0 x0.length c_x0] 24 :: box b7 [vI (w64 (y30 + (w64 ((w64 ((w64 ((2 : Int) * r15)) * (w64 ((if x2 < p5.x then x2 else p5.x) - (if x1 > p6.x then x1 else p6.x))))) + (w64 (r18 * (w64 ((w64 ((if x2 < p5.x then x2 else p5.x) - (if x1 > p6.x then x1 else p6.x))) * (w64 ((w64 ((if x1 > p6.x then x1 else p6.x) + (if x2 < p5.x then x2 else p5.x))) - (w64 ((2 : Int) * p6.x)))))))))))), vI y31, vI y32] 95 :: box b6 [vI 0, vI 0, vI 0] 95 :: box b5 [.func (.func 83) #[] #[]] 97 :: box b4 [vI x2] 3 :: box b3 [vI x1] 3 :: box b2 [.slice o_x0 x0.length c_x0] 24 :: box b1 [.slice o_x0 x0.length c_x0] 24 :: L) _ := Sub.of (Zone.le_refl _) hS60
                    refine p_firstP 3 [] [0, 1, 2, 14, 16] (fl' := [(0, pB b7 0), (1, vI (w64 ((w64 ((w64 (r16 - r17)) - (w64 (r18 * (w64 (p5.x - p6.x)))))) * (w64 ((w64 ((if x2 < p5.x then x2 else p5.x) - (if x1 > p6.x then x1 else p6.x))) * (w64 ((w64 ((if x1 > p6.x then x1 else p6.x) + (if x2 < p5.x then x2 else p5.x))) - (w64 ((2 : Int) * p6.x))))))))), (2, vI (w64 (p5.x - p6.x))), (14, vI (w64 ((w64 (y30 + (w64 ((w64 ((w64 ((2 : Int) * r15)) * (w64 ((if x2 < p5.x then x2 else p5.x) - (if x1 > p6.x then x1 else p6.x))))) + (w64 (r18 * (w64 ((w64 ((if x2 < p5.x then x2 else p5.x) - (if x1 > p6.x then x1 else p6.x))) * (w64 ((w64 ((if x1 > p6.x then x1 else p6.x) + (if x2 < p5.x then x2 else p5.x))) - (w64 ((2 : Int) * p6.x)))))))))))) + r19))), (16, pB b7 0)]) (obs := []) hf163 (by kernel_rfl) (by kernel_rfl) (fun _ => .nil) fun a157 hf164 => ?_
                    refine p_store_eq (i := 10) (j := 5) (b := b7) (off := 0) (vs := [vI (w64 ((w64 (y30 + (w64 ((w64 ((w64 ((2 : Int) * r15)) * (w64 ((if x2 < p5.x then x2 else p5.x) - (if x1 > p6.x then x1 else p6.x))))) + (w64 (r18 * (w64 ((w64 ((if x2 < p5.x then x2 else p5.x) - (if x1 > p6.x then x1 else p6.x))) * (w64 ((w64 ((if x1 > p6.x then x1 else p6.x) + (if x2 < p5.x then x2 else p5.x))) - (w64 ((2 : Int) * p6.x)))))))))))) + r19))]) (cs' := [vI (w64 ((w64 (y30 + (w64 ((w64 ((w64 ((2 : Int) * r15)) * (w64 ((if x2 < p5.x then x2 else p5.x) - (if x1 > p6.x then x1 else p6.x))))) + (w64 (r18 * (w64 ((w64 ((if x2 < p5.x then x2 else p5.x) - (if x1 > p6.x then x1 else p6.x))) * (w64 ((w64 ((if x1 > p6.x then x1 else p6.x) + (if x2 < p5.x then x2 else p5.x))) - (w64 ((2 : Int) * p6.x)))))))))))) + r19)), vI y31, vI y32]) hS60 hf164 rfl (by kernel_rfl) (by kernel_rfl) rfl fun ww49 a158 hS61 hf165 => ⟨fun e => absurd e (by decide), ?_⟩
                    refine p_done (by kernel_rfl) ?_
                    refine n_then ?_
                    refine w_seq (by kernel_rfl) ?_
                    refine w_reg (by kernel_rfl) ?_
                    refine p_run 3 [] [0, 2, 17, 18, 19] (fl' := [(0, pB b7 0), (2, vI (w64 (p5.x - p6.x))), (17, vI (w64 ((w64 ((w64 (r16 - r17)) - (w64 (r18 * (w64 (p5.x - p6.x)))))) * (w64 ((w64 ((if x2 < p5.x then x2 else p5.x) - (if x1 > p6.x then x1 else p6.x))) * (w64 ((w64 ((if x1 > p6.x then x1 else p6.x) + (if x2 < p5.x then x2 else p5.x))) - (w64 ((2 : Int) * p6.x))))))))), (18, vI (w64 ((w64 ((w64 (r16 - r17)) - (w64 (r18 * (w64 (p5.x - p6.x)))))) * (w64 ((w64 ((if x2 < p5.x then x2 else p5.x) - (if x1 > p6.x then x1 else p6.x))) * (w64 ((w64 ((if x1 > p6.x then x1 else p6.x) + (if x2 < p5.x then x2 else p5.x))) - (w64 ((2 : Int) * p6.x))))))))), (19, vI (w64 (p5.x - p6.x)))]) (obs := []) trivial hf165 (by kernel_rfl) (by kernel_rfl) .nil fun a159 hf166 => ?_
                    obtain ⟨r20, hd15, hr37⟩ := bind_some hr36
                    refine p_call (i := 3) (d := some 20) (f := 85) (args := #[vI (w64 ((w64 ((w64 (r16 - r17)) - (w64 (r18 * (w64 (p5.x - p6.x)))))) * (w64 ((w64 ((if x2 < p5.x then x2 else p5.x) - (if x1 > p6.x then x1 else p6.x))) * (w64 ((w64 ((if x1 > p6.x then x1 else p6.x) + (if x2 < p5.x then x2 else p5.x))) - (w64 ((2 : Int) * p6.x)))))))), vI (w64 (p5.x - p6.x))]) hf166 (by kernel_rfl) (f85_ok fuel (w64 ((w64 ((w64 (r16 - r17)) - (w64 (r18 * (w64 (p5.x - p6.x)))))) * (w64 ((w64 ((if x2 < p5.x then x2 else p5.x) - (if x1 > p6.x then x1 else p6.x))) * (w64 ((w64 ((if x1 > p6.x then x1 else p6.x) + (if x2 < p5.x then x2 else p5.x))) - (w64 ((2 : Int) * p6.x)))))))) (w64 (p5.x - p6.x)) r20 hd15 z6 _ _ hS61 ) ?_
                    rintro v15 ww50 a160 ⟨rfl, hS62⟩ hf167
                    refine ⟨fun _ => trivial, ?_⟩
                    refine p_run 4 [] [0, 2, 6] (fl' := [(0, pB b7 0), (2, vI (w64 (p5.x - p6.x))), (6, vI (w64 ((w64 ((w64 ((w64 (r16 - r17)) - (w64 (r18 * (w64 (p5.x - p6.x)))))) * (w64 ((w64 ((if x2 < p5.x then x2 else p5.x) - (if x1 > p6.x then x1 else p6.x))) * (w64 ((w64 ((if x1 > p6.x then x1 else p6.x) + (if x2 < p5.x then x2 else p5.x))) - (w64 ((2 : Int) * p6.x)))))))) - (w64 (r20 * (w64 (p5.x - p6.x)))))))]) (obs := []) trivial hf167 (by kernel_rfl) (by kernel_rfl) .nil fun a161 hf168 => ?_
                    refine p_done (by kernel_rfl) ?_
                    refine n_then ?_
                    refine w_seq (by kernel_rfl) ?_
                    refine w_reg (by kernel_rfl) ?_
                    refine p_run 2 [] [0, 2, 6, 25] (fl' := [(0, pB b7 0), (2, vI (w64 (p5.x - p6.x))), (6, vI (w64 ((w64 ((w64 ((w64 (r16 - r17)) - (w64 (r18 * (w64 (p5.x - p6.x)))))) * (w64 ((w64 ((if x2 < p5.x then x2 else p5.x) - (if x1 > p6.x then x1 else p6.x))) * (w64 ((w64 ((if x1 > p6.x then x1 else p6.x) + (if x2 < p5.x then x2 else p5.x))) - (w64 ((2 : Int) * p6.x)))))))) - (w64 (r20 * (w64 (p5.x - p6.x))))))), (25, .bool (decide ((w64 ((w64 ((w64 ((w64 (r16 - r17)) - (w64 (r18 * (w64 (p5.x - p6.x)))))) * (w64 ((w64 ((if x2 < p5.x then x2 else p5.x) - (if x1 > p6.x then x1 else p6.x))) * (w64 ((w64 ((if x1 > p6.x then x1 else p6.x) + (if x2 < p5.x then x2 else p5.x))) - (w64 ((2 : Int) * p6.x)))))))) - (w64 (r20 * (w64 (p5.x - p6.x)))))) > (0 : Int))))]) (obs := []) trivial hf168 (by kernel_rfl) (by kernel_rfl) .nil fun a162 hf169 => ?_
                    refine p_done (by kernel_rfl) ?_
                    refine n_then ?_
                    refine w_if hf169 (b := (decide ((w64 ((w64 ((w64 ((w64 (r16 - r17)) - (w64 (r18 * (w64 (p5.x - p6.x)))))) * (w64 ((w64 ((if x2 < p5.x then x2 else p5.x) - (if x1 > p6.x then x1 else p6.x))) * (w64 ((w64 ((if x1 > p6.x then x1 else p6.x) + (if x2 < p5.x then x2 else p5.x))) - (w64 ((2 : Int) * p6.x)))))))) - (w64 (r20 * (w64 (p5.x - p6.x)))))) > (0 : Int)))) (by kernel_rfl) (fun hb14 => ?_) (fun hb14 => ?_)
                    · have hr38 := cond_t hb14 hr37
                      have hS63 := hS62.drew
                      refine w_regD (by kernel_rfl) [(0, true), (1, true), (2, true), (3, true), (4, true), (5, true), (6, true), (7, true), (8, true), (9, true), (10, true), (11, true), (12, true), (13, true), (14, true), (15, true), (16, true), (17, true), (18, true), (19, true), (20, true), (21, true), (22, true), (23, false), (24, true), (25, true), (26, false)] [23, 26] (fun x => x = ww50.drew) (by kernel_rfl) rfl ?_
                      refine p_firstP 5 [] [0, 2, 6, 26, 27, 30] (fl' := [(0, pB b7 0), (2, vI (w64 (p5.x - p6.x))), (6, vI (w64 ((w64 ((w64 ((w64 (r16 - r17)) - (w64 (r18 * (w64 (p5.x - p6.x)))))) * (w64 ((w64 ((if x2 < p5.x then x2 else p5.x) - (if x1 > p6.x then x1 else p6.x))) * (w64 ((w64 ((if x1 > p6.x then x1 else p6.x) + (if x2 < p5.x then x2 else p5.x))) - (w64 ((2 : Int) * p6.x)))))))) - (w64 (r20 * (w64 (p5.x - p6.x))))))), (26, pB b7 0), (27, pB b7 0), (30, pB b7 1)]) (obs := []) hf169 (by kernel_rfl) (by kernel_rfl) (fun _ => .nil) fun a163 hf170 => ?_
                      refine p_firstE 1 [vI y31] [0, 2, 6, 26, 27, 31] (fl' := [(0, pB b7 0), (2, vI (w64 (p5.x - p6.x))), (6, vI (w64 ((w64 ((w64 ((w64 (r16 - r17)) - (w64 (r18 * (w64 (p5.x - p6.x)))))) * (w64 ((w64 ((if x2 < p5.x then x2 else p5.x) - (if x1 > p6.x then x1 else p6.x))) * (w64 ((w64 ((if x1 > p6.x then x1 else p6.x) + (if x2 < p5.x then x2 else p5.x))) - (w64 ((2 : Int) * p6.x)))))))) - (w64 (r20 * (w64 (p5.x - p6.x))))))), (26, pB b7 0), (27, pB b7 0), (31, vI y31)]) (obs := [.cell ⟨b7, 1, none⟩ (vI y31)]) (by kernel_rfl) hf170 (by kernel_rfl) (by kernel_rfl) (.cell (hS63.box (i := 5) rfl (j := 1) rfl) .nil) fun a164 hf171 => ?_
                      refine p_firstP 6 [] [0, 2, 26, 27, 33, 34, 37] (fl' := [(0, pB b7 0), (2, vI (w64 (p5.x - p6.x))), (26, pB b7 0), (27, pB b7 0), (33, vI (w64 (y31 * (w64 (p5.x - p6.x))))), (34, vI (w64 ((w64 ((w64 ((w64 (r16 - r17)) - (w64 (r18 * (w64 (p5.x - p6.x)))))) * (w64 ((w64 ((if x2 < p5.x then x2 else p5.x) - (if x1 > p6.x then x1 else p6.x))) * (w64 ((w64 ((if x1 > p6.x then x1 else p6.x) + (if x2 < p5.x then x2 else p5.x))) - (w64 ((2 : Int) * p6.x)))))))) - (w64 (r20 * (w64 (p5.x - p6.x))))))), (37, pB b7 2)]) (obs := []) hf171 (by kernel_rfl) (by kernel_rfl) (fun _ => .nil) fun a165 hf172 => ?_
                      refine p_firstE 1 [vI y32] [0, 2, 26, 27, 33, 34, 38] (fl' := [(0, pB b7 0), (2, vI (w64 (p5.x - p6.x))), (26, pB b7 0), (27, pB b7 0), (33, vI (w64 (y31 * (w64 (p5.x - p6.x))))), (34, vI (w64 ((w64 ((w64 ((w64 (r16 - r17)) - (w64 (r18 * (w64 (p5.x - p6.x)))))) * (w64 ((w64 ((if x2 < p5.x then x2 else p5.x) - (if x1 > p6.x then x1 else p6.x))) * (w64 ((w64 ((if x1 > p6.x then x1 else p6.x) + (if x2 < p5.x then x2 else p5.x))) - (w64 ((2 : Int) * p6.x)))))))) - (w64 (r20 * (w64 (p5.x - p6.x))))))), (38, vI y32)]) (obs := [.cell ⟨b7, 2, none⟩ (vI y32)]) (by kernel_rfl) hf172 (by kernel_rfl) (by kernel_rfl) (.cell (hS63.box (i := 5) rfl (j := 2) rfl) .nil) fun a166 hf173 => ?_
                      refine p_firstP 5 [] [2, 26, 27, 40, 43] (fl' := [(2, vI (w64 (p5.x - p6.x))), (26, pB b7 0), (27, pB b7 0), (40, vI (w64 ((w64 (y31 * (w64 (p5.x - p6.x)))) + (w64 ((w64 ((w64 ((w64 ((w64 (r16 - r17)) - (w64 (r18 * (w64 (p5.x - p6.x)))))) * (w64 ((w64 ((if x2 < p5.x then x2 else p5.x) - (if x1 > p6.x then x1 else p6.x))) * (w64 ((w64 ((if x1 > p6.x then x1 else p6.x) + (if x2 < p5.x then x2 else p5.x))) - (w64 ((2 : Int) * p6.x)))))))) - (w64 (r20 * (w64 (p5.x - p6.x)))))) * y32))))), (43, pB b7 2)]) (obs := []) hf173 (by kernel_rfl) (by kernel_rfl) (fun _ => .nil) fun a167 hf174 => ?_
                      refine p_firstE 1 [vI y32] [2, 26, 27, 40, 44] (fl' := [(2, vI (w64 (p5.x - p6.x))), (26, pB b7 0), (27, pB b7 0), (40, vI (w64 ((w64 (y31 * (w64 (p5.x - p6.x)))) + (w64 ((w64 ((w64 ((w64 ((w64 (r16 - r17)) - (w64 (r18 * (w64 (p5.x - p6.x)))))) * (w64 ((w64 ((if x2 < p5.x then x2 else p5.x) - (if x1 > p6.x then x1 else p6.x))) * (w64 ((w64 ((if x1 > p6.x then x1 else p6.x) + (if x2 < p5.x then x2 else p5.x))) - (w64 ((2 : Int) * p6.x)))))))) - (w64 (r20 * (w64 (p5.x - p6.x)))))) * y32))))), (44, vI y32)]) (obs := [.cell ⟨b7, 2, none⟩ (vI y32)]) (by kernel_rfl) hf174 (by kernel_rfl) (by kernel_rfl) (.cell (hS63.box (i := 5) rfl (j := 2) rfl) .nil) fun a168 hf175 => ?_
                      refine p_firstP 4 [] [27, 40, 46, 48] (fl' := [(27, pB b7 0), (40, vI (w64 ((w64 (y31 * (w64 (p5.x - p6.x)))) + (w64 ((w64 ((w64 ((w64 ((w64 (r16 - r17)) - (w64 (r18 * (w64 (p5.x - p6.x)))))) * (w64 ((w64 ((if x2 < p5.x then x2 else p5.x) - (if x1 > p6.x then x1 else p6.x))) * (w64 ((w64 ((if x1 > p6.x then x1 else p6.x) + (if x2 < p5.x then x2 else p5.x))) - (w64 ((2 : Int) * p6.x)))))))) - (w64 (r20 * (w64 (p5.x - p6.x)))))) * y32))))), (46, vI (w64 (y32 * (w64 (p5.x - p6.x))))), (48, pB b7 1)]) (obs := []) hf175 (by kernel_rfl) (by kernel_rfl) (fun _ => .nil) fun a169 hf176 => ?_
                      refine p_store_eq (i := 23) (j := 5) (b := b7) (off := 1) (vs := [vI (w64 ((w64 (y31 * (w64 (p5.x - p6.x)))) + (w64 ((w64 ((w64 ((w64 ((w64 (r16 - r17)) - (w64 (r18 * (w64 (p5.x - p6.x)))))) * (w64 ((w64 ((if x2 < p5.x then x2 else p5.x) - (if x1 > p6.x then x1 else p6.x))) * (w64 ((w64 ((if x1 > p6.x then x1 else p6.x) + (if x2 < p5.x then x2 else p5.x))) - (w64 ((2 : Int) * p6.x)))))))) - (w64 (r20 * (w64 (p5.x - p6.x)))))) * y32))))]) (cs' := [vI (w64 ((w64 (y30 + (w64 ((w64 ((w64 ((2 : Int) * r15)) * (w64 ((if x2 < p5.x then x2 else p5.x) - (if x1 > p6.x then x1 else p6.x))))) + (w64 (r18 * (w64 ((w64 ((if x2 < p5.x then x2 else p5.x) - (if x1 > p6.x then x1 else p6.x))) * (w64 ((w64 ((if x1 > p6.x then x1 else p6.x) + (if x2 < p5.x then x2 else p5.x))) - (w64 ((2 : Int) * p6.x)))))))))))) + r19)), vI (w64 ((w64 (y31 * (w64 (p5.x - p6.x)))) + (w64 ((w64 ((w64 ((w64 ((w64 (r16 - r17)) - (w64 (r18 * (w64 (p5.x - p6.x)))))) * (w64 ((w64 ((if x2 < p5.x then x2 else p5.x) - (if x1 > p6.x then x1 else p6.x))) * (w64 ((w64 ((if x1 > p6.x then x1 else p6.x) + (if x2 < p5.x then x2 else p5.x))) - (w64 ((2 : Int) * p6.x)))))))) - (w64 (r20 * (w64 (p5.x - p6.x)))))) * y32)))), vI y32]) hS63 hf176 rfl (by kernel_rfl) (by kernel_rfl) rfl fun ww51 a170 hS64 hf177 => ⟨fun e => absurd e (by decide), ?_⟩
                      refine p_firstP 2 [] [46, 50] (fl' := [(46, vI (w64 (y32 * (w64 (p5.x - p6.x))))), (50, pB b7 2)]) (obs := []) hf177 (by kernel_rfl) (by kernel_rfl) (fun _ => .nil) fun a171 hf178 => ?_
                      refine p_store_eq (i := 26) (j := 5) (b := b7) (off := 2) (vs := [vI (w64 (y32 * (w64 (p5.x - p6.x))))]) (cs' := [vI (w64 ((w64 (y30 + (w64 ((w64 ((w64 ((2 : Int) * r15)) * (w64 ((if x2 < p5.x then x2 else p5.x) - (if x1 > p6.x then x1 else p6.x))))) + (w64 (r18 * (w64 ((w64 ((if x2 < p5.x then x2 else p5.x) - (if x1 > p6.x then x1 else p6.x))) * (w64 ((w64 ((if x1 > p6.x then x1 else p6.x) + (if x2 < p5.x then x2 else p5.x))) - (w64 ((2 : Int) * p6.x)))))))))))) + r19)), vI (w64 ((w64 (y31 * (w64 (p5.x - p6.x)))) + (w64 ((w64 ((w64 ((w64 ((w64 (r16 - r17)) - (w64 (r18 * (w64 (p5.x - p6.x)))))) * (w64 ((w64 ((if x2 < p5.x then x2 else p5.x) - (if x1 > p6.x then x1 else p6.x))) * (w64 ((w64 ((if x1 > p6.x then x1 else p6.x) + (if x2 < p5.x then x2 else p5.x))) - (w64 ((2 : Int) * p6.x)))))))) - (w64 (r20 * (w64 (p5.x - p6.x)))))) * y32)))), vI (w64 (y32 * (w64 (p5.x - p6.x))))]) hS64 hf178 rfl (by kernel_rfl) (by kernel_rfl) rfl fun ww52 a172 hS65 hf179 => ⟨fun e => absurd e (by decide), ?_⟩
                      refine p_done (by kernel_rfl) ?_
                      refine p_fall (os := []) (v := .tuple #[]) (obs := []) hf179 (by kernel_rfl) .nil ?_
                      exact ⟨_, rfl, z6, (w64 ((w64 (y30 + (w64 ((w64 ((w64 ((2 : Int) * r15)) * (w64 ((if x2 < p5.x then x2 else p5.x) - (if x1 > p6.x then x1 else p6.x))))) + (w64 (r18 * (w64 ((w64 ((if x2 < p5.x then x2 else p5.x) - (if x1 > p6.x then x1 else p6.x))) * (w64 ((w64 ((if x1 > p6.x then x1 else p6.x) + (if x2 < p5.x then x2 else p5.x))) - (w64 ((2 : Int) * p6.x)))))))))))) + r19)), (w64 ((w64 (y31 * (w64 (p5.x - p6.x)))) + (w64 ((w64 ((w64 ((w64 ((w64 (r16 - r17)) - (w64 (r18 * (w64 (p5.x - p6.x)))))) * (w64 ((w64 ((if x2 < p5.x then x2 else p5.x) - (if x1 > p6.x then x1 else p6.x))) * (w64 ((w64 ((if x1 > p6.x then x1 else p6.x) + (if x2 < p5.x then x2 else p5.x))) - (w64 ((2 : Int) * p6.x)))))))) - (w64 (r20 * (w64 (p5.x - p6.x)))))) * y32)))), (w64 (y32 * (w64 (p5.x - p6.x)))), (Zone.le_refl _), rfl, hS65, hr38⟩
                    · have hr39 := cond_f hb14 hr37
                      refine w_skip (by kernel_rfl) ?_
                      refine p_fall (os := []) (v := .tuple #[]) (obs := []) hf169 (by kernel_rfl) .nil ?_
                      exact ⟨_, rfl, z6, (w64 ((w64 (y30 + (w64 ((w64 ((w64 ((2 : Int) * r15)) * (w64 ((if x2 < p5.x then x2 else p5.x) - (if x1 > p6.x then x1 else p6.x))))) + (w64 (r18 * (w64 ((w64 ((if x2 < p5.x then x2 else p5.x) - (if x1 > p6.x then x1 else p6.x))) * (w64 ((w64 ((if x1 > p6.x then x1 else p6.x) + (if x2 < p5.x then x2 else p5.x))) - (w64 ((2 : Int) * p6.x)))))))))))) + r19)), y31, y32, (Zone.le_refl _), rfl, hS62, hr39⟩
                  · rintro v16 ww53 a173 ⟨z8, y27, y28, y29, k8, rfl, hS66, hr40⟩ hf180
                    refine ⟨fun _ => trivial, ?_⟩
                    refine p_done (by kernel_rfl) ?_
                    refine n_block ?_
                    refine p_roundN hS66 (j := 2) rfl fun ww54 a174 hS67 hf181 => ?_
                    have hS68 := St.drop 1 hS67
                    refine p_run 1 [] [0, 1, 22, 23, 24, 38] (fl' := [(0, .func (.yield l1) #[] #[]), (1, pB b8 0), (22, .slice e1 d2.length q1), (23, vI (d2.length : Int)), (24, vI y23), (38, .bool false)]) (obs := []) trivial hf181 (by kernel_rfl) (by kernel_rfl) .nil fun a175 hf182 => ?_
                    refine p_done (by kernel_rfl) ?_
                    refine n_then ?_
                    refine w_if_false hf182 (by kernel_rfl) ?_
                    refine w_skip (by kernel_rfl) ?_
                    refine n_block ?_
                    refine n_then ?_
                    have hf183 := Fr.keep (ks := [0, 1, 22, 23, 24]) (r := [(0, .func (.yield l1) #[] #[]), (1, pB b8 0), (22, .slice e1 d2.length q1), (23, vI (d2.length : Int)), (24, vI y23)]) hf182 (by kernel_rfl)
                    exact ⟨z8, y27, y28, y29, k8, hf183, (St.drop 1 hS68), hr40⟩
              · rintro a176 ww55 ⟨z7, y24, y25, y26, k9, hf184, hS69, hr41⟩
                refine w_reg (by kernel_rfl) ?_
                refine p_run 2 [] [0, 1, 22, 23, 24] (fl' := [(0, .func (.yield l1) #[] #[]), (1, pB b8 0), (22, .slice e1 d2.length q1), (23, vI (d2.length : Int)), (24, vI (w64 (y23 + (1 : Int))))]) (obs := []) trivial hf184 (by kernel_rfl) (by kernel_rfl) .nil fun a177 hf185 => ?_
                refine p_done (by kernel_rfl) ?_
                refine n_then ?_
                have hf186 := Fr.keep (ks := [0, 1, 22, 23, 24]) (r := [(0, .func (.yield l1) #[] #[]), (1, pB b8 0), (22, .slice e1 d2.length q1), (23, vI (d2.length : Int)), (24, vI (w64 (y23 + (1 : Int))))]) hf185 (by kernel_rfl)
                exact ⟨n2, Nat.lt_succ_self n2, z7, y24, y25, y26, (w64 (y23 + (1 : Int))), (Zone.le_trans k7 k9), hf186, hS69, hr41⟩
            · have hr42 := cond_f hb10 hr26
              refine w_exit (id := 0) (by kernel_rfl) ?_
              refine x_then ?_
              refine x_then ?_
              refine x_block ?_
              refine p_fall (os := []) (v := .tuple #[]) (obs := []) hf114 (by kernel_rfl) .nil ?_
              refine ⟨_, rfl, fun a178 hf187 => ?_⟩
              refine p_jump0 hS43 (j := 0) rfl (fun h => by cases h) fun ww56 hS70 => ?_
              refine n_block ?_
              refine n_then ?_
              refine w_seq (by kernel_rfl) ?_
              refine w_reg (by kernel_rfl) ?_
              refine p_run 1 [vI y30, vI y31, vI y32] [8, 93] (fl' := [(8, pB b6 0), (93, .agg #[vI y30, vI y31, vI y32])]) (obs := [.cell ⟨b7, 0, none⟩ (vI y30), .cell ⟨b7, 1, none⟩ (vI y31), .cell ⟨b7, 2, none⟩ (vI y32)]) trivial hf187 (by kernel_rfl) (by kernel_rfl) (.cell (hS70.box (i := 3) rfl (j := 0) rfl) (.cell (hS70.box (i := 3) rfl (j := 1) rfl) (.cell (hS70.box (i := 3) rfl (j := 2) rfl) .nil))) fun a179 hf188 => ?_
              refine p_store_eq (i := 1) (j := 4) (b := b6) (off := 0) (vs := [vI y30, vI y31, vI y32]) (cs' := [vI y30, vI y31, vI y32]) hS70 hf188 rfl (by kernel_rfl) (by kernel_rfl) rfl fun ww57 a180 hS71 hf189 => ⟨fun _ => trivial, ?_⟩
              refine p_done (by kernel_rfl) ?_
              refine n_then ?_
              refine w_ret (by kernel_rfl) ?_
              refine p_retM hf189 ?_
              refine p_mark hS71 (j := 1) rfl fun ww58 hS72 => ?_
              refine p_end (os := [vI y30, vI y31, vI y32]) (v := .agg #[vI y30, vI y31, vI y32]) (obs := [.cell ⟨b6, 0, none⟩ (vI y30), .cell ⟨b6, 1, none⟩ (vI y31), .cell ⟨b6, 2, none⟩ (vI y32)]) hf189 (by kernel_rfl) (.cell (hS72.box (i := 4) rfl (j := 0) rfl) (.cell (hS72.box (i := 4) rfl (j := 1) rfl) (.cell (hS72.box (i := 4) rfl (j := 2) rfl) .nil))) ?_
              exact ⟨_, rfl, z6, y30, y31, y32, k7, rfl, (St.drop 9 hS72), hr42⟩
        · rintro v17 ww59 a181 ⟨z4, y1, y2, y3, k10, rfl, hS73, hr43⟩ hf190
          refine ⟨fun _ => trivial, ?_⟩
          refine p_box (i := 4) (d := (some 10)) (cs := [vI 0, vI 0, vI 0]) (T := 95) (v := fun b12 => pB b12 0) hS73 hf190 (fun b => by kernel_rfl) fun b12 ww60 a182 hS74 hf191 => ⟨fun _ => trivial, ?_⟩
          refine p_store_eq (i := 5) (j := 0) (b := b12) (off := 0) (vs := [vI y1, vI y2, vI y3]) (cs' := [vI y1, vI y2, vI y3]) hS74 hf191 rfl (by kernel_rfl) (by kernel_rfl) rfl fun ww61 a183 hS75 hf192 => ⟨fun _ => trivial, ?_⟩
          refine p_done (by kernel_rfl) ?_
          refine n_then ?_
          refine w_seq (by kernel_rfl) ?_
          refine w_reg (by kernel_rfl) ?_
          refine p_run 3 [.slice o_x0 x0.length c_x0] [10, 32, 33, 34] (fl' := [(10, pB b12 0), (32, .agg #[.slice o_x0 x0.length c_x0]), (33, vI x1), (34, vI x2)]) (obs := [.cell ⟨b1, 0, none⟩ (.slice o_x0 x0.length c_x0)]) trivial hf192 (by kernel_rfl) (by kernel_rfl) (.cell (hS75.box (i := 1) rfl (j := 0) rfl) .nil) fun a184 hf193 => ?_
          refine p_call (i := 3) (d := some 35) (f := 82) (args := #[.agg #[.slice o_x0 x0.length c_x0], vI x1, vI x2, .func (.func 84) #[] #[]]) hf193 (by kernel_rfl) (Φ := fun v w => ∃ z9 : Zone, ∃ y4 : Int, ∃ y5 : Int, ∃ y6 : Int, Zone.le z4 z9 ∧ v = .agg #[vI y4, vI y5, vI y6] ∧ St z9 (box b12 [vI y1, vI y2, vI y3] 95 :: box b1 [.slice o_x0 x0.length c_x0] 24 :: L) w ∧ (F18_j6 fuel y1 y2 y3 y4 y5 y6) = some r) ?_ ?_
          · refine calls_intro (N := 94) Try.func82 (by kernel_rfl) fun a185 hf194 => ?_
            refine w_seq (by kernel_rfl) ?_
            refine w_reg (by kernel_rfl) ?_
            refine p_box (i := 0) (d := (some 4)) (cs := [.slice o_x0 x0.length c_x0]) (T := 24) (v := fun b13 => pB b13 0) hS75 hf194 (fun b => by kernel_rfl) fun b13 ww62 a186 hS76 hf195 => ⟨fun _ => trivial, ?_⟩
            refine p_box (i := 1) (d := (some 5)) (cs := [vI x1]) (T := 3) (v := fun b14 => pB b14 0) hS76 hf195 (fun b => by kernel_rfl) fun b14 ww63 a187 hS77 hf196 => ⟨fun _ => trivial, ?_⟩
            refine p_box (i := 2) (d := (some 6)) (cs := [vI x2]) (T := 3) (v := fun b15 => pB b15 0) hS77 hf196 (fun b => by kernel_rfl) fun b15 ww64 a188 hS78 hf197 => ⟨fun _ => trivial, ?_⟩
            refine p_box (i := 3) (d := (some 7)) (cs := [.func (.func 84) #[] #[]]) (T := 97) (v := fun b16 => pB b16 0) hS78 hf197 (fun b => by kernel_rfl) fun b16 ww65 a189 hS79 hf198 => ⟨fun _ => trivial, ?_⟩
            refine p_box (i := 4) (d := (some 8)) (cs := [vI 0, vI 0, vI 0]) (T := 95) (v := fun b17 => pB b17 0) hS79 hf198 (fun b => by kernel_rfl) fun b17 ww66 a190 hS80 hf199 => ⟨fun _ => trivial, ?_⟩
            refine p_done (by kernel_rfl) ?_
            refine n_then ?_
            refine w_seq (by kernel_rfl) ?_
            refine w_reg (by kernel_rfl) ?_
            refine p_run 1 [] [4, 5, 6, 7, 8, 18] (fl' := [(4, pB b13 0), (5, pB b14 0), (6, pB b15 0), (7, pB b16 0), (8, pB b17 0), (18, .agg #[vI 0, vI 0, vI 1])]) (obs := []) trivial hf199 (by kernel_rfl) (by kernel_rfl) .nil fun a191 hf200 => ?_
            refine p_box (i := 1) (d := (some 9)) (cs := [vI 0, vI 0, vI 0]) (T := 95) (v := fun b18 => pB b18 0) hS80 hf200 (fun b => by kernel_rfl) fun b18 ww67 a192 hS81 hf201 => ⟨fun _ => trivial, ?_⟩
            refine p_store_eq (i := 2) (j := 0) (b := b18) (off := 0) (vs := [vI 0, vI 0, vI 1]) (cs' := [vI 0, vI 0, vI 1]) hS81 hf201 rfl (by kernel_rfl) (by kernel_rfl) rfl fun ww68 a193 hS82 hf202 => ⟨fun _ => trivial, ?_⟩
            refine p_done (by kernel_rfl) ?_
            refine n_then ?_
            refine w_seq (by kernel_rfl) ?_
            refine w_seq (by kernel_rfl) ?_
            refine w_reg (by kernel_rfl) ?_
            refine p_run 1 [.slice o_x0 x0.length c_x0] [5, 6, 7, 8, 9, 19] (fl' := [(5, pB b14 0), (6, pB b15 0), (7, pB b16 0), (8, pB b17 0), (9, pB b18 0), (19, .agg #[.slice o_x0 x0.length c_x0])]) (obs := [.cell ⟨b13, 0, none⟩ (.slice o_x0 x0.length c_x0)]) trivial hf202 (by kernel_rfl) (by kernel_rfl) (.cell (hS82.box (i := 5) rfl (j := 0) rfl) .nil) fun a194 hf203 => ?_
            refine p_inl (i := 1) (d := some 20) (f := 118) (args := #[.agg #[.slice o_x0 x0.length c_x0]]) (N' := 4) hf203 (by kernel_rfl) Try.func118 (by kernel_rfl) fun a195 hf204 => ?_
            refine w_seq (by kernel_rfl) ?_
            refine w_reg (by kernel_rfl) ?_
            refine p_box (i := 0) (d := (some 1)) (cs := [.slice o_x0 x0.length c_x0]) (T := 24) (v := fun b19 => pB b19 0) hS82 hf204 (fun b => by kernel_rfl) fun b19 ww69 a196 hS83 hf205 => ⟨fun _ => trivial, ?_⟩
            refine p_run 1 [] [1] (fl' := [(1, pB b19 0)]) (obs := []) trivial hf205 (by kernel_rfl) (by kernel_rfl) .nil fun a197 hf206 => ?_
            refine p_done (by kernel_rfl) ?_
            refine n_then ?_
            refine w_seq (by kernel_rfl) ?_
            refine w_reg (by kernel_rfl) ?_
            refine p_run 2 [] [2] (fl' := [(2, .func (.func 130) #[] #[pB b19 0])]) (obs := []) trivial hf206 (by kernel_rfl) (by kernel_rfl) .nil fun a198 hf207 => ?_
            refine p_done (by kernel_rfl) ?_
            refine n_then ?_
            refine w_ret (by kernel_rfl) ?_
            refine p_ret (os := []) (v := .func (.func 130) #[] #[pB b19 0]) (obs := []) hf207 (by kernel_rfl) .nil ?_
            refine ⟨_, rfl, fun a199 hf208 => ?_⟩
            refine ⟨fun _ => trivial, ?_⟩
            refine p_done (by kernel_rfl) ?_
            refine n_then ?_
            refine w_block (id := 0) (by kernel_rfl) ?_
            have hf209 := Fr.keep (ks := [5, 6, 7, 8, 9, 20]) (r := [(5, pB b14 0), (6, pB b15 0), (7, pB b16 0), (8, pB b17 0), (9, pB b18 0), (20, .func (.func 130) #[] #[pB b19 0])]) hf208 (by kernel_rfl)
            refine w_range (g := 20) (gf := 130) (lb := #[pB b19 0]) (by kernel_rfl) hf209 hS83 (by kernel_rfl) (fun l => by kernel_rfl) fun ps2 A2 B2 hps2 hA2 hB2 l2 D2 ww70 hS84 => ?_
            refine calls_intro (N := 40) Try.func130 (by kernel_rfl) fun a200 hf210 => ?_
            refine w_seq (by kernel_rfl) ?_
            refine w_seq (by kernel_rfl) ?_
            refine w_reg (by kernel_rfl) ?_
            refine p_run 4 [.slice o_x0 x0.length c_x0] [0, 1, 8] (fl' := [(0, .func (.yield l2) #[] #[]), (1, pB b19 0), (8, .bool ((x0.length : Int) == (1 : Int)))]) (obs := [.cell ⟨b19, 0, none⟩ (.slice o_x0 x0.length c_x0)]) trivial hf210 (by kernel_rfl) (by kernel_rfl) (.cell (hS84.box (i := 2) rfl (j := 0) rfl) .nil) fun a201 hf211 => ?_
            refine p_done (by kernel_rfl) ?_
            refine n_then ?_
            refine w_if hf211 (b := ((x0.length : Int) == (1 : Int))) (by kernel_rfl) (fun hb15 => ?_) (fun hb15 => ?_)
            · have hr44 := cond_t hb15 hr43
              refine w_seq (by kernel_rfl) ?_
              refine w_regDY (by kernel_rfl) 10 [(0, true), (1, true), (2, true), (3, true), (4, true), (5, true), (6, true), (7, true), (8, true), (9, true)] [] (by kernel_rfl) ?_
              have hS85 := hS84.drew
              refine p_firstP 2 [] [1, 9, 10] (fl' := [(1, pB b19 0), (9, .func (.yield l2) #[] #[]), (10, pB b19 0)]) (obs := []) hf211 (by kernel_rfl) (by kernel_rfl) (fun _ => .nil) fun a202 hf212 => ?_
              refine p_firstE 1 [.slice o_x0 x0.length c_x0] [1, 9, 11] (fl' := [(1, pB b19 0), (9, .func (.yield l2) #[] #[]), (11, .slice o_x0 x0.length c_x0)]) (obs := [.cell ⟨b19, 0, none⟩ (.slice o_x0 x0.length c_x0)]) (by kernel_rfl) hf212 (by kernel_rfl) (by kernel_rfl) (.cell (hS85.box (i := 2) rfl (j := 0) rfl) .nil) fun a203 hf213 => ?_
              obtain ⟨p3, hp12306, hr45⟩ := bind_some hr44
              obtain ⟨ad5, ho5, hb16, cc5, hc5, hk5⟩ := SliceR.getI (SliceR.mono (Zone.le_trans (Zone.le_trans k3 k5) k10) hx_x0) hp12306
              subst hc5
              refine p_firstP 1 [.pointer (some ad5)] [1, 9, 12] (fl' := [(1, pB b19 0), (9, .func (.yield l2) #[] #[]), (12, .pointer (some (ad5.add (Int.toNat 0 * 3))))]) (obs := [.prop (o_x0 = some ad5), .prop (0 ≤ (0 : Int) ∧ (0 : Int) < (x0.length : Nat))]) hf213 (by kernel_rfl) (by kernel_rfl) (fun _ => (.prop ho5 (.prop hb16 .nil))) fun a204 hf214 => ?_
              refine p_firstE 1 [vI p3.x, vI p3.lo, vI p3.hi] [1, 9, 13] (fl' := [(1, pB b19 0), (9, .func (.yield l2) #[] #[]), (13, .agg #[vI p3.x, vI p3.lo, vI p3.hi])]) (obs := [.cell ((ad5.add (Int.toNat 0 * 3)).add 0) (vI p3.x), .cell ((ad5.add (Int.toNat 0 * 3)).add 1) (vI p3.lo), .cell ((ad5.add (Int.toNat 0 * 3)).add 2) (vI p3.hi)]) (by kernel_rfl) hf214 (by kernel_rfl) (by kernel_rfl) (.cell (hS85.cell (hk5 0 _ rfl)) (.cell (hS85.cell (hk5 1 _ rfl)) (.cell (hS85.cell (hk5 2 _ rfl)) .nil))) fun a205 hf215 => ?_
              refine p_firstP 1 [] [9, 13, 14] (fl' := [(9, .func (.yield l2) #[] #[]), (13, .agg #[vI p3.x, vI p3.lo, vI p3.hi]), (14, pB b19 0)]) (obs := []) hf215 (by kernel_rfl) (by kernel_rfl) (fun _ => .nil) fun a206 hf216 => ?_
              refine p_firstE 1 [.slice o_x0 x0.length c_x0] [9, 13, 15] (fl' := [(9, .func (.yield l2) #[] #[]), (13, .agg #[vI p3.x, vI p3.lo, vI p3.hi]), (15, .slice o_x0 x0.length c_x0)]) (obs := [.cell ⟨b19, 0, none⟩ (.slice o_x0 x0.length c_x0)]) (by kernel_rfl) hf216 (by kernel_rfl) (by kernel_rfl) (.cell (hS85.box (i := 2) rfl (j := 0) rfl) .nil) fun a207 hf217 => ?_
              obtain ⟨p4, hp12323, hr46⟩ := bind_some hr45
              obtain ⟨ad6, ho6, hb17, cc6, hc6, hk6⟩ := SliceR.getI (SliceR.mono (Zone.le_trans (Zone.le_trans k3 k5) k10) hx_x0) hp12323
              subst hc6
              refine p_firstP 1 [.pointer (some ad6)] [9, 13, 16] (fl' := [(9, .func (.yield l2) #[] #[]), (13, .agg #[vI p3.x, vI p3.lo, vI p3.hi]), (16, .pointer (some (ad6.add (Int.toNat 0 * 3))))]) (obs := [.prop (o_x0 = some ad6), .prop (0 ≤ (0 : Int) ∧ (0 : Int) < (x0.length : Nat))]) hf217 (by kernel_rfl) (by kernel_rfl) (fun _ => (.prop ho6 (.prop hb17 .nil))) fun a208 hf218 => ?_
              refine p_firstE 1 [vI p4.x, vI p4.lo, vI p4.hi] [9, 13, 17] (fl' := [(9, .func (.yield l2) #[] #[]), (13, .agg #[vI p3.x, vI p3.lo, vI p3.hi]), (17, .agg #[vI p4.x, vI p4.lo, vI p4.hi])]) (obs := [.cell ((ad6.add (Int.toNat 0 * 3)).add 0) (vI p4.x), .cell ((ad6.add (Int.toNat 0 * 3)).add 1) (vI p4.lo), .cell ((ad6.add (Int.toNat 0 * 3)).add 2) (vI p4.hi)]) (by kernel_rfl) hf218 (by kernel_rfl) (by kernel_rfl) (.cell (hS85.cell (hk6 0 _ rfl)) (.cell (hS85.cell (hk6 1 _ rfl)) (.cell (hS85.cell (hk6 2 _ rfl)) .nil))) fun a209 hf219 => ?_
              refine p_firstP 1 [] [9, 18] (fl' := [(9, .func (.yield l2) #[] #[]), (18, .agg #[vI p3.x, vI p3.lo, vI p3.hi, vI p4.x, vI p4.lo, vI p4.hi])]) (obs := []) hf219 (by kernel_rfl) (by kernel_rfl) (fun _ => .nil) fun a210 hf220 => ?_
              refine p_done (by kernel_rfl) ?_
              refine p_yield (d := some 19) (l := l2) (args := #[.agg #[vI p3.x, vI p3.lo, vI p3.hi, vI p4.x, vI p4.lo, vI p4.hi]]) hf220 (by kernel_rfl) hS85 (j := 0) rfl (by rw [hps2]; kernel_rfl) fun a211 hf221 => ?_
              rw [hps2] at hf221
              refine cw_eq hA2 ?_
              refine w_reg (by kernel_rfl) ?_
              refine p_box (i := 0) (d := (some 10)) (cs := [vI 0, vI 0, vI 0, vI 0, vI 0, vI 0]) (T := 127) (v := fun b20 => pB b20 0) hS85 hf221 (fun b => by kernel_rfl) fun b20 ww71 a212 hS86 hf222 => ⟨fun _ => trivial, ?_⟩
              refine p_store_eq (i := 1) (j := 0) (b := b20) (off := 0) (vs := [vI p3.x, vI p3.lo, vI p3.hi, vI p4.x, vI p4.lo, vI p4.hi]) (cs' := [vI p3.x, vI p3.lo, vI p3.hi, vI p4.x, vI p4.lo, vI p4.hi]) hS86 hf222 rfl (by kernel_rfl) (by kernel_rfl) rfl fun ww72 a213 hS87 hf223 => ⟨fun _ => trivial, ?_⟩
              refine p_done (by kernel_rfl) ?_
              refine n_then ?_
              refine p_begin hS87 (j := 1) rfl fun ww73 hS88 => ?_
              refine cw_eq hB2 ?_
              refine w_block (id := 1) (by kernel_rfl) ?_
              refine w_seq (by kernel_rfl) ?_
              have hS89 := hS88.drew
              refine w_regD (by kernel_rfl) [(0, true), (1, true), (2, true), (3, true), (4, true), (5, true), (6, true), (7, true), (8, true), (9, true), (10, true), (11, true)] [] (fun x => x = ww73.drew) (by kernel_rfl) rfl ?_
              refine p_firstP 2 [] [5, 6, 7, 9, 10, 23] (fl' := [(5, pB b14 0), (6, pB b15 0), (7, pB b16 0), (9, pB b18 0), (10, pB b20 0), (23, pB b20 0)]) (obs := []) hf223 (by kernel_rfl) (by kernel_rfl) (fun _ => .nil) fun a214 hf224 => ?_
              refine p_firstE 2 [vI p3.x, vI x1] [6, 7, 9, 10, 24, 25] (fl' := [(6, pB b15 0), (7, pB b16 0), (9, pB b18 0), (10, pB b20 0), (24, vI p3.x), (25, vI x1)]) (obs := [.cell ⟨b20, 0, none⟩ (vI p3.x), .cell ⟨b14, 0, none⟩ (vI x1)]) (by kernel_rfl) hf224 (by kernel_rfl) (by kernel_rfl) (.cell (hS89.box (i := 0) rfl (j := 0) rfl) (.cell (hS89.box (i := 8) rfl (j := 0) rfl) .nil)) fun a215 hf225 => ?_
              refine p_firstP 3 [] [6, 7, 9, 10, 26, 28] (fl' := [(6, pB b15 0), (7, pB b16 0), (9, pB b18 0), (10, pB b20 0), (26, vI (if x1 > p3.x then x1 else p3.x)), (28, pB b20 3)]) (obs := []) hf225 (by kernel_rfl) (by kernel_rfl) (fun _ => .nil) fun a216 hf226 => ?_
              refine p_firstE 2 [vI p4.x, vI x2] [7, 9, 10, 26, 29, 30] (fl' := [(7, pB b16 0), (9, pB b18 0), (10, pB b20 0), (26, vI (if x1 > p3.x then x1 else p3.x)), (29, vI p4.x), (30, vI x2)]) (obs := [.cell ⟨b20, 3, none⟩ (vI p4.x), .cell ⟨b15, 0, none⟩ (vI x2)]) (by kernel_rfl) hf226 (by kernel_rfl) (by kernel_rfl) (.cell (hS89.box (i := 0) rfl (j := 3) rfl) (.cell (hS89.box (i := 7) rfl (j := 0) rfl) .nil)) fun a217 hf227 => ?_
              refine p_firstP 3 [] [7, 9, 10, 11, 12] (fl' := [(7, pB b16 0), (9, pB b18 0), (10, pB b20 0), (11, vI (if x1 > p3.x then x1 else p3.x)), (12, vI (if x2 < p4.x then x2 else p4.x))]) (obs := []) hf227 (by kernel_rfl) (by kernel_rfl) (fun _ => .nil) fun a218 hf228 => ?_
              refine p_done (by kernel_rfl) ?_
              refine n_then ?_
              refine w_seq (by kernel_rfl) ?_
              refine w_seq (by kernel_rfl) ?_
              refine w_reg (by kernel_rfl) ?_
              refine p_run 3 [] [7, 9, 10, 11, 12, 34] (fl' := [(7, pB b16 0), (9, pB b18 0), (10, pB b20 0), (11, vI (if x1 > p3.x then x1 else p3.x)), (12, vI (if x2 < p4.x then x2 else p4.x)), (34, .bool (decide ((if x1 > p3.x then x1 else p3.x) ≥ (if x2 < p4.x then x2 else p4.x))))]) (obs := []) trivial hf228 (by kernel_rfl) (by kernel_rfl) .nil fun a219 hf229 => ?_
              refine p_done (by kernel_rfl) ?_
              refine n_then ?_
              refine w_if hf229 (b := (decide ((if x1 > p3.x then x1 else p3.x) ≥ (if x2 < p4.x then x2 else p4.x)))) (by kernel_rfl) (fun hb18 => ?_) (fun hb18 => ?_)
              · have hr47 := cond_t hb18 hr46
                refine w_exit (id := 1) (by kernel_rfl) ?_
                refine x_then ?_
                refine x_block ?_
                refine p_roundN hS89 (j := 1) rfl fun ww74 a220 hS90 hf230 => ?_
                have hS91 := St.drop 1 hS90
                refine p_done (by kernel_rfl) ?_
                refine n_then ?_
                refine w_ret (by kernel_rfl) ?_
                refine r_then ?_
                refine p_ret (os := []) (v := .tuple #[]) (obs := []) hf230 (by kernel_rfl) .nil ?_
                refine ⟨_, rfl, fun a221 hf231 => ?_⟩
                refine p_jump0 hS91 (j := 0) rfl (fun h => by cases h) fun ww75 hS92 => ?_
                refine n_block ?_
                refine n_then ?_
                refine w_seq (by kernel_rfl) ?_
                refine w_reg (by kernel_rfl) ?_
                refine p_run 1 [vI 0, vI 0, vI 1] [8, 93] (fl' := [(8, pB b17 0), (93, .agg #[vI 0, vI 0, vI 1])]) (obs := [.cell ⟨b18, 0, none⟩ (vI 0), .cell ⟨b18, 1, none⟩ (vI 0), .cell ⟨b18, 2, none⟩ (vI 1)]) trivial hf231 (by kernel_rfl) (by kernel_rfl) (.cell (hS92.box (i := 3) rfl (j := 0) rfl) (.cell (hS92.box (i := 3) rfl (j := 1) rfl) (.cell (hS92.box (i := 3) rfl (j := 2) rfl) .nil))) fun a222 hf232 => ?_
                refine p_store_eq (i := 1) (j := 4) (b := b17) (off := 0) (vs := [vI 0, vI 0, vI 1]) (cs' := [vI 0, vI 0, vI 1]) hS92 hf232 rfl (by kernel_rfl) (by kernel_rfl) rfl fun ww76 a223 hS93 hf233 => ⟨fun _ => trivial, ?_⟩
                refine p_done (by kernel_rfl) ?_
                refine n_then ?_
                refine w_ret (by kernel_rfl) ?_
                refine p_retM hf233 ?_
                refine p_mark hS93 (j := 1) rfl fun ww77 hS94 => ?_
                refine p_end (os := [vI 0, vI 0, vI 1]) (v := .agg #[vI 0, vI 0, vI 1]) (obs := [.cell ⟨b17, 0, none⟩ (vI 0), .cell ⟨b17, 1, none⟩ (vI 0), .cell ⟨b17, 2, none⟩ (vI 1)]) hf233 (by kernel_rfl) (.cell (hS94.box (i := 4) rfl (j := 0) rfl) (.cell (hS94.box (i := 4) rfl (j := 1) rfl) (.cell (hS94.box (i := 4) rfl (j := 2) rfl) .nil))) ?_
                exact ⟨_, rfl, z4, 0, 0, 1, (Zone.le_refl _), rfl, (St.drop 9 hS94), hr47⟩
              · have hr48 := cond_f hb18 hr46
                refine w_skip (by kernel_rfl) ?_
                refine n_then ?_
                refine w_seq (by kernel_rfl) ?_
                have hS95 := hS89.drew
                have s13 : Sub z4 (box b20 [vI p3.x, vI p3.lo, vI p3.hi, vI p4.x, vI p4.lo, vI p4.hi] 127 :: loopA l2 94 [(5, pB b14 0), (6, pB b15 0), (7, pB b16 0), (8, pB b17 0), (9, pB b18 0), (20, .func (.func 130) #[] #[pB b19 0])] ps2 A2 B2 D2 .busy none :: defA D2 :: box b19 [.slice o_x0 x0.length c_x0] 24 :: box b18 [vI 0, vI 0, vI 1] 95 :: box b17 [vI 0, vI 0, vI 0] 95 :: box b16 [.func (.func 84) #[] #[]] 97 :: box b15 [vI x2] 3 :: box b14 [vI x1] 3 :: box b13 [.slice o_x0 x0.length c_x0] 24 :: box b12 [vI y1, vI y2, vI y3] 95 :: box b1 [.slice o_x0 x0.length c_x0] 24 :: L) _ := Sub.of (Zone.le_refl _) hS95
                refine w_regD (by kernel_rfl) [(0, true), (1, true), (2, true), (4, true), (5, true), (6, true), (8, true), (9, true), (10, true), (13, true), (14, true), (15, true), (16, true), (17, true), (18, true), (19, true), (3, false), (7, false), (11, false), (12, true), (20, true), (21, true), (22, true)] [] (Sub z4 (box b20 [vI p3.x, vI p3.lo, vI p3.hi, vI p4.x, vI p4.lo, vI p4.hi] 127 :: loopA l2 94 [(5, pB b14 0), (6, pB b15 0), (7, pB b16 0), (8, pB b17 0), (9, pB b18 0), (20, .func (.func 130) #[] #[pB b19 0])] ps2 A2 B2 D2 .busy none :: defA D2 :: box b19 [.slice o_x0 x0.length c_x0] 24 :: box b18 [vI 0, vI 0, vI 1] 95 :: box b17 [vI 0, vI 0, vI 0] 95 :: box b16 [.func (.func 84) #[] #[]] 97 :: box b15 [vI x2] 3 :: box b14 [vI x1] 3 :: box b13 [.slice o_x0 x0.length c_x0] 24 :: box b12 [vI y1, vI y2, vI y3] 95 :: box b1 [.slice o_x0 x0.length c_x0] 24 :: L)) (by kernel_rfl) s13 ?_
                refine p_first 1 [.func (.func 84) #[] #[]] [7, 9, 10, 11, 12, 35] (fl' := [(7, pB b16 0), (9, pB b18 0), (10, pB b20 0), (11, vI (if x1 > p3.x then x1 else p3.x)), (12, vI (if x2 < p4.x then x2 else p4.x)), (35, .func (.func 84) #[] #[])]) (obs := [.cell ⟨b16, 0, none⟩ (.func (.func 84) #[] #[])]) s13 (by kernel_rfl) hf229 (by kernel_rfl) (by kernel_rfl) (fun _ s => (.cell (s.box (i := 6) rfl (j := 0) rfl) .nil)) fun a224 hf234 => ?_
                refine p_firstP 1 [] [7, 9, 10, 11, 12, 35, 36] (fl' := [(7, pB b16 0), (9, pB b18 0), (10, pB b20 0), (11, vI (if x1 > p3.x then x1 else p3.x)), (12, vI (if x2 < p4.x then x2 else p4.x)), (35, .func (.func 84) #[] #[]), (36, pB b20 0)]) (obs := []) hf234 (by kernel_rfl) (by kernel_rfl) (fun _ => .nil) fun a225 hf235 => ?_
                refine p_first 2 [vI p3.x, vI p3.lo, vI p3.hi, .func (.func 84) #[] #[]] [7, 9, 10, 11, 12, 35, 37, 39] (fl' := [(7, pB b16 0), (9, pB b18 0), (10, pB b20 0), (11, vI (if x1 > p3.x then x1 else p3.x)), (12, vI (if x2 < p4.x then x2 else p4.x)), (35, .func (.func 84) #[] #[]), (37, .agg #[vI p3.x, vI p3.lo, vI p3.hi]), (39, .func (.func 84) #[] #[])]) (obs := [.cell ⟨b20, 0, none⟩ (vI p3.x), .cell ⟨b20, 1, none⟩ (vI p3.lo), .cell ⟨b20, 2, none⟩ (vI p3.hi), .cell ⟨b16, 0, none⟩ (.func (.func 84) #[] #[])]) s13 (by kernel_rfl) hf235 (by kernel_rfl) (by kernel_rfl) (fun _ s => (.cell (s.box (i := 0) rfl (j := 0) rfl) (.cell (s.box (i := 0) rfl (j := 1) rfl) (.cell (s.box (i := 0) rfl (j := 2) rfl) (.cell (s.box (i := 6) rfl (j := 0) rfl) .nil))))) fun a226 hf236 => ?_
                refine p_firstP 1 [] [7, 9, 10, 11, 12, 35, 37, 39, 40] (fl' := [(7, pB b16 0), (9, pB b18 0), (10, pB b20 0), (11, vI (if x1 > p3.x then x1 else p3.x)), (12, vI (if x2 < p4.x then x2 else p4.x)), (35, .func (.func 84) #[] #[]), (37, .agg #[vI p3.x, vI p3.lo, vI p3.hi]), (39, .func (.func 84) #[] #[]), (40, pB b20 3)]) (obs := []) hf236 (by kernel_rfl) (by kernel_rfl) (fun _ => .nil) fun a227 hf237 => ?_
                refine p_first 2 [vI p4.x, vI p4.lo, vI p4.hi, .func (.func 84) #[] #[]] [9, 10, 11, 12, 35, 37, 39, 41, 43] (fl' := [(9, pB b18 0), (10, pB b20 0), (11, vI (if x1 > p3.x then x1 else p3.x)), (12, vI (if x2 < p4.x then x2 else p4.x)), (35, .func (.func 84) #[] #[]), (37, .agg #[vI p3.x, vI p3.lo, vI p3.hi]), (39, .func (.func 84) #[] #[]), (41, .agg #[vI p4.x, vI p4.lo, vI p4.hi]), (43, .func (.func 84) #[] #[])]) (obs := [.cell ⟨b20, 3, none⟩ (vI p4.x), .cell ⟨b20, 4, none⟩ (vI p4.lo), .cell ⟨b20, 5, none⟩ (vI p4.hi), .cell ⟨b16, 0, none⟩ (.func (.func 84) #[] #[])]) s13 (by kernel_rfl) hf237 (by kernel_rfl) (by kernel_rfl) (fun _ s => (.cell (s.box (i := 0) rfl (j := 3) rfl) (.cell (s.box (i := 0) rfl (j := 4) rfl) (.cell (s.box (i := 0) rfl (j := 5) rfl) (.cell (s.box (i := 6) rfl (j := 0) rfl) .nil))))) fun a228 hf238 => ?_
                refine p_firstP 1 [] [9, 10, 11, 12, 35, 37, 39, 41, 43, 44] (fl' := [(9, pB b18 0), (10, pB b20 0), (11, vI (if x1 > p3.x then x1 else p3.x)), (12, vI (if x2 < p4.x then x2 else p4.x)), (35, .func (.func 84) #[] #[]), (37, .agg #[vI p3.x, vI p3.lo, vI p3.hi]), (39, .func (.func 84) #[] #[]), (41, .agg #[vI p4.x, vI p4.lo, vI p4.hi]), (43, .func (.func 84) #[] #[]), (44, pB b20 0)]) (obs := []) hf238 (by kernel_rfl) (by kernel_rfl) (fun _ => .nil) fun a229 hf239 => ?_
                refine p_first 1 [vI p3.x, vI p3.lo, vI p3.hi] [9, 10, 11, 12, 35, 37, 39, 41, 43, 45] (fl' := [(9, pB b18 0), (10, pB b20 0), (11, vI (if x1 > p3.x then x1 else p3.x)), (12, vI (if x2 < p4.x then x2 else p4.x)), (35, .func (.func 84) #[] #[]), (37, .agg #[vI p3.x, vI p3.lo, vI p3.hi]), (39, .func (.func 84) #[] #[]), (41, .agg #[vI p4.x, vI p4.lo, vI p4.hi]), (43, .func (.func 84) #[] #[]), (45, .agg #[vI p3.x, vI p3.lo, vI p3.hi])]) (obs := [.cell ⟨b20, 0, none⟩ (vI p3.x), .cell ⟨b20, 1, none⟩ (vI p3.lo), .cell ⟨b20, 2, none⟩ (vI p3.hi)]) s13 (by kernel_rfl) hf239 (by kernel_rfl) (by kernel_rfl) (fun _ s => (.cell (s.box (i := 0) rfl (j := 0) rfl) (.cell (s.box (i := 0) rfl (j := 1) rfl) (.cell (s.box (i := 0) rfl (j := 2) rfl) .nil)))) fun a230 hf240 => ?_
                refine p_firstP 2 [] [9, 10, 11, 12, 35, 37, 39, 41, 43, 45, 49] (fl' := [(9, pB b18 0), (10, pB b20 0), (11, vI (if x1 > p3.x then x1 else p3.x)), (12, vI (if x2 < p4.x then x2 else p4.x)), (35, .func (.func 84) #[] #[]), (37, .agg #[vI p3.x, vI p3.lo, vI p3.hi]), (39, .func (.func 84) #[] #[]), (41, .agg #[vI p4.x, vI p4.lo, vI p4.hi]), (43, .func (.func 84) #[] #[]), (45, .agg #[vI p3.x, vI p3.lo, vI p3.hi]), (49, pB b20 3)]) (obs := []) hf240 (by kernel_rfl) (by kernel_rfl) (fun _ => .nil) fun a231 hf241 => ?_
                refine p_first 1 [vI p4.x] [9, 10, 11, 12, 35, 37, 39, 41, 43, 45, 50] (fl' := [(9, pB b18 0), (10, pB b20 0), (11, vI (if x1 > p3.x then x1 else p3.x)), (12, vI (if x2 < p4.x then x2 else p4.x)), (35, .func (.func 84) #[] #[]), (37, .agg #[vI p3.x, vI p3.lo, vI p3.hi]), (39, .func (.func 84) #[] #[]), (41, .agg #[vI p4.x, vI p4.lo, vI p4.hi]), (43, .func (.func 84) #[] #[]), (45, .agg #[vI p3.x, vI p3.lo, vI p3.hi]), (50, vI p4.x)]) (obs := [.cell ⟨b20, 3, none⟩ (vI p4.x)]) s13 (by kernel_rfl) hf241 (by kernel_rfl) (by kernel_rfl) (fun _ s => (.cell (s.box (i := 0) rfl (j := 3) rfl) .nil)) fun a232 hf242 => ?_
                refine p_firstP 2 [] [9, 10, 11, 12, 35, 37, 39, 41, 43, 45, 50, 52] (fl' := [(9, pB b18 0), (10, pB b20 0), (11, vI (if x1 > p3.x then x1 else p3.x)), (12, vI (if x2 < p4.x then x2 else p4.x)), (35, .func (.func 84) #[] #[]), (37, .agg #[vI p3.x, vI p3.lo, vI p3.hi]), (39, .func (.func 84) #[] #[]), (41, .agg #[vI p4.x, vI p4.lo, vI p4.hi]), (43, .func (.func 84) #[] #[]), (45, .agg #[vI p3.x, vI p3.lo, vI p3.hi]), (50, vI p4.x), (52, pB b20 0)]) (obs := []) hf242 (by kernel_rfl) (by kernel_rfl) (fun _ => .nil) fun a233 hf243 => ?_
                refine p_first 1 [vI p3.x] [9, 10, 11, 12, 35, 37, 39, 41, 43, 45, 50, 53] (fl' := [(9, pB b18 0), (10, pB b20 0), (11, vI (if x1 > p3.x then x1 else p3.x)), (12, vI (if x2 < p4.x then x2 else p4.x)), (35, .func (.func 84) #[] #[]), (37, .agg #[vI p3.x, vI p3.lo, vI p3.hi]), (39, .func (.func 84) #[] #[]), (41, .agg #[vI p4.x, vI p4.lo, vI p4.hi]), (43, .func (.func 84) #[] #[]), (45, .agg #[vI p3.x, vI p3.lo, vI p3.hi]), (50, vI p4.x), (53, vI p3.x)]) (obs := [.cell ⟨b20, 0, none⟩ (vI p3.x)]) s13 (by kernel_rfl) hf243 (by kernel_rfl) (by kernel_rfl) (fun _ s => (.cell (s.box (i := 0) rfl (j := 0) rfl) .nil)) fun a234 hf244 => ?_
                refine p_firstP 1 [] [9, 10, 11, 12, 35, 37, 39, 41, 43, 45, 54] (fl' := [(9, pB b18 0), (10, pB b20 0), (11, vI (if x1 > p3.x then x1 else p3.x)), (12, vI (if x2 < p4.x then x2 else p4.x)), (35, .func (.func 84) #[] #[]), (37, .agg #[vI p3.x, vI p3.lo, vI p3.hi]), (39, .func (.func 84) #[] #[]), (41, .agg #[vI p4.x, vI p4.lo, vI p4.hi]), (43, .func (.func 84) #[] #[]), (45, .agg #[vI p3.x, vI p3.lo, vI p3.hi]), (54, vI (w64 (p4.x - p3.x)))]) (obs := []) hf244 (by kernel_rfl) (by kernel_rfl) (fun _ => .nil) fun a235 hf245 => ?_
                obtain ⟨r9, hd16, hr49⟩ := bind_some hr48
                refine p_call (i := 3) (d := some 38) (f := 84) (args := #[.agg #[vI p3.x, vI p3.lo, vI p3.hi]]) hf245 (by kernel_rfl) (f84_ok fuel p3.x p3.lo p3.hi r9 hd16 z4 _ _ hS95 ) ?_
                rintro v18 ww78 a236 ⟨rfl, hS96⟩ hf246
                refine ⟨fun _ => Sub.of (Zone.le_refl _) hS96, ?_⟩
                have s14 : Sub z4 (box b20 [vI p3.x, vI p3.lo, vI p3.hi, vI p4.x, vI p4.lo, vI p4.hi] 127 :: loopA l2 94 [(5, pB b14 0), (6, pB b15 0), (7, pB b16 0), (8, pB b17 0), (9, pB b18 0), (20, .func (.func 130) #[] #[pB b19 0])] ps2 A2 B2 D2 .busy none :: defA D2 :: box b19 [.slice o_x0 x0.length c_x0] 24 :: box b18 [vI 0, vI 0, vI 1] 95 :: box b17 [vI 0, vI 0, vI 0] 95 :: box b16 [.func (.func 84) #[] #[]] 97 :: box b15 [vI x2] 3 :: box b14 [vI x1] 3 :: box b13 [.slice o_x0 x0.length c_x0] 24 :: box b12 [vI y1, vI y2, vI y3] 95 :: box b1 [.slice o_x0 x0.length c_x0] 24 :: L) _ := Sub.of (Zone.le_refl _) hS96
                obtain ⟨r10, hd17, hr50⟩ := bind_some hr49
                refine p_call (i := 7) (d := some 42) (f := 84) (args := #[.agg #[vI p4.x, vI p4.lo, vI p4.hi]]) hf246 (by kernel_rfl) (f84_ok fuel p4.x p4.lo p4.hi r10 hd17 z4 _ _ hS96 ) ?_
                rintro v19 ww79 a237 ⟨rfl, hS97⟩ hf247
                refine ⟨fun _ => Sub.of (Zone.le_refl _) hS97, ?_⟩
                have s15 : Sub z4 (box b20 [vI p3.x, vI p3.lo, vI p3.hi, vI p4.x, vI p4.lo, vI p4.hi] 127 :: loopA l2 94 [(5, pB b14 0), (6, pB b15 0), (7, pB b16 0), (8, pB b17 0), (9, pB b18 0), (20, .func (.func 130) #[] #[pB b19 0])] ps2 A2 B2 D2 .busy none :: defA D2 :: box b19 [.slice o_x0 x0.length c_x0] 24 :: box b18 [vI 0, vI 0, vI 1] 95 :: box b17 [vI 0, vI 0, vI 0] 95 :: box b16 [.func (.func 84) #[] #[]] 97 :: box b15 [vI x2] 3 :: box b14 [vI x1] 3 :: box b13 [.slice o_x0 x0.length c_x0] 24 :: box b12 [vI y1, vI y2, vI y3] 95 :: box b1 [.slice o_x0 x0.length c_x0] 24 :: L) _ := Sub.of (Zone.le_refl _) hS97
                obtain ⟨r11, hd18, hr51⟩ := bind_some hr50
                refine p_call (i := 11) (d := some 46) (f := 84) (args := #[.agg #[vI p3.x, vI p3.lo, vI p3.hi]]) hf247 (by kernel_rfl) (f84_ok fuel p3.x p3.lo p3.hi r11 hd18 z4 _ _ hS97 ) ?_
                rintro v20 ww80 a238 ⟨rfl, hS98⟩ hf248
                refine ⟨fun _ => Sub.of (Zone.le_refl _) hS98, ?_⟩
                have s16 : Sub z4 (box b20 [vI p3.x, vI p3.lo, vI p3.hi, vI p4.x, vI p4.lo, vI p4.hi] 127 :: loopA l2 94 [(5, pB b14 0), (6, pB b15 0), (7, pB b16 0), (8, pB b17 0), (9, pB b18 0), (20, .func (.func 130) #[] #[pB b19 0])] ps2 A2 B2 D2 .busy none :: defA D2 :: box b19 [.slice o_x0 x0.length c_x0] 24 :: box b18 [vI 0, vI 0, vI 1] 95 :: box b17 [vI 0, vI 0, vI 0] 95 :: box b16 [.func (.func 84) #[] #[]] 97 :: box b15 [vI x2] 3 :: box b14 [vI x1] 3 :: box b13 [.slice o_x0 x0.length c_x0] 24 :: box b12 [vI y1, vI y2, vI y3] 95 :: box b1 [.slice o_x0 x0.length c_x0] 24 :: L) _ := Sub.of (Zone.le_refl _) hS98
                refine p_firstP 4 [] [9, 10, 11, 12, 13, 14, 15] (fl' := [(9, pB b18 0), (10, pB b20 0), (11, vI (if x1 > p3.x then x1 else p3.x)), (12, vI (if x2 < p4.x then x2 else p4.x)), (13, vI r9), (14, vI (w64 (r10 - r11))), (15, vI (w64 (p4.x - p3.x)))]) (obs := []) hf248 (by kernel_rfl) (by kernel_rfl) (fun _ => .nil) fun a239 hf249 => ?_
                refine p_done (by kernel_rfl) ?_
                refine n_then ?_
                refine w_seq (by kernel_rfl) ?_
                refine w_reg (by kernel_rfl) ?_
                refine p_run 13 [vI p3.x] [9, 11, 12, 13, 14, 15, 16] (fl' := [(9, pB b18 0), (11, vI (if x1 > p3.x then x1 else p3.x)), (12, vI (if x2 < p4.x then x2 else p4.x)), (13, vI r9), (14, vI (w64 (r10 - r11))), (15, vI (w64 (p4.x - p3.x))), (16, vI (w64 ((w64 ((if x2 < p4.x then x2 else p4.x) - (if x1 > p3.x then x1 else p3.x))) * (w64 ((w64 ((if x1 > p3.x then x1 else p3.x) + (if x2 < p4.x then x2 else p4.x))) - (w64 ((2 : Int) * p3.x)))))))]) (obs := [.cell ⟨b20, 0, none⟩ (vI p3.x)]) trivial hf249 (by kernel_rfl) (by kernel_rfl) (.cell (hS98.box (i := 0) rfl (j := 0) rfl) .nil) fun a240 hf250 => ?_
                refine p_done (by kernel_rfl) ?_
                refine n_then ?_
                refine w_seq (by kernel_rfl) ?_
                refine w_reg (by kernel_rfl) ?_
                refine p_run 2 [] [9, 11, 12, 13, 14, 15, 16, 67, 68] (fl' := [(9, pB b18 0), (11, vI (if x1 > p3.x then x1 else p3.x)), (12, vI (if x2 < p4.x then x2 else p4.x)), (13, vI r9), (14, vI (w64 (r10 - r11))), (15, vI (w64 (p4.x - p3.x))), (16, vI (w64 ((w64 ((if x2 < p4.x then x2 else p4.x) - (if x1 > p3.x then x1 else p3.x))) * (w64 ((w64 ((if x1 > p3.x then x1 else p3.x) + (if x2 < p4.x then x2 else p4.x))) - (w64 ((2 : Int) * p3.x))))))), (67, vI (w64 (r10 - r11))), (68, vI (w64 (p4.x - p3.x)))]) (obs := []) trivial hf250 (by kernel_rfl) (by kernel_rfl) .nil fun a241 hf251 => ?_
                obtain ⟨r12, hd19, hr52⟩ := bind_some hr51
                refine p_call (i := 2) (d := some 69) (f := 85) (args := #[vI (w64 (r10 - r11)), vI (w64 (p4.x - p3.x))]) hf251 (by kernel_rfl) (f85_ok fuel (w64 (r10 - r11)) (w64 (p4.x - p3.x)) r12 hd19 z4 _ _ hS98 ) ?_
                rintro v21 ww81 a242 ⟨rfl, hS99⟩ hf252
                refine ⟨fun _ => trivial, ?_⟩
                refine p_run 1 [] [9, 11, 12, 13, 14, 15, 16, 17] (fl' := [(9, pB b18 0), (11, vI (if x1 > p3.x then x1 else p3.x)), (12, vI (if x2 < p4.x then x2 else p4.x)), (13, vI r9), (14, vI (w64 (r10 - r11))), (15, vI (w64 (p4.x - p3.x))), (16, vI (w64 ((w64 ((if x2 < p4.x then x2 else p4.x) - (if x1 > p3.x then x1 else p3.x))) * (w64 ((w64 ((if x1 > p3.x then x1 else p3.x) + (if x2 < p4.x then x2 else p4.x))) - (w64 ((2 : Int) * p3.x))))))), (17, vI r12)]) (obs := []) trivial hf252 (by kernel_rfl) (by kernel_rfl) .nil fun a243 hf253 => ?_
                refine p_done (by kernel_rfl) ?_
                refine n_then ?_
                refine w_seq (by kernel_rfl) ?_
                refine w_reg (by kernel_rfl) ?_
                refine p_run 14 [vI 0] [9, 14, 15, 16, 17, 82, 83] (fl' := [(9, pB b18 0), (14, vI (w64 (r10 - r11))), (15, vI (w64 (p4.x - p3.x))), (16, vI (w64 ((w64 ((if x2 < p4.x then x2 else p4.x) - (if x1 > p3.x then x1 else p3.x))) * (w64 ((w64 ((if x1 > p3.x then x1 else p3.x) + (if x2 < p4.x then x2 else p4.x))) - (w64 ((2 : Int) * p3.x))))))), (17, vI r12), (82, vI (w64 ((0 : Int) + (w64 ((w64 ((w64 ((2 : Int) * r9)) * (w64 ((if x2 < p4.x then x2 else p4.x) - (if x1 > p3.x then x1 else p3.x))))) + (w64 (r12 * (w64 ((w64 ((if x2 < p4.x then x2 else p4.x) - (if x1 > p3.x then x1 else p3.x))) * (w64 ((w64 ((if x1 > p3.x then x1 else p3.x) + (if x2 < p4.x then x2 else p4.x))) - (w64 ((2 : Int) * p3.x))))))))))))), (83, pB b18 0)]) (obs := [.cell ⟨b18, 0, none⟩ (vI 0)]) trivial hf253 (by kernel_rfl) (by kernel_rfl) (.cell (hS99.box (i := 4) rfl (j := 0) rfl) .nil) fun a244 hf254 => ?_
                refine p_store_eq (i := 14) (j := 4) (b := b18) (off := 0) (vs := [vI (w64 ((0 : Int) + (w64 ((w64 ((w64 ((2 : Int) * r9)) * (w64 ((if x2 < p4.x then x2 else p4.x) - (if x1 > p3.x then x1 else p3.x))))) + (w64 (r12 * (w64 ((w64 ((if x2 < p4.x then x2 else p4.x) - (if x1 > p3.x then x1 else p3.x))) * (w64 ((w64 ((if x1 > p3.x then x1 else p3.x) + (if x2 < p4.x then x2 else p4.x))) - (w64 ((2 : Int) * p3.x))))))))))))]) (cs' := [vI (w64 ((0 : Int) + (w64 ((w64 ((w64 ((2 : Int) * r9)) * (w64 ((if x2 < p4.x then x2 else p4.x) - (if x1 > p3.x then x1 else p3.x))))) + (w64 (r12 * (w64 ((w64 ((if x2 < p4.x then x2 else p4.x) - (if x1 > p3.x then x1 else p3.x))) * (w64 ((w64 ((if x1 > p3.x then x1 else p3.x) + (if x2 < p4.x then x2 else p4.x))) - (w64 ((2 : Int) * p3.x)))))))))))), vI 0, vI 1]) hS99 hf254 rfl (by kernel_rfl) (by kernel_rfl) rfl fun ww82 a245 hS100 hf255 => ⟨fun _ => trivial, ?_⟩
                refine p_done (by kernel_rfl) ?_
                refine n_then ?_
                refine w_reg (by kernel_rfl) ?_
                refine p_run 8 [] [9, 90, 91] (fl' := [(9, pB b18 0), (90, vI (w64 ((w64 ((w64 (r10 - r11)) - (w64 (r12 * (w64 (p4.x - p3.x)))))) * (w64 ((w64 ((if x2 < p4.x then x2 else p4.x) - (if x1 > p3.x then x1 else p3.x))) * (w64 ((w64 ((if x1 > p3.x then x1 else p3.x) + (if x2 < p4.x then x2 else p4.x))) - (w64 ((2 : Int) * p3.x))))))))), (91, vI (w64 (p4.x - p3.x)))]) (obs := []) trivial hf255 (by kernel_rfl) (by kernel_rfl) .nil fun a246 hf256 => ?_
                refine p_call (i := 8) (d := some 92) (f := 119) (args := #[pB b18 0, vI (w64 ((w64 ((w64 (r10 - r11)) - (w64 (r12 * (w64 (p4.x - p3.x)))))) * (w64 ((w64 ((if x2 < p4.x then x2 else p4.x) - (if x1 > p3.x then x1 else p3.x))) * (w64 ((w64 ((if x1 > p3.x then x1 else p3.x) + (if x2 < p4.x then x2 else p4.x))) - (w64 ((2 : Int) * p3.x)))))))), vI (w64 (p4.x - p3.x))]) hf256 (by kernel_rfl) (Φ := fun v w => ∃ z10 : Zone, ∃ y7 : Int, ∃ y8 : Int, ∃ y9 : Int, Zone.le z4 z10 ∧ v = .tuple #[] ∧ St z10 (box b20 [vI p3.x, vI p3.lo, vI p3.hi, vI p4.x, vI p4.lo, vI p4.hi] 127 :: loopA l2 94 [(5, pB b14 0), (6, pB b15 0), (7, pB b16 0), (8, pB b17 0), (9, pB b18 0), (20, .func (.func 130) #[] #[pB b19 0])] ps2 A2 B2 D2 .busy none :: defA D2 :: box b19 [.slice o_x0 x0.length c_x0] 24 :: box b18 [vI y7, vI y8, vI y9] 95 :: box b17 [vI 0, vI 0, vI 0] 95 :: box b16 [.func (.func 84) #[] #[]] 97 :: box b15 [vI x2] 3 :: box b14 [vI x1] 3 :: box b13 [.slice o_x0 x0.length c_x0] 24 :: box b12 [vI y1, vI y2, vI y3] 95 :: box b1 [.slice o_x0 x0.length c_x0] 24 :: L) w ∧ (F18_j7 fuel y1 y2 y3 y7 y8 y9) = some r) ?_ ?_
                · refine calls_intro (N := 51) Try.func119 (by kernel_rfl) fun a247 hf257 => ?_
                  refine w_seq (by kernel_rfl) ?_
                  have hS101 := hS100.drew
                  have s17 : Sub z4 (box b20 [vI p3.x, vI p3.lo, vI p3.hi, vI p4.x, vI p4.lo, vI p4.hi] 127 :: loopA l2 94 [(5, pB b14 0), (6, pB b15 0), (7, pB b16 0), (8, pB b17 0), (9, pB b18 0), (20, .func (.func 130) #[] #[pB b19 0])] ps2 A2 B2 D2 .busy none :: defA D2 :: box b19 [.slice o_x0 x0.length c_x0] 24 :: box b18 [vI (w64 ((0 : Int) + (w64 ((w64 ((w64 ((2 : Int) * r9)) * (w64 ((if x2 < p4.x then x2 else p4.x) - (if x1 > p3.x then x1 else p3.x))))) + (w64 (r12 * (w64 ((w64 ((if x2 < p4.x then x2 else p4.x) - (if x1 > p3.x then x1 else p3.x))) * (w64 ((w64 ((if x1 > p3.x then x1 else p3.x) + (if x2 < p4.x then x2 else p4.x))) - (w64 ((2 : Int) * p3.x)))))))))))), vI 0, vI 1] 95 :: box b17 [vI 0, vI 0, vI 0] 95 :: box b16 [.func (.func 84) #[] #[]] 97 :: box b15 [vI x2] 3 :: box b14 [vI x1] 3 :: box b13 [.slice o_x0 x0.length c_x0] 24 :: box b12 [vI y1, vI y2, vI y3] 95 :: box b1 [.slice o_x0 x0.length c_x0] 24 :: L) _ := Sub.of (Zone.le_refl _) hS101
                  refine w_regD (by kernel_rfl) [(0, true), (1, true), (2, true), (3, true), (4, true), (5, true), (6, false), (7, true), (8, true), (9, true), (10, false)] [10] (Sub z4 (box b20 [vI p3.x, vI p3.lo, vI p3.hi, vI p4.x, vI p4.lo, vI p4.hi] 127 :: loopA l2 94 [(5, pB b14 0), (6, pB b15 0), (7, pB b16 0), (8, pB b17 0), (9, pB b18 0), (20, .func (.func 130) #[] #[pB b19 0])] ps2 A2 B2 D2 .busy none :: defA D2 :: box b19 [.slice o_x0 x0.length c_x0] 24 :: box b18 [vI (w64 ((0 : Int) + (w64 ((w64 ((w64 ((2 : Int) * r9)) * (w64 ((if x2 < p4.x then x2 else p4.x) - (if x1 > p3.x then x1 else p3.x))))) + (w64 (r12 * (w64 ((w64 ((if x2 < p4.x then x2 else p4.x) - (if x1 > p3.x then x1 else p3.x))) * (w64 ((w64 ((if x1 > p3.x then x1 else p3.x) + (if x2 < p4.x then x2 else p4.x))) - (w64 ((2 : Int) * p3.x)))))))))))), vI 0, vI 1] 95 :: box b17 [vI 0, vI 0, vI 0] 95 :: box b16 [.func (.func 84) #[] #[]] 97 :: box b15 [vI x2] 3 :: box b14 [vI x1] 3 :: box b13 [.slice o_x0 x0.length c_x0] 24 :: box b12 [vI y1, vI y2, vI y3] 95 :: box b1 [.slice o_x0 x0.length c_x0] 24 :: L)) (by kernel_rfl) s17 ?_
                  refine p_firstP 3 [] [0, 1, 2, 7, 9] (fl' := [(0, pB b18 0), (1, vI (w64 ((w64 ((w64 (r10 - r11)) - (w64 (r12 * (w64 (p4.x - p3.x)))))) * (w64 ((w64 ((if x2 < p4.x then x2 else p4.x) - (if x1 > p3.x then x1 else p3.x))) * (w64 ((w64 ((if x1 > p3.x then x1 else p3.x) + (if x2 < p4.x then x2 else p4.x))) - (w64 ((2 : Int) * p3.x))))))))), (2, vI (w64 (p4.x - p3.x))), (7, pB b18 0), (9, pB b18 0)]) (obs := []) hf257 (by kernel_rfl) (by kernel_rfl) (fun _ => .nil) fun a248 hf258 => ?_
                  refine p_first 1 [vI (w64 ((0 : Int) + (w64 ((w64 ((w64 ((2 : Int) * r9)) * (w64 ((if x2 < p4.x then x2 else p4.x) - (if x1 > p3.x then x1 else p3.x))))) + (w64 (r12 * (w64 ((w64 ((if x2 < p4.x then x2 else p4.x) - (if x1 > p3.x then x1 else p3.x))) * (w64 ((w64 ((if x1 > p3.x then x1 else p3.x) + (if x2 < p4.x then x2 else p4.x))) - (w64 ((2 : Int) * p3.x))))))))))))] [0, 1, 2, 7, 10] (fl' := [(0, pB b18 0), (1, vI (w64 ((w64 ((w64 (r10 - r11)) - (w64 (r12 * (w64 (p4.x - p3.x)))))) * (w64 ((w64 ((if x2 < p4.x then x2 else p4.x) - (if x1 > p3.x then x1 else p3.x))) * (w64 ((w64 ((if x1 > p3.x then x1 else p3.x) + (if x2 < p4.x then x2 else p4.x))) - (w64 ((2 : Int) * p3.x))))))))), (2, vI (w64 (p4.x - p3.x))), (7, pB b18 0), (10, vI (w64 ((0 : Int) + (w64 ((w64 ((w64 ((2 : Int) * r9)) * (w64 ((if x2 < p4.x then x2 else p4.x) - (if x1 > p3.x then x1 else p3.x))))) + (w64 (r12 * (w64 ((w64 ((if x2 < p4.x then x2 else p4.x) - (if x1 > p3.x then x1 else p3.x))) * (w64 ((w64 ((if x1 > p3.x then x1 else p3.x) + (if x2 < p4.x then x2 else p4.x))) - (w64 ((2 : Int) * p3.x)))))))))))))]) (obs := [.cell ⟨b18, 0, none⟩ (vI (w64 ((0 : Int) + (w64 ((w64 ((w64 ((2 : Int) * r9)) * (w64 ((if x2 < p4.x then x2 else p4.x) - (if x1 > p3.x then x1 else p3.x))))) + (w64 (r12 * (w64 ((w64 ((if x2 < p4.x then x2 else p4.x) - (if x1 > p3.x then x1 else p3.x))) * (w64 ((w64 ((if x1 > p3.x then x1 else p3.x) + (if x2 < p4.x then x2 else p4.x))) - (w64 ((2 : Int) * p3.x)))))))))))))]) s17 (by kernel_rfl) hf258 (by kernel_rfl) (by kernel_rfl) (fun _ s => (.cell (s.box (i := 4) rfl (j := 0) rfl) .nil)) fun a249 hf259 => ?_
                  refine p_firstP 2 [] [0, 1, 2, 7, 10, 11, 12] (fl' := [(0, pB b18 0), (1, vI (w64 ((w64 ((w64 (r10 - r11)) - (w64 (r12 * (w64 (p4.x - p3.x)))))) * (w64 ((w64 ((if x2 < p4.x then x2 else p4.x) - (if x1 > p3.x then x1 else p3.x))) * (w64 ((w64 ((if x1 > p3.x then x1 else p3.x) + (if x2 < p4.x then x2 else p4.x))) - (w64 ((2 : Int) * p3.x))))))))), (2, vI (w64 (p4.x - p3.x))), (7, pB b18 0), (10, vI (w64 ((0 : Int) + (w64 ((w64 ((w64 ((2 : Int) * r9)) * (w64 ((if x2 < p4.x then x2 else p4.x) - (if x1 > p3.x then x1 else p3.x))))) + (w64 (r12 * (w64 ((w64 ((if x2 < p4.x then x2 else p4.x) - (if x1 > p3.x then x1 else p3.x))) * (w64 ((w64 ((if x1 > p3.x then x1 else p3.x) + (if x2 < p4.x then x2 else p4.x))) - (w64 ((2 : Int) * p3.x))))))))))))), (11, vI (w64 ((w64 ((w64 (r10 - r11)) - (w64 (r12 * (w64 (p4.x - p3.x)))))) * (w64 ((w64 ((if x2 < p4.x then x2 else p4.x) - (if x1 > p3.x then x1 else p3.x))) * (w64 ((w64 ((if x1 > p3.x then x1 else p3.x) + (if x2 < p4.x then x2 else p4.x))) - (w64 ((2 : Int) * p3.x))))))))), (12, vI (w64 (p4.x - p3.x)))]) (obs := []) hf259 (by kernel_rfl) (by kernel_rfl) (fun _ => .nil) fun a250 hf260 => ?_
                  obtain ⟨r13, hd20, hr53⟩ := bind_some hr52
                  refine p_call (i := 6) (d := some 13) (f := 85) (args := #[vI (w64 ((w64 ((w64 (r10 - r11)) - (w64 (r12 * (w64 (p4.x - p3.x)))))) * (w64 ((w64 ((if x2 < p4.x then x2 else p4.x) - (if x1 > p3.x then x1 else p3.x))) * (w64 ((w64 ((if x1 > p3.x then x1 else p3.x) + (if x2 < p4.x then x2 else p4.x))) - (w64 ((2 : Int) * p3.x)))))))), vI (w64 (p4.x - p3.x))]) hf260 (by kernel_rfl) (f85_ok fuel (w64 ((w64 ((w64 (r10 - r11)) - (w64 (r12 * (w64 (p4.x - p3.x)))))) * (w64 ((w64 ((if x2 < p4.x then x2 else p4.x) - (if x1 > p3.x then x1 else p3.x))) * (w64 ((w64 ((if x1 > p3.x then x1 else p3.x) + (if x2 < p4.x then x2 else p4.x))) - (w64 ((2 : Int) * p3.x)))))))) (w64 (p4.x - p3.x)) r13 hd20 z4 _ _ hS101 ) ?_
                  rintro v22 ww83 a251 ⟨rfl, hS102⟩ hf261
                  refine ⟨fun _ => Sub.of (Zone.le_refl _) hS102, ?_⟩
                  have s18 : Sub z4 (box b20 [vI p3.x, vI p3.lo, vI p3.hi, vI p4.x, vI p4.lo, vI p4.hi] 127 :: loopA l2 94 [(5, pB b14 0), (6, pB b15 0), (7, pB b16 0), (8, pB b17 0), (9, pB b18 0), (20, .func (.func 130) #[] #[pB b19 0])] ps2 A2 B2 D2 .busy none :: defA D2 :: box b19 [.slice o_x0 x0.length c_x0] 24 :: box b18 [vI (w64 ((0 : Int) + (w64 ((w64 ((w64 ((2 : Int) * r9)) * (w64 ((if x2 < p4.x then x2 else p4.x) - (if x1 > p3.x then x1 else p3.x))))) + (w64 (r12 * (w64 ((w64 ((if x2 < p4.x then x2 else p4.x) - (if x1 > p3.x then x1 else p3.x))) * (w64 ((w64 ((if x1 > p3.x then x1 else p3.x) + (if x2 < p4.x then x2 else p4.x))) - (w64 ((2 : Int) * p3.x)))))))))))), vI 0, vI 1] 95 :: box b17 [vI 0, vI 0, vI 0] 95 :: box b16 [.func (.func 84) #[] #[]] 97 :: box b15 [vI x2] 3 :: box b14 [vI x1] 3 :: box b13 [.slice o_x0 x0.length c_x0] 24 :: box b12 [vI y1, vI y2, vI y3] 95 :: box b1 [.slice o_x0 x0.length c_x0] 24 :: L) _ := Sub.of (Zone.le_refl _) hS102
                  refine p_firstP 3 [] [0, 1, 2, 14, 16] (fl' := [(0, pB b18 0), (1, vI (w64 ((w64 ((w64 (r10 - r11)) - (w64 (r12 * (w64 (p4.x - p3.x)))))) * (w64 ((w64 ((if x2 < p4.x then x2 else p4.x) - (if x1 > p3.x then x1 else p3.x))) * (w64 ((w64 ((if x1 > p3.x then x1 else p3.x) + (if x2 < p4.x then x2 else p4.x))) - (w64 ((2 : Int) * p3.x))))))))), (2, vI (w64 (p4.x - p3.x))), (14, vI (w64 ((w64 ((0 : Int) + (w64 ((w64 ((w64 ((2 : Int) * r9)) * (w64 ((if x2 < p4.x then x2 else p4.x) - (if x1 > p3.x then x1 else p3.x))))) + (w64 (r12 * (w64 ((w64 ((if x2 < p4.x then x2 else p4.x) - (if x1 > p3.x then x1 else p3.x))) * (w64 ((w64 ((if x1 > p3.x then x1 else p3.x) + (if x2 < p4.x then x2 else p4.x))) - (w64 ((2 : Int) * p3.x)))))))))))) + r13))), (16, pB b18 0)]) (obs := []) hf261 (by kernel_rfl) (by kernel_rfl) (fun _ => .nil) fun a252 hf262 => ?_
                  refine p_store_eq (i := 10) (j := 4) (b := b18) (off := 0) (vs := [vI (w64 ((w64 ((0 : Int) + (w64 ((w64 ((w64 ((2 : Int) * r9)) * (w64 ((if x2 < p4.x then x2 else p4.x) - (if x1 > p3.x then x1 else p3.x))))) + (w64 (r12 * (w64 ((w64 ((if x2 < p4.x then x2 else p4.x) - (if x1 > p3.x then x1 else p3.x))) * (w64 ((w64 ((if x1 > p3.x then x1 else p3.x) + (if x2 < p4.x then x2 else p4.x))) - (w64 ((2 : Int) * p3.x)))))))))))) + r13))]) (cs' := [vI (w64 ((w64 ((0 : Int) + (w64 ((w64 ((w64 ((2 : Int) * r9)) * (w64 ((if x2 < p4.x then x2 else p4.x) - (if x1 > p3.x then x1 else p3.x))))) + (w64 (r12 * (w64 ((w64 ((if x2 < p4.x then x2 else p4.x) - (if x1 > p3.x then x1 else p3.x))) * (w64 ((w64 ((if x1 > p3.x then x1 else p3.x) + (if x2 < p4.x then x2 else p4.x))) - (w64 ((2 : Int) * p3.x)))))))))))) + r13)), vI 0, vI 1]) hS102 hf262 rfl (by kernel_rfl) (by kernel_rfl) rfl fun ww84 a253 hS103 hf263 => ⟨fun e => absurd e (by decide), ?_⟩
                  refine p_done (by kernel_rfl) ?_
                  refine n_then ?_
                  refine w_seq (by kernel_rfl) ?_
                  refine w_reg (by kernel_rfl) ?_
                  refine p_run 3 [] [0, 2, 17, 18, 19] (fl' := [(0, pB b18 0), (2, vI (w64 (p4.x - p3.x))), (17, vI (w64 ((w64 ((w64 (r10 - r11)) - (w64 (r12 * (w64 (p4.x - p3.x)))))) * (w64 ((w64 ((if x2 < p4.x then x2 else p4.x) - (if x1 > p3.x then x1 else p3.x))) * (w64 ((w64 ((if x1 > p3.x then x1 else p3.x) + (if x2 < p4.x then x2 else p4.x))) - (w64 ((2 : Int) * p3.x))))))))), (18, vI (w64 ((w64 ((w64 (r10 - r11)) - (w64 (r12 * (w64 (p4.x - p3.x)))))) * (w64 ((w64 ((if x2 < p4.x then x2 else p4.x) - (if x1 > p3.x then x1 else p3.x))) * (w64 ((w64 ((if x1 > p3.x then x1 else p3.x) + (if x2 < p4.x then x2 else p4.x))) - (w64 ((2 : Int) * p3.x))))))))), (19, vI (w64 (p4.x - p3.x)))]) (obs := []) trivial hf263 (by kernel_rfl) (by kernel_rfl) .nil fun a254 hf264 => ?_
                  obtain ⟨r14, hd21, hr54⟩ := bind_some hr53
                  refine p_call (i := 3) (d := some 20) (f := 85) (args := #[vI (w64 ((w64 ((w64 (r10 - r11)) - (w64 (r12 * (w64 (p4.x - p3.x)))))) * (w64 ((w64 ((if x2 < p4.x then x2 else p4.x) - (if x1 > p3.x then x1 else p3.x))) * (w64 ((w64 ((if x1 > p3.x then x1 else p3.x) + (if x2 < p4.x then x2 else p4.x))) - (w64 ((2 : Int) * p3.x)))))))), vI (w64 (p4.x - p3.x))]) hf264 (by kernel_rfl) (f85_ok fuel (w64 ((w64 ((w64 (r10 - r11)) - (w64 (r12 * (w64 (p4.x - p3.x)))))) * (w64 ((w64 ((if x2 < p4.x then x2 else p4.x) - (if x1 > p3.x then x1 else p3.x))) * (w64 ((w64 ((if x1 > p3.x then x1 else p3.x) + (if x2 < p4.x then x2 else p4.x))) - (w64 ((2 : Int) * p3.x)))))))) (w64 (p4.x - p3.x)) r14 hd21 z4 _ _ hS103 ) ?_
                  rintro v23 ww85 a255 ⟨rfl, hS104⟩ hf265
                  refine ⟨fun _ => trivial, ?_⟩
                  refine p_run 4 [] [0, 2, 6] (fl' := [(0, pB b18 0), (2, vI (w64 (p4.x - p3.x))), (6, vI (w64 ((w64 ((w64 ((w64 (r10 - r11)) - (w64 (r12 * (w64 (p4.x - p3.x)))))) * (w64 ((w64 ((if x2 < p4.x then x2 else p4.x) - (if x1 > p3.x then x1 else p3.x))) * (w64 ((w64 ((if x1 > p3.x then x1 else p3.x) + (if x2 < p4.x then x2 else p4.x))) - (w64 ((2 : Int) * p3.x)))))))) - (w64 (r14 * (w64 (p4.x - p3.x)))))))]) (obs := []) trivial hf265 (by kernel_rfl) (by kernel_rfl) .nil fun a256 hf266 => ?_
                  refine p_done (by kernel_rfl) ?_
                  refine n_then ?_
                  refine w_seq (by kernel_rfl) ?_
                  refine w_reg (by kernel_rfl) ?_
                  refine p_run 2 [] [0, 2, 6, 25] (fl' := [(0, pB b18 0), (2, vI (w64 (p4.x - p3.x))), (6, vI (w64 ((w64 ((w64 ((w64 (r10 - r11)) - (w64 (r12 * (w64 (p4.x - p3.x)))))) * (w64 ((w64 ((if x2 < p4.x then x2 else p4.x) - (if x1 > p3.x then x1 else p3.x))) * (w64 ((w64 ((if x1 > p3.x then x1 else p3.x) + (if x2 < p4.x then x2 else p4.x))) - (w64 ((2 : Int) * p3.x)))))))) - (w64 (r14 * (w64 (p4.x - p3.x))))))), (25, .bool (decide ((w64 ((w64 ((w64 ((w64 (r10 - r11)) - (w64 (r12 * (w64 (p4.x - p3.x)))))) * (w64 ((w64 ((if x2 < p4.x then x2 else p4.x) - (if x1 > p3.x then x1 else p3.x))) * (w64 ((w64 ((if x1 > p3.x then x1 else p3.x) + (if x2 < p4.x then x2 else p4.x))) - (w64 ((2 : Int) * p3.x)))))))) - (w64 (r14 * (w64 (p4.x - p3.x)))))) > (0 : Int))))]) (obs := []) trivial hf266 (by kernel_rfl) (by kernel_rfl) .nil fun a257 hf267 => ?_
                  refine p_done (by kernel_rfl) ?_
                  refine n_then ?_
                  refine w_if hf267 (b := (decide ((w64 ((w64 ((w64 ((w64 (r10 - r11)) - (w64 (r12 * (w64 (p4.x - p3.x)))))) * (w64 ((w64 ((if x2 < p4.x then x2 else p4.x) - (if x1 > p3.x then x1 else p3.x))) * (w64 ((w64 ((if x1 > p3.x then x1 else p3.x) + (if x2 < p4.x then x2 else p4.x))) - (w64 ((2 : Int) * p3.x)))))))) - (w64 (r14 * (w64 (p4.x - p3.x)))))) > (0 : Int)))) (by kernel_rfl) (fun hb19 => ?_) (fun hb19 => ?_)
                  · have hr55 := cond_t hb19 hr54
                    have hS105 := hS104.drew
                    refine w_regD (by kernel_rfl) [(0, true), (1, true), (2, true), (3, true), (4, true), (5, true), (6, true), (7, true), (8, true), (9, true), (10, true), (11, true), (12, true), (13, true), (14, true), (15, true), (16, true), (17, true), (18, true), (19, true), (20, true), (21, true), (22, true), (23, false), (24, true), (25, true), (26, false)] [23, 26] (fun x => x = ww85.drew) (by kernel_rfl) rfl ?_
                    refine p_firstP 5 [] [0, 2, 6, 26, 27, 30] (fl' := [(0, pB b18 0), (2, vI (w64 (p4.x - p3.x))), (6, vI (w64 ((w64 ((w64 ((w64 (r10 - r11)) - (w64 (r12 * (w64 (p4.x - p3.x)))))) * (w64 ((w64 ((if x2 < p4.x then x2 else p4.x) - (if x1 > p3.x then x1 else p3.x))) * (w64 ((w64 ((if x1 > p3.x then x1 else p3.x) + (if x2 < p4.x then x2 else p4.x))) - (w64 ((2 : Int) * p3.x)))))))) - (w64 (r14 * (w64 (p4.x - p3.x))))))), (26, pB b18 0), (27, pB b18 0), (30, pB b18 1)]) (obs := []) hf267 (by kernel_rfl) (by kernel_rfl) (fun _ => .nil) fun a258 hf268 => ?_
                    refine p_firstE 1 [vI 0] [0, 2, 6, 26, 27, 31] (fl' := [(0, pB b18 0), (2, vI (w64 (p4.x - p3.x))), (6, vI (w64 ((w64 ((w64 ((w64 (r10 - r11)) - (w64 (r12 * (w64 (p4.x - p3.x)))))) * (w64 ((w64 ((if x2 < p4.x then x2 else p4.x) - (if x1 > p3.x then x1 else p3.x))) * (w64 ((w64 ((if x1 > p3.x then x1 else p3.x) + (if x2 < p4.x then x2 else p4.x))) - (w64 ((2 : Int) * p3.x)))))))) - (w64 (r14 * (w64 (p4.x - p3.x))))))), (26, pB b18 0), (27, pB b18 0), (31, vI 0)]) (obs := [.cell ⟨b18, 1, none⟩ (vI 0)]) (by kernel_rfl) hf268 (by kernel_rfl) (by kernel_rfl) (.cell (hS105.box (i := 4) rfl (j := 1) rfl) .nil) fun a259 hf269 => ?_
                    refine p_firstP 6 [] [0, 2, 26, 27, 33, 34, 37] (fl' := [(0, pB b18 0), (2, vI (w64 (p4.x - p3.x))), (26, pB b18 0), (27, pB b18 0), (33, vI (w64 ((0 : Int) * (w64 (p4.x - p3.x))))), (34, vI (w64 ((w64 ((w64 ((w64 (r10 - r11)) - (w64 (r12 * (w64 (p4.x - p3.x)))))) * (w64 ((w64 ((if x2 < p4.x then x2 else p4.x) - (if x1 > p3.x then x1 else p3.x))) * (w64 ((w64 ((if x1 > p3.x then x1 else p3.x) + (if x2 < p4.x then x2 else p4.x))) - (w64 ((2 : Int) * p3.x)))))))) - (w64 (r14 * (w64 (p4.x - p3.x))))))), (37, pB b18 2)]) (obs := []) hf269 (by kernel_rfl) (by kernel_rfl) (fun _ => .nil) fun a260 hf270 => ?_
                    refine p_firstE 1 [vI 1] [0, 2, 26, 27, 33, 34, 38] (fl' := [(0, pB b18 0), (2, vI (w64 (p4.x - p3.x))), (26, pB b18 0), (27, pB b18 0), (33, vI (w64 ((0 : Int) * (w64 (p4.x - p3.x))))), (34, vI (w64 ((w64 ((w64 ((w64 (r10 - r11)) - (w64 (r12 * (w64 (p4.x - p3.x)))))) * (w64 ((w64 ((if x2 < p4.x then x2 else p4.x) - (if x1 > p3.x then x1 else p3.x))) * (w64 ((w64 ((if x1 > p3.x then x1 else p3.x) + (if x2 < p4.x then x2 else p4.x))) - (w64 ((2 : Int) * p3.x)))))))) - (w64 (r14 * (w64 (p4.x - p3.x))))))), (38, vI 1)]) (obs := [.cell ⟨b18, 2, none⟩ (vI 1)]) (by kernel_rfl) hf270 (by kernel_rfl) (by kernel_rfl) (.cell (hS105.box (i := 4) rfl (j := 2) rfl) .nil) fun a261 hf271 => ?_
                    refine p_firstP 5 [] [2, 26, 27, 40, 43] (fl' := [(2, vI (w64 (p4.x - p3.x))), (26, pB b18 0), (27, pB b18 0), (40, vI (w64 ((w64 ((0 : Int) * (w64 (p4.x - p3.x)))) + (w64 ((w64 ((w64 ((w64 ((w64 (r10 - r11)) - (w64 (r12 * (w64 (p4.x - p3.x)))))) * (w64 ((w64 ((if x2 < p4.x then x2 else p4.x) - (if x1 > p3.x then x1 else p3.x))) * (w64 ((w64 ((if x1 > p3.x then x1 else p3.x) + (if x2 < p4.x then x2 else p4.x))) - (w64 ((2 : Int) * p3.x)))))))) - (w64 (r14 * (w64 (p4.x - p3.x)))))) * (1 : Int)))))), (43, pB b18 2)]) (obs := []) hf271 (by kernel_rfl) (by kernel_rfl) (fun _ => .nil) fun a262 hf272 => ?_
                    refine p_firstE 1 [vI 1] [2, 26, 27, 40, 44] (fl' := [(2, vI (w64 (p4.x - p3.x))), (26, pB b18 0), (27, pB b18 0), (40, vI (w64 ((w64 ((0 : Int) * (w64 (p4.x - p3.x)))) + (w64 ((w64 ((w64 ((w64 ((w64 (r10 - r11)) - (w64 (r12 * (w64 (p4.x - p3.x)))))) * (w64 ((w64 ((if x2 < p4.x then x2 else p4.x) - (if x1 > p3.x then x1 else p3.x))) * (w64 ((w64 ((if x1 > p3.x then x1 else p3.x) + (if x2 < p4.x then x2 else p4.x))) - (w64 ((2 : Int) * p3.x)))))))) - (w64 (r14 * (w64 (p4.x - p3.x)))))) * (1 : Int)))))), (44, vI 1)]) (obs := [.cell ⟨b18, 2, none⟩ (vI 1)]) (by kernel_rfl) hf272 (by kernel_rfl) (by kernel_rfl) (.cell (hS105.box (i := 4) rfl (j := 2) rfl) .nil) fun a263 hf273 => ?_
                    refine p_firstP 4 [] [27, 40, 46, 48] (fl' := [(27, pB b18 0), (40, vI (w64 ((w64 ((0 : Int) * (w64 (p4.x - p3.x)))) + (w64 ((w64 ((w64 ((w64 ((w64 (r10 - r11)) - (w64 (r12 * (w64 (p4.x - p3.x)))))) * (w64 ((w64 ((if x2 < p4.x then x2 else p4.x) - (if x1 > p3.x then x1 else p3.x))) * (w64 ((w64 ((if x1 > p3.x then x1 else p3.x) + (if x2 < p4.x then x2 else p4.x))) - (w64 ((2 : Int) * p3.x)))))))) - (w64 (r14 * (w64 (p4.x - p3.x)))))) * (1 : Int)))))), (46, vI (w64 ((1 : Int) * (w64 (p4.x - p3.x))))), (48, pB b18 1)]) (obs := []) hf273 (by kernel_rfl) (by kernel_rfl) (fun _ => .nil) fun a264 hf274 => ?_
                    refine p_store_eq (i := 23) (j := 4) (b := b18) (off := 1) (vs := [vI (w64 ((w64 ((0 : Int) * (w64 (p4.x - p3.x)))) + (w64 ((w64 ((w64 ((w64 ((w64 (r10 - r11)) - (w64 (r12 * (w64 (p4.x - p3.x)))))) * (w64 ((w64 ((if x2 < p4.x then x2 else p4.x) - (if x1 > p3.x then x1 else p3.x))) * (w64 ((w64 ((if x1 > p3.x then x1 else p3.x) + (if x2 < p4.x then x2 else p4.x))) - (w64 ((2 : Int) * p3.x)))))))) - (w64 (r14 * (w64 (p4.x - p3.x)))))) * (1 : Int)))))]) (cs' := [vI (w64 ((w64 ((0 : Int) + (w64 ((w64 ((w64 ((2 : Int) * r9)) * (w64 ((if x2 < p4.x then x2 else p4.x) - (if x1 > p3.x then x1 else p3.x))))) + (w64 (r12 * (w64 ((w64 ((if x2 < p4.x then x2 else p4.x) - (if x1 > p3.x then x1 else p3.x))) * (w64 ((w64 ((if x1 > p3.x then x1 else p3.x) + (if x2 < p4.x then x2 else p4.x))) - (w64 ((2 : Int) * p3.x)))))))))))) + r13)), vI (w64 ((w64 ((0 : Int) * (w64 (p4.x - p3.x)))) + (w64 ((w64 ((w64 ((w64 ((w64 (r10 - r11)) - (w64 (r12 * (w64 (p4.x - p3.x)))))) * (w64 ((w64 ((if x2 < p4.x then x2 else p4.x) - (if x1 > p3.x then x1 else p3.x))) * (w64 ((w64 ((if x1 > p3.x then x1 else p3.x) + (if x2 < p4.x then x2 else p4.x))) - (w64 ((2 : Int) * p3.x)))))))) - (w64 (r14 * (w64 (p4.x - p3.x)))))) * (1 : Int))))), vI 1]) hS105 hf274 rfl (by kernel_rfl) (by kernel_rfl) rfl fun ww86 a265 hS106 hf275 => ⟨fun e => absurd e (by decide), ?_⟩
                    refine p_firstP 2 [] [46, 50] (fl' := [(46, vI (w64 ((1 : Int) * (w64 (p4.x - p3.x))))), (50, pB b18 2)]) (obs := []) hf275 (by kernel_rfl) (by kernel_rfl) (fun _ => .nil) fun a266 hf276 => ?_
                    refine p_store_eq (i := 26) (j := 4) (b := b18) (off := 2) (vs := [vI (w64 ((1 : Int) * (w64 (p4.x - p3.x))))]) (cs' := [vI (w64 ((w64 ((0 : Int) + (w64 ((w64 ((w64 ((2 : Int) * r9)) * (w64 ((if x2 < p4.x then x2 else p4.x) - (if x1 > p3.x then x1 else p3.x))))) + (w64 (r12 * (w64 ((w64 ((if x2 < p4.x then x2 else p4.x) - (if x1 > p3.x then x1 else p3.x))) * (w64 ((w64 ((if x1 > p3.x then x1 else p3.x) + (if x2 < p4.x then x2 else p4.x))) - (w64 ((2 : Int) * p3.x)))))))))))) + r13)), vI (w64 ((w64 ((0 : Int) * (w64 (p4.x - p3.x)))) + (w64 ((w64 ((w64 ((w64 ((w64 (r10 - r11)) - (w64 (r12 * (w64 (p4.x - p3.x)))))) * (w64 ((w64 ((if x2 < p4.x then x2 else p4.x) - (if x1 > p3.x then x1 else p3.x))) * (w64 ((w64 ((if x1 > p3.x then x1 else p3.x) + (if x2 < p4.x then x2 else p4.x))) - (w64 ((2 : Int) * p3.x)))))))) - (w64 (r14 * (w64 (p4.x - p3.x)))))) * (1 : Int))))), vI (w64 ((1 : Int) * (w64 (p4.x - p3.x))))]) hS106 hf276 rfl (by kernel_rfl) (by kernel_rfl) rfl fun ww87 a267 hS107 hf277 => ⟨fun e => absurd e (by decide), ?_⟩
                    refine p_done (by kernel_rfl) ?_
                    refine p_fall (os := []) (v := .tuple #[]) (obs := []) hf277 (by kernel_rfl) .nil ?_
                    exact ⟨_, rfl, z4, (w64 ((w64 ((0 : Int) + (w64 ((w64 ((w64 ((2 : Int) * r9)) * (w64 ((if x2 < p4.x then x2 else p4.x) - (if x1 > p3.x then x1 else p3.x))))) + (w64 (r12 * (w64 ((w64 ((if x2 < p4.x then x2 else p4.x) - (if x1 > p3.x then x1 else p3.x))) * (w64 ((w64 ((if x1 > p3.x then x1 else p3.x) + (if x2 < p4.x then x2 else p4.x))) - (w64 ((2 : Int) * p3.x)))))))))))) + r13)), (w64 ((w64 ((0 : Int) * (w64 (p4.x - p3.x)))) + (w64 ((w64 ((w64 ((w64 ((w64 (r10 - r11)) - (w64 (r12 * (w64 (p4.x - p3.x)))))) * (w64 ((w64 ((if x2 < p4.x then x2 else p4.x) - (if x1 > p3.x then x1 else p3.x))) * (w64 ((w64 ((if x1 > p3.x then x1 else p3.x) + (if x2 < p4.x then x2 else p4.x))) - (w64 ((2 : Int) * p3.x)))))))) - (w64 (r14 * (w64 (p4.x - p3.x)))))) * (1 : Int))))), (w64 ((1 : Int) * (w64 (p4.x - p3.x)))), (Zone.le_refl _), rfl, hS107, hr55⟩
                  · have hr56 := cond_f hb19 hr54
                    refine w_skip (by kernel_rfl) ?_
                    refine p_fall (os := []) (v := .tuple #[]) (obs := []) hf267 (by kernel_rfl) .nil ?_
                    exact ⟨_, rfl, z4, (w64 ((w64 ((0 : Int) + (w64 ((w64 ((w64 ((2 : Int) * r9)) * (w64 ((if x2 < p4.x then x2 else p4.x) - (if x1 > p3.x then x1 else p3.x))))) + (w64 (r12 * (w64 ((w64 ((if x2 < p4.x then x2 else p4.x) - (if x1 > p3.x then x1 else p3.x))) * (w64 ((w64 ((if x1 > p3.x then x1 else p3.x) + (if x2 < p4.x then x2 else p4.x))) - (w64 ((2 : Int) * p3.x)))))))))))) + r13)), 0, 1, (Zone.le_refl _), rfl, hS104, hr56⟩
                · rintro v24 ww88 a268 ⟨z10, y7, y8, y9, k11, rfl, hS108, hr57⟩ hf278
                  refine ⟨fun _ => trivial, ?_⟩
                  refine p_done (by kernel_rfl) ?_
                  refine n_block ?_
                  refine p_roundN hS108 (j := 1) rfl fun ww89 a269 hS109 hf279 => ?_
                  have hS110 := St.drop 1 hS109
                  refine p_done (by kernel_rfl) ?_
                  refine n_then ?_
                  refine w_ret (by kernel_rfl) ?_
                  refine r_then ?_
                  refine p_ret (os := []) (v := .tuple #[]) (obs := []) hf279 (by kernel_rfl) .nil ?_
                  refine ⟨_, rfl, fun a270 hf280 => ?_⟩
                  refine p_jump0 hS110 (j := 0) rfl (fun h => by cases h) fun ww90 hS111 => ?_
                  refine n_block ?_
                  refine n_then ?_
                  refine w_seq (by kernel_rfl) ?_
                  refine w_reg (by kernel_rfl) ?_
                  refine p_run 1 [vI y7, vI y8, vI y9] [8, 93] (fl' := [(8, pB b17 0), (93, .agg #[vI y7, vI y8, vI y9])]) (obs := [.cell ⟨b18, 0, none⟩ (vI y7), .cell ⟨b18, 1, none⟩ (vI y8), .cell ⟨b18, 2, none⟩ (vI y9)]) trivial hf280 (by kernel_rfl) (by kernel_rfl) (.cell (hS111.box (i := 3) rfl (j := 0) rfl) (.cell (hS111.box (i := 3) rfl (j := 1) rfl) (.cell (hS111.box (i := 3) rfl (j := 2) rfl) .nil))) fun a271 hf281 => ?_
                  refine p_store_eq (i := 1) (j := 4) (b := b17) (off := 0) (vs := [vI y7, vI y8, vI y9]) (cs' := [vI y7, vI y8, vI y9]) hS111 hf281 rfl (by kernel_rfl) (by kernel_rfl) rfl fun ww91 a272 hS112 hf282 => ⟨fun _ => trivial, ?_⟩
                  refine p_done (by kernel_rfl) ?_
                  refine n_then ?_
                  refine w_ret (by kernel_rfl) ?_
                  refine p_retM hf282 ?_
                  refine p_mark hS112 (j := 1) rfl fun ww92 hS113 => ?_
                  refine p_end (os := [vI y7, vI y8, vI y9]) (v := .agg #[vI y7, vI y8, vI y9]) (obs := [.cell ⟨b17, 0, none⟩ (vI y7), .cell ⟨b17, 1, none⟩ (vI y8), .cell ⟨b17, 2, none⟩ (vI y9)]) hf282 (by kernel_rfl) (.cell (hS113.box (i := 4) rfl (j := 0) rfl) (.cell (hS113.box (i := 4) rfl (j := 1) rfl) (.cell (hS113.box (i := 4) rfl (j := 2) rfl) .nil))) ?_
                  exact ⟨_, rfl, z10, y7, y8, y9, k11, rfl, (St.drop 9 hS113), hr57⟩
            · have hr58 := cond_f hb15 hr43
              refine w_skip (by kernel_rfl) ?_
              refine n_then ?_
              refine w_seq (by kernel_rfl) ?_
              refine w_reg (by kernel_rfl) ?_
              obtain ⟨d1, hd22, hr59⟩ := bind_some hr58
              obtain ⟨e2, q2, hv2, hb20, hx2⟩ := SliceR.subV (SliceR.mono (Zone.le_trans (Zone.le_trans k3 k5) k10) hx_x0) hd22
              refine p_run 5 [.slice o_x0 x0.length c_x0, .slice e2 d1.length q2] [0, 1, 22, 23, 24] (fl' := [(0, .func (.yield l2) #[] #[]), (1, pB b19 0), (22, .slice e2 d1.length q2), (23, vI (d1.length : Int)), (24, vI 0)]) (obs := [.cell ⟨b19, 0, none⟩ (.slice o_x0 x0.length c_x0), .prop ((.slice e2 d1.length q2 : Value) = .slice (subO o_x0 c_x0 (Int.toNat 1) 3) (Int.toNat (x0.length : Int) - Int.toNat 1) (c_x0 - Int.toNat 1)), .prop ((0 : Int) ≤ 1 ∧ (1 : Int) ≤ (x0.length : Int) ∧ (x0.length : Int) ≤ (c_x0 : Nat) ∧ x0.length ≤ c_x0)]) trivial hf211 (by kernel_rfl) (by kernel_rfl) (.cell (hS84.box (i := 2) rfl (j := 0) rfl) (.prop hv2 (.prop hb20 .nil))) fun a273 hf283 => ?_
              refine p_done (by kernel_rfl) ?_
              refine n_then ?_
              refine w_block (id := 0) (by kernel_rfl) ?_
              have hf284 := Fr.keep (ks := [0, 1, 22, 23, 24]) (r := [(0, .func (.yield l2) #[] #[]), (1, pB b19 0), (22, .slice e2 d1.length q2), (23, vI (d1.length : Int)), (24, vI 0)]) hf283 (by kernel_rfl)
              refine w_loop (by kernel_rfl) (fun n a w => ∃ z11 : Zone, ∃ y17 : Int, ∃ y18 : Int, ∃ y19 : Int, ∃ y10 : Int, Zone.le z4 z11 ∧ Fr a 40 [(0, .func (.yield l2) #[] #[]), (1, pB b19 0), (22, .slice e2 d1.length q2), (23, vI (d1.length : Int)), (24, vI y10)] ∧ St z11 (loopA l2 94 [(5, pB b14 0), (6, pB b15 0), (7, pB b16 0), (8, pB b17 0), (9, pB b18 0), (20, .func (.func 130) #[] #[pB b19 0])] ps2 A2 B2 D2 .ready none :: defA D2 :: box b19 [.slice o_x0 x0.length c_x0] 24 :: box b18 [vI y17, vI y18, vI y19] 95 :: box b17 [vI 0, vI 0, vI 0] 95 :: box b16 [.func (.func 84) #[] #[]] 97 :: box b15 [vI x2] 3 :: box b14 [vI x1] 3 :: box b13 [.slice o_x0 x0.length c_x0] 24 :: box b12 [vI y1, vI y2, vI y3] 95 :: box b1 [.slice o_x0 x0.length c_x0] 24 :: L) w ∧ (F18_l2 fuel x0 x1 x2 y1 y2 y3 d1 n y17 y18 y19 y10) = some r) fuel ⟨z4, 0, 0, 1, 0, (Zone.le_refl _), hf284, hS84, hr59⟩ ?_
              rintro n4 a274 ww93 ⟨z11, y17, y18, y19, y10, k12, hf285, hS114, hr60⟩
              cases n4 with
              | zero => cases hr60
              | succ n1 =>
              refine w_seq (by kernel_rfl) ?_
              refine w_reg (by kernel_rfl) ?_
              refine p_run 1 [] [0, 1, 22, 23, 24, 25] (fl' := [(0, .func (.yield l2) #[] #[]), (1, pB b19 0), (22, .slice e2 d1.length q2), (23, vI (d1.length : Int)), (24, vI y10), (25, .bool (decide (y10 < (d1.length : Int))))]) (obs := []) trivial hf285 (by kernel_rfl) (by kernel_rfl) .nil fun a275 hf286 => ?_
              refine p_done (by kernel_rfl) ?_
              refine n_then ?_
              refine w_seq (by kernel_rfl) ?_
              refine w_if hf286 (b := (decide (y10 < (d1.length : Int)))) (by kernel_rfl) (fun hb21 => ?_) (fun hb21 => ?_)
              · have hr61 := cond_t hb21 hr60
                refine w_skip (by kernel_rfl) ?_
                refine n_then ?_
                refine w_mid (by kernel_rfl) (fun a w => ∃ z12 : Zone, ∃ y11 : Int, ∃ y12 : Int, ∃ y13 : Int, Zone.le z11 z12 ∧ Fr a 40 [(0, .func (.yield l2) #[] #[]), (1, pB b19 0), (22, .slice e2 d1.length q2), (23, vI (d1.length : Int)), (24, vI y10)] ∧ St z12 (loopA l2 94 [(5, pB b14 0), (6, pB b15 0), (7, pB b16 0), (8, pB b17 0), (9, pB b18 0), (20, .func (.func 130) #[] #[pB b19 0])] ps2 A2 B2 D2 .ready none :: defA D2 :: box b19 [.slice o_x0 x0.length c_x0] 24 :: box b18 [vI y11, vI y12, vI y13] 95 :: box b17 [vI 0, vI 0, vI 0] 95 :: box b16 [.func (.func 84) #[] #[]] 97 :: box b15 [vI x2] 3 :: box b14 [vI x1] 3 :: box b13 [.slice o_x0 x0.length c_x0] 24 :: box b12 [vI y1, vI y2, vI y3] 95 :: box b1 [.slice o_x0 x0.length c_x0] 24 :: L) w ∧ (F18_j8 (F18_l2 fuel x0 x1 x2 y1 y2 y3 d1 n1) y10 y11 y12 y13) = some r) ?_ ?_
                · skip
                  refine w_block (id := 1) (by kernel_rfl) ?_
                  refine w_seq (by kernel_rfl) ?_
                  refine w_reg (by kernel_rfl) ?_
                  obtain ⟨p1, hp15598, hr62⟩ := bind_some hr61
                  obtain ⟨ad7, ho7, hb22, cc7, hc7, hk7⟩ := SliceR.getI (SliceR.mono k12 hx2) hp15598
                  subst hc7
                  refine p_run 3 [.pointer (some ad7), vI p1.x, vI p1.lo, vI p1.hi] [0, 1, 22, 23, 24, 26, 28] (fl' := [(0, .func (.yield l2) #[] #[]), (1, pB b19 0), (22, .slice e2 d1.length q2), (23, vI (d1.length : Int)), (24, vI y10), (26, vI y10), (28, .agg #[vI p1.x, vI p1.lo, vI p1.hi])]) (obs := [.prop (e2 = some ad7), .prop (0 ≤ y10 ∧ y10 < (d1.length : Nat)), .cell ((ad7.add (Int.toNat y10 * 3)).add 0) (vI p1.x), .cell ((ad7.add (Int.toNat y10 * 3)).add 1) (vI p1.lo), .cell ((ad7.add (Int.toNat y10 * 3)).add 2) (vI p1.hi)]) trivial hf286 (by kernel_rfl) (by kernel_rfl) (.prop ho7 (.prop hb22 (.cell (hS114.cell (hk7 0 _ rfl)) (.cell (hS114.cell (hk7 1 _ rfl)) (.cell (hS114.cell (hk7 2 _ rfl)) .nil))))) fun a276 hf287 => ?_
                  refine p_box (i := 3) (d := (some 4)) (cs := [vI 0, vI 0, vI 0]) (T := 52) (v := fun b21 => pB b21 0) hS114 hf287 (fun b => by kernel_rfl) fun b21 ww94 a277 hS115 hf288 => ⟨fun _ => trivial, ?_⟩
                  refine p_run 1 [] [0, 1, 3, 4, 22, 23, 24, 28] (fl' := [(0, .func (.yield l2) #[] #[]), (1, pB b19 0), (3, vI y10), (4, pB b21 0), (22, .slice e2 d1.length q2), (23, vI (d1.length : Int)), (24, vI y10), (28, .agg #[vI p1.x, vI p1.lo, vI p1.hi])]) (obs := []) trivial hf288 (by kernel_rfl) (by kernel_rfl) .nil fun a278 hf289 => ?_
                  refine p_store_eq (i := 5) (j := 0) (b := b21) (off := 0) (vs := [vI p1.x, vI p1.lo, vI p1.hi]) (cs' := [vI p1.x, vI p1.lo, vI p1.hi]) hS115 hf289 rfl (by kernel_rfl) (by kernel_rfl) rfl fun ww95 a279 hS116 hf290 => ⟨fun _ => trivial, ?_⟩
                  refine p_done (by kernel_rfl) ?_
                  refine n_then ?_
                  refine w_seq (by kernel_rfl) ?_
                  refine w_regDY (by kernel_rfl) 8 [(0, true), (1, true), (2, true), (3, true), (4, true), (5, true), (6, true), (7, true)] [(9, false)] (by kernel_rfl) ?_
                  have hS117 := hS116.drew
                  refine p_firstP 2 [] [0, 1, 3, 4, 22, 23, 24, 29, 30] (fl' := [(0, .func (.yield l2) #[] #[]), (1, pB b19 0), (3, vI y10), (4, pB b21 0), (22, .slice e2 d1.length q2), (23, vI (d1.length : Int)), (24, vI y10), (29, .func (.yield l2) #[] #[]), (30, pB b19 0)]) (obs := []) hf290 (by kernel_rfl) (by kernel_rfl) (fun _ => .nil) fun a280 hf291 => ?_
                  refine p_firstE 1 [.slice o_x0 x0.length c_x0] [0, 1, 3, 4, 22, 23, 24, 29, 31] (fl' := [(0, .func (.yield l2) #[] #[]), (1, pB b19 0), (3, vI y10), (4, pB b21 0), (22, .slice e2 d1.length q2), (23, vI (d1.length : Int)), (24, vI y10), (29, .func (.yield l2) #[] #[]), (31, .slice o_x0 x0.length c_x0)]) (obs := [.cell ⟨b19, 0, none⟩ (.slice o_x0 x0.length c_x0)]) (by kernel_rfl) hf291 (by kernel_rfl) (by kernel_rfl) (.cell (hS117.box (i := 3) rfl (j := 0) rfl) .nil) fun a281 hf292 => ?_
                  obtain ⟨p2, hp15625, hr63⟩ := bind_some hr62
                  obtain ⟨ad8, ho8, hb23, cc8, hc8, hk8⟩ := SliceR.getI (SliceR.mono (Zone.le_trans (Zone.le_trans (Zone.le_trans k3 k5) k10) k12) hx_x0) hp15625
                  subst hc8
                  refine p_firstP 2 [.pointer (some ad8)] [0, 1, 4, 22, 23, 24, 29, 33] (fl' := [(0, .func (.yield l2) #[] #[]), (1, pB b19 0), (4, pB b21 0), (22, .slice e2 d1.length q2), (23, vI (d1.length : Int)), (24, vI y10), (29, .func (.yield l2) #[] #[]), (33, .pointer (some (ad8.add (Int.toNat y10 * 3))))]) (obs := [.prop (o_x0 = some ad8), .prop (0 ≤ y10 ∧ y10 < (x0.length : Nat))]) hf292 (by kernel_rfl) (by kernel_rfl) (fun _ => (.prop ho8 (.prop hb23 .nil))) fun a282 hf293 => ?_
                  refine p_firstE 2 [vI p2.x, vI p2.lo, vI p2.hi, vI p1.x, vI p1.lo, vI p1.hi] [0, 1, 22, 23, 24, 29, 34, 35] (fl' := [(0, .func (.yield l2) #[] #[]), (1, pB b19 0), (22, .slice e2 d1.length q2), (23, vI (d1.length : Int)), (24, vI y10), (29, .func (.yield l2) #[] #[]), (34, .agg #[vI p2.x, vI p2.lo, vI p2.hi]), (35, .agg #[vI p1.x, vI p1.lo, vI p1.hi])]) (obs := [.cell ((ad8.add (Int.toNat y10 * 3)).add 0) (vI p2.x), .cell ((ad8.add (Int.toNat y10 * 3)).add 1) (vI p2.lo), .cell ((ad8.add (Int.toNat y10 * 3)).add 2) (vI p2.hi), .cell ⟨b21, 0, none⟩ (vI p1.x), .cell ⟨b21, 1, none⟩ (vI p1.lo), .cell ⟨b21, 2, none⟩ (vI p1.hi)]) (by kernel_rfl) hf293 (by kernel_rfl) (by kernel_rfl) (.cell (hS117.cell (hk8 0 _ rfl)) (.cell (hS117.cell (hk8 1 _ rfl)) (.cell (hS117.cell (hk8 2 _ rfl)) (.cell (hS117.box (i := 0) rfl (j := 0) rfl) (.cell (hS117.box (i := 0) rfl (j := 1) rfl) (.cell (hS117.box (i := 0) rfl (j := 2) rfl) .nil)))))) fun a283 hf294 => ?_
                  refine p_firstP 1 [] [0, 1, 22, 23, 24, 29, 36] (fl' := [(0, .func (.yield l2) #[] #[]), (1, pB b19 0), (22, .slice e2 d1.length q2), (23, vI (d1.length : Int)), (24, vI y10), (29, .func (.yield l2) #[] #[]), (36, .agg #[vI p2.x, vI p2.lo, vI p2.hi, vI p1.x, vI p1.lo, vI p1.hi])]) (obs := []) hf294 (by kernel_rfl) (by kernel_rfl) (fun _ => .nil) fun a284 hf295 => ?_
                  refine p_done (by kernel_rfl) ?_
                  refine p_yield (d := some 37) (l := l2) (args := #[.agg #[vI p2.x, vI p2.lo, vI p2.hi, vI p1.x, vI p1.lo, vI p1.hi]]) hf295 (by kernel_rfl) hS117 (j := 1) rfl (by rw [hps2]; kernel_rfl) fun a285 hf296 => ?_
                  rw [hps2] at hf296
                  refine cw_eq hA2 ?_
                  refine w_reg (by kernel_rfl) ?_
                  refine p_box (i := 0) (d := (some 10)) (cs := [vI 0, vI 0, vI 0, vI 0, vI 0, vI 0]) (T := 127) (v := fun b22 => pB b22 0) hS117 hf296 (fun b => by kernel_rfl) fun b22 ww96 a286 hS118 hf297 => ⟨fun _ => trivial, ?_⟩
                  refine p_store_eq (i := 1) (j := 0) (b := b22) (off := 0) (vs := [vI p2.x, vI p2.lo, vI p2.hi, vI p1.x, vI p1.lo, vI p1.hi]) (cs' := [vI p2.x, vI p2.lo, vI p2.hi, vI p1.x, vI p1.lo, vI p1.hi]) hS118 hf297 rfl (by kernel_rfl) (by kernel_rfl) rfl fun ww97 a287 hS119 hf298 => ⟨fun _ => trivial, ?_⟩
                  refine p_done (by kernel_rfl) ?_
                  refine n_then ?_
                  refine p_begin hS119 (j := 2) rfl fun ww98 hS120 => ?_
                  refine cw_eq hB2 ?_
                  refine w_block (id := 1) (by kernel_rfl) ?_
                  refine w_seq (by kernel_rfl) ?_
                  have hS121 := hS120.drew
                  refine w_regD (by kernel_rfl) [(0, true), (1, true), (2, true), (3, true), (4, true), (5, true), (6, true), (7, true), (8, true), (9, true), (10, true), (11, true)] [] (fun x => x = ww98.drew) (by kernel_rfl) rfl ?_
                  refine p_firstP 2 [] [5, 6, 7, 9, 10, 23] (fl' := [(5, pB b14 0), (6, pB b15 0), (7, pB b16 0), (9, pB b18 0), (10, pB b22 0), (23, pB b22 0)]) (obs := []) hf298 (by kernel_rfl) (by kernel_rfl) (fun _ => .nil) fun a288 hf299 => ?_
                  refine p_firstE 2 [vI p2.x, vI x1] [6, 7, 9, 10, 24, 25] (fl' := [(6, pB b15 0), (7, pB b16 0), (9, pB b18 0), (10, pB b22 0), (24, vI p2.x), (25, vI x1)]) (obs := [.cell ⟨b22, 0, none⟩ (vI p2.x), .cell ⟨b14, 0, none⟩ (vI x1)]) (by kernel_rfl) hf299 (by kernel_rfl) (by kernel_rfl) (.cell (hS121.box (i := 0) rfl (j := 0) rfl) (.cell (hS121.box (i := 9) rfl (j := 0) rfl) .nil)) fun a289 hf300 => ?_
                  refine p_firstP 3 [] [6, 7, 9, 10, 26, 28] (fl' := [(6, pB b15 0), (7, pB b16 0), (9, pB b18 0), (10, pB b22 0), (26, vI (if x1 > p2.x then x1 else p2.x)), (28, pB b22 3)]) (obs := []) hf300 (by kernel_rfl) (by kernel_rfl) (fun _ => .nil) fun a290 hf301 => ?_
                  refine p_firstE 2 [vI p1.x, vI x2] [7, 9, 10, 26, 29, 30] (fl' := [(7, pB b16 0), (9, pB b18 0), (10, pB b22 0), (26, vI (if x1 > p2.x then x1 else p2.x)), (29, vI p1.x), (30, vI x2)]) (obs := [.cell ⟨b22, 3, none⟩ (vI p1.x), .cell ⟨b15, 0, none⟩ (vI x2)]) (by kernel_rfl) hf301 (by kernel_rfl) (by kernel_rfl) (.cell (hS121.box (i := 0) rfl (j := 3) rfl) (.cell (hS121.box (i := 8) rfl (j := 0) rfl) .nil)) fun a291 hf302 => ?_
                  refine p_firstP 3 [] [7, 9, 10, 11, 12] (fl' := [(7, pB b16 0), (9, pB b18 0), (10, pB b22 0), (11, vI (if x1 > p2.x then x1 else p2.x)), (12, vI (if x2 < p1.x then x2 else p1.x))]) (obs := []) hf302 (by kernel_rfl) (by kernel_rfl) (fun _ => .nil) fun a292 hf303 => ?_
                  refine p_done (by kernel_rfl) ?_
                  refine n_then ?_
                  refine w_seq (by kernel_rfl) ?_
                  refine w_seq (by kernel_rfl) ?_
                  refine w_reg (by kernel_rfl) ?_
                  refine p_run 3 [] [7, 9, 10, 11, 12, 34] (fl' := [(7, pB b16 0), (9, pB b18 0), (10, pB b22 0), (11, vI (if x1 > p2.x then x1 else p2.x)), (12, vI (if x2 < p1.x then x2 else p1.x)), (34, .bool (decide ((if x1 > p2.x then x1 else p2.x) ≥ (if x2 < p1.x then x2 else p1.x))))]) (obs := []) trivial hf303 (by kernel_rfl) (by kernel_rfl) .nil fun a293 hf304 => ?_
                  refine p_done (by kernel_rfl) ?_
                  refine n_then ?_
                  refine w_if hf304 (b := (decide ((if x1 > p2.x then x1 else p2.x) ≥ (if x2 < p1.x then x2 else p1.x)))) (by kernel_rfl) (fun hb24 => ?_) (fun hb24 => ?_)
                  · have hr64 := cond_t hb24 hr63
                    refine w_exit (id := 1) (by kernel_rfl) ?_
                    refine x_then ?_
                    refine x_block ?_
                    refine p_roundN hS121 (j := 2) rfl fun ww99 a294 hS122 hf305 => ?_
                    have hS123 := St.drop 1 hS122
                    refine p_run 1 [] [0, 1, 22, 23, 24, 38] (fl' := [(0, .func (.yield l2) #[] #[]), (1, pB b19 0), (22, .slice e2 d1.length q2), (23, vI (d1.length : Int)), (24, vI y10), (38, .bool false)]) (obs := []) trivial hf305 (by kernel_rfl) (by kernel_rfl) .nil fun a295 hf306 => ?_
                    refine p_done (by kernel_rfl) ?_
                    refine n_then ?_
                    refine w_if_false hf306 (by kernel_rfl) ?_
                    refine w_skip (by kernel_rfl) ?_
                    refine n_block ?_
                    refine n_then ?_
                    have hf307 := Fr.keep (ks := [0, 1, 22, 23, 24]) (r := [(0, .func (.yield l2) #[] #[]), (1, pB b19 0), (22, .slice e2 d1.length q2), (23, vI (d1.length : Int)), (24, vI y10)]) hf306 (by kernel_rfl)
                    exact ⟨z11, y17, y18, y19, (Zone.le_refl _), hf307, (St.drop 1 hS123), hr64⟩
                  · have hr65 := cond_f hb24 hr63
                    refine w_skip (by kernel_rfl) ?_
                    refine n_then ?_
                    refine w_seq (by kernel_rfl) ?_
                    have hS124 := hS121.drew
                    have s19 : Sub z11 (box b22 [vI p2.x, vI p2.lo, vI p2.hi, vI p1.x, vI p1.lo, vI p1.hi] 127 :: box b21 [vI p1.x, vI p1.lo, vI p1.hi] 52 :: loopA l2 94 [(5, pB b14 0), (6, pB b15 0), (7, pB b16 0), (8, pB b17 0), (9, pB b18 0), (20, .func (.func 130) #[] #[pB b19 0])] ps2 A2 B2 D2 .busy none :: defA D2 :: box b19 [.slice o_x0 x0.length c_x0] 24 :: box b18 [vI y17, vI y18, vI y19] 95 :: box b17 [vI 0, vI 0, vI 0] 95 :: box b16 [.func (.func 84) #[] #[]] 97 :: box b15 [vI x2] 3 :: box b14 [vI x1] 3 :: box b13 [.slice o_x0 x0.length c_x0] 24 :: box b12 [vI y1, vI y2, vI y3] 95 :: box b1 [.slice o_x0 x0.length c_x0] 24 :: L) _ := Sub.of (Zone.le_refl _) hS124
                    refine w_regD (by kernel_rfl) [(0, true), (1, true), (2, true), (4, true), (5, true), (6, true), (8, true), (9, true), (10, true), (13, true), (14, true), (15, true), (16, true), (17, true), (18, true), (19, true), (3, false), (7, false), (11, false), (12, true), (20, true), (21, true), (22, true)] [] (Sub z11 (box b22 [vI p2.x, vI p2.lo, vI p2.hi, vI p1.x, vI p1.lo, vI p1.hi] 127 :: box b21 [vI p1.x, vI p1.lo, vI p1.hi] 52 :: loopA l2 94 [(5, pB b14 0), (6, pB b15 0), (7, pB b16 0), (8, pB b17 0), (9, pB b18 0), (20, .func (.func 130) #[] #[pB b19 0])] ps2 A2 B2 D2 .busy none :: defA D2 :: box b19 [.slice o_x0 x0.length c_x0] 24 :: box b18 [vI y17, vI y18, vI y19] 95 :: box b17 [vI 0, vI 0, vI 0] 95 :: box b16 [.func (.func 84) #[] #[]] 97 :: box b15 [vI x2] 3 :: box b14 [vI x1] 3 :: box b13 [.slice o_x0 x0.length c_x0] 24 :: box b12 [vI y1, vI y2, vI y3] 95 :: box b1 [.slice o_x0 x0.length c_x0] 24 :: L)) (by kernel_rfl) s19 ?_
                    refine p_first 1 [.func (.func 84) #[] #[]] [7, 9, 10, 11, 12, 35] (fl' := [(7, pB b16 0), (9, pB b18 0), (10, pB b22 0), (11, vI (if x1 > p2.x then x1 else p2.x)), (12, vI (if x2 < p1.x then x2 else p1.x)), (35, .func (.func 84) #[] #[])]) (obs := [.cell ⟨b16, 0, none⟩ (.func (.func 84) #[] #[])]) s19 (by kernel_rfl) hf304 (by kernel_rfl) (by kernel_rfl) (fun _ s => (.cell (s.box (i := 7) rfl (j := 0) rfl) .nil)) fun a296 hf308 => ?_
                    refine p_firstP 1 [] [7, 9, 10, 11, 12, 35, 36] (fl' := [(7, pB b16 0), (9, pB b18 0), (10, pB b22 0), (11, vI (if x1 > p2.x then x1 else p2.x)), (12, vI (if x2 < p1.x then x2 else p1.x)), (35, .func (.func 84) #[] #[]), (36, pB b22 0)]) (obs := []) hf308 (by kernel_rfl) (by kernel_rfl) (fun _ => .nil) fun a297 hf309 => ?_
                    refine p_first 2 [vI p2.x, vI p2.lo, vI p2.hi, .func (.func 84) #[] #[]] [7, 9, 10, 11, 12, 35, 37, 39] (fl' := [(7, pB b16 0), (9, pB b18 0), (10, pB b22 0), (11, vI (if x1 > p2.x then x1 else p2.x)), (12, vI (if x2 < p1.x then x2 else p1.x)), (35, .func (.func 84) #[] #[]), (37, .agg #[vI p2.x, vI p2.lo, vI p2.hi]), (39, .func (.func 84) #[] #[])]) (obs := [.cell ⟨b22, 0, none⟩ (vI p2.x), .cell ⟨b22, 1, none⟩ (vI p2.lo), .cell ⟨b22, 2, none⟩ (vI p2.hi), .cell ⟨b16, 0, none⟩ (.func (.func 84) #[] #[])]) s19 (by kernel_rfl) hf309 (by kernel_rfl) (by kernel_rfl) (fun _ s => (.cell (s.box (i := 0) rfl (j := 0) rfl) (.cell (s.box (i := 0) rfl (j := 1) rfl) (.cell (s.box (i := 0) rfl (j := 2) rfl) (.cell (s.box (i := 7) rfl (j := 0) rfl) .nil))))) fun a298 hf310 => ?_
                    refine p_firstP 1 [] [7, 9, 10, 11, 12, 35, 37, 39, 40] (fl' := [(7, pB b16 0), (9, pB b18 0), (10, pB b22 0), (11, vI (if x1 > p2.x then x1 else p2.x)), (12, vI (if x2 < p1.x then x2 else p1.x)), (35, .func (.func 84) #[] #[]), (37, .agg #[vI p2.x, vI p2.lo, vI p2.hi]), (39, .func (.func 84) #[] #[]), (40, pB b22 3)]) (obs := []) hf310 (by kernel_rfl) (by kernel_rfl) (fun _ => .nil) fun a299 hf311 => ?_
                    refine p_first 2 [vI p1.x, vI p1.lo, vI p1.hi, .func (.func 84) #[] #[]] [9, 10, 11, 12, 35, 37, 39, 41, 43] (fl' := [(9, pB b18 0), (10, pB b22 0), (11, vI (if x1 > p2.x then x1 else p2.x)), (12, vI (if x2 < p1.x then x2 else p1.x)), (35, .func (.func 84) #[] #[]), (37, .agg #[vI p2.x, vI p2.lo, vI p2.hi]), (39, .func (.func 84) #[] #[]), (41, .agg #[vI p1.x, vI p1.lo, vI p1.hi]), (43, .func (.func 84) #[] #[])]) (obs := [.cell ⟨b22, 3, none⟩ (vI p1.x), .cell ⟨b22, 4, none⟩ (vI p1.lo), .cell ⟨b22, 5, none⟩ (vI p1.hi), .cell ⟨b16, 0, none⟩ (.func (.func 84) #[] #[])]) s19 (by kernel_rfl) hf311 (by kernel_rfl) (by kernel_rfl) (fun _ s => (.cell (s.box (i := 0) rfl (j := 3) rfl) (.cell (s.box (i := 0) rfl (j := 4) rfl) (.cell (s.box (i := 0) rfl (j := 5) rfl) (.cell (s.box (i := 7) rfl (j := 0) rfl) .nil))))) fun a300 hf312 => ?_
                    refine p_firstP 1 [] [9, 10, 11, 12, 35, 37, 39, 41, 43, 44] (fl' := [(9, pB b18 0), (10, pB b22 0), (11, vI (if x1 > p2.x then x1 else p2.x)), (12, vI (if x2 < p1.x then x2 else p1.x)), (35, .func (.func 84) #[] #[]), (37, .agg #[vI p2.x, vI p2.lo, vI p2.hi]), (39, .func (.func 84) #[] #[]), (41, .agg #[vI p1.x, vI p1.lo, vI p1.hi]), (43, .func (.func 84) #[] #[]), (44, pB b22 0)]) (obs := []) hf312 (by kernel_rfl) (by kernel_rfl) (fun _ => .nil) fun a301 hf313 => ?_
                    refine p_first 1 [vI p2.x, vI p2.lo, vI p2.hi] [9, 10, 11, 12, 35, 37, 39, 41, 43, 45] (fl' := [(9, pB b18 0), (10, pB b22 0), (11, vI (if x1 > p2.x then x1 else p2.x)), (12, vI (if x2 < p1.x then x2 else p1.x)), (35, .func (.func 84) #[] #[]), (37, .agg #[vI p2.x, vI p2.lo, vI p2.hi]), (39, .func (.func 84) #[] #[]), (41, .agg #[vI p1.x, vI p1.lo, vI p1.hi]), (43, .func (.func 84) #[] #[]), (45, .agg #[vI p2.x, vI p2.lo, vI p2.hi])]) (obs := [.cell ⟨b22, 0, none⟩ (vI p2.x), .cell ⟨b22, 1, none⟩ (vI p2.lo), .cell ⟨b22, 2, none⟩ (vI p2.hi)]) s19 (by kernel_rfl) hf313 (by kernel_rfl) (by kernel_rfl) (fun _ s => (.cell (s.box (i := 0) rfl (j := 0) rfl) (.cell (s.box (i := 0) rfl (j := 1) rfl) (.cell (s.box (i := 0) rfl (j := 2) rfl) .nil)))) fun a302 hf314 => ?_
                    refine p_firstP 2 [] [9, 10, 11, 12, 35, 37, 39, 41, 43, 45, 49] (fl' := [(9, pB b18 0), (10, pB b22 0), (11, vI (if x1 > p2.x then x1 else p2.x)), (12, vI (if x2 < p1.x then x2 else p1.x)), (35, .func (.func 84) #[] #[]), (37, .agg #[vI p2.x, vI p2.lo, vI p2.hi]), (39, .func (.func 84) #[] #[]), (41, .agg #[vI p1.x, vI p1.lo, vI p1.hi]), (43, .func (.func 84) #[] #[]), (45, .agg #[vI p2.x, vI p2.lo, vI p2.hi]), (49, pB b22 3)]) (obs := []) hf314 (by kernel_rfl) (by kernel_rfl) (fun _ => .nil) fun a303 hf315 => ?_
                    refine p_first 1 [vI p1.x] [9, 10, 11, 12, 35, 37, 39, 41, 43, 45, 50] (fl' := [(9, pB b18 0), (10, pB b22 0), (11, vI (if x1 > p2.x then x1 else p2.x)), (12, vI (if x2 < p1.x then x2 else p1.x)), (35, .func (.func 84) #[] #[]), (37, .agg #[vI p2.x, vI p2.lo, vI p2.hi]), (39, .func (.func 84) #[] #[]), (41, .agg #[vI p1.x, vI p1.lo, vI p1.hi]), (43, .func (.func 84) #[] #[]), (45, .agg #[vI p2.x, vI p2.lo, vI p2.hi]), (50, vI p1.x)]) (obs := [.cell ⟨b22, 3, none⟩ (vI p1.x)]) s19 (by kernel_rfl) hf315 (by kernel_rfl) (by kernel_rfl) (fun _ s => (.cell (s.box (i := 0) rfl (j := 3) rfl) .nil)) fun a304 hf316 => ?_
                    refine p_firstP 2 [] [9, 10, 11, 12, 35, 37, 39, 41, 43, 45, 50, 52] (fl' := [(9, pB b18 0), (10, pB b22 0), (11, vI (if x1 > p2.x then x1 else p2.x)), (12, vI (if x2 < p1.x then x2 else p1.x)), (35, .func (.func 84) #[] #[]), (37, .agg #[vI p2.x, vI p2.lo, vI p2.hi]), (39, .func (.func 84) #[] #[]), (41, .agg #[vI p1.x, vI p1.lo, vI p1.hi]), (43, .func (.func 84) #[] #[]), (45, .agg #[vI p2.x, vI p2.lo, vI p2.hi]), (50, vI p1.x), (52, pB b22 0)]) (obs := []) hf316 (by kernel_rfl) (by kernel_rfl) (fun _ => .nil) fun a305 hf317 => ?_
                    refine p_first 1 [vI p2.x] [9, 10, 11, 12, 35, 37, 39, 41, 43, 45, 50, 53] (fl' := [(9, pB b18 0), (10, pB b22 0), (11, vI (if x1 > p2.x then x1 else p2.x)), (12, vI (if x2 < p1.x then x2 else p1.x)), (35, .func (.func 84) #[] #[]), (37, .agg #[vI p2.x, vI p2.lo, vI p2.hi]), (39, .func (.func 84) #[] #[]), (41, .agg #[vI p1.x, vI p1.lo, vI p1.hi]), (43, .func (.func 84) #[] #[]), (45, .agg #[vI p2.x, vI p2.lo, vI p2.hi]), (50, vI p1.x), (53, vI p2.x)]) (obs := [.cell ⟨b22, 0, none⟩ (vI p2.x)]) s19 (by kernel_rfl) hf317 (by kernel_rfl) (by kernel_rfl) (fun _ s => (.cell (s.box (i := 0) rfl (j := 0) rfl) .nil)) fun a306 hf318 => ?_
                    refine p_firstP 1 [] [9, 10, 11, 12, 35, 37, 39, 41, 43, 45, 54] (fl' := [(9, pB b18 0), (10, pB b22 0), (11, vI (if x1 > p2.x then x1 else p2.x)), (12, vI (if x2 < p1.x then x2 else p1.x)), (35, .func (.func 84) #[] #[]), (37, .agg #[vI p2.x, vI p2.lo, vI p2.hi]), (39, .func (.func 84) #[] #[]), (41, .agg #[vI p1.x, vI p1.lo, vI p1.hi]), (43, .func (.func 84) #[] #[]), (45, .agg #[vI p2.x, vI p2.lo, vI p2.hi]), (54, vI (w64 (p1.x - p2.x)))]) (obs := []) hf318 (by kernel_rfl) (by kernel_rfl) (fun _ => .nil) fun a307 hf319 => ?_
                    obtain ⟨r3, hd23, hr66⟩ := bind_some hr65
                    refine p_call (i := 3) (d := some 38) (f := 84) (args := #[.agg #[vI p2.x, vI p2.lo, vI p2.hi]]) hf319 (by kernel_rfl) (f84_ok fuel p2.x p2.lo p2.hi r3 hd23 z11 _ _ hS124 ) ?_
                    rintro v25 ww100 a308 ⟨rfl, hS125⟩ hf320
                    refine ⟨fun _ => Sub.of (Zone.le_refl _) hS125, ?_⟩
                    have s20 : Sub z11 (box b22 [vI p2.x, vI p2.lo, vI p2.hi, vI p1.x, vI p1.lo, vI p1.hi] 127 :: box b21 [vI p1.x, vI p1.lo, vI p1.hi] 52 :: loopA l2 94 [(5, pB b14 0), (6, pB b15 0), (7, pB b16 0), (8, pB b17 0), (9, pB b18 0), (20, .func (.func 130) #[] #[pB b19 0])] ps2 A2 B2 D2 .busy none :: defA D2 :: box b19 [.slice o_x0 x0.length c_x0] 24 :: box b18 [vI y17, vI y18, vI y19] 95 :: box b17 [vI 0, vI 0, vI 0] 95 :: box b16 [.func (.func 84) #[] #[]] 97 :: box b15 [vI x2] 3 :: box b14 [vI x1] 3 :: box b13 [.slice o_x0 x0.length c_x0] 24 :: box b12 [vI y1, vI y2, vI y3] 95 :: box b1 [.slice o_x0 x0.length c_x0] 24 :: L) _ := Sub.of (Zone.le_refl _) hS125
                    obtain ⟨r4, hd24, hr67⟩ := bind_some hr66
                    refine p_call (i := 7) (d := some 42) (f := 84) (args := #[.agg #[vI p1.x, vI p1.lo, vI p1.hi]]) hf320 (by kernel_rfl) (f84_ok fuel p1.x p1.lo p1.hi r4 hd24 z11 _ _ hS125 ) ?_
                    rintro v26 ww101 a309 ⟨rfl, hS126⟩ hf321
                    refine ⟨fun _ => Sub.of (Zone.le_refl _) hS126, ?_⟩
                    have s21 : Sub z11 (box b22 [vI p2.x, vI p2.lo, vI p2.hi, vI p1.x, vI p1.lo, vI p1.hi] 127 :: box b21 [vI p1.x, vI p1.lo, vI p1.hi] 52 :: loopA l2 94 [(5, pB b14 0), (6, pB b15 0), (7, pB b16 0), (8, pB b17 0), (9, pB b18 0), (20, .func (.func 130) #[] #[pB b19 0])] ps2 A2 B2 D2 .busy none :: defA D2 :: box b19 [.slice o_x0 x0.length c_x0] 24 :: box b18 [vI y17, vI y18, vI y19] 95 :: box b17 [vI 0, vI 0, vI 0] 95 :: box b16 [.func (.func 84) #[] #[]] 97 :: box b15 [vI x2] 3 :: box b14 [vI x1] 3 :: box b13 [.slice o_x0 x0.length c_x0] 24 :: box b12 [vI y1, vI y2, vI y3] 95 :: box b1 [.slice o_x0 x0.length c_x0] 24 :: L) _ := Sub.of (Zone.le_refl _) hS126
                    obtain ⟨r5, hd25, hr68⟩ := bind_some hr67
                    refine p_call (i := 11) (d := some 46) (f := 84) (args := #[.agg #[vI p2.x, vI p2.lo, vI p2.hi]]) hf321 (by kernel_rfl) (f84_ok fuel p2.x p2.lo p2.hi r5 hd25 z11 _ _ hS126 ) ?_
                    rintro v27 ww102 a310 ⟨rfl, hS127⟩ hf322
                    refine ⟨fun _ => Sub.of (Zone.le_refl _) hS127, ?_⟩
                    have s22 : Sub z11 (box b22 [vI p2.x, vI p2.lo, vI p2.hi, vI p1.x, vI p1.lo, vI p1.hi] 127 :: box b21 [vI p1.x, vI p1.lo, vI p1.hi] 52 :: loopA l2 94 [(5, pB b14 0), (6, pB b15 0), (7, pB b16 0), (8, pB b17 0), (9, pB b18 0), (20, .func (.func 130) #[] #[pB b19 0])] ps2 A2 B2 D2 .busy none :: defA D2 :: box b19 [.slice o_x0 x0.length c_x0] 24 :: box b18 [vI y17, vI y18, vI y19] 95 :: box b17 [vI 0, vI 0, vI 0] 95 :: box b16 [.func (.func 84) #[] #[]] 97 :: box b15 [vI x2] 3 :: box b14 [vI x1] 3 :: box b13 [.slice o_x0 x0.length c_x0] 24 :: box b12 [vI y1, vI y2, vI y3] 95 :: box b1 [.slice o_x0 x0.length c_x0] 24 :: L) _ := Sub.of (Zone.le_refl _) hS127
                    refine p_firstP 4 [] [9, 10, 11, 12, 13, 14, 15] (fl' := [(9, pB b18 0), (10, pB b22 0), (11, vI (if x1 > p2.x then x1 else p2.x)), (12, vI (if x2 < p1.x then x2 else p1.x)), (13, vI r3), (14, vI (w64 (r4 - r5))), (15, vI (w64 (p1.x - p2.x)))]) (obs := []) hf322 (by kernel_rfl) (by kernel_rfl) (fun _ => .nil) fun a311 hf323 => ?_
                    refine p_done (by kernel_rfl) ?_
                    refine n_then ?_
                    refine w_seq (by kernel_rfl) ?_
                    refine w_reg (by kernel_rfl) ?_
                    refine p_run 13 [vI p2.x] [9, 11, 12, 13, 14, 15, 16] (fl' := [(9, pB b18 0), (11, vI (if x1 > p2.x then x1 else p2.x)), (12, vI (if x2 < p1.x then x2 else p1.x)), (13, vI r3), (14, vI (w64 (r4 - r5))), (15, vI (w64 (p1.x - p2.x))), (16, vI (w64 ((w64 ((if x2 < p1.x then x2 else p1.x) - (if x1 > p2.x then x1 else p2.x))) * (w64 ((w64 ((if x1 > p2.x then x1 else p2.x) + (if x2 < p1.x then x2 else p1.x))) - (w64 ((2 : Int) * p2.x)))))))]) (obs := [.cell ⟨b22, 0, none⟩ (vI p2.x)]) trivial hf323 (by kernel_rfl) (by kernel_rfl) (.cell (hS127.box (i := 0) rfl (j := 0) rfl) .nil) fun a312 hf324 => ?_
                    refine p_done (by kernel_rfl) ?_
                    refine n_then ?_
                    refine w_seq (by kernel_rfl) ?_
                    refine w_reg (by kernel_rfl) ?_
                    refine p_run 2 [] [9, 11, 12, 13, 14, 15, 16, 67, 68] (fl' := [(9, pB b18 0), (11, vI (if x1 > p2.x then x1 else p2.x)), (12, vI (if x2 < p1.x then x2 else p1.x)), (13, vI r3), (14, vI (w64 (r4 - r5))), (15, vI (w64 (p1.x - p2.x))), (16, vI (w64 ((w64 ((if x2 < p1.x then x2 else p1.x) - (if x1 > p2.x then x1 else p2.x))) * (w64 ((w64 ((if x1 > p2.x then x1 else p2.x) + (if x2 < p1.x then x2 else p1.x))) - (w64 ((2 : Int) * p2.x))))))), (67, vI (w64 (r4 - r5))), (68, vI (w64 (p1.x - p2.x)))]) (obs := []) trivial hf324 (by kernel_rfl) (by kernel_rfl) .nil fun a313 hf325 => ?_
                    obtain ⟨r6, hd26, hr69⟩ := bind_some hr68
                    refine p_call (i := 2) (d := some 69) (f := 85) (args := #[vI (w64 (r4 - r5)), vI (w64 (p1.x - p2.x))]) hf325 (by kernel_rfl) (f85_ok fuel (w64 (r4 - r5)) (w64 (p1.x - p2.x)) r6 hd26 z11 _ _ hS127 ) ?_
                    rintro v28 ww103 a314 ⟨rfl, hS128⟩ hf326
                    refine ⟨fun _ => trivial, ?_⟩
                    refine p_run 1 [] [9, 11, 12, 13, 14, 15, 16, 17] (fl' := [(9, pB b18 0), (11, vI (if x1 > p2.x then x1 else p2.x)), (12, vI (if x2 < p1.x then x2 else p1.x)), (13, vI r3), (14, vI (w64 (r4 - r5))), (15, vI (w64 (p1.x - p2.x))), (16, vI (w64 ((w64 ((if x2 < p1.x then x2 else p1.x) - (if x1 > p2.x then x1 else p2.x))) * (w64 ((w64 ((if x1 > p2.x then x1 else p2.x) + (if x2 < p1.x then x2 else p1.x))) - (w64 ((2 : Int) * p2.x))))))), (17, vI r6)]) (obs := []) trivial hf326 (by kernel_rfl) (by kernel_rfl) .nil fun a315 hf327 => ?_
                    refine p_done (by kernel_rfl) ?_
                    refine n_then ?_
                    refine w_seq (by kernel_rfl) ?_
                    refine w_reg (by kernel_rfl) ?_
                    refine p_run 14 [vI y17] [9, 14, 15, 16, 17, 82, 83] (fl' := [(9, pB b18 0), (14, vI (w64 (r4 - r5))), (15, vI (w64 (p1.x - p2.x))), (16, vI (w64 ((w64 ((if x2 < p1.x then x2 else p1.x) - (if x1 > p2.x then x1 else p2.x))) * (w64 ((w64 ((if x1 > p2.x then x1 else p2.x) + (if x2 < p1.x then x2 else p1.x))) - (w64 ((2 : Int) * p2.x))))))), (17, vI r6), (82, vI (w64 (y17 + (w64 ((w64 ((w64 ((2 : Int) * r3)) * (w64 ((if x2 < p1.x then x2 else p1.x) - (if x1 > p2.x then x1 else p2.x))))) + (w64 (r6 * (w64 ((w64 ((if x2 < p1.x then x2 else p1.x) - (if x1 > p2.x then x1 else p2.x))) * (w64 ((w64 ((if x1 > p2.x then x1 else p2.x) + (if x2 < p1.x then x2 else p1.x))) - (w64 ((2 : Int) * p2.x))))))))))))), (83, pB b18 0)]) (obs := [.cell ⟨b18, 0, none⟩ (vI y17)]) trivial hf327 (by kernel_rfl) (by kernel_rfl) (.cell (hS128.box (i := 5) rfl (j := 0) rfl) .nil) fun a316 hf328 => ?_
                    refine p_store_eq (i := 14) (j := 5) (b := b18) (off := 0) (vs := [vI (w64 (y17 + (w64 ((w64 ((w64 ((2 : Int) * r3)) * (w64 ((if x2 < p1.x then x2 else p1.x) - (if x1 > p2.x then x1 else p2.x))))) + (w64 (r6 * (w64 ((w64 ((if x2 < p1.x then x2 else p1.x) - (if x1 > p2.x then x1 else p2.x))) * (w64 ((w64 ((if x1 > p2.x then x1 else p2.x) + (if x2 < p1.x then x2 else p1.x))) - (w64 ((2 : Int) * p2.x))))))))))))]) (cs' := [vI (w64 (y17 + (w64 ((w64 ((w64 ((2 : Int) * r3)) * (w64 ((if x2 < p1.x then x2 else p1.x) - (if x1 > p2.x then x1 else p2.x))))) + (w64 (r6 * (w64 ((w64 ((if x2 < p1.x then x2 else p1.x) - (if x1 > p2.x then x1 else p2.x))) * (w64 ((w64 ((if x1 > p2.x then x1 else p2.x) + (if x2 < p1.x then x2 else p1.x))) - (w64 ((2 : Int) * p2.x)))))))))))), vI y18, vI y19]) hS128 hf328 rfl (by kernel_rfl) (by kernel_rfl) rfl fun ww104 a317 hS129 hf329 => ⟨fun _ => trivial, ?_⟩
                    refine p_done (by kernel_rfl) ?_
                    refine n_then ?_
                    refine w_reg (by kernel_rfl) ?_
                    refine p_run 8 [] [9, 90, 91] (fl' := [(9, pB b18 0), (90, vI (w64 ((w64 ((w64 (r4 - r5)) - (w64 (r6 * (w64 (p1.x - p2.x)))))) * (w64 ((w64 ((if x2 < p1.x then x2 else p1.x) - (if x1 > p2.x then x1 else p2.x))) * (w64 ((w64 ((if x1 > p2.x then x1 else p2.x) + (if x2 < p1.x then x2 else p1.x))) - (w64 ((2 : Int) * p2.x))))))))), (91, vI (w64 (p1.x - p2.x)))]) (obs := []) trivial hf329 (by kernel_rfl) (by kernel_rfl) .nil fun a318 hf330 => ?_
                    refine p_call (i := 8) (d := some 92) (f := 119) (args := #[pB b18 0, vI (w64 ((w64 ((w64 (r4 - r5)) - (w64 (r6 * (w64 (p1.x - p2.x)))))) * (w64 ((w64 ((if x2 < p1.x then x2 else p1.x) - (if x1 > p2.x then x1 else p2.x))) * (w64 ((w64 ((if x1 > p2.x then x1 else p2.x) + (if x2 < p1.x then x2 else p1.x))) - (w64 ((2 : Int) * p2.x)))))))), vI (w64 (p1.x - p2.x))]) hf330 (by kernel_rfl) (Φ := fun v w => ∃ z13 : Zone, ∃ y14 : Int, ∃ y15 : Int, ∃ y16 : Int, Zone.le z11 z13 ∧ v = .tuple #[] ∧ St z13 (box b22 [vI p2.x, vI p2.lo, vI p2.hi, vI p1.x, vI p1.lo, vI p1.hi] 127 :: box b21 [vI p1.x, vI p1.lo, vI p1.hi] 52 :: loopA l2 94 [(5, pB b14 0), (6, pB b15 0), (7, pB b16 0), (8, pB b17 0), (9, pB b18 0), (20, .func (.func 130) #[] #[pB b19 0])] ps2 A2 B2 D2 .busy none :: defA D2 :: box b19 [.slice o_x0 x0.length c_x0] 24 :: box b18 [vI y14, vI y15, vI y16] 95 :: box b17 [vI 0, vI 0, vI 0] 95 :: box b16 [.func (.func 84) #[] #[]] 97 :: box b15 [vI x2] 3 :: box b14 [vI x1] 3 :: box b13 [.slice o_x0 x0.length c_x0] 24 :: box b12 [vI y1, vI y2, vI y3] 95 :: box b1 [.slice o_x0 x0.length c_x0] 24 :: L) w ∧ (F18_j9 (F18_l2 fuel x0 x1 x2 y1 y2 y3 d1 n1) y10 y14 y15 y16) = some r) ?_ ?_
                    · refine calls_intro (N := 51) Try.func119 (by kernel_rfl) fun a319 hf331 => ?_
                      refine w_seq (by kernel_rfl) ?_
                      have hS130 := hS129.drew
                      have s23 : Sub z11 (box b22 [vI p2.x, vI p2.lo, vI p2.hi, vI p1.x, vI p1.lo, vI p1.hi] 127 :: box b21 [vI p1.x, vI p1.lo, vI p1.hi] 52 :: loopA l2 94 [(5, pB b14 0), (6, pB b15 0), (7, pB b16 0), (8, pB b17 0), (9, pB b18 0), (20, .func (.func 130) #[] #[pB b19 0])] ps2 A2 B2 D2 .busy none :: defA D2 :: box b19 [.slice o_x0 x0.length c_x0] 24 :: box b18 [vI (w64 (y17 + (w64 ((w64 ((w64 ((2 : Int) * r3)) * (w64 ((if x2 < p1.x then x2 else p1.x) - (if x1 > p2.x then x1 else p2.x))))) + (w64 (r6 * (w64 ((w64 ((if x2 < p1.x then x2 else p1.x) - (if x1 > p2.x then x1 else p2.x))) * (w64 ((w64 ((if x1 > p2.x then x1 else p2.x) + (if x2 < p1.x then x2 else p1.x))) - (w64 ((2 : Int) * p2.x)))))))))))), vI y18, vI y19] 95 :: box b17 [vI 0, vI 0, vI 0] 95 :: box b16 [.func (.func 84) #[] #[]] 97 :: box b15 [vI x2] 3 :: box b14 [vI x1] 3 :: box b13 [.slice o_x0 x0.length c_x0] 24 :: box b12 [vI y1, vI y2, vI y3] 95 :: box b1 [.slice o_x0 x0.length c_x0] 24 :: L) _ := Sub.of (Zone.le_refl _) hS130
                      refine w_regD (by kernel_rfl) [(0, true), (1, true), (2, true), (3, true), (4, true), (5, true), (6, false), (7, true), (8, true), (9, true), (10, false)] [10] (Sub z11 (box b22 [vI p2.x, vI p2.lo, vI p2.hi, vI p1.x, vI p1.lo, vI p1.hi] 127 :: box b21 [vI p1.x, vI p1.lo, vI p1.hi] 52 :: loopA l2 94 [(5, pB b14 0), (6, pB b15 0), (7, pB b16 0), (8, pB b17 0), (9, pB b18 0), (20, .func (.func 130) #[] #[pB b19 0])] ps2 A2 B2 D2 .busy none :: defA D2 :: box b19 [.slice o_x0 x0.length c_x0] 24 :: box b18 [vI (w64 (y17 + (w64 ((w64 ((w64 ((2 : Int) * r3)) * (w64 ((if x2 < p1.x then x2 else p1.x) - (if x1 > p2.x then x1 else p2.x))))) + (w64 (r6 * (w64 ((w64 ((if x2 < p1.x then x2 else p1.x) - (if x1 > p2.x then x1 else p2.x))) * (w64 ((w64 ((if x1 > p2.x then x1 else p2.x) + (if x2 < p1.x then x2 else p1.x))) - (w64 ((2 : Int) * p2.x)))))))))))), vI y18, vI y19] 95 :: box b17 [vI 0, vI 0, vI 0] 95 :: box b16 [.func (.func 84) #[] #[]] 97 :: box b15 [vI x2] 3 :: box b14 [vI x1] 3 :: box b13 [.slice o_x0 x0.length c_x0] 24 :: box b12 [vI y1, vI y2, vI y3] 95 :: box b1 [.slice o_x0 x0.length c_x0] 24 :: L)) (by kernel_rfl) s23 ?_
                      refine p_firstP 3 [] [0, 1, 2, 7, 9] (fl' := [(0, pB b18 0), (1, vI (w64 ((w64 ((w64 (r4 - r5)) - (w64 (r6 * (w64 (p1.x - p2.x)))))) * (w64 ((w64 ((if x2 < p1.x then x2 else p1.x) - (if x1 > p2.x then x1 else p2.x))) * (w64 ((w64 ((if x1 > p2.x then x1 else p2.x) + (if x2 < p1.x then x2 else p1.x))) - (w64 ((2 : Int) * p2.x))))))))), (2, vI (w64 (p1.x - p2.x))), (7, pB b18 0), (9, pB b18 0)]) (obs := []) hf331 (by kernel_rfl) (by kernel_rfl) (fun _ => .nil) fun a320 hf332 => ?_
                      refine p_first 1 [vI (w64 (y17 + (w64 ((w64 ((w64 ((2 : Int) * r3)) * (w64 ((if x2 < p1.x then x2 else p1.x) - (if x1 > p2.x then x1 else p2.x))))) + (w64 (r6 * (w64 ((w64 ((if x2 < p1.x then x2 else p1.x) - (if x1 > p2.x then x1 else p2.x))) * (w64 ((w64 ((if x1 > p2.x then x1 else p2.x) + (if x2 < p1.x then x2 else p1.x))) - (w64 ((2 : Int) * p2.x))))))))))))] [0, 1, 2, 7, 10] (fl' := [(0, pB b18 0), (1, vI (w64 ((w64 ((w64 (r4 - r5)) - (w64 (r6 * (w64 (p1.x - p2.x)))))) * (w64 ((w64 ((if x2 < p1.x then x2 else p1.x) - (if x1 > p2.x then x1 else p2.x))) * (w64 ((w64 ((if x1 > p2.x then x1 else p2.x) + (if x2 < p1.x then x2 else p1.x))) - (w64 ((2 : Int) * p2.x))))))))), (2, vI (w64 (p1.x - p2.x))), (7, pB b18 0), (10, vI (w64 (y17 + (w64 ((w64 ((w64 ((2 : Int) * r3)) * (w64 ((if x2 < p1.x then x2 else p1.x) - (if x1 > p2.x then x1 else p2.x))))) + (w64 (r6 * (w64 ((w64 ((if x2 < p1.x then x2 else p1.x) - (if x1 > p2.x then x1 else p2.x))) * (w64 ((w64 ((if x1 > p2.x then x1 else p2.x) + (if x2 < p1.x then x2 else p1.x))) - (w64 ((2 : Int) * p2.x)))))))))))))]) (obs := [.cell ⟨b18, 0, none⟩ (vI (w64 (y17 + (w64 ((w64 ((w64 ((2 : Int) * r3)) * (w64 ((if x2 < p1.x then x2 else p1.x) - (if x1 > p2.x then x1 else p2.x))))) + (w64 (r6 * (w64 ((w64 ((if x2 < p1.x then x2 else p1.x) - (if x1 > p2.x then x1 else p2.x))) * (w64 ((w64 ((if x1 > p2.x then x1 else p2.x) + (if x2 < p1.x then x2 else p1.x))) - (w64 ((2 : Int) * p2.x)))))))))))))]) s23 (by kernel_rfl) hf332 (by kernel_rfl) (by kernel_rfl) (fun _ s => (.cell (s.box (i := 5) rfl (j := 0) rfl) .nil)) fun a321 hf333 => ?_
                      refine p_firstP 2 [] [0, 1, 2, 7, 10, 11, 12] (fl' := [(0, pB b18 0), (1, vI (w64 ((w64 ((w64 (r4 - r5)) - (w64 (r6 * (w64 (p1.x - p2.x)))))) * (w64 ((w64 ((if x2 < p1.x then x2 else p1.x) - (if x1 > p2.x then x1 else p2.x))) * (w64 ((w64 ((if x1 > p2.x then x1 else p2.x) + (if x2 < p1.x then x2 else p1.x))) - (w64 ((2 : Int) * p2.x))))))))), (2, vI (w64 (p1.x - p2.x))), (7, pB b18 0), (10, vI (w64 (y17 + (w64 ((w64 ((w64 ((2 : Int) * r3)) * (w64 ((if x2 < p1.x then x2 else p1.x) - (if x1 > p2.x then x1 else p2.x))))) + (w64 (r6 * (w64 ((w64 ((if x2 < p1.x then x2 else p1.x) - (if x1 > p2.x then x1 else p2.x))) * (w64 ((w64 ((if x1 > p2.x then x1 else p2.x) + (if x2 < p1.x then x2 else p1.x))) - (w64 ((2 : Int) * p2.x))))))))))))), (11, vI (w64 ((w64 ((w64 (r4 - r5)) - (w64 (r6 * (w64 (p1.x - p2.x)))))) * (w64 ((w64 ((if x2 < p1.x then x2 else p1.x) - (if x1 > p2.x then x1 else p2.x))) * (w64 ((w64 ((if x1 > p2.x then x1 else p2.x) + (if x2 < p1.x then x2 else p1.x))) - (w64 ((2 : Int) * p2.x))))))))), (12, vI (w64 (p1.x - p2.x)))]) (obs := []) hf333 (by kernel_rfl) (by kernel_rfl) (fun _ => .nil) fun a322 hf334 => ?_
                      obtain ⟨r7, hd27, hr70⟩ := bind_some hr69
                      refine p_call (i := 6) (d := some 13) (f := 85) (args := #[vI (w64 ((w64 ((w64 (r4 - r5)) - (w64 (r6 * (w64 (p1.x - p2.x)))))) * (w64 ((w64 ((if x2 < p1.x then x2 else p1.x) - (if x1 > p2.x then x1 else p2.x))) * (w64 ((w64 ((if x1 > p2.x then x1 else p2.x) + (if x2 < p1.x then x2 else p1.x))) - (w64 ((2 : Int) * p2.x)))))))), vI (w64 (p1.x - p2.x))]) hf334 (by kernel_rfl) (f85_ok fuel (w64 ((w64 ((w64 (r4 - r5)) - (w64 (r6 * (w64 (p1.x - p2.x)))))) * (w64 ((w64 ((if x2 < p1.x then x2 else p1.x) - (if x1 > p2.x then x1 else p2.x))) * (w64 ((w64 ((if x1 > p2.x then x1 else p2.x) + (if x2 < p1.x then x2 else p1.x))) - (w64 ((2 : Int) * p2.x)))))))) (w64 (p1.x - p2.x)) r7 hd27 z11 _ _ hS130 ) ?_
                      rintro v29 ww105 a323 ⟨rfl, hS131⟩ hf335
                      refine ⟨fun _ => Sub.of (Zone.le_refl _) hS131, ?_⟩
                      have s24 : Sub z11 (box b22 [vI p2.x, vI p2.lo, vI p2.hi, vI p1.x, vI p1.lo, vI p1.hi] 127 :: box b21 [vI p1.x, vI p1.lo, vI p1.hi] 52 :: loopA l2 94 [(5, pB b14 0), (6, pB b15 0), (7, pB b16 0), (8, pB b17 0), (9, pB b18 0), (20, .func (.func 130) #[] #[pB b19 0])] ps2 A2 B2 D2 .busy none :: defA D2 :: box b19 [.slice o_x0 x0.length c_x0] 24 :: box b18 [vI (w64 (y17 + (w64 ((w64 ((w64 ((2 : Int) * r3)) * (w64 ((if x2 < p1.x then x2 else p1.x) - (if x1 > p2.x then x1 else p2.x))))) + (w64 (r6 * (w64 ((w64 ((if x2 < p1.x then x2 else p1.x) - (if x1 > p2.x then x1 else p2.x))) * (w64 ((w64 ((if x1 > p2.x then x1 else p2.x) + (if x2 < p1.x then x2 else p1.x))) - (w64 ((2 : Int) * p2.x)))))))))))), vI y18, vI y19] 95 :: box b17 [vI 0, vI 0, vI 0] 95 :: box b16 [.func (.func 84) #[] #[]] 97 :: box b15 [vI x2] 3 :: box b14 [vI x1] 3 :: box b13 [.slice o_x0 x0.length c_x0] 24 :: box b12 [vI y1, vI y2, vI y3] 95 :: box b1 [.slice o_x0 x0.length c_x0] 24 :: L) _ := Sub.of (Zone.le_refl _) hS131
                      refine p_firstP 3 [] [0, 1, 2, 14, 16] (fl' := [(0, pB b18 0), (1, vI (w64 ((w64 ((w64 (r4 - r5)) - (w64 (r6 * (w64 (p1.x - p2.x)))))) * (w64 ((w64 ((if x2 < p1.x then x2 else p1.x) - (if x1 > p2.x then x1 else p2.x))) * (w64 ((w64 ((if x1 > p2.x then x1 else p2.x) + (if x2 < p1.x then x2 else p1.x))) - (w64 ((2 : Int) * p2.x))))))))), (2, vI (w64 (p1.x - p2.x))), (14, vI (w64 ((w64 (y17 + (w64 ((w64 ((w64 ((2 : Int) * r3)) * (w64 ((if x2 < p1.x then x2 else p1.x) - (if x1 > p2.x then x1 else p2.x))))) + (w64 (r6 * (w64 ((w64 ((if x2 < p1.x then x2 else p1.x) - (if x1 > p2.x then x1 else p2.x))) * (w64 ((w64 ((if x1 > p2.x then x1 else p2.x) + (if x2 < p1.x then x2 else p1.x))) - (w64 ((2 : Int) * p2.x)))))))))))) + r7))), (16, pB b18 0)]) (obs := []) hf335 (by kernel_rfl) (by kernel_rfl) (fun _ => .nil) fun a324 hf336 => ?_
                      refine p_store_eq (i := 10) (j := 5) (b := b18) (off := 0) (vs := [vI (w64 ((w64 (y17 + (w64 ((w64 ((w64 ((2 : Int) * r3)) * (w64 ((if x2 < p1.x then x2 else p1.x) - (if x1 > p2.x then x1 else p2.x))))) + (w64 (r6 * (w64 ((w64 ((if x2 < p1.x then x2 else p1.x) - (if x1 > p2.x then x1 else p2.x))) * (w64 ((w64 ((if x1 > p2.x then x1 else p2.x) + (if x2 < p1.x then x2 else p1.x))) - (w64 ((2 : Int) * p2.x)))))))))))) + r7))]) (cs' := [vI (w64 ((w64 (y17 + (w64 ((w64 ((w64 ((2 : Int) * r3)) * (w64 ((if x2 < p1.x then x2 else p1.x) - (if x1 > p2.x then x1 else p2.x))))) + (w64 (r6 * (w64 ((w64 ((if x2 < p1.x then x2 else p1.x) - (if x1 > p2.x then x1 else p2.x))) * (w64 ((w64 ((if x1 > p2.x then x1 else p2.x) + (if x2 < p1.x then x2 else p1.x))) - (w64 ((2 : Int) * p2.x)))))))))))) + r7)), vI y18, vI y19]) hS131 hf336 rfl (by kernel_rfl) (by kernel_rfl) rfl fun ww106 a325 hS132 hf337 => ⟨fun e => absurd e (by decide), ?_⟩
                      refine p_done (by kernel_rfl) ?_
                      refine n_then ?_
                      refine w_seq (by kernel_rfl) ?_
                      refine w_reg (by kernel_rfl) ?_
                      refine p_run 3 [] [0, 2, 17, 18, 19] (fl' := [(0, pB b18 0), (2, vI (w64 (p1.x - p2.x))), (17, vI (w64 ((w64 ((w64 (r4 - r5)) - (w64 (r6 * (w64 (p1.x - p2.x)))))) * (w64 ((w64 ((if x2 < p1.x then x2 else p1.x) - (if x1 > p2.x then x1 else p2.x))) * (w64 ((w64 ((if x1 > p2.x then x1 else p2.x) + (if x2 < p1.x then x2 else p1.x))) - (w64 ((2 : Int) * p2.x))))))))), (18, vI (w64 ((w64 ((w64 (r4 - r5)) - (w64 (r6 * (w64 (p1.x - p2.x)))))) * (w64 ((w64 ((if x2 < p1.x then x2 else p1.x) - (if x1 > p2.x then x1 else p2.x))) * (w64 ((w64 ((if x1 > p2.x then x1 else p2.x) + (if x2 < p1.x then x2 else p1.x))) - (w64 ((2 : Int) * p2.x))))))))), (19, vI (w64 (p1.x - p2.x)))]) (obs := []) trivial hf337 (by kernel_rfl) (by kernel_rfl) .nil fun a326 hf338 => ?_
                      obtain ⟨r8, hd28, hr71⟩ := bind_some hr70
                      refine p_call (i := 3) (d := some 20) (f := 85) (args := #[vI (w64 ((w64 ((w64 (r4 - r5)) - (w64 (r6 * (w64 (p1.x - p2.x)))))) * (w64 ((w64 ((if x2 < p1.x then x2 else p1.x) - (if x1 > p2.x then x1 else p2.x))) * (w64 ((w64 ((if x1 > p2.x then x1 else p2.x) + (if x2 < p1.x then x2 else p1.x))) - (w64 ((2 : Int) * p2.x)))))))), vI (w64 (p1.x - p2.x))]) hf338 (by kernel_rfl) (f85_ok fuel (w64 ((w64 ((w64 (r4 - r5)) - (w64 (r6 * (w64 (p1.x - p2.x)))))) * (w64 ((w64 ((if x2 < p1.x then x2 else p1.x) - (if x1 > p2.x then x1 else p2.x))) * (w64 ((w64 ((if x1 > p2.x then x1 else p2.x) + (if x2 < p1.x then x2 else p1.x))) - (w64 ((2 : Int) * p2.x)))))))) (w64 (p1.x - p2.x)) r8 hd28 z11 _ _ hS132 ) ?_
                      rintro v30 ww107 a327 ⟨rfl, hS133⟩ hf339
                      refine ⟨fun _ => trivial, ?_⟩
                      refine p_run 4 [] [0, 2, 6] (fl' := [(0, pB b18 0), (2, vI (w64 (p1.x - p2.x))), (6, vI (w64 ((w64 ((w64 ((w64 (r4 - r5)) - (w64 (r6 * (w64 (p1.x - p2.x)))))) * (w64 ((w64 ((if x2 < p1.x then x2 else p1.x) - (if x1 > p2.x then x1 else p2.x))) * (w64 ((w64 ((if x1 > p2.x then x1 else p2.x) + (if x2 < p1.x then x2 else p1.x))) - (w64 ((2 : Int) * p2.x)))))))) - (w64 (r8 * (w64 (p1.x - p2.x)))))))]) (obs := []) trivial hf339 (by kernel_rfl) (by kernel_rfl) .nil fun a328 hf340 => ?_
                      refine p_done (by kernel_rfl) ?_
                      refine n_then ?_
                      refine w_seq (by kernel_rfl) ?_
                      refine w_reg (by kernel_rfl) ?_
                      refine p_run 2 [] [0, 2, 6, 25] (fl' := [(0, pB b18 0), (2, vI (w64 (p1.x - p2.x))), (6, vI (w64 ((w64 ((w64 ((w64 (r4 - r5)) - (w64 (r6 * (w64 (p1.x - p2.x)))))) * (w64 ((w64 ((if x2 < p1.x then x2 else p1.x) - (if x1 > p2.x then x1 else p2.x))) * (w64 ((w64 ((if x1 > p2.x then x1 else p2.x) + (if x2 < p1.x then x2 else p1.x))) - (w64 ((2 : Int) * p2.x)))))))) - (w64 (r8 * (w64 (p1.x - p2.x))))))), (25, .bool (decide ((w64 ((w64 ((w64 ((w64 (r4 - r5)) - (w64 (r6 * (w64 (p1.x - p2.x)))))) * (w64 ((w64 ((if x2 < p1.x then x2 else p1.x) - (if x1 > p2.x then x1 else p2.x))) * (w64 ((w64 ((if x1 > p2.x then x1 else p2.x) + (if x2 < p1.x then x2 else p1.x))) - (w64 ((2 : Int) * p2.x)))))))) - (w64 (r8 * (w64 (p1.x - p2.x)))))) > (0 : Int))))]) (obs := []) trivial hf340 (by kernel_rfl) (by kernel_rfl) .nil fun a329 hf341 => ?_
                      refine p_done (by kernel_rfl) ?_
                      refine n_then ?_
                      refine w_if hf341 (b := (decide ((w64 ((w64 ((w64 ((w64 (r4 - r5)) - (w64 (r6 * (w64 (p1.x - p2.x)))))) * (w64 ((w64 ((if x2 < p1.x then x2 else p1.x) - (if x1 > p2.x then x1 else p2.x))) * (w64 ((w64 ((if x1 > p2.x then x1 else p2.x) + (if x2 < p1.x then x2 else p1.x))) - (w64 ((2 : Int) * p2.x)))))))) - (w64 (r8 * (w64 (p1.x - p2.x)))))) > (0 : Int)))) (by kernel_rfl) (fun hb25 => ?_) (fun hb25 => ?_)
                      · have hr72 := cond_t hb25 hr71
                        have hS134 := hS133.drew
                        refine w_regD (by kernel_rfl) [(0, true), (1, true), (2, true), (3, true), (4, true), (5, true), (6, true), (7, true), (8, true), (9, true), (10, true), (11, true), (12, true), (13, true), (14, true), (15, true), (16, true), (17, true), (18, true), (19, true), (20, true), (21, true), (22, true), (23, false), (24, true), (25, true), (26, false)] [23, 26] (fun x => x = ww107.drew) (by kernel_rfl) rfl ?_
                        refine p_firstP 5 [] [0, 2, 6, 26, 27, 30] (fl' := [(0, pB b18 0), (2, vI (w64 (p1.x - p2.x))), (6, vI (w64 ((w64 ((w64 ((w64 (r4 - r5)) - (w64 (r6 * (w64 (p1.x - p2.x)))))) * (w64 ((w64 ((if x2 < p1.x then x2 else p1.x) - (if x1 > p2.x then x1 else p2.x))) * (w64 ((w64 ((if x1 > p2.x then x1 else p2.x) + (if x2 < p1.x then x2 else p1.x))) - (w64 ((2 : Int) * p2.x)))))))) - (w64 (r8 * (w64 (p1.x - p2.x))))))), (26, pB b18 0), (27, pB b18 0), (30, pB b18 1)]) (obs := []) hf341 (by kernel_rfl) (by kernel_rfl) (fun _ => .nil) fun a330 hf342 => ?_
                        refine p_firstE 1 [vI y18] [0, 2, 6, 26, 27, 31] (fl' := [(0, pB b18 0), (2, vI (w64 (p1.x - p2.x))), (6, vI (w64 ((w64 ((w64 ((w64 (r4 - r5)) - (w64 (r6 * (w64 (p1.x - p2.x)))))) * (w64 ((w64 ((if x2 < p1.x then x2 else p1.x) - (if x1 > p2.x then x1 else p2.x))) * (w64 ((w64 ((if x1 > p2.x then x1 else p2.x) + (if x2 < p1.x then x2 else p1.x))) - (w64 ((2 : Int) * p2.x)))))))) - (w64 (r8 * (w64 (p1.x - p2.x))))))), (26, pB b18 0), (27, pB b18 0), (31, vI y18)]) (obs := [.cell ⟨b18, 1, none⟩ (vI y18)]) (by kernel_rfl) hf342 (by kernel_rfl) (by kernel_rfl) (.cell (hS134.box (i := 5) rfl (j := 1) rfl) .nil) fun a331 hf343 => ?_
                        refine p_firstP 6 [] [0, 2, 26, 27, 33, 34, 37] (fl' := [(0, pB b18 0), (2, vI (w64 (p1.x - p2.x))), (26, pB b18 0), (27, pB b18 0), (33, vI (w64 (y18 * (w64 (p1.x - p2.x))))), (34, vI (w64 ((w64 ((w64 ((w64 (r4 - r5)) - (w64 (r6 * (w64 (p1.x - p2.x)))))) * (w64 ((w64 ((if x2 < p1.x then x2 else p1.x) - (if x1 > p2.x then x1 else p2.x))) * (w64 ((w64 ((if x1 > p2.x then x1 else p2.x) + (if x2 < p1.x then x2 else p1.x))) - (w64 ((2 : Int) * p2.x)))))))) - (w64 (r8 * (w64 (p1.x - p2.x))))))), (37, pB b18 2)]) (obs := []) hf343 (by kernel_rfl) (by kernel_rfl) (fun _ => .nil) fun a332 hf344 => ?_
                        refine p_firstE 1 [vI y19] [0, 2, 26, 27, 33, 34, 38] (fl' := [(0, pB b18 0), (2, vI (w64 (p1.x - p2.x))), (26, pB b18 0), (27, pB b18 0), (33, vI (w64 (y18 * (w64 (p1.x - p2.x))))), (34, vI (w64 ((w64 ((w64 ((w64 (r4 - r5)) - (w64 (r6 * (w64 (p1.x - p2.x)))))) * (w64 ((w64 ((if x2 < p1.x then x2 else p1.x) - (if x1 > p2.x then x1 else p2.x))) * (w64 ((w64 ((if x1 > p2.x then x1 else p2.x) + (if x2 < p1.x then x2 else p1.x))) - (w64 ((2 : Int) * p2.x)))))))) - (w64 (r8 * (w64 (p1.x - p2.x))))))), (38, vI y19)]) (obs := [.cell ⟨b18, 2, none⟩ (vI y19)]) (by kernel_rfl) hf344 (by kernel_rfl) (by kernel_rfl) (.cell (hS134.box (i := 5) rfl (j := 2) rfl) .nil) fun a333 hf345 => ?_
                        refine p_firstP 5 [] [2, 26, 27, 40, 43] (fl' := [(2, vI (w64 (p1.x - p2.x))), (26, pB b18 0), (27, pB b18 0), (40, vI (w64 ((w64 (y18 * (w64 (p1.x - p2.x)))) + (w64 ((w64 ((w64 ((w64 ((w64 (r4 - r5)) - (w64 (r6 * (w64 (p1.x - p2.x)))))) * (w64 ((w64 ((if x2 < p1.x then x2 else p1.x) - (if x1 > p2.x then x1 else p2.x))) * (w64 ((w64 ((if x1 > p2.x then x1 else p2.x) + (if x2 < p1.x then x2 else p1.x))) - (w64 ((2 : Int) * p2.x)))))))) - (w64 (r8 * (w64 (p1.x - p2.x)))))) * y19))))), (43, pB b18 2)]) (obs := []) hf345 (by kernel_rfl) (by kernel_rfl) (fun _ => .nil) fun a334 hf346 => ?_
                        refine p_firstE 1 [vI y19] [2, 26, 27, 40, 44] (fl' := [(2, vI (w64 (p1.x - p2.x))), (26, pB b18 0), (27, pB b18 0), (40, vI (w64 ((w64 (y18 * (w64 (p1.x - p2.x)))) + (w64 ((w64 ((w64 ((w64 ((w64 (r4 - r5)) - (w64 (r6 * (w64 (p1.x - p2.x)))))) * (w64 ((w64 ((if x2 < p1.x then x2 else p1.x) - (if x1 > p2.x then x1 else p2.x))) * (w64 ((w64 ((if x1 > p2.x then x1 else p2.x) + (if x2 < p1.x then x2 else p1.x))) - (w64 ((2 : Int) * p2.x)))))))) - (w64 (r8 * (w64 (p1.x - p2.x)))))) * y19))))), (44, vI y19)]) (obs := [.cell ⟨b18, 2, none⟩ (vI y19)]) (by kernel_rfl) hf346 (by kernel_rfl) (by kernel_rfl) (.cell (hS134.box (i := 5) rfl (j := 2) rfl) .nil) fun a335 hf347 => ?_
                        refine p_firstP 4 [] [27, 40, 46, 48] (fl' := [(27, pB b18 0), (40, vI (w64 ((w64 (y18 * (w64 (p1.x - p2.x)))) + (w64 ((w64 ((w64 ((w64 ((w64 (r4 - r5)) - (w64 (r6 * (w64 (p1.x - p2.x)))))) * (w64 ((w64 ((if x2 < p1.x then x2 else p1.x) - (if x1 > p2.x then x1 else p2.x))) * (w64 ((w64 ((if x1 > p2.x then x1 else p2.x) + (if x2 < p1.x then x2 else p1.x))) - (w64 ((2 : Int) * p2.x)))))))) - (w64 (r8 * (w64 (p1.x - p2.x)))))) * y19))))), (46, vI (w64 (y19 * (w64 (p1.x - p2.x))))), (48, pB b18 1)]) (obs := []) hf347 (by kernel_rfl) (by kernel_rfl) (fun _ => .nil) fun a336 hf348 => ?_
                        refine p_store_eq (i := 23) (j := 5) (b := b18) (off := 1) (vs := [vI (w64 ((w64 (y18 * (w64 (p1.x - p2.x)))) + (w64 ((w64 ((w64 ((w64 ((w64 (r4 - r5)) - (w64 (r6 * (w64 (p1.x - p2.x)))))) * (w64 ((w64 ((if x2 < p1.x then x2 else p1.x) - (if x1 > p2.x then x1 else p2.x))) * (w64 ((w64 ((if x1 > p2.x then x1 else p2.x) + (if x2 < p1.x then x2 else p1.x))) - (w64 ((2 : Int) * p2.x)))))))) - (w64 (r8 * (w64 (p1.x - p2.x)))))) * y19))))]) (cs' := [vI (w64 ((w64 (y17 + (w64 ((w64 ((w64 ((2 : Int) * r3)) * (w64 ((if x2 < p1.x then x2 else p1.x) - (if x1 > p2.x then x1 else p2.x))))) + (w64 (r6 * (w64 ((w64 ((if x2 < p1.x then x2 else p1.x) - (if x1 > p2.x then x1 else p2.x))) * (w64 ((w64 ((if x1 > p2.x then x1 else p2.x) + (if x2 < p1.x then x2 else p1.x))) - (w64 ((2 : Int) * p2.x)))))))))))) + r7)), vI (w64 ((w64 (y18 * (w64 (p1.x - p2.x)))) + (w64 ((w64 ((w64 ((w64 ((w64 (r4 - r5)) - (w64 (r6 * (w64 (p1.x - p2.x)))))) * (w64 ((w64 ((if x2 < p1.x then x2 else p1.x) - (if x1 > p2.x then x1 else p2.x))) * (w64 ((w64 ((if x1 > p2.x then x1 else p2.x) + (if x2 < p1.x then x2 else p1.x))) - (w64 ((2 : Int) * p2.x)))))))) - (w64 (r8 * (w64 (p1.x - p2.x)))))) * y19)))), vI y19]) hS134 hf348 rfl (by kernel_rfl) (by kernel_rfl) rfl fun ww108 a337 hS135 hf349 => ⟨fun e => absurd e (by decide), ?_⟩
                        refine p_firstP 2 [] [46, 50] (fl' := [(46, vI (w64 (y19 * (w64 (p1.x - p2.x))))), (50, pB b18 2)]) (obs := []) hf349 (by kernel_rfl) (by kernel_rfl) (fun _ => .nil) fun a338 hf350 => ?_
                        refine p_store_eq (i := 26) (j := 5) (b := b18) (off := 2) (vs := [vI (w64 (y19 * (w64 (p1.x - p2.x))))]) (cs' := [vI (w64 ((w64 (y17 + (w64 ((w64 ((w64 ((2 : Int) * r3)) * (w64 ((if x2 < p1.x then x2 else p1.x) - (if x1 > p2.x then x1 else p2.x))))) + (w64 (r6 * (w64 ((w64 ((if x2 < p1.x then x2 else p1.x) - (if x1 > p2.x then x1 else p2.x))) * (w64 ((w64 ((if x1 > p2.x then x1 else p2.x) + (if x2 < p1.x then x2 else p1.x))) - (w64 ((2 : Int) * p2.x)))))))))))) + r7)), vI (w64 ((w64 (y18 * (w64 (p1.x - p2.x)))) + (w64 ((w64 ((w64 ((w64 ((w64 (r4 - r5)) - (w64 (r6 * (w64 (p1.x - p2.x)))))) * (w64 ((w64 ((if x2 < p1.x then x2 else p1.x) - (if x1 > p2.x then x1 else p2.x))) * (w64 ((w64 ((if x1 > p2.x then x1 else p2.x) + (if x2 < p1.x then x2 else p1.x))) - (w64 ((2 : Int) * p2.x)))))))) - (w64 (r8 * (w64 (p1.x - p2.x)))))) * y19)))), vI (w64 (y19 * (w64 (p1.x - p2.x))))]) hS135 hf350 rfl (by kernel_rfl) (by kernel_rfl) rfl fun ww109 a339 hS136 hf351 => ⟨fun e => absurd e (by decide), ?_⟩
                        refine p_done (by kernel_rfl) ?_
                        refine p_fall (os := []) (v := .tuple #[]) (obs := []) hf351 (by kernel_rfl) .nil ?_
                        exact ⟨_, rfl, z11, (w64 ((w64 (y17 + (w64 ((w64 ((w64 ((2 : Int) * r3)) * (w64 ((if x2 < p1.x then x2 else p1.x) - (if x1 > p2.x then x1 else p2.x))))) + (w64 (r6 * (w64 ((w64 ((if x2 < p1.x then x2 else p1.x) - (if x1 > p2.x then x1 else p2.x))) * (w64 ((w64 ((if x1 > p2.x then x1 else p2.x) + (if x2 < p1.x then x2 else p1.x))) - (w64 ((2 : Int) * p2.x)))))))))))) + r7)), (w64 ((w64 (y18 * (w64 (p1.x - p2.x)))) + (w64 ((w64 ((w64 ((w64 ((w64 (r4 - r5)) - (w64 (r6 * (w64 (p1.x - p2.x)))))) * (w64 ((w64 ((if x2 < p1.x then x2 else p1.x) - (if x1 > p2.x then x1 else p2.x))) * (w64 ((w64 ((if x1 > p2.x then x1 else p2.x) + (if x2 < p1.x then x2 else p1.x))) - (w64 ((2 : Int) * p2.x)))))))) - (w64 (r8 * (w64 (p1.x - p2.x)))))) * y19)))), (w64 (y19 * (w64 (p1.x - p2.x)))), (Zone.le_refl _), rfl, hS136, hr72⟩
                      · have hr73 := cond_f hb25 hr71
                        refine w_skip (by kernel_rfl) ?_
                        refine p_fall (os := []) (v := .tuple #[]) (obs := []) hf341 (by kernel_rfl) .nil ?_
                        exact ⟨_, rfl, z11, (w64 ((w64 (y17 + (w64 ((w64 ((w64 ((2 : Int) * r3)) * (w64 ((if x2 < p1.x then x2 else p1.x) - (if x1 > p2.x then x1 else p2.x))))) + (w64 (r6 * (w64 ((w64 ((if x2 < p1.x then x2 else p1.x) - (if x1 > p2.x then x1 else p2.x))) * (w64 ((w64 ((if x1 > p2.x then x1 else p2.x) + (if x2 < p1.x then x2 else p1.x))) - (w64 ((2 : Int) * p2.x)))))))))))) + r7)), y18, y19, (Zone.le_refl _), rfl, hS133, hr73⟩
                    · rintro v31 ww110 a340 ⟨z13, y14, y15, y16, k13, rfl, hS137, hr74⟩ hf352
                      refine ⟨fun _ => trivial, ?_⟩
                      refine p_done (by kernel_rfl) ?_
                      refine n_block ?_
                      refine p_roundN hS137 (j := 2) rfl fun ww111 a341 hS138 hf353 => ?_
                      have hS139 := St.drop 1 hS138
                      refine p_run 1 [] [0, 1, 22, 23, 24, 38] (fl' := [(0, .func (.yield l2) #[] #[]), (1, pB b19 0), (22, .slice e2 d1.length q2), (23, vI (d1.length : Int)), (24, vI y10), (38, .bool false)]) (obs := []) trivial hf353 (by kernel_rfl) (by kernel_rfl) .nil fun a342 hf354 => ?_
                      refine p_done (by kernel_rfl) ?_
                      refine n_then ?_
                      refine w_if_false hf354 (by kernel_rfl) ?_
                      refine w_skip (by kernel_rfl) ?_
                      refine n_block ?_
                      refine n_then ?_
                      have hf355 := Fr.keep (ks := [0, 1, 22, 23, 24]) (r := [(0, .func (.yield l2) #[] #[]), (1, pB b19 0), (22, .slice e2 d1.length q2), (23, vI (d1.length : Int)), (24, vI y10)]) hf354 (by kernel_rfl)
                      exact ⟨z13, y14, y15, y16, k13, hf355, (St.drop 1 hS139), hr74⟩
                · rintro a343 ww112 ⟨z12, y11, y12, y13, k14, hf356, hS140, hr75⟩
                  refine w_reg (by kernel_rfl) ?_
                  refine p_run 2 [] [0, 1, 22, 23, 24] (fl' := [(0, .func (.yield l2) #[] #[]), (1, pB b19 0), (22, .slice e2 d1.length q2), (23, vI (d1.length : Int)), (24, vI (w64 (y10 + (1 : Int))))]) (obs := []) trivial hf356 (by kernel_rfl) (by kernel_rfl) .nil fun a344 hf357 => ?_
                  refine p_done (by kernel_rfl) ?_
                  refine n_then ?_
                  have hf358 := Fr.keep (ks := [0, 1, 22, 23, 24]) (r := [(0, .func (.yield l2) #[] #[]), (1, pB b19 0), (22, .slice e2 d1.length q2), (23, vI (d1.length : Int)), (24, vI (w64 (y10 + (1 : Int))))]) hf357 (by kernel_rfl)
                  exact ⟨n1, Nat.lt_succ_self n1, z12, y11, y12, y13, (w64 (y10 + (1 : Int))), (Zone.le_trans k12 k14), hf358, hS140, hr75⟩
              · have hr76 := cond_f hb21 hr60
                refine w_exit (id := 0) (by kernel_rfl) ?_
                refine x_then ?_
                refine x_then ?_
                refine x_block ?_
                refine p_fall (os := []) (v := .tuple #[]) (obs := []) hf286 (by kernel_rfl) .nil ?_
                refine ⟨_, rfl, fun a345 hf359 => ?_⟩
                refine p_jump0 hS114 (j := 0) rfl (fun h => by cases h) fun ww113 hS141 => ?_
                refine n_block ?_
                refine n_then ?_
                refine w_seq (by kernel_rfl) ?_
                refine w_reg (by kernel_rfl) ?_
                refine p_run 1 [vI y17, vI y18, vI y19] [8, 93] (fl' := [(8, pB b17 0), (93, .agg #[vI y17, vI y18, vI y19])]) (obs := [.cell ⟨b18, 0, none⟩ (vI y17), .cell ⟨b18, 1, none⟩ (vI y18), .cell ⟨b18, 2, none⟩ (vI y19)]) trivial hf359 (by kernel_rfl) (by kernel_rfl) (.cell (hS141.box (i := 3) rfl (j := 0) rfl) (.cell (hS141.box (i := 3) rfl (j := 1) rfl) (.cell (hS141.box (i := 3) rfl (j := 2) rfl) .nil))) fun a346 hf360 => ?_
                refine p_store_eq (i := 1) (j := 4) (b := b17) (off := 0) (vs := [vI y17, vI y18, vI y19]) (cs' := [vI y17, vI y18, vI y19]) hS141 hf360 rfl (by kernel_rfl) (by kernel_rfl) rfl fun ww114 a347 hS142 hf361 => ⟨fun _ => trivial, ?_⟩
                refine p_done (by kernel_rfl) ?_
                refine n_then ?_
                refine w_ret (by kernel_rfl) ?_
                refine p_retM hf361 ?_
                refine p_mark hS142 (j := 1) rfl fun ww115 hS143 => ?_
                refine p_end (os := [vI y17, vI y18, vI y19]) (v := .agg #[vI y17, vI y18, vI y19]) (obs := [.cell ⟨b17, 0, none⟩ (vI y17), .cell ⟨b17, 1, none⟩ (vI y18), .cell ⟨b17, 2, none⟩ (vI y19)]) hf361 (by kernel_rfl) (.cell (hS143.box (i := 4) rfl (j := 0) rfl) (.cell (hS143.box (i := 4) rfl (j := 1) rfl) (.cell (hS143.box (i := 4) rfl (j := 2) rfl) .nil))) ?_
                exact ⟨_, rfl, z11, y17, y18, y19, k12, rfl, (St.drop 9 hS143), hr76⟩
          · rintro v32 ww116 a348 ⟨z9, y4, y5, y6, k15, rfl, hS144, hr77⟩ hf362
            refine ⟨fun _ => trivial, ?_⟩
            refine p_box (i := 4) (d := (some 11)) (cs := [vI 0, vI 0, vI 0]) (T := 95) (v := fun b23 => pB b23 0) hS144 hf362 (fun b => by kernel_rfl) fun b23 ww117 a349 hS145 hf363 => ⟨fun _ => trivial, ?_⟩
            refine p_store_eq (i := 5) (j := 0) (b := b23) (off := 0) (vs := [vI y4, vI y5, vI y6]) (cs' := [vI y4, vI y5, vI y6]) hS145 hf363 rfl (by kernel_rfl) (by kernel_rfl) rfl fun ww118 a350 hS146 hf364 => ⟨fun _ => trivial, ?_⟩
            refine p_done (by kernel_rfl) ?_
            refine n_then ?_
            refine w_seq (by kernel_rfl) ?_
            have hS147 := hS146.drew
            have s25 : Sub z9 (box b23 [vI y4, vI y5, vI y6] 95 :: box b12 [vI y1, vI y2, vI y3] 95 :: box b1 [.slice o_x0 x0.length c_x0] 24 :: L) _ := Sub.of (Zone.le_refl _) hS147
            refine w_regD (by kernel_rfl) [(0, true), (1, true), (2, true), (3, true), (4, true), (5, true), (8, true), (9, true), (10, true), (11, true), (12, true), (13, true), (6, false), (7, true), (14, false), (15, true), (16, true), (17, true), (18, true)] [] (Sub z9 (box b23 [vI y4, vI y5, vI y6] 95 :: box b12 [vI y1, vI y2, vI y3] 95 :: box b1 [.slice o_x0 x0.length c_x0] 24 :: L)) (by kernel_rfl) s25 ?_
            refine p_firstP 1 [] [10, 11, 36] (fl' := [(10, pB b12 0), (11, pB b23 0), (36, pB b12 0)]) (obs := []) hf364 (by kernel_rfl) (by kernel_rfl) (fun _ => .nil) fun a351 hf365 => ?_
            refine p_first 1 [vI y1] [10, 11, 37] (fl' := [(10, pB b12 0), (11, pB b23 0), (37, vI y1)]) (obs := [.cell ⟨b12, 0, none⟩ (vI y1)]) s25 (by kernel_rfl) hf365 (by kernel_rfl) (by kernel_rfl) (fun _ s => (.cell (s.box (i := 1) rfl (j := 0) rfl) .nil)) fun a352 hf366 => ?_
            refine p_firstP 1 [] [10, 11, 37, 38] (fl' := [(10, pB b12 0), (11, pB b23 0), (37, vI y1), (38, pB b12 1)]) (obs := []) hf366 (by kernel_rfl) (by kernel_rfl) (fun _ => .nil) fun a353 hf367 => ?_
            refine p_first 1 [vI y2] [10, 11, 37, 39] (fl' := [(10, pB b12 0), (11, pB b23 0), (37, vI y1), (39, vI y2)]) (obs := [.cell ⟨b12, 1, none⟩ (vI y2)]) s25 (by kernel_rfl) hf367 (by kernel_rfl) (by kernel_rfl) (fun _ s => (.cell (s.box (i := 1) rfl (j := 1) rfl) .nil)) fun a354 hf368 => ?_
            refine p_firstP 1 [] [11, 37, 39, 40] (fl' := [(11, pB b23 0), (37, vI y1), (39, vI y2), (40, pB b12 2)]) (obs := []) hf368 (by kernel_rfl) (by kernel_rfl) (fun _ => .nil) fun a355 hf369 => ?_
            refine p_first 1 [vI y3] [11, 37, 39, 41] (fl' := [(11, pB b23 0), (37, vI y1), (39, vI y2), (41, vI y3)]) (obs := [.cell ⟨b12, 2, none⟩ (vI y3)]) s25 (by kernel_rfl) hf369 (by kernel_rfl) (by kernel_rfl) (fun _ s => (.cell (s.box (i := 1) rfl (j := 2) rfl) .nil)) fun a356 hf370 => ?_
            refine p_firstP 1 [] [11, 37, 39, 41, 44] (fl' := [(11, pB b23 0), (37, vI y1), (39, vI y2), (41, vI y3), (44, pB b23 0)]) (obs := []) hf370 (by kernel_rfl) (by kernel_rfl) (fun _ => .nil) fun a357 hf371 => ?_
            refine p_first 1 [vI y4] [11, 37, 39, 41, 45] (fl' := [(11, pB b23 0), (37, vI y1), (39, vI y2), (41, vI y3), (45, vI y4)]) (obs := [.cell ⟨b23, 0, none⟩ (vI y4)]) s25 (by kernel_rfl) hf371 (by kernel_rfl) (by kernel_rfl) (fun _ s => (.cell (s.box (i := 0) rfl (j := 0) rfl) .nil)) fun a358 hf372 => ?_
            refine p_firstP 1 [] [11, 37, 39, 41, 45, 46] (fl' := [(11, pB b23 0), (37, vI y1), (39, vI y2), (41, vI y3), (45, vI y4), (46, pB b23 1)]) (obs := []) hf372 (by kernel_rfl) (by kernel_rfl) (fun _ => .nil) fun a359 hf373 => ?_
            refine p_first 1 [vI y5] [11, 37, 39, 41, 45, 47] (fl' := [(11, pB b23 0), (37, vI y1), (39, vI y2), (41, vI y3), (45, vI y4), (47, vI y5)]) (obs := [.cell ⟨b23, 1, none⟩ (vI y5)]) s25 (by kernel_rfl) hf373 (by kernel_rfl) (by kernel_rfl) (fun _ s => (.cell (s.box (i := 0) rfl (j := 1) rfl) .nil)) fun a360 hf374 => ?_
            refine p_firstP 1 [] [37, 39, 41, 45, 47, 48] (fl' := [(37, vI y1), (39, vI y2), (41, vI y3), (45, vI y4), (47, vI y5), (48, pB b23 2)]) (obs := []) hf374 (by kernel_rfl) (by kernel_rfl) (fun _ => .nil) fun a361 hf375 => ?_
            refine p_first 1 [vI y6] [37, 39, 41, 45, 47, 49] (fl' := [(37, vI y1), (39, vI y2), (41, vI y3), (45, vI y4), (47, vI y5), (49, vI y6)]) (obs := [.cell ⟨b23, 2, none⟩ (vI y6)]) s25 (by kernel_rfl) hf375 (by kernel_rfl) (by kernel_rfl) (fun _ s => (.cell (s.box (i := 0) rfl (j := 2) rfl) .nil)) fun a362 hf376 => ?_
            obtain ⟨r1, hd29, hr78⟩ := bind_some hr77
            refine p_call (i := 6) (d := some 42) (f := 85) (args := #[vI y2, vI y3]) hf376 (by kernel_rfl) (f85_ok fuel y2 y3 r1 hd29 z9 _ _ hS147 ) ?_
            rintro v33 ww119 a363 ⟨rfl, hS148⟩ hf377
            refine ⟨fun _ => Sub.of (Zone.le_refl _) hS148, ?_⟩
            have s26 : Sub z9 (box b23 [vI y4, vI y5, vI y6] 95 :: box b12 [vI y1, vI y2, vI y3] 95 :: box b1 [.slice o_x0 x0.length c_x0] 24 :: L) _ := Sub.of (Zone.le_refl _) hS148
            refine p_firstP 1 [] [43, 45, 47, 49] (fl' := [(43, vI (w64 (y1 + r1))), (45, vI y4), (47, vI y5), (49, vI y6)]) (obs := []) hf377 (by kernel_rfl) (by kernel_rfl) (fun _ => .nil) fun a364 hf378 => ?_
            obtain ⟨r2, hd30, hr79⟩ := bind_some hr78
            refine p_call (i := 14) (d := some 50) (f := 86) (args := #[vI y5, vI y6]) hf378 (by kernel_rfl) (f86_ok fuel y5 y6 r2 hd30 z9 _ _ hS148 ) ?_
            rintro v34 ww120 a365 ⟨rfl, hS149⟩ hf379
            refine ⟨fun _ => Sub.of (Zone.le_refl _) hS149, ?_⟩
            have s27 : Sub z9 (box b23 [vI y4, vI y5, vI y6] 95 :: box b12 [vI y1, vI y2, vI y3] 95 :: box b1 [.slice o_x0 x0.length c_x0] 24 :: L) _ := Sub.of (Zone.le_refl _) hS149
            refine p_firstP 4 [] [6, 7, 8] (fl' := [(6, vI (w64 (y1 + r1))), (7, vI (w64 (y4 + r2))), (8, vI 0)]) (obs := []) hf379 (by kernel_rfl) (by kernel_rfl) (fun _ => .nil) fun a366 hf380 => ?_
            refine p_done (by kernel_rfl) ?_
            refine n_then ?_
            refine w_ret (by kernel_rfl) ?_
            refine p_ret (os := []) (v := .tuple #[vI (w64 (y1 + r1)), vI (w64 (y4 + r2)), vI 0]) (obs := []) hf380 (by kernel_rfl) .nil ?_
            obtain rfl := some_eq hr79
            exact ⟨_, rfl, z9, (Zone.le_trans (Zone.le_trans (Zone.le_trans k3 k5) k10) k15), rfl, (St.drop 3 hS149)⟩
def F52_j1 (y1 : Bool) : Option (Int) :=
  (cond y1 (some (10)) (some (0)))
def F52 (fuel : Nat) (x0_lo : Int) (x0_hi : Int) : Option (Int) :=
  (cond (decide (x0_lo > x0_hi)) (F52_j1 true) (cond (decide (x0_lo < (-1000000000000000 : Int))) (F52_j1 true) (F52_j1 (decide (x0_hi > (1000000000000000 : Int))))))
set_option maxRecDepth 100000 in
theorem f52_ok (fuel : Nat) (x0_lo : Int) (x0_hi : Int) (r : Int) (hr : F52 fuel x0_lo x0_hi = some r) (h : Zone) (L : List Atom) (w : World) (hS : St h L w)  :
    Calls Try.prog 52 #[.agg #[vI x0_lo, vI x0_hi]] w fun e w' => ∃ v, e = .returned v ∧ (∃ h', Zone.le h h' ∧ v = vI r ∧ St h' L w') := by
  refine calls_intro (N := 18) Try.func52 (by kernel_rfl) fun a hf => ?_
  refine w_seq (by kernel_rfl) ?_
  refine w_reg (by kernel_rfl) ?_
  refine p_box (i := 0) (d := (some 1)) (cs := [vI x0_lo, vI x0_hi]) (T := 41) (v := fun b1 => pB b1 0) hS hf (fun b => by kernel_rfl) fun b1 ww1 a1 hS1 hf1 => ⟨fun _ => trivial, ?_⟩
  refine p_run 1 [] [1] (fl' := [(1, pB b1 0)]) (obs := []) trivial hf1 (by kernel_rfl) (by kernel_rfl) .nil fun a2 hf2 => ?_
  refine p_done (by kernel_rfl) ?_
  refine n_then ?_
  refine w_seq (by kernel_rfl) ?_
  refine w_mid (by kernel_rfl) (fun a w => ∃ z1 : Zone, ∃ y1 : Bool, Zone.le h z1 ∧ Fr a 18 [(17, .bool y1)] ∧ St z1 (box b1 [vI x0_lo, vI x0_hi] 41 :: L) w ∧ (F52_j1 y1) = some r) ?_ ?_
  · skip
    refine w_reg (by kernel_rfl) ?_
    refine p_run 6 [vI x0_lo, vI x0_hi] [1, 8] (fl' := [(1, pB b1 0), (8, .bool (decide (x0_lo > x0_hi)))]) (obs := [.cell ⟨b1, 0, none⟩ (vI x0_lo), .cell ⟨b1, 1, none⟩ (vI x0_hi)]) trivial hf2 (by kernel_rfl) (by kernel_rfl) (.cell (hS1.box (i := 0) rfl (j := 0) rfl) (.cell (hS1.box (i := 0) rfl (j := 1) rfl) .nil)) fun a3 hf3 => ?_
    rcases Bool.eq_false_or_eq_true (decide (x0_lo > x0_hi)) with hb1 | hb1
    · have hr1 := cond_t hb1 hr
      have hf4 := Fr.conv hf3 (congrArg (fun z => ([(1, pB b1 0), (8, .bool z)] : FL)) hb1)
      refine p_run 9 [] [17] (fl' := [(17, .bool true)]) (obs := []) trivial hf4 (by kernel_rfl) (by kernel_rfl) .nil fun a4 hf5 => ?_
      refine p_done (by kernel_rfl) ?_
      refine n_then ?_
      have hf6 := Fr.keep (ks := [17]) (r := [(17, .bool true)]) hf5 (by kernel_rfl)
      exact ⟨h, true, (Zone.le_refl _), hf6, hS1, hr1⟩
    · have hr2 := cond_f hb1 hr
      have hf7 := Fr.conv hf3 (congrArg (fun z => ([(1, pB b1 0), (8, .bool z)] : FL)) hb1)
      refine p_run 5 [vI x0_lo] [1, 13] (fl' := [(1, pB b1 0), (13, .bool (decide (x0_lo < (-1000000000000000 : Int))))]) (obs := [.cell ⟨b1, 0, none⟩ (vI x0_lo)]) trivial hf7 (by kernel_rfl) (by kernel_rfl) (.cell (hS1.box (i := 0) rfl (j := 0) rfl) .nil) fun a5 hf8 => ?_
      rcases Bool.eq_false_or_eq_true (decide (x0_lo < (-1000000000000000 : Int))) with hb2 | hb2
      · have hr3 := cond_t hb2 hr2
        have hf9 := Fr.conv hf8 (congrArg (fun z => ([(1, pB b1 0), (13, .bool z)] : FL)) hb2)
        refine p_run 4 [] [17] (fl' := [(17, .bool true)]) (obs := []) trivial hf9 (by kernel_rfl) (by kernel_rfl) .nil fun a6 hf10 => ?_
        refine p_done (by kernel_rfl) ?_
        refine n_then ?_
        have hf11 := Fr.keep (ks := [17]) (r := [(17, .bool true)]) hf10 (by kernel_rfl)
        exact ⟨h, true, (Zone.le_refl _), hf11, hS1, hr3⟩
      · have hr4 := cond_f hb2 hr2
        have hf12 := Fr.conv hf8 (congrArg (fun z => ([(1, pB b1 0), (13, .bool z)] : FL)) hb2)
        refine p_run 4 [vI x0_hi] [17] (fl' := [(17, .bool (decide (x0_hi > (1000000000000000 : Int))))]) (obs := [.cell ⟨b1, 1, none⟩ (vI x0_hi)]) trivial hf12 (by kernel_rfl) (by kernel_rfl) (.cell (hS1.box (i := 0) rfl (j := 1) rfl) .nil) fun a7 hf13 => ?_
        refine p_done (by kernel_rfl) ?_
        refine n_then ?_
        have hf14 := Fr.keep (ks := [17]) (r := [(17, .bool (decide (x0_hi > (1000000000000000 : Int))))]) hf13 (by kernel_rfl)
        exact ⟨h, (decide (x0_hi > (1000000000000000 : Int))), (Zone.le_refl _), hf14, hS1, hr4⟩
  · rintro a8 ww2 ⟨z1, y1, k1, hf15, hS2, hr5⟩
    refine w_if hf15 (b := y1) (by kernel_rfl) (fun hb3 => ?_) (fun hb3 => ?_)
    · have hr6 := cond_t hb3 hr5
      refine w_seq (by kernel_rfl) ?_
      refine w_reg (by kernel_rfl) ?_
      refine p_run 1 [] [2] (fl' := [(2, vI 10)]) (obs := []) trivial hf15 (by kernel_rfl) (by kernel_rfl) .nil fun a9 hf16 => ?_
      refine p_done (by kernel_rfl) ?_
      refine n_then ?_
      refine w_ret (by kernel_rfl) ?_
      refine r_then ?_
      refine p_ret (os := []) (v := vI 10) (obs := []) hf16 (by kernel_rfl) .nil ?_
      obtain rfl := some_eq hr6
      exact ⟨_, rfl, z1, k1, rfl, (St.drop 1 hS2)⟩
    · have hr7 := cond_f hb3 hr5
      refine w_skip (by kernel_rfl) ?_
      refine n_then ?_
      refine w_seq (by kernel_rfl) ?_
      refine w_reg (by kernel_rfl) ?_
      refine p_run 1 [] [2] (fl' := [(2, vI 0)]) (obs := []) trivial hf15 (by kernel_rfl) (by kernel_rfl) .nil fun a10 hf17 => ?_
      refine p_done (by kernel_rfl) ?_
      refine n_then ?_
      refine w_ret (by kernel_rfl) ?_
      refine p_ret (os := []) (v := vI 0) (obs := []) hf17 (by kernel_rfl) .nil ?_
      obtain rfl := some_eq hr7
      exact ⟨_, rfl, z1, k1, rfl, (St.drop 1 hS2)⟩
def F120 (fuel : Nat) (x0_a_x : Int) (x0_a_lo : Int) (x0_a_hi : Int) (x0_b_x : Int) (x0_b_lo : Int) (x0_b_hi : Int) (x1 : Int) : Option (Bool) :=
  ((F90 fuel x1 x0_a_x x0_b_x).bind fun r1 => (some (r1)))
set_option maxRecDepth 100000 in
theorem f120_ok (fuel : Nat) (x0_a_x : Int) (x0_a_lo : Int) (x0_a_hi : Int) (x0_b_x : Int) (x0_b_lo : Int) (x0_b_hi : Int) (x1 : Int) (r : Bool) (hr : F120 fuel x0_a_x x0_a_lo x0_a_hi x0_b_x x0_b_lo x0_b_hi x1 = some r) (h : Zone) (L : List Atom) (w : World) (hS : St h L w)  :
    Calls Try.prog 120 #[.agg #[vI x0_a_x, vI x0_a_lo, vI x0_a_hi, vI x0_b_x, vI x0_b_lo, vI x0_b_hi], vI x1] w fun e w' => ∃ v, e = .returned v ∧ (∃ h', Zone.le h h' ∧ v = .bool r ∧ St h' L w') := by
  refine calls_intro (N := 13) Try.func120 (by kernel_rfl) fun a hf => ?_
  refine w_seq (by kernel_rfl) ?_
  refine w_reg (by kernel_rfl) ?_
  refine p_box (i := 0) (d := (some 2)) (cs := [vI x0_a_x, vI x0_a_lo, vI x0_a_hi, vI x0_b_x, vI x0_b_lo, vI x0_b_hi]) (T := 127) (v := fun b1 => pB b1 0) hS hf (fun b => by kernel_rfl) fun b1 ww1 a1 hS1 hf1 => ⟨fun _ => trivial, ?_⟩
  refine p_run 1 [] [1, 2] (fl' := [(1, vI x1), (2, pB b1 0)]) (obs := []) trivial hf1 (by kernel_rfl) (by kernel_rfl) .nil fun a2 hf2 => ?_
  refine p_done (by kernel_rfl) ?_
  refine n_then ?_
  refine w_seq (by kernel_rfl) ?_
  refine w_reg (by kernel_rfl) ?_
  refine p_run 7 [vI x0_a_x, vI x0_b_x] [5, 8, 11] (fl' := [(5, vI x1), (8, vI x0_a_x), (11, vI x0_b_x)]) (obs := [.cell ⟨b1, 0, none⟩ (vI x0_a_x), .cell ⟨b1, 3, none⟩ (vI x0_b_x)]) trivial hf2 (by kernel_rfl) (by kernel_rfl) (.cell (hS1.box (i := 0) rfl (j := 0) rfl) (.cell (hS1.box (i := 0) rfl (j := 3) rfl) .nil)) fun a3 hf3 => ?_
  obtain ⟨r1, hd1, hr1⟩ := bind_some hr
  refine p_call (i := 7) (d := some 12) (f := 90) (args := #[vI x1, vI x0_a_x, vI x0_b_x]) hf3 (by kernel_rfl) (f90_ok fuel x1 x0_a_x x0_b_x r1 hd1 h _ _ hS1 ) ?_
  rintro v1 ww2 a4 ⟨z1, k1, rfl, hS2⟩ hf4
  refine ⟨fun _ => trivial, ?_⟩
  refine p_run 1 [] [4] (fl' := [(4, .bool r1)]) (obs := []) trivial hf4 (by kernel_rfl) (by kernel_rfl) .nil fun a5 hf5 => ?_
  refine p_done (by kernel_rfl) ?_
  refine n_then ?_
  refine w_ret (by kernel_rfl) ?_
  refine p_ret (os := []) (v := .bool r1) (obs := []) hf5 (by kernel_rfl) .nil ?_
  obtain rfl := some_eq hr1
  exact ⟨_, rfl, z1, k1, rfl, (St.drop 1 hS2)⟩
def F131 (fuel : Nat) (x0_a_x : Int) (x0_a_lo : Int) (x0_a_hi : Int) (x0_b_x : Int) (x0_b_lo : Int) (x0_b_hi : Int) (x1 : Int) (x2 : Int) (x3 : Int) : Option (Int × Int) :=
  (cond ((x0_a_x == x0_b_x) && ((x0_a_lo == x0_b_lo) && ((x0_a_hi == x0_b_hi) && true))) (some (x1, 1)) (some ((w64 ((w64 (x1 * (w64 (x0_b_x - x3)))) + (w64 (x2 * (w64 (x3 - x0_a_x)))))), (w64 (x0_b_x - x0_a_x)))))
set_option maxRecDepth 100000 in
theorem f131_ok (fuel : Nat) (x0_a_x : Int) (x0_a_lo : Int) (x0_a_hi : Int) (x0_b_x : Int) (x0_b_lo : Int) (x0_b_hi : Int) (x1 : Int) (x2 : Int) (x3 : Int) (r : Int × Int) (hr : F131 fuel x0_a_x x0_a_lo x0_a_hi x0_b_x x0_b_lo x0_b_hi x1 x2 x3 = some r) (h : Zone) (L : List Atom) (w : World) (hS : St h L w)  :
    Calls Try.prog 131 #[.agg #[vI x0_a_x, vI x0_a_lo, vI x0_a_hi, vI x0_b_x, vI x0_b_lo, vI x0_b_hi], vI x1, vI x2, vI x3] w fun e w' => ∃ v, e = .returned v ∧ (v = .tuple #[vI r.1, vI r.2] ∧ St h L w') := by
  refine calls_intro (N := 38) Try.func131 (by kernel_rfl) fun a hf => ?_
  refine w_seq (by kernel_rfl) ?_
  refine w_reg (by kernel_rfl) ?_
  refine p_box (i := 0) (d := (some 4)) (cs := [vI x0_a_x, vI x0_a_lo, vI x0_a_hi, vI x0_b_x, vI x0_b_lo, vI x0_b_hi]) (T := 127) (v := fun b1 => pB b1 0) hS hf (fun b => by kernel_rfl) fun b1 ww1 a1 hS1 hf1 => ⟨fun _ => trivial, ?_⟩
  refine p_run 2 [] [1, 2, 3, 4] (fl' := [(1, vI x1), (2, vI x2), (3, vI x3), (4, pB b1 0)]) (obs := []) trivial hf1 (by kernel_rfl) (by kernel_rfl) .nil fun a2 hf2 => ?_
  refine p_done (by kernel_rfl) ?_
  refine n_then ?_
  refine w_seq (by kernel_rfl) ?_
  refine w_seq (by kernel_rfl) ?_
  refine w_reg (by kernel_rfl) ?_
  refine p_run 5 [vI x0_a_x, vI x0_a_lo, vI x0_a_hi, vI x0_b_x, vI x0_b_lo, vI x0_b_hi] [1, 2, 3, 4, 14] (fl' := [(1, vI x1), (2, vI x2), (3, vI x3), (4, pB b1 0), (14, .bool ((x0_a_x == x0_b_x) && ((x0_a_lo == x0_b_lo) && ((x0_a_hi == x0_b_hi) && true))))]) (obs := [.cell ⟨b1, 0, none⟩ (vI x0_a_x), .cell ⟨b1, 1, none⟩ (vI x0_a_lo), .cell ⟨b1, 2, none⟩ (vI x0_a_hi), .cell ⟨b1, 3, none⟩ (vI x0_b_x), .cell ⟨b1, 4, none⟩ (vI x0_b_lo), .cell ⟨b1, 5, none⟩ (vI x0_b_hi)]) trivial hf2 (by kernel_rfl) (by kernel_rfl) (.cell (hS1.box (i := 0) rfl (j := 0) rfl) (.cell (hS1.box (i := 0) rfl (j := 1) rfl) (.cell (hS1.box (i := 0) rfl (j := 2) rfl) (.cell (hS1.box (i := 0) rfl (j := 3) rfl) (.cell (hS1.box (i := 0) rfl (j := 4) rfl) (.cell (hS1.box (i := 0) rfl (j := 5) rfl) .nil)))))) fun a3 hf3 => ?_
  refine p_done (by kernel_rfl) ?_
  refine n_then ?_
  refine w_if hf3 (b := ((x0_a_x == x0_b_x) && ((x0_a_lo == x0_b_lo) && ((x0_a_hi == x0_b_hi) && true)))) (by kernel_rfl) (fun hb1 => ?_) (fun hb1 => ?_)
  · have hr1 := cond_t hb1 hr
    refine w_seq (by kernel_rfl) ?_
    refine w_reg (by kernel_rfl) ?_
    refine p_run 3 [] [8, 9] (fl' := [(8, vI x1), (9, vI 1)]) (obs := []) trivial hf3 (by kernel_rfl) (by kernel_rfl) .nil fun a4 hf4 => ?_
    refine p_done (by kernel_rfl) ?_
    refine n_then ?_
    refine w_ret (by kernel_rfl) ?_
    refine r_then ?_
    refine p_ret (os := []) (v := .tuple #[vI x1, vI 1]) (obs := []) hf4 (by kernel_rfl) .nil ?_
    obtain rfl := some_eq hr1
    exact ⟨_, rfl, rfl, (St.drop 1 hS1)⟩
  · have hr2 := cond_f hb1 hr
    refine w_skip (by kernel_rfl) ?_
    refine n_then ?_
    refine w_seq (by kernel_rfl) ?_
    have hS2 := hS1.drew
    refine w_regD (by kernel_rfl) [(0, true), (1, true), (2, true), (3, true), (4, true), (5, true), (6, true), (7, true), (8, true), (9, true), (10, true), (11, true), (12, true), (13, true), (14, true), (15, true), (16, true), (17, true), (18, true), (19, true), (20, true), (21, true), (22, true), (23, true)] [] (fun x => x = ww1.drew) (by kernel_rfl) rfl ?_
    refine p_firstP 3 [] [2, 3, 4, 16, 18] (fl' := [(2, vI x2), (3, vI x3), (4, pB b1 0), (16, vI x1), (18, pB b1 3)]) (obs := []) hf3 (by kernel_rfl) (by kernel_rfl) (fun _ => .nil) fun a5 hf5 => ?_
    refine p_firstE 1 [vI x0_b_x] [2, 3, 4, 16, 19] (fl' := [(2, vI x2), (3, vI x3), (4, pB b1 0), (16, vI x1), (19, vI x0_b_x)]) (obs := [.cell ⟨b1, 3, none⟩ (vI x0_b_x)]) (by kernel_rfl) hf5 (by kernel_rfl) (by kernel_rfl) (.cell (hS2.box (i := 0) rfl (j := 3) rfl) .nil) fun a6 hf6 => ?_
    refine p_firstP 7 [] [4, 22, 23, 24, 26] (fl' := [(4, pB b1 0), (22, vI (w64 (x1 * (w64 (x0_b_x - x3))))), (23, vI x2), (24, vI x3), (26, pB b1 0)]) (obs := []) hf6 (by kernel_rfl) (by kernel_rfl) (fun _ => .nil) fun a7 hf7 => ?_
    refine p_firstE 1 [vI x0_a_x] [4, 22, 23, 24, 27] (fl' := [(4, pB b1 0), (22, vI (w64 (x1 * (w64 (x0_b_x - x3))))), (23, vI x2), (24, vI x3), (27, vI x0_a_x)]) (obs := [.cell ⟨b1, 0, none⟩ (vI x0_a_x)]) (by kernel_rfl) hf7 (by kernel_rfl) (by kernel_rfl) (.cell (hS2.box (i := 0) rfl (j := 0) rfl) .nil) fun a8 hf8 => ?_
    refine p_firstP 5 [] [4, 30, 32] (fl' := [(4, pB b1 0), (30, vI (w64 ((w64 (x1 * (w64 (x0_b_x - x3)))) + (w64 (x2 * (w64 (x3 - x0_a_x))))))), (32, pB b1 3)]) (obs := []) hf8 (by kernel_rfl) (by kernel_rfl) (fun _ => .nil) fun a9 hf9 => ?_
    refine p_firstE 1 [vI x0_b_x] [4, 30, 33] (fl' := [(4, pB b1 0), (30, vI (w64 ((w64 (x1 * (w64 (x0_b_x - x3)))) + (w64 (x2 * (w64 (x3 - x0_a_x))))))), (33, vI x0_b_x)]) (obs := [.cell ⟨b1, 3, none⟩ (vI x0_b_x)]) (by kernel_rfl) hf9 (by kernel_rfl) (by kernel_rfl) (.cell (hS2.box (i := 0) rfl (j := 3) rfl) .nil) fun a10 hf10 => ?_
    refine p_firstP 2 [] [30, 33, 35] (fl' := [(30, vI (w64 ((w64 (x1 * (w64 (x0_b_x - x3)))) + (w64 (x2 * (w64 (x3 - x0_a_x))))))), (33, vI x0_b_x), (35, pB b1 0)]) (obs := []) hf10 (by kernel_rfl) (by kernel_rfl) (fun _ => .nil) fun a11 hf11 => ?_
    refine p_firstE 1 [vI x0_a_x] [30, 33, 36] (fl' := [(30, vI (w64 ((w64 (x1 * (w64 (x0_b_x - x3)))) + (w64 (x2 * (w64 (x3 - x0_a_x))))))), (33, vI x0_b_x), (36, vI x0_a_x)]) (obs := [.cell ⟨b1, 0, none⟩ (vI x0_a_x)]) (by kernel_rfl) hf11 (by kernel_rfl) (by kernel_rfl) (.cell (hS2.box (i := 0) rfl (j := 0) rfl) .nil) fun a12 hf12 => ?_
    refine p_firstP 3 [] [8, 9] (fl' := [(8, vI (w64 ((w64 (x1 * (w64 (x0_b_x - x3)))) + (w64 (x2 * (w64 (x3 - x0_a_x))))))), (9, vI (w64 (x0_b_x - x0_a_x)))]) (obs := []) hf12 (by kernel_rfl) (by kernel_rfl) (fun _ => .nil) fun a13 hf13 => ?_
    refine p_done (by kernel_rfl) ?_
    refine n_then ?_
    refine w_ret (by kernel_rfl) ?_
    refine p_ret (os := []) (v := .tuple #[vI (w64 ((w64 (x1 * (w64 (x0_b_x - x3)))) + (w64 (x2 * (w64 (x3 - x0_a_x)))))), vI (w64 (x0_b_x - x0_a_x))]) (obs := []) hf13 (by kernel_rfl) .nil ?_
    obtain rfl := some_eq hr2
    exact ⟨_, rfl, rfl, (St.drop 1 hS2)⟩
def F121 (fuel : Nat) (x0_a_x : Int) (x0_a_lo : Int) (x0_a_hi : Int) (x0_b_x : Int) (x0_b_lo : Int) (x0_b_hi : Int) (x1 : Int) : Option (Int × Int) :=
  ((F131 fuel x0_a_x x0_a_lo x0_a_hi x0_b_x x0_b_lo x0_b_hi x0_a_lo x0_b_lo x1).bind fun r1 => ((F131 fuel x0_a_x x0_a_lo x0_a_hi x0_b_x x0_b_lo x0_b_hi x0_a_hi x0_b_hi x1).bind fun r2 => ((F85 fuel r1.1 r1.2).bind fun r3 => ((F86 fuel r2.1 r2.2).bind fun r4 => (some (r3, r4))))))
set_option maxRecDepth 100000 in
theorem f121_ok (fuel : Nat) (x0_a_x : Int) (x0_a_lo : Int) (x0_a_hi : Int) (x0_b_x : Int) (x0_b_lo : Int) (x0_b_hi : Int) (x1 : Int) (r : Int × Int) (hr : F121 fuel x0_a_x x0_a_lo x0_a_hi x0_b_x x0_b_lo x0_b_hi x1 = some r) (h : Zone) (L : List Atom) (w : World) (hS : St h L w)  :
    Calls Try.prog 121 #[.agg #[vI x0_a_x, vI x0_a_lo, vI x0_a_hi, vI x0_b_x, vI x0_b_lo, vI x0_b_hi], vI x1] w fun e w' => ∃ v, e = .returned v ∧ (v = .agg #[vI r.1, vI r.2] ∧ St h L w') := by
  refine calls_intro (N := 40) Try.func121 (by kernel_rfl) fun a hf => ?_
  refine w_seq (by kernel_rfl) ?_
  refine w_reg (by kernel_rfl) ?_
  refine p_box (i := 0) (d := (some 2)) (cs := [vI x0_a_x, vI x0_a_lo, vI x0_a_hi, vI x0_b_x, vI x0_b_lo, vI x0_b_hi]) (T := 127) (v := fun b1 => pB b1 0) hS hf (fun b => by kernel_rfl) fun b1 ww1 a1 hS1 hf1 => ⟨fun _ => trivial, ?_⟩
  refine p_box (i := 1) (d := (some 4)) (cs := [vI 0, vI 0]) (T := 41) (v := fun b2 => pB b2 0) hS1 hf1 (fun b => by kernel_rfl) fun b2 ww2 a2 hS2 hf2 => ⟨fun _ => trivial, ?_⟩
  refine p_done (by kernel_rfl) ?_
  refine n_then ?_
  refine w_seq (by kernel_rfl) ?_
  refine w_reg (by kernel_rfl) ?_
  refine p_run 8 [vI x0_a_x, vI x0_a_lo, vI x0_a_hi, vI x0_b_x, vI x0_b_lo, vI x0_b_hi, vI x0_a_lo, vI x0_b_lo] [1, 2, 4, 10, 13, 16, 17] (fl' := [(1, vI x1), (2, pB b1 0), (4, pB b2 0), (10, .agg #[vI x0_a_x, vI x0_a_lo, vI x0_a_hi, vI x0_b_x, vI x0_b_lo, vI x0_b_hi]), (13, vI x0_a_lo), (16, vI x0_b_lo), (17, vI x1)]) (obs := [.cell ⟨b1, 0, none⟩ (vI x0_a_x), .cell ⟨b1, 1, none⟩ (vI x0_a_lo), .cell ⟨b1, 2, none⟩ (vI x0_a_hi), .cell ⟨b1, 3, none⟩ (vI x0_b_x), .cell ⟨b1, 4, none⟩ (vI x0_b_lo), .cell ⟨b1, 5, none⟩ (vI x0_b_hi), .cell ⟨b1, 1, none⟩ (vI x0_a_lo), .cell ⟨b1, 4, none⟩ (vI x0_b_lo)]) trivial hf2 (by kernel_rfl) (by kernel_rfl) (.cell (hS2.box (i := 1) rfl (j := 0) rfl) (.cell (hS2.box (i := 1) rfl (j := 1) rfl) (.cell (hS2.box (i := 1) rfl (j := 2) rfl) (.cell (hS2.box (i := 1) rfl (j := 3) rfl) (.cell (hS2.box (i := 1) rfl (j := 4) rfl) (.cell (hS2.box (i := 1) rfl (j := 5) rfl) (.cell (hS2.box (i := 1) rfl (j := 1) rfl) (.cell (hS2.box (i := 1) rfl (j := 4) rfl) .nil)))))))) fun a3 hf3 => ?_
  obtain ⟨r1, hd1, hr1⟩ := bind_some hr
  refine p_call (i := 8) (d := some 18) (f := 131) (args := #[.agg #[vI x0_a_x, vI x0_a_lo, vI x0_a_hi, vI x0_b_x, vI x0_b_lo, vI x0_b_hi], vI x0_a_lo, vI x0_b_lo, vI x1]) hf3 (by kernel_rfl) (f131_ok fuel x0_a_x x0_a_lo x0_a_hi x0_b_x x0_b_lo x0_b_hi x0_a_lo x0_b_lo x1 r1 hd1 h _ _ hS2 ) ?_
  rintro v1 ww3 a4 ⟨rfl, hS3⟩ hf4
  refine ⟨fun _ => trivial, ?_⟩
  refine p_run 5 [] [1, 2, 4, 5, 6] (fl' := [(1, vI x1), (2, pB b1 0), (4, pB b2 0), (5, vI r1.1), (6, vI r1.2)]) (obs := []) trivial hf4 (by kernel_rfl) (by kernel_rfl) .nil fun a5 hf5 => ?_
  refine p_done (by kernel_rfl) ?_
  refine n_then ?_
  refine w_seq (by kernel_rfl) ?_
  refine w_reg (by kernel_rfl) ?_
  refine p_run 8 [vI x0_a_x, vI x0_a_lo, vI x0_a_hi, vI x0_b_x, vI x0_b_lo, vI x0_b_hi, vI x0_a_hi, vI x0_b_hi] [4, 5, 6, 22, 25, 28, 29] (fl' := [(4, pB b2 0), (5, vI r1.1), (6, vI r1.2), (22, .agg #[vI x0_a_x, vI x0_a_lo, vI x0_a_hi, vI x0_b_x, vI x0_b_lo, vI x0_b_hi]), (25, vI x0_a_hi), (28, vI x0_b_hi), (29, vI x1)]) (obs := [.cell ⟨b1, 0, none⟩ (vI x0_a_x), .cell ⟨b1, 1, none⟩ (vI x0_a_lo), .cell ⟨b1, 2, none⟩ (vI x0_a_hi), .cell ⟨b1, 3, none⟩ (vI x0_b_x), .cell ⟨b1, 4, none⟩ (vI x0_b_lo), .cell ⟨b1, 5, none⟩ (vI x0_b_hi), .cell ⟨b1, 2, none⟩ (vI x0_a_hi), .cell ⟨b1, 5, none⟩ (vI x0_b_hi)]) trivial hf5 (by kernel_rfl) (by kernel_rfl) (.cell (hS3.box (i := 1) rfl (j := 0) rfl) (.cell (hS3.box (i := 1) rfl (j := 1) rfl) (.cell (hS3.box (i := 1) rfl (j := 2) rfl) (.cell (hS3.box (i := 1) rfl (j := 3) rfl) (.cell (hS3.box (i := 1) rfl (j := 4) rfl) (.cell (hS3.box (i := 1) rfl (j := 5) rfl) (.cell (hS3.box (i := 1) rfl (j := 2) rfl) (.cell (hS3.box (i := 1) rfl (j := 5) rfl) .nil)))))))) fun a6 hf6 => ?_
  obtain ⟨r2, hd2, hr2⟩ := bind_some hr1
  refine p_call (i := 8) (d := some 30) (f := 131) (args := #[.agg #[vI x0_a_x, vI x0_a_lo, vI x0_a_hi, vI x0_b_x, vI x0_b_lo, vI x0_b_hi], vI x0_a_hi, vI x0_b_hi, vI x1]) hf6 (by kernel_rfl) (f131_ok fuel x0_a_x x0_a_lo x0_a_hi x0_b_x x0_b_lo x0_b_hi x0_a_hi x0_b_hi x1 r2 hd2 h _ _ hS3 ) ?_
  rintro v2 ww4 a7 ⟨rfl, hS4⟩ hf7
  refine ⟨fun _ => trivial, ?_⟩
  refine p_run 5 [] [4, 5, 6, 7, 8] (fl' := [(4, pB b2 0), (5, vI r1.1), (6, vI r1.2), (7, vI r2.1), (8, vI r2.2)]) (obs := []) trivial hf7 (by kernel_rfl) (by kernel_rfl) .nil fun a8 hf8 => ?_
  refine p_done (by kernel_rfl) ?_
  refine n_then ?_
  refine w_seq (by kernel_rfl) ?_
  refine w_reg (by kernel_rfl) ?_
  refine p_run 2 [] [4, 7, 8, 33, 34] (fl' := [(4, pB b2 0), (7, vI r2.1), (8, vI r2.2), (33, vI r1.1), (34, vI r1.2)]) (obs := []) trivial hf8 (by kernel_rfl) (by kernel_rfl) .nil fun a9 hf9 => ?_
  obtain ⟨r3, hd3, hr3⟩ := bind_some hr2
  refine p_call (i := 2) (d := some 35) (f := 85) (args := #[vI r1.1, vI r1.2]) hf9 (by kernel_rfl) (f85_ok fuel r1.1 r1.2 r3 hd3 h _ _ hS4 ) ?_
  rintro v3 ww5 a10 ⟨rfl, hS5⟩ hf10
  refine ⟨fun _ => trivial, ?_⟩
  refine p_run 2 [] [4, 35, 36, 37] (fl' := [(4, pB b2 0), (35, vI r3), (36, vI r2.1), (37, vI r2.2)]) (obs := []) trivial hf10 (by kernel_rfl) (by kernel_rfl) .nil fun a11 hf11 => ?_
  obtain ⟨r4, hd4, hr4⟩ := bind_some hr3
  refine p_call (i := 5) (d := some 38) (f := 86) (args := #[vI r2.1, vI r2.2]) hf11 (by kernel_rfl) (f86_ok fuel r2.1 r2.2 r4 hd4 h _ _ hS5 ) ?_
  rintro v4 ww6 a12 ⟨rfl, hS6⟩ hf12
  refine ⟨fun _ => trivial, ?_⟩
  refine p_run 1 [] [4, 39] (fl' := [(4, pB b2 0), (39, .agg #[vI r3, vI r4])]) (obs := []) trivial hf12 (by kernel_rfl) (by kernel_rfl) .nil fun a13 hf13 => ?_
  refine p_store_eq (i := 7) (j := 0) (b := b2) (off := 0) (vs := [vI r3, vI r4]) (cs' := [vI r3, vI r4]) hS6 hf13 rfl (by kernel_rfl) (by kernel_rfl) rfl fun ww7 a14 hS7 hf14 => ⟨fun _ => trivial, ?_⟩
  refine p_done (by kernel_rfl) ?_
  refine n_then ?_
  refine w_ret (by kernel_rfl) ?_
  refine p_ret (os := [vI r3, vI r4]) (v := .agg #[vI r3, vI r4]) (obs := [.cell ⟨b2, 0, none⟩ (vI r3), .cell ⟨b2, 1, none⟩ (vI r4)]) hf14 (by kernel_rfl) (.cell (hS7.box (i := 0) rfl (j := 0) rfl) (.cell (hS7.box (i := 0) rfl (j := 1) rfl) .nil)) ?_
  obtain rfl := some_eq hr4
  exact ⟨_, rfl, rfl, (St.drop 2 hS7)⟩
def F88_l1 (fuel : Nat) (x0 : List Pt) (x1 : Int) (d1 : List Pt) : Nat → Int → Option (Int × Int)
  | 0, _ => none
  | n1 + 1, y1 =>
    let k1 : Int → Option (Int × Int) := F88_l1 fuel x0 x1 d1 n1
    (cond (decide (y1 < (d1.length : Int))) ((getI d1 y1).bind fun p1 => ((getI x0 y1).bind fun p2 => ((F120 fuel p2.x p2.lo p2.hi p1.x p1.lo p1.hi x1).bind fun r1 => (cond r1 ((F121 fuel p2.x p2.lo p2.hi p1.x p1.lo p1.hi x1).bind fun r2 => (some (r2.1, r2.2))) (k1 (w64 (y1 + (1 : Int)))))))) (some (0, 0)))
def F88 (fuel : Nat) (x0 : List Pt) (x1 : Int) : Option (Int × Int) :=
  (cond ((x0.length : Int) == (1 : Int)) ((getI x0 0).bind fun p3 => ((getI x0 0).bind fun p4 => ((F120 fuel p3.x p3.lo p3.hi p4.x p4.lo p4.hi x1).bind fun r3 => (cond r3 ((F121 fuel p3.x p3.lo p3.hi p4.x p4.lo p4.hi x1).bind fun r4 => (some (r4.1, r4.2))) (some (0, 0)))))) ((subI x0 1 (x0.length : Int)).bind fun d1 => (F88_l1 fuel x0 x1 d1 fuel 0)))
end Go.Proofs.Ytpjmgeajajcceaa

