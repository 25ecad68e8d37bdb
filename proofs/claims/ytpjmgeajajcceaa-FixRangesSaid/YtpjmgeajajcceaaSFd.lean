/-
  A part of the walk and of the plain law of one given statement. No condition.
-/
import Derived.Test.YtpjmgeajajcceaaSFc
set_option linter.unusedVariables false
namespace Go.Proofs.Ytpjmgeajajcceaa
open Go.Sl Go.Sx
set_option maxRecDepth 100000 in
theorem f57_ok (fuel : Nat) (x0 : List Pt) (x1 : List Pt) (r : List Pt × Int) (hr : F57 fuel x0 x1 = some r) (h : Zone) (L : List Atom) (w : World) (hS : St h L w) (o_x0 : Option Addr) (c_x0 : Nat) (hx_x0 : SliceR PtT h o_x0 c_x0 x0) (o_x1 : Option Addr) (c_x1 : Nat) (hx_x1 : SliceR PtT h o_x1 c_x1 x1) :
    Calls Try.prog 57 #[.agg #[.slice o_x0 x0.length c_x0], .agg #[.slice o_x1 x1.length c_x1]] w fun e w' => ∃ v, e = .returned v ∧ (∃ h', ∃ o0 : Option Addr, ∃ c0 : Nat, Zone.le h h' ∧ v = .tuple #[.agg #[.slice o0 r.1.length c0], vI r.2] ∧ St h' L w' ∧ SliceR PtT h' o0 c0 r.1) := by
  refine calls_intro (N := 11) Try.func57 (by kernel_rfl) fun a hf => ?_
  refine w_seq (by kernel_rfl) ?_
  refine w_reg (by kernel_rfl) ?_
  refine p_box (i := 0) (d := (some 2)) (cs := [.slice o_x0 x0.length c_x0]) (T := 24) (v := fun b1 => pB b1 0) hS hf (fun b => by kernel_rfl) fun b1 ww1 a1 hS1 hf1 => ⟨fun _ => trivial, ?_⟩
  refine p_box (i := 1) (d := (some 3)) (cs := [.slice o_x1 x1.length c_x1]) (T := 24) (v := fun b2 => pB b2 0) hS1 hf1 (fun b => by kernel_rfl) fun b2 ww2 a2 hS2 hf2 => ⟨fun _ => trivial, ?_⟩
  refine p_box (i := 2) (d := (some 4)) (cs := [.slice none 0 0]) (T := 24) (v := fun b3 => pB b3 0) hS2 hf2 (fun b => by kernel_rfl) fun b3 ww3 a3 hS3 hf3 => ⟨fun _ => trivial, ?_⟩
  refine p_run 1 [] [2, 3, 4] (fl' := [(2, pB b1 0), (3, pB b2 0), (4, pB b3 0)]) (obs := []) trivial hf3 (by kernel_rfl) (by kernel_rfl) .nil fun a4 hf4 => ?_
  refine p_done (by kernel_rfl) ?_
  refine n_then ?_
  refine w_seq (by kernel_rfl) ?_
  refine w_reg (by kernel_rfl) ?_
  refine p_run 2 [.slice o_x0 x0.length c_x0, .slice o_x1 x1.length c_x1] [4, 6, 7] (fl' := [(4, pB b3 0), (6, .agg #[.slice o_x0 x0.length c_x0]), (7, .agg #[.slice o_x1 x1.length c_x1])]) (obs := [.cell ⟨b1, 0, none⟩ (.slice o_x0 x0.length c_x0), .cell ⟨b2, 0, none⟩ (.slice o_x1 x1.length c_x1)]) trivial hf4 (by kernel_rfl) (by kernel_rfl) (.cell (hS3.box (i := 2) rfl (j := 0) rfl) (.cell (hS3.box (i := 1) rfl (j := 0) rfl) .nil)) fun a5 hf5 => ?_
  refine p_call (i := 2) (d := some 8) (f := 110) (args := #[.agg #[.slice o_x0 x0.length c_x0], .agg #[.slice o_x1 x1.length c_x1], .func (.func 111) #[] #[]]) hf5 (by kernel_rfl) (Φ := fun v w => ∃ z1 : Zone, ∃ y1 : List Pt, ∃ y2 : Int, ∃ e1 : Option Addr, ∃ q1 : Nat, Zone.le h z1 ∧ v = .tuple #[.agg #[.slice e1 y1.length q1], vI y2] ∧ St z1 (ownS PtT 52 e1 q1 y1 :: box b3 [.slice none 0 0] 24 :: box b2 [.slice o_x1 x1.length c_x1] 24 :: box b1 [.slice o_x0 x0.length c_x0] 24 :: L) w ∧ (F57_j1 y1 y2) = some r) ?_ ?_
  · refine calls_intro (N := 72) Try.func110 (by kernel_rfl) fun a6 hf6 => ?_
    refine w_seq (by kernel_rfl) ?_
    refine w_reg (by kernel_rfl) ?_
    refine p_box (i := 0) (d := (some 3)) (cs := [.slice o_x0 x0.length c_x0]) (T := 24) (v := fun b4 => pB b4 0) hS3 hf6 (fun b => by kernel_rfl) fun b4 ww4 a7 hS4 hf7 => ⟨fun _ => trivial, ?_⟩
    refine p_box (i := 1) (d := (some 4)) (cs := [.slice o_x1 x1.length c_x1]) (T := 24) (v := fun b5 => pB b5 0) hS4 hf7 (fun b => by kernel_rfl) fun b5 ww5 a8 hS5 hf8 => ⟨fun _ => trivial, ?_⟩
    refine p_box (i := 2) (d := (some 5)) (cs := [.func (.func 111) #[] #[]]) (T := 118) (v := fun b6 => pB b6 0) hS5 hf8 (fun b => by kernel_rfl) fun b6 ww6 a9 hS6 hf9 => ⟨fun _ => trivial, ?_⟩
    refine p_box (i := 3) (d := (some 6)) (cs := [.slice none 0 0]) (T := 24) (v := fun b7 => pB b7 0) hS6 hf9 (fun b => by kernel_rfl) fun b7 ww7 a10 hS7 hf10 => ⟨fun _ => trivial, ?_⟩
    refine p_run 1 [] [3, 4, 5, 6] (fl' := [(3, pB b4 0), (4, pB b5 0), (5, pB b6 0), (6, pB b7 0)]) (obs := []) trivial hf10 (by kernel_rfl) (by kernel_rfl) .nil fun a11 hf11 => ?_
    refine p_done (by kernel_rfl) ?_
    refine n_then ?_
    refine w_seq (by kernel_rfl) ?_
    refine w_seq (by kernel_rfl) ?_
    refine w_reg (by kernel_rfl) ?_
    refine p_run 1 [.slice o_x0 x0.length c_x0] [3, 4, 5, 6, 15] (fl' := [(3, pB b4 0), (4, pB b5 0), (5, pB b6 0), (6, pB b7 0), (15, .agg #[.slice o_x0 x0.length c_x0])]) (obs := [.cell ⟨b4, 0, none⟩ (.slice o_x0 x0.length c_x0)]) trivial hf11 (by kernel_rfl) (by kernel_rfl) (.cell (hS7.box (i := 3) rfl (j := 0) rfl) .nil) fun a12 hf12 => ?_
    obtain ⟨r6, hd1, hr1⟩ := bind_some hr
    refine p_call (i := 1) (d := some 16) (f := 67) (args := #[.agg #[.slice o_x0 x0.length c_x0]]) hf12 (by kernel_rfl) (f67_ok fuel x0 r6 hd1 h _ _ hS7 o_x0 c_x0 hx_x0) ?_
    rintro v1 ww8 a13 ⟨z2, k3, rfl, hS8⟩ hf13
    refine ⟨fun _ => trivial, ?_⟩
    refine p_run 1 [] [3, 4, 5, 6, 8] (fl' := [(3, pB b4 0), (4, pB b5 0), (5, pB b6 0), (6, pB b7 0), (8, vI r6)]) (obs := []) trivial hf13 (by kernel_rfl) (by kernel_rfl) .nil fun a14 hf14 => ?_
    refine p_done (by kernel_rfl) ?_
    refine n_then ?_
    refine w_seq (by kernel_rfl) ?_
    refine w_reg (by kernel_rfl) ?_
    refine p_run 2 [] [3, 4, 5, 6, 8, 18] (fl' := [(3, pB b4 0), (4, pB b5 0), (5, pB b6 0), (6, pB b7 0), (8, vI r6), (18, .bool (r6 != (0 : Int)))]) (obs := []) trivial hf14 (by kernel_rfl) (by kernel_rfl) .nil fun a15 hf15 => ?_
    refine p_done (by kernel_rfl) ?_
    refine n_then ?_
    refine w_if hf15 (b := (r6 != (0 : Int))) (by kernel_rfl) (fun hb1 => ?_) (fun hb1 => ?_)
    · have hr2 := cond_t hb1 hr1
      refine w_seq (by kernel_rfl) ?_
      refine w_reg (by kernel_rfl) ?_
      refine p_run 2 [] [6, 19, 20] (fl' := [(6, pB b7 0), (19, .agg #[.slice none 0 0]), (20, vI r6)]) (obs := []) trivial hf15 (by kernel_rfl) (by kernel_rfl) .nil fun a16 hf16 => ?_
      refine p_store_eq (i := 2) (j := 0) (b := b7) (off := 0) (vs := [.slice none 0 0]) (cs' := [.slice none 0 0]) hS8 hf16 rfl (by kernel_rfl) (by kernel_rfl) rfl fun ww9 a17 hS9 hf17 => ⟨fun _ => trivial, ?_⟩
      refine p_run 1 [] [6, 7] (fl' := [(6, pB b7 0), (7, vI r6)]) (obs := []) trivial hf17 (by kernel_rfl) (by kernel_rfl) .nil fun a18 hf18 => ?_
      refine p_done (by kernel_rfl) ?_
      refine n_then ?_
      refine w_ret (by kernel_rfl) ?_
      refine r_then ?_
      refine p_ret (os := [.slice none 0 0]) (v := .tuple #[.agg #[.slice none 0 0], vI r6]) (obs := [.cell ⟨b7, 0, none⟩ (.slice none 0 0)]) hf18 (by kernel_rfl) (.cell (hS9.box (i := 0) rfl (j := 0) rfl) .nil) ?_
      have hS10 := St.ownNil hS9 PtT 52
      exact ⟨_, rfl, z2, [], r6, none, 0, k3, rfl, (St.pick 5 [0] hS10 (by kernel_rfl)), hr2⟩
    · have hr3 := cond_f hb1 hr1
      refine w_skip (by kernel_rfl) ?_
      refine n_then ?_
      refine w_seq (by kernel_rfl) ?_
      refine w_seq (by kernel_rfl) ?_
      refine w_reg (by kernel_rfl) ?_
      refine p_run 1 [.slice o_x1 x1.length c_x1] [3, 4, 5, 6, 21] (fl' := [(3, pB b4 0), (4, pB b5 0), (5, pB b6 0), (6, pB b7 0), (21, .agg #[.slice o_x1 x1.length c_x1])]) (obs := [.cell ⟨b5, 0, none⟩ (.slice o_x1 x1.length c_x1)]) trivial hf15 (by kernel_rfl) (by kernel_rfl) (.cell (hS8.box (i := 2) rfl (j := 0) rfl) .nil) fun a19 hf19 => ?_
      obtain ⟨r7, hd2, hr4⟩ := bind_some hr3
      refine p_call (i := 1) (d := some 22) (f := 67) (args := #[.agg #[.slice o_x1 x1.length c_x1]]) hf19 (by kernel_rfl) (f67_ok fuel x1 r7 hd2 z2 _ _ hS8 o_x1 c_x1 (SliceR.mono k3 hx_x1)) ?_
      rintro v2 ww10 a20 ⟨z3, k4, rfl, hS11⟩ hf20
      refine ⟨fun _ => trivial, ?_⟩
      refine p_run 1 [] [3, 4, 5, 6, 9] (fl' := [(3, pB b4 0), (4, pB b5 0), (5, pB b6 0), (6, pB b7 0), (9, vI r7)]) (obs := []) trivial hf20 (by kernel_rfl) (by kernel_rfl) .nil fun a21 hf21 => ?_
      refine p_done (by kernel_rfl) ?_
      refine n_then ?_
      refine w_seq (by kernel_rfl) ?_
      refine w_reg (by kernel_rfl) ?_
      refine p_run 2 [] [3, 4, 5, 6, 9, 24] (fl' := [(3, pB b4 0), (4, pB b5 0), (5, pB b6 0), (6, pB b7 0), (9, vI r7), (24, .bool (r7 != (0 : Int)))]) (obs := []) trivial hf21 (by kernel_rfl) (by kernel_rfl) .nil fun a22 hf22 => ?_
      refine p_done (by kernel_rfl) ?_
      refine n_then ?_
      refine w_if hf22 (b := (r7 != (0 : Int))) (by kernel_rfl) (fun hb2 => ?_) (fun hb2 => ?_)
      · have hr5 := cond_t hb2 hr4
        refine w_seq (by kernel_rfl) ?_
        refine w_reg (by kernel_rfl) ?_
        refine p_run 2 [] [6, 25, 26] (fl' := [(6, pB b7 0), (25, .agg #[.slice none 0 0]), (26, vI r7)]) (obs := []) trivial hf22 (by kernel_rfl) (by kernel_rfl) .nil fun a23 hf23 => ?_
        refine p_store_eq (i := 2) (j := 0) (b := b7) (off := 0) (vs := [.slice none 0 0]) (cs' := [.slice none 0 0]) hS11 hf23 rfl (by kernel_rfl) (by kernel_rfl) rfl fun ww11 a24 hS12 hf24 => ⟨fun _ => trivial, ?_⟩
        refine p_run 1 [] [6, 7] (fl' := [(6, pB b7 0), (7, vI r7)]) (obs := []) trivial hf24 (by kernel_rfl) (by kernel_rfl) .nil fun a25 hf25 => ?_
        refine p_done (by kernel_rfl) ?_
        refine n_then ?_
        refine w_ret (by kernel_rfl) ?_
        refine r_then ?_
        refine p_ret (os := [.slice none 0 0]) (v := .tuple #[.agg #[.slice none 0 0], vI r7]) (obs := [.cell ⟨b7, 0, none⟩ (.slice none 0 0)]) hf25 (by kernel_rfl) (.cell (hS12.box (i := 0) rfl (j := 0) rfl) .nil) ?_
        have hS13 := St.ownNil hS12 PtT 52
        exact ⟨_, rfl, z3, [], r7, none, 0, (Zone.le_trans k3 k4), rfl, (St.pick 5 [0] hS13 (by kernel_rfl)), hr5⟩
      · have hr6 := cond_f hb2 hr4
        refine w_skip (by kernel_rfl) ?_
        refine n_then ?_
        refine w_mid (by kernel_rfl) (fun a w => ∃ z4 : Zone, ∃ y13 : Int, ∃ y11 : Int, ∃ y12 : Int, ∃ b8 : Nat, Zone.le z3 z4 ∧ Fr a 72 [(3, pB b4 0), (4, pB b5 0), (5, pB b6 0), (6, pB b7 0), (10, pB b8 0), (11, vI y13)] ∧ St z4 (box b8 [vI y11, vI y12] 41 :: box b7 [.slice none 0 0] 24 :: box b6 [.func (.func 111) #[] #[]] 118 :: box b5 [.slice o_x1 x1.length c_x1] 24 :: box b4 [.slice o_x0 x0.length c_x0] 24 :: box b3 [.slice none 0 0] 24 :: box b2 [.slice o_x1 x1.length c_x1] 24 :: box b1 [.slice o_x0 x0.length c_x0] 24 :: L) w ∧ (F57_j2 fuel x0 x1 y13 y11 y12) = some r) ?_ ?_
        · skip
          have hS14 := hS11.drew
          have s1 : Sub z3 (box b7 [.slice none 0 0] 24 :: box b6 [.func (.func 111) #[] #[]] 118 :: box b5 [.slice o_x1 x1.length c_x1] 24 :: box b4 [.slice o_x0 x0.length c_x0] 24 :: box b3 [.slice none 0 0] 24 :: box b2 [.slice o_x1 x1.length c_x1] 24 :: box b1 [.slice o_x0 x0.length c_x0] 24 :: L) _ := Sub.of (Zone.le_refl _) hS14
          refine w_regB (by kernel_rfl) [3, 4, 9] (Sub z3 (box b7 [.slice none 0 0] 24 :: box b6 [.func (.func 111) #[] #[]] 118 :: box b5 [.slice o_x1 x1.length c_x1] 24 :: box b4 [.slice o_x0 x0.length c_x0] 24 :: box b3 [.slice none 0 0] 24 :: box b2 [.slice o_x1 x1.length c_x1] 24 :: box b1 [.slice o_x0 x0.length c_x0] 24 :: L)) (by kernel_rfl) ?_
          refine k_seg' 9 [(0, true), (2, true)] (by kernel_rfl) (by kernel_rfl) (At.start s1) (by kernel_rfl) ?_
          refine p_first 2 [.slice o_x0 x0.length c_x0, .slice o_x1 x1.length c_x1] [3, 4, 5, 6, 28, 30] (fl' := [(3, pB b4 0), (4, pB b5 0), (5, pB b6 0), (6, pB b7 0), (28, .agg #[.slice o_x0 x0.length c_x0]), (30, .agg #[.slice o_x1 x1.length c_x1])]) (obs := [.cell ⟨b4, 0, none⟩ (.slice o_x0 x0.length c_x0), .cell ⟨b5, 0, none⟩ (.slice o_x1 x1.length c_x1)]) s1 (by kernel_rfl) hf22 (by kernel_rfl) (by kernel_rfl) (fun _ s => (.cell (s.box (i := 3) rfl (j := 0) rfl) (.cell (s.box (i := 2) rfl (j := 0) rfl) .nil))) fun a26 hf26 => ?_
          refine p_done (by kernel_rfl) ?_
          intro hA1
          refine k_any' 8 [1, 8] (by kernel_rfl) hA1 (by kernel_rfl) (by kernel_rfl) ?_
          refine (all_cons ?_ (all_cons ?_ all_nil))
          · skip
            obtain ⟨r8, hd3, hr7⟩ := bind_some hr6
            refine p_call (i := 1) (d := some 29) (f := 117) (args := #[.agg #[.slice o_x0 x0.length c_x0]]) hf26 (by kernel_rfl) (f117_ok fuel x0 r8 hd3 z3 _ _ hS14 o_x0 c_x0 (SliceR.mono (Zone.le_trans k3 k4) hx_x0)) ?_
            rintro v3 ww12 a27 ⟨rfl, hS15⟩ hf27
            refine ⟨fun _ => Sub.of (Zone.le_refl _) hS15, ?_⟩
            refine p_done (by kernel_rfl) ?_
            intro hA2
            refine k_seg' 8 [] (by kernel_rfl) (by kernel_rfl) hA2 (by kernel_rfl) ?_
            refine p_done (by kernel_rfl) ?_
            intro hA3
            refine k_any' 7 [3, 8] (by kernel_rfl) hA3 (by kernel_rfl) (by kernel_rfl) ?_
            refine (all_cons ?_ (all_cons ?_ all_nil))
            · skip
              obtain ⟨r9, hd4, hr8⟩ := bind_some hr7
              refine p_call (i := 3) (d := some 31) (f := 117) (args := #[.agg #[.slice o_x1 x1.length c_x1]]) hf27 (by kernel_rfl) (f117_ok fuel x1 r9 hd4 z3 _ _ hS15 o_x1 c_x1 (SliceR.mono (Zone.le_trans k3 k4) hx_x1)) ?_
              rintro v4 ww13 a28 ⟨rfl, hS16⟩ hf28
              refine ⟨fun e => absurd e (by decide), ?_⟩
              refine p_done (by kernel_rfl) ?_
              intro hA4
              refine k_seg' 7 [] (by kernel_rfl) (by kernel_rfl) hA4 (by kernel_rfl) ?_
              refine p_done (by kernel_rfl) ?_
              intro hA5
              refine k_any' 6 [4, 8] (by kernel_rfl) hA5 (by kernel_rfl) (by kernel_rfl) ?_
              refine (all_cons ?_ (all_cons ?_ all_nil))
              · skip
                obtain ⟨r10, hd5, hr9⟩ := bind_some hr8
                refine p_call (i := 4) (d := some 32) (f := 42) (args := #[.agg #[vI r8.1, vI r8.2], .agg #[vI r9.1, vI r9.2]]) hf28 (by kernel_rfl) (f42_ok fuel r8.1 r8.2 r9.1 r9.2 r10 hd5 z3 _ _ hS16 ) ?_
                rintro v5 ww14 a29 ⟨z5, k5, rfl, hS17⟩ hf29
                refine ⟨fun e => absurd e (by decide), ?_⟩
                refine p_done (by kernel_rfl) ?_
                intro hA6
                refine k_seg' 0 [(5, true), (6, true), (7, true), (8, false), (9, false), (10, true)] (by kernel_rfl) (by kernel_rfl) hA6 (by kernel_rfl) ?_
                refine p_firstP 3 [] [3, 4, 5, 6, 33, 34] (fl' := [(3, pB b4 0), (4, pB b5 0), (5, pB b6 0), (6, pB b7 0), (33, .agg #[vI r10.1, vI r10.2.1]), (34, vI r10.2.2)]) (obs := []) hf29 (by kernel_rfl) (by kernel_rfl) (fun _ => .nil) fun a30 hf30 => ?_
                refine p_box (i := 8) (d := (some 10)) (cs := [vI 0, vI 0]) (T := 41) (v := fun b9 => pB b9 0) hS17 hf30 (fun b => by kernel_rfl) fun b9 ww15 a31 hS18 hf31 => ⟨fun _ => Sub.of k5 (St.drop 1 hS18), ?_⟩
                have s2 : Sub z3 (box b7 [.slice none 0 0] 24 :: box b6 [.func (.func 111) #[] #[]] 118 :: box b5 [.slice o_x1 x1.length c_x1] 24 :: box b4 [.slice o_x0 x0.length c_x0] 24 :: box b3 [.slice none 0 0] 24 :: box b2 [.slice o_x1 x1.length c_x1] 24 :: box b1 [.slice o_x0 x0.length c_x0] 24 :: L) _ := Sub.of k5 (St.drop 1 hS18)
                refine p_store_eq (i := 9) (j := 0) (b := b9) (off := 0) (vs := [vI r10.1, vI r10.2.1]) (cs' := [vI r10.1, vI r10.2.1]) hS18 hf31 rfl (by kernel_rfl) (by kernel_rfl) rfl fun ww16 a32 hS19 hf32 => ⟨fun e => absurd e (by decide), ?_⟩
                refine p_firstP 1 [] [3, 4, 5, 6, 10, 11] (fl' := [(3, pB b4 0), (4, pB b5 0), (5, pB b6 0), (6, pB b7 0), (10, pB b9 0), (11, vI r10.2.2)]) (obs := []) hf32 (by kernel_rfl) (by kernel_rfl) (fun _ => .nil) fun a33 hf33 => ?_
                refine p_done (by kernel_rfl) ?_
                intro hA7
                refine k_done' (by kernel_rfl) (by kernel_rfl) ?_
                refine n_then ?_
                have hf34 := Fr.keep (ks := [3, 4, 5, 6, 10, 11]) (r := [(3, pB b4 0), (4, pB b5 0), (5, pB b6 0), (6, pB b7 0), (10, pB b9 0), (11, vI r10.2.2)]) hf33 (by kernel_rfl)
                exact ⟨z5, r10.2.2, r10.1, r10.2.1, b9, k5, hf34, (St.pick 1 [0] hS19 (by kernel_rfl)), hr9⟩
              · skip
                refine p_box (i := 8) (d := (some 10)) (cs := [vI 0, vI 0]) (T := 41) (v := fun b10 => pB b10 0) hS16 hf28 (fun b => by kernel_rfl) fun b10 ww17 a34 hS20 hf35 => ⟨fun _ => Sub.of (Zone.le_refl _) (St.drop 1 hS20), ?_⟩
                refine p_done (by kernel_rfl) ?_
                intro hA8
                refine k_seg' 0 [(4, false), (5, true), (6, true), (7, true), (9, false), (10, true)] (by kernel_rfl) (by kernel_rfl) hA8 (by kernel_rfl) ?_
                obtain ⟨r11, hd6, hr10⟩ := bind_some hr8
                refine p_call (i := 4) (d := some 32) (f := 42) (args := #[.agg #[vI r8.1, vI r8.2], .agg #[vI r9.1, vI r9.2]]) hf35 (by kernel_rfl) (f42_ok fuel r8.1 r8.2 r9.1 r9.2 r11 hd6 z3 _ _ hS20 ) ?_
                rintro v6 ww18 a35 ⟨z6, k6, rfl, hS21⟩ hf36
                refine ⟨fun e => absurd e (by decide), ?_⟩
                refine p_firstP 3 [] [3, 4, 5, 6, 10, 33, 34] (fl' := [(3, pB b4 0), (4, pB b5 0), (5, pB b6 0), (6, pB b7 0), (10, pB b10 0), (33, .agg #[vI r11.1, vI r11.2.1]), (34, vI r11.2.2)]) (obs := []) hf36 (by kernel_rfl) (by kernel_rfl) (fun _ => .nil) fun a36 hf37 => ?_
                refine p_store_eq (i := 9) (j := 0) (b := b10) (off := 0) (vs := [vI r11.1, vI r11.2.1]) (cs' := [vI r11.1, vI r11.2.1]) hS21 hf37 rfl (by kernel_rfl) (by kernel_rfl) rfl fun ww19 a37 hS22 hf38 => ⟨fun e => absurd e (by decide), ?_⟩
                refine p_firstP 1 [] [3, 4, 5, 6, 10, 11] (fl' := [(3, pB b4 0), (4, pB b5 0), (5, pB b6 0), (6, pB b7 0), (10, pB b10 0), (11, vI r11.2.2)]) (obs := []) hf38 (by kernel_rfl) (by kernel_rfl) (fun _ => .nil) fun a38 hf39 => ?_
                refine p_done (by kernel_rfl) ?_
                intro hA9
                refine k_done' (by kernel_rfl) (by kernel_rfl) ?_
                refine n_then ?_
                have hf40 := Fr.keep (ks := [3, 4, 5, 6, 10, 11]) (r := [(3, pB b4 0), (4, pB b5 0), (5, pB b6 0), (6, pB b7 0), (10, pB b10 0), (11, vI r11.2.2)]) hf39 (by kernel_rfl)
                exact ⟨z6, r11.2.2, r11.1, r11.2.1, b10, k6, hf40, (St.pick 1 [0] hS22 (by kernel_rfl)), hr10⟩
            · skip
              refine p_box (i := 8) (d := (some 10)) (cs := [vI 0, vI 0]) (T := 41) (v := fun b11 => pB b11 0) hS15 hf27 (fun b => by kernel_rfl) fun b11 ww20 a39 hS23 hf41 => ⟨fun _ => Sub.of (Zone.le_refl _) (St.drop 1 hS23), ?_⟩
              refine p_done (by kernel_rfl) ?_
              intro hA10
              refine k_seg' 0 [(3, false), (4, false), (5, true), (6, true), (7, true), (9, false), (10, true)] (by kernel_rfl) (by kernel_rfl) hA10 (by kernel_rfl) ?_
              obtain ⟨r12, hd7, hr11⟩ := bind_some hr7
              refine p_call (i := 3) (d := some 31) (f := 117) (args := #[.agg #[.slice o_x1 x1.length c_x1]]) hf41 (by kernel_rfl) (f117_ok fuel x1 r12 hd7 z3 _ _ hS23 o_x1 c_x1 (SliceR.mono (Zone.le_trans k3 k4) hx_x1)) ?_
              rintro v7 ww21 a40 ⟨rfl, hS24⟩ hf42
              refine ⟨fun e => absurd e (by decide), ?_⟩
              obtain ⟨r13, hd8, hr12⟩ := bind_some hr11
              refine p_call (i := 4) (d := some 32) (f := 42) (args := #[.agg #[vI r8.1, vI r8.2], .agg #[vI r12.1, vI r12.2]]) hf42 (by kernel_rfl) (f42_ok fuel r8.1 r8.2 r12.1 r12.2 r13 hd8 z3 _ _ hS24 ) ?_
              rintro v8 ww22 a41 ⟨z7, k7, rfl, hS25⟩ hf43
              refine ⟨fun e => absurd e (by decide), ?_⟩
              refine p_firstP 3 [] [3, 4, 5, 6, 10, 33, 34] (fl' := [(3, pB b4 0), (4, pB b5 0), (5, pB b6 0), (6, pB b7 0), (10, pB b11 0), (33, .agg #[vI r13.1, vI r13.2.1]), (34, vI r13.2.2)]) (obs := []) hf43 (by kernel_rfl) (by kernel_rfl) (fun _ => .nil) fun a42 hf44 => ?_
              refine p_store_eq (i := 9) (j := 0) (b := b11) (off := 0) (vs := [vI r13.1, vI r13.2.1]) (cs' := [vI r13.1, vI r13.2.1]) hS25 hf44 rfl (by kernel_rfl) (by kernel_rfl) rfl fun ww23 a43 hS26 hf45 => ⟨fun e => absurd e (by decide), ?_⟩
              refine p_firstP 1 [] [3, 4, 5, 6, 10, 11] (fl' := [(3, pB b4 0), (4, pB b5 0), (5, pB b6 0), (6, pB b7 0), (10, pB b11 0), (11, vI r13.2.2)]) (obs := []) hf45 (by kernel_rfl) (by kernel_rfl) (fun _ => .nil) fun a44 hf46 => ?_
              refine p_done (by kernel_rfl) ?_
              intro hA11
              refine k_done' (by kernel_rfl) (by kernel_rfl) ?_
              refine n_then ?_
              have hf47 := Fr.keep (ks := [3, 4, 5, 6, 10, 11]) (r := [(3, pB b4 0), (4, pB b5 0), (5, pB b6 0), (6, pB b7 0), (10, pB b11 0), (11, vI r13.2.2)]) hf46 (by kernel_rfl)
              exact ⟨z7, r13.2.2, r13.1, r13.2.1, b11, k7, hf47, (St.pick 1 [0] hS26 (by kernel_rfl)), hr12⟩
          · skip
            refine p_box (i := 8) (d := (some 10)) (cs := [vI 0, vI 0]) (T := 41) (v := fun b12 => pB b12 0) hS14 hf26 (fun b => by kernel_rfl) fun b12 ww24 a45 hS27 hf48 => ⟨fun _ => Sub.of (Zone.le_refl _) (St.drop 1 hS27), ?_⟩
            refine p_done (by kernel_rfl) ?_
            intro hA12
            refine k_seg' 0 [(1, false), (3, false), (4, false), (5, true), (6, true), (7, true), (9, false), (10, true)] (by kernel_rfl) (by kernel_rfl) hA12 (by kernel_rfl) ?_
            obtain ⟨r14, hd9, hr13⟩ := bind_some hr6
            refine p_call (i := 1) (d := some 29) (f := 117) (args := #[.agg #[.slice o_x0 x0.length c_x0]]) hf48 (by kernel_rfl) (f117_ok fuel x0 r14 hd9 z3 _ _ hS27 o_x0 c_x0 (SliceR.mono (Zone.le_trans k3 k4) hx_x0)) ?_
            rintro v9 ww25 a46 ⟨rfl, hS28⟩ hf49
            refine ⟨fun _ => Sub.of (Zone.le_refl _) (St.drop 1 hS28), ?_⟩
            have s3 : Sub z3 (box b7 [.slice none 0 0] 24 :: box b6 [.func (.func 111) #[] #[]] 118 :: box b5 [.slice o_x1 x1.length c_x1] 24 :: box b4 [.slice o_x0 x0.length c_x0] 24 :: box b3 [.slice none 0 0] 24 :: box b2 [.slice o_x1 x1.length c_x1] 24 :: box b1 [.slice o_x0 x0.length c_x0] 24 :: L) _ := Sub.of (Zone.le_refl _) (St.drop 1 hS28)
            obtain ⟨r15, hd10, hr14⟩ := bind_some hr13
            refine p_call (i := 3) (d := some 31) (f := 117) (args := #[.agg #[.slice o_x1 x1.length c_x1]]) hf49 (by kernel_rfl) (f117_ok fuel x1 r15 hd10 z3 _ _ hS28 o_x1 c_x1 (SliceR.mono (Zone.le_trans k3 k4) hx_x1)) ?_
            rintro v10 ww26 a47 ⟨rfl, hS29⟩ hf50
            refine ⟨fun e => absurd e (by decide), ?_⟩
            obtain ⟨r16, hd11, hr15⟩ := bind_some hr14
            refine p_call (i := 4) (d := some 32) (f := 42) (args := #[.agg #[vI r14.1, vI r14.2], .agg #[vI r15.1, vI r15.2]]) hf50 (by kernel_rfl) (f42_ok fuel r14.1 r14.2 r15.1 r15.2 r16 hd11 z3 _ _ hS29 ) ?_
            rintro v11 ww27 a48 ⟨z8, k8, rfl, hS30⟩ hf51
            refine ⟨fun e => absurd e (by decide), ?_⟩
            refine p_firstP 3 [] [3, 4, 5, 6, 10, 33, 34] (fl' := [(3, pB b4 0), (4, pB b5 0), (5, pB b6 0), (6, pB b7 0), (10, pB b12 0), (33, .agg #[vI r16.1, vI r16.2.1]), (34, vI r16.2.2)]) (obs := []) hf51 (by kernel_rfl) (by kernel_rfl) (fun _ => .nil) fun a49 hf52 => ?_
            refine p_store_eq (i := 9) (j := 0) (b := b12) (off := 0) (vs := [vI r16.1, vI r16.2.1]) (cs' := [vI r16.1, vI r16.2.1]) hS30 hf52 rfl (by kernel_rfl) (by kernel_rfl) rfl fun ww28 a50 hS31 hf53 => ⟨fun e => absurd e (by decide), ?_⟩
            refine p_firstP 1 [] [3, 4, 5, 6, 10, 11] (fl' := [(3, pB b4 0), (4, pB b5 0), (5, pB b6 0), (6, pB b7 0), (10, pB b12 0), (11, vI r16.2.2)]) (obs := []) hf53 (by kernel_rfl) (by kernel_rfl) (fun _ => .nil) fun a51 hf54 => ?_
            refine p_done (by kernel_rfl) ?_
            intro hA13
            refine k_done' (by kernel_rfl) (by kernel_rfl) ?_
            refine n_then ?_
            have hf55 := Fr.keep (ks := [3, 4, 5, 6, 10, 11]) (r := [(3, pB b4 0), (4, pB b5 0), (5, pB b6 0), (6, pB b7 0), (10, pB b12 0), (11, vI r16.2.2)]) hf54 (by kernel_rfl)
            exact ⟨z8, r16.2.2, r16.1, r16.2.1, b12, k8, hf55, (St.pick 1 [0] hS31 (by kernel_rfl)), hr15⟩
        · rintro a52 ww29 ⟨z4, y13, y11, y12, b8, k9, hf56, hS32, hr16⟩
          refine w_seq (by kernel_rfl) ?_
          refine w_seq (by kernel_rfl) ?_
          refine w_reg (by kernel_rfl) ?_
          refine p_run 2 [] [3, 4, 5, 6, 10, 36] (fl' := [(3, pB b4 0), (4, pB b5 0), (5, pB b6 0), (6, pB b7 0), (10, pB b8 0), (36, .bool (y13 != (0 : Int)))]) (obs := []) trivial hf56 (by kernel_rfl) (by kernel_rfl) .nil fun a53 hf57 => ?_
          refine p_done (by kernel_rfl) ?_
          refine n_then ?_
          refine w_if hf57 (b := (y13 != (0 : Int))) (by kernel_rfl) (fun hb3 => ?_) (fun hb3 => ?_)
          · have hr17 := cond_t hb3 hr16
            refine w_seq (by kernel_rfl) ?_
            refine w_reg (by kernel_rfl) ?_
            refine p_run 1 [] [6, 37] (fl' := [(6, pB b7 0), (37, .agg #[.slice none 0 0])]) (obs := []) trivial hf57 (by kernel_rfl) (by kernel_rfl) .nil fun a54 hf58 => ?_
            refine p_store_eq (i := 1) (j := 1) (b := b7) (off := 0) (vs := [.slice none 0 0]) (cs' := [.slice none 0 0]) hS32 hf58 rfl (by kernel_rfl) (by kernel_rfl) rfl fun ww30 a55 hS33 hf59 => ⟨fun _ => trivial, ?_⟩
            refine p_run 1 [] [6, 7] (fl' := [(6, pB b7 0), (7, vI 4)]) (obs := []) trivial hf59 (by kernel_rfl) (by kernel_rfl) .nil fun a56 hf60 => ?_
            refine p_done (by kernel_rfl) ?_
            refine n_then ?_
            refine w_ret (by kernel_rfl) ?_
            refine r_then ?_
            refine p_ret (os := [.slice none 0 0]) (v := .tuple #[.agg #[.slice none 0 0], vI 4]) (obs := [.cell ⟨b7, 0, none⟩ (.slice none 0 0)]) hf60 (by kernel_rfl) (.cell (hS33.box (i := 1) rfl (j := 0) rfl) .nil) ?_
            have hS34 := St.ownNil hS33 PtT 52
            exact ⟨_, rfl, z4, [], 4, none, 0, (Zone.le_trans (Zone.le_trans k3 k4) k9), rfl, (St.pick 6 [0] hS34 (by kernel_rfl)), hr17⟩
          · have hr18 := cond_f hb3 hr16
            refine w_skip (by kernel_rfl) ?_
            refine n_then ?_
            refine w_seq (by kernel_rfl) ?_
            refine w_reg (by kernel_rfl) ?_
            refine p_run 1 [] [3, 4, 5, 6, 10, 12] (fl' := [(3, pB b4 0), (4, pB b5 0), (5, pB b6 0), (6, pB b7 0), (10, pB b8 0), (12, .slice none 0 0)]) (obs := []) trivial hf57 (by kernel_rfl) (by kernel_rfl) .nil fun a57 hf61 => ?_
            refine p_done (by kernel_rfl) ?_
            refine n_then ?_
            refine w_seq (by kernel_rfl) ?_
            refine w_seq (by kernel_rfl) ?_
            refine w_reg (by kernel_rfl) ?_
            refine p_run 4 [.slice o_x0 x0.length c_x0, .slice o_x1 x1.length c_x1] [3, 4, 5, 6, 10, 12, 39, 41] (fl' := [(3, pB b4 0), (4, pB b5 0), (5, pB b6 0), (6, pB b7 0), (10, pB b8 0), (12, .slice none 0 0), (39, .slice o_x0 x0.length c_x0), (41, .slice o_x1 x1.length c_x1)]) (obs := [.cell ⟨b4, 0, none⟩ (.slice o_x0 x0.length c_x0), .cell ⟨b5, 0, none⟩ (.slice o_x1 x1.length c_x1)]) trivial hf61 (by kernel_rfl) (by kernel_rfl) (.cell (hS32.box (i := 4) rfl (j := 0) rfl) (.cell (hS32.box (i := 3) rfl (j := 0) rfl) .nil)) fun a58 hf62 => ?_
            refine p_box (i := 4) (d := (some 42)) (cs := [.slice o_x0 x0.length c_x0, .slice o_x1 x1.length c_x1]) (T := 22) (v := fun b13 => .slice (some ⟨b13, 0, none⟩) 2 2) hS32 hf62 (fun b => by kernel_rfl) fun b13 ww31 a59 hS35 hf63 => ⟨fun _ => trivial, ?_⟩
            have hS36 := hS35.ownBox (T := (Ty.slice PtT)) (E := 22) (n := 2) (xs := [x0, x1]) (i := 0) rfl (Rows.cons (c := [.slice o_x0 x0.length c_x0]) (sliceRep ((SliceR.mono (Zone.le_trans (Zone.le_trans k3 k4) k9) hx_x0))) (Rows.cons (c := [.slice o_x1 x1.length c_x1]) (sliceRep ((SliceR.mono (Zone.le_trans (Zone.le_trans k3 k4) k9) hx_x1))) rfl)) rfl (by decide)
            obtain ⟨z9, k10, hS37, hx1⟩ := hS36.share (j := 0) rfl
            obtain ⟨r4, hd12, hr19⟩ := bind_some hr18
            refine p_call (i := 5) (d := some 43) (f := 125) (args := #[.slice (some ⟨b13, 0, none⟩) 2 2]) hf63 (by kernel_rfl) (f125_ok fuel ([x0, x1]) r4 hd12 z9 _ _ hS37 (some ⟨b13, 0, none⟩) 2 hx1) ?_
            rintro v12 ww32 a60 ⟨z10, e2, q2, k11, rfl, hS38, hx2⟩ hf64
            refine ⟨fun _ => trivial, ?_⟩
            refine p_run 2 [] [3, 4, 5, 6, 10, 12, 43, 44, 45] (fl' := [(3, pB b4 0), (4, pB b5 0), (5, pB b6 0), (6, pB b7 0), (10, pB b8 0), (12, .slice none 0 0), (43, .slice e2 r4.length q2), (44, vI (r4.length : Int)), (45, vI 0)]) (obs := []) trivial hf64 (by kernel_rfl) (by kernel_rfl) .nil fun a61 hf65 => ?_
            refine p_done (by kernel_rfl) ?_
            refine n_then ?_
            refine w_block (id := 0) (by kernel_rfl) ?_
            have hS39 := hS38.ownNil Ty.int 3
            have hf66 := Fr.keep (ks := [3, 4, 5, 6, 10, 12, 43, 44, 45]) (r := [(3, pB b4 0), (4, pB b5 0), (5, pB b6 0), (6, pB b7 0), (10, pB b8 0), (12, .slice none 0 0), (43, .slice e2 r4.length q2), (44, vI (r4.length : Int)), (45, vI 0)]) hf65 (by kernel_rfl)
            refine w_loop (by kernel_rfl) (fun n a w => ∃ z11 : Zone, ∃ y10 : List Int, ∃ y3 : Int, ∃ e3 : Option Addr, ∃ q3 : Nat, Zone.le z10 z11 ∧ Fr a 72 [(3, pB b4 0), (4, pB b5 0), (5, pB b6 0), (6, pB b7 0), (10, pB b8 0), (12, .slice e3 y10.length q3), (43, .slice e2 r4.length q2), (44, vI (r4.length : Int)), (45, vI y3)] ∧ St z11 (ownS Ty.int 3 e3 q3 y10 :: emp :: box b8 [vI y11, vI y12] 41 :: box b7 [.slice none 0 0] 24 :: box b6 [.func (.func 111) #[] #[]] 118 :: box b5 [.slice o_x1 x1.length c_x1] 24 :: box b4 [.slice o_x0 x0.length c_x0] 24 :: box b3 [.slice none 0 0] 24 :: box b2 [.slice o_x1 x1.length c_x1] 24 :: box b1 [.slice o_x0 x0.length c_x0] 24 :: L) w ∧ (F57_l1 fuel x0 x1 y11 y12 r4 n y10 y3) = some r) fuel ⟨z10, [], 0, none, 0, (Zone.le_refl _), hf66, hS39, hr19⟩ ?_
            rintro n3 a62 ww33 ⟨z11, y10, y3, e3, q3, k12, hf67, hS40, hr20⟩
            cases n3 with
            | zero => cases hr20
            | succ n2 =>
            refine w_seq (by kernel_rfl) ?_
            refine w_reg (by kernel_rfl) ?_
            refine p_run 1 [] [3, 4, 5, 6, 10, 12, 43, 44, 45, 46] (fl' := [(3, pB b4 0), (4, pB b5 0), (5, pB b6 0), (6, pB b7 0), (10, pB b8 0), (12, .slice e3 y10.length q3), (43, .slice e2 r4.length q2), (44, vI (r4.length : Int)), (45, vI y3), (46, .bool (decide (y3 < (r4.length : Int))))]) (obs := []) trivial hf67 (by kernel_rfl) (by kernel_rfl) .nil fun a63 hf68 => ?_
            refine p_done (by kernel_rfl) ?_
            refine n_then ?_
            refine w_seq (by kernel_rfl) ?_
            refine w_if hf68 (b := (decide (y3 < (r4.length : Int)))) (by kernel_rfl) (fun hb4 => ?_) (fun hb4 => ?_)
            · have hr21 := cond_t hb4 hr20
              refine w_skip (by kernel_rfl) ?_
              refine n_then ?_
              refine w_mid (by kernel_rfl) (fun a w => ∃ z12 : Zone, ∃ y4 : List Int, ∃ e4 : Option Addr, ∃ q4 : Nat, Zone.le z11 z12 ∧ Fr a 72 [(3, pB b4 0), (4, pB b5 0), (5, pB b6 0), (6, pB b7 0), (10, pB b8 0), (12, .slice e4 y4.length q4), (43, .slice e2 r4.length q2), (44, vI (r4.length : Int)), (45, vI y3)] ∧ St z12 (ownS Ty.int 3 e4 q4 y4 :: emp :: box b8 [vI y11, vI y12] 41 :: box b7 [.slice none 0 0] 24 :: box b6 [.func (.func 111) #[] #[]] 118 :: box b5 [.slice o_x1 x1.length c_x1] 24 :: box b4 [.slice o_x0 x0.length c_x0] 24 :: box b3 [.slice none 0 0] 24 :: box b2 [.slice o_x1 x1.length c_x1] 24 :: box b1 [.slice o_x0 x0.length c_x0] 24 :: L) w ∧ (F57_j3 (F57_l1 fuel x0 x1 y11 y12 r4 n2) y3 y4) = some r) ?_ ?_
              · skip
                refine w_block (id := 1) (by kernel_rfl) ?_
                refine w_seq (by kernel_rfl) ?_
                refine w_reg (by kernel_rfl) ?_
                obtain ⟨p2, hp17634, hr22⟩ := bind_some hr21
                obtain ⟨ad1, ho1, hb5, cc1, hc1, hk1⟩ := SliceR.getI (SliceR.mono k12 hx2) hp17634
                subst hc1
                refine p_run 2 [.pointer (some ad1), vI p2.x, vI p2.lo, vI p2.hi] [3, 4, 5, 6, 10, 12, 43, 44, 45, 48] (fl' := [(3, pB b4 0), (4, pB b5 0), (5, pB b6 0), (6, pB b7 0), (10, pB b8 0), (12, .slice e3 y10.length q3), (43, .slice e2 r4.length q2), (44, vI (r4.length : Int)), (45, vI y3), (48, .agg #[vI p2.x, vI p2.lo, vI p2.hi])]) (obs := [.prop (e2 = some ad1), .prop (0 ≤ y3 ∧ y3 < (r4.length : Nat)), .cell ((ad1.add (Int.toNat y3 * 3)).add 0) (vI p2.x), .cell ((ad1.add (Int.toNat y3 * 3)).add 1) (vI p2.lo), .cell ((ad1.add (Int.toNat y3 * 3)).add 2) (vI p2.hi)]) trivial hf68 (by kernel_rfl) (by kernel_rfl) (.prop ho1 (.prop hb5 (.cell (hS40.cell (hk1 0 _ rfl)) (.cell (hS40.cell (hk1 1 _ rfl)) (.cell (hS40.cell (hk1 2 _ rfl)) .nil))))) fun a64 hf69 => ?_
                refine p_box (i := 2) (d := (some 14)) (cs := [vI 0, vI 0, vI 0]) (T := 52) (v := fun b14 => pB b14 0) hS40 hf69 (fun b => by kernel_rfl) fun b14 ww34 a65 hS41 hf70 => ⟨fun _ => trivial, ?_⟩
                refine p_store_eq (i := 3) (j := 0) (b := b14) (off := 0) (vs := [vI p2.x, vI p2.lo, vI p2.hi]) (cs' := [vI p2.x, vI p2.lo, vI p2.hi]) hS41 hf70 rfl (by kernel_rfl) (by kernel_rfl) rfl fun ww35 a66 hS42 hf71 => ⟨fun _ => trivial, ?_⟩
                refine p_done (by kernel_rfl) ?_
                refine n_then ?_
                refine w_seq (by kernel_rfl) ?_
                refine w_reg (by kernel_rfl) ?_
                refine p_run 3 [vI y11, vI y12, vI p2.x] [3, 4, 5, 6, 10, 12, 14, 43, 44, 45, 49, 51] (fl' := [(3, pB b4 0), (4, pB b5 0), (5, pB b6 0), (6, pB b7 0), (10, pB b8 0), (12, .slice e3 y10.length q3), (14, pB b14 0), (43, .slice e2 r4.length q2), (44, vI (r4.length : Int)), (45, vI y3), (49, .agg #[vI y11, vI y12]), (51, vI p2.x)]) (obs := [.cell ⟨b8, 0, none⟩ (vI y11), .cell ⟨b8, 1, none⟩ (vI y12), .cell ⟨b14, 0, none⟩ (vI p2.x)]) trivial hf71 (by kernel_rfl) (by kernel_rfl) (.cell (hS42.box (i := 3) rfl (j := 0) rfl) (.cell (hS42.box (i := 3) rfl (j := 1) rfl) (.cell (hS42.box (i := 0) rfl (j := 0) rfl) .nil))) fun a67 hf72 => ?_
                obtain ⟨r5, hd13, hr23⟩ := bind_some hr22
                refine p_call (i := 3) (d := some 52) (f := 43) (args := #[.agg #[vI y11, vI y12], vI p2.x]) hf72 (by kernel_rfl) (f43_ok fuel y11 y12 p2.x r5 hd13 z11 _ _ hS42 ) ?_
                rintro v13 ww36 a68 ⟨z13, k13, rfl, hS43⟩ hf73
                refine ⟨fun _ => trivial, ?_⟩
                refine p_done (by kernel_rfl) ?_
                refine n_then ?_
                refine w_if hf73 (b := r5) (by kernel_rfl) (fun hb6 => ?_) (fun hb6 => ?_)
                · have hr24 := cond_t hb6 hr23
                  refine w_reg (by kernel_rfl) ?_
                  refine p_run 3 [vI p2.x] [3, 4, 5, 6, 10, 43, 44, 45, 53, 55] (fl' := [(3, pB b4 0), (4, pB b5 0), (5, pB b6 0), (6, pB b7 0), (10, pB b8 0), (43, .slice e2 r4.length q2), (44, vI (r4.length : Int)), (45, vI y3), (53, .slice e3 y10.length q3), (55, vI p2.x)]) (obs := [.cell ⟨b14, 0, none⟩ (vI p2.x)]) trivial hf73 (by kernel_rfl) (by kernel_rfl) (.cell (hS43.box (i := 0) rfl (j := 0) rfl) .nil) fun a69 hf74 => ?_
                  refine p_box (i := 3) (d := (some 56)) (cs := [vI p2.x]) (T := 3) (v := fun b15 => .slice (some ⟨b15, 0, none⟩) 1 1) hS43 hf74 (fun b => by kernel_rfl) fun b15 ww37 a70 hS44 hf75 => ⟨fun _ => trivial, ?_⟩
                  have hS45 := hS44.ownBox (T := Ty.int) (E := 3) (n := 1) (xs := [p2.x]) (i := 0) rfl (Rows.cons (c := [vI p2.x]) rfl rfl) rfl (by decide)
                  obtain ⟨d2, hd14, hr25⟩ := bind_some hr24
                  refine p_append (T := Ty.int) (i := 4) (j := 2) (d := some 57) (o2 := (some ⟨b15, 0, none⟩)) (c2 := 1) (ys := ([p2.x])) el25 hS45 hf75 rfl (by kernel_rfl) (hS45.ownSrc (j := 0) rfl) hd14 fun e5 q5 ww38 a71 hS46 hf76 => ⟨fun _ => trivial, ?_⟩
                  refine p_run 1 [] [3, 4, 5, 6, 10, 12, 43, 44, 45] (fl' := [(3, pB b4 0), (4, pB b5 0), (5, pB b6 0), (6, pB b7 0), (10, pB b8 0), (12, .slice e5 d2.length q5), (43, .slice e2 r4.length q2), (44, vI (r4.length : Int)), (45, vI y3)]) (obs := []) trivial hf76 (by kernel_rfl) (by kernel_rfl) .nil fun a72 hf77 => ?_
                  refine p_done (by kernel_rfl) ?_
                  refine n_block ?_
                  refine n_then ?_
                  have hf78 := Fr.keep (ks := [3, 4, 5, 6, 10, 12, 43, 44, 45]) (r := [(3, pB b4 0), (4, pB b5 0), (5, pB b6 0), (6, pB b7 0), (10, pB b8 0), (12, .slice e5 d2.length q5), (43, .slice e2 r4.length q2), (44, vI (r4.length : Int)), (45, vI y3)]) hf77 (by kernel_rfl)
                  exact ⟨z13, d2, e5, q5, k13, hf78, (St.drop 2 hS46), hr25⟩
                · have hr26 := cond_f hb6 hr23
                  refine w_skip (by kernel_rfl) ?_
                  refine n_block ?_
                  refine n_then ?_
                  have hf79 := Fr.keep (ks := [3, 4, 5, 6, 10, 12, 43, 44, 45]) (r := [(3, pB b4 0), (4, pB b5 0), (5, pB b6 0), (6, pB b7 0), (10, pB b8 0), (12, .slice e3 y10.length q3), (43, .slice e2 r4.length q2), (44, vI (r4.length : Int)), (45, vI y3)]) hf73 (by kernel_rfl)
                  exact ⟨z13, y10, e3, q3, k13, hf79, (St.drop 1 hS43), hr26⟩
              · rintro a73 ww39 ⟨z12, y4, e4, q4, k14, hf80, hS47, hr27⟩
                refine w_reg (by kernel_rfl) ?_
                refine p_run 2 [] [3, 4, 5, 6, 10, 12, 43, 44, 45] (fl' := [(3, pB b4 0), (4, pB b5 0), (5, pB b6 0), (6, pB b7 0), (10, pB b8 0), (12, .slice e4 y4.length q4), (43, .slice e2 r4.length q2), (44, vI (r4.length : Int)), (45, vI (w64 (y3 + (1 : Int))))]) (obs := []) trivial hf80 (by kernel_rfl) (by kernel_rfl) .nil fun a74 hf81 => ?_
                refine p_done (by kernel_rfl) ?_
                refine n_then ?_
                have hf82 := Fr.keep (ks := [3, 4, 5, 6, 10, 12, 43, 44, 45]) (r := [(3, pB b4 0), (4, pB b5 0), (5, pB b6 0), (6, pB b7 0), (10, pB b8 0), (12, .slice e4 y4.length q4), (43, .slice e2 r4.length q2), (44, vI (r4.length : Int)), (45, vI (w64 (y3 + (1 : Int))))]) hf81 (by kernel_rfl)
                exact ⟨n2, Nat.lt_succ_self n2, z12, y4, (w64 (y3 + (1 : Int))), e4, q4, (Zone.le_trans k12 k14), hf82, hS47, hr27⟩
            · have hr28 := cond_f hb4 hr20
              refine w_exit (id := 0) (by kernel_rfl) ?_
              refine x_then ?_
              refine x_then ?_
              refine x_block ?_
              refine n_then ?_
              refine w_seq (by kernel_rfl) ?_
              refine w_reg (by kernel_rfl) ?_
              refine p_run 1 [] [3, 4, 5, 6, 12, 59] (fl' := [(3, pB b4 0), (4, pB b5 0), (5, pB b6 0), (6, pB b7 0), (12, .slice e3 y10.length q3), (59, .slice e3 y10.length q3)]) (obs := []) trivial hf68 (by kernel_rfl) (by kernel_rfl) .nil fun a75 hf83 => ?_
              obtain ⟨u1, hd15, hr29⟩ := bind_some hr28
              refine p_call (i := 1) (d := some 60) (f := 126) (args := #[.slice e3 y10.length q3]) hf83 (by kernel_rfl) (sort126 hS40 (j := 0) rfl (lenC_spec hd15)) ?_
              rintro v14 ww40 a76 ⟨rfl, hS48⟩ hf84
              have hl1 := sortL_len y10
              have hf85 := Fr.conv (fl' := [(60, .tuple #[]), (3, pB b4 0), (4, pB b5 0), (5, pB b6 0), (6, pB b7 0), (12, .slice e3 ((sortL y10).length) q3), (59, .slice e3 ((sortL y10).length) q3)]) hf84 (by rw [hl1] <;> rfl)
              refine ⟨fun _ => trivial, ?_⟩
              refine p_done (by kernel_rfl) ?_
              refine n_then ?_
              refine w_seq (by kernel_rfl) ?_
              refine w_reg (by kernel_rfl) ?_
              refine p_run 1 [] [3, 4, 5, 6, 61] (fl' := [(3, pB b4 0), (4, pB b5 0), (5, pB b6 0), (6, pB b7 0), (61, .slice e3 ((sortL y10).length) q3)]) (obs := []) trivial hf85 (by kernel_rfl) (by kernel_rfl) .nil fun a77 hf86 => ?_
              obtain ⟨u2, hd16, hr30⟩ := bind_some hr29
              refine p_call (i := 1) (d := some 62) (f := 127) (args := #[.slice e3 ((sortL y10).length) q3]) hf86 (by kernel_rfl) (compact127 hS48 (j := 0) rfl (lenC_spec hd16)) ?_
              rintro v15 ww41 a78 ⟨rfl, hS49⟩ hf87
              refine ⟨fun _ => trivial, ?_⟩
              refine p_run 1 [] [3, 4, 5, 6, 12] (fl' := [(3, pB b4 0), (4, pB b5 0), (5, pB b6 0), (6, pB b7 0), (12, .slice e3 ((compL (sortL y10)).length) q3)]) (obs := []) trivial hf87 (by kernel_rfl) (by kernel_rfl) .nil fun a79 hf88 => ?_
              refine p_done (by kernel_rfl) ?_
              refine n_then ?_
              refine w_seq (by kernel_rfl) ?_
              refine w_seq (by kernel_rfl) ?_
              refine w_reg (by kernel_rfl) ?_
              refine p_run 3 [] [3, 4, 5, 6, 12, 65] (fl' := [(3, pB b4 0), (4, pB b5 0), (5, pB b6 0), (6, pB b7 0), (12, .slice e3 ((compL (sortL y10)).length) q3), (65, .bool (decide (((compL (sortL y10)).length : Int) > (40 : Int))))]) (obs := []) trivial hf88 (by kernel_rfl) (by kernel_rfl) .nil fun a80 hf89 => ?_
              refine p_done (by kernel_rfl) ?_
              refine n_then ?_
              refine w_if hf89 (b := (decide (((compL (sortL y10)).length : Int) > (40 : Int)))) (by kernel_rfl) (fun hb7 => ?_) (fun hb7 => ?_)
              · have hr31 := cond_t hb7 hr30
                refine w_seq (by kernel_rfl) ?_
                refine w_reg (by kernel_rfl) ?_
                refine p_run 1 [] [6, 66] (fl' := [(6, pB b7 0), (66, .agg #[.slice none 0 0])]) (obs := []) trivial hf89 (by kernel_rfl) (by kernel_rfl) .nil fun a81 hf90 => ?_
                refine p_store_eq (i := 1) (j := 3) (b := b7) (off := 0) (vs := [.slice none 0 0]) (cs' := [.slice none 0 0]) hS49 hf90 rfl (by kernel_rfl) (by kernel_rfl) rfl fun ww42 a82 hS50 hf91 => ⟨fun _ => trivial, ?_⟩
                refine p_run 1 [] [6, 7] (fl' := [(6, pB b7 0), (7, vI 2)]) (obs := []) trivial hf91 (by kernel_rfl) (by kernel_rfl) .nil fun a83 hf92 => ?_
                refine p_done (by kernel_rfl) ?_
                refine n_then ?_
                refine w_ret (by kernel_rfl) ?_
                refine r_then ?_
                refine p_ret (os := [.slice none 0 0]) (v := .tuple #[.agg #[.slice none 0 0], vI 2]) (obs := [.cell ⟨b7, 0, none⟩ (.slice none 0 0)]) hf92 (by kernel_rfl) (.cell (hS50.box (i := 3) rfl (j := 0) rfl) .nil) ?_
                have hS51 := St.ownNil hS50 PtT 52
                exact ⟨_, rfl, z11, [], 2, none, 0, (Zone.le_trans (Zone.le_trans (Zone.le_trans (Zone.le_trans (Zone.le_trans k3 k4) k9) k10) k11) k12), rfl, (St.pick 8 [0] hS51 (by kernel_rfl)), hr31⟩
              · have hr32 := cond_f hb7 hr30
                refine w_skip (by kernel_rfl) ?_
                refine n_then ?_
                refine w_seq (by kernel_rfl) ?_
                refine w_reg (by kernel_rfl) ?_
                refine p_run 2 [] [6, 67, 68] (fl' := [(6, pB b7 0), (67, .slice e3 ((compL (sortL y10)).length) q3), (68, .func (.func 128) #[] #[pB b6 0, pB b4 0, pB b5 0])]) (obs := []) trivial hf89 (by kernel_rfl) (by kernel_rfl) .nil fun a84 hf93 => ?_
                refine p_call (i := 2) (d := some 69) (f := 115) (args := #[.slice e3 ((compL (sortL y10)).length) q3, .func (.func 128) #[] #[pB b6 0, pB b4 0, pB b5 0]]) hf93 (by kernel_rfl) (Φ := fun v w => ∃ z14 : Zone, ∃ y5 : List Pt, ∃ y6 : Int, ∃ e6 : Option Addr, ∃ q6 : Nat, Zone.le z11 z14 ∧ v = .tuple #[.agg #[.slice e6 y5.length q6], vI y6] ∧ St z14 (ownS PtT 52 e6 q6 y5 :: ownS Ty.int 3 e3 q3 (compL (sortL y10)) :: emp :: box b8 [vI y11, vI y12] 41 :: box b7 [.slice none 0 0] 24 :: box b6 [.func (.func 111) #[] #[]] 118 :: box b5 [.slice o_x1 x1.length c_x1] 24 :: box b4 [.slice o_x0 x0.length c_x0] 24 :: box b3 [.slice none 0 0] 24 :: box b2 [.slice o_x1 x1.length c_x1] 24 :: box b1 [.slice o_x0 x0.length c_x0] 24 :: L) w ∧ (F57_j4 y5 y6) = some r) ?_ ?_
                · refine calls_intro (N := 41) Try.func115 (by kernel_rfl) fun a85 hf94 => ?_
                  refine w_seq (by kernel_rfl) ?_
                  refine w_reg (by kernel_rfl) ?_
                  refine p_box (i := 0) (d := (some 4)) (cs := [.slice none 0 0]) (T := 24) (v := fun b16 => pB b16 0) hS49 hf94 (fun b => by kernel_rfl) fun b16 ww43 a86 hS52 hf95 => ⟨fun _ => trivial, ?_⟩
                  refine p_run 1 [] [0, 1, 4] (fl' := [(0, .slice e3 ((compL (sortL y10)).length) q3), (1, .func (.func 128) #[] #[pB b6 0, pB b4 0, pB b5 0]), (4, pB b16 0)]) (obs := []) trivial hf95 (by kernel_rfl) (by kernel_rfl) .nil fun a87 hf96 => ?_
                  refine p_done (by kernel_rfl) ?_
                  refine n_then ?_
                  refine w_seq (by kernel_rfl) ?_
                  refine w_reg (by kernel_rfl) ?_
                  refine p_box (i := 0) (d := (some 6)) (cs := [.slice none 0 0]) (T := 24) (v := fun b17 => pB b17 0) hS52 hf96 (fun b => by kernel_rfl) fun b17 ww44 a88 hS53 hf97 => ⟨fun _ => trivial, ?_⟩
                  refine p_done (by kernel_rfl) ?_
                  refine n_then ?_
                  refine w_seq (by kernel_rfl) ?_
                  refine w_seq (by kernel_rfl) ?_
                  refine w_reg (by kernel_rfl) ?_
                  refine p_run 3 [] [1, 4, 6, 10, 11, 12] (fl' := [(1, .func (.func 128) #[] #[pB b6 0, pB b4 0, pB b5 0]), (4, pB b16 0), (6, pB b17 0), (10, .slice e3 ((compL (sortL y10)).length) q3), (11, vI ((compL (sortL y10)).length : Int)), (12, vI 0)]) (obs := []) trivial hf97 (by kernel_rfl) (by kernel_rfl) .nil fun a89 hf98 => ?_
                  refine p_done (by kernel_rfl) ?_
                  refine n_then ?_
                  refine w_block (id := 0) (by kernel_rfl) ?_
                  have hS54 := hS53.ownNil PtT 52
                  have hf99 := Fr.keep (ks := [1, 4, 6, 10, 11, 12]) (r := [(1, .func (.func 128) #[] #[pB b6 0, pB b4 0, pB b5 0]), (4, pB b16 0), (6, pB b17 0), (10, .slice e3 ((compL (sortL y10)).length) q3), (11, vI ((compL (sortL y10)).length : Int)), (12, vI 0)]) hf98 (by kernel_rfl)
                  refine w_loop (by kernel_rfl) (fun n a w => ∃ z15 : Zone, ∃ y7 : List Pt, ∃ y8 : Int, ∃ e7 : Option Addr, ∃ q7 : Nat, Zone.le z11 z15 ∧ Fr a 41 [(1, .func (.func 128) #[] #[pB b6 0, pB b4 0, pB b5 0]), (4, pB b16 0), (6, pB b17 0), (10, .slice e3 ((compL (sortL y10)).length) q3), (11, vI ((compL (sortL y10)).length : Int)), (12, vI y8)] ∧ St z15 (ownS PtT 52 e7 q7 y7 :: box b17 [.slice e7 y7.length q7] 24 :: box b16 [.slice none 0 0] 24 :: ownS Ty.int 3 e3 q3 (compL (sortL y10)) :: emp :: box b8 [vI y11, vI y12] 41 :: box b7 [.slice none 0 0] 24 :: box b6 [.func (.func 111) #[] #[]] 118 :: box b5 [.slice o_x1 x1.length c_x1] 24 :: box b4 [.slice o_x0 x0.length c_x0] 24 :: box b3 [.slice none 0 0] 24 :: box b2 [.slice o_x1 x1.length c_x1] 24 :: box b1 [.slice o_x0 x0.length c_x0] 24 :: L) w ∧ (F57_l2 fuel x0 x1 y10 n y7 y8) = some r) fuel ⟨z11, [], 0, none, 0, (Zone.le_refl _), hf99, hS54, hr32⟩ ?_
                  rintro n4 a90 ww45 ⟨z15, y7, y8, e7, q7, k15, hf100, hS55, hr33⟩
                  cases n4 with
                  | zero => cases hr33
                  | succ n1 =>
                  refine w_seq (by kernel_rfl) ?_
                  refine w_reg (by kernel_rfl) ?_
                  refine p_run 1 [] [1, 4, 6, 10, 11, 12, 13] (fl' := [(1, .func (.func 128) #[] #[pB b6 0, pB b4 0, pB b5 0]), (4, pB b16 0), (6, pB b17 0), (10, .slice e3 ((compL (sortL y10)).length) q3), (11, vI ((compL (sortL y10)).length : Int)), (12, vI y8), (13, .bool (decide (y8 < ((compL (sortL y10)).length : Int))))]) (obs := []) trivial hf100 (by kernel_rfl) (by kernel_rfl) .nil fun a91 hf101 => ?_
                  refine p_done (by kernel_rfl) ?_
                  refine n_then ?_
                  refine w_seq (by kernel_rfl) ?_
                  refine w_if hf101 (b := (decide (y8 < ((compL (sortL y10)).length : Int)))) (by kernel_rfl) (fun hb8 => ?_) (fun hb8 => ?_)
                  · have hr34 := cond_t hb8 hr33
                    refine w_skip (by kernel_rfl) ?_
                    refine n_then ?_
                    refine w_seq (by kernel_rfl) ?_
                    refine w_block (id := 1) (by kernel_rfl) ?_
                    refine w_seq (by kernel_rfl) ?_
                    refine w_reg (by kernel_rfl) ?_
                    obtain ⟨p1, hp29100, hr35⟩ := bind_some hr34
                    obtain ⟨ad2, ho2, hb9, cc2, hc2, hk2⟩ := hS55.ownGet (j := 3) rfl hp29100
                    subst hc2
                    refine p_run 3 [.pointer (some ad2), vI p1] [1, 4, 6, 8, 10, 11, 12] (fl' := [(1, .func (.func 128) #[] #[pB b6 0, pB b4 0, pB b5 0]), (4, pB b16 0), (6, pB b17 0), (8, vI p1), (10, .slice e3 ((compL (sortL y10)).length) q3), (11, vI ((compL (sortL y10)).length : Int)), (12, vI y8)]) (obs := [.prop (e3 = some ad2), .prop (0 ≤ y8 ∧ y8 < ((compL (sortL y10)).length : Nat)), .cell ((ad2.add (Int.toNat y8 * 1)).add 0) (vI p1)]) trivial hf101 (by kernel_rfl) (by kernel_rfl) (.prop ho2 (.prop hb9 (.cell (hk2 0 _ rfl) .nil))) fun a92 hf102 => ?_
                    refine p_done (by kernel_rfl) ?_
                    refine n_then ?_
                    refine w_seq (by kernel_rfl) ?_
                    refine w_reg (by kernel_rfl) ?_
                    refine p_run 2 [] [1, 4, 6, 8, 10, 11, 12, 16, 17] (fl' := [(1, .func (.func 128) #[] #[pB b6 0, pB b4 0, pB b5 0]), (4, pB b16 0), (6, pB b17 0), (8, vI p1), (10, .slice e3 ((compL (sortL y10)).length) q3), (11, vI ((compL (sortL y10)).length : Int)), (12, vI y8), (16, .func (.func 128) #[] #[pB b6 0, pB b4 0, pB b5 0]), (17, vI p1)]) (obs := []) trivial hf102 (by kernel_rfl) (by kernel_rfl) .nil fun a93 hf103 => ?_
                    refine p_inl (i := 2) (d := some 18) (f := 128) (args := #[vI p1, pB b6 0, pB b4 0, pB b5 0]) (N' := 14) hf103 (by kernel_rfl) Try.func128 (by kernel_rfl) fun a94 hf104 => ?_
                    refine w_seq (by kernel_rfl) ?_
                    refine w_reg (by kernel_rfl) ?_
                    refine p_box (i := 0) (d := (some 5)) (cs := [vI 0, vI 0]) (T := 41) (v := fun b18 => pB b18 0) hS55 hf104 (fun b => by kernel_rfl) fun b18 ww46 a95 hS56 hf105 => ⟨fun _ => trivial, ?_⟩
                    refine p_done (by kernel_rfl) ?_
                    refine n_then ?_
                    refine w_seq (by kernel_rfl) ?_
                    have hS57 := hS56.drew
                    have s4 : Sub z15 (box b18 [vI 0, vI 0] 41 :: ownS PtT 52 e7 q7 y7 :: box b17 [.slice e7 y7.length q7] 24 :: box b16 [.slice none 0 0] 24 :: ownS Ty.int 3 e3 q3 (compL (sortL y10)) :: emp :: box b8 [vI y11, vI y12] 41 :: box b7 [.slice none 0 0] 24 :: box b6 [.func (.func 111) #[] #[]] 118 :: box b5 [.slice o_x1 x1.length c_x1] 24 :: box b4 [.slice o_x0 x0.length c_x0] 24 :: box b3 [.slice none 0 0] 24 :: box b2 [.slice o_x1 x1.length c_x1] 24 :: box b1 [.slice o_x0 x0.length c_x0] 24 :: L) _ := Sub.of (Zone.le_refl _) hS57
                    refine w_regD (by kernel_rfl) [(0, true), (1, true), (2, true), (4, true), (5, true), (3, false), (6, false), (7, false), (8, false)] [7, 8] (Sub z15 (box b18 [vI 0, vI 0] 41 :: ownS PtT 52 e7 q7 y7 :: box b17 [.slice e7 y7.length q7] 24 :: box b16 [.slice none 0 0] 24 :: ownS Ty.int 3 e3 q3 (compL (sortL y10)) :: emp :: box b8 [vI y11, vI y12] 41 :: box b7 [.slice none 0 0] 24 :: box b6 [.func (.func 111) #[] #[]] 118 :: box b5 [.slice o_x1 x1.length c_x1] 24 :: box b4 [.slice o_x0 x0.length c_x0] 24 :: box b3 [.slice none 0 0] 24 :: box b2 [.slice o_x1 x1.length c_x1] 24 :: box b1 [.slice o_x0 x0.length c_x0] 24 :: L)) (by kernel_rfl) s4 ?_
                    refine p_first 2 [.func (.func 111) #[] #[], .slice o_x0 x0.length c_x0] [0, 3, 5, 6, 7] (fl' := [(0, vI p1), (3, pB b5 0), (5, pB b18 0), (6, .func (.func 111) #[] #[]), (7, .agg #[.slice o_x0 x0.length c_x0])]) (obs := [.cell ⟨b6, 0, none⟩ (.func (.func 111) #[] #[]), .cell ⟨b4, 0, none⟩ (.slice o_x0 x0.length c_x0)]) s4 (by kernel_rfl) hf105 (by kernel_rfl) (by kernel_rfl) (fun _ s => (.cell (s.box (i := 8) rfl (j := 0) rfl) (.cell (s.box (i := 10) rfl (j := 0) rfl) .nil))) fun a96 hf106 => ?_
                    refine p_firstP 1 [] [0, 3, 5, 6, 7, 8] (fl' := [(0, vI p1), (3, pB b5 0), (5, pB b18 0), (6, .func (.func 111) #[] #[]), (7, .agg #[.slice o_x0 x0.length c_x0]), (8, vI p1)]) (obs := []) hf106 (by kernel_rfl) (by kernel_rfl) (fun _ => .nil) fun a97 hf107 => ?_
                    refine p_first 1 [.slice o_x1 x1.length c_x1] [0, 5, 6, 7, 8, 10] (fl' := [(0, vI p1), (5, pB b18 0), (6, .func (.func 111) #[] #[]), (7, .agg #[.slice o_x0 x0.length c_x0]), (8, vI p1), (10, .agg #[.slice o_x1 x1.length c_x1])]) (obs := [.cell ⟨b5, 0, none⟩ (.slice o_x1 x1.length c_x1)]) s4 (by kernel_rfl) hf107 (by kernel_rfl) (by kernel_rfl) (fun _ s => (.cell (s.box (i := 9) rfl (j := 0) rfl) .nil)) fun a98 hf108 => ?_
                    refine p_firstP 1 [] [5, 6, 7, 8, 10, 11] (fl' := [(5, pB b18 0), (6, .func (.func 111) #[] #[]), (7, .agg #[.slice o_x0 x0.length c_x0]), (8, vI p1), (10, .agg #[.slice o_x1 x1.length c_x1]), (11, vI p1)]) (obs := []) hf108 (by kernel_rfl) (by kernel_rfl) (fun _ => .nil) fun a99 hf109 => ?_
                    obtain ⟨r2, hd17, hr36⟩ := bind_some hr35
                    refine p_call (i := 3) (d := some 9) (f := 88) (args := #[.agg #[.slice o_x0 x0.length c_x0], vI p1]) hf109 (by kernel_rfl) (f88_ok fuel x0 p1 r2 hd17 z15 _ _ hS57 o_x0 c_x0 (SliceR.mono (Zone.le_trans (Zone.le_trans (Zone.le_trans (Zone.le_trans (Zone.le_trans (Zone.le_trans k3 k4) k9) k10) k11) k12) k15) hx_x0)) ?_
                    rintro v16 ww47 a100 ⟨z16, k16, rfl, hS58⟩ hf110
                    refine ⟨fun _ => Sub.of k16 hS58, ?_⟩
                    have s5 : Sub z15 (box b18 [vI 0, vI 0] 41 :: ownS PtT 52 e7 q7 y7 :: box b17 [.slice e7 y7.length q7] 24 :: box b16 [.slice none 0 0] 24 :: ownS Ty.int 3 e3 q3 (compL (sortL y10)) :: emp :: box b8 [vI y11, vI y12] 41 :: box b7 [.slice none 0 0] 24 :: box b6 [.func (.func 111) #[] #[]] 118 :: box b5 [.slice o_x1 x1.length c_x1] 24 :: box b4 [.slice o_x0 x0.length c_x0] 24 :: box b3 [.slice none 0 0] 24 :: box b2 [.slice o_x1 x1.length c_x1] 24 :: box b1 [.slice o_x0 x0.length c_x0] 24 :: L) _ := Sub.of k16 hS58
                    obtain ⟨r3, hd18, hr37⟩ := bind_some hr36
                    refine p_call (i := 6) (d := some 12) (f := 88) (args := #[.agg #[.slice o_x1 x1.length c_x1], vI p1]) hf110 (by kernel_rfl) (f88_ok fuel x1 p1 r3 hd18 z16 _ _ hS58 o_x1 c_x1 (SliceR.mono (Zone.le_trans (Zone.le_trans (Zone.le_trans (Zone.le_trans (Zone.le_trans (Zone.le_trans (Zone.le_trans k3 k4) k9) k10) k11) k12) k15) k16) hx_x1)) ?_
                    rintro v17 ww48 a101 ⟨z17, k17, rfl, hS59⟩ hf111
                    refine ⟨fun _ => Sub.of (Zone.le_trans k16 k17) hS59, ?_⟩
                    have s6 : Sub z15 (box b18 [vI 0, vI 0] 41 :: ownS PtT 52 e7 q7 y7 :: box b17 [.slice e7 y7.length q7] 24 :: box b16 [.slice none 0 0] 24 :: ownS Ty.int 3 e3 q3 (compL (sortL y10)) :: emp :: box b8 [vI y11, vI y12] 41 :: box b7 [.slice none 0 0] 24 :: box b6 [.func (.func 111) #[] #[]] 118 :: box b5 [.slice o_x1 x1.length c_x1] 24 :: box b4 [.slice o_x0 x0.length c_x0] 24 :: box b3 [.slice none 0 0] 24 :: box b2 [.slice o_x1 x1.length c_x1] 24 :: box b1 [.slice o_x0 x0.length c_x0] 24 :: L) _ := Sub.of (Zone.le_trans k16 k17) hS59
                    obtain ⟨r1, hd19, hr38⟩ := bind_some hr37
                    refine p_call (i := 7) (d := some 13) (f := 111) (args := #[.agg #[vI r2.1, vI r2.2], .agg #[vI r3.1, vI r3.2]]) hf111 (by kernel_rfl) (f111_ok fuel r2.1 r2.2 r3.1 r3.2 r1 hd19 z17 _ _ hS59 ) ?_
                    rintro v18 ww49 a102 ⟨rfl, hS60⟩ hf112
                    refine ⟨fun e => absurd e (by decide), ?_⟩
                    refine p_store_eq (i := 8) (j := 0) (b := b18) (off := 0) (vs := [vI r1.1, vI r1.2]) (cs' := [vI r1.1, vI r1.2]) hS60 hf112 rfl (by kernel_rfl) (by kernel_rfl) rfl fun ww50 a103 hS61 hf113 => ⟨fun e => absurd e (by decide), ?_⟩
                    refine p_done (by kernel_rfl) ?_
                    refine n_then ?_
                    refine w_ret (by kernel_rfl) ?_
                    refine p_ret (os := [vI r1.1, vI r1.2]) (v := .agg #[vI r1.1, vI r1.2]) (obs := [.cell ⟨b18, 0, none⟩ (vI r1.1), .cell ⟨b18, 1, none⟩ (vI r1.2)]) hf113 (by kernel_rfl) (.cell (hS61.box (i := 0) rfl (j := 0) rfl) (.cell (hS61.box (i := 0) rfl (j := 1) rfl) .nil)) ?_
                    refine ⟨_, rfl, fun a104 hf114 => ?_⟩
                    have hS62 := St.drop 1 hS61
                    refine ⟨fun _ => trivial, ?_⟩
                    refine p_box (i := 3) (d := (some 9)) (cs := [vI 0, vI 0]) (T := 41) (v := fun b19 => pB b19 0) hS62 hf114 (fun b => by kernel_rfl) fun b19 ww51 a105 hS63 hf115 => ⟨fun _ => trivial, ?_⟩
                    refine p_store_eq (i := 4) (j := 0) (b := b19) (off := 0) (vs := [vI r1.1, vI r1.2]) (cs' := [vI r1.1, vI r1.2]) hS63 hf115 rfl (by kernel_rfl) (by kernel_rfl) rfl fun ww52 a106 hS64 hf116 => ⟨fun _ => trivial, ?_⟩
                    refine p_done (by kernel_rfl) ?_
                    refine n_then ?_
                    refine w_seq (by kernel_rfl) ?_
                    refine w_mid (by kernel_rfl) (fun a w => ∃ z18 : Zone, ∃ y9 : Bool, Zone.le z17 z18 ∧ Fr a 41 [(1, .func (.func 128) #[] #[pB b6 0, pB b4 0, pB b5 0]), (4, pB b16 0), (6, pB b17 0), (8, vI p1), (9, pB b19 0), (10, .slice e3 ((compL (sortL y10)).length) q3), (11, vI ((compL (sortL y10)).length : Int)), (12, vI y8), (26, .bool y9)] ∧ St z18 (box b19 [vI r1.1, vI r1.2] 41 :: ownS PtT 52 e7 q7 y7 :: box b17 [.slice e7 y7.length q7] 24 :: box b16 [.slice none 0 0] 24 :: ownS Ty.int 3 e3 q3 (compL (sortL y10)) :: emp :: box b8 [vI y11, vI y12] 41 :: box b7 [.slice none 0 0] 24 :: box b6 [.func (.func 111) #[] #[]] 118 :: box b5 [.slice o_x1 x1.length c_x1] 24 :: box b4 [.slice o_x0 x0.length c_x0] 24 :: box b3 [.slice none 0 0] 24 :: box b2 [.slice o_x1 x1.length c_x1] 24 :: box b1 [.slice o_x0 x0.length c_x0] 24 :: L) w ∧ (F57_j5 (F57_l2 fuel x0 x1 y10 n1) y7 y8 p1 r1 y9) = some r) ?_ ?_
                    · skip
                      refine w_reg (by kernel_rfl) ?_
                      refine p_run 4 [vI r1.1] [1, 4, 6, 8, 9, 10, 11, 12, 22] (fl' := [(1, .func (.func 128) #[] #[pB b6 0, pB b4 0, pB b5 0]), (4, pB b16 0), (6, pB b17 0), (8, vI p1), (9, pB b19 0), (10, .slice e3 ((compL (sortL y10)).length) q3), (11, vI ((compL (sortL y10)).length : Int)), (12, vI y8), (22, .bool (decide (r1.1 < (-1000000000 : Int))))]) (obs := [.cell ⟨b19, 0, none⟩ (vI r1.1)]) trivial hf116 (by kernel_rfl) (by kernel_rfl) (.cell (hS64.box (i := 0) rfl (j := 0) rfl) .nil) fun a107 hf117 => ?_
                      rcases Bool.eq_false_or_eq_true (decide (r1.1 < (-1000000000 : Int))) with hb10 | hb10
                      · have hr39 := cond_t hb10 hr38
                        have hf118 := Fr.conv hf117 (congrArg (fun z => ([(1, .func (.func 128) #[] #[pB b6 0, pB b4 0, pB b5 0]), (4, pB b16 0), (6, pB b17 0), (8, vI p1), (9, pB b19 0), (10, .slice e3 ((compL (sortL y10)).length) q3), (11, vI ((compL (sortL y10)).length : Int)), (12, vI y8), (22, .bool z)] : FL)) hb10)
                        refine p_run 4 [] [1, 4, 6, 8, 9, 10, 11, 12, 23, 24, 25, 26] (fl' := [(1, .func (.func 128) #[] #[pB b6 0, pB b4 0, pB b5 0]), (4, pB b16 0), (6, pB b17 0), (8, vI p1), (9, pB b19 0), (10, .slice e3 ((compL (sortL y10)).length) q3), (11, vI ((compL (sortL y10)).length : Int)), (12, vI y8), (23, undef), (24, undef), (25, undef), (26, .bool true)]) (obs := []) trivial hf118 (by kernel_rfl) (by kernel_rfl) .nil fun a108 hf119 => ?_
                        refine p_done (by kernel_rfl) ?_
                        refine n_then ?_
                        have hf120 := Fr.keep (ks := [1, 4, 6, 8, 9, 10, 11, 12, 26]) (r := [(1, .func (.func 128) #[] #[pB b6 0, pB b4 0, pB b5 0]), (4, pB b16 0), (6, pB b17 0), (8, vI p1), (9, pB b19 0), (10, .slice e3 ((compL (sortL y10)).length) q3), (11, vI ((compL (sortL y10)).length : Int)), (12, vI y8), (26, .bool true)]) hf119 (by kernel_rfl)
                        exact ⟨z17, true, (Zone.le_refl _), hf120, hS64, hr39⟩
                      · have hr40 := cond_f hb10 hr38
                        have hf121 := Fr.conv hf117 (congrArg (fun z => ([(1, .func (.func 128) #[] #[pB b6 0, pB b4 0, pB b5 0]), (4, pB b16 0), (6, pB b17 0), (8, vI p1), (9, pB b19 0), (10, .slice e3 ((compL (sortL y10)).length) q3), (11, vI ((compL (sortL y10)).length : Int)), (12, vI y8), (22, .bool z)] : FL)) hb10)
                        refine p_run 4 [vI r1.2] [1, 4, 6, 8, 9, 10, 11, 12, 23, 24, 25, 26] (fl' := [(1, .func (.func 128) #[] #[pB b6 0, pB b4 0, pB b5 0]), (4, pB b16 0), (6, pB b17 0), (8, vI p1), (9, pB b19 0), (10, .slice e3 ((compL (sortL y10)).length) q3), (11, vI ((compL (sortL y10)).length : Int)), (12, vI y8), (23, pB b19 1), (24, vI r1.2), (25, .bool (decide (r1.2 > (1000000000 : Int)))), (26, .bool (decide (r1.2 > (1000000000 : Int))))]) (obs := [.cell ⟨b19, 1, none⟩ (vI r1.2)]) trivial hf121 (by kernel_rfl) (by kernel_rfl) (.cell (hS64.box (i := 0) rfl (j := 1) rfl) .nil) fun a109 hf122 => ?_
                        refine p_done (by kernel_rfl) ?_
                        refine n_then ?_
                        have hf123 := Fr.keep (ks := [1, 4, 6, 8, 9, 10, 11, 12, 26]) (r := [(1, .func (.func 128) #[] #[pB b6 0, pB b4 0, pB b5 0]), (4, pB b16 0), (6, pB b17 0), (8, vI p1), (9, pB b19 0), (10, .slice e3 ((compL (sortL y10)).length) q3), (11, vI ((compL (sortL y10)).length : Int)), (12, vI y8), (26, .bool (decide (r1.2 > (1000000000 : Int))))]) hf122 (by kernel_rfl)
                        exact ⟨z17, (decide (r1.2 > (1000000000 : Int))), (Zone.le_refl _), hf123, hS64, hr40⟩
                    · rintro a110 ww53 ⟨z18, y9, k18, hf124, hS65, hr41⟩
                      refine w_if hf124 (b := y9) (by kernel_rfl) (fun hb11 => ?_) (fun hb11 => ?_)
                      · have hr42 := cond_t hb11 hr41
                        refine w_seq (by kernel_rfl) ?_
                        refine w_reg (by kernel_rfl) ?_
                        refine p_run 1 [] [4, 27] (fl' := [(4, pB b16 0), (27, .agg #[.slice none 0 0])]) (obs := []) trivial hf124 (by kernel_rfl) (by kernel_rfl) .nil fun a111 hf125 => ?_
                        refine p_store_eq (i := 1) (j := 3) (b := b16) (off := 0) (vs := [.slice none 0 0]) (cs' := [.slice none 0 0]) hS65 hf125 rfl (by kernel_rfl) (by kernel_rfl) rfl fun ww54 a112 hS66 hf126 => ⟨fun _ => trivial, ?_⟩
                        refine p_run 1 [] [4, 5] (fl' := [(4, pB b16 0), (5, vI 5)]) (obs := []) trivial hf126 (by kernel_rfl) (by kernel_rfl) .nil fun a113 hf127 => ?_
                        refine p_done (by kernel_rfl) ?_
                        refine n_then ?_
                        refine w_ret (by kernel_rfl) ?_
                        refine r_then ?_
                        refine r_block ?_
                        refine r_then ?_
                        refine r_then ?_
                        refine r_block ?_
                        refine r_then ?_
                        refine p_ret (os := [.slice none 0 0]) (v := .tuple #[.agg #[.slice none 0 0], vI 5]) (obs := [.cell ⟨b16, 0, none⟩ (.slice none 0 0)]) hf127 (by kernel_rfl) (.cell (hS66.box (i := 3) rfl (j := 0) rfl) .nil) ?_
                        have hS67 := St.ownNil hS66 PtT 52
                        exact ⟨_, rfl, z18, [], 5, none, 0, (Zone.le_trans (Zone.le_trans (Zone.le_trans k15 k16) k17) k18), rfl, (St.pick 5 [0] hS67 (by kernel_rfl)), hr42⟩
                      · have hr43 := cond_f hb11 hr41
                        refine w_skip (by kernel_rfl) ?_
                        refine n_then ?_
                        refine w_reg (by kernel_rfl) ?_
                        refine p_run 8 [.slice e7 y7.length q7, vI r1.1, vI r1.2] [1, 4, 6, 10, 11, 12, 29, 35] (fl' := [(1, .func (.func 128) #[] #[pB b6 0, pB b4 0, pB b5 0]), (4, pB b16 0), (6, pB b17 0), (10, .slice e3 ((compL (sortL y10)).length) q3), (11, vI ((compL (sortL y10)).length : Int)), (12, vI y8), (29, .slice e7 y7.length q7), (35, .agg #[vI p1, vI r1.1, vI r1.2])]) (obs := [.cell ⟨b17, 0, none⟩ (.slice e7 y7.length q7), .cell ⟨b19, 0, none⟩ (vI r1.1), .cell ⟨b19, 1, none⟩ (vI r1.2)]) trivial hf124 (by kernel_rfl) (by kernel_rfl) (.cell (hS65.box (i := 2) rfl (j := 0) rfl) (.cell (hS65.box (i := 0) rfl (j := 0) rfl) (.cell (hS65.box (i := 0) rfl (j := 1) rfl) .nil))) fun a114 hf128 => ?_
                        refine p_box (i := 8) (d := (some 36)) (cs := [vI p1, vI r1.1, vI r1.2]) (T := 52) (v := fun b20 => .slice (some ⟨b20, 0, none⟩) 1 1) hS65 hf128 (fun b => by kernel_rfl) fun b20 ww55 a115 hS68 hf129 => ⟨fun _ => trivial, ?_⟩
                        have hS69 := hS68.ownBox (T := PtT) (E := 52) (n := 1) (xs := [⟨p1, r1.1, r1.2⟩]) (i := 0) rfl (Rows.cons (c := [vI p1, vI r1.1, vI r1.2]) rfl rfl) rfl (by decide)
                        obtain ⟨d1, hd20, hr44⟩ := bind_some hr43
                        refine p_append (T := PtT) (i := 9) (j := 2) (d := some 37) (o2 := (some ⟨b20, 0, none⟩)) (c2 := 1) (ys := ([⟨p1, r1.1, r1.2⟩])) el22 hS69 hf129 rfl (by kernel_rfl) (hS69.ownSrc (j := 0) rfl) hd20 fun e8 q8 ww56 a116 hS70 hf130 => ⟨fun _ => trivial, ?_⟩
                        refine p_run 1 [] [1, 4, 6, 10, 11, 12, 37, 38] (fl' := [(1, .func (.func 128) #[] #[pB b6 0, pB b4 0, pB b5 0]), (4, pB b16 0), (6, pB b17 0), (10, .slice e3 ((compL (sortL y10)).length) q3), (11, vI ((compL (sortL y10)).length : Int)), (12, vI y8), (37, .slice e8 d1.length q8), (38, pB b17 0)]) (obs := []) trivial hf130 (by kernel_rfl) (by kernel_rfl) .nil fun a117 hf131 => ?_
                        refine p_store_eq (i := 11) (j := 3) (b := b17) (off := 0) (vs := [.slice e8 d1.length q8]) (cs' := [.slice e8 d1.length q8]) hS70 hf131 rfl (by kernel_rfl) (by kernel_rfl) rfl fun ww57 a118 hS71 hf132 => ⟨fun _ => trivial, ?_⟩
                        refine p_done (by kernel_rfl) ?_
                        refine n_block ?_
                        refine n_then ?_
                        refine w_reg (by kernel_rfl) ?_
                        refine p_run 2 [] [1, 4, 6, 10, 11, 12] (fl' := [(1, .func (.func 128) #[] #[pB b6 0, pB b4 0, pB b5 0]), (4, pB b16 0), (6, pB b17 0), (10, .slice e3 ((compL (sortL y10)).length) q3), (11, vI ((compL (sortL y10)).length : Int)), (12, vI (w64 (y8 + (1 : Int))))]) (obs := []) trivial hf132 (by kernel_rfl) (by kernel_rfl) .nil fun a119 hf133 => ?_
                        refine p_done (by kernel_rfl) ?_
                        refine n_then ?_
                        have hf134 := Fr.keep (ks := [1, 4, 6, 10, 11, 12]) (r := [(1, .func (.func 128) #[] #[pB b6 0, pB b4 0, pB b5 0]), (4, pB b16 0), (6, pB b17 0), (10, .slice e3 ((compL (sortL y10)).length) q3), (11, vI ((compL (sortL y10)).length : Int)), (12, vI (w64 (y8 + (1 : Int))))]) hf133 (by kernel_rfl)
                        exact ⟨n1, Nat.lt_succ_self n1, z18, d1, (w64 (y8 + (1 : Int))), e8, q8, (Zone.le_trans (Zone.le_trans (Zone.le_trans k15 k16) k17) k18), hf134, (St.drop 2 hS71), hr44⟩
                  · have hr45 := cond_f hb8 hr33
                    refine w_exit (id := 0) (by kernel_rfl) ?_
                    refine x_then ?_
                    refine x_then ?_
                    refine x_block ?_
                    refine n_then ?_
                    refine w_seq (by kernel_rfl) ?_
                    refine w_reg (by kernel_rfl) ?_
                    refine p_run 1 [.slice e7 y7.length q7] [4, 40] (fl' := [(4, pB b16 0), (40, .agg #[.slice e7 y7.length q7])]) (obs := [.cell ⟨b17, 0, none⟩ (.slice e7 y7.length q7)]) trivial hf101 (by kernel_rfl) (by kernel_rfl) (.cell (hS55.box (i := 1) rfl (j := 0) rfl) .nil) fun a120 hf135 => ?_
                    refine p_store_eq (i := 1) (j := 2) (b := b16) (off := 0) (vs := [.slice e7 y7.length q7]) (cs' := [.slice e7 y7.length q7]) hS55 hf135 rfl (by kernel_rfl) (by kernel_rfl) rfl fun ww58 a121 hS72 hf136 => ⟨fun _ => trivial, ?_⟩
                    refine p_run 1 [] [4, 5] (fl' := [(4, pB b16 0), (5, vI 0)]) (obs := []) trivial hf136 (by kernel_rfl) (by kernel_rfl) .nil fun a122 hf137 => ?_
                    refine p_done (by kernel_rfl) ?_
                    refine n_then ?_
                    refine w_ret (by kernel_rfl) ?_
                    refine p_ret (os := [.slice e7 y7.length q7]) (v := .tuple #[.agg #[.slice e7 y7.length q7], vI 0]) (obs := [.cell ⟨b16, 0, none⟩ (.slice e7 y7.length q7)]) hf137 (by kernel_rfl) (.cell (hS72.box (i := 2) rfl (j := 0) rfl) .nil) ?_
                    exact ⟨_, rfl, z15, y7, 0, e7, q7, k15, rfl, (St.pick 3 [0] hS72 (by kernel_rfl)), hr45⟩
                · rintro v19 ww59 a123 ⟨z14, y5, y6, e6, q6, k19, rfl, hS73, hr46⟩ hf138
                  refine ⟨fun _ => trivial, ?_⟩
                  refine p_run 2 [] [6, 70, 71] (fl' := [(6, pB b7 0), (70, .agg #[.slice e6 y5.length q6]), (71, vI y6)]) (obs := []) trivial hf138 (by kernel_rfl) (by kernel_rfl) .nil fun a124 hf139 => ?_
                  refine p_store_eq (i := 5) (j := 4) (b := b7) (off := 0) (vs := [.slice e6 y5.length q6]) (cs' := [.slice e6 y5.length q6]) hS73 hf139 rfl (by kernel_rfl) (by kernel_rfl) rfl fun ww60 a125 hS74 hf140 => ⟨fun _ => trivial, ?_⟩
                  refine p_run 1 [] [6, 7] (fl' := [(6, pB b7 0), (7, vI y6)]) (obs := []) trivial hf140 (by kernel_rfl) (by kernel_rfl) .nil fun a126 hf141 => ?_
                  refine p_done (by kernel_rfl) ?_
                  refine n_then ?_
                  refine w_ret (by kernel_rfl) ?_
                  refine p_ret (os := [.slice e6 y5.length q6]) (v := .tuple #[.agg #[.slice e6 y5.length q6], vI y6]) (obs := [.cell ⟨b7, 0, none⟩ (.slice e6 y5.length q6)]) hf141 (by kernel_rfl) (.cell (hS74.box (i := 4) rfl (j := 0) rfl) .nil) ?_
                  exact ⟨_, rfl, z14, y5, y6, e6, q6, (Zone.le_trans (Zone.le_trans (Zone.le_trans (Zone.le_trans (Zone.le_trans (Zone.le_trans k3 k4) k9) k10) k11) k12) k19), rfl, (St.pick 8 [0] hS74 (by kernel_rfl)), hr46⟩
  · rintro v20 ww61 a127 ⟨z1, y1, y2, e1, q1, k20, rfl, hS75, hr47⟩ hf142
    refine ⟨fun _ => trivial, ?_⟩
    refine p_run 2 [] [4, 9, 10] (fl' := [(4, pB b3 0), (9, .agg #[.slice e1 y1.length q1]), (10, vI y2)]) (obs := []) trivial hf142 (by kernel_rfl) (by kernel_rfl) .nil fun a128 hf143 => ?_
    refine p_store_eq (i := 5) (j := 1) (b := b3) (off := 0) (vs := [.slice e1 y1.length q1]) (cs' := [.slice e1 y1.length q1]) hS75 hf143 rfl (by kernel_rfl) (by kernel_rfl) rfl fun ww62 a129 hS76 hf144 => ⟨fun _ => trivial, ?_⟩
    refine p_run 1 [] [4, 5] (fl' := [(4, pB b3 0), (5, vI y2)]) (obs := []) trivial hf144 (by kernel_rfl) (by kernel_rfl) .nil fun a130 hf145 => ?_
    refine p_done (by kernel_rfl) ?_
    refine n_then ?_
    refine w_ret (by kernel_rfl) ?_
    obtain ⟨z19, k21, hS77, hx3⟩ := hS76.share (j := 0) rfl
    refine p_ret (os := [.slice e1 y1.length q1]) (v := .tuple #[.agg #[.slice e1 y1.length q1], vI y2]) (obs := [.cell ⟨b3, 0, none⟩ (.slice e1 y1.length q1)]) hf145 (by kernel_rfl) (.cell (hS77.box (i := 1) rfl (j := 0) rfl) .nil) ?_
    obtain rfl := some_eq hr47
    exact ⟨_, rfl, z19, e1, q1, (Zone.le_trans k20 k21), rfl, (St.drop 4 hS77), hx3⟩
def F63_l1 (x0 : List Pt) (x1 : List Pt) : Nat → Int → Option (Bool)
  | 0, _ => none
  | n1 + 1, y1 =>
    let k1 : Int → Option (Bool) := F63_l1 x0 x1 n1
    (cond (decide (y1 < (x0.length : Int))) ((getI x0 y1).bind fun p1 => ((getI x1 y1).bind fun p2 => (cond (!((p1.x == p2.x) && ((p1.lo == p2.lo) && ((p1.hi == p2.hi) && true)))) (some (false)) (k1 (w64 (y1 + (1 : Int))))))) (some (true)))
def F63 (fuel : Nat) (x0 : List Pt) (x1 : List Pt) : Option (Bool) :=
  (cond ((x0.length : Int) != (x1.length : Int)) (some (false)) (F63_l1 x0 x1 fuel 0))
set_option maxRecDepth 100000 in
theorem f63_ok (fuel : Nat) (x0 : List Pt) (x1 : List Pt) (r : Bool) (hr : F63 fuel x0 x1 = some r) (h : Zone) (L : List Atom) (w : World) (hS : St h L w) (o_x0 : Option Addr) (c_x0 : Nat) (hx_x0 : SliceR PtT h o_x0 c_x0 x0) (o_x1 : Option Addr) (c_x1 : Nat) (hx_x1 : SliceR PtT h o_x1 c_x1 x1) :
    Calls Try.prog 63 #[.agg #[.slice o_x0 x0.length c_x0], .agg #[.slice o_x1 x1.length c_x1]] w fun e w' => ∃ v, e = .returned v ∧ (∃ h', Zone.le h h' ∧ v = .bool r ∧ St h' L w') := by
  refine calls_intro (N := 31) Try.func63 (by kernel_rfl) fun a hf => ?_
  refine w_seq (by kernel_rfl) ?_
  refine w_reg (by kernel_rfl) ?_
  refine p_box (i := 0) (d := (some 2)) (cs := [.slice o_x0 x0.length c_x0]) (T := 24) (v := fun b1 => pB b1 0) hS hf (fun b => by kernel_rfl) fun b1 ww1 a1 hS1 hf1 => ⟨fun _ => trivial, ?_⟩
  refine p_box (i := 1) (d := (some 3)) (cs := [.slice o_x1 x1.length c_x1]) (T := 24) (v := fun b2 => pB b2 0) hS1 hf1 (fun b => by kernel_rfl) fun b2 ww2 a2 hS2 hf2 => ⟨fun _ => trivial, ?_⟩
  refine p_run 1 [] [2, 3] (fl' := [(2, pB b1 0), (3, pB b2 0)]) (obs := []) trivial hf2 (by kernel_rfl) (by kernel_rfl) .nil fun a3 hf3 => ?_
  refine p_done (by kernel_rfl) ?_
  refine n_then ?_
  refine w_seq (by kernel_rfl) ?_
  refine w_seq (by kernel_rfl) ?_
  refine w_reg (by kernel_rfl) ?_
  refine p_run 7 [.slice o_x0 x0.length c_x0, .slice o_x1 x1.length c_x1] [2, 3, 12] (fl' := [(2, pB b1 0), (3, pB b2 0), (12, .bool ((x0.length : Int) != (x1.length : Int)))]) (obs := [.cell ⟨b1, 0, none⟩ (.slice o_x0 x0.length c_x0), .cell ⟨b2, 0, none⟩ (.slice o_x1 x1.length c_x1)]) trivial hf3 (by kernel_rfl) (by kernel_rfl) (.cell (hS2.box (i := 1) rfl (j := 0) rfl) (.cell (hS2.box (i := 0) rfl (j := 0) rfl) .nil)) fun a4 hf4 => ?_
  refine p_done (by kernel_rfl) ?_
  refine n_then ?_
  refine w_if hf4 (b := ((x0.length : Int) != (x1.length : Int))) (by kernel_rfl) (fun hb1 => ?_) (fun hb1 => ?_)
  · have hr1 := cond_t hb1 hr
    refine w_seq (by kernel_rfl) ?_
    refine w_reg (by kernel_rfl) ?_
    refine p_run 1 [] [4] (fl' := [(4, .bool false)]) (obs := []) trivial hf4 (by kernel_rfl) (by kernel_rfl) .nil fun a5 hf5 => ?_
    refine p_done (by kernel_rfl) ?_
    refine n_then ?_
    refine w_ret (by kernel_rfl) ?_
    refine r_then ?_
    refine p_ret (os := []) (v := .bool false) (obs := []) hf5 (by kernel_rfl) .nil ?_
    obtain rfl := some_eq hr1
    exact ⟨_, rfl, h, (Zone.le_refl _), rfl, (St.drop 2 hS2)⟩
  · have hr2 := cond_f hb1 hr
    refine w_skip (by kernel_rfl) ?_
    refine n_then ?_
    refine w_seq (by kernel_rfl) ?_
    refine w_seq (by kernel_rfl) ?_
    refine w_reg (by kernel_rfl) ?_
    refine p_run 4 [.slice o_x0 x0.length c_x0] [2, 3, 15, 16] (fl' := [(2, pB b1 0), (3, pB b2 0), (15, vI (x0.length : Int)), (16, vI 0)]) (obs := [.cell ⟨b1, 0, none⟩ (.slice o_x0 x0.length c_x0)]) trivial hf4 (by kernel_rfl) (by kernel_rfl) (.cell (hS2.box (i := 1) rfl (j := 0) rfl) .nil) fun a6 hf6 => ?_
    refine p_done (by kernel_rfl) ?_
    refine n_then ?_
    refine w_block (id := 0) (by kernel_rfl) ?_
    have hf7 := Fr.keep (ks := [2, 3, 15, 16]) (r := [(2, pB b1 0), (3, pB b2 0), (15, vI (x0.length : Int)), (16, vI 0)]) hf6 (by kernel_rfl)
    refine w_loop (by kernel_rfl) (fun n a w => ∃ z1 : Zone, ∃ y1 : Int, Zone.le h z1 ∧ Fr a 31 [(2, pB b1 0), (3, pB b2 0), (15, vI (x0.length : Int)), (16, vI y1)] ∧ St z1 (box b2 [.slice o_x1 x1.length c_x1] 24 :: box b1 [.slice o_x0 x0.length c_x0] 24 :: L) w ∧ (F63_l1 x0 x1 n y1) = some r) fuel ⟨h, 0, (Zone.le_refl _), hf7, hS2, hr2⟩ ?_
    rintro n2 a7 ww3 ⟨z1, y1, k2, hf8, hS3, hr3⟩
    cases n2 with
    | zero => cases hr3
    | succ n1 =>
    refine w_seq (by kernel_rfl) ?_
    refine w_reg (by kernel_rfl) ?_
    refine p_run 1 [] [2, 3, 15, 16, 17] (fl' := [(2, pB b1 0), (3, pB b2 0), (15, vI (x0.length : Int)), (16, vI y1), (17, .bool (decide (y1 < (x0.length : Int))))]) (obs := []) trivial hf8 (by kernel_rfl) (by kernel_rfl) .nil fun a8 hf9 => ?_
    refine p_done (by kernel_rfl) ?_
    refine n_then ?_
    refine w_seq (by kernel_rfl) ?_
    refine w_if hf9 (b := (decide (y1 < (x0.length : Int)))) (by kernel_rfl) (fun hb2 => ?_) (fun hb2 => ?_)
    · have hr4 := cond_t hb2 hr3
      refine w_skip (by kernel_rfl) ?_
      refine n_then ?_
      refine w_seq (by kernel_rfl) ?_
      refine w_block (id := 1) (by kernel_rfl) ?_
      refine w_seq (by kernel_rfl) ?_
      refine w_reg (by kernel_rfl) ?_
      refine p_run 2 [] [2, 3, 5, 15, 16] (fl' := [(2, pB b1 0), (3, pB b2 0), (5, vI y1), (15, vI (x0.length : Int)), (16, vI y1)]) (obs := []) trivial hf9 (by kernel_rfl) (by kernel_rfl) .nil fun a9 hf10 => ?_
      refine p_done (by kernel_rfl) ?_
      refine n_then ?_
      refine w_seq (by kernel_rfl) ?_
      have hS4 := hS3.drew
      refine w_regD (by kernel_rfl) [(0, true), (1, true), (2, true), (3, true), (4, true), (5, true), (6, true), (7, true), (8, true), (9, true), (10, true)] [] (fun x => x = ww3.drew) (by kernel_rfl) rfl ?_
      refine p_firstP 1 [] [2, 3, 5, 15, 16, 19] (fl' := [(2, pB b1 0), (3, pB b2 0), (5, vI y1), (15, vI (x0.length : Int)), (16, vI y1), (19, pB b1 0)]) (obs := []) hf10 (by kernel_rfl) (by kernel_rfl) (fun _ => .nil) fun a10 hf11 => ?_
      refine p_firstE 1 [.slice o_x0 x0.length c_x0] [2, 3, 5, 15, 16, 20] (fl' := [(2, pB b1 0), (3, pB b2 0), (5, vI y1), (15, vI (x0.length : Int)), (16, vI y1), (20, .slice o_x0 x0.length c_x0)]) (obs := [.cell ⟨b1, 0, none⟩ (.slice o_x0 x0.length c_x0)]) (by kernel_rfl) hf11 (by kernel_rfl) (by kernel_rfl) (.cell (hS4.box (i := 1) rfl (j := 0) rfl) .nil) fun a11 hf12 => ?_
      obtain ⟨p1, hp806, hr5⟩ := bind_some hr4
      obtain ⟨ad1, ho1, hb3, cc1, hc1, hk1⟩ := SliceR.getI (SliceR.mono k2 hx_x0) hp806
      subst hc1
      refine p_firstP 2 [.pointer (some ad1)] [2, 3, 5, 15, 16, 22] (fl' := [(2, pB b1 0), (3, pB b2 0), (5, vI y1), (15, vI (x0.length : Int)), (16, vI y1), (22, .pointer (some (ad1.add (Int.toNat y1 * 3))))]) (obs := [.prop (o_x0 = some ad1), .prop (0 ≤ y1 ∧ y1 < (x0.length : Nat))]) hf12 (by kernel_rfl) (by kernel_rfl) (fun _ => (.prop ho1 (.prop hb3 .nil))) fun a12 hf13 => ?_
      refine p_firstE 1 [vI p1.x, vI p1.lo, vI p1.hi] [2, 3, 5, 15, 16, 23] (fl' := [(2, pB b1 0), (3, pB b2 0), (5, vI y1), (15, vI (x0.length : Int)), (16, vI y1), (23, .agg #[vI p1.x, vI p1.lo, vI p1.hi])]) (obs := [.cell ((ad1.add (Int.toNat y1 * 3)).add 0) (vI p1.x), .cell ((ad1.add (Int.toNat y1 * 3)).add 1) (vI p1.lo), .cell ((ad1.add (Int.toNat y1 * 3)).add 2) (vI p1.hi)]) (by kernel_rfl) hf13 (by kernel_rfl) (by kernel_rfl) (.cell (hS4.cell (hk1 0 _ rfl)) (.cell (hS4.cell (hk1 1 _ rfl)) (.cell (hS4.cell (hk1 2 _ rfl)) .nil))) fun a13 hf14 => ?_
      refine p_firstP 1 [] [2, 3, 5, 15, 16, 23, 24] (fl' := [(2, pB b1 0), (3, pB b2 0), (5, vI y1), (15, vI (x0.length : Int)), (16, vI y1), (23, .agg #[vI p1.x, vI p1.lo, vI p1.hi]), (24, pB b2 0)]) (obs := []) hf14 (by kernel_rfl) (by kernel_rfl) (fun _ => .nil) fun a14 hf15 => ?_
      refine p_firstE 1 [.slice o_x1 x1.length c_x1] [2, 3, 5, 15, 16, 23, 25] (fl' := [(2, pB b1 0), (3, pB b2 0), (5, vI y1), (15, vI (x0.length : Int)), (16, vI y1), (23, .agg #[vI p1.x, vI p1.lo, vI p1.hi]), (25, .slice o_x1 x1.length c_x1)]) (obs := [.cell ⟨b2, 0, none⟩ (.slice o_x1 x1.length c_x1)]) (by kernel_rfl) hf15 (by kernel_rfl) (by kernel_rfl) (.cell (hS4.box (i := 0) rfl (j := 0) rfl) .nil) fun a15 hf16 => ?_
      obtain ⟨p2, hp823, hr6⟩ := bind_some hr5
      obtain ⟨ad2, ho2, hb4, cc2, hc2, hk2⟩ := SliceR.getI (SliceR.mono k2 hx_x1) hp823
      subst hc2
      refine p_firstP 2 [.pointer (some ad2)] [2, 3, 15, 16, 23, 27] (fl' := [(2, pB b1 0), (3, pB b2 0), (15, vI (x0.length : Int)), (16, vI y1), (23, .agg #[vI p1.x, vI p1.lo, vI p1.hi]), (27, .pointer (some (ad2.add (Int.toNat y1 * 3))))]) (obs := [.prop (o_x1 = some ad2), .prop (0 ≤ y1 ∧ y1 < (x1.length : Nat))]) hf16 (by kernel_rfl) (by kernel_rfl) (fun _ => (.prop ho2 (.prop hb4 .nil))) fun a16 hf17 => ?_
      refine p_firstE 1 [vI p2.x, vI p2.lo, vI p2.hi] [2, 3, 15, 16, 23, 28] (fl' := [(2, pB b1 0), (3, pB b2 0), (15, vI (x0.length : Int)), (16, vI y1), (23, .agg #[vI p1.x, vI p1.lo, vI p1.hi]), (28, .agg #[vI p2.x, vI p2.lo, vI p2.hi])]) (obs := [.cell ((ad2.add (Int.toNat y1 * 3)).add 0) (vI p2.x), .cell ((ad2.add (Int.toNat y1 * 3)).add 1) (vI p2.lo), .cell ((ad2.add (Int.toNat y1 * 3)).add 2) (vI p2.hi)]) (by kernel_rfl) hf17 (by kernel_rfl) (by kernel_rfl) (.cell (hS4.cell (hk2 0 _ rfl)) (.cell (hS4.cell (hk2 1 _ rfl)) (.cell (hS4.cell (hk2 2 _ rfl)) .nil))) fun a17 hf18 => ?_
      refine p_firstP 1 [] [2, 3, 15, 16, 29] (fl' := [(2, pB b1 0), (3, pB b2 0), (15, vI (x0.length : Int)), (16, vI y1), (29, .bool (!((p1.x == p2.x) && ((p1.lo == p2.lo) && ((p1.hi == p2.hi) && true)))))]) (obs := []) hf18 (by kernel_rfl) (by kernel_rfl) (fun _ => .nil) fun a18 hf19 => ?_
      refine p_done (by kernel_rfl) ?_
      refine n_then ?_
      refine w_if hf19 (b := (!((p1.x == p2.x) && ((p1.lo == p2.lo) && ((p1.hi == p2.hi) && true))))) (by kernel_rfl) (fun hb5 => ?_) (fun hb5 => ?_)
      · have hr7 := cond_t hb5 hr6
        refine w_seq (by kernel_rfl) ?_
        refine w_reg (by kernel_rfl) ?_
        refine p_run 1 [] [4] (fl' := [(4, .bool false)]) (obs := []) trivial hf19 (by kernel_rfl) (by kernel_rfl) .nil fun a19 hf20 => ?_
        refine p_done (by kernel_rfl) ?_
        refine n_then ?_
        refine w_ret (by kernel_rfl) ?_
        refine r_block ?_
        refine r_then ?_
        refine r_then ?_
        refine r_block ?_
        refine r_then ?_
        refine p_ret (os := []) (v := .bool false) (obs := []) hf20 (by kernel_rfl) .nil ?_
        obtain rfl := some_eq hr7
        exact ⟨_, rfl, z1, k2, rfl, (St.drop 2 hS4)⟩
      · have hr8 := cond_f hb5 hr6
        refine w_skip (by kernel_rfl) ?_
        refine n_block ?_
        refine n_then ?_
        refine w_reg (by kernel_rfl) ?_
        refine p_run 2 [] [2, 3, 15, 16] (fl' := [(2, pB b1 0), (3, pB b2 0), (15, vI (x0.length : Int)), (16, vI (w64 (y1 + (1 : Int))))]) (obs := []) trivial hf19 (by kernel_rfl) (by kernel_rfl) .nil fun a20 hf21 => ?_
        refine p_done (by kernel_rfl) ?_
        refine n_then ?_
        have hf22 := Fr.keep (ks := [2, 3, 15, 16]) (r := [(2, pB b1 0), (3, pB b2 0), (15, vI (x0.length : Int)), (16, vI (w64 (y1 + (1 : Int))))]) hf21 (by kernel_rfl)
        exact ⟨n1, Nat.lt_succ_self n1, z1, (w64 (y1 + (1 : Int))), k2, hf22, hS4, hr8⟩
    · have hr9 := cond_f hb2 hr3
      refine w_exit (id := 0) (by kernel_rfl) ?_
      refine x_then ?_
      refine x_then ?_
      refine x_block ?_
      refine n_then ?_
      refine w_seq (by kernel_rfl) ?_
      refine w_reg (by kernel_rfl) ?_
      refine p_run 1 [] [4] (fl' := [(4, .bool true)]) (obs := []) trivial hf9 (by kernel_rfl) (by kernel_rfl) .nil fun a21 hf23 => ?_
      refine p_done (by kernel_rfl) ?_
      refine n_then ?_
      refine w_ret (by kernel_rfl) ?_
      refine p_ret (os := []) (v := .bool true) (obs := []) hf23 (by kernel_rfl) .nil ?_
      obtain rfl := some_eq hr9
      exact ⟨_, rfl, z1, k2, rfl, (St.drop 2 hS3)⟩
def F76 (fuel : Nat)  : Option (List Pt) :=
  (some ([⟨0, 0, 0⟩, ⟨10, 5, 8⟩, ⟨40, 20, 20⟩]))
set_option maxRecDepth 100000 in
theorem f76_ok (fuel : Nat)  (r : List Pt) (hr : F76 fuel  = some r) (h : Zone) (L : List Atom) (w : World) (hS : St h L w)  :
    Calls Try.prog 76 #[] w fun e w' => ∃ v, e = .returned v ∧ (∃ h', ∃ o0 : Option Addr, ∃ c0 : Nat, Zone.le h h' ∧ v = .agg #[.slice o0 r.length c0] ∧ St h' L w' ∧ SliceR PtT h' o0 c0 r) := by
  refine calls_intro (N := 6) Try.func76 (by kernel_rfl) fun a hf => ?_
  refine w_seq (by kernel_rfl) ?_
  refine w_reg (by kernel_rfl) ?_
  refine p_box (i := 0) (d := (some 0)) (cs := [.slice none 0 0]) (T := 24) (v := fun b1 => pB b1 0) hS hf (fun b => by kernel_rfl) fun b1 ww1 a1 hS1 hf1 => ⟨fun _ => trivial, ?_⟩
  refine p_done (by kernel_rfl) ?_
  refine n_then ?_
  refine w_seq (by kernel_rfl) ?_
  refine w_reg (by kernel_rfl) ?_
  refine p_run 3 [] [0, 1, 2, 3] (fl' := [(0, pB b1 0), (1, .agg #[vI 0, vI 0, vI 0]), (2, .agg #[vI 10, vI 5, vI 8]), (3, .agg #[vI 40, vI 20, vI 20])]) (obs := []) trivial hf1 (by kernel_rfl) (by kernel_rfl) .nil fun a2 hf2 => ?_
  refine p_box (i := 3) (d := (some 4)) (cs := [vI 0, vI 0, vI 0, vI 10, vI 5, vI 8, vI 40, vI 20, vI 20]) (T := 52) (v := fun b2 => .slice (some ⟨b2, 0, none⟩) 3 3) hS1 hf2 (fun b => by kernel_rfl) fun b2 ww2 a3 hS2 hf3 => ⟨fun _ => trivial, ?_⟩
  have hS3 := hS2.ownBox (T := PtT) (E := 52) (n := 3) (xs := [⟨0, 0, 0⟩, ⟨10, 5, 8⟩, ⟨40, 20, 20⟩]) (i := 0) rfl (Rows.cons (c := [vI 0, vI 0, vI 0]) rfl (Rows.cons (c := [vI 10, vI 5, vI 8]) rfl (Rows.cons (c := [vI 40, vI 20, vI 20]) rfl rfl))) rfl (by decide)
  refine p_run 1 [] [0, 5] (fl' := [(0, pB b1 0), (5, .agg #[.slice (some ⟨b2, 0, none⟩) 3 3])]) (obs := []) trivial hf3 (by kernel_rfl) (by kernel_rfl) .nil fun a4 hf4 => ?_
  refine p_store_eq (i := 5) (j := 1) (b := b1) (off := 0) (vs := [.slice (some ⟨b2, 0, none⟩) 3 3]) (cs' := [.slice (some ⟨b2, 0, none⟩) 3 3]) hS3 hf4 rfl (by kernel_rfl) (by kernel_rfl) rfl fun ww3 a5 hS4 hf5 => ⟨fun _ => trivial, ?_⟩
  refine p_done (by kernel_rfl) ?_
  refine n_then ?_
  refine w_ret (by kernel_rfl) ?_
  obtain ⟨z1, k1, hS5, hx1⟩ := hS4.share (j := 0) rfl
  refine p_ret (os := [.slice (some ⟨b2, 0, none⟩) 3 3]) (v := .agg #[.slice (some ⟨b2, 0, none⟩) 3 3]) (obs := [.cell ⟨b1, 0, none⟩ (.slice (some ⟨b2, 0, none⟩) 3 3)]) hf5 (by kernel_rfl) (.cell (hS5.box (i := 1) rfl (j := 0) rfl) .nil) ?_
  obtain rfl := some_eq hr
  exact ⟨_, rfl, z1, (some ⟨b2, 0, none⟩), 3, k1, rfl, (St.drop 2 hS5), hx1⟩
def F77 (fuel : Nat)  : Option (List Pt) :=
  (some ([⟨5, 1, 2⟩, ⟨20, 1, 4⟩]))
set_option maxRecDepth 100000 in
theorem f77_ok (fuel : Nat)  (r : List Pt) (hr : F77 fuel  = some r) (h : Zone) (L : List Atom) (w : World) (hS : St h L w)  :
    Calls Try.prog 77 #[] w fun e w' => ∃ v, e = .returned v ∧ (∃ h', ∃ o0 : Option Addr, ∃ c0 : Nat, Zone.le h h' ∧ v = .agg #[.slice o0 r.length c0] ∧ St h' L w' ∧ SliceR PtT h' o0 c0 r) := by
  refine calls_intro (N := 5) Try.func77 (by kernel_rfl) fun a hf => ?_
  refine w_seq (by kernel_rfl) ?_
  refine w_reg (by kernel_rfl) ?_
  refine p_box (i := 0) (d := (some 0)) (cs := [.slice none 0 0]) (T := 24) (v := fun b1 => pB b1 0) hS hf (fun b => by kernel_rfl) fun b1 ww1 a1 hS1 hf1 => ⟨fun _ => trivial, ?_⟩
  refine p_done (by kernel_rfl) ?_
  refine n_then ?_
  refine w_seq (by kernel_rfl) ?_
  refine w_reg (by kernel_rfl) ?_
  refine p_run 2 [] [0, 1, 2] (fl' := [(0, pB b1 0), (1, .agg #[vI 5, vI 1, vI 2]), (2, .agg #[vI 20, vI 1, vI 4])]) (obs := []) trivial hf1 (by kernel_rfl) (by kernel_rfl) .nil fun a2 hf2 => ?_
  refine p_box (i := 2) (d := (some 3)) (cs := [vI 5, vI 1, vI 2, vI 20, vI 1, vI 4]) (T := 52) (v := fun b2 => .slice (some ⟨b2, 0, none⟩) 2 2) hS1 hf2 (fun b => by kernel_rfl) fun b2 ww2 a3 hS2 hf3 => ⟨fun _ => trivial, ?_⟩
  have hS3 := hS2.ownBox (T := PtT) (E := 52) (n := 2) (xs := [⟨5, 1, 2⟩, ⟨20, 1, 4⟩]) (i := 0) rfl (Rows.cons (c := [vI 5, vI 1, vI 2]) rfl (Rows.cons (c := [vI 20, vI 1, vI 4]) rfl rfl)) rfl (by decide)
  refine p_run 1 [] [0, 4] (fl' := [(0, pB b1 0), (4, .agg #[.slice (some ⟨b2, 0, none⟩) 2 2])]) (obs := []) trivial hf3 (by kernel_rfl) (by kernel_rfl) .nil fun a4 hf4 => ?_
  refine p_store_eq (i := 4) (j := 1) (b := b1) (off := 0) (vs := [.slice (some ⟨b2, 0, none⟩) 2 2]) (cs' := [.slice (some ⟨b2, 0, none⟩) 2 2]) hS3 hf4 rfl (by kernel_rfl) (by kernel_rfl) rfl fun ww3 a5 hS4 hf5 => ⟨fun _ => trivial, ?_⟩
  refine p_done (by kernel_rfl) ?_
  refine n_then ?_
  refine w_ret (by kernel_rfl) ?_
  obtain ⟨z1, k1, hS5, hx1⟩ := hS4.share (j := 0) rfl
  refine p_ret (os := [.slice (some ⟨b2, 0, none⟩) 2 2]) (v := .agg #[.slice (some ⟨b2, 0, none⟩) 2 2]) (obs := [.cell ⟨b1, 0, none⟩ (.slice (some ⟨b2, 0, none⟩) 2 2)]) hf5 (by kernel_rfl) (.cell (hS5.box (i := 1) rfl (j := 0) rfl) .nil) ?_
  obtain rfl := some_eq hr
  exact ⟨_, rfl, z1, (some ⟨b2, 0, none⟩), 2, k1, rfl, (St.drop 2 hS5), hx1⟩
def F13_j3 (y1 : Bool) : Option (Bool) :=
  (some (y1))
def F13_j2 (fuel : Nat) (r1 : Int × Int × Int) (r2 : Int × Int × Int) (y2 : List Pt) (r3 : Int × Int × Int) (r4 : List Rng × Int) (y3 : Bool) : Option (Bool) :=
  (cond y3 (cond ((r1.1 == (-10 : Int)) && ((r1.2.1 == (15 : Int)) && true)) (cond ((r2.1 == (2 : Int)) && ((r2.2.1 == (9 : Int)) && true)) ((F63 fuel y2 ([⟨5, 3, 6⟩, ⟨10, 6, 11⟩, ⟨20, 11, 16⟩])).bind fun r5 => (cond r5 (cond (r3.1 == (48 : Int)) (cond (r3.2.1 == (77 : Int)) ((F26 fuel r4.1 ([⟨7, 13⟩])).bind fun r6 => (F13_j3 r6)) (F13_j3 false)) (F13_j3 false)) (F13_j3 false))) (F13_j3 false)) (F13_j3 false)) (F13_j3 false))
def F13_j1 (fuel : Nat) (r7 : List Pt) (r1 : Int × Int × Int) (r2 : Int × Int × Int) (y4 : Int) (y2 : List Pt) : Option (Bool) :=
  ((F18 fuel r7 5 11).bind fun r3 => ((F21 fuel r7 6 6).bind fun r4 => (cond (r1.2.2 == (0 : Int)) (cond (r2.2.2 == (0 : Int)) (cond (y4 == (0 : Int)) (cond (r3.2.2 == (0 : Int)) (F13_j2 fuel r1 r2 y2 r3 r4 (r4.2 == (0 : Int))) (F13_j2 fuel r1 r2 y2 r3 r4 false)) (F13_j2 fuel r1 r2 y2 r3 r4 false)) (F13_j2 fuel r1 r2 y2 r3 r4 false)) (F13_j2 fuel r1 r2 y2 r3 r4 false))))
def F13 (fuel : Nat)  : Option (Bool) :=
  ((F76 fuel ).bind fun r7 => ((F39 fuel (-2) 3 4 5).bind fun r1 => ((F19 fuel r7 5 12).bind fun r2 => ((F77 fuel ).bind fun r8 => ((F57 fuel r7 r8).bind fun r9 => (F13_j1 fuel r7 r1 r2 r9.2 r9.1))))))
set_option maxRecDepth 100000 in
theorem f13_ok (fuel : Nat)  (r : Bool) (hr : F13 fuel  = some r) (h : Zone) (L : List Atom) (w : World) (hS : St h L w)  :
    Calls Try.prog 13 #[] w fun e w' => ∃ v, e = .returned v ∧ (∃ h', Zone.le h h' ∧ v = .bool r ∧ St h' L w') := by
  refine calls_intro (N := 97) Try.func13 (by kernel_rfl) fun a hf => ?_
  refine w_seq (by kernel_rfl) ?_
  refine w_reg (by kernel_rfl) ?_
  refine p_run 1 [] [] (fl' := []) (obs := []) trivial hf (by kernel_rfl) (by kernel_rfl) .nil fun a1 hf1 => ?_
  refine p_done (by kernel_rfl) ?_
  refine n_then ?_
  refine w_seq (by kernel_rfl) ?_
  refine w_reg (by kernel_rfl) ?_
  obtain ⟨r7, hd1, hr1⟩ := bind_some hr
  refine p_call (i := 0) (d := some 14) (f := 76) (args := #[]) hf1 (by kernel_rfl) (f76_ok fuel  r7 hd1 h _ _ hS ) ?_
  rintro v1 ww1 a2 ⟨z1, e1, q1, k1, rfl, hS1, hx1⟩ hf2
  refine ⟨fun _ => trivial, ?_⟩
  refine p_box (i := 1) (d := (some 1)) (cs := [.slice none 0 0]) (T := 24) (v := fun b1 => pB b1 0) hS1 hf2 (fun b => by kernel_rfl) fun b1 ww2 a3 hS2 hf3 => ⟨fun _ => trivial, ?_⟩
  refine p_store_eq (i := 2) (j := 0) (b := b1) (off := 0) (vs := [.slice e1 r7.length q1]) (cs' := [.slice e1 r7.length q1]) hS2 hf3 rfl (by kernel_rfl) (by kernel_rfl) rfl fun ww3 a4 hS3 hf4 => ⟨fun _ => trivial, ?_⟩
  refine p_done (by kernel_rfl) ?_
  refine n_then ?_
  refine w_seq (by kernel_rfl) ?_
  refine w_reg (by kernel_rfl) ?_
  refine p_run 2 [] [1, 16, 17] (fl' := [(1, pB b1 0), (16, .agg #[vI (-2), vI 3]), (17, .agg #[vI 4, vI 5])]) (obs := []) trivial hf4 (by kernel_rfl) (by kernel_rfl) .nil fun a5 hf5 => ?_
  obtain ⟨r1, hd2, hr2⟩ := bind_some hr1
  refine p_call (i := 2) (d := some 18) (f := 39) (args := #[.agg #[vI (-2), vI 3], .agg #[vI 4, vI 5]]) hf5 (by kernel_rfl) (f39_ok fuel (-2) 3 4 5 r1 hd2 z1 _ _ hS3 ) ?_
  rintro v2 ww4 a6 ⟨z2, k2, rfl, hS4⟩ hf6
  refine ⟨fun _ => trivial, ?_⟩
  refine p_run 3 [] [1, 19, 20] (fl' := [(1, pB b1 0), (19, .agg #[vI r1.1, vI r1.2.1]), (20, vI r1.2.2)]) (obs := []) trivial hf6 (by kernel_rfl) (by kernel_rfl) .nil fun a7 hf7 => ?_
  refine p_box (i := 6) (d := (some 2)) (cs := [vI 0, vI 0]) (T := 41) (v := fun b2 => pB b2 0) hS4 hf7 (fun b => by kernel_rfl) fun b2 ww5 a8 hS5 hf8 => ⟨fun _ => trivial, ?_⟩
  refine p_store_eq (i := 7) (j := 0) (b := b2) (off := 0) (vs := [vI r1.1, vI r1.2.1]) (cs' := [vI r1.1, vI r1.2.1]) hS5 hf8 rfl (by kernel_rfl) (by kernel_rfl) rfl fun ww6 a9 hS6 hf9 => ⟨fun _ => trivial, ?_⟩
  refine p_run 1 [] [1, 2, 3] (fl' := [(1, pB b1 0), (2, pB b2 0), (3, vI r1.2.2)]) (obs := []) trivial hf9 (by kernel_rfl) (by kernel_rfl) .nil fun a10 hf10 => ?_
  refine p_done (by kernel_rfl) ?_
  refine n_then ?_
  refine w_seq (by kernel_rfl) ?_
  refine w_reg (by kernel_rfl) ?_
  refine p_run 2 [.slice e1 r7.length q1] [1, 2, 3, 22, 23] (fl' := [(1, pB b1 0), (2, pB b2 0), (3, vI r1.2.2), (22, .agg #[.slice e1 r7.length q1]), (23, .agg #[vI 5, vI 12])]) (obs := [.cell ⟨b1, 0, none⟩ (.slice e1 r7.length q1)]) trivial hf10 (by kernel_rfl) (by kernel_rfl) (.cell (hS6.box (i := 1) rfl (j := 0) rfl) .nil) fun a11 hf11 => ?_
  obtain ⟨r2, hd3, hr3⟩ := bind_some hr2
  refine p_call (i := 2) (d := some 24) (f := 19) (args := #[.agg #[.slice e1 r7.length q1], .agg #[vI 5, vI 12]]) hf11 (by kernel_rfl) (f19_ok fuel r7 5 12 r2 hd3 z2 _ _ hS6 e1 q1 (SliceR.mono k2 hx1)) ?_
  rintro v3 ww7 a12 ⟨z3, k3, rfl, hS7⟩ hf12
  refine ⟨fun _ => trivial, ?_⟩
  refine p_run 3 [] [1, 2, 3, 25, 26] (fl' := [(1, pB b1 0), (2, pB b2 0), (3, vI r1.2.2), (25, .agg #[vI r2.1, vI r2.2.1]), (26, vI r2.2.2)]) (obs := []) trivial hf12 (by kernel_rfl) (by kernel_rfl) .nil fun a13 hf13 => ?_
  refine p_box (i := 6) (d := (some 4)) (cs := [vI 0, vI 0]) (T := 41) (v := fun b3 => pB b3 0) hS7 hf13 (fun b => by kernel_rfl) fun b3 ww8 a14 hS8 hf14 => ⟨fun _ => trivial, ?_⟩
  refine p_store_eq (i := 7) (j := 0) (b := b3) (off := 0) (vs := [vI r2.1, vI r2.2.1]) (cs' := [vI r2.1, vI r2.2.1]) hS8 hf14 rfl (by kernel_rfl) (by kernel_rfl) rfl fun ww9 a15 hS9 hf15 => ⟨fun _ => trivial, ?_⟩
  refine p_run 1 [] [1, 2, 3, 4, 5] (fl' := [(1, pB b1 0), (2, pB b2 0), (3, vI r1.2.2), (4, pB b3 0), (5, vI r2.2.2)]) (obs := []) trivial hf15 (by kernel_rfl) (by kernel_rfl) .nil fun a16 hf16 => ?_
  refine p_done (by kernel_rfl) ?_
  refine n_then ?_
  refine w_mid (by kernel_rfl) (fun a w => ∃ z4 : Zone, ∃ y4 : Int, ∃ y2 : List Pt, ∃ b4 : Nat, ∃ e2 : Option Addr, ∃ q2 : Nat, Zone.le z3 z4 ∧ Fr a 97 [(1, pB b1 0), (2, pB b2 0), (3, vI r1.2.2), (4, pB b3 0), (5, vI r2.2.2), (6, pB b4 0), (7, vI y4)] ∧ St z4 (box b4 [.slice e2 y2.length q2] 24 :: box b3 [vI r2.1, vI r2.2.1] 41 :: box b2 [vI r1.1, vI r1.2.1] 41 :: box b1 [.slice e1 r7.length q1] 24 :: L) w ∧ SliceR PtT z4 e2 q2 y2 ∧ (F13_j1 fuel r7 r1 r2 y4 y2) = some r) ?_ ?_
  · skip
    have hS10 := hS9.drew
    have s1 : Sub z3 (box b3 [vI r2.1, vI r2.2.1] 41 :: box b2 [vI r1.1, vI r1.2.1] 41 :: box b1 [.slice e1 r7.length q1] 24 :: L) _ := Sub.of (Zone.le_refl _) hS10
    refine w_regB (by kernel_rfl) [2, 7] (Sub z3 (box b3 [vI r2.1, vI r2.2.1] 41 :: box b2 [vI r1.1, vI r1.2.1] 41 :: box b1 [.slice e1 r7.length q1] 24 :: L)) (by kernel_rfl) ?_
    refine k_seg' 8 [(0, true)] (by kernel_rfl) (by kernel_rfl) (At.start s1) (by kernel_rfl) ?_
    refine p_first 1 [.slice e1 r7.length q1] [1, 2, 3, 4, 5, 28] (fl' := [(1, pB b1 0), (2, pB b2 0), (3, vI r1.2.2), (4, pB b3 0), (5, vI r2.2.2), (28, .agg #[.slice e1 r7.length q1])]) (obs := [.cell ⟨b1, 0, none⟩ (.slice e1 r7.length q1)]) s1 (by kernel_rfl) hf16 (by kernel_rfl) (by kernel_rfl) (fun _ s => (.cell (s.box (i := 2) rfl (j := 0) rfl) .nil)) fun a17 hf17 => ?_
    refine p_done (by kernel_rfl) ?_
    intro hA1
    refine k_any' 7 [1, 6] (by kernel_rfl) hA1 (by kernel_rfl) (by kernel_rfl) ?_
    refine (all_cons ?_ (all_cons ?_ all_nil))
    · skip
      obtain ⟨r8, hd4, hr4⟩ := bind_some hr3
      refine p_call (i := 1) (d := some 29) (f := 77) (args := #[]) hf17 (by kernel_rfl) (f77_ok fuel  r8 hd4 z3 _ _ hS10 ) ?_
      rintro v4 ww10 a18 ⟨z5, e3, q3, k4, rfl, hS11, hx2⟩ hf18
      refine ⟨fun _ => Sub.of k4 hS11, ?_⟩
      refine p_done (by kernel_rfl) ?_
      intro hA2
      refine k_seg' 7 [] (by kernel_rfl) (by kernel_rfl) hA2 (by kernel_rfl) ?_
      refine p_done (by kernel_rfl) ?_
      intro hA3
      refine k_any' 6 [2, 6] (by kernel_rfl) hA3 (by kernel_rfl) (by kernel_rfl) ?_
      refine (all_cons ?_ (all_cons ?_ all_nil))
      · skip
        obtain ⟨r9, hd5, hr5⟩ := bind_some hr4
        refine p_call (i := 2) (d := some 30) (f := 57) (args := #[.agg #[.slice e1 r7.length q1], .agg #[.slice e3 r8.length q3]]) hf18 (by kernel_rfl) (f57_ok fuel r7 r8 r9 hd5 z5 _ _ hS11 e1 q1 (SliceR.mono (Zone.le_trans (Zone.le_trans k2 k3) k4) hx1) e3 q3 hx2) ?_
        rintro v5 ww11 a19 ⟨z6, e4, q4, k5, rfl, hS12, hx3⟩ hf19
        refine ⟨fun e => absurd e (by decide), ?_⟩
        refine p_done (by kernel_rfl) ?_
        intro hA4
        refine k_seg' 0 [(3, true), (4, true), (5, true), (6, false), (7, false), (8, true)] (by kernel_rfl) (by kernel_rfl) hA4 (by kernel_rfl) ?_
        refine p_firstP 3 [] [1, 2, 3, 4, 5, 31, 32] (fl' := [(1, pB b1 0), (2, pB b2 0), (3, vI r1.2.2), (4, pB b3 0), (5, vI r2.2.2), (31, .agg #[.slice e4 r9.1.length q4]), (32, vI r9.2)]) (obs := []) hf19 (by kernel_rfl) (by kernel_rfl) (fun _ => .nil) fun a20 hf20 => ?_
        refine p_box (i := 6) (d := (some 6)) (cs := [.slice none 0 0]) (T := 24) (v := fun b5 => pB b5 0) hS12 hf20 (fun b => by kernel_rfl) fun b5 ww12 a21 hS13 hf21 => ⟨fun _ => Sub.of (Zone.le_trans k4 k5) (St.drop 1 hS13), ?_⟩
        have s2 : Sub z3 (box b3 [vI r2.1, vI r2.2.1] 41 :: box b2 [vI r1.1, vI r1.2.1] 41 :: box b1 [.slice e1 r7.length q1] 24 :: L) _ := Sub.of (Zone.le_trans k4 k5) (St.drop 1 hS13)
        refine p_store_eq (i := 7) (j := 0) (b := b5) (off := 0) (vs := [.slice e4 r9.1.length q4]) (cs' := [.slice e4 r9.1.length q4]) hS13 hf21 rfl (by kernel_rfl) (by kernel_rfl) rfl fun ww13 a22 hS14 hf22 => ⟨fun e => absurd e (by decide), ?_⟩
        refine p_firstP 1 [] [1, 2, 3, 4, 5, 6, 7] (fl' := [(1, pB b1 0), (2, pB b2 0), (3, vI r1.2.2), (4, pB b3 0), (5, vI r2.2.2), (6, pB b5 0), (7, vI r9.2)]) (obs := []) hf22 (by kernel_rfl) (by kernel_rfl) (fun _ => .nil) fun a23 hf23 => ?_
        refine p_done (by kernel_rfl) ?_
        intro hA5
        refine k_done' (by kernel_rfl) (by kernel_rfl) ?_
        refine n_then ?_
        have hf24 := Fr.keep (ks := [1, 2, 3, 4, 5, 6, 7]) (r := [(1, pB b1 0), (2, pB b2 0), (3, vI r1.2.2), (4, pB b3 0), (5, vI r2.2.2), (6, pB b5 0), (7, vI r9.2)]) hf23 (by kernel_rfl)
        exact ⟨z6, r9.2, r9.1, b5, e4, q4, (Zone.le_trans k4 k5), hf24, (St.pick 1 [0] hS14 (by kernel_rfl)), hx3, hr5⟩
      · skip
        refine p_box (i := 6) (d := (some 6)) (cs := [.slice none 0 0]) (T := 24) (v := fun b6 => pB b6 0) hS11 hf18 (fun b => by kernel_rfl) fun b6 ww14 a24 hS15 hf25 => ⟨fun _ => Sub.of k4 (St.drop 1 hS15), ?_⟩
        refine p_done (by kernel_rfl) ?_
        intro hA6
        refine k_seg' 0 [(2, false), (3, true), (4, true), (5, true), (7, false), (8, true)] (by kernel_rfl) (by kernel_rfl) hA6 (by kernel_rfl) ?_
        obtain ⟨r10, hd6, hr6⟩ := bind_some hr4
        refine p_call (i := 2) (d := some 30) (f := 57) (args := #[.agg #[.slice e1 r7.length q1], .agg #[.slice e3 r8.length q3]]) hf25 (by kernel_rfl) (f57_ok fuel r7 r8 r10 hd6 z5 _ _ hS15 e1 q1 (SliceR.mono (Zone.le_trans (Zone.le_trans k2 k3) k4) hx1) e3 q3 hx2) ?_
        rintro v6 ww15 a25 ⟨z7, e5, q5, k6, rfl, hS16, hx4⟩ hf26
        refine ⟨fun e => absurd e (by decide), ?_⟩
        refine p_firstP 3 [] [1, 2, 3, 4, 5, 6, 31, 32] (fl' := [(1, pB b1 0), (2, pB b2 0), (3, vI r1.2.2), (4, pB b3 0), (5, vI r2.2.2), (6, pB b6 0), (31, .agg #[.slice e5 r10.1.length q5]), (32, vI r10.2)]) (obs := []) hf26 (by kernel_rfl) (by kernel_rfl) (fun _ => .nil) fun a26 hf27 => ?_
        refine p_store_eq (i := 7) (j := 0) (b := b6) (off := 0) (vs := [.slice e5 r10.1.length q5]) (cs' := [.slice e5 r10.1.length q5]) hS16 hf27 rfl (by kernel_rfl) (by kernel_rfl) rfl fun ww16 a27 hS17 hf28 => ⟨fun e => absurd e (by decide), ?_⟩
        refine p_firstP 1 [] [1, 2, 3, 4, 5, 6, 7] (fl' := [(1, pB b1 0), (2, pB b2 0), (3, vI r1.2.2), (4, pB b3 0), (5, vI r2.2.2), (6, pB b6 0), (7, vI r10.2)]) (obs := []) hf28 (by kernel_rfl) (by kernel_rfl) (fun _ => .nil) fun a28 hf29 => ?_
        refine p_done (by kernel_rfl) ?_
        intro hA7
        refine k_done' (by kernel_rfl) (by kernel_rfl) ?_
        refine n_then ?_
        have hf30 := Fr.keep (ks := [1, 2, 3, 4, 5, 6, 7]) (r := [(1, pB b1 0), (2, pB b2 0), (3, vI r1.2.2), (4, pB b3 0), (5, vI r2.2.2), (6, pB b6 0), (7, vI r10.2)]) hf29 (by kernel_rfl)
        exact ⟨z7, r10.2, r10.1, b6, e5, q5, (Zone.le_trans k4 k6), hf30, (St.pick 1 [0] hS17 (by kernel_rfl)), hx4, hr6⟩
    · skip
      refine p_box (i := 6) (d := (some 6)) (cs := [.slice none 0 0]) (T := 24) (v := fun b7 => pB b7 0) hS10 hf17 (fun b => by kernel_rfl) fun b7 ww17 a29 hS18 hf31 => ⟨fun _ => Sub.of (Zone.le_refl _) (St.drop 1 hS18), ?_⟩
      refine p_done (by kernel_rfl) ?_
      intro hA8
      refine k_seg' 0 [(1, false), (2, false), (3, true), (4, true), (5, true), (7, false), (8, true)] (by kernel_rfl) (by kernel_rfl) hA8 (by kernel_rfl) ?_
      obtain ⟨r11, hd7, hr7⟩ := bind_some hr3
      refine p_call (i := 1) (d := some 29) (f := 77) (args := #[]) hf31 (by kernel_rfl) (f77_ok fuel  r11 hd7 z3 _ _ hS18 ) ?_
      rintro v7 ww18 a30 ⟨z8, e6, q6, k7, rfl, hS19, hx5⟩ hf32
      refine ⟨fun _ => Sub.of k7 (St.drop 1 hS19), ?_⟩
      have s3 : Sub z3 (box b3 [vI r2.1, vI r2.2.1] 41 :: box b2 [vI r1.1, vI r1.2.1] 41 :: box b1 [.slice e1 r7.length q1] 24 :: L) _ := Sub.of k7 (St.drop 1 hS19)
      obtain ⟨r12, hd8, hr8⟩ := bind_some hr7
      refine p_call (i := 2) (d := some 30) (f := 57) (args := #[.agg #[.slice e1 r7.length q1], .agg #[.slice e6 r11.length q6]]) hf32 (by kernel_rfl) (f57_ok fuel r7 r11 r12 hd8 z8 _ _ hS19 e1 q1 (SliceR.mono (Zone.le_trans (Zone.le_trans k2 k3) k7) hx1) e6 q6 hx5) ?_
      rintro v8 ww19 a31 ⟨z9, e7, q7, k8, rfl, hS20, hx6⟩ hf33
      refine ⟨fun e => absurd e (by decide), ?_⟩
      refine p_firstP 3 [] [1, 2, 3, 4, 5, 6, 31, 32] (fl' := [(1, pB b1 0), (2, pB b2 0), (3, vI r1.2.2), (4, pB b3 0), (5, vI r2.2.2), (6, pB b7 0), (31, .agg #[.slice e7 r12.1.length q7]), (32, vI r12.2)]) (obs := []) hf33 (by kernel_rfl) (by kernel_rfl) (fun _ => .nil) fun a32 hf34 => ?_
      refine p_store_eq (i := 7) (j := 0) (b := b7) (off := 0) (vs := [.slice e7 r12.1.length q7]) (cs' := [.slice e7 r12.1.length q7]) hS20 hf34 rfl (by kernel_rfl) (by kernel_rfl) rfl fun ww20 a33 hS21 hf35 => ⟨fun e => absurd e (by decide), ?_⟩
      refine p_firstP 1 [] [1, 2, 3, 4, 5, 6, 7] (fl' := [(1, pB b1 0), (2, pB b2 0), (3, vI r1.2.2), (4, pB b3 0), (5, vI r2.2.2), (6, pB b7 0), (7, vI r12.2)]) (obs := []) hf35 (by kernel_rfl) (by kernel_rfl) (fun _ => .nil) fun a34 hf36 => ?_
      refine p_done (by kernel_rfl) ?_
      intro hA9
      refine k_done' (by kernel_rfl) (by kernel_rfl) ?_
      refine n_then ?_
      have hf37 := Fr.keep (ks := [1, 2, 3, 4, 5, 6, 7]) (r := [(1, pB b1 0), (2, pB b2 0), (3, vI r1.2.2), (4, pB b3 0), (5, vI r2.2.2), (6, pB b7 0), (7, vI r12.2)]) hf36 (by kernel_rfl)
      exact ⟨z9, r12.2, r12.1, b7, e7, q7, (Zone.le_trans k7 k8), hf37, (St.pick 1 [0] hS21 (by kernel_rfl)), hx6, hr8⟩
  · rintro a35 ww21 ⟨z4, y4, y2, b4, e2, q2, k9, hf38, hS22, hx7, hr9⟩
    refine w_seq (by kernel_rfl) ?_
    refine w_reg (by kernel_rfl) ?_
    refine p_run 1 [.slice e1 r7.length q1] [1, 2, 3, 4, 5, 6, 7, 34] (fl' := [(1, pB b1 0), (2, pB b2 0), (3, vI r1.2.2), (4, pB b3 0), (5, vI r2.2.2), (6, pB b4 0), (7, vI y4), (34, .agg #[.slice e1 r7.length q1])]) (obs := [.cell ⟨b1, 0, none⟩ (.slice e1 r7.length q1)]) trivial hf38 (by kernel_rfl) (by kernel_rfl) (.cell (hS22.box (i := 3) rfl (j := 0) rfl) .nil) fun a36 hf39 => ?_
    obtain ⟨r3, hd9, hr10⟩ := bind_some hr9
    refine p_call (i := 1) (d := some 35) (f := 18) (args := #[.agg #[.slice e1 r7.length q1], vI 5, vI 11]) hf39 (by kernel_rfl) (f18_ok fuel r7 5 11 r3 hd9 z4 _ _ hS22 e1 q1 (SliceR.mono (Zone.le_trans (Zone.le_trans k2 k3) k9) hx1)) ?_
    rintro v9 ww22 a37 ⟨z10, k10, rfl, hS23⟩ hf40
    refine ⟨fun _ => trivial, ?_⟩
    refine p_run 7 [] [1, 2, 3, 4, 5, 6, 7, 8, 9, 10] (fl' := [(1, pB b1 0), (2, pB b2 0), (3, vI r1.2.2), (4, pB b3 0), (5, vI r2.2.2), (6, pB b4 0), (7, vI y4), (8, vI r3.1), (9, vI r3.2.1), (10, vI r3.2.2)]) (obs := []) trivial hf40 (by kernel_rfl) (by kernel_rfl) .nil fun a38 hf41 => ?_
    refine p_done (by kernel_rfl) ?_
    refine n_then ?_
    refine w_seq (by kernel_rfl) ?_
    refine w_reg (by kernel_rfl) ?_
    refine p_run 2 [.slice e1 r7.length q1] [2, 3, 4, 5, 6, 7, 8, 9, 10, 40, 41] (fl' := [(2, pB b2 0), (3, vI r1.2.2), (4, pB b3 0), (5, vI r2.2.2), (6, pB b4 0), (7, vI y4), (8, vI r3.1), (9, vI r3.2.1), (10, vI r3.2.2), (40, .agg #[.slice e1 r7.length q1]), (41, .agg #[vI 6, vI 6])]) (obs := [.cell ⟨b1, 0, none⟩ (.slice e1 r7.length q1)]) trivial hf41 (by kernel_rfl) (by kernel_rfl) (.cell (hS23.box (i := 3) rfl (j := 0) rfl) .nil) fun a39 hf42 => ?_
    obtain ⟨r4, hd10, hr11⟩ := bind_some hr10
    refine p_call (i := 2) (d := some 42) (f := 21) (args := #[.agg #[.slice e1 r7.length q1], .agg #[vI 6, vI 6]]) hf42 (by kernel_rfl) (f21_ok fuel r7 6 6 r4 hd10 z10 _ _ hS23 e1 q1 (SliceR.mono (Zone.le_trans (Zone.le_trans (Zone.le_trans k2 k3) k9) k10) hx1)) ?_
    rintro v10 ww23 a40 ⟨z11, e8, q8, k11, rfl, hS24, hx8⟩ hf43
    refine ⟨fun _ => trivial, ?_⟩
    refine p_run 5 [] [2, 3, 4, 5, 6, 7, 8, 9, 10, 11, 12] (fl' := [(2, pB b2 0), (3, vI r1.2.2), (4, pB b3 0), (5, vI r2.2.2), (6, pB b4 0), (7, vI y4), (8, vI r3.1), (9, vI r3.2.1), (10, vI r3.2.2), (11, .slice e8 r4.1.length q8), (12, vI r4.2)]) (obs := []) trivial hf43 (by kernel_rfl) (by kernel_rfl) .nil fun a41 hf44 => ?_
    refine p_done (by kernel_rfl) ?_
    refine n_then ?_
    refine w_mid (by kernel_rfl) (fun a w => ∃ z12 : Zone, ∃ y3 : Bool, Zone.le z11 z12 ∧ Fr a 97 [(2, pB b2 0), (4, pB b3 0), (6, pB b4 0), (8, vI r3.1), (9, vI r3.2.1), (11, .slice e8 r4.1.length q8), (13, .bool y3)] ∧ St z12 (box b4 [.slice e2 y2.length q2] 24 :: box b3 [vI r2.1, vI r2.2.1] 41 :: box b2 [vI r1.1, vI r1.2.1] 41 :: box b1 [.slice e1 r7.length q1] 24 :: L) w ∧ (F13_j2 fuel r1 r2 y2 r3 r4 y3) = some r) ?_ ?_
    · skip
      refine w_reg (by kernel_rfl) ?_
      refine p_run 3 [] [2, 4, 5, 6, 7, 8, 9, 10, 11, 12, 47] (fl' := [(2, pB b2 0), (4, pB b3 0), (5, vI r2.2.2), (6, pB b4 0), (7, vI y4), (8, vI r3.1), (9, vI r3.2.1), (10, vI r3.2.2), (11, .slice e8 r4.1.length q8), (12, vI r4.2), (47, .bool (r1.2.2 == (0 : Int)))]) (obs := []) trivial hf44 (by kernel_rfl) (by kernel_rfl) .nil fun a42 hf45 => ?_
      rcases Bool.eq_false_or_eq_true (r1.2.2 == (0 : Int)) with hb1 | hb1
      · have hr12 := cond_t hb1 hr11
        have hf46 := Fr.conv hf45 (congrArg (fun z => ([(2, pB b2 0), (4, pB b3 0), (5, vI r2.2.2), (6, pB b4 0), (7, vI y4), (8, vI r3.1), (9, vI r3.2.1), (10, vI r3.2.2), (11, .slice e8 r4.1.length q8), (12, vI r4.2), (47, .bool z)] : FL)) hb1)
        refine p_run 4 [] [2, 4, 6, 7, 8, 9, 10, 11, 12, 51] (fl' := [(2, pB b2 0), (4, pB b3 0), (6, pB b4 0), (7, vI y4), (8, vI r3.1), (9, vI r3.2.1), (10, vI r3.2.2), (11, .slice e8 r4.1.length q8), (12, vI r4.2), (51, .bool (r2.2.2 == (0 : Int)))]) (obs := []) trivial hf46 (by kernel_rfl) (by kernel_rfl) .nil fun a43 hf47 => ?_
        rcases Bool.eq_false_or_eq_true (r2.2.2 == (0 : Int)) with hb2 | hb2
        · have hr13 := cond_t hb2 hr12
          have hf48 := Fr.conv hf47 (congrArg (fun z => ([(2, pB b2 0), (4, pB b3 0), (6, pB b4 0), (7, vI y4), (8, vI r3.1), (9, vI r3.2.1), (10, vI r3.2.2), (11, .slice e8 r4.1.length q8), (12, vI r4.2), (51, .bool z)] : FL)) hb2)
          refine p_run 4 [] [2, 4, 6, 8, 9, 10, 11, 12, 55] (fl' := [(2, pB b2 0), (4, pB b3 0), (6, pB b4 0), (8, vI r3.1), (9, vI r3.2.1), (10, vI r3.2.2), (11, .slice e8 r4.1.length q8), (12, vI r4.2), (55, .bool (y4 == (0 : Int)))]) (obs := []) trivial hf48 (by kernel_rfl) (by kernel_rfl) .nil fun a44 hf49 => ?_
          rcases Bool.eq_false_or_eq_true (y4 == (0 : Int)) with hb3 | hb3
          · have hr14 := cond_t hb3 hr13
            have hf50 := Fr.conv hf49 (congrArg (fun z => ([(2, pB b2 0), (4, pB b3 0), (6, pB b4 0), (8, vI r3.1), (9, vI r3.2.1), (10, vI r3.2.2), (11, .slice e8 r4.1.length q8), (12, vI r4.2), (55, .bool z)] : FL)) hb3)
            refine p_run 4 [] [2, 4, 6, 8, 9, 11, 12, 59] (fl' := [(2, pB b2 0), (4, pB b3 0), (6, pB b4 0), (8, vI r3.1), (9, vI r3.2.1), (11, .slice e8 r4.1.length q8), (12, vI r4.2), (59, .bool (r3.2.2 == (0 : Int)))]) (obs := []) trivial hf50 (by kernel_rfl) (by kernel_rfl) .nil fun a45 hf51 => ?_
            rcases Bool.eq_false_or_eq_true (r3.2.2 == (0 : Int)) with hb4 | hb4
            · have hr15 := cond_t hb4 hr14
              have hf52 := Fr.conv hf51 (congrArg (fun z => ([(2, pB b2 0), (4, pB b3 0), (6, pB b4 0), (8, vI r3.1), (9, vI r3.2.1), (11, .slice e8 r4.1.length q8), (12, vI r4.2), (59, .bool z)] : FL)) hb4)
              refine p_run 4 [] [2, 4, 6, 8, 9, 11, 13] (fl' := [(2, pB b2 0), (4, pB b3 0), (6, pB b4 0), (8, vI r3.1), (9, vI r3.2.1), (11, .slice e8 r4.1.length q8), (13, .bool (r4.2 == (0 : Int)))]) (obs := []) trivial hf52 (by kernel_rfl) (by kernel_rfl) .nil fun a46 hf53 => ?_
              refine p_done (by kernel_rfl) ?_
              refine n_then ?_
              have hf54 := Fr.keep (ks := [2, 4, 6, 8, 9, 11, 13]) (r := [(2, pB b2 0), (4, pB b3 0), (6, pB b4 0), (8, vI r3.1), (9, vI r3.2.1), (11, .slice e8 r4.1.length q8), (13, .bool (r4.2 == (0 : Int)))]) hf53 (by kernel_rfl)
              exact ⟨z11, (r4.2 == (0 : Int)), (Zone.le_refl _), hf54, hS24, hr15⟩
            · have hr16 := cond_f hb4 hr14
              have hf55 := Fr.conv hf51 (congrArg (fun z => ([(2, pB b2 0), (4, pB b3 0), (6, pB b4 0), (8, vI r3.1), (9, vI r3.2.1), (11, .slice e8 r4.1.length q8), (12, vI r4.2), (59, .bool z)] : FL)) hb4)
              refine p_run 4 [] [2, 4, 6, 8, 9, 11, 13] (fl' := [(2, pB b2 0), (4, pB b3 0), (6, pB b4 0), (8, vI r3.1), (9, vI r3.2.1), (11, .slice e8 r4.1.length q8), (13, .bool false)]) (obs := []) trivial hf55 (by kernel_rfl) (by kernel_rfl) .nil fun a47 hf56 => ?_
              refine p_done (by kernel_rfl) ?_
              refine n_then ?_
              have hf57 := Fr.keep (ks := [2, 4, 6, 8, 9, 11, 13]) (r := [(2, pB b2 0), (4, pB b3 0), (6, pB b4 0), (8, vI r3.1), (9, vI r3.2.1), (11, .slice e8 r4.1.length q8), (13, .bool false)]) hf56 (by kernel_rfl)
              exact ⟨z11, false, (Zone.le_refl _), hf57, hS24, hr16⟩
          · have hr17 := cond_f hb3 hr13
            have hf58 := Fr.conv hf49 (congrArg (fun z => ([(2, pB b2 0), (4, pB b3 0), (6, pB b4 0), (8, vI r3.1), (9, vI r3.2.1), (10, vI r3.2.2), (11, .slice e8 r4.1.length q8), (12, vI r4.2), (55, .bool z)] : FL)) hb3)
            refine p_run 8 [] [2, 4, 6, 8, 9, 11, 13] (fl' := [(2, pB b2 0), (4, pB b3 0), (6, pB b4 0), (8, vI r3.1), (9, vI r3.2.1), (11, .slice e8 r4.1.length q8), (13, .bool false)]) (obs := []) trivial hf58 (by kernel_rfl) (by kernel_rfl) .nil fun a48 hf59 => ?_
            refine p_done (by kernel_rfl) ?_
            refine n_then ?_
            have hf60 := Fr.keep (ks := [2, 4, 6, 8, 9, 11, 13]) (r := [(2, pB b2 0), (4, pB b3 0), (6, pB b4 0), (8, vI r3.1), (9, vI r3.2.1), (11, .slice e8 r4.1.length q8), (13, .bool false)]) hf59 (by kernel_rfl)
            exact ⟨z11, false, (Zone.le_refl _), hf60, hS24, hr17⟩
        · have hr18 := cond_f hb2 hr12
          have hf61 := Fr.conv hf47 (congrArg (fun z => ([(2, pB b2 0), (4, pB b3 0), (6, pB b4 0), (7, vI y4), (8, vI r3.1), (9, vI r3.2.1), (10, vI r3.2.2), (11, .slice e8 r4.1.length q8), (12, vI r4.2), (51, .bool z)] : FL)) hb2)
          refine p_run 12 [] [2, 4, 6, 8, 9, 11, 13] (fl' := [(2, pB b2 0), (4, pB b3 0), (6, pB b4 0), (8, vI r3.1), (9, vI r3.2.1), (11, .slice e8 r4.1.length q8), (13, .bool false)]) (obs := []) trivial hf61 (by kernel_rfl) (by kernel_rfl) .nil fun a49 hf62 => ?_
          refine p_done (by kernel_rfl) ?_
          refine n_then ?_
          have hf63 := Fr.keep (ks := [2, 4, 6, 8, 9, 11, 13]) (r := [(2, pB b2 0), (4, pB b3 0), (6, pB b4 0), (8, vI r3.1), (9, vI r3.2.1), (11, .slice e8 r4.1.length q8), (13, .bool false)]) hf62 (by kernel_rfl)
          exact ⟨z11, false, (Zone.le_refl _), hf63, hS24, hr18⟩
      · have hr19 := cond_f hb1 hr11
        have hf64 := Fr.conv hf45 (congrArg (fun z => ([(2, pB b2 0), (4, pB b3 0), (5, vI r2.2.2), (6, pB b4 0), (7, vI y4), (8, vI r3.1), (9, vI r3.2.1), (10, vI r3.2.2), (11, .slice e8 r4.1.length q8), (12, vI r4.2), (47, .bool z)] : FL)) hb1)
        refine p_run 16 [] [2, 4, 6, 8, 9, 11, 13] (fl' := [(2, pB b2 0), (4, pB b3 0), (6, pB b4 0), (8, vI r3.1), (9, vI r3.2.1), (11, .slice e8 r4.1.length q8), (13, .bool false)]) (obs := []) trivial hf64 (by kernel_rfl) (by kernel_rfl) .nil fun a50 hf65 => ?_
        refine p_done (by kernel_rfl) ?_
        refine n_then ?_
        have hf66 := Fr.keep (ks := [2, 4, 6, 8, 9, 11, 13]) (r := [(2, pB b2 0), (4, pB b3 0), (6, pB b4 0), (8, vI r3.1), (9, vI r3.2.1), (11, .slice e8 r4.1.length q8), (13, .bool false)]) hf65 (by kernel_rfl)
        exact ⟨z11, false, (Zone.le_refl _), hf66, hS24, hr19⟩
    · rintro a51 ww24 ⟨z12, y3, k12, hf67, hS25, hr20⟩
      refine w_mid (by kernel_rfl) (fun a w => ∃ z13 : Zone, ∃ y1 : Bool, Zone.le z12 z13 ∧ Fr a 97 [(0, .bool y1)] ∧ St z13 (box b4 [.slice e2 y2.length q2] 24 :: box b3 [vI r2.1, vI r2.2.1] 41 :: box b2 [vI r1.1, vI r1.2.1] 41 :: box b1 [.slice e1 r7.length q1] 24 :: L) w ∧ (F13_j3 y1) = some r) ?_ ?_
      · skip
        refine w_reg (by kernel_rfl) ?_
        refine p_run 2 [] [2, 4, 6, 8, 9, 11, 64] (fl' := [(2, pB b2 0), (4, pB b3 0), (6, pB b4 0), (8, vI r3.1), (9, vI r3.2.1), (11, .slice e8 r4.1.length q8), (64, .bool y3)]) (obs := []) trivial hf67 (by kernel_rfl) (by kernel_rfl) .nil fun a52 hf68 => ?_
        rcases Bool.eq_false_or_eq_true y3 with hb5 | hb5
        · have hr21 := cond_t hb5 hr20
          have hf69 := Fr.conv hf68 (congrArg (fun z => ([(2, pB b2 0), (4, pB b3 0), (6, pB b4 0), (8, vI r3.1), (9, vI r3.2.1), (11, .slice e8 r4.1.length q8), (64, .bool z)] : FL)) hb5)
          refine p_run 5 [vI r1.1, vI r1.2.1] [4, 6, 8, 9, 11, 69] (fl' := [(4, pB b3 0), (6, pB b4 0), (8, vI r3.1), (9, vI r3.2.1), (11, .slice e8 r4.1.length q8), (69, .bool ((r1.1 == (-10 : Int)) && ((r1.2.1 == (15 : Int)) && true)))]) (obs := [.cell ⟨b2, 0, none⟩ (vI r1.1), .cell ⟨b2, 1, none⟩ (vI r1.2.1)]) trivial hf69 (by kernel_rfl) (by kernel_rfl) (.cell (hS25.box (i := 2) rfl (j := 0) rfl) (.cell (hS25.box (i := 2) rfl (j := 1) rfl) .nil)) fun a53 hf70 => ?_
          rcases Bool.eq_false_or_eq_true ((r1.1 == (-10 : Int)) && ((r1.2.1 == (15 : Int)) && true)) with hb6 | hb6
          · have hr22 := cond_t hb6 hr21
            have hf71 := Fr.conv hf70 (congrArg (fun z => ([(4, pB b3 0), (6, pB b4 0), (8, vI r3.1), (9, vI r3.2.1), (11, .slice e8 r4.1.length q8), (69, .bool z)] : FL)) hb6)
            refine p_run 5 [vI r2.1, vI r2.2.1] [6, 8, 9, 11, 74] (fl' := [(6, pB b4 0), (8, vI r3.1), (9, vI r3.2.1), (11, .slice e8 r4.1.length q8), (74, .bool ((r2.1 == (2 : Int)) && ((r2.2.1 == (9 : Int)) && true)))]) (obs := [.cell ⟨b3, 0, none⟩ (vI r2.1), .cell ⟨b3, 1, none⟩ (vI r2.2.1)]) trivial hf71 (by kernel_rfl) (by kernel_rfl) (.cell (hS25.box (i := 1) rfl (j := 0) rfl) (.cell (hS25.box (i := 1) rfl (j := 1) rfl) .nil)) fun a54 hf72 => ?_
            rcases Bool.eq_false_or_eq_true ((r2.1 == (2 : Int)) && ((r2.2.1 == (9 : Int)) && true)) with hb7 | hb7
            · have hr23 := cond_t hb7 hr22
              have hf73 := Fr.conv hf72 (congrArg (fun z => ([(6, pB b4 0), (8, vI r3.1), (9, vI r3.2.1), (11, .slice e8 r4.1.length q8), (74, .bool z)] : FL)) hb7)
              refine p_run 4 [.slice e2 y2.length q2] [8, 9, 11, 74, 75, 76, 77, 78] (fl' := [(8, vI r3.1), (9, vI r3.2.1), (11, .slice e8 r4.1.length q8), (74, .bool true), (75, .agg #[.slice e2 y2.length q2]), (76, .agg #[vI 5, vI 3, vI 6]), (77, .agg #[vI 10, vI 6, vI 11]), (78, .agg #[vI 20, vI 11, vI 16])]) (obs := [.cell ⟨b4, 0, none⟩ (.slice e2 y2.length q2)]) trivial hf73 (by kernel_rfl) (by kernel_rfl) (.cell (hS25.box (i := 0) rfl (j := 0) rfl) .nil) fun a55 hf74 => ?_
              refine p_box (i := 16) (d := (some 79)) (cs := [vI 5, vI 3, vI 6, vI 10, vI 6, vI 11, vI 20, vI 11, vI 16]) (T := 52) (v := fun b8 => .slice (some ⟨b8, 0, none⟩) 3 3) hS25 hf74 (fun b => by kernel_rfl) fun b8 ww25 a56 hS26 hf75 => ⟨fun _ => trivial, ?_⟩
              have hS27 := hS26.ownBox (T := PtT) (E := 52) (n := 3) (xs := [⟨5, 3, 6⟩, ⟨10, 6, 11⟩, ⟨20, 11, 16⟩]) (i := 0) rfl (Rows.cons (c := [vI 5, vI 3, vI 6]) rfl (Rows.cons (c := [vI 10, vI 6, vI 11]) rfl (Rows.cons (c := [vI 20, vI 11, vI 16]) rfl rfl))) rfl (by decide)
              refine p_run 1 [] [8, 9, 11, 74, 75, 80] (fl' := [(8, vI r3.1), (9, vI r3.2.1), (11, .slice e8 r4.1.length q8), (74, .bool true), (75, .agg #[.slice e2 y2.length q2]), (80, .agg #[.slice (some ⟨b8, 0, none⟩) 3 3])]) (obs := []) trivial hf75 (by kernel_rfl) (by kernel_rfl) .nil fun a57 hf76 => ?_
              obtain ⟨z14, k13, hS28, hx9⟩ := hS27.share (j := 0) rfl
              obtain ⟨r5, hd11, hr24⟩ := bind_some hr23
              refine p_call (i := 18) (d := some 81) (f := 63) (args := #[.agg #[.slice e2 y2.length q2], .agg #[.slice (some ⟨b8, 0, none⟩) 3 3]]) hf76 (by kernel_rfl) (f63_ok fuel y2 ([⟨5, 3, 6⟩, ⟨10, 6, 11⟩, ⟨20, 11, 16⟩]) r5 hd11 z14 _ _ hS28 e2 q2 (SliceR.mono (Zone.le_trans (Zone.le_trans (Zone.le_trans k10 k11) k12) k13) hx7) (some ⟨b8, 0, none⟩) 3 hx9) ?_
              rintro v11 ww26 a58 ⟨z15, k14, rfl, hS29⟩ hf77
              refine ⟨fun _ => trivial, ?_⟩
              refine p_run 2 [] [8, 9, 11, 83] (fl' := [(8, vI r3.1), (9, vI r3.2.1), (11, .slice e8 r4.1.length q8), (83, .bool r5)]) (obs := []) trivial hf77 (by kernel_rfl) (by kernel_rfl) .nil fun a59 hf78 => ?_
              rcases Bool.eq_false_or_eq_true r5 with hb8 | hb8
              · have hr25 := cond_t hb8 hr24
                have hf79 := Fr.conv hf78 (congrArg (fun z => ([(8, vI r3.1), (9, vI r3.2.1), (11, .slice e8 r4.1.length q8), (83, .bool z)] : FL)) hb8)
                refine p_run 4 [] [9, 11, 87] (fl' := [(9, vI r3.2.1), (11, .slice e8 r4.1.length q8), (87, .bool (r3.1 == (48 : Int)))]) (obs := []) trivial hf79 (by kernel_rfl) (by kernel_rfl) .nil fun a60 hf80 => ?_
                rcases Bool.eq_false_or_eq_true (r3.1 == (48 : Int)) with hb9 | hb9
                · have hr26 := cond_t hb9 hr25
                  have hf81 := Fr.conv hf80 (congrArg (fun z => ([(9, vI r3.2.1), (11, .slice e8 r4.1.length q8), (87, .bool z)] : FL)) hb9)
                  refine p_run 4 [] [11, 91] (fl' := [(11, .slice e8 r4.1.length q8), (91, .bool (r3.2.1 == (77 : Int)))]) (obs := []) trivial hf81 (by kernel_rfl) (by kernel_rfl) .nil fun a61 hf82 => ?_
                  rcases Bool.eq_false_or_eq_true (r3.2.1 == (77 : Int)) with hb10 | hb10
                  · have hr27 := cond_t hb10 hr26
                    have hf83 := Fr.conv hf82 (congrArg (fun z => ([(11, .slice e8 r4.1.length q8), (91, .bool z)] : FL)) hb10)
                    refine p_run 2 [] [91, 92, 93] (fl' := [(91, .bool true), (92, .slice e8 r4.1.length q8), (93, .agg #[vI 7, vI 13])]) (obs := []) trivial hf83 (by kernel_rfl) (by kernel_rfl) .nil fun a62 hf84 => ?_
                    refine p_box (i := 31) (d := (some 94)) (cs := [vI 7, vI 13]) (T := 41) (v := fun b9 => .slice (some ⟨b9, 0, none⟩) 1 1) hS29 hf84 (fun b => by kernel_rfl) fun b9 ww27 a63 hS30 hf85 => ⟨fun _ => trivial, ?_⟩
                    have hS31 := hS30.ownBox (T := RngT) (E := 41) (n := 1) (xs := [⟨7, 13⟩]) (i := 0) rfl (Rows.cons (c := [vI 7, vI 13]) rfl rfl) rfl (by decide)
                    obtain ⟨z16, k15, hS32, hx10⟩ := hS31.share (j := 0) rfl
                    obtain ⟨r6, hd12, hr28⟩ := bind_some hr27
                    refine p_call (i := 32) (d := some 95) (f := 26) (args := #[.slice e8 r4.1.length q8, .slice (some ⟨b9, 0, none⟩) 1 1]) hf85 (by kernel_rfl) (f26_ok fuel r4.1 ([⟨7, 13⟩]) r6 hd12 z16 _ _ hS32 e8 q8 (SliceR.mono (Zone.le_trans (Zone.le_trans (Zone.le_trans k12 k13) k14) k15) hx8) (some ⟨b9, 0, none⟩) 1 hx10) ?_
                    rintro v12 ww28 a64 ⟨z17, k16, rfl, hS33⟩ hf86
                    refine ⟨fun _ => trivial, ?_⟩
                    refine p_run 2 [] [0] (fl' := [(0, .bool r6)]) (obs := []) trivial hf86 (by kernel_rfl) (by kernel_rfl) .nil fun a65 hf87 => ?_
                    refine p_done (by kernel_rfl) ?_
                    refine n_then ?_
                    have hf88 := Fr.keep (ks := [0]) (r := [(0, .bool r6)]) hf87 (by kernel_rfl)
                    exact ⟨z17, r6, (Zone.le_trans (Zone.le_trans (Zone.le_trans k13 k14) k15) k16), hf88, (St.drop 2 hS33), hr28⟩
                  · have hr29 := cond_f hb10 hr26
                    have hf89 := Fr.conv hf82 (congrArg (fun z => ([(11, .slice e8 r4.1.length q8), (91, .bool z)] : FL)) hb10)
                    refine p_run 2 [] [91, 92, 93] (fl' := [(91, .bool false), (92, undef), (93, undef)]) (obs := []) trivial hf89 (by kernel_rfl) (by kernel_rfl) .nil fun a66 hf90 => ?_
                    refine p_run 1 [] [91, 92, 93, 94] (fl' := [(91, .bool false), (92, undef), (93, undef), (94, undef)]) (obs := []) trivial hf90 (by kernel_rfl) (by kernel_rfl) .nil fun a67 hf91 => ?_
                    refine p_run 1 [] [91, 92, 93, 94, 95] (fl' := [(91, .bool false), (92, undef), (93, undef), (94, undef), (95, undef)]) (obs := []) trivial hf91 (by kernel_rfl) (by kernel_rfl) .nil fun a68 hf92 => ?_
                    refine p_run 2 [] [0] (fl' := [(0, .bool false)]) (obs := []) trivial hf92 (by kernel_rfl) (by kernel_rfl) .nil fun a69 hf93 => ?_
                    refine p_done (by kernel_rfl) ?_
                    refine n_then ?_
                    have hf94 := Fr.keep (ks := [0]) (r := [(0, .bool false)]) hf93 (by kernel_rfl)
                    exact ⟨z15, false, (Zone.le_trans k13 k14), hf94, (St.drop 1 hS29), hr29⟩
                · have hr30 := cond_f hb9 hr25
                  have hf95 := Fr.conv hf80 (congrArg (fun z => ([(9, vI r3.2.1), (11, .slice e8 r4.1.length q8), (87, .bool z)] : FL)) hb9)
                  refine p_run 6 [] [91, 92, 93] (fl' := [(91, .bool false), (92, undef), (93, undef)]) (obs := []) trivial hf95 (by kernel_rfl) (by kernel_rfl) .nil fun a70 hf96 => ?_
                  refine p_run 1 [] [91, 92, 93, 94] (fl' := [(91, .bool false), (92, undef), (93, undef), (94, undef)]) (obs := []) trivial hf96 (by kernel_rfl) (by kernel_rfl) .nil fun a71 hf97 => ?_
                  refine p_run 1 [] [91, 92, 93, 94, 95] (fl' := [(91, .bool false), (92, undef), (93, undef), (94, undef), (95, undef)]) (obs := []) trivial hf97 (by kernel_rfl) (by kernel_rfl) .nil fun a72 hf98 => ?_
                  refine p_run 2 [] [0] (fl' := [(0, .bool false)]) (obs := []) trivial hf98 (by kernel_rfl) (by kernel_rfl) .nil fun a73 hf99 => ?_
                  refine p_done (by kernel_rfl) ?_
                  refine n_then ?_
                  have hf100 := Fr.keep (ks := [0]) (r := [(0, .bool false)]) hf99 (by kernel_rfl)
                  exact ⟨z15, false, (Zone.le_trans k13 k14), hf100, (St.drop 1 hS29), hr30⟩
              · have hr31 := cond_f hb8 hr24
                have hf101 := Fr.conv hf78 (congrArg (fun z => ([(8, vI r3.1), (9, vI r3.2.1), (11, .slice e8 r4.1.length q8), (83, .bool z)] : FL)) hb8)
                refine p_run 10 [] [91, 92, 93] (fl' := [(91, .bool false), (92, undef), (93, undef)]) (obs := []) trivial hf101 (by kernel_rfl) (by kernel_rfl) .nil fun a74 hf102 => ?_
                refine p_run 1 [] [91, 92, 93, 94] (fl' := [(91, .bool false), (92, undef), (93, undef), (94, undef)]) (obs := []) trivial hf102 (by kernel_rfl) (by kernel_rfl) .nil fun a75 hf103 => ?_
                refine p_run 1 [] [91, 92, 93, 94, 95] (fl' := [(91, .bool false), (92, undef), (93, undef), (94, undef), (95, undef)]) (obs := []) trivial hf103 (by kernel_rfl) (by kernel_rfl) .nil fun a76 hf104 => ?_
                refine p_run 2 [] [0] (fl' := [(0, .bool false)]) (obs := []) trivial hf104 (by kernel_rfl) (by kernel_rfl) .nil fun a77 hf105 => ?_
                refine p_done (by kernel_rfl) ?_
                refine n_then ?_
                have hf106 := Fr.keep (ks := [0]) (r := [(0, .bool false)]) hf105 (by kernel_rfl)
                exact ⟨z15, false, (Zone.le_trans k13 k14), hf106, (St.drop 1 hS29), hr31⟩
            · have hr32 := cond_f hb7 hr22
              have hf107 := Fr.conv hf72 (congrArg (fun z => ([(6, pB b4 0), (8, vI r3.1), (9, vI r3.2.1), (11, .slice e8 r4.1.length q8), (74, .bool z)] : FL)) hb7)
              refine p_run 4 [] [8, 9, 11, 74, 75, 76, 77, 78] (fl' := [(8, vI r3.1), (9, vI r3.2.1), (11, .slice e8 r4.1.length q8), (74, .bool false), (75, undef), (76, undef), (77, undef), (78, undef)]) (obs := []) trivial hf107 (by kernel_rfl) (by kernel_rfl) .nil fun a78 hf108 => ?_
              refine p_run 1 [] [8, 9, 11, 74, 75, 76, 77, 78, 79] (fl' := [(8, vI r3.1), (9, vI r3.2.1), (11, .slice e8 r4.1.length q8), (74, .bool false), (75, undef), (76, undef), (77, undef), (78, undef), (79, undef)]) (obs := []) trivial hf108 (by kernel_rfl) (by kernel_rfl) .nil fun a79 hf109 => ?_
              refine p_run 1 [] [8, 9, 11, 74, 75, 80] (fl' := [(8, vI r3.1), (9, vI r3.2.1), (11, .slice e8 r4.1.length q8), (74, .bool false), (75, undef), (80, undef)]) (obs := []) trivial hf109 (by kernel_rfl) (by kernel_rfl) .nil fun a80 hf110 => ?_
              refine p_run 1 [] [8, 9, 11, 74, 75, 80, 81] (fl' := [(8, vI r3.1), (9, vI r3.2.1), (11, .slice e8 r4.1.length q8), (74, .bool false), (75, undef), (80, undef), (81, undef)]) (obs := []) trivial hf110 (by kernel_rfl) (by kernel_rfl) .nil fun a81 hf111 => ?_
              refine p_run 12 [] [91, 92, 93] (fl' := [(91, .bool false), (92, undef), (93, undef)]) (obs := []) trivial hf111 (by kernel_rfl) (by kernel_rfl) .nil fun a82 hf112 => ?_
              refine p_run 1 [] [91, 92, 93, 94] (fl' := [(91, .bool false), (92, undef), (93, undef), (94, undef)]) (obs := []) trivial hf112 (by kernel_rfl) (by kernel_rfl) .nil fun a83 hf113 => ?_
              refine p_run 1 [] [91, 92, 93, 94, 95] (fl' := [(91, .bool false), (92, undef), (93, undef), (94, undef), (95, undef)]) (obs := []) trivial hf113 (by kernel_rfl) (by kernel_rfl) .nil fun a84 hf114 => ?_
              refine p_run 2 [] [0] (fl' := [(0, .bool false)]) (obs := []) trivial hf114 (by kernel_rfl) (by kernel_rfl) .nil fun a85 hf115 => ?_
              refine p_done (by kernel_rfl) ?_
              refine n_then ?_
              have hf116 := Fr.keep (ks := [0]) (r := [(0, .bool false)]) hf115 (by kernel_rfl)
              exact ⟨z12, false, (Zone.le_refl _), hf116, hS25, hr32⟩
          · have hr33 := cond_f hb6 hr21
            have hf117 := Fr.conv hf70 (congrArg (fun z => ([(4, pB b3 0), (6, pB b4 0), (8, vI r3.1), (9, vI r3.2.1), (11, .slice e8 r4.1.length q8), (69, .bool z)] : FL)) hb6)
            refine p_run 9 [] [8, 9, 11, 74, 75, 76, 77, 78] (fl' := [(8, vI r3.1), (9, vI r3.2.1), (11, .slice e8 r4.1.length q8), (74, .bool false), (75, undef), (76, undef), (77, undef), (78, undef)]) (obs := []) trivial hf117 (by kernel_rfl) (by kernel_rfl) .nil fun a86 hf118 => ?_
            refine p_run 1 [] [8, 9, 11, 74, 75, 76, 77, 78, 79] (fl' := [(8, vI r3.1), (9, vI r3.2.1), (11, .slice e8 r4.1.length q8), (74, .bool false), (75, undef), (76, undef), (77, undef), (78, undef), (79, undef)]) (obs := []) trivial hf118 (by kernel_rfl) (by kernel_rfl) .nil fun a87 hf119 => ?_
            refine p_run 1 [] [8, 9, 11, 74, 75, 80] (fl' := [(8, vI r3.1), (9, vI r3.2.1), (11, .slice e8 r4.1.length q8), (74, .bool false), (75, undef), (80, undef)]) (obs := []) trivial hf119 (by kernel_rfl) (by kernel_rfl) .nil fun a88 hf120 => ?_
            refine p_run 1 [] [8, 9, 11, 74, 75, 80, 81] (fl' := [(8, vI r3.1), (9, vI r3.2.1), (11, .slice e8 r4.1.length q8), (74, .bool false), (75, undef), (80, undef), (81, undef)]) (obs := []) trivial hf120 (by kernel_rfl) (by kernel_rfl) .nil fun a89 hf121 => ?_
            refine p_run 12 [] [91, 92, 93] (fl' := [(91, .bool false), (92, undef), (93, undef)]) (obs := []) trivial hf121 (by kernel_rfl) (by kernel_rfl) .nil fun a90 hf122 => ?_
            refine p_run 1 [] [91, 92, 93, 94] (fl' := [(91, .bool false), (92, undef), (93, undef), (94, undef)]) (obs := []) trivial hf122 (by kernel_rfl) (by kernel_rfl) .nil fun a91 hf123 => ?_
            refine p_run 1 [] [91, 92, 93, 94, 95] (fl' := [(91, .bool false), (92, undef), (93, undef), (94, undef), (95, undef)]) (obs := []) trivial hf123 (by kernel_rfl) (by kernel_rfl) .nil fun a92 hf124 => ?_
            refine p_run 2 [] [0] (fl' := [(0, .bool false)]) (obs := []) trivial hf124 (by kernel_rfl) (by kernel_rfl) .nil fun a93 hf125 => ?_
            refine p_done (by kernel_rfl) ?_
            refine n_then ?_
            have hf126 := Fr.keep (ks := [0]) (r := [(0, .bool false)]) hf125 (by kernel_rfl)
            exact ⟨z12, false, (Zone.le_refl _), hf126, hS25, hr33⟩
        · have hr34 := cond_f hb5 hr20
          have hf127 := Fr.conv hf68 (congrArg (fun z => ([(2, pB b2 0), (4, pB b3 0), (6, pB b4 0), (8, vI r3.1), (9, vI r3.2.1), (11, .slice e8 r4.1.length q8), (64, .bool z)] : FL)) hb5)
          refine p_run 14 [] [8, 9, 11, 74, 75, 76, 77, 78] (fl' := [(8, vI r3.1), (9, vI r3.2.1), (11, .slice e8 r4.1.length q8), (74, .bool false), (75, undef), (76, undef), (77, undef), (78, undef)]) (obs := []) trivial hf127 (by kernel_rfl) (by kernel_rfl) .nil fun a94 hf128 => ?_
          refine p_run 1 [] [8, 9, 11, 74, 75, 76, 77, 78, 79] (fl' := [(8, vI r3.1), (9, vI r3.2.1), (11, .slice e8 r4.1.length q8), (74, .bool false), (75, undef), (76, undef), (77, undef), (78, undef), (79, undef)]) (obs := []) trivial hf128 (by kernel_rfl) (by kernel_rfl) .nil fun a95 hf129 => ?_
          refine p_run 1 [] [8, 9, 11, 74, 75, 80] (fl' := [(8, vI r3.1), (9, vI r3.2.1), (11, .slice e8 r4.1.length q8), (74, .bool false), (75, undef), (80, undef)]) (obs := []) trivial hf129 (by kernel_rfl) (by kernel_rfl) .nil fun a96 hf130 => ?_
          refine p_run 1 [] [8, 9, 11, 74, 75, 80, 81] (fl' := [(8, vI r3.1), (9, vI r3.2.1), (11, .slice e8 r4.1.length q8), (74, .bool false), (75, undef), (80, undef), (81, undef)]) (obs := []) trivial hf130 (by kernel_rfl) (by kernel_rfl) .nil fun a97 hf131 => ?_
          refine p_run 12 [] [91, 92, 93] (fl' := [(91, .bool false), (92, undef), (93, undef)]) (obs := []) trivial hf131 (by kernel_rfl) (by kernel_rfl) .nil fun a98 hf132 => ?_
          refine p_run 1 [] [91, 92, 93, 94] (fl' := [(91, .bool false), (92, undef), (93, undef), (94, undef)]) (obs := []) trivial hf132 (by kernel_rfl) (by kernel_rfl) .nil fun a99 hf133 => ?_
          refine p_run 1 [] [91, 92, 93, 94, 95] (fl' := [(91, .bool false), (92, undef), (93, undef), (94, undef), (95, undef)]) (obs := []) trivial hf133 (by kernel_rfl) (by kernel_rfl) .nil fun a100 hf134 => ?_
          refine p_run 2 [] [0] (fl' := [(0, .bool false)]) (obs := []) trivial hf134 (by kernel_rfl) (by kernel_rfl) .nil fun a101 hf135 => ?_
          refine p_done (by kernel_rfl) ?_
          refine n_then ?_
          have hf136 := Fr.keep (ks := [0]) (r := [(0, .bool false)]) hf135 (by kernel_rfl)
          exact ⟨z12, false, (Zone.le_refl _), hf136, hS25, hr34⟩
      · rintro a102 ww29 ⟨z13, y1, k17, hf137, hS34, hr35⟩
        refine w_ret (by kernel_rfl) ?_
        refine p_ret (os := []) (v := .bool y1) (obs := []) hf137 (by kernel_rfl) .nil ?_
        obtain rfl := some_eq hr35
        exact ⟨_, rfl, z13, (Zone.le_trans (Zone.le_trans (Zone.le_trans (Zone.le_trans (Zone.le_trans (Zone.le_trans (Zone.le_trans k1 k2) k3) k9) k10) k11) k12) k17), rfl, (St.drop 4 hS34)⟩
end Go.Proofs.Ytpjmgeajajcceaa

