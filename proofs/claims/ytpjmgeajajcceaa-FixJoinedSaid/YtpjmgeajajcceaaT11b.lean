/-
  The walks of functions 12, 73, 74, 14, 80, 16, 17, 27, 100, 30, 32, 36, 114, 59, 40, 61, 65, 72, 75, 11: what the code does is what a plain function computes. No condition.
-/
import Derived.Test.YtpjmgeajajcceaaT11a
set_option linter.unusedVariables false
namespace Go.Proofs.Ytpjmgeajajcceaa
open Go.Sl Go.Sx
set_option maxRecDepth 100000 in
theorem f11_ok (fuel : Nat) (x0_t : List Pt) (x0_c : List Int) (x1_t : List Pt) (x1_c : List Int) (y18 : Int) (y16 : Int) (y17 : Int) (y13 : Int) (y14 : Int) (r : Bool) (hr : F11 fuel x0_t x0_c x1_t x1_c y18 y16 y17 y13 y14 = some r) (h : Zone) (L : List Atom) (w : World) (hS : St h L w) (o_x0_t : Option Addr) (c_x0_t : Nat) (hx_x0_t : SliceR PtT h o_x0_t c_x0_t x0_t) (o_x0_c : Option Addr) (c_x0_c : Nat) (hx_x0_c : SliceR Ty.int h o_x0_c c_x0_c x0_c) (o_x1_t : Option Addr) (c_x1_t : Nat) (hx_x1_t : SliceR PtT h o_x1_t c_x1_t x1_t) (o_x1_c : Option Addr) (c_x1_c : Nat) (hx_x1_c : SliceR Ty.int h o_x1_c c_x1_c x1_c) :
    Calls Try.prog 11 #[.agg #[.slice o_x0_t x0_t.length c_x0_t, .slice o_x0_c x0_c.length c_x0_c], .agg #[.slice o_x1_t x1_t.length c_x1_t, .slice o_x1_c x1_c.length c_x1_c], .agg #[vI y18, vI y16, vI y17, vI y13, vI y14]] w fun e w' => ∃ v, e = .returned v ∧ (∃ h', Zone.le h h' ∧ v = .bool r ∧ St h' L w') := by
 refine calls_intro (N := 236) Try.func11 (by kernel_rfl) fun a hf => ?_
 refine w_sr (by kernel_rfl) ?_
 refine p_box (i := 0) (d := (some 3)) (cs := [.slice o_x0_t x0_t.length c_x0_t, .slice o_x0_c x0_c.length c_x0_c]) (T := 27) (v := fun b1 => pB b1 0) hS hf (fun b => by kernel_rfl) fun b1 ww1 a1 hS1 hf1 => ⟨fun _ => trivial, ?_⟩
 refine p_box (i := 1) (d := (some 4)) (cs := [.slice o_x1_t x1_t.length c_x1_t, .slice o_x1_c x1_c.length c_x1_c]) (T := 27) (v := fun b2 => pB b2 0) hS1 hf1 (fun b => by kernel_rfl) fun b2 ww2 a2 hS2 hf2 => ⟨fun _ => trivial, ?_⟩
 refine p_box (i := 2) (d := (some 5)) (cs := [vI y18, vI y16, vI y17, vI y13, vI y14]) (T := 84) (v := fun b3 => pB b3 0) hS2 hf2 (fun b => by kernel_rfl) fun b3 ww3 a3 hS3 hf3 => ⟨fun _ => trivial, ?_⟩
 refine p_qt [] [(3, pB b1 0), (4, pB b2 0), (5, pB b3 0)] [] hf3 (by kernel_rfl) .nil fun a4 hf4 => ?_
 refine w_seq (by kernel_rfl) ?_
 refine w_mid (by kernel_rfl) (fun a w => ∃ z1 : Zone, ∃ y19 : Bool, Zone.le h z1 ∧ Fr a 236 [(3, pB b1 0), (4, pB b2 0), (5, pB b3 0), (39, .bool y19)] ∧ St z1 (box b3 [vI y18, vI y16, vI y17, vI y13, vI y14] 84 :: box b2 [.slice o_x1_t x1_t.length c_x1_t, .slice o_x1_c x1_c.length c_x1_c] 27 :: box b1 [.slice o_x0_t x0_t.length c_x0_t, .slice o_x0_c x0_c.length c_x0_c] 27 :: L) w ∧ (F11_j1 fuel x0_t x0_c x1_t x1_c y18 y16 y17 y13 y14 y19) = some r) ?_ ?_
 ·skip
  refine w_reg (by kernel_rfl) ?_
  refine p_qn 2 [.slice o_x0_t x0_t.length c_x0_t] [(3, pB b1 0), (4, pB b2 0), (5, pB b3 0), (31, .agg #[.slice o_x0_t x0_t.length c_x0_t])] [.cell ⟨b1, 0, none⟩ (.slice o_x0_t x0_t.length c_x0_t)] hf4 (by kernel_rfl) (.cell (hS3.box (i := 2) rfl (j := 0) rfl) .nil) fun a5 hf5 => ?_
  obtain ⟨r37, hd1, hr1⟩ := bind_some hr
  refine p_call (i := 2) (d := some 32) (f := 12) (args := #[.agg #[.slice o_x0_t x0_t.length c_x0_t]]) hf5 (by kernel_rfl) (f12_ok fuel x0_t r37 hd1 h _ _ hS3 o_x0_t c_x0_t hx_x0_t) ?_
  rintro v1 ww4 a6 ⟨z2, k1, rfl, hS4⟩ hf6
  refine ⟨fun _ => trivial, ?_⟩
  refine p_qn 2 [] [(3, pB b1 0), (4, pB b2 0), (5, pB b3 0), (34, .bool (!r37))] [] hf6 (by kernel_rfl) .nil fun a7 hf7 => ?_
  rcases Bool.eq_false_or_eq_true (!r37) with hb1 | hb1
  ·have hr2 := cond_t hb1 hr1
   have hf8 := Fr.conv hf7 (congrArg (fun z => ([(3, pB b1 0), (4, pB b2 0), (5, pB b3 0), (34, .bool z)] : FL)) hb1)
   refine p_qt [] [(3, pB b1 0), (4, pB b2 0), (5, pB b3 0), (39, .bool true)] [] hf8 (by kernel_rfl) .nil fun a8 hf9 => ?_
   have hf10 := Fr.keep (ks := [3, 4, 5, 39]) (r := [(3, pB b1 0), (4, pB b2 0), (5, pB b3 0), (39, .bool true)]) hf9 (by kernel_rfl)
   exact ⟨z2, true, k1, hf10, hS4, hr2⟩
  ·have hr3 := cond_f hb1 hr1
   have hf11 := Fr.conv hf7 (congrArg (fun z => ([(3, pB b1 0), (4, pB b2 0), (5, pB b3 0), (34, .bool z)] : FL)) hb1)
   refine p_qn 2 [.slice o_x1_t x1_t.length c_x1_t] [(3, pB b1 0), (4, pB b2 0), (5, pB b3 0), (34, .bool false), (36, .agg #[.slice o_x1_t x1_t.length c_x1_t])] [.cell ⟨b2, 0, none⟩ (.slice o_x1_t x1_t.length c_x1_t)] hf11 (by kernel_rfl) (.cell (hS4.box (i := 1) rfl (j := 0) rfl) .nil) fun a9 hf12 => ?_
   obtain ⟨r38, hd2, hr4⟩ := bind_some hr3
   refine p_call (i := 7) (d := some 37) (f := 12) (args := #[.agg #[.slice o_x1_t x1_t.length c_x1_t]]) hf12 (by kernel_rfl) (f12_ok fuel x1_t r38 hd2 z2 _ _ hS4 o_x1_t c_x1_t (SliceR.mono k1 hx_x1_t)) ?_
   rintro v2 ww5 a10 ⟨z3, k2, rfl, hS5⟩ hf13
   refine ⟨fun _ => trivial, ?_⟩
   refine p_qt [] [(3, pB b1 0), (4, pB b2 0), (5, pB b3 0), (39, .bool (!r38))] [] hf13 (by kernel_rfl) .nil fun a11 hf14 => ?_
   have hf15 := Fr.keep (ks := [3, 4, 5, 39]) (r := [(3, pB b1 0), (4, pB b2 0), (5, pB b3 0), (39, .bool (!r38))]) hf14 (by kernel_rfl)
   exact ⟨z3, (!r38), (Zone.le_trans k1 k2), hf15, hS5, hr4⟩
 ·rintro a12 ww6 ⟨z1, y19, k3, hf16, hS6, hr5⟩
  refine w_if hf16 (b := y19) (by kernel_rfl) (fun hb2 => ?_) (fun hb2 => ?_)
  ·have hr6 := cond_t hb2 hr5
   refine w_sr (by kernel_rfl) ?_
   obtain ⟨r33, hd3, hr7⟩ := bind_some hr6
   refine p_call (i := 0) (d := some 40) (f := 13) (args := #[]) hf16 (by kernel_rfl) (f13_ok fuel  r33 hd3 z1 _ _ hS6 ) ?_
   rintro v3 ww7 a13 ⟨z4, k4, rfl, hS7⟩ hf17
   refine ⟨fun _ => trivial, ?_⟩
   refine p_qt [] [(6, .bool r33)] [] hf17 (by kernel_rfl) .nil fun a14 hf18 => ?_
   refine w_ret (by kernel_rfl) ?_
   refine r_then ?_
   refine p_ret (os := []) (v := .bool r33) (obs := []) hf18 (by kernel_rfl) .nil ?_
   obtain rfl := some_eq hr7
   exact ⟨_, rfl, z4, (Zone.le_trans k3 k4), rfl, (St.drop 3 hS7)⟩
  ·have hr8 := cond_f hb2 hr5
   refine w_skip (by kernel_rfl) ?_
   refine n_then ?_
   refine w_sr (by kernel_rfl) ?_
   refine p_qn 4 [.slice o_x0_t x0_t.length c_x0_t, vI y18] [(3, pB b1 0), (4, pB b2 0), (5, pB b3 0), (42, .agg #[.slice o_x0_t x0_t.length c_x0_t]), (44, vI y18)] [.cell ⟨b1, 0, none⟩ (.slice o_x0_t x0_t.length c_x0_t), .prop ((0 : Int) ≤ 0 ∧ (0 : Int) < (5 : Nat)), .cell ⟨b3, 0, none⟩ (vI y18)] hf16 (by kernel_rfl) (.cell (hS6.box (i := 2) rfl (j := 0) rfl) (.prop (by decide) (.cell (hS6.box (i := 0) rfl (j := 0) rfl) .nil))) fun a15 hf19 => ?_
   obtain ⟨r9, hd4, hr9⟩ := bind_some hr8
   refine p_call (i := 4) (d := some 45) (f := 14) (args := #[.agg #[.slice o_x0_t x0_t.length c_x0_t], vI y18]) hf19 (by kernel_rfl) (f14_ok fuel x0_t y18 r9 hd4 z1 _ _ hS6 o_x0_t c_x0_t (SliceR.mono k3 hx_x0_t)) ?_
   rintro v4 ww8 a16 ⟨rfl, hS8⟩ hf20
   refine ⟨fun _ => trivial, ?_⟩
   refine p_qt [] [(3, pB b1 0), (4, pB b2 0), (5, pB b3 0), (7, vI r9)] [] hf20 (by kernel_rfl) .nil fun a17 hf21 => ?_
   refine w_mid (by kernel_rfl) (fun a w => ∃ z5 : Zone, ∃ y3 : Int, ∃ y4 : Int, ∃ y5 : Int, ∃ b4 : Nat, Zone.le z1 z5 ∧ Fr a 236 [(3, pB b1 0), (4, pB b2 0), (5, pB b3 0), (7, vI r9), (8, pB b4 0)] ∧ St z5 (box b4 [vI y3, vI y4, vI y5] 56 :: box b3 [vI y18, vI y16, vI y17, vI y13, vI y14] 84 :: box b2 [.slice o_x1_t x1_t.length c_x1_t, .slice o_x1_c x1_c.length c_x1_c] 27 :: box b1 [.slice o_x0_t x0_t.length c_x0_t, .slice o_x0_c x0_c.length c_x0_c] 27 :: L) w ∧ (F11_j2 fuel x0_t x1_t x1_c y16 y17 y13 y14 r9 y3 y4 y5) = some r) ?_ ?_
   ·skip
    have hS9 := hS8.drew
    have s1 : Sub z1 (box b3 [vI y18, vI y16, vI y17, vI y13, vI y14] 84 :: box b2 [.slice o_x1_t x1_t.length c_x1_t, .slice o_x1_c x1_c.length c_x1_c] 27 :: box b1 [.slice o_x0_t x0_t.length c_x0_t, .slice o_x0_c x0_c.length c_x0_c] 27 :: L) _ := Sub.of (Zone.le_refl _) hS9
    refine w_regB (by kernel_rfl) [4, 6, 8] (Sub z1 (box b3 [vI y18, vI y16, vI y17, vI y13, vI y14] 84 :: box b2 [.slice o_x1_t x1_t.length c_x1_t, .slice o_x1_c x1_c.length c_x1_c] 27 :: box b1 [.slice o_x0_t x0_t.length c_x0_t, .slice o_x0_c x0_c.length c_x0_c] 27 :: L)) (by kernel_rfl) ?_
    refine k_seg' 5 [(0, true), (1, true), (3, true), (5, true)] (by kernel_rfl) (by kernel_rfl) (At.start s1) (by kernel_rfl) ?_
    refine p_qS 4 [.slice o_x0_t x0_t.length c_x0_t, .slice o_x0_t x0_t.length c_x0_t, .slice o_x0_c x0_c.length c_x0_c] [(3, pB b1 0), (4, pB b2 0), (5, pB b3 0), (7, vI r9), (47, .agg #[.slice o_x0_t x0_t.length c_x0_t]), (49, .agg #[.slice o_x0_t x0_t.length c_x0_t, .slice o_x0_c x0_c.length c_x0_c]), (51, vI r9)] [.cell ⟨b1, 0, none⟩ (.slice o_x0_t x0_t.length c_x0_t), .cell ⟨b1, 0, none⟩ (.slice o_x0_t x0_t.length c_x0_t), .cell ⟨b1, 1, none⟩ (.slice o_x0_c x0_c.length c_x0_c)] [] s1 hf21 (by kernel_rfl) (fun _ s => (.cell (s.box (i := 2) rfl (j := 0) rfl) (.cell (s.box (i := 2) rfl (j := 0) rfl) (.cell (s.box (i := 2) rfl (j := 1) rfl) .nil)))) .nil fun a18 hf22 => ?_
    refine p_done (by kernel_rfl) ?_
    intro hA1
    refine k_any' 4 [2, 7] (by kernel_rfl) hA1 (by kernel_rfl) (by kernel_rfl) ?_
    refine (all_cons ?_ (all_cons ?_ all_nil))
    ·skip
     obtain ⟨r34, hd5, hr10⟩ := bind_some hr9
     refine p_call (i := 2) (d := some 48) (f := 16) (args := #[.agg #[.slice o_x0_t x0_t.length c_x0_t]]) hf22 (by kernel_rfl) (f16_ok fuel x0_t r34 hd5 z1 _ _ hS9 o_x0_t c_x0_t (SliceR.mono k3 hx_x0_t)) ?_
     rintro v5 ww9 a19 ⟨z6, e1, q1, k5, rfl, hS10, hx1⟩ hf23
     refine ⟨fun _ => Sub.of k5 hS10, ?_⟩
     refine p_done (by kernel_rfl) ?_
     intro hA2
     have s2 : Sub z1 (box b3 [vI y18, vI y16, vI y17, vI y13, vI y14] 84 :: box b2 [.slice o_x1_t x1_t.length c_x1_t, .slice o_x1_c x1_c.length c_x1_c] 27 :: box b1 [.slice o_x0_t x0_t.length c_x0_t, .slice o_x0_c x0_c.length c_x0_c] 27 :: L) _ := Sub.of k5 hS10
     refine k_seg' 4 [] (by kernel_rfl) (by kernel_rfl) hA2 (by kernel_rfl) ?_
     refine p_done (by kernel_rfl) ?_
     intro hA3
     refine k_any' 3 [4, 7] (by kernel_rfl) hA3 (by kernel_rfl) (by kernel_rfl) ?_
     refine (all_cons ?_ (all_cons ?_ all_nil))
     ·skip
      obtain ⟨r35, hd6, hr11⟩ := bind_some hr10
      refine p_call (i := 4) (d := some 50) (f := 17) (args := #[.agg #[.slice o_x0_t x0_t.length c_x0_t, .slice o_x0_c x0_c.length c_x0_c]]) hf23 (by kernel_rfl) (f17_ok fuel x0_t x0_c r35 hd6 z6 _ _ hS10 o_x0_t c_x0_t (SliceR.mono (Zone.le_trans k3 k5) hx_x0_t) o_x0_c c_x0_c (SliceR.mono (Zone.le_trans k3 k5) hx_x0_c)) ?_
      rintro v6 ww10 a20 ⟨z7, e2, q2, k6, rfl, hS11, hx2⟩ hf24
      refine ⟨fun e => absurd e (by decide), ?_⟩
      refine p_done (by kernel_rfl) ?_
      intro hA4
      refine k_seg' 3 [] (by kernel_rfl) (by kernel_rfl) hA4 (by kernel_rfl) ?_
      refine p_done (by kernel_rfl) ?_
      intro hA5
      refine k_any' 2 [6, 7] (by kernel_rfl) hA5 (by kernel_rfl) (by kernel_rfl) ?_
      refine (all_cons ?_ (all_cons ?_ all_nil))
      ·skip
       obtain ⟨r36, hd7, hr12⟩ := bind_some hr11
       refine p_call (i := 6) (d := some 52) (f := 30) (args := #[.slice e1 r34.length q1, .slice e2 r35.length q2, vI r9]) hf24 (by kernel_rfl) (f30_ok fuel r34 r35 r9 r36 hd7 z7 _ _ hS11 e1 q1 (SliceR.mono k6 hx1) e2 q2 hx2) ?_
       rintro v7 ww11 a21 ⟨z8, k7, rfl, hS12⟩ hf25
       refine ⟨fun e => absurd e (by decide), ?_⟩
       refine p_done (by kernel_rfl) ?_
       intro hA6
       refine k_seg' 0 [(7, false), (8, false)] (by kernel_rfl) (by kernel_rfl) hA6 (by kernel_rfl) ?_
       refine p_box (i := 7) (d := (some 8)) (cs := [vI 0, vI 0, vI 0]) (T := 56) (v := fun b5 => pB b5 0) hS12 hf25 (fun b => by kernel_rfl) fun b5 ww12 a22 hS13 hf26 => ⟨fun _ => Sub.of (Zone.le_trans (Zone.le_trans k5 k6) k7) (St.drop 1 hS13), ?_⟩
       have s3 : Sub z1 (box b3 [vI y18, vI y16, vI y17, vI y13, vI y14] 84 :: box b2 [.slice o_x1_t x1_t.length c_x1_t, .slice o_x1_c x1_c.length c_x1_c] 27 :: box b1 [.slice o_x0_t x0_t.length c_x0_t, .slice o_x0_c x0_c.length c_x0_c] 27 :: L) _ := Sub.of (Zone.le_trans (Zone.le_trans k5 k6) k7) (St.drop 1 hS13)
       refine p_store_eq (i := 8) (j := 0) (b := b5) (off := 0) (vs := [vI r36.1, vI r36.2.1, vI r36.2.2]) (cs' := [vI r36.1, vI r36.2.1, vI r36.2.2]) hS13 hf26 rfl (by kernel_rfl) (by kernel_rfl) rfl fun ww13 a23 hS14 hf27 => ⟨fun e => absurd e (by decide), ?_⟩
       refine p_done (by kernel_rfl) ?_
       intro hA7
       refine k_done' (by kernel_rfl) (by kernel_rfl) ?_
       refine n_then ?_
       have hf28 := Fr.keep (ks := [3, 4, 5, 7, 8]) (r := [(3, pB b1 0), (4, pB b2 0), (5, pB b3 0), (7, vI r9), (8, pB b5 0)]) hf27 (by kernel_rfl)
       exact ⟨z8, r36.1, r36.2.1, r36.2.2, b5, (Zone.le_trans (Zone.le_trans k5 k6) k7), hf28, (St.pick 1 [0] hS14 (by kernel_rfl)), hr12⟩
      ·skip
       refine p_box (i := 7) (d := (some 8)) (cs := [vI 0, vI 0, vI 0]) (T := 56) (v := fun b6 => pB b6 0) hS11 hf24 (fun b => by kernel_rfl) fun b6 ww14 a24 hS15 hf29 => ⟨fun _ => Sub.of (Zone.le_trans k5 k6) (St.drop 1 hS15), ?_⟩
       refine p_done (by kernel_rfl) ?_
       intro hA8
       refine k_seg' 0 [(6, false), (8, false)] (by kernel_rfl) (by kernel_rfl) hA8 (by kernel_rfl) ?_
       obtain ⟨r39, hd8, hr13⟩ := bind_some hr11
       refine p_call (i := 6) (d := some 52) (f := 30) (args := #[.slice e1 r34.length q1, .slice e2 r35.length q2, vI r9]) hf29 (by kernel_rfl) (f30_ok fuel r34 r35 r9 r39 hd8 z7 _ _ hS15 e1 q1 (SliceR.mono k6 hx1) e2 q2 hx2) ?_
       rintro v8 ww15 a25 ⟨z9, k8, rfl, hS16⟩ hf30
       refine ⟨fun e => absurd e (by decide), ?_⟩
       refine p_store_eq (i := 8) (j := 0) (b := b6) (off := 0) (vs := [vI r39.1, vI r39.2.1, vI r39.2.2]) (cs' := [vI r39.1, vI r39.2.1, vI r39.2.2]) hS16 hf30 rfl (by kernel_rfl) (by kernel_rfl) rfl fun ww16 a26 hS17 hf31 => ⟨fun e => absurd e (by decide), ?_⟩
       refine p_done (by kernel_rfl) ?_
       intro hA9
       refine k_done' (by kernel_rfl) (by kernel_rfl) ?_
       refine n_then ?_
       have hf32 := Fr.keep (ks := [3, 4, 5, 7, 8]) (r := [(3, pB b1 0), (4, pB b2 0), (5, pB b3 0), (7, vI r9), (8, pB b6 0)]) hf31 (by kernel_rfl)
       exact ⟨z9, r39.1, r39.2.1, r39.2.2, b6, (Zone.le_trans (Zone.le_trans k5 k6) k8), hf32, (St.pick 1 [0] hS17 (by kernel_rfl)), hr13⟩
     ·skip
      refine p_box (i := 7) (d := (some 8)) (cs := [vI 0, vI 0, vI 0]) (T := 56) (v := fun b7 => pB b7 0) hS10 hf23 (fun b => by kernel_rfl) fun b7 ww17 a27 hS18 hf33 => ⟨fun _ => Sub.of k5 (St.drop 1 hS18), ?_⟩
      refine p_done (by kernel_rfl) ?_
      intro hA10
      have s4 : Sub z1 (box b3 [vI y18, vI y16, vI y17, vI y13, vI y14] 84 :: box b2 [.slice o_x1_t x1_t.length c_x1_t, .slice o_x1_c x1_c.length c_x1_c] 27 :: box b1 [.slice o_x0_t x0_t.length c_x0_t, .slice o_x0_c x0_c.length c_x0_c] 27 :: L) _ := Sub.of k5 (St.drop 1 hS18)
      refine k_seg' 0 [(4, false), (6, false), (8, false)] (by kernel_rfl) (by kernel_rfl) hA10 (by kernel_rfl) ?_
      obtain ⟨r40, hd9, hr14⟩ := bind_some hr10
      refine p_call (i := 4) (d := some 50) (f := 17) (args := #[.agg #[.slice o_x0_t x0_t.length c_x0_t, .slice o_x0_c x0_c.length c_x0_c]]) hf33 (by kernel_rfl) (f17_ok fuel x0_t x0_c r40 hd9 z6 _ _ hS18 o_x0_t c_x0_t (SliceR.mono (Zone.le_trans k3 k5) hx_x0_t) o_x0_c c_x0_c (SliceR.mono (Zone.le_trans k3 k5) hx_x0_c)) ?_
      rintro v9 ww18 a28 ⟨z10, e3, q3, k9, rfl, hS19, hx3⟩ hf34
      refine ⟨fun e => absurd e (by decide), ?_⟩
      obtain ⟨r41, hd10, hr15⟩ := bind_some hr14
      refine p_call (i := 6) (d := some 52) (f := 30) (args := #[.slice e1 r34.length q1, .slice e3 r40.length q3, vI r9]) hf34 (by kernel_rfl) (f30_ok fuel r34 r40 r9 r41 hd10 z10 _ _ hS19 e1 q1 (SliceR.mono k9 hx1) e3 q3 hx3) ?_
      rintro v10 ww19 a29 ⟨z11, k10, rfl, hS20⟩ hf35
      refine ⟨fun e => absurd e (by decide), ?_⟩
      refine p_store_eq (i := 8) (j := 0) (b := b7) (off := 0) (vs := [vI r41.1, vI r41.2.1, vI r41.2.2]) (cs' := [vI r41.1, vI r41.2.1, vI r41.2.2]) hS20 hf35 rfl (by kernel_rfl) (by kernel_rfl) rfl fun ww20 a30 hS21 hf36 => ⟨fun e => absurd e (by decide), ?_⟩
      refine p_done (by kernel_rfl) ?_
      intro hA11
      refine k_done' (by kernel_rfl) (by kernel_rfl) ?_
      refine n_then ?_
      have hf37 := Fr.keep (ks := [3, 4, 5, 7, 8]) (r := [(3, pB b1 0), (4, pB b2 0), (5, pB b3 0), (7, vI r9), (8, pB b7 0)]) hf36 (by kernel_rfl)
      exact ⟨z11, r41.1, r41.2.1, r41.2.2, b7, (Zone.le_trans (Zone.le_trans k5 k9) k10), hf37, (St.pick 1 [0] hS21 (by kernel_rfl)), hr15⟩
    ·skip
     refine p_box (i := 7) (d := (some 8)) (cs := [vI 0, vI 0, vI 0]) (T := 56) (v := fun b8 => pB b8 0) hS9 hf22 (fun b => by kernel_rfl) fun b8 ww21 a31 hS22 hf38 => ⟨fun _ => Sub.of (Zone.le_refl _) (St.drop 1 hS22), ?_⟩
     refine p_done (by kernel_rfl) ?_
     intro hA12
     have s5 : Sub z1 (box b3 [vI y18, vI y16, vI y17, vI y13, vI y14] 84 :: box b2 [.slice o_x1_t x1_t.length c_x1_t, .slice o_x1_c x1_c.length c_x1_c] 27 :: box b1 [.slice o_x0_t x0_t.length c_x0_t, .slice o_x0_c x0_c.length c_x0_c] 27 :: L) _ := Sub.of (Zone.le_refl _) (St.drop 1 hS22)
     refine k_seg' 0 [(2, false), (4, false), (6, false), (8, false)] (by kernel_rfl) (by kernel_rfl) hA12 (by kernel_rfl) ?_
     obtain ⟨r42, hd11, hr16⟩ := bind_some hr9
     refine p_call (i := 2) (d := some 48) (f := 16) (args := #[.agg #[.slice o_x0_t x0_t.length c_x0_t]]) hf38 (by kernel_rfl) (f16_ok fuel x0_t r42 hd11 z1 _ _ hS22 o_x0_t c_x0_t (SliceR.mono k3 hx_x0_t)) ?_
     rintro v11 ww22 a32 ⟨z12, e4, q4, k11, rfl, hS23, hx4⟩ hf39
     refine ⟨fun _ => Sub.of k11 (St.drop 1 hS23), ?_⟩
     have s6 : Sub z1 (box b3 [vI y18, vI y16, vI y17, vI y13, vI y14] 84 :: box b2 [.slice o_x1_t x1_t.length c_x1_t, .slice o_x1_c x1_c.length c_x1_c] 27 :: box b1 [.slice o_x0_t x0_t.length c_x0_t, .slice o_x0_c x0_c.length c_x0_c] 27 :: L) _ := Sub.of k11 (St.drop 1 hS23)
     obtain ⟨r43, hd12, hr17⟩ := bind_some hr16
     refine p_call (i := 4) (d := some 50) (f := 17) (args := #[.agg #[.slice o_x0_t x0_t.length c_x0_t, .slice o_x0_c x0_c.length c_x0_c]]) hf39 (by kernel_rfl) (f17_ok fuel x0_t x0_c r43 hd12 z12 _ _ hS23 o_x0_t c_x0_t (SliceR.mono (Zone.le_trans k3 k11) hx_x0_t) o_x0_c c_x0_c (SliceR.mono (Zone.le_trans k3 k11) hx_x0_c)) ?_
     rintro v12 ww23 a33 ⟨z13, e5, q5, k12, rfl, hS24, hx5⟩ hf40
     refine ⟨fun e => absurd e (by decide), ?_⟩
     obtain ⟨r44, hd13, hr18⟩ := bind_some hr17
     refine p_call (i := 6) (d := some 52) (f := 30) (args := #[.slice e4 r42.length q4, .slice e5 r43.length q5, vI r9]) hf40 (by kernel_rfl) (f30_ok fuel r42 r43 r9 r44 hd13 z13 _ _ hS24 e4 q4 (SliceR.mono k12 hx4) e5 q5 hx5) ?_
     rintro v13 ww24 a34 ⟨z14, k13, rfl, hS25⟩ hf41
     refine ⟨fun e => absurd e (by decide), ?_⟩
     refine p_store_eq (i := 8) (j := 0) (b := b8) (off := 0) (vs := [vI r44.1, vI r44.2.1, vI r44.2.2]) (cs' := [vI r44.1, vI r44.2.1, vI r44.2.2]) hS25 hf41 rfl (by kernel_rfl) (by kernel_rfl) rfl fun ww25 a35 hS26 hf42 => ⟨fun e => absurd e (by decide), ?_⟩
     refine p_done (by kernel_rfl) ?_
     intro hA13
     refine k_done' (by kernel_rfl) (by kernel_rfl) ?_
     refine n_then ?_
     have hf43 := Fr.keep (ks := [3, 4, 5, 7, 8]) (r := [(3, pB b1 0), (4, pB b2 0), (5, pB b3 0), (7, vI r9), (8, pB b8 0)]) hf42 (by kernel_rfl)
     exact ⟨z14, r44.1, r44.2.1, r44.2.2, b8, (Zone.le_trans (Zone.le_trans k11 k12) k13), hf43, (St.pick 1 [0] hS26 (by kernel_rfl)), hr18⟩
   ·rintro a36 ww26 ⟨z5, y3, y4, y5, b4, k14, hf44, hS27, hr19⟩
    refine w_sr (by kernel_rfl) ?_
    refine p_qn 5 [.slice o_x0_t x0_t.length c_x0_t, vI y16] [(3, pB b1 0), (4, pB b2 0), (5, pB b3 0), (7, vI r9), (8, pB b4 0), (53, vI r9), (55, .agg #[.slice o_x0_t x0_t.length c_x0_t]), (57, vI y16)] [.cell ⟨b1, 0, none⟩ (.slice o_x0_t x0_t.length c_x0_t), .prop ((0 : Int) ≤ 1 ∧ (1 : Int) < (5 : Nat)), .cell ⟨b3, 1, none⟩ (vI y16)] hf44 (by kernel_rfl) (.cell (hS27.box (i := 3) rfl (j := 0) rfl) (.prop (by decide) (.cell (hS27.box (i := 1) rfl (j := 1) rfl) .nil))) fun a37 hf45 => ?_
    obtain ⟨r28, hd14, hr20⟩ := bind_some hr19
    refine p_call (i := 5) (d := some 58) (f := 14) (args := #[.agg #[.slice o_x0_t x0_t.length c_x0_t], vI y16]) hf45 (by kernel_rfl) (f14_ok fuel x0_t y16 r28 hd14 z5 _ _ hS27 o_x0_t c_x0_t (SliceR.mono (Zone.le_trans k3 k14) hx_x0_t)) ?_
    rintro v14 ww27 a38 ⟨rfl, hS28⟩ hf46
    refine ⟨fun _ => trivial, ?_⟩
    refine p_qt [] [(3, pB b1 0), (4, pB b2 0), (5, pB b3 0), (7, vI r9), (8, pB b4 0), (9, vI (if r28 < r9 then r28 else r9))] [] hf46 (by kernel_rfl) .nil fun a39 hf47 => ?_
    refine w_sr (by kernel_rfl) ?_
    refine p_qn 5 [.slice o_x0_t x0_t.length c_x0_t, vI y17] [(3, pB b1 0), (4, pB b2 0), (5, pB b3 0), (7, vI r9), (8, pB b4 0), (9, vI (if r28 < r9 then r28 else r9)), (60, vI r9), (62, .agg #[.slice o_x0_t x0_t.length c_x0_t]), (64, vI y17)] [.cell ⟨b1, 0, none⟩ (.slice o_x0_t x0_t.length c_x0_t), .prop ((0 : Int) ≤ 2 ∧ (2 : Int) < (5 : Nat)), .cell ⟨b3, 2, none⟩ (vI y17)] hf47 (by kernel_rfl) (.cell (hS28.box (i := 3) rfl (j := 0) rfl) (.prop (by decide) (.cell (hS28.box (i := 1) rfl (j := 2) rfl) .nil))) fun a40 hf48 => ?_
    obtain ⟨r29, hd15, hr21⟩ := bind_some hr20
    refine p_call (i := 5) (d := some 65) (f := 14) (args := #[.agg #[.slice o_x0_t x0_t.length c_x0_t], vI y17]) hf48 (by kernel_rfl) (f14_ok fuel x0_t y17 r29 hd15 z5 _ _ hS28 o_x0_t c_x0_t (SliceR.mono (Zone.le_trans k3 k14) hx_x0_t)) ?_
    rintro v15 ww28 a41 ⟨rfl, hS29⟩ hf49
    refine ⟨fun _ => trivial, ?_⟩
    refine p_qt [] [(3, pB b1 0), (4, pB b2 0), (5, pB b3 0), (7, vI r9), (8, pB b4 0), (9, vI (if r28 < r9 then r28 else r9)), (10, vI (if r29 > r9 then r29 else r9))] [] hf49 (by kernel_rfl) .nil fun a42 hf50 => ?_
    refine w_sr (by kernel_rfl) ?_
    refine p_qn 4 [.slice o_x0_t x0_t.length c_x0_t] [(3, pB b1 0), (4, pB b2 0), (5, pB b3 0), (7, vI r9), (8, pB b4 0), (69, .agg #[.slice o_x0_t x0_t.length c_x0_t]), (70, vI (if r28 < r9 then r28 else r9)), (71, vI (if r29 > r9 then r29 else r9))] [.cell ⟨b1, 0, none⟩ (.slice o_x0_t x0_t.length c_x0_t)] hf50 (by kernel_rfl) (.cell (hS29.box (i := 3) rfl (j := 0) rfl) .nil) fun a43 hf51 => ?_
    obtain ⟨r30, hd16, hr22⟩ := bind_some hr21
    refine p_call (i := 4) (d := some 72) (f := 65) (args := #[.agg #[.slice o_x0_t x0_t.length c_x0_t], vI (if r28 < r9 then r28 else r9), vI (if r29 > r9 then r29 else r9)]) hf51 (by kernel_rfl) (f65_ok fuel x0_t (if r28 < r9 then r28 else r9) (if r29 > r9 then r29 else r9) r30 hd16 z5 _ _ hS29 o_x0_t c_x0_t (SliceR.mono (Zone.le_trans k3 k14) hx_x0_t)) ?_
    rintro v16 ww29 a44 ⟨z15, e6, q6, k15, rfl, hS30, hx6⟩ hf52
    refine ⟨fun _ => trivial, ?_⟩
    refine p_qn 3 [] [(3, pB b1 0), (4, pB b2 0), (5, pB b3 0), (7, vI r9), (8, pB b4 0), (73, .agg #[.slice e6 r30.1.length q6]), (74, vI r30.2)] [] hf52 (by kernel_rfl) .nil fun a45 hf53 => ?_
    refine p_box (i := 8) (d := (some 11)) (cs := [.slice none 0 0]) (T := 24) (v := fun b9 => pB b9 0) hS30 hf53 (fun b => by kernel_rfl) fun b9 ww30 a46 hS31 hf54 => ⟨fun _ => trivial, ?_⟩
    refine p_store_eq (i := 9) (j := 0) (b := b9) (off := 0) (vs := [.slice e6 r30.1.length q6]) (cs' := [.slice e6 r30.1.length q6]) hS31 hf54 rfl (by kernel_rfl) (by kernel_rfl) rfl fun ww31 a47 hS32 hf55 => ⟨fun _ => trivial, ?_⟩
    refine p_qt [] [(3, pB b1 0), (4, pB b2 0), (5, pB b3 0), (7, vI r9), (8, pB b4 0), (11, pB b9 0), (12, vI r30.2)] [] hf55 (by kernel_rfl) .nil fun a48 hf56 => ?_
    refine w_sr (by kernel_rfl) ?_
    refine p_qn 2 [.slice e6 r30.1.length q6] [(3, pB b1 0), (4, pB b2 0), (5, pB b3 0), (7, vI r9), (8, pB b4 0), (12, vI r30.2), (76, .agg #[.slice e6 r30.1.length q6]), (77, vI r9)] [.cell ⟨b9, 0, none⟩ (.slice e6 r30.1.length q6)] hf56 (by kernel_rfl) (.cell (hS32.box (i := 0) rfl (j := 0) rfl) .nil) fun a49 hf57 => ?_
    obtain ⟨r31, hd17, hr23⟩ := bind_some hr22
    refine p_call (i := 2) (d := some 78) (f := 27) (args := #[.agg #[.slice e6 r30.1.length q6], vI r9]) hf57 (by kernel_rfl) (f27_ok fuel r30.1 r9 r31 hd17 z15 _ _ hS32 e6 q6 hx6) ?_
    rintro v17 ww32 a50 ⟨z16, k16, rfl, hS33⟩ hf58
    refine ⟨fun _ => trivial, ?_⟩
    refine p_qn 3 [] [(3, pB b1 0), (4, pB b2 0), (5, pB b3 0), (7, vI r9), (8, pB b4 0), (12, vI r30.2), (79, .agg #[vI r31.1, vI r31.2.1]), (80, vI r31.2.2)] [] hf58 (by kernel_rfl) .nil fun a51 hf59 => ?_
    refine p_box (i := 6) (d := (some 13)) (cs := [vI 0, vI 0]) (T := 41) (v := fun b10 => pB b10 0) hS33 hf59 (fun b => by kernel_rfl) fun b10 ww33 a52 hS34 hf60 => ⟨fun _ => trivial, ?_⟩
    refine p_store_eq (i := 7) (j := 0) (b := b10) (off := 0) (vs := [vI r31.1, vI r31.2.1]) (cs' := [vI r31.1, vI r31.2.1]) hS34 hf60 rfl (by kernel_rfl) (by kernel_rfl) rfl fun ww34 a53 hS35 hf61 => ⟨fun _ => trivial, ?_⟩
    refine p_qt [] [(3, pB b1 0), (4, pB b2 0), (5, pB b3 0), (7, vI r9), (8, pB b4 0), (12, vI r30.2), (13, pB b10 0), (14, vI r31.2.2)] [] hf61 (by kernel_rfl) .nil fun a54 hf62 => ?_
    refine w_seq (by kernel_rfl) ?_
    refine w_mid (by kernel_rfl) (fun a w => ∃ z17 : Zone, ∃ y15 : Bool, Zone.le z16 z17 ∧ Fr a 236 [(3, pB b1 0), (4, pB b2 0), (5, pB b3 0), (7, vI r9), (8, pB b4 0), (92, .bool y15)] ∧ St z17 (box b10 [vI r31.1, vI r31.2.1] 41 :: box b9 [.slice e6 r30.1.length q6] 24 :: box b4 [vI y3, vI y4, vI y5] 56 :: box b3 [vI y18, vI y16, vI y17, vI y13, vI y14] 84 :: box b2 [.slice o_x1_t x1_t.length c_x1_t, .slice o_x1_c x1_c.length c_x1_c] 27 :: box b1 [.slice o_x0_t x0_t.length c_x0_t, .slice o_x0_c x0_c.length c_x0_c] 27 :: L) w ∧ (F11_j3 fuel x0_t x1_t x1_c y13 y14 r9 y3 y4 y5 y15) = some r) ?_ ?_
    ·skip
     refine w_reg (by kernel_rfl) ?_
     refine p_qn 3 [] [(3, pB b1 0), (4, pB b2 0), (5, pB b3 0), (7, vI r9), (8, pB b4 0), (13, pB b10 0), (14, vI r31.2.2), (83, .bool (r30.2 != (0 : Int)))] [] hf62 (by kernel_rfl) .nil fun a55 hf63 => ?_
     rcases Bool.eq_false_or_eq_true (r30.2 != (0 : Int)) with hb3 | hb3
     ·have hr24 := cond_t hb3 hr23
      have hf64 := Fr.conv hf63 (congrArg (fun z => ([(3, pB b1 0), (4, pB b2 0), (5, pB b3 0), (7, vI r9), (8, pB b4 0), (13, pB b10 0), (14, vI r31.2.2), (83, .bool z)] : FL)) hb3)
      refine p_qt [] [(3, pB b1 0), (4, pB b2 0), (5, pB b3 0), (7, vI r9), (8, pB b4 0), (92, .bool true)] [] hf64 (by kernel_rfl) .nil fun a56 hf65 => ?_
      have hf66 := Fr.keep (ks := [3, 4, 5, 7, 8, 92]) (r := [(3, pB b1 0), (4, pB b2 0), (5, pB b3 0), (7, vI r9), (8, pB b4 0), (92, .bool true)]) hf65 (by kernel_rfl)
      exact ⟨z16, true, (Zone.le_refl _), hf66, hS35, hr24⟩
     ·have hr25 := cond_f hb3 hr23
      have hf67 := Fr.conv hf63 (congrArg (fun z => ([(3, pB b1 0), (4, pB b2 0), (5, pB b3 0), (7, vI r9), (8, pB b4 0), (13, pB b10 0), (14, vI r31.2.2), (83, .bool z)] : FL)) hb3)
      refine p_qn 4 [] [(3, pB b1 0), (4, pB b2 0), (5, pB b3 0), (7, vI r9), (8, pB b4 0), (13, pB b10 0), (87, .bool (r31.2.2 != (0 : Int)))] [] hf67 (by kernel_rfl) .nil fun a57 hf68 => ?_
      rcases Bool.eq_false_or_eq_true (r31.2.2 != (0 : Int)) with hb4 | hb4
      ·have hr26 := cond_t hb4 hr25
       have hf69 := Fr.conv hf68 (congrArg (fun z => ([(3, pB b1 0), (4, pB b2 0), (5, pB b3 0), (7, vI r9), (8, pB b4 0), (13, pB b10 0), (87, .bool z)] : FL)) hb4)
       refine p_qt [] [(3, pB b1 0), (4, pB b2 0), (5, pB b3 0), (7, vI r9), (8, pB b4 0), (92, .bool true)] [] hf69 (by kernel_rfl) .nil fun a58 hf70 => ?_
       have hf71 := Fr.keep (ks := [3, 4, 5, 7, 8, 92]) (r := [(3, pB b1 0), (4, pB b2 0), (5, pB b3 0), (7, vI r9), (8, pB b4 0), (92, .bool true)]) hf70 (by kernel_rfl)
       exact ⟨z16, true, (Zone.le_refl _), hf71, hS35, hr26⟩
      ·have hr27 := cond_f hb4 hr25
       have hf72 := Fr.conv hf68 (congrArg (fun z => ([(3, pB b1 0), (4, pB b2 0), (5, pB b3 0), (7, vI r9), (8, pB b4 0), (13, pB b10 0), (87, .bool z)] : FL)) hb4)
       refine p_qn 2 [vI r31.1, vI r31.2.1, vI y3, vI y4, vI y5] [(3, pB b1 0), (4, pB b2 0), (5, pB b3 0), (7, vI r9), (8, pB b4 0), (87, .bool false), (88, .agg #[vI r31.1, vI r31.2.1]), (89, .agg #[vI y3, vI y4, vI y5])] [.cell ⟨b10, 0, none⟩ (vI r31.1), .cell ⟨b10, 1, none⟩ (vI r31.2.1), .cell ⟨b4, 0, none⟩ (vI y3), .cell ⟨b4, 1, none⟩ (vI y4), .cell ⟨b4, 2, none⟩ (vI y5)] hf72 (by kernel_rfl) (.cell (hS35.box (i := 0) rfl (j := 0) rfl) (.cell (hS35.box (i := 0) rfl (j := 1) rfl) (.cell (hS35.box (i := 2) rfl (j := 0) rfl) (.cell (hS35.box (i := 2) rfl (j := 1) rfl) (.cell (hS35.box (i := 2) rfl (j := 2) rfl) .nil))))) fun a59 hf73 => ?_
       obtain ⟨r32, hd18, hr28⟩ := bind_some hr27
       refine p_call (i := 9) (d := some 90) (f := 32) (args := #[.agg #[vI r31.1, vI r31.2.1], .agg #[vI y3, vI y4, vI y5]]) hf73 (by kernel_rfl) (f32_ok fuel r31.1 r31.2.1 y3 y4 y5 r32 hd18 z16 _ _ hS35 ) ?_
       rintro v18 ww35 a60 ⟨z18, k17, rfl, hS36⟩ hf74
       refine ⟨fun _ => trivial, ?_⟩
       refine p_qt [] [(3, pB b1 0), (4, pB b2 0), (5, pB b3 0), (7, vI r9), (8, pB b4 0), (92, .bool (!r32))] [] hf74 (by kernel_rfl) .nil fun a61 hf75 => ?_
       have hf76 := Fr.keep (ks := [3, 4, 5, 7, 8, 92]) (r := [(3, pB b1 0), (4, pB b2 0), (5, pB b3 0), (7, vI r9), (8, pB b4 0), (92, .bool (!r32))]) hf75 (by kernel_rfl)
       exact ⟨z18, (!r32), k17, hf76, hS36, hr28⟩
    ·rintro a62 ww36 ⟨z17, y15, k18, hf77, hS37, hr29⟩
     refine w_if hf77 (b := y15) (by kernel_rfl) (fun hb5 => ?_) (fun hb5 => ?_)
     ·have hr30 := cond_t hb5 hr29
      refine w_sq [] [(6, .bool false)] [] hf77 (by kernel_rfl) .nil fun a63 hf78 => ?_
      refine w_ret (by kernel_rfl) ?_
      refine r_then ?_
      refine p_ret (os := []) (v := .bool false) (obs := []) hf78 (by kernel_rfl) .nil ?_
      obtain rfl := some_eq hr30
      exact ⟨_, rfl, z17, (Zone.le_trans (Zone.le_trans (Zone.le_trans (Zone.le_trans k3 k14) k15) k16) k18), rfl, (St.drop 6 hS37)⟩
     ·have hr31 := cond_f hb5 hr29
      refine w_skip (by kernel_rfl) ?_
      refine n_then ?_
      refine w_sr (by kernel_rfl) ?_
      refine p_qn 2 [vI y13] [(3, pB b1 0), (4, pB b2 0), (5, pB b3 0), (7, vI r9), (8, pB b4 0), (94, vI y13)] [.prop ((0 : Int) ≤ 3 ∧ (3 : Int) < (5 : Nat)), .cell ⟨b3, 3, none⟩ (vI y13)] hf77 (by kernel_rfl) (.prop (by decide) (.cell (hS37.box (i := 3) rfl (j := 3) rfl) .nil)) fun a64 hf79 => ?_
      obtain ⟨r23, hd19, hr32⟩ := bind_some hr31
      refine p_call (i := 2) (d := some 95) (f := 36) (args := #[vI y13]) hf79 (by kernel_rfl) (f36_ok fuel y13 r23 hd19 z17 _ _ hS37 ) ?_
      rintro v19 ww37 a65 ⟨rfl, hS38⟩ hf80
      refine ⟨fun _ => trivial, ?_⟩
      refine p_qt [] [(3, pB b1 0), (4, pB b2 0), (5, pB b3 0), (7, vI r9), (8, pB b4 0), (15, vI (Int.tmod r23 1001))] [.prop ((1001 : Int) ≠ 0)] hf80 (by kernel_rfl) (.prop (by decide) .nil) fun a66 hf81 => ?_
      refine w_seq (by kernel_rfl) ?_
      have hS39 := hS38.drew
      have s7 : Sub z17 (box b10 [vI r31.1, vI r31.2.1] 41 :: box b9 [.slice e6 r30.1.length q6] 24 :: box b4 [vI y3, vI y4, vI y5] 56 :: box b3 [vI y18, vI y16, vI y17, vI y13, vI y14] 84 :: box b2 [.slice o_x1_t x1_t.length c_x1_t, .slice o_x1_c x1_c.length c_x1_c] 27 :: box b1 [.slice o_x0_t x0_t.length c_x0_t, .slice o_x0_c x0_c.length c_x0_c] 27 :: L) _ := Sub.of (Zone.le_refl _) hS39
      refine w_regD (by kernel_rfl) [(0, true), (1, true), (3, true), (4, true), (2, false), (5, false), (6, true), (7, true), (8, true), (9, true), (10, true)] [5] (Sub z17 (box b10 [vI r31.1, vI r31.2.1] 41 :: box b9 [.slice e6 r30.1.length q6] 24 :: box b4 [vI y3, vI y4, vI y5] 56 :: box b3 [vI y18, vI y16, vI y17, vI y13, vI y14] 84 :: box b2 [.slice o_x1_t x1_t.length c_x1_t, .slice o_x1_c x1_c.length c_x1_c] 27 :: box b1 [.slice o_x0_t x0_t.length c_x0_t, .slice o_x0_c x0_c.length c_x0_c] 27 :: L)) (by kernel_rfl) s7 ?_
      refine p_qS 4 [vI y14, vI y14] [(3, pB b1 0), (4, pB b2 0), (7, vI r9), (8, pB b4 0), (15, vI (Int.tmod r23 1001)), (98, vI y14), (101, vI y14)] [.prop ((0 : Int) ≤ 4 ∧ (4 : Int) < (5 : Nat)), .cell ⟨b3, 4, none⟩ (vI y14), .prop ((0 : Int) ≤ 4 ∧ (4 : Int) < (5 : Nat)), .cell ⟨b3, 4, none⟩ (vI y14)] [] s7 hf81 (by kernel_rfl) (fun _ s => (.prop (by decide) (.cell (s.box (i := 3) rfl (j := 4) rfl) (.prop (by decide) (.cell (s.box (i := 3) rfl (j := 4) rfl) .nil))))) .nil fun a67 hf82 => ?_
      obtain ⟨r24, hd20, hr33⟩ := bind_some hr32
      refine p_call (i := 2) (d := some 99) (f := 36) (args := #[vI y14]) hf82 (by kernel_rfl) (f36_ok fuel y14 r24 hd20 z17 _ _ hS39 ) ?_
      rintro v20 ww38 a68 ⟨rfl, hS40⟩ hf83
      refine ⟨fun _ => Sub.of (Zone.le_refl _) hS40, ?_⟩
      have s8 : Sub z17 (box b10 [vI r31.1, vI r31.2.1] 41 :: box b9 [.slice e6 r30.1.length q6] 24 :: box b4 [vI y3, vI y4, vI y5] 56 :: box b3 [vI y18, vI y16, vI y17, vI y13, vI y14] 84 :: box b2 [.slice o_x1_t x1_t.length c_x1_t, .slice o_x1_c x1_c.length c_x1_c] 27 :: box b1 [.slice o_x0_t x0_t.length c_x0_t, .slice o_x0_c x0_c.length c_x0_c] 27 :: L) _ := Sub.of (Zone.le_refl _) hS40
      obtain ⟨r25, hd21, hr34⟩ := bind_some hr33
      refine p_call (i := 5) (d := some 102) (f := 36) (args := #[vI y14]) hf83 (by kernel_rfl) (f36_ok fuel y14 r25 hd21 z17 _ _ hS40 ) ?_
      rintro v21 ww39 a69 ⟨rfl, hS41⟩ hf84
      refine ⟨fun e => absurd e (by decide), ?_⟩
      refine p_qP 5 [] [(3, pB b1 0), (4, pB b2 0), (7, vI r9), (8, pB b4 0), (15, vI (Int.tmod r23 1001)), (16, vI (w64 ((1 : Int) + (Int.tmod (if (w64 (0 - r25)) > r24 then (w64 (0 - r25)) else r24) 1000))))] [.prop ((1000 : Int) ≠ 0)] hf84 (by kernel_rfl) (fun _ => (.prop (by decide) .nil)) fun a70 hf85 => ?_
      refine p_dt (by kernel_rfl) ?_
      refine w_sr (by kernel_rfl) ?_
      refine p_qn 4 [.slice o_x0_t x0_t.length c_x0_t] [(3, pB b1 0), (4, pB b2 0), (7, vI r9), (8, pB b4 0), (15, vI (Int.tmod r23 1001)), (16, vI (w64 ((1 : Int) + (Int.tmod (if (w64 (0 - r25)) > r24 then (w64 (0 - r25)) else r24) 1000)))), (109, .agg #[.slice o_x0_t x0_t.length c_x0_t]), (110, vI (Int.tmod r23 1001)), (111, vI (w64 ((1 : Int) + (Int.tmod (if (w64 (0 - r25)) > r24 then (w64 (0 - r25)) else r24) 1000))))] [.cell ⟨b1, 0, none⟩ (.slice o_x0_t x0_t.length c_x0_t)] hf85 (by kernel_rfl) (.cell (hS41.box (i := 5) rfl (j := 0) rfl) .nil) fun a71 hf86 => ?_
      obtain ⟨r22, hd22, hr35⟩ := bind_some hr34
      refine p_call (i := 4) (d := some 112) (f := 61) (args := #[.agg #[.slice o_x0_t x0_t.length c_x0_t], vI (Int.tmod r23 1001), vI (w64 ((1 : Int) + (Int.tmod (if (w64 (0 - r25)) > r24 then (w64 (0 - r25)) else r24) 1000)))]) hf86 (by kernel_rfl) (f61_ok fuel x0_t (Int.tmod r23 1001) (w64 ((1 : Int) + (Int.tmod (if (w64 (0 - r25)) > r24 then (w64 (0 - r25)) else r24) 1000))) r22 hd22 z17 _ _ hS41 o_x0_t c_x0_t (SliceR.mono (Zone.le_trans (Zone.le_trans (Zone.le_trans (Zone.le_trans k3 k14) k15) k16) k18) hx_x0_t)) ?_
      rintro v22 ww40 a72 ⟨z19, e7, q7, k19, rfl, hS42, hx7⟩ hf87
      refine ⟨fun _ => trivial, ?_⟩
      refine p_qn 3 [] [(3, pB b1 0), (4, pB b2 0), (7, vI r9), (8, pB b4 0), (15, vI (Int.tmod r23 1001)), (16, vI (w64 ((1 : Int) + (Int.tmod (if (w64 (0 - r25)) > r24 then (w64 (0 - r25)) else r24) 1000)))), (113, .agg #[.slice e7 r22.1.length q7]), (114, vI r22.2)] [] hf87 (by kernel_rfl) .nil fun a73 hf88 => ?_
      refine p_box (i := 8) (d := (some 17)) (cs := [.slice none 0 0]) (T := 24) (v := fun b11 => pB b11 0) hS42 hf88 (fun b => by kernel_rfl) fun b11 ww41 a74 hS43 hf89 => ⟨fun _ => trivial, ?_⟩
      refine p_store_eq (i := 9) (j := 0) (b := b11) (off := 0) (vs := [.slice e7 r22.1.length q7]) (cs' := [.slice e7 r22.1.length q7]) hS43 hf89 rfl (by kernel_rfl) (by kernel_rfl) rfl fun ww42 a75 hS44 hf90 => ⟨fun _ => trivial, ?_⟩
      refine p_qt [] [(3, pB b1 0), (4, pB b2 0), (7, vI r9), (8, pB b4 0), (15, vI (Int.tmod r23 1001)), (16, vI (w64 ((1 : Int) + (Int.tmod (if (w64 (0 - r25)) > r24 then (w64 (0 - r25)) else r24) 1000)))), (17, pB b11 0), (18, vI r22.2)] [] hf90 (by kernel_rfl) .nil fun a76 hf91 => ?_
      refine w_mid (by kernel_rfl) (fun a w => ∃ z20 : Zone, Zone.le z19 z20 ∧ Fr a 236 [(3, pB b1 0), (4, pB b2 0), (7, vI r9), (8, pB b4 0), (18, vI r22.2)] ∧ St z20 (box b11 [.slice e7 r22.1.length q7] 24 :: box b10 [vI r31.1, vI r31.2.1] 41 :: box b9 [.slice e6 r30.1.length q6] 24 :: box b4 [vI y3, vI y4, vI y5] 56 :: box b3 [vI y18, vI y16, vI y17, vI y13, vI y14] 84 :: box b2 [.slice o_x1_t x1_t.length c_x1_t, .slice o_x1_c x1_c.length c_x1_c] 27 :: box b1 [.slice o_x0_t x0_t.length c_x0_t, .slice o_x0_c x0_c.length c_x0_c] 27 :: L) w ∧ (F11_j4 fuel x0_t x1_t x1_c r9 y3 y4 y5 r22) = some r) ?_ ?_
      ·skip
       refine w_sq [] [(3, pB b1 0), (4, pB b2 0), (7, vI r9), (8, pB b4 0), (15, vI (Int.tmod r23 1001)), (16, vI (w64 ((1 : Int) + (Int.tmod (if (w64 (0 - r25)) > r24 then (w64 (0 - r25)) else r24) 1000)))), (17, pB b11 0), (18, vI r22.2), (116, .bool (r22.2 == (0 : Int)))] [] hf91 (by kernel_rfl) .nil fun a77 hf92 => ?_
       refine w_if hf92 (b := (r22.2 == (0 : Int))) (by kernel_rfl) (fun hb6 => ?_) (fun hb6 => ?_)
       ·have hr36 := cond_t hb6 hr35
        refine w_sr (by kernel_rfl) ?_
        refine p_qn 2 [.slice e7 r22.1.length q7] [(3, pB b1 0), (4, pB b2 0), (7, vI r9), (8, pB b4 0), (15, vI (Int.tmod r23 1001)), (16, vI (w64 ((1 : Int) + (Int.tmod (if (w64 (0 - r25)) > r24 then (w64 (0 - r25)) else r24) 1000)))), (18, vI r22.2), (118, .agg #[.slice e7 r22.1.length q7]), (119, vI r9)] [.cell ⟨b11, 0, none⟩ (.slice e7 r22.1.length q7)] hf92 (by kernel_rfl) (.cell (hS44.box (i := 0) rfl (j := 0) rfl) .nil) fun a78 hf93 => ?_
        obtain ⟨r26, hd23, hr37⟩ := bind_some hr36
        refine p_call (i := 2) (d := some 120) (f := 27) (args := #[.agg #[.slice e7 r22.1.length q7], vI r9]) hf93 (by kernel_rfl) (f27_ok fuel r22.1 r9 r26 hd23 z19 _ _ hS44 e7 q7 hx7) ?_
        rintro v23 ww43 a79 ⟨z21, k20, rfl, hS45⟩ hf94
        refine ⟨fun _ => trivial, ?_⟩
        refine p_qn 3 [] [(3, pB b1 0), (4, pB b2 0), (7, vI r9), (8, pB b4 0), (15, vI (Int.tmod r23 1001)), (16, vI (w64 ((1 : Int) + (Int.tmod (if (w64 (0 - r25)) > r24 then (w64 (0 - r25)) else r24) 1000)))), (18, vI r22.2), (121, .agg #[vI r26.1, vI r26.2.1]), (122, vI r26.2.2)] [] hf94 (by kernel_rfl) .nil fun a80 hf95 => ?_
        refine p_box (i := 6) (d := (some 19)) (cs := [vI 0, vI 0]) (T := 41) (v := fun b12 => pB b12 0) hS45 hf95 (fun b => by kernel_rfl) fun b12 ww44 a81 hS46 hf96 => ⟨fun _ => trivial, ?_⟩
        refine p_store_eq (i := 7) (j := 0) (b := b12) (off := 0) (vs := [vI r26.1, vI r26.2.1]) (cs' := [vI r26.1, vI r26.2.1]) hS46 hf96 rfl (by kernel_rfl) (by kernel_rfl) rfl fun ww45 a82 hS47 hf97 => ⟨fun _ => trivial, ?_⟩
        refine p_qt [] [(3, pB b1 0), (4, pB b2 0), (7, vI r9), (8, pB b4 0), (15, vI (Int.tmod r23 1001)), (16, vI (w64 ((1 : Int) + (Int.tmod (if (w64 (0 - r25)) > r24 then (w64 (0 - r25)) else r24) 1000)))), (18, vI r22.2), (19, pB b12 0), (20, vI r26.2.2)] [] hf97 (by kernel_rfl) .nil fun a83 hf98 => ?_
        refine w_mid (by kernel_rfl) (fun a w => ∃ z22 : Zone, ∃ y12 : Bool, Zone.le z21 z22 ∧ Fr a 236 [(3, pB b1 0), (4, pB b2 0), (7, vI r9), (8, pB b4 0), (18, vI r22.2), (132, .bool y12)] ∧ St z22 (box b12 [vI r26.1, vI r26.2.1] 41 :: box b11 [.slice e7 r22.1.length q7] 24 :: box b10 [vI r31.1, vI r31.2.1] 41 :: box b9 [.slice e6 r30.1.length q6] 24 :: box b4 [vI y3, vI y4, vI y5] 56 :: box b3 [vI y18, vI y16, vI y17, vI y13, vI y14] 84 :: box b2 [.slice o_x1_t x1_t.length c_x1_t, .slice o_x1_c x1_c.length c_x1_c] 27 :: box b1 [.slice o_x0_t x0_t.length c_x0_t, .slice o_x0_c x0_c.length c_x0_c] 27 :: L) w ∧ (F11_j5 fuel x0_t x1_t x1_c r9 y3 y4 y5 r22 y12) = some r) ?_ ?_
        ·skip
         refine w_reg (by kernel_rfl) ?_
         refine p_qn 3 [] [(3, pB b1 0), (4, pB b2 0), (7, vI r9), (8, pB b4 0), (15, vI (Int.tmod r23 1001)), (16, vI (w64 ((1 : Int) + (Int.tmod (if (w64 (0 - r25)) > r24 then (w64 (0 - r25)) else r24) 1000)))), (18, vI r22.2), (19, pB b12 0), (125, .bool (r26.2.2 != (0 : Int)))] [] hf98 (by kernel_rfl) .nil fun a84 hf99 => ?_
         rcases Bool.eq_false_or_eq_true (r26.2.2 != (0 : Int)) with hb7 | hb7
         ·have hr38 := cond_t hb7 hr37
          have hf100 := Fr.conv hf99 (congrArg (fun z => ([(3, pB b1 0), (4, pB b2 0), (7, vI r9), (8, pB b4 0), (15, vI (Int.tmod r23 1001)), (16, vI (w64 ((1 : Int) + (Int.tmod (if (w64 (0 - r25)) > r24 then (w64 (0 - r25)) else r24) 1000)))), (18, vI r22.2), (19, pB b12 0), (125, .bool z)] : FL)) hb7)
          refine p_qt [] [(3, pB b1 0), (4, pB b2 0), (7, vI r9), (8, pB b4 0), (18, vI r22.2), (132, .bool true)] [] hf100 (by kernel_rfl) .nil fun a85 hf101 => ?_
          have hf102 := Fr.keep (ks := [3, 4, 7, 8, 18, 132]) (r := [(3, pB b1 0), (4, pB b2 0), (7, vI r9), (8, pB b4 0), (18, vI r22.2), (132, .bool true)]) hf101 (by kernel_rfl)
          exact ⟨z21, true, (Zone.le_refl _), hf102, hS47, hr38⟩
         ·have hr39 := cond_f hb7 hr37
          have hf103 := Fr.conv hf99 (congrArg (fun z => ([(3, pB b1 0), (4, pB b2 0), (7, vI r9), (8, pB b4 0), (15, vI (Int.tmod r23 1001)), (16, vI (w64 ((1 : Int) + (Int.tmod (if (w64 (0 - r25)) > r24 then (w64 (0 - r25)) else r24) 1000)))), (18, vI r22.2), (19, pB b12 0), (125, .bool z)] : FL)) hb7)
          refine p_qn 4 [vI r26.1, vI r26.2.1, vI y3, vI y4, vI y5] [(3, pB b1 0), (4, pB b2 0), (7, vI r9), (8, pB b4 0), (18, vI r22.2), (125, .bool false), (126, .agg #[vI r26.1, vI r26.2.1]), (127, .agg #[vI y3, vI y4, vI y5]), (128, vI (Int.tmod r23 1001)), (129, vI (w64 ((1 : Int) + (Int.tmod (if (w64 (0 - r25)) > r24 then (w64 (0 - r25)) else r24) 1000))))] [.cell ⟨b12, 0, none⟩ (vI r26.1), .cell ⟨b12, 1, none⟩ (vI r26.2.1), .cell ⟨b4, 0, none⟩ (vI y3), .cell ⟨b4, 1, none⟩ (vI y4), .cell ⟨b4, 2, none⟩ (vI y5)] hf103 (by kernel_rfl) (.cell (hS47.box (i := 0) rfl (j := 0) rfl) (.cell (hS47.box (i := 0) rfl (j := 1) rfl) (.cell (hS47.box (i := 4) rfl (j := 0) rfl) (.cell (hS47.box (i := 4) rfl (j := 1) rfl) (.cell (hS47.box (i := 4) rfl (j := 2) rfl) .nil))))) fun a86 hf104 => ?_
          obtain ⟨r27, hd24, hr40⟩ := bind_some hr39
          refine p_call (i := 7) (d := some 130) (f := 72) (args := #[.agg #[vI r26.1, vI r26.2.1], .agg #[vI y3, vI y4, vI y5], vI (Int.tmod r23 1001), vI (w64 ((1 : Int) + (Int.tmod (if (w64 (0 - r25)) > r24 then (w64 (0 - r25)) else r24) 1000)))]) hf104 (by kernel_rfl) (f72_ok fuel r26.1 r26.2.1 y3 y4 y5 (Int.tmod r23 1001) (w64 ((1 : Int) + (Int.tmod (if (w64 (0 - r25)) > r24 then (w64 (0 - r25)) else r24) 1000))) r27 hd24 z21 _ _ hS47 ) ?_
          rintro v24 ww46 a87 ⟨z23, k21, rfl, hS48⟩ hf105
          refine ⟨fun _ => trivial, ?_⟩
          refine p_qt [] [(3, pB b1 0), (4, pB b2 0), (7, vI r9), (8, pB b4 0), (18, vI r22.2), (132, .bool (!r27))] [] hf105 (by kernel_rfl) .nil fun a88 hf106 => ?_
          have hf107 := Fr.keep (ks := [3, 4, 7, 8, 18, 132]) (r := [(3, pB b1 0), (4, pB b2 0), (7, vI r9), (8, pB b4 0), (18, vI r22.2), (132, .bool (!r27))]) hf106 (by kernel_rfl)
          exact ⟨z23, (!r27), k21, hf107, hS48, hr40⟩
        ·rintro a89 ww47 ⟨z22, y12, k22, hf108, hS49, hr41⟩
         refine w_if hf108 (b := y12) (by kernel_rfl) (fun hb8 => ?_) (fun hb8 => ?_)
         ·have hr42 := cond_t hb8 hr41
          refine w_sq [] [(6, .bool false)] [] hf108 (by kernel_rfl) .nil fun a90 hf109 => ?_
          refine w_ret (by kernel_rfl) ?_
          refine r_then ?_
          refine p_ret (os := []) (v := .bool false) (obs := []) hf109 (by kernel_rfl) .nil ?_
          obtain rfl := some_eq hr42
          exact ⟨_, rfl, z22, (Zone.le_trans (Zone.le_trans (Zone.le_trans (Zone.le_trans (Zone.le_trans (Zone.le_trans (Zone.le_trans k3 k14) k15) k16) k18) k19) k20) k22), rfl, (St.drop 8 hS49)⟩
         ·have hr43 := cond_f hb8 hr41
          refine w_skip (by kernel_rfl) ?_
          refine n_then ?_
          have hf110 := Fr.keep (ks := [3, 4, 7, 8, 18]) (r := [(3, pB b1 0), (4, pB b2 0), (7, vI r9), (8, pB b4 0), (18, vI r22.2)]) hf108 (by kernel_rfl)
          exact ⟨z22, (Zone.le_trans k20 k22), hf110, (St.drop 1 hS49), hr43⟩
       ·have hr44 := cond_f hb6 hr35
        refine w_skip (by kernel_rfl) ?_
        refine n_then ?_
        have hf111 := Fr.keep (ks := [3, 4, 7, 8, 18]) (r := [(3, pB b1 0), (4, pB b2 0), (7, vI r9), (8, pB b4 0), (18, vI r22.2)]) hf92 (by kernel_rfl)
        exact ⟨z19, (Zone.le_refl _), hf111, hS44, hr44⟩
      ·rintro a91 ww48 ⟨z20, k23, hf112, hS50, hr45⟩
       refine w_seq (by kernel_rfl) ?_
       refine w_mid (by kernel_rfl) (fun a w => ∃ z24 : Zone, ∃ y11 : Bool, Zone.le z20 z24 ∧ Fr a 236 [(3, pB b1 0), (4, pB b2 0), (7, vI r9), (8, pB b4 0), (138, .bool y11)] ∧ St z24 (box b11 [.slice e7 r22.1.length q7] 24 :: box b10 [vI r31.1, vI r31.2.1] 41 :: box b9 [.slice e6 r30.1.length q6] 24 :: box b4 [vI y3, vI y4, vI y5] 56 :: box b3 [vI y18, vI y16, vI y17, vI y13, vI y14] 84 :: box b2 [.slice o_x1_t x1_t.length c_x1_t, .slice o_x1_c x1_c.length c_x1_c] 27 :: box b1 [.slice o_x0_t x0_t.length c_x0_t, .slice o_x0_c x0_c.length c_x0_c] 27 :: L) w ∧ (F11_j6 fuel x0_t x1_t x1_c r9 y3 y4 y5 y11) = some r) ?_ ?_
       ·skip
        refine w_reg (by kernel_rfl) ?_
        refine p_qn 3 [] [(3, pB b1 0), (4, pB b2 0), (7, vI r9), (8, pB b4 0), (18, vI r22.2), (135, .bool (r22.2 != (0 : Int)))] [] hf112 (by kernel_rfl) .nil fun a92 hf113 => ?_
        rcases Bool.eq_false_or_eq_true (r22.2 != (0 : Int)) with hb9 | hb9
        ·have hr46 := cond_t hb9 hr45
         have hf114 := Fr.conv hf113 (congrArg (fun z => ([(3, pB b1 0), (4, pB b2 0), (7, vI r9), (8, pB b4 0), (18, vI r22.2), (135, .bool z)] : FL)) hb9)
         refine p_qt [] [(3, pB b1 0), (4, pB b2 0), (7, vI r9), (8, pB b4 0), (138, .bool (r22.2 != (5 : Int)))] [] hf114 (by kernel_rfl) .nil fun a93 hf115 => ?_
         have hf116 := Fr.keep (ks := [3, 4, 7, 8, 138]) (r := [(3, pB b1 0), (4, pB b2 0), (7, vI r9), (8, pB b4 0), (138, .bool (r22.2 != (5 : Int)))]) hf115 (by kernel_rfl)
         exact ⟨z20, (r22.2 != (5 : Int)), (Zone.le_refl _), hf116, hS50, hr46⟩
        ·have hr47 := cond_f hb9 hr45
         have hf117 := Fr.conv hf113 (congrArg (fun z => ([(3, pB b1 0), (4, pB b2 0), (7, vI r9), (8, pB b4 0), (18, vI r22.2), (135, .bool z)] : FL)) hb9)
         refine p_qt [] [(3, pB b1 0), (4, pB b2 0), (7, vI r9), (8, pB b4 0), (138, .bool false)] [] hf117 (by kernel_rfl) .nil fun a94 hf118 => ?_
         have hf119 := Fr.keep (ks := [3, 4, 7, 8, 138]) (r := [(3, pB b1 0), (4, pB b2 0), (7, vI r9), (8, pB b4 0), (138, .bool false)]) hf118 (by kernel_rfl)
         exact ⟨z20, false, (Zone.le_refl _), hf119, hS50, hr47⟩
       ·rintro a95 ww49 ⟨z24, y11, k24, hf120, hS51, hr48⟩
        refine w_if hf120 (b := y11) (by kernel_rfl) (fun hb10 => ?_) (fun hb10 => ?_)
        ·have hr49 := cond_t hb10 hr48
         refine w_sq [] [(6, .bool false)] [] hf120 (by kernel_rfl) .nil fun a96 hf121 => ?_
         refine w_ret (by kernel_rfl) ?_
         refine r_then ?_
         refine p_ret (os := []) (v := .bool false) (obs := []) hf121 (by kernel_rfl) .nil ?_
         obtain rfl := some_eq hr49
         exact ⟨_, rfl, z24, (Zone.le_trans (Zone.le_trans (Zone.le_trans (Zone.le_trans (Zone.le_trans (Zone.le_trans (Zone.le_trans k3 k14) k15) k16) k18) k19) k23) k24), rfl, (St.drop 7 hS51)⟩
        ·have hr50 := cond_f hb10 hr48
         refine w_skip (by kernel_rfl) ?_
         refine n_then ?_
         refine w_seq (by kernel_rfl) ?_
         refine w_mid (by kernel_rfl) (fun a w => ∃ z25 : Zone, ∃ y10 : Bool, Zone.le z24 z25 ∧ Fr a 236 [(3, pB b1 0), (4, pB b2 0), (7, vI r9), (8, pB b4 0), (150, .bool y10)] ∧ St z25 (box b11 [.slice e7 r22.1.length q7] 24 :: box b10 [vI r31.1, vI r31.2.1] 41 :: box b9 [.slice e6 r30.1.length q6] 24 :: box b4 [vI y3, vI y4, vI y5] 56 :: box b3 [vI y18, vI y16, vI y17, vI y13, vI y14] 84 :: box b2 [.slice o_x1_t x1_t.length c_x1_t, .slice o_x1_c x1_c.length c_x1_c] 27 :: box b1 [.slice o_x0_t x0_t.length c_x0_t, .slice o_x0_c x0_c.length c_x0_c] 27 :: L) w ∧ (F11_j7 fuel x0_t x1_t x1_c r9 y3 y4 y5 y10) = some r) ?_ ?_
         ·skip
          refine w_reg (by kernel_rfl) ?_
          refine p_qn 3 [.slice o_x1_t x1_t.length c_x1_t] [(3, pB b1 0), (4, pB b2 0), (7, vI r9), (8, pB b4 0), (139, vI r9), (141, .agg #[.slice o_x1_t x1_t.length c_x1_t])] [.cell ⟨b2, 0, none⟩ (.slice o_x1_t x1_t.length c_x1_t)] hf120 (by kernel_rfl) (.cell (hS51.box (i := 5) rfl (j := 0) rfl) .nil) fun a97 hf122 => ?_
          obtain ⟨r20, hd25, hr51⟩ := bind_some hr50
          refine p_call (i := 3) (d := some 142) (f := 73) (args := #[.agg #[.slice o_x1_t x1_t.length c_x1_t]]) hf122 (by kernel_rfl) (f73_ok fuel x1_t r20 hd25 z24 _ _ hS51 o_x1_t c_x1_t (SliceR.mono (Zone.le_trans (Zone.le_trans (Zone.le_trans (Zone.le_trans (Zone.le_trans (Zone.le_trans (Zone.le_trans k3 k14) k15) k16) k18) k19) k23) k24) hx_x1_t)) ?_
          rintro v25 ww50 a98 ⟨rfl, hS52⟩ hf123
          refine ⟨fun _ => trivial, ?_⟩
          refine p_qn 2 [] [(3, pB b1 0), (4, pB b2 0), (7, vI r9), (8, pB b4 0), (144, .bool (decide (r9 < r20)))] [] hf123 (by kernel_rfl) .nil fun a99 hf124 => ?_
          rcases Bool.eq_false_or_eq_true (decide (r9 < r20)) with hb11 | hb11
          ·have hr52 := cond_t hb11 hr51
           have hf125 := Fr.conv hf124 (congrArg (fun z => ([(3, pB b1 0), (4, pB b2 0), (7, vI r9), (8, pB b4 0), (144, .bool z)] : FL)) hb11)
           refine p_qt [] [(3, pB b1 0), (4, pB b2 0), (7, vI r9), (8, pB b4 0), (150, .bool true)] [] hf125 (by kernel_rfl) .nil fun a100 hf126 => ?_
           have hf127 := Fr.keep (ks := [3, 4, 7, 8, 150]) (r := [(3, pB b1 0), (4, pB b2 0), (7, vI r9), (8, pB b4 0), (150, .bool true)]) hf126 (by kernel_rfl)
           exact ⟨z24, true, (Zone.le_refl _), hf127, hS52, hr52⟩
          ·have hr53 := cond_f hb11 hr51
           have hf128 := Fr.conv hf124 (congrArg (fun z => ([(3, pB b1 0), (4, pB b2 0), (7, vI r9), (8, pB b4 0), (144, .bool z)] : FL)) hb11)
           refine p_qn 3 [.slice o_x1_t x1_t.length c_x1_t] [(3, pB b1 0), (4, pB b2 0), (7, vI r9), (8, pB b4 0), (144, .bool false), (145, vI r9), (147, .agg #[.slice o_x1_t x1_t.length c_x1_t])] [.cell ⟨b2, 0, none⟩ (.slice o_x1_t x1_t.length c_x1_t)] hf128 (by kernel_rfl) (.cell (hS52.box (i := 5) rfl (j := 0) rfl) .nil) fun a101 hf129 => ?_
           obtain ⟨r21, hd26, hr54⟩ := bind_some hr53
           refine p_call (i := 9) (d := some 148) (f := 74) (args := #[.agg #[.slice o_x1_t x1_t.length c_x1_t]]) hf129 (by kernel_rfl) (f74_ok fuel x1_t r21 hd26 z24 _ _ hS52 o_x1_t c_x1_t (SliceR.mono (Zone.le_trans (Zone.le_trans (Zone.le_trans (Zone.le_trans (Zone.le_trans (Zone.le_trans (Zone.le_trans k3 k14) k15) k16) k18) k19) k23) k24) hx_x1_t)) ?_
           rintro v26 ww51 a102 ⟨rfl, hS53⟩ hf130
           refine ⟨fun _ => trivial, ?_⟩
           refine p_qt [] [(3, pB b1 0), (4, pB b2 0), (7, vI r9), (8, pB b4 0), (150, .bool (decide (r9 > r21)))] [] hf130 (by kernel_rfl) .nil fun a103 hf131 => ?_
           have hf132 := Fr.keep (ks := [3, 4, 7, 8, 150]) (r := [(3, pB b1 0), (4, pB b2 0), (7, vI r9), (8, pB b4 0), (150, .bool (decide (r9 > r21)))]) hf131 (by kernel_rfl)
           exact ⟨z24, (decide (r9 > r21)), (Zone.le_refl _), hf132, hS53, hr54⟩
         ·rintro a104 ww52 ⟨z25, y10, k25, hf133, hS54, hr55⟩
          refine w_if hf133 (b := y10) (by kernel_rfl) (fun hb12 => ?_) (fun hb12 => ?_)
          ·have hr56 := cond_t hb12 hr55
           refine w_sr (by kernel_rfl) ?_
           obtain ⟨r16, hd27, hr57⟩ := bind_some hr56
           refine p_call (i := 0) (d := some 151) (f := 13) (args := #[]) hf133 (by kernel_rfl) (f13_ok fuel  r16 hd27 z25 _ _ hS54 ) ?_
           rintro v27 ww53 a105 ⟨z26, k26, rfl, hS55⟩ hf134
           refine ⟨fun _ => trivial, ?_⟩
           refine p_qt [] [(6, .bool r16)] [] hf134 (by kernel_rfl) .nil fun a106 hf135 => ?_
           refine w_ret (by kernel_rfl) ?_
           refine r_then ?_
           refine p_ret (os := []) (v := .bool r16) (obs := []) hf135 (by kernel_rfl) .nil ?_
           obtain rfl := some_eq hr57
           exact ⟨_, rfl, z26, (Zone.le_trans (Zone.le_trans (Zone.le_trans (Zone.le_trans (Zone.le_trans (Zone.le_trans (Zone.le_trans (Zone.le_trans (Zone.le_trans k3 k14) k15) k16) k18) k19) k23) k24) k25) k26), rfl, (St.drop 7 hS55)⟩
          ·have hr58 := cond_f hb12 hr55
           refine w_skip (by kernel_rfl) ?_
           refine n_then ?_
           refine w_mid (by kernel_rfl) (fun a w => ∃ z27 : Zone, ∃ y6 : Int, ∃ y7 : Int, ∃ y8 : Int, ∃ b13 : Nat, Zone.le z25 z27 ∧ Fr a 236 [(3, pB b1 0), (4, pB b2 0), (7, vI r9), (8, pB b4 0), (21, pB b13 0)] ∧ St z27 (box b13 [vI y6, vI y7, vI y8] 56 :: box b11 [.slice e7 r22.1.length q7] 24 :: box b10 [vI r31.1, vI r31.2.1] 41 :: box b9 [.slice e6 r30.1.length q6] 24 :: box b4 [vI y3, vI y4, vI y5] 56 :: box b3 [vI y18, vI y16, vI y17, vI y13, vI y14] 84 :: box b2 [.slice o_x1_t x1_t.length c_x1_t, .slice o_x1_c x1_c.length c_x1_c] 27 :: box b1 [.slice o_x0_t x0_t.length c_x0_t, .slice o_x0_c x0_c.length c_x0_c] 27 :: L) w ∧ (F11_j8 fuel x0_t x1_t r9 y3 y4 y5 y6 y7 y8) = some r) ?_ ?_
           ·skip
            have hS56 := hS54.drew
            have s9 : Sub z25 (box b11 [.slice e7 r22.1.length q7] 24 :: box b10 [vI r31.1, vI r31.2.1] 41 :: box b9 [.slice e6 r30.1.length q6] 24 :: box b4 [vI y3, vI y4, vI y5] 56 :: box b3 [vI y18, vI y16, vI y17, vI y13, vI y14] 84 :: box b2 [.slice o_x1_t x1_t.length c_x1_t, .slice o_x1_c x1_c.length c_x1_c] 27 :: box b1 [.slice o_x0_t x0_t.length c_x0_t, .slice o_x0_c x0_c.length c_x0_c] 27 :: L) _ := Sub.of (Zone.le_refl _) hS56
            refine w_regB (by kernel_rfl) [4, 6, 8] (Sub z25 (box b11 [.slice e7 r22.1.length q7] 24 :: box b10 [vI r31.1, vI r31.2.1] 41 :: box b9 [.slice e6 r30.1.length q6] 24 :: box b4 [vI y3, vI y4, vI y5] 56 :: box b3 [vI y18, vI y16, vI y17, vI y13, vI y14] 84 :: box b2 [.slice o_x1_t x1_t.length c_x1_t, .slice o_x1_c x1_c.length c_x1_c] 27 :: box b1 [.slice o_x0_t x0_t.length c_x0_t, .slice o_x0_c x0_c.length c_x0_c] 27 :: L)) (by kernel_rfl) ?_
            refine k_seg' 5 [(0, true), (1, true), (3, true), (5, true)] (by kernel_rfl) (by kernel_rfl) (At.start s9) (by kernel_rfl) ?_
            refine p_qS 4 [.slice o_x1_t x1_t.length c_x1_t, .slice o_x1_t x1_t.length c_x1_t, .slice o_x1_c x1_c.length c_x1_c] [(3, pB b1 0), (4, pB b2 0), (7, vI r9), (8, pB b4 0), (153, .agg #[.slice o_x1_t x1_t.length c_x1_t]), (155, .agg #[.slice o_x1_t x1_t.length c_x1_t, .slice o_x1_c x1_c.length c_x1_c]), (157, vI r9)] [.cell ⟨b2, 0, none⟩ (.slice o_x1_t x1_t.length c_x1_t), .cell ⟨b2, 0, none⟩ (.slice o_x1_t x1_t.length c_x1_t), .cell ⟨b2, 1, none⟩ (.slice o_x1_c x1_c.length c_x1_c)] [] s9 hf133 (by kernel_rfl) (fun _ s => (.cell (s.box (i := 5) rfl (j := 0) rfl) (.cell (s.box (i := 5) rfl (j := 0) rfl) (.cell (s.box (i := 5) rfl (j := 1) rfl) .nil)))) .nil fun a107 hf136 => ?_
            refine p_done (by kernel_rfl) ?_
            intro hA14
            refine k_any' 4 [2, 7] (by kernel_rfl) hA14 (by kernel_rfl) (by kernel_rfl) ?_
            refine (all_cons ?_ (all_cons ?_ all_nil))
            ·skip
             obtain ⟨r17, hd28, hr59⟩ := bind_some hr58
             refine p_call (i := 2) (d := some 154) (f := 16) (args := #[.agg #[.slice o_x1_t x1_t.length c_x1_t]]) hf136 (by kernel_rfl) (f16_ok fuel x1_t r17 hd28 z25 _ _ hS56 o_x1_t c_x1_t (SliceR.mono (Zone.le_trans (Zone.le_trans (Zone.le_trans (Zone.le_trans (Zone.le_trans (Zone.le_trans (Zone.le_trans (Zone.le_trans k3 k14) k15) k16) k18) k19) k23) k24) k25) hx_x1_t)) ?_
             rintro v28 ww54 a108 ⟨z28, e8, q8, k27, rfl, hS57, hx8⟩ hf137
             refine ⟨fun _ => Sub.of k27 hS57, ?_⟩
             refine p_done (by kernel_rfl) ?_
             intro hA15
             have s10 : Sub z25 (box b11 [.slice e7 r22.1.length q7] 24 :: box b10 [vI r31.1, vI r31.2.1] 41 :: box b9 [.slice e6 r30.1.length q6] 24 :: box b4 [vI y3, vI y4, vI y5] 56 :: box b3 [vI y18, vI y16, vI y17, vI y13, vI y14] 84 :: box b2 [.slice o_x1_t x1_t.length c_x1_t, .slice o_x1_c x1_c.length c_x1_c] 27 :: box b1 [.slice o_x0_t x0_t.length c_x0_t, .slice o_x0_c x0_c.length c_x0_c] 27 :: L) _ := Sub.of k27 hS57
             refine k_seg' 4 [] (by kernel_rfl) (by kernel_rfl) hA15 (by kernel_rfl) ?_
             refine p_done (by kernel_rfl) ?_
             intro hA16
             refine k_any' 3 [4, 7] (by kernel_rfl) hA16 (by kernel_rfl) (by kernel_rfl) ?_
             refine (all_cons ?_ (all_cons ?_ all_nil))
             ·skip
              obtain ⟨r18, hd29, hr60⟩ := bind_some hr59
              refine p_call (i := 4) (d := some 156) (f := 17) (args := #[.agg #[.slice o_x1_t x1_t.length c_x1_t, .slice o_x1_c x1_c.length c_x1_c]]) hf137 (by kernel_rfl) (f17_ok fuel x1_t x1_c r18 hd29 z28 _ _ hS57 o_x1_t c_x1_t (SliceR.mono (Zone.le_trans (Zone.le_trans (Zone.le_trans (Zone.le_trans (Zone.le_trans (Zone.le_trans (Zone.le_trans (Zone.le_trans (Zone.le_trans k3 k14) k15) k16) k18) k19) k23) k24) k25) k27) hx_x1_t) o_x1_c c_x1_c (SliceR.mono (Zone.le_trans (Zone.le_trans (Zone.le_trans (Zone.le_trans (Zone.le_trans (Zone.le_trans (Zone.le_trans (Zone.le_trans (Zone.le_trans k3 k14) k15) k16) k18) k19) k23) k24) k25) k27) hx_x1_c)) ?_
              rintro v29 ww55 a109 ⟨z29, e9, q9, k28, rfl, hS58, hx9⟩ hf138
              refine ⟨fun e => absurd e (by decide), ?_⟩
              refine p_done (by kernel_rfl) ?_
              intro hA17
              refine k_seg' 3 [] (by kernel_rfl) (by kernel_rfl) hA17 (by kernel_rfl) ?_
              refine p_done (by kernel_rfl) ?_
              intro hA18
              refine k_any' 2 [6, 7] (by kernel_rfl) hA18 (by kernel_rfl) (by kernel_rfl) ?_
              refine (all_cons ?_ (all_cons ?_ all_nil))
              ·skip
               obtain ⟨r19, hd30, hr61⟩ := bind_some hr60
               refine p_call (i := 6) (d := some 158) (f := 30) (args := #[.slice e8 r17.length q8, .slice e9 r18.length q9, vI r9]) hf138 (by kernel_rfl) (f30_ok fuel r17 r18 r9 r19 hd30 z29 _ _ hS58 e8 q8 (SliceR.mono k28 hx8) e9 q9 hx9) ?_
               rintro v30 ww56 a110 ⟨z30, k29, rfl, hS59⟩ hf139
               refine ⟨fun e => absurd e (by decide), ?_⟩
               refine p_done (by kernel_rfl) ?_
               intro hA19
               refine k_seg' 0 [(7, false), (8, false)] (by kernel_rfl) (by kernel_rfl) hA19 (by kernel_rfl) ?_
               refine p_box (i := 7) (d := (some 21)) (cs := [vI 0, vI 0, vI 0]) (T := 56) (v := fun b14 => pB b14 0) hS59 hf139 (fun b => by kernel_rfl) fun b14 ww57 a111 hS60 hf140 => ⟨fun _ => Sub.of (Zone.le_trans (Zone.le_trans k27 k28) k29) (St.drop 1 hS60), ?_⟩
               have s11 : Sub z25 (box b11 [.slice e7 r22.1.length q7] 24 :: box b10 [vI r31.1, vI r31.2.1] 41 :: box b9 [.slice e6 r30.1.length q6] 24 :: box b4 [vI y3, vI y4, vI y5] 56 :: box b3 [vI y18, vI y16, vI y17, vI y13, vI y14] 84 :: box b2 [.slice o_x1_t x1_t.length c_x1_t, .slice o_x1_c x1_c.length c_x1_c] 27 :: box b1 [.slice o_x0_t x0_t.length c_x0_t, .slice o_x0_c x0_c.length c_x0_c] 27 :: L) _ := Sub.of (Zone.le_trans (Zone.le_trans k27 k28) k29) (St.drop 1 hS60)
               refine p_store_eq (i := 8) (j := 0) (b := b14) (off := 0) (vs := [vI r19.1, vI r19.2.1, vI r19.2.2]) (cs' := [vI r19.1, vI r19.2.1, vI r19.2.2]) hS60 hf140 rfl (by kernel_rfl) (by kernel_rfl) rfl fun ww58 a112 hS61 hf141 => ⟨fun e => absurd e (by decide), ?_⟩
               refine p_done (by kernel_rfl) ?_
               intro hA20
               refine k_done' (by kernel_rfl) (by kernel_rfl) ?_
               refine n_then ?_
               have hf142 := Fr.keep (ks := [3, 4, 7, 8, 21]) (r := [(3, pB b1 0), (4, pB b2 0), (7, vI r9), (8, pB b4 0), (21, pB b14 0)]) hf141 (by kernel_rfl)
               exact ⟨z30, r19.1, r19.2.1, r19.2.2, b14, (Zone.le_trans (Zone.le_trans k27 k28) k29), hf142, (St.pick 1 [0] hS61 (by kernel_rfl)), hr61⟩
              ·skip
               refine p_box (i := 7) (d := (some 21)) (cs := [vI 0, vI 0, vI 0]) (T := 56) (v := fun b15 => pB b15 0) hS58 hf138 (fun b => by kernel_rfl) fun b15 ww59 a113 hS62 hf143 => ⟨fun _ => Sub.of (Zone.le_trans k27 k28) (St.drop 1 hS62), ?_⟩
               refine p_done (by kernel_rfl) ?_
               intro hA21
               refine k_seg' 0 [(6, false), (8, false)] (by kernel_rfl) (by kernel_rfl) hA21 (by kernel_rfl) ?_
               obtain ⟨r45, hd31, hr62⟩ := bind_some hr60
               refine p_call (i := 6) (d := some 158) (f := 30) (args := #[.slice e8 r17.length q8, .slice e9 r18.length q9, vI r9]) hf143 (by kernel_rfl) (f30_ok fuel r17 r18 r9 r45 hd31 z29 _ _ hS62 e8 q8 (SliceR.mono k28 hx8) e9 q9 hx9) ?_
               rintro v31 ww60 a114 ⟨z31, k30, rfl, hS63⟩ hf144
               refine ⟨fun e => absurd e (by decide), ?_⟩
               refine p_store_eq (i := 8) (j := 0) (b := b15) (off := 0) (vs := [vI r45.1, vI r45.2.1, vI r45.2.2]) (cs' := [vI r45.1, vI r45.2.1, vI r45.2.2]) hS63 hf144 rfl (by kernel_rfl) (by kernel_rfl) rfl fun ww61 a115 hS64 hf145 => ⟨fun e => absurd e (by decide), ?_⟩
               refine p_done (by kernel_rfl) ?_
               intro hA22
               refine k_done' (by kernel_rfl) (by kernel_rfl) ?_
               refine n_then ?_
               have hf146 := Fr.keep (ks := [3, 4, 7, 8, 21]) (r := [(3, pB b1 0), (4, pB b2 0), (7, vI r9), (8, pB b4 0), (21, pB b15 0)]) hf145 (by kernel_rfl)
               exact ⟨z31, r45.1, r45.2.1, r45.2.2, b15, (Zone.le_trans (Zone.le_trans k27 k28) k30), hf146, (St.pick 1 [0] hS64 (by kernel_rfl)), hr62⟩
             ·skip
              refine p_box (i := 7) (d := (some 21)) (cs := [vI 0, vI 0, vI 0]) (T := 56) (v := fun b16 => pB b16 0) hS57 hf137 (fun b => by kernel_rfl) fun b16 ww62 a116 hS65 hf147 => ⟨fun _ => Sub.of k27 (St.drop 1 hS65), ?_⟩
              refine p_done (by kernel_rfl) ?_
              intro hA23
              have s12 : Sub z25 (box b11 [.slice e7 r22.1.length q7] 24 :: box b10 [vI r31.1, vI r31.2.1] 41 :: box b9 [.slice e6 r30.1.length q6] 24 :: box b4 [vI y3, vI y4, vI y5] 56 :: box b3 [vI y18, vI y16, vI y17, vI y13, vI y14] 84 :: box b2 [.slice o_x1_t x1_t.length c_x1_t, .slice o_x1_c x1_c.length c_x1_c] 27 :: box b1 [.slice o_x0_t x0_t.length c_x0_t, .slice o_x0_c x0_c.length c_x0_c] 27 :: L) _ := Sub.of k27 (St.drop 1 hS65)
              refine k_seg' 0 [(4, false), (6, false), (8, false)] (by kernel_rfl) (by kernel_rfl) hA23 (by kernel_rfl) ?_
              obtain ⟨r46, hd32, hr63⟩ := bind_some hr59
              refine p_call (i := 4) (d := some 156) (f := 17) (args := #[.agg #[.slice o_x1_t x1_t.length c_x1_t, .slice o_x1_c x1_c.length c_x1_c]]) hf147 (by kernel_rfl) (f17_ok fuel x1_t x1_c r46 hd32 z28 _ _ hS65 o_x1_t c_x1_t (SliceR.mono (Zone.le_trans (Zone.le_trans (Zone.le_trans (Zone.le_trans (Zone.le_trans (Zone.le_trans (Zone.le_trans (Zone.le_trans (Zone.le_trans k3 k14) k15) k16) k18) k19) k23) k24) k25) k27) hx_x1_t) o_x1_c c_x1_c (SliceR.mono (Zone.le_trans (Zone.le_trans (Zone.le_trans (Zone.le_trans (Zone.le_trans (Zone.le_trans (Zone.le_trans (Zone.le_trans (Zone.le_trans k3 k14) k15) k16) k18) k19) k23) k24) k25) k27) hx_x1_c)) ?_
              rintro v32 ww63 a117 ⟨z32, e10, q10, k31, rfl, hS66, hx10⟩ hf148
              refine ⟨fun e => absurd e (by decide), ?_⟩
              obtain ⟨r47, hd33, hr64⟩ := bind_some hr63
              refine p_call (i := 6) (d := some 158) (f := 30) (args := #[.slice e8 r17.length q8, .slice e10 r46.length q10, vI r9]) hf148 (by kernel_rfl) (f30_ok fuel r17 r46 r9 r47 hd33 z32 _ _ hS66 e8 q8 (SliceR.mono k31 hx8) e10 q10 hx10) ?_
              rintro v33 ww64 a118 ⟨z33, k32, rfl, hS67⟩ hf149
              refine ⟨fun e => absurd e (by decide), ?_⟩
              refine p_store_eq (i := 8) (j := 0) (b := b16) (off := 0) (vs := [vI r47.1, vI r47.2.1, vI r47.2.2]) (cs' := [vI r47.1, vI r47.2.1, vI r47.2.2]) hS67 hf149 rfl (by kernel_rfl) (by kernel_rfl) rfl fun ww65 a119 hS68 hf150 => ⟨fun e => absurd e (by decide), ?_⟩
              refine p_done (by kernel_rfl) ?_
              intro hA24
              refine k_done' (by kernel_rfl) (by kernel_rfl) ?_
              refine n_then ?_
              have hf151 := Fr.keep (ks := [3, 4, 7, 8, 21]) (r := [(3, pB b1 0), (4, pB b2 0), (7, vI r9), (8, pB b4 0), (21, pB b16 0)]) hf150 (by kernel_rfl)
              exact ⟨z33, r47.1, r47.2.1, r47.2.2, b16, (Zone.le_trans (Zone.le_trans k27 k31) k32), hf151, (St.pick 1 [0] hS68 (by kernel_rfl)), hr64⟩
            ·skip
             refine p_box (i := 7) (d := (some 21)) (cs := [vI 0, vI 0, vI 0]) (T := 56) (v := fun b17 => pB b17 0) hS56 hf136 (fun b => by kernel_rfl) fun b17 ww66 a120 hS69 hf152 => ⟨fun _ => Sub.of (Zone.le_refl _) (St.drop 1 hS69), ?_⟩
             refine p_done (by kernel_rfl) ?_
             intro hA25
             have s13 : Sub z25 (box b11 [.slice e7 r22.1.length q7] 24 :: box b10 [vI r31.1, vI r31.2.1] 41 :: box b9 [.slice e6 r30.1.length q6] 24 :: box b4 [vI y3, vI y4, vI y5] 56 :: box b3 [vI y18, vI y16, vI y17, vI y13, vI y14] 84 :: box b2 [.slice o_x1_t x1_t.length c_x1_t, .slice o_x1_c x1_c.length c_x1_c] 27 :: box b1 [.slice o_x0_t x0_t.length c_x0_t, .slice o_x0_c x0_c.length c_x0_c] 27 :: L) _ := Sub.of (Zone.le_refl _) (St.drop 1 hS69)
             refine k_seg' 0 [(2, false), (4, false), (6, false), (8, false)] (by kernel_rfl) (by kernel_rfl) hA25 (by kernel_rfl) ?_
             obtain ⟨r48, hd34, hr65⟩ := bind_some hr58
             refine p_call (i := 2) (d := some 154) (f := 16) (args := #[.agg #[.slice o_x1_t x1_t.length c_x1_t]]) hf152 (by kernel_rfl) (f16_ok fuel x1_t r48 hd34 z25 _ _ hS69 o_x1_t c_x1_t (SliceR.mono (Zone.le_trans (Zone.le_trans (Zone.le_trans (Zone.le_trans (Zone.le_trans (Zone.le_trans (Zone.le_trans (Zone.le_trans k3 k14) k15) k16) k18) k19) k23) k24) k25) hx_x1_t)) ?_
             rintro v34 ww67 a121 ⟨z34, e11, q11, k33, rfl, hS70, hx11⟩ hf153
             refine ⟨fun _ => Sub.of k33 (St.drop 1 hS70), ?_⟩
             have s14 : Sub z25 (box b11 [.slice e7 r22.1.length q7] 24 :: box b10 [vI r31.1, vI r31.2.1] 41 :: box b9 [.slice e6 r30.1.length q6] 24 :: box b4 [vI y3, vI y4, vI y5] 56 :: box b3 [vI y18, vI y16, vI y17, vI y13, vI y14] 84 :: box b2 [.slice o_x1_t x1_t.length c_x1_t, .slice o_x1_c x1_c.length c_x1_c] 27 :: box b1 [.slice o_x0_t x0_t.length c_x0_t, .slice o_x0_c x0_c.length c_x0_c] 27 :: L) _ := Sub.of k33 (St.drop 1 hS70)
             obtain ⟨r49, hd35, hr66⟩ := bind_some hr65
             refine p_call (i := 4) (d := some 156) (f := 17) (args := #[.agg #[.slice o_x1_t x1_t.length c_x1_t, .slice o_x1_c x1_c.length c_x1_c]]) hf153 (by kernel_rfl) (f17_ok fuel x1_t x1_c r49 hd35 z34 _ _ hS70 o_x1_t c_x1_t (SliceR.mono (Zone.le_trans (Zone.le_trans (Zone.le_trans (Zone.le_trans (Zone.le_trans (Zone.le_trans (Zone.le_trans (Zone.le_trans (Zone.le_trans k3 k14) k15) k16) k18) k19) k23) k24) k25) k33) hx_x1_t) o_x1_c c_x1_c (SliceR.mono (Zone.le_trans (Zone.le_trans (Zone.le_trans (Zone.le_trans (Zone.le_trans (Zone.le_trans (Zone.le_trans (Zone.le_trans (Zone.le_trans k3 k14) k15) k16) k18) k19) k23) k24) k25) k33) hx_x1_c)) ?_
             rintro v35 ww68 a122 ⟨z35, e12, q12, k34, rfl, hS71, hx12⟩ hf154
             refine ⟨fun e => absurd e (by decide), ?_⟩
             obtain ⟨r50, hd36, hr67⟩ := bind_some hr66
             refine p_call (i := 6) (d := some 158) (f := 30) (args := #[.slice e11 r48.length q11, .slice e12 r49.length q12, vI r9]) hf154 (by kernel_rfl) (f30_ok fuel r48 r49 r9 r50 hd36 z35 _ _ hS71 e11 q11 (SliceR.mono k34 hx11) e12 q12 hx12) ?_
             rintro v36 ww69 a123 ⟨z36, k35, rfl, hS72⟩ hf155
             refine ⟨fun e => absurd e (by decide), ?_⟩
             refine p_store_eq (i := 8) (j := 0) (b := b17) (off := 0) (vs := [vI r50.1, vI r50.2.1, vI r50.2.2]) (cs' := [vI r50.1, vI r50.2.1, vI r50.2.2]) hS72 hf155 rfl (by kernel_rfl) (by kernel_rfl) rfl fun ww70 a124 hS73 hf156 => ⟨fun e => absurd e (by decide), ?_⟩
             refine p_done (by kernel_rfl) ?_
             intro hA26
             refine k_done' (by kernel_rfl) (by kernel_rfl) ?_
             refine n_then ?_
             have hf157 := Fr.keep (ks := [3, 4, 7, 8, 21]) (r := [(3, pB b1 0), (4, pB b2 0), (7, vI r9), (8, pB b4 0), (21, pB b17 0)]) hf156 (by kernel_rfl)
             exact ⟨z36, r50.1, r50.2.1, r50.2.2, b17, (Zone.le_trans (Zone.le_trans k33 k34) k35), hf157, (St.pick 1 [0] hS73 (by kernel_rfl)), hr67⟩
           ·rintro a125 ww71 ⟨z27, y6, y7, y8, b13, k36, hf158, hS74, hr68⟩
            refine w_sr (by kernel_rfl) ?_
            refine p_qn 4 [.slice o_x0_t x0_t.length c_x0_t, .slice o_x1_t x1_t.length c_x1_t] [(3, pB b1 0), (4, pB b2 0), (7, vI r9), (8, pB b4 0), (21, pB b13 0), (161, .agg #[.slice o_x0_t x0_t.length c_x0_t]), (163, .agg #[.slice o_x1_t x1_t.length c_x1_t])] [.cell ⟨b1, 0, none⟩ (.slice o_x0_t x0_t.length c_x0_t), .cell ⟨b2, 0, none⟩ (.slice o_x1_t x1_t.length c_x1_t)] hf158 (by kernel_rfl) (.cell (hS74.box (i := 7) rfl (j := 0) rfl) (.cell (hS74.box (i := 6) rfl (j := 0) rfl) .nil)) fun a126 hf159 => ?_
            obtain ⟨r1, hd37, hr69⟩ := bind_some hr68
            refine p_call (i := 4) (d := some 164) (f := 57) (args := #[.agg #[.slice o_x0_t x0_t.length c_x0_t], .agg #[.slice o_x1_t x1_t.length c_x1_t]]) hf159 (by kernel_rfl) (f57_ok fuel x0_t x1_t r1 hd37 z27 _ _ hS74 o_x0_t c_x0_t (SliceR.mono (Zone.le_trans (Zone.le_trans (Zone.le_trans (Zone.le_trans (Zone.le_trans (Zone.le_trans (Zone.le_trans (Zone.le_trans (Zone.le_trans k3 k14) k15) k16) k18) k19) k23) k24) k25) k36) hx_x0_t) o_x1_t c_x1_t (SliceR.mono (Zone.le_trans (Zone.le_trans (Zone.le_trans (Zone.le_trans (Zone.le_trans (Zone.le_trans (Zone.le_trans (Zone.le_trans (Zone.le_trans k3 k14) k15) k16) k18) k19) k23) k24) k25) k36) hx_x1_t)) ?_
            rintro v37 ww72 a127 ⟨z37, e13, q13, k37, rfl, hS75, hx13⟩ hf160
            refine ⟨fun _ => trivial, ?_⟩
            refine p_qn 3 [] [(3, pB b1 0), (4, pB b2 0), (7, vI r9), (8, pB b4 0), (21, pB b13 0), (165, .agg #[.slice e13 r1.1.length q13]), (166, vI r1.2)] [] hf160 (by kernel_rfl) .nil fun a128 hf161 => ?_
            refine p_box (i := 8) (d := (some 22)) (cs := [.slice none 0 0]) (T := 24) (v := fun b18 => pB b18 0) hS75 hf161 (fun b => by kernel_rfl) fun b18 ww73 a129 hS76 hf162 => ⟨fun _ => trivial, ?_⟩
            refine p_store_eq (i := 9) (j := 0) (b := b18) (off := 0) (vs := [.slice e13 r1.1.length q13]) (cs' := [.slice e13 r1.1.length q13]) hS76 hf162 rfl (by kernel_rfl) (by kernel_rfl) rfl fun ww74 a130 hS77 hf163 => ⟨fun _ => trivial, ?_⟩
            refine p_qt [] [(3, pB b1 0), (4, pB b2 0), (7, vI r9), (8, pB b4 0), (21, pB b13 0), (22, pB b18 0), (23, vI r1.2)] [] hf163 (by kernel_rfl) .nil fun a131 hf164 => ?_
            refine w_mid (by kernel_rfl) (fun a w => ∃ z38 : Zone, Zone.le z37 z38 ∧ Fr a 236 [(3, pB b1 0), (4, pB b2 0), (7, vI r9), (8, pB b4 0), (21, pB b13 0), (23, vI r1.2)] ∧ St z38 (box b18 [.slice e13 r1.1.length q13] 24 :: box b13 [vI y6, vI y7, vI y8] 56 :: box b11 [.slice e7 r22.1.length q7] 24 :: box b10 [vI r31.1, vI r31.2.1] 41 :: box b9 [.slice e6 r30.1.length q6] 24 :: box b4 [vI y3, vI y4, vI y5] 56 :: box b3 [vI y18, vI y16, vI y17, vI y13, vI y14] 84 :: box b2 [.slice o_x1_t x1_t.length c_x1_t, .slice o_x1_c x1_c.length c_x1_c] 27 :: box b1 [.slice o_x0_t x0_t.length c_x0_t, .slice o_x0_c x0_c.length c_x0_c] 27 :: L) w ∧ (F11_j9 fuel x0_t x1_t r9 y3 y4 y5 y6 y7 y8 r1) = some r) ?_ ?_
            ·skip
             refine w_sq [] [(3, pB b1 0), (4, pB b2 0), (7, vI r9), (8, pB b4 0), (21, pB b13 0), (22, pB b18 0), (23, vI r1.2), (168, .bool (r1.2 == (0 : Int)))] [] hf164 (by kernel_rfl) .nil fun a132 hf165 => ?_
             refine w_if hf165 (b := (r1.2 == (0 : Int))) (by kernel_rfl) (fun hb13 => ?_) (fun hb13 => ?_)
             ·have hr70 := cond_t hb13 hr69
              refine w_sr (by kernel_rfl) ?_
              refine p_qn 2 [.slice e13 r1.1.length q13] [(3, pB b1 0), (4, pB b2 0), (7, vI r9), (8, pB b4 0), (21, pB b13 0), (23, vI r1.2), (170, .agg #[.slice e13 r1.1.length q13]), (171, vI r9)] [.cell ⟨b18, 0, none⟩ (.slice e13 r1.1.length q13)] hf165 (by kernel_rfl) (.cell (hS77.box (i := 0) rfl (j := 0) rfl) .nil) fun a133 hf166 => ?_
              obtain ⟨r13, hd38, hr71⟩ := bind_some hr70
              refine p_call (i := 2) (d := some 172) (f := 27) (args := #[.agg #[.slice e13 r1.1.length q13], vI r9]) hf166 (by kernel_rfl) (f27_ok fuel r1.1 r9 r13 hd38 z37 _ _ hS77 e13 q13 hx13) ?_
              rintro v38 ww75 a134 ⟨z39, k38, rfl, hS78⟩ hf167
              refine ⟨fun _ => trivial, ?_⟩
              refine p_qn 3 [] [(3, pB b1 0), (4, pB b2 0), (7, vI r9), (8, pB b4 0), (21, pB b13 0), (23, vI r1.2), (173, .agg #[vI r13.1, vI r13.2.1]), (174, vI r13.2.2)] [] hf167 (by kernel_rfl) .nil fun a135 hf168 => ?_
              refine p_box (i := 6) (d := (some 24)) (cs := [vI 0, vI 0]) (T := 41) (v := fun b19 => pB b19 0) hS78 hf168 (fun b => by kernel_rfl) fun b19 ww76 a136 hS79 hf169 => ⟨fun _ => trivial, ?_⟩
              refine p_store_eq (i := 7) (j := 0) (b := b19) (off := 0) (vs := [vI r13.1, vI r13.2.1]) (cs' := [vI r13.1, vI r13.2.1]) hS79 hf169 rfl (by kernel_rfl) (by kernel_rfl) rfl fun ww77 a137 hS80 hf170 => ⟨fun _ => trivial, ?_⟩
              refine p_qt [] [(3, pB b1 0), (4, pB b2 0), (7, vI r9), (8, pB b4 0), (21, pB b13 0), (23, vI r1.2), (24, pB b19 0), (25, vI r13.2.2)] [] hf170 (by kernel_rfl) .nil fun a138 hf171 => ?_
              refine w_mid (by kernel_rfl) (fun a w => ∃ z40 : Zone, ∃ y9 : Bool, Zone.le z39 z40 ∧ Fr a 236 [(3, pB b1 0), (4, pB b2 0), (7, vI r9), (8, pB b4 0), (21, pB b13 0), (23, vI r1.2), (184, .bool y9)] ∧ St z40 (box b19 [vI r13.1, vI r13.2.1] 41 :: box b18 [.slice e13 r1.1.length q13] 24 :: box b13 [vI y6, vI y7, vI y8] 56 :: box b11 [.slice e7 r22.1.length q7] 24 :: box b10 [vI r31.1, vI r31.2.1] 41 :: box b9 [.slice e6 r30.1.length q6] 24 :: box b4 [vI y3, vI y4, vI y5] 56 :: box b3 [vI y18, vI y16, vI y17, vI y13, vI y14] 84 :: box b2 [.slice o_x1_t x1_t.length c_x1_t, .slice o_x1_c x1_c.length c_x1_c] 27 :: box b1 [.slice o_x0_t x0_t.length c_x0_t, .slice o_x0_c x0_c.length c_x0_c] 27 :: L) w ∧ (F11_j10 fuel x0_t x1_t r9 y3 y4 y5 y6 y7 y8 r1 y9) = some r) ?_ ?_
              ·skip
               have hS81 := hS80.drew
               have s15 : Sub z39 (box b19 [vI r13.1, vI r13.2.1] 41 :: box b18 [.slice e13 r1.1.length q13] 24 :: box b13 [vI y6, vI y7, vI y8] 56 :: box b11 [.slice e7 r22.1.length q7] 24 :: box b10 [vI r31.1, vI r31.2.1] 41 :: box b9 [.slice e6 r30.1.length q6] 24 :: box b4 [vI y3, vI y4, vI y5] 56 :: box b3 [vI y18, vI y16, vI y17, vI y13, vI y14] 84 :: box b2 [.slice o_x1_t x1_t.length c_x1_t, .slice o_x1_c x1_c.length c_x1_c] 27 :: box b1 [.slice o_x0_t x0_t.length c_x0_t, .slice o_x0_c x0_c.length c_x0_c] 27 :: L) _ := Sub.of (Zone.le_refl _) hS81
               refine w_regD (by kernel_rfl) [(0, true), (1, true), (2, true), (3, true), (4, true), (5, true), (6, false), (7, false), (8, true), (9, true)] [7] (Sub z39 (box b19 [vI r13.1, vI r13.2.1] 41 :: box b18 [.slice e13 r1.1.length q13] 24 :: box b13 [vI y6, vI y7, vI y8] 56 :: box b11 [.slice e7 r22.1.length q7] 24 :: box b10 [vI r31.1, vI r31.2.1] 41 :: box b9 [.slice e6 r30.1.length q6] 24 :: box b4 [vI y3, vI y4, vI y5] 56 :: box b3 [vI y18, vI y16, vI y17, vI y13, vI y14] 84 :: box b2 [.slice o_x1_t x1_t.length c_x1_t, .slice o_x1_c x1_c.length c_x1_c] 27 :: box b1 [.slice o_x0_t x0_t.length c_x0_t, .slice o_x0_c x0_c.length c_x0_c] 27 :: L)) (by kernel_rfl) s15 ?_
               refine p_qS 3 [] [(3, pB b1 0), (4, pB b2 0), (7, vI r9), (8, pB b4 0), (21, pB b13 0), (23, vI r1.2), (24, pB b19 0), (177, .bool (r13.2.2 != (0 : Int)))] [] [] s15 hf171 (by kernel_rfl) (fun _ s => .nil) .nil fun a139 hf172 => ?_
               rcases Bool.eq_false_or_eq_true (r13.2.2 != (0 : Int)) with hb14 | hb14
               ·have hr72 := cond_t hb14 hr71
                have hf173 := Fr.conv hf172 (congrArg (fun z => ([(3, pB b1 0), (4, pB b2 0), (7, vI r9), (8, pB b4 0), (21, pB b13 0), (23, vI r1.2), (24, pB b19 0), (177, .bool z)] : FL)) hb14)
                refine p_qS 4 [] [(3, pB b1 0), (4, pB b2 0), (7, vI r9), (8, pB b4 0), (21, pB b13 0), (23, vI r1.2), (177, .bool true), (178, undef), (181, undef)] [] [] s15 hf173 (by kernel_rfl) (fun _ s => .nil) .nil fun a140 hf174 => ?_
                refine p_qL 1 [] [(3, pB b1 0), (4, pB b2 0), (7, vI r9), (8, pB b4 0), (21, pB b13 0), (23, vI r1.2), (177, .bool true), (182, undef)] [] hf174 (by kernel_rfl) .nil fun a141 hf175 => ?_
                refine p_qS 2 [] [(3, pB b1 0), (4, pB b2 0), (7, vI r9), (8, pB b4 0), (21, pB b13 0), (23, vI r1.2), (184, .bool true)] [] [] s15 hf175 (by kernel_rfl) (fun _ s => .nil) .nil fun a142 hf176 => ?_
                refine p_dt (by kernel_rfl) ?_
                have hf177 := Fr.keep (ks := [3, 4, 7, 8, 21, 23, 184]) (r := [(3, pB b1 0), (4, pB b2 0), (7, vI r9), (8, pB b4 0), (21, pB b13 0), (23, vI r1.2), (184, .bool true)]) hf176 (by kernel_rfl)
                exact ⟨z39, true, (Zone.le_refl _), hf177, hS81, hr72⟩
               ·have hr73 := cond_f hb14 hr71
                have hf178 := Fr.conv hf172 (congrArg (fun z => ([(3, pB b1 0), (4, pB b2 0), (7, vI r9), (8, pB b4 0), (21, pB b13 0), (23, vI r1.2), (24, pB b19 0), (177, .bool z)] : FL)) hb14)
                refine p_qS 3 [vI r13.1, vI r13.2.1, vI y3, vI y4, vI y5, vI y6, vI y7, vI y8] [(3, pB b1 0), (4, pB b2 0), (7, vI r9), (8, pB b4 0), (21, pB b13 0), (23, vI r1.2), (177, .bool false), (178, .agg #[vI r13.1, vI r13.2.1]), (179, .agg #[vI y3, vI y4, vI y5]), (180, .agg #[vI y6, vI y7, vI y8])] [.cell ⟨b19, 0, none⟩ (vI r13.1), .cell ⟨b19, 1, none⟩ (vI r13.2.1), .cell ⟨b4, 0, none⟩ (vI y3), .cell ⟨b4, 1, none⟩ (vI y4), .cell ⟨b4, 2, none⟩ (vI y5), .cell ⟨b13, 0, none⟩ (vI y6), .cell ⟨b13, 1, none⟩ (vI y7), .cell ⟨b13, 2, none⟩ (vI y8)] [] s15 hf178 (by kernel_rfl) (fun _ s => (.cell (s.box (i := 0) rfl (j := 0) rfl) (.cell (s.box (i := 0) rfl (j := 1) rfl) (.cell (s.box (i := 6) rfl (j := 0) rfl) (.cell (s.box (i := 6) rfl (j := 1) rfl) (.cell (s.box (i := 6) rfl (j := 2) rfl) (.cell (s.box (i := 2) rfl (j := 0) rfl) (.cell (s.box (i := 2) rfl (j := 1) rfl) (.cell (s.box (i := 2) rfl (j := 2) rfl) .nil))))))))) .nil fun a143 hf179 => ?_
                obtain ⟨r14, hd39, hr74⟩ := bind_some hr73
                refine p_call (i := 6) (d := some 181) (f := 75) (args := #[.agg #[vI y3, vI y4, vI y5], .agg #[vI y6, vI y7, vI y8]]) hf179 (by kernel_rfl) (f75_ok fuel y3 y4 y5 y6 y7 y8 r14 hd39 z39 _ _ hS81 ) ?_
                rintro v39 ww78 a144 ⟨rfl, hS82⟩ hf180
                refine ⟨fun _ => Sub.of (Zone.le_refl _) hS82, ?_⟩
                have s16 : Sub z39 (box b19 [vI r13.1, vI r13.2.1] 41 :: box b18 [.slice e13 r1.1.length q13] 24 :: box b13 [vI y6, vI y7, vI y8] 56 :: box b11 [.slice e7 r22.1.length q7] 24 :: box b10 [vI r31.1, vI r31.2.1] 41 :: box b9 [.slice e6 r30.1.length q6] 24 :: box b4 [vI y3, vI y4, vI y5] 56 :: box b3 [vI y18, vI y16, vI y17, vI y13, vI y14] 84 :: box b2 [.slice o_x1_t x1_t.length c_x1_t, .slice o_x1_c x1_c.length c_x1_c] 27 :: box b1 [.slice o_x0_t x0_t.length c_x0_t, .slice o_x0_c x0_c.length c_x0_c] 27 :: L) _ := Sub.of (Zone.le_refl _) hS82
                obtain ⟨r15, hd40, hr75⟩ := bind_some hr74
                refine p_call (i := 7) (d := some 182) (f := 32) (args := #[.agg #[vI r13.1, vI r13.2.1], .agg #[vI r14.1, vI r14.2.1, vI r14.2.2]]) hf180 (by kernel_rfl) (f32_ok fuel r13.1 r13.2.1 r14.1 r14.2.1 r14.2.2 r15 hd40 z39 _ _ hS82 ) ?_
                rintro v40 ww79 a145 ⟨z41, k39, rfl, hS83⟩ hf181
                refine ⟨fun e => absurd e (by decide), ?_⟩
                refine p_qP 2 [] [(3, pB b1 0), (4, pB b2 0), (7, vI r9), (8, pB b4 0), (21, pB b13 0), (23, vI r1.2), (184, .bool (!r15))] [] hf181 (by kernel_rfl) (fun _ => .nil) fun a146 hf182 => ?_
                refine p_dt (by kernel_rfl) ?_
                have hf183 := Fr.keep (ks := [3, 4, 7, 8, 21, 23, 184]) (r := [(3, pB b1 0), (4, pB b2 0), (7, vI r9), (8, pB b4 0), (21, pB b13 0), (23, vI r1.2), (184, .bool (!r15))]) hf182 (by kernel_rfl)
                exact ⟨z41, (!r15), k39, hf183, hS83, hr75⟩
              ·rintro a147 ww80 ⟨z40, y9, k40, hf184, hS84, hr76⟩
               refine w_if hf184 (b := y9) (by kernel_rfl) (fun hb15 => ?_) (fun hb15 => ?_)
               ·have hr77 := cond_t hb15 hr76
                refine w_sq [] [(6, .bool false)] [] hf184 (by kernel_rfl) .nil fun a148 hf185 => ?_
                refine w_ret (by kernel_rfl) ?_
                refine r_then ?_
                refine p_ret (os := []) (v := .bool false) (obs := []) hf185 (by kernel_rfl) .nil ?_
                obtain rfl := some_eq hr77
                exact ⟨_, rfl, z40, (Zone.le_trans (Zone.le_trans (Zone.le_trans (Zone.le_trans (Zone.le_trans (Zone.le_trans (Zone.le_trans (Zone.le_trans (Zone.le_trans (Zone.le_trans (Zone.le_trans (Zone.le_trans k3 k14) k15) k16) k18) k19) k23) k24) k25) k36) k37) k38) k40), rfl, (St.drop 10 hS84)⟩
               ·have hr78 := cond_f hb15 hr76
                refine w_skip (by kernel_rfl) ?_
                refine n_then ?_
                have hf186 := Fr.keep (ks := [3, 4, 7, 8, 21, 23]) (r := [(3, pB b1 0), (4, pB b2 0), (7, vI r9), (8, pB b4 0), (21, pB b13 0), (23, vI r1.2)]) hf184 (by kernel_rfl)
                exact ⟨z40, (Zone.le_trans k38 k40), hf186, (St.drop 1 hS84), hr78⟩
             ·have hr79 := cond_f hb13 hr69
              refine w_skip (by kernel_rfl) ?_
              refine n_then ?_
              have hf187 := Fr.keep (ks := [3, 4, 7, 8, 21, 23]) (r := [(3, pB b1 0), (4, pB b2 0), (7, vI r9), (8, pB b4 0), (21, pB b13 0), (23, vI r1.2)]) hf165 (by kernel_rfl)
              exact ⟨z37, (Zone.le_refl _), hf187, hS77, hr79⟩
            ·rintro a149 ww81 ⟨z38, k41, hf188, hS85, hr80⟩
             refine w_sr (by kernel_rfl) ?_
             refine p_qn 4 [.slice o_x0_t x0_t.length c_x0_t, .slice o_x1_t x1_t.length c_x1_t] [(7, vI r9), (8, pB b4 0), (21, pB b13 0), (23, vI r1.2), (187, .agg #[.slice o_x0_t x0_t.length c_x0_t]), (189, .agg #[.slice o_x1_t x1_t.length c_x1_t])] [.cell ⟨b1, 0, none⟩ (.slice o_x0_t x0_t.length c_x0_t), .cell ⟨b2, 0, none⟩ (.slice o_x1_t x1_t.length c_x1_t)] hf188 (by kernel_rfl) (.cell (hS85.box (i := 8) rfl (j := 0) rfl) (.cell (hS85.box (i := 7) rfl (j := 0) rfl) .nil)) fun a150 hf189 => ?_
             obtain ⟨r2, hd41, hr81⟩ := bind_some hr80
             refine p_call (i := 4) (d := some 190) (f := 59) (args := #[.agg #[.slice o_x0_t x0_t.length c_x0_t], .agg #[.slice o_x1_t x1_t.length c_x1_t]]) hf189 (by kernel_rfl) (f59_ok fuel x0_t x1_t r2 hd41 z38 _ _ hS85 o_x0_t c_x0_t (SliceR.mono (Zone.le_trans (Zone.le_trans (Zone.le_trans (Zone.le_trans (Zone.le_trans (Zone.le_trans (Zone.le_trans (Zone.le_trans (Zone.le_trans (Zone.le_trans (Zone.le_trans k3 k14) k15) k16) k18) k19) k23) k24) k25) k36) k37) k41) hx_x0_t) o_x1_t c_x1_t (SliceR.mono (Zone.le_trans (Zone.le_trans (Zone.le_trans (Zone.le_trans (Zone.le_trans (Zone.le_trans (Zone.le_trans (Zone.le_trans (Zone.le_trans (Zone.le_trans (Zone.le_trans k3 k14) k15) k16) k18) k19) k23) k24) k25) k36) k37) k41) hx_x1_t)) ?_
             rintro v41 ww82 a151 ⟨z42, e14, q14, k42, rfl, hS86, hx14⟩ hf190
             refine ⟨fun _ => trivial, ?_⟩
             refine p_qn 3 [] [(7, vI r9), (8, pB b4 0), (21, pB b13 0), (23, vI r1.2), (191, .agg #[.slice e14 r2.1.length q14]), (192, vI r2.2)] [] hf190 (by kernel_rfl) .nil fun a152 hf191 => ?_
             refine p_box (i := 8) (d := (some 26)) (cs := [.slice none 0 0]) (T := 24) (v := fun b20 => pB b20 0) hS86 hf191 (fun b => by kernel_rfl) fun b20 ww83 a153 hS87 hf192 => ⟨fun _ => trivial, ?_⟩
             refine p_store_eq (i := 9) (j := 0) (b := b20) (off := 0) (vs := [.slice e14 r2.1.length q14]) (cs' := [.slice e14 r2.1.length q14]) hS87 hf192 rfl (by kernel_rfl) (by kernel_rfl) rfl fun ww84 a154 hS88 hf193 => ⟨fun _ => trivial, ?_⟩
             refine p_qt [] [(7, vI r9), (8, pB b4 0), (21, pB b13 0), (23, vI r1.2), (26, pB b20 0), (27, vI r2.2)] [] hf193 (by kernel_rfl) .nil fun a155 hf194 => ?_
             refine w_mid (by kernel_rfl) (fun a w => ∃ z43 : Zone, Zone.le z42 z43 ∧ Fr a 236 [(23, vI r1.2), (27, vI r2.2)] ∧ St z43 (box b20 [.slice e14 r2.1.length q14] 24 :: box b18 [.slice e13 r1.1.length q13] 24 :: box b13 [vI y6, vI y7, vI y8] 56 :: box b11 [.slice e7 r22.1.length q7] 24 :: box b10 [vI r31.1, vI r31.2.1] 41 :: box b9 [.slice e6 r30.1.length q6] 24 :: box b4 [vI y3, vI y4, vI y5] 56 :: box b3 [vI y18, vI y16, vI y17, vI y13, vI y14] 84 :: box b2 [.slice o_x1_t x1_t.length c_x1_t, .slice o_x1_c x1_c.length c_x1_c] 27 :: box b1 [.slice o_x0_t x0_t.length c_x0_t, .slice o_x0_c x0_c.length c_x0_c] 27 :: L) w ∧ (F11_j11 fuel r1 r2) = some r) ?_ ?_
             ·skip
              refine w_sq [] [(7, vI r9), (8, pB b4 0), (21, pB b13 0), (23, vI r1.2), (26, pB b20 0), (27, vI r2.2), (194, .bool (r2.2 == (0 : Int)))] [] hf194 (by kernel_rfl) .nil fun a156 hf195 => ?_
              refine w_if hf195 (b := (r2.2 == (0 : Int))) (by kernel_rfl) (fun hb16 => ?_) (fun hb16 => ?_)
              ·have hr82 := cond_t hb16 hr81
               refine w_sr (by kernel_rfl) ?_
               refine p_qn 2 [.slice e14 r2.1.length q14] [(8, pB b4 0), (21, pB b13 0), (23, vI r1.2), (27, vI r2.2), (196, .agg #[.slice e14 r2.1.length q14]), (197, vI r9)] [.cell ⟨b20, 0, none⟩ (.slice e14 r2.1.length q14)] hf195 (by kernel_rfl) (.cell (hS88.box (i := 0) rfl (j := 0) rfl) .nil) fun a157 hf196 => ?_
               obtain ⟨r10, hd42, hr83⟩ := bind_some hr82
               refine p_call (i := 2) (d := some 198) (f := 27) (args := #[.agg #[.slice e14 r2.1.length q14], vI r9]) hf196 (by kernel_rfl) (f27_ok fuel r2.1 r9 r10 hd42 z42 _ _ hS88 e14 q14 hx14) ?_
               rintro v42 ww85 a158 ⟨z44, k43, rfl, hS89⟩ hf197
               refine ⟨fun _ => trivial, ?_⟩
               refine p_qn 3 [] [(8, pB b4 0), (21, pB b13 0), (23, vI r1.2), (27, vI r2.2), (199, .agg #[vI r10.1, vI r10.2.1]), (200, vI r10.2.2)] [] hf197 (by kernel_rfl) .nil fun a159 hf198 => ?_
               refine p_box (i := 6) (d := (some 28)) (cs := [vI 0, vI 0]) (T := 41) (v := fun b21 => pB b21 0) hS89 hf198 (fun b => by kernel_rfl) fun b21 ww86 a160 hS90 hf199 => ⟨fun _ => trivial, ?_⟩
               refine p_store_eq (i := 7) (j := 0) (b := b21) (off := 0) (vs := [vI r10.1, vI r10.2.1]) (cs' := [vI r10.1, vI r10.2.1]) hS90 hf199 rfl (by kernel_rfl) (by kernel_rfl) rfl fun ww87 a161 hS91 hf200 => ⟨fun _ => trivial, ?_⟩
               refine p_qt [] [(8, pB b4 0), (21, pB b13 0), (23, vI r1.2), (27, vI r2.2), (28, pB b21 0), (29, vI r10.2.2)] [] hf200 (by kernel_rfl) .nil fun a162 hf201 => ?_
               refine w_mid (by kernel_rfl) (fun a w => ∃ z45 : Zone, ∃ y2 : Bool, Zone.le z44 z45 ∧ Fr a 236 [(23, vI r1.2), (27, vI r2.2), (214, .bool y2)] ∧ St z45 (box b21 [vI r10.1, vI r10.2.1] 41 :: box b20 [.slice e14 r2.1.length q14] 24 :: box b18 [.slice e13 r1.1.length q13] 24 :: box b13 [vI y6, vI y7, vI y8] 56 :: box b11 [.slice e7 r22.1.length q7] 24 :: box b10 [vI r31.1, vI r31.2.1] 41 :: box b9 [.slice e6 r30.1.length q6] 24 :: box b4 [vI y3, vI y4, vI y5] 56 :: box b3 [vI y18, vI y16, vI y17, vI y13, vI y14] 84 :: box b2 [.slice o_x1_t x1_t.length c_x1_t, .slice o_x1_c x1_c.length c_x1_c] 27 :: box b1 [.slice o_x0_t x0_t.length c_x0_t, .slice o_x0_c x0_c.length c_x0_c] 27 :: L) w ∧ (F11_j12 fuel r1 r2 y2) = some r) ?_ ?_
               ·skip
                refine w_reg (by kernel_rfl) ?_
                refine p_qn 3 [] [(8, pB b4 0), (21, pB b13 0), (23, vI r1.2), (27, vI r2.2), (28, pB b21 0), (203, .bool (r10.2.2 != (0 : Int)))] [] hf201 (by kernel_rfl) .nil fun a163 hf202 => ?_
                rcases Bool.eq_false_or_eq_true (r10.2.2 != (0 : Int)) with hb17 | hb17
                ·have hr84 := cond_t hb17 hr83
                 have hf203 := Fr.conv hf202 (congrArg (fun z => ([(8, pB b4 0), (21, pB b13 0), (23, vI r1.2), (27, vI r2.2), (28, pB b21 0), (203, .bool z)] : FL)) hb17)
                 refine p_qt [] [(23, vI r1.2), (27, vI r2.2), (214, .bool true)] [] hf203 (by kernel_rfl) .nil fun a164 hf204 => ?_
                 have hf205 := Fr.keep (ks := [23, 27, 214]) (r := [(23, vI r1.2), (27, vI r2.2), (214, .bool true)]) hf204 (by kernel_rfl)
                 exact ⟨z44, true, (Zone.le_refl _), hf205, hS91, hr84⟩
                ·have hr85 := cond_f hb17 hr83
                 have hf206 := Fr.conv hf202 (congrArg (fun z => ([(8, pB b4 0), (21, pB b13 0), (23, vI r1.2), (27, vI r2.2), (28, pB b21 0), (203, .bool z)] : FL)) hb17)
                 refine p_qn 2 [vI r10.1, vI r10.2.1, vI y3, vI y4, vI y5] [(21, pB b13 0), (23, vI r1.2), (27, vI r2.2), (28, pB b21 0), (203, .bool false), (204, .agg #[vI r10.1, vI r10.2.1]), (205, .agg #[vI y3, vI y4, vI y5])] [.cell ⟨b21, 0, none⟩ (vI r10.1), .cell ⟨b21, 1, none⟩ (vI r10.2.1), .cell ⟨b4, 0, none⟩ (vI y3), .cell ⟨b4, 1, none⟩ (vI y4), .cell ⟨b4, 2, none⟩ (vI y5)] hf206 (by kernel_rfl) (.cell (hS91.box (i := 0) rfl (j := 0) rfl) (.cell (hS91.box (i := 0) rfl (j := 1) rfl) (.cell (hS91.box (i := 7) rfl (j := 0) rfl) (.cell (hS91.box (i := 7) rfl (j := 1) rfl) (.cell (hS91.box (i := 7) rfl (j := 2) rfl) .nil))))) fun a165 hf207 => ?_
                 obtain ⟨r11, hd43, hr86⟩ := bind_some hr85
                 refine p_call (i := 5) (d := some 206) (f := 32) (args := #[.agg #[vI r10.1, vI r10.2.1], .agg #[vI y3, vI y4, vI y5]]) hf207 (by kernel_rfl) (f32_ok fuel r10.1 r10.2.1 y3 y4 y5 r11 hd43 z44 _ _ hS91 ) ?_
                 rintro v43 ww88 a166 ⟨z46, k44, rfl, hS92⟩ hf208
                 refine ⟨fun _ => trivial, ?_⟩
                 refine p_qn 3 [] [(21, pB b13 0), (23, vI r1.2), (27, vI r2.2), (28, pB b21 0), (209, .bool (!r11))] [] hf208 (by kernel_rfl) .nil fun a167 hf209 => ?_
                 rcases Bool.eq_false_or_eq_true (!r11) with hb18 | hb18
                 ·have hr87 := cond_t hb18 hr86
                  have hf210 := Fr.conv hf209 (congrArg (fun z => ([(21, pB b13 0), (23, vI r1.2), (27, vI r2.2), (28, pB b21 0), (209, .bool z)] : FL)) hb18)
                  refine p_qt [] [(23, vI r1.2), (27, vI r2.2), (214, .bool true)] [] hf210 (by kernel_rfl) .nil fun a168 hf211 => ?_
                  have hf212 := Fr.keep (ks := [23, 27, 214]) (r := [(23, vI r1.2), (27, vI r2.2), (214, .bool true)]) hf211 (by kernel_rfl)
                  exact ⟨z46, true, k44, hf212, hS92, hr87⟩
                 ·have hr88 := cond_f hb18 hr86
                  have hf213 := Fr.conv hf209 (congrArg (fun z => ([(21, pB b13 0), (23, vI r1.2), (27, vI r2.2), (28, pB b21 0), (209, .bool z)] : FL)) hb18)
                  refine p_qn 2 [vI r10.1, vI r10.2.1, vI y6, vI y7, vI y8] [(23, vI r1.2), (27, vI r2.2), (209, .bool false), (210, .agg #[vI r10.1, vI r10.2.1]), (211, .agg #[vI y6, vI y7, vI y8])] [.cell ⟨b21, 0, none⟩ (vI r10.1), .cell ⟨b21, 1, none⟩ (vI r10.2.1), .cell ⟨b13, 0, none⟩ (vI y6), .cell ⟨b13, 1, none⟩ (vI y7), .cell ⟨b13, 2, none⟩ (vI y8)] hf213 (by kernel_rfl) (.cell (hS92.box (i := 0) rfl (j := 0) rfl) (.cell (hS92.box (i := 0) rfl (j := 1) rfl) (.cell (hS92.box (i := 3) rfl (j := 0) rfl) (.cell (hS92.box (i := 3) rfl (j := 1) rfl) (.cell (hS92.box (i := 3) rfl (j := 2) rfl) .nil))))) fun a169 hf214 => ?_
                  obtain ⟨r12, hd44, hr89⟩ := bind_some hr88
                  refine p_call (i := 11) (d := some 212) (f := 32) (args := #[.agg #[vI r10.1, vI r10.2.1], .agg #[vI y6, vI y7, vI y8]]) hf214 (by kernel_rfl) (f32_ok fuel r10.1 r10.2.1 y6 y7 y8 r12 hd44 z46 _ _ hS92 ) ?_
                  rintro v44 ww89 a170 ⟨z47, k45, rfl, hS93⟩ hf215
                  refine ⟨fun _ => trivial, ?_⟩
                  refine p_qt [] [(23, vI r1.2), (27, vI r2.2), (214, .bool (!r12))] [] hf215 (by kernel_rfl) .nil fun a171 hf216 => ?_
                  have hf217 := Fr.keep (ks := [23, 27, 214]) (r := [(23, vI r1.2), (27, vI r2.2), (214, .bool (!r12))]) hf216 (by kernel_rfl)
                  exact ⟨z47, (!r12), (Zone.le_trans k44 k45), hf217, hS93, hr89⟩
               ·rintro a172 ww90 ⟨z45, y2, k46, hf218, hS94, hr90⟩
                refine w_if hf218 (b := y2) (by kernel_rfl) (fun hb19 => ?_) (fun hb19 => ?_)
                ·have hr91 := cond_t hb19 hr90
                 refine w_sq [] [(6, .bool false)] [] hf218 (by kernel_rfl) .nil fun a173 hf219 => ?_
                 refine w_ret (by kernel_rfl) ?_
                 refine r_then ?_
                 refine p_ret (os := []) (v := .bool false) (obs := []) hf219 (by kernel_rfl) .nil ?_
                 obtain rfl := some_eq hr91
                 exact ⟨_, rfl, z45, (Zone.le_trans (Zone.le_trans (Zone.le_trans (Zone.le_trans (Zone.le_trans (Zone.le_trans (Zone.le_trans (Zone.le_trans (Zone.le_trans (Zone.le_trans (Zone.le_trans (Zone.le_trans (Zone.le_trans (Zone.le_trans k3 k14) k15) k16) k18) k19) k23) k24) k25) k36) k37) k41) k42) k43) k46), rfl, (St.drop 11 hS94)⟩
                ·have hr92 := cond_f hb19 hr90
                 refine w_skip (by kernel_rfl) ?_
                 refine n_then ?_
                 have hf220 := Fr.keep (ks := [23, 27]) (r := [(23, vI r1.2), (27, vI r2.2)]) hf218 (by kernel_rfl)
                 exact ⟨z45, (Zone.le_trans k43 k46), hf220, (St.drop 1 hS94), hr92⟩
              ·have hr93 := cond_f hb16 hr81
               refine w_skip (by kernel_rfl) ?_
               refine n_then ?_
               have hf221 := Fr.keep (ks := [23, 27]) (r := [(23, vI r1.2), (27, vI r2.2)]) hf195 (by kernel_rfl)
               exact ⟨z42, (Zone.le_refl _), hf221, hS88, hr93⟩
             ·rintro a174 ww91 ⟨z43, k47, hf222, hS95, hr94⟩
              refine w_mid (by kernel_rfl) (fun a w => ∃ z48 : Zone, ∃ y1 : Bool, Zone.le z43 z48 ∧ Fr a 236 [(6, .bool y1)] ∧ St z48 (box b20 [.slice e14 r2.1.length q14] 24 :: box b18 [.slice e13 r1.1.length q13] 24 :: box b13 [vI y6, vI y7, vI y8] 56 :: box b11 [.slice e7 r22.1.length q7] 24 :: box b10 [vI r31.1, vI r31.2.1] 41 :: box b9 [.slice e6 r30.1.length q6] 24 :: box b4 [vI y3, vI y4, vI y5] 56 :: box b3 [vI y18, vI y16, vI y17, vI y13, vI y14] 84 :: box b2 [.slice o_x1_t x1_t.length c_x1_t, .slice o_x1_c x1_c.length c_x1_c] 27 :: box b1 [.slice o_x0_t x0_t.length c_x0_t, .slice o_x0_c x0_c.length c_x0_c] 27 :: L) w ∧ (F11_j13 y1) = some r) ?_ ?_
              ·skip
               refine w_reg (by kernel_rfl) ?_
               refine p_qn 3 [] [(23, vI r1.2), (27, vI r2.2), (217, .bool (r1.2 == (0 : Int)))] [] hf222 (by kernel_rfl) .nil fun a175 hf223 => ?_
               rcases Bool.eq_false_or_eq_true (r1.2 == (0 : Int)) with hb20 | hb20
               ·have hr95 := cond_t hb20 hr94
                have hf224 := Fr.conv hf223 (congrArg (fun z => ([(23, vI r1.2), (27, vI r2.2), (217, .bool z)] : FL)) hb20)
                refine p_qn 11 [] [(27, vI r2.2), (225, .bool true), (228, .bool (r2.2 == (0 : Int)))] [] hf224 (by kernel_rfl) .nil fun a176 hf225 => ?_
                rcases Bool.eq_false_or_eq_true (r2.2 == (0 : Int)) with hb21 | hb21
                ·have hr96 := cond_t hb21 hr95
                 have hf226 := Fr.conv hf225 (congrArg (fun z => ([(27, vI r2.2), (225, .bool true), (228, .bool z)] : FL)) hb21)
                 refine p_qn 5 [] [(233, .bool true)] [] hf226 (by kernel_rfl) .nil fun a177 hf227 => ?_
                 obtain ⟨r3, hd45, hr97⟩ := bind_some hr96
                 refine p_call (i := 19) (d := some 234) (f := 13) (args := #[]) hf227 (by kernel_rfl) (f13_ok fuel  r3 hd45 z43 _ _ hS95 ) ?_
                 rintro v45 ww92 a178 ⟨z49, k48, rfl, hS96⟩ hf228
                 refine ⟨fun _ => trivial, ?_⟩
                 refine p_qt [] [(6, .bool r3)] [] hf228 (by kernel_rfl) .nil fun a179 hf229 => ?_
                 have hf230 := Fr.keep (ks := [6]) (r := [(6, .bool r3)]) hf229 (by kernel_rfl)
                 exact ⟨z49, r3, k48, hf230, hS96, hr97⟩
                ·have hr98 := cond_f hb21 hr95
                 have hf231 := Fr.conv hf225 (congrArg (fun z => ([(27, vI r2.2), (225, .bool true), (228, .bool z)] : FL)) hb21)
                 refine p_qn 5 [] [(233, .bool (r2.2 == (2 : Int)))] [] hf231 (by kernel_rfl) .nil fun a180 hf232 => ?_
                 rcases Bool.eq_false_or_eq_true (r2.2 == (2 : Int)) with hb22 | hb22
                 ·have hr99 := cond_t hb22 hr98
                  have hf233 := Fr.conv hf232 (congrArg (fun z => ([(233, .bool z)] : FL)) hb22)
                  obtain ⟨r4, hd46, hr100⟩ := bind_some hr99
                  refine p_call (i := 19) (d := some 234) (f := 13) (args := #[]) hf233 (by kernel_rfl) (f13_ok fuel  r4 hd46 z43 _ _ hS95 ) ?_
                  rintro v46 ww93 a181 ⟨z50, k49, rfl, hS97⟩ hf234
                  refine ⟨fun _ => trivial, ?_⟩
                  refine p_qt [] [(6, .bool r4)] [] hf234 (by kernel_rfl) .nil fun a182 hf235 => ?_
                  have hf236 := Fr.keep (ks := [6]) (r := [(6, .bool r4)]) hf235 (by kernel_rfl)
                  exact ⟨z50, r4, k49, hf236, hS97, hr100⟩
                 ·have hr101 := cond_f hb22 hr98
                  have hf237 := Fr.conv hf232 (congrArg (fun z => ([(233, .bool z)] : FL)) hb22)
                  refine p_qt [] [(6, .bool false)] [] hf237 (by kernel_rfl) .nil fun a183 hf238 => ?_
                  have hf239 := Fr.keep (ks := [6]) (r := [(6, .bool false)]) hf238 (by kernel_rfl)
                  exact ⟨z43, false, (Zone.le_refl _), hf239, hS95, hr101⟩
               ·have hr102 := cond_f hb20 hr94
                have hf240 := Fr.conv hf223 (congrArg (fun z => ([(23, vI r1.2), (27, vI r2.2), (217, .bool z)] : FL)) hb20)
                refine p_qn 4 [] [(23, vI r1.2), (27, vI r2.2), (221, .bool (r1.2 == (5 : Int)))] [] hf240 (by kernel_rfl) .nil fun a184 hf241 => ?_
                rcases Bool.eq_false_or_eq_true (r1.2 == (5 : Int)) with hb23 | hb23
                ·have hr103 := cond_t hb23 hr102
                 have hf242 := Fr.conv hf241 (congrArg (fun z => ([(23, vI r1.2), (27, vI r2.2), (221, .bool z)] : FL)) hb23)
                 refine p_qn 7 [] [(27, vI r2.2), (225, .bool true), (228, .bool (r2.2 == (0 : Int)))] [] hf242 (by kernel_rfl) .nil fun a185 hf243 => ?_
                 rcases Bool.eq_false_or_eq_true (r2.2 == (0 : Int)) with hb24 | hb24
                 ·have hr104 := cond_t hb24 hr103
                  have hf244 := Fr.conv hf243 (congrArg (fun z => ([(27, vI r2.2), (225, .bool true), (228, .bool z)] : FL)) hb24)
                  refine p_qn 5 [] [(233, .bool true)] [] hf244 (by kernel_rfl) .nil fun a186 hf245 => ?_
                  obtain ⟨r5, hd47, hr105⟩ := bind_some hr104
                  refine p_call (i := 19) (d := some 234) (f := 13) (args := #[]) hf245 (by kernel_rfl) (f13_ok fuel  r5 hd47 z43 _ _ hS95 ) ?_
                  rintro v47 ww94 a187 ⟨z51, k50, rfl, hS98⟩ hf246
                  refine ⟨fun _ => trivial, ?_⟩
                  refine p_qt [] [(6, .bool r5)] [] hf246 (by kernel_rfl) .nil fun a188 hf247 => ?_
                  have hf248 := Fr.keep (ks := [6]) (r := [(6, .bool r5)]) hf247 (by kernel_rfl)
                  exact ⟨z51, r5, k50, hf248, hS98, hr105⟩
                 ·have hr106 := cond_f hb24 hr103
                  have hf249 := Fr.conv hf243 (congrArg (fun z => ([(27, vI r2.2), (225, .bool true), (228, .bool z)] : FL)) hb24)
                  refine p_qn 5 [] [(233, .bool (r2.2 == (2 : Int)))] [] hf249 (by kernel_rfl) .nil fun a189 hf250 => ?_
                  rcases Bool.eq_false_or_eq_true (r2.2 == (2 : Int)) with hb25 | hb25
                  ·have hr107 := cond_t hb25 hr106
                   have hf251 := Fr.conv hf250 (congrArg (fun z => ([(233, .bool z)] : FL)) hb25)
                   obtain ⟨r6, hd48, hr108⟩ := bind_some hr107
                   refine p_call (i := 19) (d := some 234) (f := 13) (args := #[]) hf251 (by kernel_rfl) (f13_ok fuel  r6 hd48 z43 _ _ hS95 ) ?_
                   rintro v48 ww95 a190 ⟨z52, k51, rfl, hS99⟩ hf252
                   refine ⟨fun _ => trivial, ?_⟩
                   refine p_qt [] [(6, .bool r6)] [] hf252 (by kernel_rfl) .nil fun a191 hf253 => ?_
                   have hf254 := Fr.keep (ks := [6]) (r := [(6, .bool r6)]) hf253 (by kernel_rfl)
                   exact ⟨z52, r6, k51, hf254, hS99, hr108⟩
                  ·have hr109 := cond_f hb25 hr106
                   have hf255 := Fr.conv hf250 (congrArg (fun z => ([(233, .bool z)] : FL)) hb25)
                   refine p_qt [] [(6, .bool false)] [] hf255 (by kernel_rfl) .nil fun a192 hf256 => ?_
                   have hf257 := Fr.keep (ks := [6]) (r := [(6, .bool false)]) hf256 (by kernel_rfl)
                   exact ⟨z43, false, (Zone.le_refl _), hf257, hS95, hr109⟩
                ·have hr110 := cond_f hb23 hr102
                 have hf258 := Fr.conv hf241 (congrArg (fun z => ([(23, vI r1.2), (27, vI r2.2), (221, .bool z)] : FL)) hb23)
                 refine p_qn 4 [] [(27, vI r2.2), (225, .bool (r1.2 == (2 : Int)))] [] hf258 (by kernel_rfl) .nil fun a193 hf259 => ?_
                 rcases Bool.eq_false_or_eq_true (r1.2 == (2 : Int)) with hb26 | hb26
                 ·have hr111 := cond_t hb26 hr110
                  have hf260 := Fr.conv hf259 (congrArg (fun z => ([(27, vI r2.2), (225, .bool z)] : FL)) hb26)
                  refine p_qn 3 [] [(27, vI r2.2), (225, .bool true), (228, .bool (r2.2 == (0 : Int)))] [] hf260 (by kernel_rfl) .nil fun a194 hf261 => ?_
                  rcases Bool.eq_false_or_eq_true (r2.2 == (0 : Int)) with hb27 | hb27
                  ·have hr112 := cond_t hb27 hr111
                   have hf262 := Fr.conv hf261 (congrArg (fun z => ([(27, vI r2.2), (225, .bool true), (228, .bool z)] : FL)) hb27)
                   refine p_qn 5 [] [(233, .bool true)] [] hf262 (by kernel_rfl) .nil fun a195 hf263 => ?_
                   obtain ⟨r7, hd49, hr113⟩ := bind_some hr112
                   refine p_call (i := 19) (d := some 234) (f := 13) (args := #[]) hf263 (by kernel_rfl) (f13_ok fuel  r7 hd49 z43 _ _ hS95 ) ?_
                   rintro v49 ww96 a196 ⟨z53, k52, rfl, hS100⟩ hf264
                   refine ⟨fun _ => trivial, ?_⟩
                   refine p_qt [] [(6, .bool r7)] [] hf264 (by kernel_rfl) .nil fun a197 hf265 => ?_
                   have hf266 := Fr.keep (ks := [6]) (r := [(6, .bool r7)]) hf265 (by kernel_rfl)
                   exact ⟨z53, r7, k52, hf266, hS100, hr113⟩
                  ·have hr114 := cond_f hb27 hr111
                   have hf267 := Fr.conv hf261 (congrArg (fun z => ([(27, vI r2.2), (225, .bool true), (228, .bool z)] : FL)) hb27)
                   refine p_qn 5 [] [(233, .bool (r2.2 == (2 : Int)))] [] hf267 (by kernel_rfl) .nil fun a198 hf268 => ?_
                   rcases Bool.eq_false_or_eq_true (r2.2 == (2 : Int)) with hb28 | hb28
                   ·have hr115 := cond_t hb28 hr114
                    have hf269 := Fr.conv hf268 (congrArg (fun z => ([(233, .bool z)] : FL)) hb28)
                    obtain ⟨r8, hd50, hr116⟩ := bind_some hr115
                    refine p_call (i := 19) (d := some 234) (f := 13) (args := #[]) hf269 (by kernel_rfl) (f13_ok fuel  r8 hd50 z43 _ _ hS95 ) ?_
                    rintro v50 ww97 a199 ⟨z54, k53, rfl, hS101⟩ hf270
                    refine ⟨fun _ => trivial, ?_⟩
                    refine p_qt [] [(6, .bool r8)] [] hf270 (by kernel_rfl) .nil fun a200 hf271 => ?_
                    have hf272 := Fr.keep (ks := [6]) (r := [(6, .bool r8)]) hf271 (by kernel_rfl)
                    exact ⟨z54, r8, k53, hf272, hS101, hr116⟩
                   ·have hr117 := cond_f hb28 hr114
                    have hf273 := Fr.conv hf268 (congrArg (fun z => ([(233, .bool z)] : FL)) hb28)
                    refine p_qt [] [(6, .bool false)] [] hf273 (by kernel_rfl) .nil fun a201 hf274 => ?_
                    have hf275 := Fr.keep (ks := [6]) (r := [(6, .bool false)]) hf274 (by kernel_rfl)
                    exact ⟨z43, false, (Zone.le_refl _), hf275, hS95, hr117⟩
                 ·have hr118 := cond_f hb26 hr110
                  have hf276 := Fr.conv hf259 (congrArg (fun z => ([(27, vI r2.2), (225, .bool z)] : FL)) hb26)
                  refine p_qt [] [(6, .bool false)] [] hf276 (by kernel_rfl) .nil fun a202 hf277 => ?_
                  have hf278 := Fr.keep (ks := [6]) (r := [(6, .bool false)]) hf277 (by kernel_rfl)
                  exact ⟨z43, false, (Zone.le_refl _), hf278, hS95, hr118⟩
              ·rintro a203 ww98 ⟨z48, y1, k54, hf279, hS102, hr119⟩
               refine w_ret (by kernel_rfl) ?_
               refine p_ret (os := []) (v := .bool y1) (obs := []) hf279 (by kernel_rfl) .nil ?_
               obtain rfl := some_eq hr119
               exact ⟨_, rfl, z48, (Zone.le_trans (Zone.le_trans (Zone.le_trans (Zone.le_trans (Zone.le_trans (Zone.le_trans (Zone.le_trans (Zone.le_trans (Zone.le_trans (Zone.le_trans (Zone.le_trans (Zone.le_trans (Zone.le_trans (Zone.le_trans k3 k14) k15) k16) k18) k19) k23) k24) k25) k36) k37) k41) k42) k47) k54), rfl, (St.drop 10 hS102)⟩
end Go.Proofs.Ytpjmgeajajcceaa

