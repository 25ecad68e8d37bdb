/-
  A part of the walk and of the plain law of one given statement. No condition.
-/
import Derived.Test.YtdcmpekmpmfffaaGreatDoorSFb
set_option linter.unusedVariables false
namespace Go.Proofs.YtdcmpekmpmfffaaGreatDoor
open Go.Sl Go.Sx
set_option maxRecDepth 100000 in
theorem f9_ok (fuel : Nat)  (r : Bool) (hr : F9 fuel  = some r) (h : Zone) (L : List Atom) (w : World) (hS : St h L w)  :
    Calls Tryz.prog 9 #[] w fun e w' => ∃ v, e = .returned v ∧ (∃ h', Zone.le h h' ∧ v = .bool r ∧ St h' L w') := by
 refine calls_intro (N := 97) Tryz.func9 (by kernel_rfl) fun a hf => ?_
 refine w_sq [] [] [] hf (by kernel_rfl) .nil fun a1 hf1 => ?_
 refine w_sr (by kernel_rfl) ?_
 obtain ⟨r7, hd1, hr1⟩ := bind_some hr
 refine p_call (i := 0) (d := some 14) (f := 24) (args := #[]) hf1 (by kernel_rfl) (f24_ok fuel  r7 hd1 h _ _ hS ) ?_
 rintro v1 ww1 a2 ⟨z1, e1, q1, k1, rfl, hS1, hx1⟩ hf2
 refine ⟨fun _ => trivial, ?_⟩
 refine p_box (i := 1) (d := (some 1)) (cs := [.slice none 0 0]) (T := 24) (v := fun b1 => pB b1 0) hS1 hf2 (fun b => by kernel_rfl) fun b1 ww2 a3 hS2 hf3 => ⟨fun _ => trivial, ?_⟩
 refine p_store_eq (i := 2) (j := 0) (b := b1) (off := 0) (vs := [.slice e1 r7.length q1]) (cs' := [.slice e1 r7.length q1]) hS2 hf3 rfl (by kernel_rfl) (by kernel_rfl) rfl fun ww3 a4 hS3 hf4 => ⟨fun _ => trivial, ?_⟩
 refine p_dt (by kernel_rfl) ?_
 refine w_sr (by kernel_rfl) ?_
 refine p_qn 2 [] [(1, pB b1 0), (16, .agg #[vI (-2), vI 3]), (17, .agg #[vI 4, vI 5])] [] hf4 (by kernel_rfl) .nil fun a5 hf5 => ?_
 obtain ⟨r1, hd2, hr2⟩ := bind_some hr1
 refine p_call (i := 2) (d := some 18) (f := 25) (args := #[.agg #[vI (-2), vI 3], .agg #[vI 4, vI 5]]) hf5 (by kernel_rfl) (f25_ok fuel (-2) 3 4 5 r1 hd2 z1 _ _ hS3 ) ?_
 rintro v2 ww4 a6 ⟨z2, k2, rfl, hS4⟩ hf6
 refine ⟨fun _ => trivial, ?_⟩
 refine p_qn 3 [] [(1, pB b1 0), (19, .agg #[vI r1.1, vI r1.2.1]), (20, vI r1.2.2)] [] hf6 (by kernel_rfl) .nil fun a7 hf7 => ?_
 refine p_box (i := 6) (d := (some 2)) (cs := [vI 0, vI 0]) (T := 59) (v := fun b2 => pB b2 0) hS4 hf7 (fun b => by kernel_rfl) fun b2 ww5 a8 hS5 hf8 => ⟨fun _ => trivial, ?_⟩
 refine p_store_eq (i := 7) (j := 0) (b := b2) (off := 0) (vs := [vI r1.1, vI r1.2.1]) (cs' := [vI r1.1, vI r1.2.1]) hS5 hf8 rfl (by kernel_rfl) (by kernel_rfl) rfl fun ww6 a9 hS6 hf9 => ⟨fun _ => trivial, ?_⟩
 refine p_qt [] [(1, pB b1 0), (2, pB b2 0), (3, vI r1.2.2)] [] hf9 (by kernel_rfl) .nil fun a10 hf10 => ?_
 refine w_sr (by kernel_rfl) ?_
 refine p_qn 2 [.slice e1 r7.length q1] [(1, pB b1 0), (2, pB b2 0), (3, vI r1.2.2), (22, .agg #[.slice e1 r7.length q1]), (23, .agg #[vI 5, vI 12])] [.cell ⟨b1, 0, none⟩ (.slice e1 r7.length q1)] hf10 (by kernel_rfl) (.cell (hS6.box (i := 1) rfl (j := 0) rfl) .nil) fun a11 hf11 => ?_
 obtain ⟨r2, hd3, hr3⟩ := bind_some hr2
 refine p_call (i := 2) (d := some 24) (f := 26) (args := #[.agg #[.slice e1 r7.length q1], .agg #[vI 5, vI 12]]) hf11 (by kernel_rfl) (f26_ok fuel r7 5 12 r2 hd3 z2 _ _ hS6 e1 q1 (SliceR.mono k2 hx1)) ?_
 rintro v3 ww7 a12 ⟨z3, k3, rfl, hS7⟩ hf12
 refine ⟨fun _ => trivial, ?_⟩
 refine p_qn 3 [] [(1, pB b1 0), (2, pB b2 0), (3, vI r1.2.2), (25, .agg #[vI r2.1, vI r2.2.1]), (26, vI r2.2.2)] [] hf12 (by kernel_rfl) .nil fun a13 hf13 => ?_
 refine p_box (i := 6) (d := (some 4)) (cs := [vI 0, vI 0]) (T := 59) (v := fun b3 => pB b3 0) hS7 hf13 (fun b => by kernel_rfl) fun b3 ww8 a14 hS8 hf14 => ⟨fun _ => trivial, ?_⟩
 refine p_store_eq (i := 7) (j := 0) (b := b3) (off := 0) (vs := [vI r2.1, vI r2.2.1]) (cs' := [vI r2.1, vI r2.2.1]) hS8 hf14 rfl (by kernel_rfl) (by kernel_rfl) rfl fun ww9 a15 hS9 hf15 => ⟨fun _ => trivial, ?_⟩
 refine p_qt [] [(1, pB b1 0), (2, pB b2 0), (3, vI r1.2.2), (4, pB b3 0), (5, vI r2.2.2)] [] hf15 (by kernel_rfl) .nil fun a16 hf16 => ?_
 refine w_mid (by kernel_rfl) (fun a w => ∃ z4 : Zone, ∃ y4 : Int, ∃ y2 : List Pt, ∃ b4 : Nat, ∃ e2 : Option Addr, ∃ q2 : Nat, Zone.le z3 z4 ∧ Fr a 97 [(1, pB b1 0), (2, pB b2 0), (3, vI r1.2.2), (4, pB b3 0), (5, vI r2.2.2), (6, pB b4 0), (7, vI y4)] ∧ St z4 (box b4 [.slice e2 y2.length q2] 24 :: box b3 [vI r2.1, vI r2.2.1] 59 :: box b2 [vI r1.1, vI r1.2.1] 59 :: box b1 [.slice e1 r7.length q1] 24 :: L) w ∧ SliceR PtT z4 e2 q2 y2 ∧ (F9_j1 fuel r7 r1 r2 y4 y2) = some r) ?_ ?_
 ·skip
  have hS10 := hS9.drew
  have s1 : Sub z3 (box b3 [vI r2.1, vI r2.2.1] 59 :: box b2 [vI r1.1, vI r1.2.1] 59 :: box b1 [.slice e1 r7.length q1] 24 :: L) _ := Sub.of (Zone.le_refl _) hS10
  refine w_regB (by kernel_rfl) [2, 7] (Sub z3 (box b3 [vI r2.1, vI r2.2.1] 59 :: box b2 [vI r1.1, vI r1.2.1] 59 :: box b1 [.slice e1 r7.length q1] 24 :: L)) (by kernel_rfl) ?_
  refine k_seg' 8 [(0, true)] (by kernel_rfl) (by kernel_rfl) (At.start s1) (by kernel_rfl) ?_
  refine p_qS 1 [.slice e1 r7.length q1] [(1, pB b1 0), (2, pB b2 0), (3, vI r1.2.2), (4, pB b3 0), (5, vI r2.2.2), (28, .agg #[.slice e1 r7.length q1])] [.cell ⟨b1, 0, none⟩ (.slice e1 r7.length q1)] [] s1 hf16 (by kernel_rfl) (fun _ s => (.cell (s.box (i := 2) rfl (j := 0) rfl) .nil)) .nil fun a17 hf17 => ?_
  refine p_done (by kernel_rfl) ?_
  intro hA1
  refine k_any' 7 [1, 6] (by kernel_rfl) hA1 (by kernel_rfl) (by kernel_rfl) ?_
  refine (all_cons ?_ (all_cons ?_ all_nil))
  ·skip
   obtain ⟨r8, hd4, hr4⟩ := bind_some hr3
   refine p_call (i := 1) (d := some 29) (f := 28) (args := #[]) hf17 (by kernel_rfl) (f28_ok fuel  r8 hd4 z3 _ _ hS10 ) ?_
   rintro v4 ww10 a18 ⟨z5, e3, q3, k4, rfl, hS11, hx2⟩ hf18
   refine ⟨fun _ => Sub.of k4 hS11, ?_⟩
   refine p_done (by kernel_rfl) ?_
   intro hA2
   have s2 : Sub z3 (box b3 [vI r2.1, vI r2.2.1] 59 :: box b2 [vI r1.1, vI r1.2.1] 59 :: box b1 [.slice e1 r7.length q1] 24 :: L) _ := Sub.of k4 hS11
   refine k_seg' 7 [] (by kernel_rfl) (by kernel_rfl) hA2 (by kernel_rfl) ?_
   refine p_done (by kernel_rfl) ?_
   intro hA3
   refine k_any' 6 [2, 6] (by kernel_rfl) hA3 (by kernel_rfl) (by kernel_rfl) ?_
   refine (all_cons ?_ (all_cons ?_ all_nil))
   ·skip
    obtain ⟨r9, hd5, hr5⟩ := bind_some hr4
    refine p_call (i := 2) (d := some 30) (f := 27) (args := #[.agg #[.slice e1 r7.length q1], .agg #[.slice e3 r8.length q3]]) hf18 (by kernel_rfl) (f27_ok fuel r7 r8 r9 hd5 z5 _ _ hS11 e1 q1 (SliceR.mono (Zone.le_trans (Zone.le_trans k2 k3) k4) hx1) e3 q3 hx2) ?_
    rintro v5 ww11 a19 ⟨z6, e4, q4, k5, rfl, hS12, hx3⟩ hf19
    refine ⟨fun e => absurd e (by decide), ?_⟩
    refine p_done (by kernel_rfl) ?_
    intro hA4
    refine k_seg' 0 [(3, true), (4, true), (5, true), (6, false), (7, false), (8, true)] (by kernel_rfl) (by kernel_rfl) hA4 (by kernel_rfl) ?_
    refine p_qP 3 [] [(1, pB b1 0), (2, pB b2 0), (3, vI r1.2.2), (4, pB b3 0), (5, vI r2.2.2), (31, .agg #[.slice e4 r9.1.length q4]), (32, vI r9.2)] [] hf19 (by kernel_rfl) (fun _ => .nil) fun a20 hf20 => ?_
    refine p_box (i := 6) (d := (some 6)) (cs := [.slice none 0 0]) (T := 24) (v := fun b5 => pB b5 0) hS12 hf20 (fun b => by kernel_rfl) fun b5 ww12 a21 hS13 hf21 => ⟨fun _ => Sub.of (Zone.le_trans k4 k5) (St.drop 1 hS13), ?_⟩
    have s3 : Sub z3 (box b3 [vI r2.1, vI r2.2.1] 59 :: box b2 [vI r1.1, vI r1.2.1] 59 :: box b1 [.slice e1 r7.length q1] 24 :: L) _ := Sub.of (Zone.le_trans k4 k5) (St.drop 1 hS13)
    refine p_store_eq (i := 7) (j := 0) (b := b5) (off := 0) (vs := [.slice e4 r9.1.length q4]) (cs' := [.slice e4 r9.1.length q4]) hS13 hf21 rfl (by kernel_rfl) (by kernel_rfl) rfl fun ww13 a22 hS14 hf22 => ⟨fun e => absurd e (by decide), ?_⟩
    refine p_qP 1 [] [(1, pB b1 0), (2, pB b2 0), (3, vI r1.2.2), (4, pB b3 0), (5, vI r2.2.2), (6, pB b5 0), (7, vI r9.2)] [] hf22 (by kernel_rfl) (fun _ => .nil) fun a23 hf23 => ?_
    refine p_done (by kernel_rfl) ?_
    intro hA5
    refine k_done' (by kernel_rfl) (by kernel_rfl) ?_
    refine n_then ?_
    have hf24 := Fr.keep (ks := [1, 2, 3, 4, 5, 6, 7]) (r := [(1, pB b1 0), (2, pB b2 0), (3, vI r1.2.2), (4, pB b3 0), (5, vI r2.2.2), (6, pB b5 0), (7, vI r9.2)]) hf23 (by kernel_rfl)
    exact ⟨z6, r9.2, r9.1, b5, e4, q4, (Zone.le_trans k4 k5), hf24, (St.pick 1 [0] hS14 (by kernel_rfl)), hx3, hr5⟩
   ·skip
    refine p_box (i := 6) (d := (some 6)) (cs := [.slice none 0 0]) (T := 24) (v := fun b6 => pB b6 0) hS11 hf18 (fun b => by kernel_rfl) fun b6 ww14 a24 hS15 hf25 => ⟨fun _ => Sub.of k4 (St.drop 1 hS15), ?_⟩
    refine p_done (by kernel_rfl) ?_
    intro hA6
    have s4 : Sub z3 (box b3 [vI r2.1, vI r2.2.1] 59 :: box b2 [vI r1.1, vI r1.2.1] 59 :: box b1 [.slice e1 r7.length q1] 24 :: L) _ := Sub.of k4 (St.drop 1 hS15)
    refine k_seg' 0 [(2, false), (3, true), (4, true), (5, true), (7, false), (8, true)] (by kernel_rfl) (by kernel_rfl) hA6 (by kernel_rfl) ?_
    obtain ⟨r10, hd6, hr6⟩ := bind_some hr4
    refine p_call (i := 2) (d := some 30) (f := 27) (args := #[.agg #[.slice e1 r7.length q1], .agg #[.slice e3 r8.length q3]]) hf25 (by kernel_rfl) (f27_ok fuel r7 r8 r10 hd6 z5 _ _ hS15 e1 q1 (SliceR.mono (Zone.le_trans (Zone.le_trans k2 k3) k4) hx1) e3 q3 hx2) ?_
    rintro v6 ww15 a25 ⟨z7, e5, q5, k6, rfl, hS16, hx4⟩ hf26
    refine ⟨fun e => absurd e (by decide), ?_⟩
    refine p_qP 3 [] [(1, pB b1 0), (2, pB b2 0), (3, vI r1.2.2), (4, pB b3 0), (5, vI r2.2.2), (6, pB b6 0), (31, .agg #[.slice e5 r10.1.length q5]), (32, vI r10.2)] [] hf26 (by kernel_rfl) (fun _ => .nil) fun a26 hf27 => ?_
    refine p_store_eq (i := 7) (j := 0) (b := b6) (off := 0) (vs := [.slice e5 r10.1.length q5]) (cs' := [.slice e5 r10.1.length q5]) hS16 hf27 rfl (by kernel_rfl) (by kernel_rfl) rfl fun ww16 a27 hS17 hf28 => ⟨fun e => absurd e (by decide), ?_⟩
    refine p_qP 1 [] [(1, pB b1 0), (2, pB b2 0), (3, vI r1.2.2), (4, pB b3 0), (5, vI r2.2.2), (6, pB b6 0), (7, vI r10.2)] [] hf28 (by kernel_rfl) (fun _ => .nil) fun a28 hf29 => ?_
    refine p_done (by kernel_rfl) ?_
    intro hA7
    refine k_done' (by kernel_rfl) (by kernel_rfl) ?_
    refine n_then ?_
    have hf30 := Fr.keep (ks := [1, 2, 3, 4, 5, 6, 7]) (r := [(1, pB b1 0), (2, pB b2 0), (3, vI r1.2.2), (4, pB b3 0), (5, vI r2.2.2), (6, pB b6 0), (7, vI r10.2)]) hf29 (by kernel_rfl)
    exact ⟨z7, r10.2, r10.1, b6, e5, q5, (Zone.le_trans k4 k6), hf30, (St.pick 1 [0] hS17 (by kernel_rfl)), hx4, hr6⟩
  ·skip
   refine p_box (i := 6) (d := (some 6)) (cs := [.slice none 0 0]) (T := 24) (v := fun b7 => pB b7 0) hS10 hf17 (fun b => by kernel_rfl) fun b7 ww17 a29 hS18 hf31 => ⟨fun _ => Sub.of (Zone.le_refl _) (St.drop 1 hS18), ?_⟩
   refine p_done (by kernel_rfl) ?_
   intro hA8
   have s5 : Sub z3 (box b3 [vI r2.1, vI r2.2.1] 59 :: box b2 [vI r1.1, vI r1.2.1] 59 :: box b1 [.slice e1 r7.length q1] 24 :: L) _ := Sub.of (Zone.le_refl _) (St.drop 1 hS18)
   refine k_seg' 0 [(1, false), (2, false), (3, true), (4, true), (5, true), (7, false), (8, true)] (by kernel_rfl) (by kernel_rfl) hA8 (by kernel_rfl) ?_
   obtain ⟨r11, hd7, hr7⟩ := bind_some hr3
   refine p_call (i := 1) (d := some 29) (f := 28) (args := #[]) hf31 (by kernel_rfl) (f28_ok fuel  r11 hd7 z3 _ _ hS18 ) ?_
   rintro v7 ww18 a30 ⟨z8, e6, q6, k7, rfl, hS19, hx5⟩ hf32
   refine ⟨fun _ => Sub.of k7 (St.drop 1 hS19), ?_⟩
   have s6 : Sub z3 (box b3 [vI r2.1, vI r2.2.1] 59 :: box b2 [vI r1.1, vI r1.2.1] 59 :: box b1 [.slice e1 r7.length q1] 24 :: L) _ := Sub.of k7 (St.drop 1 hS19)
   obtain ⟨r12, hd8, hr8⟩ := bind_some hr7
   refine p_call (i := 2) (d := some 30) (f := 27) (args := #[.agg #[.slice e1 r7.length q1], .agg #[.slice e6 r11.length q6]]) hf32 (by kernel_rfl) (f27_ok fuel r7 r11 r12 hd8 z8 _ _ hS19 e1 q1 (SliceR.mono (Zone.le_trans (Zone.le_trans k2 k3) k7) hx1) e6 q6 hx5) ?_
   rintro v8 ww19 a31 ⟨z9, e7, q7, k8, rfl, hS20, hx6⟩ hf33
   refine ⟨fun e => absurd e (by decide), ?_⟩
   refine p_qP 3 [] [(1, pB b1 0), (2, pB b2 0), (3, vI r1.2.2), (4, pB b3 0), (5, vI r2.2.2), (6, pB b7 0), (31, .agg #[.slice e7 r12.1.length q7]), (32, vI r12.2)] [] hf33 (by kernel_rfl) (fun _ => .nil) fun a32 hf34 => ?_
   refine p_store_eq (i := 7) (j := 0) (b := b7) (off := 0) (vs := [.slice e7 r12.1.length q7]) (cs' := [.slice e7 r12.1.length q7]) hS20 hf34 rfl (by kernel_rfl) (by kernel_rfl) rfl fun ww20 a33 hS21 hf35 => ⟨fun e => absurd e (by decide), ?_⟩
   refine p_qP 1 [] [(1, pB b1 0), (2, pB b2 0), (3, vI r1.2.2), (4, pB b3 0), (5, vI r2.2.2), (6, pB b7 0), (7, vI r12.2)] [] hf35 (by kernel_rfl) (fun _ => .nil) fun a34 hf36 => ?_
   refine p_done (by kernel_rfl) ?_
   intro hA9
   refine k_done' (by kernel_rfl) (by kernel_rfl) ?_
   refine n_then ?_
   have hf37 := Fr.keep (ks := [1, 2, 3, 4, 5, 6, 7]) (r := [(1, pB b1 0), (2, pB b2 0), (3, vI r1.2.2), (4, pB b3 0), (5, vI r2.2.2), (6, pB b7 0), (7, vI r12.2)]) hf36 (by kernel_rfl)
   exact ⟨z9, r12.2, r12.1, b7, e7, q7, (Zone.le_trans k7 k8), hf37, (St.pick 1 [0] hS21 (by kernel_rfl)), hx6, hr8⟩
 ·rintro a35 ww21 ⟨z4, y4, y2, b4, e2, q2, k9, hf38, hS22, hx7, hr9⟩
  refine w_sr (by kernel_rfl) ?_
  refine p_qn 1 [.slice e1 r7.length q1] [(1, pB b1 0), (2, pB b2 0), (3, vI r1.2.2), (4, pB b3 0), (5, vI r2.2.2), (6, pB b4 0), (7, vI y4), (34, .agg #[.slice e1 r7.length q1])] [.cell ⟨b1, 0, none⟩ (.slice e1 r7.length q1)] hf38 (by kernel_rfl) (.cell (hS22.box (i := 3) rfl (j := 0) rfl) .nil) fun a36 hf39 => ?_
  obtain ⟨r3, hd9, hr10⟩ := bind_some hr9
  refine p_call (i := 1) (d := some 35) (f := 29) (args := #[.agg #[.slice e1 r7.length q1], vI 5, vI 11]) hf39 (by kernel_rfl) (f29_ok fuel r7 5 11 r3 hd9 z4 _ _ hS22 e1 q1 (SliceR.mono (Zone.le_trans (Zone.le_trans k2 k3) k9) hx1)) ?_
  rintro v9 ww22 a37 ⟨z10, k10, rfl, hS23⟩ hf40
  refine ⟨fun _ => trivial, ?_⟩
  refine p_qt [] [(1, pB b1 0), (2, pB b2 0), (3, vI r1.2.2), (4, pB b3 0), (5, vI r2.2.2), (6, pB b4 0), (7, vI y4), (8, vI r3.1), (9, vI r3.2.1), (10, vI r3.2.2)] [] hf40 (by kernel_rfl) .nil fun a38 hf41 => ?_
  refine w_sr (by kernel_rfl) ?_
  refine p_qn 2 [.slice e1 r7.length q1] [(2, pB b2 0), (3, vI r1.2.2), (4, pB b3 0), (5, vI r2.2.2), (6, pB b4 0), (7, vI y4), (8, vI r3.1), (9, vI r3.2.1), (10, vI r3.2.2), (40, .agg #[.slice e1 r7.length q1]), (41, .agg #[vI 6, vI 6])] [.cell ⟨b1, 0, none⟩ (.slice e1 r7.length q1)] hf41 (by kernel_rfl) (.cell (hS23.box (i := 3) rfl (j := 0) rfl) .nil) fun a39 hf42 => ?_
  obtain ⟨r4, hd10, hr11⟩ := bind_some hr10
  refine p_call (i := 2) (d := some 42) (f := 30) (args := #[.agg #[.slice e1 r7.length q1], .agg #[vI 6, vI 6]]) hf42 (by kernel_rfl) (f30_ok fuel r7 6 6 r4 hd10 z10 _ _ hS23 e1 q1 (SliceR.mono (Zone.le_trans (Zone.le_trans (Zone.le_trans k2 k3) k9) k10) hx1)) ?_
  rintro v10 ww23 a40 ⟨z11, e8, q8, k11, rfl, hS24, hx8⟩ hf43
  refine ⟨fun _ => trivial, ?_⟩
  refine p_qt [] [(2, pB b2 0), (3, vI r1.2.2), (4, pB b3 0), (5, vI r2.2.2), (6, pB b4 0), (7, vI y4), (8, vI r3.1), (9, vI r3.2.1), (10, vI r3.2.2), (11, .slice e8 r4.1.length q8), (12, vI r4.2)] [] hf43 (by kernel_rfl) .nil fun a41 hf44 => ?_
  refine w_mid (by kernel_rfl) (fun a w => ∃ z12 : Zone, ∃ y3 : Bool, Zone.le z11 z12 ∧ Fr a 97 [(2, pB b2 0), (4, pB b3 0), (6, pB b4 0), (8, vI r3.1), (9, vI r3.2.1), (11, .slice e8 r4.1.length q8), (13, .bool y3)] ∧ St z12 (box b4 [.slice e2 y2.length q2] 24 :: box b3 [vI r2.1, vI r2.2.1] 59 :: box b2 [vI r1.1, vI r1.2.1] 59 :: box b1 [.slice e1 r7.length q1] 24 :: L) w ∧ (F9_j2 fuel r1 r2 y2 r3 r4 y3) = some r) ?_ ?_
  ·skip
   refine w_reg (by kernel_rfl) ?_
   refine p_qn 3 [] [(2, pB b2 0), (4, pB b3 0), (5, vI r2.2.2), (6, pB b4 0), (7, vI y4), (8, vI r3.1), (9, vI r3.2.1), (10, vI r3.2.2), (11, .slice e8 r4.1.length q8), (12, vI r4.2), (47, .bool (r1.2.2 == (0 : Int)))] [] hf44 (by kernel_rfl) .nil fun a42 hf45 => ?_
   rcases Bool.eq_false_or_eq_true (r1.2.2 == (0 : Int)) with hb1 | hb1
   ·have hr12 := cond_t hb1 hr11
    have hf46 := Fr.conv hf45 (congrArg (fun z => ([(2, pB b2 0), (4, pB b3 0), (5, vI r2.2.2), (6, pB b4 0), (7, vI y4), (8, vI r3.1), (9, vI r3.2.1), (10, vI r3.2.2), (11, .slice e8 r4.1.length q8), (12, vI r4.2), (47, .bool z)] : FL)) hb1)
    refine p_qn 4 [] [(2, pB b2 0), (4, pB b3 0), (6, pB b4 0), (7, vI y4), (8, vI r3.1), (9, vI r3.2.1), (10, vI r3.2.2), (11, .slice e8 r4.1.length q8), (12, vI r4.2), (51, .bool (r2.2.2 == (0 : Int)))] [] hf46 (by kernel_rfl) .nil fun a43 hf47 => ?_
    rcases Bool.eq_false_or_eq_true (r2.2.2 == (0 : Int)) with hb2 | hb2
    ·have hr13 := cond_t hb2 hr12
     have hf48 := Fr.conv hf47 (congrArg (fun z => ([(2, pB b2 0), (4, pB b3 0), (6, pB b4 0), (7, vI y4), (8, vI r3.1), (9, vI r3.2.1), (10, vI r3.2.2), (11, .slice e8 r4.1.length q8), (12, vI r4.2), (51, .bool z)] : FL)) hb2)
     refine p_qn 4 [] [(2, pB b2 0), (4, pB b3 0), (6, pB b4 0), (8, vI r3.1), (9, vI r3.2.1), (10, vI r3.2.2), (11, .slice e8 r4.1.length q8), (12, vI r4.2), (55, .bool (y4 == (0 : Int)))] [] hf48 (by kernel_rfl) .nil fun a44 hf49 => ?_
     rcases Bool.eq_false_or_eq_true (y4 == (0 : Int)) with hb3 | hb3
     ·have hr14 := cond_t hb3 hr13
      have hf50 := Fr.conv hf49 (congrArg (fun z => ([(2, pB b2 0), (4, pB b3 0), (6, pB b4 0), (8, vI r3.1), (9, vI r3.2.1), (10, vI r3.2.2), (11, .slice e8 r4.1.length q8), (12, vI r4.2), (55, .bool z)] : FL)) hb3)
      refine p_qn 4 [] [(2, pB b2 0), (4, pB b3 0), (6, pB b4 0), (8, vI r3.1), (9, vI r3.2.1), (11, .slice e8 r4.1.length q8), (12, vI r4.2), (59, .bool (r3.2.2 == (0 : Int)))] [] hf50 (by kernel_rfl) .nil fun a45 hf51 => ?_
      rcases Bool.eq_false_or_eq_true (r3.2.2 == (0 : Int)) with hb4 | hb4
      ·have hr15 := cond_t hb4 hr14
       have hf52 := Fr.conv hf51 (congrArg (fun z => ([(2, pB b2 0), (4, pB b3 0), (6, pB b4 0), (8, vI r3.1), (9, vI r3.2.1), (11, .slice e8 r4.1.length q8), (12, vI r4.2), (59, .bool z)] : FL)) hb4)
       refine p_qt [] [(2, pB b2 0), (4, pB b3 0), (6, pB b4 0), (8, vI r3.1), (9, vI r3.2.1), (11, .slice e8 r4.1.length q8), (13, .bool (r4.2 == (0 : Int)))] [] hf52 (by kernel_rfl) .nil fun a46 hf53 => ?_
       have hf54 := Fr.keep (ks := [2, 4, 6, 8, 9, 11, 13]) (r := [(2, pB b2 0), (4, pB b3 0), (6, pB b4 0), (8, vI r3.1), (9, vI r3.2.1), (11, .slice e8 r4.1.length q8), (13, .bool (r4.2 == (0 : Int)))]) hf53 (by kernel_rfl)
       exact ⟨z11, (r4.2 == (0 : Int)), (Zone.le_refl _), hf54, hS24, hr15⟩
      ·have hr16 := cond_f hb4 hr14
       have hf55 := Fr.conv hf51 (congrArg (fun z => ([(2, pB b2 0), (4, pB b3 0), (6, pB b4 0), (8, vI r3.1), (9, vI r3.2.1), (11, .slice e8 r4.1.length q8), (12, vI r4.2), (59, .bool z)] : FL)) hb4)
       refine p_qt [] [(2, pB b2 0), (4, pB b3 0), (6, pB b4 0), (8, vI r3.1), (9, vI r3.2.1), (11, .slice e8 r4.1.length q8), (13, .bool false)] [] hf55 (by kernel_rfl) .nil fun a47 hf56 => ?_
       have hf57 := Fr.keep (ks := [2, 4, 6, 8, 9, 11, 13]) (r := [(2, pB b2 0), (4, pB b3 0), (6, pB b4 0), (8, vI r3.1), (9, vI r3.2.1), (11, .slice e8 r4.1.length q8), (13, .bool false)]) hf56 (by kernel_rfl)
       exact ⟨z11, false, (Zone.le_refl _), hf57, hS24, hr16⟩
     ·have hr17 := cond_f hb3 hr13
      have hf58 := Fr.conv hf49 (congrArg (fun z => ([(2, pB b2 0), (4, pB b3 0), (6, pB b4 0), (8, vI r3.1), (9, vI r3.2.1), (10, vI r3.2.2), (11, .slice e8 r4.1.length q8), (12, vI r4.2), (55, .bool z)] : FL)) hb3)
      refine p_qt [] [(2, pB b2 0), (4, pB b3 0), (6, pB b4 0), (8, vI r3.1), (9, vI r3.2.1), (11, .slice e8 r4.1.length q8), (13, .bool false)] [] hf58 (by kernel_rfl) .nil fun a48 hf59 => ?_
      have hf60 := Fr.keep (ks := [2, 4, 6, 8, 9, 11, 13]) (r := [(2, pB b2 0), (4, pB b3 0), (6, pB b4 0), (8, vI r3.1), (9, vI r3.2.1), (11, .slice e8 r4.1.length q8), (13, .bool false)]) hf59 (by kernel_rfl)
      exact ⟨z11, false, (Zone.le_refl _), hf60, hS24, hr17⟩
    ·have hr18 := cond_f hb2 hr12
     have hf61 := Fr.conv hf47 (congrArg (fun z => ([(2, pB b2 0), (4, pB b3 0), (6, pB b4 0), (7, vI y4), (8, vI r3.1), (9, vI r3.2.1), (10, vI r3.2.2), (11, .slice e8 r4.1.length q8), (12, vI r4.2), (51, .bool z)] : FL)) hb2)
     refine p_qt [] [(2, pB b2 0), (4, pB b3 0), (6, pB b4 0), (8, vI r3.1), (9, vI r3.2.1), (11, .slice e8 r4.1.length q8), (13, .bool false)] [] hf61 (by kernel_rfl) .nil fun a49 hf62 => ?_
     have hf63 := Fr.keep (ks := [2, 4, 6, 8, 9, 11, 13]) (r := [(2, pB b2 0), (4, pB b3 0), (6, pB b4 0), (8, vI r3.1), (9, vI r3.2.1), (11, .slice e8 r4.1.length q8), (13, .bool false)]) hf62 (by kernel_rfl)
     exact ⟨z11, false, (Zone.le_refl _), hf63, hS24, hr18⟩
   ·have hr19 := cond_f hb1 hr11
    have hf64 := Fr.conv hf45 (congrArg (fun z => ([(2, pB b2 0), (4, pB b3 0), (5, vI r2.2.2), (6, pB b4 0), (7, vI y4), (8, vI r3.1), (9, vI r3.2.1), (10, vI r3.2.2), (11, .slice e8 r4.1.length q8), (12, vI r4.2), (47, .bool z)] : FL)) hb1)
    refine p_qt [] [(2, pB b2 0), (4, pB b3 0), (6, pB b4 0), (8, vI r3.1), (9, vI r3.2.1), (11, .slice e8 r4.1.length q8), (13, .bool false)] [] hf64 (by kernel_rfl) .nil fun a50 hf65 => ?_
    have hf66 := Fr.keep (ks := [2, 4, 6, 8, 9, 11, 13]) (r := [(2, pB b2 0), (4, pB b3 0), (6, pB b4 0), (8, vI r3.1), (9, vI r3.2.1), (11, .slice e8 r4.1.length q8), (13, .bool false)]) hf65 (by kernel_rfl)
    exact ⟨z11, false, (Zone.le_refl _), hf66, hS24, hr19⟩
  ·rintro a51 ww24 ⟨z12, y3, k12, hf67, hS25, hr20⟩
   refine w_mid (by kernel_rfl) (fun a w => ∃ z13 : Zone, ∃ y1 : Bool, Zone.le z12 z13 ∧ Fr a 97 [(0, .bool y1)] ∧ St z13 (box b4 [.slice e2 y2.length q2] 24 :: box b3 [vI r2.1, vI r2.2.1] 59 :: box b2 [vI r1.1, vI r1.2.1] 59 :: box b1 [.slice e1 r7.length q1] 24 :: L) w ∧ (F9_j3 y1) = some r) ?_ ?_
   ·skip
    refine w_reg (by kernel_rfl) ?_
    refine p_qn 2 [] [(2, pB b2 0), (4, pB b3 0), (6, pB b4 0), (8, vI r3.1), (9, vI r3.2.1), (11, .slice e8 r4.1.length q8), (64, .bool y3)] [] hf67 (by kernel_rfl) .nil fun a52 hf68 => ?_
    rcases Bool.eq_false_or_eq_true y3 with hb5 | hb5
    ·have hr21 := cond_t hb5 hr20
     have hf69 := Fr.conv hf68 (congrArg (fun z => ([(2, pB b2 0), (4, pB b3 0), (6, pB b4 0), (8, vI r3.1), (9, vI r3.2.1), (11, .slice e8 r4.1.length q8), (64, .bool z)] : FL)) hb5)
     refine p_qn 5 [vI r1.1, vI r1.2.1] [(4, pB b3 0), (6, pB b4 0), (8, vI r3.1), (9, vI r3.2.1), (11, .slice e8 r4.1.length q8), (69, .bool ((r1.1 == (-10 : Int)) && ((r1.2.1 == (15 : Int)) && true)))] [.cell ⟨b2, 0, none⟩ (vI r1.1), .cell ⟨b2, 1, none⟩ (vI r1.2.1)] hf69 (by kernel_rfl) (.cell (hS25.box (i := 2) rfl (j := 0) rfl) (.cell (hS25.box (i := 2) rfl (j := 1) rfl) .nil)) fun a53 hf70 => ?_
     rcases Bool.eq_false_or_eq_true ((r1.1 == (-10 : Int)) && ((r1.2.1 == (15 : Int)) && true)) with hb6 | hb6
     ·have hr22 := cond_t hb6 hr21
      have hf71 := Fr.conv hf70 (congrArg (fun z => ([(4, pB b3 0), (6, pB b4 0), (8, vI r3.1), (9, vI r3.2.1), (11, .slice e8 r4.1.length q8), (69, .bool z)] : FL)) hb6)
      refine p_qn 5 [vI r2.1, vI r2.2.1] [(6, pB b4 0), (8, vI r3.1), (9, vI r3.2.1), (11, .slice e8 r4.1.length q8), (74, .bool ((r2.1 == (2 : Int)) && ((r2.2.1 == (9 : Int)) && true)))] [.cell ⟨b3, 0, none⟩ (vI r2.1), .cell ⟨b3, 1, none⟩ (vI r2.2.1)] hf71 (by kernel_rfl) (.cell (hS25.box (i := 1) rfl (j := 0) rfl) (.cell (hS25.box (i := 1) rfl (j := 1) rfl) .nil)) fun a54 hf72 => ?_
      rcases Bool.eq_false_or_eq_true ((r2.1 == (2 : Int)) && ((r2.2.1 == (9 : Int)) && true)) with hb7 | hb7
      ·have hr23 := cond_t hb7 hr22
       have hf73 := Fr.conv hf72 (congrArg (fun z => ([(6, pB b4 0), (8, vI r3.1), (9, vI r3.2.1), (11, .slice e8 r4.1.length q8), (74, .bool z)] : FL)) hb7)
       refine p_qn 4 [.slice e2 y2.length q2] [(8, vI r3.1), (9, vI r3.2.1), (11, .slice e8 r4.1.length q8), (74, .bool true), (75, .agg #[.slice e2 y2.length q2]), (76, .agg #[vI 5, vI 3, vI 6]), (77, .agg #[vI 10, vI 6, vI 11]), (78, .agg #[vI 20, vI 11, vI 16])] [.cell ⟨b4, 0, none⟩ (.slice e2 y2.length q2)] hf73 (by kernel_rfl) (.cell (hS25.box (i := 0) rfl (j := 0) rfl) .nil) fun a55 hf74 => ?_
       refine p_box (i := 16) (d := (some 79)) (cs := [vI 5, vI 3, vI 6, vI 10, vI 6, vI 11, vI 20, vI 11, vI 16]) (T := 39) (v := fun b8 => .slice (some ⟨b8, 0, none⟩) 3 3) hS25 hf74 (fun b => by kernel_rfl) fun b8 ww25 a56 hS26 hf75 => ⟨fun _ => trivial, ?_⟩
       have hS27 := hS26.ownBox (T := PtT) (E := 39) (n := 3) (xs := [⟨5, 3, 6⟩, ⟨10, 6, 11⟩, ⟨20, 11, 16⟩]) (i := 0) rfl (Rows.cons (c := [vI 5, vI 3, vI 6]) rfl (Rows.cons (c := [vI 10, vI 6, vI 11]) rfl (Rows.cons (c := [vI 20, vI 11, vI 16]) rfl rfl))) rfl (by decide)
       refine p_qn 1 [] [(8, vI r3.1), (9, vI r3.2.1), (11, .slice e8 r4.1.length q8), (74, .bool true), (75, .agg #[.slice e2 y2.length q2]), (80, .agg #[.slice (some ⟨b8, 0, none⟩) 3 3])] [] hf75 (by kernel_rfl) .nil fun a57 hf76 => ?_
       obtain ⟨z14, k13, hS28, hx9⟩ := hS27.share (j := 0) rfl
       obtain ⟨r5, hd11, hr24⟩ := bind_some hr23
       refine p_call (i := 18) (d := some 81) (f := 8) (args := #[.agg #[.slice e2 y2.length q2], .agg #[.slice (some ⟨b8, 0, none⟩) 3 3]]) hf76 (by kernel_rfl) (f8_ok fuel y2 ([⟨5, 3, 6⟩, ⟨10, 6, 11⟩, ⟨20, 11, 16⟩]) r5 hd11 z14 _ _ hS28 e2 q2 (SliceR.mono (Zone.le_trans (Zone.le_trans (Zone.le_trans k10 k11) k12) k13) hx7) (some ⟨b8, 0, none⟩) 3 hx9) ?_
       rintro v11 ww26 a58 ⟨z15, k14, rfl, hS29⟩ hf77
       refine ⟨fun _ => trivial, ?_⟩
       refine p_qn 2 [] [(8, vI r3.1), (9, vI r3.2.1), (11, .slice e8 r4.1.length q8), (83, .bool r5)] [] hf77 (by kernel_rfl) .nil fun a59 hf78 => ?_
       rcases Bool.eq_false_or_eq_true r5 with hb8 | hb8
       ·have hr25 := cond_t hb8 hr24
        have hf79 := Fr.conv hf78 (congrArg (fun z => ([(8, vI r3.1), (9, vI r3.2.1), (11, .slice e8 r4.1.length q8), (83, .bool z)] : FL)) hb8)
        refine p_qn 4 [] [(9, vI r3.2.1), (11, .slice e8 r4.1.length q8), (87, .bool (r3.1 == (48 : Int)))] [] hf79 (by kernel_rfl) .nil fun a60 hf80 => ?_
        rcases Bool.eq_false_or_eq_true (r3.1 == (48 : Int)) with hb9 | hb9
        ·have hr26 := cond_t hb9 hr25
         have hf81 := Fr.conv hf80 (congrArg (fun z => ([(9, vI r3.2.1), (11, .slice e8 r4.1.length q8), (87, .bool z)] : FL)) hb9)
         refine p_qn 4 [] [(11, .slice e8 r4.1.length q8), (91, .bool (r3.2.1 == (77 : Int)))] [] hf81 (by kernel_rfl) .nil fun a61 hf82 => ?_
         rcases Bool.eq_false_or_eq_true (r3.2.1 == (77 : Int)) with hb10 | hb10
         ·have hr27 := cond_t hb10 hr26
          have hf83 := Fr.conv hf82 (congrArg (fun z => ([(11, .slice e8 r4.1.length q8), (91, .bool z)] : FL)) hb10)
          refine p_qn 2 [] [(91, .bool true), (92, .slice e8 r4.1.length q8), (93, .agg #[vI 7, vI 13])] [] hf83 (by kernel_rfl) .nil fun a62 hf84 => ?_
          refine p_box (i := 31) (d := (some 94)) (cs := [vI 7, vI 13]) (T := 59) (v := fun b9 => .slice (some ⟨b9, 0, none⟩) 1 1) hS29 hf84 (fun b => by kernel_rfl) fun b9 ww27 a63 hS30 hf85 => ⟨fun _ => trivial, ?_⟩
          have hS31 := hS30.ownBox (T := RngT) (E := 59) (n := 1) (xs := [⟨7, 13⟩]) (i := 0) rfl (Rows.cons (c := [vI 7, vI 13]) rfl rfl) rfl (by decide)
          obtain ⟨z16, k15, hS32, hx10⟩ := hS31.share (j := 0) rfl
          obtain ⟨r6, hd12, hr28⟩ := bind_some hr27
          refine p_call (i := 32) (d := some 95) (f := 31) (args := #[.slice e8 r4.1.length q8, .slice (some ⟨b9, 0, none⟩) 1 1]) hf85 (by kernel_rfl) (f31_ok fuel r4.1 ([⟨7, 13⟩]) r6 hd12 z16 _ _ hS32 e8 q8 (SliceR.mono (Zone.le_trans (Zone.le_trans (Zone.le_trans k12 k13) k14) k15) hx8) (some ⟨b9, 0, none⟩) 1 hx10) ?_
          rintro v12 ww28 a64 ⟨z17, k16, rfl, hS33⟩ hf86
          refine ⟨fun _ => trivial, ?_⟩
          refine p_qt [] [(0, .bool r6)] [] hf86 (by kernel_rfl) .nil fun a65 hf87 => ?_
          have hf88 := Fr.keep (ks := [0]) (r := [(0, .bool r6)]) hf87 (by kernel_rfl)
          exact ⟨z17, r6, (Zone.le_trans (Zone.le_trans (Zone.le_trans k13 k14) k15) k16), hf88, (St.drop 2 hS33), hr28⟩
         ·have hr29 := cond_f hb10 hr26
          have hf89 := Fr.conv hf82 (congrArg (fun z => ([(11, .slice e8 r4.1.length q8), (91, .bool z)] : FL)) hb10)
          refine p_qt [] [(0, .bool false)] [] hf89 (by kernel_rfl) .nil fun a66 hf90 => ?_
          have hf91 := Fr.keep (ks := [0]) (r := [(0, .bool false)]) hf90 (by kernel_rfl)
          exact ⟨z15, false, (Zone.le_trans k13 k14), hf91, (St.drop 1 hS29), hr29⟩
        ·have hr30 := cond_f hb9 hr25
         have hf92 := Fr.conv hf80 (congrArg (fun z => ([(9, vI r3.2.1), (11, .slice e8 r4.1.length q8), (87, .bool z)] : FL)) hb9)
         refine p_qt [] [(0, .bool false)] [] hf92 (by kernel_rfl) .nil fun a67 hf93 => ?_
         have hf94 := Fr.keep (ks := [0]) (r := [(0, .bool false)]) hf93 (by kernel_rfl)
         exact ⟨z15, false, (Zone.le_trans k13 k14), hf94, (St.drop 1 hS29), hr30⟩
       ·have hr31 := cond_f hb8 hr24
        have hf95 := Fr.conv hf78 (congrArg (fun z => ([(8, vI r3.1), (9, vI r3.2.1), (11, .slice e8 r4.1.length q8), (83, .bool z)] : FL)) hb8)
        refine p_qt [] [(0, .bool false)] [] hf95 (by kernel_rfl) .nil fun a68 hf96 => ?_
        have hf97 := Fr.keep (ks := [0]) (r := [(0, .bool false)]) hf96 (by kernel_rfl)
        exact ⟨z15, false, (Zone.le_trans k13 k14), hf97, (St.drop 1 hS29), hr31⟩
      ·have hr32 := cond_f hb7 hr22
       have hf98 := Fr.conv hf72 (congrArg (fun z => ([(6, pB b4 0), (8, vI r3.1), (9, vI r3.2.1), (11, .slice e8 r4.1.length q8), (74, .bool z)] : FL)) hb7)
       refine p_qt [] [(0, .bool false)] [] hf98 (by kernel_rfl) .nil fun a69 hf99 => ?_
       have hf100 := Fr.keep (ks := [0]) (r := [(0, .bool false)]) hf99 (by kernel_rfl)
       exact ⟨z12, false, (Zone.le_refl _), hf100, hS25, hr32⟩
     ·have hr33 := cond_f hb6 hr21
      have hf101 := Fr.conv hf70 (congrArg (fun z => ([(4, pB b3 0), (6, pB b4 0), (8, vI r3.1), (9, vI r3.2.1), (11, .slice e8 r4.1.length q8), (69, .bool z)] : FL)) hb6)
      refine p_qt [] [(0, .bool false)] [] hf101 (by kernel_rfl) .nil fun a70 hf102 => ?_
      have hf103 := Fr.keep (ks := [0]) (r := [(0, .bool false)]) hf102 (by kernel_rfl)
      exact ⟨z12, false, (Zone.le_refl _), hf103, hS25, hr33⟩
    ·have hr34 := cond_f hb5 hr20
     have hf104 := Fr.conv hf68 (congrArg (fun z => ([(2, pB b2 0), (4, pB b3 0), (6, pB b4 0), (8, vI r3.1), (9, vI r3.2.1), (11, .slice e8 r4.1.length q8), (64, .bool z)] : FL)) hb5)
     refine p_qt [] [(0, .bool false)] [] hf104 (by kernel_rfl) .nil fun a71 hf105 => ?_
     have hf106 := Fr.keep (ks := [0]) (r := [(0, .bool false)]) hf105 (by kernel_rfl)
     exact ⟨z12, false, (Zone.le_refl _), hf106, hS25, hr34⟩
   ·rintro a72 ww29 ⟨z13, y1, k17, hf107, hS34, hr35⟩
    refine w_ret (by kernel_rfl) ?_
    refine p_ret (os := []) (v := .bool y1) (obs := []) hf107 (by kernel_rfl) .nil ?_
    obtain rfl := some_eq hr35
    exact ⟨_, rfl, z13, (Zone.le_trans (Zone.le_trans (Zone.le_trans (Zone.le_trans (Zone.le_trans (Zone.le_trans (Zone.le_trans k1 k2) k3) k9) k10) k11) k12) k17), rfl, (St.drop 4 hS34)⟩
end Go.Proofs.YtdcmpekmpmfffaaGreatDoor

