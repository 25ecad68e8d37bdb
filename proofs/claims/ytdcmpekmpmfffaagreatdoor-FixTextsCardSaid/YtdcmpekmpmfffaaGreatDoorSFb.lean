/-
  A part of the walk and of the plain law of one given statement. No condition.
-/
import Derived.Test.YtdcmpekmpmfffaaGreatDoorSFa
set_option linter.unusedVariables false
namespace Go.Proofs.YtdcmpekmpmfffaaGreatDoor
open Go.Sl Go.Sx
set_option maxRecDepth 100000 in
theorem f29_ok (fuel : Nat) (x0 : List Pt) (x1 : Int) (x2 : Int) (r : Int × Int × Int) (hr : F29 fuel x0 x1 x2 = some r) (h : Zone) (L : List Atom) (w : World) (hS : St h L w) (o_x0 : Option Addr) (c_x0 : Nat) (hx_x0 : SliceR PtT h o_x0 c_x0 x0) :
    Calls Tryz.prog 29 #[.agg #[.slice o_x0 x0.length c_x0], vI x1, vI x2] w fun e w' => ∃ v, e = .returned v ∧ (∃ h', Zone.le h h' ∧ v = .tuple #[vI r.1, vI r.2.1, vI r.2.2] ∧ St h' L w') := by
 refine calls_intro (N := 52) Tryz.func29 (by kernel_rfl) fun a hf => ?_
 refine w_sr (by kernel_rfl) ?_
 refine p_box (i := 0) (d := (some 3)) (cs := [.slice o_x0 x0.length c_x0]) (T := 24) (v := fun b1 => pB b1 0) hS hf (fun b => by kernel_rfl) fun b1 ww1 a1 hS1 hf1 => ⟨fun _ => trivial, ?_⟩
 refine p_qt [] [(1, vI x1), (2, vI x2), (3, pB b1 0)] [] hf1 (by kernel_rfl) .nil fun a2 hf2 => ?_
 refine w_seq (by kernel_rfl) ?_
 refine w_sr (by kernel_rfl) ?_
 refine p_qn 1 [.slice o_x0 x0.length c_x0] [(1, vI x1), (2, vI x2), (3, pB b1 0), (12, .agg #[.slice o_x0 x0.length c_x0])] [.cell ⟨b1, 0, none⟩ (.slice o_x0 x0.length c_x0)] hf2 (by kernel_rfl) (.cell (hS1.box (i := 0) rfl (j := 0) rfl) .nil) fun a3 hf3 => ?_
 obtain ⟨r27, hd1, hr1⟩ := bind_some hr
 refine p_call (i := 1) (d := some 13) (f := 10) (args := #[.agg #[.slice o_x0 x0.length c_x0]]) hf3 (by kernel_rfl) (f10_ok fuel x0 r27 hd1 h _ _ hS1 o_x0 c_x0 hx_x0) ?_
 rintro v1 ww2 a4 ⟨z1, k3, rfl, hS2⟩ hf4
 refine ⟨fun _ => trivial, ?_⟩
 refine p_qt [] [(1, vI x1), (2, vI x2), (3, pB b1 0), (9, vI r27)] [] hf4 (by kernel_rfl) .nil fun a5 hf5 => ?_
 refine w_sq [] [(1, vI x1), (2, vI x2), (3, pB b1 0), (9, vI r27), (15, .bool (r27 != (0 : Int)))] [] hf5 (by kernel_rfl) .nil fun a6 hf6 => ?_
 refine w_if hf6 (b := (r27 != (0 : Int))) (by kernel_rfl) (fun hb1 => ?_) (fun hb1 => ?_)
 ·have hr2 := cond_t hb1 hr1
  refine w_sq [] [(6, vI 0), (7, vI 0), (8, vI r27)] [] hf6 (by kernel_rfl) .nil fun a7 hf7 => ?_
  refine w_ret (by kernel_rfl) ?_
  refine r_then ?_
  refine p_ret (os := []) (v := .tuple #[vI 0, vI 0, vI r27]) (obs := []) hf7 (by kernel_rfl) .nil ?_
  obtain rfl := some_eq hr2
  exact ⟨_, rfl, z1, k3, rfl, (St.drop 1 hS2)⟩
 ·have hr3 := cond_f hb1 hr1
  refine w_skip (by kernel_rfl) ?_
  refine n_then ?_
  refine w_seq (by kernel_rfl) ?_
  refine w_mid (by kernel_rfl) (fun a w => ∃ z2 : Zone, ∃ y33 : Bool, Zone.le z1 z2 ∧ Fr a 52 [(1, vI x1), (2, vI x2), (3, pB b1 0), (27, .bool y33)] ∧ St z2 (box b1 [.slice o_x0 x0.length c_x0] 24 :: L) w ∧ (F29_j1 fuel x0 x1 x2 y33) = some r) ?_ ?_
  ·skip
   refine w_reg (by kernel_rfl) ?_
   refine p_qn 4 [] [(1, vI x1), (2, vI x2), (3, pB b1 0), (20, .bool (decide (x1 > x2)))] [] hf6 (by kernel_rfl) .nil fun a8 hf8 => ?_
   rcases Bool.eq_false_or_eq_true (decide (x1 > x2)) with hb2 | hb2
   ·have hr4 := cond_t hb2 hr3
    have hf9 := Fr.conv hf8 (congrArg (fun z => ([(1, vI x1), (2, vI x2), (3, pB b1 0), (20, .bool z)] : FL)) hb2)
    refine p_qt [] [(1, vI x1), (2, vI x2), (3, pB b1 0), (27, .bool true)] [] hf9 (by kernel_rfl) .nil fun a9 hf10 => ?_
    have hf11 := Fr.keep (ks := [1, 2, 3, 27]) (r := [(1, vI x1), (2, vI x2), (3, pB b1 0), (27, .bool true)]) hf10 (by kernel_rfl)
    exact ⟨z1, true, (Zone.le_refl _), hf11, hS2, hr4⟩
   ·have hr5 := cond_f hb2 hr3
    have hf12 := Fr.conv hf8 (congrArg (fun z => ([(1, vI x1), (2, vI x2), (3, pB b1 0), (20, .bool z)] : FL)) hb2)
    refine p_qn 4 [.slice o_x0 x0.length c_x0] [(1, vI x1), (2, vI x2), (3, pB b1 0), (20, .bool false), (21, .agg #[.slice o_x0 x0.length c_x0]), (24, .agg #[vI x1, vI x2])] [.cell ⟨b1, 0, none⟩ (.slice o_x0 x0.length c_x0)] hf12 (by kernel_rfl) (.cell (hS2.box (i := 0) rfl (j := 0) rfl) .nil) fun a10 hf13 => ?_
    obtain ⟨r28, hd2, hr6⟩ := bind_some hr5
    refine p_call (i := 8) (d := some 25) (f := 43) (args := #[.agg #[.slice o_x0 x0.length c_x0], .agg #[vI x1, vI x2]]) hf13 (by kernel_rfl) (f43_ok fuel x0 x1 x2 r28 hd2 z1 _ _ hS2 o_x0 c_x0 (SliceR.mono k3 hx_x0)) ?_
    rintro v2 ww3 a11 ⟨z3, k4, rfl, hS3⟩ hf14
    refine ⟨fun _ => trivial, ?_⟩
    refine p_qt [] [(1, vI x1), (2, vI x2), (3, pB b1 0), (27, .bool (!r28))] [] hf14 (by kernel_rfl) .nil fun a12 hf15 => ?_
    have hf16 := Fr.keep (ks := [1, 2, 3, 27]) (r := [(1, vI x1), (2, vI x2), (3, pB b1 0), (27, .bool (!r28))]) hf15 (by kernel_rfl)
    exact ⟨z3, (!r28), k4, hf16, hS3, hr6⟩
  ·rintro a13 ww4 ⟨z2, y33, k5, hf17, hS4, hr7⟩
   refine w_if hf17 (b := y33) (by kernel_rfl) (fun hb3 => ?_) (fun hb3 => ?_)
   ·have hr8 := cond_t hb3 hr7
    refine w_sq [] [(6, vI 0), (7, vI 0), (8, vI 4)] [] hf17 (by kernel_rfl) .nil fun a14 hf18 => ?_
    refine w_ret (by kernel_rfl) ?_
    refine r_then ?_
    refine p_ret (os := []) (v := .tuple #[vI 0, vI 0, vI 4]) (obs := []) hf18 (by kernel_rfl) .nil ?_
    obtain rfl := some_eq hr8
    exact ⟨_, rfl, z2, (Zone.le_trans k3 k5), rfl, (St.drop 1 hS4)⟩
   ·have hr9 := cond_f hb3 hr7
    refine w_skip (by kernel_rfl) ?_
    refine n_then ?_
    refine w_sr (by kernel_rfl) ?_
    refine p_qn 3 [.slice o_x0 x0.length c_x0] [(1, vI x1), (2, vI x2), (3, pB b1 0), (28, .agg #[.slice o_x0 x0.length c_x0]), (29, vI x1), (30, vI x2)] [.cell ⟨b1, 0, none⟩ (.slice o_x0 x0.length c_x0)] hf17 (by kernel_rfl) (.cell (hS4.box (i := 0) rfl (j := 0) rfl) .nil) fun a15 hf19 => ?_
    refine p_call (i := 3) (d := some 31) (f := 48) (args := #[.agg #[.slice o_x0 x0.length c_x0], vI x1, vI x2, .func (.func 49) #[] #[]]) hf19 (by kernel_rfl) (Φ := fun v w => ∃ z4 : Zone, ∃ y1 : Int, ∃ y2 : Int, ∃ y3 : Int, Zone.le z2 z4 ∧ v = .agg #[vI y1, vI y2, vI y3] ∧ St z4 (box b1 [.slice o_x0 x0.length c_x0] 24 :: L) w ∧ (F29_j2 fuel x0 x1 x2 y1 y2 y3) = some r) ?_ ?_
    ·refine calls_intro (N := 94) Tryz.func48 (by kernel_rfl) fun a16 hf20 => ?_
     refine w_sr (by kernel_rfl) ?_
     refine p_box (i := 0) (d := (some 4)) (cs := [.slice o_x0 x0.length c_x0]) (T := 24) (v := fun b2 => pB b2 0) hS4 hf20 (fun b => by kernel_rfl) fun b2 ww5 a17 hS5 hf21 => ⟨fun _ => trivial, ?_⟩
     refine p_box (i := 1) (d := (some 5)) (cs := [vI x1]) (T := 3) (v := fun b3 => pB b3 0) hS5 hf21 (fun b => by kernel_rfl) fun b3 ww6 a18 hS6 hf22 => ⟨fun _ => trivial, ?_⟩
     refine p_box (i := 2) (d := (some 6)) (cs := [vI x2]) (T := 3) (v := fun b4 => pB b4 0) hS6 hf22 (fun b => by kernel_rfl) fun b4 ww7 a19 hS7 hf23 => ⟨fun _ => trivial, ?_⟩
     refine p_box (i := 3) (d := (some 7)) (cs := [.func (.func 49) #[] #[]]) (T := 94) (v := fun b5 => pB b5 0) hS7 hf23 (fun b => by kernel_rfl) fun b5 ww8 a20 hS8 hf24 => ⟨fun _ => trivial, ?_⟩
     refine p_box (i := 4) (d := (some 8)) (cs := [vI 0, vI 0, vI 0]) (T := 92) (v := fun b6 => pB b6 0) hS8 hf24 (fun b => by kernel_rfl) fun b6 ww9 a21 hS9 hf25 => ⟨fun _ => trivial, ?_⟩
     refine p_dt (by kernel_rfl) ?_
     refine w_sr (by kernel_rfl) ?_
     refine p_qn 1 [] [(4, pB b2 0), (5, pB b3 0), (6, pB b4 0), (7, pB b5 0), (8, pB b6 0), (18, .agg #[vI 0, vI 0, vI 1])] [] hf25 (by kernel_rfl) .nil fun a22 hf26 => ?_
     refine p_box (i := 1) (d := (some 9)) (cs := [vI 0, vI 0, vI 0]) (T := 92) (v := fun b7 => pB b7 0) hS9 hf26 (fun b => by kernel_rfl) fun b7 ww10 a23 hS10 hf27 => ⟨fun _ => trivial, ?_⟩
     refine p_store_eq (i := 2) (j := 0) (b := b7) (off := 0) (vs := [vI 0, vI 0, vI 1]) (cs' := [vI 0, vI 0, vI 1]) hS10 hf27 rfl (by kernel_rfl) (by kernel_rfl) rfl fun ww11 a24 hS11 hf28 => ⟨fun _ => trivial, ?_⟩
     refine p_dt (by kernel_rfl) ?_
     refine w_seq (by kernel_rfl) ?_
     refine w_sr (by kernel_rfl) ?_
     refine p_qn 1 [.slice o_x0 x0.length c_x0] [(5, pB b3 0), (6, pB b4 0), (7, pB b5 0), (8, pB b6 0), (9, pB b7 0), (19, .agg #[.slice o_x0 x0.length c_x0])] [.cell ⟨b2, 0, none⟩ (.slice o_x0 x0.length c_x0)] hf28 (by kernel_rfl) (.cell (hS11.box (i := 5) rfl (j := 0) rfl) .nil) fun a25 hf29 => ?_
     refine p_inl (i := 1) (d := some 20) (f := 73) (args := #[.agg #[.slice o_x0 x0.length c_x0]]) (N' := 4) hf29 (by kernel_rfl) Tryz.func73 (by kernel_rfl) fun a26 hf30 => ?_
     refine w_sr (by kernel_rfl) ?_
     refine p_box (i := 0) (d := (some 1)) (cs := [.slice o_x0 x0.length c_x0]) (T := 24) (v := fun b8 => pB b8 0) hS11 hf30 (fun b => by kernel_rfl) fun b8 ww12 a27 hS12 hf31 => ⟨fun _ => trivial, ?_⟩
     refine p_qt [] [(1, pB b8 0)] [] hf31 (by kernel_rfl) .nil fun a28 hf32 => ?_
     refine w_sq [] [(2, .func (.func 101) #[] #[pB b8 0])] [] hf32 (by kernel_rfl) .nil fun a29 hf33 => ?_
     refine w_ret (by kernel_rfl) ?_
     refine p_ret (os := []) (v := .func (.func 101) #[] #[pB b8 0]) (obs := []) hf33 (by kernel_rfl) .nil ?_
     refine ⟨_, rfl, fun a30 hf34 => ?_⟩
     refine ⟨fun _ => trivial, ?_⟩
     refine p_dt (by kernel_rfl) ?_
     refine w_block (id := 0) (by kernel_rfl) ?_
     have hf35 := Fr.keep (ks := [5, 6, 7, 8, 9, 20]) (r := [(5, pB b3 0), (6, pB b4 0), (7, pB b5 0), (8, pB b6 0), (9, pB b7 0), (20, .func (.func 101) #[] #[pB b8 0])]) hf34 (by kernel_rfl)
     refine w_range (g := 20) (gf := 101) (lb := #[pB b8 0]) (by kernel_rfl) hf35 hS12 (by kernel_rfl) (fun l => by kernel_rfl) fun ps1 RA1 RB1 hps1 hA1 hB1 l1 D1 ww13 hS13 => ?_
     refine calls_intro (N := 40) Tryz.func101 (by kernel_rfl) fun a31 hf36 => ?_
     refine w_seq (by kernel_rfl) ?_
     refine w_sq [.slice o_x0 x0.length c_x0] [(0, .func (.yield l1) #[] #[]), (1, pB b8 0), (8, .bool ((x0.length : Int) == (1 : Int)))] [.cell ⟨b8, 0, none⟩ (.slice o_x0 x0.length c_x0)] hf36 (by kernel_rfl) (.cell (hS13.box (i := 2) rfl (j := 0) rfl) .nil) fun a32 hf37 => ?_
     refine w_if hf37 (b := ((x0.length : Int) == (1 : Int))) (by kernel_rfl) (fun hb4 => ?_) (fun hb4 => ?_)
     ·have hr10 := cond_t hb4 hr9
      refine w_seq (by kernel_rfl) ?_
      refine w_regDY (by kernel_rfl) 10 [(0, true), (1, true), (2, true), (3, true), (4, true), (5, true), (6, true), (7, true), (8, true), (9, true)] [] (by kernel_rfl) ?_
      have hS14 := hS13.drew
      obtain ⟨p7, hp3621, hr11⟩ := bind_some hr10
      obtain ⟨ad1, ho1, hb5, cc1, hc1, hk1⟩ := SliceR.getI (SliceR.mono (Zone.le_trans k3 k5) hx_x0) hp3621
      subst hc1
      obtain ⟨p8, hp3630, hr12⟩ := bind_some hr11
      obtain ⟨ad2, ho2, hb6, cc2, hc2, hk2⟩ := SliceR.getI (SliceR.mono (Zone.le_trans k3 k5) hx_x0) hp3630
      subst hc2
      refine p_qzE [.slice o_x0 x0.length c_x0, .pointer (some ad1), vI p7.x, vI p7.lo, vI p7.hi, .slice o_x0 x0.length c_x0, .pointer (some ad2), vI p8.x, vI p8.lo, vI p8.hi] [(9, .func (.yield l1) #[] #[]), (18, .agg #[vI p7.x, vI p7.lo, vI p7.hi, vI p8.x, vI p8.lo, vI p8.hi])] [.cell ⟨b8, 0, none⟩ (.slice o_x0 x0.length c_x0), .prop (o_x0 = some ad1), .prop (0 ≤ (0 : Int) ∧ (0 : Int) < (x0.length : Nat)), .cell ((ad1.add (Int.toNat 0 * 3)).add 0) (vI p7.x), .cell ((ad1.add (Int.toNat 0 * 3)).add 1) (vI p7.lo), .cell ((ad1.add (Int.toNat 0 * 3)).add 2) (vI p7.hi), .cell ⟨b8, 0, none⟩ (.slice o_x0 x0.length c_x0), .prop (o_x0 = some ad2), .prop (0 ≤ (0 : Int) ∧ (0 : Int) < (x0.length : Nat)), .cell ((ad2.add (Int.toNat 0 * 3)).add 0) (vI p8.x), .cell ((ad2.add (Int.toNat 0 * 3)).add 1) (vI p8.lo), .cell ((ad2.add (Int.toNat 0 * 3)).add 2) (vI p8.hi)] [] hf37 (by kernel_rfl) (.cell (hS14.box (i := 2) rfl (j := 0) rfl) (.prop ho1 (.prop hb5 (.cell (hS14.cell (hk1 0 _ rfl)) (.cell (hS14.cell (hk1 1 _ rfl)) (.cell (hS14.cell (hk1 2 _ rfl)) (.cell (hS14.box (i := 2) rfl (j := 0) rfl) (.prop ho2 (.prop hb6 (.cell (hS14.cell (hk2 0 _ rfl)) (.cell (hS14.cell (hk2 1 _ rfl)) (.cell (hS14.cell (hk2 2 _ rfl)) .nil)))))))))))) .nil fun a33 hf38 => ?_
      refine p_yield (d := some 19) (l := l1) (args := #[.agg #[vI p7.x, vI p7.lo, vI p7.hi, vI p8.x, vI p8.lo, vI p8.hi]]) hf38 (by kernel_rfl) hS14 (j := 0) rfl (by rw [hps1]; kernel_rfl) fun a34 hf39 => ?_
      rw [hps1] at hf39
      refine cw_eq hA1 ?_
      refine w_reg (by kernel_rfl) ?_
      refine p_box (i := 0) (d := (some 10)) (cs := [vI 0, vI 0, vI 0, vI 0, vI 0, vI 0]) (T := 118) (v := fun b9 => pB b9 0) hS14 hf39 (fun b => by kernel_rfl) fun b9 ww14 a35 hS15 hf40 => ⟨fun _ => trivial, ?_⟩
      refine p_store_eq (i := 1) (j := 0) (b := b9) (off := 0) (vs := [vI p7.x, vI p7.lo, vI p7.hi, vI p8.x, vI p8.lo, vI p8.hi]) (cs' := [vI p7.x, vI p7.lo, vI p7.hi, vI p8.x, vI p8.lo, vI p8.hi]) hS15 hf40 rfl (by kernel_rfl) (by kernel_rfl) rfl fun ww15 a36 hS16 hf41 => ⟨fun _ => trivial, ?_⟩
      refine p_dt (by kernel_rfl) ?_
      refine p_begin hS16 (j := 1) rfl fun ww16 hS17 => ?_
      refine cw_eq hB1 ?_
      refine w_block (id := 1) (by kernel_rfl) ?_
      have hS18 := hS17.drew
      refine w_sqD [(0, true), (1, true), (2, true), (3, true), (4, true), (5, true), (6, true), (7, true), (8, true), (9, true), (10, true), (11, true)] [] [vI p7.x, vI x1, vI p8.x, vI x2] [(7, pB b5 0), (9, pB b7 0), (10, pB b9 0), (11, vI (if x1 > p7.x then x1 else p7.x)), (12, vI (if x2 < p8.x then x2 else p8.x))] [.cell ⟨b9, 0, none⟩ (vI p7.x), .cell ⟨b3, 0, none⟩ (vI x1), .cell ⟨b9, 3, none⟩ (vI p8.x), .cell ⟨b4, 0, none⟩ (vI x2)] [] hf41 (by kernel_rfl) (.cell (hS18.box (i := 0) rfl (j := 0) rfl) (.cell (hS18.box (i := 8) rfl (j := 0) rfl) (.cell (hS18.box (i := 0) rfl (j := 3) rfl) (.cell (hS18.box (i := 7) rfl (j := 0) rfl) .nil)))) .nil fun a37 hf42 => ?_
      refine w_seq (by kernel_rfl) ?_
      refine w_sq [] [(7, pB b5 0), (9, pB b7 0), (10, pB b9 0), (11, vI (if x1 > p7.x then x1 else p7.x)), (12, vI (if x2 < p8.x then x2 else p8.x)), (34, .bool (decide ((if x1 > p7.x then x1 else p7.x) ≥ (if x2 < p8.x then x2 else p8.x))))] [] hf42 (by kernel_rfl) .nil fun a38 hf43 => ?_
      refine w_if hf43 (b := (decide ((if x1 > p7.x then x1 else p7.x) ≥ (if x2 < p8.x then x2 else p8.x)))) (by kernel_rfl) (fun hb7 => ?_) (fun hb7 => ?_)
      ·have hr13 := cond_t hb7 hr12
       refine w_exit (id := 1) (by kernel_rfl) ?_
       refine x_then ?_
       refine x_block ?_
       refine p_roundN hS18 (j := 1) rfl fun ww17 a39 hS19 hf44 => ?_
       have hS20 := St.drop 1 hS19
       refine p_dt (by kernel_rfl) ?_
       refine w_ret (by kernel_rfl) ?_
       refine r_then ?_
       refine p_ret (os := []) (v := .tuple #[]) (obs := []) hf44 (by kernel_rfl) .nil ?_
       refine ⟨_, rfl, fun a40 hf45 => ?_⟩
       refine p_jump0 hS20 (j := 0) rfl (fun h => by cases h) fun ww18 hS21 => ?_
       refine n_block ?_
       refine n_then ?_
       refine w_sr (by kernel_rfl) ?_
       refine p_qn 1 [vI 0, vI 0, vI 1] [(8, pB b6 0), (93, .agg #[vI 0, vI 0, vI 1])] [.cell ⟨b7, 0, none⟩ (vI 0), .cell ⟨b7, 1, none⟩ (vI 0), .cell ⟨b7, 2, none⟩ (vI 1)] hf45 (by kernel_rfl) (.cell (hS21.box (i := 3) rfl (j := 0) rfl) (.cell (hS21.box (i := 3) rfl (j := 1) rfl) (.cell (hS21.box (i := 3) rfl (j := 2) rfl) .nil))) fun a41 hf46 => ?_
       refine p_store_eq (i := 1) (j := 4) (b := b6) (off := 0) (vs := [vI 0, vI 0, vI 1]) (cs' := [vI 0, vI 0, vI 1]) hS21 hf46 rfl (by kernel_rfl) (by kernel_rfl) rfl fun ww19 a42 hS22 hf47 => ⟨fun _ => trivial, ?_⟩
       refine p_dt (by kernel_rfl) ?_
       refine w_ret (by kernel_rfl) ?_
       refine p_retM hf47 ?_
       refine p_mark hS22 (j := 1) rfl fun ww20 hS23 => ?_
       refine p_end (os := [vI 0, vI 0, vI 1]) (v := .agg #[vI 0, vI 0, vI 1]) (obs := [.cell ⟨b6, 0, none⟩ (vI 0), .cell ⟨b6, 1, none⟩ (vI 0), .cell ⟨b6, 2, none⟩ (vI 1)]) hf47 (by kernel_rfl) (.cell (hS23.box (i := 4) rfl (j := 0) rfl) (.cell (hS23.box (i := 4) rfl (j := 1) rfl) (.cell (hS23.box (i := 4) rfl (j := 2) rfl) .nil))) ?_
       exact ⟨_, rfl, z2, 0, 0, 1, (Zone.le_refl _), rfl, (St.drop 9 hS23), hr13⟩
      ·have hr14 := cond_f hb7 hr12
       refine w_skip (by kernel_rfl) ?_
       refine n_then ?_
       refine w_seq (by kernel_rfl) ?_
       have hS24 := hS18.drew
       have s1 : Sub z2 (box b9 [vI p7.x, vI p7.lo, vI p7.hi, vI p8.x, vI p8.lo, vI p8.hi] 118 :: loopA l1 94 [(5, pB b3 0), (6, pB b4 0), (7, pB b5 0), (8, pB b6 0), (9, pB b7 0), (20, .func (.func 101) #[] #[pB b8 0])] ps1 RA1 RB1 D1 .busy none :: defA D1 :: box b8 [.slice o_x0 x0.length c_x0] 24 :: box b7 [vI 0, vI 0, vI 1] 92 :: box b6 [vI 0, vI 0, vI 0] 92 :: box b5 [.func (.func 49) #[] #[]] 94 :: box b4 [vI x2] 3 :: box b3 [vI x1] 3 :: box b2 [.slice o_x0 x0.length c_x0] 24 :: box b1 [.slice o_x0 x0.length c_x0] 24 :: L) _ := Sub.of (Zone.le_refl _) hS24
       refine w_regD (by kernel_rfl) [(0, true), (1, true), (2, true), (4, true), (5, true), (6, true), (8, true), (9, true), (10, true), (13, true), (14, true), (15, true), (16, true), (17, true), (18, true), (19, true), (3, false), (7, false), (11, false), (12, true), (20, true), (21, true), (22, true)] [] (Sub z2 (box b9 [vI p7.x, vI p7.lo, vI p7.hi, vI p8.x, vI p8.lo, vI p8.hi] 118 :: loopA l1 94 [(5, pB b3 0), (6, pB b4 0), (7, pB b5 0), (8, pB b6 0), (9, pB b7 0), (20, .func (.func 101) #[] #[pB b8 0])] ps1 RA1 RB1 D1 .busy none :: defA D1 :: box b8 [.slice o_x0 x0.length c_x0] 24 :: box b7 [vI 0, vI 0, vI 1] 92 :: box b6 [vI 0, vI 0, vI 0] 92 :: box b5 [.func (.func 49) #[] #[]] 94 :: box b4 [vI x2] 3 :: box b3 [vI x1] 3 :: box b2 [.slice o_x0 x0.length c_x0] 24 :: box b1 [.slice o_x0 x0.length c_x0] 24 :: L)) (by kernel_rfl) s1 ?_
       refine p_qS 16 [.func (.func 49) #[] #[], vI p7.x, vI p7.lo, vI p7.hi, .func (.func 49) #[] #[], vI p8.x, vI p8.lo, vI p8.hi, .func (.func 49) #[] #[], vI p7.x, vI p7.lo, vI p7.hi, vI p8.x, vI p7.x] [(9, pB b7 0), (10, pB b9 0), (11, vI (if x1 > p7.x then x1 else p7.x)), (12, vI (if x2 < p8.x then x2 else p8.x)), (35, .func (.func 49) #[] #[]), (37, .agg #[vI p7.x, vI p7.lo, vI p7.hi]), (39, .func (.func 49) #[] #[]), (41, .agg #[vI p8.x, vI p8.lo, vI p8.hi]), (43, .func (.func 49) #[] #[]), (45, .agg #[vI p7.x, vI p7.lo, vI p7.hi]), (54, vI (w64 (p8.x - p7.x)))] [.cell ⟨b5, 0, none⟩ (.func (.func 49) #[] #[]), .cell ⟨b9, 0, none⟩ (vI p7.x), .cell ⟨b9, 1, none⟩ (vI p7.lo), .cell ⟨b9, 2, none⟩ (vI p7.hi), .cell ⟨b5, 0, none⟩ (.func (.func 49) #[] #[]), .cell ⟨b9, 3, none⟩ (vI p8.x), .cell ⟨b9, 4, none⟩ (vI p8.lo), .cell ⟨b9, 5, none⟩ (vI p8.hi), .cell ⟨b5, 0, none⟩ (.func (.func 49) #[] #[]), .cell ⟨b9, 0, none⟩ (vI p7.x), .cell ⟨b9, 1, none⟩ (vI p7.lo), .cell ⟨b9, 2, none⟩ (vI p7.hi), .cell ⟨b9, 3, none⟩ (vI p8.x), .cell ⟨b9, 0, none⟩ (vI p7.x)] [] s1 hf43 (by kernel_rfl) (fun _ s => (.cell (s.box (i := 6) rfl (j := 0) rfl) (.cell (s.box (i := 0) rfl (j := 0) rfl) (.cell (s.box (i := 0) rfl (j := 1) rfl) (.cell (s.box (i := 0) rfl (j := 2) rfl) (.cell (s.box (i := 6) rfl (j := 0) rfl) (.cell (s.box (i := 0) rfl (j := 3) rfl) (.cell (s.box (i := 0) rfl (j := 4) rfl) (.cell (s.box (i := 0) rfl (j := 5) rfl) (.cell (s.box (i := 6) rfl (j := 0) rfl) (.cell (s.box (i := 0) rfl (j := 0) rfl) (.cell (s.box (i := 0) rfl (j := 1) rfl) (.cell (s.box (i := 0) rfl (j := 2) rfl) (.cell (s.box (i := 0) rfl (j := 3) rfl) (.cell (s.box (i := 0) rfl (j := 0) rfl) .nil))))))))))))))) .nil fun a43 hf48 => ?_
       obtain ⟨r21, hd3, hr15⟩ := bind_some hr14
       refine p_call (i := 3) (d := some 38) (f := 49) (args := #[.agg #[vI p7.x, vI p7.lo, vI p7.hi]]) hf48 (by kernel_rfl) (f49_ok fuel p7.x p7.lo p7.hi r21 hd3 z2 _ _ hS24 ) ?_
       rintro v3 ww21 a44 ⟨rfl, hS25⟩ hf49
       refine ⟨fun _ => Sub.of (Zone.le_refl _) hS25, ?_⟩
       have s2 : Sub z2 (box b9 [vI p7.x, vI p7.lo, vI p7.hi, vI p8.x, vI p8.lo, vI p8.hi] 118 :: loopA l1 94 [(5, pB b3 0), (6, pB b4 0), (7, pB b5 0), (8, pB b6 0), (9, pB b7 0), (20, .func (.func 101) #[] #[pB b8 0])] ps1 RA1 RB1 D1 .busy none :: defA D1 :: box b8 [.slice o_x0 x0.length c_x0] 24 :: box b7 [vI 0, vI 0, vI 1] 92 :: box b6 [vI 0, vI 0, vI 0] 92 :: box b5 [.func (.func 49) #[] #[]] 94 :: box b4 [vI x2] 3 :: box b3 [vI x1] 3 :: box b2 [.slice o_x0 x0.length c_x0] 24 :: box b1 [.slice o_x0 x0.length c_x0] 24 :: L) _ := Sub.of (Zone.le_refl _) hS25
       obtain ⟨r22, hd4, hr16⟩ := bind_some hr15
       refine p_call (i := 7) (d := some 42) (f := 49) (args := #[.agg #[vI p8.x, vI p8.lo, vI p8.hi]]) hf49 (by kernel_rfl) (f49_ok fuel p8.x p8.lo p8.hi r22 hd4 z2 _ _ hS25 ) ?_
       rintro v4 ww22 a45 ⟨rfl, hS26⟩ hf50
       refine ⟨fun _ => Sub.of (Zone.le_refl _) hS26, ?_⟩
       have s3 : Sub z2 (box b9 [vI p7.x, vI p7.lo, vI p7.hi, vI p8.x, vI p8.lo, vI p8.hi] 118 :: loopA l1 94 [(5, pB b3 0), (6, pB b4 0), (7, pB b5 0), (8, pB b6 0), (9, pB b7 0), (20, .func (.func 101) #[] #[pB b8 0])] ps1 RA1 RB1 D1 .busy none :: defA D1 :: box b8 [.slice o_x0 x0.length c_x0] 24 :: box b7 [vI 0, vI 0, vI 1] 92 :: box b6 [vI 0, vI 0, vI 0] 92 :: box b5 [.func (.func 49) #[] #[]] 94 :: box b4 [vI x2] 3 :: box b3 [vI x1] 3 :: box b2 [.slice o_x0 x0.length c_x0] 24 :: box b1 [.slice o_x0 x0.length c_x0] 24 :: L) _ := Sub.of (Zone.le_refl _) hS26
       obtain ⟨r23, hd5, hr17⟩ := bind_some hr16
       refine p_call (i := 11) (d := some 46) (f := 49) (args := #[.agg #[vI p7.x, vI p7.lo, vI p7.hi]]) hf50 (by kernel_rfl) (f49_ok fuel p7.x p7.lo p7.hi r23 hd5 z2 _ _ hS26 ) ?_
       rintro v5 ww23 a46 ⟨rfl, hS27⟩ hf51
       refine ⟨fun _ => Sub.of (Zone.le_refl _) hS27, ?_⟩
       have s4 : Sub z2 (box b9 [vI p7.x, vI p7.lo, vI p7.hi, vI p8.x, vI p8.lo, vI p8.hi] 118 :: loopA l1 94 [(5, pB b3 0), (6, pB b4 0), (7, pB b5 0), (8, pB b6 0), (9, pB b7 0), (20, .func (.func 101) #[] #[pB b8 0])] ps1 RA1 RB1 D1 .busy none :: defA D1 :: box b8 [.slice o_x0 x0.length c_x0] 24 :: box b7 [vI 0, vI 0, vI 1] 92 :: box b6 [vI 0, vI 0, vI 0] 92 :: box b5 [.func (.func 49) #[] #[]] 94 :: box b4 [vI x2] 3 :: box b3 [vI x1] 3 :: box b2 [.slice o_x0 x0.length c_x0] 24 :: box b1 [.slice o_x0 x0.length c_x0] 24 :: L) _ := Sub.of (Zone.le_refl _) hS27
       refine p_qS 4 [] [(9, pB b7 0), (10, pB b9 0), (11, vI (if x1 > p7.x then x1 else p7.x)), (12, vI (if x2 < p8.x then x2 else p8.x)), (13, vI r21), (14, vI (w64 (r22 - r23))), (15, vI (w64 (p8.x - p7.x)))] [] [] s4 hf51 (by kernel_rfl) (fun _ s => .nil) .nil fun a47 hf52 => ?_
       refine p_dt (by kernel_rfl) ?_
       refine w_sq [vI p7.x] [(9, pB b7 0), (11, vI (if x1 > p7.x then x1 else p7.x)), (12, vI (if x2 < p8.x then x2 else p8.x)), (13, vI r21), (14, vI (w64 (r22 - r23))), (15, vI (w64 (p8.x - p7.x))), (16, vI (w64 ((w64 ((if x2 < p8.x then x2 else p8.x) - (if x1 > p7.x then x1 else p7.x))) * (w64 ((w64 ((if x1 > p7.x then x1 else p7.x) + (if x2 < p8.x then x2 else p8.x))) - (w64 ((2 : Int) * p7.x)))))))] [.cell ⟨b9, 0, none⟩ (vI p7.x)] hf52 (by kernel_rfl) (.cell (hS27.box (i := 0) rfl (j := 0) rfl) .nil) fun a48 hf53 => ?_
       refine w_sr (by kernel_rfl) ?_
       refine p_qn 2 [] [(9, pB b7 0), (11, vI (if x1 > p7.x then x1 else p7.x)), (12, vI (if x2 < p8.x then x2 else p8.x)), (13, vI r21), (14, vI (w64 (r22 - r23))), (15, vI (w64 (p8.x - p7.x))), (16, vI (w64 ((w64 ((if x2 < p8.x then x2 else p8.x) - (if x1 > p7.x then x1 else p7.x))) * (w64 ((w64 ((if x1 > p7.x then x1 else p7.x) + (if x2 < p8.x then x2 else p8.x))) - (w64 ((2 : Int) * p7.x))))))), (67, vI (w64 (r22 - r23))), (68, vI (w64 (p8.x - p7.x)))] [] hf53 (by kernel_rfl) .nil fun a49 hf54 => ?_
       obtain ⟨r24, hd6, hr18⟩ := bind_some hr17
       refine p_call (i := 2) (d := some 69) (f := 51) (args := #[vI (w64 (r22 - r23)), vI (w64 (p8.x - p7.x))]) hf54 (by kernel_rfl) (f51_ok fuel (w64 (r22 - r23)) (w64 (p8.x - p7.x)) r24 hd6 z2 _ _ hS27 ) ?_
       rintro v6 ww24 a50 ⟨rfl, hS28⟩ hf55
       refine ⟨fun _ => trivial, ?_⟩
       refine p_qt [] [(9, pB b7 0), (11, vI (if x1 > p7.x then x1 else p7.x)), (12, vI (if x2 < p8.x then x2 else p8.x)), (13, vI r21), (14, vI (w64 (r22 - r23))), (15, vI (w64 (p8.x - p7.x))), (16, vI (w64 ((w64 ((if x2 < p8.x then x2 else p8.x) - (if x1 > p7.x then x1 else p7.x))) * (w64 ((w64 ((if x1 > p7.x then x1 else p7.x) + (if x2 < p8.x then x2 else p8.x))) - (w64 ((2 : Int) * p7.x))))))), (17, vI r24)] [] hf55 (by kernel_rfl) .nil fun a51 hf56 => ?_
       refine w_sr (by kernel_rfl) ?_
       refine p_qn 14 [vI 0] [(9, pB b7 0), (14, vI (w64 (r22 - r23))), (15, vI (w64 (p8.x - p7.x))), (16, vI (w64 ((w64 ((if x2 < p8.x then x2 else p8.x) - (if x1 > p7.x then x1 else p7.x))) * (w64 ((w64 ((if x1 > p7.x then x1 else p7.x) + (if x2 < p8.x then x2 else p8.x))) - (w64 ((2 : Int) * p7.x))))))), (17, vI r24), (82, vI (w64 ((0 : Int) + (w64 ((w64 ((w64 ((2 : Int) * r21)) * (w64 ((if x2 < p8.x then x2 else p8.x) - (if x1 > p7.x then x1 else p7.x))))) + (w64 (r24 * (w64 ((w64 ((if x2 < p8.x then x2 else p8.x) - (if x1 > p7.x then x1 else p7.x))) * (w64 ((w64 ((if x1 > p7.x then x1 else p7.x) + (if x2 < p8.x then x2 else p8.x))) - (w64 ((2 : Int) * p7.x))))))))))))), (83, pB b7 0)] [.cell ⟨b7, 0, none⟩ (vI 0)] hf56 (by kernel_rfl) (.cell (hS28.box (i := 4) rfl (j := 0) rfl) .nil) fun a52 hf57 => ?_
       refine p_store_eq (i := 14) (j := 4) (b := b7) (off := 0) (vs := [vI (w64 ((0 : Int) + (w64 ((w64 ((w64 ((2 : Int) * r21)) * (w64 ((if x2 < p8.x then x2 else p8.x) - (if x1 > p7.x then x1 else p7.x))))) + (w64 (r24 * (w64 ((w64 ((if x2 < p8.x then x2 else p8.x) - (if x1 > p7.x then x1 else p7.x))) * (w64 ((w64 ((if x1 > p7.x then x1 else p7.x) + (if x2 < p8.x then x2 else p8.x))) - (w64 ((2 : Int) * p7.x))))))))))))]) (cs' := [vI (w64 ((0 : Int) + (w64 ((w64 ((w64 ((2 : Int) * r21)) * (w64 ((if x2 < p8.x then x2 else p8.x) - (if x1 > p7.x then x1 else p7.x))))) + (w64 (r24 * (w64 ((w64 ((if x2 < p8.x then x2 else p8.x) - (if x1 > p7.x then x1 else p7.x))) * (w64 ((w64 ((if x1 > p7.x then x1 else p7.x) + (if x2 < p8.x then x2 else p8.x))) - (w64 ((2 : Int) * p7.x)))))))))))), vI 0, vI 1]) hS28 hf57 rfl (by kernel_rfl) (by kernel_rfl) rfl fun ww25 a53 hS29 hf58 => ⟨fun _ => trivial, ?_⟩
       refine p_dt (by kernel_rfl) ?_
       refine w_reg (by kernel_rfl) ?_
       refine p_qn 8 [] [(9, pB b7 0), (90, vI (w64 ((w64 ((w64 (r22 - r23)) - (w64 (r24 * (w64 (p8.x - p7.x)))))) * (w64 ((w64 ((if x2 < p8.x then x2 else p8.x) - (if x1 > p7.x then x1 else p7.x))) * (w64 ((w64 ((if x1 > p7.x then x1 else p7.x) + (if x2 < p8.x then x2 else p8.x))) - (w64 ((2 : Int) * p7.x))))))))), (91, vI (w64 (p8.x - p7.x)))] [] hf58 (by kernel_rfl) .nil fun a54 hf59 => ?_
       refine p_call (i := 8) (d := some 92) (f := 83) (args := #[pB b7 0, vI (w64 ((w64 ((w64 (r22 - r23)) - (w64 (r24 * (w64 (p8.x - p7.x)))))) * (w64 ((w64 ((if x2 < p8.x then x2 else p8.x) - (if x1 > p7.x then x1 else p7.x))) * (w64 ((w64 ((if x1 > p7.x then x1 else p7.x) + (if x2 < p8.x then x2 else p8.x))) - (w64 ((2 : Int) * p7.x)))))))), vI (w64 (p8.x - p7.x))]) hf59 (by kernel_rfl) (Φ := fun v w => ∃ z5 : Zone, ∃ y20 : Int, ∃ y21 : Int, ∃ y22 : Int, Zone.le z2 z5 ∧ v = .tuple #[] ∧ St z5 (box b9 [vI p7.x, vI p7.lo, vI p7.hi, vI p8.x, vI p8.lo, vI p8.hi] 118 :: loopA l1 94 [(5, pB b3 0), (6, pB b4 0), (7, pB b5 0), (8, pB b6 0), (9, pB b7 0), (20, .func (.func 101) #[] #[pB b8 0])] ps1 RA1 RB1 D1 .busy none :: defA D1 :: box b8 [.slice o_x0 x0.length c_x0] 24 :: box b7 [vI y20, vI y21, vI y22] 92 :: box b6 [vI 0, vI 0, vI 0] 92 :: box b5 [.func (.func 49) #[] #[]] 94 :: box b4 [vI x2] 3 :: box b3 [vI x1] 3 :: box b2 [.slice o_x0 x0.length c_x0] 24 :: box b1 [.slice o_x0 x0.length c_x0] 24 :: L) w ∧ (F29_j3 fuel x0 x1 x2 y20 y21 y22) = some r) ?_ ?_
       ·refine calls_intro (N := 51) Tryz.func83 (by kernel_rfl) fun a55 hf60 => ?_
        refine w_seq (by kernel_rfl) ?_
        have hS30 := hS29.drew
        have s5 : Sub z2 (box b9 [vI p7.x, vI p7.lo, vI p7.hi, vI p8.x, vI p8.lo, vI p8.hi] 118 :: loopA l1 94 [(5, pB b3 0), (6, pB b4 0), (7, pB b5 0), (8, pB b6 0), (9, pB b7 0), (20, .func (.func 101) #[] #[pB b8 0])] ps1 RA1 RB1 D1 .busy none :: defA D1 :: box b8 [.slice o_x0 x0.length c_x0] 24 :: box b7 [vI (w64 ((0 : Int) + (w64 ((w64 ((w64 ((2 : Int) * r21)) * (w64 ((if x2 < p8.x then x2 else p8.x) - (if x1 > p7.x then x1 else p7.x))))) + (w64 (r24 * (w64 ((w64 ((if x2 < p8.x then x2 else p8.x) - (if x1 > p7.x then x1 else p7.x))) * (w64 ((w64 ((if x1 > p7.x then x1 else p7.x) + (if x2 < p8.x then x2 else p8.x))) - (w64 ((2 : Int) * p7.x)))))))))))), vI 0, vI 1] 92 :: box b6 [vI 0, vI 0, vI 0] 92 :: box b5 [.func (.func 49) #[] #[]] 94 :: box b4 [vI x2] 3 :: box b3 [vI x1] 3 :: box b2 [.slice o_x0 x0.length c_x0] 24 :: box b1 [.slice o_x0 x0.length c_x0] 24 :: L) _ := Sub.of (Zone.le_refl _) hS30
        refine w_regD (by kernel_rfl) [(0, true), (1, true), (2, true), (3, true), (4, true), (5, true), (6, false), (7, true), (8, true), (9, true), (10, false)] [10] (Sub z2 (box b9 [vI p7.x, vI p7.lo, vI p7.hi, vI p8.x, vI p8.lo, vI p8.hi] 118 :: loopA l1 94 [(5, pB b3 0), (6, pB b4 0), (7, pB b5 0), (8, pB b6 0), (9, pB b7 0), (20, .func (.func 101) #[] #[pB b8 0])] ps1 RA1 RB1 D1 .busy none :: defA D1 :: box b8 [.slice o_x0 x0.length c_x0] 24 :: box b7 [vI (w64 ((0 : Int) + (w64 ((w64 ((w64 ((2 : Int) * r21)) * (w64 ((if x2 < p8.x then x2 else p8.x) - (if x1 > p7.x then x1 else p7.x))))) + (w64 (r24 * (w64 ((w64 ((if x2 < p8.x then x2 else p8.x) - (if x1 > p7.x then x1 else p7.x))) * (w64 ((w64 ((if x1 > p7.x then x1 else p7.x) + (if x2 < p8.x then x2 else p8.x))) - (w64 ((2 : Int) * p7.x)))))))))))), vI 0, vI 1] 92 :: box b6 [vI 0, vI 0, vI 0] 92 :: box b5 [.func (.func 49) #[] #[]] 94 :: box b4 [vI x2] 3 :: box b3 [vI x1] 3 :: box b2 [.slice o_x0 x0.length c_x0] 24 :: box b1 [.slice o_x0 x0.length c_x0] 24 :: L)) (by kernel_rfl) s5 ?_
        refine p_qS 6 [vI (w64 ((0 : Int) + (w64 ((w64 ((w64 ((2 : Int) * r21)) * (w64 ((if x2 < p8.x then x2 else p8.x) - (if x1 > p7.x then x1 else p7.x))))) + (w64 (r24 * (w64 ((w64 ((if x2 < p8.x then x2 else p8.x) - (if x1 > p7.x then x1 else p7.x))) * (w64 ((w64 ((if x1 > p7.x then x1 else p7.x) + (if x2 < p8.x then x2 else p8.x))) - (w64 ((2 : Int) * p7.x))))))))))))] [(0, pB b7 0), (1, vI (w64 ((w64 ((w64 (r22 - r23)) - (w64 (r24 * (w64 (p8.x - p7.x)))))) * (w64 ((w64 ((if x2 < p8.x then x2 else p8.x) - (if x1 > p7.x then x1 else p7.x))) * (w64 ((w64 ((if x1 > p7.x then x1 else p7.x) + (if x2 < p8.x then x2 else p8.x))) - (w64 ((2 : Int) * p7.x))))))))), (2, vI (w64 (p8.x - p7.x))), (7, pB b7 0), (10, vI (w64 ((0 : Int) + (w64 ((w64 ((w64 ((2 : Int) * r21)) * (w64 ((if x2 < p8.x then x2 else p8.x) - (if x1 > p7.x then x1 else p7.x))))) + (w64 (r24 * (w64 ((w64 ((if x2 < p8.x then x2 else p8.x) - (if x1 > p7.x then x1 else p7.x))) * (w64 ((w64 ((if x1 > p7.x then x1 else p7.x) + (if x2 < p8.x then x2 else p8.x))) - (w64 ((2 : Int) * p7.x))))))))))))), (11, vI (w64 ((w64 ((w64 (r22 - r23)) - (w64 (r24 * (w64 (p8.x - p7.x)))))) * (w64 ((w64 ((if x2 < p8.x then x2 else p8.x) - (if x1 > p7.x then x1 else p7.x))) * (w64 ((w64 ((if x1 > p7.x then x1 else p7.x) + (if x2 < p8.x then x2 else p8.x))) - (w64 ((2 : Int) * p7.x))))))))), (12, vI (w64 (p8.x - p7.x)))] [.cell ⟨b7, 0, none⟩ (vI (w64 ((0 : Int) + (w64 ((w64 ((w64 ((2 : Int) * r21)) * (w64 ((if x2 < p8.x then x2 else p8.x) - (if x1 > p7.x then x1 else p7.x))))) + (w64 (r24 * (w64 ((w64 ((if x2 < p8.x then x2 else p8.x) - (if x1 > p7.x then x1 else p7.x))) * (w64 ((w64 ((if x1 > p7.x then x1 else p7.x) + (if x2 < p8.x then x2 else p8.x))) - (w64 ((2 : Int) * p7.x)))))))))))))] [] s5 hf60 (by kernel_rfl) (fun _ s => (.cell (s.box (i := 4) rfl (j := 0) rfl) .nil)) .nil fun a56 hf61 => ?_
        obtain ⟨r25, hd7, hr19⟩ := bind_some hr18
        refine p_call (i := 6) (d := some 13) (f := 51) (args := #[vI (w64 ((w64 ((w64 (r22 - r23)) - (w64 (r24 * (w64 (p8.x - p7.x)))))) * (w64 ((w64 ((if x2 < p8.x then x2 else p8.x) - (if x1 > p7.x then x1 else p7.x))) * (w64 ((w64 ((if x1 > p7.x then x1 else p7.x) + (if x2 < p8.x then x2 else p8.x))) - (w64 ((2 : Int) * p7.x)))))))), vI (w64 (p8.x - p7.x))]) hf61 (by kernel_rfl) (f51_ok fuel (w64 ((w64 ((w64 (r22 - r23)) - (w64 (r24 * (w64 (p8.x - p7.x)))))) * (w64 ((w64 ((if x2 < p8.x then x2 else p8.x) - (if x1 > p7.x then x1 else p7.x))) * (w64 ((w64 ((if x1 > p7.x then x1 else p7.x) + (if x2 < p8.x then x2 else p8.x))) - (w64 ((2 : Int) * p7.x)))))))) (w64 (p8.x - p7.x)) r25 hd7 z2 _ _ hS30 ) ?_
        rintro v7 ww26 a57 ⟨rfl, hS31⟩ hf62
        refine ⟨fun _ => Sub.of (Zone.le_refl _) hS31, ?_⟩
        have s6 : Sub z2 (box b9 [vI p7.x, vI p7.lo, vI p7.hi, vI p8.x, vI p8.lo, vI p8.hi] 118 :: loopA l1 94 [(5, pB b3 0), (6, pB b4 0), (7, pB b5 0), (8, pB b6 0), (9, pB b7 0), (20, .func (.func 101) #[] #[pB b8 0])] ps1 RA1 RB1 D1 .busy none :: defA D1 :: box b8 [.slice o_x0 x0.length c_x0] 24 :: box b7 [vI (w64 ((0 : Int) + (w64 ((w64 ((w64 ((2 : Int) * r21)) * (w64 ((if x2 < p8.x then x2 else p8.x) - (if x1 > p7.x then x1 else p7.x))))) + (w64 (r24 * (w64 ((w64 ((if x2 < p8.x then x2 else p8.x) - (if x1 > p7.x then x1 else p7.x))) * (w64 ((w64 ((if x1 > p7.x then x1 else p7.x) + (if x2 < p8.x then x2 else p8.x))) - (w64 ((2 : Int) * p7.x)))))))))))), vI 0, vI 1] 92 :: box b6 [vI 0, vI 0, vI 0] 92 :: box b5 [.func (.func 49) #[] #[]] 94 :: box b4 [vI x2] 3 :: box b3 [vI x1] 3 :: box b2 [.slice o_x0 x0.length c_x0] 24 :: box b1 [.slice o_x0 x0.length c_x0] 24 :: L) _ := Sub.of (Zone.le_refl _) hS31
        refine p_qS 3 [] [(0, pB b7 0), (1, vI (w64 ((w64 ((w64 (r22 - r23)) - (w64 (r24 * (w64 (p8.x - p7.x)))))) * (w64 ((w64 ((if x2 < p8.x then x2 else p8.x) - (if x1 > p7.x then x1 else p7.x))) * (w64 ((w64 ((if x1 > p7.x then x1 else p7.x) + (if x2 < p8.x then x2 else p8.x))) - (w64 ((2 : Int) * p7.x))))))))), (2, vI (w64 (p8.x - p7.x))), (14, vI (w64 ((w64 ((0 : Int) + (w64 ((w64 ((w64 ((2 : Int) * r21)) * (w64 ((if x2 < p8.x then x2 else p8.x) - (if x1 > p7.x then x1 else p7.x))))) + (w64 (r24 * (w64 ((w64 ((if x2 < p8.x then x2 else p8.x) - (if x1 > p7.x then x1 else p7.x))) * (w64 ((w64 ((if x1 > p7.x then x1 else p7.x) + (if x2 < p8.x then x2 else p8.x))) - (w64 ((2 : Int) * p7.x)))))))))))) + r25))), (16, pB b7 0)] [] [] s6 hf62 (by kernel_rfl) (fun _ s => .nil) .nil fun a58 hf63 => ?_
        refine p_store_eq (i := 10) (j := 4) (b := b7) (off := 0) (vs := [vI (w64 ((w64 ((0 : Int) + (w64 ((w64 ((w64 ((2 : Int) * r21)) * (w64 ((if x2 < p8.x then x2 else p8.x) - (if x1 > p7.x then x1 else p7.x))))) + (w64 (r24 * (w64 ((w64 ((if x2 < p8.x then x2 else p8.x) - (if x1 > p7.x then x1 else p7.x))) * (w64 ((w64 ((if x1 > p7.x then x1 else p7.x) + (if x2 < p8.x then x2 else p8.x))) - (w64 ((2 : Int) * p7.x)))))))))))) + r25))]) (cs' := [vI (w64 ((w64 ((0 : Int) + (w64 ((w64 ((w64 ((2 : Int) * r21)) * (w64 ((if x2 < p8.x then x2 else p8.x) - (if x1 > p7.x then x1 else p7.x))))) + (w64 (r24 * (w64 ((w64 ((if x2 < p8.x then x2 else p8.x) - (if x1 > p7.x then x1 else p7.x))) * (w64 ((w64 ((if x1 > p7.x then x1 else p7.x) + (if x2 < p8.x then x2 else p8.x))) - (w64 ((2 : Int) * p7.x)))))))))))) + r25)), vI 0, vI 1]) hS31 hf63 rfl (by kernel_rfl) (by kernel_rfl) rfl fun ww27 a59 hS32 hf64 => ⟨fun e => absurd e (by decide), ?_⟩
        refine p_dt (by kernel_rfl) ?_
        refine w_sr (by kernel_rfl) ?_
        refine p_qn 3 [] [(0, pB b7 0), (2, vI (w64 (p8.x - p7.x))), (17, vI (w64 ((w64 ((w64 (r22 - r23)) - (w64 (r24 * (w64 (p8.x - p7.x)))))) * (w64 ((w64 ((if x2 < p8.x then x2 else p8.x) - (if x1 > p7.x then x1 else p7.x))) * (w64 ((w64 ((if x1 > p7.x then x1 else p7.x) + (if x2 < p8.x then x2 else p8.x))) - (w64 ((2 : Int) * p7.x))))))))), (18, vI (w64 ((w64 ((w64 (r22 - r23)) - (w64 (r24 * (w64 (p8.x - p7.x)))))) * (w64 ((w64 ((if x2 < p8.x then x2 else p8.x) - (if x1 > p7.x then x1 else p7.x))) * (w64 ((w64 ((if x1 > p7.x then x1 else p7.x) + (if x2 < p8.x then x2 else p8.x))) - (w64 ((2 : Int) * p7.x))))))))), (19, vI (w64 (p8.x - p7.x)))] [] hf64 (by kernel_rfl) .nil fun a60 hf65 => ?_
        obtain ⟨r26, hd8, hr20⟩ := bind_some hr19
        refine p_call (i := 3) (d := some 20) (f := 51) (args := #[vI (w64 ((w64 ((w64 (r22 - r23)) - (w64 (r24 * (w64 (p8.x - p7.x)))))) * (w64 ((w64 ((if x2 < p8.x then x2 else p8.x) - (if x1 > p7.x then x1 else p7.x))) * (w64 ((w64 ((if x1 > p7.x then x1 else p7.x) + (if x2 < p8.x then x2 else p8.x))) - (w64 ((2 : Int) * p7.x)))))))), vI (w64 (p8.x - p7.x))]) hf65 (by kernel_rfl) (f51_ok fuel (w64 ((w64 ((w64 (r22 - r23)) - (w64 (r24 * (w64 (p8.x - p7.x)))))) * (w64 ((w64 ((if x2 < p8.x then x2 else p8.x) - (if x1 > p7.x then x1 else p7.x))) * (w64 ((w64 ((if x1 > p7.x then x1 else p7.x) + (if x2 < p8.x then x2 else p8.x))) - (w64 ((2 : Int) * p7.x)))))))) (w64 (p8.x - p7.x)) r26 hd8 z2 _ _ hS32 ) ?_
        rintro v8 ww28 a61 ⟨rfl, hS33⟩ hf66
        refine ⟨fun _ => trivial, ?_⟩
        refine p_qt [] [(0, pB b7 0), (2, vI (w64 (p8.x - p7.x))), (6, vI (w64 ((w64 ((w64 ((w64 (r22 - r23)) - (w64 (r24 * (w64 (p8.x - p7.x)))))) * (w64 ((w64 ((if x2 < p8.x then x2 else p8.x) - (if x1 > p7.x then x1 else p7.x))) * (w64 ((w64 ((if x1 > p7.x then x1 else p7.x) + (if x2 < p8.x then x2 else p8.x))) - (w64 ((2 : Int) * p7.x)))))))) - (w64 (r26 * (w64 (p8.x - p7.x)))))))] [] hf66 (by kernel_rfl) .nil fun a62 hf67 => ?_
        refine w_sq [] [(0, pB b7 0), (2, vI (w64 (p8.x - p7.x))), (6, vI (w64 ((w64 ((w64 ((w64 (r22 - r23)) - (w64 (r24 * (w64 (p8.x - p7.x)))))) * (w64 ((w64 ((if x2 < p8.x then x2 else p8.x) - (if x1 > p7.x then x1 else p7.x))) * (w64 ((w64 ((if x1 > p7.x then x1 else p7.x) + (if x2 < p8.x then x2 else p8.x))) - (w64 ((2 : Int) * p7.x)))))))) - (w64 (r26 * (w64 (p8.x - p7.x))))))), (25, .bool (decide ((w64 ((w64 ((w64 ((w64 (r22 - r23)) - (w64 (r24 * (w64 (p8.x - p7.x)))))) * (w64 ((w64 ((if x2 < p8.x then x2 else p8.x) - (if x1 > p7.x then x1 else p7.x))) * (w64 ((w64 ((if x1 > p7.x then x1 else p7.x) + (if x2 < p8.x then x2 else p8.x))) - (w64 ((2 : Int) * p7.x)))))))) - (w64 (r26 * (w64 (p8.x - p7.x)))))) > (0 : Int))))] [] hf67 (by kernel_rfl) .nil fun a63 hf68 => ?_
        refine w_if hf68 (b := (decide ((w64 ((w64 ((w64 ((w64 (r22 - r23)) - (w64 (r24 * (w64 (p8.x - p7.x)))))) * (w64 ((w64 ((if x2 < p8.x then x2 else p8.x) - (if x1 > p7.x then x1 else p7.x))) * (w64 ((w64 ((if x1 > p7.x then x1 else p7.x) + (if x2 < p8.x then x2 else p8.x))) - (w64 ((2 : Int) * p7.x)))))))) - (w64 (r26 * (w64 (p8.x - p7.x)))))) > (0 : Int)))) (by kernel_rfl) (fun hb8 => ?_) (fun hb8 => ?_)
        ·have hr21 := cond_t hb8 hr20
         have hS34 := hS33.drew
         refine w_regD (by kernel_rfl) [(0, true), (1, true), (2, true), (3, true), (4, true), (5, true), (6, true), (7, true), (8, true), (9, true), (10, true), (11, true), (12, true), (13, true), (14, true), (15, true), (16, true), (17, true), (18, true), (19, true), (20, true), (21, true), (22, true), (23, false), (24, true), (25, true), (26, false)] [23, 26] (fun x => x = ww28.drew) (by kernel_rfl) rfl ?_
         refine p_qE 23 [vI 0, vI 1, vI 1] [(27, pB b7 0), (40, vI (w64 ((w64 ((0 : Int) * (w64 (p8.x - p7.x)))) + (w64 ((w64 ((w64 ((w64 ((w64 (r22 - r23)) - (w64 (r24 * (w64 (p8.x - p7.x)))))) * (w64 ((w64 ((if x2 < p8.x then x2 else p8.x) - (if x1 > p7.x then x1 else p7.x))) * (w64 ((w64 ((if x1 > p7.x then x1 else p7.x) + (if x2 < p8.x then x2 else p8.x))) - (w64 ((2 : Int) * p7.x)))))))) - (w64 (r26 * (w64 (p8.x - p7.x)))))) * (1 : Int)))))), (46, vI (w64 ((1 : Int) * (w64 (p8.x - p7.x))))), (48, pB b7 1)] [.cell ⟨b7, 1, none⟩ (vI 0), .cell ⟨b7, 2, none⟩ (vI 1), .cell ⟨b7, 2, none⟩ (vI 1)] [] hf68 (by kernel_rfl) (.cell (hS34.box (i := 4) rfl (j := 1) rfl) (.cell (hS34.box (i := 4) rfl (j := 2) rfl) (.cell (hS34.box (i := 4) rfl (j := 2) rfl) .nil))) .nil fun a64 hf69 => ?_
         refine p_store_eq (i := 23) (j := 4) (b := b7) (off := 1) (vs := [vI (w64 ((w64 ((0 : Int) * (w64 (p8.x - p7.x)))) + (w64 ((w64 ((w64 ((w64 ((w64 (r22 - r23)) - (w64 (r24 * (w64 (p8.x - p7.x)))))) * (w64 ((w64 ((if x2 < p8.x then x2 else p8.x) - (if x1 > p7.x then x1 else p7.x))) * (w64 ((w64 ((if x1 > p7.x then x1 else p7.x) + (if x2 < p8.x then x2 else p8.x))) - (w64 ((2 : Int) * p7.x)))))))) - (w64 (r26 * (w64 (p8.x - p7.x)))))) * (1 : Int)))))]) (cs' := [vI (w64 ((w64 ((0 : Int) + (w64 ((w64 ((w64 ((2 : Int) * r21)) * (w64 ((if x2 < p8.x then x2 else p8.x) - (if x1 > p7.x then x1 else p7.x))))) + (w64 (r24 * (w64 ((w64 ((if x2 < p8.x then x2 else p8.x) - (if x1 > p7.x then x1 else p7.x))) * (w64 ((w64 ((if x1 > p7.x then x1 else p7.x) + (if x2 < p8.x then x2 else p8.x))) - (w64 ((2 : Int) * p7.x)))))))))))) + r25)), vI (w64 ((w64 ((0 : Int) * (w64 (p8.x - p7.x)))) + (w64 ((w64 ((w64 ((w64 ((w64 (r22 - r23)) - (w64 (r24 * (w64 (p8.x - p7.x)))))) * (w64 ((w64 ((if x2 < p8.x then x2 else p8.x) - (if x1 > p7.x then x1 else p7.x))) * (w64 ((w64 ((if x1 > p7.x then x1 else p7.x) + (if x2 < p8.x then x2 else p8.x))) - (w64 ((2 : Int) * p7.x)))))))) - (w64 (r26 * (w64 (p8.x - p7.x)))))) * (1 : Int))))), vI 1]) hS34 hf69 rfl (by kernel_rfl) (by kernel_rfl) rfl fun ww29 a65 hS35 hf70 => ⟨fun e => absurd e (by decide), ?_⟩
         refine p_qP 2 [] [(46, vI (w64 ((1 : Int) * (w64 (p8.x - p7.x))))), (50, pB b7 2)] [] hf70 (by kernel_rfl) (fun _ => .nil) fun a66 hf71 => ?_
         refine p_store_eq (i := 26) (j := 4) (b := b7) (off := 2) (vs := [vI (w64 ((1 : Int) * (w64 (p8.x - p7.x))))]) (cs' := [vI (w64 ((w64 ((0 : Int) + (w64 ((w64 ((w64 ((2 : Int) * r21)) * (w64 ((if x2 < p8.x then x2 else p8.x) - (if x1 > p7.x then x1 else p7.x))))) + (w64 (r24 * (w64 ((w64 ((if x2 < p8.x then x2 else p8.x) - (if x1 > p7.x then x1 else p7.x))) * (w64 ((w64 ((if x1 > p7.x then x1 else p7.x) + (if x2 < p8.x then x2 else p8.x))) - (w64 ((2 : Int) * p7.x)))))))))))) + r25)), vI (w64 ((w64 ((0 : Int) * (w64 (p8.x - p7.x)))) + (w64 ((w64 ((w64 ((w64 ((w64 (r22 - r23)) - (w64 (r24 * (w64 (p8.x - p7.x)))))) * (w64 ((w64 ((if x2 < p8.x then x2 else p8.x) - (if x1 > p7.x then x1 else p7.x))) * (w64 ((w64 ((if x1 > p7.x then x1 else p7.x) + (if x2 < p8.x then x2 else p8.x))) - (w64 ((2 : Int) * p7.x)))))))) - (w64 (r26 * (w64 (p8.x - p7.x)))))) * (1 : Int))))), vI (w64 ((1 : Int) * (w64 (p8.x - p7.x))))]) hS35 hf71 rfl (by kernel_rfl) (by kernel_rfl) rfl fun ww30 a67 hS36 hf72 => ⟨fun e => absurd e (by decide), ?_⟩
         refine p_done (by kernel_rfl) ?_
         refine p_fall (os := []) (v := .tuple #[]) (obs := []) hf72 (by kernel_rfl) .nil ?_
         exact ⟨_, rfl, z2, (w64 ((w64 ((0 : Int) + (w64 ((w64 ((w64 ((2 : Int) * r21)) * (w64 ((if x2 < p8.x then x2 else p8.x) - (if x1 > p7.x then x1 else p7.x))))) + (w64 (r24 * (w64 ((w64 ((if x2 < p8.x then x2 else p8.x) - (if x1 > p7.x then x1 else p7.x))) * (w64 ((w64 ((if x1 > p7.x then x1 else p7.x) + (if x2 < p8.x then x2 else p8.x))) - (w64 ((2 : Int) * p7.x)))))))))))) + r25)), (w64 ((w64 ((0 : Int) * (w64 (p8.x - p7.x)))) + (w64 ((w64 ((w64 ((w64 ((w64 (r22 - r23)) - (w64 (r24 * (w64 (p8.x - p7.x)))))) * (w64 ((w64 ((if x2 < p8.x then x2 else p8.x) - (if x1 > p7.x then x1 else p7.x))) * (w64 ((w64 ((if x1 > p7.x then x1 else p7.x) + (if x2 < p8.x then x2 else p8.x))) - (w64 ((2 : Int) * p7.x)))))))) - (w64 (r26 * (w64 (p8.x - p7.x)))))) * (1 : Int))))), (w64 ((1 : Int) * (w64 (p8.x - p7.x)))), (Zone.le_refl _), rfl, hS36, hr21⟩
        ·have hr22 := cond_f hb8 hr20
         refine w_skip (by kernel_rfl) ?_
         refine p_fall (os := []) (v := .tuple #[]) (obs := []) hf68 (by kernel_rfl) .nil ?_
         exact ⟨_, rfl, z2, (w64 ((w64 ((0 : Int) + (w64 ((w64 ((w64 ((2 : Int) * r21)) * (w64 ((if x2 < p8.x then x2 else p8.x) - (if x1 > p7.x then x1 else p7.x))))) + (w64 (r24 * (w64 ((w64 ((if x2 < p8.x then x2 else p8.x) - (if x1 > p7.x then x1 else p7.x))) * (w64 ((w64 ((if x1 > p7.x then x1 else p7.x) + (if x2 < p8.x then x2 else p8.x))) - (w64 ((2 : Int) * p7.x)))))))))))) + r25)), 0, 1, (Zone.le_refl _), rfl, hS33, hr22⟩
       ·rintro v9 ww31 a68 ⟨z5, y20, y21, y22, k6, rfl, hS37, hr23⟩ hf73
        refine ⟨fun _ => trivial, ?_⟩
        refine p_done (by kernel_rfl) ?_
        refine n_block ?_
        refine p_roundN hS37 (j := 1) rfl fun ww32 a69 hS38 hf74 => ?_
        have hS39 := St.drop 1 hS38
        refine p_dt (by kernel_rfl) ?_
        refine w_ret (by kernel_rfl) ?_
        refine r_then ?_
        refine p_ret (os := []) (v := .tuple #[]) (obs := []) hf74 (by kernel_rfl) .nil ?_
        refine ⟨_, rfl, fun a70 hf75 => ?_⟩
        refine p_jump0 hS39 (j := 0) rfl (fun h => by cases h) fun ww33 hS40 => ?_
        refine n_block ?_
        refine n_then ?_
        refine w_sr (by kernel_rfl) ?_
        refine p_qn 1 [vI y20, vI y21, vI y22] [(8, pB b6 0), (93, .agg #[vI y20, vI y21, vI y22])] [.cell ⟨b7, 0, none⟩ (vI y20), .cell ⟨b7, 1, none⟩ (vI y21), .cell ⟨b7, 2, none⟩ (vI y22)] hf75 (by kernel_rfl) (.cell (hS40.box (i := 3) rfl (j := 0) rfl) (.cell (hS40.box (i := 3) rfl (j := 1) rfl) (.cell (hS40.box (i := 3) rfl (j := 2) rfl) .nil))) fun a71 hf76 => ?_
        refine p_store_eq (i := 1) (j := 4) (b := b6) (off := 0) (vs := [vI y20, vI y21, vI y22]) (cs' := [vI y20, vI y21, vI y22]) hS40 hf76 rfl (by kernel_rfl) (by kernel_rfl) rfl fun ww34 a72 hS41 hf77 => ⟨fun _ => trivial, ?_⟩
        refine p_dt (by kernel_rfl) ?_
        refine w_ret (by kernel_rfl) ?_
        refine p_retM hf77 ?_
        refine p_mark hS41 (j := 1) rfl fun ww35 hS42 => ?_
        refine p_end (os := [vI y20, vI y21, vI y22]) (v := .agg #[vI y20, vI y21, vI y22]) (obs := [.cell ⟨b6, 0, none⟩ (vI y20), .cell ⟨b6, 1, none⟩ (vI y21), .cell ⟨b6, 2, none⟩ (vI y22)]) hf77 (by kernel_rfl) (.cell (hS42.box (i := 4) rfl (j := 0) rfl) (.cell (hS42.box (i := 4) rfl (j := 1) rfl) (.cell (hS42.box (i := 4) rfl (j := 2) rfl) .nil))) ?_
        exact ⟨_, rfl, z5, y20, y21, y22, k6, rfl, (St.drop 9 hS42), hr23⟩
     ·have hr24 := cond_f hb4 hr9
      refine w_skip (by kernel_rfl) ?_
      refine n_then ?_
      obtain ⟨d2, hd9, hr25⟩ := bind_some hr24
      obtain ⟨e1, q1, hv1, hb9, hx1⟩ := SliceR.subV (SliceR.mono (Zone.le_trans k3 k5) hx_x0) hd9
      refine w_sq [.slice o_x0 x0.length c_x0, .slice e1 d2.length q1] [(0, .func (.yield l1) #[] #[]), (1, pB b8 0), (22, .slice e1 d2.length q1), (23, vI (d2.length : Int)), (24, vI 0)] [.cell ⟨b8, 0, none⟩ (.slice o_x0 x0.length c_x0), .prop ((.slice e1 d2.length q1 : Value) = .slice (subO o_x0 c_x0 (Int.toNat 1) 3) (Int.toNat (x0.length : Int) - Int.toNat 1) (c_x0 - Int.toNat 1)), .prop ((0 : Int) ≤ 1 ∧ (1 : Int) ≤ (x0.length : Int) ∧ (x0.length : Int) ≤ (c_x0 : Nat) ∧ x0.length ≤ c_x0)] hf37 (by kernel_rfl) (.cell (hS13.box (i := 2) rfl (j := 0) rfl) (.prop hv1 (.prop hb9 .nil))) fun a73 hf78 => ?_
      refine w_block (id := 0) (by kernel_rfl) ?_
      have hf79 := Fr.keep (ks := [0, 1, 22, 23, 24]) (r := [(0, .func (.yield l1) #[] #[]), (1, pB b8 0), (22, .slice e1 d2.length q1), (23, vI (d2.length : Int)), (24, vI 0)]) hf78 (by kernel_rfl)
      refine w_loop (by kernel_rfl) (fun n a w => ∃ z6 : Zone, ∃ y30 : Int, ∃ y31 : Int, ∃ y32 : Int, ∃ y23 : Int, Zone.le z2 z6 ∧ Fr a 40 [(0, .func (.yield l1) #[] #[]), (1, pB b8 0), (22, .slice e1 d2.length q1), (23, vI (d2.length : Int)), (24, vI y23)] ∧ St z6 (loopA l1 94 [(5, pB b3 0), (6, pB b4 0), (7, pB b5 0), (8, pB b6 0), (9, pB b7 0), (20, .func (.func 101) #[] #[pB b8 0])] ps1 RA1 RB1 D1 .ready none :: defA D1 :: box b8 [.slice o_x0 x0.length c_x0] 24 :: box b7 [vI y30, vI y31, vI y32] 92 :: box b6 [vI 0, vI 0, vI 0] 92 :: box b5 [.func (.func 49) #[] #[]] 94 :: box b4 [vI x2] 3 :: box b3 [vI x1] 3 :: box b2 [.slice o_x0 x0.length c_x0] 24 :: box b1 [.slice o_x0 x0.length c_x0] 24 :: L) w ∧ (F29_l1 fuel x0 x1 x2 d2 n y30 y31 y32 y23) = some r) fuel ⟨z2, 0, 0, 1, 0, (Zone.le_refl _), hf79, hS13, hr25⟩ ?_
      rintro n3 a74 ww36 ⟨z6, y30, y31, y32, y23, k7, hf80, hS43, hr26⟩
      cases n3 with
      | zero => cases hr26
      | succ n2 =>
      refine w_sq [] [(0, .func (.yield l1) #[] #[]), (1, pB b8 0), (22, .slice e1 d2.length q1), (23, vI (d2.length : Int)), (24, vI y23), (25, .bool (decide (y23 < (d2.length : Int))))] [] hf80 (by kernel_rfl) .nil fun a75 hf81 => ?_
      refine w_seq (by kernel_rfl) ?_
      refine w_if hf81 (b := (decide (y23 < (d2.length : Int)))) (by kernel_rfl) (fun hb10 => ?_) (fun hb10 => ?_)
      ·have hr27 := cond_t hb10 hr26
       refine w_skip (by kernel_rfl) ?_
       refine n_then ?_
       refine w_mid (by kernel_rfl) (fun a w => ∃ z7 : Zone, ∃ y24 : Int, ∃ y25 : Int, ∃ y26 : Int, Zone.le z6 z7 ∧ Fr a 40 [(0, .func (.yield l1) #[] #[]), (1, pB b8 0), (22, .slice e1 d2.length q1), (23, vI (d2.length : Int)), (24, vI y23)] ∧ St z7 (loopA l1 94 [(5, pB b3 0), (6, pB b4 0), (7, pB b5 0), (8, pB b6 0), (9, pB b7 0), (20, .func (.func 101) #[] #[pB b8 0])] ps1 RA1 RB1 D1 .ready none :: defA D1 :: box b8 [.slice o_x0 x0.length c_x0] 24 :: box b7 [vI y24, vI y25, vI y26] 92 :: box b6 [vI 0, vI 0, vI 0] 92 :: box b5 [.func (.func 49) #[] #[]] 94 :: box b4 [vI x2] 3 :: box b3 [vI x1] 3 :: box b2 [.slice o_x0 x0.length c_x0] 24 :: box b1 [.slice o_x0 x0.length c_x0] 24 :: L) w ∧ (F29_j4 (F29_l1 fuel x0 x1 x2 d2 n2) y23 y24 y25 y26) = some r) ?_ ?_
       ·skip
        refine w_block (id := 1) (by kernel_rfl) ?_
        refine w_sr (by kernel_rfl) ?_
        obtain ⟨p5, hp6279, hr28⟩ := bind_some hr27
        obtain ⟨ad3, ho3, hb11, cc3, hc3, hk3⟩ := SliceR.getI (SliceR.mono k7 hx1) hp6279
        subst hc3
        refine p_qn 3 [.pointer (some ad3), vI p5.x, vI p5.lo, vI p5.hi] [(0, .func (.yield l1) #[] #[]), (1, pB b8 0), (22, .slice e1 d2.length q1), (23, vI (d2.length : Int)), (24, vI y23), (26, vI y23), (28, .agg #[vI p5.x, vI p5.lo, vI p5.hi])] [.prop (e1 = some ad3), .prop (0 ≤ y23 ∧ y23 < (d2.length : Nat)), .cell ((ad3.add (Int.toNat y23 * 3)).add 0) (vI p5.x), .cell ((ad3.add (Int.toNat y23 * 3)).add 1) (vI p5.lo), .cell ((ad3.add (Int.toNat y23 * 3)).add 2) (vI p5.hi)] hf81 (by kernel_rfl) (.prop ho3 (.prop hb11 (.cell (hS43.cell (hk3 0 _ rfl)) (.cell (hS43.cell (hk3 1 _ rfl)) (.cell (hS43.cell (hk3 2 _ rfl)) .nil))))) fun a76 hf82 => ?_
        refine p_box (i := 3) (d := (some 4)) (cs := [vI 0, vI 0, vI 0]) (T := 39) (v := fun b10 => pB b10 0) hS43 hf82 (fun b => by kernel_rfl) fun b10 ww37 a77 hS44 hf83 => ⟨fun _ => trivial, ?_⟩
        refine p_qn 1 [] [(0, .func (.yield l1) #[] #[]), (1, pB b8 0), (3, vI y23), (4, pB b10 0), (22, .slice e1 d2.length q1), (23, vI (d2.length : Int)), (24, vI y23), (28, .agg #[vI p5.x, vI p5.lo, vI p5.hi])] [] hf83 (by kernel_rfl) .nil fun a78 hf84 => ?_
        refine p_store_eq (i := 5) (j := 0) (b := b10) (off := 0) (vs := [vI p5.x, vI p5.lo, vI p5.hi]) (cs' := [vI p5.x, vI p5.lo, vI p5.hi]) hS44 hf84 rfl (by kernel_rfl) (by kernel_rfl) rfl fun ww38 a79 hS45 hf85 => ⟨fun _ => trivial, ?_⟩
        refine p_dt (by kernel_rfl) ?_
        refine w_seq (by kernel_rfl) ?_
        refine w_regDY (by kernel_rfl) 8 [(0, true), (1, true), (2, true), (3, true), (4, true), (5, true), (6, true), (7, true)] [(9, false)] (by kernel_rfl) ?_
        have hS46 := hS45.drew
        obtain ⟨p6, hp6302, hr29⟩ := bind_some hr28
        obtain ⟨ad4, ho4, hb12, cc4, hc4, hk4⟩ := SliceR.getI (SliceR.mono (Zone.le_trans (Zone.le_trans k3 k5) k7) hx_x0) hp6302
        subst hc4
        refine p_qzE [.slice o_x0 x0.length c_x0, .pointer (some ad4), vI p6.x, vI p6.lo, vI p6.hi, vI p5.x, vI p5.lo, vI p5.hi] [(0, .func (.yield l1) #[] #[]), (1, pB b8 0), (22, .slice e1 d2.length q1), (23, vI (d2.length : Int)), (24, vI y23), (29, .func (.yield l1) #[] #[]), (36, .agg #[vI p6.x, vI p6.lo, vI p6.hi, vI p5.x, vI p5.lo, vI p5.hi])] [.cell ⟨b8, 0, none⟩ (.slice o_x0 x0.length c_x0), .prop (o_x0 = some ad4), .prop (0 ≤ y23 ∧ y23 < (x0.length : Nat)), .cell ((ad4.add (Int.toNat y23 * 3)).add 0) (vI p6.x), .cell ((ad4.add (Int.toNat y23 * 3)).add 1) (vI p6.lo), .cell ((ad4.add (Int.toNat y23 * 3)).add 2) (vI p6.hi), .cell ⟨b10, 0, none⟩ (vI p5.x), .cell ⟨b10, 1, none⟩ (vI p5.lo), .cell ⟨b10, 2, none⟩ (vI p5.hi)] [] hf85 (by kernel_rfl) (.cell (hS46.box (i := 3) rfl (j := 0) rfl) (.prop ho4 (.prop hb12 (.cell (hS46.cell (hk4 0 _ rfl)) (.cell (hS46.cell (hk4 1 _ rfl)) (.cell (hS46.cell (hk4 2 _ rfl)) (.cell (hS46.box (i := 0) rfl (j := 0) rfl) (.cell (hS46.box (i := 0) rfl (j := 1) rfl) (.cell (hS46.box (i := 0) rfl (j := 2) rfl) .nil))))))))) .nil fun a80 hf86 => ?_
        refine p_yield (d := some 37) (l := l1) (args := #[.agg #[vI p6.x, vI p6.lo, vI p6.hi, vI p5.x, vI p5.lo, vI p5.hi]]) hf86 (by kernel_rfl) hS46 (j := 1) rfl (by rw [hps1]; kernel_rfl) fun a81 hf87 => ?_
        rw [hps1] at hf87
        refine cw_eq hA1 ?_
        refine w_reg (by kernel_rfl) ?_
        refine p_box (i := 0) (d := (some 10)) (cs := [vI 0, vI 0, vI 0, vI 0, vI 0, vI 0]) (T := 118) (v := fun b11 => pB b11 0) hS46 hf87 (fun b => by kernel_rfl) fun b11 ww39 a82 hS47 hf88 => ⟨fun _ => trivial, ?_⟩
        refine p_store_eq (i := 1) (j := 0) (b := b11) (off := 0) (vs := [vI p6.x, vI p6.lo, vI p6.hi, vI p5.x, vI p5.lo, vI p5.hi]) (cs' := [vI p6.x, vI p6.lo, vI p6.hi, vI p5.x, vI p5.lo, vI p5.hi]) hS47 hf88 rfl (by kernel_rfl) (by kernel_rfl) rfl fun ww40 a83 hS48 hf89 => ⟨fun _ => trivial, ?_⟩
        refine p_dt (by kernel_rfl) ?_
        refine p_begin hS48 (j := 2) rfl fun ww41 hS49 => ?_
        refine cw_eq hB1 ?_
        refine w_block (id := 1) (by kernel_rfl) ?_
        have hS50 := hS49.drew
        refine w_sqD [(0, true), (1, true), (2, true), (3, true), (4, true), (5, true), (6, true), (7, true), (8, true), (9, true), (10, true), (11, true)] [] [vI p6.x, vI x1, vI p5.x, vI x2] [(7, pB b5 0), (9, pB b7 0), (10, pB b11 0), (11, vI (if x1 > p6.x then x1 else p6.x)), (12, vI (if x2 < p5.x then x2 else p5.x))] [.cell ⟨b11, 0, none⟩ (vI p6.x), .cell ⟨b3, 0, none⟩ (vI x1), .cell ⟨b11, 3, none⟩ (vI p5.x), .cell ⟨b4, 0, none⟩ (vI x2)] [] hf89 (by kernel_rfl) (.cell (hS50.box (i := 0) rfl (j := 0) rfl) (.cell (hS50.box (i := 9) rfl (j := 0) rfl) (.cell (hS50.box (i := 0) rfl (j := 3) rfl) (.cell (hS50.box (i := 8) rfl (j := 0) rfl) .nil)))) .nil fun a84 hf90 => ?_
        refine w_seq (by kernel_rfl) ?_
        refine w_sq [] [(7, pB b5 0), (9, pB b7 0), (10, pB b11 0), (11, vI (if x1 > p6.x then x1 else p6.x)), (12, vI (if x2 < p5.x then x2 else p5.x)), (34, .bool (decide ((if x1 > p6.x then x1 else p6.x) ≥ (if x2 < p5.x then x2 else p5.x))))] [] hf90 (by kernel_rfl) .nil fun a85 hf91 => ?_
        refine w_if hf91 (b := (decide ((if x1 > p6.x then x1 else p6.x) ≥ (if x2 < p5.x then x2 else p5.x)))) (by kernel_rfl) (fun hb13 => ?_) (fun hb13 => ?_)
        ·have hr30 := cond_t hb13 hr29
         refine w_exit (id := 1) (by kernel_rfl) ?_
         refine x_then ?_
         refine x_block ?_
         refine p_roundN hS50 (j := 2) rfl fun ww42 a86 hS51 hf92 => ?_
         have hS52 := St.drop 1 hS51
         refine p_qt [] [(0, .func (.yield l1) #[] #[]), (1, pB b8 0), (22, .slice e1 d2.length q1), (23, vI (d2.length : Int)), (24, vI y23), (38, .bool false)] [] hf92 (by kernel_rfl) .nil fun a87 hf93 => ?_
         refine w_if_false hf93 (by kernel_rfl) ?_
         refine w_skip (by kernel_rfl) ?_
         refine n_block ?_
         refine n_then ?_
         have hf94 := Fr.keep (ks := [0, 1, 22, 23, 24]) (r := [(0, .func (.yield l1) #[] #[]), (1, pB b8 0), (22, .slice e1 d2.length q1), (23, vI (d2.length : Int)), (24, vI y23)]) hf93 (by kernel_rfl)
         exact ⟨z6, y30, y31, y32, (Zone.le_refl _), hf94, (St.drop 1 hS52), hr30⟩
        ·have hr31 := cond_f hb13 hr29
         refine w_skip (by kernel_rfl) ?_
         refine n_then ?_
         refine w_seq (by kernel_rfl) ?_
         have hS53 := hS50.drew
         have s7 : Sub z6 (box b11 [vI p6.x, vI p6.lo, vI p6.hi, vI p5.x, vI p5.lo, vI p5.hi] 118 :: box b10 [vI p5.x, vI p5.lo, vI p5.hi] 39 :: loopA l1 94 [(5, pB b3 0), (6, pB b4 0), (7, pB b5 0), (8, pB b6 0), (9, pB b7 0), (20, .func (.func 101) #[] #[pB b8 0])] ps1 RA1 RB1 D1 .busy none :: defA D1 :: box b8 [.slice o_x0 x0.length c_x0] 24 :: box b7 [vI y30, vI y31, vI y32] 92 :: box b6 [vI 0, vI 0, vI 0] 92 :: box b5 [.func (.func 49) #[] #[]] 94 :: box b4 [vI x2] 3 :: box b3 [vI x1] 3 :: box b2 [.slice o_x0 x0.length c_x0] 24 :: box b1 [.slice o_x0 x0.length c_x0] 24 :: L) _ := Sub.of (Zone.le_refl _) hS53
         refine w_regD (by kernel_rfl) [(0, true), (1, true), (2, true), (4, true), (5, true), (6, true), (8, true), (9, true), (10, true), (13, true), (14, true), (15, true), (16, true), (17, true), (18, true), (19, true), (3, false), (7, false), (11, false), (12, true), (20, true), (21, true), (22, true)] [] (Sub z6 (box b11 [vI p6.x, vI p6.lo, vI p6.hi, vI p5.x, vI p5.lo, vI p5.hi] 118 :: box b10 [vI p5.x, vI p5.lo, vI p5.hi] 39 :: loopA l1 94 [(5, pB b3 0), (6, pB b4 0), (7, pB b5 0), (8, pB b6 0), (9, pB b7 0), (20, .func (.func 101) #[] #[pB b8 0])] ps1 RA1 RB1 D1 .busy none :: defA D1 :: box b8 [.slice o_x0 x0.length c_x0] 24 :: box b7 [vI y30, vI y31, vI y32] 92 :: box b6 [vI 0, vI 0, vI 0] 92 :: box b5 [.func (.func 49) #[] #[]] 94 :: box b4 [vI x2] 3 :: box b3 [vI x1] 3 :: box b2 [.slice o_x0 x0.length c_x0] 24 :: box b1 [.slice o_x0 x0.length c_x0] 24 :: L)) (by kernel_rfl) s7 ?_
         refine p_qS 16 [.func (.func 49) #[] #[], vI p6.x, vI p6.lo, vI p6.hi, .func (.func 49) #[] #[], vI p5.x, vI p5.lo, vI p5.hi, .func (.func 49) #[] #[], vI p6.x, vI p6.lo, vI p6.hi, vI p5.x, vI p6.x] [(9, pB b7 0), (10, pB b11 0), (11, vI (if x1 > p6.x then x1 else p6.x)), (12, vI (if x2 < p5.x then x2 else p5.x)), (35, .func (.func 49) #[] #[]), (37, .agg #[vI p6.x, vI p6.lo, vI p6.hi]), (39, .func (.func 49) #[] #[]), (41, .agg #[vI p5.x, vI p5.lo, vI p5.hi]), (43, .func (.func 49) #[] #[]), (45, .agg #[vI p6.x, vI p6.lo, vI p6.hi]), (54, vI (w64 (p5.x - p6.x)))] [.cell ⟨b5, 0, none⟩ (.func (.func 49) #[] #[]), .cell ⟨b11, 0, none⟩ (vI p6.x), .cell ⟨b11, 1, none⟩ (vI p6.lo), .cell ⟨b11, 2, none⟩ (vI p6.hi), .cell ⟨b5, 0, none⟩ (.func (.func 49) #[] #[]), .cell ⟨b11, 3, none⟩ (vI p5.x), .cell ⟨b11, 4, none⟩ (vI p5.lo), .cell ⟨b11, 5, none⟩ (vI p5.hi), .cell ⟨b5, 0, none⟩ (.func (.func 49) #[] #[]), .cell ⟨b11, 0, none⟩ (vI p6.x), .cell ⟨b11, 1, none⟩ (vI p6.lo), .cell ⟨b11, 2, none⟩ (vI p6.hi), .cell ⟨b11, 3, none⟩ (vI p5.x), .cell ⟨b11, 0, none⟩ (vI p6.x)] [] s7 hf91 (by kernel_rfl) (fun _ s => (.cell (s.box (i := 7) rfl (j := 0) rfl) (.cell (s.box (i := 0) rfl (j := 0) rfl) (.cell (s.box (i := 0) rfl (j := 1) rfl) (.cell (s.box (i := 0) rfl (j := 2) rfl) (.cell (s.box (i := 7) rfl (j := 0) rfl) (.cell (s.box (i := 0) rfl (j := 3) rfl) (.cell (s.box (i := 0) rfl (j := 4) rfl) (.cell (s.box (i := 0) rfl (j := 5) rfl) (.cell (s.box (i := 7) rfl (j := 0) rfl) (.cell (s.box (i := 0) rfl (j := 0) rfl) (.cell (s.box (i := 0) rfl (j := 1) rfl) (.cell (s.box (i := 0) rfl (j := 2) rfl) (.cell (s.box (i := 0) rfl (j := 3) rfl) (.cell (s.box (i := 0) rfl (j := 0) rfl) .nil))))))))))))))) .nil fun a88 hf95 => ?_
         obtain ⟨r15, hd10, hr32⟩ := bind_some hr31
         refine p_call (i := 3) (d := some 38) (f := 49) (args := #[.agg #[vI p6.x, vI p6.lo, vI p6.hi]]) hf95 (by kernel_rfl) (f49_ok fuel p6.x p6.lo p6.hi r15 hd10 z6 _ _ hS53 ) ?_
         rintro v10 ww43 a89 ⟨rfl, hS54⟩ hf96
         refine ⟨fun _ => Sub.of (Zone.le_refl _) hS54, ?_⟩
         have s8 : Sub z6 (box b11 [vI p6.x, vI p6.lo, vI p6.hi, vI p5.x, vI p5.lo, vI p5.hi] 118 :: box b10 [vI p5.x, vI p5.lo, vI p5.hi] 39 :: loopA l1 94 [(5, pB b3 0), (6, pB b4 0), (7, pB b5 0), (8, pB b6 0), (9, pB b7 0), (20, .func (.func 101) #[] #[pB b8 0])] ps1 RA1 RB1 D1 .busy none :: defA D1 :: box b8 [.slice o_x0 x0.length c_x0] 24 :: box b7 [vI y30, vI y31, vI y32] 92 :: box b6 [vI 0, vI 0, vI 0] 92 :: box b5 [.func (.func 49) #[] #[]] 94 :: box b4 [vI x2] 3 :: box b3 [vI x1] 3 :: box b2 [.slice o_x0 x0.length c_x0] 24 :: box b1 [.slice o_x0 x0.length c_x0] 24 :: L) _ := Sub.of (Zone.le_refl _) hS54
         obtain ⟨r16, hd11, hr33⟩ := bind_some hr32
         refine p_call (i := 7) (d := some 42) (f := 49) (args := #[.agg #[vI p5.x, vI p5.lo, vI p5.hi]]) hf96 (by kernel_rfl) (f49_ok fuel p5.x p5.lo p5.hi r16 hd11 z6 _ _ hS54 ) ?_
         rintro v11 ww44 a90 ⟨rfl, hS55⟩ hf97
         refine ⟨fun _ => Sub.of (Zone.le_refl _) hS55, ?_⟩
         have s9 : Sub z6 (box b11 [vI p6.x, vI p6.lo, vI p6.hi, vI p5.x, vI p5.lo, vI p5.hi] 118 :: box b10 [vI p5.x, vI p5.lo, vI p5.hi] 39 :: loopA l1 94 [(5, pB b3 0), (6, pB b4 0), (7, pB b5 0), (8, pB b6 0), (9, pB b7 0), (20, .func (.func 101) #[] #[pB b8 0])] ps1 RA1 RB1 D1 .busy none :: defA D1 :: box b8 [.slice o_x0 x0.length c_x0] 24 :: box b7 [vI y30, vI y31, vI y32] 92 :: box b6 [vI 0, vI 0, vI 0] 92 :: box b5 [.func (.func 49) #[] #[]] 94 :: box b4 [vI x2] 3 :: box b3 [vI x1] 3 :: box b2 [.slice o_x0 x0.length c_x0] 24 :: box b1 [.slice o_x0 x0.length c_x0] 24 :: L) _ := Sub.of (Zone.le_refl _) hS55
         obtain ⟨r17, hd12, hr34⟩ := bind_some hr33
         refine p_call (i := 11) (d := some 46) (f := 49) (args := #[.agg #[vI p6.x, vI p6.lo, vI p6.hi]]) hf97 (by kernel_rfl) (f49_ok fuel p6.x p6.lo p6.hi r17 hd12 z6 _ _ hS55 ) ?_
         rintro v12 ww45 a91 ⟨rfl, hS56⟩ hf98
         refine ⟨fun _ => Sub.of (Zone.le_refl _) hS56, ?_⟩
         have s10 : Sub z6 (box b11 [vI p6.x, vI p6.lo, vI p6.hi, vI p5.x, vI p5.lo, vI p5.hi] 118 :: box b10 [vI p5.x, vI p5.lo, vI p5.hi] 39 :: loopA l1 94 [(5, pB b3 0), (6, pB b4 0), (7, pB b5 0), (8, pB b6 0), (9, pB b7 0), (20, .func (.func 101) #[] #[pB b8 0])] ps1 RA1 RB1 D1 .busy none :: defA D1 :: box b8 [.slice o_x0 x0.length c_x0] 24 :: box b7 [vI y30, vI y31, vI y32] 92 :: box b6 [vI 0, vI 0, vI 0] 92 :: box b5 [.func (.func 49) #[] #[]] 94 :: box b4 [vI x2] 3 :: box b3 [vI x1] 3 :: box b2 [.slice o_x0 x0.length c_x0] 24 :: box b1 [.slice o_x0 x0.length c_x0] 24 :: L) _ := Sub.of (Zone.le_refl _) hS56
         refine p_qS 4 [] [(9, pB b7 0), (10, pB b11 0), (11, vI (if x1 > p6.x then x1 else p6.x)), (12, vI (if x2 < p5.x then x2 else p5.x)), (13, vI r15), (14, vI (w64 (r16 - r17))), (15, vI (w64 (p5.x - p6.x)))] [] [] s10 hf98 (by kernel_rfl) (fun _ s => .nil) .nil fun a92 hf99 => ?_
         refine p_dt (by kernel_rfl) ?_
         refine w_sq [vI p6.x] [(9, pB b7 0), (11, vI (if x1 > p6.x then x1 else p6.x)), (12, vI (if x2 < p5.x then x2 else p5.x)), (13, vI r15), (14, vI (w64 (r16 - r17))), (15, vI (w64 (p5.x - p6.x))), (16, vI (w64 ((w64 ((if x2 < p5.x then x2 else p5.x) - (if x1 > p6.x then x1 else p6.x))) * (w64 ((w64 ((if x1 > p6.x then x1 else p6.x) + (if x2 < p5.x then x2 else p5.x))) - (w64 ((2 : Int) * p6.x)))))))] [.cell ⟨b11, 0, none⟩ (vI p6.x)] hf99 (by kernel_rfl) (.cell (hS56.box (i := 0) rfl (j := 0) rfl) .nil) fun a93 hf100 => ?_
         refine w_sr (by kernel_rfl) ?_
         refine p_qn 2 [] [(9, pB b7 0), (11, vI (if x1 > p6.x then x1 else p6.x)), (12, vI (if x2 < p5.x then x2 else p5.x)), (13, vI r15), (14, vI (w64 (r16 - r17))), (15, vI (w64 (p5.x - p6.x))), (16, vI (w64 ((w64 ((if x2 < p5.x then x2 else p5.x) - (if x1 > p6.x then x1 else p6.x))) * (w64 ((w64 ((if x1 > p6.x then x1 else p6.x) + (if x2 < p5.x then x2 else p5.x))) - (w64 ((2 : Int) * p6.x))))))), (67, vI (w64 (r16 - r17))), (68, vI (w64 (p5.x - p6.x)))] [] hf100 (by kernel_rfl) .nil fun a94 hf101 => ?_
         obtain ⟨r18, hd13, hr35⟩ := bind_some hr34
         refine p_call (i := 2) (d := some 69) (f := 51) (args := #[vI (w64 (r16 - r17)), vI (w64 (p5.x - p6.x))]) hf101 (by kernel_rfl) (f51_ok fuel (w64 (r16 - r17)) (w64 (p5.x - p6.x)) r18 hd13 z6 _ _ hS56 ) ?_
         rintro v13 ww46 a95 ⟨rfl, hS57⟩ hf102
         refine ⟨fun _ => trivial, ?_⟩
         refine p_qt [] [(9, pB b7 0), (11, vI (if x1 > p6.x then x1 else p6.x)), (12, vI (if x2 < p5.x then x2 else p5.x)), (13, vI r15), (14, vI (w64 (r16 - r17))), (15, vI (w64 (p5.x - p6.x))), (16, vI (w64 ((w64 ((if x2 < p5.x then x2 else p5.x) - (if x1 > p6.x then x1 else p6.x))) * (w64 ((w64 ((if x1 > p6.x then x1 else p6.x) + (if x2 < p5.x then x2 else p5.x))) - (w64 ((2 : Int) * p6.x))))))), (17, vI r18)] [] hf102 (by kernel_rfl) .nil fun a96 hf103 => ?_
         refine w_sr (by kernel_rfl) ?_
         refine p_qn 14 [vI y30] [(9, pB b7 0), (14, vI (w64 (r16 - r17))), (15, vI (w64 (p5.x - p6.x))), (16, vI (w64 ((w64 ((if x2 < p5.x then x2 else p5.x) - (if x1 > p6.x then x1 else p6.x))) * (w64 ((w64 ((if x1 > p6.x then x1 else p6.x) + (if x2 < p5.x then x2 else p5.x))) - (w64 ((2 : Int) * p6.x))))))), (17, vI r18), (82, vI (w64 (y30 + (w64 ((w64 ((w64 ((2 : Int) * r15)) * (w64 ((if x2 < p5.x then x2 else p5.x) - (if x1 > p6.x then x1 else p6.x))))) + (w64 (r18 * (w64 ((w64 ((if x2 < p5.x then x2 else p5.x) - (if x1 > p6.x then x1 else p6.x))) * (w64 ((w64 ((if x1 > p6.x then x1 else p6.x) + (if x2 < p5.x then x2 else p5.x))) - (w64 ((2 : Int) * p6.x))))))))))))), (83, pB b7 0)] [.cell ⟨b7, 0, none⟩ (vI y30)] hf103 (by kernel_rfl) (.cell (hS57.box (i := 5) rfl (j := 0) rfl) .nil) fun a97 hf104 => ?_
         refine p_store_eq (i := 14) (j := 5) (b := b7) (off := 0) (vs := [vI (w64 (y30 + (w64 ((w64 ((w64 ((2 : Int) * r15)) * (w64 ((if x2 < p5.x then x2 else p5.x) - (if x1 > p6.x then x1 else p6.x))))) + (w64 (r18 * (w64 ((w64 ((if x2 < p5.x then x2 else p5.x) - (if x1 > p6.x then x1 else p6.x))) * (w64 ((w64 ((if x1 > p6.x then x1 else p6.x) + (if x2 < p5.x then x2 else p5.x))) - (w64 ((2 : Int) * p6.x))))))))))))]) (cs' := [vI (w64 (y30 + (w64 ((w64 ((w64 ((2 : Int) * r15)) * (w64 ((if x2 < p5.x then x2 else p5.x) - (if x1 > p6.x then x1 else p6.x))))) + (w64 (r18 * (w64 ((w64 ((if x2 < p5.x then x2 else p5.x) - (if x1 > p6.x then x1 else p6.x))) * (w64 ((w64 ((if x1 > p6.x then x1 else p6.x) + (if x2 < p5.x then x2 else p5.x))) - (w64 ((2 : Int) * p6.x)))))))))))), vI y31, vI y32]) hS57 hf104 rfl (by kernel_rfl) (by kernel_rfl) rfl fun ww47 a98 hS58 hf105 => ⟨fun _ => trivial, ?_⟩
         refine p_dt (by kernel_rfl) ?_
         refine w_reg (by kernel_rfl) ?_
         refine p_qn 8 [] [(9, pB b7 0), (90, vI (w64 ((w64 ((w64 (r16 - r17)) - (w64 (r18 * (w64 (p5.x - p6.x)))))) * (w64 ((w64 ((if x2 < p5.x then x2 else p5.x) - (if x1 > p6.x then x1 else p6.x))) * (w64 ((w64 ((if x1 > p6.x then x1 else p6.x) + (if x2 < p5.x then x2 else p5.x))) - (w64 ((2 : Int) * p6.x))))))))), (91, vI (w64 (p5.x - p6.x)))] [] hf105 (by kernel_rfl) .nil fun a99 hf106 => ?_
         refine p_call (i := 8) (d := some 92) (f := 83) (args := #[pB b7 0, vI (w64 ((w64 ((w64 (r16 - r17)) - (w64 (r18 * (w64 (p5.x - p6.x)))))) * (w64 ((w64 ((if x2 < p5.x then x2 else p5.x) - (if x1 > p6.x then x1 else p6.x))) * (w64 ((w64 ((if x1 > p6.x then x1 else p6.x) + (if x2 < p5.x then x2 else p5.x))) - (w64 ((2 : Int) * p6.x)))))))), vI (w64 (p5.x - p6.x))]) hf106 (by kernel_rfl) (Φ := fun v w => ∃ z8 : Zone, ∃ y27 : Int, ∃ y28 : Int, ∃ y29 : Int, Zone.le z6 z8 ∧ v = .tuple #[] ∧ St z8 (box b11 [vI p6.x, vI p6.lo, vI p6.hi, vI p5.x, vI p5.lo, vI p5.hi] 118 :: box b10 [vI p5.x, vI p5.lo, vI p5.hi] 39 :: loopA l1 94 [(5, pB b3 0), (6, pB b4 0), (7, pB b5 0), (8, pB b6 0), (9, pB b7 0), (20, .func (.func 101) #[] #[pB b8 0])] ps1 RA1 RB1 D1 .busy none :: defA D1 :: box b8 [.slice o_x0 x0.length c_x0] 24 :: box b7 [vI y27, vI y28, vI y29] 92 :: box b6 [vI 0, vI 0, vI 0] 92 :: box b5 [.func (.func 49) #[] #[]] 94 :: box b4 [vI x2] 3 :: box b3 [vI x1] 3 :: box b2 [.slice o_x0 x0.length c_x0] 24 :: box b1 [.slice o_x0 x0.length c_x0] 24 :: L) w ∧ (F29_j5 (F29_l1 fuel x0 x1 x2 d2 n2) y23 y27 y28 y29) = some r) ?_ ?_
         ·refine calls_intro (N := 51) Tryz.func83 (by kernel_rfl) fun a100 hf107 => ?_
          refine w_seq (by kernel_rfl) ?_
          have hS59 := hS58.drew
          have s11 : Sub z6 (box b11 [vI p6.x, vI p6.lo, vI p6.hi, vI p5.x, vI p5.lo, vI p5.hi] 118 :: box b10 [vI p5.x, vI p5.lo, vI p5.hi] 39 :: loopA l1 94 [(5, pB b3 0), (6, pB b4 0), (7, pB b5 0), (8, pB b6 0), (9, pB b7 0), (20, .func (.func 101) #[] #[pB b8 0])] ps1 RA1 RB1 D1 .busy none :: defA D1 :: box b8 [.slice o_x0 x0.length c_x0] 24 :: box b7 [vI (w64 (y30 + (w64 ((w64 ((w64 ((2 : Int) * r15)) * (w64 ((if x2 < p5.x then x2 else p5.x) - (if x1 > p6.x then x1 else p6.x))))) + (w64 (r18 * (w64 ((w64 ((if x2 < p5.x then x2 else p5.x) - (if x1 > p6.x then x1 else p6.x))) * (w64 ((w64 ((if x1 > p6.x then x1 else p6.x) + (if x2 < p5.x then x2 else p5.x))) - (w64 ((2 : Int) * p6.x)))))))))))), vI y31, vI y32] 92 :: box b6 [vI 0, vI 0, vI 0] 92 :: box b5 [.func (.func 49) #[] #[]] 94 :: box b4 [vI x2] 3 :: box b3 [vI x1] 3 :: box b2 [.slice o_x0 x0.length c_x0] 24 :: box b1 [.slice o_x0 x0.length c_x0] 24 :: L) _ := Sub.of (Zone.le_refl _) hS59
          refine w_regD (by kernel_rfl) [(0, true), (1, true), (2, true), (3, true), (4, true), (5, true), (6, false), (7, true), (8, true), (9, true), (10, false)] [10] (Sub z6 (box b11 [vI p6.x, vI p6.lo, vI p6.hi, vI p5.x, vI p5.lo, vI p5.hi] 118 :: box b10 [vI p5.x, vI p5.lo, vI p5.hi] 39 :: loopA l1 94 [(5, pB b3 0), (6, pB b4 0), (7, pB b5 0), (8, pB b6 0), (9, pB b7 0), (20, .func (.func 101) #[] #[pB b8 0])] ps1 RA1 RB1 D1 .busy none :: defA D1 :: box b8 [.slice o_x0 x0.length c_x0] 24 :: box b7 [vI (w64 (y30 + (w64 ((w64 ((w64 ((2 : Int) * r15)) * (w64 ((if x2 < p5.x then x2 else p5.x) - (if x1 > p6.x then x1 else p6.x))))) + (w64 (r18 * (w64 ((w64 ((if x2 < p5.x then x2 else p5.x) - (if x1 > p6.x then x1 else p6.x))) * (w64 ((w64 ((if x1 > p6.x then x1 else p6.x) + (if x2 < p5.x then x2 else p5.x))) - (w64 ((2 : Int) * p6.x)))))))))))), vI y31, vI y32] 92 :: box b6 [vI 0, vI 0, vI 0] 92 :: box b5 [.func (.func 49) #[] #[]] 94 :: box b4 [vI x2] 3 :: box b3 [vI x1] 3 :: box b2 [.slice o_x0 x0.length c_x0] 24 :: box b1 [.slice o_x0 x0.length c_x0] 24 :: L)) (by kernel_rfl) s11 ?_
          refine p_qS 6 [vI (w64 (y30 + (w64 ((w64 ((w64 ((2 : Int) * r15)) * (w64 ((if x2 < p5.x then x2 else p5.x) - (if x1 > p6.x then x1 else p6.x))))) + (w64 (r18 * (w64 ((w64 ((if x2 < p5.x then x2 else p5.x) - (if x1 > p6.x then x1 else p6.x))) * (w64 ((w64 ((if x1 > p6.x then x1 else p6.x) + (if x2 < p5.x then x2 else p5.x))) - (w64 ((2 : Int) * p6.x))))))))))))] [(0, pB b7 0), (1, vI (w64 ((w64 ((w64 (r16 - r17)) - (w64 (r18 * (w64 (p5.x - p6.x)))))) * (w64 ((w64 ((if x2 < p5.x then x2 else p5.x) - (if x1 > p6.x then x1 else p6.x))) * (w64 ((w64 ((if x1 > p6.x then x1 else p6.x) + (if x2 < p5.x then x2 else p5.x))) - (w64 ((2 : Int) * p6.x))))))))), (2, vI (w64 (p5.x - p6.x))), (7, pB b7 0), (10, vI (w64 (y30 + (w64 ((w64 ((w64 ((2 : Int) * r15)) * (w64 ((if x2 < p5.x then x2 else p5.x) - (if x1 > p6.x then x1 else p6.x))))) + (w64 (r18 * (w64 ((w64 ((if x2 < p5.x then x2 else p5.x) - (if x1 > p6.x then x1 else p6.x))) * (w64 ((w64 ((if x1 > p6.x then x1 else p6.x) + (if x2 < p5.x then x2 else p5.x))) - (w64 ((2 : Int) * p6.x))))))))))))), (11, vI (w64 ((w64 ((w64 (r16 - r17)) - (w64 (r18 * (w64 (p5.x - p6.x)))))) * (w64 ((w64 ((if x2 < p5.x then x2 else p5.x) - (if x1 > p6.x then x1 else p6.x))) * (w64 ((w64 ((if x1 > p6.x then x1 else p6.x) + (if x2 < p5.x then x2 else p5.x))) - (w64 ((2 : Int) * p6.x))))))))), (12, vI (w64 (p5.x - p6.x)))] [.cell ⟨b7, 0, none⟩ (vI (w64 (y30 + (w64 ((w64 ((w64 ((2 : Int) * r15)) * (w64 ((if x2 < p5.x then x2 else p5.x) - (if x1 > p6.x then x1 else p6.x))))) + (w64 (r18 * (w64 ((w64 ((if x2 < p5.x then x2 else p5.x) - (if x1 > p6.x then x1 else p6.x))) * (w64 ((w64 ((if x1 > p6.x then x1 else p6.x) + (if x2 < p5.x then x2 else p5.x))) - (w64 ((2 : Int) * p6.x)))))))))))))] [] s11 hf107 (by kernel_rfl) (fun _ s => (.cell (s.box (i := 5) rfl (j := 0) rfl) .nil)) .nil fun a101 hf108 => ?_
          obtain ⟨r19, hd14, hr36⟩ := bind_some hr35
          refine p_call (i := 6) (d := some 13) (f := 51) (args := #[vI (w64 ((w64 ((w64 (r16 - r17)) - (w64 (r18 * (w64 (p5.x - p6.x)))))) * (w64 ((w64 ((if x2 < p5.x then x2 else p5.x) - (if x1 > p6.x then x1 else p6.x))) * (w64 ((w64 ((if x1 > p6.x then x1 else p6.x) + (if x2 < p5.x then x2 else p5.x))) - (w64 ((2 : Int) * p6.x)))))))), vI (w64 (p5.x - p6.x))]) hf108 (by kernel_rfl) (f51_ok fuel (w64 ((w64 ((w64 (r16 - r17)) - (w64 (r18 * (w64 (p5.x - p6.x)))))) * (w64 ((w64 ((if x2 < p5.x then x2 else p5.x) - (if x1 > p6.x then x1 else p6.x))) * (w64 ((w64 ((if x1 > p6.x then x1 else p6.x) + (if x2 < p5.x then x2 else p5.x))) - (w64 ((2 : Int) * p6.x)))))))) (w64 (p5.x - p6.x)) r19 hd14 z6 _ _ hS59 ) ?_
          rintro v14 ww48 a102 ⟨rfl, hS60⟩ hf109
          refine ⟨fun _ => Sub.of (Zone.le_refl _) hS60, ?_⟩
          have s12 : Sub z6 (box b11 [vI p6.x, vI p6.lo, vI p6.hi, vI p5.x, vI p5.lo, vI p5.hi] 118 :: box b10 [vI p5.x, vI p5.lo, vI p5.hi] 39 :: loopA l1 94 [(5, pB b3 0), (6, pB b4 0), (7, pB b5 0), (8, pB b6 0), (9, pB b7 0), (20, .func (.func 101) #[] #[pB b8 0])] ps1 RA1 RB1 D1 .busy none :: defA D1 :: box b8 [.slice o_x0 x0.length c_x0] 24 :: box b7 [vI (w64 (y30 + (w64 ((w64 ((w64 ((2 : Int) * r15)) * (w64 ((if x2 < p5.x then x2 else p5.x) - (if x1 > p6.x then x1 else p6.x))))) + (w64 (r18 * (w64 ((w64 ((if x2 < p5.x then x2 else p5.x) - (if x1 > p6.x then x1 else p6.x))) * (w64 ((w64 ((if x1 > p6.x then x1 else p6.x) + (if x2 < p5.x then x2 else p5.x))) - (w64 ((2 : Int) * p6.x)))))))))))), vI y31, vI y32] 92 :: box b6 [vI 0, vI 0, vI 0] 92 :: box b5 [.func (.func 49) #[] #[]] 94 :: box b4 [vI x2] 3 :: box b3 [vI x1] 3 :: box b2 [.slice o_x0 x0.length c_x0] 24 :: box b1 [.slice o_x0 x0.length c_x0] 24 :: L) _ := Sub.of (Zone.le_refl _) hS60
          refine p_qS 3 [] [(0, pB b7 0), (1, vI (w64 ((w64 ((w64 (r16 - r17)) - (w64 (r18 * (w64 (p5.x - p6.x)))))) * (w64 ((w64 ((if x2 < p5.x then x2 else p5.x) - (if x1 > p6.x then x1 else p6.x))) * (w64 ((w64 ((if x1 > p6.x then x1 else p6.x) + (if x2 < p5.x then x2 else p5.x))) - (w64 ((2 : Int) * p6.x))))))))), (2, vI (w64 (p5.x - p6.x))), (14, vI (w64 ((w64 (y30 + (w64 ((w64 ((w64 ((2 : Int) * r15)) * (w64 ((if x2 < p5.x then x2 else p5.x) - (if x1 > p6.x then x1 else p6.x))))) + (w64 (r18 * (w64 ((w64 ((if x2 < p5.x then x2 else p5.x) - (if x1 > p6.x then x1 else p6.x))) * (w64 ((w64 ((if x1 > p6.x then x1 else p6.x) + (if x2 < p5.x then x2 else p5.x))) - (w64 ((2 : Int) * p6.x)))))))))))) + r19))), (16, pB b7 0)] [] [] s12 hf109 (by kernel_rfl) (fun _ s => .nil) .nil fun a103 hf110 => ?_
          refine p_store_eq (i := 10) (j := 5) (b := b7) (off := 0) (vs := [vI (w64 ((w64 (y30 + (w64 ((w64 ((w64 ((2 : Int) * r15)) * (w64 ((if x2 < p5.x then x2 else p5.x) - (if x1 > p6.x then x1 else p6.x))))) + (w64 (r18 * (w64 ((w64 ((if x2 < p5.x then x2 else p5.x) - (if x1 > p6.x then x1 else p6.x))) * (w64 ((w64 ((if x1 > p6.x then x1 else p6.x) + (if x2 < p5.x then x2 else p5.x))) - (w64 ((2 : Int) * p6.x)))))))))))) + r19))]) (cs' := [vI (w64 ((w64 (y30 + (w64 ((w64 ((w64 ((2 : Int) * r15)) * (w64 ((if x2 < p5.x then x2 else p5.x) - (if x1 > p6.x then x1 else p6.x))))) + (w64 (r18 * (w64 ((w64 ((if x2 < p5.x then x2 else p5.x) - (if x1 > p6.x then x1 else p6.x))) * (w64 ((w64 ((if x1 > p6.x then x1 else p6.x) + (if x2 < p5.x then x2 else p5.x))) - (w64 ((2 : Int) * p6.x)))))))))))) + r19)), vI y31, vI y32]) hS60 hf110 rfl (by kernel_rfl) (by kernel_rfl) rfl fun ww49 a104 hS61 hf111 => ⟨fun e => absurd e (by decide), ?_⟩
          refine p_dt (by kernel_rfl) ?_
          refine w_sr (by kernel_rfl) ?_
          refine p_qn 3 [] [(0, pB b7 0), (2, vI (w64 (p5.x - p6.x))), (17, vI (w64 ((w64 ((w64 (r16 - r17)) - (w64 (r18 * (w64 (p5.x - p6.x)))))) * (w64 ((w64 ((if x2 < p5.x then x2 else p5.x) - (if x1 > p6.x then x1 else p6.x))) * (w64 ((w64 ((if x1 > p6.x then x1 else p6.x) + (if x2 < p5.x then x2 else p5.x))) - (w64 ((2 : Int) * p6.x))))))))), (18, vI (w64 ((w64 ((w64 (r16 - r17)) - (w64 (r18 * (w64 (p5.x - p6.x)))))) * (w64 ((w64 ((if x2 < p5.x then x2 else p5.x) - (if x1 > p6.x then x1 else p6.x))) * (w64 ((w64 ((if x1 > p6.x then x1 else p6.x) + (if x2 < p5.x then x2 else p5.x))) - (w64 ((2 : Int) * p6.x))))))))), (19, vI (w64 (p5.x - p6.x)))] [] hf111 (by kernel_rfl) .nil fun a105 hf112 => ?_
          obtain ⟨r20, hd15, hr37⟩ := bind_some hr36
          refine p_call (i := 3) (d := some 20) (f := 51) (args := #[vI (w64 ((w64 ((w64 (r16 - r17)) - (w64 (r18 * (w64 (p5.x - p6.x)))))) * (w64 ((w64 ((if x2 < p5.x then x2 else p5.x) - (if x1 > p6.x then x1 else p6.x))) * (w64 ((w64 ((if x1 > p6.x then x1 else p6.x) + (if x2 < p5.x then x2 else p5.x))) - (w64 ((2 : Int) * p6.x)))))))), vI (w64 (p5.x - p6.x))]) hf112 (by kernel_rfl) (f51_ok fuel (w64 ((w64 ((w64 (r16 - r17)) - (w64 (r18 * (w64 (p5.x - p6.x)))))) * (w64 ((w64 ((if x2 < p5.x then x2 else p5.x) - (if x1 > p6.x then x1 else p6.x))) * (w64 ((w64 ((if x1 > p6.x then x1 else p6.x) + (if x2 < p5.x then x2 else p5.x))) - (w64 ((2 : Int) * p6.x)))))))) (w64 (p5.x - p6.x)) r20 hd15 z6 _ _ hS61 ) ?_
          rintro v15 ww50 a106 ⟨rfl, hS62⟩ hf113
          refine ⟨fun _ => trivial, ?_⟩
          refine p_qt [] [(0, pB b7 0), (2, vI (w64 (p5.x - p6.x))), (6, vI (w64 ((w64 ((w64 ((w64 (r16 - r17)) - (w64 (r18 * (w64 (p5.x - p6.x)))))) * (w64 ((w64 ((if x2 < p5.x then x2 else p5.x) - (if x1 > p6.x then x1 else p6.x))) * (w64 ((w64 ((if x1 > p6.x then x1 else p6.x) + (if x2 < p5.x then x2 else p5.x))) - (w64 ((2 : Int) * p6.x)))))))) - (w64 (r20 * (w64 (p5.x - p6.x)))))))] [] hf113 (by kernel_rfl) .nil fun a107 hf114 => ?_
          refine w_sq [] [(0, pB b7 0), (2, vI (w64 (p5.x - p6.x))), (6, vI (w64 ((w64 ((w64 ((w64 (r16 - r17)) - (w64 (r18 * (w64 (p5.x - p6.x)))))) * (w64 ((w64 ((if x2 < p5.x then x2 else p5.x) - (if x1 > p6.x then x1 else p6.x))) * (w64 ((w64 ((if x1 > p6.x then x1 else p6.x) + (if x2 < p5.x then x2 else p5.x))) - (w64 ((2 : Int) * p6.x)))))))) - (w64 (r20 * (w64 (p5.x - p6.x))))))), (25, .bool (decide ((w64 ((w64 ((w64 ((w64 (r16 - r17)) - (w64 (r18 * (w64 (p5.x - p6.x)))))) * (w64 ((w64 ((if x2 < p5.x then x2 else p5.x) - (if x1 > p6.x then x1 else p6.x))) * (w64 ((w64 ((if x1 > p6.x then x1 else p6.x) + (if x2 < p5.x then x2 else p5.x))) - (w64 ((2 : Int) * p6.x)))))))) - (w64 (r20 * (w64 (p5.x - p6.x)))))) > (0 : Int))))] [] hf114 (by kernel_rfl) .nil fun a108 hf115 => ?_
          refine w_if hf115 (b := (decide ((w64 ((w64 ((w64 ((w64 (r16 - r17)) - (w64 (r18 * (w64 (p5.x - p6.x)))))) * (w64 ((w64 ((if x2 < p5.x then x2 else p5.x) - (if x1 > p6.x then x1 else p6.x))) * (w64 ((w64 ((if x1 > p6.x then x1 else p6.x) + (if x2 < p5.x then x2 else p5.x))) - (w64 ((2 : Int) * p6.x)))))))) - (w64 (r20 * (w64 (p5.x - p6.x)))))) > (0 : Int)))) (by kernel_rfl) (fun hb14 => ?_) (fun hb14 => ?_)
          ·have hr38 := cond_t hb14 hr37
           have hS63 := hS62.drew
           refine w_regD (by kernel_rfl) [(0, true), (1, true), (2, true), (3, true), (4, true), (5, true), (6, true), (7, true), (8, true), (9, true), (10, true), (11, true), (12, true), (13, true), (14, true), (15, true), (16, true), (17, true), (18, true), (19, true), (20, true), (21, true), (22, true), (23, false), (24, true), (25, true), (26, false)] [23, 26] (fun x => x = ww50.drew) (by kernel_rfl) rfl ?_
           refine p_qE 23 [vI y31, vI y32, vI y32] [(27, pB b7 0), (40, vI (w64 ((w64 (y31 * (w64 (p5.x - p6.x)))) + (w64 ((w64 ((w64 ((w64 ((w64 (r16 - r17)) - (w64 (r18 * (w64 (p5.x - p6.x)))))) * (w64 ((w64 ((if x2 < p5.x then x2 else p5.x) - (if x1 > p6.x then x1 else p6.x))) * (w64 ((w64 ((if x1 > p6.x then x1 else p6.x) + (if x2 < p5.x then x2 else p5.x))) - (w64 ((2 : Int) * p6.x)))))))) - (w64 (r20 * (w64 (p5.x - p6.x)))))) * y32))))), (46, vI (w64 (y32 * (w64 (p5.x - p6.x))))), (48, pB b7 1)] [.cell ⟨b7, 1, none⟩ (vI y31), .cell ⟨b7, 2, none⟩ (vI y32), .cell ⟨b7, 2, none⟩ (vI y32)] [] hf115 (by kernel_rfl) (.cell (hS63.box (i := 5) rfl (j := 1) rfl) (.cell (hS63.box (i := 5) rfl (j := 2) rfl) (.cell (hS63.box (i := 5) rfl (j := 2) rfl) .nil))) .nil fun a109 hf116 => ?_
           refine p_store_eq (i := 23) (j := 5) (b := b7) (off := 1) (vs := [vI (w64 ((w64 (y31 * (w64 (p5.x - p6.x)))) + (w64 ((w64 ((w64 ((w64 ((w64 (r16 - r17)) - (w64 (r18 * (w64 (p5.x - p6.x)))))) * (w64 ((w64 ((if x2 < p5.x then x2 else p5.x) - (if x1 > p6.x then x1 else p6.x))) * (w64 ((w64 ((if x1 > p6.x then x1 else p6.x) + (if x2 < p5.x then x2 else p5.x))) - (w64 ((2 : Int) * p6.x)))))))) - (w64 (r20 * (w64 (p5.x - p6.x)))))) * y32))))]) (cs' := [vI (w64 ((w64 (y30 + (w64 ((w64 ((w64 ((2 : Int) * r15)) * (w64 ((if x2 < p5.x then x2 else p5.x) - (if x1 > p6.x then x1 else p6.x))))) + (w64 (r18 * (w64 ((w64 ((if x2 < p5.x then x2 else p5.x) - (if x1 > p6.x then x1 else p6.x))) * (w64 ((w64 ((if x1 > p6.x then x1 else p6.x) + (if x2 < p5.x then x2 else p5.x))) - (w64 ((2 : Int) * p6.x)))))))))))) + r19)), vI (w64 ((w64 (y31 * (w64 (p5.x - p6.x)))) + (w64 ((w64 ((w64 ((w64 ((w64 (r16 - r17)) - (w64 (r18 * (w64 (p5.x - p6.x)))))) * (w64 ((w64 ((if x2 < p5.x then x2 else p5.x) - (if x1 > p6.x then x1 else p6.x))) * (w64 ((w64 ((if x1 > p6.x then x1 else p6.x) + (if x2 < p5.x then x2 else p5.x))) - (w64 ((2 : Int) * p6.x)))))))) - (w64 (r20 * (w64 (p5.x - p6.x)))))) * y32)))), vI y32]) hS63 hf116 rfl (by kernel_rfl) (by kernel_rfl) rfl fun ww51 a110 hS64 hf117 => ⟨fun e => absurd e (by decide), ?_⟩
           refine p_qP 2 [] [(46, vI (w64 (y32 * (w64 (p5.x - p6.x))))), (50, pB b7 2)] [] hf117 (by kernel_rfl) (fun _ => .nil) fun a111 hf118 => ?_
           refine p_store_eq (i := 26) (j := 5) (b := b7) (off := 2) (vs := [vI (w64 (y32 * (w64 (p5.x - p6.x))))]) (cs' := [vI (w64 ((w64 (y30 + (w64 ((w64 ((w64 ((2 : Int) * r15)) * (w64 ((if x2 < p5.x then x2 else p5.x) - (if x1 > p6.x then x1 else p6.x))))) + (w64 (r18 * (w64 ((w64 ((if x2 < p5.x then x2 else p5.x) - (if x1 > p6.x then x1 else p6.x))) * (w64 ((w64 ((if x1 > p6.x then x1 else p6.x) + (if x2 < p5.x then x2 else p5.x))) - (w64 ((2 : Int) * p6.x)))))))))))) + r19)), vI (w64 ((w64 (y31 * (w64 (p5.x - p6.x)))) + (w64 ((w64 ((w64 ((w64 ((w64 (r16 - r17)) - (w64 (r18 * (w64 (p5.x - p6.x)))))) * (w64 ((w64 ((if x2 < p5.x then x2 else p5.x) - (if x1 > p6.x then x1 else p6.x))) * (w64 ((w64 ((if x1 > p6.x then x1 else p6.x) + (if x2 < p5.x then x2 else p5.x))) - (w64 ((2 : Int) * p6.x)))))))) - (w64 (r20 * (w64 (p5.x - p6.x)))))) * y32)))), vI (w64 (y32 * (w64 (p5.x - p6.x))))]) hS64 hf118 rfl (by kernel_rfl) (by kernel_rfl) rfl fun ww52 a112 hS65 hf119 => ⟨fun e => absurd e (by decide), ?_⟩
           refine p_done (by kernel_rfl) ?_
           refine p_fall (os := []) (v := .tuple #[]) (obs := []) hf119 (by kernel_rfl) .nil ?_
           exact ⟨_, rfl, z6, (w64 ((w64 (y30 + (w64 ((w64 ((w64 ((2 : Int) * r15)) * (w64 ((if x2 < p5.x then x2 else p5.x) - (if x1 > p6.x then x1 else p6.x))))) + (w64 (r18 * (w64 ((w64 ((if x2 < p5.x then x2 else p5.x) - (if x1 > p6.x then x1 else p6.x))) * (w64 ((w64 ((if x1 > p6.x then x1 else p6.x) + (if x2 < p5.x then x2 else p5.x))) - (w64 ((2 : Int) * p6.x)))))))))))) + r19)), (w64 ((w64 (y31 * (w64 (p5.x - p6.x)))) + (w64 ((w64 ((w64 ((w64 ((w64 (r16 - r17)) - (w64 (r18 * (w64 (p5.x - p6.x)))))) * (w64 ((w64 ((if x2 < p5.x then x2 else p5.x) - (if x1 > p6.x then x1 else p6.x))) * (w64 ((w64 ((if x1 > p6.x then x1 else p6.x) + (if x2 < p5.x then x2 else p5.x))) - (w64 ((2 : Int) * p6.x)))))))) - (w64 (r20 * (w64 (p5.x - p6.x)))))) * y32)))), (w64 (y32 * (w64 (p5.x - p6.x)))), (Zone.le_refl _), rfl, hS65, hr38⟩
          ·have hr39 := cond_f hb14 hr37
           refine w_skip (by kernel_rfl) ?_
           refine p_fall (os := []) (v := .tuple #[]) (obs := []) hf115 (by kernel_rfl) .nil ?_
           exact ⟨_, rfl, z6, (w64 ((w64 (y30 + (w64 ((w64 ((w64 ((2 : Int) * r15)) * (w64 ((if x2 < p5.x then x2 else p5.x) - (if x1 > p6.x then x1 else p6.x))))) + (w64 (r18 * (w64 ((w64 ((if x2 < p5.x then x2 else p5.x) - (if x1 > p6.x then x1 else p6.x))) * (w64 ((w64 ((if x1 > p6.x then x1 else p6.x) + (if x2 < p5.x then x2 else p5.x))) - (w64 ((2 : Int) * p6.x)))))))))))) + r19)), y31, y32, (Zone.le_refl _), rfl, hS62, hr39⟩
         ·rintro v16 ww53 a113 ⟨z8, y27, y28, y29, k8, rfl, hS66, hr40⟩ hf120
          refine ⟨fun _ => trivial, ?_⟩
          refine p_done (by kernel_rfl) ?_
          refine n_block ?_
          refine p_roundN hS66 (j := 2) rfl fun ww54 a114 hS67 hf121 => ?_
          have hS68 := St.drop 1 hS67
          refine p_qt [] [(0, .func (.yield l1) #[] #[]), (1, pB b8 0), (22, .slice e1 d2.length q1), (23, vI (d2.length : Int)), (24, vI y23), (38, .bool false)] [] hf121 (by kernel_rfl) .nil fun a115 hf122 => ?_
          refine w_if_false hf122 (by kernel_rfl) ?_
          refine w_skip (by kernel_rfl) ?_
          refine n_block ?_
          refine n_then ?_
          have hf123 := Fr.keep (ks := [0, 1, 22, 23, 24]) (r := [(0, .func (.yield l1) #[] #[]), (1, pB b8 0), (22, .slice e1 d2.length q1), (23, vI (d2.length : Int)), (24, vI y23)]) hf122 (by kernel_rfl)
          exact ⟨z8, y27, y28, y29, k8, hf123, (St.drop 1 hS68), hr40⟩
       ·rintro a116 ww55 ⟨z7, y24, y25, y26, k9, hf124, hS69, hr41⟩
        refine w_q [] [(0, .func (.yield l1) #[] #[]), (1, pB b8 0), (22, .slice e1 d2.length q1), (23, vI (d2.length : Int)), (24, vI (w64 (y23 + (1 : Int))))] [] hf124 (by kernel_rfl) .nil fun a117 hf125 => ?_
        refine n_then ?_
        have hf126 := Fr.keep (ks := [0, 1, 22, 23, 24]) (r := [(0, .func (.yield l1) #[] #[]), (1, pB b8 0), (22, .slice e1 d2.length q1), (23, vI (d2.length : Int)), (24, vI (w64 (y23 + (1 : Int))))]) hf125 (by kernel_rfl)
        exact ⟨n2, Nat.lt_succ_self n2, z7, y24, y25, y26, (w64 (y23 + (1 : Int))), (Zone.le_trans k7 k9), hf126, hS69, hr41⟩
      ·have hr42 := cond_f hb10 hr26
       refine w_exit (id := 0) (by kernel_rfl) ?_
       refine x_then ?_
       refine x_then ?_
       refine x_block ?_
       refine p_fall (os := []) (v := .tuple #[]) (obs := []) hf81 (by kernel_rfl) .nil ?_
       refine ⟨_, rfl, fun a118 hf127 => ?_⟩
       refine p_jump0 hS43 (j := 0) rfl (fun h => by cases h) fun ww56 hS70 => ?_
       refine n_block ?_
       refine n_then ?_
       refine w_sr (by kernel_rfl) ?_
       refine p_qn 1 [vI y30, vI y31, vI y32] [(8, pB b6 0), (93, .agg #[vI y30, vI y31, vI y32])] [.cell ⟨b7, 0, none⟩ (vI y30), .cell ⟨b7, 1, none⟩ (vI y31), .cell ⟨b7, 2, none⟩ (vI y32)] hf127 (by kernel_rfl) (.cell (hS70.box (i := 3) rfl (j := 0) rfl) (.cell (hS70.box (i := 3) rfl (j := 1) rfl) (.cell (hS70.box (i := 3) rfl (j := 2) rfl) .nil))) fun a119 hf128 => ?_
       refine p_store_eq (i := 1) (j := 4) (b := b6) (off := 0) (vs := [vI y30, vI y31, vI y32]) (cs' := [vI y30, vI y31, vI y32]) hS70 hf128 rfl (by kernel_rfl) (by kernel_rfl) rfl fun ww57 a120 hS71 hf129 => ⟨fun _ => trivial, ?_⟩
       refine p_dt (by kernel_rfl) ?_
       refine w_ret (by kernel_rfl) ?_
       refine p_retM hf129 ?_
       refine p_mark hS71 (j := 1) rfl fun ww58 hS72 => ?_
       refine p_end (os := [vI y30, vI y31, vI y32]) (v := .agg #[vI y30, vI y31, vI y32]) (obs := [.cell ⟨b6, 0, none⟩ (vI y30), .cell ⟨b6, 1, none⟩ (vI y31), .cell ⟨b6, 2, none⟩ (vI y32)]) hf129 (by kernel_rfl) (.cell (hS72.box (i := 4) rfl (j := 0) rfl) (.cell (hS72.box (i := 4) rfl (j := 1) rfl) (.cell (hS72.box (i := 4) rfl (j := 2) rfl) .nil))) ?_
       exact ⟨_, rfl, z6, y30, y31, y32, k7, rfl, (St.drop 9 hS72), hr42⟩
    ·rintro v17 ww59 a121 ⟨z4, y1, y2, y3, k10, rfl, hS73, hr43⟩ hf130
     refine ⟨fun _ => trivial, ?_⟩
     refine p_box (i := 4) (d := (some 10)) (cs := [vI 0, vI 0, vI 0]) (T := 92) (v := fun b12 => pB b12 0) hS73 hf130 (fun b => by kernel_rfl) fun b12 ww60 a122 hS74 hf131 => ⟨fun _ => trivial, ?_⟩
     refine p_store_eq (i := 5) (j := 0) (b := b12) (off := 0) (vs := [vI y1, vI y2, vI y3]) (cs' := [vI y1, vI y2, vI y3]) hS74 hf131 rfl (by kernel_rfl) (by kernel_rfl) rfl fun ww61 a123 hS75 hf132 => ⟨fun _ => trivial, ?_⟩
     refine p_dt (by kernel_rfl) ?_
     refine w_sr (by kernel_rfl) ?_
     refine p_qn 3 [.slice o_x0 x0.length c_x0] [(10, pB b12 0), (32, .agg #[.slice o_x0 x0.length c_x0]), (33, vI x1), (34, vI x2)] [.cell ⟨b1, 0, none⟩ (.slice o_x0 x0.length c_x0)] hf132 (by kernel_rfl) (.cell (hS75.box (i := 1) rfl (j := 0) rfl) .nil) fun a124 hf133 => ?_
     refine p_call (i := 3) (d := some 35) (f := 48) (args := #[.agg #[.slice o_x0 x0.length c_x0], vI x1, vI x2, .func (.func 50) #[] #[]]) hf133 (by kernel_rfl) (Φ := fun v w => ∃ z9 : Zone, ∃ y4 : Int, ∃ y5 : Int, ∃ y6 : Int, Zone.le z4 z9 ∧ v = .agg #[vI y4, vI y5, vI y6] ∧ St z9 (box b12 [vI y1, vI y2, vI y3] 92 :: box b1 [.slice o_x0 x0.length c_x0] 24 :: L) w ∧ (F29_j6 fuel y1 y2 y3 y4 y5 y6) = some r) ?_ ?_
     ·refine calls_intro (N := 94) Tryz.func48 (by kernel_rfl) fun a125 hf134 => ?_
      refine w_sr (by kernel_rfl) ?_
      refine p_box (i := 0) (d := (some 4)) (cs := [.slice o_x0 x0.length c_x0]) (T := 24) (v := fun b13 => pB b13 0) hS75 hf134 (fun b => by kernel_rfl) fun b13 ww62 a126 hS76 hf135 => ⟨fun _ => trivial, ?_⟩
      refine p_box (i := 1) (d := (some 5)) (cs := [vI x1]) (T := 3) (v := fun b14 => pB b14 0) hS76 hf135 (fun b => by kernel_rfl) fun b14 ww63 a127 hS77 hf136 => ⟨fun _ => trivial, ?_⟩
      refine p_box (i := 2) (d := (some 6)) (cs := [vI x2]) (T := 3) (v := fun b15 => pB b15 0) hS77 hf136 (fun b => by kernel_rfl) fun b15 ww64 a128 hS78 hf137 => ⟨fun _ => trivial, ?_⟩
      refine p_box (i := 3) (d := (some 7)) (cs := [.func (.func 50) #[] #[]]) (T := 94) (v := fun b16 => pB b16 0) hS78 hf137 (fun b => by kernel_rfl) fun b16 ww65 a129 hS79 hf138 => ⟨fun _ => trivial, ?_⟩
      refine p_box (i := 4) (d := (some 8)) (cs := [vI 0, vI 0, vI 0]) (T := 92) (v := fun b17 => pB b17 0) hS79 hf138 (fun b => by kernel_rfl) fun b17 ww66 a130 hS80 hf139 => ⟨fun _ => trivial, ?_⟩
      refine p_dt (by kernel_rfl) ?_
      refine w_sr (by kernel_rfl) ?_
      refine p_qn 1 [] [(4, pB b13 0), (5, pB b14 0), (6, pB b15 0), (7, pB b16 0), (8, pB b17 0), (18, .agg #[vI 0, vI 0, vI 1])] [] hf139 (by kernel_rfl) .nil fun a131 hf140 => ?_
      refine p_box (i := 1) (d := (some 9)) (cs := [vI 0, vI 0, vI 0]) (T := 92) (v := fun b18 => pB b18 0) hS80 hf140 (fun b => by kernel_rfl) fun b18 ww67 a132 hS81 hf141 => ⟨fun _ => trivial, ?_⟩
      refine p_store_eq (i := 2) (j := 0) (b := b18) (off := 0) (vs := [vI 0, vI 0, vI 1]) (cs' := [vI 0, vI 0, vI 1]) hS81 hf141 rfl (by kernel_rfl) (by kernel_rfl) rfl fun ww68 a133 hS82 hf142 => ⟨fun _ => trivial, ?_⟩
      refine p_dt (by kernel_rfl) ?_
      refine w_seq (by kernel_rfl) ?_
      refine w_sr (by kernel_rfl) ?_
      refine p_qn 1 [.slice o_x0 x0.length c_x0] [(5, pB b14 0), (6, pB b15 0), (7, pB b16 0), (8, pB b17 0), (9, pB b18 0), (19, .agg #[.slice o_x0 x0.length c_x0])] [.cell ⟨b13, 0, none⟩ (.slice o_x0 x0.length c_x0)] hf142 (by kernel_rfl) (.cell (hS82.box (i := 5) rfl (j := 0) rfl) .nil) fun a134 hf143 => ?_
      refine p_inl (i := 1) (d := some 20) (f := 73) (args := #[.agg #[.slice o_x0 x0.length c_x0]]) (N' := 4) hf143 (by kernel_rfl) Tryz.func73 (by kernel_rfl) fun a135 hf144 => ?_
      refine w_sr (by kernel_rfl) ?_
      refine p_box (i := 0) (d := (some 1)) (cs := [.slice o_x0 x0.length c_x0]) (T := 24) (v := fun b19 => pB b19 0) hS82 hf144 (fun b => by kernel_rfl) fun b19 ww69 a136 hS83 hf145 => ⟨fun _ => trivial, ?_⟩
      refine p_qt [] [(1, pB b19 0)] [] hf145 (by kernel_rfl) .nil fun a137 hf146 => ?_
      refine w_sq [] [(2, .func (.func 101) #[] #[pB b19 0])] [] hf146 (by kernel_rfl) .nil fun a138 hf147 => ?_
      refine w_ret (by kernel_rfl) ?_
      refine p_ret (os := []) (v := .func (.func 101) #[] #[pB b19 0]) (obs := []) hf147 (by kernel_rfl) .nil ?_
      refine ⟨_, rfl, fun a139 hf148 => ?_⟩
      refine ⟨fun _ => trivial, ?_⟩
      refine p_dt (by kernel_rfl) ?_
      refine w_block (id := 0) (by kernel_rfl) ?_
      have hf149 := Fr.keep (ks := [5, 6, 7, 8, 9, 20]) (r := [(5, pB b14 0), (6, pB b15 0), (7, pB b16 0), (8, pB b17 0), (9, pB b18 0), (20, .func (.func 101) #[] #[pB b19 0])]) hf148 (by kernel_rfl)
      refine w_range (g := 20) (gf := 101) (lb := #[pB b19 0]) (by kernel_rfl) hf149 hS83 (by kernel_rfl) (fun l => by kernel_rfl) fun ps2 RA2 RB2 hps2 hA2 hB2 l2 D2 ww70 hS84 => ?_
      refine calls_intro (N := 40) Tryz.func101 (by kernel_rfl) fun a140 hf150 => ?_
      refine w_seq (by kernel_rfl) ?_
      refine w_sq [.slice o_x0 x0.length c_x0] [(0, .func (.yield l2) #[] #[]), (1, pB b19 0), (8, .bool ((x0.length : Int) == (1 : Int)))] [.cell ⟨b19, 0, none⟩ (.slice o_x0 x0.length c_x0)] hf150 (by kernel_rfl) (.cell (hS84.box (i := 2) rfl (j := 0) rfl) .nil) fun a141 hf151 => ?_
      refine w_if hf151 (b := ((x0.length : Int) == (1 : Int))) (by kernel_rfl) (fun hb15 => ?_) (fun hb15 => ?_)
      ·have hr44 := cond_t hb15 hr43
       refine w_seq (by kernel_rfl) ?_
       refine w_regDY (by kernel_rfl) 10 [(0, true), (1, true), (2, true), (3, true), (4, true), (5, true), (6, true), (7, true), (8, true), (9, true)] [] (by kernel_rfl) ?_
       have hS85 := hS84.drew
       obtain ⟨p3, hp9986, hr45⟩ := bind_some hr44
       obtain ⟨ad5, ho5, hb16, cc5, hc5, hk5⟩ := SliceR.getI (SliceR.mono (Zone.le_trans (Zone.le_trans k3 k5) k10) hx_x0) hp9986
       subst hc5
       obtain ⟨p4, hp9995, hr46⟩ := bind_some hr45
       obtain ⟨ad6, ho6, hb17, cc6, hc6, hk6⟩ := SliceR.getI (SliceR.mono (Zone.le_trans (Zone.le_trans k3 k5) k10) hx_x0) hp9995
       subst hc6
       refine p_qzE [.slice o_x0 x0.length c_x0, .pointer (some ad5), vI p3.x, vI p3.lo, vI p3.hi, .slice o_x0 x0.length c_x0, .pointer (some ad6), vI p4.x, vI p4.lo, vI p4.hi] [(9, .func (.yield l2) #[] #[]), (18, .agg #[vI p3.x, vI p3.lo, vI p3.hi, vI p4.x, vI p4.lo, vI p4.hi])] [.cell ⟨b19, 0, none⟩ (.slice o_x0 x0.length c_x0), .prop (o_x0 = some ad5), .prop (0 ≤ (0 : Int) ∧ (0 : Int) < (x0.length : Nat)), .cell ((ad5.add (Int.toNat 0 * 3)).add 0) (vI p3.x), .cell ((ad5.add (Int.toNat 0 * 3)).add 1) (vI p3.lo), .cell ((ad5.add (Int.toNat 0 * 3)).add 2) (vI p3.hi), .cell ⟨b19, 0, none⟩ (.slice o_x0 x0.length c_x0), .prop (o_x0 = some ad6), .prop (0 ≤ (0 : Int) ∧ (0 : Int) < (x0.length : Nat)), .cell ((ad6.add (Int.toNat 0 * 3)).add 0) (vI p4.x), .cell ((ad6.add (Int.toNat 0 * 3)).add 1) (vI p4.lo), .cell ((ad6.add (Int.toNat 0 * 3)).add 2) (vI p4.hi)] [] hf151 (by kernel_rfl) (.cell (hS85.box (i := 2) rfl (j := 0) rfl) (.prop ho5 (.prop hb16 (.cell (hS85.cell (hk5 0 _ rfl)) (.cell (hS85.cell (hk5 1 _ rfl)) (.cell (hS85.cell (hk5 2 _ rfl)) (.cell (hS85.box (i := 2) rfl (j := 0) rfl) (.prop ho6 (.prop hb17 (.cell (hS85.cell (hk6 0 _ rfl)) (.cell (hS85.cell (hk6 1 _ rfl)) (.cell (hS85.cell (hk6 2 _ rfl)) .nil)))))))))))) .nil fun a142 hf152 => ?_
       refine p_yield (d := some 19) (l := l2) (args := #[.agg #[vI p3.x, vI p3.lo, vI p3.hi, vI p4.x, vI p4.lo, vI p4.hi]]) hf152 (by kernel_rfl) hS85 (j := 0) rfl (by rw [hps2]; kernel_rfl) fun a143 hf153 => ?_
       rw [hps2] at hf153
       refine cw_eq hA2 ?_
       refine w_reg (by kernel_rfl) ?_
       refine p_box (i := 0) (d := (some 10)) (cs := [vI 0, vI 0, vI 0, vI 0, vI 0, vI 0]) (T := 118) (v := fun b20 => pB b20 0) hS85 hf153 (fun b => by kernel_rfl) fun b20 ww71 a144 hS86 hf154 => ⟨fun _ => trivial, ?_⟩
       refine p_store_eq (i := 1) (j := 0) (b := b20) (off := 0) (vs := [vI p3.x, vI p3.lo, vI p3.hi, vI p4.x, vI p4.lo, vI p4.hi]) (cs' := [vI p3.x, vI p3.lo, vI p3.hi, vI p4.x, vI p4.lo, vI p4.hi]) hS86 hf154 rfl (by kernel_rfl) (by kernel_rfl) rfl fun ww72 a145 hS87 hf155 => ⟨fun _ => trivial, ?_⟩
       refine p_dt (by kernel_rfl) ?_
       refine p_begin hS87 (j := 1) rfl fun ww73 hS88 => ?_
       refine cw_eq hB2 ?_
       refine w_block (id := 1) (by kernel_rfl) ?_
       have hS89 := hS88.drew
       refine w_sqD [(0, true), (1, true), (2, true), (3, true), (4, true), (5, true), (6, true), (7, true), (8, true), (9, true), (10, true), (11, true)] [] [vI p3.x, vI x1, vI p4.x, vI x2] [(7, pB b16 0), (9, pB b18 0), (10, pB b20 0), (11, vI (if x1 > p3.x then x1 else p3.x)), (12, vI (if x2 < p4.x then x2 else p4.x))] [.cell ⟨b20, 0, none⟩ (vI p3.x), .cell ⟨b14, 0, none⟩ (vI x1), .cell ⟨b20, 3, none⟩ (vI p4.x), .cell ⟨b15, 0, none⟩ (vI x2)] [] hf155 (by kernel_rfl) (.cell (hS89.box (i := 0) rfl (j := 0) rfl) (.cell (hS89.box (i := 8) rfl (j := 0) rfl) (.cell (hS89.box (i := 0) rfl (j := 3) rfl) (.cell (hS89.box (i := 7) rfl (j := 0) rfl) .nil)))) .nil fun a146 hf156 => ?_
       refine w_seq (by kernel_rfl) ?_
       refine w_sq [] [(7, pB b16 0), (9, pB b18 0), (10, pB b20 0), (11, vI (if x1 > p3.x then x1 else p3.x)), (12, vI (if x2 < p4.x then x2 else p4.x)), (34, .bool (decide ((if x1 > p3.x then x1 else p3.x) ≥ (if x2 < p4.x then x2 else p4.x))))] [] hf156 (by kernel_rfl) .nil fun a147 hf157 => ?_
       refine w_if hf157 (b := (decide ((if x1 > p3.x then x1 else p3.x) ≥ (if x2 < p4.x then x2 else p4.x)))) (by kernel_rfl) (fun hb18 => ?_) (fun hb18 => ?_)
       ·have hr47 := cond_t hb18 hr46
        refine w_exit (id := 1) (by kernel_rfl) ?_
        refine x_then ?_
        refine x_block ?_
        refine p_roundN hS89 (j := 1) rfl fun ww74 a148 hS90 hf158 => ?_
        have hS91 := St.drop 1 hS90
        refine p_dt (by kernel_rfl) ?_
        refine w_ret (by kernel_rfl) ?_
        refine r_then ?_
        refine p_ret (os := []) (v := .tuple #[]) (obs := []) hf158 (by kernel_rfl) .nil ?_
        refine ⟨_, rfl, fun a149 hf159 => ?_⟩
        refine p_jump0 hS91 (j := 0) rfl (fun h => by cases h) fun ww75 hS92 => ?_
        refine n_block ?_
        refine n_then ?_
        refine w_sr (by kernel_rfl) ?_
        refine p_qn 1 [vI 0, vI 0, vI 1] [(8, pB b17 0), (93, .agg #[vI 0, vI 0, vI 1])] [.cell ⟨b18, 0, none⟩ (vI 0), .cell ⟨b18, 1, none⟩ (vI 0), .cell ⟨b18, 2, none⟩ (vI 1)] hf159 (by kernel_rfl) (.cell (hS92.box (i := 3) rfl (j := 0) rfl) (.cell (hS92.box (i := 3) rfl (j := 1) rfl) (.cell (hS92.box (i := 3) rfl (j := 2) rfl) .nil))) fun a150 hf160 => ?_
        refine p_store_eq (i := 1) (j := 4) (b := b17) (off := 0) (vs := [vI 0, vI 0, vI 1]) (cs' := [vI 0, vI 0, vI 1]) hS92 hf160 rfl (by kernel_rfl) (by kernel_rfl) rfl fun ww76 a151 hS93 hf161 => ⟨fun _ => trivial, ?_⟩
        refine p_dt (by kernel_rfl) ?_
        refine w_ret (by kernel_rfl) ?_
        refine p_retM hf161 ?_
        refine p_mark hS93 (j := 1) rfl fun ww77 hS94 => ?_
        refine p_end (os := [vI 0, vI 0, vI 1]) (v := .agg #[vI 0, vI 0, vI 1]) (obs := [.cell ⟨b17, 0, none⟩ (vI 0), .cell ⟨b17, 1, none⟩ (vI 0), .cell ⟨b17, 2, none⟩ (vI 1)]) hf161 (by kernel_rfl) (.cell (hS94.box (i := 4) rfl (j := 0) rfl) (.cell (hS94.box (i := 4) rfl (j := 1) rfl) (.cell (hS94.box (i := 4) rfl (j := 2) rfl) .nil))) ?_
        exact ⟨_, rfl, z4, 0, 0, 1, (Zone.le_refl _), rfl, (St.drop 9 hS94), hr47⟩
       ·have hr48 := cond_f hb18 hr46
        refine w_skip (by kernel_rfl) ?_
        refine n_then ?_
        refine w_seq (by kernel_rfl) ?_
        have hS95 := hS89.drew
        have s13 : Sub z4 (box b20 [vI p3.x, vI p3.lo, vI p3.hi, vI p4.x, vI p4.lo, vI p4.hi] 118 :: loopA l2 94 [(5, pB b14 0), (6, pB b15 0), (7, pB b16 0), (8, pB b17 0), (9, pB b18 0), (20, .func (.func 101) #[] #[pB b19 0])] ps2 RA2 RB2 D2 .busy none :: defA D2 :: box b19 [.slice o_x0 x0.length c_x0] 24 :: box b18 [vI 0, vI 0, vI 1] 92 :: box b17 [vI 0, vI 0, vI 0] 92 :: box b16 [.func (.func 50) #[] #[]] 94 :: box b15 [vI x2] 3 :: box b14 [vI x1] 3 :: box b13 [.slice o_x0 x0.length c_x0] 24 :: box b12 [vI y1, vI y2, vI y3] 92 :: box b1 [.slice o_x0 x0.length c_x0] 24 :: L) _ := Sub.of (Zone.le_refl _) hS95
        refine w_regD (by kernel_rfl) [(0, true), (1, true), (2, true), (4, true), (5, true), (6, true), (8, true), (9, true), (10, true), (13, true), (14, true), (15, true), (16, true), (17, true), (18, true), (19, true), (3, false), (7, false), (11, false), (12, true), (20, true), (21, true), (22, true)] [] (Sub z4 (box b20 [vI p3.x, vI p3.lo, vI p3.hi, vI p4.x, vI p4.lo, vI p4.hi] 118 :: loopA l2 94 [(5, pB b14 0), (6, pB b15 0), (7, pB b16 0), (8, pB b17 0), (9, pB b18 0), (20, .func (.func 101) #[] #[pB b19 0])] ps2 RA2 RB2 D2 .busy none :: defA D2 :: box b19 [.slice o_x0 x0.length c_x0] 24 :: box b18 [vI 0, vI 0, vI 1] 92 :: box b17 [vI 0, vI 0, vI 0] 92 :: box b16 [.func (.func 50) #[] #[]] 94 :: box b15 [vI x2] 3 :: box b14 [vI x1] 3 :: box b13 [.slice o_x0 x0.length c_x0] 24 :: box b12 [vI y1, vI y2, vI y3] 92 :: box b1 [.slice o_x0 x0.length c_x0] 24 :: L)) (by kernel_rfl) s13 ?_
        refine p_qS 16 [.func (.func 50) #[] #[], vI p3.x, vI p3.lo, vI p3.hi, .func (.func 50) #[] #[], vI p4.x, vI p4.lo, vI p4.hi, .func (.func 50) #[] #[], vI p3.x, vI p3.lo, vI p3.hi, vI p4.x, vI p3.x] [(9, pB b18 0), (10, pB b20 0), (11, vI (if x1 > p3.x then x1 else p3.x)), (12, vI (if x2 < p4.x then x2 else p4.x)), (35, .func (.func 50) #[] #[]), (37, .agg #[vI p3.x, vI p3.lo, vI p3.hi]), (39, .func (.func 50) #[] #[]), (41, .agg #[vI p4.x, vI p4.lo, vI p4.hi]), (43, .func (.func 50) #[] #[]), (45, .agg #[vI p3.x, vI p3.lo, vI p3.hi]), (54, vI (w64 (p4.x - p3.x)))] [.cell ⟨b16, 0, none⟩ (.func (.func 50) #[] #[]), .cell ⟨b20, 0, none⟩ (vI p3.x), .cell ⟨b20, 1, none⟩ (vI p3.lo), .cell ⟨b20, 2, none⟩ (vI p3.hi), .cell ⟨b16, 0, none⟩ (.func (.func 50) #[] #[]), .cell ⟨b20, 3, none⟩ (vI p4.x), .cell ⟨b20, 4, none⟩ (vI p4.lo), .cell ⟨b20, 5, none⟩ (vI p4.hi), .cell ⟨b16, 0, none⟩ (.func (.func 50) #[] #[]), .cell ⟨b20, 0, none⟩ (vI p3.x), .cell ⟨b20, 1, none⟩ (vI p3.lo), .cell ⟨b20, 2, none⟩ (vI p3.hi), .cell ⟨b20, 3, none⟩ (vI p4.x), .cell ⟨b20, 0, none⟩ (vI p3.x)] [] s13 hf157 (by kernel_rfl) (fun _ s => (.cell (s.box (i := 6) rfl (j := 0) rfl) (.cell (s.box (i := 0) rfl (j := 0) rfl) (.cell (s.box (i := 0) rfl (j := 1) rfl) (.cell (s.box (i := 0) rfl (j := 2) rfl) (.cell (s.box (i := 6) rfl (j := 0) rfl) (.cell (s.box (i := 0) rfl (j := 3) rfl) (.cell (s.box (i := 0) rfl (j := 4) rfl) (.cell (s.box (i := 0) rfl (j := 5) rfl) (.cell (s.box (i := 6) rfl (j := 0) rfl) (.cell (s.box (i := 0) rfl (j := 0) rfl) (.cell (s.box (i := 0) rfl (j := 1) rfl) (.cell (s.box (i := 0) rfl (j := 2) rfl) (.cell (s.box (i := 0) rfl (j := 3) rfl) (.cell (s.box (i := 0) rfl (j := 0) rfl) .nil))))))))))))))) .nil fun a152 hf162 => ?_
        obtain ⟨r9, hd16, hr49⟩ := bind_some hr48
        refine p_call (i := 3) (d := some 38) (f := 50) (args := #[.agg #[vI p3.x, vI p3.lo, vI p3.hi]]) hf162 (by kernel_rfl) (f50_ok fuel p3.x p3.lo p3.hi r9 hd16 z4 _ _ hS95 ) ?_
        rintro v18 ww78 a153 ⟨rfl, hS96⟩ hf163
        refine ⟨fun _ => Sub.of (Zone.le_refl _) hS96, ?_⟩
        have s14 : Sub z4 (box b20 [vI p3.x, vI p3.lo, vI p3.hi, vI p4.x, vI p4.lo, vI p4.hi] 118 :: loopA l2 94 [(5, pB b14 0), (6, pB b15 0), (7, pB b16 0), (8, pB b17 0), (9, pB b18 0), (20, .func (.func 101) #[] #[pB b19 0])] ps2 RA2 RB2 D2 .busy none :: defA D2 :: box b19 [.slice o_x0 x0.length c_x0] 24 :: box b18 [vI 0, vI 0, vI 1] 92 :: box b17 [vI 0, vI 0, vI 0] 92 :: box b16 [.func (.func 50) #[] #[]] 94 :: box b15 [vI x2] 3 :: box b14 [vI x1] 3 :: box b13 [.slice o_x0 x0.length c_x0] 24 :: box b12 [vI y1, vI y2, vI y3] 92 :: box b1 [.slice o_x0 x0.length c_x0] 24 :: L) _ := Sub.of (Zone.le_refl _) hS96
        obtain ⟨r10, hd17, hr50⟩ := bind_some hr49
        refine p_call (i := 7) (d := some 42) (f := 50) (args := #[.agg #[vI p4.x, vI p4.lo, vI p4.hi]]) hf163 (by kernel_rfl) (f50_ok fuel p4.x p4.lo p4.hi r10 hd17 z4 _ _ hS96 ) ?_
        rintro v19 ww79 a154 ⟨rfl, hS97⟩ hf164
        refine ⟨fun _ => Sub.of (Zone.le_refl _) hS97, ?_⟩
        have s15 : Sub z4 (box b20 [vI p3.x, vI p3.lo, vI p3.hi, vI p4.x, vI p4.lo, vI p4.hi] 118 :: loopA l2 94 [(5, pB b14 0), (6, pB b15 0), (7, pB b16 0), (8, pB b17 0), (9, pB b18 0), (20, .func (.func 101) #[] #[pB b19 0])] ps2 RA2 RB2 D2 .busy none :: defA D2 :: box b19 [.slice o_x0 x0.length c_x0] 24 :: box b18 [vI 0, vI 0, vI 1] 92 :: box b17 [vI 0, vI 0, vI 0] 92 :: box b16 [.func (.func 50) #[] #[]] 94 :: box b15 [vI x2] 3 :: box b14 [vI x1] 3 :: box b13 [.slice o_x0 x0.length c_x0] 24 :: box b12 [vI y1, vI y2, vI y3] 92 :: box b1 [.slice o_x0 x0.length c_x0] 24 :: L) _ := Sub.of (Zone.le_refl _) hS97
        obtain ⟨r11, hd18, hr51⟩ := bind_some hr50
        refine p_call (i := 11) (d := some 46) (f := 50) (args := #[.agg #[vI p3.x, vI p3.lo, vI p3.hi]]) hf164 (by kernel_rfl) (f50_ok fuel p3.x p3.lo p3.hi r11 hd18 z4 _ _ hS97 ) ?_
        rintro v20 ww80 a155 ⟨rfl, hS98⟩ hf165
        refine ⟨fun _ => Sub.of (Zone.le_refl _) hS98, ?_⟩
        have s16 : Sub z4 (box b20 [vI p3.x, vI p3.lo, vI p3.hi, vI p4.x, vI p4.lo, vI p4.hi] 118 :: loopA l2 94 [(5, pB b14 0), (6, pB b15 0), (7, pB b16 0), (8, pB b17 0), (9, pB b18 0), (20, .func (.func 101) #[] #[pB b19 0])] ps2 RA2 RB2 D2 .busy none :: defA D2 :: box b19 [.slice o_x0 x0.length c_x0] 24 :: box b18 [vI 0, vI 0, vI 1] 92 :: box b17 [vI 0, vI 0, vI 0] 92 :: box b16 [.func (.func 50) #[] #[]] 94 :: box b15 [vI x2] 3 :: box b14 [vI x1] 3 :: box b13 [.slice o_x0 x0.length c_x0] 24 :: box b12 [vI y1, vI y2, vI y3] 92 :: box b1 [.slice o_x0 x0.length c_x0] 24 :: L) _ := Sub.of (Zone.le_refl _) hS98
        refine p_qS 4 [] [(9, pB b18 0), (10, pB b20 0), (11, vI (if x1 > p3.x then x1 else p3.x)), (12, vI (if x2 < p4.x then x2 else p4.x)), (13, vI r9), (14, vI (w64 (r10 - r11))), (15, vI (w64 (p4.x - p3.x)))] [] [] s16 hf165 (by kernel_rfl) (fun _ s => .nil) .nil fun a156 hf166 => ?_
        refine p_dt (by kernel_rfl) ?_
        refine w_sq [vI p3.x] [(9, pB b18 0), (11, vI (if x1 > p3.x then x1 else p3.x)), (12, vI (if x2 < p4.x then x2 else p4.x)), (13, vI r9), (14, vI (w64 (r10 - r11))), (15, vI (w64 (p4.x - p3.x))), (16, vI (w64 ((w64 ((if x2 < p4.x then x2 else p4.x) - (if x1 > p3.x then x1 else p3.x))) * (w64 ((w64 ((if x1 > p3.x then x1 else p3.x) + (if x2 < p4.x then x2 else p4.x))) - (w64 ((2 : Int) * p3.x)))))))] [.cell ⟨b20, 0, none⟩ (vI p3.x)] hf166 (by kernel_rfl) (.cell (hS98.box (i := 0) rfl (j := 0) rfl) .nil) fun a157 hf167 => ?_
        refine w_sr (by kernel_rfl) ?_
        refine p_qn 2 [] [(9, pB b18 0), (11, vI (if x1 > p3.x then x1 else p3.x)), (12, vI (if x2 < p4.x then x2 else p4.x)), (13, vI r9), (14, vI (w64 (r10 - r11))), (15, vI (w64 (p4.x - p3.x))), (16, vI (w64 ((w64 ((if x2 < p4.x then x2 else p4.x) - (if x1 > p3.x then x1 else p3.x))) * (w64 ((w64 ((if x1 > p3.x then x1 else p3.x) + (if x2 < p4.x then x2 else p4.x))) - (w64 ((2 : Int) * p3.x))))))), (67, vI (w64 (r10 - r11))), (68, vI (w64 (p4.x - p3.x)))] [] hf167 (by kernel_rfl) .nil fun a158 hf168 => ?_
        obtain ⟨r12, hd19, hr52⟩ := bind_some hr51
        refine p_call (i := 2) (d := some 69) (f := 51) (args := #[vI (w64 (r10 - r11)), vI (w64 (p4.x - p3.x))]) hf168 (by kernel_rfl) (f51_ok fuel (w64 (r10 - r11)) (w64 (p4.x - p3.x)) r12 hd19 z4 _ _ hS98 ) ?_
        rintro v21 ww81 a159 ⟨rfl, hS99⟩ hf169
        refine ⟨fun _ => trivial, ?_⟩
        refine p_qt [] [(9, pB b18 0), (11, vI (if x1 > p3.x then x1 else p3.x)), (12, vI (if x2 < p4.x then x2 else p4.x)), (13, vI r9), (14, vI (w64 (r10 - r11))), (15, vI (w64 (p4.x - p3.x))), (16, vI (w64 ((w64 ((if x2 < p4.x then x2 else p4.x) - (if x1 > p3.x then x1 else p3.x))) * (w64 ((w64 ((if x1 > p3.x then x1 else p3.x) + (if x2 < p4.x then x2 else p4.x))) - (w64 ((2 : Int) * p3.x))))))), (17, vI r12)] [] hf169 (by kernel_rfl) .nil fun a160 hf170 => ?_
        refine w_sr (by kernel_rfl) ?_
        refine p_qn 14 [vI 0] [(9, pB b18 0), (14, vI (w64 (r10 - r11))), (15, vI (w64 (p4.x - p3.x))), (16, vI (w64 ((w64 ((if x2 < p4.x then x2 else p4.x) - (if x1 > p3.x then x1 else p3.x))) * (w64 ((w64 ((if x1 > p3.x then x1 else p3.x) + (if x2 < p4.x then x2 else p4.x))) - (w64 ((2 : Int) * p3.x))))))), (17, vI r12), (82, vI (w64 ((0 : Int) + (w64 ((w64 ((w64 ((2 : Int) * r9)) * (w64 ((if x2 < p4.x then x2 else p4.x) - (if x1 > p3.x then x1 else p3.x))))) + (w64 (r12 * (w64 ((w64 ((if x2 < p4.x then x2 else p4.x) - (if x1 > p3.x then x1 else p3.x))) * (w64 ((w64 ((if x1 > p3.x then x1 else p3.x) + (if x2 < p4.x then x2 else p4.x))) - (w64 ((2 : Int) * p3.x))))))))))))), (83, pB b18 0)] [.cell ⟨b18, 0, none⟩ (vI 0)] hf170 (by kernel_rfl) (.cell (hS99.box (i := 4) rfl (j := 0) rfl) .nil) fun a161 hf171 => ?_
        refine p_store_eq (i := 14) (j := 4) (b := b18) (off := 0) (vs := [vI (w64 ((0 : Int) + (w64 ((w64 ((w64 ((2 : Int) * r9)) * (w64 ((if x2 < p4.x then x2 else p4.x) - (if x1 > p3.x then x1 else p3.x))))) + (w64 (r12 * (w64 ((w64 ((if x2 < p4.x then x2 else p4.x) - (if x1 > p3.x then x1 else p3.x))) * (w64 ((w64 ((if x1 > p3.x then x1 else p3.x) + (if x2 < p4.x then x2 else p4.x))) - (w64 ((2 : Int) * p3.x))))))))))))]) (cs' := [vI (w64 ((0 : Int) + (w64 ((w64 ((w64 ((2 : Int) * r9)) * (w64 ((if x2 < p4.x then x2 else p4.x) - (if x1 > p3.x then x1 else p3.x))))) + (w64 (r12 * (w64 ((w64 ((if x2 < p4.x then x2 else p4.x) - (if x1 > p3.x then x1 else p3.x))) * (w64 ((w64 ((if x1 > p3.x then x1 else p3.x) + (if x2 < p4.x then x2 else p4.x))) - (w64 ((2 : Int) * p3.x)))))))))))), vI 0, vI 1]) hS99 hf171 rfl (by kernel_rfl) (by kernel_rfl) rfl fun ww82 a162 hS100 hf172 => ⟨fun _ => trivial, ?_⟩
        refine p_dt (by kernel_rfl) ?_
        refine w_reg (by kernel_rfl) ?_
        refine p_qn 8 [] [(9, pB b18 0), (90, vI (w64 ((w64 ((w64 (r10 - r11)) - (w64 (r12 * (w64 (p4.x - p3.x)))))) * (w64 ((w64 ((if x2 < p4.x then x2 else p4.x) - (if x1 > p3.x then x1 else p3.x))) * (w64 ((w64 ((if x1 > p3.x then x1 else p3.x) + (if x2 < p4.x then x2 else p4.x))) - (w64 ((2 : Int) * p3.x))))))))), (91, vI (w64 (p4.x - p3.x)))] [] hf172 (by kernel_rfl) .nil fun a163 hf173 => ?_
        refine p_call (i := 8) (d := some 92) (f := 83) (args := #[pB b18 0, vI (w64 ((w64 ((w64 (r10 - r11)) - (w64 (r12 * (w64 (p4.x - p3.x)))))) * (w64 ((w64 ((if x2 < p4.x then x2 else p4.x) - (if x1 > p3.x then x1 else p3.x))) * (w64 ((w64 ((if x1 > p3.x then x1 else p3.x) + (if x2 < p4.x then x2 else p4.x))) - (w64 ((2 : Int) * p3.x)))))))), vI (w64 (p4.x - p3.x))]) hf173 (by kernel_rfl) (Φ := fun v w => ∃ z10 : Zone, ∃ y7 : Int, ∃ y8 : Int, ∃ y9 : Int, Zone.le z4 z10 ∧ v = .tuple #[] ∧ St z10 (box b20 [vI p3.x, vI p3.lo, vI p3.hi, vI p4.x, vI p4.lo, vI p4.hi] 118 :: loopA l2 94 [(5, pB b14 0), (6, pB b15 0), (7, pB b16 0), (8, pB b17 0), (9, pB b18 0), (20, .func (.func 101) #[] #[pB b19 0])] ps2 RA2 RB2 D2 .busy none :: defA D2 :: box b19 [.slice o_x0 x0.length c_x0] 24 :: box b18 [vI y7, vI y8, vI y9] 92 :: box b17 [vI 0, vI 0, vI 0] 92 :: box b16 [.func (.func 50) #[] #[]] 94 :: box b15 [vI x2] 3 :: box b14 [vI x1] 3 :: box b13 [.slice o_x0 x0.length c_x0] 24 :: box b12 [vI y1, vI y2, vI y3] 92 :: box b1 [.slice o_x0 x0.length c_x0] 24 :: L) w ∧ (F29_j7 fuel y1 y2 y3 y7 y8 y9) = some r) ?_ ?_
        ·refine calls_intro (N := 51) Tryz.func83 (by kernel_rfl) fun a164 hf174 => ?_
         refine w_seq (by kernel_rfl) ?_
         have hS101 := hS100.drew
         have s17 : Sub z4 (box b20 [vI p3.x, vI p3.lo, vI p3.hi, vI p4.x, vI p4.lo, vI p4.hi] 118 :: loopA l2 94 [(5, pB b14 0), (6, pB b15 0), (7, pB b16 0), (8, pB b17 0), (9, pB b18 0), (20, .func (.func 101) #[] #[pB b19 0])] ps2 RA2 RB2 D2 .busy none :: defA D2 :: box b19 [.slice o_x0 x0.length c_x0] 24 :: box b18 [vI (w64 ((0 : Int) + (w64 ((w64 ((w64 ((2 : Int) * r9)) * (w64 ((if x2 < p4.x then x2 else p4.x) - (if x1 > p3.x then x1 else p3.x))))) + (w64 (r12 * (w64 ((w64 ((if x2 < p4.x then x2 else p4.x) - (if x1 > p3.x then x1 else p3.x))) * (w64 ((w64 ((if x1 > p3.x then x1 else p3.x) + (if x2 < p4.x then x2 else p4.x))) - (w64 ((2 : Int) * p3.x)))))))))))), vI 0, vI 1] 92 :: box b17 [vI 0, vI 0, vI 0] 92 :: box b16 [.func (.func 50) #[] #[]] 94 :: box b15 [vI x2] 3 :: box b14 [vI x1] 3 :: box b13 [.slice o_x0 x0.length c_x0] 24 :: box b12 [vI y1, vI y2, vI y3] 92 :: box b1 [.slice o_x0 x0.length c_x0] 24 :: L) _ := Sub.of (Zone.le_refl _) hS101
         refine w_regD (by kernel_rfl) [(0, true), (1, true), (2, true), (3, true), (4, true), (5, true), (6, false), (7, true), (8, true), (9, true), (10, false)] [10] (Sub z4 (box b20 [vI p3.x, vI p3.lo, vI p3.hi, vI p4.x, vI p4.lo, vI p4.hi] 118 :: loopA l2 94 [(5, pB b14 0), (6, pB b15 0), (7, pB b16 0), (8, pB b17 0), (9, pB b18 0), (20, .func (.func 101) #[] #[pB b19 0])] ps2 RA2 RB2 D2 .busy none :: defA D2 :: box b19 [.slice o_x0 x0.length c_x0] 24 :: box b18 [vI (w64 ((0 : Int) + (w64 ((w64 ((w64 ((2 : Int) * r9)) * (w64 ((if x2 < p4.x then x2 else p4.x) - (if x1 > p3.x then x1 else p3.x))))) + (w64 (r12 * (w64 ((w64 ((if x2 < p4.x then x2 else p4.x) - (if x1 > p3.x then x1 else p3.x))) * (w64 ((w64 ((if x1 > p3.x then x1 else p3.x) + (if x2 < p4.x then x2 else p4.x))) - (w64 ((2 : Int) * p3.x)))))))))))), vI 0, vI 1] 92 :: box b17 [vI 0, vI 0, vI 0] 92 :: box b16 [.func (.func 50) #[] #[]] 94 :: box b15 [vI x2] 3 :: box b14 [vI x1] 3 :: box b13 [.slice o_x0 x0.length c_x0] 24 :: box b12 [vI y1, vI y2, vI y3] 92 :: box b1 [.slice o_x0 x0.length c_x0] 24 :: L)) (by kernel_rfl) s17 ?_
         refine p_qS 6 [vI (w64 ((0 : Int) + (w64 ((w64 ((w64 ((2 : Int) * r9)) * (w64 ((if x2 < p4.x then x2 else p4.x) - (if x1 > p3.x then x1 else p3.x))))) + (w64 (r12 * (w64 ((w64 ((if x2 < p4.x then x2 else p4.x) - (if x1 > p3.x then x1 else p3.x))) * (w64 ((w64 ((if x1 > p3.x then x1 else p3.x) + (if x2 < p4.x then x2 else p4.x))) - (w64 ((2 : Int) * p3.x))))))))))))] [(0, pB b18 0), (1, vI (w64 ((w64 ((w64 (r10 - r11)) - (w64 (r12 * (w64 (p4.x - p3.x)))))) * (w64 ((w64 ((if x2 < p4.x then x2 else p4.x) - (if x1 > p3.x then x1 else p3.x))) * (w64 ((w64 ((if x1 > p3.x then x1 else p3.x) + (if x2 < p4.x then x2 else p4.x))) - (w64 ((2 : Int) * p3.x))))))))), (2, vI (w64 (p4.x - p3.x))), (7, pB b18 0), (10, vI (w64 ((0 : Int) + (w64 ((w64 ((w64 ((2 : Int) * r9)) * (w64 ((if x2 < p4.x then x2 else p4.x) - (if x1 > p3.x then x1 else p3.x))))) + (w64 (r12 * (w64 ((w64 ((if x2 < p4.x then x2 else p4.x) - (if x1 > p3.x then x1 else p3.x))) * (w64 ((w64 ((if x1 > p3.x then x1 else p3.x) + (if x2 < p4.x then x2 else p4.x))) - (w64 ((2 : Int) * p3.x))))))))))))), (11, vI (w64 ((w64 ((w64 (r10 - r11)) - (w64 (r12 * (w64 (p4.x - p3.x)))))) * (w64 ((w64 ((if x2 < p4.x then x2 else p4.x) - (if x1 > p3.x then x1 else p3.x))) * (w64 ((w64 ((if x1 > p3.x then x1 else p3.x) + (if x2 < p4.x then x2 else p4.x))) - (w64 ((2 : Int) * p3.x))))))))), (12, vI (w64 (p4.x - p3.x)))] [.cell ⟨b18, 0, none⟩ (vI (w64 ((0 : Int) + (w64 ((w64 ((w64 ((2 : Int) * r9)) * (w64 ((if x2 < p4.x then x2 else p4.x) - (if x1 > p3.x then x1 else p3.x))))) + (w64 (r12 * (w64 ((w64 ((if x2 < p4.x then x2 else p4.x) - (if x1 > p3.x then x1 else p3.x))) * (w64 ((w64 ((if x1 > p3.x then x1 else p3.x) + (if x2 < p4.x then x2 else p4.x))) - (w64 ((2 : Int) * p3.x)))))))))))))] [] s17 hf174 (by kernel_rfl) (fun _ s => (.cell (s.box (i := 4) rfl (j := 0) rfl) .nil)) .nil fun a165 hf175 => ?_
         obtain ⟨r13, hd20, hr53⟩ := bind_some hr52
         refine p_call (i := 6) (d := some 13) (f := 51) (args := #[vI (w64 ((w64 ((w64 (r10 - r11)) - (w64 (r12 * (w64 (p4.x - p3.x)))))) * (w64 ((w64 ((if x2 < p4.x then x2 else p4.x) - (if x1 > p3.x then x1 else p3.x))) * (w64 ((w64 ((if x1 > p3.x then x1 else p3.x) + (if x2 < p4.x then x2 else p4.x))) - (w64 ((2 : Int) * p3.x)))))))), vI (w64 (p4.x - p3.x))]) hf175 (by kernel_rfl) (f51_ok fuel (w64 ((w64 ((w64 (r10 - r11)) - (w64 (r12 * (w64 (p4.x - p3.x)))))) * (w64 ((w64 ((if x2 < p4.x then x2 else p4.x) - (if x1 > p3.x then x1 else p3.x))) * (w64 ((w64 ((if x1 > p3.x then x1 else p3.x) + (if x2 < p4.x then x2 else p4.x))) - (w64 ((2 : Int) * p3.x)))))))) (w64 (p4.x - p3.x)) r13 hd20 z4 _ _ hS101 ) ?_
         rintro v22 ww83 a166 ⟨rfl, hS102⟩ hf176
         refine ⟨fun _ => Sub.of (Zone.le_refl _) hS102, ?_⟩
         have s18 : Sub z4 (box b20 [vI p3.x, vI p3.lo, vI p3.hi, vI p4.x, vI p4.lo, vI p4.hi] 118 :: loopA l2 94 [(5, pB b14 0), (6, pB b15 0), (7, pB b16 0), (8, pB b17 0), (9, pB b18 0), (20, .func (.func 101) #[] #[pB b19 0])] ps2 RA2 RB2 D2 .busy none :: defA D2 :: box b19 [.slice o_x0 x0.length c_x0] 24 :: box b18 [vI (w64 ((0 : Int) + (w64 ((w64 ((w64 ((2 : Int) * r9)) * (w64 ((if x2 < p4.x then x2 else p4.x) - (if x1 > p3.x then x1 else p3.x))))) + (w64 (r12 * (w64 ((w64 ((if x2 < p4.x then x2 else p4.x) - (if x1 > p3.x then x1 else p3.x))) * (w64 ((w64 ((if x1 > p3.x then x1 else p3.x) + (if x2 < p4.x then x2 else p4.x))) - (w64 ((2 : Int) * p3.x)))))))))))), vI 0, vI 1] 92 :: box b17 [vI 0, vI 0, vI 0] 92 :: box b16 [.func (.func 50) #[] #[]] 94 :: box b15 [vI x2] 3 :: box b14 [vI x1] 3 :: box b13 [.slice o_x0 x0.length c_x0] 24 :: box b12 [vI y1, vI y2, vI y3] 92 :: box b1 [.slice o_x0 x0.length c_x0] 24 :: L) _ := Sub.of (Zone.le_refl _) hS102
         refine p_qS 3 [] [(0, pB b18 0), (1, vI (w64 ((w64 ((w64 (r10 - r11)) - (w64 (r12 * (w64 (p4.x - p3.x)))))) * (w64 ((w64 ((if x2 < p4.x then x2 else p4.x) - (if x1 > p3.x then x1 else p3.x))) * (w64 ((w64 ((if x1 > p3.x then x1 else p3.x) + (if x2 < p4.x then x2 else p4.x))) - (w64 ((2 : Int) * p3.x))))))))), (2, vI (w64 (p4.x - p3.x))), (14, vI (w64 ((w64 ((0 : Int) + (w64 ((w64 ((w64 ((2 : Int) * r9)) * (w64 ((if x2 < p4.x then x2 else p4.x) - (if x1 > p3.x then x1 else p3.x))))) + (w64 (r12 * (w64 ((w64 ((if x2 < p4.x then x2 else p4.x) - (if x1 > p3.x then x1 else p3.x))) * (w64 ((w64 ((if x1 > p3.x then x1 else p3.x) + (if x2 < p4.x then x2 else p4.x))) - (w64 ((2 : Int) * p3.x)))))))))))) + r13))), (16, pB b18 0)] [] [] s18 hf176 (by kernel_rfl) (fun _ s => .nil) .nil fun a167 hf177 => ?_
         refine p_store_eq (i := 10) (j := 4) (b := b18) (off := 0) (vs := [vI (w64 ((w64 ((0 : Int) + (w64 ((w64 ((w64 ((2 : Int) * r9)) * (w64 ((if x2 < p4.x then x2 else p4.x) - (if x1 > p3.x then x1 else p3.x))))) + (w64 (r12 * (w64 ((w64 ((if x2 < p4.x then x2 else p4.x) - (if x1 > p3.x then x1 else p3.x))) * (w64 ((w64 ((if x1 > p3.x then x1 else p3.x) + (if x2 < p4.x then x2 else p4.x))) - (w64 ((2 : Int) * p3.x)))))))))))) + r13))]) (cs' := [vI (w64 ((w64 ((0 : Int) + (w64 ((w64 ((w64 ((2 : Int) * r9)) * (w64 ((if x2 < p4.x then x2 else p4.x) - (if x1 > p3.x then x1 else p3.x))))) + (w64 (r12 * (w64 ((w64 ((if x2 < p4.x then x2 else p4.x) - (if x1 > p3.x then x1 else p3.x))) * (w64 ((w64 ((if x1 > p3.x then x1 else p3.x) + (if x2 < p4.x then x2 else p4.x))) - (w64 ((2 : Int) * p3.x)))))))))))) + r13)), vI 0, vI 1]) hS102 hf177 rfl (by kernel_rfl) (by kernel_rfl) rfl fun ww84 a168 hS103 hf178 => ⟨fun e => absurd e (by decide), ?_⟩
         refine p_dt (by kernel_rfl) ?_
         refine w_sr (by kernel_rfl) ?_
         refine p_qn 3 [] [(0, pB b18 0), (2, vI (w64 (p4.x - p3.x))), (17, vI (w64 ((w64 ((w64 (r10 - r11)) - (w64 (r12 * (w64 (p4.x - p3.x)))))) * (w64 ((w64 ((if x2 < p4.x then x2 else p4.x) - (if x1 > p3.x then x1 else p3.x))) * (w64 ((w64 ((if x1 > p3.x then x1 else p3.x) + (if x2 < p4.x then x2 else p4.x))) - (w64 ((2 : Int) * p3.x))))))))), (18, vI (w64 ((w64 ((w64 (r10 - r11)) - (w64 (r12 * (w64 (p4.x - p3.x)))))) * (w64 ((w64 ((if x2 < p4.x then x2 else p4.x) - (if x1 > p3.x then x1 else p3.x))) * (w64 ((w64 ((if x1 > p3.x then x1 else p3.x) + (if x2 < p4.x then x2 else p4.x))) - (w64 ((2 : Int) * p3.x))))))))), (19, vI (w64 (p4.x - p3.x)))] [] hf178 (by kernel_rfl) .nil fun a169 hf179 => ?_
         obtain ⟨r14, hd21, hr54⟩ := bind_some hr53
         refine p_call (i := 3) (d := some 20) (f := 51) (args := #[vI (w64 ((w64 ((w64 (r10 - r11)) - (w64 (r12 * (w64 (p4.x - p3.x)))))) * (w64 ((w64 ((if x2 < p4.x then x2 else p4.x) - (if x1 > p3.x then x1 else p3.x))) * (w64 ((w64 ((if x1 > p3.x then x1 else p3.x) + (if x2 < p4.x then x2 else p4.x))) - (w64 ((2 : Int) * p3.x)))))))), vI (w64 (p4.x - p3.x))]) hf179 (by kernel_rfl) (f51_ok fuel (w64 ((w64 ((w64 (r10 - r11)) - (w64 (r12 * (w64 (p4.x - p3.x)))))) * (w64 ((w64 ((if x2 < p4.x then x2 else p4.x) - (if x1 > p3.x then x1 else p3.x))) * (w64 ((w64 ((if x1 > p3.x then x1 else p3.x) + (if x2 < p4.x then x2 else p4.x))) - (w64 ((2 : Int) * p3.x)))))))) (w64 (p4.x - p3.x)) r14 hd21 z4 _ _ hS103 ) ?_
         rintro v23 ww85 a170 ⟨rfl, hS104⟩ hf180
         refine ⟨fun _ => trivial, ?_⟩
         refine p_qt [] [(0, pB b18 0), (2, vI (w64 (p4.x - p3.x))), (6, vI (w64 ((w64 ((w64 ((w64 (r10 - r11)) - (w64 (r12 * (w64 (p4.x - p3.x)))))) * (w64 ((w64 ((if x2 < p4.x then x2 else p4.x) - (if x1 > p3.x then x1 else p3.x))) * (w64 ((w64 ((if x1 > p3.x then x1 else p3.x) + (if x2 < p4.x then x2 else p4.x))) - (w64 ((2 : Int) * p3.x)))))))) - (w64 (r14 * (w64 (p4.x - p3.x)))))))] [] hf180 (by kernel_rfl) .nil fun a171 hf181 => ?_
         refine w_sq [] [(0, pB b18 0), (2, vI (w64 (p4.x - p3.x))), (6, vI (w64 ((w64 ((w64 ((w64 (r10 - r11)) - (w64 (r12 * (w64 (p4.x - p3.x)))))) * (w64 ((w64 ((if x2 < p4.x then x2 else p4.x) - (if x1 > p3.x then x1 else p3.x))) * (w64 ((w64 ((if x1 > p3.x then x1 else p3.x) + (if x2 < p4.x then x2 else p4.x))) - (w64 ((2 : Int) * p3.x)))))))) - (w64 (r14 * (w64 (p4.x - p3.x))))))), (25, .bool (decide ((w64 ((w64 ((w64 ((w64 (r10 - r11)) - (w64 (r12 * (w64 (p4.x - p3.x)))))) * (w64 ((w64 ((if x2 < p4.x then x2 else p4.x) - (if x1 > p3.x then x1 else p3.x))) * (w64 ((w64 ((if x1 > p3.x then x1 else p3.x) + (if x2 < p4.x then x2 else p4.x))) - (w64 ((2 : Int) * p3.x)))))))) - (w64 (r14 * (w64 (p4.x - p3.x)))))) > (0 : Int))))] [] hf181 (by kernel_rfl) .nil fun a172 hf182 => ?_
         refine w_if hf182 (b := (decide ((w64 ((w64 ((w64 ((w64 (r10 - r11)) - (w64 (r12 * (w64 (p4.x - p3.x)))))) * (w64 ((w64 ((if x2 < p4.x then x2 else p4.x) - (if x1 > p3.x then x1 else p3.x))) * (w64 ((w64 ((if x1 > p3.x then x1 else p3.x) + (if x2 < p4.x then x2 else p4.x))) - (w64 ((2 : Int) * p3.x)))))))) - (w64 (r14 * (w64 (p4.x - p3.x)))))) > (0 : Int)))) (by kernel_rfl) (fun hb19 => ?_) (fun hb19 => ?_)
         ·have hr55 := cond_t hb19 hr54
          have hS105 := hS104.drew
          refine w_regD (by kernel_rfl) [(0, true), (1, true), (2, true), (3, true), (4, true), (5, true), (6, true), (7, true), (8, true), (9, true), (10, true), (11, true), (12, true), (13, true), (14, true), (15, true), (16, true), (17, true), (18, true), (19, true), (20, true), (21, true), (22, true), (23, false), (24, true), (25, true), (26, false)] [23, 26] (fun x => x = ww85.drew) (by kernel_rfl) rfl ?_
          refine p_qE 23 [vI 0, vI 1, vI 1] [(27, pB b18 0), (40, vI (w64 ((w64 ((0 : Int) * (w64 (p4.x - p3.x)))) + (w64 ((w64 ((w64 ((w64 ((w64 (r10 - r11)) - (w64 (r12 * (w64 (p4.x - p3.x)))))) * (w64 ((w64 ((if x2 < p4.x then x2 else p4.x) - (if x1 > p3.x then x1 else p3.x))) * (w64 ((w64 ((if x1 > p3.x then x1 else p3.x) + (if x2 < p4.x then x2 else p4.x))) - (w64 ((2 : Int) * p3.x)))))))) - (w64 (r14 * (w64 (p4.x - p3.x)))))) * (1 : Int)))))), (46, vI (w64 ((1 : Int) * (w64 (p4.x - p3.x))))), (48, pB b18 1)] [.cell ⟨b18, 1, none⟩ (vI 0), .cell ⟨b18, 2, none⟩ (vI 1), .cell ⟨b18, 2, none⟩ (vI 1)] [] hf182 (by kernel_rfl) (.cell (hS105.box (i := 4) rfl (j := 1) rfl) (.cell (hS105.box (i := 4) rfl (j := 2) rfl) (.cell (hS105.box (i := 4) rfl (j := 2) rfl) .nil))) .nil fun a173 hf183 => ?_
          refine p_store_eq (i := 23) (j := 4) (b := b18) (off := 1) (vs := [vI (w64 ((w64 ((0 : Int) * (w64 (p4.x - p3.x)))) + (w64 ((w64 ((w64 ((w64 ((w64 (r10 - r11)) - (w64 (r12 * (w64 (p4.x - p3.x)))))) * (w64 ((w64 ((if x2 < p4.x then x2 else p4.x) - (if x1 > p3.x then x1 else p3.x))) * (w64 ((w64 ((if x1 > p3.x then x1 else p3.x) + (if x2 < p4.x then x2 else p4.x))) - (w64 ((2 : Int) * p3.x)))))))) - (w64 (r14 * (w64 (p4.x - p3.x)))))) * (1 : Int)))))]) (cs' := [vI (w64 ((w64 ((0 : Int) + (w64 ((w64 ((w64 ((2 : Int) * r9)) * (w64 ((if x2 < p4.x then x2 else p4.x) - (if x1 > p3.x then x1 else p3.x))))) + (w64 (r12 * (w64 ((w64 ((if x2 < p4.x then x2 else p4.x) - (if x1 > p3.x then x1 else p3.x))) * (w64 ((w64 ((if x1 > p3.x then x1 else p3.x) + (if x2 < p4.x then x2 else p4.x))) - (w64 ((2 : Int) * p3.x)))))))))))) + r13)), vI (w64 ((w64 ((0 : Int) * (w64 (p4.x - p3.x)))) + (w64 ((w64 ((w64 ((w64 ((w64 (r10 - r11)) - (w64 (r12 * (w64 (p4.x - p3.x)))))) * (w64 ((w64 ((if x2 < p4.x then x2 else p4.x) - (if x1 > p3.x then x1 else p3.x))) * (w64 ((w64 ((if x1 > p3.x then x1 else p3.x) + (if x2 < p4.x then x2 else p4.x))) - (w64 ((2 : Int) * p3.x)))))))) - (w64 (r14 * (w64 (p4.x - p3.x)))))) * (1 : Int))))), vI 1]) hS105 hf183 rfl (by kernel_rfl) (by kernel_rfl) rfl fun ww86 a174 hS106 hf184 => ⟨fun e => absurd e (by decide), ?_⟩
          refine p_qP 2 [] [(46, vI (w64 ((1 : Int) * (w64 (p4.x - p3.x))))), (50, pB b18 2)] [] hf184 (by kernel_rfl) (fun _ => .nil) fun a175 hf185 => ?_
          refine p_store_eq (i := 26) (j := 4) (b := b18) (off := 2) (vs := [vI (w64 ((1 : Int) * (w64 (p4.x - p3.x))))]) (cs' := [vI (w64 ((w64 ((0 : Int) + (w64 ((w64 ((w64 ((2 : Int) * r9)) * (w64 ((if x2 < p4.x then x2 else p4.x) - (if x1 > p3.x then x1 else p3.x))))) + (w64 (r12 * (w64 ((w64 ((if x2 < p4.x then x2 else p4.x) - (if x1 > p3.x then x1 else p3.x))) * (w64 ((w64 ((if x1 > p3.x then x1 else p3.x) + (if x2 < p4.x then x2 else p4.x))) - (w64 ((2 : Int) * p3.x)))))))))))) + r13)), vI (w64 ((w64 ((0 : Int) * (w64 (p4.x - p3.x)))) + (w64 ((w64 ((w64 ((w64 ((w64 (r10 - r11)) - (w64 (r12 * (w64 (p4.x - p3.x)))))) * (w64 ((w64 ((if x2 < p4.x then x2 else p4.x) - (if x1 > p3.x then x1 else p3.x))) * (w64 ((w64 ((if x1 > p3.x then x1 else p3.x) + (if x2 < p4.x then x2 else p4.x))) - (w64 ((2 : Int) * p3.x)))))))) - (w64 (r14 * (w64 (p4.x - p3.x)))))) * (1 : Int))))), vI (w64 ((1 : Int) * (w64 (p4.x - p3.x))))]) hS106 hf185 rfl (by kernel_rfl) (by kernel_rfl) rfl fun ww87 a176 hS107 hf186 => ⟨fun e => absurd e (by decide), ?_⟩
          refine p_done (by kernel_rfl) ?_
          refine p_fall (os := []) (v := .tuple #[]) (obs := []) hf186 (by kernel_rfl) .nil ?_
          exact ⟨_, rfl, z4, (w64 ((w64 ((0 : Int) + (w64 ((w64 ((w64 ((2 : Int) * r9)) * (w64 ((if x2 < p4.x then x2 else p4.x) - (if x1 > p3.x then x1 else p3.x))))) + (w64 (r12 * (w64 ((w64 ((if x2 < p4.x then x2 else p4.x) - (if x1 > p3.x then x1 else p3.x))) * (w64 ((w64 ((if x1 > p3.x then x1 else p3.x) + (if x2 < p4.x then x2 else p4.x))) - (w64 ((2 : Int) * p3.x)))))))))))) + r13)), (w64 ((w64 ((0 : Int) * (w64 (p4.x - p3.x)))) + (w64 ((w64 ((w64 ((w64 ((w64 (r10 - r11)) - (w64 (r12 * (w64 (p4.x - p3.x)))))) * (w64 ((w64 ((if x2 < p4.x then x2 else p4.x) - (if x1 > p3.x then x1 else p3.x))) * (w64 ((w64 ((if x1 > p3.x then x1 else p3.x) + (if x2 < p4.x then x2 else p4.x))) - (w64 ((2 : Int) * p3.x)))))))) - (w64 (r14 * (w64 (p4.x - p3.x)))))) * (1 : Int))))), (w64 ((1 : Int) * (w64 (p4.x - p3.x)))), (Zone.le_refl _), rfl, hS107, hr55⟩
         ·have hr56 := cond_f hb19 hr54
          refine w_skip (by kernel_rfl) ?_
          refine p_fall (os := []) (v := .tuple #[]) (obs := []) hf182 (by kernel_rfl) .nil ?_
          exact ⟨_, rfl, z4, (w64 ((w64 ((0 : Int) + (w64 ((w64 ((w64 ((2 : Int) * r9)) * (w64 ((if x2 < p4.x then x2 else p4.x) - (if x1 > p3.x then x1 else p3.x))))) + (w64 (r12 * (w64 ((w64 ((if x2 < p4.x then x2 else p4.x) - (if x1 > p3.x then x1 else p3.x))) * (w64 ((w64 ((if x1 > p3.x then x1 else p3.x) + (if x2 < p4.x then x2 else p4.x))) - (w64 ((2 : Int) * p3.x)))))))))))) + r13)), 0, 1, (Zone.le_refl _), rfl, hS104, hr56⟩
        ·rintro v24 ww88 a177 ⟨z10, y7, y8, y9, k11, rfl, hS108, hr57⟩ hf187
         refine ⟨fun _ => trivial, ?_⟩
         refine p_done (by kernel_rfl) ?_
         refine n_block ?_
         refine p_roundN hS108 (j := 1) rfl fun ww89 a178 hS109 hf188 => ?_
         have hS110 := St.drop 1 hS109
         refine p_dt (by kernel_rfl) ?_
         refine w_ret (by kernel_rfl) ?_
         refine r_then ?_
         refine p_ret (os := []) (v := .tuple #[]) (obs := []) hf188 (by kernel_rfl) .nil ?_
         refine ⟨_, rfl, fun a179 hf189 => ?_⟩
         refine p_jump0 hS110 (j := 0) rfl (fun h => by cases h) fun ww90 hS111 => ?_
         refine n_block ?_
         refine n_then ?_
         refine w_sr (by kernel_rfl) ?_
         refine p_qn 1 [vI y7, vI y8, vI y9] [(8, pB b17 0), (93, .agg #[vI y7, vI y8, vI y9])] [.cell ⟨b18, 0, none⟩ (vI y7), .cell ⟨b18, 1, none⟩ (vI y8), .cell ⟨b18, 2, none⟩ (vI y9)] hf189 (by kernel_rfl) (.cell (hS111.box (i := 3) rfl (j := 0) rfl) (.cell (hS111.box (i := 3) rfl (j := 1) rfl) (.cell (hS111.box (i := 3) rfl (j := 2) rfl) .nil))) fun a180 hf190 => ?_
         refine p_store_eq (i := 1) (j := 4) (b := b17) (off := 0) (vs := [vI y7, vI y8, vI y9]) (cs' := [vI y7, vI y8, vI y9]) hS111 hf190 rfl (by kernel_rfl) (by kernel_rfl) rfl fun ww91 a181 hS112 hf191 => ⟨fun _ => trivial, ?_⟩
         refine p_dt (by kernel_rfl) ?_
         refine w_ret (by kernel_rfl) ?_
         refine p_retM hf191 ?_
         refine p_mark hS112 (j := 1) rfl fun ww92 hS113 => ?_
         refine p_end (os := [vI y7, vI y8, vI y9]) (v := .agg #[vI y7, vI y8, vI y9]) (obs := [.cell ⟨b17, 0, none⟩ (vI y7), .cell ⟨b17, 1, none⟩ (vI y8), .cell ⟨b17, 2, none⟩ (vI y9)]) hf191 (by kernel_rfl) (.cell (hS113.box (i := 4) rfl (j := 0) rfl) (.cell (hS113.box (i := 4) rfl (j := 1) rfl) (.cell (hS113.box (i := 4) rfl (j := 2) rfl) .nil))) ?_
         exact ⟨_, rfl, z10, y7, y8, y9, k11, rfl, (St.drop 9 hS113), hr57⟩
      ·have hr58 := cond_f hb15 hr43
       refine w_skip (by kernel_rfl) ?_
       refine n_then ?_
       obtain ⟨d1, hd22, hr59⟩ := bind_some hr58
       obtain ⟨e2, q2, hv2, hb20, hx2⟩ := SliceR.subV (SliceR.mono (Zone.le_trans (Zone.le_trans k3 k5) k10) hx_x0) hd22
       refine w_sq [.slice o_x0 x0.length c_x0, .slice e2 d1.length q2] [(0, .func (.yield l2) #[] #[]), (1, pB b19 0), (22, .slice e2 d1.length q2), (23, vI (d1.length : Int)), (24, vI 0)] [.cell ⟨b19, 0, none⟩ (.slice o_x0 x0.length c_x0), .prop ((.slice e2 d1.length q2 : Value) = .slice (subO o_x0 c_x0 (Int.toNat 1) 3) (Int.toNat (x0.length : Int) - Int.toNat 1) (c_x0 - Int.toNat 1)), .prop ((0 : Int) ≤ 1 ∧ (1 : Int) ≤ (x0.length : Int) ∧ (x0.length : Int) ≤ (c_x0 : Nat) ∧ x0.length ≤ c_x0)] hf151 (by kernel_rfl) (.cell (hS84.box (i := 2) rfl (j := 0) rfl) (.prop hv2 (.prop hb20 .nil))) fun a182 hf192 => ?_
       refine w_block (id := 0) (by kernel_rfl) ?_
       have hf193 := Fr.keep (ks := [0, 1, 22, 23, 24]) (r := [(0, .func (.yield l2) #[] #[]), (1, pB b19 0), (22, .slice e2 d1.length q2), (23, vI (d1.length : Int)), (24, vI 0)]) hf192 (by kernel_rfl)
       refine w_loop (by kernel_rfl) (fun n a w => ∃ z11 : Zone, ∃ y17 : Int, ∃ y18 : Int, ∃ y19 : Int, ∃ y10 : Int, Zone.le z4 z11 ∧ Fr a 40 [(0, .func (.yield l2) #[] #[]), (1, pB b19 0), (22, .slice e2 d1.length q2), (23, vI (d1.length : Int)), (24, vI y10)] ∧ St z11 (loopA l2 94 [(5, pB b14 0), (6, pB b15 0), (7, pB b16 0), (8, pB b17 0), (9, pB b18 0), (20, .func (.func 101) #[] #[pB b19 0])] ps2 RA2 RB2 D2 .ready none :: defA D2 :: box b19 [.slice o_x0 x0.length c_x0] 24 :: box b18 [vI y17, vI y18, vI y19] 92 :: box b17 [vI 0, vI 0, vI 0] 92 :: box b16 [.func (.func 50) #[] #[]] 94 :: box b15 [vI x2] 3 :: box b14 [vI x1] 3 :: box b13 [.slice o_x0 x0.length c_x0] 24 :: box b12 [vI y1, vI y2, vI y3] 92 :: box b1 [.slice o_x0 x0.length c_x0] 24 :: L) w ∧ (F29_l2 fuel x0 x1 x2 y1 y2 y3 d1 n y17 y18 y19 y10) = some r) fuel ⟨z4, 0, 0, 1, 0, (Zone.le_refl _), hf193, hS84, hr59⟩ ?_
       rintro n4 a183 ww93 ⟨z11, y17, y18, y19, y10, k12, hf194, hS114, hr60⟩
       cases n4 with
       | zero => cases hr60
       | succ n1 =>
       refine w_sq [] [(0, .func (.yield l2) #[] #[]), (1, pB b19 0), (22, .slice e2 d1.length q2), (23, vI (d1.length : Int)), (24, vI y10), (25, .bool (decide (y10 < (d1.length : Int))))] [] hf194 (by kernel_rfl) .nil fun a184 hf195 => ?_
       refine w_seq (by kernel_rfl) ?_
       refine w_if hf195 (b := (decide (y10 < (d1.length : Int)))) (by kernel_rfl) (fun hb21 => ?_) (fun hb21 => ?_)
       ·have hr61 := cond_t hb21 hr60
        refine w_skip (by kernel_rfl) ?_
        refine n_then ?_
        refine w_mid (by kernel_rfl) (fun a w => ∃ z12 : Zone, ∃ y11 : Int, ∃ y12 : Int, ∃ y13 : Int, Zone.le z11 z12 ∧ Fr a 40 [(0, .func (.yield l2) #[] #[]), (1, pB b19 0), (22, .slice e2 d1.length q2), (23, vI (d1.length : Int)), (24, vI y10)] ∧ St z12 (loopA l2 94 [(5, pB b14 0), (6, pB b15 0), (7, pB b16 0), (8, pB b17 0), (9, pB b18 0), (20, .func (.func 101) #[] #[pB b19 0])] ps2 RA2 RB2 D2 .ready none :: defA D2 :: box b19 [.slice o_x0 x0.length c_x0] 24 :: box b18 [vI y11, vI y12, vI y13] 92 :: box b17 [vI 0, vI 0, vI 0] 92 :: box b16 [.func (.func 50) #[] #[]] 94 :: box b15 [vI x2] 3 :: box b14 [vI x1] 3 :: box b13 [.slice o_x0 x0.length c_x0] 24 :: box b12 [vI y1, vI y2, vI y3] 92 :: box b1 [.slice o_x0 x0.length c_x0] 24 :: L) w ∧ (F29_j8 (F29_l2 fuel x0 x1 x2 y1 y2 y3 d1 n1) y10 y11 y12 y13) = some r) ?_ ?_
        ·skip
         refine w_block (id := 1) (by kernel_rfl) ?_
         refine w_sr (by kernel_rfl) ?_
         obtain ⟨p1, hp12644, hr62⟩ := bind_some hr61
         obtain ⟨ad7, ho7, hb22, cc7, hc7, hk7⟩ := SliceR.getI (SliceR.mono k12 hx2) hp12644
         subst hc7
         refine p_qn 3 [.pointer (some ad7), vI p1.x, vI p1.lo, vI p1.hi] [(0, .func (.yield l2) #[] #[]), (1, pB b19 0), (22, .slice e2 d1.length q2), (23, vI (d1.length : Int)), (24, vI y10), (26, vI y10), (28, .agg #[vI p1.x, vI p1.lo, vI p1.hi])] [.prop (e2 = some ad7), .prop (0 ≤ y10 ∧ y10 < (d1.length : Nat)), .cell ((ad7.add (Int.toNat y10 * 3)).add 0) (vI p1.x), .cell ((ad7.add (Int.toNat y10 * 3)).add 1) (vI p1.lo), .cell ((ad7.add (Int.toNat y10 * 3)).add 2) (vI p1.hi)] hf195 (by kernel_rfl) (.prop ho7 (.prop hb22 (.cell (hS114.cell (hk7 0 _ rfl)) (.cell (hS114.cell (hk7 1 _ rfl)) (.cell (hS114.cell (hk7 2 _ rfl)) .nil))))) fun a185 hf196 => ?_
         refine p_box (i := 3) (d := (some 4)) (cs := [vI 0, vI 0, vI 0]) (T := 39) (v := fun b21 => pB b21 0) hS114 hf196 (fun b => by kernel_rfl) fun b21 ww94 a186 hS115 hf197 => ⟨fun _ => trivial, ?_⟩
         refine p_qn 1 [] [(0, .func (.yield l2) #[] #[]), (1, pB b19 0), (3, vI y10), (4, pB b21 0), (22, .slice e2 d1.length q2), (23, vI (d1.length : Int)), (24, vI y10), (28, .agg #[vI p1.x, vI p1.lo, vI p1.hi])] [] hf197 (by kernel_rfl) .nil fun a187 hf198 => ?_
         refine p_store_eq (i := 5) (j := 0) (b := b21) (off := 0) (vs := [vI p1.x, vI p1.lo, vI p1.hi]) (cs' := [vI p1.x, vI p1.lo, vI p1.hi]) hS115 hf198 rfl (by kernel_rfl) (by kernel_rfl) rfl fun ww95 a188 hS116 hf199 => ⟨fun _ => trivial, ?_⟩
         refine p_dt (by kernel_rfl) ?_
         refine w_seq (by kernel_rfl) ?_
         refine w_regDY (by kernel_rfl) 8 [(0, true), (1, true), (2, true), (3, true), (4, true), (5, true), (6, true), (7, true)] [(9, false)] (by kernel_rfl) ?_
         have hS117 := hS116.drew
         obtain ⟨p2, hp12667, hr63⟩ := bind_some hr62
         obtain ⟨ad8, ho8, hb23, cc8, hc8, hk8⟩ := SliceR.getI (SliceR.mono (Zone.le_trans (Zone.le_trans (Zone.le_trans k3 k5) k10) k12) hx_x0) hp12667
         subst hc8
         refine p_qzE [.slice o_x0 x0.length c_x0, .pointer (some ad8), vI p2.x, vI p2.lo, vI p2.hi, vI p1.x, vI p1.lo, vI p1.hi] [(0, .func (.yield l2) #[] #[]), (1, pB b19 0), (22, .slice e2 d1.length q2), (23, vI (d1.length : Int)), (24, vI y10), (29, .func (.yield l2) #[] #[]), (36, .agg #[vI p2.x, vI p2.lo, vI p2.hi, vI p1.x, vI p1.lo, vI p1.hi])] [.cell ⟨b19, 0, none⟩ (.slice o_x0 x0.length c_x0), .prop (o_x0 = some ad8), .prop (0 ≤ y10 ∧ y10 < (x0.length : Nat)), .cell ((ad8.add (Int.toNat y10 * 3)).add 0) (vI p2.x), .cell ((ad8.add (Int.toNat y10 * 3)).add 1) (vI p2.lo), .cell ((ad8.add (Int.toNat y10 * 3)).add 2) (vI p2.hi), .cell ⟨b21, 0, none⟩ (vI p1.x), .cell ⟨b21, 1, none⟩ (vI p1.lo), .cell ⟨b21, 2, none⟩ (vI p1.hi)] [] hf199 (by kernel_rfl) (.cell (hS117.box (i := 3) rfl (j := 0) rfl) (.prop ho8 (.prop hb23 (.cell (hS117.cell (hk8 0 _ rfl)) (.cell (hS117.cell (hk8 1 _ rfl)) (.cell (hS117.cell (hk8 2 _ rfl)) (.cell (hS117.box (i := 0) rfl (j := 0) rfl) (.cell (hS117.box (i := 0) rfl (j := 1) rfl) (.cell (hS117.box (i := 0) rfl (j := 2) rfl) .nil))))))))) .nil fun a189 hf200 => ?_
         refine p_yield (d := some 37) (l := l2) (args := #[.agg #[vI p2.x, vI p2.lo, vI p2.hi, vI p1.x, vI p1.lo, vI p1.hi]]) hf200 (by kernel_rfl) hS117 (j := 1) rfl (by rw [hps2]; kernel_rfl) fun a190 hf201 => ?_
         rw [hps2] at hf201
         refine cw_eq hA2 ?_
         refine w_reg (by kernel_rfl) ?_
         refine p_box (i := 0) (d := (some 10)) (cs := [vI 0, vI 0, vI 0, vI 0, vI 0, vI 0]) (T := 118) (v := fun b22 => pB b22 0) hS117 hf201 (fun b => by kernel_rfl) fun b22 ww96 a191 hS118 hf202 => ⟨fun _ => trivial, ?_⟩
         refine p_store_eq (i := 1) (j := 0) (b := b22) (off := 0) (vs := [vI p2.x, vI p2.lo, vI p2.hi, vI p1.x, vI p1.lo, vI p1.hi]) (cs' := [vI p2.x, vI p2.lo, vI p2.hi, vI p1.x, vI p1.lo, vI p1.hi]) hS118 hf202 rfl (by kernel_rfl) (by kernel_rfl) rfl fun ww97 a192 hS119 hf203 => ⟨fun _ => trivial, ?_⟩
         refine p_dt (by kernel_rfl) ?_
         refine p_begin hS119 (j := 2) rfl fun ww98 hS120 => ?_
         refine cw_eq hB2 ?_
         refine w_block (id := 1) (by kernel_rfl) ?_
         have hS121 := hS120.drew
         refine w_sqD [(0, true), (1, true), (2, true), (3, true), (4, true), (5, true), (6, true), (7, true), (8, true), (9, true), (10, true), (11, true)] [] [vI p2.x, vI x1, vI p1.x, vI x2] [(7, pB b16 0), (9, pB b18 0), (10, pB b22 0), (11, vI (if x1 > p2.x then x1 else p2.x)), (12, vI (if x2 < p1.x then x2 else p1.x))] [.cell ⟨b22, 0, none⟩ (vI p2.x), .cell ⟨b14, 0, none⟩ (vI x1), .cell ⟨b22, 3, none⟩ (vI p1.x), .cell ⟨b15, 0, none⟩ (vI x2)] [] hf203 (by kernel_rfl) (.cell (hS121.box (i := 0) rfl (j := 0) rfl) (.cell (hS121.box (i := 9) rfl (j := 0) rfl) (.cell (hS121.box (i := 0) rfl (j := 3) rfl) (.cell (hS121.box (i := 8) rfl (j := 0) rfl) .nil)))) .nil fun a193 hf204 => ?_
         refine w_seq (by kernel_rfl) ?_
         refine w_sq [] [(7, pB b16 0), (9, pB b18 0), (10, pB b22 0), (11, vI (if x1 > p2.x then x1 else p2.x)), (12, vI (if x2 < p1.x then x2 else p1.x)), (34, .bool (decide ((if x1 > p2.x then x1 else p2.x) ≥ (if x2 < p1.x then x2 else p1.x))))] [] hf204 (by kernel_rfl) .nil fun a194 hf205 => ?_
         refine w_if hf205 (b := (decide ((if x1 > p2.x then x1 else p2.x) ≥ (if x2 < p1.x then x2 else p1.x)))) (by kernel_rfl) (fun hb24 => ?_) (fun hb24 => ?_)
         ·have hr64 := cond_t hb24 hr63
          refine w_exit (id := 1) (by kernel_rfl) ?_
          refine x_then ?_
          refine x_block ?_
          refine p_roundN hS121 (j := 2) rfl fun ww99 a195 hS122 hf206 => ?_
          have hS123 := St.drop 1 hS122
          refine p_qt [] [(0, .func (.yield l2) #[] #[]), (1, pB b19 0), (22, .slice e2 d1.length q2), (23, vI (d1.length : Int)), (24, vI y10), (38, .bool false)] [] hf206 (by kernel_rfl) .nil fun a196 hf207 => ?_
          refine w_if_false hf207 (by kernel_rfl) ?_
          refine w_skip (by kernel_rfl) ?_
          refine n_block ?_
          refine n_then ?_
          have hf208 := Fr.keep (ks := [0, 1, 22, 23, 24]) (r := [(0, .func (.yield l2) #[] #[]), (1, pB b19 0), (22, .slice e2 d1.length q2), (23, vI (d1.length : Int)), (24, vI y10)]) hf207 (by kernel_rfl)
          exact ⟨z11, y17, y18, y19, (Zone.le_refl _), hf208, (St.drop 1 hS123), hr64⟩
         ·have hr65 := cond_f hb24 hr63
          refine w_skip (by kernel_rfl) ?_
          refine n_then ?_
          refine w_seq (by kernel_rfl) ?_
          have hS124 := hS121.drew
          have s19 : Sub z11 (box b22 [vI p2.x, vI p2.lo, vI p2.hi, vI p1.x, vI p1.lo, vI p1.hi] 118 :: box b21 [vI p1.x, vI p1.lo, vI p1.hi] 39 :: loopA l2 94 [(5, pB b14 0), (6, pB b15 0), (7, pB b16 0), (8, pB b17 0), (9, pB b18 0), (20, .func (.func 101) #[] #[pB b19 0])] ps2 RA2 RB2 D2 .busy none :: defA D2 :: box b19 [.slice o_x0 x0.length c_x0] 24 :: box b18 [vI y17, vI y18, vI y19] 92 :: box b17 [vI 0, vI 0, vI 0] 92 :: box b16 [.func (.func 50) #[] #[]] 94 :: box b15 [vI x2] 3 :: box b14 [vI x1] 3 :: box b13 [.slice o_x0 x0.length c_x0] 24 :: box b12 [vI y1, vI y2, vI y3] 92 :: box b1 [.slice o_x0 x0.length c_x0] 24 :: L) _ := Sub.of (Zone.le_refl _) hS124
          refine w_regD (by kernel_rfl) [(0, true), (1, true), (2, true), (4, true), (5, true), (6, true), (8, true), (9, true), (10, true), (13, true), (14, true), (15, true), (16, true), (17, true), (18, true), (19, true), (3, false), (7, false), (11, false), (12, true), (20, true), (21, true), (22, true)] [] (Sub z11 (box b22 [vI p2.x, vI p2.lo, vI p2.hi, vI p1.x, vI p1.lo, vI p1.hi] 118 :: box b21 [vI p1.x, vI p1.lo, vI p1.hi] 39 :: loopA l2 94 [(5, pB b14 0), (6, pB b15 0), (7, pB b16 0), (8, pB b17 0), (9, pB b18 0), (20, .func (.func 101) #[] #[pB b19 0])] ps2 RA2 RB2 D2 .busy none :: defA D2 :: box b19 [.slice o_x0 x0.length c_x0] 24 :: box b18 [vI y17, vI y18, vI y19] 92 :: box b17 [vI 0, vI 0, vI 0] 92 :: box b16 [.func (.func 50) #[] #[]] 94 :: box b15 [vI x2] 3 :: box b14 [vI x1] 3 :: box b13 [.slice o_x0 x0.length c_x0] 24 :: box b12 [vI y1, vI y2, vI y3] 92 :: box b1 [.slice o_x0 x0.length c_x0] 24 :: L)) (by kernel_rfl) s19 ?_
          refine p_qS 16 [.func (.func 50) #[] #[], vI p2.x, vI p2.lo, vI p2.hi, .func (.func 50) #[] #[], vI p1.x, vI p1.lo, vI p1.hi, .func (.func 50) #[] #[], vI p2.x, vI p2.lo, vI p2.hi, vI p1.x, vI p2.x] [(9, pB b18 0), (10, pB b22 0), (11, vI (if x1 > p2.x then x1 else p2.x)), (12, vI (if x2 < p1.x then x2 else p1.x)), (35, .func (.func 50) #[] #[]), (37, .agg #[vI p2.x, vI p2.lo, vI p2.hi]), (39, .func (.func 50) #[] #[]), (41, .agg #[vI p1.x, vI p1.lo, vI p1.hi]), (43, .func (.func 50) #[] #[]), (45, .agg #[vI p2.x, vI p2.lo, vI p2.hi]), (54, vI (w64 (p1.x - p2.x)))] [.cell ⟨b16, 0, none⟩ (.func (.func 50) #[] #[]), .cell ⟨b22, 0, none⟩ (vI p2.x), .cell ⟨b22, 1, none⟩ (vI p2.lo), .cell ⟨b22, 2, none⟩ (vI p2.hi), .cell ⟨b16, 0, none⟩ (.func (.func 50) #[] #[]), .cell ⟨b22, 3, none⟩ (vI p1.x), .cell ⟨b22, 4, none⟩ (vI p1.lo), .cell ⟨b22, 5, none⟩ (vI p1.hi), .cell ⟨b16, 0, none⟩ (.func (.func 50) #[] #[]), .cell ⟨b22, 0, none⟩ (vI p2.x), .cell ⟨b22, 1, none⟩ (vI p2.lo), .cell ⟨b22, 2, none⟩ (vI p2.hi), .cell ⟨b22, 3, none⟩ (vI p1.x), .cell ⟨b22, 0, none⟩ (vI p2.x)] [] s19 hf205 (by kernel_rfl) (fun _ s => (.cell (s.box (i := 7) rfl (j := 0) rfl) (.cell (s.box (i := 0) rfl (j := 0) rfl) (.cell (s.box (i := 0) rfl (j := 1) rfl) (.cell (s.box (i := 0) rfl (j := 2) rfl) (.cell (s.box (i := 7) rfl (j := 0) rfl) (.cell (s.box (i := 0) rfl (j := 3) rfl) (.cell (s.box (i := 0) rfl (j := 4) rfl) (.cell (s.box (i := 0) rfl (j := 5) rfl) (.cell (s.box (i := 7) rfl (j := 0) rfl) (.cell (s.box (i := 0) rfl (j := 0) rfl) (.cell (s.box (i := 0) rfl (j := 1) rfl) (.cell (s.box (i := 0) rfl (j := 2) rfl) (.cell (s.box (i := 0) rfl (j := 3) rfl) (.cell (s.box (i := 0) rfl (j := 0) rfl) .nil))))))))))))))) .nil fun a197 hf209 => ?_
          obtain ⟨r3, hd23, hr66⟩ := bind_some hr65
          refine p_call (i := 3) (d := some 38) (f := 50) (args := #[.agg #[vI p2.x, vI p2.lo, vI p2.hi]]) hf209 (by kernel_rfl) (f50_ok fuel p2.x p2.lo p2.hi r3 hd23 z11 _ _ hS124 ) ?_
          rintro v25 ww100 a198 ⟨rfl, hS125⟩ hf210
          refine ⟨fun _ => Sub.of (Zone.le_refl _) hS125, ?_⟩
          have s20 : Sub z11 (box b22 [vI p2.x, vI p2.lo, vI p2.hi, vI p1.x, vI p1.lo, vI p1.hi] 118 :: box b21 [vI p1.x, vI p1.lo, vI p1.hi] 39 :: loopA l2 94 [(5, pB b14 0), (6, pB b15 0), (7, pB b16 0), (8, pB b17 0), (9, pB b18 0), (20, .func (.func 101) #[] #[pB b19 0])] ps2 RA2 RB2 D2 .busy none :: defA D2 :: box b19 [.slice o_x0 x0.length c_x0] 24 :: box b18 [vI y17, vI y18, vI y19] 92 :: box b17 [vI 0, vI 0, vI 0] 92 :: box b16 [.func (.func 50) #[] #[]] 94 :: box b15 [vI x2] 3 :: box b14 [vI x1] 3 :: box b13 [.slice o_x0 x0.length c_x0] 24 :: box b12 [vI y1, vI y2, vI y3] 92 :: box b1 [.slice o_x0 x0.length c_x0] 24 :: L) _ := Sub.of (Zone.le_refl _) hS125
          obtain ⟨r4, hd24, hr67⟩ := bind_some hr66
          refine p_call (i := 7) (d := some 42) (f := 50) (args := #[.agg #[vI p1.x, vI p1.lo, vI p1.hi]]) hf210 (by kernel_rfl) (f50_ok fuel p1.x p1.lo p1.hi r4 hd24 z11 _ _ hS125 ) ?_
          rintro v26 ww101 a199 ⟨rfl, hS126⟩ hf211
          refine ⟨fun _ => Sub.of (Zone.le_refl _) hS126, ?_⟩
          have s21 : Sub z11 (box b22 [vI p2.x, vI p2.lo, vI p2.hi, vI p1.x, vI p1.lo, vI p1.hi] 118 :: box b21 [vI p1.x, vI p1.lo, vI p1.hi] 39 :: loopA l2 94 [(5, pB b14 0), (6, pB b15 0), (7, pB b16 0), (8, pB b17 0), (9, pB b18 0), (20, .func (.func 101) #[] #[pB b19 0])] ps2 RA2 RB2 D2 .busy none :: defA D2 :: box b19 [.slice o_x0 x0.length c_x0] 24 :: box b18 [vI y17, vI y18, vI y19] 92 :: box b17 [vI 0, vI 0, vI 0] 92 :: box b16 [.func (.func 50) #[] #[]] 94 :: box b15 [vI x2] 3 :: box b14 [vI x1] 3 :: box b13 [.slice o_x0 x0.length c_x0] 24 :: box b12 [vI y1, vI y2, vI y3] 92 :: box b1 [.slice o_x0 x0.length c_x0] 24 :: L) _ := Sub.of (Zone.le_refl _) hS126
          obtain ⟨r5, hd25, hr68⟩ := bind_some hr67
          refine p_call (i := 11) (d := some 46) (f := 50) (args := #[.agg #[vI p2.x, vI p2.lo, vI p2.hi]]) hf211 (by kernel_rfl) (f50_ok fuel p2.x p2.lo p2.hi r5 hd25 z11 _ _ hS126 ) ?_
          rintro v27 ww102 a200 ⟨rfl, hS127⟩ hf212
          refine ⟨fun _ => Sub.of (Zone.le_refl _) hS127, ?_⟩
          have s22 : Sub z11 (box b22 [vI p2.x, vI p2.lo, vI p2.hi, vI p1.x, vI p1.lo, vI p1.hi] 118 :: box b21 [vI p1.x, vI p1.lo, vI p1.hi] 39 :: loopA l2 94 [(5, pB b14 0), (6, pB b15 0), (7, pB b16 0), (8, pB b17 0), (9, pB b18 0), (20, .func (.func 101) #[] #[pB b19 0])] ps2 RA2 RB2 D2 .busy none :: defA D2 :: box b19 [.slice o_x0 x0.length c_x0] 24 :: box b18 [vI y17, vI y18, vI y19] 92 :: box b17 [vI 0, vI 0, vI 0] 92 :: box b16 [.func (.func 50) #[] #[]] 94 :: box b15 [vI x2] 3 :: box b14 [vI x1] 3 :: box b13 [.slice o_x0 x0.length c_x0] 24 :: box b12 [vI y1, vI y2, vI y3] 92 :: box b1 [.slice o_x0 x0.length c_x0] 24 :: L) _ := Sub.of (Zone.le_refl _) hS127
          refine p_qS 4 [] [(9, pB b18 0), (10, pB b22 0), (11, vI (if x1 > p2.x then x1 else p2.x)), (12, vI (if x2 < p1.x then x2 else p1.x)), (13, vI r3), (14, vI (w64 (r4 - r5))), (15, vI (w64 (p1.x - p2.x)))] [] [] s22 hf212 (by kernel_rfl) (fun _ s => .nil) .nil fun a201 hf213 => ?_
          refine p_dt (by kernel_rfl) ?_
          refine w_sq [vI p2.x] [(9, pB b18 0), (11, vI (if x1 > p2.x then x1 else p2.x)), (12, vI (if x2 < p1.x then x2 else p1.x)), (13, vI r3), (14, vI (w64 (r4 - r5))), (15, vI (w64 (p1.x - p2.x))), (16, vI (w64 ((w64 ((if x2 < p1.x then x2 else p1.x) - (if x1 > p2.x then x1 else p2.x))) * (w64 ((w64 ((if x1 > p2.x then x1 else p2.x) + (if x2 < p1.x then x2 else p1.x))) - (w64 ((2 : Int) * p2.x)))))))] [.cell ⟨b22, 0, none⟩ (vI p2.x)] hf213 (by kernel_rfl) (.cell (hS127.box (i := 0) rfl (j := 0) rfl) .nil) fun a202 hf214 => ?_
          refine w_sr (by kernel_rfl) ?_
          refine p_qn 2 [] [(9, pB b18 0), (11, vI (if x1 > p2.x then x1 else p2.x)), (12, vI (if x2 < p1.x then x2 else p1.x)), (13, vI r3), (14, vI (w64 (r4 - r5))), (15, vI (w64 (p1.x - p2.x))), (16, vI (w64 ((w64 ((if x2 < p1.x then x2 else p1.x) - (if x1 > p2.x then x1 else p2.x))) * (w64 ((w64 ((if x1 > p2.x then x1 else p2.x) + (if x2 < p1.x then x2 else p1.x))) - (w64 ((2 : Int) * p2.x))))))), (67, vI (w64 (r4 - r5))), (68, vI (w64 (p1.x - p2.x)))] [] hf214 (by kernel_rfl) .nil fun a203 hf215 => ?_
          obtain ⟨r6, hd26, hr69⟩ := bind_some hr68
          refine p_call (i := 2) (d := some 69) (f := 51) (args := #[vI (w64 (r4 - r5)), vI (w64 (p1.x - p2.x))]) hf215 (by kernel_rfl) (f51_ok fuel (w64 (r4 - r5)) (w64 (p1.x - p2.x)) r6 hd26 z11 _ _ hS127 ) ?_
          rintro v28 ww103 a204 ⟨rfl, hS128⟩ hf216
          refine ⟨fun _ => trivial, ?_⟩
          refine p_qt [] [(9, pB b18 0), (11, vI (if x1 > p2.x then x1 else p2.x)), (12, vI (if x2 < p1.x then x2 else p1.x)), (13, vI r3), (14, vI (w64 (r4 - r5))), (15, vI (w64 (p1.x - p2.x))), (16, vI (w64 ((w64 ((if x2 < p1.x then x2 else p1.x) - (if x1 > p2.x then x1 else p2.x))) * (w64 ((w64 ((if x1 > p2.x then x1 else p2.x) + (if x2 < p1.x then x2 else p1.x))) - (w64 ((2 : Int) * p2.x))))))), (17, vI r6)] [] hf216 (by kernel_rfl) .nil fun a205 hf217 => ?_
          refine w_sr (by kernel_rfl) ?_
          refine p_qn 14 [vI y17] [(9, pB b18 0), (14, vI (w64 (r4 - r5))), (15, vI (w64 (p1.x - p2.x))), (16, vI (w64 ((w64 ((if x2 < p1.x then x2 else p1.x) - (if x1 > p2.x then x1 else p2.x))) * (w64 ((w64 ((if x1 > p2.x then x1 else p2.x) + (if x2 < p1.x then x2 else p1.x))) - (w64 ((2 : Int) * p2.x))))))), (17, vI r6), (82, vI (w64 (y17 + (w64 ((w64 ((w64 ((2 : Int) * r3)) * (w64 ((if x2 < p1.x then x2 else p1.x) - (if x1 > p2.x then x1 else p2.x))))) + (w64 (r6 * (w64 ((w64 ((if x2 < p1.x then x2 else p1.x) - (if x1 > p2.x then x1 else p2.x))) * (w64 ((w64 ((if x1 > p2.x then x1 else p2.x) + (if x2 < p1.x then x2 else p1.x))) - (w64 ((2 : Int) * p2.x))))))))))))), (83, pB b18 0)] [.cell ⟨b18, 0, none⟩ (vI y17)] hf217 (by kernel_rfl) (.cell (hS128.box (i := 5) rfl (j := 0) rfl) .nil) fun a206 hf218 => ?_
          refine p_store_eq (i := 14) (j := 5) (b := b18) (off := 0) (vs := [vI (w64 (y17 + (w64 ((w64 ((w64 ((2 : Int) * r3)) * (w64 ((if x2 < p1.x then x2 else p1.x) - (if x1 > p2.x then x1 else p2.x))))) + (w64 (r6 * (w64 ((w64 ((if x2 < p1.x then x2 else p1.x) - (if x1 > p2.x then x1 else p2.x))) * (w64 ((w64 ((if x1 > p2.x then x1 else p2.x) + (if x2 < p1.x then x2 else p1.x))) - (w64 ((2 : Int) * p2.x))))))))))))]) (cs' := [vI (w64 (y17 + (w64 ((w64 ((w64 ((2 : Int) * r3)) * (w64 ((if x2 < p1.x then x2 else p1.x) - (if x1 > p2.x then x1 else p2.x))))) + (w64 (r6 * (w64 ((w64 ((if x2 < p1.x then x2 else p1.x) - (if x1 > p2.x then x1 else p2.x))) * (w64 ((w64 ((if x1 > p2.x then x1 else p2.x) + (if x2 < p1.x then x2 else p1.x))) - (w64 ((2 : Int) * p2.x)))))))))))), vI y18, vI y19]) hS128 hf218 rfl (by kernel_rfl) (by kernel_rfl) rfl fun ww104 a207 hS129 hf219 => ⟨fun _ => trivial, ?_⟩
          refine p_dt (by kernel_rfl) ?_
          refine w_reg (by kernel_rfl) ?_
          refine p_qn 8 [] [(9, pB b18 0), (90, vI (w64 ((w64 ((w64 (r4 - r5)) - (w64 (r6 * (w64 (p1.x - p2.x)))))) * (w64 ((w64 ((if x2 < p1.x then x2 else p1.x) - (if x1 > p2.x then x1 else p2.x))) * (w64 ((w64 ((if x1 > p2.x then x1 else p2.x) + (if x2 < p1.x then x2 else p1.x))) - (w64 ((2 : Int) * p2.x))))))))), (91, vI (w64 (p1.x - p2.x)))] [] hf219 (by kernel_rfl) .nil fun a208 hf220 => ?_
          refine p_call (i := 8) (d := some 92) (f := 83) (args := #[pB b18 0, vI (w64 ((w64 ((w64 (r4 - r5)) - (w64 (r6 * (w64 (p1.x - p2.x)))))) * (w64 ((w64 ((if x2 < p1.x then x2 else p1.x) - (if x1 > p2.x then x1 else p2.x))) * (w64 ((w64 ((if x1 > p2.x then x1 else p2.x) + (if x2 < p1.x then x2 else p1.x))) - (w64 ((2 : Int) * p2.x)))))))), vI (w64 (p1.x - p2.x))]) hf220 (by kernel_rfl) (Φ := fun v w => ∃ z13 : Zone, ∃ y14 : Int, ∃ y15 : Int, ∃ y16 : Int, Zone.le z11 z13 ∧ v = .tuple #[] ∧ St z13 (box b22 [vI p2.x, vI p2.lo, vI p2.hi, vI p1.x, vI p1.lo, vI p1.hi] 118 :: box b21 [vI p1.x, vI p1.lo, vI p1.hi] 39 :: loopA l2 94 [(5, pB b14 0), (6, pB b15 0), (7, pB b16 0), (8, pB b17 0), (9, pB b18 0), (20, .func (.func 101) #[] #[pB b19 0])] ps2 RA2 RB2 D2 .busy none :: defA D2 :: box b19 [.slice o_x0 x0.length c_x0] 24 :: box b18 [vI y14, vI y15, vI y16] 92 :: box b17 [vI 0, vI 0, vI 0] 92 :: box b16 [.func (.func 50) #[] #[]] 94 :: box b15 [vI x2] 3 :: box b14 [vI x1] 3 :: box b13 [.slice o_x0 x0.length c_x0] 24 :: box b12 [vI y1, vI y2, vI y3] 92 :: box b1 [.slice o_x0 x0.length c_x0] 24 :: L) w ∧ (F29_j9 (F29_l2 fuel x0 x1 x2 y1 y2 y3 d1 n1) y10 y14 y15 y16) = some r) ?_ ?_
          ·refine calls_intro (N := 51) Tryz.func83 (by kernel_rfl) fun a209 hf221 => ?_
           refine w_seq (by kernel_rfl) ?_
           have hS130 := hS129.drew
           have s23 : Sub z11 (box b22 [vI p2.x, vI p2.lo, vI p2.hi, vI p1.x, vI p1.lo, vI p1.hi] 118 :: box b21 [vI p1.x, vI p1.lo, vI p1.hi] 39 :: loopA l2 94 [(5, pB b14 0), (6, pB b15 0), (7, pB b16 0), (8, pB b17 0), (9, pB b18 0), (20, .func (.func 101) #[] #[pB b19 0])] ps2 RA2 RB2 D2 .busy none :: defA D2 :: box b19 [.slice o_x0 x0.length c_x0] 24 :: box b18 [vI (w64 (y17 + (w64 ((w64 ((w64 ((2 : Int) * r3)) * (w64 ((if x2 < p1.x then x2 else p1.x) - (if x1 > p2.x then x1 else p2.x))))) + (w64 (r6 * (w64 ((w64 ((if x2 < p1.x then x2 else p1.x) - (if x1 > p2.x then x1 else p2.x))) * (w64 ((w64 ((if x1 > p2.x then x1 else p2.x) + (if x2 < p1.x then x2 else p1.x))) - (w64 ((2 : Int) * p2.x)))))))))))), vI y18, vI y19] 92 :: box b17 [vI 0, vI 0, vI 0] 92 :: box b16 [.func (.func 50) #[] #[]] 94 :: box b15 [vI x2] 3 :: box b14 [vI x1] 3 :: box b13 [.slice o_x0 x0.length c_x0] 24 :: box b12 [vI y1, vI y2, vI y3] 92 :: box b1 [.slice o_x0 x0.length c_x0] 24 :: L) _ := Sub.of (Zone.le_refl _) hS130
           refine w_regD (by kernel_rfl) [(0, true), (1, true), (2, true), (3, true), (4, true), (5, true), (6, false), (7, true), (8, true), (9, true), (10, false)] [10] (Sub z11 (box b22 [vI p2.x, vI p2.lo, vI p2.hi, vI p1.x, vI p1.lo, vI p1.hi] 118 :: box b21 [vI p1.x, vI p1.lo, vI p1.hi] 39 :: loopA l2 94 [(5, pB b14 0), (6, pB b15 0), (7, pB b16 0), (8, pB b17 0), (9, pB b18 0), (20, .func (.func 101) #[] #[pB b19 0])] ps2 RA2 RB2 D2 .busy none :: defA D2 :: box b19 [.slice o_x0 x0.length c_x0] 24 :: box b18 [vI (w64 (y17 + (w64 ((w64 ((w64 ((2 : Int) * r3)) * (w64 ((if x2 < p1.x then x2 else p1.x) - (if x1 > p2.x then x1 else p2.x))))) + (w64 (r6 * (w64 ((w64 ((if x2 < p1.x then x2 else p1.x) - (if x1 > p2.x then x1 else p2.x))) * (w64 ((w64 ((if x1 > p2.x then x1 else p2.x) + (if x2 < p1.x then x2 else p1.x))) - (w64 ((2 : Int) * p2.x)))))))))))), vI y18, vI y19] 92 :: box b17 [vI 0, vI 0, vI 0] 92 :: box b16 [.func (.func 50) #[] #[]] 94 :: box b15 [vI x2] 3 :: box b14 [vI x1] 3 :: box b13 [.slice o_x0 x0.length c_x0] 24 :: box b12 [vI y1, vI y2, vI y3] 92 :: box b1 [.slice o_x0 x0.length c_x0] 24 :: L)) (by kernel_rfl) s23 ?_
           refine p_qS 6 [vI (w64 (y17 + (w64 ((w64 ((w64 ((2 : Int) * r3)) * (w64 ((if x2 < p1.x then x2 else p1.x) - (if x1 > p2.x then x1 else p2.x))))) + (w64 (r6 * (w64 ((w64 ((if x2 < p1.x then x2 else p1.x) - (if x1 > p2.x then x1 else p2.x))) * (w64 ((w64 ((if x1 > p2.x then x1 else p2.x) + (if x2 < p1.x then x2 else p1.x))) - (w64 ((2 : Int) * p2.x))))))))))))] [(0, pB b18 0), (1, vI (w64 ((w64 ((w64 (r4 - r5)) - (w64 (r6 * (w64 (p1.x - p2.x)))))) * (w64 ((w64 ((if x2 < p1.x then x2 else p1.x) - (if x1 > p2.x then x1 else p2.x))) * (w64 ((w64 ((if x1 > p2.x then x1 else p2.x) + (if x2 < p1.x then x2 else p1.x))) - (w64 ((2 : Int) * p2.x))))))))), (2, vI (w64 (p1.x - p2.x))), (7, pB b18 0), (10, vI (w64 (y17 + (w64 ((w64 ((w64 ((2 : Int) * r3)) * (w64 ((if x2 < p1.x then x2 else p1.x) - (if x1 > p2.x then x1 else p2.x))))) + (w64 (r6 * (w64 ((w64 ((if x2 < p1.x then x2 else p1.x) - (if x1 > p2.x then x1 else p2.x))) * (w64 ((w64 ((if x1 > p2.x then x1 else p2.x) + (if x2 < p1.x then x2 else p1.x))) - (w64 ((2 : Int) * p2.x))))))))))))), (11, vI (w64 ((w64 ((w64 (r4 - r5)) - (w64 (r6 * (w64 (p1.x - p2.x)))))) * (w64 ((w64 ((if x2 < p1.x then x2 else p1.x) - (if x1 > p2.x then x1 else p2.x))) * (w64 ((w64 ((if x1 > p2.x then x1 else p2.x) + (if x2 < p1.x then x2 else p1.x))) - (w64 ((2 : Int) * p2.x))))))))), (12, vI (w64 (p1.x - p2.x)))] [.cell ⟨b18, 0, none⟩ (vI (w64 (y17 + (w64 ((w64 ((w64 ((2 : Int) * r3)) * (w64 ((if x2 < p1.x then x2 else p1.x) - (if x1 > p2.x then x1 else p2.x))))) + (w64 (r6 * (w64 ((w64 ((if x2 < p1.x then x2 else p1.x) - (if x1 > p2.x then x1 else p2.x))) * (w64 ((w64 ((if x1 > p2.x then x1 else p2.x) + (if x2 < p1.x then x2 else p1.x))) - (w64 ((2 : Int) * p2.x)))))))))))))] [] s23 hf221 (by kernel_rfl) (fun _ s => (.cell (s.box (i := 5) rfl (j := 0) rfl) .nil)) .nil fun a210 hf222 => ?_
           obtain ⟨r7, hd27, hr70⟩ := bind_some hr69
           refine p_call (i := 6) (d := some 13) (f := 51) (args := #[vI (w64 ((w64 ((w64 (r4 - r5)) - (w64 (r6 * (w64 (p1.x - p2.x)))))) * (w64 ((w64 ((if x2 < p1.x then x2 else p1.x) - (if x1 > p2.x then x1 else p2.x))) * (w64 ((w64 ((if x1 > p2.x then x1 else p2.x) + (if x2 < p1.x then x2 else p1.x))) - (w64 ((2 : Int) * p2.x)))))))), vI (w64 (p1.x - p2.x))]) hf222 (by kernel_rfl) (f51_ok fuel (w64 ((w64 ((w64 (r4 - r5)) - (w64 (r6 * (w64 (p1.x - p2.x)))))) * (w64 ((w64 ((if x2 < p1.x then x2 else p1.x) - (if x1 > p2.x then x1 else p2.x))) * (w64 ((w64 ((if x1 > p2.x then x1 else p2.x) + (if x2 < p1.x then x2 else p1.x))) - (w64 ((2 : Int) * p2.x)))))))) (w64 (p1.x - p2.x)) r7 hd27 z11 _ _ hS130 ) ?_
           rintro v29 ww105 a211 ⟨rfl, hS131⟩ hf223
           refine ⟨fun _ => Sub.of (Zone.le_refl _) hS131, ?_⟩
           have s24 : Sub z11 (box b22 [vI p2.x, vI p2.lo, vI p2.hi, vI p1.x, vI p1.lo, vI p1.hi] 118 :: box b21 [vI p1.x, vI p1.lo, vI p1.hi] 39 :: loopA l2 94 [(5, pB b14 0), (6, pB b15 0), (7, pB b16 0), (8, pB b17 0), (9, pB b18 0), (20, .func (.func 101) #[] #[pB b19 0])] ps2 RA2 RB2 D2 .busy none :: defA D2 :: box b19 [.slice o_x0 x0.length c_x0] 24 :: box b18 [vI (w64 (y17 + (w64 ((w64 ((w64 ((2 : Int) * r3)) * (w64 ((if x2 < p1.x then x2 else p1.x) - (if x1 > p2.x then x1 else p2.x))))) + (w64 (r6 * (w64 ((w64 ((if x2 < p1.x then x2 else p1.x) - (if x1 > p2.x then x1 else p2.x))) * (w64 ((w64 ((if x1 > p2.x then x1 else p2.x) + (if x2 < p1.x then x2 else p1.x))) - (w64 ((2 : Int) * p2.x)))))))))))), vI y18, vI y19] 92 :: box b17 [vI 0, vI 0, vI 0] 92 :: box b16 [.func (.func 50) #[] #[]] 94 :: box b15 [vI x2] 3 :: box b14 [vI x1] 3 :: box b13 [.slice o_x0 x0.length c_x0] 24 :: box b12 [vI y1, vI y2, vI y3] 92 :: box b1 [.slice o_x0 x0.length c_x0] 24 :: L) _ := Sub.of (Zone.le_refl _) hS131
           refine p_qS 3 [] [(0, pB b18 0), (1, vI (w64 ((w64 ((w64 (r4 - r5)) - (w64 (r6 * (w64 (p1.x - p2.x)))))) * (w64 ((w64 ((if x2 < p1.x then x2 else p1.x) - (if x1 > p2.x then x1 else p2.x))) * (w64 ((w64 ((if x1 > p2.x then x1 else p2.x) + (if x2 < p1.x then x2 else p1.x))) - (w64 ((2 : Int) * p2.x))))))))), (2, vI (w64 (p1.x - p2.x))), (14, vI (w64 ((w64 (y17 + (w64 ((w64 ((w64 ((2 : Int) * r3)) * (w64 ((if x2 < p1.x then x2 else p1.x) - (if x1 > p2.x then x1 else p2.x))))) + (w64 (r6 * (w64 ((w64 ((if x2 < p1.x then x2 else p1.x) - (if x1 > p2.x then x1 else p2.x))) * (w64 ((w64 ((if x1 > p2.x then x1 else p2.x) + (if x2 < p1.x then x2 else p1.x))) - (w64 ((2 : Int) * p2.x)))))))))))) + r7))), (16, pB b18 0)] [] [] s24 hf223 (by kernel_rfl) (fun _ s => .nil) .nil fun a212 hf224 => ?_
           refine p_store_eq (i := 10) (j := 5) (b := b18) (off := 0) (vs := [vI (w64 ((w64 (y17 + (w64 ((w64 ((w64 ((2 : Int) * r3)) * (w64 ((if x2 < p1.x then x2 else p1.x) - (if x1 > p2.x then x1 else p2.x))))) + (w64 (r6 * (w64 ((w64 ((if x2 < p1.x then x2 else p1.x) - (if x1 > p2.x then x1 else p2.x))) * (w64 ((w64 ((if x1 > p2.x then x1 else p2.x) + (if x2 < p1.x then x2 else p1.x))) - (w64 ((2 : Int) * p2.x)))))))))))) + r7))]) (cs' := [vI (w64 ((w64 (y17 + (w64 ((w64 ((w64 ((2 : Int) * r3)) * (w64 ((if x2 < p1.x then x2 else p1.x) - (if x1 > p2.x then x1 else p2.x))))) + (w64 (r6 * (w64 ((w64 ((if x2 < p1.x then x2 else p1.x) - (if x1 > p2.x then x1 else p2.x))) * (w64 ((w64 ((if x1 > p2.x then x1 else p2.x) + (if x2 < p1.x then x2 else p1.x))) - (w64 ((2 : Int) * p2.x)))))))))))) + r7)), vI y18, vI y19]) hS131 hf224 rfl (by kernel_rfl) (by kernel_rfl) rfl fun ww106 a213 hS132 hf225 => ⟨fun e => absurd e (by decide), ?_⟩
           refine p_dt (by kernel_rfl) ?_
           refine w_sr (by kernel_rfl) ?_
           refine p_qn 3 [] [(0, pB b18 0), (2, vI (w64 (p1.x - p2.x))), (17, vI (w64 ((w64 ((w64 (r4 - r5)) - (w64 (r6 * (w64 (p1.x - p2.x)))))) * (w64 ((w64 ((if x2 < p1.x then x2 else p1.x) - (if x1 > p2.x then x1 else p2.x))) * (w64 ((w64 ((if x1 > p2.x then x1 else p2.x) + (if x2 < p1.x then x2 else p1.x))) - (w64 ((2 : Int) * p2.x))))))))), (18, vI (w64 ((w64 ((w64 (r4 - r5)) - (w64 (r6 * (w64 (p1.x - p2.x)))))) * (w64 ((w64 ((if x2 < p1.x then x2 else p1.x) - (if x1 > p2.x then x1 else p2.x))) * (w64 ((w64 ((if x1 > p2.x then x1 else p2.x) + (if x2 < p1.x then x2 else p1.x))) - (w64 ((2 : Int) * p2.x))))))))), (19, vI (w64 (p1.x - p2.x)))] [] hf225 (by kernel_rfl) .nil fun a214 hf226 => ?_
           obtain ⟨r8, hd28, hr71⟩ := bind_some hr70
           refine p_call (i := 3) (d := some 20) (f := 51) (args := #[vI (w64 ((w64 ((w64 (r4 - r5)) - (w64 (r6 * (w64 (p1.x - p2.x)))))) * (w64 ((w64 ((if x2 < p1.x then x2 else p1.x) - (if x1 > p2.x then x1 else p2.x))) * (w64 ((w64 ((if x1 > p2.x then x1 else p2.x) + (if x2 < p1.x then x2 else p1.x))) - (w64 ((2 : Int) * p2.x)))))))), vI (w64 (p1.x - p2.x))]) hf226 (by kernel_rfl) (f51_ok fuel (w64 ((w64 ((w64 (r4 - r5)) - (w64 (r6 * (w64 (p1.x - p2.x)))))) * (w64 ((w64 ((if x2 < p1.x then x2 else p1.x) - (if x1 > p2.x then x1 else p2.x))) * (w64 ((w64 ((if x1 > p2.x then x1 else p2.x) + (if x2 < p1.x then x2 else p1.x))) - (w64 ((2 : Int) * p2.x)))))))) (w64 (p1.x - p2.x)) r8 hd28 z11 _ _ hS132 ) ?_
           rintro v30 ww107 a215 ⟨rfl, hS133⟩ hf227
           refine ⟨fun _ => trivial, ?_⟩
           refine p_qt [] [(0, pB b18 0), (2, vI (w64 (p1.x - p2.x))), (6, vI (w64 ((w64 ((w64 ((w64 (r4 - r5)) - (w64 (r6 * (w64 (p1.x - p2.x)))))) * (w64 ((w64 ((if x2 < p1.x then x2 else p1.x) - (if x1 > p2.x then x1 else p2.x))) * (w64 ((w64 ((if x1 > p2.x then x1 else p2.x) + (if x2 < p1.x then x2 else p1.x))) - (w64 ((2 : Int) * p2.x)))))))) - (w64 (r8 * (w64 (p1.x - p2.x)))))))] [] hf227 (by kernel_rfl) .nil fun a216 hf228 => ?_
           refine w_sq [] [(0, pB b18 0), (2, vI (w64 (p1.x - p2.x))), (6, vI (w64 ((w64 ((w64 ((w64 (r4 - r5)) - (w64 (r6 * (w64 (p1.x - p2.x)))))) * (w64 ((w64 ((if x2 < p1.x then x2 else p1.x) - (if x1 > p2.x then x1 else p2.x))) * (w64 ((w64 ((if x1 > p2.x then x1 else p2.x) + (if x2 < p1.x then x2 else p1.x))) - (w64 ((2 : Int) * p2.x)))))))) - (w64 (r8 * (w64 (p1.x - p2.x))))))), (25, .bool (decide ((w64 ((w64 ((w64 ((w64 (r4 - r5)) - (w64 (r6 * (w64 (p1.x - p2.x)))))) * (w64 ((w64 ((if x2 < p1.x then x2 else p1.x) - (if x1 > p2.x then x1 else p2.x))) * (w64 ((w64 ((if x1 > p2.x then x1 else p2.x) + (if x2 < p1.x then x2 else p1.x))) - (w64 ((2 : Int) * p2.x)))))))) - (w64 (r8 * (w64 (p1.x - p2.x)))))) > (0 : Int))))] [] hf228 (by kernel_rfl) .nil fun a217 hf229 => ?_
           refine w_if hf229 (b := (decide ((w64 ((w64 ((w64 ((w64 (r4 - r5)) - (w64 (r6 * (w64 (p1.x - p2.x)))))) * (w64 ((w64 ((if x2 < p1.x then x2 else p1.x) - (if x1 > p2.x then x1 else p2.x))) * (w64 ((w64 ((if x1 > p2.x then x1 else p2.x) + (if x2 < p1.x then x2 else p1.x))) - (w64 ((2 : Int) * p2.x)))))))) - (w64 (r8 * (w64 (p1.x - p2.x)))))) > (0 : Int)))) (by kernel_rfl) (fun hb25 => ?_) (fun hb25 => ?_)
           ·have hr72 := cond_t hb25 hr71
            have hS134 := hS133.drew
            refine w_regD (by kernel_rfl) [(0, true), (1, true), (2, true), (3, true), (4, true), (5, true), (6, true), (7, true), (8, true), (9, true), (10, true), (11, true), (12, true), (13, true), (14, true), (15, true), (16, true), (17, true), (18, true), (19, true), (20, true), (21, true), (22, true), (23, false), (24, true), (25, true), (26, false)] [23, 26] (fun x => x = ww107.drew) (by kernel_rfl) rfl ?_
            refine p_qE 23 [vI y18, vI y19, vI y19] [(27, pB b18 0), (40, vI (w64 ((w64 (y18 * (w64 (p1.x - p2.x)))) + (w64 ((w64 ((w64 ((w64 ((w64 (r4 - r5)) - (w64 (r6 * (w64 (p1.x - p2.x)))))) * (w64 ((w64 ((if x2 < p1.x then x2 else p1.x) - (if x1 > p2.x then x1 else p2.x))) * (w64 ((w64 ((if x1 > p2.x then x1 else p2.x) + (if x2 < p1.x then x2 else p1.x))) - (w64 ((2 : Int) * p2.x)))))))) - (w64 (r8 * (w64 (p1.x - p2.x)))))) * y19))))), (46, vI (w64 (y19 * (w64 (p1.x - p2.x))))), (48, pB b18 1)] [.cell ⟨b18, 1, none⟩ (vI y18), .cell ⟨b18, 2, none⟩ (vI y19), .cell ⟨b18, 2, none⟩ (vI y19)] [] hf229 (by kernel_rfl) (.cell (hS134.box (i := 5) rfl (j := 1) rfl) (.cell (hS134.box (i := 5) rfl (j := 2) rfl) (.cell (hS134.box (i := 5) rfl (j := 2) rfl) .nil))) .nil fun a218 hf230 => ?_
            refine p_store_eq (i := 23) (j := 5) (b := b18) (off := 1) (vs := [vI (w64 ((w64 (y18 * (w64 (p1.x - p2.x)))) + (w64 ((w64 ((w64 ((w64 ((w64 (r4 - r5)) - (w64 (r6 * (w64 (p1.x - p2.x)))))) * (w64 ((w64 ((if x2 < p1.x then x2 else p1.x) - (if x1 > p2.x then x1 else p2.x))) * (w64 ((w64 ((if x1 > p2.x then x1 else p2.x) + (if x2 < p1.x then x2 else p1.x))) - (w64 ((2 : Int) * p2.x)))))))) - (w64 (r8 * (w64 (p1.x - p2.x)))))) * y19))))]) (cs' := [vI (w64 ((w64 (y17 + (w64 ((w64 ((w64 ((2 : Int) * r3)) * (w64 ((if x2 < p1.x then x2 else p1.x) - (if x1 > p2.x then x1 else p2.x))))) + (w64 (r6 * (w64 ((w64 ((if x2 < p1.x then x2 else p1.x) - (if x1 > p2.x then x1 else p2.x))) * (w64 ((w64 ((if x1 > p2.x then x1 else p2.x) + (if x2 < p1.x then x2 else p1.x))) - (w64 ((2 : Int) * p2.x)))))))))))) + r7)), vI (w64 ((w64 (y18 * (w64 (p1.x - p2.x)))) + (w64 ((w64 ((w64 ((w64 ((w64 (r4 - r5)) - (w64 (r6 * (w64 (p1.x - p2.x)))))) * (w64 ((w64 ((if x2 < p1.x then x2 else p1.x) - (if x1 > p2.x then x1 else p2.x))) * (w64 ((w64 ((if x1 > p2.x then x1 else p2.x) + (if x2 < p1.x then x2 else p1.x))) - (w64 ((2 : Int) * p2.x)))))))) - (w64 (r8 * (w64 (p1.x - p2.x)))))) * y19)))), vI y19]) hS134 hf230 rfl (by kernel_rfl) (by kernel_rfl) rfl fun ww108 a219 hS135 hf231 => ⟨fun e => absurd e (by decide), ?_⟩
            refine p_qP 2 [] [(46, vI (w64 (y19 * (w64 (p1.x - p2.x))))), (50, pB b18 2)] [] hf231 (by kernel_rfl) (fun _ => .nil) fun a220 hf232 => ?_
            refine p_store_eq (i := 26) (j := 5) (b := b18) (off := 2) (vs := [vI (w64 (y19 * (w64 (p1.x - p2.x))))]) (cs' := [vI (w64 ((w64 (y17 + (w64 ((w64 ((w64 ((2 : Int) * r3)) * (w64 ((if x2 < p1.x then x2 else p1.x) - (if x1 > p2.x then x1 else p2.x))))) + (w64 (r6 * (w64 ((w64 ((if x2 < p1.x then x2 else p1.x) - (if x1 > p2.x then x1 else p2.x))) * (w64 ((w64 ((if x1 > p2.x then x1 else p2.x) + (if x2 < p1.x then x2 else p1.x))) - (w64 ((2 : Int) * p2.x)))))))))))) + r7)), vI (w64 ((w64 (y18 * (w64 (p1.x - p2.x)))) + (w64 ((w64 ((w64 ((w64 ((w64 (r4 - r5)) - (w64 (r6 * (w64 (p1.x - p2.x)))))) * (w64 ((w64 ((if x2 < p1.x then x2 else p1.x) - (if x1 > p2.x then x1 else p2.x))) * (w64 ((w64 ((if x1 > p2.x then x1 else p2.x) + (if x2 < p1.x then x2 else p1.x))) - (w64 ((2 : Int) * p2.x)))))))) - (w64 (r8 * (w64 (p1.x - p2.x)))))) * y19)))), vI (w64 (y19 * (w64 (p1.x - p2.x))))]) hS135 hf232 rfl (by kernel_rfl) (by kernel_rfl) rfl fun ww109 a221 hS136 hf233 => ⟨fun e => absurd e (by decide), ?_⟩
            refine p_done (by kernel_rfl) ?_
            refine p_fall (os := []) (v := .tuple #[]) (obs := []) hf233 (by kernel_rfl) .nil ?_
            exact ⟨_, rfl, z11, (w64 ((w64 (y17 + (w64 ((w64 ((w64 ((2 : Int) * r3)) * (w64 ((if x2 < p1.x then x2 else p1.x) - (if x1 > p2.x then x1 else p2.x))))) + (w64 (r6 * (w64 ((w64 ((if x2 < p1.x then x2 else p1.x) - (if x1 > p2.x then x1 else p2.x))) * (w64 ((w64 ((if x1 > p2.x then x1 else p2.x) + (if x2 < p1.x then x2 else p1.x))) - (w64 ((2 : Int) * p2.x)))))))))))) + r7)), (w64 ((w64 (y18 * (w64 (p1.x - p2.x)))) + (w64 ((w64 ((w64 ((w64 ((w64 (r4 - r5)) - (w64 (r6 * (w64 (p1.x - p2.x)))))) * (w64 ((w64 ((if x2 < p1.x then x2 else p1.x) - (if x1 > p2.x then x1 else p2.x))) * (w64 ((w64 ((if x1 > p2.x then x1 else p2.x) + (if x2 < p1.x then x2 else p1.x))) - (w64 ((2 : Int) * p2.x)))))))) - (w64 (r8 * (w64 (p1.x - p2.x)))))) * y19)))), (w64 (y19 * (w64 (p1.x - p2.x)))), (Zone.le_refl _), rfl, hS136, hr72⟩
           ·have hr73 := cond_f hb25 hr71
            refine w_skip (by kernel_rfl) ?_
            refine p_fall (os := []) (v := .tuple #[]) (obs := []) hf229 (by kernel_rfl) .nil ?_
            exact ⟨_, rfl, z11, (w64 ((w64 (y17 + (w64 ((w64 ((w64 ((2 : Int) * r3)) * (w64 ((if x2 < p1.x then x2 else p1.x) - (if x1 > p2.x then x1 else p2.x))))) + (w64 (r6 * (w64 ((w64 ((if x2 < p1.x then x2 else p1.x) - (if x1 > p2.x then x1 else p2.x))) * (w64 ((w64 ((if x1 > p2.x then x1 else p2.x) + (if x2 < p1.x then x2 else p1.x))) - (w64 ((2 : Int) * p2.x)))))))))))) + r7)), y18, y19, (Zone.le_refl _), rfl, hS133, hr73⟩
          ·rintro v31 ww110 a222 ⟨z13, y14, y15, y16, k13, rfl, hS137, hr74⟩ hf234
           refine ⟨fun _ => trivial, ?_⟩
           refine p_done (by kernel_rfl) ?_
           refine n_block ?_
           refine p_roundN hS137 (j := 2) rfl fun ww111 a223 hS138 hf235 => ?_
           have hS139 := St.drop 1 hS138
           refine p_qt [] [(0, .func (.yield l2) #[] #[]), (1, pB b19 0), (22, .slice e2 d1.length q2), (23, vI (d1.length : Int)), (24, vI y10), (38, .bool false)] [] hf235 (by kernel_rfl) .nil fun a224 hf236 => ?_
           refine w_if_false hf236 (by kernel_rfl) ?_
           refine w_skip (by kernel_rfl) ?_
           refine n_block ?_
           refine n_then ?_
           have hf237 := Fr.keep (ks := [0, 1, 22, 23, 24]) (r := [(0, .func (.yield l2) #[] #[]), (1, pB b19 0), (22, .slice e2 d1.length q2), (23, vI (d1.length : Int)), (24, vI y10)]) hf236 (by kernel_rfl)
           exact ⟨z13, y14, y15, y16, k13, hf237, (St.drop 1 hS139), hr74⟩
        ·rintro a225 ww112 ⟨z12, y11, y12, y13, k14, hf238, hS140, hr75⟩
         refine w_q [] [(0, .func (.yield l2) #[] #[]), (1, pB b19 0), (22, .slice e2 d1.length q2), (23, vI (d1.length : Int)), (24, vI (w64 (y10 + (1 : Int))))] [] hf238 (by kernel_rfl) .nil fun a226 hf239 => ?_
         refine n_then ?_
         have hf240 := Fr.keep (ks := [0, 1, 22, 23, 24]) (r := [(0, .func (.yield l2) #[] #[]), (1, pB b19 0), (22, .slice e2 d1.length q2), (23, vI (d1.length : Int)), (24, vI (w64 (y10 + (1 : Int))))]) hf239 (by kernel_rfl)
         exact ⟨n1, Nat.lt_succ_self n1, z12, y11, y12, y13, (w64 (y10 + (1 : Int))), (Zone.le_trans k12 k14), hf240, hS140, hr75⟩
       ·have hr76 := cond_f hb21 hr60
        refine w_exit (id := 0) (by kernel_rfl) ?_
        refine x_then ?_
        refine x_then ?_
        refine x_block ?_
        refine p_fall (os := []) (v := .tuple #[]) (obs := []) hf195 (by kernel_rfl) .nil ?_
        refine ⟨_, rfl, fun a227 hf241 => ?_⟩
        refine p_jump0 hS114 (j := 0) rfl (fun h => by cases h) fun ww113 hS141 => ?_
        refine n_block ?_
        refine n_then ?_
        refine w_sr (by kernel_rfl) ?_
        refine p_qn 1 [vI y17, vI y18, vI y19] [(8, pB b17 0), (93, .agg #[vI y17, vI y18, vI y19])] [.cell ⟨b18, 0, none⟩ (vI y17), .cell ⟨b18, 1, none⟩ (vI y18), .cell ⟨b18, 2, none⟩ (vI y19)] hf241 (by kernel_rfl) (.cell (hS141.box (i := 3) rfl (j := 0) rfl) (.cell (hS141.box (i := 3) rfl (j := 1) rfl) (.cell (hS141.box (i := 3) rfl (j := 2) rfl) .nil))) fun a228 hf242 => ?_
        refine p_store_eq (i := 1) (j := 4) (b := b17) (off := 0) (vs := [vI y17, vI y18, vI y19]) (cs' := [vI y17, vI y18, vI y19]) hS141 hf242 rfl (by kernel_rfl) (by kernel_rfl) rfl fun ww114 a229 hS142 hf243 => ⟨fun _ => trivial, ?_⟩
        refine p_dt (by kernel_rfl) ?_
        refine w_ret (by kernel_rfl) ?_
        refine p_retM hf243 ?_
        refine p_mark hS142 (j := 1) rfl fun ww115 hS143 => ?_
        refine p_end (os := [vI y17, vI y18, vI y19]) (v := .agg #[vI y17, vI y18, vI y19]) (obs := [.cell ⟨b17, 0, none⟩ (vI y17), .cell ⟨b17, 1, none⟩ (vI y18), .cell ⟨b17, 2, none⟩ (vI y19)]) hf243 (by kernel_rfl) (.cell (hS143.box (i := 4) rfl (j := 0) rfl) (.cell (hS143.box (i := 4) rfl (j := 1) rfl) (.cell (hS143.box (i := 4) rfl (j := 2) rfl) .nil))) ?_
        exact ⟨_, rfl, z11, y17, y18, y19, k12, rfl, (St.drop 9 hS143), hr76⟩
     ·rintro v32 ww116 a230 ⟨z9, y4, y5, y6, k15, rfl, hS144, hr77⟩ hf244
      refine ⟨fun _ => trivial, ?_⟩
      refine p_box (i := 4) (d := (some 11)) (cs := [vI 0, vI 0, vI 0]) (T := 92) (v := fun b23 => pB b23 0) hS144 hf244 (fun b => by kernel_rfl) fun b23 ww117 a231 hS145 hf245 => ⟨fun _ => trivial, ?_⟩
      refine p_store_eq (i := 5) (j := 0) (b := b23) (off := 0) (vs := [vI y4, vI y5, vI y6]) (cs' := [vI y4, vI y5, vI y6]) hS145 hf245 rfl (by kernel_rfl) (by kernel_rfl) rfl fun ww118 a232 hS146 hf246 => ⟨fun _ => trivial, ?_⟩
      refine p_dt (by kernel_rfl) ?_
      refine w_seq (by kernel_rfl) ?_
      have hS147 := hS146.drew
      have s25 : Sub z9 (box b23 [vI y4, vI y5, vI y6] 92 :: box b12 [vI y1, vI y2, vI y3] 92 :: box b1 [.slice o_x0 x0.length c_x0] 24 :: L) _ := Sub.of (Zone.le_refl _) hS147
      refine w_regD (by kernel_rfl) [(0, true), (1, true), (2, true), (3, true), (4, true), (5, true), (8, true), (9, true), (10, true), (11, true), (12, true), (13, true), (6, false), (7, true), (14, false), (15, true), (16, true), (17, true), (18, true)] [] (Sub z9 (box b23 [vI y4, vI y5, vI y6] 92 :: box b12 [vI y1, vI y2, vI y3] 92 :: box b1 [.slice o_x0 x0.length c_x0] 24 :: L)) (by kernel_rfl) s25 ?_
      refine p_qS 12 [vI y1, vI y2, vI y3, vI y4, vI y5, vI y6] [(37, vI y1), (39, vI y2), (41, vI y3), (45, vI y4), (47, vI y5), (49, vI y6)] [.cell ⟨b12, 0, none⟩ (vI y1), .cell ⟨b12, 1, none⟩ (vI y2), .cell ⟨b12, 2, none⟩ (vI y3), .cell ⟨b23, 0, none⟩ (vI y4), .cell ⟨b23, 1, none⟩ (vI y5), .cell ⟨b23, 2, none⟩ (vI y6)] [] s25 hf246 (by kernel_rfl) (fun _ s => (.cell (s.box (i := 1) rfl (j := 0) rfl) (.cell (s.box (i := 1) rfl (j := 1) rfl) (.cell (s.box (i := 1) rfl (j := 2) rfl) (.cell (s.box (i := 0) rfl (j := 0) rfl) (.cell (s.box (i := 0) rfl (j := 1) rfl) (.cell (s.box (i := 0) rfl (j := 2) rfl) .nil))))))) .nil fun a233 hf247 => ?_
      obtain ⟨r1, hd29, hr78⟩ := bind_some hr77
      refine p_call (i := 6) (d := some 42) (f := 51) (args := #[vI y2, vI y3]) hf247 (by kernel_rfl) (f51_ok fuel y2 y3 r1 hd29 z9 _ _ hS147 ) ?_
      rintro v33 ww119 a234 ⟨rfl, hS148⟩ hf248
      refine ⟨fun _ => Sub.of (Zone.le_refl _) hS148, ?_⟩
      have s26 : Sub z9 (box b23 [vI y4, vI y5, vI y6] 92 :: box b12 [vI y1, vI y2, vI y3] 92 :: box b1 [.slice o_x0 x0.length c_x0] 24 :: L) _ := Sub.of (Zone.le_refl _) hS148
      refine p_qS 1 [] [(43, vI (w64 (y1 + r1))), (45, vI y4), (47, vI y5), (49, vI y6)] [] [] s26 hf248 (by kernel_rfl) (fun _ s => .nil) .nil fun a235 hf249 => ?_
      obtain ⟨r2, hd30, hr79⟩ := bind_some hr78
      refine p_call (i := 14) (d := some 50) (f := 52) (args := #[vI y5, vI y6]) hf249 (by kernel_rfl) (f52_ok fuel y5 y6 r2 hd30 z9 _ _ hS148 ) ?_
      rintro v34 ww120 a236 ⟨rfl, hS149⟩ hf250
      refine ⟨fun _ => Sub.of (Zone.le_refl _) hS149, ?_⟩
      have s27 : Sub z9 (box b23 [vI y4, vI y5, vI y6] 92 :: box b12 [vI y1, vI y2, vI y3] 92 :: box b1 [.slice o_x0 x0.length c_x0] 24 :: L) _ := Sub.of (Zone.le_refl _) hS149
      refine p_qS 4 [] [(6, vI (w64 (y1 + r1))), (7, vI (w64 (y4 + r2))), (8, vI 0)] [] [] s27 hf250 (by kernel_rfl) (fun _ s => .nil) .nil fun a237 hf251 => ?_
      refine p_dt (by kernel_rfl) ?_
      refine w_ret (by kernel_rfl) ?_
      refine p_ret (os := []) (v := .tuple #[vI (w64 (y1 + r1)), vI (w64 (y4 + r2)), vI 0]) (obs := []) hf251 (by kernel_rfl) .nil ?_
      obtain rfl := some_eq hr79
      exact ⟨_, rfl, z9, (Zone.le_trans (Zone.le_trans (Zone.le_trans k3 k5) k10) k15), rfl, (St.drop 3 hS149)⟩
def F30_j1 (y1 : List Rng) : Option (List Rng × Int) :=
  (some (y1, 0))
def F30_j2 (k1 : (List Rng) → Int → Int → Option (List Rng × Int)) (y2 : Int) (y3 : List Rng) : Option (List Rng × Int) :=
  (k1 y3 y2 (w64 (y2 + (1 : Int))))
def F30_j4 (k1 : (List Rng) → Int → Int → Option (List Rng × Int)) (y4 : List Rng) (y2 : Int) (y5 : Bool) : Option (List Rng × Int) :=
  (cond y5 ((getI y4 (w64 ((y4.length : Int) - (1 : Int)))).bind fun p1 => ((setI y4 (w64 ((y4.length : Int) - (1 : Int))) ({ p1 with hi := y2 })).bind fun d1 => (F30_j2 k1 y2 d1))) ((appC y4 ([⟨y2, y2⟩])).bind fun d2 => (F30_j2 k1 y2 d2)))
def F30_j3 (k1 : (List Rng) → Int → Int → Option (List Rng × Int)) (y4 : List Rng) (y2 : Int) (y6 : Bool) : Option (List Rng × Int) :=
  (cond (!y6) (F30_j2 k1 y2 y4) (cond (decide ((w64 ((y4.length : Int) - (1 : Int))) ≥ (0 : Int))) ((getI y4 (w64 ((y4.length : Int) - (1 : Int)))).bind fun p2 => (F30_j4 k1 y4 y2 (p2.hi == (w64 (y2 - (1 : Int)))))) (F30_j4 k1 y4 y2 false)))
def F30_l1 (fuel : Nat) (x1_lo : Int) (x1_hi : Int) (p3 : Pt) (p4 : Pt) : Nat → (List Rng) → Int → Int → Option (List Rng × Int)
  | 0, _, _, _ => none
  | n1 + 1, y4, y7, y2 =>
    let k1 : (List Rng) → Int → Int → Option (List Rng × Int) := F30_l1 fuel x1_lo x1_hi p3 p4 n1
    (cond (decide (y2 ≤ p4.x)) ((F75 fuel p3.x p3.lo p3.hi p4.x p4.lo p4.hi y2).bind fun r1 => (cond (decide (r1.1 ≤ x1_hi)) (F30_j3 k1 y4 y2 (decide (x1_lo ≤ r1.2))) (F30_j3 k1 y4 y2 false))) (F30_j1 y4))
def F30_j5 (k2 : (List Rng) → Int → Int → Option (List Rng × Int)) (y8 : Int) (y9 : List Rng) : Option (List Rng × Int) :=
  (k2 y9 y8 (w64 (y8 + (1 : Int))))
def F30_j7 (k2 : (List Rng) → Int → Int → Option (List Rng × Int)) (y10 : List Rng) (y8 : Int) (y11 : Bool) : Option (List Rng × Int) :=
  (cond y11 ((getI y10 (w64 ((y10.length : Int) - (1 : Int)))).bind fun p5 => ((setI y10 (w64 ((y10.length : Int) - (1 : Int))) ({ p5 with hi := y8 })).bind fun d3 => (F30_j5 k2 y8 d3))) ((appC y10 ([⟨y8, y8⟩])).bind fun d4 => (F30_j5 k2 y8 d4)))
def F30_j6 (k2 : (List Rng) → Int → Int → Option (List Rng × Int)) (y10 : List Rng) (y8 : Int) (y12 : Bool) : Option (List Rng × Int) :=
  (cond (!y12) (F30_j5 k2 y8 y10) (cond (decide ((w64 ((y10.length : Int) - (1 : Int))) ≥ (0 : Int))) ((getI y10 (w64 ((y10.length : Int) - (1 : Int)))).bind fun p6 => (F30_j7 k2 y10 y8 (p6.hi == (w64 (y8 - (1 : Int)))))) (F30_j7 k2 y10 y8 false)))
def F30_l3 (fuel : Nat) (k3 : (List Rng) → Int → Int → Option (List Rng × Int)) (x1_lo : Int) (x1_hi : Int) (y13 : Int) (p7 : Pt) (p8 : Pt) : Nat → (List Rng) → Int → Int → Option (List Rng × Int)
  | 0, _, _, _ => none
  | n2 + 1, y10, y14, y8 =>
    let k2 : (List Rng) → Int → Int → Option (List Rng × Int) := F30_l3 fuel k3 x1_lo x1_hi y13 p7 p8 n2
    (cond (decide (y8 ≤ p7.x)) ((F75 fuel p8.x p8.lo p8.hi p7.x p7.lo p7.hi y8).bind fun r2 => (cond (decide (r2.1 ≤ x1_hi)) (F30_j6 k2 y10 y8 (decide (x1_lo ≤ r2.2))) (F30_j6 k2 y10 y8 false))) (k3 y10 y14 (w64 (y13 + (1 : Int)))))
def F30_l2 (fuel : Nat) (x0 : List Pt) (x1_lo : Int) (x1_hi : Int) (d5 : List Pt) : Nat → (List Rng) → Int → Int → Option (List Rng × Int)
  | 0, _, _, _ => none
  | n3 + 1, y15, y16, y13 =>
    let k3 : (List Rng) → Int → Int → Option (List Rng × Int) := F30_l2 fuel x0 x1_lo x1_hi d5 n3
    (cond (decide (y13 < (d5.length : Int))) ((getI d5 y13).bind fun p7 => ((getI x0 y13).bind fun p8 => (F30_l3 fuel k3 x1_lo x1_hi y13 p7 p8 fuel y15 y16 (if (w64 (y16 + (1 : Int))) > p8.x then (w64 (y16 + (1 : Int))) else p8.x)))) (F30_j1 y15))
def F30 (fuel : Nat) (x0 : List Pt) (x1_lo : Int) (x1_hi : Int) : Option (List Rng × Int) :=
  ((F10 fuel x0).bind fun r3 => (cond (r3 != (0 : Int)) (some ([], r3)) ((F42 fuel x1_lo x1_hi).bind fun r4 => (cond (r4 != (0 : Int)) (some ([], r4)) (cond ((x0.length : Int) == (1 : Int)) ((getI x0 0).bind fun p3 => ((getI x0 0).bind fun p4 => (F30_l1 fuel x1_lo x1_hi p3 p4 fuel ([]) (-1) (if 0 > p3.x then 0 else p3.x)))) ((subI x0 1 (x0.length : Int)).bind fun d5 => (F30_l2 fuel x0 x1_lo x1_hi d5 fuel ([]) (-1) 0)))))))
set_option maxRecDepth 100000 in
theorem f30_ok (fuel : Nat) (x0 : List Pt) (x1_lo : Int) (x1_hi : Int) (r : List Rng × Int) (hr : F30 fuel x0 x1_lo x1_hi = some r) (h : Zone) (L : List Atom) (w : World) (hS : St h L w) (o_x0 : Option Addr) (c_x0 : Nat) (hx_x0 : SliceR PtT h o_x0 c_x0 x0) :
    Calls Tryz.prog 30 #[.agg #[.slice o_x0 x0.length c_x0], .agg #[vI x1_lo, vI x1_hi]] w fun e w' => ∃ v, e = .returned v ∧ (∃ h', ∃ o0 : Option Addr, ∃ c0 : Nat, Zone.le h h' ∧ v = .tuple #[.slice o0 r.1.length c0, vI r.2] ∧ St h' L w' ∧ SliceR RngT h' o0 c0 r.1) := by
 refine calls_intro (N := 21) Tryz.func30 (by kernel_rfl) fun a hf => ?_
 refine w_sr (by kernel_rfl) ?_
 refine p_box (i := 0) (d := (some 2)) (cs := [.slice o_x0 x0.length c_x0]) (T := 24) (v := fun b1 => pB b1 0) hS hf (fun b => by kernel_rfl) fun b1 ww1 a1 hS1 hf1 => ⟨fun _ => trivial, ?_⟩
 refine p_box (i := 1) (d := (some 3)) (cs := [vI x1_lo, vI x1_hi]) (T := 59) (v := fun b2 => pB b2 0) hS1 hf1 (fun b => by kernel_rfl) fun b2 ww2 a2 hS2 hf2 => ⟨fun _ => trivial, ?_⟩
 refine p_qt [] [(2, pB b1 0), (3, pB b2 0)] [] hf2 (by kernel_rfl) .nil fun a3 hf3 => ?_
 refine w_seq (by kernel_rfl) ?_
 refine w_sr (by kernel_rfl) ?_
 refine p_qn 1 [.slice o_x0 x0.length c_x0] [(2, pB b1 0), (3, pB b2 0), (8, .agg #[.slice o_x0 x0.length c_x0])] [.cell ⟨b1, 0, none⟩ (.slice o_x0 x0.length c_x0)] hf3 (by kernel_rfl) (.cell (hS2.box (i := 1) rfl (j := 0) rfl) .nil) fun a4 hf4 => ?_
 obtain ⟨r3, hd1, hr1⟩ := bind_some hr
 refine p_call (i := 1) (d := some 9) (f := 10) (args := #[.agg #[.slice o_x0 x0.length c_x0]]) hf4 (by kernel_rfl) (f10_ok fuel x0 r3 hd1 h _ _ hS2 o_x0 c_x0 hx_x0) ?_
 rintro v1 ww3 a5 ⟨z1, k4, rfl, hS3⟩ hf5
 refine ⟨fun _ => trivial, ?_⟩
 refine p_qt [] [(2, pB b1 0), (3, pB b2 0), (6, vI r3)] [] hf5 (by kernel_rfl) .nil fun a6 hf6 => ?_
 refine w_sq [] [(2, pB b1 0), (3, pB b2 0), (6, vI r3), (11, .bool (r3 != (0 : Int)))] [] hf6 (by kernel_rfl) .nil fun a7 hf7 => ?_
 refine w_if hf7 (b := (r3 != (0 : Int))) (by kernel_rfl) (fun hb1 => ?_) (fun hb1 => ?_)
 ·have hr2 := cond_t hb1 hr1
  refine w_sq [] [(4, .slice none 0 0), (5, vI r3)] [] hf7 (by kernel_rfl) .nil fun a8 hf8 => ?_
  refine w_ret (by kernel_rfl) ?_
  refine r_then ?_
  refine p_ret (os := []) (v := .tuple #[.slice none 0 0, vI r3]) (obs := []) hf8 (by kernel_rfl) .nil ?_
  obtain rfl := some_eq hr2
  exact ⟨_, rfl, z1, none, 0, k4, rfl, (St.drop 2 hS3), SliceR.nil' _ _⟩
 ·have hr3 := cond_f hb1 hr1
  refine w_skip (by kernel_rfl) ?_
  refine n_then ?_
  refine w_seq (by kernel_rfl) ?_
  refine w_sr (by kernel_rfl) ?_
  refine p_qn 1 [vI x1_lo, vI x1_hi] [(2, pB b1 0), (3, pB b2 0), (13, .agg #[vI x1_lo, vI x1_hi])] [.cell ⟨b2, 0, none⟩ (vI x1_lo), .cell ⟨b2, 1, none⟩ (vI x1_hi)] hf7 (by kernel_rfl) (.cell (hS3.box (i := 0) rfl (j := 0) rfl) (.cell (hS3.box (i := 0) rfl (j := 1) rfl) .nil)) fun a9 hf9 => ?_
  obtain ⟨r4, hd2, hr4⟩ := bind_some hr3
  refine p_call (i := 1) (d := some 14) (f := 42) (args := #[.agg #[vI x1_lo, vI x1_hi]]) hf9 (by kernel_rfl) (f42_ok fuel x1_lo x1_hi r4 hd2 z1 _ _ hS3 ) ?_
  rintro v2 ww4 a10 ⟨z2, k5, rfl, hS4⟩ hf10
  refine ⟨fun _ => trivial, ?_⟩
  refine p_qt [] [(2, pB b1 0), (3, pB b2 0), (7, vI r4)] [] hf10 (by kernel_rfl) .nil fun a11 hf11 => ?_
  refine w_sq [] [(2, pB b1 0), (3, pB b2 0), (7, vI r4), (16, .bool (r4 != (0 : Int)))] [] hf11 (by kernel_rfl) .nil fun a12 hf12 => ?_
  refine w_if hf12 (b := (r4 != (0 : Int))) (by kernel_rfl) (fun hb2 => ?_) (fun hb2 => ?_)
  ·have hr5 := cond_t hb2 hr4
   refine w_sq [] [(4, .slice none 0 0), (5, vI r4)] [] hf12 (by kernel_rfl) .nil fun a13 hf13 => ?_
   refine w_ret (by kernel_rfl) ?_
   refine r_then ?_
   refine p_ret (os := []) (v := .tuple #[.slice none 0 0, vI r4]) (obs := []) hf13 (by kernel_rfl) .nil ?_
   obtain rfl := some_eq hr5
   exact ⟨_, rfl, z2, none, 0, (Zone.le_trans k4 k5), rfl, (St.drop 2 hS4), SliceR.nil' _ _⟩
  ·have hr6 := cond_f hb2 hr4
   refine w_skip (by kernel_rfl) ?_
   refine n_then ?_
   refine w_sr (by kernel_rfl) ?_
   refine p_qn 2 [.slice o_x0 x0.length c_x0] [(18, .agg #[.slice o_x0 x0.length c_x0]), (19, .func (.func 54) #[] #[pB b2 0])] [.cell ⟨b1, 0, none⟩ (.slice o_x0 x0.length c_x0)] hf12 (by kernel_rfl) (.cell (hS4.box (i := 1) rfl (j := 0) rfl) .nil) fun a14 hf14 => ?_
   refine p_call (i := 2) (d := some 20) (f := 53) (args := #[.agg #[.slice o_x0 x0.length c_x0], .func (.func 54) #[] #[pB b2 0]]) hf14 (by kernel_rfl) (Φ := fun v w => ∃ z3 : Zone, ∃ y1 : List Rng, ∃ e1 : Option Addr, ∃ q1 : Nat, Zone.le z2 z3 ∧ v = .slice e1 y1.length q1 ∧ St z3 (ownS RngT 59 e1 q1 y1 :: box b2 [vI x1_lo, vI x1_hi] 59 :: box b1 [.slice o_x0 x0.length c_x0] 24 :: L) w ∧ (F30_j1 y1) = some r) ?_ ?_
   ·refine calls_intro (N := 60) Tryz.func53 (by kernel_rfl) fun a15 hf15 => ?_
    refine w_sr (by kernel_rfl) ?_
    refine p_box (i := 0) (d := (some 2)) (cs := [.slice o_x0 x0.length c_x0]) (T := 24) (v := fun b3 => pB b3 0) hS4 hf15 (fun b => by kernel_rfl) fun b3 ww5 a16 hS5 hf16 => ⟨fun _ => trivial, ?_⟩
    refine p_box (i := 1) (d := (some 3)) (cs := [.func (.func 54) #[] #[pB b2 0]]) (T := 97) (v := fun b4 => pB b4 0) hS5 hf16 (fun b => by kernel_rfl) fun b4 ww6 a17 hS6 hf17 => ⟨fun _ => trivial, ?_⟩
    refine p_qt [] [(2, pB b3 0), (3, pB b4 0)] [] hf17 (by kernel_rfl) .nil fun a18 hf18 => ?_
    refine w_sr (by kernel_rfl) ?_
    refine p_box (i := 0) (d := (some 5)) (cs := [.slice none 0 0]) (T := 67) (v := fun b5 => pB b5 0) hS6 hf18 (fun b => by kernel_rfl) fun b5 ww7 a19 hS7 hf19 => ⟨fun _ => trivial, ?_⟩
    refine p_dt (by kernel_rfl) ?_
    refine w_sr (by kernel_rfl) ?_
    refine p_box (i := 0) (d := (some 6)) (cs := [vI 0]) (T := 3) (v := fun b6 => pB b6 0) hS7 hf19 (fun b => by kernel_rfl) fun b6 ww8 a20 hS8 hf20 => ⟨fun _ => trivial, ?_⟩
    refine p_store_eq (i := 1) (j := 0) (b := b6) (off := 0) (vs := [vI (-1)]) (cs' := [vI (-1)]) hS8 hf20 rfl (by kernel_rfl) (by kernel_rfl) rfl fun ww9 a21 hS9 hf21 => ⟨fun _ => trivial, ?_⟩
    refine p_dt (by kernel_rfl) ?_
    refine w_seq (by kernel_rfl) ?_
    refine w_sr (by kernel_rfl) ?_
    refine p_qn 1 [.slice o_x0 x0.length c_x0] [(3, pB b4 0), (5, pB b5 0), (6, pB b6 0), (10, .agg #[.slice o_x0 x0.length c_x0])] [.cell ⟨b3, 0, none⟩ (.slice o_x0 x0.length c_x0)] hf21 (by kernel_rfl) (.cell (hS9.box (i := 3) rfl (j := 0) rfl) .nil) fun a22 hf22 => ?_
    refine p_inl (i := 1) (d := some 11) (f := 73) (args := #[.agg #[.slice o_x0 x0.length c_x0]]) (N' := 4) hf22 (by kernel_rfl) Tryz.func73 (by kernel_rfl) fun a23 hf23 => ?_
    refine w_sr (by kernel_rfl) ?_
    refine p_box (i := 0) (d := (some 1)) (cs := [.slice o_x0 x0.length c_x0]) (T := 24) (v := fun b7 => pB b7 0) hS9 hf23 (fun b => by kernel_rfl) fun b7 ww10 a24 hS10 hf24 => ⟨fun _ => trivial, ?_⟩
    refine p_qt [] [(1, pB b7 0)] [] hf24 (by kernel_rfl) .nil fun a25 hf25 => ?_
    refine w_sq [] [(2, .func (.func 101) #[] #[pB b7 0])] [] hf25 (by kernel_rfl) .nil fun a26 hf26 => ?_
    refine w_ret (by kernel_rfl) ?_
    refine p_ret (os := []) (v := .func (.func 101) #[] #[pB b7 0]) (obs := []) hf26 (by kernel_rfl) .nil ?_
    refine ⟨_, rfl, fun a27 hf27 => ?_⟩
    refine ⟨fun _ => trivial, ?_⟩
    refine p_dt (by kernel_rfl) ?_
    refine w_block (id := 0) (by kernel_rfl) ?_
    have hf28 := Fr.keep (ks := [3, 5, 6, 11]) (r := [(3, pB b4 0), (5, pB b5 0), (6, pB b6 0), (11, .func (.func 101) #[] #[pB b7 0])]) hf27 (by kernel_rfl)
    refine w_range (g := 11) (gf := 101) (lb := #[pB b7 0]) (by kernel_rfl) hf28 hS10 (by kernel_rfl) (fun l => by kernel_rfl) fun ps1 RA1 RB1 hps1 hA1 hB1 l1 D1 ww11 hS11 => ?_
    refine calls_intro (N := 40) Tryz.func101 (by kernel_rfl) fun a28 hf29 => ?_
    refine w_seq (by kernel_rfl) ?_
    refine w_sq [.slice o_x0 x0.length c_x0] [(0, .func (.yield l1) #[] #[]), (1, pB b7 0), (8, .bool ((x0.length : Int) == (1 : Int)))] [.cell ⟨b7, 0, none⟩ (.slice o_x0 x0.length c_x0)] hf29 (by kernel_rfl) (.cell (hS11.box (i := 2) rfl (j := 0) rfl) .nil) fun a29 hf30 => ?_
    refine w_if hf30 (b := ((x0.length : Int) == (1 : Int))) (by kernel_rfl) (fun hb3 => ?_) (fun hb3 => ?_)
    ·have hr7 := cond_t hb3 hr6
     refine w_seq (by kernel_rfl) ?_
     refine w_regDY (by kernel_rfl) 10 [(0, true), (1, true), (2, true), (3, true), (4, true), (5, true), (6, true), (7, true), (8, true), (9, true)] [] (by kernel_rfl) ?_
     have hS12 := hS11.drew
     obtain ⟨p3, hp34462, hr8⟩ := bind_some hr7
     obtain ⟨ad1, ho1, hb4, cc1, hc1, hk1⟩ := SliceR.getI (SliceR.mono (Zone.le_trans k4 k5) hx_x0) hp34462
     subst hc1
     obtain ⟨p4, hp34471, hr9⟩ := bind_some hr8
     obtain ⟨ad2, ho2, hb5, cc2, hc2, hk2⟩ := SliceR.getI (SliceR.mono (Zone.le_trans k4 k5) hx_x0) hp34471
     subst hc2
     refine p_qzE [.slice o_x0 x0.length c_x0, .pointer (some ad1), vI p3.x, vI p3.lo, vI p3.hi, .slice o_x0 x0.length c_x0, .pointer (some ad2), vI p4.x, vI p4.lo, vI p4.hi] [(9, .func (.yield l1) #[] #[]), (18, .agg #[vI p3.x, vI p3.lo, vI p3.hi, vI p4.x, vI p4.lo, vI p4.hi])] [.cell ⟨b7, 0, none⟩ (.slice o_x0 x0.length c_x0), .prop (o_x0 = some ad1), .prop (0 ≤ (0 : Int) ∧ (0 : Int) < (x0.length : Nat)), .cell ((ad1.add (Int.toNat 0 * 3)).add 0) (vI p3.x), .cell ((ad1.add (Int.toNat 0 * 3)).add 1) (vI p3.lo), .cell ((ad1.add (Int.toNat 0 * 3)).add 2) (vI p3.hi), .cell ⟨b7, 0, none⟩ (.slice o_x0 x0.length c_x0), .prop (o_x0 = some ad2), .prop (0 ≤ (0 : Int) ∧ (0 : Int) < (x0.length : Nat)), .cell ((ad2.add (Int.toNat 0 * 3)).add 0) (vI p4.x), .cell ((ad2.add (Int.toNat 0 * 3)).add 1) (vI p4.lo), .cell ((ad2.add (Int.toNat 0 * 3)).add 2) (vI p4.hi)] [] hf30 (by kernel_rfl) (.cell (hS12.box (i := 2) rfl (j := 0) rfl) (.prop ho1 (.prop hb4 (.cell (hS12.cell (hk1 0 _ rfl)) (.cell (hS12.cell (hk1 1 _ rfl)) (.cell (hS12.cell (hk1 2 _ rfl)) (.cell (hS12.box (i := 2) rfl (j := 0) rfl) (.prop ho2 (.prop hb5 (.cell (hS12.cell (hk2 0 _ rfl)) (.cell (hS12.cell (hk2 1 _ rfl)) (.cell (hS12.cell (hk2 2 _ rfl)) .nil)))))))))))) .nil fun a30 hf31 => ?_
     refine p_yield (d := some 19) (l := l1) (args := #[.agg #[vI p3.x, vI p3.lo, vI p3.hi, vI p4.x, vI p4.lo, vI p4.hi]]) hf31 (by kernel_rfl) hS12 (j := 0) rfl (by rw [hps1]; kernel_rfl) fun a31 hf32 => ?_
     rw [hps1] at hf32
     refine cw_eq hA1 ?_
     refine w_reg (by kernel_rfl) ?_
     refine p_box (i := 0) (d := (some 7)) (cs := [vI 0, vI 0, vI 0, vI 0, vI 0, vI 0]) (T := 118) (v := fun b8 => pB b8 0) hS12 hf32 (fun b => by kernel_rfl) fun b8 ww12 a32 hS13 hf33 => ⟨fun _ => trivial, ?_⟩
     refine p_store_eq (i := 1) (j := 0) (b := b8) (off := 0) (vs := [vI p3.x, vI p3.lo, vI p3.hi, vI p4.x, vI p4.lo, vI p4.hi]) (cs' := [vI p3.x, vI p3.lo, vI p3.hi, vI p4.x, vI p4.lo, vI p4.hi]) hS13 hf33 rfl (by kernel_rfl) (by kernel_rfl) rfl fun ww13 a33 hS14 hf34 => ⟨fun _ => trivial, ?_⟩
     refine p_dt (by kernel_rfl) ?_
     refine p_begin hS14 (j := 1) rfl fun ww14 hS15 => ?_
     refine cw_eq hB1 ?_
     refine w_block (id := 1) (by kernel_rfl) ?_
     refine w_sq [vI p3.x, vI (-1)] [(3, pB b4 0), (5, pB b5 0), (6, pB b6 0), (7, pB b8 0), (8, vI (if 0 > p3.x then 0 else p3.x))] [.cell ⟨b8, 0, none⟩ (vI p3.x), .cell ⟨b6, 0, none⟩ (vI (-1))] hf34 (by kernel_rfl) (.cell (hS15.box (i := 0) rfl (j := 0) rfl) (.cell (hS15.box (i := 4) rfl (j := 0) rfl) .nil)) fun a34 hf35 => ?_
     refine w_block (id := 2) (by kernel_rfl) ?_
     have hS16 := hS15.ownNil RngT 59
     have hf36 := Fr.keep (ks := [3, 5, 6, 7, 8]) (r := [(3, pB b4 0), (5, pB b5 0), (6, pB b6 0), (7, pB b8 0), (8, vI (if 0 > p3.x then 0 else p3.x))]) hf35 (by kernel_rfl)
     refine w_loop (by kernel_rfl) (fun n a w => ∃ z4 : Zone, ∃ y4 : List Rng, ∃ y7 : Int, ∃ y2 : Int, ∃ e2 : Option Addr, ∃ q2 : Nat, Zone.le z2 z4 ∧ Fr a 60 [(3, pB b4 0), (5, pB b5 0), (6, pB b6 0), (7, pB b8 0), (8, vI y2)] ∧ St z4 (ownS RngT 59 e2 q2 y4 :: box b8 [vI p3.x, vI p3.lo, vI p3.hi, vI p4.x, vI p4.lo, vI p4.hi] 118 :: loopA l1 60 [(3, pB b4 0), (5, pB b5 0), (6, pB b6 0), (11, .func (.func 101) #[] #[pB b7 0])] ps1 RA1 RB1 D1 .busy none :: defA D1 :: box b7 [.slice o_x0 x0.length c_x0] 24 :: box b6 [vI y7] 3 :: box b5 [.slice e2 y4.length q2] 67 :: box b4 [.func (.func 54) #[] #[pB b2 0]] 97 :: box b3 [.slice o_x0 x0.length c_x0] 24 :: box b2 [vI x1_lo, vI x1_hi] 59 :: box b1 [.slice o_x0 x0.length c_x0] 24 :: L) w ∧ (F30_l1 fuel x1_lo x1_hi p3 p4 n y4 y7 y2) = some r) fuel ⟨z2, [], -1, (if 0 > p3.x then 0 else p3.x), none, 0, (Zone.le_refl _), hf36, hS16, hr9⟩ ?_
     rintro n4 a35 ww15 ⟨z4, y4, y7, y2, e2, q2, k6, hf37, hS17, hr10⟩
     cases n4 with
     | zero => cases hr10
     | succ n1 =>
     refine w_seq (by kernel_rfl) ?_
     refine w_sq [vI p4.x] [(3, pB b4 0), (5, pB b5 0), (6, pB b6 0), (7, pB b8 0), (8, vI y2), (23, .bool (decide (y2 ≤ p4.x)))] [.cell ⟨b8, 3, none⟩ (vI p4.x)] hf37 (by kernel_rfl) (.cell (hS17.box (i := 1) rfl (j := 3) rfl) .nil) fun a36 hf38 => ?_
     refine w_if hf38 (b := (decide (y2 ≤ p4.x))) (by kernel_rfl) (fun hb6 => ?_) (fun hb6 => ?_)
     ·have hr11 := cond_t hb6 hr10
      refine w_skip (by kernel_rfl) ?_
      refine n_then ?_
      refine w_mid (by kernel_rfl) (fun a w => ∃ z5 : Zone, ∃ y3 : List Rng, ∃ e3 : Option Addr, ∃ q3 : Nat, Zone.le z4 z5 ∧ Fr a 60 [(3, pB b4 0), (5, pB b5 0), (6, pB b6 0), (7, pB b8 0), (8, vI y2)] ∧ St z5 (ownS RngT 59 e3 q3 y3 :: box b8 [vI p3.x, vI p3.lo, vI p3.hi, vI p4.x, vI p4.lo, vI p4.hi] 118 :: loopA l1 60 [(3, pB b4 0), (5, pB b5 0), (6, pB b6 0), (11, .func (.func 101) #[] #[pB b7 0])] ps1 RA1 RB1 D1 .busy none :: defA D1 :: box b7 [.slice o_x0 x0.length c_x0] 24 :: box b6 [vI y2] 3 :: box b5 [.slice e3 y3.length q3] 67 :: box b4 [.func (.func 54) #[] #[pB b2 0]] 97 :: box b3 [.slice o_x0 x0.length c_x0] 24 :: box b2 [vI x1_lo, vI x1_hi] 59 :: box b1 [.slice o_x0 x0.length c_x0] 24 :: L) w ∧ (F30_j2 (F30_l1 fuel x1_lo x1_hi p3 p4 n1) y2 y3) = some r) ?_ ?_
      ·skip
       refine w_block (id := 3) (by kernel_rfl) ?_
       refine w_sr (by kernel_rfl) ?_
       refine p_qn 1 [] [(3, pB b4 0), (5, pB b5 0), (6, pB b6 0), (7, pB b8 0), (8, vI y2), (26, vI y2)] [] hf38 (by kernel_rfl) .nil fun a37 hf39 => ?_
       refine p_store_eq (i := 1) (j := 5) (b := b6) (off := 0) (vs := [vI y2]) (cs' := [vI y2]) hS17 hf39 rfl (by kernel_rfl) (by kernel_rfl) rfl fun ww16 a38 hS18 hf40 => ⟨fun _ => trivial, ?_⟩
       refine p_dt (by kernel_rfl) ?_
       refine w_seq (by kernel_rfl) ?_
       refine w_seq (by kernel_rfl) ?_
       have hS19 := hS18.drew
       have s1 : Sub z4 (ownS RngT 59 e2 q2 y4 :: box b8 [vI p3.x, vI p3.lo, vI p3.hi, vI p4.x, vI p4.lo, vI p4.hi] 118 :: loopA l1 60 [(3, pB b4 0), (5, pB b5 0), (6, pB b6 0), (11, .func (.func 101) #[] #[pB b7 0])] ps1 RA1 RB1 D1 .busy none :: defA D1 :: box b7 [.slice o_x0 x0.length c_x0] 24 :: box b6 [vI y2] 3 :: box b5 [.slice e2 y4.length q2] 67 :: box b4 [.func (.func 54) #[] #[pB b2 0]] 97 :: box b3 [.slice o_x0 x0.length c_x0] 24 :: box b2 [vI x1_lo, vI x1_hi] 59 :: box b1 [.slice o_x0 x0.length c_x0] 24 :: L) _ := Sub.of (Zone.le_refl _) hS19
       refine w_regD (by kernel_rfl) [(0, true), (1, true), (2, true), (3, false), (4, false), (5, true)] [4] (Sub z4 (ownS RngT 59 e2 q2 y4 :: box b8 [vI p3.x, vI p3.lo, vI p3.hi, vI p4.x, vI p4.lo, vI p4.hi] 118 :: loopA l1 60 [(3, pB b4 0), (5, pB b5 0), (6, pB b6 0), (11, .func (.func 101) #[] #[pB b7 0])] ps1 RA1 RB1 D1 .busy none :: defA D1 :: box b7 [.slice o_x0 x0.length c_x0] 24 :: box b6 [vI y2] 3 :: box b5 [.slice e2 y4.length q2] 67 :: box b4 [.func (.func 54) #[] #[pB b2 0]] 97 :: box b3 [.slice o_x0 x0.length c_x0] 24 :: box b2 [vI x1_lo, vI x1_hi] 59 :: box b1 [.slice o_x0 x0.length c_x0] 24 :: L)) (by kernel_rfl) s1 ?_
       refine p_qS 3 [.func (.func 54) #[] #[pB b2 0], vI p3.x, vI p3.lo, vI p3.hi, vI p4.x, vI p4.lo, vI p4.hi] [(3, pB b4 0), (5, pB b5 0), (6, pB b6 0), (7, pB b8 0), (8, vI y2), (27, .func (.func 54) #[] #[pB b2 0]), (28, .agg #[vI p3.x, vI p3.lo, vI p3.hi, vI p4.x, vI p4.lo, vI p4.hi]), (29, vI y2)] [.cell ⟨b4, 0, none⟩ (.func (.func 54) #[] #[pB b2 0]), .cell ⟨b8, 0, none⟩ (vI p3.x), .cell ⟨b8, 1, none⟩ (vI p3.lo), .cell ⟨b8, 2, none⟩ (vI p3.hi), .cell ⟨b8, 3, none⟩ (vI p4.x), .cell ⟨b8, 4, none⟩ (vI p4.lo), .cell ⟨b8, 5, none⟩ (vI p4.hi)] [] s1 hf40 (by kernel_rfl) (fun _ s => (.cell (s.box (i := 7) rfl (j := 0) rfl) (.cell (s.box (i := 1) rfl (j := 0) rfl) (.cell (s.box (i := 1) rfl (j := 1) rfl) (.cell (s.box (i := 1) rfl (j := 2) rfl) (.cell (s.box (i := 1) rfl (j := 3) rfl) (.cell (s.box (i := 1) rfl (j := 4) rfl) (.cell (s.box (i := 1) rfl (j := 5) rfl) .nil)))))))) .nil fun a39 hf41 => ?_
       obtain ⟨r1, hd3, hr12⟩ := bind_some hr11
       refine p_call (i := 3) (d := some 30) (f := 75) (args := #[.agg #[vI p3.x, vI p3.lo, vI p3.hi, vI p4.x, vI p4.lo, vI p4.hi], vI y2]) hf41 (by kernel_rfl) (f75_ok fuel p3.x p3.lo p3.hi p4.x p4.lo p4.hi y2 r1 hd3 z4 _ _ hS19 ) ?_
       rintro v3 ww17 a40 ⟨rfl, hS20⟩ hf42
       refine ⟨fun _ => Sub.of (Zone.le_refl _) hS20, ?_⟩
       have s2 : Sub z4 (ownS RngT 59 e2 q2 y4 :: box b8 [vI p3.x, vI p3.lo, vI p3.hi, vI p4.x, vI p4.lo, vI p4.hi] 118 :: loopA l1 60 [(3, pB b4 0), (5, pB b5 0), (6, pB b6 0), (11, .func (.func 101) #[] #[pB b7 0])] ps1 RA1 RB1 D1 .busy none :: defA D1 :: box b7 [.slice o_x0 x0.length c_x0] 24 :: box b6 [vI y2] 3 :: box b5 [.slice e2 y4.length q2] 67 :: box b4 [.func (.func 54) #[] #[pB b2 0]] 97 :: box b3 [.slice o_x0 x0.length c_x0] 24 :: box b2 [vI x1_lo, vI x1_hi] 59 :: box b1 [.slice o_x0 x0.length c_x0] 24 :: L) _ := Sub.of (Zone.le_refl _) hS20
       refine p_inl (i := 4) (d := some 31) (f := 54) (args := #[.agg #[vI r1.1, vI r1.2], pB b2 0]) (N' := 16) hf42 (by kernel_rfl) Tryz.func54 (by kernel_rfl) fun a41 hf43 => ?_
       refine w_sr (by kernel_rfl) ?_
       refine p_box (i := 0) (d := (some 2)) (cs := [vI r1.1, vI r1.2]) (T := 59) (v := fun b9 => pB b9 0) hS20 hf43 (fun b => by kernel_rfl) fun b9 ww18 a42 hS21 hf44 => ⟨fun _ => trivial, ?_⟩
       refine p_qt [] [(1, pB b2 0), (2, pB b9 0)] [] hf44 (by kernel_rfl) .nil fun a43 hf45 => ?_
       refine w_mid (by kernel_rfl) (fun a w => ∃ z6 : Zone, ∃ y6 : Bool, Zone.le z4 z6 ∧ Fr a 16 [(3, .bool y6)] ∧ St z6 (box b9 [vI r1.1, vI r1.2] 59 :: ownS RngT 59 e2 q2 y4 :: box b8 [vI p3.x, vI p3.lo, vI p3.hi, vI p4.x, vI p4.lo, vI p4.hi] 118 :: loopA l1 60 [(3, pB b4 0), (5, pB b5 0), (6, pB b6 0), (11, .func (.func 101) #[] #[pB b7 0])] ps1 RA1 RB1 D1 .busy none :: defA D1 :: box b7 [.slice o_x0 x0.length c_x0] 24 :: box b6 [vI y2] 3 :: box b5 [.slice e2 y4.length q2] 67 :: box b4 [.func (.func 54) #[] #[pB b2 0]] 97 :: box b3 [.slice o_x0 x0.length c_x0] 24 :: box b2 [vI x1_lo, vI x1_hi] 59 :: box b1 [.slice o_x0 x0.length c_x0] 24 :: L) w ∧ (F30_j3 (F30_l1 fuel x1_lo x1_hi p3 p4 n1) y4 y2 y6) = some r) ?_ ?_
       ·skip
        refine w_reg (by kernel_rfl) ?_
        refine p_qn 6 [vI r1.1, vI x1_hi] [(1, pB b2 0), (2, pB b9 0), (9, .bool (decide (r1.1 ≤ x1_hi)))] [.cell ⟨b9, 0, none⟩ (vI r1.1), .cell ⟨b2, 1, none⟩ (vI x1_hi)] hf45 (by kernel_rfl) (.cell (hS21.box (i := 0) rfl (j := 0) rfl) (.cell (hS21.box (i := 10) rfl (j := 1) rfl) .nil)) fun a44 hf46 => ?_
        rcases Bool.eq_false_or_eq_true (decide (r1.1 ≤ x1_hi)) with hb7 | hb7
        ·have hr13 := cond_t hb7 hr12
         have hf47 := Fr.conv hf46 (congrArg (fun z => ([(1, pB b2 0), (2, pB b9 0), (9, .bool z)] : FL)) hb7)
         refine p_qt [vI x1_lo, vI r1.2] [(3, .bool (decide (x1_lo ≤ r1.2)))] [.cell ⟨b2, 0, none⟩ (vI x1_lo), .cell ⟨b9, 1, none⟩ (vI r1.2)] hf47 (by kernel_rfl) (.cell (hS21.box (i := 10) rfl (j := 0) rfl) (.cell (hS21.box (i := 0) rfl (j := 1) rfl) .nil)) fun a45 hf48 => ?_
         have hf49 := Fr.keep (ks := [3]) (r := [(3, .bool (decide (x1_lo ≤ r1.2)))]) hf48 (by kernel_rfl)
         exact ⟨z4, (decide (x1_lo ≤ r1.2)), (Zone.le_refl _), hf49, hS21, hr13⟩
        ·have hr14 := cond_f hb7 hr12
         have hf50 := Fr.conv hf46 (congrArg (fun z => ([(1, pB b2 0), (2, pB b9 0), (9, .bool z)] : FL)) hb7)
         refine p_qt [] [(3, .bool false)] [] hf50 (by kernel_rfl) .nil fun a46 hf51 => ?_
         have hf52 := Fr.keep (ks := [3]) (r := [(3, .bool false)]) hf51 (by kernel_rfl)
         exact ⟨z4, false, (Zone.le_refl _), hf52, hS21, hr14⟩
       ·rintro a47 ww19 ⟨z6, y6, k7, hf53, hS22, hr15⟩
        refine w_ret (by kernel_rfl) ?_
        refine p_ret (os := []) (v := .bool y6) (obs := []) hf53 (by kernel_rfl) .nil ?_
        refine ⟨_, rfl, fun a48 hf54 => ?_⟩
        have hS23 := St.drop 1 hS22
        refine ⟨fun e => absurd e (by decide), ?_⟩
        refine p_qP 1 [] [(3, pB b4 0), (5, pB b5 0), (6, pB b6 0), (7, pB b8 0), (8, vI y2), (32, .bool (!y6))] [] hf54 (by kernel_rfl) (fun _ => .nil) fun a49 hf55 => ?_
        refine p_dt (by kernel_rfl) ?_
        refine w_if hf55 (b := (!y6)) (by kernel_rfl) (fun hb8 => ?_) (fun hb8 => ?_)
        ·have hr16 := cond_t hb8 hr15
         refine w_exit (id := 3) (by kernel_rfl) ?_
         refine x_then ?_
         refine x_block ?_
         refine n_then ?_
         have hf56 := Fr.keep (ks := [3, 5, 6, 7, 8]) (r := [(3, pB b4 0), (5, pB b5 0), (6, pB b6 0), (7, pB b8 0), (8, vI y2)]) hf55 (by kernel_rfl)
         exact ⟨z6, y4, e2, q2, k7, hf56, hS23, hr16⟩
        ·have hr17 := cond_f hb8 hr15
         refine w_skip (by kernel_rfl) ?_
         refine n_then ?_
         refine w_sq [.slice e2 y4.length q2] [(3, pB b4 0), (5, pB b5 0), (6, pB b6 0), (7, pB b8 0), (8, vI y2), (9, vI (w64 ((y4.length : Int) - (1 : Int))))] [.cell ⟨b5, 0, none⟩ (.slice e2 y4.length q2)] hf55 (by kernel_rfl) (.cell (hS23.box (i := 6) rfl (j := 0) rfl) .nil) fun a50 hf57 => ?_
         refine w_mid (by kernel_rfl) (fun a w => ∃ z7 : Zone, ∃ y5 : Bool, Zone.le z6 z7 ∧ Fr a 60 [(3, pB b4 0), (5, pB b5 0), (6, pB b6 0), (7, pB b8 0), (8, vI y2), (9, vI (w64 ((y4.length : Int) - (1 : Int)))), (47, .bool y5)] ∧ St z7 (ownS RngT 59 e2 q2 y4 :: box b8 [vI p3.x, vI p3.lo, vI p3.hi, vI p4.x, vI p4.lo, vI p4.hi] 118 :: loopA l1 60 [(3, pB b4 0), (5, pB b5 0), (6, pB b6 0), (11, .func (.func 101) #[] #[pB b7 0])] ps1 RA1 RB1 D1 .busy none :: defA D1 :: box b7 [.slice o_x0 x0.length c_x0] 24 :: box b6 [vI y2] 3 :: box b5 [.slice e2 y4.length q2] 67 :: box b4 [.func (.func 54) #[] #[pB b2 0]] 97 :: box b3 [.slice o_x0 x0.length c_x0] 24 :: box b2 [vI x1_lo, vI x1_hi] 59 :: box b1 [.slice o_x0 x0.length c_x0] 24 :: L) w ∧ (F30_j4 (F30_l1 fuel x1_lo x1_hi p3 p4 n1) y4 y2 y5) = some r) ?_ ?_
         ·skip
          refine w_reg (by kernel_rfl) ?_
          refine p_qn 3 [] [(3, pB b4 0), (5, pB b5 0), (6, pB b6 0), (7, pB b8 0), (8, vI y2), (9, vI (w64 ((y4.length : Int) - (1 : Int)))), (38, .bool (decide ((w64 ((y4.length : Int) - (1 : Int))) ≥ (0 : Int))))] [] hf57 (by kernel_rfl) .nil fun a51 hf58 => ?_
          rcases Bool.eq_false_or_eq_true (decide ((w64 ((y4.length : Int) - (1 : Int))) ≥ (0 : Int))) with hb9 | hb9
          ·have hr18 := cond_t hb9 hr17
           have hf59 := Fr.conv hf58 (congrArg (fun z => ([(3, pB b4 0), (5, pB b5 0), (6, pB b6 0), (7, pB b8 0), (8, vI y2), (9, vI (w64 ((y4.length : Int) - (1 : Int)))), (38, .bool z)] : FL)) hb9)
           obtain ⟨p2, hp37757, hr19⟩ := bind_some hr18
           obtain ⟨ad3, ho3, hb10, cc3, hc3, hk3⟩ := hS23.ownGet (j := 0) rfl hp37757
           subst hc3
           refine p_qt [.slice e2 y4.length q2, .pointer (some ad3), vI p2.hi] [(3, pB b4 0), (5, pB b5 0), (6, pB b6 0), (7, pB b8 0), (8, vI y2), (9, vI (w64 ((y4.length : Int) - (1 : Int)))), (39, .slice e2 y4.length q2), (40, vI (w64 ((y4.length : Int) - (1 : Int)))), (41, .pointer (some (ad3.add (Int.toNat (w64 ((y4.length : Int) - (1 : Int))) * 2)))), (42, .pointer (some ((ad3.add (Int.toNat (w64 ((y4.length : Int) - (1 : Int))) * 2)).add 1))), (43, vI p2.hi), (44, vI y2), (45, vI (w64 (y2 - (1 : Int)))), (46, .bool (p2.hi == (w64 (y2 - (1 : Int))))), (47, .bool (p2.hi == (w64 (y2 - (1 : Int)))))] [.cell ⟨b5, 0, none⟩ (.slice e2 y4.length q2), .prop (e2 = some ad3), .prop (0 ≤ (w64 ((y4.length : Int) - (1 : Int))) ∧ (w64 ((y4.length : Int) - (1 : Int))) < (y4.length : Nat)), .cell ((ad3.add (Int.toNat (w64 ((y4.length : Int) - (1 : Int))) * 2)).add 1) (vI p2.hi)] hf59 (by kernel_rfl) (.cell (hS23.box (i := 6) rfl (j := 0) rfl) (.prop ho3 (.prop hb10 (.cell (hk3 1 _ rfl) .nil)))) fun a52 hf60 => ?_
           have hf61 := Fr.keep (ks := [3, 5, 6, 7, 8, 9, 47]) (r := [(3, pB b4 0), (5, pB b5 0), (6, pB b6 0), (7, pB b8 0), (8, vI y2), (9, vI (w64 ((y4.length : Int) - (1 : Int)))), (47, .bool (p2.hi == (w64 (y2 - (1 : Int)))))]) hf60 (by kernel_rfl)
           exact ⟨z6, (p2.hi == (w64 (y2 - (1 : Int)))), (Zone.le_refl _), hf61, hS23, hr19⟩
          ·have hr20 := cond_f hb9 hr17
           have hf62 := Fr.conv hf58 (congrArg (fun z => ([(3, pB b4 0), (5, pB b5 0), (6, pB b6 0), (7, pB b8 0), (8, vI y2), (9, vI (w64 ((y4.length : Int) - (1 : Int)))), (38, .bool z)] : FL)) hb9)
           refine p_qt [] [(3, pB b4 0), (5, pB b5 0), (6, pB b6 0), (7, pB b8 0), (8, vI y2), (9, vI (w64 ((y4.length : Int) - (1 : Int)))), (39, undef), (40, undef), (41, undef), (42, undef), (43, undef), (44, undef), (45, undef), (46, undef), (47, .bool false)] [] hf62 (by kernel_rfl) .nil fun a53 hf63 => ?_
           have hf64 := Fr.keep (ks := [3, 5, 6, 7, 8, 9, 47]) (r := [(3, pB b4 0), (5, pB b5 0), (6, pB b6 0), (7, pB b8 0), (8, vI y2), (9, vI (w64 ((y4.length : Int) - (1 : Int)))), (47, .bool false)]) hf63 (by kernel_rfl)
           exact ⟨z6, false, (Zone.le_refl _), hf64, hS23, hr20⟩
         ·rintro a54 ww20 ⟨z7, y5, k8, hf65, hS24, hr21⟩
          refine w_if hf65 (b := y5) (by kernel_rfl) (fun hb11 => ?_) (fun hb11 => ?_)
          ·have hr22 := cond_t hb11 hr21
           refine w_reg (by kernel_rfl) ?_
           obtain ⟨p1, hp37777, hr23⟩ := bind_some hr22
           obtain ⟨ad4, ho4, hb12, cc4, hc4, hk4⟩ := hS24.ownGet (j := 0) rfl hp37777
           subst hc4
           refine p_qn 5 [.slice e2 y4.length q2, .pointer (some ad4)] [(3, pB b4 0), (5, pB b5 0), (6, pB b6 0), (7, pB b8 0), (8, vI y2), (50, vI y2), (52, .pointer (some ((ad4.add (Int.toNat (w64 ((y4.length : Int) - (1 : Int))) * 2)).add 1)))] [.cell ⟨b5, 0, none⟩ (.slice e2 y4.length q2), .prop (e2 = some ad4), .prop (0 ≤ (w64 ((y4.length : Int) - (1 : Int))) ∧ (w64 ((y4.length : Int) - (1 : Int))) < (y4.length : Nat))] hf65 (by kernel_rfl) (.cell (hS24.box (i := 6) rfl (j := 0) rfl) (.prop ho4 (.prop hb12 .nil))) fun a55 hf66 => ?_
           obtain ⟨d1, hd4, hr24⟩ := bind_some hr23
           have hl1 := setI_len hd4
           refine p_setOwn (i := 5) (j := 0) (ad := ad4) (ix := (w64 ((y4.length : Int) - (1 : Int)))) (off := 1) (vs := [vI y2]) (x' := ({ p1 with hi := y2 })) hS24 hf66 rfl ho4 hp37777 (by kernel_rfl) (by kernel_rfl) rfl hd4 fun ww21 a56 hS25 hf67 => ?_
           have hS26 := St.convL (L' := ownS RngT 59 e2 q2 d1 :: box b8 [vI p3.x, vI p3.lo, vI p3.hi, vI p4.x, vI p4.lo, vI p4.hi] 118 :: loopA l1 60 [(3, pB b4 0), (5, pB b5 0), (6, pB b6 0), (11, .func (.func 101) #[] #[pB b7 0])] ps1 RA1 RB1 D1 .busy none :: defA D1 :: box b7 [.slice o_x0 x0.length c_x0] 24 :: box b6 [vI y2] 3 :: box b5 [.slice e2 d1.length q2] 67 :: box b4 [.func (.func 54) #[] #[pB b2 0]] 97 :: box b3 [.slice o_x0 x0.length c_x0] 24 :: box b2 [vI x1_lo, vI x1_hi] 59 :: box b1 [.slice o_x0 x0.length c_x0] 24 :: L) hS25 (by rw [hl1] <;> rfl)
           refine ⟨fun _ => trivial, ?_⟩
           refine p_done (by kernel_rfl) ?_
           refine n_block ?_
           refine n_then ?_
           have hf68 := Fr.keep (ks := [3, 5, 6, 7, 8]) (r := [(3, pB b4 0), (5, pB b5 0), (6, pB b6 0), (7, pB b8 0), (8, vI y2)]) hf67 (by kernel_rfl)
           exact ⟨z7, d1, e2, q2, (Zone.le_trans k7 k8), hf68, hS26, hr24⟩
          ·have hr25 := cond_f hb11 hr21
           refine w_reg (by kernel_rfl) ?_
           refine p_qn 4 [.slice e2 y4.length q2] [(3, pB b4 0), (5, pB b5 0), (6, pB b6 0), (7, pB b8 0), (8, vI y2), (53, .slice e2 y4.length q2), (56, .agg #[vI y2, vI y2])] [.cell ⟨b5, 0, none⟩ (.slice e2 y4.length q2)] hf65 (by kernel_rfl) (.cell (hS24.box (i := 6) rfl (j := 0) rfl) .nil) fun a57 hf69 => ?_
           refine p_box (i := 4) (d := (some 57)) (cs := [vI y2, vI y2]) (T := 59) (v := fun b10 => .slice (some ⟨b10, 0, none⟩) 1 1) hS24 hf69 (fun b => by kernel_rfl) fun b10 ww22 a58 hS27 hf70 => ⟨fun _ => trivial, ?_⟩
           have hS28 := hS27.ownBox (T := RngT) (E := 59) (n := 1) (xs := [⟨y2, y2⟩]) (i := 0) rfl (Rows.cons (c := [vI y2, vI y2]) rfl rfl) rfl (by decide)
           obtain ⟨d2, hd5, hr26⟩ := bind_some hr25
           refine p_append (T := RngT) (i := 5) (j := 1) (d := some 58) (o2 := (some ⟨b10, 0, none⟩)) (c2 := 1) (ys := ([⟨y2, y2⟩])) el67 hS28 hf70 rfl (by kernel_rfl) (hS28.ownSrc (j := 0) rfl) hd5 fun e4 q4 ww23 a59 hS29 hf71 => ⟨fun _ => trivial, ?_⟩
           refine p_store_eq (i := 6) (j := 7) (b := b5) (off := 0) (vs := [.slice e4 d2.length q4]) (cs' := [.slice e4 d2.length q4]) hS29 hf71 rfl (by kernel_rfl) (by kernel_rfl) rfl fun ww24 a60 hS30 hf72 => ⟨fun _ => trivial, ?_⟩
           refine p_done (by kernel_rfl) ?_
           refine n_block ?_
           refine n_then ?_
           have hf73 := Fr.keep (ks := [3, 5, 6, 7, 8]) (r := [(3, pB b4 0), (5, pB b5 0), (6, pB b6 0), (7, pB b8 0), (8, vI y2)]) hf72 (by kernel_rfl)
           exact ⟨z7, d2, e4, q4, (Zone.le_trans k7 k8), hf73, (St.drop 1 hS30), hr26⟩
      ·rintro a61 ww25 ⟨z5, y3, e3, q3, k9, hf74, hS31, hr27⟩
       refine w_q [] [(3, pB b4 0), (5, pB b5 0), (6, pB b6 0), (7, pB b8 0), (8, vI (w64 (y2 + (1 : Int))))] [] hf74 (by kernel_rfl) .nil fun a62 hf75 => ?_
       refine n_then ?_
       have hf76 := Fr.keep (ks := [3, 5, 6, 7, 8]) (r := [(3, pB b4 0), (5, pB b5 0), (6, pB b6 0), (7, pB b8 0), (8, vI (w64 (y2 + (1 : Int))))]) hf75 (by kernel_rfl)
       exact ⟨n1, Nat.lt_succ_self n1, z5, y3, y2, (w64 (y2 + (1 : Int))), e3, q3, (Zone.le_trans k6 k9), hf76, hS31, hr27⟩
     ·have hr28 := cond_f hb6 hr10
      refine w_exit (id := 2) (by kernel_rfl) ?_
      refine x_then ?_
      refine x_then ?_
      refine x_block ?_
      refine n_block ?_
      refine p_roundN hS17 (j := 2) rfl fun ww26 a63 hS32 hf77 => ?_
      refine p_dt (by kernel_rfl) ?_
      refine w_ret (by kernel_rfl) ?_
      refine r_then ?_
      refine p_ret (os := []) (v := .tuple #[]) (obs := []) hf77 (by kernel_rfl) .nil ?_
      refine ⟨_, rfl, fun a64 hf78 => ?_⟩
      refine p_jump0 hS32 (j := 2) rfl (fun h => by cases h) fun ww27 hS33 => ?_
      refine n_block ?_
      refine n_then ?_
      refine w_sq [.slice e2 y4.length q2] [(4, .slice e2 y4.length q2)] [.cell ⟨b5, 0, none⟩ (.slice e2 y4.length q2)] hf78 (by kernel_rfl) (.cell (hS33.box (i := 6) rfl (j := 0) rfl) .nil) fun a65 hf79 => ?_
      refine w_ret (by kernel_rfl) ?_
      refine p_retM hf79 ?_
      refine p_mark hS33 (j := 3) rfl fun ww28 hS34 => ?_
      refine p_end (os := []) (v := .slice e2 y4.length q2) (obs := []) hf79 (by kernel_rfl) .nil ?_
      exact ⟨_, rfl, z4, y4, e2, q2, k6, rfl, (St.pick 9 [0] hS34 (by kernel_rfl)), hr28⟩
    ·have hr29 := cond_f hb3 hr6
     refine w_skip (by kernel_rfl) ?_
     refine n_then ?_
     obtain ⟨d5, hd6, hr30⟩ := bind_some hr29
     obtain ⟨e5, q5, hv1, hb13, hx1⟩ := SliceR.subV (SliceR.mono (Zone.le_trans k4 k5) hx_x0) hd6
     refine w_sq [.slice o_x0 x0.length c_x0, .slice e5 d5.length q5] [(0, .func (.yield l1) #[] #[]), (1, pB b7 0), (22, .slice e5 d5.length q5), (23, vI (d5.length : Int)), (24, vI 0)] [.cell ⟨b7, 0, none⟩ (.slice o_x0 x0.length c_x0), .prop ((.slice e5 d5.length q5 : Value) = .slice (subO o_x0 c_x0 (Int.toNat 1) 3) (Int.toNat (x0.length : Int) - Int.toNat 1) (c_x0 - Int.toNat 1)), .prop ((0 : Int) ≤ 1 ∧ (1 : Int) ≤ (x0.length : Int) ∧ (x0.length : Int) ≤ (c_x0 : Nat) ∧ x0.length ≤ c_x0)] hf30 (by kernel_rfl) (.cell (hS11.box (i := 2) rfl (j := 0) rfl) (.prop hv1 (.prop hb13 .nil))) fun a66 hf80 => ?_
     refine w_block (id := 0) (by kernel_rfl) ?_
     have hS35 := hS11.ownNil RngT 59
     have hf81 := Fr.keep (ks := [0, 1, 22, 23, 24]) (r := [(0, .func (.yield l1) #[] #[]), (1, pB b7 0), (22, .slice e5 d5.length q5), (23, vI (d5.length : Int)), (24, vI 0)]) hf80 (by kernel_rfl)
     refine w_loop (by kernel_rfl) (fun n a w => ∃ z8 : Zone, ∃ y15 : List Rng, ∃ y16 : Int, ∃ y13 : Int, ∃ e6 : Option Addr, ∃ q6 : Nat, Zone.le z2 z8 ∧ Fr a 40 [(0, .func (.yield l1) #[] #[]), (1, pB b7 0), (22, .slice e5 d5.length q5), (23, vI (d5.length : Int)), (24, vI y13)] ∧ St z8 (ownS RngT 59 e6 q6 y15 :: loopA l1 60 [(3, pB b4 0), (5, pB b5 0), (6, pB b6 0), (11, .func (.func 101) #[] #[pB b7 0])] ps1 RA1 RB1 D1 .ready none :: defA D1 :: box b7 [.slice o_x0 x0.length c_x0] 24 :: box b6 [vI y16] 3 :: box b5 [.slice e6 y15.length q6] 67 :: box b4 [.func (.func 54) #[] #[pB b2 0]] 97 :: box b3 [.slice o_x0 x0.length c_x0] 24 :: box b2 [vI x1_lo, vI x1_hi] 59 :: box b1 [.slice o_x0 x0.length c_x0] 24 :: L) w ∧ (F30_l2 fuel x0 x1_lo x1_hi d5 n y15 y16 y13) = some r) fuel ⟨z2, [], -1, 0, none, 0, (Zone.le_refl _), hf81, hS35, hr30⟩ ?_
     rintro n5 a67 ww29 ⟨z8, y15, y16, y13, e6, q6, k10, hf82, hS36, hr31⟩
     cases n5 with
     | zero => cases hr31
     | succ n3 =>
     refine w_sq [] [(0, .func (.yield l1) #[] #[]), (1, pB b7 0), (22, .slice e5 d5.length q5), (23, vI (d5.length : Int)), (24, vI y13), (25, .bool (decide (y13 < (d5.length : Int))))] [] hf82 (by kernel_rfl) .nil fun a68 hf83 => ?_
     refine w_seq (by kernel_rfl) ?_
     refine w_if hf83 (b := (decide (y13 < (d5.length : Int)))) (by kernel_rfl) (fun hb14 => ?_) (fun hb14 => ?_)
     ·have hr32 := cond_t hb14 hr31
      refine w_skip (by kernel_rfl) ?_
      refine n_then ?_
      refine w_seq (by kernel_rfl) ?_
      refine w_block (id := 1) (by kernel_rfl) ?_
      refine w_sr (by kernel_rfl) ?_
      obtain ⟨p7, hp60425, hr33⟩ := bind_some hr32
      obtain ⟨ad5, ho5, hb15, cc5, hc5, hk5⟩ := SliceR.getI (SliceR.mono k10 hx1) hp60425
      subst hc5
      refine p_qn 3 [.pointer (some ad5), vI p7.x, vI p7.lo, vI p7.hi] [(0, .func (.yield l1) #[] #[]), (1, pB b7 0), (22, .slice e5 d5.length q5), (23, vI (d5.length : Int)), (24, vI y13), (26, vI y13), (28, .agg #[vI p7.x, vI p7.lo, vI p7.hi])] [.prop (e5 = some ad5), .prop (0 ≤ y13 ∧ y13 < (d5.length : Nat)), .cell ((ad5.add (Int.toNat y13 * 3)).add 0) (vI p7.x), .cell ((ad5.add (Int.toNat y13 * 3)).add 1) (vI p7.lo), .cell ((ad5.add (Int.toNat y13 * 3)).add 2) (vI p7.hi)] hf83 (by kernel_rfl) (.prop ho5 (.prop hb15 (.cell (hS36.cell (hk5 0 _ rfl)) (.cell (hS36.cell (hk5 1 _ rfl)) (.cell (hS36.cell (hk5 2 _ rfl)) .nil))))) fun a69 hf84 => ?_
      refine p_box (i := 3) (d := (some 4)) (cs := [vI 0, vI 0, vI 0]) (T := 39) (v := fun b11 => pB b11 0) hS36 hf84 (fun b => by kernel_rfl) fun b11 ww30 a70 hS37 hf85 => ⟨fun _ => trivial, ?_⟩
      refine p_qn 1 [] [(0, .func (.yield l1) #[] #[]), (1, pB b7 0), (3, vI y13), (4, pB b11 0), (22, .slice e5 d5.length q5), (23, vI (d5.length : Int)), (24, vI y13), (28, .agg #[vI p7.x, vI p7.lo, vI p7.hi])] [] hf85 (by kernel_rfl) .nil fun a71 hf86 => ?_
      refine p_store_eq (i := 5) (j := 0) (b := b11) (off := 0) (vs := [vI p7.x, vI p7.lo, vI p7.hi]) (cs' := [vI p7.x, vI p7.lo, vI p7.hi]) hS37 hf86 rfl (by kernel_rfl) (by kernel_rfl) rfl fun ww31 a72 hS38 hf87 => ⟨fun _ => trivial, ?_⟩
      refine p_dt (by kernel_rfl) ?_
      refine w_seq (by kernel_rfl) ?_
      refine w_regDY (by kernel_rfl) 8 [(0, true), (1, true), (2, true), (3, true), (4, true), (5, true), (6, true), (7, true)] [(9, false)] (by kernel_rfl) ?_
      have hS39 := hS38.drew
      obtain ⟨p8, hp60448, hr34⟩ := bind_some hr33
      obtain ⟨ad6, ho6, hb16, cc6, hc6, hk6⟩ := SliceR.getI (SliceR.mono (Zone.le_trans (Zone.le_trans k4 k5) k10) hx_x0) hp60448
      subst hc6
      refine p_qzE [.slice o_x0 x0.length c_x0, .pointer (some ad6), vI p8.x, vI p8.lo, vI p8.hi, vI p7.x, vI p7.lo, vI p7.hi] [(0, .func (.yield l1) #[] #[]), (1, pB b7 0), (22, .slice e5 d5.length q5), (23, vI (d5.length : Int)), (24, vI y13), (29, .func (.yield l1) #[] #[]), (36, .agg #[vI p8.x, vI p8.lo, vI p8.hi, vI p7.x, vI p7.lo, vI p7.hi])] [.cell ⟨b7, 0, none⟩ (.slice o_x0 x0.length c_x0), .prop (o_x0 = some ad6), .prop (0 ≤ y13 ∧ y13 < (x0.length : Nat)), .cell ((ad6.add (Int.toNat y13 * 3)).add 0) (vI p8.x), .cell ((ad6.add (Int.toNat y13 * 3)).add 1) (vI p8.lo), .cell ((ad6.add (Int.toNat y13 * 3)).add 2) (vI p8.hi), .cell ⟨b11, 0, none⟩ (vI p7.x), .cell ⟨b11, 1, none⟩ (vI p7.lo), .cell ⟨b11, 2, none⟩ (vI p7.hi)] [] hf87 (by kernel_rfl) (.cell (hS39.box (i := 4) rfl (j := 0) rfl) (.prop ho6 (.prop hb16 (.cell (hS39.cell (hk6 0 _ rfl)) (.cell (hS39.cell (hk6 1 _ rfl)) (.cell (hS39.cell (hk6 2 _ rfl)) (.cell (hS39.box (i := 0) rfl (j := 0) rfl) (.cell (hS39.box (i := 0) rfl (j := 1) rfl) (.cell (hS39.box (i := 0) rfl (j := 2) rfl) .nil))))))))) .nil fun a73 hf88 => ?_
      refine p_yield (d := some 37) (l := l1) (args := #[.agg #[vI p8.x, vI p8.lo, vI p8.hi, vI p7.x, vI p7.lo, vI p7.hi]]) hf88 (by kernel_rfl) hS39 (j := 2) rfl (by rw [hps1]; kernel_rfl) fun a74 hf89 => ?_
      rw [hps1] at hf89
      refine cw_eq hA1 ?_
      refine w_reg (by kernel_rfl) ?_
      refine p_box (i := 0) (d := (some 7)) (cs := [vI 0, vI 0, vI 0, vI 0, vI 0, vI 0]) (T := 118) (v := fun b12 => pB b12 0) hS39 hf89 (fun b => by kernel_rfl) fun b12 ww32 a75 hS40 hf90 => ⟨fun _ => trivial, ?_⟩
      refine p_store_eq (i := 1) (j := 0) (b := b12) (off := 0) (vs := [vI p8.x, vI p8.lo, vI p8.hi, vI p7.x, vI p7.lo, vI p7.hi]) (cs' := [vI p8.x, vI p8.lo, vI p8.hi, vI p7.x, vI p7.lo, vI p7.hi]) hS40 hf90 rfl (by kernel_rfl) (by kernel_rfl) rfl fun ww33 a76 hS41 hf91 => ⟨fun _ => trivial, ?_⟩
      refine p_dt (by kernel_rfl) ?_
      refine p_begin hS41 (j := 3) rfl fun ww34 hS42 => ?_
      refine cw_eq hB1 ?_
      refine w_block (id := 1) (by kernel_rfl) ?_
      refine w_sq [vI p8.x, vI y16] [(3, pB b4 0), (5, pB b5 0), (6, pB b6 0), (7, pB b12 0), (8, vI (if (w64 (y16 + (1 : Int))) > p8.x then (w64 (y16 + (1 : Int))) else p8.x))] [.cell ⟨b12, 0, none⟩ (vI p8.x), .cell ⟨b6, 0, none⟩ (vI y16)] hf91 (by kernel_rfl) (.cell (hS42.box (i := 0) rfl (j := 0) rfl) (.cell (hS42.box (i := 6) rfl (j := 0) rfl) .nil)) fun a77 hf92 => ?_
      refine w_block (id := 2) (by kernel_rfl) ?_
      have hf93 := Fr.keep (ks := [3, 5, 6, 7, 8]) (r := [(3, pB b4 0), (5, pB b5 0), (6, pB b6 0), (7, pB b12 0), (8, vI (if (w64 (y16 + (1 : Int))) > p8.x then (w64 (y16 + (1 : Int))) else p8.x))]) hf92 (by kernel_rfl)
      refine w_loop (by kernel_rfl) (fun n a w => ∃ z9 : Zone, ∃ y10 : List Rng, ∃ y14 : Int, ∃ y8 : Int, ∃ e7 : Option Addr, ∃ q7 : Nat, Zone.le z8 z9 ∧ Fr a 60 [(3, pB b4 0), (5, pB b5 0), (6, pB b6 0), (7, pB b12 0), (8, vI y8)] ∧ St z9 (box b12 [vI p8.x, vI p8.lo, vI p8.hi, vI p7.x, vI p7.lo, vI p7.hi] 118 :: box b11 [vI p7.x, vI p7.lo, vI p7.hi] 39 :: ownS RngT 59 e7 q7 y10 :: loopA l1 60 [(3, pB b4 0), (5, pB b5 0), (6, pB b6 0), (11, .func (.func 101) #[] #[pB b7 0])] ps1 RA1 RB1 D1 .busy none :: defA D1 :: box b7 [.slice o_x0 x0.length c_x0] 24 :: box b6 [vI y14] 3 :: box b5 [.slice e7 y10.length q7] 67 :: box b4 [.func (.func 54) #[] #[pB b2 0]] 97 :: box b3 [.slice o_x0 x0.length c_x0] 24 :: box b2 [vI x1_lo, vI x1_hi] 59 :: box b1 [.slice o_x0 x0.length c_x0] 24 :: L) w ∧ (F30_l3 fuel (F30_l2 fuel x0 x1_lo x1_hi d5 n3) x1_lo x1_hi y13 p7 p8 n y10 y14 y8) = some r) fuel ⟨z8, y15, y16, (if (w64 (y16 + (1 : Int))) > p8.x then (w64 (y16 + (1 : Int))) else p8.x), e6, q6, (Zone.le_refl _), hf93, hS42, hr34⟩ ?_
      rintro n6 a78 ww35 ⟨z9, y10, y14, y8, e7, q7, k11, hf94, hS43, hr35⟩
      cases n6 with
      | zero => cases hr35
      | succ n2 =>
      refine w_seq (by kernel_rfl) ?_
      refine w_sq [vI p7.x] [(3, pB b4 0), (5, pB b5 0), (6, pB b6 0), (7, pB b12 0), (8, vI y8), (23, .bool (decide (y8 ≤ p7.x)))] [.cell ⟨b12, 3, none⟩ (vI p7.x)] hf94 (by kernel_rfl) (.cell (hS43.box (i := 0) rfl (j := 3) rfl) .nil) fun a79 hf95 => ?_
      refine w_if hf95 (b := (decide (y8 ≤ p7.x))) (by kernel_rfl) (fun hb17 => ?_) (fun hb17 => ?_)
      ·have hr36 := cond_t hb17 hr35
       refine w_skip (by kernel_rfl) ?_
       refine n_then ?_
       refine w_mid (by kernel_rfl) (fun a w => ∃ z10 : Zone, ∃ y9 : List Rng, ∃ e8 : Option Addr, ∃ q8 : Nat, Zone.le z9 z10 ∧ Fr a 60 [(3, pB b4 0), (5, pB b5 0), (6, pB b6 0), (7, pB b12 0), (8, vI y8)] ∧ St z10 (box b12 [vI p8.x, vI p8.lo, vI p8.hi, vI p7.x, vI p7.lo, vI p7.hi] 118 :: box b11 [vI p7.x, vI p7.lo, vI p7.hi] 39 :: ownS RngT 59 e8 q8 y9 :: loopA l1 60 [(3, pB b4 0), (5, pB b5 0), (6, pB b6 0), (11, .func (.func 101) #[] #[pB b7 0])] ps1 RA1 RB1 D1 .busy none :: defA D1 :: box b7 [.slice o_x0 x0.length c_x0] 24 :: box b6 [vI y8] 3 :: box b5 [.slice e8 y9.length q8] 67 :: box b4 [.func (.func 54) #[] #[pB b2 0]] 97 :: box b3 [.slice o_x0 x0.length c_x0] 24 :: box b2 [vI x1_lo, vI x1_hi] 59 :: box b1 [.slice o_x0 x0.length c_x0] 24 :: L) w ∧ (F30_j5 (F30_l3 fuel (F30_l2 fuel x0 x1_lo x1_hi d5 n3) x1_lo x1_hi y13 p7 p8 n2) y8 y9) = some r) ?_ ?_
       ·skip
        refine w_block (id := 3) (by kernel_rfl) ?_
        refine w_sr (by kernel_rfl) ?_
        refine p_qn 1 [] [(3, pB b4 0), (5, pB b5 0), (6, pB b6 0), (7, pB b12 0), (8, vI y8), (26, vI y8)] [] hf95 (by kernel_rfl) .nil fun a80 hf96 => ?_
        refine p_store_eq (i := 1) (j := 6) (b := b6) (off := 0) (vs := [vI y8]) (cs' := [vI y8]) hS43 hf96 rfl (by kernel_rfl) (by kernel_rfl) rfl fun ww36 a81 hS44 hf97 => ⟨fun _ => trivial, ?_⟩
        refine p_dt (by kernel_rfl) ?_
        refine w_seq (by kernel_rfl) ?_
        refine w_seq (by kernel_rfl) ?_
        have hS45 := hS44.drew
        have s3 : Sub z9 (box b12 [vI p8.x, vI p8.lo, vI p8.hi, vI p7.x, vI p7.lo, vI p7.hi] 118 :: box b11 [vI p7.x, vI p7.lo, vI p7.hi] 39 :: ownS RngT 59 e7 q7 y10 :: loopA l1 60 [(3, pB b4 0), (5, pB b5 0), (6, pB b6 0), (11, .func (.func 101) #[] #[pB b7 0])] ps1 RA1 RB1 D1 .busy none :: defA D1 :: box b7 [.slice o_x0 x0.length c_x0] 24 :: box b6 [vI y8] 3 :: box b5 [.slice e7 y10.length q7] 67 :: box b4 [.func (.func 54) #[] #[pB b2 0]] 97 :: box b3 [.slice o_x0 x0.length c_x0] 24 :: box b2 [vI x1_lo, vI x1_hi] 59 :: box b1 [.slice o_x0 x0.length c_x0] 24 :: L) _ := Sub.of (Zone.le_refl _) hS45
        refine w_regD (by kernel_rfl) [(0, true), (1, true), (2, true), (3, false), (4, false), (5, true)] [4] (Sub z9 (box b12 [vI p8.x, vI p8.lo, vI p8.hi, vI p7.x, vI p7.lo, vI p7.hi] 118 :: box b11 [vI p7.x, vI p7.lo, vI p7.hi] 39 :: ownS RngT 59 e7 q7 y10 :: loopA l1 60 [(3, pB b4 0), (5, pB b5 0), (6, pB b6 0), (11, .func (.func 101) #[] #[pB b7 0])] ps1 RA1 RB1 D1 .busy none :: defA D1 :: box b7 [.slice o_x0 x0.length c_x0] 24 :: box b6 [vI y8] 3 :: box b5 [.slice e7 y10.length q7] 67 :: box b4 [.func (.func 54) #[] #[pB b2 0]] 97 :: box b3 [.slice o_x0 x0.length c_x0] 24 :: box b2 [vI x1_lo, vI x1_hi] 59 :: box b1 [.slice o_x0 x0.length c_x0] 24 :: L)) (by kernel_rfl) s3 ?_
        refine p_qS 3 [.func (.func 54) #[] #[pB b2 0], vI p8.x, vI p8.lo, vI p8.hi, vI p7.x, vI p7.lo, vI p7.hi] [(3, pB b4 0), (5, pB b5 0), (6, pB b6 0), (7, pB b12 0), (8, vI y8), (27, .func (.func 54) #[] #[pB b2 0]), (28, .agg #[vI p8.x, vI p8.lo, vI p8.hi, vI p7.x, vI p7.lo, vI p7.hi]), (29, vI y8)] [.cell ⟨b4, 0, none⟩ (.func (.func 54) #[] #[pB b2 0]), .cell ⟨b12, 0, none⟩ (vI p8.x), .cell ⟨b12, 1, none⟩ (vI p8.lo), .cell ⟨b12, 2, none⟩ (vI p8.hi), .cell ⟨b12, 3, none⟩ (vI p7.x), .cell ⟨b12, 4, none⟩ (vI p7.lo), .cell ⟨b12, 5, none⟩ (vI p7.hi)] [] s3 hf97 (by kernel_rfl) (fun _ s => (.cell (s.box (i := 8) rfl (j := 0) rfl) (.cell (s.box (i := 0) rfl (j := 0) rfl) (.cell (s.box (i := 0) rfl (j := 1) rfl) (.cell (s.box (i := 0) rfl (j := 2) rfl) (.cell (s.box (i := 0) rfl (j := 3) rfl) (.cell (s.box (i := 0) rfl (j := 4) rfl) (.cell (s.box (i := 0) rfl (j := 5) rfl) .nil)))))))) .nil fun a82 hf98 => ?_
        obtain ⟨r2, hd7, hr37⟩ := bind_some hr36
        refine p_call (i := 3) (d := some 30) (f := 75) (args := #[.agg #[vI p8.x, vI p8.lo, vI p8.hi, vI p7.x, vI p7.lo, vI p7.hi], vI y8]) hf98 (by kernel_rfl) (f75_ok fuel p8.x p8.lo p8.hi p7.x p7.lo p7.hi y8 r2 hd7 z9 _ _ hS45 ) ?_
        rintro v4 ww37 a83 ⟨rfl, hS46⟩ hf99
        refine ⟨fun _ => Sub.of (Zone.le_refl _) hS46, ?_⟩
        have s4 : Sub z9 (box b12 [vI p8.x, vI p8.lo, vI p8.hi, vI p7.x, vI p7.lo, vI p7.hi] 118 :: box b11 [vI p7.x, vI p7.lo, vI p7.hi] 39 :: ownS RngT 59 e7 q7 y10 :: loopA l1 60 [(3, pB b4 0), (5, pB b5 0), (6, pB b6 0), (11, .func (.func 101) #[] #[pB b7 0])] ps1 RA1 RB1 D1 .busy none :: defA D1 :: box b7 [.slice o_x0 x0.length c_x0] 24 :: box b6 [vI y8] 3 :: box b5 [.slice e7 y10.length q7] 67 :: box b4 [.func (.func 54) #[] #[pB b2 0]] 97 :: box b3 [.slice o_x0 x0.length c_x0] 24 :: box b2 [vI x1_lo, vI x1_hi] 59 :: box b1 [.slice o_x0 x0.length c_x0] 24 :: L) _ := Sub.of (Zone.le_refl _) hS46
        refine p_inl (i := 4) (d := some 31) (f := 54) (args := #[.agg #[vI r2.1, vI r2.2], pB b2 0]) (N' := 16) hf99 (by kernel_rfl) Tryz.func54 (by kernel_rfl) fun a84 hf100 => ?_
        refine w_sr (by kernel_rfl) ?_
        refine p_box (i := 0) (d := (some 2)) (cs := [vI r2.1, vI r2.2]) (T := 59) (v := fun b13 => pB b13 0) hS46 hf100 (fun b => by kernel_rfl) fun b13 ww38 a85 hS47 hf101 => ⟨fun _ => trivial, ?_⟩
        refine p_qt [] [(1, pB b2 0), (2, pB b13 0)] [] hf101 (by kernel_rfl) .nil fun a86 hf102 => ?_
        refine w_mid (by kernel_rfl) (fun a w => ∃ z11 : Zone, ∃ y12 : Bool, Zone.le z9 z11 ∧ Fr a 16 [(3, .bool y12)] ∧ St z11 (box b13 [vI r2.1, vI r2.2] 59 :: box b12 [vI p8.x, vI p8.lo, vI p8.hi, vI p7.x, vI p7.lo, vI p7.hi] 118 :: box b11 [vI p7.x, vI p7.lo, vI p7.hi] 39 :: ownS RngT 59 e7 q7 y10 :: loopA l1 60 [(3, pB b4 0), (5, pB b5 0), (6, pB b6 0), (11, .func (.func 101) #[] #[pB b7 0])] ps1 RA1 RB1 D1 .busy none :: defA D1 :: box b7 [.slice o_x0 x0.length c_x0] 24 :: box b6 [vI y8] 3 :: box b5 [.slice e7 y10.length q7] 67 :: box b4 [.func (.func 54) #[] #[pB b2 0]] 97 :: box b3 [.slice o_x0 x0.length c_x0] 24 :: box b2 [vI x1_lo, vI x1_hi] 59 :: box b1 [.slice o_x0 x0.length c_x0] 24 :: L) w ∧ (F30_j6 (F30_l3 fuel (F30_l2 fuel x0 x1_lo x1_hi d5 n3) x1_lo x1_hi y13 p7 p8 n2) y10 y8 y12) = some r) ?_ ?_
        ·skip
         refine w_reg (by kernel_rfl) ?_
         refine p_qn 6 [vI r2.1, vI x1_hi] [(1, pB b2 0), (2, pB b13 0), (9, .bool (decide (r2.1 ≤ x1_hi)))] [.cell ⟨b13, 0, none⟩ (vI r2.1), .cell ⟨b2, 1, none⟩ (vI x1_hi)] hf102 (by kernel_rfl) (.cell (hS47.box (i := 0) rfl (j := 0) rfl) (.cell (hS47.box (i := 11) rfl (j := 1) rfl) .nil)) fun a87 hf103 => ?_
         rcases Bool.eq_false_or_eq_true (decide (r2.1 ≤ x1_hi)) with hb18 | hb18
         ·have hr38 := cond_t hb18 hr37
          have hf104 := Fr.conv hf103 (congrArg (fun z => ([(1, pB b2 0), (2, pB b13 0), (9, .bool z)] : FL)) hb18)
          refine p_qt [vI x1_lo, vI r2.2] [(3, .bool (decide (x1_lo ≤ r2.2)))] [.cell ⟨b2, 0, none⟩ (vI x1_lo), .cell ⟨b13, 1, none⟩ (vI r2.2)] hf104 (by kernel_rfl) (.cell (hS47.box (i := 11) rfl (j := 0) rfl) (.cell (hS47.box (i := 0) rfl (j := 1) rfl) .nil)) fun a88 hf105 => ?_
          have hf106 := Fr.keep (ks := [3]) (r := [(3, .bool (decide (x1_lo ≤ r2.2)))]) hf105 (by kernel_rfl)
          exact ⟨z9, (decide (x1_lo ≤ r2.2)), (Zone.le_refl _), hf106, hS47, hr38⟩
         ·have hr39 := cond_f hb18 hr37
          have hf107 := Fr.conv hf103 (congrArg (fun z => ([(1, pB b2 0), (2, pB b13 0), (9, .bool z)] : FL)) hb18)
          refine p_qt [] [(3, .bool false)] [] hf107 (by kernel_rfl) .nil fun a89 hf108 => ?_
          have hf109 := Fr.keep (ks := [3]) (r := [(3, .bool false)]) hf108 (by kernel_rfl)
          exact ⟨z9, false, (Zone.le_refl _), hf109, hS47, hr39⟩
        ·rintro a90 ww39 ⟨z11, y12, k12, hf110, hS48, hr40⟩
         refine w_ret (by kernel_rfl) ?_
         refine p_ret (os := []) (v := .bool y12) (obs := []) hf110 (by kernel_rfl) .nil ?_
         refine ⟨_, rfl, fun a91 hf111 => ?_⟩
         have hS49 := St.drop 1 hS48
         refine ⟨fun e => absurd e (by decide), ?_⟩
         refine p_qP 1 [] [(3, pB b4 0), (5, pB b5 0), (6, pB b6 0), (7, pB b12 0), (8, vI y8), (32, .bool (!y12))] [] hf111 (by kernel_rfl) (fun _ => .nil) fun a92 hf112 => ?_
         refine p_dt (by kernel_rfl) ?_
         refine w_if hf112 (b := (!y12)) (by kernel_rfl) (fun hb19 => ?_) (fun hb19 => ?_)
         ·have hr41 := cond_t hb19 hr40
          refine w_exit (id := 3) (by kernel_rfl) ?_
          refine x_then ?_
          refine x_block ?_
          refine n_then ?_
          have hf113 := Fr.keep (ks := [3, 5, 6, 7, 8]) (r := [(3, pB b4 0), (5, pB b5 0), (6, pB b6 0), (7, pB b12 0), (8, vI y8)]) hf112 (by kernel_rfl)
          exact ⟨z11, y10, e7, q7, k12, hf113, hS49, hr41⟩
         ·have hr42 := cond_f hb19 hr40
          refine w_skip (by kernel_rfl) ?_
          refine n_then ?_
          refine w_sq [.slice e7 y10.length q7] [(3, pB b4 0), (5, pB b5 0), (6, pB b6 0), (7, pB b12 0), (8, vI y8), (9, vI (w64 ((y10.length : Int) - (1 : Int))))] [.cell ⟨b5, 0, none⟩ (.slice e7 y10.length q7)] hf112 (by kernel_rfl) (.cell (hS49.box (i := 7) rfl (j := 0) rfl) .nil) fun a93 hf114 => ?_
          refine w_mid (by kernel_rfl) (fun a w => ∃ z12 : Zone, ∃ y11 : Bool, Zone.le z11 z12 ∧ Fr a 60 [(3, pB b4 0), (5, pB b5 0), (6, pB b6 0), (7, pB b12 0), (8, vI y8), (9, vI (w64 ((y10.length : Int) - (1 : Int)))), (47, .bool y11)] ∧ St z12 (box b12 [vI p8.x, vI p8.lo, vI p8.hi, vI p7.x, vI p7.lo, vI p7.hi] 118 :: box b11 [vI p7.x, vI p7.lo, vI p7.hi] 39 :: ownS RngT 59 e7 q7 y10 :: loopA l1 60 [(3, pB b4 0), (5, pB b5 0), (6, pB b6 0), (11, .func (.func 101) #[] #[pB b7 0])] ps1 RA1 RB1 D1 .busy none :: defA D1 :: box b7 [.slice o_x0 x0.length c_x0] 24 :: box b6 [vI y8] 3 :: box b5 [.slice e7 y10.length q7] 67 :: box b4 [.func (.func 54) #[] #[pB b2 0]] 97 :: box b3 [.slice o_x0 x0.length c_x0] 24 :: box b2 [vI x1_lo, vI x1_hi] 59 :: box b1 [.slice o_x0 x0.length c_x0] 24 :: L) w ∧ (F30_j7 (F30_l3 fuel (F30_l2 fuel x0 x1_lo x1_hi d5 n3) x1_lo x1_hi y13 p7 p8 n2) y10 y8 y11) = some r) ?_ ?_
          ·skip
           refine w_reg (by kernel_rfl) ?_
           refine p_qn 3 [] [(3, pB b4 0), (5, pB b5 0), (6, pB b6 0), (7, pB b12 0), (8, vI y8), (9, vI (w64 ((y10.length : Int) - (1 : Int)))), (38, .bool (decide ((w64 ((y10.length : Int) - (1 : Int))) ≥ (0 : Int))))] [] hf114 (by kernel_rfl) .nil fun a94 hf115 => ?_
           rcases Bool.eq_false_or_eq_true (decide ((w64 ((y10.length : Int) - (1 : Int))) ≥ (0 : Int))) with hb20 | hb20
           ·have hr43 := cond_t hb20 hr42
            have hf116 := Fr.conv hf115 (congrArg (fun z => ([(3, pB b4 0), (5, pB b5 0), (6, pB b6 0), (7, pB b12 0), (8, vI y8), (9, vI (w64 ((y10.length : Int) - (1 : Int)))), (38, .bool z)] : FL)) hb20)
            obtain ⟨p6, hp63179, hr44⟩ := bind_some hr43
            obtain ⟨ad7, ho7, hb21, cc7, hc7, hk7⟩ := hS49.ownGet (j := 2) rfl hp63179
            subst hc7
            refine p_qt [.slice e7 y10.length q7, .pointer (some ad7), vI p6.hi] [(3, pB b4 0), (5, pB b5 0), (6, pB b6 0), (7, pB b12 0), (8, vI y8), (9, vI (w64 ((y10.length : Int) - (1 : Int)))), (39, .slice e7 y10.length q7), (40, vI (w64 ((y10.length : Int) - (1 : Int)))), (41, .pointer (some (ad7.add (Int.toNat (w64 ((y10.length : Int) - (1 : Int))) * 2)))), (42, .pointer (some ((ad7.add (Int.toNat (w64 ((y10.length : Int) - (1 : Int))) * 2)).add 1))), (43, vI p6.hi), (44, vI y8), (45, vI (w64 (y8 - (1 : Int)))), (46, .bool (p6.hi == (w64 (y8 - (1 : Int))))), (47, .bool (p6.hi == (w64 (y8 - (1 : Int)))))] [.cell ⟨b5, 0, none⟩ (.slice e7 y10.length q7), .prop (e7 = some ad7), .prop (0 ≤ (w64 ((y10.length : Int) - (1 : Int))) ∧ (w64 ((y10.length : Int) - (1 : Int))) < (y10.length : Nat)), .cell ((ad7.add (Int.toNat (w64 ((y10.length : Int) - (1 : Int))) * 2)).add 1) (vI p6.hi)] hf116 (by kernel_rfl) (.cell (hS49.box (i := 7) rfl (j := 0) rfl) (.prop ho7 (.prop hb21 (.cell (hk7 1 _ rfl) .nil)))) fun a95 hf117 => ?_
            have hf118 := Fr.keep (ks := [3, 5, 6, 7, 8, 9, 47]) (r := [(3, pB b4 0), (5, pB b5 0), (6, pB b6 0), (7, pB b12 0), (8, vI y8), (9, vI (w64 ((y10.length : Int) - (1 : Int)))), (47, .bool (p6.hi == (w64 (y8 - (1 : Int)))))]) hf117 (by kernel_rfl)
            exact ⟨z11, (p6.hi == (w64 (y8 - (1 : Int)))), (Zone.le_refl _), hf118, hS49, hr44⟩
           ·have hr45 := cond_f hb20 hr42
            have hf119 := Fr.conv hf115 (congrArg (fun z => ([(3, pB b4 0), (5, pB b5 0), (6, pB b6 0), (7, pB b12 0), (8, vI y8), (9, vI (w64 ((y10.length : Int) - (1 : Int)))), (38, .bool z)] : FL)) hb20)
            refine p_qt [] [(3, pB b4 0), (5, pB b5 0), (6, pB b6 0), (7, pB b12 0), (8, vI y8), (9, vI (w64 ((y10.length : Int) - (1 : Int)))), (39, undef), (40, undef), (41, undef), (42, undef), (43, undef), (44, undef), (45, undef), (46, undef), (47, .bool false)] [] hf119 (by kernel_rfl) .nil fun a96 hf120 => ?_
            have hf121 := Fr.keep (ks := [3, 5, 6, 7, 8, 9, 47]) (r := [(3, pB b4 0), (5, pB b5 0), (6, pB b6 0), (7, pB b12 0), (8, vI y8), (9, vI (w64 ((y10.length : Int) - (1 : Int)))), (47, .bool false)]) hf120 (by kernel_rfl)
            exact ⟨z11, false, (Zone.le_refl _), hf121, hS49, hr45⟩
          ·rintro a97 ww40 ⟨z12, y11, k13, hf122, hS50, hr46⟩
           refine w_if hf122 (b := y11) (by kernel_rfl) (fun hb22 => ?_) (fun hb22 => ?_)
           ·have hr47 := cond_t hb22 hr46
            refine w_reg (by kernel_rfl) ?_
            obtain ⟨p5, hp63199, hr48⟩ := bind_some hr47
            obtain ⟨ad8, ho8, hb23, cc8, hc8, hk8⟩ := hS50.ownGet (j := 2) rfl hp63199
            subst hc8
            refine p_qn 5 [.slice e7 y10.length q7, .pointer (some ad8)] [(3, pB b4 0), (5, pB b5 0), (6, pB b6 0), (7, pB b12 0), (8, vI y8), (50, vI y8), (52, .pointer (some ((ad8.add (Int.toNat (w64 ((y10.length : Int) - (1 : Int))) * 2)).add 1)))] [.cell ⟨b5, 0, none⟩ (.slice e7 y10.length q7), .prop (e7 = some ad8), .prop (0 ≤ (w64 ((y10.length : Int) - (1 : Int))) ∧ (w64 ((y10.length : Int) - (1 : Int))) < (y10.length : Nat))] hf122 (by kernel_rfl) (.cell (hS50.box (i := 7) rfl (j := 0) rfl) (.prop ho8 (.prop hb23 .nil))) fun a98 hf123 => ?_
            obtain ⟨d3, hd8, hr49⟩ := bind_some hr48
            have hl2 := setI_len hd8
            refine p_setOwn (i := 5) (j := 2) (ad := ad8) (ix := (w64 ((y10.length : Int) - (1 : Int)))) (off := 1) (vs := [vI y8]) (x' := ({ p5 with hi := y8 })) hS50 hf123 rfl ho8 hp63199 (by kernel_rfl) (by kernel_rfl) rfl hd8 fun ww41 a99 hS51 hf124 => ?_
            have hS52 := St.convL (L' := box b12 [vI p8.x, vI p8.lo, vI p8.hi, vI p7.x, vI p7.lo, vI p7.hi] 118 :: box b11 [vI p7.x, vI p7.lo, vI p7.hi] 39 :: ownS RngT 59 e7 q7 d3 :: loopA l1 60 [(3, pB b4 0), (5, pB b5 0), (6, pB b6 0), (11, .func (.func 101) #[] #[pB b7 0])] ps1 RA1 RB1 D1 .busy none :: defA D1 :: box b7 [.slice o_x0 x0.length c_x0] 24 :: box b6 [vI y8] 3 :: box b5 [.slice e7 d3.length q7] 67 :: box b4 [.func (.func 54) #[] #[pB b2 0]] 97 :: box b3 [.slice o_x0 x0.length c_x0] 24 :: box b2 [vI x1_lo, vI x1_hi] 59 :: box b1 [.slice o_x0 x0.length c_x0] 24 :: L) hS51 (by rw [hl2] <;> rfl)
            refine ⟨fun _ => trivial, ?_⟩
            refine p_done (by kernel_rfl) ?_
            refine n_block ?_
            refine n_then ?_
            have hf125 := Fr.keep (ks := [3, 5, 6, 7, 8]) (r := [(3, pB b4 0), (5, pB b5 0), (6, pB b6 0), (7, pB b12 0), (8, vI y8)]) hf124 (by kernel_rfl)
            exact ⟨z12, d3, e7, q7, (Zone.le_trans k12 k13), hf125, hS52, hr49⟩
           ·have hr50 := cond_f hb22 hr46
            refine w_reg (by kernel_rfl) ?_
            refine p_qn 4 [.slice e7 y10.length q7] [(3, pB b4 0), (5, pB b5 0), (6, pB b6 0), (7, pB b12 0), (8, vI y8), (53, .slice e7 y10.length q7), (56, .agg #[vI y8, vI y8])] [.cell ⟨b5, 0, none⟩ (.slice e7 y10.length q7)] hf122 (by kernel_rfl) (.cell (hS50.box (i := 7) rfl (j := 0) rfl) .nil) fun a100 hf126 => ?_
            refine p_box (i := 4) (d := (some 57)) (cs := [vI y8, vI y8]) (T := 59) (v := fun b14 => .slice (some ⟨b14, 0, none⟩) 1 1) hS50 hf126 (fun b => by kernel_rfl) fun b14 ww42 a101 hS53 hf127 => ⟨fun _ => trivial, ?_⟩
            have hS54 := hS53.ownBox (T := RngT) (E := 59) (n := 1) (xs := [⟨y8, y8⟩]) (i := 0) rfl (Rows.cons (c := [vI y8, vI y8]) rfl rfl) rfl (by decide)
            obtain ⟨d4, hd9, hr51⟩ := bind_some hr50
            refine p_append (T := RngT) (i := 5) (j := 3) (d := some 58) (o2 := (some ⟨b14, 0, none⟩)) (c2 := 1) (ys := ([⟨y8, y8⟩])) el67 hS54 hf127 rfl (by kernel_rfl) (hS54.ownSrc (j := 0) rfl) hd9 fun e9 q9 ww43 a102 hS55 hf128 => ⟨fun _ => trivial, ?_⟩
            refine p_store_eq (i := 6) (j := 8) (b := b5) (off := 0) (vs := [.slice e9 d4.length q9]) (cs' := [.slice e9 d4.length q9]) hS55 hf128 rfl (by kernel_rfl) (by kernel_rfl) rfl fun ww44 a103 hS56 hf129 => ⟨fun _ => trivial, ?_⟩
            refine p_done (by kernel_rfl) ?_
            refine n_block ?_
            refine n_then ?_
            have hf130 := Fr.keep (ks := [3, 5, 6, 7, 8]) (r := [(3, pB b4 0), (5, pB b5 0), (6, pB b6 0), (7, pB b12 0), (8, vI y8)]) hf129 (by kernel_rfl)
            exact ⟨z12, d4, e9, q9, (Zone.le_trans k12 k13), hf130, (St.drop 1 hS56), hr51⟩
       ·rintro a104 ww45 ⟨z10, y9, e8, q8, k14, hf131, hS57, hr52⟩
        refine w_q [] [(3, pB b4 0), (5, pB b5 0), (6, pB b6 0), (7, pB b12 0), (8, vI (w64 (y8 + (1 : Int))))] [] hf131 (by kernel_rfl) .nil fun a105 hf132 => ?_
        refine n_then ?_
        have hf133 := Fr.keep (ks := [3, 5, 6, 7, 8]) (r := [(3, pB b4 0), (5, pB b5 0), (6, pB b6 0), (7, pB b12 0), (8, vI (w64 (y8 + (1 : Int))))]) hf132 (by kernel_rfl)
        exact ⟨n2, Nat.lt_succ_self n2, z10, y9, y8, (w64 (y8 + (1 : Int))), e8, q8, (Zone.le_trans k11 k14), hf133, hS57, hr52⟩
      ·have hr53 := cond_f hb17 hr35
       refine w_exit (id := 2) (by kernel_rfl) ?_
       refine x_then ?_
       refine x_then ?_
       refine x_block ?_
       refine n_block ?_
       refine p_roundN hS43 (j := 3) rfl fun ww46 a106 hS58 hf134 => ?_
       have hS59 := St.drop 1 hS58
       refine p_qt [] [(0, .func (.yield l1) #[] #[]), (1, pB b7 0), (22, .slice e5 d5.length q5), (23, vI (d5.length : Int)), (24, vI y13), (38, .bool false)] [] hf134 (by kernel_rfl) .nil fun a107 hf135 => ?_
       refine w_if_false hf135 (by kernel_rfl) ?_
       refine w_skip (by kernel_rfl) ?_
       refine n_block ?_
       refine n_then ?_
       refine w_q [] [(0, .func (.yield l1) #[] #[]), (1, pB b7 0), (22, .slice e5 d5.length q5), (23, vI (d5.length : Int)), (24, vI (w64 (y13 + (1 : Int))))] [] hf135 (by kernel_rfl) .nil fun a108 hf136 => ?_
       refine n_then ?_
       have hf137 := Fr.keep (ks := [0, 1, 22, 23, 24]) (r := [(0, .func (.yield l1) #[] #[]), (1, pB b7 0), (22, .slice e5 d5.length q5), (23, vI (d5.length : Int)), (24, vI (w64 (y13 + (1 : Int))))]) hf136 (by kernel_rfl)
       exact ⟨n3, Nat.lt_succ_self n3, z9, y10, y14, (w64 (y13 + (1 : Int))), e7, q7, (Zone.le_trans k10 k11), hf137, (St.drop 1 hS59), hr53⟩
     ·have hr54 := cond_f hb14 hr31
      refine w_exit (id := 0) (by kernel_rfl) ?_
      refine x_then ?_
      refine x_then ?_
      refine x_block ?_
      refine p_fall (os := []) (v := .tuple #[]) (obs := []) hf83 (by kernel_rfl) .nil ?_
      refine ⟨_, rfl, fun a109 hf138 => ?_⟩
      refine p_jump0 hS36 (j := 1) rfl (fun h => by cases h) fun ww47 hS60 => ?_
      refine n_block ?_
      refine n_then ?_
      refine w_sq [.slice e6 y15.length q6] [(4, .slice e6 y15.length q6)] [.cell ⟨b5, 0, none⟩ (.slice e6 y15.length q6)] hf138 (by kernel_rfl) (.cell (hS60.box (i := 5) rfl (j := 0) rfl) .nil) fun a110 hf139 => ?_
      refine w_ret (by kernel_rfl) ?_
      refine p_retM hf139 ?_
      refine p_mark hS60 (j := 2) rfl fun ww48 hS61 => ?_
      refine p_end (os := []) (v := .slice e6 y15.length q6) (obs := []) hf139 (by kernel_rfl) .nil ?_
      exact ⟨_, rfl, z8, y15, e6, q6, k10, rfl, (St.pick 8 [0] hS61 (by kernel_rfl)), hr54⟩
   ·rintro v5 ww49 a111 ⟨z3, y1, e1, q1, k15, rfl, hS62, hr55⟩ hf140
    refine ⟨fun _ => trivial, ?_⟩
    refine p_qt [] [(4, .slice e1 y1.length q1), (5, vI 0)] [] hf140 (by kernel_rfl) .nil fun a112 hf141 => ?_
    refine w_ret (by kernel_rfl) ?_
    obtain ⟨z13, k16, hS63, hx2⟩ := hS62.share (j := 0) rfl
    refine p_ret (os := []) (v := .tuple #[.slice e1 y1.length q1, vI 0]) (obs := []) hf141 (by kernel_rfl) .nil ?_
    obtain rfl := some_eq hr55
    exact ⟨_, rfl, z13, e1, q1, (Zone.le_trans (Zone.le_trans (Zone.le_trans k4 k5) k15) k16), rfl, (St.drop 3 hS63), hx2⟩
def F31_l1 (x0 : List Rng) (x1 : List Rng) : Nat → Int → Option (Bool)
  | 0, _ => none
  | n1 + 1, y1 =>
    let k1 : Int → Option (Bool) := F31_l1 x0 x1 n1
    (cond (decide (y1 < (x0.length : Int))) ((getI x0 y1).bind fun p1 => ((getI x1 y1).bind fun p2 => (cond (!((p1.lo == p2.lo) && ((p1.hi == p2.hi) && true))) (some (false)) (k1 (w64 (y1 + (1 : Int))))))) (some (true)))
def F31 (fuel : Nat) (x0 : List Rng) (x1 : List Rng) : Option (Bool) :=
  (cond ((x0.length : Int) != (x1.length : Int)) (some (false)) (F31_l1 x0 x1 fuel 0))
set_option maxRecDepth 100000 in
theorem f31_ok (fuel : Nat) (x0 : List Rng) (x1 : List Rng) (r : Bool) (hr : F31 fuel x0 x1 = some r) (h : Zone) (L : List Atom) (w : World) (hS : St h L w) (o_x0 : Option Addr) (c_x0 : Nat) (hx_x0 : SliceR RngT h o_x0 c_x0 x0) (o_x1 : Option Addr) (c_x1 : Nat) (hx_x1 : SliceR RngT h o_x1 c_x1 x1) :
    Calls Tryz.prog 31 #[.slice o_x0 x0.length c_x0, .slice o_x1 x1.length c_x1] w fun e w' => ∃ v, e = .returned v ∧ (∃ h', Zone.le h h' ∧ v = .bool r ∧ St h' L w') := by
 refine calls_intro (N := 26) Tryz.func31 (by kernel_rfl) fun a hf => ?_
 refine w_sq [] [(0, .slice o_x0 x0.length c_x0), (1, .slice o_x1 x1.length c_x1)] [] hf (by kernel_rfl) .nil fun a1 hf1 => ?_
 refine w_seq (by kernel_rfl) ?_
 refine w_sq [] [(0, .slice o_x0 x0.length c_x0), (1, .slice o_x1 x1.length c_x1), (10, .bool ((x0.length : Int) != (x1.length : Int)))] [] hf1 (by kernel_rfl) .nil fun a2 hf2 => ?_
 refine w_if hf2 (b := ((x0.length : Int) != (x1.length : Int))) (by kernel_rfl) (fun hb1 => ?_) (fun hb1 => ?_)
 ·have hr1 := cond_t hb1 hr
  refine w_sq [] [(4, .bool false)] [] hf2 (by kernel_rfl) .nil fun a3 hf3 => ?_
  refine w_ret (by kernel_rfl) ?_
  refine r_then ?_
  refine p_ret (os := []) (v := .bool false) (obs := []) hf3 (by kernel_rfl) .nil ?_
  obtain rfl := some_eq hr1
  exact ⟨_, rfl, h, (Zone.le_refl _), rfl, hS⟩
 ·have hr2 := cond_f hb1 hr
  refine w_skip (by kernel_rfl) ?_
  refine n_then ?_
  refine w_seq (by kernel_rfl) ?_
  refine w_sq [] [(0, .slice o_x0 x0.length c_x0), (1, .slice o_x1 x1.length c_x1), (12, vI (x0.length : Int)), (13, vI 0)] [] hf2 (by kernel_rfl) .nil fun a4 hf4 => ?_
  refine w_block (id := 0) (by kernel_rfl) ?_
  have hf5 := Fr.keep (ks := [0, 1, 12, 13]) (r := [(0, .slice o_x0 x0.length c_x0), (1, .slice o_x1 x1.length c_x1), (12, vI (x0.length : Int)), (13, vI 0)]) hf4 (by kernel_rfl)
  refine w_loop (by kernel_rfl) (fun n a w => ∃ z1 : Zone, ∃ y1 : Int, Zone.le h z1 ∧ Fr a 26 [(0, .slice o_x0 x0.length c_x0), (1, .slice o_x1 x1.length c_x1), (12, vI (x0.length : Int)), (13, vI y1)] ∧ St z1 (L) w ∧ (F31_l1 x0 x1 n y1) = some r) fuel ⟨h, 0, (Zone.le_refl _), hf5, hS, hr2⟩ ?_
  rintro n2 a5 ww1 ⟨z1, y1, k2, hf6, hS1, hr3⟩
  cases n2 with
  | zero => cases hr3
  | succ n1 =>
  refine w_sq [] [(0, .slice o_x0 x0.length c_x0), (1, .slice o_x1 x1.length c_x1), (12, vI (x0.length : Int)), (13, vI y1), (14, .bool (decide (y1 < (x0.length : Int))))] [] hf6 (by kernel_rfl) .nil fun a6 hf7 => ?_
  refine w_seq (by kernel_rfl) ?_
  refine w_if hf7 (b := (decide (y1 < (x0.length : Int)))) (by kernel_rfl) (fun hb2 => ?_) (fun hb2 => ?_)
  ·have hr4 := cond_t hb2 hr3
   refine w_skip (by kernel_rfl) ?_
   refine n_then ?_
   refine w_seq (by kernel_rfl) ?_
   refine w_block (id := 1) (by kernel_rfl) ?_
   refine w_sq [] [(0, .slice o_x0 x0.length c_x0), (1, .slice o_x1 x1.length c_x1), (5, vI y1), (12, vI (x0.length : Int)), (13, vI y1)] [] hf7 (by kernel_rfl) .nil fun a7 hf8 => ?_
   have hS2 := hS1.drew
   obtain ⟨p1, hp552, hr5⟩ := bind_some hr4
   obtain ⟨ad1, ho1, hb3, cc1, hc1, hk1⟩ := SliceR.getI (SliceR.mono k2 hx_x0) hp552
   subst hc1
   obtain ⟨p2, hp561, hr6⟩ := bind_some hr5
   obtain ⟨ad2, ho2, hb4, cc2, hc2, hk2⟩ := SliceR.getI (SliceR.mono k2 hx_x1) hp561
   subst hc2
   refine w_sqD [(0, true), (1, true), (2, true), (3, true), (4, true), (5, true), (6, true), (7, true), (8, true)] [] [.pointer (some ad1), vI p1.lo, vI p1.hi, .pointer (some ad2), vI p2.lo, vI p2.hi] [(0, .slice o_x0 x0.length c_x0), (1, .slice o_x1 x1.length c_x1), (12, vI (x0.length : Int)), (13, vI y1), (24, .bool (!((p1.lo == p2.lo) && ((p1.hi == p2.hi) && true))))] [.prop (o_x0 = some ad1), .prop (0 ≤ y1 ∧ y1 < (x0.length : Nat)), .cell ((ad1.add (Int.toNat y1 * 2)).add 0) (vI p1.lo), .cell ((ad1.add (Int.toNat y1 * 2)).add 1) (vI p1.hi), .prop (o_x1 = some ad2), .prop (0 ≤ y1 ∧ y1 < (x1.length : Nat)), .cell ((ad2.add (Int.toNat y1 * 2)).add 0) (vI p2.lo), .cell ((ad2.add (Int.toNat y1 * 2)).add 1) (vI p2.hi)] [] hf8 (by kernel_rfl) (.prop ho1 (.prop hb3 (.cell (hS2.cell (hk1 0 _ rfl)) (.cell (hS2.cell (hk1 1 _ rfl)) (.prop ho2 (.prop hb4 (.cell (hS2.cell (hk2 0 _ rfl)) (.cell (hS2.cell (hk2 1 _ rfl)) .nil)))))))) .nil fun a8 hf9 => ?_
   refine w_if hf9 (b := (!((p1.lo == p2.lo) && ((p1.hi == p2.hi) && true)))) (by kernel_rfl) (fun hb5 => ?_) (fun hb5 => ?_)
   ·have hr7 := cond_t hb5 hr6
    refine w_sq [] [(4, .bool false)] [] hf9 (by kernel_rfl) .nil fun a9 hf10 => ?_
    refine w_ret (by kernel_rfl) ?_
    refine r_block ?_
    refine r_then ?_
    refine r_then ?_
    refine r_block ?_
    refine r_then ?_
    refine p_ret (os := []) (v := .bool false) (obs := []) hf10 (by kernel_rfl) .nil ?_
    obtain rfl := some_eq hr7
    exact ⟨_, rfl, z1, k2, rfl, hS2⟩
   ·have hr8 := cond_f hb5 hr6
    refine w_skip (by kernel_rfl) ?_
    refine n_block ?_
    refine n_then ?_
    refine w_q [] [(0, .slice o_x0 x0.length c_x0), (1, .slice o_x1 x1.length c_x1), (12, vI (x0.length : Int)), (13, vI (w64 (y1 + (1 : Int))))] [] hf9 (by kernel_rfl) .nil fun a10 hf11 => ?_
    refine n_then ?_
    have hf12 := Fr.keep (ks := [0, 1, 12, 13]) (r := [(0, .slice o_x0 x0.length c_x0), (1, .slice o_x1 x1.length c_x1), (12, vI (x0.length : Int)), (13, vI (w64 (y1 + (1 : Int))))]) hf11 (by kernel_rfl)
    exact ⟨n1, Nat.lt_succ_self n1, z1, (w64 (y1 + (1 : Int))), k2, hf12, hS2, hr8⟩
  ·have hr9 := cond_f hb2 hr3
   refine w_exit (id := 0) (by kernel_rfl) ?_
   refine x_then ?_
   refine x_then ?_
   refine x_block ?_
   refine n_then ?_
   refine w_sq [] [(4, .bool true)] [] hf7 (by kernel_rfl) .nil fun a11 hf13 => ?_
   refine w_ret (by kernel_rfl) ?_
   refine p_ret (os := []) (v := .bool true) (obs := []) hf13 (by kernel_rfl) .nil ?_
   obtain rfl := some_eq hr9
   exact ⟨_, rfl, z1, k2, rfl, hS1⟩
def F8_l1 (x0 : List Pt) (x1 : List Pt) : Nat → Int → Option (Bool)
  | 0, _ => none
  | n1 + 1, y1 =>
    let k1 : Int → Option (Bool) := F8_l1 x0 x1 n1
    (cond (decide (y1 < (x0.length : Int))) ((getI x0 y1).bind fun p1 => ((getI x1 y1).bind fun p2 => (cond (!((p1.x == p2.x) && ((p1.lo == p2.lo) && ((p1.hi == p2.hi) && true)))) (some (false)) (k1 (w64 (y1 + (1 : Int))))))) (some (true)))
def F8 (fuel : Nat) (x0 : List Pt) (x1 : List Pt) : Option (Bool) :=
  (cond ((x0.length : Int) != (x1.length : Int)) (some (false)) (F8_l1 x0 x1 fuel 0))
set_option maxRecDepth 100000 in
theorem f8_ok (fuel : Nat) (x0 : List Pt) (x1 : List Pt) (r : Bool) (hr : F8 fuel x0 x1 = some r) (h : Zone) (L : List Atom) (w : World) (hS : St h L w) (o_x0 : Option Addr) (c_x0 : Nat) (hx_x0 : SliceR PtT h o_x0 c_x0 x0) (o_x1 : Option Addr) (c_x1 : Nat) (hx_x1 : SliceR PtT h o_x1 c_x1 x1) :
    Calls Tryz.prog 8 #[.agg #[.slice o_x0 x0.length c_x0], .agg #[.slice o_x1 x1.length c_x1]] w fun e w' => ∃ v, e = .returned v ∧ (∃ h', Zone.le h h' ∧ v = .bool r ∧ St h' L w') := by
 refine calls_intro (N := 31) Tryz.func8 (by kernel_rfl) fun a hf => ?_
 refine w_sr (by kernel_rfl) ?_
 refine p_box (i := 0) (d := (some 2)) (cs := [.slice o_x0 x0.length c_x0]) (T := 24) (v := fun b1 => pB b1 0) hS hf (fun b => by kernel_rfl) fun b1 ww1 a1 hS1 hf1 => ⟨fun _ => trivial, ?_⟩
 refine p_box (i := 1) (d := (some 3)) (cs := [.slice o_x1 x1.length c_x1]) (T := 24) (v := fun b2 => pB b2 0) hS1 hf1 (fun b => by kernel_rfl) fun b2 ww2 a2 hS2 hf2 => ⟨fun _ => trivial, ?_⟩
 refine p_qt [] [(2, pB b1 0), (3, pB b2 0)] [] hf2 (by kernel_rfl) .nil fun a3 hf3 => ?_
 refine w_seq (by kernel_rfl) ?_
 refine w_sq [.slice o_x0 x0.length c_x0, .slice o_x1 x1.length c_x1] [(2, pB b1 0), (3, pB b2 0), (12, .bool ((x0.length : Int) != (x1.length : Int)))] [.cell ⟨b1, 0, none⟩ (.slice o_x0 x0.length c_x0), .cell ⟨b2, 0, none⟩ (.slice o_x1 x1.length c_x1)] hf3 (by kernel_rfl) (.cell (hS2.box (i := 1) rfl (j := 0) rfl) (.cell (hS2.box (i := 0) rfl (j := 0) rfl) .nil)) fun a4 hf4 => ?_
 refine w_if hf4 (b := ((x0.length : Int) != (x1.length : Int))) (by kernel_rfl) (fun hb1 => ?_) (fun hb1 => ?_)
 ·have hr1 := cond_t hb1 hr
  refine w_sq [] [(4, .bool false)] [] hf4 (by kernel_rfl) .nil fun a5 hf5 => ?_
  refine w_ret (by kernel_rfl) ?_
  refine r_then ?_
  refine p_ret (os := []) (v := .bool false) (obs := []) hf5 (by kernel_rfl) .nil ?_
  obtain rfl := some_eq hr1
  exact ⟨_, rfl, h, (Zone.le_refl _), rfl, (St.drop 2 hS2)⟩
 ·have hr2 := cond_f hb1 hr
  refine w_skip (by kernel_rfl) ?_
  refine n_then ?_
  refine w_seq (by kernel_rfl) ?_
  refine w_sq [.slice o_x0 x0.length c_x0] [(2, pB b1 0), (3, pB b2 0), (15, vI (x0.length : Int)), (16, vI 0)] [.cell ⟨b1, 0, none⟩ (.slice o_x0 x0.length c_x0)] hf4 (by kernel_rfl) (.cell (hS2.box (i := 1) rfl (j := 0) rfl) .nil) fun a6 hf6 => ?_
  refine w_block (id := 0) (by kernel_rfl) ?_
  have hf7 := Fr.keep (ks := [2, 3, 15, 16]) (r := [(2, pB b1 0), (3, pB b2 0), (15, vI (x0.length : Int)), (16, vI 0)]) hf6 (by kernel_rfl)
  refine w_loop (by kernel_rfl) (fun n a w => ∃ z1 : Zone, ∃ y1 : Int, Zone.le h z1 ∧ Fr a 31 [(2, pB b1 0), (3, pB b2 0), (15, vI (x0.length : Int)), (16, vI y1)] ∧ St z1 (box b2 [.slice o_x1 x1.length c_x1] 24 :: box b1 [.slice o_x0 x0.length c_x0] 24 :: L) w ∧ (F8_l1 x0 x1 n y1) = some r) fuel ⟨h, 0, (Zone.le_refl _), hf7, hS2, hr2⟩ ?_
  rintro n2 a7 ww3 ⟨z1, y1, k2, hf8, hS3, hr3⟩
  cases n2 with
  | zero => cases hr3
  | succ n1 =>
  refine w_sq [] [(2, pB b1 0), (3, pB b2 0), (15, vI (x0.length : Int)), (16, vI y1), (17, .bool (decide (y1 < (x0.length : Int))))] [] hf8 (by kernel_rfl) .nil fun a8 hf9 => ?_
  refine w_seq (by kernel_rfl) ?_
  refine w_if hf9 (b := (decide (y1 < (x0.length : Int)))) (by kernel_rfl) (fun hb2 => ?_) (fun hb2 => ?_)
  ·have hr4 := cond_t hb2 hr3
   refine w_skip (by kernel_rfl) ?_
   refine n_then ?_
   refine w_seq (by kernel_rfl) ?_
   refine w_block (id := 1) (by kernel_rfl) ?_
   refine w_sq [] [(2, pB b1 0), (3, pB b2 0), (5, vI y1), (15, vI (x0.length : Int)), (16, vI y1)] [] hf9 (by kernel_rfl) .nil fun a9 hf10 => ?_
   have hS4 := hS3.drew
   obtain ⟨p1, hp562, hr5⟩ := bind_some hr4
   obtain ⟨ad1, ho1, hb3, cc1, hc1, hk1⟩ := SliceR.getI (SliceR.mono k2 hx_x0) hp562
   subst hc1
   obtain ⟨p2, hp571, hr6⟩ := bind_some hr5
   obtain ⟨ad2, ho2, hb4, cc2, hc2, hk2⟩ := SliceR.getI (SliceR.mono k2 hx_x1) hp571
   subst hc2
   refine w_sqD [(0, true), (1, true), (2, true), (3, true), (4, true), (5, true), (6, true), (7, true), (8, true), (9, true), (10, true)] [] [.slice o_x0 x0.length c_x0, .pointer (some ad1), vI p1.x, vI p1.lo, vI p1.hi, .slice o_x1 x1.length c_x1, .pointer (some ad2), vI p2.x, vI p2.lo, vI p2.hi] [(2, pB b1 0), (3, pB b2 0), (15, vI (x0.length : Int)), (16, vI y1), (29, .bool (!((p1.x == p2.x) && ((p1.lo == p2.lo) && ((p1.hi == p2.hi) && true)))))] [.cell ⟨b1, 0, none⟩ (.slice o_x0 x0.length c_x0), .prop (o_x0 = some ad1), .prop (0 ≤ y1 ∧ y1 < (x0.length : Nat)), .cell ((ad1.add (Int.toNat y1 * 3)).add 0) (vI p1.x), .cell ((ad1.add (Int.toNat y1 * 3)).add 1) (vI p1.lo), .cell ((ad1.add (Int.toNat y1 * 3)).add 2) (vI p1.hi), .cell ⟨b2, 0, none⟩ (.slice o_x1 x1.length c_x1), .prop (o_x1 = some ad2), .prop (0 ≤ y1 ∧ y1 < (x1.length : Nat)), .cell ((ad2.add (Int.toNat y1 * 3)).add 0) (vI p2.x), .cell ((ad2.add (Int.toNat y1 * 3)).add 1) (vI p2.lo), .cell ((ad2.add (Int.toNat y1 * 3)).add 2) (vI p2.hi)] [] hf10 (by kernel_rfl) (.cell (hS4.box (i := 1) rfl (j := 0) rfl) (.prop ho1 (.prop hb3 (.cell (hS4.cell (hk1 0 _ rfl)) (.cell (hS4.cell (hk1 1 _ rfl)) (.cell (hS4.cell (hk1 2 _ rfl)) (.cell (hS4.box (i := 0) rfl (j := 0) rfl) (.prop ho2 (.prop hb4 (.cell (hS4.cell (hk2 0 _ rfl)) (.cell (hS4.cell (hk2 1 _ rfl)) (.cell (hS4.cell (hk2 2 _ rfl)) .nil)))))))))))) .nil fun a10 hf11 => ?_
   refine w_if hf11 (b := (!((p1.x == p2.x) && ((p1.lo == p2.lo) && ((p1.hi == p2.hi) && true))))) (by kernel_rfl) (fun hb5 => ?_) (fun hb5 => ?_)
   ·have hr7 := cond_t hb5 hr6
    refine w_sq [] [(4, .bool false)] [] hf11 (by kernel_rfl) .nil fun a11 hf12 => ?_
    refine w_ret (by kernel_rfl) ?_
    refine r_block ?_
    refine r_then ?_
    refine r_then ?_
    refine r_block ?_
    refine r_then ?_
    refine p_ret (os := []) (v := .bool false) (obs := []) hf12 (by kernel_rfl) .nil ?_
    obtain rfl := some_eq hr7
    exact ⟨_, rfl, z1, k2, rfl, (St.drop 2 hS4)⟩
   ·have hr8 := cond_f hb5 hr6
    refine w_skip (by kernel_rfl) ?_
    refine n_block ?_
    refine n_then ?_
    refine w_q [] [(2, pB b1 0), (3, pB b2 0), (15, vI (x0.length : Int)), (16, vI (w64 (y1 + (1 : Int))))] [] hf11 (by kernel_rfl) .nil fun a12 hf13 => ?_
    refine n_then ?_
    have hf14 := Fr.keep (ks := [2, 3, 15, 16]) (r := [(2, pB b1 0), (3, pB b2 0), (15, vI (x0.length : Int)), (16, vI (w64 (y1 + (1 : Int))))]) hf13 (by kernel_rfl)
    exact ⟨n1, Nat.lt_succ_self n1, z1, (w64 (y1 + (1 : Int))), k2, hf14, hS4, hr8⟩
  ·have hr9 := cond_f hb2 hr3
   refine w_exit (id := 0) (by kernel_rfl) ?_
   refine x_then ?_
   refine x_then ?_
   refine x_block ?_
   refine n_then ?_
   refine w_sq [] [(4, .bool true)] [] hf9 (by kernel_rfl) .nil fun a13 hf15 => ?_
   refine w_ret (by kernel_rfl) ?_
   refine p_ret (os := []) (v := .bool true) (obs := []) hf15 (by kernel_rfl) .nil ?_
   obtain rfl := some_eq hr9
   exact ⟨_, rfl, z1, k2, rfl, (St.drop 2 hS3)⟩
def F9_j3 (y1 : Bool) : Option (Bool) :=
  (some (y1))
def F9_j2 (fuel : Nat) (r1 : Int × Int × Int) (r2 : Int × Int × Int) (y2 : List Pt) (r3 : Int × Int × Int) (r4 : List Rng × Int) (y3 : Bool) : Option (Bool) :=
  (cond y3 (cond ((r1.1 == (-10 : Int)) && ((r1.2.1 == (15 : Int)) && true)) (cond ((r2.1 == (2 : Int)) && ((r2.2.1 == (9 : Int)) && true)) ((F8 fuel y2 ([⟨5, 3, 6⟩, ⟨10, 6, 11⟩, ⟨20, 11, 16⟩])).bind fun r5 => (cond r5 (cond (r3.1 == (48 : Int)) (cond (r3.2.1 == (77 : Int)) ((F31 fuel r4.1 ([⟨7, 13⟩])).bind fun r6 => (F9_j3 r6)) (F9_j3 false)) (F9_j3 false)) (F9_j3 false))) (F9_j3 false)) (F9_j3 false)) (F9_j3 false))
def F9_j1 (fuel : Nat) (r7 : List Pt) (r1 : Int × Int × Int) (r2 : Int × Int × Int) (y4 : Int) (y2 : List Pt) : Option (Bool) :=
  ((F29 fuel r7 5 11).bind fun r3 => ((F30 fuel r7 6 6).bind fun r4 => (cond (r1.2.2 == (0 : Int)) (cond (r2.2.2 == (0 : Int)) (cond (y4 == (0 : Int)) (cond (r3.2.2 == (0 : Int)) (F9_j2 fuel r1 r2 y2 r3 r4 (r4.2 == (0 : Int))) (F9_j2 fuel r1 r2 y2 r3 r4 false)) (F9_j2 fuel r1 r2 y2 r3 r4 false)) (F9_j2 fuel r1 r2 y2 r3 r4 false)) (F9_j2 fuel r1 r2 y2 r3 r4 false))))
def F9 (fuel : Nat)  : Option (Bool) :=
  ((F24 fuel ).bind fun r7 => ((F25 fuel (-2) 3 4 5).bind fun r1 => ((F26 fuel r7 5 12).bind fun r2 => ((F28 fuel ).bind fun r8 => ((F27 fuel r7 r8).bind fun r9 => (F9_j1 fuel r7 r1 r2 r9.2 r9.1))))))
end Go.Proofs.YtdcmpekmpmfffaaGreatDoor

