/-
  The walks of functions 33, 35, 36, 7: what the code does is what a plain function computes. No condition.
-/
import Derived.Test.YtlmgjjmighajdaaJC
set_option linter.unusedVariables false
namespace Go.Proofs.Ytlmgjjmighajdaa
open Go.Sl Go.Sx
def F33 (fuel : Nat) (x0 : List Part) : Option (Int) :=
  ((F73 fuel x0).bind fun r1 => (cond (!r1) (some (0)) ((F90 fuel x0).bind fun r2 => (some (r2)))))
set_option maxRecDepth 100000 in
theorem f33_ok (fuel : Nat) (x0 : List Part) (r : Int) (hr : F33 fuel x0 = some r) (h : Zone) (L : List Atom) (w : World) (hS : St h L w) (o_x0 : Option Addr) (c_x0 : Nat) (hx_x0 : SliceR PartT h o_x0 c_x0 x0) :
    Calls Try.prog 33 #[.agg #[.slice o_x0 x0.length c_x0]] w fun e w' => ∃ v, e = .returned v ∧ (∃ h', Zone.le h h' ∧ v = vI r ∧ St h' L w') := by
 refine calls_intro (N := 8) Try.func33 (by kernel_rfl) fun a hf => ?_
 refine w_sr (by kernel_rfl) ?_
 refine p_box (i := 0) (d := (some 1)) (cs := [.slice o_x0 x0.length c_x0]) (T := 40) (v := fun b1 => pB b1 0) hS hf (fun b => by kernel_rfl) fun b1 ww1 a1 hS1 hf1 => ⟨fun _ => trivial, ?_⟩
 refine p_qt [] [(1, pB b1 0)] [] hf1 (by kernel_rfl) .nil fun a2 hf2 => ?_
 refine w_seq (by kernel_rfl) ?_
 refine w_sr (by kernel_rfl) ?_
 refine p_qn 1 [.slice o_x0 x0.length c_x0] [(1, pB b1 0), (3, .agg #[.slice o_x0 x0.length c_x0])] [.cell ⟨b1, 0, none⟩ (.slice o_x0 x0.length c_x0)] hf2 (by kernel_rfl) (.cell (hS1.box (i := 0) rfl (j := 0) rfl) .nil) fun a3 hf3 => ?_
 obtain ⟨r1, hd1, hr1⟩ := bind_some hr
 refine p_call (i := 1) (d := some 4) (f := 73) (args := #[.agg #[.slice o_x0 x0.length c_x0]]) hf3 (by kernel_rfl) (f73_ok fuel x0 r1 hd1 h _ _ hS1 o_x0 c_x0 hx_x0) ?_
 rintro v1 ww2 a4 ⟨z1, k1, rfl, hS2⟩ hf4
 refine ⟨fun _ => trivial, ?_⟩
 refine p_qt [] [(1, pB b1 0), (5, .bool (!r1))] [] hf4 (by kernel_rfl) .nil fun a5 hf5 => ?_
 refine w_if hf5 (b := (!r1)) (by kernel_rfl) (fun hb1 => ?_) (fun hb1 => ?_)
 ·have hr2 := cond_t hb1 hr1
  refine w_sq [] [(2, vI 0)] [] hf5 (by kernel_rfl) .nil fun a6 hf6 => ?_
  refine w_ret (by kernel_rfl) ?_
  refine r_then ?_
  refine p_ret (os := []) (v := vI 0) (obs := []) hf6 (by kernel_rfl) .nil ?_
  obtain rfl := some_eq hr2
  exact ⟨_, rfl, z1, k1, rfl, (St.drop 1 hS2)⟩
 ·have hr3 := cond_f hb1 hr1
  refine w_skip (by kernel_rfl) ?_
  refine n_then ?_
  refine w_sr (by kernel_rfl) ?_
  refine p_qn 1 [.slice o_x0 x0.length c_x0] [(6, .agg #[.slice o_x0 x0.length c_x0])] [.cell ⟨b1, 0, none⟩ (.slice o_x0 x0.length c_x0)] hf5 (by kernel_rfl) (.cell (hS2.box (i := 0) rfl (j := 0) rfl) .nil) fun a7 hf7 => ?_
  obtain ⟨r2, hd2, hr4⟩ := bind_some hr3
  refine p_call (i := 1) (d := some 7) (f := 90) (args := #[.agg #[.slice o_x0 x0.length c_x0]]) hf7 (by kernel_rfl) (f90_ok fuel x0 r2 hd2 z1 _ _ hS2 o_x0 c_x0 (SliceR.mono k1 hx_x0)) ?_
  rintro v2 ww3 a8 ⟨z2, k2, rfl, hS3⟩ hf8
  refine ⟨fun _ => trivial, ?_⟩
  refine p_qt [] [(2, vI r2)] [] hf8 (by kernel_rfl) .nil fun a9 hf9 => ?_
  refine w_ret (by kernel_rfl) ?_
  refine p_ret (os := []) (v := vI r2) (obs := []) hf9 (by kernel_rfl) .nil ?_
  obtain rfl := some_eq hr4
  exact ⟨_, rfl, z2, (Zone.le_trans k1 k2), rfl, (St.drop 1 hS3)⟩
def F35 (fuel : Nat) (x0 : Int) (x1 : Int) : Option (Int) :=
  ((nz x1).bind fun _ => ((nz x1).bind fun _ => (some ((Int.tmod (w64 ((Int.tmod x0 x1) + x1)) x1)))))
set_option maxRecDepth 100000 in
theorem f35_ok (fuel : Nat) (x0 : Int) (x1 : Int) (r : Int) (hr : F35 fuel x0 x1 = some r) (h : Zone) (L : List Atom) (w : World) (hS : St h L w)  :
    Calls Try.prog 35 #[vI x0, vI x1] w fun e w' => ∃ v, e = .returned v ∧ (v = vI r ∧ St h L w') := by
 refine calls_intro (N := 12) Try.func35 (by kernel_rfl) fun a hf => ?_
 refine w_sq [] [(0, vI x0), (1, vI x1)] [] hf (by kernel_rfl) .nil fun a1 hf1 => ?_
 obtain ⟨u1, hd1, hr1⟩ := bind_some hr
 obtain ⟨u2, hd2, hr2⟩ := bind_some hr1
 refine w_sq [] [(4, vI (Int.tmod (w64 ((Int.tmod x0 x1) + x1)) x1))] [.prop (x1 ≠ 0), .prop (x1 ≠ 0)] hf1 (by kernel_rfl) (.prop (nz_spec hd1) (.prop (nz_spec hd2) .nil)) fun a2 hf2 => ?_
 refine w_ret (by kernel_rfl) ?_
 refine p_ret (os := []) (v := vI (Int.tmod (w64 ((Int.tmod x0 x1) + x1)) x1)) (obs := []) hf2 (by kernel_rfl) .nil ?_
 obtain rfl := some_eq hr2
 exact ⟨_, rfl, rfl, hS⟩
def F36_l1 (x0 : List Part) (x1 : Int) : Nat → Int → Option (Int)
  | 0, _ => none
  | n1 + 1, y1 =>
    let k1 : Int → Option (Int) := F36_l1 x0 x1 n1
    (cond (decide (y1 < (x0.length : Int))) ((getI x0 y1).bind fun p1 => (cond (p1.lot == x1) ((getI x0 y1).bind fun p2 => (some (p2.mass))) (k1 (w64 (y1 + (1 : Int)))))) (some (0)))
def F36 (fuel : Nat) (x0 : List Part) (x1 : Int) : Option (Int) :=
  (F36_l1 x0 x1 fuel 0)
set_option maxRecDepth 100000 in
theorem f36_ok (fuel : Nat) (x0 : List Part) (x1 : Int) (r : Int) (hr : F36 fuel x0 x1 = some r) (h : Zone) (L : List Atom) (w : World) (hS : St h L w) (o_x0 : Option Addr) (c_x0 : Nat) (hx_x0 : SliceR PartT h o_x0 c_x0 x0) :
    Calls Try.prog 36 #[.agg #[.slice o_x0 x0.length c_x0], vI x1] w fun e w' => ∃ v, e = .returned v ∧ (∃ h', Zone.le h h' ∧ v = vI r ∧ St h' L w') := by
 refine calls_intro (N := 27) Try.func36 (by kernel_rfl) fun a hf => ?_
 refine w_sr (by kernel_rfl) ?_
 refine p_box (i := 0) (d := (some 2)) (cs := [.slice o_x0 x0.length c_x0]) (T := 40) (v := fun b1 => pB b1 0) hS hf (fun b => by kernel_rfl) fun b1 ww1 a1 hS1 hf1 => ⟨fun _ => trivial, ?_⟩
 refine p_qt [] [(1, vI x1), (2, pB b1 0)] [] hf1 (by kernel_rfl) .nil fun a2 hf2 => ?_
 refine w_seq (by kernel_rfl) ?_
 refine w_sq [] [(1, vI x1), (2, pB b1 0), (5, vI 0)] [] hf2 (by kernel_rfl) .nil fun a3 hf3 => ?_
 refine w_block (id := 0) (by kernel_rfl) ?_
 have hf4 := Fr.keep (ks := [1, 2, 5]) (r := [(1, vI x1), (2, pB b1 0), (5, vI 0)]) hf3 (by kernel_rfl)
 refine w_loop (by kernel_rfl) (fun n a w => ∃ z1 : Zone, ∃ y1 : Int, Zone.le h z1 ∧ Fr a 27 [(1, vI x1), (2, pB b1 0), (5, vI y1)] ∧ St z1 (box b1 [.slice o_x0 x0.length c_x0] 40 :: L) w ∧ (F36_l1 x0 x1 n y1) = some r) fuel ⟨h, 0, (Zone.le_refl _), hf4, hS1, hr⟩ ?_
 rintro n2 a4 ww2 ⟨z1, y1, k2, hf5, hS2, hr1⟩
 cases n2 with
 | zero => cases hr1
 | succ n1 =>
 refine w_seq (by kernel_rfl) ?_
 refine w_sq [.slice o_x0 x0.length c_x0] [(1, vI x1), (2, pB b1 0), (5, vI y1), (10, .bool (decide (y1 < (x0.length : Int))))] [.cell ⟨b1, 0, none⟩ (.slice o_x0 x0.length c_x0)] hf5 (by kernel_rfl) (.cell (hS2.box (i := 0) rfl (j := 0) rfl) .nil) fun a5 hf6 => ?_
 refine w_if hf6 (b := (decide (y1 < (x0.length : Int)))) (by kernel_rfl) (fun hb1 => ?_) (fun hb1 => ?_)
 ·have hr2 := cond_t hb1 hr1
  refine w_skip (by kernel_rfl) ?_
  refine n_then ?_
  refine w_seq (by kernel_rfl) ?_
  refine w_block (id := 1) (by kernel_rfl) ?_
  obtain ⟨p1, hp511, hr3⟩ := bind_some hr2
  obtain ⟨ad1, ho1, hb2, cc1, hc1, hk1⟩ := SliceR.getI (SliceR.mono k2 hx_x0) hp511
  subst hc1
  refine w_sq [.slice o_x0 x0.length c_x0, .pointer (some ad1), vI p1.lot] [(1, vI x1), (2, pB b1 0), (5, vI y1), (20, .bool (p1.lot == x1))] [.cell ⟨b1, 0, none⟩ (.slice o_x0 x0.length c_x0), .prop (o_x0 = some ad1), .prop (0 ≤ y1 ∧ y1 < (x0.length : Nat)), .cell ((ad1.add (Int.toNat y1 * 2)).add 0) (vI p1.lot)] hf6 (by kernel_rfl) (.cell (hS2.box (i := 0) rfl (j := 0) rfl) (.prop ho1 (.prop hb2 (.cell (hS2.cell (hk1 0 _ rfl)) .nil)))) fun a6 hf7 => ?_
  refine w_if hf7 (b := (p1.lot == x1)) (by kernel_rfl) (fun hb3 => ?_) (fun hb3 => ?_)
  ·have hr4 := cond_t hb3 hr3
   obtain ⟨p2, hp525, hr5⟩ := bind_some hr4
   obtain ⟨ad2, ho2, hb4, cc2, hc2, hk2⟩ := SliceR.getI (SliceR.mono k2 hx_x0) hp525
   subst hc2
   refine w_sq [.slice o_x0 x0.length c_x0, .pointer (some ad2), vI p2.mass] [(4, vI p2.mass)] [.cell ⟨b1, 0, none⟩ (.slice o_x0 x0.length c_x0), .prop (o_x0 = some ad2), .prop (0 ≤ y1 ∧ y1 < (x0.length : Nat)), .cell ((ad2.add (Int.toNat y1 * 2)).add 1) (vI p2.mass)] hf7 (by kernel_rfl) (.cell (hS2.box (i := 0) rfl (j := 0) rfl) (.prop ho2 (.prop hb4 (.cell (hS2.cell (hk2 1 _ rfl)) .nil)))) fun a7 hf8 => ?_
   refine w_ret (by kernel_rfl) ?_
   refine r_block ?_
   refine r_then ?_
   refine r_then ?_
   refine r_block ?_
   refine r_then ?_
   refine p_ret (os := []) (v := vI p2.mass) (obs := []) hf8 (by kernel_rfl) .nil ?_
   obtain rfl := some_eq hr5
   exact ⟨_, rfl, z1, k2, rfl, (St.drop 1 hS2)⟩
  ·have hr6 := cond_f hb3 hr3
   refine w_skip (by kernel_rfl) ?_
   refine n_block ?_
   refine n_then ?_
   refine w_q [] [(1, vI x1), (2, pB b1 0), (5, vI (w64 (y1 + (1 : Int))))] [] hf7 (by kernel_rfl) .nil fun a8 hf9 => ?_
   refine n_then ?_
   have hf10 := Fr.keep (ks := [1, 2, 5]) (r := [(1, vI x1), (2, pB b1 0), (5, vI (w64 (y1 + (1 : Int))))]) hf9 (by kernel_rfl)
   exact ⟨n1, Nat.lt_succ_self n1, z1, (w64 (y1 + (1 : Int))), k2, hf10, hS2, hr6⟩
 ·have hr7 := cond_f hb1 hr1
  refine w_exit (id := 0) (by kernel_rfl) ?_
  refine x_then ?_
  refine x_then ?_
  refine x_block ?_
  refine n_then ?_
  refine w_sq [] [(4, vI 0)] [] hf6 (by kernel_rfl) .nil fun a9 hf11 => ?_
  refine w_ret (by kernel_rfl) ?_
  refine p_ret (os := []) (v := vI 0) (obs := []) hf11 (by kernel_rfl) .nil ?_
  obtain rfl := some_eq hr7
  exact ⟨_, rfl, z1, k2, rfl, (St.drop 1 hS2)⟩
def F7_j4 (k1 : Int → Option (Bool)) (y1 : Int) (y2 : Bool) : Option (Bool) :=
  (cond y2 (some (false)) (k1 (w64 (y1 + (1 : Int)))))
def F7_l3 (fuel : Nat) (k2 : Int → Option (Bool)) (y3 : List Part) (r1 : List Part × List Part × Int) (y4 : Int) (p1 : Part) (r2 : Int) : Nat → Int → Option (Bool)
  | 0, _ => none
  | n1 + 1, y1 =>
    let k1 : Int → Option (Bool) := F7_l3 fuel k2 y3 r1 y4 p1 r2 n1
    (cond (decide (y1 < y4)) ((getI y3 y1).bind fun p2 => (cond (p2.mass == p1.mass) ((getI y3 y1).bind fun p3 => ((F36 fuel r1.1 p3.lot).bind fun r3 => (F7_j4 k1 y1 (decide (r3 < r2))))) (F7_j4 k1 y1 false))) (k2 (w64 (y4 + (1 : Int)))))
def F7_j3 (fuel : Nat) (k2 : Int → Option (Bool)) (y3 : List Part) (r1 : List Part × List Part × Int) (y4 : Int) (p1 : Part) (r2 : Int) (y5 : Bool) : Option (Bool) :=
  (cond y5 (some (false)) (F7_l3 fuel k2 y3 r1 y4 p1 r2 fuel 0))
def F7_l2 (fuel : Nat) (y3 : List Part) (y6 : Int) (r4 : Int) (r1 : List Part × List Part × Int) : Nat → Int → Option (Bool)
  | 0, _ => none
  | n2 + 1, y4 =>
    let k2 : Int → Option (Bool) := F7_l2 fuel y3 y6 r4 r1 n2
    (cond (decide (y4 < (y3.length : Int))) ((getI y3 y4).bind fun p1 => ((F36 fuel r1.1 p1.lot).bind fun r2 => ((nz y6).bind fun _ => (cond (decide (r2 < (w64 (Int.tdiv (w64 (r4 * p1.mass)) y6)))) (F7_j3 fuel k2 y3 r1 y4 p1 r2 true) (cond (decide (r2 > (w64 ((w64 (Int.tdiv (w64 (r4 * p1.mass)) y6)) + (1 : Int))))) (F7_j3 fuel k2 y3 r1 y4 p1 r2 true) (cond (r2 == (w64 ((w64 (Int.tdiv (w64 (r4 * p1.mass)) y6)) + (1 : Int)))) ((nz y6).bind fun _ => (F7_j3 fuel k2 y3 r1 y4 p1 r2 ((Int.tmod (w64 (r4 * p1.mass)) y6) == (0 : Int)))) (F7_j3 fuel k2 y3 r1 y4 p1 r2 false))))))) (some (true)))
def F7_j2 (fuel : Nat) (y3 : List Part) (y6 : Int) (r4 : Int) (r1 : List Part × List Part × Int) (y7 : Bool) : Option (Bool) :=
  (cond y7 (some (false)) (F7_l2 fuel y3 y6 r4 r1 fuel 0))
def F7_j1 (fuel : Nat) (k3 : (List Part) → Int → Int → Option (Bool)) (x0 : List Int) (x1 : Int) (r5 : Bool) (y3 : List Part) (y6 : Int) (y8 : Int) (y9 : Bool) : Option (Bool) :=
  (cond y9 ((getI x0 y8).bind fun p4 => ((F35 fuel p4 1000).bind fun r6 => ((appC y3 ([⟨(w64 (y8 + (1 : Int))), (w64 ((1 : Int) + r6))⟩])).bind fun d1 => (k3 d1 (w64 (y6 + (w64 ((1 : Int) + r6)))) (w64 (y8 + (1 : Int))))))) (cond (y6 == (0 : Int)) (some (r5)) ((F35 fuel x1 (w64 (y6 + (1 : Int)))).bind fun r4 => ((F30 fuel y3 r4).bind fun r1 => ((F25 fuel r1.1 r1.2.1).bind fun r7 => ((F26 fuel r7.1 y3).bind fun r8 => (cond (!r5) (F7_j2 fuel y3 y6 r4 r1 true) (cond (r1.2.2 != (0 : Int)) (F7_j2 fuel y3 y6 r4 r1 true) (cond (r7.2 != (0 : Int)) (F7_j2 fuel y3 y6 r4 r1 true) (cond (!r8) (F7_j2 fuel y3 y6 r4 r1 true) ((F33 fuel r1.1).bind fun r9 => (F7_j2 fuel y3 y6 r4 r1 (r9 != r4)))))))))))))
def F7_l1 (fuel : Nat) (x0 : List Int) (x1 : Int) (r5 : Bool) : Nat → (List Part) → Int → Int → Option (Bool)
  | 0, _, _, _ => none
  | n3 + 1, y3, y6, y8 =>
    let k3 : (List Part) → Int → Int → Option (Bool) := F7_l1 fuel x0 x1 r5 n3
    (cond (decide (y8 < (x0.length : Int))) (F7_j1 fuel k3 x0 x1 r5 y3 y6 y8 (decide (y8 < (12 : Int)))) (F7_j1 fuel k3 x0 x1 r5 y3 y6 y8 false))
def F7 (fuel : Nat) (x0 : List Int) (x1 : Int) : Option (Bool) :=
  ((F16 fuel ).bind fun r5 => (F7_l1 fuel x0 x1 r5 fuel ([]) 0 0))
set_option maxRecDepth 100000 in
theorem f7_ok (fuel : Nat) (x0 : List Int) (x1 : Int) (r : Bool) (hr : F7 fuel x0 x1 = some r) (h : Zone) (L : List Atom) (w : World) (hS : St h L w) (o_x0 : Option Addr) (c_x0 : Nat) (hx_x0 : SliceR Ty.int h o_x0 c_x0 x0) :
    Calls Try.prog 7 #[.slice o_x0 x0.length c_x0, vI x1] w fun e w' => ∃ v, e = .returned v ∧ (∃ h', Zone.le h h' ∧ v = .bool r ∧ St h' L w') := by
 refine calls_intro (N := 165) Try.func7 (by kernel_rfl) fun a hf => ?_
 refine w_sq [] [(0, .slice o_x0 x0.length c_x0), (1, vI x1)] [] hf (by kernel_rfl) .nil fun a1 hf1 => ?_
 refine w_sr (by kernel_rfl) ?_
 obtain ⟨r5, hd1, hr1⟩ := bind_some hr
 refine p_call (i := 0) (d := some 21) (f := 16) (args := #[]) hf1 (by kernel_rfl) (f16_ok fuel  r5 hd1 h _ _ hS ) ?_
 rintro v1 ww1 a2 ⟨z1, k4, rfl, hS1⟩ hf2
 refine ⟨fun _ => trivial, ?_⟩
 refine p_qt [] [(0, .slice o_x0 x0.length c_x0), (1, vI x1), (5, .bool r5)] [] hf2 (by kernel_rfl) .nil fun a3 hf3 => ?_
 refine w_sr (by kernel_rfl) ?_
 refine p_box (i := 0) (d := (some 6)) (cs := [.slice none 0 0]) (T := 40) (v := fun b1 => pB b1 0) hS1 hf3 (fun b => by kernel_rfl) fun b1 ww2 a4 hS2 hf4 => ⟨fun _ => trivial, ?_⟩
 refine p_dt (by kernel_rfl) ?_
 refine w_sq [] [(0, .slice o_x0 x0.length c_x0), (1, vI x1), (5, .bool r5), (6, pB b1 0), (7, vI 0)] [] hf4 (by kernel_rfl) .nil fun a5 hf5 => ?_
 refine w_seq (by kernel_rfl) ?_
 refine w_sq [] [(0, .slice o_x0 x0.length c_x0), (1, vI x1), (5, .bool r5), (6, pB b1 0), (7, vI 0), (8, vI 0)] [] hf5 (by kernel_rfl) .nil fun a6 hf6 => ?_
 refine w_block (id := 0) (by kernel_rfl) ?_
 have hS3 := hS2.ownNil PartT 56
 have hf7 := Fr.keep (ks := [0, 1, 5, 6, 7, 8]) (r := [(0, .slice o_x0 x0.length c_x0), (1, vI x1), (5, .bool r5), (6, pB b1 0), (7, vI 0), (8, vI 0)]) hf6 (by kernel_rfl)
 refine w_loop (by kernel_rfl) (fun n a w => ∃ z2 : Zone, ∃ y3 : List Part, ∃ y6 : Int, ∃ y8 : Int, ∃ e1 : Option Addr, ∃ q1 : Nat, Zone.le z1 z2 ∧ Fr a 165 [(0, .slice o_x0 x0.length c_x0), (1, vI x1), (5, .bool r5), (6, pB b1 0), (7, vI y6), (8, vI y8)] ∧ St z2 (ownS PartT 56 e1 q1 y3 :: box b1 [.slice e1 y3.length q1] 40 :: L) w ∧ (F7_l1 fuel x0 x1 r5 n y3 y6 y8) = some r) fuel ⟨z1, [], 0, 0, none, 0, (Zone.le_refl _), hf7, hS3, hr1⟩ ?_
 rintro n4 a7 ww3 ⟨z2, y3, y6, y8, e1, q1, k5, hf8, hS4, hr2⟩
 cases n4 with
 | zero => cases hr2
 | succ n3 =>
 refine w_seq (by kernel_rfl) ?_
 refine w_mid (by kernel_rfl) (fun a w => ∃ z3 : Zone, ∃ y9 : Bool, Zone.le z2 z3 ∧ Fr a 165 [(0, .slice o_x0 x0.length c_x0), (1, vI x1), (5, .bool r5), (6, pB b1 0), (7, vI y6), (8, vI y8), (29, .bool y9)] ∧ St z3 (ownS PartT 56 e1 q1 y3 :: box b1 [.slice e1 y3.length q1] 40 :: L) w ∧ (F7_j1 fuel (F7_l1 fuel x0 x1 r5 n3) x0 x1 r5 y3 y6 y8 y9) = some r) ?_ ?_
 ·skip
  refine w_reg (by kernel_rfl) ?_
  refine p_qn 5 [] [(0, .slice o_x0 x0.length c_x0), (1, vI x1), (5, .bool r5), (6, pB b1 0), (7, vI y6), (8, vI y8), (26, .bool (decide (y8 < (x0.length : Int))))] [] hf8 (by kernel_rfl) .nil fun a8 hf9 => ?_
  rcases Bool.eq_false_or_eq_true (decide (y8 < (x0.length : Int))) with hb1 | hb1
  ·have hr3 := cond_t hb1 hr2
   have hf10 := Fr.conv hf9 (congrArg (fun z => ([(0, .slice o_x0 x0.length c_x0), (1, vI x1), (5, .bool r5), (6, pB b1 0), (7, vI y6), (8, vI y8), (26, .bool z)] : FL)) hb1)
   refine p_qt [] [(0, .slice o_x0 x0.length c_x0), (1, vI x1), (5, .bool r5), (6, pB b1 0), (7, vI y6), (8, vI y8), (29, .bool (decide (y8 < (12 : Int))))] [] hf10 (by kernel_rfl) .nil fun a9 hf11 => ?_
   have hf12 := Fr.keep (ks := [0, 1, 5, 6, 7, 8, 29]) (r := [(0, .slice o_x0 x0.length c_x0), (1, vI x1), (5, .bool r5), (6, pB b1 0), (7, vI y6), (8, vI y8), (29, .bool (decide (y8 < (12 : Int))))]) hf11 (by kernel_rfl)
   exact ⟨z2, (decide (y8 < (12 : Int))), (Zone.le_refl _), hf12, hS4, hr3⟩
  ·have hr4 := cond_f hb1 hr2
   have hf13 := Fr.conv hf9 (congrArg (fun z => ([(0, .slice o_x0 x0.length c_x0), (1, vI x1), (5, .bool r5), (6, pB b1 0), (7, vI y6), (8, vI y8), (26, .bool z)] : FL)) hb1)
   refine p_qt [] [(0, .slice o_x0 x0.length c_x0), (1, vI x1), (5, .bool r5), (6, pB b1 0), (7, vI y6), (8, vI y8), (29, .bool false)] [] hf13 (by kernel_rfl) .nil fun a10 hf14 => ?_
   have hf15 := Fr.keep (ks := [0, 1, 5, 6, 7, 8, 29]) (r := [(0, .slice o_x0 x0.length c_x0), (1, vI x1), (5, .bool r5), (6, pB b1 0), (7, vI y6), (8, vI y8), (29, .bool false)]) hf14 (by kernel_rfl)
   exact ⟨z2, false, (Zone.le_refl _), hf15, hS4, hr4⟩
 ·rintro a11 ww4 ⟨z3, y9, k6, hf16, hS5, hr5⟩
  refine w_if hf16 (b := y9) (by kernel_rfl) (fun hb2 => ?_) (fun hb2 => ?_)
  ·have hr6 := cond_t hb2 hr5
   refine w_skip (by kernel_rfl) ?_
   refine n_then ?_
   refine w_seq (by kernel_rfl) ?_
   refine w_block (id := 1) (by kernel_rfl) ?_
   refine w_sr (by kernel_rfl) ?_
   obtain ⟨p4, hp2021, hr7⟩ := bind_some hr6
   obtain ⟨ad1, ho1, hb3, cc1, hc1, hk1⟩ := SliceR.getI (SliceR.mono (Zone.le_trans (Zone.le_trans k4 k5) k6) hx_x0) hp2021
   subst hc1
   refine p_qn 4 [.pointer (some ad1), vI p4] [(0, .slice o_x0 x0.length c_x0), (1, vI x1), (5, .bool r5), (6, pB b1 0), (7, vI y6), (8, vI y8), (35, vI p4)] [.prop (o_x0 = some ad1), .prop (0 ≤ y8 ∧ y8 < (x0.length : Nat)), .cell ((ad1.add (Int.toNat y8 * 1)).add 0) (vI p4)] hf16 (by kernel_rfl) (.prop ho1 (.prop hb3 (.cell (hS5.cell (hk1 0 _ rfl)) .nil))) fun a12 hf17 => ?_
   obtain ⟨r6, hd2, hr8⟩ := bind_some hr7
   refine p_call (i := 4) (d := some 36) (f := 35) (args := #[vI p4, vI 1000]) hf17 (by kernel_rfl) (f35_ok fuel p4 1000 r6 hd2 z3 _ _ hS5 ) ?_
   rintro v2 ww5 a13 ⟨rfl, hS6⟩ hf18
   refine ⟨fun _ => trivial, ?_⟩
   refine p_qt [] [(0, .slice o_x0 x0.length c_x0), (1, vI x1), (5, .bool r5), (6, pB b1 0), (7, vI y6), (8, vI y8), (9, vI (w64 ((1 : Int) + r6)))] [] hf18 (by kernel_rfl) .nil fun a14 hf19 => ?_
   refine w_sr (by kernel_rfl) ?_
   refine p_qn 6 [.slice e1 y3.length q1] [(0, .slice o_x0 x0.length c_x0), (1, vI x1), (5, .bool r5), (6, pB b1 0), (7, vI y6), (8, vI y8), (9, vI (w64 ((1 : Int) + r6))), (39, .slice e1 y3.length q1), (43, .agg #[vI (w64 (y8 + (1 : Int))), vI (w64 ((1 : Int) + r6))])] [.cell ⟨b1, 0, none⟩ (.slice e1 y3.length q1)] hf19 (by kernel_rfl) (.cell (hS6.box (i := 1) rfl (j := 0) rfl) .nil) fun a15 hf20 => ?_
   refine p_box (i := 6) (d := (some 44)) (cs := [vI (w64 (y8 + (1 : Int))), vI (w64 ((1 : Int) + r6))]) (T := 56) (v := fun b2 => .slice (some ⟨b2, 0, none⟩) 1 1) hS6 hf20 (fun b => by kernel_rfl) fun b2 ww6 a16 hS7 hf21 => ⟨fun _ => trivial, ?_⟩
   have hS8 := hS7.ownBox (T := PartT) (E := 56) (n := 1) (xs := [⟨(w64 (y8 + (1 : Int))), (w64 ((1 : Int) + r6))⟩]) (i := 0) rfl (Rows.cons (c := [vI (w64 (y8 + (1 : Int))), vI (w64 ((1 : Int) + r6))]) rfl rfl) rfl (by decide)
   obtain ⟨d1, hd3, hr9⟩ := bind_some hr8
   refine p_append (T := PartT) (i := 7) (j := 1) (d := some 45) (o2 := (some ⟨b2, 0, none⟩)) (c2 := 1) (ys := ([⟨(w64 (y8 + (1 : Int))), (w64 ((1 : Int) + r6))⟩])) el38 hS8 hf21 rfl (by kernel_rfl) (hS8.ownSrc (j := 0) rfl) hd3 fun e2 q2 ww7 a17 hS9 hf22 => ⟨fun _ => trivial, ?_⟩
   refine p_qn 1 [] [(0, .slice o_x0 x0.length c_x0), (1, vI x1), (5, .bool r5), (6, pB b1 0), (7, vI y6), (8, vI y8), (9, vI (w64 ((1 : Int) + r6))), (45, .slice e2 d1.length q2), (46, pB b1 0)] [] hf22 (by kernel_rfl) .nil fun a18 hf23 => ?_
   refine p_store_eq (i := 9) (j := 2) (b := b1) (off := 0) (vs := [.slice e2 d1.length q2]) (cs' := [.slice e2 d1.length q2]) hS9 hf23 rfl (by kernel_rfl) (by kernel_rfl) rfl fun ww8 a19 hS10 hf24 => ⟨fun _ => trivial, ?_⟩
   refine p_dt (by kernel_rfl) ?_
   refine w_q [] [(0, .slice o_x0 x0.length c_x0), (1, vI x1), (5, .bool r5), (6, pB b1 0), (7, vI (w64 (y6 + (w64 ((1 : Int) + r6))))), (8, vI y8)] [] hf24 (by kernel_rfl) .nil fun a20 hf25 => ?_
   refine n_block ?_
   refine n_then ?_
   refine w_q [] [(0, .slice o_x0 x0.length c_x0), (1, vI x1), (5, .bool r5), (6, pB b1 0), (7, vI (w64 (y6 + (w64 ((1 : Int) + r6))))), (8, vI (w64 (y8 + (1 : Int))))] [] hf25 (by kernel_rfl) .nil fun a21 hf26 => ?_
   refine n_then ?_
   have hf27 := Fr.keep (ks := [0, 1, 5, 6, 7, 8]) (r := [(0, .slice o_x0 x0.length c_x0), (1, vI x1), (5, .bool r5), (6, pB b1 0), (7, vI (w64 (y6 + (w64 ((1 : Int) + r6))))), (8, vI (w64 (y8 + (1 : Int))))]) hf26 (by kernel_rfl)
   exact ⟨n3, Nat.lt_succ_self n3, z3, d1, (w64 (y6 + (w64 ((1 : Int) + r6)))), (w64 (y8 + (1 : Int))), e2, q2, (Zone.le_trans k5 k6), hf27, (St.drop 1 hS10), hr9⟩
  ·have hr10 := cond_f hb2 hr5
   refine w_exit (id := 0) (by kernel_rfl) ?_
   refine x_then ?_
   refine x_then ?_
   refine x_block ?_
   refine n_then ?_
   refine w_seq (by kernel_rfl) ?_
   refine w_sq [] [(1, vI x1), (5, .bool r5), (6, pB b1 0), (7, vI y6), (51, .bool (y6 == (0 : Int)))] [] hf16 (by kernel_rfl) .nil fun a22 hf28 => ?_
   refine w_if hf28 (b := (y6 == (0 : Int))) (by kernel_rfl) (fun hb4 => ?_) (fun hb4 => ?_)
   ·have hr11 := cond_t hb4 hr10
    refine w_sq [] [(4, .bool r5)] [] hf28 (by kernel_rfl) .nil fun a23 hf29 => ?_
    refine w_ret (by kernel_rfl) ?_
    refine r_then ?_
    refine p_ret (os := []) (v := .bool r5) (obs := []) hf29 (by kernel_rfl) .nil ?_
    obtain rfl := some_eq hr11
    exact ⟨_, rfl, z3, (Zone.le_trans (Zone.le_trans k4 k5) k6), rfl, (St.drop 2 hS5)⟩
   ·have hr12 := cond_f hb4 hr10
    refine w_skip (by kernel_rfl) ?_
    refine n_then ?_
    refine w_sr (by kernel_rfl) ?_
    refine p_qn 3 [] [(5, .bool r5), (6, pB b1 0), (7, vI y6), (53, vI x1), (55, vI (w64 (y6 + (1 : Int))))] [] hf28 (by kernel_rfl) .nil fun a24 hf30 => ?_
    obtain ⟨r4, hd4, hr13⟩ := bind_some hr12
    refine p_call (i := 3) (d := some 56) (f := 35) (args := #[vI x1, vI (w64 (y6 + (1 : Int)))]) hf30 (by kernel_rfl) (f35_ok fuel x1 (w64 (y6 + (1 : Int))) r4 hd4 z3 _ _ hS5 ) ?_
    rintro v3 ww9 a25 ⟨rfl, hS11⟩ hf31
    refine ⟨fun _ => trivial, ?_⟩
    refine p_qt [] [(1, vI r4), (5, .bool r5), (6, pB b1 0), (7, vI y6)] [] hf31 (by kernel_rfl) .nil fun a26 hf32 => ?_
    refine w_sr (by kernel_rfl) ?_
    refine p_qn 2 [.slice e1 y3.length q1] [(1, vI r4), (5, .bool r5), (6, pB b1 0), (7, vI y6), (58, .agg #[.slice e1 y3.length q1]), (59, vI r4)] [.cell ⟨b1, 0, none⟩ (.slice e1 y3.length q1)] hf32 (by kernel_rfl) (.cell (hS11.box (i := 1) rfl (j := 0) rfl) .nil) fun a27 hf33 => ?_
    obtain ⟨z4, k7, hS12, hx1⟩ := hS11.share (j := 0) rfl
    obtain ⟨r1, hd5, hr14⟩ := bind_some hr13
    refine p_call (i := 2) (d := some 60) (f := 30) (args := #[.agg #[.slice e1 y3.length q1], vI r4]) hf33 (by kernel_rfl) (f30_ok fuel y3 r4 r1 hd5 z4 _ _ hS12 e1 q1 hx1) ?_
    rintro v4 ww10 a28 ⟨z5, e3, q3, e4, q4, k8, rfl, hS13, hx2, hx3⟩ hf34
    refine ⟨fun _ => trivial, ?_⟩
    refine p_qn 4 [] [(1, vI r4), (5, .bool r5), (6, pB b1 0), (7, vI y6), (61, .agg #[.slice e3 r1.1.length q3]), (62, .agg #[.slice e4 r1.2.1.length q4]), (63, vI r1.2.2)] [] hf34 (by kernel_rfl) .nil fun a29 hf35 => ?_
    refine p_box (i := 7) (d := (some 10)) (cs := [.slice none 0 0]) (T := 40) (v := fun b3 => pB b3 0) hS13 hf35 (fun b => by kernel_rfl) fun b3 ww11 a30 hS14 hf36 => ⟨fun _ => trivial, ?_⟩
    refine p_box (i := 8) (d := (some 11)) (cs := [.slice none 0 0]) (T := 40) (v := fun b4 => pB b4 0) hS14 hf36 (fun b => by kernel_rfl) fun b4 ww12 a31 hS15 hf37 => ⟨fun _ => trivial, ?_⟩
    refine p_store_eq (i := 9) (j := 1) (b := b3) (off := 0) (vs := [.slice e3 r1.1.length q3]) (cs' := [.slice e3 r1.1.length q3]) hS15 hf37 rfl (by kernel_rfl) (by kernel_rfl) rfl fun ww13 a32 hS16 hf38 => ⟨fun _ => trivial, ?_⟩
    refine p_store_eq (i := 10) (j := 0) (b := b4) (off := 0) (vs := [.slice e4 r1.2.1.length q4]) (cs' := [.slice e4 r1.2.1.length q4]) hS16 hf38 rfl (by kernel_rfl) (by kernel_rfl) rfl fun ww14 a33 hS17 hf39 => ⟨fun _ => trivial, ?_⟩
    refine p_qt [] [(1, vI r4), (5, .bool r5), (6, pB b1 0), (7, vI y6), (10, pB b3 0), (11, pB b4 0), (12, vI r1.2.2)] [] hf39 (by kernel_rfl) .nil fun a34 hf40 => ?_
    refine w_sr (by kernel_rfl) ?_
    refine p_qn 2 [.slice e3 r1.1.length q3, .slice e4 r1.2.1.length q4] [(1, vI r4), (5, .bool r5), (6, pB b1 0), (7, vI y6), (10, pB b3 0), (12, vI r1.2.2), (65, .agg #[.slice e3 r1.1.length q3]), (66, .agg #[.slice e4 r1.2.1.length q4])] [.cell ⟨b3, 0, none⟩ (.slice e3 r1.1.length q3), .cell ⟨b4, 0, none⟩ (.slice e4 r1.2.1.length q4)] hf40 (by kernel_rfl) (.cell (hS17.box (i := 1) rfl (j := 0) rfl) (.cell (hS17.box (i := 0) rfl (j := 0) rfl) .nil)) fun a35 hf41 => ?_
    obtain ⟨r7, hd6, hr15⟩ := bind_some hr14
    refine p_call (i := 2) (d := some 67) (f := 25) (args := #[.agg #[.slice e3 r1.1.length q3], .agg #[.slice e4 r1.2.1.length q4]]) hf41 (by kernel_rfl) (f25_ok fuel r1.1 r1.2.1 r7 hd6 z5 _ _ hS17 e3 q3 hx2 e4 q4 hx3) ?_
    rintro v5 ww15 a36 ⟨z6, e5, q5, k9, rfl, hS18, hx4⟩ hf42
    refine ⟨fun _ => trivial, ?_⟩
    refine p_qn 3 [] [(1, vI r4), (5, .bool r5), (6, pB b1 0), (7, vI y6), (10, pB b3 0), (12, vI r1.2.2), (68, .agg #[.slice e5 r7.1.length q5]), (69, vI r7.2)] [] hf42 (by kernel_rfl) .nil fun a37 hf43 => ?_
    refine p_box (i := 6) (d := (some 13)) (cs := [.slice none 0 0]) (T := 40) (v := fun b5 => pB b5 0) hS18 hf43 (fun b => by kernel_rfl) fun b5 ww16 a38 hS19 hf44 => ⟨fun _ => trivial, ?_⟩
    refine p_store_eq (i := 7) (j := 0) (b := b5) (off := 0) (vs := [.slice e5 r7.1.length q5]) (cs' := [.slice e5 r7.1.length q5]) hS19 hf44 rfl (by kernel_rfl) (by kernel_rfl) rfl fun ww17 a39 hS20 hf45 => ⟨fun _ => trivial, ?_⟩
    refine p_qt [] [(1, vI r4), (5, .bool r5), (6, pB b1 0), (7, vI y6), (10, pB b3 0), (12, vI r1.2.2), (13, pB b5 0), (14, vI r7.2)] [] hf45 (by kernel_rfl) .nil fun a40 hf46 => ?_
    refine w_sr (by kernel_rfl) ?_
    refine p_qn 2 [.slice e5 r7.1.length q5, .slice e1 y3.length q1] [(1, vI r4), (5, .bool r5), (6, pB b1 0), (7, vI y6), (10, pB b3 0), (12, vI r1.2.2), (14, vI r7.2), (70, .agg #[.slice e5 r7.1.length q5]), (71, .agg #[.slice e1 y3.length q1])] [.cell ⟨b5, 0, none⟩ (.slice e5 r7.1.length q5), .cell ⟨b1, 0, none⟩ (.slice e1 y3.length q1)] hf46 (by kernel_rfl) (.cell (hS20.box (i := 0) rfl (j := 0) rfl) (.cell (hS20.box (i := 4) rfl (j := 0) rfl) .nil)) fun a41 hf47 => ?_
    obtain ⟨r8, hd7, hr16⟩ := bind_some hr15
    refine p_call (i := 2) (d := some 72) (f := 26) (args := #[.agg #[.slice e5 r7.1.length q5], .agg #[.slice e1 y3.length q1]]) hf47 (by kernel_rfl) (f26_ok fuel r7.1 y3 r8 hd7 z6 _ _ hS20 e5 q5 hx4 e1 q1 (SliceR.mono (Zone.le_trans k8 k9) hx1)) ?_
    rintro v6 ww18 a42 ⟨z7, k10, rfl, hS21⟩ hf48
    refine ⟨fun _ => trivial, ?_⟩
    refine p_qt [] [(1, vI r4), (5, .bool r5), (6, pB b1 0), (7, vI y6), (10, pB b3 0), (12, vI r1.2.2), (14, vI r7.2), (15, .bool r8)] [] hf48 (by kernel_rfl) .nil fun a43 hf49 => ?_
    refine w_seq (by kernel_rfl) ?_
    refine w_mid (by kernel_rfl) (fun a w => ∃ z8 : Zone, ∃ y7 : Bool, Zone.le z7 z8 ∧ Fr a 165 [(1, vI r4), (6, pB b1 0), (7, vI y6), (10, pB b3 0), (92, .bool y7)] ∧ St z8 (box b5 [.slice e5 r7.1.length q5] 40 :: box b4 [.slice e4 r1.2.1.length q4] 40 :: box b3 [.slice e3 r1.1.length q3] 40 :: emp :: box b1 [.slice e1 y3.length q1] 40 :: L) w ∧ (F7_j2 fuel y3 y6 r4 r1 y7) = some r) ?_ ?_
    ·skip
     refine w_reg (by kernel_rfl) ?_
     refine p_qn 3 [] [(1, vI r4), (6, pB b1 0), (7, vI y6), (10, pB b3 0), (12, vI r1.2.2), (14, vI r7.2), (15, .bool r8), (75, .bool (!r5))] [] hf49 (by kernel_rfl) .nil fun a44 hf50 => ?_
     rcases Bool.eq_false_or_eq_true (!r5) with hb5 | hb5
     ·have hr17 := cond_t hb5 hr16
      have hf51 := Fr.conv hf50 (congrArg (fun z => ([(1, vI r4), (6, pB b1 0), (7, vI y6), (10, pB b3 0), (12, vI r1.2.2), (14, vI r7.2), (15, .bool r8), (75, .bool z)] : FL)) hb5)
      refine p_qt [] [(1, vI r4), (6, pB b1 0), (7, vI y6), (10, pB b3 0), (92, .bool true)] [] hf51 (by kernel_rfl) .nil fun a45 hf52 => ?_
      have hf53 := Fr.keep (ks := [1, 6, 7, 10, 92]) (r := [(1, vI r4), (6, pB b1 0), (7, vI y6), (10, pB b3 0), (92, .bool true)]) hf52 (by kernel_rfl)
      exact ⟨z7, true, (Zone.le_refl _), hf53, hS21, hr17⟩
     ·have hr18 := cond_f hb5 hr16
      have hf54 := Fr.conv hf50 (congrArg (fun z => ([(1, vI r4), (6, pB b1 0), (7, vI y6), (10, pB b3 0), (12, vI r1.2.2), (14, vI r7.2), (15, .bool r8), (75, .bool z)] : FL)) hb5)
      refine p_qn 4 [] [(1, vI r4), (6, pB b1 0), (7, vI y6), (10, pB b3 0), (14, vI r7.2), (15, .bool r8), (79, .bool (r1.2.2 != (0 : Int)))] [] hf54 (by kernel_rfl) .nil fun a46 hf55 => ?_
      rcases Bool.eq_false_or_eq_true (r1.2.2 != (0 : Int)) with hb6 | hb6
      ·have hr19 := cond_t hb6 hr18
       have hf56 := Fr.conv hf55 (congrArg (fun z => ([(1, vI r4), (6, pB b1 0), (7, vI y6), (10, pB b3 0), (14, vI r7.2), (15, .bool r8), (79, .bool z)] : FL)) hb6)
       refine p_qt [] [(1, vI r4), (6, pB b1 0), (7, vI y6), (10, pB b3 0), (92, .bool true)] [] hf56 (by kernel_rfl) .nil fun a47 hf57 => ?_
       have hf58 := Fr.keep (ks := [1, 6, 7, 10, 92]) (r := [(1, vI r4), (6, pB b1 0), (7, vI y6), (10, pB b3 0), (92, .bool true)]) hf57 (by kernel_rfl)
       exact ⟨z7, true, (Zone.le_refl _), hf58, hS21, hr19⟩
      ·have hr20 := cond_f hb6 hr18
       have hf59 := Fr.conv hf55 (congrArg (fun z => ([(1, vI r4), (6, pB b1 0), (7, vI y6), (10, pB b3 0), (14, vI r7.2), (15, .bool r8), (79, .bool z)] : FL)) hb6)
       refine p_qn 4 [] [(1, vI r4), (6, pB b1 0), (7, vI y6), (10, pB b3 0), (15, .bool r8), (83, .bool (r7.2 != (0 : Int)))] [] hf59 (by kernel_rfl) .nil fun a48 hf60 => ?_
       rcases Bool.eq_false_or_eq_true (r7.2 != (0 : Int)) with hb7 | hb7
       ·have hr21 := cond_t hb7 hr20
        have hf61 := Fr.conv hf60 (congrArg (fun z => ([(1, vI r4), (6, pB b1 0), (7, vI y6), (10, pB b3 0), (15, .bool r8), (83, .bool z)] : FL)) hb7)
        refine p_qt [] [(1, vI r4), (6, pB b1 0), (7, vI y6), (10, pB b3 0), (92, .bool true)] [] hf61 (by kernel_rfl) .nil fun a49 hf62 => ?_
        have hf63 := Fr.keep (ks := [1, 6, 7, 10, 92]) (r := [(1, vI r4), (6, pB b1 0), (7, vI y6), (10, pB b3 0), (92, .bool true)]) hf62 (by kernel_rfl)
        exact ⟨z7, true, (Zone.le_refl _), hf63, hS21, hr21⟩
       ·have hr22 := cond_f hb7 hr20
        have hf64 := Fr.conv hf60 (congrArg (fun z => ([(1, vI r4), (6, pB b1 0), (7, vI y6), (10, pB b3 0), (15, .bool r8), (83, .bool z)] : FL)) hb7)
        refine p_qn 4 [] [(1, vI r4), (6, pB b1 0), (7, vI y6), (10, pB b3 0), (87, .bool (!r8))] [] hf64 (by kernel_rfl) .nil fun a50 hf65 => ?_
        rcases Bool.eq_false_or_eq_true (!r8) with hb8 | hb8
        ·have hr23 := cond_t hb8 hr22
         have hf66 := Fr.conv hf65 (congrArg (fun z => ([(1, vI r4), (6, pB b1 0), (7, vI y6), (10, pB b3 0), (87, .bool z)] : FL)) hb8)
         refine p_qt [] [(1, vI r4), (6, pB b1 0), (7, vI y6), (10, pB b3 0), (92, .bool true)] [] hf66 (by kernel_rfl) .nil fun a51 hf67 => ?_
         have hf68 := Fr.keep (ks := [1, 6, 7, 10, 92]) (r := [(1, vI r4), (6, pB b1 0), (7, vI y6), (10, pB b3 0), (92, .bool true)]) hf67 (by kernel_rfl)
         exact ⟨z7, true, (Zone.le_refl _), hf68, hS21, hr23⟩
        ·have hr24 := cond_f hb8 hr22
         have hf69 := Fr.conv hf65 (congrArg (fun z => ([(1, vI r4), (6, pB b1 0), (7, vI y6), (10, pB b3 0), (87, .bool z)] : FL)) hb8)
         refine p_qn 1 [.slice e3 r1.1.length q3] [(1, vI r4), (6, pB b1 0), (7, vI y6), (10, pB b3 0), (87, .bool false), (88, .agg #[.slice e3 r1.1.length q3])] [.cell ⟨b3, 0, none⟩ (.slice e3 r1.1.length q3)] hf69 (by kernel_rfl) (.cell (hS21.box (i := 2) rfl (j := 0) rfl) .nil) fun a52 hf70 => ?_
         obtain ⟨r9, hd8, hr25⟩ := bind_some hr24
         refine p_call (i := 16) (d := some 89) (f := 33) (args := #[.agg #[.slice e3 r1.1.length q3]]) hf70 (by kernel_rfl) (f33_ok fuel r1.1 r9 hd8 z7 _ _ hS21 e3 q3 (SliceR.mono (Zone.le_trans k9 k10) hx2)) ?_
         rintro v7 ww19 a53 ⟨z9, k11, rfl, hS22⟩ hf71
         refine ⟨fun _ => trivial, ?_⟩
         refine p_qt [] [(1, vI r4), (6, pB b1 0), (7, vI y6), (10, pB b3 0), (92, .bool (r9 != r4))] [] hf71 (by kernel_rfl) .nil fun a54 hf72 => ?_
         have hf73 := Fr.keep (ks := [1, 6, 7, 10, 92]) (r := [(1, vI r4), (6, pB b1 0), (7, vI y6), (10, pB b3 0), (92, .bool (r9 != r4))]) hf72 (by kernel_rfl)
         exact ⟨z9, (r9 != r4), k11, hf73, hS22, hr25⟩
    ·rintro a55 ww20 ⟨z8, y7, k12, hf74, hS23, hr26⟩
     refine w_if hf74 (b := y7) (by kernel_rfl) (fun hb9 => ?_) (fun hb9 => ?_)
     ·have hr27 := cond_t hb9 hr26
      refine w_sq [] [(4, .bool false)] [] hf74 (by kernel_rfl) .nil fun a56 hf75 => ?_
      refine w_ret (by kernel_rfl) ?_
      refine r_then ?_
      refine p_ret (os := []) (v := .bool false) (obs := []) hf75 (by kernel_rfl) .nil ?_
      obtain rfl := some_eq hr27
      exact ⟨_, rfl, z8, (Zone.le_trans (Zone.le_trans (Zone.le_trans (Zone.le_trans (Zone.le_trans (Zone.le_trans (Zone.le_trans k4 k5) k6) k7) k8) k9) k10) k12), rfl, (St.drop 5 hS23)⟩
     ·have hr28 := cond_f hb9 hr26
      refine w_skip (by kernel_rfl) ?_
      refine n_then ?_
      refine w_seq (by kernel_rfl) ?_
      refine w_sq [] [(1, vI r4), (6, pB b1 0), (7, vI y6), (10, pB b3 0), (16, vI 0)] [] hf74 (by kernel_rfl) .nil fun a57 hf76 => ?_
      refine w_block (id := 2) (by kernel_rfl) ?_
      have hf77 := Fr.keep (ks := [1, 6, 7, 10, 16]) (r := [(1, vI r4), (6, pB b1 0), (7, vI y6), (10, pB b3 0), (16, vI 0)]) hf76 (by kernel_rfl)
      refine w_loop (by kernel_rfl) (fun n a w => ∃ z10 : Zone, ∃ y4 : Int, Zone.le z8 z10 ∧ Fr a 165 [(1, vI r4), (6, pB b1 0), (7, vI y6), (10, pB b3 0), (16, vI y4)] ∧ St z10 (box b5 [.slice e5 r7.1.length q5] 40 :: box b4 [.slice e4 r1.2.1.length q4] 40 :: box b3 [.slice e3 r1.1.length q3] 40 :: emp :: box b1 [.slice e1 y3.length q1] 40 :: L) w ∧ (F7_l2 fuel y3 y6 r4 r1 n y4) = some r) fuel ⟨z8, 0, (Zone.le_refl _), hf77, hS23, hr28⟩ ?_
      rintro n5 a58 ww21 ⟨z10, y4, k13, hf78, hS24, hr29⟩
      cases n5 with
      | zero => cases hr29
      | succ n2 =>
      refine w_seq (by kernel_rfl) ?_
      refine w_sq [.slice e1 y3.length q1] [(1, vI r4), (6, pB b1 0), (7, vI y6), (10, pB b3 0), (16, vI y4), (97, .bool (decide (y4 < (y3.length : Int))))] [.cell ⟨b1, 0, none⟩ (.slice e1 y3.length q1)] hf78 (by kernel_rfl) (.cell (hS24.box (i := 4) rfl (j := 0) rfl) .nil) fun a59 hf79 => ?_
      refine w_if hf79 (b := (decide (y4 < (y3.length : Int)))) (by kernel_rfl) (fun hb10 => ?_) (fun hb10 => ?_)
      ·have hr30 := cond_t hb10 hr29
       refine w_skip (by kernel_rfl) ?_
       refine n_then ?_
       refine w_seq (by kernel_rfl) ?_
       refine w_block (id := 3) (by kernel_rfl) ?_
       refine w_sr (by kernel_rfl) ?_
       obtain ⟨p1, hp16201, hr31⟩ := bind_some hr30
       obtain ⟨ad2, ho2, hb11, cc2, hc2, hk2⟩ := SliceR.getI (SliceR.mono (Zone.le_trans (Zone.le_trans (Zone.le_trans (Zone.le_trans k8 k9) k10) k12) k13) hx1) hp16201
       subst hc2
       refine p_qn 5 [.slice e1 y3.length q1, .pointer (some ad2), vI p1.lot, vI p1.mass] [(1, vI r4), (6, pB b1 0), (7, vI y6), (10, pB b3 0), (16, vI y4), (104, .agg #[vI p1.lot, vI p1.mass])] [.cell ⟨b1, 0, none⟩ (.slice e1 y3.length q1), .prop (e1 = some ad2), .prop (0 ≤ y4 ∧ y4 < (y3.length : Nat)), .cell ((ad2.add (Int.toNat y4 * 2)).add 0) (vI p1.lot), .cell ((ad2.add (Int.toNat y4 * 2)).add 1) (vI p1.mass)] hf79 (by kernel_rfl) (.cell (hS24.box (i := 4) rfl (j := 0) rfl) (.prop ho2 (.prop hb11 (.cell (hS24.cell (hk2 0 _ rfl)) (.cell (hS24.cell (hk2 1 _ rfl)) .nil))))) fun a60 hf80 => ?_
       refine p_box (i := 5) (d := (some 17)) (cs := [vI 0, vI 0]) (T := 56) (v := fun b6 => pB b6 0) hS24 hf80 (fun b => by kernel_rfl) fun b6 ww22 a61 hS25 hf81 => ⟨fun _ => trivial, ?_⟩
       refine p_store_eq (i := 6) (j := 0) (b := b6) (off := 0) (vs := [vI p1.lot, vI p1.mass]) (cs' := [vI p1.lot, vI p1.mass]) hS25 hf81 rfl (by kernel_rfl) (by kernel_rfl) rfl fun ww23 a62 hS26 hf82 => ⟨fun _ => trivial, ?_⟩
       refine p_dt (by kernel_rfl) ?_
       refine w_sr (by kernel_rfl) ?_
       refine p_qn 3 [.slice e3 r1.1.length q3, vI p1.lot] [(1, vI r4), (6, pB b1 0), (7, vI y6), (10, pB b3 0), (16, vI y4), (17, pB b6 0), (105, .agg #[.slice e3 r1.1.length q3]), (107, vI p1.lot)] [.cell ⟨b3, 0, none⟩ (.slice e3 r1.1.length q3), .cell ⟨b6, 0, none⟩ (vI p1.lot)] hf82 (by kernel_rfl) (.cell (hS26.box (i := 3) rfl (j := 0) rfl) (.cell (hS26.box (i := 0) rfl (j := 0) rfl) .nil)) fun a63 hf83 => ?_
       obtain ⟨r2, hd9, hr32⟩ := bind_some hr31
       refine p_call (i := 3) (d := some 108) (f := 36) (args := #[.agg #[.slice e3 r1.1.length q3], vI p1.lot]) hf83 (by kernel_rfl) (f36_ok fuel r1.1 p1.lot r2 hd9 z10 _ _ hS26 e3 q3 (SliceR.mono (Zone.le_trans (Zone.le_trans (Zone.le_trans k9 k10) k12) k13) hx2)) ?_
       rintro v8 ww24 a64 ⟨z11, k14, rfl, hS27⟩ hf84
       refine ⟨fun _ => trivial, ?_⟩
       refine p_qt [] [(1, vI r4), (6, pB b1 0), (7, vI y6), (10, pB b3 0), (16, vI y4), (17, pB b6 0), (18, vI r2)] [] hf84 (by kernel_rfl) .nil fun a65 hf85 => ?_
       obtain ⟨u1, hd10, hr33⟩ := bind_some hr32
       refine w_sq [vI p1.mass] [(1, vI r4), (6, pB b1 0), (7, vI y6), (10, pB b3 0), (16, vI y4), (17, pB b6 0), (18, vI r2), (19, vI (w64 (Int.tdiv (w64 (r4 * p1.mass)) y6)))] [.cell ⟨b6, 1, none⟩ (vI p1.mass), .prop (y6 ≠ 0)] hf85 (by kernel_rfl) (.cell (hS27.box (i := 0) rfl (j := 1) rfl) (.prop (nz_spec hd10) .nil)) fun a66 hf86 => ?_
       refine w_seq (by kernel_rfl) ?_
       refine w_mid (by kernel_rfl) (fun a w => ∃ z12 : Zone, ∃ y5 : Bool, Zone.le z11 z12 ∧ Fr a 165 [(1, vI r4), (6, pB b1 0), (7, vI y6), (10, pB b3 0), (16, vI y4), (17, pB b6 0), (18, vI r2), (138, .bool y5)] ∧ St z12 (box b6 [vI p1.lot, vI p1.mass] 56 :: box b5 [.slice e5 r7.1.length q5] 40 :: box b4 [.slice e4 r1.2.1.length q4] 40 :: box b3 [.slice e3 r1.1.length q3] 40 :: emp :: box b1 [.slice e1 y3.length q1] 40 :: L) w ∧ (F7_j3 fuel (F7_l2 fuel y3 y6 r4 r1 n2) y3 r1 y4 p1 r2 y5) = some r) ?_ ?_
       ·skip
        refine w_reg (by kernel_rfl) ?_
        refine p_qn 4 [] [(1, vI r4), (6, pB b1 0), (7, vI y6), (10, pB b3 0), (16, vI y4), (17, pB b6 0), (18, vI r2), (19, vI (w64 (Int.tdiv (w64 (r4 * p1.mass)) y6))), (118, .bool (decide (r2 < (w64 (Int.tdiv (w64 (r4 * p1.mass)) y6)))))] [] hf86 (by kernel_rfl) .nil fun a67 hf87 => ?_
        rcases Bool.eq_false_or_eq_true (decide (r2 < (w64 (Int.tdiv (w64 (r4 * p1.mass)) y6)))) with hb12 | hb12
        ·have hr34 := cond_t hb12 hr33
         have hf88 := Fr.conv hf87 (congrArg (fun z => ([(1, vI r4), (6, pB b1 0), (7, vI y6), (10, pB b3 0), (16, vI y4), (17, pB b6 0), (18, vI r2), (19, vI (w64 (Int.tdiv (w64 (r4 * p1.mass)) y6))), (118, .bool z)] : FL)) hb12)
         refine p_qt [] [(1, vI r4), (6, pB b1 0), (7, vI y6), (10, pB b3 0), (16, vI y4), (17, pB b6 0), (18, vI r2), (138, .bool true)] [] hf88 (by kernel_rfl) .nil fun a68 hf89 => ?_
         have hf90 := Fr.keep (ks := [1, 6, 7, 10, 16, 17, 18, 138]) (r := [(1, vI r4), (6, pB b1 0), (7, vI y6), (10, pB b3 0), (16, vI y4), (17, pB b6 0), (18, vI r2), (138, .bool true)]) hf89 (by kernel_rfl)
         exact ⟨z11, true, (Zone.le_refl _), hf90, hS27, hr34⟩
        ·have hr35 := cond_f hb12 hr33
         have hf91 := Fr.conv hf87 (congrArg (fun z => ([(1, vI r4), (6, pB b1 0), (7, vI y6), (10, pB b3 0), (16, vI y4), (17, pB b6 0), (18, vI r2), (19, vI (w64 (Int.tdiv (w64 (r4 * p1.mass)) y6))), (118, .bool z)] : FL)) hb12)
         refine p_qn 6 [] [(1, vI r4), (6, pB b1 0), (7, vI y6), (10, pB b3 0), (16, vI y4), (17, pB b6 0), (18, vI r2), (19, vI (w64 (Int.tdiv (w64 (r4 * p1.mass)) y6))), (124, .bool (decide (r2 > (w64 ((w64 (Int.tdiv (w64 (r4 * p1.mass)) y6)) + (1 : Int))))))] [] hf91 (by kernel_rfl) .nil fun a69 hf92 => ?_
         rcases Bool.eq_false_or_eq_true (decide (r2 > (w64 ((w64 (Int.tdiv (w64 (r4 * p1.mass)) y6)) + (1 : Int))))) with hb13 | hb13
         ·have hr36 := cond_t hb13 hr35
          have hf93 := Fr.conv hf92 (congrArg (fun z => ([(1, vI r4), (6, pB b1 0), (7, vI y6), (10, pB b3 0), (16, vI y4), (17, pB b6 0), (18, vI r2), (19, vI (w64 (Int.tdiv (w64 (r4 * p1.mass)) y6))), (124, .bool z)] : FL)) hb13)
          refine p_qt [] [(1, vI r4), (6, pB b1 0), (7, vI y6), (10, pB b3 0), (16, vI y4), (17, pB b6 0), (18, vI r2), (138, .bool true)] [] hf93 (by kernel_rfl) .nil fun a70 hf94 => ?_
          have hf95 := Fr.keep (ks := [1, 6, 7, 10, 16, 17, 18, 138]) (r := [(1, vI r4), (6, pB b1 0), (7, vI y6), (10, pB b3 0), (16, vI y4), (17, pB b6 0), (18, vI r2), (138, .bool true)]) hf94 (by kernel_rfl)
          exact ⟨z11, true, (Zone.le_refl _), hf95, hS27, hr36⟩
         ·have hr37 := cond_f hb13 hr35
          have hf96 := Fr.conv hf92 (congrArg (fun z => ([(1, vI r4), (6, pB b1 0), (7, vI y6), (10, pB b3 0), (16, vI y4), (17, pB b6 0), (18, vI r2), (19, vI (w64 (Int.tdiv (w64 (r4 * p1.mass)) y6))), (124, .bool z)] : FL)) hb13)
          refine p_qn 5 [] [(1, vI r4), (6, pB b1 0), (7, vI y6), (10, pB b3 0), (16, vI y4), (17, pB b6 0), (18, vI r2), (124, .bool false), (129, .bool (r2 == (w64 ((w64 (Int.tdiv (w64 (r4 * p1.mass)) y6)) + (1 : Int)))))] [] hf96 (by kernel_rfl) .nil fun a71 hf97 => ?_
          rcases Bool.eq_false_or_eq_true (r2 == (w64 ((w64 (Int.tdiv (w64 (r4 * p1.mass)) y6)) + (1 : Int)))) with hb14 | hb14
          ·have hr38 := cond_t hb14 hr37
           have hf98 := Fr.conv hf97 (congrArg (fun z => ([(1, vI r4), (6, pB b1 0), (7, vI y6), (10, pB b3 0), (16, vI y4), (17, pB b6 0), (18, vI r2), (124, .bool false), (129, .bool z)] : FL)) hb14)
           obtain ⟨u2, hd11, hr39⟩ := bind_some hr38
           refine p_qt [vI p1.mass] [(1, vI r4), (6, pB b1 0), (7, vI y6), (10, pB b3 0), (16, vI y4), (17, pB b6 0), (18, vI r2), (138, .bool ((Int.tmod (w64 (r4 * p1.mass)) y6) == (0 : Int)))] [.cell ⟨b6, 1, none⟩ (vI p1.mass), .prop (y6 ≠ 0)] hf98 (by kernel_rfl) (.cell (hS27.box (i := 0) rfl (j := 1) rfl) (.prop (nz_spec hd11) .nil)) fun a72 hf99 => ?_
           have hf100 := Fr.keep (ks := [1, 6, 7, 10, 16, 17, 18, 138]) (r := [(1, vI r4), (6, pB b1 0), (7, vI y6), (10, pB b3 0), (16, vI y4), (17, pB b6 0), (18, vI r2), (138, .bool ((Int.tmod (w64 (r4 * p1.mass)) y6) == (0 : Int)))]) hf99 (by kernel_rfl)
           exact ⟨z11, ((Int.tmod (w64 (r4 * p1.mass)) y6) == (0 : Int)), (Zone.le_refl _), hf100, hS27, hr39⟩
          ·have hr40 := cond_f hb14 hr37
           have hf101 := Fr.conv hf97 (congrArg (fun z => ([(1, vI r4), (6, pB b1 0), (7, vI y6), (10, pB b3 0), (16, vI y4), (17, pB b6 0), (18, vI r2), (124, .bool false), (129, .bool z)] : FL)) hb14)
           refine p_qt [] [(1, vI r4), (6, pB b1 0), (7, vI y6), (10, pB b3 0), (16, vI y4), (17, pB b6 0), (18, vI r2), (138, .bool false)] [] hf101 (by kernel_rfl) .nil fun a73 hf102 => ?_
           have hf103 := Fr.keep (ks := [1, 6, 7, 10, 16, 17, 18, 138]) (r := [(1, vI r4), (6, pB b1 0), (7, vI y6), (10, pB b3 0), (16, vI y4), (17, pB b6 0), (18, vI r2), (138, .bool false)]) hf102 (by kernel_rfl)
           exact ⟨z11, false, (Zone.le_refl _), hf103, hS27, hr40⟩
       ·rintro a74 ww25 ⟨z12, y5, k15, hf104, hS28, hr41⟩
        refine w_if hf104 (b := y5) (by kernel_rfl) (fun hb15 => ?_) (fun hb15 => ?_)
        ·have hr42 := cond_t hb15 hr41
         refine w_sq [] [(4, .bool false)] [] hf104 (by kernel_rfl) .nil fun a75 hf105 => ?_
         refine w_ret (by kernel_rfl) ?_
         refine r_then ?_
         refine r_block ?_
         refine r_then ?_
         refine r_then ?_
         refine r_block ?_
         refine r_then ?_
         refine p_ret (os := []) (v := .bool false) (obs := []) hf105 (by kernel_rfl) .nil ?_
         obtain rfl := some_eq hr42
         exact ⟨_, rfl, z12, (Zone.le_trans (Zone.le_trans (Zone.le_trans (Zone.le_trans (Zone.le_trans (Zone.le_trans (Zone.le_trans (Zone.le_trans (Zone.le_trans (Zone.le_trans k4 k5) k6) k7) k8) k9) k10) k12) k13) k14) k15), rfl, (St.drop 6 hS28)⟩
        ·have hr43 := cond_f hb15 hr41
         refine w_skip (by kernel_rfl) ?_
         refine n_then ?_
         refine w_sq [] [(1, vI r4), (6, pB b1 0), (7, vI y6), (10, pB b3 0), (16, vI y4), (17, pB b6 0), (18, vI r2), (20, vI 0)] [] hf104 (by kernel_rfl) .nil fun a76 hf106 => ?_
         refine w_block (id := 4) (by kernel_rfl) ?_
         have hf107 := Fr.keep (ks := [1, 6, 7, 10, 16, 17, 18, 20]) (r := [(1, vI r4), (6, pB b1 0), (7, vI y6), (10, pB b3 0), (16, vI y4), (17, pB b6 0), (18, vI r2), (20, vI 0)]) hf106 (by kernel_rfl)
         refine w_loop (by kernel_rfl) (fun n a w => ∃ z13 : Zone, ∃ y1 : Int, Zone.le z12 z13 ∧ Fr a 165 [(1, vI r4), (6, pB b1 0), (7, vI y6), (10, pB b3 0), (16, vI y4), (17, pB b6 0), (18, vI r2), (20, vI y1)] ∧ St z13 (box b6 [vI p1.lot, vI p1.mass] 56 :: box b5 [.slice e5 r7.1.length q5] 40 :: box b4 [.slice e4 r1.2.1.length q4] 40 :: box b3 [.slice e3 r1.1.length q3] 40 :: emp :: box b1 [.slice e1 y3.length q1] 40 :: L) w ∧ (F7_l3 fuel (F7_l2 fuel y3 y6 r4 r1 n2) y3 r1 y4 p1 r2 n y1) = some r) fuel ⟨z12, 0, (Zone.le_refl _), hf107, hS28, hr43⟩ ?_
         rintro n6 a77 ww26 ⟨z13, y1, k16, hf108, hS29, hr44⟩
         cases n6 with
         | zero => cases hr44
         | succ n1 =>
         refine w_seq (by kernel_rfl) ?_
         refine w_sq [] [(1, vI r4), (6, pB b1 0), (7, vI y6), (10, pB b3 0), (16, vI y4), (17, pB b6 0), (18, vI r2), (20, vI y1), (141, .bool (decide (y1 < y4)))] [] hf108 (by kernel_rfl) .nil fun a78 hf109 => ?_
         refine w_if hf109 (b := (decide (y1 < y4))) (by kernel_rfl) (fun hb16 => ?_) (fun hb16 => ?_)
         ·have hr45 := cond_t hb16 hr44
          refine w_skip (by kernel_rfl) ?_
          refine n_then ?_
          refine w_seq (by kernel_rfl) ?_
          refine w_block (id := 5) (by kernel_rfl) ?_
          refine w_mid (by kernel_rfl) (fun a w => ∃ z14 : Zone, ∃ y2 : Bool, Zone.le z13 z14 ∧ Fr a 165 [(1, vI r4), (6, pB b1 0), (7, vI y6), (10, pB b3 0), (16, vI y4), (17, pB b6 0), (18, vI r2), (20, vI y1), (164, .bool y2)] ∧ St z14 (box b6 [vI p1.lot, vI p1.mass] 56 :: box b5 [.slice e5 r7.1.length q5] 40 :: box b4 [.slice e4 r1.2.1.length q4] 40 :: box b3 [.slice e3 r1.1.length q3] 40 :: emp :: box b1 [.slice e1 y3.length q1] 40 :: L) w ∧ (F7_j4 (F7_l3 fuel (F7_l2 fuel y3 y6 r4 r1 n2) y3 r1 y4 p1 r2 n1) y1 y2) = some r) ?_ ?_
          ·skip
           have hS30 := hS29.drew
           refine w_regD (by kernel_rfl) [(0, true), (1, true), (2, true), (3, true), (4, true), (5, true), (6, true), (7, true), (8, true), (9, true), (10, true), (11, true), (12, true), (13, true), (14, true), (15, true), (16, true), (18, true), (17, false), (19, true), (20, true)] [17] (fun x => x = ww26.drew) (by kernel_rfl) rfl ?_
           obtain ⟨p2, hp17845, hr46⟩ := bind_some hr45
           obtain ⟨ad3, ho3, hb17, cc3, hc3, hk3⟩ := SliceR.getI (SliceR.mono (Zone.le_trans (Zone.le_trans (Zone.le_trans (Zone.le_trans (Zone.le_trans (Zone.le_trans (Zone.le_trans k8 k9) k10) k12) k13) k14) k15) k16) hx1) hp17845
           subst hc3
           refine p_qE 10 [.slice e1 y3.length q1, .pointer (some ad3), vI p2.mass, vI p1.mass] [(1, vI r4), (6, pB b1 0), (7, vI y6), (10, pB b3 0), (16, vI y4), (17, pB b6 0), (18, vI r2), (20, vI y1), (153, .bool (p2.mass == p1.mass))] [.cell ⟨b1, 0, none⟩ (.slice e1 y3.length q1), .prop (e1 = some ad3), .prop (0 ≤ y1 ∧ y1 < (y3.length : Nat)), .cell ((ad3.add (Int.toNat y1 * 2)).add 1) (vI p2.mass), .cell ⟨b6, 1, none⟩ (vI p1.mass)] [] hf109 (by kernel_rfl) (.cell (hS30.box (i := 5) rfl (j := 0) rfl) (.prop ho3 (.prop hb17 (.cell (hS30.cell (hk3 1 _ rfl)) (.cell (hS30.box (i := 0) rfl (j := 1) rfl) .nil))))) .nil fun a79 hf110 => ?_
           rcases Bool.eq_false_or_eq_true (p2.mass == p1.mass) with hb18 | hb18
           ·have hr47 := cond_t hb18 hr46
            have hf111 := Fr.conv hf110 (congrArg (fun z => ([(1, vI r4), (6, pB b1 0), (7, vI y6), (10, pB b3 0), (16, vI y4), (17, pB b6 0), (18, vI r2), (20, vI y1), (153, .bool z)] : FL)) hb18)
            obtain ⟨p3, hp17859, hr48⟩ := bind_some hr47
            obtain ⟨ad4, ho4, hb19, cc4, hc4, hk4⟩ := SliceR.getI (SliceR.mono (Zone.le_trans (Zone.le_trans (Zone.le_trans (Zone.le_trans (Zone.le_trans (Zone.le_trans (Zone.le_trans k8 k9) k10) k12) k13) k14) k15) k16) hx1) hp17859
            subst hc4
            refine p_qE 8 [.slice e3 r1.1.length q3, .slice e1 y3.length q1, .pointer (some ad4), vI p3.lot] [(1, vI r4), (6, pB b1 0), (7, vI y6), (10, pB b3 0), (16, vI y4), (17, pB b6 0), (18, vI r2), (20, vI y1), (153, .bool true), (154, .agg #[.slice e3 r1.1.length q3]), (160, vI p3.lot), (162, vI r2)] [.cell ⟨b3, 0, none⟩ (.slice e3 r1.1.length q3), .cell ⟨b1, 0, none⟩ (.slice e1 y3.length q1), .prop (e1 = some ad4), .prop (0 ≤ y1 ∧ y1 < (y3.length : Nat)), .cell ((ad4.add (Int.toNat y1 * 2)).add 0) (vI p3.lot)] [] hf111 (by kernel_rfl) (.cell (hS30.box (i := 3) rfl (j := 0) rfl) (.cell (hS30.box (i := 5) rfl (j := 0) rfl) (.prop ho4 (.prop hb19 (.cell (hS30.cell (hk4 0 _ rfl)) .nil))))) .nil fun a80 hf112 => ?_
            obtain ⟨r3, hd12, hr49⟩ := bind_some hr48
            refine p_call (i := 17) (d := some 161) (f := 36) (args := #[.agg #[.slice e3 r1.1.length q3], vI p3.lot]) hf112 (by kernel_rfl) (f36_ok fuel r1.1 p3.lot r3 hd12 z13 _ _ hS30 e3 q3 (SliceR.mono (Zone.le_trans (Zone.le_trans (Zone.le_trans (Zone.le_trans (Zone.le_trans (Zone.le_trans k9 k10) k12) k13) k14) k15) k16) hx2)) ?_
            rintro v9 ww27 a81 ⟨z15, k17, rfl, hS31⟩ hf113
            refine ⟨fun e => absurd e (by decide), ?_⟩
            refine p_qP 2 [] [(1, vI r4), (6, pB b1 0), (7, vI y6), (10, pB b3 0), (16, vI y4), (17, pB b6 0), (18, vI r2), (20, vI y1), (164, .bool (decide (r3 < r2)))] [] hf113 (by kernel_rfl) (fun _ => .nil) fun a82 hf114 => ?_
            refine p_dt (by kernel_rfl) ?_
            have hf115 := Fr.keep (ks := [1, 6, 7, 10, 16, 17, 18, 20, 164]) (r := [(1, vI r4), (6, pB b1 0), (7, vI y6), (10, pB b3 0), (16, vI y4), (17, pB b6 0), (18, vI r2), (20, vI y1), (164, .bool (decide (r3 < r2)))]) hf114 (by kernel_rfl)
            exact ⟨z15, (decide (r3 < r2)), k17, hf115, hS31, hr49⟩
           ·have hr50 := cond_f hb18 hr46
            have hf116 := Fr.conv hf110 (congrArg (fun z => ([(1, vI r4), (6, pB b1 0), (7, vI y6), (10, pB b3 0), (16, vI y4), (17, pB b6 0), (18, vI r2), (20, vI y1), (153, .bool z)] : FL)) hb18)
            refine p_qE 8 [] [(1, vI r4), (6, pB b1 0), (7, vI y6), (10, pB b3 0), (16, vI y4), (17, pB b6 0), (18, vI r2), (20, vI y1), (153, .bool false), (154, undef), (160, undef), (162, undef)] [] [] hf116 (by kernel_rfl) .nil .nil fun a83 hf117 => ?_
            refine p_qL 1 [] [(1, vI r4), (6, pB b1 0), (7, vI y6), (10, pB b3 0), (16, vI y4), (17, pB b6 0), (18, vI r2), (20, vI y1), (153, .bool false), (161, undef), (162, undef)] [] hf117 (by kernel_rfl) .nil fun a84 hf118 => ?_
            refine p_qtE [] [(1, vI r4), (6, pB b1 0), (7, vI y6), (10, pB b3 0), (16, vI y4), (17, pB b6 0), (18, vI r2), (20, vI y1), (164, .bool false)] [] [] hf118 (by kernel_rfl) .nil .nil fun a85 hf119 => ?_
            have hf120 := Fr.keep (ks := [1, 6, 7, 10, 16, 17, 18, 20, 164]) (r := [(1, vI r4), (6, pB b1 0), (7, vI y6), (10, pB b3 0), (16, vI y4), (17, pB b6 0), (18, vI r2), (20, vI y1), (164, .bool false)]) hf119 (by kernel_rfl)
            exact ⟨z13, false, (Zone.le_refl _), hf120, hS30, hr50⟩
          ·rintro a86 ww28 ⟨z14, y2, k18, hf121, hS32, hr51⟩
           refine w_if hf121 (b := y2) (by kernel_rfl) (fun hb20 => ?_) (fun hb20 => ?_)
           ·have hr52 := cond_t hb20 hr51
            refine w_sq [] [(4, .bool false)] [] hf121 (by kernel_rfl) .nil fun a87 hf122 => ?_
            refine w_ret (by kernel_rfl) ?_
            refine r_block ?_
            refine r_then ?_
            refine r_then ?_
            refine r_block ?_
            refine r_block ?_
            refine r_then ?_
            refine r_then ?_
            refine r_block ?_
            refine r_then ?_
            refine p_ret (os := []) (v := .bool false) (obs := []) hf122 (by kernel_rfl) .nil ?_
            obtain rfl := some_eq hr52
            exact ⟨_, rfl, z14, (Zone.le_trans (Zone.le_trans (Zone.le_trans (Zone.le_trans (Zone.le_trans (Zone.le_trans (Zone.le_trans (Zone.le_trans (Zone.le_trans (Zone.le_trans (Zone.le_trans (Zone.le_trans k4 k5) k6) k7) k8) k9) k10) k12) k13) k14) k15) k16) k18), rfl, (St.drop 6 hS32)⟩
           ·have hr53 := cond_f hb20 hr51
            refine w_skip (by kernel_rfl) ?_
            refine n_block ?_
            refine n_then ?_
            refine w_q [] [(1, vI r4), (6, pB b1 0), (7, vI y6), (10, pB b3 0), (16, vI y4), (17, pB b6 0), (18, vI r2), (20, vI (w64 (y1 + (1 : Int))))] [] hf121 (by kernel_rfl) .nil fun a88 hf123 => ?_
            refine n_then ?_
            have hf124 := Fr.keep (ks := [1, 6, 7, 10, 16, 17, 18, 20]) (r := [(1, vI r4), (6, pB b1 0), (7, vI y6), (10, pB b3 0), (16, vI y4), (17, pB b6 0), (18, vI r2), (20, vI (w64 (y1 + (1 : Int))))]) hf123 (by kernel_rfl)
            exact ⟨n1, Nat.lt_succ_self n1, z14, (w64 (y1 + (1 : Int))), (Zone.le_trans k16 k18), hf124, hS32, hr53⟩
         ·have hr54 := cond_f hb16 hr44
          refine w_exit (id := 4) (by kernel_rfl) ?_
          refine x_then ?_
          refine x_then ?_
          refine x_block ?_
          refine n_block ?_
          refine n_then ?_
          refine w_q [] [(1, vI r4), (6, pB b1 0), (7, vI y6), (10, pB b3 0), (16, vI (w64 (y4 + (1 : Int))))] [] hf109 (by kernel_rfl) .nil fun a89 hf125 => ?_
          refine n_then ?_
          have hf126 := Fr.keep (ks := [1, 6, 7, 10, 16]) (r := [(1, vI r4), (6, pB b1 0), (7, vI y6), (10, pB b3 0), (16, vI (w64 (y4 + (1 : Int))))]) hf125 (by kernel_rfl)
          exact ⟨n2, Nat.lt_succ_self n2, z13, (w64 (y4 + (1 : Int))), (Zone.le_trans (Zone.le_trans (Zone.le_trans k13 k14) k15) k16), hf126, (St.drop 1 hS29), hr54⟩
      ·have hr55 := cond_f hb10 hr29
       refine w_exit (id := 2) (by kernel_rfl) ?_
       refine x_then ?_
       refine x_then ?_
       refine x_block ?_
       refine n_then ?_
       refine w_sq [] [(4, .bool true)] [] hf79 (by kernel_rfl) .nil fun a90 hf127 => ?_
       refine w_ret (by kernel_rfl) ?_
       refine p_ret (os := []) (v := .bool true) (obs := []) hf127 (by kernel_rfl) .nil ?_
       obtain rfl := some_eq hr55
       exact ⟨_, rfl, z10, (Zone.le_trans (Zone.le_trans (Zone.le_trans (Zone.le_trans (Zone.le_trans (Zone.le_trans (Zone.le_trans (Zone.le_trans k4 k5) k6) k7) k8) k9) k10) k12) k13), rfl, (St.drop 5 hS24)⟩
end Go.Proofs.Ytlmgjjmighajdaa
