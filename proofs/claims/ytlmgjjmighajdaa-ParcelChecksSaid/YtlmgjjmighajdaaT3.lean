/-
  The walks of functions 23, 3: what the code does is what a plain function computes. No condition.
-/
import Derived.Test.YtlmgjjmighajdaaRC
set_option linter.unusedVariables false
namespace Go.Proofs.Ytlmgjjmighajdaa
open Go.Sl Go.Sx
def F23 (fuel : Nat) (x0_lots : List Lot) (x0_holds : List (List (List Part))) (x1_kind : Int) (x1_lot : Int) (x1_from : Int) (x1_to : Int) (x1_mass : Int) : Option (Int) :=
  ((F21 fuel x0_lots x0_holds).bind fun r1 => (cond (r1 != (0 : Int)) (some (r1)) ((F78 fuel x0_lots x0_holds x1_kind x1_lot x1_from x1_to x1_mass).bind fun r2 => (some (r2)))))
set_option maxRecDepth 100000 in
theorem f23_ok (fuel : Nat) (x0_lots : List Lot) (x0_holds : List (List (List Part))) (x1_kind : Int) (x1_lot : Int) (x1_from : Int) (x1_to : Int) (x1_mass : Int) (r : Int) (hr : F23 fuel x0_lots x0_holds x1_kind x1_lot x1_from x1_to x1_mass = some r) (h : Zone) (L : List Atom) (w : World) (hS : St h L w) (o_x0_lots : Option Addr) (c_x0_lots : Nat) (hx_x0_lots : SliceR LotT h o_x0_lots c_x0_lots x0_lots) (v0_x0_holds v1_x0_holds v2_x0_holds v3_x0_holds v4_x0_holds v5_x0_holds v6_x0_holds v7_x0_holds v8_x0_holds : Value) (hx_x0_holds : (Ty.arr 9 (Ty.slice (Ty.slice PartT))).rep h [v0_x0_holds, v1_x0_holds, v2_x0_holds, v3_x0_holds, v4_x0_holds, v5_x0_holds, v6_x0_holds, v7_x0_holds, v8_x0_holds] x0_holds) :
    Calls Try.prog 23 #[.agg #[.slice o_x0_lots x0_lots.length c_x0_lots, v0_x0_holds, v1_x0_holds, v2_x0_holds, v3_x0_holds, v4_x0_holds, v5_x0_holds, v6_x0_holds, v7_x0_holds, v8_x0_holds], .agg #[vI x1_kind, vI x1_lot, vI x1_from, vI x1_to, vI x1_mass]] w fun e w' => ∃ v, e = .returned v ∧ (∃ h', Zone.le h h' ∧ v = vI r ∧ St h' L w') := by
 refine calls_intro (N := 14) Try.func23 (by kernel_rfl) fun a hf => ?_
 refine w_sr (by kernel_rfl) ?_
 refine p_box (i := 0) (d := (some 2)) (cs := [.slice o_x0_lots x0_lots.length c_x0_lots, v0_x0_holds, v1_x0_holds, v2_x0_holds, v3_x0_holds, v4_x0_holds, v5_x0_holds, v6_x0_holds, v7_x0_holds, v8_x0_holds]) (T := 26) (v := fun b1 => pB b1 0) hS hf (fun b => by kernel_rfl) fun b1 ww1 a1 hS1 hf1 => ⟨fun _ => trivial, ?_⟩
 refine p_box (i := 1) (d := (some 3)) (cs := [vI x1_kind, vI x1_lot, vI x1_from, vI x1_to, vI x1_mass]) (T := 28) (v := fun b2 => pB b2 0) hS1 hf1 (fun b => by kernel_rfl) fun b2 ww2 a2 hS2 hf2 => ⟨fun _ => trivial, ?_⟩
 refine p_qt [] [(2, pB b1 0), (3, pB b2 0)] [] hf2 (by kernel_rfl) .nil fun a3 hf3 => ?_
 refine w_seq (by kernel_rfl) ?_
 refine w_sr (by kernel_rfl) ?_
 refine p_qn 1 [.slice o_x0_lots x0_lots.length c_x0_lots, v0_x0_holds, v1_x0_holds, v2_x0_holds, v3_x0_holds, v4_x0_holds, v5_x0_holds, v6_x0_holds, v7_x0_holds, v8_x0_holds] [(2, pB b1 0), (3, pB b2 0), (6, .agg #[.slice o_x0_lots x0_lots.length c_x0_lots, v0_x0_holds, v1_x0_holds, v2_x0_holds, v3_x0_holds, v4_x0_holds, v5_x0_holds, v6_x0_holds, v7_x0_holds, v8_x0_holds])] [.cell ⟨b1, 0, none⟩ (.slice o_x0_lots x0_lots.length c_x0_lots), .cell ⟨b1, 1, none⟩ (v0_x0_holds), .cell ⟨b1, 2, none⟩ (v1_x0_holds), .cell ⟨b1, 3, none⟩ (v2_x0_holds), .cell ⟨b1, 4, none⟩ (v3_x0_holds), .cell ⟨b1, 5, none⟩ (v4_x0_holds), .cell ⟨b1, 6, none⟩ (v5_x0_holds), .cell ⟨b1, 7, none⟩ (v6_x0_holds), .cell ⟨b1, 8, none⟩ (v7_x0_holds), .cell ⟨b1, 9, none⟩ (v8_x0_holds)] hf3 (by kernel_rfl) (.cell (hS2.box (i := 1) rfl (j := 0) rfl) (.cell (hS2.box (i := 1) rfl (j := 1) rfl) (.cell (hS2.box (i := 1) rfl (j := 2) rfl) (.cell (hS2.box (i := 1) rfl (j := 3) rfl) (.cell (hS2.box (i := 1) rfl (j := 4) rfl) (.cell (hS2.box (i := 1) rfl (j := 5) rfl) (.cell (hS2.box (i := 1) rfl (j := 6) rfl) (.cell (hS2.box (i := 1) rfl (j := 7) rfl) (.cell (hS2.box (i := 1) rfl (j := 8) rfl) (.cell (hS2.box (i := 1) rfl (j := 9) rfl) .nil)))))))))) fun a4 hf4 => ?_
 obtain ⟨r1, hd1, hr1⟩ := bind_some hr
 refine p_call (i := 1) (d := some 7) (f := 21) (args := #[.agg #[.slice o_x0_lots x0_lots.length c_x0_lots, v0_x0_holds, v1_x0_holds, v2_x0_holds, v3_x0_holds, v4_x0_holds, v5_x0_holds, v6_x0_holds, v7_x0_holds, v8_x0_holds]]) hf4 (by kernel_rfl) (f21_ok fuel x0_lots x0_holds r1 hd1 h _ _ hS2 o_x0_lots c_x0_lots hx_x0_lots v0_x0_holds v1_x0_holds v2_x0_holds v3_x0_holds v4_x0_holds v5_x0_holds v6_x0_holds v7_x0_holds v8_x0_holds (Ty.mono _ (Zone.le_refl _) hx_x0_holds)) ?_
 rintro v1 ww3 a5 ⟨z1, k1, rfl, hS3⟩ hf5
 refine ⟨fun _ => trivial, ?_⟩
 refine p_qt [] [(2, pB b1 0), (3, pB b2 0), (5, vI r1)] [] hf5 (by kernel_rfl) .nil fun a6 hf6 => ?_
 refine w_sq [] [(2, pB b1 0), (3, pB b2 0), (5, vI r1), (9, .bool (r1 != (0 : Int)))] [] hf6 (by kernel_rfl) .nil fun a7 hf7 => ?_
 refine w_if hf7 (b := (r1 != (0 : Int))) (by kernel_rfl) (fun hb1 => ?_) (fun hb1 => ?_)
 ·have hr2 := cond_t hb1 hr1
  refine w_sq [] [(4, vI r1)] [] hf7 (by kernel_rfl) .nil fun a8 hf8 => ?_
  refine w_ret (by kernel_rfl) ?_
  refine r_then ?_
  refine p_ret (os := []) (v := vI r1) (obs := []) hf8 (by kernel_rfl) .nil ?_
  obtain rfl := some_eq hr2
  exact ⟨_, rfl, z1, k1, rfl, (St.drop 2 hS3)⟩
 ·have hr3 := cond_f hb1 hr1
  refine w_skip (by kernel_rfl) ?_
  refine n_then ?_
  refine w_sr (by kernel_rfl) ?_
  refine p_qn 2 [.slice o_x0_lots x0_lots.length c_x0_lots, v0_x0_holds, v1_x0_holds, v2_x0_holds, v3_x0_holds, v4_x0_holds, v5_x0_holds, v6_x0_holds, v7_x0_holds, v8_x0_holds, vI x1_kind, vI x1_lot, vI x1_from, vI x1_to, vI x1_mass] [(11, .agg #[.slice o_x0_lots x0_lots.length c_x0_lots, v0_x0_holds, v1_x0_holds, v2_x0_holds, v3_x0_holds, v4_x0_holds, v5_x0_holds, v6_x0_holds, v7_x0_holds, v8_x0_holds]), (12, .agg #[vI x1_kind, vI x1_lot, vI x1_from, vI x1_to, vI x1_mass])] [.cell ⟨b1, 0, none⟩ (.slice o_x0_lots x0_lots.length c_x0_lots), .cell ⟨b1, 1, none⟩ (v0_x0_holds), .cell ⟨b1, 2, none⟩ (v1_x0_holds), .cell ⟨b1, 3, none⟩ (v2_x0_holds), .cell ⟨b1, 4, none⟩ (v3_x0_holds), .cell ⟨b1, 5, none⟩ (v4_x0_holds), .cell ⟨b1, 6, none⟩ (v5_x0_holds), .cell ⟨b1, 7, none⟩ (v6_x0_holds), .cell ⟨b1, 8, none⟩ (v7_x0_holds), .cell ⟨b1, 9, none⟩ (v8_x0_holds), .cell ⟨b2, 0, none⟩ (vI x1_kind), .cell ⟨b2, 1, none⟩ (vI x1_lot), .cell ⟨b2, 2, none⟩ (vI x1_from), .cell ⟨b2, 3, none⟩ (vI x1_to), .cell ⟨b2, 4, none⟩ (vI x1_mass)] hf7 (by kernel_rfl) (.cell (hS3.box (i := 1) rfl (j := 0) rfl) (.cell (hS3.box (i := 1) rfl (j := 1) rfl) (.cell (hS3.box (i := 1) rfl (j := 2) rfl) (.cell (hS3.box (i := 1) rfl (j := 3) rfl) (.cell (hS3.box (i := 1) rfl (j := 4) rfl) (.cell (hS3.box (i := 1) rfl (j := 5) rfl) (.cell (hS3.box (i := 1) rfl (j := 6) rfl) (.cell (hS3.box (i := 1) rfl (j := 7) rfl) (.cell (hS3.box (i := 1) rfl (j := 8) rfl) (.cell (hS3.box (i := 1) rfl (j := 9) rfl) (.cell (hS3.box (i := 0) rfl (j := 0) rfl) (.cell (hS3.box (i := 0) rfl (j := 1) rfl) (.cell (hS3.box (i := 0) rfl (j := 2) rfl) (.cell (hS3.box (i := 0) rfl (j := 3) rfl) (.cell (hS3.box (i := 0) rfl (j := 4) rfl) .nil))))))))))))))) fun a9 hf9 => ?_
  obtain ⟨r2, hd2, hr4⟩ := bind_some hr3
  refine p_call (i := 2) (d := some 13) (f := 78) (args := #[.agg #[.slice o_x0_lots x0_lots.length c_x0_lots, v0_x0_holds, v1_x0_holds, v2_x0_holds, v3_x0_holds, v4_x0_holds, v5_x0_holds, v6_x0_holds, v7_x0_holds, v8_x0_holds], .agg #[vI x1_kind, vI x1_lot, vI x1_from, vI x1_to, vI x1_mass]]) hf9 (by kernel_rfl) (f78_ok fuel x0_lots x0_holds x1_kind x1_lot x1_from x1_to x1_mass r2 hd2 z1 _ _ hS3 o_x0_lots c_x0_lots (SliceR.mono k1 hx_x0_lots) v0_x0_holds v1_x0_holds v2_x0_holds v3_x0_holds v4_x0_holds v5_x0_holds v6_x0_holds v7_x0_holds v8_x0_holds (Ty.mono _ k1 hx_x0_holds)) ?_
  rintro v2 ww4 a10 ⟨z2, k2, rfl, hS4⟩ hf10
  refine ⟨fun _ => trivial, ?_⟩
  refine p_qt [] [(4, vI r2)] [] hf10 (by kernel_rfl) .nil fun a11 hf11 => ?_
  refine w_ret (by kernel_rfl) ?_
  refine p_ret (os := []) (v := vI r2) (obs := []) hf11 (by kernel_rfl) .nil ?_
  obtain rfl := some_eq hr4
  exact ⟨_, rfl, z2, (Zone.le_trans k1 k2), rfl, (St.drop 2 hS4)⟩
def F3_j2 (y1 : Bool) : Option (Bool) :=
  (some (y1))
def F3_j1 (fuel : Nat) (x0 : List Lot) (x1_lots : List Lot) (x1_holds : List (List (List Part))) (x2_kind : Int) (x2_lot : Int) (x2_from : Int) (x2_to : Int) (x2_mass : Int) (r1 : Bool) (y2 : Bool) : Option (Bool) :=
  (cond y2 (some (false)) (cond r1 ((F19 fuel x0).bind fun r2 => ((F20 fuel x0).bind fun r3 => (cond (r2 == r3) ((F21 fuel x1_lots x1_holds).bind fun r4 => ((F22 fuel x1_lots x1_holds).bind fun r5 => (cond (r4 == r5) ((F23 fuel x1_lots x1_holds x2_kind x2_lot x2_from x2_to x2_mass).bind fun r6 => ((F24 fuel x1_lots x1_holds x2_kind x2_lot x2_from x2_to x2_mass).bind fun r7 => (F3_j2 (r6 == r7)))) (F3_j2 false)))) (F3_j2 false)))) (F3_j2 false)))
def F3 (fuel : Nat) (x0 : List Lot) (x1_lots : List Lot) (x1_holds : List (List (List Part))) (x2_kind : Int) (x2_lot : Int) (x2_from : Int) (x2_to : Int) (x2_mass : Int) : Option (Bool) :=
  ((F16 fuel ).bind fun r1 => (cond (decide ((x0.length : Int) > (0 : Int))) ((getI x0 0).bind fun p1 => ((getI x0 0).bind fun p2 => ((F17 fuel p1.id p1.owner p1.grade p1.wet).bind fun r8 => ((F18 fuel p2.id p2.owner p2.grade p2.wet).bind fun r9 => (F3_j1 fuel x0 x1_lots x1_holds x2_kind x2_lot x2_from x2_to x2_mass r1 (r8 != r9)))))) (F3_j1 fuel x0 x1_lots x1_holds x2_kind x2_lot x2_from x2_to x2_mass r1 false)))
set_option maxRecDepth 100000 in
theorem f3_ok (fuel : Nat) (x0 : List Lot) (x1_lots : List Lot) (x1_holds : List (List (List Part))) (x2_kind : Int) (x2_lot : Int) (x2_from : Int) (x2_to : Int) (x2_mass : Int) (r : Bool) (hr : F3 fuel x0 x1_lots x1_holds x2_kind x2_lot x2_from x2_to x2_mass = some r) (h : Zone) (L : List Atom) (w : World) (hS : St h L w) (o_x0 : Option Addr) (c_x0 : Nat) (hx_x0 : SliceR LotT h o_x0 c_x0 x0) (o_x1_lots : Option Addr) (c_x1_lots : Nat) (hx_x1_lots : SliceR LotT h o_x1_lots c_x1_lots x1_lots) (v0_x1_holds v1_x1_holds v2_x1_holds v3_x1_holds v4_x1_holds v5_x1_holds v6_x1_holds v7_x1_holds v8_x1_holds : Value) (hx_x1_holds : (Ty.arr 9 (Ty.slice (Ty.slice PartT))).rep h [v0_x1_holds, v1_x1_holds, v2_x1_holds, v3_x1_holds, v4_x1_holds, v5_x1_holds, v6_x1_holds, v7_x1_holds, v8_x1_holds] x1_holds) :
    Calls Try.prog 3 #[.slice o_x0 x0.length c_x0, .agg #[.slice o_x1_lots x1_lots.length c_x1_lots, v0_x1_holds, v1_x1_holds, v2_x1_holds, v3_x1_holds, v4_x1_holds, v5_x1_holds, v6_x1_holds, v7_x1_holds, v8_x1_holds], .agg #[vI x2_kind, vI x2_lot, vI x2_from, vI x2_to, vI x2_mass]] w fun e w' => ∃ v, e = .returned v ∧ (∃ h', Zone.le h h' ∧ v = .bool r ∧ St h' L w') := by
 refine calls_intro (N := 47) Try.func3 (by kernel_rfl) fun a hf => ?_
 refine w_sr (by kernel_rfl) ?_
 refine p_box (i := 0) (d := (some 4)) (cs := [.slice o_x1_lots x1_lots.length c_x1_lots, v0_x1_holds, v1_x1_holds, v2_x1_holds, v3_x1_holds, v4_x1_holds, v5_x1_holds, v6_x1_holds, v7_x1_holds, v8_x1_holds]) (T := 26) (v := fun b1 => pB b1 0) hS hf (fun b => by kernel_rfl) fun b1 ww1 a1 hS1 hf1 => ⟨fun _ => trivial, ?_⟩
 refine p_box (i := 1) (d := (some 5)) (cs := [vI x2_kind, vI x2_lot, vI x2_from, vI x2_to, vI x2_mass]) (T := 28) (v := fun b2 => pB b2 0) hS1 hf1 (fun b => by kernel_rfl) fun b2 ww2 a2 hS2 hf2 => ⟨fun _ => trivial, ?_⟩
 refine p_qt [] [(0, .slice o_x0 x0.length c_x0), (4, pB b1 0), (5, pB b2 0)] [] hf2 (by kernel_rfl) .nil fun a3 hf3 => ?_
 refine w_sr (by kernel_rfl) ?_
 obtain ⟨r1, hd1, hr1⟩ := bind_some hr
 refine p_call (i := 0) (d := some 8) (f := 16) (args := #[]) hf3 (by kernel_rfl) (f16_ok fuel  r1 hd1 h _ _ hS2 ) ?_
 rintro v1 ww3 a4 ⟨z1, k1, rfl, hS3⟩ hf4
 refine ⟨fun _ => trivial, ?_⟩
 refine p_qt [] [(0, .slice o_x0 x0.length c_x0), (4, pB b1 0), (5, pB b2 0), (7, .bool r1)] [] hf4 (by kernel_rfl) .nil fun a5 hf5 => ?_
 refine w_seq (by kernel_rfl) ?_
 refine w_mid (by kernel_rfl) (fun a w => ∃ z2 : Zone, ∃ y2 : Bool, Zone.le z1 z2 ∧ Fr a 47 [(0, .slice o_x0 x0.length c_x0), (4, pB b1 0), (5, pB b2 0), (7, .bool r1), (22, .bool y2)] ∧ St z2 (box b2 [vI x2_kind, vI x2_lot, vI x2_from, vI x2_to, vI x2_mass] 28 :: box b1 [.slice o_x1_lots x1_lots.length c_x1_lots, v0_x1_holds, v1_x1_holds, v2_x1_holds, v3_x1_holds, v4_x1_holds, v5_x1_holds, v6_x1_holds, v7_x1_holds, v8_x1_holds] 26 :: L) w ∧ (F3_j1 fuel x0 x1_lots x1_holds x2_kind x2_lot x2_from x2_to x2_mass r1 y2) = some r) ?_ ?_
 ·skip
  have hS4 := hS3.drew
  have s1 : Sub z1 (box b2 [vI x2_kind, vI x2_lot, vI x2_from, vI x2_to, vI x2_mass] 28 :: box b1 [.slice o_x1_lots x1_lots.length c_x1_lots, v0_x1_holds, v1_x1_holds, v2_x1_holds, v3_x1_holds, v4_x1_holds, v5_x1_holds, v6_x1_holds, v7_x1_holds, v8_x1_holds] 26 :: L) _ := Sub.of (Zone.le_refl _) hS4
  refine w_regD (by kernel_rfl) [(0, true), (1, true), (2, true), (3, true), (4, true), (5, true), (6, true), (8, true), (9, true), (10, true), (7, false), (11, false), (12, true), (13, true)] [11] (Sub z1 (box b2 [vI x2_kind, vI x2_lot, vI x2_from, vI x2_to, vI x2_mass] 28 :: box b1 [.slice o_x1_lots x1_lots.length c_x1_lots, v0_x1_holds, v1_x1_holds, v2_x1_holds, v3_x1_holds, v4_x1_holds, v5_x1_holds, v6_x1_holds, v7_x1_holds, v8_x1_holds] 26 :: L)) (by kernel_rfl) s1 ?_
  refine p_qS 4 [] [(0, .slice o_x0 x0.length c_x0), (4, pB b1 0), (5, pB b2 0), (7, .bool r1), (12, .bool (decide ((x0.length : Int) > (0 : Int))))] [] [] s1 hf5 (by kernel_rfl) (fun _ s => .nil) .nil fun a6 hf6 => ?_
  rcases Bool.eq_false_or_eq_true (decide ((x0.length : Int) > (0 : Int))) with hb1 | hb1
  ·have hr2 := cond_t hb1 hr1
   have hf7 := Fr.conv hf6 (congrArg (fun z => ([(0, .slice o_x0 x0.length c_x0), (4, pB b1 0), (5, pB b2 0), (7, .bool r1), (12, .bool z)] : FL)) hb1)
   obtain ⟨p1, hp462, hr3⟩ := bind_some hr2
   obtain ⟨ad1, ho1, hb2, cc1, hc1, hk1⟩ := SliceR.getI (SliceR.mono k1 hx_x0) hp462
   subst hc1
   obtain ⟨p2, hp471, hr4⟩ := bind_some hr3
   obtain ⟨ad2, ho2, hb3, cc2, hc2, hk2⟩ := SliceR.getI (SliceR.mono k1 hx_x0) hp471
   subst hc2
   refine p_qS 6 [.pointer (some ad1), vI p1.id, vI p1.owner, vI p1.grade, vI p1.wet, .pointer (some ad2), vI p2.id, vI p2.owner, vI p2.grade, vI p2.wet] [(0, .slice o_x0 x0.length c_x0), (4, pB b1 0), (5, pB b2 0), (7, .bool r1), (12, .bool true), (15, .agg #[vI p1.id, vI p1.owner, vI p1.grade, vI p1.wet]), (19, .agg #[vI p2.id, vI p2.owner, vI p2.grade, vI p2.wet])] [.prop (o_x0 = some ad1), .prop (0 ≤ (0 : Int) ∧ (0 : Int) < (x0.length : Nat)), .cell ((ad1.add (Int.toNat 0 * 4)).add 0) (vI p1.id), .cell ((ad1.add (Int.toNat 0 * 4)).add 1) (vI p1.owner), .cell ((ad1.add (Int.toNat 0 * 4)).add 2) (vI p1.grade), .cell ((ad1.add (Int.toNat 0 * 4)).add 3) (vI p1.wet), .prop (o_x0 = some ad2), .prop (0 ≤ (0 : Int) ∧ (0 : Int) < (x0.length : Nat)), .cell ((ad2.add (Int.toNat 0 * 4)).add 0) (vI p2.id), .cell ((ad2.add (Int.toNat 0 * 4)).add 1) (vI p2.owner), .cell ((ad2.add (Int.toNat 0 * 4)).add 2) (vI p2.grade), .cell ((ad2.add (Int.toNat 0 * 4)).add 3) (vI p2.wet)] [] s1 hf7 (by kernel_rfl) (fun _ s => (.prop ho1 (.prop hb2 (.cell (s.cell (hk1 0 _ rfl)) (.cell (s.cell (hk1 1 _ rfl)) (.cell (s.cell (hk1 2 _ rfl)) (.cell (s.cell (hk1 3 _ rfl)) (.prop ho2 (.prop hb3 (.cell (s.cell (hk2 0 _ rfl)) (.cell (s.cell (hk2 1 _ rfl)) (.cell (s.cell (hk2 2 _ rfl)) (.cell (s.cell (hk2 3 _ rfl)) .nil))))))))))))) .nil fun a7 hf8 => ?_
   obtain ⟨r8, hd2, hr5⟩ := bind_some hr4
   refine p_call (i := 7) (d := some 16) (f := 17) (args := #[.agg #[vI p1.id, vI p1.owner, vI p1.grade, vI p1.wet]]) hf8 (by kernel_rfl) (f17_ok fuel p1.id p1.owner p1.grade p1.wet r8 hd2 z1 _ _ hS4 ) ?_
   rintro v2 ww4 a8 ⟨z3, k2, rfl, hS5⟩ hf9
   refine ⟨fun _ => Sub.of k2 hS5, ?_⟩
   have s2 : Sub z1 (box b2 [vI x2_kind, vI x2_lot, vI x2_from, vI x2_to, vI x2_mass] 28 :: box b1 [.slice o_x1_lots x1_lots.length c_x1_lots, v0_x1_holds, v1_x1_holds, v2_x1_holds, v3_x1_holds, v4_x1_holds, v5_x1_holds, v6_x1_holds, v7_x1_holds, v8_x1_holds] 26 :: L) _ := Sub.of k2 hS5
   obtain ⟨r9, hd3, hr6⟩ := bind_some hr5
   refine p_call (i := 11) (d := some 20) (f := 18) (args := #[.agg #[vI p2.id, vI p2.owner, vI p2.grade, vI p2.wet]]) hf9 (by kernel_rfl) (f18_ok fuel p2.id p2.owner p2.grade p2.wet r9 hd3 z3 _ _ hS5 ) ?_
   rintro v3 ww5 a9 ⟨z4, k3, rfl, hS6⟩ hf10
   refine ⟨fun e => absurd e (by decide), ?_⟩
   refine p_qP 2 [] [(0, .slice o_x0 x0.length c_x0), (4, pB b1 0), (5, pB b2 0), (7, .bool r1), (22, .bool (r8 != r9))] [] hf10 (by kernel_rfl) (fun _ => .nil) fun a10 hf11 => ?_
   refine p_dt (by kernel_rfl) ?_
   have hf12 := Fr.keep (ks := [0, 4, 5, 7, 22]) (r := [(0, .slice o_x0 x0.length c_x0), (4, pB b1 0), (5, pB b2 0), (7, .bool r1), (22, .bool (r8 != r9))]) hf11 (by kernel_rfl)
   exact ⟨z4, (r8 != r9), (Zone.le_trans k2 k3), hf12, hS6, hr6⟩
  ·have hr7 := cond_f hb1 hr1
   have hf13 := Fr.conv hf6 (congrArg (fun z => ([(0, .slice o_x0 x0.length c_x0), (4, pB b1 0), (5, pB b2 0), (7, .bool r1), (12, .bool z)] : FL)) hb1)
   refine p_qS 7 [] [(0, .slice o_x0 x0.length c_x0), (4, pB b1 0), (5, pB b2 0), (7, .bool r1), (12, .bool false), (16, undef), (19, undef)] [] [] s1 hf13 (by kernel_rfl) (fun _ s => .nil) .nil fun a11 hf14 => ?_
   refine p_qL 1 [] [(0, .slice o_x0 x0.length c_x0), (4, pB b1 0), (5, pB b2 0), (7, .bool r1), (12, .bool false), (16, undef), (20, undef)] [] hf14 (by kernel_rfl) .nil fun a12 hf15 => ?_
   refine p_qS 2 [] [(0, .slice o_x0 x0.length c_x0), (4, pB b1 0), (5, pB b2 0), (7, .bool r1), (22, .bool false)] [] [] s1 hf15 (by kernel_rfl) (fun _ s => .nil) .nil fun a13 hf16 => ?_
   refine p_dt (by kernel_rfl) ?_
   have hf17 := Fr.keep (ks := [0, 4, 5, 7, 22]) (r := [(0, .slice o_x0 x0.length c_x0), (4, pB b1 0), (5, pB b2 0), (7, .bool r1), (22, .bool false)]) hf16 (by kernel_rfl)
   exact ⟨z1, false, (Zone.le_refl _), hf17, hS4, hr7⟩
 ·rintro a14 ww6 ⟨z2, y2, k4, hf18, hS7, hr8⟩
  refine w_if hf18 (b := y2) (by kernel_rfl) (fun hb4 => ?_) (fun hb4 => ?_)
  ·have hr9 := cond_t hb4 hr8
   refine w_sq [] [(6, .bool false)] [] hf18 (by kernel_rfl) .nil fun a15 hf19 => ?_
   refine w_ret (by kernel_rfl) ?_
   refine r_then ?_
   refine p_ret (os := []) (v := .bool false) (obs := []) hf19 (by kernel_rfl) .nil ?_
   obtain rfl := some_eq hr9
   exact ⟨_, rfl, z2, (Zone.le_trans k1 k4), rfl, (St.drop 2 hS7)⟩
  ·have hr10 := cond_f hb4 hr8
   refine w_skip (by kernel_rfl) ?_
   refine n_then ?_
   refine w_mid (by kernel_rfl) (fun a w => ∃ z5 : Zone, ∃ y1 : Bool, Zone.le z2 z5 ∧ Fr a 47 [(6, .bool y1)] ∧ St z5 (box b2 [vI x2_kind, vI x2_lot, vI x2_from, vI x2_to, vI x2_mass] 28 :: box b1 [.slice o_x1_lots x1_lots.length c_x1_lots, v0_x1_holds, v1_x1_holds, v2_x1_holds, v3_x1_holds, v4_x1_holds, v5_x1_holds, v6_x1_holds, v7_x1_holds, v8_x1_holds] 26 :: L) w ∧ (F3_j2 y1) = some r) ?_ ?_
   ·skip
    have hS8 := hS7.drew
    have s3 : Sub z2 (box b2 [vI x2_kind, vI x2_lot, vI x2_from, vI x2_to, vI x2_mass] 28 :: box b1 [.slice o_x1_lots x1_lots.length c_x1_lots, v0_x1_holds, v1_x1_holds, v2_x1_holds, v3_x1_holds, v4_x1_holds, v5_x1_holds, v6_x1_holds, v7_x1_holds, v8_x1_holds] 26 :: L) _ := Sub.of (Zone.le_refl _) hS8
    refine w_regD (by kernel_rfl) [(0, true), (1, true), (2, true), (4, true), (3, false), (5, false), (6, true), (7, true), (8, true), (9, true), (11, true), (10, false), (12, false), (13, true), (14, true), (15, true), (16, true), (17, true), (19, true), (20, true), (18, false), (21, false), (22, true), (23, true), (24, true)] [21] (Sub z2 (box b2 [vI x2_kind, vI x2_lot, vI x2_from, vI x2_to, vI x2_mass] 28 :: box b1 [.slice o_x1_lots x1_lots.length c_x1_lots, v0_x1_holds, v1_x1_holds, v2_x1_holds, v3_x1_holds, v4_x1_holds, v5_x1_holds, v6_x1_holds, v7_x1_holds, v8_x1_holds] 26 :: L)) (by kernel_rfl) s3 ?_
    refine p_qS 2 [] [(0, .slice o_x0 x0.length c_x0), (4, pB b1 0), (5, pB b2 0), (24, .bool r1)] [] [] s3 hf18 (by kernel_rfl) (fun _ s => .nil) .nil fun a16 hf20 => ?_
    rcases Bool.eq_false_or_eq_true r1 with hb5 | hb5
    ·have hr11 := cond_t hb5 hr10
     have hf21 := Fr.conv hf20 (congrArg (fun z => ([(0, .slice o_x0 x0.length c_x0), (4, pB b1 0), (5, pB b2 0), (24, .bool z)] : FL)) hb5)
     refine p_qS 2 [] [(4, pB b1 0), (5, pB b2 0), (24, .bool true), (25, .slice o_x0 x0.length c_x0), (27, .slice o_x0 x0.length c_x0)] [] [] s3 hf21 (by kernel_rfl) (fun _ s => .nil) .nil fun a17 hf22 => ?_
     obtain ⟨r2, hd4, hr12⟩ := bind_some hr11
     refine p_call (i := 3) (d := some 26) (f := 19) (args := #[.slice o_x0 x0.length c_x0]) hf22 (by kernel_rfl) (f19_ok fuel x0 r2 hd4 z2 _ _ hS8 o_x0 c_x0 (SliceR.mono (Zone.le_trans k1 k4) hx_x0)) ?_
     rintro v4 ww7 a18 ⟨z6, k5, rfl, hS9⟩ hf23
     refine ⟨fun _ => Sub.of k5 hS9, ?_⟩
     have s4 : Sub z2 (box b2 [vI x2_kind, vI x2_lot, vI x2_from, vI x2_to, vI x2_mass] 28 :: box b1 [.slice o_x1_lots x1_lots.length c_x1_lots, v0_x1_holds, v1_x1_holds, v2_x1_holds, v3_x1_holds, v4_x1_holds, v5_x1_holds, v6_x1_holds, v7_x1_holds, v8_x1_holds] 26 :: L) _ := Sub.of k5 hS9
     obtain ⟨r3, hd5, hr13⟩ := bind_some hr12
     refine p_call (i := 5) (d := some 28) (f := 20) (args := #[.slice o_x0 x0.length c_x0]) hf23 (by kernel_rfl) (f20_ok fuel x0 r3 hd5 z6 _ _ hS9 o_x0 c_x0 (SliceR.mono (Zone.le_trans (Zone.le_trans k1 k4) k5) hx_x0)) ?_
     rintro v5 ww8 a19 ⟨z7, k6, rfl, hS10⟩ hf24
     refine ⟨fun _ => Sub.of (Zone.le_trans k5 k6) hS10, ?_⟩
     have s5 : Sub z2 (box b2 [vI x2_kind, vI x2_lot, vI x2_from, vI x2_to, vI x2_mass] 28 :: box b1 [.slice o_x1_lots x1_lots.length c_x1_lots, v0_x1_holds, v1_x1_holds, v2_x1_holds, v3_x1_holds, v4_x1_holds, v5_x1_holds, v6_x1_holds, v7_x1_holds, v8_x1_holds] 26 :: L) _ := Sub.of (Zone.le_trans k5 k6) hS10
     refine p_qS 3 [] [(4, pB b1 0), (5, pB b2 0), (31, .bool (r2 == r3))] [] [] s5 hf24 (by kernel_rfl) (fun _ s => .nil) .nil fun a20 hf25 => ?_
     rcases Bool.eq_false_or_eq_true (r2 == r3) with hb6 | hb6
     ·have hr14 := cond_t hb6 hr13
      have hf26 := Fr.conv hf25 (congrArg (fun z => ([(4, pB b1 0), (5, pB b2 0), (31, .bool z)] : FL)) hb6)
      refine p_qS 2 [.slice o_x1_lots x1_lots.length c_x1_lots, v0_x1_holds, v1_x1_holds, v2_x1_holds, v3_x1_holds, v4_x1_holds, v5_x1_holds, v6_x1_holds, v7_x1_holds, v8_x1_holds, .slice o_x1_lots x1_lots.length c_x1_lots, v0_x1_holds, v1_x1_holds, v2_x1_holds, v3_x1_holds, v4_x1_holds, v5_x1_holds, v6_x1_holds, v7_x1_holds, v8_x1_holds] [(4, pB b1 0), (5, pB b2 0), (31, .bool true), (32, .agg #[.slice o_x1_lots x1_lots.length c_x1_lots, v0_x1_holds, v1_x1_holds, v2_x1_holds, v3_x1_holds, v4_x1_holds, v5_x1_holds, v6_x1_holds, v7_x1_holds, v8_x1_holds]), (34, .agg #[.slice o_x1_lots x1_lots.length c_x1_lots, v0_x1_holds, v1_x1_holds, v2_x1_holds, v3_x1_holds, v4_x1_holds, v5_x1_holds, v6_x1_holds, v7_x1_holds, v8_x1_holds])] [.cell ⟨b1, 0, none⟩ (.slice o_x1_lots x1_lots.length c_x1_lots), .cell ⟨b1, 1, none⟩ (v0_x1_holds), .cell ⟨b1, 2, none⟩ (v1_x1_holds), .cell ⟨b1, 3, none⟩ (v2_x1_holds), .cell ⟨b1, 4, none⟩ (v3_x1_holds), .cell ⟨b1, 5, none⟩ (v4_x1_holds), .cell ⟨b1, 6, none⟩ (v5_x1_holds), .cell ⟨b1, 7, none⟩ (v6_x1_holds), .cell ⟨b1, 8, none⟩ (v7_x1_holds), .cell ⟨b1, 9, none⟩ (v8_x1_holds), .cell ⟨b1, 0, none⟩ (.slice o_x1_lots x1_lots.length c_x1_lots), .cell ⟨b1, 1, none⟩ (v0_x1_holds), .cell ⟨b1, 2, none⟩ (v1_x1_holds), .cell ⟨b1, 3, none⟩ (v2_x1_holds), .cell ⟨b1, 4, none⟩ (v3_x1_holds), .cell ⟨b1, 5, none⟩ (v4_x1_holds), .cell ⟨b1, 6, none⟩ (v5_x1_holds), .cell ⟨b1, 7, none⟩ (v6_x1_holds), .cell ⟨b1, 8, none⟩ (v7_x1_holds), .cell ⟨b1, 9, none⟩ (v8_x1_holds)] [] s5 hf26 (by kernel_rfl) (fun _ s => (.cell (s.box (i := 1) rfl (j := 0) rfl) (.cell (s.box (i := 1) rfl (j := 1) rfl) (.cell (s.box (i := 1) rfl (j := 2) rfl) (.cell (s.box (i := 1) rfl (j := 3) rfl) (.cell (s.box (i := 1) rfl (j := 4) rfl) (.cell (s.box (i := 1) rfl (j := 5) rfl) (.cell (s.box (i := 1) rfl (j := 6) rfl) (.cell (s.box (i := 1) rfl (j := 7) rfl) (.cell (s.box (i := 1) rfl (j := 8) rfl) (.cell (s.box (i := 1) rfl (j := 9) rfl) (.cell (s.box (i := 1) rfl (j := 0) rfl) (.cell (s.box (i := 1) rfl (j := 1) rfl) (.cell (s.box (i := 1) rfl (j := 2) rfl) (.cell (s.box (i := 1) rfl (j := 3) rfl) (.cell (s.box (i := 1) rfl (j := 4) rfl) (.cell (s.box (i := 1) rfl (j := 5) rfl) (.cell (s.box (i := 1) rfl (j := 6) rfl) (.cell (s.box (i := 1) rfl (j := 7) rfl) (.cell (s.box (i := 1) rfl (j := 8) rfl) (.cell (s.box (i := 1) rfl (j := 9) rfl) .nil))))))))))))))))))))) .nil fun a21 hf27 => ?_
      obtain ⟨r4, hd6, hr15⟩ := bind_some hr14
      refine p_call (i := 10) (d := some 33) (f := 21) (args := #[.agg #[.slice o_x1_lots x1_lots.length c_x1_lots, v0_x1_holds, v1_x1_holds, v2_x1_holds, v3_x1_holds, v4_x1_holds, v5_x1_holds, v6_x1_holds, v7_x1_holds, v8_x1_holds]]) hf27 (by kernel_rfl) (f21_ok fuel x1_lots x1_holds r4 hd6 z7 _ _ hS10 o_x1_lots c_x1_lots (SliceR.mono (Zone.le_trans (Zone.le_trans (Zone.le_trans k1 k4) k5) k6) hx_x1_lots) v0_x1_holds v1_x1_holds v2_x1_holds v3_x1_holds v4_x1_holds v5_x1_holds v6_x1_holds v7_x1_holds v8_x1_holds (Ty.mono _ (Zone.le_trans (Zone.le_trans (Zone.le_trans k1 k4) k5) k6) hx_x1_holds)) ?_
      rintro v6 ww9 a22 ⟨z8, k7, rfl, hS11⟩ hf28
      refine ⟨fun _ => Sub.of (Zone.le_trans (Zone.le_trans k5 k6) k7) hS11, ?_⟩
      have s6 : Sub z2 (box b2 [vI x2_kind, vI x2_lot, vI x2_from, vI x2_to, vI x2_mass] 28 :: box b1 [.slice o_x1_lots x1_lots.length c_x1_lots, v0_x1_holds, v1_x1_holds, v2_x1_holds, v3_x1_holds, v4_x1_holds, v5_x1_holds, v6_x1_holds, v7_x1_holds, v8_x1_holds] 26 :: L) _ := Sub.of (Zone.le_trans (Zone.le_trans k5 k6) k7) hS11
      obtain ⟨r5, hd7, hr16⟩ := bind_some hr15
      refine p_call (i := 12) (d := some 35) (f := 22) (args := #[.agg #[.slice o_x1_lots x1_lots.length c_x1_lots, v0_x1_holds, v1_x1_holds, v2_x1_holds, v3_x1_holds, v4_x1_holds, v5_x1_holds, v6_x1_holds, v7_x1_holds, v8_x1_holds]]) hf28 (by kernel_rfl) (f22_ok fuel x1_lots x1_holds r5 hd7 z8 _ _ hS11 o_x1_lots c_x1_lots (SliceR.mono (Zone.le_trans (Zone.le_trans (Zone.le_trans (Zone.le_trans k1 k4) k5) k6) k7) hx_x1_lots) v0_x1_holds v1_x1_holds v2_x1_holds v3_x1_holds v4_x1_holds v5_x1_holds v6_x1_holds v7_x1_holds v8_x1_holds (Ty.mono _ (Zone.le_trans (Zone.le_trans (Zone.le_trans (Zone.le_trans k1 k4) k5) k6) k7) hx_x1_holds)) ?_
      rintro v7 ww10 a23 ⟨z9, k8, rfl, hS12⟩ hf29
      refine ⟨fun _ => Sub.of (Zone.le_trans (Zone.le_trans (Zone.le_trans k5 k6) k7) k8) hS12, ?_⟩
      have s7 : Sub z2 (box b2 [vI x2_kind, vI x2_lot, vI x2_from, vI x2_to, vI x2_mass] 28 :: box b1 [.slice o_x1_lots x1_lots.length c_x1_lots, v0_x1_holds, v1_x1_holds, v2_x1_holds, v3_x1_holds, v4_x1_holds, v5_x1_holds, v6_x1_holds, v7_x1_holds, v8_x1_holds] 26 :: L) _ := Sub.of (Zone.le_trans (Zone.le_trans (Zone.le_trans k5 k6) k7) k8) hS12
      refine p_qS 3 [] [(4, pB b1 0), (5, pB b2 0), (38, .bool (r4 == r5))] [] [] s7 hf29 (by kernel_rfl) (fun _ s => .nil) .nil fun a24 hf30 => ?_
      rcases Bool.eq_false_or_eq_true (r4 == r5) with hb7 | hb7
      ·have hr17 := cond_t hb7 hr16
       have hf31 := Fr.conv hf30 (congrArg (fun z => ([(4, pB b1 0), (5, pB b2 0), (38, .bool z)] : FL)) hb7)
       refine p_qS 4 [.slice o_x1_lots x1_lots.length c_x1_lots, v0_x1_holds, v1_x1_holds, v2_x1_holds, v3_x1_holds, v4_x1_holds, v5_x1_holds, v6_x1_holds, v7_x1_holds, v8_x1_holds, vI x2_kind, vI x2_lot, vI x2_from, vI x2_to, vI x2_mass, .slice o_x1_lots x1_lots.length c_x1_lots, v0_x1_holds, v1_x1_holds, v2_x1_holds, v3_x1_holds, v4_x1_holds, v5_x1_holds, v6_x1_holds, v7_x1_holds, v8_x1_holds, vI x2_kind, vI x2_lot, vI x2_from, vI x2_to, vI x2_mass] [(38, .bool true), (39, .agg #[.slice o_x1_lots x1_lots.length c_x1_lots, v0_x1_holds, v1_x1_holds, v2_x1_holds, v3_x1_holds, v4_x1_holds, v5_x1_holds, v6_x1_holds, v7_x1_holds, v8_x1_holds]), (40, .agg #[vI x2_kind, vI x2_lot, vI x2_from, vI x2_to, vI x2_mass]), (42, .agg #[.slice o_x1_lots x1_lots.length c_x1_lots, v0_x1_holds, v1_x1_holds, v2_x1_holds, v3_x1_holds, v4_x1_holds, v5_x1_holds, v6_x1_holds, v7_x1_holds, v8_x1_holds]), (43, .agg #[vI x2_kind, vI x2_lot, vI x2_from, vI x2_to, vI x2_mass])] [.cell ⟨b1, 0, none⟩ (.slice o_x1_lots x1_lots.length c_x1_lots), .cell ⟨b1, 1, none⟩ (v0_x1_holds), .cell ⟨b1, 2, none⟩ (v1_x1_holds), .cell ⟨b1, 3, none⟩ (v2_x1_holds), .cell ⟨b1, 4, none⟩ (v3_x1_holds), .cell ⟨b1, 5, none⟩ (v4_x1_holds), .cell ⟨b1, 6, none⟩ (v5_x1_holds), .cell ⟨b1, 7, none⟩ (v6_x1_holds), .cell ⟨b1, 8, none⟩ (v7_x1_holds), .cell ⟨b1, 9, none⟩ (v8_x1_holds), .cell ⟨b2, 0, none⟩ (vI x2_kind), .cell ⟨b2, 1, none⟩ (vI x2_lot), .cell ⟨b2, 2, none⟩ (vI x2_from), .cell ⟨b2, 3, none⟩ (vI x2_to), .cell ⟨b2, 4, none⟩ (vI x2_mass), .cell ⟨b1, 0, none⟩ (.slice o_x1_lots x1_lots.length c_x1_lots), .cell ⟨b1, 1, none⟩ (v0_x1_holds), .cell ⟨b1, 2, none⟩ (v1_x1_holds), .cell ⟨b1, 3, none⟩ (v2_x1_holds), .cell ⟨b1, 4, none⟩ (v3_x1_holds), .cell ⟨b1, 5, none⟩ (v4_x1_holds), .cell ⟨b1, 6, none⟩ (v5_x1_holds), .cell ⟨b1, 7, none⟩ (v6_x1_holds), .cell ⟨b1, 8, none⟩ (v7_x1_holds), .cell ⟨b1, 9, none⟩ (v8_x1_holds), .cell ⟨b2, 0, none⟩ (vI x2_kind), .cell ⟨b2, 1, none⟩ (vI x2_lot), .cell ⟨b2, 2, none⟩ (vI x2_from), .cell ⟨b2, 3, none⟩ (vI x2_to), .cell ⟨b2, 4, none⟩ (vI x2_mass)] [] s7 hf31 (by kernel_rfl) (fun _ s => (.cell (s.box (i := 1) rfl (j := 0) rfl) (.cell (s.box (i := 1) rfl (j := 1) rfl) (.cell (s.box (i := 1) rfl (j := 2) rfl) (.cell (s.box (i := 1) rfl (j := 3) rfl) (.cell (s.box (i := 1) rfl (j := 4) rfl) (.cell (s.box (i := 1) rfl (j := 5) rfl) (.cell (s.box (i := 1) rfl (j := 6) rfl) (.cell (s.box (i := 1) rfl (j := 7) rfl) (.cell (s.box (i := 1) rfl (j := 8) rfl) (.cell (s.box (i := 1) rfl (j := 9) rfl) (.cell (s.box (i := 0) rfl (j := 0) rfl) (.cell (s.box (i := 0) rfl (j := 1) rfl) (.cell (s.box (i := 0) rfl (j := 2) rfl) (.cell (s.box (i := 0) rfl (j := 3) rfl) (.cell (s.box (i := 0) rfl (j := 4) rfl) (.cell (s.box (i := 1) rfl (j := 0) rfl) (.cell (s.box (i := 1) rfl (j := 1) rfl) (.cell (s.box (i := 1) rfl (j := 2) rfl) (.cell (s.box (i := 1) rfl (j := 3) rfl) (.cell (s.box (i := 1) rfl (j := 4) rfl) (.cell (s.box (i := 1) rfl (j := 5) rfl) (.cell (s.box (i := 1) rfl (j := 6) rfl) (.cell (s.box (i := 1) rfl (j := 7) rfl) (.cell (s.box (i := 1) rfl (j := 8) rfl) (.cell (s.box (i := 1) rfl (j := 9) rfl) (.cell (s.box (i := 0) rfl (j := 0) rfl) (.cell (s.box (i := 0) rfl (j := 1) rfl) (.cell (s.box (i := 0) rfl (j := 2) rfl) (.cell (s.box (i := 0) rfl (j := 3) rfl) (.cell (s.box (i := 0) rfl (j := 4) rfl) .nil))))))))))))))))))))))))))))))) .nil fun a25 hf32 => ?_
       obtain ⟨r6, hd8, hr18⟩ := bind_some hr17
       refine p_call (i := 18) (d := some 41) (f := 23) (args := #[.agg #[.slice o_x1_lots x1_lots.length c_x1_lots, v0_x1_holds, v1_x1_holds, v2_x1_holds, v3_x1_holds, v4_x1_holds, v5_x1_holds, v6_x1_holds, v7_x1_holds, v8_x1_holds], .agg #[vI x2_kind, vI x2_lot, vI x2_from, vI x2_to, vI x2_mass]]) hf32 (by kernel_rfl) (f23_ok fuel x1_lots x1_holds x2_kind x2_lot x2_from x2_to x2_mass r6 hd8 z9 _ _ hS12 o_x1_lots c_x1_lots (SliceR.mono (Zone.le_trans (Zone.le_trans (Zone.le_trans (Zone.le_trans (Zone.le_trans k1 k4) k5) k6) k7) k8) hx_x1_lots) v0_x1_holds v1_x1_holds v2_x1_holds v3_x1_holds v4_x1_holds v5_x1_holds v6_x1_holds v7_x1_holds v8_x1_holds (Ty.mono _ (Zone.le_trans (Zone.le_trans (Zone.le_trans (Zone.le_trans (Zone.le_trans k1 k4) k5) k6) k7) k8) hx_x1_holds)) ?_
       rintro v8 ww11 a26 ⟨z10, k9, rfl, hS13⟩ hf33
       refine ⟨fun _ => Sub.of (Zone.le_trans (Zone.le_trans (Zone.le_trans (Zone.le_trans k5 k6) k7) k8) k9) hS13, ?_⟩
       have s8 : Sub z2 (box b2 [vI x2_kind, vI x2_lot, vI x2_from, vI x2_to, vI x2_mass] 28 :: box b1 [.slice o_x1_lots x1_lots.length c_x1_lots, v0_x1_holds, v1_x1_holds, v2_x1_holds, v3_x1_holds, v4_x1_holds, v5_x1_holds, v6_x1_holds, v7_x1_holds, v8_x1_holds] 26 :: L) _ := Sub.of (Zone.le_trans (Zone.le_trans (Zone.le_trans (Zone.le_trans k5 k6) k7) k8) k9) hS13
       obtain ⟨r7, hd9, hr19⟩ := bind_some hr18
       refine p_call (i := 21) (d := some 44) (f := 24) (args := #[.agg #[.slice o_x1_lots x1_lots.length c_x1_lots, v0_x1_holds, v1_x1_holds, v2_x1_holds, v3_x1_holds, v4_x1_holds, v5_x1_holds, v6_x1_holds, v7_x1_holds, v8_x1_holds], .agg #[vI x2_kind, vI x2_lot, vI x2_from, vI x2_to, vI x2_mass]]) hf33 (by kernel_rfl) (f24_ok fuel x1_lots x1_holds x2_kind x2_lot x2_from x2_to x2_mass r7 hd9 z10 _ _ hS13 o_x1_lots c_x1_lots (SliceR.mono (Zone.le_trans (Zone.le_trans (Zone.le_trans (Zone.le_trans (Zone.le_trans (Zone.le_trans k1 k4) k5) k6) k7) k8) k9) hx_x1_lots) v0_x1_holds v1_x1_holds v2_x1_holds v3_x1_holds v4_x1_holds v5_x1_holds v6_x1_holds v7_x1_holds v8_x1_holds (Ty.mono _ (Zone.le_trans (Zone.le_trans (Zone.le_trans (Zone.le_trans (Zone.le_trans (Zone.le_trans k1 k4) k5) k6) k7) k8) k9) hx_x1_holds)) ?_
       rintro v9 ww12 a27 ⟨z11, k10, rfl, hS14⟩ hf34
       refine ⟨fun e => absurd e (by decide), ?_⟩
       refine p_qP 3 [] [(6, .bool (r6 == r7))] [] hf34 (by kernel_rfl) (fun _ => .nil) fun a28 hf35 => ?_
       refine p_dt (by kernel_rfl) ?_
       have hf36 := Fr.keep (ks := [6]) (r := [(6, .bool (r6 == r7))]) hf35 (by kernel_rfl)
       exact ⟨z11, (r6 == r7), (Zone.le_trans (Zone.le_trans (Zone.le_trans (Zone.le_trans (Zone.le_trans k5 k6) k7) k8) k9) k10), hf36, hS14, hr19⟩
      ·have hr20 := cond_f hb7 hr16
       have hf37 := Fr.conv hf30 (congrArg (fun z => ([(4, pB b1 0), (5, pB b2 0), (38, .bool z)] : FL)) hb7)
       refine p_qS 5 [] [(38, .bool false), (41, undef), (42, undef), (43, undef)] [] [] s7 hf37 (by kernel_rfl) (fun _ s => .nil) .nil fun a29 hf38 => ?_
       refine p_qL 1 [] [(38, .bool false), (41, undef), (44, undef)] [] hf38 (by kernel_rfl) .nil fun a30 hf39 => ?_
       refine p_qS 3 [] [(6, .bool false)] [] [] s7 hf39 (by kernel_rfl) (fun _ s => .nil) .nil fun a31 hf40 => ?_
       refine p_dt (by kernel_rfl) ?_
       have hf41 := Fr.keep (ks := [6]) (r := [(6, .bool false)]) hf40 (by kernel_rfl)
       exact ⟨z9, false, (Zone.le_trans (Zone.le_trans (Zone.le_trans k5 k6) k7) k8), hf41, hS12, hr20⟩
     ·have hr21 := cond_f hb6 hr13
      have hf42 := Fr.conv hf25 (congrArg (fun z => ([(4, pB b1 0), (5, pB b2 0), (31, .bool z)] : FL)) hb6)
      refine p_qS 12 [] [(38, .bool false), (41, undef), (42, undef), (43, undef)] [] [] s5 hf42 (by kernel_rfl) (fun _ s => .nil) .nil fun a32 hf43 => ?_
      refine p_qL 1 [] [(38, .bool false), (41, undef), (44, undef)] [] hf43 (by kernel_rfl) .nil fun a33 hf44 => ?_
      refine p_qS 3 [] [(6, .bool false)] [] [] s5 hf44 (by kernel_rfl) (fun _ s => .nil) .nil fun a34 hf45 => ?_
      refine p_dt (by kernel_rfl) ?_
      have hf46 := Fr.keep (ks := [6]) (r := [(6, .bool false)]) hf45 (by kernel_rfl)
      exact ⟨z7, false, (Zone.le_trans k5 k6), hf46, hS10, hr21⟩
    ·have hr22 := cond_f hb5 hr10
     have hf47 := Fr.conv hf20 (congrArg (fun z => ([(0, .slice o_x0 x0.length c_x0), (4, pB b1 0), (5, pB b2 0), (24, .bool z)] : FL)) hb5)
     refine p_qS 19 [] [(38, .bool false), (41, undef), (42, undef), (43, undef)] [] [] s3 hf47 (by kernel_rfl) (fun _ s => .nil) .nil fun a35 hf48 => ?_
     refine p_qL 1 [] [(38, .bool false), (41, undef), (44, undef)] [] hf48 (by kernel_rfl) .nil fun a36 hf49 => ?_
     refine p_qS 3 [] [(6, .bool false)] [] [] s3 hf49 (by kernel_rfl) (fun _ s => .nil) .nil fun a37 hf50 => ?_
     refine p_dt (by kernel_rfl) ?_
     have hf51 := Fr.keep (ks := [6]) (r := [(6, .bool false)]) hf50 (by kernel_rfl)
     exact ⟨z2, false, (Zone.le_refl _), hf51, hS8, hr22⟩
   ·rintro a38 ww13 ⟨z5, y1, k11, hf52, hS15, hr23⟩
    refine w_ret (by kernel_rfl) ?_
    refine p_ret (os := []) (v := .bool y1) (obs := []) hf52 (by kernel_rfl) .nil ?_
    obtain rfl := some_eq hr23
    exact ⟨_, rfl, z5, (Zone.le_trans (Zone.le_trans k1 k4) k11), rfl, (St.drop 2 hS15)⟩
end Go.Proofs.Ytlmgjjmighajdaa
