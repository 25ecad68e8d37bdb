/-
  The walks of functions 71, 17, 73, 90, 137, 123, 127, 91, 30, 19, 110, 84, 83, 81, 125, 148, 80, 150, 151, 152, 146, 147, 138, 139, 140, 141, 142, 143, 130, 122, 74, 124, 75, 78, 82, 97, 38, 98, 40, 21, 103, 117, 61, 69, 70, 16: what the code does is what a plain function computes. No condition.
-/
import Derived.Test.YtlmgjjmighajdaaSPb
set_option linter.unusedVariables false
namespace Go.Proofs.Ytlmgjjmighajdaa
open Go.Sl Go.Sx
def F78 (fuel : Nat) (x0_lots : List Lot) (x0_holds : List (List (List Part))) (x1_kind : Int) (x1_lot : Int) (x1_from : Int) (x1_to : Int) (x1_mass : Int) : Option (Int) :=
  ((F124 fuel x0_lots x0_holds x1_kind x1_lot x1_from x1_to x1_mass).bind fun r4 => (cond (!r4) (some (61)) ((F125 fuel ).bind fun r5 => (F78_j1 fuel x0_holds x1_kind x1_from x1_to x1_mass ((lkK r5 x1_kind zrow).lot) ((lkK r5 x1_kind zrow).frm) ((lkK r5 x1_kind zrow).to) ((lkK r5 x1_kind zrow).mass) ((lkK r5 x1_kind zrow).fn)))))
set_option maxRecDepth 100000 in
theorem f78_ok (fuel : Nat) (x0_lots : List Lot) (x0_holds : List (List (List Part))) (x1_kind : Int) (x1_lot : Int) (x1_from : Int) (x1_to : Int) (x1_mass : Int) (r : Int) (hr : F78 fuel x0_lots x0_holds x1_kind x1_lot x1_from x1_to x1_mass = some r) (h : Zone) (L : List Atom) (w : World) (hS : St h L w) (o_x0_lots : Option Addr) (c_x0_lots : Nat) (hx_x0_lots : SliceR LotT h o_x0_lots c_x0_lots x0_lots) (v0_x0_holds v1_x0_holds v2_x0_holds v3_x0_holds v4_x0_holds v5_x0_holds v6_x0_holds v7_x0_holds v8_x0_holds : Value) (hx_x0_holds : (Ty.arr 9 (Ty.slice (Ty.slice PartT))).rep h [v0_x0_holds, v1_x0_holds, v2_x0_holds, v3_x0_holds, v4_x0_holds, v5_x0_holds, v6_x0_holds, v7_x0_holds, v8_x0_holds] x0_holds) :
    Calls Try.prog 78 #[.agg #[.slice o_x0_lots x0_lots.length c_x0_lots, v0_x0_holds, v1_x0_holds, v2_x0_holds, v3_x0_holds, v4_x0_holds, v5_x0_holds, v6_x0_holds, v7_x0_holds, v8_x0_holds], .agg #[vI x1_kind, vI x1_lot, vI x1_from, vI x1_to, vI x1_mass]] w fun e w' => ∃ v, e = .returned v ∧ (∃ h', Zone.le h h' ∧ v = vI r ∧ St h' L w') := by
 refine calls_intro (N := 69) Try.func78 (by kernel_rfl) fun a hf => ?_
 refine w_sr (by kernel_rfl) ?_
 refine p_box (i := 0) (d := (some 2)) (cs := [.slice o_x0_lots x0_lots.length c_x0_lots, v0_x0_holds, v1_x0_holds, v2_x0_holds, v3_x0_holds, v4_x0_holds, v5_x0_holds, v6_x0_holds, v7_x0_holds, v8_x0_holds]) (T := 26) (v := fun b1 => pB b1 0) hS hf (fun b => by kernel_rfl) fun b1 ww1 a1 hS1 hf1 => ⟨fun _ => trivial, ?_⟩
 refine p_box (i := 1) (d := (some 3)) (cs := [vI x1_kind, vI x1_lot, vI x1_from, vI x1_to, vI x1_mass]) (T := 28) (v := fun b2 => pB b2 0) hS1 hf1 (fun b => by kernel_rfl) fun b2 ww2 a2 hS2 hf2 => ⟨fun _ => trivial, ?_⟩
 refine p_qt [] [(2, pB b1 0), (3, pB b2 0)] [] hf2 (by kernel_rfl) .nil fun a3 hf3 => ?_
 refine w_seq (by kernel_rfl) ?_
 refine w_sr (by kernel_rfl) ?_
 refine p_qn 2 [.slice o_x0_lots x0_lots.length c_x0_lots, v0_x0_holds, v1_x0_holds, v2_x0_holds, v3_x0_holds, v4_x0_holds, v5_x0_holds, v6_x0_holds, v7_x0_holds, v8_x0_holds, vI x1_kind, vI x1_lot, vI x1_from, vI x1_to, vI x1_mass] [(2, pB b1 0), (3, pB b2 0), (6, .agg #[.slice o_x0_lots x0_lots.length c_x0_lots, v0_x0_holds, v1_x0_holds, v2_x0_holds, v3_x0_holds, v4_x0_holds, v5_x0_holds, v6_x0_holds, v7_x0_holds, v8_x0_holds]), (7, .agg #[vI x1_kind, vI x1_lot, vI x1_from, vI x1_to, vI x1_mass])] [.cell ⟨b1, 0, none⟩ (.slice o_x0_lots x0_lots.length c_x0_lots), .cell ⟨b1, 1, none⟩ (v0_x0_holds), .cell ⟨b1, 2, none⟩ (v1_x0_holds), .cell ⟨b1, 3, none⟩ (v2_x0_holds), .cell ⟨b1, 4, none⟩ (v3_x0_holds), .cell ⟨b1, 5, none⟩ (v4_x0_holds), .cell ⟨b1, 6, none⟩ (v5_x0_holds), .cell ⟨b1, 7, none⟩ (v6_x0_holds), .cell ⟨b1, 8, none⟩ (v7_x0_holds), .cell ⟨b1, 9, none⟩ (v8_x0_holds), .cell ⟨b2, 0, none⟩ (vI x1_kind), .cell ⟨b2, 1, none⟩ (vI x1_lot), .cell ⟨b2, 2, none⟩ (vI x1_from), .cell ⟨b2, 3, none⟩ (vI x1_to), .cell ⟨b2, 4, none⟩ (vI x1_mass)] hf3 (by kernel_rfl) (.cell (hS2.box (i := 1) rfl (j := 0) rfl) (.cell (hS2.box (i := 1) rfl (j := 1) rfl) (.cell (hS2.box (i := 1) rfl (j := 2) rfl) (.cell (hS2.box (i := 1) rfl (j := 3) rfl) (.cell (hS2.box (i := 1) rfl (j := 4) rfl) (.cell (hS2.box (i := 1) rfl (j := 5) rfl) (.cell (hS2.box (i := 1) rfl (j := 6) rfl) (.cell (hS2.box (i := 1) rfl (j := 7) rfl) (.cell (hS2.box (i := 1) rfl (j := 8) rfl) (.cell (hS2.box (i := 1) rfl (j := 9) rfl) (.cell (hS2.box (i := 0) rfl (j := 0) rfl) (.cell (hS2.box (i := 0) rfl (j := 1) rfl) (.cell (hS2.box (i := 0) rfl (j := 2) rfl) (.cell (hS2.box (i := 0) rfl (j := 3) rfl) (.cell (hS2.box (i := 0) rfl (j := 4) rfl) .nil))))))))))))))) fun a4 hf4 => ?_
 obtain ⟨r4, hd1, hr1⟩ := bind_some hr
 refine p_call (i := 2) (d := some 8) (f := 124) (args := #[.agg #[.slice o_x0_lots x0_lots.length c_x0_lots, v0_x0_holds, v1_x0_holds, v2_x0_holds, v3_x0_holds, v4_x0_holds, v5_x0_holds, v6_x0_holds, v7_x0_holds, v8_x0_holds], .agg #[vI x1_kind, vI x1_lot, vI x1_from, vI x1_to, vI x1_mass]]) hf4 (by kernel_rfl) (f124_ok fuel x0_lots x0_holds x1_kind x1_lot x1_from x1_to x1_mass r4 hd1 h _ _ hS2 o_x0_lots c_x0_lots hx_x0_lots v0_x0_holds v1_x0_holds v2_x0_holds v3_x0_holds v4_x0_holds v5_x0_holds v6_x0_holds v7_x0_holds v8_x0_holds (Ty.mono _ (Zone.le_refl _) hx_x0_holds)) ?_
 rintro v1 ww3 a5 ⟨z1, k1, rfl, hS3⟩ hf5
 refine ⟨fun _ => trivial, ?_⟩
 refine p_qt [] [(2, pB b1 0), (3, pB b2 0), (9, .bool (!r4))] [] hf5 (by kernel_rfl) .nil fun a6 hf6 => ?_
 refine w_if hf6 (b := (!r4)) (by kernel_rfl) (fun hb1 => ?_) (fun hb1 => ?_)
 ·have hr2 := cond_t hb1 hr1
  refine w_sq [] [(4, vI 61)] [] hf6 (by kernel_rfl) .nil fun a7 hf7 => ?_
  refine w_ret (by kernel_rfl) ?_
  refine r_then ?_
  refine p_ret (os := []) (v := vI 61) (obs := []) hf7 (by kernel_rfl) .nil ?_
  obtain rfl := some_eq hr2
  exact ⟨_, rfl, z1, k1, rfl, (St.drop 2 hS3)⟩
 ·have hr3 := cond_f hb1 hr1
  refine w_skip (by kernel_rfl) ?_
  refine n_then ?_
  refine w_mid (by kernel_rfl) (fun a w => ∃ z2 : Zone, ∃ y5 : Bool, ∃ y6 : Bool, ∃ y2 : Bool, ∃ y7 : Bool, ∃ y8 : Option Nat, ∃ b3 : Nat, Zone.le z1 z2 ∧ Fr a 69 [(2, pB b1 0), (3, pB b2 0), (5, pB b3 0)] ∧ St z2 (box b3 [.bool y5, .bool y6, .bool y2, .bool y7, fnV y8] 163 :: box b2 [vI x1_kind, vI x1_lot, vI x1_from, vI x1_to, vI x1_mass] 28 :: box b1 [.slice o_x0_lots x0_lots.length c_x0_lots, v0_x0_holds, v1_x0_holds, v2_x0_holds, v3_x0_holds, v4_x0_holds, v5_x0_holds, v6_x0_holds, v7_x0_holds, v8_x0_holds] 26 :: L) w ∧ (F78_j1 fuel x0_holds x1_kind x1_from x1_to x1_mass y5 y6 y2 y7 y8) = some r) ?_ ?_
  ·skip
   have hS4 := hS3.drew
   have s1 : Sub z1 (box b2 [vI x1_kind, vI x1_lot, vI x1_from, vI x1_to, vI x1_mass] 28 :: box b1 [.slice o_x0_lots x0_lots.length c_x0_lots, v0_x0_holds, v1_x0_holds, v2_x0_holds, v3_x0_holds, v4_x0_holds, v5_x0_holds, v6_x0_holds, v7_x0_holds, v8_x0_holds] 26 :: L) _ := Sub.of (Zone.le_refl _) hS4
   refine w_regB (by kernel_rfl) [3, 5] (Sub z1 (box b2 [vI x1_kind, vI x1_lot, vI x1_from, vI x1_to, vI x1_mass] 28 :: box b1 [.slice o_x0_lots x0_lots.length c_x0_lots, v0_x0_holds, v1_x0_holds, v2_x0_holds, v3_x0_holds, v4_x0_holds, v5_x0_holds, v6_x0_holds, v7_x0_holds, v8_x0_holds] 26 :: L)) (by kernel_rfl) ?_
   refine k_seg' 4 [(1, true), (2, true)] (by kernel_rfl) (by kernel_rfl) (At.start s1) (by kernel_rfl) ?_
   refine p_qS 2 [vI x1_kind] [(2, pB b1 0), (3, pB b2 0), (12, vI x1_kind)] [.cell ⟨b2, 0, none⟩ (vI x1_kind)] [] s1 hf6 (by kernel_rfl) (fun _ s => (.cell (s.box (i := 0) rfl (j := 0) rfl) .nil)) .nil fun a8 hf8 => ?_
   refine p_done (by kernel_rfl) ?_
   intro hA1
   refine k_any' 3 [0, 4] (by kernel_rfl) hA1 (by kernel_rfl) (by kernel_rfl) ?_
   refine (all_cons ?_ (all_cons ?_ all_nil))
   ·skip
    obtain ⟨r5, hd2, hr4⟩ := bind_some hr3
    refine p_call (i := 0) (d := some 10) (f := 125) (args := #[]) hf8 (by kernel_rfl) (f125_ok fuel  r5 hd2 z1 _ _ hS4 ) ?_
    rintro v2 ww4 a9 ⟨z3, e1, k2, rfl, hS5, hx1⟩ hf9
    refine ⟨fun _ => Sub.of k2 hS5, ?_⟩
    refine p_done (by kernel_rfl) ?_
    intro hA2
    have s2 : Sub z1 (box b2 [vI x1_kind, vI x1_lot, vI x1_from, vI x1_to, vI x1_mass] 28 :: box b1 [.slice o_x0_lots x0_lots.length c_x0_lots, v0_x0_holds, v1_x0_holds, v2_x0_holds, v3_x0_holds, v4_x0_holds, v5_x0_holds, v6_x0_holds, v7_x0_holds, v8_x0_holds] 26 :: L) _ := Sub.of k2 hS5
    refine k_seg' 3 [] (by kernel_rfl) (by kernel_rfl) hA2 (by kernel_rfl) ?_
    refine p_done (by kernel_rfl) ?_
    intro hA3
    refine k_any' 2 [3, 4] (by kernel_rfl) hA3 (by kernel_rfl) (by kernel_rfl) ?_
    refine (all_cons ?_ (all_cons ?_ all_nil))
    ·skip
     refine p_lookup (i := 3) (d := (some 13)) (t := 164) (o := e1) (k := x1_kind) (c := false) (z := zrow) (D := r5) hf9 (by kernel_rfl) mp164 (MapR.look hx1 hS5) fun a10 hf10 => ⟨fun e => absurd e (by decide), ?_⟩
     refine p_done (by kernel_rfl) ?_
     intro hA4
     refine k_seg' 0 [(4, false), (5, false)] (by kernel_rfl) (by kernel_rfl) hA4 (by kernel_rfl) ?_
     refine p_box (i := 4) (d := (some 5)) (cs := [.bool false, .bool false, .bool false, .bool false, fnV none]) (T := 163) (v := fun b4 => pB b4 0) hS5 hf10 (fun b => by kernel_rfl) fun b4 ww5 a11 hS6 hf11 => ⟨fun _ => Sub.of k2 (St.drop 1 hS6), ?_⟩
     have s3 : Sub z1 (box b2 [vI x1_kind, vI x1_lot, vI x1_from, vI x1_to, vI x1_mass] 28 :: box b1 [.slice o_x0_lots x0_lots.length c_x0_lots, v0_x0_holds, v1_x0_holds, v2_x0_holds, v3_x0_holds, v4_x0_holds, v5_x0_holds, v6_x0_holds, v7_x0_holds, v8_x0_holds] 26 :: L) _ := Sub.of k2 (St.drop 1 hS6)
     refine p_store_eq (i := 5) (j := 0) (b := b4) (off := 0) (vs := [.bool ((lkK r5 x1_kind zrow).lot), .bool ((lkK r5 x1_kind zrow).frm), .bool ((lkK r5 x1_kind zrow).to), .bool ((lkK r5 x1_kind zrow).mass), fnV ((lkK r5 x1_kind zrow).fn)]) (cs' := [.bool ((lkK r5 x1_kind zrow).lot), .bool ((lkK r5 x1_kind zrow).frm), .bool ((lkK r5 x1_kind zrow).to), .bool ((lkK r5 x1_kind zrow).mass), fnV ((lkK r5 x1_kind zrow).fn)]) hS6 hf11 rfl (by kernel_rfl) (by generalize (lkK r5 x1_kind zrow).fn = q; cases q <;> kernel_rfl) rfl fun ww6 a12 hS7 hf12 => ⟨fun e => absurd e (by decide), ?_⟩
     refine p_done (by kernel_rfl) ?_
     intro hA5
     refine k_done' (by kernel_rfl) (by kernel_rfl) ?_
     refine n_then ?_
     have hf13 := Fr.keep (ks := [2, 3, 5]) (r := [(2, pB b1 0), (3, pB b2 0), (5, pB b4 0)]) hf12 (by kernel_rfl)
     exact ⟨z3, (lkK r5 x1_kind zrow).lot, (lkK r5 x1_kind zrow).frm, (lkK r5 x1_kind zrow).to, (lkK r5 x1_kind zrow).mass, (lkK r5 x1_kind zrow).fn, b4, k2, hf13, (St.pick 1 [0] hS7 (by kernel_rfl)), hr4⟩
    ·skip
     refine p_box (i := 4) (d := (some 5)) (cs := [.bool false, .bool false, .bool false, .bool false, fnV none]) (T := 163) (v := fun b5 => pB b5 0) hS5 hf9 (fun b => by kernel_rfl) fun b5 ww7 a13 hS8 hf14 => ⟨fun _ => Sub.of k2 (St.drop 1 hS8), ?_⟩
     refine p_done (by kernel_rfl) ?_
     intro hA6
     have s4 : Sub z1 (box b2 [vI x1_kind, vI x1_lot, vI x1_from, vI x1_to, vI x1_mass] 28 :: box b1 [.slice o_x0_lots x0_lots.length c_x0_lots, v0_x0_holds, v1_x0_holds, v2_x0_holds, v3_x0_holds, v4_x0_holds, v5_x0_holds, v6_x0_holds, v7_x0_holds, v8_x0_holds] 26 :: L) _ := Sub.of k2 (St.drop 1 hS8)
     refine k_seg' 0 [(3, false), (5, false)] (by kernel_rfl) (by kernel_rfl) hA6 (by kernel_rfl) ?_
     refine p_lookup (i := 3) (d := (some 13)) (t := 164) (o := e1) (k := x1_kind) (c := false) (z := zrow) (D := r5) hf14 (by kernel_rfl) mp164 (MapR.look hx1 hS8) fun a14 hf15 => ⟨fun e => absurd e (by decide), ?_⟩
     refine p_store_eq (i := 5) (j := 0) (b := b5) (off := 0) (vs := [.bool ((lkK r5 x1_kind zrow).lot), .bool ((lkK r5 x1_kind zrow).frm), .bool ((lkK r5 x1_kind zrow).to), .bool ((lkK r5 x1_kind zrow).mass), fnV ((lkK r5 x1_kind zrow).fn)]) (cs' := [.bool ((lkK r5 x1_kind zrow).lot), .bool ((lkK r5 x1_kind zrow).frm), .bool ((lkK r5 x1_kind zrow).to), .bool ((lkK r5 x1_kind zrow).mass), fnV ((lkK r5 x1_kind zrow).fn)]) hS8 hf15 rfl (by kernel_rfl) (by generalize (lkK r5 x1_kind zrow).fn = q; cases q <;> kernel_rfl) rfl fun ww8 a15 hS9 hf16 => ⟨fun e => absurd e (by decide), ?_⟩
     refine p_done (by kernel_rfl) ?_
     intro hA7
     refine k_done' (by kernel_rfl) (by kernel_rfl) ?_
     refine n_then ?_
     have hf17 := Fr.keep (ks := [2, 3, 5]) (r := [(2, pB b1 0), (3, pB b2 0), (5, pB b5 0)]) hf16 (by kernel_rfl)
     exact ⟨z3, (lkK r5 x1_kind zrow).lot, (lkK r5 x1_kind zrow).frm, (lkK r5 x1_kind zrow).to, (lkK r5 x1_kind zrow).mass, (lkK r5 x1_kind zrow).fn, b5, k2, hf17, (St.pick 1 [0] hS9 (by kernel_rfl)), hr4⟩
   ·skip
    refine p_box (i := 4) (d := (some 5)) (cs := [.bool false, .bool false, .bool false, .bool false, fnV none]) (T := 163) (v := fun b6 => pB b6 0) hS4 hf8 (fun b => by kernel_rfl) fun b6 ww9 a16 hS10 hf18 => ⟨fun _ => Sub.of (Zone.le_refl _) (St.drop 1 hS10), ?_⟩
    refine p_done (by kernel_rfl) ?_
    intro hA8
    have s5 : Sub z1 (box b2 [vI x1_kind, vI x1_lot, vI x1_from, vI x1_to, vI x1_mass] 28 :: box b1 [.slice o_x0_lots x0_lots.length c_x0_lots, v0_x0_holds, v1_x0_holds, v2_x0_holds, v3_x0_holds, v4_x0_holds, v5_x0_holds, v6_x0_holds, v7_x0_holds, v8_x0_holds] 26 :: L) _ := Sub.of (Zone.le_refl _) (St.drop 1 hS10)
    refine k_seg' 0 [(0, false), (3, false), (5, false)] (by kernel_rfl) (by kernel_rfl) hA8 (by kernel_rfl) ?_
    obtain ⟨r6, hd3, hr5⟩ := bind_some hr3
    refine p_call (i := 0) (d := some 10) (f := 125) (args := #[]) hf18 (by kernel_rfl) (f125_ok fuel  r6 hd3 z1 _ _ hS10 ) ?_
    rintro v3 ww10 a17 ⟨z4, e2, k3, rfl, hS11, hx2⟩ hf19
    refine ⟨fun _ => Sub.of k3 (St.drop 1 hS11), ?_⟩
    have s6 : Sub z1 (box b2 [vI x1_kind, vI x1_lot, vI x1_from, vI x1_to, vI x1_mass] 28 :: box b1 [.slice o_x0_lots x0_lots.length c_x0_lots, v0_x0_holds, v1_x0_holds, v2_x0_holds, v3_x0_holds, v4_x0_holds, v5_x0_holds, v6_x0_holds, v7_x0_holds, v8_x0_holds] 26 :: L) _ := Sub.of k3 (St.drop 1 hS11)
    refine p_lookup (i := 3) (d := (some 13)) (t := 164) (o := e2) (k := x1_kind) (c := false) (z := zrow) (D := r6) hf19 (by kernel_rfl) mp164 (MapR.look hx2 hS11) fun a18 hf20 => ⟨fun e => absurd e (by decide), ?_⟩
    refine p_store_eq (i := 5) (j := 0) (b := b6) (off := 0) (vs := [.bool ((lkK r6 x1_kind zrow).lot), .bool ((lkK r6 x1_kind zrow).frm), .bool ((lkK r6 x1_kind zrow).to), .bool ((lkK r6 x1_kind zrow).mass), fnV ((lkK r6 x1_kind zrow).fn)]) (cs' := [.bool ((lkK r6 x1_kind zrow).lot), .bool ((lkK r6 x1_kind zrow).frm), .bool ((lkK r6 x1_kind zrow).to), .bool ((lkK r6 x1_kind zrow).mass), fnV ((lkK r6 x1_kind zrow).fn)]) hS11 hf20 rfl (by kernel_rfl) (by generalize (lkK r6 x1_kind zrow).fn = q; cases q <;> kernel_rfl) rfl fun ww11 a19 hS12 hf21 => ⟨fun e => absurd e (by decide), ?_⟩
    refine p_done (by kernel_rfl) ?_
    intro hA9
    refine k_done' (by kernel_rfl) (by kernel_rfl) ?_
    refine n_then ?_
    have hf22 := Fr.keep (ks := [2, 3, 5]) (r := [(2, pB b1 0), (3, pB b2 0), (5, pB b6 0)]) hf21 (by kernel_rfl)
    exact ⟨z4, (lkK r6 x1_kind zrow).lot, (lkK r6 x1_kind zrow).frm, (lkK r6 x1_kind zrow).to, (lkK r6 x1_kind zrow).mass, (lkK r6 x1_kind zrow).fn, b6, k3, hf22, (St.pick 1 [0] hS12 (by kernel_rfl)), hr5⟩
  ·rintro a20 ww12 ⟨z2, y5, y6, y2, y7, y8, b3, k4, hf23, hS13, hr6⟩
   refine w_seq (by kernel_rfl) ?_
   refine w_mid (by kernel_rfl) (fun a w => ∃ z5 : Zone, ∃ y4 : Bool, Zone.le z2 z5 ∧ Fr a 69 [(2, pB b1 0), (3, pB b2 0), (5, pB b3 0), (27, .bool y4)] ∧ St z5 (box b3 [.bool y5, .bool y6, .bool y2, .bool y7, fnV y8] 163 :: box b2 [vI x1_kind, vI x1_lot, vI x1_from, vI x1_to, vI x1_mass] 28 :: box b1 [.slice o_x0_lots x0_lots.length c_x0_lots, v0_x0_holds, v1_x0_holds, v2_x0_holds, v3_x0_holds, v4_x0_holds, v5_x0_holds, v6_x0_holds, v7_x0_holds, v8_x0_holds] 26 :: L) w ∧ (F78_j2 fuel x0_holds x1_kind x1_from x1_to x1_mass y2 y4) = some r) ?_ ?_
   ·skip
    have hS14 := hS13.drew
    have s7 : Sub z2 (box b3 [.bool y5, .bool y6, .bool y2, .bool y7, fnV y8] 163 :: box b2 [vI x1_kind, vI x1_lot, vI x1_from, vI x1_to, vI x1_mass] 28 :: box b1 [.slice o_x0_lots x0_lots.length c_x0_lots, v0_x0_holds, v1_x0_holds, v2_x0_holds, v3_x0_holds, v4_x0_holds, v5_x0_holds, v6_x0_holds, v7_x0_holds, v8_x0_holds] 26 :: L) _ := Sub.of (Zone.le_refl _) hS14
    refine w_regD (by kernel_rfl) [(0, true), (1, true), (2, true), (3, true), (4, true), (5, true), (6, true), (7, true), (8, true), (9, true), (10, true), (11, false), (12, true), (13, true)] [] (Sub z2 (box b3 [.bool y5, .bool y6, .bool y2, .bool y7, fnV y8] 163 :: box b2 [vI x1_kind, vI x1_lot, vI x1_from, vI x1_to, vI x1_mass] 28 :: box b1 [.slice o_x0_lots x0_lots.length c_x0_lots, v0_x0_holds, v1_x0_holds, v2_x0_holds, v3_x0_holds, v4_x0_holds, v5_x0_holds, v6_x0_holds, v7_x0_holds, v8_x0_holds] 26 :: L)) (by kernel_rfl) s7 ?_
    refine p_qS 4 [.bool y6] [(2, pB b1 0), (3, pB b2 0), (5, pB b3 0), (17, .bool y6)] [.cell ⟨b3, 1, none⟩ (.bool y6)] [] s7 hf23 (by kernel_rfl) (fun _ s => (.cell (s.box (i := 0) rfl (j := 1) rfl) .nil)) .nil fun a21 hf24 => ?_
    rcases Bool.eq_false_or_eq_true y6 with hb2 | hb2
    ·have hr7 := cond_t hb2 hr6
     have hf25 := Fr.conv hf24 (congrArg (fun z => ([(2, pB b1 0), (3, pB b2 0), (5, pB b3 0), (17, .bool z)] : FL)) hb2)
     obtain ⟨p5, hp574, hr8⟩ := bind_some hr7
     obtain ⟨hb3, _, hv1, e3, q1, hehv578, hx3⟩ := arrGet (Ty.mono _ (Zone.le_trans k1 k4) hx_x0_holds) rfl hp574
     obtain rfl := List.head_eq_of_cons_eq hehv578
     refine p_qS 7 [vI x1_mass, vI x1_from, .slice e3 p5.length q1] [(2, pB b1 0), (3, pB b2 0), (5, pB b3 0), (17, .bool true), (19, vI x1_mass), (24, .slice e3 p5.length q1)] [.cell ⟨b2, 4, none⟩ (vI x1_mass), .cell ⟨b2, 2, none⟩ (vI x1_from), .prop (0 ≤ x1_from ∧ x1_from < (9 : Nat)), .cell ((⟨b1, 1, none⟩ : Addr).add (Int.toNat x1_from * 1)) (.slice e3 p5.length q1)] [] s7 hf25 (by kernel_rfl) (fun _ s => (.cell (s.box (i := 1) rfl (j := 4) rfl) (.cell (s.box (i := 1) rfl (j := 2) rfl) (.prop hb3 (.cell ((arrAddr b1 1 x1_from.toNat) ▸ (s.box (i := 2) rfl (getElem?_app_right [.slice o_x0_lots x0_lots.length c_x0_lots] _ _ hv1 []))) .nil))))) .nil fun a22 hf26 => ?_
     obtain ⟨r3, hd4, hr9⟩ := bind_some hr8
     refine p_call (i := 11) (d := some 25) (f := 75) (args := #[.slice e3 p5.length q1]) hf26 (by kernel_rfl) (f75_ok fuel p5 r3 hd4 z2 _ _ hS14 e3 q1 hx3) ?_
     rintro v4 ww13 a23 ⟨z6, k5, rfl, hS15⟩ hf27
     refine ⟨fun _ => Sub.of k5 hS15, ?_⟩
     have s8 : Sub z2 (box b3 [.bool y5, .bool y6, .bool y2, .bool y7, fnV y8] 163 :: box b2 [vI x1_kind, vI x1_lot, vI x1_from, vI x1_to, vI x1_mass] 28 :: box b1 [.slice o_x0_lots x0_lots.length c_x0_lots, v0_x0_holds, v1_x0_holds, v2_x0_holds, v3_x0_holds, v4_x0_holds, v5_x0_holds, v6_x0_holds, v7_x0_holds, v8_x0_holds] 26 :: L) _ := Sub.of k5 hS15
     refine p_qS 2 [] [(2, pB b1 0), (3, pB b2 0), (5, pB b3 0), (27, .bool (decide (x1_mass > r3)))] [] [] s8 hf27 (by kernel_rfl) (fun _ s => .nil) .nil fun a24 hf28 => ?_
     refine p_dt (by kernel_rfl) ?_
     have hf29 := Fr.keep (ks := [2, 3, 5, 27]) (r := [(2, pB b1 0), (3, pB b2 0), (5, pB b3 0), (27, .bool (decide (x1_mass > r3)))]) hf28 (by kernel_rfl)
     exact ⟨z6, (decide (x1_mass > r3)), k5, hf29, hS15, hr9⟩
    ·have hr10 := cond_f hb2 hr6
     have hf30 := Fr.conv hf24 (congrArg (fun z => ([(2, pB b1 0), (3, pB b2 0), (5, pB b3 0), (17, .bool z)] : FL)) hb2)
     refine p_qS 10 [] [(2, pB b1 0), (3, pB b2 0), (5, pB b3 0), (27, .bool false)] [] [] s7 hf30 (by kernel_rfl) (fun _ s => .nil) .nil fun a25 hf31 => ?_
     refine p_dt (by kernel_rfl) ?_
     have hf32 := Fr.keep (ks := [2, 3, 5, 27]) (r := [(2, pB b1 0), (3, pB b2 0), (5, pB b3 0), (27, .bool false)]) hf31 (by kernel_rfl)
     exact ⟨z2, false, (Zone.le_refl _), hf32, hS14, hr10⟩
   ·rintro a26 ww14 ⟨z5, y4, k6, hf33, hS16, hr11⟩
    refine w_if hf33 (b := y4) (by kernel_rfl) (fun hb4 => ?_) (fun hb4 => ?_)
    ·have hr12 := cond_t hb4 hr11
     refine w_sq [] [(4, vI 63)] [] hf33 (by kernel_rfl) .nil fun a27 hf34 => ?_
     refine w_ret (by kernel_rfl) ?_
     refine r_then ?_
     refine p_ret (os := []) (v := vI 63) (obs := []) hf34 (by kernel_rfl) .nil ?_
     obtain rfl := some_eq hr12
     exact ⟨_, rfl, z5, (Zone.le_trans (Zone.le_trans k1 k4) k6), rfl, (St.drop 3 hS16)⟩
    ·have hr13 := cond_f hb4 hr11
     refine w_skip (by kernel_rfl) ?_
     refine n_then ?_
     refine w_seq (by kernel_rfl) ?_
     refine w_mid (by kernel_rfl) (fun a w => ∃ z7 : Zone, ∃ y3 : Bool, Zone.le z5 z7 ∧ Fr a 69 [(2, pB b1 0), (3, pB b2 0), (5, pB b3 0), (39, .bool y3)] ∧ St z7 (box b3 [.bool y5, .bool y6, .bool y2, .bool y7, fnV y8] 163 :: box b2 [vI x1_kind, vI x1_lot, vI x1_from, vI x1_to, vI x1_mass] 28 :: box b1 [.slice o_x0_lots x0_lots.length c_x0_lots, v0_x0_holds, v1_x0_holds, v2_x0_holds, v3_x0_holds, v4_x0_holds, v5_x0_holds, v6_x0_holds, v7_x0_holds, v8_x0_holds] 26 :: L) w ∧ (F78_j3 fuel x0_holds x1_kind x1_to x1_mass y2 y3) = some r) ?_ ?_
     ·skip
      refine w_reg (by kernel_rfl) ?_
      refine p_qn 4 [vI x1_kind] [(2, pB b1 0), (3, pB b2 0), (5, pB b3 0), (31, .bool (x1_kind == (6 : Int)))] [.cell ⟨b2, 0, none⟩ (vI x1_kind)] hf33 (by kernel_rfl) (.cell (hS16.box (i := 1) rfl (j := 0) rfl) .nil) fun a28 hf35 => ?_
      rcases Bool.eq_false_or_eq_true (x1_kind == (6 : Int)) with hb5 | hb5
      ·have hr14 := cond_t hb5 hr13
       have hf36 := Fr.conv hf35 (congrArg (fun z => ([(2, pB b1 0), (3, pB b2 0), (5, pB b3 0), (31, .bool z)] : FL)) hb5)
       obtain ⟨p4, hp720, hr15⟩ := bind_some hr14
       obtain ⟨hb6, _, hv2, e4, q2, hehv724, hx4⟩ := arrGet (Ty.mono _ (Zone.le_trans (Zone.le_trans k1 k4) k6) hx_x0_holds) rfl hp720
       obtain rfl := List.head_eq_of_cons_eq hehv724
       refine p_qt [vI x1_from, .slice e4 p4.length q2] [(2, pB b1 0), (3, pB b2 0), (5, pB b3 0), (39, .bool (decide ((p4.length : Int) < (2 : Int))))] [.cell ⟨b2, 2, none⟩ (vI x1_from), .prop (0 ≤ x1_from ∧ x1_from < (9 : Nat)), .cell ((⟨b1, 1, none⟩ : Addr).add (Int.toNat x1_from * 1)) (.slice e4 p4.length q2)] hf36 (by kernel_rfl) (.cell (hS16.box (i := 1) rfl (j := 2) rfl) (.prop hb6 (.cell ((arrAddr b1 1 x1_from.toNat) ▸ (hS16.box (i := 2) rfl (getElem?_app_right [.slice o_x0_lots x0_lots.length c_x0_lots] _ _ hv2 []))) .nil))) fun a29 hf37 => ?_
       have hf38 := Fr.keep (ks := [2, 3, 5, 39]) (r := [(2, pB b1 0), (3, pB b2 0), (5, pB b3 0), (39, .bool (decide ((p4.length : Int) < (2 : Int))))]) hf37 (by kernel_rfl)
       exact ⟨z5, (decide ((p4.length : Int) < (2 : Int))), (Zone.le_refl _), hf38, hS16, hr15⟩
      ·have hr16 := cond_f hb5 hr13
       have hf39 := Fr.conv hf35 (congrArg (fun z => ([(2, pB b1 0), (3, pB b2 0), (5, pB b3 0), (31, .bool z)] : FL)) hb5)
       refine p_qt [] [(2, pB b1 0), (3, pB b2 0), (5, pB b3 0), (39, .bool false)] [] hf39 (by kernel_rfl) .nil fun a30 hf40 => ?_
       have hf41 := Fr.keep (ks := [2, 3, 5, 39]) (r := [(2, pB b1 0), (3, pB b2 0), (5, pB b3 0), (39, .bool false)]) hf40 (by kernel_rfl)
       exact ⟨z5, false, (Zone.le_refl _), hf41, hS16, hr16⟩
     ·rintro a31 ww15 ⟨z7, y3, k7, hf42, hS17, hr17⟩
      refine w_if hf42 (b := y3) (by kernel_rfl) (fun hb7 => ?_) (fun hb7 => ?_)
      ·have hr18 := cond_t hb7 hr17
       refine w_sq [] [(4, vI 3)] [] hf42 (by kernel_rfl) .nil fun a32 hf43 => ?_
       refine w_ret (by kernel_rfl) ?_
       refine r_then ?_
       refine p_ret (os := []) (v := vI 3) (obs := []) hf43 (by kernel_rfl) .nil ?_
       obtain rfl := some_eq hr18
       exact ⟨_, rfl, z7, (Zone.le_trans (Zone.le_trans (Zone.le_trans k1 k4) k6) k7), rfl, (St.drop 3 hS17)⟩
      ·have hr19 := cond_f hb7 hr17
       refine w_skip (by kernel_rfl) ?_
       refine n_then ?_
       refine w_seq (by kernel_rfl) ?_
       refine w_mid (by kernel_rfl) (fun a w => ∃ z8 : Zone, ∃ y1 : Bool, Zone.le z7 z8 ∧ Fr a 69 [(68, .bool y1)] ∧ St z8 (box b3 [.bool y5, .bool y6, .bool y2, .bool y7, fnV y8] 163 :: box b2 [vI x1_kind, vI x1_lot, vI x1_from, vI x1_to, vI x1_mass] 28 :: box b1 [.slice o_x0_lots x0_lots.length c_x0_lots, v0_x0_holds, v1_x0_holds, v2_x0_holds, v3_x0_holds, v4_x0_holds, v5_x0_holds, v6_x0_holds, v7_x0_holds, v8_x0_holds] 26 :: L) w ∧ (F78_j4 y1) = some r) ?_ ?_
       ·skip
        have hS18 := hS17.drew
        have s9 : Sub z7 (box b3 [.bool y5, .bool y6, .bool y2, .bool y7, fnV y8] 163 :: box b2 [vI x1_kind, vI x1_lot, vI x1_from, vI x1_to, vI x1_mass] 28 :: box b1 [.slice o_x0_lots x0_lots.length c_x0_lots, v0_x0_holds, v1_x0_holds, v2_x0_holds, v3_x0_holds, v4_x0_holds, v5_x0_holds, v6_x0_holds, v7_x0_holds, v8_x0_holds] 26 :: L) _ := Sub.of (Zone.le_refl _) hS18
        refine w_regD (by kernel_rfl) [(0, true), (1, true), (2, true), (3, true), (4, true), (5, true), (6, true), (7, true), (8, true), (9, true), (10, true), (11, true), (12, true), (13, true), (14, true), (15, true), (16, true), (17, true), (18, true), (19, true), (20, true), (21, true), (23, true), (24, true), (22, false), (25, true), (26, true), (27, true), (28, true)] [] (Sub z7 (box b3 [.bool y5, .bool y6, .bool y2, .bool y7, fnV y8] 163 :: box b2 [vI x1_kind, vI x1_lot, vI x1_from, vI x1_to, vI x1_mass] 28 :: box b1 [.slice o_x0_lots x0_lots.length c_x0_lots, v0_x0_holds, v1_x0_holds, v2_x0_holds, v3_x0_holds, v4_x0_holds, v5_x0_holds, v6_x0_holds, v7_x0_holds, v8_x0_holds] 26 :: L)) (by kernel_rfl) s9 ?_
        refine p_qS 4 [.bool y2] [(2, pB b1 0), (3, pB b2 0), (43, .bool y2)] [.cell ⟨b3, 2, none⟩ (.bool y2)] [] s9 hf42 (by kernel_rfl) (fun _ s => (.cell (s.box (i := 0) rfl (j := 2) rfl) .nil)) .nil fun a33 hf44 => ?_
        rcases Bool.eq_false_or_eq_true y2 with hb8 | hb8
        ·have hr20 := cond_t hb8 hr19
         have hf45 := Fr.conv hf44 (congrArg (fun z => ([(2, pB b1 0), (3, pB b2 0), (43, .bool z)] : FL)) hb8)
         refine p_qS 4 [vI x1_kind] [(2, pB b1 0), (3, pB b2 0), (43, .bool true), (47, .bool (x1_kind == (2 : Int)))] [.cell ⟨b2, 0, none⟩ (vI x1_kind)] [] s9 hf45 (by kernel_rfl) (fun _ s => (.cell (s.box (i := 1) rfl (j := 0) rfl) .nil)) .nil fun a34 hf46 => ?_
         rcases Bool.eq_false_or_eq_true (x1_kind == (2 : Int)) with hb9 | hb9
         ·have hr21 := cond_t hb9 hr20
          have hf47 := Fr.conv hf46 (congrArg (fun z => ([(2, pB b1 0), (3, pB b2 0), (43, .bool true), (47, .bool z)] : FL)) hb9)
          obtain ⟨p1, hp1159, hr22⟩ := bind_some hr21
          obtain ⟨hb10, _, hv3, e5, q3, hehv1163, hx5⟩ := arrGet (Ty.mono _ (Zone.le_trans (Zone.le_trans (Zone.le_trans k1 k4) k6) k7) hx_x0_holds) rfl hp1159
          obtain rfl := List.head_eq_of_cons_eq hehv1163
          refine p_qS 9 [vI x1_to, .slice e5 p1.length q3] [(2, pB b1 0), (3, pB b2 0), (43, .bool true), (56, .bool ((p1.length : Int) == (4 : Int)))] [.cell ⟨b2, 3, none⟩ (vI x1_to), .prop (0 ≤ x1_to ∧ x1_to < (9 : Nat)), .cell ((⟨b1, 1, none⟩ : Addr).add (Int.toNat x1_to * 1)) (.slice e5 p1.length q3)] [] s9 hf47 (by kernel_rfl) (fun _ s => (.cell (s.box (i := 1) rfl (j := 3) rfl) (.prop hb10 (.cell ((arrAddr b1 1 x1_to.toNat) ▸ (s.box (i := 2) rfl (getElem?_app_right [.slice o_x0_lots x0_lots.length c_x0_lots] _ _ hv3 []))) .nil)))) .nil fun a35 hf48 => ?_
          rcases Bool.eq_false_or_eq_true ((p1.length : Int) == (4 : Int)) with hb11 | hb11
          ·have hr23 := cond_t hb11 hr22
           have hf49 := Fr.conv hf48 (congrArg (fun z => ([(2, pB b1 0), (3, pB b2 0), (43, .bool true), (56, .bool z)] : FL)) hb11)
           refine p_qS 12 [] [(68, .bool true)] [] [] s9 hf49 (by kernel_rfl) (fun _ s => .nil) .nil fun a36 hf50 => ?_
           refine p_dt (by kernel_rfl) ?_
           have hf51 := Fr.keep (ks := [68]) (r := [(68, .bool true)]) hf50 (by kernel_rfl)
           exact ⟨z7, true, (Zone.le_refl _), hf51, hS18, hr23⟩
          ·have hr24 := cond_f hb11 hr22
           have hf52 := Fr.conv hf48 (congrArg (fun z => ([(2, pB b1 0), (3, pB b2 0), (43, .bool true), (56, .bool z)] : FL)) hb11)
           obtain ⟨p2, hp1179, hr25⟩ := bind_some hr24
           obtain ⟨hb12, _, hv4, e6, q4, hehv1183, hx6⟩ := arrGet (Ty.mono _ (Zone.le_trans (Zone.le_trans (Zone.le_trans k1 k4) k6) k7) hx_x0_holds) rfl hp1179
           obtain rfl := List.head_eq_of_cons_eq hehv1183
           refine p_qS 7 [vI x1_to, .slice e6 p2.length q4, vI x1_mass] [(43, .bool true), (56, .bool false), (61, .slice e6 p2.length q4), (64, vI x1_mass)] [.cell ⟨b2, 3, none⟩ (vI x1_to), .prop (0 ≤ x1_to ∧ x1_to < (9 : Nat)), .cell ((⟨b1, 1, none⟩ : Addr).add (Int.toNat x1_to * 1)) (.slice e6 p2.length q4), .cell ⟨b2, 4, none⟩ (vI x1_mass)] [] s9 hf52 (by kernel_rfl) (fun _ s => (.cell (s.box (i := 1) rfl (j := 3) rfl) (.prop hb12 (.cell ((arrAddr b1 1 x1_to.toNat) ▸ (s.box (i := 2) rfl (getElem?_app_right [.slice o_x0_lots x0_lots.length c_x0_lots] _ _ hv4 []))) (.cell (s.box (i := 1) rfl (j := 4) rfl) .nil))))) .nil fun a37 hf53 => ?_
           obtain ⟨r1, hd5, hr26⟩ := bind_some hr25
           refine p_call (i := 22) (d := some 62) (f := 75) (args := #[.slice e6 p2.length q4]) hf53 (by kernel_rfl) (f75_ok fuel p2 r1 hd5 z7 _ _ hS18 e6 q4 hx6) ?_
           rintro v5 ww16 a38 ⟨z9, k8, rfl, hS19⟩ hf54
           refine ⟨fun _ => Sub.of k8 hS19, ?_⟩
           have s10 : Sub z7 (box b3 [.bool y5, .bool y6, .bool y2, .bool y7, fnV y8] 163 :: box b2 [vI x1_kind, vI x1_lot, vI x1_from, vI x1_to, vI x1_mass] 28 :: box b1 [.slice o_x0_lots x0_lots.length c_x0_lots, v0_x0_holds, v1_x0_holds, v2_x0_holds, v3_x0_holds, v4_x0_holds, v5_x0_holds, v6_x0_holds, v7_x0_holds, v8_x0_holds] 26 :: L) _ := Sub.of k8 hS19
           refine p_qS 4 [] [(68, .bool (decide ((w64 (r1 + x1_mass)) > (100000000 : Int))))] [] [] s10 hf54 (by kernel_rfl) (fun _ s => .nil) .nil fun a39 hf55 => ?_
           refine p_dt (by kernel_rfl) ?_
           have hf56 := Fr.keep (ks := [68]) (r := [(68, .bool (decide ((w64 (r1 + x1_mass)) > (100000000 : Int))))]) hf55 (by kernel_rfl)
           exact ⟨z9, (decide ((w64 (r1 + x1_mass)) > (100000000 : Int))), k8, hf56, hS19, hr26⟩
         ·have hr27 := cond_f hb9 hr20
          have hf57 := Fr.conv hf46 (congrArg (fun z => ([(2, pB b1 0), (3, pB b2 0), (43, .bool true), (47, .bool z)] : FL)) hb9)
          obtain ⟨p3, hp1212, hr28⟩ := bind_some hr27
          obtain ⟨hb13, _, hv5, e7, q5, hehv1216, hx7⟩ := arrGet (Ty.mono _ (Zone.le_trans (Zone.le_trans (Zone.le_trans k1 k4) k6) k7) hx_x0_holds) rfl hp1212
          obtain rfl := List.head_eq_of_cons_eq hehv1216
          refine p_qS 16 [vI x1_to, .slice e7 p3.length q5, vI x1_mass] [(43, .bool true), (56, .bool false), (61, .slice e7 p3.length q5), (64, vI x1_mass)] [.cell ⟨b2, 3, none⟩ (vI x1_to), .prop (0 ≤ x1_to ∧ x1_to < (9 : Nat)), .cell ((⟨b1, 1, none⟩ : Addr).add (Int.toNat x1_to * 1)) (.slice e7 p3.length q5), .cell ⟨b2, 4, none⟩ (vI x1_mass)] [] s9 hf57 (by kernel_rfl) (fun _ s => (.cell (s.box (i := 1) rfl (j := 3) rfl) (.prop hb13 (.cell ((arrAddr b1 1 x1_to.toNat) ▸ (s.box (i := 2) rfl (getElem?_app_right [.slice o_x0_lots x0_lots.length c_x0_lots] _ _ hv5 []))) (.cell (s.box (i := 1) rfl (j := 4) rfl) .nil))))) .nil fun a40 hf58 => ?_
          obtain ⟨r2, hd6, hr29⟩ := bind_some hr28
          refine p_call (i := 22) (d := some 62) (f := 75) (args := #[.slice e7 p3.length q5]) hf58 (by kernel_rfl) (f75_ok fuel p3 r2 hd6 z7 _ _ hS18 e7 q5 hx7) ?_
          rintro v6 ww17 a41 ⟨z10, k9, rfl, hS20⟩ hf59
          refine ⟨fun _ => Sub.of k9 hS20, ?_⟩
          have s11 : Sub z7 (box b3 [.bool y5, .bool y6, .bool y2, .bool y7, fnV y8] 163 :: box b2 [vI x1_kind, vI x1_lot, vI x1_from, vI x1_to, vI x1_mass] 28 :: box b1 [.slice o_x0_lots x0_lots.length c_x0_lots, v0_x0_holds, v1_x0_holds, v2_x0_holds, v3_x0_holds, v4_x0_holds, v5_x0_holds, v6_x0_holds, v7_x0_holds, v8_x0_holds] 26 :: L) _ := Sub.of k9 hS20
          refine p_qS 4 [] [(68, .bool (decide ((w64 (r2 + x1_mass)) > (100000000 : Int))))] [] [] s11 hf59 (by kernel_rfl) (fun _ s => .nil) .nil fun a42 hf60 => ?_
          refine p_dt (by kernel_rfl) ?_
          have hf61 := Fr.keep (ks := [68]) (r := [(68, .bool (decide ((w64 (r2 + x1_mass)) > (100000000 : Int))))]) hf60 (by kernel_rfl)
          exact ⟨z10, (decide ((w64 (r2 + x1_mass)) > (100000000 : Int))), k9, hf61, hS20, hr29⟩
        ·have hr30 := cond_f hb8 hr19
         have hf62 := Fr.conv hf44 (congrArg (fun z => ([(2, pB b1 0), (3, pB b2 0), (43, .bool z)] : FL)) hb8)
         refine p_qS 25 [] [(68, .bool false)] [] [] s9 hf62 (by kernel_rfl) (fun _ s => .nil) .nil fun a43 hf63 => ?_
         refine p_dt (by kernel_rfl) ?_
         have hf64 := Fr.keep (ks := [68]) (r := [(68, .bool false)]) hf63 (by kernel_rfl)
         exact ⟨z7, false, (Zone.le_refl _), hf64, hS18, hr30⟩
       ·rintro a44 ww18 ⟨z8, y1, k10, hf65, hS21, hr31⟩
        refine w_if hf65 (b := y1) (by kernel_rfl) (fun hb14 => ?_) (fun hb14 => ?_)
        ·have hr32 := cond_t hb14 hr31
         refine w_sq [] [(4, vI 2)] [] hf65 (by kernel_rfl) .nil fun a45 hf66 => ?_
         refine w_ret (by kernel_rfl) ?_
         refine r_then ?_
         refine p_ret (os := []) (v := vI 2) (obs := []) hf66 (by kernel_rfl) .nil ?_
         obtain rfl := some_eq hr32
         exact ⟨_, rfl, z8, (Zone.le_trans (Zone.le_trans (Zone.le_trans (Zone.le_trans k1 k4) k6) k7) k10), rfl, (St.drop 3 hS21)⟩
        ·have hr33 := cond_f hb14 hr31
         refine w_skip (by kernel_rfl) ?_
         refine n_then ?_
         refine w_sq [] [(4, vI 0)] [] hf65 (by kernel_rfl) .nil fun a46 hf67 => ?_
         refine w_ret (by kernel_rfl) ?_
         refine p_ret (os := []) (v := vI 0) (obs := []) hf67 (by kernel_rfl) .nil ?_
         obtain rfl := some_eq hr33
         exact ⟨_, rfl, z8, (Zone.le_trans (Zone.le_trans (Zone.le_trans (Zone.le_trans k1 k4) k6) k7) k10), rfl, (St.drop 3 hS21)⟩
def F82 (fuel : Nat) (x0 : Pl) (x1_kind : Int) (x1_lot : Int) (x1_from : Int) (x1_to : Int) (x1_mass : Int) : Option (List Part × List (Int × Bool) × Int × Pl) :=
  ((F78 fuel x0.lots x0.holds x1_kind x1_lot x1_from x1_to x1_mass).bind fun r1 => (cond (r1 != (0 : Int)) (some ([], [], r1, x0)) ((F125 fuel ).bind fun r2 => (cond ((lkK r2 x1_kind zrow).fn == some 138) ((F138 fuel x0 x1_kind x1_lot x1_from x1_to x1_mass).bind fun r3 => (some (r3.1, r3.2.1, 0, r3.2.2))) (cond ((lkK r2 x1_kind zrow).fn == some 139) ((F139 fuel x0 x1_kind x1_lot x1_from x1_to x1_mass).bind fun r4 => (some (r4.1, r4.2.1, 0, r4.2.2))) (cond ((lkK r2 x1_kind zrow).fn == some 140) ((F140 fuel x0 x1_kind x1_lot x1_from x1_to x1_mass).bind fun r5 => (some (r5.1, r5.2.1, 0, r5.2.2))) (cond ((lkK r2 x1_kind zrow).fn == some 141) ((F141 fuel x0 x1_kind x1_lot x1_from x1_to x1_mass).bind fun r6 => (some (r6.1, r6.2.1, 0, r6.2.2))) (cond ((lkK r2 x1_kind zrow).fn == some 142) ((F142 fuel x0 x1_kind x1_lot x1_from x1_to x1_mass).bind fun r7 => (some (r7.1, r7.2.1, 0, r7.2.2))) (cond ((lkK r2 x1_kind zrow).fn == some 143) ((F143 fuel x0 x1_kind x1_lot x1_from x1_to x1_mass).bind fun r8 => (some (r8.1, r8.2.1, 0, r8.2.2))) none)))))))))
set_option maxRecDepth 100000 in
theorem f82_ok (fuel : Nat) (x0 : Pl) (x1_kind : Int) (x1_lot : Int) (x1_from : Int) (x1_to : Int) (x1_mass : Int) (r : List Part × List (Int × Bool) × Int × Pl) (hr : F82 fuel x0 x1_kind x1_lot x1_from x1_to x1_mass = some r) (h : Zone) (L : List Atom) (w : World) (b_x0 : Nat) (hS : St h (plA 126 40 117 b_x0 x0 :: L) w)  :
    Calls Try.prog 82 #[pB b_x0 0, .agg #[vI x1_kind, vI x1_lot, vI x1_from, vI x1_to, vI x1_mass]] w fun e w' => ∃ v, e = .returned v ∧ (∃ h', ∃ o0 : Option Addr, ∃ c0 : Nat, ∃ o1 : Option Nat, Zone.le h h' ∧ v = .tuple #[.agg #[.slice o0 r.1.length c0, .map o1], vI r.2.2.1] ∧ St h' (plA 126 40 117 b_x0 r.2.2.2 :: L) w' ∧ SliceR PartT h' o0 c0 r.1 ∧ MapR Value.bool h' o1 r.2.1) := by
 refine calls_intro (N := 25) Try.func82 (by kernel_rfl) fun a hf => ?_
 refine w_sr (by kernel_rfl) ?_
 refine p_box (i := 0) (d := (some 3)) (cs := [vI x1_kind, vI x1_lot, vI x1_from, vI x1_to, vI x1_mass]) (T := 28) (v := fun b1 => pB b1 0) hS hf (fun b => by kernel_rfl) fun b1 ww1 a1 hS1 hf1 => ⟨fun _ => trivial, ?_⟩
 refine p_box (i := 1) (d := (some 4)) (cs := [.slice none 0 0, .map none]) (T := 119) (v := fun b2 => pB b2 0) hS1 hf1 (fun b => by kernel_rfl) fun b2 ww2 a2 hS2 hf2 => ⟨fun _ => trivial, ?_⟩
 refine p_qt [] [(0, pB b_x0 0), (3, pB b1 0), (4, pB b2 0)] [] hf2 (by kernel_rfl) .nil fun a3 hf3 => ?_
 refine w_seq (by kernel_rfl) ?_
 refine w_seq (by kernel_rfl) ?_
 obtain ⟨e1, q1, v1, v2, v3, v4, v5, v6, v7, v8, v9, v10, v11, v12, v13, v14, v15, v16, v17, v18, hx1, hS3⟩ := hS2.plOpen (i := 2) rfl
 have hS4 := hS3.drew
 refine w_regD (by kernel_rfl) [(0, true), (1, true), (2, true), (3, true), (4, true), (5, false), (6, true)] [5] (fun x => x = ww2.drew) (by kernel_rfl) rfl ?_
 refine p_qE 5 [.slice e1 x0.lots.length q1, v1, v2, v3, v4, v5, v6, v7, v8, v9, vI x1_kind, vI x1_lot, vI x1_from, vI x1_to, vI x1_mass] [(0, pB b_x0 0), (3, pB b1 0), (4, pB b2 0), (10, .agg #[.slice e1 x0.lots.length q1, v1, v2, v3, v4, v5, v6, v7, v8, v9]), (11, .agg #[vI x1_kind, vI x1_lot, vI x1_from, vI x1_to, vI x1_mass])] [.cell ⟨b_x0, 0, none⟩ (.slice e1 x0.lots.length q1), .cell ⟨b_x0, 1, none⟩ (v1), .cell ⟨b_x0, 2, none⟩ (v2), .cell ⟨b_x0, 3, none⟩ (v3), .cell ⟨b_x0, 4, none⟩ (v4), .cell ⟨b_x0, 5, none⟩ (v5), .cell ⟨b_x0, 6, none⟩ (v6), .cell ⟨b_x0, 7, none⟩ (v7), .cell ⟨b_x0, 8, none⟩ (v8), .cell ⟨b_x0, 9, none⟩ (v9), .cell ⟨b1, 0, none⟩ (vI x1_kind), .cell ⟨b1, 1, none⟩ (vI x1_lot), .cell ⟨b1, 2, none⟩ (vI x1_from), .cell ⟨b1, 3, none⟩ (vI x1_to), .cell ⟨b1, 4, none⟩ (vI x1_mass)] [] hf3 (by kernel_rfl) (.cell (hS4.box (i := 4) rfl (j := 0) rfl) (.cell (hS4.box (i := 4) rfl (j := 1) rfl) (.cell (hS4.box (i := 4) rfl (j := 2) rfl) (.cell (hS4.box (i := 4) rfl (j := 3) rfl) (.cell (hS4.box (i := 4) rfl (j := 4) rfl) (.cell (hS4.box (i := 4) rfl (j := 5) rfl) (.cell (hS4.box (i := 4) rfl (j := 6) rfl) (.cell (hS4.box (i := 4) rfl (j := 7) rfl) (.cell (hS4.box (i := 4) rfl (j := 8) rfl) (.cell (hS4.box (i := 4) rfl (j := 9) rfl) (.cell (hS4.box (i := 3) rfl (j := 0) rfl) (.cell (hS4.box (i := 3) rfl (j := 1) rfl) (.cell (hS4.box (i := 3) rfl (j := 2) rfl) (.cell (hS4.box (i := 3) rfl (j := 3) rfl) (.cell (hS4.box (i := 3) rfl (j := 4) rfl) .nil))))))))))))))) .nil fun a4 hf4 => ?_
 obtain ⟨r1, hd1, hr1⟩ := bind_some hr
 refine p_call (i := 5) (d := some 12) (f := 78) (args := #[.agg #[.slice e1 x0.lots.length q1, v1, v2, v3, v4, v5, v6, v7, v8, v9], .agg #[vI x1_kind, vI x1_lot, vI x1_from, vI x1_to, vI x1_mass]]) hf4 (by kernel_rfl) (lend hS4 (j := 0) rfl (n := 9) rfl fun z1 L111 k1 hx2 hS5 => f78_ok fuel x0.lots x0.holds x1_kind x1_lot x1_from x1_to x1_mass r1 hd1 z1 L111 _ hS5 e1 q1 (SliceR.mono k1 hx1) v1 v2 v3 v4 v5 v6 v7 v8 v9 hx2) ?_
 rintro v19 ww3 a5 ⟨z2, k2, rfl, hS6⟩ hf5
 refine ⟨fun e => absurd e (by decide), ?_⟩
 refine p_qP 1 [] [(0, pB b_x0 0), (3, pB b1 0), (4, pB b2 0), (6, vI r1)] [] hf5 (by kernel_rfl) (fun _ => .nil) fun a6 hf6 => ?_
 refine p_done (by kernel_rfl) ?_
 have hS7 := hS6.plClose (i := 4) (j := 0) (k := 1) rfl (SliceR.mono k2 hx1) rfl rfl (by decide) (by decide) (by decide)
 refine n_then ?_
 refine w_sq [] [(0, pB b_x0 0), (3, pB b1 0), (4, pB b2 0), (6, vI r1), (14, .bool (r1 != (0 : Int)))] [] hf6 (by kernel_rfl) .nil fun a7 hf7 => ?_
 refine w_if hf7 (b := (r1 != (0 : Int))) (by kernel_rfl) (fun hb1 => ?_) (fun hb1 => ?_)
 ·have hr2 := cond_t hb1 hr1
  refine w_sr (by kernel_rfl) ?_
  refine p_qn 2 [] [(4, pB b2 0), (15, .agg #[.slice none 0 0, .map none]), (16, vI r1)] [] hf7 (by kernel_rfl) .nil fun a8 hf8 => ?_
  refine p_store_eq (i := 2) (j := 2) (b := b2) (off := 0) (vs := [.slice none 0 0, .map none]) (cs' := [.slice none 0 0, .map none]) hS7 hf8 rfl (by kernel_rfl) (by kernel_rfl) rfl fun ww4 a9 hS8 hf9 => ⟨fun _ => trivial, ?_⟩
  refine p_qt [] [(4, pB b2 0), (5, vI r1)] [] hf9 (by kernel_rfl) .nil fun a10 hf10 => ?_
  refine w_ret (by kernel_rfl) ?_
  refine r_then ?_
  refine p_ret (os := [.slice none 0 0, .map none]) (v := .tuple #[.agg #[.slice none 0 0, .map none], vI r1]) (obs := [.cell ⟨b2, 0, none⟩ (.slice none 0 0), .cell ⟨b2, 1, none⟩ (.map none)]) hf10 (by kernel_rfl) (.cell (hS8.box (i := 2) rfl (j := 0) rfl) (.cell (hS8.box (i := 2) rfl (j := 1) rfl) .nil)) ?_
  obtain rfl := some_eq hr2
  exact ⟨_, rfl, z2, none, 0, none, k2, rfl, (St.pick 5 [4] hS8 (by kernel_rfl)), SliceR.nil' _ _, (MapR.nil' _ _)⟩
 ·have hr3 := cond_f hb1 hr1
  refine w_skip (by kernel_rfl) ?_
  refine n_then ?_
  refine w_seq (by kernel_rfl) ?_
  have hS9 := hS7.drew
  have s1 : Sub z2 (emp :: emp :: box b2 [.slice none 0 0, .map none] 119 :: box b1 [vI x1_kind, vI x1_lot, vI x1_from, vI x1_to, vI x1_mass] 28 :: plA 126 40 117 b_x0 x0 :: L) _ := Sub.of (Zone.le_refl _) hS9
  refine w_regD (by kernel_rfl) [(1, true), (2, true), (5, true), (6, true), (0, false), (3, false), (4, true), (7, false), (8, false), (9, true)] [7, 8] (Sub z2 (emp :: emp :: box b2 [.slice none 0 0, .map none] 119 :: box b1 [vI x1_kind, vI x1_lot, vI x1_from, vI x1_to, vI x1_mass] 28 :: plA 126 40 117 b_x0 x0 :: L)) (by kernel_rfl) s1 ?_
  refine p_qS 4 [vI x1_kind, vI x1_kind, vI x1_lot, vI x1_from, vI x1_to, vI x1_mass] [(4, pB b2 0), (19, vI x1_kind), (22, pB b_x0 0), (23, .agg #[vI x1_kind, vI x1_lot, vI x1_from, vI x1_to, vI x1_mass])] [.cell ⟨b1, 0, none⟩ (vI x1_kind), .cell ⟨b1, 0, none⟩ (vI x1_kind), .cell ⟨b1, 1, none⟩ (vI x1_lot), .cell ⟨b1, 2, none⟩ (vI x1_from), .cell ⟨b1, 3, none⟩ (vI x1_to), .cell ⟨b1, 4, none⟩ (vI x1_mass)] [] s1 hf7 (by kernel_rfl) (fun _ s => (.cell (s.box (i := 3) rfl (j := 0) rfl) (.cell (s.box (i := 3) rfl (j := 0) rfl) (.cell (s.box (i := 3) rfl (j := 1) rfl) (.cell (s.box (i := 3) rfl (j := 2) rfl) (.cell (s.box (i := 3) rfl (j := 3) rfl) (.cell (s.box (i := 3) rfl (j := 4) rfl) .nil))))))) .nil fun a11 hf11 => ?_
  obtain ⟨r2, hd2, hr4⟩ := bind_some hr3
  refine p_call (i := 0) (d := some 17) (f := 125) (args := #[]) hf11 (by kernel_rfl) (f125_ok fuel  r2 hd2 z2 _ _ hS9 ) ?_
  rintro v20 ww5 a12 ⟨z3, e2, k3, rfl, hS10, hx3⟩ hf12
  refine ⟨fun _ => Sub.of k3 hS10, ?_⟩
  have s2 : Sub z2 (emp :: emp :: box b2 [.slice none 0 0, .map none] 119 :: box b1 [vI x1_kind, vI x1_lot, vI x1_from, vI x1_to, vI x1_mass] 28 :: plA 126 40 117 b_x0 x0 :: L) _ := Sub.of k3 hS10
  refine p_lookup (i := 3) (d := (some 20)) (t := 164) (o := e2) (k := x1_kind) (c := false) (z := zrow) (D := r2) hf12 (by kernel_rfl) mp164 (MapR.look hx3 hS10) fun a13 hf13 => ⟨fun _ => Sub.of k3 hS10, ?_⟩
  have s3 : Sub z2 (emp :: emp :: box b2 [.slice none 0 0, .map none] 119 :: box b1 [vI x1_kind, vI x1_lot, vI x1_from, vI x1_to, vI x1_mass] 28 :: plA 126 40 117 b_x0 x0 :: L) _ := Sub.of k3 hS10
  refine p_qS 1 [] [(4, pB b2 0), (21, fnV ((lkK r2 x1_kind zrow).fn)), (22, pB b_x0 0), (23, .agg #[vI x1_kind, vI x1_lot, vI x1_from, vI x1_to, vI x1_mass])] [] [] s3 hf13 (by kernel_rfl) (fun _ s => .nil) .nil fun a14 hf14 => ?_
  rcases Bool.eq_false_or_eq_true ((lkK r2 x1_kind zrow).fn == some 138) with hb2 | hb2
  ·have hr5 := cond_t hb2 hr4
   have hf15 : Fr _ 25 [(4, pB b2 0), (21, .func (.func 138) #[] #[]), (22, pB b_x0 0), (23, .agg #[vI x1_kind, vI x1_lot, vI x1_from, vI x1_to, vI x1_mass])] := Fr.conv hf14 (congrArg (fun z => ([(4, pB b2 0), (21, fnV z), (22, pB b_x0 0), (23, .agg #[vI x1_kind, vI x1_lot, vI x1_from, vI x1_to, vI x1_mass])] : FL)) (eq_of_beq hb2))
   have hS11 := St.swapTo (i := 5) (j := 0) (St.addEmp hS10) rfl rfl (by decide)
   have hS12 : St z3 (plA 126 40 117 b_x0 x0 :: emp :: emp :: box b2 [.slice none 0 0, .map none] 119 :: box b1 [vI x1_kind, vI x1_lot, vI x1_from, vI x1_to, vI x1_mass] 28 :: emp :: L) _ := hS11
   obtain ⟨r3, hd3, hr6⟩ := bind_some hr5
   refine p_call (i := 7) (d := some 24) (f := 138) (args := #[pB b_x0 0, .agg #[vI x1_kind, vI x1_lot, vI x1_from, vI x1_to, vI x1_mass]]) hf15 (by kernel_rfl) (f138_ok fuel x0 x1_kind x1_lot x1_from x1_to x1_mass r3 hd3 z3 _ _ b_x0 hS12 ) ?_
   rintro v21 ww6 a15 ⟨z4, e3, q2, e4, k4, rfl, hS13, hx4, hx5⟩ hf16
   have hS14 := St.swapTo (i := 0) (j := 5) hS13 rfl rfl (by decide)
   have hS15 : St z4 (emp :: emp :: emp :: box b2 [.slice none 0 0, .map none] 119 :: box b1 [vI x1_kind, vI x1_lot, vI x1_from, vI x1_to, vI x1_mass] 28 :: plA 126 40 117 b_x0 r3.2.2 :: L) _ := hS14
   refine ⟨fun e => absurd e (by decide), ?_⟩
   refine p_store_eq (i := 8) (j := 3) (b := b2) (off := 0) (vs := [.slice e3 r3.1.length q2, .map e4]) (cs' := [.slice e3 r3.1.length q2, .map e4]) hS15 hf16 rfl (by kernel_rfl) (by kernel_rfl) rfl fun ww7 a16 hS16 hf17 => ⟨fun e => absurd e (by decide), ?_⟩
   refine p_qP 1 [] [(4, pB b2 0), (5, vI 0)] [] hf17 (by kernel_rfl) (fun _ => .nil) fun a17 hf18 => ?_
   refine p_dt (by kernel_rfl) ?_
   refine w_ret (by kernel_rfl) ?_
   refine p_ret (os := [.slice e3 r3.1.length q2, .map e4]) (v := .tuple #[.agg #[.slice e3 r3.1.length q2, .map e4], vI 0]) (obs := [.cell ⟨b2, 0, none⟩ (.slice e3 r3.1.length q2), .cell ⟨b2, 1, none⟩ (.map e4)]) hf18 (by kernel_rfl) (.cell (hS16.box (i := 3) rfl (j := 0) rfl) (.cell (hS16.box (i := 3) rfl (j := 1) rfl) .nil)) ?_
   obtain rfl := some_eq hr6
   exact ⟨_, rfl, z4, e3, q2, e4, (Zone.le_trans (Zone.le_trans k2 k3) k4), rfl, (St.pick 6 [5] hS16 (by kernel_rfl)), hx4, hx5⟩
  ·have hr7 := cond_f hb2 hr4
   rcases Bool.eq_false_or_eq_true ((lkK r2 x1_kind zrow).fn == some 139) with hb3 | hb3
   ·have hr8 := cond_t hb3 hr7
    have hf19 : Fr _ 25 [(4, pB b2 0), (21, .func (.func 139) #[] #[]), (22, pB b_x0 0), (23, .agg #[vI x1_kind, vI x1_lot, vI x1_from, vI x1_to, vI x1_mass])] := Fr.conv hf14 (congrArg (fun z => ([(4, pB b2 0), (21, fnV z), (22, pB b_x0 0), (23, .agg #[vI x1_kind, vI x1_lot, vI x1_from, vI x1_to, vI x1_mass])] : FL)) (eq_of_beq hb3))
    have hS17 := St.swapTo (i := 5) (j := 0) (St.addEmp hS10) rfl rfl (by decide)
    have hS18 : St z3 (plA 126 40 117 b_x0 x0 :: emp :: emp :: box b2 [.slice none 0 0, .map none] 119 :: box b1 [vI x1_kind, vI x1_lot, vI x1_from, vI x1_to, vI x1_mass] 28 :: emp :: L) _ := hS17
    obtain ⟨r4, hd4, hr9⟩ := bind_some hr8
    refine p_call (i := 7) (d := some 24) (f := 139) (args := #[pB b_x0 0, .agg #[vI x1_kind, vI x1_lot, vI x1_from, vI x1_to, vI x1_mass]]) hf19 (by kernel_rfl) (f139_ok fuel x0 x1_kind x1_lot x1_from x1_to x1_mass r4 hd4 z3 _ _ b_x0 hS18 ) ?_
    rintro v22 ww8 a18 ⟨z5, e5, q3, e6, k5, rfl, hS19, hx6, hx7⟩ hf20
    have hS20 := St.swapTo (i := 0) (j := 5) hS19 rfl rfl (by decide)
    have hS21 : St z5 (emp :: emp :: emp :: box b2 [.slice none 0 0, .map none] 119 :: box b1 [vI x1_kind, vI x1_lot, vI x1_from, vI x1_to, vI x1_mass] 28 :: plA 126 40 117 b_x0 r4.2.2 :: L) _ := hS20
    refine ⟨fun e => absurd e (by decide), ?_⟩
    refine p_store_eq (i := 8) (j := 3) (b := b2) (off := 0) (vs := [.slice e5 r4.1.length q3, .map e6]) (cs' := [.slice e5 r4.1.length q3, .map e6]) hS21 hf20 rfl (by kernel_rfl) (by kernel_rfl) rfl fun ww9 a19 hS22 hf21 => ⟨fun e => absurd e (by decide), ?_⟩
    refine p_qP 1 [] [(4, pB b2 0), (5, vI 0)] [] hf21 (by kernel_rfl) (fun _ => .nil) fun a20 hf22 => ?_
    refine p_dt (by kernel_rfl) ?_
    refine w_ret (by kernel_rfl) ?_
    refine p_ret (os := [.slice e5 r4.1.length q3, .map e6]) (v := .tuple #[.agg #[.slice e5 r4.1.length q3, .map e6], vI 0]) (obs := [.cell ⟨b2, 0, none⟩ (.slice e5 r4.1.length q3), .cell ⟨b2, 1, none⟩ (.map e6)]) hf22 (by kernel_rfl) (.cell (hS22.box (i := 3) rfl (j := 0) rfl) (.cell (hS22.box (i := 3) rfl (j := 1) rfl) .nil)) ?_
    obtain rfl := some_eq hr9
    exact ⟨_, rfl, z5, e5, q3, e6, (Zone.le_trans (Zone.le_trans k2 k3) k5), rfl, (St.pick 6 [5] hS22 (by kernel_rfl)), hx6, hx7⟩
   ·have hr10 := cond_f hb3 hr7
    rcases Bool.eq_false_or_eq_true ((lkK r2 x1_kind zrow).fn == some 140) with hb4 | hb4
    ·have hr11 := cond_t hb4 hr10
     have hf23 : Fr _ 25 [(4, pB b2 0), (21, .func (.func 140) #[] #[]), (22, pB b_x0 0), (23, .agg #[vI x1_kind, vI x1_lot, vI x1_from, vI x1_to, vI x1_mass])] := Fr.conv hf14 (congrArg (fun z => ([(4, pB b2 0), (21, fnV z), (22, pB b_x0 0), (23, .agg #[vI x1_kind, vI x1_lot, vI x1_from, vI x1_to, vI x1_mass])] : FL)) (eq_of_beq hb4))
     have hS23 := St.swapTo (i := 5) (j := 0) (St.addEmp hS10) rfl rfl (by decide)
     have hS24 : St z3 (plA 126 40 117 b_x0 x0 :: emp :: emp :: box b2 [.slice none 0 0, .map none] 119 :: box b1 [vI x1_kind, vI x1_lot, vI x1_from, vI x1_to, vI x1_mass] 28 :: emp :: L) _ := hS23
     obtain ⟨r5, hd5, hr12⟩ := bind_some hr11
     refine p_call (i := 7) (d := some 24) (f := 140) (args := #[pB b_x0 0, .agg #[vI x1_kind, vI x1_lot, vI x1_from, vI x1_to, vI x1_mass]]) hf23 (by kernel_rfl) (f140_ok fuel x0 x1_kind x1_lot x1_from x1_to x1_mass r5 hd5 z3 _ _ b_x0 hS24 ) ?_
     rintro v23 ww10 a21 ⟨z6, e7, q4, e8, k6, rfl, hS25, hx8, hx9⟩ hf24
     have hS26 := St.swapTo (i := 0) (j := 5) hS25 rfl rfl (by decide)
     have hS27 : St z6 (emp :: emp :: emp :: box b2 [.slice none 0 0, .map none] 119 :: box b1 [vI x1_kind, vI x1_lot, vI x1_from, vI x1_to, vI x1_mass] 28 :: plA 126 40 117 b_x0 r5.2.2 :: L) _ := hS26
     refine ⟨fun e => absurd e (by decide), ?_⟩
     refine p_store_eq (i := 8) (j := 3) (b := b2) (off := 0) (vs := [.slice e7 r5.1.length q4, .map e8]) (cs' := [.slice e7 r5.1.length q4, .map e8]) hS27 hf24 rfl (by kernel_rfl) (by kernel_rfl) rfl fun ww11 a22 hS28 hf25 => ⟨fun e => absurd e (by decide), ?_⟩
     refine p_qP 1 [] [(4, pB b2 0), (5, vI 0)] [] hf25 (by kernel_rfl) (fun _ => .nil) fun a23 hf26 => ?_
     refine p_dt (by kernel_rfl) ?_
     refine w_ret (by kernel_rfl) ?_
     refine p_ret (os := [.slice e7 r5.1.length q4, .map e8]) (v := .tuple #[.agg #[.slice e7 r5.1.length q4, .map e8], vI 0]) (obs := [.cell ⟨b2, 0, none⟩ (.slice e7 r5.1.length q4), .cell ⟨b2, 1, none⟩ (.map e8)]) hf26 (by kernel_rfl) (.cell (hS28.box (i := 3) rfl (j := 0) rfl) (.cell (hS28.box (i := 3) rfl (j := 1) rfl) .nil)) ?_
     obtain rfl := some_eq hr12
     exact ⟨_, rfl, z6, e7, q4, e8, (Zone.le_trans (Zone.le_trans k2 k3) k6), rfl, (St.pick 6 [5] hS28 (by kernel_rfl)), hx8, hx9⟩
    ·have hr13 := cond_f hb4 hr10
     rcases Bool.eq_false_or_eq_true ((lkK r2 x1_kind zrow).fn == some 141) with hb5 | hb5
     ·have hr14 := cond_t hb5 hr13
      have hf27 : Fr _ 25 [(4, pB b2 0), (21, .func (.func 141) #[] #[]), (22, pB b_x0 0), (23, .agg #[vI x1_kind, vI x1_lot, vI x1_from, vI x1_to, vI x1_mass])] := Fr.conv hf14 (congrArg (fun z => ([(4, pB b2 0), (21, fnV z), (22, pB b_x0 0), (23, .agg #[vI x1_kind, vI x1_lot, vI x1_from, vI x1_to, vI x1_mass])] : FL)) (eq_of_beq hb5))
      have hS29 := St.swapTo (i := 5) (j := 0) (St.addEmp hS10) rfl rfl (by decide)
      have hS30 : St z3 (plA 126 40 117 b_x0 x0 :: emp :: emp :: box b2 [.slice none 0 0, .map none] 119 :: box b1 [vI x1_kind, vI x1_lot, vI x1_from, vI x1_to, vI x1_mass] 28 :: emp :: L) _ := hS29
      obtain ⟨r6, hd6, hr15⟩ := bind_some hr14
      refine p_call (i := 7) (d := some 24) (f := 141) (args := #[pB b_x0 0, .agg #[vI x1_kind, vI x1_lot, vI x1_from, vI x1_to, vI x1_mass]]) hf27 (by kernel_rfl) (f141_ok fuel x0 x1_kind x1_lot x1_from x1_to x1_mass r6 hd6 z3 _ _ b_x0 hS30 ) ?_
      rintro v24 ww12 a24 ⟨z7, e9, q5, e10, k7, rfl, hS31, hx10, hx11⟩ hf28
      have hS32 := St.swapTo (i := 0) (j := 5) hS31 rfl rfl (by decide)
      have hS33 : St z7 (emp :: emp :: emp :: box b2 [.slice none 0 0, .map none] 119 :: box b1 [vI x1_kind, vI x1_lot, vI x1_from, vI x1_to, vI x1_mass] 28 :: plA 126 40 117 b_x0 r6.2.2 :: L) _ := hS32
      refine ⟨fun e => absurd e (by decide), ?_⟩
      refine p_store_eq (i := 8) (j := 3) (b := b2) (off := 0) (vs := [.slice e9 r6.1.length q5, .map e10]) (cs' := [.slice e9 r6.1.length q5, .map e10]) hS33 hf28 rfl (by kernel_rfl) (by kernel_rfl) rfl fun ww13 a25 hS34 hf29 => ⟨fun e => absurd e (by decide), ?_⟩
      refine p_qP 1 [] [(4, pB b2 0), (5, vI 0)] [] hf29 (by kernel_rfl) (fun _ => .nil) fun a26 hf30 => ?_
      refine p_dt (by kernel_rfl) ?_
      refine w_ret (by kernel_rfl) ?_
      refine p_ret (os := [.slice e9 r6.1.length q5, .map e10]) (v := .tuple #[.agg #[.slice e9 r6.1.length q5, .map e10], vI 0]) (obs := [.cell ⟨b2, 0, none⟩ (.slice e9 r6.1.length q5), .cell ⟨b2, 1, none⟩ (.map e10)]) hf30 (by kernel_rfl) (.cell (hS34.box (i := 3) rfl (j := 0) rfl) (.cell (hS34.box (i := 3) rfl (j := 1) rfl) .nil)) ?_
      obtain rfl := some_eq hr15
      exact ⟨_, rfl, z7, e9, q5, e10, (Zone.le_trans (Zone.le_trans k2 k3) k7), rfl, (St.pick 6 [5] hS34 (by kernel_rfl)), hx10, hx11⟩
     ·have hr16 := cond_f hb5 hr13
      rcases Bool.eq_false_or_eq_true ((lkK r2 x1_kind zrow).fn == some 142) with hb6 | hb6
      ·have hr17 := cond_t hb6 hr16
       have hf31 : Fr _ 25 [(4, pB b2 0), (21, .func (.func 142) #[] #[]), (22, pB b_x0 0), (23, .agg #[vI x1_kind, vI x1_lot, vI x1_from, vI x1_to, vI x1_mass])] := Fr.conv hf14 (congrArg (fun z => ([(4, pB b2 0), (21, fnV z), (22, pB b_x0 0), (23, .agg #[vI x1_kind, vI x1_lot, vI x1_from, vI x1_to, vI x1_mass])] : FL)) (eq_of_beq hb6))
       have hS35 := St.swapTo (i := 5) (j := 0) (St.addEmp hS10) rfl rfl (by decide)
       have hS36 : St z3 (plA 126 40 117 b_x0 x0 :: emp :: emp :: box b2 [.slice none 0 0, .map none] 119 :: box b1 [vI x1_kind, vI x1_lot, vI x1_from, vI x1_to, vI x1_mass] 28 :: emp :: L) _ := hS35
       obtain ⟨r7, hd7, hr18⟩ := bind_some hr17
       refine p_call (i := 7) (d := some 24) (f := 142) (args := #[pB b_x0 0, .agg #[vI x1_kind, vI x1_lot, vI x1_from, vI x1_to, vI x1_mass]]) hf31 (by kernel_rfl) (f142_ok fuel x0 x1_kind x1_lot x1_from x1_to x1_mass r7 hd7 z3 _ _ b_x0 hS36 ) ?_
       rintro v25 ww14 a27 ⟨z8, e11, q6, e12, k8, rfl, hS37, hx12, hx13⟩ hf32
       have hS38 := St.swapTo (i := 0) (j := 5) hS37 rfl rfl (by decide)
       have hS39 : St z8 (emp :: emp :: emp :: box b2 [.slice none 0 0, .map none] 119 :: box b1 [vI x1_kind, vI x1_lot, vI x1_from, vI x1_to, vI x1_mass] 28 :: plA 126 40 117 b_x0 r7.2.2 :: L) _ := hS38
       refine ⟨fun e => absurd e (by decide), ?_⟩
       refine p_store_eq (i := 8) (j := 3) (b := b2) (off := 0) (vs := [.slice e11 r7.1.length q6, .map e12]) (cs' := [.slice e11 r7.1.length q6, .map e12]) hS39 hf32 rfl (by kernel_rfl) (by kernel_rfl) rfl fun ww15 a28 hS40 hf33 => ⟨fun e => absurd e (by decide), ?_⟩
       refine p_qP 1 [] [(4, pB b2 0), (5, vI 0)] [] hf33 (by kernel_rfl) (fun _ => .nil) fun a29 hf34 => ?_
       refine p_dt (by kernel_rfl) ?_
       refine w_ret (by kernel_rfl) ?_
       refine p_ret (os := [.slice e11 r7.1.length q6, .map e12]) (v := .tuple #[.agg #[.slice e11 r7.1.length q6, .map e12], vI 0]) (obs := [.cell ⟨b2, 0, none⟩ (.slice e11 r7.1.length q6), .cell ⟨b2, 1, none⟩ (.map e12)]) hf34 (by kernel_rfl) (.cell (hS40.box (i := 3) rfl (j := 0) rfl) (.cell (hS40.box (i := 3) rfl (j := 1) rfl) .nil)) ?_
       obtain rfl := some_eq hr18
       exact ⟨_, rfl, z8, e11, q6, e12, (Zone.le_trans (Zone.le_trans k2 k3) k8), rfl, (St.pick 6 [5] hS40 (by kernel_rfl)), hx12, hx13⟩
      ·have hr19 := cond_f hb6 hr16
       rcases Bool.eq_false_or_eq_true ((lkK r2 x1_kind zrow).fn == some 143) with hb7 | hb7
       ·have hr20 := cond_t hb7 hr19
        have hf35 : Fr _ 25 [(4, pB b2 0), (21, .func (.func 143) #[] #[]), (22, pB b_x0 0), (23, .agg #[vI x1_kind, vI x1_lot, vI x1_from, vI x1_to, vI x1_mass])] := Fr.conv hf14 (congrArg (fun z => ([(4, pB b2 0), (21, fnV z), (22, pB b_x0 0), (23, .agg #[vI x1_kind, vI x1_lot, vI x1_from, vI x1_to, vI x1_mass])] : FL)) (eq_of_beq hb7))
        have hS41 := St.swapTo (i := 5) (j := 0) (St.addEmp hS10) rfl rfl (by decide)
        have hS42 : St z3 (plA 126 40 117 b_x0 x0 :: emp :: emp :: box b2 [.slice none 0 0, .map none] 119 :: box b1 [vI x1_kind, vI x1_lot, vI x1_from, vI x1_to, vI x1_mass] 28 :: emp :: L) _ := hS41
        obtain ⟨r8, hd8, hr21⟩ := bind_some hr20
        refine p_call (i := 7) (d := some 24) (f := 143) (args := #[pB b_x0 0, .agg #[vI x1_kind, vI x1_lot, vI x1_from, vI x1_to, vI x1_mass]]) hf35 (by kernel_rfl) (f143_ok fuel x0 x1_kind x1_lot x1_from x1_to x1_mass r8 hd8 z3 _ _ b_x0 hS42 ) ?_
        rintro v26 ww16 a30 ⟨z9, e13, q7, e14, k9, rfl, hS43, hx14, hx15⟩ hf36
        have hS44 := St.swapTo (i := 0) (j := 5) hS43 rfl rfl (by decide)
        have hS45 : St z9 (emp :: emp :: emp :: box b2 [.slice none 0 0, .map none] 119 :: box b1 [vI x1_kind, vI x1_lot, vI x1_from, vI x1_to, vI x1_mass] 28 :: plA 126 40 117 b_x0 r8.2.2 :: L) _ := hS44
        refine ⟨fun e => absurd e (by decide), ?_⟩
        refine p_store_eq (i := 8) (j := 3) (b := b2) (off := 0) (vs := [.slice e13 r8.1.length q7, .map e14]) (cs' := [.slice e13 r8.1.length q7, .map e14]) hS45 hf36 rfl (by kernel_rfl) (by kernel_rfl) rfl fun ww17 a31 hS46 hf37 => ⟨fun e => absurd e (by decide), ?_⟩
        refine p_qP 1 [] [(4, pB b2 0), (5, vI 0)] [] hf37 (by kernel_rfl) (fun _ => .nil) fun a32 hf38 => ?_
        refine p_dt (by kernel_rfl) ?_
        refine w_ret (by kernel_rfl) ?_
        refine p_ret (os := [.slice e13 r8.1.length q7, .map e14]) (v := .tuple #[.agg #[.slice e13 r8.1.length q7, .map e14], vI 0]) (obs := [.cell ⟨b2, 0, none⟩ (.slice e13 r8.1.length q7), .cell ⟨b2, 1, none⟩ (.map e14)]) hf38 (by kernel_rfl) (.cell (hS46.box (i := 3) rfl (j := 0) rfl) (.cell (hS46.box (i := 3) rfl (j := 1) rfl) .nil)) ?_
        obtain rfl := some_eq hr21
        exact ⟨_, rfl, z9, e13, q7, e14, (Zone.le_trans (Zone.le_trans k2 k3) k9), rfl, (St.pick 6 [5] hS46 (by kernel_rfl)), hx14, hx15⟩
       ·have hr22 := cond_f hb7 hr19
        cases hr22
def F97 (fuel : Nat) (x0 : Int) (x1_heap : List Part) (x1_may : List (Int × Bool)) (x2 : Pl) : Option (Pl) :=
  (some (x2))
set_option maxRecDepth 100000 in
theorem f97_ok (fuel : Nat) (x0 : Int) (x1_heap : List Part) (x1_may : List (Int × Bool)) (x2 : Pl) (r : Pl) (hr : F97 fuel x0 x1_heap x1_may x2 = some r) (h : Zone) (L : List Atom) (w : World) (b_x2 : Nat) (hS : St h (plA 126 40 117 b_x2 x2 :: L) w) (o_x1_heap : Option Addr) (c_x1_heap : Nat) (hx_x1_heap : SliceR PartT h o_x1_heap c_x1_heap x1_heap) (o_x1_may : Option Nat) (hx_x1_may : MapR Value.bool h o_x1_may x1_may) :
    Calls Try.prog 97 #[vI x0, .agg #[.slice o_x1_heap x1_heap.length c_x1_heap, .map o_x1_may], pB b_x2 0] w fun e w' => ∃ v, e = .returned v ∧ (∃ h', Zone.le h h' ∧ v = .tuple #[] ∧ St h' (plA 126 40 117 b_x2 r :: L) w') := by
 refine calls_intro (N := 6) Try.func97 (by kernel_rfl) fun a hf => ?_
 refine w_reg (by kernel_rfl) ?_
 refine p_box (i := 0) (d := (some 4)) (cs := [.slice o_x1_heap x1_heap.length c_x1_heap, .map o_x1_may]) (T := 119) (v := fun b1 => pB b1 0) hS hf (fun b => by kernel_rfl) fun b1 ww1 a1 hS1 hf1 => ⟨fun _ => trivial, ?_⟩
 refine p_done (by kernel_rfl) ?_
 refine p_fall (os := []) (v := .tuple #[]) (obs := []) hf1 (by kernel_rfl) .nil ?_
 obtain rfl := some_eq hr
 exact ⟨_, rfl, h, (Zone.le_refl _), rfl, (St.pick 2 [1] hS1 (by kernel_rfl))⟩
def F38_j1 (fuel : Nat) (y1 : Option Pl) (y2 : Int) (y3 : Int) : Option (List Lot × List (List (List Part)) × Int × Int) :=
  (cond (y3 != (0 : Int)) (some ([], [[], [], [], [], [], [], [], [], []], y2, y3)) ((y1).bind fun p1 => ((F83 fuel p1.lots p1.holds).bind fun r1 => (some (r1.1, r1.2, y2, 0)))))
def F38_l1 (fuel : Nat) (x1 : List Deed) : Nat → Pl → Int → Option (List Lot × List (List (List Part)) × Int × Int)
  | 0, _, _ => none
  | n1 + 1, y4, y5 =>
    let k1 : Pl → Int → Option (List Lot × List (List (List Part)) × Int × Int) := F38_l1 fuel x1 n1
    (cond (decide (y5 < (x1.length : Int))) ((getI x1 y5).bind fun p2 => ((F82 fuel y4 p2.kind p2.lot p2.frm p2.to p2.mass).bind fun r2 => (cond (r2.2.2.1 != (0 : Int)) (F38_j1 fuel none y5 r2.2.2.1) ((F97 fuel y5 r2.1 r2.2.1 r2.2.2.2).bind fun r3 => (k1 r3 (w64 (y5 + (1 : Int)))))))) (F38_j1 fuel (some y4) (x1.length : Int) 0))
def F38 (fuel : Nat) (x0 : List Lot) (x1 : List Deed) : Option (List Lot × List (List (List Part)) × Int × Int) :=
  ((F110 fuel x0 x1).bind fun r4 => (cond (r4 != (0 : Int)) (F38_j1 fuel none 0 r4) ((F81 fuel x0 ([[], [], [], [], [], [], [], [], []])).bind fun r5 => (F38_l1 fuel x1 fuel r5 0))))
set_option maxRecDepth 100000 in
theorem f38_ok (fuel : Nat) (x0 : List Lot) (x1 : List Deed) (r : List Lot × List (List (List Part)) × Int × Int) (hr : F38 fuel x0 x1 = some r) (h : Zone) (L : List Atom) (w : World) (hS : St h L w) (o_x0 : Option Addr) (c_x0 : Nat) (hx_x0 : SliceR LotT h o_x0 c_x0 x0) (o_x1 : Option Addr) (c_x1 : Nat) (hx_x1 : SliceR DeedT h o_x1 c_x1 x1) :
    Calls Try.prog 38 #[.slice o_x0 x0.length c_x0, .slice o_x1 x1.length c_x1] w fun e w' => ∃ v, e = .returned v ∧ (∃ h', ∃ o0 : Option Addr, ∃ c0 : Nat, ∃ v1_0 : Value, ∃ v1_1 : Value, ∃ v1_2 : Value, ∃ v1_3 : Value, ∃ v1_4 : Value, ∃ v1_5 : Value, ∃ v1_6 : Value, ∃ v1_7 : Value, ∃ v1_8 : Value, Zone.le h h' ∧ v = .tuple #[.agg #[.slice o0 r.1.length c0, v1_0, v1_1, v1_2, v1_3, v1_4, v1_5, v1_6, v1_7, v1_8], vI r.2.2.1, vI r.2.2.2] ∧ St h' L w' ∧ SliceR LotT h' o0 c0 r.1 ∧ (Ty.arr 9 (Ty.slice (Ty.slice PartT))).rep h' [v1_0, v1_1, v1_2, v1_3, v1_4, v1_5, v1_6, v1_7, v1_8] r.2.1) := by
 refine calls_intro (N := 28) Try.func38 (by kernel_rfl) fun a hf => ?_
 refine w_sr (by kernel_rfl) ?_
 refine p_box (i := 0) (d := (some 4)) (cs := [.slice none 0 0, .slice none 0 0, .slice none 0 0, .slice none 0 0, .slice none 0 0, .slice none 0 0, .slice none 0 0, .slice none 0 0, .slice none 0 0, .slice none 0 0]) (T := 26) (v := fun b1 => pB b1 0) hS hf (fun b => by kernel_rfl) fun b1 ww1 a1 hS1 hf1 => ⟨fun _ => trivial, ?_⟩
 refine p_qt [] [(0, .slice o_x0 x0.length c_x0), (1, .slice o_x1 x1.length c_x1), (4, pB b1 0)] [] hf1 (by kernel_rfl) .nil fun a2 hf2 => ?_
 refine w_sr (by kernel_rfl) ?_
 refine p_qn 2 [] [(4, pB b1 0), (11, .slice o_x0 x0.length c_x0), (12, .slice o_x1 x1.length c_x1)] [] hf2 (by kernel_rfl) .nil fun a3 hf3 => ?_
 refine p_call (i := 2) (d := some 13) (f := 96) (args := #[.slice o_x0 x0.length c_x0, .slice o_x1 x1.length c_x1, .func (.func 97) #[] #[]]) hf3 (by kernel_rfl) (Φ := fun v w => ∃ z1 : Zone, ∃ y1 : Option Pl, ∃ y2 : Int, ∃ y3 : Int, ∃ p3 : Option Addr, Zone.le h z1 ∧ v = .tuple #[.pointer p3, vI y2, vI y3] ∧ St z1 (plO 126 40 117 p3 y1 :: box b1 [.slice none 0 0, .slice none 0 0, .slice none 0 0, .slice none 0 0, .slice none 0 0, .slice none 0 0, .slice none 0 0, .slice none 0 0, .slice none 0 0, .slice none 0 0] 26 :: L) w ∧ (F38_j1 fuel y1 y2 y3) = some r) ?_ ?_
 ·refine calls_intro (N := 50) Try.func96 (by kernel_rfl) fun a4 hf4 => ?_
  refine w_sq [] [(0, .slice o_x0 x0.length c_x0), (1, .slice o_x1 x1.length c_x1), (2, .func (.func 97) #[] #[])] [] hf4 (by kernel_rfl) .nil fun a5 hf5 => ?_
  refine w_seq (by kernel_rfl) ?_
  refine w_sr (by kernel_rfl) ?_
  refine p_qn 2 [] [(0, .slice o_x0 x0.length c_x0), (1, .slice o_x1 x1.length c_x1), (2, .func (.func 97) #[] #[]), (15, .slice o_x0 x0.length c_x0), (16, .slice o_x1 x1.length c_x1)] [] hf5 (by kernel_rfl) .nil fun a6 hf6 => ?_
  obtain ⟨r4, hd1, hr1⟩ := bind_some hr
  refine p_call (i := 2) (d := some 17) (f := 110) (args := #[.slice o_x0 x0.length c_x0, .slice o_x1 x1.length c_x1]) hf6 (by kernel_rfl) (f110_ok fuel x0 x1 r4 hd1 h _ _ hS1 o_x0 c_x0 hx_x0 o_x1 c_x1 hx_x1) ?_
  rintro v1 ww2 a7 ⟨z2, k2, rfl, hS2⟩ hf7
  refine ⟨fun _ => trivial, ?_⟩
  refine p_qt [] [(0, .slice o_x0 x0.length c_x0), (1, .slice o_x1 x1.length c_x1), (2, .func (.func 97) #[] #[]), (9, vI r4)] [] hf7 (by kernel_rfl) .nil fun a8 hf8 => ?_
  refine w_sq [] [(0, .slice o_x0 x0.length c_x0), (1, .slice o_x1 x1.length c_x1), (2, .func (.func 97) #[] #[]), (9, vI r4), (19, .bool (r4 != (0 : Int)))] [] hf8 (by kernel_rfl) .nil fun a9 hf9 => ?_
  refine w_if hf9 (b := (r4 != (0 : Int))) (by kernel_rfl) (fun hb1 => ?_) (fun hb1 => ?_)
  ·have hr2 := cond_t hb1 hr1
   refine w_sq [] [(6, .pointer none), (7, vI 0), (8, vI r4)] [] hf9 (by kernel_rfl) .nil fun a10 hf10 => ?_
   refine w_ret (by kernel_rfl) ?_
   refine r_then ?_
   refine p_ret (os := []) (v := .tuple #[.pointer none, vI 0, vI r4]) (obs := []) hf10 (by kernel_rfl) .nil ?_
   have hS3 := hS2.plNone 126 40 117
   exact ⟨_, rfl, z2, none, 0, r4, none, k2, rfl, (St.pick 1 [0] hS3 (by kernel_rfl)), hr2⟩
  ·have hr3 := cond_f hb1 hr1
   refine w_skip (by kernel_rfl) ?_
   refine n_then ?_
   refine w_sr (by kernel_rfl) ?_
   refine p_qn 2 [] [(1, .slice o_x1 x1.length c_x1), (2, .func (.func 97) #[] #[]), (22, .agg #[.slice o_x0 x0.length c_x0, .slice none 0 0, .slice none 0 0, .slice none 0 0, .slice none 0 0, .slice none 0 0, .slice none 0 0, .slice none 0 0, .slice none 0 0, .slice none 0 0])] [] hf9 (by kernel_rfl) .nil fun a11 hf11 => ?_
   obtain ⟨r5, hd2, hr4⟩ := bind_some hr3
   refine p_call (i := 2) (d := some 23) (f := 81) (args := #[.agg #[.slice o_x0 x0.length c_x0, .slice none 0 0, .slice none 0 0, .slice none 0 0, .slice none 0 0, .slice none 0 0, .slice none 0 0, .slice none 0 0, .slice none 0 0, .slice none 0 0]]) hf11 (by kernel_rfl) (f81_ok fuel x0 ([[], [], [], [], [], [], [], [], []]) r5 hd2 z2 _ _ hS2 o_x0 c_x0 (SliceR.mono k2 hx_x0) (.slice none 0 0) (.slice none 0 0) (.slice none 0 0) (.slice none 0 0) (.slice none 0 0) (.slice none 0 0) (.slice none 0 0) (.slice none 0 0) (.slice none 0 0) ⟨rfl, (Rows.cons (c := [_]) (sliceRep (SliceR.nil' _ _)) (Rows.cons (c := [_]) (sliceRep (SliceR.nil' _ _)) (Rows.cons (c := [_]) (sliceRep (SliceR.nil' _ _)) (Rows.cons (c := [_]) (sliceRep (SliceR.nil' _ _)) (Rows.cons (c := [_]) (sliceRep (SliceR.nil' _ _)) (Rows.cons (c := [_]) (sliceRep (SliceR.nil' _ _)) (Rows.cons (c := [_]) (sliceRep (SliceR.nil' _ _)) (Rows.cons (c := [_]) (sliceRep (SliceR.nil' _ _)) (Rows.cons (c := [_]) (sliceRep (SliceR.nil' _ _)) rfl)))))))))⟩) ?_
   rintro v2 ww3 a12 ⟨z3, b2, k3, rfl, hS4⟩ hf12
   refine ⟨fun _ => trivial, ?_⟩
   refine p_qt [] [(1, .slice o_x1 x1.length c_x1), (2, .func (.func 97) #[] #[]), (10, pB b2 0)] [] hf12 (by kernel_rfl) .nil fun a13 hf13 => ?_
   refine w_seq (by kernel_rfl) ?_
   refine w_sq [] [(1, .slice o_x1 x1.length c_x1), (2, .func (.func 97) #[] #[]), (10, pB b2 0), (24, .slice o_x1 x1.length c_x1), (25, vI (x1.length : Int)), (26, vI 0)] [] hf13 (by kernel_rfl) .nil fun a14 hf14 => ?_
   refine w_block (id := 0) (by kernel_rfl) ?_
   have hf15 := Fr.keep (ks := [1, 2, 10, 24, 25, 26]) (r := [(1, .slice o_x1 x1.length c_x1), (2, .func (.func 97) #[] #[]), (10, pB b2 0), (24, .slice o_x1 x1.length c_x1), (25, vI (x1.length : Int)), (26, vI 0)]) hf14 (by kernel_rfl)
   refine w_loop (by kernel_rfl) (fun n a w => ∃ z4 : Zone, ∃ y4 : Pl, ∃ y5 : Int, Zone.le z3 z4 ∧ Fr a 50 [(1, .slice o_x1 x1.length c_x1), (2, .func (.func 97) #[] #[]), (10, pB b2 0), (24, .slice o_x1 x1.length c_x1), (25, vI (x1.length : Int)), (26, vI y5)] ∧ St z4 (plA 126 40 117 b2 y4 :: box b1 [.slice none 0 0, .slice none 0 0, .slice none 0 0, .slice none 0 0, .slice none 0 0, .slice none 0 0, .slice none 0 0, .slice none 0 0, .slice none 0 0, .slice none 0 0] 26 :: L) w ∧ (F38_l1 fuel x1 n y4 y5) = some r) fuel ⟨z3, r5, 0, (Zone.le_refl _), hf15, hS4, hr4⟩ ?_
   rintro n2 a15 ww4 ⟨z4, y4, y5, k4, hf16, hS5, hr5⟩
   cases n2 with
   | zero => cases hr5
   | succ n1 =>
   refine w_sq [] [(1, .slice o_x1 x1.length c_x1), (2, .func (.func 97) #[] #[]), (10, pB b2 0), (24, .slice o_x1 x1.length c_x1), (25, vI (x1.length : Int)), (26, vI y5), (27, .bool (decide (y5 < (x1.length : Int))))] [] hf16 (by kernel_rfl) .nil fun a16 hf17 => ?_
   refine w_seq (by kernel_rfl) ?_
   refine w_if hf17 (b := (decide (y5 < (x1.length : Int)))) (by kernel_rfl) (fun hb2 => ?_) (fun hb2 => ?_)
   ·have hr6 := cond_t hb2 hr5
    refine w_skip (by kernel_rfl) ?_
    refine n_then ?_
    refine w_seq (by kernel_rfl) ?_
    refine w_block (id := 1) (by kernel_rfl) ?_
    refine w_sr (by kernel_rfl) ?_
    obtain ⟨p2, hp3393, hr7⟩ := bind_some hr6
    obtain ⟨ad1, ho1, hb3, cc1, hc1, hk1⟩ := SliceR.getI (SliceR.mono (Zone.le_trans (Zone.le_trans k2 k3) k4) hx_x1) hp3393
    subst hc1
    refine p_qn 3 [.pointer (some ad1), vI p2.kind, vI p2.lot, vI p2.frm, vI p2.to, vI p2.mass] [(1, .slice o_x1 x1.length c_x1), (2, .func (.func 97) #[] #[]), (10, pB b2 0), (24, .slice o_x1 x1.length c_x1), (25, vI (x1.length : Int)), (26, vI y5), (28, vI y5), (30, .agg #[vI p2.kind, vI p2.lot, vI p2.frm, vI p2.to, vI p2.mass])] [.prop (o_x1 = some ad1), .prop (0 ≤ y5 ∧ y5 < (x1.length : Nat)), .cell ((ad1.add (Int.toNat y5 * 5)).add 0) (vI p2.kind), .cell ((ad1.add (Int.toNat y5 * 5)).add 1) (vI p2.lot), .cell ((ad1.add (Int.toNat y5 * 5)).add 2) (vI p2.frm), .cell ((ad1.add (Int.toNat y5 * 5)).add 3) (vI p2.to), .cell ((ad1.add (Int.toNat y5 * 5)).add 4) (vI p2.mass)] hf17 (by kernel_rfl) (.prop ho1 (.prop hb3 (.cell (hS5.cell (hk1 0 _ rfl)) (.cell (hS5.cell (hk1 1 _ rfl)) (.cell (hS5.cell (hk1 2 _ rfl)) (.cell (hS5.cell (hk1 3 _ rfl)) (.cell (hS5.cell (hk1 4 _ rfl)) .nil))))))) fun a17 hf18 => ?_
    refine p_box (i := 3) (d := (some 12)) (cs := [vI 0, vI 0, vI 0, vI 0, vI 0]) (T := 28) (v := fun b3 => pB b3 0) hS5 hf18 (fun b => by kernel_rfl) fun b3 ww5 a18 hS6 hf19 => ⟨fun _ => trivial, ?_⟩
    refine p_qn 1 [] [(1, .slice o_x1 x1.length c_x1), (2, .func (.func 97) #[] #[]), (10, pB b2 0), (11, vI y5), (12, pB b3 0), (24, .slice o_x1 x1.length c_x1), (25, vI (x1.length : Int)), (26, vI y5), (30, .agg #[vI p2.kind, vI p2.lot, vI p2.frm, vI p2.to, vI p2.mass])] [] hf19 (by kernel_rfl) .nil fun a19 hf20 => ?_
    refine p_store_eq (i := 5) (j := 0) (b := b3) (off := 0) (vs := [vI p2.kind, vI p2.lot, vI p2.frm, vI p2.to, vI p2.mass]) (cs' := [vI p2.kind, vI p2.lot, vI p2.frm, vI p2.to, vI p2.mass]) hS6 hf20 rfl (by kernel_rfl) (by kernel_rfl) rfl fun ww6 a20 hS7 hf21 => ⟨fun _ => trivial, ?_⟩
    refine p_dt (by kernel_rfl) ?_
    refine w_sr (by kernel_rfl) ?_
    refine p_qn 2 [vI p2.kind, vI p2.lot, vI p2.frm, vI p2.to, vI p2.mass] [(1, .slice o_x1 x1.length c_x1), (2, .func (.func 97) #[] #[]), (10, pB b2 0), (11, vI y5), (24, .slice o_x1 x1.length c_x1), (25, vI (x1.length : Int)), (26, vI y5), (32, pB b2 0), (33, .agg #[vI p2.kind, vI p2.lot, vI p2.frm, vI p2.to, vI p2.mass])] [.cell ⟨b3, 0, none⟩ (vI p2.kind), .cell ⟨b3, 1, none⟩ (vI p2.lot), .cell ⟨b3, 2, none⟩ (vI p2.frm), .cell ⟨b3, 3, none⟩ (vI p2.to), .cell ⟨b3, 4, none⟩ (vI p2.mass)] hf21 (by kernel_rfl) (.cell (hS7.box (i := 0) rfl (j := 0) rfl) (.cell (hS7.box (i := 0) rfl (j := 1) rfl) (.cell (hS7.box (i := 0) rfl (j := 2) rfl) (.cell (hS7.box (i := 0) rfl (j := 3) rfl) (.cell (hS7.box (i := 0) rfl (j := 4) rfl) .nil))))) fun a21 hf22 => ?_
    have hS8 := St.swapTo (i := 2) (j := 0) (St.addEmp hS7) rfl rfl (by decide)
    have hS9 : St z4 (plA 126 40 117 b2 y4 :: box b3 [vI p2.kind, vI p2.lot, vI p2.frm, vI p2.to, vI p2.mass] 28 :: emp :: box b1 [.slice none 0 0, .slice none 0 0, .slice none 0 0, .slice none 0 0, .slice none 0 0, .slice none 0 0, .slice none 0 0, .slice none 0 0, .slice none 0 0, .slice none 0 0] 26 :: L) _ := hS8
    obtain ⟨r2, hd3, hr8⟩ := bind_some hr7
    refine p_call (i := 2) (d := some 34) (f := 82) (args := #[pB b2 0, .agg #[vI p2.kind, vI p2.lot, vI p2.frm, vI p2.to, vI p2.mass]]) hf22 (by kernel_rfl) (f82_ok fuel y4 p2.kind p2.lot p2.frm p2.to p2.mass r2 hd3 z4 _ _ b2 hS9 ) ?_
    rintro v3 ww7 a22 ⟨z5, e1, q1, e2, k5, rfl, hS10, hx1, hx2⟩ hf23
    have hS11 := St.swapTo (i := 0) (j := 2) hS10 rfl rfl (by decide)
    have hS12 : St z5 (emp :: box b3 [vI p2.kind, vI p2.lot, vI p2.frm, vI p2.to, vI p2.mass] 28 :: plA 126 40 117 b2 r2.2.2.2 :: box b1 [.slice none 0 0, .slice none 0 0, .slice none 0 0, .slice none 0 0, .slice none 0 0, .slice none 0 0, .slice none 0 0, .slice none 0 0, .slice none 0 0, .slice none 0 0] 26 :: L) _ := hS11
    refine ⟨fun _ => trivial, ?_⟩
    refine p_qn 3 [] [(1, .slice o_x1 x1.length c_x1), (2, .func (.func 97) #[] #[]), (10, pB b2 0), (11, vI y5), (24, .slice o_x1 x1.length c_x1), (25, vI (x1.length : Int)), (26, vI y5), (35, .agg #[.slice e1 r2.1.length q1, .map e2]), (36, vI r2.2.2.1)] [] hf23 (by kernel_rfl) .nil fun a23 hf24 => ?_
    refine p_box (i := 6) (d := (some 13)) (cs := [.slice none 0 0, .map none]) (T := 119) (v := fun b4 => pB b4 0) hS12 hf24 (fun b => by kernel_rfl) fun b4 ww8 a24 hS13 hf25 => ⟨fun _ => trivial, ?_⟩
    refine p_store_eq (i := 7) (j := 0) (b := b4) (off := 0) (vs := [.slice e1 r2.1.length q1, .map e2]) (cs' := [.slice e1 r2.1.length q1, .map e2]) hS13 hf25 rfl (by kernel_rfl) (by kernel_rfl) rfl fun ww9 a25 hS14 hf26 => ⟨fun _ => trivial, ?_⟩
    refine p_qt [] [(1, .slice o_x1 x1.length c_x1), (2, .func (.func 97) #[] #[]), (10, pB b2 0), (11, vI y5), (13, pB b4 0), (14, vI r2.2.2.1), (24, .slice o_x1 x1.length c_x1), (25, vI (x1.length : Int)), (26, vI y5)] [] hf26 (by kernel_rfl) .nil fun a26 hf27 => ?_
    refine w_seq (by kernel_rfl) ?_
    refine w_sq [] [(1, .slice o_x1 x1.length c_x1), (2, .func (.func 97) #[] #[]), (10, pB b2 0), (11, vI y5), (13, pB b4 0), (14, vI r2.2.2.1), (24, .slice o_x1 x1.length c_x1), (25, vI (x1.length : Int)), (26, vI y5), (38, .bool (r2.2.2.1 != (0 : Int)))] [] hf27 (by kernel_rfl) .nil fun a27 hf28 => ?_
    refine w_if hf28 (b := (r2.2.2.1 != (0 : Int))) (by kernel_rfl) (fun hb4 => ?_) (fun hb4 => ?_)
    ·have hr9 := cond_t hb4 hr8
     refine w_sq [] [(6, .pointer none), (7, vI y5), (8, vI r2.2.2.1)] [] hf28 (by kernel_rfl) .nil fun a28 hf29 => ?_
     refine w_ret (by kernel_rfl) ?_
     refine r_then ?_
     refine r_block ?_
     refine r_then ?_
     refine r_then ?_
     refine r_block ?_
     refine r_then ?_
     refine p_ret (os := []) (v := .tuple #[.pointer none, vI y5, vI r2.2.2.1]) (obs := []) hf29 (by kernel_rfl) .nil ?_
     have hS15 := hS14.plNone 126 40 117
     exact ⟨_, rfl, z5, none, y5, r2.2.2.1, none, (Zone.le_trans (Zone.le_trans (Zone.le_trans k2 k3) k4) k5), rfl, (St.pick 5 [0] hS15 (by kernel_rfl)), hr9⟩
    ·have hr10 := cond_f hb4 hr8
     refine w_skip (by kernel_rfl) ?_
     refine n_then ?_
     refine w_reg (by kernel_rfl) ?_
     refine p_qn 4 [.slice e1 r2.1.length q1, .map e2] [(1, .slice o_x1 x1.length c_x1), (2, .func (.func 97) #[] #[]), (10, pB b2 0), (24, .slice o_x1 x1.length c_x1), (25, vI (x1.length : Int)), (26, vI y5), (41, .func (.func 97) #[] #[]), (42, vI y5), (43, .agg #[.slice e1 r2.1.length q1, .map e2]), (44, pB b2 0)] [.cell ⟨b4, 0, none⟩ (.slice e1 r2.1.length q1), .cell ⟨b4, 1, none⟩ (.map e2)] hf28 (by kernel_rfl) (.cell (hS14.box (i := 0) rfl (j := 0) rfl) (.cell (hS14.box (i := 0) rfl (j := 1) rfl) .nil)) fun a29 hf30 => ?_
     have hS16 := St.swapTo (i := 4) (j := 0) (St.addEmp hS14) rfl rfl (by decide)
     have hS17 : St z5 (plA 126 40 117 b2 r2.2.2.2 :: box b4 [.slice e1 r2.1.length q1, .map e2] 119 :: emp :: box b3 [vI p2.kind, vI p2.lot, vI p2.frm, vI p2.to, vI p2.mass] 28 :: emp :: box b1 [.slice none 0 0, .slice none 0 0, .slice none 0 0, .slice none 0 0, .slice none 0 0, .slice none 0 0, .slice none 0 0, .slice none 0 0, .slice none 0 0, .slice none 0 0] 26 :: L) _ := hS16
     obtain ⟨r3, hd4, hr11⟩ := bind_some hr10
     refine p_call (i := 4) (d := some 45) (f := 97) (args := #[vI y5, .agg #[.slice e1 r2.1.length q1, .map e2], pB b2 0]) hf30 (by kernel_rfl) (f97_ok fuel y5 r2.1 r2.2.1 r2.2.2.2 r3 hd4 z5 _ _ b2 hS17 e1 q1 hx1 e2 hx2) ?_
     rintro v4 ww10 a30 ⟨z6, k6, rfl, hS18⟩ hf31
     have hS19 := St.swapTo (i := 0) (j := 4) hS18 rfl rfl (by decide)
     have hS20 : St z6 (emp :: box b4 [.slice e1 r2.1.length q1, .map e2] 119 :: emp :: box b3 [vI p2.kind, vI p2.lot, vI p2.frm, vI p2.to, vI p2.mass] 28 :: plA 126 40 117 b2 r3 :: box b1 [.slice none 0 0, .slice none 0 0, .slice none 0 0, .slice none 0 0, .slice none 0 0, .slice none 0 0, .slice none 0 0, .slice none 0 0, .slice none 0 0, .slice none 0 0] 26 :: L) _ := hS19
     refine ⟨fun _ => trivial, ?_⟩
     refine p_done (by kernel_rfl) ?_
     refine n_block ?_
     refine n_then ?_
     refine w_q [] [(1, .slice o_x1 x1.length c_x1), (2, .func (.func 97) #[] #[]), (10, pB b2 0), (24, .slice o_x1 x1.length c_x1), (25, vI (x1.length : Int)), (26, vI (w64 (y5 + (1 : Int))))] [] hf31 (by kernel_rfl) .nil fun a31 hf32 => ?_
     refine n_then ?_
     have hf33 := Fr.keep (ks := [1, 2, 10, 24, 25, 26]) (r := [(1, .slice o_x1 x1.length c_x1), (2, .func (.func 97) #[] #[]), (10, pB b2 0), (24, .slice o_x1 x1.length c_x1), (25, vI (x1.length : Int)), (26, vI (w64 (y5 + (1 : Int))))]) hf32 (by kernel_rfl)
     exact ⟨n1, Nat.lt_succ_self n1, z6, r3, (w64 (y5 + (1 : Int))), (Zone.le_trans (Zone.le_trans k4 k5) k6), hf33, (St.drop 4 hS20), hr11⟩
   ·have hr12 := cond_f hb2 hr5
    refine w_exit (id := 0) (by kernel_rfl) ?_
    refine x_then ?_
    refine x_then ?_
    refine x_block ?_
    refine n_then ?_
    refine w_sq [] [(6, pB b2 0), (7, vI (x1.length : Int)), (8, vI 0)] [] hf17 (by kernel_rfl) .nil fun a32 hf34 => ?_
    refine w_ret (by kernel_rfl) ?_
    refine p_ret (os := []) (v := .tuple #[pB b2 0, vI (x1.length : Int), vI 0]) (obs := []) hf34 (by kernel_rfl) .nil ?_
    have hS21 := hS5.plSome (i := 0) rfl
    exact ⟨_, rfl, z4, (some y4), (x1.length : Int), 0, (some ⟨b2, 0, none⟩), (Zone.le_trans (Zone.le_trans k2 k3) k4), rfl, (St.pick 1 [0] hS21 (by kernel_rfl)), hr12⟩
 ·rintro v5 ww11 a33 ⟨z1, y1, y2, y3, p3, k7, rfl, hS22, hr13⟩ hf35
  refine ⟨fun _ => trivial, ?_⟩
  refine p_qt [] [(4, pB b1 0), (7, .pointer p3), (8, vI y2), (9, vI y3)] [] hf35 (by kernel_rfl) .nil fun a34 hf36 => ?_
  refine w_seq (by kernel_rfl) ?_
  refine w_sq [] [(4, pB b1 0), (7, .pointer p3), (8, vI y2), (9, vI y3), (18, .bool (y3 != (0 : Int)))] [] hf36 (by kernel_rfl) .nil fun a35 hf37 => ?_
  refine w_if hf37 (b := (y3 != (0 : Int))) (by kernel_rfl) (fun hb5 => ?_) (fun hb5 => ?_)
  ·have hr14 := cond_t hb5 hr13
   refine w_sr (by kernel_rfl) ?_
   refine p_qn 3 [] [(4, pB b1 0), (19, .agg #[.slice none 0 0, .slice none 0 0, .slice none 0 0, .slice none 0 0, .slice none 0 0, .slice none 0 0, .slice none 0 0, .slice none 0 0, .slice none 0 0, .slice none 0 0]), (20, vI y2), (21, vI y3)] [] hf37 (by kernel_rfl) .nil fun a36 hf38 => ?_
   refine p_store_eq (i := 3) (j := 1) (b := b1) (off := 0) (vs := [.slice none 0 0, .slice none 0 0, .slice none 0 0, .slice none 0 0, .slice none 0 0, .slice none 0 0, .slice none 0 0, .slice none 0 0, .slice none 0 0, .slice none 0 0]) (cs' := [.slice none 0 0, .slice none 0 0, .slice none 0 0, .slice none 0 0, .slice none 0 0, .slice none 0 0, .slice none 0 0, .slice none 0 0, .slice none 0 0, .slice none 0 0]) hS22 hf38 rfl (by kernel_rfl) (by kernel_rfl) rfl fun ww12 a37 hS23 hf39 => ⟨fun _ => trivial, ?_⟩
   refine p_qt [] [(4, pB b1 0), (5, vI y2), (6, vI y3)] [] hf39 (by kernel_rfl) .nil fun a38 hf40 => ?_
   refine w_ret (by kernel_rfl) ?_
   refine r_then ?_
   refine p_ret (os := [.slice none 0 0, .slice none 0 0, .slice none 0 0, .slice none 0 0, .slice none 0 0, .slice none 0 0, .slice none 0 0, .slice none 0 0, .slice none 0 0, .slice none 0 0]) (v := .tuple #[.agg #[.slice none 0 0, .slice none 0 0, .slice none 0 0, .slice none 0 0, .slice none 0 0, .slice none 0 0, .slice none 0 0, .slice none 0 0, .slice none 0 0, .slice none 0 0], vI y2, vI y3]) (obs := [.cell ⟨b1, 0, none⟩ (.slice none 0 0), .cell ⟨b1, 1, none⟩ (.slice none 0 0), .cell ⟨b1, 2, none⟩ (.slice none 0 0), .cell ⟨b1, 3, none⟩ (.slice none 0 0), .cell ⟨b1, 4, none⟩ (.slice none 0 0), .cell ⟨b1, 5, none⟩ (.slice none 0 0), .cell ⟨b1, 6, none⟩ (.slice none 0 0), .cell ⟨b1, 7, none⟩ (.slice none 0 0), .cell ⟨b1, 8, none⟩ (.slice none 0 0), .cell ⟨b1, 9, none⟩ (.slice none 0 0)]) hf40 (by kernel_rfl) (.cell (hS23.box (i := 1) rfl (j := 0) rfl) (.cell (hS23.box (i := 1) rfl (j := 1) rfl) (.cell (hS23.box (i := 1) rfl (j := 2) rfl) (.cell (hS23.box (i := 1) rfl (j := 3) rfl) (.cell (hS23.box (i := 1) rfl (j := 4) rfl) (.cell (hS23.box (i := 1) rfl (j := 5) rfl) (.cell (hS23.box (i := 1) rfl (j := 6) rfl) (.cell (hS23.box (i := 1) rfl (j := 7) rfl) (.cell (hS23.box (i := 1) rfl (j := 8) rfl) (.cell (hS23.box (i := 1) rfl (j := 9) rfl) .nil)))))))))) ?_
   obtain rfl := some_eq hr14
   exact ⟨_, rfl, z1, none, 0, .slice none 0 0, .slice none 0 0, .slice none 0 0, .slice none 0 0, .slice none 0 0, .slice none 0 0, .slice none 0 0, .slice none 0 0, .slice none 0 0, k7, rfl, (St.drop 2 hS23), SliceR.nil' _ _, ⟨rfl, (Rows.cons (c := [_]) (sliceRep (SliceR.nil' _ _)) (Rows.cons (c := [_]) (sliceRep (SliceR.nil' _ _)) (Rows.cons (c := [_]) (sliceRep (SliceR.nil' _ _)) (Rows.cons (c := [_]) (sliceRep (SliceR.nil' _ _)) (Rows.cons (c := [_]) (sliceRep (SliceR.nil' _ _)) (Rows.cons (c := [_]) (sliceRep (SliceR.nil' _ _)) (Rows.cons (c := [_]) (sliceRep (SliceR.nil' _ _)) (Rows.cons (c := [_]) (sliceRep (SliceR.nil' _ _)) (Rows.cons (c := [_]) (sliceRep (SliceR.nil' _ _)) rfl)))))))))⟩⟩
  ·have hr15 := cond_f hb5 hr13
   refine w_skip (by kernel_rfl) ?_
   refine n_then ?_
   refine w_seq (by kernel_rfl) ?_
   obtain ⟨p1, hp3524, hr16⟩ := bind_some hr15
   rw [hp3524] at hS22
   obtain ⟨b5, he1, hS24⟩ := hS22.plGet (i := 0) rfl
   subst he1
   obtain ⟨e3, q2, v6, v7, v8, v9, v10, v11, v12, v13, v14, v15, v16, v17, v18, v19, v20, v21, v22, v23, hx3, hS25⟩ := hS24.plOpen (i := 0) rfl
   refine w_reg (by kernel_rfl) ?_
   refine p_qn 4 [.slice e3 p1.lots.length q2, v6, v7, v8, v9, v10, v11, v12, v13, v14] [(4, pB b1 0), (8, vI y2), (25, .agg #[.slice e3 p1.lots.length q2, v6, v7, v8, v9, v10, v11, v12, v13, v14])] [.cell ⟨b5, 0, none⟩ (.slice e3 p1.lots.length q2), .cell ⟨b5, 1, none⟩ (v6), .cell ⟨b5, 2, none⟩ (v7), .cell ⟨b5, 3, none⟩ (v8), .cell ⟨b5, 4, none⟩ (v9), .cell ⟨b5, 5, none⟩ (v10), .cell ⟨b5, 6, none⟩ (v11), .cell ⟨b5, 7, none⟩ (v12), .cell ⟨b5, 8, none⟩ (v13), .cell ⟨b5, 9, none⟩ (v14)] hf37 (by kernel_rfl) (.cell (hS25.box (i := 2) rfl (j := 0) rfl) (.cell (hS25.box (i := 2) rfl (j := 1) rfl) (.cell (hS25.box (i := 2) rfl (j := 2) rfl) (.cell (hS25.box (i := 2) rfl (j := 3) rfl) (.cell (hS25.box (i := 2) rfl (j := 4) rfl) (.cell (hS25.box (i := 2) rfl (j := 5) rfl) (.cell (hS25.box (i := 2) rfl (j := 6) rfl) (.cell (hS25.box (i := 2) rfl (j := 7) rfl) (.cell (hS25.box (i := 2) rfl (j := 8) rfl) (.cell (hS25.box (i := 2) rfl (j := 9) rfl) .nil)))))))))) fun a39 hf41 => ?_
   obtain ⟨z7, k8, hS26, hx4⟩ := hS25.ownShareN (j := 0) rfl (n := 9) rfl
   obtain ⟨r1, hd5, hr17⟩ := bind_some hr16
   refine p_call (i := 4) (d := some 26) (f := 83) (args := #[.agg #[.slice e3 p1.lots.length q2, v6, v7, v8, v9, v10, v11, v12, v13, v14]]) hf41 (by kernel_rfl) (f83_ok fuel p1.lots p1.holds r1 hd5 z7 _ _ hS26 e3 q2 (SliceR.mono k8 hx3) v6 v7 v8 v9 v10 v11 v12 v13 v14 (Ty.mono _ (Zone.le_refl _) hx4)) ?_
   rintro v24 ww13 a40 ⟨z8, e4, q3, v25, v26, v27, v28, v29, v30, v31, v32, v33, k9, rfl, hS27, hx5⟩ hf42
   refine ⟨fun _ => trivial, ?_⟩
   refine p_qn 1 [] [(4, pB b1 0), (26, .agg #[.slice e4 r1.1.length q3, v25, v26, v27, v28, v29, v30, v31, v32, v33]), (27, vI y2)] [] hf42 (by kernel_rfl) .nil fun a41 hf43 => ?_
   have hq1 := hS27.ownOnes (j := 0) rfl
   refine p_store_eq (i := 6) (j := 4) (b := b1) (off := 0) (vs := [.slice e4 r1.1.length q3, v25, v26, v27, v28, v29, v30, v31, v32, v33]) (cs' := [.slice e4 r1.1.length q3, v25, v26, v27, v28, v29, v30, v31, v32, v33]) hS27 hf43 rfl (by kernel_rfl) hq1 rfl fun ww14 a42 hS28 hf44 => ⟨fun _ => trivial, ?_⟩
   refine p_qt [] [(4, pB b1 0), (5, vI y2), (6, vI 0)] [] hf44 (by kernel_rfl) .nil fun a43 hf45 => ?_
   refine w_ret (by kernel_rfl) ?_
   obtain ⟨z9, k10, hS29, hx6⟩ := hS28.ownShareN (j := 0) rfl (n := 9) rfl
   refine p_ret (os := [.slice e4 r1.1.length q3, v25, v26, v27, v28, v29, v30, v31, v32, v33]) (v := .tuple #[.agg #[.slice e4 r1.1.length q3, v25, v26, v27, v28, v29, v30, v31, v32, v33], vI y2, vI 0]) (obs := [.cell ⟨b1, 0, none⟩ (.slice e4 r1.1.length q3), .cell ⟨b1, 1, none⟩ (v25), .cell ⟨b1, 2, none⟩ (v26), .cell ⟨b1, 3, none⟩ (v27), .cell ⟨b1, 4, none⟩ (v28), .cell ⟨b1, 5, none⟩ (v29), .cell ⟨b1, 6, none⟩ (v30), .cell ⟨b1, 7, none⟩ (v31), .cell ⟨b1, 8, none⟩ (v32), .cell ⟨b1, 9, none⟩ (v33)]) hf45 (by kernel_rfl) (.cell (hS29.box (i := 4) rfl (j := 0) rfl) (.cell (hS29.box (i := 4) rfl (j := 1) rfl) (.cell (hS29.box (i := 4) rfl (j := 2) rfl) (.cell (hS29.box (i := 4) rfl (j := 3) rfl) (.cell (hS29.box (i := 4) rfl (j := 4) rfl) (.cell (hS29.box (i := 4) rfl (j := 5) rfl) (.cell (hS29.box (i := 4) rfl (j := 6) rfl) (.cell (hS29.box (i := 4) rfl (j := 7) rfl) (.cell (hS29.box (i := 4) rfl (j := 8) rfl) (.cell (hS29.box (i := 4) rfl (j := 9) rfl) .nil)))))))))) ?_
   obtain rfl := some_eq hr17
   exact ⟨_, rfl, z9, e4, q3, v25, v26, v27, v28, v29, v30, v31, v32, v33, (Zone.le_trans (Zone.le_trans (Zone.le_trans k7 k8) k9) k10), rfl, (St.drop 5 hS29), (SliceR.mono k10 hx5), (Ty.mono _ (Zone.le_refl _) hx6)⟩
def F98_l1 (fuel : Nat) (x0 : List Lot) (x1 : List Int) : Nat → Int → Option (Int)
  | 0, _ => none
  | n1 + 1, y1 =>
    let k1 : Int → Option (Int) := F98_l1 fuel x0 x1 n1
    (cond (decide (y1 < (x1.length : Int))) ((getI x1 y1).bind fun p1 => ((F74 fuel x0 p1).bind fun r1 => (cond (!r1.2) (some (60)) (k1 (w64 (y1 + (1 : Int))))))) (some (0)))
def F98 (fuel : Nat) (x0 : List Lot) (x1 : List Int) : Option (Int) :=
  (F98_l1 fuel x0 x1 fuel 0)
set_option maxRecDepth 100000 in
theorem f98_ok (fuel : Nat) (x0 : List Lot) (x1 : List Int) (r : Int) (hr : F98 fuel x0 x1 = some r) (h : Zone) (L : List Atom) (w : World) (hS : St h L w) (o_x0 : Option Addr) (c_x0 : Nat) (hx_x0 : SliceR LotT h o_x0 c_x0 x0) (o_x1 : Option Addr) (c_x1 : Nat) (hx_x1 : SliceR Ty.int h o_x1 c_x1 x1) :
    Calls Try.prog 98 #[.slice o_x0 x0.length c_x0, .slice o_x1 x1.length c_x1] w fun e w' => ∃ v, e = .returned v ∧ (∃ h', Zone.le h h' ∧ v = vI r ∧ St h' L w') := by
 refine calls_intro (N := 24) Try.func98 (by kernel_rfl) fun a hf => ?_
 refine w_sq [] [(0, .slice o_x0 x0.length c_x0), (1, .slice o_x1 x1.length c_x1)] [] hf (by kernel_rfl) .nil fun a1 hf1 => ?_
 refine w_seq (by kernel_rfl) ?_
 refine w_sq [] [(0, .slice o_x0 x0.length c_x0), (9, .slice o_x1 x1.length c_x1), (10, vI (x1.length : Int)), (11, vI 0)] [] hf1 (by kernel_rfl) .nil fun a2 hf2 => ?_
 refine w_block (id := 0) (by kernel_rfl) ?_
 have hf3 := Fr.keep (ks := [0, 9, 10, 11]) (r := [(0, .slice o_x0 x0.length c_x0), (9, .slice o_x1 x1.length c_x1), (10, vI (x1.length : Int)), (11, vI 0)]) hf2 (by kernel_rfl)
 refine w_loop (by kernel_rfl) (fun n a w => ∃ z1 : Zone, ∃ y1 : Int, Zone.le h z1 ∧ Fr a 24 [(0, .slice o_x0 x0.length c_x0), (9, .slice o_x1 x1.length c_x1), (10, vI (x1.length : Int)), (11, vI y1)] ∧ St z1 (L) w ∧ (F98_l1 fuel x0 x1 n y1) = some r) fuel ⟨h, 0, (Zone.le_refl _), hf3, hS, hr⟩ ?_
 rintro n2 a3 ww1 ⟨z1, y1, k2, hf4, hS1, hr1⟩
 cases n2 with
 | zero => cases hr1
 | succ n1 =>
 refine w_sq [] [(0, .slice o_x0 x0.length c_x0), (9, .slice o_x1 x1.length c_x1), (10, vI (x1.length : Int)), (11, vI y1), (12, .bool (decide (y1 < (x1.length : Int))))] [] hf4 (by kernel_rfl) .nil fun a4 hf5 => ?_
 refine w_seq (by kernel_rfl) ?_
 refine w_if hf5 (b := (decide (y1 < (x1.length : Int)))) (by kernel_rfl) (fun hb1 => ?_) (fun hb1 => ?_)
 ·have hr2 := cond_t hb1 hr1
  refine w_skip (by kernel_rfl) ?_
  refine n_then ?_
  refine w_seq (by kernel_rfl) ?_
  refine w_block (id := 1) (by kernel_rfl) ?_
  obtain ⟨p1, hp670, hr3⟩ := bind_some hr2
  obtain ⟨ad1, ho1, hb2, cc1, hc1, hk1⟩ := SliceR.getI (SliceR.mono k2 hx_x1) hp670
  subst hc1
  refine w_sq [.pointer (some ad1), vI p1] [(0, .slice o_x0 x0.length c_x0), (6, vI p1), (9, .slice o_x1 x1.length c_x1), (10, vI (x1.length : Int)), (11, vI y1)] [.prop (o_x1 = some ad1), .prop (0 ≤ y1 ∧ y1 < (x1.length : Nat)), .cell ((ad1.add (Int.toNat y1 * 1)).add 0) (vI p1)] hf5 (by kernel_rfl) (.prop ho1 (.prop hb2 (.cell (hS1.cell (hk1 0 _ rfl)) .nil))) fun a5 hf6 => ?_
  refine w_sr (by kernel_rfl) ?_
  refine p_qn 2 [] [(0, .slice o_x0 x0.length c_x0), (9, .slice o_x1 x1.length c_x1), (10, vI (x1.length : Int)), (11, vI y1), (16, .slice o_x0 x0.length c_x0), (17, vI p1)] [] hf6 (by kernel_rfl) .nil fun a6 hf7 => ?_
  obtain ⟨r1, hd1, hr4⟩ := bind_some hr3
  refine p_call (i := 2) (d := some 18) (f := 74) (args := #[.slice o_x0 x0.length c_x0, vI p1]) hf7 (by kernel_rfl) (f74_ok fuel x0 p1 r1 hd1 z1 _ _ hS1 o_x0 c_x0 (SliceR.mono k2 hx_x0)) ?_
  rintro v1 ww2 a7 ⟨z2, k3, rfl, hS2⟩ hf8
  refine ⟨fun _ => trivial, ?_⟩
  refine p_qt [] [(0, .slice o_x0 x0.length c_x0), (8, .bool r1.2), (9, .slice o_x1 x1.length c_x1), (10, vI (x1.length : Int)), (11, vI y1)] [] hf8 (by kernel_rfl) .nil fun a8 hf9 => ?_
  refine w_sq [] [(0, .slice o_x0 x0.length c_x0), (9, .slice o_x1 x1.length c_x1), (10, vI (x1.length : Int)), (11, vI y1), (22, .bool (!r1.2))] [] hf9 (by kernel_rfl) .nil fun a9 hf10 => ?_
  refine w_if hf10 (b := (!r1.2)) (by kernel_rfl) (fun hb3 => ?_) (fun hb3 => ?_)
  ·have hr5 := cond_t hb3 hr4
   refine w_sq [] [(4, vI 60)] [] hf10 (by kernel_rfl) .nil fun a10 hf11 => ?_
   refine w_ret (by kernel_rfl) ?_
   refine r_block ?_
   refine r_then ?_
   refine r_then ?_
   refine r_block ?_
   refine r_then ?_
   refine p_ret (os := []) (v := vI 60) (obs := []) hf11 (by kernel_rfl) .nil ?_
   obtain rfl := some_eq hr5
   exact ⟨_, rfl, z2, (Zone.le_trans k2 k3), rfl, hS2⟩
  ·have hr6 := cond_f hb3 hr4
   refine w_skip (by kernel_rfl) ?_
   refine n_block ?_
   refine n_then ?_
   refine w_q [] [(0, .slice o_x0 x0.length c_x0), (9, .slice o_x1 x1.length c_x1), (10, vI (x1.length : Int)), (11, vI (w64 (y1 + (1 : Int))))] [] hf10 (by kernel_rfl) .nil fun a11 hf12 => ?_
   refine n_then ?_
   have hf13 := Fr.keep (ks := [0, 9, 10, 11]) (r := [(0, .slice o_x0 x0.length c_x0), (9, .slice o_x1 x1.length c_x1), (10, vI (x1.length : Int)), (11, vI (w64 (y1 + (1 : Int))))]) hf12 (by kernel_rfl)
   exact ⟨n1, Nat.lt_succ_self n1, z2, (w64 (y1 + (1 : Int))), (Zone.le_trans k2 k3), hf13, hS2, hr6⟩
 ·have hr7 := cond_f hb1 hr1
  refine w_exit (id := 0) (by kernel_rfl) ?_
  refine x_then ?_
  refine x_then ?_
  refine x_block ?_
  refine n_then ?_
  refine w_sq [] [(4, vI 0)] [] hf5 (by kernel_rfl) .nil fun a12 hf14 => ?_
  refine w_ret (by kernel_rfl) ?_
  refine p_ret (os := []) (v := vI 0) (obs := []) hf14 (by kernel_rfl) .nil ?_
  obtain rfl := some_eq hr7
  exact ⟨_, rfl, z1, k2, rfl, hS1⟩
def F40_j7 (y1 : Int) (y2 : Int) : Option (Bool × Int × Int) :=
  (cond (y2 != (0 : Int)) (some (false, 0, y2)) (some ((decide (y1 < (0 : Int))), y1, 0)))
def F40_j8 (y1 : Int) (y3 : Int) (y4 : Bool) : Option (Bool × Int × Int) :=
  (cond y4 (F40_j7 y1 1) (F40_j7 y1 y3))
def F40_j6 (x2 : Int) (x3 : Int) (y1 : Int) (y3 : Int) : Option (Bool × Int × Int) :=
  (cond (y3 == (0 : Int)) (F40_j8 y1 y3 (x2 == x3)) (F40_j8 y1 y3 false))
def F40_j1 (fuel : Nat) (x0 : List Lot) (x2 : Int) (x3 : Int) (y1 : Int) (y5 : Option Pl) (y6 : Int) (y7 : Int) : Option (Bool × Int × Int) :=
  (cond (y7 == (0 : Int)) ((F98 fuel x0 ([x2, x3])).bind fun r1 => (F40_j6 x2 x3 y1 r1)) (F40_j6 x2 x3 y1 y7))
def F40_j2 (k1 : Int → Int → Option (Bool × Int × Int)) (y8 : Int) (y9 : Int) : Option (Bool × Int × Int) :=
  (k1 y9 (w64 (y8 + (1 : Int))))
def F40_j3 (k1 : Int → Int → Option (Bool × Int × Int)) (y10 : Int) (y11 : Int) (y8 : Int) (y12 : Bool) : Option (Bool × Int × Int) :=
  (cond y12 (F40_j2 k1 y8 y10) (F40_j2 k1 y8 y11))
def F40_j4 (k1 : Int → Int → Option (Bool × Int × Int)) (y10 : Int) (y11 : Int) (y8 : Int) (y13 : Int) : Option (Bool × Int × Int) :=
  (F40_j3 k1 y10 y11 y8 (decide (y13 ≥ (0 : Int))))
def F40_j5 (k1 : Int → Int → Option (Bool × Int × Int)) (k2 : Int → Option (Bool × Int × Int)) (y10 : Int) (y11 : Int) (y8 : Int) (y14 : Int) (y15 : Bool) : Option (Bool × Int × Int) :=
  (cond y15 (F40_j4 k1 y10 y11 y8 y14) (k2 (w64 (y14 + (1 : Int)))))
def F40_l3 (k1 : Int → Int → Option (Bool × Int × Int)) (x2 : Int) (x3 : Int) (y10 : Int) (y11 : Int) (y8 : Int) (p1 : List (List (Int × Bool))) : Nat → Int → Option (Bool × Int × Int)
  | 0, _ => none
  | n1 + 1, y14 =>
    let k2 : Int → Option (Bool × Int × Int) := F40_l3 k1 x2 x3 y10 y11 y8 p1 n1
    (cond (decide (y14 < (p1.length : Int))) ((getI p1 y14).bind fun p2 => (cond (lkK p2 x2 false) (F40_j5 k1 k2 y10 y11 y8 y14 (lkK p2 x3 false)) (F40_j5 k1 k2 y10 y11 y8 y14 false))) (F40_j4 k1 y10 y11 y8 (-1)))
def F40_l2 (fuel : Nat) (k3 : Pl → Int → Int → Option (Bool × Int × Int)) (x2 : Int) (x3 : Int) (y10 : Int) (r2 : List Part × List (Int × Bool) × Int × Pl) : Nat → Int → Int → Option (Bool × Int × Int)
  | 0, _, _ => none
  | n2 + 1, y11, y8 =>
    let k1 : Int → Int → Option (Bool × Int × Int) := F40_l2 fuel k3 x2 x3 y10 r2 n2
    (cond (decide (y8 < (9 : Int))) ((getI r2.2.2.2.may y8).bind fun p1 => (cond (decide (y11 < (0 : Int))) (F40_l3 k1 x2 x3 y10 y11 y8 p1 fuel 0) (F40_j3 k1 y10 y11 y8 false))) (k3 r2.2.2.2 y11 (w64 (y10 + (1 : Int)))))
def F40_l1 (fuel : Nat) (x0 : List Lot) (x1 : List Deed) (x2 : Int) (x3 : Int) : Nat → Pl → Int → Int → Option (Bool × Int × Int)
  | 0, _, _, _ => none
  | n3 + 1, y16, y17, y10 =>
    let k3 : Pl → Int → Int → Option (Bool × Int × Int) := F40_l1 fuel x0 x1 x2 x3 n3
    (cond (decide (y10 < (x1.length : Int))) ((getI x1 y10).bind fun p3 => ((F82 fuel y16 p3.kind p3.lot p3.frm p3.to p3.mass).bind fun r2 => (cond (r2.2.2.1 != (0 : Int)) (F40_j1 fuel x0 x2 x3 y17 none y10 r2.2.2.1) (F40_l2 fuel k3 x2 x3 y10 r2 fuel y17 0)))) (F40_j1 fuel x0 x2 x3 y17 (some y16) (x1.length : Int) 0))
def F40 (fuel : Nat) (x0 : List Lot) (x1 : List Deed) (x2 : Int) (x3 : Int) : Option (Bool × Int × Int) :=
  ((F110 fuel x0 x1).bind fun r3 => (cond (r3 != (0 : Int)) (F40_j1 fuel x0 x2 x3 (-1) none 0 r3) ((F81 fuel x0 ([[], [], [], [], [], [], [], [], []])).bind fun r4 => (F40_l1 fuel x0 x1 x2 x3 fuel r4 (-1) 0))))
set_option maxRecDepth 100000 in
theorem f40_ok (fuel : Nat) (x0 : List Lot) (x1 : List Deed) (x2 : Int) (x3 : Int) (r : Bool × Int × Int) (hr : F40 fuel x0 x1 x2 x3 = some r) (h : Zone) (L : List Atom) (w : World) (hS : St h L w) (o_x0 : Option Addr) (c_x0 : Nat) (hx_x0 : SliceR LotT h o_x0 c_x0 x0) (o_x1 : Option Addr) (c_x1 : Nat) (hx_x1 : SliceR DeedT h o_x1 c_x1 x1) :
    Calls Try.prog 40 #[.slice o_x0 x0.length c_x0, .slice o_x1 x1.length c_x1, vI x2, vI x3] w fun e w' => ∃ v, e = .returned v ∧ (∃ h', Zone.le h h' ∧ v = .tuple #[.bool r.1, vI r.2.1, vI r.2.2] ∧ St h' L w') := by
 refine calls_intro (N := 43) Try.func40 (by kernel_rfl) fun a hf => ?_
 refine w_sr (by kernel_rfl) ?_
 refine p_box (i := 0) (d := (some 6)) (cs := [vI x2]) (T := 3) (v := fun b1 => pB b1 0) hS hf (fun b => by kernel_rfl) fun b1 ww1 a1 hS1 hf1 => ⟨fun _ => trivial, ?_⟩
 refine p_box (i := 1) (d := (some 7)) (cs := [vI x3]) (T := 3) (v := fun b2 => pB b2 0) hS1 hf1 (fun b => by kernel_rfl) fun b2 ww2 a2 hS2 hf2 => ⟨fun _ => trivial, ?_⟩
 refine p_qt [] [(0, .slice o_x0 x0.length c_x0), (1, .slice o_x1 x1.length c_x1), (6, pB b1 0), (7, pB b2 0)] [] hf2 (by kernel_rfl) .nil fun a3 hf3 => ?_
 refine w_sr (by kernel_rfl) ?_
 refine p_box (i := 0) (d := (some 11)) (cs := [vI 0]) (T := 3) (v := fun b3 => pB b3 0) hS2 hf3 (fun b => by kernel_rfl) fun b3 ww3 a4 hS3 hf4 => ⟨fun _ => trivial, ?_⟩
 refine p_store_eq (i := 1) (j := 0) (b := b3) (off := 0) (vs := [vI (-1)]) (cs' := [vI (-1)]) hS3 hf4 rfl (by kernel_rfl) (by kernel_rfl) rfl fun ww4 a5 hS4 hf5 => ⟨fun _ => trivial, ?_⟩
 refine p_dt (by kernel_rfl) ?_
 refine w_sr (by kernel_rfl) ?_
 refine p_qn 3 [] [(0, .slice o_x0 x0.length c_x0), (6, pB b1 0), (7, pB b2 0), (11, pB b3 0), (16, .slice o_x0 x0.length c_x0), (17, .slice o_x1 x1.length c_x1), (18, .func (.func 101) #[] #[pB b3 0, pB b1 0, pB b2 0])] [] hf5 (by kernel_rfl) .nil fun a6 hf6 => ?_
 refine p_call (i := 3) (d := some 19) (f := 96) (args := #[.slice o_x0 x0.length c_x0, .slice o_x1 x1.length c_x1, .func (.func 101) #[] #[pB b3 0, pB b1 0, pB b2 0]]) hf6 (by kernel_rfl) (Φ := fun v w => ∃ z1 : Zone, ∃ y1 : Int, ∃ y5 : Option Pl, ∃ y6 : Int, ∃ y7 : Int, ∃ p4 : Option Addr, Zone.le h z1 ∧ v = .tuple #[.pointer p4, vI y6, vI y7] ∧ St z1 (plO 126 40 117 p4 y5 :: box b3 [vI y1] 3 :: box b2 [vI x3] 3 :: box b1 [vI x2] 3 :: L) w ∧ (F40_j1 fuel x0 x2 x3 y1 y5 y6 y7) = some r) ?_ ?_
 ·refine calls_intro (N := 50) Try.func96 (by kernel_rfl) fun a7 hf7 => ?_
  refine w_sq [] [(0, .slice o_x0 x0.length c_x0), (1, .slice o_x1 x1.length c_x1), (2, .func (.func 101) #[] #[pB b3 0, pB b1 0, pB b2 0])] [] hf7 (by kernel_rfl) .nil fun a8 hf8 => ?_
  refine w_seq (by kernel_rfl) ?_
  refine w_sr (by kernel_rfl) ?_
  refine p_qn 2 [] [(0, .slice o_x0 x0.length c_x0), (1, .slice o_x1 x1.length c_x1), (2, .func (.func 101) #[] #[pB b3 0, pB b1 0, pB b2 0]), (15, .slice o_x0 x0.length c_x0), (16, .slice o_x1 x1.length c_x1)] [] hf8 (by kernel_rfl) .nil fun a9 hf9 => ?_
  obtain ⟨r3, hd1, hr1⟩ := bind_some hr
  refine p_call (i := 2) (d := some 17) (f := 110) (args := #[.slice o_x0 x0.length c_x0, .slice o_x1 x1.length c_x1]) hf9 (by kernel_rfl) (f110_ok fuel x0 x1 r3 hd1 h _ _ hS4 o_x0 c_x0 hx_x0 o_x1 c_x1 hx_x1) ?_
  rintro v1 ww5 a10 ⟨z2, k4, rfl, hS5⟩ hf10
  refine ⟨fun _ => trivial, ?_⟩
  refine p_qt [] [(0, .slice o_x0 x0.length c_x0), (1, .slice o_x1 x1.length c_x1), (2, .func (.func 101) #[] #[pB b3 0, pB b1 0, pB b2 0]), (9, vI r3)] [] hf10 (by kernel_rfl) .nil fun a11 hf11 => ?_
  refine w_sq [] [(0, .slice o_x0 x0.length c_x0), (1, .slice o_x1 x1.length c_x1), (2, .func (.func 101) #[] #[pB b3 0, pB b1 0, pB b2 0]), (9, vI r3), (19, .bool (r3 != (0 : Int)))] [] hf11 (by kernel_rfl) .nil fun a12 hf12 => ?_
  refine w_if hf12 (b := (r3 != (0 : Int))) (by kernel_rfl) (fun hb1 => ?_) (fun hb1 => ?_)
  ·have hr2 := cond_t hb1 hr1
   refine w_sq [] [(6, .pointer none), (7, vI 0), (8, vI r3)] [] hf12 (by kernel_rfl) .nil fun a13 hf13 => ?_
   refine w_ret (by kernel_rfl) ?_
   refine r_then ?_
   refine p_ret (os := []) (v := .tuple #[.pointer none, vI 0, vI r3]) (obs := []) hf13 (by kernel_rfl) .nil ?_
   have hS6 := hS5.plNone 126 40 117
   exact ⟨_, rfl, z2, -1, none, 0, r3, none, k4, rfl, (St.pick 1 [0] hS6 (by kernel_rfl)), hr2⟩
  ·have hr3 := cond_f hb1 hr1
   refine w_skip (by kernel_rfl) ?_
   refine n_then ?_
   refine w_sr (by kernel_rfl) ?_
   refine p_qn 2 [] [(1, .slice o_x1 x1.length c_x1), (2, .func (.func 101) #[] #[pB b3 0, pB b1 0, pB b2 0]), (22, .agg #[.slice o_x0 x0.length c_x0, .slice none 0 0, .slice none 0 0, .slice none 0 0, .slice none 0 0, .slice none 0 0, .slice none 0 0, .slice none 0 0, .slice none 0 0, .slice none 0 0])] [] hf12 (by kernel_rfl) .nil fun a14 hf14 => ?_
   obtain ⟨r4, hd2, hr4⟩ := bind_some hr3
   refine p_call (i := 2) (d := some 23) (f := 81) (args := #[.agg #[.slice o_x0 x0.length c_x0, .slice none 0 0, .slice none 0 0, .slice none 0 0, .slice none 0 0, .slice none 0 0, .slice none 0 0, .slice none 0 0, .slice none 0 0, .slice none 0 0]]) hf14 (by kernel_rfl) (f81_ok fuel x0 ([[], [], [], [], [], [], [], [], []]) r4 hd2 z2 _ _ hS5 o_x0 c_x0 (SliceR.mono k4 hx_x0) (.slice none 0 0) (.slice none 0 0) (.slice none 0 0) (.slice none 0 0) (.slice none 0 0) (.slice none 0 0) (.slice none 0 0) (.slice none 0 0) (.slice none 0 0) ⟨rfl, (Rows.cons (c := [_]) (sliceRep (SliceR.nil' _ _)) (Rows.cons (c := [_]) (sliceRep (SliceR.nil' _ _)) (Rows.cons (c := [_]) (sliceRep (SliceR.nil' _ _)) (Rows.cons (c := [_]) (sliceRep (SliceR.nil' _ _)) (Rows.cons (c := [_]) (sliceRep (SliceR.nil' _ _)) (Rows.cons (c := [_]) (sliceRep (SliceR.nil' _ _)) (Rows.cons (c := [_]) (sliceRep (SliceR.nil' _ _)) (Rows.cons (c := [_]) (sliceRep (SliceR.nil' _ _)) (Rows.cons (c := [_]) (sliceRep (SliceR.nil' _ _)) rfl)))))))))⟩) ?_
   rintro v2 ww6 a15 ⟨z3, b4, k5, rfl, hS7⟩ hf15
   refine ⟨fun _ => trivial, ?_⟩
   refine p_qt [] [(1, .slice o_x1 x1.length c_x1), (2, .func (.func 101) #[] #[pB b3 0, pB b1 0, pB b2 0]), (10, pB b4 0)] [] hf15 (by kernel_rfl) .nil fun a16 hf16 => ?_
   refine w_seq (by kernel_rfl) ?_
   refine w_sq [] [(1, .slice o_x1 x1.length c_x1), (2, .func (.func 101) #[] #[pB b3 0, pB b1 0, pB b2 0]), (10, pB b4 0), (24, .slice o_x1 x1.length c_x1), (25, vI (x1.length : Int)), (26, vI 0)] [] hf16 (by kernel_rfl) .nil fun a17 hf17 => ?_
   refine w_block (id := 0) (by kernel_rfl) ?_
   have hf18 := Fr.keep (ks := [1, 2, 10, 24, 25, 26]) (r := [(1, .slice o_x1 x1.length c_x1), (2, .func (.func 101) #[] #[pB b3 0, pB b1 0, pB b2 0]), (10, pB b4 0), (24, .slice o_x1 x1.length c_x1), (25, vI (x1.length : Int)), (26, vI 0)]) hf17 (by kernel_rfl)
   refine w_loop (by kernel_rfl) (fun n a w => ∃ z4 : Zone, ∃ y16 : Pl, ∃ y17 : Int, ∃ y10 : Int, Zone.le z3 z4 ∧ Fr a 50 [(1, .slice o_x1 x1.length c_x1), (2, .func (.func 101) #[] #[pB b3 0, pB b1 0, pB b2 0]), (10, pB b4 0), (24, .slice o_x1 x1.length c_x1), (25, vI (x1.length : Int)), (26, vI y10)] ∧ St z4 (plA 126 40 117 b4 y16 :: box b3 [vI y17] 3 :: box b2 [vI x3] 3 :: box b1 [vI x2] 3 :: L) w ∧ (F40_l1 fuel x0 x1 x2 x3 n y16 y17 y10) = some r) fuel ⟨z3, r4, -1, 0, (Zone.le_refl _), hf18, hS7, hr4⟩ ?_
   rintro n4 a18 ww7 ⟨z4, y16, y17, y10, k6, hf19, hS8, hr5⟩
   cases n4 with
   | zero => cases hr5
   | succ n3 =>
   refine w_sq [] [(1, .slice o_x1 x1.length c_x1), (2, .func (.func 101) #[] #[pB b3 0, pB b1 0, pB b2 0]), (10, pB b4 0), (24, .slice o_x1 x1.length c_x1), (25, vI (x1.length : Int)), (26, vI y10), (27, .bool (decide (y10 < (x1.length : Int))))] [] hf19 (by kernel_rfl) .nil fun a19 hf20 => ?_
   refine w_seq (by kernel_rfl) ?_
   refine w_if hf20 (b := (decide (y10 < (x1.length : Int)))) (by kernel_rfl) (fun hb2 => ?_) (fun hb2 => ?_)
   ·have hr6 := cond_t hb2 hr5
    refine w_skip (by kernel_rfl) ?_
    refine n_then ?_
    refine w_seq (by kernel_rfl) ?_
    refine w_block (id := 1) (by kernel_rfl) ?_
    refine w_sr (by kernel_rfl) ?_
    obtain ⟨p3, hp10835348, hr7⟩ := bind_some hr6
    obtain ⟨ad1, ho1, hb3, cc1, hc1, hk1⟩ := SliceR.getI (SliceR.mono (Zone.le_trans (Zone.le_trans k4 k5) k6) hx_x1) hp10835348
    subst hc1
    refine p_qn 3 [.pointer (some ad1), vI p3.kind, vI p3.lot, vI p3.frm, vI p3.to, vI p3.mass] [(1, .slice o_x1 x1.length c_x1), (2, .func (.func 101) #[] #[pB b3 0, pB b1 0, pB b2 0]), (10, pB b4 0), (24, .slice o_x1 x1.length c_x1), (25, vI (x1.length : Int)), (26, vI y10), (28, vI y10), (30, .agg #[vI p3.kind, vI p3.lot, vI p3.frm, vI p3.to, vI p3.mass])] [.prop (o_x1 = some ad1), .prop (0 ≤ y10 ∧ y10 < (x1.length : Nat)), .cell ((ad1.add (Int.toNat y10 * 5)).add 0) (vI p3.kind), .cell ((ad1.add (Int.toNat y10 * 5)).add 1) (vI p3.lot), .cell ((ad1.add (Int.toNat y10 * 5)).add 2) (vI p3.frm), .cell ((ad1.add (Int.toNat y10 * 5)).add 3) (vI p3.to), .cell ((ad1.add (Int.toNat y10 * 5)).add 4) (vI p3.mass)] hf20 (by kernel_rfl) (.prop ho1 (.prop hb3 (.cell (hS8.cell (hk1 0 _ rfl)) (.cell (hS8.cell (hk1 1 _ rfl)) (.cell (hS8.cell (hk1 2 _ rfl)) (.cell (hS8.cell (hk1 3 _ rfl)) (.cell (hS8.cell (hk1 4 _ rfl)) .nil))))))) fun a20 hf21 => ?_
    refine p_box (i := 3) (d := (some 12)) (cs := [vI 0, vI 0, vI 0, vI 0, vI 0]) (T := 28) (v := fun b5 => pB b5 0) hS8 hf21 (fun b => by kernel_rfl) fun b5 ww8 a21 hS9 hf22 => ⟨fun _ => trivial, ?_⟩
    refine p_qn 1 [] [(1, .slice o_x1 x1.length c_x1), (2, .func (.func 101) #[] #[pB b3 0, pB b1 0, pB b2 0]), (10, pB b4 0), (11, vI y10), (12, pB b5 0), (24, .slice o_x1 x1.length c_x1), (25, vI (x1.length : Int)), (26, vI y10), (30, .agg #[vI p3.kind, vI p3.lot, vI p3.frm, vI p3.to, vI p3.mass])] [] hf22 (by kernel_rfl) .nil fun a22 hf23 => ?_
    refine p_store_eq (i := 5) (j := 0) (b := b5) (off := 0) (vs := [vI p3.kind, vI p3.lot, vI p3.frm, vI p3.to, vI p3.mass]) (cs' := [vI p3.kind, vI p3.lot, vI p3.frm, vI p3.to, vI p3.mass]) hS9 hf23 rfl (by kernel_rfl) (by kernel_rfl) rfl fun ww9 a23 hS10 hf24 => ⟨fun _ => trivial, ?_⟩
    refine p_dt (by kernel_rfl) ?_
    refine w_sr (by kernel_rfl) ?_
    refine p_qn 2 [vI p3.kind, vI p3.lot, vI p3.frm, vI p3.to, vI p3.mass] [(1, .slice o_x1 x1.length c_x1), (2, .func (.func 101) #[] #[pB b3 0, pB b1 0, pB b2 0]), (10, pB b4 0), (11, vI y10), (24, .slice o_x1 x1.length c_x1), (25, vI (x1.length : Int)), (26, vI y10), (32, pB b4 0), (33, .agg #[vI p3.kind, vI p3.lot, vI p3.frm, vI p3.to, vI p3.mass])] [.cell ⟨b5, 0, none⟩ (vI p3.kind), .cell ⟨b5, 1, none⟩ (vI p3.lot), .cell ⟨b5, 2, none⟩ (vI p3.frm), .cell ⟨b5, 3, none⟩ (vI p3.to), .cell ⟨b5, 4, none⟩ (vI p3.mass)] hf24 (by kernel_rfl) (.cell (hS10.box (i := 0) rfl (j := 0) rfl) (.cell (hS10.box (i := 0) rfl (j := 1) rfl) (.cell (hS10.box (i := 0) rfl (j := 2) rfl) (.cell (hS10.box (i := 0) rfl (j := 3) rfl) (.cell (hS10.box (i := 0) rfl (j := 4) rfl) .nil))))) fun a24 hf25 => ?_
    have hS11 := St.swapTo (i := 2) (j := 0) (St.addEmp hS10) rfl rfl (by decide)
    have hS12 : St z4 (plA 126 40 117 b4 y16 :: box b5 [vI p3.kind, vI p3.lot, vI p3.frm, vI p3.to, vI p3.mass] 28 :: emp :: box b3 [vI y17] 3 :: box b2 [vI x3] 3 :: box b1 [vI x2] 3 :: L) _ := hS11
    obtain ⟨r2, hd3, hr8⟩ := bind_some hr7
    refine p_call (i := 2) (d := some 34) (f := 82) (args := #[pB b4 0, .agg #[vI p3.kind, vI p3.lot, vI p3.frm, vI p3.to, vI p3.mass]]) hf25 (by kernel_rfl) (f82_ok fuel y16 p3.kind p3.lot p3.frm p3.to p3.mass r2 hd3 z4 _ _ b4 hS12 ) ?_
    rintro v3 ww10 a25 ⟨z5, e1, q1, e2, k7, rfl, hS13, hx1, hx2⟩ hf26
    have hS14 := St.swapTo (i := 0) (j := 2) hS13 rfl rfl (by decide)
    have hS15 : St z5 (emp :: box b5 [vI p3.kind, vI p3.lot, vI p3.frm, vI p3.to, vI p3.mass] 28 :: plA 126 40 117 b4 r2.2.2.2 :: box b3 [vI y17] 3 :: box b2 [vI x3] 3 :: box b1 [vI x2] 3 :: L) _ := hS14
    refine ⟨fun _ => trivial, ?_⟩
    refine p_qn 3 [] [(1, .slice o_x1 x1.length c_x1), (2, .func (.func 101) #[] #[pB b3 0, pB b1 0, pB b2 0]), (10, pB b4 0), (11, vI y10), (24, .slice o_x1 x1.length c_x1), (25, vI (x1.length : Int)), (26, vI y10), (35, .agg #[.slice e1 r2.1.length q1, .map e2]), (36, vI r2.2.2.1)] [] hf26 (by kernel_rfl) .nil fun a26 hf27 => ?_
    refine p_box (i := 6) (d := (some 13)) (cs := [.slice none 0 0, .map none]) (T := 119) (v := fun b6 => pB b6 0) hS15 hf27 (fun b => by kernel_rfl) fun b6 ww11 a27 hS16 hf28 => ⟨fun _ => trivial, ?_⟩
    refine p_store_eq (i := 7) (j := 0) (b := b6) (off := 0) (vs := [.slice e1 r2.1.length q1, .map e2]) (cs' := [.slice e1 r2.1.length q1, .map e2]) hS16 hf28 rfl (by kernel_rfl) (by kernel_rfl) rfl fun ww12 a28 hS17 hf29 => ⟨fun _ => trivial, ?_⟩
    refine p_qt [] [(1, .slice o_x1 x1.length c_x1), (2, .func (.func 101) #[] #[pB b3 0, pB b1 0, pB b2 0]), (10, pB b4 0), (11, vI y10), (13, pB b6 0), (14, vI r2.2.2.1), (24, .slice o_x1 x1.length c_x1), (25, vI (x1.length : Int)), (26, vI y10)] [] hf29 (by kernel_rfl) .nil fun a29 hf30 => ?_
    refine w_seq (by kernel_rfl) ?_
    refine w_sq [] [(1, .slice o_x1 x1.length c_x1), (2, .func (.func 101) #[] #[pB b3 0, pB b1 0, pB b2 0]), (10, pB b4 0), (11, vI y10), (13, pB b6 0), (14, vI r2.2.2.1), (24, .slice o_x1 x1.length c_x1), (25, vI (x1.length : Int)), (26, vI y10), (38, .bool (r2.2.2.1 != (0 : Int)))] [] hf30 (by kernel_rfl) .nil fun a30 hf31 => ?_
    refine w_if hf31 (b := (r2.2.2.1 != (0 : Int))) (by kernel_rfl) (fun hb4 => ?_) (fun hb4 => ?_)
    ·have hr9 := cond_t hb4 hr8
     refine w_sq [] [(6, .pointer none), (7, vI y10), (8, vI r2.2.2.1)] [] hf31 (by kernel_rfl) .nil fun a31 hf32 => ?_
     refine w_ret (by kernel_rfl) ?_
     refine r_then ?_
     refine r_block ?_
     refine r_then ?_
     refine r_then ?_
     refine r_block ?_
     refine r_then ?_
     refine p_ret (os := []) (v := .tuple #[.pointer none, vI y10, vI r2.2.2.1]) (obs := []) hf32 (by kernel_rfl) .nil ?_
     have hS18 := hS17.plNone 126 40 117
     exact ⟨_, rfl, z5, y17, none, y10, r2.2.2.1, none, (Zone.le_trans (Zone.le_trans (Zone.le_trans k4 k5) k6) k7), rfl, (St.pick 5 [0] hS18 (by kernel_rfl)), hr9⟩
    ·have hr10 := cond_f hb4 hr8
     refine w_skip (by kernel_rfl) ?_
     refine n_then ?_
     refine w_reg (by kernel_rfl) ?_
     refine p_qn 4 [.slice e1 r2.1.length q1, .map e2] [(1, .slice o_x1 x1.length c_x1), (2, .func (.func 101) #[] #[pB b3 0, pB b1 0, pB b2 0]), (10, pB b4 0), (24, .slice o_x1 x1.length c_x1), (25, vI (x1.length : Int)), (26, vI y10), (41, .func (.func 101) #[] #[pB b3 0, pB b1 0, pB b2 0]), (42, vI y10), (43, .agg #[.slice e1 r2.1.length q1, .map e2]), (44, pB b4 0)] [.cell ⟨b6, 0, none⟩ (.slice e1 r2.1.length q1), .cell ⟨b6, 1, none⟩ (.map e2)] hf31 (by kernel_rfl) (.cell (hS17.box (i := 0) rfl (j := 0) rfl) (.cell (hS17.box (i := 0) rfl (j := 1) rfl) .nil)) fun a32 hf33 => ?_
     refine p_inl (i := 4) (d := some 45) (f := 101) (args := #[vI y10, .agg #[.slice e1 r2.1.length q1, .map e2], pB b4 0, pB b3 0, pB b1 0, pB b2 0]) (N' := 27) hf33 (by kernel_rfl) Try.func101 (by kernel_rfl) fun a33 hf34 => ?_
     refine w_sr (by kernel_rfl) ?_
     refine p_box (i := 0) (d := (some 7)) (cs := [.slice e1 r2.1.length q1, .map e2]) (T := 119) (v := fun b7 => pB b7 0) hS17 hf34 (fun b => by kernel_rfl) fun b7 ww13 a34 hS19 hf35 => ⟨fun _ => trivial, ?_⟩
     refine p_dt (by kernel_rfl) ?_
     obtain ⟨e3, q2, v4, v5, v6, v7, v8, v9, v10, v11, v12, v13, v14, v15, v16, v17, v18, v19, v20, v21, hx3, hS20⟩ := hS19.plOpen (i := 4) rfl
     refine w_sq [v13, v14, v15, v16, v17, v18, v19, v20, v21] [(0, vI y10), (3, pB b3 0), (4, pB b1 0), (5, pB b2 0), (14, .agg #[v13, v14, v15, v16, v17, v18, v19, v20, v21]), (15, vI 0)] [.cell ⟨b4, 10, none⟩ (v13), .cell ⟨b4, 11, none⟩ (v14), .cell ⟨b4, 12, none⟩ (v15), .cell ⟨b4, 13, none⟩ (v16), .cell ⟨b4, 14, none⟩ (v17), .cell ⟨b4, 15, none⟩ (v18), .cell ⟨b4, 16, none⟩ (v19), .cell ⟨b4, 17, none⟩ (v20), .cell ⟨b4, 18, none⟩ (v21)] hf35 (by kernel_rfl) (.cell (hS20.box (i := 6) rfl (j := 10) rfl) (.cell (hS20.box (i := 6) rfl (j := 11) rfl) (.cell (hS20.box (i := 6) rfl (j := 12) rfl) (.cell (hS20.box (i := 6) rfl (j := 13) rfl) (.cell (hS20.box (i := 6) rfl (j := 14) rfl) (.cell (hS20.box (i := 6) rfl (j := 15) rfl) (.cell (hS20.box (i := 6) rfl (j := 16) rfl) (.cell (hS20.box (i := 6) rfl (j := 17) rfl) (.cell (hS20.box (i := 6) rfl (j := 18) rfl) .nil))))))))) fun a35 hf36 => ?_
     refine w_block (id := 0) (by kernel_rfl) ?_
     have hf37 := Fr.keep (ks := [0, 3, 4, 5, 14, 15]) (r := [(0, vI y10), (3, pB b3 0), (4, pB b1 0), (5, pB b2 0), (14, .agg #[v13, v14, v15, v16, v17, v18, v19, v20, v21]), (15, vI 0)]) hf36 (by kernel_rfl)
     refine w_loop (by kernel_rfl) (fun n a w => ∃ z6 : Zone, ∃ y11 : Int, ∃ y8 : Int, Zone.le z5 z6 ∧ Fr a 27 [(0, vI y10), (3, pB b3 0), (4, pB b1 0), (5, pB b2 0), (14, .agg #[v13, v14, v15, v16, v17, v18, v19, v20, v21]), (15, vI y8)] ∧ St z6 (ownA (Ty.slice PartT) 40 [v4, v5, v6, v7, v8, v9, v10, v11, v12] r2.2.2.2.holds :: ownA (Ty.map Value.bool) 117 [v13, v14, v15, v16, v17, v18, v19, v20, v21] r2.2.2.2.may :: box b7 [.slice e1 r2.1.length q1, .map e2] 119 :: box b6 [.slice e1 r2.1.length q1, .map e2] 119 :: emp :: box b5 [vI p3.kind, vI p3.lot, vI p3.frm, vI p3.to, vI p3.mass] 28 :: box b4 [.slice e3 r2.2.2.2.lots.length q2, v4, v5, v6, v7, v8, v9, v10, v11, v12, v13, v14, v15, v16, v17, v18, v19, v20, v21] 126 :: box b3 [vI y11] 3 :: box b2 [vI x3] 3 :: box b1 [vI x2] 3 :: L) w ∧ (F40_l2 fuel (F40_l1 fuel x0 x1 x2 x3 n3) x2 x3 y10 r2 n y11 y8) = some r) fuel ⟨z5, y17, 0, (Zone.le_refl _), hf37, hS20, hr10⟩ ?_
     rintro n5 a36 ww14 ⟨z6, y11, y8, k8, hf38, hS21, hr11⟩
     cases n5 with
     | zero => cases hr11
     | succ n2 =>
     refine w_sq [] [(0, vI y10), (3, pB b3 0), (4, pB b1 0), (5, pB b2 0), (14, .agg #[v13, v14, v15, v16, v17, v18, v19, v20, v21]), (15, vI y8), (16, .bool (decide (y8 < (9 : Int))))] [] hf38 (by kernel_rfl) .nil fun a37 hf39 => ?_
     refine w_seq (by kernel_rfl) ?_
     refine w_if hf39 (b := (decide (y8 < (9 : Int)))) (by kernel_rfl) (fun hb5 => ?_) (fun hb5 => ?_)
     ·have hr12 := cond_t hb5 hr11
      refine w_skip (by kernel_rfl) ?_
      refine n_then ?_
      refine w_mid (by kernel_rfl) (fun a w => ∃ z7 : Zone, ∃ y9 : Int, Zone.le z6 z7 ∧ Fr a 27 [(0, vI y10), (3, pB b3 0), (4, pB b1 0), (5, pB b2 0), (14, .agg #[v13, v14, v15, v16, v17, v18, v19, v20, v21]), (15, vI y8)] ∧ St z7 (ownA (Ty.slice PartT) 40 [v4, v5, v6, v7, v8, v9, v10, v11, v12] r2.2.2.2.holds :: ownA (Ty.map Value.bool) 117 [v13, v14, v15, v16, v17, v18, v19, v20, v21] r2.2.2.2.may :: box b7 [.slice e1 r2.1.length q1, .map e2] 119 :: box b6 [.slice e1 r2.1.length q1, .map e2] 119 :: emp :: box b5 [vI p3.kind, vI p3.lot, vI p3.frm, vI p3.to, vI p3.mass] 28 :: box b4 [.slice e3 r2.2.2.2.lots.length q2, v4, v5, v6, v7, v8, v9, v10, v11, v12, v13, v14, v15, v16, v17, v18, v19, v20, v21] 126 :: box b3 [vI y9] 3 :: box b2 [vI x3] 3 :: box b1 [vI x2] 3 :: L) w ∧ (F40_j2 (F40_l2 fuel (F40_l1 fuel x0 x1 x2 x3 n3) x2 x3 y10 r2 n2) y8 y9) = some r) ?_ ?_
      ·skip
       refine w_block (id := 1) (by kernel_rfl) ?_
       obtain ⟨p1, hp11184956, hr13⟩ := bind_some hr12
       obtain ⟨e4, q3, hv1, hb6, hS22⟩ := hS21.ownOpen (j := 1) rfl hp11184956
       have hk2 := arrIdx hv1
       refine w_sq [.slice e4 p1.length q3] [(0, vI y10), (3, pB b3 0), (4, pB b1 0), (5, pB b2 0), (10, .slice e4 p1.length q3), (14, .agg #[v13, v14, v15, v16, v17, v18, v19, v20, v21]), (15, vI y8)] [.prop (0 ≤ y8 ∧ y8 < (9 : Nat)), .prop ((#[v13, v14, v15, v16, v17, v18, v19, v20, v21] : Array Value)[Int.toNat y8 * 1]? = some (.slice e4 p1.length q3))] hf39 (by kernel_rfl) (.prop hb6 (.prop hk2 .nil)) fun a38 hf40 => ?_
       refine w_mid (by kernel_rfl) (fun a w => ∃ z8 : Zone, ∃ y12 : Bool, Zone.le z6 z8 ∧ Fr a 27 [(0, vI y10), (3, pB b3 0), (4, pB b1 0), (5, pB b2 0), (14, .agg #[v13, v14, v15, v16, v17, v18, v19, v20, v21]), (15, vI y8), (24, .bool y12)] ∧ St z8 (emp :: ownA (Ty.slice PartT) 40 [v4, v5, v6, v7, v8, v9, v10, v11, v12] r2.2.2.2.holds :: ownA (Ty.map Value.bool) 117 [v13, v14, v15, v16, v17, v18, v19, v20, v21] r2.2.2.2.may :: box b7 [.slice e1 r2.1.length q1, .map e2] 119 :: box b6 [.slice e1 r2.1.length q1, .map e2] 119 :: emp :: box b5 [vI p3.kind, vI p3.lot, vI p3.frm, vI p3.to, vI p3.mass] 28 :: box b4 [.slice e3 r2.2.2.2.lots.length q2, v4, v5, v6, v7, v8, v9, v10, v11, v12, v13, v14, v15, v16, v17, v18, v19, v20, v21] 126 :: box b3 [vI y11] 3 :: box b2 [vI x3] 3 :: box b1 [vI x2] 3 :: L) w ∧ (F40_j3 (F40_l2 fuel (F40_l1 fuel x0 x1 x2 x3 n3) x2 x3 y10 r2 n2) y10 y11 y8 y12) = some r) ?_ ?_
       ·skip
        refine w_reg (by kernel_rfl) ?_
        refine p_qn 3 [vI y11] [(0, vI y10), (3, pB b3 0), (4, pB b1 0), (5, pB b2 0), (10, .slice e4 p1.length q3), (14, .agg #[v13, v14, v15, v16, v17, v18, v19, v20, v21]), (15, vI y8), (20, .bool (decide (y11 < (0 : Int))))] [.cell ⟨b3, 0, none⟩ (vI y11)] hf40 (by kernel_rfl) (.cell (hS22.box (i := 8) rfl (j := 0) rfl) .nil) fun a39 hf41 => ?_
        rcases Bool.eq_false_or_eq_true (decide (y11 < (0 : Int))) with hb7 | hb7
        ·have hr14 := cond_t hb7 hr13
         have hf42 := Fr.conv hf41 (congrArg (fun z => ([(0, vI y10), (3, pB b3 0), (4, pB b1 0), (5, pB b2 0), (10, .slice e4 p1.length q3), (14, .agg #[v13, v14, v15, v16, v17, v18, v19, v20, v21]), (15, vI y8), (20, .bool z)] : FL)) hb7)
         refine p_qn 2 [] [(0, vI y10), (3, pB b3 0), (4, pB b1 0), (5, pB b2 0), (14, .agg #[v13, v14, v15, v16, v17, v18, v19, v20, v21]), (15, vI y8), (20, .bool true), (21, .slice e4 p1.length q3), (22, .func (.func 102) #[] #[pB b1 0, pB b2 0])] [] hf42 (by kernel_rfl) .nil fun a40 hf43 => ?_
         refine p_inl (i := 5) (d := some 23) (f := 99) (args := #[.slice e4 p1.length q3, .func (.func 102) #[] #[pB b1 0, pB b2 0]]) (N' := 9) hf43 (by kernel_rfl) Try.func99 (by kernel_rfl) fun a41 hf44 => ?_
         refine w_sq [] [(0, .slice e4 p1.length q3), (1, .func (.func 102) #[] #[pB b1 0, pB b2 0])] [] hf44 (by kernel_rfl) .nil fun a42 hf45 => ?_
         refine w_sr (by kernel_rfl) ?_
         refine p_qn 2 [] [(5, .slice e4 p1.length q3), (6, .func (.func 102) #[] #[pB b1 0, pB b2 0])] [] hf45 (by kernel_rfl) .nil fun a43 hf46 => ?_
         refine p_call (i := 2) (d := some 7) (f := 129) (args := #[.slice e4 p1.length q3, .func (.func 102) #[] #[pB b1 0, pB b2 0]]) hf46 (by kernel_rfl) (Φ := fun v w => ∃ z9 : Zone, ∃ y13 : Int, Zone.le z6 z9 ∧ v = vI y13 ∧ St z9 (ownS (Ty.map Value.bool) 117 e4 q3 p1 :: ownA (Ty.slice PartT) 40 [v4, v5, v6, v7, v8, v9, v10, v11, v12] r2.2.2.2.holds :: ownH (Ty.map Value.bool) 117 [v13, v14, v15, v16, v17, v18, v19, v20, v21] r2.2.2.2.may (Int.toNat y8) :: box b7 [.slice e1 r2.1.length q1, .map e2] 119 :: box b6 [.slice e1 r2.1.length q1, .map e2] 119 :: emp :: box b5 [vI p3.kind, vI p3.lot, vI p3.frm, vI p3.to, vI p3.mass] 28 :: box b4 [.slice e3 r2.2.2.2.lots.length q2, v4, v5, v6, v7, v8, v9, v10, v11, v12, v13, v14, v15, v16, v17, v18, v19, v20, v21] 126 :: box b3 [vI y11] 3 :: box b2 [vI x3] 3 :: box b1 [vI x2] 3 :: L) w ∧ (F40_j4 (F40_l2 fuel (F40_l1 fuel x0 x1 x2 x3 n3) x2 x3 y10 r2 n2) y10 y11 y8 y13) = some r) ?_ ?_
         ·refine calls_intro (N := 19) Try.func129 (by kernel_rfl) fun a44 hf47 => ?_
          refine w_sq [] [(0, .slice e4 p1.length q3), (1, .func (.func 102) #[] #[pB b1 0, pB b2 0])] [] hf47 (by kernel_rfl) .nil fun a45 hf48 => ?_
          refine w_seq (by kernel_rfl) ?_
          refine w_sq [] [(0, .slice e4 p1.length q3), (1, .func (.func 102) #[] #[pB b1 0, pB b2 0]), (7, vI (p1.length : Int)), (8, vI 0)] [] hf48 (by kernel_rfl) .nil fun a46 hf49 => ?_
          refine w_block (id := 0) (by kernel_rfl) ?_
          have hf50 := Fr.keep (ks := [0, 1, 7, 8]) (r := [(0, .slice e4 p1.length q3), (1, .func (.func 102) #[] #[pB b1 0, pB b2 0]), (7, vI (p1.length : Int)), (8, vI 0)]) hf49 (by kernel_rfl)
          refine w_loop (by kernel_rfl) (fun n a w => ∃ z10 : Zone, ∃ y14 : Int, Zone.le z6 z10 ∧ Fr a 19 [(0, .slice e4 p1.length q3), (1, .func (.func 102) #[] #[pB b1 0, pB b2 0]), (7, vI (p1.length : Int)), (8, vI y14)] ∧ St z10 (ownS (Ty.map Value.bool) 117 e4 q3 p1 :: ownA (Ty.slice PartT) 40 [v4, v5, v6, v7, v8, v9, v10, v11, v12] r2.2.2.2.holds :: ownH (Ty.map Value.bool) 117 [v13, v14, v15, v16, v17, v18, v19, v20, v21] r2.2.2.2.may (Int.toNat y8) :: box b7 [.slice e1 r2.1.length q1, .map e2] 119 :: box b6 [.slice e1 r2.1.length q1, .map e2] 119 :: emp :: box b5 [vI p3.kind, vI p3.lot, vI p3.frm, vI p3.to, vI p3.mass] 28 :: box b4 [.slice e3 r2.2.2.2.lots.length q2, v4, v5, v6, v7, v8, v9, v10, v11, v12, v13, v14, v15, v16, v17, v18, v19, v20, v21] 126 :: box b3 [vI y11] 3 :: box b2 [vI x3] 3 :: box b1 [vI x2] 3 :: L) w ∧ (F40_l3 (F40_l2 fuel (F40_l1 fuel x0 x1 x2 x3 n3) x2 x3 y10 r2 n2) x2 x3 y10 y11 y8 p1 n y14) = some r) fuel ⟨z6, 0, (Zone.le_refl _), hf50, hS22, hr14⟩ ?_
          rintro n6 a47 ww15 ⟨z10, y14, k9, hf51, hS23, hr15⟩
          cases n6 with
          | zero => cases hr15
          | succ n1 =>
          refine w_sq [] [(0, .slice e4 p1.length q3), (1, .func (.func 102) #[] #[pB b1 0, pB b2 0]), (7, vI (p1.length : Int)), (8, vI y14), (9, .bool (decide (y14 < (p1.length : Int))))] [] hf51 (by kernel_rfl) .nil fun a48 hf52 => ?_
          refine w_seq (by kernel_rfl) ?_
          refine w_if hf52 (b := (decide (y14 < (p1.length : Int)))) (by kernel_rfl) (fun hb8 => ?_) (fun hb8 => ?_)
          ·have hr16 := cond_t hb8 hr15
           refine w_skip (by kernel_rfl) ?_
           refine n_then ?_
           refine w_seq (by kernel_rfl) ?_
           refine w_block (id := 1) (by kernel_rfl) ?_
           refine w_sq [] [(0, .slice e4 p1.length q3), (1, .func (.func 102) #[] #[pB b1 0, pB b2 0]), (5, vI y14), (7, vI (p1.length : Int)), (8, vI y14)] [] hf52 (by kernel_rfl) .nil fun a49 hf53 => ?_
           refine w_sr (by kernel_rfl) ?_
           obtain ⟨p2, hp11217514, hr17⟩ := bind_some hr16
           obtain ⟨ad2, ho2, hb9, cc2, hc2, hk3⟩ := hS23.ownGet (j := 0) rfl hp11217514
           obtain ⟨e5, rfl, hx4⟩ := hc2
           refine p_qn 5 [.pointer (some ad2), .map e5] [(0, .slice e4 p1.length q3), (1, .func (.func 102) #[] #[pB b1 0, pB b2 0]), (5, vI y14), (7, vI (p1.length : Int)), (8, vI y14), (11, .func (.func 102) #[] #[pB b1 0, pB b2 0]), (15, .map e5)] [.prop (e4 = some ad2), .prop (0 ≤ y14 ∧ y14 < (p1.length : Nat)), .cell ((ad2.add (Int.toNat y14 * 1)).add 0) (.map e5)] hf53 (by kernel_rfl) (.prop ho2 (.prop hb9 (.cell (hk3 0 _ rfl) .nil))) fun a50 hf54 => ?_
           refine p_inl (i := 5) (d := some 16) (f := 102) (args := #[.map e5, pB b1 0, pB b2 0]) (N' := 13) hf54 (by kernel_rfl) Try.func102 (by kernel_rfl) fun a51 hf55 => ?_
           refine w_sq [] [(0, .map e5), (1, pB b1 0), (2, pB b2 0)] [] hf55 (by kernel_rfl) .nil fun a52 hf56 => ?_
           refine w_mid (by kernel_rfl) (fun a w => ∃ z11 : Zone, ∃ y15 : Bool, Zone.le z10 z11 ∧ Fr a 13 [(4, .bool y15)] ∧ St z11 (ownS (Ty.map Value.bool) 117 e4 q3 p1 :: ownA (Ty.slice PartT) 40 [v4, v5, v6, v7, v8, v9, v10, v11, v12] r2.2.2.2.holds :: ownH (Ty.map Value.bool) 117 [v13, v14, v15, v16, v17, v18, v19, v20, v21] r2.2.2.2.may (Int.toNat y8) :: box b7 [.slice e1 r2.1.length q1, .map e2] 119 :: box b6 [.slice e1 r2.1.length q1, .map e2] 119 :: emp :: box b5 [vI p3.kind, vI p3.lot, vI p3.frm, vI p3.to, vI p3.mass] 28 :: box b4 [.slice e3 r2.2.2.2.lots.length q2, v4, v5, v6, v7, v8, v9, v10, v11, v12, v13, v14, v15, v16, v17, v18, v19, v20, v21] 126 :: box b3 [vI y11] 3 :: box b2 [vI x3] 3 :: box b1 [vI x2] 3 :: L) w ∧ (F40_j5 (F40_l2 fuel (F40_l1 fuel x0 x1 x2 x3 n3) x2 x3 y10 r2 n2) (F40_l3 (F40_l2 fuel (F40_l1 fuel x0 x1 x2 x3 n3) x2 x3 y10 r2 n2) x2 x3 y10 y11 y8 p1 n1) y10 y11 y8 y14 y15) = some r) ?_ ?_
           ·skip
            refine w_reg (by kernel_rfl) ?_
            refine p_qn 2 [vI x2] [(0, .map e5), (2, pB b2 0), (5, .map e5), (6, vI x2)] [.cell ⟨b1, 0, none⟩ (vI x2)] hf56 (by kernel_rfl) (.cell (hS23.box (i := 10) rfl (j := 0) rfl) .nil) fun a53 hf57 => ?_
            refine p_lookup (i := 2) (d := (some 7)) (t := 117) (o := e5) (k := x2) (c := false) (z := false) (D := p2) hf57 (by kernel_rfl) mp117 (MapR.look hx4 hS23) fun a54 hf58 => ⟨fun _ => trivial, ?_⟩
            refine p_qn 1 [] [(0, .map e5), (2, pB b2 0), (8, .bool (lkK p2 x2 false))] [] hf58 (by kernel_rfl) .nil fun a55 hf59 => ?_
            rcases Bool.eq_false_or_eq_true (lkK p2 x2 false) with hb10 | hb10
            ·have hr18 := cond_t hb10 hr17
             have hf60 := Fr.conv hf59 (congrArg (fun z => ([(0, .map e5), (2, pB b2 0), (8, .bool z)] : FL)) hb10)
             refine p_qn 2 [vI x3] [(8, .bool true), (9, .map e5), (10, vI x3)] [.cell ⟨b2, 0, none⟩ (vI x3)] hf60 (by kernel_rfl) (.cell (hS23.box (i := 9) rfl (j := 0) rfl) .nil) fun a56 hf61 => ?_
             refine p_lookup (i := 6) (d := (some 11)) (t := 117) (o := e5) (k := x3) (c := false) (z := false) (D := p2) hf61 (by kernel_rfl) mp117 (MapR.look hx4 hS23) fun a57 hf62 => ⟨fun _ => trivial, ?_⟩
             refine p_qt [] [(4, .bool (lkK p2 x3 false))] [] hf62 (by kernel_rfl) .nil fun a58 hf63 => ?_
             have hf64 := Fr.keep (ks := [4]) (r := [(4, .bool (lkK p2 x3 false))]) hf63 (by kernel_rfl)
             exact ⟨z10, (lkK p2 x3 false), (Zone.le_refl _), hf64, hS23, hr18⟩
            ·have hr19 := cond_f hb10 hr17
             have hf65 := Fr.conv hf59 (congrArg (fun z => ([(0, .map e5), (2, pB b2 0), (8, .bool z)] : FL)) hb10)
             refine p_qt [] [(4, .bool false)] [] hf65 (by kernel_rfl) .nil fun a59 hf66 => ?_
             have hf67 := Fr.keep (ks := [4]) (r := [(4, .bool false)]) hf66 (by kernel_rfl)
             exact ⟨z10, false, (Zone.le_refl _), hf67, hS23, hr19⟩
           ·rintro a60 ww16 ⟨z11, y15, k10, hf68, hS24, hr20⟩
            refine w_ret (by kernel_rfl) ?_
            refine p_ret (os := []) (v := .bool y15) (obs := []) hf68 (by kernel_rfl) .nil ?_
            refine ⟨_, rfl, fun a61 hf69 => ?_⟩
            refine ⟨fun _ => trivial, ?_⟩
            refine p_dt (by kernel_rfl) ?_
            refine w_if hf69 (b := y15) (by kernel_rfl) (fun hb11 => ?_) (fun hb11 => ?_)
            ·have hr21 := cond_t hb11 hr20
             refine w_sq [] [(4, vI y14)] [] hf69 (by kernel_rfl) .nil fun a62 hf70 => ?_
             refine w_ret (by kernel_rfl) ?_
             refine r_block ?_
             refine r_then ?_
             refine r_then ?_
             refine r_block ?_
             refine r_then ?_
             refine p_ret (os := []) (v := vI y14) (obs := []) hf70 (by kernel_rfl) .nil ?_
             exact ⟨_, rfl, z11, y14, (Zone.le_trans k9 k10), rfl, hS24, hr21⟩
            ·have hr22 := cond_f hb11 hr20
             refine w_skip (by kernel_rfl) ?_
             refine n_block ?_
             refine n_then ?_
             refine w_q [] [(0, .slice e4 p1.length q3), (1, .func (.func 102) #[] #[pB b1 0, pB b2 0]), (7, vI (p1.length : Int)), (8, vI (w64 (y14 + (1 : Int))))] [] hf69 (by kernel_rfl) .nil fun a63 hf71 => ?_
             refine n_then ?_
             have hf72 := Fr.keep (ks := [0, 1, 7, 8]) (r := [(0, .slice e4 p1.length q3), (1, .func (.func 102) #[] #[pB b1 0, pB b2 0]), (7, vI (p1.length : Int)), (8, vI (w64 (y14 + (1 : Int))))]) hf71 (by kernel_rfl)
             exact ⟨n1, Nat.lt_succ_self n1, z11, (w64 (y14 + (1 : Int))), (Zone.le_trans k9 k10), hf72, hS24, hr22⟩
          ·have hr23 := cond_f hb8 hr15
           refine w_exit (id := 0) (by kernel_rfl) ?_
           refine x_then ?_
           refine x_then ?_
           refine x_block ?_
           refine n_then ?_
           refine w_sq [] [(4, vI (-1))] [] hf52 (by kernel_rfl) .nil fun a64 hf73 => ?_
           refine w_ret (by kernel_rfl) ?_
           refine p_ret (os := []) (v := vI (-1)) (obs := []) hf73 (by kernel_rfl) .nil ?_
           exact ⟨_, rfl, z10, -1, k9, rfl, hS23, hr23⟩
         ·rintro v22 ww17 a65 ⟨z9, y13, k11, rfl, hS25, hr24⟩ hf74
          refine ⟨fun _ => trivial, ?_⟩
          refine p_qt [] [(4, .bool (decide (y13 ≥ (0 : Int))))] [] hf74 (by kernel_rfl) .nil fun a66 hf75 => ?_
          refine w_ret (by kernel_rfl) ?_
          refine p_ret (os := []) (v := .bool (decide (y13 ≥ (0 : Int)))) (obs := []) hf75 (by kernel_rfl) .nil ?_
          refine ⟨_, rfl, fun a67 hf76 => ?_⟩
          refine ⟨fun _ => trivial, ?_⟩
          refine p_qz [] [(0, vI y10), (3, pB b3 0), (4, pB b1 0), (5, pB b2 0), (14, .agg #[v13, v14, v15, v16, v17, v18, v19, v20, v21]), (15, vI y8), (24, .bool (decide (y13 ≥ (0 : Int))))] [] hf76 (by kernel_rfl) .nil fun a68 hf77 => ?_
          have hS26 := hS25.ownClose' (j := 2) (k := 0) rfl rfl (by decide) hv1 (getI_spec hp11184956).2
          refine n_then ?_
          have hf78 := Fr.keep (ks := [0, 3, 4, 5, 14, 15, 24]) (r := [(0, vI y10), (3, pB b3 0), (4, pB b1 0), (5, pB b2 0), (14, .agg #[v13, v14, v15, v16, v17, v18, v19, v20, v21]), (15, vI y8), (24, .bool (decide (y13 ≥ (0 : Int))))]) hf77 (by kernel_rfl)
          exact ⟨z9, (decide (y13 ≥ (0 : Int))), k11, hf78, hS26, hr24⟩
        ·have hr25 := cond_f hb7 hr13
         have hf79 := Fr.conv hf41 (congrArg (fun z => ([(0, vI y10), (3, pB b3 0), (4, pB b1 0), (5, pB b2 0), (10, .slice e4 p1.length q3), (14, .agg #[v13, v14, v15, v16, v17, v18, v19, v20, v21]), (15, vI y8), (20, .bool z)] : FL)) hb7)
         refine p_qz [] [(0, vI y10), (3, pB b3 0), (4, pB b1 0), (5, pB b2 0), (14, .agg #[v13, v14, v15, v16, v17, v18, v19, v20, v21]), (15, vI y8), (24, .bool false)] [] hf79 (by kernel_rfl) .nil fun a69 hf80 => ?_
         have hS27 := hS22.ownClose' (j := 2) (k := 0) rfl rfl (by decide) hv1 (getI_spec hp11184956).2
         refine n_then ?_
         have hf81 := Fr.keep (ks := [0, 3, 4, 5, 14, 15, 24]) (r := [(0, vI y10), (3, pB b3 0), (4, pB b1 0), (5, pB b2 0), (14, .agg #[v13, v14, v15, v16, v17, v18, v19, v20, v21]), (15, vI y8), (24, .bool false)]) hf80 (by kernel_rfl)
         exact ⟨z6, false, (Zone.le_refl _), hf81, hS27, hr25⟩
       ·rintro a70 ww18 ⟨z8, y12, k12, hf82, hS28, hr26⟩
        refine w_if hf82 (b := y12) (by kernel_rfl) (fun hb12 => ?_) (fun hb12 => ?_)
        ·have hr27 := cond_t hb12 hr26
         refine w_reg (by kernel_rfl) ?_
         refine p_qn 1 [] [(0, vI y10), (3, pB b3 0), (4, pB b1 0), (5, pB b2 0), (14, .agg #[v13, v14, v15, v16, v17, v18, v19, v20, v21]), (15, vI y8), (25, vI y10)] [] hf82 (by kernel_rfl) .nil fun a71 hf83 => ?_
         refine p_store_eq (i := 1) (j := 8) (b := b3) (off := 0) (vs := [vI y10]) (cs' := [vI y10]) hS28 hf83 rfl (by kernel_rfl) (by kernel_rfl) rfl fun ww19 a72 hS29 hf84 => ⟨fun _ => trivial, ?_⟩
         refine p_done (by kernel_rfl) ?_
         refine n_block ?_
         refine n_then ?_
         have hf85 := Fr.keep (ks := [0, 3, 4, 5, 14, 15]) (r := [(0, vI y10), (3, pB b3 0), (4, pB b1 0), (5, pB b2 0), (14, .agg #[v13, v14, v15, v16, v17, v18, v19, v20, v21]), (15, vI y8)]) hf84 (by kernel_rfl)
         exact ⟨z8, y10, k12, hf85, (St.drop 1 hS29), hr27⟩
        ·have hr28 := cond_f hb12 hr26
         refine w_skip (by kernel_rfl) ?_
         refine n_block ?_
         refine n_then ?_
         have hf86 := Fr.keep (ks := [0, 3, 4, 5, 14, 15]) (r := [(0, vI y10), (3, pB b3 0), (4, pB b1 0), (5, pB b2 0), (14, .agg #[v13, v14, v15, v16, v17, v18, v19, v20, v21]), (15, vI y8)]) hf82 (by kernel_rfl)
         exact ⟨z8, y11, k12, hf86, (St.drop 1 hS28), hr28⟩
      ·rintro a73 ww20 ⟨z7, y9, k13, hf87, hS30, hr29⟩
       refine w_q [] [(0, vI y10), (3, pB b3 0), (4, pB b1 0), (5, pB b2 0), (14, .agg #[v13, v14, v15, v16, v17, v18, v19, v20, v21]), (15, vI (w64 (y8 + (1 : Int))))] [] hf87 (by kernel_rfl) .nil fun a74 hf88 => ?_
       refine n_then ?_
       have hf89 := Fr.keep (ks := [0, 3, 4, 5, 14, 15]) (r := [(0, vI y10), (3, pB b3 0), (4, pB b1 0), (5, pB b2 0), (14, .agg #[v13, v14, v15, v16, v17, v18, v19, v20, v21]), (15, vI (w64 (y8 + (1 : Int))))]) hf88 (by kernel_rfl)
       exact ⟨n2, Nat.lt_succ_self n2, z7, y9, (w64 (y8 + (1 : Int))), (Zone.le_trans k8 k13), hf89, hS30, hr29⟩
     ·have hr30 := cond_f hb5 hr11
      refine w_exit (id := 0) (by kernel_rfl) ?_
      refine x_then ?_
      refine x_then ?_
      refine x_block ?_
      refine p_fall (os := []) (v := .tuple #[]) (obs := []) hf39 (by kernel_rfl) .nil ?_
      refine ⟨_, rfl, fun a75 hf90 => ?_⟩
      refine ⟨fun _ => trivial, ?_⟩
      refine p_done (by kernel_rfl) ?_
      have hS31 := hS21.plClose (i := 6) (j := 0) (k := 1) rfl (SliceR.mono k8 hx3) rfl rfl (by decide) (by decide) (by decide)
      refine n_block ?_
      refine n_then ?_
      refine w_q [] [(1, .slice o_x1 x1.length c_x1), (2, .func (.func 101) #[] #[pB b3 0, pB b1 0, pB b2 0]), (10, pB b4 0), (24, .slice o_x1 x1.length c_x1), (25, vI (x1.length : Int)), (26, vI (w64 (y10 + (1 : Int))))] [] hf90 (by kernel_rfl) .nil fun a76 hf91 => ?_
      refine n_then ?_
      have hf92 := Fr.keep (ks := [1, 2, 10, 24, 25, 26]) (r := [(1, .slice o_x1 x1.length c_x1), (2, .func (.func 101) #[] #[pB b3 0, pB b1 0, pB b2 0]), (10, pB b4 0), (24, .slice o_x1 x1.length c_x1), (25, vI (x1.length : Int)), (26, vI (w64 (y10 + (1 : Int))))]) hf91 (by kernel_rfl)
      exact ⟨n3, Nat.lt_succ_self n3, z6, r2.2.2.2, y11, (w64 (y10 + (1 : Int))), (Zone.le_trans (Zone.le_trans k6 k7) k8), hf92, (St.drop 6 hS31), hr30⟩
   ·have hr31 := cond_f hb2 hr5
    refine w_exit (id := 0) (by kernel_rfl) ?_
    refine x_then ?_
    refine x_then ?_
    refine x_block ?_
    refine n_then ?_
    refine w_sq [] [(6, pB b4 0), (7, vI (x1.length : Int)), (8, vI 0)] [] hf20 (by kernel_rfl) .nil fun a77 hf93 => ?_
    refine w_ret (by kernel_rfl) ?_
    refine p_ret (os := []) (v := .tuple #[pB b4 0, vI (x1.length : Int), vI 0]) (obs := []) hf93 (by kernel_rfl) .nil ?_
    have hS32 := hS8.plSome (i := 0) rfl
    exact ⟨_, rfl, z4, y17, (some y16), (x1.length : Int), 0, (some ⟨b4, 0, none⟩), (Zone.le_trans (Zone.le_trans k4 k5) k6), rfl, (St.pick 1 [0] hS32 (by kernel_rfl)), hr31⟩
 ·rintro v23 ww21 a78 ⟨z1, y1, y5, y6, y7, p4, k14, rfl, hS33, hr32⟩ hf94
  refine ⟨fun _ => trivial, ?_⟩
  refine p_qt [] [(0, .slice o_x0 x0.length c_x0), (6, pB b1 0), (7, pB b2 0), (11, pB b3 0), (14, vI y7)] [] hf94 (by kernel_rfl) .nil fun a79 hf95 => ?_
  refine w_mid (by kernel_rfl) (fun a w => ∃ z12 : Zone, ∃ y3 : Int, Zone.le z1 z12 ∧ Fr a 43 [(6, pB b1 0), (7, pB b2 0), (11, pB b3 0), (14, vI y3)] ∧ St z12 (plO 126 40 117 p4 y5 :: box b3 [vI y1] 3 :: box b2 [vI x3] 3 :: box b1 [vI x2] 3 :: L) w ∧ (F40_j6 x2 x3 y1 y3) = some r) ?_ ?_
  ·skip
   refine w_sq [] [(0, .slice o_x0 x0.length c_x0), (6, pB b1 0), (7, pB b2 0), (11, pB b3 0), (14, vI y7), (24, .bool (y7 == (0 : Int)))] [] hf95 (by kernel_rfl) .nil fun a80 hf96 => ?_
   refine w_if hf96 (b := (y7 == (0 : Int))) (by kernel_rfl) (fun hb13 => ?_) (fun hb13 => ?_)
   ·have hr33 := cond_t hb13 hr32
    refine w_reg (by kernel_rfl) ?_
    refine p_qn 3 [vI x2, vI x3] [(6, pB b1 0), (7, pB b2 0), (11, pB b3 0), (25, .slice o_x0 x0.length c_x0), (26, vI x2), (27, vI x3)] [.cell ⟨b1, 0, none⟩ (vI x2), .cell ⟨b2, 0, none⟩ (vI x3)] hf96 (by kernel_rfl) (.cell (hS33.box (i := 3) rfl (j := 0) rfl) (.cell (hS33.box (i := 2) rfl (j := 0) rfl) .nil)) fun a81 hf97 => ?_
    refine p_box (i := 3) (d := (some 28)) (cs := [vI x2, vI x3]) (T := 3) (v := fun b8 => .slice (some ⟨b8, 0, none⟩) 2 2) hS33 hf97 (fun b => by kernel_rfl) fun b8 ww22 a82 hS34 hf98 => ⟨fun _ => trivial, ?_⟩
    have hS35 := hS34.ownBox (T := Ty.int) (E := 3) (n := 2) (xs := [x2, x3]) (i := 0) rfl (Rows.cons (c := [vI x2]) rfl (Rows.cons (c := [vI x3]) rfl rfl)) rfl (by decide)
    obtain ⟨z13, k15, hS36, hx5⟩ := hS35.share (j := 0) rfl
    obtain ⟨r1, hd4, hr34⟩ := bind_some hr33
    refine p_call (i := 4) (d := some 29) (f := 98) (args := #[.slice o_x0 x0.length c_x0, .slice (some ⟨b8, 0, none⟩) 2 2]) hf98 (by kernel_rfl) (f98_ok fuel x0 ([x2, x3]) r1 hd4 z13 _ _ hS36 o_x0 c_x0 (SliceR.mono (Zone.le_trans k14 k15) hx_x0) (some ⟨b8, 0, none⟩) 2 hx5) ?_
    rintro v24 ww23 a83 ⟨z14, k16, rfl, hS37⟩ hf99
    refine ⟨fun _ => trivial, ?_⟩
    refine p_qt [] [(6, pB b1 0), (7, pB b2 0), (11, pB b3 0), (14, vI r1)] [] hf99 (by kernel_rfl) .nil fun a84 hf100 => ?_
    have hf101 := Fr.keep (ks := [6, 7, 11, 14]) (r := [(6, pB b1 0), (7, pB b2 0), (11, pB b3 0), (14, vI r1)]) hf100 (by kernel_rfl)
    exact ⟨z14, r1, (Zone.le_trans k15 k16), hf101, (St.drop 1 hS37), hr34⟩
   ·have hr35 := cond_f hb13 hr32
    refine w_skip (by kernel_rfl) ?_
    refine n_then ?_
    have hf102 := Fr.keep (ks := [6, 7, 11, 14]) (r := [(6, pB b1 0), (7, pB b2 0), (11, pB b3 0), (14, vI y7)]) hf96 (by kernel_rfl)
    exact ⟨z1, y7, (Zone.le_refl _), hf102, hS33, hr35⟩
  ·rintro a85 ww24 ⟨z12, y3, k17, hf103, hS38, hr36⟩
   refine w_mid (by kernel_rfl) (fun a w => ∃ z15 : Zone, ∃ y2 : Int, Zone.le z12 z15 ∧ Fr a 43 [(11, pB b3 0), (14, vI y2)] ∧ St z15 (plO 126 40 117 p4 y5 :: box b3 [vI y1] 3 :: box b2 [vI x3] 3 :: box b1 [vI x2] 3 :: L) w ∧ (F40_j7 y1 y2) = some r) ?_ ?_
   ·skip
    refine w_mid (by kernel_rfl) (fun a w => ∃ z16 : Zone, ∃ y4 : Bool, Zone.le z12 z16 ∧ Fr a 43 [(11, pB b3 0), (14, vI y3), (36, .bool y4)] ∧ St z16 (plO 126 40 117 p4 y5 :: box b3 [vI y1] 3 :: box b2 [vI x3] 3 :: box b1 [vI x2] 3 :: L) w ∧ (F40_j8 y1 y3 y4) = some r) ?_ ?_
    ·skip
     refine w_reg (by kernel_rfl) ?_
     refine p_qn 3 [] [(6, pB b1 0), (7, pB b2 0), (11, pB b3 0), (14, vI y3), (32, .bool (y3 == (0 : Int)))] [] hf103 (by kernel_rfl) .nil fun a86 hf104 => ?_
     rcases Bool.eq_false_or_eq_true (y3 == (0 : Int)) with hb14 | hb14
     ·have hr37 := cond_t hb14 hr36
      have hf105 := Fr.conv hf104 (congrArg (fun z => ([(6, pB b1 0), (7, pB b2 0), (11, pB b3 0), (14, vI y3), (32, .bool z)] : FL)) hb14)
      refine p_qt [vI x2, vI x3] [(11, pB b3 0), (14, vI y3), (36, .bool (x2 == x3))] [.cell ⟨b1, 0, none⟩ (vI x2), .cell ⟨b2, 0, none⟩ (vI x3)] hf105 (by kernel_rfl) (.cell (hS38.box (i := 3) rfl (j := 0) rfl) (.cell (hS38.box (i := 2) rfl (j := 0) rfl) .nil)) fun a87 hf106 => ?_
      have hf107 := Fr.keep (ks := [11, 14, 36]) (r := [(11, pB b3 0), (14, vI y3), (36, .bool (x2 == x3))]) hf106 (by kernel_rfl)
      exact ⟨z12, (x2 == x3), (Zone.le_refl _), hf107, hS38, hr37⟩
     ·have hr38 := cond_f hb14 hr36
      have hf108 := Fr.conv hf104 (congrArg (fun z => ([(6, pB b1 0), (7, pB b2 0), (11, pB b3 0), (14, vI y3), (32, .bool z)] : FL)) hb14)
      refine p_qt [] [(11, pB b3 0), (14, vI y3), (36, .bool false)] [] hf108 (by kernel_rfl) .nil fun a88 hf109 => ?_
      have hf110 := Fr.keep (ks := [11, 14, 36]) (r := [(11, pB b3 0), (14, vI y3), (36, .bool false)]) hf109 (by kernel_rfl)
      exact ⟨z12, false, (Zone.le_refl _), hf110, hS38, hr38⟩
    ·rintro a89 ww25 ⟨z16, y4, k18, hf111, hS39, hr39⟩
     refine w_if hf111 (b := y4) (by kernel_rfl) (fun hb15 => ?_) (fun hb15 => ?_)
     ·have hr40 := cond_t hb15 hr39
      refine w_q [] [(11, pB b3 0), (14, vI 1)] [] hf111 (by kernel_rfl) .nil fun a90 hf112 => ?_
      refine n_then ?_
      have hf113 := Fr.keep (ks := [11, 14]) (r := [(11, pB b3 0), (14, vI 1)]) hf112 (by kernel_rfl)
      exact ⟨z16, 1, k18, hf113, hS39, hr40⟩
     ·have hr41 := cond_f hb15 hr39
      refine w_skip (by kernel_rfl) ?_
      refine n_then ?_
      have hf114 := Fr.keep (ks := [11, 14]) (r := [(11, pB b3 0), (14, vI y3)]) hf111 (by kernel_rfl)
      exact ⟨z16, y3, k18, hf114, hS39, hr41⟩
   ·rintro a91 ww26 ⟨z15, y2, k19, hf115, hS40, hr42⟩
    refine w_seq (by kernel_rfl) ?_
    refine w_sq [] [(11, pB b3 0), (14, vI y2), (38, .bool (y2 != (0 : Int)))] [] hf115 (by kernel_rfl) .nil fun a92 hf116 => ?_
    refine w_if hf116 (b := (y2 != (0 : Int))) (by kernel_rfl) (fun hb16 => ?_) (fun hb16 => ?_)
    ·have hr43 := cond_t hb16 hr42
     refine w_sq [] [(8, .bool false), (9, vI 0), (10, vI y2)] [] hf116 (by kernel_rfl) .nil fun a93 hf117 => ?_
     refine w_ret (by kernel_rfl) ?_
     refine r_then ?_
     refine p_ret (os := []) (v := .tuple #[.bool false, vI 0, vI y2]) (obs := []) hf117 (by kernel_rfl) .nil ?_
     obtain rfl := some_eq hr43
     exact ⟨_, rfl, z15, (Zone.le_trans (Zone.le_trans k14 k17) k19), rfl, (St.drop 4 hS40)⟩
    ·have hr44 := cond_f hb16 hr42
     refine w_skip (by kernel_rfl) ?_
     refine n_then ?_
     have hS41 := hS40.drew
     refine w_sqD [(0, true), (1, true), (2, true), (3, true), (4, true), (5, true)] [] [vI y1, vI y1] [(8, .bool (decide (y1 < (0 : Int)))), (9, vI y1), (10, vI 0)] [.cell ⟨b3, 0, none⟩ (vI y1), .cell ⟨b3, 0, none⟩ (vI y1)] [] hf116 (by kernel_rfl) (.cell (hS41.box (i := 1) rfl (j := 0) rfl) (.cell (hS41.box (i := 1) rfl (j := 0) rfl) .nil)) .nil fun a94 hf118 => ?_
     refine w_ret (by kernel_rfl) ?_
     refine p_ret (os := []) (v := .tuple #[.bool (decide (y1 < (0 : Int))), vI y1, vI 0]) (obs := []) hf118 (by kernel_rfl) .nil ?_
     obtain rfl := some_eq hr44
     exact ⟨_, rfl, z15, (Zone.le_trans (Zone.le_trans k14 k17) k19), rfl, (St.drop 4 hS41)⟩
def F21_l3 (fuel : Nat) (k1 : Int → Option (Int)) (x0_lots : List Lot) (y1 : Int) (p1 : List Part) : Nat → Int → Option (Int)
  | 0, _ => none
  | n1 + 1, y2 =>
    let k2 : Int → Option (Int) := F21_l3 fuel k1 x0_lots y1 p1 n1
    (cond (decide (y2 < (p1.length : Int))) ((getI p1 y2).bind fun p2 => ((F74 fuel x0_lots p2.lot).bind fun r1 => (cond (!r1.2) (some (62)) (k2 (w64 (y2 + (1 : Int))))))) (k1 (w64 (y1 + (1 : Int)))))
def F21_j1 (fuel : Nat) (k1 : Int → Option (Int)) (x0_lots : List Lot) (y1 : Int) (p1 : List Part) (y3 : Bool) : Option (Int) :=
  (cond y3 (some (62)) (F21_l3 fuel k1 x0_lots y1 p1 fuel 0))
def F21_l2 (fuel : Nat) (k3 : Int → Option (Int)) (x0_lots : List Lot) (y4 : Int) (p3 : List (List Part)) : Nat → Int → Option (Int)
  | 0, _ => none
  | n2 + 1, y1 =>
    let k1 : Int → Option (Int) := F21_l2 fuel k3 x0_lots y4 p3 n2
    (cond (decide (y1 < (p3.length : Int))) ((getI p3 y1).bind fun p1 => ((F73 fuel p1).bind fun r2 => (cond (!r2) (F21_j1 fuel k1 x0_lots y1 p1 true) (F21_j1 fuel k1 x0_lots y1 p1 ((p1.length : Int) == (0 : Int)))))) ((F75 fuel p3).bind fun r3 => (cond (decide (r3 > (100000000 : Int))) (some (62)) (k3 (w64 (y4 + (1 : Int)))))))
def F21_l1 (fuel : Nat) (x0_lots : List Lot) (x0_holds : List (List (List Part))) : Nat → Int → Option (Int)
  | 0, _ => none
  | n3 + 1, y4 =>
    let k3 : Int → Option (Int) := F21_l1 fuel x0_lots x0_holds n3
    (cond (decide (y4 < (9 : Int))) ((getI x0_holds y4).bind fun p3 => (cond (decide ((p3.length : Int) > (4 : Int))) (some (62)) (F21_l2 fuel k3 x0_lots y4 p3 fuel 0))) (some (0)))
def F21 (fuel : Nat) (x0_lots : List Lot) (x0_holds : List (List (List Part))) : Option (Int) :=
  ((F19 fuel x0_lots).bind fun r4 => (cond (r4 != (0 : Int)) (some (62)) (F21_l1 fuel x0_lots x0_holds fuel 0)))
set_option maxRecDepth 100000 in
theorem f21_ok (fuel : Nat) (x0_lots : List Lot) (x0_holds : List (List (List Part))) (r : Int) (hr : F21 fuel x0_lots x0_holds = some r) (h : Zone) (L : List Atom) (w : World) (hS : St h L w) (o_x0_lots : Option Addr) (c_x0_lots : Nat) (hx_x0_lots : SliceR LotT h o_x0_lots c_x0_lots x0_lots) (v0_x0_holds v1_x0_holds v2_x0_holds v3_x0_holds v4_x0_holds v5_x0_holds v6_x0_holds v7_x0_holds v8_x0_holds : Value) (hx_x0_holds : (Ty.arr 9 (Ty.slice (Ty.slice PartT))).rep h [v0_x0_holds, v1_x0_holds, v2_x0_holds, v3_x0_holds, v4_x0_holds, v5_x0_holds, v6_x0_holds, v7_x0_holds, v8_x0_holds] x0_holds) :
    Calls Try.prog 21 #[.agg #[.slice o_x0_lots x0_lots.length c_x0_lots, v0_x0_holds, v1_x0_holds, v2_x0_holds, v3_x0_holds, v4_x0_holds, v5_x0_holds, v6_x0_holds, v7_x0_holds, v8_x0_holds]] w fun e w' => ∃ v, e = .returned v ∧ (∃ h', Zone.le h h' ∧ v = vI r ∧ St h' L w') := by
 refine calls_intro (N := 61) Try.func21 (by kernel_rfl) fun a hf => ?_
 refine w_sr (by kernel_rfl) ?_
 refine p_box (i := 0) (d := (some 1)) (cs := [.slice o_x0_lots x0_lots.length c_x0_lots, v0_x0_holds, v1_x0_holds, v2_x0_holds, v3_x0_holds, v4_x0_holds, v5_x0_holds, v6_x0_holds, v7_x0_holds, v8_x0_holds]) (T := 26) (v := fun b1 => pB b1 0) hS hf (fun b => by kernel_rfl) fun b1 ww1 a1 hS1 hf1 => ⟨fun _ => trivial, ?_⟩
 refine p_qt [] [(1, pB b1 0)] [] hf1 (by kernel_rfl) .nil fun a2 hf2 => ?_
 refine w_seq (by kernel_rfl) ?_
 refine w_sr (by kernel_rfl) ?_
 refine p_qn 2 [.slice o_x0_lots x0_lots.length c_x0_lots] [(1, pB b1 0), (12, .slice o_x0_lots x0_lots.length c_x0_lots)] [.cell ⟨b1, 0, none⟩ (.slice o_x0_lots x0_lots.length c_x0_lots)] hf2 (by kernel_rfl) (.cell (hS1.box (i := 0) rfl (j := 0) rfl) .nil) fun a3 hf3 => ?_
 obtain ⟨r4, hd1, hr1⟩ := bind_some hr
 refine p_call (i := 2) (d := some 13) (f := 19) (args := #[.slice o_x0_lots x0_lots.length c_x0_lots]) hf3 (by kernel_rfl) (f19_ok fuel x0_lots r4 hd1 h _ _ hS1 o_x0_lots c_x0_lots hx_x0_lots) ?_
 rintro v1 ww2 a4 ⟨z1, k4, rfl, hS2⟩ hf4
 refine ⟨fun _ => trivial, ?_⟩
 refine p_qt [] [(1, pB b1 0), (14, .bool (r4 != (0 : Int)))] [] hf4 (by kernel_rfl) .nil fun a5 hf5 => ?_
 refine w_if hf5 (b := (r4 != (0 : Int))) (by kernel_rfl) (fun hb1 => ?_) (fun hb1 => ?_)
 ·have hr2 := cond_t hb1 hr1
  refine w_sq [] [(2, vI 62)] [] hf5 (by kernel_rfl) .nil fun a6 hf6 => ?_
  refine w_ret (by kernel_rfl) ?_
  refine r_then ?_
  refine p_ret (os := []) (v := vI 62) (obs := []) hf6 (by kernel_rfl) .nil ?_
  obtain rfl := some_eq hr2
  exact ⟨_, rfl, z1, k4, rfl, (St.drop 1 hS2)⟩
 ·have hr3 := cond_f hb1 hr1
  refine w_skip (by kernel_rfl) ?_
  refine n_then ?_
  refine w_seq (by kernel_rfl) ?_
  refine w_sq [v0_x0_holds, v1_x0_holds, v2_x0_holds, v3_x0_holds, v4_x0_holds, v5_x0_holds, v6_x0_holds, v7_x0_holds, v8_x0_holds] [(1, pB b1 0), (16, .agg #[v0_x0_holds, v1_x0_holds, v2_x0_holds, v3_x0_holds, v4_x0_holds, v5_x0_holds, v6_x0_holds, v7_x0_holds, v8_x0_holds]), (17, vI 0)] [.cell ⟨b1, 1, none⟩ (v0_x0_holds), .cell ⟨b1, 2, none⟩ (v1_x0_holds), .cell ⟨b1, 3, none⟩ (v2_x0_holds), .cell ⟨b1, 4, none⟩ (v3_x0_holds), .cell ⟨b1, 5, none⟩ (v4_x0_holds), .cell ⟨b1, 6, none⟩ (v5_x0_holds), .cell ⟨b1, 7, none⟩ (v6_x0_holds), .cell ⟨b1, 8, none⟩ (v7_x0_holds), .cell ⟨b1, 9, none⟩ (v8_x0_holds)] hf5 (by kernel_rfl) (.cell (hS2.box (i := 0) rfl (j := 1) rfl) (.cell (hS2.box (i := 0) rfl (j := 2) rfl) (.cell (hS2.box (i := 0) rfl (j := 3) rfl) (.cell (hS2.box (i := 0) rfl (j := 4) rfl) (.cell (hS2.box (i := 0) rfl (j := 5) rfl) (.cell (hS2.box (i := 0) rfl (j := 6) rfl) (.cell (hS2.box (i := 0) rfl (j := 7) rfl) (.cell (hS2.box (i := 0) rfl (j := 8) rfl) (.cell (hS2.box (i := 0) rfl (j := 9) rfl) .nil))))))))) fun a7 hf7 => ?_
  refine w_block (id := 0) (by kernel_rfl) ?_
  have hf8 := Fr.keep (ks := [1, 16, 17]) (r := [(1, pB b1 0), (16, .agg #[v0_x0_holds, v1_x0_holds, v2_x0_holds, v3_x0_holds, v4_x0_holds, v5_x0_holds, v6_x0_holds, v7_x0_holds, v8_x0_holds]), (17, vI 0)]) hf7 (by kernel_rfl)
  refine w_loop (by kernel_rfl) (fun n a w => ∃ z2 : Zone, ∃ y4 : Int, Zone.le z1 z2 ∧ Fr a 61 [(1, pB b1 0), (16, .agg #[v0_x0_holds, v1_x0_holds, v2_x0_holds, v3_x0_holds, v4_x0_holds, v5_x0_holds, v6_x0_holds, v7_x0_holds, v8_x0_holds]), (17, vI y4)] ∧ St z2 (box b1 [.slice o_x0_lots x0_lots.length c_x0_lots, v0_x0_holds, v1_x0_holds, v2_x0_holds, v3_x0_holds, v4_x0_holds, v5_x0_holds, v6_x0_holds, v7_x0_holds, v8_x0_holds] 26 :: L) w ∧ (F21_l1 fuel x0_lots x0_holds n y4) = some r) fuel ⟨z1, 0, (Zone.le_refl _), hf8, hS2, hr3⟩ ?_
  rintro n4 a8 ww3 ⟨z2, y4, k5, hf9, hS3, hr4⟩
  cases n4 with
  | zero => cases hr4
  | succ n3 =>
  refine w_sq [] [(1, pB b1 0), (16, .agg #[v0_x0_holds, v1_x0_holds, v2_x0_holds, v3_x0_holds, v4_x0_holds, v5_x0_holds, v6_x0_holds, v7_x0_holds, v8_x0_holds]), (17, vI y4), (18, .bool (decide (y4 < (9 : Int))))] [] hf9 (by kernel_rfl) .nil fun a9 hf10 => ?_
  refine w_seq (by kernel_rfl) ?_
  refine w_if hf10 (b := (decide (y4 < (9 : Int)))) (by kernel_rfl) (fun hb2 => ?_) (fun hb2 => ?_)
  ·have hr5 := cond_t hb2 hr4
   refine w_skip (by kernel_rfl) ?_
   refine n_then ?_
   refine w_seq (by kernel_rfl) ?_
   refine w_block (id := 1) (by kernel_rfl) ?_
   obtain ⟨p3, hp140844, hr6⟩ := bind_some hr5
   obtain ⟨hb3, _, hv1, e1, q1, hehv140848, hx1⟩ := arrGet (Ty.mono _ (Zone.le_trans k4 k5) hx_x0_holds) rfl hp140844
   obtain rfl := List.head_eq_of_cons_eq hehv140848
   have hk1 := arrIdx hv1
   refine w_sq [.slice e1 p3.length q1] [(1, pB b1 0), (4, .slice e1 p3.length q1), (16, .agg #[v0_x0_holds, v1_x0_holds, v2_x0_holds, v3_x0_holds, v4_x0_holds, v5_x0_holds, v6_x0_holds, v7_x0_holds, v8_x0_holds]), (17, vI y4)] [.prop (0 ≤ y4 ∧ y4 < (9 : Nat)), .prop ((#[v0_x0_holds, v1_x0_holds, v2_x0_holds, v3_x0_holds, v4_x0_holds, v5_x0_holds, v6_x0_holds, v7_x0_holds, v8_x0_holds] : Array Value)[Int.toNat y4 * 1]? = some (.slice e1 p3.length q1))] hf10 (by kernel_rfl) (.prop hb3 (.prop hk1 .nil)) fun a10 hf11 => ?_
   refine w_seq (by kernel_rfl) ?_
   refine w_sq [] [(1, pB b1 0), (4, .slice e1 p3.length q1), (16, .agg #[v0_x0_holds, v1_x0_holds, v2_x0_holds, v3_x0_holds, v4_x0_holds, v5_x0_holds, v6_x0_holds, v7_x0_holds, v8_x0_holds]), (17, vI y4), (22, .bool (decide ((p3.length : Int) > (4 : Int))))] [] hf11 (by kernel_rfl) .nil fun a11 hf12 => ?_
   refine w_if hf12 (b := (decide ((p3.length : Int) > (4 : Int)))) (by kernel_rfl) (fun hb4 => ?_) (fun hb4 => ?_)
   ·have hr7 := cond_t hb4 hr6
    refine w_sq [] [(2, vI 62)] [] hf12 (by kernel_rfl) .nil fun a12 hf13 => ?_
    refine w_ret (by kernel_rfl) ?_
    refine r_then ?_
    refine r_block ?_
    refine r_then ?_
    refine r_then ?_
    refine r_block ?_
    refine r_then ?_
    refine p_ret (os := []) (v := vI 62) (obs := []) hf13 (by kernel_rfl) .nil ?_
    obtain rfl := some_eq hr7
    exact ⟨_, rfl, z2, (Zone.le_trans k4 k5), rfl, (St.drop 1 hS3)⟩
   ·have hr8 := cond_f hb4 hr6
    refine w_skip (by kernel_rfl) ?_
    refine n_then ?_
    refine w_seq (by kernel_rfl) ?_
    refine w_sq [] [(1, pB b1 0), (4, .slice e1 p3.length q1), (16, .agg #[v0_x0_holds, v1_x0_holds, v2_x0_holds, v3_x0_holds, v4_x0_holds, v5_x0_holds, v6_x0_holds, v7_x0_holds, v8_x0_holds]), (17, vI y4), (23, .slice e1 p3.length q1), (24, vI (p3.length : Int)), (25, vI 0)] [] hf12 (by kernel_rfl) .nil fun a13 hf14 => ?_
    refine w_block (id := 2) (by kernel_rfl) ?_
    have hf15 := Fr.keep (ks := [1, 4, 16, 17, 23, 24, 25]) (r := [(1, pB b1 0), (4, .slice e1 p3.length q1), (16, .agg #[v0_x0_holds, v1_x0_holds, v2_x0_holds, v3_x0_holds, v4_x0_holds, v5_x0_holds, v6_x0_holds, v7_x0_holds, v8_x0_holds]), (17, vI y4), (23, .slice e1 p3.length q1), (24, vI (p3.length : Int)), (25, vI 0)]) hf14 (by kernel_rfl)
    refine w_loop (by kernel_rfl) (fun n a w => ∃ z3 : Zone, ∃ y1 : Int, Zone.le z2 z3 ∧ Fr a 61 [(1, pB b1 0), (4, .slice e1 p3.length q1), (16, .agg #[v0_x0_holds, v1_x0_holds, v2_x0_holds, v3_x0_holds, v4_x0_holds, v5_x0_holds, v6_x0_holds, v7_x0_holds, v8_x0_holds]), (17, vI y4), (23, .slice e1 p3.length q1), (24, vI (p3.length : Int)), (25, vI y1)] ∧ St z3 (box b1 [.slice o_x0_lots x0_lots.length c_x0_lots, v0_x0_holds, v1_x0_holds, v2_x0_holds, v3_x0_holds, v4_x0_holds, v5_x0_holds, v6_x0_holds, v7_x0_holds, v8_x0_holds] 26 :: L) w ∧ (F21_l2 fuel (F21_l1 fuel x0_lots x0_holds n3) x0_lots y4 p3 n y1) = some r) fuel ⟨z2, 0, (Zone.le_refl _), hf15, hS3, hr8⟩ ?_
    rintro n5 a14 ww4 ⟨z3, y1, k6, hf16, hS4, hr9⟩
    cases n5 with
    | zero => cases hr9
    | succ n2 =>
    refine w_sq [] [(1, pB b1 0), (4, .slice e1 p3.length q1), (16, .agg #[v0_x0_holds, v1_x0_holds, v2_x0_holds, v3_x0_holds, v4_x0_holds, v5_x0_holds, v6_x0_holds, v7_x0_holds, v8_x0_holds]), (17, vI y4), (23, .slice e1 p3.length q1), (24, vI (p3.length : Int)), (25, vI y1), (26, .bool (decide (y1 < (p3.length : Int))))] [] hf16 (by kernel_rfl) .nil fun a15 hf17 => ?_
    refine w_seq (by kernel_rfl) ?_
    refine w_if hf17 (b := (decide (y1 < (p3.length : Int)))) (by kernel_rfl) (fun hb5 => ?_) (fun hb5 => ?_)
    ·have hr10 := cond_t hb5 hr9
     refine w_skip (by kernel_rfl) ?_
     refine n_then ?_
     refine w_seq (by kernel_rfl) ?_
     refine w_block (id := 3) (by kernel_rfl) ?_
     refine w_sr (by kernel_rfl) ?_
     obtain ⟨p1, hp149621, hr11⟩ := bind_some hr10
     obtain ⟨ad1, ho1, hb6, cc1, hc1, hk2⟩ := SliceR.getI (SliceR.mono k6 hx1) hp149621
     obtain ⟨e2, q2, rfl, hx2⟩ := hc1
     refine p_qn 2 [.pointer (some ad1), .slice e2 p1.length q2] [(1, pB b1 0), (4, .slice e1 p3.length q1), (16, .agg #[v0_x0_holds, v1_x0_holds, v2_x0_holds, v3_x0_holds, v4_x0_holds, v5_x0_holds, v6_x0_holds, v7_x0_holds, v8_x0_holds]), (17, vI y4), (23, .slice e1 p3.length q1), (24, vI (p3.length : Int)), (25, vI y1), (28, .agg #[.slice e2 p1.length q2])] [.prop (e1 = some ad1), .prop (0 ≤ y1 ∧ y1 < (p3.length : Nat)), .cell ((ad1.add (Int.toNat y1 * 1)).add 0) (.slice e2 p1.length q2)] hf17 (by kernel_rfl) (.prop ho1 (.prop hb6 (.cell (hS4.cell (hk2 0 _ rfl)) .nil))) fun a16 hf18 => ?_
     refine p_box (i := 2) (d := (some 6)) (cs := [.slice none 0 0]) (T := 40) (v := fun b2 => pB b2 0) hS4 hf18 (fun b => by kernel_rfl) fun b2 ww5 a17 hS5 hf19 => ⟨fun _ => trivial, ?_⟩
     refine p_store_eq (i := 3) (j := 0) (b := b2) (off := 0) (vs := [.slice e2 p1.length q2]) (cs' := [.slice e2 p1.length q2]) hS5 hf19 rfl (by kernel_rfl) (by kernel_rfl) rfl fun ww6 a18 hS6 hf20 => ⟨fun _ => trivial, ?_⟩
     refine p_dt (by kernel_rfl) ?_
     refine w_seq (by kernel_rfl) ?_
     refine w_mid (by kernel_rfl) (fun a w => ∃ z4 : Zone, ∃ y3 : Bool, Zone.le z3 z4 ∧ Fr a 61 [(1, pB b1 0), (4, .slice e1 p3.length q1), (6, pB b2 0), (16, .agg #[v0_x0_holds, v1_x0_holds, v2_x0_holds, v3_x0_holds, v4_x0_holds, v5_x0_holds, v6_x0_holds, v7_x0_holds, v8_x0_holds]), (17, vI y4), (23, .slice e1 p3.length q1), (24, vI (p3.length : Int)), (25, vI y1), (37, .bool y3)] ∧ St z4 (box b2 [.slice e2 p1.length q2] 40 :: box b1 [.slice o_x0_lots x0_lots.length c_x0_lots, v0_x0_holds, v1_x0_holds, v2_x0_holds, v3_x0_holds, v4_x0_holds, v5_x0_holds, v6_x0_holds, v7_x0_holds, v8_x0_holds] 26 :: L) w ∧ (F21_j1 fuel (F21_l2 fuel (F21_l1 fuel x0_lots x0_holds n3) x0_lots y4 p3 n2) x0_lots y1 p1 y3) = some r) ?_ ?_
     ·skip
      refine w_reg (by kernel_rfl) ?_
      refine p_qn 1 [.slice e2 p1.length q2] [(1, pB b1 0), (4, .slice e1 p3.length q1), (6, pB b2 0), (16, .agg #[v0_x0_holds, v1_x0_holds, v2_x0_holds, v3_x0_holds, v4_x0_holds, v5_x0_holds, v6_x0_holds, v7_x0_holds, v8_x0_holds]), (17, vI y4), (23, .slice e1 p3.length q1), (24, vI (p3.length : Int)), (25, vI y1), (29, .agg #[.slice e2 p1.length q2])] [.cell ⟨b2, 0, none⟩ (.slice e2 p1.length q2)] hf20 (by kernel_rfl) (.cell (hS6.box (i := 0) rfl (j := 0) rfl) .nil) fun a19 hf21 => ?_
      obtain ⟨r2, hd2, hr12⟩ := bind_some hr11
      refine p_call (i := 1) (d := some 30) (f := 73) (args := #[.agg #[.slice e2 p1.length q2]]) hf21 (by kernel_rfl) (f73_ok fuel p1 r2 hd2 z3 _ _ hS6 e2 q2 hx2) ?_
      rintro v2 ww7 a20 ⟨z5, k7, rfl, hS7⟩ hf22
      refine ⟨fun _ => trivial, ?_⟩
      refine p_qn 2 [] [(1, pB b1 0), (4, .slice e1 p3.length q1), (6, pB b2 0), (16, .agg #[v0_x0_holds, v1_x0_holds, v2_x0_holds, v3_x0_holds, v4_x0_holds, v5_x0_holds, v6_x0_holds, v7_x0_holds, v8_x0_holds]), (17, vI y4), (23, .slice e1 p3.length q1), (24, vI (p3.length : Int)), (25, vI y1), (32, .bool (!r2))] [] hf22 (by kernel_rfl) .nil fun a21 hf23 => ?_
      rcases Bool.eq_false_or_eq_true (!r2) with hb7 | hb7
      ·have hr13 := cond_t hb7 hr12
       have hf24 := Fr.conv hf23 (congrArg (fun z => ([(1, pB b1 0), (4, .slice e1 p3.length q1), (6, pB b2 0), (16, .agg #[v0_x0_holds, v1_x0_holds, v2_x0_holds, v3_x0_holds, v4_x0_holds, v5_x0_holds, v6_x0_holds, v7_x0_holds, v8_x0_holds]), (17, vI y4), (23, .slice e1 p3.length q1), (24, vI (p3.length : Int)), (25, vI y1), (32, .bool z)] : FL)) hb7)
       refine p_qt [] [(1, pB b1 0), (4, .slice e1 p3.length q1), (6, pB b2 0), (16, .agg #[v0_x0_holds, v1_x0_holds, v2_x0_holds, v3_x0_holds, v4_x0_holds, v5_x0_holds, v6_x0_holds, v7_x0_holds, v8_x0_holds]), (17, vI y4), (23, .slice e1 p3.length q1), (24, vI (p3.length : Int)), (25, vI y1), (33, undef), (34, undef), (35, undef), (36, undef), (37, .bool true)] [] hf24 (by kernel_rfl) .nil fun a22 hf25 => ?_
       have hf26 := Fr.keep (ks := [1, 4, 6, 16, 17, 23, 24, 25, 37]) (r := [(1, pB b1 0), (4, .slice e1 p3.length q1), (6, pB b2 0), (16, .agg #[v0_x0_holds, v1_x0_holds, v2_x0_holds, v3_x0_holds, v4_x0_holds, v5_x0_holds, v6_x0_holds, v7_x0_holds, v8_x0_holds]), (17, vI y4), (23, .slice e1 p3.length q1), (24, vI (p3.length : Int)), (25, vI y1), (37, .bool true)]) hf25 (by kernel_rfl)
       exact ⟨z5, true, k7, hf26, hS7, hr13⟩
      ·have hr14 := cond_f hb7 hr12
       have hf27 := Fr.conv hf23 (congrArg (fun z => ([(1, pB b1 0), (4, .slice e1 p3.length q1), (6, pB b2 0), (16, .agg #[v0_x0_holds, v1_x0_holds, v2_x0_holds, v3_x0_holds, v4_x0_holds, v5_x0_holds, v6_x0_holds, v7_x0_holds, v8_x0_holds]), (17, vI y4), (23, .slice e1 p3.length q1), (24, vI (p3.length : Int)), (25, vI y1), (32, .bool z)] : FL)) hb7)
       refine p_qt [.slice e2 p1.length q2] [(1, pB b1 0), (4, .slice e1 p3.length q1), (6, pB b2 0), (16, .agg #[v0_x0_holds, v1_x0_holds, v2_x0_holds, v3_x0_holds, v4_x0_holds, v5_x0_holds, v6_x0_holds, v7_x0_holds, v8_x0_holds]), (17, vI y4), (23, .slice e1 p3.length q1), (24, vI (p3.length : Int)), (25, vI y1), (33, pB b2 0), (34, .slice e2 p1.length q2), (35, vI (p1.length : Int)), (36, .bool ((p1.length : Int) == (0 : Int))), (37, .bool ((p1.length : Int) == (0 : Int)))] [.cell ⟨b2, 0, none⟩ (.slice e2 p1.length q2)] hf27 (by kernel_rfl) (.cell (hS7.box (i := 0) rfl (j := 0) rfl) .nil) fun a23 hf28 => ?_
       have hf29 := Fr.keep (ks := [1, 4, 6, 16, 17, 23, 24, 25, 37]) (r := [(1, pB b1 0), (4, .slice e1 p3.length q1), (6, pB b2 0), (16, .agg #[v0_x0_holds, v1_x0_holds, v2_x0_holds, v3_x0_holds, v4_x0_holds, v5_x0_holds, v6_x0_holds, v7_x0_holds, v8_x0_holds]), (17, vI y4), (23, .slice e1 p3.length q1), (24, vI (p3.length : Int)), (25, vI y1), (37, .bool ((p1.length : Int) == (0 : Int)))]) hf28 (by kernel_rfl)
       exact ⟨z5, ((p1.length : Int) == (0 : Int)), k7, hf29, hS7, hr14⟩
     ·rintro a24 ww8 ⟨z4, y3, k8, hf30, hS8, hr15⟩
      refine w_if hf30 (b := y3) (by kernel_rfl) (fun hb8 => ?_) (fun hb8 => ?_)
      ·have hr16 := cond_t hb8 hr15
       refine w_sq [] [(2, vI 62)] [] hf30 (by kernel_rfl) .nil fun a25 hf31 => ?_
       refine w_ret (by kernel_rfl) ?_
       refine r_then ?_
       refine r_block ?_
       refine r_then ?_
       refine r_then ?_
       refine r_block ?_
       refine r_then ?_
       refine r_block ?_
       refine r_then ?_
       refine r_then ?_
       refine r_block ?_
       refine r_then ?_
       refine p_ret (os := []) (v := vI 62) (obs := []) hf31 (by kernel_rfl) .nil ?_
       obtain rfl := some_eq hr16
       exact ⟨_, rfl, z4, (Zone.le_trans (Zone.le_trans (Zone.le_trans k4 k5) k6) k8), rfl, (St.drop 2 hS8)⟩
      ·have hr17 := cond_f hb8 hr15
       refine w_skip (by kernel_rfl) ?_
       refine n_then ?_
       refine w_sq [.slice e2 p1.length q2] [(1, pB b1 0), (4, .slice e1 p3.length q1), (16, .agg #[v0_x0_holds, v1_x0_holds, v2_x0_holds, v3_x0_holds, v4_x0_holds, v5_x0_holds, v6_x0_holds, v7_x0_holds, v8_x0_holds]), (17, vI y4), (23, .slice e1 p3.length q1), (24, vI (p3.length : Int)), (25, vI y1), (39, .slice e2 p1.length q2), (40, vI (p1.length : Int)), (41, vI 0)] [.cell ⟨b2, 0, none⟩ (.slice e2 p1.length q2)] hf30 (by kernel_rfl) (.cell (hS8.box (i := 0) rfl (j := 0) rfl) .nil) fun a26 hf32 => ?_
       refine w_block (id := 4) (by kernel_rfl) ?_
       have hf33 := Fr.keep (ks := [1, 4, 16, 17, 23, 24, 25, 39, 40, 41]) (r := [(1, pB b1 0), (4, .slice e1 p3.length q1), (16, .agg #[v0_x0_holds, v1_x0_holds, v2_x0_holds, v3_x0_holds, v4_x0_holds, v5_x0_holds, v6_x0_holds, v7_x0_holds, v8_x0_holds]), (17, vI y4), (23, .slice e1 p3.length q1), (24, vI (p3.length : Int)), (25, vI y1), (39, .slice e2 p1.length q2), (40, vI (p1.length : Int)), (41, vI 0)]) hf32 (by kernel_rfl)
       refine w_loop (by kernel_rfl) (fun n a w => ∃ z6 : Zone, ∃ y2 : Int, Zone.le z4 z6 ∧ Fr a 61 [(1, pB b1 0), (4, .slice e1 p3.length q1), (16, .agg #[v0_x0_holds, v1_x0_holds, v2_x0_holds, v3_x0_holds, v4_x0_holds, v5_x0_holds, v6_x0_holds, v7_x0_holds, v8_x0_holds]), (17, vI y4), (23, .slice e1 p3.length q1), (24, vI (p3.length : Int)), (25, vI y1), (39, .slice e2 p1.length q2), (40, vI (p1.length : Int)), (41, vI y2)] ∧ St z6 (box b2 [.slice e2 p1.length q2] 40 :: box b1 [.slice o_x0_lots x0_lots.length c_x0_lots, v0_x0_holds, v1_x0_holds, v2_x0_holds, v3_x0_holds, v4_x0_holds, v5_x0_holds, v6_x0_holds, v7_x0_holds, v8_x0_holds] 26 :: L) w ∧ (F21_l3 fuel (F21_l2 fuel (F21_l1 fuel x0_lots x0_holds n3) x0_lots y4 p3 n2) x0_lots y1 p1 n y2) = some r) fuel ⟨z4, 0, (Zone.le_refl _), hf33, hS8, hr17⟩ ?_
       rintro n6 a27 ww9 ⟨z6, y2, k9, hf34, hS9, hr18⟩
       cases n6 with
       | zero => cases hr18
       | succ n1 =>
       refine w_sq [] [(1, pB b1 0), (4, .slice e1 p3.length q1), (16, .agg #[v0_x0_holds, v1_x0_holds, v2_x0_holds, v3_x0_holds, v4_x0_holds, v5_x0_holds, v6_x0_holds, v7_x0_holds, v8_x0_holds]), (17, vI y4), (23, .slice e1 p3.length q1), (24, vI (p3.length : Int)), (25, vI y1), (39, .slice e2 p1.length q2), (40, vI (p1.length : Int)), (41, vI y2), (42, .bool (decide (y2 < (p1.length : Int))))] [] hf34 (by kernel_rfl) .nil fun a28 hf35 => ?_
       refine w_seq (by kernel_rfl) ?_
       refine w_if hf35 (b := (decide (y2 < (p1.length : Int)))) (by kernel_rfl) (fun hb9 => ?_) (fun hb9 => ?_)
       ·have hr19 := cond_t hb9 hr18
        refine w_skip (by kernel_rfl) ?_
        refine n_then ?_
        refine w_seq (by kernel_rfl) ?_
        refine w_block (id := 5) (by kernel_rfl) ?_
        refine w_sr (by kernel_rfl) ?_
        obtain ⟨p2, hp150183, hr20⟩ := bind_some hr19
        obtain ⟨ad2, ho2, hb10, cc2, hc2, hk3⟩ := SliceR.getI (SliceR.mono (Zone.le_trans k8 k9) hx2) hp150183
        subst hc2
        refine p_qn 2 [.pointer (some ad2), vI p2.lot, vI p2.mass] [(1, pB b1 0), (4, .slice e1 p3.length q1), (16, .agg #[v0_x0_holds, v1_x0_holds, v2_x0_holds, v3_x0_holds, v4_x0_holds, v5_x0_holds, v6_x0_holds, v7_x0_holds, v8_x0_holds]), (17, vI y4), (23, .slice e1 p3.length q1), (24, vI (p3.length : Int)), (25, vI y1), (39, .slice e2 p1.length q2), (40, vI (p1.length : Int)), (41, vI y2), (44, .agg #[vI p2.lot, vI p2.mass])] [.prop (e2 = some ad2), .prop (0 ≤ y2 ∧ y2 < (p1.length : Nat)), .cell ((ad2.add (Int.toNat y2 * 2)).add 0) (vI p2.lot), .cell ((ad2.add (Int.toNat y2 * 2)).add 1) (vI p2.mass)] hf35 (by kernel_rfl) (.prop ho2 (.prop hb10 (.cell (hS9.cell (hk3 0 _ rfl)) (.cell (hS9.cell (hk3 1 _ rfl)) .nil)))) fun a29 hf36 => ?_
        refine p_box (i := 2) (d := (some 8)) (cs := [vI 0, vI 0]) (T := 56) (v := fun b3 => pB b3 0) hS9 hf36 (fun b => by kernel_rfl) fun b3 ww10 a30 hS10 hf37 => ⟨fun _ => trivial, ?_⟩
        refine p_store_eq (i := 3) (j := 0) (b := b3) (off := 0) (vs := [vI p2.lot, vI p2.mass]) (cs' := [vI p2.lot, vI p2.mass]) hS10 hf37 rfl (by kernel_rfl) (by kernel_rfl) rfl fun ww11 a31 hS11 hf38 => ⟨fun _ => trivial, ?_⟩
        refine p_dt (by kernel_rfl) ?_
        refine w_sr (by kernel_rfl) ?_
        refine p_qn 4 [.slice o_x0_lots x0_lots.length c_x0_lots, vI p2.lot] [(1, pB b1 0), (4, .slice e1 p3.length q1), (16, .agg #[v0_x0_holds, v1_x0_holds, v2_x0_holds, v3_x0_holds, v4_x0_holds, v5_x0_holds, v6_x0_holds, v7_x0_holds, v8_x0_holds]), (17, vI y4), (23, .slice e1 p3.length q1), (24, vI (p3.length : Int)), (25, vI y1), (39, .slice e2 p1.length q2), (40, vI (p1.length : Int)), (41, vI y2), (47, .slice o_x0_lots x0_lots.length c_x0_lots), (49, vI p2.lot)] [.cell ⟨b1, 0, none⟩ (.slice o_x0_lots x0_lots.length c_x0_lots), .cell ⟨b3, 0, none⟩ (vI p2.lot)] hf38 (by kernel_rfl) (.cell (hS11.box (i := 2) rfl (j := 0) rfl) (.cell (hS11.box (i := 0) rfl (j := 0) rfl) .nil)) fun a32 hf39 => ?_
        obtain ⟨r1, hd3, hr21⟩ := bind_some hr20
        refine p_call (i := 4) (d := some 50) (f := 74) (args := #[.slice o_x0_lots x0_lots.length c_x0_lots, vI p2.lot]) hf39 (by kernel_rfl) (f74_ok fuel x0_lots p2.lot r1 hd3 z6 _ _ hS11 o_x0_lots c_x0_lots (SliceR.mono (Zone.le_trans (Zone.le_trans (Zone.le_trans (Zone.le_trans k4 k5) k6) k8) k9) hx_x0_lots)) ?_
        rintro v3 ww12 a33 ⟨z7, k10, rfl, hS12⟩ hf40
        refine ⟨fun _ => trivial, ?_⟩
        refine p_qt [] [(1, pB b1 0), (4, .slice e1 p3.length q1), (10, .bool r1.2), (16, .agg #[v0_x0_holds, v1_x0_holds, v2_x0_holds, v3_x0_holds, v4_x0_holds, v5_x0_holds, v6_x0_holds, v7_x0_holds, v8_x0_holds]), (17, vI y4), (23, .slice e1 p3.length q1), (24, vI (p3.length : Int)), (25, vI y1), (39, .slice e2 p1.length q2), (40, vI (p1.length : Int)), (41, vI y2)] [] hf40 (by kernel_rfl) .nil fun a34 hf41 => ?_
        refine w_sq [] [(1, pB b1 0), (4, .slice e1 p3.length q1), (16, .agg #[v0_x0_holds, v1_x0_holds, v2_x0_holds, v3_x0_holds, v4_x0_holds, v5_x0_holds, v6_x0_holds, v7_x0_holds, v8_x0_holds]), (17, vI y4), (23, .slice e1 p3.length q1), (24, vI (p3.length : Int)), (25, vI y1), (39, .slice e2 p1.length q2), (40, vI (p1.length : Int)), (41, vI y2), (54, .bool (!r1.2))] [] hf41 (by kernel_rfl) .nil fun a35 hf42 => ?_
        refine w_if hf42 (b := (!r1.2)) (by kernel_rfl) (fun hb11 => ?_) (fun hb11 => ?_)
        ·have hr22 := cond_t hb11 hr21
         refine w_sq [] [(2, vI 62)] [] hf42 (by kernel_rfl) .nil fun a36 hf43 => ?_
         refine w_ret (by kernel_rfl) ?_
         refine r_block ?_
         refine r_then ?_
         refine r_then ?_
         refine r_block ?_
         refine r_block ?_
         refine r_then ?_
         refine r_then ?_
         refine r_block ?_
         refine r_then ?_
         refine r_block ?_
         refine r_then ?_
         refine r_then ?_
         refine r_block ?_
         refine r_then ?_
         refine p_ret (os := []) (v := vI 62) (obs := []) hf43 (by kernel_rfl) .nil ?_
         obtain rfl := some_eq hr22
         exact ⟨_, rfl, z7, (Zone.le_trans (Zone.le_trans (Zone.le_trans (Zone.le_trans (Zone.le_trans k4 k5) k6) k8) k9) k10), rfl, (St.drop 3 hS12)⟩
        ·have hr23 := cond_f hb11 hr21
         refine w_skip (by kernel_rfl) ?_
         refine n_block ?_
         refine n_then ?_
         refine w_q [] [(1, pB b1 0), (4, .slice e1 p3.length q1), (16, .agg #[v0_x0_holds, v1_x0_holds, v2_x0_holds, v3_x0_holds, v4_x0_holds, v5_x0_holds, v6_x0_holds, v7_x0_holds, v8_x0_holds]), (17, vI y4), (23, .slice e1 p3.length q1), (24, vI (p3.length : Int)), (25, vI y1), (39, .slice e2 p1.length q2), (40, vI (p1.length : Int)), (41, vI (w64 (y2 + (1 : Int))))] [] hf42 (by kernel_rfl) .nil fun a37 hf44 => ?_
         refine n_then ?_
         have hf45 := Fr.keep (ks := [1, 4, 16, 17, 23, 24, 25, 39, 40, 41]) (r := [(1, pB b1 0), (4, .slice e1 p3.length q1), (16, .agg #[v0_x0_holds, v1_x0_holds, v2_x0_holds, v3_x0_holds, v4_x0_holds, v5_x0_holds, v6_x0_holds, v7_x0_holds, v8_x0_holds]), (17, vI y4), (23, .slice e1 p3.length q1), (24, vI (p3.length : Int)), (25, vI y1), (39, .slice e2 p1.length q2), (40, vI (p1.length : Int)), (41, vI (w64 (y2 + (1 : Int))))]) hf44 (by kernel_rfl)
         exact ⟨n1, Nat.lt_succ_self n1, z7, (w64 (y2 + (1 : Int))), (Zone.le_trans k9 k10), hf45, (St.drop 1 hS12), hr23⟩
       ·have hr24 := cond_f hb9 hr18
        refine w_exit (id := 4) (by kernel_rfl) ?_
        refine x_then ?_
        refine x_then ?_
        refine x_block ?_
        refine n_block ?_
        refine n_then ?_
        refine w_q [] [(1, pB b1 0), (4, .slice e1 p3.length q1), (16, .agg #[v0_x0_holds, v1_x0_holds, v2_x0_holds, v3_x0_holds, v4_x0_holds, v5_x0_holds, v6_x0_holds, v7_x0_holds, v8_x0_holds]), (17, vI y4), (23, .slice e1 p3.length q1), (24, vI (p3.length : Int)), (25, vI (w64 (y1 + (1 : Int))))] [] hf35 (by kernel_rfl) .nil fun a38 hf46 => ?_
        refine n_then ?_
        have hf47 := Fr.keep (ks := [1, 4, 16, 17, 23, 24, 25]) (r := [(1, pB b1 0), (4, .slice e1 p3.length q1), (16, .agg #[v0_x0_holds, v1_x0_holds, v2_x0_holds, v3_x0_holds, v4_x0_holds, v5_x0_holds, v6_x0_holds, v7_x0_holds, v8_x0_holds]), (17, vI y4), (23, .slice e1 p3.length q1), (24, vI (p3.length : Int)), (25, vI (w64 (y1 + (1 : Int))))]) hf46 (by kernel_rfl)
        exact ⟨n2, Nat.lt_succ_self n2, z6, (w64 (y1 + (1 : Int))), (Zone.le_trans (Zone.le_trans k6 k8) k9), hf47, (St.drop 1 hS9), hr24⟩
    ·have hr25 := cond_f hb5 hr9
     refine w_exit (id := 2) (by kernel_rfl) ?_
     refine x_then ?_
     refine x_then ?_
     refine x_block ?_
     refine n_then ?_
     refine w_sr (by kernel_rfl) ?_
     refine p_qn 1 [] [(1, pB b1 0), (16, .agg #[v0_x0_holds, v1_x0_holds, v2_x0_holds, v3_x0_holds, v4_x0_holds, v5_x0_holds, v6_x0_holds, v7_x0_holds, v8_x0_holds]), (17, vI y4), (57, .slice e1 p3.length q1)] [] hf17 (by kernel_rfl) .nil fun a39 hf48 => ?_
     obtain ⟨r3, hd4, hr26⟩ := bind_some hr25
     refine p_call (i := 1) (d := some 58) (f := 75) (args := #[.slice e1 p3.length q1]) hf48 (by kernel_rfl) (f75_ok fuel p3 r3 hd4 z3 _ _ hS4 e1 q1 (SliceR.mono k6 hx1)) ?_
     rintro v4 ww13 a40 ⟨z8, k11, rfl, hS13⟩ hf49
     refine ⟨fun _ => trivial, ?_⟩
     refine p_qt [] [(1, pB b1 0), (16, .agg #[v0_x0_holds, v1_x0_holds, v2_x0_holds, v3_x0_holds, v4_x0_holds, v5_x0_holds, v6_x0_holds, v7_x0_holds, v8_x0_holds]), (17, vI y4), (59, .bool (decide (r3 > (100000000 : Int))))] [] hf49 (by kernel_rfl) .nil fun a41 hf50 => ?_
     refine w_if hf50 (b := (decide (r3 > (100000000 : Int)))) (by kernel_rfl) (fun hb12 => ?_) (fun hb12 => ?_)
     ·have hr27 := cond_t hb12 hr26
      refine w_sq [] [(2, vI 62)] [] hf50 (by kernel_rfl) .nil fun a42 hf51 => ?_
      refine w_ret (by kernel_rfl) ?_
      refine r_block ?_
      refine r_then ?_
      refine r_then ?_
      refine r_block ?_
      refine r_then ?_
      refine p_ret (os := []) (v := vI 62) (obs := []) hf51 (by kernel_rfl) .nil ?_
      obtain rfl := some_eq hr27
      exact ⟨_, rfl, z8, (Zone.le_trans (Zone.le_trans (Zone.le_trans k4 k5) k6) k11), rfl, (St.drop 1 hS13)⟩
     ·have hr28 := cond_f hb12 hr26
      refine w_skip (by kernel_rfl) ?_
      refine n_block ?_
      refine n_then ?_
      refine w_q [] [(1, pB b1 0), (16, .agg #[v0_x0_holds, v1_x0_holds, v2_x0_holds, v3_x0_holds, v4_x0_holds, v5_x0_holds, v6_x0_holds, v7_x0_holds, v8_x0_holds]), (17, vI (w64 (y4 + (1 : Int))))] [] hf50 (by kernel_rfl) .nil fun a43 hf52 => ?_
      refine n_then ?_
      have hf53 := Fr.keep (ks := [1, 16, 17]) (r := [(1, pB b1 0), (16, .agg #[v0_x0_holds, v1_x0_holds, v2_x0_holds, v3_x0_holds, v4_x0_holds, v5_x0_holds, v6_x0_holds, v7_x0_holds, v8_x0_holds]), (17, vI (w64 (y4 + (1 : Int))))]) hf52 (by kernel_rfl)
      exact ⟨n3, Nat.lt_succ_self n3, z8, (w64 (y4 + (1 : Int))), (Zone.le_trans (Zone.le_trans k5 k6) k11), hf53, hS13, hr28⟩
  ·have hr29 := cond_f hb2 hr4
   refine w_exit (id := 0) (by kernel_rfl) ?_
   refine x_then ?_
   refine x_then ?_
   refine x_block ?_
   refine n_then ?_
   refine w_sq [] [(2, vI 0)] [] hf10 (by kernel_rfl) .nil fun a44 hf54 => ?_
   refine w_ret (by kernel_rfl) ?_
   refine p_ret (os := []) (v := vI 0) (obs := []) hf54 (by kernel_rfl) .nil ?_
   obtain rfl := some_eq hr29
   exact ⟨_, rfl, z2, (Zone.le_trans k4 k5), rfl, (St.drop 1 hS3)⟩
def F103 (fuel : Nat) (x0_lots : List Lot) (x0_holds : List (List (List Part))) (x1 : Int) : Option (Int) :=
  ((F21 fuel x0_lots x0_holds).bind fun r1 => (cond (r1 != (0 : Int)) (some (r1)) ((F130 fuel x1).bind fun r2 => (cond (!r2) (some (1)) (some (0))))))
set_option maxRecDepth 100000 in
theorem f103_ok (fuel : Nat) (x0_lots : List Lot) (x0_holds : List (List (List Part))) (x1 : Int) (r : Int) (hr : F103 fuel x0_lots x0_holds x1 = some r) (h : Zone) (L : List Atom) (w : World) (hS : St h L w) (o_x0_lots : Option Addr) (c_x0_lots : Nat) (hx_x0_lots : SliceR LotT h o_x0_lots c_x0_lots x0_lots) (v0_x0_holds v1_x0_holds v2_x0_holds v3_x0_holds v4_x0_holds v5_x0_holds v6_x0_holds v7_x0_holds v8_x0_holds : Value) (hx_x0_holds : (Ty.arr 9 (Ty.slice (Ty.slice PartT))).rep h [v0_x0_holds, v1_x0_holds, v2_x0_holds, v3_x0_holds, v4_x0_holds, v5_x0_holds, v6_x0_holds, v7_x0_holds, v8_x0_holds] x0_holds) :
    Calls Try.prog 103 #[.agg #[.slice o_x0_lots x0_lots.length c_x0_lots, v0_x0_holds, v1_x0_holds, v2_x0_holds, v3_x0_holds, v4_x0_holds, v5_x0_holds, v6_x0_holds, v7_x0_holds, v8_x0_holds], vI x1] w fun e w' => ∃ v, e = .returned v ∧ (∃ h', Zone.le h h' ∧ v = vI r ∧ St h' L w') := by
 refine calls_intro (N := 14) Try.func103 (by kernel_rfl) fun a hf => ?_
 refine w_sr (by kernel_rfl) ?_
 refine p_box (i := 0) (d := (some 2)) (cs := [.slice o_x0_lots x0_lots.length c_x0_lots, v0_x0_holds, v1_x0_holds, v2_x0_holds, v3_x0_holds, v4_x0_holds, v5_x0_holds, v6_x0_holds, v7_x0_holds, v8_x0_holds]) (T := 26) (v := fun b1 => pB b1 0) hS hf (fun b => by kernel_rfl) fun b1 ww1 a1 hS1 hf1 => ⟨fun _ => trivial, ?_⟩
 refine p_qt [] [(1, vI x1), (2, pB b1 0)] [] hf1 (by kernel_rfl) .nil fun a2 hf2 => ?_
 refine w_seq (by kernel_rfl) ?_
 refine w_sr (by kernel_rfl) ?_
 refine p_qn 1 [.slice o_x0_lots x0_lots.length c_x0_lots, v0_x0_holds, v1_x0_holds, v2_x0_holds, v3_x0_holds, v4_x0_holds, v5_x0_holds, v6_x0_holds, v7_x0_holds, v8_x0_holds] [(1, vI x1), (6, .agg #[.slice o_x0_lots x0_lots.length c_x0_lots, v0_x0_holds, v1_x0_holds, v2_x0_holds, v3_x0_holds, v4_x0_holds, v5_x0_holds, v6_x0_holds, v7_x0_holds, v8_x0_holds])] [.cell ⟨b1, 0, none⟩ (.slice o_x0_lots x0_lots.length c_x0_lots), .cell ⟨b1, 1, none⟩ (v0_x0_holds), .cell ⟨b1, 2, none⟩ (v1_x0_holds), .cell ⟨b1, 3, none⟩ (v2_x0_holds), .cell ⟨b1, 4, none⟩ (v3_x0_holds), .cell ⟨b1, 5, none⟩ (v4_x0_holds), .cell ⟨b1, 6, none⟩ (v5_x0_holds), .cell ⟨b1, 7, none⟩ (v6_x0_holds), .cell ⟨b1, 8, none⟩ (v7_x0_holds), .cell ⟨b1, 9, none⟩ (v8_x0_holds)] hf2 (by kernel_rfl) (.cell (hS1.box (i := 0) rfl (j := 0) rfl) (.cell (hS1.box (i := 0) rfl (j := 1) rfl) (.cell (hS1.box (i := 0) rfl (j := 2) rfl) (.cell (hS1.box (i := 0) rfl (j := 3) rfl) (.cell (hS1.box (i := 0) rfl (j := 4) rfl) (.cell (hS1.box (i := 0) rfl (j := 5) rfl) (.cell (hS1.box (i := 0) rfl (j := 6) rfl) (.cell (hS1.box (i := 0) rfl (j := 7) rfl) (.cell (hS1.box (i := 0) rfl (j := 8) rfl) (.cell (hS1.box (i := 0) rfl (j := 9) rfl) .nil)))))))))) fun a3 hf3 => ?_
 obtain ⟨r1, hd1, hr1⟩ := bind_some hr
 refine p_call (i := 1) (d := some 7) (f := 21) (args := #[.agg #[.slice o_x0_lots x0_lots.length c_x0_lots, v0_x0_holds, v1_x0_holds, v2_x0_holds, v3_x0_holds, v4_x0_holds, v5_x0_holds, v6_x0_holds, v7_x0_holds, v8_x0_holds]]) hf3 (by kernel_rfl) (f21_ok fuel x0_lots x0_holds r1 hd1 h _ _ hS1 o_x0_lots c_x0_lots hx_x0_lots v0_x0_holds v1_x0_holds v2_x0_holds v3_x0_holds v4_x0_holds v5_x0_holds v6_x0_holds v7_x0_holds v8_x0_holds (Ty.mono _ (Zone.le_refl _) hx_x0_holds)) ?_
 rintro v1 ww2 a4 ⟨z1, k1, rfl, hS2⟩ hf4
 refine ⟨fun _ => trivial, ?_⟩
 refine p_qt [] [(1, vI x1), (5, vI r1)] [] hf4 (by kernel_rfl) .nil fun a5 hf5 => ?_
 refine w_sq [] [(1, vI x1), (5, vI r1), (9, .bool (r1 != (0 : Int)))] [] hf5 (by kernel_rfl) .nil fun a6 hf6 => ?_
 refine w_if hf6 (b := (r1 != (0 : Int))) (by kernel_rfl) (fun hb1 => ?_) (fun hb1 => ?_)
 ·have hr2 := cond_t hb1 hr1
  refine w_sq [] [(4, vI r1)] [] hf6 (by kernel_rfl) .nil fun a7 hf7 => ?_
  refine w_ret (by kernel_rfl) ?_
  refine r_then ?_
  refine p_ret (os := []) (v := vI r1) (obs := []) hf7 (by kernel_rfl) .nil ?_
  obtain rfl := some_eq hr2
  exact ⟨_, rfl, z1, k1, rfl, (St.drop 1 hS2)⟩
 ·have hr3 := cond_f hb1 hr1
  refine w_skip (by kernel_rfl) ?_
  refine n_then ?_
  refine w_seq (by kernel_rfl) ?_
  refine w_sr (by kernel_rfl) ?_
  refine p_qn 1 [] [(11, vI x1)] [] hf6 (by kernel_rfl) .nil fun a8 hf8 => ?_
  obtain ⟨r2, hd2, hr4⟩ := bind_some hr3
  refine p_call (i := 1) (d := some 12) (f := 130) (args := #[vI x1]) hf8 (by kernel_rfl) (f130_ok fuel x1 r2 hd2 z1 _ _ hS2 ) ?_
  rintro v2 ww3 a9 ⟨z2, k2, rfl, hS3⟩ hf9
  refine ⟨fun _ => trivial, ?_⟩
  refine p_qt [] [(13, .bool (!r2))] [] hf9 (by kernel_rfl) .nil fun a10 hf10 => ?_
  refine w_if hf10 (b := (!r2)) (by kernel_rfl) (fun hb2 => ?_) (fun hb2 => ?_)
  ·have hr5 := cond_t hb2 hr4
   refine w_sq [] [(4, vI 1)] [] hf10 (by kernel_rfl) .nil fun a11 hf11 => ?_
   refine w_ret (by kernel_rfl) ?_
   refine r_then ?_
   refine p_ret (os := []) (v := vI 1) (obs := []) hf11 (by kernel_rfl) .nil ?_
   obtain rfl := some_eq hr5
   exact ⟨_, rfl, z2, (Zone.le_trans k1 k2), rfl, (St.drop 1 hS3)⟩
  ·have hr6 := cond_f hb2 hr4
   refine w_skip (by kernel_rfl) ?_
   refine n_then ?_
   refine w_sq [] [(4, vI 0)] [] hf10 (by kernel_rfl) .nil fun a12 hf12 => ?_
   refine w_ret (by kernel_rfl) ?_
   refine p_ret (os := []) (v := vI 0) (obs := []) hf12 (by kernel_rfl) .nil ?_
   obtain rfl := some_eq hr6
   exact ⟨_, rfl, z2, (Zone.le_trans k1 k2), rfl, (St.drop 1 hS3)⟩
def F117_l1 (x0 : Int) (x1 : Int) : Nat → Int → Int → Option (Int × Int)
  | 0, _, _ => none
  | n1 + 1, y1, y2 =>
    let k1 : Int → Int → Option (Int × Int) := F117_l1 x0 x1 n1
    (cond (decide (y2 > (0 : Int))) ((nz y2).bind fun _ => (k1 y2 (Int.tmod y1 y2))) ((nz y1).bind fun _ => ((nz y1).bind fun _ => (some ((w64 (Int.tdiv x0 y1)), (w64 (Int.tdiv x1 y1)))))))
def F117 (fuel : Nat) (x0 : Int) (x1 : Int) : Option (Int × Int) :=
  (F117_l1 x0 x1 fuel x0 x1)
set_option maxRecDepth 100000 in
theorem f117_ok (fuel : Nat) (x0 : Int) (x1 : Int) (r : Int × Int) (hr : F117 fuel x0 x1 = some r) (h : Zone) (L : List Atom) (w : World) (hS : St h L w)  :
    Calls Try.prog 117 #[vI x0, vI x1] w fun e w' => ∃ v, e = .returned v ∧ (∃ h', Zone.le h h' ∧ v = .agg #[vI r.1, vI r.2] ∧ St h' L w') := by
 refine calls_intro (N := 22) Try.func117 (by kernel_rfl) fun a hf => ?_
 refine w_sr (by kernel_rfl) ?_
 refine p_box (i := 0) (d := (some 4)) (cs := [vI 0, vI 0]) (T := 100) (v := fun b1 => pB b1 0) hS hf (fun b => by kernel_rfl) fun b1 ww1 a1 hS1 hf1 => ⟨fun _ => trivial, ?_⟩
 refine p_dt (by kernel_rfl) ?_
 refine w_sq [] [(0, vI x0), (1, vI x1), (4, pB b1 0), (5, vI x0), (6, vI x1)] [] hf1 (by kernel_rfl) .nil fun a2 hf2 => ?_
 refine w_seq (by kernel_rfl) ?_
 refine w_block (id := 0) (by kernel_rfl) ?_
 have hf3 := Fr.keep (ks := [0, 1, 4, 5, 6]) (r := [(0, vI x0), (1, vI x1), (4, pB b1 0), (5, vI x0), (6, vI x1)]) hf2 (by kernel_rfl)
 refine w_loop (by kernel_rfl) (fun n a w => ∃ z1 : Zone, ∃ y1 : Int, ∃ y2 : Int, Zone.le h z1 ∧ Fr a 22 [(0, vI x0), (1, vI x1), (4, pB b1 0), (5, vI y1), (6, vI y2)] ∧ St z1 (box b1 [vI 0, vI 0] 100 :: L) w ∧ (F117_l1 x0 x1 n y1 y2) = some r) fuel ⟨h, x0, x1, (Zone.le_refl _), hf3, hS1, hr⟩ ?_
 rintro n2 a3 ww2 ⟨z1, y1, y2, k2, hf4, hS2, hr1⟩
 cases n2 with
 | zero => cases hr1
 | succ n1 =>
 refine w_seq (by kernel_rfl) ?_
 refine w_sq [] [(0, vI x0), (1, vI x1), (4, pB b1 0), (5, vI y1), (6, vI y2), (10, .bool (decide (y2 > (0 : Int))))] [] hf4 (by kernel_rfl) .nil fun a4 hf5 => ?_
 refine w_if hf5 (b := (decide (y2 > (0 : Int)))) (by kernel_rfl) (fun hb1 => ?_) (fun hb1 => ?_)
 ·have hr2 := cond_t hb1 hr1
  refine w_skip (by kernel_rfl) ?_
  refine n_then ?_
  refine w_block (id := 1) (by kernel_rfl) ?_
  have hS3 := hS2.drew
  obtain ⟨u1, hd1, hr3⟩ := bind_some hr2
  refine w_qD [(0, true), (1, true), (2, true), (3, true), (4, true), (5, true)] [] [] [(0, vI x0), (1, vI x1), (4, pB b1 0), (5, vI y2), (6, vI (Int.tmod y1 y2))] [.prop (y2 ≠ 0)] [] hf5 (by kernel_rfl) (.prop (nz_spec hd1) .nil) .nil fun a5 hf6 => ?_
  refine n_block ?_
  refine n_then ?_
  have hf7 := Fr.keep (ks := [0, 1, 4, 5, 6]) (r := [(0, vI x0), (1, vI x1), (4, pB b1 0), (5, vI y2), (6, vI (Int.tmod y1 y2))]) hf6 (by kernel_rfl)
  exact ⟨n1, Nat.lt_succ_self n1, z1, y2, (Int.tmod y1 y2), k2, hf7, hS3, hr3⟩
 ·have hr4 := cond_f hb1 hr1
  refine w_exit (id := 0) (by kernel_rfl) ?_
  refine x_then ?_
  refine x_then ?_
  refine x_block ?_
  refine n_then ?_
  refine w_seq (by kernel_rfl) ?_
  have hS4 := hS2.drew
  refine w_regD (by kernel_rfl) [(0, true), (1, true), (2, true), (3, true), (4, true), (5, true), (6, true), (7, false)] [7] (fun x => x = ww2.drew) (by kernel_rfl) rfl ?_
  obtain ⟨u2, hd2, hr5⟩ := bind_some hr4
  obtain ⟨u3, hd3, hr6⟩ := bind_some hr5
  refine p_qE 7 [] [(4, pB b1 0), (21, .agg #[vI (w64 (Int.tdiv x0 y1)), vI (w64 (Int.tdiv x1 y1))])] [.prop (y1 ≠ 0), .prop (y1 ≠ 0)] [] hf5 (by kernel_rfl) (.prop (nz_spec hd2) (.prop (nz_spec hd3) .nil)) .nil fun a6 hf8 => ?_
  refine p_store_eq (i := 7) (j := 0) (b := b1) (off := 0) (vs := [vI (w64 (Int.tdiv x0 y1)), vI (w64 (Int.tdiv x1 y1))]) (cs' := [vI (w64 (Int.tdiv x0 y1)), vI (w64 (Int.tdiv x1 y1))]) hS4 hf8 rfl (by kernel_rfl) (by kernel_rfl) rfl fun ww3 a7 hS5 hf9 => ⟨fun e => absurd e (by decide), ?_⟩
  refine p_dt (by kernel_rfl) ?_
  refine w_ret (by kernel_rfl) ?_
  refine p_ret (os := [vI (w64 (Int.tdiv x0 y1)), vI (w64 (Int.tdiv x1 y1))]) (v := .agg #[vI (w64 (Int.tdiv x0 y1)), vI (w64 (Int.tdiv x1 y1))]) (obs := [.cell ⟨b1, 0, none⟩ (vI (w64 (Int.tdiv x0 y1))), .cell ⟨b1, 1, none⟩ (vI (w64 (Int.tdiv x1 y1)))]) hf9 (by kernel_rfl) (.cell (hS5.box (i := 0) rfl (j := 0) rfl) (.cell (hS5.box (i := 0) rfl (j := 1) rfl) .nil)) ?_
  obtain rfl := some_eq hr6
  exact ⟨_, rfl, z1, k2, rfl, (St.drop 1 hS5)⟩
def F61_l2 (fuel : Nat) (k1 : Int → Int → Option (Int × Int × Int)) (x0_lots : List Lot) (y1 : Int) (p1 : List Part) : Nat → Int → Int → Option (Int × Int × Int)
  | 0, _, _ => none
  | n1 + 1, y2, y3 =>
    let k2 : Int → Int → Option (Int × Int × Int) := F61_l2 fuel k1 x0_lots y1 p1 n1
    (cond (decide (y3 < (p1.length : Int))) ((getI p1 y3).bind fun p2 => ((F74 fuel x0_lots p2.lot).bind fun r1 => ((getI x0_lots r1.1).bind fun p3 => (k2 (w64 (y2 + (w64 (p2.mass * p3.wet)))) (w64 (y3 + (1 : Int))))))) (k1 y2 (w64 (y1 + (1 : Int)))))
def F61_l1 (fuel : Nat) (x0_lots : List Lot) (r2 : Int) (p4 : List (List Part)) : Nat → Int → Int → Option (Int × Int × Int)
  | 0, _, _ => none
  | n2 + 1, y4, y1 =>
    let k1 : Int → Int → Option (Int × Int × Int) := F61_l1 fuel x0_lots r2 p4 n2
    (cond (decide (y1 < (p4.length : Int))) ((getI p4 y1).bind fun p1 => (F61_l2 fuel k1 x0_lots y1 p1 fuel y4 0)) ((F117 fuel y4 r2).bind fun r3 => (some (r3.1, r3.2, 0))))
def F61 (fuel : Nat) (x0_lots : List Lot) (x0_holds : List (List (List Part))) (x1 : Int) : Option (Int × Int × Int) :=
  ((F103 fuel x0_lots x0_holds x1).bind fun r4 => (cond (r4 != (0 : Int)) (some (0, 0, r4)) ((getI x0_holds x1).bind fun p5 => ((F75 fuel p5).bind fun r2 => (cond (r2 == (0 : Int)) (some (0, 0, 3)) ((getI x0_holds x1).bind fun p4 => (F61_l1 fuel x0_lots r2 p4 fuel 0 0)))))))
set_option maxRecDepth 100000 in
theorem f61_ok (fuel : Nat) (x0_lots : List Lot) (x0_holds : List (List (List Part))) (x1 : Int) (r : Int × Int × Int) (hr : F61 fuel x0_lots x0_holds x1 = some r) (h : Zone) (L : List Atom) (w : World) (hS : St h L w) (o_x0_lots : Option Addr) (c_x0_lots : Nat) (hx_x0_lots : SliceR LotT h o_x0_lots c_x0_lots x0_lots) (v0_x0_holds v1_x0_holds v2_x0_holds v3_x0_holds v4_x0_holds v5_x0_holds v6_x0_holds v7_x0_holds v8_x0_holds : Value) (hx_x0_holds : (Ty.arr 9 (Ty.slice (Ty.slice PartT))).rep h [v0_x0_holds, v1_x0_holds, v2_x0_holds, v3_x0_holds, v4_x0_holds, v5_x0_holds, v6_x0_holds, v7_x0_holds, v8_x0_holds] x0_holds) :
    Calls Try.prog 61 #[.agg #[.slice o_x0_lots x0_lots.length c_x0_lots, v0_x0_holds, v1_x0_holds, v2_x0_holds, v3_x0_holds, v4_x0_holds, v5_x0_holds, v6_x0_holds, v7_x0_holds, v8_x0_holds], vI x1] w fun e w' => ∃ v, e = .returned v ∧ (∃ h', Zone.le h h' ∧ v = .tuple #[.agg #[vI r.1, vI r.2.1], vI r.2.2] ∧ St h' L w') := by
 refine calls_intro (N := 70) Try.func61 (by kernel_rfl) fun a hf => ?_
 refine w_sr (by kernel_rfl) ?_
 refine p_box (i := 0) (d := (some 2)) (cs := [.slice o_x0_lots x0_lots.length c_x0_lots, v0_x0_holds, v1_x0_holds, v2_x0_holds, v3_x0_holds, v4_x0_holds, v5_x0_holds, v6_x0_holds, v7_x0_holds, v8_x0_holds]) (T := 26) (v := fun b1 => pB b1 0) hS hf (fun b => by kernel_rfl) fun b1 ww1 a1 hS1 hf1 => ⟨fun _ => trivial, ?_⟩
 refine p_box (i := 1) (d := (some 4)) (cs := [vI 0, vI 0]) (T := 100) (v := fun b2 => pB b2 0) hS1 hf1 (fun b => by kernel_rfl) fun b2 ww2 a2 hS2 hf2 => ⟨fun _ => trivial, ?_⟩
 refine p_qt [] [(1, vI x1), (2, pB b1 0), (4, pB b2 0)] [] hf2 (by kernel_rfl) .nil fun a3 hf3 => ?_
 refine w_seq (by kernel_rfl) ?_
 refine w_sr (by kernel_rfl) ?_
 refine p_qn 2 [.slice o_x0_lots x0_lots.length c_x0_lots, v0_x0_holds, v1_x0_holds, v2_x0_holds, v3_x0_holds, v4_x0_holds, v5_x0_holds, v6_x0_holds, v7_x0_holds, v8_x0_holds] [(1, vI x1), (2, pB b1 0), (4, pB b2 0), (15, .agg #[.slice o_x0_lots x0_lots.length c_x0_lots, v0_x0_holds, v1_x0_holds, v2_x0_holds, v3_x0_holds, v4_x0_holds, v5_x0_holds, v6_x0_holds, v7_x0_holds, v8_x0_holds]), (16, vI x1)] [.cell ⟨b1, 0, none⟩ (.slice o_x0_lots x0_lots.length c_x0_lots), .cell ⟨b1, 1, none⟩ (v0_x0_holds), .cell ⟨b1, 2, none⟩ (v1_x0_holds), .cell ⟨b1, 3, none⟩ (v2_x0_holds), .cell ⟨b1, 4, none⟩ (v3_x0_holds), .cell ⟨b1, 5, none⟩ (v4_x0_holds), .cell ⟨b1, 6, none⟩ (v5_x0_holds), .cell ⟨b1, 7, none⟩ (v6_x0_holds), .cell ⟨b1, 8, none⟩ (v7_x0_holds), .cell ⟨b1, 9, none⟩ (v8_x0_holds)] hf3 (by kernel_rfl) (.cell (hS2.box (i := 1) rfl (j := 0) rfl) (.cell (hS2.box (i := 1) rfl (j := 1) rfl) (.cell (hS2.box (i := 1) rfl (j := 2) rfl) (.cell (hS2.box (i := 1) rfl (j := 3) rfl) (.cell (hS2.box (i := 1) rfl (j := 4) rfl) (.cell (hS2.box (i := 1) rfl (j := 5) rfl) (.cell (hS2.box (i := 1) rfl (j := 6) rfl) (.cell (hS2.box (i := 1) rfl (j := 7) rfl) (.cell (hS2.box (i := 1) rfl (j := 8) rfl) (.cell (hS2.box (i := 1) rfl (j := 9) rfl) .nil)))))))))) fun a4 hf4 => ?_
 obtain ⟨r4, hd1, hr1⟩ := bind_some hr
 refine p_call (i := 2) (d := some 17) (f := 103) (args := #[.agg #[.slice o_x0_lots x0_lots.length c_x0_lots, v0_x0_holds, v1_x0_holds, v2_x0_holds, v3_x0_holds, v4_x0_holds, v5_x0_holds, v6_x0_holds, v7_x0_holds, v8_x0_holds], vI x1]) hf4 (by kernel_rfl) (f103_ok fuel x0_lots x0_holds x1 r4 hd1 h _ _ hS2 o_x0_lots c_x0_lots hx_x0_lots v0_x0_holds v1_x0_holds v2_x0_holds v3_x0_holds v4_x0_holds v5_x0_holds v6_x0_holds v7_x0_holds v8_x0_holds (Ty.mono _ (Zone.le_refl _) hx_x0_holds)) ?_
 rintro v1 ww3 a5 ⟨z1, k3, rfl, hS3⟩ hf5
 refine ⟨fun _ => trivial, ?_⟩
 refine p_qt [] [(1, vI x1), (2, pB b1 0), (4, pB b2 0), (6, vI r4)] [] hf5 (by kernel_rfl) .nil fun a6 hf6 => ?_
 refine w_sq [] [(1, vI x1), (2, pB b1 0), (4, pB b2 0), (6, vI r4), (19, .bool (r4 != (0 : Int)))] [] hf6 (by kernel_rfl) .nil fun a7 hf7 => ?_
 refine w_if hf7 (b := (r4 != (0 : Int))) (by kernel_rfl) (fun hb1 => ?_) (fun hb1 => ?_)
 ·have hr2 := cond_t hb1 hr1
  refine w_sr (by kernel_rfl) ?_
  refine p_qn 2 [] [(4, pB b2 0), (20, .agg #[vI 0, vI 0]), (21, vI r4)] [] hf7 (by kernel_rfl) .nil fun a8 hf8 => ?_
  refine p_store_eq (i := 2) (j := 0) (b := b2) (off := 0) (vs := [vI 0, vI 0]) (cs' := [vI 0, vI 0]) hS3 hf8 rfl (by kernel_rfl) (by kernel_rfl) rfl fun ww4 a9 hS4 hf9 => ⟨fun _ => trivial, ?_⟩
  refine p_qt [] [(4, pB b2 0), (5, vI r4)] [] hf9 (by kernel_rfl) .nil fun a10 hf10 => ?_
  refine w_ret (by kernel_rfl) ?_
  refine r_then ?_
  refine p_ret (os := [vI 0, vI 0]) (v := .tuple #[.agg #[vI 0, vI 0], vI r4]) (obs := [.cell ⟨b2, 0, none⟩ (vI 0), .cell ⟨b2, 1, none⟩ (vI 0)]) hf10 (by kernel_rfl) (.cell (hS4.box (i := 0) rfl (j := 0) rfl) (.cell (hS4.box (i := 0) rfl (j := 1) rfl) .nil)) ?_
  obtain rfl := some_eq hr2
  exact ⟨_, rfl, z1, k3, rfl, (St.drop 2 hS4)⟩
 ·have hr3 := cond_f hb1 hr1
  refine w_skip (by kernel_rfl) ?_
  refine n_then ?_
  refine w_sr (by kernel_rfl) ?_
  obtain ⟨p5, hp78, hr4⟩ := bind_some hr3
  obtain ⟨hb2, _, hv1, e1, q1, hehv82, hx1⟩ := arrGet (Ty.mono _ k3 hx_x0_holds) rfl hp78
  obtain rfl := List.head_eq_of_cons_eq hehv82
  refine p_qn 4 [.slice e1 p5.length q1] [(1, vI x1), (2, pB b1 0), (4, pB b2 0), (25, .slice e1 p5.length q1)] [.prop (0 ≤ x1 ∧ x1 < (9 : Nat)), .cell ((⟨b1, 1, none⟩ : Addr).add (Int.toNat x1 * 1)) (.slice e1 p5.length q1)] hf7 (by kernel_rfl) (.prop hb2 (.cell ((arrAddr b1 1 x1.toNat) ▸ (hS3.box (i := 1) rfl (getElem?_app_right [.slice o_x0_lots x0_lots.length c_x0_lots] _ _ hv1 []))) .nil)) fun a11 hf11 => ?_
  obtain ⟨r2, hd2, hr5⟩ := bind_some hr4
  refine p_call (i := 4) (d := some 26) (f := 75) (args := #[.slice e1 p5.length q1]) hf11 (by kernel_rfl) (f75_ok fuel p5 r2 hd2 z1 _ _ hS3 e1 q1 hx1) ?_
  rintro v2 ww5 a12 ⟨z2, k4, rfl, hS5⟩ hf12
  refine ⟨fun _ => trivial, ?_⟩
  refine p_qt [] [(1, vI x1), (2, pB b1 0), (4, pB b2 0), (7, vI r2), (8, vI 0)] [] hf12 (by kernel_rfl) .nil fun a13 hf13 => ?_
  refine w_seq (by kernel_rfl) ?_
  refine w_sq [] [(1, vI x1), (2, pB b1 0), (4, pB b2 0), (7, vI r2), (8, vI 0), (28, .bool (r2 == (0 : Int)))] [] hf13 (by kernel_rfl) .nil fun a14 hf14 => ?_
  refine w_if hf14 (b := (r2 == (0 : Int))) (by kernel_rfl) (fun hb3 => ?_) (fun hb3 => ?_)
  ·have hr6 := cond_t hb3 hr5
   refine w_sr (by kernel_rfl) ?_
   refine p_qn 1 [] [(4, pB b2 0), (29, .agg #[vI 0, vI 0])] [] hf14 (by kernel_rfl) .nil fun a15 hf15 => ?_
   refine p_store_eq (i := 1) (j := 0) (b := b2) (off := 0) (vs := [vI 0, vI 0]) (cs' := [vI 0, vI 0]) hS5 hf15 rfl (by kernel_rfl) (by kernel_rfl) rfl fun ww6 a16 hS6 hf16 => ⟨fun _ => trivial, ?_⟩
   refine p_qt [] [(4, pB b2 0), (5, vI 3)] [] hf16 (by kernel_rfl) .nil fun a17 hf17 => ?_
   refine w_ret (by kernel_rfl) ?_
   refine r_then ?_
   refine p_ret (os := [vI 0, vI 0]) (v := .tuple #[.agg #[vI 0, vI 0], vI 3]) (obs := [.cell ⟨b2, 0, none⟩ (vI 0), .cell ⟨b2, 1, none⟩ (vI 0)]) hf17 (by kernel_rfl) (.cell (hS6.box (i := 0) rfl (j := 0) rfl) (.cell (hS6.box (i := 0) rfl (j := 1) rfl) .nil)) ?_
   obtain rfl := some_eq hr6
   exact ⟨_, rfl, z2, (Zone.le_trans k3 k4), rfl, (St.drop 2 hS6)⟩
  ·have hr7 := cond_f hb3 hr5
   refine w_skip (by kernel_rfl) ?_
   refine n_then ?_
   refine w_seq (by kernel_rfl) ?_
   obtain ⟨p4, hp4131, hr8⟩ := bind_some hr7
   obtain ⟨hb4, _, hv2, e2, q2, hehv4135, hx2⟩ := arrGet (Ty.mono _ (Zone.le_trans k3 k4) hx_x0_holds) rfl hp4131
   obtain rfl := List.head_eq_of_cons_eq hehv4135
   refine w_sq [.slice e2 p4.length q2] [(2, pB b1 0), (4, pB b2 0), (7, vI r2), (8, vI 0), (33, .slice e2 p4.length q2), (34, vI (p4.length : Int)), (35, vI 0)] [.prop (0 ≤ x1 ∧ x1 < (9 : Nat)), .cell ((⟨b1, 1, none⟩ : Addr).add (Int.toNat x1 * 1)) (.slice e2 p4.length q2)] hf14 (by kernel_rfl) (.prop hb4 (.cell ((arrAddr b1 1 x1.toNat) ▸ (hS5.box (i := 1) rfl (getElem?_app_right [.slice o_x0_lots x0_lots.length c_x0_lots] _ _ hv2 []))) .nil)) fun a18 hf18 => ?_
   refine w_block (id := 0) (by kernel_rfl) ?_
   have hf19 := Fr.keep (ks := [2, 4, 7, 8, 33, 34, 35]) (r := [(2, pB b1 0), (4, pB b2 0), (7, vI r2), (8, vI 0), (33, .slice e2 p4.length q2), (34, vI (p4.length : Int)), (35, vI 0)]) hf18 (by kernel_rfl)
   refine w_loop (by kernel_rfl) (fun n a w => ∃ z3 : Zone, ∃ y4 : Int, ∃ y1 : Int, Zone.le z2 z3 ∧ Fr a 70 [(2, pB b1 0), (4, pB b2 0), (7, vI r2), (8, vI y4), (33, .slice e2 p4.length q2), (34, vI (p4.length : Int)), (35, vI y1)] ∧ St z3 (box b2 [vI 0, vI 0] 100 :: box b1 [.slice o_x0_lots x0_lots.length c_x0_lots, v0_x0_holds, v1_x0_holds, v2_x0_holds, v3_x0_holds, v4_x0_holds, v5_x0_holds, v6_x0_holds, v7_x0_holds, v8_x0_holds] 26 :: L) w ∧ (F61_l1 fuel x0_lots r2 p4 n y4 y1) = some r) fuel ⟨z2, 0, 0, (Zone.le_refl _), hf19, hS5, hr8⟩ ?_
   rintro n3 a19 ww7 ⟨z3, y4, y1, k5, hf20, hS7, hr9⟩
   cases n3 with
   | zero => cases hr9
   | succ n2 =>
   refine w_sq [] [(2, pB b1 0), (4, pB b2 0), (7, vI r2), (8, vI y4), (33, .slice e2 p4.length q2), (34, vI (p4.length : Int)), (35, vI y1), (36, .bool (decide (y1 < (p4.length : Int))))] [] hf20 (by kernel_rfl) .nil fun a20 hf21 => ?_
   refine w_seq (by kernel_rfl) ?_
   refine w_if hf21 (b := (decide (y1 < (p4.length : Int)))) (by kernel_rfl) (fun hb5 => ?_) (fun hb5 => ?_)
   ·have hr10 := cond_t hb5 hr9
    refine w_skip (by kernel_rfl) ?_
    refine n_then ?_
    refine w_seq (by kernel_rfl) ?_
    refine w_block (id := 1) (by kernel_rfl) ?_
    refine w_sr (by kernel_rfl) ?_
    obtain ⟨p1, hp7635, hr11⟩ := bind_some hr10
    obtain ⟨ad1, ho1, hb6, cc1, hc1, hk1⟩ := SliceR.getI (SliceR.mono k5 hx2) hp7635
    obtain ⟨e3, q3, rfl, hx3⟩ := hc1
    refine p_qn 2 [.pointer (some ad1), .slice e3 p1.length q3] [(2, pB b1 0), (4, pB b2 0), (7, vI r2), (8, vI y4), (33, .slice e2 p4.length q2), (34, vI (p4.length : Int)), (35, vI y1), (38, .agg #[.slice e3 p1.length q3])] [.prop (e2 = some ad1), .prop (0 ≤ y1 ∧ y1 < (p4.length : Nat)), .cell ((ad1.add (Int.toNat y1 * 1)).add 0) (.slice e3 p1.length q3)] hf21 (by kernel_rfl) (.prop ho1 (.prop hb6 (.cell (hS7.cell (hk1 0 _ rfl)) .nil))) fun a21 hf22 => ?_
    refine p_box (i := 2) (d := (some 10)) (cs := [.slice none 0 0]) (T := 40) (v := fun b3 => pB b3 0) hS7 hf22 (fun b => by kernel_rfl) fun b3 ww8 a22 hS8 hf23 => ⟨fun _ => trivial, ?_⟩
    refine p_store_eq (i := 3) (j := 0) (b := b3) (off := 0) (vs := [.slice e3 p1.length q3]) (cs' := [.slice e3 p1.length q3]) hS8 hf23 rfl (by kernel_rfl) (by kernel_rfl) rfl fun ww9 a23 hS9 hf24 => ⟨fun _ => trivial, ?_⟩
    refine p_dt (by kernel_rfl) ?_
    refine w_sq [.slice e3 p1.length q3] [(2, pB b1 0), (4, pB b2 0), (7, vI r2), (8, vI y4), (33, .slice e2 p4.length q2), (34, vI (p4.length : Int)), (35, vI y1), (40, .slice e3 p1.length q3), (41, vI (p1.length : Int)), (42, vI 0)] [.cell ⟨b3, 0, none⟩ (.slice e3 p1.length q3)] hf24 (by kernel_rfl) (.cell (hS9.box (i := 0) rfl (j := 0) rfl) .nil) fun a24 hf25 => ?_
    refine w_block (id := 2) (by kernel_rfl) ?_
    have hf26 := Fr.keep (ks := [2, 4, 7, 8, 33, 34, 35, 40, 41, 42]) (r := [(2, pB b1 0), (4, pB b2 0), (7, vI r2), (8, vI y4), (33, .slice e2 p4.length q2), (34, vI (p4.length : Int)), (35, vI y1), (40, .slice e3 p1.length q3), (41, vI (p1.length : Int)), (42, vI 0)]) hf25 (by kernel_rfl)
    refine w_loop (by kernel_rfl) (fun n a w => ∃ z4 : Zone, ∃ y2 : Int, ∃ y3 : Int, Zone.le z3 z4 ∧ Fr a 70 [(2, pB b1 0), (4, pB b2 0), (7, vI r2), (8, vI y2), (33, .slice e2 p4.length q2), (34, vI (p4.length : Int)), (35, vI y1), (40, .slice e3 p1.length q3), (41, vI (p1.length : Int)), (42, vI y3)] ∧ St z4 (box b3 [.slice e3 p1.length q3] 40 :: box b2 [vI 0, vI 0] 100 :: box b1 [.slice o_x0_lots x0_lots.length c_x0_lots, v0_x0_holds, v1_x0_holds, v2_x0_holds, v3_x0_holds, v4_x0_holds, v5_x0_holds, v6_x0_holds, v7_x0_holds, v8_x0_holds] 26 :: L) w ∧ (F61_l2 fuel (F61_l1 fuel x0_lots r2 p4 n2) x0_lots y1 p1 n y2 y3) = some r) fuel ⟨z3, y4, 0, (Zone.le_refl _), hf26, hS9, hr11⟩ ?_
    rintro n4 a25 ww10 ⟨z4, y2, y3, k6, hf27, hS10, hr12⟩
    cases n4 with
    | zero => cases hr12
    | succ n1 =>
    refine w_sq [] [(2, pB b1 0), (4, pB b2 0), (7, vI r2), (8, vI y2), (33, .slice e2 p4.length q2), (34, vI (p4.length : Int)), (35, vI y1), (40, .slice e3 p1.length q3), (41, vI (p1.length : Int)), (42, vI y3), (43, .bool (decide (y3 < (p1.length : Int))))] [] hf27 (by kernel_rfl) .nil fun a26 hf28 => ?_
    refine w_seq (by kernel_rfl) ?_
    refine w_if hf28 (b := (decide (y3 < (p1.length : Int)))) (by kernel_rfl) (fun hb7 => ?_) (fun hb7 => ?_)
    ·have hr13 := cond_t hb7 hr12
     refine w_skip (by kernel_rfl) ?_
     refine n_then ?_
     refine w_seq (by kernel_rfl) ?_
     refine w_block (id := 3) (by kernel_rfl) ?_
     refine w_sr (by kernel_rfl) ?_
     obtain ⟨p2, hp8072, hr14⟩ := bind_some hr13
     obtain ⟨ad2, ho2, hb8, cc2, hc2, hk2⟩ := SliceR.getI (SliceR.mono k6 hx3) hp8072
     subst hc2
     refine p_qn 2 [.pointer (some ad2), vI p2.lot, vI p2.mass] [(2, pB b1 0), (4, pB b2 0), (7, vI r2), (8, vI y2), (33, .slice e2 p4.length q2), (34, vI (p4.length : Int)), (35, vI y1), (40, .slice e3 p1.length q3), (41, vI (p1.length : Int)), (42, vI y3), (45, .agg #[vI p2.lot, vI p2.mass])] [.prop (e3 = some ad2), .prop (0 ≤ y3 ∧ y3 < (p1.length : Nat)), .cell ((ad2.add (Int.toNat y3 * 2)).add 0) (vI p2.lot), .cell ((ad2.add (Int.toNat y3 * 2)).add 1) (vI p2.mass)] hf28 (by kernel_rfl) (.prop ho2 (.prop hb8 (.cell (hS10.cell (hk2 0 _ rfl)) (.cell (hS10.cell (hk2 1 _ rfl)) .nil)))) fun a27 hf29 => ?_
     refine p_box (i := 2) (d := (some 12)) (cs := [vI 0, vI 0]) (T := 56) (v := fun b4 => pB b4 0) hS10 hf29 (fun b => by kernel_rfl) fun b4 ww11 a28 hS11 hf30 => ⟨fun _ => trivial, ?_⟩
     refine p_store_eq (i := 3) (j := 0) (b := b4) (off := 0) (vs := [vI p2.lot, vI p2.mass]) (cs' := [vI p2.lot, vI p2.mass]) hS11 hf30 rfl (by kernel_rfl) (by kernel_rfl) rfl fun ww12 a29 hS12 hf31 => ⟨fun _ => trivial, ?_⟩
     refine p_dt (by kernel_rfl) ?_
     refine w_sr (by kernel_rfl) ?_
     refine p_qn 4 [.slice o_x0_lots x0_lots.length c_x0_lots, vI p2.lot] [(2, pB b1 0), (4, pB b2 0), (7, vI r2), (8, vI y2), (12, pB b4 0), (33, .slice e2 p4.length q2), (34, vI (p4.length : Int)), (35, vI y1), (40, .slice e3 p1.length q3), (41, vI (p1.length : Int)), (42, vI y3), (48, .slice o_x0_lots x0_lots.length c_x0_lots), (50, vI p2.lot)] [.cell ⟨b1, 0, none⟩ (.slice o_x0_lots x0_lots.length c_x0_lots), .cell ⟨b4, 0, none⟩ (vI p2.lot)] hf31 (by kernel_rfl) (.cell (hS12.box (i := 3) rfl (j := 0) rfl) (.cell (hS12.box (i := 0) rfl (j := 0) rfl) .nil)) fun a30 hf32 => ?_
     obtain ⟨r1, hd3, hr15⟩ := bind_some hr14
     refine p_call (i := 4) (d := some 51) (f := 74) (args := #[.slice o_x0_lots x0_lots.length c_x0_lots, vI p2.lot]) hf32 (by kernel_rfl) (f74_ok fuel x0_lots p2.lot r1 hd3 z4 _ _ hS12 o_x0_lots c_x0_lots (SliceR.mono (Zone.le_trans (Zone.le_trans (Zone.le_trans k3 k4) k5) k6) hx_x0_lots)) ?_
     rintro v3 ww13 a31 ⟨z5, k7, rfl, hS13⟩ hf33
     refine ⟨fun _ => trivial, ?_⟩
     refine p_qt [] [(2, pB b1 0), (4, pB b2 0), (7, vI r2), (8, vI y2), (12, pB b4 0), (13, vI r1.1), (33, .slice e2 p4.length q2), (34, vI (p4.length : Int)), (35, vI y1), (40, .slice e3 p1.length q3), (41, vI (p1.length : Int)), (42, vI y3)] [] hf33 (by kernel_rfl) .nil fun a32 hf34 => ?_
     have hS14 := hS13.drew
     obtain ⟨p3, hp8112, hr16⟩ := bind_some hr15
     obtain ⟨ad3, ho3, hb9, cc3, hc3, hk3⟩ := SliceR.getI (SliceR.mono (Zone.le_trans (Zone.le_trans (Zone.le_trans (Zone.le_trans k3 k4) k5) k6) k7) hx_x0_lots) hp8112
     subst hc3
     refine w_qD [(0, true), (1, true), (2, true), (3, true), (4, true), (5, true), (6, true), (7, true), (8, true), (9, true), (10, true), (11, true)] [] [vI p2.mass, .slice o_x0_lots x0_lots.length c_x0_lots, .pointer (some ad3), vI p3.wet] [(2, pB b1 0), (4, pB b2 0), (7, vI r2), (8, vI (w64 (y2 + (w64 (p2.mass * p3.wet))))), (33, .slice e2 p4.length q2), (34, vI (p4.length : Int)), (35, vI y1), (40, .slice e3 p1.length q3), (41, vI (p1.length : Int)), (42, vI y3)] [.cell ⟨b4, 1, none⟩ (vI p2.mass), .cell ⟨b1, 0, none⟩ (.slice o_x0_lots x0_lots.length c_x0_lots), .prop (o_x0_lots = some ad3), .prop (0 ≤ r1.1 ∧ r1.1 < (x0_lots.length : Nat)), .cell ((ad3.add (Int.toNat r1.1 * 4)).add 3) (vI p3.wet)] [] hf34 (by kernel_rfl) (.cell (hS14.box (i := 0) rfl (j := 1) rfl) (.cell (hS14.box (i := 3) rfl (j := 0) rfl) (.prop ho3 (.prop hb9 (.cell (hS14.cell (hk3 3 _ rfl)) .nil))))) .nil fun a33 hf35 => ?_
     refine n_block ?_
     refine n_then ?_
     refine w_q [] [(2, pB b1 0), (4, pB b2 0), (7, vI r2), (8, vI (w64 (y2 + (w64 (p2.mass * p3.wet))))), (33, .slice e2 p4.length q2), (34, vI (p4.length : Int)), (35, vI y1), (40, .slice e3 p1.length q3), (41, vI (p1.length : Int)), (42, vI (w64 (y3 + (1 : Int))))] [] hf35 (by kernel_rfl) .nil fun a34 hf36 => ?_
     refine n_then ?_
     have hf37 := Fr.keep (ks := [2, 4, 7, 8, 33, 34, 35, 40, 41, 42]) (r := [(2, pB b1 0), (4, pB b2 0), (7, vI r2), (8, vI (w64 (y2 + (w64 (p2.mass * p3.wet))))), (33, .slice e2 p4.length q2), (34, vI (p4.length : Int)), (35, vI y1), (40, .slice e3 p1.length q3), (41, vI (p1.length : Int)), (42, vI (w64 (y3 + (1 : Int))))]) hf36 (by kernel_rfl)
     exact ⟨n1, Nat.lt_succ_self n1, z5, (w64 (y2 + (w64 (p2.mass * p3.wet)))), (w64 (y3 + (1 : Int))), (Zone.le_trans k6 k7), hf37, (St.drop 1 hS14), hr16⟩
    ·have hr17 := cond_f hb7 hr12
     refine w_exit (id := 2) (by kernel_rfl) ?_
     refine x_then ?_
     refine x_then ?_
     refine x_block ?_
     refine n_block ?_
     refine n_then ?_
     refine w_q [] [(2, pB b1 0), (4, pB b2 0), (7, vI r2), (8, vI y2), (33, .slice e2 p4.length q2), (34, vI (p4.length : Int)), (35, vI (w64 (y1 + (1 : Int))))] [] hf28 (by kernel_rfl) .nil fun a35 hf38 => ?_
     refine n_then ?_
     have hf39 := Fr.keep (ks := [2, 4, 7, 8, 33, 34, 35]) (r := [(2, pB b1 0), (4, pB b2 0), (7, vI r2), (8, vI y2), (33, .slice e2 p4.length q2), (34, vI (p4.length : Int)), (35, vI (w64 (y1 + (1 : Int))))]) hf38 (by kernel_rfl)
     exact ⟨n2, Nat.lt_succ_self n2, z4, y2, (w64 (y1 + (1 : Int))), (Zone.le_trans k5 k6), hf39, (St.drop 1 hS10), hr17⟩
   ·have hr18 := cond_f hb5 hr9
    refine w_exit (id := 0) (by kernel_rfl) ?_
    refine x_then ?_
    refine x_then ?_
    refine x_block ?_
    refine n_then ?_
    refine w_sr (by kernel_rfl) ?_
    refine p_qn 2 [] [(4, pB b2 0), (67, vI y4), (68, vI r2)] [] hf21 (by kernel_rfl) .nil fun a36 hf40 => ?_
    obtain ⟨r3, hd4, hr19⟩ := bind_some hr18
    refine p_call (i := 2) (d := some 69) (f := 117) (args := #[vI y4, vI r2]) hf40 (by kernel_rfl) (f117_ok fuel y4 r2 r3 hd4 z3 _ _ hS7 ) ?_
    rintro v4 ww14 a37 ⟨z6, k8, rfl, hS15⟩ hf41
    refine ⟨fun _ => trivial, ?_⟩
    refine p_store_eq (i := 3) (j := 0) (b := b2) (off := 0) (vs := [vI r3.1, vI r3.2]) (cs' := [vI r3.1, vI r3.2]) hS15 hf41 rfl (by kernel_rfl) (by kernel_rfl) rfl fun ww15 a38 hS16 hf42 => ⟨fun _ => trivial, ?_⟩
    refine p_qt [] [(4, pB b2 0), (5, vI 0)] [] hf42 (by kernel_rfl) .nil fun a39 hf43 => ?_
    refine w_ret (by kernel_rfl) ?_
    refine p_ret (os := [vI r3.1, vI r3.2]) (v := .tuple #[.agg #[vI r3.1, vI r3.2], vI 0]) (obs := [.cell ⟨b2, 0, none⟩ (vI r3.1), .cell ⟨b2, 1, none⟩ (vI r3.2)]) hf43 (by kernel_rfl) (.cell (hS16.box (i := 0) rfl (j := 0) rfl) (.cell (hS16.box (i := 0) rfl (j := 1) rfl) .nil)) ?_
    obtain rfl := some_eq hr19
    exact ⟨_, rfl, z6, (Zone.le_trans (Zone.le_trans (Zone.le_trans k3 k4) k5) k8), rfl, (St.drop 2 hS16)⟩
def F69 (fuel : Nat)  : Option (List Lot) :=
  (some ([⟨1, 1, 1, 1300⟩, ⟨2, 2, 1, 1500⟩, ⟨3, 1, 2, 1000⟩]))
set_option maxRecDepth 100000 in
theorem f69_ok (fuel : Nat)  (r : List Lot) (hr : F69 fuel  = some r) (h : Zone) (L : List Atom) (w : World) (hS : St h L w)  :
    Calls Try.prog 69 #[] w fun e w' => ∃ v, e = .returned v ∧ (∃ h', ∃ o0 : Option Addr, ∃ c0 : Nat, Zone.le h h' ∧ v = .slice o0 r.length c0 ∧ St h' L w' ∧ SliceR LotT h' o0 c0 r) := by
 refine calls_intro (N := 5) Try.func69 (by kernel_rfl) fun a hf => ?_
 refine w_sq [] [] [] hf (by kernel_rfl) .nil fun a1 hf1 => ?_
 refine w_sr (by kernel_rfl) ?_
 refine p_qn 3 [] [(1, .agg #[vI 1, vI 1, vI 1, vI 1300]), (2, .agg #[vI 2, vI 2, vI 1, vI 1500]), (3, .agg #[vI 3, vI 1, vI 2, vI 1000])] [] hf1 (by kernel_rfl) .nil fun a2 hf2 => ?_
 refine p_box (i := 3) (d := (some 4)) (cs := [vI 1, vI 1, vI 1, vI 1300, vI 2, vI 2, vI 1, vI 1500, vI 3, vI 1, vI 2, vI 1000]) (T := 33) (v := fun b1 => .slice (some ⟨b1, 0, none⟩) 3 3) hS hf2 (fun b => by kernel_rfl) fun b1 ww1 a3 hS1 hf3 => ⟨fun _ => trivial, ?_⟩
 have hS2 := hS1.ownBox (T := LotT) (E := 33) (n := 3) (xs := [⟨1, 1, 1, 1300⟩, ⟨2, 2, 1, 1500⟩, ⟨3, 1, 2, 1000⟩]) (i := 0) rfl (Rows.cons (c := [vI 1, vI 1, vI 1, vI 1300]) rfl (Rows.cons (c := [vI 2, vI 2, vI 1, vI 1500]) rfl (Rows.cons (c := [vI 3, vI 1, vI 2, vI 1000]) rfl rfl))) rfl (by decide)
 refine p_qt [] [(0, .slice (some ⟨b1, 0, none⟩) 3 3)] [] hf3 (by kernel_rfl) .nil fun a4 hf4 => ?_
 refine w_ret (by kernel_rfl) ?_
 obtain ⟨z1, k1, hS3, hx1⟩ := hS2.share (j := 0) rfl
 refine p_ret (os := []) (v := .slice (some ⟨b1, 0, none⟩) 3 3) (obs := []) hf4 (by kernel_rfl) .nil ?_
 obtain rfl := some_eq hr
 exact ⟨_, rfl, z1, (some ⟨b1, 0, none⟩), 3, k1, rfl, (St.drop 1 hS3), hx1⟩
def F70 (fuel : Nat)  : Option (List Deed) :=
  (some ([⟨1, 1, 0, 0, 60⟩, ⟨1, 2, 0, 0, 40⟩, ⟨3, 0, 0, 0, 50⟩, ⟨2, 3, 0, 0, 10⟩, ⟨4, 0, 0, 4, 20⟩]))
set_option maxRecDepth 100000 in
theorem f70_ok (fuel : Nat)  (r : List Deed) (hr : F70 fuel  = some r) (h : Zone) (L : List Atom) (w : World) (hS : St h L w)  :
    Calls Try.prog 70 #[] w fun e w' => ∃ v, e = .returned v ∧ (∃ h', ∃ o0 : Option Addr, ∃ c0 : Nat, Zone.le h h' ∧ v = .slice o0 r.length c0 ∧ St h' L w' ∧ SliceR DeedT h' o0 c0 r) := by
 refine calls_intro (N := 7) Try.func70 (by kernel_rfl) fun a hf => ?_
 refine w_sq [] [] [] hf (by kernel_rfl) .nil fun a1 hf1 => ?_
 refine w_sr (by kernel_rfl) ?_
 refine p_qn 5 [] [(1, .agg #[vI 1, vI 1, vI 0, vI 0, vI 60]), (2, .agg #[vI 1, vI 2, vI 0, vI 0, vI 40]), (3, .agg #[vI 3, vI 0, vI 0, vI 0, vI 50]), (4, .agg #[vI 2, vI 3, vI 0, vI 0, vI 10]), (5, .agg #[vI 4, vI 0, vI 0, vI 4, vI 20])] [] hf1 (by kernel_rfl) .nil fun a2 hf2 => ?_
 refine p_box (i := 5) (d := (some 6)) (cs := [vI 1, vI 1, vI 0, vI 0, vI 60, vI 1, vI 2, vI 0, vI 0, vI 40, vI 3, vI 0, vI 0, vI 0, vI 50, vI 2, vI 3, vI 0, vI 0, vI 10, vI 4, vI 0, vI 0, vI 4, vI 20]) (T := 28) (v := fun b1 => .slice (some ⟨b1, 0, none⟩) 5 5) hS hf2 (fun b => by kernel_rfl) fun b1 ww1 a3 hS1 hf3 => ⟨fun _ => trivial, ?_⟩
 have hS2 := hS1.ownBox (T := DeedT) (E := 28) (n := 5) (xs := [⟨1, 1, 0, 0, 60⟩, ⟨1, 2, 0, 0, 40⟩, ⟨3, 0, 0, 0, 50⟩, ⟨2, 3, 0, 0, 10⟩, ⟨4, 0, 0, 4, 20⟩]) (i := 0) rfl (Rows.cons (c := [vI 1, vI 1, vI 0, vI 0, vI 60]) rfl (Rows.cons (c := [vI 1, vI 2, vI 0, vI 0, vI 40]) rfl (Rows.cons (c := [vI 3, vI 0, vI 0, vI 0, vI 50]) rfl (Rows.cons (c := [vI 2, vI 3, vI 0, vI 0, vI 10]) rfl (Rows.cons (c := [vI 4, vI 0, vI 0, vI 4, vI 20]) rfl rfl))))) rfl (by decide)
 refine p_qt [] [(0, .slice (some ⟨b1, 0, none⟩) 5 5)] [] hf3 (by kernel_rfl) .nil fun a4 hf4 => ?_
 refine w_ret (by kernel_rfl) ?_
 obtain ⟨z1, k1, hS3, hx1⟩ := hS2.share (j := 0) rfl
 refine p_ret (os := []) (v := .slice (some ⟨b1, 0, none⟩) 5 5) (obs := []) hf4 (by kernel_rfl) .nil ?_
 obtain rfl := some_eq hr
 exact ⟨_, rfl, z1, (some ⟨b1, 0, none⟩), 5, k1, rfl, (St.drop 1 hS3), hx1⟩
def F16_j1 (y1 : Bool) : Option (Bool) :=
  (some (y1))
def F16 (fuel : Nat)  : Option (Bool) :=
  ((F69 fuel ).bind fun r1 => ((F70 fuel ).bind fun r2 => ((F38 fuel r1 r2).bind fun r3 => ((F30 fuel ([⟨1, 1⟩, ⟨2, 99⟩]) 50).bind fun r4 => ((F61 fuel r3.1 r3.2.1 4).bind fun r5 => ((F69 fuel ).bind fun r6 => ((F70 fuel ).bind fun r7 => ((F40 fuel r6 r7 1 3).bind fun r8 => (cond (r3.2.2.2 == (0 : Int)) (cond (r3.2.2.1 == (5 : Int)) (cond (r4.2.2 == (0 : Int)) (cond ((r4.1.length : Int) == (2 : Int)) (cond ((r4.2.1.length : Int) == (1 : Int)) ((getI r4.2.1 0).bind fun p1 => (cond (p1.mass == (50 : Int)) (cond (r5.2.2 == (0 : Int)) (cond ((r5.1 == (1190 : Int)) && ((r5.2.1 == (1 : Int)) && true)) (cond (r8.2.2 == (0 : Int)) (cond (!r8.1) (cond (r8.2.1 == (4 : Int)) ((F17 fuel 0 0 0 0).bind fun r9 => (F16_j1 (r9 == (60 : Int)))) (F16_j1 false)) (F16_j1 false)) (F16_j1 false)) (F16_j1 false)) (F16_j1 false)) (F16_j1 false))) (F16_j1 false)) (F16_j1 false)) (F16_j1 false)) (F16_j1 false)) (F16_j1 false))))))))))
set_option maxRecDepth 100000 in
theorem f16_ok (fuel : Nat)  (r : Bool) (hr : F16 fuel  = some r) (h : Zone) (L : List Atom) (w : World) (hS : St h L w)  :
    Calls Try.prog 16 #[] w fun e w' => ∃ v, e = .returned v ∧ (∃ h', Zone.le h h' ∧ v = .bool r ∧ St h' L w') := by
 refine calls_intro (N := 96) Try.func16 (by kernel_rfl) fun a hf => ?_
 refine w_sq [] [] [] hf (by kernel_rfl) .nil fun a1 hf1 => ?_
 refine w_sr (by kernel_rfl) ?_
 obtain ⟨r1, hd1, hr1⟩ := bind_some hr
 refine p_call (i := 0) (d := some 13) (f := 69) (args := #[]) hf1 (by kernel_rfl) (f69_ok fuel  r1 hd1 h _ _ hS ) ?_
 rintro v1 ww1 a2 ⟨z1, e1, q1, k1, rfl, hS1, hx1⟩ hf2
 refine ⟨fun _ => trivial, ?_⟩
 obtain ⟨r2, hd2, hr2⟩ := bind_some hr1
 refine p_call (i := 1) (d := some 14) (f := 70) (args := #[]) hf2 (by kernel_rfl) (f70_ok fuel  r2 hd2 z1 _ _ hS1 ) ?_
 rintro v2 ww2 a3 ⟨z2, e2, q2, k2, rfl, hS2, hx2⟩ hf3
 refine ⟨fun _ => trivial, ?_⟩
 obtain ⟨r3, hd3, hr3⟩ := bind_some hr2
 refine p_call (i := 2) (d := some 15) (f := 38) (args := #[.slice e1 r1.length q1, .slice e2 r2.length q2]) hf3 (by kernel_rfl) (f38_ok fuel r1 r2 r3 hd3 z2 _ _ hS2 e1 q1 (SliceR.mono k2 hx1) e2 q2 hx2) ?_
 rintro v3 ww3 a4 ⟨z3, e3, q3, v4, v5, v6, v7, v8, v9, v10, v11, v12, k3, rfl, hS3, hx3, hx4⟩ hf4
 refine ⟨fun _ => trivial, ?_⟩
 refine p_qn 4 [] [(16, .agg #[.slice e3 r3.1.length q3, v4, v5, v6, v7, v8, v9, v10, v11, v12]), (17, vI r3.2.2.1), (18, vI r3.2.2.2)] [] hf4 (by kernel_rfl) .nil fun a5 hf5 => ?_
 refine p_box (i := 7) (d := (some 1)) (cs := [.slice none 0 0, .slice none 0 0, .slice none 0 0, .slice none 0 0, .slice none 0 0, .slice none 0 0, .slice none 0 0, .slice none 0 0, .slice none 0 0, .slice none 0 0]) (T := 26) (v := fun b1 => pB b1 0) hS3 hf5 (fun b => by kernel_rfl) fun b1 ww4 a6 hS4 hf6 => ⟨fun _ => trivial, ?_⟩
 have hq1 := oneCells_of (Ty.one _ (Ty.mono _ (Zone.le_refl _) hx4))
 refine p_store_eq (i := 8) (j := 0) (b := b1) (off := 0) (vs := [.slice e3 r3.1.length q3, v4, v5, v6, v7, v8, v9, v10, v11, v12]) (cs' := [.slice e3 r3.1.length q3, v4, v5, v6, v7, v8, v9, v10, v11, v12]) hS4 hf6 rfl (by kernel_rfl) hq1 rfl fun ww5 a7 hS5 hf7 => ⟨fun _ => trivial, ?_⟩
 refine p_qt [] [(1, pB b1 0), (2, vI r3.2.2.1), (3, vI r3.2.2.2)] [] hf7 (by kernel_rfl) .nil fun a8 hf8 => ?_
 refine w_sr (by kernel_rfl) ?_
 refine p_qn 2 [] [(1, pB b1 0), (2, vI r3.2.2.1), (3, vI r3.2.2.2), (20, .agg #[vI 1, vI 1]), (21, .agg #[vI 2, vI 99])] [] hf8 (by kernel_rfl) .nil fun a9 hf9 => ?_
 refine p_box (i := 2) (d := (some 22)) (cs := [vI 1, vI 1, vI 2, vI 99]) (T := 56) (v := fun b2 => .slice (some ⟨b2, 0, none⟩) 2 2) hS5 hf9 (fun b => by kernel_rfl) fun b2 ww6 a10 hS6 hf10 => ⟨fun _ => trivial, ?_⟩
 have hS7 := hS6.ownBox (T := PartT) (E := 56) (n := 2) (xs := [⟨1, 1⟩, ⟨2, 99⟩]) (i := 0) rfl (Rows.cons (c := [vI 1, vI 1]) rfl (Rows.cons (c := [vI 2, vI 99]) rfl rfl)) rfl (by decide)
 refine p_qn 1 [] [(1, pB b1 0), (2, vI r3.2.2.1), (3, vI r3.2.2.2), (23, .agg #[.slice (some ⟨b2, 0, none⟩) 2 2])] [] hf10 (by kernel_rfl) .nil fun a11 hf11 => ?_
 obtain ⟨z4, k4, hS8, hx5⟩ := hS7.share (j := 0) rfl
 obtain ⟨r4, hd4, hr4⟩ := bind_some hr3
 refine p_call (i := 4) (d := some 24) (f := 30) (args := #[.agg #[.slice (some ⟨b2, 0, none⟩) 2 2], vI 50]) hf11 (by kernel_rfl) (f30_ok fuel ([⟨1, 1⟩, ⟨2, 99⟩]) 50 r4 hd4 z4 _ _ hS8 (some ⟨b2, 0, none⟩) 2 hx5) ?_
 rintro v13 ww7 a12 ⟨z5, e4, q4, e5, q5, k5, rfl, hS9, hx6, hx7⟩ hf12
 refine ⟨fun _ => trivial, ?_⟩
 refine p_qn 4 [] [(1, pB b1 0), (2, vI r3.2.2.1), (3, vI r3.2.2.2), (25, .agg #[.slice e4 r4.1.length q4]), (26, .agg #[.slice e5 r4.2.1.length q5]), (27, vI r4.2.2)] [] hf12 (by kernel_rfl) .nil fun a13 hf13 => ?_
 refine p_box (i := 9) (d := (some 4)) (cs := [.slice none 0 0]) (T := 40) (v := fun b3 => pB b3 0) hS9 hf13 (fun b => by kernel_rfl) fun b3 ww8 a14 hS10 hf14 => ⟨fun _ => trivial, ?_⟩
 refine p_box (i := 10) (d := (some 5)) (cs := [.slice none 0 0]) (T := 40) (v := fun b4 => pB b4 0) hS10 hf14 (fun b => by kernel_rfl) fun b4 ww9 a15 hS11 hf15 => ⟨fun _ => trivial, ?_⟩
 refine p_store_eq (i := 11) (j := 1) (b := b3) (off := 0) (vs := [.slice e4 r4.1.length q4]) (cs' := [.slice e4 r4.1.length q4]) hS11 hf15 rfl (by kernel_rfl) (by kernel_rfl) rfl fun ww10 a16 hS12 hf16 => ⟨fun _ => trivial, ?_⟩
 refine p_store_eq (i := 12) (j := 0) (b := b4) (off := 0) (vs := [.slice e5 r4.2.1.length q5]) (cs' := [.slice e5 r4.2.1.length q5]) hS12 hf16 rfl (by kernel_rfl) (by kernel_rfl) rfl fun ww11 a17 hS13 hf17 => ⟨fun _ => trivial, ?_⟩
 refine p_qt [] [(1, pB b1 0), (2, vI r3.2.2.1), (3, vI r3.2.2.2), (4, pB b3 0), (5, pB b4 0), (6, vI r4.2.2)] [] hf17 (by kernel_rfl) .nil fun a18 hf18 => ?_
 refine w_sr (by kernel_rfl) ?_
 refine p_qn 1 [.slice e3 r3.1.length q3, v4, v5, v6, v7, v8, v9, v10, v11, v12] [(2, vI r3.2.2.1), (3, vI r3.2.2.2), (4, pB b3 0), (5, pB b4 0), (6, vI r4.2.2), (29, .agg #[.slice e3 r3.1.length q3, v4, v5, v6, v7, v8, v9, v10, v11, v12])] [.cell ⟨b1, 0, none⟩ (.slice e3 r3.1.length q3), .cell ⟨b1, 1, none⟩ (v4), .cell ⟨b1, 2, none⟩ (v5), .cell ⟨b1, 3, none⟩ (v6), .cell ⟨b1, 4, none⟩ (v7), .cell ⟨b1, 5, none⟩ (v8), .cell ⟨b1, 6, none⟩ (v9), .cell ⟨b1, 7, none⟩ (v10), .cell ⟨b1, 8, none⟩ (v11), .cell ⟨b1, 9, none⟩ (v12)] hf18 (by kernel_rfl) (.cell (hS13.box (i := 3) rfl (j := 0) rfl) (.cell (hS13.box (i := 3) rfl (j := 1) rfl) (.cell (hS13.box (i := 3) rfl (j := 2) rfl) (.cell (hS13.box (i := 3) rfl (j := 3) rfl) (.cell (hS13.box (i := 3) rfl (j := 4) rfl) (.cell (hS13.box (i := 3) rfl (j := 5) rfl) (.cell (hS13.box (i := 3) rfl (j := 6) rfl) (.cell (hS13.box (i := 3) rfl (j := 7) rfl) (.cell (hS13.box (i := 3) rfl (j := 8) rfl) (.cell (hS13.box (i := 3) rfl (j := 9) rfl) .nil)))))))))) fun a19 hf19 => ?_
 obtain ⟨r5, hd5, hr5⟩ := bind_some hr4
 refine p_call (i := 1) (d := some 30) (f := 61) (args := #[.agg #[.slice e3 r3.1.length q3, v4, v5, v6, v7, v8, v9, v10, v11, v12], vI 4]) hf19 (by kernel_rfl) (f61_ok fuel r3.1 r3.2.1 4 r5 hd5 z5 _ _ hS13 e3 q3 (SliceR.mono (Zone.le_trans k4 k5) hx3) v4 v5 v6 v7 v8 v9 v10 v11 v12 (Ty.mono _ (Zone.le_trans k4 k5) hx4)) ?_
 rintro v14 ww12 a20 ⟨z6, k6, rfl, hS14⟩ hf20
 refine ⟨fun _ => trivial, ?_⟩
 refine p_qn 3 [] [(2, vI r3.2.2.1), (3, vI r3.2.2.2), (4, pB b3 0), (5, pB b4 0), (6, vI r4.2.2), (31, .agg #[vI r5.1, vI r5.2.1]), (32, vI r5.2.2)] [] hf20 (by kernel_rfl) .nil fun a21 hf21 => ?_
 refine p_box (i := 5) (d := (some 7)) (cs := [vI 0, vI 0]) (T := 100) (v := fun b5 => pB b5 0) hS14 hf21 (fun b => by kernel_rfl) fun b5 ww13 a22 hS15 hf22 => ⟨fun _ => trivial, ?_⟩
 refine p_store_eq (i := 6) (j := 0) (b := b5) (off := 0) (vs := [vI r5.1, vI r5.2.1]) (cs' := [vI r5.1, vI r5.2.1]) hS15 hf22 rfl (by kernel_rfl) (by kernel_rfl) rfl fun ww14 a23 hS16 hf23 => ⟨fun _ => trivial, ?_⟩
 refine p_qt [] [(2, vI r3.2.2.1), (3, vI r3.2.2.2), (4, pB b3 0), (5, pB b4 0), (6, vI r4.2.2), (7, pB b5 0), (8, vI r5.2.2)] [] hf23 (by kernel_rfl) .nil fun a24 hf24 => ?_
 refine w_sr (by kernel_rfl) ?_
 obtain ⟨r6, hd6, hr6⟩ := bind_some hr5
 refine p_call (i := 0) (d := some 34) (f := 69) (args := #[]) hf24 (by kernel_rfl) (f69_ok fuel  r6 hd6 z6 _ _ hS16 ) ?_
 rintro v15 ww15 a25 ⟨z7, e6, q6, k7, rfl, hS17, hx8⟩ hf25
 refine ⟨fun _ => trivial, ?_⟩
 obtain ⟨r7, hd7, hr7⟩ := bind_some hr6
 refine p_call (i := 1) (d := some 35) (f := 70) (args := #[]) hf25 (by kernel_rfl) (f70_ok fuel  r7 hd7 z7 _ _ hS17 ) ?_
 rintro v16 ww16 a26 ⟨z8, e7, q7, k8, rfl, hS18, hx9⟩ hf26
 refine ⟨fun _ => trivial, ?_⟩
 obtain ⟨r8, hd8, hr8⟩ := bind_some hr7
 refine p_call (i := 2) (d := some 36) (f := 40) (args := #[.slice e6 r6.length q6, .slice e7 r7.length q7, vI 1, vI 3]) hf26 (by kernel_rfl) (f40_ok fuel r6 r7 1 3 r8 hd8 z8 _ _ hS18 e6 q6 (SliceR.mono k8 hx8) e7 q7 hx9) ?_
 rintro v17 ww17 a27 ⟨z9, k9, rfl, hS19⟩ hf27
 refine ⟨fun _ => trivial, ?_⟩
 refine p_qt [] [(2, vI r3.2.2.1), (3, vI r3.2.2.2), (4, pB b3 0), (5, pB b4 0), (6, vI r4.2.2), (7, pB b5 0), (8, vI r5.2.2), (9, .bool r8.1), (10, vI r8.2.1), (11, vI r8.2.2)] [] hf27 (by kernel_rfl) .nil fun a28 hf28 => ?_
 refine w_mid (by kernel_rfl) (fun a w => ∃ z10 : Zone, ∃ y1 : Bool, Zone.le z9 z10 ∧ Fr a 96 [(0, .bool y1)] ∧ St z10 (box b5 [vI r5.1, vI r5.2.1] 100 :: box b4 [.slice e5 r4.2.1.length q5] 40 :: box b3 [.slice e4 r4.1.length q4] 40 :: emp :: box b1 [.slice e3 r3.1.length q3, v4, v5, v6, v7, v8, v9, v10, v11, v12] 26 :: L) w ∧ (F16_j1 y1) = some r) ?_ ?_
 ·skip
  refine w_reg (by kernel_rfl) ?_
  refine p_qn 3 [] [(2, vI r3.2.2.1), (4, pB b3 0), (5, pB b4 0), (6, vI r4.2.2), (7, pB b5 0), (8, vI r5.2.2), (9, .bool r8.1), (10, vI r8.2.1), (11, vI r8.2.2), (42, .bool (r3.2.2.2 == (0 : Int)))] [] hf28 (by kernel_rfl) .nil fun a29 hf29 => ?_
  rcases Bool.eq_false_or_eq_true (r3.2.2.2 == (0 : Int)) with hb1 | hb1
  ·have hr9 := cond_t hb1 hr8
   have hf30 := Fr.conv hf29 (congrArg (fun z => ([(2, vI r3.2.2.1), (4, pB b3 0), (5, pB b4 0), (6, vI r4.2.2), (7, pB b5 0), (8, vI r5.2.2), (9, .bool r8.1), (10, vI r8.2.1), (11, vI r8.2.2), (42, .bool z)] : FL)) hb1)
   refine p_qn 4 [] [(4, pB b3 0), (5, pB b4 0), (6, vI r4.2.2), (7, pB b5 0), (8, vI r5.2.2), (9, .bool r8.1), (10, vI r8.2.1), (11, vI r8.2.2), (46, .bool (r3.2.2.1 == (5 : Int)))] [] hf30 (by kernel_rfl) .nil fun a30 hf31 => ?_
   rcases Bool.eq_false_or_eq_true (r3.2.2.1 == (5 : Int)) with hb2 | hb2
   ·have hr10 := cond_t hb2 hr9
    have hf32 := Fr.conv hf31 (congrArg (fun z => ([(4, pB b3 0), (5, pB b4 0), (6, vI r4.2.2), (7, pB b5 0), (8, vI r5.2.2), (9, .bool r8.1), (10, vI r8.2.1), (11, vI r8.2.2), (46, .bool z)] : FL)) hb2)
    refine p_qn 4 [] [(4, pB b3 0), (5, pB b4 0), (7, pB b5 0), (8, vI r5.2.2), (9, .bool r8.1), (10, vI r8.2.1), (11, vI r8.2.2), (50, .bool (r4.2.2 == (0 : Int)))] [] hf32 (by kernel_rfl) .nil fun a31 hf33 => ?_
    rcases Bool.eq_false_or_eq_true (r4.2.2 == (0 : Int)) with hb3 | hb3
    ·have hr11 := cond_t hb3 hr10
     have hf34 := Fr.conv hf33 (congrArg (fun z => ([(4, pB b3 0), (5, pB b4 0), (7, pB b5 0), (8, vI r5.2.2), (9, .bool r8.1), (10, vI r8.2.1), (11, vI r8.2.2), (50, .bool z)] : FL)) hb3)
     refine p_qn 6 [.slice e4 r4.1.length q4] [(5, pB b4 0), (7, pB b5 0), (8, vI r5.2.2), (9, .bool r8.1), (10, vI r8.2.1), (11, vI r8.2.2), (56, .bool ((r4.1.length : Int) == (2 : Int)))] [.cell ⟨b3, 0, none⟩ (.slice e4 r4.1.length q4)] hf34 (by kernel_rfl) (.cell (hS19.box (i := 2) rfl (j := 0) rfl) .nil) fun a32 hf35 => ?_
     rcases Bool.eq_false_or_eq_true ((r4.1.length : Int) == (2 : Int)) with hb4 | hb4
     ·have hr12 := cond_t hb4 hr11
      have hf36 := Fr.conv hf35 (congrArg (fun z => ([(5, pB b4 0), (7, pB b5 0), (8, vI r5.2.2), (9, .bool r8.1), (10, vI r8.2.1), (11, vI r8.2.2), (56, .bool z)] : FL)) hb4)
      refine p_qn 6 [.slice e5 r4.2.1.length q5] [(5, pB b4 0), (7, pB b5 0), (8, vI r5.2.2), (9, .bool r8.1), (10, vI r8.2.1), (11, vI r8.2.2), (62, .bool ((r4.2.1.length : Int) == (1 : Int)))] [.cell ⟨b4, 0, none⟩ (.slice e5 r4.2.1.length q5)] hf36 (by kernel_rfl) (.cell (hS19.box (i := 1) rfl (j := 0) rfl) .nil) fun a33 hf37 => ?_
      rcases Bool.eq_false_or_eq_true ((r4.2.1.length : Int) == (1 : Int)) with hb5 | hb5
      ·have hr13 := cond_t hb5 hr12
       have hf38 := Fr.conv hf37 (congrArg (fun z => ([(5, pB b4 0), (7, pB b5 0), (8, vI r5.2.2), (9, .bool r8.1), (10, vI r8.2.1), (11, vI r8.2.2), (62, .bool z)] : FL)) hb5)
       obtain ⟨p1, hp510, hr14⟩ := bind_some hr13
       obtain ⟨ad1, ho1, hb6, cc1, hc1, hk1⟩ := SliceR.getI (SliceR.mono (Zone.le_trans (Zone.le_trans (Zone.le_trans k6 k7) k8) k9) hx7) hp510
       subst hc1
       refine p_qn 8 [.slice e5 r4.2.1.length q5, .pointer (some ad1), vI p1.mass] [(7, pB b5 0), (8, vI r5.2.2), (9, .bool r8.1), (10, vI r8.2.1), (11, vI r8.2.2), (70, .bool (p1.mass == (50 : Int)))] [.cell ⟨b4, 0, none⟩ (.slice e5 r4.2.1.length q5), .prop (e5 = some ad1), .prop (0 ≤ (0 : Int) ∧ (0 : Int) < (r4.2.1.length : Nat)), .cell ((ad1.add (Int.toNat 0 * 2)).add 1) (vI p1.mass)] hf38 (by kernel_rfl) (.cell (hS19.box (i := 1) rfl (j := 0) rfl) (.prop ho1 (.prop hb6 (.cell (hS19.cell (hk1 1 _ rfl)) .nil)))) fun a34 hf39 => ?_
       rcases Bool.eq_false_or_eq_true (p1.mass == (50 : Int)) with hb7 | hb7
       ·have hr15 := cond_t hb7 hr14
        have hf40 := Fr.conv hf39 (congrArg (fun z => ([(7, pB b5 0), (8, vI r5.2.2), (9, .bool r8.1), (10, vI r8.2.1), (11, vI r8.2.2), (70, .bool z)] : FL)) hb7)
        refine p_qn 4 [] [(7, pB b5 0), (9, .bool r8.1), (10, vI r8.2.1), (11, vI r8.2.2), (74, .bool (r5.2.2 == (0 : Int)))] [] hf40 (by kernel_rfl) .nil fun a35 hf41 => ?_
        rcases Bool.eq_false_or_eq_true (r5.2.2 == (0 : Int)) with hb8 | hb8
        ·have hr16 := cond_t hb8 hr15
         have hf42 := Fr.conv hf41 (congrArg (fun z => ([(7, pB b5 0), (9, .bool r8.1), (10, vI r8.2.1), (11, vI r8.2.2), (74, .bool z)] : FL)) hb8)
         refine p_qn 5 [vI r5.1, vI r5.2.1] [(9, .bool r8.1), (10, vI r8.2.1), (11, vI r8.2.2), (79, .bool ((r5.1 == (1190 : Int)) && ((r5.2.1 == (1 : Int)) && true)))] [.cell ⟨b5, 0, none⟩ (vI r5.1), .cell ⟨b5, 1, none⟩ (vI r5.2.1)] hf42 (by kernel_rfl) (.cell (hS19.box (i := 0) rfl (j := 0) rfl) (.cell (hS19.box (i := 0) rfl (j := 1) rfl) .nil)) fun a36 hf43 => ?_
         rcases Bool.eq_false_or_eq_true ((r5.1 == (1190 : Int)) && ((r5.2.1 == (1 : Int)) && true)) with hb9 | hb9
         ·have hr17 := cond_t hb9 hr16
          have hf44 := Fr.conv hf43 (congrArg (fun z => ([(9, .bool r8.1), (10, vI r8.2.1), (11, vI r8.2.2), (79, .bool z)] : FL)) hb9)
          refine p_qn 4 [] [(9, .bool r8.1), (10, vI r8.2.1), (83, .bool (r8.2.2 == (0 : Int)))] [] hf44 (by kernel_rfl) .nil fun a37 hf45 => ?_
          rcases Bool.eq_false_or_eq_true (r8.2.2 == (0 : Int)) with hb10 | hb10
          ·have hr18 := cond_t hb10 hr17
           have hf46 := Fr.conv hf45 (congrArg (fun z => ([(9, .bool r8.1), (10, vI r8.2.1), (83, .bool z)] : FL)) hb10)
           refine p_qn 4 [] [(10, vI r8.2.1), (87, .bool (!r8.1))] [] hf46 (by kernel_rfl) .nil fun a38 hf47 => ?_
           rcases Bool.eq_false_or_eq_true (!r8.1) with hb11 | hb11
           ·have hr19 := cond_t hb11 hr18
            have hf48 := Fr.conv hf47 (congrArg (fun z => ([(10, vI r8.2.1), (87, .bool z)] : FL)) hb11)
            refine p_qn 4 [] [(91, .bool (r8.2.1 == (4 : Int)))] [] hf48 (by kernel_rfl) .nil fun a39 hf49 => ?_
            rcases Bool.eq_false_or_eq_true (r8.2.1 == (4 : Int)) with hb12 | hb12
            ·have hr20 := cond_t hb12 hr19
             have hf50 := Fr.conv hf49 (congrArg (fun z => ([(91, .bool z)] : FL)) hb12)
             refine p_qn 1 [] [(91, .bool true), (92, .agg #[vI 0, vI 0, vI 0, vI 0])] [] hf50 (by kernel_rfl) .nil fun a40 hf51 => ?_
             obtain ⟨r9, hd9, hr21⟩ := bind_some hr20
             refine p_call (i := 53) (d := some 93) (f := 17) (args := #[.agg #[vI 0, vI 0, vI 0, vI 0]]) hf51 (by kernel_rfl) (f17_ok fuel 0 0 0 0 r9 hd9 z9 _ _ hS19 ) ?_
             rintro v18 ww18 a41 ⟨z11, k10, rfl, hS20⟩ hf52
             refine ⟨fun _ => trivial, ?_⟩
             refine p_qt [] [(0, .bool (r9 == (60 : Int)))] [] hf52 (by kernel_rfl) .nil fun a42 hf53 => ?_
             have hf54 := Fr.keep (ks := [0]) (r := [(0, .bool (r9 == (60 : Int)))]) hf53 (by kernel_rfl)
             exact ⟨z11, (r9 == (60 : Int)), k10, hf54, hS20, hr21⟩
            ·have hr22 := cond_f hb12 hr19
             have hf55 := Fr.conv hf49 (congrArg (fun z => ([(91, .bool z)] : FL)) hb12)
             refine p_qt [] [(0, .bool false)] [] hf55 (by kernel_rfl) .nil fun a43 hf56 => ?_
             have hf57 := Fr.keep (ks := [0]) (r := [(0, .bool false)]) hf56 (by kernel_rfl)
             exact ⟨z9, false, (Zone.le_refl _), hf57, hS19, hr22⟩
           ·have hr23 := cond_f hb11 hr18
            have hf58 := Fr.conv hf47 (congrArg (fun z => ([(10, vI r8.2.1), (87, .bool z)] : FL)) hb11)
            refine p_qt [] [(0, .bool false)] [] hf58 (by kernel_rfl) .nil fun a44 hf59 => ?_
            have hf60 := Fr.keep (ks := [0]) (r := [(0, .bool false)]) hf59 (by kernel_rfl)
            exact ⟨z9, false, (Zone.le_refl _), hf60, hS19, hr23⟩
          ·have hr24 := cond_f hb10 hr17
           have hf61 := Fr.conv hf45 (congrArg (fun z => ([(9, .bool r8.1), (10, vI r8.2.1), (83, .bool z)] : FL)) hb10)
           refine p_qt [] [(0, .bool false)] [] hf61 (by kernel_rfl) .nil fun a45 hf62 => ?_
           have hf63 := Fr.keep (ks := [0]) (r := [(0, .bool false)]) hf62 (by kernel_rfl)
           exact ⟨z9, false, (Zone.le_refl _), hf63, hS19, hr24⟩
         ·have hr25 := cond_f hb9 hr16
          have hf64 := Fr.conv hf43 (congrArg (fun z => ([(9, .bool r8.1), (10, vI r8.2.1), (11, vI r8.2.2), (79, .bool z)] : FL)) hb9)
          refine p_qt [] [(0, .bool false)] [] hf64 (by kernel_rfl) .nil fun a46 hf65 => ?_
          have hf66 := Fr.keep (ks := [0]) (r := [(0, .bool false)]) hf65 (by kernel_rfl)
          exact ⟨z9, false, (Zone.le_refl _), hf66, hS19, hr25⟩
        ·have hr26 := cond_f hb8 hr15
         have hf67 := Fr.conv hf41 (congrArg (fun z => ([(7, pB b5 0), (9, .bool r8.1), (10, vI r8.2.1), (11, vI r8.2.2), (74, .bool z)] : FL)) hb8)
         refine p_qt [] [(0, .bool false)] [] hf67 (by kernel_rfl) .nil fun a47 hf68 => ?_
         have hf69 := Fr.keep (ks := [0]) (r := [(0, .bool false)]) hf68 (by kernel_rfl)
         exact ⟨z9, false, (Zone.le_refl _), hf69, hS19, hr26⟩
       ·have hr27 := cond_f hb7 hr14
        have hf70 := Fr.conv hf39 (congrArg (fun z => ([(7, pB b5 0), (8, vI r5.2.2), (9, .bool r8.1), (10, vI r8.2.1), (11, vI r8.2.2), (70, .bool z)] : FL)) hb7)
        refine p_qt [] [(0, .bool false)] [] hf70 (by kernel_rfl) .nil fun a48 hf71 => ?_
        have hf72 := Fr.keep (ks := [0]) (r := [(0, .bool false)]) hf71 (by kernel_rfl)
        exact ⟨z9, false, (Zone.le_refl _), hf72, hS19, hr27⟩
      ·have hr28 := cond_f hb5 hr12
       have hf73 := Fr.conv hf37 (congrArg (fun z => ([(5, pB b4 0), (7, pB b5 0), (8, vI r5.2.2), (9, .bool r8.1), (10, vI r8.2.1), (11, vI r8.2.2), (62, .bool z)] : FL)) hb5)
       refine p_qt [] [(0, .bool false)] [] hf73 (by kernel_rfl) .nil fun a49 hf74 => ?_
       have hf75 := Fr.keep (ks := [0]) (r := [(0, .bool false)]) hf74 (by kernel_rfl)
       exact ⟨z9, false, (Zone.le_refl _), hf75, hS19, hr28⟩
     ·have hr29 := cond_f hb4 hr11
      have hf76 := Fr.conv hf35 (congrArg (fun z => ([(5, pB b4 0), (7, pB b5 0), (8, vI r5.2.2), (9, .bool r8.1), (10, vI r8.2.1), (11, vI r8.2.2), (56, .bool z)] : FL)) hb4)
      refine p_qt [] [(0, .bool false)] [] hf76 (by kernel_rfl) .nil fun a50 hf77 => ?_
      have hf78 := Fr.keep (ks := [0]) (r := [(0, .bool false)]) hf77 (by kernel_rfl)
      exact ⟨z9, false, (Zone.le_refl _), hf78, hS19, hr29⟩
    ·have hr30 := cond_f hb3 hr10
     have hf79 := Fr.conv hf33 (congrArg (fun z => ([(4, pB b3 0), (5, pB b4 0), (7, pB b5 0), (8, vI r5.2.2), (9, .bool r8.1), (10, vI r8.2.1), (11, vI r8.2.2), (50, .bool z)] : FL)) hb3)
     refine p_qt [] [(0, .bool false)] [] hf79 (by kernel_rfl) .nil fun a51 hf80 => ?_
     have hf81 := Fr.keep (ks := [0]) (r := [(0, .bool false)]) hf80 (by kernel_rfl)
     exact ⟨z9, false, (Zone.le_refl _), hf81, hS19, hr30⟩
   ·have hr31 := cond_f hb2 hr9
    have hf82 := Fr.conv hf31 (congrArg (fun z => ([(4, pB b3 0), (5, pB b4 0), (6, vI r4.2.2), (7, pB b5 0), (8, vI r5.2.2), (9, .bool r8.1), (10, vI r8.2.1), (11, vI r8.2.2), (46, .bool z)] : FL)) hb2)
    refine p_qt [] [(0, .bool false)] [] hf82 (by kernel_rfl) .nil fun a52 hf83 => ?_
    have hf84 := Fr.keep (ks := [0]) (r := [(0, .bool false)]) hf83 (by kernel_rfl)
    exact ⟨z9, false, (Zone.le_refl _), hf84, hS19, hr31⟩
  ·have hr32 := cond_f hb1 hr8
   have hf85 := Fr.conv hf29 (congrArg (fun z => ([(2, vI r3.2.2.1), (4, pB b3 0), (5, pB b4 0), (6, vI r4.2.2), (7, pB b5 0), (8, vI r5.2.2), (9, .bool r8.1), (10, vI r8.2.1), (11, vI r8.2.2), (42, .bool z)] : FL)) hb1)
   refine p_qt [] [(0, .bool false)] [] hf85 (by kernel_rfl) .nil fun a53 hf86 => ?_
   have hf87 := Fr.keep (ks := [0]) (r := [(0, .bool false)]) hf86 (by kernel_rfl)
   exact ⟨z9, false, (Zone.le_refl _), hf87, hS19, hr32⟩
 ·rintro a54 ww19 ⟨z10, y1, k11, hf88, hS21, hr33⟩
  refine w_ret (by kernel_rfl) ?_
  refine p_ret (os := []) (v := .bool y1) (obs := []) hf88 (by kernel_rfl) .nil ?_
  obtain rfl := some_eq hr33
  exact ⟨_, rfl, z10, (Zone.le_trans (Zone.le_trans (Zone.le_trans (Zone.le_trans (Zone.le_trans (Zone.le_trans (Zone.le_trans (Zone.le_trans (Zone.le_trans k1 k2) k3) k4) k5) k6) k7) k8) k9) k11), rfl, (St.drop 5 hS21)⟩
end Go.Proofs.Ytlmgjjmighajdaa

