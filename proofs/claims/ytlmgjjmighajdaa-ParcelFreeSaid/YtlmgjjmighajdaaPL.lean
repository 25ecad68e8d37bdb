/-
  A part of the walk and of the plain law of one given statement. No condition.
-/
import Derived.Test.YtlmgjjmighajdaaDC
set_option linter.unusedVariables false
namespace Go.Proofs.Ytlmgjjmighajdaa
open Go.Sl Go.Sx
def F35 (fuel : Nat) (x0 : Int) (x1 : Int) : Option (Int) :=
  ((nz x1).bind fun _ => ((nz x1).bind fun _ => (some ((Int.tmod (w64 ((Int.tmod x0 x1) + x1)) x1)))))
set_option maxRecDepth 100000 in
theorem f35_ok (fuel : Nat) (x0 : Int) (x1 : Int) (r : Int) (hr : F35 fuel x0 x1 = some r) (h : Zone) (L : List Atom) (w : World) (hS : St h L w)  :
    Calls Try.prog 35 #[vI x0, vI x1] w fun e w' => ∃ v, e = .returned v ∧ (v = vI r ∧ St h L w') := by
 refine calls_intro (N := 12) Try.func35 (by kernel_rfl) fun a hf => ?_
 refine c_sq [] [0, 1] hf .nil fun a1 hf1 => ?_
 obtain ⟨u1, hd1, hr1⟩ := bind_some hr
 obtain ⟨u2, hd2, hr2⟩ := bind_some hr1
 refine c_sq [] [4] hf1 (.prop (nz_spec hd1) (.prop (nz_spec hd2) .nil)) fun a2 hf2 => ?_
 refine c_ret ?_
 refine c_rt [] (vI (Int.tmod (w64 ((Int.tmod x0 x1) + x1)) x1)) hf2 .nil ?_
 obtain rfl := some_eq hr2
 exact ⟨_, rfl, rfl, hS⟩
def F94_j1 (fuel : Nat) (k1 : (List Lot) → Int → Int → Option (List Lot)) (x0 : List A4) (y1 : List Lot) (y2 : Int) (y3 : Int) (y4 : Bool) : Option (List Lot) :=
  (cond y4 ((getI x0 y3).bind fun p1 => ((F35 fuel p1.a0 3).bind fun r1 => ((getI x0 y3).bind fun p2 => ((getI x0 y3).bind fun p3 => ((getI x0 y3).bind fun p4 => ((F35 fuel p2.a1 3).bind fun r2 => ((F35 fuel p3.a2 3).bind fun r3 => ((F35 fuel p4.a3 10001).bind fun r4 => ((appC y1 ([⟨(w64 ((w64 (y2 + (1 : Int))) + r1)), (w64 ((1 : Int) + r2)), (w64 ((1 : Int) + r3)), r4⟩])).bind fun d1 => (k1 d1 (w64 ((w64 (y2 + (1 : Int))) + r1)) (w64 (y3 + (1 : Int))))))))))))) (some (y1)))
def F94_l1 (fuel : Nat) (x0 : List A4) : Nat → (List Lot) → Int → Int → Option (List Lot)
  | 0, _, _, _ => none
  | n1 + 1, y1, y2, y3 =>
    let k1 : (List Lot) → Int → Int → Option (List Lot) := F94_l1 fuel x0 n1
    (cond (decide (y3 < (x0.length : Int))) (F94_j1 fuel k1 x0 y1 y2 y3 (decide (y3 < (8 : Int)))) (F94_j1 fuel k1 x0 y1 y2 y3 false))
def F94 (fuel : Nat) (x0 : List A4) : Option (List Lot) :=
  (F94_l1 fuel x0 fuel ([]) 0 0)
set_option maxRecDepth 100000 in
theorem f94_ok (fuel : Nat) (x0 : List A4) (r : List Lot) (hr : F94 fuel x0 = some r) (h : Zone) (L : List Atom) (w : World) (hS : St h L w) (o_x0 : Option Addr) (c_x0 : Nat) (hx_x0 : SliceR A4T h o_x0 c_x0 x0) :
    Calls Try.prog 94 #[.slice o_x0 x0.length c_x0] w fun e w' => ∃ v, e = .returned v ∧ (∃ h', ∃ o0 : Option Addr, ∃ c0 : Nat, Zone.le h h' ∧ v = .slice o0 r.length c0 ∧ St h' L w' ∧ SliceR LotT h' o0 c0 r) := by
 refine calls_intro (N := 51) Try.func94 (by kernel_rfl) fun a hf => ?_
 refine c_sq [] [0] hf .nil fun a1 hf1 => ?_
 refine c_sq [] [0, 3] hf1 .nil fun a2 hf2 => ?_
 refine c_sq [] [0, 3, 4] hf2 .nil fun a3 hf3 => ?_
 refine c_seq ?_
 refine c_sq [] [0, 3, 4, 5] hf3 .nil fun a4 hf4 => ?_
 refine c_block 0 ?_
 have hS1 := hS.ownNil LotT 33
 refine c_loop (fun n a w => ∃ z1 : Zone, ∃ y1 : List Lot, ∃ y2 : Int, ∃ y3 : Int, ∃ e1 : Option Addr, ∃ q1 : Nat, Zone.le h z1 ∧ Fr a 51 [(0, .slice o_x0 x0.length c_x0), (3, .slice e1 y1.length q1), (4, vI y2), (5, vI y3)] ∧ St z1 (ownS LotT 33 e1 q1 y1 :: L) w ∧ (F94_l1 fuel x0 n y1 y2 y3) = some r) fuel ⟨h, [], 0, 0, none, 0, zr, hf4.to, hS1, hr⟩ ?_
 rintro n2 a5 ww1 ⟨z1, y1, y2, y3, e1, q1, k2, hf6, hS2, hr1⟩
 cases n2 with
 | zero => cases hr1
 | succ n1 =>
 refine c_seq ?_
 refine c_mid (fun a w => ∃ z2 : Zone, ∃ y4 : Bool, Zone.le z1 z2 ∧ Fr a 51 [(0, .slice o_x0 x0.length c_x0), (3, .slice e1 y1.length q1), (4, vI y2), (5, vI y3), (13, .bool y4)] ∧ St z2 (ownS LotT 33 e1 q1 y1 :: L) w ∧ (F94_j1 fuel (F94_l1 fuel x0 n1) x0 y1 y2 y3 y4) = some r) ?_ ?_
 ·skip
  refine c_reg ?_
  refine c_n 5 [] [0, 3, 4, 5, 10] hf6 .nil fun a6 hf7 => ?_
  rcases bft (decide (y3 < (x0.length : Int))) with hb1 | hb1
  ·have hr2 := cond_t hb1 hr1
   have hf8 := hf7.lit 10 hb1
   refine c_t [] [0, 3, 4, 5, 13] hf8 .nil fun a7 hf9 => ?_
   exact ⟨z1, (decide (y3 < (8 : Int))), zr, hf9.to, hS2, hr2⟩
  ·have hr3 := cond_f hb1 hr1
   have hf11 := hf7.lit 10 hb1
   refine c_t [] [0, 3, 4, 5, 13] hf11 .nil fun a8 hf12 => ?_
   exact ⟨z1, false, zr, hf12.to, hS2, hr3⟩
 ·rintro a9 ww2 ⟨z2, y4, k3, hf14, hS3, hr4⟩
  refine c_if y4 hf14 (fun hb2 => ?_) (fun hb2 => ?_)
  ·have hr5 := cond_t hb2 hr4
   refine c_skip ?_
   refine n_then ?_
   refine c_seq ?_
   refine c_block 1 ?_
   refine c_sr ?_
   obtain ⟨p1, hp3331, hr6⟩ := bind_some hr5
   obtain ⟨ad1, ho1, hb3, cc1, hc1, hk1⟩ := SliceR.getI (SliceR.mono (zt k2 k3) hx_x0) hp3331
   subst hc1
   refine c_n (oC := [.prop (o_x0 = some ad1), .prop (0 ≤ y3 ∧ y3 < (x0.length : Nat)), .prop ((0 : Int) ≤ 0 ∧ (0 : Int) < (4 : Nat)), .cell ((ad1.add (Int.toNat y3 * 4)).add 0) (vI p1.a0)]) 7 [.pointer (some ad1), vI p1.a0] [0, 3, 5, 17, 22] hf14 (.prop ho1 (.prop hb3 (.prop (by decide) (.cell (hS3.cell (hk1 0 _ rfl)) .nil)))) fun a10 hf15 => ?_
   obtain ⟨r1, hd1, hr7⟩ := bind_some hr6
   refine c_call hf15 (f35_ok fuel p1.a0 3 r1 hd1 z2 _ _ hS3 ) ?_
   rintro v1 ww3 a11 ⟨rfl, hS4⟩ hf16
   refine ⟨fun _ => trivial, ?_⟩
   refine c_t [] [0, 3, 4, 5] hf16 .nil fun a12 hf17 => ?_
   have hS5 := hS4.drew
   have s1 := Sub.of zr hS5
   refine c_regD [(0, true), (1, true), (2, true), (3, true), (4, true), (5, true), (6, true), (9, true), (10, true), (11, true), (12, true), (13, true), (16, true), (17, true), (18, true), (19, true), (20, true), (7, false), (8, true), (14, false), (15, true), (21, false), (22, true), (23, false), (24, false), (25, true)] [21, 23, 24] _ s1 ?_
   obtain ⟨p2, hp3359, hr8⟩ := bind_some hr7
   obtain ⟨ad2, ho2, hb4, cc2, hc2, hk2⟩ := SliceR.getI (SliceR.mono (zt k2 k3) hx_x0) hp3359
   subst hc2
   obtain ⟨p3, hp3368, hr9⟩ := bind_some hr8
   obtain ⟨ad3, ho3, hb5, cc3, hc3, hk3⟩ := SliceR.getI (SliceR.mono (zt k2 k3) hx_x0) hp3368
   subst hc3
   obtain ⟨p4, hp3377, hr10⟩ := bind_some hr9
   obtain ⟨ad4, ho4, hb6, cc4, hc4, hk4⟩ := SliceR.getI (SliceR.mono (zt k2 k3) hx_x0) hp3377
   subst hc4
   refine c_S (oF := [.prop (o_x0 = some ad2), .prop (0 ≤ y3 ∧ y3 < (x0.length : Nat)), .prop ((0 : Int) ≤ 1 ∧ (1 : Int) < (4 : Nat)), .cell ((ad2.add (Int.toNat y3 * 4)).add 1) (vI p2.a1), .prop (o_x0 = some ad3), .prop (0 ≤ y3 ∧ y3 < (x0.length : Nat)), .prop ((0 : Int) ≤ 2 ∧ (2 : Int) < (4 : Nat)), .cell ((ad3.add (Int.toNat y3 * 4)).add 2) (vI p3.a2), .prop (o_x0 = some ad4), .prop (0 ≤ y3 ∧ y3 < (x0.length : Nat)), .prop ((0 : Int) ≤ 3 ∧ (3 : Int) < (4 : Nat)), .cell ((ad4.add (Int.toNat y3 * 4)).add 3) (vI p4.a3)]) 17 [.pointer (some ad2), vI p2.a1, .pointer (some ad3), vI p3.a2, .pointer (some ad4), vI p4.a3] [0, 4, 5, 25, 26, 31, 38, 45] s1 hf17 (fun _ s => (.prop ho2 (.prop hb4 (.prop (by decide) (.cell (s.cell (hk2 1 _ rfl)) (.prop ho3 (.prop hb5 (.prop (by decide) (.cell (s.cell (hk3 2 _ rfl)) (.prop ho4 (.prop hb6 (.prop (by decide) (.cell (s.cell (hk4 3 _ rfl)) .nil))))))))))))) .nil fun a13 hf18 => ?_
   obtain ⟨r2, hd2, hr11⟩ := bind_some hr10
   refine c_call hf18 (f35_ok fuel p2.a1 3 r2 hd2 z2 _ _ hS5 ) ?_
   rintro v2 ww4 a14 ⟨rfl, hS6⟩ hf19
   refine ⟨fun _ => Sub.of zr hS6, ?_⟩
   have s2 := Sub.of zr hS6
   refine c_S 1 [] [0, 4, 5, 25, 26, 33, 38, 45] s2 hf19 (fun _ s => .nil) .nil fun a15 hf20 => ?_
   obtain ⟨r3, hd3, hr12⟩ := bind_some hr11
   refine c_call hf20 (f35_ok fuel p3.a2 3 r3 hd3 z2 _ _ hS6 ) ?_
   rintro v3 ww5 a16 ⟨rfl, hS7⟩ hf21
   refine ⟨fun _ => Sub.of zr hS7, ?_⟩
   have s3 := Sub.of zr hS7
   refine c_S 1 [] [0, 4, 5, 25, 26, 33, 40, 45] s3 hf21 (fun _ s => .nil) .nil fun a17 hf22 => ?_
   obtain ⟨r4, hd4, hr13⟩ := bind_some hr12
   refine c_call hf22 (f35_ok fuel p4.a3 10001 r4 hd4 z2 _ _ hS7 ) ?_
   rintro v4 ww6 a18 ⟨rfl, hS8⟩ hf23
   refine ⟨fun e => absurd e (by decide), ?_⟩
   refine p_qP 1 [] [(0, .slice o_x0 x0.length c_x0), (4, vI (w64 ((w64 (y2 + (1 : Int))) + r1))), (5, vI y3), (25, .slice e1 y1.length q1), (47, .agg #[vI (w64 ((w64 (y2 + (1 : Int))) + r1)), vI (w64 ((1 : Int) + r2)), vI (w64 ((1 : Int) + r3)), vI r4])] [] hf23 (by kernel_rfl) (fun _ => .nil) fun a19 hf24 => ?_
   refine p_box (i := 23) (d := (some 48)) (cs := [vI (w64 ((w64 (y2 + (1 : Int))) + r1)), vI (w64 ((1 : Int) + r2)), vI (w64 ((1 : Int) + r3)), vI r4]) (T := 33) (v := fun b1 => .slice (some ⟨b1, 0, none⟩) 1 1) hS8 hf24 (fun b => by kernel_rfl) fun b1 ww7 a20 hS9 hf25 => ⟨fun e => absurd e (by decide), ?_⟩
   have hS10 := hS9.ownBox (T := LotT) (E := 33) (n := 1) (xs := [⟨(w64 ((w64 (y2 + (1 : Int))) + r1)), (w64 ((1 : Int) + r2)), (w64 ((1 : Int) + r3)), r4⟩]) (i := 0) rfl (Rows.cons (c := [vI (w64 ((w64 (y2 + (1 : Int))) + r1)), vI (w64 ((1 : Int) + r2)), vI (w64 ((1 : Int) + r3)), vI r4]) rfl rfl) rfl (by decide)
   obtain ⟨d1, hd5, hr14⟩ := bind_some hr13
   refine p_append (T := LotT) (i := 24) (j := 1) (d := some 49) (o2 := (some ⟨b1, 0, none⟩)) (c2 := 1) (ys := ([⟨(w64 ((w64 (y2 + (1 : Int))) + r1)), (w64 ((1 : Int) + r2)), (w64 ((1 : Int) + r3)), r4⟩])) el22 hS10 hf25 rfl (by kernel_rfl) (hS10.ownSrc (j := 0) rfl) hd5 fun e2 q2 ww8 a21 hS11 hf26 => ⟨fun e => absurd e (by decide), ?_⟩
   refine p_qP 1 [] [(0, .slice o_x0 x0.length c_x0), (3, .slice e2 d1.length q2), (4, vI (w64 ((w64 (y2 + (1 : Int))) + r1))), (5, vI y3)] [] hf26 (by kernel_rfl) (fun _ => .nil) fun a22 hf27 => ?_
   refine c_done ?_
   refine n_block ?_
   refine n_then ?_
   refine c_q [] [0, 3, 4, 5] hf27 .nil fun a23 hf28 => ?_
   refine n_then ?_
   exact ⟨n1, Nat.lt_succ_self n1, z2, d1, (w64 ((w64 (y2 + (1 : Int))) + r1)), (w64 (y3 + (1 : Int))), e2, q2, (zt k2 k3), hf28.to, (St.drop 1 hS11), hr14⟩
  ·have hr15 := cond_f hb2 hr4
   refine c_exit 0 ?_
   refine x_then ?_
   refine x_then ?_
   refine x_block ?_
   refine n_then ?_
   refine c_sq [] [2] hf14 .nil fun a24 hf30 => ?_
   refine c_ret ?_
   obtain ⟨z3, k4, hS12, hx1⟩ := hS3.share (j := 0) rfl
   refine c_rt [] (.slice e1 y1.length q1) hf30 .nil ?_
   obtain rfl := some_eq hr15
   exact ⟨_, rfl, z3, e1, q1, (zt (zt k2 k3) k4), rfl, (St.drop 1 hS12), hx1⟩
def F95_j2 (fuel : Nat) (x0l : List Lot) (x0h : List (List (List Part))) (r1 : Int) (y1 : Int) (y2 : Int) (y3 : Int) (y4 : Int) : Option (Int × Int × Int × Int × Int × Bool) :=
  ((F24 fuel x0l x0h (w64 ((1 : Int) + r1)) y1 y2 y3 y4).bind fun r2 => (some ((w64 ((1 : Int) + r1)), y1, y2, y3, y4, (r2 == (0 : Int)))))
def F95_j4 (fuel : Nat) (x0l : List Lot) (x0h : List (List (List Part))) (y5 : Int) (r1 : Int) (r3 : Int) (y6 : Int) : Option (Int × Int × Int × Int × Int × Bool) :=
  (cond ((w64 ((1 : Int) + r1)) != (6 : Int)) ((getI x0h r3).bind fun p1 => ((F77 fuel p1).bind fun r4 => ((F35 fuel y5 (if r4 > 1 then r4 else 1)).bind fun r5 => (F95_j2 fuel x0l x0h r1 0 r3 y6 (w64 ((1 : Int) + r5)))))) (F95_j2 fuel x0l x0h r1 0 r3 y6 0))
def F95_j3 (fuel : Nat) (x0l : List Lot) (x0h : List (List (List Part))) (y7 : Int) (y5 : Int) (r1 : Int) (r3 : Int) (r6 : Int) (y8 : Int) (y9 : Bool) : Option (Int × Int × Int × Int × Int × Bool) :=
  (cond y9 ((F35 fuel y7 (x0l.length : Int)).bind fun r7 => ((getI x0l r7).bind fun p2 => (F95_j2 fuel x0l x0h r1 p2.id 0 r6 y8))) (cond ((w64 ((1 : Int) + r1)) == (4 : Int)) (F95_j4 fuel x0l x0h y5 r1 r3 r6) (F95_j4 fuel x0l x0h y5 r1 r3 0)))
def F95_j1 (fuel : Nat) (x0l : List Lot) (x0h : List (List (List Part))) (y7 : Int) (y5 : Int) (r1 : Int) (r3 : Int) (r6 : Int) (y8 : Int) : Option (Int × Int × Int × Int × Int × Bool) :=
  (cond ((w64 ((1 : Int) + r1)) == (1 : Int)) (F95_j3 fuel x0l x0h y7 y5 r1 r3 r6 y8 true) (F95_j3 fuel x0l x0h y7 y5 r1 r3 r6 y8 ((w64 ((1 : Int) + r1)) == (2 : Int))))
def F95 (fuel : Nat) (x0l : List Lot) (x0h : List (List (List Part))) (y10 : Int) (y7 : Int) (y11 : Int) (y12 : Int) (y5 : Int) : Option (Int × Int × Int × Int × Int × Bool) :=
  ((F35 fuel y10 6).bind fun r1 => ((F35 fuel y11 4).bind fun r3 => ((F35 fuel y12 4).bind fun r6 => ((F35 fuel y5 400).bind fun r8 => ((F35 fuel (w64 (Int.tdiv y5 400)) 9).bind fun r9 => (cond (r9 == (0 : Int)) ((F35 fuel y5 5000000).bind fun r10 => (F95_j1 fuel x0l x0h y7 y5 r1 r3 r6 (w64 ((1 : Int) + r10)))) (F95_j1 fuel x0l x0h y7 y5 r1 r3 r6 (w64 ((1 : Int) + r8)))))))))
set_option maxRecDepth 100000 in
theorem f95_ok (fuel : Nat) (x0l : List Lot) (x0h : List (List (List Part))) (y10 : Int) (y7 : Int) (y11 : Int) (y12 : Int) (y5 : Int) (r : Int × Int × Int × Int × Int × Bool) (hr : F95 fuel x0l x0h y10 y7 y11 y12 y5 = some r) (h : Zone) (L : List Atom) (w : World) (hS : St h L w) (o_x0l : Option Addr) (c_x0l : Nat) (hx_x0l : SliceR LotT h o_x0l c_x0l x0l) (V00 V01 V02 V03 V04 V05 V06 V07 V08 : Value) (hx_x0h : (Ty.arr 9 (Ty.slice (Ty.slice PartT))).rep h [V00, V01, V02, V03, V04, V05, V06, V07, V08] x0h) :
    Calls Try.prog 95 #[.agg #[.slice o_x0l x0l.length c_x0l, V00, V01, V02, V03, V04, V05, V06, V07, V08], .agg #[vI y10, vI y7, vI y11, vI y12, vI y5]] w fun e w' => ∃ v, e = .returned v ∧ (∃ h', Zone.le h h' ∧ v = .tuple #[.agg #[vI r.1, vI r.2.1, vI r.2.2.1, vI r.2.2.2.1, vI r.2.2.2.2.1], .bool r.2.2.2.2.2] ∧ St h' L w') := by
 refine calls_intro (N := 84) Try.func95 (by kernel_rfl) fun a hf => ?_
 refine c_sr ?_
 refine c_box [.slice o_x0l x0l.length c_x0l, V00, V01, V02, V03, V04, V05, V06, V07, V08] 26 hS hf fun b1 ww1 a1 hS1 hf1 => ⟨fun _ => trivial, ?_⟩
 refine c_box [vI y10, vI y7, vI y11, vI y12, vI y5] 136 hS1 hf1 fun b2 ww2 a2 hS2 hf2 => ⟨fun _ => trivial, ?_⟩
 refine c_box [vI 0, vI 0, vI 0, vI 0, vI 0] 28 hS2 hf2 fun b3 ww3 a3 hS3 hf3 => ⟨fun _ => trivial, ?_⟩
 refine c_t [] [2, 3, 4] hf3 .nil fun a4 hf4 => ?_
 refine c_sr ?_
 refine c_n (oC := [.prop ((0 : Int) ≤ 0 ∧ (0 : Int) < (5 : Nat)), .cell ⟨b2, 0, none⟩ (vI y10)]) 2 [vI y10] [2, 3, 4, 11] hf4 (.prop (by decide) (.cell (hS3.box (i := 1) rfl (j := 0) rfl) .nil)) fun a5 hf5 => ?_
 obtain ⟨r1, hd1, hr1⟩ := bind_some hr
 refine c_call hf5 (f35_ok fuel y10 6 r1 hd1 h _ _ hS3 ) ?_
 rintro v1 ww4 a6 ⟨rfl, hS4⟩ hf6
 refine ⟨fun _ => trivial, ?_⟩
 refine c_n 2 [] [2, 3, 4, 14] hf6 .nil fun a7 hf7 => ?_
 refine c_box [vI 0, vI 0, vI 0, vI 0, vI 0] 28 hS4 hf7 fun b4 ww5 a8 hS5 hf8 => ⟨fun _ => trivial, ?_⟩
 refine c_st 0 [vI (w64 ((1 : Int) + r1)), vI 0, vI 0, vI 0, vI 0] hS5 hf8 rfl fun ww6 a9 hS6 hf9 => ⟨fun _ => trivial, ?_⟩
 refine c_dt ?_
 refine c_sr ?_
 refine c_n (oC := [.prop ((0 : Int) ≤ 2 ∧ (2 : Int) < (5 : Nat)), .cell ⟨b2, 2, none⟩ (vI y11)]) 2 [vI y11] [2, 3, 4, 6, 16] hf9 (.prop (by decide) (.cell (hS6.box (i := 2) rfl (j := 2) rfl) .nil)) fun a10 hf10 => ?_
 obtain ⟨r3, hd2, hr2⟩ := bind_some hr1
 refine c_call hf10 (f35_ok fuel y11 4 r3 hd2 h _ _ hS6 ) ?_
 rintro v2 ww7 a11 ⟨rfl, hS7⟩ hf11
 refine ⟨fun _ => trivial, ?_⟩
 refine c_t [] [2, 3, 4, 6, 7] hf11 .nil fun a12 hf12 => ?_
 refine c_sr ?_
 refine c_n (oC := [.prop ((0 : Int) ≤ 3 ∧ (3 : Int) < (5 : Nat)), .cell ⟨b2, 3, none⟩ (vI y12)]) 2 [vI y12] [2, 3, 4, 6, 7, 19] hf12 (.prop (by decide) (.cell (hS7.box (i := 2) rfl (j := 3) rfl) .nil)) fun a13 hf13 => ?_
 obtain ⟨r6, hd3, hr3⟩ := bind_some hr2
 refine c_call hf13 (f35_ok fuel y12 4 r6 hd3 h _ _ hS7 ) ?_
 rintro v3 ww8 a14 ⟨rfl, hS8⟩ hf14
 refine ⟨fun _ => trivial, ?_⟩
 refine c_t [] [2, 3, 4, 6, 7, 8] hf14 .nil fun a15 hf15 => ?_
 refine c_sr ?_
 refine c_n (oC := [.prop ((0 : Int) ≤ 4 ∧ (4 : Int) < (5 : Nat)), .cell ⟨b2, 4, none⟩ (vI y5)]) 2 [vI y5] [2, 3, 4, 6, 7, 8, 22] hf15 (.prop (by decide) (.cell (hS8.box (i := 2) rfl (j := 4) rfl) .nil)) fun a16 hf16 => ?_
 obtain ⟨r8, hd4, hr4⟩ := bind_some hr3
 refine c_call hf16 (f35_ok fuel y5 400 r8 hd4 h _ _ hS8 ) ?_
 rintro v4 ww9 a17 ⟨rfl, hS9⟩ hf17
 refine ⟨fun _ => trivial, ?_⟩
 refine c_t [] [2, 3, 4, 6, 7, 8, 9] hf17 .nil fun a18 hf18 => ?_
 refine c_mid (fun a w => ∃ z1 : Zone, ∃ y8 : Int, Zone.le h z1 ∧ Fr a 84 [(2, pB b1 0), (3, pB b2 0), (4, pB b3 0), (6, pB b4 0), (7, vI r3), (8, vI r6), (9, vI y8)] ∧ St z1 (box b4 [vI (w64 ((1 : Int) + r1)), vI 0, vI 0, vI 0, vI 0] 28 :: box b3 [vI 0, vI 0, vI 0, vI 0, vI 0] 28 :: box b2 [vI y10, vI y7, vI y11, vI y12, vI y5] 136 :: box b1 [.slice o_x0l x0l.length c_x0l, V00, V01, V02, V03, V04, V05, V06, V07, V08] 26 :: L) w ∧ (F95_j1 fuel x0l x0h y7 y5 r1 r3 r6 y8) = some r) ?_ ?_
 ·skip
  refine c_sr ?_
  refine c_n (oC := [.prop ((0 : Int) ≤ 4 ∧ (4 : Int) < (5 : Nat)), .cell ⟨b2, 4, none⟩ (vI y5), .prop ((400 : Int) ≠ 0)]) 3 [vI y5] [2, 3, 4, 6, 7, 8, 9, 27] hf18 (.prop (by decide) (.cell (hS9.box (i := 2) rfl (j := 4) rfl) (.prop (by decide) .nil))) fun a19 hf19 => ?_
  obtain ⟨r9, hd5, hr5⟩ := bind_some hr4
  refine c_call hf19 (f35_ok fuel (w64 (Int.tdiv y5 400)) 9 r9 hd5 h _ _ hS9 ) ?_
  rintro v5 ww10 a20 ⟨rfl, hS10⟩ hf20
  refine ⟨fun _ => trivial, ?_⟩
  refine c_t [] [2, 3, 4, 6, 7, 8, 9, 29] hf20 .nil fun a21 hf21 => ?_
  refine c_if (r9 == (0 : Int)) hf21 (fun hb1 => ?_) (fun hb1 => ?_)
  ·have hr6 := cond_t hb1 hr5
   refine c_reg ?_
   refine c_n (oC := [.prop ((0 : Int) ≤ 4 ∧ (4 : Int) < (5 : Nat)), .cell ⟨b2, 4, none⟩ (vI y5)]) 2 [vI y5] [2, 3, 4, 6, 7, 8, 31] hf21 (.prop (by decide) (.cell (hS10.box (i := 2) rfl (j := 4) rfl) .nil)) fun a22 hf22 => ?_
   obtain ⟨r10, hd6, hr7⟩ := bind_some hr6
   refine c_call hf22 (f35_ok fuel y5 5000000 r10 hd6 h _ _ hS10 ) ?_
   rintro v6 ww11 a23 ⟨rfl, hS11⟩ hf23
   refine ⟨fun _ => trivial, ?_⟩
   refine c_t [] [2, 3, 4, 6, 7, 8, 9] hf23 .nil fun a24 hf24 => ?_
   exact ⟨h, (w64 ((1 : Int) + r10)), zr, hf24.to, hS11, hr7⟩
  ·have hr8 := cond_f hb1 hr5
   refine c_skip ?_
   refine n_then ?_
   exact ⟨h, (w64 ((1 : Int) + r8)), zr, hf21.to, hS10, hr8⟩
 ·rintro a25 ww12 ⟨z1, y8, k1, hf27, hS12, hr9⟩
  refine c_mid (fun a w => ∃ z2 : Zone, ∃ y1 : Int, ∃ y2 : Int, ∃ y3 : Int, ∃ y4 : Int, Zone.le z1 z2 ∧ Fr a 84 [(2, pB b1 0), (4, pB b3 0), (6, pB b4 0)] ∧ St z2 (box b4 [vI (w64 ((1 : Int) + r1)), vI y1, vI y2, vI y3, vI y4] 28 :: box b3 [vI 0, vI 0, vI 0, vI 0, vI 0] 28 :: box b2 [vI y10, vI y7, vI y11, vI y12, vI y5] 136 :: box b1 [.slice o_x0l x0l.length c_x0l, V00, V01, V02, V03, V04, V05, V06, V07, V08] 26 :: L) w ∧ (F95_j2 fuel x0l x0h r1 y1 y2 y3 y4) = some r) ?_ ?_
  ·skip
   refine c_mid (fun a w => ∃ z3 : Zone, ∃ y9 : Bool, Zone.le z1 z3 ∧ Fr a 84 [(2, pB b1 0), (3, pB b2 0), (4, pB b3 0), (6, pB b4 0), (7, vI r3), (8, vI r6), (9, vI y8), (41, .bool y9)] ∧ St z3 (box b4 [vI (w64 ((1 : Int) + r1)), vI 0, vI 0, vI 0, vI 0] 28 :: box b3 [vI 0, vI 0, vI 0, vI 0, vI 0] 28 :: box b2 [vI y10, vI y7, vI y11, vI y12, vI y5] 136 :: box b1 [.slice o_x0l x0l.length c_x0l, V00, V01, V02, V03, V04, V05, V06, V07, V08] 26 :: L) w ∧ (F95_j3 fuel x0l x0h y7 y5 r1 r3 r6 y8 y9) = some r) ?_ ?_
   ·skip
    refine c_reg ?_
    refine c_n 4 [vI (w64 ((1 : Int) + r1))] [2, 3, 4, 6, 7, 8, 9, 37] hf27 (.cell (hS12.box (i := 0) rfl (j := 0) rfl) .nil) fun a26 hf28 => ?_
    rcases bft ((w64 ((1 : Int) + r1)) == (1 : Int)) with hb2 | hb2
    ·have hr10 := cond_t hb2 hr9
     have hf29 := hf28.lit 37 hb2
     refine c_t [] [2, 3, 4, 6, 7, 8, 9, 41] hf29 .nil fun a27 hf30 => ?_
     exact ⟨z1, true, zr, hf30.to, hS12, hr10⟩
    ·have hr11 := cond_f hb2 hr9
     have hf32 := hf28.lit 37 hb2
     refine c_t [vI (w64 ((1 : Int) + r1))] [2, 3, 4, 6, 7, 8, 9, 41] hf32 (.cell (hS12.box (i := 0) rfl (j := 0) rfl) .nil) fun a28 hf33 => ?_
     exact ⟨z1, ((w64 ((1 : Int) + r1)) == (2 : Int)), zr, hf33.to, hS12, hr11⟩
   ·rintro a29 ww13 ⟨z3, y9, k2, hf35, hS13, hr12⟩
    refine c_if y9 hf35 (fun hb3 => ?_) (fun hb3 => ?_)
    ·have hr13 := cond_t hb3 hr12
     refine c_seq ?_
     have hS14 := hS13.drew
     have s1 := Sub.of zr hS14
     refine c_regD [(0, true), (1, true), (2, true), (3, true), (4, true), (5, true), (6, true), (7, false), (8, true), (9, true), (10, true), (11, true), (12, false)] [12] _ s1 ?_
     refine c_S (oF := [.cell ⟨b1, 0, none⟩ (.slice o_x0l x0l.length c_x0l), .prop ((0 : Int) ≤ 1 ∧ (1 : Int) < (5 : Nat)), .cell ⟨b2, 1, none⟩ (vI y7), .cell ⟨b1, 0, none⟩ (.slice o_x0l x0l.length c_x0l)]) 7 [.slice o_x0l x0l.length c_x0l, vI y7, .slice o_x0l x0l.length c_x0l] [2, 4, 6, 8, 9, 43, 45, 48] s1 hf35 (fun _ s => (.cell (s.box (i := 3) rfl (j := 0) rfl) (.prop (by decide) (.cell (s.box (i := 2) rfl (j := 1) rfl) (.cell (s.box (i := 3) rfl (j := 0) rfl) .nil))))) .nil fun a30 hf36 => ?_
     obtain ⟨r7, hd7, hr14⟩ := bind_some hr13
     refine c_call hf36 (f35_ok fuel y7 (x0l.length : Int) r7 hd7 z3 _ _ hS14 ) ?_
     rintro v7 ww14 a31 ⟨rfl, hS15⟩ hf37
     refine ⟨fun _ => Sub.of zr hS15, ?_⟩
     have s2 := Sub.of zr hS15
     obtain ⟨p2, hp886, hr15⟩ := bind_some hr14
     obtain ⟨ad1, ho1, hb4, cc1, hc1, hk1⟩ := SliceR.getI (SliceR.mono (zt k1 k2) hx_x0l) hp886
     subst hc1
     refine c_S 4 [.pointer (some ad1), vI p2.id] [2, 4, 6, 8, 9, 52, 53] s2 hf37 (fun _ s => (.prop ho1 (.prop hb4 (.cell (s.cell (hk1 0 _ rfl)) .nil)))) .nil fun a32 hf38 => ?_
     refine c_st 0 [vI (w64 ((1 : Int) + r1)), vI p2.id, vI 0, vI 0, vI 0] hS15 hf38 rfl fun ww15 a33 hS16 hf39 => ⟨fun e => absurd e (by decide), ?_⟩
     refine c_dt ?_
     refine c_sr ?_
     refine c_n 2 [] [2, 4, 6, 9, 54, 55] hf39 .nil fun a34 hf40 => ?_
     refine c_st 0 [vI (w64 ((1 : Int) + r1)), vI p2.id, vI 0, vI r6, vI 0] hS16 hf40 rfl fun ww16 a35 hS17 hf41 => ⟨fun _ => trivial, ?_⟩
     refine c_dt ?_
     refine c_reg ?_
     refine c_n 2 [] [2, 4, 6, 56, 57] hf41 .nil fun a36 hf42 => ?_
     refine c_st 0 [vI (w64 ((1 : Int) + r1)), vI p2.id, vI 0, vI r6, vI y8] hS17 hf42 rfl fun ww17 a37 hS18 hf43 => ⟨fun _ => trivial, ?_⟩
     refine c_dt ?_
     exact ⟨z3, p2.id, 0, r6, y8, k2, hf43.to, hS18, hr15⟩
    ·have hr16 := cond_f hb3 hr12
     refine c_sr ?_
     refine c_n 2 [] [2, 3, 4, 6, 7, 8, 58, 59] hf35 .nil fun a38 hf45 => ?_
     refine c_st 0 [vI (w64 ((1 : Int) + r1)), vI 0, vI r3, vI 0, vI 0] hS13 hf45 rfl fun ww18 a39 hS19 hf46 => ⟨fun _ => trivial, ?_⟩
     refine c_dt ?_
     refine c_mid (fun a w => ∃ z4 : Zone, ∃ y6 : Int, Zone.le z3 z4 ∧ Fr a 84 [(2, pB b1 0), (3, pB b2 0), (4, pB b3 0), (6, pB b4 0), (7, vI r3)] ∧ St z4 (box b4 [vI (w64 ((1 : Int) + r1)), vI 0, vI r3, vI y6, vI 0] 28 :: box b3 [vI 0, vI 0, vI 0, vI 0, vI 0] 28 :: box b2 [vI y10, vI y7, vI y11, vI y12, vI y5] 136 :: box b1 [.slice o_x0l x0l.length c_x0l, V00, V01, V02, V03, V04, V05, V06, V07, V08] 26 :: L) w ∧ (F95_j4 fuel x0l x0h y5 r1 r3 y6) = some r) ?_ ?_
     ·skip
      refine c_sq [vI (w64 ((1 : Int) + r1))] [2, 3, 4, 6, 7, 8, 62] hf46 (.cell (hS19.box (i := 0) rfl (j := 0) rfl) .nil) fun a40 hf47 => ?_
      refine c_if ((w64 ((1 : Int) + r1)) == (4 : Int)) hf47 (fun hb5 => ?_) (fun hb5 => ?_)
      ·have hr17 := cond_t hb5 hr16
       refine c_reg ?_
       refine c_n 2 [] [2, 3, 4, 6, 7, 63, 64] hf47 .nil fun a41 hf48 => ?_
       refine c_st 0 [vI (w64 ((1 : Int) + r1)), vI 0, vI r3, vI r6, vI 0] hS19 hf48 rfl fun ww19 a42 hS20 hf49 => ⟨fun _ => trivial, ?_⟩
       refine c_dt ?_
       exact ⟨z3, r6, zr, hf49.to, hS20, hr17⟩
      ·have hr18 := cond_f hb5 hr16
       refine c_skip ?_
       refine n_then ?_
       exact ⟨z3, 0, zr, hf47.to, hS19, hr18⟩
     ·rintro a43 ww20 ⟨z4, y6, k3, hf52, hS21, hr19⟩
      refine c_sq [vI (w64 ((1 : Int) + r1))] [2, 3, 4, 6, 7, 67] hf52 (.cell (hS21.box (i := 0) rfl (j := 0) rfl) .nil) fun a44 hf53 => ?_
      refine c_if ((w64 ((1 : Int) + r1)) != (6 : Int)) hf53 (fun hb6 => ?_) (fun hb6 => ?_)
      ·have hr20 := cond_t hb6 hr19
       have hS22 := hS21.drew
       have s3 := Sub.of zr hS22
       refine c_regD [(0, true), (1, true), (2, true), (3, true), (4, true), (5, true), (6, false), (7, true), (8, false), (9, true), (10, true), (11, false)] [8, 11] _ s3 ?_
       obtain ⟨p1, hp981, hr21⟩ := bind_some hr20
       obtain ⟨hb7, _, hv1, e1, q1, hehv985, hx1⟩ := arrGet (Ty.mono _ (zt (zt k1 k2) k3) hx_x0h) rfl hp981
       obtain rfl := List.head_eq_of_cons_eq hehv985
       refine c_S (oF := [.prop ((0 : Int) ≤ 4 ∧ (4 : Int) < (5 : Nat)), .cell ⟨b2, 4, none⟩ (vI y5), .prop (0 ≤ r3 ∧ r3 < (9 : Nat)), .cell ((⟨b1, 1, none⟩ : Addr).add (Int.toNat r3 * 1)) (.slice e1 p1.length q1)]) 6 [vI y5, .slice e1 p1.length q1] [2, 4, 6, 69, 73] s3 hf53 (fun _ s => (.prop (by decide) (.cell (s.box (i := 2) rfl (j := 4) rfl) (.prop hb7 (.cell ((arrAddr b1 1 r3.toNat) ▸ (s.box (i := 3) rfl (getElem?_app_right [.slice o_x0l x0l.length c_x0l] _ _ hv1 []))) .nil))))) .nil fun a45 hf54 => ?_
       obtain ⟨r4, hd8, hr22⟩ := bind_some hr21
       refine c_call hf54 (f77_ok fuel p1 r4 hd8 z4 _ _ hS22 e1 q1 hx1) ?_
       rintro v8 ww21 a46 ⟨z5, k4, rfl, hS23⟩ hf55
       refine ⟨fun _ => Sub.of k4 hS23, ?_⟩
       have s4 := Sub.of k4 hS23
       refine c_S 1 [] [2, 4, 6, 69, 75] s4 hf55 (fun _ s => .nil) .nil fun a47 hf56 => ?_
       obtain ⟨r5, hd9, hr23⟩ := bind_some hr22
       refine c_call hf56 (f35_ok fuel y5 (if r4 > 1 then r4 else 1) r5 hd9 z5 _ _ hS23 ) ?_
       rintro v9 ww22 a48 ⟨rfl, hS24⟩ hf57
       refine ⟨fun e => absurd e (by decide), ?_⟩
       refine p_qP 2 [] [(2, pB b1 0), (4, pB b3 0), (6, pB b4 0), (77, vI (w64 ((1 : Int) + r5))), (78, pB b4 4)] [] hf57 (by kernel_rfl) (fun _ => .nil) fun a49 hf58 => ?_
       refine c_st 0 [vI (w64 ((1 : Int) + r1)), vI 0, vI r3, vI y6, vI (w64 ((1 : Int) + r5))] hS24 hf58 rfl fun ww23 a50 hS25 hf59 => ⟨fun e => absurd e (by decide), ?_⟩
       refine c_dt ?_
       exact ⟨z5, 0, r3, y6, (w64 ((1 : Int) + r5)), (zt (zt k2 k3) k4), hf59.to, hS25, hr23⟩
      ·have hr24 := cond_f hb6 hr19
       refine c_skip ?_
       refine n_then ?_
       exact ⟨z4, 0, r3, y6, 0, (zt k2 k3), hf53.to, hS21, hr24⟩
  ·rintro a51 ww24 ⟨z2, y1, y2, y3, y4, k5, hf62, hS26, hr25⟩
   refine c_seq ?_
   have hS27 := hS26.drew
   have s5 := Sub.of zr hS27
   refine c_regD [(0, true), (1, true), (2, true), (3, false), (4, true), (5, false), (6, true)] [5] _ s5 ?_
   refine c_S 3 [vI (w64 ((1 : Int) + r1)), vI y1, vI y2, vI y3, vI y4, .slice o_x0l x0l.length c_x0l, V00, V01, V02, V03, V04, V05, V06, V07, V08, vI (w64 ((1 : Int) + r1)), vI y1, vI y2, vI y3, vI y4] [4, 79, 80, 81] s5 hf62 (fun _ s => (.cell (s.box (i := 0) rfl (j := 0) rfl) (.cell (s.box (i := 0) rfl (j := 1) rfl) (.cell (s.box (i := 0) rfl (j := 2) rfl) (.cell (s.box (i := 0) rfl (j := 3) rfl) (.cell (s.box (i := 0) rfl (j := 4) rfl) (.cell (s.box (i := 3) rfl (j := 0) rfl) (.cell (s.box (i := 3) rfl (j := 1) rfl) (.cell (s.box (i := 3) rfl (j := 2) rfl) (.cell (s.box (i := 3) rfl (j := 3) rfl) (.cell (s.box (i := 3) rfl (j := 4) rfl) (.cell (s.box (i := 3) rfl (j := 5) rfl) (.cell (s.box (i := 3) rfl (j := 6) rfl) (.cell (s.box (i := 3) rfl (j := 7) rfl) (.cell (s.box (i := 3) rfl (j := 8) rfl) (.cell (s.box (i := 3) rfl (j := 9) rfl) (.cell (s.box (i := 0) rfl (j := 0) rfl) (.cell (s.box (i := 0) rfl (j := 1) rfl) (.cell (s.box (i := 0) rfl (j := 2) rfl) (.cell (s.box (i := 0) rfl (j := 3) rfl) (.cell (s.box (i := 0) rfl (j := 4) rfl) .nil))))))))))))))))))))) .nil fun a52 hf63 => ?_
   obtain ⟨r2, hd10, hr26⟩ := bind_some hr25
   refine c_call hf63 (f24_ok fuel x0l x0h (w64 ((1 : Int) + r1)) y1 y2 y3 y4 r2 hd10 z2 _ _ hS27 o_x0l c_x0l (SliceR.mono (zt k1 k5) hx_x0l) V00 V01 V02 V03 V04 V05 V06 V07 V08 (Ty.mono _ (zt k1 k5) hx_x0h)) ?_
   rintro v10 ww25 a53 ⟨z6, k6, rfl, hS28⟩ hf64
   refine ⟨fun _ => Sub.of k6 hS28, ?_⟩
   have s6 := Sub.of k6 hS28
   refine c_S 1 [] [4, 79, 83] s6 hf64 (fun _ s => .nil) .nil fun a54 hf65 => ?_
   refine c_st 1 [vI (w64 ((1 : Int) + r1)), vI y1, vI y2, vI y3, vI y4] hS28 hf65 rfl fun ww26 a55 hS29 hf66 => ⟨fun e => absurd e (by decide), ?_⟩
   refine p_qP 1 [] [(4, pB b3 0), (5, .bool (r2 == (0 : Int)))] [] hf66 (by kernel_rfl) (fun _ => .nil) fun a56 hf67 => ?_
   refine c_dt ?_
   refine c_ret ?_
   refine c_rt [vI (w64 ((1 : Int) + r1)), vI y1, vI y2, vI y3, vI y4] (.tuple #[.agg #[vI (w64 ((1 : Int) + r1)), vI y1, vI y2, vI y3, vI y4], .bool (r2 == (0 : Int))]) hf67 (.cell (hS29.box (i := 1) rfl (j := 0) rfl) (.cell (hS29.box (i := 1) rfl (j := 1) rfl) (.cell (hS29.box (i := 1) rfl (j := 2) rfl) (.cell (hS29.box (i := 1) rfl (j := 3) rfl) (.cell (hS29.box (i := 1) rfl (j := 4) rfl) .nil))))) ?_
   obtain rfl := some_eq hr26
   exact ⟨_, rfl, z6, (zt (zt k1 k5) k6), rfl, (St.drop 4 hS29)⟩
def F37_j2 (k1 : (List Deed) → (List Lot) → (List (List (List Part))) → Int → Option (List Lot × List Deed)) (y1 : Int) (y2 : List Deed) (y3 : List Lot) (y4 : List (List (List Part))) : Option (List Lot × List Deed) :=
  (k1 y2 y3 y4 (w64 (y1 + (1 : Int))))
def F37_j3 (fuel : Nat) (k1 : (List Deed) → (List Lot) → (List (List (List Part))) → Int → Option (List Lot × List Deed)) (y5 : List Deed) (y6 : List Lot) (y7 : List (List (List Part))) (y1 : Int) (y8 : Bool) (y9 : Int) (y10 : Int) (y11 : Int) (y12 : Int) (y13 : Int) : Option (List Lot × List Deed) :=
  (cond y8 ((F28 fuel y6 y7 y9 y10 y11 y12 y13).bind fun r1 => ((appC y5 ([⟨y9, y10, y11, y12, y13⟩])).bind fun d1 => (F37_j2 k1 y1 d1 r1.1 r1.2.1))) (F37_j2 k1 y1 y5 y6 y7))
def F37_j1 (fuel : Nat) (k1 : (List Deed) → (List Lot) → (List (List (List Part))) → Int → Option (List Lot × List Deed)) (x1 : List A5) (r2 : List Lot) (y5 : List Deed) (y6 : List Lot) (y7 : List (List (List Part))) (y1 : Int) (y14 : Bool) : Option (List Lot × List Deed) :=
  (cond y14 ((getI x1 y1).bind fun p1 => ((F95 fuel y6 y7 p1.a0 p1.a1 p1.a2 p1.a3 p1.a4).bind fun r3 => (F37_j3 fuel k1 y5 y6 y7 y1 r3.2.2.2.2.2 r3.1 r3.2.1 r3.2.2.1 r3.2.2.2.1 r3.2.2.2.2.1))) (some (r2, y5)))
def F37_l1 (fuel : Nat) (x1 : List A5) (r2 : List Lot) : Nat → (List Deed) → (List Lot) → (List (List (List Part))) → Int → Option (List Lot × List Deed)
  | 0, _, _, _, _ => none
  | n1 + 1, y5, y6, y7, y1 =>
    let k1 : (List Deed) → (List Lot) → (List (List (List Part))) → Int → Option (List Lot × List Deed) := F37_l1 fuel x1 r2 n1
    (cond (decide (y1 < (x1.length : Int))) (cond (decide (y1 < (24 : Int))) (F37_j1 fuel k1 x1 r2 y5 y6 y7 y1 (decide ((r2.length : Int) > (0 : Int)))) (F37_j1 fuel k1 x1 r2 y5 y6 y7 y1 false)) (F37_j1 fuel k1 x1 r2 y5 y6 y7 y1 false))
def F37 (fuel : Nat) (x0 : List A4) (x1 : List A5) : Option (List Lot × List Deed) :=
  ((F94 fuel x0).bind fun r2 => (F37_l1 fuel x1 r2 fuel ([]) r2 ([[], [], [], [], [], [], [], [], []]) 0))
set_option maxRecDepth 100000 in
theorem f37_ok (fuel : Nat) (x0 : List A4) (x1 : List A5) (r : List Lot × List Deed) (hr : F37 fuel x0 x1 = some r) (h : Zone) (L : List Atom) (w : World) (hS : St h L w) (o_x0 : Option Addr) (c_x0 : Nat) (hx_x0 : SliceR A4T h o_x0 c_x0 x0) (o_x1 : Option Addr) (c_x1 : Nat) (hx_x1 : SliceR A5T h o_x1 c_x1 x1) :
    Calls Try.prog 37 #[.slice o_x0 x0.length c_x0, .slice o_x1 x1.length c_x1] w fun e w' => ∃ v, e = .returned v ∧ (∃ h', ∃ o0 : Option Addr, ∃ c0 : Nat, ∃ o1 : Option Addr, ∃ c1 : Nat, Zone.le h h' ∧ v = .tuple #[.slice o0 r.1.length c0, .slice o1 r.2.length c1] ∧ St h' L w' ∧ SliceR LotT h' o0 c0 r.1 ∧ SliceR DeedT h' o1 c1 r.2) := by
 refine calls_intro (N := 54) Try.func37 (by kernel_rfl) fun a hf => ?_
 refine c_sq [] [0, 1] hf .nil fun a1 hf1 => ?_
 refine c_sr ?_
 refine c_n 1 [] [1, 12] hf1 .nil fun a2 hf2 => ?_
 obtain ⟨r2, hd1, hr1⟩ := bind_some hr
 refine c_call hf2 (f94_ok fuel x0 r2 hd1 h _ _ hS o_x0 c_x0 hx_x0) ?_
 rintro v1 ww1 a3 ⟨z1, e1, q1, k2, rfl, hS1, hx1⟩ hf3
 refine ⟨fun _ => trivial, ?_⟩
 refine c_t [] [1, 6] hf3 .nil fun a4 hf4 => ?_
 refine c_sr ?_
 refine c_n 2 [] [1, 6, 15] hf4 .nil fun a5 hf5 => ?_
 refine c_box [.slice none 0 0, .slice none 0 0, .slice none 0 0, .slice none 0 0, .slice none 0 0, .slice none 0 0, .slice none 0 0, .slice none 0 0, .slice none 0 0, .slice none 0 0] 26 hS1 hf5 fun b1 ww2 a6 hS2 hf6 => ⟨fun _ => trivial, ?_⟩
 refine c_st 0 [.slice e1 r2.length q1, .slice none 0 0, .slice none 0 0, .slice none 0 0, .slice none 0 0, .slice none 0 0, .slice none 0 0, .slice none 0 0, .slice none 0 0, .slice none 0 0] hS2 hf6 rfl fun ww3 a7 hS3 hf7 => ⟨fun _ => trivial, ?_⟩
 refine c_dt ?_
 refine c_sq [] [1, 6, 7, 8] hf7 .nil fun a8 hf8 => ?_
 refine c_seq ?_
 refine c_sq [] [1, 6, 7, 8, 9] hf8 .nil fun a9 hf9 => ?_
 refine c_block 0 ?_
 have hS4 := hS3.ownNil DeedT 28
 refine c_loop (fun n a w => ∃ z2 : Zone, ∃ y5 : List Deed, ∃ y6 : List Lot, ∃ y7 : List (List (List Part)), ∃ y1 : Int, ∃ e2 : Option Addr, ∃ q2 : Nat, ∃ e3 : Option Addr, ∃ q3 : Nat, ∃ v2 : Value, ∃ v3 : Value, ∃ v4 : Value, ∃ v5 : Value, ∃ v6 : Value, ∃ v7 : Value, ∃ v8 : Value, ∃ v9 : Value, ∃ v10 : Value, Zone.le z1 z2 ∧ Fr a 54 [(1, .slice o_x1 x1.length c_x1), (6, .slice e1 r2.length q1), (7, pB b1 0), (8, .slice e2 y5.length q2), (9, vI y1)] ∧ St z2 (ownS DeedT 28 e2 q2 y5 :: box b1 [.slice e3 y6.length q3, v2, v3, v4, v5, v6, v7, v8, v9, v10] 26 :: L) w ∧ SliceR LotT z2 e3 q3 y6 ∧ (Ty.arr 9 (Ty.slice (Ty.slice PartT))).rep z2 [v2, v3, v4, v5, v6, v7, v8, v9, v10] y7 ∧ (F37_l1 fuel x1 r2 n y5 y6 y7 y1) = some r) fuel ⟨z1, [], r2, [[], [], [], [], [], [], [], [], []], 0, none, 0, e1, q1, (.slice none 0 0), (.slice none 0 0), (.slice none 0 0), (.slice none 0 0), (.slice none 0 0), (.slice none 0 0), (.slice none 0 0), (.slice none 0 0), (.slice none 0 0), zr, hf9.to, hS4, hx1, ⟨rfl, (Rows.cons (c := [_]) (sliceRep (SliceR.nil' _ _)) (Rows.cons (c := [_]) (sliceRep (SliceR.nil' _ _)) (Rows.cons (c := [_]) (sliceRep (SliceR.nil' _ _)) (Rows.cons (c := [_]) (sliceRep (SliceR.nil' _ _)) (Rows.cons (c := [_]) (sliceRep (SliceR.nil' _ _)) (Rows.cons (c := [_]) (sliceRep (SliceR.nil' _ _)) (Rows.cons (c := [_]) (sliceRep (SliceR.nil' _ _)) (Rows.cons (c := [_]) (sliceRep (SliceR.nil' _ _)) (Rows.cons (c := [_]) (sliceRep (SliceR.nil' _ _)) rfl)))))))))⟩, hr1⟩ ?_
 rintro n2 a10 ww4 ⟨z2, y5, y6, y7, y1, e2, q2, e3, q3, v2, v3, v4, v5, v6, v7, v8, v9, v10, k3, hf11, hS5, hx2, hx3, hr2⟩
 cases n2 with
 | zero => cases hr2
 | succ n1 =>
 refine c_seq ?_
 refine c_mid (fun a w => ∃ z3 : Zone, ∃ y14 : Bool, Zone.le z2 z3 ∧ Fr a 54 [(1, .slice o_x1 x1.length c_x1), (6, .slice e1 r2.length q1), (7, pB b1 0), (8, .slice e2 y5.length q2), (9, vI y1), (28, .bool y14)] ∧ St z3 (ownS DeedT 28 e2 q2 y5 :: box b1 [.slice e3 y6.length q3, v2, v3, v4, v5, v6, v7, v8, v9, v10] 26 :: L) w ∧ (F37_j1 fuel (F37_l1 fuel x1 r2 n1) x1 r2 y5 y6 y7 y1 y14) = some r) ?_ ?_
 ·skip
  refine c_reg ?_
  refine c_n 5 [] [1, 6, 7, 8, 9, 20] hf11 .nil fun a11 hf12 => ?_
  rcases bft (decide (y1 < (x1.length : Int))) with hb1 | hb1
  ·have hr3 := cond_t hb1 hr2
   have hf13 := hf12.lit 20 hb1
   refine c_n 4 [] [1, 6, 7, 8, 9, 24] hf13 .nil fun a12 hf14 => ?_
   rcases bft (decide (y1 < (24 : Int))) with hb2 | hb2
   ·have hr4 := cond_t hb2 hr3
    have hf15 := hf14.lit 24 hb2
    refine c_t [] [1, 6, 7, 8, 9, 28] hf15 .nil fun a13 hf16 => ?_
    exact ⟨z2, (decide ((r2.length : Int) > (0 : Int))), zr, hf16.to, hS5, hr4⟩
   ·have hr5 := cond_f hb2 hr3
    have hf18 := hf14.lit 24 hb2
    refine c_t [] [1, 6, 7, 8, 9, 28] hf18 .nil fun a14 hf19 => ?_
    exact ⟨z2, false, zr, hf19.to, hS5, hr5⟩
  ·have hr6 := cond_f hb1 hr2
   have hf21 := hf12.lit 20 hb1
   refine c_t [] [1, 6, 7, 8, 9, 28] hf21 .nil fun a15 hf22 => ?_
   exact ⟨z2, false, zr, hf22.to, hS5, hr6⟩
 ·rintro a16 ww5 ⟨z3, y14, k4, hf24, hS6, hr7⟩
  refine c_if y14 hf24 (fun hb3 => ?_) (fun hb3 => ?_)
  ·have hr8 := cond_t hb3 hr7
   refine c_skip ?_
   refine n_then ?_
   refine c_mid (fun a w => ∃ z4 : Zone, ∃ y2 : List Deed, ∃ y3 : List Lot, ∃ y4 : List (List (List Part)), ∃ e4 : Option Addr, ∃ q4 : Nat, ∃ e5 : Option Addr, ∃ q5 : Nat, ∃ v11 : Value, ∃ v12 : Value, ∃ v13 : Value, ∃ v14 : Value, ∃ v15 : Value, ∃ v16 : Value, ∃ v17 : Value, ∃ v18 : Value, ∃ v19 : Value, Zone.le z3 z4 ∧ Fr a 54 [(1, .slice o_x1 x1.length c_x1), (6, .slice e1 r2.length q1), (7, pB b1 0), (8, .slice e4 y2.length q4), (9, vI y1)] ∧ St z4 (ownS DeedT 28 e4 q4 y2 :: box b1 [.slice e5 y3.length q5, v11, v12, v13, v14, v15, v16, v17, v18, v19] 26 :: L) w ∧ SliceR LotT z4 e5 q5 y3 ∧ (Ty.arr 9 (Ty.slice (Ty.slice PartT))).rep z4 [v11, v12, v13, v14, v15, v16, v17, v18, v19] y4 ∧ (F37_j2 (F37_l1 fuel x1 r2 n1) y1 y2 y3 y4) = some r) ?_ ?_
   ·skip
    refine c_block 1 ?_
    refine c_mid (fun a w => ∃ z5 : Zone, ∃ y8 : Bool, ∃ y9 : Int, ∃ y10 : Int, ∃ y11 : Int, ∃ y12 : Int, ∃ y13 : Int, ∃ b2 : Nat, Zone.le z3 z5 ∧ Fr a 54 [(1, .slice o_x1 x1.length c_x1), (6, .slice e1 r2.length q1), (7, pB b1 0), (8, .slice e2 y5.length q2), (9, vI y1), (10, pB b2 0), (11, .bool y8)] ∧ St z5 (box b2 [vI y9, vI y10, vI y11, vI y12, vI y13] 28 :: ownS DeedT 28 e2 q2 y5 :: box b1 [.slice e3 y6.length q3, v2, v3, v4, v5, v6, v7, v8, v9, v10] 26 :: L) w ∧ (F37_j3 fuel (F37_l1 fuel x1 r2 n1) y5 y6 y7 y1 y8 y9 y10 y11 y12 y13) = some r) ?_ ?_
    ·skip
     have hS7 := hS6.drew
     have s1 := Sub.of zr hS7
     refine w_regB (by kernel_rfl) [5, 10] (Sub z3 (ownS DeedT 28 e2 q2 y5 :: box b1 [.slice e3 y6.length q3, v2, v3, v4, v5, v6, v7, v8, v9, v10] 26 :: L)) (by kernel_rfl) ?_
     refine k_seg' 7 [(0, true), (1, true), (2, true), (3, true), (4, true)] (by kernel_rfl) (by kernel_rfl) (At.start s1) (by kernel_rfl) ?_
     obtain ⟨p1, hp14663, hr9⟩ := bind_some hr8
     obtain ⟨ad1, ho1, hb4, cc1, hc1, hk1⟩ := SliceR.getI (SliceR.mono (zt (zt k2 k3) k4) hx_x1) hp14663
     subst hc1
     refine c_S 5 [.slice e3 y6.length q3, v2, v3, v4, v5, v6, v7, v8, v9, v10, .pointer (some ad1), vI p1.a0, vI p1.a1, vI p1.a2, vI p1.a3, vI p1.a4] [1, 6, 7, 8, 9, 32, 36] s1 hf24 (fun _ s => (.cell (s.box (i := 1) rfl (j := 0) rfl) (.cell (s.box (i := 1) rfl (j := 1) rfl) (.cell (s.box (i := 1) rfl (j := 2) rfl) (.cell (s.box (i := 1) rfl (j := 3) rfl) (.cell (s.box (i := 1) rfl (j := 4) rfl) (.cell (s.box (i := 1) rfl (j := 5) rfl) (.cell (s.box (i := 1) rfl (j := 6) rfl) (.cell (s.box (i := 1) rfl (j := 7) rfl) (.cell (s.box (i := 1) rfl (j := 8) rfl) (.cell (s.box (i := 1) rfl (j := 9) rfl) (.prop ho1 (.prop hb4 (.cell (s.cell (hk1 0 _ rfl)) (.cell (s.cell (hk1 1 _ rfl)) (.cell (s.cell (hk1 2 _ rfl)) (.cell (s.cell (hk1 3 _ rfl)) (.cell (s.cell (hk1 4 _ rfl)) .nil)))))))))))))))))) .nil fun a17 hf25 => ?_
     refine c_done ?_
     intro hA1
     refine k_any' 6 [5, 9] (by kernel_rfl) hA1 (by kernel_rfl) (by kernel_rfl) ?_
     refine (all_cons ?_ (all_cons ?_ all_nil))
     ·skip
      obtain ⟨r3, hd2, hr10⟩ := bind_some hr9
      refine c_call hf25 (f95_ok fuel y6 y7 p1.a0 p1.a1 p1.a2 p1.a3 p1.a4 r3 hd2 z3 _ _ hS7 e3 q3 (SliceR.mono k4 hx2) v2 v3 v4 v5 v6 v7 v8 v9 v10 (Ty.mono _ k4 hx3)) ?_
      rintro v20 ww6 a18 ⟨z6, k5, rfl, hS8⟩ hf26
      refine ⟨fun e => absurd e (by decide), ?_⟩
      refine c_done ?_
      intro hA2
      refine k_seg' 0 [(6, true), (7, true), (8, true), (9, false), (10, false), (11, true)] (by kernel_rfl) (by kernel_rfl) hA2 (by kernel_rfl) ?_
      refine p_qP 3 [] [(1, .slice o_x1 x1.length c_x1), (6, .slice e1 r2.length q1), (7, pB b1 0), (8, .slice e2 y5.length q2), (9, vI y1), (38, .agg #[vI r3.1, vI r3.2.1, vI r3.2.2.1, vI r3.2.2.2.1, vI r3.2.2.2.2.1]), (39, .bool r3.2.2.2.2.2)] [] hf26 (by kernel_rfl) (fun _ => .nil) fun a19 hf27 => ?_
      refine c_box [vI 0, vI 0, vI 0, vI 0, vI 0] 28 hS8 hf27 fun b3 ww7 a20 hS9 hf28 => ⟨fun _ => Sub.of k5 (St.drop 1 hS9), ?_⟩
      have s2 := Sub.of k5 (St.drop 1 hS9)
      refine c_st 0 [vI r3.1, vI r3.2.1, vI r3.2.2.1, vI r3.2.2.2.1, vI r3.2.2.2.2.1] hS9 hf28 rfl fun ww8 a21 hS10 hf29 => ⟨fun e => absurd e (by decide), ?_⟩
      refine p_qP 1 [] [(1, .slice o_x1 x1.length c_x1), (6, .slice e1 r2.length q1), (7, pB b1 0), (8, .slice e2 y5.length q2), (9, vI y1), (10, pB b3 0), (11, .bool r3.2.2.2.2.2)] [] hf29 (by kernel_rfl) (fun _ => .nil) fun a22 hf30 => ?_
      refine c_done ?_
      intro hA3
      refine k_done' (by kernel_rfl) (by kernel_rfl) ?_
      refine n_then ?_
      exact ⟨z6, r3.2.2.2.2.2, r3.1, r3.2.1, r3.2.2.1, r3.2.2.2.1, r3.2.2.2.2.1, b3, k5, hf30.to, (St.pick 1 [0] hS10 (by kernel_rfl)), hr10⟩
     ·skip
      refine c_box [vI 0, vI 0, vI 0, vI 0, vI 0] 28 hS7 hf25 fun b4 ww9 a23 hS11 hf32 => ⟨fun _ => Sub.of zr (St.drop 1 hS11), ?_⟩
      refine c_done ?_
      intro hA4
      have s3 := Sub.of zr (St.drop 1 hS11)
      refine k_seg' 0 [(5, false), (6, true), (7, true), (8, true), (10, false), (11, true)] (by kernel_rfl) (by kernel_rfl) hA4 (by kernel_rfl) ?_
      obtain ⟨r4, hd3, hr11⟩ := bind_some hr9
      refine c_call hf32 (f95_ok fuel y6 y7 p1.a0 p1.a1 p1.a2 p1.a3 p1.a4 r4 hd3 z3 _ _ hS11 e3 q3 (SliceR.mono k4 hx2) v2 v3 v4 v5 v6 v7 v8 v9 v10 (Ty.mono _ k4 hx3)) ?_
      rintro v21 ww10 a24 ⟨z7, k6, rfl, hS12⟩ hf33
      refine ⟨fun e => absurd e (by decide), ?_⟩
      refine p_qP 3 [] [(1, .slice o_x1 x1.length c_x1), (6, .slice e1 r2.length q1), (7, pB b1 0), (8, .slice e2 y5.length q2), (9, vI y1), (10, pB b4 0), (38, .agg #[vI r4.1, vI r4.2.1, vI r4.2.2.1, vI r4.2.2.2.1, vI r4.2.2.2.2.1]), (39, .bool r4.2.2.2.2.2)] [] hf33 (by kernel_rfl) (fun _ => .nil) fun a25 hf34 => ?_
      refine c_st 0 [vI r4.1, vI r4.2.1, vI r4.2.2.1, vI r4.2.2.2.1, vI r4.2.2.2.2.1] hS12 hf34 rfl fun ww11 a26 hS13 hf35 => ⟨fun e => absurd e (by decide), ?_⟩
      refine p_qP 1 [] [(1, .slice o_x1 x1.length c_x1), (6, .slice e1 r2.length q1), (7, pB b1 0), (8, .slice e2 y5.length q2), (9, vI y1), (10, pB b4 0), (11, .bool r4.2.2.2.2.2)] [] hf35 (by kernel_rfl) (fun _ => .nil) fun a27 hf36 => ?_
      refine c_done ?_
      intro hA5
      refine k_done' (by kernel_rfl) (by kernel_rfl) ?_
      refine n_then ?_
      exact ⟨z7, r4.2.2.2.2.2, r4.1, r4.2.1, r4.2.2.1, r4.2.2.2.1, r4.2.2.2.2.1, b4, k6, hf36.to, (St.pick 1 [0] hS13 (by kernel_rfl)), hr11⟩
    ·rintro a28 ww12 ⟨z5, y8, y9, y10, y11, y12, y13, b2, k7, hf38, hS14, hr12⟩
     refine c_sq [] [1, 6, 7, 8, 9, 10, 40] hf38 .nil fun a29 hf39 => ?_
     refine c_if y8 hf39 (fun hb5 => ?_) (fun hb5 => ?_)
     ·have hr13 := cond_t hb5 hr12
      refine c_sr ?_
      refine c_n 2 [.slice e3 y6.length q3, v2, v3, v4, v5, v6, v7, v8, v9, v10, vI y9, vI y10, vI y11, vI y12, vI y13] [1, 6, 7, 8, 9, 10, 42, 43] hf39 (.cell (hS14.box (i := 2) rfl (j := 0) rfl) (.cell (hS14.box (i := 2) rfl (j := 1) rfl) (.cell (hS14.box (i := 2) rfl (j := 2) rfl) (.cell (hS14.box (i := 2) rfl (j := 3) rfl) (.cell (hS14.box (i := 2) rfl (j := 4) rfl) (.cell (hS14.box (i := 2) rfl (j := 5) rfl) (.cell (hS14.box (i := 2) rfl (j := 6) rfl) (.cell (hS14.box (i := 2) rfl (j := 7) rfl) (.cell (hS14.box (i := 2) rfl (j := 8) rfl) (.cell (hS14.box (i := 2) rfl (j := 9) rfl) (.cell (hS14.box (i := 0) rfl (j := 0) rfl) (.cell (hS14.box (i := 0) rfl (j := 1) rfl) (.cell (hS14.box (i := 0) rfl (j := 2) rfl) (.cell (hS14.box (i := 0) rfl (j := 3) rfl) (.cell (hS14.box (i := 0) rfl (j := 4) rfl) .nil))))))))))))))) fun a30 hf40 => ?_
      obtain ⟨r1, hd4, hr14⟩ := bind_some hr13
      refine c_call hf40 (f28_ok fuel y6 y7 y9 y10 y11 y12 y13 r1 hd4 z5 _ _ hS14 e3 q3 (SliceR.mono (zt k4 k7) hx2) v2 v3 v4 v5 v6 v7 v8 v9 v10 (Ty.mono _ (zt k4 k7) hx3)) ?_
      rintro v22 ww13 a31 ⟨z8, e6, q6, v23, v24, v25, v26, v27, v28, v29, v30, v31, e7, q7, k8, rfl, hS15, hx4, hx5, hx6⟩ hf41
      refine ⟨fun _ => trivial, ?_⟩
      refine c_n 4 [] [1, 6, 7, 8, 9, 10, 45] hf41 .nil fun a32 hf42 => ?_
      have hq1 := oneCells_of (Ty.one _ (Ty.mono _ zr hx5))
      refine p_store_eq (i := 7) (j := 2) (b := b1) (off := 0) (vs := [.slice e6 r1.1.length q6, v23, v24, v25, v26, v27, v28, v29, v30, v31]) (cs' := [.slice e6 r1.1.length q6, v23, v24, v25, v26, v27, v28, v29, v30, v31]) hS15 hf42 rfl (by kernel_rfl) hq1 rfl fun ww14 a33 hS16 hf43 => ⟨fun _ => trivial, ?_⟩
      refine c_dt ?_
      refine c_reg ?_
      refine c_n 2 [vI y9, vI y10, vI y11, vI y12, vI y13] [1, 6, 7, 9, 48, 49] hf43 (.cell (hS16.box (i := 0) rfl (j := 0) rfl) (.cell (hS16.box (i := 0) rfl (j := 1) rfl) (.cell (hS16.box (i := 0) rfl (j := 2) rfl) (.cell (hS16.box (i := 0) rfl (j := 3) rfl) (.cell (hS16.box (i := 0) rfl (j := 4) rfl) .nil))))) fun a34 hf44 => ?_
      refine p_box (i := 2) (d := (some 50)) (cs := [vI y9, vI y10, vI y11, vI y12, vI y13]) (T := 28) (v := fun b5 => .slice (some ⟨b5, 0, none⟩) 1 1) hS16 hf44 (fun b => by kernel_rfl) fun b5 ww15 a35 hS17 hf45 => ⟨fun _ => trivial, ?_⟩
      have hS18 := hS17.ownBox (T := DeedT) (E := 28) (n := 1) (xs := [⟨y9, y10, y11, y12, y13⟩]) (i := 0) rfl (Rows.cons (c := [vI y9, vI y10, vI y11, vI y12, vI y13]) rfl rfl) rfl (by decide)
      obtain ⟨d1, hd5, hr15⟩ := bind_some hr14
      refine p_append (T := DeedT) (i := 3) (j := 2) (d := some 51) (o2 := (some ⟨b5, 0, none⟩)) (c2 := 1) (ys := ([⟨y9, y10, y11, y12, y13⟩])) el64 hS18 hf45 rfl (by kernel_rfl) (hS18.ownSrc (j := 0) rfl) hd5 fun e8 q8 ww16 a36 hS19 hf46 => ⟨fun _ => trivial, ?_⟩
      refine c_z [] [1, 6, 7, 8, 9] hf46 .nil fun a37 hf47 => ?_
      refine n_block ?_
      refine n_then ?_
      exact ⟨z8, d1, r1.1, r1.2.1, e8, q8, e6, q6, v23, v24, v25, v26, v27, v28, v29, v30, v31, (zt k7 k8), hf47.to, (St.drop 2 hS19), hx4, (Ty.mono _ zr hx5), hr15⟩
     ·have hr16 := cond_f hb5 hr12
      refine c_skip ?_
      refine n_block ?_
      refine n_then ?_
      exact ⟨z5, y5, y6, y7, e2, q2, e3, q3, v2, v3, v4, v5, v6, v7, v8, v9, v10, k7, hf39.to, (St.drop 1 hS14), (SliceR.mono (zt k4 k7) hx2), (Ty.mono _ (zt k4 k7) hx3), hr16⟩
   ·rintro a38 ww17 ⟨z4, y2, y3, y4, e4, q4, e5, q5, v11, v12, v13, v14, v15, v16, v17, v18, v19, k9, hf50, hS20, hx7, hx8, hr17⟩
    refine c_q [] [1, 6, 7, 8, 9] hf50 .nil fun a39 hf51 => ?_
    refine n_then ?_
    exact ⟨n1, Nat.lt_succ_self n1, z4, y2, y3, y4, (w64 (y1 + (1 : Int))), e4, q4, e5, q5, v11, v12, v13, v14, v15, v16, v17, v18, v19, (zt (zt k3 k4) k9), hf51.to, hS20, hx7, (Ty.mono _ zr hx8), hr17⟩
  ·have hr18 := cond_f hb3 hr7
   refine c_exit 0 ?_
   refine x_then ?_
   refine x_then ?_
   refine x_block ?_
   refine n_then ?_
   refine c_sq [] [4, 5] hf24 .nil fun a40 hf53 => ?_
   refine c_ret ?_
   obtain ⟨z9, k10, hS21, hx9⟩ := hS6.share (j := 0) rfl
   refine c_rt [] (.tuple #[.slice e1 r2.length q1, .slice e2 y5.length q2]) hf53 .nil ?_
   obtain rfl := some_eq hr18
   exact ⟨_, rfl, z9, e1, q1, e2, q2, (zt (zt (zt k2 k3) k4) k10), rfl, (St.drop 2 hS21), (SliceR.mono (zt (zt k3 k4) k10) hx1), hx9⟩
end Go.Proofs.Ytlmgjjmighajdaa
set_option linter.unusedVariables false
namespace Go.Proofs.Ytlmgjjmighajdaa
open Go.Sl Go.Sx
def F44_j1 (k1 : (List Lot) → (List (List (List Part))) → Int → Option (List Lot × List (List (List Part)) × Int × Int)) (y1 : Int) (y2 : Int) (y3 : List Lot) (y4 : List (List (List Part))) : Option (List Lot × List (List (List Part)) × Int × Int) :=
  (cond (y2 != (0 : Int)) (some ([], [[], [], [], [], [], [], [], [], []], y1, y2)) (k1 y3 y4 (w64 (y1 + (1 : Int)))))
def F44_l1 (fuel : Nat) (x1 : List Deed) : Nat → (List Lot) → (List (List (List Part))) → Int → Option (List Lot × List (List (List Part)) × Int × Int)
  | 0, _, _, _ => none
  | n1 + 1, y5, y6, y1 =>
    let k1 : (List Lot) → (List (List (List Part))) → Int → Option (List Lot × List (List (List Part)) × Int × Int) := F44_l1 fuel x1 n1
    (cond (decide (y1 < (x1.length : Int))) ((getI x1 y1).bind fun p1 => ((F28 fuel y5 y6 p1.kind p1.lot p1.frm p1.to p1.mass).bind fun r1 => (F44_j1 k1 y1 r1.2.2.2 r1.1 r1.2.1))) (some (y5, y6, (x1.length : Int), 0)))
def F44 (fuel : Nat) (x0 : List Lot) (x1 : List Deed) : Option (List Lot × List (List (List Part)) × Int × Int) :=
  ((F20 fuel x0).bind fun r2 => (cond (r2 != (0 : Int)) (some ([], [[], [], [], [], [], [], [], [], []], 0, 60)) (cond (decide ((x1.length : Int) > (60 : Int))) (some ([], [[], [], [], [], [], [], [], [], []], 0, 2)) ((appC ([]) x0).bind fun d1 => (F44_l1 fuel x1 fuel d1 ([[], [], [], [], [], [], [], [], []]) 0)))))
set_option maxRecDepth 100000 in
theorem f44_ok (fuel : Nat) (x0 : List Lot) (x1 : List Deed) (r : List Lot × List (List (List Part)) × Int × Int) (hr : F44 fuel x0 x1 = some r) (h : Zone) (L : List Atom) (w : World) (hS : St h L w) (o_x0 : Option Addr) (c_x0 : Nat) (hx_x0 : SliceR LotT h o_x0 c_x0 x0) (o_x1 : Option Addr) (c_x1 : Nat) (hx_x1 : SliceR DeedT h o_x1 c_x1 x1) :
    Calls Try.prog 44 #[.slice o_x0 x0.length c_x0, .slice o_x1 x1.length c_x1] w fun e w' => ∃ v, e = .returned v ∧ (∃ h', ∃ o0 : Option Addr, ∃ c0 : Nat, ∃ v1_0 : Value, ∃ v1_1 : Value, ∃ v1_2 : Value, ∃ v1_3 : Value, ∃ v1_4 : Value, ∃ v1_5 : Value, ∃ v1_6 : Value, ∃ v1_7 : Value, ∃ v1_8 : Value, Zone.le h h' ∧ v = .tuple #[.agg #[.slice o0 r.1.length c0, v1_0, v1_1, v1_2, v1_3, v1_4, v1_5, v1_6, v1_7, v1_8], vI r.2.2.1, vI r.2.2.2] ∧ St h' L w' ∧ SliceR LotT h' o0 c0 r.1 ∧ (Ty.arr 9 (Ty.slice (Ty.slice PartT))).rep h' [v1_0, v1_1, v1_2, v1_3, v1_4, v1_5, v1_6, v1_7, v1_8] r.2.1) := by
 refine calls_intro (N := 49) Try.func44 (by kernel_rfl) fun a hf => ?_
 refine c_sr ?_
 refine c_box [.slice none 0 0, .slice none 0 0, .slice none 0 0, .slice none 0 0, .slice none 0 0, .slice none 0 0, .slice none 0 0, .slice none 0 0, .slice none 0 0, .slice none 0 0] 26 hS hf fun b1 ww1 a1 hS1 hf1 => ⟨fun _ => trivial, ?_⟩
 refine c_t [] [0, 1, 4] hf1 .nil fun a2 hf2 => ?_
 refine c_seq ?_
 refine c_sr ?_
 refine c_n 1 [] [0, 1, 4, 12] hf2 .nil fun a3 hf3 => ?_
 obtain ⟨r2, hd1, hr1⟩ := bind_some hr
 refine c_call hf3 (f20_ok fuel x0 r2 hd1 h _ _ hS1 o_x0 c_x0 hx_x0) ?_
 rintro v1 ww2 a4 ⟨z1, k2, rfl, hS2⟩ hf4
 refine ⟨fun _ => trivial, ?_⟩
 refine c_t [] [0, 1, 4, 14] hf4 .nil fun a5 hf5 => ?_
 refine c_if (r2 != (0 : Int)) hf5 (fun hb1 => ?_) (fun hb1 => ?_)
 ·have hr2 := cond_t hb1 hr1
  refine c_sr ?_
  refine c_n 1 [] [4, 15] hf5 .nil fun a6 hf6 => ?_
  refine c_st 0 [.slice none 0 0, .slice none 0 0, .slice none 0 0, .slice none 0 0, .slice none 0 0, .slice none 0 0, .slice none 0 0, .slice none 0 0, .slice none 0 0, .slice none 0 0] hS2 hf6 rfl fun ww3 a7 hS3 hf7 => ⟨fun _ => trivial, ?_⟩
  refine c_t [] [4, 5, 6] hf7 .nil fun a8 hf8 => ?_
  refine c_ret ?_
  refine r_then ?_
  refine c_rt [.slice none 0 0, .slice none 0 0, .slice none 0 0, .slice none 0 0, .slice none 0 0, .slice none 0 0, .slice none 0 0, .slice none 0 0, .slice none 0 0, .slice none 0 0] (.tuple #[.agg #[.slice none 0 0, .slice none 0 0, .slice none 0 0, .slice none 0 0, .slice none 0 0, .slice none 0 0, .slice none 0 0, .slice none 0 0, .slice none 0 0, .slice none 0 0], vI 0, vI 60]) hf8 (.cell (hS3.box (i := 0) rfl (j := 0) rfl) (.cell (hS3.box (i := 0) rfl (j := 1) rfl) (.cell (hS3.box (i := 0) rfl (j := 2) rfl) (.cell (hS3.box (i := 0) rfl (j := 3) rfl) (.cell (hS3.box (i := 0) rfl (j := 4) rfl) (.cell (hS3.box (i := 0) rfl (j := 5) rfl) (.cell (hS3.box (i := 0) rfl (j := 6) rfl) (.cell (hS3.box (i := 0) rfl (j := 7) rfl) (.cell (hS3.box (i := 0) rfl (j := 8) rfl) (.cell (hS3.box (i := 0) rfl (j := 9) rfl) .nil)))))))))) ?_
  obtain rfl := some_eq hr2
  exact ⟨_, rfl, z1, none, 0, .slice none 0 0, .slice none 0 0, .slice none 0 0, .slice none 0 0, .slice none 0 0, .slice none 0 0, .slice none 0 0, .slice none 0 0, .slice none 0 0, k2, rfl, (St.drop 1 hS3), SliceR.nil' _ _, ⟨rfl, (Rows.cons (c := [_]) (sliceRep (SliceR.nil' _ _)) (Rows.cons (c := [_]) (sliceRep (SliceR.nil' _ _)) (Rows.cons (c := [_]) (sliceRep (SliceR.nil' _ _)) (Rows.cons (c := [_]) (sliceRep (SliceR.nil' _ _)) (Rows.cons (c := [_]) (sliceRep (SliceR.nil' _ _)) (Rows.cons (c := [_]) (sliceRep (SliceR.nil' _ _)) (Rows.cons (c := [_]) (sliceRep (SliceR.nil' _ _)) (Rows.cons (c := [_]) (sliceRep (SliceR.nil' _ _)) (Rows.cons (c := [_]) (sliceRep (SliceR.nil' _ _)) rfl)))))))))⟩⟩
 ·have hr3 := cond_f hb1 hr1
  refine c_skip ?_
  refine n_then ?_
  refine c_seq ?_
  refine c_sq [] [0, 1, 4, 18] hf5 .nil fun a9 hf9 => ?_
  refine c_if (decide ((x1.length : Int) > (60 : Int))) hf9 (fun hb2 => ?_) (fun hb2 => ?_)
  ·have hr4 := cond_t hb2 hr3
   refine c_sr ?_
   refine c_n 1 [] [4, 19] hf9 .nil fun a10 hf10 => ?_
   refine c_st 0 [.slice none 0 0, .slice none 0 0, .slice none 0 0, .slice none 0 0, .slice none 0 0, .slice none 0 0, .slice none 0 0, .slice none 0 0, .slice none 0 0, .slice none 0 0] hS2 hf10 rfl fun ww4 a11 hS4 hf11 => ⟨fun _ => trivial, ?_⟩
   refine c_t [] [4, 5, 6] hf11 .nil fun a12 hf12 => ?_
   refine c_ret ?_
   refine r_then ?_
   refine c_rt [.slice none 0 0, .slice none 0 0, .slice none 0 0, .slice none 0 0, .slice none 0 0, .slice none 0 0, .slice none 0 0, .slice none 0 0, .slice none 0 0, .slice none 0 0] (.tuple #[.agg #[.slice none 0 0, .slice none 0 0, .slice none 0 0, .slice none 0 0, .slice none 0 0, .slice none 0 0, .slice none 0 0, .slice none 0 0, .slice none 0 0, .slice none 0 0], vI 0, vI 2]) hf12 (.cell (hS4.box (i := 0) rfl (j := 0) rfl) (.cell (hS4.box (i := 0) rfl (j := 1) rfl) (.cell (hS4.box (i := 0) rfl (j := 2) rfl) (.cell (hS4.box (i := 0) rfl (j := 3) rfl) (.cell (hS4.box (i := 0) rfl (j := 4) rfl) (.cell (hS4.box (i := 0) rfl (j := 5) rfl) (.cell (hS4.box (i := 0) rfl (j := 6) rfl) (.cell (hS4.box (i := 0) rfl (j := 7) rfl) (.cell (hS4.box (i := 0) rfl (j := 8) rfl) (.cell (hS4.box (i := 0) rfl (j := 9) rfl) .nil)))))))))) ?_
   obtain rfl := some_eq hr4
   exact ⟨_, rfl, z1, none, 0, .slice none 0 0, .slice none 0 0, .slice none 0 0, .slice none 0 0, .slice none 0 0, .slice none 0 0, .slice none 0 0, .slice none 0 0, .slice none 0 0, k2, rfl, (St.drop 1 hS4), SliceR.nil' _ _, ⟨rfl, (Rows.cons (c := [_]) (sliceRep (SliceR.nil' _ _)) (Rows.cons (c := [_]) (sliceRep (SliceR.nil' _ _)) (Rows.cons (c := [_]) (sliceRep (SliceR.nil' _ _)) (Rows.cons (c := [_]) (sliceRep (SliceR.nil' _ _)) (Rows.cons (c := [_]) (sliceRep (SliceR.nil' _ _)) (Rows.cons (c := [_]) (sliceRep (SliceR.nil' _ _)) (Rows.cons (c := [_]) (sliceRep (SliceR.nil' _ _)) (Rows.cons (c := [_]) (sliceRep (SliceR.nil' _ _)) (Rows.cons (c := [_]) (sliceRep (SliceR.nil' _ _)) rfl)))))))))⟩⟩
  ·have hr5 := cond_f hb2 hr3
   refine c_skip ?_
   refine n_then ?_
   refine c_sr ?_
   refine p_box (i := 0) (d := (some 20)) (cs := []) (T := 33) (v := fun b2 => .slice (some ⟨b2, 0, none⟩) 0 0) hS2 hf9 (fun b => by kernel_rfl) fun b2 ww5 a13 hS5 hf13 => ⟨fun _ => trivial, ?_⟩
   have hS6 := hS5.ownBox (T := LotT) (E := 33) (n := 0) (xs := []) (i := 0) rfl rfl rfl (by decide)
   refine c_n 1 [] [1, 4, 20, 21] hf13 .nil fun a14 hf14 => ?_
   obtain ⟨d1, hd2, hr6⟩ := bind_some hr5
   refine p_append (T := LotT) (i := 2) (j := 0) (d := some 22) (o2 := o_x0) (c2 := c_x0) (ys := x0) el22 hS6 hf14 rfl (by kernel_rfl) (SliceR.src (SliceR.mono k2 hx_x0) hS6) hd2 fun e1 q1 ww6 a15 hS7 hf15 => ⟨fun _ => trivial, ?_⟩
   refine c_n 1 [] [1, 4, 23] hf15 .nil fun a16 hf16 => ?_
   refine c_box [.slice none 0 0, .slice none 0 0, .slice none 0 0, .slice none 0 0, .slice none 0 0, .slice none 0 0, .slice none 0 0, .slice none 0 0, .slice none 0 0, .slice none 0 0] 26 hS7 hf16 fun b3 ww7 a17 hS8 hf17 => ⟨fun _ => trivial, ?_⟩
   refine c_st 0 [.slice e1 d1.length q1, .slice none 0 0, .slice none 0 0, .slice none 0 0, .slice none 0 0, .slice none 0 0, .slice none 0 0, .slice none 0 0, .slice none 0 0, .slice none 0 0] hS8 hf17 rfl fun ww8 a18 hS9 hf18 => ⟨fun _ => trivial, ?_⟩
   refine c_dt ?_
   refine c_seq ?_
   refine c_sq [] [1, 4, 7, 8] hf18 .nil fun a19 hf19 => ?_
   refine c_block 0 ?_
   obtain ⟨z2, k3, hS10, hx1⟩ := hS9.share (j := 1) rfl
   refine c_loop (fun n a w => ∃ z3 : Zone, ∃ y5 : List Lot, ∃ y6 : List (List (List Part)), ∃ y1 : Int, ∃ e2 : Option Addr, ∃ q2 : Nat, ∃ v2 : Value, ∃ v3 : Value, ∃ v4 : Value, ∃ v5 : Value, ∃ v6 : Value, ∃ v7 : Value, ∃ v8 : Value, ∃ v9 : Value, ∃ v10 : Value, Zone.le z2 z3 ∧ Fr a 49 [(1, .slice o_x1 x1.length c_x1), (4, pB b1 0), (7, pB b3 0), (8, vI y1)] ∧ St z3 (box b3 [.slice e2 y5.length q2, v2, v3, v4, v5, v6, v7, v8, v9, v10] 26 :: emp :: box b1 [.slice none 0 0, .slice none 0 0, .slice none 0 0, .slice none 0 0, .slice none 0 0, .slice none 0 0, .slice none 0 0, .slice none 0 0, .slice none 0 0, .slice none 0 0] 26 :: L) w ∧ SliceR LotT z3 e2 q2 y5 ∧ (Ty.arr 9 (Ty.slice (Ty.slice PartT))).rep z3 [v2, v3, v4, v5, v6, v7, v8, v9, v10] y6 ∧ (F44_l1 fuel x1 n y5 y6 y1) = some r) fuel ⟨z2, d1, [[], [], [], [], [], [], [], [], []], 0, e1, q1, (.slice none 0 0), (.slice none 0 0), (.slice none 0 0), (.slice none 0 0), (.slice none 0 0), (.slice none 0 0), (.slice none 0 0), (.slice none 0 0), (.slice none 0 0), zr, hf19.to, hS10, hx1, ⟨rfl, (Rows.cons (c := [_]) (sliceRep (SliceR.nil' _ _)) (Rows.cons (c := [_]) (sliceRep (SliceR.nil' _ _)) (Rows.cons (c := [_]) (sliceRep (SliceR.nil' _ _)) (Rows.cons (c := [_]) (sliceRep (SliceR.nil' _ _)) (Rows.cons (c := [_]) (sliceRep (SliceR.nil' _ _)) (Rows.cons (c := [_]) (sliceRep (SliceR.nil' _ _)) (Rows.cons (c := [_]) (sliceRep (SliceR.nil' _ _)) (Rows.cons (c := [_]) (sliceRep (SliceR.nil' _ _)) (Rows.cons (c := [_]) (sliceRep (SliceR.nil' _ _)) rfl)))))))))⟩, hr6⟩ ?_
   rintro n2 a20 ww9 ⟨z3, y5, y6, y1, e2, q2, v2, v3, v4, v5, v6, v7, v8, v9, v10, k4, hf21, hS11, hx2, hx3, hr7⟩
   cases n2 with
   | zero => cases hr7
   | succ n1 =>
   refine c_seq ?_
   refine c_sq [] [1, 4, 7, 8, 27] hf21 .nil fun a21 hf22 => ?_
   refine c_if (decide (y1 < (x1.length : Int))) hf22 (fun hb3 => ?_) (fun hb3 => ?_)
   ·have hr8 := cond_t hb3 hr7
    refine c_skip ?_
    refine n_then ?_
    refine c_seq ?_
    refine c_block 1 ?_
    refine c_mid (fun a w => ∃ z4 : Zone, ∃ y2 : Int, ∃ y3 : List Lot, ∃ y4 : List (List (List Part)), ∃ b4 : Nat, ∃ e3 : Option Addr, ∃ q3 : Nat, ∃ v11 : Value, ∃ v12 : Value, ∃ v13 : Value, ∃ v14 : Value, ∃ v15 : Value, ∃ v16 : Value, ∃ v17 : Value, ∃ v18 : Value, ∃ v19 : Value, Zone.le z3 z4 ∧ Fr a 49 [(1, .slice o_x1 x1.length c_x1), (4, pB b1 0), (7, pB b3 0), (8, vI y1), (9, pB b4 0), (11, vI y2)] ∧ St z4 (box b4 [.slice e3 y3.length q3, v11, v12, v13, v14, v15, v16, v17, v18, v19] 26 :: box b3 [.slice e2 y5.length q2, v2, v3, v4, v5, v6, v7, v8, v9, v10] 26 :: emp :: box b1 [.slice none 0 0, .slice none 0 0, .slice none 0 0, .slice none 0 0, .slice none 0 0, .slice none 0 0, .slice none 0 0, .slice none 0 0, .slice none 0 0, .slice none 0 0] 26 :: L) w ∧ SliceR LotT z4 e3 q3 y3 ∧ (Ty.arr 9 (Ty.slice (Ty.slice PartT))).rep z4 [v11, v12, v13, v14, v15, v16, v17, v18, v19] y4 ∧ (F44_j1 (F44_l1 fuel x1 n1) y1 y2 y3 y4) = some r) ?_ ?_
    ·skip
     have hS12 := hS11.drew
     have s1 := Sub.of zr hS12
     refine w_regB (by kernel_rfl) [5, 12, 13] (Sub z3 (box b3 [.slice e2 y5.length q2, v2, v3, v4, v5, v6, v7, v8, v9, v10] 26 :: emp :: box b1 [.slice none 0 0, .slice none 0 0, .slice none 0 0, .slice none 0 0, .slice none 0 0, .slice none 0 0, .slice none 0 0, .slice none 0 0, .slice none 0 0, .slice none 0 0] 26 :: L)) (by kernel_rfl) ?_
     refine k_seg' 10 [(0, true), (1, true), (2, true), (3, true), (4, true)] (by kernel_rfl) (by kernel_rfl) (At.start s1) (by kernel_rfl) ?_
     obtain ⟨p1, hp27086, hr9⟩ := bind_some hr8
     obtain ⟨ad1, ho1, hb4, cc1, hc1, hk1⟩ := SliceR.getI (SliceR.mono (zt (zt k2 k3) k4) hx_x1) hp27086
     subst hc1
     refine c_S 5 [.slice e2 y5.length q2, v2, v3, v4, v5, v6, v7, v8, v9, v10, .pointer (some ad1), vI p1.kind, vI p1.lot, vI p1.frm, vI p1.to, vI p1.mass] [1, 4, 7, 8, 31, 35] s1 hf22 (fun _ s => (.cell (s.box (i := 0) rfl (j := 0) rfl) (.cell (s.box (i := 0) rfl (j := 1) rfl) (.cell (s.box (i := 0) rfl (j := 2) rfl) (.cell (s.box (i := 0) rfl (j := 3) rfl) (.cell (s.box (i := 0) rfl (j := 4) rfl) (.cell (s.box (i := 0) rfl (j := 5) rfl) (.cell (s.box (i := 0) rfl (j := 6) rfl) (.cell (s.box (i := 0) rfl (j := 7) rfl) (.cell (s.box (i := 0) rfl (j := 8) rfl) (.cell (s.box (i := 0) rfl (j := 9) rfl) (.prop ho1 (.prop hb4 (.cell (s.cell (hk1 0 _ rfl)) (.cell (s.cell (hk1 1 _ rfl)) (.cell (s.cell (hk1 2 _ rfl)) (.cell (s.cell (hk1 3 _ rfl)) (.cell (s.cell (hk1 4 _ rfl)) .nil)))))))))))))))))) .nil fun a22 hf23 => ?_
     refine c_done ?_
     intro hA1
     refine k_any' 9 [5, 10, 11] (by kernel_rfl) hA1 (by kernel_rfl) (by kernel_rfl) ?_
     refine (all_cons ?_ (all_cons ?_ (all_cons ?_ all_nil)))
     ·skip
      obtain ⟨r1, hd3, hr10⟩ := bind_some hr9
      refine c_call hf23 (f28_ok fuel y5 y6 p1.kind p1.lot p1.frm p1.to p1.mass r1 hd3 z3 _ _ hS12 e2 q2 hx2 v2 v3 v4 v5 v6 v7 v8 v9 v10 (Ty.mono _ zr hx3)) ?_
      rintro v20 ww10 a23 ⟨z5, e4, q4, v21, v22, v23, v24, v25, v26, v27, v28, v29, e5, q5, k5, rfl, hS13, hx4, hx5, hx6⟩ hf24
      refine ⟨fun e => absurd e (by decide), ?_⟩
      refine c_done ?_
      intro hA2
      refine k_seg' 5 [(6, true), (7, true), (8, true), (9, true)] (by kernel_rfl) (by kernel_rfl) hA2 (by kernel_rfl) ?_
      refine p_qP 4 [] [(1, .slice o_x1 x1.length c_x1), (4, pB b1 0), (7, pB b3 0), (8, vI y1), (37, .agg #[.slice e4 r1.1.length q4, v21, v22, v23, v24, v25, v26, v27, v28, v29]), (38, .agg #[.slice e5 r1.2.2.1.length q5]), (39, vI r1.2.2.2)] [] hf24 (by kernel_rfl) (fun _ => .nil) fun a24 hf25 => ?_
      refine c_done ?_
      intro hA3
      refine k_any' 4 [10, 11] (by kernel_rfl) hA3 (by kernel_rfl) (by kernel_rfl) ?_
      refine (all_cons ?_ (all_cons ?_ all_nil))
      ·skip
       refine c_box [.slice none 0 0, .slice none 0 0, .slice none 0 0, .slice none 0 0, .slice none 0 0, .slice none 0 0, .slice none 0 0, .slice none 0 0, .slice none 0 0, .slice none 0 0] 26 hS13 hf25 fun b5 ww11 a25 hS14 hf26 => ⟨fun _ => Sub.of k5 (St.drop 1 hS14), ?_⟩
       refine c_done ?_
       intro hA4
       refine k_seg' 0 [(11, false), (12, false), (13, false), (14, true)] (by kernel_rfl) (by kernel_rfl) hA4 (by kernel_rfl) ?_
       refine c_box [.slice none 0 0] 40 hS14 hf26 fun b6 ww12 a26 hS15 hf27 => ⟨fun _ => Sub.of k5 (St.drop 2 hS15), ?_⟩
       have s2 := Sub.of k5 (St.drop 2 hS15)
       have hq1 := oneCells_of (Ty.one _ (Ty.mono _ zr hx5))
       refine p_store_eq (i := 12) (j := 1) (b := b5) (off := 0) (vs := [.slice e4 r1.1.length q4, v21, v22, v23, v24, v25, v26, v27, v28, v29]) (cs' := [.slice e4 r1.1.length q4, v21, v22, v23, v24, v25, v26, v27, v28, v29]) hS15 hf27 rfl (by kernel_rfl) hq1 rfl fun ww13 a27 hS16 hf28 => ⟨fun e => absurd e (by decide), ?_⟩
       refine c_st 0 [.slice e5 r1.2.2.1.length q5] hS16 hf28 rfl fun ww14 a28 hS17 hf29 => ⟨fun e => absurd e (by decide), ?_⟩
       refine p_qP 1 [] [(1, .slice o_x1 x1.length c_x1), (4, pB b1 0), (7, pB b3 0), (8, vI y1), (9, pB b5 0), (11, vI r1.2.2.2)] [] hf29 (by kernel_rfl) (fun _ => .nil) fun a29 hf30 => ?_
       refine c_done ?_
       intro hA5
       refine k_done' (by kernel_rfl) (by kernel_rfl) ?_
       refine n_then ?_
       exact ⟨z5, r1.2.2.2, r1.1, r1.2.1, b5, e4, q4, v21, v22, v23, v24, v25, v26, v27, v28, v29, k5, hf30.to, (St.pick 2 [1] hS17 (by kernel_rfl)), hx4, (Ty.mono _ zr hx5), hr10⟩
      ·skip
       refine c_box [.slice none 0 0] 40 hS13 hf25 fun b7 ww15 a30 hS18 hf32 => ⟨fun _ => Sub.of k5 (St.drop 1 hS18), ?_⟩
       refine c_done ?_
       intro hA6
       refine k_seg' 0 [(10, false), (12, false), (13, false), (14, true)] (by kernel_rfl) (by kernel_rfl) hA6 (by kernel_rfl) ?_
       refine c_box [.slice none 0 0, .slice none 0 0, .slice none 0 0, .slice none 0 0, .slice none 0 0, .slice none 0 0, .slice none 0 0, .slice none 0 0, .slice none 0 0, .slice none 0 0] 26 hS18 hf32 fun b8 ww16 a31 hS19 hf33 => ⟨fun _ => Sub.of k5 (St.drop 2 hS19), ?_⟩
       have s3 := Sub.of k5 (St.drop 2 hS19)
       have hq2 := oneCells_of (Ty.one _ (Ty.mono _ zr hx5))
       refine p_store_eq (i := 12) (j := 0) (b := b8) (off := 0) (vs := [.slice e4 r1.1.length q4, v21, v22, v23, v24, v25, v26, v27, v28, v29]) (cs' := [.slice e4 r1.1.length q4, v21, v22, v23, v24, v25, v26, v27, v28, v29]) hS19 hf33 rfl (by kernel_rfl) hq2 rfl fun ww17 a32 hS20 hf34 => ⟨fun e => absurd e (by decide), ?_⟩
       refine c_st 1 [.slice e5 r1.2.2.1.length q5] hS20 hf34 rfl fun ww18 a33 hS21 hf35 => ⟨fun e => absurd e (by decide), ?_⟩
       refine p_qP 1 [] [(1, .slice o_x1 x1.length c_x1), (4, pB b1 0), (7, pB b3 0), (8, vI y1), (9, pB b8 0), (11, vI r1.2.2.2)] [] hf35 (by kernel_rfl) (fun _ => .nil) fun a34 hf36 => ?_
       refine c_done ?_
       intro hA7
       refine k_done' (by kernel_rfl) (by kernel_rfl) ?_
       refine n_then ?_
       exact ⟨z5, r1.2.2.2, r1.1, r1.2.1, b8, e4, q4, v21, v22, v23, v24, v25, v26, v27, v28, v29, k5, hf36.to, (St.pick 2 [0] hS21 (by kernel_rfl)), hx4, (Ty.mono _ zr hx5), hr10⟩
     ·skip
      refine c_box [.slice none 0 0, .slice none 0 0, .slice none 0 0, .slice none 0 0, .slice none 0 0, .slice none 0 0, .slice none 0 0, .slice none 0 0, .slice none 0 0, .slice none 0 0] 26 hS12 hf23 fun b9 ww19 a35 hS22 hf38 => ⟨fun _ => Sub.of zr (St.drop 1 hS22), ?_⟩
      refine c_done ?_
      intro hA8
      have s4 := Sub.of zr (St.drop 1 hS22)
      refine k_seg' 9 [] (by kernel_rfl) (by kernel_rfl) hA8 (by kernel_rfl) ?_
      refine c_done ?_
      intro hA9
      refine k_any' 8 [5, 11] (by kernel_rfl) hA9 (by kernel_rfl) (by kernel_rfl) ?_
      refine (all_cons ?_ (all_cons ?_ all_nil))
      ·skip
       obtain ⟨r3, hd4, hr11⟩ := bind_some hr9
       refine c_call hf38 (f28_ok fuel y5 y6 p1.kind p1.lot p1.frm p1.to p1.mass r3 hd4 z3 _ _ hS22 e2 q2 hx2 v2 v3 v4 v5 v6 v7 v8 v9 v10 (Ty.mono _ zr hx3)) ?_
       rintro v30 ww20 a36 ⟨z6, e6, q6, v31, v32, v33, v34, v35, v36, v37, v38, v39, e7, q7, k6, rfl, hS23, hx7, hx8, hx9⟩ hf39
       refine ⟨fun e => absurd e (by decide), ?_⟩
       refine c_done ?_
       intro hA10
       refine k_seg' 0 [(6, true), (7, true), (8, true), (9, true), (11, false), (12, false), (13, false), (14, true)] (by kernel_rfl) (by kernel_rfl) hA10 (by kernel_rfl) ?_
       refine p_qP 4 [] [(1, .slice o_x1 x1.length c_x1), (4, pB b1 0), (7, pB b3 0), (8, vI y1), (9, pB b9 0), (37, .agg #[.slice e6 r3.1.length q6, v31, v32, v33, v34, v35, v36, v37, v38, v39]), (38, .agg #[.slice e7 r3.2.2.1.length q7]), (39, vI r3.2.2.2)] [] hf39 (by kernel_rfl) (fun _ => .nil) fun a37 hf40 => ?_
       refine c_box [.slice none 0 0] 40 hS23 hf40 fun b10 ww21 a38 hS24 hf41 => ⟨fun _ => Sub.of k6 (St.drop 2 hS24), ?_⟩
       have s5 := Sub.of k6 (St.drop 2 hS24)
       have hq3 := oneCells_of (Ty.one _ (Ty.mono _ zr hx8))
       refine p_store_eq (i := 12) (j := 1) (b := b9) (off := 0) (vs := [.slice e6 r3.1.length q6, v31, v32, v33, v34, v35, v36, v37, v38, v39]) (cs' := [.slice e6 r3.1.length q6, v31, v32, v33, v34, v35, v36, v37, v38, v39]) hS24 hf41 rfl (by kernel_rfl) hq3 rfl fun ww22 a39 hS25 hf42 => ⟨fun e => absurd e (by decide), ?_⟩
       refine c_st 0 [.slice e7 r3.2.2.1.length q7] hS25 hf42 rfl fun ww23 a40 hS26 hf43 => ⟨fun e => absurd e (by decide), ?_⟩
       refine p_qP 1 [] [(1, .slice o_x1 x1.length c_x1), (4, pB b1 0), (7, pB b3 0), (8, vI y1), (9, pB b9 0), (11, vI r3.2.2.2)] [] hf43 (by kernel_rfl) (fun _ => .nil) fun a41 hf44 => ?_
       refine c_done ?_
       intro hA11
       refine k_done' (by kernel_rfl) (by kernel_rfl) ?_
       refine n_then ?_
       exact ⟨z6, r3.2.2.2, r3.1, r3.2.1, b9, e6, q6, v31, v32, v33, v34, v35, v36, v37, v38, v39, k6, hf44.to, (St.pick 2 [1] hS26 (by kernel_rfl)), hx7, (Ty.mono _ zr hx8), hr11⟩
      ·skip
       refine c_box [.slice none 0 0] 40 hS22 hf38 fun b11 ww24 a42 hS27 hf46 => ⟨fun _ => Sub.of zr (St.drop 2 hS27), ?_⟩
       refine c_done ?_
       intro hA12
       have s6 := Sub.of zr (St.drop 2 hS27)
       refine k_seg' 0 [(5, false), (6, true), (7, true), (8, true), (9, true), (12, false), (13, false), (14, true)] (by kernel_rfl) (by kernel_rfl) hA12 (by kernel_rfl) ?_
       obtain ⟨r4, hd5, hr12⟩ := bind_some hr9
       refine c_call hf46 (f28_ok fuel y5 y6 p1.kind p1.lot p1.frm p1.to p1.mass r4 hd5 z3 _ _ hS27 e2 q2 hx2 v2 v3 v4 v5 v6 v7 v8 v9 v10 (Ty.mono _ zr hx3)) ?_
       rintro v40 ww25 a43 ⟨z7, e8, q8, v41, v42, v43, v44, v45, v46, v47, v48, v49, e9, q9, k7, rfl, hS28, hx10, hx11, hx12⟩ hf47
       refine ⟨fun e => absurd e (by decide), ?_⟩
       refine p_qP 4 [] [(1, .slice o_x1 x1.length c_x1), (4, pB b1 0), (7, pB b3 0), (8, vI y1), (9, pB b9 0), (10, pB b11 0), (37, .agg #[.slice e8 r4.1.length q8, v41, v42, v43, v44, v45, v46, v47, v48, v49]), (38, .agg #[.slice e9 r4.2.2.1.length q9]), (39, vI r4.2.2.2)] [] hf47 (by kernel_rfl) (fun _ => .nil) fun a44 hf48 => ?_
       have hq4 := oneCells_of (Ty.one _ (Ty.mono _ zr hx11))
       refine p_store_eq (i := 12) (j := 1) (b := b9) (off := 0) (vs := [.slice e8 r4.1.length q8, v41, v42, v43, v44, v45, v46, v47, v48, v49]) (cs' := [.slice e8 r4.1.length q8, v41, v42, v43, v44, v45, v46, v47, v48, v49]) hS28 hf48 rfl (by kernel_rfl) hq4 rfl fun ww26 a45 hS29 hf49 => ⟨fun e => absurd e (by decide), ?_⟩
       refine c_st 0 [.slice e9 r4.2.2.1.length q9] hS29 hf49 rfl fun ww27 a46 hS30 hf50 => ⟨fun e => absurd e (by decide), ?_⟩
       refine p_qP 1 [] [(1, .slice o_x1 x1.length c_x1), (4, pB b1 0), (7, pB b3 0), (8, vI y1), (9, pB b9 0), (11, vI r4.2.2.2)] [] hf50 (by kernel_rfl) (fun _ => .nil) fun a47 hf51 => ?_
       refine c_done ?_
       intro hA13
       refine k_done' (by kernel_rfl) (by kernel_rfl) ?_
       refine n_then ?_
       exact ⟨z7, r4.2.2.2, r4.1, r4.2.1, b9, e8, q8, v41, v42, v43, v44, v45, v46, v47, v48, v49, k7, hf51.to, (St.pick 2 [1] hS30 (by kernel_rfl)), hx10, (Ty.mono _ zr hx11), hr12⟩
     ·skip
      refine c_box [.slice none 0 0] 40 hS12 hf23 fun b12 ww28 a48 hS31 hf53 => ⟨fun _ => Sub.of zr (St.drop 1 hS31), ?_⟩
      refine c_done ?_
      intro hA14
      have s7 := Sub.of zr (St.drop 1 hS31)
      refine k_seg' 9 [] (by kernel_rfl) (by kernel_rfl) hA14 (by kernel_rfl) ?_
      refine c_done ?_
      intro hA15
      refine k_any' 8 [5, 10] (by kernel_rfl) hA15 (by kernel_rfl) (by kernel_rfl) ?_
      refine (all_cons ?_ (all_cons ?_ all_nil))
      ·skip
       obtain ⟨r5, hd6, hr13⟩ := bind_some hr9
       refine c_call hf53 (f28_ok fuel y5 y6 p1.kind p1.lot p1.frm p1.to p1.mass r5 hd6 z3 _ _ hS31 e2 q2 hx2 v2 v3 v4 v5 v6 v7 v8 v9 v10 (Ty.mono _ zr hx3)) ?_
       rintro v50 ww29 a49 ⟨z8, e10, q10, v51, v52, v53, v54, v55, v56, v57, v58, v59, e11, q11, k8, rfl, hS32, hx13, hx14, hx15⟩ hf54
       refine ⟨fun e => absurd e (by decide), ?_⟩
       refine c_done ?_
       intro hA16
       refine k_seg' 0 [(6, true), (7, true), (8, true), (9, true), (10, false), (12, false), (13, false), (14, true)] (by kernel_rfl) (by kernel_rfl) hA16 (by kernel_rfl) ?_
       refine p_qP 4 [] [(1, .slice o_x1 x1.length c_x1), (4, pB b1 0), (7, pB b3 0), (8, vI y1), (10, pB b12 0), (37, .agg #[.slice e10 r5.1.length q10, v51, v52, v53, v54, v55, v56, v57, v58, v59]), (38, .agg #[.slice e11 r5.2.2.1.length q11]), (39, vI r5.2.2.2)] [] hf54 (by kernel_rfl) (fun _ => .nil) fun a50 hf55 => ?_
       refine c_box [.slice none 0 0, .slice none 0 0, .slice none 0 0, .slice none 0 0, .slice none 0 0, .slice none 0 0, .slice none 0 0, .slice none 0 0, .slice none 0 0, .slice none 0 0] 26 hS32 hf55 fun b13 ww30 a51 hS33 hf56 => ⟨fun _ => Sub.of k8 (St.drop 2 hS33), ?_⟩
       have s8 := Sub.of k8 (St.drop 2 hS33)
       have hq5 := oneCells_of (Ty.one _ (Ty.mono _ zr hx14))
       refine p_store_eq (i := 12) (j := 0) (b := b13) (off := 0) (vs := [.slice e10 r5.1.length q10, v51, v52, v53, v54, v55, v56, v57, v58, v59]) (cs' := [.slice e10 r5.1.length q10, v51, v52, v53, v54, v55, v56, v57, v58, v59]) hS33 hf56 rfl (by kernel_rfl) hq5 rfl fun ww31 a52 hS34 hf57 => ⟨fun e => absurd e (by decide), ?_⟩
       refine c_st 1 [.slice e11 r5.2.2.1.length q11] hS34 hf57 rfl fun ww32 a53 hS35 hf58 => ⟨fun e => absurd e (by decide), ?_⟩
       refine p_qP 1 [] [(1, .slice o_x1 x1.length c_x1), (4, pB b1 0), (7, pB b3 0), (8, vI y1), (9, pB b13 0), (11, vI r5.2.2.2)] [] hf58 (by kernel_rfl) (fun _ => .nil) fun a54 hf59 => ?_
       refine c_done ?_
       intro hA17
       refine k_done' (by kernel_rfl) (by kernel_rfl) ?_
       refine n_then ?_
       exact ⟨z8, r5.2.2.2, r5.1, r5.2.1, b13, e10, q10, v51, v52, v53, v54, v55, v56, v57, v58, v59, k8, hf59.to, (St.pick 2 [0] hS35 (by kernel_rfl)), hx13, (Ty.mono _ zr hx14), hr13⟩
      ·skip
       refine c_box [.slice none 0 0, .slice none 0 0, .slice none 0 0, .slice none 0 0, .slice none 0 0, .slice none 0 0, .slice none 0 0, .slice none 0 0, .slice none 0 0, .slice none 0 0] 26 hS31 hf53 fun b14 ww33 a55 hS36 hf61 => ⟨fun _ => Sub.of zr (St.drop 2 hS36), ?_⟩
       refine c_done ?_
       intro hA18
       have s9 := Sub.of zr (St.drop 2 hS36)
       refine k_seg' 0 [(5, false), (6, true), (7, true), (8, true), (9, true), (12, false), (13, false), (14, true)] (by kernel_rfl) (by kernel_rfl) hA18 (by kernel_rfl) ?_
       obtain ⟨r6, hd7, hr14⟩ := bind_some hr9
       refine c_call hf61 (f28_ok fuel y5 y6 p1.kind p1.lot p1.frm p1.to p1.mass r6 hd7 z3 _ _ hS36 e2 q2 hx2 v2 v3 v4 v5 v6 v7 v8 v9 v10 (Ty.mono _ zr hx3)) ?_
       rintro v60 ww34 a56 ⟨z9, e12, q12, v61, v62, v63, v64, v65, v66, v67, v68, v69, e13, q13, k9, rfl, hS37, hx16, hx17, hx18⟩ hf62
       refine ⟨fun e => absurd e (by decide), ?_⟩
       refine p_qP 4 [] [(1, .slice o_x1 x1.length c_x1), (4, pB b1 0), (7, pB b3 0), (8, vI y1), (9, pB b14 0), (10, pB b12 0), (37, .agg #[.slice e12 r6.1.length q12, v61, v62, v63, v64, v65, v66, v67, v68, v69]), (38, .agg #[.slice e13 r6.2.2.1.length q13]), (39, vI r6.2.2.2)] [] hf62 (by kernel_rfl) (fun _ => .nil) fun a57 hf63 => ?_
       have hq6 := oneCells_of (Ty.one _ (Ty.mono _ zr hx17))
       refine p_store_eq (i := 12) (j := 0) (b := b14) (off := 0) (vs := [.slice e12 r6.1.length q12, v61, v62, v63, v64, v65, v66, v67, v68, v69]) (cs' := [.slice e12 r6.1.length q12, v61, v62, v63, v64, v65, v66, v67, v68, v69]) hS37 hf63 rfl (by kernel_rfl) hq6 rfl fun ww35 a58 hS38 hf64 => ⟨fun e => absurd e (by decide), ?_⟩
       refine c_st 1 [.slice e13 r6.2.2.1.length q13] hS38 hf64 rfl fun ww36 a59 hS39 hf65 => ⟨fun e => absurd e (by decide), ?_⟩
       refine p_qP 1 [] [(1, .slice o_x1 x1.length c_x1), (4, pB b1 0), (7, pB b3 0), (8, vI y1), (9, pB b14 0), (11, vI r6.2.2.2)] [] hf65 (by kernel_rfl) (fun _ => .nil) fun a60 hf66 => ?_
       refine c_done ?_
       intro hA19
       refine k_done' (by kernel_rfl) (by kernel_rfl) ?_
       refine n_then ?_
       exact ⟨z9, r6.2.2.2, r6.1, r6.2.1, b14, e12, q12, v61, v62, v63, v64, v65, v66, v67, v68, v69, k9, hf66.to, (St.pick 2 [0] hS39 (by kernel_rfl)), hx16, (Ty.mono _ zr hx17), hr14⟩
    ·rintro a61 ww37 ⟨z4, y2, y3, y4, b4, e3, q3, v11, v12, v13, v14, v15, v16, v17, v18, v19, k10, hf68, hS40, hx19, hx20, hr15⟩
     refine c_seq ?_
     refine c_sq [] [1, 4, 7, 8, 9, 11, 41] hf68 .nil fun a62 hf69 => ?_
     refine c_if (y2 != (0 : Int)) hf69 (fun hb5 => ?_) (fun hb5 => ?_)
     ·have hr16 := cond_t hb5 hr15
      refine c_sr ?_
      refine c_n 3 [] [4, 42, 43, 44] hf69 .nil fun a63 hf70 => ?_
      refine c_st 3 [.slice none 0 0, .slice none 0 0, .slice none 0 0, .slice none 0 0, .slice none 0 0, .slice none 0 0, .slice none 0 0, .slice none 0 0, .slice none 0 0, .slice none 0 0] hS40 hf70 rfl fun ww38 a64 hS41 hf71 => ⟨fun _ => trivial, ?_⟩
      refine c_t [] [4, 5, 6] hf71 .nil fun a65 hf72 => ?_
      refine c_ret ?_
      refine r_then ?_
      refine r_block ?_
      refine r_then ?_
      refine r_then ?_
      refine r_block ?_
      refine r_then ?_
      refine c_rt [.slice none 0 0, .slice none 0 0, .slice none 0 0, .slice none 0 0, .slice none 0 0, .slice none 0 0, .slice none 0 0, .slice none 0 0, .slice none 0 0, .slice none 0 0] (.tuple #[.agg #[.slice none 0 0, .slice none 0 0, .slice none 0 0, .slice none 0 0, .slice none 0 0, .slice none 0 0, .slice none 0 0, .slice none 0 0, .slice none 0 0, .slice none 0 0], vI y1, vI y2]) hf72 (.cell (hS41.box (i := 3) rfl (j := 0) rfl) (.cell (hS41.box (i := 3) rfl (j := 1) rfl) (.cell (hS41.box (i := 3) rfl (j := 2) rfl) (.cell (hS41.box (i := 3) rfl (j := 3) rfl) (.cell (hS41.box (i := 3) rfl (j := 4) rfl) (.cell (hS41.box (i := 3) rfl (j := 5) rfl) (.cell (hS41.box (i := 3) rfl (j := 6) rfl) (.cell (hS41.box (i := 3) rfl (j := 7) rfl) (.cell (hS41.box (i := 3) rfl (j := 8) rfl) (.cell (hS41.box (i := 3) rfl (j := 9) rfl) .nil)))))))))) ?_
      obtain rfl := some_eq hr16
      exact ⟨_, rfl, z4, none, 0, .slice none 0 0, .slice none 0 0, .slice none 0 0, .slice none 0 0, .slice none 0 0, .slice none 0 0, .slice none 0 0, .slice none 0 0, .slice none 0 0, (zt (zt (zt k2 k3) k4) k10), rfl, (St.drop 4 hS41), SliceR.nil' _ _, ⟨rfl, (Rows.cons (c := [_]) (sliceRep (SliceR.nil' _ _)) (Rows.cons (c := [_]) (sliceRep (SliceR.nil' _ _)) (Rows.cons (c := [_]) (sliceRep (SliceR.nil' _ _)) (Rows.cons (c := [_]) (sliceRep (SliceR.nil' _ _)) (Rows.cons (c := [_]) (sliceRep (SliceR.nil' _ _)) (Rows.cons (c := [_]) (sliceRep (SliceR.nil' _ _)) (Rows.cons (c := [_]) (sliceRep (SliceR.nil' _ _)) (Rows.cons (c := [_]) (sliceRep (SliceR.nil' _ _)) (Rows.cons (c := [_]) (sliceRep (SliceR.nil' _ _)) rfl)))))))))⟩⟩
     ·have hr17 := cond_f hb5 hr15
      refine c_skip ?_
      refine n_then ?_
      refine c_reg ?_
      refine c_n 1 [.slice e3 y3.length q3, v11, v12, v13, v14, v15, v16, v17, v18, v19] [1, 4, 7, 8, 45] hf69 (.cell (hS40.box (i := 0) rfl (j := 0) rfl) (.cell (hS40.box (i := 0) rfl (j := 1) rfl) (.cell (hS40.box (i := 0) rfl (j := 2) rfl) (.cell (hS40.box (i := 0) rfl (j := 3) rfl) (.cell (hS40.box (i := 0) rfl (j := 4) rfl) (.cell (hS40.box (i := 0) rfl (j := 5) rfl) (.cell (hS40.box (i := 0) rfl (j := 6) rfl) (.cell (hS40.box (i := 0) rfl (j := 7) rfl) (.cell (hS40.box (i := 0) rfl (j := 8) rfl) (.cell (hS40.box (i := 0) rfl (j := 9) rfl) .nil)))))))))) fun a66 hf73 => ?_
      have hq7 := oneCells_of (Ty.one _ (Ty.mono _ zr hx20))
      refine p_store_eq (i := 1) (j := 1) (b := b3) (off := 0) (vs := [.slice e3 y3.length q3, v11, v12, v13, v14, v15, v16, v17, v18, v19]) (cs' := [.slice e3 y3.length q3, v11, v12, v13, v14, v15, v16, v17, v18, v19]) hS40 hf73 rfl (by kernel_rfl) hq7 rfl fun ww39 a67 hS42 hf74 => ⟨fun _ => trivial, ?_⟩
      refine c_done ?_
      refine n_block ?_
      refine n_then ?_
      refine c_q [] [1, 4, 7, 8] hf74 .nil fun a68 hf75 => ?_
      refine n_then ?_
      exact ⟨n1, Nat.lt_succ_self n1, z4, y3, y4, (w64 (y1 + (1 : Int))), e3, q3, v11, v12, v13, v14, v15, v16, v17, v18, v19, (zt k4 k10), hf75.to, (St.drop 1 hS42), hx19, (Ty.mono _ zr hx20), hr17⟩
   ·have hr18 := cond_f hb3 hr7
    refine c_exit 0 ?_
    refine x_then ?_
    refine x_then ?_
    refine x_block ?_
    refine n_then ?_
    refine c_sr ?_
    refine c_n 3 [.slice e2 y5.length q2, v2, v3, v4, v5, v6, v7, v8, v9, v10] [4, 46, 48] hf22 (.cell (hS11.box (i := 0) rfl (j := 0) rfl) (.cell (hS11.box (i := 0) rfl (j := 1) rfl) (.cell (hS11.box (i := 0) rfl (j := 2) rfl) (.cell (hS11.box (i := 0) rfl (j := 3) rfl) (.cell (hS11.box (i := 0) rfl (j := 4) rfl) (.cell (hS11.box (i := 0) rfl (j := 5) rfl) (.cell (hS11.box (i := 0) rfl (j := 6) rfl) (.cell (hS11.box (i := 0) rfl (j := 7) rfl) (.cell (hS11.box (i := 0) rfl (j := 8) rfl) (.cell (hS11.box (i := 0) rfl (j := 9) rfl) .nil)))))))))) fun a69 hf77 => ?_
    have hq8 := oneCells_of (Ty.one _ (Ty.mono _ zr hx3))
    refine p_store_eq (i := 3) (j := 2) (b := b1) (off := 0) (vs := [.slice e2 y5.length q2, v2, v3, v4, v5, v6, v7, v8, v9, v10]) (cs' := [.slice e2 y5.length q2, v2, v3, v4, v5, v6, v7, v8, v9, v10]) hS11 hf77 rfl (by kernel_rfl) hq8 rfl fun ww40 a70 hS43 hf78 => ⟨fun _ => trivial, ?_⟩
    refine c_t [] [4, 5, 6] hf78 .nil fun a71 hf79 => ?_
    refine c_ret ?_
    refine c_rt [.slice e2 y5.length q2, v2, v3, v4, v5, v6, v7, v8, v9, v10] (.tuple #[.agg #[.slice e2 y5.length q2, v2, v3, v4, v5, v6, v7, v8, v9, v10], vI (x1.length : Int), vI 0]) hf79 (.cell (hS43.box (i := 2) rfl (j := 0) rfl) (.cell (hS43.box (i := 2) rfl (j := 1) rfl) (.cell (hS43.box (i := 2) rfl (j := 2) rfl) (.cell (hS43.box (i := 2) rfl (j := 3) rfl) (.cell (hS43.box (i := 2) rfl (j := 4) rfl) (.cell (hS43.box (i := 2) rfl (j := 5) rfl) (.cell (hS43.box (i := 2) rfl (j := 6) rfl) (.cell (hS43.box (i := 2) rfl (j := 7) rfl) (.cell (hS43.box (i := 2) rfl (j := 8) rfl) (.cell (hS43.box (i := 2) rfl (j := 9) rfl) .nil)))))))))) ?_
    obtain rfl := some_eq hr18
    exact ⟨_, rfl, z3, e2, q2, v2, v3, v4, v5, v6, v7, v8, v9, v10, (zt (zt k2 k3) k4), rfl, (St.drop 3 hS43), hx2, (Ty.mono _ zr hx3)⟩
def F53 (fuel : Nat) (x0 : List A4) (x1 : List A5) : Option (List Lot × List (List (List Part))) :=
  ((F37 fuel x0 x1).bind fun r1 => ((F44 fuel r1.1 r1.2).bind fun r2 => (some (r2.1, r2.2.1))))
set_option maxRecDepth 100000 in
theorem f53_ok (fuel : Nat) (x0 : List A4) (x1 : List A5) (r : List Lot × List (List (List Part))) (hr : F53 fuel x0 x1 = some r) (h : Zone) (L : List Atom) (w : World) (hS : St h L w) (o_x0 : Option Addr) (c_x0 : Nat) (hx_x0 : SliceR A4T h o_x0 c_x0 x0) (o_x1 : Option Addr) (c_x1 : Nat) (hx_x1 : SliceR A5T h o_x1 c_x1 x1) :
    Calls Try.prog 53 #[.slice o_x0 x0.length c_x0, .slice o_x1 x1.length c_x1] w fun e w' => ∃ v, e = .returned v ∧ (∃ h', ∃ o0 : Option Addr, ∃ c0 : Nat, ∃ v1_0 : Value, ∃ v1_1 : Value, ∃ v1_2 : Value, ∃ v1_3 : Value, ∃ v1_4 : Value, ∃ v1_5 : Value, ∃ v1_6 : Value, ∃ v1_7 : Value, ∃ v1_8 : Value, Zone.le h h' ∧ v = .agg #[.slice o0 r.1.length c0, v1_0, v1_1, v1_2, v1_3, v1_4, v1_5, v1_6, v1_7, v1_8] ∧ St h' L w' ∧ SliceR LotT h' o0 c0 r.1 ∧ (Ty.arr 9 (Ty.slice (Ty.slice PartT))).rep h' [v1_0, v1_1, v1_2, v1_3, v1_4, v1_5, v1_6, v1_7, v1_8] r.2) := by
 refine calls_intro (N := 24) Try.func53 (by kernel_rfl) fun a hf => ?_
 refine c_sr ?_
 refine c_box [.slice none 0 0, .slice none 0 0, .slice none 0 0, .slice none 0 0, .slice none 0 0, .slice none 0 0, .slice none 0 0, .slice none 0 0, .slice none 0 0, .slice none 0 0] 26 hS hf fun b1 ww1 a1 hS1 hf1 => ⟨fun _ => trivial, ?_⟩
 refine c_dt ?_
 refine c_sr ?_
 refine c_n 2 [] [4, 11, 12] hf1 .nil fun a2 hf2 => ?_
 obtain ⟨r1, hd1, hr1⟩ := bind_some hr
 refine c_call hf2 (f37_ok fuel x0 x1 r1 hd1 h _ _ hS1 o_x0 c_x0 hx_x0 o_x1 c_x1 hx_x1) ?_
 rintro v1 ww2 a3 ⟨z1, e1, q1, e2, q2, k1, rfl, hS2, hx1, hx2⟩ hf3
 refine ⟨fun _ => trivial, ?_⟩
 refine c_t [] [4, 5, 6] hf3 .nil fun a4 hf4 => ?_
 refine c_sr ?_
 refine c_n 2 [] [4, 17, 18] hf4 .nil fun a5 hf5 => ?_
 obtain ⟨r2, hd2, hr2⟩ := bind_some hr1
 refine c_call hf5 (f44_ok fuel r1.1 r1.2 r2 hd2 z1 _ _ hS2 e1 q1 hx1 e2 q2 hx2) ?_
 rintro v2 ww3 a6 ⟨z2, e3, q3, v3, v4, v5, v6, v7, v8, v9, v10, v11, k2, rfl, hS3, hx3, hx4⟩ hf6
 refine ⟨fun _ => trivial, ?_⟩
 refine c_n 4 [] [4, 20, 21, 22] hf6 .nil fun a7 hf7 => ?_
 refine c_box [.slice none 0 0, .slice none 0 0, .slice none 0 0, .slice none 0 0, .slice none 0 0, .slice none 0 0, .slice none 0 0, .slice none 0 0, .slice none 0 0, .slice none 0 0] 26 hS3 hf7 fun b2 w64 a8 hS4 hf8 => ⟨fun _ => trivial, ?_⟩
 have hq1 := oneCells_of (Ty.one _ (Ty.mono _ zr hx4))
 refine p_store_eq (i := 8) (j := 0) (b := b2) (off := 0) (vs := [.slice e3 r2.1.length q3, v3, v4, v5, v6, v7, v8, v9, v10, v11]) (cs' := [.slice e3 r2.1.length q3, v3, v4, v5, v6, v7, v8, v9, v10, v11]) hS4 hf8 rfl (by kernel_rfl) hq1 rfl fun ww4 a9 hS5 hf9 => ⟨fun _ => trivial, ?_⟩
 refine c_t [] [4, 7] hf9 .nil fun a10 hf10 => ?_
 refine c_sr ?_
 refine c_n 1 [.slice e3 r2.1.length q3, v3, v4, v5, v6, v7, v8, v9, v10, v11] [4, 23] hf10 (.cell (hS5.box (i := 0) rfl (j := 0) rfl) (.cell (hS5.box (i := 0) rfl (j := 1) rfl) (.cell (hS5.box (i := 0) rfl (j := 2) rfl) (.cell (hS5.box (i := 0) rfl (j := 3) rfl) (.cell (hS5.box (i := 0) rfl (j := 4) rfl) (.cell (hS5.box (i := 0) rfl (j := 5) rfl) (.cell (hS5.box (i := 0) rfl (j := 6) rfl) (.cell (hS5.box (i := 0) rfl (j := 7) rfl) (.cell (hS5.box (i := 0) rfl (j := 8) rfl) (.cell (hS5.box (i := 0) rfl (j := 9) rfl) .nil)))))))))) fun a11 hf11 => ?_
 have hq2 := oneCells_of (Ty.one _ (Ty.mono _ zr hx4))
 refine p_store_eq (i := 1) (j := 1) (b := b1) (off := 0) (vs := [.slice e3 r2.1.length q3, v3, v4, v5, v6, v7, v8, v9, v10, v11]) (cs' := [.slice e3 r2.1.length q3, v3, v4, v5, v6, v7, v8, v9, v10, v11]) hS5 hf11 rfl (by kernel_rfl) hq2 rfl fun ww5 a12 hS6 hf12 => ⟨fun _ => trivial, ?_⟩
 refine c_dt ?_
 refine c_ret ?_
 refine c_rt [.slice e3 r2.1.length q3, v3, v4, v5, v6, v7, v8, v9, v10, v11] (.agg #[.slice e3 r2.1.length q3, v3, v4, v5, v6, v7, v8, v9, v10, v11]) hf12 (.cell (hS6.box (i := 1) rfl (j := 0) rfl) (.cell (hS6.box (i := 1) rfl (j := 1) rfl) (.cell (hS6.box (i := 1) rfl (j := 2) rfl) (.cell (hS6.box (i := 1) rfl (j := 3) rfl) (.cell (hS6.box (i := 1) rfl (j := 4) rfl) (.cell (hS6.box (i := 1) rfl (j := 5) rfl) (.cell (hS6.box (i := 1) rfl (j := 6) rfl) (.cell (hS6.box (i := 1) rfl (j := 7) rfl) (.cell (hS6.box (i := 1) rfl (j := 8) rfl) (.cell (hS6.box (i := 1) rfl (j := 9) rfl) .nil)))))))))) ?_
 obtain rfl := some_eq hr2
 exact ⟨_, rfl, z2, e3, q3, v3, v4, v5, v6, v7, v8, v9, v10, v11, (zt k1 k2), rfl, (St.drop 2 hS6), hx3, (Ty.mono _ zr hx4)⟩
def F111 (fuel : Nat) (x0l : List Lot) (x0h : List (List (List Part))) (x1 : Int) : Option (Int) :=
  ((F21 fuel x0l x0h).bind fun r1 => (cond (r1 != (0 : Int)) (some (r1)) ((F71 fuel x1 1 9).bind fun r2 => (cond (!r2) (some (1)) (some (0))))))
set_option maxRecDepth 100000 in
theorem f111_ok (fuel : Nat) (x0l : List Lot) (x0h : List (List (List Part))) (x1 : Int) (r : Int) (hr : F111 fuel x0l x0h x1 = some r) (h : Zone) (L : List Atom) (w : World) (hS : St h L w) (o_x0l : Option Addr) (c_x0l : Nat) (hx_x0l : SliceR LotT h o_x0l c_x0l x0l) (V00 V01 V02 V03 V04 V05 V06 V07 V08 : Value) (hx_x0h : (Ty.arr 9 (Ty.slice (Ty.slice PartT))).rep h [V00, V01, V02, V03, V04, V05, V06, V07, V08] x0h) :
    Calls Try.prog 111 #[.agg #[.slice o_x0l x0l.length c_x0l, V00, V01, V02, V03, V04, V05, V06, V07, V08], vI x1] w fun e w' => ∃ v, e = .returned v ∧ (∃ h', Zone.le h h' ∧ v = vI r ∧ St h' L w') := by
 refine calls_intro (N := 14) Try.func111 (by kernel_rfl) fun a hf => ?_
 refine c_sr ?_
 refine c_box [.slice o_x0l x0l.length c_x0l, V00, V01, V02, V03, V04, V05, V06, V07, V08] 26 hS hf fun b1 ww1 a1 hS1 hf1 => ⟨fun _ => trivial, ?_⟩
 refine c_t [] [1, 2] hf1 .nil fun a2 hf2 => ?_
 refine c_seq ?_
 refine c_sr ?_
 refine c_n 1 [.slice o_x0l x0l.length c_x0l, V00, V01, V02, V03, V04, V05, V06, V07, V08] [1, 6] hf2 (.cell (hS1.box (i := 0) rfl (j := 0) rfl) (.cell (hS1.box (i := 0) rfl (j := 1) rfl) (.cell (hS1.box (i := 0) rfl (j := 2) rfl) (.cell (hS1.box (i := 0) rfl (j := 3) rfl) (.cell (hS1.box (i := 0) rfl (j := 4) rfl) (.cell (hS1.box (i := 0) rfl (j := 5) rfl) (.cell (hS1.box (i := 0) rfl (j := 6) rfl) (.cell (hS1.box (i := 0) rfl (j := 7) rfl) (.cell (hS1.box (i := 0) rfl (j := 8) rfl) (.cell (hS1.box (i := 0) rfl (j := 9) rfl) .nil)))))))))) fun a3 hf3 => ?_
 obtain ⟨r1, hd1, hr1⟩ := bind_some hr
 refine c_call hf3 (f21_ok fuel x0l x0h r1 hd1 h _ _ hS1 o_x0l c_x0l hx_x0l V00 V01 V02 V03 V04 V05 V06 V07 V08 (Ty.mono _ zr hx_x0h)) ?_
 rintro v1 ww2 a4 ⟨z1, k1, rfl, hS2⟩ hf4
 refine ⟨fun _ => trivial, ?_⟩
 refine c_t [] [1, 5] hf4 .nil fun a5 hf5 => ?_
 refine c_sq [] [1, 5, 9] hf5 .nil fun a6 hf6 => ?_
 refine c_if (r1 != (0 : Int)) hf6 (fun hb1 => ?_) (fun hb1 => ?_)
 ·have hr2 := cond_t hb1 hr1
  refine c_sq [] [4] hf6 .nil fun a7 hf7 => ?_
  refine c_ret ?_
  refine r_then ?_
  refine c_rt [] (vI r1) hf7 .nil ?_
  obtain rfl := some_eq hr2
  exact ⟨_, rfl, z1, k1, rfl, (St.drop 1 hS2)⟩
 ·have hr3 := cond_f hb1 hr1
  refine c_skip ?_
  refine n_then ?_
  refine c_seq ?_
  refine c_sr ?_
  refine c_n 1 [] [11] hf6 .nil fun a8 hf8 => ?_
  obtain ⟨r2, hd2, hr4⟩ := bind_some hr3
  refine c_call hf8 (f71_ok fuel x1 1 9 r2 hd2 z1 _ _ hS2 ) ?_
  rintro v2 ww3 a9 ⟨z2, k2, rfl, hS3⟩ hf9
  refine ⟨fun _ => trivial, ?_⟩
  refine c_t [] [13] hf9 .nil fun a10 hf10 => ?_
  refine c_if (!r2) hf10 (fun hb2 => ?_) (fun hb2 => ?_)
  ·have hr5 := cond_t hb2 hr4
   refine c_sq [] [4] hf10 .nil fun a11 hf11 => ?_
   refine c_ret ?_
   refine r_then ?_
   refine c_rt [] (vI 1) hf11 .nil ?_
   obtain rfl := some_eq hr5
   exact ⟨_, rfl, z2, (zt k1 k2), rfl, (St.drop 1 hS3)⟩
  ·have hr6 := cond_f hb2 hr4
   refine c_skip ?_
   refine n_then ?_
   refine c_sq [] [4] hf10 .nil fun a12 hf12 => ?_
   refine c_ret ?_
   refine c_rt [] (vI 0) hf12 .nil ?_
   obtain rfl := some_eq hr6
   exact ⟨_, rfl, z2, (zt k1 k2), rfl, (St.drop 1 hS3)⟩
def F115 (fuel : Nat) (x0l : List Lot) (x0h : List (List (List Part))) (x1 : Int) : Option (Int) :=
  ((F74 fuel x0l x1).bind fun r1 => ((getI x0l r1.1).bind fun p1 => (some (p1.owner))))
set_option maxRecDepth 100000 in
theorem f115_ok (fuel : Nat) (x0l : List Lot) (x0h : List (List (List Part))) (x1 : Int) (r : Int) (hr : F115 fuel x0l x0h x1 = some r) (h : Zone) (L : List Atom) (w : World) (hS : St h L w) (o_x0l : Option Addr) (c_x0l : Nat) (hx_x0l : SliceR LotT h o_x0l c_x0l x0l) (V00 V01 V02 V03 V04 V05 V06 V07 V08 : Value) (hx_x0h : (Ty.arr 9 (Ty.slice (Ty.slice PartT))).rep h [V00, V01, V02, V03, V04, V05, V06, V07, V08] x0h) :
    Calls Try.prog 115 #[.agg #[.slice o_x0l x0l.length c_x0l, V00, V01, V02, V03, V04, V05, V06, V07, V08], vI x1] w fun e w' => ∃ v, e = .returned v ∧ (∃ h', Zone.le h h' ∧ v = vI r ∧ St h' L w') := by
 refine calls_intro (N := 20) Try.func115 (by kernel_rfl) fun a hf => ?_
 refine c_sr ?_
 refine c_box [.slice o_x0l x0l.length c_x0l, V00, V01, V02, V03, V04, V05, V06, V07, V08] 26 hS hf fun b1 ww1 a1 hS1 hf1 => ⟨fun _ => trivial, ?_⟩
 refine c_t [] [1, 2] hf1 .nil fun a2 hf2 => ?_
 refine c_sr ?_
 refine c_n 3 [.slice o_x0l x0l.length c_x0l] [2, 9, 10] hf2 (.cell (hS1.box (i := 0) rfl (j := 0) rfl) .nil) fun a3 hf3 => ?_
 obtain ⟨r1, hd1, hr1⟩ := bind_some hr
 refine c_call hf3 (f74_ok fuel x0l x1 r1 hd1 h _ _ hS1 o_x0l c_x0l hx_x0l) ?_
 rintro v1 ww2 a4 ⟨z1, k1, rfl, hS2⟩ hf4
 refine ⟨fun _ => trivial, ?_⟩
 refine c_t [] [2, 5] hf4 .nil fun a5 hf5 => ?_
 obtain ⟨p1, hp28, hr2⟩ := bind_some hr1
 obtain ⟨ad1, ho1, hb1, cc1, hc1, hk1⟩ := SliceR.getI (SliceR.mono k1 hx_x0l) hp28
 subst hc1
 refine c_sq [.slice o_x0l x0l.length c_x0l, .pointer (some ad1), vI p1.owner] [4] hf5 (.cell (hS2.box (i := 0) rfl (j := 0) rfl) (.prop ho1 (.prop hb1 (.cell (hS2.cell (hk1 1 _ rfl)) .nil)))) fun a6 hf6 => ?_
 refine c_ret ?_
 refine c_rt [] (vI p1.owner) hf6 .nil ?_
 obtain rfl := some_eq hr2
 exact ⟨_, rfl, z1, k1, rfl, (St.drop 1 hS2)⟩
def F54_j1 (fuel : Nat) (k1 : (List Int) → Int → Option (List Int × Int)) (k2 : (List Int) → Int → Option (List Int × Int)) (y1 : Int) (y2 : List Int) (y3 : Int) (p1 : List Part) (y4 : Int) : Option (List Int × Int) :=
  (cond (decide (y4 ≥ (0 : Int))) (k1 y2 (w64 (y1 + (1 : Int)))) ((getI y2 y1).bind fun p2 => ((F90 fuel p1).bind fun r1 => ((getI y2 y1).bind fun p3 => ((setI y2 y1 (w64 (p2 + r1))).bind fun d1 => (k2 d1 (w64 (y3 - (1 : Int)))))))))
def F54_l3 (fuel : Nat) (k1 : (List Int) → Int → Option (List Int × Int)) (k2 : (List Int) → Int → Option (List Int × Int)) (x0l : List Lot) (x0h : List (List (List Part))) (x1 : Int) (y1 : Int) (y2 : List Int) (y3 : Int) (p1 : List Part) : Nat → Int → Option (List Int × Int)
  | 0, _ => none
  | n1 + 1, y5 =>
    let k3 : Int → Option (List Int × Int) := F54_l3 fuel k1 k2 x0l x0h x1 y1 y2 y3 p1 n1
    (cond (decide (y5 < (p1.length : Int))) ((getI p1 y5).bind fun p4 => ((F115 fuel x0l x0h p4.lot).bind fun r2 => (cond (r2 != x1) (F54_j1 fuel k1 k2 y1 y2 y3 p1 y5) (k3 (w64 (y5 + (1 : Int))))))) (F54_j1 fuel k1 k2 y1 y2 y3 p1 (-1)))
def F54_l2 (fuel : Nat) (k1 : (List Int) → Int → Option (List Int × Int)) (x0l : List Lot) (x0h : List (List (List Part))) (x1 : Int) (y1 : Int) (p5 : List (List Part)) : Nat → (List Int) → Int → Option (List Int × Int)
  | 0, _, _ => none
  | n2 + 1, y2, y3 =>
    let k2 : (List Int) → Int → Option (List Int × Int) := F54_l2 fuel k1 x0l x0h x1 y1 p5 n2
    (cond (decide (y3 ≥ (0 : Int))) ((getI p5 y3).bind fun p1 => (F54_l3 fuel k1 k2 x0l x0h x1 y1 y2 y3 p1 fuel 0)) (k1 y2 (w64 (y1 + (1 : Int)))))
def F54_l1 (fuel : Nat) (x0l : List Lot) (x0h : List (List (List Part))) (x1 : Int) : Nat → (List Int) → Int → Option (List Int × Int)
  | 0, _, _ => none
  | n3 + 1, y6, y1 =>
    let k1 : (List Int) → Int → Option (List Int × Int) := F54_l1 fuel x0l x0h x1 n3
    (cond (decide (y1 < (9 : Int))) ((getI x0h y1).bind fun p5 => (F54_l2 fuel k1 x0l x0h x1 y1 p5 fuel y6 (w64 ((p5.length : Int) - (1 : Int))))) (some (y6, 0)))
def F54 (fuel : Nat) (x0l : List Lot) (x0h : List (List (List Part))) (x1 : Int) : Option (List Int × Int) :=
  ((F111 fuel x0l x0h x1).bind fun r3 => (cond (r3 != (0 : Int)) (some ([], r3)) ((mkC 9 (0 : Int)).bind fun d2 => (F54_l1 fuel x0l x0h x1 fuel d2 0))))
set_option maxRecDepth 100000 in
theorem f54_ok (fuel : Nat) (x0l : List Lot) (x0h : List (List (List Part))) (x1 : Int) (r : List Int × Int) (hr : F54 fuel x0l x0h x1 = some r) (h : Zone) (L : List Atom) (w : World) (hS : St h L w) (o_x0l : Option Addr) (c_x0l : Nat) (hx_x0l : SliceR LotT h o_x0l c_x0l x0l) (V00 V01 V02 V03 V04 V05 V06 V07 V08 : Value) (hx_x0h : (Ty.arr 9 (Ty.slice (Ty.slice PartT))).rep h [V00, V01, V02, V03, V04, V05, V06, V07, V08] x0h) :
    Calls Try.prog 54 #[.agg #[.slice o_x0l x0l.length c_x0l, V00, V01, V02, V03, V04, V05, V06, V07, V08], vI x1] w fun e w' => ∃ v, e = .returned v ∧ (∃ h', ∃ o0 : Option Addr, ∃ c0 : Nat, Zone.le h h' ∧ v = .tuple #[.slice o0 r.1.length c0, vI r.2] ∧ St h' L w' ∧ SliceR Ty.int h' o0 c0 r.1) := by
 refine calls_intro (N := 43) Try.func54 (by kernel_rfl) fun a hf => ?_
 refine c_sr ?_
 refine c_box [.slice o_x0l x0l.length c_x0l, V00, V01, V02, V03, V04, V05, V06, V07, V08] 26 hS hf fun b1 ww1 a1 hS1 hf1 => ⟨fun _ => trivial, ?_⟩
 refine c_box [vI x1] 3 hS1 hf1 fun b2 ww2 a2 hS2 hf2 => ⟨fun _ => trivial, ?_⟩
 refine c_t [] [2, 3] hf2 .nil fun a3 hf3 => ?_
 refine c_seq ?_
 refine c_sr ?_
 refine c_n 2 [.slice o_x0l x0l.length c_x0l, V00, V01, V02, V03, V04, V05, V06, V07, V08, vI x1] [2, 3, 12, 13] hf3 (.cell (hS2.box (i := 1) rfl (j := 0) rfl) (.cell (hS2.box (i := 1) rfl (j := 1) rfl) (.cell (hS2.box (i := 1) rfl (j := 2) rfl) (.cell (hS2.box (i := 1) rfl (j := 3) rfl) (.cell (hS2.box (i := 1) rfl (j := 4) rfl) (.cell (hS2.box (i := 1) rfl (j := 5) rfl) (.cell (hS2.box (i := 1) rfl (j := 6) rfl) (.cell (hS2.box (i := 1) rfl (j := 7) rfl) (.cell (hS2.box (i := 1) rfl (j := 8) rfl) (.cell (hS2.box (i := 1) rfl (j := 9) rfl) (.cell (hS2.box (i := 0) rfl (j := 0) rfl) .nil))))))))))) fun a4 hf4 => ?_
 obtain ⟨r3, hd1, hr1⟩ := bind_some hr
 refine c_call hf4 (f111_ok fuel x0l x0h x1 r3 hd1 h _ _ hS2 o_x0l c_x0l hx_x0l V00 V01 V02 V03 V04 V05 V06 V07 V08 (Ty.mono _ zr hx_x0h)) ?_
 rintro v1 ww3 a5 ⟨z1, k4, rfl, hS3⟩ hf5
 refine ⟨fun _ => trivial, ?_⟩
 refine c_t [] [2, 3, 6] hf5 .nil fun a6 hf6 => ?_
 refine c_sq [] [2, 3, 6, 16] hf6 .nil fun a7 hf7 => ?_
 refine c_if (r3 != (0 : Int)) hf7 (fun hb1 => ?_) (fun hb1 => ?_)
 ·have hr2 := cond_t hb1 hr1
  refine c_sq [] [4, 5] hf7 .nil fun a8 hf8 => ?_
  refine c_ret ?_
  refine r_then ?_
  refine c_rt [] (.tuple #[.slice none 0 0, vI r3]) hf8 .nil ?_
  obtain rfl := some_eq hr2
  exact ⟨_, rfl, z1, none, 0, k4, rfl, (St.drop 2 hS3), SliceR.nil' _ _⟩
 ·have hr3 := cond_f hb1 hr1
  refine c_skip ?_
  refine n_then ?_
  refine c_sr ?_
  obtain ⟨d2, hd2, hr4⟩ := bind_some hr3
  refine p_make (T := Ty.int) (i := 0) (d := some 18) (x0 := (0 : Int)) el53 hS3 hf7 (by kernel_rfl) rfl hd2 fun e1 ww4 a9 hS4 hf9 => ⟨fun _ => trivial, ?_⟩
  refine c_box [.slice none 0 0] 53 hS4 hf9 fun b3 ww5 a10 hS5 hf10 => ⟨fun _ => trivial, ?_⟩
  refine c_st 0 [.slice (some e1) d2.length d2.length] hS5 hf10 rfl fun ww6 a11 hS6 hf11 => ⟨fun _ => trivial, ?_⟩
  refine c_dt ?_
  refine c_seq ?_
  refine c_sq [V00, V01, V02, V03, V04, V05, V06, V07, V08] [2, 3, 7, 20, 21] hf11 (.cell (hS6.box (i := 3) rfl (j := 1) rfl) (.cell (hS6.box (i := 3) rfl (j := 2) rfl) (.cell (hS6.box (i := 3) rfl (j := 3) rfl) (.cell (hS6.box (i := 3) rfl (j := 4) rfl) (.cell (hS6.box (i := 3) rfl (j := 5) rfl) (.cell (hS6.box (i := 3) rfl (j := 6) rfl) (.cell (hS6.box (i := 3) rfl (j := 7) rfl) (.cell (hS6.box (i := 3) rfl (j := 8) rfl) (.cell (hS6.box (i := 3) rfl (j := 9) rfl) .nil))))))))) fun a12 hf12 => ?_
  refine c_block 0 ?_
  have hS7 := defs0 hS6
  refine c_loop (fun n a w => ∃ z2 : Zone, ∃ y6 : List Int, ∃ y1 : Int, ∃ gs289129 : List Nat, Zone.le z1 z2 ∧ Fr a 43 [(2, pB b1 0), (3, pB b2 0), (7, pB b3 0), (20, .agg #[V00, V01, V02, V03, V04, V05, V06, V07, V08]), (21, vI y1)] gs289129 ∧ St z2 (defsA gs289129 :: box b3 [.slice (some e1) y6.length d2.length] 53 :: ownS Ty.int 3 (some e1) d2.length y6 :: box b2 [vI x1] 3 :: box b1 [.slice o_x0l x0l.length c_x0l, V00, V01, V02, V03, V04, V05, V06, V07, V08] 26 :: L) w ∧ y6.length = d2.length ∧ (F54_l1 fuel x0l x0h x1 n y6 y1) = some r) fuel ⟨z1, d2, 0, [], zr, hf12.to, hS7, rfl, hr4⟩ ?_
  rintro n4 a13 ww7 ⟨z2, y6, y1, gs289129, k5, hf14, hS8, hl1, hr5⟩
  cases n4 with
  | zero => cases hr5
  | succ n3 =>
  refine c_sq [] [2, 3, 7, 20, 21, 22] hf14 .nil fun a14 hf15 => ?_
  refine c_seq ?_
  refine c_if (decide (y1 < (9 : Int))) hf15 (fun hb2 => ?_) (fun hb2 => ?_)
  ·have hr6 := cond_t hb2 hr5
   refine c_skip ?_
   refine n_then ?_
   refine c_seq ?_
   refine c_block 1 ?_
   refine c_sr ?_
   obtain ⟨p5, hp289153, hr7⟩ := bind_some hr6
   obtain ⟨hb3, _, hv1, e2, q1, hehv289157, hx1⟩ := arrGet (Ty.mono _ (zt k4 k5) hx_x0h) rfl hp289153
   obtain rfl := List.head_eq_of_cons_eq hehv289157
   have hk1 := arrIdx hv1
   refine c_n 2 [.slice e2 p5.length q1] [2, 3, 7, 20, 21, 23, 24] hf15 (.prop hb3 (.prop hk1 .nil)) fun a15 hf16 => ?_
   refine c_box [vI 0] 3 hS8 hf16 fun b4 ww8 a16 hS9 hf17 => ⟨fun _ => trivial, ?_⟩
   refine c_st 0 [vI y1] hS9 hf17 rfl fun ww9 a17 hS10 hf18 => ⟨fun _ => trivial, ?_⟩
   refine c_t [] [2, 3, 7, 8, 9, 20, 21] hf18 .nil fun a18 hf19 => ?_
   refine c_sr ?_
   refine c_n 1 [] [2, 3, 7, 8, 20, 21, 25] hf19 .nil fun a19 hf20 => ?_
   refine p_inl (i := 1) (d := some 26) (f := 112) (args := #[.slice e2 p5.length q1]) (N' := 4) hf20 (by kernel_rfl) Try.func112 (by kernel_rfl) fun a20 hf21 => ?_
   refine c_sr ?_
   refine c_box [.slice e2 p5.length q1] 23 hS10 hf21 fun b5 ww10 a21 hS11 hf22 => ⟨fun _ => trivial, ?_⟩
   refine c_t [] [1] hf22 .nil fun a22 hf23 => ?_
   refine c_sq [] [2] hf23 .nil fun a23 hf24 => ?_
   refine c_ret ?_
   refine c_rt [] (.func (.func 135) #[] #[pB b5 0]) hf24 .nil ?_
   refine ⟨_, rfl, fun a24 hf25 => ?_⟩
   refine ⟨fun _ => trivial, ?_⟩
   refine c_dt ?_
   refine c_block 2 ?_
   have hf26 := Fr.to (r := [(2, pB b1 0), (3, pB b2 0), (7, pB b3 0), (8, pB b4 0), (20, .agg #[V00, V01, V02, V03, V04, V05, V06, V07, V08]), (21, vI y1), (26, .func (.func 135) #[] #[pB b5 0])]) hf25
   refine w_range (g := 26) (gf := 135) (lb := #[pB b5 0]) (by kernel_rfl) hf26 hS11 (by kernel_rfl) (fun l => by kernel_rfl) fun ps1 RA1 RB1 hps1 hA1 hB1 l1 D1 ww11 hS12 => ?_
   refine calls_intro (N := 19) Try.func135 (by kernel_rfl) fun a25 hf27 => ?_
   refine c_sq [.slice e2 p5.length q1] [0, 1, 3] hf27 (.cell (hS12.box (i := 2) rfl (j := 0) rfl) .nil) fun a26 hf28 => ?_
   refine c_block 0 ?_
   refine c_loop (fun n a w => ∃ z3 : Zone, ∃ y2 : List Int, ∃ y3 : Int, Zone.le z2 z3 ∧ Fr a 19 [(0, .func (.yield l1) #[] #[]), (1, pB b5 0), (3, vI y3)] ∧ St z3 (loopA l1 43 [(2, pB b1 0), (3, pB b2 0), (7, pB b3 0), (8, pB b4 0), (20, .agg #[V00, V01, V02, V03, V04, V05, V06, V07, V08]), (21, vI y1), (26, .func (.func 135) #[] #[pB b5 0])] ps1 RA1 RB1 D1 .ready none :: defA D1 :: box b5 [.slice e2 p5.length q1] 23 :: box b4 [vI y1] 3 :: defsA gs289129 :: box b3 [.slice (some e1) y2.length d2.length] 53 :: ownS Ty.int 3 (some e1) d2.length y2 :: box b2 [vI x1] 3 :: box b1 [.slice o_x0l x0l.length c_x0l, V00, V01, V02, V03, V04, V05, V06, V07, V08] 26 :: L) w ∧ y2.length = d2.length ∧ (F54_l2 fuel (F54_l1 fuel x0l x0h x1 n3) x0l x0h x1 y1 p5 n y2 y3) = some r) fuel ⟨z2, y6, (w64 ((p5.length : Int) - (1 : Int))), zr, hf28.to, hS12, hl1, hr7⟩ ?_
   rintro n5 a27 ww12 ⟨z3, y2, y3, k6, hf30, hS13, hl2, hr8⟩
   cases n5 with
   | zero => cases hr8
   | succ n2 =>
   refine c_seq ?_
   refine c_sq [] [0, 1, 3, 8] hf30 .nil fun a28 hf31 => ?_
   refine c_if (decide (y3 ≥ (0 : Int))) hf31 (fun hb4 => ?_) (fun hb4 => ?_)
   ·have hr9 := cond_t hb4 hr8
    refine c_skip ?_
    refine n_then ?_
    refine c_seq ?_
    refine c_block 1 ?_
    refine c_seq ?_
    refine w_regY 6 (by kernel_rfl) ?_
    obtain ⟨p1, hp373453, hr10⟩ := bind_some hr9
    obtain ⟨ad1, ho1, hb5, cc1, hc1, hk2⟩ := SliceR.getI (SliceR.mono k6 hx1) hp373453
    obtain ⟨e3, q2, rfl, hx2⟩ := hc1
    refine c_z [.slice e2 p5.length q1, .pointer (some ad1), .slice e3 p1.length q2] [0, 1, 3, 11, 12, 16] hf31 (.cell (hS13.box (i := 2) rfl (j := 0) rfl) (.prop ho1 (.prop hb5 (.cell (hS13.cell (hk2 0 _ rfl)) .nil)))) fun a29 hf32 => ?_
    refine p_yield (d := some 17) (l := l1) (args := #[vI y3, .agg #[.slice e3 p1.length q2]]) hf32 (by kernel_rfl) hS13 (j := 0) rfl (by rw [hps1]; kernel_rfl) fun a30 hf33 => ?_
    rw [hps1] at hf33
    refine cw_eq hA1 ?_
    refine c_reg ?_
    refine c_box [.slice none 0 0] 40 hS13 hf33 fun b6 ww13 a31 hS14 hf34 => ⟨fun _ => trivial, ?_⟩
    refine c_st 0 [.slice e3 p1.length q2] hS14 hf34 rfl fun ww14 a32 hS15 hf35 => ⟨fun _ => trivial, ?_⟩
    refine c_dt ?_
    refine p_begin hS15 (j := 1) rfl fun ww15 hS16 => ?_
    refine cw_eq hB1 ?_
    refine c_block 3 ?_
    refine c_seq ?_
    refine c_sr ?_
    refine c_n 3 [.slice e3 p1.length q2] [7, 8, 11, 30, 31] hf35 (.cell (hS16.box (i := 0) rfl (j := 0) rfl) .nil) fun a33 hf36 => ?_
    refine p_inl (i := 3) (d := some 32) (f := 113) (args := #[.slice e3 p1.length q2, .func (.func 114) #[] #[pB b1 0, pB b2 0]]) (N' := 9) hf36 (by kernel_rfl) Try.func113 (by kernel_rfl) fun a34 hf37 => ?_
    refine c_sq [] [0, 1] hf37 .nil fun a35 hf38 => ?_
    refine c_sr ?_
    refine c_n 2 [] [5, 6] hf38 .nil fun a36 hf39 => ?_
    refine c_call (f := 136) (args := #[.slice e3 p1.length q2, .func (.func 114) #[] #[pB b1 0, pB b2 0]]) (Φ := fun v w => ∃ z4 : Zone, ∃ y4 : Int, Zone.le z3 z4 ∧ v = vI y4 ∧ St z4 (box b6 [.slice e3 p1.length q2] 40 :: loopA l1 43 [(2, pB b1 0), (3, pB b2 0), (7, pB b3 0), (8, pB b4 0), (20, .agg #[V00, V01, V02, V03, V04, V05, V06, V07, V08]), (21, vI y1), (26, .func (.func 135) #[] #[pB b5 0])] ps1 RA1 RB1 D1 .busy none :: defA D1 :: box b5 [.slice e2 p5.length q1] 23 :: box b4 [vI y1] 3 :: defsA gs289129 :: box b3 [.slice (some e1) y2.length d2.length] 53 :: ownS Ty.int 3 (some e1) d2.length y2 :: box b2 [vI x1] 3 :: box b1 [.slice o_x0l x0l.length c_x0l, V00, V01, V02, V03, V04, V05, V06, V07, V08] 26 :: L) w ∧ (F54_j1 fuel (F54_l1 fuel x0l x0h x1 n3) (F54_l2 fuel (F54_l1 fuel x0l x0h x1 n3) x0l x0h x1 y1 p5 n2) y1 y2 y3 p1 y4) = some r) hf39 ?_ ?_
    ·refine calls_intro (N := 19) Try.func136 (by kernel_rfl) fun a37 hf40 => ?_
     refine c_sq [] [0, 1] hf40 .nil fun a38 hf41 => ?_
     refine c_seq ?_
     refine c_sq [] [0, 1, 7, 8] hf41 .nil fun a39 hf42 => ?_
     refine c_block 0 ?_
     refine c_loop (fun n a w => ∃ z5 : Zone, ∃ y5 : Int, Zone.le z3 z5 ∧ Fr a 19 [(0, .slice e3 p1.length q2), (1, .func (.func 114) #[] #[pB b1 0, pB b2 0]), (7, vI (p1.length : Int)), (8, vI y5)] ∧ St z5 (box b6 [.slice e3 p1.length q2] 40 :: loopA l1 43 [(2, pB b1 0), (3, pB b2 0), (7, pB b3 0), (8, pB b4 0), (20, .agg #[V00, V01, V02, V03, V04, V05, V06, V07, V08]), (21, vI y1), (26, .func (.func 135) #[] #[pB b5 0])] ps1 RA1 RB1 D1 .busy none :: defA D1 :: box b5 [.slice e2 p5.length q1] 23 :: box b4 [vI y1] 3 :: defsA gs289129 :: box b3 [.slice (some e1) y2.length d2.length] 53 :: ownS Ty.int 3 (some e1) d2.length y2 :: box b2 [vI x1] 3 :: box b1 [.slice o_x0l x0l.length c_x0l, V00, V01, V02, V03, V04, V05, V06, V07, V08] 26 :: L) w ∧ (F54_l3 fuel (F54_l1 fuel x0l x0h x1 n3) (F54_l2 fuel (F54_l1 fuel x0l x0h x1 n3) x0l x0h x1 y1 p5 n2) x0l x0h x1 y1 y2 y3 p1 n y5) = some r) fuel ⟨z3, 0, zr, hf42.to, hS16, hr10⟩ ?_
     rintro n6 a40 ww16 ⟨z5, y5, k7, hf44, hS17, hr11⟩
     cases n6 with
     | zero => cases hr11
     | succ n1 =>
     refine c_sq [] [0, 1, 7, 8, 9] hf44 .nil fun a41 hf45 => ?_
     refine c_seq ?_
     refine c_if (decide (y5 < (p1.length : Int))) hf45 (fun hb6 => ?_) (fun hb6 => ?_)
     ·have hr12 := cond_t hb6 hr11
      refine c_skip ?_
      refine n_then ?_
      refine c_seq ?_
      refine c_block 1 ?_
      refine c_sq [] [0, 1, 5, 7, 8] hf45 .nil fun a42 hf46 => ?_
      refine c_sr ?_
      obtain ⟨p4, hp385319, hr13⟩ := bind_some hr12
      obtain ⟨ad2, ho2, hb7, cc2, hc2, hk3⟩ := SliceR.getI (SliceR.mono k7 hx2) hp385319
      subst hc2
      refine c_n 5 [.pointer (some ad2), vI p4.lot, vI p4.mass] [0, 1, 5, 7, 8, 11, 15] hf46 (.prop ho2 (.prop hb7 (.cell (hS17.cell (hk3 0 _ rfl)) (.cell (hS17.cell (hk3 1 _ rfl)) .nil)))) fun a43 hf47 => ?_
      refine p_inl (i := 5) (d := some 16) (f := 114) (args := #[.agg #[vI p4.lot, vI p4.mass], pB b1 0, pB b2 0]) (N' := 11) hf47 (by kernel_rfl) Try.func114 (by kernel_rfl) fun a44 hf48 => ?_
      refine c_sr ?_
      refine c_box [vI p4.lot, vI p4.mass] 56 hS17 hf48 fun b7 ww17 a45 hS18 hf49 => ⟨fun _ => trivial, ?_⟩
      refine c_t [] [1, 2, 3] hf49 .nil fun a46 hf50 => ?_
      refine c_seq ?_
      have hS19 := hS18.drew
      have s1 := Sub.of zr hS19
      refine c_regD [(0, true), (1, true), (2, true), (4, true), (3, false), (5, true), (6, true)] [] _ s1 ?_
      refine c_S 4 [.slice o_x0l x0l.length c_x0l, V00, V01, V02, V03, V04, V05, V06, V07, V08, vI p4.lot, vI x1] [5, 7, 9] s1 hf50 (fun _ s => (.cell (s.box (i := 10) rfl (j := 0) rfl) (.cell (s.box (i := 10) rfl (j := 1) rfl) (.cell (s.box (i := 10) rfl (j := 2) rfl) (.cell (s.box (i := 10) rfl (j := 3) rfl) (.cell (s.box (i := 10) rfl (j := 4) rfl) (.cell (s.box (i := 10) rfl (j := 5) rfl) (.cell (s.box (i := 10) rfl (j := 6) rfl) (.cell (s.box (i := 10) rfl (j := 7) rfl) (.cell (s.box (i := 10) rfl (j := 8) rfl) (.cell (s.box (i := 10) rfl (j := 9) rfl) (.cell (s.box (i := 0) rfl (j := 0) rfl) (.cell (s.box (i := 9) rfl (j := 0) rfl) .nil))))))))))))) .nil fun a47 hf51 => ?_
      obtain ⟨r2, hd3, hr14⟩ := bind_some hr13
      refine c_call hf51 (f115_ok fuel x0l x0h p4.lot r2 hd3 z5 _ _ hS19 o_x0l c_x0l (SliceR.mono (zt (zt (zt k4 k5) k6) k7) hx_x0l) V00 V01 V02 V03 V04 V05 V06 V07 V08 (Ty.mono _ (zt (zt (zt k4 k5) k6) k7) hx_x0h)) ?_
      rintro v2 ww18 a48 ⟨z6, k8, rfl, hS20⟩ hf52
      refine ⟨fun _ => Sub.of k8 hS20, ?_⟩
      have s2 := Sub.of k8 hS20
      refine c_S 2 [] [4] s2 hf52 (fun _ s => .nil) .nil fun a49 hf53 => ?_
      refine c_dt ?_
      refine c_ret ?_
      refine c_rt [] (.bool (r2 != x1)) hf53 .nil ?_
      refine ⟨_, rfl, fun a50 hf54 => ?_⟩
      have hS21 := St.drop 1 hS20
      refine ⟨fun _ => trivial, ?_⟩
      refine c_dt ?_
      refine c_if (r2 != x1) hf54 (fun hb8 => ?_) (fun hb8 => ?_)
      ·have hr15 := cond_t hb8 hr14
       refine c_sq [] [4] hf54 .nil fun a51 hf55 => ?_
       refine c_ret ?_
       refine r_block ?_
       refine r_then ?_
       refine r_then ?_
       refine r_block ?_
       refine r_then ?_
       refine c_rt [] (vI y5) hf55 .nil ?_
       exact ⟨_, rfl, z6, y5, (zt k7 k8), rfl, hS21, hr15⟩
      ·have hr16 := cond_f hb8 hr14
       refine c_skip ?_
       refine n_block ?_
       refine n_then ?_
       refine c_q [] [0, 1, 7, 8] hf54 .nil fun a52 hf56 => ?_
       refine n_then ?_
       exact ⟨n1, Nat.lt_succ_self n1, z6, (w64 (y5 + (1 : Int))), (zt k7 k8), hf56.to, hS21, hr16⟩
     ·have hr17 := cond_f hb6 hr11
      refine c_exit 0 ?_
      refine x_then ?_
      refine x_then ?_
      refine x_block ?_
      refine n_then ?_
      refine c_sq [] [4] hf45 .nil fun a53 hf58 => ?_
      refine c_ret ?_
      refine c_rt [] (vI (-1)) hf58 .nil ?_
      exact ⟨_, rfl, z5, -1, k7, rfl, hS17, hr17⟩
    ·rintro v3 ww19 a54 ⟨z4, y4, k9, rfl, hS22, hr18⟩ hf59
     refine ⟨fun _ => trivial, ?_⟩
     refine c_t [] [4] hf59 .nil fun a55 hf60 => ?_
     refine c_ret ?_
     refine c_rt [] (.bool (decide (y4 ≥ (0 : Int)))) hf60 .nil ?_
     refine ⟨_, rfl, fun a56 hf61 => ?_⟩
     refine ⟨fun _ => trivial, ?_⟩
     refine c_dt ?_
     refine c_if (decide (y4 ≥ (0 : Int))) hf61 (fun hb9 => ?_) (fun hb9 => ?_)
     ·have hr19 := cond_t hb9 hr18
      refine c_exit 2 ?_
      refine x_then ?_
      refine x_pass rfl ?_
      refine p_roundX hS22 (j := 1) rfl fun ww20 a57 hS23 hf62 => ?_
      have hS24 := St.drop 1 hS23
      refine c_t [] [0, 1, 3, 18] hf62 .nil fun a58 hf63 => ?_
      refine w_if_true hf63 (by kernel_rfl) ?_
      refine c_ret ?_
      refine r_block ?_
      refine r_then ?_
      refine r_then ?_
      refine r_block ?_
      refine c_rt [] (.tuple #[]) hf63 .nil ?_
      refine ⟨_, rfl, fun a59 hf64 => ?_⟩
      refine p_jumpX hS24 (j := 0) rfl (fun h => by cases h) fun ww21 hS25 => ?_
      refine x_block ?_
      refine n_block ?_
      refine n_then ?_
      refine c_q [] [2, 3, 7, 20, 21] hf64 .nil fun a60 hf65 => ?_
      refine n_then ?_
      have hS26 := defsJoin (i := 1) (j := 4) hS25 rfl rfl (by decide)
      exact ⟨n3, Nat.lt_succ_self n3, z4, y2, (w64 (y1 + (1 : Int))), D1 :: gs289129, (zt (zt k5 k6) k9), hf65.to, (St.drop 4 hS26), hl2, hr19⟩
     ·have hr20 := cond_f hb9 hr18
      refine c_skip ?_
      refine n_then ?_
      have hS27 := hS22.drew
      have s3 := Sub.of zr hS27
      refine c_regD [(0, true), (1, true), (2, true), (3, true), (4, true), (5, false), (6, true), (7, true), (8, false)] [8] _ s3 ?_
      obtain ⟨p2, hp385431, hr21⟩ := bind_some hr20
      obtain ⟨ad3, ho3, hb10, cc3, hc3, hk4⟩ := hS27.ownGet (j := 7) rfl hp385431
      subst hc3
      refine c_S 5 [.slice (some e1) y2.length d2.length, vI y1, .pointer (some ad3), vI p2, .slice e3 p1.length q2] [33, 34, 36, 37] s3 hf61 (fun _ s => (.cell (s.box (i := 6) rfl (j := 0) rfl) (.cell (s.box (i := 4) rfl (j := 0) rfl) (.prop ho3 (.prop hb10 (.cell (s.ownCell (j := 7) rfl ho3 hp385431 (fun _ _ e => e) (k := 0) rfl) (.cell (s.box (i := 0) rfl (j := 0) rfl) .nil))))))) .nil fun a61 hf67 => ?_
      obtain ⟨r1, hd4, hr22⟩ := bind_some hr21
      refine c_call hf67 (f90_ok fuel p1 r1 hd4 z4 _ _ hS27 e3 q2 (SliceR.mono k9 hx2)) ?_
      rintro v4 ww22 a62 ⟨z7, k10, rfl, hS28⟩ hf68
      refine ⟨fun _ => Sub.of k10 hS28, ?_⟩
      have s4 := Sub.of k10 hS28
      obtain ⟨p3, hp385458, hr23⟩ := bind_some hr22
      obtain ⟨ad4, ho4, hb11, cc4, hc4, hk5⟩ := hS28.ownGet (j := 7) rfl hp385458
      subst hc4
      refine c_S 2 [.pointer (some ad4)] [39, 40] s4 hf68 (fun _ s => (.prop ho4 (.prop hb11 .nil))) .nil fun a63 hf69 => ?_
      obtain ⟨d1, hd5, hr24⟩ := bind_some hr23
      have hl3 := setI_len hd5
      refine p_setOwnI (i := 8) (j := 7) (ad := ad4) (ix := y1) (x' := (w64 (p2 + r1))) hS28 hf69 rfl ho4 (by kernel_rfl) hd5 fun ww23 a64 hS29 hf70 => ?_
      have hS30 := St.convL (L' := box b6 [.slice e3 p1.length q2] 40 :: loopA l1 43 [(2, pB b1 0), (3, pB b2 0), (7, pB b3 0), (8, pB b4 0), (20, .agg #[V00, V01, V02, V03, V04, V05, V06, V07, V08]), (21, vI y1), (26, .func (.func 135) #[] #[pB b5 0])] ps1 RA1 RB1 D1 .busy none :: defA D1 :: box b5 [.slice e2 p5.length q1] 23 :: box b4 [vI y1] 3 :: defsA gs289129 :: box b3 [.slice (some e1) d1.length d2.length] 53 :: ownS Ty.int 3 (some e1) d2.length d1 :: box b2 [vI x1] 3 :: box b1 [.slice o_x0l x0l.length c_x0l, V00, V01, V02, V03, V04, V05, V06, V07, V08] 26 :: L) hS29 (by rw [hl3] <;> rfl)
      refine ⟨fun e => absurd e (by decide), ?_⟩
      refine c_done ?_
      refine n_block ?_
      refine p_roundN hS30 (j := 1) rfl fun ww24 a65 hS31 hf71 => ?_
      have hS32 := St.drop 1 hS31
      refine c_t [] [0, 1, 3, 18] hf71 .nil fun a66 hf72 => ?_
      refine w_if_false hf72 (by kernel_rfl) ?_
      refine c_skip ?_
      refine n_block ?_
      refine n_then ?_
      refine c_q [] [0, 1, 3] hf72 .nil fun a67 hf73 => ?_
      refine n_then ?_
      exact ⟨n2, Nat.lt_succ_self n2, z7, d1, (w64 (y3 - (1 : Int))), (zt (zt k6 k9) k10), hf73.to, hS32, (hl3.symm.trans hl2), hr24⟩
   ·have hr25 := cond_f hb4 hr8
    refine c_exit 0 ?_
    refine x_then ?_
    refine x_then ?_
    refine x_block ?_
    refine c_fall [] (.tuple #[]) hf31 .nil ?_
    refine ⟨_, rfl, fun a68 hf75 => ?_⟩
    refine p_jump0 hS13 (j := 0) rfl (fun h => by cases h) fun ww25 hS33 => ?_
    refine n_block ?_
    refine n_block ?_
    refine n_then ?_
    refine c_q [] [2, 3, 7, 20, 21] hf75 .nil fun a69 hf76 => ?_
    refine n_then ?_
    have hS34 := defsJoin (i := 1) (j := 4) hS33 rfl rfl (by decide)
    exact ⟨n3, Nat.lt_succ_self n3, z3, y2, (w64 (y1 + (1 : Int))), D1 :: gs289129, (zt k5 k6), hf76.to, (St.drop 4 hS34), hl2, hr25⟩
  ·have hr26 := cond_f hb2 hr5
   refine c_exit 0 ?_
   refine x_then ?_
   refine x_then ?_
   refine x_block ?_
   refine n_then ?_
   refine c_sq [.slice (some e1) y6.length d2.length] [4, 5] hf15 (.cell (hS8.box (i := 1) rfl (j := 0) rfl) .nil) fun a70 hf78 => ?_
   refine c_ret ?_
   obtain ⟨z8, k11, hS35, hx3⟩ := hS8.share (j := 2) rfl
   refine p_retM hf78 ?_
   refine p_marksE hS35 (j := 0) rfl fun ww26 hS36 => ?_
   refine p_end (os := []) (v := .tuple #[.slice (some e1) y6.length d2.length, vI 0]) (obs := []) hf78 (by kernel_rfl) .nil ?_
   obtain rfl := some_eq hr26
   exact ⟨_, rfl, z8, (some e1), d2.length, (zt (zt k4 k5) k11), rfl, (St.drop 5 hS36), hx3⟩
def F55_j1 (k1 : (List Int) → Int → Option (List Int × Int)) (y1 : Int) (y2 : List Int) : Option (List Int × Int) :=
  (k1 y2 (w64 (y1 + (1 : Int))))
def F55_l3 (fuel : Nat) (k2 : (List Int) → Int → Option (List Int × Int)) (x0l : List Lot) (x0h : List (List (List Part))) (x1 : Int) (y3 : Int) (y4 : Int) (p1 : List Part) : Nat → (List Int) → Int → Option (List Int × Int)
  | 0, _, _ => none
  | n1 + 1, y5, y1 =>
    let k1 : (List Int) → Int → Option (List Int × Int) := F55_l3 fuel k2 x0l x0h x1 y3 y4 p1 n1
    (cond (decide (y1 < (p1.length : Int))) ((getI p1 y1).bind fun p2 => ((F115 fuel x0l x0h p2.lot).bind fun r1 => (cond (r1 == x1) ((getI y5 y3).bind fun p3 => ((getI y5 y3).bind fun p4 => ((setI y5 y3 (w64 (p3 + p2.mass))).bind fun d1 => (F55_j1 k1 y1 d1)))) (F55_j1 k1 y1 y5)))) (k2 y5 (w64 (y4 + (1 : Int)))))
def F55_l2 (fuel : Nat) (k3 : (List Int) → Int → Option (List Int × Int)) (x0l : List Lot) (x0h : List (List (List Part))) (x1 : Int) (y3 : Int) (p5 : List (List Part)) : Nat → (List Int) → Int → Option (List Int × Int)
  | 0, _, _ => none
  | n2 + 1, y6, y4 =>
    let k2 : (List Int) → Int → Option (List Int × Int) := F55_l2 fuel k3 x0l x0h x1 y3 p5 n2
    (cond (decide (y4 < (p5.length : Int))) ((getI p5 y4).bind fun p1 => (F55_l3 fuel k2 x0l x0h x1 y3 y4 p1 fuel y6 0)) (k3 y6 (w64 (y3 + (1 : Int)))))
def F55_l1 (fuel : Nat) (x0l : List Lot) (x0h : List (List (List Part))) (x1 : Int) : Nat → (List Int) → Int → Option (List Int × Int)
  | 0, _, _ => none
  | n3 + 1, y7, y3 =>
    let k3 : (List Int) → Int → Option (List Int × Int) := F55_l1 fuel x0l x0h x1 n3
    (cond (decide (y3 < (9 : Int))) ((getI x0h y3).bind fun p5 => (F55_l2 fuel k3 x0l x0h x1 y3 p5 fuel y7 0)) (some (y7, 0)))
def F55 (fuel : Nat) (x0l : List Lot) (x0h : List (List (List Part))) (x1 : Int) : Option (List Int × Int) :=
  ((F111 fuel x0l x0h x1).bind fun r2 => (cond (r2 != (0 : Int)) (some ([], r2)) ((mkC 9 (0 : Int)).bind fun d2 => (F55_l1 fuel x0l x0h x1 fuel d2 0))))
set_option maxRecDepth 100000 in
theorem f55_ok (fuel : Nat) (x0l : List Lot) (x0h : List (List (List Part))) (x1 : Int) (r : List Int × Int) (hr : F55 fuel x0l x0h x1 = some r) (h : Zone) (L : List Atom) (w : World) (hS : St h L w) (o_x0l : Option Addr) (c_x0l : Nat) (hx_x0l : SliceR LotT h o_x0l c_x0l x0l) (V00 V01 V02 V03 V04 V05 V06 V07 V08 : Value) (hx_x0h : (Ty.arr 9 (Ty.slice (Ty.slice PartT))).rep h [V00, V01, V02, V03, V04, V05, V06, V07, V08] x0h) :
    Calls Try.prog 55 #[.agg #[.slice o_x0l x0l.length c_x0l, V00, V01, V02, V03, V04, V05, V06, V07, V08], vI x1] w fun e w' => ∃ v, e = .returned v ∧ (∃ h', ∃ o0 : Option Addr, ∃ c0 : Nat, Zone.le h h' ∧ v = .tuple #[.slice o0 r.1.length c0, vI r.2] ∧ St h' L w' ∧ SliceR Ty.int h' o0 c0 r.1) := by
 refine calls_intro (N := 58) Try.func55 (by kernel_rfl) fun a hf => ?_
 refine c_sr ?_
 refine c_box [.slice o_x0l x0l.length c_x0l, V00, V01, V02, V03, V04, V05, V06, V07, V08] 26 hS hf fun b1 ww1 a1 hS1 hf1 => ⟨fun _ => trivial, ?_⟩
 refine c_t [] [1, 2] hf1 .nil fun a2 hf2 => ?_
 refine c_seq ?_
 refine c_sr ?_
 refine c_n 2 [.slice o_x0l x0l.length c_x0l, V00, V01, V02, V03, V04, V05, V06, V07, V08] [1, 2, 14, 15] hf2 (.cell (hS1.box (i := 0) rfl (j := 0) rfl) (.cell (hS1.box (i := 0) rfl (j := 1) rfl) (.cell (hS1.box (i := 0) rfl (j := 2) rfl) (.cell (hS1.box (i := 0) rfl (j := 3) rfl) (.cell (hS1.box (i := 0) rfl (j := 4) rfl) (.cell (hS1.box (i := 0) rfl (j := 5) rfl) (.cell (hS1.box (i := 0) rfl (j := 6) rfl) (.cell (hS1.box (i := 0) rfl (j := 7) rfl) (.cell (hS1.box (i := 0) rfl (j := 8) rfl) (.cell (hS1.box (i := 0) rfl (j := 9) rfl) .nil)))))))))) fun a3 hf3 => ?_
 obtain ⟨r2, hd1, hr1⟩ := bind_some hr
 refine c_call hf3 (f111_ok fuel x0l x0h x1 r2 hd1 h _ _ hS1 o_x0l c_x0l hx_x0l V00 V01 V02 V03 V04 V05 V06 V07 V08 (Ty.mono _ zr hx_x0h)) ?_
 rintro v1 ww2 a4 ⟨z1, k4, rfl, hS2⟩ hf4
 refine ⟨fun _ => trivial, ?_⟩
 refine c_t [] [1, 2, 6] hf4 .nil fun a5 hf5 => ?_
 refine c_sq [] [1, 2, 6, 18] hf5 .nil fun a6 hf6 => ?_
 refine c_if (r2 != (0 : Int)) hf6 (fun hb1 => ?_) (fun hb1 => ?_)
 ·have hr2 := cond_t hb1 hr1
  refine c_sq [] [4, 5] hf6 .nil fun a7 hf7 => ?_
  refine c_ret ?_
  refine r_then ?_
  refine c_rt [] (.tuple #[.slice none 0 0, vI r2]) hf7 .nil ?_
  obtain rfl := some_eq hr2
  exact ⟨_, rfl, z1, none, 0, k4, rfl, (St.drop 1 hS2), SliceR.nil' _ _⟩
 ·have hr3 := cond_f hb1 hr1
  refine c_skip ?_
  refine n_then ?_
  refine c_sr ?_
  obtain ⟨d2, hd2, hr4⟩ := bind_some hr3
  refine p_make (T := Ty.int) (i := 0) (d := some 20) (x0 := (0 : Int)) el53 hS2 hf6 (by kernel_rfl) rfl hd2 fun e1 ww3 a8 hS3 hf8 => ⟨fun _ => trivial, ?_⟩
  refine c_t [] [1, 2, 7] hf8 .nil fun a9 hf9 => ?_
  refine c_seq ?_
  refine c_sq [V00, V01, V02, V03, V04, V05, V06, V07, V08] [1, 2, 7, 22, 23] hf9 (.cell (hS3.box (i := 1) rfl (j := 1) rfl) (.cell (hS3.box (i := 1) rfl (j := 2) rfl) (.cell (hS3.box (i := 1) rfl (j := 3) rfl) (.cell (hS3.box (i := 1) rfl (j := 4) rfl) (.cell (hS3.box (i := 1) rfl (j := 5) rfl) (.cell (hS3.box (i := 1) rfl (j := 6) rfl) (.cell (hS3.box (i := 1) rfl (j := 7) rfl) (.cell (hS3.box (i := 1) rfl (j := 8) rfl) (.cell (hS3.box (i := 1) rfl (j := 9) rfl) .nil))))))))) fun a10 hf10 => ?_
  refine c_block 0 ?_
  refine c_loop (fun n a w => ∃ z2 : Zone, ∃ y7 : List Int, ∃ y3 : Int, Zone.le z1 z2 ∧ Fr a 58 [(1, vI x1), (2, pB b1 0), (7, .slice (some e1) y7.length d2.length), (22, .agg #[V00, V01, V02, V03, V04, V05, V06, V07, V08]), (23, vI y3)] ∧ St z2 (ownS Ty.int 3 (some e1) d2.length y7 :: box b1 [.slice o_x0l x0l.length c_x0l, V00, V01, V02, V03, V04, V05, V06, V07, V08] 26 :: L) w ∧ y7.length = d2.length ∧ (F55_l1 fuel x0l x0h x1 n y7 y3) = some r) fuel ⟨z1, d2, 0, zr, hf10.to, hS3, rfl, hr4⟩ ?_
  rintro n4 a11 ww4 ⟨z2, y7, y3, k5, hf12, hS4, hl1, hr5⟩
  cases n4 with
  | zero => cases hr5
  | succ n3 =>
  refine c_sq [] [1, 2, 7, 22, 23, 24] hf12 .nil fun a12 hf13 => ?_
  refine c_seq ?_
  refine c_if (decide (y3 < (9 : Int))) hf13 (fun hb2 => ?_) (fun hb2 => ?_)
  ·have hr6 := cond_t hb2 hr5
   refine c_skip ?_
   refine n_then ?_
   refine c_seq ?_
   refine c_block 1 ?_
   obtain ⟨p5, hp117216, hr7⟩ := bind_some hr6
   obtain ⟨hb3, _, hv1, e2, q1, hehv117220, hx1⟩ := arrGet (Ty.mono _ (zt k4 k5) hx_x0h) rfl hp117216
   obtain rfl := List.head_eq_of_cons_eq hehv117220
   have hk1 := arrIdx hv1
   refine c_sq [.slice e2 p5.length q1] [1, 2, 7, 8, 9, 22, 23] hf13 (.prop hb3 (.prop hk1 .nil)) fun a13 hf14 => ?_
   refine c_sq [] [1, 2, 7, 8, 22, 23, 27, 28, 29] hf14 .nil fun a14 hf15 => ?_
   refine c_block 2 ?_
   refine c_loop (fun n a w => ∃ z3 : Zone, ∃ y6 : List Int, ∃ y4 : Int, Zone.le z2 z3 ∧ Fr a 58 [(1, vI x1), (2, pB b1 0), (7, .slice (some e1) y6.length d2.length), (8, vI y3), (22, .agg #[V00, V01, V02, V03, V04, V05, V06, V07, V08]), (23, vI y3), (27, .slice e2 p5.length q1), (28, vI (p5.length : Int)), (29, vI y4)] ∧ St z3 (ownS Ty.int 3 (some e1) d2.length y6 :: box b1 [.slice o_x0l x0l.length c_x0l, V00, V01, V02, V03, V04, V05, V06, V07, V08] 26 :: L) w ∧ y6.length = d2.length ∧ (F55_l2 fuel (F55_l1 fuel x0l x0h x1 n3) x0l x0h x1 y3 p5 n y6 y4) = some r) fuel ⟨z2, y7, 0, zr, hf15.to, hS4, hl1, hr7⟩ ?_
   rintro n5 a15 ww5 ⟨z3, y6, y4, k6, hf17, hS5, hl2, hr8⟩
   cases n5 with
   | zero => cases hr8
   | succ n2 =>
   refine c_sq [] [1, 2, 7, 8, 22, 23, 27, 28, 29, 30] hf17 .nil fun a16 hf18 => ?_
   refine c_seq ?_
   refine c_if (decide (y4 < (p5.length : Int))) hf18 (fun hb4 => ?_) (fun hb4 => ?_)
   ·have hr9 := cond_t hb4 hr8
    refine c_skip ?_
    refine n_then ?_
    refine c_seq ?_
    refine c_block 3 ?_
    refine c_sr ?_
    obtain ⟨p1, hp124050, hr10⟩ := bind_some hr9
    obtain ⟨ad1, ho1, hb5, cc1, hc1, hk2⟩ := SliceR.getI (SliceR.mono k6 hx1) hp124050
    obtain ⟨e3, q2, rfl, hx2⟩ := hc1
    refine c_n 2 [.pointer (some ad1), .slice e3 p1.length q2] [1, 2, 7, 8, 22, 23, 27, 28, 29, 32] hf18 (.prop ho1 (.prop hb5 (.cell (hS5.cell (hk2 0 _ rfl)) .nil))) fun a17 hf19 => ?_
    refine c_box [.slice none 0 0] 40 hS5 hf19 fun b2 ww6 a18 hS6 hf20 => ⟨fun _ => trivial, ?_⟩
    refine c_st 0 [.slice e3 p1.length q2] hS6 hf20 rfl fun ww7 a19 hS7 hf21 => ⟨fun _ => trivial, ?_⟩
    refine c_dt ?_
    refine c_sq [.slice e3 p1.length q2] [1, 2, 7, 8, 22, 23, 27, 28, 29, 34, 35, 36] hf21 (.cell (hS7.box (i := 0) rfl (j := 0) rfl) .nil) fun a20 hf22 => ?_
    refine c_block 4 ?_
    refine c_loop (fun n a w => ∃ z4 : Zone, ∃ y5 : List Int, ∃ y1 : Int, Zone.le z3 z4 ∧ Fr a 58 [(1, vI x1), (2, pB b1 0), (7, .slice (some e1) y5.length d2.length), (8, vI y3), (22, .agg #[V00, V01, V02, V03, V04, V05, V06, V07, V08]), (23, vI y3), (27, .slice e2 p5.length q1), (28, vI (p5.length : Int)), (29, vI y4), (34, .slice e3 p1.length q2), (35, vI (p1.length : Int)), (36, vI y1)] ∧ St z4 (box b2 [.slice e3 p1.length q2] 40 :: ownS Ty.int 3 (some e1) d2.length y5 :: box b1 [.slice o_x0l x0l.length c_x0l, V00, V01, V02, V03, V04, V05, V06, V07, V08] 26 :: L) w ∧ y5.length = d2.length ∧ (F55_l3 fuel (F55_l2 fuel (F55_l1 fuel x0l x0h x1 n3) x0l x0h x1 y3 p5 n2) x0l x0h x1 y3 y4 p1 n y5 y1) = some r) fuel ⟨z3, y6, 0, zr, hf22.to, hS7, hl2, hr10⟩ ?_
    rintro n6 a21 ww8 ⟨z4, y5, y1, k7, hf24, hS8, hl3, hr11⟩
    cases n6 with
    | zero => cases hr11
    | succ n1 =>
    refine c_sq [] [1, 2, 7, 8, 22, 23, 27, 28, 29, 34, 35, 36, 37] hf24 .nil fun a22 hf25 => ?_
    refine c_seq ?_
    refine c_if (decide (y1 < (p1.length : Int))) hf25 (fun hb6 => ?_) (fun hb6 => ?_)
    ·have hr12 := cond_t hb6 hr11
     refine c_skip ?_
     refine n_then ?_
     refine c_mid (fun a w => ∃ z5 : Zone, ∃ y2 : List Int, Zone.le z4 z5 ∧ Fr a 58 [(1, vI x1), (2, pB b1 0), (7, .slice (some e1) y2.length d2.length), (8, vI y3), (22, .agg #[V00, V01, V02, V03, V04, V05, V06, V07, V08]), (23, vI y3), (27, .slice e2 p5.length q1), (28, vI (p5.length : Int)), (29, vI y4), (34, .slice e3 p1.length q2), (35, vI (p1.length : Int)), (36, vI y1)] ∧ St z5 (box b2 [.slice e3 p1.length q2] 40 :: ownS Ty.int 3 (some e1) d2.length y2 :: box b1 [.slice o_x0l x0l.length c_x0l, V00, V01, V02, V03, V04, V05, V06, V07, V08] 26 :: L) w ∧ y2.length = d2.length ∧ (F55_j1 (F55_l3 fuel (F55_l2 fuel (F55_l1 fuel x0l x0h x1 n3) x0l x0h x1 y3 p5 n2) x0l x0h x1 y3 y4 p1 n1) y1 y2) = some r) ?_ ?_
     ·skip
      refine c_block 5 ?_
      refine c_sr ?_
      obtain ⟨p2, hp125018, hr13⟩ := bind_some hr12
      obtain ⟨ad2, ho2, hb7, cc2, hc2, hk3⟩ := SliceR.getI (SliceR.mono k7 hx2) hp125018
      subst hc2
      refine c_n 2 [.pointer (some ad2), vI p2.lot, vI p2.mass] [1, 2, 7, 8, 22, 23, 27, 28, 29, 34, 35, 36, 39] hf25 (.prop ho2 (.prop hb7 (.cell (hS8.cell (hk3 0 _ rfl)) (.cell (hS8.cell (hk3 1 _ rfl)) .nil)))) fun a23 hf26 => ?_
      refine c_box [vI 0, vI 0] 56 hS8 hf26 fun b3 ww9 a24 hS9 hf27 => ⟨fun _ => trivial, ?_⟩
      refine c_st 0 [vI p2.lot, vI p2.mass] hS9 hf27 rfl fun ww10 a25 hS10 hf28 => ⟨fun _ => trivial, ?_⟩
      refine c_dt ?_
      refine c_sr ?_
      refine c_n 3 [.slice o_x0l x0l.length c_x0l, V00, V01, V02, V03, V04, V05, V06, V07, V08, vI p2.lot] [1, 2, 7, 8, 13, 22, 23, 27, 28, 29, 34, 35, 36, 40, 42] hf28 (.cell (hS10.box (i := 3) rfl (j := 0) rfl) (.cell (hS10.box (i := 3) rfl (j := 1) rfl) (.cell (hS10.box (i := 3) rfl (j := 2) rfl) (.cell (hS10.box (i := 3) rfl (j := 3) rfl) (.cell (hS10.box (i := 3) rfl (j := 4) rfl) (.cell (hS10.box (i := 3) rfl (j := 5) rfl) (.cell (hS10.box (i := 3) rfl (j := 6) rfl) (.cell (hS10.box (i := 3) rfl (j := 7) rfl) (.cell (hS10.box (i := 3) rfl (j := 8) rfl) (.cell (hS10.box (i := 3) rfl (j := 9) rfl) (.cell (hS10.box (i := 0) rfl (j := 0) rfl) .nil))))))))))) fun a26 hf29 => ?_
      obtain ⟨r1, hd3, hr14⟩ := bind_some hr13
      refine c_call hf29 (f115_ok fuel x0l x0h p2.lot r1 hd3 z4 _ _ hS10 o_x0l c_x0l (SliceR.mono (zt (zt (zt k4 k5) k6) k7) hx_x0l) V00 V01 V02 V03 V04 V05 V06 V07 V08 (Ty.mono _ (zt (zt (zt k4 k5) k6) k7) hx_x0h)) ?_
      rintro v2 ww11 a27 ⟨z6, k8, rfl, hS11⟩ hf30
      refine ⟨fun _ => trivial, ?_⟩
      refine c_t [] [1, 2, 7, 8, 13, 22, 23, 27, 28, 29, 34, 35, 36, 45] hf30 .nil fun a28 hf31 => ?_
      refine c_if (r1 == x1) hf31 (fun hb8 => ?_) (fun hb8 => ?_)
      ·have hr15 := cond_t hb8 hr14
       have hS12 := hS11.drew
       refine c_regD [(0, true), (1, true), (2, true), (3, true), (4, true), (5, true), (6, true), (7, true), (8, false)] [8] (fun x => x = ww11.drew) rfl ?_
       obtain ⟨p3, hp125061, hr16⟩ := bind_some hr15
       obtain ⟨ad3, ho3, hb9, cc3, hc3, hk4⟩ := hS12.ownGet (j := 2) rfl hp125061
       subst hc3
       obtain ⟨p4, hp125070, hr17⟩ := bind_some hr16
       obtain ⟨ad4, ho4, hb10, cc4, hc4, hk5⟩ := hS12.ownGet (j := 2) rfl hp125070
       subst hc4
       refine c_E 8 [.pointer (some ad3), vI p3, vI p2.mass, .pointer (some ad4)] [1, 2, 7, 8, 22, 23, 27, 28, 29, 34, 35, 36, 52, 53] hf31 (.prop ho3 (.prop hb9 (.cell (hk4 0 _ rfl) (.cell (hS12.box (i := 0) rfl (j := 1) rfl) (.prop ho4 (.prop hb10 .nil)))))) .nil fun a29 hf32 => ?_
       obtain ⟨d1, hd4, hr18⟩ := bind_some hr17
       have hl4 := setI_len hd4
       refine p_setOwnI (i := 8) (j := 2) (ad := ad4) (ix := y3) (x' := (w64 (p3 + p2.mass))) hS12 hf32 rfl ho4 (by kernel_rfl) hd4 fun ww12 a30 hS13 hf33 => ?_
       have hf34 := Fr.conv (fl' := [(1, vI x1), (2, pB b1 0), (7, .slice (some e1) d1.length d2.length), (8, vI y3), (22, .agg #[V00, V01, V02, V03, V04, V05, V06, V07, V08]), (23, vI y3), (27, .slice e2 p5.length q1), (28, vI (p5.length : Int)), (29, vI y4), (34, .slice e3 p1.length q2), (35, vI (p1.length : Int)), (36, vI y1), (52, vI (w64 (p3 + p2.mass))), (53, .pointer (some (ad4.add (Int.toNat y3 * 1))))]) hf33 (by rw [hl4] <;> kernel_rfl)
       refine ⟨fun e => absurd e (by decide), ?_⟩
       refine c_done ?_
       refine n_block ?_
       refine n_then ?_
       exact ⟨z6, d1, k8, hf34.to, (St.drop 1 hS13), (hl4.symm.trans hl3), hr18⟩
      ·have hr19 := cond_f hb8 hr14
       refine c_skip ?_
       refine n_block ?_
       refine n_then ?_
       exact ⟨z6, y5, k8, hf31.to, (St.drop 1 hS11), hl3, hr19⟩
     ·rintro a31 ww13 ⟨z5, y2, k9, hf37, hS14, hl5, hr20⟩
      refine c_q [] [1, 2, 7, 8, 22, 23, 27, 28, 29, 34, 35, 36] hf37 .nil fun a32 hf38 => ?_
      refine n_then ?_
      exact ⟨n1, Nat.lt_succ_self n1, z5, y2, (w64 (y1 + (1 : Int))), (zt k7 k9), hf38.to, hS14, hl5, hr20⟩
    ·have hr21 := cond_f hb6 hr11
     refine c_exit 4 ?_
     refine x_then ?_
     refine x_then ?_
     refine x_block ?_
     refine n_block ?_
     refine n_then ?_
     refine c_q [] [1, 2, 7, 8, 22, 23, 27, 28, 29] hf25 .nil fun a33 hf40 => ?_
     refine n_then ?_
     exact ⟨n2, Nat.lt_succ_self n2, z4, y5, (w64 (y4 + (1 : Int))), (zt k6 k7), hf40.to, (St.drop 1 hS8), hl3, hr21⟩
   ·have hr22 := cond_f hb4 hr8
    refine c_exit 2 ?_
    refine x_then ?_
    refine x_then ?_
    refine x_block ?_
    refine n_block ?_
    refine n_then ?_
    refine c_q [] [1, 2, 7, 22, 23] hf18 .nil fun a34 hf42 => ?_
    refine n_then ?_
    exact ⟨n3, Nat.lt_succ_self n3, z3, y6, (w64 (y3 + (1 : Int))), (zt k5 k6), hf42.to, hS5, hl2, hr22⟩
  ·have hr23 := cond_f hb2 hr5
   refine c_exit 0 ?_
   refine x_then ?_
   refine x_then ?_
   refine x_block ?_
   refine n_then ?_
   refine c_sq [] [4, 5] hf13 .nil fun a35 hf44 => ?_
   refine c_ret ?_
   obtain ⟨z7, k10, hS15, hx3⟩ := hS4.share (j := 0) rfl
   refine c_rt [] (.tuple #[.slice (some e1) y7.length d2.length, vI 0]) hf44 .nil ?_
   obtain rfl := some_eq hr23
   exact ⟨_, rfl, z7, (some e1), d2.length, (zt (zt k4 k5) k10), rfl, (St.drop 2 hS15), hx3⟩
def F14_j2 : Option (Bool) :=
  (some (true))
def F14_l1 (fuel : Nat) (r1 : List Lot × List (List (List Part))) (r2 : Int) (y1 : List Part) : Nat → Int → Option (Bool)
  | 0, _ => none
  | n1 + 1, y2 =>
    let k1 : Int → Option (Bool) := F14_l1 fuel r1 r2 y1 n1
    (cond (decide (y2 < (y1.length : Int))) ((getI y1 y2).bind fun p1 => ((F56 fuel r1.1 p1.lot).bind fun r3 => ((getI r1.1 r3).bind fun p2 => (cond (p2.owner != (w64 ((1 : Int) + r2))) (some (false)) (k1 (w64 (y2 + (1 : Int)))))))) (F14_j2))
def F14_j4 (fuel : Nat) (r1 : List Lot × List (List (List Part))) (r2 : Int) (y1 : List Part) (y3 : Bool) : Option (Bool) :=
  (cond y3 (some (false)) (F14_l1 fuel r1 r2 y1 fuel 0))
def F14_j3 (fuel : Nat) (r1 : List Lot × List (List (List Part))) (r2 : Int) (r4 : Int) (y4 : Int) (y5 : List Lot) (y6 : List (List (List Part))) (y1 : List Part) : Option (Bool) :=
  ((F54 fuel y5 y6 (w64 ((1 : Int) + r2))).bind fun r5 => (cond (y4 != (0 : Int)) (F14_j4 fuel r1 r2 y1 true) (cond (r5.2 != (0 : Int)) (F14_j4 fuel r1 r2 y1 true) ((getI r5.1 r4).bind fun p3 => (F14_j4 fuel r1 r2 y1 (p3 != (0 : Int)))))))
def F14_j1 (fuel : Nat) (r1 : List Lot × List (List (List Part))) (r2 : Int) (r4 : Int) (r6 : List Int × Int) (y7 : Bool) : Option (Bool) :=
  (cond y7 (some (false)) ((getI r6.1 r4).bind fun p4 => (cond (decide (p4 > (0 : Int))) ((getI r6.1 r4).bind fun p5 => ((F27 fuel r1.1 r1.2 3 0 r4 0 p5).bind fun r7 => (F14_j3 fuel r1 r2 r4 r7.2.2.2 r7.1 r7.2.1 r7.2.2.1))) (F14_j2))))
def F14 (fuel : Nat) (x0l : List A4) (x0d : List A5) (x0c0 : Int) (x0c1 : Int) (x0c2 : Int) (x1 : Int) (x2 : Int) : Option (Bool) :=
  ((F16 fuel ).bind fun r8 => ((F53 fuel x0l x0d).bind fun r1 => ((F35 fuel x1 3).bind fun r2 => ((F35 fuel x2 4).bind fun r4 => ((F54 fuel r1.1 r1.2 (w64 ((1 : Int) + r2))).bind fun r6 => ((F55 fuel r1.1 r1.2 (w64 ((1 : Int) + r2))).bind fun r9 => (cond (!r8) (F14_j1 fuel r1 r2 r4 r6 true) (cond (r6.2 != (0 : Int)) (F14_j1 fuel r1 r2 r4 r6 true) (cond (r9.2 != (0 : Int)) (F14_j1 fuel r1 r2 r4 r6 true) (cond ((r6.1.length : Int) != (9 : Int)) (F14_j1 fuel r1 r2 r4 r6 true) (cond ((r9.1.length : Int) != (9 : Int)) (F14_j1 fuel r1 r2 r4 r6 true) ((getI r6.1 r4).bind fun p6 => ((getI r9.1 r4).bind fun p7 => (F14_j1 fuel r1 r2 r4 r6 (decide (p6 > p7))))))))))))))))
set_option maxRecDepth 100000 in
theorem f14_ok (fuel : Nat) (x0l : List A4) (x0d : List A5) (x0c0 : Int) (x0c1 : Int) (x0c2 : Int) (x1 : Int) (x2 : Int) (r : Bool) (hr : F14 fuel x0l x0d x0c0 x0c1 x0c2 x1 x2 = some r) (h : Zone) (L : List Atom) (w : World) (hS : St h L w) (o_x0l : Option Addr) (c_x0l : Nat) (hx_x0l : SliceR A4T h o_x0l c_x0l x0l) (o_x0d : Option Addr) (c_x0d : Nat) (hx_x0d : SliceR A5T h o_x0d c_x0d x0d) :
    Calls Try.prog 14 #[.agg #[.slice o_x0l x0l.length c_x0l, .slice o_x0d x0d.length c_x0d, vI x0c0, vI x0c1, vI x0c2], vI x1, vI x2] w fun e w' => ∃ v, e = .returned v ∧ (∃ h', Zone.le h h' ∧ v = .bool r ∧ St h' L w') := by
 refine calls_intro (N := 132) Try.func14 (by kernel_rfl) fun a hf => ?_
 refine c_sr ?_
 refine c_box [.slice o_x0l x0l.length c_x0l, .slice o_x0d x0d.length c_x0d, vI x0c0, vI x0c1, vI x0c2] 63 hS hf fun b1 ww1 a1 hS1 hf1 => ⟨fun _ => trivial, ?_⟩
 refine c_t [] [1, 2, 3] hf1 .nil fun a2 hf2 => ?_
 refine c_sr ?_
 obtain ⟨r8, hd1, hr1⟩ := bind_some hr
 refine c_call hf2 (f16_ok fuel  r8 hd1 h _ _ hS1 ) ?_
 rintro v1 ww2 a3 ⟨z1, k2, rfl, hS2⟩ hf3
 refine ⟨fun _ => trivial, ?_⟩
 refine c_t [] [1, 2, 3, 7] hf3 .nil fun a4 hf4 => ?_
 refine c_sr ?_
 refine c_n 4 [.slice o_x0l x0l.length c_x0l, .slice o_x0d x0d.length c_x0d] [1, 2, 7, 21, 23] hf4 (.cell (hS2.box (i := 0) rfl (j := 0) rfl) (.cell (hS2.box (i := 0) rfl (j := 1) rfl) .nil)) fun a5 hf5 => ?_
 obtain ⟨r1, hd2, hr2⟩ := bind_some hr1
 refine c_call hf5 (f53_ok fuel x0l x0d r1 hd2 z1 _ _ hS2 o_x0l c_x0l (SliceR.mono k2 hx_x0l) o_x0d c_x0d (SliceR.mono k2 hx_x0d)) ?_
 rintro v2 ww3 a6 ⟨z2, e1, q1, v3, v4, v5, v6, v7, v8, v9, v10, v11, k3, rfl, hS3, hx1, hx2⟩ hf6
 refine ⟨fun _ => trivial, ?_⟩
 refine c_box [.slice none 0 0, .slice none 0 0, .slice none 0 0, .slice none 0 0, .slice none 0 0, .slice none 0 0, .slice none 0 0, .slice none 0 0, .slice none 0 0, .slice none 0 0] 26 hS3 hf6 fun b2 ww4 a7 hS4 hf7 => ⟨fun _ => trivial, ?_⟩
 have hq1 := oneCells_of (Ty.one _ (Ty.mono _ zr hx2))
 refine p_store_eq (i := 6) (j := 0) (b := b2) (off := 0) (vs := [.slice e1 r1.1.length q1, v3, v4, v5, v6, v7, v8, v9, v10, v11]) (cs' := [.slice e1 r1.1.length q1, v3, v4, v5, v6, v7, v8, v9, v10, v11]) hS4 hf7 rfl (by kernel_rfl) hq1 rfl fun ww5 a8 hS5 hf8 => ⟨fun _ => trivial, ?_⟩
 refine c_dt ?_
 refine c_sr ?_
 refine c_n 1 [] [2, 7, 8, 25] hf8 .nil fun a9 hf9 => ?_
 obtain ⟨r2, hd3, hr3⟩ := bind_some hr2
 refine c_call hf9 (f35_ok fuel x1 3 r2 hd3 z2 _ _ hS5 ) ?_
 rintro v12 ww6 a10 ⟨rfl, hS6⟩ hf10
 refine ⟨fun _ => trivial, ?_⟩
 refine c_t [] [1, 2, 7, 8] hf10 .nil fun a11 hf11 => ?_
 refine c_sr ?_
 refine c_n 1 [] [1, 7, 8, 28] hf11 .nil fun a12 hf12 => ?_
 obtain ⟨r4, hd4, hr4⟩ := bind_some hr3
 refine c_call hf12 (f35_ok fuel x2 4 r4 hd4 z2 _ _ hS6 ) ?_
 rintro v13 ww7 a13 ⟨rfl, hS7⟩ hf13
 refine ⟨fun _ => trivial, ?_⟩
 refine c_t [] [1, 2, 7, 8] hf13 .nil fun a14 hf14 => ?_
 refine c_sr ?_
 refine c_n 2 [.slice e1 r1.1.length q1, v3, v4, v5, v6, v7, v8, v9, v10, v11] [1, 2, 7, 8, 31, 32] hf14 (.cell (hS7.box (i := 0) rfl (j := 0) rfl) (.cell (hS7.box (i := 0) rfl (j := 1) rfl) (.cell (hS7.box (i := 0) rfl (j := 2) rfl) (.cell (hS7.box (i := 0) rfl (j := 3) rfl) (.cell (hS7.box (i := 0) rfl (j := 4) rfl) (.cell (hS7.box (i := 0) rfl (j := 5) rfl) (.cell (hS7.box (i := 0) rfl (j := 6) rfl) (.cell (hS7.box (i := 0) rfl (j := 7) rfl) (.cell (hS7.box (i := 0) rfl (j := 8) rfl) (.cell (hS7.box (i := 0) rfl (j := 9) rfl) .nil)))))))))) fun a15 hf15 => ?_
 obtain ⟨r6, hd5, hr5⟩ := bind_some hr4
 refine c_call hf15 (f54_ok fuel r1.1 r1.2 (w64 ((1 : Int) + r2)) r6 hd5 z2 _ _ hS7 e1 q1 hx1 v3 v4 v5 v6 v7 v8 v9 v10 v11 (Ty.mono _ zr hx2)) ?_
 rintro v14 ww8 a16 ⟨z3, e2, q2, k4, rfl, hS8, hx3⟩ hf16
 refine ⟨fun _ => trivial, ?_⟩
 refine c_t [] [1, 2, 7, 8, 9, 10] hf16 .nil fun a17 hf17 => ?_
 refine c_sr ?_
 refine c_n 2 [.slice e1 r1.1.length q1, v3, v4, v5, v6, v7, v8, v9, v10, v11] [1, 2, 7, 8, 9, 10, 37, 38] hf17 (.cell (hS8.box (i := 0) rfl (j := 0) rfl) (.cell (hS8.box (i := 0) rfl (j := 1) rfl) (.cell (hS8.box (i := 0) rfl (j := 2) rfl) (.cell (hS8.box (i := 0) rfl (j := 3) rfl) (.cell (hS8.box (i := 0) rfl (j := 4) rfl) (.cell (hS8.box (i := 0) rfl (j := 5) rfl) (.cell (hS8.box (i := 0) rfl (j := 6) rfl) (.cell (hS8.box (i := 0) rfl (j := 7) rfl) (.cell (hS8.box (i := 0) rfl (j := 8) rfl) (.cell (hS8.box (i := 0) rfl (j := 9) rfl) .nil)))))))))) fun a18 hf18 => ?_
 obtain ⟨r9, hd6, hr6⟩ := bind_some hr5
 refine c_call hf18 (f55_ok fuel r1.1 r1.2 (w64 ((1 : Int) + r2)) r9 hd6 z3 _ _ hS8 e1 q1 (SliceR.mono k4 hx1) v3 v4 v5 v6 v7 v8 v9 v10 v11 (Ty.mono _ k4 hx2)) ?_
 rintro v15 ww9 a19 ⟨z4, e3, q3, k5, rfl, hS9, hx4⟩ hf19
 refine ⟨fun _ => trivial, ?_⟩
 refine c_t [] [1, 2, 7, 8, 9, 10, 11, 12] hf19 .nil fun a20 hf20 => ?_
 refine c_seq ?_
 refine c_mid (fun a w => ∃ z5 : Zone, ∃ y7 : Bool, Zone.le z4 z5 ∧ Fr a 132 [(1, vI (w64 ((1 : Int) + r2))), (2, vI r4), (8, pB b2 0), (9, .slice e2 r6.1.length q2), (72, .bool y7)] ∧ St z5 (box b2 [.slice e1 r1.1.length q1, v3, v4, v5, v6, v7, v8, v9, v10, v11] 26 :: box b1 [.slice o_x0l x0l.length c_x0l, .slice o_x0d x0d.length c_x0d, vI x0c0, vI x0c1, vI x0c2] 63 :: L) w ∧ (F14_j1 fuel r1 r2 r4 r6 y7) = some r) ?_ ?_
 ·skip
  have hS10 := hS9.drew
  refine c_regD [(0, true), (1, true), (2, true), (3, true), (4, true), (5, true), (6, true), (7, true), (8, true), (9, true), (10, true), (11, true), (12, true), (13, true), (14, true), (15, true), (16, true), (17, true), (18, true), (19, true), (20, true), (21, true), (22, true), (23, true), (24, true), (25, true), (26, true), (27, true), (28, true), (29, true), (30, true)] [] (fun x => x = ww9.drew) rfl ?_
  refine c_E 3 [] [1, 2, 8, 9, 10, 11, 12, 44] hf20 .nil .nil fun a21 hf21 => ?_
  rcases bft (!r8) with hb1 | hb1
  ·have hr7 := cond_t hb1 hr6
   have hf22 := hf21.lit 44 hb1
   refine c_tE [] [1, 2, 8, 9, 72] hf22 .nil .nil fun a22 hf23 => ?_
   exact ⟨z4, true, zr, hf23.to, hS10, hr7⟩
  ·have hr8 := cond_f hb1 hr6
   have hf25 := hf21.lit 44 hb1
   refine c_E 4 [] [1, 2, 8, 9, 11, 12, 48] hf25 .nil .nil fun a23 hf26 => ?_
   rcases bft (r6.2 != (0 : Int)) with hb2 | hb2
   ·have hr9 := cond_t hb2 hr8
    have hf27 := hf26.lit 48 hb2
    refine c_tE [] [1, 2, 8, 9, 72] hf27 .nil .nil fun a24 hf28 => ?_
    exact ⟨z4, true, zr, hf28.to, hS10, hr9⟩
   ·have hr10 := cond_f hb2 hr8
    have hf30 := hf26.lit 48 hb2
    refine c_E 4 [] [1, 2, 8, 9, 11, 52] hf30 .nil .nil fun a25 hf31 => ?_
    rcases bft (r9.2 != (0 : Int)) with hb3 | hb3
    ·have hr11 := cond_t hb3 hr10
     have hf32 := hf31.lit 52 hb3
     refine c_tE [] [1, 2, 8, 9, 72] hf32 .nil .nil fun a26 hf33 => ?_
     exact ⟨z4, true, zr, hf33.to, hS10, hr11⟩
    ·have hr12 := cond_f hb3 hr10
     have hf35 := hf31.lit 52 hb3
     refine c_E 5 [] [1, 2, 8, 9, 11, 57] hf35 .nil .nil fun a27 hf36 => ?_
     rcases bft ((r6.1.length : Int) != (9 : Int)) with hb4 | hb4
     ·have hr13 := cond_t hb4 hr12
      have hf37 := hf36.lit 57 hb4
      refine c_tE [] [1, 2, 8, 9, 72] hf37 .nil .nil fun a28 hf38 => ?_
      exact ⟨z4, true, zr, hf38.to, hS10, hr13⟩
     ·have hr14 := cond_f hb4 hr12
      have hf40 := hf36.lit 57 hb4
      refine c_E 5 [] [1, 2, 8, 9, 11, 62] hf40 .nil .nil fun a29 hf41 => ?_
      rcases bft ((r9.1.length : Int) != (9 : Int)) with hb5 | hb5
      ·have hr15 := cond_t hb5 hr14
       have hf42 := hf41.lit 62 hb5
       refine c_tE [] [1, 2, 8, 9, 72] hf42 .nil .nil fun a30 hf43 => ?_
       exact ⟨z4, true, zr, hf43.to, hS10, hr15⟩
      ·have hr16 := cond_f hb5 hr14
       have hf45 := hf41.lit 62 hb5
       obtain ⟨p6, hp607, hr17⟩ := bind_some hr16
       obtain ⟨ad1, ho1, hb6, cc1, hc1, hk1⟩ := SliceR.getI (SliceR.mono k5 hx3) hp607
       subst hc1
       obtain ⟨p7, hp616, hr18⟩ := bind_some hr17
       obtain ⟨ad2, ho2, hb7, cc2, hc2, hk2⟩ := SliceR.getI hx4 hp616
       subst hc2
       refine c_tE [.pointer (some ad1), vI p6, .pointer (some ad2), vI p7] [1, 2, 8, 9, 72] hf45 (.prop ho1 (.prop hb6 (.cell (hS10.cell (hk1 0 _ rfl)) (.prop ho2 (.prop hb7 (.cell (hS10.cell (hk2 0 _ rfl)) .nil)))))) .nil fun a31 hf46 => ?_
       exact ⟨z4, (decide (p6 > p7)), zr, hf46.to, hS10, hr18⟩
 ·rintro a32 ww10 ⟨z5, y7, k6, hf48, hS11, hr19⟩
  refine c_if y7 hf48 (fun hb8 => ?_) (fun hb8 => ?_)
  ·have hr20 := cond_t hb8 hr19
   refine c_sq [] [6] hf48 .nil fun a33 hf49 => ?_
   refine c_ret ?_
   refine r_then ?_
   refine c_rt [] (.bool false) hf49 .nil ?_
   obtain rfl := some_eq hr20
   exact ⟨_, rfl, z5, (zt (zt (zt (zt k2 k3) k4) k5) k6), rfl, (St.drop 2 hS11)⟩
  ·have hr21 := cond_f hb8 hr19
   refine c_skip ?_
   refine n_then ?_
   refine c_mid (fun a w => ∃ z6 : Zone, Zone.le z5 z6 ∧ Fr a 132 [] ∧ St z6 (box b2 [.slice e1 r1.1.length q1, v3, v4, v5, v6, v7, v8, v9, v10, v11] 26 :: box b1 [.slice o_x0l x0l.length c_x0l, .slice o_x0d x0d.length c_x0d, vI x0c0, vI x0c1, vI x0c2] 63 :: L) w ∧ (F14_j2) = some r) ?_ ?_
   ·skip
    obtain ⟨p4, hp5554, hr22⟩ := bind_some hr21
    obtain ⟨ad3, ho3, hb9, cc3, hc3, hk3⟩ := SliceR.getI (SliceR.mono (zt k5 k6) hx3) hp5554
    subst hc3
    refine c_sq [.pointer (some ad3), vI p4] [1, 2, 8, 9, 77] hf48 (.prop ho3 (.prop hb9 (.cell (hS11.cell (hk3 0 _ rfl)) .nil))) fun a34 hf50 => ?_
    refine c_if (decide (p4 > (0 : Int))) hf50 (fun hb10 => ?_) (fun hb10 => ?_)
    ·have hr23 := cond_t hb10 hr22
     refine c_mid (fun a w => ∃ z7 : Zone, ∃ y4 : Int, ∃ y5 : List Lot, ∃ y6 : List (List (List Part)), ∃ y1 : List Part, ∃ b3 : Nat, ∃ b4 : Nat, ∃ e4 : Option Addr, ∃ q4 : Nat, ∃ v16 : Value, ∃ v17 : Value, ∃ v18 : Value, ∃ v19 : Value, ∃ v20 : Value, ∃ v21 : Value, ∃ v22 : Value, ∃ v23 : Value, ∃ v24 : Value, ∃ e5 : Option Addr, ∃ q5 : Nat, Zone.le z5 z7 ∧ Fr a 132 [(1, vI (w64 ((1 : Int) + r2))), (2, vI r4), (8, pB b2 0), (13, pB b3 0), (14, pB b4 0), (15, vI y4)] ∧ St z7 (box b3 [.slice e4 y5.length q4, v16, v17, v18, v19, v20, v21, v22, v23, v24] 26 :: box b4 [.slice e5 y1.length q5] 40 :: box b2 [.slice e1 r1.1.length q1, v3, v4, v5, v6, v7, v8, v9, v10, v11] 26 :: box b1 [.slice o_x0l x0l.length c_x0l, .slice o_x0d x0d.length c_x0d, vI x0c0, vI x0c1, vI x0c2] 63 :: L) w ∧ SliceR LotT z7 e4 q4 y5 ∧ (Ty.arr 9 (Ty.slice (Ty.slice PartT))).rep z7 [v16, v17, v18, v19, v20, v21, v22, v23, v24] y6 ∧ SliceR PartT z7 e5 q5 y1 ∧ (F14_j3 fuel r1 r2 r4 y4 y5 y6 y1) = some r) ?_ ?_
     ·skip
      have hS12 := hS11.drew
      have s1 := Sub.of zr hS12
      refine w_regB (by kernel_rfl) [7, 14, 15] (Sub z5 (box b2 [.slice e1 r1.1.length q1, v3, v4, v5, v6, v7, v8, v9, v10, v11] 26 :: box b1 [.slice o_x0l x0l.length c_x0l, .slice o_x0d x0d.length c_x0d, vI x0c0, vI x0c1, vI x0c2] 63 :: L)) (by kernel_rfl) ?_
      refine k_seg' 10 [(0, true), (1, true), (2, true), (3, true), (4, true), (5, true), (6, true)] (by kernel_rfl) (by kernel_rfl) (At.start s1) (by kernel_rfl) ?_
      obtain ⟨p5, hp6562, hr24⟩ := bind_some hr23
      obtain ⟨ad4, ho4, hb11, cc4, hc4, hk4⟩ := SliceR.getI (SliceR.mono (zt k5 k6) hx3) hp6562
      subst hc4
      refine c_S 7 [.slice e1 r1.1.length q1, v3, v4, v5, v6, v7, v8, v9, v10, v11, .pointer (some ad4), vI p5] [1, 2, 8, 79, 85] s1 hf50 (fun _ s => (.cell (s.box (i := 0) rfl (j := 0) rfl) (.cell (s.box (i := 0) rfl (j := 1) rfl) (.cell (s.box (i := 0) rfl (j := 2) rfl) (.cell (s.box (i := 0) rfl (j := 3) rfl) (.cell (s.box (i := 0) rfl (j := 4) rfl) (.cell (s.box (i := 0) rfl (j := 5) rfl) (.cell (s.box (i := 0) rfl (j := 6) rfl) (.cell (s.box (i := 0) rfl (j := 7) rfl) (.cell (s.box (i := 0) rfl (j := 8) rfl) (.cell (s.box (i := 0) rfl (j := 9) rfl) (.prop ho4 (.prop hb11 (.cell (s.cell (hk4 0 _ rfl)) .nil)))))))))))))) .nil fun a35 hf51 => ?_
      refine c_done ?_
      intro hA1
      refine k_any' 9 [7, 12, 13] (by kernel_rfl) hA1 (by kernel_rfl) (by kernel_rfl) ?_
      refine (all_cons ?_ (all_cons ?_ (all_cons ?_ all_nil)))
      ·skip
       obtain ⟨r7, hd7, hr25⟩ := bind_some hr24
       refine c_call hf51 (f27_ok fuel r1.1 r1.2 3 0 r4 0 p5 r7 hd7 z5 _ _ hS12 e1 q1 (SliceR.mono (zt (zt k4 k5) k6) hx1) v3 v4 v5 v6 v7 v8 v9 v10 v11 (Ty.mono _ (zt (zt k4 k5) k6) hx2)) ?_
       rintro v25 ww11 a36 ⟨z8, e6, q6, v26, v27, v28, v29, v30, v31, v32, v33, v34, e7, q7, k7, rfl, hS13, hx5, hx6, hx7⟩ hf52
       refine ⟨fun e => absurd e (by decide), ?_⟩
       refine c_done ?_
       intro hA2
       refine k_seg' 5 [(8, true), (9, true), (10, true), (11, true)] (by kernel_rfl) (by kernel_rfl) hA2 (by kernel_rfl) ?_
       refine p_qP 4 [] [(1, vI (w64 ((1 : Int) + r2))), (2, vI r4), (8, pB b2 0), (87, .agg #[.slice e6 r7.1.length q6, v26, v27, v28, v29, v30, v31, v32, v33, v34]), (88, .agg #[.slice e7 r7.2.2.1.length q7]), (89, vI r7.2.2.2)] [] hf52 (by kernel_rfl) (fun _ => .nil) fun a37 hf53 => ?_
       refine c_done ?_
       intro hA3
       refine k_any' 4 [12, 13] (by kernel_rfl) hA3 (by kernel_rfl) (by kernel_rfl) ?_
       refine (all_cons ?_ (all_cons ?_ all_nil))
       ·skip
        refine c_box [.slice none 0 0, .slice none 0 0, .slice none 0 0, .slice none 0 0, .slice none 0 0, .slice none 0 0, .slice none 0 0, .slice none 0 0, .slice none 0 0, .slice none 0 0] 26 hS13 hf53 fun b5 ww12 a38 hS14 hf54 => ⟨fun _ => Sub.of k7 (St.drop 1 hS14), ?_⟩
        refine c_done ?_
        intro hA4
        refine k_seg' 0 [(13, false), (14, false), (15, false), (16, true)] (by kernel_rfl) (by kernel_rfl) hA4 (by kernel_rfl) ?_
        refine c_box [.slice none 0 0] 40 hS14 hf54 fun b6 ww13 a39 hS15 hf55 => ⟨fun _ => Sub.of k7 (St.drop 2 hS15), ?_⟩
        have s2 := Sub.of k7 (St.drop 2 hS15)
        have hq2 := oneCells_of (Ty.one _ (Ty.mono _ zr hx6))
        refine p_store_eq (i := 14) (j := 1) (b := b5) (off := 0) (vs := [.slice e6 r7.1.length q6, v26, v27, v28, v29, v30, v31, v32, v33, v34]) (cs' := [.slice e6 r7.1.length q6, v26, v27, v28, v29, v30, v31, v32, v33, v34]) hS15 hf55 rfl (by kernel_rfl) hq2 rfl fun ww14 a40 hS16 hf56 => ⟨fun e => absurd e (by decide), ?_⟩
        refine c_st 0 [.slice e7 r7.2.2.1.length q7] hS16 hf56 rfl fun ww15 a41 hS17 hf57 => ⟨fun e => absurd e (by decide), ?_⟩
        refine p_qP 1 [] [(1, vI (w64 ((1 : Int) + r2))), (2, vI r4), (8, pB b2 0), (13, pB b5 0), (14, pB b6 0), (15, vI r7.2.2.2)] [] hf57 (by kernel_rfl) (fun _ => .nil) fun a42 hf58 => ?_
        refine c_done ?_
        intro hA5
        refine k_done' (by kernel_rfl) (by kernel_rfl) ?_
        refine n_then ?_
        exact ⟨z8, r7.2.2.2, r7.1, r7.2.1, r7.2.2.1, b5, b6, e6, q6, v26, v27, v28, v29, v30, v31, v32, v33, v34, e7, q7, k7, hf58.to, (St.pick 2 [1, 0] hS17 (by kernel_rfl)), hx5, (Ty.mono _ zr hx6), hx7, hr25⟩
       ·skip
        refine c_box [.slice none 0 0] 40 hS13 hf53 fun b7 ww16 a43 hS18 hf60 => ⟨fun _ => Sub.of k7 (St.drop 1 hS18), ?_⟩
        refine c_done ?_
        intro hA6
        refine k_seg' 0 [(12, false), (14, false), (15, false), (16, true)] (by kernel_rfl) (by kernel_rfl) hA6 (by kernel_rfl) ?_
        refine c_box [.slice none 0 0, .slice none 0 0, .slice none 0 0, .slice none 0 0, .slice none 0 0, .slice none 0 0, .slice none 0 0, .slice none 0 0, .slice none 0 0, .slice none 0 0] 26 hS18 hf60 fun b8 ww17 a44 hS19 hf61 => ⟨fun _ => Sub.of k7 (St.drop 2 hS19), ?_⟩
        have s3 := Sub.of k7 (St.drop 2 hS19)
        have hq3 := oneCells_of (Ty.one _ (Ty.mono _ zr hx6))
        refine p_store_eq (i := 14) (j := 0) (b := b8) (off := 0) (vs := [.slice e6 r7.1.length q6, v26, v27, v28, v29, v30, v31, v32, v33, v34]) (cs' := [.slice e6 r7.1.length q6, v26, v27, v28, v29, v30, v31, v32, v33, v34]) hS19 hf61 rfl (by kernel_rfl) hq3 rfl fun ww18 a45 hS20 hf62 => ⟨fun e => absurd e (by decide), ?_⟩
        refine c_st 1 [.slice e7 r7.2.2.1.length q7] hS20 hf62 rfl fun ww19 a46 hS21 hf63 => ⟨fun e => absurd e (by decide), ?_⟩
        refine p_qP 1 [] [(1, vI (w64 ((1 : Int) + r2))), (2, vI r4), (8, pB b2 0), (13, pB b8 0), (14, pB b7 0), (15, vI r7.2.2.2)] [] hf63 (by kernel_rfl) (fun _ => .nil) fun a47 hf64 => ?_
        refine c_done ?_
        intro hA7
        refine k_done' (by kernel_rfl) (by kernel_rfl) ?_
        refine n_then ?_
        exact ⟨z8, r7.2.2.2, r7.1, r7.2.1, r7.2.2.1, b8, b7, e6, q6, v26, v27, v28, v29, v30, v31, v32, v33, v34, e7, q7, k7, hf64.to, (St.pick 2 [0, 1] hS21 (by kernel_rfl)), hx5, (Ty.mono _ zr hx6), hx7, hr25⟩
      ·skip
       refine c_box [.slice none 0 0, .slice none 0 0, .slice none 0 0, .slice none 0 0, .slice none 0 0, .slice none 0 0, .slice none 0 0, .slice none 0 0, .slice none 0 0, .slice none 0 0] 26 hS12 hf51 fun b9 ww20 a48 hS22 hf66 => ⟨fun _ => Sub.of zr (St.drop 1 hS22), ?_⟩
       refine c_done ?_
       intro hA8
       have s4 := Sub.of zr (St.drop 1 hS22)
       refine k_seg' 9 [] (by kernel_rfl) (by kernel_rfl) hA8 (by kernel_rfl) ?_
       refine c_done ?_
       intro hA9
       refine k_any' 8 [7, 13] (by kernel_rfl) hA9 (by kernel_rfl) (by kernel_rfl) ?_
       refine (all_cons ?_ (all_cons ?_ all_nil))
       ·skip
        obtain ⟨r10, hd8, hr26⟩ := bind_some hr24
        refine c_call hf66 (f27_ok fuel r1.1 r1.2 3 0 r4 0 p5 r10 hd8 z5 _ _ hS22 e1 q1 (SliceR.mono (zt (zt k4 k5) k6) hx1) v3 v4 v5 v6 v7 v8 v9 v10 v11 (Ty.mono _ (zt (zt k4 k5) k6) hx2)) ?_
        rintro v35 ww21 a49 ⟨z9, e8, q8, v36, v37, v38, v39, v40, v41, v42, v43, v44, e9, q9, k8, rfl, hS23, hx8, hx9, hx10⟩ hf67
        refine ⟨fun e => absurd e (by decide), ?_⟩
        refine c_done ?_
        intro hA10
        refine k_seg' 0 [(8, true), (9, true), (10, true), (11, true), (13, false), (14, false), (15, false), (16, true)] (by kernel_rfl) (by kernel_rfl) hA10 (by kernel_rfl) ?_
        refine p_qP 4 [] [(1, vI (w64 ((1 : Int) + r2))), (2, vI r4), (8, pB b2 0), (13, pB b9 0), (87, .agg #[.slice e8 r10.1.length q8, v36, v37, v38, v39, v40, v41, v42, v43, v44]), (88, .agg #[.slice e9 r10.2.2.1.length q9]), (89, vI r10.2.2.2)] [] hf67 (by kernel_rfl) (fun _ => .nil) fun a50 hf68 => ?_
        refine c_box [.slice none 0 0] 40 hS23 hf68 fun b10 ww22 a51 hS24 hf69 => ⟨fun _ => Sub.of k8 (St.drop 2 hS24), ?_⟩
        have s5 := Sub.of k8 (St.drop 2 hS24)
        have hq4 := oneCells_of (Ty.one _ (Ty.mono _ zr hx9))
        refine p_store_eq (i := 14) (j := 1) (b := b9) (off := 0) (vs := [.slice e8 r10.1.length q8, v36, v37, v38, v39, v40, v41, v42, v43, v44]) (cs' := [.slice e8 r10.1.length q8, v36, v37, v38, v39, v40, v41, v42, v43, v44]) hS24 hf69 rfl (by kernel_rfl) hq4 rfl fun ww23 a52 hS25 hf70 => ⟨fun e => absurd e (by decide), ?_⟩
        refine c_st 0 [.slice e9 r10.2.2.1.length q9] hS25 hf70 rfl fun ww24 a53 hS26 hf71 => ⟨fun e => absurd e (by decide), ?_⟩
        refine p_qP 1 [] [(1, vI (w64 ((1 : Int) + r2))), (2, vI r4), (8, pB b2 0), (13, pB b9 0), (14, pB b10 0), (15, vI r10.2.2.2)] [] hf71 (by kernel_rfl) (fun _ => .nil) fun a54 hf72 => ?_
        refine c_done ?_
        intro hA11
        refine k_done' (by kernel_rfl) (by kernel_rfl) ?_
        refine n_then ?_
        exact ⟨z9, r10.2.2.2, r10.1, r10.2.1, r10.2.2.1, b9, b10, e8, q8, v36, v37, v38, v39, v40, v41, v42, v43, v44, e9, q9, k8, hf72.to, (St.pick 2 [1, 0] hS26 (by kernel_rfl)), hx8, (Ty.mono _ zr hx9), hx10, hr26⟩
       ·skip
        refine c_box [.slice none 0 0] 40 hS22 hf66 fun b11 ww25 a55 hS27 hf74 => ⟨fun _ => Sub.of zr (St.drop 2 hS27), ?_⟩
        refine c_done ?_
        intro hA12
        have s6 := Sub.of zr (St.drop 2 hS27)
        refine k_seg' 0 [(7, false), (8, true), (9, true), (10, true), (11, true), (14, false), (15, false), (16, true)] (by kernel_rfl) (by kernel_rfl) hA12 (by kernel_rfl) ?_
        obtain ⟨r11, hd9, hr27⟩ := bind_some hr24
        refine c_call hf74 (f27_ok fuel r1.1 r1.2 3 0 r4 0 p5 r11 hd9 z5 _ _ hS27 e1 q1 (SliceR.mono (zt (zt k4 k5) k6) hx1) v3 v4 v5 v6 v7 v8 v9 v10 v11 (Ty.mono _ (zt (zt k4 k5) k6) hx2)) ?_
        rintro v45 ww26 a56 ⟨z10, e10, q10, v46, v47, v48, v49, v50, v51, v52, v53, v54, e11, q11, k9, rfl, hS28, hx11, hx12, hx13⟩ hf75
        refine ⟨fun e => absurd e (by decide), ?_⟩
        refine p_qP 4 [] [(1, vI (w64 ((1 : Int) + r2))), (2, vI r4), (8, pB b2 0), (13, pB b9 0), (14, pB b11 0), (87, .agg #[.slice e10 r11.1.length q10, v46, v47, v48, v49, v50, v51, v52, v53, v54]), (88, .agg #[.slice e11 r11.2.2.1.length q11]), (89, vI r11.2.2.2)] [] hf75 (by kernel_rfl) (fun _ => .nil) fun a57 hf76 => ?_
        have hq5 := oneCells_of (Ty.one _ (Ty.mono _ zr hx12))
        refine p_store_eq (i := 14) (j := 1) (b := b9) (off := 0) (vs := [.slice e10 r11.1.length q10, v46, v47, v48, v49, v50, v51, v52, v53, v54]) (cs' := [.slice e10 r11.1.length q10, v46, v47, v48, v49, v50, v51, v52, v53, v54]) hS28 hf76 rfl (by kernel_rfl) hq5 rfl fun ww27 a58 hS29 hf77 => ⟨fun e => absurd e (by decide), ?_⟩
        refine c_st 0 [.slice e11 r11.2.2.1.length q11] hS29 hf77 rfl fun ww28 a59 hS30 hf78 => ⟨fun e => absurd e (by decide), ?_⟩
        refine p_qP 1 [] [(1, vI (w64 ((1 : Int) + r2))), (2, vI r4), (8, pB b2 0), (13, pB b9 0), (14, pB b11 0), (15, vI r11.2.2.2)] [] hf78 (by kernel_rfl) (fun _ => .nil) fun a60 hf79 => ?_
        refine c_done ?_
        intro hA13
        refine k_done' (by kernel_rfl) (by kernel_rfl) ?_
        refine n_then ?_
        exact ⟨z10, r11.2.2.2, r11.1, r11.2.1, r11.2.2.1, b9, b11, e10, q10, v46, v47, v48, v49, v50, v51, v52, v53, v54, e11, q11, k9, hf79.to, (St.pick 2 [1, 0] hS30 (by kernel_rfl)), hx11, (Ty.mono _ zr hx12), hx13, hr27⟩
      ·skip
       refine c_box [.slice none 0 0] 40 hS12 hf51 fun b12 ww29 a61 hS31 hf81 => ⟨fun _ => Sub.of zr (St.drop 1 hS31), ?_⟩
       refine c_done ?_
       intro hA14
       have s7 := Sub.of zr (St.drop 1 hS31)
       refine k_seg' 9 [] (by kernel_rfl) (by kernel_rfl) hA14 (by kernel_rfl) ?_
       refine c_done ?_
       intro hA15
       refine k_any' 8 [7, 12] (by kernel_rfl) hA15 (by kernel_rfl) (by kernel_rfl) ?_
       refine (all_cons ?_ (all_cons ?_ all_nil))
       ·skip
        obtain ⟨r12, hd10, hr28⟩ := bind_some hr24
        refine c_call hf81 (f27_ok fuel r1.1 r1.2 3 0 r4 0 p5 r12 hd10 z5 _ _ hS31 e1 q1 (SliceR.mono (zt (zt k4 k5) k6) hx1) v3 v4 v5 v6 v7 v8 v9 v10 v11 (Ty.mono _ (zt (zt k4 k5) k6) hx2)) ?_
        rintro v55 ww30 a62 ⟨z11, e12, q12, v56, v57, v58, v59, v60, v61, v62, v63, v64, e13, q13, k10, rfl, hS32, hx14, hx15, hx16⟩ hf82
        refine ⟨fun e => absurd e (by decide), ?_⟩
        refine c_done ?_
        intro hA16
        refine k_seg' 0 [(8, true), (9, true), (10, true), (11, true), (12, false), (14, false), (15, false), (16, true)] (by kernel_rfl) (by kernel_rfl) hA16 (by kernel_rfl) ?_
        refine p_qP 4 [] [(1, vI (w64 ((1 : Int) + r2))), (2, vI r4), (8, pB b2 0), (14, pB b12 0), (87, .agg #[.slice e12 r12.1.length q12, v56, v57, v58, v59, v60, v61, v62, v63, v64]), (88, .agg #[.slice e13 r12.2.2.1.length q13]), (89, vI r12.2.2.2)] [] hf82 (by kernel_rfl) (fun _ => .nil) fun a63 hf83 => ?_
        refine c_box [.slice none 0 0, .slice none 0 0, .slice none 0 0, .slice none 0 0, .slice none 0 0, .slice none 0 0, .slice none 0 0, .slice none 0 0, .slice none 0 0, .slice none 0 0] 26 hS32 hf83 fun b13 ww31 a64 hS33 hf84 => ⟨fun _ => Sub.of k10 (St.drop 2 hS33), ?_⟩
        have s8 := Sub.of k10 (St.drop 2 hS33)
        have hq6 := oneCells_of (Ty.one _ (Ty.mono _ zr hx15))
        refine p_store_eq (i := 14) (j := 0) (b := b13) (off := 0) (vs := [.slice e12 r12.1.length q12, v56, v57, v58, v59, v60, v61, v62, v63, v64]) (cs' := [.slice e12 r12.1.length q12, v56, v57, v58, v59, v60, v61, v62, v63, v64]) hS33 hf84 rfl (by kernel_rfl) hq6 rfl fun ww32 a65 hS34 hf85 => ⟨fun e => absurd e (by decide), ?_⟩
        refine c_st 1 [.slice e13 r12.2.2.1.length q13] hS34 hf85 rfl fun ww33 a66 hS35 hf86 => ⟨fun e => absurd e (by decide), ?_⟩
        refine p_qP 1 [] [(1, vI (w64 ((1 : Int) + r2))), (2, vI r4), (8, pB b2 0), (13, pB b13 0), (14, pB b12 0), (15, vI r12.2.2.2)] [] hf86 (by kernel_rfl) (fun _ => .nil) fun a67 hf87 => ?_
        refine c_done ?_
        intro hA17
        refine k_done' (by kernel_rfl) (by kernel_rfl) ?_
        refine n_then ?_
        exact ⟨z11, r12.2.2.2, r12.1, r12.2.1, r12.2.2.1, b13, b12, e12, q12, v56, v57, v58, v59, v60, v61, v62, v63, v64, e13, q13, k10, hf87.to, (St.pick 2 [0, 1] hS35 (by kernel_rfl)), hx14, (Ty.mono _ zr hx15), hx16, hr28⟩
       ·skip
        refine c_box [.slice none 0 0, .slice none 0 0, .slice none 0 0, .slice none 0 0, .slice none 0 0, .slice none 0 0, .slice none 0 0, .slice none 0 0, .slice none 0 0, .slice none 0 0] 26 hS31 hf81 fun b14 ww34 a68 hS36 hf89 => ⟨fun _ => Sub.of zr (St.drop 2 hS36), ?_⟩
        refine c_done ?_
        intro hA18
        have s9 := Sub.of zr (St.drop 2 hS36)
        refine k_seg' 0 [(7, false), (8, true), (9, true), (10, true), (11, true), (14, false), (15, false), (16, true)] (by kernel_rfl) (by kernel_rfl) hA18 (by kernel_rfl) ?_
        obtain ⟨r13, hd11, hr29⟩ := bind_some hr24
        refine c_call hf89 (f27_ok fuel r1.1 r1.2 3 0 r4 0 p5 r13 hd11 z5 _ _ hS36 e1 q1 (SliceR.mono (zt (zt k4 k5) k6) hx1) v3 v4 v5 v6 v7 v8 v9 v10 v11 (Ty.mono _ (zt (zt k4 k5) k6) hx2)) ?_
        rintro v65 ww35 a69 ⟨z12, e14, q14, v66, v67, v68, v69, v70, v71, v72, v73, v74, e15, q15, k11, rfl, hS37, hx17, hx18, hx19⟩ hf90
        refine ⟨fun e => absurd e (by decide), ?_⟩
        refine p_qP 4 [] [(1, vI (w64 ((1 : Int) + r2))), (2, vI r4), (8, pB b2 0), (13, pB b14 0), (14, pB b12 0), (87, .agg #[.slice e14 r13.1.length q14, v66, v67, v68, v69, v70, v71, v72, v73, v74]), (88, .agg #[.slice e15 r13.2.2.1.length q15]), (89, vI r13.2.2.2)] [] hf90 (by kernel_rfl) (fun _ => .nil) fun a70 hf91 => ?_
        have hq7 := oneCells_of (Ty.one _ (Ty.mono _ zr hx18))
        refine p_store_eq (i := 14) (j := 0) (b := b14) (off := 0) (vs := [.slice e14 r13.1.length q14, v66, v67, v68, v69, v70, v71, v72, v73, v74]) (cs' := [.slice e14 r13.1.length q14, v66, v67, v68, v69, v70, v71, v72, v73, v74]) hS37 hf91 rfl (by kernel_rfl) hq7 rfl fun ww36 a71 hS38 hf92 => ⟨fun e => absurd e (by decide), ?_⟩
        refine c_st 1 [.slice e15 r13.2.2.1.length q15] hS38 hf92 rfl fun ww37 a72 hS39 hf93 => ⟨fun e => absurd e (by decide), ?_⟩
        refine p_qP 1 [] [(1, vI (w64 ((1 : Int) + r2))), (2, vI r4), (8, pB b2 0), (13, pB b14 0), (14, pB b12 0), (15, vI r13.2.2.2)] [] hf93 (by kernel_rfl) (fun _ => .nil) fun a73 hf94 => ?_
        refine c_done ?_
        intro hA19
        refine k_done' (by kernel_rfl) (by kernel_rfl) ?_
        refine n_then ?_
        exact ⟨z12, r13.2.2.2, r13.1, r13.2.1, r13.2.2.1, b14, b12, e14, q14, v66, v67, v68, v69, v70, v71, v72, v73, v74, e15, q15, k11, hf94.to, (St.pick 2 [0, 1] hS39 (by kernel_rfl)), hx17, (Ty.mono _ zr hx18), hx19, hr29⟩
     ·rintro a74 ww38 ⟨z7, y4, y5, y6, y1, b3, b4, e4, q4, v16, v17, v18, v19, v20, v21, v22, v23, v24, e5, q5, k12, hf96, hS40, hx20, hx21, hx22, hr30⟩
      refine c_sr ?_
      refine c_n 2 [.slice e4 y5.length q4, v16, v17, v18, v19, v20, v21, v22, v23, v24] [1, 2, 8, 14, 15, 91, 92] hf96 (.cell (hS40.box (i := 0) rfl (j := 0) rfl) (.cell (hS40.box (i := 0) rfl (j := 1) rfl) (.cell (hS40.box (i := 0) rfl (j := 2) rfl) (.cell (hS40.box (i := 0) rfl (j := 3) rfl) (.cell (hS40.box (i := 0) rfl (j := 4) rfl) (.cell (hS40.box (i := 0) rfl (j := 5) rfl) (.cell (hS40.box (i := 0) rfl (j := 6) rfl) (.cell (hS40.box (i := 0) rfl (j := 7) rfl) (.cell (hS40.box (i := 0) rfl (j := 8) rfl) (.cell (hS40.box (i := 0) rfl (j := 9) rfl) .nil)))))))))) fun a75 hf97 => ?_
      obtain ⟨r5, hd12, hr31⟩ := bind_some hr30
      refine c_call hf97 (f54_ok fuel y5 y6 (w64 ((1 : Int) + r2)) r5 hd12 z7 _ _ hS40 e4 q4 hx20 v16 v17 v18 v19 v20 v21 v22 v23 v24 (Ty.mono _ zr hx21)) ?_
      rintro v75 ww39 a76 ⟨z13, e16, q16, k13, rfl, hS41, hx23⟩ hf98
      refine ⟨fun _ => trivial, ?_⟩
      refine c_t [] [1, 2, 8, 14, 15, 16, 17] hf98 .nil fun a77 hf99 => ?_
      refine c_seq ?_
      refine c_mid (fun a w => ∃ z14 : Zone, ∃ y3 : Bool, Zone.le z13 z14 ∧ Fr a 132 [(1, vI (w64 ((1 : Int) + r2))), (8, pB b2 0), (14, pB b4 0), (108, .bool y3)] ∧ St z14 (box b3 [.slice e4 y5.length q4, v16, v17, v18, v19, v20, v21, v22, v23, v24] 26 :: box b4 [.slice e5 y1.length q5] 40 :: box b2 [.slice e1 r1.1.length q1, v3, v4, v5, v6, v7, v8, v9, v10, v11] 26 :: box b1 [.slice o_x0l x0l.length c_x0l, .slice o_x0d x0d.length c_x0d, vI x0c0, vI x0c1, vI x0c2] 63 :: L) w ∧ (F14_j4 fuel r1 r2 y1 y3) = some r) ?_ ?_
      ·skip
       refine c_reg ?_
       refine c_n 3 [] [1, 2, 8, 14, 16, 17, 98] hf99 .nil fun a78 hf100 => ?_
       rcases bft (y4 != (0 : Int)) with hb12 | hb12
       ·have hr32 := cond_t hb12 hr31
        have hf101 := hf100.lit 98 hb12
        refine c_t [] [1, 8, 14, 108] hf101 .nil fun a79 hf102 => ?_
        exact ⟨z13, true, zr, hf102.to, hS41, hr32⟩
       ·have hr33 := cond_f hb12 hr31
        have hf104 := hf100.lit 98 hb12
        refine c_n 4 [] [1, 2, 8, 14, 16, 102] hf104 .nil fun a80 hf105 => ?_
        rcases bft (r5.2 != (0 : Int)) with hb13 | hb13
        ·have hr34 := cond_t hb13 hr33
         have hf106 := hf105.lit 102 hb13
         refine c_t [] [1, 8, 14, 108] hf106 .nil fun a81 hf107 => ?_
         exact ⟨z13, true, zr, hf107.to, hS41, hr34⟩
        ·have hr35 := cond_f hb13 hr33
         have hf109 := hf105.lit 102 hb13
         obtain ⟨p3, hp7119, hr36⟩ := bind_some hr35
         obtain ⟨ad5, ho5, hb14, cc5, hc5, hk5⟩ := SliceR.getI hx23 hp7119
         subst hc5
         refine c_t [.pointer (some ad5), vI p3] [1, 8, 14, 108] hf109 (.prop ho5 (.prop hb14 (.cell (hS41.cell (hk5 0 _ rfl)) .nil))) fun a82 hf110 => ?_
         exact ⟨z13, (p3 != (0 : Int)), zr, hf110.to, hS41, hr36⟩
      ·rintro a83 ww40 ⟨z14, y3, k14, hf112, hS42, hr37⟩
       refine c_if y3 hf112 (fun hb15 => ?_) (fun hb15 => ?_)
       ·have hr38 := cond_t hb15 hr37
        refine c_sq [] [6] hf112 .nil fun a84 hf113 => ?_
        refine c_ret ?_
        refine r_then ?_
        refine r_then ?_
        refine c_rt [] (.bool false) hf113 .nil ?_
        obtain rfl := some_eq hr38
        exact ⟨_, rfl, z14, (zt (zt (zt (zt (zt (zt (zt k2 k3) k4) k5) k6) k12) k13) k14), rfl, (St.drop 4 hS42)⟩
       ·have hr39 := cond_f hb15 hr37
        refine c_skip ?_
        refine n_then ?_
        refine c_sq [] [1, 8, 14, 18] hf112 .nil fun a85 hf114 => ?_
        refine c_block 0 ?_
        refine c_loop (fun n a w => ∃ z15 : Zone, ∃ y2 : Int, Zone.le z14 z15 ∧ Fr a 132 [(1, vI (w64 ((1 : Int) + r2))), (8, pB b2 0), (14, pB b4 0), (18, vI y2)] ∧ St z15 (box b3 [.slice e4 y5.length q4, v16, v17, v18, v19, v20, v21, v22, v23, v24] 26 :: box b4 [.slice e5 y1.length q5] 40 :: box b2 [.slice e1 r1.1.length q1, v3, v4, v5, v6, v7, v8, v9, v10, v11] 26 :: box b1 [.slice o_x0l x0l.length c_x0l, .slice o_x0d x0d.length c_x0d, vI x0c0, vI x0c1, vI x0c2] 63 :: L) w ∧ (F14_l1 fuel r1 r2 y1 n y2) = some r) fuel ⟨z14, 0, zr, hf114.to, hS42, hr39⟩ ?_
        rintro n2 a86 ww41 ⟨z15, y2, k15, hf116, hS43, hr40⟩
        cases n2 with
        | zero => cases hr40
        | succ n1 =>
        refine c_seq ?_
        refine c_sq [.slice e5 y1.length q5] [1, 8, 14, 18, 113] hf116 (.cell (hS43.box (i := 1) rfl (j := 0) rfl) .nil) fun a87 hf117 => ?_
        refine c_if (decide (y2 < (y1.length : Int))) hf117 (fun hb16 => ?_) (fun hb16 => ?_)
        ·have hr41 := cond_t hb16 hr40
         refine c_skip ?_
         refine n_then ?_
         refine c_seq ?_
         refine c_block 1 ?_
         refine c_seq ?_
         have hS44 := hS43.drew
         have s10 := Sub.of zr hS44
         refine c_regD [(0, true), (1, true), (2, true), (3, true), (4, true), (5, true), (6, true), (7, true), (8, true), (9, true), (14, true), (10, false), (11, true), (12, true), (13, true), (15, true)] [] _ s10 ?_
         obtain ⟨p1, hp7515, hr42⟩ := bind_some hr41
         obtain ⟨ad6, ho6, hb17, cc6, hc6, hk6⟩ := SliceR.getI (SliceR.mono (zt (zt k13 k14) k15) hx22) hp7515
         subst hc6
         refine c_S 11 [.slice e1 r1.1.length q1, .slice e1 r1.1.length q1, .slice e5 y1.length q5, .pointer (some ad6), vI p1.lot] [1, 8, 14, 18, 117, 119, 125, 130] s10 hf117 (fun _ s => (.cell (s.box (i := 2) rfl (j := 0) rfl) (.cell (s.box (i := 2) rfl (j := 0) rfl) (.cell (s.box (i := 1) rfl (j := 0) rfl) (.prop ho6 (.prop hb17 (.cell (s.cell (hk6 0 _ rfl)) .nil))))))) .nil fun a88 hf118 => ?_
         obtain ⟨r3, hd13, hr43⟩ := bind_some hr42
         refine c_call hf118 (f56_ok fuel r1.1 p1.lot r3 hd13 z15 _ _ hS44 e1 q1 (SliceR.mono (zt (zt (zt (zt (zt (zt k4 k5) k6) k12) k13) k14) k15) hx1)) ?_
         rintro v76 ww42 a89 ⟨z16, k16, rfl, hS45⟩ hf119
         refine ⟨fun _ => Sub.of k16 hS45, ?_⟩
         have s11 := Sub.of k16 hS45
         obtain ⟨p2, hp7542, hr44⟩ := bind_some hr43
         obtain ⟨ad7, ho7, hb18, cc7, hc7, hk7⟩ := SliceR.getI (SliceR.mono (zt (zt (zt (zt (zt (zt k4 k5) k6) k12) k13) k14) k15) hx1) hp7542
         subst hc7
         refine c_S 4 [.pointer (some ad7), vI p2.owner] [1, 8, 14, 18, 131] s11 hf119 (fun _ s => (.prop ho7 (.prop hb18 (.cell (s.cell (hk7 1 _ rfl)) .nil)))) .nil fun a90 hf120 => ?_
         refine c_dt ?_
         refine c_if (p2.owner != (w64 ((1 : Int) + r2))) hf120 (fun hb19 => ?_) (fun hb19 => ?_)
         ·have hr45 := cond_t hb19 hr44
          refine c_sq [] [6] hf120 .nil fun a91 hf121 => ?_
          refine c_ret ?_
          refine r_block ?_
          refine r_then ?_
          refine r_then ?_
          refine r_block ?_
          refine r_then ?_
          refine c_rt [] (.bool false) hf121 .nil ?_
          obtain rfl := some_eq hr45
          exact ⟨_, rfl, z16, (zt (zt (zt (zt (zt (zt (zt (zt (zt k2 k3) k4) k5) k6) k12) k13) k14) k15) k16), rfl, (St.drop 4 hS45)⟩
         ·have hr46 := cond_f hb19 hr44
          refine c_skip ?_
          refine n_block ?_
          refine n_then ?_
          refine c_q [] [1, 8, 14, 18] hf120 .nil fun a92 hf122 => ?_
          refine n_then ?_
          exact ⟨n1, Nat.lt_succ_self n1, z16, (w64 (y2 + (1 : Int))), (zt k15 k16), hf122.to, hS45, hr46⟩
        ·have hr47 := cond_f hb16 hr40
         refine c_exit 0 ?_
         refine x_then ?_
         refine x_then ?_
         refine x_block ?_
         refine n_then ?_
         exact ⟨z15, (zt (zt (zt k12 k13) k14) k15), hf117.to, (St.drop 2 hS43), hr47⟩
    ·have hr48 := cond_f hb10 hr22
     refine c_skip ?_
     refine n_then ?_
     exact ⟨z5, zr, hf50.to, hS11, hr48⟩
   ·rintro a93 ww43 ⟨z6, k17, hf126, hS46, hr49⟩
    refine c_sq [] [6] hf126 .nil fun a94 hf127 => ?_
    refine c_ret ?_
    refine c_rt [] (.bool true) hf127 .nil ?_
    obtain rfl := some_eq hr49
    exact ⟨_, rfl, z6, (zt (zt (zt (zt (zt k2 k3) k4) k5) k6) k17), rfl, (St.drop 2 hS46)⟩
end Go.Proofs.Ytlmgjjmighajdaa
set_option linter.unusedSimpArgs false
set_option linter.unusedVariables false
namespace Go.Proofs.Ytlmgjjmighajdaa
open Go.Sl Go.Sx
theorem w64_id {n : Int} (h1 : -9223372036854775808 ≤ n) (h2 : n ≤ 9223372036854775807) : w64 n = n := by
  unfold w64 IntKind.wrap
  simp [IntKind.bits, IntKind.signed]
  omega
theorem succ_w {i : Nat} (h : i < 4000000000) : w64 ((i : Int) + 1) = ((i + 1 : Nat) : Int) := by
  rw [w64_id (by omega) (by omega)]; simp
theorem pred_w {i : Nat} (h : i < 4000000000) (h0 : 0 < i) : w64 ((i : Int) - 1) = ((i - 1 : Nat) : Int) := by
  rw [w64_id (by omega) (by omega)]; omega
theorem sane_true : F16 200 = some true := by kernel_rfl
theorem loop_all {ρ : Type} {L : Nat → Int → Option ρ} {len : Nat} {good : Nat → Prop} {no yes : Option ρ}
    (h : ∀ n i, i < len → (good i ∧ L (n + 1) (i : Int) = L n ((i + 1 : Nat) : Int)) ∨ (¬ good i ∧ L (n + 1) (i : Int) = no))
    (he : ∀ n, L (n + 1) (len : Int) = yes) : ∀ n i, i ≤ len → len - i < n → ((∀ j, i ≤ j → j < len → good j) ∧ L n (i : Int) = yes) ∨ ((¬ ∀ j, i ≤ j → j < len → good j) ∧ L n (i : Int) = no)
  | 0, i, _, hn => by omega
  | n + 1, i, hi, hn => by
    rcases Nat.lt_or_ge i len with hlt | hge
    · rcases h n i hlt with ⟨hg, e⟩ | ⟨hg, e⟩
      · rw [e]
        rcases loop_all h he n (i + 1) (by omega) (by omega) with ⟨h1, h2⟩ | ⟨h1, h2⟩
        · exact .inl ⟨fun j hj hl => by rcases Nat.eq_or_lt_of_le hj with e | e; exact e ▸ hg; exact h1 j e hl, h2⟩
        · exact .inr ⟨fun hall => h1 fun j hj hl => hall j (by omega) hl, h2⟩
      · exact .inr ⟨fun hall => hg (hall i (Nat.le_refl _) hlt), e⟩
    · have : i = len := by omega
      subst this
      exact .inl ⟨fun j hj hl => by omega, he n⟩
theorem loop_all0 {ρ : Type} {L : Nat → Int → Option ρ} {len : Nat} {good : Nat → Prop} {no yes : Option ρ}
    (h : ∀ n i, i < len → (good i ∧ L (n + 1) (i : Int) = L n ((i + 1 : Nat) : Int)) ∨ (¬ good i ∧ L (n + 1) (i : Int) = no))
    (he : ∀ n, L (n + 1) (len : Int) = yes) {n : Nat} (hn : len < n) : ((∀ j, j < len → good j) ∧ L n 0 = yes) ∨ ((¬ ∀ j, j < len → good j) ∧ L n 0 = no) := by
  rcases loop_all h he n 0 (by omega) (by omega) with ⟨h1, h2⟩ | ⟨h1, h2⟩
  · exact .inl ⟨fun j hj => h1 j (by omega) hj, h2⟩
  · exact .inr ⟨fun h => h1 fun j _ hj => h j hj, h2⟩
theorem getI_nat {α : Type} {xs : List α} {i : Nat} (h : i < xs.length) : getI xs (i : Int) = some xs[i] := getI_of h
theorem lt_len {i n : Nat} : decide ((i : Int) < (n : Int)) = decide (i < n) := by
  by_cases h : i < n
  · have : (i : Int) < n := by omega
    simp [h, this]
  · have : ¬ (i : Int) < n := by omega
    simp [h, this]
theorem F71_eq (f : Nat) (x a b : Int) : F71 f x a b = some (decide (a ≤ x ∧ x ≤ b)) := by
  unfold F71 F71_j1
  by_cases h1 : a ≤ x <;> by_cases h2 : x ≤ b <;> simp [h1, h2]
theorem F72_eq (f : Nat) (x a b : Int) : F72 f x a b = some (decide (a ≤ x ∧ x ≤ b)) := by
  unfold F72 F72_j1
  by_cases h1 : a ≤ x <;> by_cases h2 : x ≤ b <;> simp [h1, h2]
structure LotOk (l : Lot) : Prop where
  id0 : 1 ≤ l.id
  id1 : l.id ≤ 9999
  ow0 : 1 ≤ l.owner
  ow1 : l.owner ≤ 9
  gr0 : 1 ≤ l.grade
  gr1 : l.grade ≤ 9
  we0 : 0 ≤ l.wet
  we1 : l.wet ≤ 10000
theorem F17_eq (f : Nat) (l : Lot) : (LotOk l ∧ F17 f l.id l.owner l.grade l.wet = some 0) ∨ (¬ LotOk l ∧ F17 f l.id l.owner l.grade l.wet = some 60) := by
  unfold F17 F17_j1
  simp only [F71_eq, Option.bind_some]
  by_cases h1 : 1 ≤ l.id ∧ l.id ≤ 9999
  · by_cases h2 : 1 ≤ l.owner ∧ l.owner ≤ 9
    · by_cases h3 : 1 ≤ l.grade ∧ l.grade ≤ 9
      · by_cases h4 : 0 ≤ l.wet ∧ l.wet ≤ 10000
        · exact .inl ⟨⟨h1.1, h1.2, h2.1, h2.2, h3.1, h3.2, h4.1, h4.2⟩, by simp [h1, h2, h3, h4]⟩
        · exact .inr ⟨fun k => h4 ⟨k.we0, k.we1⟩, by simp [h1, h2, h3, h4]⟩
      · exact .inr ⟨fun k => h3 ⟨k.gr0, k.gr1⟩, by simp [h1, h2, h3]⟩
    · exact .inr ⟨fun k => h2 ⟨k.ow0, k.ow1⟩, by simp [h1, h2]⟩
  · exact .inr ⟨fun k => h1 ⟨k.id0, k.id1⟩, by simp [h1]⟩
theorem F18_17 (f : Nat) (a b c d : Int) : F18 f a b c d = F17 f a b c d := by
  unfold F18 F17 F18_j1 F17_j1
  simp only [F71_eq, F72_eq]
def LotsOk (l : List Lot) : Prop := l.length ≤ 40 ∧ (∀ x ∈ l, LotOk x) ∧ l.Pairwise fun a b => a.id < b.id
theorem pairs_of {α : Type} {r : α → α → Prop} (tr : ∀ a b c, r a b → r b c → r a c) : ∀ {l : List α}, (∀ j (h : j + 1 < l.length), r l[j] l[j + 1]) → l.Pairwise r
  | [], _ => List.Pairwise.nil
  | [_], _ => List.pairwise_singleton _ _
  | a :: b :: l, h => by
    have ih := pairs_of tr (l := b :: l) fun j hj => h (j + 1) (by simpa using hj)
    refine List.pairwise_cons.2 ⟨fun c hc => ?_, ih⟩
    have h0 : r a b := h 0 (by simp)
    rcases List.mem_cons.1 hc with rfl | hc
    · exact h0
    · exact tr _ _ _ h0 ((List.pairwise_cons.1 ih).1 c hc)
theorem pairs_at {α : Type} {r : α → α → Prop} : ∀ {l : List α}, l.Pairwise r → ∀ {i j : Nat} (hi : i < l.length) (hj : j < l.length), i < j → r l[i] l[j] := by
  intro l hl i j hi hj hij
  exact List.pairwise_iff_getElem.1 hl i j hi hj hij
def adjL (l : List Lot) (j : Nat) : Prop := ∀ h : j < l.length, LotOk l[j] ∧ (0 < j → l[j - 1].id < l[j].id)
theorem lotsOk_iff {l : List Lot} (h : l.length ≤ 40) : (∀ j, j < l.length → adjL l j) ↔ LotsOk l := by
  constructor
  · intro k
    refine ⟨h, fun x hx => ?_, pairs_of (fun a b c h1 h2 => by omega) fun j hj => ?_⟩
    · obtain ⟨j, hj, rfl⟩ := List.getElem_of_mem hx
      exact (k j hj hj).1
    · exact (k (j + 1) hj hj).2 (by omega)
  · rintro ⟨_, h1, h2⟩ j _ hj
    exact ⟨h1 _ (List.getElem_mem _), fun h0 => pairs_at h2 (by omega) hj (by omega)⟩
theorem F19_eq {f : Nat} {l : List Lot} (hf : 40 < f) : (LotsOk l ∧ F19 f l = some 0) ∨ (¬ LotsOk l ∧ F19 f l = some 60) := by
  unfold F19
  by_cases h40 : (l.length : Int) > 40
  · exact .inr ⟨fun k => by have := k.1; omega, by simp [h40]⟩
  · have h41 : l.length ≤ 40 := by omega
    simp only [h40, decide_false, cond_false]
    rw [← lotsOk_iff h41]
    refine loop_all0 (L := F19_l1 f l) (len := l.length) (fun n i hi => ?_) (fun n => ?_) (by omega)
    · simp only [F19_l1, lt_len, hi, decide_true, cond_true, getI_nat hi, Option.bind_some, F19_j1]
      rw [succ_w (by omega)]
      rcases F17_eq f l[i] with ⟨g1, e⟩ | ⟨g1, e⟩
      · rw [e]
        simp only [Option.bind_some]
        by_cases h0 : 0 < i
        · have h0' : (i : Int) > 0 := by omega
          simp only [h0', decide_true, pred_w (i := i) (by omega) h0, getI_nat (show i - 1 < l.length by omega), Option.bind_some]
          by_cases hg : l[i - 1].id ≥ l[i].id
          · exact .inr ⟨fun k => by have := (k hi).2 h0; omega, by simp [hg]⟩
          · exact .inl ⟨fun h => ⟨g1, fun _ => by omega⟩, by simp [hg]⟩
        · have h0' : ¬ (i : Int) > 0 := by omega
          exact .inl ⟨fun h => ⟨g1, fun k => absurd k h0⟩, by simp [h0]⟩
      · exact .inr ⟨fun k => g1 (k hi).1, by rw [e]; simp⟩
    · simp [F19_l1]
theorem F20_19 (f : Nat) (l : List Lot) : F20 f l = F19 f l := by
  unfold F20 F19
  have : ∀ n y, F20_l1 f l n y = F19_l1 f l n y := by
    intro n
    induction n with
    | zero => intro y; rfl
    | succ n ih =>
      intro y
      have ih' : F20_l1 f l n = F19_l1 f l n := funext ih
      simp only [F20_l1, F19_l1, ih', F20_j1, F19_j1, F18_17]
      cases h : getI l y with
      | none => simp
      | some p => simp
  rw [this]
def sumM (h : List Part) : Int := (h.map (·.mass)).sum
def sumH (l : List (List Part)) : Int := (l.map sumM).sum
structure PartOk (p : Part) : Prop where
  l0 : 1 ≤ p.lot
  l1 : p.lot ≤ 9999
  m0 : 1 ≤ p.mass
  m1 : p.mass ≤ 100000000
def HeapOk (h : List Part) : Prop := h.length ≤ 40 ∧ (∀ p ∈ h, PartOk p) ∧ (h.Pairwise fun a b => a.lot < b.lot) ∧ sumM h ≤ 100000000
def adjP (l : List Part) (j : Nat) : Prop := ∀ h : j < l.length, PartOk l[j] ∧ (0 < j → l[j - 1].lot < l[j].lot)
theorem sum_app : ∀ (a b : List Int), (a ++ b).sum = a.sum + b.sum
  | [], b => by simp
  | x :: a, b => by simp only [List.cons_append, List.sum_cons, sum_app a b]; omega
theorem sumM_app (a b : List Part) : sumM (a ++ b) = sumM a + sumM b := by unfold sumM; rw [List.map_append, sum_app]
theorem sumH_app (a b : List (List Part)) : sumH (a ++ b) = sumH a + sumH b := by unfold sumH; rw [List.map_append, sum_app]
theorem sumM_take {l : List Part} {i : Nat} (hi : i < l.length) : sumM (l.take (i + 1)) = sumM (l.take i) + l[i].mass := by
  rw [List.take_succ_eq_append_getElem hi, sumM_app]
  simp [sumM]
theorem sumM_bound : ∀ {l : List Part}, (∀ p ∈ l, PartOk p) → 0 ≤ sumM l ∧ sumM l ≤ 100000000 * l.length
  | [], _ => by simp [sumM]
  | p :: l, h => by
    have ih := sumM_bound (l := l) fun q hq => h q (List.mem_cons_of_mem _ hq)
    have hp := h p (by simp)
    have := hp.m0; have := hp.m1
    simp only [sumM, List.map_cons, List.sum_cons, List.length_cons] at ih ⊢
    omega
theorem heapOk_iff {l : List Part} (h : l.length ≤ 40) : ((∀ j, j < l.length → adjP l j) ∧ sumM l ≤ 100000000) ↔ HeapOk l := by
  constructor
  · rintro ⟨k, hs⟩
    refine ⟨h, fun x hx => ?_, pairs_of (fun a b c h1 h2 => by omega) fun j hj => ?_, hs⟩
    · obtain ⟨j, hj, rfl⟩ := List.getElem_of_mem hx
      exact (k j hj hj).1
    · exact (k (j + 1) hj hj).2 (by omega)
  · rintro ⟨_, h1, h2, h3⟩
    exact ⟨fun j _ hj => ⟨h1 _ (List.getElem_mem _), fun h0 => pairs_at h2 (by omega) hj (by omega)⟩, h3⟩
theorem F73_loop {f : Nat} {l : List Part} (h40 : l.length ≤ 40) : ∀ n i, i ≤ l.length → l.length - i < n → (∀ j, j < i → adjP l j) →
    ((∀ j, j < l.length → adjP l j) ∧ F73_l1 f l n (sumM (l.take i)) (i : Int) = some (decide (sumM l ≤ 100000000))) ∨ ((¬ ∀ j, j < l.length → adjP l j) ∧ F73_l1 f l n (sumM (l.take i)) (i : Int) = some false)
  | 0, i, _, hn, _ => by omega
  | n + 1, i, hi, hn, hd => by
    rcases Nat.lt_or_ge i l.length with hlt | hge
    · have hb : 0 ≤ sumM (l.take i) ∧ sumM (l.take i) ≤ 100000000 * (l.take i).length := sumM_bound fun p hp => by
        obtain ⟨j, hj, rfl⟩ := List.getElem_of_mem hp
        simp only [List.length_take] at hj
        rw [List.getElem_take]
        exact (hd j (by omega) (by omega)).1
      have hb2 : (l.take i).length ≤ 40 := by rw [List.length_take]; omega
      have next : adjP l i → ((∀ j, j < l.length → adjP l j) ∧ F73_l1 f l n (w64 (sumM (l.take i) + l[i].mass)) (w64 ((i : Int) + 1)) = some (decide (sumM l ≤ 100000000))) ∨ ((¬ ∀ j, j < l.length → adjP l j) ∧ F73_l1 f l n (w64 (sumM (l.take i) + l[i].mass)) (w64 ((i : Int) + 1)) = some false) := fun g => by
        have gp := (g hlt).1
        have := gp.m0; have := gp.m1
        rw [succ_w (by omega), w64_id (by omega) (by omega), ← sumM_take hlt]
        exact F73_loop h40 n (i + 1) (by omega) (by omega) fun j hj => by
          rcases Nat.lt_or_ge j i with h | h
          · exact hd j h
          · have : j = i := by omega
            subst this; exact g
      simp only [F73_l1, lt_len, hlt, decide_true, cond_true, getI_nat hlt, Option.bind_some, F73_j1, F71_eq]
      by_cases h1 : 1 ≤ l[i].lot ∧ l[i].lot ≤ 9999
      · by_cases h2 : 1 ≤ l[i].mass ∧ l[i].mass ≤ 100000000
        · by_cases h0 : 0 < i
          · have h0' : (i : Int) > 0 := by omega
            simp only [h1, h2, h0', and_self, decide_true, Bool.not_true, cond_false, cond_true, pred_w (i := i) (by omega) h0, getI_nat (show i - 1 < l.length by omega), Option.bind_some]
            by_cases hg : l[i - 1].lot ≥ l[i].lot
            · exact .inr ⟨fun k => by have := (k i hlt hlt).2 h0; omega, by simp [hg]⟩
            · simp only [hg, decide_false, cond_false]
              exact next fun h => ⟨⟨h1.1, h1.2, h2.1, h2.2⟩, fun _ => by omega⟩
          · have h0' : ¬ (i : Int) > 0 := by omega
            simp only [h1, h2, h0', and_self, decide_true, decide_false, Bool.not_true, cond_false]
            exact next fun h => ⟨⟨h1.1, h1.2, h2.1, h2.2⟩, fun k => absurd k h0⟩
        · exact .inr ⟨fun k => h2 ⟨(k i hlt hlt).1.m0, (k i hlt hlt).1.m1⟩, by simp [h1, h2]⟩
      · exact .inr ⟨fun k => h1 ⟨(k i hlt hlt).1.l0, (k i hlt hlt).1.l1⟩, by simp [h1]⟩
    · have : i = l.length := by omega
      subst this
      refine .inl ⟨fun j hj => hd j hj, ?_⟩
      simp [F73_l1]
theorem F73_eq {f : Nat} {l : List Part} (hf : 40 < f) : (HeapOk l ∧ F73 f l = some true) ∨ (¬ HeapOk l ∧ F73 f l = some false) := by
  unfold F73
  by_cases h40 : (l.length : Int) > 40
  · exact .inr ⟨fun k => by have := k.1; omega, by simp [h40]⟩
  · have h41 : l.length ≤ 40 := by omega
    simp only [h40, decide_false, cond_false]
    rw [← heapOk_iff h41]
    have := F73_loop (f := f) h41 f 0 (by omega) (by omega) (fun j hj => by omega)
    simp only [List.take_zero] at this
    have e0 : sumM [] = 0 := rfl
    rw [e0] at this
    rcases this with ⟨h1, h2⟩ | ⟨h1, h2⟩
    · by_cases hs : sumM l ≤ 100000000
      · exact .inl ⟨⟨h1, hs⟩, by simpa [hs] using h2⟩
      · exact .inr ⟨fun k => hs k.2, by simpa [hs] using h2⟩
    · exact .inr ⟨fun k => h1 k.1, by simpa using h2⟩
theorem F76_73 (f : Nat) (l : List Part) : F76 f l = F73 f l := by
  unfold F76 F73
  have : ∀ n y z, F76_l1 f l n y z = F73_l1 f l n y z := by
    intro n
    induction n with
    | zero => intro y z; rfl
    | succ n ih =>
      intro y z
      have ih' : F76_l1 f l n = F73_l1 f l n := funext fun y => funext fun z => ih y z
      simp only [F76_l1, F73_l1, ih', F76_j1, F73_j1, F71_eq, F72_eq]
  rw [this]
theorem mass_le {l : List Part} (h : HeapOk l) : 0 ≤ sumM l ∧ sumM l ≤ 100000000 := ⟨(sumM_bound h.2.1).1, h.2.2.2⟩
theorem sumM_take_le {l : List Part} (h : ∀ p ∈ l, PartOk p) (i : Nat) : 0 ≤ sumM (l.take i) ∧ sumM (l.take i) ≤ sumM l := by
  have e : l = l.take i ++ l.drop i := (List.take_append_drop i l).symm
  have h1 := sumM_bound (l := l.take i) fun p hp => h p (List.mem_of_mem_take hp)
  have h2 := sumM_bound (l := l.drop i) fun p hp => h p (List.mem_of_mem_drop hp)
  have h3 : sumM l = sumM (l.take i) + sumM (l.drop i) := by rw [← sumM_app, List.take_append_drop]
  omega
theorem F90_loop {l : List Part} (h : HeapOk l) : ∀ n i, i ≤ l.length → l.length - i < n → F90_l1 l n (sumM (l.take i)) (i : Int) = some (sumM l)
  | 0, i, _, hn => by omega
  | n + 1, i, hi, hn => by
    have h40 := h.1
    rcases Nat.lt_or_ge i l.length with hlt | hge
    · have h1 := sumM_take_le h.2.1 (i + 1)
      have h2 := mass_le h
      rw [sumM_take hlt] at h1
      simp only [F90_l1, lt_len, hlt, decide_true, cond_true, getI_nat hlt, Option.bind_some]
      rw [succ_w (by omega), w64_id (by omega) (by omega), ← sumM_take hlt]
      exact F90_loop h n (i + 1) (by omega) (by omega)
    · have : i = l.length := by omega
      subst this
      simp [F90_l1]
theorem F90_eq {f : Nat} {l : List Part} (h : HeapOk l) (hf : 40 < f) : F90 f l = some (sumM l) := by
  have := F90_loop h f 0 (by omega) (by have := h.1; omega)
  simpa [F90, sumM] using this
theorem F92_90 (f : Nat) (l : List Part) : F92 f l = F90 f l := by
  unfold F92 F90
  have : ∀ n y z, F92_l1 l n y z = F90_l1 l n y z := by
    intro n
    induction n with
    | zero => intro y z; rfl
    | succ n ih =>
      intro y z
      have ih' : F92_l1 l n = F90_l1 l n := funext fun y => funext fun z => ih y z
      simp only [F92_l1, F90_l1, ih']
  rw [this]
theorem sumH_take {l : List (List Part)} {i : Nat} (hi : i < l.length) : sumH (l.take (i + 1)) = sumH (l.take i) + sumM l[i] := by
  rw [List.take_succ_eq_append_getElem hi, sumH_app]
  simp [sumH]
theorem sumH_bound : ∀ {l : List (List Part)}, (∀ h ∈ l, HeapOk h) → 0 ≤ sumH l ∧ sumH l ≤ 100000000 * l.length
  | [], _ => by simp [sumH]
  | p :: l, h => by
    have ih := sumH_bound (l := l) fun q hq => h q (List.mem_cons_of_mem _ hq)
    have hp := mass_le (h p (by simp))
    simp only [sumH, List.map_cons, List.sum_cons, List.length_cons] at ih ⊢
    omega
theorem F75_loop {f : Nat} {l : List (List Part)} (hl : l.length ≤ 4) (h : ∀ x ∈ l, HeapOk x) (hf : 40 < f) : ∀ n i, i ≤ l.length → l.length - i < n → F75_l1 f l n (sumH (l.take i)) (i : Int) = some (sumH l)
  | 0, i, _, hn => by omega
  | n + 1, i, hi, hn => by
    rcases Nat.lt_or_ge i l.length with hlt | hge
    · have h1 := sumH_bound (l := l.take (i + 1)) fun x hx => h x (List.mem_of_mem_take hx)
      have h2 : (l.take (i + 1)).length ≤ 4 := by rw [List.length_take]; omega
      rw [sumH_take hlt] at h1
      simp only [F75_l1, lt_len, hlt, decide_true, cond_true, getI_nat hlt, Option.bind_some, F90_eq (h _ (List.getElem_mem _)) hf]
      rw [succ_w (by omega), w64_id (by omega) (by omega), ← sumH_take hlt]
      exact F75_loop hl h hf n (i + 1) (by omega) (by omega)
    · have : i = l.length := by omega
      subst this
      simp [F75_l1]
theorem F75_eq {f : Nat} {l : List (List Part)} (hl : l.length ≤ 4) (h : ∀ x ∈ l, HeapOk x) (hf : 40 < f) : F75 f l = some (sumH l) := by
  have := F75_loop hl h hf f 0 (by omega) (by omega)
  simpa [F75, sumH] using this
theorem F77_75 (f : Nat) (l : List (List Part)) : F77 f l = F75 f l := by
  unfold F77 F75
  have : ∀ n y z, F77_l1 f l n y z = F75_l1 f l n y z := by
    intro n
    induction n with
    | zero => intro y z; rfl
    | succ n ih =>
      intro y z
      have ih' : F77_l1 f l n = F75_l1 f l n := funext fun y => funext fun z => ih y z
      simp only [F77_l1, F75_l1, ih', F92_90]
  rw [this]
end Go.Proofs.Ytlmgjjmighajdaa
set_option linter.unusedSimpArgs false
set_option linter.unusedVariables false
namespace Go.Proofs.Ytlmgjjmighajdaa
open Go.Sl Go.Sx
def Has (l : List Lot) (id : Int) : Prop := ∃ x ∈ l, x.id = id
instance (l : List Lot) (x : Int) : Decidable (Has l x) := inferInstanceAs (Decidable (∃ y ∈ l, y.id = x))
theorem F122_eq (f : Nat) (l : Lot) (x : Int) : F122 f l.id l.owner l.grade l.wet x = some (if l.id < x then -1 else if l.id > x then 1 else 0) := by
  unfold F122 F123 F137
  by_cases h1 : l.id < x <;> by_cases h2 : l.id > x <;> simp [h1, h2]
theorem half_w {a b : Nat} (h : a + b < 4000000000) : w64 (Int.fdiv (IntKind.wrap .u64 (w64 ((a : Int) + (b : Int)))) 2) = (((a + b) / 2 : Nat) : Int) := by
  rw [w64_id (n := (a : Int) + b) (by omega) (by omega)]
  have e1 : IntKind.wrap .u64 ((a : Int) + b) = (a : Int) + b := by
    unfold IntKind.wrap
    simp [IntKind.bits, IntKind.signed]
    omega
  rw [e1]
  have e2 : Int.fdiv ((a : Int) + b) 2 = (((a + b) / 2 : Nat) : Int) := by
    rw [Int.fdiv_eq_ediv_of_nonneg _ (by decide)]
    omega
  rw [e2, w64_id (by omega) (by omega)]
theorem F74_loop {f : Nat} {l : List Lot} (hl : l.length ≤ 40) (hs : l.Pairwise fun a b => a.id < b.id) (x : Int) : ∀ n i j, i ≤ j → j ≤ l.length → j - i < n →
    (∀ k (h : k < l.length), k < i → l[k].id < x) → (∀ k (h : k < l.length), j ≤ k → ¬ l[k].id < x) →
    ∃ p : Nat, p ≤ l.length ∧ (∀ k (h : k < l.length), k < p → l[k].id < x) ∧ (∀ k (h : k < l.length), p ≤ k → ¬ l[k].id < x) ∧
      F74_l1 f l x n (i : Int) (j : Int) = some ((p : Int), decide (∃ h : p < l.length, l[p].id = x))
  | 0, i, j, _, _, hn, _, _ => by omega
  | n + 1, i, j, hij, hj, hn, h1, h2 => by
    rcases Nat.lt_or_ge i j with hlt | hge
    · have hm : (i + j) / 2 < l.length := by omega
      have hm1 : i ≤ (i + j) / 2 := by omega
      have hm2 : (i + j) / 2 < j := by omega
      simp only [F74_l1, lt_len, hlt, decide_true, cond_true, half_w (a := i) (b := j) (by omega), getI_nat hm, Option.bind_some, F122_eq]
      by_cases hx : l[(i + j) / 2].id < x
      · simp only [hx, if_true]
        have e : decide ((-1 : Int) < 0) = true := rfl
        rw [e, cond_true, succ_w (by omega)]
        refine F74_loop hl hs x n ((i + j) / 2 + 1) j (by omega) hj (by omega) (fun k hk hki => ?_) h2
        rcases Nat.lt_or_ge k ((i + j) / 2) with h | h
        · have := pairs_at hs hk hm h; omega
        · have : k = (i + j) / 2 := by omega
          subst this; exact hx
      · have e : decide ((if l[(i + j) / 2].id < x then (-1 : Int) else if l[(i + j) / 2].id > x then 1 else 0) < 0) = false := by
          rw [if_neg hx]; split <;> rfl
        rw [e, cond_false]
        refine F74_loop hl hs x n i ((i + j) / 2) (by omega) (by omega) (by omega) h1 (fun k hk hki => ?_)
        rcases Nat.lt_or_ge ((i + j) / 2) k with h | h
        · have := pairs_at hs hm hk h; omega
        · have : k = (i + j) / 2 := by omega
          subst this; exact hx
    · have : i = j := by omega
      subst this
      refine ⟨i, hj, h1, h2, ?_⟩
      simp only [F74_l1, lt_len, Nat.lt_irrefl, decide_false, cond_false]
      by_cases hi : i < l.length
      · simp only [hi, decide_true, cond_true, getI_nat hi, Option.bind_some, F122_eq, F74_j1]
        have hx := h2 i hi (Nat.le_refl _)
        congr 2
        rw [if_neg hx]
        by_cases hg : l[i].id > x
        · have : ¬ l[i].id = x := by omega
          simp [hg, this]
        · have : l[i].id = x := by omega
          simp [this]
      · simp [hi, F74_j1]
theorem F74_eq {f : Nat} {l : List Lot} (h : LotsOk l) (x : Int) (hf : 40 < f) :
    ∃ p : Nat, F74 f l x = some ((p : Int), decide (Has l x)) ∧ (Has l x → ∃ h : p < l.length, l[p].id = x) := by
  obtain ⟨p, hp, h1, h2, e⟩ := F74_loop (f := f) h.1 h.2.2 x f 0 l.length (by omega) (by omega) (by have := h.1; omega) (fun k _ hk => by omega) (fun k hk hk2 => by omega)
  have key : Has l x ↔ ∃ h : p < l.length, l[p].id = x := by
    constructor
    · rintro ⟨y, hy, rfl⟩
      obtain ⟨j, hj, rfl⟩ := List.getElem_of_mem hy
      rcases Nat.lt_trichotomy j p with hjp | hjp | hjp
      · have := h1 j hj hjp; omega
      · subst hjp; exact ⟨hj, rfl⟩
      · have hpl : p < l.length := by omega
        have := pairs_at h.2.2 hpl hj hjp
        have := h2 p hpl (Nat.le_refl _)
        omega
    · rintro ⟨hp, e⟩
      exact ⟨l[p], List.getElem_mem _, e⟩
  refine ⟨p, ?_, key.1⟩
  unfold F74
  have e0 : (0 : Int) = ((0 : Nat) : Int) := rfl
  rw [e0, e]
  congr 2
  exact decide_eq_decide.2 key.symm
theorem F56_loop {l : List Lot} (hl : l.length ≤ 40) (x : Int) : ∀ n i, i ≤ l.length → l.length - i < n → (∀ k (h : k < l.length), k < i → l[k].id ≠ x) →
    (∃ p : Nat, (∃ h : p < l.length, l[p].id = x ∧ ∀ k (h : k < l.length), k < p → l[k].id ≠ x) ∧ F56_l1 l x n (i : Int) = some (p : Int)) ∨ (¬ Has l x ∧ F56_l1 l x n (i : Int) = some (-1))
  | 0, i, _, hn, _ => by omega
  | n + 1, i, hi, hn, hd => by
    rcases Nat.lt_or_ge i l.length with hlt | hge
    · simp only [F56_l1, lt_len, hlt, decide_true, cond_true, getI_nat hlt, Option.bind_some]
      by_cases hx : l[i].id = x
      · exact .inl ⟨i, ⟨hlt, hx, fun k hk hki => hd k hk hki⟩, by simp [hx]⟩
      · have e : (l[i].id == x) = false := by simpa using hx
        rw [e, cond_false, succ_w (by omega)]
        exact F56_loop hl x n (i + 1) (by omega) (by omega) fun k hk hki => by
          rcases Nat.lt_or_ge k i with h | h
          · exact hd k hk h
          · have : k = i := by omega
            subst this; exact hx
    · have : i = l.length := by omega
      subst this
      refine .inr ⟨fun ⟨y, hy, e⟩ => ?_, by simp [F56_l1]⟩
      obtain ⟨j, hj, rfl⟩ := List.getElem_of_mem hy
      exact hd j hj hj e
theorem F56_eq {f : Nat} {l : List Lot} (hl : l.length ≤ 40) (x : Int) (hf : 40 < f) :
    (∃ p : Nat, (∃ h : p < l.length, l[p].id = x) ∧ Has l x ∧ F56 f l x = some (p : Int)) ∨ (¬ Has l x ∧ F56 f l x = some (-1)) := by
  rcases F56_loop hl x f 0 (by omega) (by omega) (fun k _ hk => by omega) with ⟨p, ⟨hp, e, _⟩, h⟩ | h
  · exact .inl ⟨p, ⟨hp, e⟩, ⟨l[p], List.getElem_mem _, e⟩, by simpa [F56] using h⟩
  · exact .inr ⟨h.1, by simpa [F56] using h.2⟩
theorem place_one {l : List Lot} (h : LotsOk l) {p q : Nat} {x : Int} (hp : ∃ h : p < l.length, l[p].id = x) (hq : ∃ h : q < l.length, l[q].id = x) : p = q := by
  obtain ⟨hp, e1⟩ := hp
  obtain ⟨hq, e2⟩ := hq
  rcases Nat.lt_trichotomy p q with h1 | h1 | h1
  · have := pairs_at h.2.2 hp hq h1; omega
  · exact h1
  · have := pairs_at h.2.2 hq hp h1; omega
structure GoodHeap (lots : List Lot) (h : List Part) : Prop where
  ok : HeapOk h
  ne : h ≠ []
  lots : ∀ p ∈ h, Has lots p.lot
structure GoodHold (lots : List Lot) (l : List (List Part)) : Prop where
  len : l.length ≤ 4
  heaps : ∀ h ∈ l, GoodHeap lots h
  sum : sumH l ≤ 100000000
theorem F21_l3_eq {f : Nat} {k1 : Int → Option Int} {lots : List Lot} (hl : LotsOk lots) (y : Int) {p : List Part} (hp : p.length ≤ 40) (hf : 40 < f) :
    ((∀ q ∈ p, Has lots q.lot) ∧ F21_l3 f k1 lots y p f 0 = k1 (w64 (y + 1))) ∨ ((¬ ∀ q ∈ p, Has lots q.lot) ∧ F21_l3 f k1 lots y p f 0 = some 62) := by
  have key := loop_all0 (L := F21_l3 f k1 lots y p) (len := p.length) (good := fun j => ∀ h : j < p.length, Has lots p[j].lot) (no := some 62) (yes := k1 (w64 (y + 1))) (fun n i hi => by
    obtain ⟨q, e, _⟩ := F74_eq (f := f) hl p[i].lot hf
    simp only [F21_l3, lt_len, hi, decide_true, cond_true, getI_nat hi, Option.bind_some, e]
    by_cases hh : Has lots p[i].lot
    · exact .inl ⟨fun _ => hh, by simp only [hh, decide_true, Bool.not_true, cond_false]; rw [succ_w (by omega)]⟩
    · exact .inr ⟨fun k => hh (k trivial), by simp [hh]⟩) (fun n => by simp [F21_l3]) (n := f) (by omega)
  have iff : (∀ j, j < p.length → ∀ h : j < p.length, Has lots p[j].lot) ↔ ∀ q ∈ p, Has lots q.lot := by
    constructor
    · intro k q hq; obtain ⟨j, hj, rfl⟩ := List.getElem_of_mem hq; exact k j hj hj
    · intro k j hj _; exact k _ (List.getElem_mem _)
  rw [iff] at key
  exact key
theorem F22_l3_eq {f : Nat} {k1 : Int → Option Int} {lots : List Lot} (hl : LotsOk lots) {hold : List (List Part)} {i : Nat} (hi : i < hold.length) (hp : hold[i].length ≤ 40) (hf : 40 < f) :
    ((∀ q ∈ hold[i], Has lots q.lot) ∧ F22_l3 f k1 lots hold (i : Int) f 0 = k1 (w64 ((i : Int) + 1))) ∨ ((¬ ∀ q ∈ hold[i], Has lots q.lot) ∧ F22_l3 f k1 lots hold (i : Int) f 0 = some 62) := by
  have key := loop_all0 (L := F22_l3 f k1 lots hold (i : Int)) (len := hold[i].length) (good := fun j => ∀ h : j < hold[i].length, Has lots hold[i][j].lot) (no := some 62) (yes := k1 (w64 ((i : Int) + 1))) (fun n j hj => by
    simp only [F22_l3, getI_nat hi, Option.bind_some, lt_len, hj, decide_true, cond_true, getI_nat hj]
    rcases F56_eq (f := f) hl.1 hold[i][j].lot hf with ⟨q, _, hh, e⟩ | ⟨hh, e⟩
    · refine .inl ⟨fun _ => hh, ?_⟩
      have h0 : ¬ (q : Int) < 0 := by omega
      simp only [e, Option.bind_some, h0, decide_false, cond_false]; rw [succ_w (by omega)]
    · exact .inr ⟨fun k => hh (k trivial), by simp [e]⟩) (fun n => by simp [F22_l3, getI_nat hi]) (n := f) (by omega)
  have iff : (∀ j, j < hold[i].length → ∀ h : j < hold[i].length, Has lots hold[i][j].lot) ↔ ∀ q ∈ hold[i], Has lots q.lot := by
    constructor
    · intro k q hq; obtain ⟨j, hj, rfl⟩ := List.getElem_of_mem hq; exact k j hj hj
    · intro k j hj _; exact k _ (List.getElem_mem _)
  rw [iff] at key
  exact key
theorem allMem {α : Type} {l : List α} {r : α → Prop} : (∀ j, j < l.length → ∀ h : j < l.length, r l[j]) ↔ ∀ x ∈ l, r x := by
  constructor
  · intro k q hq; obtain ⟨j, hj, rfl⟩ := List.getElem_of_mem hq; exact k j hj hj
  · intro k j hj _; exact k _ (List.getElem_mem _)
theorem F21_l2_eq {f : Nat} {k3 : Int → Option Int} {lots : List Lot} (hl : LotsOk lots) (y : Int) {hold : List (List Part)} (h4 : hold.length ≤ 4) (hf : 40 < f) :
    ((∀ p ∈ hold, GoodHeap lots p) ∧ F21_l2 f k3 lots y hold f 0 = (if sumH hold ≤ 100000000 then k3 (w64 (y + 1)) else some 62)) ∨ ((¬ ∀ p ∈ hold, GoodHeap lots p) ∧ F21_l2 f k3 lots y hold f 0 = some 62) := by
  by_cases hall : ∀ p ∈ hold, GoodHeap lots p
  · left
    refine ⟨hall, ?_⟩
    have key := loop_all0 (L := F21_l2 f k3 lots y hold) (len := hold.length) (good := fun j => True) (no := some 62) (yes := (if sumH hold ≤ 100000000 then k3 (w64 (y + 1)) else some 62)) (fun n i hi => by
      have hg := hall _ (List.getElem_mem hi)
      simp only [F21_l2, lt_len, hi, decide_true, cond_true, getI_nat hi, Option.bind_some]
      rcases F73_eq (f := f) (l := hold[i]) hf with ⟨_, e⟩ | ⟨hn, _⟩
      · rw [e]
        have hne : ¬ hold[i].length = 0 := fun e => hg.ne (List.eq_nil_of_length_eq_zero e)
        have hne' : ((hold[i].length : Int) == 0) = false := by simpa using (show ¬ (hold[i].length : Int) = 0 by omega)
        simp only [Option.bind_some, Bool.not_true, cond_false, F21_j1, hne']
        rcases F21_l3_eq (k1 := F21_l2 f k3 lots y hold n) hl (i : Int) hg.ok.1 hf with ⟨_, e2⟩ | ⟨hn, _⟩
        · exact .inl ⟨trivial, by rw [e2, succ_w (by omega)]⟩
        · exact absurd hg.lots hn
      · exact absurd hg.ok hn) (fun n => by
        have e := F75_eq (f := f) h4 (fun x hx => (hall x hx).ok) hf
        simp only [F21_l2, lt_len, Nat.lt_irrefl, decide_false, cond_false, e, Option.bind_some]
        by_cases hs : sumH hold ≤ 100000000
        · have : ¬ sumH hold > 100000000 := by omega
          simp [hs, this]
        · have : sumH hold > 100000000 := by omega
          simp [hs, this]) (n := f) (by omega)
    rcases key with ⟨_, e⟩ | ⟨hn, _⟩
    · exact e
    · exact absurd (fun _ _ => trivial) hn
  · right
    refine ⟨hall, ?_⟩
    have key := loop_all0 (L := F21_l2 f k3 lots y hold) (len := hold.length) (good := fun j => ∀ h : j < hold.length, GoodHeap lots hold[j]) (no := some 62) (yes := F21_l2 f k3 lots y hold 1 (hold.length : Int)) (fun n i hi => by
      simp only [F21_l2, lt_len, hi, decide_true, cond_true, getI_nat hi, Option.bind_some]
      rcases F73_eq (f := f) (l := hold[i]) hf with ⟨hok, e⟩ | ⟨hn, e⟩
      · rw [e]
        by_cases hne : hold[i] = []
        · exact .inr ⟨fun k => (k trivial).ne hne, by simp [hne, F21_j1]⟩
        · have hne' : ((hold[i].length : Int) == 0) = false := by
            have : ¬ hold[i].length = 0 := fun e => hne (List.eq_nil_of_length_eq_zero e)
            simpa using (show ¬ (hold[i].length : Int) = 0 by omega)
          simp only [Option.bind_some, Bool.not_true, cond_false, F21_j1, hne']
          rcases F21_l3_eq (k1 := F21_l2 f k3 lots y hold n) hl (i : Int) hok.1 hf with ⟨hp, e2⟩ | ⟨hn, e2⟩
          · exact .inl ⟨fun _ => ⟨hok, hne, hp⟩, by rw [e2, succ_w (by omega)]⟩
          · exact .inr ⟨fun k => hn (k trivial).lots, e2⟩
      · exact .inr ⟨fun k => hn (k trivial).ok, by simp [e, F21_j1]⟩) (fun n => by simp [F21_l2]) (n := f) (by omega)
    rw [allMem] at key
    rcases key with ⟨h, _⟩ | ⟨_, e⟩
    · exact absurd h hall
    · exact e
end Go.Proofs.Ytlmgjjmighajdaa
set_option linter.unusedSimpArgs false
set_option linter.unusedVariables false
namespace Go.Proofs.Ytlmgjjmighajdaa
open Go.Sl Go.Sx
theorem F22_l2_eq {f : Nat} {k3 : Int → Option Int} {lots : List Lot} (hl : LotsOk lots) (y : Int) {hold : List (List Part)} (h4 : hold.length ≤ 4) (hf : 40 < f) :
    ((∀ p ∈ hold, GoodHeap lots p) ∧ F22_l2 f k3 lots y hold f 0 = (if sumH hold ≤ 100000000 then k3 (w64 (y + 1)) else some 62)) ∨ ((¬ ∀ p ∈ hold, GoodHeap lots p) ∧ F22_l2 f k3 lots y hold f 0 = some 62) := by
  by_cases hall : ∀ p ∈ hold, GoodHeap lots p
  · left
    refine ⟨hall, ?_⟩
    have key := loop_all0 (L := F22_l2 f k3 lots y hold) (len := hold.length) (good := fun j => True) (no := some 62) (yes := (if sumH hold ≤ 100000000 then k3 (w64 (y + 1)) else some 62)) (fun n i hi => by
      have hg := hall _ (List.getElem_mem hi)
      simp only [F22_l2, lt_len, hi, decide_true, cond_true, getI_nat hi, Option.bind_some, F76_73]
      rcases F73_eq (f := f) (l := hold[i]) hf with ⟨_, e⟩ | ⟨hn, _⟩
      · rw [e]
        have hne : ¬ hold[i].length = 0 := fun e => hg.ne (List.eq_nil_of_length_eq_zero e)
        have hne' : ((hold[i].length : Int) == 0) = false := by simpa using (show ¬ (hold[i].length : Int) = 0 by omega)
        simp only [Option.bind_some, Bool.not_true, cond_false, F22_j1, hne']
        rcases F22_l3_eq (k1 := F22_l2 f k3 lots y hold n) hl hi hg.ok.1 hf with ⟨_, e2⟩ | ⟨hn, _⟩
        · exact .inl ⟨trivial, by rw [e2, succ_w (by omega)]⟩
        · exact absurd hg.lots hn
      · exact absurd hg.ok hn) (fun n => by
        have e := F75_eq (f := f) h4 (fun x hx => (hall x hx).ok) hf
        simp only [F22_l2, lt_len, Nat.lt_irrefl, decide_false, cond_false, F77_75, e, Option.bind_some]
        by_cases hs : sumH hold ≤ 100000000
        · have : ¬ sumH hold > 100000000 := by omega
          simp [hs, this]
        · have : sumH hold > 100000000 := by omega
          simp [hs, this]) (n := f) (by omega)
    rcases key with ⟨_, e⟩ | ⟨hn, _⟩
    · exact e
    · exact absurd (fun _ _ => trivial) hn
  · right
    refine ⟨hall, ?_⟩
    have key := loop_all0 (L := F22_l2 f k3 lots y hold) (len := hold.length) (good := fun j => ∀ h : j < hold.length, GoodHeap lots hold[j]) (no := some 62) (yes := F22_l2 f k3 lots y hold 1 (hold.length : Int)) (fun n i hi => by
      simp only [F22_l2, lt_len, hi, decide_true, cond_true, getI_nat hi, Option.bind_some, F76_73]
      rcases F73_eq (f := f) (l := hold[i]) hf with ⟨hok, e⟩ | ⟨hn, e⟩
      · rw [e]
        by_cases hne : hold[i] = []
        · exact .inr ⟨fun k => (k trivial).ne hne, by simp [hne, F22_j1]⟩
        · have hne' : ((hold[i].length : Int) == 0) = false := by
            have : ¬ hold[i].length = 0 := fun e => hne (List.eq_nil_of_length_eq_zero e)
            simpa using (show ¬ (hold[i].length : Int) = 0 by omega)
          simp only [Option.bind_some, Bool.not_true, cond_false, F22_j1, hne']
          rcases F22_l3_eq (k1 := F22_l2 f k3 lots y hold n) hl hi hok.1 hf with ⟨hp, e2⟩ | ⟨hn, e2⟩
          · exact .inl ⟨fun _ => ⟨hok, hne, hp⟩, by rw [e2, succ_w (by omega)]⟩
          · exact .inr ⟨fun k => hn (k trivial).lots, e2⟩
      · exact .inr ⟨fun k => hn (k trivial).ok, by simp [e, F22_j1]⟩) (fun n => by simp [F22_l2]) (n := f) (by omega)
    rw [allMem] at key
    rcases key with ⟨h, _⟩ | ⟨_, e⟩
    · exact absurd h hall
    · exact e
structure StockOk (lots : List Lot) (holds : List (List (List Part))) : Prop where
  lok : LotsOk lots
  hok : ∀ l ∈ holds, GoodHold lots l
theorem F21_eq {f : Nat} {lots : List Lot} {holds : List (List (List Part))} (h9 : holds.length = 9) (hf : 40 < f) : (StockOk lots holds ∧ F21 f lots holds = some 0) ∨ (¬ StockOk lots holds ∧ F21 f lots holds = some 62) := by
  unfold F21
  rcases F19_eq (l := lots) hf with ⟨hl, e⟩ | ⟨hl, e⟩
  · rw [e]
    have key := loop_all0 (L := F21_l1 f lots holds) (len := 9) (good := fun j => ∀ h : j < holds.length, GoodHold lots holds[j]) (no := some 62) (yes := some 0) (fun n i hi => by
      have hi' : i < holds.length := by omega
      have hlt : decide ((i : Int) < 9) = true := by simpa using (show (i : Int) < 9 by omega)
      simp only [F21_l1, hlt, cond_true, getI_nat hi', Option.bind_some]
      by_cases h4 : holds[i].length ≤ 4
      · have h4' : decide ((holds[i].length : Int) > 4) = false := by simpa using (show (holds[i].length : Int) ≤ 4 by omega)
        rw [h4', cond_false]
        rcases F21_l2_eq (k3 := F21_l1 f lots holds n) hl (i : Int) h4 hf with ⟨hg, e⟩ | ⟨hg, e⟩
        · by_cases hs : sumH holds[i] ≤ 100000000
          · exact .inl ⟨fun _ => ⟨h4, hg, hs⟩, by rw [e, if_pos hs, succ_w (by omega)]⟩
          · exact .inr ⟨fun k => hs (k hi').sum, by rw [e, if_neg hs]⟩
        · exact .inr ⟨fun k => hg (k hi').heaps, e⟩
      · have h4' : decide ((holds[i].length : Int) > 4) = true := by simpa using (show (holds[i].length : Int) > 4 by omega)
        exact .inr ⟨fun k => h4 (k hi').len, by rw [h4', cond_true]⟩) (fun n => by simp [F21_l1]) (n := f) (by omega)
    rw [← h9, allMem] at key
    rcases key with ⟨h, e⟩ | ⟨h, e⟩
    · exact .inl ⟨⟨hl, h⟩, by simpa using e⟩
    · exact .inr ⟨fun k => h k.hok, by simpa using e⟩
  · exact .inr ⟨fun k => hl k.lok, by rw [e]; simp⟩
theorem F22_eq {f : Nat} {lots : List Lot} {holds : List (List (List Part))} (h9 : holds.length = 9) (hf : 40 < f) : (StockOk lots holds ∧ F22 f lots holds = some 0) ∨ (¬ StockOk lots holds ∧ F22 f lots holds = some 62) := by
  unfold F22
  rcases F19_eq (l := lots) hf with ⟨hl, e⟩ | ⟨hl, e⟩
  · rw [F20_19, e]
    have key := loop_all0 (L := F22_l1 f lots holds) (len := 9) (good := fun j => ∀ h : j < holds.length, GoodHold lots holds[j]) (no := some 62) (yes := some 0) (fun n i hi => by
      have hi' : i < holds.length := by omega
      have hlt : decide ((i : Int) < 9) = true := by simpa using (show (i : Int) < 9 by omega)
      simp only [F22_l1, hlt, cond_true, getI_nat hi', Option.bind_some]
      by_cases h4 : holds[i].length ≤ 4
      · have h4' : decide ((holds[i].length : Int) > 4) = false := by simpa using (show (holds[i].length : Int) ≤ 4 by omega)
        rw [h4', cond_false]
        rcases F22_l2_eq (k3 := F22_l1 f lots holds n) hl (i : Int) h4 hf with ⟨hg, e⟩ | ⟨hg, e⟩
        · by_cases hs : sumH holds[i] ≤ 100000000
          · exact .inl ⟨fun _ => ⟨h4, hg, hs⟩, by rw [e, if_pos hs, succ_w (by omega)]⟩
          · exact .inr ⟨fun k => hs (k hi').sum, by rw [e, if_neg hs]⟩
        · exact .inr ⟨fun k => hg (k hi').heaps, e⟩
      · have h4' : decide ((holds[i].length : Int) > 4) = true := by simpa using (show (holds[i].length : Int) > 4 by omega)
        exact .inr ⟨fun k => h4 (k hi').len, by rw [h4', cond_true]⟩) (fun n => by simp [F22_l1]) (n := f) (by omega)
    rw [← h9, allMem] at key
    rcases key with ⟨h, e⟩ | ⟨h, e⟩
    · exact .inl ⟨⟨hl, h⟩, by simpa using e⟩
    · exact .inr ⟨fun k => h k.hok, by simpa using e⟩
  · exact .inr ⟨fun k => hl k.lok, by rw [F20_19, e]; simp⟩
def deeds : List (Int × DRow) := putK (putK (putK (putK (putK (putK ([]) 1 (⟨true, false, true, true, (some 138)⟩ : DRow)) 2 (⟨true, false, true, true, (some 139)⟩ : DRow)) 3 (⟨false, true, false, true, (some 140)⟩ : DRow)) 4 (⟨false, true, true, true, (some 141)⟩ : DRow)) 5 (⟨false, true, false, true, (some 142)⟩ : DRow)) 6 (⟨false, true, false, false, (some 143)⟩ : DRow)
theorem F125_eq (f : Nat) : F125 f = some deeds := rfl
theorem deeds_at (k : Int) : (k = 1 ∧ getK deeds k = some ⟨true, false, true, true, some 138⟩) ∨ (k = 2 ∧ getK deeds k = some ⟨true, false, true, true, some 139⟩) ∨ (k = 3 ∧ getK deeds k = some ⟨false, true, false, true, some 140⟩) ∨
    (k = 4 ∧ getK deeds k = some ⟨false, true, true, true, some 141⟩) ∨ (k = 5 ∧ getK deeds k = some ⟨false, true, false, true, some 142⟩) ∨ (k = 6 ∧ getK deeds k = some ⟨false, true, false, false, some 143⟩) ∨ ((k < 1 ∨ 6 < k) ∧ getK deeds k = none) := by
  by_cases h1 : k = 1
  · subst h1; exact .inl ⟨rfl, rfl⟩
  by_cases h2 : k = 2
  · subst h2; exact .inr (.inl ⟨rfl, rfl⟩)
  by_cases h3 : k = 3
  · subst h3; exact .inr (.inr (.inl ⟨rfl, rfl⟩))
  by_cases h4 : k = 4
  · subst h4; exact .inr (.inr (.inr (.inl ⟨rfl, rfl⟩)))
  by_cases h5 : k = 5
  · subst h5; exact .inr (.inr (.inr (.inr (.inl ⟨rfl, rfl⟩))))
  by_cases h6 : k = 6
  · subst h6; exact .inr (.inr (.inr (.inr (.inr (.inl ⟨rfl, rfl⟩)))))
  refine .inr (.inr (.inr (.inr (.inr (.inr ⟨by omega, ?_⟩)))))
  have g : ∀ j : Int, k ≠ j → ((j == k) = false) := fun j h => by simpa using fun e => h e.symm
  show getK [(1, _), (2, _), (3, _), (4, _), (5, _), (6, _)] k = none
  simp [getK, g 1 h1, g 2 h2, g 3 h3, g 4 h4, g 5 h5, g 6 h6]
theorem F130_eq (f : Nat) (x : Int) : F130 f x = some (decide (0 ≤ x ∧ x ≤ 8)) := by unfold F130; simp only [F71_eq, Option.bind_some]
theorem F118_eq (f : Nat) (x : Int) : F118 f x = some (decide (0 ≤ x ∧ x ≤ 8)) := by unfold F118; simp only [F72_eq, Option.bind_some]
end Go.Proofs.Ytlmgjjmighajdaa
set_option linter.unusedSimpArgs false
set_option linter.unusedVariables false
namespace Go.Proofs.Ytlmgjjmighajdaa
open Go.Sl Go.Sx
theorem F56_has {f : Nat} {l : List Lot} (hl : l.length ≤ 40) (x : Int) (hf : 40 < f) : ∃ r, F56 f l x = some r ∧ (decide (r ≥ 0) = decide (Has l x)) ∧ (decide (r < 0) = !decide (Has l x)) := by
  rcases F56_eq (f := f) hl x hf with ⟨p, _, hh, e⟩ | ⟨hh, e⟩
  · exact ⟨p, e, by have : (p : Int) ≥ 0 := by omega
                    simp [this, hh], by have : ¬ (p : Int) < 0 := by omega
                                        simp [this, hh]⟩
  · exact ⟨-1, e, by simp [hh], by simp [hh]⟩
theorem bq (a b : Int) : (a == b) = decide (a = b) := by by_cases h : a = b <;> simp [h]
theorem bn (a b : Int) : (a != b) = !decide (a = b) := by by_cases h : a = b <;> simp [h]
theorem named_eq {f : Nat} {lots : List Lot} {holds : List (List (List Part))} (hl : LotsOk lots) (hf : 40 < f) (k l fr to m : Int) : F124 f lots holds k l fr to m = F79 f lots holds k l fr to m := by
  obtain ⟨p, e74, _⟩ := F74_eq (f := f) hl l hf
  obtain ⟨q, e56, eq0, eq1⟩ := F56_has (f := f) hl.1 l hf
  unfold F124
  rw [F125_eq]
  simp only [Option.bind_some]
  rcases deeds_at k with ⟨rfl, e⟩ | ⟨rfl, e⟩ | ⟨rfl, e⟩ | ⟨rfl, e⟩ | ⟨rfl, e⟩ | ⟨rfl, e⟩ | ⟨hk, e⟩
  all_goals
    simp only [hasK, lkK, e, Option.isSome_some, Option.getD_some, Option.isSome_none, Option.getD_none, zrow, F124_j1, F124_j2, F124_j3, F79, F79_j1, F79_j2, F79_j3, F79_j4, F79_j5, F79_j6, F79_j7, F71_eq, F72_eq, F130_eq, F118_eq, Option.bind_some, Bool.not_true, Bool.not_false, cond_true, cond_false, e74, e56, eq0, bq, bn]
  case inr.inr.inr.inr.inr.inr =>
    rcases hk with hk | hk
    · have h1 : decide (k < 1) = true := by simpa using hk
      simp [h1]
    · have h1 : decide (k < 1) = false := by simpa using (show 1 ≤ k by omega)
      have h2 : decide (k > 6) = true := by simpa using hk
      simp [h1, h2]
  all_goals
    by_cases a1 : l = 0 <;> by_cases a2 : fr = 0 <;> by_cases a3 : to = 0 <;> by_cases a4 : m = 0 <;> by_cases b1 : 0 ≤ fr ∧ fr ≤ 8 <;> by_cases b2 : 0 ≤ to ∧ to ≤ 8 <;> by_cases b3 : 1 ≤ m ∧ m ≤ 100000000 <;> by_cases b4 : fr = to <;>
    first
    | (exfalso; omega)
    | (simp [a1, a2, a3, a4, b1, b2, b3, b4]; done)
    | (simp [a1, a2, a3, a4, b1, b2, b3, b4]; cases decide (0 = to) <;> rfl)
theorem named_true {f : Nat} {lots : List Lot} (hl : LotsOk lots) (hf : 40 < f) {holds : List (List (List Part))} {k l fr to m : Int} (h : F79 f lots holds k l fr to m = some true) : (1 ≤ k ∧ k ≤ 6) ∧ (0 ≤ fr ∧ fr ≤ 8) ∧ (0 ≤ to ∧ to ≤ 8) ∧ (k ≠ 6 → 1 ≤ m ∧ m ≤ 100000000) ∧ (k = 6 → m = 0) := by
  obtain ⟨q, e56, eq0, eq1⟩ := F56_has (f := f) hl.1 l hf
  simp only [F79, F79_j1, F79_j2, F79_j3, F79_j4, F79_j5, F79_j6, F79_j7, F72_eq, F118_eq, Option.bind_some, e56, eq0, bq, bn] at h
  by_cases k1 : k < 1
  · simp [k1] at h
  by_cases k6 : k > 6
  · simp [k1, k6] at h
  refine ⟨by omega, ?_⟩
  by_cases h6 : k = 6
  · subst h6
    by_cases a1 : l = 0 <;> by_cases a3 : to = 0 <;> by_cases a4 : m = 0 <;> by_cases b1 : 0 ≤ fr ∧ fr ≤ 8 <;> simp [a1, a3, a4, b1] at h ⊢
  · by_cases b3 : 1 ≤ m ∧ m ≤ 100000000 <;> by_cases b1 : 0 ≤ fr ∧ fr ≤ 8 <;> by_cases b2 : 0 ≤ to ∧ to ≤ 8
    · exact ⟨b1, b2, fun _ => b3, fun h => absurd h h6⟩
    all_goals simp [k1, k6, h6, b1, b2, b3] at h
theorem named_some {f : Nat} {lots : List Lot} (hl : LotsOk lots) (hf : 40 < f) (holds : List (List (List Part))) (k l fr to m : Int) : ∃ b, F79 f lots holds k l fr to m = some b := by
  obtain ⟨q, e56, eq0, eq1⟩ := F56_has (f := f) hl.1 l hf
  simp only [F79, F79_j1, F79_j2, F79_j3, F79_j4, F79_j5, F79_j6, F79_j7, F72_eq, F118_eq, Option.bind_some, e56, eq0, bq, bn]
  have hc : ∀ (c : Bool) (x y : Option Bool), (∃ b, x = some b) → (∃ b, y = some b) → ∃ b, cond c x y = some b := fun c x y hx hy => by cases c; exact hy; exact hx
  repeat' (first | exact ⟨_, rfl⟩ | apply hc)
theorem check_eq {f : Nat} {lots : List Lot} {holds : List (List (List Part))} (hs : StockOk lots holds) (h9 : holds.length = 9) (hf : 40 < f) (k l fr to m : Int) :
    ∃ r, F78 f lots holds k l fr to m = some r ∧ (F22 f lots holds = some 0 → F24 f lots holds k l fr to m = some r) := by
  obtain ⟨b, eb⟩ := named_some (f := f) hs.lok hf holds k l fr to m
  unfold F78
  rw [named_eq hs.lok hf, eb, F125_eq]
  simp only [Option.bind_some]
  cases b with
  | false => exact ⟨61, by simp, fun h => by unfold F24; rw [h, eb]; simp⟩
  | true =>
    obtain ⟨hk, hfr, hto, hm, hm6⟩ := named_true hs.lok hf eb
    have hfr' : fr.toNat < holds.length := by omega
    have hto' : to.toNat < holds.length := by omega
    have efr : getI holds fr = some holds[fr.toNat] := by have := getI_nat hfr'; rwa [Int.toNat_of_nonneg hfr.1] at this
    have eto : getI holds to = some holds[to.toNat] := by have := getI_nat hto'; rwa [Int.toNat_of_nonneg hto.1] at this
    have gfr := hs.hok _ (List.getElem_mem hfr')
    have gto := hs.hok _ (List.getElem_mem hto')
    have sfr := F75_eq (f := f) gfr.len (fun x hx => (gfr.heaps x hx).ok) hf
    have sto := F75_eq (f := f) gto.len (fun x hx => (gto.heaps x hx).ok) hf
    have hs0 := (sumH_bound fun x hx => (gfr.heaps x hx).ok).1
    have hm7 : k = 6 → decide (m > sumH holds[fr.toNat]) = false := fun e => by rw [hm6 e]; simpa using hs0
    have hc : ∀ (c : Bool) (x y z u : Option Int), (∃ r, x = some r ∧ z = some r) → (∃ r, y = some r ∧ u = some r) → ∃ r, cond c x y = some r ∧ cond c z u = some r := fun c x y z u hx hy => by cases c; exact hy; exact hx
    suffices ∃ r, (F78_j1 f holds k fr to m (lkK deeds k zrow).lot (lkK deeds k zrow).frm (lkK deeds k zrow).to (lkK deeds k zrow).mass (lkK deeds k zrow).fn = some r) ∧
        (cond (k == 3) (F24_j1 f holds k fr to m true) (cond (k == 4) (F24_j1 f holds k fr to m true) (F24_j1 f holds k fr to m (k == 5))) = some r) by
      obtain ⟨r, h1, h2⟩ := this
      refine ⟨r, by simpa using h1, fun h => ?_⟩
      unfold F24
      rw [h, eb]
      simpa using h2
    rcases deeds_at k with ⟨rfl, e⟩ | ⟨rfl, e⟩ | ⟨rfl, e⟩ | ⟨rfl, e⟩ | ⟨rfl, e⟩ | ⟨rfl, e⟩ | ⟨hk, e⟩
    case inr.inr.inr.inr.inr.inr => omega
    all_goals
      simp only [lkK, e, Option.getD_some, F78_j1, F78_j2, F78_j3, F78_j4, F24_j1, F24_j2, F24_j3, F24_j4, F24_j5, efr, eto, F77_75, sfr, sto, Option.bind_some, cond_true, cond_false, bq, decide_true, Int.reduceEq, decide_false]
      try simp only [hm7 rfl, cond_false]
      repeat' (first | exact ⟨_, rfl, rfl⟩ | apply hc)
end Go.Proofs.Ytlmgjjmighajdaa
set_option linter.unusedSimpArgs false
set_option linter.unusedVariables false
namespace Go.Proofs.Ytlmgjjmighajdaa
open Go.Sl Go.Sx
section
variable {α : Type} (lt : α → α → Bool)
def insRev (x : α) : List α → List α
  | [] => [x]
  | y :: r => bif lt x y then y :: insRev x r else x :: y :: r
def sortRev (l : List α) : List α := l.foldl (fun r x => insRev lt x r) []
theorem insRev_perm (x : α) : ∀ r : List α, (insRev lt x r).Perm (x :: r)
  | [] => List.Perm.refl _
  | y :: r => by
    unfold insRev
    cases lt x y with
    | true => exact ((insRev_perm x r).cons y).trans (List.Perm.swap x y r)
    | false => exact List.Perm.refl _
theorem sortRev_perm_aux : ∀ (l r : List α), (l.foldl (fun r x => insRev lt x r) r).Perm (l ++ r)
  | [], r => List.Perm.refl _
  | x :: l, r => by
    refine (sortRev_perm_aux l (insRev lt x r)).trans ?_
    refine ((insRev_perm lt x r).append_left l).trans ?_
    exact List.perm_middle
theorem sortRev_perm (l : List α) : (sortRev lt l).Perm l := by
  have := sortRev_perm_aux lt l []
  rwa [List.append_nil] at this
end
theorem insRev_sorted {α : Type} {lt : α → α → Bool} {bf : α → α → Prop} (tr : ∀ a b c, bf a b → bf b c → bf a c) {x : α} : ∀ {r : List α}, r.Pairwise (fun a b => bf b a) → (∀ y ∈ r, lt x y = true → bf x y) → (∀ y ∈ r, lt x y = false → bf y x) →
    (insRev lt x r).Pairwise (fun a b => bf b a)
  | [], _, _, _ => List.pairwise_singleton _ _
  | y :: r, hp, h1, h2 => by
    have hp' := List.pairwise_cons.1 hp
    unfold insRev
    cases e : lt x y with
    | true =>
      simp only [cond_true]
      refine List.pairwise_cons.2 ⟨fun z hz => ?_, insRev_sorted tr hp'.2 (fun z hz => h1 z (List.mem_cons_of_mem _ hz)) (fun z hz => h2 z (List.mem_cons_of_mem _ hz))⟩
      rcases List.mem_cons.1 ((insRev_perm lt x r).mem_iff.1 hz) with rfl | hz
      · exact h1 y (by simp) e
      · exact hp'.1 z hz
    | false =>
      simp only [cond_false]
      refine List.pairwise_cons.2 ⟨fun z hz => ?_, hp⟩
      have hy := h2 y (by simp) e
      rcases List.mem_cons.1 hz with rfl | hz
      · exact hy
      · exact tr _ _ _ (hp'.1 z hz) hy
theorem take_iff {α : Type} [DecidableEq α] {bf : α → α → Prop} [DecidableRel bf] (irr : ∀ a, ¬ bf a a) (asy : ∀ a b, bf a b → ¬ bf b a) : ∀ {l : List α} {k : Nat} {x : α}, l.Pairwise bf → x ∈ l → (x ∈ l.take k ↔ l.countP (fun y => decide (bf y x)) < k)
  | [], k, x, _, hx => by cases hx
  | y :: l, 0, x, _, _ => by simp
  | y :: l, k + 1, x, hp, hx => by
    have hp' := List.pairwise_cons.1 hp
    by_cases e : x = y
    · subst e
      have hz : (x :: l).countP (fun z => decide (bf z x)) = 0 := by
        rw [List.countP_eq_zero]
        intro z hz
        simp only [decide_eq_true_eq]
        rcases List.mem_cons.1 hz with rfl | hz
        · exact irr _
        · exact asy _ _ (hp'.1 z hz)
      rw [hz]
      simp
    · have hxl : x ∈ l := by rcases List.mem_cons.1 hx with h | h; exact absurd h e; exact h
      have hb : bf y x := hp'.1 x hxl
      have ih := take_iff irr asy (k := k) hp'.2 hxl
      rw [List.take_succ_cons, List.mem_cons, List.countP_cons_of_pos (by simpa using hb)]
      constructor
      · rintro (h | h)
        · exact absurd h e
        · have := ih.1 h; omega
      · intro h
        exact .inr (ih.2 (by omega))
def rem_ (m s : Int) (a : List Int) (i : Int) : Int := (m * a.getD i.toNat 0) % s
def ahead (m s : Int) (a : List Int) (i j : Int) : Prop := rem_ m s a i > rem_ m s a j ∨ (rem_ m s a i = rem_ m s a j ∧ i < j)
instance (m s : Int) (a : List Int) : DecidableRel (ahead m s a) := fun i j => inferInstanceAs (Decidable (_ ∨ _))
theorem ahead_irr (m s : Int) (a : List Int) (i : Int) : ¬ ahead m s a i i := by unfold ahead; omega
theorem ahead_asy (m s : Int) (a : List Int) (i j : Int) (h : ahead m s a i j) : ¬ ahead m s a j i := by unfold ahead at *; omega
theorem ahead_tr (m s : Int) (a : List Int) (i j k : Int) (h : ahead m s a i j) (h' : ahead m s a j k) : ahead m s a i k := by unfold ahead at *; omega
def less (m s : Int) (a : List Int) (i j : Int) : Bool := decide (rem_ m s a i > rem_ m s a j)
def places (n : Nat) : List Int := (List.range n).map fun i : Nat => (i : Int)
def orderS (m s : Int) (a : List Int) : List Int := (sortRev (less m s a) (places a.length)).reverse
theorem sortRev_aux (m s : Int) (a : List Int) : ∀ (l r : List Int), (∀ y ∈ r, ∀ x ∈ l, y < x) → l.Pairwise (· < ·) → r.Pairwise (fun x y => ahead m s a y x) →
    (l.foldl (fun r x => insRev (less m s a) x r) r).Pairwise (fun x y => ahead m s a y x)
  | [], r, _, _, h => h
  | x :: l, r, h1, h2, h3 => by
    have h2' := List.pairwise_cons.1 h2
    refine sortRev_aux m s a l _ (fun y hy z hz => ?_) h2'.2 (insRev_sorted (ahead_tr m s a) h3 (fun y hy e => ?_) (fun y hy e => ?_))
    · rcases List.mem_cons.1 ((insRev_perm _ x r).mem_iff.1 hy) with rfl | hy
      · exact h2'.1 z hz
      · exact h1 y hy z (List.mem_cons_of_mem _ hz)
    · have := of_decide_eq_true e
      exact .inl this
    · have e' := of_decide_eq_false e
      have := h1 y hy x (by simp)
      unfold ahead
      omega
theorem places_rising (n : Nat) : (places n).Pairwise (· < ·) := by
  unfold places
  rw [List.pairwise_map]
  exact List.pairwise_lt_range.imp fun h => by omega
theorem mem_places {n : Nat} {x : Int} : x ∈ places n ↔ 0 ≤ x ∧ x < n := by
  unfold places
  simp only [List.mem_map, List.mem_range]
  constructor
  · rintro ⟨i, hi, rfl⟩; omega
  · rintro ⟨h1, h2⟩; exact ⟨x.toNat, by omega, by omega⟩
theorem orderS_sorted (m s : Int) (a : List Int) : (orderS m s a).Pairwise (ahead m s a) := by
  unfold orderS
  rw [List.pairwise_reverse]
  exact sortRev_aux m s a _ [] (fun y hy => by cases hy) (places_rising _) List.Pairwise.nil
theorem orderS_perm (m s : Int) (a : List Int) : (orderS m s a).Perm (places a.length) := (List.reverse_perm _).trans (sortRev_perm _ _)
def rank (m s : Int) (a : List Int) (i : Int) : Nat := (places a.length).countP fun j => decide (ahead m s a j i)
theorem first_iff (m s : Int) (a : List Int) {i : Int} (hi : i ∈ places a.length) (k : Nat) : i ∈ (orderS m s a).take k ↔ rank m s a i < k := by
  have hp := orderS_perm m s a
  rw [take_iff (ahead_irr m s a) (ahead_asy m s a) (orderS_sorted m s a) (hp.mem_iff.2 hi), hp.countP_eq]
  rfl
end Go.Proofs.Ytlmgjjmighajdaa
set_option linter.unusedSimpArgs false
set_option linter.unusedVariables false
namespace Go.Proofs.Ytlmgjjmighajdaa
open Go.Sl Go.Sx
theorem sum_nonneg : ∀ {a : List Int}, (∀ x ∈ a, 0 ≤ x) → 0 ≤ a.sum
  | [], _ => by simp
  | x :: a, h => by have := sum_nonneg (a := a) fun y hy => h y (List.mem_cons_of_mem _ hy); have := h x (by simp); simp only [List.sum_cons]; omega
theorem le_sum : ∀ {a : List Int}, (∀ x ∈ a, 0 ≤ x) → ∀ x ∈ a, x ≤ a.sum
  | [], _, x, hx => by cases hx
  | y :: a, h, x, hx => by
    have h0 := h y (by simp)
    have h1 := sum_nonneg (a := a) fun z hz => h z (List.mem_cons_of_mem _ hz)
    simp only [List.sum_cons]
    rcases List.mem_cons.1 hx with rfl | hx
    · omega
    · have := le_sum (a := a) (fun z hz => h z (List.mem_cons_of_mem _ hz)) x hx; omega
structure DealOk (m : Int) (a : List Int) : Prop where
  nn : ∀ x ∈ a, 0 ≤ x
  s0 : 0 < a.sum
  s1 : a.sum ≤ 100000000
  m0 : 0 ≤ m
  m1 : m ≤ 100000000
  len : a.length < 20
def baseS (m : Int) (a : List Int) (i : Nat) : Int := m * a.getD i 0 / a.sum
def baseL (m : Int) (a : List Int) : List Int := a.map fun x => m * x / a.sum
def leftS (m : Int) (a : List Int) : Int := m - (baseL m a).sum
def dealS (m : Int) (a : List Int) : List Int := (List.range a.length).map fun i => baseS m a i + (if rank m a.sum a (i : Int) < (leftS m a).toNat then 1 else 0)
theorem div_sum (m s : Int) (hs : s ≠ 0) : ∀ b : List Int, s * (b.map fun x => m * x / s).sum + (b.map fun x => m * x % s).sum = m * b.sum
  | [] => by simp
  | x :: b => by
    have ih := div_sum m s hs b
    have e := Int.mul_ediv_add_emod (m * x) s
    simp only [List.map_cons, List.sum_cons]
    grind
theorem rem_sum {m s : Int} (hs : 0 < s) : ∀ b : List Int, 0 ≤ (b.map fun x => m * x % s).sum ∧ (b.map fun x => m * x % s).sum ≤ (s - 1) * b.length
  | [] => by simp
  | x :: b => by
    have ih := rem_sum (m := m) hs b
    have h1 := Int.emod_nonneg (m * x) (show s ≠ 0 by omega)
    have h2 := Int.emod_lt_of_pos (m * x) hs
    simp only [List.map_cons, List.sum_cons, List.length_cons]
    have e : (s - 1) * ((b.length + 1 : Nat) : Int) = (s - 1) * b.length + (s - 1) := by push_cast; grind
    omega
theorem left_bounds {m : Int} {a : List Int} (h : DealOk m a) : 0 ≤ leftS m a ∧ leftS m a ≤ a.length ∧ a.sum * leftS m a = (a.map fun x => m * x % a.sum).sum := by
  have h1 := div_sum m a.sum (by have := h.s0; omega) a
  have h2 := rem_sum (m := m) h.s0 a
  have e : a.sum * leftS m a = (a.map fun x => m * x % a.sum).sum := by unfold leftS baseL; grind
  have hs := h.s0
  refine ⟨?_, ?_, e⟩
  · rcases Int.lt_or_le (leftS m a) 0 with hl | hl
    · have : a.sum * leftS m a < 0 := Int.mul_neg_of_pos_of_neg hs hl
      omega
    · exact hl
  · rcases Int.lt_or_le (a.length : Int) (leftS m a) with hl | hl
    · have h3 : a.sum * a.length < a.sum * leftS m a := Int.mul_lt_mul_of_pos_left hl hs
      have h4 : (a.sum - 1) * a.length ≤ a.sum * a.length := Int.mul_le_mul_of_nonneg_right (by omega) (by omega)
      omega
    · exact hl
theorem getD_mem {a : List Int} {i : Nat} (h : i < a.length) : a.getD i 0 = a[i] := by simp [h]
theorem base_bounds {m : Int} {a : List Int} (h : DealOk m a) {i : Nat} (hi : i < a.length) : 0 ≤ baseS m a i ∧ baseS m a i ≤ m := by
  have h0 := h.nn _ (List.getElem_mem hi)
  have h1 := le_sum h.nn _ (List.getElem_mem hi)
  unfold baseS
  rw [getD_mem hi]
  have hm := h.m0
  have hs := h.s0
  refine ⟨Int.ediv_nonneg (Int.mul_nonneg hm h0) (by omega), ?_⟩
  refine Int.ediv_le_of_le_mul hs ?_
  exact Int.mul_le_mul_of_nonneg_left h1 hm
theorem prod_bounds {m : Int} {a : List Int} (h : DealOk m a) {i : Nat} (hi : i < a.length) : 0 ≤ m * a[i] ∧ m * a[i] ≤ 10000000000000000 := by
  have h0 := h.nn _ (List.getElem_mem hi)
  have h1 := le_sum h.nn _ (List.getElem_mem hi)
  have := h.s1; have := h.m0; have := h.m1
  refine ⟨Int.mul_nonneg h.m0 h0, ?_⟩
  have : m * a[i] ≤ 100000000 * 100000000 := Int.mul_le_mul (by omega) (by omega) h0 (by omega)
  omega
theorem F123_eq (f : Nat) (x y : Int) : F123 f x y = some (if x < y then -1 else if x > y then 1 else 0) := by
  unfold F123 F137
  by_cases h1 : x < y <;> by_cases h2 : x > y <;> simp [h1, h2]
theorem nzS {n : Int} (h : n ≠ 0) : nz n = some () := by unfold nz; rw [if_pos h]
theorem tmod_eq {m : Int} {a : List Int} (h : DealOk m a) {i : Nat} (hi : i < a.length) : Int.tmod (w64 (m * a[i])) a.sum = rem_ m a.sum a (i : Int) := by
  have hp := prod_bounds h hi
  rw [w64_id (by omega) (by omega), Int.tmod_eq_emod_of_nonneg hp.1]
  unfold rem_
  have e : ((i : Int)).toNat = i := by omega
  rw [e, getD_mem hi]
theorem setI_mid {pre post : List Int} {x y : Int} {j : Int} (hj : j = pre.length) : setI (pre ++ x :: post) j y = some (pre ++ y :: post) := by
  subst hj
  unfold setI
  have h1 : (0 : Int) ≤ pre.length ∧ (pre.length : Int) < (pre ++ x :: post).length := by simp; omega
  rw [if_pos h1]
  simp
theorem getI_mid {pre post : List Int} {x : Int} {j : Int} (hj : j = pre.length) : getI (pre ++ x :: post) j = some x := by
  subst hj
  unfold getI
  rw [if_pos (by omega)]
  simp
def Good (n : Nat) (l : List Int) : Prop := ∀ x ∈ l, 0 ≤ x ∧ x < n
theorem F127_l7_eq {f : Nat} {k4 : List Int → Int → Option (List Int)} {m : Int} {a : List Int} (h : DealOk m a) (i : Int) (x : Int) : ∀ n (r tl : List Int), Good a.length (x :: r) → r.length < n → r.length < 100 →
    F127_l7 f k4 m a a.sum 0 i n (r.reverse ++ x :: tl) (r.length : Int) = k4 ((insRev (less m a.sum a) x r).reverse ++ tl) (w64 (i + 1))
  | 0, r, tl, _, hn, _ => by omega
  | n + 1, [], tl, hg, hn, hl => by simp [F127_l7, F127_j3, insRev]
  | n + 1, y :: r, tl, hg, hn, hl => by
    have hx := hg x (by simp)
    have hy := hg y (by simp)
    have hxl : x.toNat < a.length := by omega
    have hyl : y.toNat < a.length := by omega
    have ex : getI a x = some a[x.toNat] := by have := getI_nat hxl; rwa [Int.toNat_of_nonneg hx.1] at this
    have ey : getI a y = some a[y.toNat] := by have := getI_nat hyl; rwa [Int.toNat_of_nonneg hy.1] at this
    have hs : a.sum ≠ 0 := by have := h.s0; omega
    have hpos : decide (((y :: r).length : Int) > 0) = true := by simp
    have hlen : (((y :: r).length : Nat) : Int) = (r.reverse ++ [y]).length := by simp
    have hpred : w64 (((y :: r).length : Int) - 1) = (r.reverse.length : Nat) := by rw [pred_w (by omega) (by simp)]; simp
    have e0 : (y :: r).reverse ++ x :: tl = (r.reverse ++ [y]) ++ x :: tl := by simp
    have e1 : (y :: r).reverse ++ x :: tl = r.reverse ++ y :: (x :: tl) := by simp
    have g1 : getI ((y :: r).reverse ++ x :: tl) ((y :: r).length : Int) = some x := by rw [e0]; exact getI_mid hlen
    have g2 : getI ((y :: r).reverse ++ x :: tl) (w64 (((y :: r).length : Int) - 1)) = some y := by rw [e1]; exact getI_mid hpred
    have t1 := tmod_eq h hxl
    have t2 := tmod_eq h hyl
    rw [Int.toNat_of_nonneg hx.1] at t1
    rw [Int.toNat_of_nonneg hy.1] at t2
    simp only [F127_l7, hpos, cond_true, g1, g2, Option.bind_some, ex, ey, nzS hs, t1, t2, F123_eq, F127_j3]
    by_cases hl2 : rem_ m a.sum a y < rem_ m a.sum a x
    · have hc : decide ((if rem_ m a.sum a y < rem_ m a.sum a x then (-1 : Int) else if rem_ m a.sum a y > rem_ m a.sum a x then 1 else 0) < 0) = true := by rw [if_pos hl2]; rfl
      have hless : less m a.sum a x y = true := by unfold less; simpa using hl2
      have s1 : setI ((y :: r).reverse ++ x :: tl) ((y :: r).length : Int) y = some ((r.reverse ++ [y]) ++ y :: tl) := by rw [e0]; exact setI_mid hlen
      have e2 : (r.reverse ++ [y]) ++ y :: tl = r.reverse ++ y :: (y :: tl) := by simp
      have g3 : getI ((r.reverse ++ [y]) ++ y :: tl) (w64 (((y :: r).length : Int) - 1)) = some y := by rw [e2]; exact getI_mid hpred
      have s2 : setI ((r.reverse ++ [y]) ++ y :: tl) (w64 (((y :: r).length : Int) - 1)) x = some (r.reverse ++ x :: (y :: tl)) := by rw [e2]; exact setI_mid hpred
      rw [hc]
      simp only [cond_true, s1, Option.bind_some, g3, s2]
      have ih := F127_l7_eq (f := f) (k4 := k4) h i x n r (y :: tl) (fun z hz => hg z (by rcases List.mem_cons.1 hz with e | e; simp [e]; simp [e])) (by simp at hn; omega) (by simp at hl; omega)
      have e3 : ((r.reverse.length : Nat) : Int) = (r.length : Int) := by simp
      rw [hpred, e3, ih]
      simp [insRev, hless]
    · have hc : decide ((if rem_ m a.sum a y < rem_ m a.sum a x then (-1 : Int) else if rem_ m a.sum a y > rem_ m a.sum a x then 1 else 0) < 0) = false := by rw [if_neg hl2]; split <;> rfl
      have hless : less m a.sum a x y = false := by unfold less; simpa using hl2
      rw [hc]
      simp [insRev, hless]
theorem insRev_len {α : Type} (lt : α → α → Bool) (x : α) (r : List α) : (insRev lt x r).length = r.length + 1 := by rw [(insRev_perm lt x r).length_eq]; rfl
theorem F127_l6_eq {f : Nat} {m : Int} {a : List Int} (h : DealOk m a) (hf : 100 < f) (y17 y13 : List Int) (y18 : Int) (hy : y13.length = a.length) : ∀ n (r tl : List Int), Good a.length (r ++ tl) → r.length + tl.length = a.length → tl.length < n →
    F127_l6 f m a a.sum y17 y13 y18 0 n (r.reverse ++ tl) (r.length : Int) = F127_l8 f y17 y13 y18 ((tl.foldl (fun r x => insRev (less m a.sum a) x r) r).reverse) f 20
  | 0, r, tl, _, _, hn => by omega
  | n + 1, r, [], hg, hl, hn => by
    have hlt : decide ((r.length : Int) < (y13.length : Int)) = false := by simpa using (show (y13.length : Int) ≤ r.length by simp at hl; omega)
    simp only [F127_l6, hlt, cond_false, List.append_nil, List.foldl_nil]
  | n + 1, r, x :: tl, hg, hl, hn => by
    have hlen := h.len
    have hlt : decide ((r.length : Int) < (y13.length : Int)) = true := by simpa using (show (r.length : Int) < y13.length by simp at hl; omega)
    simp only [F127_l6, hlt, cond_true]
    rw [F127_l7_eq (f := f) h (r.length : Int) x f r tl (fun z hz => hg z (by rcases List.mem_cons.1 hz with e | e; simp [e]; simp [e])) (by simp at hl; omega) (by simp at hl; omega)]
    have e : w64 ((r.length : Int) + 1) = ((insRev (less m a.sum a) x r).length : Int) := by rw [succ_w (by simp at hl; omega), insRev_len]
    rw [e, F127_l6_eq h hf y17 y13 y18 hy n (insRev (less m a.sum a) x r) tl (fun z hz => hg z (by
      rcases List.mem_append.1 hz with hz | hz
      · rcases List.mem_cons.1 ((insRev_perm _ x r).mem_iff.1 hz) with e | e
        · simp [e]
        · simp [e]
      · simp [hz])) (by rw [insRev_len]; simp at hl; omega) (by simp at hn; omega)]
    rfl
theorem good_places (n : Nat) : Good n (places n) := fun x hx => mem_places.1 hx
theorem sorted_places {f : Nat} {m : Int} {a : List Int} (h : DealOk m a) (hf : 100 < f) (y17 : List Int) (y18 : Int) :
    F127_l3 f m a a.sum y17 (places a.length) y18 f (places a.length) 0 20 = F127_l8 f y17 (places a.length) y18 (orderS m a.sum a) f 20 := by
  have hlen := h.len
  obtain ⟨n, rfl⟩ : ∃ n, f = n + 1 := ⟨f - 1, by omega⟩
  have hpl : (places a.length).length = a.length := by simp [places]
  have h20 : decide ((20 : Int) ≤ ((places a.length).length : Int)) = false := by rw [hpl]; simpa using (show (a.length : Int) < 20 by omega)
  simp only [F127_l3, h20, cond_false]
  have e1 : w64 ((0 : Int) + 1) = 1 := rfl
  rw [e1]
  rcases hp : places a.length with _ | ⟨x, tl⟩
  · -- no numbers at all
    have : a.length = 0 := by rw [← hpl, hp]; rfl
    have : a = [] := List.eq_nil_of_length_eq_zero this
    have := h.s0
    simp_all
  · have hg : Good a.length (x :: tl) := hp ▸ good_places a.length
    have hl2 : tl.length + 1 = a.length := by rw [← hpl, hp]; rfl
    have := F127_l6_eq (f := n + 1) h hf y17 (x :: tl) y18 (by simpa using hl2) (n + 1) [x] tl (by simpa using hg) (by simp; omega) (by omega)
    simp only [List.reverse_cons, List.reverse_nil, List.nil_append, List.length_cons, List.length_nil, List.singleton_append] at this
    have e2 : ((0 + 1 : Nat) : Int) = 1 := rfl
    rw [e2] at this
    rw [this]
    unfold orderS sortRev
    rw [hp]
    rfl
end Go.Proofs.Ytlmgjjmighajdaa
set_option linter.unusedSimpArgs false
set_option linter.unusedVariables false
namespace Go.Proofs.Ytlmgjjmighajdaa
open Go.Sl Go.Sx
theorem baseL_len (m : Int) (a : List Int) : (baseL m a).length = a.length := by simp [baseL]
theorem places_len (n : Nat) : (places n).length = n := by simp [places]
theorem baseL_at {m : Int} {a : List Int} {i : Nat} (h : i < a.length) : (baseL m a)[i]'(by rw [baseL_len]; exact h) = baseS m a i := by
  unfold baseL baseS
  rw [List.getElem_map, getD_mem h]
theorem places_at {n i : Nat} (h : i < n) : (places n)[i]'(by rw [places_len]; exact h) = (i : Int) := by simp [places]
theorem sum_take_bound {m : Int} (hm : 0 ≤ m) : ∀ {l : List Int}, (∀ x ∈ l, 0 ≤ x ∧ x ≤ m) → 0 ≤ l.sum ∧ l.sum ≤ m * l.length
  | [], _ => by simp
  | x :: l, h => by
    have ih := sum_take_bound hm (l := l) fun y hy => h y (List.mem_cons_of_mem _ hy)
    have hx := h x (by simp)
    simp only [List.sum_cons, List.length_cons]
    have e : m * ((l.length + 1 : Nat) : Int) = m * l.length + m := by push_cast; grind
    omega
theorem base_mem {m : Int} {a : List Int} (h : DealOk m a) : ∀ x ∈ baseL m a, 0 ≤ x ∧ x ≤ m := fun x hx => by
  obtain ⟨i, hi, rfl⟩ := List.getElem_of_mem hx
  rw [baseL_len] at hi
  rw [baseL_at hi]
  exact base_bounds h hi
theorem F127_l2_eq {f : Nat} {m : Int} {a : List Int} (h : DealOk m a) : ∀ k i n, i + k = a.length → k < n →
    F127_l2 f m a a.sum n ((baseL m a).take i ++ List.replicate k 0) ((places a.length).take i ++ List.replicate k 0) (m - ((baseL m a).take i).sum) (i : Int) = F127_l3 f m a a.sum (baseL m a) (places a.length) (leftS m a) f (places a.length) 0 20
  | _, _, 0, _, hn => by omega
  | 0, i, n + 1, hi, _ => by
    have hlt : decide ((i : Int) < (a.length : Int)) = false := by simpa using (show (a.length : Int) ≤ i by omega)
    simp only [F127_l2, hlt, cond_false, List.replicate_zero, List.append_nil]
    rw [List.take_of_length_le (by rw [baseL_len]; omega), List.take_of_length_le (by rw [places_len]; omega)]
    rfl
  | k + 1, i, n + 1, hi, hn => by
    have hia : i < a.length := by omega
    have hb := base_bounds h hia
    have hp := prod_bounds h hia
    have hlen := h.len
    have hs : a.sum ≠ 0 := by have := h.s0; omega
    have hm1 := h.m1
    have hm0 := h.m0
    have l1 : ((baseL m a).take i).length = i := by rw [List.length_take, baseL_len]; omega
    have l2 : ((places a.length).take i).length = i := by rw [List.length_take, places_len]; omega
    have eb : w64 (Int.tdiv (w64 (m * a[i])) a.sum) = baseS m a i := by
      have e3 : w64 (m * a[i]) = m * a[i] := w64_id (by omega) (by omega)
      rw [e3, Int.tdiv_eq_ediv_of_nonneg hp.1]
      have e2 : m * a[i] / a.sum = baseS m a i := by unfold baseS; rw [getD_mem hia]
      rw [e2, w64_id (by omega) (by omega)]
    have hsum := sum_take_bound h.m0 (l := (baseL m a).take i) fun x hx => base_mem h x (List.mem_of_mem_take hx)
    rw [l1] at hsum
    have hmi : m * (i : Int) ≤ 100000000 * 20 := Int.mul_le_mul hm1 (by omega) (by omega) (by omega)
    have s1 : setI ((baseL m a).take i ++ 0 :: List.replicate k 0) (i : Int) (baseS m a i) = some ((baseL m a).take i ++ baseS m a i :: List.replicate k 0) := setI_mid (by rw [l1])
    have s2 : setI ((places a.length).take i ++ 0 :: List.replicate k 0) (i : Int) (i : Int) = some ((places a.length).take i ++ (i : Int) :: List.replicate k 0) := setI_mid (by rw [l2])
    have g1 : getI ((baseL m a).take i ++ 0 :: List.replicate k 0) (i : Int) = some 0 := getI_mid (by rw [l1])
    have g2 : getI ((places a.length).take i ++ 0 :: List.replicate k 0) (i : Int) = some 0 := getI_mid (by rw [l2])
    have g3 : getI ((baseL m a).take i ++ baseS m a i :: List.replicate k 0) (i : Int) = some (baseS m a i) := getI_mid (by rw [l1])
    have t1 : (baseL m a).take (i + 1) = (baseL m a).take i ++ [baseS m a i] := by
      rw [List.take_succ_eq_append_getElem (by rw [baseL_len]; exact hia), baseL_at hia]
    have t2 : (places a.length).take (i + 1) = (places a.length).take i ++ [(i : Int)] := by
      rw [List.take_succ_eq_append_getElem (by rw [places_len]; exact hia), places_at hia]
    simp only [F127_l2, lt_len, hia, decide_true, cond_true, getI_nat hia, Option.bind_some, nzS hs, List.replicate_succ, g1, eb, s1, g2, s2, g3]
    have ih := F127_l2_eq (f := f) h k (i + 1) n (by omega) (by omega)
    rw [t1, t2, sum_app] at ih
    simp only [List.append_assoc, List.singleton_append, List.sum_cons, List.sum_nil, Int.add_zero] at ih
    rw [succ_w (by omega), w64_id (by omega) (by omega)]
    have e : m - ((baseL m a).take i).sum - baseS m a i = m - (((baseL m a).take i).sum + baseS m a i) := by omega
    rw [e]
    exact ih
def outS (m : Int) (a D : List Int) : List Int := (List.range a.length).map fun i : Nat => baseS m a i + (if (i : Int) ∈ D then 1 else 0)
theorem outS_len (m : Int) (a D : List Int) : (outS m a D).length = a.length := by simp [outS]
theorem outS_at {m : Int} {a D : List Int} {i : Nat} (h : i < a.length) : (outS m a D)[i]'(by rw [outS_len]; exact h) = baseS m a i + (if (i : Int) ∈ D then 1 else 0) := by simp [outS]
theorem outS_nil (m : Int) (a : List Int) : outS m a [] = baseL m a := by
  refine List.ext_getElem (by rw [outS_len, baseL_len]) fun i h1 h2 => ?_
  rw [outS_len] at h1
  rw [outS_at h1, baseL_at h1]
  simp
theorem outS_set {m : Int} {a D : List Int} {p : Int} (hp : p ∈ places a.length) (hD : p ∉ D) : getI (outS m a D) p = some (baseS m a p.toNat) ∧ setI (outS m a D) p (baseS m a p.toNat + 1) = some (outS m a (D ++ [p])) := by
  have hb := mem_places.1 hp
  have hi : p.toNat < a.length := by omega
  have hpn : ((p.toNat : Nat) : Int) = p := Int.toNat_of_nonneg hb.1
  constructor
  · have := getI_nat (xs := outS m a D) (i := p.toNat) (by rw [outS_len]; exact hi)
    rw [hpn] at this
    rw [this, outS_at hi, hpn, if_neg hD, Int.add_zero]
  · unfold setI
    rw [if_pos ⟨hb.1, by rw [outS_len]; exact hb.2⟩]
    congr 1
    refine List.ext_getElem (by simp [outS]) fun i h1 h2 => ?_
    rw [outS_len] at h2
    rw [outS_at h2]
    by_cases e : p.toNat = i
    · subst e
      rw [List.getElem_set_self, hpn]
      simp
    · rw [List.getElem_set_ne e, outS_at h2]
      have : (i : Int) ≠ p := fun k => e (by omega)
      simp [this]
theorem F127_l10_eq {m : Int} {a d5 : List Int} (h : DealOk m a) (hd : ∀ x ∈ d5, x ∈ places a.length) (hn : d5.Nodup) (hl : d5.length ≤ 20) : ∀ n j, j ≤ d5.length → d5.length - j < n → F127_l10 d5 n (outS m a (d5.take j)) (j : Int) = some (outS m a d5)
  | 0, j, _, hn => by omega
  | n + 1, j, hj, hn' => by
    rcases Nat.lt_or_ge j d5.length with hlt | hge
    · have hp := hd _ (List.getElem_mem hlt)
      have hnot : d5[j] ∉ d5.take j := fun hm => by
        obtain ⟨i, hi, e⟩ := List.getElem_of_mem hm
        rw [List.getElem_take] at e
        rw [List.length_take] at hi
        have := (List.getElem_inj hn).1 e
        omega
      obtain ⟨g, st⟩ := outS_set (m := m) (D := d5.take j) hp hnot
      have hb := mem_places.1 hp
      have hbb := base_bounds h (i := d5[j].toNat) (by omega)
      have hm1 := h.m1
      simp only [F127_l10, lt_len, hlt, decide_true, cond_true, getI_nat hlt, Option.bind_some, g]
      rw [w64_id (n := baseS m a d5[j].toNat + 1) (by omega) (by omega), st]
      simp only [Option.bind_some]
      rw [succ_w (by omega), ← List.take_succ_eq_append_getElem hlt]
      exact F127_l10_eq h hd hn hl n (j + 1) (by omega) (by omega)
    · have : j = d5.length := by omega
      subst this
      simp [F127_l10]
theorem orderS_len (m s : Int) (a : List Int) : (orderS m s a).length = a.length := by rw [(orderS_perm m s a).length_eq, places_len]
theorem outS_deal (m : Int) (a : List Int) : outS m a ((orderS m a.sum a).take (leftS m a).toNat) = dealS m a := by
  refine List.ext_getElem (by simp [outS, dealS]) fun i h1 h2 => ?_
  rw [outS_len] at h1
  have e2 : (dealS m a)[i] = baseS m a i + (if rank m a.sum a (i : Int) < (leftS m a).toNat then 1 else 0) := by simp [dealS]
  rw [outS_at h1, e2]
  congr 1
  have hp : (i : Int) ∈ places a.length := mem_places.2 ⟨by omega, by omega⟩
  have := first_iff m a.sum a hp (leftS m a).toNat
  by_cases hr : rank m a.sum a (i : Int) < (leftS m a).toNat
  · rw [if_pos (this.2 hr), if_pos hr]
  · rw [if_neg fun k => hr (this.1 k), if_neg hr]
theorem F127_l1_eq {f : Nat} {m : Int} {a : List Int} (hnn : ∀ x ∈ a, 0 ≤ x) (hs : a.sum ≤ 100000000) (hl : a.length < 20) : ∀ n i, i ≤ a.length → a.length - i < n → F127_l1 f m a n (a.take i).sum (i : Int) = F127_j1 f m a a.sum (List.replicate a.length 0)
  | 0, i, _, hn => by omega
  | n + 1, i, hi, hn => by
    rcases Nat.lt_or_ge i a.length with hlt | hge
    · have e : (a.take (i + 1)).sum = (a.take i).sum + a[i] := by rw [List.take_succ_eq_append_getElem hlt, sum_app]; simp
      have b1 := sum_nonneg (a := a.take (i + 1)) fun x hx => hnn x (List.mem_of_mem_take hx)
      have b2 : a.sum = (a.take (i + 1)).sum + (a.drop (i + 1)).sum := by rw [← sum_app, List.take_append_drop]
      have b3 := sum_nonneg (a := a.drop (i + 1)) fun x hx => hnn x (List.mem_of_mem_drop hx)
      simp only [F127_l1, lt_len, hlt, decide_true, cond_true, getI_nat hlt, Option.bind_some]
      rw [succ_w (by omega), ← e, w64_id (by omega) (by omega)]
      exact F127_l1_eq hnn hs hl n (i + 1) (by omega) (by omega)
    · have : i = a.length := by omega
      subst this
      have hmk : mkC (a.length : Int) (0 : Int) = some (List.replicate a.length 0) := by unfold mkC; rw [if_pos (by omega)]; simp
      simp [F127_l1, hmk]
theorem F127_eq {f : Nat} {m : Int} {a : List Int} (h : DealOk m a) (hf : 100 < f) : F127 f m a = some (dealS m a) := by
  have hlen := h.len
  unfold F127
  have e1 := F127_l1_eq (f := f) (m := m) h.nn h.s1 h.len f 0 (by omega) (by omega)
  simp only [List.take_zero, List.sum_nil] at e1
  have e0 : ((0 : Nat) : Int) = 0 := rfl
  rw [e0] at e1
  rw [e1]
  unfold F127_j1
  have hs : (a.sum == 0) = false := by simpa using (show ¬ a.sum = 0 by have := h.s0; omega)
  rw [hs, cond_false]
  have e2 := F127_l2_eq (f := f) h a.length 0 f (by omega) (by omega)
  simp only [List.take_zero, List.sum_nil, List.nil_append, Int.sub_zero] at e2
  rw [e0] at e2
  rw [e2, sorted_places h hf]
  obtain ⟨hb0, hb1, _⟩ := left_bounds h
  have hpl : (places a.length).length = a.length := places_len _
  obtain ⟨n, rfl⟩ : ∃ n, f = n + 1 := ⟨f - 1, by omega⟩
  have h20 : decide ((20 : Int) < ((places a.length).length : Int)) = false := by rw [hpl]; simpa using (show (a.length : Int) ≤ 20 by omega)
  simp only [F127_l8, h20, cond_false]
  have hsub : subI (orderS m a.sum a) 0 (leftS m a) = some ((orderS m a.sum a).take (leftS m a).toNat) := by
    unfold subI
    rw [if_pos ⟨by omega, hb0, by rw [orderS_len]; exact hb1⟩]
    simp
  rw [hsub]
  simp only [Option.bind_some]
  have hperm := orderS_perm m a.sum a
  have hnod : (orderS m a.sum a).Nodup := hperm.nodup_iff.2 ((places_rising _).imp fun h => by omega)
  have e3 := F127_l10_eq h (d5 := (orderS m a.sum a).take (leftS m a).toNat) (fun x hx => hperm.mem_iff.1 (List.mem_of_mem_take hx)) (hnod.sublist (List.take_sublist _ _)) (by rw [List.length_take, orderS_len]; omega) (n + 1) 0 (by omega) (by rw [List.length_take, orderS_len]; omega)
  rw [List.take_zero, outS_nil] at e3
  rw [e0] at e3
  rw [e3, outS_deal]
end Go.Proofs.Ytlmgjjmighajdaa
set_option linter.unusedSimpArgs false
set_option linter.unusedVariables false
namespace Go.Proofs.Ytlmgjjmighajdaa
open Go.Sl Go.Sx
def mergeP : List Part → List Part → List Part
  | [], b => b
  | p :: a, [] => p :: a
  | p :: a, q :: b => if p.lot < q.lot then p :: mergeP a (q :: b) else if q.lot < p.lot then q :: mergeP (p :: a) b else ⟨p.lot, p.mass + q.mass⟩ :: mergeP a b
termination_by a b => a.length + b.length
theorem merge_nil (a : List Part) : mergeP a [] = a := by cases a <;> simp [mergeP]
theorem nil_merge (a : List Part) : mergeP [] a = a := by simp [mergeP]
theorem merge_lt {p q : Part} {a b : List Part} (h : p.lot < q.lot) : mergeP (p :: a) (q :: b) = p :: mergeP a (q :: b) := by simp [mergeP, h]
theorem merge_gt {p q : Part} {a b : List Part} (h : q.lot < p.lot) : mergeP (p :: a) (q :: b) = q :: mergeP (p :: a) b := by
  have h1 : ¬ p.lot < q.lot := by omega
  simp [mergeP, h, h1]
theorem merge_eq {p q : Part} {a b : List Part} (h : p.lot = q.lot) : mergeP (p :: a) (q :: b) = ⟨p.lot, p.mass + q.mass⟩ :: mergeP a b := by
  have h1 : ¬ p.lot < q.lot := by omega
  have h2 : ¬ q.lot < p.lot := by omega
  simp [mergeP, h1, h2]
theorem drop_cons {α : Type} {l : List α} {i : Nat} (h : i < l.length) : l.drop i = l[i] :: l.drop (i + 1) := List.drop_eq_getElem_cons h
theorem F80_loop {a b : List Part} (ha : HeapOk a) (hb : HeapOk b) : ∀ n (out : List Part) i k, i ≤ a.length → k ≤ b.length → (a.length - i) + (b.length - k) < n → out.length + (a.length - i) + (b.length - k) ≤ 100 →
    F80_l1 a b n out (i : Int) (k : Int) = some (out ++ mergeP (a.drop i) (b.drop k))
  | 0, out, i, k, _, _, hn, _ => by omega
  | n + 1, out, i, k, hi, hk, hn, ho => by
    have la := ha.1
    have lb := hb.1
    have app : ∀ x : Part, appC out [x] = some (out ++ [x]) := fun x => by unfold appC; rw [if_pos (by simp only [List.length_cons, List.length_nil]; omega)]
    have eqk : ∀ {x y : Nat}, ((x : Int) == (y : Int)) = decide (x = y) := fun {x y} => by
      by_cases h : x = y
      · simp [h]
      · have : ¬ (x : Int) = y := by omega
        simp [h, this]
    simp only [F80_l1, F80_j1, F80_j2, F80_j3, lt_len, eqk]
    rcases Nat.lt_or_ge i a.length with hia | hia
    · have h1 : a.drop i = a[i] :: a.drop (i + 1) := drop_cons hia
      have pa := ha.2.1 _ (List.getElem_mem hia)
      rcases Nat.lt_or_ge k b.length with hkb | hkb
      · have h2 : b.drop k = b[k] :: b.drop (k + 1) := drop_cons hkb
        have pb := hb.2.1 _ (List.getElem_mem hkb)
        have n1 : ¬ k = b.length := by omega
        have n2 : ¬ i = a.length := by omega
        simp only [hia, hkb, n1, n2, decide_true, decide_false, cond_true, cond_false, getI_nat hia, getI_nat hkb, Option.bind_some, app, succ_w (i := i) (by omega), succ_w (i := k) (by omega)]
        rcases Int.lt_trichotomy a[i].lot b[k].lot with e | e | e
        · have e' : ¬ b[k].lot < a[i].lot := by omega
          simp only [e, e', decide_true, decide_false, cond_true, cond_false]
          rw [F80_loop ha hb n (out ++ [a[i]]) (i + 1) k (by omega) hk (by omega) (by simp only [List.length_append, List.length_cons, List.length_nil]; omega), h1, h2, merge_lt e, ← h2, List.append_assoc]
          rfl
        · have e1 : ¬ a[i].lot < b[k].lot := by omega
          have e2 : ¬ b[k].lot < a[i].lot := by omega
          have := pa.m0; have := pa.m1; have := pb.m0; have := pb.m1
          simp only [e1, e2, decide_true, decide_false, cond_true, cond_false, w64_id (n := a[i].mass + b[k].mass) (by omega) (by omega)]
          rw [F80_loop ha hb n (out ++ [(⟨a[i].lot, a[i].mass + b[k].mass⟩ : Part)]) (i + 1) (k + 1) (by omega) (by omega) (by omega) (by simp only [List.length_append, List.length_cons, List.length_nil]; omega), h1, h2, merge_eq e, List.append_assoc]
          rfl
        · have e1 : ¬ a[i].lot < b[k].lot := by omega
          simp only [e, e1, decide_true, decide_false, cond_true, cond_false]
          rw [F80_loop ha hb n (out ++ [b[k]]) i (k + 1) hi (by omega) (by omega) (by simp only [List.length_append, List.length_cons, List.length_nil]; omega), h1, h2, merge_gt e, ← h1, List.append_assoc]
          rfl
      · have n1 : k = b.length := by omega
        simp only [hia, n1, decide_true, cond_true, getI_nat hia, Option.bind_some, app, succ_w (i := i) (by omega)]
        have := F80_loop ha hb n (out ++ [a[i]]) (i + 1) k (by omega) hk (by omega) (by simp only [List.length_append, List.length_cons, List.length_nil]; omega)
        rw [n1] at this
        rw [this, h1, List.drop_length, merge_nil, merge_nil, List.append_assoc]
        rfl
    · have n2 : i = a.length := by omega
      have n2' : ¬ i < a.length := by omega
      rcases Nat.lt_or_ge k b.length with hkb | hkb
      · have h2 : b.drop k = b[k] :: b.drop (k + 1) := drop_cons hkb
        have n1 : ¬ k = b.length := by omega
        simp only [n2', hkb, n1, decide_true, decide_false, cond_true, cond_false, n2, getI_nat hkb, Option.bind_some, app, succ_w (i := k) (by omega), Nat.lt_irrefl]
        have := F80_loop ha hb n (out ++ [b[k]]) i (k + 1) hi (by omega) (by omega) (by simp only [List.length_append, List.length_cons, List.length_nil]; omega)
        rw [n2] at this
        rw [this, h2, List.drop_length, nil_merge, nil_merge, List.append_assoc]
        rfl
      · have n1 : k = b.length := by omega
        simp [n1, n2, nil_merge]
theorem F80_eq {f : Nat} {a b : List Part} (ha : HeapOk a) (hb : HeapOk b) (hf : 90 < f) : F80 f a b = some (mergeP a b) := by
  have := F80_loop ha hb f [] 0 0 (by omega) (by omega) (by have := ha.1; have := hb.1; omega) (by have := ha.1; have := hb.1; simp; omega)
  simpa [F80] using this
end Go.Proofs.Ytlmgjjmighajdaa
set_option linter.unusedSimpArgs false
set_option linter.unusedVariables false
namespace Go.Proofs.Ytlmgjjmighajdaa
open Go.Sl Go.Sx
def takenL : List Part → List Int → List Part
  | p :: h, n :: d => (if n > 0 then [⟨p.lot, n⟩] else []) ++ takenL h d
  | _, _ => []
def leftL : List Part → List Int → List Part
  | p :: h, n :: d => (if n < p.mass then [⟨p.lot, p.mass - n⟩] else []) ++ leftL h d
  | _, _ => []
def massesL (h : List Part) : List Int := h.map (·.mass)
def dealH (m : Int) (h : List Part) : List Int := if h = [] then [] else dealS m (massesL h)
theorem dealS_len (m : Int) (a : List Int) : (dealS m a).length = a.length := by simp [dealS]
theorem dealH_len (m : Int) (h : List Part) : (dealH m h).length = h.length := by
  unfold dealH
  split
  · rename_i e; rw [e]; rfl
  · rw [dealS_len]; simp [massesL]
theorem sum_masses (h : List Part) : (massesL h).sum = sumM h := rfl
theorem heap_pos {h : List Part} (hk : HeapOk h) (hne : h ≠ []) : 0 < sumM h := by
  cases h with
  | nil => exact absurd rfl hne
  | cons p h =>
    have hp := (hk.2.1 p (by simp)).m0
    have := (sumM_bound (l := h) fun q hq => hk.2.1 q (List.mem_cons_of_mem _ hq)).1
    simp only [sumM, List.map_cons, List.sum_cons] at this ⊢
    omega
theorem dealOk_heap {h : List Part} {m : Int} (hk : HeapOk h) (hne : h ≠ []) (hm0 : 0 ≤ m) (hm : m ≤ sumM h) (hl : h.length < 20) : DealOk m (massesL h) where
  nn x hx := by obtain ⟨p, hp, rfl⟩ := List.mem_map.1 hx; have := (hk.2.1 p hp).m0; omega
  s0 := by rw [sum_masses]; exact heap_pos hk hne
  s1 := by rw [sum_masses]; exact hk.2.2.2
  m0 := hm0
  m1 := by have := hk.2.2.2; omega
  len := by simpa [massesL] using hl
theorem F127_nil (f : Nat) (hf : 0 < f) (m : Int) : F127 f m [] = some [] := by
  obtain ⟨n, rfl⟩ : ∃ n, f = n + 1 := ⟨f - 1, by omega⟩
  simp [F127, F127_l1, F127_j1, mkC]
theorem F127_heap {f : Nat} {h : List Part} {m : Int} (hk : HeapOk h) (hm0 : 0 ≤ m) (hm : m ≤ sumM h) (hl : h.length < 20) (hf : 100 < f) : F127 f m (massesL h) = some (dealH m h) := by
  unfold dealH
  split
  · rename_i e; subst e; exact F127_nil f (by omega) m
  · rename_i e; exact F127_eq (dealOk_heap hk e hm0 hm hl) hf
theorem deal_bounds {a : List Int} {m : Int} (h : DealOk m a) {i : Nat} (hi : i < a.length) : 0 ≤ (dealS m a)[i]'(by rw [dealS_len]; exact hi) ∧ (dealS m a)[i]'(by rw [dealS_len]; exact hi) ≤ 100000001 := by
  have hb := base_bounds h hi
  have hm := h.m1
  have e : (dealS m a)[i]'(by rw [dealS_len]; exact hi) = baseS m a i + (if rank m a.sum a (i : Int) < (leftS m a).toNat then 1 else 0) := by simp [dealS]
  rw [e]
  split <;> omega
theorem dealH_bounds {h : List Part} {m : Int} (hk : HeapOk h) (hm0 : 0 ≤ m) (hm : m ≤ sumM h) (hl : h.length < 20) : ∀ x ∈ dealH m h, 0 ≤ x ∧ x ≤ 100000001 := fun x hx => by
  unfold dealH at hx
  split at hx
  · cases hx
  · rename_i e
    obtain ⟨i, hi, rfl⟩ := List.getElem_of_mem hx
    rw [dealS_len] at hi
    exact deal_bounds (dealOk_heap hk e hm0 hm hl) hi
theorem F91_l2_eq {h : List Part} {d : List Int} (hd : d.length = h.length) (hl : h.length < 20) (hk : ∀ p ∈ h, PartOk p) (hb : ∀ x ∈ d, 0 ≤ x ∧ x ≤ 100000001) : ∀ n i (tk lf : List Part), i ≤ h.length → h.length - i < n → tk.length + (h.length - i) ≤ 40 → lf.length + (h.length - i) ≤ 40 →
    F91_l2 h d n tk lf (i : Int) = some (tk ++ takenL (h.drop i) (d.drop i), lf ++ leftL (h.drop i) (d.drop i))
  | 0, i, _, _, _, hn, _, _ => by omega
  | n + 1, i, tk, lf, hi, hn, h1, h2 => by
    rcases Nat.lt_or_ge i h.length with hlt | hge
    · have hid : i < d.length := by omega
      have app : ∀ (l : List Part) (x : Part), l.length ≤ 60 → appC l [x] = some (l ++ [x]) := fun l x hl => by unfold appC; rw [if_pos (by simp only [List.length_cons, List.length_nil]; omega)]
      have hp := hk _ (List.getElem_mem hlt)
      have hx := hb _ (List.getElem_mem hid)
      have e1 : h.drop i = h[i] :: h.drop (i + 1) := drop_cons hlt
      have e2 : d.drop i = d[i] :: d.drop (i + 1) := drop_cons hid
      have := hp.m0; have := hp.m1
      have hw : w64 (h[i].mass - d[i]) = h[i].mass - d[i] := w64_id (by omega) (by omega)
      have lt2 : decide ((i : Int) < (d.length : Int)) = true := by simpa using (show (i : Int) < d.length by omega)
      simp only [F91_l2, F91_j1, F91_j2, lt2, cond_true, getI_nat hlt, getI_nat hid, Option.bind_some, hw, succ_w (i := i) (by omega)]
      rw [e1, e2]
      simp only [takenL, leftL]
      by_cases c1 : d[i] > 0 <;> by_cases c2 : d[i] < h[i].mass
      · simp only [c1, c2, decide_true, cond_true, app tk _ (by omega), app lf _ (by omega), Option.bind_some, if_true]
        rw [F91_l2_eq hd hl hk hb n (i + 1) _ _ (by omega) (by omega) (by simp only [List.length_append, List.length_cons, List.length_nil]; omega) (by simp only [List.length_append, List.length_cons, List.length_nil]; omega)]
        simp only [List.append_assoc]
      · simp only [c1, c2, decide_true, decide_false, cond_true, cond_false, app tk _ (by omega), Option.bind_some, if_true, if_false]
        rw [F91_l2_eq hd hl hk hb n (i + 1) _ _ (by omega) (by omega) (by simp only [List.length_append, List.length_cons, List.length_nil]; omega) (by omega)]
        simp only [List.append_assoc, List.nil_append]
      · simp only [c1, c2, decide_true, decide_false, cond_true, cond_false, app lf _ (by omega), Option.bind_some, if_true, if_false]
        rw [F91_l2_eq hd hl hk hb n (i + 1) _ _ (by omega) (by omega) (by omega) (by simp only [List.length_append, List.length_cons, List.length_nil]; omega)]
        simp only [List.append_assoc, List.nil_append]
      · simp only [c1, c2, decide_false, cond_false, if_false]
        rw [F91_l2_eq hd hl hk hb n (i + 1) _ _ (by omega) (by omega) (by omega) (by omega)]
        simp only [List.nil_append]
    · have : i = h.length := by omega
      subst this
      have lt2 : decide ((h.length : Int) < (d.length : Int)) = false := by simp [hd]
      simp only [F91_l2, lt2, cond_false, List.drop_length]
      simp [takenL, leftL]
theorem F91_l1_eq {f : Nat} {h : List Part} (m : Int) (hl : h.length ≤ 40) : ∀ n i, i ≤ h.length → h.length - i < n → F91_l1 f h m n (massesL (h.take i)) (i : Int) = ((F127 f m (massesL h)).bind fun r => F91_l2 h r f [] [] 0)
  | 0, i, _, hn => by omega
  | n + 1, i, hi, hn => by
    rcases Nat.lt_or_ge i h.length with hlt | hge
    · have app : appC (massesL (h.take i)) [h[i].mass] = some (massesL (h.take (i + 1))) := by
        unfold appC
        rw [if_pos (by simp [massesL]; omega), List.take_succ_eq_append_getElem hlt]
        unfold massesL
        rw [List.map_append]; rfl
      simp only [F91_l1, lt_len, hlt, decide_true, cond_true, getI_nat hlt, Option.bind_some, app, succ_w (i := i) (by omega)]
      exact F91_l1_eq m hl n (i + 1) (by omega) (by omega)
    · have : i = h.length := by omega
      subst this
      simp [F91_l1]
theorem F91_eq {f : Nat} {h : List Part} {m : Int} (hk : HeapOk h) (hm0 : 0 ≤ m) (hm : m ≤ sumM h) (hl : h.length < 20) (hf : 100 < f) : F91 f h m = some (takenL h (dealH m h), leftL h (dealH m h)) := by
  unfold F91
  have e1 := F91_l1_eq (f := f) (h := h) m (by omega) f 0 (by omega) (by omega)
  have e0 : ((0 : Nat) : Int) = 0 := rfl
  rw [e0] at e1
  have e2 : massesL (h.take 0) = [] := rfl
  rw [e2] at e1
  rw [e1, F127_heap hk hm0 hm hl hf]
  simp only [Option.bind_some]
  have e3 := F91_l2_eq (dealH_len m h) hl hk.2.1 (dealH_bounds hk hm0 hm hl) f 0 [] [] (by omega) (by omega) (by simp; omega) (by simp; omega)
  rw [e0] at e3
  rw [e3]
  simp
end Go.Proofs.Ytlmgjjmighajdaa
set_option linter.unusedSimpArgs false
set_option linter.unusedVariables false
namespace Go.Proofs.Ytlmgjjmighajdaa
open Go.Sl Go.Sx
theorem set_sum : ∀ {l : List Int} {i : Nat} (h : i < l.length), (l.set i (l[i] + 1)).sum = l.sum + 1
  | x :: l, 0, _ => by simp only [List.set_cons_zero, List.sum_cons, List.getElem_cons_zero]; omega
  | x :: l, i + 1, h => by
    have := set_sum (l := l) (i := i) (by simpa using h)
    simp only [List.set_cons_succ, List.sum_cons, List.getElem_cons_succ]; omega
theorem outS_sum (m : Int) (a : List Int) : ∀ (D2 D1 : List Int), (∀ x ∈ D1 ++ D2, x ∈ places a.length) → (D1 ++ D2).Nodup → (outS m a (D1 ++ D2)).sum = (outS m a D1).sum + D2.length
  | [], D1, _, _ => by simp
  | p :: D2, D1, h1, h2 => by
    have e : D1 ++ p :: D2 = (D1 ++ [p]) ++ D2 := by simp
    rw [e] at h1 h2 ⊢
    have hp : p ∈ places a.length := h1 p (by simp)
    have hnot : p ∉ D1 := fun hm => by
      have := (List.nodup_append.1 ((List.nodup_append.1 h2).1)).2.2 p hm p (by simp)
      exact this rfl
    obtain ⟨g, st⟩ := outS_set (m := m) (D := D1) hp hnot
    have hb := mem_places.1 hp
    have hi : p.toNat < (outS m a D1).length := by rw [outS_len]; omega
    have e1 : outS m a (D1 ++ [p]) = (outS m a D1).set p.toNat ((outS m a D1)[p.toNat] + 1) := by
      have hg : (outS m a D1)[p.toNat] = baseS m a p.toNat := by
        have h3 := (getI_spec g).2
        rw [List.getElem?_eq_getElem hi] at h3
        exact Option.some.inj h3
      rw [hg]
      exact (setI_spec st).2
    rw [outS_sum m a D2 (D1 ++ [p]) h1 h2, e1, set_sum hi]
    simp only [List.length_cons]; omega
theorem deal_sum {m : Int} {a : List Int} (h : DealOk m a) : (dealS m a).sum = m := by
  rw [← outS_deal]
  have hperm := orderS_perm m a.sum a
  have hnod : (orderS m a.sum a).Nodup := hperm.nodup_iff.2 ((places_rising _).imp fun h => by omega)
  obtain ⟨hb0, hb1, _⟩ := left_bounds h
  have := outS_sum m a ((orderS m a.sum a).take (leftS m a).toNat) [] (fun x hx => hperm.mem_iff.1 (List.mem_of_mem_take (by simpa using hx))) (hnod.sublist (List.take_sublist _ _))
  rw [List.nil_append, outS_nil, List.length_take, orderS_len] at this
  rw [this]
  unfold leftS at *
  omega
theorem deal_at {m : Int} {a : List Int} {i : Nat} (hi : i < a.length) : (dealS m a)[i]'(by rw [dealS_len]; exact hi) = baseS m a i + (if rank m a.sum a (i : Int) < (leftS m a).toNat then 1 else 0) := by simp [dealS]
theorem rem_at {m : Int} {a : List Int} {i : Nat} (hi : i < a.length) : rem_ m a.sum a (i : Int) = m * a[i] % a.sum := by
  unfold rem_
  have e : ((i : Int)).toNat = i := by omega
  rw [e, getD_mem hi]
theorem extra_rem {m : Int} {a : List Int} (h : DealOk m a) {i : Nat} (hi : i < a.length) (hr : rank m a.sum a (i : Int) < (leftS m a).toNat) : 0 < rem_ m a.sum a (i : Int) := by
  have hs := h.s0
  have hnn : ∀ j, 0 ≤ rem_ m a.sum a j := fun j => Int.emod_nonneg _ (by omega)
  have hlt : ∀ j, rem_ m a.sum a j < a.sum := fun j => Int.emod_lt_of_pos _ hs
  rcases Int.lt_or_le 0 (rem_ m a.sum a (i : Int)) with h0 | h0
  · exact h0
  · exfalso
    have hz : rem_ m a.sum a (i : Int) = 0 := by have := hnn i; omega
    -- whoever has a remainder comes ahead
    have hc : (places a.length).countP (fun j => decide (0 < rem_ m a.sum a j)) ≤ rank m a.sum a (i : Int) := by
      unfold rank
      refine List.countP_mono_left fun j hj hp => ?_
      simp only [decide_eq_true_eq] at hp ⊢
      unfold ahead
      omega
    have hsum : ∀ l : List Int, (l.map fun j => rem_ m a.sum a j).sum ≤ (a.sum - 1) * (l.countP (fun j => decide (0 < rem_ m a.sum a j)) : Nat) := by
      intro l
      induction l with
      | nil => simp
      | cons j l ih =>
        simp only [List.map_cons, List.sum_cons]
        by_cases hp : 0 < rem_ m a.sum a j
        · rw [List.countP_cons_of_pos (by simpa using hp)]
          have := hlt j
          have e : (a.sum - 1) * ((l.countP (fun j => decide (0 < rem_ m a.sum a j)) + 1 : Nat) : Int) = (a.sum - 1) * (l.countP (fun j => decide (0 < rem_ m a.sum a j)) : Nat) + (a.sum - 1) := by push_cast; grind
          omega
        · rw [List.countP_cons_of_neg (by simpa using hp)]
          have := hnn j
          omega
    have h1 := hsum (places a.length)
    have e1 : (places a.length).map (fun j => rem_ m a.sum a j) = a.map fun x => m * x % a.sum := by
      refine List.ext_getElem (by simp [places]) fun k h1 h2 => ?_
      rw [List.getElem_map, List.getElem_map]
      have hk : k < a.length := by simpa [places] using h1
      rw [places_at hk]
      exact rem_at hk
    rw [e1] at h1
    obtain ⟨hb0, hb1, e2⟩ := left_bounds h
    rw [← e2] at h1
    have h3 : (a.sum - 1) * ((places a.length).countP (fun j => decide (0 < rem_ m a.sum a j)) : Nat) ≤ (a.sum - 1) * (leftS m a - 1) := Int.mul_le_mul_of_nonneg_left (by omega) (by omega)
    have h4 : (a.sum - 1) * (leftS m a - 1) = a.sum * leftS m a - leftS m a - a.sum + 1 := by grind
    omega
theorem deal_le {m : Int} {a : List Int} (h : DealOk m a) (hm : m ≤ a.sum) {i : Nat} (hi : i < a.length) : (dealS m a)[i]'(by rw [dealS_len]; exact hi) ≤ a[i] := by
  rw [deal_at hi]
  have hs := h.s0
  have h0 := h.nn _ (List.getElem_mem hi)
  have e := Int.mul_ediv_add_emod (m * a[i]) a.sum
  have hb : baseS m a i = m * a[i] / a.sum := by unfold baseS; rw [getD_mem hi]
  have hle : m * a[i] ≤ a.sum * a[i] := Int.mul_le_mul_of_nonneg_right hm h0
  split
  · rename_i hr
    have hrem := extra_rem h hi hr
    rw [rem_at hi] at hrem
    rw [hb]
    rcases Int.lt_or_le (m * a[i] / a.sum) a[i] with hl | hl
    · omega
    · have : a.sum * a[i] ≤ a.sum * (m * a[i] / a.sum) := Int.mul_le_mul_of_nonneg_left hl (by omega)
      omega
  · rw [hb]
    rcases Int.lt_or_le a[i] (m * a[i] / a.sum) with hl | hl
    · have h1 : a.sum * (a[i] + 1) ≤ a.sum * (m * a[i] / a.sum) := Int.mul_le_mul_of_nonneg_left (by omega) (by omega)
      have h2 := Int.emod_nonneg (m * a[i]) (show a.sum ≠ 0 by omega)
      have h3 : a.sum * (a[i] + 1) = a.sum * a[i] + a.sum := by grind
      omega
    · omega
inductive Fits : List Part → List Int → Prop
  | nil : Fits [] []
  | cons {p : Part} {h : List Part} {n : Int} {d : List Int} (h0 : 0 ≤ n) (h1 : n ≤ p.mass) (hp : 1 ≤ p.mass) (k : Fits h d) : Fits (p :: h) (n :: d)
theorem Fits.of : ∀ {h : List Part} {d : List Int}, d.length = h.length → (∀ i (hi : i < h.length) (hd : i < d.length), 0 ≤ d[i] ∧ d[i] ≤ h[i].mass ∧ 1 ≤ h[i].mass) → Fits h d
  | [], [], _, _ => .nil
  | [], _ :: _, e, _ => by cases e
  | _ :: _, [], e, _ => by cases e
  | p :: h, n :: d, e, k => by
    have k0 := k 0 (by simp) (by simp)
    exact .cons k0.1 k0.2.1 k0.2.2 (Fits.of (by simpa using e) fun i hi hd => k (i + 1) (by simpa using hi) (by simpa using hd))
theorem taken_lots : ∀ {h : List Part} {d : List Int} {q : Part}, q ∈ takenL h d → ∃ p ∈ h, p.lot = q.lot
  | [], _, q, hq => by simp [takenL] at hq
  | _ :: _, [], q, hq => by simp [takenL] at hq
  | p :: h, n :: d, q, hq => by
    simp only [takenL] at hq
    rcases List.mem_append.1 hq with hq | hq
    · split at hq
      · simp only [List.mem_singleton] at hq; subst hq; exact ⟨p, by simp, rfl⟩
      · cases hq
    · obtain ⟨p', hp, e⟩ := taken_lots hq
      exact ⟨p', List.mem_cons_of_mem _ hp, e⟩
theorem left_lots : ∀ {h : List Part} {d : List Int} {q : Part}, q ∈ leftL h d → ∃ p ∈ h, p.lot = q.lot
  | [], _, q, hq => by simp [leftL] at hq
  | _ :: _, [], q, hq => by simp [leftL] at hq
  | p :: h, n :: d, q, hq => by
    simp only [leftL] at hq
    rcases List.mem_append.1 hq with hq | hq
    · split at hq
      · simp only [List.mem_singleton] at hq; subst hq; exact ⟨p, by simp, rfl⟩
      · cases hq
    · obtain ⟨p', hp, e⟩ := left_lots hq
      exact ⟨p', List.mem_cons_of_mem _ hp, e⟩
theorem taken_sum : ∀ {h : List Part} {d : List Int}, Fits h d → sumM (takenL h d) = d.sum
  | _, _, .nil => by simp [takenL, sumM]
  | p :: h, n :: d, .cons h0 h1 hp k => by
    have ih := taken_sum k
    simp only [takenL, List.sum_cons, sumM_app, ih]
    split
    · simp [sumM]
    · simp [sumM]; omega
theorem taken_part : ∀ {h : List Part} {d : List Int}, Fits h d → (∀ p ∈ h, PartOk p) → ∀ q ∈ takenL h d, PartOk q
  | _, _, .nil, _, q, hq => by simp [takenL] at hq
  | p :: h, n :: d, .cons h0 h1 hp k, hk, q, hq => by
    simp only [takenL] at hq
    rcases List.mem_append.1 hq with hq | hq
    · split at hq
      · have hp' := hk p (by simp)
        simp only [List.mem_singleton] at hq; subst hq
        exact ⟨hp'.l0, hp'.l1, by simp only; omega, by have := hp'.m1; simp only; omega⟩
      · cases hq
    · exact taken_part k (fun p hp => hk p (List.mem_cons_of_mem _ hp)) q hq
theorem left_part : ∀ {h : List Part} {d : List Int}, Fits h d → (∀ p ∈ h, PartOk p) → ∀ q ∈ leftL h d, PartOk q
  | _, _, .nil, _, q, hq => by simp [leftL] at hq
  | p :: h, n :: d, .cons h0 h1 hp k, hk, q, hq => by
    simp only [leftL] at hq
    rcases List.mem_append.1 hq with hq | hq
    · split at hq
      · have hp' := hk p (by simp)
        simp only [List.mem_singleton] at hq; subst hq
        exact ⟨hp'.l0, hp'.l1, by simp only; omega, by have := hp'.m1; simp only; omega⟩
      · cases hq
    · exact left_part k (fun p hp => hk p (List.mem_cons_of_mem _ hp)) q hq
theorem left_sum : ∀ {h : List Part} {d : List Int}, Fits h d → sumM (leftL h d) = sumM h - d.sum
  | _, _, .nil => by simp [leftL, sumM]
  | p :: h, n :: d, .cons h0 h1 hp k => by
    have ih := left_sum k
    have e : sumM (p :: h) = p.mass + sumM h := by simp [sumM]
    simp only [leftL, List.sum_cons, sumM_app, ih, e]
    split
    · simp [sumM]; omega
    · simp [sumM]; omega
theorem taken_rise : ∀ {h : List Part} {d : List Int}, (h.Pairwise fun a b => a.lot < b.lot) → (takenL h d).Pairwise fun a b => a.lot < b.lot
  | [], _, _ => by simp [takenL]
  | _ :: _, [], _ => by simp [takenL]
  | p :: h, n :: d, hr => by
    have hr' := List.pairwise_cons.1 hr
    have ih := taken_rise (d := d) hr'.2
    simp only [takenL]
    split
    · exact List.pairwise_cons.2 ⟨fun x hx => by obtain ⟨q, hq, e⟩ := taken_lots hx; rw [← e]; exact hr'.1 q hq, ih⟩
    · exact ih
theorem left_rise : ∀ {h : List Part} {d : List Int}, (h.Pairwise fun a b => a.lot < b.lot) → (leftL h d).Pairwise fun a b => a.lot < b.lot
  | [], _, _ => by simp [leftL]
  | _ :: _, [], _ => by simp [leftL]
  | p :: h, n :: d, hr => by
    have hr' := List.pairwise_cons.1 hr
    have ih := left_rise (d := d) hr'.2
    simp only [leftL]
    split
    · exact List.pairwise_cons.2 ⟨fun x hx => by obtain ⟨q, hq, e⟩ := left_lots hx; rw [← e]; exact hr'.1 q hq, ih⟩
    · exact ih
theorem fits_heap {h : List Part} {m : Int} (hk : HeapOk h) (hm0 : 0 ≤ m) (hm : m ≤ sumM h) (hl : h.length < 20) : Fits h (dealH m h) ∧ (dealH m h).sum = (if h = [] then 0 else m) := by
  unfold dealH
  split
  · rename_i e; subst e; exact ⟨.nil, rfl⟩
  · rename_i e
    have hd := dealOk_heap hk e hm0 hm hl
    refine ⟨Fits.of (by rw [dealS_len]; simp [massesL]) fun i hi hdi => ?_, deal_sum hd⟩
    have hi2 : i < (massesL h).length := by simpa [massesL] using hi
    have e2 : (massesL h)[i] = h[i].mass := by simp [massesL]
    exact ⟨(deal_bounds hd hi2).1, e2 ▸ deal_le hd (by rw [sum_masses]; exact hm) hi2, (hk.2.1 _ (List.getElem_mem hi)).m0⟩
end Go.Proofs.Ytlmgjjmighajdaa
