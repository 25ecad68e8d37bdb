/-
  A part of the walk and of the plain law of one given statement. No condition.
-/
import Derived.Test.YtlmgjjmighajdaaDC
set_option linter.unusedVariables false
namespace Go.Proofs.Ytlmgjjmighajdaa
open Go.Sl Go.Sx
def F35 (fuel : Nat) (x0 : Int) (x1 : Int) : Option (Int) :=
  ((nz x1).bind fun _ => ((nz x1).bind fun _ => (some ((Int.tmod (w64 ((Int.tmod x0 x1) + x1)) x1)))))
set_option maxRecDepth 100000 in
theorem f35_ok (fuel : Nat) (x0 : Int) (x1 : Int) (r : Int) (hr : F35 fuel x0 x1 = some r) (h : Zone) (L : List Atom) (w : World) (hS : St h L w)  :
    Calls Try.prog 35 #[vI x0, vI x1] w fun e w' => ∃ v, e = .returned v ∧ (v = vI r ∧ St h L w') := by
 refine calls_intro (N := 12) Try.func35 (by kernel_rfl) fun a hf => ?_
 refine c_sq [] [0, 1] hf .nil fun a1 hf1 => ?_
 obtain ⟨u1, hd1, hr1⟩ := bind_some hr
 obtain ⟨u2, hd2, hr2⟩ := bind_some hr1
 refine c_sq [] [4] hf1 (.prop (nz_spec hd1) (.prop (nz_spec hd2) .nil)) fun a2 hf2 => ?_
 refine c_ret ?_
 refine c_rt [] (vI (Int.tmod (w64 ((Int.tmod x0 x1) + x1)) x1)) hf2 .nil ?_
 obtain rfl := some_eq hr2
 exact ⟨_, rfl, rfl, hS⟩
def F94_j1 (fuel : Nat) (k1 : (List Lot) → Int → Int → Option (List Lot)) (x0 : List A4) (y1 : List Lot) (y2 : Int) (y3 : Int) (y4 : Bool) : Option (List Lot) :=
  (cond y4 ((getI x0 y3).bind fun p1 => ((F35 fuel p1.a0 3).bind fun r1 => ((getI x0 y3).bind fun p2 => ((getI x0 y3).bind fun p3 => ((getI x0 y3).bind fun p4 => ((F35 fuel p2.a1 3).bind fun r2 => ((F35 fuel p3.a2 3).bind fun r3 => ((F35 fuel p4.a3 10001).bind fun r4 => ((appC y1 ([⟨(w64 ((w64 (y2 + (1 : Int))) + r1)), (w64 ((1 : Int) + r2)), (w64 ((1 : Int) + r3)), r4⟩])).bind fun d1 => (k1 d1 (w64 ((w64 (y2 + (1 : Int))) + r1)) (w64 (y3 + (1 : Int))))))))))))) (some (y1)))
def F94_l1 (fuel : Nat) (x0 : List A4) : Nat → (List Lot) → Int → Int → Option (List Lot)
  | 0, _, _, _ => none
  | n1 + 1, y1, y2, y3 =>
    let k1 : (List Lot) → Int → Int → Option (List Lot) := F94_l1 fuel x0 n1
    (cond (decide (y3 < (x0.length : Int))) (F94_j1 fuel k1 x0 y1 y2 y3 (decide (y3 < (8 : Int)))) (F94_j1 fuel k1 x0 y1 y2 y3 false))
def F94 (fuel : Nat) (x0 : List A4) : Option (List Lot) :=
  (F94_l1 fuel x0 fuel ([]) 0 0)
set_option maxRecDepth 100000 in
theorem f94_ok (fuel : Nat) (x0 : List A4) (r : List Lot) (hr : F94 fuel x0 = some r) (h : Zone) (L : List Atom) (w : World) (hS : St h L w) (o_x0 : Option Addr) (c_x0 : Nat) (hx_x0 : SliceR A4T h o_x0 c_x0 x0) :
    Calls Try.prog 94 #[.slice o_x0 x0.length c_x0] w fun e w' => ∃ v, e = .returned v ∧ (∃ h', ∃ o0 : Option Addr, ∃ c0 : Nat, Zone.le h h' ∧ v = .slice o0 r.length c0 ∧ St h' L w' ∧ SliceR LotT h' o0 c0 r) := by
 refine calls_intro (N := 51) Try.func94 (by kernel_rfl) fun a hf => ?_
 refine c_sq [] [0] hf .nil fun a1 hf1 => ?_
 refine c_sq [] [0, 3] hf1 .nil fun a2 hf2 => ?_
 refine c_sq [] [0, 3, 4] hf2 .nil fun a3 hf3 => ?_
 refine c_seq ?_
 refine c_sq [] [0, 3, 4, 5] hf3 .nil fun a4 hf4 => ?_
 refine c_block 0 ?_
 have hS1 := hS.ownNil LotT 33
 refine c_loop (fun n a w => ∃ z1 : Zone, ∃ y1 : List Lot, ∃ y2 : Int, ∃ y3 : Int, ∃ e1 : Option Addr, ∃ q1 : Nat, Zone.le h z1 ∧ Fr a 51 [(0, .slice o_x0 x0.length c_x0), (3, .slice e1 y1.length q1), (4, vI y2), (5, vI y3)] ∧ St z1 (ownS LotT 33 e1 q1 y1 :: L) w ∧ (F94_l1 fuel x0 n y1 y2 y3) = some r) fuel ⟨h, [], 0, 0, none, 0, zr, hf4.to, hS1, hr⟩ ?_
 rintro n2 a5 ww1 ⟨z1, y1, y2, y3, e1, q1, k2, hf6, hS2, hr1⟩
 cases n2 with
 | zero => cases hr1
 | succ n1 =>
 refine c_seq ?_
 refine c_mid (fun a w => ∃ z2 : Zone, ∃ y4 : Bool, Zone.le z1 z2 ∧ Fr a 51 [(0, .slice o_x0 x0.length c_x0), (3, .slice e1 y1.length q1), (4, vI y2), (5, vI y3), (13, .bool y4)] ∧ St z2 (ownS LotT 33 e1 q1 y1 :: L) w ∧ (F94_j1 fuel (F94_l1 fuel x0 n1) x0 y1 y2 y3 y4) = some r) ?_ ?_
 ·skip
  refine c_reg ?_
  refine c_n 5 [] [0, 3, 4, 5, 10] hf6 .nil fun a6 hf7 => ?_
  rcases bft (decide (y3 < (x0.length : Int))) with hb1 | hb1
  ·have hr2 := cond_t hb1 hr1
   have hf8 := hf7.lit 10 hb1
   refine c_t [] [0, 3, 4, 5, 13] hf8 .nil fun a7 hf9 => ?_
   exact ⟨z1, (decide (y3 < (8 : Int))), zr, hf9.to, hS2, hr2⟩
  ·have hr3 := cond_f hb1 hr1
   have hf11 := hf7.lit 10 hb1
   refine c_t [] [0, 3, 4, 5, 13] hf11 .nil fun a8 hf12 => ?_
   exact ⟨z1, false, zr, hf12.to, hS2, hr3⟩
 ·rintro a9 ww2 ⟨z2, y4, k3, hf14, hS3, hr4⟩
  refine c_if y4 hf14 (fun hb2 => ?_) (fun hb2 => ?_)
  ·have hr5 := cond_t hb2 hr4
   refine c_skip ?_
   refine n_then ?_
   refine c_seq ?_
   refine c_block 1 ?_
   refine c_sr ?_
   obtain ⟨p1, hp3331, hr6⟩ := bind_some hr5
   obtain ⟨ad1, ho1, hb3, cc1, hc1, hk1⟩ := SliceR.getI (SliceR.mono (zt k2 k3) hx_x0) hp3331
   subst hc1
   refine c_n (oC := [.prop (o_x0 = some ad1), .prop (0 ≤ y3 ∧ y3 < (x0.length : Nat)), .prop ((0 : Int) ≤ 0 ∧ (0 : Int) < (4 : Nat)), .cell ((ad1.add (Int.toNat y3 * 4)).add 0) (vI p1.a0)]) 7 [.pointer (some ad1), vI p1.a0] [0, 3, 5, 17, 22] hf14 (.prop ho1 (.prop hb3 (.prop (by decide) (.cell (hS3.cell (hk1 0 _ rfl)) .nil)))) fun a10 hf15 => ?_
   obtain ⟨r1, hd1, hr7⟩ := bind_some hr6
   refine c_call hf15 (f35_ok fuel p1.a0 3 r1 hd1 z2 _ _ hS3 ) ?_
   rintro v1 ww3 a11 ⟨rfl, hS4⟩ hf16
   refine ⟨fun _ => trivial, ?_⟩
   refine c_t [] [0, 3, 4, 5] hf16 .nil fun a12 hf17 => ?_
   have hS5 := hS4.drew
   have s1 := Sub.of zr hS5
   refine c_regD [(0, true), (1, true), (2, true), (3, true), (4, true), (5, true), (6, true), (9, true), (10, true), (11, true), (12, true), (13, true), (16, true), (17, true), (18, true), (19, true), (20, true), (7, false), (8, true), (14, false), (15, true), (21, false), (22, true), (23, false), (24, false), (25, true)] [21, 23, 24] _ s1 ?_
   obtain ⟨p2, hp3359, hr8⟩ := bind_some hr7
   obtain ⟨ad2, ho2, hb4, cc2, hc2, hk2⟩ := SliceR.getI (SliceR.mono (zt k2 k3) hx_x0) hp3359
   subst hc2
   obtain ⟨p3, hp3368, hr9⟩ := bind_some hr8
   obtain ⟨ad3, ho3, hb5, cc3, hc3, hk3⟩ := SliceR.getI (SliceR.mono (zt k2 k3) hx_x0) hp3368
   subst hc3
   obtain ⟨p4, hp3377, hr10⟩ := bind_some hr9
   obtain ⟨ad4, ho4, hb6, cc4, hc4, hk4⟩ := SliceR.getI (SliceR.mono (zt k2 k3) hx_x0) hp3377
   subst hc4
   refine c_S (oF := [.prop (o_x0 = some ad2), .prop (0 ≤ y3 ∧ y3 < (x0.length : Nat)), .prop ((0 : Int) ≤ 1 ∧ (1 : Int) < (4 : Nat)), .cell ((ad2.add (Int.toNat y3 * 4)).add 1) (vI p2.a1), .prop (o_x0 = some ad3), .prop (0 ≤ y3 ∧ y3 < (x0.length : Nat)), .prop ((0 : Int) ≤ 2 ∧ (2 : Int) < (4 : Nat)), .cell ((ad3.add (Int.toNat y3 * 4)).add 2) (vI p3.a2), .prop (o_x0 = some ad4), .prop (0 ≤ y3 ∧ y3 < (x0.length : Nat)), .prop ((0 : Int) ≤ 3 ∧ (3 : Int) < (4 : Nat)), .cell ((ad4.add (Int.toNat y3 * 4)).add 3) (vI p4.a3)]) 17 [.pointer (some ad2), vI p2.a1, .pointer (some ad3), vI p3.a2, .pointer (some ad4), vI p4.a3] [0, 4, 5, 25, 26, 31, 38, 45] s1 hf17 (fun _ s => (.prop ho2 (.prop hb4 (.prop (by decide) (.cell (s.cell (hk2 1 _ rfl)) (.prop ho3 (.prop hb5 (.prop (by decide) (.cell (s.cell (hk3 2 _ rfl)) (.prop ho4 (.prop hb6 (.prop (by decide) (.cell (s.cell (hk4 3 _ rfl)) .nil))))))))))))) .nil fun a13 hf18 => ?_
   obtain ⟨r2, hd2, hr11⟩ := bind_some hr10
   refine c_call hf18 (f35_ok fuel p2.a1 3 r2 hd2 z2 _ _ hS5 ) ?_
   rintro v2 ww4 a14 ⟨rfl, hS6⟩ hf19
   refine ⟨fun _ => Sub.of zr hS6, ?_⟩
   have s2 := Sub.of zr hS6
   refine c_S 1 [] [0, 4, 5, 25, 26, 33, 38, 45] s2 hf19 (fun _ s => .nil) .nil fun a15 hf20 => ?_
   obtain ⟨r3, hd3, hr12⟩ := bind_some hr11
   refine c_call hf20 (f35_ok fuel p3.a2 3 r3 hd3 z2 _ _ hS6 ) ?_
   rintro v3 ww5 a16 ⟨rfl, hS7⟩ hf21
   refine ⟨fun _ => Sub.of zr hS7, ?_⟩
   have s3 := Sub.of zr hS7
   refine c_S 1 [] [0, 4, 5, 25, 26, 33, 40, 45] s3 hf21 (fun _ s => .nil) .nil fun a17 hf22 => ?_
   obtain ⟨r4, hd4, hr13⟩ := bind_some hr12
   refine c_call hf22 (f35_ok fuel p4.a3 10001 r4 hd4 z2 _ _ hS7 ) ?_
   rintro v4 ww6 a18 ⟨rfl, hS8⟩ hf23
   refine ⟨fun e => absurd e (by decide), ?_⟩
   refine p_qP 1 [] [(0, .slice o_x0 x0.length c_x0), (4, vI (w64 ((w64 (y2 + (1 : Int))) + r1))), (5, vI y3), (25, .slice e1 y1.length q1), (47, .agg #[vI (w64 ((w64 (y2 + (1 : Int))) + r1)), vI (w64 ((1 : Int) + r2)), vI (w64 ((1 : Int) + r3)), vI r4])] [] hf23 (by kernel_rfl) (fun _ => .nil) fun a19 hf24 => ?_
   refine p_box (i := 23) (d := (some 48)) (cs := [vI (w64 ((w64 (y2 + (1 : Int))) + r1)), vI (w64 ((1 : Int) + r2)), vI (w64 ((1 : Int) + r3)), vI r4]) (T := 33) (v := fun b1 => .slice (some ⟨b1, 0, none⟩) 1 1) hS8 hf24 (fun b => by kernel_rfl) fun b1 ww7 a20 hS9 hf25 => ⟨fun e => absurd e (by decide), ?_⟩
   have hS10 := hS9.ownBox (T := LotT) (E := 33) (n := 1) (xs := [⟨(w64 ((w64 (y2 + (1 : Int))) + r1)), (w64 ((1 : Int) + r2)), (w64 ((1 : Int) + r3)), r4⟩]) (i := 0) rfl (Rows.cons (c := [vI (w64 ((w64 (y2 + (1 : Int))) + r1)), vI (w64 ((1 : Int) + r2)), vI (w64 ((1 : Int) + r3)), vI r4]) rfl rfl) rfl (by decide)
   obtain ⟨d1, hd5, hr14⟩ := bind_some hr13
   refine p_append (T := LotT) (i := 24) (j := 1) (d := some 49) (o2 := (some ⟨b1, 0, none⟩)) (c2 := 1) (ys := ([⟨(w64 ((w64 (y2 + (1 : Int))) + r1)), (w64 ((1 : Int) + r2)), (w64 ((1 : Int) + r3)), r4⟩])) el22 hS10 hf25 rfl (by kernel_rfl) (hS10.ownSrc (j := 0) rfl) hd5 fun e2 q2 ww8 a21 hS11 hf26 => ⟨fun e => absurd e (by decide), ?_⟩
   refine p_qP 1 [] [(0, .slice o_x0 x0.length c_x0), (3, .slice e2 d1.length q2), (4, vI (w64 ((w64 (y2 + (1 : Int))) + r1))), (5, vI y3)] [] hf26 (by kernel_rfl) (fun _ => .nil) fun a22 hf27 => ?_
   refine c_done ?_
   refine n_block ?_
   refine n_then ?_
   refine c_q [] [0, 3, 4, 5] hf27 .nil fun a23 hf28 => ?_
   refine n_then ?_
   exact ⟨n1, Nat.lt_succ_self n1, z2, d1, (w64 ((w64 (y2 + (1 : Int))) + r1)), (w64 (y3 + (1 : Int))), e2, q2, (zt k2 k3), hf28.to, (St.drop 1 hS11), hr14⟩
  ·have hr15 := cond_f hb2 hr4
   refine c_exit 0 ?_
   refine x_then ?_
   refine x_then ?_
   refine x_block ?_
   refine n_then ?_
   refine c_sq [] [2] hf14 .nil fun a24 hf30 => ?_
   refine c_ret ?_
   obtain ⟨z3, k4, hS12, hx1⟩ := hS3.share (j := 0) rfl
   refine c_rt [] (.slice e1 y1.length q1) hf30 .nil ?_
   obtain rfl := some_eq hr15
   exact ⟨_, rfl, z3, e1, q1, (zt (zt k2 k3) k4), rfl, (St.drop 1 hS12), hx1⟩
def F95_j2 (fuel : Nat) (x0l : List Lot) (x0h : List (List (List Part))) (r1 : Int) (y1 : Int) (y2 : Int) (y3 : Int) (y4 : Int) : Option (Int × Int × Int × Int × Int × Bool) :=
  ((F24 fuel x0l x0h (w64 ((1 : Int) + r1)) y1 y2 y3 y4).bind fun r2 => (some ((w64 ((1 : Int) + r1)), y1, y2, y3, y4, (r2 == (0 : Int)))))
def F95_j4 (fuel : Nat) (x0l : List Lot) (x0h : List (List (List Part))) (y5 : Int) (r1 : Int) (r3 : Int) (y6 : Int) : Option (Int × Int × Int × Int × Int × Bool) :=
  (cond ((w64 ((1 : Int) + r1)) != (6 : Int)) ((getI x0h r3).bind fun p1 => ((F77 fuel p1).bind fun r4 => ((F35 fuel y5 (if r4 > 1 then r4 else 1)).bind fun r5 => (F95_j2 fuel x0l x0h r1 0 r3 y6 (w64 ((1 : Int) + r5)))))) (F95_j2 fuel x0l x0h r1 0 r3 y6 0))
def F95_j3 (fuel : Nat) (x0l : List Lot) (x0h : List (List (List Part))) (y7 : Int) (y5 : Int) (r1 : Int) (r3 : Int) (r6 : Int) (y8 : Int) (y9 : Bool) : Option (Int × Int × Int × Int × Int × Bool) :=
  (cond y9 ((F35 fuel y7 (x0l.length : Int)).bind fun r7 => ((getI x0l r7).bind fun p2 => (F95_j2 fuel x0l x0h r1 p2.id 0 r6 y8))) (cond ((w64 ((1 : Int) + r1)) == (4 : Int)) (F95_j4 fuel x0l x0h y5 r1 r3 r6) (F95_j4 fuel x0l x0h y5 r1 r3 0)))
def F95_j1 (fuel : Nat) (x0l : List Lot) (x0h : List (List (List Part))) (y7 : Int) (y5 : Int) (r1 : Int) (r3 : Int) (r6 : Int) (y8 : Int) : Option (Int × Int × Int × Int × Int × Bool) :=
  (cond ((w64 ((1 : Int) + r1)) == (1 : Int)) (F95_j3 fuel x0l x0h y7 y5 r1 r3 r6 y8 true) (F95_j3 fuel x0l x0h y7 y5 r1 r3 r6 y8 ((w64 ((1 : Int) + r1)) == (2 : Int))))
def F95 (fuel : Nat) (x0l : List Lot) (x0h : List (List (List Part))) (y10 : Int) (y7 : Int) (y11 : Int) (y12 : Int) (y5 : Int) : Option (Int × Int × Int × Int × Int × Bool) :=
  ((F35 fuel y10 6).bind fun r1 => ((F35 fuel y11 4).bind fun r3 => ((F35 fuel y12 4).bind fun r6 => ((F35 fuel y5 400).bind fun r8 => ((F35 fuel (w64 (Int.tdiv y5 400)) 9).bind fun r9 => (cond (r9 == (0 : Int)) ((F35 fuel y5 5000000).bind fun r10 => (F95_j1 fuel x0l x0h y7 y5 r1 r3 r6 (w64 ((1 : Int) + r10)))) (F95_j1 fuel x0l x0h y7 y5 r1 r3 r6 (w64 ((1 : Int) + r8)))))))))
set_option maxRecDepth 100000 in
theorem f95_ok (fuel : Nat) (x0l : List Lot) (x0h : List (List (List Part))) (y10 : Int) (y7 : Int) (y11 : Int) (y12 : Int) (y5 : Int) (r : Int × Int × Int × Int × Int × Bool) (hr : F95 fuel x0l x0h y10 y7 y11 y12 y5 = some r) (h : Zone) (L : List Atom) (w : World) (hS : St h L w) (o_x0l : Option Addr) (c_x0l : Nat) (hx_x0l : SliceR LotT h o_x0l c_x0l x0l) (V00 V01 V02 V03 V04 V05 V06 V07 V08 : Value) (hx_x0h : (Ty.arr 9 (Ty.slice (Ty.slice PartT))).rep h [V00, V01, V02, V03, V04, V05, V06, V07, V08] x0h) :
    Calls Try.prog 95 #[.agg #[.slice o_x0l x0l.length c_x0l, V00, V01, V02, V03, V04, V05, V06, V07, V08], .agg #[vI y10, vI y7, vI y11, vI y12, vI y5]] w fun e w' => ∃ v, e = .returned v ∧ (∃ h', Zone.le h h' ∧ v = .tuple #[.agg #[vI r.1, vI r.2.1, vI r.2.2.1, vI r.2.2.2.1, vI r.2.2.2.2.1], .bool r.2.2.2.2.2] ∧ St h' L w') := by
 refine calls_intro (N := 84) Try.func95 (by kernel_rfl) fun a hf => ?_
 refine c_sr ?_
 refine c_box [.slice o_x0l x0l.length c_x0l, V00, V01, V02, V03, V04, V05, V06, V07, V08] 26 hS hf fun b1 ww1 a1 hS1 hf1 => ⟨fun _ => trivial, ?_⟩
 refine c_box [vI y10, vI y7, vI y11, vI y12, vI y5] 136 hS1 hf1 fun b2 ww2 a2 hS2 hf2 => ⟨fun _ => trivial, ?_⟩
 refine c_box [vI 0, vI 0, vI 0, vI 0, vI 0] 28 hS2 hf2 fun b3 ww3 a3 hS3 hf3 => ⟨fun _ => trivial, ?_⟩
 refine c_t [] [2, 3, 4] hf3 .nil fun a4 hf4 => ?_
 refine c_sr ?_
 refine c_n (oC := [.prop ((0 : Int) ≤ 0 ∧ (0 : Int) < (5 : Nat)), .cell ⟨b2, 0, none⟩ (vI y10)]) 2 [vI y10] [2, 3, 4, 11] hf4 (.prop (by decide) (.cell (hS3.box (i := 1) rfl (j := 0) rfl) .nil)) fun a5 hf5 => ?_
 obtain ⟨r1, hd1, hr1⟩ := bind_some hr
 refine c_call hf5 (f35_ok fuel y10 6 r1 hd1 h _ _ hS3 ) ?_
 rintro v1 ww4 a6 ⟨rfl, hS4⟩ hf6
 refine ⟨fun _ => trivial, ?_⟩
 refine c_n 2 [] [2, 3, 4, 14] hf6 .nil fun a7 hf7 => ?_
 refine c_box [vI 0, vI 0, vI 0, vI 0, vI 0] 28 hS4 hf7 fun b4 ww5 a8 hS5 hf8 => ⟨fun _ => trivial, ?_⟩
 refine c_st 0 [vI (w64 ((1 : Int) + r1)), vI 0, vI 0, vI 0, vI 0] hS5 hf8 rfl fun ww6 a9 hS6 hf9 => ⟨fun _ => trivial, ?_⟩
 refine c_dt ?_
 refine c_sr ?_
 refine c_n (oC := [.prop ((0 : Int) ≤ 2 ∧ (2 : Int) < (5 : Nat)), .cell ⟨b2, 2, none⟩ (vI y11)]) 2 [vI y11] [2, 3, 4, 6, 16] hf9 (.prop (by decide) (.cell (hS6.box (i := 2) rfl (j := 2) rfl) .nil)) fun a10 hf10 => ?_
 obtain ⟨r3, hd2, hr2⟩ := bind_some hr1
 refine c_call hf10 (f35_ok fuel y11 4 r3 hd2 h _ _ hS6 ) ?_
 rintro v2 ww7 a11 ⟨rfl, hS7⟩ hf11
 refine ⟨fun _ => trivial, ?_⟩
 refine c_t [] [2, 3, 4, 6, 7] hf11 .nil fun a12 hf12 => ?_
 refine c_sr ?_
 refine c_n (oC := [.prop ((0 : Int) ≤ 3 ∧ (3 : Int) < (5 : Nat)), .cell ⟨b2, 3, none⟩ (vI y12)]) 2 [vI y12] [2, 3, 4, 6, 7, 19] hf12 (.prop (by decide) (.cell (hS7.box (i := 2) rfl (j := 3) rfl) .nil)) fun a13 hf13 => ?_
 obtain ⟨r6, hd3, hr3⟩ := bind_some hr2
 refine c_call hf13 (f35_ok fuel y12 4 r6 hd3 h _ _ hS7 ) ?_
 rintro v3 ww8 a14 ⟨rfl, hS8⟩ hf14
 refine ⟨fun _ => trivial, ?_⟩
 refine c_t [] [2, 3, 4, 6, 7, 8] hf14 .nil fun a15 hf15 => ?_
 refine c_sr ?_
 refine c_n (oC := [.prop ((0 : Int) ≤ 4 ∧ (4 : Int) < (5 : Nat)), .cell ⟨b2, 4, none⟩ (vI y5)]) 2 [vI y5] [2, 3, 4, 6, 7, 8, 22] hf15 (.prop (by decide) (.cell (hS8.box (i := 2) rfl (j := 4) rfl) .nil)) fun a16 hf16 => ?_
 obtain ⟨r8, hd4, hr4⟩ := bind_some hr3
 refine c_call hf16 (f35_ok fuel y5 400 r8 hd4 h _ _ hS8 ) ?_
 rintro v4 ww9 a17 ⟨rfl, hS9⟩ hf17
 refine ⟨fun _ => trivial, ?_⟩
 refine c_t [] [2, 3, 4, 6, 7, 8, 9] hf17 .nil fun a18 hf18 => ?_
 refine c_mid (fun a w => ∃ z1 : Zone, ∃ y8 : Int, Zone.le h z1 ∧ Fr a 84 [(2, pB b1 0), (3, pB b2 0), (4, pB b3 0), (6, pB b4 0), (7, vI r3), (8, vI r6), (9, vI y8)] ∧ St z1 (box b4 [vI (w64 ((1 : Int) + r1)), vI 0, vI 0, vI 0, vI 0] 28 :: box b3 [vI 0, vI 0, vI 0, vI 0, vI 0] 28 :: box b2 [vI y10, vI y7, vI y11, vI y12, vI y5] 136 :: box b1 [.slice o_x0l x0l.length c_x0l, V00, V01, V02, V03, V04, V05, V06, V07, V08] 26 :: L) w ∧ (F95_j1 fuel x0l x0h y7 y5 r1 r3 r6 y8) = some r) ?_ ?_
 ·skip
  refine c_sr ?_
  refine c_n (oC := [.prop ((0 : Int) ≤ 4 ∧ (4 : Int) < (5 : Nat)), .cell ⟨b2, 4, none⟩ (vI y5), .prop ((400 : Int) ≠ 0)]) 3 [vI y5] [2, 3, 4, 6, 7, 8, 9, 27] hf18 (.prop (by decide) (.cell (hS9.box (i := 2) rfl (j := 4) rfl) (.prop (by decide) .nil))) fun a19 hf19 => ?_
  obtain ⟨r9, hd5, hr5⟩ := bind_some hr4
  refine c_call hf19 (f35_ok fuel (w64 (Int.tdiv y5 400)) 9 r9 hd5 h _ _ hS9 ) ?_
  rintro v5 ww10 a20 ⟨rfl, hS10⟩ hf20
  refine ⟨fun _ => trivial, ?_⟩
  refine c_t [] [2, 3, 4, 6, 7, 8, 9, 29] hf20 .nil fun a21 hf21 => ?_
  refine c_if (r9 == (0 : Int)) hf21 (fun hb1 => ?_) (fun hb1 => ?_)
  ·have hr6 := cond_t hb1 hr5
   refine c_reg ?_
   refine c_n (oC := [.prop ((0 : Int) ≤ 4 ∧ (4 : Int) < (5 : Nat)), .cell ⟨b2, 4, none⟩ (vI y5)]) 2 [vI y5] [2, 3, 4, 6, 7, 8, 31] hf21 (.prop (by decide) (.cell (hS10.box (i := 2) rfl (j := 4) rfl) .nil)) fun a22 hf22 => ?_
   obtain ⟨r10, hd6, hr7⟩ := bind_some hr6
   refine c_call hf22 (f35_ok fuel y5 5000000 r10 hd6 h _ _ hS10 ) ?_
   rintro v6 ww11 a23 ⟨rfl, hS11⟩ hf23
   refine ⟨fun _ => trivial, ?_⟩
   refine c_t [] [2, 3, 4, 6, 7, 8, 9] hf23 .nil fun a24 hf24 => ?_
   exact ⟨h, (w64 ((1 : Int) + r10)), zr, hf24.to, hS11, hr7⟩
  ·have hr8 := cond_f hb1 hr5
   refine c_skip ?_
   refine n_then ?_
   exact ⟨h, (w64 ((1 : Int) + r8)), zr, hf21.to, hS10, hr8⟩
 ·rintro a25 ww12 ⟨z1, y8, k1, hf27, hS12, hr9⟩
  refine c_mid (fun a w => ∃ z2 : Zone, ∃ y1 : Int, ∃ y2 : Int, ∃ y3 : Int, ∃ y4 : Int, Zone.le z1 z2 ∧ Fr a 84 [(2, pB b1 0), (4, pB b3 0), (6, pB b4 0)] ∧ St z2 (box b4 [vI (w64 ((1 : Int) + r1)), vI y1, vI y2, vI y3, vI y4] 28 :: box b3 [vI 0, vI 0, vI 0, vI 0, vI 0] 28 :: box b2 [vI y10, vI y7, vI y11, vI y12, vI y5] 136 :: box b1 [.slice o_x0l x0l.length c_x0l, V00, V01, V02, V03, V04, V05, V06, V07, V08] 26 :: L) w ∧ (F95_j2 fuel x0l x0h r1 y1 y2 y3 y4) = some r) ?_ ?_
  ·skip
   refine c_mid (fun a w => ∃ z3 : Zone, ∃ y9 : Bool, Zone.le z1 z3 ∧ Fr a 84 [(2, pB b1 0), (3, pB b2 0), (4, pB b3 0), (6, pB b4 0), (7, vI r3), (8, vI r6), (9, vI y8), (41, .bool y9)] ∧ St z3 (box b4 [vI (w64 ((1 : Int) + r1)), vI 0, vI 0, vI 0, vI 0] 28 :: box b3 [vI 0, vI 0, vI 0, vI 0, vI 0] 28 :: box b2 [vI y10, vI y7, vI y11, vI y12, vI y5] 136 :: box b1 [.slice o_x0l x0l.length c_x0l, V00, V01, V02, V03, V04, V05, V06, V07, V08] 26 :: L) w ∧ (F95_j3 fuel x0l x0h y7 y5 r1 r3 r6 y8 y9) = some r) ?_ ?_
   ·skip
    refine c_reg ?_
    refine c_n 4 [vI (w64 ((1 : Int) + r1))] [2, 3, 4, 6, 7, 8, 9, 37] hf27 (.cell (hS12.box (i := 0) rfl (j := 0) rfl) .nil) fun a26 hf28 => ?_
    rcases bft ((w64 ((1 : Int) + r1)) == (1 : Int)) with hb2 | hb2
    ·have hr10 := cond_t hb2 hr9
     have hf29 := hf28.lit 37 hb2
     refine c_t [] [2, 3, 4, 6, 7, 8, 9, 41] hf29 .nil fun a27 hf30 => ?_
     exact ⟨z1, true, zr, hf30.to, hS12, hr10⟩
    ·have hr11 := cond_f hb2 hr9
     have hf32 := hf28.lit 37 hb2
     refine c_t [vI (w64 ((1 : Int) + r1))] [2, 3, 4, 6, 7, 8, 9, 41] hf32 (.cell (hS12.box (i := 0) rfl (j := 0) rfl) .nil) fun a28 hf33 => ?_
     exact ⟨z1, ((w64 ((1 : Int) + r1)) == (2 : Int)), zr, hf33.to, hS12, hr11⟩
   ·rintro a29 ww13 ⟨z3, y9, k2, hf35, hS13, hr12⟩
    refine c_if y9 hf35 (fun hb3 => ?_) (fun hb3 => ?_)
    ·have hr13 := cond_t hb3 hr12
     refine c_seq ?_
     have hS14 := hS13.drew
     have s1 := Sub.of zr hS14
     refine c_regD [(0, true), (1, true), (2, true), (3, true), (4, true), (5, true), (6, true), (7, false), (8, true), (9, true), (10, true), (11, true), (12, false)] [12] _ s1 ?_
     refine c_S (oF := [.cell ⟨b1, 0, none⟩ (.slice o_x0l x0l.length c_x0l), .prop ((0 : Int) ≤ 1 ∧ (1 : Int) < (5 : Nat)), .cell ⟨b2, 1, none⟩ (vI y7), .cell ⟨b1, 0, none⟩ (.slice o_x0l x0l.length c_x0l)]) 7 [.slice o_x0l x0l.length c_x0l, vI y7, .slice o_x0l x0l.length c_x0l] [2, 4, 6, 8, 9, 43, 45, 48] s1 hf35 (fun _ s => (.cell (s.box (i := 3) rfl (j := 0) rfl) (.prop (by decide) (.cell (s.box (i := 2) rfl (j := 1) rfl) (.cell (s.box (i := 3) rfl (j := 0) rfl) .nil))))) .nil fun a30 hf36 => ?_
     obtain ⟨r7, hd7, hr14⟩ := bind_some hr13
     refine c_call hf36 (f35_ok fuel y7 (x0l.length : Int) r7 hd7 z3 _ _ hS14 ) ?_
     rintro v7 ww14 a31 ⟨rfl, hS15⟩ hf37
     refine ⟨fun _ => Sub.of zr hS15, ?_⟩
     have s2 := Sub.of zr hS15
     obtain ⟨p2, hp886, hr15⟩ := bind_some hr14
     obtain ⟨ad1, ho1, hb4, cc1, hc1, hk1⟩ := SliceR.getI (SliceR.mono (zt k1 k2) hx_x0l) hp886
     subst hc1
     refine c_S 4 [.pointer (some ad1), vI p2.id] [2, 4, 6, 8, 9, 52, 53] s2 hf37 (fun _ s => (.prop ho1 (.prop hb4 (.cell (s.cell (hk1 0 _ rfl)) .nil)))) .nil fun a32 hf38 => ?_
     refine c_st 0 [vI (w64 ((1 : Int) + r1)), vI p2.id, vI 0, vI 0, vI 0] hS15 hf38 rfl fun ww15 a33 hS16 hf39 => ⟨fun e => absurd e (by decide), ?_⟩
     refine c_dt ?_
     refine c_sr ?_
     refine c_n 2 [] [2, 4, 6, 9, 54, 55] hf39 .nil fun a34 hf40 => ?_
     refine c_st 0 [vI (w64 ((1 : Int) + r1)), vI p2.id, vI 0, vI r6, vI 0] hS16 hf40 rfl fun ww16 a35 hS17 hf41 => ⟨fun _ => trivial, ?_⟩
     refine c_dt ?_
     refine c_reg ?_
     refine c_n 2 [] [2, 4, 6, 56, 57] hf41 .nil fun a36 hf42 => ?_
     refine c_st 0 [vI (w64 ((1 : Int) + r1)), vI p2.id, vI 0, vI r6, vI y8] hS17 hf42 rfl fun ww17 a37 hS18 hf43 => ⟨fun _ => trivial, ?_⟩
     refine c_dt ?_
     exact ⟨z3, p2.id, 0, r6, y8, k2, hf43.to, hS18, hr15⟩
    ·have hr16 := cond_f hb3 hr12
     refine c_sr ?_
     refine c_n 2 [] [2, 3, 4, 6, 7, 8, 58, 59] hf35 .nil fun a38 hf45 => ?_
     refine c_st 0 [vI (w64 ((1 : Int) + r1)), vI 0, vI r3, vI 0, vI 0] hS13 hf45 rfl fun ww18 a39 hS19 hf46 => ⟨fun _ => trivial, ?_⟩
     refine c_dt ?_
     refine c_mid (fun a w => ∃ z4 : Zone, ∃ y6 : Int, Zone.le z3 z4 ∧ Fr a 84 [(2, pB b1 0), (3, pB b2 0), (4, pB b3 0), (6, pB b4 0), (7, vI r3)] ∧ St z4 (box b4 [vI (w64 ((1 : Int) + r1)), vI 0, vI r3, vI y6, vI 0] 28 :: box b3 [vI 0, vI 0, vI 0, vI 0, vI 0] 28 :: box b2 [vI y10, vI y7, vI y11, vI y12, vI y5] 136 :: box b1 [.slice o_x0l x0l.length c_x0l, V00, V01, V02, V03, V04, V05, V06, V07, V08] 26 :: L) w ∧ (F95_j4 fuel x0l x0h y5 r1 r3 y6) = some r) ?_ ?_
     ·skip
      refine c_sq [vI (w64 ((1 : Int) + r1))] [2, 3, 4, 6, 7, 8, 62] hf46 (.cell (hS19.box (i := 0) rfl (j := 0) rfl) .nil) fun a40 hf47 => ?_
      refine c_if ((w64 ((1 : Int) + r1)) == (4 : Int)) hf47 (fun hb5 => ?_) (fun hb5 => ?_)
      ·have hr17 := cond_t hb5 hr16
       refine c_reg ?_
       refine c_n 2 [] [2, 3, 4, 6, 7, 63, 64] hf47 .nil fun a41 hf48 => ?_
       refine c_st 0 [vI (w64 ((1 : Int) + r1)), vI 0, vI r3, vI r6, vI 0] hS19 hf48 rfl fun ww19 a42 hS20 hf49 => ⟨fun _ => trivial, ?_⟩
       refine c_dt ?_
       exact ⟨z3, r6, zr, hf49.to, hS20, hr17⟩
      ·have hr18 := cond_f hb5 hr16
       refine c_skip ?_
       refine n_then ?_
       exact ⟨z3, 0, zr, hf47.to, hS19, hr18⟩
     ·rintro a43 ww20 ⟨z4, y6, k3, hf52, hS21, hr19⟩
      refine c_sq [vI (w64 ((1 : Int) + r1))] [2, 3, 4, 6, 7, 67] hf52 (.cell (hS21.box (i := 0) rfl (j := 0) rfl) .nil) fun a44 hf53 => ?_
      refine c_if ((w64 ((1 : Int) + r1)) != (6 : Int)) hf53 (fun hb6 => ?_) (fun hb6 => ?_)
      ·have hr20 := cond_t hb6 hr19
       have hS22 := hS21.drew
       have s3 := Sub.of zr hS22
       refine c_regD [(0, true), (1, true), (2, true), (3, true), (4, true), (5, true), (6, false), (7, true), (8, false), (9, true), (10, true), (11, false)] [8, 11] _ s3 ?_
       obtain ⟨p1, hp981, hr21⟩ := bind_some hr20
       obtain ⟨hb7, _, hv1, e1, q1, hehv985, hx1⟩ := arrGet (Ty.mono _ (zt (zt k1 k2) k3) hx_x0h) rfl hp981
       obtain rfl := List.head_eq_of_cons_eq hehv985
       refine c_S (oF := [.prop ((0 : Int) ≤ 4 ∧ (4 : Int) < (5 : Nat)), .cell ⟨b2, 4, none⟩ (vI y5), .prop (0 ≤ r3 ∧ r3 < (9 : Nat)), .cell ((⟨b1, 1, none⟩ : Addr).add (Int.toNat r3 * 1)) (.slice e1 p1.length q1)]) 6 [vI y5, .slice e1 p1.length q1] [2, 4, 6, 69, 73] s3 hf53 (fun _ s => (.prop (by decide) (.cell (s.box (i := 2) rfl (j := 4) rfl) (.prop hb7 (.cell ((arrAddr b1 1 r3.toNat) ▸ (s.box (i := 3) rfl (getElem?_app_right [.slice o_x0l x0l.length c_x0l] _ _ hv1 []))) .nil))))) .nil fun a45 hf54 => ?_
       obtain ⟨r4, hd8, hr22⟩ := bind_some hr21
       refine c_call hf54 (f77_ok fuel p1 r4 hd8 z4 _ _ hS22 e1 q1 hx1) ?_
       rintro v8 ww21 a46 ⟨z5, k4, rfl, hS23⟩ hf55
       refine ⟨fun _ => Sub.of k4 hS23, ?_⟩
       have s4 := Sub.of k4 hS23
       refine c_S 1 [] [2, 4, 6, 69, 75] s4 hf55 (fun _ s => .nil) .nil fun a47 hf56 => ?_
       obtain ⟨r5, hd9, hr23⟩ := bind_some hr22
       refine c_call hf56 (f35_ok fuel y5 (if r4 > 1 then r4 else 1) r5 hd9 z5 _ _ hS23 ) ?_
       rintro v9 ww22 a48 ⟨rfl, hS24⟩ hf57
       refine ⟨fun e => absurd e (by decide), ?_⟩
       refine p_qP 2 [] [(2, pB b1 0), (4, pB b3 0), (6, pB b4 0), (77, vI (w64 ((1 : Int) + r5))), (78, pB b4 4)] [] hf57 (by kernel_rfl) (fun _ => .nil) fun a49 hf58 => ?_
       refine c_st 0 [vI (w64 ((1 : Int) + r1)), vI 0, vI r3, vI y6, vI (w64 ((1 : Int) + r5))] hS24 hf58 rfl fun ww23 a50 hS25 hf59 => ⟨fun e => absurd e (by decide), ?_⟩
       refine c_dt ?_
       exact ⟨z5, 0, r3, y6, (w64 ((1 : Int) + r5)), (zt (zt k2 k3) k4), hf59.to, hS25, hr23⟩
      ·have hr24 := cond_f hb6 hr19
       refine c_skip ?_
       refine n_then ?_
       exact ⟨z4, 0, r3, y6, 0, (zt k2 k3), hf53.to, hS21, hr24⟩
  ·rintro a51 ww24 ⟨z2, y1, y2, y3, y4, k5, hf62, hS26, hr25⟩
   refine c_seq ?_
   have hS27 := hS26.drew
   have s5 := Sub.of zr hS27
   refine c_regD [(0, true), (1, true), (2, true), (3, false), (4, true), (5, false), (6, true)] [5] _ s5 ?_
   refine c_S 3 [vI (w64 ((1 : Int) + r1)), vI y1, vI y2, vI y3, vI y4, .slice o_x0l x0l.length c_x0l, V00, V01, V02, V03, V04, V05, V06, V07, V08, vI (w64 ((1 : Int) + r1)), vI y1, vI y2, vI y3, vI y4] [4, 79, 80, 81] s5 hf62 (fun _ s => (.cell (s.box (i := 0) rfl (j := 0) rfl) (.cell (s.box (i := 0) rfl (j := 1) rfl) (.cell (s.box (i := 0) rfl (j := 2) rfl) (.cell (s.box (i := 0) rfl (j := 3) rfl) (.cell (s.box (i := 0) rfl (j := 4) rfl) (.cell (s.box (i := 3) rfl (j := 0) rfl) (.cell (s.box (i := 3) rfl (j := 1) rfl) (.cell (s.box (i := 3) rfl (j := 2) rfl) (.cell (s.box (i := 3) rfl (j := 3) rfl) (.cell (s.box (i := 3) rfl (j := 4) rfl) (.cell (s.box (i := 3) rfl (j := 5) rfl) (.cell (s.box (i := 3) rfl (j := 6) rfl) (.cell (s.box (i := 3) rfl (j := 7) rfl) (.cell (s.box (i := 3) rfl (j := 8) rfl) (.cell (s.box (i := 3) rfl (j := 9) rfl) (.cell (s.box (i := 0) rfl (j := 0) rfl) (.cell (s.box (i := 0) rfl (j := 1) rfl) (.cell (s.box (i := 0) rfl (j := 2) rfl) (.cell (s.box (i := 0) rfl (j := 3) rfl) (.cell (s.box (i := 0) rfl (j := 4) rfl) .nil))))))))))))))))))))) .nil fun a52 hf63 => ?_
   obtain ⟨r2, hd10, hr26⟩ := bind_some hr25
   refine c_call hf63 (f24_ok fuel x0l x0h (w64 ((1 : Int) + r1)) y1 y2 y3 y4 r2 hd10 z2 _ _ hS27 o_x0l c_x0l (SliceR.mono (zt k1 k5) hx_x0l) V00 V01 V02 V03 V04 V05 V06 V07 V08 (Ty.mono _ (zt k1 k5) hx_x0h)) ?_
   rintro v10 ww25 a53 ⟨z6, k6, rfl, hS28⟩ hf64
   refine ⟨fun _ => Sub.of k6 hS28, ?_⟩
   have s6 := Sub.of k6 hS28
   refine c_S 1 [] [4, 79, 83] s6 hf64 (fun _ s => .nil) .nil fun a54 hf65 => ?_
   refine c_st 1 [vI (w64 ((1 : Int) + r1)), vI y1, vI y2, vI y3, vI y4] hS28 hf65 rfl fun ww26 a55 hS29 hf66 => ⟨fun e => absurd e (by decide), ?_⟩
   refine p_qP 1 [] [(4, pB b3 0), (5, .bool (r2 == (0 : Int)))] [] hf66 (by kernel_rfl) (fun _ => .nil) fun a56 hf67 => ?_
   refine c_dt ?_
   refine c_ret ?_
   refine c_rt [vI (w64 ((1 : Int) + r1)), vI y1, vI y2, vI y3, vI y4] (.tuple #[.agg #[vI (w64 ((1 : Int) + r1)), vI y1, vI y2, vI y3, vI y4], .bool (r2 == (0 : Int))]) hf67 (.cell (hS29.box (i := 1) rfl (j := 0) rfl) (.cell (hS29.box (i := 1) rfl (j := 1) rfl) (.cell (hS29.box (i := 1) rfl (j := 2) rfl) (.cell (hS29.box (i := 1) rfl (j := 3) rfl) (.cell (hS29.box (i := 1) rfl (j := 4) rfl) .nil))))) ?_
   obtain rfl := some_eq hr26
   exact ⟨_, rfl, z6, (zt (zt k1 k5) k6), rfl, (St.drop 4 hS29)⟩
def F37_j2 (k1 : (List Deed) → (List Lot) → (List (List (List Part))) → Int → Option (List Lot × List Deed)) (y1 : Int) (y2 : List Deed) (y3 : List Lot) (y4 : List (List (List Part))) : Option (List Lot × List Deed) :=
  (k1 y2 y3 y4 (w64 (y1 + (1 : Int))))
def F37_j3 (fuel : Nat) (k1 : (List Deed) → (List Lot) → (List (List (List Part))) → Int → Option (List Lot × List Deed)) (y5 : List Deed) (y6 : List Lot) (y7 : List (List (List Part))) (y1 : Int) (y8 : Bool) (y9 : Int) (y10 : Int) (y11 : Int) (y12 : Int) (y13 : Int) : Option (List Lot × List Deed) :=
  (cond y8 ((F28 fuel y6 y7 y9 y10 y11 y12 y13).bind fun r1 => ((appC y5 ([⟨y9, y10, y11, y12, y13⟩])).bind fun d1 => (F37_j2 k1 y1 d1 r1.1 r1.2.1))) (F37_j2 k1 y1 y5 y6 y7))
def F37_j1 (fuel : Nat) (k1 : (List Deed) → (List Lot) → (List (List (List Part))) → Int → Option (List Lot × List Deed)) (x1 : List A5) (r2 : List Lot) (y5 : List Deed) (y6 : List Lot) (y7 : List (List (List Part))) (y1 : Int) (y14 : Bool) : Option (List Lot × List Deed) :=
  (cond y14 ((getI x1 y1).bind fun p1 => ((F95 fuel y6 y7 p1.a0 p1.a1 p1.a2 p1.a3 p1.a4).bind fun r3 => (F37_j3 fuel k1 y5 y6 y7 y1 r3.2.2.2.2.2 r3.1 r3.2.1 r3.2.2.1 r3.2.2.2.1 r3.2.2.2.2.1))) (some (r2, y5)))
def F37_l1 (fuel : Nat) (x1 : List A5) (r2 : List Lot) : Nat → (List Deed) → (List Lot) → (List (List (List Part))) → Int → Option (List Lot × List Deed)
  | 0, _, _, _, _ => none
  | n1 + 1, y5, y6, y7, y1 =>
    let k1 : (List Deed) → (List Lot) → (List (List (List Part))) → Int → Option (List Lot × List Deed) := F37_l1 fuel x1 r2 n1
    (cond (decide (y1 < (x1.length : Int))) (cond (decide (y1 < (24 : Int))) (F37_j1 fuel k1 x1 r2 y5 y6 y7 y1 (decide ((r2.length : Int) > (0 : Int)))) (F37_j1 fuel k1 x1 r2 y5 y6 y7 y1 false)) (F37_j1 fuel k1 x1 r2 y5 y6 y7 y1 false))
def F37 (fuel : Nat) (x0 : List A4) (x1 : List A5) : Option (List Lot × List Deed) :=
  ((F94 fuel x0).bind fun r2 => (F37_l1 fuel x1 r2 fuel ([]) r2 ([[], [], [], [], [], [], [], [], []]) 0))
set_option maxRecDepth 100000 in
theorem f37_ok (fuel : Nat) (x0 : List A4) (x1 : List A5) (r : List Lot × List Deed) (hr : F37 fuel x0 x1 = some r) (h : Zone) (L : List Atom) (w : World) (hS : St h L w) (o_x0 : Option Addr) (c_x0 : Nat) (hx_x0 : SliceR A4T h o_x0 c_x0 x0) (o_x1 : Option Addr) (c_x1 : Nat) (hx_x1 : SliceR A5T h o_x1 c_x1 x1) :
    Calls Try.prog 37 #[.slice o_x0 x0.length c_x0, .slice o_x1 x1.length c_x1] w fun e w' => ∃ v, e = .returned v ∧ (∃ h', ∃ o0 : Option Addr, ∃ c0 : Nat, ∃ o1 : Option Addr, ∃ c1 : Nat, Zone.le h h' ∧ v = .tuple #[.slice o0 r.1.length c0, .slice o1 r.2.length c1] ∧ St h' L w' ∧ SliceR LotT h' o0 c0 r.1 ∧ SliceR DeedT h' o1 c1 r.2) := by
 refine calls_intro (N := 54) Try.func37 (by kernel_rfl) fun a hf => ?_
 refine c_sq [] [0, 1] hf .nil fun a1 hf1 => ?_
 refine c_sr ?_
 refine c_n 1 [] [1, 12] hf1 .nil fun a2 hf2 => ?_
 obtain ⟨r2, hd1, hr1⟩ := bind_some hr
 refine c_call hf2 (f94_ok fuel x0 r2 hd1 h _ _ hS o_x0 c_x0 hx_x0) ?_
 rintro v1 ww1 a3 ⟨z1, e1, q1, k2, rfl, hS1, hx1⟩ hf3
 refine ⟨fun _ => trivial, ?_⟩
 refine c_t [] [1, 6] hf3 .nil fun a4 hf4 => ?_
 refine c_sr ?_
 refine c_n 2 [] [1, 6, 15] hf4 .nil fun a5 hf5 => ?_
 refine c_box [.slice none 0 0, .slice none 0 0, .slice none 0 0, .slice none 0 0, .slice none 0 0, .slice none 0 0, .slice none 0 0, .slice none 0 0, .slice none 0 0, .slice none 0 0] 26 hS1 hf5 fun b1 ww2 a6 hS2 hf6 => ⟨fun _ => trivial, ?_⟩
 refine c_st 0 [.slice e1 r2.length q1, .slice none 0 0, .slice none 0 0, .slice none 0 0, .slice none 0 0, .slice none 0 0, .slice none 0 0, .slice none 0 0, .slice none 0 0, .slice none 0 0] hS2 hf6 rfl fun ww3 a7 hS3 hf7 => ⟨fun _ => trivial, ?_⟩
 refine c_dt ?_
 refine c_sq [] [1, 6, 7, 8] hf7 .nil fun a8 hf8 => ?_
 refine c_seq ?_
 refine c_sq [] [1, 6, 7, 8, 9] hf8 .nil fun a9 hf9 => ?_
 refine c_block 0 ?_
 have hS4 := hS3.ownNil DeedT 28
 refine c_loop (fun n a w => ∃ z2 : Zone, ∃ y5 : List Deed, ∃ y6 : List Lot, ∃ y7 : List (List (List Part)), ∃ y1 : Int, ∃ e2 : Option Addr, ∃ q2 : Nat, ∃ e3 : Option Addr, ∃ q3 : Nat, ∃ v2 : Value, ∃ v3 : Value, ∃ v4 : Value, ∃ v5 : Value, ∃ v6 : Value, ∃ v7 : Value, ∃ v8 : Value, ∃ v9 : Value, ∃ v10 : Value, Zone.le z1 z2 ∧ Fr a 54 [(1, .slice o_x1 x1.length c_x1), (6, .slice e1 r2.length q1), (7, pB b1 0), (8, .slice e2 y5.length q2), (9, vI y1)] ∧ St z2 (ownS DeedT 28 e2 q2 y5 :: box b1 [.slice e3 y6.length q3, v2, v3, v4, v5, v6, v7, v8, v9, v10] 26 :: L) w ∧ SliceR LotT z2 e3 q3 y6 ∧ (Ty.arr 9 (Ty.slice (Ty.slice PartT))).rep z2 [v2, v3, v4, v5, v6, v7, v8, v9, v10] y7 ∧ (F37_l1 fuel x1 r2 n y5 y6 y7 y1) = some r) fuel ⟨z1, [], r2, [[], [], [], [], [], [], [], [], []], 0, none, 0, e1, q1, (.slice none 0 0), (.slice none 0 0), (.slice none 0 0), (.slice none 0 0), (.slice none 0 0), (.slice none 0 0), (.slice none 0 0), (.slice none 0 0), (.slice none 0 0), zr, hf9.to, hS4, hx1, ⟨rfl, (Rows.cons (c := [_]) (sliceRep (SliceR.nil' _ _)) (Rows.cons (c := [_]) (sliceRep (SliceR.nil' _ _)) (Rows.cons (c := [_]) (sliceRep (SliceR.nil' _ _)) (Rows.cons (c := [_]) (sliceRep (SliceR.nil' _ _)) (Rows.cons (c := [_]) (sliceRep (SliceR.nil' _ _)) (Rows.cons (c := [_]) (sliceRep (SliceR.nil' _ _)) (Rows.cons (c := [_]) (sliceRep (SliceR.nil' _ _)) (Rows.cons (c := [_]) (sliceRep (SliceR.nil' _ _)) (Rows.cons (c := [_]) (sliceRep (SliceR.nil' _ _)) rfl)))))))))⟩, hr1⟩ ?_
 rintro n2 a10 ww4 ⟨z2, y5, y6, y7, y1, e2, q2, e3, q3, v2, v3, v4, v5, v6, v7, v8, v9, v10, k3, hf11, hS5, hx2, hx3, hr2⟩
 cases n2 with
 | zero => cases hr2
 | succ n1 =>
 refine c_seq ?_
 refine c_mid (fun a w => ∃ z3 : Zone, ∃ y14 : Bool, Zone.le z2 z3 ∧ Fr a 54 [(1, .slice o_x1 x1.length c_x1), (6, .slice e1 r2.length q1), (7, pB b1 0), (8, .slice e2 y5.length q2), (9, vI y1), (28, .bool y14)] ∧ St z3 (ownS DeedT 28 e2 q2 y5 :: box b1 [.slice e3 y6.length q3, v2, v3, v4, v5, v6, v7, v8, v9, v10] 26 :: L) w ∧ (F37_j1 fuel (F37_l1 fuel x1 r2 n1) x1 r2 y5 y6 y7 y1 y14) = some r) ?_ ?_
 ·skip
  refine c_reg ?_
  refine c_n 5 [] [1, 6, 7, 8, 9, 20] hf11 .nil fun a11 hf12 => ?_
  rcases bft (decide (y1 < (x1.length : Int))) with hb1 | hb1
  ·have hr3 := cond_t hb1 hr2
   have hf13 := hf12.lit 20 hb1
   refine c_n 4 [] [1, 6, 7, 8, 9, 24] hf13 .nil fun a12 hf14 => ?_
   rcases bft (decide (y1 < (24 : Int))) with hb2 | hb2
   ·have hr4 := cond_t hb2 hr3
    have hf15 := hf14.lit 24 hb2
    refine c_t [] [1, 6, 7, 8, 9, 28] hf15 .nil fun a13 hf16 => ?_
    exact ⟨z2, (decide ((r2.length : Int) > (0 : Int))), zr, hf16.to, hS5, hr4⟩
   ·have hr5 := cond_f hb2 hr3
    have hf18 := hf14.lit 24 hb2
    refine c_t [] [1, 6, 7, 8, 9, 28] hf18 .nil fun a14 hf19 => ?_
    exact ⟨z2, false, zr, hf19.to, hS5, hr5⟩
  ·have hr6 := cond_f hb1 hr2
   have hf21 := hf12.lit 20 hb1
   refine c_t [] [1, 6, 7, 8, 9, 28] hf21 .nil fun a15 hf22 => ?_
   exact ⟨z2, false, zr, hf22.to, hS5, hr6⟩
 ·rintro a16 ww5 ⟨z3, y14, k4, hf24, hS6, hr7⟩
  refine c_if y14 hf24 (fun hb3 => ?_) (fun hb3 => ?_)
  ·have hr8 := cond_t hb3 hr7
   refine c_skip ?_
   refine n_then ?_
   refine c_mid (fun a w => ∃ z4 : Zone, ∃ y2 : List Deed, ∃ y3 : List Lot, ∃ y4 : List (List (List Part)), ∃ e4 : Option Addr, ∃ q4 : Nat, ∃ e5 : Option Addr, ∃ q5 : Nat, ∃ v11 : Value, ∃ v12 : Value, ∃ v13 : Value, ∃ v14 : Value, ∃ v15 : Value, ∃ v16 : Value, ∃ v17 : Value, ∃ v18 : Value, ∃ v19 : Value, Zone.le z3 z4 ∧ Fr a 54 [(1, .slice o_x1 x1.length c_x1), (6, .slice e1 r2.length q1), (7, pB b1 0), (8, .slice e4 y2.length q4), (9, vI y1)] ∧ St z4 (ownS DeedT 28 e4 q4 y2 :: box b1 [.slice e5 y3.length q5, v11, v12, v13, v14, v15, v16, v17, v18, v19] 26 :: L) w ∧ SliceR LotT z4 e5 q5 y3 ∧ (Ty.arr 9 (Ty.slice (Ty.slice PartT))).rep z4 [v11, v12, v13, v14, v15, v16, v17, v18, v19] y4 ∧ (F37_j2 (F37_l1 fuel x1 r2 n1) y1 y2 y3 y4) = some r) ?_ ?_
   ·skip
    refine c_block 1 ?_
    refine c_mid (fun a w => ∃ z5 : Zone, ∃ y8 : Bool, ∃ y9 : Int, ∃ y10 : Int, ∃ y11 : Int, ∃ y12 : Int, ∃ y13 : Int, ∃ b2 : Nat, Zone.le z3 z5 ∧ Fr a 54 [(1, .slice o_x1 x1.length c_x1), (6, .slice e1 r2.length q1), (7, pB b1 0), (8, .slice e2 y5.length q2), (9, vI y1), (10, pB b2 0), (11, .bool y8)] ∧ St z5 (box b2 [vI y9, vI y10, vI y11, vI y12, vI y13] 28 :: ownS DeedT 28 e2 q2 y5 :: box b1 [.slice e3 y6.length q3, v2, v3, v4, v5, v6, v7, v8, v9, v10] 26 :: L) w ∧ (F37_j3 fuel (F37_l1 fuel x1 r2 n1) y5 y6 y7 y1 y8 y9 y10 y11 y12 y13) = some r) ?_ ?_
    ·skip
     have hS7 := hS6.drew
     have s1 := Sub.of zr hS7
     refine w_regB (by kernel_rfl) [5, 10] (Sub z3 (ownS DeedT 28 e2 q2 y5 :: box b1 [.slice e3 y6.length q3, v2, v3, v4, v5, v6, v7, v8, v9, v10] 26 :: L)) (by kernel_rfl) ?_
     refine k_seg' 7 [(0, true), (1, true), (2, true), (3, true), (4, true)] (by kernel_rfl) (by kernel_rfl) (At.start s1) (by kernel_rfl) ?_
     obtain ⟨p1, hp14663, hr9⟩ := bind_some hr8
     obtain ⟨ad1, ho1, hb4, cc1, hc1, hk1⟩ := SliceR.getI (SliceR.mono (zt (zt k2 k3) k4) hx_x1) hp14663
     subst hc1
     refine c_S 5 [.slice e3 y6.length q3, v2, v3, v4, v5, v6, v7, v8, v9, v10, .pointer (some ad1), vI p1.a0, vI p1.a1, vI p1.a2, vI p1.a3, vI p1.a4] [1, 6, 7, 8, 9, 32, 36] s1 hf24 (fun _ s => (.cell (s.box (i := 1) rfl (j := 0) rfl) (.cell (s.box (i := 1) rfl (j := 1) rfl) (.cell (s.box (i := 1) rfl (j := 2) rfl) (.cell (s.box (i := 1) rfl (j := 3) rfl) (.cell (s.box (i := 1) rfl (j := 4) rfl) (.cell (s.box (i := 1) rfl (j := 5) rfl) (.cell (s.box (i := 1) rfl (j := 6) rfl) (.cell (s.box (i := 1) rfl (j := 7) rfl) (.cell (s.box (i := 1) rfl (j := 8) rfl) (.cell (s.box (i := 1) rfl (j := 9) rfl) (.prop ho1 (.prop hb4 (.cell (s.cell (hk1 0 _ rfl)) (.cell (s.cell (hk1 1 _ rfl)) (.cell (s.cell (hk1 2 _ rfl)) (.cell (s.cell (hk1 3 _ rfl)) (.cell (s.cell (hk1 4 _ rfl)) .nil)))))))))))))))))) .nil fun a17 hf25 => ?_
     refine c_done ?_
     intro hA1
     refine k_any' 6 [5, 9] (by kernel_rfl) hA1 (by kernel_rfl) (by kernel_rfl) ?_
     refine (all_cons ?_ (all_cons ?_ all_nil))
     ·skip
      obtain ⟨r3, hd2, hr10⟩ := bind_some hr9
      refine c_call hf25 (f95_ok fuel y6 y7 p1.a0 p1.a1 p1.a2 p1.a3 p1.a4 r3 hd2 z3 _ _ hS7 e3 q3 (SliceR.mono k4 hx2) v2 v3 v4 v5 v6 v7 v8 v9 v10 (Ty.mono _ k4 hx3)) ?_
      rintro v20 ww6 a18 ⟨z6, k5, rfl, hS8⟩ hf26
      refine ⟨fun e => absurd e (by decide), ?_⟩
      refine c_done ?_
      intro hA2
      refine k_seg' 0 [(6, true), (7, true), (8, true), (9, false), (10, false), (11, true)] (by kernel_rfl) (by kernel_rfl) hA2 (by kernel_rfl) ?_
      refine p_qP 3 [] [(1, .slice o_x1 x1.length c_x1), (6, .slice e1 r2.length q1), (7, pB b1 0), (8, .slice e2 y5.length q2), (9, vI y1), (38, .agg #[vI r3.1, vI r3.2.1, vI r3.2.2.1, vI r3.2.2.2.1, vI r3.2.2.2.2.1]), (39, .bool r3.2.2.2.2.2)] [] hf26 (by kernel_rfl) (fun _ => .nil) fun a19 hf27 => ?_
      refine c_box [vI 0, vI 0, vI 0, vI 0, vI 0] 28 hS8 hf27 fun b3 ww7 a20 hS9 hf28 => ⟨fun _ => Sub.of k5 (St.drop 1 hS9), ?_⟩
      have s2 := Sub.of k5 (St.drop 1 hS9)
      refine c_st 0 [vI r3.1, vI r3.2.1, vI r3.2.2.1, vI r3.2.2.2.1, vI r3.2.2.2.2.1] hS9 hf28 rfl fun ww8 a21 hS10 hf29 => ⟨fun e => absurd e (by decide), ?_⟩
      refine p_qP 1 [] [(1, .slice o_x1 x1.length c_x1), (6, .slice e1 r2.length q1), (7, pB b1 0), (8, .slice e2 y5.length q2), (9, vI y1), (10, pB b3 0), (11, .bool r3.2.2.2.2.2)] [] hf29 (by kernel_rfl) (fun _ => .nil) fun a22 hf30 => ?_
      refine c_done ?_
      intro hA3
      refine k_done' (by kernel_rfl) (by kernel_rfl) ?_
      refine n_then ?_
      exact ⟨z6, r3.2.2.2.2.2, r3.1, r3.2.1, r3.2.2.1, r3.2.2.2.1, r3.2.2.2.2.1, b3, k5, hf30.to, (St.pick 1 [0] hS10 (by kernel_rfl)), hr10⟩
     ·skip
      refine c_box [vI 0, vI 0, vI 0, vI 0, vI 0] 28 hS7 hf25 fun b4 ww9 a23 hS11 hf32 => ⟨fun _ => Sub.of zr (St.drop 1 hS11), ?_⟩
      refine c_done ?_
      intro hA4
      have s3 := Sub.of zr (St.drop 1 hS11)
      refine k_seg' 0 [(5, false), (6, true), (7, true), (8, true), (10, false), (11, true)] (by kernel_rfl) (by kernel_rfl) hA4 (by kernel_rfl) ?_
      obtain ⟨r4, hd3, hr11⟩ := bind_some hr9
      refine c_call hf32 (f95_ok fuel y6 y7 p1.a0 p1.a1 p1.a2 p1.a3 p1.a4 r4 hd3 z3 _ _ hS11 e3 q3 (SliceR.mono k4 hx2) v2 v3 v4 v5 v6 v7 v8 v9 v10 (Ty.mono _ k4 hx3)) ?_
      rintro v21 ww10 a24 ⟨z7, k6, rfl, hS12⟩ hf33
      refine ⟨fun e => absurd e (by decide), ?_⟩
      refine p_qP 3 [] [(1, .slice o_x1 x1.length c_x1), (6, .slice e1 r2.length q1), (7, pB b1 0), (8, .slice e2 y5.length q2), (9, vI y1), (10, pB b4 0), (38, .agg #[vI r4.1, vI r4.2.1, vI r4.2.2.1, vI r4.2.2.2.1, vI r4.2.2.2.2.1]), (39, .bool r4.2.2.2.2.2)] [] hf33 (by kernel_rfl) (fun _ => .nil) fun a25 hf34 => ?_
      refine c_st 0 [vI r4.1, vI r4.2.1, vI r4.2.2.1, vI r4.2.2.2.1, vI r4.2.2.2.2.1] hS12 hf34 rfl fun ww11 a26 hS13 hf35 => ⟨fun e => absurd e (by decide), ?_⟩
      refine p_qP 1 [] [(1, .slice o_x1 x1.length c_x1), (6, .slice e1 r2.length q1), (7, pB b1 0), (8, .slice e2 y5.length q2), (9, vI y1), (10, pB b4 0), (11, .bool r4.2.2.2.2.2)] [] hf35 (by kernel_rfl) (fun _ => .nil) fun a27 hf36 => ?_
      refine c_done ?_
      intro hA5
      refine k_done' (by kernel_rfl) (by kernel_rfl) ?_
      refine n_then ?_
      exact ⟨z7, r4.2.2.2.2.2, r4.1, r4.2.1, r4.2.2.1, r4.2.2.2.1, r4.2.2.2.2.1, b4, k6, hf36.to, (St.pick 1 [0] hS13 (by kernel_rfl)), hr11⟩
    ·rintro a28 ww12 ⟨z5, y8, y9, y10, y11, y12, y13, b2, k7, hf38, hS14, hr12⟩
     refine c_sq [] [1, 6, 7, 8, 9, 10, 40] hf38 .nil fun a29 hf39 => ?_
     refine c_if y8 hf39 (fun hb5 => ?_) (fun hb5 => ?_)
     ·have hr13 := cond_t hb5 hr12
      refine c_sr ?_
      refine c_n 2 [.slice e3 y6.length q3, v2, v3, v4, v5, v6, v7, v8, v9, v10, vI y9, vI y10, vI y11, vI y12, vI y13] [1, 6, 7, 8, 9, 10, 42, 43] hf39 (.cell (hS14.box (i := 2) rfl (j := 0) rfl) (.cell (hS14.box (i := 2) rfl (j := 1) rfl) (.cell (hS14.box (i := 2) rfl (j := 2) rfl) (.cell (hS14.box (i := 2) rfl (j := 3) rfl) (.cell (hS14.box (i := 2) rfl (j := 4) rfl) (.cell (hS14.box (i := 2) rfl (j := 5) rfl) (.cell (hS14.box (i := 2) rfl (j := 6) rfl) (.cell (hS14.box (i := 2) rfl (j := 7) rfl) (.cell (hS14.box (i := 2) rfl (j := 8) rfl) (.cell (hS14.box (i := 2) rfl (j := 9) rfl) (.cell (hS14.box (i := 0) rfl (j := 0) rfl) (.cell (hS14.box (i := 0) rfl (j := 1) rfl) (.cell (hS14.box (i := 0) rfl (j := 2) rfl) (.cell (hS14.box (i := 0) rfl (j := 3) rfl) (.cell (hS14.box (i := 0) rfl (j := 4) rfl) .nil))))))))))))))) fun a30 hf40 => ?_
      obtain ⟨r1, hd4, hr14⟩ := bind_some hr13
      refine c_call hf40 (f28_ok fuel y6 y7 y9 y10 y11 y12 y13 r1 hd4 z5 _ _ hS14 e3 q3 (SliceR.mono (zt k4 k7) hx2) v2 v3 v4 v5 v6 v7 v8 v9 v10 (Ty.mono _ (zt k4 k7) hx3)) ?_
      rintro v22 ww13 a31 ⟨z8, e6, q6, v23, v24, v25, v26, v27, v28, v29, v30, v31, e7, q7, k8, rfl, hS15, hx4, hx5, hx6⟩ hf41
      refine ⟨fun _ => trivial, ?_⟩
      refine c_n 4 [] [1, 6, 7, 8, 9, 10, 45] hf41 .nil fun a32 hf42 => ?_
      have hq1 := oneCells_of (Ty.one _ (Ty.mono _ zr hx5))
      refine p_store_eq (i := 7) (j := 2) (b := b1) (off := 0) (vs := [.slice e6 r1.1.length q6, v23, v24, v25, v26, v27, v28, v29, v30, v31]) (cs' := [.slice e6 r1.1.length q6, v23, v24, v25, v26, v27, v28, v29, v30, v31]) hS15 hf42 rfl (by kernel_rfl) hq1 rfl fun ww14 a33 hS16 hf43 => ⟨fun _ => trivial, ?_⟩
      refine c_dt ?_
      refine c_reg ?_
      refine c_n 2 [vI y9, vI y10, vI y11, vI y12, vI y13] [1, 6, 7, 9, 48, 49] hf43 (.cell (hS16.box (i := 0) rfl (j := 0) rfl) (.cell (hS16.box (i := 0) rfl (j := 1) rfl) (.cell (hS16.box (i := 0) rfl (j := 2) rfl) (.cell (hS16.box (i := 0) rfl (j := 3) rfl) (.cell (hS16.box (i := 0) rfl (j := 4) rfl) .nil))))) fun a34 hf44 => ?_
      refine p_box (i := 2) (d := (some 50)) (cs := [vI y9, vI y10, vI y11, vI y12, vI y13]) (T := 28) (v := fun b5 => .slice (some ⟨b5, 0, none⟩) 1 1) hS16 hf44 (fun b => by kernel_rfl) fun b5 ww15 a35 hS17 hf45 => ⟨fun _ => trivial, ?_⟩
      have hS18 := hS17.ownBox (T := DeedT) (E := 28) (n := 1) (xs := [⟨y9, y10, y11, y12, y13⟩]) (i := 0) rfl (Rows.cons (c := [vI y9, vI y10, vI y11, vI y12, vI y13]) rfl rfl) rfl (by decide)
      obtain ⟨d1, hd5, hr15⟩ := bind_some hr14
      refine p_append (T := DeedT) (i := 3) (j := 2) (d := some 51) (o2 := (some ⟨b5, 0, none⟩)) (c2 := 1) (ys := ([⟨y9, y10, y11, y12, y13⟩])) el64 hS18 hf45 rfl (by kernel_rfl) (hS18.ownSrc (j := 0) rfl) hd5 fun e8 q8 ww16 a36 hS19 hf46 => ⟨fun _ => trivial, ?_⟩
      refine c_z [] [1, 6, 7, 8, 9] hf46 .nil fun a37 hf47 => ?_
      refine n_block ?_
      refine n_then ?_
      exact ⟨z8, d1, r1.1, r1.2.1, e8, q8, e6, q6, v23, v24, v25, v26, v27, v28, v29, v30, v31, (zt k7 k8), hf47.to, (St.drop 2 hS19), hx4, (Ty.mono _ zr hx5), hr15⟩
     ·have hr16 := cond_f hb5 hr12
      refine c_skip ?_
      refine n_block ?_
      refine n_then ?_
      exact ⟨z5, y5, y6, y7, e2, q2, e3, q3, v2, v3, v4, v5, v6, v7, v8, v9, v10, k7, hf39.to, (St.drop 1 hS14), (SliceR.mono (zt k4 k7) hx2), (Ty.mono _ (zt k4 k7) hx3), hr16⟩
   ·rintro a38 ww17 ⟨z4, y2, y3, y4, e4, q4, e5, q5, v11, v12, v13, v14, v15, v16, v17, v18, v19, k9, hf50, hS20, hx7, hx8, hr17⟩
    refine c_q [] [1, 6, 7, 8, 9] hf50 .nil fun a39 hf51 => ?_
    refine n_then ?_
    exact ⟨n1, Nat.lt_succ_self n1, z4, y2, y3, y4, (w64 (y1 + (1 : Int))), e4, q4, e5, q5, v11, v12, v13, v14, v15, v16, v17, v18, v19, (zt (zt k3 k4) k9), hf51.to, hS20, hx7, (Ty.mono _ zr hx8), hr17⟩
  ·have hr18 := cond_f hb3 hr7
   refine c_exit 0 ?_
   refine x_then ?_
   refine x_then ?_
   refine x_block ?_
   refine n_then ?_
   refine c_sq [] [4, 5] hf24 .nil fun a40 hf53 => ?_
   refine c_ret ?_
   obtain ⟨z9, k10, hS21, hx9⟩ := hS6.share (j := 0) rfl
   refine c_rt [] (.tuple #[.slice e1 r2.length q1, .slice e2 y5.length q2]) hf53 .nil ?_
   obtain rfl := some_eq hr18
   exact ⟨_, rfl, z9, e1, q1, e2, q2, (zt (zt (zt k2 k3) k4) k10), rfl, (St.drop 2 hS21), (SliceR.mono (zt (zt k3 k4) k10) hx1), hx9⟩
end Go.Proofs.Ytlmgjjmighajdaa
set_option linter.unusedVariables false
namespace Go.Proofs.Ytlmgjjmighajdaa
open Go.Sl Go.Sx
def F45_l8 (k1 : (List (Int × Int)) → Int → Option (List Account × Int)) (y1 : Int) (p1 : List Part) : Nat → (List (Int × Int)) → Int → Option (List Account × Int)
  | 0, _, _ => none
  | n1 + 1, y2, y3 =>
    let k2 : (List (Int × Int)) → Int → Option (List Account × Int) := F45_l8 k1 y1 p1 n1
    (cond (decide (y3 < (p1.length : Int))) ((getI p1 y3).bind fun p2 => (k2 (putK y2 p2.lot (w64 ((lkK y2 p2.lot (0 : Int)) + p2.mass))) (w64 (y3 + (1 : Int))))) (k1 y2 (w64 (y1 + (1 : Int)))))
def F45_l7 (fuel : Nat) (k3 : (List (Int × Int)) → Int → Option (List Account × Int)) (y4 : Int) (p3 : List (List Part)) : Nat → (List (Int × Int)) → Int → Option (List Account × Int)
  | 0, _, _ => none
  | n2 + 1, y5, y1 =>
    let k1 : (List (Int × Int)) → Int → Option (List Account × Int) := F45_l7 fuel k3 y4 p3 n2
    (cond (decide (y1 < (p3.length : Int))) ((getI p3 y1).bind fun p1 => (F45_l8 k1 y1 p1 fuel y5 0)) (k3 y5 (w64 (y4 + (1 : Int)))))
def F45_l9 (x0 : List Lot) (y6 : List (Int × Int)) (y7 : List (Int × Int)) (y8 : List (Int × Int)) (y9 : List (Int × Int)) : Nat → (List Account) → Int → Option (List Account × Int)
  | 0, _, _ => none
  | n3 + 1, y10, y11 =>
    let k4 : (List Account) → Int → Option (List Account × Int) := F45_l9 x0 y6 y7 y8 y9 n3
    (cond (decide (y11 < (x0.length : Int))) ((getI x0 y11).bind fun p4 => ((appC y10 ([⟨p4.id, (lkK y8 p4.id (0 : Int)), (lkK y7 p4.id (0 : Int)), (lkK y6 p4.id (0 : Int)), (lkK y9 p4.id (0 : Int))⟩])).bind fun d1 => (k4 d1 (w64 (y11 + (1 : Int)))))) (some (y10, 0)))
def F45_l6 (fuel : Nat) (x0 : List Lot) (y6 : List (Int × Int)) (y7 : List (Int × Int)) (y8 : List (Int × Int)) (p5 : Pl) : Nat → (List (Int × Int)) → Int → Option (List Account × Int)
  | 0, _, _ => none
  | n4 + 1, y9, y4 =>
    let k3 : (List (Int × Int)) → Int → Option (List Account × Int) := F45_l6 fuel x0 y6 y7 y8 p5 n4
    (cond (decide (y4 < (9 : Int))) ((getI p5.holds y4).bind fun p3 => (F45_l7 fuel k3 y4 p3 fuel y9 0)) (F45_l9 x0 y6 y7 y8 y9 fuel ([]) 0))
def F45_j1 (fuel : Nat) (x0 : List Lot) (y6 : List (Int × Int)) (y7 : List (Int × Int)) (y8 : List (Int × Int)) (y12 : Option Pl) (y13 : Int) (y14 : Int) : Option (List Account × Int) :=
  (cond (y14 != (0 : Int)) (some ([], y14)) ((y12).bind fun p5 => (F45_l6 fuel x0 y6 y7 y8 p5 fuel ([]) 0)))
def F45_j2 (k5 : Pl → (List (Int × Int)) → (List (Int × Int)) → (List (Int × Int)) → Int → Option (List Account × Int)) (y15 : Int) (r1 : List Part × List (Int × Bool) × Int × Pl) (y16 : List (Int × Int)) (y17 : List (Int × Int)) (y18 : List (Int × Int)) : Option (List Account × Int) :=
  (k5 r1.2.2.2 y16 y17 y18 (w64 (y15 + (1 : Int))))
def F45_l2 (k5 : Pl → (List (Int × Int)) → (List (Int × Int)) → (List (Int × Int)) → Int → Option (List Account × Int)) (y19 : List (Int × Int)) (y20 : List (Int × Int)) (y15 : Int) (r1 : List Part × List (Int × Bool) × Int × Pl) : Nat → (List (Int × Int)) → Int → Option (List Account × Int)
  | 0, _, _ => none
  | n5 + 1, y21, y22 =>
    let k6 : (List (Int × Int)) → Int → Option (List Account × Int) := F45_l2 k5 y19 y20 y15 r1 n5
    (cond (decide (y22 < (r1.1.length : Int))) ((getI r1.1 y22).bind fun p6 => (k6 (putK y21 p6.lot (w64 ((lkK y21 p6.lot (0 : Int)) + p6.mass))) (w64 (y22 + (1 : Int))))) (F45_j2 k5 y15 r1 y19 y20 y21))
def F45_l3 (k5 : Pl → (List (Int × Int)) → (List (Int × Int)) → (List (Int × Int)) → Int → Option (List Account × Int)) (y19 : List (Int × Int)) (y23 : List (Int × Int)) (y15 : Int) (r1 : List Part × List (Int × Bool) × Int × Pl) : Nat → (List (Int × Int)) → Int → Option (List Account × Int)
  | 0, _, _ => none
  | n6 + 1, y24, y25 =>
    let k7 : (List (Int × Int)) → Int → Option (List Account × Int) := F45_l3 k5 y19 y23 y15 r1 n6
    (cond (decide (y25 < (r1.1.length : Int))) ((getI r1.1 y25).bind fun p7 => (k7 (putK y24 p7.lot (w64 ((lkK y24 p7.lot (0 : Int)) + p7.mass))) (w64 (y25 + (1 : Int))))) (F45_j2 k5 y15 r1 y19 y24 y23))
def F45_l4 (k5 : Pl → (List (Int × Int)) → (List (Int × Int)) → (List (Int × Int)) → Int → Option (List Account × Int)) (y20 : List (Int × Int)) (y23 : List (Int × Int)) (y15 : Int) (r1 : List Part × List (Int × Bool) × Int × Pl) : Nat → (List (Int × Int)) → Int → Option (List Account × Int)
  | 0, _, _ => none
  | n7 + 1, y26, y27 =>
    let k8 : (List (Int × Int)) → Int → Option (List Account × Int) := F45_l4 k5 y20 y23 y15 r1 n7
    (cond (decide (y27 < (r1.1.length : Int))) ((getI r1.1 y27).bind fun p8 => (k8 (putK y26 p8.lot (w64 ((lkK y26 p8.lot (0 : Int)) + p8.mass))) (w64 (y27 + (1 : Int))))) (F45_j2 k5 y15 r1 y26 y20 y23))
def F45_l5 (k5 : Pl → (List (Int × Int)) → (List (Int × Int)) → (List (Int × Int)) → Int → Option (List Account × Int)) (y19 : List (Int × Int)) (y20 : List (Int × Int)) (y23 : List (Int × Int)) (y15 : Int) (r1 : List Part × List (Int × Bool) × Int × Pl) : Nat → Int → Option (List Account × Int)
  | 0, _ => none
  | n8 + 1, y28 =>
    let k9 : Int → Option (List Account × Int) := F45_l5 k5 y19 y20 y23 y15 r1 n8
    (cond (decide (y28 < (r1.1.length : Int))) ((getI r1.1 y28).bind fun p9 => (k9 (w64 (y28 + (1 : Int))))) (F45_j2 k5 y15 r1 y19 y20 y23))
def F45_l1 (fuel : Nat) (x0 : List Lot) (x1 : List Deed) : Nat → Pl → (List (Int × Int)) → (List (Int × Int)) → (List (Int × Int)) → Int → Option (List Account × Int)
  | 0, _, _, _, _, _ => none
  | n9 + 1, y29, y19, y20, y23, y15 =>
    let k5 : Pl → (List (Int × Int)) → (List (Int × Int)) → (List (Int × Int)) → Int → Option (List Account × Int) := F45_l1 fuel x0 x1 n9
    (cond (decide (y15 < (x1.length : Int))) ((getI x1 y15).bind fun p10 => ((F82 fuel y29 p10.kind p10.lot p10.frm p10.to p10.mass).bind fun r1 => (cond (r1.2.2.1 != (0 : Int)) (F45_j1 fuel x0 y19 y20 y23 none y15 r1.2.2.1) ((getI x1 y15).bind fun p11 => (cond ((p11.kind == 1) || (p11.kind == 2)) (F45_l2 k5 y19 y20 y15 r1 fuel y23 0) (cond (p11.kind == 3) (F45_l3 k5 y19 y23 y15 r1 fuel y20 0) (cond (p11.kind == 5) (F45_l4 k5 y20 y23 y15 r1 fuel y19 0) (F45_l5 k5 y19 y20 y23 y15 r1 fuel 0)))))))) (F45_j1 fuel x0 y19 y20 y23 (some y29) (x1.length : Int) 0))
def F45 (fuel : Nat) (x0 : List Lot) (x1 : List Deed) : Option (List Account × Int) :=
  ((F110 fuel x0 x1).bind fun r2 => (cond (r2 != (0 : Int)) (F45_j1 fuel x0 ([]) ([]) ([]) none 0 r2) ((F81 fuel x0 ([[], [], [], [], [], [], [], [], []])).bind fun r3 => (F45_l1 fuel x0 x1 fuel r3 ([]) ([]) ([]) 0))))
set_option maxRecDepth 100000 in
theorem f45_ok (fuel : Nat) (x0 : List Lot) (x1 : List Deed) (r : List Account × Int) (hr : F45 fuel x0 x1 = some r) (h : Zone) (L : List Atom) (w : World) (hS : St h L w) (o_x0 : Option Addr) (c_x0 : Nat) (hx_x0 : SliceR LotT h o_x0 c_x0 x0) (o_x1 : Option Addr) (c_x1 : Nat) (hx_x1 : SliceR DeedT h o_x1 c_x1 x1) :
    Calls Try.prog 45 #[.slice o_x0 x0.length c_x0, .slice o_x1 x1.length c_x1] w fun e w' => ∃ v, e = .returned v ∧ (∃ h', ∃ o0 : Option Addr, ∃ c0 : Nat, Zone.le h h' ∧ v = .tuple #[.slice o0 r.1.length c0, vI r.2] ∧ St h' L w' ∧ SliceR AccountT h' o0 c0 r.1) := by
 refine calls_intro (N := 98) Try.func45 (by kernel_rfl) fun a hf => ?_
 refine c_sr ?_
 refine c_box [.slice o_x1 x1.length c_x1] 64 hS hf fun b1 ww1 a1 hS1 hf1 => ⟨fun _ => trivial, ?_⟩
 refine c_t [] [0, 3] hf1 .nil fun a2 hf2 => ?_
 refine c_sr ?_
 refine p_makeMap (i := 0) (d := (some 22)) (Value.int .i64) hS1 hf2 (fun b => by kernel_rfl) fun b2 ww2 a3 hS2 hf3 => ⟨fun _ => trivial, ?_⟩
 refine p_makeMap (i := 1) (d := (some 23)) (Value.int .i64) hS2 hf3 (fun b => by kernel_rfl) fun b3 ww3 a4 hS3 hf4 => ⟨fun _ => trivial, ?_⟩
 refine p_makeMap (i := 2) (d := (some 24)) (Value.int .i64) hS3 hf4 (fun b => by kernel_rfl) fun b4 ww4 a5 hS4 hf5 => ⟨fun _ => trivial, ?_⟩
 refine p_makeMap (i := 3) (d := (some 25)) (Value.int .i64) hS4 hf5 (fun b => by kernel_rfl) fun b5 ww5 a6 hS5 hf6 => ⟨fun _ => trivial, ?_⟩
 refine c_box [.map none] 144 hS5 hf6 fun b6 ww6 a7 hS6 hf7 => ⟨fun _ => trivial, ?_⟩
 refine c_box [.map none] 144 hS6 hf7 fun b7 ww7 a8 hS7 hf8 => ⟨fun _ => trivial, ?_⟩
 refine c_box [.map none] 144 hS7 hf8 fun b8 ww8 a9 hS8 hf9 => ⟨fun _ => trivial, ?_⟩
 refine c_st 2 [.map (some b2)] hS8 hf9 rfl fun ww9 a10 hS9 hf10 => ⟨fun _ => trivial, ?_⟩
 refine c_st 1 [.map (some b3)] hS9 hf10 rfl fun ww10 a11 hS10 hf11 => ⟨fun _ => trivial, ?_⟩
 refine c_st 0 [.map (some b4)] hS10 hf11 rfl fun ww11 a12 hS11 hf12 => ⟨fun _ => trivial, ?_⟩
 refine c_t [] [0, 3, 6, 7, 8, 9] hf12 .nil fun a13 hf13 => ?_
 refine c_sr ?_
 refine c_n 3 [.slice o_x1 x1.length c_x1] [0, 6, 7, 8, 9, 27, 28, 29] hf13 (.cell (hS11.box (i := 7) rfl (j := 0) rfl) .nil) fun a14 hf14 => ?_
 refine c_call (f := 96) (args := #[.slice o_x0 x0.length c_x0, .slice o_x1 x1.length c_x1, .func (.func 104) #[] #[pB b6 0, pB b7 0, pB b8 0, pB b1 0]]) (Φ := fun v w => ∃ z1 : Zone, ∃ y6 : List (Int × Int), ∃ y7 : List (Int × Int), ∃ y8 : List (Int × Int), ∃ y12 : Option Pl, ∃ y13 : Int, ∃ y14 : Int, ∃ p12 : Option Addr, Zone.le h z1 ∧ v = .tuple #[.pointer p12, vI y13, vI y14] ∧ St z1 (plO 126 40 117 p12 y12 :: box b8 [.map (some b4)] 144 :: box b7 [.map (some b3)] 144 :: box b6 [.map (some b2)] 144 :: mapA (Value.int .i64) b5 ([]) :: mapA (Value.int .i64) b4 y6 :: mapA (Value.int .i64) b3 y7 :: mapA (Value.int .i64) b2 y8 :: box b1 [.slice o_x1 x1.length c_x1] 64 :: L) w ∧ (F45_j1 fuel x0 y6 y7 y8 y12 y13 y14) = some r) hf14 ?_ ?_
 ·refine calls_intro (N := 50) Try.func96 (by kernel_rfl) fun a15 hf15 => ?_
  refine c_sq [] [0, 1, 2] hf15 .nil fun a16 hf16 => ?_
  refine c_seq ?_
  refine c_sr ?_
  refine c_n 2 [] [0, 1, 2, 15, 16] hf16 .nil fun a17 hf17 => ?_
  obtain ⟨r2, hd1, hr1⟩ := bind_some hr
  refine c_call hf17 (f110_ok fuel x0 x1 r2 hd1 h _ _ hS11 o_x0 c_x0 hx_x0 o_x1 c_x1 hx_x1) ?_
  rintro v1 ww12 a18 ⟨z2, k10, rfl, hS12⟩ hf18
  refine ⟨fun _ => trivial, ?_⟩
  refine c_t [] [0, 1, 2, 9] hf18 .nil fun a19 hf19 => ?_
  refine c_sq [] [0, 1, 2, 9, 19] hf19 .nil fun a20 hf20 => ?_
  refine c_if (r2 != (0 : Int)) hf20 (fun hb1 => ?_) (fun hb1 => ?_)
  ·have hr2 := cond_t hb1 hr1
   refine c_sq [] [6, 7, 8] hf20 .nil fun a21 hf21 => ?_
   refine c_ret ?_
   refine r_then ?_
   refine c_rt [] (.tuple #[.pointer none, vI 0, vI r2]) hf21 .nil ?_
   have hS13 := hS12.plNone 126 40 117
   exact ⟨_, rfl, z2, [], [], [], none, 0, r2, none, k10, rfl, (St.pick 1 [0] hS13 (by kernel_rfl)), hr2⟩
  ·have hr3 := cond_f hb1 hr1
   refine c_skip ?_
   refine n_then ?_
   refine c_sr ?_
   refine c_n 2 [] [1, 2, 22] hf20 .nil fun a22 hf22 => ?_
   obtain ⟨r3, hd2, hr4⟩ := bind_some hr3
   refine c_call hf22 (f81_ok fuel x0 ([[], [], [], [], [], [], [], [], []]) r3 hd2 z2 _ _ hS12 o_x0 c_x0 (SliceR.mono k10 hx_x0) (.slice none 0 0) (.slice none 0 0) (.slice none 0 0) (.slice none 0 0) (.slice none 0 0) (.slice none 0 0) (.slice none 0 0) (.slice none 0 0) (.slice none 0 0) ⟨rfl, (Rows.cons (c := [_]) (sliceRep (SliceR.nil' _ _)) (Rows.cons (c := [_]) (sliceRep (SliceR.nil' _ _)) (Rows.cons (c := [_]) (sliceRep (SliceR.nil' _ _)) (Rows.cons (c := [_]) (sliceRep (SliceR.nil' _ _)) (Rows.cons (c := [_]) (sliceRep (SliceR.nil' _ _)) (Rows.cons (c := [_]) (sliceRep (SliceR.nil' _ _)) (Rows.cons (c := [_]) (sliceRep (SliceR.nil' _ _)) (Rows.cons (c := [_]) (sliceRep (SliceR.nil' _ _)) (Rows.cons (c := [_]) (sliceRep (SliceR.nil' _ _)) rfl)))))))))⟩) ?_
   rintro v2 ww13 a23 ⟨z3, b9, k11, rfl, hS14⟩ hf23
   refine ⟨fun _ => trivial, ?_⟩
   refine c_t [] [1, 2, 10] hf23 .nil fun a24 hf24 => ?_
   refine c_seq ?_
   refine c_sq [] [1, 2, 10, 24, 25, 26] hf24 .nil fun a25 hf25 => ?_
   refine c_block 0 ?_
   refine c_loop (fun n a w => ∃ z4 : Zone, ∃ y29 : Pl, ∃ y19 : List (Int × Int), ∃ y20 : List (Int × Int), ∃ y23 : List (Int × Int), ∃ y15 : Int, Zone.le z3 z4 ∧ Fr a 50 [(1, .slice o_x1 x1.length c_x1), (2, .func (.func 104) #[] #[pB b6 0, pB b7 0, pB b8 0, pB b1 0]), (10, pB b9 0), (24, .slice o_x1 x1.length c_x1), (25, vI (x1.length : Int)), (26, vI y15)] ∧ St z4 (plA 126 40 117 b9 y29 :: box b8 [.map (some b4)] 144 :: box b7 [.map (some b3)] 144 :: box b6 [.map (some b2)] 144 :: mapA (Value.int .i64) b5 ([]) :: mapA (Value.int .i64) b4 y19 :: mapA (Value.int .i64) b3 y20 :: mapA (Value.int .i64) b2 y23 :: box b1 [.slice o_x1 x1.length c_x1] 64 :: L) w ∧ (F45_l1 fuel x0 x1 n y29 y19 y20 y23 y15) = some r) fuel ⟨z3, r3, [], [], [], 0, zr, hf25.to, hS14, hr4⟩ ?_
   rintro n10 a26 ww14 ⟨z4, y29, y19, y20, y23, y15, k12, hf27, hS15, hr5⟩
   cases n10 with
   | zero => cases hr5
   | succ n9 =>
   refine c_sq [] [1, 2, 10, 24, 25, 26, 27] hf27 .nil fun a27 hf28 => ?_
   refine c_seq ?_
   refine c_if (decide (y15 < (x1.length : Int))) hf28 (fun hb2 => ?_) (fun hb2 => ?_)
   ·have hr6 := cond_t hb2 hr5
    refine c_skip ?_
    refine n_then ?_
    refine c_seq ?_
    refine c_block 1 ?_
    refine c_sr ?_
    obtain ⟨p10, hp93402, hr7⟩ := bind_some hr6
    obtain ⟨ad1, ho1, hb3, cc1, hc1, hk1⟩ := SliceR.getI (SliceR.mono (zt (zt k10 k11) k12) hx_x1) hp93402
    subst hc1
    refine c_n 3 [.pointer (some ad1), vI p10.kind, vI p10.lot, vI p10.frm, vI p10.to, vI p10.mass] [1, 2, 10, 24, 25, 26, 28, 30] hf28 (.prop ho1 (.prop hb3 (.cell (hS15.cell (hk1 0 _ rfl)) (.cell (hS15.cell (hk1 1 _ rfl)) (.cell (hS15.cell (hk1 2 _ rfl)) (.cell (hS15.cell (hk1 3 _ rfl)) (.cell (hS15.cell (hk1 4 _ rfl)) .nil))))))) fun a28 hf29 => ?_
    refine c_box [vI 0, vI 0, vI 0, vI 0, vI 0] 28 hS15 hf29 fun b10 ww15 a29 hS16 hf30 => ⟨fun _ => trivial, ?_⟩
    refine c_n 1 [] [1, 2, 10, 11, 12, 24, 25, 26, 30] hf30 .nil fun a30 hf31 => ?_
    refine c_st 0 [vI p10.kind, vI p10.lot, vI p10.frm, vI p10.to, vI p10.mass] hS16 hf31 rfl fun ww16 a31 hS17 hf32 => ⟨fun _ => trivial, ?_⟩
    refine c_dt ?_
    refine c_sr ?_
    refine c_n 2 [vI p10.kind, vI p10.lot, vI p10.frm, vI p10.to, vI p10.mass] [1, 2, 10, 11, 24, 25, 26, 32, 33] hf32 (.cell (hS17.box (i := 0) rfl (j := 0) rfl) (.cell (hS17.box (i := 0) rfl (j := 1) rfl) (.cell (hS17.box (i := 0) rfl (j := 2) rfl) (.cell (hS17.box (i := 0) rfl (j := 3) rfl) (.cell (hS17.box (i := 0) rfl (j := 4) rfl) .nil))))) fun a32 hf33 => ?_
    have hS18 := St.swapTo (i := 2) (j := 0) (St.addEmp hS17) rfl rfl (by decide)
    have hS19 := hS18
    obtain ⟨r1, hd3, hr8⟩ := bind_some hr7
    refine c_call hf33 (f82_ok fuel y29 p10.kind p10.lot p10.frm p10.to p10.mass r1 hd3 z4 _ _ b9 hS19 ) ?_
    rintro v3 ww17 a33 ⟨z5, e1, q1, e2, k13, rfl, hS20, hx1, hx2⟩ hf34
    have hS21 := St.swapTo (i := 0) (j := 2) hS20 rfl rfl (by decide)
    have hS22 := hS21
    refine ⟨fun _ => trivial, ?_⟩
    refine c_n 3 [] [1, 2, 10, 11, 24, 25, 26, 35, 36] hf34 .nil fun a34 hf35 => ?_
    refine c_box [.slice none 0 0, .map none] 119 hS22 hf35 fun b11 ww18 a35 hS23 hf36 => ⟨fun _ => trivial, ?_⟩
    refine c_st 0 [.slice e1 r1.1.length q1, .map e2] hS23 hf36 rfl fun ww19 a36 hS24 hf37 => ⟨fun _ => trivial, ?_⟩
    refine c_t [] [1, 2, 10, 11, 13, 14, 24, 25, 26] hf37 .nil fun a37 hf38 => ?_
    refine c_seq ?_
    refine c_sq [] [1, 2, 10, 11, 13, 14, 24, 25, 26, 38] hf38 .nil fun a38 hf39 => ?_
    refine c_if (r1.2.2.1 != (0 : Int)) hf39 (fun hb4 => ?_) (fun hb4 => ?_)
    ·have hr9 := cond_t hb4 hr8
     refine c_sq [] [6, 7, 8] hf39 .nil fun a39 hf40 => ?_
     refine c_ret ?_
     refine r_then ?_
     refine r_block ?_
     refine r_then ?_
     refine r_then ?_
     refine r_block ?_
     refine r_then ?_
     refine c_rt [] (.tuple #[.pointer none, vI y15, vI r1.2.2.1]) hf40 .nil ?_
     have hS25 := hS24.plNone 126 40 117
     exact ⟨_, rfl, z5, y19, y20, y23, none, y15, r1.2.2.1, none, (zt (zt (zt k10 k11) k12) k13), rfl, (St.pick 5 [0] hS25 (by kernel_rfl)), hr9⟩
    ·have hr10 := cond_f hb4 hr8
     refine c_skip ?_
     refine n_then ?_
     refine c_reg ?_
     refine c_n 4 [.slice e1 r1.1.length q1, .map e2] [1, 2, 10, 24, 25, 26, 41, 42, 43, 44] hf39 (.cell (hS24.box (i := 0) rfl (j := 0) rfl) (.cell (hS24.box (i := 0) rfl (j := 1) rfl) .nil)) fun a40 hf41 => ?_
     refine c_call (f := 104) (args := #[vI y15, .agg #[.slice e1 r1.1.length q1, .map e2], pB b9 0, pB b6 0, pB b7 0, pB b8 0, pB b1 0]) (Φ := fun v w => ∃ z6 : Zone, ∃ y16 : List (Int × Int), ∃ y17 : List (Int × Int), ∃ y18 : List (Int × Int), Zone.le z5 z6 ∧ v = .tuple #[] ∧ St z6 (box b11 [.slice e1 r1.1.length q1, .map e2] 119 :: emp :: box b10 [vI p10.kind, vI p10.lot, vI p10.frm, vI p10.to, vI p10.mass] 28 :: plA 126 40 117 b9 r1.2.2.2 :: box b8 [.map (some b4)] 144 :: box b7 [.map (some b3)] 144 :: box b6 [.map (some b2)] 144 :: mapA (Value.int .i64) b5 ([]) :: mapA (Value.int .i64) b4 y16 :: mapA (Value.int .i64) b3 y17 :: mapA (Value.int .i64) b2 y18 :: box b1 [.slice o_x1 x1.length c_x1] 64 :: L) w ∧ (F45_j2 (F45_l1 fuel x0 x1 n9) y15 r1 y16 y17 y18) = some r) hf41 ?_ ?_
     ·refine calls_intro (N := 43) Try.func104 (by kernel_rfl) fun a41 hf42 => ?_
      refine c_sr ?_
      refine c_box [.slice e1 r1.1.length q1, .map e2] 119 hS24 hf42 fun b12 ww20 a42 hS26 hf43 => ⟨fun _ => trivial, ?_⟩
      refine c_dt ?_
      refine c_seq ?_
      obtain ⟨p11, hp94954, hr11⟩ := bind_some hr10
      refine pick_ok (i := y15) (bA := b6) (bB := b7) (bC := b8) (bD := b1) (jA := 7) (jB := 6) (jC := 5) (jD := 12) (mA := (some b2)) (mB := (some b3)) (mC := (some b4)) (vA := pB b12 0) (xs := x1) hS26 (Fr.to hf43) rfl rfl rfl rfl (SliceR.mono (zt (zt (zt k10 k11) k12) k13) hx_x1) hp94954 fun ww21 a43 hS27 hf45 => ?_
      rcases bft ((p11.kind == 1) || (p11.kind == 2)) with hb5 | hb5
      ·have hr12 := cond_t hb5 hr11
       have hm94964 : pickM p11.kind (some b2) (some b3) (some b4) = (some b2) := pick1 hb5
       rw [hm94964] at hf45
       refine n_then ?_
       refine c_sq [.slice e1 r1.1.length q1] [10, 27, 28, 29] hf45 (.cell (hS27.box (i := 0) rfl (j := 0) rfl) .nil) fun a44 hf46 => ?_
       refine c_block 0 ?_
       refine c_loop (fun n a w => ∃ z7 : Zone, ∃ y21 : List (Int × Int), ∃ y22 : Int, Zone.le z5 z7 ∧ Fr a 43 [(10, .map (some b2)), (27, .slice e1 r1.1.length q1), (28, vI (r1.1.length : Int)), (29, vI y22)] ∧ St z7 (box b12 [.slice e1 r1.1.length q1, .map e2] 119 :: box b11 [.slice e1 r1.1.length q1, .map e2] 119 :: emp :: box b10 [vI p10.kind, vI p10.lot, vI p10.frm, vI p10.to, vI p10.mass] 28 :: plA 126 40 117 b9 r1.2.2.2 :: box b8 [.map (some b4)] 144 :: box b7 [.map (some b3)] 144 :: box b6 [.map (some b2)] 144 :: mapA (Value.int .i64) b5 ([]) :: mapA (Value.int .i64) b4 y19 :: mapA (Value.int .i64) b3 y20 :: mapA (Value.int .i64) b2 y21 :: box b1 [.slice o_x1 x1.length c_x1] 64 :: L) w ∧ (F45_l2 (F45_l1 fuel x0 x1 n9) y19 y20 y15 r1 n y21 y22) = some r) fuel ⟨z5, y23, 0, zr, hf46.to, hS27, hr12⟩ ?_
       rintro n11 a45 ww22 ⟨z7, y21, y22, k14, hf48, hS28, hr13⟩
       cases n11 with
       | zero => cases hr13
       | succ n5 =>
       refine c_sq [] [10, 27, 28, 29, 30] hf48 .nil fun a46 hf49 => ?_
       refine c_seq ?_
       refine c_if (decide (y22 < (r1.1.length : Int))) hf49 (fun hb6 => ?_) (fun hb6 => ?_)
       ·have hr14 := cond_t hb6 hr13
        refine c_skip ?_
        refine n_then ?_
        refine c_seq ?_
        refine c_block 1 ?_
        refine c_sr ?_
        obtain ⟨p6, hp95318, hr15⟩ := bind_some hr14
        obtain ⟨ad2, ho2, hb7, cc2, hc2, hk2⟩ := SliceR.getI (SliceR.mono k14 hx1) hp95318
        subst hc2
        refine c_n 2 [.pointer (some ad2), vI p6.lot, vI p6.mass] [10, 27, 28, 29, 32] hf49 (.prop ho2 (.prop hb7 (.cell (hS28.cell (hk2 0 _ rfl)) (.cell (hS28.cell (hk2 1 _ rfl)) .nil)))) fun a47 hf50 => ?_
        refine c_box [vI 0, vI 0] 56 hS28 hf50 fun b13 ww23 a48 hS29 hf51 => ⟨fun _ => trivial, ?_⟩
        refine c_st 0 [vI p6.lot, vI p6.mass] hS29 hf51 rfl fun ww24 a49 hS30 hf52 => ⟨fun _ => trivial, ?_⟩
        refine c_dt ?_
        refine c_sq [] [10, 12, 27, 28, 29, 34] hf52 .nil fun a50 hf53 => ?_
        refine w_if_true hf53 (by kernel_rfl) ?_
        refine c_reg ?_
        refine c_n 3 [vI p6.lot] [10, 12, 27, 28, 29, 35, 37] hf53 (.cell (hS30.box (i := 0) rfl (j := 0) rfl) .nil) fun a51 hf54 => ?_
        refine p_lookup (i := 3) (d := (some 38)) (t := 144) (o := (some b2)) (k := p6.lot) (c := false) (z := (0 : Int)) (D := y21) hf54 (by kernel_rfl) mp144 (hS30.mapLook (j := 12) rfl) fun a52 hf55 => ⟨fun _ => trivial, ?_⟩
        refine c_n 3 [vI p6.mass] [10, 27, 28, 29, 35, 37, 41] hf55 (.cell (hS30.box (i := 0) rfl (j := 1) rfl) .nil) fun a53 hf56 => ?_
        refine p_put (i := 7) (j := 12) (t := 144) (r := b2) (k := p6.lot) (v := (w64 ((lkK y21 p6.lot (0 : Int)) + p6.mass))) hS30 hf56 rfl (by kernel_rfl) mp144 fun ww25 a54 hS31 hf57 => ⟨fun _ => trivial, ?_⟩
        refine c_done ?_
        refine n_block ?_
        refine n_then ?_
        refine c_q [] [10, 27, 28, 29] hf57 .nil fun a55 hf58 => ?_
        refine n_then ?_
        exact ⟨n5, Nat.lt_succ_self n5, z7, (putK y21 p6.lot (w64 ((lkK y21 p6.lot (0 : Int)) + p6.mass))), (w64 (y22 + (1 : Int))), k14, hf58.to, (St.drop 1 hS31), hr15⟩
       ·have hr16 := cond_f hb6 hr13
        refine c_exit 0 ?_
        refine x_then ?_
        refine x_then ?_
        refine x_block ?_
        refine c_fall [] (.tuple #[]) hf49 .nil ?_
        exact ⟨_, rfl, z7, y19, y20, y21, k14, rfl, (St.drop 1 hS28), hr16⟩
      ·have hr17 := cond_f hb5 hr11
       rcases bft (p11.kind == 3) with hb8 | hb8
       ·have hr18 := cond_t hb8 hr17
        have hm95364 : pickM p11.kind (some b2) (some b3) (some b4) = (some b3) := pick2 hb5 hb8
        rw [hm95364] at hf45
        refine n_then ?_
        refine c_sq [.slice e1 r1.1.length q1] [10, 27, 28, 29] hf45 (.cell (hS27.box (i := 0) rfl (j := 0) rfl) .nil) fun a56 hf60 => ?_
        refine c_block 0 ?_
        refine c_loop (fun n a w => ∃ z8 : Zone, ∃ y24 : List (Int × Int), ∃ y25 : Int, Zone.le z5 z8 ∧ Fr a 43 [(10, .map (some b3)), (27, .slice e1 r1.1.length q1), (28, vI (r1.1.length : Int)), (29, vI y25)] ∧ St z8 (box b12 [.slice e1 r1.1.length q1, .map e2] 119 :: box b11 [.slice e1 r1.1.length q1, .map e2] 119 :: emp :: box b10 [vI p10.kind, vI p10.lot, vI p10.frm, vI p10.to, vI p10.mass] 28 :: plA 126 40 117 b9 r1.2.2.2 :: box b8 [.map (some b4)] 144 :: box b7 [.map (some b3)] 144 :: box b6 [.map (some b2)] 144 :: mapA (Value.int .i64) b5 ([]) :: mapA (Value.int .i64) b4 y19 :: mapA (Value.int .i64) b3 y24 :: mapA (Value.int .i64) b2 y23 :: box b1 [.slice o_x1 x1.length c_x1] 64 :: L) w ∧ (F45_l3 (F45_l1 fuel x0 x1 n9) y19 y23 y15 r1 n y24 y25) = some r) fuel ⟨z5, y20, 0, zr, hf60.to, hS27, hr18⟩ ?_
        rintro n12 a57 ww26 ⟨z8, y24, y25, k15, hf62, hS32, hr19⟩
        cases n12 with
        | zero => cases hr19
        | succ n6 =>
        refine c_sq [] [10, 27, 28, 29, 30] hf62 .nil fun a58 hf63 => ?_
        refine c_seq ?_
        refine c_if (decide (y25 < (r1.1.length : Int))) hf63 (fun hb9 => ?_) (fun hb9 => ?_)
        ·have hr20 := cond_t hb9 hr19
         refine c_skip ?_
         refine n_then ?_
         refine c_seq ?_
         refine c_block 1 ?_
         refine c_sr ?_
         obtain ⟨p7, hp95718, hr21⟩ := bind_some hr20
         obtain ⟨ad3, ho3, hb10, cc3, hc3, hk3⟩ := SliceR.getI (SliceR.mono k15 hx1) hp95718
         subst hc3
         refine c_n 2 [.pointer (some ad3), vI p7.lot, vI p7.mass] [10, 27, 28, 29, 32] hf63 (.prop ho3 (.prop hb10 (.cell (hS32.cell (hk3 0 _ rfl)) (.cell (hS32.cell (hk3 1 _ rfl)) .nil)))) fun a59 hf64 => ?_
         refine c_box [vI 0, vI 0] 56 hS32 hf64 fun b14 ww27 a60 hS33 hf65 => ⟨fun _ => trivial, ?_⟩
         refine c_st 0 [vI p7.lot, vI p7.mass] hS33 hf65 rfl fun ww28 a61 hS34 hf66 => ⟨fun _ => trivial, ?_⟩
         refine c_dt ?_
         refine c_sq [] [10, 12, 27, 28, 29, 34] hf66 .nil fun a62 hf67 => ?_
         refine w_if_true hf67 (by kernel_rfl) ?_
         refine c_reg ?_
         refine c_n 3 [vI p7.lot] [10, 12, 27, 28, 29, 35, 37] hf67 (.cell (hS34.box (i := 0) rfl (j := 0) rfl) .nil) fun a63 hf68 => ?_
         refine p_lookup (i := 3) (d := (some 38)) (t := 144) (o := (some b3)) (k := p7.lot) (c := false) (z := (0 : Int)) (D := y24) hf68 (by kernel_rfl) mp144 (hS34.mapLook (j := 11) rfl) fun a64 hf69 => ⟨fun _ => trivial, ?_⟩
         refine c_n 3 [vI p7.mass] [10, 27, 28, 29, 35, 37, 41] hf69 (.cell (hS34.box (i := 0) rfl (j := 1) rfl) .nil) fun a65 hf70 => ?_
         refine p_put (i := 7) (j := 11) (t := 144) (r := b3) (k := p7.lot) (v := (w64 ((lkK y24 p7.lot (0 : Int)) + p7.mass))) hS34 hf70 rfl (by kernel_rfl) mp144 fun ww29 a66 hS35 hf71 => ⟨fun _ => trivial, ?_⟩
         refine c_done ?_
         refine n_block ?_
         refine n_then ?_
         refine c_q [] [10, 27, 28, 29] hf71 .nil fun a67 hf72 => ?_
         refine n_then ?_
         exact ⟨n6, Nat.lt_succ_self n6, z8, (putK y24 p7.lot (w64 ((lkK y24 p7.lot (0 : Int)) + p7.mass))), (w64 (y25 + (1 : Int))), k15, hf72.to, (St.drop 1 hS35), hr21⟩
        ·have hr22 := cond_f hb9 hr19
         refine c_exit 0 ?_
         refine x_then ?_
         refine x_then ?_
         refine x_block ?_
         refine c_fall [] (.tuple #[]) hf63 .nil ?_
         exact ⟨_, rfl, z8, y19, y24, y23, k15, rfl, (St.drop 1 hS32), hr22⟩
       ·have hr23 := cond_f hb8 hr17
        rcases bft (p11.kind == 5) with hb11 | hb11
        ·have hr24 := cond_t hb11 hr23
         have hm95764 : pickM p11.kind (some b2) (some b3) (some b4) = (some b4) := pick3 hb5 hb8 hb11
         rw [hm95764] at hf45
         refine n_then ?_
         refine c_sq [.slice e1 r1.1.length q1] [10, 27, 28, 29] hf45 (.cell (hS27.box (i := 0) rfl (j := 0) rfl) .nil) fun a68 hf74 => ?_
         refine c_block 0 ?_
         refine c_loop (fun n a w => ∃ z9 : Zone, ∃ y26 : List (Int × Int), ∃ y27 : Int, Zone.le z5 z9 ∧ Fr a 43 [(10, .map (some b4)), (27, .slice e1 r1.1.length q1), (28, vI (r1.1.length : Int)), (29, vI y27)] ∧ St z9 (box b12 [.slice e1 r1.1.length q1, .map e2] 119 :: box b11 [.slice e1 r1.1.length q1, .map e2] 119 :: emp :: box b10 [vI p10.kind, vI p10.lot, vI p10.frm, vI p10.to, vI p10.mass] 28 :: plA 126 40 117 b9 r1.2.2.2 :: box b8 [.map (some b4)] 144 :: box b7 [.map (some b3)] 144 :: box b6 [.map (some b2)] 144 :: mapA (Value.int .i64) b5 ([]) :: mapA (Value.int .i64) b4 y26 :: mapA (Value.int .i64) b3 y20 :: mapA (Value.int .i64) b2 y23 :: box b1 [.slice o_x1 x1.length c_x1] 64 :: L) w ∧ (F45_l4 (F45_l1 fuel x0 x1 n9) y20 y23 y15 r1 n y26 y27) = some r) fuel ⟨z5, y19, 0, zr, hf74.to, hS27, hr24⟩ ?_
         rintro n13 a69 ww30 ⟨z9, y26, y27, k16, hf76, hS36, hr25⟩
         cases n13 with
         | zero => cases hr25
         | succ n7 =>
         refine c_sq [] [10, 27, 28, 29, 30] hf76 .nil fun a70 hf77 => ?_
         refine c_seq ?_
         refine c_if (decide (y27 < (r1.1.length : Int))) hf77 (fun hb12 => ?_) (fun hb12 => ?_)
         ·have hr26 := cond_t hb12 hr25
          refine c_skip ?_
          refine n_then ?_
          refine c_seq ?_
          refine c_block 1 ?_
          refine c_sr ?_
          obtain ⟨p8, hp96118, hr27⟩ := bind_some hr26
          obtain ⟨ad4, ho4, hb13, cc4, hc4, hk4⟩ := SliceR.getI (SliceR.mono k16 hx1) hp96118
          subst hc4
          refine c_n 2 [.pointer (some ad4), vI p8.lot, vI p8.mass] [10, 27, 28, 29, 32] hf77 (.prop ho4 (.prop hb13 (.cell (hS36.cell (hk4 0 _ rfl)) (.cell (hS36.cell (hk4 1 _ rfl)) .nil)))) fun a71 hf78 => ?_
          refine c_box [vI 0, vI 0] 56 hS36 hf78 fun b15 ww31 a72 hS37 hf79 => ⟨fun _ => trivial, ?_⟩
          refine c_st 0 [vI p8.lot, vI p8.mass] hS37 hf79 rfl fun ww32 a73 hS38 hf80 => ⟨fun _ => trivial, ?_⟩
          refine c_dt ?_
          refine c_sq [] [10, 12, 27, 28, 29, 34] hf80 .nil fun a74 hf81 => ?_
          refine w_if_true hf81 (by kernel_rfl) ?_
          refine c_reg ?_
          refine c_n 3 [vI p8.lot] [10, 12, 27, 28, 29, 35, 37] hf81 (.cell (hS38.box (i := 0) rfl (j := 0) rfl) .nil) fun a75 hf82 => ?_
          refine p_lookup (i := 3) (d := (some 38)) (t := 144) (o := (some b4)) (k := p8.lot) (c := false) (z := (0 : Int)) (D := y26) hf82 (by kernel_rfl) mp144 (hS38.mapLook (j := 10) rfl) fun a76 hf83 => ⟨fun _ => trivial, ?_⟩
          refine c_n 3 [vI p8.mass] [10, 27, 28, 29, 35, 37, 41] hf83 (.cell (hS38.box (i := 0) rfl (j := 1) rfl) .nil) fun a77 hf84 => ?_
          refine p_put (i := 7) (j := 10) (t := 144) (r := b4) (k := p8.lot) (v := (w64 ((lkK y26 p8.lot (0 : Int)) + p8.mass))) hS38 hf84 rfl (by kernel_rfl) mp144 fun ww33 a78 hS39 hf85 => ⟨fun _ => trivial, ?_⟩
          refine c_done ?_
          refine n_block ?_
          refine n_then ?_
          refine c_q [] [10, 27, 28, 29] hf85 .nil fun a79 hf86 => ?_
          refine n_then ?_
          exact ⟨n7, Nat.lt_succ_self n7, z9, (putK y26 p8.lot (w64 ((lkK y26 p8.lot (0 : Int)) + p8.mass))), (w64 (y27 + (1 : Int))), k16, hf86.to, (St.drop 1 hS39), hr27⟩
         ·have hr28 := cond_f hb12 hr25
          refine c_exit 0 ?_
          refine x_then ?_
          refine x_then ?_
          refine x_block ?_
          refine c_fall [] (.tuple #[]) hf77 .nil ?_
          exact ⟨_, rfl, z9, y26, y20, y23, k16, rfl, (St.drop 1 hS36), hr28⟩
        ·have hr29 := cond_f hb11 hr23
         have hm96163 : pickM p11.kind (some b2) (some b3) (some b4) = none := pick4 hb5 hb8 hb11
         rw [hm96163] at hf45
         refine n_then ?_
         refine c_sq [.slice e1 r1.1.length q1] [10, 27, 28, 29] hf45 (.cell (hS27.box (i := 0) rfl (j := 0) rfl) .nil) fun a80 hf88 => ?_
         refine c_block 0 ?_
         refine c_loop (fun n a w => ∃ z10 : Zone, ∃ y28 : Int, Zone.le z5 z10 ∧ Fr a 43 [(10, .map none), (27, .slice e1 r1.1.length q1), (28, vI (r1.1.length : Int)), (29, vI y28)] ∧ St z10 (box b12 [.slice e1 r1.1.length q1, .map e2] 119 :: box b11 [.slice e1 r1.1.length q1, .map e2] 119 :: emp :: box b10 [vI p10.kind, vI p10.lot, vI p10.frm, vI p10.to, vI p10.mass] 28 :: plA 126 40 117 b9 r1.2.2.2 :: box b8 [.map (some b4)] 144 :: box b7 [.map (some b3)] 144 :: box b6 [.map (some b2)] 144 :: mapA (Value.int .i64) b5 ([]) :: mapA (Value.int .i64) b4 y19 :: mapA (Value.int .i64) b3 y20 :: mapA (Value.int .i64) b2 y23 :: box b1 [.slice o_x1 x1.length c_x1] 64 :: L) w ∧ (F45_l5 (F45_l1 fuel x0 x1 n9) y19 y20 y23 y15 r1 n y28) = some r) fuel ⟨z5, 0, zr, hf88.to, hS27, hr29⟩ ?_
         rintro n14 a81 ww34 ⟨z10, y28, k17, hf90, hS40, hr30⟩
         cases n14 with
         | zero => cases hr30
         | succ n8 =>
         refine c_sq [] [10, 27, 28, 29, 30] hf90 .nil fun a82 hf91 => ?_
         refine c_seq ?_
         refine c_if (decide (y28 < (r1.1.length : Int))) hf91 (fun hb14 => ?_) (fun hb14 => ?_)
         ·have hr31 := cond_t hb14 hr30
          refine c_skip ?_
          refine n_then ?_
          refine c_seq ?_
          refine c_block 1 ?_
          refine c_sr ?_
          obtain ⟨p9, hp96374, hr32⟩ := bind_some hr31
          obtain ⟨ad5, ho5, hb15, cc5, hc5, hk5⟩ := SliceR.getI (SliceR.mono k17 hx1) hp96374
          subst hc5
          refine c_n 2 [.pointer (some ad5), vI p9.lot, vI p9.mass] [10, 27, 28, 29, 32] hf91 (.prop ho5 (.prop hb15 (.cell (hS40.cell (hk5 0 _ rfl)) (.cell (hS40.cell (hk5 1 _ rfl)) .nil)))) fun a83 hf92 => ?_
          refine c_box [vI 0, vI 0] 56 hS40 hf92 fun b16 ww35 a84 hS41 hf93 => ⟨fun _ => trivial, ?_⟩
          refine c_st 0 [vI p9.lot, vI p9.mass] hS41 hf93 rfl fun ww36 a85 hS42 hf94 => ⟨fun _ => trivial, ?_⟩
          refine c_dt ?_
          refine c_sq [] [10, 12, 27, 28, 29, 34] hf94 .nil fun a86 hf95 => ?_
          refine w_if_false hf95 (by kernel_rfl) ?_
          refine c_skip ?_
          refine n_block ?_
          refine n_then ?_
          refine c_q [] [10, 27, 28, 29] hf95 .nil fun a87 hf96 => ?_
          refine n_then ?_
          exact ⟨n8, Nat.lt_succ_self n8, z10, (w64 (y28 + (1 : Int))), k17, hf96.to, (St.drop 1 hS42), hr32⟩
         ·have hr33 := cond_f hb14 hr30
          refine c_exit 0 ?_
          refine x_then ?_
          refine x_then ?_
          refine x_block ?_
          refine c_fall [] (.tuple #[]) hf91 .nil ?_
          exact ⟨_, rfl, z10, y19, y20, y23, k17, rfl, (St.drop 1 hS40), hr33⟩
     ·rintro v4 ww37 a88 ⟨z6, y16, y17, y18, k18, rfl, hS43, hr34⟩ hf98
      refine ⟨fun _ => trivial, ?_⟩
      refine c_done ?_
      refine n_block ?_
      refine n_then ?_
      refine c_q [] [1, 2, 10, 24, 25, 26] hf98 .nil fun a89 hf99 => ?_
      refine n_then ?_
      exact ⟨n9, Nat.lt_succ_self n9, z6, r1.2.2.2, y16, y17, y18, (w64 (y15 + (1 : Int))), (zt (zt k12 k13) k18), hf99.to, (St.drop 3 hS43), hr34⟩
   ·have hr35 := cond_f hb2 hr5
    refine c_exit 0 ?_
    refine x_then ?_
    refine x_then ?_
    refine x_block ?_
    refine n_then ?_
    refine c_sq [] [6, 7, 8] hf28 .nil fun a90 hf101 => ?_
    refine c_ret ?_
    refine c_rt [] (.tuple #[pB b9 0, vI (x1.length : Int), vI 0]) hf101 .nil ?_
    have hS44 := hS15.plSome (i := 0) rfl
    exact ⟨_, rfl, z4, y19, y20, y23, (some y29), (x1.length : Int), 0, (some ⟨b9, 0, none⟩), (zt (zt k10 k11) k12), rfl, (St.pick 1 [0] hS44 (by kernel_rfl)), hr35⟩
 ·rintro v5 ww38 a91 ⟨z1, y6, y7, y8, y12, y13, y14, p12, k19, rfl, hS45, hr36⟩ hf102
  refine ⟨fun _ => trivial, ?_⟩
  refine c_t [] [0, 6, 7, 8, 9, 10, 12] hf102 .nil fun a92 hf103 => ?_
  refine c_seq ?_
  refine c_sq [] [0, 6, 7, 8, 9, 10, 12, 35] hf103 .nil fun a93 hf104 => ?_
  refine c_if (y14 != (0 : Int)) hf104 (fun hb16 => ?_) (fun hb16 => ?_)
  ·have hr37 := cond_t hb16 hr36
   refine c_sq [] [4, 5] hf104 .nil fun a94 hf105 => ?_
   refine c_ret ?_
   refine r_then ?_
   refine c_rt [] (.tuple #[.slice none 0 0, vI y14]) hf105 .nil ?_
   obtain rfl := some_eq hr37
   exact ⟨_, rfl, z1, none, 0, k19, rfl, (St.drop 9 hS45), SliceR.nil' _ _⟩
  ·have hr38 := cond_f hb16 hr36
   refine c_skip ?_
   refine n_then ?_
   refine c_seq ?_
   refine c_seq ?_
   obtain ⟨p5, hp122871, hr39⟩ := bind_some hr38
   rw [hp122871] at hS45
   obtain ⟨b17, he1, hS46⟩ := hS45.plGet (i := 0) rfl
   subst he1
   obtain ⟨e3, q2, v6, v7, v8, v9, v10, v11, v12, v13, v14, v15, v16, v17, v18, v19, v20, v21, v22, v23, hx3, hS47⟩ := hS46.plOpen (i := 0) rfl
   refine c_q [v6, v7, v8, v9, v10, v11, v12, v13, v14] [0, 6, 7, 8, 9, 41, 42] hf104 (.cell (hS47.box (i := 2) rfl (j := 1) rfl) (.cell (hS47.box (i := 2) rfl (j := 2) rfl) (.cell (hS47.box (i := 2) rfl (j := 3) rfl) (.cell (hS47.box (i := 2) rfl (j := 4) rfl) (.cell (hS47.box (i := 2) rfl (j := 5) rfl) (.cell (hS47.box (i := 2) rfl (j := 6) rfl) (.cell (hS47.box (i := 2) rfl (j := 7) rfl) (.cell (hS47.box (i := 2) rfl (j := 8) rfl) (.cell (hS47.box (i := 2) rfl (j := 9) rfl) .nil))))))))) fun a95 hf106 => ?_
   refine n_then ?_
   refine c_block 0 ?_
   refine c_loop (fun n a w => ∃ z11 : Zone, ∃ y9 : List (Int × Int), ∃ y4 : Int, Zone.le z1 z11 ∧ Fr a 98 [(0, .slice o_x0 x0.length c_x0), (6, pB b6 0), (7, pB b7 0), (8, pB b8 0), (9, .map (some b5)), (41, .agg #[v6, v7, v8, v9, v10, v11, v12, v13, v14]), (42, vI y4)] ∧ St z11 (ownA (Ty.slice PartT) 40 [v6, v7, v8, v9, v10, v11, v12, v13, v14] p5.holds :: ownA (Ty.map Value.bool) 117 [v15, v16, v17, v18, v19, v20, v21, v22, v23] p5.may :: box b17 [.slice e3 p5.lots.length q2, v6, v7, v8, v9, v10, v11, v12, v13, v14, v15, v16, v17, v18, v19, v20, v21, v22, v23] 126 :: box b8 [.map (some b4)] 144 :: box b7 [.map (some b3)] 144 :: box b6 [.map (some b2)] 144 :: mapA (Value.int .i64) b5 y9 :: mapA (Value.int .i64) b4 y6 :: mapA (Value.int .i64) b3 y7 :: mapA (Value.int .i64) b2 y8 :: box b1 [.slice o_x1 x1.length c_x1] 64 :: L) w ∧ (F45_l6 fuel x0 y6 y7 y8 p5 n y9 y4) = some r) fuel ⟨z1, [], 0, zr, hf106.to, hS47, hr39⟩ ?_
   rintro n15 a96 ww39 ⟨z11, y9, y4, k20, hf108, hS48, hr40⟩
   cases n15 with
   | zero => cases hr40
   | succ n4 =>
   refine c_sq [] [0, 6, 7, 8, 9, 41, 42, 43] hf108 .nil fun a97 hf109 => ?_
   refine c_seq ?_
   refine c_if (decide (y4 < (9 : Int))) hf109 (fun hb17 => ?_) (fun hb17 => ?_)
   ·have hr41 := cond_t hb17 hr40
    refine c_skip ?_
    refine n_then ?_
    refine c_seq ?_
    refine c_block 1 ?_
    obtain ⟨p3, hp146021, hr42⟩ := bind_some hr41
    obtain ⟨e4, q3, hv1, hb18, hS49⟩ := hS48.ownOpen (j := 0) rfl hp146021
    have hk6 := arrIdx hv1
    refine c_sq [.slice e4 p3.length q3] [0, 6, 7, 8, 9, 14, 41, 42] hf109 (.prop hb18 (.prop hk6 .nil)) fun a98 hf110 => ?_
    refine c_sq [] [0, 6, 7, 8, 9, 41, 42, 45, 46, 47] hf110 .nil fun a99 hf111 => ?_
    refine c_block 2 ?_
    refine c_loop (fun n a w => ∃ z12 : Zone, ∃ y5 : List (Int × Int), ∃ y1 : Int, Zone.le z11 z12 ∧ Fr a 98 [(0, .slice o_x0 x0.length c_x0), (6, pB b6 0), (7, pB b7 0), (8, pB b8 0), (9, .map (some b5)), (41, .agg #[v6, v7, v8, v9, v10, v11, v12, v13, v14]), (42, vI y4), (45, .slice e4 p3.length q3), (46, vI (p3.length : Int)), (47, vI y1)] ∧ St z12 (ownS (Ty.slice PartT) 40 e4 q3 p3 :: ownH (Ty.slice PartT) 40 [v6, v7, v8, v9, v10, v11, v12, v13, v14] p5.holds (Int.toNat y4) :: ownA (Ty.map Value.bool) 117 [v15, v16, v17, v18, v19, v20, v21, v22, v23] p5.may :: box b17 [.slice e3 p5.lots.length q2, v6, v7, v8, v9, v10, v11, v12, v13, v14, v15, v16, v17, v18, v19, v20, v21, v22, v23] 126 :: box b8 [.map (some b4)] 144 :: box b7 [.map (some b3)] 144 :: box b6 [.map (some b2)] 144 :: mapA (Value.int .i64) b5 y5 :: mapA (Value.int .i64) b4 y6 :: mapA (Value.int .i64) b3 y7 :: mapA (Value.int .i64) b2 y8 :: box b1 [.slice o_x1 x1.length c_x1] 64 :: L) w ∧ (F45_l7 fuel (F45_l6 fuel x0 y6 y7 y8 p5 n4) y4 p3 n y5 y1) = some r) fuel ⟨z11, y9, 0, zr, hf111.to, hS49, hr42⟩ ?_
    rintro n16 a100 ww40 ⟨z12, y5, y1, k21, hf113, hS50, hr43⟩
    cases n16 with
    | zero => cases hr43
    | succ n2 =>
    refine c_sq [] [0, 6, 7, 8, 9, 41, 42, 45, 46, 47, 48] hf113 .nil fun a101 hf114 => ?_
    refine c_seq ?_
    refine c_if (decide (y1 < (p3.length : Int))) hf114 (fun hb19 => ?_) (fun hb19 => ?_)
    ·have hr44 := cond_t hb19 hr43
     refine c_skip ?_
     refine n_then ?_
     refine c_seq ?_
     refine c_block 3 ?_
     refine c_sr ?_
     obtain ⟨p1, hp148911, hr45⟩ := bind_some hr44
     obtain ⟨ad6, ho6, hb20, cc6, hc6, hk7⟩ := hS50.ownGet (j := 0) rfl hp148911
     obtain ⟨e5, q4, rfl, hx4⟩ := hc6
     refine c_n 2 [.pointer (some ad6), .slice e5 p1.length q4] [0, 6, 7, 8, 9, 41, 42, 45, 46, 47, 50] hf114 (.prop ho6 (.prop hb20 (.cell (hk7 0 _ rfl) .nil))) fun a102 hf115 => ?_
     refine c_box [.slice none 0 0] 40 hS50 hf115 fun b18 ww41 a103 hS51 hf116 => ⟨fun _ => trivial, ?_⟩
     refine c_st 0 [.slice e5 p1.length q4] hS51 hf116 rfl fun ww42 a104 hS52 hf117 => ⟨fun _ => trivial, ?_⟩
     refine c_dt ?_
     refine c_sq [.slice e5 p1.length q4] [0, 6, 7, 8, 9, 41, 42, 45, 46, 47, 52, 53, 54] hf117 (.cell (hS52.box (i := 0) rfl (j := 0) rfl) .nil) fun a105 hf118 => ?_
     refine c_block 4 ?_
     refine c_loop (fun n a w => ∃ z13 : Zone, ∃ y2 : List (Int × Int), ∃ y3 : Int, Zone.le z12 z13 ∧ Fr a 98 [(0, .slice o_x0 x0.length c_x0), (6, pB b6 0), (7, pB b7 0), (8, pB b8 0), (9, .map (some b5)), (41, .agg #[v6, v7, v8, v9, v10, v11, v12, v13, v14]), (42, vI y4), (45, .slice e4 p3.length q3), (46, vI (p3.length : Int)), (47, vI y1), (52, .slice e5 p1.length q4), (53, vI (p1.length : Int)), (54, vI y3)] ∧ St z13 (box b18 [.slice e5 p1.length q4] 40 :: ownS (Ty.slice PartT) 40 e4 q3 p3 :: ownH (Ty.slice PartT) 40 [v6, v7, v8, v9, v10, v11, v12, v13, v14] p5.holds (Int.toNat y4) :: ownA (Ty.map Value.bool) 117 [v15, v16, v17, v18, v19, v20, v21, v22, v23] p5.may :: box b17 [.slice e3 p5.lots.length q2, v6, v7, v8, v9, v10, v11, v12, v13, v14, v15, v16, v17, v18, v19, v20, v21, v22, v23] 126 :: box b8 [.map (some b4)] 144 :: box b7 [.map (some b3)] 144 :: box b6 [.map (some b2)] 144 :: mapA (Value.int .i64) b5 y2 :: mapA (Value.int .i64) b4 y6 :: mapA (Value.int .i64) b3 y7 :: mapA (Value.int .i64) b2 y8 :: box b1 [.slice o_x1 x1.length c_x1] 64 :: L) w ∧ (F45_l8 (F45_l7 fuel (F45_l6 fuel x0 y6 y7 y8 p5 n4) y4 p3 n2) y1 p1 n y2 y3) = some r) fuel ⟨z12, y5, 0, zr, hf118.to, hS52, hr45⟩ ?_
     rintro n17 a106 ww43 ⟨z13, y2, y3, k22, hf120, hS53, hr46⟩
     cases n17 with
     | zero => cases hr46
     | succ n1 =>
     refine c_sq [] [0, 6, 7, 8, 9, 41, 42, 45, 46, 47, 52, 53, 54, 55] hf120 .nil fun a107 hf121 => ?_
     refine c_seq ?_
     refine c_if (decide (y3 < (p1.length : Int))) hf121 (fun hb21 => ?_) (fun hb21 => ?_)
     ·have hr47 := cond_t hb21 hr46
      refine c_skip ?_
      refine n_then ?_
      refine c_seq ?_
      refine c_block 5 ?_
      refine c_sr ?_
      obtain ⟨p2, hp149271, hr48⟩ := bind_some hr47
      obtain ⟨ad7, ho7, hb22, cc7, hc7, hk8⟩ := SliceR.getI (SliceR.mono k22 hx4) hp149271
      subst hc7
      refine c_n 2 [.pointer (some ad7), vI p2.lot, vI p2.mass] [0, 6, 7, 8, 9, 41, 42, 45, 46, 47, 52, 53, 54, 57] hf121 (.prop ho7 (.prop hb22 (.cell (hS53.cell (hk8 0 _ rfl)) (.cell (hS53.cell (hk8 1 _ rfl)) .nil)))) fun a108 hf122 => ?_
      refine c_box [vI 0, vI 0] 56 hS53 hf122 fun b19 ww44 a109 hS54 hf123 => ⟨fun _ => trivial, ?_⟩
      refine c_st 0 [vI p2.lot, vI p2.mass] hS54 hf123 rfl fun ww45 a110 hS55 hf124 => ⟨fun _ => trivial, ?_⟩
      refine c_dt ?_
      refine c_reg ?_
      refine c_n 3 [vI p2.lot] [0, 6, 7, 8, 9, 18, 41, 42, 45, 46, 47, 52, 53, 54, 58, 60] hf124 (.cell (hS55.box (i := 0) rfl (j := 0) rfl) .nil) fun a111 hf125 => ?_
      refine p_lookup (i := 3) (d := (some 61)) (t := 144) (o := (some b5)) (k := p2.lot) (c := false) (z := (0 : Int)) (D := y2) hf125 (by kernel_rfl) mp144 (hS55.mapLook (j := 9) rfl) fun a112 hf126 => ⟨fun _ => trivial, ?_⟩
      refine c_n 3 [vI p2.mass] [0, 6, 7, 8, 9, 41, 42, 45, 46, 47, 52, 53, 54, 58, 60, 64] hf126 (.cell (hS55.box (i := 0) rfl (j := 1) rfl) .nil) fun a113 hf127 => ?_
      refine p_put (i := 7) (j := 9) (t := 144) (r := b5) (k := p2.lot) (v := (w64 ((lkK y2 p2.lot (0 : Int)) + p2.mass))) hS55 hf127 rfl (by kernel_rfl) mp144 fun ww46 a114 hS56 hf128 => ⟨fun _ => trivial, ?_⟩
      refine c_done ?_
      refine n_block ?_
      refine n_then ?_
      refine c_q [] [0, 6, 7, 8, 9, 41, 42, 45, 46, 47, 52, 53, 54] hf128 .nil fun a115 hf129 => ?_
      refine n_then ?_
      exact ⟨n1, Nat.lt_succ_self n1, z13, (putK y2 p2.lot (w64 ((lkK y2 p2.lot (0 : Int)) + p2.mass))), (w64 (y3 + (1 : Int))), k22, hf129.to, (St.drop 1 hS56), hr48⟩
     ·have hr49 := cond_f hb21 hr46
      refine c_exit 4 ?_
      refine x_then ?_
      refine x_then ?_
      refine x_block ?_
      refine n_block ?_
      refine n_then ?_
      refine c_q [] [0, 6, 7, 8, 9, 41, 42, 45, 46, 47] hf121 .nil fun a116 hf131 => ?_
      refine n_then ?_
      exact ⟨n2, Nat.lt_succ_self n2, z13, y2, (w64 (y1 + (1 : Int))), (zt k21 k22), hf131.to, (St.drop 1 hS53), hr49⟩
    ·have hr50 := cond_f hb19 hr43
     refine c_exit 2 ?_
     refine x_then ?_
     refine x_then ?_
     refine x_block ?_
     refine n_block ?_
     refine n_then ?_
     refine c_q [] [0, 6, 7, 8, 9, 41, 42] hf114 .nil fun a117 hf133 => ?_
     have hS57 := hS50.ownClose' (j := 1) (k := 0) rfl rfl (by decide) hv1 (getI_spec hp146021).2
     refine n_then ?_
     exact ⟨n4, Nat.lt_succ_self n4, z12, y5, (w64 (y4 + (1 : Int))), (zt k20 k21), hf133.to, (St.drop 1 hS57), hr50⟩
   ·have hr51 := cond_f hb17 hr40
    refine c_exit 0 ?_
    refine x_then ?_
    refine x_then ?_
    refine x_block ?_
    refine n_then ?_
    refine c_seq ?_
    refine c_q [] [0, 6, 7, 8, 9, 19] hf109 .nil fun a118 hf135 => ?_
    have hS58 := hS48.plClose (i := 2) (j := 0) (k := 1) rfl (SliceR.mono k20 hx3) rfl rfl (by decide) (by decide) (by decide)
    refine n_then ?_
    refine c_seq ?_
    refine c_sq [] [6, 7, 8, 9, 19, 68, 69, 70] hf135 .nil fun a119 hf136 => ?_
    refine c_block 6 ?_
    have hS59 := hS58.ownNil AccountT 83
    refine c_loop (fun n a w => ∃ z14 : Zone, ∃ y10 : List Account, ∃ y11 : Int, ∃ e6 : Option Addr, ∃ q5 : Nat, Zone.le z11 z14 ∧ Fr a 98 [(6, pB b6 0), (7, pB b7 0), (8, pB b8 0), (9, .map (some b5)), (19, .slice e6 y10.length q5), (68, .slice o_x0 x0.length c_x0), (69, vI (x0.length : Int)), (70, vI y11)] ∧ St z14 (ownS AccountT 83 e6 q5 y10 :: emp :: emp :: plA 126 40 117 b17 p5 :: box b8 [.map (some b4)] 144 :: box b7 [.map (some b3)] 144 :: box b6 [.map (some b2)] 144 :: mapA (Value.int .i64) b5 y9 :: mapA (Value.int .i64) b4 y6 :: mapA (Value.int .i64) b3 y7 :: mapA (Value.int .i64) b2 y8 :: box b1 [.slice o_x1 x1.length c_x1] 64 :: L) w ∧ (F45_l9 x0 y6 y7 y8 y9 n y10 y11) = some r) fuel ⟨z11, [], 0, none, 0, zr, hf136.to, hS59, hr51⟩ ?_
    rintro n18 a120 ww47 ⟨z14, y10, y11, e6, q5, k23, hf138, hS60, hr52⟩
    cases n18 with
    | zero => cases hr52
    | succ n3 =>
    refine c_sq [] [6, 7, 8, 9, 19, 68, 69, 70, 71] hf138 .nil fun a121 hf139 => ?_
    refine c_seq ?_
    refine c_if (decide (y11 < (x0.length : Int))) hf139 (fun hb23 => ?_) (fun hb23 => ?_)
    ·have hr53 := cond_t hb23 hr52
     refine c_skip ?_
     refine n_then ?_
     refine c_seq ?_
     refine c_block 7 ?_
     refine c_sr ?_
     obtain ⟨p4, hp151081, hr54⟩ := bind_some hr53
     obtain ⟨ad8, ho8, hb24, cc8, hc8, hk9⟩ := SliceR.getI (SliceR.mono (zt (zt k19 k20) k23) hx_x0) hp151081
     subst hc8
     refine c_n 2 [.pointer (some ad8), vI p4.id, vI p4.owner, vI p4.grade, vI p4.wet] [6, 7, 8, 9, 19, 68, 69, 70, 73] hf139 (.prop ho8 (.prop hb24 (.cell (hS60.cell (hk9 0 _ rfl)) (.cell (hS60.cell (hk9 1 _ rfl)) (.cell (hS60.cell (hk9 2 _ rfl)) (.cell (hS60.cell (hk9 3 _ rfl)) .nil)))))) fun a122 hf140 => ?_
     refine c_box [vI 0, vI 0, vI 0, vI 0] 33 hS60 hf140 fun b20 ww48 a123 hS61 hf141 => ⟨fun _ => trivial, ?_⟩
     refine c_st 0 [vI p4.id, vI p4.owner, vI p4.grade, vI p4.wet] hS61 hf141 rfl fun ww49 a124 hS62 hf142 => ⟨fun _ => trivial, ?_⟩
     refine c_dt ?_
     refine c_reg ?_
     refine c_n 6 [vI p4.id, .map (some b2), vI p4.id] [6, 7, 8, 9, 21, 68, 69, 70, 74, 76, 77, 79] hf142 (.cell (hS62.box (i := 0) rfl (j := 0) rfl) (.cell (hS62.box (i := 7) rfl (j := 0) rfl) (.cell (hS62.box (i := 0) rfl (j := 0) rfl) .nil))) fun a125 hf143 => ?_
     refine p_lookup (i := 6) (d := (some 80)) (t := 144) (o := (some b2)) (k := p4.id) (c := false) (z := (0 : Int)) (D := y8) hf143 (by kernel_rfl) mp144 (hS62.mapLook (j := 11) rfl) fun a126 hf144 => ⟨fun _ => trivial, ?_⟩
     refine c_n 3 [.map (some b3), vI p4.id] [6, 7, 8, 9, 21, 68, 69, 70, 74, 76, 80, 81, 83] hf144 (.cell (hS62.box (i := 6) rfl (j := 0) rfl) (.cell (hS62.box (i := 0) rfl (j := 0) rfl) .nil)) fun a127 hf145 => ?_
     refine p_lookup (i := 10) (d := (some 84)) (t := 144) (o := (some b3)) (k := p4.id) (c := false) (z := (0 : Int)) (D := y7) hf145 (by kernel_rfl) mp144 (hS62.mapLook (j := 10) rfl) fun a128 hf146 => ⟨fun _ => trivial, ?_⟩
     refine c_n 3 [.map (some b4), vI p4.id] [6, 7, 8, 9, 21, 68, 69, 70, 74, 76, 80, 84, 85, 87] hf146 (.cell (hS62.box (i := 5) rfl (j := 0) rfl) (.cell (hS62.box (i := 0) rfl (j := 0) rfl) .nil)) fun a129 hf147 => ?_
     refine p_lookup (i := 14) (d := (some 88)) (t := 144) (o := (some b4)) (k := p4.id) (c := false) (z := (0 : Int)) (D := y6) hf147 (by kernel_rfl) mp144 (hS62.mapLook (j := 9) rfl) fun a130 hf148 => ⟨fun _ => trivial, ?_⟩
     refine c_n 3 [vI p4.id] [6, 7, 8, 9, 68, 69, 70, 74, 76, 80, 84, 88, 89, 91] hf148 (.cell (hS62.box (i := 0) rfl (j := 0) rfl) .nil) fun a131 hf149 => ?_
     refine p_lookup (i := 18) (d := (some 92)) (t := 144) (o := (some b5)) (k := p4.id) (c := false) (z := (0 : Int)) (D := y9) hf149 (by kernel_rfl) mp144 (hS62.mapLook (j := 8) rfl) fun a132 hf150 => ⟨fun _ => trivial, ?_⟩
     refine c_n 1 [] [6, 7, 8, 9, 68, 69, 70, 74, 93] hf150 .nil fun a133 hf151 => ?_
     refine p_box (i := 20) (d := (some 94)) (cs := [vI p4.id, vI (lkK y8 p4.id (0 : Int)), vI (lkK y7 p4.id (0 : Int)), vI (lkK y6 p4.id (0 : Int)), vI (lkK y9 p4.id (0 : Int))]) (T := 83) (v := fun b21 => .slice (some ⟨b21, 0, none⟩) 1 1) hS62 hf151 (fun b => by kernel_rfl) fun b21 ww50 a134 hS63 hf152 => ⟨fun _ => trivial, ?_⟩
     have hS64 := hS63.ownBox (T := AccountT) (E := 83) (n := 1) (xs := [⟨p4.id, (lkK y8 p4.id (0 : Int)), (lkK y7 p4.id (0 : Int)), (lkK y6 p4.id (0 : Int)), (lkK y9 p4.id (0 : Int))⟩]) (i := 0) rfl (Rows.cons (c := [vI p4.id, vI (lkK y8 p4.id (0 : Int)), vI (lkK y7 p4.id (0 : Int)), vI (lkK y6 p4.id (0 : Int)), vI (lkK y9 p4.id (0 : Int))]) rfl rfl) rfl (by decide)
     obtain ⟨d1, hd4, hr55⟩ := bind_some hr54
     refine p_append (T := AccountT) (i := 21) (j := 2) (d := some 95) (o2 := (some ⟨b21, 0, none⟩)) (c2 := 1) (ys := ([⟨p4.id, (lkK y8 p4.id (0 : Int)), (lkK y7 p4.id (0 : Int)), (lkK y6 p4.id (0 : Int)), (lkK y9 p4.id (0 : Int))⟩])) el78 hS64 hf152 rfl (by kernel_rfl) (hS64.ownSrc (j := 0) rfl) hd4 fun e7 q6 ww51 a135 hS65 hf153 => ⟨fun _ => trivial, ?_⟩
     refine c_z [] [6, 7, 8, 9, 19, 68, 69, 70] hf153 .nil fun a136 hf154 => ?_
     refine n_block ?_
     refine n_then ?_
     refine c_q [] [6, 7, 8, 9, 19, 68, 69, 70] hf154 .nil fun a137 hf155 => ?_
     refine n_then ?_
     exact ⟨n3, Nat.lt_succ_self n3, z14, d1, (w64 (y11 + (1 : Int))), e7, q6, k23, hf155.to, (St.drop 2 hS65), hr55⟩
    ·have hr56 := cond_f hb23 hr52
     refine c_exit 6 ?_
     refine x_then ?_
     refine x_then ?_
     refine x_block ?_
     refine n_then ?_
     refine c_sq [] [4, 5] hf139 .nil fun a138 hf157 => ?_
     refine c_ret ?_
     obtain ⟨z15, k24, hS66, hx5⟩ := hS60.share (j := 0) rfl
     refine c_rt [] (.tuple #[.slice e6 y10.length q5, vI 0]) hf157 .nil ?_
     obtain rfl := some_eq hr56
     exact ⟨_, rfl, z15, e6, q5, (zt (zt (zt k19 k20) k23) k24), rfl, (St.drop 12 hS66), hx5⟩
end Go.Proofs.Ytlmgjjmighajdaa
set_option linter.unusedVariables false
namespace Go.Proofs.Ytlmgjjmighajdaa
open Go.Sl Go.Sx
def F49_j3 (y1 : List Trail) (y2 : Int) : Option (List Trail × Int) :=
  (cond (y2 != (0 : Int)) (some ([], y2)) (some (y1, 0)))
def F49_j1 (fuel : Nat) (x0 : List Lot) (x2 : Int) (y1 : List Trail) (y3 : Option Pl) (y4 : Int) (y5 : Int) : Option (List Trail × Int) :=
  (cond (y5 == (0 : Int)) ((F98 fuel x0 ([x2])).bind fun r1 => (F49_j3 y1 r1)) (F49_j3 y1 y5))
def F49_j2 (k1 : (List Trail) → Int → Option (List Trail × Int)) (y6 : Int) (y7 : List Trail) : Option (List Trail × Int) :=
  (k1 y7 (w64 (y6 + (1 : Int))))
def F49_l2 (k2 : (List Trail) → Pl → Int → Option (List Trail × Int)) (x2 : Int) (y8 : Int) (r2 : List Part × List (Int × Bool) × Int × Pl) : Nat → (List Trail) → Int → Option (List Trail × Int)
  | 0, _, _ => none
  | n1 + 1, y9, y6 =>
    let k1 : (List Trail) → Int → Option (List Trail × Int) := F49_l2 k2 x2 y8 r2 n1
    (cond (decide (y6 < (r2.1.length : Int))) ((getI r2.1 y6).bind fun p1 => (cond (p1.lot == x2) ((appC y9 ([⟨y8, p1.mass⟩])).bind fun d1 => (F49_j2 k1 y6 d1)) (F49_j2 k1 y6 y9))) (k2 y9 r2.2.2.2 (w64 (y8 + (1 : Int)))))
def F49_l1 (fuel : Nat) (x0 : List Lot) (x1 : List Deed) (x2 : Int) : Nat → (List Trail) → Pl → Int → Option (List Trail × Int)
  | 0, _, _, _ => none
  | n2 + 1, y10, y11, y8 =>
    let k2 : (List Trail) → Pl → Int → Option (List Trail × Int) := F49_l1 fuel x0 x1 x2 n2
    (cond (decide (y8 < (x1.length : Int))) ((getI x1 y8).bind fun p2 => ((F82 fuel y11 p2.kind p2.lot p2.frm p2.to p2.mass).bind fun r2 => (cond (r2.2.2.1 != (0 : Int)) (F49_j1 fuel x0 x2 y10 none y8 r2.2.2.1) (F49_l2 k2 x2 y8 r2 fuel y10 0)))) (F49_j1 fuel x0 x2 y10 (some y11) (x1.length : Int) 0))
def F49 (fuel : Nat) (x0 : List Lot) (x1 : List Deed) (x2 : Int) : Option (List Trail × Int) :=
  ((F110 fuel x0 x1).bind fun r3 => (cond (r3 != (0 : Int)) (F49_j1 fuel x0 x2 ([]) none 0 r3) ((F81 fuel x0 ([[], [], [], [], [], [], [], [], []])).bind fun r4 => (F49_l1 fuel x0 x1 x2 fuel ([]) r4 0))))
set_option maxRecDepth 100000 in
theorem f49_ok (fuel : Nat) (x0 : List Lot) (x1 : List Deed) (x2 : Int) (r : List Trail × Int) (hr : F49 fuel x0 x1 x2 = some r) (h : Zone) (L : List Atom) (w : World) (hS : St h L w) (o_x0 : Option Addr) (c_x0 : Nat) (hx_x0 : SliceR LotT h o_x0 c_x0 x0) (o_x1 : Option Addr) (c_x1 : Nat) (hx_x1 : SliceR DeedT h o_x1 c_x1 x1) :
    Calls Try.prog 49 #[.slice o_x0 x0.length c_x0, .slice o_x1 x1.length c_x1, vI x2] w fun e w' => ∃ v, e = .returned v ∧ (∃ h', ∃ o0 : Option Addr, ∃ c0 : Nat, Zone.le h h' ∧ v = .tuple #[.slice o0 r.1.length c0, vI r.2] ∧ St h' L w' ∧ SliceR TrailT h' o0 c0 r.1) := by
 refine calls_intro (N := 30) Try.func49 (by kernel_rfl) fun a hf => ?_
 refine c_sr ?_
 refine c_box [vI x2] 3 hS hf fun b1 ww1 a1 hS1 hf1 => ⟨fun _ => trivial, ?_⟩
 refine c_t [] [0, 1, 5] hf1 .nil fun a2 hf2 => ?_
 refine c_sr ?_
 refine c_box [.slice none 0 0] 85 hS1 hf2 fun b2 ww2 a3 hS2 hf3 => ⟨fun _ => trivial, ?_⟩
 refine c_dt ?_
 refine c_sr ?_
 refine c_n 3 [] [0, 5, 8, 13, 14, 15] hf3 .nil fun a4 hf4 => ?_
 refine c_call (f := 96) (args := #[.slice o_x0 x0.length c_x0, .slice o_x1 x1.length c_x1, .func (.func 106) #[] #[pB b1 0, pB b2 0]]) (Φ := fun v w => ∃ z1 : Zone, ∃ y1 : List Trail, ∃ y3 : Option Pl, ∃ y4 : Int, ∃ y5 : Int, ∃ e1 : Option Addr, ∃ q1 : Nat, ∃ p3 : Option Addr, Zone.le h z1 ∧ v = .tuple #[.pointer p3, vI y4, vI y5] ∧ St z1 (ownS TrailT 89 e1 q1 y1 :: plO 126 40 117 p3 y3 :: box b2 [.slice e1 y1.length q1] 85 :: box b1 [vI x2] 3 :: L) w ∧ (F49_j1 fuel x0 x2 y1 y3 y4 y5) = some r) hf4 ?_ ?_
 ·refine calls_intro (N := 50) Try.func96 (by kernel_rfl) fun a5 hf5 => ?_
  refine c_sq [] [0, 1, 2] hf5 .nil fun a6 hf6 => ?_
  refine c_seq ?_
  refine c_sr ?_
  refine c_n 2 [] [0, 1, 2, 15, 16] hf6 .nil fun a7 hf7 => ?_
  obtain ⟨r3, hd1, hr1⟩ := bind_some hr
  refine c_call hf7 (f110_ok fuel x0 x1 r3 hd1 h _ _ hS2 o_x0 c_x0 hx_x0 o_x1 c_x1 hx_x1) ?_
  rintro v1 ww3 a8 ⟨z2, k3, rfl, hS3⟩ hf8
  refine ⟨fun _ => trivial, ?_⟩
  refine c_t [] [0, 1, 2, 9] hf8 .nil fun a9 hf9 => ?_
  refine c_sq [] [0, 1, 2, 9, 19] hf9 .nil fun a10 hf10 => ?_
  refine c_if (r3 != (0 : Int)) hf10 (fun hb1 => ?_) (fun hb1 => ?_)
  ·have hr2 := cond_t hb1 hr1
   refine c_sq [] [6, 7, 8] hf10 .nil fun a11 hf11 => ?_
   refine c_ret ?_
   refine r_then ?_
   refine c_rt [] (.tuple #[.pointer none, vI 0, vI r3]) hf11 .nil ?_
   have hS4 := hS3.plNone 126 40 117
   have hS5 := St.ownNil hS4 TrailT 89
   exact ⟨_, rfl, z2, [], none, 0, r3, none, 0, none, k3, rfl, (St.pick 2 [0, 1] hS5 (by kernel_rfl)), hr2⟩
  ·have hr3 := cond_f hb1 hr1
   refine c_skip ?_
   refine n_then ?_
   refine c_sr ?_
   refine c_n 2 [] [1, 2, 22] hf10 .nil fun a12 hf12 => ?_
   obtain ⟨r4, hd2, hr4⟩ := bind_some hr3
   refine c_call hf12 (f81_ok fuel x0 ([[], [], [], [], [], [], [], [], []]) r4 hd2 z2 _ _ hS3 o_x0 c_x0 (SliceR.mono k3 hx_x0) (.slice none 0 0) (.slice none 0 0) (.slice none 0 0) (.slice none 0 0) (.slice none 0 0) (.slice none 0 0) (.slice none 0 0) (.slice none 0 0) (.slice none 0 0) ⟨rfl, (Rows.cons (c := [_]) (sliceRep (SliceR.nil' _ _)) (Rows.cons (c := [_]) (sliceRep (SliceR.nil' _ _)) (Rows.cons (c := [_]) (sliceRep (SliceR.nil' _ _)) (Rows.cons (c := [_]) (sliceRep (SliceR.nil' _ _)) (Rows.cons (c := [_]) (sliceRep (SliceR.nil' _ _)) (Rows.cons (c := [_]) (sliceRep (SliceR.nil' _ _)) (Rows.cons (c := [_]) (sliceRep (SliceR.nil' _ _)) (Rows.cons (c := [_]) (sliceRep (SliceR.nil' _ _)) (Rows.cons (c := [_]) (sliceRep (SliceR.nil' _ _)) rfl)))))))))⟩) ?_
   rintro v2 ww4 a13 ⟨z3, b3, k4, rfl, hS6⟩ hf13
   refine ⟨fun _ => trivial, ?_⟩
   refine c_t [] [1, 2, 10] hf13 .nil fun a14 hf14 => ?_
   refine c_seq ?_
   refine c_sq [] [1, 2, 10, 24, 25, 26] hf14 .nil fun a15 hf15 => ?_
   refine c_block 0 ?_
   have hS7 := hS6.ownNil TrailT 89
   refine c_loop (fun n a w => ∃ z4 : Zone, ∃ y10 : List Trail, ∃ y11 : Pl, ∃ y8 : Int, ∃ e2 : Option Addr, ∃ q2 : Nat, Zone.le z3 z4 ∧ Fr a 50 [(1, .slice o_x1 x1.length c_x1), (2, .func (.func 106) #[] #[pB b1 0, pB b2 0]), (10, pB b3 0), (24, .slice o_x1 x1.length c_x1), (25, vI (x1.length : Int)), (26, vI y8)] ∧ St z4 (ownS TrailT 89 e2 q2 y10 :: plA 126 40 117 b3 y11 :: box b2 [.slice e2 y10.length q2] 85 :: box b1 [vI x2] 3 :: L) w ∧ (F49_l1 fuel x0 x1 x2 n y10 y11 y8) = some r) fuel ⟨z3, [], r4, 0, none, 0, zr, hf15.to, hS7, hr4⟩ ?_
   rintro n3 a16 ww5 ⟨z4, y10, y11, y8, e2, q2, k5, hf17, hS8, hr5⟩
   cases n3 with
   | zero => cases hr5
   | succ n2 =>
   refine c_sq [] [1, 2, 10, 24, 25, 26, 27] hf17 .nil fun a17 hf18 => ?_
   refine c_seq ?_
   refine c_if (decide (y8 < (x1.length : Int))) hf18 (fun hb2 => ?_) (fun hb2 => ?_)
   ·have hr6 := cond_t hb2 hr5
    refine c_skip ?_
    refine n_then ?_
    refine c_seq ?_
    refine c_block 1 ?_
    refine c_sr ?_
    obtain ⟨p2, hp62357, hr7⟩ := bind_some hr6
    obtain ⟨ad1, ho1, hb3, cc1, hc1, hk1⟩ := SliceR.getI (SliceR.mono (zt (zt k3 k4) k5) hx_x1) hp62357
    subst hc1
    refine c_n 3 [.pointer (some ad1), vI p2.kind, vI p2.lot, vI p2.frm, vI p2.to, vI p2.mass] [1, 2, 10, 24, 25, 26, 28, 30] hf18 (.prop ho1 (.prop hb3 (.cell (hS8.cell (hk1 0 _ rfl)) (.cell (hS8.cell (hk1 1 _ rfl)) (.cell (hS8.cell (hk1 2 _ rfl)) (.cell (hS8.cell (hk1 3 _ rfl)) (.cell (hS8.cell (hk1 4 _ rfl)) .nil))))))) fun a18 hf19 => ?_
    refine c_box [vI 0, vI 0, vI 0, vI 0, vI 0] 28 hS8 hf19 fun b4 ww6 a19 hS9 hf20 => ⟨fun _ => trivial, ?_⟩
    refine c_n 1 [] [1, 2, 10, 11, 12, 24, 25, 26, 30] hf20 .nil fun a20 hf21 => ?_
    refine c_st 0 [vI p2.kind, vI p2.lot, vI p2.frm, vI p2.to, vI p2.mass] hS9 hf21 rfl fun ww7 a21 hS10 hf22 => ⟨fun _ => trivial, ?_⟩
    refine c_dt ?_
    refine c_sr ?_
    refine c_n 2 [vI p2.kind, vI p2.lot, vI p2.frm, vI p2.to, vI p2.mass] [1, 2, 10, 11, 24, 25, 26, 32, 33] hf22 (.cell (hS10.box (i := 0) rfl (j := 0) rfl) (.cell (hS10.box (i := 0) rfl (j := 1) rfl) (.cell (hS10.box (i := 0) rfl (j := 2) rfl) (.cell (hS10.box (i := 0) rfl (j := 3) rfl) (.cell (hS10.box (i := 0) rfl (j := 4) rfl) .nil))))) fun a22 hf23 => ?_
    have hS11 := St.swapTo (i := 3) (j := 0) (St.addEmp hS10) rfl rfl (by decide)
    have hS12 := hS11
    obtain ⟨r2, hd3, hr8⟩ := bind_some hr7
    refine c_call hf23 (f82_ok fuel y11 p2.kind p2.lot p2.frm p2.to p2.mass r2 hd3 z4 _ _ b3 hS12 ) ?_
    rintro v3 ww8 a23 ⟨z5, e3, q3, e4, k6, rfl, hS13, hx1, hx2⟩ hf24
    have hS14 := St.swapTo (i := 0) (j := 3) hS13 rfl rfl (by decide)
    have hS15 := hS14
    refine ⟨fun _ => trivial, ?_⟩
    refine c_n 3 [] [1, 2, 10, 11, 24, 25, 26, 35, 36] hf24 .nil fun a24 hf25 => ?_
    refine c_box [.slice none 0 0, .map none] 119 hS15 hf25 fun b5 ww9 a25 hS16 hf26 => ⟨fun _ => trivial, ?_⟩
    refine c_st 0 [.slice e3 r2.1.length q3, .map e4] hS16 hf26 rfl fun ww10 a26 hS17 hf27 => ⟨fun _ => trivial, ?_⟩
    refine c_t [] [1, 2, 10, 11, 13, 14, 24, 25, 26] hf27 .nil fun a27 hf28 => ?_
    refine c_seq ?_
    refine c_sq [] [1, 2, 10, 11, 13, 14, 24, 25, 26, 38] hf28 .nil fun a28 hf29 => ?_
    refine c_if (r2.2.2.1 != (0 : Int)) hf29 (fun hb4 => ?_) (fun hb4 => ?_)
    ·have hr9 := cond_t hb4 hr8
     refine c_sq [] [6, 7, 8] hf29 .nil fun a29 hf30 => ?_
     refine c_ret ?_
     refine r_then ?_
     refine r_block ?_
     refine r_then ?_
     refine r_then ?_
     refine r_block ?_
     refine r_then ?_
     refine c_rt [] (.tuple #[.pointer none, vI y8, vI r2.2.2.1]) hf30 .nil ?_
     have hS18 := hS17.plNone 126 40 117
     exact ⟨_, rfl, z5, y10, none, y8, r2.2.2.1, e2, q2, none, (zt (zt (zt k3 k4) k5) k6), rfl, (St.pick 6 [4, 0] hS18 (by kernel_rfl)), hr9⟩
    ·have hr10 := cond_f hb4 hr8
     refine c_skip ?_
     refine n_then ?_
     refine c_reg ?_
     refine c_n 4 [.slice e3 r2.1.length q3, .map e4] [1, 2, 10, 24, 25, 26, 41, 42, 43, 44] hf29 (.cell (hS17.box (i := 0) rfl (j := 0) rfl) (.cell (hS17.box (i := 0) rfl (j := 1) rfl) .nil)) fun a30 hf31 => ?_
     refine p_inl (i := 4) (d := some 45) (f := 106) (args := #[vI y8, .agg #[.slice e3 r2.1.length q3, .map e4], pB b3 0, pB b1 0, pB b2 0]) (N' := 30) hf31 (by kernel_rfl) Try.func106 (by kernel_rfl) fun a31 hf32 => ?_
     refine c_sr ?_
     refine c_box [.slice e3 r2.1.length q3, .map e4] 119 hS17 hf32 fun b6 ww11 a32 hS19 hf33 => ⟨fun _ => trivial, ?_⟩
     refine c_dt ?_
     refine c_sq [.slice e3 r2.1.length q3] [0, 3, 4, 12, 13, 14] hf33 (.cell (hS19.box (i := 0) rfl (j := 0) rfl) .nil) fun a33 hf34 => ?_
     refine c_block 0 ?_
     refine c_loop (fun n a w => ∃ z6 : Zone, ∃ y9 : List Trail, ∃ y6 : Int, ∃ e5 : Option Addr, ∃ q4 : Nat, Zone.le z5 z6 ∧ Fr a 30 [(0, vI y8), (3, pB b1 0), (4, pB b2 0), (12, .slice e3 r2.1.length q3), (13, vI (r2.1.length : Int)), (14, vI y6)] ∧ St z6 (box b6 [.slice e3 r2.1.length q3, .map e4] 119 :: box b5 [.slice e3 r2.1.length q3, .map e4] 119 :: emp :: box b4 [vI p2.kind, vI p2.lot, vI p2.frm, vI p2.to, vI p2.mass] 28 :: ownS TrailT 89 e5 q4 y9 :: plA 126 40 117 b3 r2.2.2.2 :: box b2 [.slice e5 y9.length q4] 85 :: box b1 [vI x2] 3 :: L) w ∧ (F49_l2 (F49_l1 fuel x0 x1 x2 n2) x2 y8 r2 n y9 y6) = some r) fuel ⟨z5, y10, 0, e2, q2, zr, hf34.to, hS19, hr10⟩ ?_
     rintro n4 a34 ww12 ⟨z6, y9, y6, e5, q4, k7, hf36, hS20, hr11⟩
     cases n4 with
     | zero => cases hr11
     | succ n1 =>
     refine c_sq [] [0, 3, 4, 12, 13, 14, 15] hf36 .nil fun a35 hf37 => ?_
     refine c_seq ?_
     refine c_if (decide (y6 < (r2.1.length : Int))) hf37 (fun hb5 => ?_) (fun hb5 => ?_)
     ·have hr12 := cond_t hb5 hr11
      refine c_skip ?_
      refine n_then ?_
      refine c_mid (fun a w => ∃ z7 : Zone, ∃ y7 : List Trail, ∃ e6 : Option Addr, ∃ q5 : Nat, Zone.le z6 z7 ∧ Fr a 30 [(0, vI y8), (3, pB b1 0), (4, pB b2 0), (12, .slice e3 r2.1.length q3), (13, vI (r2.1.length : Int)), (14, vI y6)] ∧ St z7 (box b6 [.slice e3 r2.1.length q3, .map e4] 119 :: box b5 [.slice e3 r2.1.length q3, .map e4] 119 :: emp :: box b4 [vI p2.kind, vI p2.lot, vI p2.frm, vI p2.to, vI p2.mass] 28 :: ownS TrailT 89 e6 q5 y7 :: plA 126 40 117 b3 r2.2.2.2 :: box b2 [.slice e6 y7.length q5] 85 :: box b1 [vI x2] 3 :: L) w ∧ (F49_j2 (F49_l2 (F49_l1 fuel x0 x1 x2 n2) x2 y8 r2 n1) y6 y7) = some r) ?_ ?_
      ·skip
       refine c_block 1 ?_
       refine c_sr ?_
       obtain ⟨p1, hp63849, hr13⟩ := bind_some hr12
       obtain ⟨ad2, ho2, hb6, cc2, hc2, hk2⟩ := SliceR.getI (SliceR.mono k7 hx1) hp63849
       subst hc2
       refine c_n 2 [.pointer (some ad2), vI p1.lot, vI p1.mass] [0, 3, 4, 12, 13, 14, 17] hf37 (.prop ho2 (.prop hb6 (.cell (hS20.cell (hk2 0 _ rfl)) (.cell (hS20.cell (hk2 1 _ rfl)) .nil)))) fun a36 hf38 => ?_
       refine c_box [vI 0, vI 0] 56 hS20 hf38 fun b7 ww13 a37 hS21 hf39 => ⟨fun _ => trivial, ?_⟩
       refine c_st 0 [vI p1.lot, vI p1.mass] hS21 hf39 rfl fun ww14 a38 hS22 hf40 => ⟨fun _ => trivial, ?_⟩
       refine c_dt ?_
       refine c_sq [vI p1.lot, vI x2] [0, 3, 4, 9, 12, 13, 14, 21] hf40 (.cell (hS22.box (i := 0) rfl (j := 0) rfl) (.cell (hS22.box (i := 8) rfl (j := 0) rfl) .nil)) fun a39 hf41 => ?_
       refine c_if (p1.lot == x2) hf41 (fun hb7 => ?_) (fun hb7 => ?_)
       ·have hr14 := cond_t hb7 hr13
        refine c_reg ?_
        refine c_n 5 [.slice e5 y9.length q4, vI p1.mass] [0, 3, 4, 12, 13, 14, 22, 26] hf41 (.cell (hS22.box (i := 7) rfl (j := 0) rfl) (.cell (hS22.box (i := 0) rfl (j := 1) rfl) .nil)) fun a40 hf42 => ?_
        refine p_box (i := 5) (d := (some 27)) (cs := [vI y8, vI p1.mass]) (T := 89) (v := fun b8 => .slice (some ⟨b8, 0, none⟩) 1 1) hS22 hf42 (fun b => by kernel_rfl) fun b8 ww15 a41 hS23 hf43 => ⟨fun _ => trivial, ?_⟩
        have hS24 := hS23.ownBox (T := TrailT) (E := 89) (n := 1) (xs := [⟨y8, p1.mass⟩]) (i := 0) rfl (Rows.cons (c := [vI y8, vI p1.mass]) rfl rfl) rfl (by decide)
        obtain ⟨d1, hd4, hr15⟩ := bind_some hr14
        refine p_append (T := TrailT) (i := 6) (j := 6) (d := some 28) (o2 := (some ⟨b8, 0, none⟩)) (c2 := 1) (ys := ([⟨y8, p1.mass⟩])) el85 hS24 hf43 rfl (by kernel_rfl) (hS24.ownSrc (j := 0) rfl) hd4 fun e7 q6 ww16 a42 hS25 hf44 => ⟨fun _ => trivial, ?_⟩
        refine c_st 8 [.slice e7 d1.length q6] hS25 hf44 rfl fun ww17 a43 hS26 hf45 => ⟨fun _ => trivial, ?_⟩
        refine c_done ?_
        refine n_block ?_
        refine n_then ?_
        exact ⟨z6, d1, e7, q6, zr, hf45.to, (St.drop 2 hS26), hr15⟩
       ·have hr16 := cond_f hb7 hr13
        refine c_skip ?_
        refine n_block ?_
        refine n_then ?_
        exact ⟨z6, y9, e5, q4, zr, hf41.to, (St.drop 1 hS22), hr16⟩
      ·rintro a44 ww18 ⟨z7, y7, e6, q5, k8, hf48, hS27, hr17⟩
       refine c_q [] [0, 3, 4, 12, 13, 14] hf48 .nil fun a45 hf49 => ?_
       refine n_then ?_
       exact ⟨n1, Nat.lt_succ_self n1, z7, y7, (w64 (y6 + (1 : Int))), e6, q5, (zt k7 k8), hf49.to, hS27, hr17⟩
     ·have hr18 := cond_f hb5 hr11
      refine c_exit 0 ?_
      refine x_then ?_
      refine x_then ?_
      refine x_block ?_
      refine c_fall [] (.tuple #[]) hf37 .nil ?_
      refine ⟨_, rfl, fun a46 hf51 => ?_⟩
      have hS28 := St.drop 1 hS20
      refine ⟨fun _ => trivial, ?_⟩
      refine c_done ?_
      refine n_block ?_
      refine n_then ?_
      refine c_q [] [1, 2, 10, 24, 25, 26] hf51 .nil fun a47 hf52 => ?_
      refine n_then ?_
      exact ⟨n2, Nat.lt_succ_self n2, z6, y9, r2.2.2.2, (w64 (y8 + (1 : Int))), e5, q4, (zt (zt k5 k6) k7), hf52.to, (St.drop 3 hS28), hr18⟩
   ·have hr19 := cond_f hb2 hr5
    refine c_exit 0 ?_
    refine x_then ?_
    refine x_then ?_
    refine x_block ?_
    refine n_then ?_
    refine c_sq [] [6, 7, 8] hf18 .nil fun a48 hf54 => ?_
    refine c_ret ?_
    refine c_rt [] (.tuple #[pB b3 0, vI (x1.length : Int), vI 0]) hf54 .nil ?_
    have hS29 := hS8.plSome (i := 1) rfl
    exact ⟨_, rfl, z4, y10, (some y11), (x1.length : Int), 0, e2, q2, (some ⟨b3, 0, none⟩), (zt (zt k3 k4) k5), rfl, (St.pick 2 [0, 1] hS29 (by kernel_rfl)), hr19⟩
 ·rintro v4 ww19 a49 ⟨z1, y1, y3, y4, y5, e1, q1, p3, k9, rfl, hS30, hr20⟩ hf55
  refine ⟨fun _ => trivial, ?_⟩
  refine c_t [] [0, 5, 8, 11] hf55 .nil fun a50 hf56 => ?_
  refine c_mid (fun a w => ∃ z8 : Zone, ∃ y2 : Int, Zone.le z1 z8 ∧ Fr a 30 [(8, pB b2 0), (11, vI y2)] ∧ St z8 (ownS TrailT 89 e1 q1 y1 :: plO 126 40 117 p3 y3 :: box b2 [.slice e1 y1.length q1] 85 :: box b1 [vI x2] 3 :: L) w ∧ (F49_j3 y1 y2) = some r) ?_ ?_
  ·skip
   refine c_sq [] [0, 5, 8, 11, 21] hf56 .nil fun a51 hf57 => ?_
   refine c_if (y5 == (0 : Int)) hf57 (fun hb8 => ?_) (fun hb8 => ?_)
   ·have hr21 := cond_t hb8 hr20
    refine c_reg ?_
    refine c_n 2 [vI x2] [8, 22, 23] hf57 (.cell (hS30.box (i := 3) rfl (j := 0) rfl) .nil) fun a52 hf58 => ?_
    refine p_box (i := 2) (d := (some 24)) (cs := [vI x2]) (T := 3) (v := fun b9 => .slice (some ⟨b9, 0, none⟩) 1 1) hS30 hf58 (fun b => by kernel_rfl) fun b9 ww20 a53 hS31 hf59 => ⟨fun _ => trivial, ?_⟩
    have hS32 := hS31.ownBox (T := Ty.int) (E := 3) (n := 1) (xs := [x2]) (i := 0) rfl (Rows.cons (c := [vI x2]) rfl rfl) rfl (by decide)
    obtain ⟨z9, k10, hS33, hx3⟩ := hS32.share (j := 0) rfl
    obtain ⟨r1, hd5, hr22⟩ := bind_some hr21
    refine c_call hf59 (f98_ok fuel x0 ([x2]) r1 hd5 z9 _ _ hS33 o_x0 c_x0 (SliceR.mono (zt k9 k10) hx_x0) (some ⟨b9, 0, none⟩) 1 hx3) ?_
    rintro v5 ww21 a54 ⟨z10, k11, rfl, hS34⟩ hf60
    refine ⟨fun _ => trivial, ?_⟩
    refine c_t [] [8, 11] hf60 .nil fun a55 hf61 => ?_
    exact ⟨z10, r1, (zt k10 k11), hf61.to, (St.drop 1 hS34), hr22⟩
   ·have hr23 := cond_f hb8 hr20
    refine c_skip ?_
    refine n_then ?_
    exact ⟨z1, y5, zr, hf57.to, hS30, hr23⟩
  ·rintro a56 ww22 ⟨z8, y2, k12, hf64, hS35, hr24⟩
   refine c_seq ?_
   refine c_sq [] [8, 11, 27] hf64 .nil fun a57 hf65 => ?_
   refine c_if (y2 != (0 : Int)) hf65 (fun hb9 => ?_) (fun hb9 => ?_)
   ·have hr25 := cond_t hb9 hr24
    refine c_sq [] [6, 7] hf65 .nil fun a58 hf66 => ?_
    refine c_ret ?_
    refine r_then ?_
    refine c_rt [] (.tuple #[.slice none 0 0, vI y2]) hf66 .nil ?_
    obtain rfl := some_eq hr25
    exact ⟨_, rfl, z8, none, 0, (zt k9 k12), rfl, (St.drop 4 hS35), SliceR.nil' _ _⟩
   ·have hr26 := cond_f hb9 hr24
    refine c_skip ?_
    refine n_then ?_
    refine c_sq [.slice e1 y1.length q1] [6, 7] hf65 (.cell (hS35.box (i := 2) rfl (j := 0) rfl) .nil) fun a59 hf67 => ?_
    refine c_ret ?_
    obtain ⟨z11, k13, hS36, hx4⟩ := hS35.share (j := 0) rfl
    refine c_rt [] (.tuple #[.slice e1 y1.length q1, vI 0]) hf67 .nil ?_
    obtain rfl := some_eq hr26
    exact ⟨_, rfl, z11, e1, q1, (zt (zt k9 k12) k13), rfl, (St.drop 4 hS36), hx4⟩
def F12_j2 (k1 : Int → Int → Int → Int → Option (Bool)) (y1 : Int) (y2 : Int) (y3 : Int) (y4 : Int) : Option (Bool) :=
  (k1 y2 y3 y4 (w64 (y1 + (1 : Int))))
def F12_j4 (k1 : Int → Int → Int → Int → Option (Bool)) (r1 : List Trail × Int) (y5 : Int) (y6 : Int) (y7 : Int) (y1 : Int) (p1 : Deed) (y8 : Bool) : Option (Bool) :=
  (cond y8 ((getI r1.1 y1).bind fun p2 => (F12_j2 k1 y1 (w64 (y5 + p2.mass)) y6 y7)) (cond (p1.kind == (3 : Int)) ((getI r1.1 y1).bind fun p3 => (F12_j2 k1 y1 y5 (w64 (y6 + p3.mass)) y7)) (cond (p1.kind == (5 : Int)) ((getI r1.1 y1).bind fun p4 => (F12_j2 k1 y1 y5 y6 (w64 (y7 + p4.mass)))) (F12_j2 k1 y1 y5 y6 y7))))
def F12_j3 (k1 : Int → Int → Int → Int → Option (Bool)) (r2 : List Lot × List Deed) (r1 : List Trail × Int) (y5 : Int) (y6 : Int) (y7 : Int) (y1 : Int) (y9 : Bool) : Option (Bool) :=
  (cond y9 (some (false)) ((getI r1.1 y1).bind fun p5 => ((getI r2.2 p5.deed).bind fun p1 => (cond (p1.kind == (1 : Int)) (F12_j4 k1 r1 y5 y6 y7 y1 p1 (p1.kind == (1 : Int))) (F12_j4 k1 r1 y5 y6 y7 y1 p1 (p1.kind == (2 : Int)))))))
def F12_j5 (y10 : Bool) : Option (Bool) :=
  (some (y10))
def F12_l1 (r2 : List Lot × List Deed) (r3 : Int) (r1 : List Trail × Int) (r4 : List Account × Int) : Nat → Int → Int → Int → Int → Option (Bool)
  | 0, _, _, _, _ => none
  | n1 + 1, y5, y6, y7, y1 =>
    let k1 : Int → Int → Int → Int → Option (Bool) := F12_l1 r2 r3 r1 r4 n1
    (cond (decide (y1 < (r1.1.length : Int))) ((getI r1.1 y1).bind fun p6 => (cond (decide (p6.deed < (0 : Int))) (F12_j3 k1 r2 r1 y5 y6 y7 y1 true) ((getI r1.1 y1).bind fun p7 => (cond (decide (p7.deed ≥ (r2.2.length : Int))) (F12_j3 k1 r2 r1 y5 y6 y7 y1 true) ((getI r1.1 y1).bind fun p8 => (cond (decide (p8.mass < (1 : Int))) (F12_j3 k1 r2 r1 y5 y6 y7 y1 true) (cond (decide (y1 > (0 : Int))) ((getI r1.1 (w64 (y1 - (1 : Int)))).bind fun p9 => ((getI r1.1 y1).bind fun p10 => (F12_j3 k1 r2 r1 y5 y6 y7 y1 (decide (p9.deed ≥ p10.deed))))) (F12_j3 k1 r2 r1 y5 y6 y7 y1 false)))))))) ((getI r4.1 r3).bind fun p11 => (cond (y5 == p11.poured) ((getI r4.1 r3).bind fun p12 => (cond (y6 == p12.drawn) ((getI r4.1 r3).bind fun p13 => (F12_j5 (y7 == p13.lost))) (F12_j5 false))) (F12_j5 false))))
def F12_j1 (fuel : Nat) (r2 : List Lot × List Deed) (r3 : Int) (r1 : List Trail × Int) (r4 : List Account × Int) (y11 : Bool) : Option (Bool) :=
  (cond y11 (some (false)) (F12_l1 r2 r3 r1 r4 fuel 0 0 0 0))
def F12 (fuel : Nat) (x0l : List A4) (x0d : List A5) (x0c0 : Int) (x0c1 : Int) (x0c2 : Int) (x1 : Int) : Option (Bool) :=
  ((F16 fuel ).bind fun r5 => ((F37 fuel x0l x0d).bind fun r2 => (cond ((r2.1.length : Int) == (0 : Int)) (some (r5)) ((F35 fuel x1 (r2.1.length : Int)).bind fun r3 => ((getI r2.1 r3).bind fun p14 => ((F49 fuel r2.1 r2.2 p14.id).bind fun r1 => ((F45 fuel r2.1 r2.2).bind fun r4 => (cond (!r5) (F12_j1 fuel r2 r3 r1 r4 true) (cond (r1.2 != (0 : Int)) (F12_j1 fuel r2 r3 r1 r4 true) (cond (r4.2 != (0 : Int)) (F12_j1 fuel r2 r3 r1 r4 true) (F12_j1 fuel r2 r3 r1 r4 ((r4.1.length : Int) != (r2.1.length : Int)))))))))))))
set_option maxRecDepth 100000 in
theorem f12_ok (fuel : Nat) (x0l : List A4) (x0d : List A5) (x0c0 : Int) (x0c1 : Int) (x0c2 : Int) (x1 : Int) (r : Bool) (hr : F12 fuel x0l x0d x0c0 x0c1 x0c2 x1 = some r) (h : Zone) (L : List Atom) (w : World) (hS : St h L w) (o_x0l : Option Addr) (c_x0l : Nat) (hx_x0l : SliceR A4T h o_x0l c_x0l x0l) (o_x0d : Option Addr) (c_x0d : Nat) (hx_x0d : SliceR A5T h o_x0d c_x0d x0d) :
    Calls Try.prog 12 #[.agg #[.slice o_x0l x0l.length c_x0l, .slice o_x0d x0d.length c_x0d, vI x0c0, vI x0c1, vI x0c2], vI x1] w fun e w' => ∃ v, e = .returned v ∧ (∃ h', Zone.le h h' ∧ v = .bool r ∧ St h' L w') := by
 refine calls_intro (N := 178) Try.func12 (by kernel_rfl) fun a hf => ?_
 refine c_sr ?_
 refine c_box [.slice o_x0l x0l.length c_x0l, .slice o_x0d x0d.length c_x0d, vI x0c0, vI x0c1, vI x0c2] 63 hS hf fun b1 ww1 a1 hS1 hf1 => ⟨fun _ => trivial, ?_⟩
 refine c_t [] [1, 2] hf1 .nil fun a2 hf2 => ?_
 refine c_sr ?_
 obtain ⟨r5, hd1, hr1⟩ := bind_some hr
 refine c_call hf2 (f16_ok fuel  r5 hd1 h _ _ hS1 ) ?_
 rintro v1 ww2 a3 ⟨z1, k2, rfl, hS2⟩ hf3
 refine ⟨fun _ => trivial, ?_⟩
 refine c_t [] [1, 2, 5] hf3 .nil fun a4 hf4 => ?_
 refine c_sr ?_
 refine c_n 4 [.slice o_x0l x0l.length c_x0l, .slice o_x0d x0d.length c_x0d] [1, 5, 20, 22] hf4 (.cell (hS2.box (i := 0) rfl (j := 0) rfl) (.cell (hS2.box (i := 0) rfl (j := 1) rfl) .nil)) fun a5 hf5 => ?_
 obtain ⟨r2, hd2, hr2⟩ := bind_some hr1
 refine c_call hf5 (f37_ok fuel x0l x0d r2 hd2 z1 _ _ hS2 o_x0l c_x0l (SliceR.mono k2 hx_x0l) o_x0d c_x0d (SliceR.mono k2 hx_x0d)) ?_
 rintro v2 ww3 a6 ⟨z2, e1, q1, e2, q2, k3, rfl, hS3, hx1, hx2⟩ hf6
 refine ⟨fun _ => trivial, ?_⟩
 refine c_t [] [1, 5, 6, 7] hf6 .nil fun a7 hf7 => ?_
 refine c_seq ?_
 refine c_sq [] [1, 5, 6, 7, 28] hf7 .nil fun a8 hf8 => ?_
 refine c_if ((r2.1.length : Int) == (0 : Int)) hf8 (fun hb1 => ?_) (fun hb1 => ?_)
 ·have hr3 := cond_t hb1 hr2
  refine c_sq [] [4] hf8 .nil fun a9 hf9 => ?_
  refine c_ret ?_
  refine r_then ?_
  refine c_rt [] (.bool r5) hf9 .nil ?_
  obtain rfl := some_eq hr3
  exact ⟨_, rfl, z2, (zt k2 k3), rfl, (St.drop 1 hS3)⟩
 ·have hr4 := cond_f hb1 hr2
  refine c_skip ?_
  refine n_then ?_
  refine c_sr ?_
  refine c_n 3 [] [5, 6, 7, 30, 32] hf8 .nil fun a10 hf10 => ?_
  obtain ⟨r3, hd3, hr5⟩ := bind_some hr4
  refine c_call hf10 (f35_ok fuel x1 (r2.1.length : Int) r3 hd3 z2 _ _ hS3 ) ?_
  rintro v3 ww4 a11 ⟨rfl, hS4⟩ hf11
  refine ⟨fun _ => trivial, ?_⟩
  refine c_t [] [5, 6, 7, 8] hf11 .nil fun a12 hf12 => ?_
  refine c_sr ?_
  obtain ⟨p14, hp83, hr6⟩ := bind_some hr5
  obtain ⟨ad1, ho1, hb2, cc1, hc1, hk1⟩ := SliceR.getI hx1 hp83
  subst hc1
  refine c_n 7 [.pointer (some ad1), vI p14.id] [5, 6, 7, 8, 35, 36, 41] hf12 (.prop ho1 (.prop hb2 (.cell (hS4.cell (hk1 0 _ rfl)) .nil))) fun a13 hf13 => ?_
  obtain ⟨r1, hd4, hr7⟩ := bind_some hr6
  refine c_call hf13 (f49_ok fuel r2.1 r2.2 p14.id r1 hd4 z2 _ _ hS4 e1 q1 hx1 e2 q2 hx2) ?_
  rintro v4 ww5 a14 ⟨z3, e3, q3, k4, rfl, hS5, hx3⟩ hf14
  refine ⟨fun _ => trivial, ?_⟩
  refine c_t [] [5, 6, 7, 8, 9, 10] hf14 .nil fun a15 hf15 => ?_
  refine c_sr ?_
  refine c_n 2 [] [5, 6, 7, 8, 9, 10, 46, 47] hf15 .nil fun a16 hf16 => ?_
  obtain ⟨r4, hd5, hr8⟩ := bind_some hr7
  refine c_call hf16 (f45_ok fuel r2.1 r2.2 r4 hd5 z3 _ _ hS5 e1 q1 (SliceR.mono k4 hx1) e2 q2 (SliceR.mono k4 hx2)) ?_
  rintro v5 ww6 a17 ⟨z4, e4, q4, k5, rfl, hS6, hx4⟩ hf17
  refine ⟨fun _ => trivial, ?_⟩
  refine c_t [] [5, 6, 7, 8, 9, 10, 11, 12] hf17 .nil fun a18 hf18 => ?_
  refine c_seq ?_
  refine c_mid (fun a w => ∃ z5 : Zone, ∃ y11 : Bool, Zone.le z4 z5 ∧ Fr a 178 [(7, .slice e2 r2.2.length q2), (8, vI r3), (9, .slice e3 r1.1.length q3), (11, .slice e4 r4.1.length q4), (67, .bool y11)] ∧ St z5 (box b1 [.slice o_x0l x0l.length c_x0l, .slice o_x0d x0d.length c_x0d, vI x0c0, vI x0c1, vI x0c2] 63 :: L) w ∧ (F12_j1 fuel r2 r3 r1 r4 y11) = some r) ?_ ?_
  ·skip
   refine c_reg ?_
   refine c_n 3 [] [6, 7, 8, 9, 10, 11, 12, 53] hf18 .nil fun a19 hf19 => ?_
   rcases bft (!r5) with hb3 | hb3
   ·have hr9 := cond_t hb3 hr8
    have hf20 := hf19.lit 53 hb3
    refine c_t [] [7, 8, 9, 11, 67] hf20 .nil fun a20 hf21 => ?_
    exact ⟨z4, true, zr, hf21.to, hS6, hr9⟩
   ·have hr10 := cond_f hb3 hr8
    have hf23 := hf19.lit 53 hb3
    refine c_n 4 [] [6, 7, 8, 9, 11, 12, 57] hf23 .nil fun a21 hf24 => ?_
    rcases bft (r1.2 != (0 : Int)) with hb4 | hb4
    ·have hr11 := cond_t hb4 hr10
     have hf25 := hf24.lit 57 hb4
     refine c_t [] [7, 8, 9, 11, 67] hf25 .nil fun a22 hf26 => ?_
     exact ⟨z4, true, zr, hf26.to, hS6, hr11⟩
    ·have hr12 := cond_f hb4 hr10
     have hf28 := hf24.lit 57 hb4
     refine c_n 4 [] [6, 7, 8, 9, 11, 61] hf28 .nil fun a23 hf29 => ?_
     rcases bft (r4.2 != (0 : Int)) with hb5 | hb5
     ·have hr13 := cond_t hb5 hr12
      have hf30 := hf29.lit 61 hb5
      refine c_t [] [7, 8, 9, 11, 67] hf30 .nil fun a24 hf31 => ?_
      exact ⟨z4, true, zr, hf31.to, hS6, hr13⟩
     ·have hr14 := cond_f hb5 hr12
      have hf33 := hf29.lit 61 hb5
      refine c_t [] [7, 8, 9, 11, 67] hf33 .nil fun a25 hf34 => ?_
      exact ⟨z4, ((r4.1.length : Int) != (r2.1.length : Int)), zr, hf34.to, hS6, hr14⟩
  ·rintro a26 ww7 ⟨z5, y11, k6, hf36, hS7, hr15⟩
   refine c_if y11 hf36 (fun hb6 => ?_) (fun hb6 => ?_)
   ·have hr16 := cond_t hb6 hr15
    refine c_sq [] [4] hf36 .nil fun a27 hf37 => ?_
    refine c_ret ?_
    refine r_then ?_
    refine c_rt [] (.bool false) hf37 .nil ?_
    obtain rfl := some_eq hr16
    exact ⟨_, rfl, z5, (zt (zt (zt (zt k2 k3) k4) k5) k6), rfl, (St.drop 1 hS7)⟩
   ·have hr17 := cond_f hb6 hr15
    refine c_skip ?_
    refine n_then ?_
    refine c_sq [] [7, 8, 9, 11, 13] hf36 .nil fun a28 hf38 => ?_
    refine c_sq [] [7, 8, 9, 11, 13, 14] hf38 .nil fun a29 hf39 => ?_
    refine c_sq [] [7, 8, 9, 11, 13, 14, 15] hf39 .nil fun a30 hf40 => ?_
    refine c_seq ?_
    refine c_sq [] [7, 8, 9, 11, 13, 14, 15, 16] hf40 .nil fun a31 hf41 => ?_
    refine c_block 0 ?_
    refine c_loop (fun n a w => ∃ z6 : Zone, ∃ y5 : Int, ∃ y6 : Int, ∃ y7 : Int, ∃ y1 : Int, Zone.le z5 z6 ∧ Fr a 178 [(7, .slice e2 r2.2.length q2), (8, vI r3), (9, .slice e3 r1.1.length q3), (11, .slice e4 r4.1.length q4), (13, vI y5), (14, vI y6), (15, vI y7), (16, vI y1)] ∧ St z6 (box b1 [.slice o_x0l x0l.length c_x0l, .slice o_x0d x0d.length c_x0d, vI x0c0, vI x0c1, vI x0c2] 63 :: L) w ∧ (F12_l1 r2 r3 r1 r4 n y5 y6 y7 y1) = some r) fuel ⟨z5, 0, 0, 0, 0, zr, hf41.to, hS7, hr17⟩ ?_
    rintro n2 a32 ww8 ⟨z6, y5, y6, y7, y1, k7, hf43, hS8, hr18⟩
    cases n2 with
    | zero => cases hr18
    | succ n1 =>
    refine c_seq ?_
    refine c_sq [] [7, 8, 9, 11, 13, 14, 15, 16, 71] hf43 .nil fun a33 hf44 => ?_
    refine c_if (decide (y1 < (r1.1.length : Int))) hf44 (fun hb7 => ?_) (fun hb7 => ?_)
    ·have hr19 := cond_t hb7 hr18
     refine c_skip ?_
     refine n_then ?_
     refine c_mid (fun a w => ∃ z7 : Zone, ∃ y2 : Int, ∃ y3 : Int, ∃ y4 : Int, Zone.le z6 z7 ∧ Fr a 178 [(7, .slice e2 r2.2.length q2), (8, vI r3), (9, .slice e3 r1.1.length q3), (11, .slice e4 r4.1.length q4), (13, vI y2), (14, vI y3), (15, vI y4), (16, vI y1)] ∧ St z7 (box b1 [.slice o_x0l x0l.length c_x0l, .slice o_x0d x0d.length c_x0d, vI x0c0, vI x0c1, vI x0c2] 63 :: L) w ∧ (F12_j2 (F12_l1 r2 r3 r1 r4 n1) y1 y2 y3 y4) = some r) ?_ ?_
     ·skip
      refine c_block 1 ?_
      refine c_seq ?_
      refine c_mid (fun a w => ∃ z8 : Zone, ∃ y9 : Bool, Zone.le z6 z8 ∧ Fr a 178 [(7, .slice e2 r2.2.length q2), (8, vI r3), (9, .slice e3 r1.1.length q3), (11, .slice e4 r4.1.length q4), (13, vI y5), (14, vI y6), (15, vI y7), (16, vI y1), (115, .bool y9)] ∧ St z8 (box b1 [.slice o_x0l x0l.length c_x0l, .slice o_x0d x0d.length c_x0d, vI x0c0, vI x0c1, vI x0c2] 63 :: L) w ∧ (F12_j3 (F12_l1 r2 r3 r1 r4 n1) r2 r1 y5 y6 y7 y1 y9) = some r) ?_ ?_
      ·skip
       have hS9 := hS8.drew
       refine c_regD [(0, true), (1, true), (2, true), (3, true), (4, true), (5, true), (6, true), (7, true), (8, true), (9, true), (10, true), (11, true), (12, true), (13, true), (14, true), (15, true), (16, true), (17, true), (18, true), (19, true), (20, true), (21, true), (22, true), (23, true), (24, true), (25, true), (26, true), (27, true), (28, true), (29, true), (30, true), (31, true), (32, true), (33, true), (34, true), (35, true), (36, true), (37, true), (38, true), (39, true), (40, true), (41, true)] [] (fun x => x = ww8.drew) rfl ?_
       obtain ⟨p6, hp13777, hr20⟩ := bind_some hr19
       obtain ⟨ad2, ho2, hb8, cc2, hc2, hk2⟩ := SliceR.getI (SliceR.mono (zt (zt k5 k6) k7) hx3) hp13777
       subst hc2
       refine c_E 7 [.pointer (some ad2), vI p6.deed] [7, 8, 9, 11, 13, 14, 15, 16, 80] hf44 (.prop ho2 (.prop hb8 (.cell (hS9.cell (hk2 0 _ rfl)) .nil))) .nil fun a34 hf45 => ?_
       rcases bft (decide (p6.deed < (0 : Int))) with hb9 | hb9
       ·have hr21 := cond_t hb9 hr20
        have hf46 := hf45.lit 80 hb9
        refine c_tE [] [7, 8, 9, 11, 13, 14, 15, 16, 115] hf46 .nil .nil fun a35 hf47 => ?_
        exact ⟨z6, true, zr, hf47.to, hS9, hr21⟩
       ·have hr22 := cond_f hb9 hr20
        have hf49 := hf45.lit 80 hb9
        obtain ⟨p7, hp13796, hr23⟩ := bind_some hr22
        obtain ⟨ad3, ho3, hb10, cc3, hc3, hk3⟩ := SliceR.getI (SliceR.mono (zt (zt k5 k6) k7) hx3) hp13796
        subst hc3
        refine c_E 10 [.pointer (some ad3), vI p7.deed] [7, 8, 9, 11, 13, 14, 15, 16, 90] hf49 (.prop ho3 (.prop hb10 (.cell (hS9.cell (hk3 0 _ rfl)) .nil))) .nil fun a36 hf50 => ?_
        rcases bft (decide (p7.deed ≥ (r2.2.length : Int))) with hb11 | hb11
        ·have hr24 := cond_t hb11 hr23
         have hf51 := hf50.lit 90 hb11
         refine c_tE [] [7, 8, 9, 11, 13, 14, 15, 16, 115] hf51 .nil .nil fun a37 hf52 => ?_
         exact ⟨z6, true, zr, hf52.to, hS9, hr24⟩
        ·have hr25 := cond_f hb11 hr23
         have hf54 := hf50.lit 90 hb11
         obtain ⟨p8, hp13815, hr26⟩ := bind_some hr25
         obtain ⟨ad4, ho4, hb12, cc4, hc4, hk4⟩ := SliceR.getI (SliceR.mono (zt (zt k5 k6) k7) hx3) hp13815
         subst hc4
         refine c_E 8 [.pointer (some ad4), vI p8.mass] [7, 8, 9, 11, 13, 14, 15, 16, 98] hf54 (.prop ho4 (.prop hb12 (.cell (hS9.cell (hk4 1 _ rfl)) .nil))) .nil fun a38 hf55 => ?_
         rcases bft (decide (p8.mass < (1 : Int))) with hb13 | hb13
         ·have hr27 := cond_t hb13 hr26
          have hf56 := hf55.lit 98 hb13
          refine c_tE [] [7, 8, 9, 11, 13, 14, 15, 16, 115] hf56 .nil .nil fun a39 hf57 => ?_
          exact ⟨z6, true, zr, hf57.to, hS9, hr27⟩
         ·have hr28 := cond_f hb13 hr26
          have hf59 := hf55.lit 98 hb13
          refine c_E 3 [] [7, 8, 9, 11, 13, 14, 15, 16, 98, 101] hf59 .nil .nil fun a40 hf60 => ?_
          rcases bft (decide (y1 > (0 : Int))) with hb14 | hb14
          ·have hr29 := cond_t hb14 hr28
           have hf61 := hf60.lit 101 hb14
           obtain ⟨p9, hp13839, hr30⟩ := bind_some hr29
           obtain ⟨ad5, ho5, hb15, cc5, hc5, hk5⟩ := SliceR.getI (SliceR.mono (zt (zt k5 k6) k7) hx3) hp13839
           subst hc5
           obtain ⟨p10, hp13848, hr31⟩ := bind_some hr30
           obtain ⟨ad6, ho6, hb16, cc6, hc6, hk6⟩ := SliceR.getI (SliceR.mono (zt (zt k5 k6) k7) hx3) hp13848
           subst hc6
           refine c_tE [.pointer (some ad5), vI p9.deed, .pointer (some ad6), vI p10.deed] [7, 8, 9, 11, 13, 14, 15, 16, 115] hf61 (.prop ho5 (.prop hb15 (.cell (hS9.cell (hk5 0 _ rfl)) (.prop ho6 (.prop hb16 (.cell (hS9.cell (hk6 0 _ rfl)) .nil)))))) .nil fun a41 hf62 => ?_
           exact ⟨z6, (decide (p9.deed ≥ p10.deed)), zr, hf62.to, hS9, hr31⟩
          ·have hr32 := cond_f hb14 hr28
           have hf64 := hf60.lit 101 hb14
           refine c_tE [] [7, 8, 9, 11, 13, 14, 15, 16, 115] hf64 .nil .nil fun a42 hf65 => ?_
           exact ⟨z6, false, zr, hf65.to, hS9, hr32⟩
      ·rintro a43 ww9 ⟨z8, y9, k8, hf67, hS10, hr33⟩
       refine c_if y9 hf67 (fun hb17 => ?_) (fun hb17 => ?_)
       ·have hr34 := cond_t hb17 hr33
        refine c_sq [] [4] hf67 .nil fun a44 hf68 => ?_
        refine c_ret ?_
        refine r_then ?_
        refine r_block ?_
        refine r_then ?_
        refine r_then ?_
        refine r_block ?_
        refine r_then ?_
        refine c_rt [] (.bool false) hf68 .nil ?_
        obtain rfl := some_eq hr34
        exact ⟨_, rfl, z8, (zt (zt (zt (zt (zt (zt k2 k3) k4) k5) k6) k7) k8), rfl, (St.drop 1 hS10)⟩
       ·have hr35 := cond_f hb17 hr33
        refine c_skip ?_
        refine n_then ?_
        obtain ⟨p5, hp13870, hr36⟩ := bind_some hr35
        obtain ⟨ad7, ho7, hb18, cc7, hc7, hk7⟩ := SliceR.getI (SliceR.mono (zt (zt (zt k5 k6) k7) k8) hx3) hp13870
        subst hc7
        obtain ⟨p1, hp13879, hr37⟩ := bind_some hr36
        obtain ⟨ad8, ho8, hb19, cc8, hc8, hk8⟩ := SliceR.getI (SliceR.mono (zt (zt (zt (zt k4 k5) k6) k7) k8) hx2) hp13879
        subst hc8
        refine c_sq [.pointer (some ad7), vI p5.deed, .pointer (some ad8), vI p1.kind] [7, 8, 9, 11, 13, 14, 15, 16, 124] hf67 (.prop ho7 (.prop hb18 (.cell (hS10.cell (hk7 0 _ rfl)) (.prop ho8 (.prop hb19 (.cell (hS10.cell (hk8 0 _ rfl)) .nil)))))) fun a45 hf69 => ?_
        refine c_block 2 ?_
        refine c_mid (fun a w => ∃ z9 : Zone, ∃ y8 : Bool, Zone.le z8 z9 ∧ Fr a 178 [(7, .slice e2 r2.2.length q2), (8, vI r3), (9, .slice e3 r1.1.length q3), (11, .slice e4 r4.1.length q4), (13, vI y5), (14, vI y6), (15, vI y7), (16, vI y1), (124, vI p1.kind), (125, .bool y8)] ∧ St z9 (box b1 [.slice o_x0l x0l.length c_x0l, .slice o_x0d x0d.length c_x0d, vI x0c0, vI x0c1, vI x0c2] 63 :: L) w ∧ (F12_j4 (F12_l1 r2 r3 r1 r4 n1) r1 y5 y6 y7 y1 p1 y8) = some r) ?_ ?_
        ·skip
         refine c_sq [] [7, 8, 9, 11, 13, 14, 15, 16, 124, 125] hf69 .nil fun a46 hf70 => ?_
         refine c_if (p1.kind == (1 : Int)) hf70 (fun hb20 => ?_) (fun hb20 => ?_)
         ·have hr38 := cond_t hb20 hr37
          refine c_skip ?_
          refine n_then ?_
          exact ⟨z8, (p1.kind == (1 : Int)), zr, hf70.to, hS10, hr38⟩
         ·have hr39 := cond_f hb20 hr37
          refine c_q [] [7, 8, 9, 11, 13, 14, 15, 16, 124, 125] hf70 .nil fun a47 hf72 => ?_
          refine n_then ?_
          exact ⟨z8, (p1.kind == (2 : Int)), zr, hf72.to, hS10, hr39⟩
        ·rintro a48 ww10 ⟨z9, y8, k9, hf74, hS11, hr40⟩
         refine c_if y8 hf74 (fun hb21 => ?_) (fun hb21 => ?_)
         ·have hr41 := cond_t hb21 hr40
          obtain ⟨p2, hp13931, hr42⟩ := bind_some hr41
          obtain ⟨ad9, ho9, hb22, cc9, hc9, hk9⟩ := SliceR.getI (SliceR.mono (zt (zt (zt (zt k5 k6) k7) k8) k9) hx3) hp13931
          subst hc9
          refine c_q [.pointer (some ad9), vI p2.mass] [7, 8, 9, 11, 13, 14, 15, 16] hf74 (.prop ho9 (.prop hb22 (.cell (hS11.cell (hk9 1 _ rfl)) .nil))) fun a49 hf75 => ?_
          refine n_block ?_
          refine n_block ?_
          refine n_then ?_
          exact ⟨z9, (w64 (y5 + p2.mass)), y6, y7, (zt k8 k9), hf75.to, hS11, hr42⟩
         ·have hr43 := cond_f hb21 hr40
          refine c_sq [] [7, 8, 9, 11, 13, 14, 15, 16, 124, 135] hf74 .nil fun a50 hf77 => ?_
          refine c_if (p1.kind == (3 : Int)) hf77 (fun hb23 => ?_) (fun hb23 => ?_)
          ·have hr44 := cond_t hb23 hr43
           obtain ⟨p3, hp13948, hr45⟩ := bind_some hr44
           obtain ⟨ad10, ho10, hb24, cc10, hc10, hk10⟩ := SliceR.getI (SliceR.mono (zt (zt (zt (zt k5 k6) k7) k8) k9) hx3) hp13948
           subst hc10
           refine c_q [.pointer (some ad10), vI p3.mass] [7, 8, 9, 11, 13, 14, 15, 16] hf77 (.prop ho10 (.prop hb24 (.cell (hS11.cell (hk10 1 _ rfl)) .nil))) fun a51 hf78 => ?_
           refine n_block ?_
           refine n_block ?_
           refine n_then ?_
           exact ⟨z9, y5, (w64 (y6 + p3.mass)), y7, (zt k8 k9), hf78.to, hS11, hr45⟩
          ·have hr46 := cond_f hb23 hr43
           refine c_sq [] [7, 8, 9, 11, 13, 14, 15, 16, 144] hf77 .nil fun a52 hf80 => ?_
           refine c_if (p1.kind == (5 : Int)) hf80 (fun hb25 => ?_) (fun hb25 => ?_)
           ·have hr47 := cond_t hb25 hr46
            obtain ⟨p4, hp13965, hr48⟩ := bind_some hr47
            obtain ⟨ad11, ho11, hb26, cc11, hc11, hk11⟩ := SliceR.getI (SliceR.mono (zt (zt (zt (zt k5 k6) k7) k8) k9) hx3) hp13965
            subst hc11
            refine c_q [.pointer (some ad11), vI p4.mass] [7, 8, 9, 11, 13, 14, 15, 16] hf80 (.prop ho11 (.prop hb26 (.cell (hS11.cell (hk11 1 _ rfl)) .nil))) fun a53 hf81 => ?_
            refine n_block ?_
            refine n_block ?_
            refine n_then ?_
            exact ⟨z9, y5, y6, (w64 (y7 + p4.mass)), (zt k8 k9), hf81.to, hS11, hr48⟩
           ·have hr49 := cond_f hb25 hr46
            refine c_skip ?_
            refine n_block ?_
            refine n_block ?_
            refine n_then ?_
            exact ⟨z9, y5, y6, y7, (zt k8 k9), hf80.to, hS11, hr49⟩
     ·rintro a54 ww11 ⟨z7, y2, y3, y4, k10, hf84, hS12, hr50⟩
      refine c_q [] [7, 8, 9, 11, 13, 14, 15, 16] hf84 .nil fun a55 hf85 => ?_
      refine n_then ?_
      exact ⟨n1, Nat.lt_succ_self n1, z7, y2, y3, y4, (w64 (y1 + (1 : Int))), (zt k7 k10), hf85.to, hS12, hr50⟩
    ·have hr51 := cond_f hb7 hr18
     refine c_exit 0 ?_
     refine x_then ?_
     refine x_then ?_
     refine x_block ?_
     refine n_then ?_
     refine c_mid (fun a w => ∃ z10 : Zone, ∃ y10 : Bool, Zone.le z6 z10 ∧ Fr a 178 [(4, .bool y10)] ∧ St z10 (box b1 [.slice o_x0l x0l.length c_x0l, .slice o_x0d x0d.length c_x0d, vI x0c0, vI x0c1, vI x0c2] 63 :: L) w ∧ (F12_j5 y10) = some r) ?_ ?_
     ·skip
      refine c_reg ?_
      obtain ⟨p11, hp14130, hr52⟩ := bind_some hr51
      obtain ⟨ad12, ho12, hb27, cc12, hc12, hk12⟩ := SliceR.getI (SliceR.mono (zt k6 k7) hx4) hp14130
      subst hc12
      refine c_n 8 [.pointer (some ad12), vI p11.poured] [8, 11, 14, 15, 160] hf44 (.prop ho12 (.prop hb27 (.cell (hS8.cell (hk12 1 _ rfl)) .nil))) fun a56 hf87 => ?_
      rcases bft (y5 == p11.poured) with hb28 | hb28
      ·have hr53 := cond_t hb28 hr52
       have hf88 := hf87.lit 160 hb28
       obtain ⟨p12, hp14144, hr54⟩ := bind_some hr53
       obtain ⟨ad13, ho13, hb29, cc13, hc13, hk13⟩ := SliceR.getI (SliceR.mono (zt k6 k7) hx4) hp14144
       subst hc13
       refine c_n 9 [.pointer (some ad13), vI p12.drawn] [8, 11, 15, 169] hf88 (.prop ho13 (.prop hb29 (.cell (hS8.cell (hk13 2 _ rfl)) .nil))) fun a57 hf89 => ?_
       rcases bft (y6 == p12.drawn) with hb30 | hb30
       ·have hr55 := cond_t hb30 hr54
        have hf90 := hf89.lit 169 hb30
        obtain ⟨p13, hp14158, hr56⟩ := bind_some hr55
        obtain ⟨ad14, ho14, hb31, cc14, hc14, hk14⟩ := SliceR.getI (SliceR.mono (zt k6 k7) hx4) hp14158
        subst hc14
        refine c_t [.pointer (some ad14), vI p13.lost] [4] hf90 (.prop ho14 (.prop hb31 (.cell (hS8.cell (hk14 3 _ rfl)) .nil))) fun a58 hf91 => ?_
        exact ⟨z6, (y7 == p13.lost), zr, hf91.to, hS8, hr56⟩
       ·have hr57 := cond_f hb30 hr54
        have hf93 := hf89.lit 169 hb30
        refine c_t [] [4] hf93 .nil fun a59 hf94 => ?_
        exact ⟨z6, false, zr, hf94.to, hS8, hr57⟩
      ·have hr58 := cond_f hb28 hr52
       have hf96 := hf87.lit 160 hb28
       refine c_t [] [4] hf96 .nil fun a60 hf97 => ?_
       exact ⟨z6, false, zr, hf97.to, hS8, hr58⟩
     ·rintro a61 ww12 ⟨z10, y10, k11, hf99, hS13, hr59⟩
      refine c_ret ?_
      refine c_rt [] (.bool y10) hf99 .nil ?_
      obtain rfl := some_eq hr59
      exact ⟨_, rfl, z10, (zt (zt (zt (zt (zt (zt k2 k3) k4) k5) k6) k7) k11), rfl, (St.drop 1 hS13)⟩
end Go.Proofs.Ytlmgjjmighajdaa
set_option linter.unusedSimpArgs false
set_option linter.unusedVariables false
namespace Go.Proofs.Ytlmgjjmighajdaa
open Go.Sl Go.Sx
theorem w64_id {n : Int} (h1 : -9223372036854775808 ≤ n) (h2 : n ≤ 9223372036854775807) : w64 n = n := by
  unfold w64 IntKind.wrap
  simp [IntKind.bits, IntKind.signed]
  omega
theorem succ_w {i : Nat} (h : i < 4000000000) : w64 ((i : Int) + 1) = ((i + 1 : Nat) : Int) := by
  rw [w64_id (by omega) (by omega)]; simp
theorem pred_w {i : Nat} (h : i < 4000000000) (h0 : 0 < i) : w64 ((i : Int) - 1) = ((i - 1 : Nat) : Int) := by
  rw [w64_id (by omega) (by omega)]; omega
theorem sane_true : F16 200 = some true := by kernel_rfl
theorem loop_all {ρ : Type} {L : Nat → Int → Option ρ} {len : Nat} {good : Nat → Prop} {no yes : Option ρ}
    (h : ∀ n i, i < len → (good i ∧ L (n + 1) (i : Int) = L n ((i + 1 : Nat) : Int)) ∨ (¬ good i ∧ L (n + 1) (i : Int) = no))
    (he : ∀ n, L (n + 1) (len : Int) = yes) : ∀ n i, i ≤ len → len - i < n → ((∀ j, i ≤ j → j < len → good j) ∧ L n (i : Int) = yes) ∨ ((¬ ∀ j, i ≤ j → j < len → good j) ∧ L n (i : Int) = no)
  | 0, i, _, hn => by omega
  | n + 1, i, hi, hn => by
    rcases Nat.lt_or_ge i len with hlt | hge
    · rcases h n i hlt with ⟨hg, e⟩ | ⟨hg, e⟩
      · rw [e]
        rcases loop_all h he n (i + 1) (by omega) (by omega) with ⟨h1, h2⟩ | ⟨h1, h2⟩
        · exact .inl ⟨fun j hj hl => by rcases Nat.eq_or_lt_of_le hj with e | e; exact e ▸ hg; exact h1 j e hl, h2⟩
        · exact .inr ⟨fun hall => h1 fun j hj hl => hall j (by omega) hl, h2⟩
      · exact .inr ⟨fun hall => hg (hall i (Nat.le_refl _) hlt), e⟩
    · have : i = len := by omega
      subst this
      exact .inl ⟨fun j hj hl => by omega, he n⟩
theorem loop_all0 {ρ : Type} {L : Nat → Int → Option ρ} {len : Nat} {good : Nat → Prop} {no yes : Option ρ}
    (h : ∀ n i, i < len → (good i ∧ L (n + 1) (i : Int) = L n ((i + 1 : Nat) : Int)) ∨ (¬ good i ∧ L (n + 1) (i : Int) = no))
    (he : ∀ n, L (n + 1) (len : Int) = yes) {n : Nat} (hn : len < n) : ((∀ j, j < len → good j) ∧ L n 0 = yes) ∨ ((¬ ∀ j, j < len → good j) ∧ L n 0 = no) := by
  rcases loop_all h he n 0 (by omega) (by omega) with ⟨h1, h2⟩ | ⟨h1, h2⟩
  · exact .inl ⟨fun j hj => h1 j (by omega) hj, h2⟩
  · exact .inr ⟨fun h => h1 fun j _ hj => h j hj, h2⟩
theorem getI_nat {α : Type} {xs : List α} {i : Nat} (h : i < xs.length) : getI xs (i : Int) = some xs[i] := getI_of h
theorem lt_len {i n : Nat} : decide ((i : Int) < (n : Int)) = decide (i < n) := by
  by_cases h : i < n
  · have : (i : Int) < n := by omega
    simp [h, this]
  · have : ¬ (i : Int) < n := by omega
    simp [h, this]
theorem F71_eq (f : Nat) (x a b : Int) : F71 f x a b = some (decide (a ≤ x ∧ x ≤ b)) := by
  unfold F71 F71_j1
  by_cases h1 : a ≤ x <;> by_cases h2 : x ≤ b <;> simp [h1, h2]
theorem F72_eq (f : Nat) (x a b : Int) : F72 f x a b = some (decide (a ≤ x ∧ x ≤ b)) := by
  unfold F72 F72_j1
  by_cases h1 : a ≤ x <;> by_cases h2 : x ≤ b <;> simp [h1, h2]
structure LotOk (l : Lot) : Prop where
  id0 : 1 ≤ l.id
  id1 : l.id ≤ 9999
  ow0 : 1 ≤ l.owner
  ow1 : l.owner ≤ 9
  gr0 : 1 ≤ l.grade
  gr1 : l.grade ≤ 9
  we0 : 0 ≤ l.wet
  we1 : l.wet ≤ 10000
theorem F17_eq (f : Nat) (l : Lot) : (LotOk l ∧ F17 f l.id l.owner l.grade l.wet = some 0) ∨ (¬ LotOk l ∧ F17 f l.id l.owner l.grade l.wet = some 60) := by
  unfold F17 F17_j1
  simp only [F71_eq, Option.bind_some]
  by_cases h1 : 1 ≤ l.id ∧ l.id ≤ 9999
  · by_cases h2 : 1 ≤ l.owner ∧ l.owner ≤ 9
    · by_cases h3 : 1 ≤ l.grade ∧ l.grade ≤ 9
      · by_cases h4 : 0 ≤ l.wet ∧ l.wet ≤ 10000
        · exact .inl ⟨⟨h1.1, h1.2, h2.1, h2.2, h3.1, h3.2, h4.1, h4.2⟩, by simp [h1, h2, h3, h4]⟩
        · exact .inr ⟨fun k => h4 ⟨k.we0, k.we1⟩, by simp [h1, h2, h3, h4]⟩
      · exact .inr ⟨fun k => h3 ⟨k.gr0, k.gr1⟩, by simp [h1, h2, h3]⟩
    · exact .inr ⟨fun k => h2 ⟨k.ow0, k.ow1⟩, by simp [h1, h2]⟩
  · exact .inr ⟨fun k => h1 ⟨k.id0, k.id1⟩, by simp [h1]⟩
theorem F18_17 (f : Nat) (a b c d : Int) : F18 f a b c d = F17 f a b c d := by
  unfold F18 F17 F18_j1 F17_j1
  simp only [F71_eq, F72_eq]
def LotsOk (l : List Lot) : Prop := l.length ≤ 40 ∧ (∀ x ∈ l, LotOk x) ∧ l.Pairwise fun a b => a.id < b.id
theorem pairs_of {α : Type} {r : α → α → Prop} (tr : ∀ a b c, r a b → r b c → r a c) : ∀ {l : List α}, (∀ j (h : j + 1 < l.length), r l[j] l[j + 1]) → l.Pairwise r
  | [], _ => List.Pairwise.nil
  | [_], _ => List.pairwise_singleton _ _
  | a :: b :: l, h => by
    have ih := pairs_of tr (l := b :: l) fun j hj => h (j + 1) (by simpa using hj)
    refine List.pairwise_cons.2 ⟨fun c hc => ?_, ih⟩
    have h0 : r a b := h 0 (by simp)
    rcases List.mem_cons.1 hc with rfl | hc
    · exact h0
    · exact tr _ _ _ h0 ((List.pairwise_cons.1 ih).1 c hc)
theorem pairs_at {α : Type} {r : α → α → Prop} : ∀ {l : List α}, l.Pairwise r → ∀ {i j : Nat} (hi : i < l.length) (hj : j < l.length), i < j → r l[i] l[j] := by
  intro l hl i j hi hj hij
  exact List.pairwise_iff_getElem.1 hl i j hi hj hij
def adjL (l : List Lot) (j : Nat) : Prop := ∀ h : j < l.length, LotOk l[j] ∧ (0 < j → l[j - 1].id < l[j].id)
theorem lotsOk_iff {l : List Lot} (h : l.length ≤ 40) : (∀ j, j < l.length → adjL l j) ↔ LotsOk l := by
  constructor
  · intro k
    refine ⟨h, fun x hx => ?_, pairs_of (fun a b c h1 h2 => by omega) fun j hj => ?_⟩
    · obtain ⟨j, hj, rfl⟩ := List.getElem_of_mem hx
      exact (k j hj hj).1
    · exact (k (j + 1) hj hj).2 (by omega)
  · rintro ⟨_, h1, h2⟩ j _ hj
    exact ⟨h1 _ (List.getElem_mem _), fun h0 => pairs_at h2 (by omega) hj (by omega)⟩
theorem F19_eq {f : Nat} {l : List Lot} (hf : 40 < f) : (LotsOk l ∧ F19 f l = some 0) ∨ (¬ LotsOk l ∧ F19 f l = some 60) := by
  unfold F19
  by_cases h40 : (l.length : Int) > 40
  · exact .inr ⟨fun k => by have := k.1; omega, by simp [h40]⟩
  · have h41 : l.length ≤ 40 := by omega
    simp only [h40, decide_false, cond_false]
    rw [← lotsOk_iff h41]
    refine loop_all0 (L := F19_l1 f l) (len := l.length) (fun n i hi => ?_) (fun n => ?_) (by omega)
    · simp only [F19_l1, lt_len, hi, decide_true, cond_true, getI_nat hi, Option.bind_some, F19_j1]
      rw [succ_w (by omega)]
      rcases F17_eq f l[i] with ⟨g1, e⟩ | ⟨g1, e⟩
      · rw [e]
        simp only [Option.bind_some]
        by_cases h0 : 0 < i
        · have h0' : (i : Int) > 0 := by omega
          simp only [h0', decide_true, pred_w (i := i) (by omega) h0, getI_nat (show i - 1 < l.length by omega), Option.bind_some]
          by_cases hg : l[i - 1].id ≥ l[i].id
          · exact .inr ⟨fun k => by have := (k hi).2 h0; omega, by simp [hg]⟩
          · exact .inl ⟨fun h => ⟨g1, fun _ => by omega⟩, by simp [hg]⟩
        · have h0' : ¬ (i : Int) > 0 := by omega
          exact .inl ⟨fun h => ⟨g1, fun k => absurd k h0⟩, by simp [h0]⟩
      · exact .inr ⟨fun k => g1 (k hi).1, by rw [e]; simp⟩
    · simp [F19_l1]
theorem F20_19 (f : Nat) (l : List Lot) : F20 f l = F19 f l := by
  unfold F20 F19
  have : ∀ n y, F20_l1 f l n y = F19_l1 f l n y := by
    intro n
    induction n with
    | zero => intro y; rfl
    | succ n ih =>
      intro y
      have ih' : F20_l1 f l n = F19_l1 f l n := funext ih
      simp only [F20_l1, F19_l1, ih', F20_j1, F19_j1, F18_17]
      cases h : getI l y with
      | none => simp
      | some p => simp
  rw [this]
def sumM (h : List Part) : Int := (h.map (·.mass)).sum
def sumH (l : List (List Part)) : Int := (l.map sumM).sum
structure PartOk (p : Part) : Prop where
  l0 : 1 ≤ p.lot
  l1 : p.lot ≤ 9999
  m0 : 1 ≤ p.mass
  m1 : p.mass ≤ 100000000
def HeapOk (h : List Part) : Prop := h.length ≤ 40 ∧ (∀ p ∈ h, PartOk p) ∧ (h.Pairwise fun a b => a.lot < b.lot) ∧ sumM h ≤ 100000000
def adjP (l : List Part) (j : Nat) : Prop := ∀ h : j < l.length, PartOk l[j] ∧ (0 < j → l[j - 1].lot < l[j].lot)
theorem sum_app : ∀ (a b : List Int), (a ++ b).sum = a.sum + b.sum
  | [], b => by simp
  | x :: a, b => by simp only [List.cons_append, List.sum_cons, sum_app a b]; omega
theorem sumM_app (a b : List Part) : sumM (a ++ b) = sumM a + sumM b := by unfold sumM; rw [List.map_append, sum_app]
theorem sumH_app (a b : List (List Part)) : sumH (a ++ b) = sumH a + sumH b := by unfold sumH; rw [List.map_append, sum_app]
theorem sumM_take {l : List Part} {i : Nat} (hi : i < l.length) : sumM (l.take (i + 1)) = sumM (l.take i) + l[i].mass := by
  rw [List.take_succ_eq_append_getElem hi, sumM_app]
  simp [sumM]
theorem sumM_bound : ∀ {l : List Part}, (∀ p ∈ l, PartOk p) → 0 ≤ sumM l ∧ sumM l ≤ 100000000 * l.length
  | [], _ => by simp [sumM]
  | p :: l, h => by
    have ih := sumM_bound (l := l) fun q hq => h q (List.mem_cons_of_mem _ hq)
    have hp := h p (by simp)
    have := hp.m0; have := hp.m1
    simp only [sumM, List.map_cons, List.sum_cons, List.length_cons] at ih ⊢
    omega
theorem heapOk_iff {l : List Part} (h : l.length ≤ 40) : ((∀ j, j < l.length → adjP l j) ∧ sumM l ≤ 100000000) ↔ HeapOk l := by
  constructor
  · rintro ⟨k, hs⟩
    refine ⟨h, fun x hx => ?_, pairs_of (fun a b c h1 h2 => by omega) fun j hj => ?_, hs⟩
    · obtain ⟨j, hj, rfl⟩ := List.getElem_of_mem hx
      exact (k j hj hj).1
    · exact (k (j + 1) hj hj).2 (by omega)
  · rintro ⟨_, h1, h2, h3⟩
    exact ⟨fun j _ hj => ⟨h1 _ (List.getElem_mem _), fun h0 => pairs_at h2 (by omega) hj (by omega)⟩, h3⟩
theorem F73_loop {f : Nat} {l : List Part} (h40 : l.length ≤ 40) : ∀ n i, i ≤ l.length → l.length - i < n → (∀ j, j < i → adjP l j) →
    ((∀ j, j < l.length → adjP l j) ∧ F73_l1 f l n (sumM (l.take i)) (i : Int) = some (decide (sumM l ≤ 100000000))) ∨ ((¬ ∀ j, j < l.length → adjP l j) ∧ F73_l1 f l n (sumM (l.take i)) (i : Int) = some false)
  | 0, i, _, hn, _ => by omega
  | n + 1, i, hi, hn, hd => by
    rcases Nat.lt_or_ge i l.length with hlt | hge
    · have hb : 0 ≤ sumM (l.take i) ∧ sumM (l.take i) ≤ 100000000 * (l.take i).length := sumM_bound fun p hp => by
        obtain ⟨j, hj, rfl⟩ := List.getElem_of_mem hp
        simp only [List.length_take] at hj
        rw [List.getElem_take]
        exact (hd j (by omega) (by omega)).1
      have hb2 : (l.take i).length ≤ 40 := by rw [List.length_take]; omega
      have next : adjP l i → ((∀ j, j < l.length → adjP l j) ∧ F73_l1 f l n (w64 (sumM (l.take i) + l[i].mass)) (w64 ((i : Int) + 1)) = some (decide (sumM l ≤ 100000000))) ∨ ((¬ ∀ j, j < l.length → adjP l j) ∧ F73_l1 f l n (w64 (sumM (l.take i) + l[i].mass)) (w64 ((i : Int) + 1)) = some false) := fun g => by
        have gp := (g hlt).1
        have := gp.m0; have := gp.m1
        rw [succ_w (by omega), w64_id (by omega) (by omega), ← sumM_take hlt]
        exact F73_loop h40 n (i + 1) (by omega) (by omega) fun j hj => by
          rcases Nat.lt_or_ge j i with h | h
          · exact hd j h
          · have : j = i := by omega
            subst this; exact g
      simp only [F73_l1, lt_len, hlt, decide_true, cond_true, getI_nat hlt, Option.bind_some, F73_j1, F71_eq]
      by_cases h1 : 1 ≤ l[i].lot ∧ l[i].lot ≤ 9999
      · by_cases h2 : 1 ≤ l[i].mass ∧ l[i].mass ≤ 100000000
        · by_cases h0 : 0 < i
          · have h0' : (i : Int) > 0 := by omega
            simp only [h1, h2, h0', and_self, decide_true, Bool.not_true, cond_false, cond_true, pred_w (i := i) (by omega) h0, getI_nat (show i - 1 < l.length by omega), Option.bind_some]
            by_cases hg : l[i - 1].lot ≥ l[i].lot
            · exact .inr ⟨fun k => by have := (k i hlt hlt).2 h0; omega, by simp [hg]⟩
            · simp only [hg, decide_false, cond_false]
              exact next fun h => ⟨⟨h1.1, h1.2, h2.1, h2.2⟩, fun _ => by omega⟩
          · have h0' : ¬ (i : Int) > 0 := by omega
            simp only [h1, h2, h0', and_self, decide_true, decide_false, Bool.not_true, cond_false]
            exact next fun h => ⟨⟨h1.1, h1.2, h2.1, h2.2⟩, fun k => absurd k h0⟩
        · exact .inr ⟨fun k => h2 ⟨(k i hlt hlt).1.m0, (k i hlt hlt).1.m1⟩, by simp [h1, h2]⟩
      · exact .inr ⟨fun k => h1 ⟨(k i hlt hlt).1.l0, (k i hlt hlt).1.l1⟩, by simp [h1]⟩
    · have : i = l.length := by omega
      subst this
      refine .inl ⟨fun j hj => hd j hj, ?_⟩
      simp [F73_l1]
theorem F73_eq {f : Nat} {l : List Part} (hf : 40 < f) : (HeapOk l ∧ F73 f l = some true) ∨ (¬ HeapOk l ∧ F73 f l = some false) := by
  unfold F73
  by_cases h40 : (l.length : Int) > 40
  · exact .inr ⟨fun k => by have := k.1; omega, by simp [h40]⟩
  · have h41 : l.length ≤ 40 := by omega
    simp only [h40, decide_false, cond_false]
    rw [← heapOk_iff h41]
    have := F73_loop (f := f) h41 f 0 (by omega) (by omega) (fun j hj => by omega)
    simp only [List.take_zero] at this
    have e0 : sumM [] = 0 := rfl
    rw [e0] at this
    rcases this with ⟨h1, h2⟩ | ⟨h1, h2⟩
    · by_cases hs : sumM l ≤ 100000000
      · exact .inl ⟨⟨h1, hs⟩, by simpa [hs] using h2⟩
      · exact .inr ⟨fun k => hs k.2, by simpa [hs] using h2⟩
    · exact .inr ⟨fun k => h1 k.1, by simpa using h2⟩
theorem F76_73 (f : Nat) (l : List Part) : F76 f l = F73 f l := by
  unfold F76 F73
  have : ∀ n y z, F76_l1 f l n y z = F73_l1 f l n y z := by
    intro n
    induction n with
    | zero => intro y z; rfl
    | succ n ih =>
      intro y z
      have ih' : F76_l1 f l n = F73_l1 f l n := funext fun y => funext fun z => ih y z
      simp only [F76_l1, F73_l1, ih', F76_j1, F73_j1, F71_eq, F72_eq]
  rw [this]
theorem mass_le {l : List Part} (h : HeapOk l) : 0 ≤ sumM l ∧ sumM l ≤ 100000000 := ⟨(sumM_bound h.2.1).1, h.2.2.2⟩
theorem sumM_take_le {l : List Part} (h : ∀ p ∈ l, PartOk p) (i : Nat) : 0 ≤ sumM (l.take i) ∧ sumM (l.take i) ≤ sumM l := by
  have e : l = l.take i ++ l.drop i := (List.take_append_drop i l).symm
  have h1 := sumM_bound (l := l.take i) fun p hp => h p (List.mem_of_mem_take hp)
  have h2 := sumM_bound (l := l.drop i) fun p hp => h p (List.mem_of_mem_drop hp)
  have h3 : sumM l = sumM (l.take i) + sumM (l.drop i) := by rw [← sumM_app, List.take_append_drop]
  omega
theorem F90_loop {l : List Part} (h : HeapOk l) : ∀ n i, i ≤ l.length → l.length - i < n → F90_l1 l n (sumM (l.take i)) (i : Int) = some (sumM l)
  | 0, i, _, hn => by omega
  | n + 1, i, hi, hn => by
    have h40 := h.1
    rcases Nat.lt_or_ge i l.length with hlt | hge
    · have h1 := sumM_take_le h.2.1 (i + 1)
      have h2 := mass_le h
      rw [sumM_take hlt] at h1
      simp only [F90_l1, lt_len, hlt, decide_true, cond_true, getI_nat hlt, Option.bind_some]
      rw [succ_w (by omega), w64_id (by omega) (by omega), ← sumM_take hlt]
      exact F90_loop h n (i + 1) (by omega) (by omega)
    · have : i = l.length := by omega
      subst this
      simp [F90_l1]
theorem F90_eq {f : Nat} {l : List Part} (h : HeapOk l) (hf : 40 < f) : F90 f l = some (sumM l) := by
  have := F90_loop h f 0 (by omega) (by have := h.1; omega)
  simpa [F90, sumM] using this
theorem F92_90 (f : Nat) (l : List Part) : F92 f l = F90 f l := by
  unfold F92 F90
  have : ∀ n y z, F92_l1 l n y z = F90_l1 l n y z := by
    intro n
    induction n with
    | zero => intro y z; rfl
    | succ n ih =>
      intro y z
      have ih' : F92_l1 l n = F90_l1 l n := funext fun y => funext fun z => ih y z
      simp only [F92_l1, F90_l1, ih']
  rw [this]
theorem sumH_take {l : List (List Part)} {i : Nat} (hi : i < l.length) : sumH (l.take (i + 1)) = sumH (l.take i) + sumM l[i] := by
  rw [List.take_succ_eq_append_getElem hi, sumH_app]
  simp [sumH]
theorem sumH_bound : ∀ {l : List (List Part)}, (∀ h ∈ l, HeapOk h) → 0 ≤ sumH l ∧ sumH l ≤ 100000000 * l.length
  | [], _ => by simp [sumH]
  | p :: l, h => by
    have ih := sumH_bound (l := l) fun q hq => h q (List.mem_cons_of_mem _ hq)
    have hp := mass_le (h p (by simp))
    simp only [sumH, List.map_cons, List.sum_cons, List.length_cons] at ih ⊢
    omega
theorem F75_loop {f : Nat} {l : List (List Part)} (hl : l.length ≤ 4) (h : ∀ x ∈ l, HeapOk x) (hf : 40 < f) : ∀ n i, i ≤ l.length → l.length - i < n → F75_l1 f l n (sumH (l.take i)) (i : Int) = some (sumH l)
  | 0, i, _, hn => by omega
  | n + 1, i, hi, hn => by
    rcases Nat.lt_or_ge i l.length with hlt | hge
    · have h1 := sumH_bound (l := l.take (i + 1)) fun x hx => h x (List.mem_of_mem_take hx)
      have h2 : (l.take (i + 1)).length ≤ 4 := by rw [List.length_take]; omega
      rw [sumH_take hlt] at h1
      simp only [F75_l1, lt_len, hlt, decide_true, cond_true, getI_nat hlt, Option.bind_some, F90_eq (h _ (List.getElem_mem _)) hf]
      rw [succ_w (by omega), w64_id (by omega) (by omega), ← sumH_take hlt]
      exact F75_loop hl h hf n (i + 1) (by omega) (by omega)
    · have : i = l.length := by omega
      subst this
      simp [F75_l1]
theorem F75_eq {f : Nat} {l : List (List Part)} (hl : l.length ≤ 4) (h : ∀ x ∈ l, HeapOk x) (hf : 40 < f) : F75 f l = some (sumH l) := by
  have := F75_loop hl h hf f 0 (by omega) (by omega)
  simpa [F75, sumH] using this
theorem F77_75 (f : Nat) (l : List (List Part)) : F77 f l = F75 f l := by
  unfold F77 F75
  have : ∀ n y z, F77_l1 f l n y z = F75_l1 f l n y z := by
    intro n
    induction n with
    | zero => intro y z; rfl
    | succ n ih =>
      intro y z
      have ih' : F77_l1 f l n = F75_l1 f l n := funext fun y => funext fun z => ih y z
      simp only [F77_l1, F75_l1, ih', F92_90]
  rw [this]
end Go.Proofs.Ytlmgjjmighajdaa
set_option linter.unusedSimpArgs false
set_option linter.unusedVariables false
namespace Go.Proofs.Ytlmgjjmighajdaa
open Go.Sl Go.Sx
def Has (l : List Lot) (id : Int) : Prop := ∃ x ∈ l, x.id = id
instance (l : List Lot) (x : Int) : Decidable (Has l x) := inferInstanceAs (Decidable (∃ y ∈ l, y.id = x))
theorem F122_eq (f : Nat) (l : Lot) (x : Int) : F122 f l.id l.owner l.grade l.wet x = some (if l.id < x then -1 else if l.id > x then 1 else 0) := by
  unfold F122 F123 F137
  by_cases h1 : l.id < x <;> by_cases h2 : l.id > x <;> simp [h1, h2]
theorem half_w {a b : Nat} (h : a + b < 4000000000) : w64 (Int.fdiv (IntKind.wrap .u64 (w64 ((a : Int) + (b : Int)))) 2) = (((a + b) / 2 : Nat) : Int) := by
  rw [w64_id (n := (a : Int) + b) (by omega) (by omega)]
  have e1 : IntKind.wrap .u64 ((a : Int) + b) = (a : Int) + b := by
    unfold IntKind.wrap
    simp [IntKind.bits, IntKind.signed]
    omega
  rw [e1]
  have e2 : Int.fdiv ((a : Int) + b) 2 = (((a + b) / 2 : Nat) : Int) := by
    rw [Int.fdiv_eq_ediv_of_nonneg _ (by decide)]
    omega
  rw [e2, w64_id (by omega) (by omega)]
theorem F74_loop {f : Nat} {l : List Lot} (hl : l.length ≤ 40) (hs : l.Pairwise fun a b => a.id < b.id) (x : Int) : ∀ n i j, i ≤ j → j ≤ l.length → j - i < n →
    (∀ k (h : k < l.length), k < i → l[k].id < x) → (∀ k (h : k < l.length), j ≤ k → ¬ l[k].id < x) →
    ∃ p : Nat, p ≤ l.length ∧ (∀ k (h : k < l.length), k < p → l[k].id < x) ∧ (∀ k (h : k < l.length), p ≤ k → ¬ l[k].id < x) ∧
      F74_l1 f l x n (i : Int) (j : Int) = some ((p : Int), decide (∃ h : p < l.length, l[p].id = x))
  | 0, i, j, _, _, hn, _, _ => by omega
  | n + 1, i, j, hij, hj, hn, h1, h2 => by
    rcases Nat.lt_or_ge i j with hlt | hge
    · have hm : (i + j) / 2 < l.length := by omega
      have hm1 : i ≤ (i + j) / 2 := by omega
      have hm2 : (i + j) / 2 < j := by omega
      simp only [F74_l1, lt_len, hlt, decide_true, cond_true, half_w (a := i) (b := j) (by omega), getI_nat hm, Option.bind_some, F122_eq]
      by_cases hx : l[(i + j) / 2].id < x
      · simp only [hx, if_true]
        have e : decide ((-1 : Int) < 0) = true := rfl
        rw [e, cond_true, succ_w (by omega)]
        refine F74_loop hl hs x n ((i + j) / 2 + 1) j (by omega) hj (by omega) (fun k hk hki => ?_) h2
        rcases Nat.lt_or_ge k ((i + j) / 2) with h | h
        · have := pairs_at hs hk hm h; omega
        · have : k = (i + j) / 2 := by omega
          subst this; exact hx
      · have e : decide ((if l[(i + j) / 2].id < x then (-1 : Int) else if l[(i + j) / 2].id > x then 1 else 0) < 0) = false := by
          rw [if_neg hx]; split <;> rfl
        rw [e, cond_false]
        refine F74_loop hl hs x n i ((i + j) / 2) (by omega) (by omega) (by omega) h1 (fun k hk hki => ?_)
        rcases Nat.lt_or_ge ((i + j) / 2) k with h | h
        · have := pairs_at hs hm hk h; omega
        · have : k = (i + j) / 2 := by omega
          subst this; exact hx
    · have : i = j := by omega
      subst this
      refine ⟨i, hj, h1, h2, ?_⟩
      simp only [F74_l1, lt_len, Nat.lt_irrefl, decide_false, cond_false]
      by_cases hi : i < l.length
      · simp only [hi, decide_true, cond_true, getI_nat hi, Option.bind_some, F122_eq, F74_j1]
        have hx := h2 i hi (Nat.le_refl _)
        congr 2
        rw [if_neg hx]
        by_cases hg : l[i].id > x
        · have : ¬ l[i].id = x := by omega
          simp [hg, this]
        · have : l[i].id = x := by omega
          simp [this]
      · simp [hi, F74_j1]
theorem F74_eq {f : Nat} {l : List Lot} (h : LotsOk l) (x : Int) (hf : 40 < f) :
    ∃ p : Nat, F74 f l x = some ((p : Int), decide (Has l x)) ∧ (Has l x → ∃ h : p < l.length, l[p].id = x) := by
  obtain ⟨p, hp, h1, h2, e⟩ := F74_loop (f := f) h.1 h.2.2 x f 0 l.length (by omega) (by omega) (by have := h.1; omega) (fun k _ hk => by omega) (fun k hk hk2 => by omega)
  have key : Has l x ↔ ∃ h : p < l.length, l[p].id = x := by
    constructor
    · rintro ⟨y, hy, rfl⟩
      obtain ⟨j, hj, rfl⟩ := List.getElem_of_mem hy
      rcases Nat.lt_trichotomy j p with hjp | hjp | hjp
      · have := h1 j hj hjp; omega
      · subst hjp; exact ⟨hj, rfl⟩
      · have hpl : p < l.length := by omega
        have := pairs_at h.2.2 hpl hj hjp
        have := h2 p hpl (Nat.le_refl _)
        omega
    · rintro ⟨hp, e⟩
      exact ⟨l[p], List.getElem_mem _, e⟩
  refine ⟨p, ?_, key.1⟩
  unfold F74
  have e0 : (0 : Int) = ((0 : Nat) : Int) := rfl
  rw [e0, e]
  congr 2
  exact decide_eq_decide.2 key.symm
theorem F56_loop {l : List Lot} (hl : l.length ≤ 40) (x : Int) : ∀ n i, i ≤ l.length → l.length - i < n → (∀ k (h : k < l.length), k < i → l[k].id ≠ x) →
    (∃ p : Nat, (∃ h : p < l.length, l[p].id = x ∧ ∀ k (h : k < l.length), k < p → l[k].id ≠ x) ∧ F56_l1 l x n (i : Int) = some (p : Int)) ∨ (¬ Has l x ∧ F56_l1 l x n (i : Int) = some (-1))
  | 0, i, _, hn, _ => by omega
  | n + 1, i, hi, hn, hd => by
    rcases Nat.lt_or_ge i l.length with hlt | hge
    · simp only [F56_l1, lt_len, hlt, decide_true, cond_true, getI_nat hlt, Option.bind_some]
      by_cases hx : l[i].id = x
      · exact .inl ⟨i, ⟨hlt, hx, fun k hk hki => hd k hk hki⟩, by simp [hx]⟩
      · have e : (l[i].id == x) = false := by simpa using hx
        rw [e, cond_false, succ_w (by omega)]
        exact F56_loop hl x n (i + 1) (by omega) (by omega) fun k hk hki => by
          rcases Nat.lt_or_ge k i with h | h
          · exact hd k hk h
          · have : k = i := by omega
            subst this; exact hx
    · have : i = l.length := by omega
      subst this
      refine .inr ⟨fun ⟨y, hy, e⟩ => ?_, by simp [F56_l1]⟩
      obtain ⟨j, hj, rfl⟩ := List.getElem_of_mem hy
      exact hd j hj hj e
theorem F56_eq {f : Nat} {l : List Lot} (hl : l.length ≤ 40) (x : Int) (hf : 40 < f) :
    (∃ p : Nat, (∃ h : p < l.length, l[p].id = x) ∧ Has l x ∧ F56 f l x = some (p : Int)) ∨ (¬ Has l x ∧ F56 f l x = some (-1)) := by
  rcases F56_loop hl x f 0 (by omega) (by omega) (fun k _ hk => by omega) with ⟨p, ⟨hp, e, _⟩, h⟩ | h
  · exact .inl ⟨p, ⟨hp, e⟩, ⟨l[p], List.getElem_mem _, e⟩, by simpa [F56] using h⟩
  · exact .inr ⟨h.1, by simpa [F56] using h.2⟩
structure GoodHeap (lots : List Lot) (h : List Part) : Prop where
  ok : HeapOk h
  ne : h ≠ []
  lots : ∀ p ∈ h, Has lots p.lot
structure GoodHold (lots : List Lot) (l : List (List Part)) : Prop where
  len : l.length ≤ 4
  heaps : ∀ h ∈ l, GoodHeap lots h
  sum : sumH l ≤ 100000000
theorem F22_l3_eq {f : Nat} {k1 : Int → Option Int} {lots : List Lot} (hl : LotsOk lots) {hold : List (List Part)} {i : Nat} (hi : i < hold.length) (hp : hold[i].length ≤ 40) (hf : 40 < f) :
    ((∀ q ∈ hold[i], Has lots q.lot) ∧ F22_l3 f k1 lots hold (i : Int) f 0 = k1 (w64 ((i : Int) + 1))) ∨ ((¬ ∀ q ∈ hold[i], Has lots q.lot) ∧ F22_l3 f k1 lots hold (i : Int) f 0 = some 62) := by
  have key := loop_all0 (L := F22_l3 f k1 lots hold (i : Int)) (len := hold[i].length) (good := fun j => ∀ h : j < hold[i].length, Has lots hold[i][j].lot) (no := some 62) (yes := k1 (w64 ((i : Int) + 1))) (fun n j hj => by
    simp only [F22_l3, getI_nat hi, Option.bind_some, lt_len, hj, decide_true, cond_true, getI_nat hj]
    rcases F56_eq (f := f) hl.1 hold[i][j].lot hf with ⟨q, _, hh, e⟩ | ⟨hh, e⟩
    · refine .inl ⟨fun _ => hh, ?_⟩
      have h0 : ¬ (q : Int) < 0 := by omega
      simp only [e, Option.bind_some, h0, decide_false, cond_false]; rw [succ_w (by omega)]
    · exact .inr ⟨fun k => hh (k trivial), by simp [e]⟩) (fun n => by simp [F22_l3, getI_nat hi]) (n := f) (by omega)
  have iff : (∀ j, j < hold[i].length → ∀ h : j < hold[i].length, Has lots hold[i][j].lot) ↔ ∀ q ∈ hold[i], Has lots q.lot := by
    constructor
    · intro k q hq; obtain ⟨j, hj, rfl⟩ := List.getElem_of_mem hq; exact k j hj hj
    · intro k j hj _; exact k _ (List.getElem_mem _)
  rw [iff] at key
  exact key
theorem allMem {α : Type} {l : List α} {r : α → Prop} : (∀ j, j < l.length → ∀ h : j < l.length, r l[j]) ↔ ∀ x ∈ l, r x := by
  constructor
  · intro k q hq; obtain ⟨j, hj, rfl⟩ := List.getElem_of_mem hq; exact k j hj hj
  · intro k j hj _; exact k _ (List.getElem_mem _)
end Go.Proofs.Ytlmgjjmighajdaa
set_option linter.unusedSimpArgs false
set_option linter.unusedVariables false
namespace Go.Proofs.Ytlmgjjmighajdaa
open Go.Sl Go.Sx
theorem F22_l2_eq {f : Nat} {k3 : Int → Option Int} {lots : List Lot} (hl : LotsOk lots) (y : Int) {hold : List (List Part)} (h4 : hold.length ≤ 4) (hf : 40 < f) :
    ((∀ p ∈ hold, GoodHeap lots p) ∧ F22_l2 f k3 lots y hold f 0 = (if sumH hold ≤ 100000000 then k3 (w64 (y + 1)) else some 62)) ∨ ((¬ ∀ p ∈ hold, GoodHeap lots p) ∧ F22_l2 f k3 lots y hold f 0 = some 62) := by
  by_cases hall : ∀ p ∈ hold, GoodHeap lots p
  · left
    refine ⟨hall, ?_⟩
    have key := loop_all0 (L := F22_l2 f k3 lots y hold) (len := hold.length) (good := fun j => True) (no := some 62) (yes := (if sumH hold ≤ 100000000 then k3 (w64 (y + 1)) else some 62)) (fun n i hi => by
      have hg := hall _ (List.getElem_mem hi)
      simp only [F22_l2, lt_len, hi, decide_true, cond_true, getI_nat hi, Option.bind_some, F76_73]
      rcases F73_eq (f := f) (l := hold[i]) hf with ⟨_, e⟩ | ⟨hn, _⟩
      · rw [e]
        have hne : ¬ hold[i].length = 0 := fun e => hg.ne (List.eq_nil_of_length_eq_zero e)
        have hne' : ((hold[i].length : Int) == 0) = false := by simpa using (show ¬ (hold[i].length : Int) = 0 by omega)
        simp only [Option.bind_some, Bool.not_true, cond_false, F22_j1, hne']
        rcases F22_l3_eq (k1 := F22_l2 f k3 lots y hold n) hl hi hg.ok.1 hf with ⟨_, e2⟩ | ⟨hn, _⟩
        · exact .inl ⟨trivial, by rw [e2, succ_w (by omega)]⟩
        · exact absurd hg.lots hn
      · exact absurd hg.ok hn) (fun n => by
        have e := F75_eq (f := f) h4 (fun x hx => (hall x hx).ok) hf
        simp only [F22_l2, lt_len, Nat.lt_irrefl, decide_false, cond_false, F77_75, e, Option.bind_some]
        by_cases hs : sumH hold ≤ 100000000
        · have : ¬ sumH hold > 100000000 := by omega
          simp [hs, this]
        · have : sumH hold > 100000000 := by omega
          simp [hs, this]) (n := f) (by omega)
    rcases key with ⟨_, e⟩ | ⟨hn, _⟩
    · exact e
    · exact absurd (fun _ _ => trivial) hn
  · right
    refine ⟨hall, ?_⟩
    have key := loop_all0 (L := F22_l2 f k3 lots y hold) (len := hold.length) (good := fun j => ∀ h : j < hold.length, GoodHeap lots hold[j]) (no := some 62) (yes := F22_l2 f k3 lots y hold 1 (hold.length : Int)) (fun n i hi => by
      simp only [F22_l2, lt_len, hi, decide_true, cond_true, getI_nat hi, Option.bind_some, F76_73]
      rcases F73_eq (f := f) (l := hold[i]) hf with ⟨hok, e⟩ | ⟨hn, e⟩
      · rw [e]
        by_cases hne : hold[i] = []
        · exact .inr ⟨fun k => (k trivial).ne hne, by simp [hne, F22_j1]⟩
        · have hne' : ((hold[i].length : Int) == 0) = false := by
            have : ¬ hold[i].length = 0 := fun e => hne (List.eq_nil_of_length_eq_zero e)
            simpa using (show ¬ (hold[i].length : Int) = 0 by omega)
          simp only [Option.bind_some, Bool.not_true, cond_false, F22_j1, hne']
          rcases F22_l3_eq (k1 := F22_l2 f k3 lots y hold n) hl hi hok.1 hf with ⟨hp, e2⟩ | ⟨hn, e2⟩
          · exact .inl ⟨fun _ => ⟨hok, hne, hp⟩, by rw [e2, succ_w (by omega)]⟩
          · exact .inr ⟨fun k => hn (k trivial).lots, e2⟩
      · exact .inr ⟨fun k => hn (k trivial).ok, by simp [e, F22_j1]⟩) (fun n => by simp [F22_l2]) (n := f) (by omega)
    rw [allMem] at key
    rcases key with ⟨h, _⟩ | ⟨_, e⟩
    · exact absurd h hall
    · exact e
structure StockOk (lots : List Lot) (holds : List (List (List Part))) : Prop where
  lok : LotsOk lots
  hok : ∀ l ∈ holds, GoodHold lots l
theorem F22_eq {f : Nat} {lots : List Lot} {holds : List (List (List Part))} (h9 : holds.length = 9) (hf : 40 < f) : (StockOk lots holds ∧ F22 f lots holds = some 0) ∨ (¬ StockOk lots holds ∧ F22 f lots holds = some 62) := by
  unfold F22
  rcases F19_eq (l := lots) hf with ⟨hl, e⟩ | ⟨hl, e⟩
  · rw [F20_19, e]
    have key := loop_all0 (L := F22_l1 f lots holds) (len := 9) (good := fun j => ∀ h : j < holds.length, GoodHold lots holds[j]) (no := some 62) (yes := some 0) (fun n i hi => by
      have hi' : i < holds.length := by omega
      have hlt : decide ((i : Int) < 9) = true := by simpa using (show (i : Int) < 9 by omega)
      simp only [F22_l1, hlt, cond_true, getI_nat hi', Option.bind_some]
      by_cases h4 : holds[i].length ≤ 4
      · have h4' : decide ((holds[i].length : Int) > 4) = false := by simpa using (show (holds[i].length : Int) ≤ 4 by omega)
        rw [h4', cond_false]
        rcases F22_l2_eq (k3 := F22_l1 f lots holds n) hl (i : Int) h4 hf with ⟨hg, e⟩ | ⟨hg, e⟩
        · by_cases hs : sumH holds[i] ≤ 100000000
          · exact .inl ⟨fun _ => ⟨h4, hg, hs⟩, by rw [e, if_pos hs, succ_w (by omega)]⟩
          · exact .inr ⟨fun k => hs (k hi').sum, by rw [e, if_neg hs]⟩
        · exact .inr ⟨fun k => hg (k hi').heaps, e⟩
      · have h4' : decide ((holds[i].length : Int) > 4) = true := by simpa using (show (holds[i].length : Int) > 4 by omega)
        exact .inr ⟨fun k => h4 (k hi').len, by rw [h4', cond_true]⟩) (fun n => by simp [F22_l1]) (n := f) (by omega)
    rw [← h9, allMem] at key
    rcases key with ⟨h, e⟩ | ⟨h, e⟩
    · exact .inl ⟨⟨hl, h⟩, by simpa using e⟩
    · exact .inr ⟨fun k => h k.hok, by simpa using e⟩
  · exact .inr ⟨fun k => hl k.lok, by rw [F20_19, e]; simp⟩
def deeds : List (Int × DRow) := putK (putK (putK (putK (putK (putK ([]) 1 (⟨true, false, true, true, (some 138)⟩ : DRow)) 2 (⟨true, false, true, true, (some 139)⟩ : DRow)) 3 (⟨false, true, false, true, (some 140)⟩ : DRow)) 4 (⟨false, true, true, true, (some 141)⟩ : DRow)) 5 (⟨false, true, false, true, (some 142)⟩ : DRow)) 6 (⟨false, true, false, false, (some 143)⟩ : DRow)
theorem F125_eq (f : Nat) : F125 f = some deeds := rfl
theorem deeds_at (k : Int) : (k = 1 ∧ getK deeds k = some ⟨true, false, true, true, some 138⟩) ∨ (k = 2 ∧ getK deeds k = some ⟨true, false, true, true, some 139⟩) ∨ (k = 3 ∧ getK deeds k = some ⟨false, true, false, true, some 140⟩) ∨
    (k = 4 ∧ getK deeds k = some ⟨false, true, true, true, some 141⟩) ∨ (k = 5 ∧ getK deeds k = some ⟨false, true, false, true, some 142⟩) ∨ (k = 6 ∧ getK deeds k = some ⟨false, true, false, false, some 143⟩) ∨ ((k < 1 ∨ 6 < k) ∧ getK deeds k = none) := by
  by_cases h1 : k = 1
  · subst h1; exact .inl ⟨rfl, rfl⟩
  by_cases h2 : k = 2
  · subst h2; exact .inr (.inl ⟨rfl, rfl⟩)
  by_cases h3 : k = 3
  · subst h3; exact .inr (.inr (.inl ⟨rfl, rfl⟩))
  by_cases h4 : k = 4
  · subst h4; exact .inr (.inr (.inr (.inl ⟨rfl, rfl⟩)))
  by_cases h5 : k = 5
  · subst h5; exact .inr (.inr (.inr (.inr (.inl ⟨rfl, rfl⟩))))
  by_cases h6 : k = 6
  · subst h6; exact .inr (.inr (.inr (.inr (.inr (.inl ⟨rfl, rfl⟩)))))
  refine .inr (.inr (.inr (.inr (.inr (.inr ⟨by omega, ?_⟩)))))
  have g : ∀ j : Int, k ≠ j → ((j == k) = false) := fun j h => by simpa using fun e => h e.symm
  show getK [(1, _), (2, _), (3, _), (4, _), (5, _), (6, _)] k = none
  simp [getK, g 1 h1, g 2 h2, g 3 h3, g 4 h4, g 5 h5, g 6 h6]
theorem F130_eq (f : Nat) (x : Int) : F130 f x = some (decide (0 ≤ x ∧ x ≤ 8)) := by unfold F130; simp only [F71_eq, Option.bind_some]
theorem F118_eq (f : Nat) (x : Int) : F118 f x = some (decide (0 ≤ x ∧ x ≤ 8)) := by unfold F118; simp only [F72_eq, Option.bind_some]
end Go.Proofs.Ytlmgjjmighajdaa
set_option linter.unusedSimpArgs false
set_option linter.unusedVariables false
namespace Go.Proofs.Ytlmgjjmighajdaa
open Go.Sl Go.Sx
theorem F56_has {f : Nat} {l : List Lot} (hl : l.length ≤ 40) (x : Int) (hf : 40 < f) : ∃ r, F56 f l x = some r ∧ (decide (r ≥ 0) = decide (Has l x)) ∧ (decide (r < 0) = !decide (Has l x)) := by
  rcases F56_eq (f := f) hl x hf with ⟨p, _, hh, e⟩ | ⟨hh, e⟩
  · exact ⟨p, e, by have : (p : Int) ≥ 0 := by omega
                    simp [this, hh], by have : ¬ (p : Int) < 0 := by omega
                                        simp [this, hh]⟩
  · exact ⟨-1, e, by simp [hh], by simp [hh]⟩
theorem bq (a b : Int) : (a == b) = decide (a = b) := by by_cases h : a = b <;> simp [h]
theorem bn (a b : Int) : (a != b) = !decide (a = b) := by by_cases h : a = b <;> simp [h]
theorem named_eq {f : Nat} {lots : List Lot} {holds : List (List (List Part))} (hl : LotsOk lots) (hf : 40 < f) (k l fr to m : Int) : F124 f lots holds k l fr to m = F79 f lots holds k l fr to m := by
  obtain ⟨p, e74, _⟩ := F74_eq (f := f) hl l hf
  obtain ⟨q, e56, eq0, eq1⟩ := F56_has (f := f) hl.1 l hf
  unfold F124
  rw [F125_eq]
  simp only [Option.bind_some]
  rcases deeds_at k with ⟨rfl, e⟩ | ⟨rfl, e⟩ | ⟨rfl, e⟩ | ⟨rfl, e⟩ | ⟨rfl, e⟩ | ⟨rfl, e⟩ | ⟨hk, e⟩
  all_goals
    simp only [hasK, lkK, e, Option.isSome_some, Option.getD_some, Option.isSome_none, Option.getD_none, zrow, F124_j1, F124_j2, F124_j3, F79, F79_j1, F79_j2, F79_j3, F79_j4, F79_j5, F79_j6, F79_j7, F71_eq, F72_eq, F130_eq, F118_eq, Option.bind_some, Bool.not_true, Bool.not_false, cond_true, cond_false, e74, e56, eq0, bq, bn]
  case inr.inr.inr.inr.inr.inr =>
    rcases hk with hk | hk
    · have h1 : decide (k < 1) = true := by simpa using hk
      simp [h1]
    · have h1 : decide (k < 1) = false := by simpa using (show 1 ≤ k by omega)
      have h2 : decide (k > 6) = true := by simpa using hk
      simp [h1, h2]
  all_goals
    by_cases a1 : l = 0 <;> by_cases a2 : fr = 0 <;> by_cases a3 : to = 0 <;> by_cases a4 : m = 0 <;> by_cases b1 : 0 ≤ fr ∧ fr ≤ 8 <;> by_cases b2 : 0 ≤ to ∧ to ≤ 8 <;> by_cases b3 : 1 ≤ m ∧ m ≤ 100000000 <;> by_cases b4 : fr = to <;>
    first
    | (exfalso; omega)
    | (simp [a1, a2, a3, a4, b1, b2, b3, b4]; done)
    | (simp [a1, a2, a3, a4, b1, b2, b3, b4]; cases decide (0 = to) <;> rfl)
theorem named_true {f : Nat} {lots : List Lot} (hl : LotsOk lots) (hf : 40 < f) {holds : List (List (List Part))} {k l fr to m : Int} (h : F79 f lots holds k l fr to m = some true) : (1 ≤ k ∧ k ≤ 6) ∧ (0 ≤ fr ∧ fr ≤ 8) ∧ (0 ≤ to ∧ to ≤ 8) ∧ (k ≠ 6 → 1 ≤ m ∧ m ≤ 100000000) ∧ (k = 6 → m = 0) := by
  obtain ⟨q, e56, eq0, eq1⟩ := F56_has (f := f) hl.1 l hf
  simp only [F79, F79_j1, F79_j2, F79_j3, F79_j4, F79_j5, F79_j6, F79_j7, F72_eq, F118_eq, Option.bind_some, e56, eq0, bq, bn] at h
  by_cases k1 : k < 1
  · simp [k1] at h
  by_cases k6 : k > 6
  · simp [k1, k6] at h
  refine ⟨by omega, ?_⟩
  by_cases h6 : k = 6
  · subst h6
    by_cases a1 : l = 0 <;> by_cases a3 : to = 0 <;> by_cases a4 : m = 0 <;> by_cases b1 : 0 ≤ fr ∧ fr ≤ 8 <;> simp [a1, a3, a4, b1] at h ⊢
  · by_cases b3 : 1 ≤ m ∧ m ≤ 100000000 <;> by_cases b1 : 0 ≤ fr ∧ fr ≤ 8 <;> by_cases b2 : 0 ≤ to ∧ to ≤ 8
    · exact ⟨b1, b2, fun _ => b3, fun h => absurd h h6⟩
    all_goals simp [k1, k6, h6, b1, b2, b3] at h
theorem named_some {f : Nat} {lots : List Lot} (hl : LotsOk lots) (hf : 40 < f) (holds : List (List (List Part))) (k l fr to m : Int) : ∃ b, F79 f lots holds k l fr to m = some b := by
  obtain ⟨q, e56, eq0, eq1⟩ := F56_has (f := f) hl.1 l hf
  simp only [F79, F79_j1, F79_j2, F79_j3, F79_j4, F79_j5, F79_j6, F79_j7, F72_eq, F118_eq, Option.bind_some, e56, eq0, bq, bn]
  have hc : ∀ (c : Bool) (x y : Option Bool), (∃ b, x = some b) → (∃ b, y = some b) → ∃ b, cond c x y = some b := fun c x y hx hy => by cases c; exact hy; exact hx
  repeat' (first | exact ⟨_, rfl⟩ | apply hc)
theorem check_eq {f : Nat} {lots : List Lot} {holds : List (List (List Part))} (hs : StockOk lots holds) (h9 : holds.length = 9) (hf : 40 < f) (k l fr to m : Int) :
    ∃ r, F78 f lots holds k l fr to m = some r ∧ (F22 f lots holds = some 0 → F24 f lots holds k l fr to m = some r) := by
  obtain ⟨b, eb⟩ := named_some (f := f) hs.lok hf holds k l fr to m
  unfold F78
  rw [named_eq hs.lok hf, eb, F125_eq]
  simp only [Option.bind_some]
  cases b with
  | false => exact ⟨61, by simp, fun h => by unfold F24; rw [h, eb]; simp⟩
  | true =>
    obtain ⟨hk, hfr, hto, hm, hm6⟩ := named_true hs.lok hf eb
    have hfr' : fr.toNat < holds.length := by omega
    have hto' : to.toNat < holds.length := by omega
    have efr : getI holds fr = some holds[fr.toNat] := by have := getI_nat hfr'; rwa [Int.toNat_of_nonneg hfr.1] at this
    have eto : getI holds to = some holds[to.toNat] := by have := getI_nat hto'; rwa [Int.toNat_of_nonneg hto.1] at this
    have gfr := hs.hok _ (List.getElem_mem hfr')
    have gto := hs.hok _ (List.getElem_mem hto')
    have sfr := F75_eq (f := f) gfr.len (fun x hx => (gfr.heaps x hx).ok) hf
    have sto := F75_eq (f := f) gto.len (fun x hx => (gto.heaps x hx).ok) hf
    have hs0 := (sumH_bound fun x hx => (gfr.heaps x hx).ok).1
    have hm7 : k = 6 → decide (m > sumH holds[fr.toNat]) = false := fun e => by rw [hm6 e]; simpa using hs0
    have hc : ∀ (c : Bool) (x y z u : Option Int), (∃ r, x = some r ∧ z = some r) → (∃ r, y = some r ∧ u = some r) → ∃ r, cond c x y = some r ∧ cond c z u = some r := fun c x y z u hx hy => by cases c; exact hy; exact hx
    suffices ∃ r, (F78_j1 f holds k fr to m (lkK deeds k zrow).lot (lkK deeds k zrow).frm (lkK deeds k zrow).to (lkK deeds k zrow).mass (lkK deeds k zrow).fn = some r) ∧
        (cond (k == 3) (F24_j1 f holds k fr to m true) (cond (k == 4) (F24_j1 f holds k fr to m true) (F24_j1 f holds k fr to m (k == 5))) = some r) by
      obtain ⟨r, h1, h2⟩ := this
      refine ⟨r, by simpa using h1, fun h => ?_⟩
      unfold F24
      rw [h, eb]
      simpa using h2
    rcases deeds_at k with ⟨rfl, e⟩ | ⟨rfl, e⟩ | ⟨rfl, e⟩ | ⟨rfl, e⟩ | ⟨rfl, e⟩ | ⟨rfl, e⟩ | ⟨hk, e⟩
    case inr.inr.inr.inr.inr.inr => omega
    all_goals
      simp only [lkK, e, Option.getD_some, F78_j1, F78_j2, F78_j3, F78_j4, F24_j1, F24_j2, F24_j3, F24_j4, F24_j5, efr, eto, F77_75, sfr, sto, Option.bind_some, cond_true, cond_false, bq, decide_true, Int.reduceEq, decide_false]
      try simp only [hm7 rfl, cond_false]
      repeat' (first | exact ⟨_, rfl, rfl⟩ | apply hc)
end Go.Proofs.Ytlmgjjmighajdaa
set_option linter.unusedSimpArgs false
set_option linter.unusedVariables false
namespace Go.Proofs.Ytlmgjjmighajdaa
open Go.Sl Go.Sx
section
variable {α : Type} (lt : α → α → Bool)
def insRev (x : α) : List α → List α
  | [] => [x]
  | y :: r => bif lt x y then y :: insRev x r else x :: y :: r
def sortRev (l : List α) : List α := l.foldl (fun r x => insRev lt x r) []
theorem insRev_perm (x : α) : ∀ r : List α, (insRev lt x r).Perm (x :: r)
  | [] => List.Perm.refl _
  | y :: r => by
    unfold insRev
    cases lt x y with
    | true => exact ((insRev_perm x r).cons y).trans (List.Perm.swap x y r)
    | false => exact List.Perm.refl _
theorem sortRev_perm_aux : ∀ (l r : List α), (l.foldl (fun r x => insRev lt x r) r).Perm (l ++ r)
  | [], r => List.Perm.refl _
  | x :: l, r => by
    refine (sortRev_perm_aux l (insRev lt x r)).trans ?_
    refine ((insRev_perm lt x r).append_left l).trans ?_
    exact List.perm_middle
theorem sortRev_perm (l : List α) : (sortRev lt l).Perm l := by
  have := sortRev_perm_aux lt l []
  rwa [List.append_nil] at this
end
theorem insRev_sorted {α : Type} {lt : α → α → Bool} {bf : α → α → Prop} (tr : ∀ a b c, bf a b → bf b c → bf a c) {x : α} : ∀ {r : List α}, r.Pairwise (fun a b => bf b a) → (∀ y ∈ r, lt x y = true → bf x y) → (∀ y ∈ r, lt x y = false → bf y x) →
    (insRev lt x r).Pairwise (fun a b => bf b a)
  | [], _, _, _ => List.pairwise_singleton _ _
  | y :: r, hp, h1, h2 => by
    have hp' := List.pairwise_cons.1 hp
    unfold insRev
    cases e : lt x y with
    | true =>
      simp only [cond_true]
      refine List.pairwise_cons.2 ⟨fun z hz => ?_, insRev_sorted tr hp'.2 (fun z hz => h1 z (List.mem_cons_of_mem _ hz)) (fun z hz => h2 z (List.mem_cons_of_mem _ hz))⟩
      rcases List.mem_cons.1 ((insRev_perm lt x r).mem_iff.1 hz) with rfl | hz
      · exact h1 y (by simp) e
      · exact hp'.1 z hz
    | false =>
      simp only [cond_false]
      refine List.pairwise_cons.2 ⟨fun z hz => ?_, hp⟩
      have hy := h2 y (by simp) e
      rcases List.mem_cons.1 hz with rfl | hz
      · exact hy
      · exact tr _ _ _ (hp'.1 z hz) hy
theorem take_iff {α : Type} [DecidableEq α] {bf : α → α → Prop} [DecidableRel bf] (irr : ∀ a, ¬ bf a a) (asy : ∀ a b, bf a b → ¬ bf b a) : ∀ {l : List α} {k : Nat} {x : α}, l.Pairwise bf → x ∈ l → (x ∈ l.take k ↔ l.countP (fun y => decide (bf y x)) < k)
  | [], k, x, _, hx => by cases hx
  | y :: l, 0, x, _, _ => by simp
  | y :: l, k + 1, x, hp, hx => by
    have hp' := List.pairwise_cons.1 hp
    by_cases e : x = y
    · subst e
      have hz : (x :: l).countP (fun z => decide (bf z x)) = 0 := by
        rw [List.countP_eq_zero]
        intro z hz
        simp only [decide_eq_true_eq]
        rcases List.mem_cons.1 hz with rfl | hz
        · exact irr _
        · exact asy _ _ (hp'.1 z hz)
      rw [hz]
      simp
    · have hxl : x ∈ l := by rcases List.mem_cons.1 hx with h | h; exact absurd h e; exact h
      have hb : bf y x := hp'.1 x hxl
      have ih := take_iff irr asy (k := k) hp'.2 hxl
      rw [List.take_succ_cons, List.mem_cons, List.countP_cons_of_pos (by simpa using hb)]
      constructor
      · rintro (h | h)
        · exact absurd h e
        · have := ih.1 h; omega
      · intro h
        exact .inr (ih.2 (by omega))
def rem_ (m s : Int) (a : List Int) (i : Int) : Int := (m * a.getD i.toNat 0) % s
def ahead (m s : Int) (a : List Int) (i j : Int) : Prop := rem_ m s a i > rem_ m s a j ∨ (rem_ m s a i = rem_ m s a j ∧ i < j)
instance (m s : Int) (a : List Int) : DecidableRel (ahead m s a) := fun i j => inferInstanceAs (Decidable (_ ∨ _))
theorem ahead_irr (m s : Int) (a : List Int) (i : Int) : ¬ ahead m s a i i := by unfold ahead; omega
theorem ahead_asy (m s : Int) (a : List Int) (i j : Int) (h : ahead m s a i j) : ¬ ahead m s a j i := by unfold ahead at *; omega
theorem ahead_tr (m s : Int) (a : List Int) (i j k : Int) (h : ahead m s a i j) (h' : ahead m s a j k) : ahead m s a i k := by unfold ahead at *; omega
def less (m s : Int) (a : List Int) (i j : Int) : Bool := decide (rem_ m s a i > rem_ m s a j)
def places (n : Nat) : List Int := (List.range n).map fun i : Nat => (i : Int)
def orderS (m s : Int) (a : List Int) : List Int := (sortRev (less m s a) (places a.length)).reverse
theorem sortRev_aux (m s : Int) (a : List Int) : ∀ (l r : List Int), (∀ y ∈ r, ∀ x ∈ l, y < x) → l.Pairwise (· < ·) → r.Pairwise (fun x y => ahead m s a y x) →
    (l.foldl (fun r x => insRev (less m s a) x r) r).Pairwise (fun x y => ahead m s a y x)
  | [], r, _, _, h => h
  | x :: l, r, h1, h2, h3 => by
    have h2' := List.pairwise_cons.1 h2
    refine sortRev_aux m s a l _ (fun y hy z hz => ?_) h2'.2 (insRev_sorted (ahead_tr m s a) h3 (fun y hy e => ?_) (fun y hy e => ?_))
    · rcases List.mem_cons.1 ((insRev_perm _ x r).mem_iff.1 hy) with rfl | hy
      · exact h2'.1 z hz
      · exact h1 y hy z (List.mem_cons_of_mem _ hz)
    · have := of_decide_eq_true e
      exact .inl this
    · have e' := of_decide_eq_false e
      have := h1 y hy x (by simp)
      unfold ahead
      omega
theorem places_rising (n : Nat) : (places n).Pairwise (· < ·) := by
  unfold places
  rw [List.pairwise_map]
  exact List.pairwise_lt_range.imp fun h => by omega
theorem mem_places {n : Nat} {x : Int} : x ∈ places n ↔ 0 ≤ x ∧ x < n := by
  unfold places
  simp only [List.mem_map, List.mem_range]
  constructor
  · rintro ⟨i, hi, rfl⟩; omega
  · rintro ⟨h1, h2⟩; exact ⟨x.toNat, by omega, by omega⟩
theorem orderS_sorted (m s : Int) (a : List Int) : (orderS m s a).Pairwise (ahead m s a) := by
  unfold orderS
  rw [List.pairwise_reverse]
  exact sortRev_aux m s a _ [] (fun y hy => by cases hy) (places_rising _) List.Pairwise.nil
theorem orderS_perm (m s : Int) (a : List Int) : (orderS m s a).Perm (places a.length) := (List.reverse_perm _).trans (sortRev_perm _ _)
def rank (m s : Int) (a : List Int) (i : Int) : Nat := (places a.length).countP fun j => decide (ahead m s a j i)
theorem first_iff (m s : Int) (a : List Int) {i : Int} (hi : i ∈ places a.length) (k : Nat) : i ∈ (orderS m s a).take k ↔ rank m s a i < k := by
  have hp := orderS_perm m s a
  rw [take_iff (ahead_irr m s a) (ahead_asy m s a) (orderS_sorted m s a) (hp.mem_iff.2 hi), hp.countP_eq]
  rfl
end Go.Proofs.Ytlmgjjmighajdaa
set_option linter.unusedSimpArgs false
set_option linter.unusedVariables false
namespace Go.Proofs.Ytlmgjjmighajdaa
open Go.Sl Go.Sx
theorem sum_nonneg : ∀ {a : List Int}, (∀ x ∈ a, 0 ≤ x) → 0 ≤ a.sum
  | [], _ => by simp
  | x :: a, h => by have := sum_nonneg (a := a) fun y hy => h y (List.mem_cons_of_mem _ hy); have := h x (by simp); simp only [List.sum_cons]; omega
theorem le_sum : ∀ {a : List Int}, (∀ x ∈ a, 0 ≤ x) → ∀ x ∈ a, x ≤ a.sum
  | [], _, x, hx => by cases hx
  | y :: a, h, x, hx => by
    have h0 := h y (by simp)
    have h1 := sum_nonneg (a := a) fun z hz => h z (List.mem_cons_of_mem _ hz)
    simp only [List.sum_cons]
    rcases List.mem_cons.1 hx with rfl | hx
    · omega
    · have := le_sum (a := a) (fun z hz => h z (List.mem_cons_of_mem _ hz)) x hx; omega
structure DealOk (m : Int) (a : List Int) : Prop where
  nn : ∀ x ∈ a, 0 ≤ x
  s0 : 0 < a.sum
  s1 : a.sum ≤ 100000000
  m0 : 0 ≤ m
  m1 : m ≤ 100000000
  len : a.length < 20
def baseS (m : Int) (a : List Int) (i : Nat) : Int := m * a.getD i 0 / a.sum
def baseL (m : Int) (a : List Int) : List Int := a.map fun x => m * x / a.sum
def leftS (m : Int) (a : List Int) : Int := m - (baseL m a).sum
def dealS (m : Int) (a : List Int) : List Int := (List.range a.length).map fun i => baseS m a i + (if rank m a.sum a (i : Int) < (leftS m a).toNat then 1 else 0)
theorem div_sum (m s : Int) (hs : s ≠ 0) : ∀ b : List Int, s * (b.map fun x => m * x / s).sum + (b.map fun x => m * x % s).sum = m * b.sum
  | [] => by simp
  | x :: b => by
    have ih := div_sum m s hs b
    have e := Int.mul_ediv_add_emod (m * x) s
    simp only [List.map_cons, List.sum_cons]
    grind
theorem rem_sum {m s : Int} (hs : 0 < s) : ∀ b : List Int, 0 ≤ (b.map fun x => m * x % s).sum ∧ (b.map fun x => m * x % s).sum ≤ (s - 1) * b.length
  | [] => by simp
  | x :: b => by
    have ih := rem_sum (m := m) hs b
    have h1 := Int.emod_nonneg (m * x) (show s ≠ 0 by omega)
    have h2 := Int.emod_lt_of_pos (m * x) hs
    simp only [List.map_cons, List.sum_cons, List.length_cons]
    have e : (s - 1) * ((b.length + 1 : Nat) : Int) = (s - 1) * b.length + (s - 1) := by push_cast; grind
    omega
theorem left_bounds {m : Int} {a : List Int} (h : DealOk m a) : 0 ≤ leftS m a ∧ leftS m a ≤ a.length ∧ a.sum * leftS m a = (a.map fun x => m * x % a.sum).sum := by
  have h1 := div_sum m a.sum (by have := h.s0; omega) a
  have h2 := rem_sum (m := m) h.s0 a
  have e : a.sum * leftS m a = (a.map fun x => m * x % a.sum).sum := by unfold leftS baseL; grind
  have hs := h.s0
  refine ⟨?_, ?_, e⟩
  · rcases Int.lt_or_le (leftS m a) 0 with hl | hl
    · have : a.sum * leftS m a < 0 := Int.mul_neg_of_pos_of_neg hs hl
      omega
    · exact hl
  · rcases Int.lt_or_le (a.length : Int) (leftS m a) with hl | hl
    · have h3 : a.sum * a.length < a.sum * leftS m a := Int.mul_lt_mul_of_pos_left hl hs
      have h4 : (a.sum - 1) * a.length ≤ a.sum * a.length := Int.mul_le_mul_of_nonneg_right (by omega) (by omega)
      omega
    · exact hl
theorem getD_mem {a : List Int} {i : Nat} (h : i < a.length) : a.getD i 0 = a[i] := by simp [h]
theorem base_bounds {m : Int} {a : List Int} (h : DealOk m a) {i : Nat} (hi : i < a.length) : 0 ≤ baseS m a i ∧ baseS m a i ≤ m := by
  have h0 := h.nn _ (List.getElem_mem hi)
  have h1 := le_sum h.nn _ (List.getElem_mem hi)
  unfold baseS
  rw [getD_mem hi]
  have hm := h.m0
  have hs := h.s0
  refine ⟨Int.ediv_nonneg (Int.mul_nonneg hm h0) (by omega), ?_⟩
  refine Int.ediv_le_of_le_mul hs ?_
  exact Int.mul_le_mul_of_nonneg_left h1 hm
theorem prod_bounds {m : Int} {a : List Int} (h : DealOk m a) {i : Nat} (hi : i < a.length) : 0 ≤ m * a[i] ∧ m * a[i] ≤ 10000000000000000 := by
  have h0 := h.nn _ (List.getElem_mem hi)
  have h1 := le_sum h.nn _ (List.getElem_mem hi)
  have := h.s1; have := h.m0; have := h.m1
  refine ⟨Int.mul_nonneg h.m0 h0, ?_⟩
  have : m * a[i] ≤ 100000000 * 100000000 := Int.mul_le_mul (by omega) (by omega) h0 (by omega)
  omega
theorem F123_eq (f : Nat) (x y : Int) : F123 f x y = some (if x < y then -1 else if x > y then 1 else 0) := by
  unfold F123 F137
  by_cases h1 : x < y <;> by_cases h2 : x > y <;> simp [h1, h2]
theorem nzS {n : Int} (h : n ≠ 0) : nz n = some () := by unfold nz; rw [if_pos h]
theorem tmod_eq {m : Int} {a : List Int} (h : DealOk m a) {i : Nat} (hi : i < a.length) : Int.tmod (w64 (m * a[i])) a.sum = rem_ m a.sum a (i : Int) := by
  have hp := prod_bounds h hi
  rw [w64_id (by omega) (by omega), Int.tmod_eq_emod_of_nonneg hp.1]
  unfold rem_
  have e : ((i : Int)).toNat = i := by omega
  rw [e, getD_mem hi]
theorem setI_mid {pre post : List Int} {x y : Int} {j : Int} (hj : j = pre.length) : setI (pre ++ x :: post) j y = some (pre ++ y :: post) := by
  subst hj
  unfold setI
  have h1 : (0 : Int) ≤ pre.length ∧ (pre.length : Int) < (pre ++ x :: post).length := by simp; omega
  rw [if_pos h1]
  simp
theorem getI_mid {pre post : List Int} {x : Int} {j : Int} (hj : j = pre.length) : getI (pre ++ x :: post) j = some x := by
  subst hj
  unfold getI
  rw [if_pos (by omega)]
  simp
def Good (n : Nat) (l : List Int) : Prop := ∀ x ∈ l, 0 ≤ x ∧ x < n
theorem F127_l7_eq {f : Nat} {k4 : List Int → Int → Option (List Int)} {m : Int} {a : List Int} (h : DealOk m a) (i : Int) (x : Int) : ∀ n (r tl : List Int), Good a.length (x :: r) → r.length < n → r.length < 100 →
    F127_l7 f k4 m a a.sum 0 i n (r.reverse ++ x :: tl) (r.length : Int) = k4 ((insRev (less m a.sum a) x r).reverse ++ tl) (w64 (i + 1))
  | 0, r, tl, _, hn, _ => by omega
  | n + 1, [], tl, hg, hn, hl => by simp [F127_l7, F127_j3, insRev]
  | n + 1, y :: r, tl, hg, hn, hl => by
    have hx := hg x (by simp)
    have hy := hg y (by simp)
    have hxl : x.toNat < a.length := by omega
    have hyl : y.toNat < a.length := by omega
    have ex : getI a x = some a[x.toNat] := by have := getI_nat hxl; rwa [Int.toNat_of_nonneg hx.1] at this
    have ey : getI a y = some a[y.toNat] := by have := getI_nat hyl; rwa [Int.toNat_of_nonneg hy.1] at this
    have hs : a.sum ≠ 0 := by have := h.s0; omega
    have hpos : decide (((y :: r).length : Int) > 0) = true := by simp
    have hlen : (((y :: r).length : Nat) : Int) = (r.reverse ++ [y]).length := by simp
    have hpred : w64 (((y :: r).length : Int) - 1) = (r.reverse.length : Nat) := by rw [pred_w (by omega) (by simp)]; simp
    have e0 : (y :: r).reverse ++ x :: tl = (r.reverse ++ [y]) ++ x :: tl := by simp
    have e1 : (y :: r).reverse ++ x :: tl = r.reverse ++ y :: (x :: tl) := by simp
    have g1 : getI ((y :: r).reverse ++ x :: tl) ((y :: r).length : Int) = some x := by rw [e0]; exact getI_mid hlen
    have g2 : getI ((y :: r).reverse ++ x :: tl) (w64 (((y :: r).length : Int) - 1)) = some y := by rw [e1]; exact getI_mid hpred
    have t1 := tmod_eq h hxl
    have t2 := tmod_eq h hyl
    rw [Int.toNat_of_nonneg hx.1] at t1
    rw [Int.toNat_of_nonneg hy.1] at t2
    simp only [F127_l7, hpos, cond_true, g1, g2, Option.bind_some, ex, ey, nzS hs, t1, t2, F123_eq, F127_j3]
    by_cases hl2 : rem_ m a.sum a y < rem_ m a.sum a x
    · have hc : decide ((if rem_ m a.sum a y < rem_ m a.sum a x then (-1 : Int) else if rem_ m a.sum a y > rem_ m a.sum a x then 1 else 0) < 0) = true := by rw [if_pos hl2]; rfl
      have hless : less m a.sum a x y = true := by unfold less; simpa using hl2
      have s1 : setI ((y :: r).reverse ++ x :: tl) ((y :: r).length : Int) y = some ((r.reverse ++ [y]) ++ y :: tl) := by rw [e0]; exact setI_mid hlen
      have e2 : (r.reverse ++ [y]) ++ y :: tl = r.reverse ++ y :: (y :: tl) := by simp
      have g3 : getI ((r.reverse ++ [y]) ++ y :: tl) (w64 (((y :: r).length : Int) - 1)) = some y := by rw [e2]; exact getI_mid hpred
      have s2 : setI ((r.reverse ++ [y]) ++ y :: tl) (w64 (((y :: r).length : Int) - 1)) x = some (r.reverse ++ x :: (y :: tl)) := by rw [e2]; exact setI_mid hpred
      rw [hc]
      simp only [cond_true, s1, Option.bind_some, g3, s2]
      have ih := F127_l7_eq (f := f) (k4 := k4) h i x n r (y :: tl) (fun z hz => hg z (by rcases List.mem_cons.1 hz with e | e; simp [e]; simp [e])) (by simp at hn; omega) (by simp at hl; omega)
      have e3 : ((r.reverse.length : Nat) : Int) = (r.length : Int) := by simp
      rw [hpred, e3, ih]
      simp [insRev, hless]
    · have hc : decide ((if rem_ m a.sum a y < rem_ m a.sum a x then (-1 : Int) else if rem_ m a.sum a y > rem_ m a.sum a x then 1 else 0) < 0) = false := by rw [if_neg hl2]; split <;> rfl
      have hless : less m a.sum a x y = false := by unfold less; simpa using hl2
      rw [hc]
      simp [insRev, hless]
theorem insRev_len {α : Type} (lt : α → α → Bool) (x : α) (r : List α) : (insRev lt x r).length = r.length + 1 := by rw [(insRev_perm lt x r).length_eq]; rfl
theorem F127_l6_eq {f : Nat} {m : Int} {a : List Int} (h : DealOk m a) (hf : 100 < f) (y17 y13 : List Int) (y18 : Int) (hy : y13.length = a.length) : ∀ n (r tl : List Int), Good a.length (r ++ tl) → r.length + tl.length = a.length → tl.length < n →
    F127_l6 f m a a.sum y17 y13 y18 0 n (r.reverse ++ tl) (r.length : Int) = F127_l8 f y17 y13 y18 ((tl.foldl (fun r x => insRev (less m a.sum a) x r) r).reverse) f 20
  | 0, r, tl, _, _, hn => by omega
  | n + 1, r, [], hg, hl, hn => by
    have hlt : decide ((r.length : Int) < (y13.length : Int)) = false := by simpa using (show (y13.length : Int) ≤ r.length by simp at hl; omega)
    simp only [F127_l6, hlt, cond_false, List.append_nil, List.foldl_nil]
  | n + 1, r, x :: tl, hg, hl, hn => by
    have hlen := h.len
    have hlt : decide ((r.length : Int) < (y13.length : Int)) = true := by simpa using (show (r.length : Int) < y13.length by simp at hl; omega)
    simp only [F127_l6, hlt, cond_true]
    rw [F127_l7_eq (f := f) h (r.length : Int) x f r tl (fun z hz => hg z (by rcases List.mem_cons.1 hz with e | e; simp [e]; simp [e])) (by simp at hl; omega) (by simp at hl; omega)]
    have e : w64 ((r.length : Int) + 1) = ((insRev (less m a.sum a) x r).length : Int) := by rw [succ_w (by simp at hl; omega), insRev_len]
    rw [e, F127_l6_eq h hf y17 y13 y18 hy n (insRev (less m a.sum a) x r) tl (fun z hz => hg z (by
      rcases List.mem_append.1 hz with hz | hz
      · rcases List.mem_cons.1 ((insRev_perm _ x r).mem_iff.1 hz) with e | e
        · simp [e]
        · simp [e]
      · simp [hz])) (by rw [insRev_len]; simp at hl; omega) (by simp at hn; omega)]
    rfl
theorem good_places (n : Nat) : Good n (places n) := fun x hx => mem_places.1 hx
theorem sorted_places {f : Nat} {m : Int} {a : List Int} (h : DealOk m a) (hf : 100 < f) (y17 : List Int) (y18 : Int) :
    F127_l3 f m a a.sum y17 (places a.length) y18 f (places a.length) 0 20 = F127_l8 f y17 (places a.length) y18 (orderS m a.sum a) f 20 := by
  have hlen := h.len
  obtain ⟨n, rfl⟩ : ∃ n, f = n + 1 := ⟨f - 1, by omega⟩
  have hpl : (places a.length).length = a.length := by simp [places]
  have h20 : decide ((20 : Int) ≤ ((places a.length).length : Int)) = false := by rw [hpl]; simpa using (show (a.length : Int) < 20 by omega)
  simp only [F127_l3, h20, cond_false]
  have e1 : w64 ((0 : Int) + 1) = 1 := rfl
  rw [e1]
  rcases hp : places a.length with _ | ⟨x, tl⟩
  · -- no numbers at all
    have : a.length = 0 := by rw [← hpl, hp]; rfl
    have : a = [] := List.eq_nil_of_length_eq_zero this
    have := h.s0
    simp_all
  · have hg : Good a.length (x :: tl) := hp ▸ good_places a.length
    have hl2 : tl.length + 1 = a.length := by rw [← hpl, hp]; rfl
    have := F127_l6_eq (f := n + 1) h hf y17 (x :: tl) y18 (by simpa using hl2) (n + 1) [x] tl (by simpa using hg) (by simp; omega) (by omega)
    simp only [List.reverse_cons, List.reverse_nil, List.nil_append, List.length_cons, List.length_nil, List.singleton_append] at this
    have e2 : ((0 + 1 : Nat) : Int) = 1 := rfl
    rw [e2] at this
    rw [this]
    unfold orderS sortRev
    rw [hp]
    rfl
end Go.Proofs.Ytlmgjjmighajdaa
set_option linter.unusedSimpArgs false
set_option linter.unusedVariables false
namespace Go.Proofs.Ytlmgjjmighajdaa
open Go.Sl Go.Sx
theorem baseL_len (m : Int) (a : List Int) : (baseL m a).length = a.length := by simp [baseL]
theorem places_len (n : Nat) : (places n).length = n := by simp [places]
theorem baseL_at {m : Int} {a : List Int} {i : Nat} (h : i < a.length) : (baseL m a)[i]'(by rw [baseL_len]; exact h) = baseS m a i := by
  unfold baseL baseS
  rw [List.getElem_map, getD_mem h]
theorem places_at {n i : Nat} (h : i < n) : (places n)[i]'(by rw [places_len]; exact h) = (i : Int) := by simp [places]
theorem sum_take_bound {m : Int} (hm : 0 ≤ m) : ∀ {l : List Int}, (∀ x ∈ l, 0 ≤ x ∧ x ≤ m) → 0 ≤ l.sum ∧ l.sum ≤ m * l.length
  | [], _ => by simp
  | x :: l, h => by
    have ih := sum_take_bound hm (l := l) fun y hy => h y (List.mem_cons_of_mem _ hy)
    have hx := h x (by simp)
    simp only [List.sum_cons, List.length_cons]
    have e : m * ((l.length + 1 : Nat) : Int) = m * l.length + m := by push_cast; grind
    omega
theorem base_mem {m : Int} {a : List Int} (h : DealOk m a) : ∀ x ∈ baseL m a, 0 ≤ x ∧ x ≤ m := fun x hx => by
  obtain ⟨i, hi, rfl⟩ := List.getElem_of_mem hx
  rw [baseL_len] at hi
  rw [baseL_at hi]
  exact base_bounds h hi
theorem F127_l2_eq {f : Nat} {m : Int} {a : List Int} (h : DealOk m a) : ∀ k i n, i + k = a.length → k < n →
    F127_l2 f m a a.sum n ((baseL m a).take i ++ List.replicate k 0) ((places a.length).take i ++ List.replicate k 0) (m - ((baseL m a).take i).sum) (i : Int) = F127_l3 f m a a.sum (baseL m a) (places a.length) (leftS m a) f (places a.length) 0 20
  | _, _, 0, _, hn => by omega
  | 0, i, n + 1, hi, _ => by
    have hlt : decide ((i : Int) < (a.length : Int)) = false := by simpa using (show (a.length : Int) ≤ i by omega)
    simp only [F127_l2, hlt, cond_false, List.replicate_zero, List.append_nil]
    rw [List.take_of_length_le (by rw [baseL_len]; omega), List.take_of_length_le (by rw [places_len]; omega)]
    rfl
  | k + 1, i, n + 1, hi, hn => by
    have hia : i < a.length := by omega
    have hb := base_bounds h hia
    have hp := prod_bounds h hia
    have hlen := h.len
    have hs : a.sum ≠ 0 := by have := h.s0; omega
    have hm1 := h.m1
    have hm0 := h.m0
    have l1 : ((baseL m a).take i).length = i := by rw [List.length_take, baseL_len]; omega
    have l2 : ((places a.length).take i).length = i := by rw [List.length_take, places_len]; omega
    have eb : w64 (Int.tdiv (w64 (m * a[i])) a.sum) = baseS m a i := by
      have e3 : w64 (m * a[i]) = m * a[i] := w64_id (by omega) (by omega)
      rw [e3, Int.tdiv_eq_ediv_of_nonneg hp.1]
      have e2 : m * a[i] / a.sum = baseS m a i := by unfold baseS; rw [getD_mem hia]
      rw [e2, w64_id (by omega) (by omega)]
    have hsum := sum_take_bound h.m0 (l := (baseL m a).take i) fun x hx => base_mem h x (List.mem_of_mem_take hx)
    rw [l1] at hsum
    have hmi : m * (i : Int) ≤ 100000000 * 20 := Int.mul_le_mul hm1 (by omega) (by omega) (by omega)
    have s1 : setI ((baseL m a).take i ++ 0 :: List.replicate k 0) (i : Int) (baseS m a i) = some ((baseL m a).take i ++ baseS m a i :: List.replicate k 0) := setI_mid (by rw [l1])
    have s2 : setI ((places a.length).take i ++ 0 :: List.replicate k 0) (i : Int) (i : Int) = some ((places a.length).take i ++ (i : Int) :: List.replicate k 0) := setI_mid (by rw [l2])
    have g1 : getI ((baseL m a).take i ++ 0 :: List.replicate k 0) (i : Int) = some 0 := getI_mid (by rw [l1])
    have g2 : getI ((places a.length).take i ++ 0 :: List.replicate k 0) (i : Int) = some 0 := getI_mid (by rw [l2])
    have g3 : getI ((baseL m a).take i ++ baseS m a i :: List.replicate k 0) (i : Int) = some (baseS m a i) := getI_mid (by rw [l1])
    have t1 : (baseL m a).take (i + 1) = (baseL m a).take i ++ [baseS m a i] := by
      rw [List.take_succ_eq_append_getElem (by rw [baseL_len]; exact hia), baseL_at hia]
    have t2 : (places a.length).take (i + 1) = (places a.length).take i ++ [(i : Int)] := by
      rw [List.take_succ_eq_append_getElem (by rw [places_len]; exact hia), places_at hia]
    simp only [F127_l2, lt_len, hia, decide_true, cond_true, getI_nat hia, Option.bind_some, nzS hs, List.replicate_succ, g1, eb, s1, g2, s2, g3]
    have ih := F127_l2_eq (f := f) h k (i + 1) n (by omega) (by omega)
    rw [t1, t2, sum_app] at ih
    simp only [List.append_assoc, List.singleton_append, List.sum_cons, List.sum_nil, Int.add_zero] at ih
    rw [succ_w (by omega), w64_id (by omega) (by omega)]
    have e : m - ((baseL m a).take i).sum - baseS m a i = m - (((baseL m a).take i).sum + baseS m a i) := by omega
    rw [e]
    exact ih
def outS (m : Int) (a D : List Int) : List Int := (List.range a.length).map fun i : Nat => baseS m a i + (if (i : Int) ∈ D then 1 else 0)
theorem outS_len (m : Int) (a D : List Int) : (outS m a D).length = a.length := by simp [outS]
theorem outS_at {m : Int} {a D : List Int} {i : Nat} (h : i < a.length) : (outS m a D)[i]'(by rw [outS_len]; exact h) = baseS m a i + (if (i : Int) ∈ D then 1 else 0) := by simp [outS]
theorem outS_nil (m : Int) (a : List Int) : outS m a [] = baseL m a := by
  refine List.ext_getElem (by rw [outS_len, baseL_len]) fun i h1 h2 => ?_
  rw [outS_len] at h1
  rw [outS_at h1, baseL_at h1]
  simp
theorem outS_set {m : Int} {a D : List Int} {p : Int} (hp : p ∈ places a.length) (hD : p ∉ D) : getI (outS m a D) p = some (baseS m a p.toNat) ∧ setI (outS m a D) p (baseS m a p.toNat + 1) = some (outS m a (D ++ [p])) := by
  have hb := mem_places.1 hp
  have hi : p.toNat < a.length := by omega
  have hpn : ((p.toNat : Nat) : Int) = p := Int.toNat_of_nonneg hb.1
  constructor
  · have := getI_nat (xs := outS m a D) (i := p.toNat) (by rw [outS_len]; exact hi)
    rw [hpn] at this
    rw [this, outS_at hi, hpn, if_neg hD, Int.add_zero]
  · unfold setI
    rw [if_pos ⟨hb.1, by rw [outS_len]; exact hb.2⟩]
    congr 1
    refine List.ext_getElem (by simp [outS]) fun i h1 h2 => ?_
    rw [outS_len] at h2
    rw [outS_at h2]
    by_cases e : p.toNat = i
    · subst e
      rw [List.getElem_set_self, hpn]
      simp
    · rw [List.getElem_set_ne e, outS_at h2]
      have : (i : Int) ≠ p := fun k => e (by omega)
      simp [this]
theorem F127_l10_eq {m : Int} {a d5 : List Int} (h : DealOk m a) (hd : ∀ x ∈ d5, x ∈ places a.length) (hn : d5.Nodup) (hl : d5.length ≤ 20) : ∀ n j, j ≤ d5.length → d5.length - j < n → F127_l10 d5 n (outS m a (d5.take j)) (j : Int) = some (outS m a d5)
  | 0, j, _, hn => by omega
  | n + 1, j, hj, hn' => by
    rcases Nat.lt_or_ge j d5.length with hlt | hge
    · have hp := hd _ (List.getElem_mem hlt)
      have hnot : d5[j] ∉ d5.take j := fun hm => by
        obtain ⟨i, hi, e⟩ := List.getElem_of_mem hm
        rw [List.getElem_take] at e
        rw [List.length_take] at hi
        have := (List.getElem_inj hn).1 e
        omega
      obtain ⟨g, st⟩ := outS_set (m := m) (D := d5.take j) hp hnot
      have hb := mem_places.1 hp
      have hbb := base_bounds h (i := d5[j].toNat) (by omega)
      have hm1 := h.m1
      simp only [F127_l10, lt_len, hlt, decide_true, cond_true, getI_nat hlt, Option.bind_some, g]
      rw [w64_id (n := baseS m a d5[j].toNat + 1) (by omega) (by omega), st]
      simp only [Option.bind_some]
      rw [succ_w (by omega), ← List.take_succ_eq_append_getElem hlt]
      exact F127_l10_eq h hd hn hl n (j + 1) (by omega) (by omega)
    · have : j = d5.length := by omega
      subst this
      simp [F127_l10]
theorem orderS_len (m s : Int) (a : List Int) : (orderS m s a).length = a.length := by rw [(orderS_perm m s a).length_eq, places_len]
theorem outS_deal (m : Int) (a : List Int) : outS m a ((orderS m a.sum a).take (leftS m a).toNat) = dealS m a := by
  refine List.ext_getElem (by simp [outS, dealS]) fun i h1 h2 => ?_
  rw [outS_len] at h1
  have e2 : (dealS m a)[i] = baseS m a i + (if rank m a.sum a (i : Int) < (leftS m a).toNat then 1 else 0) := by simp [dealS]
  rw [outS_at h1, e2]
  congr 1
  have hp : (i : Int) ∈ places a.length := mem_places.2 ⟨by omega, by omega⟩
  have := first_iff m a.sum a hp (leftS m a).toNat
  by_cases hr : rank m a.sum a (i : Int) < (leftS m a).toNat
  · rw [if_pos (this.2 hr), if_pos hr]
  · rw [if_neg fun k => hr (this.1 k), if_neg hr]
theorem F127_l1_eq {f : Nat} {m : Int} {a : List Int} (hnn : ∀ x ∈ a, 0 ≤ x) (hs : a.sum ≤ 100000000) (hl : a.length < 20) : ∀ n i, i ≤ a.length → a.length - i < n → F127_l1 f m a n (a.take i).sum (i : Int) = F127_j1 f m a a.sum (List.replicate a.length 0)
  | 0, i, _, hn => by omega
  | n + 1, i, hi, hn => by
    rcases Nat.lt_or_ge i a.length with hlt | hge
    · have e : (a.take (i + 1)).sum = (a.take i).sum + a[i] := by rw [List.take_succ_eq_append_getElem hlt, sum_app]; simp
      have b1 := sum_nonneg (a := a.take (i + 1)) fun x hx => hnn x (List.mem_of_mem_take hx)
      have b2 : a.sum = (a.take (i + 1)).sum + (a.drop (i + 1)).sum := by rw [← sum_app, List.take_append_drop]
      have b3 := sum_nonneg (a := a.drop (i + 1)) fun x hx => hnn x (List.mem_of_mem_drop hx)
      simp only [F127_l1, lt_len, hlt, decide_true, cond_true, getI_nat hlt, Option.bind_some]
      rw [succ_w (by omega), ← e, w64_id (by omega) (by omega)]
      exact F127_l1_eq hnn hs hl n (i + 1) (by omega) (by omega)
    · have : i = a.length := by omega
      subst this
      have hmk : mkC (a.length : Int) (0 : Int) = some (List.replicate a.length 0) := by unfold mkC; rw [if_pos (by omega)]; simp
      simp [F127_l1, hmk]
theorem F127_eq {f : Nat} {m : Int} {a : List Int} (h : DealOk m a) (hf : 100 < f) : F127 f m a = some (dealS m a) := by
  have hlen := h.len
  unfold F127
  have e1 := F127_l1_eq (f := f) (m := m) h.nn h.s1 h.len f 0 (by omega) (by omega)
  simp only [List.take_zero, List.sum_nil] at e1
  have e0 : ((0 : Nat) : Int) = 0 := rfl
  rw [e0] at e1
  rw [e1]
  unfold F127_j1
  have hs : (a.sum == 0) = false := by simpa using (show ¬ a.sum = 0 by have := h.s0; omega)
  rw [hs, cond_false]
  have e2 := F127_l2_eq (f := f) h a.length 0 f (by omega) (by omega)
  simp only [List.take_zero, List.sum_nil, List.nil_append, Int.sub_zero] at e2
  rw [e0] at e2
  rw [e2, sorted_places h hf]
  obtain ⟨hb0, hb1, _⟩ := left_bounds h
  have hpl : (places a.length).length = a.length := places_len _
  obtain ⟨n, rfl⟩ : ∃ n, f = n + 1 := ⟨f - 1, by omega⟩
  have h20 : decide ((20 : Int) < ((places a.length).length : Int)) = false := by rw [hpl]; simpa using (show (a.length : Int) ≤ 20 by omega)
  simp only [F127_l8, h20, cond_false]
  have hsub : subI (orderS m a.sum a) 0 (leftS m a) = some ((orderS m a.sum a).take (leftS m a).toNat) := by
    unfold subI
    rw [if_pos ⟨by omega, hb0, by rw [orderS_len]; exact hb1⟩]
    simp
  rw [hsub]
  simp only [Option.bind_some]
  have hperm := orderS_perm m a.sum a
  have hnod : (orderS m a.sum a).Nodup := hperm.nodup_iff.2 ((places_rising _).imp fun h => by omega)
  have e3 := F127_l10_eq h (d5 := (orderS m a.sum a).take (leftS m a).toNat) (fun x hx => hperm.mem_iff.1 (List.mem_of_mem_take hx)) (hnod.sublist (List.take_sublist _ _)) (by rw [List.length_take, orderS_len]; omega) (n + 1) 0 (by omega) (by rw [List.length_take, orderS_len]; omega)
  rw [List.take_zero, outS_nil] at e3
  rw [e0] at e3
  rw [e3, outS_deal]
end Go.Proofs.Ytlmgjjmighajdaa
set_option linter.unusedSimpArgs false
set_option linter.unusedVariables false
namespace Go.Proofs.Ytlmgjjmighajdaa
open Go.Sl Go.Sx
def mergeP : List Part → List Part → List Part
  | [], b => b
  | p :: a, [] => p :: a
  | p :: a, q :: b => if p.lot < q.lot then p :: mergeP a (q :: b) else if q.lot < p.lot then q :: mergeP (p :: a) b else ⟨p.lot, p.mass + q.mass⟩ :: mergeP a b
termination_by a b => a.length + b.length
theorem merge_nil (a : List Part) : mergeP a [] = a := by cases a <;> simp [mergeP]
theorem nil_merge (a : List Part) : mergeP [] a = a := by simp [mergeP]
theorem merge_lt {p q : Part} {a b : List Part} (h : p.lot < q.lot) : mergeP (p :: a) (q :: b) = p :: mergeP a (q :: b) := by simp [mergeP, h]
theorem merge_gt {p q : Part} {a b : List Part} (h : q.lot < p.lot) : mergeP (p :: a) (q :: b) = q :: mergeP (p :: a) b := by
  have h1 : ¬ p.lot < q.lot := by omega
  simp [mergeP, h, h1]
theorem merge_eq {p q : Part} {a b : List Part} (h : p.lot = q.lot) : mergeP (p :: a) (q :: b) = ⟨p.lot, p.mass + q.mass⟩ :: mergeP a b := by
  have h1 : ¬ p.lot < q.lot := by omega
  have h2 : ¬ q.lot < p.lot := by omega
  simp [mergeP, h1, h2]
theorem drop_cons {α : Type} {l : List α} {i : Nat} (h : i < l.length) : l.drop i = l[i] :: l.drop (i + 1) := List.drop_eq_getElem_cons h
theorem F80_loop {a b : List Part} (ha : HeapOk a) (hb : HeapOk b) : ∀ n (out : List Part) i k, i ≤ a.length → k ≤ b.length → (a.length - i) + (b.length - k) < n → out.length + (a.length - i) + (b.length - k) ≤ 100 →
    F80_l1 a b n out (i : Int) (k : Int) = some (out ++ mergeP (a.drop i) (b.drop k))
  | 0, out, i, k, _, _, hn, _ => by omega
  | n + 1, out, i, k, hi, hk, hn, ho => by
    have la := ha.1
    have lb := hb.1
    have app : ∀ x : Part, appC out [x] = some (out ++ [x]) := fun x => by unfold appC; rw [if_pos (by simp only [List.length_cons, List.length_nil]; omega)]
    have eqk : ∀ {x y : Nat}, ((x : Int) == (y : Int)) = decide (x = y) := fun {x y} => by
      by_cases h : x = y
      · simp [h]
      · have : ¬ (x : Int) = y := by omega
        simp [h, this]
    simp only [F80_l1, F80_j1, F80_j2, F80_j3, lt_len, eqk]
    rcases Nat.lt_or_ge i a.length with hia | hia
    · have h1 : a.drop i = a[i] :: a.drop (i + 1) := drop_cons hia
      have pa := ha.2.1 _ (List.getElem_mem hia)
      rcases Nat.lt_or_ge k b.length with hkb | hkb
      · have h2 : b.drop k = b[k] :: b.drop (k + 1) := drop_cons hkb
        have pb := hb.2.1 _ (List.getElem_mem hkb)
        have n1 : ¬ k = b.length := by omega
        have n2 : ¬ i = a.length := by omega
        simp only [hia, hkb, n1, n2, decide_true, decide_false, cond_true, cond_false, getI_nat hia, getI_nat hkb, Option.bind_some, app, succ_w (i := i) (by omega), succ_w (i := k) (by omega)]
        rcases Int.lt_trichotomy a[i].lot b[k].lot with e | e | e
        · have e' : ¬ b[k].lot < a[i].lot := by omega
          simp only [e, e', decide_true, decide_false, cond_true, cond_false]
          rw [F80_loop ha hb n (out ++ [a[i]]) (i + 1) k (by omega) hk (by omega) (by simp only [List.length_append, List.length_cons, List.length_nil]; omega), h1, h2, merge_lt e, ← h2, List.append_assoc]
          rfl
        · have e1 : ¬ a[i].lot < b[k].lot := by omega
          have e2 : ¬ b[k].lot < a[i].lot := by omega
          have := pa.m0; have := pa.m1; have := pb.m0; have := pb.m1
          simp only [e1, e2, decide_true, decide_false, cond_true, cond_false, w64_id (n := a[i].mass + b[k].mass) (by omega) (by omega)]
          rw [F80_loop ha hb n (out ++ [(⟨a[i].lot, a[i].mass + b[k].mass⟩ : Part)]) (i + 1) (k + 1) (by omega) (by omega) (by omega) (by simp only [List.length_append, List.length_cons, List.length_nil]; omega), h1, h2, merge_eq e, List.append_assoc]
          rfl
        · have e1 : ¬ a[i].lot < b[k].lot := by omega
          simp only [e, e1, decide_true, decide_false, cond_true, cond_false]
          rw [F80_loop ha hb n (out ++ [b[k]]) i (k + 1) hi (by omega) (by omega) (by simp only [List.length_append, List.length_cons, List.length_nil]; omega), h1, h2, merge_gt e, ← h1, List.append_assoc]
          rfl
      · have n1 : k = b.length := by omega
        simp only [hia, n1, decide_true, cond_true, getI_nat hia, Option.bind_some, app, succ_w (i := i) (by omega)]
        have := F80_loop ha hb n (out ++ [a[i]]) (i + 1) k (by omega) hk (by omega) (by simp only [List.length_append, List.length_cons, List.length_nil]; omega)
        rw [n1] at this
        rw [this, h1, List.drop_length, merge_nil, merge_nil, List.append_assoc]
        rfl
    · have n2 : i = a.length := by omega
      have n2' : ¬ i < a.length := by omega
      rcases Nat.lt_or_ge k b.length with hkb | hkb
      · have h2 : b.drop k = b[k] :: b.drop (k + 1) := drop_cons hkb
        have n1 : ¬ k = b.length := by omega
        simp only [n2', hkb, n1, decide_true, decide_false, cond_true, cond_false, n2, getI_nat hkb, Option.bind_some, app, succ_w (i := k) (by omega), Nat.lt_irrefl]
        have := F80_loop ha hb n (out ++ [b[k]]) i (k + 1) hi (by omega) (by omega) (by simp only [List.length_append, List.length_cons, List.length_nil]; omega)
        rw [n2] at this
        rw [this, h2, List.drop_length, nil_merge, nil_merge, List.append_assoc]
        rfl
      · have n1 : k = b.length := by omega
        simp [n1, n2, nil_merge]
theorem F80_eq {f : Nat} {a b : List Part} (ha : HeapOk a) (hb : HeapOk b) (hf : 90 < f) : F80 f a b = some (mergeP a b) := by
  have := F80_loop ha hb f [] 0 0 (by omega) (by omega) (by have := ha.1; have := hb.1; omega) (by have := ha.1; have := hb.1; simp; omega)
  simpa [F80] using this
end Go.Proofs.Ytlmgjjmighajdaa
set_option linter.unusedSimpArgs false
set_option linter.unusedVariables false
namespace Go.Proofs.Ytlmgjjmighajdaa
open Go.Sl Go.Sx
def takenL : List Part → List Int → List Part
  | p :: h, n :: d => (if n > 0 then [⟨p.lot, n⟩] else []) ++ takenL h d
  | _, _ => []
def leftL : List Part → List Int → List Part
  | p :: h, n :: d => (if n < p.mass then [⟨p.lot, p.mass - n⟩] else []) ++ leftL h d
  | _, _ => []
def massesL (h : List Part) : List Int := h.map (·.mass)
def dealH (m : Int) (h : List Part) : List Int := if h = [] then [] else dealS m (massesL h)
theorem dealS_len (m : Int) (a : List Int) : (dealS m a).length = a.length := by simp [dealS]
theorem dealH_len (m : Int) (h : List Part) : (dealH m h).length = h.length := by
  unfold dealH
  split
  · rename_i e; rw [e]; rfl
  · rw [dealS_len]; simp [massesL]
theorem sum_masses (h : List Part) : (massesL h).sum = sumM h := rfl
theorem heap_pos {h : List Part} (hk : HeapOk h) (hne : h ≠ []) : 0 < sumM h := by
  cases h with
  | nil => exact absurd rfl hne
  | cons p h =>
    have hp := (hk.2.1 p (by simp)).m0
    have := (sumM_bound (l := h) fun q hq => hk.2.1 q (List.mem_cons_of_mem _ hq)).1
    simp only [sumM, List.map_cons, List.sum_cons] at this ⊢
    omega
theorem dealOk_heap {h : List Part} {m : Int} (hk : HeapOk h) (hne : h ≠ []) (hm0 : 0 ≤ m) (hm : m ≤ sumM h) (hl : h.length < 20) : DealOk m (massesL h) where
  nn x hx := by obtain ⟨p, hp, rfl⟩ := List.mem_map.1 hx; have := (hk.2.1 p hp).m0; omega
  s0 := by rw [sum_masses]; exact heap_pos hk hne
  s1 := by rw [sum_masses]; exact hk.2.2.2
  m0 := hm0
  m1 := by have := hk.2.2.2; omega
  len := by simpa [massesL] using hl
theorem F127_nil (f : Nat) (hf : 0 < f) (m : Int) : F127 f m [] = some [] := by
  obtain ⟨n, rfl⟩ : ∃ n, f = n + 1 := ⟨f - 1, by omega⟩
  simp [F127, F127_l1, F127_j1, mkC]
theorem F127_heap {f : Nat} {h : List Part} {m : Int} (hk : HeapOk h) (hm0 : 0 ≤ m) (hm : m ≤ sumM h) (hl : h.length < 20) (hf : 100 < f) : F127 f m (massesL h) = some (dealH m h) := by
  unfold dealH
  split
  · rename_i e; subst e; exact F127_nil f (by omega) m
  · rename_i e; exact F127_eq (dealOk_heap hk e hm0 hm hl) hf
theorem deal_bounds {a : List Int} {m : Int} (h : DealOk m a) {i : Nat} (hi : i < a.length) : 0 ≤ (dealS m a)[i]'(by rw [dealS_len]; exact hi) ∧ (dealS m a)[i]'(by rw [dealS_len]; exact hi) ≤ 100000001 := by
  have hb := base_bounds h hi
  have hm := h.m1
  have e : (dealS m a)[i]'(by rw [dealS_len]; exact hi) = baseS m a i + (if rank m a.sum a (i : Int) < (leftS m a).toNat then 1 else 0) := by simp [dealS]
  rw [e]
  split <;> omega
theorem dealH_bounds {h : List Part} {m : Int} (hk : HeapOk h) (hm0 : 0 ≤ m) (hm : m ≤ sumM h) (hl : h.length < 20) : ∀ x ∈ dealH m h, 0 ≤ x ∧ x ≤ 100000001 := fun x hx => by
  unfold dealH at hx
  split at hx
  · cases hx
  · rename_i e
    obtain ⟨i, hi, rfl⟩ := List.getElem_of_mem hx
    rw [dealS_len] at hi
    exact deal_bounds (dealOk_heap hk e hm0 hm hl) hi
theorem F91_l2_eq {h : List Part} {d : List Int} (hd : d.length = h.length) (hl : h.length < 20) (hk : ∀ p ∈ h, PartOk p) (hb : ∀ x ∈ d, 0 ≤ x ∧ x ≤ 100000001) : ∀ n i (tk lf : List Part), i ≤ h.length → h.length - i < n → tk.length + (h.length - i) ≤ 40 → lf.length + (h.length - i) ≤ 40 →
    F91_l2 h d n tk lf (i : Int) = some (tk ++ takenL (h.drop i) (d.drop i), lf ++ leftL (h.drop i) (d.drop i))
  | 0, i, _, _, _, hn, _, _ => by omega
  | n + 1, i, tk, lf, hi, hn, h1, h2 => by
    rcases Nat.lt_or_ge i h.length with hlt | hge
    · have hid : i < d.length := by omega
      have app : ∀ (l : List Part) (x : Part), l.length ≤ 60 → appC l [x] = some (l ++ [x]) := fun l x hl => by unfold appC; rw [if_pos (by simp only [List.length_cons, List.length_nil]; omega)]
      have hp := hk _ (List.getElem_mem hlt)
      have hx := hb _ (List.getElem_mem hid)
      have e1 : h.drop i = h[i] :: h.drop (i + 1) := drop_cons hlt
      have e2 : d.drop i = d[i] :: d.drop (i + 1) := drop_cons hid
      have := hp.m0; have := hp.m1
      have hw : w64 (h[i].mass - d[i]) = h[i].mass - d[i] := w64_id (by omega) (by omega)
      have lt2 : decide ((i : Int) < (d.length : Int)) = true := by simpa using (show (i : Int) < d.length by omega)
      simp only [F91_l2, F91_j1, F91_j2, lt2, cond_true, getI_nat hlt, getI_nat hid, Option.bind_some, hw, succ_w (i := i) (by omega)]
      rw [e1, e2]
      simp only [takenL, leftL]
      by_cases c1 : d[i] > 0 <;> by_cases c2 : d[i] < h[i].mass
      · simp only [c1, c2, decide_true, cond_true, app tk _ (by omega), app lf _ (by omega), Option.bind_some, if_true]
        rw [F91_l2_eq hd hl hk hb n (i + 1) _ _ (by omega) (by omega) (by simp only [List.length_append, List.length_cons, List.length_nil]; omega) (by simp only [List.length_append, List.length_cons, List.length_nil]; omega)]
        simp only [List.append_assoc]
      · simp only [c1, c2, decide_true, decide_false, cond_true, cond_false, app tk _ (by omega), Option.bind_some, if_true, if_false]
        rw [F91_l2_eq hd hl hk hb n (i + 1) _ _ (by omega) (by omega) (by simp only [List.length_append, List.length_cons, List.length_nil]; omega) (by omega)]
        simp only [List.append_assoc, List.nil_append]
      · simp only [c1, c2, decide_true, decide_false, cond_true, cond_false, app lf _ (by omega), Option.bind_some, if_true, if_false]
        rw [F91_l2_eq hd hl hk hb n (i + 1) _ _ (by omega) (by omega) (by omega) (by simp only [List.length_append, List.length_cons, List.length_nil]; omega)]
        simp only [List.append_assoc, List.nil_append]
      · simp only [c1, c2, decide_false, cond_false, if_false]
        rw [F91_l2_eq hd hl hk hb n (i + 1) _ _ (by omega) (by omega) (by omega) (by omega)]
        simp only [List.nil_append]
    · have : i = h.length := by omega
      subst this
      have lt2 : decide ((h.length : Int) < (d.length : Int)) = false := by simp [hd]
      simp only [F91_l2, lt2, cond_false, List.drop_length]
      simp [takenL, leftL]
theorem F91_l1_eq {f : Nat} {h : List Part} (m : Int) (hl : h.length ≤ 40) : ∀ n i, i ≤ h.length → h.length - i < n → F91_l1 f h m n (massesL (h.take i)) (i : Int) = ((F127 f m (massesL h)).bind fun r => F91_l2 h r f [] [] 0)
  | 0, i, _, hn => by omega
  | n + 1, i, hi, hn => by
    rcases Nat.lt_or_ge i h.length with hlt | hge
    · have app : appC (massesL (h.take i)) [h[i].mass] = some (massesL (h.take (i + 1))) := by
        unfold appC
        rw [if_pos (by simp [massesL]; omega), List.take_succ_eq_append_getElem hlt]
        unfold massesL
        rw [List.map_append]; rfl
      simp only [F91_l1, lt_len, hlt, decide_true, cond_true, getI_nat hlt, Option.bind_some, app, succ_w (i := i) (by omega)]
      exact F91_l1_eq m hl n (i + 1) (by omega) (by omega)
    · have : i = h.length := by omega
      subst this
      simp [F91_l1]
theorem F91_eq {f : Nat} {h : List Part} {m : Int} (hk : HeapOk h) (hm0 : 0 ≤ m) (hm : m ≤ sumM h) (hl : h.length < 20) (hf : 100 < f) : F91 f h m = some (takenL h (dealH m h), leftL h (dealH m h)) := by
  unfold F91
  have e1 := F91_l1_eq (f := f) (h := h) m (by omega) f 0 (by omega) (by omega)
  have e0 : ((0 : Nat) : Int) = 0 := rfl
  rw [e0] at e1
  have e2 : massesL (h.take 0) = [] := rfl
  rw [e2] at e1
  rw [e1, F127_heap hk hm0 hm hl hf]
  simp only [Option.bind_some]
  have e3 := F91_l2_eq (dealH_len m h) hl hk.2.1 (dealH_bounds hk hm0 hm hl) f 0 [] [] (by omega) (by omega) (by simp; omega) (by simp; omega)
  rw [e0] at e3
  rw [e3]
  simp
end Go.Proofs.Ytlmgjjmighajdaa
set_option linter.unusedSimpArgs false
set_option linter.unusedVariables false
namespace Go.Proofs.Ytlmgjjmighajdaa
open Go.Sl Go.Sx
theorem set_sum : ∀ {l : List Int} {i : Nat} (h : i < l.length), (l.set i (l[i] + 1)).sum = l.sum + 1
  | x :: l, 0, _ => by simp only [List.set_cons_zero, List.sum_cons, List.getElem_cons_zero]; omega
  | x :: l, i + 1, h => by
    have := set_sum (l := l) (i := i) (by simpa using h)
    simp only [List.set_cons_succ, List.sum_cons, List.getElem_cons_succ]; omega
theorem outS_sum (m : Int) (a : List Int) : ∀ (D2 D1 : List Int), (∀ x ∈ D1 ++ D2, x ∈ places a.length) → (D1 ++ D2).Nodup → (outS m a (D1 ++ D2)).sum = (outS m a D1).sum + D2.length
  | [], D1, _, _ => by simp
  | p :: D2, D1, h1, h2 => by
    have e : D1 ++ p :: D2 = (D1 ++ [p]) ++ D2 := by simp
    rw [e] at h1 h2 ⊢
    have hp : p ∈ places a.length := h1 p (by simp)
    have hnot : p ∉ D1 := fun hm => by
      have := (List.nodup_append.1 ((List.nodup_append.1 h2).1)).2.2 p hm p (by simp)
      exact this rfl
    obtain ⟨g, st⟩ := outS_set (m := m) (D := D1) hp hnot
    have hb := mem_places.1 hp
    have hi : p.toNat < (outS m a D1).length := by rw [outS_len]; omega
    have e1 : outS m a (D1 ++ [p]) = (outS m a D1).set p.toNat ((outS m a D1)[p.toNat] + 1) := by
      have hg : (outS m a D1)[p.toNat] = baseS m a p.toNat := by
        have h3 := (getI_spec g).2
        rw [List.getElem?_eq_getElem hi] at h3
        exact Option.some.inj h3
      rw [hg]
      exact (setI_spec st).2
    rw [outS_sum m a D2 (D1 ++ [p]) h1 h2, e1, set_sum hi]
    simp only [List.length_cons]; omega
theorem deal_sum {m : Int} {a : List Int} (h : DealOk m a) : (dealS m a).sum = m := by
  rw [← outS_deal]
  have hperm := orderS_perm m a.sum a
  have hnod : (orderS m a.sum a).Nodup := hperm.nodup_iff.2 ((places_rising _).imp fun h => by omega)
  obtain ⟨hb0, hb1, _⟩ := left_bounds h
  have := outS_sum m a ((orderS m a.sum a).take (leftS m a).toNat) [] (fun x hx => hperm.mem_iff.1 (List.mem_of_mem_take (by simpa using hx))) (hnod.sublist (List.take_sublist _ _))
  rw [List.nil_append, outS_nil, List.length_take, orderS_len] at this
  rw [this]
  unfold leftS at *
  omega
theorem deal_at {m : Int} {a : List Int} {i : Nat} (hi : i < a.length) : (dealS m a)[i]'(by rw [dealS_len]; exact hi) = baseS m a i + (if rank m a.sum a (i : Int) < (leftS m a).toNat then 1 else 0) := by simp [dealS]
theorem rem_at {m : Int} {a : List Int} {i : Nat} (hi : i < a.length) : rem_ m a.sum a (i : Int) = m * a[i] % a.sum := by
  unfold rem_
  have e : ((i : Int)).toNat = i := by omega
  rw [e, getD_mem hi]
theorem extra_rem {m : Int} {a : List Int} (h : DealOk m a) {i : Nat} (hi : i < a.length) (hr : rank m a.sum a (i : Int) < (leftS m a).toNat) : 0 < rem_ m a.sum a (i : Int) := by
  have hs := h.s0
  have hnn : ∀ j, 0 ≤ rem_ m a.sum a j := fun j => Int.emod_nonneg _ (by omega)
  have hlt : ∀ j, rem_ m a.sum a j < a.sum := fun j => Int.emod_lt_of_pos _ hs
  rcases Int.lt_or_le 0 (rem_ m a.sum a (i : Int)) with h0 | h0
  · exact h0
  · exfalso
    have hz : rem_ m a.sum a (i : Int) = 0 := by have := hnn i; omega
    -- whoever has a remainder comes ahead
    have hc : (places a.length).countP (fun j => decide (0 < rem_ m a.sum a j)) ≤ rank m a.sum a (i : Int) := by
      unfold rank
      refine List.countP_mono_left fun j hj hp => ?_
      simp only [decide_eq_true_eq] at hp ⊢
      unfold ahead
      omega
    have hsum : ∀ l : List Int, (l.map fun j => rem_ m a.sum a j).sum ≤ (a.sum - 1) * (l.countP (fun j => decide (0 < rem_ m a.sum a j)) : Nat) := by
      intro l
      induction l with
      | nil => simp
      | cons j l ih =>
        simp only [List.map_cons, List.sum_cons]
        by_cases hp : 0 < rem_ m a.sum a j
        · rw [List.countP_cons_of_pos (by simpa using hp)]
          have := hlt j
          have e : (a.sum - 1) * ((l.countP (fun j => decide (0 < rem_ m a.sum a j)) + 1 : Nat) : Int) = (a.sum - 1) * (l.countP (fun j => decide (0 < rem_ m a.sum a j)) : Nat) + (a.sum - 1) := by push_cast; grind
          omega
        · rw [List.countP_cons_of_neg (by simpa using hp)]
          have := hnn j
          omega
    have h1 := hsum (places a.length)
    have e1 : (places a.length).map (fun j => rem_ m a.sum a j) = a.map fun x => m * x % a.sum := by
      refine List.ext_getElem (by simp [places]) fun k h1 h2 => ?_
      rw [List.getElem_map, List.getElem_map]
      have hk : k < a.length := by simpa [places] using h1
      rw [places_at hk]
      exact rem_at hk
    rw [e1] at h1
    obtain ⟨hb0, hb1, e2⟩ := left_bounds h
    rw [← e2] at h1
    have h3 : (a.sum - 1) * ((places a.length).countP (fun j => decide (0 < rem_ m a.sum a j)) : Nat) ≤ (a.sum - 1) * (leftS m a - 1) := Int.mul_le_mul_of_nonneg_left (by omega) (by omega)
    have h4 : (a.sum - 1) * (leftS m a - 1) = a.sum * leftS m a - leftS m a - a.sum + 1 := by grind
    omega
theorem deal_le {m : Int} {a : List Int} (h : DealOk m a) (hm : m ≤ a.sum) {i : Nat} (hi : i < a.length) : (dealS m a)[i]'(by rw [dealS_len]; exact hi) ≤ a[i] := by
  rw [deal_at hi]
  have hs := h.s0
  have h0 := h.nn _ (List.getElem_mem hi)
  have e := Int.mul_ediv_add_emod (m * a[i]) a.sum
  have hb : baseS m a i = m * a[i] / a.sum := by unfold baseS; rw [getD_mem hi]
  have hle : m * a[i] ≤ a.sum * a[i] := Int.mul_le_mul_of_nonneg_right hm h0
  split
  · rename_i hr
    have hrem := extra_rem h hi hr
    rw [rem_at hi] at hrem
    rw [hb]
    rcases Int.lt_or_le (m * a[i] / a.sum) a[i] with hl | hl
    · omega
    · have : a.sum * a[i] ≤ a.sum * (m * a[i] / a.sum) := Int.mul_le_mul_of_nonneg_left hl (by omega)
      omega
  · rw [hb]
    rcases Int.lt_or_le a[i] (m * a[i] / a.sum) with hl | hl
    · have h1 : a.sum * (a[i] + 1) ≤ a.sum * (m * a[i] / a.sum) := Int.mul_le_mul_of_nonneg_left (by omega) (by omega)
      have h2 := Int.emod_nonneg (m * a[i]) (show a.sum ≠ 0 by omega)
      have h3 : a.sum * (a[i] + 1) = a.sum * a[i] + a.sum := by grind
      omega
    · omega
inductive Fits : List Part → List Int → Prop
  | nil : Fits [] []
  | cons {p : Part} {h : List Part} {n : Int} {d : List Int} (h0 : 0 ≤ n) (h1 : n ≤ p.mass) (hp : 1 ≤ p.mass) (k : Fits h d) : Fits (p :: h) (n :: d)
theorem Fits.of : ∀ {h : List Part} {d : List Int}, d.length = h.length → (∀ i (hi : i < h.length) (hd : i < d.length), 0 ≤ d[i] ∧ d[i] ≤ h[i].mass ∧ 1 ≤ h[i].mass) → Fits h d
  | [], [], _, _ => .nil
  | [], _ :: _, e, _ => by cases e
  | _ :: _, [], e, _ => by cases e
  | p :: h, n :: d, e, k => by
    have k0 := k 0 (by simp) (by simp)
    exact .cons k0.1 k0.2.1 k0.2.2 (Fits.of (by simpa using e) fun i hi hd => k (i + 1) (by simpa using hi) (by simpa using hd))
theorem taken_lots : ∀ {h : List Part} {d : List Int} {q : Part}, q ∈ takenL h d → ∃ p ∈ h, p.lot = q.lot
  | [], _, q, hq => by simp [takenL] at hq
  | _ :: _, [], q, hq => by simp [takenL] at hq
  | p :: h, n :: d, q, hq => by
    simp only [takenL] at hq
    rcases List.mem_append.1 hq with hq | hq
    · split at hq
      · simp only [List.mem_singleton] at hq; subst hq; exact ⟨p, by simp, rfl⟩
      · cases hq
    · obtain ⟨p', hp, e⟩ := taken_lots hq
      exact ⟨p', List.mem_cons_of_mem _ hp, e⟩
theorem left_lots : ∀ {h : List Part} {d : List Int} {q : Part}, q ∈ leftL h d → ∃ p ∈ h, p.lot = q.lot
  | [], _, q, hq => by simp [leftL] at hq
  | _ :: _, [], q, hq => by simp [leftL] at hq
  | p :: h, n :: d, q, hq => by
    simp only [leftL] at hq
    rcases List.mem_append.1 hq with hq | hq
    · split at hq
      · simp only [List.mem_singleton] at hq; subst hq; exact ⟨p, by simp, rfl⟩
      · cases hq
    · obtain ⟨p', hp, e⟩ := left_lots hq
      exact ⟨p', List.mem_cons_of_mem _ hp, e⟩
theorem taken_sum : ∀ {h : List Part} {d : List Int}, Fits h d → sumM (takenL h d) = d.sum
  | _, _, .nil => by simp [takenL, sumM]
  | p :: h, n :: d, .cons h0 h1 hp k => by
    have ih := taken_sum k
    simp only [takenL, List.sum_cons, sumM_app, ih]
    split
    · simp [sumM]
    · simp [sumM]; omega
theorem taken_part : ∀ {h : List Part} {d : List Int}, Fits h d → (∀ p ∈ h, PartOk p) → ∀ q ∈ takenL h d, PartOk q
  | _, _, .nil, _, q, hq => by simp [takenL] at hq
  | p :: h, n :: d, .cons h0 h1 hp k, hk, q, hq => by
    simp only [takenL] at hq
    rcases List.mem_append.1 hq with hq | hq
    · split at hq
      · have hp' := hk p (by simp)
        simp only [List.mem_singleton] at hq; subst hq
        exact ⟨hp'.l0, hp'.l1, by simp only; omega, by have := hp'.m1; simp only; omega⟩
      · cases hq
    · exact taken_part k (fun p hp => hk p (List.mem_cons_of_mem _ hp)) q hq
theorem left_part : ∀ {h : List Part} {d : List Int}, Fits h d → (∀ p ∈ h, PartOk p) → ∀ q ∈ leftL h d, PartOk q
  | _, _, .nil, _, q, hq => by simp [leftL] at hq
  | p :: h, n :: d, .cons h0 h1 hp k, hk, q, hq => by
    simp only [leftL] at hq
    rcases List.mem_append.1 hq with hq | hq
    · split at hq
      · have hp' := hk p (by simp)
        simp only [List.mem_singleton] at hq; subst hq
        exact ⟨hp'.l0, hp'.l1, by simp only; omega, by have := hp'.m1; simp only; omega⟩
      · cases hq
    · exact left_part k (fun p hp => hk p (List.mem_cons_of_mem _ hp)) q hq
theorem left_sum : ∀ {h : List Part} {d : List Int}, Fits h d → sumM (leftL h d) = sumM h - d.sum
  | _, _, .nil => by simp [leftL, sumM]
  | p :: h, n :: d, .cons h0 h1 hp k => by
    have ih := left_sum k
    have e : sumM (p :: h) = p.mass + sumM h := by simp [sumM]
    simp only [leftL, List.sum_cons, sumM_app, ih, e]
    split
    · simp [sumM]; omega
    · simp [sumM]; omega
theorem taken_rise : ∀ {h : List Part} {d : List Int}, (h.Pairwise fun a b => a.lot < b.lot) → (takenL h d).Pairwise fun a b => a.lot < b.lot
  | [], _, _ => by simp [takenL]
  | _ :: _, [], _ => by simp [takenL]
  | p :: h, n :: d, hr => by
    have hr' := List.pairwise_cons.1 hr
    have ih := taken_rise (d := d) hr'.2
    simp only [takenL]
    split
    · exact List.pairwise_cons.2 ⟨fun x hx => by obtain ⟨q, hq, e⟩ := taken_lots hx; rw [← e]; exact hr'.1 q hq, ih⟩
    · exact ih
theorem left_rise : ∀ {h : List Part} {d : List Int}, (h.Pairwise fun a b => a.lot < b.lot) → (leftL h d).Pairwise fun a b => a.lot < b.lot
  | [], _, _ => by simp [leftL]
  | _ :: _, [], _ => by simp [leftL]
  | p :: h, n :: d, hr => by
    have hr' := List.pairwise_cons.1 hr
    have ih := left_rise (d := d) hr'.2
    simp only [leftL]
    split
    · exact List.pairwise_cons.2 ⟨fun x hx => by obtain ⟨q, hq, e⟩ := left_lots hx; rw [← e]; exact hr'.1 q hq, ih⟩
    · exact ih
theorem fits_heap {h : List Part} {m : Int} (hk : HeapOk h) (hm0 : 0 ≤ m) (hm : m ≤ sumM h) (hl : h.length < 20) : Fits h (dealH m h) ∧ (dealH m h).sum = (if h = [] then 0 else m) := by
  unfold dealH
  split
  · rename_i e; subst e; exact ⟨.nil, rfl⟩
  · rename_i e
    have hd := dealOk_heap hk e hm0 hm hl
    refine ⟨Fits.of (by rw [dealS_len]; simp [massesL]) fun i hi hdi => ?_, deal_sum hd⟩
    have hi2 : i < (massesL h).length := by simpa [massesL] using hi
    have e2 : (massesL h)[i] = h[i].mass := by simp [massesL]
    exact ⟨(deal_bounds hd hi2).1, e2 ▸ deal_le hd (by rw [sum_masses]; exact hm) hi2, (hk.2.1 _ (List.getElem_mem hi)).m0⟩
end Go.Proofs.Ytlmgjjmighajdaa
set_option linter.unusedSimpArgs false
set_option linter.unusedVariables false
namespace Go.Proofs.Ytlmgjjmighajdaa
open Go.Sl Go.Sx
theorem rank_at (m s : Int) (a : List Int) {p : Nat} (hp : p < (orderS m s a).length) : rank m s a (orderS m s a)[p] = p := by
  have hm : (orderS m s a)[p] ∈ places a.length := (orderS_perm m s a).mem_iff.1 (List.getElem_mem hp)
  have key : ∀ k, rank m s a (orderS m s a)[p] < k ↔ p < k := fun k => by
    rw [← first_iff m s a hm k]
    constructor
    · intro h
      obtain ⟨q, hq, e⟩ := List.getElem_of_mem h
      rw [List.length_take] at hq
      rw [List.getElem_take] at e
      rcases Nat.lt_trichotomy q p with h1 | h1 | h1
      · have := pairs_at (orderS_sorted m s a) (by omega) hp h1
        rw [e] at this; exact absurd this (ahead_irr _ _ _ _)
      · omega
      · have := pairs_at (orderS_sorted m s a) hp (by omega) h1
        rw [e] at this; exact absurd this (ahead_irr _ _ _ _)
    · intro h
      rw [List.mem_take_iff_getElem]
      exact ⟨p, by omega, rfl⟩
  have h1 := (key p).1
  have h2 := (key (p + 1)).2 (by omega)
  rcases Nat.lt_or_ge (rank m s a (orderS m s a)[p]) p with h | h
  · exact absurd (h1 h) (by omega)
  · omega
theorem rank_pos (m s : Int) (a : List Int) {i : Nat} (hi : i < a.length) : ∃ h : rank m s a (i : Int) < (orderS m s a).length, (orderS m s a)[rank m s a (i : Int)] = (i : Int) := by
  have hm : (i : Int) ∈ orderS m s a := (orderS_perm m s a).mem_iff.2 (mem_places.2 (by omega))
  obtain ⟨p, hp, e⟩ := List.getElem_of_mem hm
  have := rank_at m s a hp
  rw [e] at this
  subst this
  exact ⟨hp, e⟩
theorem rank_lt {m s : Int} {a : List Int} {i j : Nat} (hi : i < a.length) (hj : j < a.length) (h : ahead m s a (i : Int) (j : Int)) : rank m s a (i : Int) < rank m s a (j : Int) := by
  obtain ⟨h1, e1⟩ := rank_pos m s a hi
  obtain ⟨h2, e2⟩ := rank_pos m s a hj
  rcases Nat.lt_trichotomy (rank m s a (i : Int)) (rank m s a (j : Int)) with k | k | k
  · exact k
  · have : (i : Int) = j := by
      rw [← e1, ← e2]
      simp only [k]
    rw [this] at h
    exact absurd h (ahead_irr _ _ _ _)
  · have := pairs_at (orderS_sorted m s a) h2 h1 k
    rw [e1, e2] at this
    exact absurd h (ahead_asy _ _ _ _ _ this)
theorem ahead_tot {m s : Int} {a : List Int} {i j : Int} (h : i ≠ j) : ahead m s a i j ∨ ahead m s a j i := by unfold ahead; omega
theorem rank_inj {m s : Int} {a : List Int} {i j : Nat} (hi : i < a.length) (hj : j < a.length) (h : rank m s a (i : Int) = rank m s a (j : Int)) : i = j := by
  by_cases e : (i : Int) = j
  · omega
  · rcases ahead_tot (m := m) (s := s) (a := a) e with k | k
    · have := rank_lt hi hj k; omega
    · have := rank_lt hj hi k; omega
def givenS (m s : Int) (a : List Int) (t : Nat) : List Bool := (List.range a.length).map fun i : Nat => decide (rank m s a (i : Int) < t)
def outT (m : Int) (a : List Int) (t : Nat) : List Int := (List.range a.length).map fun i => baseS m a i + (if rank m a.sum a (i : Int) < t then 1 else 0)
theorem given_at {m s : Int} {a : List Int} {t i : Nat} (hi : i < a.length) : getI (givenS m s a t) (i : Int) = some (decide (rank m s a (i : Int) < t)) := by
  rw [getI_nat (by simp [givenS, hi])]; simp [givenS]
theorem out_at {m : Int} {a : List Int} {t i : Nat} (hi : i < a.length) : getI (outT m a t) (i : Int) = some (baseS m a i + (if rank m a.sum a (i : Int) < t then 1 else 0)) := by
  rw [getI_nat (by simp [outT, hi])]; simp [outT]
theorem given_next {m s : Int} {a : List Int} {t b : Nat} (hb : b < a.length) (hr : rank m s a (b : Int) = t) : setI (givenS m s a t) (b : Int) true = some (givenS m s a (t + 1)) := by
  unfold setI
  rw [if_pos (by simp [givenS]; omega)]
  congr 1
  refine List.ext_getElem (by simp [givenS]) fun i h1 h2 => ?_
  have hi : i < a.length := by simpa [givenS] using h2
  rw [List.getElem_set]
  simp only [givenS, List.getElem_map, List.getElem_range, Int.toNat_natCast]
  by_cases e : b = i
  · subst e; simp [hr]
  · rw [if_neg e]
    have : rank m s a (i : Int) ≠ t := fun k => e (rank_inj hb hi (hr.trans k.symm))
    by_cases k : rank m s a (i : Int) < t
    · have : rank m s a (i : Int) < t + 1 := by omega
      simp [k, this]
    · have : ¬ rank m s a (i : Int) < t + 1 := by omega
      simp [k, this]
theorem out_next {m : Int} {a : List Int} {t b : Nat} (hb : b < a.length) (hr : rank m a.sum a (b : Int) = t) : setI (outT m a t) (b : Int) (baseS m a b + 1) = some (outT m a (t + 1)) := by
  unfold setI
  rw [if_pos (by simp [outT]; omega)]
  congr 1
  refine List.ext_getElem (by simp [outT]) fun i h1 h2 => ?_
  have hi : i < a.length := by simpa [outT] using h2
  rw [List.getElem_set]
  simp only [outT, List.getElem_map, List.getElem_range, Int.toNat_natCast]
  by_cases e : b = i
  · subst e; simp [hr]
  · rw [if_neg e]
    have : rank m a.sum a (i : Int) ≠ t := fun k => e (rank_inj hb hi (hr.trans k.symm))
    by_cases k : rank m a.sum a (i : Int) < t
    · have : rank m a.sum a (i : Int) < t + 1 := by omega
      simp [k, this]
    · have : ¬ rank m a.sum a (i : Int) < t + 1 := by omega
      simp [k, this]
def best (m : Int) (a : List Int) (t j : Nat) (y : Int) : Prop := (y = -1 ∧ ∀ i, i < j → rank m a.sum a (i : Int) < t) ∨
  (∃ b : Nat, y = (b : Int) ∧ b < j ∧ t ≤ rank m a.sum a (b : Int) ∧ ∀ i : Nat, i < j → t ≤ rank m a.sum a (i : Int) → i ≠ b → ahead m a.sum a (b : Int) (i : Int))
theorem F126_l4_eq {m : Int} {a : List Int} (h : DealOk m a) {t : Nat} (ht : t < a.length) (k2 : List Bool → List Int → Int → Option (List Int)) (y8 : Int) : ∀ n j y, j ≤ a.length → a.length - j < n → best m a t j y →
    F126_l4 k2 m a a.sum (givenS m a.sum a t) (outT m a t) y8 n y (j : Int) = k2 (givenS m a.sum a (t + 1)) (outT m a (t + 1)) (w64 (y8 - 1))
  | 0, j, y, _, hn, _ => by omega
  | n + 1, j, y, hj, hn, hb => by
    have hlen := h.len
    have hs0 := h.s0
    rcases Nat.lt_or_ge j a.length with hlt | hge
    · simp only [F126_l4, lt_len, hlt, decide_true, cond_true, given_at hlt, Option.bind_some]
      by_cases hg : rank m a.sum a (j : Int) < t
      · simp only [hg, decide_true, Bool.not_true, cond_false, F126_j2, F126_j1]
        rw [succ_w (by omega)]
        refine F126_l4_eq h ht k2 y8 n (j + 1) y hlt (by omega) ?_
        rcases hb with ⟨e, k⟩ | ⟨b, e, hbj, hbt, k⟩
        · exact .inl ⟨e, fun i hi => by
            rcases Nat.lt_or_ge i j with h1 | h1
            · exact k i h1
            · have : i = j := by omega
              subst this; exact hg⟩
        · exact .inr ⟨b, e, by omega, hbt, fun i hi hit hib => by
            rcases Nat.lt_or_ge i j with h1 | h1
            · exact k i h1 hit hib
            · have : i = j := by omega
              subst this; omega⟩
      · simp only [hg, decide_false, Bool.not_false, cond_true]
        rcases hb with ⟨e, k⟩ | ⟨b, e, hbj, hbt, k⟩
        · subst e
          simp only [show decide ((-1 : Int) < 0) = true from rfl, cond_true, F126_j2, F126_j1]
          rw [succ_w (by omega)]
          refine F126_l4_eq h ht k2 y8 n (j + 1) _ hlt (by omega) (.inr ⟨j, rfl, by omega, by omega, fun i hi hit hij => ?_⟩)
          have := k i (by omega)
          omega
        · subst e
          have h0 : decide ((b : Int) < 0) = false := by simp
          have hbl : b < a.length := by omega
          simp only [h0, cond_false, getI_nat hlt, getI_nat hbl, Option.bind_some, nzS (show a.sum ≠ 0 by omega), tmod_eq h hlt, tmod_eq h hbl]
          by_cases hc : rem_ m a.sum a (j : Int) > rem_ m a.sum a (b : Int)
          · simp only [hc, decide_true, F126_j2, cond_true, F126_j1]
            rw [succ_w (by omega)]
            refine F126_l4_eq h ht k2 y8 n (j + 1) _ hlt (by omega) (.inr ⟨j, rfl, by omega, by omega, fun i hi hit hij => ?_⟩)
            have hjb : ahead m a.sum a (j : Int) (b : Int) := .inl hc
            by_cases e : i = b
            · subst e; exact hjb
            · exact ahead_tr _ _ _ _ _ _ hjb (k i (by omega) hit e)
          · simp only [hc, decide_false, F126_j2, cond_false, F126_j1]
            rw [succ_w (by omega)]
            refine F126_l4_eq h ht k2 y8 n (j + 1) _ hlt (by omega) (.inr ⟨b, rfl, by omega, hbt, fun i hi hit hib => ?_⟩)
            rcases Nat.lt_or_ge i j with h1 | h1
            · exact k i h1 hit hib
            · have : i = j := by omega
              subst this
              unfold ahead
              omega
    · have hj' : j = a.length := by omega
      subst hj'
      have hto : t < (orderS m a.sum a).length := by rw [orderS_len]; exact ht
      have hom := (orderS_perm m a.sum a).mem_iff.1 (List.getElem_mem hto)
      obtain ⟨o0, o1⟩ := mem_places.1 hom
      have hro := rank_at m a.sum a hto
      generalize hoe : (orderS m a.sum a)[t] = o at *
      obtain ⟨o', rfl⟩ : ∃ k : Nat, o = (k : Int) := ⟨o.toNat, by omega⟩
      have ho : o' < a.length := by omega
      rcases hb with ⟨e, k⟩ | ⟨b, e, hbj, hbt, k⟩
      · have := k o' ho; omega
      · subst e
        have hbr : rank m a.sum a (b : Int) = t := by
          by_cases e : o' = b
          · subst e; exact hro
          · have := rank_lt hbj ho (k o' ho (by omega) e)
            omega
        have hbase := base_bounds h hbj
        have hm1 := h.m1
        simp only [F126_l4, lt_len, Nat.lt_irrefl, decide_false, cond_false, given_at hbj, Option.bind_some, given_next hbj hbr, out_at hbj, hbr, if_false, Int.add_zero]
        rw [w64_id (n := baseS m a b + 1) (by omega) (by omega), out_next hbj hbr]
        rfl
theorem F126_l3_eq {f : Nat} {m : Int} {a : List Int} (h : DealOk m a) (hf : 200 ≤ f) : ∀ n t, t ≤ (leftS m a).toNat → (leftS m a).toNat - t < n → (leftS m a).toNat < a.length ∨ leftS m a = 0 →
    F126_l3 f m a a.sum n (givenS m a.sum a t) (outT m a t) (leftS m a - t) = some (dealS m a)
  | 0, t, _, hn, _ => by omega
  | n + 1, t, ht, hn, hl => by
    have hlb := left_bounds h
    have hlen := h.len
    by_cases hz : t = (leftS m a).toNat
    · have : decide (leftS m a - (t : Int) > 0) = false := decide_eq_false (by omega)
      rw [F126_l3, this, cond_false, hz]
      rfl
    · have : decide (leftS m a - (t : Int) > 0) = true := decide_eq_true (by omega)
      rw [F126_l3, this]
      simp only [cond_true]
      have hta : t < a.length := by omega
      have e4 := F126_l4_eq h hta (F126_l3 f m a a.sum n) (leftS m a - (t : Int)) f 0 (-1) (by omega) (by omega) (.inl ⟨rfl, fun i hi => by omega⟩)
      have e0 : ((0 : Nat) : Int) = 0 := rfl
      rw [e0] at e4
      rw [e4]
      rw [w64_id (by omega) (by omega)]
      have e : leftS m a - (t : Int) - 1 = leftS m a - ((t + 1 : Nat) : Int) := by omega
      rw [e]
      exact F126_l3_eq h hf n (t + 1) (by omega) (by omega) hl
theorem left_lt {m : Int} {a : List Int} (h : DealOk m a) : leftS m a < a.length := by
  have h1 := left_bounds h
  have h2 := rem_sum (m := m) h.s0 a
  have hs := h.s0
  have hn : 0 < a.length := by
    rcases Nat.eq_zero_or_pos a.length with e | e
    · have := List.eq_nil_of_length_eq_zero e
      subst this; simp at hs
    · exact e
  by_cases k : leftS m a < a.length
  · exact k
  · have k : (a.length : Int) ≤ leftS m a := by omega
    have h3 : a.sum * (a.length : Int) ≤ a.sum * leftS m a := Int.mul_le_mul_of_nonneg_left k (by omega)
    have h4 : (a.sum - 1) * (a.length : Int) = a.sum * a.length - a.length := by rw [Int.sub_mul]; omega
    omega
theorem take_sum_le {a : List Int} (h : ∀ x ∈ a, 0 ≤ x) (i : Nat) : 0 ≤ (a.take i).sum ∧ (a.take i).sum ≤ a.sum := by
  have e : a = a.take i ++ a.drop i := (List.take_append_drop i a).symm
  have h1 := sum_nonneg (a := a.take i) fun x hx => h x (List.mem_of_mem_take hx)
  have h2 := sum_nonneg (a := a.drop i) fun x hx => h x (List.mem_of_mem_drop hx)
  have h3 : a.sum = (a.take i).sum + (a.drop i).sum := by
    have := congrArg List.sum e
    rw [sum_app] at this
    exact this
  omega
theorem take_sum {a : List Int} {i : Nat} (hi : i < a.length) : (a.take (i + 1)).sum = (a.take i).sum + a[i] := by
  rw [List.take_succ_eq_append_getElem hi, sum_app]; simp
theorem from_st {ρ : Type} {T : Nat → Nat → Option ρ} {len n : Nat} {out : Option ρ} (hn : len < n) (h : ∀ n i, i < len → T (n + 1) i = T n (i + 1)) (he : ∀ n, T (n + 1) len = out) : T n 0 = out := by
  have key : ∀ n i, i ≤ len → len - i < n → T n i = out := by
    intro n
    induction n with
    | zero => intro i _ hn; omega
    | succ n ih =>
      intro i hi hn
      rcases Nat.lt_or_ge i len with hlt | hge
      · rw [h n i hlt]; exact ih (i + 1) hlt (by omega)
      · have : i = len := by omega
        subst this; exact he n
  exact key n 0 (by omega) (by omega)
theorem F126_eq {f : Nat} {m : Int} {a : List Int} (h : DealOk m a) (hf : 200 ≤ f) : F126 f m a = some (dealS m a) := by
  have hlen := h.len
  have hs0 := h.s0
  have hs1 := h.s1
  have hm0 := h.m0
  have hm1 := h.m1
  have hll := left_lt h
  have hlb := left_bounds h
  have hb : ∀ i, 0 ≤ ((baseL m a).take i).sum ∧ ((baseL m a).take i).sum ≤ (baseL m a).sum := fun i => take_sum_le (a := baseL m a) (fun x hx => by
    obtain ⟨k, hk, rfl⟩ := List.getElem_of_mem hx
    rw [baseL_len] at hk
    rw [baseL_at hk]
    exact (base_bounds h hk).1) i
  have hbs : (baseL m a).sum = m - leftS m a := by unfold leftS; omega
  unfold F126
  have key1 := from_st (T := fun n i => F126_l1 f m a n (a.take i).sum (i : Int)) (len := a.length) (n := f) (out := F126_l2 f m a a.sum f [] m 0) (by omega)
    (fun n i hi => by
      have hx := h.nn _ (List.getElem_mem hi)
      have h1 := take_sum_le h.nn (i + 1)
      rw [take_sum hi] at h1
      have h2 := take_sum_le h.nn i
      simp only [F126_l1, lt_len, hi, decide_true, cond_true, getI_nat hi, Option.bind_some]
      rw [succ_w (by omega), w64_id (by omega) (by omega), take_sum hi])
    (fun n => by simp [F126_l1])
  have e1 : F126_l1 f m a f 0 0 = F126_l2 f m a a.sum f [] m 0 := by simpa using key1
  rw [e1]
  have key2 := from_st (T := fun n i => F126_l2 f m a a.sum n ((baseL m a).take i) (m - ((baseL m a).take i).sum) (i : Int)) (len := a.length) (n := f) (out := F126_l3 f m a a.sum f (List.replicate a.length false) (baseL m a) (leftS m a)) (by omega)
    (fun n i hi => by
      have hp := prod_bounds h hi
      have hbb := base_bounds h hi
      have hi' : i < (baseL m a).length := by rw [baseL_len]; exact hi
      have e2 : Int.tdiv (w64 (m * a[i])) a.sum = baseS m a i := by
        rw [w64_id (by omega) (by omega), Int.tdiv_eq_ediv_of_nonneg hp.1]
        unfold baseS
        rw [getD_mem hi]
      have h1 := hb (i + 1)
      have h0 := hb i
      rw [take_sum hi', baseL_at hi] at h1
      simp only [F126_l2, lt_len, hi, decide_true, cond_true, getI_nat hi, Option.bind_some, nzS (show a.sum ≠ 0 by omega), e2]
      rw [w64_id (n := baseS m a i) (by omega) (by omega)]
      have e3 : appC ((baseL m a).take i) [baseS m a i] = some ((baseL m a).take (i + 1)) := by
        unfold appC
        rw [if_pos (by simp; omega), List.take_succ_eq_append_getElem hi', baseL_at hi]
      rw [e3]
      simp only [Option.bind_some]
      rw [succ_w (by omega), w64_id (by omega) (by omega), take_sum hi', baseL_at hi]
      congr 1
      omega)
    (fun n => by
      have e4 : mkC ((a.length : Nat) : Int) false = some (List.replicate a.length false) := by
        unfold mkC
        rw [if_pos (by omega)]; simp
      have e5 : (baseL m a).take a.length = baseL m a := List.take_of_length_le (by rw [baseL_len]; omega)
      simp only [F126_l2, lt_len, Nat.lt_irrefl, decide_false, cond_false, e4, Option.bind_some, e5]
      rw [hbs]
      congr 1
      omega)
  have e2 : F126_l2 f m a a.sum f [] m 0 = F126_l3 f m a a.sum f (List.replicate a.length false) (baseL m a) (leftS m a) := by simpa using key2
  rw [e2]
  have e3 := F126_l3_eq h hf f 0 (by omega) (by omega) (.inl (by omega))
  have e4 : givenS m a.sum a 0 = List.replicate a.length false := by
    refine List.ext_getElem (by simp [givenS]) fun i h1 h2 => ?_
    simp [givenS]
  have e5 : outT m a 0 = baseL m a := by
    refine List.ext_getElem (by simp [outT, baseL]) fun i h1 h2 => ?_
    have hi : i < a.length := by simpa [outT] using h1
    rw [baseL_at hi]
    simp [outT]
  rw [e4, e5] at e3
  simpa using e3
end Go.Proofs.Ytlmgjjmighajdaa
set_option linter.unusedSimpArgs false
set_option linter.unusedVariables false
namespace Go.Proofs.Ytlmgjjmighajdaa
open Go.Sl Go.Sx
theorem F89_80 (f : Nat) (a b : List Part) : F89 f a b = F80 f a b := by
  unfold F89 F80
  have : ∀ n y i k, F89_l1 a b n y i k = F80_l1 a b n y i k := by
    intro n
    induction n with
    | zero => intro y i k; rfl
    | succ n ih =>
      intro y i k
      have e : F89_l1 a b n = F80_l1 a b n := by funext y i k; exact ih y i k
      simp only [F89_l1, F80_l1, e]
      rfl
  exact this ..
theorem F89_eq {f : Nat} {a b : List Part} (ha : HeapOk a) (hb : HeapOk b) (hf : 90 < f) : F89 f a b = some (mergeP a b) := by rw [F89_80, F80_eq ha hb hf]
theorem F128_eq {f : Nat} {h : List Part} (hl : h.length ≤ 40) (hf : 40 < f) : F128 f h = some (massesL h) := by
  unfold F128
  have key := from_st (T := fun n i => F128_l1 h n (massesL (h.take i)) (i : Int)) (len := h.length) (n := f) (out := some (massesL h)) (by omega)
    (fun n i hi => by
      have app : appC (massesL (h.take i)) [h[i].mass] = some (massesL (h.take (i + 1))) := by
        unfold appC
        rw [if_pos (by simp [massesL]; omega), List.take_succ_eq_append_getElem hi]
        unfold massesL
        rw [List.map_append]; rfl
      simp only [F128_l1, lt_len, hi, decide_true, cond_true, getI_nat hi, Option.bind_some, app]
      rw [succ_w (by omega)])
    (fun n => by simp [F128_l1])
  simpa [massesL] using key
theorem F93_l1_eq {h : List Part} {d : List Int} (hd : d.length = h.length) (hl : h.length < 20) (hk : ∀ p ∈ h, PartOk p) (hb : ∀ x ∈ d, 0 ≤ x ∧ x ≤ 100000001) : ∀ n i (tk lf : List Part), i ≤ h.length → h.length - i < n → tk.length + (h.length - i) ≤ 40 → lf.length + (h.length - i) ≤ 40 →
    F93_l1 h d n tk lf (i : Int) = some (tk ++ takenL (h.drop i) (d.drop i), lf ++ leftL (h.drop i) (d.drop i))
  | 0, i, _, _, _, hn, _, _ => by omega
  | n + 1, i, tk, lf, hi, hn, h1, h2 => by
    rcases Nat.lt_or_ge i h.length with hlt | hge
    · have hid : i < d.length := by omega
      have app : ∀ (l : List Part) (x : Part), l.length ≤ 60 → appC l [x] = some (l ++ [x]) := fun l x hl => by unfold appC; rw [if_pos (by simp only [List.length_cons, List.length_nil]; omega)]
      have hp := hk _ (List.getElem_mem hlt)
      have hx := hb _ (List.getElem_mem hid)
      have e1 : h.drop i = h[i] :: h.drop (i + 1) := drop_cons hlt
      have e2 : d.drop i = d[i] :: d.drop (i + 1) := drop_cons hid
      have := hp.m0; have := hp.m1
      have hw : w64 (h[i].mass - d[i]) = h[i].mass - d[i] := w64_id (by omega) (by omega)
      simp only [F93_l1, F93_j1, F93_j2, lt_len, hlt, decide_true, cond_true, getI_nat hlt, getI_nat hid, Option.bind_some, hw, succ_w (i := i) (by omega)]
      rw [e1, e2]
      simp only [takenL, leftL]
      have gt : (h[i].mass > d[i]) = (d[i] < h[i].mass) := rfl
      simp only [gt]
      by_cases c1 : d[i] > 0 <;> by_cases c2 : d[i] < h[i].mass
      · simp only [c1, c2, decide_true, cond_true, app tk _ (by omega), app lf _ (by omega), Option.bind_some, if_true]
        rw [F93_l1_eq hd hl hk hb n (i + 1) _ _ (by omega) (by omega) (by simp only [List.length_append, List.length_cons, List.length_nil]; omega) (by simp only [List.length_append, List.length_cons, List.length_nil]; omega)]
        simp only [List.append_assoc]
      · simp only [c1, c2, decide_true, decide_false, cond_true, cond_false, app tk _ (by omega), Option.bind_some, if_true, if_false]
        rw [F93_l1_eq hd hl hk hb n (i + 1) _ _ (by omega) (by omega) (by simp only [List.length_append, List.length_cons, List.length_nil]; omega) (by omega)]
        simp only [List.append_assoc, List.nil_append]
      · simp only [c1, c2, decide_true, decide_false, cond_true, cond_false, app lf _ (by omega), Option.bind_some, if_true, if_false]
        rw [F93_l1_eq hd hl hk hb n (i + 1) _ _ (by omega) (by omega) (by omega) (by simp only [List.length_append, List.length_cons, List.length_nil]; omega)]
        simp only [List.append_assoc, List.nil_append]
      · simp only [c1, c2, decide_false, cond_false, if_false]
        rw [F93_l1_eq hd hl hk hb n (i + 1) _ _ (by omega) (by omega) (by omega) (by omega)]
        simp only [List.nil_append]
    · have : i = h.length := by omega
      subst this
      simp only [F93_l1, lt_len, Nat.lt_irrefl, decide_false, cond_false, List.drop_length]
      simp [takenL, leftL]
theorem deal_zero {a : List Int} (h : ∀ x ∈ a, 0 ≤ x) : dealS 0 a = List.replicate a.length 0 := by
  have hb : baseL 0 a = List.replicate a.length 0 := by
    refine List.ext_getElem (by simp [baseL]) fun i h1 h2 => ?_
    simp [baseL]
  have hl : leftS 0 a = 0 := by
    unfold leftS
    rw [hb]
    have : ∀ n : Nat, (List.replicate n (0 : Int)).sum = 0 := fun n => by
      induction n with
      | zero => rfl
      | succ n ih => rw [List.replicate_succ, List.sum_cons, ih]; rfl
    rw [this]; rfl
  refine List.ext_getElem (by simp [dealS]) fun i h1 h2 => ?_
  simp [dealS, hl, baseS]
theorem dealH_zero {h : List Part} (hk : HeapOk h) : dealH 0 h = List.replicate h.length 0 := by
  unfold dealH
  split
  · rename_i e; subst e; rfl
  · rw [deal_zero fun x hx => by obtain ⟨p, hp, rfl⟩ := List.mem_map.1 hx; have := (hk.2.1 p hp).m0; omega]
    simp [massesL]
theorem taken_zero : ∀ h : List Part, takenL h (List.replicate h.length 0) = []
  | [] => rfl
  | p :: h => by
    show takenL (p :: h) (0 :: List.replicate h.length 0) = []
    simp only [takenL]
    rw [taken_zero h]; rfl
theorem left_zero : ∀ {h : List Part}, (∀ p ∈ h, PartOk p) → leftL h (List.replicate h.length 0) = h
  | [], _ => rfl
  | p :: h, hk => by
    show leftL (p :: h) (0 :: List.replicate h.length 0) = p :: h
    simp only [leftL]
    rw [left_zero fun q hq => hk q (List.mem_cons_of_mem _ hq)]
    have := (hk p (by simp)).m0
    rw [if_pos (by omega)]
    simp
theorem F93_eq {f : Nat} {h : List Part} {m : Int} (hk : HeapOk h) (hm0 : 0 ≤ m) (hm : m ≤ sumM h) (hl : h.length < 20) (hf : 200 ≤ f) : F93 f h m = some (takenL h (dealH m h), leftL h (dealH m h)) := by
  unfold F93
  by_cases h0 : m = 0
  · subst h0
    have : appC [] h = some h := by unfold appC; rw [if_pos (by simp; omega)]; rfl
    rw [dealH_zero hk, taken_zero, left_zero hk.2.1]
    simp [this]
  · have h0' : (m == 0) = false := by simpa using h0
    have hne : h ≠ [] := fun e => by subst e; simp [sumM] at hm; omega
    rw [h0', cond_false, F128_eq (by omega) (by omega)]
    simp only [Option.bind_some]
    rw [F126_eq (dealOk_heap hk hne hm0 hm hl) hf]
    simp only [Option.bind_some]
    have hd : dealS m (massesL h) = dealH m h := by unfold dealH; rw [if_neg hne]
    rw [hd]
    have := F93_l1_eq (dealH_len m h) hl hk.2.1 (dealH_bounds hk hm0 hm hl) f 0 [] [] (by omega) (by omega) (by simp; omega) (by simp; omega)
    simpa using this
end Go.Proofs.Ytlmgjjmighajdaa
set_option linter.unusedSimpArgs false
set_option linter.unusedVariables false
namespace Go.Proofs.Ytlmgjjmighajdaa
open Go.Sl Go.Sx
structure Small (holds : List (List (List Part))) : Prop where
  n9 : holds.length = 9
  len : ∀ l ∈ holds, l.length ≤ 100
  heaps : ∀ l ∈ holds, ∀ p ∈ l, p.length ≤ 100
theorem app_small {α : Type} {l m : List α} (h1 : l.length ≤ 1000) (h2 : m.length ≤ 1000) : appC l m = some (l ++ m) := by unfold appC; rw [if_pos (by omega)]
def rows (holds : List (List (List Part))) (i : Nat) (v : List (List Part)) : List (List (List Part)) := holds.take i ++ v :: List.replicate (8 - i) []
def rowsTo (holds : List (List (List Part))) (i : Nat) : List (List (List Part)) := holds.take i ++ List.replicate (9 - i) []
theorem mid_get {α : Type} (a : List α) (v : α) (b : List α) {i : Nat} (hi : a.length = i) : getI (a ++ v :: b) (i : Int) = some v := by
  subst hi; unfold getI; simp
theorem mid_set {α : Type} (a : List α) (v u : α) (b : List α) {i : Nat} (hi : a.length = i) : (a ++ v :: b).set (Int.toNat (i : Int)) u = a ++ u :: b := by
  subst hi; simp
theorem rowsTo_at (holds : List (List (List Part))) {i : Nat} (hi : i < 9) : rowsTo holds i = rows holds i [] := by
  unfold rowsTo rows
  have : 9 - i = (8 - i) + 1 := by omega
  rw [this, List.replicate_succ]
theorem rows_to {holds : List (List (List Part))} {i : Nat} (h9 : holds.length = 9) (hi : i < holds.length) : rows holds i holds[i] = rowsTo holds (i + 1) := by
  unfold rowsTo rows
  rw [List.take_succ_eq_append_getElem hi]
  have : 8 - i = 9 - (i + 1) := by omega
  rw [this]
  simp only [List.append_assoc, List.singleton_append]
theorem F85_l2_eq {f : Nat} {holds : List (List (List Part))} (hs : Small holds) {i : Nat} (hi : i < holds.length) (k1 : List (List (List Part)) → Int → Option (List Lot × List (List (List Part)))) (hf : 200 ≤ f) :
    F85_l2 k1 holds (i : Int) f (rowsTo holds i) 0 = k1 (rowsTo holds (i + 1)) (w64 ((i : Int) + 1)) := by
  have h9 := hs.n9
  have hli := hs.len _ (List.getElem_mem hi)
  have hlen : (holds.take i).length = i := by rw [List.length_take]; omega
  have key := from_st (T := fun n j => F85_l2 k1 holds (i : Int) n (rows holds i (holds[i].take j)) (j : Int)) (len := holds[i].length) (n := f) (out := k1 (rowsTo holds (i + 1)) (w64 ((i : Int) + 1))) (by omega)
    (fun n j hj => by
      have hp := hs.heaps _ (List.getElem_mem hi) _ (List.getElem_mem hj)
      simp only [F85_l2, getI_nat hi, Option.bind_some, lt_len, hj, decide_true, cond_true, getI_nat hj]
      unfold rows
      rw [mid_get _ _ _ hlen]
      simp only [Option.bind_some]
      rw [app_small (by simp) (by omega)]
      simp only [Option.bind_some, List.nil_append]
      rw [app_small (by simp; omega) (by simp)]
      simp only [Option.bind_some]
      rw [mid_set _ _ _ _ hlen, succ_w (by omega), ← List.take_succ_eq_append_getElem hj])
    (fun n => by simp only [F85_l2, getI_nat hi, Option.bind_some, lt_len, Nat.lt_irrefl, decide_false, cond_false, List.take_length, rows_to h9 hi])
  rw [rowsTo_at _ (by omega)]
  simpa using key
theorem F85_eq {f : Nat} {lots : List Lot} {holds : List (List (List Part))} (hs : Small holds) (hl : lots.length ≤ 100) (hf : 200 ≤ f) : F85 f lots holds = some (lots, holds) := by
  have h9 := hs.n9
  unfold F85
  rw [app_small (by simp) (by omega)]
  simp only [Option.bind_some, List.nil_append]
  have key := from_st (T := fun n i => F85_l1 f holds lots n (rowsTo holds i) (i : Int)) (len := 9) (n := f) (out := some (lots, holds)) (by omega)
    (fun n i hi => by
      have h1 : decide ((i : Int) < 9) = true := decide_eq_true (by omega)
      simp only [F85_l1, h1, cond_true]
      rw [F85_l2_eq hs (by omega) _ hf, succ_w (by omega)])
    (fun n => by
      have h1 : rowsTo holds 9 = holds := by unfold rowsTo; rw [List.take_of_length_le (by omega)]; simp
      simp [F85_l1, h1])
  exact key
def rowo (holds : List (List (List Part))) (i : Nat) (v : Option (List (List Part))) : List (Option (List (List Part))) := (holds.take i).map some ++ v :: List.replicate (8 - i) none
def rowoTo (holds : List (List (List Part))) (i : Nat) : List (Option (List (List Part))) := (holds.take i).map some ++ List.replicate (9 - i) none
theorem rowoTo_at (holds : List (List (List Part))) {i : Nat} (hi : i < 9) : rowoTo holds i = rowo holds i none := by
  unfold rowoTo rowo
  have : 9 - i = (8 - i) + 1 := by omega
  rw [this, List.replicate_succ]
theorem rowo_to {holds : List (List (List Part))} {i : Nat} (h9 : holds.length = 9) (hi : i < holds.length) : rowo holds i (some holds[i]) = rowoTo holds (i + 1) := by
  unfold rowoTo rowo
  rw [List.take_succ_eq_append_getElem hi]
  have : 8 - i = 9 - (i + 1) := by omega
  rw [this, List.map_append]
  simp only [List.map_cons, List.map_nil, List.append_assoc, List.singleton_append]
theorem F84_eq {f : Nat} {p : List Part} (h : p.length ≤ 100) : F84 f p = some p := by
  unfold F84
  rw [app_small (by simp) (by omega)]
  rfl
theorem F83_l2_eq {f : Nat} {holds : List (List (List Part))} (hs : Small holds) {i : Nat} (hi : i < holds.length) (k1 : List (Option (List (List Part))) → Int → Option (List Lot × List (List (List Part)))) (hf : 200 ≤ f) :
    F83_l2 f k1 (i : Int) holds[i] f (rowo holds i (some [])) 0 = k1 (rowoTo holds (i + 1)) (w64 ((i : Int) + 1)) := by
  have h9 := hs.n9
  have hli := hs.len _ (List.getElem_mem hi)
  have hlen : ((holds.take i).map some).length = i := by rw [List.length_map, List.length_take]; omega
  have key := from_st (T := fun n j => F83_l2 f k1 (i : Int) holds[i] n (rowo holds i (some (holds[i].take j))) (j : Int)) (len := holds[i].length) (n := f) (out := k1 (rowoTo holds (i + 1)) (w64 ((i : Int) + 1))) (by omega)
    (fun n j hj => by
      have hp := hs.heaps _ (List.getElem_mem hi) _ (List.getElem_mem hj)
      simp only [F83_l2, lt_len, hj, decide_true, cond_true, getI_nat hj, Option.bind_some, F84_eq hp]
      unfold rowo getO
      rw [mid_get _ _ _ hlen]
      simp only [Option.bind_some]
      rw [app_small (by simp; omega) (by simp)]
      simp only [Option.bind_some]
      rw [mid_set _ _ _ _ hlen, succ_w (by omega), ← List.take_succ_eq_append_getElem hj])
    (fun n => by simp only [F83_l2, lt_len, Nat.lt_irrefl, decide_false, cond_false, List.take_length, rowo_to h9 hi])
  simpa using key
theorem allS_some {γ : Type} : ∀ l : List γ, allS (l.map some) = some l
  | [] => rfl
  | x :: l => by simp [allS, allS_some l]
theorem F83_eq {f : Nat} {lots : List Lot} {holds : List (List (List Part))} (hs : Small holds) (hl : lots.length ≤ 100) (hf : 200 ≤ f) : F83 f lots holds = some (lots, holds) := by
  have h9 := hs.n9
  unfold F83
  have e1 : mkC ((lots.length : Nat) : Int) (⟨0, 0, 0, 0⟩ : Lot) = some (List.replicate lots.length ⟨0, 0, 0, 0⟩) := by
    unfold mkC
    rw [if_pos (by omega)]; simp
  have e2 : cpC (List.replicate lots.length (⟨0, 0, 0, 0⟩ : Lot)) lots = some () := by unfold cpC; rw [if_pos (by simp)]
  rw [e1]
  simp only [Option.bind_some, e2]
  have key := from_st (T := fun n i => F83_l1 f lots holds n (rowoTo holds i) (i : Int)) (len := 9) (n := f) (out := some (lots, holds)) (by omega)
    (fun n i hi => by
      have h1 : decide ((i : Int) < 9) = true := decide_eq_true (by omega)
      have hi' : i < holds.length := by omega
      have hlen : ((holds.take i).map some).length = i := by rw [List.length_map, List.length_take]; omega
      simp only [F83_l1, h1, cond_true, getI_nat hi', Option.bind_some]
      rw [rowoTo_at _ hi]
      unfold rowo
      rw [mid_get _ _ _ hlen, mid_set _ _ _ _ hlen]
      have := F83_l2_eq hs hi' (F83_l1 f lots holds n) hf
      unfold rowo at this
      simp only [Option.bind_some]
      rw [this, succ_w (by omega)])
    (fun n => by
      have h1 : rowoTo holds 9 = holds.map some := by unfold rowoTo; rw [List.take_of_length_le (by omega)]; simp
      simp [F83_l1, h1, allS_some])
  exact key
end Go.Proofs.Ytlmgjjmighajdaa
