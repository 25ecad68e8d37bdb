/-
  A part of the walk and of the plain law of one given statement. No condition.
-/
import Derived.Test.YtlmgjjmighajdaaJC
import Derived.Test.YtlmgjjmighajdaaDL
import Derived.Test.YtlmgjjmighajdaaE0
import Derived.ProofKit
import Derived.OpenShut
import Derived.Stop.Joined
import Derived.Deep.Slices
set_option linter.unusedVariables false
namespace Go.Proofs.Ytlmgjjmighajdaa
open Go.Sl Go.Sx
def F126_j1 (k1 : Int → Int → Option (List Int)) (y1 : Int) (y2 : Int) : Option (List Int) :=
  (k1 y2 (w64 (y1 + (1 : Int))))
def F126_j2 (k1 : Int → Int → Option (List Int)) (y3 : Int) (y1 : Int) (y4 : Bool) : Option (List Int) :=
  (cond y4 (F126_j1 k1 y1 y1) (F126_j1 k1 y1 y3))
def F126_l4 (k2 : (List Bool) → (List Int) → Int → Option (List Int)) (x0 : Int) (x1 : List Int) (y5 : Int) (y6 : List Bool) (y7 : List Int) (y8 : Int) : Nat → Int → Int → Option (List Int)
  | 0, _, _ => none
  | n1 + 1, y3, y1 =>
    let k1 : Int → Int → Option (List Int) := F126_l4 k2 x0 x1 y5 y6 y7 y8 n1
    (cond (decide (y1 < (x1.length : Int))) ((getI y6 y1).bind fun p1 => (cond (!p1) (cond (decide (y3 < (0 : Int))) (F126_j2 k1 y3 y1 true) ((getI x1 y1).bind fun p2 => ((nz y5).bind fun _ => ((getI x1 y3).bind fun p3 => ((nz y5).bind fun _ => (F126_j2 k1 y3 y1 (decide ((Int.tmod (w64 (x0 * p2)) y5) > (Int.tmod (w64 (x0 * p3)) y5))))))))) (F126_j2 k1 y3 y1 false))) ((getI y6 y3).bind fun p4 => ((setI y6 y3 true).bind fun d1 => ((getI y7 y3).bind fun p5 => ((getI y7 y3).bind fun p6 => ((setI y7 y3 (w64 (p5 + (1 : Int)))).bind fun d2 => (k2 d1 d2 (w64 (y8 - (1 : Int))))))))))
def F126_l3 (fuel : Nat) (x0 : Int) (x1 : List Int) (y5 : Int) : Nat → (List Bool) → (List Int) → Int → Option (List Int)
  | 0, _, _, _ => none
  | n2 + 1, y6, y7, y8 =>
    let k2 : (List Bool) → (List Int) → Int → Option (List Int) := F126_l3 fuel x0 x1 y5 n2
    (cond (decide (y8 > (0 : Int))) (F126_l4 k2 x0 x1 y5 y6 y7 y8 fuel (-1) 0) (some (y7)))
def F126_l2 (fuel : Nat) (x0 : Int) (x1 : List Int) (y5 : Int) : Nat → (List Int) → Int → Int → Option (List Int)
  | 0, _, _, _ => none
  | n3 + 1, y9, y10, y11 =>
    let k3 : (List Int) → Int → Int → Option (List Int) := F126_l2 fuel x0 x1 y5 n3
    (cond (decide (y11 < (x1.length : Int))) ((getI x1 y11).bind fun p7 => ((nz y5).bind fun _ => ((appC y9 ([(w64 (Int.tdiv (w64 (x0 * p7)) y5))])).bind fun d3 => (k3 d3 (w64 (y10 - (w64 (Int.tdiv (w64 (x0 * p7)) y5)))) (w64 (y11 + (1 : Int))))))) ((mkC (x1.length : Int) false).bind fun d4 => (F126_l3 fuel x0 x1 y5 fuel d4 y9 y10)))
def F126_l1 (fuel : Nat) (x0 : Int) (x1 : List Int) : Nat → Int → Int → Option (List Int)
  | 0, _, _ => none
  | n4 + 1, y5, y12 =>
    let k4 : Int → Int → Option (List Int) := F126_l1 fuel x0 x1 n4
    (cond (decide (y12 < (x1.length : Int))) ((getI x1 y12).bind fun p8 => (k4 (w64 (y5 + p8)) (w64 (y12 + (1 : Int))))) (F126_l2 fuel x0 x1 y5 fuel ([]) x0 0))
def F126 (fuel : Nat) (x0 : Int) (x1 : List Int) : Option (List Int) :=
  (F126_l1 fuel x0 x1 fuel 0 0)
set_option maxRecDepth 100000 in
theorem f126_ok (fuel : Nat) (x0 : Int) (x1 : List Int) (r : List Int) (hr : F126 fuel x0 x1 = some r) (h : Zone) (L : List Atom) (w : World) (hS : St h L w) (o_x1 : Option Addr) (c_x1 : Nat) (hx_x1 : SliceR Ty.int h o_x1 c_x1 x1) :
    Calls Try.prog 126 #[vI x0, .slice o_x1 x1.length c_x1] w fun e w' => ∃ v, e = .returned v ∧ (∃ h', ∃ o0 : Option Addr, ∃ c0 : Nat, Zone.le h h' ∧ v = .slice o0 r.length c0 ∧ St h' L w' ∧ SliceR Ty.int h' o0 c0 r) := by
 refine calls_intro (N := 100) Try.func126 (by kernel_rfl) fun a hf => ?_
 refine c_sq [] [0, 1] hf .nil fun a1 hf1 => ?_
 refine c_sq [] [0, 1, 5] hf1 .nil fun a2 hf2 => ?_
 refine c_seq ?_
 refine c_sq [] [0, 1, 5, 6] hf2 .nil fun a3 hf3 => ?_
 refine c_block 0 ?_
 refine c_loop (fun n a w => ∃ z1 : Zone, ∃ y5 : Int, ∃ y12 : Int, Zone.le h z1 ∧ Fr a 100 [(0, vI x0), (1, .slice o_x1 x1.length c_x1), (5, vI y5), (6, vI y12)] ∧ St z1 (L) w ∧ (F126_l1 fuel x0 x1 n y5 y12) = some r) fuel ⟨h, 0, 0, zr, hf3.to, hS, hr⟩ ?_
 rintro n5 a4 ww1 ⟨z1, y5, y12, k5, hf5, hS1, hr1⟩
 cases n5 with
 | zero => cases hr1
 | succ n4 =>
 refine c_seq ?_
 refine c_sq [] [0, 1, 5, 6, 17] hf5 .nil fun a5 hf6 => ?_
 refine c_if (decide (y12 < (x1.length : Int))) hf6 (fun hb1 => ?_) (fun hb1 => ?_)
 ·have hr2 := cond_t hb1 hr1
  refine c_skip ?_
  refine n_then ?_
  refine c_seq ?_
  refine c_block 1 ?_
  obtain ⟨p8, hp304, hr3⟩ := bind_some hr2
  obtain ⟨ad1, ho1, hb2, cc1, hc1, hk1⟩ := SliceR.getI (SliceR.mono k5 hx_x1) hp304
  subst hc1
  refine c_q [.pointer (some ad1), vI p8] [0, 1, 5, 6] hf6 (.prop ho1 (.prop hb2 (.cell (hS1.cell (hk1 0 _ rfl)) .nil))) fun a6 hf7 => ?_
  refine n_block ?_
  refine n_then ?_
  refine c_q [] [0, 1, 5, 6] hf7 .nil fun a7 hf8 => ?_
  refine n_then ?_
  exact ⟨n4, Nat.lt_succ_self n4, z1, (w64 (y5 + p8)), (w64 (y12 + (1 : Int))), k5, hf8.to, hS1, hr3⟩
 ·have hr4 := cond_f hb1 hr1
  refine c_exit 0 ?_
  refine x_then ?_
  refine x_then ?_
  refine x_block ?_
  refine n_then ?_
  refine c_sq [] [0, 1, 5, 7] hf6 .nil fun a8 hf10 => ?_
  refine c_sq [] [0, 1, 5, 7, 8] hf10 .nil fun a9 hf11 => ?_
  refine c_seq ?_
  refine c_sq [] [0, 1, 5, 7, 8, 9] hf11 .nil fun a10 hf12 => ?_
  refine c_block 2 ?_
  have hS2 := hS1.ownNil Ty.int 3
  refine c_loop (fun n a w => ∃ z2 : Zone, ∃ y9 : List Int, ∃ y10 : Int, ∃ y11 : Int, ∃ e1 : Option Addr, ∃ q1 : Nat, Zone.le z1 z2 ∧ Fr a 100 [(0, vI x0), (1, .slice o_x1 x1.length c_x1), (5, vI y5), (7, .slice e1 y9.length q1), (8, vI y10), (9, vI y11)] ∧ St z2 (ownS Ty.int 3 e1 q1 y9 :: L) w ∧ (F126_l2 fuel x0 x1 y5 n y9 y10 y11) = some r) fuel ⟨z1, [], x0, 0, none, 0, zr, hf12.to, hS2, hr4⟩ ?_
  rintro n6 a11 ww2 ⟨z2, y9, y10, y11, e1, q1, k6, hf14, hS3, hr5⟩
  cases n6 with
  | zero => cases hr5
  | succ n3 =>
  refine c_seq ?_
  refine c_sq [] [0, 1, 5, 7, 8, 9, 30] hf14 .nil fun a12 hf15 => ?_
  refine c_if (decide (y11 < (x1.length : Int))) hf15 (fun hb3 => ?_) (fun hb3 => ?_)
  ·have hr6 := cond_t hb3 hr5
   refine c_skip ?_
   refine n_then ?_
   refine c_seq ?_
   refine c_block 3 ?_
   obtain ⟨p7, hp1269, hr7⟩ := bind_some hr6
   obtain ⟨ad2, ho2, hb4, cc2, hc2, hk2⟩ := SliceR.getI (SliceR.mono (zt k5 k6) hx_x1) hp1269
   subst hc2
   obtain ⟨u1, hd1, hr8⟩ := bind_some hr7
   refine c_sq [.pointer (some ad2), vI p7] [0, 1, 5, 7, 8, 9, 10] hf15 (.prop ho2 (.prop hb4 (.cell (hS3.cell (hk2 0 _ rfl)) (.prop (nz_spec hd1) .nil)))) fun a13 hf16 => ?_
   refine c_sr ?_
   refine c_n 2 [] [0, 1, 5, 8, 9, 10, 41, 42] hf16 .nil fun a14 hf17 => ?_
   refine p_box (i := 2) (d := (some 43)) (cs := [vI (w64 (Int.tdiv (w64 (x0 * p7)) y5))]) (T := 3) (v := fun b1 => .slice (some ⟨b1, 0, none⟩) 1 1) hS3 hf17 (fun b => by kernel_rfl) fun b1 ww3 a15 hS4 hf18 => ⟨fun _ => trivial, ?_⟩
   have hS5 := hS4.ownBox (T := Ty.int) (E := 3) (n := 1) (xs := [(w64 (Int.tdiv (w64 (x0 * p7)) y5))]) (i := 0) rfl (Rows.cons (c := [vI (w64 (Int.tdiv (w64 (x0 * p7)) y5))]) rfl rfl) rfl (by decide)
   obtain ⟨d3, hd2, hr9⟩ := bind_some hr8
   refine p_append (T := Ty.int) (i := 3) (j := 1) (d := some 44) (o2 := (some ⟨b1, 0, none⟩)) (c2 := 1) (ys := ([(w64 (Int.tdiv (w64 (x0 * p7)) y5))])) el53 hS5 hf18 rfl (by kernel_rfl) (hS5.ownSrc (j := 0) rfl) hd2 fun e2 q2 ww4 a16 hS6 hf19 => ⟨fun _ => trivial, ?_⟩
   refine c_t [] [0, 1, 5, 7, 8, 9, 10] hf19 .nil fun a17 hf20 => ?_
   refine c_q [] [0, 1, 5, 7, 8, 9] hf20 .nil fun a18 hf21 => ?_
   refine n_block ?_
   refine n_then ?_
   refine c_q [] [0, 1, 5, 7, 8, 9] hf21 .nil fun a19 hf22 => ?_
   refine n_then ?_
   exact ⟨n3, Nat.lt_succ_self n3, z2, d3, (w64 (y10 - (w64 (Int.tdiv (w64 (x0 * p7)) y5)))), (w64 (y11 + (1 : Int))), e2, q2, k6, hf22.to, (St.drop 1 hS6), hr9⟩
  ·have hr10 := cond_f hb3 hr5
   refine c_exit 2 ?_
   refine x_then ?_
   refine x_then ?_
   refine x_block ?_
   refine n_then ?_
   refine c_sr ?_
   refine c_n 2 [] [0, 1, 5, 7, 8, 49] hf15 .nil fun a20 hf24 => ?_
   obtain ⟨d4, hd3, hr11⟩ := bind_some hr10
   refine p_make (T := Ty.bool) (i := 2) (d := some 50) (x0 := false) el178 hS3 hf24 (by kernel_rfl) rfl hd3 fun e3 ww5 a21 hS7 hf25 => ⟨fun _ => trivial, ?_⟩
   refine c_t [] [0, 1, 5, 7, 8, 11] hf25 .nil fun a22 hf26 => ?_
   refine c_seq ?_
   refine c_block 4 ?_
   refine c_loop (fun n a w => ∃ z3 : Zone, ∃ y6 : List Bool, ∃ y7 : List Int, ∃ y8 : Int, Zone.le z2 z3 ∧ Fr a 100 [(0, vI x0), (1, .slice o_x1 x1.length c_x1), (5, vI y5), (7, .slice e1 y7.length q1), (8, vI y8), (11, .slice (some e3) y6.length d4.length)] ∧ St z3 (ownS Ty.bool 4 (some e3) d4.length y6 :: ownS Ty.int 3 e1 q1 y7 :: L) w ∧ y6.length = d4.length ∧ y7.length = y9.length ∧ (F126_l3 fuel x0 x1 y5 n y6 y7 y8) = some r) fuel ⟨z2, d4, y9, y10, zr, hf26.to, hS7, rfl, rfl, hr11⟩ ?_
   rintro n7 a23 ww6 ⟨z3, y6, y7, y8, k7, hf28, hS8, hl1, hl2, hr12⟩
   cases n7 with
   | zero => cases hr12
   | succ n2 =>
   refine c_seq ?_
   refine c_sq [] [0, 1, 5, 7, 8, 11, 52] hf28 .nil fun a24 hf29 => ?_
   refine c_if (decide (y8 > (0 : Int))) hf29 (fun hb5 => ?_) (fun hb5 => ?_)
   ·have hr13 := cond_t hb5 hr12
    refine c_skip ?_
    refine n_then ?_
    refine c_block 5 ?_
    refine c_sq [] [0, 1, 5, 7, 8, 11, 12] hf29 .nil fun a25 hf30 => ?_
    refine c_seq ?_
    refine c_sq [] [0, 1, 5, 7, 8, 11, 12, 13] hf30 .nil fun a26 hf31 => ?_
    refine c_block 6 ?_
    refine c_loop (fun n a w => ∃ z4 : Zone, ∃ y3 : Int, ∃ y1 : Int, Zone.le z3 z4 ∧ Fr a 100 [(0, vI x0), (1, .slice o_x1 x1.length c_x1), (5, vI y5), (7, .slice e1 y7.length q1), (8, vI y8), (11, .slice (some e3) y6.length d4.length), (12, vI y3), (13, vI y1)] ∧ St z4 (ownS Ty.bool 4 (some e3) d4.length y6 :: ownS Ty.int 3 e1 q1 y7 :: L) w ∧ (F126_l4 (F126_l3 fuel x0 x1 y5 n2) x0 x1 y5 y6 y7 y8 n y3 y1) = some r) fuel ⟨z3, -1, 0, zr, hf31.to, hS8, hr13⟩ ?_
    rintro n8 a27 ww7 ⟨z4, y3, y1, k8, hf33, hS9, hr14⟩
    cases n8 with
    | zero => cases hr14
    | succ n1 =>
    refine c_seq ?_
    refine c_sq [] [0, 1, 5, 7, 8, 11, 12, 13, 56] hf33 .nil fun a28 hf34 => ?_
    refine c_if (decide (y1 < (x1.length : Int))) hf34 (fun hb6 => ?_) (fun hb6 => ?_)
    ·have hr15 := cond_t hb6 hr14
     refine c_skip ?_
     refine n_then ?_
     refine c_mid (fun a w => ∃ z5 : Zone, ∃ y2 : Int, Zone.le z4 z5 ∧ Fr a 100 [(0, vI x0), (1, .slice o_x1 x1.length c_x1), (5, vI y5), (7, .slice e1 y7.length q1), (8, vI y8), (11, .slice (some e3) y6.length d4.length), (12, vI y2), (13, vI y1)] ∧ St z5 (ownS Ty.bool 4 (some e3) d4.length y6 :: ownS Ty.int 3 e1 q1 y7 :: L) w ∧ (F126_j1 (F126_l4 (F126_l3 fuel x0 x1 y5 n2) x0 x1 y5 y6 y7 y8 n1) y1 y2) = some r) ?_ ?_
     ·skip
      refine c_block 7 ?_
      refine c_mid (fun a w => ∃ z6 : Zone, ∃ y4 : Bool, Zone.le z4 z6 ∧ Fr a 100 [(0, vI x0), (1, .slice o_x1 x1.length c_x1), (5, vI y5), (7, .slice e1 y7.length q1), (8, vI y8), (11, .slice (some e3) y6.length d4.length), (12, vI y3), (13, vI y1), (86, .bool y4)] ∧ St z6 (ownS Ty.bool 4 (some e3) d4.length y6 :: ownS Ty.int 3 e1 q1 y7 :: L) w ∧ (F126_j2 (F126_l4 (F126_l3 fuel x0 x1 y5 n2) x0 x1 y5 y6 y7 y8 n1) y3 y1 y4) = some r) ?_ ?_
      ·skip
       have hS10 := hS9.drew
       refine c_regD [(0, true), (1, true), (2, true), (3, true), (4, true), (5, true), (6, true), (7, true), (8, true), (9, true), (10, true), (11, true), (12, true), (13, true), (14, true), (15, true), (16, true), (17, true), (18, true), (19, true), (20, true), (21, true), (22, true), (23, true), (24, true), (25, true), (26, true), (27, true)] [] (fun x => x = ww7.drew) rfl ?_
       obtain ⟨p1, hp26420, hr16⟩ := bind_some hr15
       obtain ⟨ad3, ho3, hb7, cc3, hc3, hk3⟩ := hS10.ownGet (j := 0) rfl hp26420
       subst hc3
       refine c_E 6 [.pointer (some ad3), .bool p1] [0, 1, 5, 7, 8, 11, 12, 13, 64] hf34 (.prop ho3 (.prop hb7 (.cell (hk3 0 _ rfl) .nil))) .nil fun a29 hf35 => ?_
       rcases bft (!p1) with hb8 | hb8
       ·have hr17 := cond_t hb8 hr16
        have hf36 := hf35.lit 64 hb8
        refine c_E 3 [] [0, 1, 5, 7, 8, 11, 12, 13, 64, 67] hf36 .nil .nil fun a30 hf37 => ?_
        rcases bft (decide (y3 < (0 : Int))) with hb9 | hb9
        ·have hr18 := cond_t hb9 hr17
         have hf38 := hf37.lit 67 hb9
         refine c_tE [] [0, 1, 5, 7, 8, 11, 12, 13, 86] hf38 .nil .nil fun a31 hf39 => ?_
         exact ⟨z4, true, zr, hf39.to, hS10, hr18⟩
        ·have hr19 := cond_f hb9 hr17
         have hf41 := hf37.lit 67 hb9
         obtain ⟨p2, hp26444, hr20⟩ := bind_some hr19
         obtain ⟨ad4, ho4, hb10, cc4, hc4, hk4⟩ := SliceR.getI (SliceR.mono (zt (zt (zt k5 k6) k7) k8) hx_x1) hp26444
         subst hc4
         obtain ⟨u2, hd4, hr21⟩ := bind_some hr20
         obtain ⟨p3, hp26456, hr22⟩ := bind_some hr21
         obtain ⟨ad5, ho5, hb11, cc5, hc5, hk5⟩ := SliceR.getI (SliceR.mono (zt (zt (zt k5 k6) k7) k8) hx_x1) hp26456
         subst hc5
         obtain ⟨u3, hd5, hr23⟩ := bind_some hr22
         refine c_tE [.pointer (some ad4), vI p2, .pointer (some ad5), vI p3] [0, 1, 5, 7, 8, 11, 12, 13, 86] hf41 (.prop ho4 (.prop hb10 (.cell (hS10.cell (hk4 0 _ rfl)) (.prop (nz_spec hd4) (.prop ho5 (.prop hb11 (.cell (hS10.cell (hk5 0 _ rfl)) (.prop (nz_spec hd5) .nil)))))))) .nil fun a32 hf42 => ?_
         exact ⟨z4, (decide ((Int.tmod (w64 (x0 * p2)) y5) > (Int.tmod (w64 (x0 * p3)) y5))), zr, hf42.to, hS10, hr23⟩
       ·have hr24 := cond_f hb8 hr16
        have hf44 := hf35.lit 64 hb8
        refine c_tE [] [0, 1, 5, 7, 8, 11, 12, 13, 86] hf44 .nil .nil fun a33 hf45 => ?_
        exact ⟨z4, false, zr, hf45.to, hS10, hr24⟩
      ·rintro a34 ww8 ⟨z6, y4, k9, hf47, hS11, hr25⟩
       refine c_if y4 hf47 (fun hb12 => ?_) (fun hb12 => ?_)
       ·have hr26 := cond_t hb12 hr25
        refine c_q [] [0, 1, 5, 7, 8, 11, 12, 13] hf47 .nil fun a35 hf48 => ?_
        refine n_block ?_
        refine n_then ?_
        exact ⟨z6, y1, k9, hf48.to, hS11, hr26⟩
       ·have hr27 := cond_f hb12 hr25
        refine c_skip ?_
        refine n_block ?_
        refine n_then ?_
        exact ⟨z6, y3, k9, hf47.to, hS11, hr27⟩
     ·rintro a36 ww9 ⟨z5, y2, k10, hf51, hS12, hr28⟩
      refine c_q [] [0, 1, 5, 7, 8, 11, 12, 13] hf51 .nil fun a37 hf52 => ?_
      refine n_then ?_
      exact ⟨n1, Nat.lt_succ_self n1, z5, y2, (w64 (y1 + (1 : Int))), (zt k8 k10), hf52.to, hS12, hr28⟩
    ·have hr29 := cond_f hb6 hr14
     refine c_exit 6 ?_
     refine x_then ?_
     refine x_then ?_
     refine x_block ?_
     refine n_then ?_
     refine c_sr ?_
     obtain ⟨p4, hp26486, hr30⟩ := bind_some hr29
     obtain ⟨ad6, ho6, hb13, cc6, hc6, hk6⟩ := hS9.ownGet (j := 0) rfl hp26486
     subst hc6
     refine c_n 3 [.pointer (some ad6)] [0, 1, 5, 7, 8, 11, 12, 90] hf34 (.prop ho6 (.prop hb13 .nil)) fun a38 hf54 => ?_
     obtain ⟨d1, hd6, hr31⟩ := bind_some hr30
     have hl3 := setI_len hd6
     refine p_setOwnB (i := 3) (j := 0) (ad := ad6) (ix := y3) (x' := true) hS9 hf54 rfl ho6 (by kernel_rfl) hd6 fun ww10 a39 hS13 hf55 => ?_
     have hf56 := Fr.conv (fl' := [(0, vI x0), (1, .slice o_x1 x1.length c_x1), (5, vI y5), (7, .slice e1 y7.length q1), (8, vI y8), (11, .slice (some e3) d1.length d4.length), (12, vI y3), (90, .pointer (some (ad6.add (Int.toNat y3 * 1))))]) hf55 (by rw [hl3] <;> kernel_rfl)
     refine ⟨fun _ => trivial, ?_⟩
     refine c_dt ?_
     refine c_sr ?_
     obtain ⟨p5, hp26506, hr32⟩ := bind_some hr31
     obtain ⟨ad7, ho7, hb14, cc7, hc7, hk7⟩ := hS13.ownGet (j := 1) rfl hp26506
     subst hc7
     obtain ⟨p6, hp26515, hr33⟩ := bind_some hr32
     obtain ⟨ad8, ho8, hb15, cc8, hc8, hk8⟩ := hS13.ownGet (j := 1) rfl hp26515
     subst hc8
     refine c_n 6 [.pointer (some ad7), vI p5, .pointer (some ad8)] [0, 1, 5, 7, 8, 11, 95, 96] hf56 (.prop ho7 (.prop hb14 (.cell (hk7 0 _ rfl) (.prop ho8 (.prop hb15 .nil))))) fun a40 hf57 => ?_
     obtain ⟨d2, hd7, hr34⟩ := bind_some hr33
     have hl4 := setI_len hd7
     refine p_setOwnI (i := 6) (j := 1) (ad := ad8) (ix := y3) (x' := (w64 (p5 + (1 : Int)))) hS13 hf57 rfl ho8 (by kernel_rfl) hd7 fun ww11 a41 hS14 hf58 => ?_
     have hf59 := Fr.conv (fl' := [(0, vI x0), (1, .slice o_x1 x1.length c_x1), (5, vI y5), (7, .slice e1 d2.length q1), (8, vI y8), (11, .slice (some e3) d1.length d4.length), (95, vI (w64 (p5 + (1 : Int)))), (96, .pointer (some (ad8.add (Int.toNat y3 * 1))))]) hf58 (by rw [hl4] <;> kernel_rfl)
     refine ⟨fun _ => trivial, ?_⟩
     refine c_dt ?_
     refine c_q [] [0, 1, 5, 7, 8, 11] hf59 .nil fun a42 hf60 => ?_
     refine n_block ?_
     refine n_then ?_
     exact ⟨n2, Nat.lt_succ_self n2, z4, d1, d2, (w64 (y8 - (1 : Int))), (zt k7 k8), hf60.to, hS14, (hl3.symm.trans hl1), (hl4.symm.trans hl2), hr34⟩
   ·have hr35 := cond_f hb5 hr12
    refine c_exit 4 ?_
    refine x_then ?_
    refine x_then ?_
    refine x_block ?_
    refine n_then ?_
    refine c_sq [] [4] hf29 .nil fun a43 hf62 => ?_
    refine c_ret ?_
    obtain ⟨z7, k11, hS15, hx1⟩ := hS8.share (j := 1) rfl
    refine c_rt [] (.slice e1 y7.length q1) hf62 .nil ?_
    obtain rfl := some_eq hr35
    exact ⟨_, rfl, z7, e1, q1, (zt (zt (zt k5 k6) k7) k11), rfl, (St.drop 2 hS15), hx1⟩
def F128_l1 (x0 : List Part) : Nat → (List Int) → Int → Option (List Int)
  | 0, _, _ => none
  | n1 + 1, y1, y2 =>
    let k1 : (List Int) → Int → Option (List Int) := F128_l1 x0 n1
    (cond (decide (y2 < (x0.length : Int))) ((getI x0 y2).bind fun p1 => ((appC y1 ([p1.mass])).bind fun d1 => (k1 d1 (w64 (y2 + (1 : Int)))))) (some (y1)))
def F128 (fuel : Nat) (x0 : List Part) : Option (List Int) :=
  (F128_l1 x0 fuel ([]) 0)
set_option maxRecDepth 100000 in
theorem f128_ok (fuel : Nat) (x0 : List Part) (r : List Int) (hr : F128 fuel x0 = some r) (h : Zone) (L : List Atom) (w : World) (hS : St h L w) (o_x0 : Option Addr) (c_x0 : Nat) (hx_x0 : SliceR PartT h o_x0 c_x0 x0) :
    Calls Try.prog 128 #[.agg #[.slice o_x0 x0.length c_x0]] w fun e w' => ∃ v, e = .returned v ∧ (∃ h', ∃ o0 : Option Addr, ∃ c0 : Nat, Zone.le h h' ∧ v = .slice o0 r.length c0 ∧ St h' L w' ∧ SliceR Ty.int h' o0 c0 r) := by
 refine calls_intro (N := 22) Try.func128 (by kernel_rfl) fun a hf => ?_
 refine c_sr ?_
 refine c_box [.slice o_x0 x0.length c_x0] 40 hS hf fun b1 ww1 a1 hS1 hf1 => ⟨fun _ => trivial, ?_⟩
 refine c_t [] [1] hf1 .nil fun a2 hf2 => ?_
 refine c_sq [] [1, 3] hf2 .nil fun a3 hf3 => ?_
 refine c_seq ?_
 refine c_sq [] [1, 3, 4] hf3 .nil fun a4 hf4 => ?_
 refine c_block 0 ?_
 have hS2 := hS1.ownNil Ty.int 3
 refine c_loop (fun n a w => ∃ z1 : Zone, ∃ y1 : List Int, ∃ y2 : Int, ∃ e1 : Option Addr, ∃ q1 : Nat, Zone.le h z1 ∧ Fr a 22 [(1, pB b1 0), (3, .slice e1 y1.length q1), (4, vI y2)] ∧ St z1 (ownS Ty.int 3 e1 q1 y1 :: box b1 [.slice o_x0 x0.length c_x0] 40 :: L) w ∧ (F128_l1 x0 n y1 y2) = some r) fuel ⟨h, [], 0, none, 0, zr, hf4.to, hS2, hr⟩ ?_
 rintro n2 a5 ww2 ⟨z1, y1, y2, e1, q1, k2, hf6, hS3, hr1⟩
 cases n2 with
 | zero => cases hr1
 | succ n1 =>
 refine c_seq ?_
 refine c_sq [.slice o_x0 x0.length c_x0] [1, 3, 4, 9] hf6 (.cell (hS3.box (i := 1) rfl (j := 0) rfl) .nil) fun a6 hf7 => ?_
 refine c_if (decide (y2 < (x0.length : Int))) hf7 (fun hb1 => ?_) (fun hb1 => ?_)
 ·have hr2 := cond_t hb1 hr1
  refine c_skip ?_
  refine n_then ?_
  refine c_seq ?_
  refine c_block 1 ?_
  refine c_reg ?_
  obtain ⟨p1, hp819, hr3⟩ := bind_some hr2
  obtain ⟨ad1, ho1, hb2, cc1, hc1, hk1⟩ := SliceR.getI (SliceR.mono k2 hx_x0) hp819
  subst hc1
  refine c_n 7 [.slice o_x0 x0.length c_x0, .pointer (some ad1), vI p1.mass] [1, 4, 12, 18] hf7 (.cell (hS3.box (i := 1) rfl (j := 0) rfl) (.prop ho1 (.prop hb2 (.cell (hS3.cell (hk1 1 _ rfl)) .nil)))) fun a7 hf8 => ?_
  refine p_box (i := 7) (d := (some 19)) (cs := [vI p1.mass]) (T := 3) (v := fun b2 => .slice (some ⟨b2, 0, none⟩) 1 1) hS3 hf8 (fun b => by kernel_rfl) fun b2 ww3 a8 hS4 hf9 => ⟨fun _ => trivial, ?_⟩
  have hS5 := hS4.ownBox (T := Ty.int) (E := 3) (n := 1) (xs := [p1.mass]) (i := 0) rfl (Rows.cons (c := [vI p1.mass]) rfl rfl) rfl (by decide)
  obtain ⟨d1, hd1, hr4⟩ := bind_some hr3
  refine p_append (T := Ty.int) (i := 8) (j := 1) (d := some 20) (o2 := (some ⟨b2, 0, none⟩)) (c2 := 1) (ys := ([p1.mass])) el53 hS5 hf9 rfl (by kernel_rfl) (hS5.ownSrc (j := 0) rfl) hd1 fun e2 q2 ww4 a9 hS6 hf10 => ⟨fun _ => trivial, ?_⟩
  refine c_z [] [1, 3, 4] hf10 .nil fun a10 hf11 => ?_
  refine n_block ?_
  refine n_then ?_
  refine c_q [] [1, 3, 4] hf11 .nil fun a11 hf12 => ?_
  refine n_then ?_
  exact ⟨n1, Nat.lt_succ_self n1, z1, d1, (w64 (y2 + (1 : Int))), e2, q2, k2, hf12.to, (St.drop 1 hS6), hr4⟩
 ·have hr5 := cond_f hb1 hr1
  refine c_exit 0 ?_
  refine x_then ?_
  refine x_then ?_
  refine x_block ?_
  refine n_then ?_
  refine c_sq [] [2] hf7 .nil fun a12 hf14 => ?_
  refine c_ret ?_
  obtain ⟨z2, k3, hS7, hx1⟩ := hS3.share (j := 0) rfl
  refine c_rt [] (.slice e1 y1.length q1) hf14 .nil ?_
  obtain rfl := some_eq hr5
  exact ⟨_, rfl, z2, e1, q1, (zt k2 k3), rfl, (St.drop 2 hS7), hx1⟩
def F93_j1 (k1 : (List Part) → (List Part) → Int → Option (List Part × List Part)) (y1 : Int) (y2 : List Part) (y3 : List Part) : Option (List Part × List Part) :=
  (k1 y2 y3 (w64 (y1 + (1 : Int))))
def F93_j2 (k1 : (List Part) → (List Part) → Int → Option (List Part × List Part)) (r1 : List Int) (y4 : List Part) (y1 : Int) (p1 : Part) (y5 : List Part) : Option (List Part × List Part) :=
  ((getI r1 y1).bind fun p2 => (cond (decide (p1.mass > p2)) ((getI r1 y1).bind fun p3 => ((appC y4 ([⟨p1.lot, (w64 (p1.mass - p3))⟩])).bind fun d1 => (F93_j1 k1 y1 y5 d1))) (F93_j1 k1 y1 y5 y4)))
def F93_l1 (x0 : List Part) (r1 : List Int) : Nat → (List Part) → (List Part) → Int → Option (List Part × List Part)
  | 0, _, _, _ => none
  | n1 + 1, y6, y4, y1 =>
    let k1 : (List Part) → (List Part) → Int → Option (List Part × List Part) := F93_l1 x0 r1 n1
    (cond (decide (y1 < (x0.length : Int))) ((getI x0 y1).bind fun p1 => ((getI r1 y1).bind fun p4 => (cond (decide (p4 > (0 : Int))) ((getI r1 y1).bind fun p5 => ((appC y6 ([⟨p1.lot, p5⟩])).bind fun d2 => (F93_j2 k1 r1 y4 y1 p1 d2))) (F93_j2 k1 r1 y4 y1 p1 y6)))) (some (y6, y4)))
def F93 (fuel : Nat) (x0 : List Part) (x1 : Int) : Option (List Part × List Part) :=
  (cond (x1 == (0 : Int)) ((appC ([]) x0).bind fun d3 => (some ([], d3))) ((F128 fuel x0).bind fun r2 => ((F126 fuel x1 r2).bind fun r1 => (F93_l1 x0 r1 fuel ([]) ([]) 0))))
set_option maxRecDepth 100000 in
theorem f93_ok (fuel : Nat) (x0 : List Part) (x1 : Int) (r : List Part × List Part) (hr : F93 fuel x0 x1 = some r) (h : Zone) (L : List Atom) (w : World) (hS : St h L w) (o_x0 : Option Addr) (c_x0 : Nat) (hx_x0 : SliceR PartT h o_x0 c_x0 x0) :
    Calls Try.prog 93 #[.agg #[.slice o_x0 x0.length c_x0], vI x1] w fun e w' => ∃ v, e = .returned v ∧ (∃ h', ∃ o0 : Option Addr, ∃ c0 : Nat, ∃ o1 : Option Addr, ∃ c1 : Nat, Zone.le h h' ∧ v = .tuple #[.agg #[.slice o0 r.1.length c0], .agg #[.slice o1 r.2.length c1]] ∧ St h' L w' ∧ SliceR PartT h' o0 c0 r.1 ∧ SliceR PartT h' o1 c1 r.2) := by
 refine calls_intro (N := 78) Try.func93 (by kernel_rfl) fun a hf => ?_
 refine c_sr ?_
 refine c_box [.slice o_x0 x0.length c_x0] 40 hS hf fun b1 ww1 a1 hS1 hf1 => ⟨fun _ => trivial, ?_⟩
 refine c_box [.slice none 0 0] 40 hS1 hf1 fun b2 ww2 a2 hS2 hf2 => ⟨fun _ => trivial, ?_⟩
 refine c_box [.slice none 0 0] 40 hS2 hf2 fun b3 ww3 a3 hS3 hf3 => ⟨fun _ => trivial, ?_⟩
 refine c_dt ?_
 refine c_sr ?_
 refine c_box [.slice none 0 0] 40 hS3 hf3 fun b4 ww4 a4 hS4 hf4 => ⟨fun _ => trivial, ?_⟩
 refine c_dt ?_
 refine c_sr ?_
 refine c_box [.slice none 0 0] 40 hS4 hf4 fun b5 ww5 a5 hS5 hf5 => ⟨fun _ => trivial, ?_⟩
 refine c_dt ?_
 refine c_seq ?_
 refine c_sq [] [1, 2, 4, 5, 6, 7, 12] hf5 .nil fun a6 hf6 => ?_
 refine c_if (x1 == (0 : Int)) hf6 (fun hb1 => ?_) (fun hb1 => ?_)
 ·have hr1 := cond_t hb1 hr
  refine c_sr ?_
  refine c_n 4 [.slice none 0 0, .slice o_x0 x0.length c_x0] [4, 5, 6, 7, 14, 16] hf6 (.cell (hS5.box (i := 0) rfl (j := 0) rfl) (.cell (hS5.box (i := 4) rfl (j := 0) rfl) .nil)) fun a7 hf7 => ?_
  have hS6 := hS5.ownNil PartT 56
  obtain ⟨d3, hd1, hr2⟩ := bind_some hr1
  refine p_append (T := PartT) (i := 4) (j := 0) (d := some 17) (o2 := o_x0) (c2 := c_x0) (ys := x0) el38 hS6 hf7 rfl (by kernel_rfl) (SliceR.src hx_x0 hS6) hd1 fun e1 q1 ww6 a8 hS7 hf8 => ⟨fun _ => trivial, ?_⟩
  refine c_n 1 [] [4, 5, 6, 7, 17, 18] hf8 .nil fun a9 hf9 => ?_
  refine c_st 1 [.slice e1 d3.length q1] hS7 hf9 rfl fun ww7 a10 hS8 hf10 => ⟨fun _ => trivial, ?_⟩
  refine c_dt ?_
  refine c_seq ?_
  have hS9 := hS8.drew
  have s1 := Sub.of zr (hS9.mask (i := 4) rfl)
  refine c_regD [(0, true), (1, true), (2, false), (3, false)] [3] _ s1 ?_
  refine c_S 2 [.slice none 0 0, .slice e1 d3.length q1] [4, 5, 19, 20] s1 hf10 (fun _ s => (.cell (s.box (i := 2) rfl (j := 0) rfl) (.cell (s.box (i := 1) rfl (j := 0) rfl) .nil))) .nil fun a11 hf11 => ?_
  refine c_st 4 [.slice none 0 0] hS9 hf11 rfl fun ww8 a12 hS10 hf12 => ⟨fun _ => Sub.of zr (hS10.mask (i := 4) rfl), ?_⟩
  have s2 := Sub.of zr (hS10.mask (i := 4) rfl)
  refine c_st 3 [.slice e1 d3.length q1] hS10 hf12 rfl fun ww9 a13 hS11 hf13 => ⟨fun e => absurd e (by decide), ?_⟩
  refine c_dt ?_
  refine c_ret ?_
  refine r_then ?_
  obtain ⟨z1, k2, hS12, hx1⟩ := hS11.share (j := 0) rfl
  refine c_rt [.slice none 0 0, .slice e1 d3.length q1] (.tuple #[.agg #[.slice none 0 0], .agg #[.slice e1 d3.length q1]]) hf13 (.cell (hS12.box (i := 4) rfl (j := 0) rfl) (.cell (hS12.box (i := 3) rfl (j := 0) rfl) .nil)) ?_
  obtain rfl := some_eq hr2
  exact ⟨_, rfl, z1, none, 0, e1, q1, k2, rfl, (St.drop 6 hS12), SliceR.nil' _ _, hx1⟩
 ·have hr3 := cond_f hb1 hr
  refine c_skip ?_
  refine n_then ?_
  refine c_sr ?_
  refine c_n 2 [.slice o_x0 x0.length c_x0] [2, 4, 5, 6, 7, 21, 22] hf6 (.cell (hS5.box (i := 4) rfl (j := 0) rfl) .nil) fun a14 hf14 => ?_
  obtain ⟨r2, hd2, hr4⟩ := bind_some hr3
  refine c_call hf14 (f128_ok fuel x0 r2 hd2 h _ _ hS5 o_x0 c_x0 hx_x0) ?_
  rintro v1 ww10 a15 ⟨z2, e2, q2, k3, rfl, hS13, hx2⟩ hf15
  refine ⟨fun _ => trivial, ?_⟩
  obtain ⟨r1, hd3, hr5⟩ := bind_some hr4
  refine c_call hf15 (f126_ok fuel x1 r2 r1 hd3 z2 _ _ hS13 e2 q2 hx2) ?_
  rintro v2 ww11 a16 ⟨z3, e3, q3, k4, rfl, hS14, hx3⟩ hf16
  refine ⟨fun _ => trivial, ?_⟩
  refine c_t [] [2, 4, 5, 6, 7, 8] hf16 .nil fun a17 hf17 => ?_
  refine c_seq ?_
  refine c_sq [] [2, 4, 5, 6, 7, 8, 9] hf17 .nil fun a18 hf18 => ?_
  refine c_block 0 ?_
  have hS15 := hS14.ownNil PartT 56
  have hS16 := hS15.ownNil PartT 56
  refine c_loop (fun n a w => ∃ z4 : Zone, ∃ y6 : List Part, ∃ y4 : List Part, ∃ y1 : Int, ∃ e4 : Option Addr, ∃ q4 : Nat, ∃ e5 : Option Addr, ∃ q5 : Nat, Zone.le z3 z4 ∧ Fr a 78 [(2, pB b1 0), (4, pB b2 0), (5, pB b3 0), (6, pB b4 0), (7, pB b5 0), (8, .slice e3 r1.length q3), (9, vI y1)] ∧ St z4 (ownS PartT 56 e4 q4 y6 :: ownS PartT 56 e5 q5 y4 :: box b5 [.slice e5 y4.length q5] 40 :: box b4 [.slice e4 y6.length q4] 40 :: box b3 [.slice none 0 0] 40 :: box b2 [.slice none 0 0] 40 :: box b1 [.slice o_x0 x0.length c_x0] 40 :: L) w ∧ (F93_l1 x0 r1 n y6 y4 y1) = some r) fuel ⟨z3, [], [], 0, none, 0, none, 0, zr, hf18.to, hS16, hr5⟩ ?_
  rintro n2 a19 ww12 ⟨z4, y6, y4, y1, e4, q4, e5, q5, k5, hf20, hS17, hr6⟩
  cases n2 with
  | zero => cases hr6
  | succ n1 =>
  refine c_seq ?_
  refine c_sq [.slice o_x0 x0.length c_x0] [2, 4, 5, 6, 7, 8, 9, 29] hf20 (.cell (hS17.box (i := 6) rfl (j := 0) rfl) .nil) fun a20 hf21 => ?_
  refine c_if (decide (y1 < (x0.length : Int))) hf21 (fun hb2 => ?_) (fun hb2 => ?_)
  ·have hr7 := cond_t hb2 hr6
   refine c_skip ?_
   refine n_then ?_
   refine c_mid (fun a w => ∃ z5 : Zone, ∃ y2 : List Part, ∃ y3 : List Part, ∃ e6 : Option Addr, ∃ q6 : Nat, ∃ e7 : Option Addr, ∃ q7 : Nat, Zone.le z4 z5 ∧ Fr a 78 [(2, pB b1 0), (4, pB b2 0), (5, pB b3 0), (6, pB b4 0), (7, pB b5 0), (8, .slice e3 r1.length q3), (9, vI y1)] ∧ St z5 (ownS PartT 56 e6 q6 y2 :: ownS PartT 56 e7 q7 y3 :: box b5 [.slice e7 y3.length q7] 40 :: box b4 [.slice e6 y2.length q6] 40 :: box b3 [.slice none 0 0] 40 :: box b2 [.slice none 0 0] 40 :: box b1 [.slice o_x0 x0.length c_x0] 40 :: L) w ∧ (F93_j1 (F93_l1 x0 r1 n1) y1 y2 y3) = some r) ?_ ?_
   ·skip
    refine c_block 1 ?_
    refine c_sr ?_
    obtain ⟨p1, hp12045, hr8⟩ := bind_some hr7
    obtain ⟨ad1, ho1, hb3, cc1, hc1, hk1⟩ := SliceR.getI (SliceR.mono (zt (zt k3 k4) k5) hx_x0) hp12045
    subst hc1
    refine c_n 5 [.slice o_x0 x0.length c_x0, .pointer (some ad1), vI p1.lot, vI p1.mass] [2, 4, 5, 6, 7, 8, 9, 36] hf21 (.cell (hS17.box (i := 6) rfl (j := 0) rfl) (.prop ho1 (.prop hb3 (.cell (hS17.cell (hk1 0 _ rfl)) (.cell (hS17.cell (hk1 1 _ rfl)) .nil))))) fun a21 hf22 => ?_
    refine c_box [vI 0, vI 0] 56 hS17 hf22 fun b6 ww13 a22 hS18 hf23 => ⟨fun _ => trivial, ?_⟩
    refine c_st 0 [vI p1.lot, vI p1.mass] hS18 hf23 rfl fun ww14 a23 hS19 hf24 => ⟨fun _ => trivial, ?_⟩
    refine c_dt ?_
    refine c_mid (fun a w => ∃ z6 : Zone, ∃ y5 : List Part, ∃ e8 : Option Addr, ∃ q8 : Nat, Zone.le z4 z6 ∧ Fr a 78 [(2, pB b1 0), (4, pB b2 0), (5, pB b3 0), (6, pB b4 0), (7, pB b5 0), (8, .slice e3 r1.length q3), (9, vI y1), (10, pB b6 0)] ∧ St z6 (box b6 [vI p1.lot, vI p1.mass] 56 :: ownS PartT 56 e8 q8 y5 :: ownS PartT 56 e5 q5 y4 :: box b5 [.slice e5 y4.length q5] 40 :: box b4 [.slice e8 y5.length q8] 40 :: box b3 [.slice none 0 0] 40 :: box b2 [.slice none 0 0] 40 :: box b1 [.slice o_x0 x0.length c_x0] 40 :: L) w ∧ (F93_j2 (F93_l1 x0 r1 n1) r1 y4 y1 p1 y5) = some r) ?_ ?_
    ·skip
     obtain ⟨p4, hp12237, hr9⟩ := bind_some hr8
     obtain ⟨ad2, ho2, hb4, cc2, hc2, hk2⟩ := SliceR.getI (SliceR.mono k5 hx3) hp12237
     subst hc2
     refine c_sq [.pointer (some ad2), vI p4] [2, 4, 5, 6, 7, 8, 9, 10, 41] hf24 (.prop ho2 (.prop hb4 (.cell (hS19.cell (hk2 0 _ rfl)) .nil))) fun a24 hf25 => ?_
     refine c_if (decide (p4 > (0 : Int))) hf25 (fun hb5 => ?_) (fun hb5 => ?_)
     ·have hr10 := cond_t hb5 hr9
      have hS20 := hS19.drew
      have s3 := Sub.of zr hS20
      refine c_regD [(0, true), (1, true), (2, true), (3, true), (4, true), (5, true), (6, true), (7, true), (8, true), (9, false), (10, false), (11, true), (12, false)] [10, 12] _ s3 ?_
      obtain ⟨p5, hp12253, hr11⟩ := bind_some hr10
      obtain ⟨ad3, ho3, hb6, cc3, hc3, hk3⟩ := SliceR.getI (SliceR.mono k5 hx3) hp12253
      subst hc3
      refine c_S 9 [.slice e4 y6.length q4, vI p1.lot, .pointer (some ad3), vI p5] [2, 4, 5, 6, 7, 8, 9, 10, 43, 50] s3 hf25 (fun _ s => (.cell (s.box (i := 4) rfl (j := 0) rfl) (.cell (s.box (i := 0) rfl (j := 0) rfl) (.prop ho3 (.prop hb6 (.cell (s.cell (hk3 0 _ rfl)) .nil)))))) .nil fun a25 hf26 => ?_
      refine p_box (i := 9) (d := (some 51)) (cs := [vI p1.lot, vI p5]) (T := 56) (v := fun b7 => .slice (some ⟨b7, 0, none⟩) 1 1) hS20 hf26 (fun b => by kernel_rfl) fun b7 ww15 a26 hS21 hf27 => ⟨fun _ => Sub.of zr (St.drop 1 hS21), ?_⟩
      have hS22 := hS21.ownBox (T := PartT) (E := 56) (n := 1) (xs := [⟨p1.lot, p5⟩]) (i := 0) rfl (Rows.cons (c := [vI p1.lot, vI p5]) rfl rfl) rfl (by decide)
      have s4 := Sub.of zr (St.drop 1 hS22)
      obtain ⟨d2, hd4, hr12⟩ := bind_some hr11
      refine p_append (T := PartT) (i := 10) (j := 2) (d := some 52) (o2 := (some ⟨b7, 0, none⟩)) (c2 := 1) (ys := ([⟨p1.lot, p5⟩])) el38 hS22 hf27 rfl (by kernel_rfl) (hS22.ownSrc (j := 0) rfl) hd4 fun e9 q9 ww16 a27 hS23 hf28 => ⟨fun e => absurd e (by decide), ?_⟩
      refine p_qP 1 [] [(2, pB b1 0), (4, pB b2 0), (5, pB b3 0), (6, pB b4 0), (7, pB b5 0), (8, .slice e3 r1.length q3), (9, vI y1), (10, pB b6 0), (52, .slice e9 d2.length q9), (53, pB b4 0)] [] hf28 (by kernel_rfl) (fun _ => .nil) fun a28 hf29 => ?_
      refine c_st 5 [.slice e9 d2.length q9] hS23 hf29 rfl fun ww17 a29 hS24 hf30 => ⟨fun e => absurd e (by decide), ?_⟩
      refine c_dt ?_
      exact ⟨z4, d2, e9, q9, zr, hf30.to, (St.drop 1 hS24), hr12⟩
     ·have hr13 := cond_f hb5 hr9
      refine c_skip ?_
      refine n_then ?_
      exact ⟨z4, y6, e4, q4, zr, hf25.to, hS19, hr13⟩
    ·rintro a30 ww18 ⟨z6, y5, e8, q8, k6, hf33, hS25, hr14⟩
     have hS26 := hS25.drew
     obtain ⟨p2, hp12294, hr15⟩ := bind_some hr14
     obtain ⟨ad4, ho4, hb7, cc4, hc4, hk4⟩ := SliceR.getI (SliceR.mono (zt k5 k6) hx3) hp12294
     subst hc4
     refine c_sqD [(0, true), (1, true), (2, true), (3, true), (4, true), (5, true), (6, true)] [] [vI p1.mass, .pointer (some ad4), vI p2] [2, 4, 5, 6, 7, 8, 9, 10, 60] hf33 (.cell (hS26.box (i := 0) rfl (j := 1) rfl) (.prop ho4 (.prop hb7 (.cell (hS26.cell (hk4 0 _ rfl)) .nil)))) .nil fun a31 hf34 => ?_
     refine c_if (decide (p1.mass > p2)) hf34 (fun hb8 => ?_) (fun hb8 => ?_)
     ·have hr16 := cond_t hb8 hr15
      have hS27 := hS26.drew
      have s5 := Sub.of zr hS27
      refine c_regD [(0, true), (1, true), (2, true), (3, true), (4, true), (5, true), (6, true), (7, true), (8, true), (9, true), (10, true), (11, true), (12, false), (13, false), (14, true), (15, false)] [13, 15] _ s5 ?_
      obtain ⟨p3, hp12310, hr17⟩ := bind_some hr16
      obtain ⟨ad5, ho5, hb9, cc5, hc5, hk5⟩ := SliceR.getI (SliceR.mono (zt k5 k6) hx3) hp12310
      subst hc5
      refine c_S 12 [.slice e5 y4.length q5, vI p1.lot, vI p1.mass, .pointer (some ad5), vI p3] [2, 4, 5, 6, 7, 8, 9, 62, 72] s5 hf34 (fun _ s => (.cell (s.box (i := 3) rfl (j := 0) rfl) (.cell (s.box (i := 0) rfl (j := 0) rfl) (.cell (s.box (i := 0) rfl (j := 1) rfl) (.prop ho5 (.prop hb9 (.cell (s.cell (hk5 0 _ rfl)) .nil))))))) .nil fun a32 hf35 => ?_
      refine p_box (i := 12) (d := (some 73)) (cs := [vI p1.lot, vI (w64 (p1.mass - p3))]) (T := 56) (v := fun b8 => .slice (some ⟨b8, 0, none⟩) 1 1) hS27 hf35 (fun b => by kernel_rfl) fun b8 ww19 a33 hS28 hf36 => ⟨fun _ => Sub.of zr (St.drop 1 hS28), ?_⟩
      have hS29 := hS28.ownBox (T := PartT) (E := 56) (n := 1) (xs := [⟨p1.lot, (w64 (p1.mass - p3))⟩]) (i := 0) rfl (Rows.cons (c := [vI p1.lot, vI (w64 (p1.mass - p3))]) rfl rfl) rfl (by decide)
      have s6 := Sub.of zr (St.drop 1 hS29)
      obtain ⟨d1, hd5, hr18⟩ := bind_some hr17
      refine p_append (T := PartT) (i := 13) (j := 3) (d := some 74) (o2 := (some ⟨b8, 0, none⟩)) (c2 := 1) (ys := ([⟨p1.lot, (w64 (p1.mass - p3))⟩])) el38 hS29 hf36 rfl (by kernel_rfl) (hS29.ownSrc (j := 0) rfl) hd5 fun e10 q10 ww20 a34 hS30 hf37 => ⟨fun e => absurd e (by decide), ?_⟩
      refine p_qP 1 [] [(2, pB b1 0), (4, pB b2 0), (5, pB b3 0), (6, pB b4 0), (7, pB b5 0), (8, .slice e3 r1.length q3), (9, vI y1), (74, .slice e10 d1.length q10), (75, pB b5 0)] [] hf37 (by kernel_rfl) (fun _ => .nil) fun a35 hf38 => ?_
      refine c_st 4 [.slice e10 d1.length q10] hS30 hf38 rfl fun ww21 a36 hS31 hf39 => ⟨fun e => absurd e (by decide), ?_⟩
      refine c_done ?_
      refine n_block ?_
      refine n_then ?_
      exact ⟨z6, y5, d1, e8, q8, e10, q10, k6, hf39.to, (St.drop 2 hS31), hr18⟩
     ·have hr19 := cond_f hb8 hr15
      refine c_skip ?_
      refine n_block ?_
      refine n_then ?_
      exact ⟨z6, y5, y4, e8, q8, e5, q5, k6, hf34.to, (St.drop 1 hS26), hr19⟩
   ·rintro a37 ww22 ⟨z5, y2, y3, e6, q6, e7, q7, k7, hf42, hS32, hr20⟩
    refine c_q [] [2, 4, 5, 6, 7, 8, 9] hf42 .nil fun a38 hf43 => ?_
    refine n_then ?_
    exact ⟨n1, Nat.lt_succ_self n1, z5, y2, y3, (w64 (y1 + (1 : Int))), e6, q6, e7, q7, (zt k5 k7), hf43.to, hS32, hr20⟩
  ·have hr21 := cond_f hb2 hr6
   refine c_exit 0 ?_
   refine x_then ?_
   refine x_then ?_
   refine x_block ?_
   refine n_then ?_
   refine c_seq ?_
   have hS33 := hS17.drew
   have s7 := Sub.of zr (hS33.mask (i := 5) rfl)
   refine c_regD [(0, true), (1, true), (2, false), (3, false)] [3] _ s7 ?_
   refine c_S 2 [.slice e4 y6.length q4, .slice e5 y4.length q5] [4, 5, 76, 77] s7 hf21 (fun _ s => (.cell (s.box (i := 3) rfl (j := 0) rfl) (.cell (s.box (i := 2) rfl (j := 0) rfl) .nil))) .nil fun a39 hf45 => ?_
   refine c_st 5 [.slice e4 y6.length q4] hS33 hf45 rfl fun ww23 a40 hS34 hf46 => ⟨fun _ => Sub.of zr (hS34.mask (i := 5) rfl), ?_⟩
   have s8 := Sub.of zr (hS34.mask (i := 5) rfl)
   refine c_st 4 [.slice e5 y4.length q5] hS34 hf46 rfl fun ww24 a41 hS35 hf47 => ⟨fun e => absurd e (by decide), ?_⟩
   refine c_dt ?_
   refine c_ret ?_
   obtain ⟨z7, k8, hS36, hx4⟩ := hS35.share (j := 0) rfl
   obtain ⟨z8, k9, hS37, hx5⟩ := hS36.share (j := 1) rfl
   refine c_rt [.slice e4 y6.length q4, .slice e5 y4.length q5] (.tuple #[.agg #[.slice e4 y6.length q4], .agg #[.slice e5 y4.length q5]]) hf47 (.cell (hS37.box (i := 5) rfl (j := 0) rfl) (.cell (hS37.box (i := 4) rfl (j := 0) rfl) .nil)) ?_
   obtain rfl := some_eq hr21
   exact ⟨_, rfl, z8, e4, q4, e5, q5, (zt (zt (zt (zt k3 k4) k5) k8) k9), rfl, (St.drop 7 hS37), (SliceR.mono k9 hx4), hx5⟩
def F31 (fuel : Nat) (x0 : List Part) (x1 : Int) : Option (List Part × List Part × Int) :=
  ((F76 fuel x0).bind fun r1 => (cond (!r1) (some ([], [], 62)) (cond (decide (x1 < (0 : Int))) (some ([], [], 1)) ((F92 fuel x0).bind fun r2 => (cond (decide (x1 > r2)) (some ([], [], 63)) ((F93 fuel x0 x1).bind fun r3 => (some (r3.1, r3.2, 0))))))))
set_option maxRecDepth 100000 in
theorem f31_ok (fuel : Nat) (x0 : List Part) (x1 : Int) (r : List Part × List Part × Int) (hr : F31 fuel x0 x1 = some r) (h : Zone) (L : List Atom) (w : World) (hS : St h L w) (o_x0 : Option Addr) (c_x0 : Nat) (hx_x0 : SliceR PartT h o_x0 c_x0 x0) :
    Calls Try.prog 31 #[.agg #[.slice o_x0 x0.length c_x0], vI x1] w fun e w' => ∃ v, e = .returned v ∧ (∃ h', ∃ o0 : Option Addr, ∃ c0 : Nat, ∃ o1 : Option Addr, ∃ c1 : Nat, Zone.le h h' ∧ v = .tuple #[.agg #[.slice o0 r.1.length c0], .agg #[.slice o1 r.2.1.length c1], vI r.2.2] ∧ St h' L w' ∧ SliceR PartT h' o0 c0 r.1 ∧ SliceR PartT h' o1 c1 r.2.1) := by
 refine calls_intro (N := 32) Try.func31 (by kernel_rfl) fun a hf => ?_
 refine c_sr ?_
 refine c_box [.slice o_x0 x0.length c_x0] 40 hS hf fun b1 ww1 a1 hS1 hf1 => ⟨fun _ => trivial, ?_⟩
 refine c_box [.slice none 0 0] 40 hS1 hf1 fun b2 ww2 a2 hS2 hf2 => ⟨fun _ => trivial, ?_⟩
 refine c_box [.slice none 0 0] 40 hS2 hf2 fun b3 ww3 a3 hS3 hf3 => ⟨fun _ => trivial, ?_⟩
 refine c_t [] [1, 2, 4, 5] hf3 .nil fun a4 hf4 => ?_
 refine c_seq ?_
 refine c_sr ?_
 refine c_n 1 [.slice o_x0 x0.length c_x0] [1, 2, 4, 5, 9] hf4 (.cell (hS3.box (i := 2) rfl (j := 0) rfl) .nil) fun a5 hf5 => ?_
 obtain ⟨r1, hd1, hr1⟩ := bind_some hr
 refine c_call hf5 (f76_ok fuel x0 r1 hd1 h _ _ hS3 o_x0 c_x0 hx_x0) ?_
 rintro v1 ww4 a6 ⟨z1, k1, rfl, hS4⟩ hf6
 refine ⟨fun _ => trivial, ?_⟩
 refine c_t [] [1, 2, 4, 5, 11] hf6 .nil fun a7 hf7 => ?_
 refine c_if (!r1) hf7 (fun hb1 => ?_) (fun hb1 => ?_)
 ·have hr2 := cond_t hb1 hr1
  refine c_sr ?_
  refine c_n 2 [] [4, 5, 12, 13] hf7 .nil fun a8 hf8 => ?_
  refine c_st 1 [.slice none 0 0] hS4 hf8 rfl fun ww5 a9 hS5 hf9 => ⟨fun _ => trivial, ?_⟩
  refine c_st 0 [.slice none 0 0] hS5 hf9 rfl fun ww6 a10 hS6 hf10 => ⟨fun _ => trivial, ?_⟩
  refine c_t [] [4, 5, 6] hf10 .nil fun a11 hf11 => ?_
  refine c_ret ?_
  refine r_then ?_
  refine c_rt [.slice none 0 0, .slice none 0 0] (.tuple #[.agg #[.slice none 0 0], .agg #[.slice none 0 0], vI 62]) hf11 (.cell (hS6.box (i := 1) rfl (j := 0) rfl) (.cell (hS6.box (i := 0) rfl (j := 0) rfl) .nil)) ?_
  obtain rfl := some_eq hr2
  exact ⟨_, rfl, z1, none, 0, none, 0, k1, rfl, (St.drop 3 hS6), SliceR.nil' _ _, SliceR.nil' _ _⟩
 ·have hr3 := cond_f hb1 hr1
  refine c_skip ?_
  refine n_then ?_
  refine c_seq ?_
  refine c_sq [] [1, 2, 4, 5, 15] hf7 .nil fun a12 hf12 => ?_
  refine c_if (decide (x1 < (0 : Int))) hf12 (fun hb2 => ?_) (fun hb2 => ?_)
  ·have hr4 := cond_t hb2 hr3
   refine c_sr ?_
   refine c_n 2 [] [4, 5, 16, 17] hf12 .nil fun a13 hf13 => ?_
   refine c_st 1 [.slice none 0 0] hS4 hf13 rfl fun ww7 a14 hS7 hf14 => ⟨fun _ => trivial, ?_⟩
   refine c_st 0 [.slice none 0 0] hS7 hf14 rfl fun ww8 a15 hS8 hf15 => ⟨fun _ => trivial, ?_⟩
   refine c_t [] [4, 5, 6] hf15 .nil fun a16 hf16 => ?_
   refine c_ret ?_
   refine r_then ?_
   refine c_rt [.slice none 0 0, .slice none 0 0] (.tuple #[.agg #[.slice none 0 0], .agg #[.slice none 0 0], vI 1]) hf16 (.cell (hS8.box (i := 1) rfl (j := 0) rfl) (.cell (hS8.box (i := 0) rfl (j := 0) rfl) .nil)) ?_
   obtain rfl := some_eq hr4
   exact ⟨_, rfl, z1, none, 0, none, 0, k1, rfl, (St.drop 3 hS8), SliceR.nil' _ _, SliceR.nil' _ _⟩
  ·have hr5 := cond_f hb2 hr3
   refine c_skip ?_
   refine n_then ?_
   refine c_seq ?_
   refine c_sr ?_
   refine c_n 2 [.slice o_x0 x0.length c_x0] [1, 2, 4, 5, 18, 19] hf12 (.cell (hS4.box (i := 2) rfl (j := 0) rfl) .nil) fun a17 hf17 => ?_
   obtain ⟨r2, hd2, hr6⟩ := bind_some hr5
   refine c_call hf17 (f92_ok fuel x0 r2 hd2 z1 _ _ hS4 o_x0 c_x0 (SliceR.mono k1 hx_x0)) ?_
   rintro v2 ww9 a18 ⟨z2, k2, rfl, hS9⟩ hf18
   refine ⟨fun _ => trivial, ?_⟩
   refine c_t [] [1, 2, 4, 5, 21] hf18 .nil fun a19 hf19 => ?_
   refine c_if (decide (x1 > r2)) hf19 (fun hb3 => ?_) (fun hb3 => ?_)
   ·have hr7 := cond_t hb3 hr6
    refine c_sr ?_
    refine c_n 2 [] [4, 5, 22, 23] hf19 .nil fun a20 hf20 => ?_
    refine c_st 1 [.slice none 0 0] hS9 hf20 rfl fun ww10 a21 hS10 hf21 => ⟨fun _ => trivial, ?_⟩
    refine c_st 0 [.slice none 0 0] hS10 hf21 rfl fun ww11 a22 hS11 hf22 => ⟨fun _ => trivial, ?_⟩
    refine c_t [] [4, 5, 6] hf22 .nil fun a23 hf23 => ?_
    refine c_ret ?_
    refine r_then ?_
    refine c_rt [.slice none 0 0, .slice none 0 0] (.tuple #[.agg #[.slice none 0 0], .agg #[.slice none 0 0], vI 63]) hf23 (.cell (hS11.box (i := 1) rfl (j := 0) rfl) (.cell (hS11.box (i := 0) rfl (j := 0) rfl) .nil)) ?_
    obtain rfl := some_eq hr7
    exact ⟨_, rfl, z2, none, 0, none, 0, (zt k1 k2), rfl, (St.drop 3 hS11), SliceR.nil' _ _, SliceR.nil' _ _⟩
   ·have hr8 := cond_f hb3 hr6
    refine c_skip ?_
    refine n_then ?_
    refine c_sr ?_
    refine c_n 2 [.slice o_x0 x0.length c_x0] [4, 5, 25, 26] hf19 (.cell (hS9.box (i := 2) rfl (j := 0) rfl) .nil) fun a24 hf24 => ?_
    obtain ⟨r3, hd3, hr9⟩ := bind_some hr8
    refine c_call hf24 (f93_ok fuel x0 x1 r3 hd3 z2 _ _ hS9 o_x0 c_x0 (SliceR.mono (zt k1 k2) hx_x0)) ?_
    rintro v3 ww12 a25 ⟨z3, e1, q1, e2, q2, k3, rfl, hS12, hx1, hx2⟩ hf25
    refine ⟨fun _ => trivial, ?_⟩
    refine c_n 3 [] [4, 5, 28, 29] hf25 .nil fun a26 hf26 => ?_
    refine c_box [.slice none 0 0] 40 hS12 hf26 fun b4 ww13 a27 hS13 hf27 => ⟨fun _ => trivial, ?_⟩
    refine c_box [.slice none 0 0] 40 hS13 hf27 fun b5 ww14 a28 hS14 hf28 => ⟨fun _ => trivial, ?_⟩
    refine c_st 1 [.slice e1 r3.1.length q1] hS14 hf28 rfl fun ww15 a29 hS15 hf29 => ⟨fun _ => trivial, ?_⟩
    refine c_st 0 [.slice e2 r3.2.length q2] hS15 hf29 rfl fun ww16 a30 hS16 hf30 => ⟨fun _ => trivial, ?_⟩
    refine c_dt ?_
    refine c_seq ?_
    have hS17 := hS16.drew
    have s1 := Sub.of zr (hS17.mask (i := 3) rfl)
    refine c_regD [(0, true), (1, true), (2, false), (3, false), (4, true)] [3] _ s1 ?_
    refine c_S 2 [.slice e1 r3.1.length q1, .slice e2 r3.2.length q2] [4, 5, 30, 31] s1 hf30 (fun _ s => (.cell (s.box (i := 1) rfl (j := 0) rfl) (.cell (s.box (i := 0) rfl (j := 0) rfl) .nil))) .nil fun a31 hf31 => ?_
    refine c_st 3 [.slice e1 r3.1.length q1] hS17 hf31 rfl fun ww17 a32 hS18 hf32 => ⟨fun _ => Sub.of zr (hS18.mask (i := 3) rfl), ?_⟩
    have s2 := Sub.of zr (hS18.mask (i := 3) rfl)
    refine c_st 2 [.slice e2 r3.2.length q2] hS18 hf32 rfl fun ww18 a33 hS19 hf33 => ⟨fun e => absurd e (by decide), ?_⟩
    refine p_qP 1 [] [(4, pB b2 0), (5, pB b3 0), (6, vI 0)] [] hf33 (by kernel_rfl) (fun _ => .nil) fun a34 hf34 => ?_
    refine c_dt ?_
    refine c_ret ?_
    refine c_rt [.slice e1 r3.1.length q1, .slice e2 r3.2.length q2] (.tuple #[.agg #[.slice e1 r3.1.length q1], .agg #[.slice e2 r3.2.length q2], vI 0]) hf34 (.cell (hS19.box (i := 3) rfl (j := 0) rfl) (.cell (hS19.box (i := 2) rfl (j := 0) rfl) .nil)) ?_
    obtain rfl := some_eq hr9
    exact ⟨_, rfl, z3, e1, q1, e2, q2, (zt (zt k1 k2) k3), rfl, (St.drop 5 hS19), hx1, hx2⟩
def F89_j3 (k1 : (List Part) → Int → Int → Option (List Part)) (x0 : List Part) (x1 : List Part) (y1 : List Part) (y2 : Int) (y3 : Int) (y4 : Bool) : Option (List Part) :=
  (cond y4 ((getI x1 y3).bind fun p1 => ((appC y1 ([⟨p1.lot, p1.mass⟩])).bind fun d1 => (k1 d1 y2 (w64 (y3 + (1 : Int)))))) ((getI x0 y2).bind fun p2 => ((getI x0 y2).bind fun p3 => ((getI x1 y3).bind fun p4 => ((appC y1 ([⟨p2.lot, (w64 (p3.mass + p4.mass))⟩])).bind fun d2 => (k1 d2 (w64 (y2 + (1 : Int))) (w64 (y3 + (1 : Int)))))))))
def F89_j2 (k1 : (List Part) → Int → Int → Option (List Part)) (x0 : List Part) (x1 : List Part) (y1 : List Part) (y2 : Int) (y3 : Int) (y5 : Bool) : Option (List Part) :=
  (cond y5 ((getI x0 y2).bind fun p5 => ((appC y1 ([⟨p5.lot, p5.mass⟩])).bind fun d3 => (k1 d3 (w64 (y2 + (1 : Int))) y3))) (cond (y2 == (x0.length : Int)) (F89_j3 k1 x0 x1 y1 y2 y3 true) ((getI x1 y3).bind fun p6 => ((getI x0 y2).bind fun p7 => (F89_j3 k1 x0 x1 y1 y2 y3 (decide (p6.lot < p7.lot)))))))
def F89_j1 (k1 : (List Part) → Int → Int → Option (List Part)) (x0 : List Part) (x1 : List Part) (y1 : List Part) (y2 : Int) (y3 : Int) (y6 : Bool) : Option (List Part) :=
  (cond y6 (cond (y3 == (x1.length : Int)) (F89_j2 k1 x0 x1 y1 y2 y3 true) (cond (decide (y2 < (x0.length : Int))) ((getI x0 y2).bind fun p8 => ((getI x1 y3).bind fun p9 => (F89_j2 k1 x0 x1 y1 y2 y3 (decide (p8.lot < p9.lot))))) (F89_j2 k1 x0 x1 y1 y2 y3 false))) (some (y1)))
def F89_l1 (x0 : List Part) (x1 : List Part) : Nat → (List Part) → Int → Int → Option (List Part)
  | 0, _, _, _ => none
  | n1 + 1, y1, y2, y3 =>
    let k1 : (List Part) → Int → Int → Option (List Part) := F89_l1 x0 x1 n1
    (cond (decide (y2 < (x0.length : Int))) (F89_j1 k1 x0 x1 y1 y2 y3 true) (F89_j1 k1 x0 x1 y1 y2 y3 (decide (y3 < (x1.length : Int)))))
def F89 (fuel : Nat) (x0 : List Part) (x1 : List Part) : Option (List Part) :=
  (F89_l1 x0 x1 fuel ([]) 0 0)
set_option maxRecDepth 100000 in
theorem f89_ok (fuel : Nat) (x0 : List Part) (x1 : List Part) (r : List Part) (hr : F89 fuel x0 x1 = some r) (h : Zone) (L : List Atom) (w : World) (hS : St h L w) (o_x0 : Option Addr) (c_x0 : Nat) (hx_x0 : SliceR PartT h o_x0 c_x0 x0) (o_x1 : Option Addr) (c_x1 : Nat) (hx_x1 : SliceR PartT h o_x1 c_x1 x1) :
    Calls Try.prog 89 #[.agg #[.slice o_x0 x0.length c_x0], .agg #[.slice o_x1 x1.length c_x1]] w fun e w' => ∃ v, e = .returned v ∧ (∃ h', ∃ o0 : Option Addr, ∃ c0 : Nat, Zone.le h h' ∧ v = .agg #[.slice o0 r.length c0] ∧ St h' L w' ∧ SliceR PartT h' o0 c0 r) := by
 refine calls_intro (N := 121) Try.func89 (by kernel_rfl) fun a hf => ?_
 refine c_sr ?_
 refine c_box [.slice o_x0 x0.length c_x0] 40 hS hf fun b1 ww1 a1 hS1 hf1 => ⟨fun _ => trivial, ?_⟩
 refine c_box [.slice o_x1 x1.length c_x1] 40 hS1 hf1 fun b2 ww2 a2 hS2 hf2 => ⟨fun _ => trivial, ?_⟩
 refine c_box [.slice none 0 0] 40 hS2 hf2 fun b3 ww3 a3 hS3 hf3 => ⟨fun _ => trivial, ?_⟩
 refine c_dt ?_
 refine c_sr ?_
 refine c_box [.slice none 0 0] 40 hS3 hf3 fun b4 ww4 a4 hS4 hf4 => ⟨fun _ => trivial, ?_⟩
 refine c_dt ?_
 refine c_sq [] [2, 3, 4, 5, 6] hf4 .nil fun a5 hf5 => ?_
 refine c_sq [] [2, 3, 4, 5, 6, 7] hf5 .nil fun a6 hf6 => ?_
 refine c_seq ?_
 refine c_block 0 ?_
 have hS5 := hS4.ownNil PartT 56
 refine c_loop (fun n a w => ∃ z1 : Zone, ∃ y1 : List Part, ∃ y2 : Int, ∃ y3 : Int, ∃ e1 : Option Addr, ∃ q1 : Nat, Zone.le h z1 ∧ Fr a 121 [(2, pB b1 0), (3, pB b2 0), (4, pB b3 0), (5, pB b4 0), (6, vI y2), (7, vI y3)] ∧ St z1 (ownS PartT 56 e1 q1 y1 :: box b4 [.slice e1 y1.length q1] 40 :: box b3 [.slice none 0 0] 40 :: box b2 [.slice o_x1 x1.length c_x1] 40 :: box b1 [.slice o_x0 x0.length c_x0] 40 :: L) w ∧ (F89_l1 x0 x1 n y1 y2 y3) = some r) fuel ⟨h, [], 0, 0, none, 0, zr, hf6.to, hS5, hr⟩ ?_
 rintro n2 a7 ww5 ⟨z1, y1, y2, y3, e1, q1, k2, hf8, hS6, hr1⟩
 cases n2 with
 | zero => cases hr1
 | succ n1 =>
 refine c_seq ?_
 refine c_mid (fun a w => ∃ z2 : Zone, ∃ y6 : Bool, Zone.le z1 z2 ∧ Fr a 121 [(2, pB b1 0), (3, pB b2 0), (4, pB b3 0), (5, pB b4 0), (6, vI y2), (7, vI y3), (19, .bool y6)] ∧ St z2 (ownS PartT 56 e1 q1 y1 :: box b4 [.slice e1 y1.length q1] 40 :: box b3 [.slice none 0 0] 40 :: box b2 [.slice o_x1 x1.length c_x1] 40 :: box b1 [.slice o_x0 x0.length c_x0] 40 :: L) w ∧ (F89_j1 (F89_l1 x0 x1 n1) x0 x1 y1 y2 y3 y6) = some r) ?_ ?_
 ·skip
  refine c_reg ?_
  refine c_n 6 [.slice o_x0 x0.length c_x0] [2, 3, 4, 5, 6, 7, 13] hf8 (.cell (hS6.box (i := 4) rfl (j := 0) rfl) .nil) fun a8 hf9 => ?_
  rcases bft (decide (y2 < (x0.length : Int))) with hb1 | hb1
  ·have hr2 := cond_t hb1 hr1
   have hf10 := hf9.lit 13 hb1
   refine c_t [] [2, 3, 4, 5, 6, 7, 19] hf10 .nil fun a9 hf11 => ?_
   exact ⟨z1, true, zr, hf11.to, hS6, hr2⟩
  ·have hr3 := cond_f hb1 hr1
   have hf13 := hf9.lit 13 hb1
   refine c_t [.slice o_x1 x1.length c_x1] [2, 3, 4, 5, 6, 7, 19] hf13 (.cell (hS6.box (i := 3) rfl (j := 0) rfl) .nil) fun a10 hf14 => ?_
   exact ⟨z1, (decide (y3 < (x1.length : Int))), zr, hf14.to, hS6, hr3⟩
 ·rintro a11 ww6 ⟨z2, y6, k3, hf16, hS7, hr4⟩
  refine c_if y6 hf16 (fun hb2 => ?_) (fun hb2 => ?_)
  ·have hr5 := cond_t hb2 hr4
   refine c_skip ?_
   refine n_then ?_
   refine c_block 1 ?_
   refine c_seq ?_
   refine c_mid (fun a w => ∃ z3 : Zone, ∃ y5 : Bool, Zone.le z2 z3 ∧ Fr a 121 [(2, pB b1 0), (3, pB b2 0), (4, pB b3 0), (5, pB b4 0), (6, vI y2), (7, vI y3), (46, .bool y5)] ∧ St z3 (ownS PartT 56 e1 q1 y1 :: box b4 [.slice e1 y1.length q1] 40 :: box b3 [.slice none 0 0] 40 :: box b2 [.slice o_x1 x1.length c_x1] 40 :: box b1 [.slice o_x0 x0.length c_x0] 40 :: L) w ∧ (F89_j2 (F89_l1 x0 x1 n1) x0 x1 y1 y2 y3 y5) = some r) ?_ ?_
   ·skip
    have hS8 := hS7.drew
    refine c_regD [(0, true), (1, true), (2, true), (3, true), (4, true), (5, true), (6, true), (7, true), (8, true), (9, true), (10, true), (11, true), (12, true), (13, true), (14, true), (15, true), (16, true), (17, true), (18, true), (19, true), (20, true), (21, true), (22, true), (23, true), (24, true), (25, true), (26, true)] [] (fun x => x = ww6.drew) rfl ?_
    refine c_E 6 [.slice o_x1 x1.length c_x1] [2, 3, 4, 5, 6, 7, 25] hf16 (.cell (hS8.box (i := 3) rfl (j := 0) rfl) .nil) .nil fun a12 hf17 => ?_
    rcases bft (y3 == (x1.length : Int)) with hb3 | hb3
    ·have hr6 := cond_t hb3 hr5
     have hf18 := hf17.lit 25 hb3
     refine c_tE [] [2, 3, 4, 5, 6, 7, 46] hf18 .nil .nil fun a13 hf19 => ?_
     exact ⟨z2, true, zr, hf19.to, hS8, hr6⟩
    ·have hr7 := cond_f hb3 hr5
     have hf21 := hf17.lit 25 hb3
     refine c_E 6 [.slice o_x0 x0.length c_x0] [2, 3, 4, 5, 6, 7, 25, 31] hf21 (.cell (hS8.box (i := 4) rfl (j := 0) rfl) .nil) .nil fun a14 hf22 => ?_
     rcases bft (decide (y2 < (x0.length : Int))) with hb4 | hb4
     ·have hr8 := cond_t hb4 hr7
      have hf23 := hf22.lit 31 hb4
      obtain ⟨p8, hp8711, hr9⟩ := bind_some hr8
      obtain ⟨ad1, ho1, hb5, cc1, hc1, hk1⟩ := SliceR.getI (SliceR.mono (zt k2 k3) hx_x0) hp8711
      subst hc1
      obtain ⟨p9, hp8720, hr10⟩ := bind_some hr9
      obtain ⟨ad2, ho2, hb6, cc2, hc2, hk2⟩ := SliceR.getI (SliceR.mono (zt k2 k3) hx_x1) hp8720
      subst hc2
      refine c_tE [.slice o_x0 x0.length c_x0, .pointer (some ad1), vI p8.lot, .slice o_x1 x1.length c_x1, .pointer (some ad2), vI p9.lot] [2, 3, 4, 5, 6, 7, 46] hf23 (.cell (hS8.box (i := 4) rfl (j := 0) rfl) (.prop ho1 (.prop hb5 (.cell (hS8.cell (hk1 0 _ rfl)) (.cell (hS8.box (i := 3) rfl (j := 0) rfl) (.prop ho2 (.prop hb6 (.cell (hS8.cell (hk2 0 _ rfl)) .nil)))))))) .nil fun a15 hf24 => ?_
      exact ⟨z2, (decide (p8.lot < p9.lot)), zr, hf24.to, hS8, hr10⟩
     ·have hr11 := cond_f hb4 hr7
      have hf26 := hf22.lit 31 hb4
      refine c_tE [] [2, 3, 4, 5, 6, 7, 46] hf26 .nil .nil fun a16 hf27 => ?_
      exact ⟨z2, false, zr, hf27.to, hS8, hr11⟩
   ·rintro a17 ww7 ⟨z3, y5, k4, hf29, hS9, hr12⟩
    refine c_if y5 hf29 (fun hb7 => ?_) (fun hb7 => ?_)
    ·have hr13 := cond_t hb7 hr12
     refine c_seq ?_
     have hS10 := hS9.drew
     have s1 := Sub.of zr hS10
     refine c_regD [(0, true), (1, true), (2, true), (3, true), (4, true), (5, true), (6, true), (7, false), (8, false), (9, true), (10, false)] [8, 10] _ s1 ?_
     obtain ⟨p5, hp8742, hr14⟩ := bind_some hr13
     obtain ⟨ad3, ho3, hb8, cc3, hc3, hk3⟩ := SliceR.getI (SliceR.mono (zt (zt k2 k3) k4) hx_x0) hp8742
     subst hc3
     refine c_S 7 [.slice e1 y1.length q1, .slice o_x0 x0.length c_x0, .pointer (some ad3), vI p5.lot, vI p5.mass] [2, 3, 4, 5, 6, 7, 48, 53] s1 hf29 (fun _ s => (.cell (s.box (i := 1) rfl (j := 0) rfl) (.cell (s.box (i := 4) rfl (j := 0) rfl) (.prop ho3 (.prop hb8 (.cell (s.cell (hk3 0 _ rfl)) (.cell (s.cell (hk3 1 _ rfl)) .nil))))))) .nil fun a18 hf30 => ?_
     refine p_box (i := 7) (d := (some 54)) (cs := [vI p5.lot, vI p5.mass]) (T := 56) (v := fun b5 => .slice (some ⟨b5, 0, none⟩) 1 1) hS10 hf30 (fun b => by kernel_rfl) fun b5 ww8 a19 hS11 hf31 => ⟨fun _ => Sub.of zr (St.drop 1 hS11), ?_⟩
     have hS12 := hS11.ownBox (T := PartT) (E := 56) (n := 1) (xs := [⟨p5.lot, p5.mass⟩]) (i := 0) rfl (Rows.cons (c := [vI p5.lot, vI p5.mass]) rfl rfl) rfl (by decide)
     have s2 := Sub.of zr (St.drop 1 hS12)
     obtain ⟨d3, hd1, hr15⟩ := bind_some hr14
     refine p_append (T := PartT) (i := 8) (j := 1) (d := some 55) (o2 := (some ⟨b5, 0, none⟩)) (c2 := 1) (ys := ([⟨p5.lot, p5.mass⟩])) el38 hS12 hf31 rfl (by kernel_rfl) (hS12.ownSrc (j := 0) rfl) hd1 fun e2 q2 ww9 a20 hS13 hf32 => ⟨fun e => absurd e (by decide), ?_⟩
     refine p_qP 1 [] [(2, pB b1 0), (3, pB b2 0), (4, pB b3 0), (5, pB b4 0), (6, vI y2), (7, vI y3), (55, .slice e2 d3.length q2), (56, pB b4 0)] [] hf32 (by kernel_rfl) (fun _ => .nil) fun a21 hf33 => ?_
     refine c_st 2 [.slice e2 d3.length q2] hS13 hf33 rfl fun ww10 a22 hS14 hf34 => ⟨fun e => absurd e (by decide), ?_⟩
     refine c_dt ?_
     refine c_sq [] [2, 3, 4, 5, 6, 7] hf34 .nil fun a23 hf35 => ?_
     refine c_exit 1 ?_
     refine x_then ?_
     refine x_block ?_
     refine n_then ?_
     exact ⟨n1, Nat.lt_succ_self n1, z3, d3, (w64 (y2 + (1 : Int))), y3, e2, q2, (zt (zt k2 k3) k4), hf35.to, (St.drop 1 hS14), hr15⟩
    ·have hr16 := cond_f hb7 hr12
     refine c_skip ?_
     refine n_then ?_
     refine c_seq ?_
     refine c_mid (fun a w => ∃ z4 : Zone, ∃ y4 : Bool, Zone.le z3 z4 ∧ Fr a 121 [(2, pB b1 0), (3, pB b2 0), (4, pB b3 0), (5, pB b4 0), (6, vI y2), (7, vI y3), (78, .bool y4)] ∧ St z4 (ownS PartT 56 e1 q1 y1 :: box b4 [.slice e1 y1.length q1] 40 :: box b3 [.slice none 0 0] 40 :: box b2 [.slice o_x1 x1.length c_x1] 40 :: box b1 [.slice o_x0 x0.length c_x0] 40 :: L) w ∧ (F89_j3 (F89_l1 x0 x1 n1) x0 x1 y1 y2 y3 y4) = some r) ?_ ?_
     ·skip
      have hS15 := hS9.drew
      refine c_regD [(0, true), (1, true), (2, true), (3, true), (4, true), (5, true), (6, true), (7, true), (8, true), (9, true), (10, true), (11, true), (12, true), (13, true), (14, true), (15, true), (16, true), (17, true), (18, true), (19, true)] [] (fun x => x = ww7.drew) rfl ?_
      refine c_E 6 [.slice o_x0 x0.length c_x0] [2, 3, 4, 5, 6, 7, 64] hf29 (.cell (hS15.box (i := 4) rfl (j := 0) rfl) .nil) .nil fun a24 hf37 => ?_
      rcases bft (y2 == (x0.length : Int)) with hb9 | hb9
      ·have hr17 := cond_t hb9 hr16
       have hf38 := hf37.lit 64 hb9
       refine c_tE [] [2, 3, 4, 5, 6, 7, 78] hf38 .nil .nil fun a25 hf39 => ?_
       exact ⟨z3, true, zr, hf39.to, hS15, hr17⟩
      ·have hr18 := cond_f hb9 hr16
       have hf41 := hf37.lit 64 hb9
       obtain ⟨p6, hp9060, hr19⟩ := bind_some hr18
       obtain ⟨ad4, ho4, hb10, cc4, hc4, hk4⟩ := SliceR.getI (SliceR.mono (zt (zt k2 k3) k4) hx_x1) hp9060
       subst hc4
       obtain ⟨p7, hp9069, hr20⟩ := bind_some hr19
       obtain ⟨ad5, ho5, hb11, cc5, hc5, hk5⟩ := SliceR.getI (SliceR.mono (zt (zt k2 k3) k4) hx_x0) hp9069
       subst hc5
       refine c_tE [.slice o_x1 x1.length c_x1, .pointer (some ad4), vI p6.lot, .slice o_x0 x0.length c_x0, .pointer (some ad5), vI p7.lot] [2, 3, 4, 5, 6, 7, 78] hf41 (.cell (hS15.box (i := 3) rfl (j := 0) rfl) (.prop ho4 (.prop hb10 (.cell (hS15.cell (hk4 0 _ rfl)) (.cell (hS15.box (i := 4) rfl (j := 0) rfl) (.prop ho5 (.prop hb11 (.cell (hS15.cell (hk5 0 _ rfl)) .nil)))))))) .nil fun a26 hf42 => ?_
       exact ⟨z3, (decide (p6.lot < p7.lot)), zr, hf42.to, hS15, hr20⟩
     ·rintro a27 ww11 ⟨z4, y4, k5, hf44, hS16, hr21⟩
      refine c_if y4 hf44 (fun hb12 => ?_) (fun hb12 => ?_)
      ·have hr22 := cond_t hb12 hr21
       refine c_seq ?_
       have hS17 := hS16.drew
       have s3 := Sub.of zr hS17
       refine c_regD [(0, true), (1, true), (2, true), (3, true), (4, true), (5, true), (6, true), (7, false), (8, false), (9, true), (10, false)] [8, 10] _ s3 ?_
       obtain ⟨p1, hp9086, hr23⟩ := bind_some hr22
       obtain ⟨ad6, ho6, hb13, cc6, hc6, hk6⟩ := SliceR.getI (SliceR.mono (zt (zt (zt k2 k3) k4) k5) hx_x1) hp9086
       subst hc6
       refine c_S 7 [.slice e1 y1.length q1, .slice o_x1 x1.length c_x1, .pointer (some ad6), vI p1.lot, vI p1.mass] [2, 3, 4, 5, 6, 7, 80, 85] s3 hf44 (fun _ s => (.cell (s.box (i := 1) rfl (j := 0) rfl) (.cell (s.box (i := 3) rfl (j := 0) rfl) (.prop ho6 (.prop hb13 (.cell (s.cell (hk6 0 _ rfl)) (.cell (s.cell (hk6 1 _ rfl)) .nil))))))) .nil fun a28 hf45 => ?_
       refine p_box (i := 7) (d := (some 86)) (cs := [vI p1.lot, vI p1.mass]) (T := 56) (v := fun b6 => .slice (some ⟨b6, 0, none⟩) 1 1) hS17 hf45 (fun b => by kernel_rfl) fun b6 ww12 a29 hS18 hf46 => ⟨fun _ => Sub.of zr (St.drop 1 hS18), ?_⟩
       have hS19 := hS18.ownBox (T := PartT) (E := 56) (n := 1) (xs := [⟨p1.lot, p1.mass⟩]) (i := 0) rfl (Rows.cons (c := [vI p1.lot, vI p1.mass]) rfl rfl) rfl (by decide)
       have s4 := Sub.of zr (St.drop 1 hS19)
       obtain ⟨d1, hd2, hr24⟩ := bind_some hr23
       refine p_append (T := PartT) (i := 8) (j := 1) (d := some 87) (o2 := (some ⟨b6, 0, none⟩)) (c2 := 1) (ys := ([⟨p1.lot, p1.mass⟩])) el38 hS19 hf46 rfl (by kernel_rfl) (hS19.ownSrc (j := 0) rfl) hd2 fun e3 q3 ww13 a30 hS20 hf47 => ⟨fun e => absurd e (by decide), ?_⟩
       refine p_qP 1 [] [(2, pB b1 0), (3, pB b2 0), (4, pB b3 0), (5, pB b4 0), (6, vI y2), (7, vI y3), (87, .slice e3 d1.length q3), (88, pB b4 0)] [] hf47 (by kernel_rfl) (fun _ => .nil) fun a31 hf48 => ?_
       refine c_st 2 [.slice e3 d1.length q3] hS20 hf48 rfl fun ww14 a32 hS21 hf49 => ⟨fun e => absurd e (by decide), ?_⟩
       refine c_dt ?_
       refine c_sq [] [2, 3, 4, 5, 6, 7] hf49 .nil fun a33 hf50 => ?_
       refine c_exit 1 ?_
       refine x_then ?_
       refine x_block ?_
       refine n_then ?_
       exact ⟨n1, Nat.lt_succ_self n1, z4, d1, y2, (w64 (y3 + (1 : Int))), e3, q3, (zt (zt (zt k2 k3) k4) k5), hf50.to, (St.drop 1 hS21), hr24⟩
      ·have hr25 := cond_f hb12 hr21
       refine c_skip ?_
       refine n_then ?_
       refine c_seq ?_
       have hS22 := hS16.drew
       have s5 := Sub.of zr hS22
       refine c_regD [(0, true), (1, true), (2, true), (3, true), (4, true), (5, true), (6, true), (7, true), (8, true), (9, true), (10, true), (11, true), (12, true), (13, true), (14, true), (15, true), (16, true), (17, true), (18, true), (19, true), (20, true), (21, true), (22, false), (23, false), (24, true), (25, false)] [23, 25] _ s5 ?_
       obtain ⟨p2, hp9129, hr26⟩ := bind_some hr25
       obtain ⟨ad7, ho7, hb14, cc7, hc7, hk7⟩ := SliceR.getI (SliceR.mono (zt (zt (zt k2 k3) k4) k5) hx_x0) hp9129
       subst hc7
       obtain ⟨p3, hp9138, hr27⟩ := bind_some hr26
       obtain ⟨ad8, ho8, hb15, cc8, hc8, hk8⟩ := SliceR.getI (SliceR.mono (zt (zt (zt k2 k3) k4) k5) hx_x0) hp9138
       subst hc8
       obtain ⟨p4, hp9147, hr28⟩ := bind_some hr27
       obtain ⟨ad9, ho9, hb16, cc9, hc9, hk9⟩ := SliceR.getI (SliceR.mono (zt (zt (zt k2 k3) k4) k5) hx_x1) hp9147
       subst hc9
       refine c_S 22 [.slice e1 y1.length q1, .slice o_x0 x0.length c_x0, .pointer (some ad7), vI p2.lot, .slice o_x0 x0.length c_x0, .pointer (some ad8), vI p3.mass, .slice o_x1 x1.length c_x1, .pointer (some ad9), vI p4.mass] [2, 3, 4, 5, 6, 7, 92, 112] s5 hf44 (fun _ s => (.cell (s.box (i := 1) rfl (j := 0) rfl) (.cell (s.box (i := 4) rfl (j := 0) rfl) (.prop ho7 (.prop hb14 (.cell (s.cell (hk7 0 _ rfl)) (.cell (s.box (i := 4) rfl (j := 0) rfl) (.prop ho8 (.prop hb15 (.cell (s.cell (hk8 1 _ rfl)) (.cell (s.box (i := 3) rfl (j := 0) rfl) (.prop ho9 (.prop hb16 (.cell (s.cell (hk9 1 _ rfl)) .nil)))))))))))))) .nil fun a34 hf52 => ?_
       refine p_box (i := 22) (d := (some 113)) (cs := [vI p2.lot, vI (w64 (p3.mass + p4.mass))]) (T := 56) (v := fun b7 => .slice (some ⟨b7, 0, none⟩) 1 1) hS22 hf52 (fun b => by kernel_rfl) fun b7 ww15 a35 hS23 hf53 => ⟨fun _ => Sub.of zr (St.drop 1 hS23), ?_⟩
       have hS24 := hS23.ownBox (T := PartT) (E := 56) (n := 1) (xs := [⟨p2.lot, (w64 (p3.mass + p4.mass))⟩]) (i := 0) rfl (Rows.cons (c := [vI p2.lot, vI (w64 (p3.mass + p4.mass))]) rfl rfl) rfl (by decide)
       have s6 := Sub.of zr (St.drop 1 hS24)
       obtain ⟨d2, hd3, hr29⟩ := bind_some hr28
       refine p_append (T := PartT) (i := 23) (j := 1) (d := some 114) (o2 := (some ⟨b7, 0, none⟩)) (c2 := 1) (ys := ([⟨p2.lot, (w64 (p3.mass + p4.mass))⟩])) el38 hS24 hf53 rfl (by kernel_rfl) (hS24.ownSrc (j := 0) rfl) hd3 fun e4 q4 ww16 a36 hS25 hf54 => ⟨fun e => absurd e (by decide), ?_⟩
       refine p_qP 1 [] [(2, pB b1 0), (3, pB b2 0), (4, pB b3 0), (5, pB b4 0), (6, vI y2), (7, vI y3), (114, .slice e4 d2.length q4), (115, pB b4 0)] [] hf54 (by kernel_rfl) (fun _ => .nil) fun a37 hf55 => ?_
       refine c_st 2 [.slice e4 d2.length q4] hS25 hf55 rfl fun ww17 a38 hS26 hf56 => ⟨fun e => absurd e (by decide), ?_⟩
       refine c_dt ?_
       refine c_sq [] [2, 3, 4, 5, 6, 7] hf56 .nil fun a39 hf57 => ?_
       refine c_q [] [2, 3, 4, 5, 6, 7] hf57 .nil fun a40 hf58 => ?_
       refine n_block ?_
       refine n_then ?_
       exact ⟨n1, Nat.lt_succ_self n1, z4, d2, (w64 (y2 + (1 : Int))), (w64 (y3 + (1 : Int))), e4, q4, (zt (zt (zt k2 k3) k4) k5), hf58.to, (St.drop 1 hS26), hr29⟩
  ·have hr30 := cond_f hb2 hr4
   refine c_exit 0 ?_
   refine x_then ?_
   refine x_then ?_
   refine x_block ?_
   refine n_then ?_
   refine c_sr ?_
   refine c_n 1 [.slice e1 y1.length q1] [4, 120] hf16 (.cell (hS7.box (i := 1) rfl (j := 0) rfl) .nil) fun a41 hf60 => ?_
   refine c_st 2 [.slice e1 y1.length q1] hS7 hf60 rfl fun ww18 a42 hS27 hf61 => ⟨fun _ => trivial, ?_⟩
   refine c_dt ?_
   refine c_ret ?_
   obtain ⟨z5, k6, hS28, hx1⟩ := hS27.share (j := 0) rfl
   refine c_rt [.slice e1 y1.length q1] (.agg #[.slice e1 y1.length q1]) hf61 (.cell (hS28.box (i := 2) rfl (j := 0) rfl) .nil) ?_
   obtain rfl := some_eq hr30
   exact ⟨_, rfl, z5, e1, q1, (zt (zt k2 k3) k6), rfl, (St.drop 5 hS28), hx1⟩
def F32_j1 (fuel : Nat) (x0 : List Part) (x1 : List Part) (y1 : Bool) : Option (List Part × Int) :=
  (cond y1 (some ([], 62)) ((F89 fuel x0 x1).bind fun r1 => ((F76 fuel r1).bind fun r2 => (cond (!r2) (some ([], 2)) (some (r1, 0))))))
def F32 (fuel : Nat) (x0 : List Part) (x1 : List Part) : Option (List Part × Int) :=
  ((F76 fuel x0).bind fun r3 => (cond (!r3) (F32_j1 fuel x0 x1 true) ((F76 fuel x1).bind fun r4 => (F32_j1 fuel x0 x1 (!r4)))))
set_option maxRecDepth 100000 in
theorem f32_ok (fuel : Nat) (x0 : List Part) (x1 : List Part) (r : List Part × Int) (hr : F32 fuel x0 x1 = some r) (h : Zone) (L : List Atom) (w : World) (hS : St h L w) (o_x0 : Option Addr) (c_x0 : Nat) (hx_x0 : SliceR PartT h o_x0 c_x0 x0) (o_x1 : Option Addr) (c_x1 : Nat) (hx_x1 : SliceR PartT h o_x1 c_x1 x1) :
    Calls Try.prog 32 #[.agg #[.slice o_x0 x0.length c_x0], .agg #[.slice o_x1 x1.length c_x1]] w fun e w' => ∃ v, e = .returned v ∧ (∃ h', ∃ o0 : Option Addr, ∃ c0 : Nat, Zone.le h h' ∧ v = .tuple #[.agg #[.slice o0 r.1.length c0], vI r.2] ∧ St h' L w' ∧ SliceR PartT h' o0 c0 r.1) := by
 refine calls_intro (N := 24) Try.func32 (by kernel_rfl) fun a hf => ?_
 refine c_sr ?_
 refine c_box [.slice o_x0 x0.length c_x0] 40 hS hf fun b1 ww1 a1 hS1 hf1 => ⟨fun _ => trivial, ?_⟩
 refine c_box [.slice o_x1 x1.length c_x1] 40 hS1 hf1 fun b2 ww2 a2 hS2 hf2 => ⟨fun _ => trivial, ?_⟩
 refine c_box [.slice none 0 0] 40 hS2 hf2 fun b3 ww3 a3 hS3 hf3 => ⟨fun _ => trivial, ?_⟩
 refine c_t [] [2, 3, 4] hf3 .nil fun a4 hf4 => ?_
 refine c_seq ?_
 refine c_mid (fun a w => ∃ z1 : Zone, ∃ y1 : Bool, Zone.le h z1 ∧ Fr a 24 [(2, pB b1 0), (3, pB b2 0), (4, pB b3 0), (14, .bool y1)] ∧ St z1 (box b3 [.slice none 0 0] 40 :: box b2 [.slice o_x1 x1.length c_x1] 40 :: box b1 [.slice o_x0 x0.length c_x0] 40 :: L) w ∧ (F32_j1 fuel x0 x1 y1) = some r) ?_ ?_
 ·skip
  refine c_reg ?_
  refine c_n 1 [.slice o_x0 x0.length c_x0] [2, 3, 4, 7] hf4 (.cell (hS3.box (i := 2) rfl (j := 0) rfl) .nil) fun a5 hf5 => ?_
  obtain ⟨r3, hd1, hr1⟩ := bind_some hr
  refine c_call hf5 (f76_ok fuel x0 r3 hd1 h _ _ hS3 o_x0 c_x0 hx_x0) ?_
  rintro v1 ww4 a6 ⟨z2, k1, rfl, hS4⟩ hf6
  refine ⟨fun _ => trivial, ?_⟩
  refine c_n 2 [] [2, 3, 4, 10] hf6 .nil fun a7 hf7 => ?_
  rcases bft (!r3) with hb1 | hb1
  ·have hr2 := cond_t hb1 hr1
   have hf8 := hf7.lit 10 hb1
   refine c_t [] [2, 3, 4, 14] hf8 .nil fun a8 hf9 => ?_
   exact ⟨z2, true, k1, hf9.to, hS4, hr2⟩
  ·have hr3 := cond_f hb1 hr1
   have hf11 := hf7.lit 10 hb1
   refine c_n 1 [.slice o_x1 x1.length c_x1] [2, 3, 4, 10, 11] hf11 (.cell (hS4.box (i := 1) rfl (j := 0) rfl) .nil) fun a9 hf12 => ?_
   obtain ⟨r4, hd2, hr4⟩ := bind_some hr3
   refine c_call hf12 (f76_ok fuel x1 r4 hd2 z2 _ _ hS4 o_x1 c_x1 (SliceR.mono k1 hx_x1)) ?_
   rintro v2 ww5 a10 ⟨z3, k2, rfl, hS5⟩ hf13
   refine ⟨fun _ => trivial, ?_⟩
   refine c_t [] [2, 3, 4, 14] hf13 .nil fun a11 hf14 => ?_
   exact ⟨z3, (!r4), (zt k1 k2), hf14.to, hS5, hr4⟩
 ·rintro a12 ww6 ⟨z1, y1, k3, hf16, hS6, hr5⟩
  refine c_if y1 hf16 (fun hb2 => ?_) (fun hb2 => ?_)
  ·have hr6 := cond_t hb2 hr5
   refine c_sr ?_
   refine c_n 1 [] [4, 15] hf16 .nil fun a13 hf17 => ?_
   refine c_st 0 [.slice none 0 0] hS6 hf17 rfl fun ww7 a14 hS7 hf18 => ⟨fun _ => trivial, ?_⟩
   refine c_t [] [4, 5] hf18 .nil fun a15 hf19 => ?_
   refine c_ret ?_
   refine r_then ?_
   refine c_rt [.slice none 0 0] (.tuple #[.agg #[.slice none 0 0], vI 62]) hf19 (.cell (hS7.box (i := 0) rfl (j := 0) rfl) .nil) ?_
   obtain rfl := some_eq hr6
   exact ⟨_, rfl, z1, none, 0, k3, rfl, (St.drop 3 hS7), SliceR.nil' _ _⟩
  ·have hr7 := cond_f hb2 hr5
   refine c_skip ?_
   refine n_then ?_
   refine c_sr ?_
   refine c_n 2 [.slice o_x0 x0.length c_x0, .slice o_x1 x1.length c_x1] [4, 16, 17] hf16 (.cell (hS6.box (i := 2) rfl (j := 0) rfl) (.cell (hS6.box (i := 1) rfl (j := 0) rfl) .nil)) fun a16 hf20 => ?_
   obtain ⟨r1, hd3, hr8⟩ := bind_some hr7
   refine c_call hf20 (f89_ok fuel x0 x1 r1 hd3 z1 _ _ hS6 o_x0 c_x0 (SliceR.mono k3 hx_x0) o_x1 c_x1 (SliceR.mono k3 hx_x1)) ?_
   rintro v3 ww8 a17 ⟨z4, e1, q1, k4, rfl, hS8, hx1⟩ hf21
   refine ⟨fun _ => trivial, ?_⟩
   refine c_box [.slice none 0 0] 40 hS8 hf21 fun b4 ww9 a18 hS9 hf22 => ⟨fun _ => trivial, ?_⟩
   refine c_st 0 [.slice e1 r1.length q1] hS9 hf22 rfl fun ww10 a19 hS10 hf23 => ⟨fun _ => trivial, ?_⟩
   refine c_dt ?_
   refine c_seq ?_
   refine c_sr ?_
   refine c_n 1 [.slice e1 r1.length q1] [4, 6, 19] hf23 (.cell (hS10.box (i := 0) rfl (j := 0) rfl) .nil) fun a20 hf24 => ?_
   obtain ⟨r2, hd4, hr9⟩ := bind_some hr8
   refine c_call hf24 (f76_ok fuel r1 r2 hd4 z4 _ _ hS10 e1 q1 hx1) ?_
   rintro v4 ww11 a21 ⟨z5, k5, rfl, hS11⟩ hf25
   refine ⟨fun _ => trivial, ?_⟩
   refine c_t [] [4, 6, 21] hf25 .nil fun a22 hf26 => ?_
   refine c_if (!r2) hf26 (fun hb3 => ?_) (fun hb3 => ?_)
   ·have hr10 := cond_t hb3 hr9
    refine c_sr ?_
    refine c_n 1 [] [4, 22] hf26 .nil fun a23 hf27 => ?_
    refine c_st 1 [.slice none 0 0] hS11 hf27 rfl fun ww12 a24 hS12 hf28 => ⟨fun _ => trivial, ?_⟩
    refine c_t [] [4, 5] hf28 .nil fun a25 hf29 => ?_
    refine c_ret ?_
    refine r_then ?_
    refine c_rt [.slice none 0 0] (.tuple #[.agg #[.slice none 0 0], vI 2]) hf29 (.cell (hS12.box (i := 1) rfl (j := 0) rfl) .nil) ?_
    obtain rfl := some_eq hr10
    exact ⟨_, rfl, z5, none, 0, (zt (zt k3 k4) k5), rfl, (St.drop 4 hS12), SliceR.nil' _ _⟩
   ·have hr11 := cond_f hb3 hr9
    refine c_skip ?_
    refine n_then ?_
    refine c_sr ?_
    refine c_n 1 [.slice e1 r1.length q1] [4, 23] hf26 (.cell (hS11.box (i := 0) rfl (j := 0) rfl) .nil) fun a26 hf30 => ?_
    refine c_st 1 [.slice e1 r1.length q1] hS11 hf30 rfl fun ww13 a27 hS13 hf31 => ⟨fun _ => trivial, ?_⟩
    refine c_t [] [4, 5] hf31 .nil fun a28 hf32 => ?_
    refine c_ret ?_
    refine c_rt [.slice e1 r1.length q1] (.tuple #[.agg #[.slice e1 r1.length q1], vI 0]) hf32 (.cell (hS13.box (i := 1) rfl (j := 0) rfl) .nil) ?_
    obtain rfl := some_eq hr11
    exact ⟨_, rfl, z5, e1, q1, (zt (zt k3 k4) k5), rfl, (St.drop 4 hS13), (SliceR.mono k5 hx1)⟩
def F33 (fuel : Nat) (x0 : List Part) : Option (Int) :=
  ((F73 fuel x0).bind fun r1 => (cond (!r1) (some (0)) ((F90 fuel x0).bind fun r2 => (some (r2)))))
set_option maxRecDepth 100000 in
theorem f33_ok (fuel : Nat) (x0 : List Part) (r : Int) (hr : F33 fuel x0 = some r) (h : Zone) (L : List Atom) (w : World) (hS : St h L w) (o_x0 : Option Addr) (c_x0 : Nat) (hx_x0 : SliceR PartT h o_x0 c_x0 x0) :
    Calls Try.prog 33 #[.agg #[.slice o_x0 x0.length c_x0]] w fun e w' => ∃ v, e = .returned v ∧ (∃ h', Zone.le h h' ∧ v = vI r ∧ St h' L w') := by
 refine calls_intro (N := 8) Try.func33 (by kernel_rfl) fun a hf => ?_
 refine c_sr ?_
 refine c_box [.slice o_x0 x0.length c_x0] 40 hS hf fun b1 ww1 a1 hS1 hf1 => ⟨fun _ => trivial, ?_⟩
 refine c_t [] [1] hf1 .nil fun a2 hf2 => ?_
 refine c_seq ?_
 refine c_sr ?_
 refine c_n 1 [.slice o_x0 x0.length c_x0] [1, 3] hf2 (.cell (hS1.box (i := 0) rfl (j := 0) rfl) .nil) fun a3 hf3 => ?_
 obtain ⟨r1, hd1, hr1⟩ := bind_some hr
 refine c_call hf3 (f73_ok fuel x0 r1 hd1 h _ _ hS1 o_x0 c_x0 hx_x0) ?_
 rintro v1 ww2 a4 ⟨z1, k1, rfl, hS2⟩ hf4
 refine ⟨fun _ => trivial, ?_⟩
 refine c_t [] [1, 5] hf4 .nil fun a5 hf5 => ?_
 refine c_if (!r1) hf5 (fun hb1 => ?_) (fun hb1 => ?_)
 ·have hr2 := cond_t hb1 hr1
  refine c_sq [] [2] hf5 .nil fun a6 hf6 => ?_
  refine c_ret ?_
  refine r_then ?_
  refine c_rt [] (vI 0) hf6 .nil ?_
  obtain rfl := some_eq hr2
  exact ⟨_, rfl, z1, k1, rfl, (St.drop 1 hS2)⟩
 ·have hr3 := cond_f hb1 hr1
  refine c_skip ?_
  refine n_then ?_
  refine c_sr ?_
  refine c_n 1 [.slice o_x0 x0.length c_x0] [6] hf5 (.cell (hS2.box (i := 0) rfl (j := 0) rfl) .nil) fun a7 hf7 => ?_
  obtain ⟨r2, hd2, hr4⟩ := bind_some hr3
  refine c_call hf7 (f90_ok fuel x0 r2 hd2 z1 _ _ hS2 o_x0 c_x0 (SliceR.mono k1 hx_x0)) ?_
  rintro v2 ww3 a8 ⟨z2, k2, rfl, hS3⟩ hf8
  refine ⟨fun _ => trivial, ?_⟩
  refine c_t [] [2] hf8 .nil fun a9 hf9 => ?_
  refine c_ret ?_
  refine c_rt [] (vI r2) hf9 .nil ?_
  obtain rfl := some_eq hr4
  exact ⟨_, rfl, z2, (zt k1 k2), rfl, (St.drop 1 hS3)⟩
def F34 (fuel : Nat) (x0 : List Part) : Option (Int) :=
  ((F76 fuel x0).bind fun r1 => (cond (!r1) (some (0)) ((F92 fuel x0).bind fun r2 => (some (r2)))))
set_option maxRecDepth 100000 in
theorem f34_ok (fuel : Nat) (x0 : List Part) (r : Int) (hr : F34 fuel x0 = some r) (h : Zone) (L : List Atom) (w : World) (hS : St h L w) (o_x0 : Option Addr) (c_x0 : Nat) (hx_x0 : SliceR PartT h o_x0 c_x0 x0) :
    Calls Try.prog 34 #[.agg #[.slice o_x0 x0.length c_x0]] w fun e w' => ∃ v, e = .returned v ∧ (∃ h', Zone.le h h' ∧ v = vI r ∧ St h' L w') := by
 refine calls_intro (N := 8) Try.func34 (by kernel_rfl) fun a hf => ?_
 refine c_sr ?_
 refine c_box [.slice o_x0 x0.length c_x0] 40 hS hf fun b1 ww1 a1 hS1 hf1 => ⟨fun _ => trivial, ?_⟩
 refine c_t [] [1] hf1 .nil fun a2 hf2 => ?_
 refine c_seq ?_
 refine c_sr ?_
 refine c_n 1 [.slice o_x0 x0.length c_x0] [1, 3] hf2 (.cell (hS1.box (i := 0) rfl (j := 0) rfl) .nil) fun a3 hf3 => ?_
 obtain ⟨r1, hd1, hr1⟩ := bind_some hr
 refine c_call hf3 (f76_ok fuel x0 r1 hd1 h _ _ hS1 o_x0 c_x0 hx_x0) ?_
 rintro v1 ww2 a4 ⟨z1, k1, rfl, hS2⟩ hf4
 refine ⟨fun _ => trivial, ?_⟩
 refine c_t [] [1, 5] hf4 .nil fun a5 hf5 => ?_
 refine c_if (!r1) hf5 (fun hb1 => ?_) (fun hb1 => ?_)
 ·have hr2 := cond_t hb1 hr1
  refine c_sq [] [2] hf5 .nil fun a6 hf6 => ?_
  refine c_ret ?_
  refine r_then ?_
  refine c_rt [] (vI 0) hf6 .nil ?_
  obtain rfl := some_eq hr2
  exact ⟨_, rfl, z1, k1, rfl, (St.drop 1 hS2)⟩
 ·have hr3 := cond_f hb1 hr1
  refine c_skip ?_
  refine n_then ?_
  refine c_sr ?_
  refine c_n 1 [.slice o_x0 x0.length c_x0] [6] hf5 (.cell (hS2.box (i := 0) rfl (j := 0) rfl) .nil) fun a7 hf7 => ?_
  obtain ⟨r2, hd2, hr4⟩ := bind_some hr3
  refine c_call hf7 (f92_ok fuel x0 r2 hd2 z1 _ _ hS2 o_x0 c_x0 (SliceR.mono k1 hx_x0)) ?_
  rintro v2 ww3 a8 ⟨z2, k2, rfl, hS3⟩ hf8
  refine ⟨fun _ => trivial, ?_⟩
  refine c_t [] [2] hf8 .nil fun a9 hf9 => ?_
  refine c_ret ?_
  refine c_rt [] (vI r2) hf9 .nil ?_
  obtain rfl := some_eq hr4
  exact ⟨_, rfl, z2, (zt k1 k2), rfl, (St.drop 1 hS3)⟩
def F6_j1 (y1 : Bool) : Option (Bool) :=
  (some (y1))
def F6 (fuel : Nat) (x0 : List Part) (x1 : List Part) (x2 : Int) : Option (Bool) :=
  ((F16 fuel ).bind fun r1 => ((F30 fuel x0 x2).bind fun r2 => ((F31 fuel x0 x2).bind fun r3 => ((F25 fuel x0 x1).bind fun r4 => ((F32 fuel x0 x1).bind fun r5 => ((F26 fuel r2.1 r3.1).bind fun r6 => ((F26 fuel r2.2.1 r3.2.1).bind fun r7 => ((F26 fuel r4.1 r5.1).bind fun r8 => (cond r1 (cond r6 (cond r7 (cond r8 (cond (r2.2.2 == r3.2.2) (cond (r4.2 == r5.2) ((F33 fuel x0).bind fun r9 => ((F34 fuel x0).bind fun r10 => (F6_j1 (r9 == r10)))) (F6_j1 false)) (F6_j1 false)) (F6_j1 false)) (F6_j1 false)) (F6_j1 false)) (F6_j1 false))))))))))
set_option maxRecDepth 100000 in
theorem f6_ok (fuel : Nat) (x0 : List Part) (x1 : List Part) (x2 : Int) (r : Bool) (hr : F6 fuel x0 x1 x2 = some r) (h : Zone) (L : List Atom) (w : World) (hS : St h L w) (o_x0 : Option Addr) (c_x0 : Nat) (hx_x0 : SliceR PartT h o_x0 c_x0 x0) (o_x1 : Option Addr) (c_x1 : Nat) (hx_x1 : SliceR PartT h o_x1 c_x1 x1) :
    Calls Try.prog 6 #[.agg #[.slice o_x0 x0.length c_x0], .agg #[.slice o_x1 x1.length c_x1], vI x2] w fun e w' => ∃ v, e = .returned v ∧ (∃ h', Zone.le h h' ∧ v = .bool r ∧ St h' L w') := by
 refine calls_intro (N := 84) Try.func6 (by kernel_rfl) fun a hf => ?_
 refine c_sr ?_
 refine c_box [.slice o_x0 x0.length c_x0] 40 hS hf fun b1 ww1 a1 hS1 hf1 => ⟨fun _ => trivial, ?_⟩
 refine c_box [.slice o_x1 x1.length c_x1] 40 hS1 hf1 fun b2 ww2 a2 hS2 hf2 => ⟨fun _ => trivial, ?_⟩
 refine c_t [] [2, 3, 4] hf2 .nil fun a3 hf3 => ?_
 refine c_sr ?_
 obtain ⟨r1, hd1, hr1⟩ := bind_some hr
 refine c_call hf3 (f16_ok fuel  r1 hd1 h _ _ hS2 ) ?_
 rintro v1 ww3 a4 ⟨z1, k1, rfl, hS3⟩ hf4
 refine ⟨fun _ => trivial, ?_⟩
 refine c_t [] [2, 3, 4, 7] hf4 .nil fun a5 hf5 => ?_
 refine c_sr ?_
 refine c_n 2 [.slice o_x0 x0.length c_x0] [2, 3, 4, 7, 23, 24] hf5 (.cell (hS3.box (i := 1) rfl (j := 0) rfl) .nil) fun a6 hf6 => ?_
 obtain ⟨r2, hd2, hr2⟩ := bind_some hr1
 refine c_call hf6 (f30_ok fuel x0 x2 r2 hd2 z1 _ _ hS3 o_x0 c_x0 (SliceR.mono k1 hx_x0)) ?_
 rintro v2 ww4 a7 ⟨z2, e1, q1, e2, q2, k2, rfl, hS4, hx1, hx2⟩ hf7
 refine ⟨fun _ => trivial, ?_⟩
 refine c_n 4 [] [2, 3, 4, 7, 26, 27, 28] hf7 .nil fun a8 hf8 => ?_
 refine c_box [.slice none 0 0] 40 hS4 hf8 fun b3 ww5 a9 hS5 hf9 => ⟨fun _ => trivial, ?_⟩
 refine c_box [.slice none 0 0] 40 hS5 hf9 fun b4 ww6 a10 hS6 hf10 => ⟨fun _ => trivial, ?_⟩
 refine c_st 1 [.slice e1 r2.1.length q1] hS6 hf10 rfl fun ww7 a11 hS7 hf11 => ⟨fun _ => trivial, ?_⟩
 refine c_st 0 [.slice e2 r2.2.1.length q2] hS7 hf11 rfl fun ww8 a12 hS8 hf12 => ⟨fun _ => trivial, ?_⟩
 refine c_t [] [2, 3, 4, 7, 8, 9, 10] hf12 .nil fun a13 hf13 => ?_
 refine c_sr ?_
 refine c_n 2 [.slice o_x0 x0.length c_x0] [3, 4, 7, 8, 9, 10, 30, 31] hf13 (.cell (hS8.box (i := 3) rfl (j := 0) rfl) .nil) fun a14 hf14 => ?_
 obtain ⟨r3, hd3, hr3⟩ := bind_some hr2
 refine c_call hf14 (f31_ok fuel x0 x2 r3 hd3 z2 _ _ hS8 o_x0 c_x0 (SliceR.mono (zt k1 k2) hx_x0)) ?_
 rintro v3 ww9 a15 ⟨z3, e3, q3, e4, q4, k3, rfl, hS9, hx3, hx4⟩ hf15
 refine ⟨fun _ => trivial, ?_⟩
 refine c_n 4 [] [3, 4, 7, 8, 9, 10, 33, 34, 35] hf15 .nil fun a16 hf16 => ?_
 refine c_box [.slice none 0 0] 40 hS9 hf16 fun b5 ww10 a17 hS10 hf17 => ⟨fun _ => trivial, ?_⟩
 refine c_box [.slice none 0 0] 40 hS10 hf17 fun b6 ww11 a18 hS11 hf18 => ⟨fun _ => trivial, ?_⟩
 refine c_st 1 [.slice e3 r3.1.length q3] hS11 hf18 rfl fun ww12 a19 hS12 hf19 => ⟨fun _ => trivial, ?_⟩
 refine c_st 0 [.slice e4 r3.2.1.length q4] hS12 hf19 rfl fun ww13 a20 hS13 hf20 => ⟨fun _ => trivial, ?_⟩
 refine c_t [] [3, 4, 7, 8, 9, 10, 11, 12, 13] hf20 .nil fun a21 hf21 => ?_
 refine c_sr ?_
 refine c_n 2 [.slice o_x0 x0.length c_x0, .slice o_x1 x1.length c_x1] [3, 4, 7, 8, 9, 10, 11, 12, 13, 37, 38] hf21 (.cell (hS13.box (i := 5) rfl (j := 0) rfl) (.cell (hS13.box (i := 4) rfl (j := 0) rfl) .nil)) fun a22 hf22 => ?_
 obtain ⟨r4, hd4, hr4⟩ := bind_some hr3
 refine c_call hf22 (f25_ok fuel x0 x1 r4 hd4 z3 _ _ hS13 o_x0 c_x0 (SliceR.mono (zt (zt k1 k2) k3) hx_x0) o_x1 c_x1 (SliceR.mono (zt (zt k1 k2) k3) hx_x1)) ?_
 rintro v4 ww14 a23 ⟨z4, e5, q5, k4, rfl, hS14, hx5⟩ hf23
 refine ⟨fun _ => trivial, ?_⟩
 refine c_n 3 [] [3, 4, 7, 8, 9, 10, 11, 12, 13, 40, 41] hf23 .nil fun a24 hf24 => ?_
 refine c_box [.slice none 0 0] 40 hS14 hf24 fun b7 ww15 a25 hS15 hf25 => ⟨fun _ => trivial, ?_⟩
 refine c_st 0 [.slice e5 r4.1.length q5] hS15 hf25 rfl fun ww16 a26 hS16 hf26 => ⟨fun _ => trivial, ?_⟩
 refine c_t [] [3, 4, 7, 8, 9, 10, 11, 12, 13, 14, 15] hf26 .nil fun a27 hf27 => ?_
 refine c_sr ?_
 refine c_n 2 [.slice o_x0 x0.length c_x0, .slice o_x1 x1.length c_x1] [3, 7, 8, 9, 10, 11, 12, 13, 14, 15, 43, 44] hf27 (.cell (hS16.box (i := 6) rfl (j := 0) rfl) (.cell (hS16.box (i := 5) rfl (j := 0) rfl) .nil)) fun a28 hf28 => ?_
 obtain ⟨r5, hd5, hr5⟩ := bind_some hr4
 refine c_call hf28 (f32_ok fuel x0 x1 r5 hd5 z4 _ _ hS16 o_x0 c_x0 (SliceR.mono (zt (zt (zt k1 k2) k3) k4) hx_x0) o_x1 c_x1 (SliceR.mono (zt (zt (zt k1 k2) k3) k4) hx_x1)) ?_
 rintro v5 ww17 a29 ⟨z5, e6, q6, k5, rfl, hS17, hx6⟩ hf29
 refine ⟨fun _ => trivial, ?_⟩
 refine c_n 3 [] [3, 7, 8, 9, 10, 11, 12, 13, 14, 15, 46, 47] hf29 .nil fun a30 hf30 => ?_
 refine c_box [.slice none 0 0] 40 hS17 hf30 fun b8 ww18 a31 hS18 hf31 => ⟨fun _ => trivial, ?_⟩
 refine c_st 0 [.slice e6 r5.1.length q6] hS18 hf31 rfl fun ww19 a32 hS19 hf32 => ⟨fun _ => trivial, ?_⟩
 refine c_t [] [3, 7, 8, 9, 10, 11, 12, 13, 14, 15, 16, 17] hf32 .nil fun a33 hf33 => ?_
 refine c_sr ?_
 refine c_n 2 [.slice e1 r2.1.length q1, .slice e3 r3.1.length q3] [3, 7, 9, 10, 12, 13, 14, 15, 16, 17, 48, 49] hf33 (.cell (hS19.box (i := 5) rfl (j := 0) rfl) (.cell (hS19.box (i := 3) rfl (j := 0) rfl) .nil)) fun a34 hf34 => ?_
 obtain ⟨r6, hd6, hr6⟩ := bind_some hr5
 refine c_call hf34 (f26_ok fuel r2.1 r3.1 r6 hd6 z5 _ _ hS19 e1 q1 (SliceR.mono (zt (zt k3 k4) k5) hx1) e3 q3 (SliceR.mono (zt k4 k5) hx3)) ?_
 rintro v6 ww20 a35 ⟨z6, k6, rfl, hS20⟩ hf35
 refine ⟨fun _ => trivial, ?_⟩
 refine c_t [] [3, 7, 9, 10, 12, 13, 14, 15, 16, 17, 18] hf35 .nil fun a36 hf36 => ?_
 refine c_sr ?_
 refine c_n 2 [.slice e2 r2.2.1.length q2, .slice e4 r3.2.1.length q4] [3, 7, 10, 13, 14, 15, 16, 17, 18, 51, 52] hf36 (.cell (hS20.box (i := 4) rfl (j := 0) rfl) (.cell (hS20.box (i := 2) rfl (j := 0) rfl) .nil)) fun a37 hf37 => ?_
 obtain ⟨r7, hd7, hr7⟩ := bind_some hr6
 refine c_call hf37 (f26_ok fuel r2.2.1 r3.2.1 r7 hd7 z6 _ _ hS20 e2 q2 (SliceR.mono (zt (zt (zt k3 k4) k5) k6) hx2) e4 q4 (SliceR.mono (zt (zt k4 k5) k6) hx4)) ?_
 rintro v7 ww21 a38 ⟨z7, k7, rfl, hS21⟩ hf38
 refine ⟨fun _ => trivial, ?_⟩
 refine c_t [] [3, 7, 10, 13, 14, 15, 16, 17, 18, 19] hf38 .nil fun a39 hf39 => ?_
 refine c_sr ?_
 refine c_n 2 [.slice e5 r4.1.length q5, .slice e6 r5.1.length q6] [3, 7, 10, 13, 15, 17, 18, 19, 54, 55] hf39 (.cell (hS21.box (i := 1) rfl (j := 0) rfl) (.cell (hS21.box (i := 0) rfl (j := 0) rfl) .nil)) fun a40 hf40 => ?_
 obtain ⟨r8, hd8, hr8⟩ := bind_some hr7
 refine c_call hf40 (f26_ok fuel r4.1 r5.1 r8 hd8 z7 _ _ hS21 e5 q5 (SliceR.mono (zt (zt k5 k6) k7) hx5) e6 q6 (SliceR.mono (zt k6 k7) hx6)) ?_
 rintro v8 ww22 a41 ⟨z8, k8, rfl, hS22⟩ hf41
 refine ⟨fun _ => trivial, ?_⟩
 refine c_t [] [3, 7, 10, 13, 15, 17, 18, 19, 20] hf41 .nil fun a42 hf42 => ?_
 refine c_mid (fun a w => ∃ z9 : Zone, ∃ y1 : Bool, Zone.le z8 z9 ∧ Fr a 84 [(6, .bool y1)] ∧ St z9 (box b8 [.slice e6 r5.1.length q6] 40 :: box b7 [.slice e5 r4.1.length q5] 40 :: box b6 [.slice e4 r3.2.1.length q4] 40 :: box b5 [.slice e3 r3.1.length q3] 40 :: box b4 [.slice e2 r2.2.1.length q2] 40 :: box b3 [.slice e1 r2.1.length q1] 40 :: box b2 [.slice o_x1 x1.length c_x1] 40 :: box b1 [.slice o_x0 x0.length c_x0] 40 :: L) w ∧ (F6_j1 y1) = some r) ?_ ?_
 ·skip
  have hS23 := hS22.drew
  have s1 := Sub.of zr hS23
  refine c_regD [(0, true), (1, true), (2, true), (3, true), (4, true), (5, true), (6, true), (7, true), (8, true), (9, true), (10, true), (11, true), (12, true), (13, true), (14, true), (15, true), (16, true), (17, true), (18, true), (19, true), (20, true), (21, true), (23, true), (22, false), (24, false), (25, true), (26, true), (27, true)] [24] _ s1 ?_
  refine c_S 2 [] [3, 10, 13, 15, 17, 18, 19, 20, 58] s1 hf42 (fun _ s => .nil) .nil fun a43 hf43 => ?_
  rcases bft r1 with hb1 | hb1
  ·have hr9 := cond_t hb1 hr8
   have hf44 := hf43.lit 58 hb1
   refine c_S 3 [] [3, 10, 13, 15, 17, 19, 20, 61] s1 hf44 (fun _ s => .nil) .nil fun a44 hf45 => ?_
   rcases bft r6 with hb2 | hb2
   ·have hr10 := cond_t hb2 hr9
    have hf46 := hf45.lit 61 hb2
    refine c_S 3 [] [3, 10, 13, 15, 17, 20, 64] s1 hf46 (fun _ s => .nil) .nil fun a45 hf47 => ?_
    rcases bft r7 with hb3 | hb3
    ·have hr11 := cond_t hb3 hr10
     have hf48 := hf47.lit 64 hb3
     refine c_S 3 [] [3, 10, 13, 15, 17, 67] s1 hf48 (fun _ s => .nil) .nil fun a46 hf49 => ?_
     rcases bft r8 with hb4 | hb4
     ·have hr12 := cond_t hb4 hr11
      have hf50 := hf49.lit 67 hb4
      refine c_S 5 [] [3, 15, 17, 72] s1 hf50 (fun _ s => .nil) .nil fun a47 hf51 => ?_
      rcases bft (r2.2.2 == r3.2.2) with hb5 | hb5
      ·have hr13 := cond_t hb5 hr12
       have hf52 := hf51.lit 72 hb5
       refine c_S 5 [] [3, 77] s1 hf52 (fun _ s => .nil) .nil fun a48 hf53 => ?_
       rcases bft (r4.2 == r5.2) with hb6 | hb6
       ·have hr14 := cond_t hb6 hr13
        have hf54 := hf53.lit 77 hb6
        refine c_S 2 [.slice o_x0 x0.length c_x0, .slice o_x0 x0.length c_x0] [77, 78, 80] s1 hf54 (fun _ s => (.cell (s.box (i := 7) rfl (j := 0) rfl) (.cell (s.box (i := 7) rfl (j := 0) rfl) .nil))) .nil fun a49 hf55 => ?_
        obtain ⟨r9, hd9, hr15⟩ := bind_some hr14
        refine c_call hf55 (f33_ok fuel x0 r9 hd9 z8 _ _ hS23 o_x0 c_x0 (SliceR.mono (zt (zt (zt (zt (zt (zt (zt k1 k2) k3) k4) k5) k6) k7) k8) hx_x0)) ?_
        rintro v9 ww23 a50 ⟨z10, k9, rfl, hS24⟩ hf56
        refine ⟨fun _ => Sub.of k9 hS24, ?_⟩
        have s2 := Sub.of k9 hS24
        obtain ⟨r10, hd10, hr16⟩ := bind_some hr15
        refine c_call hf56 (f34_ok fuel x0 r10 hd10 z10 _ _ hS24 o_x0 c_x0 (SliceR.mono (zt (zt (zt (zt (zt (zt (zt (zt k1 k2) k3) k4) k5) k6) k7) k8) k9) hx_x0)) ?_
        rintro v10 ww24 a51 ⟨z11, k10, rfl, hS25⟩ hf57
        refine ⟨fun e => absurd e (by decide), ?_⟩
        refine p_qP 3 [] [(6, .bool (r9 == r10))] [] hf57 (by kernel_rfl) (fun _ => .nil) fun a52 hf58 => ?_
        refine c_dt ?_
        exact ⟨z11, (r9 == r10), (zt k9 k10), hf58.to, hS25, hr16⟩
       ·have hr17 := cond_f hb6 hr13
        have hf60 := hf53.lit 77 hb6
        refine c_S 3 [] [77, 79, 80] s1 hf60 (fun _ s => .nil) .nil fun a53 hf61 => ?_
        refine p_qL 1 [] [(77, .bool false), (79, undef), (81, undef)] [] hf61 (by kernel_rfl) .nil fun a54 hf62 => ?_
        refine c_S 3 [] [6] s1 hf62 (fun _ s => .nil) .nil fun a55 hf63 => ?_
        refine c_dt ?_
        exact ⟨z8, false, zr, hf63.to, hS23, hr17⟩
      ·have hr18 := cond_f hb5 hr12
       have hf65 := hf51.lit 72 hb5
       refine c_S 8 [] [77, 79, 80] s1 hf65 (fun _ s => .nil) .nil fun a56 hf66 => ?_
       refine p_qL 1 [] [(77, .bool false), (79, undef), (81, undef)] [] hf66 (by kernel_rfl) .nil fun a57 hf67 => ?_
       refine c_S 3 [] [6] s1 hf67 (fun _ s => .nil) .nil fun a58 hf68 => ?_
       refine c_dt ?_
       exact ⟨z8, false, zr, hf68.to, hS23, hr18⟩
     ·have hr19 := cond_f hb4 hr11
      have hf70 := hf49.lit 67 hb4
      refine c_S 13 [] [77, 79, 80] s1 hf70 (fun _ s => .nil) .nil fun a59 hf71 => ?_
      refine p_qL 1 [] [(77, .bool false), (79, undef), (81, undef)] [] hf71 (by kernel_rfl) .nil fun a60 hf72 => ?_
      refine c_S 3 [] [6] s1 hf72 (fun _ s => .nil) .nil fun a61 hf73 => ?_
      refine c_dt ?_
      exact ⟨z8, false, zr, hf73.to, hS23, hr19⟩
    ·have hr20 := cond_f hb3 hr10
     have hf75 := hf47.lit 64 hb3
     refine c_S 16 [] [77, 79, 80] s1 hf75 (fun _ s => .nil) .nil fun a62 hf76 => ?_
     refine p_qL 1 [] [(77, .bool false), (79, undef), (81, undef)] [] hf76 (by kernel_rfl) .nil fun a63 hf77 => ?_
     refine c_S 3 [] [6] s1 hf77 (fun _ s => .nil) .nil fun a64 hf78 => ?_
     refine c_dt ?_
     exact ⟨z8, false, zr, hf78.to, hS23, hr20⟩
   ·have hr21 := cond_f hb2 hr9
    have hf80 := hf45.lit 61 hb2
    refine c_S 19 [] [77, 79, 80] s1 hf80 (fun _ s => .nil) .nil fun a65 hf81 => ?_
    refine p_qL 1 [] [(77, .bool false), (79, undef), (81, undef)] [] hf81 (by kernel_rfl) .nil fun a66 hf82 => ?_
    refine c_S 3 [] [6] s1 hf82 (fun _ s => .nil) .nil fun a67 hf83 => ?_
    refine c_dt ?_
    exact ⟨z8, false, zr, hf83.to, hS23, hr21⟩
  ·have hr22 := cond_f hb1 hr8
   have hf85 := hf43.lit 58 hb1
   refine c_S 22 [] [77, 79, 80] s1 hf85 (fun _ s => .nil) .nil fun a68 hf86 => ?_
   refine p_qL 1 [] [(77, .bool false), (79, undef), (81, undef)] [] hf86 (by kernel_rfl) .nil fun a69 hf87 => ?_
   refine c_S 3 [] [6] s1 hf87 (fun _ s => .nil) .nil fun a70 hf88 => ?_
   refine c_dt ?_
   exact ⟨z8, false, zr, hf88.to, hS23, hr22⟩
 ·rintro a71 ww25 ⟨z9, y1, k11, hf90, hS26, hr23⟩
  refine c_ret ?_
  refine c_rt [] (.bool y1) hf90 .nil ?_
  obtain rfl := some_eq hr23
  exact ⟨_, rfl, z9, (zt (zt (zt (zt (zt (zt (zt (zt k1 k2) k3) k4) k5) k6) k7) k8) k11), rfl, (St.drop 8 hS26)⟩
end Go.Proofs.Ytlmgjjmighajdaa
set_option linter.unusedSimpArgs false
set_option linter.unusedVariables false
namespace Go.Proofs.Ytlmgjjmighajdaa
open Go.Sl Go.Sx
theorem w64_id {n : Int} (h1 : -9223372036854775808 ≤ n) (h2 : n ≤ 9223372036854775807) : w64 n = n := by
  unfold w64 IntKind.wrap
  simp [IntKind.bits, IntKind.signed]
  omega
theorem succ_w {i : Nat} (h : i < 4000000000) : w64 ((i : Int) + 1) = ((i + 1 : Nat) : Int) := by
  rw [w64_id (by omega) (by omega)]; simp
theorem pred_w {i : Nat} (h : i < 4000000000) (h0 : 0 < i) : w64 ((i : Int) - 1) = ((i - 1 : Nat) : Int) := by
  rw [w64_id (by omega) (by omega)]; omega
theorem loop_all {ρ : Type} {L : Nat → Int → Option ρ} {len : Nat} {good : Nat → Prop} {no yes : Option ρ}
    (h : ∀ n i, i < len → (good i ∧ L (n + 1) (i : Int) = L n ((i + 1 : Nat) : Int)) ∨ (¬ good i ∧ L (n + 1) (i : Int) = no))
    (he : ∀ n, L (n + 1) (len : Int) = yes) : ∀ n i, i ≤ len → len - i < n → ((∀ j, i ≤ j → j < len → good j) ∧ L n (i : Int) = yes) ∨ ((¬ ∀ j, i ≤ j → j < len → good j) ∧ L n (i : Int) = no)
  | 0, i, _, hn => by omega
  | n + 1, i, hi, hn => by
    rcases Nat.lt_or_ge i len with hlt | hge
    · rcases h n i hlt with ⟨hg, e⟩ | ⟨hg, e⟩
      · rw [e]
        rcases loop_all h he n (i + 1) (by omega) (by omega) with ⟨h1, h2⟩ | ⟨h1, h2⟩
        · exact .inl ⟨fun j hj hl => by rcases Nat.eq_or_lt_of_le hj with e | e; exact e ▸ hg; exact h1 j e hl, h2⟩
        · exact .inr ⟨fun hall => h1 fun j hj hl => hall j (by omega) hl, h2⟩
      · exact .inr ⟨fun hall => hg (hall i (Nat.le_refl _) hlt), e⟩
    · have : i = len := by omega
      subst this
      exact .inl ⟨fun j hj hl => by omega, he n⟩
theorem loop_all0 {ρ : Type} {L : Nat → Int → Option ρ} {len : Nat} {good : Nat → Prop} {no yes : Option ρ}
    (h : ∀ n i, i < len → (good i ∧ L (n + 1) (i : Int) = L n ((i + 1 : Nat) : Int)) ∨ (¬ good i ∧ L (n + 1) (i : Int) = no))
    (he : ∀ n, L (n + 1) (len : Int) = yes) {n : Nat} (hn : len < n) : ((∀ j, j < len → good j) ∧ L n 0 = yes) ∨ ((¬ ∀ j, j < len → good j) ∧ L n 0 = no) := by
  rcases loop_all h he n 0 (by omega) (by omega) with ⟨h1, h2⟩ | ⟨h1, h2⟩
  · exact .inl ⟨fun j hj => h1 j (by omega) hj, h2⟩
  · exact .inr ⟨fun h => h1 fun j _ hj => h j hj, h2⟩
theorem getI_nat {α : Type} {xs : List α} {i : Nat} (h : i < xs.length) : getI xs (i : Int) = some xs[i] := getI_of h
theorem lt_len {i n : Nat} : decide ((i : Int) < (n : Int)) = decide (i < n) := by
  by_cases h : i < n
  · have : (i : Int) < n := by omega
    simp [h, this]
  · have : ¬ (i : Int) < n := by omega
    simp [h, this]
theorem F71_eq (f : Nat) (x a b : Int) : F71 f x a b = some (decide (a ≤ x ∧ x ≤ b)) := by
  unfold F71 F71_j1
  by_cases h1 : a ≤ x <;> by_cases h2 : x ≤ b <;> simp [h1, h2]
theorem F72_eq (f : Nat) (x a b : Int) : F72 f x a b = some (decide (a ≤ x ∧ x ≤ b)) := by
  unfold F72 F72_j1
  by_cases h1 : a ≤ x <;> by_cases h2 : x ≤ b <;> simp [h1, h2]
theorem pairs_of {α : Type} {r : α → α → Prop} (tr : ∀ a b c, r a b → r b c → r a c) : ∀ {l : List α}, (∀ j (h : j + 1 < l.length), r l[j] l[j + 1]) → l.Pairwise r
  | [], _ => List.Pairwise.nil
  | [_], _ => List.pairwise_singleton _ _
  | a :: b :: l, h => by
    have ih := pairs_of tr (l := b :: l) fun j hj => h (j + 1) (by simpa using hj)
    refine List.pairwise_cons.2 ⟨fun c hc => ?_, ih⟩
    have h0 : r a b := h 0 (by simp)
    rcases List.mem_cons.1 hc with rfl | hc
    · exact h0
    · exact tr _ _ _ h0 ((List.pairwise_cons.1 ih).1 c hc)
theorem pairs_at {α : Type} {r : α → α → Prop} : ∀ {l : List α}, l.Pairwise r → ∀ {i j : Nat} (hi : i < l.length) (hj : j < l.length), i < j → r l[i] l[j] := by
  intro l hl i j hi hj hij
  exact List.pairwise_iff_getElem.1 hl i j hi hj hij
def sumM (h : List Part) : Int := (h.map (·.mass)).sum
structure PartOk (p : Part) : Prop where
  l0 : 1 ≤ p.lot
  l1 : p.lot ≤ 9999
  m0 : 1 ≤ p.mass
  m1 : p.mass ≤ 100000000
def HeapOk (h : List Part) : Prop := h.length ≤ 40 ∧ (∀ p ∈ h, PartOk p) ∧ (h.Pairwise fun a b => a.lot < b.lot) ∧ sumM h ≤ 100000000
def adjP (l : List Part) (j : Nat) : Prop := ∀ h : j < l.length, PartOk l[j] ∧ (0 < j → l[j - 1].lot < l[j].lot)
theorem sum_app : ∀ (a b : List Int), (a ++ b).sum = a.sum + b.sum
  | [], b => by simp
  | x :: a, b => by simp only [List.cons_append, List.sum_cons, sum_app a b]; omega
theorem sumM_app (a b : List Part) : sumM (a ++ b) = sumM a + sumM b := by unfold sumM; rw [List.map_append, sum_app]
theorem sumM_take {l : List Part} {i : Nat} (hi : i < l.length) : sumM (l.take (i + 1)) = sumM (l.take i) + l[i].mass := by
  rw [List.take_succ_eq_append_getElem hi, sumM_app]
  simp [sumM]
theorem sumM_bound : ∀ {l : List Part}, (∀ p ∈ l, PartOk p) → 0 ≤ sumM l ∧ sumM l ≤ 100000000 * l.length
  | [], _ => by simp [sumM]
  | p :: l, h => by
    have ih := sumM_bound (l := l) fun q hq => h q (List.mem_cons_of_mem _ hq)
    have hp := h p (by simp)
    have := hp.m0; have := hp.m1
    simp only [sumM, List.map_cons, List.sum_cons, List.length_cons] at ih ⊢
    omega
theorem heapOk_iff {l : List Part} (h : l.length ≤ 40) : ((∀ j, j < l.length → adjP l j) ∧ sumM l ≤ 100000000) ↔ HeapOk l := by
  constructor
  · rintro ⟨k, hs⟩
    refine ⟨h, fun x hx => ?_, pairs_of (fun a b c h1 h2 => by omega) fun j hj => ?_, hs⟩
    · obtain ⟨j, hj, rfl⟩ := List.getElem_of_mem hx
      exact (k j hj hj).1
    · exact (k (j + 1) hj hj).2 (by omega)
  · rintro ⟨_, h1, h2, h3⟩
    exact ⟨fun j _ hj => ⟨h1 _ (List.getElem_mem _), fun h0 => pairs_at h2 (by omega) hj (by omega)⟩, h3⟩
theorem F73_loop {f : Nat} {l : List Part} (h40 : l.length ≤ 40) : ∀ n i, i ≤ l.length → l.length - i < n → (∀ j, j < i → adjP l j) →
    ((∀ j, j < l.length → adjP l j) ∧ F73_l1 f l n (sumM (l.take i)) (i : Int) = some (decide (sumM l ≤ 100000000))) ∨ ((¬ ∀ j, j < l.length → adjP l j) ∧ F73_l1 f l n (sumM (l.take i)) (i : Int) = some false)
  | 0, i, _, hn, _ => by omega
  | n + 1, i, hi, hn, hd => by
    rcases Nat.lt_or_ge i l.length with hlt | hge
    · have hb : 0 ≤ sumM (l.take i) ∧ sumM (l.take i) ≤ 100000000 * (l.take i).length := sumM_bound fun p hp => by
        obtain ⟨j, hj, rfl⟩ := List.getElem_of_mem hp
        simp only [List.length_take] at hj
        rw [List.getElem_take]
        exact (hd j (by omega) (by omega)).1
      have hb2 : (l.take i).length ≤ 40 := by rw [List.length_take]; omega
      have next : adjP l i → ((∀ j, j < l.length → adjP l j) ∧ F73_l1 f l n (w64 (sumM (l.take i) + l[i].mass)) (w64 ((i : Int) + 1)) = some (decide (sumM l ≤ 100000000))) ∨ ((¬ ∀ j, j < l.length → adjP l j) ∧ F73_l1 f l n (w64 (sumM (l.take i) + l[i].mass)) (w64 ((i : Int) + 1)) = some false) := fun g => by
        have gp := (g hlt).1
        have := gp.m0; have := gp.m1
        rw [succ_w (by omega), w64_id (by omega) (by omega), ← sumM_take hlt]
        exact F73_loop h40 n (i + 1) (by omega) (by omega) fun j hj => by
          rcases Nat.lt_or_ge j i with h | h
          · exact hd j h
          · have : j = i := by omega
            subst this; exact g
      simp only [F73_l1, lt_len, hlt, decide_true, cond_true, getI_nat hlt, Option.bind_some, F73_j1, F71_eq]
      by_cases h1 : 1 ≤ l[i].lot ∧ l[i].lot ≤ 9999
      · by_cases h2 : 1 ≤ l[i].mass ∧ l[i].mass ≤ 100000000
        · by_cases h0 : 0 < i
          · have h0' : (i : Int) > 0 := by omega
            simp only [h1, h2, h0', and_self, decide_true, Bool.not_true, cond_false, cond_true, pred_w (i := i) (by omega) h0, getI_nat (show i - 1 < l.length by omega), Option.bind_some]
            by_cases hg : l[i - 1].lot ≥ l[i].lot
            · exact .inr ⟨fun k => by have := (k i hlt hlt).2 h0; omega, by simp [hg]⟩
            · simp only [hg, decide_false, cond_false]
              exact next fun h => ⟨⟨h1.1, h1.2, h2.1, h2.2⟩, fun _ => by omega⟩
          · have h0' : ¬ (i : Int) > 0 := by omega
            simp only [h1, h2, h0', and_self, decide_true, decide_false, Bool.not_true, cond_false]
            exact next fun h => ⟨⟨h1.1, h1.2, h2.1, h2.2⟩, fun k => absurd k h0⟩
        · exact .inr ⟨fun k => h2 ⟨(k i hlt hlt).1.m0, (k i hlt hlt).1.m1⟩, by simp [h1, h2]⟩
      · exact .inr ⟨fun k => h1 ⟨(k i hlt hlt).1.l0, (k i hlt hlt).1.l1⟩, by simp [h1]⟩
    · have : i = l.length := by omega
      subst this
      refine .inl ⟨fun j hj => hd j hj, ?_⟩
      simp [F73_l1]
theorem F73_eq {f : Nat} {l : List Part} (hf : 40 < f) : (HeapOk l ∧ F73 f l = some true) ∨ (¬ HeapOk l ∧ F73 f l = some false) := by
  unfold F73
  by_cases h40 : (l.length : Int) > 40
  · exact .inr ⟨fun k => by have := k.1; omega, by simp [h40]⟩
  · have h41 : l.length ≤ 40 := by omega
    simp only [h40, decide_false, cond_false]
    rw [← heapOk_iff h41]
    have := F73_loop (f := f) h41 f 0 (by omega) (by omega) (fun j hj => by omega)
    simp only [List.take_zero] at this
    have e0 : sumM [] = 0 := rfl
    rw [e0] at this
    rcases this with ⟨h1, h2⟩ | ⟨h1, h2⟩
    · by_cases hs : sumM l ≤ 100000000
      · exact .inl ⟨⟨h1, hs⟩, by simpa [hs] using h2⟩
      · exact .inr ⟨fun k => hs k.2, by simpa [hs] using h2⟩
    · exact .inr ⟨fun k => h1 k.1, by simpa using h2⟩
theorem F76_73 (f : Nat) (l : List Part) : F76 f l = F73 f l := by
  unfold F76 F73
  have : ∀ n y z, F76_l1 f l n y z = F73_l1 f l n y z := by
    intro n
    induction n with
    | zero => intro y z; rfl
    | succ n ih =>
      intro y z
      have ih' : F76_l1 f l n = F73_l1 f l n := funext fun y => funext fun z => ih y z
      simp only [F76_l1, F73_l1, ih', F76_j1, F73_j1, F71_eq, F72_eq]
  rw [this]
theorem mass_le {l : List Part} (h : HeapOk l) : 0 ≤ sumM l ∧ sumM l ≤ 100000000 := ⟨(sumM_bound h.2.1).1, h.2.2.2⟩
theorem sumM_take_le {l : List Part} (h : ∀ p ∈ l, PartOk p) (i : Nat) : 0 ≤ sumM (l.take i) ∧ sumM (l.take i) ≤ sumM l := by
  have e : l = l.take i ++ l.drop i := (List.take_append_drop i l).symm
  have h1 := sumM_bound (l := l.take i) fun p hp => h p (List.mem_of_mem_take hp)
  have h2 := sumM_bound (l := l.drop i) fun p hp => h p (List.mem_of_mem_drop hp)
  have h3 : sumM l = sumM (l.take i) + sumM (l.drop i) := by rw [← sumM_app, List.take_append_drop]
  omega
theorem F90_loop {l : List Part} (h : HeapOk l) : ∀ n i, i ≤ l.length → l.length - i < n → F90_l1 l n (sumM (l.take i)) (i : Int) = some (sumM l)
  | 0, i, _, hn => by omega
  | n + 1, i, hi, hn => by
    have h40 := h.1
    rcases Nat.lt_or_ge i l.length with hlt | hge
    · have h1 := sumM_take_le h.2.1 (i + 1)
      have h2 := mass_le h
      rw [sumM_take hlt] at h1
      simp only [F90_l1, lt_len, hlt, decide_true, cond_true, getI_nat hlt, Option.bind_some]
      rw [succ_w (by omega), w64_id (by omega) (by omega), ← sumM_take hlt]
      exact F90_loop h n (i + 1) (by omega) (by omega)
    · have : i = l.length := by omega
      subst this
      simp [F90_l1]
theorem F90_eq {f : Nat} {l : List Part} (h : HeapOk l) (hf : 40 < f) : F90 f l = some (sumM l) := by
  have := F90_loop h f 0 (by omega) (by have := h.1; omega)
  simpa [F90, sumM] using this
theorem F92_90 (f : Nat) (l : List Part) : F92 f l = F90 f l := by
  unfold F92 F90
  have : ∀ n y z, F92_l1 l n y z = F90_l1 l n y z := by
    intro n
    induction n with
    | zero => intro y z; rfl
    | succ n ih =>
      intro y z
      have ih' : F92_l1 l n = F90_l1 l n := funext fun y => funext fun z => ih y z
      simp only [F92_l1, F90_l1, ih']
  rw [this]
end Go.Proofs.Ytlmgjjmighajdaa
set_option linter.unusedSimpArgs false
set_option linter.unusedVariables false
namespace Go.Proofs.Ytlmgjjmighajdaa
open Go.Sl Go.Sx
def Has (l : List Lot) (id : Int) : Prop := ∃ x ∈ l, x.id = id
instance (l : List Lot) (x : Int) : Decidable (Has l x) := inferInstanceAs (Decidable (∃ y ∈ l, y.id = x))
theorem half_w {a b : Nat} (h : a + b < 4000000000) : w64 (Int.fdiv (IntKind.wrap .u64 (w64 ((a : Int) + (b : Int)))) 2) = (((a + b) / 2 : Nat) : Int) := by
  rw [w64_id (n := (a : Int) + b) (by omega) (by omega)]
  have e1 : IntKind.wrap .u64 ((a : Int) + b) = (a : Int) + b := by
    unfold IntKind.wrap
    simp [IntKind.bits, IntKind.signed]
    omega
  rw [e1]
  have e2 : Int.fdiv ((a : Int) + b) 2 = (((a + b) / 2 : Nat) : Int) := by
    rw [Int.fdiv_eq_ediv_of_nonneg _ (by decide)]
    omega
  rw [e2, w64_id (by omega) (by omega)]
end Go.Proofs.Ytlmgjjmighajdaa
set_option linter.unusedSimpArgs false
set_option linter.unusedVariables false
namespace Go.Proofs.Ytlmgjjmighajdaa
open Go.Sl Go.Sx
def mergeP : List Part → List Part → List Part
  | [], b => b
  | p :: a, [] => p :: a
  | p :: a, q :: b => if p.lot < q.lot then p :: mergeP a (q :: b) else if q.lot < p.lot then q :: mergeP (p :: a) b else ⟨p.lot, p.mass + q.mass⟩ :: mergeP a b
termination_by a b => a.length + b.length
theorem merge_nil (a : List Part) : mergeP a [] = a := by cases a <;> simp [mergeP]
theorem nil_merge (a : List Part) : mergeP [] a = a := by simp [mergeP]
theorem merge_lt {p q : Part} {a b : List Part} (h : p.lot < q.lot) : mergeP (p :: a) (q :: b) = p :: mergeP a (q :: b) := by simp [mergeP, h]
theorem merge_gt {p q : Part} {a b : List Part} (h : q.lot < p.lot) : mergeP (p :: a) (q :: b) = q :: mergeP (p :: a) b := by
  have h1 : ¬ p.lot < q.lot := by omega
  simp [mergeP, h, h1]
theorem merge_eq {p q : Part} {a b : List Part} (h : p.lot = q.lot) : mergeP (p :: a) (q :: b) = ⟨p.lot, p.mass + q.mass⟩ :: mergeP a b := by
  have h1 : ¬ p.lot < q.lot := by omega
  have h2 : ¬ q.lot < p.lot := by omega
  simp [mergeP, h1, h2]
theorem drop_cons {α : Type} {l : List α} {i : Nat} (h : i < l.length) : l.drop i = l[i] :: l.drop (i + 1) := List.drop_eq_getElem_cons h
theorem F80_loop {a b : List Part} (ha : HeapOk a) (hb : HeapOk b) : ∀ n (out : List Part) i k, i ≤ a.length → k ≤ b.length → (a.length - i) + (b.length - k) < n → out.length + (a.length - i) + (b.length - k) ≤ 100 →
    F80_l1 a b n out (i : Int) (k : Int) = some (out ++ mergeP (a.drop i) (b.drop k))
  | 0, out, i, k, _, _, hn, _ => by omega
  | n + 1, out, i, k, hi, hk, hn, ho => by
    have la := ha.1
    have lb := hb.1
    have app : ∀ x : Part, appC out [x] = some (out ++ [x]) := fun x => by unfold appC; rw [if_pos (by simp only [List.length_cons, List.length_nil]; omega)]
    have eqk : ∀ {x y : Nat}, ((x : Int) == (y : Int)) = decide (x = y) := fun {x y} => by
      by_cases h : x = y
      · simp [h]
      · have : ¬ (x : Int) = y := by omega
        simp [h, this]
    simp only [F80_l1, F80_j1, F80_j2, F80_j3, lt_len, eqk]
    rcases Nat.lt_or_ge i a.length with hia | hia
    · have h1 : a.drop i = a[i] :: a.drop (i + 1) := drop_cons hia
      have pa := ha.2.1 _ (List.getElem_mem hia)
      rcases Nat.lt_or_ge k b.length with hkb | hkb
      · have h2 : b.drop k = b[k] :: b.drop (k + 1) := drop_cons hkb
        have pb := hb.2.1 _ (List.getElem_mem hkb)
        have n1 : ¬ k = b.length := by omega
        have n2 : ¬ i = a.length := by omega
        simp only [hia, hkb, n1, n2, decide_true, decide_false, cond_true, cond_false, getI_nat hia, getI_nat hkb, Option.bind_some, app, succ_w (i := i) (by omega), succ_w (i := k) (by omega)]
        rcases Int.lt_trichotomy a[i].lot b[k].lot with e | e | e
        · have e' : ¬ b[k].lot < a[i].lot := by omega
          simp only [e, e', decide_true, decide_false, cond_true, cond_false]
          rw [F80_loop ha hb n (out ++ [a[i]]) (i + 1) k (by omega) hk (by omega) (by simp only [List.length_append, List.length_cons, List.length_nil]; omega), h1, h2, merge_lt e, ← h2, List.append_assoc]
          rfl
        · have e1 : ¬ a[i].lot < b[k].lot := by omega
          have e2 : ¬ b[k].lot < a[i].lot := by omega
          have := pa.m0; have := pa.m1; have := pb.m0; have := pb.m1
          simp only [e1, e2, decide_true, decide_false, cond_true, cond_false, w64_id (n := a[i].mass + b[k].mass) (by omega) (by omega)]
          rw [F80_loop ha hb n (out ++ [(⟨a[i].lot, a[i].mass + b[k].mass⟩ : Part)]) (i + 1) (k + 1) (by omega) (by omega) (by omega) (by simp only [List.length_append, List.length_cons, List.length_nil]; omega), h1, h2, merge_eq e, List.append_assoc]
          rfl
        · have e1 : ¬ a[i].lot < b[k].lot := by omega
          simp only [e, e1, decide_true, decide_false, cond_true, cond_false]
          rw [F80_loop ha hb n (out ++ [b[k]]) i (k + 1) hi (by omega) (by omega) (by simp only [List.length_append, List.length_cons, List.length_nil]; omega), h1, h2, merge_gt e, ← h1, List.append_assoc]
          rfl
      · have n1 : k = b.length := by omega
        simp only [hia, n1, decide_true, cond_true, getI_nat hia, Option.bind_some, app, succ_w (i := i) (by omega)]
        have := F80_loop ha hb n (out ++ [a[i]]) (i + 1) k (by omega) hk (by omega) (by simp only [List.length_append, List.length_cons, List.length_nil]; omega)
        rw [n1] at this
        rw [this, h1, List.drop_length, merge_nil, merge_nil, List.append_assoc]
        rfl
    · have n2 : i = a.length := by omega
      have n2' : ¬ i < a.length := by omega
      rcases Nat.lt_or_ge k b.length with hkb | hkb
      · have h2 : b.drop k = b[k] :: b.drop (k + 1) := drop_cons hkb
        have n1 : ¬ k = b.length := by omega
        simp only [n2', hkb, n1, decide_true, decide_false, cond_true, cond_false, n2, getI_nat hkb, Option.bind_some, app, succ_w (i := k) (by omega), Nat.lt_irrefl]
        have := F80_loop ha hb n (out ++ [b[k]]) i (k + 1) hi (by omega) (by omega) (by simp only [List.length_append, List.length_cons, List.length_nil]; omega)
        rw [n2] at this
        rw [this, h2, List.drop_length, nil_merge, nil_merge, List.append_assoc]
        rfl
      · have n1 : k = b.length := by omega
        simp [n1, n2, nil_merge]
theorem F80_eq {f : Nat} {a b : List Part} (ha : HeapOk a) (hb : HeapOk b) (hf : 90 < f) : F80 f a b = some (mergeP a b) := by
  have := F80_loop ha hb f [] 0 0 (by omega) (by omega) (by have := ha.1; have := hb.1; omega) (by have := ha.1; have := hb.1; simp; omega)
  simpa [F80] using this
end Go.Proofs.Ytlmgjjmighajdaa
set_option linter.unusedSimpArgs false
set_option linter.unusedVariables false
namespace Go.Proofs.Ytlmgjjmighajdaa
open Go.Sl Go.Sx
theorem part_beq (p q : Part) : ((p.lot == q.lot) && ((p.mass == q.mass) && true)) = decide (p = q) := by
  obtain ⟨a, b⟩ := p
  obtain ⟨c, d⟩ := q
  by_cases h1 : a = c <;> by_cases h2 : b = d <;> simp [h1, h2]
theorem F26_eq {f : Nat} {a b : List Part} (h : a.length < f) (h2 : a.length ≤ 100000) : F26 f a b = some (decide (a = b)) := by
  unfold F26
  by_cases hl : a.length = b.length
  · have e : ((a.length : Int) != (b.length : Int)) = false := by simp [hl]
    rw [e, cond_false]
    have key := loop_all0 (L := F26_l1 a b) (len := a.length) (good := fun j => ∀ h : j < a.length, a[j] = b[j]'(by omega)) (no := some false) (yes := some true) (fun n i hi => by
      have hib : i < b.length := by omega
      simp only [F26_l1, lt_len, hi, decide_true, cond_true, getI_nat hi, getI_nat hib, Option.bind_some, part_beq]
      by_cases hh : a[i] = b[i]
      · exact .inl ⟨fun _ => hh, by simp only [hh, decide_true, Bool.not_true, cond_false]; rw [succ_w (by omega)]⟩
      · exact .inr ⟨fun k => hh (k trivial), by simp [hh]⟩) (fun n => by simp [F26_l1]) h
    rcases key with ⟨hg, e⟩ | ⟨hg, e⟩
    · have : a = b := List.ext_getElem hl fun i h1 h2 => hg i h1 h1
      rw [e]; simp [this]
    · have : ¬ a = b := fun e => hg fun j hj _ => by subst e; rfl
      rw [e]; simp [this]
  · have e : ((a.length : Int) != (b.length : Int)) = true := by simpa using (show ¬ (a.length : Int) = b.length by omega)
    rw [e, cond_true]
    have : ¬ a = b := fun e => hl (by rw [e])
    simp [this]
theorem F25_eq {f : Nat} (a b : List Part) (hf : 90 < f) :
    ((HeapOk a ∧ HeapOk b ∧ HeapOk (mergeP a b)) ∧ F25 f a b = some (mergeP a b, 0)) ∨ ((HeapOk a ∧ HeapOk b ∧ ¬ HeapOk (mergeP a b)) ∧ F25 f a b = some ([], 2)) ∨ (¬ (HeapOk a ∧ HeapOk b) ∧ F25 f a b = some ([], 62)) := by
  unfold F25 F25_j1
  rcases F73_eq (f := f) (l := a) (by omega) with ⟨ha, e1⟩ | ⟨ha, e1⟩
  · rcases F73_eq (f := f) (l := b) (by omega) with ⟨hb, e2⟩ | ⟨hb, e2⟩
    · rw [e1, e2]
      simp only [Option.bind_some, Bool.not_true, cond_false, F80_eq ha hb hf]
      rcases F73_eq (f := f) (l := mergeP a b) (by omega) with ⟨hm, e3⟩ | ⟨hm, e3⟩
      · exact .inl ⟨⟨ha, hb, hm⟩, by rw [e3]; simp⟩
      · exact .inr (.inl ⟨⟨ha, hb, hm⟩, by rw [e3]; simp⟩)
    · exact .inr (.inr ⟨fun k => hb k.2, by rw [e1, e2]; simp⟩)
  · exact .inr (.inr ⟨fun k => ha k.1, by rw [e1]; simp⟩)
end Go.Proofs.Ytlmgjjmighajdaa
set_option linter.unusedSimpArgs false
set_option linter.unusedVariables false
namespace Go.Proofs.Ytlmgjjmighajdaa
open Go.Sl Go.Sx
section
variable {α : Type} (lt : α → α → Bool)
def insRev (x : α) : List α → List α
  | [] => [x]
  | y :: r => bif lt x y then y :: insRev x r else x :: y :: r
def sortRev (l : List α) : List α := l.foldl (fun r x => insRev lt x r) []
theorem insRev_perm (x : α) : ∀ r : List α, (insRev lt x r).Perm (x :: r)
  | [] => List.Perm.refl _
  | y :: r => by
    unfold insRev
    cases lt x y with
    | true => exact ((insRev_perm x r).cons y).trans (List.Perm.swap x y r)
    | false => exact List.Perm.refl _
theorem sortRev_perm_aux : ∀ (l r : List α), (l.foldl (fun r x => insRev lt x r) r).Perm (l ++ r)
  | [], r => List.Perm.refl _
  | x :: l, r => by
    refine (sortRev_perm_aux l (insRev lt x r)).trans ?_
    refine ((insRev_perm lt x r).append_left l).trans ?_
    exact List.perm_middle
theorem sortRev_perm (l : List α) : (sortRev lt l).Perm l := by
  have := sortRev_perm_aux lt l []
  rwa [List.append_nil] at this
end
theorem insRev_sorted {α : Type} {lt : α → α → Bool} {bf : α → α → Prop} (tr : ∀ a b c, bf a b → bf b c → bf a c) {x : α} : ∀ {r : List α}, r.Pairwise (fun a b => bf b a) → (∀ y ∈ r, lt x y = true → bf x y) → (∀ y ∈ r, lt x y = false → bf y x) →
    (insRev lt x r).Pairwise (fun a b => bf b a)
  | [], _, _, _ => List.pairwise_singleton _ _
  | y :: r, hp, h1, h2 => by
    have hp' := List.pairwise_cons.1 hp
    unfold insRev
    cases e : lt x y with
    | true =>
      simp only [cond_true]
      refine List.pairwise_cons.2 ⟨fun z hz => ?_, insRev_sorted tr hp'.2 (fun z hz => h1 z (List.mem_cons_of_mem _ hz)) (fun z hz => h2 z (List.mem_cons_of_mem _ hz))⟩
      rcases List.mem_cons.1 ((insRev_perm lt x r).mem_iff.1 hz) with rfl | hz
      · exact h1 y (by simp) e
      · exact hp'.1 z hz
    | false =>
      simp only [cond_false]
      refine List.pairwise_cons.2 ⟨fun z hz => ?_, hp⟩
      have hy := h2 y (by simp) e
      rcases List.mem_cons.1 hz with rfl | hz
      · exact hy
      · exact tr _ _ _ (hp'.1 z hz) hy
theorem take_iff {α : Type} [DecidableEq α] {bf : α → α → Prop} [DecidableRel bf] (irr : ∀ a, ¬ bf a a) (asy : ∀ a b, bf a b → ¬ bf b a) : ∀ {l : List α} {k : Nat} {x : α}, l.Pairwise bf → x ∈ l → (x ∈ l.take k ↔ l.countP (fun y => decide (bf y x)) < k)
  | [], k, x, _, hx => by cases hx
  | y :: l, 0, x, _, _ => by simp
  | y :: l, k + 1, x, hp, hx => by
    have hp' := List.pairwise_cons.1 hp
    by_cases e : x = y
    · subst e
      have hz : (x :: l).countP (fun z => decide (bf z x)) = 0 := by
        rw [List.countP_eq_zero]
        intro z hz
        simp only [decide_eq_true_eq]
        rcases List.mem_cons.1 hz with rfl | hz
        · exact irr _
        · exact asy _ _ (hp'.1 z hz)
      rw [hz]
      simp
    · have hxl : x ∈ l := by rcases List.mem_cons.1 hx with h | h; exact absurd h e; exact h
      have hb : bf y x := hp'.1 x hxl
      have ih := take_iff irr asy (k := k) hp'.2 hxl
      rw [List.take_succ_cons, List.mem_cons, List.countP_cons_of_pos (by simpa using hb)]
      constructor
      · rintro (h | h)
        · exact absurd h e
        · have := ih.1 h; omega
      · intro h
        exact .inr (ih.2 (by omega))
def rem_ (m s : Int) (a : List Int) (i : Int) : Int := (m * a.getD i.toNat 0) % s
def ahead (m s : Int) (a : List Int) (i j : Int) : Prop := rem_ m s a i > rem_ m s a j ∨ (rem_ m s a i = rem_ m s a j ∧ i < j)
instance (m s : Int) (a : List Int) : DecidableRel (ahead m s a) := fun i j => inferInstanceAs (Decidable (_ ∨ _))
theorem ahead_irr (m s : Int) (a : List Int) (i : Int) : ¬ ahead m s a i i := by unfold ahead; omega
theorem ahead_asy (m s : Int) (a : List Int) (i j : Int) (h : ahead m s a i j) : ¬ ahead m s a j i := by unfold ahead at *; omega
theorem ahead_tr (m s : Int) (a : List Int) (i j k : Int) (h : ahead m s a i j) (h' : ahead m s a j k) : ahead m s a i k := by unfold ahead at *; omega
def less (m s : Int) (a : List Int) (i j : Int) : Bool := decide (rem_ m s a i > rem_ m s a j)
def places (n : Nat) : List Int := (List.range n).map fun i : Nat => (i : Int)
def orderS (m s : Int) (a : List Int) : List Int := (sortRev (less m s a) (places a.length)).reverse
theorem sortRev_aux (m s : Int) (a : List Int) : ∀ (l r : List Int), (∀ y ∈ r, ∀ x ∈ l, y < x) → l.Pairwise (· < ·) → r.Pairwise (fun x y => ahead m s a y x) →
    (l.foldl (fun r x => insRev (less m s a) x r) r).Pairwise (fun x y => ahead m s a y x)
  | [], r, _, _, h => h
  | x :: l, r, h1, h2, h3 => by
    have h2' := List.pairwise_cons.1 h2
    refine sortRev_aux m s a l _ (fun y hy z hz => ?_) h2'.2 (insRev_sorted (ahead_tr m s a) h3 (fun y hy e => ?_) (fun y hy e => ?_))
    · rcases List.mem_cons.1 ((insRev_perm _ x r).mem_iff.1 hy) with rfl | hy
      · exact h2'.1 z hz
      · exact h1 y hy z (List.mem_cons_of_mem _ hz)
    · have := of_decide_eq_true e
      exact .inl this
    · have e' := of_decide_eq_false e
      have := h1 y hy x (by simp)
      unfold ahead
      omega
theorem places_rising (n : Nat) : (places n).Pairwise (· < ·) := by
  unfold places
  rw [List.pairwise_map]
  exact List.pairwise_lt_range.imp fun h => by omega
theorem mem_places {n : Nat} {x : Int} : x ∈ places n ↔ 0 ≤ x ∧ x < n := by
  unfold places
  simp only [List.mem_map, List.mem_range]
  constructor
  · rintro ⟨i, hi, rfl⟩; omega
  · rintro ⟨h1, h2⟩; exact ⟨x.toNat, by omega, by omega⟩
theorem orderS_sorted (m s : Int) (a : List Int) : (orderS m s a).Pairwise (ahead m s a) := by
  unfold orderS
  rw [List.pairwise_reverse]
  exact sortRev_aux m s a _ [] (fun y hy => by cases hy) (places_rising _) List.Pairwise.nil
theorem orderS_perm (m s : Int) (a : List Int) : (orderS m s a).Perm (places a.length) := (List.reverse_perm _).trans (sortRev_perm _ _)
def rank (m s : Int) (a : List Int) (i : Int) : Nat := (places a.length).countP fun j => decide (ahead m s a j i)
theorem first_iff (m s : Int) (a : List Int) {i : Int} (hi : i ∈ places a.length) (k : Nat) : i ∈ (orderS m s a).take k ↔ rank m s a i < k := by
  have hp := orderS_perm m s a
  rw [take_iff (ahead_irr m s a) (ahead_asy m s a) (orderS_sorted m s a) (hp.mem_iff.2 hi), hp.countP_eq]
  rfl
end Go.Proofs.Ytlmgjjmighajdaa
set_option linter.unusedSimpArgs false
set_option linter.unusedVariables false
namespace Go.Proofs.Ytlmgjjmighajdaa
open Go.Sl Go.Sx
theorem sum_nonneg : ∀ {a : List Int}, (∀ x ∈ a, 0 ≤ x) → 0 ≤ a.sum
  | [], _ => by simp
  | x :: a, h => by have := sum_nonneg (a := a) fun y hy => h y (List.mem_cons_of_mem _ hy); have := h x (by simp); simp only [List.sum_cons]; omega
theorem le_sum : ∀ {a : List Int}, (∀ x ∈ a, 0 ≤ x) → ∀ x ∈ a, x ≤ a.sum
  | [], _, x, hx => by cases hx
  | y :: a, h, x, hx => by
    have h0 := h y (by simp)
    have h1 := sum_nonneg (a := a) fun z hz => h z (List.mem_cons_of_mem _ hz)
    simp only [List.sum_cons]
    rcases List.mem_cons.1 hx with rfl | hx
    · omega
    · have := le_sum (a := a) (fun z hz => h z (List.mem_cons_of_mem _ hz)) x hx; omega
structure DealOk (m : Int) (a : List Int) : Prop where
  nn : ∀ x ∈ a, 0 ≤ x
  s0 : 0 < a.sum
  s1 : a.sum ≤ 100000000
  m0 : 0 ≤ m
  m1 : m ≤ 100000000
  len : a.length ≤ 40
def baseS (m : Int) (a : List Int) (i : Nat) : Int := m * a.getD i 0 / a.sum
def baseL (m : Int) (a : List Int) : List Int := a.map fun x => m * x / a.sum
def leftS (m : Int) (a : List Int) : Int := m - (baseL m a).sum
def dealS (m : Int) (a : List Int) : List Int := (List.range a.length).map fun i => baseS m a i + (if rank m a.sum a (i : Int) < (leftS m a).toNat then 1 else 0)
theorem div_sum (m s : Int) (hs : s ≠ 0) : ∀ b : List Int, s * (b.map fun x => m * x / s).sum + (b.map fun x => m * x % s).sum = m * b.sum
  | [] => by simp
  | x :: b => by
    have ih := div_sum m s hs b
    have e := Int.mul_ediv_add_emod (m * x) s
    simp only [List.map_cons, List.sum_cons]
    grind
theorem rem_sum {m s : Int} (hs : 0 < s) : ∀ b : List Int, 0 ≤ (b.map fun x => m * x % s).sum ∧ (b.map fun x => m * x % s).sum ≤ (s - 1) * b.length
  | [] => by simp
  | x :: b => by
    have ih := rem_sum (m := m) hs b
    have h1 := Int.emod_nonneg (m * x) (show s ≠ 0 by omega)
    have h2 := Int.emod_lt_of_pos (m * x) hs
    simp only [List.map_cons, List.sum_cons, List.length_cons]
    have e : (s - 1) * ((b.length + 1 : Nat) : Int) = (s - 1) * b.length + (s - 1) := by push_cast; grind
    omega
theorem left_bounds {m : Int} {a : List Int} (h : DealOk m a) : 0 ≤ leftS m a ∧ leftS m a ≤ a.length ∧ a.sum * leftS m a = (a.map fun x => m * x % a.sum).sum := by
  have h1 := div_sum m a.sum (by have := h.s0; omega) a
  have h2 := rem_sum (m := m) h.s0 a
  have e : a.sum * leftS m a = (a.map fun x => m * x % a.sum).sum := by unfold leftS baseL; grind
  have hs := h.s0
  refine ⟨?_, ?_, e⟩
  · rcases Int.lt_or_le (leftS m a) 0 with hl | hl
    · have : a.sum * leftS m a < 0 := Int.mul_neg_of_pos_of_neg hs hl
      omega
    · exact hl
  · rcases Int.lt_or_le (a.length : Int) (leftS m a) with hl | hl
    · have h3 : a.sum * a.length < a.sum * leftS m a := Int.mul_lt_mul_of_pos_left hl hs
      have h4 : (a.sum - 1) * a.length ≤ a.sum * a.length := Int.mul_le_mul_of_nonneg_right (by omega) (by omega)
      omega
    · exact hl
theorem getD_mem {a : List Int} {i : Nat} (h : i < a.length) : a.getD i 0 = a[i] := by simp [h]
theorem base_bounds {m : Int} {a : List Int} (h : DealOk m a) {i : Nat} (hi : i < a.length) : 0 ≤ baseS m a i ∧ baseS m a i ≤ m := by
  have h0 := h.nn _ (List.getElem_mem hi)
  have h1 := le_sum h.nn _ (List.getElem_mem hi)
  unfold baseS
  rw [getD_mem hi]
  have hm := h.m0
  have hs := h.s0
  refine ⟨Int.ediv_nonneg (Int.mul_nonneg hm h0) (by omega), ?_⟩
  refine Int.ediv_le_of_le_mul hs ?_
  exact Int.mul_le_mul_of_nonneg_left h1 hm
theorem prod_bounds {m : Int} {a : List Int} (h : DealOk m a) {i : Nat} (hi : i < a.length) : 0 ≤ m * a[i] ∧ m * a[i] ≤ 10000000000000000 := by
  have h0 := h.nn _ (List.getElem_mem hi)
  have h1 := le_sum h.nn _ (List.getElem_mem hi)
  have := h.s1; have := h.m0; have := h.m1
  refine ⟨Int.mul_nonneg h.m0 h0, ?_⟩
  have : m * a[i] ≤ 100000000 * 100000000 := Int.mul_le_mul (by omega) (by omega) h0 (by omega)
  omega
theorem F123_eq (f : Nat) (x y : Int) : F123 f x y = some (if x < y then -1 else if x > y then 1 else 0) := by
  unfold F123 F137
  by_cases h1 : x < y <;> by_cases h2 : x > y <;> simp [h1, h2]
theorem nzS {n : Int} (h : n ≠ 0) : nz n = some () := by unfold nz; rw [if_pos h]
theorem tmod_eq {m : Int} {a : List Int} (h : DealOk m a) {i : Nat} (hi : i < a.length) : Int.tmod (w64 (m * a[i])) a.sum = rem_ m a.sum a (i : Int) := by
  have hp := prod_bounds h hi
  rw [w64_id (by omega) (by omega), Int.tmod_eq_emod_of_nonneg hp.1]
  unfold rem_
  have e : ((i : Int)).toNat = i := by omega
  rw [e, getD_mem hi]
theorem setI_mid {pre post : List Int} {x y : Int} {j : Int} (hj : j = pre.length) : setI (pre ++ x :: post) j y = some (pre ++ y :: post) := by
  subst hj
  unfold setI
  have h1 : (0 : Int) ≤ pre.length ∧ (pre.length : Int) < (pre ++ x :: post).length := by simp; omega
  rw [if_pos h1]
  simp
theorem getI_mid {pre post : List Int} {x : Int} {j : Int} (hj : j = pre.length) : getI (pre ++ x :: post) j = some x := by
  subst hj
  unfold getI
  rw [if_pos (by omega)]
  simp
end Go.Proofs.Ytlmgjjmighajdaa
set_option linter.unusedSimpArgs false
set_option linter.unusedVariables false
namespace Go.Proofs.Ytlmgjjmighajdaa
open Go.Sl Go.Sx
theorem wid {n : Int} (h1 : -9223372036854775808 ≤ n) (h2 : n ≤ 9223372036854775807) : w64 n = n := by
  unfold w64 IntKind.wrap
  simp [IntKind.bits, IntKind.signed]
  omega
def mk (L : Nat) (g : Nat → Int) : List Int := (List.range L).map g
theorem mk_len (L : Nat) (g : Nat → Int) : (mk L g).length = L := by simp [mk]
theorem mk_get {L : Nat} {g : Nat → Int} {i : Nat} (h : i < L) {n : Int} (e : n = (i : Int)) : getI (mk L g) n = some (g i) := by
  subst e
  unfold getI mk
  simp [h]
def upd (g : Nat → Int) (i : Nat) (v : Int) : Nat → Int := fun k => if k = i then v else g k
theorem mk_congr {L : Nat} {g g' : Nat → Int} (h : ∀ k, k < L → g k = g' k) : mk L g = mk L g' := by
  unfold mk
  exact List.map_congr_left fun k hk => h k (List.mem_range.1 hk)
theorem mk_set {L : Nat} {g : Nat → Int} {i : Nat} (h : i < L) (v : Int) {n : Int} (e : n = (i : Int)) : setI (mk L g) n v = some (mk L (upd g i v)) := by
  subst e
  unfold setI
  have hl := mk_len L g
  rw [if_pos (by rw [hl]; omega)]
  congr 1
  refine List.ext_getElem (by simp [mk]) fun k h1 h2 => ?_
  simp only [mk, upd, List.getElem_map, List.getElem_range, Int.toNat_natCast]
  by_cases e : i = k
  · subst e; simp
  · have e' : ¬ k = i := fun x => e x.symm
    rw [List.getElem_set_ne e]
    simp [e']
def swp (g : Nat → Int) (p q t : Nat) : Nat → Int := fun k => if p ≤ k ∧ k < p + t then g (q + (k - p)) else if q ≤ k ∧ k < q + t then g (p + (k - q)) else g k
theorem swp_step {g : Nat → Int} {p q t : Nat} (h : p + t < q) (k : Nat) : upd (upd (swp g p q t) (p + t) (swp g p q t (q + t))) (q + t) (swp g p q t (p + t)) k = swp g p q (t + 1) k := by
  have e1 : swp g p q t (q + t) = g (q + t) := by unfold swp; rw [if_neg (by omega), if_neg (by omega)]
  have e2 : swp g p q t (p + t) = g (p + t) := by unfold swp; rw [if_neg (by omega), if_neg (by omega)]
  rw [e1, e2]
  unfold upd swp
  by_cases a : k = q + t
  · subst a
    rw [if_pos rfl, if_neg (by omega), if_pos (by omega)]
    congr 1; omega
  · rw [if_neg a]
    by_cases b : k = p + t
    · subst b
      rw [if_pos rfl, if_pos (by omega)]
      congr 1; omega
    · rw [if_neg b]
      by_cases c : p ≤ k ∧ k < p + t
      · rw [if_pos c, if_pos (by omega)]
      · rw [if_neg c]
        by_cases d : q ≤ k ∧ k < q + t
        · rw [if_pos d, if_neg (by omega), if_pos (by omega)]
        · rw [if_neg d, if_neg (by omega), if_neg (by omega)]
theorem swp_zero (g : Nat → Int) (p q : Nat) : swp g p q 0 = g := by
  funext k
  unfold swp
  rw [if_neg (by omega), if_neg (by omega)]
section
variable {L : Nat} (hL : L ≤ 1000)
theorem F156_l7_eq (hL : L ≤ 1000) (k5 : List Int → Int → Int → Option (List Int)) {mm i j : Nat} (hi : i ≤ mm) (hj : mm + j ≤ L) (hji : j ≤ i) (g : Nat → Int) : ∀ n t, t ≤ j → j - t < n →
    F156_l7 k5 (mm : Int) (i : Int) (j : Int) n (mk L (swp g (mm - i) mm t)) (t : Int) = k5 (mk L (swp g (mm - i) mm j)) ((i - j : Nat) : Int) (j : Int)
  | 0, t, ht, hn => by omega
  | n + 1, t, ht, hn => by
    rcases Nat.lt_or_ge t j with hlt | hge
    · have w1 : w64 ((mm : Int) + (t : Int)) = ((mm + t : Nat) : Int) := by rw [wid (by omega) (by omega)]; omega
      have w2 : w64 (w64 ((mm : Int) - (i : Int)) + (t : Int)) = ((mm - i + t : Nat) : Int) := by rw [wid (n := (mm : Int) - i) (by omega) (by omega), wid (by omega) (by omega)]; omega
      have w3 : w64 ((t : Int) + 1) = ((t + 1 : Nat) : Int) := by rw [wid (by omega) (by omega)]; omega
      simp only [F156_l7, decide_eq_true (show (t : Int) < (j : Int) by omega), cond_true, w1, w2, w3]
      rw [mk_get (show mm + t < L by omega) rfl]
      simp only [Option.bind_some]
      rw [mk_get (show mm - i + t < L by omega) rfl]
      simp only [Option.bind_some]
      rw [mk_set (show mm - i + t < L by omega) _ rfl]
      simp only [Option.bind_some]
      rw [mk_get (show mm + t < L by omega) rfl]
      simp only [Option.bind_some]
      rw [mk_set (show mm + t < L by omega) _ rfl]
      simp only [Option.bind_some]
      rw [mk_congr fun k _ => swp_step (g := g) (p := mm - i) (q := mm) (t := t) (by omega) k]
      exact F156_l7_eq hL k5 hi hj hji g n (t + 1) hlt (by omega)
    · have : t = j := by omega
      subst this
      have w : w64 ((i : Int) - (t : Int)) = ((i - t : Nat) : Int) := by rw [wid (by omega) (by omega)]; omega
      simp only [F156_l7, decide_eq_false (show ¬ (t : Int) < (t : Int) by omega), cond_false, w]
theorem F156_l8_eq (hL : L ≤ 1000) (k5 : List Int → Int → Int → Option (List Int)) {mm i j : Nat} (hi : i ≤ mm) (hj : mm + j ≤ L) (hji : i ≤ j) (g : Nat → Int) : ∀ n t, t ≤ i → i - t < n →
    F156_l8 k5 (mm : Int) (i : Int) (j : Int) n (mk L (swp g (mm - i) (mm + j - i) t)) (t : Int) = k5 (mk L (swp g (mm - i) (mm + j - i) i)) (i : Int) ((j - i : Nat) : Int)
  | 0, t, ht, hn => by omega
  | n + 1, t, ht, hn => by
    rcases Nat.lt_or_ge t i with hlt | hge
    · have w0 : w64 ((mm : Int) + (j : Int)) = (mm : Int) + (j : Int) := wid (by omega) (by omega)
      have w1 : w64 (w64 (w64 ((mm : Int) + (j : Int)) - (i : Int)) + (t : Int)) = ((mm + j - i + t : Nat) : Int) := by rw [w0, wid (n := (mm : Int) + j - i) (by omega) (by omega), wid (by omega) (by omega)]; omega
      have w2 : w64 (w64 ((mm : Int) - (i : Int)) + (t : Int)) = ((mm - i + t : Nat) : Int) := by rw [wid (n := (mm : Int) - i) (by omega) (by omega), wid (by omega) (by omega)]; omega
      have w3 : w64 ((t : Int) + 1) = ((t + 1 : Nat) : Int) := by rw [wid (by omega) (by omega)]; omega
      simp only [F156_l8, decide_eq_true (show (t : Int) < (i : Int) by omega), cond_true, w1, w2, w3]
      rw [mk_get (show mm + j - i + t < L by omega) rfl]
      simp only [Option.bind_some]
      rw [mk_get (show mm - i + t < L by omega) rfl]
      simp only [Option.bind_some]
      rw [mk_set (show mm - i + t < L by omega) _ rfl]
      simp only [Option.bind_some]
      rw [mk_get (show mm + j - i + t < L by omega) rfl]
      simp only [Option.bind_some]
      rw [mk_set (show mm + j - i + t < L by omega) _ rfl]
      simp only [Option.bind_some]
      rw [mk_congr fun k _ => swp_step (g := g) (p := mm - i) (q := mm + j - i) (t := t) (by omega) k]
      exact F156_l8_eq hL k5 hi hj hji g n (t + 1) hlt (by omega)
    · have : t = i := by omega
      subst this
      have w : w64 ((j : Int) - (t : Int)) = ((j - t : Nat) : Int) := by rw [wid (by omega) (by omega)]; omega
      simp only [F156_l8, decide_eq_false (show ¬ (t : Int) < (t : Int) by omega), cond_false, w]
theorem F156_l9_eq (hL : L ≤ 1000) (rec : List Int → Int → Int → Int → Option (List Int)) (x1 x3 y9 : Int) {mm i : Nat} (hi : i ≤ mm) (hj : mm + i ≤ L) (g : Nat → Int) : ∀ n t, t ≤ i → i - t < n →
    F156_l9 rec x1 (mm : Int) x3 y9 (i : Int) n (mk L (swp g (mm - i) mm t)) (t : Int) = F156_j2 rec x1 (mm : Int) x3 y9 (mk L (swp g (mm - i) mm i))
  | 0, t, ht, hn => by omega
  | n + 1, t, ht, hn => by
    rcases Nat.lt_or_ge t i with hlt | hge
    · have w1 : w64 ((mm : Int) + (t : Int)) = ((mm + t : Nat) : Int) := by rw [wid (by omega) (by omega)]; omega
      have w2 : w64 (w64 ((mm : Int) - (i : Int)) + (t : Int)) = ((mm - i + t : Nat) : Int) := by rw [wid (n := (mm : Int) - i) (by omega) (by omega), wid (by omega) (by omega)]; omega
      have w3 : w64 ((t : Int) + 1) = ((t + 1 : Nat) : Int) := by rw [wid (by omega) (by omega)]; omega
      simp only [F156_l9, decide_eq_true (show (t : Int) < (i : Int) by omega), cond_true, w1, w2, w3]
      rw [mk_get (show mm + t < L by omega) rfl]
      simp only [Option.bind_some]
      rw [mk_get (show mm - i + t < L by omega) rfl]
      simp only [Option.bind_some]
      rw [mk_set (show mm - i + t < L by omega) _ rfl]
      simp only [Option.bind_some]
      rw [mk_get (show mm + t < L by omega) rfl]
      simp only [Option.bind_some]
      rw [mk_set (show mm + t < L by omega) _ rfl]
      simp only [Option.bind_some]
      rw [mk_congr fun k _ => swp_step (g := g) (p := mm - i) (q := mm) (t := t) (by omega) k]
      exact F156_l9_eq hL rec x1 x3 y9 hi hj g n (t + 1) hlt (by omega)
    · have : t = i := by omega
      subst this
      simp only [F156_l9, decide_eq_false (show ¬ (t : Int) < (t : Int) by omega), cond_false]
end
def rot (g : Nat → Int) (lo i j : Nat) : Nat → Int := fun k => if lo ≤ k ∧ k < lo + j then g (k + i) else if lo + j ≤ k ∧ k < lo + j + i then g (k - j) else g k
theorem F156_l6_eq {f L : Nat} (hL : L ≤ 1000) (hf : 1000 < f) (rec : List Int → Int → Int → Int → Option (List Int)) (x1 x3 y9 : Int) {mm : Nat} : ∀ (n i j : Nat) (g : Nat → Int), 0 < i → 0 < j → i ≤ mm → mm + j ≤ L → i + j ≤ n →
    F156_l6 f rec x1 (mm : Int) x3 y9 n (mk L g) (i : Int) (j : Int) = F156_j2 rec x1 (mm : Int) x3 y9 (mk L (rot g (mm - i) i j))
  | 0, i, j, g, hi0, hj0, hi, hj, hn => by omega
  | n + 1, i, j, g, hi0, hj0, hi, hj, hn => by
    by_cases e : i = j
    · subst e
      simp only [F156_l6, bne_self_eq_false, cond_false]
      have := F156_l9_eq hL rec x1 x3 y9 hi hj g f 0 (by omega) (by omega)
      rw [swp_zero] at this
      refine this.trans ?_
      congr 1
      refine mk_congr fun k _ => ?_
      unfold swp rot
      by_cases a : mm - i ≤ k ∧ k < mm - i + i
      · rw [if_pos a, if_pos a]; congr 1; omega
      · rw [if_neg a, if_neg a]
        by_cases b : mm ≤ k ∧ k < mm + i
        · rw [if_pos b, if_pos (by omega)]; congr 1; omega
        · rw [if_neg b, if_neg (by omega)]
    · have hne : ((i : Int) != (j : Int)) = true := by
        have : ¬ (i : Int) = (j : Int) := by omega
        simpa using this
      simp only [F156_l6, hne, cond_true]
      by_cases hgt : i > j
      · rw [decide_eq_true (show (i : Int) > (j : Int) by omega), cond_true]
        have := F156_l7_eq hL (F156_l6 f rec x1 (mm : Int) x3 y9 n) hi hj (by omega) g f 0 (by omega) (by omega)
        rw [swp_zero] at this
        refine this.trans ?_
        rw [F156_l6_eq hL hf rec x1 x3 y9 n (i - j) j _ (by omega) hj0 (by omega) hj (by omega)]
        congr 1
        refine mk_congr fun k _ => ?_
        unfold rot
        by_cases a : mm - i ≤ k ∧ k < mm - i + j
        · rw [if_neg (by omega), if_neg (by omega), if_pos a]
          unfold swp
          rw [if_pos a]; congr 1; omega
        · rw [if_neg a]
          by_cases b : mm - i + j ≤ k ∧ k < mm - i + j + i
          · rw [if_pos b]
            by_cases c : k < mm - i + j + j
            · rw [if_pos (by omega)]
              unfold swp
              rw [if_neg (by omega), if_pos (by omega)]; congr 1; omega
            · rw [if_neg (by omega), if_pos (by omega)]
              unfold swp
              rw [if_neg (by omega), if_neg (by omega)]
          · rw [if_neg b, if_neg (by omega), if_neg (by omega)]
            unfold swp
            rw [if_neg (by omega), if_neg (by omega)]
      · rw [decide_eq_false (show ¬ (i : Int) > (j : Int) by omega), cond_false]
        have := F156_l8_eq hL (F156_l6 f rec x1 (mm : Int) x3 y9 n) hi hj (by omega) g f 0 (by omega) (by omega)
        rw [swp_zero] at this
        refine this.trans ?_
        rw [F156_l6_eq hL hf rec x1 x3 y9 n i (j - i) _ hi0 (by omega) hi (by omega) (by omega)]
        congr 1
        refine mk_congr fun k _ => ?_
        unfold rot
        by_cases a : mm - i ≤ k ∧ k < mm - i + (j - i)
        · rw [if_pos a, if_pos (by omega)]
          unfold swp
          by_cases c : k + i < mm + j - i
          · rw [if_neg (by omega), if_neg (by omega)]
          · rw [if_neg (by omega), if_neg (by omega)]
        · rw [if_neg a]
          by_cases b : mm - i + (j - i) ≤ k ∧ k < mm - i + (j - i) + i
          · rw [if_pos b, if_pos (by omega)]
            unfold swp
            rw [if_pos (by omega)]; congr 1; omega
          · rw [if_neg b]
            unfold swp
            by_cases c : mm - i + j ≤ k ∧ k < mm - i + j + i
            · rw [if_neg (by omega), if_pos (by omega), if_neg (by omega), if_pos (by omega)]; congr 1; omega
            · rw [if_neg (by omega), if_neg (by omega), if_neg (by omega), if_neg (by omega)]
end Go.Proofs.Ytlmgjjmighajdaa
set_option linter.unusedSimpArgs false
set_option linter.unusedVariables false
namespace Go.Proofs.Ytlmgjjmighajdaa
open Go.Sl Go.Sx
theorem cmp_less {f : Nat} {m : Int} {a : List Int} (h : DealOk m a) {u v : Int} (hu : 0 ≤ u ∧ u < a.length) (hv : 0 ≤ v ∧ v < a.length) {α : Type} (K : Int → Option α) :
    ((getI a v).bind fun p7 => (nz a.sum).bind fun _ => (getI a u).bind fun p8 => (nz a.sum).bind fun _ => (F123 f (Int.tmod (w64 (m * p7)) a.sum) (Int.tmod (w64 (m * p8)) a.sum)).bind K) =
      K (if rem_ m a.sum a v < rem_ m a.sum a u then -1 else if rem_ m a.sum a v > rem_ m a.sum a u then 1 else 0) := by
  have hul : u.toNat < a.length := by omega
  have hvl : v.toNat < a.length := by omega
  have eu : getI a u = some a[u.toNat] := by have := getI_nat hul; rwa [Int.toNat_of_nonneg hu.1] at this
  have ev : getI a v = some a[v.toNat] := by have := getI_nat hvl; rwa [Int.toNat_of_nonneg hv.1] at this
  have hs : a.sum ≠ 0 := by have := h.s0; omega
  have t1 := tmod_eq h hul
  have t2 := tmod_eq h hvl
  rw [Int.toNat_of_nonneg hu.1] at t1
  rw [Int.toNat_of_nonneg hv.1] at t2
  simp only [eu, ev, Option.bind_some, nzS hs, t1, t2, F123_eq]
theorem dec_less {m s : Int} {a : List Int} {u v : Int} : decide ((if rem_ m s a v < rem_ m s a u then (-1 : Int) else if rem_ m s a v > rem_ m s a u then 1 else 0) < 0) = less m s a u v := by
  unfold less
  by_cases h : rem_ m s a v < rem_ m s a u
  · rw [if_pos h]; simp [h]
  · rw [if_neg h]
    have : ¬ rem_ m s a u > rem_ m s a v := h
    split <;> simp [this]
section
variable {f : Nat} {mm : Int} {arr : List Int} {L : Nat} {g : Nat → Int}
def ValsP (arr : List Int) (L : Nat) (g : Nat → Int) : Prop := ∀ k, k < L → 0 ≤ g k ∧ g k < arr.length
def SortP (mm : Int) (arr : List Int) (g : Nat → Int) (lo hi : Nat) : Prop := ∀ i j, lo ≤ i → i < j → j < hi → ahead mm arr.sum arr (g i) (g j)
def IdxP (g : Nat → Int) (a m b : Nat) : Prop := ∀ i j, a ≤ i → i < m → m ≤ j → j < b → g i < g j
theorem less_ahead {x y : Int} (h : y < x) : less mm arr.sum arr x y = true ↔ ahead mm arr.sum arr x y := by
  unfold less ahead; simp only [decide_eq_true_eq]; omega
theorem nless_ahead {x y : Int} (h : y < x) (e : less mm arr.sum arr x y = false) : ahead mm arr.sum arr y x := by
  unfold less at e; unfold ahead; simp only [decide_eq_false_iff_not] at e; omega
theorem F156_l1_eq (hd : DealOk mm arr) (hL : L ≤ 1000) (hv : ValsP arr L g) {a m b : Nat} (ha : a < L) (hb : b ≤ L) (hmon : ∀ k k', m ≤ k → k < k' → k' < b → less mm arr.sum arr (g k') (g a) = true → less mm arr.sum arr (g k) (g a) = true) :
    ∀ n i j, m ≤ i → i ≤ j → j ≤ b → j - i < n → (∀ k, m ≤ k → k < i → less mm arr.sum arr (g k) (g a) = true) → (∀ k, j ≤ k → k < b → less mm arr.sum arr (g k) (g a) = false) →
    ∃ e, m ≤ e ∧ e ≤ b ∧ (∀ k, m ≤ k → k < e → less mm arr.sum arr (g k) (g a) = true) ∧ (∀ k, e ≤ k → k < b → less mm arr.sum arr (g k) (g a) = false) ∧
      F156_l1 f mm arr arr.sum (mk L g) (a : Int) n (i : Int) (j : Int) = F156_l2 (e : Int) f (mk L g) (a : Int)
  | 0, i, j, _, _, _, hn, _, _ => by omega
  | n + 1, i, j, hi, hij, hj, hn, h1, h2 => by
    rcases Nat.lt_or_ge i j with hlt | hge
    · have hc : (i + j) / 2 < L := by omega
      have hw : w64 ((((i + j) / 2 : Nat) : Int) + 1) = (((i + j) / 2 + 1 : Nat) : Int) := succ_w (by omega)
      simp only [F156_l1, decide_eq_true (show (i : Int) < (j : Int) by omega), cond_true, half_w (a := i) (b := j) (by omega), hw]
      rw [mk_get hc rfl]
      simp only [Option.bind_some]
      rw [mk_get ha rfl]
      simp only [Option.bind_some]
      rw [cmp_less hd (hv _ hc) (hv _ ha), dec_less]
      cases hl : less mm arr.sum arr (g ((i + j) / 2)) (g a)
      · rw [cond_false]
        refine F156_l1_eq hd hL hv ha hb hmon n i ((i + j) / 2) hi (by omega) (by omega) (by omega) h1 fun k hk hkb => ?_
        rcases Nat.lt_or_ge ((i + j) / 2) k with hk2 | hk2
        · cases hl2 : less mm arr.sum arr (g k) (g a)
          · rfl
          · rw [hmon _ k (by omega) hk2 hkb hl2] at hl; cases hl
        · have : k = (i + j) / 2 := by omega
          subst this; exact hl
      · rw [cond_true]
        refine F156_l1_eq hd hL hv ha hb hmon n ((i + j) / 2 + 1) j (by omega) (by omega) hj (by omega) (fun k hk hke => ?_) h2
        rcases Nat.lt_or_ge k ((i + j) / 2) with hk2 | hk2
        · exact hmon k _ hk hk2 (by omega) hl
        · have : k = (i + j) / 2 := by omega
          subst this; exact hl
    · have : i = j := by omega
      subst this
      refine ⟨i, hi, hj, h1, h2, ?_⟩
      simp only [F156_l1, decide_eq_false (show ¬ (i : Int) < (i : Int) by omega), cond_false]
theorem F156_l3_eq (hd : DealOk mm arr) (hL : L ≤ 1000) (hv : ValsP arr L g) {a m : Nat} (hm : m < L) (hmon : ∀ k k', a ≤ k → k < k' → k' < m → less mm arr.sum arr (g m) (g k) = true → less mm arr.sum arr (g m) (g k') = true) :
    ∀ n i j, a ≤ i → i ≤ j → j ≤ m → j - i < n → (∀ k, a ≤ k → k < i → less mm arr.sum arr (g m) (g k) = false) → (∀ k, j ≤ k → k < m → less mm arr.sum arr (g m) (g k) = true) →
    ∃ e, a ≤ e ∧ e ≤ m ∧ (∀ k, a ≤ k → k < e → less mm arr.sum arr (g m) (g k) = false) ∧ (∀ k, e ≤ k → k < m → less mm arr.sum arr (g m) (g k) = true) ∧
      F156_l3 f mm arr arr.sum (mk L g) (m : Int) n (i : Int) (j : Int) = F156_l4 (e : Int) f (mk L g) (m : Int)
  | 0, i, j, _, _, _, hn, _, _ => by omega
  | n + 1, i, j, hi, hij, hj, hn, h1, h2 => by
    rcases Nat.lt_or_ge i j with hlt | hge
    · have hc : (i + j) / 2 < L := by omega
      have hw : w64 ((((i + j) / 2 : Nat) : Int) + 1) = (((i + j) / 2 + 1 : Nat) : Int) := succ_w (by omega)
      simp only [F156_l3, decide_eq_true (show (i : Int) < (j : Int) by omega), cond_true, half_w (a := i) (b := j) (by omega), hw]
      rw [mk_get hm rfl]
      simp only [Option.bind_some]
      rw [mk_get hc rfl]
      simp only [Option.bind_some]
      rw [cmp_less hd (hv _ hm) (hv _ hc), dec_less]
      cases hl : less mm arr.sum arr (g m) (g ((i + j) / 2))
      · rw [Bool.not_false, cond_true]
        refine F156_l3_eq hd hL hv hm hmon n ((i + j) / 2 + 1) j (by omega) (by omega) hj (by omega) (fun k hk hke => ?_) h2
        rcases Nat.lt_or_ge k ((i + j) / 2) with hk2 | hk2
        · cases hl2 : less mm arr.sum arr (g m) (g k)
          · rfl
          · rw [hmon k _ hk hk2 (by omega) hl2] at hl; cases hl
        · have : k = (i + j) / 2 := by omega
          subst this; exact hl
      · rw [Bool.not_true, cond_false]
        refine F156_l3_eq hd hL hv hm hmon n i ((i + j) / 2) hi (by omega) (by omega) (by omega) h1 fun k hk hkb => ?_
        rcases Nat.lt_or_ge ((i + j) / 2) k with hk2 | hk2
        · exact hmon _ k (by omega) hk2 hkb hl
        · have : k = (i + j) / 2 := by omega
          subst this; exact hl
    · have : i = j := by omega
      subst this
      refine ⟨i, hi, hj, h1, h2, ?_⟩
      simp only [F156_l3, decide_eq_false (show ¬ (i : Int) < (i : Int) by omega), cond_false]
end
def mvUp (g : Nat → Int) (a e : Nat) : Nat → Int := fun k => if a ≤ k ∧ k < e then g (k + 1) else if k = e then g a else g k
theorem mvUp_step {g : Nat → Int} {a t : Nat} (h : a ≤ t) (k : Nat) : upd (upd (mvUp g a t) t (mvUp g a t (t + 1))) (t + 1) (mvUp g a t t) k = mvUp g a (t + 1) k := by
  have e1 : mvUp g a t (t + 1) = g (t + 1) := by unfold mvUp; rw [if_neg (by omega), if_neg (by omega)]
  have e2 : mvUp g a t t = g a := by unfold mvUp; rw [if_neg (by omega), if_pos rfl]
  rw [e1, e2]
  unfold upd mvUp
  by_cases c1 : k = t + 1
  · subst c1; rw [if_pos rfl, if_neg (by omega), if_pos rfl]
  · rw [if_neg c1]
    by_cases c2 : k = t
    · subst c2; rw [if_pos rfl, if_pos (by omega)]
    · rw [if_neg c2]
      by_cases c3 : a ≤ k ∧ k < t
      · rw [if_pos c3, if_pos (by omega)]
      · rw [if_neg c3, if_neg c2, if_neg (by omega), if_neg (by omega)]
theorem F156_l2_eq {L : Nat} (hL : L ≤ 1000) {g : Nat → Int} {a e : Nat} (hae : a < e) (he : e ≤ L) : ∀ n t, a ≤ t → t ≤ e - 1 → e - 1 - t < n → F156_l2 (e : Int) n (mk L (mvUp g a t)) (t : Int) = some (mk L (mvUp g a (e - 1)))
  | 0, t, _, _, hn => by omega
  | n + 1, t, hat, ht, hn => by
    have w0 : w64 ((e : Int) - 1) = ((e - 1 : Nat) : Int) := pred_w (by omega) (by omega)
    rcases Nat.lt_or_ge t (e - 1) with hlt | hge
    · have w1 : w64 ((t : Int) + 1) = ((t + 1 : Nat) : Int) := succ_w (by omega)
      simp only [F156_l2, w0, decide_eq_true (show (t : Int) < ((e - 1 : Nat) : Int) by omega), cond_true, w1]
      rw [mk_get (show t + 1 < L by omega) rfl]
      simp only [Option.bind_some]
      rw [mk_get (show t < L by omega) rfl]
      simp only [Option.bind_some]
      rw [mk_set (show t < L by omega) _ rfl]
      simp only [Option.bind_some]
      rw [mk_get (show t + 1 < L by omega) rfl]
      simp only [Option.bind_some]
      rw [mk_set (show t + 1 < L by omega) _ rfl]
      simp only [Option.bind_some]
      rw [mk_congr fun k _ => mvUp_step (g := g) hat k]
      exact F156_l2_eq hL hae he n (t + 1) (by omega) (by omega) (by omega)
    · have : t = e - 1 := by omega
      subst this
      simp only [F156_l2, w0, decide_eq_false (show ¬ ((e - 1 : Nat) : Int) < ((e - 1 : Nat) : Int) by omega), cond_false]
def mvDn (g : Nat → Int) (e m : Nat) : Nat → Int := fun k => if k = e then g m else if e < k ∧ k ≤ m then g (k - 1) else g k
theorem mvDn_step {g : Nat → Int} {t m : Nat} (h : t + 1 ≤ m) (k : Nat) : upd (upd (mvDn g (t + 1) m) (t + 1) (mvDn g (t + 1) m t)) t (mvDn g (t + 1) m (t + 1)) k = mvDn g t m k := by
  have e1 : mvDn g (t + 1) m t = g t := by unfold mvDn; rw [if_neg (by omega), if_neg (by omega)]
  have e2 : mvDn g (t + 1) m (t + 1) = g m := by unfold mvDn; rw [if_pos rfl]
  rw [e1, e2]
  unfold upd mvDn
  by_cases c1 : k = t
  · subst c1; rw [if_pos rfl, if_pos rfl]
  · rw [if_neg c1, if_neg c1]
    by_cases c2 : k = t + 1
    · subst c2; rw [if_pos rfl, if_pos (by omega)]; rfl
    · rw [if_neg c2, if_neg c2]
      by_cases c3 : t + 1 < k ∧ k ≤ m
      · rw [if_pos c3, if_pos (by omega)]
      · rw [if_neg c3, if_neg (by omega)]
theorem F156_l4_eq {L : Nat} (hL : L ≤ 1000) {g : Nat → Int} {e m : Nat} (hm : m < L) : ∀ n t, e ≤ t → t ≤ m → t - e < n → F156_l4 (e : Int) n (mk L (mvDn g t m)) (t : Int) = some (mk L (mvDn g e m))
  | 0, t, _, _, hn => by omega
  | n + 1, t, het, htm, hn => by
    rcases Nat.lt_or_ge e t with hlt | hge
    · obtain ⟨u, rfl⟩ : ∃ u, t = u + 1 := ⟨t - 1, by omega⟩
      have w1 : w64 (((u + 1 : Nat) : Int) - 1) = (u : Int) := by rw [pred_w (by omega) (by omega)]; rfl
      simp only [F156_l4, decide_eq_true (show ((u + 1 : Nat) : Int) > (e : Int) by omega), cond_true, w1]
      rw [mk_get (show u < L by omega) rfl]
      simp only [Option.bind_some]
      rw [mk_get (show u + 1 < L by omega) rfl]
      simp only [Option.bind_some]
      rw [mk_set (show u + 1 < L by omega) _ rfl]
      simp only [Option.bind_some]
      rw [mk_get (show u < L by omega) rfl]
      simp only [Option.bind_some]
      rw [mk_set (show u < L by omega) _ rfl]
      simp only [Option.bind_some]
      rw [mk_congr fun k _ => mvDn_step (g := g) (by omega) k]
      exact F156_l4_eq hL hm n u (by omega) (by omega) (by omega)
    · have : t = e := by omega
      subst this
      simp only [F156_l4, decide_eq_false (show ¬ (t : Int) > (t : Int) by omega), cond_false]
end Go.Proofs.Ytlmgjjmighajdaa
set_option linter.unusedSimpArgs false
set_option linter.unusedVariables false
namespace Go.Proofs.Ytlmgjjmighajdaa
open Go.Sl Go.Sx
theorem beqI {x y : Int} (h : x = y) : (x == y) = true := by simpa using h
theorem bneI {x y : Int} (h : x ≠ y) : (x == y) = false := by simpa using h
section
variable {f : Nat} {mm : Int} {arr : List Int} {L : Nat} {g : Nat → Int}
theorem F156_l5_eq (hd : DealOk mm arr) (hL : L ≤ 1000) (hv : ValsP arr L g) (rec : List Int → Int → Int → Int → Option (List Int)) {a m b lo hi : Nat} (ham : a < m) (hmb : m < b) (hb : b ≤ L) (hlo : a ≤ lo) (hhi : hi ≤ m) (hp : ∀ c, lo ≤ c → c < hi → m ≤ (a + b) / 2 + m - 1 - c ∧ (a + b) / 2 + m - 1 - c < b)
    (hmon : ∀ c c', lo ≤ c → c < c' → c' < hi → less mm arr.sum arr (g ((a + b) / 2 + m - 1 - c)) (g c) = true → less mm arr.sum arr (g ((a + b) / 2 + m - 1 - c')) (g c') = true) :
    ∀ n i j, lo ≤ i → i ≤ j → j ≤ hi → j - i < n → (∀ c, lo ≤ c → c < i → less mm arr.sum arr (g ((a + b) / 2 + m - 1 - c)) (g c) = false) → (∀ c, j ≤ c → c < hi → less mm arr.sum arr (g ((a + b) / 2 + m - 1 - c)) (g c) = true) →
    ∃ e, lo ≤ e ∧ e ≤ hi ∧ (∀ c, lo ≤ c → c < e → less mm arr.sum arr (g ((a + b) / 2 + m - 1 - c)) (g c) = false) ∧ (∀ c, e ≤ c → c < hi → less mm arr.sum arr (g ((a + b) / 2 + m - 1 - c)) (g c) = true) ∧
      F156_l5 f rec mm arr arr.sum (mk L g) (a : Int) (m : Int) (b : Int) n (i : Int) (j : Int) = F156_l5 f rec mm arr arr.sum (mk L g) (a : Int) (m : Int) (b : Int) 1 (e : Int) (e : Int)
  | 0, i, j, _, _, _, hn, _, _ => by omega
  | n + 1, i, j, h1, h2, h3, hn, h4, h5 => by
    rcases Nat.lt_or_ge i j with hlt | hge
    · have hcl : (i + j) / 2 < L := by omega
      obtain ⟨q1, q2⟩ := hp ((i + j) / 2) (by omega) (by omega)
      have hql : (a + b) / 2 + m - 1 - (i + j) / 2 < L := by omega
      have hw : w64 ((((i + j) / 2 : Nat) : Int) + 1) = (((i + j) / 2 + 1 : Nat) : Int) := succ_w (by omega)
      have wq : w64 (w64 (w64 ((((a + b) / 2 : Nat) : Int) + (m : Int)) - 1) - (((i + j) / 2 : Nat) : Int)) = (((a + b) / 2 + m - 1 - (i + j) / 2 : Nat) : Int) := by
        rw [wid (n := (((a + b) / 2 : Nat) : Int) + (m : Int)) (by omega) (by omega), wid (n := (((a + b) / 2 : Nat) : Int) + (m : Int) - 1) (by omega) (by omega), wid (by omega) (by omega)]
        omega
      rw [F156_l5]
      simp only [decide_eq_true (show (i : Int) < (j : Int) by omega), cond_true, half_w (a := i) (b := j) (by omega), half_w (a := a) (b := b) (by omega), hw, wq]
      rw [mk_get hql rfl]
      simp only [Option.bind_some]
      rw [mk_get hcl rfl]
      simp only [Option.bind_some]
      rw [cmp_less hd (hv _ hql) (hv _ hcl), dec_less]
      cases hl : less mm arr.sum arr (g ((a + b) / 2 + m - 1 - (i + j) / 2)) (g ((i + j) / 2))
      · rw [Bool.not_false, cond_true]
        refine F156_l5_eq hd hL hv rec ham hmb hb hlo hhi hp hmon n ((i + j) / 2 + 1) j (by omega) (by omega) h3 (by omega) (fun c hc hce => ?_) h5
        rcases Nat.lt_or_ge c ((i + j) / 2) with hk | hk
        · cases hl2 : less mm arr.sum arr (g ((a + b) / 2 + m - 1 - c)) (g c)
          · rfl
          · rw [hmon c _ hc hk (by omega) hl2] at hl; cases hl
        · have : c = (i + j) / 2 := by omega
          subst this; exact hl
      · rw [Bool.not_true, cond_false]
        refine F156_l5_eq hd hL hv rec ham hmb hb hlo hhi hp hmon n i ((i + j) / 2) h1 (by omega) (by omega) (by omega) h4 fun c hc hce => ?_
        rcases Nat.lt_or_ge ((i + j) / 2) c with hk | hk
        · exact hmon _ c (by omega) hk hce hl
        · have : c = (i + j) / 2 := by omega
          subst this; exact hl
    · have : i = j := by omega
      subst this
      refine ⟨i, h1, h3, h4, h5, ?_⟩
      rw [F156_l5, F156_l5]
      simp only [decide_eq_false (show ¬ (i : Int) < (i : Int) by omega), cond_false]
def FrmP (g g' : Nat → Int) (a b : Nat) : Prop := (∀ k, k < a ∨ b ≤ k → g' k = g k) ∧ ∀ k, a ≤ k → k < b → ∃ k', a ≤ k' ∧ k' < b ∧ g' k = g k'
theorem FrmP.vals {g g' : Nat → Int} {a b : Nat} (h : FrmP g g' a b) (hb : b ≤ L) (hv : ValsP arr L g) : ValsP arr L g' := fun k hk => by
  rcases Nat.lt_or_ge k a with h1 | h1
  · rw [h.1 k (.inl h1)]; exact hv k hk
  · rcases Nat.lt_or_ge k b with h2 | h2
    · obtain ⟨k', _, h3, e⟩ := h.2 k h1 h2
      rw [e]; exact hv k' (by omega)
    · rw [h.1 k (.inr h2)]; exact hv k hk
theorem ahead_le {lo hi : Nat} (hs : SortP mm arr g lo hi) {x : Int} {i j : Nat} (hi1 : lo ≤ i) (hij : i ≤ j) (hj : j < hi) (h : ahead mm arr.sum arr (g j) x) : ahead mm arr.sum arr (g i) x := by
  rcases Nat.lt_or_ge i j with k | k
  · exact ahead_tr _ _ _ _ _ _ (hs i j hi1 k hj) h
  · have : i = j := by omega
    subst this; exact h
theorem ahead_ge {lo hi : Nat} (hs : SortP mm arr g lo hi) {x : Int} {i j : Nat} (hi1 : lo ≤ i) (hij : i ≤ j) (hj : j < hi) (h : ahead mm arr.sum arr x (g i)) : ahead mm arr.sum arr x (g j) := by
  rcases Nat.lt_or_ge i j with k | k
  · exact ahead_tr _ _ _ _ _ _ h (hs i j hi1 k hj)
  · have : i = j := by omega
    subst this; exact h
theorem sym_eq (hd : DealOk mm arr) (hL : L ≤ 1000) (hf : 1000 < f) : ∀ (n a m b : Nat) (g : Nat → Int), a < m → m < b → b ≤ L → b - a ≤ n → ValsP arr L g → SortP mm arr g a m → SortP mm arr g m b → IdxP g a m b →
    ∃ g', F156r f mm arr arr.sum n (mk L g) (a : Int) (m : Int) (b : Int) = some (mk L g') ∧ FrmP g g' a b ∧ SortP mm arr g' a b
  | 0, a, m, b, g, h1, h2, _, hn, _, _, _, _ => by omega
  | n + 1, a, m, b, g, ham, hmb, hb, hn, hv, hsA, hsB, hix => by
    have wma : w64 ((m : Int) - (a : Int)) = ((m - a : Nat) : Int) := by rw [wid (by omega) (by omega)]; omega
    have wbm : w64 ((b : Int) - (m : Int)) = ((b - m : Nat) : Int) := by rw [wid (by omega) (by omega)]; omega
    show ∃ g', F156 f (F156r f mm arr arr.sum n) mm arr arr.sum (mk L g) (a : Int) (m : Int) (b : Int) = some (mk L g') ∧ _
    by_cases c1 : m = a + 1
    · -- one on the left
      have hb1 : (((m - a : Nat) : Int) == 1) = true := beqI (by omega)
      unfold F156
      rw [wma, hb1, cond_true]
      obtain ⟨e, e1, e2, e3, e4, e5⟩ := F156_l1_eq (f := f) hd hL hv (a := a) (m := m) (b := b) (by omega) hb (fun k k' hk hkk hkb hl => by
        have i1 := hix a k (by omega) (by omega) hk (by omega)
        have i2 := hix a k' (by omega) (by omega) (by omega) hkb
        exact (less_ahead i1).2 (ahead_tr _ _ _ _ _ _ (hsB k k' hk hkk hkb) ((less_ahead i2).1 hl))) f m b (by omega) (by omega) (by omega) (by omega) (fun k h1 h2 => by omega) (fun k h1 h2 => by omega)
      have e6 := F156_l2_eq hL (g := g) (a := a) (e := e) (by omega) (by omega) f a (by omega) (by omega) (by omega)
      have e0 : mk L (mvUp g a a) = mk L g := mk_congr fun k _ => by unfold mvUp; by_cases c : k = a; subst c; simp; rw [if_neg (by omega), if_neg c]
      rw [e0] at e6
      refine ⟨mvUp g a (e - 1), by rw [e5, e6], ⟨fun k hk => ?_, fun k hk1 hk2 => ?_⟩, fun i j hi hij hj => ?_⟩
      · unfold mvUp; rw [if_neg (by omega), if_neg (by omega)]
      · unfold mvUp
        by_cases c : a ≤ k ∧ k < e - 1
        · rw [if_pos c]; exact ⟨k + 1, by omega, by omega, rfl⟩
        · rw [if_neg c]
          by_cases c2 : k = e - 1
          · rw [if_pos c2]; exact ⟨a, by omega, by omega, rfl⟩
          · rw [if_neg c2]; exact ⟨k, hk1, hk2, rfl⟩
      · have lt_x : ∀ k, m ≤ k → k < e → ahead mm arr.sum arr (g k) (g a) := fun k h1 h2 => (less_ahead (hix a k (by omega) (by omega) h1 (by omega))).1 (e3 k h1 h2)
        have x_lt : ∀ k, e ≤ k → k < b → ahead mm arr.sum arr (g a) (g k) := fun k h1 h2 => nless_ahead (hix a k (by omega) (by omega) (by omega) h2) (e4 k h1 h2)
        unfold mvUp
        by_cases p1 : i < e - 1
        · rw [if_pos ⟨hi, p1⟩]
          by_cases p2 : j < e - 1
          · rw [if_pos ⟨by omega, p2⟩]; exact hsB (i + 1) (j + 1) (by omega) (by omega) (by omega)
          · rw [if_neg (by omega)]
            by_cases p3 : j = e - 1
            · rw [if_pos p3]; exact lt_x (i + 1) (by omega) (by omega)
            · rw [if_neg p3]; exact hsB (i + 1) j (by omega) (by omega) hj
        · rw [if_neg (by omega)]
          by_cases p2 : i = e - 1
          · rw [if_pos p2, if_neg (by omega), if_neg (by omega)]; exact x_lt j (by omega) hj
          · rw [if_neg p2, if_neg (by omega), if_neg (by omega)]; exact hsB i j (by omega) hij hj
    · have hb1 : (((m - a : Nat) : Int) == 1) = false := bneI (by omega)
      by_cases c2 : b = m + 1
      · -- one on the right
        have hb2 : (((b - m : Nat) : Int) == 1) = true := beqI (by omega)
        unfold F156
        rw [wma, hb1, cond_false, wbm, hb2, cond_true]
        obtain ⟨e, e1, e2, e3, e4, e5⟩ := F156_l3_eq (f := f) hd hL hv (a := a) (m := m) (by omega) (fun k k' hk hkk hkb hl => by
          have i1 := hix k m hk (by omega) (by omega) (by omega)
          have i2 := hix k' m (by omega) hkb (by omega) (by omega)
          exact (less_ahead i2).2 (ahead_tr _ _ _ _ _ _ ((less_ahead i1).1 hl) (hsA k k' hk hkk hkb))) f a m (by omega) (by omega) (by omega) (by omega) (fun k h1 h2 => by omega) (fun k h1 h2 => by omega)
        have e6 := F156_l4_eq hL (g := g) (e := e) (m := m) (by omega) f m (by omega) (by omega) (by omega)
        have e0 : mk L (mvDn g m m) = mk L g := mk_congr fun k _ => by unfold mvDn; by_cases c : k = m; subst c; simp; rw [if_neg c, if_neg (by omega)]
        rw [e0] at e6
        refine ⟨mvDn g e m, by rw [e5, e6], ⟨fun k hk => ?_, fun k hk1 hk2 => ?_⟩, fun i j hi hij hj => ?_⟩
        · unfold mvDn; rw [if_neg (by omega), if_neg (by omega)]
        · unfold mvDn
          by_cases c : k = e
          · rw [if_pos c]; exact ⟨m, by omega, by omega, rfl⟩
          · rw [if_neg c]
            by_cases c2 : e < k ∧ k ≤ m
            · rw [if_pos c2]; exact ⟨k - 1, by omega, by omega, rfl⟩
            · rw [if_neg c2]; exact ⟨k, hk1, hk2, rfl⟩
        · have x_gt : ∀ k, a ≤ k → k < e → ahead mm arr.sum arr (g k) (g m) := fun k h1 h2 => nless_ahead (hix k m h1 (by omega) (by omega) (by omega)) (e3 k h1 h2)
          have x_lt : ∀ k, e ≤ k → k < m → ahead mm arr.sum arr (g m) (g k) := fun k h1 h2 => (less_ahead (hix k m (by omega) h2 (by omega) (by omega))).1 (e4 k h1 h2)
          unfold mvDn
          by_cases p1 : i = e
          · rw [if_pos p1, if_neg (by omega), if_pos (by omega)]; exact x_lt (j - 1) (by omega) (by omega)
          · rw [if_neg p1]
            by_cases p2 : e < i ∧ i ≤ m
            · rw [if_pos p2, if_neg (by omega), if_pos (by omega)]; exact hsA (i - 1) (j - 1) (by omega) (by omega) (by omega)
            · rw [if_neg p2]
              by_cases p3 : j = e
              · rw [if_pos p3]; exact x_gt i hi (by omega)
              · rw [if_neg p3]
                by_cases p4 : e < j ∧ j ≤ m
                · rw [if_pos p4]; exact hsA i (j - 1) hi (by omega) (by omega)
                · rw [if_neg p4]; exact hsA i j hi hij (by omega)
      · have hb2 : (((b - m : Nat) : Int) == 1) = false := bneI (by omega)
        -- in general
        obtain ⟨mid, hmid⟩ : ∃ mid, mid = (a + b) / 2 := ⟨_, rfl⟩
        have wmid := half_w (a := a) (b := b) (by omega)
        rw [← hmid] at wmid
        have wn : w64 ((mid : Int) + (m : Int)) = ((mid + m : Nat) : Int) := by rw [wid (by omega) (by omega)]; omega
        -- the bounds of the search
        obtain ⟨lo, hi, hlo, hhi, hlh, hp, hcase, hF⟩ : ∃ lo hi : Nat, a ≤ lo ∧ hi ≤ m ∧ lo ≤ hi ∧ (∀ c, lo ≤ c → c < hi → m ≤ (a + b) / 2 + m - 1 - c ∧ (a + b) / 2 + m - 1 - c < b) ∧ ((hi = m ∧ m ≤ mid ∧ lo = a) ∨ (hi = mid ∧ mid < m ∧ lo + b = mid + m)) ∧
            F156 f (F156r f mm arr arr.sum n) mm arr arr.sum (mk L g) (a : Int) (m : Int) (b : Int) = F156_l5 f (F156r f mm arr arr.sum n) mm arr arr.sum (mk L g) (a : Int) (m : Int) (b : Int) f (lo : Int) (hi : Int) := by
          unfold F156 F156_j1
          rw [wma, hb1, cond_false, wbm, hb2, cond_false, wmid, wn]
          by_cases c3 : m > mid
          · refine ⟨mid + m - b, mid, by omega, by omega, by omega, fun c h1 h2 => by omega, .inr ⟨rfl, by omega, by omega⟩, ?_⟩
            rw [decide_eq_true (show (m : Int) > (mid : Int) by omega), cond_true, wid (n := ((mid + m : Nat) : Int) - (b : Int)) (by omega) (by omega)]
            have : ((mid + m : Nat) : Int) - (b : Int) = ((mid + m - b : Nat) : Int) := by omega
            rw [this]
          · refine ⟨a, m, by omega, by omega, by omega, fun c h1 h2 => by omega, .inl ⟨rfl, by omega, rfl⟩, ?_⟩
            rw [decide_eq_false (show ¬ (m : Int) > (mid : Int) by omega), cond_false]
        rw [hF]
        obtain ⟨st, s1, s2, s3, s4, s5⟩ := F156_l5_eq (f := f) hd hL hv (F156r f mm arr arr.sum n) ham hmb hb hlo hhi hp (fun c c' h1 h2 h3 hl => by
          obtain ⟨q1, q2⟩ := hp c h1 (by omega)
          obtain ⟨q3, q4⟩ := hp c' (by omega) h3
          have i1 := hix c _ (by omega) (by omega) q1 q2
          have i2 := hix c' _ (by omega) (by omega) q3 q4
          refine (less_ahead i2).2 ?_
          exact ahead_tr _ _ _ _ _ _ (ahead_tr _ _ _ _ _ _ (hsB _ _ q3 (by omega) q2) ((less_ahead i1).1 hl)) (hsA c c' (by omega) h2 (by omega))) f lo hi (Nat.le_refl _) hlh (Nat.le_refl _) (by omega) (fun c h1 h2 => by omega) (fun c h1 h2 => by omega)
        rw [s5]
        obtain ⟨en, hen⟩ : ∃ en, en = mid + m - st := ⟨_, rfl⟩
        have wen : w64 (((mid + m : Nat) : Int) - (st : Int)) = (en : Int) := by rw [wid (by omega) (by omega)]; omega
        have hstm : st ≤ m := by omega
        have hmen : m ≤ en := by omega
        have henb : en ≤ b := by omega
        have hsmid : st ≤ mid := by omega
        have hmiden : mid ≤ en := by omega
        -- behind the rotation
        obtain ⟨G, hG⟩ : ∃ G, G = rot g st (m - st) (en - m) := ⟨_, rfl⟩
        have G1 : ∀ k, k < st → G k = g k := fun k hk => by rw [hG]; unfold rot; rw [if_neg (by omega), if_neg (by omega)]
        have G2 : ∀ k, st ≤ k → k < mid → G k = g (k + (m - st)) := fun k h1 h2 => by rw [hG]; unfold rot; rw [if_pos (by omega)]
        have G3 : ∀ k, mid ≤ k → k < en → G k = g (k - (en - m)) := fun k h1 h2 => by rw [hG]; unfold rot; rw [if_neg (by omega), if_pos (by omega)]
        have G4 : ∀ k, en ≤ k → G k = g k := fun k hk => by rw [hG]; unfold rot; rw [if_neg (by omega), if_neg (by omega)]
        have hrot : F156_l5 f (F156r f mm arr arr.sum n) mm arr arr.sum (mk L g) (a : Int) (m : Int) (b : Int) 1 (st : Int) (st : Int) = F156_j2 (F156r f mm arr arr.sum n) (a : Int) (m : Int) (b : Int) (st : Int) (mk L G) := by
          rw [F156_l5]
          simp only [decide_eq_false (show ¬ (st : Int) < (st : Int) by omega), cond_false, wmid, wn, wen]
          have triv : st = m ∨ en = m → mk L g = mk L G := fun h => mk_congr fun k _ => by
            rcases Nat.lt_or_ge k st with h1 | h1
            · exact (G1 k h1).symm
            · rcases Nat.lt_or_ge k mid with h2 | h2
              · rw [G2 k h1 h2]; rcases h with h | h
                · congr 1; omega
                · omega
              · rcases Nat.lt_or_ge k en with h3 | h3
                · rw [G3 k h2 h3]; rcases h with h | h
                  · omega
                  · congr 1; omega
                · exact (G4 k h3).symm
          by_cases p1 : st < m
          · rw [decide_eq_true (show (st : Int) < (m : Int) by omega), cond_true]
            by_cases p2 : m < en
            · rw [decide_eq_true (show (m : Int) < (en : Int) by omega)]
              simp only [F156_j3, cond_true, wmid, wn, wen]
              have w1 : w64 ((m : Int) - (st : Int)) = ((m - st : Nat) : Int) := by rw [wid (by omega) (by omega)]; omega
              have w2 : w64 ((en : Int) - (m : Int)) = ((en - m : Nat) : Int) := by rw [wid (by omega) (by omega)]; omega
              rw [w1, w2, F156_l6_eq hL hf _ _ _ _ f (m - st) (en - m) g (by omega) (by omega) (by omega) (by omega) (by omega)]
              have : m - (m - st) = st := by omega
              rw [this, ← hG]
            · rw [decide_eq_false (show ¬ (m : Int) < (en : Int) by omega)]
              simp only [F156_j3, cond_false]
              rw [triv (.inr (by omega))]
          · rw [decide_eq_false (show ¬ (st : Int) < (m : Int) by omega), cond_false]
            simp only [F156_j3, cond_false]
            rw [triv (.inl (by omega))]
        rw [hrot]
        -- the halves of G
        have hvG : ValsP arr L G := fun k hk => by
          rcases Nat.lt_or_ge k st with h1 | h1
          · rw [G1 k h1]; exact hv k hk
          · rcases Nat.lt_or_ge k mid with h2 | h2
            · rw [G2 k h1 h2]; exact hv _ (by omega)
            · rcases Nat.lt_or_ge k en with h3 | h3
              · rw [G3 k h2 h3]; exact hv _ (by omega)
              · rw [G4 k h3]; exact hv k hk
        have hfG : FrmP g G a b := ⟨fun k hk => by
          rcases hk with hk | hk
          · exact G1 k (by omega)
          · exact G4 k (by omega), fun k h1 h2 => by
          rcases Nat.lt_or_ge k st with k1 | k1
          · exact ⟨k, h1, h2, G1 k k1⟩
          · rcases Nat.lt_or_ge k mid with k2 | k2
            · exact ⟨_, by omega, by omega, G2 k k1 k2⟩
            · rcases Nat.lt_or_ge k en with k3 | k3
              · exact ⟨_, by omega, by omega, G3 k k2 k3⟩
              · exact ⟨k, h1, h2, G4 k k3⟩⟩
        have sA1 : SortP mm arr G a st := fun i j h1 h2 h3 => by rw [G1 i (by omega), G1 j h3]; exact hsA i j h1 h2 (by omega)
        have sB1 : SortP mm arr G st mid := fun i j h1 h2 h3 => by rw [G2 i h1 (by omega), G2 j (by omega) h3]; exact hsB _ _ (by omega) (by omega) (by omega)
        have sA2 : SortP mm arr G mid en := fun i j h1 h2 h3 => by rw [G3 i h1 (by omega), G3 j (by omega) h3]; exact hsA _ _ (by omega) (by omega) (by omega)
        have sB2 : SortP mm arr G en b := fun i j h1 h2 h3 => by rw [G4 i h1, G4 j (by omega)]; exact hsB i j (by omega) h2 h3
        have i1 : IdxP G a st mid := fun i j h1 h2 h3 h4 => by rw [G1 i h2, G2 j h3 h4]; exact hix _ _ h1 (by omega) (by omega) (by omega)
        have i2 : IdxP G mid en b := fun i j h1 h2 h3 h4 => by rw [G3 i h1 h2, G4 j h3]; exact hix _ _ (by omega) (by omega) (by omega) h4
        have hcross : ∀ i j, a ≤ i → i < mid → mid ≤ j → j < b → ahead mm arr.sum arr (G i) (G j) := fun i j h1 h2 h3 h4 => by
          rcases Nat.lt_or_ge i st with k1 | k1
          · rw [G1 i k1]
            rcases Nat.lt_or_ge j en with k2 | k2
            · rw [G3 j h3 k2]; exact hsA _ _ h1 (by omega) (by omega)
            · rw [G4 j k2]
              have hst : lo ≤ st - 1 := by omega
              have hl := s3 (st - 1) hst (by omega)
              have ee : (a + b) / 2 + m - 1 - (st - 1) = en := by omega
              rw [ee] at hl
              have := nless_ahead (hix (st - 1) en (by omega) (by omega) hmen (by omega)) hl
              exact ahead_le hsA h1 (show i ≤ st - 1 by omega) (by omega) (ahead_ge hsB hmen k2 h4 this)
          · rw [G2 i k1 h2]
            rcases Nat.lt_or_ge j en with k2 | k2
            · rw [G3 j h3 k2]
              have hst : st < hi := by omega
              have hl := s4 st (Nat.le_refl _) hst
              have ee : (a + b) / 2 + m - 1 - st = en - 1 := by omega
              rw [ee] at hl
              have := (less_ahead (hix st (en - 1) (by omega) (by omega) (by omega) (by omega))).1 hl
              exact ahead_le hsB (by omega) (show i + (m - st) ≤ en - 1 by omega) (by omega) (ahead_ge hsA (by omega) (show st ≤ j - (en - m) by omega) (by omega) this)
            · rw [G4 j k2]; exact hsB _ _ (by omega) (by omega) h4
        -- the left half
        have hleft : ∃ G', F156_j2 (F156r f mm arr arr.sum n) (a : Int) (m : Int) (b : Int) (st : Int) (mk L G) = F156_j4 (F156r f mm arr arr.sum n) (a : Int) (m : Int) (b : Int) (st : Int) (mk L G') ∧ FrmP G G' a mid ∧ SortP mm arr G' a mid := by
          unfold F156_j2
          rw [wmid]
          by_cases p1 : a < st
          · rw [decide_eq_true (show (a : Int) < (st : Int) by omega), cond_true]
            by_cases p2 : st < mid
            · rw [decide_eq_true (show (st : Int) < (mid : Int) by omega)]
              obtain ⟨g', r1, r2, r3⟩ := sym_eq hd hL hf n a st mid G p1 p2 (by omega) (by omega) hvG sA1 sB1 i1
              refine ⟨g', ?_, r2, r3⟩
              simp only [F156_j5, cond_true, wmid, r1, Option.bind_some]
            · rw [decide_eq_false (show ¬ (st : Int) < (mid : Int) by omega)]
              have : st = mid := by omega
              exact ⟨G, by simp only [F156_j5, cond_false], ⟨fun _ _ => rfl, fun k h1 h2 => ⟨k, h1, h2, rfl⟩⟩, by rw [← this]; exact sA1⟩
          · rw [decide_eq_false (show ¬ (a : Int) < (st : Int) by omega), cond_false]
            have : a = st := by omega
            exact ⟨G, by simp only [F156_j5, cond_false], ⟨fun _ _ => rfl, fun k h1 h2 => ⟨k, h1, h2, rfl⟩⟩, by rw [this]; exact sB1⟩
        obtain ⟨G', l1, l2, l3⟩ := hleft
        rw [l1]
        have eG : ∀ k, mid ≤ k → G' k = G k := fun k hk => l2.1 k (.inr hk)
        have hright : ∃ g', F156_j4 (F156r f mm arr arr.sum n) (a : Int) (m : Int) (b : Int) (st : Int) (mk L G') = some (mk L g') ∧ FrmP G' g' mid b ∧ SortP mm arr g' mid b := by
          unfold F156_j4
          rw [wmid, wn, wen]
          have sA2' : SortP mm arr G' mid en := fun i j h1 h2 h3 => by rw [eG i h1, eG j (by omega)]; exact sA2 i j h1 h2 h3
          have sB2' : SortP mm arr G' en b := fun i j h1 h2 h3 => by rw [eG i (by omega), eG j (by omega)]; exact sB2 i j h1 h2 h3
          by_cases p1 : mid < en
          · rw [decide_eq_true (show (mid : Int) < (en : Int) by omega), cond_true]
            by_cases p2 : en < b
            · rw [decide_eq_true (show (en : Int) < (b : Int) by omega)]
              obtain ⟨g', r1, r2, r3⟩ := sym_eq hd hL hf n mid en b G' p1 p2 hb (by omega) (l2.vals (by omega) hvG) sA2' sB2' (fun i j h1 h2 h3 h4 => by rw [eG i h1, eG j (by omega)]; exact i2 i j h1 h2 h3 h4)
              refine ⟨g', ?_, r2, r3⟩
              simp only [F156_j6, cond_true, wmid, wn, wen, r1, Option.bind_some]
            · rw [decide_eq_false (show ¬ (en : Int) < (b : Int) by omega)]
              have : en = b := by omega
              exact ⟨G', by simp only [F156_j6, cond_false], ⟨fun _ _ => rfl, fun k h1 h2 => ⟨k, h1, h2, rfl⟩⟩, by rw [← this]; exact sA2'⟩
          · rw [decide_eq_false (show ¬ (mid : Int) < (en : Int) by omega), cond_false]
            have : mid = en := by omega
            exact ⟨G', by simp only [F156_j6, cond_false], ⟨fun _ _ => rfl, fun k h1 h2 => ⟨k, h1, h2, rfl⟩⟩, by rw [this]; exact sB2'⟩
        obtain ⟨g', r1, r2, r3⟩ := hright
        refine ⟨g', r1, ⟨fun k hk => ?_, fun k h1 h2 => ?_⟩, fun i j h1 h2 h3 => ?_⟩
        · rw [r2.1 k (by omega), l2.1 k (by omega), hfG.1 k hk]
        · obtain ⟨k1, a1, a2, a3⟩ : ∃ k1, a ≤ k1 ∧ k1 < b ∧ g' k = G' k1 := by
            rcases Nat.lt_or_ge k mid with q | q
            · exact ⟨k, h1, h2, r2.1 k (.inl q)⟩
            · obtain ⟨k', x1, x2, x3⟩ := r2.2 k q h2; exact ⟨k', by omega, x2, x3⟩
          obtain ⟨k2, b1, b2, b3⟩ : ∃ k2, a ≤ k2 ∧ k2 < b ∧ G' k1 = G k2 := by
            rcases Nat.lt_or_ge k1 mid with q | q
            · obtain ⟨k', x1, x2, x3⟩ := l2.2 k1 a1 q; exact ⟨k', x1, by omega, x3⟩
            · exact ⟨k1, a1, a2, eG k1 q⟩
          obtain ⟨k3, d1, d2, d3⟩ := hfG.2 k2 b1 b2
          exact ⟨k3, d1, d2, by rw [a3, b3, d3]⟩
        · rcases Nat.lt_or_ge j mid with q | q
          · rw [r2.1 i (.inl (by omega)), r2.1 j (.inl q)]; exact l3 i j h1 h2 q
          · rcases Nat.lt_or_ge i mid with p | p
            · rw [r2.1 i (.inl p)]
              obtain ⟨i', x1, x2, x3⟩ := l2.2 i h1 p
              obtain ⟨j', y1, y2, y3⟩ := r2.2 j q h3
              rw [x3, y3, eG j' y1]
              exact hcross i' j' x1 x2 y1 y2
            · exact r3 i j p h2 h3
end
end Go.Proofs.Ytlmgjjmighajdaa
set_option linter.unusedSimpArgs false
set_option linter.unusedVariables false
namespace Go.Proofs.Ytlmgjjmighajdaa
open Go.Sl Go.Sx
section
variable {f : Nat} {mm : Int} {arr : List Int} {L : Nat} {g : Nat → Int}
theorem ins_ok {lo i e : Nat} (hs : SortP mm arr g lo i) (hix : ∀ k, lo ≤ k → k < i → g k < g i) (h1 : lo ≤ e) (h2 : e ≤ i) (hl : ∀ k, e ≤ k → k < i → less mm arr.sum arr (g i) (g k) = true) (hend : e = lo ∨ less mm arr.sum arr (g i) (g (e - 1)) = false) :
    SortP mm arr (mvDn g e i) lo (i + 1) ∧ FrmP g (mvDn g e i) lo (i + 1) := by
  have xlt : ∀ k, e ≤ k → k < i → ahead mm arr.sum arr (g i) (g k) := fun k h3 h4 => (less_ahead (hix k (by omega) h4)).1 (hl k h3 h4)
  have ltx : ∀ k, lo ≤ k → k < e → ahead mm arr.sum arr (g k) (g i) := fun k h3 h4 => by
    rcases hend with h | h
    · omega
    · exact ahead_le hs h3 (show k ≤ e - 1 by omega) (by omega) (nless_ahead (hix (e - 1) (by omega) (by omega)) h)
  refine ⟨fun a b ha hab hb => ?_, fun k hk => ?_, fun k hk1 hk2 => ?_⟩
  · unfold mvDn
    by_cases p1 : a = e
    · rw [if_pos p1, if_neg (by omega), if_pos (by omega)]; exact xlt (b - 1) (by omega) (by omega)
    · rw [if_neg p1]
      by_cases p2 : e < a ∧ a ≤ i
      · rw [if_pos p2, if_neg (by omega), if_pos (by omega)]; exact hs (a - 1) (b - 1) (by omega) (by omega) (by omega)
      · rw [if_neg p2]
        by_cases p3 : b = e
        · rw [if_pos p3]; exact ltx a ha (by omega)
        · rw [if_neg p3]
          by_cases p4 : e < b ∧ b ≤ i
          · rw [if_pos p4]; exact hs a (b - 1) ha (by omega) (by omega)
          · rw [if_neg p4]; exact hs a b ha hab (by omega)
  · unfold mvDn; rw [if_neg (by omega), if_neg (by omega)]
  · unfold mvDn
    by_cases p1 : k = e
    · rw [if_pos p1]; exact ⟨i, by omega, by omega, rfl⟩
    · rw [if_neg p1]
      by_cases p2 : e < k ∧ k ≤ i
      · rw [if_pos p2]; exact ⟨k - 1, by omega, by omega, rfl⟩
      · rw [if_neg p2]; exact ⟨k, hk1, hk2, rfl⟩
theorem mvDn_at (e i : Nat) : mvDn g e i e = g i := by unfold mvDn; rw [if_pos rfl]
theorem mvDn_pre {e i : Nat} (h : 0 < e) : mvDn g e i (e - 1) = g (e - 1) := by unfold mvDn; rw [if_neg (by omega), if_neg (by omega)]
theorem F127_l7_in (hd : DealOk mm arr) (hL : L ≤ 1000) (hv : ValsP arr L g) (k4 : List Int → Int → Option (List Int)) {lo i : Nat} (hi : i < L) :
    ∀ n j, lo ≤ j → j ≤ i → j - lo < n → (∀ k, j ≤ k → k < i → less mm arr.sum arr (g i) (g k) = true) →
    ∃ e, lo ≤ e ∧ e ≤ i ∧ (∀ k, e ≤ k → k < i → less mm arr.sum arr (g i) (g k) = true) ∧ (e = lo ∨ less mm arr.sum arr (g i) (g (e - 1)) = false) ∧
      F127_l7 f k4 mm arr arr.sum (lo : Int) (i : Int) n (mk L (mvDn g j i)) (j : Int) = k4 (mk L (mvDn g e i)) ((i + 1 : Nat) : Int)
  | 0, j, _, _, hn, _ => by omega
  | n + 1, j, h1, h2, hn, hl => by
    have wi : w64 ((i : Int) + 1) = ((i + 1 : Nat) : Int) := succ_w (by omega)
    rcases Nat.lt_or_ge lo j with hlt | hge
    · obtain ⟨u, rfl⟩ : ∃ u, j = u + 1 := ⟨j - 1, by omega⟩
      have w1 : w64 (((u + 1 : Nat) : Int) - 1) = (u : Int) := by rw [pred_w (by omega) (by omega)]; rfl
      have e1 : mvDn g (u + 1) i (u + 1) = g i := mvDn_at _ _
      have e2 : mvDn g (u + 1) i u = g u := mvDn_pre (e := u + 1) (by omega)
      simp only [F127_l7, decide_eq_true (show ((u + 1 : Nat) : Int) > (lo : Int) by omega), cond_true, w1]
      rw [mk_get (show u + 1 < L by omega) rfl]
      simp only [Option.bind_some]
      rw [mk_get (show u < L by omega) rfl, e1, e2]
      simp only [Option.bind_some]
      rw [cmp_less hd (hv i hi) (hv u (by omega)), dec_less]
      cases hc : less mm arr.sum arr (g i) (g u)
      · simp only [F127_j3, cond_false, wi]
        exact ⟨u + 1, h1, h2, hl, .inr hc, rfl⟩
      · simp only [F127_j3, cond_true, w1]
        rw [mk_get (show u < L by omega) rfl]
        simp only [Option.bind_some]
        rw [mk_get (show u + 1 < L by omega) rfl]
        simp only [Option.bind_some]
        rw [mk_set (show u + 1 < L by omega) _ rfl]
        simp only [Option.bind_some]
        rw [mk_get (show u < L by omega) rfl]
        simp only [Option.bind_some]
        rw [mk_set (show u < L by omega) _ rfl]
        simp only [Option.bind_some]
        rw [mk_congr fun k _ => mvDn_step (g := g) (by omega) k]
        refine F127_l7_in hd hL hv k4 hi n u (by omega) (by omega) (by omega) fun k hk hki => ?_
        rcases Nat.lt_or_ge u k with q | q
        · exact hl k q hki
        · have : k = u := by omega
          subst this; exact hc
    · have : j = lo := by omega
      subst this
      refine ⟨j, h1, h2, hl, .inl rfl, ?_⟩
      simp only [F127_l7, decide_eq_false (show ¬ (j : Int) > (j : Int) by omega), cond_false, F127_j3, wi]
theorem F127_l5_in (hd : DealOk mm arr) (hL : L ≤ 1000) (hv : ValsP arr L g) (k4 : List Int → Int → Option (List Int)) {lo i : Nat} (hi : i < L) :
    ∀ n j, lo ≤ j → j ≤ i → j - lo < n → (∀ k, j ≤ k → k < i → less mm arr.sum arr (g i) (g k) = true) →
    ∃ e, lo ≤ e ∧ e ≤ i ∧ (∀ k, e ≤ k → k < i → less mm arr.sum arr (g i) (g k) = true) ∧ (e = lo ∨ less mm arr.sum arr (g i) (g (e - 1)) = false) ∧
      F127_l5 f k4 mm arr arr.sum (lo : Int) (i : Int) n (mk L (mvDn g j i)) (j : Int) = k4 (mk L (mvDn g e i)) ((i + 1 : Nat) : Int)
  | 0, j, _, _, hn, _ => by omega
  | n + 1, j, h1, h2, hn, hl => by
    have wi : w64 ((i : Int) + 1) = ((i + 1 : Nat) : Int) := succ_w (by omega)
    rcases Nat.lt_or_ge lo j with hlt | hge
    · obtain ⟨u, rfl⟩ : ∃ u, j = u + 1 := ⟨j - 1, by omega⟩
      have w1 : w64 (((u + 1 : Nat) : Int) - 1) = (u : Int) := by rw [pred_w (by omega) (by omega)]; rfl
      have e1 : mvDn g (u + 1) i (u + 1) = g i := mvDn_at _ _
      have e2 : mvDn g (u + 1) i u = g u := mvDn_pre (e := u + 1) (by omega)
      simp only [F127_l5, decide_eq_true (show ((u + 1 : Nat) : Int) > (lo : Int) by omega), cond_true, w1]
      rw [mk_get (show u + 1 < L by omega) rfl]
      simp only [Option.bind_some]
      rw [mk_get (show u < L by omega) rfl, e1, e2]
      simp only [Option.bind_some]
      rw [cmp_less hd (hv i hi) (hv u (by omega)), dec_less]
      cases hc : less mm arr.sum arr (g i) (g u)
      · simp only [F127_j2, cond_false, wi]
        exact ⟨u + 1, h1, h2, hl, .inr hc, rfl⟩
      · simp only [F127_j2, cond_true, w1]
        rw [mk_get (show u < L by omega) rfl]
        simp only [Option.bind_some]
        rw [mk_get (show u + 1 < L by omega) rfl]
        simp only [Option.bind_some]
        rw [mk_set (show u + 1 < L by omega) _ rfl]
        simp only [Option.bind_some]
        rw [mk_get (show u < L by omega) rfl]
        simp only [Option.bind_some]
        rw [mk_set (show u < L by omega) _ rfl]
        simp only [Option.bind_some]
        rw [mk_congr fun k _ => mvDn_step (g := g) (by omega) k]
        refine F127_l5_in hd hL hv k4 hi n u (by omega) (by omega) (by omega) fun k hk hki => ?_
        rcases Nat.lt_or_ge u k with q | q
        · exact hl k q hki
        · have : k = u := by omega
          subst this; exact hc
    · have : j = lo := by omega
      subst this
      refine ⟨j, h1, h2, hl, .inl rfl, ?_⟩
      simp only [F127_l5, decide_eq_false (show ¬ (j : Int) > (j : Int) by omega), cond_false, F127_j2, wi]
structure SoFar (mm : Int) (arr : List Int) (L : Nat) (g : Nat → Int) (lo i : Nat) : Prop where
  s : SortP mm arr g lo i
  id : ∀ k, i ≤ k → k < L → g k = (k : Int)
  v : ∀ k, lo ≤ k → k < i → (lo : Int) ≤ g k ∧ g k < (i : Int)
theorem SoFar.step {lo i e : Nat} (h : SoFar mm arr L g lo i) (hlo : lo ≤ i) (hi : i < L) (h1 : lo ≤ e) (h2 : e ≤ i) (hl : ∀ k, e ≤ k → k < i → less mm arr.sum arr (g i) (g k) = true) (hend : e = lo ∨ less mm arr.sum arr (g i) (g (e - 1)) = false) :
    SoFar mm arr L (mvDn g e i) lo (i + 1) ∧ ∀ k, k < lo → mvDn g e i k = g k := by
  have hgi := h.id i (Nat.le_refl _) hi
  obtain ⟨a1, a2⟩ := ins_ok h.s (fun k hk hki => by rw [hgi]; exact (h.v k hk hki).2) h1 h2 hl hend
  refine ⟨⟨a1, fun k hk hkL => ?_, fun k hk hki => ?_⟩, fun k hk => a2.1 k (.inl hk)⟩
  · rw [a2.1 k (.inr hk)]; exact h.id k (by omega) hkL
  · obtain ⟨k', b1, b2, b3⟩ := a2.2 k hk hki
    rw [b3]
    rcases Nat.lt_or_ge k' i with q | q
    · have := h.v k' b1 q; omega
    · have : k' = i := by omega
      subst this; rw [hgi]; omega
theorem F127_l6_in (hd : DealOk mm arr) (hL : L ≤ 1000) (hf : 1000 < f) (y21 y15 : List Int) (y22 : Int) (hy : y15.length = L) (hLa : L = arr.length) {lo : Nat} : ∀ n i g, lo ≤ i → L < i + n → ValsP arr L g → SoFar mm arr L g lo i → i ≤ L →
    ∃ g', F127_l6 f mm arr arr.sum y21 y15 y22 (lo : Int) n (mk L g) (i : Int) = F127_l8 f mm arr arr.sum y21 y15 y22 f (mk L g') 20 ∧ SoFar mm arr L g' lo L ∧ ValsP arr L g' ∧ ∀ k, k < lo → g' k = g k
  | 0, i, g, _, hn, _, _, hi => by omega
  | n + 1, i, g, hlo, hn, hv, hs, hi => by
    rcases Nat.lt_or_ge i L with hlt | hge
    · simp only [F127_l6, hy, decide_eq_true (show (i : Int) < (L : Int) by omega), cond_true]
      have e0 : mk L g = mk L (mvDn g i i) := mk_congr fun k _ => by unfold mvDn; by_cases c : k = i; subst c; simp; rw [if_neg c, if_neg (by omega)]
      obtain ⟨e, a1, a2, a3, a4, a5⟩ := F127_l7_in (f := f) hd hL hv (F127_l6 f mm arr arr.sum y21 y15 y22 (lo : Int) n) (lo := lo) (i := i) hlt f i hlo (Nat.le_refl _) (by omega) (fun k h1 h2 => by omega)
      rw [e0, a5]
      obtain ⟨b1, b2⟩ := hs.step hlo hlt a1 a2 a3 a4
      have hv' : ValsP arr L (mvDn g e i) := fun k hk => by
        unfold mvDn
        by_cases c : k = e
        · rw [if_pos c]; exact hv i hlt
        · rw [if_neg c]
          by_cases c2 : e < k ∧ k ≤ i
          · rw [if_pos c2]; exact hv _ (by omega)
          · rw [if_neg c2]; exact hv k hk
      obtain ⟨g', c1, c2, c3, c4⟩ := F127_l6_in hd hL hf y21 y15 y22 hy hLa n (i + 1) (mvDn g e i) (by omega) (by omega) hv' b1 hlt
      exact ⟨g', c1, c2, c3, fun k hk => by rw [c4 k hk, b2 k hk]⟩
    · have : i = L := by omega
      subst this
      refine ⟨g, ?_, hs, hv, fun _ _ => rfl⟩
      simp only [F127_l6, hy, decide_eq_false (show ¬ (i : Int) < (i : Int) by omega), cond_false]
theorem F127_l4_in (hd : DealOk mm arr) (hL : L ≤ 1000) (hf : 1000 < f) (k3 : List Int → Int → Int → Option (List Int)) {lo hi : Nat} (hhi : hi ≤ L) : ∀ n i g, lo ≤ i → hi < i + n → ValsP arr L g → SoFar mm arr L g lo i → i ≤ hi →
    ∃ g', F127_l4 f k3 mm arr arr.sum (lo : Int) (hi : Int) n (mk L g) (i : Int) = k3 (mk L g') (hi : Int) ((hi + 20 : Nat) : Int) ∧ SoFar mm arr L g' lo hi ∧ ValsP arr L g' ∧ ∀ k, k < lo → g' k = g k
  | 0, i, g, _, hn, _, _, hi => by omega
  | n + 1, i, g, hlo, hn, hv, hs, hi2 => by
    rcases Nat.lt_or_ge i hi with hlt | hge
    · simp only [F127_l4, decide_eq_true (show (i : Int) < (hi : Int) by omega), cond_true]
      have e0 : mk L g = mk L (mvDn g i i) := mk_congr fun k _ => by unfold mvDn; by_cases c : k = i; subst c; simp; rw [if_neg c, if_neg (by omega)]
      obtain ⟨e, a1, a2, a3, a4, a5⟩ := F127_l5_in (f := f) hd hL hv (F127_l4 f k3 mm arr arr.sum (lo : Int) (hi : Int) n) (lo := lo) (i := i) (by omega) f i hlo (Nat.le_refl _) (by omega) (fun k h1 h2 => by omega)
      rw [e0, a5]
      obtain ⟨b1, b2⟩ := hs.step hlo (by omega) a1 a2 a3 a4
      have hv' : ValsP arr L (mvDn g e i) := fun k hk => by
        unfold mvDn
        by_cases c : k = e
        · rw [if_pos c]; exact hv i (by omega)
        · rw [if_neg c]
          by_cases c2 : e < k ∧ k ≤ i
          · rw [if_pos c2]; exact hv _ (by omega)
          · rw [if_neg c2]; exact hv k hk
      obtain ⟨g', c1, c2, c3, c4⟩ := F127_l4_in hd hL hf k3 hhi n (i + 1) (mvDn g e i) (by omega) (by omega) hv' b1 hlt
      exact ⟨g', c1, c2, c3, fun k hk => by rw [c4 k hk, b2 k hk]⟩
    · have : i = hi := by omega
      subst this
      have w : w64 ((i : Int) + 20) = ((i + 20 : Nat) : Int) := by rw [wid (by omega) (by omega)]; omega
      refine ⟨g, ?_, hs, hv, fun _ _ => rfl⟩
      simp only [F127_l4, decide_eq_false (show ¬ (i : Int) < (i : Int) by omega), cond_false, w]
theorem soFar_one {lo : Nat} (hid : ∀ k, lo ≤ k → k < L → g k = (k : Int)) (h : lo < L) : SoFar mm arr L g lo (lo + 1) := by
  refine ⟨fun i j h1 h2 h3 => by omega, fun k h1 h2 => hid k (by omega) h2, fun k h1 h2 => ?_⟩
  have : k = lo := by omega
  subst this
  rw [hid k (Nat.le_refl _) h]
  omega
def tailS (f : Nat) (y21 : List Int) (y22 : Int) (D : List Int) : Option (List Int) := (subI D 0 y22).bind fun d5 => F127_l10 d5 f y21 0
theorem sort_any (hd : DealOk mm arr) (hf : 1000 < f) (y21 : List Int) (y22 : Int) : ∃ g', F127_l3 f mm arr arr.sum y21 (places arr.length) y22 f (places arr.length) 0 20 = tailS f y21 y22 (mk arr.length g') ∧ SortP mm arr g' 0 arr.length ∧ ValsP arr arr.length g' := by
  have hlen := hd.len
  obtain ⟨L, hL⟩ : ∃ L, L = arr.length := ⟨_, rfl⟩
  have hL0 : 0 < L := by
    rcases Nat.eq_zero_or_pos L with h | h
    · have : arr = [] := List.eq_nil_of_length_eq_zero (by omega)
      have := hd.s0
      simp_all
    · exact h
  have hpl : (places L).length = L := by simp [places]
  have hmk : places L = mk L fun k => (k : Int) := rfl
  have hv0 : ValsP arr L (fun k : Nat => (k : Int)) := fun k hk => by show 0 ≤ (k : Int) ∧ (k : Int) < _; omega
  rw [← hL]
  obtain ⟨q, rfl⟩ : ∃ q, f = q + 3 := ⟨f - 3, by omega⟩
  have one : w64 ((0 : Int) + 1) = ((0 + 1 : Nat) : Int) := rfl
  have done : ∀ n (X : List Int) (z : Int), decide (z < ((places L).length : Int)) = false → F127_l8 (q + 3) mm arr arr.sum y21 (places L) y22 (n + 1) X z = tailS (q + 3) y21 y22 X := fun n X z h => by
    simp only [F127_l8, h, cond_false]; rfl
  by_cases h20 : L < 20
  · obtain ⟨g', a1, a2, a3, a4⟩ := F127_l6_in (f := q + 3) hd (by omega) hf y21 (places L) y22 hpl hL (lo := 0) (q + 3) 1 _ (by omega) (by omega) hv0 (soFar_one (fun k _ _ => rfl) hL0) (by omega)
    refine ⟨g', ?_, a2.s, a3⟩
    rw [F127_l3]
    simp only [hpl, decide_eq_false (show ¬ ((20 : Int) ≤ (L : Int)) by omega), cond_false, one]
    rw [hmk] at a1 ⊢
    refine a1.trans (done _ _ _ ?_)
    rw [hpl]; exact decide_eq_false (by omega)
  · -- the first twenty
    have hmerge : ∀ g2, SortP mm arr g2 0 20 → SortP mm arr g2 20 L → (∀ k, k < 20 → 0 ≤ g2 k ∧ g2 k < 20) → (∀ k, 20 ≤ k → k < L → (20 : Int) ≤ g2 k) → ValsP arr L g2 → ∃ g', F127_l8 (q + 3) mm arr arr.sum y21 (places L) y22 (q + 3) (mk L g2) 20 = tailS (q + 3) y21 y22 (mk L g') ∧ SortP mm arr g' 0 L ∧ ValsP arr L g' := fun g2 s1 s2 v1 v2 hv2 => by
      by_cases h21 : L = 20
      · refine ⟨g2, done _ _ _ (by rw [hpl]; exact decide_eq_false (by omega)), by rw [h21]; exact s1, hv2⟩
      · obtain ⟨g3, m1, m2, m3⟩ := sym_eq (f := q + 3) hd (L := L) (by omega) hf (q + 3) 0 20 L g2 (by omega) (by omega) (Nat.le_refl _) (by omega) hv2 s1 s2 (fun i j h1 h2 h3 h4 => by have := v1 i h2; have := v2 j h3 h4; omega)
        refine ⟨g3, ?_, m3, m2.vals (Nat.le_refl _) hv2⟩
        have w40 : w64 ((2 : Int) * 20) = 40 := by decide
        have w20 : w64 ((0 : Int) + 20) = 20 := by decide
        have m1' : F156r (q + 3) mm arr arr.sum (q + 3) (mk L g2) 0 20 (L : Int) = some (mk L g3) := m1
        have cL : decide ((20 : Int) < (L : Int)) = true := decide_eq_true (by omega)
        rw [F127_l8, hpl, cL, cond_true, w40, F127_l9, hpl, w20]
        by_cases h40 : L = 40
        · have cL2 : decide ((40 : Int) ≤ (L : Int)) = true := decide_eq_true (by omega)
          have e40 : (L : Int) = 40 := by omega
          rw [e40] at m1'
          have w80 : w64 ((40 : Int) + w64 ((2 : Int) * 20)) = 80 := by decide
          have w60 : w64 ((40 : Int) + 20) = 60 := by decide
          have c1 : decide ((80 : Int) ≤ (L : Int)) = false := decide_eq_false (by omega)
          have c2 : decide ((60 : Int) < (L : Int)) = false := decide_eq_false (by omega)
          have w2 : w64 ((20 : Int) * 2) = 40 := by decide
          rw [cL2, cond_true, m1', Option.bind_some, w80, F127_l9, hpl, c1, cond_false, w60, c2, cond_false]
          unfold F127_j4
          rw [w2]
          exact done _ _ _ (by rw [hpl]; exact decide_eq_false (by omega))
        · have cL2 : decide ((40 : Int) ≤ (L : Int)) = false := decide_eq_false (by omega)
          have w2 : w64 ((20 : Int) * 2) = 40 := by decide
          rw [cL2, cond_false, cL, cond_true, m1', Option.bind_some]
          unfold F127_j4
          rw [w2]
          exact done _ _ _ (by rw [hpl]; exact decide_eq_false (by omega))
    have hst : ∀ k3, ∃ g', F127_l4 (q + 3) k3 mm arr arr.sum 0 20 (q + 3) (mk L fun k => (k : Int)) ((0 + 1 : Nat) : Int) = k3 (mk L g') 20 40 ∧ SoFar mm arr L g' 0 20 ∧ ValsP arr L g' := fun k3 => by
      obtain ⟨g', a1, a2, a3, a4⟩ := F127_l4_in (f := q + 3) hd (by omega) hf k3 (lo := 0) (hi := 20) (by omega) (q + 3) 1 _ (by omega) (by omega) hv0 (soFar_one (fun k _ _ => rfl) hL0) (by omega)
      exact ⟨g', a1, a2, a3⟩
    rw [F127_l3]
    simp only [hpl, decide_eq_true (show (20 : Int) ≤ (L : Int) by omega), cond_true, one]
    rw [hmk]
    obtain ⟨g1, a1, a2, a3⟩ := hst (F127_l3 (q + 3) mm arr arr.sum y21 (places L) y22 (q + 2))
    rw [hmk] at a1
    rw [a1, ← hmk, F127_l3, hpl]
    have tw : w64 ((20 : Int) + 1) = ((20 + 1 : Nat) : Int) := by decide
    by_cases h40 : L = 40
    · have cL2 : decide ((40 : Int) ≤ (L : Int)) = true := decide_eq_true (by omega)
      have e40 : (40 : Int) = (L : Int) := by omega
      rw [cL2, cond_true, tw, e40]
      obtain ⟨g2, b1, b2, b3, b4⟩ := F127_l4_in (f := q + 3) hd (by omega) hf (F127_l3 (q + 3) mm arr arr.sum y21 (places L) y22 (q + 1)) (lo := 20) (hi := L) (Nat.le_refl _) (q + 3) 21 g1 (by omega) (by omega) a3 (soFar_one (fun k h1 h2 => a2.id k h1 h2) (by omega)) (by omega)
      refine Exists.imp (fun g' h => ?_) (hmerge g2 (fun i j h1 h2 h3 => by rw [b4 i (by omega), b4 j h3]; exact a2.s i j h1 h2 h3) b2.s (fun k hk => by rw [b4 k hk]; exact a2.v k (by omega) hk) (fun k h1 h2 => (b2.v k h1 h2).1) b3)
      refine ⟨?_, h.2⟩
      have b1' : F127_l4 (q + 3) (F127_l3 (q + 3) mm arr arr.sum y21 (places L) y22 (q + 1)) mm arr arr.sum 20 (L : Int) (q + 3) (mk L g1) ((20 + 1 : Nat) : Int) = _ := b1
      have c1 : decide (((L + 20 : Nat) : Int) ≤ (L : Int)) = false := decide_eq_false (by omega)
      have f1 : w64 ((L : Int) + 1) = (L : Int) + 1 := wid (by omega) (by omega)
      have c2 : decide ((L : Int) + 1 < (L : Int)) = false := decide_eq_false (by omega)
      rw [b1', F127_l3, hpl, c1, cond_false, f1, F127_l6, hpl, c2, cond_false]
      exact h.1
    · simp only [decide_eq_false (show ¬ ((40 : Int) ≤ (L : Int)) by omega), cond_false, tw]
      by_cases h21 : L = 20
      · refine Exists.imp (fun g' h => ?_) (hmerge g1 a2.s (fun i j h1 h2 h3 => by omega) (fun k hk => a2.v k (by omega) hk) (fun k h1 h2 => by omega) a3)
        refine ⟨?_, h.2⟩
        rw [F127_l6]
        simp only [hpl, decide_eq_false (show ¬ ((20 + 1 : Nat) : Int) < (L : Int) by omega), cond_false]
        exact h.1
      · obtain ⟨g2, b1, b2, b3, b4⟩ := F127_l6_in (f := q + 3) hd (by omega) hf y21 (places L) y22 hpl hL (lo := 20) (q + 3) 21 g1 (by omega) (by omega) a3 (soFar_one (fun k h1 h2 => a2.id k h1 h2) (by omega)) (by omega)
        refine Exists.imp (fun g' h => ?_) (hmerge g2 (fun i j h1 h2 h3 => by rw [b4 i (by omega), b4 j h3]; exact a2.s i j h1 h2 h3) b2.s (fun k hk => by rw [b4 k hk]; exact a2.v k (by omega) hk) (fun k h1 h2 => (b2.v k h1 h2).1) b3)
        exact ⟨Eq.trans b1 h.1, h.2⟩
end
end Go.Proofs.Ytlmgjjmighajdaa
set_option linter.unusedSimpArgs false
set_option linter.unusedVariables false
namespace Go.Proofs.Ytlmgjjmighajdaa
open Go.Sl Go.Sx
theorem baseL_len (m : Int) (a : List Int) : (baseL m a).length = a.length := by simp [baseL]
theorem places_len (n : Nat) : (places n).length = n := by simp [places]
theorem baseL_at {m : Int} {a : List Int} {i : Nat} (h : i < a.length) : (baseL m a)[i]'(by rw [baseL_len]; exact h) = baseS m a i := by
  unfold baseL baseS
  rw [List.getElem_map, getD_mem h]
theorem places_at {n i : Nat} (h : i < n) : (places n)[i]'(by rw [places_len]; exact h) = (i : Int) := by simp [places]
theorem sum_take_bound {m : Int} (hm : 0 ≤ m) : ∀ {l : List Int}, (∀ x ∈ l, 0 ≤ x ∧ x ≤ m) → 0 ≤ l.sum ∧ l.sum ≤ m * l.length
  | [], _ => by simp
  | x :: l, h => by
    have ih := sum_take_bound hm (l := l) fun y hy => h y (List.mem_cons_of_mem _ hy)
    have hx := h x (by simp)
    simp only [List.sum_cons, List.length_cons]
    have e : m * ((l.length + 1 : Nat) : Int) = m * l.length + m := by push_cast; grind
    omega
theorem base_mem {m : Int} {a : List Int} (h : DealOk m a) : ∀ x ∈ baseL m a, 0 ≤ x ∧ x ≤ m := fun x hx => by
  obtain ⟨i, hi, rfl⟩ := List.getElem_of_mem hx
  rw [baseL_len] at hi
  rw [baseL_at hi]
  exact base_bounds h hi
theorem F127_l2_eq {f : Nat} {m : Int} {a : List Int} (h : DealOk m a) : ∀ k i n, i + k = a.length → k < n →
    F127_l2 f m a a.sum n ((baseL m a).take i ++ List.replicate k 0) ((places a.length).take i ++ List.replicate k 0) (m - ((baseL m a).take i).sum) (i : Int) = F127_l3 f m a a.sum (baseL m a) (places a.length) (leftS m a) f (places a.length) 0 20
  | _, _, 0, _, hn => by omega
  | 0, i, n + 1, hi, _ => by
    have hlt : decide ((i : Int) < (a.length : Int)) = false := by simpa using (show (a.length : Int) ≤ i by omega)
    simp only [F127_l2, hlt, cond_false, List.replicate_zero, List.append_nil]
    rw [List.take_of_length_le (by rw [baseL_len]; omega), List.take_of_length_le (by rw [places_len]; omega)]
    rfl
  | k + 1, i, n + 1, hi, hn => by
    have hia : i < a.length := by omega
    have hb := base_bounds h hia
    have hp := prod_bounds h hia
    have hlen := h.len
    have hs : a.sum ≠ 0 := by have := h.s0; omega
    have hm1 := h.m1
    have hm0 := h.m0
    have l1 : ((baseL m a).take i).length = i := by rw [List.length_take, baseL_len]; omega
    have l2 : ((places a.length).take i).length = i := by rw [List.length_take, places_len]; omega
    have eb : w64 (Int.tdiv (w64 (m * a[i])) a.sum) = baseS m a i := by
      have e3 : w64 (m * a[i]) = m * a[i] := w64_id (by omega) (by omega)
      rw [e3, Int.tdiv_eq_ediv_of_nonneg hp.1]
      have e2 : m * a[i] / a.sum = baseS m a i := by unfold baseS; rw [getD_mem hia]
      rw [e2, w64_id (by omega) (by omega)]
    have hsum := sum_take_bound h.m0 (l := (baseL m a).take i) fun x hx => base_mem h x (List.mem_of_mem_take hx)
    rw [l1] at hsum
    have hmi : m * (i : Int) ≤ 100000000 * 41 := Int.mul_le_mul hm1 (by omega) (by omega) (by omega)
    have s1 : setI ((baseL m a).take i ++ 0 :: List.replicate k 0) (i : Int) (baseS m a i) = some ((baseL m a).take i ++ baseS m a i :: List.replicate k 0) := setI_mid (by rw [l1])
    have s2 : setI ((places a.length).take i ++ 0 :: List.replicate k 0) (i : Int) (i : Int) = some ((places a.length).take i ++ (i : Int) :: List.replicate k 0) := setI_mid (by rw [l2])
    have g1 : getI ((baseL m a).take i ++ 0 :: List.replicate k 0) (i : Int) = some 0 := getI_mid (by rw [l1])
    have g2 : getI ((places a.length).take i ++ 0 :: List.replicate k 0) (i : Int) = some 0 := getI_mid (by rw [l2])
    have g3 : getI ((baseL m a).take i ++ baseS m a i :: List.replicate k 0) (i : Int) = some (baseS m a i) := getI_mid (by rw [l1])
    have t1 : (baseL m a).take (i + 1) = (baseL m a).take i ++ [baseS m a i] := by
      rw [List.take_succ_eq_append_getElem (by rw [baseL_len]; exact hia), baseL_at hia]
    have t2 : (places a.length).take (i + 1) = (places a.length).take i ++ [(i : Int)] := by
      rw [List.take_succ_eq_append_getElem (by rw [places_len]; exact hia), places_at hia]
    simp only [F127_l2, lt_len, hia, decide_true, cond_true, getI_nat hia, Option.bind_some, nzS hs, List.replicate_succ, g1, eb, s1, g2, s2, g3]
    have ih := F127_l2_eq (f := f) h k (i + 1) n (by omega) (by omega)
    rw [t1, t2, sum_app] at ih
    simp only [List.append_assoc, List.singleton_append, List.sum_cons, List.sum_nil, Int.add_zero] at ih
    rw [succ_w (by omega), w64_id (by omega) (by omega)]
    have e : m - ((baseL m a).take i).sum - baseS m a i = m - (((baseL m a).take i).sum + baseS m a i) := by omega
    rw [e]
    exact ih
def outS (m : Int) (a D : List Int) : List Int := (List.range a.length).map fun i : Nat => baseS m a i + (if (i : Int) ∈ D then 1 else 0)
theorem outS_len (m : Int) (a D : List Int) : (outS m a D).length = a.length := by simp [outS]
theorem outS_at {m : Int} {a D : List Int} {i : Nat} (h : i < a.length) : (outS m a D)[i]'(by rw [outS_len]; exact h) = baseS m a i + (if (i : Int) ∈ D then 1 else 0) := by simp [outS]
theorem outS_nil (m : Int) (a : List Int) : outS m a [] = baseL m a := by
  refine List.ext_getElem (by rw [outS_len, baseL_len]) fun i h1 h2 => ?_
  rw [outS_len] at h1
  rw [outS_at h1, baseL_at h1]
  simp
theorem outS_set {m : Int} {a D : List Int} {p : Int} (hp : p ∈ places a.length) (hD : p ∉ D) : getI (outS m a D) p = some (baseS m a p.toNat) ∧ setI (outS m a D) p (baseS m a p.toNat + 1) = some (outS m a (D ++ [p])) := by
  have hb := mem_places.1 hp
  have hi : p.toNat < a.length := by omega
  have hpn : ((p.toNat : Nat) : Int) = p := Int.toNat_of_nonneg hb.1
  constructor
  · have := getI_nat (xs := outS m a D) (i := p.toNat) (by rw [outS_len]; exact hi)
    rw [hpn] at this
    rw [this, outS_at hi, hpn, if_neg hD, Int.add_zero]
  · unfold setI
    rw [if_pos ⟨hb.1, by rw [outS_len]; exact hb.2⟩]
    congr 1
    refine List.ext_getElem (by simp [outS]) fun i h1 h2 => ?_
    rw [outS_len] at h2
    rw [outS_at h2]
    by_cases e : p.toNat = i
    · subst e
      rw [List.getElem_set_self, hpn]
      simp
    · rw [List.getElem_set_ne e, outS_at h2]
      have : (i : Int) ≠ p := fun k => e (by omega)
      simp [this]
theorem F127_l10_eq {m : Int} {a d5 : List Int} (h : DealOk m a) (hd : ∀ x ∈ d5, x ∈ places a.length) (hn : d5.Nodup) (hl : d5.length ≤ 40) : ∀ n j, j ≤ d5.length → d5.length - j < n → F127_l10 d5 n (outS m a (d5.take j)) (j : Int) = some (outS m a d5)
  | 0, j, _, hn => by omega
  | n + 1, j, hj, hn' => by
    rcases Nat.lt_or_ge j d5.length with hlt | hge
    · have hp := hd _ (List.getElem_mem hlt)
      have hnot : d5[j] ∉ d5.take j := fun hm => by
        obtain ⟨i, hi, e⟩ := List.getElem_of_mem hm
        rw [List.getElem_take] at e
        rw [List.length_take] at hi
        have := (List.getElem_inj hn).1 e
        omega
      obtain ⟨g, st⟩ := outS_set (m := m) (D := d5.take j) hp hnot
      have hb := mem_places.1 hp
      have hbb := base_bounds h (i := d5[j].toNat) (by omega)
      have hm1 := h.m1
      simp only [F127_l10, lt_len, hlt, decide_true, cond_true, getI_nat hlt, Option.bind_some, g]
      rw [w64_id (n := baseS m a d5[j].toNat + 1) (by omega) (by omega), st]
      simp only [Option.bind_some]
      rw [succ_w (by omega), ← List.take_succ_eq_append_getElem hlt]
      exact F127_l10_eq h hd hn hl n (j + 1) (by omega) (by omega)
    · have : j = d5.length := by omega
      subst this
      simp [F127_l10]
theorem orderS_len (m s : Int) (a : List Int) : (orderS m s a).length = a.length := by rw [(orderS_perm m s a).length_eq, places_len]
theorem outS_deal {m : Int} {a D : List Int} (hs : D.Pairwise (ahead m a.sum a)) (hp : D.Perm (places a.length)) : outS m a (D.take (leftS m a).toNat) = dealS m a := by
  refine List.ext_getElem (by simp [outS, dealS]) fun i h1 h2 => ?_
  rw [outS_len] at h1
  have e2 : (dealS m a)[i] = baseS m a i + (if rank m a.sum a (i : Int) < (leftS m a).toNat then 1 else 0) := by simp [dealS]
  rw [outS_at h1, e2]
  congr 1
  have hpl : (i : Int) ∈ places a.length := mem_places.2 ⟨by omega, by omega⟩
  have : (i : Int) ∈ D.take (leftS m a).toNat ↔ rank m a.sum a (i : Int) < (leftS m a).toNat := by
    rw [take_iff (ahead_irr m a.sum a) (ahead_asy m a.sum a) hs (hp.mem_iff.2 hpl), hp.countP_eq]
    rfl
  by_cases hr : rank m a.sum a (i : Int) < (leftS m a).toNat
  · rw [if_pos (this.2 hr), if_pos hr]
  · rw [if_neg fun k => hr (this.1 k), if_neg hr]
theorem perm_of : ∀ {l m : List Int}, l.Nodup → (∀ x ∈ l, x ∈ m) → m.length ≤ l.length → l.Perm m
  | [], m, _, _, h => by have : m = [] := List.eq_nil_of_length_eq_zero (by simpa using h); rw [this]
  | x :: l, m, hn, hs, hl => by
    have hn' := List.nodup_cons.1 hn
    have hx : x ∈ m := hs x (by simp)
    have h1 := List.perm_cons_erase hx
    have h2 := List.length_erase_of_mem hx
    have hpos := List.length_pos_of_mem hx
    simp only [List.length_cons] at hl
    refine ((perm_of (l := l) (m := m.erase x) hn'.2 (fun y hy => ?_) (by omega)).cons x).trans h1.symm
    have : y ≠ x := fun e => hn'.1 (e ▸ hy)
    exact (List.mem_erase_of_ne this).2 (hs y (by simp [hy]))
theorem F127_l1_eq {f : Nat} {m : Int} {a : List Int} (hnn : ∀ x ∈ a, 0 ≤ x) (hs : a.sum ≤ 100000000) (hl : a.length ≤ 40) : ∀ n i, i ≤ a.length → a.length - i < n → F127_l1 f m a n (a.take i).sum (i : Int) = F127_j1 f m a a.sum (List.replicate a.length 0)
  | 0, i, _, hn => by omega
  | n + 1, i, hi, hn => by
    rcases Nat.lt_or_ge i a.length with hlt | hge
    · have e : (a.take (i + 1)).sum = (a.take i).sum + a[i] := by rw [List.take_succ_eq_append_getElem hlt, sum_app]; simp
      have b1 := sum_nonneg (a := a.take (i + 1)) fun x hx => hnn x (List.mem_of_mem_take hx)
      have b2 : a.sum = (a.take (i + 1)).sum + (a.drop (i + 1)).sum := by rw [← sum_app, List.take_append_drop]
      have b3 := sum_nonneg (a := a.drop (i + 1)) fun x hx => hnn x (List.mem_of_mem_drop hx)
      simp only [F127_l1, lt_len, hlt, decide_true, cond_true, getI_nat hlt, Option.bind_some]
      rw [succ_w (by omega), ← e, w64_id (by omega) (by omega)]
      exact F127_l1_eq hnn hs hl n (i + 1) (by omega) (by omega)
    · have : i = a.length := by omega
      subst this
      have hmk : mkC (a.length : Int) (0 : Int) = some (List.replicate a.length 0) := by unfold mkC; rw [if_pos (by omega)]; simp
      simp [F127_l1, hmk]
theorem F127_eq {f : Nat} {m : Int} {a : List Int} (h : DealOk m a) (hf : 1000 < f) : F127 f m a = some (dealS m a) := by
  have hlen := h.len
  unfold F127
  have e1 := F127_l1_eq (f := f) (m := m) h.nn h.s1 h.len f 0 (by omega) (by omega)
  simp only [List.take_zero, List.sum_nil] at e1
  have e0 : ((0 : Nat) : Int) = 0 := rfl
  rw [e0] at e1
  rw [e1]
  unfold F127_j1
  have hs : (a.sum == 0) = false := by simpa using (show ¬ a.sum = 0 by have := h.s0; omega)
  rw [hs, cond_false]
  have e2 := F127_l2_eq (f := f) h a.length 0 f (by omega) (by omega)
  simp only [List.take_zero, List.sum_nil, List.nil_append, Int.sub_zero] at e2
  rw [e0] at e2
  obtain ⟨g, es, s1, s2⟩ := sort_any (f := f) h hf (baseL m a) (leftS m a)
  rw [e2, es]
  obtain ⟨D, hD⟩ : ∃ D, D = mk a.length g := ⟨_, rfl⟩
  rw [← hD]
  have hDl : D.length = a.length := by rw [hD, mk_len]
  have hDs : D.Pairwise (ahead m a.sum a) := by
    rw [List.pairwise_iff_getElem]
    intro i j hi hj hij
    have gi : D[i] = g i := by simp [hD, mk]
    have gj : D[j] = g j := by simp [hD, mk]
    rw [gi, gj]
    exact s1 i j (by omega) hij (by omega)
  have hnod : D.Nodup := by
    unfold List.Nodup
    refine hDs.imp ?_
    intro x y k e
    subst e
    exact ahead_irr _ _ _ _ k
  have hperm : D.Perm (places a.length) := perm_of hnod (fun x hx => by
    obtain ⟨i, hi, rfl⟩ := List.getElem_of_mem hx
    have gi : D[i] = g i := by simp [hD, mk]
    rw [gi]
    exact mem_places.2 (s2 i (by omega))) (by rw [places_len, hDl]; exact Nat.le_refl _)
  obtain ⟨hb0, hb1, _⟩ := left_bounds h
  unfold tailS
  have hsub : subI D 0 (leftS m a) = some (D.take (leftS m a).toNat) := by
    unfold subI
    rw [if_pos ⟨by omega, hb0, by rw [hDl]; exact hb1⟩]
    simp
  rw [hsub]
  simp only [Option.bind_some]
  have e3 := F127_l10_eq h (d5 := D.take (leftS m a).toNat) (fun x hx => hperm.mem_iff.1 (List.mem_of_mem_take hx)) (hnod.sublist (List.take_sublist _ _)) (by rw [List.length_take, hDl]; omega) f 0 (by omega) (by rw [List.length_take, hDl]; omega)
  rw [List.take_zero, outS_nil] at e3
  rw [e0] at e3
  rw [e3, outS_deal hDs hperm]
end Go.Proofs.Ytlmgjjmighajdaa
set_option linter.unusedSimpArgs false
set_option linter.unusedVariables false
namespace Go.Proofs.Ytlmgjjmighajdaa
open Go.Sl Go.Sx
def takenL : List Part → List Int → List Part
  | p :: h, n :: d => (if n > 0 then [⟨p.lot, n⟩] else []) ++ takenL h d
  | _, _ => []
def leftL : List Part → List Int → List Part
  | p :: h, n :: d => (if n < p.mass then [⟨p.lot, p.mass - n⟩] else []) ++ leftL h d
  | _, _ => []
def massesL (h : List Part) : List Int := h.map (·.mass)
def dealH (m : Int) (h : List Part) : List Int := if h = [] then [] else dealS m (massesL h)
theorem dealS_len (m : Int) (a : List Int) : (dealS m a).length = a.length := by simp [dealS]
theorem dealH_len (m : Int) (h : List Part) : (dealH m h).length = h.length := by
  unfold dealH
  split
  · rename_i e; rw [e]; rfl
  · rw [dealS_len]; simp [massesL]
theorem sum_masses (h : List Part) : (massesL h).sum = sumM h := rfl
theorem heap_pos {h : List Part} (hk : HeapOk h) (hne : h ≠ []) : 0 < sumM h := by
  cases h with
  | nil => exact absurd rfl hne
  | cons p h =>
    have hp := (hk.2.1 p (by simp)).m0
    have := (sumM_bound (l := h) fun q hq => hk.2.1 q (List.mem_cons_of_mem _ hq)).1
    simp only [sumM, List.map_cons, List.sum_cons] at this ⊢
    omega
theorem dealOk_heap {h : List Part} {m : Int} (hk : HeapOk h) (hne : h ≠ []) (hm0 : 0 ≤ m) (hm : m ≤ sumM h) (hl : h.length ≤ 40) : DealOk m (massesL h) where
  nn x hx := by obtain ⟨p, hp, rfl⟩ := List.mem_map.1 hx; have := (hk.2.1 p hp).m0; omega
  s0 := by rw [sum_masses]; exact heap_pos hk hne
  s1 := by rw [sum_masses]; exact hk.2.2.2
  m0 := hm0
  m1 := by have := hk.2.2.2; omega
  len := by simpa [massesL] using hl
theorem F127_nil (f : Nat) (hf : 0 < f) (m : Int) : F127 f m [] = some [] := by
  obtain ⟨n, rfl⟩ : ∃ n, f = n + 1 := ⟨f - 1, by omega⟩
  simp [F127, F127_l1, F127_j1, mkC]
theorem F127_heap {f : Nat} {h : List Part} {m : Int} (hk : HeapOk h) (hm0 : 0 ≤ m) (hm : m ≤ sumM h) (hl : h.length ≤ 40) (hf : 1000 < f) : F127 f m (massesL h) = some (dealH m h) := by
  unfold dealH
  split
  · rename_i e; subst e; exact F127_nil f (by omega) m
  · rename_i e; exact F127_eq (dealOk_heap hk e hm0 hm hl) hf
theorem deal_bounds {a : List Int} {m : Int} (h : DealOk m a) {i : Nat} (hi : i < a.length) : 0 ≤ (dealS m a)[i]'(by rw [dealS_len]; exact hi) ∧ (dealS m a)[i]'(by rw [dealS_len]; exact hi) ≤ 100000001 := by
  have hb := base_bounds h hi
  have hm := h.m1
  have e : (dealS m a)[i]'(by rw [dealS_len]; exact hi) = baseS m a i + (if rank m a.sum a (i : Int) < (leftS m a).toNat then 1 else 0) := by simp [dealS]
  rw [e]
  split <;> omega
theorem dealH_bounds {h : List Part} {m : Int} (hk : HeapOk h) (hm0 : 0 ≤ m) (hm : m ≤ sumM h) (hl : h.length ≤ 40) : ∀ x ∈ dealH m h, 0 ≤ x ∧ x ≤ 100000001 := fun x hx => by
  unfold dealH at hx
  split at hx
  · cases hx
  · rename_i e
    obtain ⟨i, hi, rfl⟩ := List.getElem_of_mem hx
    rw [dealS_len] at hi
    exact deal_bounds (dealOk_heap hk e hm0 hm hl) hi
theorem F91_l2_eq {h : List Part} {d : List Int} (hd : d.length = h.length) (hl : h.length ≤ 40) (hk : ∀ p ∈ h, PartOk p) (hb : ∀ x ∈ d, 0 ≤ x ∧ x ≤ 100000001) : ∀ n i (tk lf : List Part), i ≤ h.length → h.length - i < n → tk.length + (h.length - i) ≤ 40 → lf.length + (h.length - i) ≤ 40 →
    F91_l2 h d n tk lf (i : Int) = some (tk ++ takenL (h.drop i) (d.drop i), lf ++ leftL (h.drop i) (d.drop i))
  | 0, i, _, _, _, hn, _, _ => by omega
  | n + 1, i, tk, lf, hi, hn, h1, h2 => by
    rcases Nat.lt_or_ge i h.length with hlt | hge
    · have hid : i < d.length := by omega
      have app : ∀ (l : List Part) (x : Part), l.length ≤ 60 → appC l [x] = some (l ++ [x]) := fun l x hl => by unfold appC; rw [if_pos (by simp only [List.length_cons, List.length_nil]; omega)]
      have hp := hk _ (List.getElem_mem hlt)
      have hx := hb _ (List.getElem_mem hid)
      have e1 : h.drop i = h[i] :: h.drop (i + 1) := drop_cons hlt
      have e2 : d.drop i = d[i] :: d.drop (i + 1) := drop_cons hid
      have := hp.m0; have := hp.m1
      have hw : w64 (h[i].mass - d[i]) = h[i].mass - d[i] := w64_id (by omega) (by omega)
      have lt2 : decide ((i : Int) < (d.length : Int)) = true := by simpa using (show (i : Int) < d.length by omega)
      simp only [F91_l2, F91_j1, F91_j2, lt2, cond_true, getI_nat hlt, getI_nat hid, Option.bind_some, hw, succ_w (i := i) (by omega)]
      rw [e1, e2]
      simp only [takenL, leftL]
      by_cases c1 : d[i] > 0 <;> by_cases c2 : d[i] < h[i].mass
      · simp only [c1, c2, decide_true, cond_true, app tk _ (by omega), app lf _ (by omega), Option.bind_some, if_true]
        rw [F91_l2_eq hd hl hk hb n (i + 1) _ _ (by omega) (by omega) (by simp only [List.length_append, List.length_cons, List.length_nil]; omega) (by simp only [List.length_append, List.length_cons, List.length_nil]; omega)]
        simp only [List.append_assoc]
      · simp only [c1, c2, decide_true, decide_false, cond_true, cond_false, app tk _ (by omega), Option.bind_some, if_true, if_false]
        rw [F91_l2_eq hd hl hk hb n (i + 1) _ _ (by omega) (by omega) (by simp only [List.length_append, List.length_cons, List.length_nil]; omega) (by omega)]
        simp only [List.append_assoc, List.nil_append]
      · simp only [c1, c2, decide_true, decide_false, cond_true, cond_false, app lf _ (by omega), Option.bind_some, if_true, if_false]
        rw [F91_l2_eq hd hl hk hb n (i + 1) _ _ (by omega) (by omega) (by omega) (by simp only [List.length_append, List.length_cons, List.length_nil]; omega)]
        simp only [List.append_assoc, List.nil_append]
      · simp only [c1, c2, decide_false, cond_false, if_false]
        rw [F91_l2_eq hd hl hk hb n (i + 1) _ _ (by omega) (by omega) (by omega) (by omega)]
        simp only [List.nil_append]
    · have : i = h.length := by omega
      subst this
      have lt2 : decide ((h.length : Int) < (d.length : Int)) = false := by simp [hd]
      simp only [F91_l2, lt2, cond_false, List.drop_length]
      simp [takenL, leftL]
theorem F91_l1_eq {f : Nat} {h : List Part} (m : Int) (hl : h.length ≤ 40) : ∀ n i, i ≤ h.length → h.length - i < n → F91_l1 f h m n (massesL (h.take i)) (i : Int) = ((F127 f m (massesL h)).bind fun r => F91_l2 h r f [] [] 0)
  | 0, i, _, hn => by omega
  | n + 1, i, hi, hn => by
    rcases Nat.lt_or_ge i h.length with hlt | hge
    · have app : appC (massesL (h.take i)) [h[i].mass] = some (massesL (h.take (i + 1))) := by
        unfold appC
        rw [if_pos (by simp [massesL]; omega), List.take_succ_eq_append_getElem hlt]
        unfold massesL
        rw [List.map_append]; rfl
      simp only [F91_l1, lt_len, hlt, decide_true, cond_true, getI_nat hlt, Option.bind_some, app, succ_w (i := i) (by omega)]
      exact F91_l1_eq m hl n (i + 1) (by omega) (by omega)
    · have : i = h.length := by omega
      subst this
      simp [F91_l1]
theorem F91_eq {f : Nat} {h : List Part} {m : Int} (hk : HeapOk h) (hm0 : 0 ≤ m) (hm : m ≤ sumM h) (hl : h.length ≤ 40) (hf : 1000 < f) : F91 f h m = some (takenL h (dealH m h), leftL h (dealH m h)) := by
  unfold F91
  have e1 := F91_l1_eq (f := f) (h := h) m (by omega) f 0 (by omega) (by omega)
  have e0 : ((0 : Nat) : Int) = 0 := rfl
  rw [e0] at e1
  have e2 : massesL (h.take 0) = [] := rfl
  rw [e2] at e1
  rw [e1, F127_heap hk hm0 hm hl hf]
  simp only [Option.bind_some]
  have e3 := F91_l2_eq (dealH_len m h) hl hk.2.1 (dealH_bounds hk hm0 hm hl) f 0 [] [] (by omega) (by omega) (by simp; omega) (by simp; omega)
  rw [e0] at e3
  rw [e3]
  simp
end Go.Proofs.Ytlmgjjmighajdaa
set_option linter.unusedSimpArgs false
set_option linter.unusedVariables false
namespace Go.Proofs.Ytlmgjjmighajdaa
open Go.Sl Go.Sx
theorem rank_at (m s : Int) (a : List Int) {p : Nat} (hp : p < (orderS m s a).length) : rank m s a (orderS m s a)[p] = p := by
  have hm : (orderS m s a)[p] ∈ places a.length := (orderS_perm m s a).mem_iff.1 (List.getElem_mem hp)
  have key : ∀ k, rank m s a (orderS m s a)[p] < k ↔ p < k := fun k => by
    rw [← first_iff m s a hm k]
    constructor
    · intro h
      obtain ⟨q, hq, e⟩ := List.getElem_of_mem h
      rw [List.length_take] at hq
      rw [List.getElem_take] at e
      rcases Nat.lt_trichotomy q p with h1 | h1 | h1
      · have := pairs_at (orderS_sorted m s a) (by omega) hp h1
        rw [e] at this; exact absurd this (ahead_irr _ _ _ _)
      · omega
      · have := pairs_at (orderS_sorted m s a) hp (by omega) h1
        rw [e] at this; exact absurd this (ahead_irr _ _ _ _)
    · intro h
      rw [List.mem_take_iff_getElem]
      exact ⟨p, by omega, rfl⟩
  have h1 := (key p).1
  have h2 := (key (p + 1)).2 (by omega)
  rcases Nat.lt_or_ge (rank m s a (orderS m s a)[p]) p with h | h
  · exact absurd (h1 h) (by omega)
  · omega
theorem rank_pos (m s : Int) (a : List Int) {i : Nat} (hi : i < a.length) : ∃ h : rank m s a (i : Int) < (orderS m s a).length, (orderS m s a)[rank m s a (i : Int)] = (i : Int) := by
  have hm : (i : Int) ∈ orderS m s a := (orderS_perm m s a).mem_iff.2 (mem_places.2 (by omega))
  obtain ⟨p, hp, e⟩ := List.getElem_of_mem hm
  have := rank_at m s a hp
  rw [e] at this
  subst this
  exact ⟨hp, e⟩
theorem rank_lt {m s : Int} {a : List Int} {i j : Nat} (hi : i < a.length) (hj : j < a.length) (h : ahead m s a (i : Int) (j : Int)) : rank m s a (i : Int) < rank m s a (j : Int) := by
  obtain ⟨h1, e1⟩ := rank_pos m s a hi
  obtain ⟨h2, e2⟩ := rank_pos m s a hj
  rcases Nat.lt_trichotomy (rank m s a (i : Int)) (rank m s a (j : Int)) with k | k | k
  · exact k
  · have : (i : Int) = j := by
      rw [← e1, ← e2]
      simp only [k]
    rw [this] at h
    exact absurd h (ahead_irr _ _ _ _)
  · have := pairs_at (orderS_sorted m s a) h2 h1 k
    rw [e1, e2] at this
    exact absurd h (ahead_asy _ _ _ _ _ this)
theorem ahead_tot {m s : Int} {a : List Int} {i j : Int} (h : i ≠ j) : ahead m s a i j ∨ ahead m s a j i := by unfold ahead; omega
theorem rank_inj {m s : Int} {a : List Int} {i j : Nat} (hi : i < a.length) (hj : j < a.length) (h : rank m s a (i : Int) = rank m s a (j : Int)) : i = j := by
  by_cases e : (i : Int) = j
  · omega
  · rcases ahead_tot (m := m) (s := s) (a := a) e with k | k
    · have := rank_lt hi hj k; omega
    · have := rank_lt hj hi k; omega
def givenS (m s : Int) (a : List Int) (t : Nat) : List Bool := (List.range a.length).map fun i : Nat => decide (rank m s a (i : Int) < t)
def outT (m : Int) (a : List Int) (t : Nat) : List Int := (List.range a.length).map fun i => baseS m a i + (if rank m a.sum a (i : Int) < t then 1 else 0)
theorem given_at {m s : Int} {a : List Int} {t i : Nat} (hi : i < a.length) : getI (givenS m s a t) (i : Int) = some (decide (rank m s a (i : Int) < t)) := by
  rw [getI_nat (by simp [givenS, hi])]; simp [givenS]
theorem out_at {m : Int} {a : List Int} {t i : Nat} (hi : i < a.length) : getI (outT m a t) (i : Int) = some (baseS m a i + (if rank m a.sum a (i : Int) < t then 1 else 0)) := by
  rw [getI_nat (by simp [outT, hi])]; simp [outT]
theorem given_next {m s : Int} {a : List Int} {t b : Nat} (hb : b < a.length) (hr : rank m s a (b : Int) = t) : setI (givenS m s a t) (b : Int) true = some (givenS m s a (t + 1)) := by
  unfold setI
  rw [if_pos (by simp [givenS]; omega)]
  congr 1
  refine List.ext_getElem (by simp [givenS]) fun i h1 h2 => ?_
  have hi : i < a.length := by simpa [givenS] using h2
  rw [List.getElem_set]
  simp only [givenS, List.getElem_map, List.getElem_range, Int.toNat_natCast]
  by_cases e : b = i
  · subst e; simp [hr]
  · rw [if_neg e]
    have : rank m s a (i : Int) ≠ t := fun k => e (rank_inj hb hi (hr.trans k.symm))
    by_cases k : rank m s a (i : Int) < t
    · have : rank m s a (i : Int) < t + 1 := by omega
      simp [k, this]
    · have : ¬ rank m s a (i : Int) < t + 1 := by omega
      simp [k, this]
theorem out_next {m : Int} {a : List Int} {t b : Nat} (hb : b < a.length) (hr : rank m a.sum a (b : Int) = t) : setI (outT m a t) (b : Int) (baseS m a b + 1) = some (outT m a (t + 1)) := by
  unfold setI
  rw [if_pos (by simp [outT]; omega)]
  congr 1
  refine List.ext_getElem (by simp [outT]) fun i h1 h2 => ?_
  have hi : i < a.length := by simpa [outT] using h2
  rw [List.getElem_set]
  simp only [outT, List.getElem_map, List.getElem_range, Int.toNat_natCast]
  by_cases e : b = i
  · subst e; simp [hr]
  · rw [if_neg e]
    have : rank m a.sum a (i : Int) ≠ t := fun k => e (rank_inj hb hi (hr.trans k.symm))
    by_cases k : rank m a.sum a (i : Int) < t
    · have : rank m a.sum a (i : Int) < t + 1 := by omega
      simp [k, this]
    · have : ¬ rank m a.sum a (i : Int) < t + 1 := by omega
      simp [k, this]
def best (m : Int) (a : List Int) (t j : Nat) (y : Int) : Prop := (y = -1 ∧ ∀ i, i < j → rank m a.sum a (i : Int) < t) ∨
  (∃ b : Nat, y = (b : Int) ∧ b < j ∧ t ≤ rank m a.sum a (b : Int) ∧ ∀ i : Nat, i < j → t ≤ rank m a.sum a (i : Int) → i ≠ b → ahead m a.sum a (b : Int) (i : Int))
theorem F126_l4_eq {m : Int} {a : List Int} (h : DealOk m a) {t : Nat} (ht : t < a.length) (k2 : List Bool → List Int → Int → Option (List Int)) (y8 : Int) : ∀ n j y, j ≤ a.length → a.length - j < n → best m a t j y →
    F126_l4 k2 m a a.sum (givenS m a.sum a t) (outT m a t) y8 n y (j : Int) = k2 (givenS m a.sum a (t + 1)) (outT m a (t + 1)) (w64 (y8 - 1))
  | 0, j, y, _, hn, _ => by omega
  | n + 1, j, y, hj, hn, hb => by
    have hlen := h.len
    have hs0 := h.s0
    rcases Nat.lt_or_ge j a.length with hlt | hge
    · simp only [F126_l4, lt_len, hlt, decide_true, cond_true, given_at hlt, Option.bind_some]
      by_cases hg : rank m a.sum a (j : Int) < t
      · simp only [hg, decide_true, Bool.not_true, cond_false, F126_j2, F126_j1]
        rw [succ_w (by omega)]
        refine F126_l4_eq h ht k2 y8 n (j + 1) y hlt (by omega) ?_
        rcases hb with ⟨e, k⟩ | ⟨b, e, hbj, hbt, k⟩
        · exact .inl ⟨e, fun i hi => by
            rcases Nat.lt_or_ge i j with h1 | h1
            · exact k i h1
            · have : i = j := by omega
              subst this; exact hg⟩
        · exact .inr ⟨b, e, by omega, hbt, fun i hi hit hib => by
            rcases Nat.lt_or_ge i j with h1 | h1
            · exact k i h1 hit hib
            · have : i = j := by omega
              subst this; omega⟩
      · simp only [hg, decide_false, Bool.not_false, cond_true]
        rcases hb with ⟨e, k⟩ | ⟨b, e, hbj, hbt, k⟩
        · subst e
          simp only [show decide ((-1 : Int) < 0) = true from rfl, cond_true, F126_j2, F126_j1]
          rw [succ_w (by omega)]
          refine F126_l4_eq h ht k2 y8 n (j + 1) _ hlt (by omega) (.inr ⟨j, rfl, by omega, by omega, fun i hi hit hij => ?_⟩)
          have := k i (by omega)
          omega
        · subst e
          have h0 : decide ((b : Int) < 0) = false := by simp
          have hbl : b < a.length := by omega
          simp only [h0, cond_false, getI_nat hlt, getI_nat hbl, Option.bind_some, nzS (show a.sum ≠ 0 by omega), tmod_eq h hlt, tmod_eq h hbl]
          by_cases hc : rem_ m a.sum a (j : Int) > rem_ m a.sum a (b : Int)
          · simp only [hc, decide_true, F126_j2, cond_true, F126_j1]
            rw [succ_w (by omega)]
            refine F126_l4_eq h ht k2 y8 n (j + 1) _ hlt (by omega) (.inr ⟨j, rfl, by omega, by omega, fun i hi hit hij => ?_⟩)
            have hjb : ahead m a.sum a (j : Int) (b : Int) := .inl hc
            by_cases e : i = b
            · subst e; exact hjb
            · exact ahead_tr _ _ _ _ _ _ hjb (k i (by omega) hit e)
          · simp only [hc, decide_false, F126_j2, cond_false, F126_j1]
            rw [succ_w (by omega)]
            refine F126_l4_eq h ht k2 y8 n (j + 1) _ hlt (by omega) (.inr ⟨b, rfl, by omega, hbt, fun i hi hit hib => ?_⟩)
            rcases Nat.lt_or_ge i j with h1 | h1
            · exact k i h1 hit hib
            · have : i = j := by omega
              subst this
              unfold ahead
              omega
    · have hj' : j = a.length := by omega
      subst hj'
      have hto : t < (orderS m a.sum a).length := by rw [orderS_len]; exact ht
      have hom := (orderS_perm m a.sum a).mem_iff.1 (List.getElem_mem hto)
      obtain ⟨o0, o1⟩ := mem_places.1 hom
      have hro := rank_at m a.sum a hto
      generalize hoe : (orderS m a.sum a)[t] = o at *
      obtain ⟨o', rfl⟩ : ∃ k : Nat, o = (k : Int) := ⟨o.toNat, by omega⟩
      have ho : o' < a.length := by omega
      rcases hb with ⟨e, k⟩ | ⟨b, e, hbj, hbt, k⟩
      · have := k o' ho; omega
      · subst e
        have hbr : rank m a.sum a (b : Int) = t := by
          by_cases e : o' = b
          · subst e; exact hro
          · have := rank_lt hbj ho (k o' ho (by omega) e)
            omega
        have hbase := base_bounds h hbj
        have hm1 := h.m1
        simp only [F126_l4, lt_len, Nat.lt_irrefl, decide_false, cond_false, given_at hbj, Option.bind_some, given_next hbj hbr, out_at hbj, hbr, if_false, Int.add_zero]
        rw [w64_id (n := baseS m a b + 1) (by omega) (by omega), out_next hbj hbr]
        rfl
theorem F126_l3_eq {f : Nat} {m : Int} {a : List Int} (h : DealOk m a) (hf : 200 ≤ f) : ∀ n t, t ≤ (leftS m a).toNat → (leftS m a).toNat - t < n → (leftS m a).toNat < a.length ∨ leftS m a = 0 →
    F126_l3 f m a a.sum n (givenS m a.sum a t) (outT m a t) (leftS m a - t) = some (dealS m a)
  | 0, t, _, hn, _ => by omega
  | n + 1, t, ht, hn, hl => by
    have hlb := left_bounds h
    have hlen := h.len
    by_cases hz : t = (leftS m a).toNat
    · have : decide (leftS m a - (t : Int) > 0) = false := decide_eq_false (by omega)
      rw [F126_l3, this, cond_false, hz]
      rfl
    · have : decide (leftS m a - (t : Int) > 0) = true := decide_eq_true (by omega)
      rw [F126_l3, this]
      simp only [cond_true]
      have hta : t < a.length := by omega
      have e4 := F126_l4_eq h hta (F126_l3 f m a a.sum n) (leftS m a - (t : Int)) f 0 (-1) (by omega) (by omega) (.inl ⟨rfl, fun i hi => by omega⟩)
      have e0 : ((0 : Nat) : Int) = 0 := rfl
      rw [e0] at e4
      rw [e4]
      rw [w64_id (by omega) (by omega)]
      have e : leftS m a - (t : Int) - 1 = leftS m a - ((t + 1 : Nat) : Int) := by omega
      rw [e]
      exact F126_l3_eq h hf n (t + 1) (by omega) (by omega) hl
theorem left_lt {m : Int} {a : List Int} (h : DealOk m a) : leftS m a < a.length := by
  have h1 := left_bounds h
  have h2 := rem_sum (m := m) h.s0 a
  have hs := h.s0
  have hn : 0 < a.length := by
    rcases Nat.eq_zero_or_pos a.length with e | e
    · have := List.eq_nil_of_length_eq_zero e
      subst this; simp at hs
    · exact e
  by_cases k : leftS m a < a.length
  · exact k
  · have k : (a.length : Int) ≤ leftS m a := by omega
    have h3 : a.sum * (a.length : Int) ≤ a.sum * leftS m a := Int.mul_le_mul_of_nonneg_left k (by omega)
    have h4 : (a.sum - 1) * (a.length : Int) = a.sum * a.length - a.length := by rw [Int.sub_mul]; omega
    omega
theorem take_sum_le {a : List Int} (h : ∀ x ∈ a, 0 ≤ x) (i : Nat) : 0 ≤ (a.take i).sum ∧ (a.take i).sum ≤ a.sum := by
  have e : a = a.take i ++ a.drop i := (List.take_append_drop i a).symm
  have h1 := sum_nonneg (a := a.take i) fun x hx => h x (List.mem_of_mem_take hx)
  have h2 := sum_nonneg (a := a.drop i) fun x hx => h x (List.mem_of_mem_drop hx)
  have h3 : a.sum = (a.take i).sum + (a.drop i).sum := by
    have := congrArg List.sum e
    rw [sum_app] at this
    exact this
  omega
theorem take_sum {a : List Int} {i : Nat} (hi : i < a.length) : (a.take (i + 1)).sum = (a.take i).sum + a[i] := by
  rw [List.take_succ_eq_append_getElem hi, sum_app]; simp
theorem from_st {ρ : Type} {T : Nat → Nat → Option ρ} {len n : Nat} {out : Option ρ} (hn : len < n) (h : ∀ n i, i < len → T (n + 1) i = T n (i + 1)) (he : ∀ n, T (n + 1) len = out) : T n 0 = out := by
  have key : ∀ n i, i ≤ len → len - i < n → T n i = out := by
    intro n
    induction n with
    | zero => intro i _ hn; omega
    | succ n ih =>
      intro i hi hn
      rcases Nat.lt_or_ge i len with hlt | hge
      · rw [h n i hlt]; exact ih (i + 1) hlt (by omega)
      · have : i = len := by omega
        subst this; exact he n
  exact key n 0 (by omega) (by omega)
theorem F126_eq {f : Nat} {m : Int} {a : List Int} (h : DealOk m a) (hf : 200 ≤ f) : F126 f m a = some (dealS m a) := by
  have hlen := h.len
  have hs0 := h.s0
  have hs1 := h.s1
  have hm0 := h.m0
  have hm1 := h.m1
  have hll := left_lt h
  have hlb := left_bounds h
  have hb : ∀ i, 0 ≤ ((baseL m a).take i).sum ∧ ((baseL m a).take i).sum ≤ (baseL m a).sum := fun i => take_sum_le (a := baseL m a) (fun x hx => by
    obtain ⟨k, hk, rfl⟩ := List.getElem_of_mem hx
    rw [baseL_len] at hk
    rw [baseL_at hk]
    exact (base_bounds h hk).1) i
  have hbs : (baseL m a).sum = m - leftS m a := by unfold leftS; omega
  unfold F126
  have key1 := from_st (T := fun n i => F126_l1 f m a n (a.take i).sum (i : Int)) (len := a.length) (n := f) (out := F126_l2 f m a a.sum f [] m 0) (by omega)
    (fun n i hi => by
      have hx := h.nn _ (List.getElem_mem hi)
      have h1 := take_sum_le h.nn (i + 1)
      rw [take_sum hi] at h1
      have h2 := take_sum_le h.nn i
      simp only [F126_l1, lt_len, hi, decide_true, cond_true, getI_nat hi, Option.bind_some]
      rw [succ_w (by omega), w64_id (by omega) (by omega), take_sum hi])
    (fun n => by simp [F126_l1])
  have e1 : F126_l1 f m a f 0 0 = F126_l2 f m a a.sum f [] m 0 := by simpa using key1
  rw [e1]
  have key2 := from_st (T := fun n i => F126_l2 f m a a.sum n ((baseL m a).take i) (m - ((baseL m a).take i).sum) (i : Int)) (len := a.length) (n := f) (out := F126_l3 f m a a.sum f (List.replicate a.length false) (baseL m a) (leftS m a)) (by omega)
    (fun n i hi => by
      have hp := prod_bounds h hi
      have hbb := base_bounds h hi
      have hi' : i < (baseL m a).length := by rw [baseL_len]; exact hi
      have e2 : Int.tdiv (w64 (m * a[i])) a.sum = baseS m a i := by
        rw [w64_id (by omega) (by omega), Int.tdiv_eq_ediv_of_nonneg hp.1]
        unfold baseS
        rw [getD_mem hi]
      have h1 := hb (i + 1)
      have h0 := hb i
      rw [take_sum hi', baseL_at hi] at h1
      simp only [F126_l2, lt_len, hi, decide_true, cond_true, getI_nat hi, Option.bind_some, nzS (show a.sum ≠ 0 by omega), e2]
      rw [w64_id (n := baseS m a i) (by omega) (by omega)]
      have e3 : appC ((baseL m a).take i) [baseS m a i] = some ((baseL m a).take (i + 1)) := by
        unfold appC
        rw [if_pos (by simp; omega), List.take_succ_eq_append_getElem hi', baseL_at hi]
      rw [e3]
      simp only [Option.bind_some]
      rw [succ_w (by omega), w64_id (by omega) (by omega), take_sum hi', baseL_at hi]
      congr 1
      omega)
    (fun n => by
      have e4 : mkC ((a.length : Nat) : Int) false = some (List.replicate a.length false) := by
        unfold mkC
        rw [if_pos (by omega)]; simp
      have e5 : (baseL m a).take a.length = baseL m a := List.take_of_length_le (by rw [baseL_len]; omega)
      simp only [F126_l2, lt_len, Nat.lt_irrefl, decide_false, cond_false, e4, Option.bind_some, e5]
      rw [hbs]
      congr 1
      omega)
  have e2 : F126_l2 f m a a.sum f [] m 0 = F126_l3 f m a a.sum f (List.replicate a.length false) (baseL m a) (leftS m a) := by simpa using key2
  rw [e2]
  have e3 := F126_l3_eq h hf f 0 (by omega) (by omega) (.inl (by omega))
  have e4 : givenS m a.sum a 0 = List.replicate a.length false := by
    refine List.ext_getElem (by simp [givenS]) fun i h1 h2 => ?_
    simp [givenS]
  have e5 : outT m a 0 = baseL m a := by
    refine List.ext_getElem (by simp [outT, baseL]) fun i h1 h2 => ?_
    have hi : i < a.length := by simpa [outT] using h1
    rw [baseL_at hi]
    simp [outT]
  rw [e4, e5] at e3
  simpa using e3
end Go.Proofs.Ytlmgjjmighajdaa
set_option linter.unusedSimpArgs false
set_option linter.unusedVariables false
namespace Go.Proofs.Ytlmgjjmighajdaa
open Go.Sl Go.Sx
theorem F89_80 (f : Nat) (a b : List Part) : F89 f a b = F80 f a b := by
  unfold F89 F80
  have : ∀ n y i k, F89_l1 a b n y i k = F80_l1 a b n y i k := by
    intro n
    induction n with
    | zero => intro y i k; rfl
    | succ n ih =>
      intro y i k
      have e : F89_l1 a b n = F80_l1 a b n := by funext y i k; exact ih y i k
      simp only [F89_l1, F80_l1, e]
      rfl
  exact this ..
theorem F89_eq {f : Nat} {a b : List Part} (ha : HeapOk a) (hb : HeapOk b) (hf : 90 < f) : F89 f a b = some (mergeP a b) := by rw [F89_80, F80_eq ha hb hf]
theorem F128_eq {f : Nat} {h : List Part} (hl : h.length ≤ 40) (hf : 40 < f) : F128 f h = some (massesL h) := by
  unfold F128
  have key := from_st (T := fun n i => F128_l1 h n (massesL (h.take i)) (i : Int)) (len := h.length) (n := f) (out := some (massesL h)) (by omega)
    (fun n i hi => by
      have app : appC (massesL (h.take i)) [h[i].mass] = some (massesL (h.take (i + 1))) := by
        unfold appC
        rw [if_pos (by simp [massesL]; omega), List.take_succ_eq_append_getElem hi]
        unfold massesL
        rw [List.map_append]; rfl
      simp only [F128_l1, lt_len, hi, decide_true, cond_true, getI_nat hi, Option.bind_some, app]
      rw [succ_w (by omega)])
    (fun n => by simp [F128_l1])
  simpa [massesL] using key
theorem F93_l1_eq {h : List Part} {d : List Int} (hd : d.length = h.length) (hl : h.length ≤ 40) (hk : ∀ p ∈ h, PartOk p) (hb : ∀ x ∈ d, 0 ≤ x ∧ x ≤ 100000001) : ∀ n i (tk lf : List Part), i ≤ h.length → h.length - i < n → tk.length + (h.length - i) ≤ 40 → lf.length + (h.length - i) ≤ 40 →
    F93_l1 h d n tk lf (i : Int) = some (tk ++ takenL (h.drop i) (d.drop i), lf ++ leftL (h.drop i) (d.drop i))
  | 0, i, _, _, _, hn, _, _ => by omega
  | n + 1, i, tk, lf, hi, hn, h1, h2 => by
    rcases Nat.lt_or_ge i h.length with hlt | hge
    · have hid : i < d.length := by omega
      have app : ∀ (l : List Part) (x : Part), l.length ≤ 60 → appC l [x] = some (l ++ [x]) := fun l x hl => by unfold appC; rw [if_pos (by simp only [List.length_cons, List.length_nil]; omega)]
      have hp := hk _ (List.getElem_mem hlt)
      have hx := hb _ (List.getElem_mem hid)
      have e1 : h.drop i = h[i] :: h.drop (i + 1) := drop_cons hlt
      have e2 : d.drop i = d[i] :: d.drop (i + 1) := drop_cons hid
      have := hp.m0; have := hp.m1
      have hw : w64 (h[i].mass - d[i]) = h[i].mass - d[i] := w64_id (by omega) (by omega)
      simp only [F93_l1, F93_j1, F93_j2, lt_len, hlt, decide_true, cond_true, getI_nat hlt, getI_nat hid, Option.bind_some, hw, succ_w (i := i) (by omega)]
      rw [e1, e2]
      simp only [takenL, leftL]
      have gt : (h[i].mass > d[i]) = (d[i] < h[i].mass) := rfl
      simp only [gt]
      by_cases c1 : d[i] > 0 <;> by_cases c2 : d[i] < h[i].mass
      · simp only [c1, c2, decide_true, cond_true, app tk _ (by omega), app lf _ (by omega), Option.bind_some, if_true]
        rw [F93_l1_eq hd hl hk hb n (i + 1) _ _ (by omega) (by omega) (by simp only [List.length_append, List.length_cons, List.length_nil]; omega) (by simp only [List.length_append, List.length_cons, List.length_nil]; omega)]
        simp only [List.append_assoc]
      · simp only [c1, c2, decide_true, decide_false, cond_true, cond_false, app tk _ (by omega), Option.bind_some, if_true, if_false]
        rw [F93_l1_eq hd hl hk hb n (i + 1) _ _ (by omega) (by omega) (by simp only [List.length_append, List.length_cons, List.length_nil]; omega) (by omega)]
        simp only [List.append_assoc, List.nil_append]
      · simp only [c1, c2, decide_true, decide_false, cond_true, cond_false, app lf _ (by omega), Option.bind_some, if_true, if_false]
        rw [F93_l1_eq hd hl hk hb n (i + 1) _ _ (by omega) (by omega) (by omega) (by simp only [List.length_append, List.length_cons, List.length_nil]; omega)]
        simp only [List.append_assoc, List.nil_append]
      · simp only [c1, c2, decide_false, cond_false, if_false]
        rw [F93_l1_eq hd hl hk hb n (i + 1) _ _ (by omega) (by omega) (by omega) (by omega)]
        simp only [List.nil_append]
    · have : i = h.length := by omega
      subst this
      simp only [F93_l1, lt_len, Nat.lt_irrefl, decide_false, cond_false, List.drop_length]
      simp [takenL, leftL]
theorem deal_zero {a : List Int} (h : ∀ x ∈ a, 0 ≤ x) : dealS 0 a = List.replicate a.length 0 := by
  have hb : baseL 0 a = List.replicate a.length 0 := by
    refine List.ext_getElem (by simp [baseL]) fun i h1 h2 => ?_
    simp [baseL]
  have hl : leftS 0 a = 0 := by
    unfold leftS
    rw [hb]
    have : ∀ n : Nat, (List.replicate n (0 : Int)).sum = 0 := fun n => by
      induction n with
      | zero => rfl
      | succ n ih => rw [List.replicate_succ, List.sum_cons, ih]; rfl
    rw [this]; rfl
  refine List.ext_getElem (by simp [dealS]) fun i h1 h2 => ?_
  simp [dealS, hl, baseS]
theorem dealH_zero {h : List Part} (hk : HeapOk h) : dealH 0 h = List.replicate h.length 0 := by
  unfold dealH
  split
  · rename_i e; subst e; rfl
  · rw [deal_zero fun x hx => by obtain ⟨p, hp, rfl⟩ := List.mem_map.1 hx; have := (hk.2.1 p hp).m0; omega]
    simp [massesL]
theorem taken_zero : ∀ h : List Part, takenL h (List.replicate h.length 0) = []
  | [] => rfl
  | p :: h => by
    show takenL (p :: h) (0 :: List.replicate h.length 0) = []
    simp only [takenL]
    rw [taken_zero h]; rfl
theorem left_zero : ∀ {h : List Part}, (∀ p ∈ h, PartOk p) → leftL h (List.replicate h.length 0) = h
  | [], _ => rfl
  | p :: h, hk => by
    show leftL (p :: h) (0 :: List.replicate h.length 0) = p :: h
    simp only [leftL]
    rw [left_zero fun q hq => hk q (List.mem_cons_of_mem _ hq)]
    have := (hk p (by simp)).m0
    rw [if_pos (by omega)]
    simp
theorem F93_eq {f : Nat} {h : List Part} {m : Int} (hk : HeapOk h) (hm0 : 0 ≤ m) (hm : m ≤ sumM h) (hl : h.length ≤ 40) (hf : 1001 ≤ f) : F93 f h m = some (takenL h (dealH m h), leftL h (dealH m h)) := by
  unfold F93
  by_cases h0 : m = 0
  · subst h0
    have : appC [] h = some h := by unfold appC; rw [if_pos (by simp; omega)]; rfl
    rw [dealH_zero hk, taken_zero, left_zero hk.2.1]
    simp [this]
  · have h0' : (m == 0) = false := by simpa using h0
    have hne : h ≠ [] := fun e => by subst e; simp [sumM] at hm; omega
    rw [h0', cond_false, F128_eq (by omega) (by omega)]
    simp only [Option.bind_some]
    rw [F126_eq (dealOk_heap hk hne hm0 hm hl) (show 200 ≤ f by omega)]
    simp only [Option.bind_some]
    have hd : dealS m (massesL h) = dealH m h := by unfold dealH; rw [if_neg hne]
    rw [hd]
    have := F93_l1_eq (dealH_len m h) hl hk.2.1 (dealH_bounds hk hm0 hm hl) f 0 [] [] (by omega) (by omega) (by simp; omega) (by simp; omega)
    simpa using this
end Go.Proofs.Ytlmgjjmighajdaa
set_option linter.unusedSimpArgs false
set_option linter.unusedVariables false
namespace Go.Proofs.Ytlmgjjmighajdaa
open Go.Sl Go.Sx
theorem taken_len : ∀ (h : List Part) (d : List Int), (takenL h d).length ≤ h.length
  | [], _ => by simp [takenL]
  | _ :: _, [] => by simp [takenL]
  | p :: h, n :: d => by
    have := taken_len h d
    simp only [takenL, List.length_append, List.length_cons]
    split <;> simp <;> omega
theorem left_len : ∀ (h : List Part) (d : List Int), (leftL h d).length ≤ h.length
  | [], _ => by simp [leftL]
  | _ :: _, [] => by simp [leftL]
  | p :: h, n :: d => by
    have := left_len h d
    simp only [leftL, List.length_append, List.length_cons]
    split <;> simp <;> omega
theorem F26_same {f : Nat} (hf : 1001 ≤ f) {a : List Part} (h : a.length ≤ 1000) : F26 f a a = some true := by
  rw [F26_eq (by omega) (by omega)]; simp
theorem split_same {f : Nat} (hf : 1001 ≤ f) (a : List Part) (m : Int) : ∃ x y e, F30 f a m = some (x, y, e) ∧ F31 f a m = some (x, y, e) ∧ x.length ≤ 40 ∧ y.length ≤ 40 := by
  unfold F30 F31
  rw [F76_73, F92_90]
  rcases F73_eq (f := f) (l := a) (by omega) with ⟨ha, e1⟩ | ⟨ha, e1⟩
  · rw [e1]
    simp only [Option.bind_some, Bool.not_true, cond_false]
    by_cases h0 : m < 0
    · rw [decide_eq_true h0, cond_true, cond_true]
      exact ⟨[], [], 1, rfl, rfl, by simp, by simp⟩
    · rw [decide_eq_false h0, cond_false, cond_false, F90_eq ha (by omega)]
      simp only [Option.bind_some]
      by_cases h1 : m > sumM a
      · rw [decide_eq_true h1, cond_true, cond_true]
        exact ⟨[], [], 63, rfl, rfl, by simp, by simp⟩
      · rw [decide_eq_false h1, cond_false, cond_false, F91_eq ha (by omega) (by omega) ha.1 (by omega), F93_eq ha (by omega) (by omega) ha.1 hf]
        have h40 := ha.1
        exact ⟨_, _, 0, rfl, rfl, Nat.le_trans (taken_len _ _) h40, Nat.le_trans (left_len _ _) h40⟩
  · rw [e1]
    exact ⟨[], [], 62, rfl, rfl, by simp, by simp⟩
theorem join_same {f : Nat} (hf : 1001 ≤ f) (a b : List Part) : ∃ x e, F25 f a b = some (x, e) ∧ F32 f a b = some (x, e) ∧ x.length ≤ 40 := by
  unfold F32 F32_j1
  rw [F76_73, F76_73]
  rcases F25_eq (f := f) a b (by omega) with ⟨⟨ha, hb, hm⟩, e⟩ | ⟨⟨ha, hb, hm⟩, e⟩ | ⟨hn, e⟩
  · rcases F73_eq (f := f) (l := a) (by omega) with ⟨_, e1⟩ | ⟨h, _⟩
    · rcases F73_eq (f := f) (l := b) (by omega) with ⟨_, e2⟩ | ⟨h, _⟩
      · rcases F73_eq (f := f) (l := mergeP a b) (by omega) with ⟨_, e3⟩ | ⟨h, _⟩
        · refine ⟨_, 0, e, ?_, hm.1⟩
          rw [e1, e2]
          simp only [Option.bind_some, Bool.not_true, cond_false]
          rw [F89_eq ha hb (by omega)]
          simp only [Option.bind_some]
          rw [F76_73, e3]
          rfl
        · exact absurd hm h
      · exact absurd hb h
    · exact absurd ha h
  · rcases F73_eq (f := f) (l := a) (by omega) with ⟨_, e1⟩ | ⟨h, _⟩
    · rcases F73_eq (f := f) (l := b) (by omega) with ⟨_, e2⟩ | ⟨h, _⟩
      · rcases F73_eq (f := f) (l := mergeP a b) (by omega) with ⟨h, _⟩ | ⟨_, e3⟩
        · exact absurd h hm
        · refine ⟨_, 2, e, ?_, by simp⟩
          rw [e1, e2]
          simp only [Option.bind_some, Bool.not_true, cond_false]
          rw [F89_eq ha hb (by omega)]
          simp only [Option.bind_some]
          rw [F76_73, e3]
          rfl
      · exact absurd hb h
    · exact absurd ha h
  · refine ⟨[], 62, e, ?_, by simp⟩
    rcases F73_eq (f := f) (l := a) (by omega) with ⟨ha, e1⟩ | ⟨h, e1⟩
    · rcases F73_eq (f := f) (l := b) (by omega) with ⟨hb, e2⟩ | ⟨h, e2⟩
      · exact absurd ⟨ha, hb⟩ hn
      · rw [e1, e2]; rfl
    · rw [e1]; rfl
theorem mass_same {f : Nat} (hf : 1001 ≤ f) (a : List Part) : ∃ x, F33 f a = some x ∧ F34 f a = some x := by
  unfold F33 F34
  rw [F76_73, F92_90]
  rcases F73_eq (f := f) (l := a) (by omega) with ⟨ha, e1⟩ | ⟨ha, e1⟩
  · rw [e1, F90_eq ha (by omega)]
    exact ⟨_, rfl, rfl⟩
  · rw [e1]
    exact ⟨0, rfl, rfl⟩
theorem F6_gen {f : Nat} (hf : 1001 ≤ f) (hsane : F16 f = some true) (a b : List Part) (m : Int) : F6 f a b m = some true := by
  obtain ⟨x, y, e, s1, s2, s3, s4⟩ := split_same hf a m
  obtain ⟨z, e', j1, j2, j3⟩ := join_same hf a b
  obtain ⟨w, w1, w2⟩ := mass_same hf a
  have bs : ∀ {α β : Type} {o : Option α} {a : α} {g : α → Option β} {r : Option β}, o = some a → g a = r → o.bind g = r := fun h k => by rw [h]; exact k
  have ct : ∀ {α : Type} {c : Bool} {a b r : α}, c = true → a = r → cond c a b = r := fun h k => by rw [h]; exact k
  unfold F6
  refine bs hsane (bs s1 (bs s2 (bs j1 (bs j2 (bs (F26_same hf (show x.length ≤ 1000 by omega)) (bs (F26_same hf (show y.length ≤ 1000 by omega)) (bs (F26_same hf (show z.length ≤ 1000 by omega)) ?_)))))))
  refine ct rfl (ct rfl (ct rfl (ct rfl (ct (beq_self_eq_true e) (ct (beq_self_eq_true e') (bs w1 (bs w2 ?_)))))))
  unfold F6_j1
  rw [beq_self_eq_true]
theorem sane_2000 : F16 2000 = some true := by kernel_rfl
theorem F6_true' (a b : List Part) (m : Int) : ∃ fuel, F6 fuel a b m = some true := ⟨2000, F6_gen (by omega) sane_2000 a b m⟩
end Go.Proofs.Ytlmgjjmighajdaa
set_option linter.unusedVariables false
namespace Go.Sx
open Go.Sl Go.RowKit Go.ChangeShapes
def I64 (n : Int) : Prop := -9223372036854775808 ≤ n ∧ n ≤ 9223372036854775807
def Opens {α : Type} (P : Program) (t : TypeId) (T : Ty α) (ok : α → Prop) : Prop :=
  ∀ (H : Type) (enc : TypeId × Value → H) (W : World) (fuel : Nat) (cs : List Value) (d : DataW H × List MemPlace),
    DataW.trod enc P W 0 (fun _ => true) true fuel t cs = some d → ∃ x, T.rep (Zone.all W) cs x ∧ ok x
theorem mapM_mem {α β : Type} {f : α → Option β} : ∀ {l : List α} {ys : List β}, l.mapM f = some ys → ∀ a ∈ l, ∃ y, f a = some y
  | [], _, _, a, ha => by cases ha
  | x :: l, ys, h, a, ha => by
    rw [List.mapM_cons] at h
    cases hx : f x with
    | none => rw [hx] at h; simp at h
    | some y =>
      rw [hx] at h
      simp only [Option.pure_def, Option.bind_eq_bind, Option.bind_some] at h
      cases hl : l.mapM f with
      | none => rw [hl] at h; simp at h
      | some zs =>
        rcases List.mem_cons.1 ha with e | e
        · subst e; exact ⟨y, hx⟩
        · exact mapM_mem hl a e
section
variable {H : Type} {enc : TypeId × Value → H} {P : Program} {W : World} {fuel : Nat} {t : TypeId} {cs : List Value} {d : DataW H × List MemPlace}
theorem trod_fields {fs : Array Field} (ht : P.underlying t = some (.struct fs)) (h : DataW.trod enc P W 0 (fun _ => true) true fuel t cs = some d) :
    cs.length = P.cellsOf t ∧ ∃ n, ∀ f ∈ fs.toList, ∃ y, DataW.trod enc P W 0 (fun _ => true) true n f.type ((cs.drop f.offset).take (P.cellsOf f.type)) = some y := by
  cases fuel with
  | zero => simp [DataW.trod] at h
  | succ n =>
    simp only [DataW.trod, ht] at h
    by_cases hl : cs.length = P.cellsOf t
    · rw [if_pos hl] at h
      refine ⟨hl, n, fun f hf => ?_⟩
      cases hm : fs.toList.mapM fun f => DataW.trod enc P W 0 (fun _ => true) true n f.type ((cs.drop f.offset).take (P.cellsOf f.type)) with
      | none => rw [hm] at h; simp at h
      | some ys => exact mapM_mem hm f hf
    · rw [if_neg hl] at h; cases h
theorem trod_items {m : Nat} {e : TypeId} (ht : P.underlying t = some (.array m e)) (h : DataW.trod enc P W 0 (fun _ => true) true fuel t cs = some d) :
    cs.length = P.cellsOf t ∧ ∃ n, ∀ i, i < m → ∃ y, DataW.trod enc P W 0 (fun _ => true) true n e ((cs.drop (i * P.cellsOf e)).take (P.cellsOf e)) = some y := by
  cases fuel with
  | zero => simp [DataW.trod] at h
  | succ n =>
    simp only [DataW.trod, ht] at h
    by_cases hl : cs.length = P.cellsOf t
    · rw [if_pos hl] at h
      refine ⟨hl, n, fun i hi => ?_⟩
      cases hm : (List.range m).mapM fun i => DataW.trod enc P W 0 (fun _ => true) true n e ((cs.drop (i * P.cellsOf e)).take (P.cellsOf e)) with
      | none => rw [hm] at h; simp at h
      | some ys => exact mapM_mem hm i (List.mem_range.2 hi)
    · rw [if_neg hl] at h; cases h
end
def allInt (P : Program) : Nat → TypeId → Bool
  | 0, _ => false
  | f + 1, t => match P.underlying t with
    | some (.int .i64) => true
    | some (.struct fs) => fs.toList.all (fun x => allInt P f x.type) && (List.range (P.cellsOf t)).all fun i => fs.toList.any fun x => Nat.ble x.offset i && Nat.blt i (x.offset + P.cellsOf x.type)
    | some (.array n e) => allInt P f e && (List.range (P.cellsOf t)).all fun i => Nat.blt (i / P.cellsOf e) n && Nat.blt 0 (P.cellsOf e)
    | _ => false
def IntCells (cs : List Value) : Prop := ∀ (i : Nat) (c : Value), cs[i]? = some c → ∃ n : Int, c = Value.int .i64 n ∧ I64 n
theorem wf_I64 {n : Int} (h : (Lit.int .i64 n).wf = true) : I64 n := by
  have e1 : IntKind.i64.min = -9223372036854775808 := by decide
  have e2 : IntKind.i64.max = 9223372036854775807 := by decide
  simp only [Lit.wf, e1, e2, Bool.and_eq_true, decide_eq_true_eq] at h
  exact h
theorem allInt_spec {H : Type} {enc : TypeId × Value → H} {P : Program} {W : World} : ∀ (f : Nat) {t : TypeId} (_ : allInt P f t = true) {fuel : Nat} {cs : List Value} {d : DataW H × List MemPlace},
    DataW.trod enc P W 0 (fun _ => true) true fuel t cs = some d → IntCells cs
  | 0, _, h, _, _, _, _ => by cases h
  | f + 1, t, h, fuel, cs, d, hd => by
    unfold allInt at h
    split at h
    · rename_i ht
      obtain ⟨n, rfl, _, hw⟩ := DataW.trod_int ht hd
      intro i c hi
      cases i with
      | zero => simp only [List.getElem?_cons_zero, Option.some.injEq] at hi; exact ⟨n, hi.symm, wf_I64 hw⟩
      | succ i => simp at hi
    · rename_i fs ht
      simp only [Bool.and_eq_true, List.all_eq_true, List.any_eq_true, List.mem_range, Nat.ble_eq, Nat.blt_eq] at h
      obtain ⟨h1, h2⟩ := h
      obtain ⟨hl, n, hf⟩ := trod_fields ht hd
      intro i c hi
      have hlt : i < cs.length := (List.getElem?_eq_some_iff.1 hi).1
      obtain ⟨x, hx, ho, hu⟩ := h2 i (by omega)
      obtain ⟨y, hy⟩ := hf x hx
      refine allInt_spec f (h1 x hx) hy (i - x.offset) c ?_
      rw [List.getElem?_take, if_pos (by omega), List.getElem?_drop, show x.offset + (i - x.offset) = i by omega]
      exact hi
    · rename_i m e ht
      simp only [Bool.and_eq_true, List.all_eq_true, List.mem_range, Nat.blt_eq] at h
      obtain ⟨h1, h2⟩ := h
      obtain ⟨hl, n, hf⟩ := trod_items ht hd
      intro i c hi
      have hlt : i < cs.length := (List.getElem?_eq_some_iff.1 hi).1
      obtain ⟨hq, hp⟩ := h2 i (by omega)
      obtain ⟨y, hy⟩ := hf _ hq
      have hmod := Nat.mod_lt i hp
      have hdm := Nat.div_add_mod i (P.cellsOf e)
      rw [Nat.mul_comm] at hdm
      refine allInt_spec f h1 hy (i % P.cellsOf e) c ?_
      rw [List.getElem?_take, if_pos hmod, List.getElem?_drop, hdm]
      exact hi
    · cases h
theorem opens_ints {α : Type} {P : Program} {t : TypeId} {T : Ty α} {ok : α → Prop} (k : Nat) (hk : P.cellsOf t = k) (hs : (match P.underlying t with | some (.struct _) => true | some (.array _ _) => true | _ => false) = true) (ha : allInt P 8 t = true)
    (mk : ∀ (h : Zone) (l : List Int), l.length = k → (∀ n ∈ l, I64 n) → ∃ x, T.rep h (l.map fun n => .int .i64 n) x ∧ ok x) : Opens P t T ok := fun H enc W fuel cs d h => by
  have hi := allInt_spec 8 ha h
  have hl : cs.length = k := by
    split at hs
    · rename_i fs ht; rw [(trod_fields ht h).1, hk]
    · rename_i m e ht; rw [(trod_items ht h).1, hk]
    · cases hs
  have key : ∀ cs : List Value, IntCells cs → ∃ l : List Int, cs = l.map (fun n => .int .i64 n) ∧ ∀ n ∈ l, I64 n := by
    intro cs
    induction cs with
    | nil => exact fun _ => ⟨[], rfl, fun _ h => by cases h⟩
    | cons c cs ih =>
      intro hc
      obtain ⟨n, rfl, hn⟩ := hc 0 c rfl
      obtain ⟨l, rfl, hl⟩ := ih (fun i c hi => hc (i + 1) c (by simpa using hi))
      exact ⟨n :: l, rfl, fun m hm => by rcases List.mem_cons.1 hm with e | e; exact e ▸ hn; exact hl m e⟩
  obtain ⟨l, rfl, hn⟩ := key cs hi
  exact mk _ l (by simpa using hl) hn
theorem opens_slice {α : Type} {P : Program} {t e : TypeId} {T : Ty α} {ok : α → Prop} (ht : P.underlying t = some (.slice e)) (he : P.cellsOf e = T.size) (h : Opens P e T ok) : Opens P t (Ty.slice T) (fun xs => (∀ x ∈ xs, ok x) ∧ xs.length ≤ maxLen) := fun H enc W fuel cs d hd => by
  rcases Go.Deep.open_slice ht hd with ⟨rfl, _⟩ | ⟨a, len, cap, m, n, D, Pl, rfl, _, hl, hm, hmm, _, hx⟩
  · exact ⟨[], ⟨none, 0, rfl, SliceR.nil' T _⟩, ⟨(fun _ h => by cases h), by simp⟩⟩
  · simp only [if_true] at hmm
    have hall : ∀ i, i < len → ∃ x, (∃ c, T.rep (Zone.all W) c x ∧ ∀ j v, c[j]? = some v → (Zone.all W).cell? ((a.add (i * T.size)).add j) = some v) ∧ ok x := fun i hi => by
      obtain ⟨cs', h1, h2⟩ := hx i (by omega)
      obtain ⟨x, hr, ho⟩ := h H enc W n cs' _ h2
      refine ⟨x, ⟨cs', hr, fun j v hj => ?_⟩, ho⟩
      rw [he] at h1
      obtain ⟨_, hlen, hc⟩ := World.cells?_some h1
      have hlt : j < cs'.length := (List.getElem?_eq_some_iff.1 hj).1
      exact (hc j (by omega)).trans hj
    have key : ∀ k, k ≤ len → ∃ xs : List α, xs.length = k ∧ (∀ x ∈ xs, ok x) ∧ ∀ i x, xs[i]? = some x → ∃ c, T.rep (Zone.all W) c x ∧ ∀ j v, c[j]? = some v → (Zone.all W).cell? ((a.add (i * T.size)).add j) = some v := by
      intro k
      induction k with
      | zero => exact fun _ => ⟨[], rfl, (fun _ h => by cases h), (fun i x h => by simp at h)⟩
      | succ k ih =>
        intro hk
        obtain ⟨xs, h1, h2, h3⟩ := ih (by omega)
        obtain ⟨x, hx1, hx2⟩ := hall k (by omega)
        refine ⟨xs ++ [x], by simp [h1], fun y hy => ?_, fun i y hy => ?_⟩
        · rcases List.mem_append.1 hy with e | e
          · exact h2 y e
          · simp only [List.mem_singleton] at e; exact e ▸ hx2
        · rw [List.getElem?_append] at hy
          split at hy
          · exact h3 i y hy
          · rename_i hge
            have : i - xs.length = 0 := by
              have := (List.getElem?_eq_some_iff.1 hy).1
              simp at this; omega
            rw [this] at hy
            simp only [List.getElem?_cons_zero, Option.some.injEq] at hy
            subst hy
            have : i = k := by omega
            subst this
            exact hx1
    obtain ⟨xs, h1, h2, h3⟩ := key len (Nat.le_refl _)
    refine ⟨xs, ⟨some a, cap, by rw [h1], ⟨by omega, hm, (fun e => by cases e), fun b e i x hi => ?_⟩⟩, ⟨h2, by omega⟩⟩
    cases e
    exact h3 i x hi
section
variable {H : Type} {enc : TypeId × Value → H} {P : Program} {W : World} {base : Nat} {t : TypeId} {v : Value} {d : DataW H} {ps : List MemPlace}
theorem arg_agg {α : Type} {T : Ty α} {ok : α → Prop} (hs : (match P.underlying t with | some (.struct _) => true | some (.array _ _) => true | _ => false) = true) (hv : Value.okWide P W .any base t v) (h : DataW.Trod enc P W 0 (fun _ => true) true t v d ps) (ho : Opens P t T ok) :
    ∃ cs x, v = .agg cs.toArray ∧ T.rep (Zone.all W) cs x ∧ ok x := by
  obtain ⟨fuel, hf⟩ := h
  obtain ⟨x, hx, hok⟩ := ho H enc W fuel _ _ hf
  have : ∃ cs, v = .agg cs := by
    unfold Value.okWide at hv
    split at hs
    · rename_i fs ht; rw [ht] at hv; obtain ⟨cs, e, _⟩ := hv; exact ⟨cs, e⟩
    · rename_i m e ht; rw [ht] at hv; obtain ⟨cs, e, _⟩ := hv; exact ⟨cs, e⟩
    · cases hs
  obtain ⟨cs, rfl⟩ := this
  exact ⟨cs.toList, x, rfl, hx, hok⟩
theorem arg_int (ht : P.underlying t = some (.int .i64)) (hv : Value.okWide P W .any base t v) (h : DataW.Trod enc P W 0 (fun _ => true) true t v d ps) : ∃ n, v = .int .i64 n ∧ I64 n := by
  obtain ⟨n, rfl, _, _, hw⟩ := open_int ht hv h
  exact ⟨n, rfl, wf_I64 hw⟩
theorem trodAll_stays (hl : laidOutB P = true) {W' : World} (hb : Below W.heap.size W W') : ∀ {ts : List TypeId} {vs : List Value} {ds : List (DataW H)} {ps : List MemPlace}, (ts.all fun t => P.readableRec t && Nat.blt t P.types.size) = true →
    DataW.TrodAll enc P W 0 (fun _ => true) true ts vs ds ps → (∀ p ∈ ps, p.block < W.heap.size) → DataW.TrodAll enc P W' 0 (fun b => decide (b < W.heap.size)) true ts vs ds ps
  | [], [], [], _, _, h, _ => h
  | t :: ts, v :: vs, d :: ds, _, hr, ⟨p, q, h1, h2, e⟩, hlt => by
    simp only [List.all_cons, Bool.and_eq_true, Nat.blt_eq] at hr
    subst e
    exact ⟨p, q, Below.trod hl hr.1.1 hr.1.2 h1 hb (fun x hx => hlt x (List.mem_append_left _ hx)), trodAll_stays hl hb hr.2 h2 (fun x hx => hlt x (List.mem_append_right _ hx)), rfl⟩
  | [], _ :: _, _, _, _, h, _ => h.elim
  | [], [], _ :: _, _, _, h, _ => h.elim
  | _ :: _, [], _, _, _, h, _ => h.elim
  | _ :: _, _ :: _, [], _, _, h, _ => h.elim
theorem post_true {f : Func} {s : ChangeSpec} {args : Array Value} {ds : List (DataW H)} {before : List MemPlace} {apart : Bool} {W' : World} {tb : TypeId} (hl : laidOutB P = true) (hvars : s.vars = []) (hr : (f.params.toList.all fun t => P.readableRec t && Nat.blt t P.types.size) = true)
    (hres : f.resultTypes = #[tb]) (hu : P.underlying tb = some .bool) (hW : DataW.Whole enc P f.params.toList s.vars apart W args.toList ds [] before) (hb : Below W.heap.size W W') (hs : s.fn H (ds ++ []) = { results := [.lit (.bool true)], args := ds }) :
    s.post enc P f apart true false false W args (.bool true) W' := by
  have hlt := hW.lt
  have hW0 := hW
  obtain ⟨p, q, hA, hV, rfl, _, _⟩ := hW
  rw [hvars] at hV
  obtain ⟨_, rfl⟩ := trodVars_none hV
  refine ⟨ds, [], p ++ [], [], p, [], hW0, ?_, ?_, ?_, hb.frame _, fun h => by cases h⟩
  · rw [hs, hres]; exact trodAll_mk1 (shut_bool hu true)
  · rw [hs]; exact trodAll_stays hl hb hr hA (fun x hx => hlt x (by simpa using hx))
  · rw [hs, hvars]; rfl
end
end Go.Sx
namespace Go.Sx
def wrapB (P : Program) (t e : TypeId) : Bool := match P.underlying t with
  | some (.struct fs) => (match fs.toList with | [f] => Nat.beq f.type e && Nat.beq f.offset 0 && Nat.beq (P.cellsOf e) (P.cellsOf t) | _ => false)
  | _ => false
theorem opens_wrap {α : Type} {P : Program} {t e : TypeId} {T : Ty α} {ok : α → Prop} (hb : wrapB P t e = true) (h : Opens P e T ok) : Opens P t T ok := fun H enc W fuel cs d hd => by
  unfold wrapB at hb
  split at hb
  · rename_i fs ht
    split at hb
    · rename_i f hf
      simp only [Bool.and_eq_true, Nat.beq_eq] at hb
      obtain ⟨hl, n, hx⟩ := trod_fields ht hd
      obtain ⟨y, hy⟩ := hx f (by rw [hf]; exact List.mem_cons_self ..)
      rw [hb.1.1, hb.1.2, hb.2, ← hl, List.drop_zero, List.take_length] at hy
      exact h H enc W n cs y hy
    · cases hb
  · cases hb
end Go.Sx
