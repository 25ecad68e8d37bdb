/-
  A part of the walk and of the plain law of one given statement. No condition.
-/
import Derived.Test.YtpjmgeajajcceaaSFb
set_option linter.unusedVariables false
namespace Go.Proofs.Ytpjmgeajajcceaa
open Go.Sl Go.Sx
set_option maxRecDepth 100000 in
theorem f88_ok (fuel : Nat) (x0 : List Pt) (x1 : Int) (r : Int × Int) (hr : F88 fuel x0 x1 = some r) (h : Zone) (L : List Atom) (w : World) (hS : St h L w) (o_x0 : Option Addr) (c_x0 : Nat) (hx_x0 : SliceR PtT h o_x0 c_x0 x0) :
    Calls Try.prog 88 #[.agg #[.slice o_x0 x0.length c_x0], vI x1] w fun e w' => ∃ v, e = .returned v ∧ (∃ h', Zone.le h h' ∧ v = .agg #[vI r.1, vI r.2] ∧ St h' L w') := by
  refine calls_intro (N := 16) Try.func88 (by kernel_rfl) fun a hf => ?_
  refine w_seq (by kernel_rfl) ?_
  refine w_reg (by kernel_rfl) ?_
  refine p_box (i := 0) (d := (some 2)) (cs := [.slice o_x0 x0.length c_x0]) (T := 24) (v := fun b1 => pB b1 0) hS hf (fun b => by kernel_rfl) fun b1 ww1 a1 hS1 hf1 => ⟨fun _ => trivial, ?_⟩
  refine p_box (i := 1) (d := (some 3)) (cs := [vI x1]) (T := 3) (v := fun b2 => pB b2 0) hS1 hf1 (fun b => by kernel_rfl) fun b2 ww2 a2 hS2 hf2 => ⟨fun _ => trivial, ?_⟩
  refine p_box (i := 2) (d := (some 4)) (cs := [vI 0, vI 0]) (T := 41) (v := fun b3 => pB b3 0) hS2 hf2 (fun b => by kernel_rfl) fun b3 ww3 a3 hS3 hf3 => ⟨fun _ => trivial, ?_⟩
  refine p_done (by kernel_rfl) ?_
  refine n_then ?_
  refine w_seq (by kernel_rfl) ?_
  refine w_seq (by kernel_rfl) ?_
  refine w_reg (by kernel_rfl) ?_
  refine p_run 1 [.slice o_x0 x0.length c_x0] [3, 4, 6] (fl' := [(3, pB b2 0), (4, pB b3 0), (6, .agg #[.slice o_x0 x0.length c_x0])]) (obs := [.cell ⟨b1, 0, none⟩ (.slice o_x0 x0.length c_x0)]) trivial hf3 (by kernel_rfl) (by kernel_rfl) (.cell (hS3.box (i := 2) rfl (j := 0) rfl) .nil) fun a4 hf4 => ?_
  refine p_inl (i := 1) (d := some 7) (f := 118) (args := #[.agg #[.slice o_x0 x0.length c_x0]]) (N' := 4) hf4 (by kernel_rfl) Try.func118 (by kernel_rfl) fun a5 hf5 => ?_
  refine w_seq (by kernel_rfl) ?_
  refine w_reg (by kernel_rfl) ?_
  refine p_box (i := 0) (d := (some 1)) (cs := [.slice o_x0 x0.length c_x0]) (T := 24) (v := fun b4 => pB b4 0) hS3 hf5 (fun b => by kernel_rfl) fun b4 ww4 a6 hS4 hf6 => ⟨fun _ => trivial, ?_⟩
  refine p_run 1 [] [1] (fl' := [(1, pB b4 0)]) (obs := []) trivial hf6 (by kernel_rfl) (by kernel_rfl) .nil fun a7 hf7 => ?_
  refine p_done (by kernel_rfl) ?_
  refine n_then ?_
  refine w_seq (by kernel_rfl) ?_
  refine w_reg (by kernel_rfl) ?_
  refine p_run 2 [] [2] (fl' := [(2, .func (.func 130) #[] #[pB b4 0])]) (obs := []) trivial hf7 (by kernel_rfl) (by kernel_rfl) .nil fun a8 hf8 => ?_
  refine p_done (by kernel_rfl) ?_
  refine n_then ?_
  refine w_ret (by kernel_rfl) ?_
  refine p_ret (os := []) (v := .func (.func 130) #[] #[pB b4 0]) (obs := []) hf8 (by kernel_rfl) .nil ?_
  refine ⟨_, rfl, fun a9 hf9 => ?_⟩
  refine ⟨fun _ => trivial, ?_⟩
  refine p_done (by kernel_rfl) ?_
  refine n_then ?_
  refine w_block (id := 0) (by kernel_rfl) ?_
  have hf10 := Fr.keep (ks := [3, 4, 7]) (r := [(3, pB b2 0), (4, pB b3 0), (7, .func (.func 130) #[] #[pB b4 0])]) hf9 (by kernel_rfl)
  refine w_range (g := 7) (gf := 130) (lb := #[pB b4 0]) (by kernel_rfl) hf10 hS4 (by kernel_rfl) (fun l => by kernel_rfl) fun ps1 A1 B1 hps1 hA1 hB1 l1 D1 ww5 hS5 => ?_
  refine calls_intro (N := 40) Try.func130 (by kernel_rfl) fun a10 hf11 => ?_
  refine w_seq (by kernel_rfl) ?_
  refine w_seq (by kernel_rfl) ?_
  refine w_reg (by kernel_rfl) ?_
  refine p_run 4 [.slice o_x0 x0.length c_x0] [0, 1, 8] (fl' := [(0, .func (.yield l1) #[] #[]), (1, pB b4 0), (8, .bool ((x0.length : Int) == (1 : Int)))]) (obs := [.cell ⟨b4, 0, none⟩ (.slice o_x0 x0.length c_x0)]) trivial hf11 (by kernel_rfl) (by kernel_rfl) (.cell (hS5.box (i := 2) rfl (j := 0) rfl) .nil) fun a11 hf12 => ?_
  refine p_done (by kernel_rfl) ?_
  refine n_then ?_
  refine w_if hf12 (b := ((x0.length : Int) == (1 : Int))) (by kernel_rfl) (fun hb1 => ?_) (fun hb1 => ?_)
  · have hr1 := cond_t hb1 hr
    refine w_seq (by kernel_rfl) ?_
    refine w_regDY (by kernel_rfl) 10 [(0, true), (1, true), (2, true), (3, true), (4, true), (5, true), (6, true), (7, true), (8, true), (9, true)] [] (by kernel_rfl) ?_
    have hS6 := hS5.drew
    refine p_firstP 2 [] [1, 9, 10] (fl' := [(1, pB b4 0), (9, .func (.yield l1) #[] #[]), (10, pB b4 0)]) (obs := []) hf12 (by kernel_rfl) (by kernel_rfl) (fun _ => .nil) fun a12 hf13 => ?_
    refine p_firstE 1 [.slice o_x0 x0.length c_x0] [1, 9, 11] (fl' := [(1, pB b4 0), (9, .func (.yield l1) #[] #[]), (11, .slice o_x0 x0.length c_x0)]) (obs := [.cell ⟨b4, 0, none⟩ (.slice o_x0 x0.length c_x0)]) (by kernel_rfl) hf13 (by kernel_rfl) (by kernel_rfl) (.cell (hS6.box (i := 2) rfl (j := 0) rfl) .nil) fun a13 hf14 => ?_
    obtain ⟨p3, hp172, hr2⟩ := bind_some hr1
    obtain ⟨ad1, ho1, hb2, cc1, hc1, hk1⟩ := SliceR.getI hx_x0 hp172
    subst hc1
    refine p_firstP 1 [.pointer (some ad1)] [1, 9, 12] (fl' := [(1, pB b4 0), (9, .func (.yield l1) #[] #[]), (12, .pointer (some (ad1.add (Int.toNat 0 * 3))))]) (obs := [.prop (o_x0 = some ad1), .prop (0 ≤ (0 : Int) ∧ (0 : Int) < (x0.length : Nat))]) hf14 (by kernel_rfl) (by kernel_rfl) (fun _ => (.prop ho1 (.prop hb2 .nil))) fun a14 hf15 => ?_
    refine p_firstE 1 [vI p3.x, vI p3.lo, vI p3.hi] [1, 9, 13] (fl' := [(1, pB b4 0), (9, .func (.yield l1) #[] #[]), (13, .agg #[vI p3.x, vI p3.lo, vI p3.hi])]) (obs := [.cell ((ad1.add (Int.toNat 0 * 3)).add 0) (vI p3.x), .cell ((ad1.add (Int.toNat 0 * 3)).add 1) (vI p3.lo), .cell ((ad1.add (Int.toNat 0 * 3)).add 2) (vI p3.hi)]) (by kernel_rfl) hf15 (by kernel_rfl) (by kernel_rfl) (.cell (hS6.cell (hk1 0 _ rfl)) (.cell (hS6.cell (hk1 1 _ rfl)) (.cell (hS6.cell (hk1 2 _ rfl)) .nil))) fun a15 hf16 => ?_
    refine p_firstP 1 [] [9, 13, 14] (fl' := [(9, .func (.yield l1) #[] #[]), (13, .agg #[vI p3.x, vI p3.lo, vI p3.hi]), (14, pB b4 0)]) (obs := []) hf16 (by kernel_rfl) (by kernel_rfl) (fun _ => .nil) fun a16 hf17 => ?_
    refine p_firstE 1 [.slice o_x0 x0.length c_x0] [9, 13, 15] (fl' := [(9, .func (.yield l1) #[] #[]), (13, .agg #[vI p3.x, vI p3.lo, vI p3.hi]), (15, .slice o_x0 x0.length c_x0)]) (obs := [.cell ⟨b4, 0, none⟩ (.slice o_x0 x0.length c_x0)]) (by kernel_rfl) hf17 (by kernel_rfl) (by kernel_rfl) (.cell (hS6.box (i := 2) rfl (j := 0) rfl) .nil) fun a17 hf18 => ?_
    obtain ⟨p4, hp189, hr3⟩ := bind_some hr2
    obtain ⟨ad2, ho2, hb3, cc2, hc2, hk2⟩ := SliceR.getI hx_x0 hp189
    subst hc2
    refine p_firstP 1 [.pointer (some ad2)] [9, 13, 16] (fl' := [(9, .func (.yield l1) #[] #[]), (13, .agg #[vI p3.x, vI p3.lo, vI p3.hi]), (16, .pointer (some (ad2.add (Int.toNat 0 * 3))))]) (obs := [.prop (o_x0 = some ad2), .prop (0 ≤ (0 : Int) ∧ (0 : Int) < (x0.length : Nat))]) hf18 (by kernel_rfl) (by kernel_rfl) (fun _ => (.prop ho2 (.prop hb3 .nil))) fun a18 hf19 => ?_
    refine p_firstE 1 [vI p4.x, vI p4.lo, vI p4.hi] [9, 13, 17] (fl' := [(9, .func (.yield l1) #[] #[]), (13, .agg #[vI p3.x, vI p3.lo, vI p3.hi]), (17, .agg #[vI p4.x, vI p4.lo, vI p4.hi])]) (obs := [.cell ((ad2.add (Int.toNat 0 * 3)).add 0) (vI p4.x), .cell ((ad2.add (Int.toNat 0 * 3)).add 1) (vI p4.lo), .cell ((ad2.add (Int.toNat 0 * 3)).add 2) (vI p4.hi)]) (by kernel_rfl) hf19 (by kernel_rfl) (by kernel_rfl) (.cell (hS6.cell (hk2 0 _ rfl)) (.cell (hS6.cell (hk2 1 _ rfl)) (.cell (hS6.cell (hk2 2 _ rfl)) .nil))) fun a19 hf20 => ?_
    refine p_firstP 1 [] [9, 18] (fl' := [(9, .func (.yield l1) #[] #[]), (18, .agg #[vI p3.x, vI p3.lo, vI p3.hi, vI p4.x, vI p4.lo, vI p4.hi])]) (obs := []) hf20 (by kernel_rfl) (by kernel_rfl) (fun _ => .nil) fun a20 hf21 => ?_
    refine p_done (by kernel_rfl) ?_
    refine p_yield (d := some 19) (l := l1) (args := #[.agg #[vI p3.x, vI p3.lo, vI p3.hi, vI p4.x, vI p4.lo, vI p4.hi]]) hf21 (by kernel_rfl) hS6 (j := 0) rfl (by rw [hps1]; kernel_rfl) fun a21 hf22 => ?_
    rw [hps1] at hf22
    refine cw_eq hA1 ?_
    refine w_reg (by kernel_rfl) ?_
    refine p_box (i := 0) (d := (some 5)) (cs := [vI 0, vI 0, vI 0, vI 0, vI 0, vI 0]) (T := 127) (v := fun b5 => pB b5 0) hS6 hf22 (fun b => by kernel_rfl) fun b5 ww6 a22 hS7 hf23 => ⟨fun _ => trivial, ?_⟩
    refine p_store_eq (i := 1) (j := 0) (b := b5) (off := 0) (vs := [vI p3.x, vI p3.lo, vI p3.hi, vI p4.x, vI p4.lo, vI p4.hi]) (cs' := [vI p3.x, vI p3.lo, vI p3.hi, vI p4.x, vI p4.lo, vI p4.hi]) hS7 hf23 rfl (by kernel_rfl) (by kernel_rfl) rfl fun ww7 a23 hS8 hf24 => ⟨fun _ => trivial, ?_⟩
    refine p_done (by kernel_rfl) ?_
    refine n_then ?_
    refine p_begin hS8 (j := 1) rfl fun ww8 hS9 => ?_
    refine cw_eq hB1 ?_
    refine w_block (id := 1) (by kernel_rfl) ?_
    refine w_seq (by kernel_rfl) ?_
    refine w_reg (by kernel_rfl) ?_
    refine p_run 2 [vI p3.x, vI p3.lo, vI p3.hi, vI p4.x, vI p4.lo, vI p4.hi, vI x1] [3, 4, 5, 9, 10] (fl' := [(3, pB b2 0), (4, pB b3 0), (5, pB b5 0), (9, .agg #[vI p3.x, vI p3.lo, vI p3.hi, vI p4.x, vI p4.lo, vI p4.hi]), (10, vI x1)]) (obs := [.cell ⟨b5, 0, none⟩ (vI p3.x), .cell ⟨b5, 1, none⟩ (vI p3.lo), .cell ⟨b5, 2, none⟩ (vI p3.hi), .cell ⟨b5, 3, none⟩ (vI p4.x), .cell ⟨b5, 4, none⟩ (vI p4.lo), .cell ⟨b5, 5, none⟩ (vI p4.hi), .cell ⟨b2, 0, none⟩ (vI x1)]) trivial hf24 (by kernel_rfl) (by kernel_rfl) (.cell (hS9.box (i := 0) rfl (j := 0) rfl) (.cell (hS9.box (i := 0) rfl (j := 1) rfl) (.cell (hS9.box (i := 0) rfl (j := 2) rfl) (.cell (hS9.box (i := 0) rfl (j := 3) rfl) (.cell (hS9.box (i := 0) rfl (j := 4) rfl) (.cell (hS9.box (i := 0) rfl (j := 5) rfl) (.cell (hS9.box (i := 5) rfl (j := 0) rfl) .nil))))))) fun a24 hf25 => ?_
    obtain ⟨r3, hd1, hr4⟩ := bind_some hr3
    refine p_call (i := 2) (d := some 11) (f := 120) (args := #[.agg #[vI p3.x, vI p3.lo, vI p3.hi, vI p4.x, vI p4.lo, vI p4.hi], vI x1]) hf25 (by kernel_rfl) (f120_ok fuel p3.x p3.lo p3.hi p4.x p4.lo p4.hi x1 r3 hd1 h _ _ hS9 ) ?_
    rintro v1 ww9 a25 ⟨z1, k2, rfl, hS10⟩ hf26
    refine ⟨fun _ => trivial, ?_⟩
    refine p_done (by kernel_rfl) ?_
    refine n_then ?_
    refine w_if hf26 (b := r3) (by kernel_rfl) (fun hb4 => ?_) (fun hb4 => ?_)
    · have hr5 := cond_t hb4 hr4
      refine w_seq (by kernel_rfl) ?_
      refine w_reg (by kernel_rfl) ?_
      refine p_run 2 [vI p3.x, vI p3.lo, vI p3.hi, vI p4.x, vI p4.lo, vI p4.hi, vI x1] [4, 12, 13] (fl' := [(4, pB b3 0), (12, .agg #[vI p3.x, vI p3.lo, vI p3.hi, vI p4.x, vI p4.lo, vI p4.hi]), (13, vI x1)]) (obs := [.cell ⟨b5, 0, none⟩ (vI p3.x), .cell ⟨b5, 1, none⟩ (vI p3.lo), .cell ⟨b5, 2, none⟩ (vI p3.hi), .cell ⟨b5, 3, none⟩ (vI p4.x), .cell ⟨b5, 4, none⟩ (vI p4.lo), .cell ⟨b5, 5, none⟩ (vI p4.hi), .cell ⟨b2, 0, none⟩ (vI x1)]) trivial hf26 (by kernel_rfl) (by kernel_rfl) (.cell (hS10.box (i := 0) rfl (j := 0) rfl) (.cell (hS10.box (i := 0) rfl (j := 1) rfl) (.cell (hS10.box (i := 0) rfl (j := 2) rfl) (.cell (hS10.box (i := 0) rfl (j := 3) rfl) (.cell (hS10.box (i := 0) rfl (j := 4) rfl) (.cell (hS10.box (i := 0) rfl (j := 5) rfl) (.cell (hS10.box (i := 5) rfl (j := 0) rfl) .nil))))))) fun a26 hf27 => ?_
      obtain ⟨r4, hd2, hr6⟩ := bind_some hr5
      refine p_call (i := 2) (d := some 14) (f := 121) (args := #[.agg #[vI p3.x, vI p3.lo, vI p3.hi, vI p4.x, vI p4.lo, vI p4.hi], vI x1]) hf27 (by kernel_rfl) (f121_ok fuel p3.x p3.lo p3.hi p4.x p4.lo p4.hi x1 r4 hd2 z1 _ _ hS10 ) ?_
      rintro v2 ww10 a27 ⟨rfl, hS11⟩ hf28
      refine ⟨fun _ => trivial, ?_⟩
      refine p_store_eq (i := 3) (j := 4) (b := b3) (off := 0) (vs := [vI r4.1, vI r4.2]) (cs' := [vI r4.1, vI r4.2]) hS11 hf28 rfl (by kernel_rfl) (by kernel_rfl) rfl fun ww11 a28 hS12 hf29 => ⟨fun _ => trivial, ?_⟩
      refine p_done (by kernel_rfl) ?_
      refine n_then ?_
      refine w_ret (by kernel_rfl) ?_
      refine r_block ?_
      refine p_roundR hS12 (j := 1) rfl fun ww12 a29 hS13 hf30 => ?_
      have hS14 := St.drop 1 hS13
      refine p_done (by kernel_rfl) ?_
      refine n_then ?_
      refine w_ret (by kernel_rfl) ?_
      refine r_then ?_
      refine p_ret (os := []) (v := .tuple #[]) (obs := []) hf30 (by kernel_rfl) .nil ?_
      refine ⟨_, rfl, fun a30 hf31 => ?_⟩
      refine p_jumpR hS14 (j := 0) rfl (fun h => by cases h) fun ww13 hS15 => ?_
      refine r_block ?_
      refine r_then ?_
      refine p_retM hf31 ?_
      refine p_mark hS15 (j := 1) rfl fun ww14 hS16 => ?_
      refine p_end (os := [vI r4.1, vI r4.2]) (v := .agg #[vI r4.1, vI r4.2]) (obs := [.cell ⟨b3, 0, none⟩ (vI r4.1), .cell ⟨b3, 1, none⟩ (vI r4.2)]) hf31 (by kernel_rfl) (.cell (hS16.box (i := 3) rfl (j := 0) rfl) (.cell (hS16.box (i := 3) rfl (j := 1) rfl) .nil)) ?_
      obtain rfl := some_eq hr6
      exact ⟨_, rfl, z1, k2, rfl, (St.drop 6 hS16)⟩
    · have hr7 := cond_f hb4 hr4
      refine w_skip (by kernel_rfl) ?_
      refine n_block ?_
      refine p_roundN hS10 (j := 1) rfl fun ww15 a31 hS17 hf32 => ?_
      have hS18 := St.drop 1 hS17
      refine p_done (by kernel_rfl) ?_
      refine n_then ?_
      refine w_ret (by kernel_rfl) ?_
      refine r_then ?_
      refine p_ret (os := []) (v := .tuple #[]) (obs := []) hf32 (by kernel_rfl) .nil ?_
      refine ⟨_, rfl, fun a32 hf33 => ?_⟩
      refine p_jump0 hS18 (j := 0) rfl (fun h => by cases h) fun ww16 hS19 => ?_
      refine n_block ?_
      refine n_then ?_
      refine w_seq (by kernel_rfl) ?_
      refine w_reg (by kernel_rfl) ?_
      refine p_run 1 [] [4, 15] (fl' := [(4, pB b3 0), (15, .agg #[vI 0, vI 0])]) (obs := []) trivial hf33 (by kernel_rfl) (by kernel_rfl) .nil fun a33 hf34 => ?_
      refine p_store_eq (i := 1) (j := 3) (b := b3) (off := 0) (vs := [vI 0, vI 0]) (cs' := [vI 0, vI 0]) hS19 hf34 rfl (by kernel_rfl) (by kernel_rfl) rfl fun ww17 a34 hS20 hf35 => ⟨fun _ => trivial, ?_⟩
      refine p_done (by kernel_rfl) ?_
      refine n_then ?_
      refine w_ret (by kernel_rfl) ?_
      refine p_retM hf35 ?_
      refine p_mark hS20 (j := 1) rfl fun ww18 hS21 => ?_
      refine p_end (os := [vI 0, vI 0]) (v := .agg #[vI 0, vI 0]) (obs := [.cell ⟨b3, 0, none⟩ (vI 0), .cell ⟨b3, 1, none⟩ (vI 0)]) hf35 (by kernel_rfl) (.cell (hS21.box (i := 3) rfl (j := 0) rfl) (.cell (hS21.box (i := 3) rfl (j := 1) rfl) .nil)) ?_
      obtain rfl := some_eq hr7
      exact ⟨_, rfl, z1, k2, rfl, (St.drop 6 hS21)⟩
  · have hr8 := cond_f hb1 hr
    refine w_skip (by kernel_rfl) ?_
    refine n_then ?_
    refine w_seq (by kernel_rfl) ?_
    refine w_reg (by kernel_rfl) ?_
    obtain ⟨d1, hd3, hr9⟩ := bind_some hr8
    obtain ⟨e1, q1, hv1, hb5, hx1⟩ := SliceR.subV hx_x0 hd3
    refine p_run 5 [.slice o_x0 x0.length c_x0, .slice e1 d1.length q1] [0, 1, 22, 23, 24] (fl' := [(0, .func (.yield l1) #[] #[]), (1, pB b4 0), (22, .slice e1 d1.length q1), (23, vI (d1.length : Int)), (24, vI 0)]) (obs := [.cell ⟨b4, 0, none⟩ (.slice o_x0 x0.length c_x0), .prop ((.slice e1 d1.length q1 : Value) = .slice (subO o_x0 c_x0 (Int.toNat 1) 3) (Int.toNat (x0.length : Int) - Int.toNat 1) (c_x0 - Int.toNat 1)), .prop ((0 : Int) ≤ 1 ∧ (1 : Int) ≤ (x0.length : Int) ∧ (x0.length : Int) ≤ (c_x0 : Nat) ∧ x0.length ≤ c_x0)]) trivial hf12 (by kernel_rfl) (by kernel_rfl) (.cell (hS5.box (i := 2) rfl (j := 0) rfl) (.prop hv1 (.prop hb5 .nil))) fun a35 hf36 => ?_
    refine p_done (by kernel_rfl) ?_
    refine n_then ?_
    refine w_block (id := 0) (by kernel_rfl) ?_
    have hf37 := Fr.keep (ks := [0, 1, 22, 23, 24]) (r := [(0, .func (.yield l1) #[] #[]), (1, pB b4 0), (22, .slice e1 d1.length q1), (23, vI (d1.length : Int)), (24, vI 0)]) hf36 (by kernel_rfl)
    refine w_loop (by kernel_rfl) (fun n a w => ∃ z2 : Zone, ∃ y1 : Int, Zone.le h z2 ∧ Fr a 40 [(0, .func (.yield l1) #[] #[]), (1, pB b4 0), (22, .slice e1 d1.length q1), (23, vI (d1.length : Int)), (24, vI y1)] ∧ St z2 (loopA l1 16 [(3, pB b2 0), (4, pB b3 0), (7, .func (.func 130) #[] #[pB b4 0])] ps1 A1 B1 D1 .ready none :: defA D1 :: box b4 [.slice o_x0 x0.length c_x0] 24 :: box b3 [vI 0, vI 0] 41 :: box b2 [vI x1] 3 :: box b1 [.slice o_x0 x0.length c_x0] 24 :: L) w ∧ (F88_l1 fuel x0 x1 d1 n y1) = some r) fuel ⟨h, 0, (Zone.le_refl _), hf37, hS5, hr9⟩ ?_
    rintro n2 a36 ww19 ⟨z2, y1, k3, hf38, hS22, hr10⟩
    cases n2 with
    | zero => cases hr10
    | succ n1 =>
    refine w_seq (by kernel_rfl) ?_
    refine w_reg (by kernel_rfl) ?_
    refine p_run 1 [] [0, 1, 22, 23, 24, 25] (fl' := [(0, .func (.yield l1) #[] #[]), (1, pB b4 0), (22, .slice e1 d1.length q1), (23, vI (d1.length : Int)), (24, vI y1), (25, .bool (decide (y1 < (d1.length : Int))))]) (obs := []) trivial hf38 (by kernel_rfl) (by kernel_rfl) .nil fun a37 hf39 => ?_
    refine p_done (by kernel_rfl) ?_
    refine n_then ?_
    refine w_seq (by kernel_rfl) ?_
    refine w_if hf39 (b := (decide (y1 < (d1.length : Int)))) (by kernel_rfl) (fun hb6 => ?_) (fun hb6 => ?_)
    · have hr11 := cond_t hb6 hr10
      refine w_skip (by kernel_rfl) ?_
      refine n_then ?_
      refine w_seq (by kernel_rfl) ?_
      refine w_block (id := 1) (by kernel_rfl) ?_
      refine w_seq (by kernel_rfl) ?_
      refine w_reg (by kernel_rfl) ?_
      obtain ⟨p1, hp1102, hr12⟩ := bind_some hr11
      obtain ⟨ad3, ho3, hb7, cc3, hc3, hk3⟩ := SliceR.getI (SliceR.mono k3 hx1) hp1102
      subst hc3
      refine p_run 3 [.pointer (some ad3), vI p1.x, vI p1.lo, vI p1.hi] [0, 1, 22, 23, 24, 26, 28] (fl' := [(0, .func (.yield l1) #[] #[]), (1, pB b4 0), (22, .slice e1 d1.length q1), (23, vI (d1.length : Int)), (24, vI y1), (26, vI y1), (28, .agg #[vI p1.x, vI p1.lo, vI p1.hi])]) (obs := [.prop (e1 = some ad3), .prop (0 ≤ y1 ∧ y1 < (d1.length : Nat)), .cell ((ad3.add (Int.toNat y1 * 3)).add 0) (vI p1.x), .cell ((ad3.add (Int.toNat y1 * 3)).add 1) (vI p1.lo), .cell ((ad3.add (Int.toNat y1 * 3)).add 2) (vI p1.hi)]) trivial hf39 (by kernel_rfl) (by kernel_rfl) (.prop ho3 (.prop hb7 (.cell (hS22.cell (hk3 0 _ rfl)) (.cell (hS22.cell (hk3 1 _ rfl)) (.cell (hS22.cell (hk3 2 _ rfl)) .nil))))) fun a38 hf40 => ?_
      refine p_box (i := 3) (d := (some 4)) (cs := [vI 0, vI 0, vI 0]) (T := 52) (v := fun b6 => pB b6 0) hS22 hf40 (fun b => by kernel_rfl) fun b6 ww20 a39 hS23 hf41 => ⟨fun _ => trivial, ?_⟩
      refine p_run 1 [] [0, 1, 3, 4, 22, 23, 24, 28] (fl' := [(0, .func (.yield l1) #[] #[]), (1, pB b4 0), (3, vI y1), (4, pB b6 0), (22, .slice e1 d1.length q1), (23, vI (d1.length : Int)), (24, vI y1), (28, .agg #[vI p1.x, vI p1.lo, vI p1.hi])]) (obs := []) trivial hf41 (by kernel_rfl) (by kernel_rfl) .nil fun a40 hf42 => ?_
      refine p_store_eq (i := 5) (j := 0) (b := b6) (off := 0) (vs := [vI p1.x, vI p1.lo, vI p1.hi]) (cs' := [vI p1.x, vI p1.lo, vI p1.hi]) hS23 hf42 rfl (by kernel_rfl) (by kernel_rfl) rfl fun ww21 a41 hS24 hf43 => ⟨fun _ => trivial, ?_⟩
      refine p_done (by kernel_rfl) ?_
      refine n_then ?_
      refine w_seq (by kernel_rfl) ?_
      refine w_regDY (by kernel_rfl) 8 [(0, true), (1, true), (2, true), (3, true), (4, true), (5, true), (6, true), (7, true)] [(9, false)] (by kernel_rfl) ?_
      have hS25 := hS24.drew
      refine p_firstP 2 [] [0, 1, 3, 4, 22, 23, 24, 29, 30] (fl' := [(0, .func (.yield l1) #[] #[]), (1, pB b4 0), (3, vI y1), (4, pB b6 0), (22, .slice e1 d1.length q1), (23, vI (d1.length : Int)), (24, vI y1), (29, .func (.yield l1) #[] #[]), (30, pB b4 0)]) (obs := []) hf43 (by kernel_rfl) (by kernel_rfl) (fun _ => .nil) fun a42 hf44 => ?_
      refine p_firstE 1 [.slice o_x0 x0.length c_x0] [0, 1, 3, 4, 22, 23, 24, 29, 31] (fl' := [(0, .func (.yield l1) #[] #[]), (1, pB b4 0), (3, vI y1), (4, pB b6 0), (22, .slice e1 d1.length q1), (23, vI (d1.length : Int)), (24, vI y1), (29, .func (.yield l1) #[] #[]), (31, .slice o_x0 x0.length c_x0)]) (obs := [.cell ⟨b4, 0, none⟩ (.slice o_x0 x0.length c_x0)]) (by kernel_rfl) hf44 (by kernel_rfl) (by kernel_rfl) (.cell (hS25.box (i := 3) rfl (j := 0) rfl) .nil) fun a43 hf45 => ?_
      obtain ⟨p2, hp1129, hr13⟩ := bind_some hr12
      obtain ⟨ad4, ho4, hb8, cc4, hc4, hk4⟩ := SliceR.getI (SliceR.mono k3 hx_x0) hp1129
      subst hc4
      refine p_firstP 2 [.pointer (some ad4)] [0, 1, 4, 22, 23, 24, 29, 33] (fl' := [(0, .func (.yield l1) #[] #[]), (1, pB b4 0), (4, pB b6 0), (22, .slice e1 d1.length q1), (23, vI (d1.length : Int)), (24, vI y1), (29, .func (.yield l1) #[] #[]), (33, .pointer (some (ad4.add (Int.toNat y1 * 3))))]) (obs := [.prop (o_x0 = some ad4), .prop (0 ≤ y1 ∧ y1 < (x0.length : Nat))]) hf45 (by kernel_rfl) (by kernel_rfl) (fun _ => (.prop ho4 (.prop hb8 .nil))) fun a44 hf46 => ?_
      refine p_firstE 2 [vI p2.x, vI p2.lo, vI p2.hi, vI p1.x, vI p1.lo, vI p1.hi] [0, 1, 22, 23, 24, 29, 34, 35] (fl' := [(0, .func (.yield l1) #[] #[]), (1, pB b4 0), (22, .slice e1 d1.length q1), (23, vI (d1.length : Int)), (24, vI y1), (29, .func (.yield l1) #[] #[]), (34, .agg #[vI p2.x, vI p2.lo, vI p2.hi]), (35, .agg #[vI p1.x, vI p1.lo, vI p1.hi])]) (obs := [.cell ((ad4.add (Int.toNat y1 * 3)).add 0) (vI p2.x), .cell ((ad4.add (Int.toNat y1 * 3)).add 1) (vI p2.lo), .cell ((ad4.add (Int.toNat y1 * 3)).add 2) (vI p2.hi), .cell ⟨b6, 0, none⟩ (vI p1.x), .cell ⟨b6, 1, none⟩ (vI p1.lo), .cell ⟨b6, 2, none⟩ (vI p1.hi)]) (by kernel_rfl) hf46 (by kernel_rfl) (by kernel_rfl) (.cell (hS25.cell (hk4 0 _ rfl)) (.cell (hS25.cell (hk4 1 _ rfl)) (.cell (hS25.cell (hk4 2 _ rfl)) (.cell (hS25.box (i := 0) rfl (j := 0) rfl) (.cell (hS25.box (i := 0) rfl (j := 1) rfl) (.cell (hS25.box (i := 0) rfl (j := 2) rfl) .nil)))))) fun a45 hf47 => ?_
      refine p_firstP 1 [] [0, 1, 22, 23, 24, 29, 36] (fl' := [(0, .func (.yield l1) #[] #[]), (1, pB b4 0), (22, .slice e1 d1.length q1), (23, vI (d1.length : Int)), (24, vI y1), (29, .func (.yield l1) #[] #[]), (36, .agg #[vI p2.x, vI p2.lo, vI p2.hi, vI p1.x, vI p1.lo, vI p1.hi])]) (obs := []) hf47 (by kernel_rfl) (by kernel_rfl) (fun _ => .nil) fun a46 hf48 => ?_
      refine p_done (by kernel_rfl) ?_
      refine p_yield (d := some 37) (l := l1) (args := #[.agg #[vI p2.x, vI p2.lo, vI p2.hi, vI p1.x, vI p1.lo, vI p1.hi]]) hf48 (by kernel_rfl) hS25 (j := 1) rfl (by rw [hps1]; kernel_rfl) fun a47 hf49 => ?_
      rw [hps1] at hf49
      refine cw_eq hA1 ?_
      refine w_reg (by kernel_rfl) ?_
      refine p_box (i := 0) (d := (some 5)) (cs := [vI 0, vI 0, vI 0, vI 0, vI 0, vI 0]) (T := 127) (v := fun b7 => pB b7 0) hS25 hf49 (fun b => by kernel_rfl) fun b7 ww22 a48 hS26 hf50 => ⟨fun _ => trivial, ?_⟩
      refine p_store_eq (i := 1) (j := 0) (b := b7) (off := 0) (vs := [vI p2.x, vI p2.lo, vI p2.hi, vI p1.x, vI p1.lo, vI p1.hi]) (cs' := [vI p2.x, vI p2.lo, vI p2.hi, vI p1.x, vI p1.lo, vI p1.hi]) hS26 hf50 rfl (by kernel_rfl) (by kernel_rfl) rfl fun ww23 a49 hS27 hf51 => ⟨fun _ => trivial, ?_⟩
      refine p_done (by kernel_rfl) ?_
      refine n_then ?_
      refine p_begin hS27 (j := 2) rfl fun ww24 hS28 => ?_
      refine cw_eq hB1 ?_
      refine w_block (id := 1) (by kernel_rfl) ?_
      refine w_seq (by kernel_rfl) ?_
      refine w_reg (by kernel_rfl) ?_
      refine p_run 2 [vI p2.x, vI p2.lo, vI p2.hi, vI p1.x, vI p1.lo, vI p1.hi, vI x1] [3, 4, 5, 9, 10] (fl' := [(3, pB b2 0), (4, pB b3 0), (5, pB b7 0), (9, .agg #[vI p2.x, vI p2.lo, vI p2.hi, vI p1.x, vI p1.lo, vI p1.hi]), (10, vI x1)]) (obs := [.cell ⟨b7, 0, none⟩ (vI p2.x), .cell ⟨b7, 1, none⟩ (vI p2.lo), .cell ⟨b7, 2, none⟩ (vI p2.hi), .cell ⟨b7, 3, none⟩ (vI p1.x), .cell ⟨b7, 4, none⟩ (vI p1.lo), .cell ⟨b7, 5, none⟩ (vI p1.hi), .cell ⟨b2, 0, none⟩ (vI x1)]) trivial hf51 (by kernel_rfl) (by kernel_rfl) (.cell (hS28.box (i := 0) rfl (j := 0) rfl) (.cell (hS28.box (i := 0) rfl (j := 1) rfl) (.cell (hS28.box (i := 0) rfl (j := 2) rfl) (.cell (hS28.box (i := 0) rfl (j := 3) rfl) (.cell (hS28.box (i := 0) rfl (j := 4) rfl) (.cell (hS28.box (i := 0) rfl (j := 5) rfl) (.cell (hS28.box (i := 6) rfl (j := 0) rfl) .nil))))))) fun a50 hf52 => ?_
      obtain ⟨r1, hd4, hr14⟩ := bind_some hr13
      refine p_call (i := 2) (d := some 11) (f := 120) (args := #[.agg #[vI p2.x, vI p2.lo, vI p2.hi, vI p1.x, vI p1.lo, vI p1.hi], vI x1]) hf52 (by kernel_rfl) (f120_ok fuel p2.x p2.lo p2.hi p1.x p1.lo p1.hi x1 r1 hd4 z2 _ _ hS28 ) ?_
      rintro v3 ww25 a51 ⟨z3, k4, rfl, hS29⟩ hf53
      refine ⟨fun _ => trivial, ?_⟩
      refine p_done (by kernel_rfl) ?_
      refine n_then ?_
      refine w_if hf53 (b := r1) (by kernel_rfl) (fun hb9 => ?_) (fun hb9 => ?_)
      · have hr15 := cond_t hb9 hr14
        refine w_seq (by kernel_rfl) ?_
        refine w_reg (by kernel_rfl) ?_
        refine p_run 2 [vI p2.x, vI p2.lo, vI p2.hi, vI p1.x, vI p1.lo, vI p1.hi, vI x1] [4, 12, 13] (fl' := [(4, pB b3 0), (12, .agg #[vI p2.x, vI p2.lo, vI p2.hi, vI p1.x, vI p1.lo, vI p1.hi]), (13, vI x1)]) (obs := [.cell ⟨b7, 0, none⟩ (vI p2.x), .cell ⟨b7, 1, none⟩ (vI p2.lo), .cell ⟨b7, 2, none⟩ (vI p2.hi), .cell ⟨b7, 3, none⟩ (vI p1.x), .cell ⟨b7, 4, none⟩ (vI p1.lo), .cell ⟨b7, 5, none⟩ (vI p1.hi), .cell ⟨b2, 0, none⟩ (vI x1)]) trivial hf53 (by kernel_rfl) (by kernel_rfl) (.cell (hS29.box (i := 0) rfl (j := 0) rfl) (.cell (hS29.box (i := 0) rfl (j := 1) rfl) (.cell (hS29.box (i := 0) rfl (j := 2) rfl) (.cell (hS29.box (i := 0) rfl (j := 3) rfl) (.cell (hS29.box (i := 0) rfl (j := 4) rfl) (.cell (hS29.box (i := 0) rfl (j := 5) rfl) (.cell (hS29.box (i := 6) rfl (j := 0) rfl) .nil))))))) fun a52 hf54 => ?_
        obtain ⟨r2, hd5, hr16⟩ := bind_some hr15
        refine p_call (i := 2) (d := some 14) (f := 121) (args := #[.agg #[vI p2.x, vI p2.lo, vI p2.hi, vI p1.x, vI p1.lo, vI p1.hi], vI x1]) hf54 (by kernel_rfl) (f121_ok fuel p2.x p2.lo p2.hi p1.x p1.lo p1.hi x1 r2 hd5 z3 _ _ hS29 ) ?_
        rintro v4 ww26 a53 ⟨rfl, hS30⟩ hf55
        refine ⟨fun _ => trivial, ?_⟩
        refine p_store_eq (i := 3) (j := 5) (b := b3) (off := 0) (vs := [vI r2.1, vI r2.2]) (cs' := [vI r2.1, vI r2.2]) hS30 hf55 rfl (by kernel_rfl) (by kernel_rfl) rfl fun ww27 a54 hS31 hf56 => ⟨fun _ => trivial, ?_⟩
        refine p_done (by kernel_rfl) ?_
        refine n_then ?_
        refine w_ret (by kernel_rfl) ?_
        refine r_block ?_
        refine p_roundR hS31 (j := 2) rfl fun ww28 a55 hS32 hf57 => ?_
        have hS33 := St.drop 1 hS32
        refine p_run 1 [] [0, 1, 22, 23, 24, 38] (fl' := [(0, .func (.yield l1) #[] #[]), (1, pB b4 0), (22, .slice e1 d1.length q1), (23, vI (d1.length : Int)), (24, vI y1), (38, .bool true)]) (obs := []) trivial hf57 (by kernel_rfl) (by kernel_rfl) .nil fun a56 hf58 => ?_
        refine p_done (by kernel_rfl) ?_
        refine n_then ?_
        refine w_if_true hf58 (by kernel_rfl) ?_
        refine w_ret (by kernel_rfl) ?_
        refine r_block ?_
        refine r_then ?_
        refine r_then ?_
        refine r_block ?_
        refine p_ret (os := []) (v := .tuple #[]) (obs := []) hf58 (by kernel_rfl) .nil ?_
        refine ⟨_, rfl, fun a57 hf59 => ?_⟩
        refine p_jumpR hS33 (j := 1) rfl (fun h => by cases h) fun ww29 hS34 => ?_
        refine r_block ?_
        refine r_then ?_
        refine p_retM hf59 ?_
        refine p_mark hS34 (j := 2) rfl fun ww30 hS35 => ?_
        refine p_end (os := [vI r2.1, vI r2.2]) (v := .agg #[vI r2.1, vI r2.2]) (obs := [.cell ⟨b3, 0, none⟩ (vI r2.1), .cell ⟨b3, 1, none⟩ (vI r2.2)]) hf59 (by kernel_rfl) (.cell (hS35.box (i := 4) rfl (j := 0) rfl) (.cell (hS35.box (i := 4) rfl (j := 1) rfl) .nil)) ?_
        obtain rfl := some_eq hr16
        exact ⟨_, rfl, z3, (Zone.le_trans k3 k4), rfl, (St.drop 7 hS35)⟩
      · have hr17 := cond_f hb9 hr14
        refine w_skip (by kernel_rfl) ?_
        refine n_block ?_
        refine p_roundN hS29 (j := 2) rfl fun ww31 a58 hS36 hf60 => ?_
        have hS37 := St.drop 1 hS36
        refine p_run 1 [] [0, 1, 22, 23, 24, 38] (fl' := [(0, .func (.yield l1) #[] #[]), (1, pB b4 0), (22, .slice e1 d1.length q1), (23, vI (d1.length : Int)), (24, vI y1), (38, .bool false)]) (obs := []) trivial hf60 (by kernel_rfl) (by kernel_rfl) .nil fun a59 hf61 => ?_
        refine p_done (by kernel_rfl) ?_
        refine n_then ?_
        refine w_if_false hf61 (by kernel_rfl) ?_
        refine w_skip (by kernel_rfl) ?_
        refine n_block ?_
        refine n_then ?_
        refine w_reg (by kernel_rfl) ?_
        refine p_run 2 [] [0, 1, 22, 23, 24] (fl' := [(0, .func (.yield l1) #[] #[]), (1, pB b4 0), (22, .slice e1 d1.length q1), (23, vI (d1.length : Int)), (24, vI (w64 (y1 + (1 : Int))))]) (obs := []) trivial hf61 (by kernel_rfl) (by kernel_rfl) .nil fun a60 hf62 => ?_
        refine p_done (by kernel_rfl) ?_
        refine n_then ?_
        have hf63 := Fr.keep (ks := [0, 1, 22, 23, 24]) (r := [(0, .func (.yield l1) #[] #[]), (1, pB b4 0), (22, .slice e1 d1.length q1), (23, vI (d1.length : Int)), (24, vI (w64 (y1 + (1 : Int))))]) hf62 (by kernel_rfl)
        exact ⟨n1, Nat.lt_succ_self n1, z3, (w64 (y1 + (1 : Int))), (Zone.le_trans k3 k4), hf63, (St.drop 1 hS37), hr17⟩
    · have hr18 := cond_f hb6 hr10
      refine w_exit (id := 0) (by kernel_rfl) ?_
      refine x_then ?_
      refine x_then ?_
      refine x_block ?_
      refine p_fall (os := []) (v := .tuple #[]) (obs := []) hf39 (by kernel_rfl) .nil ?_
      refine ⟨_, rfl, fun a61 hf64 => ?_⟩
      refine p_jump0 hS22 (j := 0) rfl (fun h => by cases h) fun ww32 hS38 => ?_
      refine n_block ?_
      refine n_then ?_
      refine w_seq (by kernel_rfl) ?_
      refine w_reg (by kernel_rfl) ?_
      refine p_run 1 [] [4, 15] (fl' := [(4, pB b3 0), (15, .agg #[vI 0, vI 0])]) (obs := []) trivial hf64 (by kernel_rfl) (by kernel_rfl) .nil fun a62 hf65 => ?_
      refine p_store_eq (i := 1) (j := 3) (b := b3) (off := 0) (vs := [vI 0, vI 0]) (cs' := [vI 0, vI 0]) hS38 hf65 rfl (by kernel_rfl) (by kernel_rfl) rfl fun ww33 a63 hS39 hf66 => ⟨fun _ => trivial, ?_⟩
      refine p_done (by kernel_rfl) ?_
      refine n_then ?_
      refine w_ret (by kernel_rfl) ?_
      refine p_retM hf66 ?_
      refine p_mark hS39 (j := 1) rfl fun ww34 hS40 => ?_
      refine p_end (os := [vI 0, vI 0]) (v := .agg #[vI 0, vI 0]) (obs := [.cell ⟨b3, 0, none⟩ (vI 0), .cell ⟨b3, 1, none⟩ (vI 0)]) hf66 (by kernel_rfl) (.cell (hS40.box (i := 3) rfl (j := 0) rfl) (.cell (hS40.box (i := 3) rfl (j := 1) rfl) .nil)) ?_
      obtain rfl := some_eq hr18
      exact ⟨_, rfl, z2, k3, rfl, (St.drop 6 hS40)⟩
def F19_j1 (k1 : Int → Int → Int → Option (Int × Int × Int)) (y1 : Int) (y2 : Int) (y3 : Int) : Option (Int × Int × Int) :=
  (k1 y2 y3 (w64 (y1 + (1 : Int))))
def F19_l1 (fuel : Nat) (x0 : List Pt) (x1_lo : Int) (x1_hi : Int) : Nat → Int → Int → Int → Option (Int × Int × Int)
  | 0, _, _, _ => none
  | n1 + 1, y4, y5, y1 =>
    let k1 : Int → Int → Int → Option (Int × Int × Int) := F19_l1 fuel x0 x1_lo x1_hi n1
    (cond (decide (y1 < (x0.length : Int))) ((getI x0 y1).bind fun p1 => ((F90 fuel p1.x x1_lo x1_hi).bind fun r1 => (cond r1 ((F88 fuel x0 p1.x).bind fun r2 => (F19_j1 k1 y1 (if r2.2 < (if r2.1 < y4 then r2.1 else y4) then r2.2 else (if r2.1 < y4 then r2.1 else y4)) (if r2.2 > (if r2.1 > y5 then r2.1 else y5) then r2.2 else (if r2.1 > y5 then r2.1 else y5)))) (F19_j1 k1 y1 y4 y5)))) (some (y4, y5, 0)))
def F19 (fuel : Nat) (x0 : List Pt) (x1_lo : Int) (x1_hi : Int) : Option (Int × Int × Int) :=
  ((F67 fuel x0).bind fun r3 => (cond (r3 != (0 : Int)) (some (0, 0, r3)) ((F52 fuel x1_lo x1_hi).bind fun r4 => (cond (r4 != (0 : Int)) (some (0, 0, r4)) ((F81 fuel x0 x1_lo x1_hi).bind fun r5 => (cond (!r5) (some (0, 0, 4)) ((F88 fuel x0 x1_lo).bind fun r6 => ((F88 fuel x0 x1_hi).bind fun r7 => (F19_l1 fuel x0 x1_lo x1_hi fuel (if r7.2 < (if r7.1 < (if r6.2 < (if r6.1 < r6.1 then r6.1 else r6.1) then r6.2 else (if r6.1 < r6.1 then r6.1 else r6.1)) then r7.1 else (if r6.2 < (if r6.1 < r6.1 then r6.1 else r6.1) then r6.2 else (if r6.1 < r6.1 then r6.1 else r6.1))) then r7.2 else (if r7.1 < (if r6.2 < (if r6.1 < r6.1 then r6.1 else r6.1) then r6.2 else (if r6.1 < r6.1 then r6.1 else r6.1)) then r7.1 else (if r6.2 < (if r6.1 < r6.1 then r6.1 else r6.1) then r6.2 else (if r6.1 < r6.1 then r6.1 else r6.1)))) (if r7.2 > (if r7.1 > (if r6.2 > (if r6.1 > r6.1 then r6.1 else r6.1) then r6.2 else (if r6.1 > r6.1 then r6.1 else r6.1)) then r7.1 else (if r6.2 > (if r6.1 > r6.1 then r6.1 else r6.1) then r6.2 else (if r6.1 > r6.1 then r6.1 else r6.1))) then r7.2 else (if r7.1 > (if r6.2 > (if r6.1 > r6.1 then r6.1 else r6.1) then r6.2 else (if r6.1 > r6.1 then r6.1 else r6.1)) then r7.1 else (if r6.2 > (if r6.1 > r6.1 then r6.1 else r6.1) then r6.2 else (if r6.1 > r6.1 then r6.1 else r6.1)))) 0)))))))))
set_option maxRecDepth 100000 in
theorem f19_ok (fuel : Nat) (x0 : List Pt) (x1_lo : Int) (x1_hi : Int) (r : Int × Int × Int) (hr : F19 fuel x0 x1_lo x1_hi = some r) (h : Zone) (L : List Atom) (w : World) (hS : St h L w) (o_x0 : Option Addr) (c_x0 : Nat) (hx_x0 : SliceR PtT h o_x0 c_x0 x0) :
    Calls Try.prog 19 #[.agg #[.slice o_x0 x0.length c_x0], .agg #[vI x1_lo, vI x1_hi]] w fun e w' => ∃ v, e = .returned v ∧ (∃ h', Zone.le h h' ∧ v = .tuple #[.agg #[vI r.1, vI r.2.1], vI r.2.2] ∧ St h' L w') := by
  refine calls_intro (N := 59) Try.func19 (by kernel_rfl) fun a hf => ?_
  refine w_seq (by kernel_rfl) ?_
  refine w_reg (by kernel_rfl) ?_
  refine p_box (i := 0) (d := (some 2)) (cs := [.slice o_x0 x0.length c_x0]) (T := 24) (v := fun b1 => pB b1 0) hS hf (fun b => by kernel_rfl) fun b1 ww1 a1 hS1 hf1 => ⟨fun _ => trivial, ?_⟩
  refine p_box (i := 1) (d := (some 3)) (cs := [vI x1_lo, vI x1_hi]) (T := 41) (v := fun b2 => pB b2 0) hS1 hf1 (fun b => by kernel_rfl) fun b2 ww2 a2 hS2 hf2 => ⟨fun _ => trivial, ?_⟩
  refine p_box (i := 2) (d := (some 4)) (cs := [vI 0, vI 0]) (T := 41) (v := fun b3 => pB b3 0) hS2 hf2 (fun b => by kernel_rfl) fun b3 ww3 a3 hS3 hf3 => ⟨fun _ => trivial, ?_⟩
  refine p_run 1 [] [2, 3, 4] (fl' := [(2, pB b1 0), (3, pB b2 0), (4, pB b3 0)]) (obs := []) trivial hf3 (by kernel_rfl) (by kernel_rfl) .nil fun a4 hf4 => ?_
  refine p_done (by kernel_rfl) ?_
  refine n_then ?_
  refine w_seq (by kernel_rfl) ?_
  refine w_seq (by kernel_rfl) ?_
  refine w_reg (by kernel_rfl) ?_
  refine p_run 1 [.slice o_x0 x0.length c_x0] [2, 3, 4, 12] (fl' := [(2, pB b1 0), (3, pB b2 0), (4, pB b3 0), (12, .agg #[.slice o_x0 x0.length c_x0])]) (obs := [.cell ⟨b1, 0, none⟩ (.slice o_x0 x0.length c_x0)]) trivial hf4 (by kernel_rfl) (by kernel_rfl) (.cell (hS3.box (i := 2) rfl (j := 0) rfl) .nil) fun a5 hf5 => ?_
  obtain ⟨r3, hd1, hr1⟩ := bind_some hr
  refine p_call (i := 1) (d := some 13) (f := 67) (args := #[.agg #[.slice o_x0 x0.length c_x0]]) hf5 (by kernel_rfl) (f67_ok fuel x0 r3 hd1 h _ _ hS3 o_x0 c_x0 hx_x0) ?_
  rintro v1 ww4 a6 ⟨z1, k2, rfl, hS4⟩ hf6
  refine ⟨fun _ => trivial, ?_⟩
  refine p_run 1 [] [2, 3, 4, 6] (fl' := [(2, pB b1 0), (3, pB b2 0), (4, pB b3 0), (6, vI r3)]) (obs := []) trivial hf6 (by kernel_rfl) (by kernel_rfl) .nil fun a7 hf7 => ?_
  refine p_done (by kernel_rfl) ?_
  refine n_then ?_
  refine w_seq (by kernel_rfl) ?_
  refine w_reg (by kernel_rfl) ?_
  refine p_run 2 [] [2, 3, 4, 6, 15] (fl' := [(2, pB b1 0), (3, pB b2 0), (4, pB b3 0), (6, vI r3), (15, .bool (r3 != (0 : Int)))]) (obs := []) trivial hf7 (by kernel_rfl) (by kernel_rfl) .nil fun a8 hf8 => ?_
  refine p_done (by kernel_rfl) ?_
  refine n_then ?_
  refine w_if hf8 (b := (r3 != (0 : Int))) (by kernel_rfl) (fun hb1 => ?_) (fun hb1 => ?_)
  · have hr2 := cond_t hb1 hr1
    refine w_seq (by kernel_rfl) ?_
    refine w_reg (by kernel_rfl) ?_
    refine p_run 2 [] [4, 16, 17] (fl' := [(4, pB b3 0), (16, .agg #[vI 0, vI 0]), (17, vI r3)]) (obs := []) trivial hf8 (by kernel_rfl) (by kernel_rfl) .nil fun a9 hf9 => ?_
    refine p_store_eq (i := 2) (j := 0) (b := b3) (off := 0) (vs := [vI 0, vI 0]) (cs' := [vI 0, vI 0]) hS4 hf9 rfl (by kernel_rfl) (by kernel_rfl) rfl fun ww5 a10 hS5 hf10 => ⟨fun _ => trivial, ?_⟩
    refine p_run 1 [] [4, 5] (fl' := [(4, pB b3 0), (5, vI r3)]) (obs := []) trivial hf10 (by kernel_rfl) (by kernel_rfl) .nil fun a11 hf11 => ?_
    refine p_done (by kernel_rfl) ?_
    refine n_then ?_
    refine w_ret (by kernel_rfl) ?_
    refine r_then ?_
    refine p_ret (os := [vI 0, vI 0]) (v := .tuple #[.agg #[vI 0, vI 0], vI r3]) (obs := [.cell ⟨b3, 0, none⟩ (vI 0), .cell ⟨b3, 1, none⟩ (vI 0)]) hf11 (by kernel_rfl) (.cell (hS5.box (i := 0) rfl (j := 0) rfl) (.cell (hS5.box (i := 0) rfl (j := 1) rfl) .nil)) ?_
    obtain rfl := some_eq hr2
    exact ⟨_, rfl, z1, k2, rfl, (St.drop 3 hS5)⟩
  · have hr3 := cond_f hb1 hr1
    refine w_skip (by kernel_rfl) ?_
    refine n_then ?_
    refine w_seq (by kernel_rfl) ?_
    refine w_seq (by kernel_rfl) ?_
    refine w_reg (by kernel_rfl) ?_
    refine p_run 1 [vI x1_lo, vI x1_hi] [2, 3, 4, 18] (fl' := [(2, pB b1 0), (3, pB b2 0), (4, pB b3 0), (18, .agg #[vI x1_lo, vI x1_hi])]) (obs := [.cell ⟨b2, 0, none⟩ (vI x1_lo), .cell ⟨b2, 1, none⟩ (vI x1_hi)]) trivial hf8 (by kernel_rfl) (by kernel_rfl) (.cell (hS4.box (i := 1) rfl (j := 0) rfl) (.cell (hS4.box (i := 1) rfl (j := 1) rfl) .nil)) fun a12 hf12 => ?_
    obtain ⟨r4, hd2, hr4⟩ := bind_some hr3
    refine p_call (i := 1) (d := some 19) (f := 52) (args := #[.agg #[vI x1_lo, vI x1_hi]]) hf12 (by kernel_rfl) (f52_ok fuel x1_lo x1_hi r4 hd2 z1 _ _ hS4 ) ?_
    rintro v2 ww6 a13 ⟨z2, k3, rfl, hS6⟩ hf13
    refine ⟨fun _ => trivial, ?_⟩
    refine p_run 1 [] [2, 3, 4, 7] (fl' := [(2, pB b1 0), (3, pB b2 0), (4, pB b3 0), (7, vI r4)]) (obs := []) trivial hf13 (by kernel_rfl) (by kernel_rfl) .nil fun a14 hf14 => ?_
    refine p_done (by kernel_rfl) ?_
    refine n_then ?_
    refine w_seq (by kernel_rfl) ?_
    refine w_reg (by kernel_rfl) ?_
    refine p_run 2 [] [2, 3, 4, 7, 21] (fl' := [(2, pB b1 0), (3, pB b2 0), (4, pB b3 0), (7, vI r4), (21, .bool (r4 != (0 : Int)))]) (obs := []) trivial hf14 (by kernel_rfl) (by kernel_rfl) .nil fun a15 hf15 => ?_
    refine p_done (by kernel_rfl) ?_
    refine n_then ?_
    refine w_if hf15 (b := (r4 != (0 : Int))) (by kernel_rfl) (fun hb2 => ?_) (fun hb2 => ?_)
    · have hr5 := cond_t hb2 hr4
      refine w_seq (by kernel_rfl) ?_
      refine w_reg (by kernel_rfl) ?_
      refine p_run 2 [] [4, 22, 23] (fl' := [(4, pB b3 0), (22, .agg #[vI 0, vI 0]), (23, vI r4)]) (obs := []) trivial hf15 (by kernel_rfl) (by kernel_rfl) .nil fun a16 hf16 => ?_
      refine p_store_eq (i := 2) (j := 0) (b := b3) (off := 0) (vs := [vI 0, vI 0]) (cs' := [vI 0, vI 0]) hS6 hf16 rfl (by kernel_rfl) (by kernel_rfl) rfl fun ww7 a17 hS7 hf17 => ⟨fun _ => trivial, ?_⟩
      refine p_run 1 [] [4, 5] (fl' := [(4, pB b3 0), (5, vI r4)]) (obs := []) trivial hf17 (by kernel_rfl) (by kernel_rfl) .nil fun a18 hf18 => ?_
      refine p_done (by kernel_rfl) ?_
      refine n_then ?_
      refine w_ret (by kernel_rfl) ?_
      refine r_then ?_
      refine p_ret (os := [vI 0, vI 0]) (v := .tuple #[.agg #[vI 0, vI 0], vI r4]) (obs := [.cell ⟨b3, 0, none⟩ (vI 0), .cell ⟨b3, 1, none⟩ (vI 0)]) hf18 (by kernel_rfl) (.cell (hS7.box (i := 0) rfl (j := 0) rfl) (.cell (hS7.box (i := 0) rfl (j := 1) rfl) .nil)) ?_
      obtain rfl := some_eq hr5
      exact ⟨_, rfl, z2, (Zone.le_trans k2 k3), rfl, (St.drop 3 hS7)⟩
    · have hr6 := cond_f hb2 hr4
      refine w_skip (by kernel_rfl) ?_
      refine n_then ?_
      refine w_seq (by kernel_rfl) ?_
      refine w_seq (by kernel_rfl) ?_
      refine w_reg (by kernel_rfl) ?_
      refine p_run 2 [.slice o_x0 x0.length c_x0, vI x1_lo, vI x1_hi] [2, 3, 4, 24, 25] (fl' := [(2, pB b1 0), (3, pB b2 0), (4, pB b3 0), (24, .agg #[.slice o_x0 x0.length c_x0]), (25, .agg #[vI x1_lo, vI x1_hi])]) (obs := [.cell ⟨b1, 0, none⟩ (.slice o_x0 x0.length c_x0), .cell ⟨b2, 0, none⟩ (vI x1_lo), .cell ⟨b2, 1, none⟩ (vI x1_hi)]) trivial hf15 (by kernel_rfl) (by kernel_rfl) (.cell (hS6.box (i := 2) rfl (j := 0) rfl) (.cell (hS6.box (i := 1) rfl (j := 0) rfl) (.cell (hS6.box (i := 1) rfl (j := 1) rfl) .nil))) fun a19 hf19 => ?_
      obtain ⟨r5, hd3, hr7⟩ := bind_some hr6
      refine p_call (i := 2) (d := some 26) (f := 81) (args := #[.agg #[.slice o_x0 x0.length c_x0], .agg #[vI x1_lo, vI x1_hi]]) hf19 (by kernel_rfl) (f81_ok fuel x0 x1_lo x1_hi r5 hd3 z2 _ _ hS6 o_x0 c_x0 (SliceR.mono (Zone.le_trans k2 k3) hx_x0)) ?_
      rintro v3 ww8 a20 ⟨z3, k4, rfl, hS8⟩ hf20
      refine ⟨fun _ => trivial, ?_⟩
      refine p_run 1 [] [2, 3, 4, 27] (fl' := [(2, pB b1 0), (3, pB b2 0), (4, pB b3 0), (27, .bool (!r5))]) (obs := []) trivial hf20 (by kernel_rfl) (by kernel_rfl) .nil fun a21 hf21 => ?_
      refine p_done (by kernel_rfl) ?_
      refine n_then ?_
      refine w_if hf21 (b := (!r5)) (by kernel_rfl) (fun hb3 => ?_) (fun hb3 => ?_)
      · have hr8 := cond_t hb3 hr7
        refine w_seq (by kernel_rfl) ?_
        refine w_reg (by kernel_rfl) ?_
        refine p_run 1 [] [4, 28] (fl' := [(4, pB b3 0), (28, .agg #[vI 0, vI 0])]) (obs := []) trivial hf21 (by kernel_rfl) (by kernel_rfl) .nil fun a22 hf22 => ?_
        refine p_store_eq (i := 1) (j := 0) (b := b3) (off := 0) (vs := [vI 0, vI 0]) (cs' := [vI 0, vI 0]) hS8 hf22 rfl (by kernel_rfl) (by kernel_rfl) rfl fun ww9 a23 hS9 hf23 => ⟨fun _ => trivial, ?_⟩
        refine p_run 1 [] [4, 5] (fl' := [(4, pB b3 0), (5, vI 4)]) (obs := []) trivial hf23 (by kernel_rfl) (by kernel_rfl) .nil fun a24 hf24 => ?_
        refine p_done (by kernel_rfl) ?_
        refine n_then ?_
        refine w_ret (by kernel_rfl) ?_
        refine r_then ?_
        refine p_ret (os := [vI 0, vI 0]) (v := .tuple #[.agg #[vI 0, vI 0], vI 4]) (obs := [.cell ⟨b3, 0, none⟩ (vI 0), .cell ⟨b3, 1, none⟩ (vI 0)]) hf24 (by kernel_rfl) (.cell (hS9.box (i := 0) rfl (j := 0) rfl) (.cell (hS9.box (i := 0) rfl (j := 1) rfl) .nil)) ?_
        obtain rfl := some_eq hr8
        exact ⟨_, rfl, z3, (Zone.le_trans (Zone.le_trans k2 k3) k4), rfl, (St.drop 3 hS9)⟩
      · have hr9 := cond_f hb3 hr7
        refine w_skip (by kernel_rfl) ?_
        refine n_then ?_
        refine w_seq (by kernel_rfl) ?_
        refine w_reg (by kernel_rfl) ?_
        refine p_box (i := 0) (d := (some 8)) (cs := [vI 0, vI 0, .bool false, .bool false]) (T := 100) (v := fun b4 => pB b4 0) hS8 hf21 (fun b => by kernel_rfl) fun b4 ww10 a25 hS10 hf25 => ⟨fun _ => trivial, ?_⟩
        refine p_done (by kernel_rfl) ?_
        refine n_then ?_
        refine w_seq (by kernel_rfl) ?_
        refine w_reg (by kernel_rfl) ?_
        refine p_run 2 [] [2, 3, 4, 8, 9] (fl' := [(2, pB b1 0), (3, pB b2 0), (4, pB b3 0), (8, pB b4 0), (9, .func (.func 87) #[] #[pB b1 0, pB b4 0])]) (obs := []) trivial hf25 (by kernel_rfl) (by kernel_rfl) .nil fun a26 hf26 => ?_
        refine p_done (by kernel_rfl) ?_
        refine n_then ?_
        refine w_seq (by kernel_rfl) ?_
        refine w_reg (by kernel_rfl) ?_
        refine p_run 3 [vI x1_lo] [2, 3, 4, 8, 9, 30, 32] (fl' := [(2, pB b1 0), (3, pB b2 0), (4, pB b3 0), (8, pB b4 0), (9, .func (.func 87) #[] #[pB b1 0, pB b4 0]), (30, .func (.func 87) #[] #[pB b1 0, pB b4 0]), (32, vI x1_lo)]) (obs := [.cell ⟨b2, 0, none⟩ (vI x1_lo)]) trivial hf26 (by kernel_rfl) (by kernel_rfl) (.cell (hS10.box (i := 2) rfl (j := 0) rfl) .nil) fun a27 hf27 => ?_
        refine p_inl (i := 3) (d := some 33) (f := 87) (args := #[vI x1_lo, pB b1 0, pB b4 0]) (N' := 14) hf27 (by kernel_rfl) Try.func87 (by kernel_rfl) fun a28 hf28 => ?_
        refine w_seq (by kernel_rfl) ?_
        refine w_reg (by kernel_rfl) ?_
        refine p_run 2 [.slice o_x0 x0.length c_x0] [2, 5, 6] (fl' := [(2, pB b4 0), (5, .agg #[.slice o_x0 x0.length c_x0]), (6, vI x1_lo)]) (obs := [.cell ⟨b1, 0, none⟩ (.slice o_x0 x0.length c_x0)]) trivial hf28 (by kernel_rfl) (by kernel_rfl) (.cell (hS10.box (i := 3) rfl (j := 0) rfl) .nil) fun a29 hf29 => ?_
        obtain ⟨r6, hd4, hr10⟩ := bind_some hr9
        refine p_call (i := 2) (d := some 7) (f := 88) (args := #[.agg #[.slice o_x0 x0.length c_x0], vI x1_lo]) hf29 (by kernel_rfl) (f88_ok fuel x0 x1_lo r6 hd4 z3 _ _ hS10 o_x0 c_x0 (SliceR.mono (Zone.le_trans (Zone.le_trans k2 k3) k4) hx_x0)) ?_
        rintro v4 ww11 a30 ⟨z4, k5, rfl, hS11⟩ hf30
        refine ⟨fun _ => trivial, ?_⟩
        refine p_box (i := 3) (d := (some 4)) (cs := [vI 0, vI 0]) (T := 41) (v := fun b5 => pB b5 0) hS11 hf30 (fun b => by kernel_rfl) fun b5 ww12 a31 hS12 hf31 => ⟨fun _ => trivial, ?_⟩
        refine p_store_eq (i := 4) (j := 0) (b := b5) (off := 0) (vs := [vI r6.1, vI r6.2]) (cs' := [vI r6.1, vI r6.2]) hS12 hf31 rfl (by kernel_rfl) (by kernel_rfl) rfl fun ww13 a32 hS13 hf32 => ⟨fun _ => trivial, ?_⟩
        refine p_done (by kernel_rfl) ?_
        refine n_then ?_
        refine w_seq (by kernel_rfl) ?_
        refine w_reg (by kernel_rfl) ?_
        refine p_run 2 [vI r6.1] [2, 4, 9] (fl' := [(2, pB b4 0), (4, pB b5 0), (9, vI r6.1)]) (obs := [.cell ⟨b5, 0, none⟩ (vI r6.1)]) trivial hf32 (by kernel_rfl) (by kernel_rfl) (.cell (hS13.box (i := 0) rfl (j := 0) rfl) .nil) fun a33 hf33 => ?_
        refine p_inl (i := 2) (d := some 10) (f := 89) (args := #[pB b4 0, vI r6.1]) (N' := 36) hf33 (by kernel_rfl) Try.func89 (by kernel_rfl) fun a34 hf34 => ?_
        refine w_seq (by kernel_rfl) ?_
        refine w_seq (by kernel_rfl) ?_
        refine w_reg (by kernel_rfl) ?_
        refine p_run 5 [.bool false] [0, 1, 8] (fl' := [(0, pB b4 0), (1, vI r6.1), (8, .bool true)]) (obs := [.cell ⟨b4, 2, none⟩ (.bool false)]) trivial hf34 (by kernel_rfl) (by kernel_rfl) (.cell (hS13.box (i := 1) rfl (j := 2) rfl) .nil) fun a35 hf35 => ?_
        refine p_done (by kernel_rfl) ?_
        refine n_then ?_
        refine w_if_true hf35 (by kernel_rfl) ?_
        refine w_reg (by kernel_rfl) ?_
        refine p_run 7 [] [0, 1, 10, 13, 15] (fl' := [(0, pB b4 0), (1, vI r6.1), (10, pB b4 0), (13, .agg #[vI r6.1, vI r6.1]), (15, pB b4 0)]) (obs := []) trivial hf35 (by kernel_rfl) (by kernel_rfl) .nil fun a36 hf36 => ?_
        refine p_store_eq (i := 7) (j := 1) (b := b4) (off := 0) (vs := [vI r6.1, vI r6.1]) (cs' := [vI r6.1, vI r6.1, .bool false, .bool false]) hS13 hf36 rfl (by kernel_rfl) (by kernel_rfl) rfl fun ww14 a37 hS14 hf37 => ⟨fun _ => trivial, ?_⟩
        refine p_run 2 [] [0, 1, 17] (fl' := [(0, pB b4 0), (1, vI r6.1), (17, pB b4 2)]) (obs := []) trivial hf37 (by kernel_rfl) (by kernel_rfl) .nil fun a38 hf38 => ?_
        refine p_store_eq (i := 10) (j := 1) (b := b4) (off := 2) (vs := [.bool true]) (cs' := [vI r6.1, vI r6.1, .bool true, .bool false]) hS14 hf38 rfl (by kernel_rfl) (by kernel_rfl) rfl fun ww15 a39 hS15 hf39 => ⟨fun _ => trivial, ?_⟩
        refine p_done (by kernel_rfl) ?_
        refine n_then ?_
        have hS16 := hS15.drew
        refine w_regD (by kernel_rfl) [(0, true), (1, true), (2, true), (3, true), (4, true), (5, true), (6, true), (7, true), (8, true), (9, true), (10, true), (11, true), (12, true), (13, true), (14, true), (15, true), (16, true), (17, true), (18, false)] [18] (fun x => x = ww15.drew) (by kernel_rfl) rfl ?_
        refine p_firstP 5 [] [0, 1, 18, 22] (fl' := [(0, pB b4 0), (1, vI r6.1), (18, pB b4 0), (22, pB b4 0)]) (obs := []) hf39 (by kernel_rfl) (by kernel_rfl) (fun _ => .nil) fun a40 hf40 => ?_
        refine p_firstE 1 [vI r6.1] [0, 1, 18, 23] (fl' := [(0, pB b4 0), (1, vI r6.1), (18, pB b4 0), (23, vI r6.1)]) (obs := [.cell ⟨b4, 0, none⟩ (vI r6.1)]) (by kernel_rfl) hf40 (by kernel_rfl) (by kernel_rfl) (.cell (hS16.box (i := 1) rfl (j := 0) rfl) .nil) fun a41 hf41 => ?_
        refine p_firstP 6 [] [1, 18, 25, 29] (fl' := [(1, vI r6.1), (18, pB b4 0), (25, vI (if r6.1 < r6.1 then r6.1 else r6.1)), (29, pB b4 1)]) (obs := []) hf41 (by kernel_rfl) (by kernel_rfl) (fun _ => .nil) fun a42 hf42 => ?_
        refine p_firstE 1 [vI r6.1] [1, 18, 25, 30] (fl' := [(1, vI r6.1), (18, pB b4 0), (25, vI (if r6.1 < r6.1 then r6.1 else r6.1)), (30, vI r6.1)]) (obs := [.cell ⟨b4, 1, none⟩ (vI r6.1)]) (by kernel_rfl) hf42 (by kernel_rfl) (by kernel_rfl) (.cell (hS16.box (i := 1) rfl (j := 1) rfl) .nil) fun a43 hf43 => ?_
        refine p_firstP 5 [] [33, 35] (fl' := [(33, .agg #[vI (if r6.1 < r6.1 then r6.1 else r6.1), vI (if r6.1 > r6.1 then r6.1 else r6.1)]), (35, pB b4 0)]) (obs := []) hf43 (by kernel_rfl) (by kernel_rfl) (fun _ => .nil) fun a44 hf44 => ?_
        refine p_store_eq (i := 18) (j := 1) (b := b4) (off := 0) (vs := [vI (if r6.1 < r6.1 then r6.1 else r6.1), vI (if r6.1 > r6.1 then r6.1 else r6.1)]) (cs' := [vI (if r6.1 < r6.1 then r6.1 else r6.1), vI (if r6.1 > r6.1 then r6.1 else r6.1), .bool true, .bool false]) hS16 hf44 rfl (by kernel_rfl) (by kernel_rfl) rfl fun ww16 a45 hS17 hf45 => ⟨fun e => absurd e (by decide), ?_⟩
        refine p_done (by kernel_rfl) ?_
        refine p_fall (os := []) (v := .tuple #[]) (obs := []) hf45 (by kernel_rfl) .nil ?_
        refine ⟨_, rfl, fun a46 hf46 => ?_⟩
        refine ⟨fun _ => trivial, ?_⟩
        refine p_done (by kernel_rfl) ?_
        refine n_then ?_
        refine w_reg (by kernel_rfl) ?_
        refine p_run 2 [vI r6.2] [2, 12] (fl' := [(2, pB b4 0), (12, vI r6.2)]) (obs := [.cell ⟨b5, 1, none⟩ (vI r6.2)]) trivial hf46 (by kernel_rfl) (by kernel_rfl) (.cell (hS17.box (i := 0) rfl (j := 1) rfl) .nil) fun a47 hf47 => ?_
        refine p_inl (i := 2) (d := some 13) (f := 89) (args := #[pB b4 0, vI r6.2]) (N' := 36) hf47 (by kernel_rfl) Try.func89 (by kernel_rfl) fun a48 hf48 => ?_
        refine w_seq (by kernel_rfl) ?_
        refine w_seq (by kernel_rfl) ?_
        refine w_reg (by kernel_rfl) ?_
        refine p_run 5 [.bool true] [0, 1, 8] (fl' := [(0, pB b4 0), (1, vI r6.2), (8, .bool false)]) (obs := [.cell ⟨b4, 2, none⟩ (.bool true)]) trivial hf48 (by kernel_rfl) (by kernel_rfl) (.cell (hS17.box (i := 1) rfl (j := 2) rfl) .nil) fun a49 hf49 => ?_
        refine p_done (by kernel_rfl) ?_
        refine n_then ?_
        refine w_if_false hf49 (by kernel_rfl) ?_
        refine w_skip (by kernel_rfl) ?_
        refine n_then ?_
        have hS18 := hS17.drew
        refine w_regD (by kernel_rfl) [(0, true), (1, true), (2, true), (3, true), (4, true), (5, true), (6, true), (7, true), (8, true), (9, true), (10, true), (11, true), (12, true), (13, true), (14, true), (15, true), (16, true), (17, true), (18, false)] [18] (fun x => x = ww16.drew) (by kernel_rfl) rfl ?_
        refine p_firstP 5 [] [0, 1, 18, 22] (fl' := [(0, pB b4 0), (1, vI r6.2), (18, pB b4 0), (22, pB b4 0)]) (obs := []) hf49 (by kernel_rfl) (by kernel_rfl) (fun _ => .nil) fun a50 hf50 => ?_
        refine p_firstE 1 [vI (if r6.1 < r6.1 then r6.1 else r6.1)] [0, 1, 18, 23] (fl' := [(0, pB b4 0), (1, vI r6.2), (18, pB b4 0), (23, vI (if r6.1 < r6.1 then r6.1 else r6.1))]) (obs := [.cell ⟨b4, 0, none⟩ (vI (if r6.1 < r6.1 then r6.1 else r6.1))]) (by kernel_rfl) hf50 (by kernel_rfl) (by kernel_rfl) (.cell (hS18.box (i := 1) rfl (j := 0) rfl) .nil) fun a51 hf51 => ?_
        refine p_firstP 6 [] [1, 18, 25, 29] (fl' := [(1, vI r6.2), (18, pB b4 0), (25, vI (if r6.2 < (if r6.1 < r6.1 then r6.1 else r6.1) then r6.2 else (if r6.1 < r6.1 then r6.1 else r6.1))), (29, pB b4 1)]) (obs := []) hf51 (by kernel_rfl) (by kernel_rfl) (fun _ => .nil) fun a52 hf52 => ?_
        refine p_firstE 1 [vI (if r6.1 > r6.1 then r6.1 else r6.1)] [1, 18, 25, 30] (fl' := [(1, vI r6.2), (18, pB b4 0), (25, vI (if r6.2 < (if r6.1 < r6.1 then r6.1 else r6.1) then r6.2 else (if r6.1 < r6.1 then r6.1 else r6.1))), (30, vI (if r6.1 > r6.1 then r6.1 else r6.1))]) (obs := [.cell ⟨b4, 1, none⟩ (vI (if r6.1 > r6.1 then r6.1 else r6.1))]) (by kernel_rfl) hf52 (by kernel_rfl) (by kernel_rfl) (.cell (hS18.box (i := 1) rfl (j := 1) rfl) .nil) fun a53 hf53 => ?_
        refine p_firstP 5 [] [33, 35] (fl' := [(33, .agg #[vI (if r6.2 < (if r6.1 < r6.1 then r6.1 else r6.1) then r6.2 else (if r6.1 < r6.1 then r6.1 else r6.1)), vI (if r6.2 > (if r6.1 > r6.1 then r6.1 else r6.1) then r6.2 else (if r6.1 > r6.1 then r6.1 else r6.1))]), (35, pB b4 0)]) (obs := []) hf53 (by kernel_rfl) (by kernel_rfl) (fun _ => .nil) fun a54 hf54 => ?_
        refine p_store_eq (i := 18) (j := 1) (b := b4) (off := 0) (vs := [vI (if r6.2 < (if r6.1 < r6.1 then r6.1 else r6.1) then r6.2 else (if r6.1 < r6.1 then r6.1 else r6.1)), vI (if r6.2 > (if r6.1 > r6.1 then r6.1 else r6.1) then r6.2 else (if r6.1 > r6.1 then r6.1 else r6.1))]) (cs' := [vI (if r6.2 < (if r6.1 < r6.1 then r6.1 else r6.1) then r6.2 else (if r6.1 < r6.1 then r6.1 else r6.1)), vI (if r6.2 > (if r6.1 > r6.1 then r6.1 else r6.1) then r6.2 else (if r6.1 > r6.1 then r6.1 else r6.1)), .bool true, .bool false]) hS18 hf54 rfl (by kernel_rfl) (by kernel_rfl) rfl fun ww17 a55 hS19 hf55 => ⟨fun e => absurd e (by decide), ?_⟩
        refine p_done (by kernel_rfl) ?_
        refine p_fall (os := []) (v := .tuple #[]) (obs := []) hf55 (by kernel_rfl) .nil ?_
        refine ⟨_, rfl, fun a56 hf56 => ?_⟩
        refine ⟨fun _ => trivial, ?_⟩
        refine p_done (by kernel_rfl) ?_
        refine p_fall (os := []) (v := .tuple #[]) (obs := []) hf56 (by kernel_rfl) .nil ?_
        refine ⟨_, rfl, fun a57 hf57 => ?_⟩
        have hS20 := St.drop 1 hS19
        refine ⟨fun _ => trivial, ?_⟩
        refine p_done (by kernel_rfl) ?_
        refine n_then ?_
        refine w_seq (by kernel_rfl) ?_
        refine w_reg (by kernel_rfl) ?_
        refine p_run 3 [vI x1_hi] [2, 3, 4, 8, 9, 34, 36] (fl' := [(2, pB b1 0), (3, pB b2 0), (4, pB b3 0), (8, pB b4 0), (9, .func (.func 87) #[] #[pB b1 0, pB b4 0]), (34, .func (.func 87) #[] #[pB b1 0, pB b4 0]), (36, vI x1_hi)]) (obs := [.cell ⟨b2, 1, none⟩ (vI x1_hi)]) trivial hf57 (by kernel_rfl) (by kernel_rfl) (.cell (hS20.box (i := 2) rfl (j := 1) rfl) .nil) fun a58 hf58 => ?_
        refine p_inl (i := 3) (d := some 37) (f := 87) (args := #[vI x1_hi, pB b1 0, pB b4 0]) (N' := 14) hf58 (by kernel_rfl) Try.func87 (by kernel_rfl) fun a59 hf59 => ?_
        refine w_seq (by kernel_rfl) ?_
        refine w_reg (by kernel_rfl) ?_
        refine p_run 2 [.slice o_x0 x0.length c_x0] [2, 5, 6] (fl' := [(2, pB b4 0), (5, .agg #[.slice o_x0 x0.length c_x0]), (6, vI x1_hi)]) (obs := [.cell ⟨b1, 0, none⟩ (.slice o_x0 x0.length c_x0)]) trivial hf59 (by kernel_rfl) (by kernel_rfl) (.cell (hS20.box (i := 3) rfl (j := 0) rfl) .nil) fun a60 hf60 => ?_
        obtain ⟨r7, hd5, hr11⟩ := bind_some hr10
        refine p_call (i := 2) (d := some 7) (f := 88) (args := #[.agg #[.slice o_x0 x0.length c_x0], vI x1_hi]) hf60 (by kernel_rfl) (f88_ok fuel x0 x1_hi r7 hd5 z4 _ _ hS20 o_x0 c_x0 (SliceR.mono (Zone.le_trans (Zone.le_trans (Zone.le_trans k2 k3) k4) k5) hx_x0)) ?_
        rintro v5 ww18 a61 ⟨z5, k6, rfl, hS21⟩ hf61
        refine ⟨fun _ => trivial, ?_⟩
        refine p_box (i := 3) (d := (some 4)) (cs := [vI 0, vI 0]) (T := 41) (v := fun b6 => pB b6 0) hS21 hf61 (fun b => by kernel_rfl) fun b6 ww19 a62 hS22 hf62 => ⟨fun _ => trivial, ?_⟩
        refine p_store_eq (i := 4) (j := 0) (b := b6) (off := 0) (vs := [vI r7.1, vI r7.2]) (cs' := [vI r7.1, vI r7.2]) hS22 hf62 rfl (by kernel_rfl) (by kernel_rfl) rfl fun ww20 a63 hS23 hf63 => ⟨fun _ => trivial, ?_⟩
        refine p_done (by kernel_rfl) ?_
        refine n_then ?_
        refine w_seq (by kernel_rfl) ?_
        refine w_reg (by kernel_rfl) ?_
        refine p_run 2 [vI r7.1] [2, 4, 9] (fl' := [(2, pB b4 0), (4, pB b6 0), (9, vI r7.1)]) (obs := [.cell ⟨b6, 0, none⟩ (vI r7.1)]) trivial hf63 (by kernel_rfl) (by kernel_rfl) (.cell (hS23.box (i := 0) rfl (j := 0) rfl) .nil) fun a64 hf64 => ?_
        refine p_inl (i := 2) (d := some 10) (f := 89) (args := #[pB b4 0, vI r7.1]) (N' := 36) hf64 (by kernel_rfl) Try.func89 (by kernel_rfl) fun a65 hf65 => ?_
        refine w_seq (by kernel_rfl) ?_
        refine w_seq (by kernel_rfl) ?_
        refine w_reg (by kernel_rfl) ?_
        refine p_run 5 [.bool true] [0, 1, 8] (fl' := [(0, pB b4 0), (1, vI r7.1), (8, .bool false)]) (obs := [.cell ⟨b4, 2, none⟩ (.bool true)]) trivial hf65 (by kernel_rfl) (by kernel_rfl) (.cell (hS23.box (i := 1) rfl (j := 2) rfl) .nil) fun a66 hf66 => ?_
        refine p_done (by kernel_rfl) ?_
        refine n_then ?_
        refine w_if_false hf66 (by kernel_rfl) ?_
        refine w_skip (by kernel_rfl) ?_
        refine n_then ?_
        have hS24 := hS23.drew
        refine w_regD (by kernel_rfl) [(0, true), (1, true), (2, true), (3, true), (4, true), (5, true), (6, true), (7, true), (8, true), (9, true), (10, true), (11, true), (12, true), (13, true), (14, true), (15, true), (16, true), (17, true), (18, false)] [18] (fun x => x = ww20.drew) (by kernel_rfl) rfl ?_
        refine p_firstP 5 [] [0, 1, 18, 22] (fl' := [(0, pB b4 0), (1, vI r7.1), (18, pB b4 0), (22, pB b4 0)]) (obs := []) hf66 (by kernel_rfl) (by kernel_rfl) (fun _ => .nil) fun a67 hf67 => ?_
        refine p_firstE 1 [vI (if r6.2 < (if r6.1 < r6.1 then r6.1 else r6.1) then r6.2 else (if r6.1 < r6.1 then r6.1 else r6.1))] [0, 1, 18, 23] (fl' := [(0, pB b4 0), (1, vI r7.1), (18, pB b4 0), (23, vI (if r6.2 < (if r6.1 < r6.1 then r6.1 else r6.1) then r6.2 else (if r6.1 < r6.1 then r6.1 else r6.1)))]) (obs := [.cell ⟨b4, 0, none⟩ (vI (if r6.2 < (if r6.1 < r6.1 then r6.1 else r6.1) then r6.2 else (if r6.1 < r6.1 then r6.1 else r6.1)))]) (by kernel_rfl) hf67 (by kernel_rfl) (by kernel_rfl) (.cell (hS24.box (i := 1) rfl (j := 0) rfl) .nil) fun a68 hf68 => ?_
        refine p_firstP 6 [] [1, 18, 25, 29] (fl' := [(1, vI r7.1), (18, pB b4 0), (25, vI (if r7.1 < (if r6.2 < (if r6.1 < r6.1 then r6.1 else r6.1) then r6.2 else (if r6.1 < r6.1 then r6.1 else r6.1)) then r7.1 else (if r6.2 < (if r6.1 < r6.1 then r6.1 else r6.1) then r6.2 else (if r6.1 < r6.1 then r6.1 else r6.1)))), (29, pB b4 1)]) (obs := []) hf68 (by kernel_rfl) (by kernel_rfl) (fun _ => .nil) fun a69 hf69 => ?_
        refine p_firstE 1 [vI (if r6.2 > (if r6.1 > r6.1 then r6.1 else r6.1) then r6.2 else (if r6.1 > r6.1 then r6.1 else r6.1))] [1, 18, 25, 30] (fl' := [(1, vI r7.1), (18, pB b4 0), (25, vI (if r7.1 < (if r6.2 < (if r6.1 < r6.1 then r6.1 else r6.1) then r6.2 else (if r6.1 < r6.1 then r6.1 else r6.1)) then r7.1 else (if r6.2 < (if r6.1 < r6.1 then r6.1 else r6.1) then r6.2 else (if r6.1 < r6.1 then r6.1 else r6.1)))), (30, vI (if r6.2 > (if r6.1 > r6.1 then r6.1 else r6.1) then r6.2 else (if r6.1 > r6.1 then r6.1 else r6.1)))]) (obs := [.cell ⟨b4, 1, none⟩ (vI (if r6.2 > (if r6.1 > r6.1 then r6.1 else r6.1) then r6.2 else (if r6.1 > r6.1 then r6.1 else r6.1)))]) (by kernel_rfl) hf69 (by kernel_rfl) (by kernel_rfl) (.cell (hS24.box (i := 1) rfl (j := 1) rfl) .nil) fun a70 hf70 => ?_
        refine p_firstP 5 [] [33, 35] (fl' := [(33, .agg #[vI (if r7.1 < (if r6.2 < (if r6.1 < r6.1 then r6.1 else r6.1) then r6.2 else (if r6.1 < r6.1 then r6.1 else r6.1)) then r7.1 else (if r6.2 < (if r6.1 < r6.1 then r6.1 else r6.1) then r6.2 else (if r6.1 < r6.1 then r6.1 else r6.1))), vI (if r7.1 > (if r6.2 > (if r6.1 > r6.1 then r6.1 else r6.1) then r6.2 else (if r6.1 > r6.1 then r6.1 else r6.1)) then r7.1 else (if r6.2 > (if r6.1 > r6.1 then r6.1 else r6.1) then r6.2 else (if r6.1 > r6.1 then r6.1 else r6.1)))]), (35, pB b4 0)]) (obs := []) hf70 (by kernel_rfl) (by kernel_rfl) (fun _ => .nil) fun a71 hf71 => ?_
        refine p_store_eq (i := 18) (j := 1) (b := b4) (off := 0) (vs := [vI (if r7.1 < (if r6.2 < (if r6.1 < r6.1 then r6.1 else r6.1) then r6.2 else (if r6.1 < r6.1 then r6.1 else r6.1)) then r7.1 else (if r6.2 < (if r6.1 < r6.1 then r6.1 else r6.1) then r6.2 else (if r6.1 < r6.1 then r6.1 else r6.1))), vI (if r7.1 > (if r6.2 > (if r6.1 > r6.1 then r6.1 else r6.1) then r6.2 else (if r6.1 > r6.1 then r6.1 else r6.1)) then r7.1 else (if r6.2 > (if r6.1 > r6.1 then r6.1 else r6.1) then r6.2 else (if r6.1 > r6.1 then r6.1 else r6.1)))]) (cs' := [vI (if r7.1 < (if r6.2 < (if r6.1 < r6.1 then r6.1 else r6.1) then r6.2 else (if r6.1 < r6.1 then r6.1 else r6.1)) then r7.1 else (if r6.2 < (if r6.1 < r6.1 then r6.1 else r6.1) then r6.2 else (if r6.1 < r6.1 then r6.1 else r6.1))), vI (if r7.1 > (if r6.2 > (if r6.1 > r6.1 then r6.1 else r6.1) then r6.2 else (if r6.1 > r6.1 then r6.1 else r6.1)) then r7.1 else (if r6.2 > (if r6.1 > r6.1 then r6.1 else r6.1) then r6.2 else (if r6.1 > r6.1 then r6.1 else r6.1))), .bool true, .bool false]) hS24 hf71 rfl (by kernel_rfl) (by kernel_rfl) rfl fun ww21 a72 hS25 hf72 => ⟨fun e => absurd e (by decide), ?_⟩
        refine p_done (by kernel_rfl) ?_
        refine p_fall (os := []) (v := .tuple #[]) (obs := []) hf72 (by kernel_rfl) .nil ?_
        refine ⟨_, rfl, fun a73 hf73 => ?_⟩
        refine ⟨fun _ => trivial, ?_⟩
        refine p_done (by kernel_rfl) ?_
        refine n_then ?_
        refine w_reg (by kernel_rfl) ?_
        refine p_run 2 [vI r7.2] [2, 12] (fl' := [(2, pB b4 0), (12, vI r7.2)]) (obs := [.cell ⟨b6, 1, none⟩ (vI r7.2)]) trivial hf73 (by kernel_rfl) (by kernel_rfl) (.cell (hS25.box (i := 0) rfl (j := 1) rfl) .nil) fun a74 hf74 => ?_
        refine p_inl (i := 2) (d := some 13) (f := 89) (args := #[pB b4 0, vI r7.2]) (N' := 36) hf74 (by kernel_rfl) Try.func89 (by kernel_rfl) fun a75 hf75 => ?_
        refine w_seq (by kernel_rfl) ?_
        refine w_seq (by kernel_rfl) ?_
        refine w_reg (by kernel_rfl) ?_
        refine p_run 5 [.bool true] [0, 1, 8] (fl' := [(0, pB b4 0), (1, vI r7.2), (8, .bool false)]) (obs := [.cell ⟨b4, 2, none⟩ (.bool true)]) trivial hf75 (by kernel_rfl) (by kernel_rfl) (.cell (hS25.box (i := 1) rfl (j := 2) rfl) .nil) fun a76 hf76 => ?_
        refine p_done (by kernel_rfl) ?_
        refine n_then ?_
        refine w_if_false hf76 (by kernel_rfl) ?_
        refine w_skip (by kernel_rfl) ?_
        refine n_then ?_
        have hS26 := hS25.drew
        refine w_regD (by kernel_rfl) [(0, true), (1, true), (2, true), (3, true), (4, true), (5, true), (6, true), (7, true), (8, true), (9, true), (10, true), (11, true), (12, true), (13, true), (14, true), (15, true), (16, true), (17, true), (18, false)] [18] (fun x => x = ww21.drew) (by kernel_rfl) rfl ?_
        refine p_firstP 5 [] [0, 1, 18, 22] (fl' := [(0, pB b4 0), (1, vI r7.2), (18, pB b4 0), (22, pB b4 0)]) (obs := []) hf76 (by kernel_rfl) (by kernel_rfl) (fun _ => .nil) fun a77 hf77 => ?_
        refine p_firstE 1 [vI (if r7.1 < (if r6.2 < (if r6.1 < r6.1 then r6.1 else r6.1) then r6.2 else (if r6.1 < r6.1 then r6.1 else r6.1)) then r7.1 else (if r6.2 < (if r6.1 < r6.1 then r6.1 else r6.1) then r6.2 else (if r6.1 < r6.1 then r6.1 else r6.1)))] [0, 1, 18, 23] (fl' := [(0, pB b4 0), (1, vI r7.2), (18, pB b4 0), (23, vI (if r7.1 < (if r6.2 < (if r6.1 < r6.1 then r6.1 else r6.1) then r6.2 else (if r6.1 < r6.1 then r6.1 else r6.1)) then r7.1 else (if r6.2 < (if r6.1 < r6.1 then r6.1 else r6.1) then r6.2 else (if r6.1 < r6.1 then r6.1 else r6.1))))]) (obs := [.cell ⟨b4, 0, none⟩ (vI (if r7.1 < (if r6.2 < (if r6.1 < r6.1 then r6.1 else r6.1) then r6.2 else (if r6.1 < r6.1 then r6.1 else r6.1)) then r7.1 else (if r6.2 < (if r6.1 < r6.1 then r6.1 else r6.1) then r6.2 else (if r6.1 < r6.1 then r6.1 else r6.1))))]) (by kernel_rfl) hf77 (by kernel_rfl) (by kernel_rfl) (.cell (hS26.box (i := 1) rfl (j := 0) rfl) .nil) fun a78 hf78 => ?_
        refine p_firstP 6 [] [1, 18, 25, 29] (fl' := [(1, vI r7.2), (18, pB b4 0), (25, vI (if r7.2 < (if r7.1 < (if r6.2 < (if r6.1 < r6.1 then r6.1 else r6.1) then r6.2 else (if r6.1 < r6.1 then r6.1 else r6.1)) then r7.1 else (if r6.2 < (if r6.1 < r6.1 then r6.1 else r6.1) then r6.2 else (if r6.1 < r6.1 then r6.1 else r6.1))) then r7.2 else (if r7.1 < (if r6.2 < (if r6.1 < r6.1 then r6.1 else r6.1) then r6.2 else (if r6.1 < r6.1 then r6.1 else r6.1)) then r7.1 else (if r6.2 < (if r6.1 < r6.1 then r6.1 else r6.1) then r6.2 else (if r6.1 < r6.1 then r6.1 else r6.1))))), (29, pB b4 1)]) (obs := []) hf78 (by kernel_rfl) (by kernel_rfl) (fun _ => .nil) fun a79 hf79 => ?_
        refine p_firstE 1 [vI (if r7.1 > (if r6.2 > (if r6.1 > r6.1 then r6.1 else r6.1) then r6.2 else (if r6.1 > r6.1 then r6.1 else r6.1)) then r7.1 else (if r6.2 > (if r6.1 > r6.1 then r6.1 else r6.1) then r6.2 else (if r6.1 > r6.1 then r6.1 else r6.1)))] [1, 18, 25, 30] (fl' := [(1, vI r7.2), (18, pB b4 0), (25, vI (if r7.2 < (if r7.1 < (if r6.2 < (if r6.1 < r6.1 then r6.1 else r6.1) then r6.2 else (if r6.1 < r6.1 then r6.1 else r6.1)) then r7.1 else (if r6.2 < (if r6.1 < r6.1 then r6.1 else r6.1) then r6.2 else (if r6.1 < r6.1 then r6.1 else r6.1))) then r7.2 else (if r7.1 < (if r6.2 < (if r6.1 < r6.1 then r6.1 else r6.1) then r6.2 else (if r6.1 < r6.1 then r6.1 else r6.1)) then r7.1 else (if r6.2 < (if r6.1 < r6.1 then r6.1 else r6.1) then r6.2 else (if r6.1 < r6.1 then r6.1 else r6.1))))), (30, vI (if r7.1 > (if r6.2 > (if r6.1 > r6.1 then r6.1 else r6.1) then r6.2 else (if r6.1 > r6.1 then r6.1 else r6.1)) then r7.1 else (if r6.2 > (if r6.1 > r6.1 then r6.1 else r6.1) then r6.2 else (if r6.1 > r6.1 then r6.1 else r6.1))))]) (obs := [.cell ⟨b4, 1, none⟩ (vI (if r7.1 > (if r6.2 > (if r6.1 > r6.1 then r6.1 else r6.1) then r6.2 else (if r6.1 > r6.1 then r6.1 else r6.1)) then r7.1 else (if r6.2 > (if r6.1 > r6.1 then r6.1 else r6.1) then r6.2 else (if r6.1 > r6.1 then r6.1 else r6.1))))]) (by kernel_rfl) hf79 (by kernel_rfl) (by kernel_rfl) (.cell (hS26.box (i := 1) rfl (j := 1) rfl) .nil) fun a80 hf80 => ?_
        refine p_firstP 5 [] [33, 35] (fl' := [(33, .agg #[vI (if r7.2 < (if r7.1 < (if r6.2 < (if r6.1 < r6.1 then r6.1 else r6.1) then r6.2 else (if r6.1 < r6.1 then r6.1 else r6.1)) then r7.1 else (if r6.2 < (if r6.1 < r6.1 then r6.1 else r6.1) then r6.2 else (if r6.1 < r6.1 then r6.1 else r6.1))) then r7.2 else (if r7.1 < (if r6.2 < (if r6.1 < r6.1 then r6.1 else r6.1) then r6.2 else (if r6.1 < r6.1 then r6.1 else r6.1)) then r7.1 else (if r6.2 < (if r6.1 < r6.1 then r6.1 else r6.1) then r6.2 else (if r6.1 < r6.1 then r6.1 else r6.1)))), vI (if r7.2 > (if r7.1 > (if r6.2 > (if r6.1 > r6.1 then r6.1 else r6.1) then r6.2 else (if r6.1 > r6.1 then r6.1 else r6.1)) then r7.1 else (if r6.2 > (if r6.1 > r6.1 then r6.1 else r6.1) then r6.2 else (if r6.1 > r6.1 then r6.1 else r6.1))) then r7.2 else (if r7.1 > (if r6.2 > (if r6.1 > r6.1 then r6.1 else r6.1) then r6.2 else (if r6.1 > r6.1 then r6.1 else r6.1)) then r7.1 else (if r6.2 > (if r6.1 > r6.1 then r6.1 else r6.1) then r6.2 else (if r6.1 > r6.1 then r6.1 else r6.1))))]), (35, pB b4 0)]) (obs := []) hf80 (by kernel_rfl) (by kernel_rfl) (fun _ => .nil) fun a81 hf81 => ?_
        refine p_store_eq (i := 18) (j := 1) (b := b4) (off := 0) (vs := [vI (if r7.2 < (if r7.1 < (if r6.2 < (if r6.1 < r6.1 then r6.1 else r6.1) then r6.2 else (if r6.1 < r6.1 then r6.1 else r6.1)) then r7.1 else (if r6.2 < (if r6.1 < r6.1 then r6.1 else r6.1) then r6.2 else (if r6.1 < r6.1 then r6.1 else r6.1))) then r7.2 else (if r7.1 < (if r6.2 < (if r6.1 < r6.1 then r6.1 else r6.1) then r6.2 else (if r6.1 < r6.1 then r6.1 else r6.1)) then r7.1 else (if r6.2 < (if r6.1 < r6.1 then r6.1 else r6.1) then r6.2 else (if r6.1 < r6.1 then r6.1 else r6.1)))), vI (if r7.2 > (if r7.1 > (if r6.2 > (if r6.1 > r6.1 then r6.1 else r6.1) then r6.2 else (if r6.1 > r6.1 then r6.1 else r6.1)) then r7.1 else (if r6.2 > (if r6.1 > r6.1 then r6.1 else r6.1) then r6.2 else (if r6.1 > r6.1 then r6.1 else r6.1))) then r7.2 else (if r7.1 > (if r6.2 > (if r6.1 > r6.1 then r6.1 else r6.1) then r6.2 else (if r6.1 > r6.1 then r6.1 else r6.1)) then r7.1 else (if r6.2 > (if r6.1 > r6.1 then r6.1 else r6.1) then r6.2 else (if r6.1 > r6.1 then r6.1 else r6.1))))]) (cs' := [vI (if r7.2 < (if r7.1 < (if r6.2 < (if r6.1 < r6.1 then r6.1 else r6.1) then r6.2 else (if r6.1 < r6.1 then r6.1 else r6.1)) then r7.1 else (if r6.2 < (if r6.1 < r6.1 then r6.1 else r6.1) then r6.2 else (if r6.1 < r6.1 then r6.1 else r6.1))) then r7.2 else (if r7.1 < (if r6.2 < (if r6.1 < r6.1 then r6.1 else r6.1) then r6.2 else (if r6.1 < r6.1 then r6.1 else r6.1)) then r7.1 else (if r6.2 < (if r6.1 < r6.1 then r6.1 else r6.1) then r6.2 else (if r6.1 < r6.1 then r6.1 else r6.1)))), vI (if r7.2 > (if r7.1 > (if r6.2 > (if r6.1 > r6.1 then r6.1 else r6.1) then r6.2 else (if r6.1 > r6.1 then r6.1 else r6.1)) then r7.1 else (if r6.2 > (if r6.1 > r6.1 then r6.1 else r6.1) then r6.2 else (if r6.1 > r6.1 then r6.1 else r6.1))) then r7.2 else (if r7.1 > (if r6.2 > (if r6.1 > r6.1 then r6.1 else r6.1) then r6.2 else (if r6.1 > r6.1 then r6.1 else r6.1)) then r7.1 else (if r6.2 > (if r6.1 > r6.1 then r6.1 else r6.1) then r6.2 else (if r6.1 > r6.1 then r6.1 else r6.1)))), .bool true, .bool false]) hS26 hf81 rfl (by kernel_rfl) (by kernel_rfl) rfl fun ww22 a82 hS27 hf82 => ⟨fun e => absurd e (by decide), ?_⟩
        refine p_done (by kernel_rfl) ?_
        refine p_fall (os := []) (v := .tuple #[]) (obs := []) hf82 (by kernel_rfl) .nil ?_
        refine ⟨_, rfl, fun a83 hf83 => ?_⟩
        refine ⟨fun _ => trivial, ?_⟩
        refine p_done (by kernel_rfl) ?_
        refine p_fall (os := []) (v := .tuple #[]) (obs := []) hf83 (by kernel_rfl) .nil ?_
        refine ⟨_, rfl, fun a84 hf84 => ?_⟩
        have hS28 := St.drop 1 hS27
        refine ⟨fun _ => trivial, ?_⟩
        refine p_done (by kernel_rfl) ?_
        refine n_then ?_
        refine w_seq (by kernel_rfl) ?_
        refine w_seq (by kernel_rfl) ?_
        refine w_reg (by kernel_rfl) ?_
        refine p_run 4 [.slice o_x0 x0.length c_x0] [3, 4, 8, 9, 39, 40, 41] (fl' := [(3, pB b2 0), (4, pB b3 0), (8, pB b4 0), (9, .func (.func 87) #[] #[pB b1 0, pB b4 0]), (39, .slice o_x0 x0.length c_x0), (40, vI (x0.length : Int)), (41, vI 0)]) (obs := [.cell ⟨b1, 0, none⟩ (.slice o_x0 x0.length c_x0)]) trivial hf84 (by kernel_rfl) (by kernel_rfl) (.cell (hS28.box (i := 3) rfl (j := 0) rfl) .nil) fun a85 hf85 => ?_
        refine p_done (by kernel_rfl) ?_
        refine n_then ?_
        refine w_block (id := 0) (by kernel_rfl) ?_
        have hf86 := Fr.keep (ks := [3, 4, 8, 9, 39, 40, 41]) (r := [(3, pB b2 0), (4, pB b3 0), (8, pB b4 0), (9, .func (.func 87) #[] #[pB b1 0, pB b4 0]), (39, .slice o_x0 x0.length c_x0), (40, vI (x0.length : Int)), (41, vI 0)]) hf85 (by kernel_rfl)
        refine w_loop (by kernel_rfl) (fun n a w => ∃ z6 : Zone, ∃ y4 : Int, ∃ y5 : Int, ∃ y1 : Int, Zone.le z5 z6 ∧ Fr a 59 [(3, pB b2 0), (4, pB b3 0), (8, pB b4 0), (9, .func (.func 87) #[] #[pB b1 0, pB b4 0]), (39, .slice o_x0 x0.length c_x0), (40, vI (x0.length : Int)), (41, vI y1)] ∧ St z6 (box b4 [vI y4, vI y5, .bool true, .bool false] 100 :: box b3 [vI 0, vI 0] 41 :: box b2 [vI x1_lo, vI x1_hi] 41 :: box b1 [.slice o_x0 x0.length c_x0] 24 :: L) w ∧ (F19_l1 fuel x0 x1_lo x1_hi n y4 y5 y1) = some r) fuel ⟨z5, (if r7.2 < (if r7.1 < (if r6.2 < (if r6.1 < r6.1 then r6.1 else r6.1) then r6.2 else (if r6.1 < r6.1 then r6.1 else r6.1)) then r7.1 else (if r6.2 < (if r6.1 < r6.1 then r6.1 else r6.1) then r6.2 else (if r6.1 < r6.1 then r6.1 else r6.1))) then r7.2 else (if r7.1 < (if r6.2 < (if r6.1 < r6.1 then r6.1 else r6.1) then r6.2 else (if r6.1 < r6.1 then r6.1 else r6.1)) then r7.1 else (if r6.2 < (if r6.1 < r6.1 then r6.1 else r6.1) then r6.2 else (if r6.1 < r6.1 then r6.1 else r6.1)))), (if r7.2 > (if r7.1 > (if r6.2 > (if r6.1 > r6.1 then r6.1 else r6.1) then r6.2 else (if r6.1 > r6.1 then r6.1 else r6.1)) then r7.1 else (if r6.2 > (if r6.1 > r6.1 then r6.1 else r6.1) then r6.2 else (if r6.1 > r6.1 then r6.1 else r6.1))) then r7.2 else (if r7.1 > (if r6.2 > (if r6.1 > r6.1 then r6.1 else r6.1) then r6.2 else (if r6.1 > r6.1 then r6.1 else r6.1)) then r7.1 else (if r6.2 > (if r6.1 > r6.1 then r6.1 else r6.1) then r6.2 else (if r6.1 > r6.1 then r6.1 else r6.1)))), 0, (Zone.le_refl _), hf86, hS28, hr11⟩ ?_
        rintro n2 a86 ww23 ⟨z6, y4, y5, y1, k7, hf87, hS29, hr12⟩
        cases n2 with
        | zero => cases hr12
        | succ n1 =>
        refine w_seq (by kernel_rfl) ?_
        refine w_reg (by kernel_rfl) ?_
        refine p_run 1 [] [3, 4, 8, 9, 39, 40, 41, 42] (fl' := [(3, pB b2 0), (4, pB b3 0), (8, pB b4 0), (9, .func (.func 87) #[] #[pB b1 0, pB b4 0]), (39, .slice o_x0 x0.length c_x0), (40, vI (x0.length : Int)), (41, vI y1), (42, .bool (decide (y1 < (x0.length : Int))))]) (obs := []) trivial hf87 (by kernel_rfl) (by kernel_rfl) .nil fun a87 hf88 => ?_
        refine p_done (by kernel_rfl) ?_
        refine n_then ?_
        refine w_seq (by kernel_rfl) ?_
        refine w_if hf88 (b := (decide (y1 < (x0.length : Int)))) (by kernel_rfl) (fun hb4 => ?_) (fun hb4 => ?_)
        · have hr13 := cond_t hb4 hr12
          refine w_skip (by kernel_rfl) ?_
          refine n_then ?_
          refine w_mid (by kernel_rfl) (fun a w => ∃ z7 : Zone, ∃ y2 : Int, ∃ y3 : Int, Zone.le z6 z7 ∧ Fr a 59 [(3, pB b2 0), (4, pB b3 0), (8, pB b4 0), (9, .func (.func 87) #[] #[pB b1 0, pB b4 0]), (39, .slice o_x0 x0.length c_x0), (40, vI (x0.length : Int)), (41, vI y1)] ∧ St z7 (box b4 [vI y2, vI y3, .bool true, .bool false] 100 :: box b3 [vI 0, vI 0] 41 :: box b2 [vI x1_lo, vI x1_hi] 41 :: box b1 [.slice o_x0 x0.length c_x0] 24 :: L) w ∧ (F19_j1 (F19_l1 fuel x0 x1_lo x1_hi n1) y1 y2 y3) = some r) ?_ ?_
          · skip
            refine w_block (id := 1) (by kernel_rfl) ?_
            refine w_seq (by kernel_rfl) ?_
            refine w_reg (by kernel_rfl) ?_
            obtain ⟨p1, hp5700, hr14⟩ := bind_some hr13
            obtain ⟨ad1, ho1, hb5, cc1, hc1, hk1⟩ := SliceR.getI (SliceR.mono (Zone.le_trans (Zone.le_trans (Zone.le_trans (Zone.le_trans (Zone.le_trans k2 k3) k4) k5) k6) k7) hx_x0) hp5700
            subst hc1
            refine p_run 2 [.pointer (some ad1), vI p1.x, vI p1.lo, vI p1.hi] [3, 4, 8, 9, 39, 40, 41, 44] (fl' := [(3, pB b2 0), (4, pB b3 0), (8, pB b4 0), (9, .func (.func 87) #[] #[pB b1 0, pB b4 0]), (39, .slice o_x0 x0.length c_x0), (40, vI (x0.length : Int)), (41, vI y1), (44, .agg #[vI p1.x, vI p1.lo, vI p1.hi])]) (obs := [.prop (o_x0 = some ad1), .prop (0 ≤ y1 ∧ y1 < (x0.length : Nat)), .cell ((ad1.add (Int.toNat y1 * 3)).add 0) (vI p1.x), .cell ((ad1.add (Int.toNat y1 * 3)).add 1) (vI p1.lo), .cell ((ad1.add (Int.toNat y1 * 3)).add 2) (vI p1.hi)]) trivial hf88 (by kernel_rfl) (by kernel_rfl) (.prop ho1 (.prop hb5 (.cell (hS29.cell (hk1 0 _ rfl)) (.cell (hS29.cell (hk1 1 _ rfl)) (.cell (hS29.cell (hk1 2 _ rfl)) .nil))))) fun a88 hf89 => ?_
            refine p_box (i := 2) (d := (some 11)) (cs := [vI 0, vI 0, vI 0]) (T := 52) (v := fun b7 => pB b7 0) hS29 hf89 (fun b => by kernel_rfl) fun b7 ww24 a89 hS30 hf90 => ⟨fun _ => trivial, ?_⟩
            refine p_store_eq (i := 3) (j := 0) (b := b7) (off := 0) (vs := [vI p1.x, vI p1.lo, vI p1.hi]) (cs' := [vI p1.x, vI p1.lo, vI p1.hi]) hS30 hf90 rfl (by kernel_rfl) (by kernel_rfl) rfl fun ww25 a90 hS31 hf91 => ⟨fun _ => trivial, ?_⟩
            refine p_done (by kernel_rfl) ?_
            refine n_then ?_
            refine w_seq (by kernel_rfl) ?_
            refine w_reg (by kernel_rfl) ?_
            refine p_run 6 [vI p1.x, vI x1_lo, vI x1_hi] [3, 4, 8, 9, 11, 39, 40, 41, 46, 48, 50] (fl' := [(3, pB b2 0), (4, pB b3 0), (8, pB b4 0), (9, .func (.func 87) #[] #[pB b1 0, pB b4 0]), (11, pB b7 0), (39, .slice o_x0 x0.length c_x0), (40, vI (x0.length : Int)), (41, vI y1), (46, vI p1.x), (48, vI x1_lo), (50, vI x1_hi)]) (obs := [.cell ⟨b7, 0, none⟩ (vI p1.x), .cell ⟨b2, 0, none⟩ (vI x1_lo), .cell ⟨b2, 1, none⟩ (vI x1_hi)]) trivial hf91 (by kernel_rfl) (by kernel_rfl) (.cell (hS31.box (i := 0) rfl (j := 0) rfl) (.cell (hS31.box (i := 3) rfl (j := 0) rfl) (.cell (hS31.box (i := 3) rfl (j := 1) rfl) .nil))) fun a91 hf92 => ?_
            obtain ⟨r1, hd6, hr15⟩ := bind_some hr14
            refine p_call (i := 6) (d := some 51) (f := 90) (args := #[vI p1.x, vI x1_lo, vI x1_hi]) hf92 (by kernel_rfl) (f90_ok fuel p1.x x1_lo x1_hi r1 hd6 z6 _ _ hS31 ) ?_
            rintro v6 ww26 a92 ⟨z8, k8, rfl, hS32⟩ hf93
            refine ⟨fun _ => trivial, ?_⟩
            refine p_done (by kernel_rfl) ?_
            refine n_then ?_
            refine w_if hf93 (b := r1) (by kernel_rfl) (fun hb6 => ?_) (fun hb6 => ?_)
            · have hr16 := cond_t hb6 hr15
              refine w_reg (by kernel_rfl) ?_
              refine p_run 3 [vI p1.x] [3, 4, 8, 9, 39, 40, 41, 52, 54] (fl' := [(3, pB b2 0), (4, pB b3 0), (8, pB b4 0), (9, .func (.func 87) #[] #[pB b1 0, pB b4 0]), (39, .slice o_x0 x0.length c_x0), (40, vI (x0.length : Int)), (41, vI y1), (52, .func (.func 87) #[] #[pB b1 0, pB b4 0]), (54, vI p1.x)]) (obs := [.cell ⟨b7, 0, none⟩ (vI p1.x)]) trivial hf93 (by kernel_rfl) (by kernel_rfl) (.cell (hS32.box (i := 0) rfl (j := 0) rfl) .nil) fun a93 hf94 => ?_
              refine p_inl (i := 3) (d := some 55) (f := 87) (args := #[vI p1.x, pB b1 0, pB b4 0]) (N' := 14) hf94 (by kernel_rfl) Try.func87 (by kernel_rfl) fun a94 hf95 => ?_
              refine w_seq (by kernel_rfl) ?_
              refine w_reg (by kernel_rfl) ?_
              refine p_run 2 [.slice o_x0 x0.length c_x0] [2, 5, 6] (fl' := [(2, pB b4 0), (5, .agg #[.slice o_x0 x0.length c_x0]), (6, vI p1.x)]) (obs := [.cell ⟨b1, 0, none⟩ (.slice o_x0 x0.length c_x0)]) trivial hf95 (by kernel_rfl) (by kernel_rfl) (.cell (hS32.box (i := 4) rfl (j := 0) rfl) .nil) fun a95 hf96 => ?_
              obtain ⟨r2, hd7, hr17⟩ := bind_some hr16
              refine p_call (i := 2) (d := some 7) (f := 88) (args := #[.agg #[.slice o_x0 x0.length c_x0], vI p1.x]) hf96 (by kernel_rfl) (f88_ok fuel x0 p1.x r2 hd7 z8 _ _ hS32 o_x0 c_x0 (SliceR.mono (Zone.le_trans (Zone.le_trans (Zone.le_trans (Zone.le_trans (Zone.le_trans (Zone.le_trans k2 k3) k4) k5) k6) k7) k8) hx_x0)) ?_
              rintro v7 ww27 a96 ⟨z9, k9, rfl, hS33⟩ hf97
              refine ⟨fun _ => trivial, ?_⟩
              refine p_box (i := 3) (d := (some 4)) (cs := [vI 0, vI 0]) (T := 41) (v := fun b8 => pB b8 0) hS33 hf97 (fun b => by kernel_rfl) fun b8 ww28 a97 hS34 hf98 => ⟨fun _ => trivial, ?_⟩
              refine p_store_eq (i := 4) (j := 0) (b := b8) (off := 0) (vs := [vI r2.1, vI r2.2]) (cs' := [vI r2.1, vI r2.2]) hS34 hf98 rfl (by kernel_rfl) (by kernel_rfl) rfl fun ww29 a98 hS35 hf99 => ⟨fun _ => trivial, ?_⟩
              refine p_done (by kernel_rfl) ?_
              refine n_then ?_
              refine w_seq (by kernel_rfl) ?_
              refine w_reg (by kernel_rfl) ?_
              refine p_run 2 [vI r2.1] [2, 4, 9] (fl' := [(2, pB b4 0), (4, pB b8 0), (9, vI r2.1)]) (obs := [.cell ⟨b8, 0, none⟩ (vI r2.1)]) trivial hf99 (by kernel_rfl) (by kernel_rfl) (.cell (hS35.box (i := 0) rfl (j := 0) rfl) .nil) fun a99 hf100 => ?_
              refine p_inl (i := 2) (d := some 10) (f := 89) (args := #[pB b4 0, vI r2.1]) (N' := 36) hf100 (by kernel_rfl) Try.func89 (by kernel_rfl) fun a100 hf101 => ?_
              refine w_seq (by kernel_rfl) ?_
              refine w_seq (by kernel_rfl) ?_
              refine w_reg (by kernel_rfl) ?_
              refine p_run 5 [.bool true] [0, 1, 8] (fl' := [(0, pB b4 0), (1, vI r2.1), (8, .bool false)]) (obs := [.cell ⟨b4, 2, none⟩ (.bool true)]) trivial hf101 (by kernel_rfl) (by kernel_rfl) (.cell (hS35.box (i := 2) rfl (j := 2) rfl) .nil) fun a101 hf102 => ?_
              refine p_done (by kernel_rfl) ?_
              refine n_then ?_
              refine w_if_false hf102 (by kernel_rfl) ?_
              refine w_skip (by kernel_rfl) ?_
              refine n_then ?_
              have hS36 := hS35.drew
              refine w_regD (by kernel_rfl) [(0, true), (1, true), (2, true), (3, true), (4, true), (5, true), (6, true), (7, true), (8, true), (9, true), (10, true), (11, true), (12, true), (13, true), (14, true), (15, true), (16, true), (17, true), (18, false)] [18] (fun x => x = ww29.drew) (by kernel_rfl) rfl ?_
              refine p_firstP 5 [] [0, 1, 18, 22] (fl' := [(0, pB b4 0), (1, vI r2.1), (18, pB b4 0), (22, pB b4 0)]) (obs := []) hf102 (by kernel_rfl) (by kernel_rfl) (fun _ => .nil) fun a102 hf103 => ?_
              refine p_firstE 1 [vI y4] [0, 1, 18, 23] (fl' := [(0, pB b4 0), (1, vI r2.1), (18, pB b4 0), (23, vI y4)]) (obs := [.cell ⟨b4, 0, none⟩ (vI y4)]) (by kernel_rfl) hf103 (by kernel_rfl) (by kernel_rfl) (.cell (hS36.box (i := 2) rfl (j := 0) rfl) .nil) fun a103 hf104 => ?_
              refine p_firstP 6 [] [1, 18, 25, 29] (fl' := [(1, vI r2.1), (18, pB b4 0), (25, vI (if r2.1 < y4 then r2.1 else y4)), (29, pB b4 1)]) (obs := []) hf104 (by kernel_rfl) (by kernel_rfl) (fun _ => .nil) fun a104 hf105 => ?_
              refine p_firstE 1 [vI y5] [1, 18, 25, 30] (fl' := [(1, vI r2.1), (18, pB b4 0), (25, vI (if r2.1 < y4 then r2.1 else y4)), (30, vI y5)]) (obs := [.cell ⟨b4, 1, none⟩ (vI y5)]) (by kernel_rfl) hf105 (by kernel_rfl) (by kernel_rfl) (.cell (hS36.box (i := 2) rfl (j := 1) rfl) .nil) fun a105 hf106 => ?_
              refine p_firstP 5 [] [33, 35] (fl' := [(33, .agg #[vI (if r2.1 < y4 then r2.1 else y4), vI (if r2.1 > y5 then r2.1 else y5)]), (35, pB b4 0)]) (obs := []) hf106 (by kernel_rfl) (by kernel_rfl) (fun _ => .nil) fun a106 hf107 => ?_
              refine p_store_eq (i := 18) (j := 2) (b := b4) (off := 0) (vs := [vI (if r2.1 < y4 then r2.1 else y4), vI (if r2.1 > y5 then r2.1 else y5)]) (cs' := [vI (if r2.1 < y4 then r2.1 else y4), vI (if r2.1 > y5 then r2.1 else y5), .bool true, .bool false]) hS36 hf107 rfl (by kernel_rfl) (by kernel_rfl) rfl fun ww30 a107 hS37 hf108 => ⟨fun e => absurd e (by decide), ?_⟩
              refine p_done (by kernel_rfl) ?_
              refine p_fall (os := []) (v := .tuple #[]) (obs := []) hf108 (by kernel_rfl) .nil ?_
              refine ⟨_, rfl, fun a108 hf109 => ?_⟩
              refine ⟨fun _ => trivial, ?_⟩
              refine p_done (by kernel_rfl) ?_
              refine n_then ?_
              refine w_reg (by kernel_rfl) ?_
              refine p_run 2 [vI r2.2] [2, 12] (fl' := [(2, pB b4 0), (12, vI r2.2)]) (obs := [.cell ⟨b8, 1, none⟩ (vI r2.2)]) trivial hf109 (by kernel_rfl) (by kernel_rfl) (.cell (hS37.box (i := 0) rfl (j := 1) rfl) .nil) fun a109 hf110 => ?_
              refine p_inl (i := 2) (d := some 13) (f := 89) (args := #[pB b4 0, vI r2.2]) (N' := 36) hf110 (by kernel_rfl) Try.func89 (by kernel_rfl) fun a110 hf111 => ?_
              refine w_seq (by kernel_rfl) ?_
              refine w_seq (by kernel_rfl) ?_
              refine w_reg (by kernel_rfl) ?_
              refine p_run 5 [.bool true] [0, 1, 8] (fl' := [(0, pB b4 0), (1, vI r2.2), (8, .bool false)]) (obs := [.cell ⟨b4, 2, none⟩ (.bool true)]) trivial hf111 (by kernel_rfl) (by kernel_rfl) (.cell (hS37.box (i := 2) rfl (j := 2) rfl) .nil) fun a111 hf112 => ?_
              refine p_done (by kernel_rfl) ?_
              refine n_then ?_
              refine w_if_false hf112 (by kernel_rfl) ?_
              refine w_skip (by kernel_rfl) ?_
              refine n_then ?_
              have hS38 := hS37.drew
              refine w_regD (by kernel_rfl) [(0, true), (1, true), (2, true), (3, true), (4, true), (5, true), (6, true), (7, true), (8, true), (9, true), (10, true), (11, true), (12, true), (13, true), (14, true), (15, true), (16, true), (17, true), (18, false)] [18] (fun x => x = ww30.drew) (by kernel_rfl) rfl ?_
              refine p_firstP 5 [] [0, 1, 18, 22] (fl' := [(0, pB b4 0), (1, vI r2.2), (18, pB b4 0), (22, pB b4 0)]) (obs := []) hf112 (by kernel_rfl) (by kernel_rfl) (fun _ => .nil) fun a112 hf113 => ?_
              refine p_firstE 1 [vI (if r2.1 < y4 then r2.1 else y4)] [0, 1, 18, 23] (fl' := [(0, pB b4 0), (1, vI r2.2), (18, pB b4 0), (23, vI (if r2.1 < y4 then r2.1 else y4))]) (obs := [.cell ⟨b4, 0, none⟩ (vI (if r2.1 < y4 then r2.1 else y4))]) (by kernel_rfl) hf113 (by kernel_rfl) (by kernel_rfl) (.cell (hS38.box (i := 2) rfl (j := 0) rfl) .nil) fun a113 hf114 => ?_
              refine p_firstP 6 [] [1, 18, 25, 29] (fl' := [(1, vI r2.2), (18, pB b4 0), (25, vI (if r2.2 < (if r2.1 < y4 then r2.1 else y4) then r2.2 else (if r2.1 < y4 then r2.1 else y4))), (29, pB b4 1)]) (obs := []) hf114 (by kernel_rfl) (by kernel_rfl) (fun _ => .nil) fun a114 hf115 => ?_
              refine p_firstE 1 [vI (if r2.1 > y5 then r2.1 else y5)] [1, 18, 25, 30] (fl' := [(1, vI r2.2), (18, pB b4 0), (25, vI (if r2.2 < (if r2.1 < y4 then r2.1 else y4) then r2.2 else (if r2.1 < y4 then r2.1 else y4))), (30, vI (if r2.1 > y5 then r2.1 else y5))]) (obs := [.cell ⟨b4, 1, none⟩ (vI (if r2.1 > y5 then r2.1 else y5))]) (by kernel_rfl) hf115 (by kernel_rfl) (by kernel_rfl) (.cell (hS38.box (i := 2) rfl (j := 1) rfl) .nil) fun a115 hf116 => ?_
              refine p_firstP 5 [] [33, 35] (fl' := [(33, .agg #[vI (if r2.2 < (if r2.1 < y4 then r2.1 else y4) then r2.2 else (if r2.1 < y4 then r2.1 else y4)), vI (if r2.2 > (if r2.1 > y5 then r2.1 else y5) then r2.2 else (if r2.1 > y5 then r2.1 else y5))]), (35, pB b4 0)]) (obs := []) hf116 (by kernel_rfl) (by kernel_rfl) (fun _ => .nil) fun a116 hf117 => ?_
              refine p_store_eq (i := 18) (j := 2) (b := b4) (off := 0) (vs := [vI (if r2.2 < (if r2.1 < y4 then r2.1 else y4) then r2.2 else (if r2.1 < y4 then r2.1 else y4)), vI (if r2.2 > (if r2.1 > y5 then r2.1 else y5) then r2.2 else (if r2.1 > y5 then r2.1 else y5))]) (cs' := [vI (if r2.2 < (if r2.1 < y4 then r2.1 else y4) then r2.2 else (if r2.1 < y4 then r2.1 else y4)), vI (if r2.2 > (if r2.1 > y5 then r2.1 else y5) then r2.2 else (if r2.1 > y5 then r2.1 else y5)), .bool true, .bool false]) hS38 hf117 rfl (by kernel_rfl) (by kernel_rfl) rfl fun ww31 a117 hS39 hf118 => ⟨fun e => absurd e (by decide), ?_⟩
              refine p_done (by kernel_rfl) ?_
              refine p_fall (os := []) (v := .tuple #[]) (obs := []) hf118 (by kernel_rfl) .nil ?_
              refine ⟨_, rfl, fun a118 hf119 => ?_⟩
              refine ⟨fun _ => trivial, ?_⟩
              refine p_done (by kernel_rfl) ?_
              refine p_fall (os := []) (v := .tuple #[]) (obs := []) hf119 (by kernel_rfl) .nil ?_
              refine ⟨_, rfl, fun a119 hf120 => ?_⟩
              have hS40 := St.drop 1 hS39
              refine ⟨fun _ => trivial, ?_⟩
              refine p_done (by kernel_rfl) ?_
              refine n_block ?_
              refine n_then ?_
              have hf121 := Fr.keep (ks := [3, 4, 8, 9, 39, 40, 41]) (r := [(3, pB b2 0), (4, pB b3 0), (8, pB b4 0), (9, .func (.func 87) #[] #[pB b1 0, pB b4 0]), (39, .slice o_x0 x0.length c_x0), (40, vI (x0.length : Int)), (41, vI y1)]) hf120 (by kernel_rfl)
              exact ⟨z9, (if r2.2 < (if r2.1 < y4 then r2.1 else y4) then r2.2 else (if r2.1 < y4 then r2.1 else y4)), (if r2.2 > (if r2.1 > y5 then r2.1 else y5) then r2.2 else (if r2.1 > y5 then r2.1 else y5)), (Zone.le_trans k8 k9), hf121, (St.drop 1 hS40), hr17⟩
            · have hr18 := cond_f hb6 hr15
              refine w_skip (by kernel_rfl) ?_
              refine n_block ?_
              refine n_then ?_
              have hf122 := Fr.keep (ks := [3, 4, 8, 9, 39, 40, 41]) (r := [(3, pB b2 0), (4, pB b3 0), (8, pB b4 0), (9, .func (.func 87) #[] #[pB b1 0, pB b4 0]), (39, .slice o_x0 x0.length c_x0), (40, vI (x0.length : Int)), (41, vI y1)]) hf93 (by kernel_rfl)
              exact ⟨z8, y4, y5, k8, hf122, (St.drop 1 hS32), hr18⟩
          · rintro a120 ww32 ⟨z7, y2, y3, k10, hf123, hS41, hr19⟩
            refine w_reg (by kernel_rfl) ?_
            refine p_run 2 [] [3, 4, 8, 9, 39, 40, 41] (fl' := [(3, pB b2 0), (4, pB b3 0), (8, pB b4 0), (9, .func (.func 87) #[] #[pB b1 0, pB b4 0]), (39, .slice o_x0 x0.length c_x0), (40, vI (x0.length : Int)), (41, vI (w64 (y1 + (1 : Int))))]) (obs := []) trivial hf123 (by kernel_rfl) (by kernel_rfl) .nil fun a121 hf124 => ?_
            refine p_done (by kernel_rfl) ?_
            refine n_then ?_
            have hf125 := Fr.keep (ks := [3, 4, 8, 9, 39, 40, 41]) (r := [(3, pB b2 0), (4, pB b3 0), (8, pB b4 0), (9, .func (.func 87) #[] #[pB b1 0, pB b4 0]), (39, .slice o_x0 x0.length c_x0), (40, vI (x0.length : Int)), (41, vI (w64 (y1 + (1 : Int))))]) hf124 (by kernel_rfl)
            exact ⟨n1, Nat.lt_succ_self n1, z7, y2, y3, (w64 (y1 + (1 : Int))), (Zone.le_trans k7 k10), hf125, hS41, hr19⟩
        · have hr20 := cond_f hb4 hr12
          refine w_exit (id := 0) (by kernel_rfl) ?_
          refine x_then ?_
          refine x_then ?_
          refine x_block ?_
          refine n_then ?_
          refine w_seq (by kernel_rfl) ?_
          refine w_reg (by kernel_rfl) ?_
          refine p_run 2 [vI y4, vI y5] [4, 58] (fl' := [(4, pB b3 0), (58, .agg #[vI y4, vI y5])]) (obs := [.cell ⟨b4, 0, none⟩ (vI y4), .cell ⟨b4, 1, none⟩ (vI y5)]) trivial hf88 (by kernel_rfl) (by kernel_rfl) (.cell (hS29.box (i := 0) rfl (j := 0) rfl) (.cell (hS29.box (i := 0) rfl (j := 1) rfl) .nil)) fun a122 hf126 => ?_
          refine p_store_eq (i := 2) (j := 1) (b := b3) (off := 0) (vs := [vI y4, vI y5]) (cs' := [vI y4, vI y5]) hS29 hf126 rfl (by kernel_rfl) (by kernel_rfl) rfl fun ww33 a123 hS42 hf127 => ⟨fun _ => trivial, ?_⟩
          refine p_run 1 [] [4, 5] (fl' := [(4, pB b3 0), (5, vI 0)]) (obs := []) trivial hf127 (by kernel_rfl) (by kernel_rfl) .nil fun a124 hf128 => ?_
          refine p_done (by kernel_rfl) ?_
          refine n_then ?_
          refine w_ret (by kernel_rfl) ?_
          refine p_ret (os := [vI y4, vI y5]) (v := .tuple #[.agg #[vI y4, vI y5], vI 0]) (obs := [.cell ⟨b3, 0, none⟩ (vI y4), .cell ⟨b3, 1, none⟩ (vI y5)]) hf128 (by kernel_rfl) (.cell (hS42.box (i := 1) rfl (j := 0) rfl) (.cell (hS42.box (i := 1) rfl (j := 1) rfl) .nil)) ?_
          obtain rfl := some_eq hr20
          exact ⟨_, rfl, z6, (Zone.le_trans (Zone.le_trans (Zone.le_trans (Zone.le_trans (Zone.le_trans k2 k3) k4) k5) k6) k7), rfl, (St.drop 4 hS42)⟩
def F21_j1 (y1 : List Rng) : Option (List Rng × Int) :=
  (some (y1, 0))
def F21_j2 (k1 : (List Rng) → Int → Int → Option (List Rng × Int)) (y2 : Int) (y3 : List Rng) : Option (List Rng × Int) :=
  (k1 y3 y2 (w64 (y2 + (1 : Int))))
def F21_j4 (k1 : (List Rng) → Int → Int → Option (List Rng × Int)) (y4 : List Rng) (y2 : Int) (y5 : Bool) : Option (List Rng × Int) :=
  (cond y5 ((getI y4 (w64 ((y4.length : Int) - (1 : Int)))).bind fun p1 => ((setI y4 (w64 ((y4.length : Int) - (1 : Int))) ({ p1 with hi := y2 })).bind fun d1 => (F21_j2 k1 y2 d1))) ((appC y4 ([⟨y2, y2⟩])).bind fun d2 => (F21_j2 k1 y2 d2)))
def F21_j3 (k1 : (List Rng) → Int → Int → Option (List Rng × Int)) (y4 : List Rng) (y2 : Int) (y6 : Bool) : Option (List Rng × Int) :=
  (cond (!y6) (F21_j2 k1 y2 y4) (cond (decide ((w64 ((y4.length : Int) - (1 : Int))) ≥ (0 : Int))) ((getI y4 (w64 ((y4.length : Int) - (1 : Int)))).bind fun p2 => (F21_j4 k1 y4 y2 (p2.hi == (w64 (y2 - (1 : Int)))))) (F21_j4 k1 y4 y2 false)))
def F21_l1 (fuel : Nat) (x1_lo : Int) (x1_hi : Int) (p3 : Pt) (p4 : Pt) : Nat → (List Rng) → Int → Int → Option (List Rng × Int)
  | 0, _, _, _ => none
  | n1 + 1, y4, y7, y2 =>
    let k1 : (List Rng) → Int → Int → Option (List Rng × Int) := F21_l1 fuel x1_lo x1_hi p3 p4 n1
    (cond (decide (y2 ≤ p4.x)) ((F121 fuel p3.x p3.lo p3.hi p4.x p4.lo p4.hi y2).bind fun r1 => (cond (decide (r1.1 ≤ x1_hi)) (F21_j3 k1 y4 y2 (decide (x1_lo ≤ r1.2))) (F21_j3 k1 y4 y2 false))) (F21_j1 y4))
def F21_j5 (k2 : (List Rng) → Int → Int → Option (List Rng × Int)) (y8 : Int) (y9 : List Rng) : Option (List Rng × Int) :=
  (k2 y9 y8 (w64 (y8 + (1 : Int))))
def F21_j7 (k2 : (List Rng) → Int → Int → Option (List Rng × Int)) (y10 : List Rng) (y8 : Int) (y11 : Bool) : Option (List Rng × Int) :=
  (cond y11 ((getI y10 (w64 ((y10.length : Int) - (1 : Int)))).bind fun p5 => ((setI y10 (w64 ((y10.length : Int) - (1 : Int))) ({ p5 with hi := y8 })).bind fun d3 => (F21_j5 k2 y8 d3))) ((appC y10 ([⟨y8, y8⟩])).bind fun d4 => (F21_j5 k2 y8 d4)))
def F21_j6 (k2 : (List Rng) → Int → Int → Option (List Rng × Int)) (y10 : List Rng) (y8 : Int) (y12 : Bool) : Option (List Rng × Int) :=
  (cond (!y12) (F21_j5 k2 y8 y10) (cond (decide ((w64 ((y10.length : Int) - (1 : Int))) ≥ (0 : Int))) ((getI y10 (w64 ((y10.length : Int) - (1 : Int)))).bind fun p6 => (F21_j7 k2 y10 y8 (p6.hi == (w64 (y8 - (1 : Int)))))) (F21_j7 k2 y10 y8 false)))
def F21_l3 (fuel : Nat) (k3 : (List Rng) → Int → Int → Option (List Rng × Int)) (x1_lo : Int) (x1_hi : Int) (y13 : Int) (p7 : Pt) (p8 : Pt) : Nat → (List Rng) → Int → Int → Option (List Rng × Int)
  | 0, _, _, _ => none
  | n2 + 1, y10, y14, y8 =>
    let k2 : (List Rng) → Int → Int → Option (List Rng × Int) := F21_l3 fuel k3 x1_lo x1_hi y13 p7 p8 n2
    (cond (decide (y8 ≤ p7.x)) ((F121 fuel p8.x p8.lo p8.hi p7.x p7.lo p7.hi y8).bind fun r2 => (cond (decide (r2.1 ≤ x1_hi)) (F21_j6 k2 y10 y8 (decide (x1_lo ≤ r2.2))) (F21_j6 k2 y10 y8 false))) (k3 y10 y14 (w64 (y13 + (1 : Int)))))
def F21_l2 (fuel : Nat) (x0 : List Pt) (x1_lo : Int) (x1_hi : Int) (d5 : List Pt) : Nat → (List Rng) → Int → Int → Option (List Rng × Int)
  | 0, _, _, _ => none
  | n3 + 1, y15, y16, y13 =>
    let k3 : (List Rng) → Int → Int → Option (List Rng × Int) := F21_l2 fuel x0 x1_lo x1_hi d5 n3
    (cond (decide (y13 < (d5.length : Int))) ((getI d5 y13).bind fun p7 => ((getI x0 y13).bind fun p8 => (F21_l3 fuel k3 x1_lo x1_hi y13 p7 p8 fuel y15 y16 (if (w64 (y16 + (1 : Int))) > p8.x then (w64 (y16 + (1 : Int))) else p8.x)))) (F21_j1 y15))
def F21 (fuel : Nat) (x0 : List Pt) (x1_lo : Int) (x1_hi : Int) : Option (List Rng × Int) :=
  ((F67 fuel x0).bind fun r3 => (cond (r3 != (0 : Int)) (some ([], r3)) ((F52 fuel x1_lo x1_hi).bind fun r4 => (cond (r4 != (0 : Int)) (some ([], r4)) (cond ((x0.length : Int) == (1 : Int)) ((getI x0 0).bind fun p3 => ((getI x0 0).bind fun p4 => (F21_l1 fuel x1_lo x1_hi p3 p4 fuel ([]) (-1) (if 0 > p3.x then 0 else p3.x)))) ((subI x0 1 (x0.length : Int)).bind fun d5 => (F21_l2 fuel x0 x1_lo x1_hi d5 fuel ([]) (-1) 0)))))))
set_option maxRecDepth 100000 in
theorem f21_ok (fuel : Nat) (x0 : List Pt) (x1_lo : Int) (x1_hi : Int) (r : List Rng × Int) (hr : F21 fuel x0 x1_lo x1_hi = some r) (h : Zone) (L : List Atom) (w : World) (hS : St h L w) (o_x0 : Option Addr) (c_x0 : Nat) (hx_x0 : SliceR PtT h o_x0 c_x0 x0) :
    Calls Try.prog 21 #[.agg #[.slice o_x0 x0.length c_x0], .agg #[vI x1_lo, vI x1_hi]] w fun e w' => ∃ v, e = .returned v ∧ (∃ h', ∃ o0 : Option Addr, ∃ c0 : Nat, Zone.le h h' ∧ v = .tuple #[.slice o0 r.1.length c0, vI r.2] ∧ St h' L w' ∧ SliceR RngT h' o0 c0 r.1) := by
  refine calls_intro (N := 21) Try.func21 (by kernel_rfl) fun a hf => ?_
  refine w_seq (by kernel_rfl) ?_
  refine w_reg (by kernel_rfl) ?_
  refine p_box (i := 0) (d := (some 2)) (cs := [.slice o_x0 x0.length c_x0]) (T := 24) (v := fun b1 => pB b1 0) hS hf (fun b => by kernel_rfl) fun b1 ww1 a1 hS1 hf1 => ⟨fun _ => trivial, ?_⟩
  refine p_box (i := 1) (d := (some 3)) (cs := [vI x1_lo, vI x1_hi]) (T := 41) (v := fun b2 => pB b2 0) hS1 hf1 (fun b => by kernel_rfl) fun b2 ww2 a2 hS2 hf2 => ⟨fun _ => trivial, ?_⟩
  refine p_run 2 [] [2, 3] (fl' := [(2, pB b1 0), (3, pB b2 0)]) (obs := []) trivial hf2 (by kernel_rfl) (by kernel_rfl) .nil fun a3 hf3 => ?_
  refine p_done (by kernel_rfl) ?_
  refine n_then ?_
  refine w_seq (by kernel_rfl) ?_
  refine w_seq (by kernel_rfl) ?_
  refine w_reg (by kernel_rfl) ?_
  refine p_run 1 [.slice o_x0 x0.length c_x0] [2, 3, 8] (fl' := [(2, pB b1 0), (3, pB b2 0), (8, .agg #[.slice o_x0 x0.length c_x0])]) (obs := [.cell ⟨b1, 0, none⟩ (.slice o_x0 x0.length c_x0)]) trivial hf3 (by kernel_rfl) (by kernel_rfl) (.cell (hS2.box (i := 1) rfl (j := 0) rfl) .nil) fun a4 hf4 => ?_
  obtain ⟨r3, hd1, hr1⟩ := bind_some hr
  refine p_call (i := 1) (d := some 9) (f := 67) (args := #[.agg #[.slice o_x0 x0.length c_x0]]) hf4 (by kernel_rfl) (f67_ok fuel x0 r3 hd1 h _ _ hS2 o_x0 c_x0 hx_x0) ?_
  rintro v1 ww3 a5 ⟨z1, k4, rfl, hS3⟩ hf5
  refine ⟨fun _ => trivial, ?_⟩
  refine p_run 1 [] [2, 3, 6] (fl' := [(2, pB b1 0), (3, pB b2 0), (6, vI r3)]) (obs := []) trivial hf5 (by kernel_rfl) (by kernel_rfl) .nil fun a6 hf6 => ?_
  refine p_done (by kernel_rfl) ?_
  refine n_then ?_
  refine w_seq (by kernel_rfl) ?_
  refine w_reg (by kernel_rfl) ?_
  refine p_run 2 [] [2, 3, 6, 11] (fl' := [(2, pB b1 0), (3, pB b2 0), (6, vI r3), (11, .bool (r3 != (0 : Int)))]) (obs := []) trivial hf6 (by kernel_rfl) (by kernel_rfl) .nil fun a7 hf7 => ?_
  refine p_done (by kernel_rfl) ?_
  refine n_then ?_
  refine w_if hf7 (b := (r3 != (0 : Int))) (by kernel_rfl) (fun hb1 => ?_) (fun hb1 => ?_)
  · have hr2 := cond_t hb1 hr1
    refine w_seq (by kernel_rfl) ?_
    refine w_reg (by kernel_rfl) ?_
    refine p_run 3 [] [4, 5] (fl' := [(4, .slice none 0 0), (5, vI r3)]) (obs := []) trivial hf7 (by kernel_rfl) (by kernel_rfl) .nil fun a8 hf8 => ?_
    refine p_done (by kernel_rfl) ?_
    refine n_then ?_
    refine w_ret (by kernel_rfl) ?_
    refine r_then ?_
    refine p_ret (os := []) (v := .tuple #[.slice none 0 0, vI r3]) (obs := []) hf8 (by kernel_rfl) .nil ?_
    obtain rfl := some_eq hr2
    exact ⟨_, rfl, z1, none, 0, k4, rfl, (St.drop 2 hS3), SliceR.nil' _ _⟩
  · have hr3 := cond_f hb1 hr1
    refine w_skip (by kernel_rfl) ?_
    refine n_then ?_
    refine w_seq (by kernel_rfl) ?_
    refine w_seq (by kernel_rfl) ?_
    refine w_reg (by kernel_rfl) ?_
    refine p_run 1 [vI x1_lo, vI x1_hi] [2, 3, 13] (fl' := [(2, pB b1 0), (3, pB b2 0), (13, .agg #[vI x1_lo, vI x1_hi])]) (obs := [.cell ⟨b2, 0, none⟩ (vI x1_lo), .cell ⟨b2, 1, none⟩ (vI x1_hi)]) trivial hf7 (by kernel_rfl) (by kernel_rfl) (.cell (hS3.box (i := 0) rfl (j := 0) rfl) (.cell (hS3.box (i := 0) rfl (j := 1) rfl) .nil)) fun a9 hf9 => ?_
    obtain ⟨r4, hd2, hr4⟩ := bind_some hr3
    refine p_call (i := 1) (d := some 14) (f := 52) (args := #[.agg #[vI x1_lo, vI x1_hi]]) hf9 (by kernel_rfl) (f52_ok fuel x1_lo x1_hi r4 hd2 z1 _ _ hS3 ) ?_
    rintro v2 ww4 a10 ⟨z2, k5, rfl, hS4⟩ hf10
    refine ⟨fun _ => trivial, ?_⟩
    refine p_run 1 [] [2, 3, 7] (fl' := [(2, pB b1 0), (3, pB b2 0), (7, vI r4)]) (obs := []) trivial hf10 (by kernel_rfl) (by kernel_rfl) .nil fun a11 hf11 => ?_
    refine p_done (by kernel_rfl) ?_
    refine n_then ?_
    refine w_seq (by kernel_rfl) ?_
    refine w_reg (by kernel_rfl) ?_
    refine p_run 2 [] [2, 3, 7, 16] (fl' := [(2, pB b1 0), (3, pB b2 0), (7, vI r4), (16, .bool (r4 != (0 : Int)))]) (obs := []) trivial hf11 (by kernel_rfl) (by kernel_rfl) .nil fun a12 hf12 => ?_
    refine p_done (by kernel_rfl) ?_
    refine n_then ?_
    refine w_if hf12 (b := (r4 != (0 : Int))) (by kernel_rfl) (fun hb2 => ?_) (fun hb2 => ?_)
    · have hr5 := cond_t hb2 hr4
      refine w_seq (by kernel_rfl) ?_
      refine w_reg (by kernel_rfl) ?_
      refine p_run 3 [] [4, 5] (fl' := [(4, .slice none 0 0), (5, vI r4)]) (obs := []) trivial hf12 (by kernel_rfl) (by kernel_rfl) .nil fun a13 hf13 => ?_
      refine p_done (by kernel_rfl) ?_
      refine n_then ?_
      refine w_ret (by kernel_rfl) ?_
      refine r_then ?_
      refine p_ret (os := []) (v := .tuple #[.slice none 0 0, vI r4]) (obs := []) hf13 (by kernel_rfl) .nil ?_
      obtain rfl := some_eq hr5
      exact ⟨_, rfl, z2, none, 0, (Zone.le_trans k4 k5), rfl, (St.drop 2 hS4), SliceR.nil' _ _⟩
    · have hr6 := cond_f hb2 hr4
      refine w_skip (by kernel_rfl) ?_
      refine n_then ?_
      refine w_seq (by kernel_rfl) ?_
      refine w_reg (by kernel_rfl) ?_
      refine p_run 2 [.slice o_x0 x0.length c_x0] [18, 19] (fl' := [(18, .agg #[.slice o_x0 x0.length c_x0]), (19, .func (.func 94) #[] #[pB b2 0])]) (obs := [.cell ⟨b1, 0, none⟩ (.slice o_x0 x0.length c_x0)]) trivial hf12 (by kernel_rfl) (by kernel_rfl) (.cell (hS4.box (i := 1) rfl (j := 0) rfl) .nil) fun a14 hf14 => ?_
      refine p_call (i := 2) (d := some 20) (f := 93) (args := #[.agg #[.slice o_x0 x0.length c_x0], .func (.func 94) #[] #[pB b2 0]]) hf14 (by kernel_rfl) (Φ := fun v w => ∃ z3 : Zone, ∃ y1 : List Rng, ∃ e1 : Option Addr, ∃ q1 : Nat, Zone.le z2 z3 ∧ v = .slice e1 y1.length q1 ∧ St z3 (ownS RngT 41 e1 q1 y1 :: box b2 [vI x1_lo, vI x1_hi] 41 :: box b1 [.slice o_x0 x0.length c_x0] 24 :: L) w ∧ (F21_j1 y1) = some r) ?_ ?_
      · refine calls_intro (N := 60) Try.func93 (by kernel_rfl) fun a15 hf15 => ?_
        refine w_seq (by kernel_rfl) ?_
        refine w_reg (by kernel_rfl) ?_
        refine p_box (i := 0) (d := (some 2)) (cs := [.slice o_x0 x0.length c_x0]) (T := 24) (v := fun b3 => pB b3 0) hS4 hf15 (fun b => by kernel_rfl) fun b3 ww5 a16 hS5 hf16 => ⟨fun _ => trivial, ?_⟩
        refine p_box (i := 1) (d := (some 3)) (cs := [.func (.func 94) #[] #[pB b2 0]]) (T := 61) (v := fun b4 => pB b4 0) hS5 hf16 (fun b => by kernel_rfl) fun b4 ww6 a17 hS6 hf17 => ⟨fun _ => trivial, ?_⟩
        refine p_run 1 [] [2, 3] (fl' := [(2, pB b3 0), (3, pB b4 0)]) (obs := []) trivial hf17 (by kernel_rfl) (by kernel_rfl) .nil fun a18 hf18 => ?_
        refine p_done (by kernel_rfl) ?_
        refine n_then ?_
        refine w_seq (by kernel_rfl) ?_
        refine w_reg (by kernel_rfl) ?_
        refine p_box (i := 0) (d := (some 5)) (cs := [.slice none 0 0]) (T := 45) (v := fun b5 => pB b5 0) hS6 hf18 (fun b => by kernel_rfl) fun b5 ww7 a19 hS7 hf19 => ⟨fun _ => trivial, ?_⟩
        refine p_done (by kernel_rfl) ?_
        refine n_then ?_
        refine w_seq (by kernel_rfl) ?_
        refine w_reg (by kernel_rfl) ?_
        refine p_box (i := 0) (d := (some 6)) (cs := [vI 0]) (T := 3) (v := fun b6 => pB b6 0) hS7 hf19 (fun b => by kernel_rfl) fun b6 ww8 a20 hS8 hf20 => ⟨fun _ => trivial, ?_⟩
        refine p_store_eq (i := 1) (j := 0) (b := b6) (off := 0) (vs := [vI (-1)]) (cs' := [vI (-1)]) hS8 hf20 rfl (by kernel_rfl) (by kernel_rfl) rfl fun ww9 a21 hS9 hf21 => ⟨fun _ => trivial, ?_⟩
        refine p_done (by kernel_rfl) ?_
        refine n_then ?_
        refine w_seq (by kernel_rfl) ?_
        refine w_seq (by kernel_rfl) ?_
        refine w_reg (by kernel_rfl) ?_
        refine p_run 1 [.slice o_x0 x0.length c_x0] [3, 5, 6, 10] (fl' := [(3, pB b4 0), (5, pB b5 0), (6, pB b6 0), (10, .agg #[.slice o_x0 x0.length c_x0])]) (obs := [.cell ⟨b3, 0, none⟩ (.slice o_x0 x0.length c_x0)]) trivial hf21 (by kernel_rfl) (by kernel_rfl) (.cell (hS9.box (i := 3) rfl (j := 0) rfl) .nil) fun a22 hf22 => ?_
        refine p_inl (i := 1) (d := some 11) (f := 118) (args := #[.agg #[.slice o_x0 x0.length c_x0]]) (N' := 4) hf22 (by kernel_rfl) Try.func118 (by kernel_rfl) fun a23 hf23 => ?_
        refine w_seq (by kernel_rfl) ?_
        refine w_reg (by kernel_rfl) ?_
        refine p_box (i := 0) (d := (some 1)) (cs := [.slice o_x0 x0.length c_x0]) (T := 24) (v := fun b7 => pB b7 0) hS9 hf23 (fun b => by kernel_rfl) fun b7 ww10 a24 hS10 hf24 => ⟨fun _ => trivial, ?_⟩
        refine p_run 1 [] [1] (fl' := [(1, pB b7 0)]) (obs := []) trivial hf24 (by kernel_rfl) (by kernel_rfl) .nil fun a25 hf25 => ?_
        refine p_done (by kernel_rfl) ?_
        refine n_then ?_
        refine w_seq (by kernel_rfl) ?_
        refine w_reg (by kernel_rfl) ?_
        refine p_run 2 [] [2] (fl' := [(2, .func (.func 130) #[] #[pB b7 0])]) (obs := []) trivial hf25 (by kernel_rfl) (by kernel_rfl) .nil fun a26 hf26 => ?_
        refine p_done (by kernel_rfl) ?_
        refine n_then ?_
        refine w_ret (by kernel_rfl) ?_
        refine p_ret (os := []) (v := .func (.func 130) #[] #[pB b7 0]) (obs := []) hf26 (by kernel_rfl) .nil ?_
        refine ⟨_, rfl, fun a27 hf27 => ?_⟩
        refine ⟨fun _ => trivial, ?_⟩
        refine p_done (by kernel_rfl) ?_
        refine n_then ?_
        refine w_block (id := 0) (by kernel_rfl) ?_
        have hf28 := Fr.keep (ks := [3, 5, 6, 11]) (r := [(3, pB b4 0), (5, pB b5 0), (6, pB b6 0), (11, .func (.func 130) #[] #[pB b7 0])]) hf27 (by kernel_rfl)
        refine w_range (g := 11) (gf := 130) (lb := #[pB b7 0]) (by kernel_rfl) hf28 hS10 (by kernel_rfl) (fun l => by kernel_rfl) fun ps1 A1 B1 hps1 hA1 hB1 l1 D1 ww11 hS11 => ?_
        refine calls_intro (N := 40) Try.func130 (by kernel_rfl) fun a28 hf29 => ?_
        refine w_seq (by kernel_rfl) ?_
        refine w_seq (by kernel_rfl) ?_
        refine w_reg (by kernel_rfl) ?_
        refine p_run 4 [.slice o_x0 x0.length c_x0] [0, 1, 8] (fl' := [(0, .func (.yield l1) #[] #[]), (1, pB b7 0), (8, .bool ((x0.length : Int) == (1 : Int)))]) (obs := [.cell ⟨b7, 0, none⟩ (.slice o_x0 x0.length c_x0)]) trivial hf29 (by kernel_rfl) (by kernel_rfl) (.cell (hS11.box (i := 2) rfl (j := 0) rfl) .nil) fun a29 hf30 => ?_
        refine p_done (by kernel_rfl) ?_
        refine n_then ?_
        refine w_if hf30 (b := ((x0.length : Int) == (1 : Int))) (by kernel_rfl) (fun hb3 => ?_) (fun hb3 => ?_)
        · have hr7 := cond_t hb3 hr6
          refine w_seq (by kernel_rfl) ?_
          refine w_regDY (by kernel_rfl) 10 [(0, true), (1, true), (2, true), (3, true), (4, true), (5, true), (6, true), (7, true), (8, true), (9, true)] [] (by kernel_rfl) ?_
          have hS12 := hS11.drew
          refine p_firstP 2 [] [1, 9, 10] (fl' := [(1, pB b7 0), (9, .func (.yield l1) #[] #[]), (10, pB b7 0)]) (obs := []) hf30 (by kernel_rfl) (by kernel_rfl) (fun _ => .nil) fun a30 hf31 => ?_
          refine p_firstE 1 [.slice o_x0 x0.length c_x0] [1, 9, 11] (fl' := [(1, pB b7 0), (9, .func (.yield l1) #[] #[]), (11, .slice o_x0 x0.length c_x0)]) (obs := [.cell ⟨b7, 0, none⟩ (.slice o_x0 x0.length c_x0)]) (by kernel_rfl) hf31 (by kernel_rfl) (by kernel_rfl) (.cell (hS12.box (i := 2) rfl (j := 0) rfl) .nil) fun a31 hf32 => ?_
          obtain ⟨p3, hp35070, hr8⟩ := bind_some hr7
          obtain ⟨ad1, ho1, hb4, cc1, hc1, hk1⟩ := SliceR.getI (SliceR.mono (Zone.le_trans k4 k5) hx_x0) hp35070
          subst hc1
          refine p_firstP 1 [.pointer (some ad1)] [1, 9, 12] (fl' := [(1, pB b7 0), (9, .func (.yield l1) #[] #[]), (12, .pointer (some (ad1.add (Int.toNat 0 * 3))))]) (obs := [.prop (o_x0 = some ad1), .prop (0 ≤ (0 : Int) ∧ (0 : Int) < (x0.length : Nat))]) hf32 (by kernel_rfl) (by kernel_rfl) (fun _ => (.prop ho1 (.prop hb4 .nil))) fun a32 hf33 => ?_
          refine p_firstE 1 [vI p3.x, vI p3.lo, vI p3.hi] [1, 9, 13] (fl' := [(1, pB b7 0), (9, .func (.yield l1) #[] #[]), (13, .agg #[vI p3.x, vI p3.lo, vI p3.hi])]) (obs := [.cell ((ad1.add (Int.toNat 0 * 3)).add 0) (vI p3.x), .cell ((ad1.add (Int.toNat 0 * 3)).add 1) (vI p3.lo), .cell ((ad1.add (Int.toNat 0 * 3)).add 2) (vI p3.hi)]) (by kernel_rfl) hf33 (by kernel_rfl) (by kernel_rfl) (.cell (hS12.cell (hk1 0 _ rfl)) (.cell (hS12.cell (hk1 1 _ rfl)) (.cell (hS12.cell (hk1 2 _ rfl)) .nil))) fun a33 hf34 => ?_
          refine p_firstP 1 [] [9, 13, 14] (fl' := [(9, .func (.yield l1) #[] #[]), (13, .agg #[vI p3.x, vI p3.lo, vI p3.hi]), (14, pB b7 0)]) (obs := []) hf34 (by kernel_rfl) (by kernel_rfl) (fun _ => .nil) fun a34 hf35 => ?_
          refine p_firstE 1 [.slice o_x0 x0.length c_x0] [9, 13, 15] (fl' := [(9, .func (.yield l1) #[] #[]), (13, .agg #[vI p3.x, vI p3.lo, vI p3.hi]), (15, .slice o_x0 x0.length c_x0)]) (obs := [.cell ⟨b7, 0, none⟩ (.slice o_x0 x0.length c_x0)]) (by kernel_rfl) hf35 (by kernel_rfl) (by kernel_rfl) (.cell (hS12.box (i := 2) rfl (j := 0) rfl) .nil) fun a35 hf36 => ?_
          obtain ⟨p4, hp35087, hr9⟩ := bind_some hr8
          obtain ⟨ad2, ho2, hb5, cc2, hc2, hk2⟩ := SliceR.getI (SliceR.mono (Zone.le_trans k4 k5) hx_x0) hp35087
          subst hc2
          refine p_firstP 1 [.pointer (some ad2)] [9, 13, 16] (fl' := [(9, .func (.yield l1) #[] #[]), (13, .agg #[vI p3.x, vI p3.lo, vI p3.hi]), (16, .pointer (some (ad2.add (Int.toNat 0 * 3))))]) (obs := [.prop (o_x0 = some ad2), .prop (0 ≤ (0 : Int) ∧ (0 : Int) < (x0.length : Nat))]) hf36 (by kernel_rfl) (by kernel_rfl) (fun _ => (.prop ho2 (.prop hb5 .nil))) fun a36 hf37 => ?_
          refine p_firstE 1 [vI p4.x, vI p4.lo, vI p4.hi] [9, 13, 17] (fl' := [(9, .func (.yield l1) #[] #[]), (13, .agg #[vI p3.x, vI p3.lo, vI p3.hi]), (17, .agg #[vI p4.x, vI p4.lo, vI p4.hi])]) (obs := [.cell ((ad2.add (Int.toNat 0 * 3)).add 0) (vI p4.x), .cell ((ad2.add (Int.toNat 0 * 3)).add 1) (vI p4.lo), .cell ((ad2.add (Int.toNat 0 * 3)).add 2) (vI p4.hi)]) (by kernel_rfl) hf37 (by kernel_rfl) (by kernel_rfl) (.cell (hS12.cell (hk2 0 _ rfl)) (.cell (hS12.cell (hk2 1 _ rfl)) (.cell (hS12.cell (hk2 2 _ rfl)) .nil))) fun a37 hf38 => ?_
          refine p_firstP 1 [] [9, 18] (fl' := [(9, .func (.yield l1) #[] #[]), (18, .agg #[vI p3.x, vI p3.lo, vI p3.hi, vI p4.x, vI p4.lo, vI p4.hi])]) (obs := []) hf38 (by kernel_rfl) (by kernel_rfl) (fun _ => .nil) fun a38 hf39 => ?_
          refine p_done (by kernel_rfl) ?_
          refine p_yield (d := some 19) (l := l1) (args := #[.agg #[vI p3.x, vI p3.lo, vI p3.hi, vI p4.x, vI p4.lo, vI p4.hi]]) hf39 (by kernel_rfl) hS12 (j := 0) rfl (by rw [hps1]; kernel_rfl) fun a39 hf40 => ?_
          rw [hps1] at hf40
          refine cw_eq hA1 ?_
          refine w_reg (by kernel_rfl) ?_
          refine p_box (i := 0) (d := (some 7)) (cs := [vI 0, vI 0, vI 0, vI 0, vI 0, vI 0]) (T := 127) (v := fun b8 => pB b8 0) hS12 hf40 (fun b => by kernel_rfl) fun b8 ww12 a40 hS13 hf41 => ⟨fun _ => trivial, ?_⟩
          refine p_store_eq (i := 1) (j := 0) (b := b8) (off := 0) (vs := [vI p3.x, vI p3.lo, vI p3.hi, vI p4.x, vI p4.lo, vI p4.hi]) (cs' := [vI p3.x, vI p3.lo, vI p3.hi, vI p4.x, vI p4.lo, vI p4.hi]) hS13 hf41 rfl (by kernel_rfl) (by kernel_rfl) rfl fun ww13 a41 hS14 hf42 => ⟨fun _ => trivial, ?_⟩
          refine p_done (by kernel_rfl) ?_
          refine n_then ?_
          refine p_begin hS14 (j := 1) rfl fun ww14 hS15 => ?_
          refine cw_eq hB1 ?_
          refine w_block (id := 1) (by kernel_rfl) ?_
          refine w_seq (by kernel_rfl) ?_
          refine w_reg (by kernel_rfl) ?_
          refine p_run 7 [vI p3.x, vI (-1)] [3, 5, 6, 7, 8] (fl' := [(3, pB b4 0), (5, pB b5 0), (6, pB b6 0), (7, pB b8 0), (8, vI (if 0 > p3.x then 0 else p3.x))]) (obs := [.cell ⟨b8, 0, none⟩ (vI p3.x), .cell ⟨b6, 0, none⟩ (vI (-1))]) trivial hf42 (by kernel_rfl) (by kernel_rfl) (.cell (hS15.box (i := 0) rfl (j := 0) rfl) (.cell (hS15.box (i := 4) rfl (j := 0) rfl) .nil)) fun a42 hf43 => ?_
          refine p_done (by kernel_rfl) ?_
          refine n_then ?_
          refine w_block (id := 2) (by kernel_rfl) ?_
          have hS16 := hS15.ownNil RngT 41
          have hf44 := Fr.keep (ks := [3, 5, 6, 7, 8]) (r := [(3, pB b4 0), (5, pB b5 0), (6, pB b6 0), (7, pB b8 0), (8, vI (if 0 > p3.x then 0 else p3.x))]) hf43 (by kernel_rfl)
          refine w_loop (by kernel_rfl) (fun n a w => ∃ z4 : Zone, ∃ y4 : List Rng, ∃ y7 : Int, ∃ y2 : Int, ∃ e2 : Option Addr, ∃ q2 : Nat, Zone.le z2 z4 ∧ Fr a 60 [(3, pB b4 0), (5, pB b5 0), (6, pB b6 0), (7, pB b8 0), (8, vI y2)] ∧ St z4 (ownS RngT 41 e2 q2 y4 :: box b8 [vI p3.x, vI p3.lo, vI p3.hi, vI p4.x, vI p4.lo, vI p4.hi] 127 :: loopA l1 60 [(3, pB b4 0), (5, pB b5 0), (6, pB b6 0), (11, .func (.func 130) #[] #[pB b7 0])] ps1 A1 B1 D1 .busy none :: defA D1 :: box b7 [.slice o_x0 x0.length c_x0] 24 :: box b6 [vI y7] 3 :: box b5 [.slice e2 y4.length q2] 45 :: box b4 [.func (.func 94) #[] #[pB b2 0]] 61 :: box b3 [.slice o_x0 x0.length c_x0] 24 :: box b2 [vI x1_lo, vI x1_hi] 41 :: box b1 [.slice o_x0 x0.length c_x0] 24 :: L) w ∧ (F21_l1 fuel x1_lo x1_hi p3 p4 n y4 y7 y2) = some r) fuel ⟨z2, [], -1, (if 0 > p3.x then 0 else p3.x), none, 0, (Zone.le_refl _), hf44, hS16, hr9⟩ ?_
          rintro n4 a43 ww15 ⟨z4, y4, y7, y2, e2, q2, k6, hf45, hS17, hr10⟩
          cases n4 with
          | zero => cases hr10
          | succ n1 =>
          refine w_seq (by kernel_rfl) ?_
          refine w_seq (by kernel_rfl) ?_
          refine w_reg (by kernel_rfl) ?_
          refine p_run 5 [vI p4.x] [3, 5, 6, 7, 8, 23] (fl' := [(3, pB b4 0), (5, pB b5 0), (6, pB b6 0), (7, pB b8 0), (8, vI y2), (23, .bool (decide (y2 ≤ p4.x)))]) (obs := [.cell ⟨b8, 3, none⟩ (vI p4.x)]) trivial hf45 (by kernel_rfl) (by kernel_rfl) (.cell (hS17.box (i := 1) rfl (j := 3) rfl) .nil) fun a44 hf46 => ?_
          refine p_done (by kernel_rfl) ?_
          refine n_then ?_
          refine w_if hf46 (b := (decide (y2 ≤ p4.x))) (by kernel_rfl) (fun hb6 => ?_) (fun hb6 => ?_)
          · have hr11 := cond_t hb6 hr10
            refine w_skip (by kernel_rfl) ?_
            refine n_then ?_
            refine w_mid (by kernel_rfl) (fun a w => ∃ z5 : Zone, ∃ y3 : List Rng, ∃ e3 : Option Addr, ∃ q3 : Nat, Zone.le z4 z5 ∧ Fr a 60 [(3, pB b4 0), (5, pB b5 0), (6, pB b6 0), (7, pB b8 0), (8, vI y2)] ∧ St z5 (ownS RngT 41 e3 q3 y3 :: box b8 [vI p3.x, vI p3.lo, vI p3.hi, vI p4.x, vI p4.lo, vI p4.hi] 127 :: loopA l1 60 [(3, pB b4 0), (5, pB b5 0), (6, pB b6 0), (11, .func (.func 130) #[] #[pB b7 0])] ps1 A1 B1 D1 .busy none :: defA D1 :: box b7 [.slice o_x0 x0.length c_x0] 24 :: box b6 [vI y2] 3 :: box b5 [.slice e3 y3.length q3] 45 :: box b4 [.func (.func 94) #[] #[pB b2 0]] 61 :: box b3 [.slice o_x0 x0.length c_x0] 24 :: box b2 [vI x1_lo, vI x1_hi] 41 :: box b1 [.slice o_x0 x0.length c_x0] 24 :: L) w ∧ (F21_j2 (F21_l1 fuel x1_lo x1_hi p3 p4 n1) y2 y3) = some r) ?_ ?_
            · skip
              refine w_block (id := 3) (by kernel_rfl) ?_
              refine w_seq (by kernel_rfl) ?_
              refine w_reg (by kernel_rfl) ?_
              refine p_run 1 [] [3, 5, 6, 7, 8, 26] (fl' := [(3, pB b4 0), (5, pB b5 0), (6, pB b6 0), (7, pB b8 0), (8, vI y2), (26, vI y2)]) (obs := []) trivial hf46 (by kernel_rfl) (by kernel_rfl) .nil fun a45 hf47 => ?_
              refine p_store_eq (i := 1) (j := 5) (b := b6) (off := 0) (vs := [vI y2]) (cs' := [vI y2]) hS17 hf47 rfl (by kernel_rfl) (by kernel_rfl) rfl fun ww16 a46 hS18 hf48 => ⟨fun _ => trivial, ?_⟩
              refine p_done (by kernel_rfl) ?_
              refine n_then ?_
              refine w_seq (by kernel_rfl) ?_
              refine w_seq (by kernel_rfl) ?_
              have hS19 := hS18.drew
              have s1 : Sub z4 (ownS RngT 41 e2 q2 y4 :: box b8 [vI p3.x, vI p3.lo, vI p3.hi, vI p4.x, vI p4.lo, vI p4.hi] 127 :: loopA l1 60 [(3, pB b4 0), (5, pB b5 0), (6, pB b6 0), (11, .func (.func 130) #[] #[pB b7 0])] ps1 A1 B1 D1 .busy none :: defA D1 :: box b7 [.slice o_x0 x0.length c_x0] 24 :: box b6 [vI y2] 3 :: box b5 [.slice e2 y4.length q2] 45 :: box b4 [.func (.func 94) #[] #[pB b2 0]] 61 :: box b3 [.slice o_x0 x0.length c_x0] 24 :: box b2 [vI x1_lo, vI x1_hi] 41 :: box b1 [.slice o_x0 x0.length c_x0] 24 :: L) _ := Sub.of (Zone.le_refl _) hS19
              refine w_regD (by kernel_rfl) [(0, true), (1, true), (2, true), (3, false), (4, false), (5, true)] [4] (Sub z4 (ownS RngT 41 e2 q2 y4 :: box b8 [vI p3.x, vI p3.lo, vI p3.hi, vI p4.x, vI p4.lo, vI p4.hi] 127 :: loopA l1 60 [(3, pB b4 0), (5, pB b5 0), (6, pB b6 0), (11, .func (.func 130) #[] #[pB b7 0])] ps1 A1 B1 D1 .busy none :: defA D1 :: box b7 [.slice o_x0 x0.length c_x0] 24 :: box b6 [vI y2] 3 :: box b5 [.slice e2 y4.length q2] 45 :: box b4 [.func (.func 94) #[] #[pB b2 0]] 61 :: box b3 [.slice o_x0 x0.length c_x0] 24 :: box b2 [vI x1_lo, vI x1_hi] 41 :: box b1 [.slice o_x0 x0.length c_x0] 24 :: L)) (by kernel_rfl) s1 ?_
              refine p_first 2 [.func (.func 94) #[] #[pB b2 0], vI p3.x, vI p3.lo, vI p3.hi, vI p4.x, vI p4.lo, vI p4.hi] [3, 5, 6, 7, 8, 27, 28] (fl' := [(3, pB b4 0), (5, pB b5 0), (6, pB b6 0), (7, pB b8 0), (8, vI y2), (27, .func (.func 94) #[] #[pB b2 0]), (28, .agg #[vI p3.x, vI p3.lo, vI p3.hi, vI p4.x, vI p4.lo, vI p4.hi])]) (obs := [.cell ⟨b4, 0, none⟩ (.func (.func 94) #[] #[pB b2 0]), .cell ⟨b8, 0, none⟩ (vI p3.x), .cell ⟨b8, 1, none⟩ (vI p3.lo), .cell ⟨b8, 2, none⟩ (vI p3.hi), .cell ⟨b8, 3, none⟩ (vI p4.x), .cell ⟨b8, 4, none⟩ (vI p4.lo), .cell ⟨b8, 5, none⟩ (vI p4.hi)]) s1 (by kernel_rfl) hf48 (by kernel_rfl) (by kernel_rfl) (fun _ s => (.cell (s.box (i := 7) rfl (j := 0) rfl) (.cell (s.box (i := 1) rfl (j := 0) rfl) (.cell (s.box (i := 1) rfl (j := 1) rfl) (.cell (s.box (i := 1) rfl (j := 2) rfl) (.cell (s.box (i := 1) rfl (j := 3) rfl) (.cell (s.box (i := 1) rfl (j := 4) rfl) (.cell (s.box (i := 1) rfl (j := 5) rfl) .nil)))))))) fun a47 hf49 => ?_
              refine p_firstP 1 [] [3, 5, 6, 7, 8, 27, 28, 29] (fl' := [(3, pB b4 0), (5, pB b5 0), (6, pB b6 0), (7, pB b8 0), (8, vI y2), (27, .func (.func 94) #[] #[pB b2 0]), (28, .agg #[vI p3.x, vI p3.lo, vI p3.hi, vI p4.x, vI p4.lo, vI p4.hi]), (29, vI y2)]) (obs := []) hf49 (by kernel_rfl) (by kernel_rfl) (fun _ => .nil) fun a48 hf50 => ?_
              obtain ⟨r1, hd3, hr12⟩ := bind_some hr11
              refine p_call (i := 3) (d := some 30) (f := 121) (args := #[.agg #[vI p3.x, vI p3.lo, vI p3.hi, vI p4.x, vI p4.lo, vI p4.hi], vI y2]) hf50 (by kernel_rfl) (f121_ok fuel p3.x p3.lo p3.hi p4.x p4.lo p4.hi y2 r1 hd3 z4 _ _ hS19 ) ?_
              rintro v3 ww17 a49 ⟨rfl, hS20⟩ hf51
              refine ⟨fun _ => Sub.of (Zone.le_refl _) hS20, ?_⟩
              have s2 : Sub z4 (ownS RngT 41 e2 q2 y4 :: box b8 [vI p3.x, vI p3.lo, vI p3.hi, vI p4.x, vI p4.lo, vI p4.hi] 127 :: loopA l1 60 [(3, pB b4 0), (5, pB b5 0), (6, pB b6 0), (11, .func (.func 130) #[] #[pB b7 0])] ps1 A1 B1 D1 .busy none :: defA D1 :: box b7 [.slice o_x0 x0.length c_x0] 24 :: box b6 [vI y2] 3 :: box b5 [.slice e2 y4.length q2] 45 :: box b4 [.func (.func 94) #[] #[pB b2 0]] 61 :: box b3 [.slice o_x0 x0.length c_x0] 24 :: box b2 [vI x1_lo, vI x1_hi] 41 :: box b1 [.slice o_x0 x0.length c_x0] 24 :: L) _ := Sub.of (Zone.le_refl _) hS20
              refine p_inl (i := 4) (d := some 31) (f := 94) (args := #[.agg #[vI r1.1, vI r1.2], pB b2 0]) (N' := 16) hf51 (by kernel_rfl) Try.func94 (by kernel_rfl) fun a50 hf52 => ?_
              refine w_seq (by kernel_rfl) ?_
              refine w_reg (by kernel_rfl) ?_
              refine p_box (i := 0) (d := (some 2)) (cs := [vI r1.1, vI r1.2]) (T := 41) (v := fun b9 => pB b9 0) hS20 hf52 (fun b => by kernel_rfl) fun b9 ww18 a51 hS21 hf53 => ⟨fun _ => trivial, ?_⟩
              refine p_run 1 [] [1, 2] (fl' := [(1, pB b2 0), (2, pB b9 0)]) (obs := []) trivial hf53 (by kernel_rfl) (by kernel_rfl) .nil fun a52 hf54 => ?_
              refine p_done (by kernel_rfl) ?_
              refine n_then ?_
              refine w_mid (by kernel_rfl) (fun a w => ∃ z6 : Zone, ∃ y6 : Bool, Zone.le z4 z6 ∧ Fr a 16 [(3, .bool y6)] ∧ St z6 (box b9 [vI r1.1, vI r1.2] 41 :: ownS RngT 41 e2 q2 y4 :: box b8 [vI p3.x, vI p3.lo, vI p3.hi, vI p4.x, vI p4.lo, vI p4.hi] 127 :: loopA l1 60 [(3, pB b4 0), (5, pB b5 0), (6, pB b6 0), (11, .func (.func 130) #[] #[pB b7 0])] ps1 A1 B1 D1 .busy none :: defA D1 :: box b7 [.slice o_x0 x0.length c_x0] 24 :: box b6 [vI y2] 3 :: box b5 [.slice e2 y4.length q2] 45 :: box b4 [.func (.func 94) #[] #[pB b2 0]] 61 :: box b3 [.slice o_x0 x0.length c_x0] 24 :: box b2 [vI x1_lo, vI x1_hi] 41 :: box b1 [.slice o_x0 x0.length c_x0] 24 :: L) w ∧ (F21_j3 (F21_l1 fuel x1_lo x1_hi p3 p4 n1) y4 y2 y6) = some r) ?_ ?_
              · skip
                refine w_reg (by kernel_rfl) ?_
                refine p_run 6 [vI r1.1, vI x1_hi] [1, 2, 9] (fl' := [(1, pB b2 0), (2, pB b9 0), (9, .bool (decide (r1.1 ≤ x1_hi)))]) (obs := [.cell ⟨b9, 0, none⟩ (vI r1.1), .cell ⟨b2, 1, none⟩ (vI x1_hi)]) trivial hf54 (by kernel_rfl) (by kernel_rfl) (.cell (hS21.box (i := 0) rfl (j := 0) rfl) (.cell (hS21.box (i := 10) rfl (j := 1) rfl) .nil)) fun a53 hf55 => ?_
                rcases Bool.eq_false_or_eq_true (decide (r1.1 ≤ x1_hi)) with hb7 | hb7
                · have hr13 := cond_t hb7 hr12
                  have hf56 := Fr.conv hf55 (congrArg (fun z => ([(1, pB b2 0), (2, pB b9 0), (9, .bool z)] : FL)) hb7)
                  refine p_run 7 [vI x1_lo, vI r1.2] [3] (fl' := [(3, .bool (decide (x1_lo ≤ r1.2)))]) (obs := [.cell ⟨b2, 0, none⟩ (vI x1_lo), .cell ⟨b9, 1, none⟩ (vI r1.2)]) trivial hf56 (by kernel_rfl) (by kernel_rfl) (.cell (hS21.box (i := 10) rfl (j := 0) rfl) (.cell (hS21.box (i := 0) rfl (j := 1) rfl) .nil)) fun a54 hf57 => ?_
                  refine p_done (by kernel_rfl) ?_
                  refine n_then ?_
                  have hf58 := Fr.keep (ks := [3]) (r := [(3, .bool (decide (x1_lo ≤ r1.2)))]) hf57 (by kernel_rfl)
                  exact ⟨z4, (decide (x1_lo ≤ r1.2)), (Zone.le_refl _), hf58, hS21, hr13⟩
                · have hr14 := cond_f hb7 hr12
                  have hf59 := Fr.conv hf55 (congrArg (fun z => ([(1, pB b2 0), (2, pB b9 0), (9, .bool z)] : FL)) hb7)
                  refine p_run 7 [] [3] (fl' := [(3, .bool false)]) (obs := []) trivial hf59 (by kernel_rfl) (by kernel_rfl) .nil fun a55 hf60 => ?_
                  refine p_done (by kernel_rfl) ?_
                  refine n_then ?_
                  have hf61 := Fr.keep (ks := [3]) (r := [(3, .bool false)]) hf60 (by kernel_rfl)
                  exact ⟨z4, false, (Zone.le_refl _), hf61, hS21, hr14⟩
              · rintro a56 ww19 ⟨z6, y6, k7, hf62, hS22, hr15⟩
                refine w_ret (by kernel_rfl) ?_
                refine p_ret (os := []) (v := .bool y6) (obs := []) hf62 (by kernel_rfl) .nil ?_
                refine ⟨_, rfl, fun a57 hf63 => ?_⟩
                have hS23 := St.drop 1 hS22
                refine ⟨fun e => absurd e (by decide), ?_⟩
                refine p_firstP 1 [] [3, 5, 6, 7, 8, 32] (fl' := [(3, pB b4 0), (5, pB b5 0), (6, pB b6 0), (7, pB b8 0), (8, vI y2), (32, .bool (!y6))]) (obs := []) hf63 (by kernel_rfl) (by kernel_rfl) (fun _ => .nil) fun a58 hf64 => ?_
                refine p_done (by kernel_rfl) ?_
                refine n_then ?_
                refine w_if hf64 (b := (!y6)) (by kernel_rfl) (fun hb8 => ?_) (fun hb8 => ?_)
                · have hr16 := cond_t hb8 hr15
                  refine w_exit (id := 3) (by kernel_rfl) ?_
                  refine x_then ?_
                  refine x_block ?_
                  refine n_then ?_
                  have hf65 := Fr.keep (ks := [3, 5, 6, 7, 8]) (r := [(3, pB b4 0), (5, pB b5 0), (6, pB b6 0), (7, pB b8 0), (8, vI y2)]) hf64 (by kernel_rfl)
                  exact ⟨z6, y4, e2, q2, k7, hf65, hS23, hr16⟩
                · have hr17 := cond_f hb8 hr15
                  refine w_skip (by kernel_rfl) ?_
                  refine n_then ?_
                  refine w_seq (by kernel_rfl) ?_
                  refine w_reg (by kernel_rfl) ?_
                  refine p_run 4 [.slice e2 y4.length q2] [3, 5, 6, 7, 8, 9] (fl' := [(3, pB b4 0), (5, pB b5 0), (6, pB b6 0), (7, pB b8 0), (8, vI y2), (9, vI (w64 ((y4.length : Int) - (1 : Int))))]) (obs := [.cell ⟨b5, 0, none⟩ (.slice e2 y4.length q2)]) trivial hf64 (by kernel_rfl) (by kernel_rfl) (.cell (hS23.box (i := 6) rfl (j := 0) rfl) .nil) fun a59 hf66 => ?_
                  refine p_done (by kernel_rfl) ?_
                  refine n_then ?_
                  refine w_mid (by kernel_rfl) (fun a w => ∃ z7 : Zone, ∃ y5 : Bool, Zone.le z6 z7 ∧ Fr a 60 [(3, pB b4 0), (5, pB b5 0), (6, pB b6 0), (7, pB b8 0), (8, vI y2), (9, vI (w64 ((y4.length : Int) - (1 : Int)))), (47, .bool y5)] ∧ St z7 (ownS RngT 41 e2 q2 y4 :: box b8 [vI p3.x, vI p3.lo, vI p3.hi, vI p4.x, vI p4.lo, vI p4.hi] 127 :: loopA l1 60 [(3, pB b4 0), (5, pB b5 0), (6, pB b6 0), (11, .func (.func 130) #[] #[pB b7 0])] ps1 A1 B1 D1 .busy none :: defA D1 :: box b7 [.slice o_x0 x0.length c_x0] 24 :: box b6 [vI y2] 3 :: box b5 [.slice e2 y4.length q2] 45 :: box b4 [.func (.func 94) #[] #[pB b2 0]] 61 :: box b3 [.slice o_x0 x0.length c_x0] 24 :: box b2 [vI x1_lo, vI x1_hi] 41 :: box b1 [.slice o_x0 x0.length c_x0] 24 :: L) w ∧ (F21_j4 (F21_l1 fuel x1_lo x1_hi p3 p4 n1) y4 y2 y5) = some r) ?_ ?_
                  · skip
                    refine w_reg (by kernel_rfl) ?_
                    refine p_run 3 [] [3, 5, 6, 7, 8, 9, 38] (fl' := [(3, pB b4 0), (5, pB b5 0), (6, pB b6 0), (7, pB b8 0), (8, vI y2), (9, vI (w64 ((y4.length : Int) - (1 : Int)))), (38, .bool (decide ((w64 ((y4.length : Int) - (1 : Int))) ≥ (0 : Int))))]) (obs := []) trivial hf66 (by kernel_rfl) (by kernel_rfl) .nil fun a60 hf67 => ?_
                    rcases Bool.eq_false_or_eq_true (decide ((w64 ((y4.length : Int) - (1 : Int))) ≥ (0 : Int))) with hb9 | hb9
                    · have hr18 := cond_t hb9 hr17
                      have hf68 := Fr.conv hf67 (congrArg (fun z => ([(3, pB b4 0), (5, pB b5 0), (6, pB b6 0), (7, pB b8 0), (8, vI y2), (9, vI (w64 ((y4.length : Int) - (1 : Int)))), (38, .bool z)] : FL)) hb9)
                      obtain ⟨p2, hp38425, hr19⟩ := bind_some hr18
                      obtain ⟨ad3, ho3, hb10, cc3, hc3, hk3⟩ := hS23.ownGet (j := 0) rfl hp38425
                      subst hc3
                      refine p_run 9 [.slice e2 y4.length q2, .pointer (some ad3), vI p2.hi] [3, 5, 6, 7, 8, 9, 39, 40, 41, 42, 43, 44, 45, 46, 47] (fl' := [(3, pB b4 0), (5, pB b5 0), (6, pB b6 0), (7, pB b8 0), (8, vI y2), (9, vI (w64 ((y4.length : Int) - (1 : Int)))), (39, .slice e2 y4.length q2), (40, vI (w64 ((y4.length : Int) - (1 : Int)))), (41, .pointer (some (ad3.add (Int.toNat (w64 ((y4.length : Int) - (1 : Int))) * 2)))), (42, .pointer (some ((ad3.add (Int.toNat (w64 ((y4.length : Int) - (1 : Int))) * 2)).add 1))), (43, vI p2.hi), (44, vI y2), (45, vI (w64 (y2 - (1 : Int)))), (46, .bool (p2.hi == (w64 (y2 - (1 : Int))))), (47, .bool (p2.hi == (w64 (y2 - (1 : Int)))))]) (obs := [.cell ⟨b5, 0, none⟩ (.slice e2 y4.length q2), .prop (e2 = some ad3), .prop (0 ≤ (w64 ((y4.length : Int) - (1 : Int))) ∧ (w64 ((y4.length : Int) - (1 : Int))) < (y4.length : Nat)), .cell ((ad3.add (Int.toNat (w64 ((y4.length : Int) - (1 : Int))) * 2)).add 1) (vI p2.hi)]) trivial hf68 (by kernel_rfl) (by kernel_rfl) (.cell (hS23.box (i := 6) rfl (j := 0) rfl) (.prop ho3 (.prop hb10 (.cell (hk3 1 _ rfl) .nil)))) fun a61 hf69 => ?_
                      refine p_done (by kernel_rfl) ?_
                      refine n_then ?_
                      have hf70 := Fr.keep (ks := [3, 5, 6, 7, 8, 9, 47]) (r := [(3, pB b4 0), (5, pB b5 0), (6, pB b6 0), (7, pB b8 0), (8, vI y2), (9, vI (w64 ((y4.length : Int) - (1 : Int)))), (47, .bool (p2.hi == (w64 (y2 - (1 : Int)))))]) hf69 (by kernel_rfl)
                      exact ⟨z6, (p2.hi == (w64 (y2 - (1 : Int)))), (Zone.le_refl _), hf70, hS23, hr19⟩
                    · have hr20 := cond_f hb9 hr17
                      have hf71 := Fr.conv hf67 (congrArg (fun z => ([(3, pB b4 0), (5, pB b5 0), (6, pB b6 0), (7, pB b8 0), (8, vI y2), (9, vI (w64 ((y4.length : Int) - (1 : Int)))), (38, .bool z)] : FL)) hb9)
                      refine p_run 9 [] [3, 5, 6, 7, 8, 9, 39, 40, 41, 42, 43, 44, 45, 46, 47] (fl' := [(3, pB b4 0), (5, pB b5 0), (6, pB b6 0), (7, pB b8 0), (8, vI y2), (9, vI (w64 ((y4.length : Int) - (1 : Int)))), (39, undef), (40, undef), (41, undef), (42, undef), (43, undef), (44, undef), (45, undef), (46, undef), (47, .bool false)]) (obs := []) trivial hf71 (by kernel_rfl) (by kernel_rfl) .nil fun a62 hf72 => ?_
                      refine p_done (by kernel_rfl) ?_
                      refine n_then ?_
                      have hf73 := Fr.keep (ks := [3, 5, 6, 7, 8, 9, 47]) (r := [(3, pB b4 0), (5, pB b5 0), (6, pB b6 0), (7, pB b8 0), (8, vI y2), (9, vI (w64 ((y4.length : Int) - (1 : Int)))), (47, .bool false)]) hf72 (by kernel_rfl)
                      exact ⟨z6, false, (Zone.le_refl _), hf73, hS23, hr20⟩
                  · rintro a63 ww20 ⟨z7, y5, k8, hf74, hS24, hr21⟩
                    refine w_if hf74 (b := y5) (by kernel_rfl) (fun hb11 => ?_) (fun hb11 => ?_)
                    · have hr22 := cond_t hb11 hr21
                      refine w_reg (by kernel_rfl) ?_
                      obtain ⟨p1, hp38445, hr23⟩ := bind_some hr22
                      obtain ⟨ad4, ho4, hb12, cc4, hc4, hk4⟩ := hS24.ownGet (j := 0) rfl hp38445
                      subst hc4
                      refine p_run 5 [.slice e2 y4.length q2, .pointer (some ad4)] [3, 5, 6, 7, 8, 50, 52] (fl' := [(3, pB b4 0), (5, pB b5 0), (6, pB b6 0), (7, pB b8 0), (8, vI y2), (50, vI y2), (52, .pointer (some ((ad4.add (Int.toNat (w64 ((y4.length : Int) - (1 : Int))) * 2)).add 1)))]) (obs := [.cell ⟨b5, 0, none⟩ (.slice e2 y4.length q2), .prop (e2 = some ad4), .prop (0 ≤ (w64 ((y4.length : Int) - (1 : Int))) ∧ (w64 ((y4.length : Int) - (1 : Int))) < (y4.length : Nat))]) trivial hf74 (by kernel_rfl) (by kernel_rfl) (.cell (hS24.box (i := 6) rfl (j := 0) rfl) (.prop ho4 (.prop hb12 .nil))) fun a64 hf75 => ?_
                      obtain ⟨d1, hd4, hr24⟩ := bind_some hr23
                      have hl1 := setI_len hd4
                      refine p_setOwn (i := 5) (j := 0) (ad := ad4) (ix := (w64 ((y4.length : Int) - (1 : Int)))) (off := 1) (vs := [vI y2]) (x' := ({ p1 with hi := y2 })) hS24 hf75 rfl ho4 hp38445 (by kernel_rfl) (by kernel_rfl) rfl hd4 fun ww21 a65 hS25 hf76 => ?_
                      have hS26 := St.convL (L' := ownS RngT 41 e2 q2 d1 :: box b8 [vI p3.x, vI p3.lo, vI p3.hi, vI p4.x, vI p4.lo, vI p4.hi] 127 :: loopA l1 60 [(3, pB b4 0), (5, pB b5 0), (6, pB b6 0), (11, .func (.func 130) #[] #[pB b7 0])] ps1 A1 B1 D1 .busy none :: defA D1 :: box b7 [.slice o_x0 x0.length c_x0] 24 :: box b6 [vI y2] 3 :: box b5 [.slice e2 d1.length q2] 45 :: box b4 [.func (.func 94) #[] #[pB b2 0]] 61 :: box b3 [.slice o_x0 x0.length c_x0] 24 :: box b2 [vI x1_lo, vI x1_hi] 41 :: box b1 [.slice o_x0 x0.length c_x0] 24 :: L) hS25 (by rw [hl1] <;> rfl)
                      refine ⟨fun _ => trivial, ?_⟩
                      refine p_done (by kernel_rfl) ?_
                      refine n_block ?_
                      refine n_then ?_
                      have hf77 := Fr.keep (ks := [3, 5, 6, 7, 8]) (r := [(3, pB b4 0), (5, pB b5 0), (6, pB b6 0), (7, pB b8 0), (8, vI y2)]) hf76 (by kernel_rfl)
                      exact ⟨z7, d1, e2, q2, (Zone.le_trans k7 k8), hf77, hS26, hr24⟩
                    · have hr25 := cond_f hb11 hr21
                      refine w_reg (by kernel_rfl) ?_
                      refine p_run 4 [.slice e2 y4.length q2] [3, 5, 6, 7, 8, 53, 56] (fl' := [(3, pB b4 0), (5, pB b5 0), (6, pB b6 0), (7, pB b8 0), (8, vI y2), (53, .slice e2 y4.length q2), (56, .agg #[vI y2, vI y2])]) (obs := [.cell ⟨b5, 0, none⟩ (.slice e2 y4.length q2)]) trivial hf74 (by kernel_rfl) (by kernel_rfl) (.cell (hS24.box (i := 6) rfl (j := 0) rfl) .nil) fun a66 hf78 => ?_
                      refine p_box (i := 4) (d := (some 57)) (cs := [vI y2, vI y2]) (T := 41) (v := fun b10 => .slice (some ⟨b10, 0, none⟩) 1 1) hS24 hf78 (fun b => by kernel_rfl) fun b10 ww22 a67 hS27 hf79 => ⟨fun _ => trivial, ?_⟩
                      have hS28 := hS27.ownBox (T := RngT) (E := 41) (n := 1) (xs := [⟨y2, y2⟩]) (i := 0) rfl (Rows.cons (c := [vI y2, vI y2]) rfl rfl) rfl (by decide)
                      obtain ⟨d2, hd5, hr26⟩ := bind_some hr25
                      refine p_append (T := RngT) (i := 5) (j := 1) (d := some 58) (o2 := (some ⟨b10, 0, none⟩)) (c2 := 1) (ys := ([⟨y2, y2⟩])) el45 hS28 hf79 rfl (by kernel_rfl) (hS28.ownSrc (j := 0) rfl) hd5 fun e4 q4 ww23 a68 hS29 hf80 => ⟨fun _ => trivial, ?_⟩
                      refine p_store_eq (i := 6) (j := 7) (b := b5) (off := 0) (vs := [.slice e4 d2.length q4]) (cs' := [.slice e4 d2.length q4]) hS29 hf80 rfl (by kernel_rfl) (by kernel_rfl) rfl fun ww24 a69 hS30 hf81 => ⟨fun _ => trivial, ?_⟩
                      refine p_done (by kernel_rfl) ?_
                      refine n_block ?_
                      refine n_then ?_
                      have hf82 := Fr.keep (ks := [3, 5, 6, 7, 8]) (r := [(3, pB b4 0), (5, pB b5 0), (6, pB b6 0), (7, pB b8 0), (8, vI y2)]) hf81 (by kernel_rfl)
                      exact ⟨z7, d2, e4, q4, (Zone.le_trans k7 k8), hf82, (St.drop 1 hS30), hr26⟩
            · rintro a70 ww25 ⟨z5, y3, e3, q3, k9, hf83, hS31, hr27⟩
              refine w_reg (by kernel_rfl) ?_
              refine p_run 3 [] [3, 5, 6, 7, 8] (fl' := [(3, pB b4 0), (5, pB b5 0), (6, pB b6 0), (7, pB b8 0), (8, vI (w64 (y2 + (1 : Int))))]) (obs := []) trivial hf83 (by kernel_rfl) (by kernel_rfl) .nil fun a71 hf84 => ?_
              refine p_done (by kernel_rfl) ?_
              refine n_then ?_
              have hf85 := Fr.keep (ks := [3, 5, 6, 7, 8]) (r := [(3, pB b4 0), (5, pB b5 0), (6, pB b6 0), (7, pB b8 0), (8, vI (w64 (y2 + (1 : Int))))]) hf84 (by kernel_rfl)
              exact ⟨n1, Nat.lt_succ_self n1, z5, y3, y2, (w64 (y2 + (1 : Int))), e3, q3, (Zone.le_trans k6 k9), hf85, hS31, hr27⟩
          · have hr28 := cond_f hb6 hr10
            refine w_exit (id := 2) (by kernel_rfl) ?_
            refine x_then ?_
            refine x_then ?_
            refine x_block ?_
            refine n_block ?_
            refine p_roundN hS17 (j := 2) rfl fun ww26 a72 hS32 hf86 => ?_
            refine p_done (by kernel_rfl) ?_
            refine n_then ?_
            refine w_ret (by kernel_rfl) ?_
            refine r_then ?_
            refine p_ret (os := []) (v := .tuple #[]) (obs := []) hf86 (by kernel_rfl) .nil ?_
            refine ⟨_, rfl, fun a73 hf87 => ?_⟩
            refine p_jump0 hS32 (j := 2) rfl (fun h => by cases h) fun ww27 hS33 => ?_
            refine n_block ?_
            refine n_then ?_
            refine w_seq (by kernel_rfl) ?_
            refine w_reg (by kernel_rfl) ?_
            refine p_run 2 [.slice e2 y4.length q2] [4] (fl' := [(4, .slice e2 y4.length q2)]) (obs := [.cell ⟨b5, 0, none⟩ (.slice e2 y4.length q2)]) trivial hf87 (by kernel_rfl) (by kernel_rfl) (.cell (hS33.box (i := 6) rfl (j := 0) rfl) .nil) fun a74 hf88 => ?_
            refine p_done (by kernel_rfl) ?_
            refine n_then ?_
            refine w_ret (by kernel_rfl) ?_
            refine p_retM hf88 ?_
            refine p_mark hS33 (j := 3) rfl fun ww28 hS34 => ?_
            refine p_end (os := []) (v := .slice e2 y4.length q2) (obs := []) hf88 (by kernel_rfl) .nil ?_
            exact ⟨_, rfl, z4, y4, e2, q2, k6, rfl, (St.pick 9 [0] hS34 (by kernel_rfl)), hr28⟩
        · have hr29 := cond_f hb3 hr6
          refine w_skip (by kernel_rfl) ?_
          refine n_then ?_
          refine w_seq (by kernel_rfl) ?_
          refine w_reg (by kernel_rfl) ?_
          obtain ⟨d5, hd6, hr30⟩ := bind_some hr29
          obtain ⟨e5, q5, hv1, hb13, hx1⟩ := SliceR.subV (SliceR.mono (Zone.le_trans k4 k5) hx_x0) hd6
          refine p_run 5 [.slice o_x0 x0.length c_x0, .slice e5 d5.length q5] [0, 1, 22, 23, 24] (fl' := [(0, .func (.yield l1) #[] #[]), (1, pB b7 0), (22, .slice e5 d5.length q5), (23, vI (d5.length : Int)), (24, vI 0)]) (obs := [.cell ⟨b7, 0, none⟩ (.slice o_x0 x0.length c_x0), .prop ((.slice e5 d5.length q5 : Value) = .slice (subO o_x0 c_x0 (Int.toNat 1) 3) (Int.toNat (x0.length : Int) - Int.toNat 1) (c_x0 - Int.toNat 1)), .prop ((0 : Int) ≤ 1 ∧ (1 : Int) ≤ (x0.length : Int) ∧ (x0.length : Int) ≤ (c_x0 : Nat) ∧ x0.length ≤ c_x0)]) trivial hf30 (by kernel_rfl) (by kernel_rfl) (.cell (hS11.box (i := 2) rfl (j := 0) rfl) (.prop hv1 (.prop hb13 .nil))) fun a75 hf89 => ?_
          refine p_done (by kernel_rfl) ?_
          refine n_then ?_
          refine w_block (id := 0) (by kernel_rfl) ?_
          have hS35 := hS11.ownNil RngT 41
          have hf90 := Fr.keep (ks := [0, 1, 22, 23, 24]) (r := [(0, .func (.yield l1) #[] #[]), (1, pB b7 0), (22, .slice e5 d5.length q5), (23, vI (d5.length : Int)), (24, vI 0)]) hf89 (by kernel_rfl)
          refine w_loop (by kernel_rfl) (fun n a w => ∃ z8 : Zone, ∃ y15 : List Rng, ∃ y16 : Int, ∃ y13 : Int, ∃ e6 : Option Addr, ∃ q6 : Nat, Zone.le z2 z8 ∧ Fr a 40 [(0, .func (.yield l1) #[] #[]), (1, pB b7 0), (22, .slice e5 d5.length q5), (23, vI (d5.length : Int)), (24, vI y13)] ∧ St z8 (ownS RngT 41 e6 q6 y15 :: loopA l1 60 [(3, pB b4 0), (5, pB b5 0), (6, pB b6 0), (11, .func (.func 130) #[] #[pB b7 0])] ps1 A1 B1 D1 .ready none :: defA D1 :: box b7 [.slice o_x0 x0.length c_x0] 24 :: box b6 [vI y16] 3 :: box b5 [.slice e6 y15.length q6] 45 :: box b4 [.func (.func 94) #[] #[pB b2 0]] 61 :: box b3 [.slice o_x0 x0.length c_x0] 24 :: box b2 [vI x1_lo, vI x1_hi] 41 :: box b1 [.slice o_x0 x0.length c_x0] 24 :: L) w ∧ (F21_l2 fuel x0 x1_lo x1_hi d5 n y15 y16 y13) = some r) fuel ⟨z2, [], -1, 0, none, 0, (Zone.le_refl _), hf90, hS35, hr30⟩ ?_
          rintro n5 a76 ww29 ⟨z8, y15, y16, y13, e6, q6, k10, hf91, hS36, hr31⟩
          cases n5 with
          | zero => cases hr31
          | succ n3 =>
          refine w_seq (by kernel_rfl) ?_
          refine w_reg (by kernel_rfl) ?_
          refine p_run 1 [] [0, 1, 22, 23, 24, 25] (fl' := [(0, .func (.yield l1) #[] #[]), (1, pB b7 0), (22, .slice e5 d5.length q5), (23, vI (d5.length : Int)), (24, vI y13), (25, .bool (decide (y13 < (d5.length : Int))))]) (obs := []) trivial hf91 (by kernel_rfl) (by kernel_rfl) .nil fun a77 hf92 => ?_
          refine p_done (by kernel_rfl) ?_
          refine n_then ?_
          refine w_seq (by kernel_rfl) ?_
          refine w_if hf92 (b := (decide (y13 < (d5.length : Int)))) (by kernel_rfl) (fun hb14 => ?_) (fun hb14 => ?_)
          · have hr32 := cond_t hb14 hr31
            refine w_skip (by kernel_rfl) ?_
            refine n_then ?_
            refine w_seq (by kernel_rfl) ?_
            refine w_block (id := 1) (by kernel_rfl) ?_
            refine w_seq (by kernel_rfl) ?_
            refine w_reg (by kernel_rfl) ?_
            obtain ⟨p7, hp61477, hr33⟩ := bind_some hr32
            obtain ⟨ad5, ho5, hb15, cc5, hc5, hk5⟩ := SliceR.getI (SliceR.mono k10 hx1) hp61477
            subst hc5
            refine p_run 3 [.pointer (some ad5), vI p7.x, vI p7.lo, vI p7.hi] [0, 1, 22, 23, 24, 26, 28] (fl' := [(0, .func (.yield l1) #[] #[]), (1, pB b7 0), (22, .slice e5 d5.length q5), (23, vI (d5.length : Int)), (24, vI y13), (26, vI y13), (28, .agg #[vI p7.x, vI p7.lo, vI p7.hi])]) (obs := [.prop (e5 = some ad5), .prop (0 ≤ y13 ∧ y13 < (d5.length : Nat)), .cell ((ad5.add (Int.toNat y13 * 3)).add 0) (vI p7.x), .cell ((ad5.add (Int.toNat y13 * 3)).add 1) (vI p7.lo), .cell ((ad5.add (Int.toNat y13 * 3)).add 2) (vI p7.hi)]) trivial hf92 (by kernel_rfl) (by kernel_rfl) (.prop ho5 (.prop hb15 (.cell (hS36.cell (hk5 0 _ rfl)) (.cell (hS36.cell (hk5 1 _ rfl)) (.cell (hS36.cell (hk5 2 _ rfl)) .nil))))) fun a78 hf93 => ?_
            refine p_box (i := 3) (d := (some 4)) (cs := [vI 0, vI 0, vI 0]) (T := 52) (v := fun b11 => pB b11 0) hS36 hf93 (fun b => by kernel_rfl) fun b11 ww30 a79 hS37 hf94 => ⟨fun _ => trivial, ?_⟩
            refine p_run 1 [] [0, 1, 3, 4, 22, 23, 24, 28] (fl' := [(0, .func (.yield l1) #[] #[]), (1, pB b7 0), (3, vI y13), (4, pB b11 0), (22, .slice e5 d5.length q5), (23, vI (d5.length : Int)), (24, vI y13), (28, .agg #[vI p7.x, vI p7.lo, vI p7.hi])]) (obs := []) trivial hf94 (by kernel_rfl) (by kernel_rfl) .nil fun a80 hf95 => ?_
            refine p_store_eq (i := 5) (j := 0) (b := b11) (off := 0) (vs := [vI p7.x, vI p7.lo, vI p7.hi]) (cs' := [vI p7.x, vI p7.lo, vI p7.hi]) hS37 hf95 rfl (by kernel_rfl) (by kernel_rfl) rfl fun ww31 a81 hS38 hf96 => ⟨fun _ => trivial, ?_⟩
            refine p_done (by kernel_rfl) ?_
            refine n_then ?_
            refine w_seq (by kernel_rfl) ?_
            refine w_regDY (by kernel_rfl) 8 [(0, true), (1, true), (2, true), (3, true), (4, true), (5, true), (6, true), (7, true)] [(9, false)] (by kernel_rfl) ?_
            have hS39 := hS38.drew
            refine p_firstP 2 [] [0, 1, 3, 4, 22, 23, 24, 29, 30] (fl' := [(0, .func (.yield l1) #[] #[]), (1, pB b7 0), (3, vI y13), (4, pB b11 0), (22, .slice e5 d5.length q5), (23, vI (d5.length : Int)), (24, vI y13), (29, .func (.yield l1) #[] #[]), (30, pB b7 0)]) (obs := []) hf96 (by kernel_rfl) (by kernel_rfl) (fun _ => .nil) fun a82 hf97 => ?_
            refine p_firstE 1 [.slice o_x0 x0.length c_x0] [0, 1, 3, 4, 22, 23, 24, 29, 31] (fl' := [(0, .func (.yield l1) #[] #[]), (1, pB b7 0), (3, vI y13), (4, pB b11 0), (22, .slice e5 d5.length q5), (23, vI (d5.length : Int)), (24, vI y13), (29, .func (.yield l1) #[] #[]), (31, .slice o_x0 x0.length c_x0)]) (obs := [.cell ⟨b7, 0, none⟩ (.slice o_x0 x0.length c_x0)]) (by kernel_rfl) hf97 (by kernel_rfl) (by kernel_rfl) (.cell (hS39.box (i := 4) rfl (j := 0) rfl) .nil) fun a83 hf98 => ?_
            obtain ⟨p8, hp61504, hr34⟩ := bind_some hr33
            obtain ⟨ad6, ho6, hb16, cc6, hc6, hk6⟩ := SliceR.getI (SliceR.mono (Zone.le_trans (Zone.le_trans k4 k5) k10) hx_x0) hp61504
            subst hc6
            refine p_firstP 2 [.pointer (some ad6)] [0, 1, 4, 22, 23, 24, 29, 33] (fl' := [(0, .func (.yield l1) #[] #[]), (1, pB b7 0), (4, pB b11 0), (22, .slice e5 d5.length q5), (23, vI (d5.length : Int)), (24, vI y13), (29, .func (.yield l1) #[] #[]), (33, .pointer (some (ad6.add (Int.toNat y13 * 3))))]) (obs := [.prop (o_x0 = some ad6), .prop (0 ≤ y13 ∧ y13 < (x0.length : Nat))]) hf98 (by kernel_rfl) (by kernel_rfl) (fun _ => (.prop ho6 (.prop hb16 .nil))) fun a84 hf99 => ?_
            refine p_firstE 2 [vI p8.x, vI p8.lo, vI p8.hi, vI p7.x, vI p7.lo, vI p7.hi] [0, 1, 22, 23, 24, 29, 34, 35] (fl' := [(0, .func (.yield l1) #[] #[]), (1, pB b7 0), (22, .slice e5 d5.length q5), (23, vI (d5.length : Int)), (24, vI y13), (29, .func (.yield l1) #[] #[]), (34, .agg #[vI p8.x, vI p8.lo, vI p8.hi]), (35, .agg #[vI p7.x, vI p7.lo, vI p7.hi])]) (obs := [.cell ((ad6.add (Int.toNat y13 * 3)).add 0) (vI p8.x), .cell ((ad6.add (Int.toNat y13 * 3)).add 1) (vI p8.lo), .cell ((ad6.add (Int.toNat y13 * 3)).add 2) (vI p8.hi), .cell ⟨b11, 0, none⟩ (vI p7.x), .cell ⟨b11, 1, none⟩ (vI p7.lo), .cell ⟨b11, 2, none⟩ (vI p7.hi)]) (by kernel_rfl) hf99 (by kernel_rfl) (by kernel_rfl) (.cell (hS39.cell (hk6 0 _ rfl)) (.cell (hS39.cell (hk6 1 _ rfl)) (.cell (hS39.cell (hk6 2 _ rfl)) (.cell (hS39.box (i := 0) rfl (j := 0) rfl) (.cell (hS39.box (i := 0) rfl (j := 1) rfl) (.cell (hS39.box (i := 0) rfl (j := 2) rfl) .nil)))))) fun a85 hf100 => ?_
            refine p_firstP 1 [] [0, 1, 22, 23, 24, 29, 36] (fl' := [(0, .func (.yield l1) #[] #[]), (1, pB b7 0), (22, .slice e5 d5.length q5), (23, vI (d5.length : Int)), (24, vI y13), (29, .func (.yield l1) #[] #[]), (36, .agg #[vI p8.x, vI p8.lo, vI p8.hi, vI p7.x, vI p7.lo, vI p7.hi])]) (obs := []) hf100 (by kernel_rfl) (by kernel_rfl) (fun _ => .nil) fun a86 hf101 => ?_
            refine p_done (by kernel_rfl) ?_
            refine p_yield (d := some 37) (l := l1) (args := #[.agg #[vI p8.x, vI p8.lo, vI p8.hi, vI p7.x, vI p7.lo, vI p7.hi]]) hf101 (by kernel_rfl) hS39 (j := 2) rfl (by rw [hps1]; kernel_rfl) fun a87 hf102 => ?_
            rw [hps1] at hf102
            refine cw_eq hA1 ?_
            refine w_reg (by kernel_rfl) ?_
            refine p_box (i := 0) (d := (some 7)) (cs := [vI 0, vI 0, vI 0, vI 0, vI 0, vI 0]) (T := 127) (v := fun b12 => pB b12 0) hS39 hf102 (fun b => by kernel_rfl) fun b12 ww32 a88 hS40 hf103 => ⟨fun _ => trivial, ?_⟩
            refine p_store_eq (i := 1) (j := 0) (b := b12) (off := 0) (vs := [vI p8.x, vI p8.lo, vI p8.hi, vI p7.x, vI p7.lo, vI p7.hi]) (cs' := [vI p8.x, vI p8.lo, vI p8.hi, vI p7.x, vI p7.lo, vI p7.hi]) hS40 hf103 rfl (by kernel_rfl) (by kernel_rfl) rfl fun ww33 a89 hS41 hf104 => ⟨fun _ => trivial, ?_⟩
            refine p_done (by kernel_rfl) ?_
            refine n_then ?_
            refine p_begin hS41 (j := 3) rfl fun ww34 hS42 => ?_
            refine cw_eq hB1 ?_
            refine w_block (id := 1) (by kernel_rfl) ?_
            refine w_seq (by kernel_rfl) ?_
            refine w_reg (by kernel_rfl) ?_
            refine p_run 7 [vI p8.x, vI y16] [3, 5, 6, 7, 8] (fl' := [(3, pB b4 0), (5, pB b5 0), (6, pB b6 0), (7, pB b12 0), (8, vI (if (w64 (y16 + (1 : Int))) > p8.x then (w64 (y16 + (1 : Int))) else p8.x))]) (obs := [.cell ⟨b12, 0, none⟩ (vI p8.x), .cell ⟨b6, 0, none⟩ (vI y16)]) trivial hf104 (by kernel_rfl) (by kernel_rfl) (.cell (hS42.box (i := 0) rfl (j := 0) rfl) (.cell (hS42.box (i := 6) rfl (j := 0) rfl) .nil)) fun a90 hf105 => ?_
            refine p_done (by kernel_rfl) ?_
            refine n_then ?_
            refine w_block (id := 2) (by kernel_rfl) ?_
            have hf106 := Fr.keep (ks := [3, 5, 6, 7, 8]) (r := [(3, pB b4 0), (5, pB b5 0), (6, pB b6 0), (7, pB b12 0), (8, vI (if (w64 (y16 + (1 : Int))) > p8.x then (w64 (y16 + (1 : Int))) else p8.x))]) hf105 (by kernel_rfl)
            refine w_loop (by kernel_rfl) (fun n a w => ∃ z9 : Zone, ∃ y10 : List Rng, ∃ y14 : Int, ∃ y8 : Int, ∃ e7 : Option Addr, ∃ q7 : Nat, Zone.le z8 z9 ∧ Fr a 60 [(3, pB b4 0), (5, pB b5 0), (6, pB b6 0), (7, pB b12 0), (8, vI y8)] ∧ St z9 (box b12 [vI p8.x, vI p8.lo, vI p8.hi, vI p7.x, vI p7.lo, vI p7.hi] 127 :: box b11 [vI p7.x, vI p7.lo, vI p7.hi] 52 :: ownS RngT 41 e7 q7 y10 :: loopA l1 60 [(3, pB b4 0), (5, pB b5 0), (6, pB b6 0), (11, .func (.func 130) #[] #[pB b7 0])] ps1 A1 B1 D1 .busy none :: defA D1 :: box b7 [.slice o_x0 x0.length c_x0] 24 :: box b6 [vI y14] 3 :: box b5 [.slice e7 y10.length q7] 45 :: box b4 [.func (.func 94) #[] #[pB b2 0]] 61 :: box b3 [.slice o_x0 x0.length c_x0] 24 :: box b2 [vI x1_lo, vI x1_hi] 41 :: box b1 [.slice o_x0 x0.length c_x0] 24 :: L) w ∧ (F21_l3 fuel (F21_l2 fuel x0 x1_lo x1_hi d5 n3) x1_lo x1_hi y13 p7 p8 n y10 y14 y8) = some r) fuel ⟨z8, y15, y16, (if (w64 (y16 + (1 : Int))) > p8.x then (w64 (y16 + (1 : Int))) else p8.x), e6, q6, (Zone.le_refl _), hf106, hS42, hr34⟩ ?_
            rintro n6 a91 ww35 ⟨z9, y10, y14, y8, e7, q7, k11, hf107, hS43, hr35⟩
            cases n6 with
            | zero => cases hr35
            | succ n2 =>
            refine w_seq (by kernel_rfl) ?_
            refine w_seq (by kernel_rfl) ?_
            refine w_reg (by kernel_rfl) ?_
            refine p_run 5 [vI p7.x] [3, 5, 6, 7, 8, 23] (fl' := [(3, pB b4 0), (5, pB b5 0), (6, pB b6 0), (7, pB b12 0), (8, vI y8), (23, .bool (decide (y8 ≤ p7.x)))]) (obs := [.cell ⟨b12, 3, none⟩ (vI p7.x)]) trivial hf107 (by kernel_rfl) (by kernel_rfl) (.cell (hS43.box (i := 0) rfl (j := 3) rfl) .nil) fun a92 hf108 => ?_
            refine p_done (by kernel_rfl) ?_
            refine n_then ?_
            refine w_if hf108 (b := (decide (y8 ≤ p7.x))) (by kernel_rfl) (fun hb17 => ?_) (fun hb17 => ?_)
            · have hr36 := cond_t hb17 hr35
              refine w_skip (by kernel_rfl) ?_
              refine n_then ?_
              refine w_mid (by kernel_rfl) (fun a w => ∃ z10 : Zone, ∃ y9 : List Rng, ∃ e8 : Option Addr, ∃ q8 : Nat, Zone.le z9 z10 ∧ Fr a 60 [(3, pB b4 0), (5, pB b5 0), (6, pB b6 0), (7, pB b12 0), (8, vI y8)] ∧ St z10 (box b12 [vI p8.x, vI p8.lo, vI p8.hi, vI p7.x, vI p7.lo, vI p7.hi] 127 :: box b11 [vI p7.x, vI p7.lo, vI p7.hi] 52 :: ownS RngT 41 e8 q8 y9 :: loopA l1 60 [(3, pB b4 0), (5, pB b5 0), (6, pB b6 0), (11, .func (.func 130) #[] #[pB b7 0])] ps1 A1 B1 D1 .busy none :: defA D1 :: box b7 [.slice o_x0 x0.length c_x0] 24 :: box b6 [vI y8] 3 :: box b5 [.slice e8 y9.length q8] 45 :: box b4 [.func (.func 94) #[] #[pB b2 0]] 61 :: box b3 [.slice o_x0 x0.length c_x0] 24 :: box b2 [vI x1_lo, vI x1_hi] 41 :: box b1 [.slice o_x0 x0.length c_x0] 24 :: L) w ∧ (F21_j5 (F21_l3 fuel (F21_l2 fuel x0 x1_lo x1_hi d5 n3) x1_lo x1_hi y13 p7 p8 n2) y8 y9) = some r) ?_ ?_
              · skip
                refine w_block (id := 3) (by kernel_rfl) ?_
                refine w_seq (by kernel_rfl) ?_
                refine w_reg (by kernel_rfl) ?_
                refine p_run 1 [] [3, 5, 6, 7, 8, 26] (fl' := [(3, pB b4 0), (5, pB b5 0), (6, pB b6 0), (7, pB b12 0), (8, vI y8), (26, vI y8)]) (obs := []) trivial hf108 (by kernel_rfl) (by kernel_rfl) .nil fun a93 hf109 => ?_
                refine p_store_eq (i := 1) (j := 6) (b := b6) (off := 0) (vs := [vI y8]) (cs' := [vI y8]) hS43 hf109 rfl (by kernel_rfl) (by kernel_rfl) rfl fun ww36 a94 hS44 hf110 => ⟨fun _ => trivial, ?_⟩
                refine p_done (by kernel_rfl) ?_
                refine n_then ?_
                refine w_seq (by kernel_rfl) ?_
                refine w_seq (by kernel_rfl) ?_
                have hS45 := hS44.drew
                have s3 : Sub z9 (box b12 [vI p8.x, vI p8.lo, vI p8.hi, vI p7.x, vI p7.lo, vI p7.hi] 127 :: box b11 [vI p7.x, vI p7.lo, vI p7.hi] 52 :: ownS RngT 41 e7 q7 y10 :: loopA l1 60 [(3, pB b4 0), (5, pB b5 0), (6, pB b6 0), (11, .func (.func 130) #[] #[pB b7 0])] ps1 A1 B1 D1 .busy none :: defA D1 :: box b7 [.slice o_x0 x0.length c_x0] 24 :: box b6 [vI y8] 3 :: box b5 [.slice e7 y10.length q7] 45 :: box b4 [.func (.func 94) #[] #[pB b2 0]] 61 :: box b3 [.slice o_x0 x0.length c_x0] 24 :: box b2 [vI x1_lo, vI x1_hi] 41 :: box b1 [.slice o_x0 x0.length c_x0] 24 :: L) _ := Sub.of (Zone.le_refl _) hS45
                refine w_regD (by kernel_rfl) [(0, true), (1, true), (2, true), (3, false), (4, false), (5, true)] [4] (Sub z9 (box b12 [vI p8.x, vI p8.lo, vI p8.hi, vI p7.x, vI p7.lo, vI p7.hi] 127 :: box b11 [vI p7.x, vI p7.lo, vI p7.hi] 52 :: ownS RngT 41 e7 q7 y10 :: loopA l1 60 [(3, pB b4 0), (5, pB b5 0), (6, pB b6 0), (11, .func (.func 130) #[] #[pB b7 0])] ps1 A1 B1 D1 .busy none :: defA D1 :: box b7 [.slice o_x0 x0.length c_x0] 24 :: box b6 [vI y8] 3 :: box b5 [.slice e7 y10.length q7] 45 :: box b4 [.func (.func 94) #[] #[pB b2 0]] 61 :: box b3 [.slice o_x0 x0.length c_x0] 24 :: box b2 [vI x1_lo, vI x1_hi] 41 :: box b1 [.slice o_x0 x0.length c_x0] 24 :: L)) (by kernel_rfl) s3 ?_
                refine p_first 2 [.func (.func 94) #[] #[pB b2 0], vI p8.x, vI p8.lo, vI p8.hi, vI p7.x, vI p7.lo, vI p7.hi] [3, 5, 6, 7, 8, 27, 28] (fl' := [(3, pB b4 0), (5, pB b5 0), (6, pB b6 0), (7, pB b12 0), (8, vI y8), (27, .func (.func 94) #[] #[pB b2 0]), (28, .agg #[vI p8.x, vI p8.lo, vI p8.hi, vI p7.x, vI p7.lo, vI p7.hi])]) (obs := [.cell ⟨b4, 0, none⟩ (.func (.func 94) #[] #[pB b2 0]), .cell ⟨b12, 0, none⟩ (vI p8.x), .cell ⟨b12, 1, none⟩ (vI p8.lo), .cell ⟨b12, 2, none⟩ (vI p8.hi), .cell ⟨b12, 3, none⟩ (vI p7.x), .cell ⟨b12, 4, none⟩ (vI p7.lo), .cell ⟨b12, 5, none⟩ (vI p7.hi)]) s3 (by kernel_rfl) hf110 (by kernel_rfl) (by kernel_rfl) (fun _ s => (.cell (s.box (i := 8) rfl (j := 0) rfl) (.cell (s.box (i := 0) rfl (j := 0) rfl) (.cell (s.box (i := 0) rfl (j := 1) rfl) (.cell (s.box (i := 0) rfl (j := 2) rfl) (.cell (s.box (i := 0) rfl (j := 3) rfl) (.cell (s.box (i := 0) rfl (j := 4) rfl) (.cell (s.box (i := 0) rfl (j := 5) rfl) .nil)))))))) fun a95 hf111 => ?_
                refine p_firstP 1 [] [3, 5, 6, 7, 8, 27, 28, 29] (fl' := [(3, pB b4 0), (5, pB b5 0), (6, pB b6 0), (7, pB b12 0), (8, vI y8), (27, .func (.func 94) #[] #[pB b2 0]), (28, .agg #[vI p8.x, vI p8.lo, vI p8.hi, vI p7.x, vI p7.lo, vI p7.hi]), (29, vI y8)]) (obs := []) hf111 (by kernel_rfl) (by kernel_rfl) (fun _ => .nil) fun a96 hf112 => ?_
                obtain ⟨r2, hd7, hr37⟩ := bind_some hr36
                refine p_call (i := 3) (d := some 30) (f := 121) (args := #[.agg #[vI p8.x, vI p8.lo, vI p8.hi, vI p7.x, vI p7.lo, vI p7.hi], vI y8]) hf112 (by kernel_rfl) (f121_ok fuel p8.x p8.lo p8.hi p7.x p7.lo p7.hi y8 r2 hd7 z9 _ _ hS45 ) ?_
                rintro v4 ww37 a97 ⟨rfl, hS46⟩ hf113
                refine ⟨fun _ => Sub.of (Zone.le_refl _) hS46, ?_⟩
                have s4 : Sub z9 (box b12 [vI p8.x, vI p8.lo, vI p8.hi, vI p7.x, vI p7.lo, vI p7.hi] 127 :: box b11 [vI p7.x, vI p7.lo, vI p7.hi] 52 :: ownS RngT 41 e7 q7 y10 :: loopA l1 60 [(3, pB b4 0), (5, pB b5 0), (6, pB b6 0), (11, .func (.func 130) #[] #[pB b7 0])] ps1 A1 B1 D1 .busy none :: defA D1 :: box b7 [.slice o_x0 x0.length c_x0] 24 :: box b6 [vI y8] 3 :: box b5 [.slice e7 y10.length q7] 45 :: box b4 [.func (.func 94) #[] #[pB b2 0]] 61 :: box b3 [.slice o_x0 x0.length c_x0] 24 :: box b2 [vI x1_lo, vI x1_hi] 41 :: box b1 [.slice o_x0 x0.length c_x0] 24 :: L) _ := Sub.of (Zone.le_refl _) hS46
                refine p_inl (i := 4) (d := some 31) (f := 94) (args := #[.agg #[vI r2.1, vI r2.2], pB b2 0]) (N' := 16) hf113 (by kernel_rfl) Try.func94 (by kernel_rfl) fun a98 hf114 => ?_
                refine w_seq (by kernel_rfl) ?_
                refine w_reg (by kernel_rfl) ?_
                refine p_box (i := 0) (d := (some 2)) (cs := [vI r2.1, vI r2.2]) (T := 41) (v := fun b13 => pB b13 0) hS46 hf114 (fun b => by kernel_rfl) fun b13 ww38 a99 hS47 hf115 => ⟨fun _ => trivial, ?_⟩
                refine p_run 1 [] [1, 2] (fl' := [(1, pB b2 0), (2, pB b13 0)]) (obs := []) trivial hf115 (by kernel_rfl) (by kernel_rfl) .nil fun a100 hf116 => ?_
                refine p_done (by kernel_rfl) ?_
                refine n_then ?_
                refine w_mid (by kernel_rfl) (fun a w => ∃ z11 : Zone, ∃ y12 : Bool, Zone.le z9 z11 ∧ Fr a 16 [(3, .bool y12)] ∧ St z11 (box b13 [vI r2.1, vI r2.2] 41 :: box b12 [vI p8.x, vI p8.lo, vI p8.hi, vI p7.x, vI p7.lo, vI p7.hi] 127 :: box b11 [vI p7.x, vI p7.lo, vI p7.hi] 52 :: ownS RngT 41 e7 q7 y10 :: loopA l1 60 [(3, pB b4 0), (5, pB b5 0), (6, pB b6 0), (11, .func (.func 130) #[] #[pB b7 0])] ps1 A1 B1 D1 .busy none :: defA D1 :: box b7 [.slice o_x0 x0.length c_x0] 24 :: box b6 [vI y8] 3 :: box b5 [.slice e7 y10.length q7] 45 :: box b4 [.func (.func 94) #[] #[pB b2 0]] 61 :: box b3 [.slice o_x0 x0.length c_x0] 24 :: box b2 [vI x1_lo, vI x1_hi] 41 :: box b1 [.slice o_x0 x0.length c_x0] 24 :: L) w ∧ (F21_j6 (F21_l3 fuel (F21_l2 fuel x0 x1_lo x1_hi d5 n3) x1_lo x1_hi y13 p7 p8 n2) y10 y8 y12) = some r) ?_ ?_
                · skip
                  refine w_reg (by kernel_rfl) ?_
                  refine p_run 6 [vI r2.1, vI x1_hi] [1, 2, 9] (fl' := [(1, pB b2 0), (2, pB b13 0), (9, .bool (decide (r2.1 ≤ x1_hi)))]) (obs := [.cell ⟨b13, 0, none⟩ (vI r2.1), .cell ⟨b2, 1, none⟩ (vI x1_hi)]) trivial hf116 (by kernel_rfl) (by kernel_rfl) (.cell (hS47.box (i := 0) rfl (j := 0) rfl) (.cell (hS47.box (i := 11) rfl (j := 1) rfl) .nil)) fun a101 hf117 => ?_
                  rcases Bool.eq_false_or_eq_true (decide (r2.1 ≤ x1_hi)) with hb18 | hb18
                  · have hr38 := cond_t hb18 hr37
                    have hf118 := Fr.conv hf117 (congrArg (fun z => ([(1, pB b2 0), (2, pB b13 0), (9, .bool z)] : FL)) hb18)
                    refine p_run 7 [vI x1_lo, vI r2.2] [3] (fl' := [(3, .bool (decide (x1_lo ≤ r2.2)))]) (obs := [.cell ⟨b2, 0, none⟩ (vI x1_lo), .cell ⟨b13, 1, none⟩ (vI r2.2)]) trivial hf118 (by kernel_rfl) (by kernel_rfl) (.cell (hS47.box (i := 11) rfl (j := 0) rfl) (.cell (hS47.box (i := 0) rfl (j := 1) rfl) .nil)) fun a102 hf119 => ?_
                    refine p_done (by kernel_rfl) ?_
                    refine n_then ?_
                    have hf120 := Fr.keep (ks := [3]) (r := [(3, .bool (decide (x1_lo ≤ r2.2)))]) hf119 (by kernel_rfl)
                    exact ⟨z9, (decide (x1_lo ≤ r2.2)), (Zone.le_refl _), hf120, hS47, hr38⟩
                  · have hr39 := cond_f hb18 hr37
                    have hf121 := Fr.conv hf117 (congrArg (fun z => ([(1, pB b2 0), (2, pB b13 0), (9, .bool z)] : FL)) hb18)
                    refine p_run 7 [] [3] (fl' := [(3, .bool false)]) (obs := []) trivial hf121 (by kernel_rfl) (by kernel_rfl) .nil fun a103 hf122 => ?_
                    refine p_done (by kernel_rfl) ?_
                    refine n_then ?_
                    have hf123 := Fr.keep (ks := [3]) (r := [(3, .bool false)]) hf122 (by kernel_rfl)
                    exact ⟨z9, false, (Zone.le_refl _), hf123, hS47, hr39⟩
                · rintro a104 ww39 ⟨z11, y12, k12, hf124, hS48, hr40⟩
                  refine w_ret (by kernel_rfl) ?_
                  refine p_ret (os := []) (v := .bool y12) (obs := []) hf124 (by kernel_rfl) .nil ?_
                  refine ⟨_, rfl, fun a105 hf125 => ?_⟩
                  have hS49 := St.drop 1 hS48
                  refine ⟨fun e => absurd e (by decide), ?_⟩
                  refine p_firstP 1 [] [3, 5, 6, 7, 8, 32] (fl' := [(3, pB b4 0), (5, pB b5 0), (6, pB b6 0), (7, pB b12 0), (8, vI y8), (32, .bool (!y12))]) (obs := []) hf125 (by kernel_rfl) (by kernel_rfl) (fun _ => .nil) fun a106 hf126 => ?_
                  refine p_done (by kernel_rfl) ?_
                  refine n_then ?_
                  refine w_if hf126 (b := (!y12)) (by kernel_rfl) (fun hb19 => ?_) (fun hb19 => ?_)
                  · have hr41 := cond_t hb19 hr40
                    refine w_exit (id := 3) (by kernel_rfl) ?_
                    refine x_then ?_
                    refine x_block ?_
                    refine n_then ?_
                    have hf127 := Fr.keep (ks := [3, 5, 6, 7, 8]) (r := [(3, pB b4 0), (5, pB b5 0), (6, pB b6 0), (7, pB b12 0), (8, vI y8)]) hf126 (by kernel_rfl)
                    exact ⟨z11, y10, e7, q7, k12, hf127, hS49, hr41⟩
                  · have hr42 := cond_f hb19 hr40
                    refine w_skip (by kernel_rfl) ?_
                    refine n_then ?_
                    refine w_seq (by kernel_rfl) ?_
                    refine w_reg (by kernel_rfl) ?_
                    refine p_run 4 [.slice e7 y10.length q7] [3, 5, 6, 7, 8, 9] (fl' := [(3, pB b4 0), (5, pB b5 0), (6, pB b6 0), (7, pB b12 0), (8, vI y8), (9, vI (w64 ((y10.length : Int) - (1 : Int))))]) (obs := [.cell ⟨b5, 0, none⟩ (.slice e7 y10.length q7)]) trivial hf126 (by kernel_rfl) (by kernel_rfl) (.cell (hS49.box (i := 7) rfl (j := 0) rfl) .nil) fun a107 hf128 => ?_
                    refine p_done (by kernel_rfl) ?_
                    refine n_then ?_
                    refine w_mid (by kernel_rfl) (fun a w => ∃ z12 : Zone, ∃ y11 : Bool, Zone.le z11 z12 ∧ Fr a 60 [(3, pB b4 0), (5, pB b5 0), (6, pB b6 0), (7, pB b12 0), (8, vI y8), (9, vI (w64 ((y10.length : Int) - (1 : Int)))), (47, .bool y11)] ∧ St z12 (box b12 [vI p8.x, vI p8.lo, vI p8.hi, vI p7.x, vI p7.lo, vI p7.hi] 127 :: box b11 [vI p7.x, vI p7.lo, vI p7.hi] 52 :: ownS RngT 41 e7 q7 y10 :: loopA l1 60 [(3, pB b4 0), (5, pB b5 0), (6, pB b6 0), (11, .func (.func 130) #[] #[pB b7 0])] ps1 A1 B1 D1 .busy none :: defA D1 :: box b7 [.slice o_x0 x0.length c_x0] 24 :: box b6 [vI y8] 3 :: box b5 [.slice e7 y10.length q7] 45 :: box b4 [.func (.func 94) #[] #[pB b2 0]] 61 :: box b3 [.slice o_x0 x0.length c_x0] 24 :: box b2 [vI x1_lo, vI x1_hi] 41 :: box b1 [.slice o_x0 x0.length c_x0] 24 :: L) w ∧ (F21_j7 (F21_l3 fuel (F21_l2 fuel x0 x1_lo x1_hi d5 n3) x1_lo x1_hi y13 p7 p8 n2) y10 y8 y11) = some r) ?_ ?_
                    · skip
                      refine w_reg (by kernel_rfl) ?_
                      refine p_run 3 [] [3, 5, 6, 7, 8, 9, 38] (fl' := [(3, pB b4 0), (5, pB b5 0), (6, pB b6 0), (7, pB b12 0), (8, vI y8), (9, vI (w64 ((y10.length : Int) - (1 : Int)))), (38, .bool (decide ((w64 ((y10.length : Int) - (1 : Int))) ≥ (0 : Int))))]) (obs := []) trivial hf128 (by kernel_rfl) (by kernel_rfl) .nil fun a108 hf129 => ?_
                      rcases Bool.eq_false_or_eq_true (decide ((w64 ((y10.length : Int) - (1 : Int))) ≥ (0 : Int))) with hb20 | hb20
                      · have hr43 := cond_t hb20 hr42
                        have hf130 := Fr.conv hf129 (congrArg (fun z => ([(3, pB b4 0), (5, pB b5 0), (6, pB b6 0), (7, pB b12 0), (8, vI y8), (9, vI (w64 ((y10.length : Int) - (1 : Int)))), (38, .bool z)] : FL)) hb20)
                        obtain ⟨p6, hp64275, hr44⟩ := bind_some hr43
                        obtain ⟨ad7, ho7, hb21, cc7, hc7, hk7⟩ := hS49.ownGet (j := 2) rfl hp64275
                        subst hc7
                        refine p_run 9 [.slice e7 y10.length q7, .pointer (some ad7), vI p6.hi] [3, 5, 6, 7, 8, 9, 39, 40, 41, 42, 43, 44, 45, 46, 47] (fl' := [(3, pB b4 0), (5, pB b5 0), (6, pB b6 0), (7, pB b12 0), (8, vI y8), (9, vI (w64 ((y10.length : Int) - (1 : Int)))), (39, .slice e7 y10.length q7), (40, vI (w64 ((y10.length : Int) - (1 : Int)))), (41, .pointer (some (ad7.add (Int.toNat (w64 ((y10.length : Int) - (1 : Int))) * 2)))), (42, .pointer (some ((ad7.add (Int.toNat (w64 ((y10.length : Int) - (1 : Int))) * 2)).add 1))), (43, vI p6.hi), (44, vI y8), (45, vI (w64 (y8 - (1 : Int)))), (46, .bool (p6.hi == (w64 (y8 - (1 : Int))))), (47, .bool (p6.hi == (w64 (y8 - (1 : Int)))))]) (obs := [.cell ⟨b5, 0, none⟩ (.slice e7 y10.length q7), .prop (e7 = some ad7), .prop (0 ≤ (w64 ((y10.length : Int) - (1 : Int))) ∧ (w64 ((y10.length : Int) - (1 : Int))) < (y10.length : Nat)), .cell ((ad7.add (Int.toNat (w64 ((y10.length : Int) - (1 : Int))) * 2)).add 1) (vI p6.hi)]) trivial hf130 (by kernel_rfl) (by kernel_rfl) (.cell (hS49.box (i := 7) rfl (j := 0) rfl) (.prop ho7 (.prop hb21 (.cell (hk7 1 _ rfl) .nil)))) fun a109 hf131 => ?_
                        refine p_done (by kernel_rfl) ?_
                        refine n_then ?_
                        have hf132 := Fr.keep (ks := [3, 5, 6, 7, 8, 9, 47]) (r := [(3, pB b4 0), (5, pB b5 0), (6, pB b6 0), (7, pB b12 0), (8, vI y8), (9, vI (w64 ((y10.length : Int) - (1 : Int)))), (47, .bool (p6.hi == (w64 (y8 - (1 : Int)))))]) hf131 (by kernel_rfl)
                        exact ⟨z11, (p6.hi == (w64 (y8 - (1 : Int)))), (Zone.le_refl _), hf132, hS49, hr44⟩
                      · have hr45 := cond_f hb20 hr42
                        have hf133 := Fr.conv hf129 (congrArg (fun z => ([(3, pB b4 0), (5, pB b5 0), (6, pB b6 0), (7, pB b12 0), (8, vI y8), (9, vI (w64 ((y10.length : Int) - (1 : Int)))), (38, .bool z)] : FL)) hb20)
                        refine p_run 9 [] [3, 5, 6, 7, 8, 9, 39, 40, 41, 42, 43, 44, 45, 46, 47] (fl' := [(3, pB b4 0), (5, pB b5 0), (6, pB b6 0), (7, pB b12 0), (8, vI y8), (9, vI (w64 ((y10.length : Int) - (1 : Int)))), (39, undef), (40, undef), (41, undef), (42, undef), (43, undef), (44, undef), (45, undef), (46, undef), (47, .bool false)]) (obs := []) trivial hf133 (by kernel_rfl) (by kernel_rfl) .nil fun a110 hf134 => ?_
                        refine p_done (by kernel_rfl) ?_
                        refine n_then ?_
                        have hf135 := Fr.keep (ks := [3, 5, 6, 7, 8, 9, 47]) (r := [(3, pB b4 0), (5, pB b5 0), (6, pB b6 0), (7, pB b12 0), (8, vI y8), (9, vI (w64 ((y10.length : Int) - (1 : Int)))), (47, .bool false)]) hf134 (by kernel_rfl)
                        exact ⟨z11, false, (Zone.le_refl _), hf135, hS49, hr45⟩
                    · rintro a111 ww40 ⟨z12, y11, k13, hf136, hS50, hr46⟩
                      refine w_if hf136 (b := y11) (by kernel_rfl) (fun hb22 => ?_) (fun hb22 => ?_)
                      · have hr47 := cond_t hb22 hr46
                        refine w_reg (by kernel_rfl) ?_
                        obtain ⟨p5, hp64295, hr48⟩ := bind_some hr47
                        obtain ⟨ad8, ho8, hb23, cc8, hc8, hk8⟩ := hS50.ownGet (j := 2) rfl hp64295
                        subst hc8
                        refine p_run 5 [.slice e7 y10.length q7, .pointer (some ad8)] [3, 5, 6, 7, 8, 50, 52] (fl' := [(3, pB b4 0), (5, pB b5 0), (6, pB b6 0), (7, pB b12 0), (8, vI y8), (50, vI y8), (52, .pointer (some ((ad8.add (Int.toNat (w64 ((y10.length : Int) - (1 : Int))) * 2)).add 1)))]) (obs := [.cell ⟨b5, 0, none⟩ (.slice e7 y10.length q7), .prop (e7 = some ad8), .prop (0 ≤ (w64 ((y10.length : Int) - (1 : Int))) ∧ (w64 ((y10.length : Int) - (1 : Int))) < (y10.length : Nat))]) trivial hf136 (by kernel_rfl) (by kernel_rfl) (.cell (hS50.box (i := 7) rfl (j := 0) rfl) (.prop ho8 (.prop hb23 .nil))) fun a112 hf137 => ?_
                        obtain ⟨d3, hd8, hr49⟩ := bind_some hr48
                        have hl2 := setI_len hd8
                        refine p_setOwn (i := 5) (j := 2) (ad := ad8) (ix := (w64 ((y10.length : Int) - (1 : Int)))) (off := 1) (vs := [vI y8]) (x' := ({ p5 with hi := y8 })) hS50 hf137 rfl ho8 hp64295 (by kernel_rfl) (by kernel_rfl) rfl hd8 fun ww41 a113 hS51 hf138 => ?_
                        have hS52 := St.convL (L' := box b12 [vI p8.x, vI p8.lo, vI p8.hi, vI p7.x, vI p7.lo, vI p7.hi] 127 :: box b11 [vI p7.x, vI p7.lo, vI p7.hi] 52 :: ownS RngT 41 e7 q7 d3 :: loopA l1 60 [(3, pB b4 0), (5, pB b5 0), (6, pB b6 0), (11, .func (.func 130) #[] #[pB b7 0])] ps1 A1 B1 D1 .busy none :: defA D1 :: box b7 [.slice o_x0 x0.length c_x0] 24 :: box b6 [vI y8] 3 :: box b5 [.slice e7 d3.length q7] 45 :: box b4 [.func (.func 94) #[] #[pB b2 0]] 61 :: box b3 [.slice o_x0 x0.length c_x0] 24 :: box b2 [vI x1_lo, vI x1_hi] 41 :: box b1 [.slice o_x0 x0.length c_x0] 24 :: L) hS51 (by rw [hl2] <;> rfl)
                        refine ⟨fun _ => trivial, ?_⟩
                        refine p_done (by kernel_rfl) ?_
                        refine n_block ?_
                        refine n_then ?_
                        have hf139 := Fr.keep (ks := [3, 5, 6, 7, 8]) (r := [(3, pB b4 0), (5, pB b5 0), (6, pB b6 0), (7, pB b12 0), (8, vI y8)]) hf138 (by kernel_rfl)
                        exact ⟨z12, d3, e7, q7, (Zone.le_trans k12 k13), hf139, hS52, hr49⟩
                      · have hr50 := cond_f hb22 hr46
                        refine w_reg (by kernel_rfl) ?_
                        refine p_run 4 [.slice e7 y10.length q7] [3, 5, 6, 7, 8, 53, 56] (fl' := [(3, pB b4 0), (5, pB b5 0), (6, pB b6 0), (7, pB b12 0), (8, vI y8), (53, .slice e7 y10.length q7), (56, .agg #[vI y8, vI y8])]) (obs := [.cell ⟨b5, 0, none⟩ (.slice e7 y10.length q7)]) trivial hf136 (by kernel_rfl) (by kernel_rfl) (.cell (hS50.box (i := 7) rfl (j := 0) rfl) .nil) fun a114 hf140 => ?_
                        refine p_box (i := 4) (d := (some 57)) (cs := [vI y8, vI y8]) (T := 41) (v := fun b14 => .slice (some ⟨b14, 0, none⟩) 1 1) hS50 hf140 (fun b => by kernel_rfl) fun b14 ww42 a115 hS53 hf141 => ⟨fun _ => trivial, ?_⟩
                        have hS54 := hS53.ownBox (T := RngT) (E := 41) (n := 1) (xs := [⟨y8, y8⟩]) (i := 0) rfl (Rows.cons (c := [vI y8, vI y8]) rfl rfl) rfl (by decide)
                        obtain ⟨d4, hd9, hr51⟩ := bind_some hr50
                        refine p_append (T := RngT) (i := 5) (j := 3) (d := some 58) (o2 := (some ⟨b14, 0, none⟩)) (c2 := 1) (ys := ([⟨y8, y8⟩])) el45 hS54 hf141 rfl (by kernel_rfl) (hS54.ownSrc (j := 0) rfl) hd9 fun e9 q9 ww43 a116 hS55 hf142 => ⟨fun _ => trivial, ?_⟩
                        refine p_store_eq (i := 6) (j := 8) (b := b5) (off := 0) (vs := [.slice e9 d4.length q9]) (cs' := [.slice e9 d4.length q9]) hS55 hf142 rfl (by kernel_rfl) (by kernel_rfl) rfl fun ww44 a117 hS56 hf143 => ⟨fun _ => trivial, ?_⟩
                        refine p_done (by kernel_rfl) ?_
                        refine n_block ?_
                        refine n_then ?_
                        have hf144 := Fr.keep (ks := [3, 5, 6, 7, 8]) (r := [(3, pB b4 0), (5, pB b5 0), (6, pB b6 0), (7, pB b12 0), (8, vI y8)]) hf143 (by kernel_rfl)
                        exact ⟨z12, d4, e9, q9, (Zone.le_trans k12 k13), hf144, (St.drop 1 hS56), hr51⟩
              · rintro a118 ww45 ⟨z10, y9, e8, q8, k14, hf145, hS57, hr52⟩
                refine w_reg (by kernel_rfl) ?_
                refine p_run 3 [] [3, 5, 6, 7, 8] (fl' := [(3, pB b4 0), (5, pB b5 0), (6, pB b6 0), (7, pB b12 0), (8, vI (w64 (y8 + (1 : Int))))]) (obs := []) trivial hf145 (by kernel_rfl) (by kernel_rfl) .nil fun a119 hf146 => ?_
                refine p_done (by kernel_rfl) ?_
                refine n_then ?_
                have hf147 := Fr.keep (ks := [3, 5, 6, 7, 8]) (r := [(3, pB b4 0), (5, pB b5 0), (6, pB b6 0), (7, pB b12 0), (8, vI (w64 (y8 + (1 : Int))))]) hf146 (by kernel_rfl)
                exact ⟨n2, Nat.lt_succ_self n2, z10, y9, y8, (w64 (y8 + (1 : Int))), e8, q8, (Zone.le_trans k11 k14), hf147, hS57, hr52⟩
            · have hr53 := cond_f hb17 hr35
              refine w_exit (id := 2) (by kernel_rfl) ?_
              refine x_then ?_
              refine x_then ?_
              refine x_block ?_
              refine n_block ?_
              refine p_roundN hS43 (j := 3) rfl fun ww46 a120 hS58 hf148 => ?_
              have hS59 := St.drop 1 hS58
              refine p_run 1 [] [0, 1, 22, 23, 24, 38] (fl' := [(0, .func (.yield l1) #[] #[]), (1, pB b7 0), (22, .slice e5 d5.length q5), (23, vI (d5.length : Int)), (24, vI y13), (38, .bool false)]) (obs := []) trivial hf148 (by kernel_rfl) (by kernel_rfl) .nil fun a121 hf149 => ?_
              refine p_done (by kernel_rfl) ?_
              refine n_then ?_
              refine w_if_false hf149 (by kernel_rfl) ?_
              refine w_skip (by kernel_rfl) ?_
              refine n_block ?_
              refine n_then ?_
              refine w_reg (by kernel_rfl) ?_
              refine p_run 2 [] [0, 1, 22, 23, 24] (fl' := [(0, .func (.yield l1) #[] #[]), (1, pB b7 0), (22, .slice e5 d5.length q5), (23, vI (d5.length : Int)), (24, vI (w64 (y13 + (1 : Int))))]) (obs := []) trivial hf149 (by kernel_rfl) (by kernel_rfl) .nil fun a122 hf150 => ?_
              refine p_done (by kernel_rfl) ?_
              refine n_then ?_
              have hf151 := Fr.keep (ks := [0, 1, 22, 23, 24]) (r := [(0, .func (.yield l1) #[] #[]), (1, pB b7 0), (22, .slice e5 d5.length q5), (23, vI (d5.length : Int)), (24, vI (w64 (y13 + (1 : Int))))]) hf150 (by kernel_rfl)
              exact ⟨n3, Nat.lt_succ_self n3, z9, y10, y14, (w64 (y13 + (1 : Int))), e7, q7, (Zone.le_trans k10 k11), hf151, (St.drop 1 hS59), hr53⟩
          · have hr54 := cond_f hb14 hr31
            refine w_exit (id := 0) (by kernel_rfl) ?_
            refine x_then ?_
            refine x_then ?_
            refine x_block ?_
            refine p_fall (os := []) (v := .tuple #[]) (obs := []) hf92 (by kernel_rfl) .nil ?_
            refine ⟨_, rfl, fun a123 hf152 => ?_⟩
            refine p_jump0 hS36 (j := 1) rfl (fun h => by cases h) fun ww47 hS60 => ?_
            refine n_block ?_
            refine n_then ?_
            refine w_seq (by kernel_rfl) ?_
            refine w_reg (by kernel_rfl) ?_
            refine p_run 2 [.slice e6 y15.length q6] [4] (fl' := [(4, .slice e6 y15.length q6)]) (obs := [.cell ⟨b5, 0, none⟩ (.slice e6 y15.length q6)]) trivial hf152 (by kernel_rfl) (by kernel_rfl) (.cell (hS60.box (i := 5) rfl (j := 0) rfl) .nil) fun a124 hf153 => ?_
            refine p_done (by kernel_rfl) ?_
            refine n_then ?_
            refine w_ret (by kernel_rfl) ?_
            refine p_retM hf153 ?_
            refine p_mark hS60 (j := 2) rfl fun ww48 hS61 => ?_
            refine p_end (os := []) (v := .slice e6 y15.length q6) (obs := []) hf153 (by kernel_rfl) .nil ?_
            exact ⟨_, rfl, z8, y15, e6, q6, k10, rfl, (St.pick 8 [0] hS61 (by kernel_rfl)), hr54⟩
      · rintro v5 ww49 a125 ⟨z3, y1, e1, q1, k15, rfl, hS62, hr55⟩ hf154
        refine ⟨fun _ => trivial, ?_⟩
        refine p_run 2 [] [4, 5] (fl' := [(4, .slice e1 y1.length q1), (5, vI 0)]) (obs := []) trivial hf154 (by kernel_rfl) (by kernel_rfl) .nil fun a126 hf155 => ?_
        refine p_done (by kernel_rfl) ?_
        refine n_then ?_
        refine w_ret (by kernel_rfl) ?_
        obtain ⟨z13, k16, hS63, hx2⟩ := hS62.share (j := 0) rfl
        refine p_ret (os := []) (v := .tuple #[.slice e1 y1.length q1, vI 0]) (obs := []) hf155 (by kernel_rfl) .nil ?_
        obtain rfl := some_eq hr55
        exact ⟨_, rfl, z13, e1, q1, (Zone.le_trans (Zone.le_trans (Zone.le_trans k4 k5) k15) k16), rfl, (St.drop 3 hS63), hx2⟩
def F26_l1 (x0 : List Rng) (x1 : List Rng) : Nat → Int → Option (Bool)
  | 0, _ => none
  | n1 + 1, y1 =>
    let k1 : Int → Option (Bool) := F26_l1 x0 x1 n1
    (cond (decide (y1 < (x0.length : Int))) ((getI x0 y1).bind fun p1 => ((getI x1 y1).bind fun p2 => (cond (!((p1.lo == p2.lo) && ((p1.hi == p2.hi) && true))) (some (false)) (k1 (w64 (y1 + (1 : Int))))))) (some (true)))
def F26 (fuel : Nat) (x0 : List Rng) (x1 : List Rng) : Option (Bool) :=
  (cond ((x0.length : Int) != (x1.length : Int)) (some (false)) (F26_l1 x0 x1 fuel 0))
set_option maxRecDepth 100000 in
theorem f26_ok (fuel : Nat) (x0 : List Rng) (x1 : List Rng) (r : Bool) (hr : F26 fuel x0 x1 = some r) (h : Zone) (L : List Atom) (w : World) (hS : St h L w) (o_x0 : Option Addr) (c_x0 : Nat) (hx_x0 : SliceR RngT h o_x0 c_x0 x0) (o_x1 : Option Addr) (c_x1 : Nat) (hx_x1 : SliceR RngT h o_x1 c_x1 x1) :
    Calls Try.prog 26 #[.slice o_x0 x0.length c_x0, .slice o_x1 x1.length c_x1] w fun e w' => ∃ v, e = .returned v ∧ (∃ h', Zone.le h h' ∧ v = .bool r ∧ St h' L w') := by
  refine calls_intro (N := 26) Try.func26 (by kernel_rfl) fun a hf => ?_
  refine w_seq (by kernel_rfl) ?_
  refine w_reg (by kernel_rfl) ?_
  refine p_run 1 [] [0, 1] (fl' := [(0, .slice o_x0 x0.length c_x0), (1, .slice o_x1 x1.length c_x1)]) (obs := []) trivial hf (by kernel_rfl) (by kernel_rfl) .nil fun a1 hf1 => ?_
  refine p_done (by kernel_rfl) ?_
  refine n_then ?_
  refine w_seq (by kernel_rfl) ?_
  refine w_seq (by kernel_rfl) ?_
  refine w_reg (by kernel_rfl) ?_
  refine p_run 5 [] [0, 1, 10] (fl' := [(0, .slice o_x0 x0.length c_x0), (1, .slice o_x1 x1.length c_x1), (10, .bool ((x0.length : Int) != (x1.length : Int)))]) (obs := []) trivial hf1 (by kernel_rfl) (by kernel_rfl) .nil fun a2 hf2 => ?_
  refine p_done (by kernel_rfl) ?_
  refine n_then ?_
  refine w_if hf2 (b := ((x0.length : Int) != (x1.length : Int))) (by kernel_rfl) (fun hb1 => ?_) (fun hb1 => ?_)
  · have hr1 := cond_t hb1 hr
    refine w_seq (by kernel_rfl) ?_
    refine w_reg (by kernel_rfl) ?_
    refine p_run 1 [] [4] (fl' := [(4, .bool false)]) (obs := []) trivial hf2 (by kernel_rfl) (by kernel_rfl) .nil fun a3 hf3 => ?_
    refine p_done (by kernel_rfl) ?_
    refine n_then ?_
    refine w_ret (by kernel_rfl) ?_
    refine r_then ?_
    refine p_ret (os := []) (v := .bool false) (obs := []) hf3 (by kernel_rfl) .nil ?_
    obtain rfl := some_eq hr1
    exact ⟨_, rfl, h, (Zone.le_refl _), rfl, hS⟩
  · have hr2 := cond_f hb1 hr
    refine w_skip (by kernel_rfl) ?_
    refine n_then ?_
    refine w_seq (by kernel_rfl) ?_
    refine w_seq (by kernel_rfl) ?_
    refine w_reg (by kernel_rfl) ?_
    refine p_run 3 [] [0, 1, 12, 13] (fl' := [(0, .slice o_x0 x0.length c_x0), (1, .slice o_x1 x1.length c_x1), (12, vI (x0.length : Int)), (13, vI 0)]) (obs := []) trivial hf2 (by kernel_rfl) (by kernel_rfl) .nil fun a4 hf4 => ?_
    refine p_done (by kernel_rfl) ?_
    refine n_then ?_
    refine w_block (id := 0) (by kernel_rfl) ?_
    have hf5 := Fr.keep (ks := [0, 1, 12, 13]) (r := [(0, .slice o_x0 x0.length c_x0), (1, .slice o_x1 x1.length c_x1), (12, vI (x0.length : Int)), (13, vI 0)]) hf4 (by kernel_rfl)
    refine w_loop (by kernel_rfl) (fun n a w => ∃ z1 : Zone, ∃ y1 : Int, Zone.le h z1 ∧ Fr a 26 [(0, .slice o_x0 x0.length c_x0), (1, .slice o_x1 x1.length c_x1), (12, vI (x0.length : Int)), (13, vI y1)] ∧ St z1 (L) w ∧ (F26_l1 x0 x1 n y1) = some r) fuel ⟨h, 0, (Zone.le_refl _), hf5, hS, hr2⟩ ?_
    rintro n2 a5 ww1 ⟨z1, y1, k2, hf6, hS1, hr3⟩
    cases n2 with
    | zero => cases hr3
    | succ n1 =>
    refine w_seq (by kernel_rfl) ?_
    refine w_reg (by kernel_rfl) ?_
    refine p_run 1 [] [0, 1, 12, 13, 14] (fl' := [(0, .slice o_x0 x0.length c_x0), (1, .slice o_x1 x1.length c_x1), (12, vI (x0.length : Int)), (13, vI y1), (14, .bool (decide (y1 < (x0.length : Int))))]) (obs := []) trivial hf6 (by kernel_rfl) (by kernel_rfl) .nil fun a6 hf7 => ?_
    refine p_done (by kernel_rfl) ?_
    refine n_then ?_
    refine w_seq (by kernel_rfl) ?_
    refine w_if hf7 (b := (decide (y1 < (x0.length : Int)))) (by kernel_rfl) (fun hb2 => ?_) (fun hb2 => ?_)
    · have hr4 := cond_t hb2 hr3
      refine w_skip (by kernel_rfl) ?_
      refine n_then ?_
      refine w_seq (by kernel_rfl) ?_
      refine w_block (id := 1) (by kernel_rfl) ?_
      refine w_seq (by kernel_rfl) ?_
      refine w_reg (by kernel_rfl) ?_
      refine p_run 2 [] [0, 1, 5, 12, 13] (fl' := [(0, .slice o_x0 x0.length c_x0), (1, .slice o_x1 x1.length c_x1), (5, vI y1), (12, vI (x0.length : Int)), (13, vI y1)]) (obs := []) trivial hf7 (by kernel_rfl) (by kernel_rfl) .nil fun a7 hf8 => ?_
      refine p_done (by kernel_rfl) ?_
      refine n_then ?_
      refine w_seq (by kernel_rfl) ?_
      have hS2 := hS1.drew
      refine w_regD (by kernel_rfl) [(0, true), (1, true), (2, true), (3, true), (4, true), (5, true), (6, true), (7, true), (8, true)] [] (fun x => x = ww1.drew) (by kernel_rfl) rfl ?_
      obtain ⟨p1, hp672, hr5⟩ := bind_some hr4
      obtain ⟨ad1, ho1, hb3, cc1, hc1, hk1⟩ := SliceR.getI (SliceR.mono k2 hx_x0) hp672
      subst hc1
      refine p_firstP 3 [.pointer (some ad1)] [0, 1, 5, 12, 13, 18] (fl' := [(0, .slice o_x0 x0.length c_x0), (1, .slice o_x1 x1.length c_x1), (5, vI y1), (12, vI (x0.length : Int)), (13, vI y1), (18, .pointer (some (ad1.add (Int.toNat y1 * 2))))]) (obs := [.prop (o_x0 = some ad1), .prop (0 ≤ y1 ∧ y1 < (x0.length : Nat))]) hf8 (by kernel_rfl) (by kernel_rfl) (fun _ => (.prop ho1 (.prop hb3 .nil))) fun a8 hf9 => ?_
      refine p_firstE 1 [vI p1.lo, vI p1.hi] [0, 1, 5, 12, 13, 19] (fl' := [(0, .slice o_x0 x0.length c_x0), (1, .slice o_x1 x1.length c_x1), (5, vI y1), (12, vI (x0.length : Int)), (13, vI y1), (19, .agg #[vI p1.lo, vI p1.hi])]) (obs := [.cell ((ad1.add (Int.toNat y1 * 2)).add 0) (vI p1.lo), .cell ((ad1.add (Int.toNat y1 * 2)).add 1) (vI p1.hi)]) (by kernel_rfl) hf9 (by kernel_rfl) (by kernel_rfl) (.cell (hS2.cell (hk1 0 _ rfl)) (.cell (hS2.cell (hk1 1 _ rfl)) .nil)) fun a9 hf10 => ?_
      obtain ⟨p2, hp685, hr6⟩ := bind_some hr5
      obtain ⟨ad2, ho2, hb4, cc2, hc2, hk2⟩ := SliceR.getI (SliceR.mono k2 hx_x1) hp685
      subst hc2
      refine p_firstP 3 [.pointer (some ad2)] [0, 1, 12, 13, 19, 22] (fl' := [(0, .slice o_x0 x0.length c_x0), (1, .slice o_x1 x1.length c_x1), (12, vI (x0.length : Int)), (13, vI y1), (19, .agg #[vI p1.lo, vI p1.hi]), (22, .pointer (some (ad2.add (Int.toNat y1 * 2))))]) (obs := [.prop (o_x1 = some ad2), .prop (0 ≤ y1 ∧ y1 < (x1.length : Nat))]) hf10 (by kernel_rfl) (by kernel_rfl) (fun _ => (.prop ho2 (.prop hb4 .nil))) fun a10 hf11 => ?_
      refine p_firstE 1 [vI p2.lo, vI p2.hi] [0, 1, 12, 13, 19, 23] (fl' := [(0, .slice o_x0 x0.length c_x0), (1, .slice o_x1 x1.length c_x1), (12, vI (x0.length : Int)), (13, vI y1), (19, .agg #[vI p1.lo, vI p1.hi]), (23, .agg #[vI p2.lo, vI p2.hi])]) (obs := [.cell ((ad2.add (Int.toNat y1 * 2)).add 0) (vI p2.lo), .cell ((ad2.add (Int.toNat y1 * 2)).add 1) (vI p2.hi)]) (by kernel_rfl) hf11 (by kernel_rfl) (by kernel_rfl) (.cell (hS2.cell (hk2 0 _ rfl)) (.cell (hS2.cell (hk2 1 _ rfl)) .nil)) fun a11 hf12 => ?_
      refine p_firstP 1 [] [0, 1, 12, 13, 24] (fl' := [(0, .slice o_x0 x0.length c_x0), (1, .slice o_x1 x1.length c_x1), (12, vI (x0.length : Int)), (13, vI y1), (24, .bool (!((p1.lo == p2.lo) && ((p1.hi == p2.hi) && true))))]) (obs := []) hf12 (by kernel_rfl) (by kernel_rfl) (fun _ => .nil) fun a12 hf13 => ?_
      refine p_done (by kernel_rfl) ?_
      refine n_then ?_
      refine w_if hf13 (b := (!((p1.lo == p2.lo) && ((p1.hi == p2.hi) && true)))) (by kernel_rfl) (fun hb5 => ?_) (fun hb5 => ?_)
      · have hr7 := cond_t hb5 hr6
        refine w_seq (by kernel_rfl) ?_
        refine w_reg (by kernel_rfl) ?_
        refine p_run 1 [] [4] (fl' := [(4, .bool false)]) (obs := []) trivial hf13 (by kernel_rfl) (by kernel_rfl) .nil fun a13 hf14 => ?_
        refine p_done (by kernel_rfl) ?_
        refine n_then ?_
        refine w_ret (by kernel_rfl) ?_
        refine r_block ?_
        refine r_then ?_
        refine r_then ?_
        refine r_block ?_
        refine r_then ?_
        refine p_ret (os := []) (v := .bool false) (obs := []) hf14 (by kernel_rfl) .nil ?_
        obtain rfl := some_eq hr7
        exact ⟨_, rfl, z1, k2, rfl, hS2⟩
      · have hr8 := cond_f hb5 hr6
        refine w_skip (by kernel_rfl) ?_
        refine n_block ?_
        refine n_then ?_
        refine w_reg (by kernel_rfl) ?_
        refine p_run 2 [] [0, 1, 12, 13] (fl' := [(0, .slice o_x0 x0.length c_x0), (1, .slice o_x1 x1.length c_x1), (12, vI (x0.length : Int)), (13, vI (w64 (y1 + (1 : Int))))]) (obs := []) trivial hf13 (by kernel_rfl) (by kernel_rfl) .nil fun a14 hf15 => ?_
        refine p_done (by kernel_rfl) ?_
        refine n_then ?_
        have hf16 := Fr.keep (ks := [0, 1, 12, 13]) (r := [(0, .slice o_x0 x0.length c_x0), (1, .slice o_x1 x1.length c_x1), (12, vI (x0.length : Int)), (13, vI (w64 (y1 + (1 : Int))))]) hf15 (by kernel_rfl)
        exact ⟨n1, Nat.lt_succ_self n1, z1, (w64 (y1 + (1 : Int))), k2, hf16, hS2, hr8⟩
    · have hr9 := cond_f hb2 hr3
      refine w_exit (id := 0) (by kernel_rfl) ?_
      refine x_then ?_
      refine x_then ?_
      refine x_block ?_
      refine n_then ?_
      refine w_seq (by kernel_rfl) ?_
      refine w_reg (by kernel_rfl) ?_
      refine p_run 1 [] [4] (fl' := [(4, .bool true)]) (obs := []) trivial hf7 (by kernel_rfl) (by kernel_rfl) .nil fun a15 hf17 => ?_
      refine p_done (by kernel_rfl) ?_
      refine n_then ?_
      refine w_ret (by kernel_rfl) ?_
      refine p_ret (os := []) (v := .bool true) (obs := []) hf17 (by kernel_rfl) .nil ?_
      obtain rfl := some_eq hr9
      exact ⟨_, rfl, z1, k2, rfl, hS1⟩
def F106 (fuel : Nat) (x0_lo : Int) (x0_hi : Int) (x1_lo : Int) (x1_hi : Int) : Option (Int) :=
  ((F52 fuel x0_lo x0_hi).bind fun r1 => (cond (r1 != (0 : Int)) (some (r1)) ((F52 fuel x1_lo x1_hi).bind fun r2 => (some (r2)))))
set_option maxRecDepth 100000 in
theorem f106_ok (fuel : Nat) (x0_lo : Int) (x0_hi : Int) (x1_lo : Int) (x1_hi : Int) (r : Int) (hr : F106 fuel x0_lo x0_hi x1_lo x1_hi = some r) (h : Zone) (L : List Atom) (w : World) (hS : St h L w)  :
    Calls Try.prog 106 #[.agg #[vI x0_lo, vI x0_hi], .agg #[vI x1_lo, vI x1_hi]] w fun e w' => ∃ v, e = .returned v ∧ (∃ h', Zone.le h h' ∧ v = vI r ∧ St h' L w') := by
  refine calls_intro (N := 13) Try.func106 (by kernel_rfl) fun a hf => ?_
  refine w_seq (by kernel_rfl) ?_
  refine w_reg (by kernel_rfl) ?_
  refine p_box (i := 0) (d := (some 2)) (cs := [vI x0_lo, vI x0_hi]) (T := 41) (v := fun b1 => pB b1 0) hS hf (fun b => by kernel_rfl) fun b1 ww1 a1 hS1 hf1 => ⟨fun _ => trivial, ?_⟩
  refine p_box (i := 1) (d := (some 3)) (cs := [vI x1_lo, vI x1_hi]) (T := 41) (v := fun b2 => pB b2 0) hS1 hf1 (fun b => by kernel_rfl) fun b2 ww2 a2 hS2 hf2 => ⟨fun _ => trivial, ?_⟩
  refine p_run 1 [] [2, 3] (fl' := [(2, pB b1 0), (3, pB b2 0)]) (obs := []) trivial hf2 (by kernel_rfl) (by kernel_rfl) .nil fun a3 hf3 => ?_
  refine p_done (by kernel_rfl) ?_
  refine n_then ?_
  refine w_seq (by kernel_rfl) ?_
  refine w_seq (by kernel_rfl) ?_
  refine w_reg (by kernel_rfl) ?_
  refine p_run 1 [vI x0_lo, vI x0_hi] [3, 6] (fl' := [(3, pB b2 0), (6, .agg #[vI x0_lo, vI x0_hi])]) (obs := [.cell ⟨b1, 0, none⟩ (vI x0_lo), .cell ⟨b1, 1, none⟩ (vI x0_hi)]) trivial hf3 (by kernel_rfl) (by kernel_rfl) (.cell (hS2.box (i := 1) rfl (j := 0) rfl) (.cell (hS2.box (i := 1) rfl (j := 1) rfl) .nil)) fun a4 hf4 => ?_
  obtain ⟨r1, hd1, hr1⟩ := bind_some hr
  refine p_call (i := 1) (d := some 7) (f := 52) (args := #[.agg #[vI x0_lo, vI x0_hi]]) hf4 (by kernel_rfl) (f52_ok fuel x0_lo x0_hi r1 hd1 h _ _ hS2 ) ?_
  rintro v1 ww3 a5 ⟨z1, k1, rfl, hS3⟩ hf5
  refine ⟨fun _ => trivial, ?_⟩
  refine p_run 1 [] [3, 5] (fl' := [(3, pB b2 0), (5, vI r1)]) (obs := []) trivial hf5 (by kernel_rfl) (by kernel_rfl) .nil fun a6 hf6 => ?_
  refine p_done (by kernel_rfl) ?_
  refine n_then ?_
  refine w_seq (by kernel_rfl) ?_
  refine w_reg (by kernel_rfl) ?_
  refine p_run 2 [] [3, 5, 9] (fl' := [(3, pB b2 0), (5, vI r1), (9, .bool (r1 != (0 : Int)))]) (obs := []) trivial hf6 (by kernel_rfl) (by kernel_rfl) .nil fun a7 hf7 => ?_
  refine p_done (by kernel_rfl) ?_
  refine n_then ?_
  refine w_if hf7 (b := (r1 != (0 : Int))) (by kernel_rfl) (fun hb1 => ?_) (fun hb1 => ?_)
  · have hr2 := cond_t hb1 hr1
    refine w_seq (by kernel_rfl) ?_
    refine w_reg (by kernel_rfl) ?_
    refine p_run 2 [] [4] (fl' := [(4, vI r1)]) (obs := []) trivial hf7 (by kernel_rfl) (by kernel_rfl) .nil fun a8 hf8 => ?_
    refine p_done (by kernel_rfl) ?_
    refine n_then ?_
    refine w_ret (by kernel_rfl) ?_
    refine r_then ?_
    refine p_ret (os := []) (v := vI r1) (obs := []) hf8 (by kernel_rfl) .nil ?_
    obtain rfl := some_eq hr2
    exact ⟨_, rfl, z1, k1, rfl, (St.drop 2 hS3)⟩
  · have hr3 := cond_f hb1 hr1
    refine w_skip (by kernel_rfl) ?_
    refine n_then ?_
    refine w_seq (by kernel_rfl) ?_
    refine w_reg (by kernel_rfl) ?_
    refine p_run 1 [vI x1_lo, vI x1_hi] [11] (fl' := [(11, .agg #[vI x1_lo, vI x1_hi])]) (obs := [.cell ⟨b2, 0, none⟩ (vI x1_lo), .cell ⟨b2, 1, none⟩ (vI x1_hi)]) trivial hf7 (by kernel_rfl) (by kernel_rfl) (.cell (hS3.box (i := 0) rfl (j := 0) rfl) (.cell (hS3.box (i := 0) rfl (j := 1) rfl) .nil)) fun a9 hf9 => ?_
    obtain ⟨r2, hd2, hr4⟩ := bind_some hr3
    refine p_call (i := 1) (d := some 12) (f := 52) (args := #[.agg #[vI x1_lo, vI x1_hi]]) hf9 (by kernel_rfl) (f52_ok fuel x1_lo x1_hi r2 hd2 z1 _ _ hS3 ) ?_
    rintro v2 ww4 a10 ⟨z2, k2, rfl, hS4⟩ hf10
    refine ⟨fun _ => trivial, ?_⟩
    refine p_run 1 [] [4] (fl' := [(4, vI r2)]) (obs := []) trivial hf10 (by kernel_rfl) (by kernel_rfl) .nil fun a11 hf11 => ?_
    refine p_done (by kernel_rfl) ?_
    refine n_then ?_
    refine w_ret (by kernel_rfl) ?_
    refine p_ret (os := []) (v := vI r2) (obs := []) hf11 (by kernel_rfl) .nil ?_
    obtain rfl := some_eq hr4
    exact ⟨_, rfl, z2, (Zone.le_trans k1 k2), rfl, (St.drop 2 hS4)⟩
def F39_j1 (y1 : Int) (y2 : Int) (y3 : Int) : Option (Int × Int × Int) :=
  (some (y1, y2, y3))
def F39_j2 (k1 : Int → Int → Bool → Bool → Int → Option (Int × Int × Int)) (y4 : Int) (y5 : Int) (y6 : Int) (y7 : Bool) (y8 : Bool) : Option (Int × Int × Int) :=
  (k1 y5 y6 y7 y8 (w64 (y4 + (1 : Int))))
def F39_j4 (k1 : Int → Int → Bool → Bool → Int → Option (Int × Int × Int)) (p1 : Int) (y9 : Bool) (y4 : Int) (p2 : Int) (y10 : Int) (y11 : Int) (y12 : Bool) : Option (Int × Int × Int) :=
  (F39_j2 k1 y4 (if (w64 (p1 * p2)) < y10 then (w64 (p1 * p2)) else y10) (if (w64 (p1 * p2)) > y11 then (w64 (p1 * p2)) else y11) y12 y9)
def F39_j3 (k1 : Int → Int → Bool → Bool → Int → Option (Int × Int × Int)) (p1 : Int) (y13 : Int) (y14 : Int) (y15 : Bool) (y9 : Bool) (y4 : Int) (p2 : Int) (y16 : Bool) : Option (Int × Int × Int) :=
  (cond y16 (F39_j2 k1 y4 y13 y14 y15 true) (cond (!y15) (F39_j4 k1 p1 y9 y4 p2 (w64 (p1 * p2)) (w64 (p1 * p2)) true) (F39_j4 k1 p1 y9 y4 p2 y13 y14 y15)))
def F39_l2 (k2 : Int → Int → Bool → Bool → Int → Option (Int × Int × Int)) (x1_lo : Int) (x1_hi : Int) (y17 : Int) (p1 : Int) : Nat → Int → Int → Bool → Bool → Int → Option (Int × Int × Int)
  | 0, _, _, _, _, _ => none
  | n1 + 1, y13, y14, y15, y9, y4 =>
    let k1 : Int → Int → Bool → Bool → Int → Option (Int × Int × Int) := F39_l2 k2 x1_lo x1_hi y17 p1 n1
    (cond (decide (y4 < (2 : Int))) ((getI ([(x1_lo : Int), (x1_hi : Int)]) y4).bind fun p2 => (cond (p1 != (0 : Int)) ((nz (if (w64 (0 - p1)) > p1 then (w64 (0 - p1)) else p1)).bind fun _ => (F39_j3 k1 p1 y13 y14 y15 y9 y4 p2 (decide ((if (w64 (0 - p2)) > p2 then (w64 (0 - p2)) else p2) > (w64 (Int.tdiv 1000000000000000 (if (w64 (0 - p1)) > p1 then (w64 (0 - p1)) else p1))))))) (F39_j3 k1 p1 y13 y14 y15 y9 y4 p2 false))) (k2 y13 y14 y15 y9 (w64 (y17 + (1 : Int)))))
def F39_j5 (y18 : Int) (y19 : Int) (y20 : Int) : Option (Int × Int × Int) :=
  (F39_j1 y18 y19 y20)
def F39_j6 (y21 : Int) (y22 : Int) (y23 : Bool) : Option (Int × Int × Int) :=
  (cond y23 (F39_j5 0 0 5) (F39_j5 y21 y22 0))
def F39_l1 (fuel : Nat) (x0_lo : Int) (x0_hi : Int) (x1_lo : Int) (x1_hi : Int) : Nat → Int → Int → Bool → Bool → Int → Option (Int × Int × Int)
  | 0, _, _, _, _, _ => none
  | n2 + 1, y21, y22, y24, y25, y17 =>
    let k2 : Int → Int → Bool → Bool → Int → Option (Int × Int × Int) := F39_l1 fuel x0_lo x0_hi x1_lo x1_hi n2
    (cond (decide (y17 < (2 : Int))) ((getI ([(x0_lo : Int), (x0_hi : Int)]) y17).bind fun p1 => (F39_l2 k2 x1_lo x1_hi y17 p1 fuel y21 y22 y24 y25 0)) (cond y25 (F39_j6 y21 y22 true) ((F52 fuel y21 y22).bind fun r1 => (F39_j6 y21 y22 (r1 != (0 : Int))))))
def F39 (fuel : Nat) (x0_lo : Int) (x0_hi : Int) (x1_lo : Int) (x1_hi : Int) : Option (Int × Int × Int) :=
  ((F106 fuel x0_lo x0_hi x1_lo x1_hi).bind fun r2 => (cond (r2 != (0 : Int)) (F39_j1 0 0 r2) (F39_l1 fuel x0_lo x0_hi x1_lo x1_hi fuel 0 0 false false 0)))
set_option maxRecDepth 100000 in
theorem f39_ok (fuel : Nat) (x0_lo : Int) (x0_hi : Int) (x1_lo : Int) (x1_hi : Int) (r : Int × Int × Int) (hr : F39 fuel x0_lo x0_hi x1_lo x1_hi = some r) (h : Zone) (L : List Atom) (w : World) (hS : St h L w)  :
    Calls Try.prog 39 #[.agg #[vI x0_lo, vI x0_hi], .agg #[vI x1_lo, vI x1_hi]] w fun e w' => ∃ v, e = .returned v ∧ (∃ h', Zone.le h h' ∧ v = .tuple #[.agg #[vI r.1, vI r.2.1], vI r.2.2] ∧ St h' L w') := by
  refine calls_intro (N := 11) Try.func39 (by kernel_rfl) fun a hf => ?_
  refine w_seq (by kernel_rfl) ?_
  refine w_reg (by kernel_rfl) ?_
  refine p_box (i := 0) (d := (some 2)) (cs := [vI x0_lo, vI x0_hi]) (T := 41) (v := fun b1 => pB b1 0) hS hf (fun b => by kernel_rfl) fun b1 ww1 a1 hS1 hf1 => ⟨fun _ => trivial, ?_⟩
  refine p_box (i := 1) (d := (some 3)) (cs := [vI x1_lo, vI x1_hi]) (T := 41) (v := fun b2 => pB b2 0) hS1 hf1 (fun b => by kernel_rfl) fun b2 ww2 a2 hS2 hf2 => ⟨fun _ => trivial, ?_⟩
  refine p_box (i := 2) (d := (some 4)) (cs := [vI 0, vI 0]) (T := 41) (v := fun b3 => pB b3 0) hS2 hf2 (fun b => by kernel_rfl) fun b3 ww3 a3 hS3 hf3 => ⟨fun _ => trivial, ?_⟩
  refine p_run 1 [] [2, 3, 4] (fl' := [(2, pB b1 0), (3, pB b2 0), (4, pB b3 0)]) (obs := []) trivial hf3 (by kernel_rfl) (by kernel_rfl) .nil fun a4 hf4 => ?_
  refine p_done (by kernel_rfl) ?_
  refine n_then ?_
  refine w_seq (by kernel_rfl) ?_
  refine w_reg (by kernel_rfl) ?_
  refine p_run 2 [vI x0_lo, vI x0_hi, vI x1_lo, vI x1_hi] [4, 6, 7] (fl' := [(4, pB b3 0), (6, .agg #[vI x0_lo, vI x0_hi]), (7, .agg #[vI x1_lo, vI x1_hi])]) (obs := [.cell ⟨b1, 0, none⟩ (vI x0_lo), .cell ⟨b1, 1, none⟩ (vI x0_hi), .cell ⟨b2, 0, none⟩ (vI x1_lo), .cell ⟨b2, 1, none⟩ (vI x1_hi)]) trivial hf4 (by kernel_rfl) (by kernel_rfl) (.cell (hS3.box (i := 2) rfl (j := 0) rfl) (.cell (hS3.box (i := 2) rfl (j := 1) rfl) (.cell (hS3.box (i := 1) rfl (j := 0) rfl) (.cell (hS3.box (i := 1) rfl (j := 1) rfl) .nil)))) fun a5 hf5 => ?_
  refine p_call (i := 2) (d := some 8) (f := 101) (args := #[.agg #[vI x0_lo, vI x0_hi], .agg #[vI x1_lo, vI x1_hi], .func (.func 104) #[] #[]]) hf5 (by kernel_rfl) (Φ := fun v w => ∃ z1 : Zone, ∃ y1 : Int, ∃ y2 : Int, ∃ y3 : Int, Zone.le h z1 ∧ v = .tuple #[.agg #[vI y1, vI y2], vI y3] ∧ St z1 (box b3 [vI 0, vI 0] 41 :: box b2 [vI x1_lo, vI x1_hi] 41 :: box b1 [vI x0_lo, vI x0_hi] 41 :: L) w ∧ (F39_j1 y1 y2 y3) = some r) ?_ ?_
  · refine calls_intro (N := 46) Try.func101 (by kernel_rfl) fun a6 hf6 => ?_
    refine w_seq (by kernel_rfl) ?_
    refine w_reg (by kernel_rfl) ?_
    refine p_box (i := 0) (d := (some 3)) (cs := [vI x0_lo, vI x0_hi]) (T := 41) (v := fun b4 => pB b4 0) hS3 hf6 (fun b => by kernel_rfl) fun b4 ww4 a7 hS4 hf7 => ⟨fun _ => trivial, ?_⟩
    refine p_box (i := 1) (d := (some 4)) (cs := [vI x1_lo, vI x1_hi]) (T := 41) (v := fun b5 => pB b5 0) hS4 hf7 (fun b => by kernel_rfl) fun b5 ww5 a8 hS5 hf8 => ⟨fun _ => trivial, ?_⟩
    refine p_box (i := 2) (d := (some 6)) (cs := [vI 0, vI 0]) (T := 41) (v := fun b6 => pB b6 0) hS5 hf8 (fun b => by kernel_rfl) fun b6 ww6 a9 hS6 hf9 => ⟨fun _ => trivial, ?_⟩
    refine p_run 1 [] [2, 3, 4, 6] (fl' := [(2, .func (.func 104) #[] #[]), (3, pB b4 0), (4, pB b5 0), (6, pB b6 0)]) (obs := []) trivial hf9 (by kernel_rfl) (by kernel_rfl) .nil fun a10 hf10 => ?_
    refine p_done (by kernel_rfl) ?_
    refine n_then ?_
    refine w_seq (by kernel_rfl) ?_
    refine w_seq (by kernel_rfl) ?_
    refine w_reg (by kernel_rfl) ?_
    refine p_run 2 [vI x0_lo, vI x0_hi, vI x1_lo, vI x1_hi] [2, 3, 4, 6, 14, 15] (fl' := [(2, .func (.func 104) #[] #[]), (3, pB b4 0), (4, pB b5 0), (6, pB b6 0), (14, .agg #[vI x0_lo, vI x0_hi]), (15, .agg #[vI x1_lo, vI x1_hi])]) (obs := [.cell ⟨b4, 0, none⟩ (vI x0_lo), .cell ⟨b4, 1, none⟩ (vI x0_hi), .cell ⟨b5, 0, none⟩ (vI x1_lo), .cell ⟨b5, 1, none⟩ (vI x1_hi)]) trivial hf10 (by kernel_rfl) (by kernel_rfl) (.cell (hS6.box (i := 2) rfl (j := 0) rfl) (.cell (hS6.box (i := 2) rfl (j := 1) rfl) (.cell (hS6.box (i := 1) rfl (j := 0) rfl) (.cell (hS6.box (i := 1) rfl (j := 1) rfl) .nil)))) fun a11 hf11 => ?_
    obtain ⟨r2, hd1, hr1⟩ := bind_some hr
    refine p_call (i := 2) (d := some 16) (f := 106) (args := #[.agg #[vI x0_lo, vI x0_hi], .agg #[vI x1_lo, vI x1_hi]]) hf11 (by kernel_rfl) (f106_ok fuel x0_lo x0_hi x1_lo x1_hi r2 hd1 h _ _ hS6 ) ?_
    rintro v1 ww7 a12 ⟨z2, k3, rfl, hS7⟩ hf12
    refine ⟨fun _ => trivial, ?_⟩
    refine p_run 1 [] [2, 3, 4, 6, 8] (fl' := [(2, .func (.func 104) #[] #[]), (3, pB b4 0), (4, pB b5 0), (6, pB b6 0), (8, vI r2)]) (obs := []) trivial hf12 (by kernel_rfl) (by kernel_rfl) .nil fun a13 hf13 => ?_
    refine p_done (by kernel_rfl) ?_
    refine n_then ?_
    refine w_seq (by kernel_rfl) ?_
    refine w_reg (by kernel_rfl) ?_
    refine p_run 2 [] [2, 3, 4, 6, 8, 18] (fl' := [(2, .func (.func 104) #[] #[]), (3, pB b4 0), (4, pB b5 0), (6, pB b6 0), (8, vI r2), (18, .bool (r2 != (0 : Int)))]) (obs := []) trivial hf13 (by kernel_rfl) (by kernel_rfl) .nil fun a14 hf14 => ?_
    refine p_done (by kernel_rfl) ?_
    refine n_then ?_
    refine w_if hf14 (b := (r2 != (0 : Int))) (by kernel_rfl) (fun hb1 => ?_) (fun hb1 => ?_)
    · have hr2 := cond_t hb1 hr1
      refine w_seq (by kernel_rfl) ?_
      refine w_reg (by kernel_rfl) ?_
      refine p_run 2 [] [6, 19, 20] (fl' := [(6, pB b6 0), (19, .agg #[vI 0, vI 0]), (20, vI r2)]) (obs := []) trivial hf14 (by kernel_rfl) (by kernel_rfl) .nil fun a15 hf15 => ?_
      refine p_store_eq (i := 2) (j := 0) (b := b6) (off := 0) (vs := [vI 0, vI 0]) (cs' := [vI 0, vI 0]) hS7 hf15 rfl (by kernel_rfl) (by kernel_rfl) rfl fun ww8 a16 hS8 hf16 => ⟨fun _ => trivial, ?_⟩
      refine p_run 1 [] [6, 7] (fl' := [(6, pB b6 0), (7, vI r2)]) (obs := []) trivial hf16 (by kernel_rfl) (by kernel_rfl) .nil fun a17 hf17 => ?_
      refine p_done (by kernel_rfl) ?_
      refine n_then ?_
      refine w_ret (by kernel_rfl) ?_
      refine r_then ?_
      refine p_ret (os := [vI 0, vI 0]) (v := .tuple #[.agg #[vI 0, vI 0], vI r2]) (obs := [.cell ⟨b6, 0, none⟩ (vI 0), .cell ⟨b6, 1, none⟩ (vI 0)]) hf17 (by kernel_rfl) (.cell (hS8.box (i := 0) rfl (j := 0) rfl) (.cell (hS8.box (i := 0) rfl (j := 1) rfl) .nil)) ?_
      exact ⟨_, rfl, z2, 0, 0, r2, k3, rfl, (St.drop 3 hS8), hr2⟩
    · have hr3 := cond_f hb1 hr1
      refine w_skip (by kernel_rfl) ?_
      refine n_then ?_
      refine w_seq (by kernel_rfl) ?_
      refine w_reg (by kernel_rfl) ?_
      refine p_box (i := 0) (d := (some 9)) (cs := [vI 0, vI 0, .bool false, .bool false]) (T := 100) (v := fun b7 => pB b7 0) hS7 hf14 (fun b => by kernel_rfl) fun b7 ww9 a18 hS9 hf18 => ⟨fun _ => trivial, ?_⟩
      refine p_done (by kernel_rfl) ?_
      refine n_then ?_
      refine w_seq (by kernel_rfl) ?_
      refine w_seq (by kernel_rfl) ?_
      refine w_reg (by kernel_rfl) ?_
      refine p_run 6 [vI x0_lo, vI x0_hi] [2, 4, 6, 9, 25, 26] (fl' := [(2, .func (.func 104) #[] #[]), (4, pB b5 0), (6, pB b6 0), (9, pB b7 0), (25, .agg #[vI x0_lo, vI x0_hi]), (26, vI 0)]) (obs := [.cell ⟨b4, 0, none⟩ (vI x0_lo), .cell ⟨b4, 1, none⟩ (vI x0_hi)]) trivial hf18 (by kernel_rfl) (by kernel_rfl) (.cell (hS9.box (i := 3) rfl (j := 0) rfl) (.cell (hS9.box (i := 3) rfl (j := 1) rfl) .nil)) fun a19 hf19 => ?_
      refine p_done (by kernel_rfl) ?_
      refine n_then ?_
      refine w_block (id := 0) (by kernel_rfl) ?_
      have hf20 := Fr.keep (ks := [2, 4, 6, 9, 25, 26]) (r := [(2, .func (.func 104) #[] #[]), (4, pB b5 0), (6, pB b6 0), (9, pB b7 0), (25, .agg #[vI x0_lo, vI x0_hi]), (26, vI 0)]) hf19 (by kernel_rfl)
      refine w_loop (by kernel_rfl) (fun n a w => ∃ z3 : Zone, ∃ y21 : Int, ∃ y22 : Int, ∃ y24 : Bool, ∃ y25 : Bool, ∃ y17 : Int, Zone.le z2 z3 ∧ Fr a 46 [(2, .func (.func 104) #[] #[]), (4, pB b5 0), (6, pB b6 0), (9, pB b7 0), (25, .agg #[vI x0_lo, vI x0_hi]), (26, vI y17)] ∧ St z3 (box b7 [vI y21, vI y22, .bool y24, .bool y25] 100 :: box b6 [vI 0, vI 0] 41 :: box b5 [vI x1_lo, vI x1_hi] 41 :: box b4 [vI x0_lo, vI x0_hi] 41 :: box b3 [vI 0, vI 0] 41 :: box b2 [vI x1_lo, vI x1_hi] 41 :: box b1 [vI x0_lo, vI x0_hi] 41 :: L) w ∧ (F39_l1 fuel x0_lo x0_hi x1_lo x1_hi n y21 y22 y24 y25 y17) = some r) fuel ⟨z2, 0, 0, false, false, 0, (Zone.le_refl _), hf20, hS9, hr3⟩ ?_
      rintro n3 a20 ww10 ⟨z3, y21, y22, y24, y25, y17, k4, hf21, hS10, hr4⟩
      cases n3 with
      | zero => cases hr4
      | succ n2 =>
      refine w_seq (by kernel_rfl) ?_
      refine w_reg (by kernel_rfl) ?_
      refine p_run 1 [] [2, 4, 6, 9, 25, 26, 27] (fl' := [(2, .func (.func 104) #[] #[]), (4, pB b5 0), (6, pB b6 0), (9, pB b7 0), (25, .agg #[vI x0_lo, vI x0_hi]), (26, vI y17), (27, .bool (decide (y17 < (2 : Int))))]) (obs := []) trivial hf21 (by kernel_rfl) (by kernel_rfl) .nil fun a21 hf22 => ?_
      refine p_done (by kernel_rfl) ?_
      refine n_then ?_
      refine w_seq (by kernel_rfl) ?_
      refine w_if hf22 (b := (decide (y17 < (2 : Int)))) (by kernel_rfl) (fun hb2 => ?_) (fun hb2 => ?_)
      · have hr5 := cond_t hb2 hr4
        refine w_skip (by kernel_rfl) ?_
        refine n_then ?_
        refine w_seq (by kernel_rfl) ?_
        refine w_block (id := 1) (by kernel_rfl) ?_
        refine w_seq (by kernel_rfl) ?_
        refine w_reg (by kernel_rfl) ?_
        obtain ⟨p1, hp104174, hr6⟩ := bind_some hr5
        obtain ⟨hb3, hk1⟩ := getI_idx (f := Value.int .i64) (n := 2) rfl hp104174
        refine p_run 2 [vI p1] [2, 4, 6, 9, 11, 25, 26] (fl' := [(2, .func (.func 104) #[] #[]), (4, pB b5 0), (6, pB b6 0), (9, pB b7 0), (11, vI p1), (25, .agg #[vI x0_lo, vI x0_hi]), (26, vI y17)]) (obs := [.prop (0 ≤ y17 ∧ y17 < (2 : Nat)), .prop ((#[vI x0_lo, vI x0_hi] : Array Value)[Int.toNat y17 * 1]? = some (vI p1))]) trivial hf22 (by kernel_rfl) (by kernel_rfl) (.prop hb3 (.prop hk1 .nil)) fun a22 hf23 => ?_
        refine p_done (by kernel_rfl) ?_
        refine n_then ?_
        refine w_seq (by kernel_rfl) ?_
        refine w_reg (by kernel_rfl) ?_
        refine p_run 6 [vI x1_lo, vI x1_hi] [2, 4, 6, 9, 11, 25, 26, 33, 34] (fl' := [(2, .func (.func 104) #[] #[]), (4, pB b5 0), (6, pB b6 0), (9, pB b7 0), (11, vI p1), (25, .agg #[vI x0_lo, vI x0_hi]), (26, vI y17), (33, .agg #[vI x1_lo, vI x1_hi]), (34, vI 0)]) (obs := [.cell ⟨b5, 0, none⟩ (vI x1_lo), .cell ⟨b5, 1, none⟩ (vI x1_hi)]) trivial hf23 (by kernel_rfl) (by kernel_rfl) (.cell (hS10.box (i := 2) rfl (j := 0) rfl) (.cell (hS10.box (i := 2) rfl (j := 1) rfl) .nil)) fun a23 hf24 => ?_
        refine p_done (by kernel_rfl) ?_
        refine n_then ?_
        refine w_block (id := 2) (by kernel_rfl) ?_
        have hf25 := Fr.keep (ks := [2, 4, 6, 9, 11, 25, 26, 33, 34]) (r := [(2, .func (.func 104) #[] #[]), (4, pB b5 0), (6, pB b6 0), (9, pB b7 0), (11, vI p1), (25, .agg #[vI x0_lo, vI x0_hi]), (26, vI y17), (33, .agg #[vI x1_lo, vI x1_hi]), (34, vI 0)]) hf24 (by kernel_rfl)
        refine w_loop (by kernel_rfl) (fun n a w => ∃ z4 : Zone, ∃ y13 : Int, ∃ y14 : Int, ∃ y15 : Bool, ∃ y9 : Bool, ∃ y4 : Int, Zone.le z3 z4 ∧ Fr a 46 [(2, .func (.func 104) #[] #[]), (4, pB b5 0), (6, pB b6 0), (9, pB b7 0), (11, vI p1), (25, .agg #[vI x0_lo, vI x0_hi]), (26, vI y17), (33, .agg #[vI x1_lo, vI x1_hi]), (34, vI y4)] ∧ St z4 (box b7 [vI y13, vI y14, .bool y15, .bool y9] 100 :: box b6 [vI 0, vI 0] 41 :: box b5 [vI x1_lo, vI x1_hi] 41 :: box b4 [vI x0_lo, vI x0_hi] 41 :: box b3 [vI 0, vI 0] 41 :: box b2 [vI x1_lo, vI x1_hi] 41 :: box b1 [vI x0_lo, vI x0_hi] 41 :: L) w ∧ (F39_l2 (F39_l1 fuel x0_lo x0_hi x1_lo x1_hi n2) x1_lo x1_hi y17 p1 n y13 y14 y15 y9 y4) = some r) fuel ⟨z3, y21, y22, y24, y25, 0, (Zone.le_refl _), hf25, hS10, hr6⟩ ?_
        rintro n4 a24 ww11 ⟨z4, y13, y14, y15, y9, y4, k5, hf26, hS11, hr7⟩
        cases n4 with
        | zero => cases hr7
        | succ n1 =>
        refine w_seq (by kernel_rfl) ?_
        refine w_reg (by kernel_rfl) ?_
        refine p_run 1 [] [2, 4, 6, 9, 11, 25, 26, 33, 34, 35] (fl' := [(2, .func (.func 104) #[] #[]), (4, pB b5 0), (6, pB b6 0), (9, pB b7 0), (11, vI p1), (25, .agg #[vI x0_lo, vI x0_hi]), (26, vI y17), (33, .agg #[vI x1_lo, vI x1_hi]), (34, vI y4), (35, .bool (decide (y4 < (2 : Int))))]) (obs := []) trivial hf26 (by kernel_rfl) (by kernel_rfl) .nil fun a25 hf27 => ?_
        refine p_done (by kernel_rfl) ?_
        refine n_then ?_
        refine w_seq (by kernel_rfl) ?_
        refine w_if hf27 (b := (decide (y4 < (2 : Int)))) (by kernel_rfl) (fun hb4 => ?_) (fun hb4 => ?_)
        · have hr8 := cond_t hb4 hr7
          refine w_skip (by kernel_rfl) ?_
          refine n_then ?_
          refine w_seq (by kernel_rfl) ?_
          refine w_block (id := 3) (by kernel_rfl) ?_
          refine w_seq (by kernel_rfl) ?_
          refine w_reg (by kernel_rfl) ?_
          obtain ⟨p2, hp107176, hr9⟩ := bind_some hr8
          obtain ⟨hb5, hk2⟩ := getI_idx (f := Value.int .i64) (n := 2) rfl hp107176
          refine p_run 2 [vI p2] [2, 4, 6, 9, 11, 13, 25, 26, 33, 34] (fl' := [(2, .func (.func 104) #[] #[]), (4, pB b5 0), (6, pB b6 0), (9, pB b7 0), (11, vI p1), (13, vI p2), (25, .agg #[vI x0_lo, vI x0_hi]), (26, vI y17), (33, .agg #[vI x1_lo, vI x1_hi]), (34, vI y4)]) (obs := [.prop (0 ≤ y4 ∧ y4 < (2 : Nat)), .prop ((#[vI x1_lo, vI x1_hi] : Array Value)[Int.toNat y4 * 1]? = some (vI p2))]) trivial hf27 (by kernel_rfl) (by kernel_rfl) (.prop hb5 (.prop hk2 .nil)) fun a26 hf28 => ?_
          refine p_done (by kernel_rfl) ?_
          refine n_then ?_
          refine w_reg (by kernel_rfl) ?_
          refine p_run 3 [] [2, 4, 6, 9, 11, 25, 26, 33, 34, 37, 38, 39] (fl' := [(2, .func (.func 104) #[] #[]), (4, pB b5 0), (6, pB b6 0), (9, pB b7 0), (11, vI p1), (25, .agg #[vI x0_lo, vI x0_hi]), (26, vI y17), (33, .agg #[vI x1_lo, vI x1_hi]), (34, vI y4), (37, .func (.func 104) #[] #[]), (38, vI p1), (39, vI p2)]) (obs := []) trivial hf28 (by kernel_rfl) (by kernel_rfl) .nil fun a27 hf29 => ?_
          refine p_call (i := 3) (d := some 40) (f := 104) (args := #[pB b7 0, vI p1, vI p2]) hf29 (by kernel_rfl) (Φ := fun v w => ∃ z5 : Zone, ∃ y5 : Int, ∃ y6 : Int, ∃ y7 : Bool, ∃ y8 : Bool, Zone.le z4 z5 ∧ v = .tuple #[] ∧ St z5 (box b7 [vI y5, vI y6, .bool y7, .bool y8] 100 :: box b6 [vI 0, vI 0] 41 :: box b5 [vI x1_lo, vI x1_hi] 41 :: box b4 [vI x0_lo, vI x0_hi] 41 :: box b3 [vI 0, vI 0] 41 :: box b2 [vI x1_lo, vI x1_hi] 41 :: box b1 [vI x0_lo, vI x0_hi] 41 :: L) w ∧ (F39_j2 (F39_l2 (F39_l1 fuel x0_lo x0_hi x1_lo x1_hi n2) x1_lo x1_hi y17 p1 n1) y4 y5 y6 y7 y8) = some r) ?_ ?_
          · refine calls_intro (N := 28) Try.func104 (by kernel_rfl) fun a28 hf30 => ?_
            refine w_seq (by kernel_rfl) ?_
            refine w_mid (by kernel_rfl) (fun a w => ∃ z6 : Zone, ∃ y16 : Bool, Zone.le z4 z6 ∧ Fr a 28 [(0, pB b7 0), (1, vI p1), (2, vI p2), (19, .bool y16)] ∧ St z6 (box b7 [vI y13, vI y14, .bool y15, .bool y9] 100 :: box b6 [vI 0, vI 0] 41 :: box b5 [vI x1_lo, vI x1_hi] 41 :: box b4 [vI x0_lo, vI x0_hi] 41 :: box b3 [vI 0, vI 0] 41 :: box b2 [vI x1_lo, vI x1_hi] 41 :: box b1 [vI x0_lo, vI x0_hi] 41 :: L) w ∧ (F39_j3 (F39_l2 (F39_l1 fuel x0_lo x0_hi x1_lo x1_hi n2) x1_lo x1_hi y17 p1 n1) p1 y13 y14 y15 y9 y4 p2 y16) = some r) ?_ ?_
            · skip
              refine w_reg (by kernel_rfl) ?_
              refine p_run 3 [] [0, 1, 2, 8] (fl' := [(0, pB b7 0), (1, vI p1), (2, vI p2), (8, .bool (p1 != (0 : Int)))]) (obs := []) trivial hf30 (by kernel_rfl) (by kernel_rfl) .nil fun a29 hf31 => ?_
              rcases Bool.eq_false_or_eq_true (p1 != (0 : Int)) with hb6 | hb6
              · have hr10 := cond_t hb6 hr9
                have hf32 := Fr.conv hf31 (congrArg (fun z => ([(0, pB b7 0), (1, vI p1), (2, vI p2), (8, .bool z)] : FL)) hb6)
                obtain ⟨u1, hd2, hr11⟩ := bind_some hr10
                refine p_run 11 [] [0, 1, 2, 19] (fl' := [(0, pB b7 0), (1, vI p1), (2, vI p2), (19, .bool (decide ((if (w64 (0 - p2)) > p2 then (w64 (0 - p2)) else p2) > (w64 (Int.tdiv 1000000000000000 (if (w64 (0 - p1)) > p1 then (w64 (0 - p1)) else p1))))))]) (obs := [.prop ((if (w64 (0 - p1)) > p1 then (w64 (0 - p1)) else p1) ≠ 0)]) trivial hf32 (by kernel_rfl) (by kernel_rfl) (.prop (nz_spec hd2) .nil) fun a30 hf33 => ?_
                refine p_done (by kernel_rfl) ?_
                refine n_then ?_
                have hf34 := Fr.keep (ks := [0, 1, 2, 19]) (r := [(0, pB b7 0), (1, vI p1), (2, vI p2), (19, .bool (decide ((if (w64 (0 - p2)) > p2 then (w64 (0 - p2)) else p2) > (w64 (Int.tdiv 1000000000000000 (if (w64 (0 - p1)) > p1 then (w64 (0 - p1)) else p1))))))]) hf33 (by kernel_rfl)
                exact ⟨z4, (decide ((if (w64 (0 - p2)) > p2 then (w64 (0 - p2)) else p2) > (w64 (Int.tdiv 1000000000000000 (if (w64 (0 - p1)) > p1 then (w64 (0 - p1)) else p1))))), (Zone.le_refl _), hf34, hS11, hr11⟩
              · have hr12 := cond_f hb6 hr9
                have hf35 := Fr.conv hf31 (congrArg (fun z => ([(0, pB b7 0), (1, vI p1), (2, vI p2), (8, .bool z)] : FL)) hb6)
                refine p_run 11 [] [0, 1, 2, 19] (fl' := [(0, pB b7 0), (1, vI p1), (2, vI p2), (19, .bool false)]) (obs := []) trivial hf35 (by kernel_rfl) (by kernel_rfl) .nil fun a31 hf36 => ?_
                refine p_done (by kernel_rfl) ?_
                refine n_then ?_
                have hf37 := Fr.keep (ks := [0, 1, 2, 19]) (r := [(0, pB b7 0), (1, vI p1), (2, vI p2), (19, .bool false)]) hf36 (by kernel_rfl)
                exact ⟨z4, false, (Zone.le_refl _), hf37, hS11, hr12⟩
            · rintro a32 ww12 ⟨z6, y16, k6, hf38, hS12, hr13⟩
              refine w_if hf38 (b := y16) (by kernel_rfl) (fun hb7 => ?_) (fun hb7 => ?_)
              · have hr14 := cond_t hb7 hr13
                refine w_seq (by kernel_rfl) ?_
                refine w_reg (by kernel_rfl) ?_
                refine p_run 3 [] [22] (fl' := [(22, pB b7 3)]) (obs := []) trivial hf38 (by kernel_rfl) (by kernel_rfl) .nil fun a33 hf39 => ?_
                refine p_store_eq (i := 3) (j := 0) (b := b7) (off := 3) (vs := [.bool true]) (cs' := [vI y13, vI y14, .bool y15, .bool true]) hS12 hf39 rfl (by kernel_rfl) (by kernel_rfl) rfl fun ww13 a34 hS13 hf40 => ⟨fun _ => trivial, ?_⟩
                refine p_done (by kernel_rfl) ?_
                refine n_then ?_
                refine w_ret (by kernel_rfl) ?_
                refine r_then ?_
                refine p_ret (os := []) (v := .tuple #[]) (obs := []) hf40 (by kernel_rfl) .nil ?_
                exact ⟨_, rfl, z6, y13, y14, y15, true, k6, rfl, hS13, hr14⟩
              · have hr15 := cond_f hb7 hr13
                refine w_skip (by kernel_rfl) ?_
                refine n_then ?_
                refine w_reg (by kernel_rfl) ?_
                refine p_run 4 [] [23, 26] (fl' := [(23, pB b7 0), (26, vI (w64 (p1 * p2)))]) (obs := []) trivial hf38 (by kernel_rfl) (by kernel_rfl) .nil fun a35 hf41 => ?_
                refine p_inl (i := 4) (d := some 27) (f := 89) (args := #[pB b7 0, vI (w64 (p1 * p2))]) (N' := 36) hf41 (by kernel_rfl) Try.func89 (by kernel_rfl) fun a36 hf42 => ?_
                refine w_mid (by kernel_rfl) (fun a w => ∃ z7 : Zone, ∃ y10 : Int, ∃ y11 : Int, ∃ y12 : Bool, Zone.le z6 z7 ∧ Fr a 36 [(0, pB b7 0), (1, vI (w64 (p1 * p2)))] ∧ St z7 (box b7 [vI y10, vI y11, .bool y12, .bool y9] 100 :: box b6 [vI 0, vI 0] 41 :: box b5 [vI x1_lo, vI x1_hi] 41 :: box b4 [vI x0_lo, vI x0_hi] 41 :: box b3 [vI 0, vI 0] 41 :: box b2 [vI x1_lo, vI x1_hi] 41 :: box b1 [vI x0_lo, vI x0_hi] 41 :: L) w ∧ (F39_j4 (F39_l2 (F39_l1 fuel x0_lo x0_hi x1_lo x1_hi n2) x1_lo x1_hi y17 p1 n1) p1 y9 y4 p2 y10 y11 y12) = some r) ?_ ?_
                · skip
                  refine w_seq (by kernel_rfl) ?_
                  refine w_reg (by kernel_rfl) ?_
                  refine p_run 5 [.bool y15] [0, 1, 8] (fl' := [(0, pB b7 0), (1, vI (w64 (p1 * p2))), (8, .bool (!y15))]) (obs := [.cell ⟨b7, 2, none⟩ (.bool y15)]) trivial hf42 (by kernel_rfl) (by kernel_rfl) (.cell (hS12.box (i := 0) rfl (j := 2) rfl) .nil) fun a37 hf43 => ?_
                  refine p_done (by kernel_rfl) ?_
                  refine n_then ?_
                  refine w_if hf43 (b := (!y15)) (by kernel_rfl) (fun hb8 => ?_) (fun hb8 => ?_)
                  · have hr16 := cond_t hb8 hr15
                    refine w_reg (by kernel_rfl) ?_
                    refine p_run 7 [] [0, 1, 10, 13, 15] (fl' := [(0, pB b7 0), (1, vI (w64 (p1 * p2))), (10, pB b7 0), (13, .agg #[vI (w64 (p1 * p2)), vI (w64 (p1 * p2))]), (15, pB b7 0)]) (obs := []) trivial hf43 (by kernel_rfl) (by kernel_rfl) .nil fun a38 hf44 => ?_
                    refine p_store_eq (i := 7) (j := 0) (b := b7) (off := 0) (vs := [vI (w64 (p1 * p2)), vI (w64 (p1 * p2))]) (cs' := [vI (w64 (p1 * p2)), vI (w64 (p1 * p2)), .bool y15, .bool y9]) hS12 hf44 rfl (by kernel_rfl) (by kernel_rfl) rfl fun ww14 a39 hS14 hf45 => ⟨fun _ => trivial, ?_⟩
                    refine p_run 2 [] [0, 1, 17] (fl' := [(0, pB b7 0), (1, vI (w64 (p1 * p2))), (17, pB b7 2)]) (obs := []) trivial hf45 (by kernel_rfl) (by kernel_rfl) .nil fun a40 hf46 => ?_
                    refine p_store_eq (i := 10) (j := 0) (b := b7) (off := 2) (vs := [.bool true]) (cs' := [vI (w64 (p1 * p2)), vI (w64 (p1 * p2)), .bool true, .bool y9]) hS14 hf46 rfl (by kernel_rfl) (by kernel_rfl) rfl fun ww15 a41 hS15 hf47 => ⟨fun _ => trivial, ?_⟩
                    refine p_done (by kernel_rfl) ?_
                    refine n_then ?_
                    have hf48 := Fr.keep (ks := [0, 1]) (r := [(0, pB b7 0), (1, vI (w64 (p1 * p2)))]) hf47 (by kernel_rfl)
                    exact ⟨z6, (w64 (p1 * p2)), (w64 (p1 * p2)), true, (Zone.le_refl _), hf48, hS15, hr16⟩
                  · have hr17 := cond_f hb8 hr15
                    refine w_skip (by kernel_rfl) ?_
                    refine n_then ?_
                    have hf49 := Fr.keep (ks := [0, 1]) (r := [(0, pB b7 0), (1, vI (w64 (p1 * p2)))]) hf43 (by kernel_rfl)
                    exact ⟨z6, y13, y14, y15, (Zone.le_refl _), hf49, hS12, hr17⟩
                · rintro a42 ww16 ⟨z7, y10, y11, y12, k7, hf50, hS16, hr18⟩
                  have hS17 := hS16.drew
                  refine w_regD (by kernel_rfl) [(0, true), (1, true), (2, true), (3, true), (4, true), (5, true), (6, true), (7, true), (8, true), (9, true), (10, true), (11, true), (12, true), (13, true), (14, true), (15, true), (16, true), (17, true), (18, false)] [18] (fun x => x = ww16.drew) (by kernel_rfl) rfl ?_
                  refine p_firstP 5 [] [0, 1, 18, 22] (fl' := [(0, pB b7 0), (1, vI (w64 (p1 * p2))), (18, pB b7 0), (22, pB b7 0)]) (obs := []) hf50 (by kernel_rfl) (by kernel_rfl) (fun _ => .nil) fun a43 hf51 => ?_
                  refine p_firstE 1 [vI y10] [0, 1, 18, 23] (fl' := [(0, pB b7 0), (1, vI (w64 (p1 * p2))), (18, pB b7 0), (23, vI y10)]) (obs := [.cell ⟨b7, 0, none⟩ (vI y10)]) (by kernel_rfl) hf51 (by kernel_rfl) (by kernel_rfl) (.cell (hS17.box (i := 0) rfl (j := 0) rfl) .nil) fun a44 hf52 => ?_
                  refine p_firstP 6 [] [1, 18, 25, 29] (fl' := [(1, vI (w64 (p1 * p2))), (18, pB b7 0), (25, vI (if (w64 (p1 * p2)) < y10 then (w64 (p1 * p2)) else y10)), (29, pB b7 1)]) (obs := []) hf52 (by kernel_rfl) (by kernel_rfl) (fun _ => .nil) fun a45 hf53 => ?_
                  refine p_firstE 1 [vI y11] [1, 18, 25, 30] (fl' := [(1, vI (w64 (p1 * p2))), (18, pB b7 0), (25, vI (if (w64 (p1 * p2)) < y10 then (w64 (p1 * p2)) else y10)), (30, vI y11)]) (obs := [.cell ⟨b7, 1, none⟩ (vI y11)]) (by kernel_rfl) hf53 (by kernel_rfl) (by kernel_rfl) (.cell (hS17.box (i := 0) rfl (j := 1) rfl) .nil) fun a46 hf54 => ?_
                  refine p_firstP 5 [] [33, 35] (fl' := [(33, .agg #[vI (if (w64 (p1 * p2)) < y10 then (w64 (p1 * p2)) else y10), vI (if (w64 (p1 * p2)) > y11 then (w64 (p1 * p2)) else y11)]), (35, pB b7 0)]) (obs := []) hf54 (by kernel_rfl) (by kernel_rfl) (fun _ => .nil) fun a47 hf55 => ?_
                  refine p_store_eq (i := 18) (j := 0) (b := b7) (off := 0) (vs := [vI (if (w64 (p1 * p2)) < y10 then (w64 (p1 * p2)) else y10), vI (if (w64 (p1 * p2)) > y11 then (w64 (p1 * p2)) else y11)]) (cs' := [vI (if (w64 (p1 * p2)) < y10 then (w64 (p1 * p2)) else y10), vI (if (w64 (p1 * p2)) > y11 then (w64 (p1 * p2)) else y11), .bool y12, .bool y9]) hS17 hf55 rfl (by kernel_rfl) (by kernel_rfl) rfl fun ww17 a48 hS18 hf56 => ⟨fun e => absurd e (by decide), ?_⟩
                  refine p_done (by kernel_rfl) ?_
                  refine p_fall (os := []) (v := .tuple #[]) (obs := []) hf56 (by kernel_rfl) .nil ?_
                  refine ⟨_, rfl, fun a49 hf57 => ?_⟩
                  refine ⟨fun _ => trivial, ?_⟩
                  refine p_done (by kernel_rfl) ?_
                  refine p_fall (os := []) (v := .tuple #[]) (obs := []) hf57 (by kernel_rfl) .nil ?_
                  exact ⟨_, rfl, z7, (if (w64 (p1 * p2)) < y10 then (w64 (p1 * p2)) else y10), (if (w64 (p1 * p2)) > y11 then (w64 (p1 * p2)) else y11), y12, y9, (Zone.le_trans k6 k7), rfl, hS18, hr18⟩
          · rintro v2 ww18 a50 ⟨z5, y5, y6, y7, y8, k8, rfl, hS19, hr19⟩ hf58
            refine ⟨fun _ => trivial, ?_⟩
            refine p_done (by kernel_rfl) ?_
            refine n_block ?_
            refine n_then ?_
            refine w_reg (by kernel_rfl) ?_
            refine p_run 2 [] [2, 4, 6, 9, 11, 25, 26, 33, 34] (fl' := [(2, .func (.func 104) #[] #[]), (4, pB b5 0), (6, pB b6 0), (9, pB b7 0), (11, vI p1), (25, .agg #[vI x0_lo, vI x0_hi]), (26, vI y17), (33, .agg #[vI x1_lo, vI x1_hi]), (34, vI (w64 (y4 + (1 : Int))))]) (obs := []) trivial hf58 (by kernel_rfl) (by kernel_rfl) .nil fun a51 hf59 => ?_
            refine p_done (by kernel_rfl) ?_
            refine n_then ?_
            have hf60 := Fr.keep (ks := [2, 4, 6, 9, 11, 25, 26, 33, 34]) (r := [(2, .func (.func 104) #[] #[]), (4, pB b5 0), (6, pB b6 0), (9, pB b7 0), (11, vI p1), (25, .agg #[vI x0_lo, vI x0_hi]), (26, vI y17), (33, .agg #[vI x1_lo, vI x1_hi]), (34, vI (w64 (y4 + (1 : Int))))]) hf59 (by kernel_rfl)
            exact ⟨n1, Nat.lt_succ_self n1, z5, y5, y6, y7, y8, (w64 (y4 + (1 : Int))), (Zone.le_trans k5 k8), hf60, hS19, hr19⟩
        · have hr20 := cond_f hb4 hr7
          refine w_exit (id := 2) (by kernel_rfl) ?_
          refine x_then ?_
          refine x_then ?_
          refine x_block ?_
          refine n_block ?_
          refine n_then ?_
          refine w_reg (by kernel_rfl) ?_
          refine p_run 2 [] [2, 4, 6, 9, 25, 26] (fl' := [(2, .func (.func 104) #[] #[]), (4, pB b5 0), (6, pB b6 0), (9, pB b7 0), (25, .agg #[vI x0_lo, vI x0_hi]), (26, vI (w64 (y17 + (1 : Int))))]) (obs := []) trivial hf27 (by kernel_rfl) (by kernel_rfl) .nil fun a52 hf61 => ?_
          refine p_done (by kernel_rfl) ?_
          refine n_then ?_
          have hf62 := Fr.keep (ks := [2, 4, 6, 9, 25, 26]) (r := [(2, .func (.func 104) #[] #[]), (4, pB b5 0), (6, pB b6 0), (9, pB b7 0), (25, .agg #[vI x0_lo, vI x0_hi]), (26, vI (w64 (y17 + (1 : Int))))]) hf61 (by kernel_rfl)
          exact ⟨n2, Nat.lt_succ_self n2, z4, y13, y14, y15, y9, (w64 (y17 + (1 : Int))), (Zone.le_trans k4 k5), hf62, hS11, hr20⟩
      · have hr21 := cond_f hb2 hr4
        refine w_exit (id := 0) (by kernel_rfl) ?_
        refine x_then ?_
        refine x_then ?_
        refine x_block ?_
        refine n_then ?_
        refine w_seq (by kernel_rfl) ?_
        refine w_reg (by kernel_rfl) ?_
        refine p_call (i := 0) (d := some 43) (f := 105) (args := #[pB b7 0]) hf22 (by kernel_rfl) (Φ := fun v w => ∃ z8 : Zone, ∃ y18 : Int, ∃ y19 : Int, ∃ y20 : Int, Zone.le z3 z8 ∧ v = .tuple #[.agg #[vI y18, vI y19], vI y20] ∧ St z8 (box b7 [vI y21, vI y22, .bool y24, .bool y25] 100 :: box b6 [vI 0, vI 0] 41 :: box b5 [vI x1_lo, vI x1_hi] 41 :: box b4 [vI x0_lo, vI x0_hi] 41 :: box b3 [vI 0, vI 0] 41 :: box b2 [vI x1_lo, vI x1_hi] 41 :: box b1 [vI x0_lo, vI x0_hi] 41 :: L) w ∧ (F39_j5 y18 y19 y20) = some r) ?_ ?_
        · refine calls_intro (N := 21) Try.func105 (by kernel_rfl) fun a53 hf63 => ?_
          refine w_seq (by kernel_rfl) ?_
          refine w_reg (by kernel_rfl) ?_
          refine p_box (i := 0) (d := (some 2)) (cs := [vI 0, vI 0]) (T := 41) (v := fun b8 => pB b8 0) hS10 hf63 (fun b => by kernel_rfl) fun b8 ww19 a54 hS20 hf64 => ⟨fun _ => trivial, ?_⟩
          refine p_run 1 [] [0, 2] (fl' := [(0, pB b7 0), (2, pB b8 0)]) (obs := []) trivial hf64 (by kernel_rfl) (by kernel_rfl) .nil fun a55 hf65 => ?_
          refine p_done (by kernel_rfl) ?_
          refine n_then ?_
          refine w_seq (by kernel_rfl) ?_
          refine w_mid (by kernel_rfl) (fun a w => ∃ z9 : Zone, ∃ y23 : Bool, Zone.le z3 z9 ∧ Fr a 21 [(0, pB b7 0), (2, pB b8 0), (15, .bool y23)] ∧ St z9 (box b8 [vI 0, vI 0] 41 :: box b7 [vI y21, vI y22, .bool y24, .bool y25] 100 :: box b6 [vI 0, vI 0] 41 :: box b5 [vI x1_lo, vI x1_hi] 41 :: box b4 [vI x0_lo, vI x0_hi] 41 :: box b3 [vI 0, vI 0] 41 :: box b2 [vI x1_lo, vI x1_hi] 41 :: box b1 [vI x0_lo, vI x0_hi] 41 :: L) w ∧ (F39_j6 y21 y22 y23) = some r) ?_ ?_
          · skip
            refine w_reg (by kernel_rfl) ?_
            refine p_run 5 [.bool y25] [0, 2, 8] (fl' := [(0, pB b7 0), (2, pB b8 0), (8, .bool y25)]) (obs := [.cell ⟨b7, 3, none⟩ (.bool y25)]) trivial hf65 (by kernel_rfl) (by kernel_rfl) (.cell (hS20.box (i := 1) rfl (j := 3) rfl) .nil) fun a56 hf66 => ?_
            rcases Bool.eq_false_or_eq_true y25 with hb9 | hb9
            · have hr22 := cond_t hb9 hr21
              have hf67 := Fr.conv hf66 (congrArg (fun z => ([(0, pB b7 0), (2, pB b8 0), (8, .bool z)] : FL)) hb9)
              refine p_run 4 [] [0, 2, 8, 12] (fl' := [(0, pB b7 0), (2, pB b8 0), (8, .bool true), (12, undef)]) (obs := []) trivial hf67 (by kernel_rfl) (by kernel_rfl) .nil fun a57 hf68 => ?_
              refine p_run 1 [] [0, 2, 8, 12, 13] (fl' := [(0, pB b7 0), (2, pB b8 0), (8, .bool true), (12, undef), (13, undef)]) (obs := []) trivial hf68 (by kernel_rfl) (by kernel_rfl) .nil fun a58 hf69 => ?_
              refine p_run 2 [] [0, 2, 15] (fl' := [(0, pB b7 0), (2, pB b8 0), (15, .bool true)]) (obs := []) trivial hf69 (by kernel_rfl) (by kernel_rfl) .nil fun a59 hf70 => ?_
              refine p_done (by kernel_rfl) ?_
              refine n_then ?_
              have hf71 := Fr.keep (ks := [0, 2, 15]) (r := [(0, pB b7 0), (2, pB b8 0), (15, .bool true)]) hf70 (by kernel_rfl)
              exact ⟨z3, true, (Zone.le_refl _), hf71, hS20, hr22⟩
            · have hr23 := cond_f hb9 hr21
              have hf72 := Fr.conv hf66 (congrArg (fun z => ([(0, pB b7 0), (2, pB b8 0), (8, .bool z)] : FL)) hb9)
              refine p_run 4 [vI y21, vI y22] [0, 2, 8, 12] (fl' := [(0, pB b7 0), (2, pB b8 0), (8, .bool false), (12, .agg #[vI y21, vI y22])]) (obs := [.cell ⟨b7, 0, none⟩ (vI y21), .cell ⟨b7, 1, none⟩ (vI y22)]) trivial hf72 (by kernel_rfl) (by kernel_rfl) (.cell (hS20.box (i := 1) rfl (j := 0) rfl) (.cell (hS20.box (i := 1) rfl (j := 1) rfl) .nil)) fun a60 hf73 => ?_
              obtain ⟨r1, hd3, hr24⟩ := bind_some hr23
              refine p_call (i := 9) (d := some 13) (f := 52) (args := #[.agg #[vI y21, vI y22]]) hf73 (by kernel_rfl) (f52_ok fuel y21 y22 r1 hd3 z3 _ _ hS20 ) ?_
              rintro v3 ww20 a61 ⟨z10, k9, rfl, hS21⟩ hf74
              refine ⟨fun _ => trivial, ?_⟩
              refine p_run 2 [] [0, 2, 15] (fl' := [(0, pB b7 0), (2, pB b8 0), (15, .bool (r1 != (0 : Int)))]) (obs := []) trivial hf74 (by kernel_rfl) (by kernel_rfl) .nil fun a62 hf75 => ?_
              refine p_done (by kernel_rfl) ?_
              refine n_then ?_
              have hf76 := Fr.keep (ks := [0, 2, 15]) (r := [(0, pB b7 0), (2, pB b8 0), (15, .bool (r1 != (0 : Int)))]) hf75 (by kernel_rfl)
              exact ⟨z10, (r1 != (0 : Int)), k9, hf76, hS21, hr24⟩
          · rintro a63 ww21 ⟨z9, y23, k10, hf77, hS22, hr25⟩
            refine w_if hf77 (b := y23) (by kernel_rfl) (fun hb10 => ?_) (fun hb10 => ?_)
            · have hr26 := cond_t hb10 hr25
              refine w_seq (by kernel_rfl) ?_
              refine w_reg (by kernel_rfl) ?_
              refine p_run 1 [] [2, 16] (fl' := [(2, pB b8 0), (16, .agg #[vI 0, vI 0])]) (obs := []) trivial hf77 (by kernel_rfl) (by kernel_rfl) .nil fun a64 hf78 => ?_
              refine p_store_eq (i := 1) (j := 0) (b := b8) (off := 0) (vs := [vI 0, vI 0]) (cs' := [vI 0, vI 0]) hS22 hf78 rfl (by kernel_rfl) (by kernel_rfl) rfl fun ww22 a65 hS23 hf79 => ⟨fun _ => trivial, ?_⟩
              refine p_run 1 [] [2, 3] (fl' := [(2, pB b8 0), (3, vI 5)]) (obs := []) trivial hf79 (by kernel_rfl) (by kernel_rfl) .nil fun a66 hf80 => ?_
              refine p_done (by kernel_rfl) ?_
              refine n_then ?_
              refine w_ret (by kernel_rfl) ?_
              refine r_then ?_
              refine p_ret (os := [vI 0, vI 0]) (v := .tuple #[.agg #[vI 0, vI 0], vI 5]) (obs := [.cell ⟨b8, 0, none⟩ (vI 0), .cell ⟨b8, 1, none⟩ (vI 0)]) hf80 (by kernel_rfl) (.cell (hS23.box (i := 0) rfl (j := 0) rfl) (.cell (hS23.box (i := 0) rfl (j := 1) rfl) .nil)) ?_
              exact ⟨_, rfl, z9, 0, 0, 5, k10, rfl, (St.drop 1 hS23), hr26⟩
            · have hr27 := cond_f hb10 hr25
              refine w_skip (by kernel_rfl) ?_
              refine n_then ?_
              refine w_seq (by kernel_rfl) ?_
              refine w_reg (by kernel_rfl) ?_
              refine p_run 4 [vI y21, vI y22] [2, 20] (fl' := [(2, pB b8 0), (20, .agg #[vI y21, vI y22])]) (obs := [.cell ⟨b7, 0, none⟩ (vI y21), .cell ⟨b7, 1, none⟩ (vI y22)]) trivial hf77 (by kernel_rfl) (by kernel_rfl) (.cell (hS22.box (i := 1) rfl (j := 0) rfl) (.cell (hS22.box (i := 1) rfl (j := 1) rfl) .nil)) fun a67 hf81 => ?_
              refine p_store_eq (i := 4) (j := 0) (b := b8) (off := 0) (vs := [vI y21, vI y22]) (cs' := [vI y21, vI y22]) hS22 hf81 rfl (by kernel_rfl) (by kernel_rfl) rfl fun ww23 a68 hS24 hf82 => ⟨fun _ => trivial, ?_⟩
              refine p_run 1 [] [2, 3] (fl' := [(2, pB b8 0), (3, vI 0)]) (obs := []) trivial hf82 (by kernel_rfl) (by kernel_rfl) .nil fun a69 hf83 => ?_
              refine p_done (by kernel_rfl) ?_
              refine n_then ?_
              refine w_ret (by kernel_rfl) ?_
              refine p_ret (os := [vI y21, vI y22]) (v := .tuple #[.agg #[vI y21, vI y22], vI 0]) (obs := [.cell ⟨b8, 0, none⟩ (vI y21), .cell ⟨b8, 1, none⟩ (vI y22)]) hf83 (by kernel_rfl) (.cell (hS24.box (i := 0) rfl (j := 0) rfl) (.cell (hS24.box (i := 0) rfl (j := 1) rfl) .nil)) ?_
              exact ⟨_, rfl, z9, y21, y22, 0, k10, rfl, (St.drop 1 hS24), hr27⟩
        · rintro v4 ww24 a70 ⟨z8, y18, y19, y20, k11, rfl, hS25, hr28⟩ hf84
          refine ⟨fun _ => trivial, ?_⟩
          refine p_run 2 [] [6, 44, 45] (fl' := [(6, pB b6 0), (44, .agg #[vI y18, vI y19]), (45, vI y20)]) (obs := []) trivial hf84 (by kernel_rfl) (by kernel_rfl) .nil fun a71 hf85 => ?_
          refine p_store_eq (i := 3) (j := 1) (b := b6) (off := 0) (vs := [vI y18, vI y19]) (cs' := [vI y18, vI y19]) hS25 hf85 rfl (by kernel_rfl) (by kernel_rfl) rfl fun ww25 a72 hS26 hf86 => ⟨fun _ => trivial, ?_⟩
          refine p_run 1 [] [6, 7] (fl' := [(6, pB b6 0), (7, vI y20)]) (obs := []) trivial hf86 (by kernel_rfl) (by kernel_rfl) .nil fun a73 hf87 => ?_
          refine p_done (by kernel_rfl) ?_
          refine n_then ?_
          refine w_ret (by kernel_rfl) ?_
          refine p_ret (os := [vI y18, vI y19]) (v := .tuple #[.agg #[vI y18, vI y19], vI y20]) (obs := [.cell ⟨b6, 0, none⟩ (vI y18), .cell ⟨b6, 1, none⟩ (vI y19)]) hf87 (by kernel_rfl) (.cell (hS26.box (i := 1) rfl (j := 0) rfl) (.cell (hS26.box (i := 1) rfl (j := 1) rfl) .nil)) ?_
          exact ⟨_, rfl, z8, y18, y19, y20, (Zone.le_trans (Zone.le_trans k3 k4) k11), rfl, (St.drop 4 hS26), hr28⟩
  · rintro v5 ww26 a74 ⟨z1, y1, y2, y3, k12, rfl, hS27, hr29⟩ hf88
    refine ⟨fun _ => trivial, ?_⟩
    refine p_run 2 [] [4, 9, 10] (fl' := [(4, pB b3 0), (9, .agg #[vI y1, vI y2]), (10, vI y3)]) (obs := []) trivial hf88 (by kernel_rfl) (by kernel_rfl) .nil fun a75 hf89 => ?_
    refine p_store_eq (i := 5) (j := 0) (b := b3) (off := 0) (vs := [vI y1, vI y2]) (cs' := [vI y1, vI y2]) hS27 hf89 rfl (by kernel_rfl) (by kernel_rfl) rfl fun ww27 a76 hS28 hf90 => ⟨fun _ => trivial, ?_⟩
    refine p_run 1 [] [4, 5] (fl' := [(4, pB b3 0), (5, vI y3)]) (obs := []) trivial hf90 (by kernel_rfl) (by kernel_rfl) .nil fun a77 hf91 => ?_
    refine p_done (by kernel_rfl) ?_
    refine n_then ?_
    refine w_ret (by kernel_rfl) ?_
    refine p_ret (os := [vI y1, vI y2]) (v := .tuple #[.agg #[vI y1, vI y2], vI y3]) (obs := [.cell ⟨b3, 0, none⟩ (vI y1), .cell ⟨b3, 1, none⟩ (vI y2)]) hf91 (by kernel_rfl) (.cell (hS28.box (i := 0) rfl (j := 0) rfl) (.cell (hS28.box (i := 0) rfl (j := 1) rfl) .nil)) ?_
    obtain rfl := some_eq hr29
    exact ⟨_, rfl, z1, k12, rfl, (St.drop 3 hS28)⟩
def F111 (fuel : Nat) (x0_lo : Int) (x0_hi : Int) (x1_lo : Int) (x1_hi : Int) : Option (Int × Int) :=
  (some ((w64 (x0_lo + x1_lo)), (w64 (x0_hi + x1_hi))))
set_option maxRecDepth 100000 in
theorem f111_ok (fuel : Nat) (x0_lo : Int) (x0_hi : Int) (x1_lo : Int) (x1_hi : Int) (r : Int × Int) (hr : F111 fuel x0_lo x0_hi x1_lo x1_hi = some r) (h : Zone) (L : List Atom) (w : World) (hS : St h L w)  :
    Calls Try.prog 111 #[.agg #[vI x0_lo, vI x0_hi], .agg #[vI x1_lo, vI x1_hi]] w fun e w' => ∃ v, e = .returned v ∧ (v = .agg #[vI r.1, vI r.2] ∧ St h L w') := by
  refine calls_intro (N := 16) Try.func111 (by kernel_rfl) fun a hf => ?_
  refine w_seq (by kernel_rfl) ?_
  refine w_reg (by kernel_rfl) ?_
  refine p_box (i := 0) (d := (some 2)) (cs := [vI x0_lo, vI x0_hi]) (T := 41) (v := fun b1 => pB b1 0) hS hf (fun b => by kernel_rfl) fun b1 ww1 a1 hS1 hf1 => ⟨fun _ => trivial, ?_⟩
  refine p_box (i := 1) (d := (some 3)) (cs := [vI x1_lo, vI x1_hi]) (T := 41) (v := fun b2 => pB b2 0) hS1 hf1 (fun b => by kernel_rfl) fun b2 ww2 a2 hS2 hf2 => ⟨fun _ => trivial, ?_⟩
  refine p_box (i := 2) (d := (some 4)) (cs := [vI 0, vI 0]) (T := 41) (v := fun b3 => pB b3 0) hS2 hf2 (fun b => by kernel_rfl) fun b3 ww3 a3 hS3 hf3 => ⟨fun _ => trivial, ?_⟩
  refine p_done (by kernel_rfl) ?_
  refine n_then ?_
  refine w_seq (by kernel_rfl) ?_
  refine w_reg (by kernel_rfl) ?_
  refine p_run 11 [vI x0_lo, vI x1_lo, vI x0_hi, vI x1_hi] [4, 15] (fl' := [(4, pB b3 0), (15, .agg #[vI (w64 (x0_lo + x1_lo)), vI (w64 (x0_hi + x1_hi))])]) (obs := [.cell ⟨b1, 0, none⟩ (vI x0_lo), .cell ⟨b2, 0, none⟩ (vI x1_lo), .cell ⟨b1, 1, none⟩ (vI x0_hi), .cell ⟨b2, 1, none⟩ (vI x1_hi)]) trivial hf3 (by kernel_rfl) (by kernel_rfl) (.cell (hS3.box (i := 2) rfl (j := 0) rfl) (.cell (hS3.box (i := 1) rfl (j := 0) rfl) (.cell (hS3.box (i := 2) rfl (j := 1) rfl) (.cell (hS3.box (i := 1) rfl (j := 1) rfl) .nil)))) fun a4 hf4 => ?_
  refine p_store_eq (i := 11) (j := 0) (b := b3) (off := 0) (vs := [vI (w64 (x0_lo + x1_lo)), vI (w64 (x0_hi + x1_hi))]) (cs' := [vI (w64 (x0_lo + x1_lo)), vI (w64 (x0_hi + x1_hi))]) hS3 hf4 rfl (by kernel_rfl) (by kernel_rfl) rfl fun ww4 a5 hS4 hf5 => ⟨fun _ => trivial, ?_⟩
  refine p_done (by kernel_rfl) ?_
  refine n_then ?_
  refine w_ret (by kernel_rfl) ?_
  refine p_ret (os := [vI (w64 (x0_lo + x1_lo)), vI (w64 (x0_hi + x1_hi))]) (v := .agg #[vI (w64 (x0_lo + x1_lo)), vI (w64 (x0_hi + x1_hi))]) (obs := [.cell ⟨b3, 0, none⟩ (vI (w64 (x0_lo + x1_lo))), .cell ⟨b3, 1, none⟩ (vI (w64 (x0_hi + x1_hi)))]) hf5 (by kernel_rfl) (.cell (hS4.box (i := 0) rfl (j := 0) rfl) (.cell (hS4.box (i := 0) rfl (j := 1) rfl) .nil)) ?_
  obtain rfl := some_eq hr
  exact ⟨_, rfl, rfl, (St.drop 3 hS4)⟩
def F125_l2 (x0 : List (List Pt)) : Nat → (List Pt) → Int → Option (List Pt)
  | 0, _, _ => none
  | n1 + 1, y1, y2 =>
    let k1 : (List Pt) → Int → Option (List Pt) := F125_l2 x0 n1
    (cond (decide (y2 < (x0.length : Int))) ((getI x0 y2).bind fun p1 => ((appC y1 p1).bind fun d1 => (k1 d1 (w64 (y2 + (1 : Int)))))) (some (y1)))
def F125_l1 (fuel : Nat) (x0 : List (List Pt)) : Nat → Int → Int → Option (List Pt)
  | 0, _, _ => none
  | n2 + 1, y3, y4 =>
    let k2 : Int → Int → Option (List Pt) := F125_l1 fuel x0 n2
    (cond (decide (y4 < (x0.length : Int))) ((getI x0 y4).bind fun p2 => (cond (decide ((w64 (y3 + (p2.length : Int))) < (0 : Int))) (none) (k2 (w64 (y3 + (p2.length : Int))) (w64 (y4 + (1 : Int)))))) ((growC y3).bind fun _ => (F125_l2 x0 fuel ([]) 0)))
def F125 (fuel : Nat) (x0 : List (List Pt)) : Option (List Pt) :=
  (F125_l1 fuel x0 fuel 0 0)
set_option maxRecDepth 100000 in
theorem f125_ok (fuel : Nat) (x0 : List (List Pt)) (r : List Pt) (hr : F125 fuel x0 = some r) (h : Zone) (L : List Atom) (w : World) (hS : St h L w) (o_x0 : Option Addr) (c_x0 : Nat) (hx_x0 : SliceR (Ty.slice PtT) h o_x0 c_x0 x0) :
    Calls Try.prog 125 #[.slice o_x0 x0.length c_x0] w fun e w' => ∃ v, e = .returned v ∧ (∃ h', ∃ o0 : Option Addr, ∃ c0 : Nat, Zone.le h h' ∧ v = .slice o0 r.length c0 ∧ St h' L w' ∧ SliceR PtT h' o0 c0 r) := by
  refine calls_intro (N := 36) Try.func125 (by kernel_rfl) fun a hf => ?_
  refine w_seq (by kernel_rfl) ?_
  refine w_reg (by kernel_rfl) ?_
  refine p_run 1 [] [0] (fl' := [(0, .slice o_x0 x0.length c_x0)]) (obs := []) trivial hf (by kernel_rfl) (by kernel_rfl) .nil fun a1 hf1 => ?_
  refine p_done (by kernel_rfl) ?_
  refine n_then ?_
  refine w_seq (by kernel_rfl) ?_
  refine w_reg (by kernel_rfl) ?_
  refine p_run 1 [] [0, 3] (fl' := [(0, .slice o_x0 x0.length c_x0), (3, vI 0)]) (obs := []) trivial hf1 (by kernel_rfl) (by kernel_rfl) .nil fun a2 hf2 => ?_
  refine p_done (by kernel_rfl) ?_
  refine n_then ?_
  refine w_seq (by kernel_rfl) ?_
  refine w_seq (by kernel_rfl) ?_
  refine w_reg (by kernel_rfl) ?_
  refine p_run 3 [] [0, 3, 9, 10, 11] (fl' := [(0, .slice o_x0 x0.length c_x0), (3, vI 0), (9, .slice o_x0 x0.length c_x0), (10, vI (x0.length : Int)), (11, vI 0)]) (obs := []) trivial hf2 (by kernel_rfl) (by kernel_rfl) .nil fun a3 hf3 => ?_
  refine p_done (by kernel_rfl) ?_
  refine n_then ?_
  refine w_block (id := 0) (by kernel_rfl) ?_
  have hf4 := Fr.keep (ks := [0, 3, 9, 10, 11]) (r := [(0, .slice o_x0 x0.length c_x0), (3, vI 0), (9, .slice o_x0 x0.length c_x0), (10, vI (x0.length : Int)), (11, vI 0)]) hf3 (by kernel_rfl)
  refine w_loop (by kernel_rfl) (fun n a w => ∃ z1 : Zone, ∃ y3 : Int, ∃ y4 : Int, Zone.le h z1 ∧ Fr a 36 [(0, .slice o_x0 x0.length c_x0), (3, vI y3), (9, .slice o_x0 x0.length c_x0), (10, vI (x0.length : Int)), (11, vI y4)] ∧ St z1 (L) w ∧ (F125_l1 fuel x0 n y3 y4) = some r) fuel ⟨h, 0, 0, (Zone.le_refl _), hf4, hS, hr⟩ ?_
  rintro n3 a4 ww1 ⟨z1, y3, y4, k3, hf5, hS1, hr1⟩
  cases n3 with
  | zero => cases hr1
  | succ n2 =>
  refine w_seq (by kernel_rfl) ?_
  refine w_reg (by kernel_rfl) ?_
  refine p_run 1 [] [0, 3, 9, 10, 11, 12] (fl' := [(0, .slice o_x0 x0.length c_x0), (3, vI y3), (9, .slice o_x0 x0.length c_x0), (10, vI (x0.length : Int)), (11, vI y4), (12, .bool (decide (y4 < (x0.length : Int))))]) (obs := []) trivial hf5 (by kernel_rfl) (by kernel_rfl) .nil fun a5 hf6 => ?_
  refine p_done (by kernel_rfl) ?_
  refine n_then ?_
  refine w_seq (by kernel_rfl) ?_
  refine w_if hf6 (b := (decide (y4 < (x0.length : Int)))) (by kernel_rfl) (fun hb1 => ?_) (fun hb1 => ?_)
  · have hr2 := cond_t hb1 hr1
    refine w_skip (by kernel_rfl) ?_
    refine n_then ?_
    refine w_seq (by kernel_rfl) ?_
    refine w_block (id := 1) (by kernel_rfl) ?_
    refine w_seq (by kernel_rfl) ?_
    refine w_reg (by kernel_rfl) ?_
    obtain ⟨p2, hp438, hr3⟩ := bind_some hr2
    obtain ⟨ad1, ho1, hb2, cc1, hc1, hk1⟩ := SliceR.getI (SliceR.mono k3 hx_x0) hp438
    obtain ⟨e1, q1, rfl, hx1⟩ := hc1
    refine p_run 3 [.pointer (some ad1), .slice e1 p2.length q1] [0, 3, 5, 9, 10, 11] (fl' := [(0, .slice o_x0 x0.length c_x0), (3, vI y3), (5, .slice e1 p2.length q1), (9, .slice o_x0 x0.length c_x0), (10, vI (x0.length : Int)), (11, vI y4)]) (obs := [.prop (o_x0 = some ad1), .prop (0 ≤ y4 ∧ y4 < (x0.length : Nat)), .cell ((ad1.add (Int.toNat y4 * 1)).add 0) (.slice e1 p2.length q1)]) trivial hf6 (by kernel_rfl) (by kernel_rfl) (.prop ho1 (.prop hb2 (.cell (hS1.cell (hk1 0 _ rfl)) .nil))) fun a6 hf7 => ?_
    refine p_done (by kernel_rfl) ?_
    refine n_then ?_
    refine w_seq (by kernel_rfl) ?_
    refine w_reg (by kernel_rfl) ?_
    refine p_run 5 [] [0, 3, 9, 10, 11] (fl' := [(0, .slice o_x0 x0.length c_x0), (3, vI (w64 (y3 + (p2.length : Int)))), (9, .slice o_x0 x0.length c_x0), (10, vI (x0.length : Int)), (11, vI y4)]) (obs := []) trivial hf7 (by kernel_rfl) (by kernel_rfl) .nil fun a7 hf8 => ?_
    refine p_done (by kernel_rfl) ?_
    refine n_then ?_
    refine w_seq (by kernel_rfl) ?_
    refine w_reg (by kernel_rfl) ?_
    refine p_run 2 [] [0, 3, 9, 10, 11, 20] (fl' := [(0, .slice o_x0 x0.length c_x0), (3, vI (w64 (y3 + (p2.length : Int)))), (9, .slice o_x0 x0.length c_x0), (10, vI (x0.length : Int)), (11, vI y4), (20, .bool (decide ((w64 (y3 + (p2.length : Int))) < (0 : Int))))]) (obs := []) trivial hf8 (by kernel_rfl) (by kernel_rfl) .nil fun a8 hf9 => ?_
    refine p_done (by kernel_rfl) ?_
    refine n_then ?_
    refine w_if hf9 (b := (decide ((w64 (y3 + (p2.length : Int))) < (0 : Int)))) (by kernel_rfl) (fun hb3 => ?_) (fun hb3 => ?_)
    · have hr4 := cond_t hb3 hr3
      cases hr4
    · have hr5 := cond_f hb3 hr3
      refine w_skip (by kernel_rfl) ?_
      refine n_block ?_
      refine n_then ?_
      refine w_reg (by kernel_rfl) ?_
      refine p_run 2 [] [0, 3, 9, 10, 11] (fl' := [(0, .slice o_x0 x0.length c_x0), (3, vI (w64 (y3 + (p2.length : Int)))), (9, .slice o_x0 x0.length c_x0), (10, vI (x0.length : Int)), (11, vI (w64 (y4 + (1 : Int))))]) (obs := []) trivial hf9 (by kernel_rfl) (by kernel_rfl) .nil fun a9 hf10 => ?_
      refine p_done (by kernel_rfl) ?_
      refine n_then ?_
      have hf11 := Fr.keep (ks := [0, 3, 9, 10, 11]) (r := [(0, .slice o_x0 x0.length c_x0), (3, vI (w64 (y3 + (p2.length : Int)))), (9, .slice o_x0 x0.length c_x0), (10, vI (x0.length : Int)), (11, vI (w64 (y4 + (1 : Int))))]) hf10 (by kernel_rfl)
      exact ⟨n2, Nat.lt_succ_self n2, z1, (w64 (y3 + (p2.length : Int))), (w64 (y4 + (1 : Int))), k3, hf11, hS1, hr5⟩
  · have hr6 := cond_f hb1 hr1
    refine w_exit (id := 0) (by kernel_rfl) ?_
    refine x_then ?_
    refine x_then ?_
    refine x_block ?_
    refine n_then ?_
    refine w_seq (by kernel_rfl) ?_
    refine w_reg (by kernel_rfl) ?_
    refine p_run 1 [] [0, 23] (fl' := [(0, .slice o_x0 x0.length c_x0), (23, vI y3)]) (obs := []) trivial hf6 (by kernel_rfl) (by kernel_rfl) .nil fun a10 hf12 => ?_
    obtain ⟨u1, hd1, hr7⟩ := bind_some hr6
    refine p_call (i := 1) (d := some 24) (f := 133) (args := #[.slice none 0 0, vI y3]) hf12 (by kernel_rfl) (grow133 hS1 hd1) ?_
    rintro v1 ww2 a11 ⟨e2, q2, rfl, hS2⟩ hf13
    refine ⟨fun _ => trivial, ?_⟩
    refine p_run 1 [] [0, 6] (fl' := [(0, .slice o_x0 x0.length c_x0), (6, .slice e2 0 q2)]) (obs := []) trivial hf13 (by kernel_rfl) (by kernel_rfl) .nil fun a12 hf14 => ?_
    refine p_done (by kernel_rfl) ?_
    refine n_then ?_
    refine w_seq (by kernel_rfl) ?_
    refine w_seq (by kernel_rfl) ?_
    refine w_reg (by kernel_rfl) ?_
    refine p_run 3 [] [6, 25, 26, 27] (fl' := [(6, .slice e2 0 q2), (25, .slice o_x0 x0.length c_x0), (26, vI (x0.length : Int)), (27, vI 0)]) (obs := []) trivial hf14 (by kernel_rfl) (by kernel_rfl) .nil fun a13 hf15 => ?_
    refine p_done (by kernel_rfl) ?_
    refine n_then ?_
    refine w_block (id := 2) (by kernel_rfl) ?_
    have hf16 := Fr.keep (ks := [6, 25, 26, 27]) (r := [(6, .slice e2 0 q2), (25, .slice o_x0 x0.length c_x0), (26, vI (x0.length : Int)), (27, vI 0)]) hf15 (by kernel_rfl)
    refine w_loop (by kernel_rfl) (fun n a w => ∃ z2 : Zone, ∃ y1 : List Pt, ∃ y2 : Int, ∃ e3 : Option Addr, ∃ q3 : Nat, Zone.le z1 z2 ∧ Fr a 36 [(6, .slice e3 y1.length q3), (25, .slice o_x0 x0.length c_x0), (26, vI (x0.length : Int)), (27, vI y2)] ∧ St z2 (ownS PtT 52 e3 q3 y1 :: L) w ∧ (F125_l2 x0 n y1 y2) = some r) fuel ⟨z1, [], 0, e2, q2, (Zone.le_refl _), hf16, hS2, hr7⟩ ?_
    rintro n4 a14 ww3 ⟨z2, y1, y2, e3, q3, k4, hf17, hS3, hr8⟩
    cases n4 with
    | zero => cases hr8
    | succ n1 =>
    refine w_seq (by kernel_rfl) ?_
    refine w_reg (by kernel_rfl) ?_
    refine p_run 1 [] [6, 25, 26, 27, 28] (fl' := [(6, .slice e3 y1.length q3), (25, .slice o_x0 x0.length c_x0), (26, vI (x0.length : Int)), (27, vI y2), (28, .bool (decide (y2 < (x0.length : Int))))]) (obs := []) trivial hf17 (by kernel_rfl) (by kernel_rfl) .nil fun a15 hf18 => ?_
    refine p_done (by kernel_rfl) ?_
    refine n_then ?_
    refine w_seq (by kernel_rfl) ?_
    refine w_if hf18 (b := (decide (y2 < (x0.length : Int)))) (by kernel_rfl) (fun hb4 => ?_) (fun hb4 => ?_)
    · have hr9 := cond_t hb4 hr8
      refine w_skip (by kernel_rfl) ?_
      refine n_then ?_
      refine w_seq (by kernel_rfl) ?_
      refine w_block (id := 3) (by kernel_rfl) ?_
      refine w_seq (by kernel_rfl) ?_
      refine w_reg (by kernel_rfl) ?_
      obtain ⟨p1, hp1075, hr10⟩ := bind_some hr9
      obtain ⟨ad2, ho2, hb5, cc2, hc2, hk2⟩ := SliceR.getI (SliceR.mono (Zone.le_trans k3 k4) hx_x0) hp1075
      obtain ⟨e4, q4, rfl, hx2⟩ := hc2
      refine p_run 3 [.pointer (some ad2), .slice e4 p1.length q4] [6, 8, 25, 26, 27] (fl' := [(6, .slice e3 y1.length q3), (8, .slice e4 p1.length q4), (25, .slice o_x0 x0.length c_x0), (26, vI (x0.length : Int)), (27, vI y2)]) (obs := [.prop (o_x0 = some ad2), .prop (0 ≤ y2 ∧ y2 < (x0.length : Nat)), .cell ((ad2.add (Int.toNat y2 * 1)).add 0) (.slice e4 p1.length q4)]) trivial hf18 (by kernel_rfl) (by kernel_rfl) (.prop ho2 (.prop hb5 (.cell (hS3.cell (hk2 0 _ rfl)) .nil))) fun a16 hf19 => ?_
      refine p_done (by kernel_rfl) ?_
      refine n_then ?_
      refine w_reg (by kernel_rfl) ?_
      refine p_run 2 [] [25, 26, 27, 31, 32] (fl' := [(25, .slice o_x0 x0.length c_x0), (26, vI (x0.length : Int)), (27, vI y2), (31, .slice e3 y1.length q3), (32, .slice e4 p1.length q4)]) (obs := []) trivial hf19 (by kernel_rfl) (by kernel_rfl) .nil fun a17 hf20 => ?_
      obtain ⟨d1, hd2, hr11⟩ := bind_some hr10
      refine p_append (T := PtT) (i := 2) (j := 0) (d := some 33) (o2 := e4) (c2 := q4) (ys := p1) el22 hS3 hf20 rfl (by kernel_rfl) (SliceR.src hx2 hS3) hd2 fun e5 q5 ww4 a18 hS4 hf21 => ⟨fun _ => trivial, ?_⟩
      refine p_run 1 [] [6, 25, 26, 27] (fl' := [(6, .slice e5 d1.length q5), (25, .slice o_x0 x0.length c_x0), (26, vI (x0.length : Int)), (27, vI y2)]) (obs := []) trivial hf21 (by kernel_rfl) (by kernel_rfl) .nil fun a19 hf22 => ?_
      refine p_done (by kernel_rfl) ?_
      refine n_block ?_
      refine n_then ?_
      refine w_reg (by kernel_rfl) ?_
      refine p_run 2 [] [6, 25, 26, 27] (fl' := [(6, .slice e5 d1.length q5), (25, .slice o_x0 x0.length c_x0), (26, vI (x0.length : Int)), (27, vI (w64 (y2 + (1 : Int))))]) (obs := []) trivial hf22 (by kernel_rfl) (by kernel_rfl) .nil fun a20 hf23 => ?_
      refine p_done (by kernel_rfl) ?_
      refine n_then ?_
      have hf24 := Fr.keep (ks := [6, 25, 26, 27]) (r := [(6, .slice e5 d1.length q5), (25, .slice o_x0 x0.length c_x0), (26, vI (x0.length : Int)), (27, vI (w64 (y2 + (1 : Int))))]) hf23 (by kernel_rfl)
      exact ⟨n1, Nat.lt_succ_self n1, z2, d1, (w64 (y2 + (1 : Int))), e5, q5, k4, hf24, hS4, hr11⟩
    · have hr12 := cond_f hb4 hr8
      refine w_exit (id := 2) (by kernel_rfl) ?_
      refine x_then ?_
      refine x_then ?_
      refine x_block ?_
      refine n_then ?_
      refine w_seq (by kernel_rfl) ?_
      refine w_reg (by kernel_rfl) ?_
      refine p_run 2 [] [2] (fl' := [(2, .slice e3 y1.length q3)]) (obs := []) trivial hf18 (by kernel_rfl) (by kernel_rfl) .nil fun a21 hf25 => ?_
      refine p_done (by kernel_rfl) ?_
      refine n_then ?_
      refine w_ret (by kernel_rfl) ?_
      obtain ⟨z3, k5, hS5, hx3⟩ := hS3.share (j := 0) rfl
      refine p_ret (os := []) (v := .slice e3 y1.length q3) (obs := []) hf25 (by kernel_rfl) .nil ?_
      obtain rfl := some_eq hr12
      exact ⟨_, rfl, z3, e3, q3, (Zone.le_trans (Zone.le_trans k3 k4) k5), rfl, (St.drop 1 hS5), hx3⟩
def F42 (fuel : Nat) (x0_lo : Int) (x0_hi : Int) (x1_lo : Int) (x1_hi : Int) : Option (Int × Int × Int) :=
  ((F106 fuel x0_lo x0_hi x1_lo x1_hi).bind fun r1 => (cond (r1 != (0 : Int)) (some (0, 0, r1)) (cond (decide ((if x1_lo > x0_lo then x1_lo else x0_lo) > (if x1_hi < x0_hi then x1_hi else x0_hi))) (some (0, 0, 3)) (some ((if x1_lo > x0_lo then x1_lo else x0_lo), (if x1_hi < x0_hi then x1_hi else x0_hi), 0)))))
set_option maxRecDepth 100000 in
theorem f42_ok (fuel : Nat) (x0_lo : Int) (x0_hi : Int) (x1_lo : Int) (x1_hi : Int) (r : Int × Int × Int) (hr : F42 fuel x0_lo x0_hi x1_lo x1_hi = some r) (h : Zone) (L : List Atom) (w : World) (hS : St h L w)  :
    Calls Try.prog 42 #[.agg #[vI x0_lo, vI x0_hi], .agg #[vI x1_lo, vI x1_hi]] w fun e w' => ∃ v, e = .returned v ∧ (∃ h', Zone.le h h' ∧ v = .tuple #[.agg #[vI r.1, vI r.2.1], vI r.2.2] ∧ St h' L w') := by
  refine calls_intro (N := 33) Try.func42 (by kernel_rfl) fun a hf => ?_
  refine w_seq (by kernel_rfl) ?_
  refine w_reg (by kernel_rfl) ?_
  refine p_box (i := 0) (d := (some 2)) (cs := [vI x0_lo, vI x0_hi]) (T := 41) (v := fun b1 => pB b1 0) hS hf (fun b => by kernel_rfl) fun b1 ww1 a1 hS1 hf1 => ⟨fun _ => trivial, ?_⟩
  refine p_box (i := 1) (d := (some 3)) (cs := [vI x1_lo, vI x1_hi]) (T := 41) (v := fun b2 => pB b2 0) hS1 hf1 (fun b => by kernel_rfl) fun b2 ww2 a2 hS2 hf2 => ⟨fun _ => trivial, ?_⟩
  refine p_box (i := 2) (d := (some 4)) (cs := [vI 0, vI 0]) (T := 41) (v := fun b3 => pB b3 0) hS2 hf2 (fun b => by kernel_rfl) fun b3 ww3 a3 hS3 hf3 => ⟨fun _ => trivial, ?_⟩
  refine p_run 1 [] [2, 3, 4] (fl' := [(2, pB b1 0), (3, pB b2 0), (4, pB b3 0)]) (obs := []) trivial hf3 (by kernel_rfl) (by kernel_rfl) .nil fun a4 hf4 => ?_
  refine p_done (by kernel_rfl) ?_
  refine n_then ?_
  refine w_seq (by kernel_rfl) ?_
  refine w_seq (by kernel_rfl) ?_
  refine w_reg (by kernel_rfl) ?_
  refine p_run 2 [vI x0_lo, vI x0_hi, vI x1_lo, vI x1_hi] [2, 3, 4, 8, 9] (fl' := [(2, pB b1 0), (3, pB b2 0), (4, pB b3 0), (8, .agg #[vI x0_lo, vI x0_hi]), (9, .agg #[vI x1_lo, vI x1_hi])]) (obs := [.cell ⟨b1, 0, none⟩ (vI x0_lo), .cell ⟨b1, 1, none⟩ (vI x0_hi), .cell ⟨b2, 0, none⟩ (vI x1_lo), .cell ⟨b2, 1, none⟩ (vI x1_hi)]) trivial hf4 (by kernel_rfl) (by kernel_rfl) (.cell (hS3.box (i := 2) rfl (j := 0) rfl) (.cell (hS3.box (i := 2) rfl (j := 1) rfl) (.cell (hS3.box (i := 1) rfl (j := 0) rfl) (.cell (hS3.box (i := 1) rfl (j := 1) rfl) .nil)))) fun a5 hf5 => ?_
  obtain ⟨r1, hd1, hr1⟩ := bind_some hr
  refine p_call (i := 2) (d := some 10) (f := 106) (args := #[.agg #[vI x0_lo, vI x0_hi], .agg #[vI x1_lo, vI x1_hi]]) hf5 (by kernel_rfl) (f106_ok fuel x0_lo x0_hi x1_lo x1_hi r1 hd1 h _ _ hS3 ) ?_
  rintro v1 ww4 a6 ⟨z1, k1, rfl, hS4⟩ hf6
  refine ⟨fun _ => trivial, ?_⟩
  refine p_run 1 [] [2, 3, 4, 6] (fl' := [(2, pB b1 0), (3, pB b2 0), (4, pB b3 0), (6, vI r1)]) (obs := []) trivial hf6 (by kernel_rfl) (by kernel_rfl) .nil fun a7 hf7 => ?_
  refine p_done (by kernel_rfl) ?_
  refine n_then ?_
  refine w_seq (by kernel_rfl) ?_
  refine w_reg (by kernel_rfl) ?_
  refine p_run 2 [] [2, 3, 4, 6, 12] (fl' := [(2, pB b1 0), (3, pB b2 0), (4, pB b3 0), (6, vI r1), (12, .bool (r1 != (0 : Int)))]) (obs := []) trivial hf7 (by kernel_rfl) (by kernel_rfl) .nil fun a8 hf8 => ?_
  refine p_done (by kernel_rfl) ?_
  refine n_then ?_
  refine w_if hf8 (b := (r1 != (0 : Int))) (by kernel_rfl) (fun hb1 => ?_) (fun hb1 => ?_)
  · have hr2 := cond_t hb1 hr1
    refine w_seq (by kernel_rfl) ?_
    refine w_reg (by kernel_rfl) ?_
    refine p_run 2 [] [4, 13, 14] (fl' := [(4, pB b3 0), (13, .agg #[vI 0, vI 0]), (14, vI r1)]) (obs := []) trivial hf8 (by kernel_rfl) (by kernel_rfl) .nil fun a9 hf9 => ?_
    refine p_store_eq (i := 2) (j := 0) (b := b3) (off := 0) (vs := [vI 0, vI 0]) (cs' := [vI 0, vI 0]) hS4 hf9 rfl (by kernel_rfl) (by kernel_rfl) rfl fun ww5 a10 hS5 hf10 => ⟨fun _ => trivial, ?_⟩
    refine p_run 1 [] [4, 5] (fl' := [(4, pB b3 0), (5, vI r1)]) (obs := []) trivial hf10 (by kernel_rfl) (by kernel_rfl) .nil fun a11 hf11 => ?_
    refine p_done (by kernel_rfl) ?_
    refine n_then ?_
    refine w_ret (by kernel_rfl) ?_
    refine r_then ?_
    refine p_ret (os := [vI 0, vI 0]) (v := .tuple #[.agg #[vI 0, vI 0], vI r1]) (obs := [.cell ⟨b3, 0, none⟩ (vI 0), .cell ⟨b3, 1, none⟩ (vI 0)]) hf11 (by kernel_rfl) (.cell (hS5.box (i := 0) rfl (j := 0) rfl) (.cell (hS5.box (i := 0) rfl (j := 1) rfl) .nil)) ?_
    obtain rfl := some_eq hr2
    exact ⟨_, rfl, z1, k1, rfl, (St.drop 3 hS5)⟩
  · have hr3 := cond_f hb1 hr1
    refine w_skip (by kernel_rfl) ?_
    refine n_then ?_
    refine w_seq (by kernel_rfl) ?_
    refine w_reg (by kernel_rfl) ?_
    refine p_run 11 [vI x0_lo, vI x1_lo, vI x0_hi, vI x1_hi] [4, 25] (fl' := [(4, pB b3 0), (25, .agg #[vI (if x1_lo > x0_lo then x1_lo else x0_lo), vI (if x1_hi < x0_hi then x1_hi else x0_hi)])]) (obs := [.cell ⟨b1, 0, none⟩ (vI x0_lo), .cell ⟨b2, 0, none⟩ (vI x1_lo), .cell ⟨b1, 1, none⟩ (vI x0_hi), .cell ⟨b2, 1, none⟩ (vI x1_hi)]) trivial hf8 (by kernel_rfl) (by kernel_rfl) (.cell (hS4.box (i := 2) rfl (j := 0) rfl) (.cell (hS4.box (i := 1) rfl (j := 0) rfl) (.cell (hS4.box (i := 2) rfl (j := 1) rfl) (.cell (hS4.box (i := 1) rfl (j := 1) rfl) .nil)))) fun a12 hf12 => ?_
    refine p_box (i := 11) (d := (some 7)) (cs := [vI 0, vI 0]) (T := 41) (v := fun b4 => pB b4 0) hS4 hf12 (fun b => by kernel_rfl) fun b4 ww6 a13 hS6 hf13 => ⟨fun _ => trivial, ?_⟩
    refine p_store_eq (i := 12) (j := 0) (b := b4) (off := 0) (vs := [vI (if x1_lo > x0_lo then x1_lo else x0_lo), vI (if x1_hi < x0_hi then x1_hi else x0_hi)]) (cs' := [vI (if x1_lo > x0_lo then x1_lo else x0_lo), vI (if x1_hi < x0_hi then x1_hi else x0_hi)]) hS6 hf13 rfl (by kernel_rfl) (by kernel_rfl) rfl fun ww7 a14 hS7 hf14 => ⟨fun _ => trivial, ?_⟩
    refine p_done (by kernel_rfl) ?_
    refine n_then ?_
    refine w_seq (by kernel_rfl) ?_
    refine w_seq (by kernel_rfl) ?_
    refine w_reg (by kernel_rfl) ?_
    refine p_run 5 [vI (if x1_lo > x0_lo then x1_lo else x0_lo), vI (if x1_hi < x0_hi then x1_hi else x0_hi)] [4, 7, 30] (fl' := [(4, pB b3 0), (7, pB b4 0), (30, .bool (decide ((if x1_lo > x0_lo then x1_lo else x0_lo) > (if x1_hi < x0_hi then x1_hi else x0_hi))))]) (obs := [.cell ⟨b4, 0, none⟩ (vI (if x1_lo > x0_lo then x1_lo else x0_lo)), .cell ⟨b4, 1, none⟩ (vI (if x1_hi < x0_hi then x1_hi else x0_hi))]) trivial hf14 (by kernel_rfl) (by kernel_rfl) (.cell (hS7.box (i := 0) rfl (j := 0) rfl) (.cell (hS7.box (i := 0) rfl (j := 1) rfl) .nil)) fun a15 hf15 => ?_
    refine p_done (by kernel_rfl) ?_
    refine n_then ?_
    refine w_if hf15 (b := (decide ((if x1_lo > x0_lo then x1_lo else x0_lo) > (if x1_hi < x0_hi then x1_hi else x0_hi)))) (by kernel_rfl) (fun hb2 => ?_) (fun hb2 => ?_)
    · have hr4 := cond_t hb2 hr3
      refine w_seq (by kernel_rfl) ?_
      refine w_reg (by kernel_rfl) ?_
      refine p_run 1 [] [4, 31] (fl' := [(4, pB b3 0), (31, .agg #[vI 0, vI 0])]) (obs := []) trivial hf15 (by kernel_rfl) (by kernel_rfl) .nil fun a16 hf16 => ?_
      refine p_store_eq (i := 1) (j := 1) (b := b3) (off := 0) (vs := [vI 0, vI 0]) (cs' := [vI 0, vI 0]) hS7 hf16 rfl (by kernel_rfl) (by kernel_rfl) rfl fun ww8 a17 hS8 hf17 => ⟨fun _ => trivial, ?_⟩
      refine p_run 1 [] [4, 5] (fl' := [(4, pB b3 0), (5, vI 3)]) (obs := []) trivial hf17 (by kernel_rfl) (by kernel_rfl) .nil fun a18 hf18 => ?_
      refine p_done (by kernel_rfl) ?_
      refine n_then ?_
      refine w_ret (by kernel_rfl) ?_
      refine r_then ?_
      refine p_ret (os := [vI 0, vI 0]) (v := .tuple #[.agg #[vI 0, vI 0], vI 3]) (obs := [.cell ⟨b3, 0, none⟩ (vI 0), .cell ⟨b3, 1, none⟩ (vI 0)]) hf18 (by kernel_rfl) (.cell (hS8.box (i := 1) rfl (j := 0) rfl) (.cell (hS8.box (i := 1) rfl (j := 1) rfl) .nil)) ?_
      obtain rfl := some_eq hr4
      exact ⟨_, rfl, z1, k1, rfl, (St.drop 4 hS8)⟩
    · have hr5 := cond_f hb2 hr3
      refine w_skip (by kernel_rfl) ?_
      refine n_then ?_
      refine w_seq (by kernel_rfl) ?_
      refine w_reg (by kernel_rfl) ?_
      refine p_run 1 [vI (if x1_lo > x0_lo then x1_lo else x0_lo), vI (if x1_hi < x0_hi then x1_hi else x0_hi)] [4, 32] (fl' := [(4, pB b3 0), (32, .agg #[vI (if x1_lo > x0_lo then x1_lo else x0_lo), vI (if x1_hi < x0_hi then x1_hi else x0_hi)])]) (obs := [.cell ⟨b4, 0, none⟩ (vI (if x1_lo > x0_lo then x1_lo else x0_lo)), .cell ⟨b4, 1, none⟩ (vI (if x1_hi < x0_hi then x1_hi else x0_hi))]) trivial hf15 (by kernel_rfl) (by kernel_rfl) (.cell (hS7.box (i := 0) rfl (j := 0) rfl) (.cell (hS7.box (i := 0) rfl (j := 1) rfl) .nil)) fun a19 hf19 => ?_
      refine p_store_eq (i := 1) (j := 1) (b := b3) (off := 0) (vs := [vI (if x1_lo > x0_lo then x1_lo else x0_lo), vI (if x1_hi < x0_hi then x1_hi else x0_hi)]) (cs' := [vI (if x1_lo > x0_lo then x1_lo else x0_lo), vI (if x1_hi < x0_hi then x1_hi else x0_hi)]) hS7 hf19 rfl (by kernel_rfl) (by kernel_rfl) rfl fun ww9 a20 hS9 hf20 => ⟨fun _ => trivial, ?_⟩
      refine p_run 1 [] [4, 5] (fl' := [(4, pB b3 0), (5, vI 0)]) (obs := []) trivial hf20 (by kernel_rfl) (by kernel_rfl) .nil fun a21 hf21 => ?_
      refine p_done (by kernel_rfl) ?_
      refine n_then ?_
      refine w_ret (by kernel_rfl) ?_
      refine p_ret (os := [vI (if x1_lo > x0_lo then x1_lo else x0_lo), vI (if x1_hi < x0_hi then x1_hi else x0_hi)]) (v := .tuple #[.agg #[vI (if x1_lo > x0_lo then x1_lo else x0_lo), vI (if x1_hi < x0_hi then x1_hi else x0_hi)], vI 0]) (obs := [.cell ⟨b3, 0, none⟩ (vI (if x1_lo > x0_lo then x1_lo else x0_lo)), .cell ⟨b3, 1, none⟩ (vI (if x1_hi < x0_hi then x1_hi else x0_hi))]) hf21 (by kernel_rfl) (.cell (hS9.box (i := 1) rfl (j := 0) rfl) (.cell (hS9.box (i := 1) rfl (j := 1) rfl) .nil)) ?_
      obtain rfl := some_eq hr5
      exact ⟨_, rfl, z1, k1, rfl, (St.drop 4 hS9)⟩
def F43_j1 (y1 : Bool) : Option (Bool) :=
  (some (y1))
def F43 (fuel : Nat) (x0_lo : Int) (x0_hi : Int) (x1 : Int) : Option (Bool) :=
  ((F52 fuel x0_lo x0_hi).bind fun r1 => (cond (r1 == (0 : Int)) ((F90 fuel x1 x0_lo x0_hi).bind fun r2 => (F43_j1 r2)) (F43_j1 false)))
set_option maxRecDepth 100000 in
theorem f43_ok (fuel : Nat) (x0_lo : Int) (x0_hi : Int) (x1 : Int) (r : Bool) (hr : F43 fuel x0_lo x0_hi x1 = some r) (h : Zone) (L : List Atom) (w : World) (hS : St h L w)  :
    Calls Try.prog 43 #[.agg #[vI x0_lo, vI x0_hi], vI x1] w fun e w' => ∃ v, e = .returned v ∧ (∃ h', Zone.le h h' ∧ v = .bool r ∧ St h' L w') := by
  refine calls_intro (N := 16) Try.func43 (by kernel_rfl) fun a hf => ?_
  refine w_seq (by kernel_rfl) ?_
  refine w_reg (by kernel_rfl) ?_
  refine p_box (i := 0) (d := (some 2)) (cs := [vI x0_lo, vI x0_hi]) (T := 41) (v := fun b1 => pB b1 0) hS hf (fun b => by kernel_rfl) fun b1 ww1 a1 hS1 hf1 => ⟨fun _ => trivial, ?_⟩
  refine p_run 1 [] [1, 2] (fl' := [(1, vI x1), (2, pB b1 0)]) (obs := []) trivial hf1 (by kernel_rfl) (by kernel_rfl) .nil fun a2 hf2 => ?_
  refine p_done (by kernel_rfl) ?_
  refine n_then ?_
  refine w_mid (by kernel_rfl) (fun a w => ∃ z1 : Zone, ∃ y1 : Bool, Zone.le h z1 ∧ Fr a 16 [(4, .bool y1)] ∧ St z1 (box b1 [vI x0_lo, vI x0_hi] 41 :: L) w ∧ (F43_j1 y1) = some r) ?_ ?_
  · skip
    refine w_reg (by kernel_rfl) ?_
    refine p_run 1 [vI x0_lo, vI x0_hi] [1, 2, 5] (fl' := [(1, vI x1), (2, pB b1 0), (5, .agg #[vI x0_lo, vI x0_hi])]) (obs := [.cell ⟨b1, 0, none⟩ (vI x0_lo), .cell ⟨b1, 1, none⟩ (vI x0_hi)]) trivial hf2 (by kernel_rfl) (by kernel_rfl) (.cell (hS1.box (i := 0) rfl (j := 0) rfl) (.cell (hS1.box (i := 0) rfl (j := 1) rfl) .nil)) fun a3 hf3 => ?_
    obtain ⟨r1, hd1, hr1⟩ := bind_some hr
    refine p_call (i := 1) (d := some 6) (f := 52) (args := #[.agg #[vI x0_lo, vI x0_hi]]) hf3 (by kernel_rfl) (f52_ok fuel x0_lo x0_hi r1 hd1 h _ _ hS1 ) ?_
    rintro v1 ww2 a4 ⟨z2, k1, rfl, hS2⟩ hf4
    refine ⟨fun _ => trivial, ?_⟩
    refine p_run 2 [] [1, 2, 8] (fl' := [(1, vI x1), (2, pB b1 0), (8, .bool (r1 == (0 : Int)))]) (obs := []) trivial hf4 (by kernel_rfl) (by kernel_rfl) .nil fun a5 hf5 => ?_
    rcases Bool.eq_false_or_eq_true (r1 == (0 : Int)) with hb1 | hb1
    · have hr2 := cond_t hb1 hr1
      have hf6 := Fr.conv hf5 (congrArg (fun z => ([(1, vI x1), (2, pB b1 0), (8, .bool z)] : FL)) hb1)
      refine p_run 5 [vI x0_lo, vI x0_hi] [8, 9, 11, 13] (fl' := [(8, .bool true), (9, vI x1), (11, vI x0_lo), (13, vI x0_hi)]) (obs := [.cell ⟨b1, 0, none⟩ (vI x0_lo), .cell ⟨b1, 1, none⟩ (vI x0_hi)]) trivial hf6 (by kernel_rfl) (by kernel_rfl) (.cell (hS2.box (i := 0) rfl (j := 0) rfl) (.cell (hS2.box (i := 0) rfl (j := 1) rfl) .nil)) fun a6 hf7 => ?_
      obtain ⟨r2, hd2, hr3⟩ := bind_some hr2
      refine p_call (i := 9) (d := some 14) (f := 90) (args := #[vI x1, vI x0_lo, vI x0_hi]) hf7 (by kernel_rfl) (f90_ok fuel x1 x0_lo x0_hi r2 hd2 z2 _ _ hS2 ) ?_
      rintro v2 ww3 a7 ⟨z3, k2, rfl, hS3⟩ hf8
      refine ⟨fun _ => trivial, ?_⟩
      refine p_run 2 [] [4] (fl' := [(4, .bool r2)]) (obs := []) trivial hf8 (by kernel_rfl) (by kernel_rfl) .nil fun a8 hf9 => ?_
      refine p_done (by kernel_rfl) ?_
      refine n_then ?_
      have hf10 := Fr.keep (ks := [4]) (r := [(4, .bool r2)]) hf9 (by kernel_rfl)
      exact ⟨z3, r2, (Zone.le_trans k1 k2), hf10, hS3, hr3⟩
    · have hr4 := cond_f hb1 hr1
      have hf11 := Fr.conv hf5 (congrArg (fun z => ([(1, vI x1), (2, pB b1 0), (8, .bool z)] : FL)) hb1)
      refine p_run 5 [] [8, 9, 11, 13] (fl' := [(8, .bool false), (9, undef), (11, undef), (13, undef)]) (obs := []) trivial hf11 (by kernel_rfl) (by kernel_rfl) .nil fun a9 hf12 => ?_
      refine p_run 1 [] [8, 9, 11, 13, 14] (fl' := [(8, .bool false), (9, undef), (11, undef), (13, undef), (14, undef)]) (obs := []) trivial hf12 (by kernel_rfl) (by kernel_rfl) .nil fun a10 hf13 => ?_
      refine p_run 2 [] [4] (fl' := [(4, .bool false)]) (obs := []) trivial hf13 (by kernel_rfl) (by kernel_rfl) .nil fun a11 hf14 => ?_
      refine p_done (by kernel_rfl) ?_
      refine n_then ?_
      have hf15 := Fr.keep (ks := [4]) (r := [(4, .bool false)]) hf14 (by kernel_rfl)
      exact ⟨z2, false, k1, hf15, hS2, hr4⟩
  · rintro a12 ww4 ⟨z1, y1, k3, hf16, hS4, hr5⟩
    refine w_ret (by kernel_rfl) ?_
    refine p_ret (os := []) (v := .bool y1) (obs := []) hf16 (by kernel_rfl) .nil ?_
    obtain rfl := some_eq hr5
    exact ⟨_, rfl, z1, k3, rfl, (St.drop 1 hS4)⟩
def F57_j1 (y1 : List Pt) (y2 : Int) : Option (List Pt × Int) :=
  (some (y1, y2))
def F57_j3 (k1 : (List Int) → Int → Option (List Pt × Int)) (y3 : Int) (y4 : List Int) : Option (List Pt × Int) :=
  (k1 y4 (w64 (y3 + (1 : Int))))
def F57_j4 (y5 : List Pt) (y6 : Int) : Option (List Pt × Int) :=
  (F57_j1 y5 y6)
def F57_j5 (k2 : (List Pt) → Int → Option (List Pt × Int)) (y7 : List Pt) (y8 : Int) (p1 : Int) (r1 : Int × Int) (y9 : Bool) : Option (List Pt × Int) :=
  (cond y9 (F57_j4 ([]) 5) ((appC y7 ([⟨p1, r1.1, r1.2⟩])).bind fun d1 => (k2 d1 (w64 (y8 + (1 : Int))))))
def F57_l2 (fuel : Nat) (x0 : List Pt) (x1 : List Pt) (y10 : List Int) : Nat → (List Pt) → Int → Option (List Pt × Int)
  | 0, _, _ => none
  | n1 + 1, y7, y8 =>
    let k2 : (List Pt) → Int → Option (List Pt × Int) := F57_l2 fuel x0 x1 y10 n1
    (cond (decide (y8 < ((compL (sortL y10)).length : Int))) ((getI (compL (sortL y10)) y8).bind fun p1 => ((F88 fuel x0 p1).bind fun r2 => ((F88 fuel x1 p1).bind fun r3 => ((F111 fuel r2.1 r2.2 r3.1 r3.2).bind fun r1 => (cond (decide (r1.1 < (-1000000000 : Int))) (F57_j5 k2 y7 y8 p1 r1 true) (F57_j5 k2 y7 y8 p1 r1 (decide (r1.2 > (1000000000 : Int))))))))) (F57_j4 y7 0))
def F57_l1 (fuel : Nat) (x0 : List Pt) (x1 : List Pt) (y11 : Int) (y12 : Int) (r4 : List Pt) : Nat → (List Int) → Int → Option (List Pt × Int)
  | 0, _, _ => none
  | n2 + 1, y10, y3 =>
    let k1 : (List Int) → Int → Option (List Pt × Int) := F57_l1 fuel x0 x1 y11 y12 r4 n2
    (cond (decide (y3 < (r4.length : Int))) ((getI r4 y3).bind fun p2 => ((F43 fuel y11 y12 p2.x).bind fun r5 => (cond r5 ((appC y10 ([p2.x])).bind fun d2 => (F57_j3 k1 y3 d2)) (F57_j3 k1 y3 y10)))) ((lenC y10).bind fun _ => ((lenC (sortL y10)).bind fun _ => (cond (decide (((compL (sortL y10)).length : Int) > (40 : Int))) (F57_j1 ([]) 2) (F57_l2 fuel x0 x1 y10 fuel ([]) 0)))))
def F57_j2 (fuel : Nat) (x0 : List Pt) (x1 : List Pt) (y13 : Int) (y11 : Int) (y12 : Int) : Option (List Pt × Int) :=
  (cond (y13 != (0 : Int)) (F57_j1 ([]) 4) ((F125 fuel ([x0, x1])).bind fun r4 => (F57_l1 fuel x0 x1 y11 y12 r4 fuel ([]) 0)))
def F57 (fuel : Nat) (x0 : List Pt) (x1 : List Pt) : Option (List Pt × Int) :=
  ((F67 fuel x0).bind fun r6 => (cond (r6 != (0 : Int)) (F57_j1 ([]) r6) ((F67 fuel x1).bind fun r7 => (cond (r7 != (0 : Int)) (F57_j1 ([]) r7) ((F117 fuel x0).bind fun r8 => ((F117 fuel x1).bind fun r9 => ((F42 fuel r8.1 r8.2 r9.1 r9.2).bind fun r10 => (F57_j2 fuel x0 x1 r10.2.2 r10.1 r10.2.1))))))))
end Go.Proofs.Ytpjmgeajajcceaa

