/-
  A part of the walk and of the plain law of one given statement. No condition.
-/
import Derived.Test.YtpjmgeajajcceaaShF
set_option linter.unusedVariables false
namespace Go.Proofs.Ytpjmgeajajcceaa
open Go.Sl Go.Sx
theorem el22 : ElemOK Try.prog 22 52 3 (.agg #[.int .i64 0, .int .i64 0, .int .i64 0]) := ElemOK.of (i := (Try.prog.info? 52).getD default) (by kernel_rfl) (by kernel_rfl) (by kernel_rfl) (by kernel_rfl)
theorem el25 : ElemOK Try.prog 25 3 1 (.int .i64 0) := ElemOK.of (i := (Try.prog.info? 3).getD default) (by kernel_rfl) (by kernel_rfl) (by kernel_rfl) (by kernel_rfl)
theorem el45 : ElemOK Try.prog 45 41 2 (.agg #[.int .i64 0, .int .i64 0]) := ElemOK.of (i := (Try.prog.info? 41).getD default) (by kernel_rfl) (by kernel_rfl) (by kernel_rfl) (by kernel_rfl)
def F90_j1 (y1 : Bool) : Option (Bool) :=
  (some (y1))
def F90 (fuel : Nat) (x0 : Int) (x1 : Int) (x2 : Int) : Option (Bool) :=
  (cond (decide (x1 ≤ x0)) (F90_j1 (decide (x0 ≤ x2))) (F90_j1 false))
set_option maxRecDepth 100000 in
theorem f90_ok (fuel : Nat) (x0 : Int) (x1 : Int) (x2 : Int) (r : Bool) (hr : F90 fuel x0 x1 x2 = some r) (h : Zone) (L : List Atom) (w : World) (hS : St h L w)  :
    Calls Try.prog 90 #[vI x0, vI x1, vI x2] w fun e w' => ∃ v, e = .returned v ∧ (∃ h', Zone.le h h' ∧ v = .bool r ∧ St h' L w') := by
  refine calls_intro (N := 15) Try.func90 (by kernel_rfl) fun a hf => ?_
  refine w_seq (by kernel_rfl) ?_
  refine w_reg (by kernel_rfl) ?_
  refine p_run 1 [] [0, 1, 2] (fl' := [(0, vI x0), (1, vI x1), (2, vI x2)]) (obs := []) trivial hf (by kernel_rfl) (by kernel_rfl) .nil fun a1 hf1 => ?_
  refine p_done (by kernel_rfl) ?_
  refine n_then ?_
  refine w_mid (by kernel_rfl) (fun a w => ∃ z1 : Zone, ∃ y1 : Bool, Zone.le h z1 ∧ Fr a 15 [(6, .bool y1)] ∧ St z1 (L) w ∧ (F90_j1 y1) = some r) ?_ ?_
  · skip
    refine w_reg (by kernel_rfl) ?_
    refine p_run 4 [] [0, 2, 10] (fl' := [(0, vI x0), (2, vI x2), (10, .bool (decide (x1 ≤ x0)))]) (obs := []) trivial hf1 (by kernel_rfl) (by kernel_rfl) .nil fun a2 hf2 => ?_
    rcases Bool.eq_false_or_eq_true (decide (x1 ≤ x0)) with hb1 | hb1
    · have hr1 := cond_t hb1 hr
      have hf3 := Fr.conv hf2 (congrArg (fun z => ([(0, vI x0), (2, vI x2), (10, .bool z)] : FL)) hb1)
      refine p_run 5 [] [6] (fl' := [(6, .bool (decide (x0 ≤ x2)))]) (obs := []) trivial hf3 (by kernel_rfl) (by kernel_rfl) .nil fun a3 hf4 => ?_
      refine p_done (by kernel_rfl) ?_
      refine n_then ?_
      have hf5 := Fr.keep (ks := [6]) (r := [(6, .bool (decide (x0 ≤ x2)))]) hf4 (by kernel_rfl)
      exact ⟨h, (decide (x0 ≤ x2)), (Zone.le_refl _), hf5, hS, hr1⟩
    · have hr2 := cond_f hb1 hr
      have hf6 := Fr.conv hf2 (congrArg (fun z => ([(0, vI x0), (2, vI x2), (10, .bool z)] : FL)) hb1)
      refine p_run 5 [] [6] (fl' := [(6, .bool false)]) (obs := []) trivial hf6 (by kernel_rfl) (by kernel_rfl) .nil fun a4 hf7 => ?_
      refine p_done (by kernel_rfl) ?_
      refine n_then ?_
      have hf8 := Fr.keep (ks := [6]) (r := [(6, .bool false)]) hf7 (by kernel_rfl)
      exact ⟨h, false, (Zone.le_refl _), hf8, hS, hr2⟩
  · rintro a5 ww1 ⟨z1, y1, k1, hf9, hS1, hr3⟩
    refine w_ret (by kernel_rfl) ?_
    refine p_ret (os := []) (v := .bool y1) (obs := []) hf9 (by kernel_rfl) .nil ?_
    obtain rfl := some_eq hr3
    exact ⟨_, rfl, z1, k1, rfl, hS1⟩
def F67_j1 (k1 : Int → Option (Int)) (y1 : Int) (y2 : Bool) : Option (Int) :=
  (cond y2 (some (11)) (k1 (w64 (y1 + (1 : Int)))))
def F67_l1 (fuel : Nat) (x0 : List Pt) : Nat → Int → Option (Int)
  | 0, _ => none
  | n1 + 1, y1 =>
    let k1 : Int → Option (Int) := F67_l1 fuel x0 n1
    (cond (decide (y1 < (x0.length : Int))) ((getI x0 y1).bind fun p1 => ((F90 fuel p1.x 0 1000000).bind fun r1 => (cond (!r1) (F67_j1 k1 y1 true) (cond (decide (p1.lo > p1.hi)) (F67_j1 k1 y1 true) (cond (decide (p1.lo < (-1000000000 : Int))) (F67_j1 k1 y1 true) (cond (decide (p1.hi > (1000000000 : Int))) (F67_j1 k1 y1 true) (cond (decide (y1 > (0 : Int))) ((getI x0 (w64 (y1 - (1 : Int)))).bind fun p2 => (F67_j1 k1 y1 (decide (p2.x ≥ p1.x)))) (F67_j1 k1 y1 false)))))))) (some (0)))
def F67 (fuel : Nat) (x0 : List Pt) : Option (Int) :=
  ((F90 fuel (x0.length : Int) 1 40).bind fun r2 => (cond (!r2) (some (11)) (F67_l1 fuel x0 fuel 0)))
set_option maxRecDepth 100000 in
theorem f67_ok (fuel : Nat) (x0 : List Pt) (r : Int) (hr : F67 fuel x0 = some r) (h : Zone) (L : List Atom) (w : World) (hS : St h L w) (o_x0 : Option Addr) (c_x0 : Nat) (hx_x0 : SliceR PtT h o_x0 c_x0 x0) :
    Calls Try.prog 67 #[.agg #[.slice o_x0 x0.length c_x0]] w fun e w' => ∃ v, e = .returned v ∧ (∃ h', Zone.le h h' ∧ v = vI r ∧ St h' L w') := by
  refine calls_intro (N := 56) Try.func67 (by kernel_rfl) fun a hf => ?_
  refine w_seq (by kernel_rfl) ?_
  refine w_reg (by kernel_rfl) ?_
  refine p_box (i := 0) (d := (some 1)) (cs := [.slice o_x0 x0.length c_x0]) (T := 24) (v := fun b1 => pB b1 0) hS hf (fun b => by kernel_rfl) fun b1 ww1 a1 hS1 hf1 => ⟨fun _ => trivial, ?_⟩
  refine p_run 1 [] [1] (fl' := [(1, pB b1 0)]) (obs := []) trivial hf1 (by kernel_rfl) (by kernel_rfl) .nil fun a2 hf2 => ?_
  refine p_done (by kernel_rfl) ?_
  refine n_then ?_
  refine w_seq (by kernel_rfl) ?_
  refine w_seq (by kernel_rfl) ?_
  refine w_reg (by kernel_rfl) ?_
  refine p_run 3 [.slice o_x0 x0.length c_x0] [1, 7] (fl' := [(1, pB b1 0), (7, vI (x0.length : Int))]) (obs := [.cell ⟨b1, 0, none⟩ (.slice o_x0 x0.length c_x0)]) trivial hf2 (by kernel_rfl) (by kernel_rfl) (.cell (hS1.box (i := 0) rfl (j := 0) rfl) .nil) fun a3 hf3 => ?_
  obtain ⟨r2, hd1, hr1⟩ := bind_some hr
  refine p_call (i := 3) (d := some 8) (f := 90) (args := #[vI (x0.length : Int), vI 1, vI 40]) hf3 (by kernel_rfl) (f90_ok fuel (x0.length : Int) 1 40 r2 hd1 h _ _ hS1 ) ?_
  rintro v1 ww2 a4 ⟨z1, k2, rfl, hS2⟩ hf4
  refine ⟨fun _ => trivial, ?_⟩
  refine p_run 1 [] [1, 9] (fl' := [(1, pB b1 0), (9, .bool (!r2))]) (obs := []) trivial hf4 (by kernel_rfl) (by kernel_rfl) .nil fun a5 hf5 => ?_
  refine p_done (by kernel_rfl) ?_
  refine n_then ?_
  refine w_if hf5 (b := (!r2)) (by kernel_rfl) (fun hb1 => ?_) (fun hb1 => ?_)
  · have hr2 := cond_t hb1 hr1
    refine w_seq (by kernel_rfl) ?_
    refine w_reg (by kernel_rfl) ?_
    refine p_run 1 [] [2] (fl' := [(2, vI 11)]) (obs := []) trivial hf5 (by kernel_rfl) (by kernel_rfl) .nil fun a6 hf6 => ?_
    refine p_done (by kernel_rfl) ?_
    refine n_then ?_
    refine w_ret (by kernel_rfl) ?_
    refine r_then ?_
    refine p_ret (os := []) (v := vI 11) (obs := []) hf6 (by kernel_rfl) .nil ?_
    obtain rfl := some_eq hr2
    exact ⟨_, rfl, z1, k2, rfl, (St.drop 1 hS2)⟩
  · have hr3 := cond_f hb1 hr1
    refine w_skip (by kernel_rfl) ?_
    refine n_then ?_
    refine w_seq (by kernel_rfl) ?_
    refine w_seq (by kernel_rfl) ?_
    refine w_reg (by kernel_rfl) ?_
    refine p_run 4 [.slice o_x0 x0.length c_x0] [1, 11, 12, 13] (fl' := [(1, pB b1 0), (11, .slice o_x0 x0.length c_x0), (12, vI (x0.length : Int)), (13, vI 0)]) (obs := [.cell ⟨b1, 0, none⟩ (.slice o_x0 x0.length c_x0)]) trivial hf5 (by kernel_rfl) (by kernel_rfl) (.cell (hS2.box (i := 0) rfl (j := 0) rfl) .nil) fun a7 hf7 => ?_
    refine p_done (by kernel_rfl) ?_
    refine n_then ?_
    refine w_block (id := 0) (by kernel_rfl) ?_
    have hf8 := Fr.keep (ks := [1, 11, 12, 13]) (r := [(1, pB b1 0), (11, .slice o_x0 x0.length c_x0), (12, vI (x0.length : Int)), (13, vI 0)]) hf7 (by kernel_rfl)
    refine w_loop (by kernel_rfl) (fun n a w => ∃ z2 : Zone, ∃ y1 : Int, Zone.le z1 z2 ∧ Fr a 56 [(1, pB b1 0), (11, .slice o_x0 x0.length c_x0), (12, vI (x0.length : Int)), (13, vI y1)] ∧ St z2 (box b1 [.slice o_x0 x0.length c_x0] 24 :: L) w ∧ (F67_l1 fuel x0 n y1) = some r) fuel ⟨z1, 0, (Zone.le_refl _), hf8, hS2, hr3⟩ ?_
    rintro n2 a8 ww3 ⟨z2, y1, k3, hf9, hS3, hr4⟩
    cases n2 with
    | zero => cases hr4
    | succ n1 =>
    refine w_seq (by kernel_rfl) ?_
    refine w_reg (by kernel_rfl) ?_
    refine p_run 1 [] [1, 11, 12, 13, 14] (fl' := [(1, pB b1 0), (11, .slice o_x0 x0.length c_x0), (12, vI (x0.length : Int)), (13, vI y1), (14, .bool (decide (y1 < (x0.length : Int))))]) (obs := []) trivial hf9 (by kernel_rfl) (by kernel_rfl) .nil fun a9 hf10 => ?_
    refine p_done (by kernel_rfl) ?_
    refine n_then ?_
    refine w_seq (by kernel_rfl) ?_
    refine w_if hf10 (b := (decide (y1 < (x0.length : Int)))) (by kernel_rfl) (fun hb2 => ?_) (fun hb2 => ?_)
    · have hr5 := cond_t hb2 hr4
      refine w_skip (by kernel_rfl) ?_
      refine n_then ?_
      refine w_seq (by kernel_rfl) ?_
      refine w_block (id := 1) (by kernel_rfl) ?_
      refine w_seq (by kernel_rfl) ?_
      refine w_reg (by kernel_rfl) ?_
      obtain ⟨p1, hp5958, hr6⟩ := bind_some hr5
      obtain ⟨ad1, ho1, hb3, cc1, hc1, hk1⟩ := SliceR.getI (SliceR.mono (Zone.le_trans k2 k3) hx_x0) hp5958
      subst hc1
      refine p_run 3 [.pointer (some ad1), vI p1.x, vI p1.lo, vI p1.hi] [1, 11, 12, 13, 15, 17] (fl' := [(1, pB b1 0), (11, .slice o_x0 x0.length c_x0), (12, vI (x0.length : Int)), (13, vI y1), (15, vI y1), (17, .agg #[vI p1.x, vI p1.lo, vI p1.hi])]) (obs := [.prop (o_x0 = some ad1), .prop (0 ≤ y1 ∧ y1 < (x0.length : Nat)), .cell ((ad1.add (Int.toNat y1 * 3)).add 0) (vI p1.x), .cell ((ad1.add (Int.toNat y1 * 3)).add 1) (vI p1.lo), .cell ((ad1.add (Int.toNat y1 * 3)).add 2) (vI p1.hi)]) trivial hf10 (by kernel_rfl) (by kernel_rfl) (.prop ho1 (.prop hb3 (.cell (hS3.cell (hk1 0 _ rfl)) (.cell (hS3.cell (hk1 1 _ rfl)) (.cell (hS3.cell (hk1 2 _ rfl)) .nil))))) fun a10 hf11 => ?_
      refine p_box (i := 3) (d := (some 4)) (cs := [vI 0, vI 0, vI 0]) (T := 52) (v := fun b2 => pB b2 0) hS3 hf11 (fun b => by kernel_rfl) fun b2 ww4 a11 hS4 hf12 => ⟨fun _ => trivial, ?_⟩
      refine p_run 1 [] [1, 3, 4, 11, 12, 13, 17] (fl' := [(1, pB b1 0), (3, vI y1), (4, pB b2 0), (11, .slice o_x0 x0.length c_x0), (12, vI (x0.length : Int)), (13, vI y1), (17, .agg #[vI p1.x, vI p1.lo, vI p1.hi])]) (obs := []) trivial hf12 (by kernel_rfl) (by kernel_rfl) .nil fun a12 hf13 => ?_
      refine p_store_eq (i := 5) (j := 0) (b := b2) (off := 0) (vs := [vI p1.x, vI p1.lo, vI p1.hi]) (cs' := [vI p1.x, vI p1.lo, vI p1.hi]) hS4 hf13 rfl (by kernel_rfl) (by kernel_rfl) rfl fun ww5 a13 hS5 hf14 => ⟨fun _ => trivial, ?_⟩
      refine p_done (by kernel_rfl) ?_
      refine n_then ?_
      refine w_mid (by kernel_rfl) (fun a w => ∃ z3 : Zone, ∃ y2 : Bool, Zone.le z2 z3 ∧ Fr a 56 [(1, pB b1 0), (11, .slice o_x0 x0.length c_x0), (12, vI (x0.length : Int)), (13, vI y1), (54, .bool y2)] ∧ St z3 (box b2 [vI p1.x, vI p1.lo, vI p1.hi] 52 :: box b1 [.slice o_x0 x0.length c_x0] 24 :: L) w ∧ (F67_j1 (F67_l1 fuel x0 n1) y1 y2) = some r) ?_ ?_
      · skip
        have hS6 := hS5.drew
        have s1 : Sub z2 (box b2 [vI p1.x, vI p1.lo, vI p1.hi] 52 :: box b1 [.slice o_x0 x0.length c_x0] 24 :: L) _ := Sub.of (Zone.le_refl _) hS6
        refine w_regD (by kernel_rfl) [(0, true), (1, true), (2, false), (3, true), (4, true), (5, true), (6, true), (7, true), (8, true), (9, true), (10, true), (11, true), (12, true), (13, true), (14, true), (15, true), (16, true), (17, true), (18, true), (19, true), (20, true), (21, true), (22, true), (23, true), (24, true), (25, true), (26, true), (27, true), (28, true), (29, true), (30, true), (31, true), (32, true), (33, true), (34, true), (35, true), (36, true)] [] (Sub z2 (box b2 [vI p1.x, vI p1.lo, vI p1.hi] 52 :: box b1 [.slice o_x0 x0.length c_x0] 24 :: L)) (by kernel_rfl) s1 ?_
        refine p_firstP 1 [] [1, 3, 4, 11, 12, 13, 18] (fl' := [(1, pB b1 0), (3, vI y1), (4, pB b2 0), (11, .slice o_x0 x0.length c_x0), (12, vI (x0.length : Int)), (13, vI y1), (18, pB b2 0)]) (obs := []) hf14 (by kernel_rfl) (by kernel_rfl) (fun _ => .nil) fun a14 hf15 => ?_
        refine p_first 1 [vI p1.x] [1, 3, 4, 11, 12, 13, 19] (fl' := [(1, pB b1 0), (3, vI y1), (4, pB b2 0), (11, .slice o_x0 x0.length c_x0), (12, vI (x0.length : Int)), (13, vI y1), (19, vI p1.x)]) (obs := [.cell ⟨b2, 0, none⟩ (vI p1.x)]) s1 (by kernel_rfl) hf15 (by kernel_rfl) (by kernel_rfl) (fun _ s => (.cell (s.box (i := 0) rfl (j := 0) rfl) .nil)) fun a15 hf16 => ?_
        obtain ⟨r1, hd2, hr7⟩ := bind_some hr6
        refine p_call (i := 2) (d := some 20) (f := 90) (args := #[vI p1.x, vI 0, vI 1000000]) hf16 (by kernel_rfl) (f90_ok fuel p1.x 0 1000000 r1 hd2 z2 _ _ hS6 ) ?_
        rintro v2 ww6 a16 ⟨z4, k4, rfl, hS7⟩ hf17
        refine ⟨fun _ => Sub.of k4 hS7, ?_⟩
        have s2 : Sub z2 (box b2 [vI p1.x, vI p1.lo, vI p1.hi] 52 :: box b1 [.slice o_x0 x0.length c_x0] 24 :: L) _ := Sub.of k4 hS7
        refine p_firstP 2 [] [1, 3, 4, 11, 12, 13, 22] (fl' := [(1, pB b1 0), (3, vI y1), (4, pB b2 0), (11, .slice o_x0 x0.length c_x0), (12, vI (x0.length : Int)), (13, vI y1), (22, .bool (!r1))]) (obs := []) hf17 (by kernel_rfl) (by kernel_rfl) (fun _ => .nil) fun a17 hf18 => ?_
        rcases Bool.eq_false_or_eq_true (!r1) with hb4 | hb4
        · have hr8 := cond_t hb4 hr7
          have hf19 := Fr.conv hf18 (congrArg (fun z => ([(1, pB b1 0), (3, vI y1), (4, pB b2 0), (11, .slice o_x0 x0.length c_x0), (12, vI (x0.length : Int)), (13, vI y1), (22, .bool z)] : FL)) hb4)
          refine p_firstP 1 [] [1, 3, 4, 11, 12, 13, 22, 23] (fl' := [(1, pB b1 0), (3, vI y1), (4, pB b2 0), (11, .slice o_x0 x0.length c_x0), (12, vI (x0.length : Int)), (13, vI y1), (22, .bool true), (23, undef)]) (obs := []) hf19 (by kernel_rfl) (by kernel_rfl) (fun _ => .nil) fun a18 hf20 => ?_
          refine p_first 1 [] [1, 3, 4, 11, 12, 13, 22, 23, 24] (fl' := [(1, pB b1 0), (3, vI y1), (4, pB b2 0), (11, .slice o_x0 x0.length c_x0), (12, vI (x0.length : Int)), (13, vI y1), (22, .bool true), (23, undef), (24, undef)]) (obs := []) s2 (by kernel_rfl) hf20 (by kernel_rfl) (by kernel_rfl) (fun _ s => .nil) fun a19 hf21 => ?_
          refine p_firstP 1 [] [1, 3, 4, 11, 12, 13, 22, 23, 24, 25] (fl' := [(1, pB b1 0), (3, vI y1), (4, pB b2 0), (11, .slice o_x0 x0.length c_x0), (12, vI (x0.length : Int)), (13, vI y1), (22, .bool true), (23, undef), (24, undef), (25, undef)]) (obs := []) hf21 (by kernel_rfl) (by kernel_rfl) (fun _ => .nil) fun a20 hf22 => ?_
          refine p_first 1 [] [1, 3, 4, 11, 12, 13, 22, 23, 24, 25, 26] (fl' := [(1, pB b1 0), (3, vI y1), (4, pB b2 0), (11, .slice o_x0 x0.length c_x0), (12, vI (x0.length : Int)), (13, vI y1), (22, .bool true), (23, undef), (24, undef), (25, undef), (26, undef)]) (obs := []) s2 (by kernel_rfl) hf22 (by kernel_rfl) (by kernel_rfl) (fun _ s => .nil) fun a21 hf23 => ?_
          refine p_firstP 4 [] [1, 3, 4, 11, 12, 13, 23, 24, 25, 26, 27, 29, 30] (fl' := [(1, pB b1 0), (3, vI y1), (4, pB b2 0), (11, .slice o_x0 x0.length c_x0), (12, vI (x0.length : Int)), (13, vI y1), (23, undef), (24, undef), (25, undef), (26, undef), (27, undef), (29, .bool true), (30, undef)]) (obs := []) hf23 (by kernel_rfl) (by kernel_rfl) (fun _ => .nil) fun a22 hf24 => ?_
          refine p_first 1 [] [1, 3, 4, 11, 12, 13, 23, 24, 25, 26, 27, 29, 30, 31] (fl' := [(1, pB b1 0), (3, vI y1), (4, pB b2 0), (11, .slice o_x0 x0.length c_x0), (12, vI (x0.length : Int)), (13, vI y1), (23, undef), (24, undef), (25, undef), (26, undef), (27, undef), (29, .bool true), (30, undef), (31, undef)]) (obs := []) s2 (by kernel_rfl) hf24 (by kernel_rfl) (by kernel_rfl) (fun _ s => .nil) fun a23 hf25 => ?_
          refine p_firstP 4 [] [1, 3, 4, 11, 12, 13, 23, 24, 25, 26, 27, 30, 31, 32, 34, 35] (fl' := [(1, pB b1 0), (3, vI y1), (4, pB b2 0), (11, .slice o_x0 x0.length c_x0), (12, vI (x0.length : Int)), (13, vI y1), (23, undef), (24, undef), (25, undef), (26, undef), (27, undef), (30, undef), (31, undef), (32, undef), (34, .bool true), (35, undef)]) (obs := []) hf25 (by kernel_rfl) (by kernel_rfl) (fun _ => .nil) fun a24 hf26 => ?_
          refine p_first 1 [] [1, 3, 4, 11, 12, 13, 23, 24, 25, 26, 27, 30, 31, 32, 34, 35, 36] (fl' := [(1, pB b1 0), (3, vI y1), (4, pB b2 0), (11, .slice o_x0 x0.length c_x0), (12, vI (x0.length : Int)), (13, vI y1), (23, undef), (24, undef), (25, undef), (26, undef), (27, undef), (30, undef), (31, undef), (32, undef), (34, .bool true), (35, undef), (36, undef)]) (obs := []) s2 (by kernel_rfl) hf26 (by kernel_rfl) (by kernel_rfl) (fun _ s => .nil) fun a25 hf27 => ?_
          refine p_firstP 7 [] [1, 3, 4, 11, 12, 13, 23, 24, 25, 26, 27, 30, 31, 32, 35, 36, 37, 39, 40, 41, 42, 43] (fl' := [(1, pB b1 0), (3, vI y1), (4, pB b2 0), (11, .slice o_x0 x0.length c_x0), (12, vI (x0.length : Int)), (13, vI y1), (23, undef), (24, undef), (25, undef), (26, undef), (27, undef), (30, undef), (31, undef), (32, undef), (35, undef), (36, undef), (37, undef), (39, .bool true), (40, undef), (41, undef), (42, undef), (43, undef)]) (obs := []) hf27 (by kernel_rfl) (by kernel_rfl) (fun _ => .nil) fun a26 hf28 => ?_
          refine p_first 1 [] [1, 3, 4, 11, 12, 13, 23, 24, 25, 26, 27, 30, 31, 32, 35, 36, 37, 39, 40, 41, 42, 43, 44] (fl' := [(1, pB b1 0), (3, vI y1), (4, pB b2 0), (11, .slice o_x0 x0.length c_x0), (12, vI (x0.length : Int)), (13, vI y1), (23, undef), (24, undef), (25, undef), (26, undef), (27, undef), (30, undef), (31, undef), (32, undef), (35, undef), (36, undef), (37, undef), (39, .bool true), (40, undef), (41, undef), (42, undef), (43, undef), (44, undef)]) (obs := []) s2 (by kernel_rfl) hf28 (by kernel_rfl) (by kernel_rfl) (fun _ s => .nil) fun a27 hf29 => ?_
          refine p_firstP 4 [] [1, 4, 11, 12, 13, 23, 24, 25, 26, 27, 30, 31, 32, 35, 36, 37, 39, 40, 41, 42, 43, 44, 45, 46, 47, 48] (fl' := [(1, pB b1 0), (4, pB b2 0), (11, .slice o_x0 x0.length c_x0), (12, vI (x0.length : Int)), (13, vI y1), (23, undef), (24, undef), (25, undef), (26, undef), (27, undef), (30, undef), (31, undef), (32, undef), (35, undef), (36, undef), (37, undef), (39, .bool true), (40, undef), (41, undef), (42, undef), (43, undef), (44, undef), (45, undef), (46, undef), (47, undef), (48, undef)]) (obs := []) hf29 (by kernel_rfl) (by kernel_rfl) (fun _ => .nil) fun a28 hf30 => ?_
          refine p_first 1 [] [1, 4, 11, 12, 13, 23, 24, 25, 26, 27, 30, 31, 32, 35, 36, 37, 39, 40, 41, 42, 43, 44, 45, 46, 47, 48, 49] (fl' := [(1, pB b1 0), (4, pB b2 0), (11, .slice o_x0 x0.length c_x0), (12, vI (x0.length : Int)), (13, vI y1), (23, undef), (24, undef), (25, undef), (26, undef), (27, undef), (30, undef), (31, undef), (32, undef), (35, undef), (36, undef), (37, undef), (39, .bool true), (40, undef), (41, undef), (42, undef), (43, undef), (44, undef), (45, undef), (46, undef), (47, undef), (48, undef), (49, undef)]) (obs := []) s2 (by kernel_rfl) hf30 (by kernel_rfl) (by kernel_rfl) (fun _ s => .nil) fun a29 hf31 => ?_
          refine p_firstP 1 [] [1, 11, 12, 13, 23, 24, 25, 26, 27, 30, 31, 32, 35, 36, 37, 39, 40, 41, 42, 43, 44, 45, 46, 47, 48, 49, 50] (fl' := [(1, pB b1 0), (11, .slice o_x0 x0.length c_x0), (12, vI (x0.length : Int)), (13, vI y1), (23, undef), (24, undef), (25, undef), (26, undef), (27, undef), (30, undef), (31, undef), (32, undef), (35, undef), (36, undef), (37, undef), (39, .bool true), (40, undef), (41, undef), (42, undef), (43, undef), (44, undef), (45, undef), (46, undef), (47, undef), (48, undef), (49, undef), (50, undef)]) (obs := []) hf31 (by kernel_rfl) (by kernel_rfl) (fun _ => .nil) fun a30 hf32 => ?_
          refine p_first 1 [] [1, 11, 12, 13, 23, 24, 25, 26, 27, 30, 31, 32, 35, 36, 37, 39, 40, 41, 42, 43, 44, 45, 46, 47, 48, 49, 50, 51] (fl' := [(1, pB b1 0), (11, .slice o_x0 x0.length c_x0), (12, vI (x0.length : Int)), (13, vI y1), (23, undef), (24, undef), (25, undef), (26, undef), (27, undef), (30, undef), (31, undef), (32, undef), (35, undef), (36, undef), (37, undef), (39, .bool true), (40, undef), (41, undef), (42, undef), (43, undef), (44, undef), (45, undef), (46, undef), (47, undef), (48, undef), (49, undef), (50, undef), (51, undef)]) (obs := []) s2 (by kernel_rfl) hf32 (by kernel_rfl) (by kernel_rfl) (fun _ s => .nil) fun a31 hf33 => ?_
          refine p_firstP 3 [] [1, 11, 12, 13, 23, 24, 25, 26, 27, 30, 31, 32, 35, 36, 37, 40, 41, 42, 43, 44, 45, 46, 47, 48, 49, 50, 51, 52, 53, 54] (fl' := [(1, pB b1 0), (11, .slice o_x0 x0.length c_x0), (12, vI (x0.length : Int)), (13, vI y1), (23, undef), (24, undef), (25, undef), (26, undef), (27, undef), (30, undef), (31, undef), (32, undef), (35, undef), (36, undef), (37, undef), (40, undef), (41, undef), (42, undef), (43, undef), (44, undef), (45, undef), (46, undef), (47, undef), (48, undef), (49, undef), (50, undef), (51, undef), (52, undef), (53, undef), (54, .bool true)]) (obs := []) hf33 (by kernel_rfl) (by kernel_rfl) (fun _ => .nil) fun a32 hf34 => ?_
          refine p_done (by kernel_rfl) ?_
          refine n_then ?_
          have hf35 := Fr.keep (ks := [1, 11, 12, 13, 54]) (r := [(1, pB b1 0), (11, .slice o_x0 x0.length c_x0), (12, vI (x0.length : Int)), (13, vI y1), (54, .bool true)]) hf34 (by kernel_rfl)
          exact ⟨z4, true, k4, hf35, hS7, hr8⟩
        · have hr9 := cond_f hb4 hr7
          have hf36 := Fr.conv hf18 (congrArg (fun z => ([(1, pB b1 0), (3, vI y1), (4, pB b2 0), (11, .slice o_x0 x0.length c_x0), (12, vI (x0.length : Int)), (13, vI y1), (22, .bool z)] : FL)) hb4)
          refine p_firstP 1 [] [1, 3, 4, 11, 12, 13, 22, 23] (fl' := [(1, pB b1 0), (3, vI y1), (4, pB b2 0), (11, .slice o_x0 x0.length c_x0), (12, vI (x0.length : Int)), (13, vI y1), (22, .bool false), (23, pB b2 1)]) (obs := []) hf36 (by kernel_rfl) (by kernel_rfl) (fun _ => .nil) fun a33 hf37 => ?_
          refine p_first 1 [vI p1.lo] [1, 3, 4, 11, 12, 13, 22, 23, 24] (fl' := [(1, pB b1 0), (3, vI y1), (4, pB b2 0), (11, .slice o_x0 x0.length c_x0), (12, vI (x0.length : Int)), (13, vI y1), (22, .bool false), (23, pB b2 1), (24, vI p1.lo)]) (obs := [.cell ⟨b2, 1, none⟩ (vI p1.lo)]) s2 (by kernel_rfl) hf37 (by kernel_rfl) (by kernel_rfl) (fun _ s => (.cell (s.box (i := 0) rfl (j := 1) rfl) .nil)) fun a34 hf38 => ?_
          refine p_firstP 1 [] [1, 3, 4, 11, 12, 13, 22, 23, 24, 25] (fl' := [(1, pB b1 0), (3, vI y1), (4, pB b2 0), (11, .slice o_x0 x0.length c_x0), (12, vI (x0.length : Int)), (13, vI y1), (22, .bool false), (23, pB b2 1), (24, vI p1.lo), (25, pB b2 2)]) (obs := []) hf38 (by kernel_rfl) (by kernel_rfl) (fun _ => .nil) fun a35 hf39 => ?_
          refine p_first 1 [vI p1.hi] [1, 3, 4, 11, 12, 13, 22, 23, 24, 25, 26] (fl' := [(1, pB b1 0), (3, vI y1), (4, pB b2 0), (11, .slice o_x0 x0.length c_x0), (12, vI (x0.length : Int)), (13, vI y1), (22, .bool false), (23, pB b2 1), (24, vI p1.lo), (25, pB b2 2), (26, vI p1.hi)]) (obs := [.cell ⟨b2, 2, none⟩ (vI p1.hi)]) s2 (by kernel_rfl) hf39 (by kernel_rfl) (by kernel_rfl) (fun _ s => (.cell (s.box (i := 0) rfl (j := 2) rfl) .nil)) fun a36 hf40 => ?_
          refine p_firstP 3 [] [1, 3, 4, 11, 12, 13, 23, 24, 25, 26, 27, 29] (fl' := [(1, pB b1 0), (3, vI y1), (4, pB b2 0), (11, .slice o_x0 x0.length c_x0), (12, vI (x0.length : Int)), (13, vI y1), (23, pB b2 1), (24, vI p1.lo), (25, pB b2 2), (26, vI p1.hi), (27, .bool (decide (p1.lo > p1.hi))), (29, .bool (decide (p1.lo > p1.hi)))]) (obs := []) hf40 (by kernel_rfl) (by kernel_rfl) (fun _ => .nil) fun a37 hf41 => ?_
          rcases Bool.eq_false_or_eq_true (decide (p1.lo > p1.hi)) with hb5 | hb5
          · have hr10 := cond_t hb5 hr9
            have hf42 := Fr.conv hf41 (congrArg (fun z => ([(1, pB b1 0), (3, vI y1), (4, pB b2 0), (11, .slice o_x0 x0.length c_x0), (12, vI (x0.length : Int)), (13, vI y1), (23, pB b2 1), (24, vI p1.lo), (25, pB b2 2), (26, vI p1.hi), (27, .bool (decide (p1.lo > p1.hi))), (29, .bool z)] : FL)) hb5)
            refine p_firstP 1 [] [1, 3, 4, 11, 12, 13, 23, 24, 25, 26, 27, 29, 30] (fl' := [(1, pB b1 0), (3, vI y1), (4, pB b2 0), (11, .slice o_x0 x0.length c_x0), (12, vI (x0.length : Int)), (13, vI y1), (23, pB b2 1), (24, vI p1.lo), (25, pB b2 2), (26, vI p1.hi), (27, .bool (decide (p1.lo > p1.hi))), (29, .bool true), (30, undef)]) (obs := []) hf42 (by kernel_rfl) (by kernel_rfl) (fun _ => .nil) fun a38 hf43 => ?_
            refine p_first 1 [] [1, 3, 4, 11, 12, 13, 23, 24, 25, 26, 27, 29, 30, 31] (fl' := [(1, pB b1 0), (3, vI y1), (4, pB b2 0), (11, .slice o_x0 x0.length c_x0), (12, vI (x0.length : Int)), (13, vI y1), (23, pB b2 1), (24, vI p1.lo), (25, pB b2 2), (26, vI p1.hi), (27, .bool (decide (p1.lo > p1.hi))), (29, .bool true), (30, undef), (31, undef)]) (obs := []) s2 (by kernel_rfl) hf43 (by kernel_rfl) (by kernel_rfl) (fun _ s => .nil) fun a39 hf44 => ?_
            refine p_firstP 4 [] [1, 3, 4, 11, 12, 13, 23, 24, 25, 26, 27, 30, 31, 32, 34, 35] (fl' := [(1, pB b1 0), (3, vI y1), (4, pB b2 0), (11, .slice o_x0 x0.length c_x0), (12, vI (x0.length : Int)), (13, vI y1), (23, pB b2 1), (24, vI p1.lo), (25, pB b2 2), (26, vI p1.hi), (27, .bool (decide (p1.lo > p1.hi))), (30, undef), (31, undef), (32, undef), (34, .bool true), (35, undef)]) (obs := []) hf44 (by kernel_rfl) (by kernel_rfl) (fun _ => .nil) fun a40 hf45 => ?_
            refine p_first 1 [] [1, 3, 4, 11, 12, 13, 23, 24, 25, 26, 27, 30, 31, 32, 34, 35, 36] (fl' := [(1, pB b1 0), (3, vI y1), (4, pB b2 0), (11, .slice o_x0 x0.length c_x0), (12, vI (x0.length : Int)), (13, vI y1), (23, pB b2 1), (24, vI p1.lo), (25, pB b2 2), (26, vI p1.hi), (27, .bool (decide (p1.lo > p1.hi))), (30, undef), (31, undef), (32, undef), (34, .bool true), (35, undef), (36, undef)]) (obs := []) s2 (by kernel_rfl) hf45 (by kernel_rfl) (by kernel_rfl) (fun _ s => .nil) fun a41 hf46 => ?_
            refine p_firstP 7 [] [1, 3, 4, 11, 12, 13, 23, 24, 25, 26, 27, 30, 31, 32, 35, 36, 37, 39, 40, 41, 42, 43] (fl' := [(1, pB b1 0), (3, vI y1), (4, pB b2 0), (11, .slice o_x0 x0.length c_x0), (12, vI (x0.length : Int)), (13, vI y1), (23, pB b2 1), (24, vI p1.lo), (25, pB b2 2), (26, vI p1.hi), (27, .bool (decide (p1.lo > p1.hi))), (30, undef), (31, undef), (32, undef), (35, undef), (36, undef), (37, undef), (39, .bool true), (40, undef), (41, undef), (42, undef), (43, undef)]) (obs := []) hf46 (by kernel_rfl) (by kernel_rfl) (fun _ => .nil) fun a42 hf47 => ?_
            refine p_first 1 [] [1, 3, 4, 11, 12, 13, 23, 24, 25, 26, 27, 30, 31, 32, 35, 36, 37, 39, 40, 41, 42, 43, 44] (fl' := [(1, pB b1 0), (3, vI y1), (4, pB b2 0), (11, .slice o_x0 x0.length c_x0), (12, vI (x0.length : Int)), (13, vI y1), (23, pB b2 1), (24, vI p1.lo), (25, pB b2 2), (26, vI p1.hi), (27, .bool (decide (p1.lo > p1.hi))), (30, undef), (31, undef), (32, undef), (35, undef), (36, undef), (37, undef), (39, .bool true), (40, undef), (41, undef), (42, undef), (43, undef), (44, undef)]) (obs := []) s2 (by kernel_rfl) hf47 (by kernel_rfl) (by kernel_rfl) (fun _ s => .nil) fun a43 hf48 => ?_
            refine p_firstP 4 [] [1, 4, 11, 12, 13, 23, 24, 25, 26, 27, 30, 31, 32, 35, 36, 37, 39, 40, 41, 42, 43, 44, 45, 46, 47, 48] (fl' := [(1, pB b1 0), (4, pB b2 0), (11, .slice o_x0 x0.length c_x0), (12, vI (x0.length : Int)), (13, vI y1), (23, pB b2 1), (24, vI p1.lo), (25, pB b2 2), (26, vI p1.hi), (27, .bool (decide (p1.lo > p1.hi))), (30, undef), (31, undef), (32, undef), (35, undef), (36, undef), (37, undef), (39, .bool true), (40, undef), (41, undef), (42, undef), (43, undef), (44, undef), (45, undef), (46, undef), (47, undef), (48, undef)]) (obs := []) hf48 (by kernel_rfl) (by kernel_rfl) (fun _ => .nil) fun a44 hf49 => ?_
            refine p_first 1 [] [1, 4, 11, 12, 13, 23, 24, 25, 26, 27, 30, 31, 32, 35, 36, 37, 39, 40, 41, 42, 43, 44, 45, 46, 47, 48, 49] (fl' := [(1, pB b1 0), (4, pB b2 0), (11, .slice o_x0 x0.length c_x0), (12, vI (x0.length : Int)), (13, vI y1), (23, pB b2 1), (24, vI p1.lo), (25, pB b2 2), (26, vI p1.hi), (27, .bool (decide (p1.lo > p1.hi))), (30, undef), (31, undef), (32, undef), (35, undef), (36, undef), (37, undef), (39, .bool true), (40, undef), (41, undef), (42, undef), (43, undef), (44, undef), (45, undef), (46, undef), (47, undef), (48, undef), (49, undef)]) (obs := []) s2 (by kernel_rfl) hf49 (by kernel_rfl) (by kernel_rfl) (fun _ s => .nil) fun a45 hf50 => ?_
            refine p_firstP 1 [] [1, 11, 12, 13, 23, 24, 25, 26, 27, 30, 31, 32, 35, 36, 37, 39, 40, 41, 42, 43, 44, 45, 46, 47, 48, 49, 50] (fl' := [(1, pB b1 0), (11, .slice o_x0 x0.length c_x0), (12, vI (x0.length : Int)), (13, vI y1), (23, pB b2 1), (24, vI p1.lo), (25, pB b2 2), (26, vI p1.hi), (27, .bool (decide (p1.lo > p1.hi))), (30, undef), (31, undef), (32, undef), (35, undef), (36, undef), (37, undef), (39, .bool true), (40, undef), (41, undef), (42, undef), (43, undef), (44, undef), (45, undef), (46, undef), (47, undef), (48, undef), (49, undef), (50, undef)]) (obs := []) hf50 (by kernel_rfl) (by kernel_rfl) (fun _ => .nil) fun a46 hf51 => ?_
            refine p_first 1 [] [1, 11, 12, 13, 23, 24, 25, 26, 27, 30, 31, 32, 35, 36, 37, 39, 40, 41, 42, 43, 44, 45, 46, 47, 48, 49, 50, 51] (fl' := [(1, pB b1 0), (11, .slice o_x0 x0.length c_x0), (12, vI (x0.length : Int)), (13, vI y1), (23, pB b2 1), (24, vI p1.lo), (25, pB b2 2), (26, vI p1.hi), (27, .bool (decide (p1.lo > p1.hi))), (30, undef), (31, undef), (32, undef), (35, undef), (36, undef), (37, undef), (39, .bool true), (40, undef), (41, undef), (42, undef), (43, undef), (44, undef), (45, undef), (46, undef), (47, undef), (48, undef), (49, undef), (50, undef), (51, undef)]) (obs := []) s2 (by kernel_rfl) hf51 (by kernel_rfl) (by kernel_rfl) (fun _ s => .nil) fun a47 hf52 => ?_
            refine p_firstP 3 [] [1, 11, 12, 13, 23, 24, 25, 26, 27, 30, 31, 32, 35, 36, 37, 40, 41, 42, 43, 44, 45, 46, 47, 48, 49, 50, 51, 52, 53, 54] (fl' := [(1, pB b1 0), (11, .slice o_x0 x0.length c_x0), (12, vI (x0.length : Int)), (13, vI y1), (23, pB b2 1), (24, vI p1.lo), (25, pB b2 2), (26, vI p1.hi), (27, .bool (decide (p1.lo > p1.hi))), (30, undef), (31, undef), (32, undef), (35, undef), (36, undef), (37, undef), (40, undef), (41, undef), (42, undef), (43, undef), (44, undef), (45, undef), (46, undef), (47, undef), (48, undef), (49, undef), (50, undef), (51, undef), (52, undef), (53, undef), (54, .bool true)]) (obs := []) hf52 (by kernel_rfl) (by kernel_rfl) (fun _ => .nil) fun a48 hf53 => ?_
            refine p_done (by kernel_rfl) ?_
            refine n_then ?_
            have hf54 := Fr.keep (ks := [1, 11, 12, 13, 54]) (r := [(1, pB b1 0), (11, .slice o_x0 x0.length c_x0), (12, vI (x0.length : Int)), (13, vI y1), (54, .bool true)]) hf53 (by kernel_rfl)
            exact ⟨z4, true, k4, hf54, hS7, hr10⟩
          · have hr11 := cond_f hb5 hr9
            have hf55 := Fr.conv hf41 (congrArg (fun z => ([(1, pB b1 0), (3, vI y1), (4, pB b2 0), (11, .slice o_x0 x0.length c_x0), (12, vI (x0.length : Int)), (13, vI y1), (23, pB b2 1), (24, vI p1.lo), (25, pB b2 2), (26, vI p1.hi), (27, .bool (decide (p1.lo > p1.hi))), (29, .bool z)] : FL)) hb5)
            refine p_firstP 1 [] [1, 3, 4, 11, 12, 13, 23, 24, 25, 26, 27, 29, 30] (fl' := [(1, pB b1 0), (3, vI y1), (4, pB b2 0), (11, .slice o_x0 x0.length c_x0), (12, vI (x0.length : Int)), (13, vI y1), (23, pB b2 1), (24, vI p1.lo), (25, pB b2 2), (26, vI p1.hi), (27, .bool (decide (p1.lo > p1.hi))), (29, .bool false), (30, pB b2 1)]) (obs := []) hf55 (by kernel_rfl) (by kernel_rfl) (fun _ => .nil) fun a49 hf56 => ?_
            refine p_first 1 [vI p1.lo] [1, 3, 4, 11, 12, 13, 23, 24, 25, 26, 27, 29, 30, 31] (fl' := [(1, pB b1 0), (3, vI y1), (4, pB b2 0), (11, .slice o_x0 x0.length c_x0), (12, vI (x0.length : Int)), (13, vI y1), (23, pB b2 1), (24, vI p1.lo), (25, pB b2 2), (26, vI p1.hi), (27, .bool (decide (p1.lo > p1.hi))), (29, .bool false), (30, pB b2 1), (31, vI p1.lo)]) (obs := [.cell ⟨b2, 1, none⟩ (vI p1.lo)]) s2 (by kernel_rfl) hf56 (by kernel_rfl) (by kernel_rfl) (fun _ s => (.cell (s.box (i := 0) rfl (j := 1) rfl) .nil)) fun a50 hf57 => ?_
            refine p_firstP 3 [] [1, 3, 4, 11, 12, 13, 23, 24, 25, 26, 27, 30, 31, 32, 34] (fl' := [(1, pB b1 0), (3, vI y1), (4, pB b2 0), (11, .slice o_x0 x0.length c_x0), (12, vI (x0.length : Int)), (13, vI y1), (23, pB b2 1), (24, vI p1.lo), (25, pB b2 2), (26, vI p1.hi), (27, .bool (decide (p1.lo > p1.hi))), (30, pB b2 1), (31, vI p1.lo), (32, .bool (decide (p1.lo < (-1000000000 : Int)))), (34, .bool (decide (p1.lo < (-1000000000 : Int))))]) (obs := []) hf57 (by kernel_rfl) (by kernel_rfl) (fun _ => .nil) fun a51 hf58 => ?_
            rcases Bool.eq_false_or_eq_true (decide (p1.lo < (-1000000000 : Int))) with hb6 | hb6
            · have hr12 := cond_t hb6 hr11
              have hf59 := Fr.conv hf58 (congrArg (fun z => ([(1, pB b1 0), (3, vI y1), (4, pB b2 0), (11, .slice o_x0 x0.length c_x0), (12, vI (x0.length : Int)), (13, vI y1), (23, pB b2 1), (24, vI p1.lo), (25, pB b2 2), (26, vI p1.hi), (27, .bool (decide (p1.lo > p1.hi))), (30, pB b2 1), (31, vI p1.lo), (32, .bool (decide (p1.lo < (-1000000000 : Int)))), (34, .bool z)] : FL)) hb6)
              refine p_firstP 1 [] [1, 3, 4, 11, 12, 13, 23, 24, 25, 26, 27, 30, 31, 32, 34, 35] (fl' := [(1, pB b1 0), (3, vI y1), (4, pB b2 0), (11, .slice o_x0 x0.length c_x0), (12, vI (x0.length : Int)), (13, vI y1), (23, pB b2 1), (24, vI p1.lo), (25, pB b2 2), (26, vI p1.hi), (27, .bool (decide (p1.lo > p1.hi))), (30, pB b2 1), (31, vI p1.lo), (32, .bool (decide (p1.lo < (-1000000000 : Int)))), (34, .bool true), (35, undef)]) (obs := []) hf59 (by kernel_rfl) (by kernel_rfl) (fun _ => .nil) fun a52 hf60 => ?_
              refine p_first 1 [] [1, 3, 4, 11, 12, 13, 23, 24, 25, 26, 27, 30, 31, 32, 34, 35, 36] (fl' := [(1, pB b1 0), (3, vI y1), (4, pB b2 0), (11, .slice o_x0 x0.length c_x0), (12, vI (x0.length : Int)), (13, vI y1), (23, pB b2 1), (24, vI p1.lo), (25, pB b2 2), (26, vI p1.hi), (27, .bool (decide (p1.lo > p1.hi))), (30, pB b2 1), (31, vI p1.lo), (32, .bool (decide (p1.lo < (-1000000000 : Int)))), (34, .bool true), (35, undef), (36, undef)]) (obs := []) s2 (by kernel_rfl) hf60 (by kernel_rfl) (by kernel_rfl) (fun _ s => .nil) fun a53 hf61 => ?_
              refine p_firstP 7 [] [1, 3, 4, 11, 12, 13, 23, 24, 25, 26, 27, 30, 31, 32, 35, 36, 37, 39, 40, 41, 42, 43] (fl' := [(1, pB b1 0), (3, vI y1), (4, pB b2 0), (11, .slice o_x0 x0.length c_x0), (12, vI (x0.length : Int)), (13, vI y1), (23, pB b2 1), (24, vI p1.lo), (25, pB b2 2), (26, vI p1.hi), (27, .bool (decide (p1.lo > p1.hi))), (30, pB b2 1), (31, vI p1.lo), (32, .bool (decide (p1.lo < (-1000000000 : Int)))), (35, undef), (36, undef), (37, undef), (39, .bool true), (40, undef), (41, undef), (42, undef), (43, undef)]) (obs := []) hf61 (by kernel_rfl) (by kernel_rfl) (fun _ => .nil) fun a54 hf62 => ?_
              refine p_first 1 [] [1, 3, 4, 11, 12, 13, 23, 24, 25, 26, 27, 30, 31, 32, 35, 36, 37, 39, 40, 41, 42, 43, 44] (fl' := [(1, pB b1 0), (3, vI y1), (4, pB b2 0), (11, .slice o_x0 x0.length c_x0), (12, vI (x0.length : Int)), (13, vI y1), (23, pB b2 1), (24, vI p1.lo), (25, pB b2 2), (26, vI p1.hi), (27, .bool (decide (p1.lo > p1.hi))), (30, pB b2 1), (31, vI p1.lo), (32, .bool (decide (p1.lo < (-1000000000 : Int)))), (35, undef), (36, undef), (37, undef), (39, .bool true), (40, undef), (41, undef), (42, undef), (43, undef), (44, undef)]) (obs := []) s2 (by kernel_rfl) hf62 (by kernel_rfl) (by kernel_rfl) (fun _ s => .nil) fun a55 hf63 => ?_
              refine p_firstP 4 [] [1, 4, 11, 12, 13, 23, 24, 25, 26, 27, 30, 31, 32, 35, 36, 37, 39, 40, 41, 42, 43, 44, 45, 46, 47, 48] (fl' := [(1, pB b1 0), (4, pB b2 0), (11, .slice o_x0 x0.length c_x0), (12, vI (x0.length : Int)), (13, vI y1), (23, pB b2 1), (24, vI p1.lo), (25, pB b2 2), (26, vI p1.hi), (27, .bool (decide (p1.lo > p1.hi))), (30, pB b2 1), (31, vI p1.lo), (32, .bool (decide (p1.lo < (-1000000000 : Int)))), (35, undef), (36, undef), (37, undef), (39, .bool true), (40, undef), (41, undef), (42, undef), (43, undef), (44, undef), (45, undef), (46, undef), (47, undef), (48, undef)]) (obs := []) hf63 (by kernel_rfl) (by kernel_rfl) (fun _ => .nil) fun a56 hf64 => ?_
              refine p_first 1 [] [1, 4, 11, 12, 13, 23, 24, 25, 26, 27, 30, 31, 32, 35, 36, 37, 39, 40, 41, 42, 43, 44, 45, 46, 47, 48, 49] (fl' := [(1, pB b1 0), (4, pB b2 0), (11, .slice o_x0 x0.length c_x0), (12, vI (x0.length : Int)), (13, vI y1), (23, pB b2 1), (24, vI p1.lo), (25, pB b2 2), (26, vI p1.hi), (27, .bool (decide (p1.lo > p1.hi))), (30, pB b2 1), (31, vI p1.lo), (32, .bool (decide (p1.lo < (-1000000000 : Int)))), (35, undef), (36, undef), (37, undef), (39, .bool true), (40, undef), (41, undef), (42, undef), (43, undef), (44, undef), (45, undef), (46, undef), (47, undef), (48, undef), (49, undef)]) (obs := []) s2 (by kernel_rfl) hf64 (by kernel_rfl) (by kernel_rfl) (fun _ s => .nil) fun a57 hf65 => ?_
              refine p_firstP 1 [] [1, 11, 12, 13, 23, 24, 25, 26, 27, 30, 31, 32, 35, 36, 37, 39, 40, 41, 42, 43, 44, 45, 46, 47, 48, 49, 50] (fl' := [(1, pB b1 0), (11, .slice o_x0 x0.length c_x0), (12, vI (x0.length : Int)), (13, vI y1), (23, pB b2 1), (24, vI p1.lo), (25, pB b2 2), (26, vI p1.hi), (27, .bool (decide (p1.lo > p1.hi))), (30, pB b2 1), (31, vI p1.lo), (32, .bool (decide (p1.lo < (-1000000000 : Int)))), (35, undef), (36, undef), (37, undef), (39, .bool true), (40, undef), (41, undef), (42, undef), (43, undef), (44, undef), (45, undef), (46, undef), (47, undef), (48, undef), (49, undef), (50, undef)]) (obs := []) hf65 (by kernel_rfl) (by kernel_rfl) (fun _ => .nil) fun a58 hf66 => ?_
              refine p_first 1 [] [1, 11, 12, 13, 23, 24, 25, 26, 27, 30, 31, 32, 35, 36, 37, 39, 40, 41, 42, 43, 44, 45, 46, 47, 48, 49, 50, 51] (fl' := [(1, pB b1 0), (11, .slice o_x0 x0.length c_x0), (12, vI (x0.length : Int)), (13, vI y1), (23, pB b2 1), (24, vI p1.lo), (25, pB b2 2), (26, vI p1.hi), (27, .bool (decide (p1.lo > p1.hi))), (30, pB b2 1), (31, vI p1.lo), (32, .bool (decide (p1.lo < (-1000000000 : Int)))), (35, undef), (36, undef), (37, undef), (39, .bool true), (40, undef), (41, undef), (42, undef), (43, undef), (44, undef), (45, undef), (46, undef), (47, undef), (48, undef), (49, undef), (50, undef), (51, undef)]) (obs := []) s2 (by kernel_rfl) hf66 (by kernel_rfl) (by kernel_rfl) (fun _ s => .nil) fun a59 hf67 => ?_
              refine p_firstP 3 [] [1, 11, 12, 13, 23, 24, 25, 26, 27, 30, 31, 32, 35, 36, 37, 40, 41, 42, 43, 44, 45, 46, 47, 48, 49, 50, 51, 52, 53, 54] (fl' := [(1, pB b1 0), (11, .slice o_x0 x0.length c_x0), (12, vI (x0.length : Int)), (13, vI y1), (23, pB b2 1), (24, vI p1.lo), (25, pB b2 2), (26, vI p1.hi), (27, .bool (decide (p1.lo > p1.hi))), (30, pB b2 1), (31, vI p1.lo), (32, .bool (decide (p1.lo < (-1000000000 : Int)))), (35, undef), (36, undef), (37, undef), (40, undef), (41, undef), (42, undef), (43, undef), (44, undef), (45, undef), (46, undef), (47, undef), (48, undef), (49, undef), (50, undef), (51, undef), (52, undef), (53, undef), (54, .bool true)]) (obs := []) hf67 (by kernel_rfl) (by kernel_rfl) (fun _ => .nil) fun a60 hf68 => ?_
              refine p_done (by kernel_rfl) ?_
              refine n_then ?_
              have hf69 := Fr.keep (ks := [1, 11, 12, 13, 54]) (r := [(1, pB b1 0), (11, .slice o_x0 x0.length c_x0), (12, vI (x0.length : Int)), (13, vI y1), (54, .bool true)]) hf68 (by kernel_rfl)
              exact ⟨z4, true, k4, hf69, hS7, hr12⟩
            · have hr13 := cond_f hb6 hr11
              have hf70 := Fr.conv hf58 (congrArg (fun z => ([(1, pB b1 0), (3, vI y1), (4, pB b2 0), (11, .slice o_x0 x0.length c_x0), (12, vI (x0.length : Int)), (13, vI y1), (23, pB b2 1), (24, vI p1.lo), (25, pB b2 2), (26, vI p1.hi), (27, .bool (decide (p1.lo > p1.hi))), (30, pB b2 1), (31, vI p1.lo), (32, .bool (decide (p1.lo < (-1000000000 : Int)))), (34, .bool z)] : FL)) hb6)
              refine p_firstP 1 [] [1, 3, 4, 11, 12, 13, 23, 24, 25, 26, 27, 30, 31, 32, 34, 35] (fl' := [(1, pB b1 0), (3, vI y1), (4, pB b2 0), (11, .slice o_x0 x0.length c_x0), (12, vI (x0.length : Int)), (13, vI y1), (23, pB b2 1), (24, vI p1.lo), (25, pB b2 2), (26, vI p1.hi), (27, .bool (decide (p1.lo > p1.hi))), (30, pB b2 1), (31, vI p1.lo), (32, .bool (decide (p1.lo < (-1000000000 : Int)))), (34, .bool false), (35, pB b2 2)]) (obs := []) hf70 (by kernel_rfl) (by kernel_rfl) (fun _ => .nil) fun a61 hf71 => ?_
              refine p_first 1 [vI p1.hi] [1, 3, 4, 11, 12, 13, 23, 24, 25, 26, 27, 30, 31, 32, 34, 35, 36] (fl' := [(1, pB b1 0), (3, vI y1), (4, pB b2 0), (11, .slice o_x0 x0.length c_x0), (12, vI (x0.length : Int)), (13, vI y1), (23, pB b2 1), (24, vI p1.lo), (25, pB b2 2), (26, vI p1.hi), (27, .bool (decide (p1.lo > p1.hi))), (30, pB b2 1), (31, vI p1.lo), (32, .bool (decide (p1.lo < (-1000000000 : Int)))), (34, .bool false), (35, pB b2 2), (36, vI p1.hi)]) (obs := [.cell ⟨b2, 2, none⟩ (vI p1.hi)]) s2 (by kernel_rfl) hf71 (by kernel_rfl) (by kernel_rfl) (fun _ s => (.cell (s.box (i := 0) rfl (j := 2) rfl) .nil)) fun a62 hf72 => ?_
              refine p_firstP 3 [] [1, 3, 4, 11, 12, 13, 23, 24, 25, 26, 27, 30, 31, 32, 35, 36, 37, 39] (fl' := [(1, pB b1 0), (3, vI y1), (4, pB b2 0), (11, .slice o_x0 x0.length c_x0), (12, vI (x0.length : Int)), (13, vI y1), (23, pB b2 1), (24, vI p1.lo), (25, pB b2 2), (26, vI p1.hi), (27, .bool (decide (p1.lo > p1.hi))), (30, pB b2 1), (31, vI p1.lo), (32, .bool (decide (p1.lo < (-1000000000 : Int)))), (35, pB b2 2), (36, vI p1.hi), (37, .bool (decide (p1.hi > (1000000000 : Int)))), (39, .bool (decide (p1.hi > (1000000000 : Int))))]) (obs := []) hf72 (by kernel_rfl) (by kernel_rfl) (fun _ => .nil) fun a63 hf73 => ?_
              rcases Bool.eq_false_or_eq_true (decide (p1.hi > (1000000000 : Int))) with hb7 | hb7
              · have hr14 := cond_t hb7 hr13
                have hf74 := Fr.conv hf73 (congrArg (fun z => ([(1, pB b1 0), (3, vI y1), (4, pB b2 0), (11, .slice o_x0 x0.length c_x0), (12, vI (x0.length : Int)), (13, vI y1), (23, pB b2 1), (24, vI p1.lo), (25, pB b2 2), (26, vI p1.hi), (27, .bool (decide (p1.lo > p1.hi))), (30, pB b2 1), (31, vI p1.lo), (32, .bool (decide (p1.lo < (-1000000000 : Int)))), (35, pB b2 2), (36, vI p1.hi), (37, .bool (decide (p1.hi > (1000000000 : Int)))), (39, .bool z)] : FL)) hb7)
                refine p_firstP 4 [] [1, 3, 4, 11, 12, 13, 23, 24, 25, 26, 27, 30, 31, 32, 35, 36, 37, 39, 40, 41, 42, 43] (fl' := [(1, pB b1 0), (3, vI y1), (4, pB b2 0), (11, .slice o_x0 x0.length c_x0), (12, vI (x0.length : Int)), (13, vI y1), (23, pB b2 1), (24, vI p1.lo), (25, pB b2 2), (26, vI p1.hi), (27, .bool (decide (p1.lo > p1.hi))), (30, pB b2 1), (31, vI p1.lo), (32, .bool (decide (p1.lo < (-1000000000 : Int)))), (35, pB b2 2), (36, vI p1.hi), (37, .bool (decide (p1.hi > (1000000000 : Int)))), (39, .bool true), (40, undef), (41, undef), (42, undef), (43, undef)]) (obs := []) hf74 (by kernel_rfl) (by kernel_rfl) (fun _ => .nil) fun a64 hf75 => ?_
                refine p_first 1 [] [1, 3, 4, 11, 12, 13, 23, 24, 25, 26, 27, 30, 31, 32, 35, 36, 37, 39, 40, 41, 42, 43, 44] (fl' := [(1, pB b1 0), (3, vI y1), (4, pB b2 0), (11, .slice o_x0 x0.length c_x0), (12, vI (x0.length : Int)), (13, vI y1), (23, pB b2 1), (24, vI p1.lo), (25, pB b2 2), (26, vI p1.hi), (27, .bool (decide (p1.lo > p1.hi))), (30, pB b2 1), (31, vI p1.lo), (32, .bool (decide (p1.lo < (-1000000000 : Int)))), (35, pB b2 2), (36, vI p1.hi), (37, .bool (decide (p1.hi > (1000000000 : Int)))), (39, .bool true), (40, undef), (41, undef), (42, undef), (43, undef), (44, undef)]) (obs := []) s2 (by kernel_rfl) hf75 (by kernel_rfl) (by kernel_rfl) (fun _ s => .nil) fun a65 hf76 => ?_
                refine p_firstP 4 [] [1, 4, 11, 12, 13, 23, 24, 25, 26, 27, 30, 31, 32, 35, 36, 37, 39, 40, 41, 42, 43, 44, 45, 46, 47, 48] (fl' := [(1, pB b1 0), (4, pB b2 0), (11, .slice o_x0 x0.length c_x0), (12, vI (x0.length : Int)), (13, vI y1), (23, pB b2 1), (24, vI p1.lo), (25, pB b2 2), (26, vI p1.hi), (27, .bool (decide (p1.lo > p1.hi))), (30, pB b2 1), (31, vI p1.lo), (32, .bool (decide (p1.lo < (-1000000000 : Int)))), (35, pB b2 2), (36, vI p1.hi), (37, .bool (decide (p1.hi > (1000000000 : Int)))), (39, .bool true), (40, undef), (41, undef), (42, undef), (43, undef), (44, undef), (45, undef), (46, undef), (47, undef), (48, undef)]) (obs := []) hf76 (by kernel_rfl) (by kernel_rfl) (fun _ => .nil) fun a66 hf77 => ?_
                refine p_first 1 [] [1, 4, 11, 12, 13, 23, 24, 25, 26, 27, 30, 31, 32, 35, 36, 37, 39, 40, 41, 42, 43, 44, 45, 46, 47, 48, 49] (fl' := [(1, pB b1 0), (4, pB b2 0), (11, .slice o_x0 x0.length c_x0), (12, vI (x0.length : Int)), (13, vI y1), (23, pB b2 1), (24, vI p1.lo), (25, pB b2 2), (26, vI p1.hi), (27, .bool (decide (p1.lo > p1.hi))), (30, pB b2 1), (31, vI p1.lo), (32, .bool (decide (p1.lo < (-1000000000 : Int)))), (35, pB b2 2), (36, vI p1.hi), (37, .bool (decide (p1.hi > (1000000000 : Int)))), (39, .bool true), (40, undef), (41, undef), (42, undef), (43, undef), (44, undef), (45, undef), (46, undef), (47, undef), (48, undef), (49, undef)]) (obs := []) s2 (by kernel_rfl) hf77 (by kernel_rfl) (by kernel_rfl) (fun _ s => .nil) fun a67 hf78 => ?_
                refine p_firstP 1 [] [1, 11, 12, 13, 23, 24, 25, 26, 27, 30, 31, 32, 35, 36, 37, 39, 40, 41, 42, 43, 44, 45, 46, 47, 48, 49, 50] (fl' := [(1, pB b1 0), (11, .slice o_x0 x0.length c_x0), (12, vI (x0.length : Int)), (13, vI y1), (23, pB b2 1), (24, vI p1.lo), (25, pB b2 2), (26, vI p1.hi), (27, .bool (decide (p1.lo > p1.hi))), (30, pB b2 1), (31, vI p1.lo), (32, .bool (decide (p1.lo < (-1000000000 : Int)))), (35, pB b2 2), (36, vI p1.hi), (37, .bool (decide (p1.hi > (1000000000 : Int)))), (39, .bool true), (40, undef), (41, undef), (42, undef), (43, undef), (44, undef), (45, undef), (46, undef), (47, undef), (48, undef), (49, undef), (50, undef)]) (obs := []) hf78 (by kernel_rfl) (by kernel_rfl) (fun _ => .nil) fun a68 hf79 => ?_
                refine p_first 1 [] [1, 11, 12, 13, 23, 24, 25, 26, 27, 30, 31, 32, 35, 36, 37, 39, 40, 41, 42, 43, 44, 45, 46, 47, 48, 49, 50, 51] (fl' := [(1, pB b1 0), (11, .slice o_x0 x0.length c_x0), (12, vI (x0.length : Int)), (13, vI y1), (23, pB b2 1), (24, vI p1.lo), (25, pB b2 2), (26, vI p1.hi), (27, .bool (decide (p1.lo > p1.hi))), (30, pB b2 1), (31, vI p1.lo), (32, .bool (decide (p1.lo < (-1000000000 : Int)))), (35, pB b2 2), (36, vI p1.hi), (37, .bool (decide (p1.hi > (1000000000 : Int)))), (39, .bool true), (40, undef), (41, undef), (42, undef), (43, undef), (44, undef), (45, undef), (46, undef), (47, undef), (48, undef), (49, undef), (50, undef), (51, undef)]) (obs := []) s2 (by kernel_rfl) hf79 (by kernel_rfl) (by kernel_rfl) (fun _ s => .nil) fun a69 hf80 => ?_
                refine p_firstP 3 [] [1, 11, 12, 13, 23, 24, 25, 26, 27, 30, 31, 32, 35, 36, 37, 40, 41, 42, 43, 44, 45, 46, 47, 48, 49, 50, 51, 52, 53, 54] (fl' := [(1, pB b1 0), (11, .slice o_x0 x0.length c_x0), (12, vI (x0.length : Int)), (13, vI y1), (23, pB b2 1), (24, vI p1.lo), (25, pB b2 2), (26, vI p1.hi), (27, .bool (decide (p1.lo > p1.hi))), (30, pB b2 1), (31, vI p1.lo), (32, .bool (decide (p1.lo < (-1000000000 : Int)))), (35, pB b2 2), (36, vI p1.hi), (37, .bool (decide (p1.hi > (1000000000 : Int)))), (40, undef), (41, undef), (42, undef), (43, undef), (44, undef), (45, undef), (46, undef), (47, undef), (48, undef), (49, undef), (50, undef), (51, undef), (52, undef), (53, undef), (54, .bool true)]) (obs := []) hf80 (by kernel_rfl) (by kernel_rfl) (fun _ => .nil) fun a70 hf81 => ?_
                refine p_done (by kernel_rfl) ?_
                refine n_then ?_
                have hf82 := Fr.keep (ks := [1, 11, 12, 13, 54]) (r := [(1, pB b1 0), (11, .slice o_x0 x0.length c_x0), (12, vI (x0.length : Int)), (13, vI y1), (54, .bool true)]) hf81 (by kernel_rfl)
                exact ⟨z4, true, k4, hf82, hS7, hr14⟩
              · have hr15 := cond_f hb7 hr13
                have hf83 := Fr.conv hf73 (congrArg (fun z => ([(1, pB b1 0), (3, vI y1), (4, pB b2 0), (11, .slice o_x0 x0.length c_x0), (12, vI (x0.length : Int)), (13, vI y1), (23, pB b2 1), (24, vI p1.lo), (25, pB b2 2), (26, vI p1.hi), (27, .bool (decide (p1.lo > p1.hi))), (30, pB b2 1), (31, vI p1.lo), (32, .bool (decide (p1.lo < (-1000000000 : Int)))), (35, pB b2 2), (36, vI p1.hi), (37, .bool (decide (p1.hi > (1000000000 : Int)))), (39, .bool z)] : FL)) hb7)
                refine p_firstP 3 [] [1, 3, 4, 11, 12, 13, 23, 24, 25, 26, 27, 30, 31, 32, 35, 36, 37, 39, 40, 41, 42] (fl' := [(1, pB b1 0), (3, vI y1), (4, pB b2 0), (11, .slice o_x0 x0.length c_x0), (12, vI (x0.length : Int)), (13, vI y1), (23, pB b2 1), (24, vI p1.lo), (25, pB b2 2), (26, vI p1.hi), (27, .bool (decide (p1.lo > p1.hi))), (30, pB b2 1), (31, vI p1.lo), (32, .bool (decide (p1.lo < (-1000000000 : Int)))), (35, pB b2 2), (36, vI p1.hi), (37, .bool (decide (p1.hi > (1000000000 : Int)))), (39, .bool false), (40, vI y1), (41, .bool (decide (y1 > (0 : Int)))), (42, .bool (decide (y1 > (0 : Int))))]) (obs := []) hf83 (by kernel_rfl) (by kernel_rfl) (fun _ => .nil) fun a71 hf84 => ?_
                rcases Bool.eq_false_or_eq_true (decide (y1 > (0 : Int))) with hb8 | hb8
                · have hr16 := cond_t hb8 hr15
                  have hf85 := Fr.conv hf84 (congrArg (fun z => ([(1, pB b1 0), (3, vI y1), (4, pB b2 0), (11, .slice o_x0 x0.length c_x0), (12, vI (x0.length : Int)), (13, vI y1), (23, pB b2 1), (24, vI p1.lo), (25, pB b2 2), (26, vI p1.hi), (27, .bool (decide (p1.lo > p1.hi))), (30, pB b2 1), (31, vI p1.lo), (32, .bool (decide (p1.lo < (-1000000000 : Int)))), (35, pB b2 2), (36, vI p1.hi), (37, .bool (decide (p1.hi > (1000000000 : Int)))), (39, .bool false), (40, vI y1), (41, .bool (decide (y1 > (0 : Int)))), (42, .bool z)] : FL)) hb8)
                  refine p_firstP 1 [] [1, 3, 4, 11, 12, 13, 23, 24, 25, 26, 27, 30, 31, 32, 35, 36, 37, 39, 40, 41, 42, 43] (fl' := [(1, pB b1 0), (3, vI y1), (4, pB b2 0), (11, .slice o_x0 x0.length c_x0), (12, vI (x0.length : Int)), (13, vI y1), (23, pB b2 1), (24, vI p1.lo), (25, pB b2 2), (26, vI p1.hi), (27, .bool (decide (p1.lo > p1.hi))), (30, pB b2 1), (31, vI p1.lo), (32, .bool (decide (p1.lo < (-1000000000 : Int)))), (35, pB b2 2), (36, vI p1.hi), (37, .bool (decide (p1.hi > (1000000000 : Int)))), (39, .bool false), (40, vI y1), (41, .bool (decide (y1 > (0 : Int)))), (42, .bool true), (43, pB b1 0)]) (obs := []) hf85 (by kernel_rfl) (by kernel_rfl) (fun _ => .nil) fun a72 hf86 => ?_
                  refine p_first 1 [.slice o_x0 x0.length c_x0] [1, 3, 4, 11, 12, 13, 23, 24, 25, 26, 27, 30, 31, 32, 35, 36, 37, 39, 40, 41, 42, 43, 44] (fl' := [(1, pB b1 0), (3, vI y1), (4, pB b2 0), (11, .slice o_x0 x0.length c_x0), (12, vI (x0.length : Int)), (13, vI y1), (23, pB b2 1), (24, vI p1.lo), (25, pB b2 2), (26, vI p1.hi), (27, .bool (decide (p1.lo > p1.hi))), (30, pB b2 1), (31, vI p1.lo), (32, .bool (decide (p1.lo < (-1000000000 : Int)))), (35, pB b2 2), (36, vI p1.hi), (37, .bool (decide (p1.hi > (1000000000 : Int)))), (39, .bool false), (40, vI y1), (41, .bool (decide (y1 > (0 : Int)))), (42, .bool true), (43, pB b1 0), (44, .slice o_x0 x0.length c_x0)]) (obs := [.cell ⟨b1, 0, none⟩ (.slice o_x0 x0.length c_x0)]) s2 (by kernel_rfl) hf86 (by kernel_rfl) (by kernel_rfl) (fun _ s => (.cell (s.box (i := 1) rfl (j := 0) rfl) .nil)) fun a73 hf87 => ?_
                  obtain ⟨p2, hp6539, hr17⟩ := bind_some hr16
                  obtain ⟨ad2, ho2, hb9, cc2, hc2, hk2⟩ := SliceR.getI (SliceR.mono (Zone.le_trans k2 k3) hx_x0) hp6539
                  subst hc2
                  refine p_firstP 4 [.pointer (some ad2)] [1, 4, 11, 12, 13, 23, 24, 25, 26, 27, 30, 31, 32, 35, 36, 37, 39, 40, 41, 42, 43, 44, 45, 46, 47, 48] (fl' := [(1, pB b1 0), (4, pB b2 0), (11, .slice o_x0 x0.length c_x0), (12, vI (x0.length : Int)), (13, vI y1), (23, pB b2 1), (24, vI p1.lo), (25, pB b2 2), (26, vI p1.hi), (27, .bool (decide (p1.lo > p1.hi))), (30, pB b2 1), (31, vI p1.lo), (32, .bool (decide (p1.lo < (-1000000000 : Int)))), (35, pB b2 2), (36, vI p1.hi), (37, .bool (decide (p1.hi > (1000000000 : Int)))), (39, .bool false), (40, vI y1), (41, .bool (decide (y1 > (0 : Int)))), (42, .bool true), (43, pB b1 0), (44, .slice o_x0 x0.length c_x0), (45, vI y1), (46, vI (w64 (y1 - (1 : Int)))), (47, .pointer (some (ad2.add (Int.toNat (w64 (y1 - (1 : Int))) * 3)))), (48, .pointer (some (ad2.add (Int.toNat (w64 (y1 - (1 : Int))) * 3))))]) (obs := [.prop (o_x0 = some ad2), .prop (0 ≤ (w64 (y1 - (1 : Int))) ∧ (w64 (y1 - (1 : Int))) < (x0.length : Nat))]) hf87 (by kernel_rfl) (by kernel_rfl) (fun _ => (.prop ho2 (.prop hb9 .nil))) fun a74 hf88 => ?_
                  refine p_first 1 [vI p2.x] [1, 4, 11, 12, 13, 23, 24, 25, 26, 27, 30, 31, 32, 35, 36, 37, 39, 40, 41, 42, 43, 44, 45, 46, 47, 48, 49] (fl' := [(1, pB b1 0), (4, pB b2 0), (11, .slice o_x0 x0.length c_x0), (12, vI (x0.length : Int)), (13, vI y1), (23, pB b2 1), (24, vI p1.lo), (25, pB b2 2), (26, vI p1.hi), (27, .bool (decide (p1.lo > p1.hi))), (30, pB b2 1), (31, vI p1.lo), (32, .bool (decide (p1.lo < (-1000000000 : Int)))), (35, pB b2 2), (36, vI p1.hi), (37, .bool (decide (p1.hi > (1000000000 : Int)))), (39, .bool false), (40, vI y1), (41, .bool (decide (y1 > (0 : Int)))), (42, .bool true), (43, pB b1 0), (44, .slice o_x0 x0.length c_x0), (45, vI y1), (46, vI (w64 (y1 - (1 : Int)))), (47, .pointer (some (ad2.add (Int.toNat (w64 (y1 - (1 : Int))) * 3)))), (48, .pointer (some (ad2.add (Int.toNat (w64 (y1 - (1 : Int))) * 3)))), (49, vI p2.x)]) (obs := [.cell ((ad2.add (Int.toNat (w64 (y1 - (1 : Int))) * 3)).add 0) (vI p2.x)]) s2 (by kernel_rfl) hf88 (by kernel_rfl) (by kernel_rfl) (fun _ s => (.cell (s.cell (hk2 0 _ rfl)) .nil)) fun a75 hf89 => ?_
                  refine p_firstP 1 [] [1, 11, 12, 13, 23, 24, 25, 26, 27, 30, 31, 32, 35, 36, 37, 39, 40, 41, 42, 43, 44, 45, 46, 47, 48, 49, 50] (fl' := [(1, pB b1 0), (11, .slice o_x0 x0.length c_x0), (12, vI (x0.length : Int)), (13, vI y1), (23, pB b2 1), (24, vI p1.lo), (25, pB b2 2), (26, vI p1.hi), (27, .bool (decide (p1.lo > p1.hi))), (30, pB b2 1), (31, vI p1.lo), (32, .bool (decide (p1.lo < (-1000000000 : Int)))), (35, pB b2 2), (36, vI p1.hi), (37, .bool (decide (p1.hi > (1000000000 : Int)))), (39, .bool false), (40, vI y1), (41, .bool (decide (y1 > (0 : Int)))), (42, .bool true), (43, pB b1 0), (44, .slice o_x0 x0.length c_x0), (45, vI y1), (46, vI (w64 (y1 - (1 : Int)))), (47, .pointer (some (ad2.add (Int.toNat (w64 (y1 - (1 : Int))) * 3)))), (48, .pointer (some (ad2.add (Int.toNat (w64 (y1 - (1 : Int))) * 3)))), (49, vI p2.x), (50, pB b2 0)]) (obs := []) hf89 (by kernel_rfl) (by kernel_rfl) (fun _ => .nil) fun a76 hf90 => ?_
                  refine p_first 1 [vI p1.x] [1, 11, 12, 13, 23, 24, 25, 26, 27, 30, 31, 32, 35, 36, 37, 39, 40, 41, 42, 43, 44, 45, 46, 47, 48, 49, 50, 51] (fl' := [(1, pB b1 0), (11, .slice o_x0 x0.length c_x0), (12, vI (x0.length : Int)), (13, vI y1), (23, pB b2 1), (24, vI p1.lo), (25, pB b2 2), (26, vI p1.hi), (27, .bool (decide (p1.lo > p1.hi))), (30, pB b2 1), (31, vI p1.lo), (32, .bool (decide (p1.lo < (-1000000000 : Int)))), (35, pB b2 2), (36, vI p1.hi), (37, .bool (decide (p1.hi > (1000000000 : Int)))), (39, .bool false), (40, vI y1), (41, .bool (decide (y1 > (0 : Int)))), (42, .bool true), (43, pB b1 0), (44, .slice o_x0 x0.length c_x0), (45, vI y1), (46, vI (w64 (y1 - (1 : Int)))), (47, .pointer (some (ad2.add (Int.toNat (w64 (y1 - (1 : Int))) * 3)))), (48, .pointer (some (ad2.add (Int.toNat (w64 (y1 - (1 : Int))) * 3)))), (49, vI p2.x), (50, pB b2 0), (51, vI p1.x)]) (obs := [.cell ⟨b2, 0, none⟩ (vI p1.x)]) s2 (by kernel_rfl) hf90 (by kernel_rfl) (by kernel_rfl) (fun _ s => (.cell (s.box (i := 0) rfl (j := 0) rfl) .nil)) fun a77 hf91 => ?_
                  refine p_firstP 3 [] [1, 11, 12, 13, 23, 24, 25, 26, 27, 30, 31, 32, 35, 36, 37, 40, 41, 42, 43, 44, 45, 46, 47, 48, 49, 50, 51, 52, 53, 54] (fl' := [(1, pB b1 0), (11, .slice o_x0 x0.length c_x0), (12, vI (x0.length : Int)), (13, vI y1), (23, pB b2 1), (24, vI p1.lo), (25, pB b2 2), (26, vI p1.hi), (27, .bool (decide (p1.lo > p1.hi))), (30, pB b2 1), (31, vI p1.lo), (32, .bool (decide (p1.lo < (-1000000000 : Int)))), (35, pB b2 2), (36, vI p1.hi), (37, .bool (decide (p1.hi > (1000000000 : Int)))), (40, vI y1), (41, .bool (decide (y1 > (0 : Int)))), (42, .bool true), (43, pB b1 0), (44, .slice o_x0 x0.length c_x0), (45, vI y1), (46, vI (w64 (y1 - (1 : Int)))), (47, .pointer (some (ad2.add (Int.toNat (w64 (y1 - (1 : Int))) * 3)))), (48, .pointer (some (ad2.add (Int.toNat (w64 (y1 - (1 : Int))) * 3)))), (49, vI p2.x), (50, pB b2 0), (51, vI p1.x), (52, .bool (decide (p2.x ≥ p1.x))), (53, .bool (decide (p2.x ≥ p1.x))), (54, .bool (decide (p2.x ≥ p1.x)))]) (obs := []) hf91 (by kernel_rfl) (by kernel_rfl) (fun _ => .nil) fun a78 hf92 => ?_
                  refine p_done (by kernel_rfl) ?_
                  refine n_then ?_
                  have hf93 := Fr.keep (ks := [1, 11, 12, 13, 54]) (r := [(1, pB b1 0), (11, .slice o_x0 x0.length c_x0), (12, vI (x0.length : Int)), (13, vI y1), (54, .bool (decide (p2.x ≥ p1.x)))]) hf92 (by kernel_rfl)
                  exact ⟨z4, (decide (p2.x ≥ p1.x)), k4, hf93, hS7, hr17⟩
                · have hr18 := cond_f hb8 hr15
                  have hf94 := Fr.conv hf84 (congrArg (fun z => ([(1, pB b1 0), (3, vI y1), (4, pB b2 0), (11, .slice o_x0 x0.length c_x0), (12, vI (x0.length : Int)), (13, vI y1), (23, pB b2 1), (24, vI p1.lo), (25, pB b2 2), (26, vI p1.hi), (27, .bool (decide (p1.lo > p1.hi))), (30, pB b2 1), (31, vI p1.lo), (32, .bool (decide (p1.lo < (-1000000000 : Int)))), (35, pB b2 2), (36, vI p1.hi), (37, .bool (decide (p1.hi > (1000000000 : Int)))), (39, .bool false), (40, vI y1), (41, .bool (decide (y1 > (0 : Int)))), (42, .bool z)] : FL)) hb8)
                  refine p_firstP 1 [] [1, 3, 4, 11, 12, 13, 23, 24, 25, 26, 27, 30, 31, 32, 35, 36, 37, 39, 40, 41, 42, 43] (fl' := [(1, pB b1 0), (3, vI y1), (4, pB b2 0), (11, .slice o_x0 x0.length c_x0), (12, vI (x0.length : Int)), (13, vI y1), (23, pB b2 1), (24, vI p1.lo), (25, pB b2 2), (26, vI p1.hi), (27, .bool (decide (p1.lo > p1.hi))), (30, pB b2 1), (31, vI p1.lo), (32, .bool (decide (p1.lo < (-1000000000 : Int)))), (35, pB b2 2), (36, vI p1.hi), (37, .bool (decide (p1.hi > (1000000000 : Int)))), (39, .bool false), (40, vI y1), (41, .bool (decide (y1 > (0 : Int)))), (42, .bool false), (43, undef)]) (obs := []) hf94 (by kernel_rfl) (by kernel_rfl) (fun _ => .nil) fun a79 hf95 => ?_
                  refine p_first 1 [] [1, 3, 4, 11, 12, 13, 23, 24, 25, 26, 27, 30, 31, 32, 35, 36, 37, 39, 40, 41, 42, 43, 44] (fl' := [(1, pB b1 0), (3, vI y1), (4, pB b2 0), (11, .slice o_x0 x0.length c_x0), (12, vI (x0.length : Int)), (13, vI y1), (23, pB b2 1), (24, vI p1.lo), (25, pB b2 2), (26, vI p1.hi), (27, .bool (decide (p1.lo > p1.hi))), (30, pB b2 1), (31, vI p1.lo), (32, .bool (decide (p1.lo < (-1000000000 : Int)))), (35, pB b2 2), (36, vI p1.hi), (37, .bool (decide (p1.hi > (1000000000 : Int)))), (39, .bool false), (40, vI y1), (41, .bool (decide (y1 > (0 : Int)))), (42, .bool false), (43, undef), (44, undef)]) (obs := []) s2 (by kernel_rfl) hf95 (by kernel_rfl) (by kernel_rfl) (fun _ s => .nil) fun a80 hf96 => ?_
                  refine p_firstP 4 [] [1, 4, 11, 12, 13, 23, 24, 25, 26, 27, 30, 31, 32, 35, 36, 37, 39, 40, 41, 42, 43, 44, 45, 46, 47, 48] (fl' := [(1, pB b1 0), (4, pB b2 0), (11, .slice o_x0 x0.length c_x0), (12, vI (x0.length : Int)), (13, vI y1), (23, pB b2 1), (24, vI p1.lo), (25, pB b2 2), (26, vI p1.hi), (27, .bool (decide (p1.lo > p1.hi))), (30, pB b2 1), (31, vI p1.lo), (32, .bool (decide (p1.lo < (-1000000000 : Int)))), (35, pB b2 2), (36, vI p1.hi), (37, .bool (decide (p1.hi > (1000000000 : Int)))), (39, .bool false), (40, vI y1), (41, .bool (decide (y1 > (0 : Int)))), (42, .bool false), (43, undef), (44, undef), (45, undef), (46, undef), (47, undef), (48, undef)]) (obs := []) hf96 (by kernel_rfl) (by kernel_rfl) (fun _ => .nil) fun a81 hf97 => ?_
                  refine p_first 1 [] [1, 4, 11, 12, 13, 23, 24, 25, 26, 27, 30, 31, 32, 35, 36, 37, 39, 40, 41, 42, 43, 44, 45, 46, 47, 48, 49] (fl' := [(1, pB b1 0), (4, pB b2 0), (11, .slice o_x0 x0.length c_x0), (12, vI (x0.length : Int)), (13, vI y1), (23, pB b2 1), (24, vI p1.lo), (25, pB b2 2), (26, vI p1.hi), (27, .bool (decide (p1.lo > p1.hi))), (30, pB b2 1), (31, vI p1.lo), (32, .bool (decide (p1.lo < (-1000000000 : Int)))), (35, pB b2 2), (36, vI p1.hi), (37, .bool (decide (p1.hi > (1000000000 : Int)))), (39, .bool false), (40, vI y1), (41, .bool (decide (y1 > (0 : Int)))), (42, .bool false), (43, undef), (44, undef), (45, undef), (46, undef), (47, undef), (48, undef), (49, undef)]) (obs := []) s2 (by kernel_rfl) hf97 (by kernel_rfl) (by kernel_rfl) (fun _ s => .nil) fun a82 hf98 => ?_
                  refine p_firstP 1 [] [1, 11, 12, 13, 23, 24, 25, 26, 27, 30, 31, 32, 35, 36, 37, 39, 40, 41, 42, 43, 44, 45, 46, 47, 48, 49, 50] (fl' := [(1, pB b1 0), (11, .slice o_x0 x0.length c_x0), (12, vI (x0.length : Int)), (13, vI y1), (23, pB b2 1), (24, vI p1.lo), (25, pB b2 2), (26, vI p1.hi), (27, .bool (decide (p1.lo > p1.hi))), (30, pB b2 1), (31, vI p1.lo), (32, .bool (decide (p1.lo < (-1000000000 : Int)))), (35, pB b2 2), (36, vI p1.hi), (37, .bool (decide (p1.hi > (1000000000 : Int)))), (39, .bool false), (40, vI y1), (41, .bool (decide (y1 > (0 : Int)))), (42, .bool false), (43, undef), (44, undef), (45, undef), (46, undef), (47, undef), (48, undef), (49, undef), (50, undef)]) (obs := []) hf98 (by kernel_rfl) (by kernel_rfl) (fun _ => .nil) fun a83 hf99 => ?_
                  refine p_first 1 [] [1, 11, 12, 13, 23, 24, 25, 26, 27, 30, 31, 32, 35, 36, 37, 39, 40, 41, 42, 43, 44, 45, 46, 47, 48, 49, 50, 51] (fl' := [(1, pB b1 0), (11, .slice o_x0 x0.length c_x0), (12, vI (x0.length : Int)), (13, vI y1), (23, pB b2 1), (24, vI p1.lo), (25, pB b2 2), (26, vI p1.hi), (27, .bool (decide (p1.lo > p1.hi))), (30, pB b2 1), (31, vI p1.lo), (32, .bool (decide (p1.lo < (-1000000000 : Int)))), (35, pB b2 2), (36, vI p1.hi), (37, .bool (decide (p1.hi > (1000000000 : Int)))), (39, .bool false), (40, vI y1), (41, .bool (decide (y1 > (0 : Int)))), (42, .bool false), (43, undef), (44, undef), (45, undef), (46, undef), (47, undef), (48, undef), (49, undef), (50, undef), (51, undef)]) (obs := []) s2 (by kernel_rfl) hf99 (by kernel_rfl) (by kernel_rfl) (fun _ s => .nil) fun a84 hf100 => ?_
                  refine p_firstP 3 [] [1, 11, 12, 13, 23, 24, 25, 26, 27, 30, 31, 32, 35, 36, 37, 40, 41, 42, 43, 44, 45, 46, 47, 48, 49, 50, 51, 52, 53, 54] (fl' := [(1, pB b1 0), (11, .slice o_x0 x0.length c_x0), (12, vI (x0.length : Int)), (13, vI y1), (23, pB b2 1), (24, vI p1.lo), (25, pB b2 2), (26, vI p1.hi), (27, .bool (decide (p1.lo > p1.hi))), (30, pB b2 1), (31, vI p1.lo), (32, .bool (decide (p1.lo < (-1000000000 : Int)))), (35, pB b2 2), (36, vI p1.hi), (37, .bool (decide (p1.hi > (1000000000 : Int)))), (40, vI y1), (41, .bool (decide (y1 > (0 : Int)))), (42, .bool false), (43, undef), (44, undef), (45, undef), (46, undef), (47, undef), (48, undef), (49, undef), (50, undef), (51, undef), (52, undef), (53, .bool false), (54, .bool false)]) (obs := []) hf100 (by kernel_rfl) (by kernel_rfl) (fun _ => .nil) fun a85 hf101 => ?_
                  refine p_done (by kernel_rfl) ?_
                  refine n_then ?_
                  have hf102 := Fr.keep (ks := [1, 11, 12, 13, 54]) (r := [(1, pB b1 0), (11, .slice o_x0 x0.length c_x0), (12, vI (x0.length : Int)), (13, vI y1), (54, .bool false)]) hf101 (by kernel_rfl)
                  exact ⟨z4, false, k4, hf102, hS7, hr18⟩
      · rintro a86 ww7 ⟨z3, y2, k5, hf103, hS8, hr19⟩
        refine w_if hf103 (b := y2) (by kernel_rfl) (fun hb10 => ?_) (fun hb10 => ?_)
        · have hr20 := cond_t hb10 hr19
          refine w_seq (by kernel_rfl) ?_
          refine w_reg (by kernel_rfl) ?_
          refine p_run 1 [] [2] (fl' := [(2, vI 11)]) (obs := []) trivial hf103 (by kernel_rfl) (by kernel_rfl) .nil fun a87 hf104 => ?_
          refine p_done (by kernel_rfl) ?_
          refine n_then ?_
          refine w_ret (by kernel_rfl) ?_
          refine r_block ?_
          refine r_then ?_
          refine r_then ?_
          refine r_block ?_
          refine r_then ?_
          refine p_ret (os := []) (v := vI 11) (obs := []) hf104 (by kernel_rfl) .nil ?_
          obtain rfl := some_eq hr20
          exact ⟨_, rfl, z3, (Zone.le_trans (Zone.le_trans k2 k3) k5), rfl, (St.drop 2 hS8)⟩
        · have hr21 := cond_f hb10 hr19
          refine w_skip (by kernel_rfl) ?_
          refine n_block ?_
          refine n_then ?_
          refine w_reg (by kernel_rfl) ?_
          refine p_run 2 [] [1, 11, 12, 13] (fl' := [(1, pB b1 0), (11, .slice o_x0 x0.length c_x0), (12, vI (x0.length : Int)), (13, vI (w64 (y1 + (1 : Int))))]) (obs := []) trivial hf103 (by kernel_rfl) (by kernel_rfl) .nil fun a88 hf105 => ?_
          refine p_done (by kernel_rfl) ?_
          refine n_then ?_
          have hf106 := Fr.keep (ks := [1, 11, 12, 13]) (r := [(1, pB b1 0), (11, .slice o_x0 x0.length c_x0), (12, vI (x0.length : Int)), (13, vI (w64 (y1 + (1 : Int))))]) hf105 (by kernel_rfl)
          exact ⟨n1, Nat.lt_succ_self n1, z3, (w64 (y1 + (1 : Int))), (Zone.le_trans k3 k5), hf106, (St.drop 1 hS8), hr21⟩
    · have hr22 := cond_f hb2 hr4
      refine w_exit (id := 0) (by kernel_rfl) ?_
      refine x_then ?_
      refine x_then ?_
      refine x_block ?_
      refine n_then ?_
      refine w_seq (by kernel_rfl) ?_
      refine w_reg (by kernel_rfl) ?_
      refine p_run 1 [] [2] (fl' := [(2, vI 0)]) (obs := []) trivial hf10 (by kernel_rfl) (by kernel_rfl) .nil fun a89 hf107 => ?_
      refine p_done (by kernel_rfl) ?_
      refine n_then ?_
      refine w_ret (by kernel_rfl) ?_
      refine p_ret (os := []) (v := vI 0) (obs := []) hf107 (by kernel_rfl) .nil ?_
      obtain rfl := some_eq hr22
      exact ⟨_, rfl, z2, (Zone.le_trans k2 k3), rfl, (St.drop 1 hS3)⟩
def F117 (fuel : Nat) (x0 : List Pt) : Option (Int × Int) :=
  ((getI x0 0).bind fun p1 => ((getI x0 (w64 ((x0.length : Int) - (1 : Int)))).bind fun p2 => (some (p1.x, p2.x))))
set_option maxRecDepth 100000 in
theorem f117_ok (fuel : Nat) (x0 : List Pt) (r : Int × Int) (hr : F117 fuel x0 = some r) (h : Zone) (L : List Atom) (w : World) (hS : St h L w) (o_x0 : Option Addr) (c_x0 : Nat) (hx_x0 : SliceR PtT h o_x0 c_x0 x0) :
    Calls Try.prog 117 #[.agg #[.slice o_x0 x0.length c_x0]] w fun e w' => ∃ v, e = .returned v ∧ (v = .agg #[vI r.1, vI r.2] ∧ St h L w') := by
  refine calls_intro (N := 18) Try.func117 (by kernel_rfl) fun a hf => ?_
  refine w_seq (by kernel_rfl) ?_
  refine w_reg (by kernel_rfl) ?_
  refine p_box (i := 0) (d := (some 1)) (cs := [.slice o_x0 x0.length c_x0]) (T := 24) (v := fun b1 => pB b1 0) hS hf (fun b => by kernel_rfl) fun b1 ww1 a1 hS1 hf1 => ⟨fun _ => trivial, ?_⟩
  refine p_box (i := 1) (d := (some 2)) (cs := [vI 0, vI 0]) (T := 41) (v := fun b2 => pB b2 0) hS1 hf1 (fun b => by kernel_rfl) fun b2 ww2 a2 hS2 hf2 => ⟨fun _ => trivial, ?_⟩
  refine p_done (by kernel_rfl) ?_
  refine n_then ?_
  refine w_seq (by kernel_rfl) ?_
  have hS3 := hS2.drew
  refine w_regD (by kernel_rfl) [(0, true), (1, true), (2, true), (3, true), (4, true), (5, true), (6, true), (7, true), (8, true), (9, true), (10, true), (11, true), (12, true), (13, true), (14, true), (15, false)] [15] (fun x => x = ww2.drew) (by kernel_rfl) rfl ?_
  refine p_firstP 1 [] [1, 2, 3] (fl' := [(1, pB b1 0), (2, pB b2 0), (3, pB b1 0)]) (obs := []) hf2 (by kernel_rfl) (by kernel_rfl) (fun _ => .nil) fun a3 hf3 => ?_
  refine p_firstE 1 [.slice o_x0 x0.length c_x0] [1, 2, 4] (fl' := [(1, pB b1 0), (2, pB b2 0), (4, .slice o_x0 x0.length c_x0)]) (obs := [.cell ⟨b1, 0, none⟩ (.slice o_x0 x0.length c_x0)]) (by kernel_rfl) hf3 (by kernel_rfl) (by kernel_rfl) (.cell (hS3.box (i := 1) rfl (j := 0) rfl) .nil) fun a4 hf4 => ?_
  obtain ⟨p1, hp17, hr1⟩ := bind_some hr
  obtain ⟨ad1, ho1, hb1, cc1, hc1, hk1⟩ := SliceR.getI hx_x0 hp17
  subst hc1
  refine p_firstP 2 [.pointer (some ad1)] [1, 2, 6] (fl' := [(1, pB b1 0), (2, pB b2 0), (6, .pointer (some (ad1.add (Int.toNat 0 * 3))))]) (obs := [.prop (o_x0 = some ad1), .prop (0 ≤ (0 : Int) ∧ (0 : Int) < (x0.length : Nat))]) hf4 (by kernel_rfl) (by kernel_rfl) (fun _ => (.prop ho1 (.prop hb1 .nil))) fun a5 hf5 => ?_
  refine p_firstE 1 [vI p1.x] [1, 2, 7] (fl' := [(1, pB b1 0), (2, pB b2 0), (7, vI p1.x)]) (obs := [.cell ((ad1.add (Int.toNat 0 * 3)).add 0) (vI p1.x)]) (by kernel_rfl) hf5 (by kernel_rfl) (by kernel_rfl) (.cell (hS3.cell (hk1 0 _ rfl)) .nil) fun a6 hf6 => ?_
  refine p_firstP 1 [] [1, 2, 7, 8] (fl' := [(1, pB b1 0), (2, pB b2 0), (7, vI p1.x), (8, pB b1 0)]) (obs := []) hf6 (by kernel_rfl) (by kernel_rfl) (fun _ => .nil) fun a7 hf7 => ?_
  refine p_firstE 1 [.slice o_x0 x0.length c_x0] [1, 2, 7, 9] (fl' := [(1, pB b1 0), (2, pB b2 0), (7, vI p1.x), (9, .slice o_x0 x0.length c_x0)]) (obs := [.cell ⟨b1, 0, none⟩ (.slice o_x0 x0.length c_x0)]) (by kernel_rfl) hf7 (by kernel_rfl) (by kernel_rfl) (.cell (hS3.box (i := 1) rfl (j := 0) rfl) .nil) fun a8 hf8 => ?_
  refine p_firstP 1 [] [2, 7, 9, 10] (fl' := [(2, pB b2 0), (7, vI p1.x), (9, .slice o_x0 x0.length c_x0), (10, pB b1 0)]) (obs := []) hf8 (by kernel_rfl) (by kernel_rfl) (fun _ => .nil) fun a9 hf9 => ?_
  refine p_firstE 1 [.slice o_x0 x0.length c_x0] [2, 7, 9, 11] (fl' := [(2, pB b2 0), (7, vI p1.x), (9, .slice o_x0 x0.length c_x0), (11, .slice o_x0 x0.length c_x0)]) (obs := [.cell ⟨b1, 0, none⟩ (.slice o_x0 x0.length c_x0)]) (by kernel_rfl) hf9 (by kernel_rfl) (by kernel_rfl) (.cell (hS3.box (i := 1) rfl (j := 0) rfl) .nil) fun a10 hf10 => ?_
  obtain ⟨p2, hp38, hr2⟩ := bind_some hr1
  obtain ⟨ad2, ho2, hb2, cc2, hc2, hk2⟩ := SliceR.getI hx_x0 hp38
  subst hc2
  refine p_firstP 4 [.pointer (some ad2)] [2, 7, 15] (fl' := [(2, pB b2 0), (7, vI p1.x), (15, .pointer (some (ad2.add (Int.toNat (w64 ((x0.length : Int) - (1 : Int))) * 3))))]) (obs := [.prop (o_x0 = some ad2), .prop (0 ≤ (w64 ((x0.length : Int) - (1 : Int))) ∧ (w64 ((x0.length : Int) - (1 : Int))) < (x0.length : Nat))]) hf10 (by kernel_rfl) (by kernel_rfl) (fun _ => (.prop ho2 (.prop hb2 .nil))) fun a11 hf11 => ?_
  refine p_firstE 1 [vI p2.x] [2, 7, 16] (fl' := [(2, pB b2 0), (7, vI p1.x), (16, vI p2.x)]) (obs := [.cell ((ad2.add (Int.toNat (w64 ((x0.length : Int) - (1 : Int))) * 3)).add 0) (vI p2.x)]) (by kernel_rfl) hf11 (by kernel_rfl) (by kernel_rfl) (.cell (hS3.cell (hk2 0 _ rfl)) .nil) fun a12 hf12 => ?_
  refine p_firstP 1 [] [2, 17] (fl' := [(2, pB b2 0), (17, .agg #[vI p1.x, vI p2.x])]) (obs := []) hf12 (by kernel_rfl) (by kernel_rfl) (fun _ => .nil) fun a13 hf13 => ?_
  refine p_store_eq (i := 15) (j := 0) (b := b2) (off := 0) (vs := [vI p1.x, vI p2.x]) (cs' := [vI p1.x, vI p2.x]) hS3 hf13 rfl (by kernel_rfl) (by kernel_rfl) rfl fun ww3 a14 hS4 hf14 => ⟨fun e => absurd e (by decide), ?_⟩
  refine p_done (by kernel_rfl) ?_
  refine n_then ?_
  refine w_ret (by kernel_rfl) ?_
  refine p_ret (os := [vI p1.x, vI p2.x]) (v := .agg #[vI p1.x, vI p2.x]) (obs := [.cell ⟨b2, 0, none⟩ (vI p1.x), .cell ⟨b2, 1, none⟩ (vI p2.x)]) hf14 (by kernel_rfl) (.cell (hS4.box (i := 0) rfl (j := 0) rfl) (.cell (hS4.box (i := 0) rfl (j := 1) rfl) .nil)) ?_
  obtain rfl := some_eq hr2
  exact ⟨_, rfl, rfl, (St.drop 2 hS4)⟩
def F81_j1 (y1 : Bool) : Option (Bool) :=
  (some (y1))
def F81 (fuel : Nat) (x0 : List Pt) (x1_lo : Int) (x1_hi : Int) : Option (Bool) :=
  ((F117 fuel x0).bind fun r1 => (cond (decide (r1.1 ≤ x1_lo)) (F81_j1 (decide (x1_hi ≤ r1.2))) (F81_j1 false)))
set_option maxRecDepth 100000 in
theorem f81_ok (fuel : Nat) (x0 : List Pt) (x1_lo : Int) (x1_hi : Int) (r : Bool) (hr : F81 fuel x0 x1_lo x1_hi = some r) (h : Zone) (L : List Atom) (w : World) (hS : St h L w) (o_x0 : Option Addr) (c_x0 : Nat) (hx_x0 : SliceR PtT h o_x0 c_x0 x0) :
    Calls Try.prog 81 #[.agg #[.slice o_x0 x0.length c_x0], .agg #[vI x1_lo, vI x1_hi]] w fun e w' => ∃ v, e = .returned v ∧ (∃ h', Zone.le h h' ∧ v = .bool r ∧ St h' L w') := by
  refine calls_intro (N := 20) Try.func81 (by kernel_rfl) fun a hf => ?_
  refine w_seq (by kernel_rfl) ?_
  refine w_reg (by kernel_rfl) ?_
  refine p_box (i := 0) (d := (some 2)) (cs := [.slice o_x0 x0.length c_x0]) (T := 24) (v := fun b1 => pB b1 0) hS hf (fun b => by kernel_rfl) fun b1 ww1 a1 hS1 hf1 => ⟨fun _ => trivial, ?_⟩
  refine p_box (i := 1) (d := (some 3)) (cs := [vI x1_lo, vI x1_hi]) (T := 41) (v := fun b2 => pB b2 0) hS1 hf1 (fun b => by kernel_rfl) fun b2 ww2 a2 hS2 hf2 => ⟨fun _ => trivial, ?_⟩
  refine p_run 1 [] [2, 3] (fl' := [(2, pB b1 0), (3, pB b2 0)]) (obs := []) trivial hf2 (by kernel_rfl) (by kernel_rfl) .nil fun a3 hf3 => ?_
  refine p_done (by kernel_rfl) ?_
  refine n_then ?_
  refine w_seq (by kernel_rfl) ?_
  refine w_reg (by kernel_rfl) ?_
  refine p_run 1 [.slice o_x0 x0.length c_x0] [3, 6] (fl' := [(3, pB b2 0), (6, .agg #[.slice o_x0 x0.length c_x0])]) (obs := [.cell ⟨b1, 0, none⟩ (.slice o_x0 x0.length c_x0)]) trivial hf3 (by kernel_rfl) (by kernel_rfl) (.cell (hS2.box (i := 1) rfl (j := 0) rfl) .nil) fun a4 hf4 => ?_
  obtain ⟨r1, hd1, hr1⟩ := bind_some hr
  refine p_call (i := 1) (d := some 7) (f := 117) (args := #[.agg #[.slice o_x0 x0.length c_x0]]) hf4 (by kernel_rfl) (f117_ok fuel x0 r1 hd1 h _ _ hS2 o_x0 c_x0 hx_x0) ?_
  rintro v1 ww3 a5 ⟨rfl, hS3⟩ hf5
  refine ⟨fun _ => trivial, ?_⟩
  refine p_box (i := 2) (d := (some 5)) (cs := [vI 0, vI 0]) (T := 41) (v := fun b3 => pB b3 0) hS3 hf5 (fun b => by kernel_rfl) fun b3 ww4 a6 hS4 hf6 => ⟨fun _ => trivial, ?_⟩
  refine p_store_eq (i := 3) (j := 0) (b := b3) (off := 0) (vs := [vI r1.1, vI r1.2]) (cs' := [vI r1.1, vI r1.2]) hS4 hf6 rfl (by kernel_rfl) (by kernel_rfl) rfl fun ww5 a7 hS5 hf7 => ⟨fun _ => trivial, ?_⟩
  refine p_done (by kernel_rfl) ?_
  refine n_then ?_
  refine w_mid (by kernel_rfl) (fun a w => ∃ z1 : Zone, ∃ y1 : Bool, Zone.le h z1 ∧ Fr a 20 [(4, .bool y1)] ∧ St z1 (box b3 [vI r1.1, vI r1.2] 41 :: box b2 [vI x1_lo, vI x1_hi] 41 :: box b1 [.slice o_x0 x0.length c_x0] 24 :: L) w ∧ (F81_j1 y1) = some r) ?_ ?_
  · skip
    refine w_reg (by kernel_rfl) ?_
    refine p_run 6 [vI r1.1, vI x1_lo] [3, 5, 13] (fl' := [(3, pB b2 0), (5, pB b3 0), (13, .bool (decide (r1.1 ≤ x1_lo)))]) (obs := [.cell ⟨b3, 0, none⟩ (vI r1.1), .cell ⟨b2, 0, none⟩ (vI x1_lo)]) trivial hf7 (by kernel_rfl) (by kernel_rfl) (.cell (hS5.box (i := 0) rfl (j := 0) rfl) (.cell (hS5.box (i := 1) rfl (j := 0) rfl) .nil)) fun a8 hf8 => ?_
    rcases Bool.eq_false_or_eq_true (decide (r1.1 ≤ x1_lo)) with hb1 | hb1
    · have hr2 := cond_t hb1 hr1
      have hf9 := Fr.conv hf8 (congrArg (fun z => ([(3, pB b2 0), (5, pB b3 0), (13, .bool z)] : FL)) hb1)
      refine p_run 7 [vI x1_hi, vI r1.2] [4] (fl' := [(4, .bool (decide (x1_hi ≤ r1.2)))]) (obs := [.cell ⟨b2, 1, none⟩ (vI x1_hi), .cell ⟨b3, 1, none⟩ (vI r1.2)]) trivial hf9 (by kernel_rfl) (by kernel_rfl) (.cell (hS5.box (i := 1) rfl (j := 1) rfl) (.cell (hS5.box (i := 0) rfl (j := 1) rfl) .nil)) fun a9 hf10 => ?_
      refine p_done (by kernel_rfl) ?_
      refine n_then ?_
      have hf11 := Fr.keep (ks := [4]) (r := [(4, .bool (decide (x1_hi ≤ r1.2)))]) hf10 (by kernel_rfl)
      exact ⟨h, (decide (x1_hi ≤ r1.2)), (Zone.le_refl _), hf11, hS5, hr2⟩
    · have hr3 := cond_f hb1 hr1
      have hf12 := Fr.conv hf8 (congrArg (fun z => ([(3, pB b2 0), (5, pB b3 0), (13, .bool z)] : FL)) hb1)
      refine p_run 7 [] [4] (fl' := [(4, .bool false)]) (obs := []) trivial hf12 (by kernel_rfl) (by kernel_rfl) .nil fun a10 hf13 => ?_
      refine p_done (by kernel_rfl) ?_
      refine n_then ?_
      have hf14 := Fr.keep (ks := [4]) (r := [(4, .bool false)]) hf13 (by kernel_rfl)
      exact ⟨h, false, (Zone.le_refl _), hf14, hS5, hr3⟩
  · rintro a11 ww6 ⟨z1, y1, k1, hf15, hS6, hr4⟩
    refine w_ret (by kernel_rfl) ?_
    refine p_ret (os := []) (v := .bool y1) (obs := []) hf15 (by kernel_rfl) .nil ?_
    obtain rfl := some_eq hr4
    exact ⟨_, rfl, z1, k1, rfl, (St.drop 3 hS6)⟩
def F83 (fuel : Nat) (x0_x : Int) (x0_lo : Int) (x0_hi : Int) : Option (Int) :=
  (some (x0_lo))
set_option maxRecDepth 100000 in
theorem f83_ok (fuel : Nat) (x0_x : Int) (x0_lo : Int) (x0_hi : Int) (r : Int) (hr : F83 fuel x0_x x0_lo x0_hi = some r) (h : Zone) (L : List Atom) (w : World) (hS : St h L w)  :
    Calls Try.prog 83 #[.agg #[vI x0_x, vI x0_lo, vI x0_hi]] w fun e w' => ∃ v, e = .returned v ∧ (v = vI r ∧ St h L w') := by
  refine calls_intro (N := 5) Try.func83 (by kernel_rfl) fun a hf => ?_
  refine w_seq (by kernel_rfl) ?_
  refine w_reg (by kernel_rfl) ?_
  refine p_box (i := 0) (d := (some 1)) (cs := [vI x0_x, vI x0_lo, vI x0_hi]) (T := 52) (v := fun b1 => pB b1 0) hS hf (fun b => by kernel_rfl) fun b1 ww1 a1 hS1 hf1 => ⟨fun _ => trivial, ?_⟩
  refine p_run 1 [] [1] (fl' := [(1, pB b1 0)]) (obs := []) trivial hf1 (by kernel_rfl) (by kernel_rfl) .nil fun a2 hf2 => ?_
  refine p_done (by kernel_rfl) ?_
  refine n_then ?_
  refine w_seq (by kernel_rfl) ?_
  refine w_reg (by kernel_rfl) ?_
  refine p_run 3 [vI x0_lo] [2] (fl' := [(2, vI x0_lo)]) (obs := [.cell ⟨b1, 1, none⟩ (vI x0_lo)]) trivial hf2 (by kernel_rfl) (by kernel_rfl) (.cell (hS1.box (i := 0) rfl (j := 1) rfl) .nil) fun a3 hf3 => ?_
  refine p_done (by kernel_rfl) ?_
  refine n_then ?_
  refine w_ret (by kernel_rfl) ?_
  refine p_ret (os := []) (v := vI x0_lo) (obs := []) hf3 (by kernel_rfl) .nil ?_
  obtain rfl := some_eq hr
  exact ⟨_, rfl, rfl, (St.drop 1 hS1)⟩
def F84 (fuel : Nat) (x0_x : Int) (x0_lo : Int) (x0_hi : Int) : Option (Int) :=
  (some (x0_hi))
set_option maxRecDepth 100000 in
theorem f84_ok (fuel : Nat) (x0_x : Int) (x0_lo : Int) (x0_hi : Int) (r : Int) (hr : F84 fuel x0_x x0_lo x0_hi = some r) (h : Zone) (L : List Atom) (w : World) (hS : St h L w)  :
    Calls Try.prog 84 #[.agg #[vI x0_x, vI x0_lo, vI x0_hi]] w fun e w' => ∃ v, e = .returned v ∧ (v = vI r ∧ St h L w') := by
  refine calls_intro (N := 5) Try.func84 (by kernel_rfl) fun a hf => ?_
  refine w_seq (by kernel_rfl) ?_
  refine w_reg (by kernel_rfl) ?_
  refine p_box (i := 0) (d := (some 1)) (cs := [vI x0_x, vI x0_lo, vI x0_hi]) (T := 52) (v := fun b1 => pB b1 0) hS hf (fun b => by kernel_rfl) fun b1 ww1 a1 hS1 hf1 => ⟨fun _ => trivial, ?_⟩
  refine p_run 1 [] [1] (fl' := [(1, pB b1 0)]) (obs := []) trivial hf1 (by kernel_rfl) (by kernel_rfl) .nil fun a2 hf2 => ?_
  refine p_done (by kernel_rfl) ?_
  refine n_then ?_
  refine w_seq (by kernel_rfl) ?_
  refine w_reg (by kernel_rfl) ?_
  refine p_run 3 [vI x0_hi] [2] (fl' := [(2, vI x0_hi)]) (obs := [.cell ⟨b1, 2, none⟩ (vI x0_hi)]) trivial hf2 (by kernel_rfl) (by kernel_rfl) (.cell (hS1.box (i := 0) rfl (j := 2) rfl) .nil) fun a3 hf3 => ?_
  refine p_done (by kernel_rfl) ?_
  refine n_then ?_
  refine w_ret (by kernel_rfl) ?_
  refine p_ret (os := []) (v := vI x0_hi) (obs := []) hf3 (by kernel_rfl) .nil ?_
  obtain rfl := some_eq hr
  exact ⟨_, rfl, rfl, (St.drop 1 hS1)⟩
def F85 (fuel : Nat) (x0 : Int) (x1 : Int) : Option (Int) :=
  ((nz x1).bind fun _ => (cond (decide ((Int.tmod x0 x1) < (0 : Int))) ((nz x1).bind fun _ => (some ((w64 ((w64 (Int.tdiv x0 x1)) - (1 : Int)))))) ((nz x1).bind fun _ => (some ((w64 (Int.tdiv x0 x1)))))))
set_option maxRecDepth 100000 in
theorem f85_ok (fuel : Nat) (x0 : Int) (x1 : Int) (r : Int) (hr : F85 fuel x0 x1 = some r) (h : Zone) (L : List Atom) (w : World) (hS : St h L w)  :
    Calls Try.prog 85 #[vI x0, vI x1] w fun e w' => ∃ v, e = .returned v ∧ (v = vI r ∧ St h L w') := by
  refine calls_intro (N := 16) Try.func85 (by kernel_rfl) fun a hf => ?_
  refine w_seq (by kernel_rfl) ?_
  refine w_reg (by kernel_rfl) ?_
  refine p_run 1 [] [0, 1] (fl' := [(0, vI x0), (1, vI x1)]) (obs := []) trivial hf (by kernel_rfl) (by kernel_rfl) .nil fun a1 hf1 => ?_
  refine p_done (by kernel_rfl) ?_
  refine n_then ?_
  refine w_seq (by kernel_rfl) ?_
  refine w_seq (by kernel_rfl) ?_
  refine w_reg (by kernel_rfl) ?_
  obtain ⟨u1, hd1, hr1⟩ := bind_some hr
  refine p_run 4 [] [0, 1, 8] (fl' := [(0, vI x0), (1, vI x1), (8, .bool (decide ((Int.tmod x0 x1) < (0 : Int))))]) (obs := [.prop (x1 ≠ 0)]) trivial hf1 (by kernel_rfl) (by kernel_rfl) (.prop (nz_spec hd1) .nil) fun a2 hf2 => ?_
  refine p_done (by kernel_rfl) ?_
  refine n_then ?_
  refine w_if hf2 (b := (decide ((Int.tmod x0 x1) < (0 : Int)))) (by kernel_rfl) (fun hb1 => ?_) (fun hb1 => ?_)
  · have hr2 := cond_t hb1 hr1
    refine w_seq (by kernel_rfl) ?_
    refine w_reg (by kernel_rfl) ?_
    obtain ⟨u2, hd2, hr3⟩ := bind_some hr2
    refine p_run 5 [] [4] (fl' := [(4, vI (w64 ((w64 (Int.tdiv x0 x1)) - (1 : Int))))]) (obs := [.prop (x1 ≠ 0)]) trivial hf2 (by kernel_rfl) (by kernel_rfl) (.prop (nz_spec hd2) .nil) fun a3 hf3 => ?_
    refine p_done (by kernel_rfl) ?_
    refine n_then ?_
    refine w_ret (by kernel_rfl) ?_
    refine r_then ?_
    refine p_ret (os := []) (v := vI (w64 ((w64 (Int.tdiv x0 x1)) - (1 : Int)))) (obs := []) hf3 (by kernel_rfl) .nil ?_
    obtain rfl := some_eq hr3
    exact ⟨_, rfl, rfl, hS⟩
  · have hr4 := cond_f hb1 hr1
    refine w_skip (by kernel_rfl) ?_
    refine n_then ?_
    refine w_seq (by kernel_rfl) ?_
    refine w_reg (by kernel_rfl) ?_
    obtain ⟨u3, hd3, hr5⟩ := bind_some hr4
    refine p_run 4 [] [4] (fl' := [(4, vI (w64 (Int.tdiv x0 x1)))]) (obs := [.prop (x1 ≠ 0)]) trivial hf2 (by kernel_rfl) (by kernel_rfl) (.prop (nz_spec hd3) .nil) fun a4 hf4 => ?_
    refine p_done (by kernel_rfl) ?_
    refine n_then ?_
    refine w_ret (by kernel_rfl) ?_
    refine p_ret (os := []) (v := vI (w64 (Int.tdiv x0 x1))) (obs := []) hf4 (by kernel_rfl) .nil ?_
    obtain rfl := some_eq hr5
    exact ⟨_, rfl, rfl, hS⟩
def F86 (fuel : Nat) (x0 : Int) (x1 : Int) : Option (Int) :=
  ((F85 fuel (w64 (0 - x0)) x1).bind fun r1 => (some ((w64 (0 - r1)))))
set_option maxRecDepth 100000 in
theorem f86_ok (fuel : Nat) (x0 : Int) (x1 : Int) (r : Int) (hr : F86 fuel x0 x1 = some r) (h : Zone) (L : List Atom) (w : World) (hS : St h L w)  :
    Calls Try.prog 86 #[vI x0, vI x1] w fun e w' => ∃ v, e = .returned v ∧ (v = vI r ∧ St h L w') := by
  refine calls_intro (N := 10) Try.func86 (by kernel_rfl) fun a hf => ?_
  refine w_seq (by kernel_rfl) ?_
  refine w_reg (by kernel_rfl) ?_
  refine p_run 1 [] [0, 1] (fl' := [(0, vI x0), (1, vI x1)]) (obs := []) trivial hf (by kernel_rfl) (by kernel_rfl) .nil fun a1 hf1 => ?_
  refine p_done (by kernel_rfl) ?_
  refine n_then ?_
  refine w_seq (by kernel_rfl) ?_
  refine w_reg (by kernel_rfl) ?_
  refine p_run 3 [] [6, 7] (fl' := [(6, vI (w64 (0 - x0))), (7, vI x1)]) (obs := []) trivial hf1 (by kernel_rfl) (by kernel_rfl) .nil fun a2 hf2 => ?_
  obtain ⟨r1, hd1, hr1⟩ := bind_some hr
  refine p_call (i := 3) (d := some 8) (f := 85) (args := #[vI (w64 (0 - x0)), vI x1]) hf2 (by kernel_rfl) (f85_ok fuel (w64 (0 - x0)) x1 r1 hd1 h _ _ hS ) ?_
  rintro v1 ww1 a3 ⟨rfl, hS1⟩ hf3
  refine ⟨fun _ => trivial, ?_⟩
  refine p_run 2 [] [4] (fl' := [(4, vI (w64 (0 - r1)))]) (obs := []) trivial hf3 (by kernel_rfl) (by kernel_rfl) .nil fun a4 hf4 => ?_
  refine p_done (by kernel_rfl) ?_
  refine n_then ?_
  refine w_ret (by kernel_rfl) ?_
  refine p_ret (os := []) (v := vI (w64 (0 - r1))) (obs := []) hf4 (by kernel_rfl) .nil ?_
  obtain rfl := some_eq hr1
  exact ⟨_, rfl, rfl, hS1⟩
def F18_j6 (fuel : Nat) (y1 : Int) (y2 : Int) (y3 : Int) (y4 : Int) (y5 : Int) (y6 : Int) : Option (Int × Int × Int) :=
  ((F85 fuel y2 y3).bind fun r1 => ((F86 fuel y5 y6).bind fun r2 => (some ((w64 (y1 + r1)), (w64 (y4 + r2)), 0))))
def F18_j7 (fuel : Nat) (y1 : Int) (y2 : Int) (y3 : Int) (y7 : Int) (y8 : Int) (y9 : Int) : Option (Int × Int × Int) :=
  (F18_j6 fuel y1 y2 y3 y7 y8 y9)
def F18_j8 (k1 : Int → Int → Int → Int → Option (Int × Int × Int)) (y10 : Int) (y11 : Int) (y12 : Int) (y13 : Int) : Option (Int × Int × Int) :=
  (k1 y11 y12 y13 (w64 (y10 + (1 : Int))))
def F18_j9 (k1 : Int → Int → Int → Int → Option (Int × Int × Int)) (y10 : Int) (y14 : Int) (y15 : Int) (y16 : Int) : Option (Int × Int × Int) :=
  (F18_j8 k1 y10 y14 y15 y16)
def F18_l2 (fuel : Nat) (x0 : List Pt) (x1 : Int) (x2 : Int) (y1 : Int) (y2 : Int) (y3 : Int) (d1 : List Pt) : Nat → Int → Int → Int → Int → Option (Int × Int × Int)
  | 0, _, _, _, _ => none
  | n1 + 1, y17, y18, y19, y10 =>
    let k1 : Int → Int → Int → Int → Option (Int × Int × Int) := F18_l2 fuel x0 x1 x2 y1 y2 y3 d1 n1
    (cond (decide (y10 < (d1.length : Int))) ((getI d1 y10).bind fun p1 => ((getI x0 y10).bind fun p2 => (cond (decide ((if x1 > p2.x then x1 else p2.x) ≥ (if x2 < p1.x then x2 else p1.x))) (F18_j8 k1 y10 y17 y18 y19) ((F84 fuel p2.x p2.lo p2.hi).bind fun r3 => ((F84 fuel p1.x p1.lo p1.hi).bind fun r4 => ((F84 fuel p2.x p2.lo p2.hi).bind fun r5 => ((F85 fuel (w64 (r4 - r5)) (w64 (p1.x - p2.x))).bind fun r6 => ((F85 fuel (w64 ((w64 ((w64 (r4 - r5)) - (w64 (r6 * (w64 (p1.x - p2.x)))))) * (w64 ((w64 ((if x2 < p1.x then x2 else p1.x) - (if x1 > p2.x then x1 else p2.x))) * (w64 ((w64 ((if x1 > p2.x then x1 else p2.x) + (if x2 < p1.x then x2 else p1.x))) - (w64 ((2 : Int) * p2.x)))))))) (w64 (p1.x - p2.x))).bind fun r7 => ((F85 fuel (w64 ((w64 ((w64 (r4 - r5)) - (w64 (r6 * (w64 (p1.x - p2.x)))))) * (w64 ((w64 ((if x2 < p1.x then x2 else p1.x) - (if x1 > p2.x then x1 else p2.x))) * (w64 ((w64 ((if x1 > p2.x then x1 else p2.x) + (if x2 < p1.x then x2 else p1.x))) - (w64 ((2 : Int) * p2.x)))))))) (w64 (p1.x - p2.x))).bind fun r8 => (cond (decide ((w64 ((w64 ((w64 ((w64 (r4 - r5)) - (w64 (r6 * (w64 (p1.x - p2.x)))))) * (w64 ((w64 ((if x2 < p1.x then x2 else p1.x) - (if x1 > p2.x then x1 else p2.x))) * (w64 ((w64 ((if x1 > p2.x then x1 else p2.x) + (if x2 < p1.x then x2 else p1.x))) - (w64 ((2 : Int) * p2.x)))))))) - (w64 (r8 * (w64 (p1.x - p2.x)))))) > (0 : Int))) (F18_j9 k1 y10 (w64 ((w64 (y17 + (w64 ((w64 ((w64 ((2 : Int) * r3)) * (w64 ((if x2 < p1.x then x2 else p1.x) - (if x1 > p2.x then x1 else p2.x))))) + (w64 (r6 * (w64 ((w64 ((if x2 < p1.x then x2 else p1.x) - (if x1 > p2.x then x1 else p2.x))) * (w64 ((w64 ((if x1 > p2.x then x1 else p2.x) + (if x2 < p1.x then x2 else p1.x))) - (w64 ((2 : Int) * p2.x)))))))))))) + r7)) (w64 ((w64 (y18 * (w64 (p1.x - p2.x)))) + (w64 ((w64 ((w64 ((w64 ((w64 (r4 - r5)) - (w64 (r6 * (w64 (p1.x - p2.x)))))) * (w64 ((w64 ((if x2 < p1.x then x2 else p1.x) - (if x1 > p2.x then x1 else p2.x))) * (w64 ((w64 ((if x1 > p2.x then x1 else p2.x) + (if x2 < p1.x then x2 else p1.x))) - (w64 ((2 : Int) * p2.x)))))))) - (w64 (r8 * (w64 (p1.x - p2.x)))))) * y19)))) (w64 (y19 * (w64 (p1.x - p2.x))))) (F18_j9 k1 y10 (w64 ((w64 (y17 + (w64 ((w64 ((w64 ((2 : Int) * r3)) * (w64 ((if x2 < p1.x then x2 else p1.x) - (if x1 > p2.x then x1 else p2.x))))) + (w64 (r6 * (w64 ((w64 ((if x2 < p1.x then x2 else p1.x) - (if x1 > p2.x then x1 else p2.x))) * (w64 ((w64 ((if x1 > p2.x then x1 else p2.x) + (if x2 < p1.x then x2 else p1.x))) - (w64 ((2 : Int) * p2.x)))))))))))) + r7)) y18 y19))))))))))) (F18_j6 fuel y1 y2 y3 y17 y18 y19))
def F18_j2 (fuel : Nat) (x0 : List Pt) (x1 : Int) (x2 : Int) (y1 : Int) (y2 : Int) (y3 : Int) : Option (Int × Int × Int) :=
  (cond ((x0.length : Int) == (1 : Int)) ((getI x0 0).bind fun p3 => ((getI x0 0).bind fun p4 => (cond (decide ((if x1 > p3.x then x1 else p3.x) ≥ (if x2 < p4.x then x2 else p4.x))) (F18_j6 fuel y1 y2 y3 0 0 1) ((F84 fuel p3.x p3.lo p3.hi).bind fun r9 => ((F84 fuel p4.x p4.lo p4.hi).bind fun r10 => ((F84 fuel p3.x p3.lo p3.hi).bind fun r11 => ((F85 fuel (w64 (r10 - r11)) (w64 (p4.x - p3.x))).bind fun r12 => ((F85 fuel (w64 ((w64 ((w64 (r10 - r11)) - (w64 (r12 * (w64 (p4.x - p3.x)))))) * (w64 ((w64 ((if x2 < p4.x then x2 else p4.x) - (if x1 > p3.x then x1 else p3.x))) * (w64 ((w64 ((if x1 > p3.x then x1 else p3.x) + (if x2 < p4.x then x2 else p4.x))) - (w64 ((2 : Int) * p3.x)))))))) (w64 (p4.x - p3.x))).bind fun r13 => ((F85 fuel (w64 ((w64 ((w64 (r10 - r11)) - (w64 (r12 * (w64 (p4.x - p3.x)))))) * (w64 ((w64 ((if x2 < p4.x then x2 else p4.x) - (if x1 > p3.x then x1 else p3.x))) * (w64 ((w64 ((if x1 > p3.x then x1 else p3.x) + (if x2 < p4.x then x2 else p4.x))) - (w64 ((2 : Int) * p3.x)))))))) (w64 (p4.x - p3.x))).bind fun r14 => (cond (decide ((w64 ((w64 ((w64 ((w64 (r10 - r11)) - (w64 (r12 * (w64 (p4.x - p3.x)))))) * (w64 ((w64 ((if x2 < p4.x then x2 else p4.x) - (if x1 > p3.x then x1 else p3.x))) * (w64 ((w64 ((if x1 > p3.x then x1 else p3.x) + (if x2 < p4.x then x2 else p4.x))) - (w64 ((2 : Int) * p3.x)))))))) - (w64 (r14 * (w64 (p4.x - p3.x)))))) > (0 : Int))) (F18_j7 fuel y1 y2 y3 (w64 ((w64 ((0 : Int) + (w64 ((w64 ((w64 ((2 : Int) * r9)) * (w64 ((if x2 < p4.x then x2 else p4.x) - (if x1 > p3.x then x1 else p3.x))))) + (w64 (r12 * (w64 ((w64 ((if x2 < p4.x then x2 else p4.x) - (if x1 > p3.x then x1 else p3.x))) * (w64 ((w64 ((if x1 > p3.x then x1 else p3.x) + (if x2 < p4.x then x2 else p4.x))) - (w64 ((2 : Int) * p3.x)))))))))))) + r13)) (w64 ((w64 ((0 : Int) * (w64 (p4.x - p3.x)))) + (w64 ((w64 ((w64 ((w64 ((w64 (r10 - r11)) - (w64 (r12 * (w64 (p4.x - p3.x)))))) * (w64 ((w64 ((if x2 < p4.x then x2 else p4.x) - (if x1 > p3.x then x1 else p3.x))) * (w64 ((w64 ((if x1 > p3.x then x1 else p3.x) + (if x2 < p4.x then x2 else p4.x))) - (w64 ((2 : Int) * p3.x)))))))) - (w64 (r14 * (w64 (p4.x - p3.x)))))) * (1 : Int))))) (w64 ((1 : Int) * (w64 (p4.x - p3.x))))) (F18_j7 fuel y1 y2 y3 (w64 ((w64 ((0 : Int) + (w64 ((w64 ((w64 ((2 : Int) * r9)) * (w64 ((if x2 < p4.x then x2 else p4.x) - (if x1 > p3.x then x1 else p3.x))))) + (w64 (r12 * (w64 ((w64 ((if x2 < p4.x then x2 else p4.x) - (if x1 > p3.x then x1 else p3.x))) * (w64 ((w64 ((if x1 > p3.x then x1 else p3.x) + (if x2 < p4.x then x2 else p4.x))) - (w64 ((2 : Int) * p3.x)))))))))))) + r13)) 0 1))))))))))) ((subI x0 1 (x0.length : Int)).bind fun d1 => (F18_l2 fuel x0 x1 x2 y1 y2 y3 d1 fuel 0 0 1 0)))
def F18_j3 (fuel : Nat) (x0 : List Pt) (x1 : Int) (x2 : Int) (y20 : Int) (y21 : Int) (y22 : Int) : Option (Int × Int × Int) :=
  (F18_j2 fuel x0 x1 x2 y20 y21 y22)
def F18_j4 (k2 : Int → Int → Int → Int → Option (Int × Int × Int)) (y23 : Int) (y24 : Int) (y25 : Int) (y26 : Int) : Option (Int × Int × Int) :=
  (k2 y24 y25 y26 (w64 (y23 + (1 : Int))))
def F18_j5 (k2 : Int → Int → Int → Int → Option (Int × Int × Int)) (y23 : Int) (y27 : Int) (y28 : Int) (y29 : Int) : Option (Int × Int × Int) :=
  (F18_j4 k2 y23 y27 y28 y29)
def F18_l1 (fuel : Nat) (x0 : List Pt) (x1 : Int) (x2 : Int) (d2 : List Pt) : Nat → Int → Int → Int → Int → Option (Int × Int × Int)
  | 0, _, _, _, _ => none
  | n2 + 1, y30, y31, y32, y23 =>
    let k2 : Int → Int → Int → Int → Option (Int × Int × Int) := F18_l1 fuel x0 x1 x2 d2 n2
    (cond (decide (y23 < (d2.length : Int))) ((getI d2 y23).bind fun p5 => ((getI x0 y23).bind fun p6 => (cond (decide ((if x1 > p6.x then x1 else p6.x) ≥ (if x2 < p5.x then x2 else p5.x))) (F18_j4 k2 y23 y30 y31 y32) ((F83 fuel p6.x p6.lo p6.hi).bind fun r15 => ((F83 fuel p5.x p5.lo p5.hi).bind fun r16 => ((F83 fuel p6.x p6.lo p6.hi).bind fun r17 => ((F85 fuel (w64 (r16 - r17)) (w64 (p5.x - p6.x))).bind fun r18 => ((F85 fuel (w64 ((w64 ((w64 (r16 - r17)) - (w64 (r18 * (w64 (p5.x - p6.x)))))) * (w64 ((w64 ((if x2 < p5.x then x2 else p5.x) - (if x1 > p6.x then x1 else p6.x))) * (w64 ((w64 ((if x1 > p6.x then x1 else p6.x) + (if x2 < p5.x then x2 else p5.x))) - (w64 ((2 : Int) * p6.x)))))))) (w64 (p5.x - p6.x))).bind fun r19 => ((F85 fuel (w64 ((w64 ((w64 (r16 - r17)) - (w64 (r18 * (w64 (p5.x - p6.x)))))) * (w64 ((w64 ((if x2 < p5.x then x2 else p5.x) - (if x1 > p6.x then x1 else p6.x))) * (w64 ((w64 ((if x1 > p6.x then x1 else p6.x) + (if x2 < p5.x then x2 else p5.x))) - (w64 ((2 : Int) * p6.x)))))))) (w64 (p5.x - p6.x))).bind fun r20 => (cond (decide ((w64 ((w64 ((w64 ((w64 (r16 - r17)) - (w64 (r18 * (w64 (p5.x - p6.x)))))) * (w64 ((w64 ((if x2 < p5.x then x2 else p5.x) - (if x1 > p6.x then x1 else p6.x))) * (w64 ((w64 ((if x1 > p6.x then x1 else p6.x) + (if x2 < p5.x then x2 else p5.x))) - (w64 ((2 : Int) * p6.x)))))))) - (w64 (r20 * (w64 (p5.x - p6.x)))))) > (0 : Int))) (F18_j5 k2 y23 (w64 ((w64 (y30 + (w64 ((w64 ((w64 ((2 : Int) * r15)) * (w64 ((if x2 < p5.x then x2 else p5.x) - (if x1 > p6.x then x1 else p6.x))))) + (w64 (r18 * (w64 ((w64 ((if x2 < p5.x then x2 else p5.x) - (if x1 > p6.x then x1 else p6.x))) * (w64 ((w64 ((if x1 > p6.x then x1 else p6.x) + (if x2 < p5.x then x2 else p5.x))) - (w64 ((2 : Int) * p6.x)))))))))))) + r19)) (w64 ((w64 (y31 * (w64 (p5.x - p6.x)))) + (w64 ((w64 ((w64 ((w64 ((w64 (r16 - r17)) - (w64 (r18 * (w64 (p5.x - p6.x)))))) * (w64 ((w64 ((if x2 < p5.x then x2 else p5.x) - (if x1 > p6.x then x1 else p6.x))) * (w64 ((w64 ((if x1 > p6.x then x1 else p6.x) + (if x2 < p5.x then x2 else p5.x))) - (w64 ((2 : Int) * p6.x)))))))) - (w64 (r20 * (w64 (p5.x - p6.x)))))) * y32)))) (w64 (y32 * (w64 (p5.x - p6.x))))) (F18_j5 k2 y23 (w64 ((w64 (y30 + (w64 ((w64 ((w64 ((2 : Int) * r15)) * (w64 ((if x2 < p5.x then x2 else p5.x) - (if x1 > p6.x then x1 else p6.x))))) + (w64 (r18 * (w64 ((w64 ((if x2 < p5.x then x2 else p5.x) - (if x1 > p6.x then x1 else p6.x))) * (w64 ((w64 ((if x1 > p6.x then x1 else p6.x) + (if x2 < p5.x then x2 else p5.x))) - (w64 ((2 : Int) * p6.x)))))))))))) + r19)) y31 y32))))))))))) (F18_j2 fuel x0 x1 x2 y30 y31 y32))
def F18_j1 (fuel : Nat) (x0 : List Pt) (x1 : Int) (x2 : Int) (y33 : Bool) : Option (Int × Int × Int) :=
  (cond y33 (some (0, 0, 4)) (cond ((x0.length : Int) == (1 : Int)) ((getI x0 0).bind fun p7 => ((getI x0 0).bind fun p8 => (cond (decide ((if x1 > p7.x then x1 else p7.x) ≥ (if x2 < p8.x then x2 else p8.x))) (F18_j2 fuel x0 x1 x2 0 0 1) ((F83 fuel p7.x p7.lo p7.hi).bind fun r21 => ((F83 fuel p8.x p8.lo p8.hi).bind fun r22 => ((F83 fuel p7.x p7.lo p7.hi).bind fun r23 => ((F85 fuel (w64 (r22 - r23)) (w64 (p8.x - p7.x))).bind fun r24 => ((F85 fuel (w64 ((w64 ((w64 (r22 - r23)) - (w64 (r24 * (w64 (p8.x - p7.x)))))) * (w64 ((w64 ((if x2 < p8.x then x2 else p8.x) - (if x1 > p7.x then x1 else p7.x))) * (w64 ((w64 ((if x1 > p7.x then x1 else p7.x) + (if x2 < p8.x then x2 else p8.x))) - (w64 ((2 : Int) * p7.x)))))))) (w64 (p8.x - p7.x))).bind fun r25 => ((F85 fuel (w64 ((w64 ((w64 (r22 - r23)) - (w64 (r24 * (w64 (p8.x - p7.x)))))) * (w64 ((w64 ((if x2 < p8.x then x2 else p8.x) - (if x1 > p7.x then x1 else p7.x))) * (w64 ((w64 ((if x1 > p7.x then x1 else p7.x) + (if x2 < p8.x then x2 else p8.x))) - (w64 ((2 : Int) * p7.x)))))))) (w64 (p8.x - p7.x))).bind fun r26 => (cond (decide ((w64 ((w64 ((w64 ((w64 (r22 - r23)) - (w64 (r24 * (w64 (p8.x - p7.x)))))) * (w64 ((w64 ((if x2 < p8.x then x2 else p8.x) - (if x1 > p7.x then x1 else p7.x))) * (w64 ((w64 ((if x1 > p7.x then x1 else p7.x) + (if x2 < p8.x then x2 else p8.x))) - (w64 ((2 : Int) * p7.x)))))))) - (w64 (r26 * (w64 (p8.x - p7.x)))))) > (0 : Int))) (F18_j3 fuel x0 x1 x2 (w64 ((w64 ((0 : Int) + (w64 ((w64 ((w64 ((2 : Int) * r21)) * (w64 ((if x2 < p8.x then x2 else p8.x) - (if x1 > p7.x then x1 else p7.x))))) + (w64 (r24 * (w64 ((w64 ((if x2 < p8.x then x2 else p8.x) - (if x1 > p7.x then x1 else p7.x))) * (w64 ((w64 ((if x1 > p7.x then x1 else p7.x) + (if x2 < p8.x then x2 else p8.x))) - (w64 ((2 : Int) * p7.x)))))))))))) + r25)) (w64 ((w64 ((0 : Int) * (w64 (p8.x - p7.x)))) + (w64 ((w64 ((w64 ((w64 ((w64 (r22 - r23)) - (w64 (r24 * (w64 (p8.x - p7.x)))))) * (w64 ((w64 ((if x2 < p8.x then x2 else p8.x) - (if x1 > p7.x then x1 else p7.x))) * (w64 ((w64 ((if x1 > p7.x then x1 else p7.x) + (if x2 < p8.x then x2 else p8.x))) - (w64 ((2 : Int) * p7.x)))))))) - (w64 (r26 * (w64 (p8.x - p7.x)))))) * (1 : Int))))) (w64 ((1 : Int) * (w64 (p8.x - p7.x))))) (F18_j3 fuel x0 x1 x2 (w64 ((w64 ((0 : Int) + (w64 ((w64 ((w64 ((2 : Int) * r21)) * (w64 ((if x2 < p8.x then x2 else p8.x) - (if x1 > p7.x then x1 else p7.x))))) + (w64 (r24 * (w64 ((w64 ((if x2 < p8.x then x2 else p8.x) - (if x1 > p7.x then x1 else p7.x))) * (w64 ((w64 ((if x1 > p7.x then x1 else p7.x) + (if x2 < p8.x then x2 else p8.x))) - (w64 ((2 : Int) * p7.x)))))))))))) + r25)) 0 1))))))))))) ((subI x0 1 (x0.length : Int)).bind fun d2 => (F18_l1 fuel x0 x1 x2 d2 fuel 0 0 1 0))))
def F18 (fuel : Nat) (x0 : List Pt) (x1 : Int) (x2 : Int) : Option (Int × Int × Int) :=
  ((F67 fuel x0).bind fun r27 => (cond (r27 != (0 : Int)) (some (0, 0, r27)) (cond (decide (x1 > x2)) (F18_j1 fuel x0 x1 x2 true) ((F81 fuel x0 x1 x2).bind fun r28 => (F18_j1 fuel x0 x1 x2 (!r28))))))
end Go.Proofs.Ytpjmgeajajcceaa

