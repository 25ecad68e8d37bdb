/-
  A part of the walk and of the plain law of one given statement. No condition.
-/
import Derived.Test.YtpjmgeajajcceaaPA
set_option linter.unusedSimpArgs false
set_option linter.unusedVariables false
namespace Go.Proofs.Ytpjmgeajajcceaa
open Go.Sl Go.Sx

theorem tmodB (x : Int) {d : Int} (hd : 0 < d) : -d < Int.tmod x d ∧ Int.tmod x d < d := ⟨Int.lt_tmod_of_pos x hd, Int.tmod_lt_of_pos x hd⟩
theorem tmodP {x d : Int} (hx : 0 ≤ x) (hd : 0 < d) : 0 ≤ Int.tmod x d ∧ Int.tmod x d < d := ⟨Int.tmod_nonneg d hx, Int.tmod_lt_of_pos x hd⟩

theorem F36_spec (f : Nat) (x : Int) : ∃ n, F36 f x = some n ∧ -1000000 ≤ n ∧ n ≤ 1000000 := by
  unfold F36
  obtain ⟨h1, h2⟩ := tmodB x (d := 2000001) (by decide)
  rw [w64_id (n := Int.tmod x 2000001 + 2000001) (by omega) (by omega)]
  obtain ⟨h3, h4⟩ := tmodP (x := Int.tmod x 2000001 + 2000001) (d := 2000001) (by omega) (by decide)
  rw [w64_id (by omega) (by omega)]
  exact ⟨_, rfl, by omega, by omega⟩
theorem nzS {n : Int} (h : n ≠ 0) : nz n = some () := by unfold nz; rw [if_pos h]

theorem F35_spec (f : Nat) (a b c : Int) : ∃ lo hi u, F35 f a b c = some (lo, hi, u) ∧ -1000000 ≤ lo ∧ lo ≤ u ∧ u ≤ hi ∧ hi ≤ 1000000 := by
  obtain ⟨x, hx, x1, x2⟩ := F36_spec f a
  obtain ⟨y, hy, y1, y2⟩ := F36_spec f b
  unfold F35
  rw [hx, hy]
  simp only [Option.bind_some]
  have hl : ∃ lo, (if y < x then y else x) = lo ∧ -1000000 ≤ lo ∧ lo ≤ x ∧ lo ≤ y := ⟨_, rfl, by split <;> omega, by split <;> omega, by split <;> omega⟩
  have hh : ∃ hi, (if y > x then y else x) = hi ∧ hi ≤ 1000000 ∧ x ≤ hi ∧ y ≤ hi := ⟨_, rfl, by split <;> omega, by split <;> omega, by split <;> omega⟩
  obtain ⟨lo, el, l1, l2, l3⟩ := hl
  obtain ⟨hi, eh, h1, h2, h3⟩ := hh
  rw [el, eh]
  have e1 : w64 (hi - lo) = hi - lo := w64_id (by omega) (by omega)
  have e2 : w64 (hi - lo + 1) = hi - lo + 1 := w64_id (by omega) (by omega)
  obtain ⟨t1, t2⟩ := tmodB c (d := hi - lo + 1) (by omega)
  have e3 : w64 (Int.tmod c (hi - lo + 1) + hi) = Int.tmod c (hi - lo + 1) + hi := w64_id (by omega) (by omega)
  have e4 : w64 (Int.tmod c (hi - lo + 1) + hi - lo) = Int.tmod c (hi - lo + 1) + hi - lo := w64_id (by omega) (by omega)
  have e5 : w64 (Int.tmod c (hi - lo + 1) + hi - lo + 1) = Int.tmod c (hi - lo + 1) + hi - lo + 1 := w64_id (by omega) (by omega)
  obtain ⟨t3, t4⟩ := tmodP (x := Int.tmod c (hi - lo + 1) + hi - lo + 1) (d := hi - lo + 1) (by omega) (by omega)
  have e6 : w64 (lo + Int.tmod (Int.tmod c (hi - lo + 1) + hi - lo + 1) (hi - lo + 1)) = _ := w64_id (by omega) (by omega)
  rw [e1, e2, e3, e4, e5, e6, nzS (by omega)]
  exact ⟨_, _, _, rfl, l1, by omega, by omega, h1⟩

/-- A product lies between the least and the greatest product of the ends. -/
theorem corner {a b c d u v : Int} (h1 : a ≤ u) (h2 : u ≤ b) (h3 : c ≤ v) (h4 : v ≤ d) : (a * c ≤ u * v ∨ a * d ≤ u * v ∨ b * c ≤ u * v ∨ b * d ≤ u * v) ∧ (u * v ≤ a * c ∨ u * v ≤ a * d ∨ u * v ≤ b * c ∨ u * v ≤ b * d) := by
  have key : ∀ x : Int, (x * c ≤ x * v ∨ x * d ≤ x * v) ∧ (x * v ≤ x * c ∨ x * v ≤ x * d) := fun x => by
    rcases Int.le_total 0 x with h | h
    · exact ⟨.inl (Int.mul_le_mul_of_nonneg_left h3 h), .inr (Int.mul_le_mul_of_nonneg_left h4 h)⟩
    · exact ⟨.inr (Int.mul_le_mul_of_nonpos_left h h4), .inl (Int.mul_le_mul_of_nonpos_left h h3)⟩
  have key2 : (a * v ≤ u * v ∨ b * v ≤ u * v) ∧ (u * v ≤ a * v ∨ u * v ≤ b * v) := by
    rcases Int.le_total 0 v with h | h
    · exact ⟨.inl (Int.mul_le_mul_of_nonneg_right h1 h), .inr (Int.mul_le_mul_of_nonneg_right h2 h)⟩
    · exact ⟨.inr (Int.mul_le_mul_of_nonpos_right h2 h), .inl (Int.mul_le_mul_of_nonpos_right h1 h)⟩
  have ka := key a
  have kb := key b
  omega

theorem smallMul {x y : Int} (h1 : -1000000 ≤ x) (h2 : x ≤ 1000000) (h3 : -1000000 ≤ y) (h4 : y ≤ 1000000) : (x * y).natAbs ≤ 1000000000000 := by
  rw [Int.natAbs_mul]
  have : x.natAbs * y.natAbs ≤ 1000000 * 1000000 := Nat.mul_le_mul (by omega) (by omega)
  omega
theorem bgS {x y : Int} (h1 : -1000000 ≤ x) (h2 : x ≤ 1000000) (h3 : -1000000 ≤ y) (h4 : y ≤ 1000000) : bg x y = false := by
  have := smallMul h1 h2 h3 h4
  unfold bg
  exact decide_eq_false (by omega)

theorem F39_spec {a b c d u v : Int} (ha : -1000000 ≤ a) (h1 : a ≤ u) (h2 : u ≤ b) (hb : b ≤ 1000000) (hc : -1000000 ≤ c) (h3 : c ≤ v) (h4 : v ≤ d) (hd : d ≤ 1000000) :
    ∃ lo hi, F39 64 a b c d = some (lo, hi, 0) ∧ V lo hi ∧ lo ≤ u * v ∧ u * v ≤ hi := by
  have hV1 : V a b := by unfold V; omega
  have hV2 : V c d := by unfold V; omega
  have e1 : F39 64 a b c d = F39_l1 64 a b c d 64 0 0 false false 0 := by
    unfold F39
    rw [F106_eq, if_pos ⟨hV1, hV2⟩, Option.bind_some, cond_z]
  rw [e1, F39_64 hV1 hV2]
  have b1 := bgS (x := a) (y := c) (by omega) (by omega) (by omega) (by omega)
  have b2 := bgS (x := a) (y := d) (by omega) (by omega) (by omega) (by omega)
  have b3 := bgS (x := b) (y := c) (by omega) (by omega) (by omega) (by omega)
  have b4 := bgS (x := b) (y := d) (by omega) (by omega) (by omega) (by omega)
  rw [stepM_first b1, stepM_next b2, stepM_next b3, stepM_next b4]
  have q := mulV (bg_lt b1) (bg_lt b2) (bg_lt b3) (bg_lt b4)
  refine ⟨_, _, q, ?_, ?_, ?_⟩
  · have l1 := bg_lt b1; have l2 := bg_lt b2; have l3 := bg_lt b3; have l4 := bg_lt b4
    exact ⟨mn_lo (by omega) (mn_lo (by omega) (mn_lo (by omega) (by omega))), mn_mx (mn_mx (mn_mx (Int.le_refl _))), mx_hi (by omega) (mx_hi (by omega) (mx_hi (by omega) (by omega)))⟩
  · have := (corner h1 h2 h3 h4).1
    repeat' split
    all_goals omega
  · have := (corner h1 h2 h3 h4).2
    repeat' split
    all_goals omega

theorem F40_spec {a b u n d : Int} (ha : -1000000 ≤ a) (h1 : a ≤ u) (h2 : u ≤ b) (hb : b ≤ 1000000) (hn0 : -1000 ≤ n) (hn1 : n ≤ 1000) (hd : 1 ≤ d) (hd1 : d ≤ 1000) :
    ∃ lo hi, F40 64 a b n d = some (lo, hi, 0) ∧ -1000000000 ≤ lo ∧ lo ≤ 1000000000 ∧ -1000000000 ≤ hi ∧ hi ≤ 1000000000 ∧ lo * d ≤ u * n ∧ u * n ≤ hi * d ∧ V lo hi := by
  have hV : V a b := by unfold V; omega
  rw [F40_eq, if_pos hV, if_pos (by omega)]
  have he : least a b n * n ≤ u * n ∧ u * n ≤ most a b n * n := by
    unfold least most
    by_cases hn : n < 0
    · rw [if_pos hn, if_pos hn]; exact ⟨Int.mul_le_mul_of_nonpos_right h2 (by omega), Int.mul_le_mul_of_nonpos_right h1 (by omega)⟩
    · rw [if_neg hn, if_neg hn]; exact ⟨Int.mul_le_mul_of_nonneg_right h1 (by omega), Int.mul_le_mul_of_nonneg_right h2 (by omega)⟩
  have bl : -1000000 ≤ least a b n ∧ least a b n ≤ 1000000 := by unfold least; split <;> omega
  have bm : -1000000 ≤ most a b n ∧ most a b n ≤ 1000000 := by unfold most; split <;> omega
  have pl : (least a b n * n).natAbs ≤ 1000000000 := by
    rw [Int.natAbs_mul]
    have : (least a b n).natAbs * n.natAbs ≤ 1000000 * 1000 := Nat.mul_le_mul (by omega) (by omega)
    omega
  have pm : (most a b n * n).natAbs ≤ 1000000000 := by
    rw [Int.natAbs_mul]
    have : (most a b n).natAbs * n.natAbs ≤ 1000000 * 1000 := Nat.mul_le_mul (by omega) (by omega)
    omega
  have fl1 : fl (least a b n) n d * d ≤ least a b n * n := Int.ediv_mul_le _ (by omega)
  have ce1 : -(ce (most a b n) n d * d) ≤ -(most a b n * n) := by
    unfold ce
    rw [Int.neg_mul, Int.neg_neg]
    exact Int.ediv_mul_le _ (by omega)
  have fl2 : -1000000000 ≤ fl (least a b n) n d ∧ fl (least a b n) n d ≤ 1000000000 := by
    unfold fl
    exact ⟨Int.le_ediv_of_mul_le (by omega) (by omega), Int.ediv_le_of_le_mul (by omega) (by omega)⟩
  have ce2 : -1000000000 ≤ ce (most a b n) n d ∧ ce (most a b n) n d ≤ 1000000000 := by
    have : -1000000000 ≤ (-(most a b n * n)) / d ∧ (-(most a b n * n)) / d ≤ 1000000000 := ⟨Int.le_ediv_of_mul_le (by omega) (by omega), Int.ediv_le_of_le_mul (by omega) (by omega)⟩
    unfold ce; omega
  have hle : fl (least a b n) n d ≤ ce (most a b n) n d := by
    have : fl (least a b n) n d * d ≤ ce (most a b n) n d * d := by omega
    exact Int.le_of_mul_le_mul_right this (by omega)
  have hV3 : V (fl (least a b n) n d) (ce (most a b n) n d) := by unfold V; omega
  unfold mk3
  rw [if_pos hV3]
  exact ⟨_, _, rfl, fl2.1, fl2.2, ce2.1, ce2.2, by omega, by omega, hV3⟩

theorem F43_eq (a b n : Int) : F43 64 a b n = some (decide (V a b ∧ a ≤ n ∧ n ≤ b)) := by
  unfold F43 F43_j1
  rw [F52_eq, Option.bind_some]
  by_cases h : V a b
  · rw [if_pos h]
    show (F90 64 n a b).bind _ = _
    rw [F90_eq, Option.bind_some]
    by_cases h2 : a ≤ n ∧ n ≤ b
    · rw [decide_eq_true h2, decide_eq_true ⟨h, h2⟩]
    · rw [decide_eq_false h2, decide_eq_false (fun h3 => h2 h3.2)]
  · rw [if_neg h, decide_eq_false (fun h3 => h h3.1)]; rfl

theorem F7_true (a0 a1 a2 a3 a4 a5 n d : Int) : F7 64 a0 a1 a2 a3 a4 a5 n d = some true := by
  obtain ⟨al, ah, u, e1, p1, p2, p3, p4⟩ := F35_spec 64 a0 a1 a2
  obtain ⟨bl, bh, v, e2, q1, q2, q3, q4⟩ := F35_spec 64 a3 a4 a5
  obtain ⟨x, e3, x1, x2⟩ := F36_spec 64 n
  obtain ⟨y, e4, y1, y2⟩ := F36_spec 64 d
  unfold F7
  rw [e1, e2, e3, e4]
  simp only [Option.bind_some]
  obtain ⟨t1, t2⟩ := tmodB x (d := 1001) (by decide)
  have hm : 0 ≤ (if w64 (0 - y) > y then w64 (0 - y) else y) := by
    rw [w64_id (n := 0 - y) (by omega) (by omega)]; split <;> omega
  obtain ⟨t3, t4⟩ := tmodP hm (d := 1000) (by decide)
  have ed : w64 (1 + Int.tmod (if w64 (0 - y) > y then w64 (0 - y) else y) 1000) = 1 + Int.tmod (if w64 (0 - y) > y then w64 (0 - y) else y) 1000 := w64_id (by omega) (by omega)
  rw [ed]
  generalize hD : 1 + Int.tmod (if w64 (0 - y) > y then w64 (0 - y) else y) 1000 = D at *
  generalize hN : Int.tmod x 1001 = N at *
  have VA : V al ah := by unfold V; omega
  have VB : V bl bh := by unfold V; omega
  have V1 : V (al + bl) (ah + bh) := by unfold V; omega
  have V2 : V (al - bh) (ah - bl) := by unfold V; omega
  obtain ⟨pl, ph, e5, V3, m1, m2⟩ := F39_spec p1 p2 p3 p4 q1 q2 q3 q4
  obtain ⟨sl, sh, e6, s1, s2, s3, s4, s5, s6, V4⟩ := F40_spec (n := N) (d := D) p1 p2 p3 p4 (by omega) (by omega) (by omega) (by omega)
  have e7 : F41 64 al ah bl bh = some (if bl < al then bl else al, if bh > ah then bh else ah, 0) := by
    unfold F41
    rw [F106_eq, if_pos ⟨VA, VB⟩]; rfl
  have V5 : V (if bl < al then bl else al) (if bh > ah then bh else ah) := by
    unfold V; split <;> split <;> omega
  have b1 := smallMul (x := u) (y := v) (by omega) (by omega) (by omega) (by omega)
  have b2 := smallMul (x := u) (y := N) (by omega) (by omega) (by omega) (by omega)
  have w1 : w64 (u + v) = u + v := w64_id (by omega) (by omega)
  have w2 : w64 (u - v) = u - v := w64_id (by omega) (by omega)
  have w3 : w64 (u * v) = u * v := w64_id (by omega) (by omega)
  have w4 : w64 (u * N) = u * N := w64_id (by omega) (by omega)
  have c1 : (sl * D).natAbs ≤ 1000000000000 := by
    rw [Int.natAbs_mul]
    have : sl.natAbs * D.natAbs ≤ 1000000000 * 1000 := Nat.mul_le_mul (by omega) (by omega)
    omega
  have c2 : (sh * D).natAbs ≤ 1000000000000 := by
    rw [Int.natAbs_mul]
    have : sh.natAbs * D.natAbs ≤ 1000000000 * 1000 := Nat.mul_le_mul (by omega) (by omega)
    omega
  have w5 : w64 (sl * D) = sl * D := w64_id (by omega) (by omega)
  have w6 : w64 (sh * D) = sh * D := w64_id (by omega) (by omega)
  have d1 : decide (sl * D > u * N) = false := decide_eq_false (by omega)
  have d2 : decide (sh * D < u * N) = false := decide_eq_false (by omega)
  have h1 : F43 64 (al + bl) (ah + bh) (u + v) = some true := by rw [F43_eq, decide_eq_true ⟨V1, by omega, by omega⟩]
  have h2 : F43 64 (al - bh) (ah - bl) (u - v) = some true := by rw [F43_eq, decide_eq_true ⟨V2, by omega, by omega⟩]
  have h3 : F43 64 pl ph (u * v) = some true := by rw [F43_eq, decide_eq_true ⟨V3, m1, m2⟩]
  have h4 : F43 64 (if bl < al then bl else al) (if bh > ah then bh else ah) u = some true := by
    rw [F43_eq, decide_eq_true ⟨V5, by split <;> omega, by split <;> omega⟩]
  have h5 : F43 64 (if bl < al then bl else al) (if bh > ah then bh else ah) v = some true := by
    rw [F43_eq, decide_eq_true ⟨V5, by split <;> omega, by split <;> omega⟩]
  have h6 : F43 64 al ah u = some true := by rw [F43_eq, decide_eq_true ⟨VA, p2, p3⟩]
  have h7 : F43 64 bl bh u = some (decide (bl ≤ u ∧ u ≤ bh)) := by
    rw [F43_eq]
    congr 1
    exact decide_eq_decide.2 ⟨fun h => h.2, fun h => ⟨VB, h⟩⟩
  have z0 : ((0 : Int) != 0) = false := rfl
  rw [F37_eq, if_pos ⟨VA, VB⟩, if_pos V1, F38_eq, if_pos ⟨VA, VB⟩, if_pos V2, e5, e6, e7]
  simp only [Option.bind_some, z0, cond_false]
  have key : ∀ r2, F42 64 al ah bl bh = some r2 → F7_j1 64 (al, ah, u) (bl, bh, v) x y y (al + bl, ah + bh, 0) (al - bh, ah - bl, 0) (pl, ph, 0) (sl, sh, 0) (if bl < al then bl else al, if bh > ah then bh else ah, 0) r2 false = some true := fun r2 hr => by
    unfold F7_j1 F7_j2
    rw [hN, hD, ed]
    simp only [cond_false, w1, w2, w3, w4, w5, w6, d1, d2, h1, h2, h3, h4, h5, h6, h7, Option.bind_some, Bool.not_true, cond_true]
    unfold F42 at hr
    rw [F106_eq, if_pos ⟨VA, VB⟩, Option.bind_some, z0, cond_false] at hr
    by_cases hm : (if bl > al then bl else al) > (if bh < ah then bh else ah)
    · rw [decide_eq_true hm, cond_true] at hr
      obtain rfl := Option.some.inj hr
      have hu : ¬ (bl ≤ u ∧ u ≤ bh) := by
        intro hu
        revert hm
        split <;> split <;> omega
      rw [decide_eq_false hu]
      unfold F7_j3 F7_j4
      rw [sane_true]; rfl
    · rw [decide_eq_false hm, cond_false] at hr
      obtain rfl := Option.some.inj hr
      have hV : V (if bl > al then bl else al) (if bh < ah then bh else ah) := by
        unfold V
        refine ⟨?_, by omega, ?_⟩ <;> split <;> omega
      have h8 : F43 64 (if bl > al then bl else al) (if bh < ah then bh else ah) u = some (decide (bl ≤ u ∧ u ≤ bh)) := by
        rw [F43_eq]
        congr 1
        refine decide_eq_decide.2 ⟨fun h => ?_, fun h => ⟨hV, ?_, ?_⟩⟩
        · obtain ⟨_, g1, g2⟩ := h
          revert g1 g2
          split <;> split <;> omega
        · split <;> omega
        · split <;> omega
      unfold F7_j3 F7_j4
      rw [h8, sane_true]
      cases decide (bl ≤ u ∧ u ≤ bh) <;> rfl
  have hs : ∃ r2, F42 64 al ah bl bh = some r2 := by
    unfold F42
    rw [F106_eq, if_pos ⟨VA, VB⟩, Option.bind_some, z0, cond_false]
    cases decide ((if bl > al then bl else al) > (if bh < ah then bh else ah)) <;> exact ⟨_, rfl⟩
  obtain ⟨r2, hr2⟩ := hs
  rw [hr2, Option.bind_some]
  exact key r2 hr2
end Go.Proofs.Ytpjmgeajajcceaa
namespace Go.Proofs.Ytpjmgeajajcceaa
theorem F7_true' (a0 a1 a2 a3 a4 a5 n d : Int) : ∃ fuel, F7 fuel a0 a1 a2 a3 a4 a5 n d = some true := ⟨64, F7_true a0 a1 a2 a3 a4 a5 n d⟩
end Go.Proofs.Ytpjmgeajajcceaa
