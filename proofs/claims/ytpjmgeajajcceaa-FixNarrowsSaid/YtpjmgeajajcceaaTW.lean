/-
  The twofold area as one sum: additive, and the greater the line the greater. No condition.
-/
import Derived.Test.YtpjmgeajajcceaaTR
set_option linter.unusedSimpArgs false
set_option linter.unusedVariables false
namespace Go.Proofs.Ytpjmgeajajcceaa
open Go.Sl Go.Sx

def wd (t : List Pt) (i : Nat) : Int := (pt t (i + 1)).x - (pt t i).x
/-- A common multiple of the widths. -/
def prodW (t : List Pt) : Nat → Int
  | 0 => 1
  | i + 1 => prodW t i * wd t i
theorem prodW_pos {t : List Pt} (v : VT t) : ∀ n, n < t.length → 0 < prodW t n
  | 0, _ => by simp [prodW]
  | n + 1, h => by
    have := v.up n h
    exact Int.mul_pos (prodW_pos v n (by omega)) (by unfold wd; omega)
theorem prodW_dvd (t : List Pt) : ∀ n i, i < n → wd t i ∣ prodW t n
  | 0, i, h => by omega
  | n + 1, i, h => by
    rcases Nat.eq_or_lt_of_le (Nat.le_of_lt_succ h) with e | e
    · subst e; exact Int.dvd_mul_left _ _
    · exact Int.dvd_trans (prodW_dvd t n i e) (Int.dvd_mul_right _ _)
def MM (t : List Pt) : Int := prodW t (t.length - 1)
theorem MM_pos {t : List Pt} (v : VT t) : 0 < MM t := prodW_pos v _ (by have := v.l1; omega)
theorem MM_mul {t : List Pt} (v : VT t) {i : Nat} (h : i + 1 < t.length) : wd t i * (MM t / wd t i) = MM t := Int.mul_ediv_cancel' (prodW_dvd t _ i (by omega))

/-- Up to a place of a piece. -/
def gg (t : List Pt) (ys : Nat → Int) (i : Nat) (z : Int) : Int := 2 * wd t i * ys i * (z - (pt t i).x) + (ys (i + 1) - ys i) * ((z - (pt t i).x) * (z - (pt t i).x))
def clX (t : List Pt) (i : Nat) (z : Int) : Int := if z < (pt t i).x then (pt t i).x else if z > (pt t (i + 1)).x then (pt t (i + 1)).x else z
def ee (t : List Pt) (ys : Nat → Int) (a b : Int) (i : Nat) : Int := gg t ys i (clX t i b) - gg t ys i (clX t i a)
def SS (t : List Pt) (ys : Nat → Int) (a b : Int) : Nat → Int
  | 0 => 0
  | i + 1 => SS t ys a b i + ee t ys a b i * (MM t / wd t i)

theorem clX_in {t : List Pt} (v : VT t) {i : Nat} (h : i + 1 < t.length) (z : Int) : (pt t i).x ≤ clX t i z ∧ clX t i z ≤ (pt t (i + 1)).x := by
  have := v.up i h
  unfold clX; split <;> (try split) <;> omega
theorem clX_mono {t : List Pt} (v : VT t) {i : Nat} (h : i + 1 < t.length) {a b : Int} (hab : a ≤ b) : clX t i a ≤ clX t i b := by
  have := v.up i h
  unfold clX; repeat' split
  all_goals omega
theorem clX_from {t : List Pt} (v : VT t) {i : Nat} (h : i + 1 < t.length) {a b : Int} (hab : a ≤ b) : (fromX t a i < toX t b i → clX t i a = fromX t a i ∧ clX t i b = toX t b i) ∧ (¬ fromX t a i < toX t b i → clX t i a = clX t i b) := by
  have := v.up i h
  unfold clX fromX toX
  constructor
  · intro hl
    revert hl
    repeat' split
    all_goals (intro hl; constructor <;> omega)
  · intro hl
    revert hl
    repeat' split
    all_goals (intro hl; omega)

theorem cr_eq (x0 x1 y0 y1 lo hi : Int) : cc x0 x1 y0 y1 lo hi * (x1 - x0) + rr x0 x1 y0 y1 lo hi = 2 * y0 * (hi - lo) * (x1 - x0) + (y1 - y0) * kk x0 lo hi := by
  have e : (y1 - y0) * kk x0 lo hi = qq x0 x1 y0 y1 * kk x0 lo hi * (x1 - x0) + mm x0 x1 y0 y1 * kk x0 lo hi := by
    have : y1 - y0 = qq x0 x1 y0 y1 * (x1 - x0) + mm x0 x1 y0 y1 := by unfold mm; omega
    rw [Int.mul_assoc, Int.mul_comm (kk x0 lo hi), ← Int.mul_assoc, ← Int.add_mul, ← this]
  unfold cc rr
  rw [Int.add_mul, Int.add_mul]
  omega
theorem sq_diff (u v : Int) : (u - v) * (u + v) = u * u - v * v := by
  rw [Int.sub_mul, Int.mul_add, Int.mul_add, Int.mul_comm v u]; omega
theorem gg_diff (t : List Pt) (ys : Nat → Int) (i : Nat) (lo hi : Int) : 2 * ys i * (hi - lo) * wd t i + (ys (i + 1) - ys i) * kk (pt t i).x lo hi = gg t ys i hi - gg t ys i lo := by
  unfold gg kk
  have e1 : (hi - lo) * (lo + hi - 2 * (pt t i).x) = (hi - (pt t i).x) * (hi - (pt t i).x) - (lo - (pt t i).x) * (lo - (pt t i).x) := by
    rw [← sq_diff]
    congr 1 <;> omega
  rw [e1, Int.mul_sub (ys (i + 1) - ys i)]
  have e2 : 2 * ys i * (hi - lo) * wd t i = 2 * wd t i * ys i * (hi - (pt t i).x) - 2 * wd t i * ys i * (lo - (pt t i).x) := by
    rw [← Int.mul_sub, show hi - (pt t i).x - (lo - (pt t i).x) = hi - lo by omega, Int.mul_assoc 2 (ys i), Int.mul_assoc 2 (wd t i), Int.mul_assoc 2, Int.mul_assoc 2]
    congr 1
    rw [Int.mul_comm (wd t i), Int.mul_assoc, Int.mul_assoc, Int.mul_comm (hi - lo)]
  rw [e2]; omega

/-- The exact state is the sum. -/
theorem tw_SS {t : List Pt} (v : VT t) {ys : Nat → Int} (hy : okY t ys) {a b : Int} (hab : a ≤ b) : ∀ i, i < t.length → ((tw t ys a b i).W * (tw t ys a b i).D + (tw t ys a b i).N) * MM t = SS t ys a b i * (tw t ys a b i).D
  | 0, _ => by simp [tw, SS]
  | i + 1, h => by
    have ih := tw_SS v hy hab i (by omega)
    obtain ⟨c1, c2⟩ := clX_from v h hab
    have hM := MM_mul v h
    by_cases hl : fromX t a i ≥ toX t b i
    · have e : tw t ys a b (i + 1) = tw t ys a b i := by simp only [tw]; rw [if_pos hl]
      have e0 : ee t ys a b i = 0 := by unfold ee; rw [c2 (by omega)]; omega
      rw [e]
      show _ = (SS t ys a b i + ee t ys a b i * (MM t / wd t i)) * _
      rw [e0, Int.zero_mul, Int.add_zero]
      exact ih
    · have e : tw t ys a b (i + 1) = (tw t ys a b i).add (cc (pt t i).x (pt t (i + 1)).x (ys i) (ys (i + 1)) (fromX t a i) (toX t b i)) (rr (pt t i).x (pt t (i + 1)).x (ys i) (ys (i + 1)) (fromX t a i) (toX t b i)) (wd t i) := by simp only [tw]; rw [if_neg hl]; rfl
      have hcr := cr_eq (pt t i).x (pt t (i + 1)).x (ys i) (ys (i + 1)) (fromX t a i) (toX t b i)
      have hE : ee t ys a b i = cc (pt t i).x (pt t (i + 1)).x (ys i) (ys (i + 1)) (fromX t a i) (toX t b i) * wd t i + rr (pt t i).x (pt t (i + 1)).x (ys i) (ys (i + 1)) (fromX t a i) (toX t b i) := by
        unfold ee
        rw [(c1 (by omega)).1, (c1 (by omega)).2, ← gg_diff]
        exact hcr.symm
      have an := AN.of v hy (a := a) (b := b) h (by omega)
      have r0 := an.r0
      rw [e]
      show _ = (SS t ys a b i + ee t ys a b i * (MM t / wd t i)) * _
      generalize cc (pt t i).x (pt t (i + 1)).x (ys i) (ys (i + 1)) (fromX t a i) (toX t b i) = c at *
      generalize rr (pt t i).x (pt t (i + 1)).x (ys i) (ys (i + 1)) (fromX t a i) (toX t b i) = r at *
      generalize tw t ys a b i = s at *
      generalize ee t ys a b i = E at *
      generalize SS t ys a b i = Z at *
      generalize hw : wd t i = w at *
      generalize MM t / w = k at *
      generalize MM t = M at *
      unfold TS.add
      by_cases hr : r > 0
      · rw [if_pos hr]
        have hd := Int.mul_ediv_add_emod (s.N * w + r * s.D) (s.D * w)
        show ((s.W + c + (s.N * w + r * s.D) / (s.D * w)) * (s.D * w) + (s.N * w + r * s.D) % (s.D * w)) * M = (Z + E * k) * (s.D * w)
        have e1 : (s.W + c + (s.N * w + r * s.D) / (s.D * w)) * (s.D * w) + (s.N * w + r * s.D) % (s.D * w) = (s.W * s.D + s.N) * w + E * s.D := by
          rw [Int.add_mul, Int.mul_comm ((s.N * w + r * s.D) / (s.D * w)), Int.add_assoc, hd, hE, Int.add_mul, Int.add_mul, Int.add_mul, Int.mul_assoc s.W, Int.mul_assoc c w s.D, Int.mul_comm w s.D]
          omega
        rw [e1, Int.add_mul, Int.mul_assoc _ w M, Int.mul_comm w M, ← Int.mul_assoc, ih, Int.add_mul, ← hM, Int.mul_assoc Z s.D w]
        congr 1
        simp only [Int.mul_assoc, Int.mul_comm, Int.mul_left_comm]
      · have hr0 : r = 0 := by omega
        rw [if_neg hr]
        show ((s.W + c) * s.D + s.N) * M = (Z + E * k) * s.D
        have e1 : (s.W + c) * s.D + s.N = (s.W * s.D + s.N) + c * s.D := by rw [Int.add_mul]; omega
        rw [e1, Int.add_mul, ih, Int.add_mul, hE, hr0, Int.add_zero, ← hM]
        congr 1
        simp only [Int.mul_assoc, Int.mul_comm, Int.mul_left_comm]

def SA (t : List Pt) (ys : Nat → Int) (a b : Int) : Int := SS t ys a b (t.length - 1)
theorem tw_W {t : List Pt} (v : VT t) {ys : Nat → Int} (hy : okY t ys) {a b : Int} (hab : a ≤ b) : (tw t ys a b (t.length - 1)).W = SA t ys a b / MM t ∧ ((tw t ys a b (t.length - 1)).N > 0 ↔ SA t ys a b % MM t ≠ 0) := by
  have hl := v.l1
  have h := tw_SS v hy hab (t.length - 1) (by omega)
  obtain ⟨n0, n1, _, _, _⟩ := tw_bd v hy a b (t.length - 1) (by omega)
  have hM := MM_pos v
  have hS : SS t ys a b (t.length - 1) = SA t ys a b := rfl
  rw [hS] at h
  generalize tw t ys a b (t.length - 1) = s at *
  generalize SA t ys a b = S at *
  generalize MM t = M at *
  have hdm := Int.mul_ediv_add_emod S M
  have m0 := Int.emod_nonneg S (b := M) (by omega)
  have m1 := Int.emod_lt_of_pos S hM
  have hD : 0 < s.D := by omega
  -- (W D + N) M = S D
  have key : (s.W - S / M) * (s.D * M) = (S % M) * s.D - s.N * M := by
    have : (M * (S / M) + S % M) * s.D = S * s.D := by rw [hdm]
    rw [Int.sub_mul]
    rw [Int.add_mul] at this h
    have e1 : S / M * (s.D * M) = M * (S / M) * s.D := by simp only [Int.mul_assoc, Int.mul_comm, Int.mul_left_comm]
    have e2 : s.W * (s.D * M) = s.W * s.D * M := by simp only [Int.mul_assoc]
    omega
  have b1 : (S % M) * s.D - s.N * M < s.D * M := by
    have := Int.mul_lt_mul_of_pos_right m1 hD
    have h2 : 0 ≤ s.N * M := Int.mul_nonneg n0 (by omega)
    rw [Int.mul_comm M] at this; omega
  have b2 : -(s.D * M) < (S % M) * s.D - s.N * M := by
    have := Int.mul_lt_mul_of_pos_right n1 hM
    have h2 : 0 ≤ (S % M) * s.D := Int.mul_nonneg m0 (by omega)
    omega
  have hP : 0 < s.D * M := Int.mul_pos hD hM
  have hW : s.W - S / M = 0 := by
    rcases Int.lt_trichotomy (s.W - S / M) 0 with e | e | e
    · have := Int.mul_le_mul_of_nonneg_right (show s.W - S / M ≤ -1 by omega) (Int.le_of_lt hP)
      omega
    · exact e
    · have := Int.mul_le_mul_of_nonneg_right (show 1 ≤ s.W - S / M by omega) (Int.le_of_lt hP)
      omega
  refine ⟨by omega, ?_⟩
  rw [hW, Int.zero_mul] at key
  constructor
  · intro hN hz
    rw [hz, Int.zero_mul] at key
    have := Int.mul_pos hN hM
    omega
  · intro hz
    have := Int.mul_pos (show 0 < S % M by omega) hD
    rcases Int.lt_or_eq_of_le n0 with e | e
    · exact e
    · rw [← e, Int.zero_mul] at key; omega

/-! ### Sums -/
theorem SS_add (t : List Pt) (ys : Nat → Int) (a b c : Int) : ∀ i, SS t ys a c i = SS t ys a b i + SS t ys b c i
  | 0 => rfl
  | i + 1 => by
    show SS t ys a c i + ee t ys a c i * (MM t / wd t i) = (SS t ys a b i + ee t ys a b i * (MM t / wd t i)) + (SS t ys b c i + ee t ys b c i * (MM t / wd t i))
    have : ee t ys a c i = ee t ys a b i + ee t ys b c i := by unfold ee; omega
    rw [SS_add t ys a b c i, this, Int.add_mul]; omega
theorem ee_eq (t : List Pt) (ys : Nat → Int) (a b : Int) (i : Nat) : ee t ys a b i = (clX t i b - clX t i a) * (ys i * (2 * wd t i - (clX t i a + clX t i b - 2 * (pt t i).x)) + ys (i + 1) * (clX t i a + clX t i b - 2 * (pt t i).x)) := by
  unfold ee
  rw [← gg_diff]
  unfold kk
  generalize clX t i b - clX t i a = L
  generalize clX t i a + clX t i b - 2 * (pt t i).x = s
  generalize ys i = y
  generalize ys (i + 1) = z
  generalize wd t i = w
  have e1 : 2 * y * L * w = L * (y * (2 * w)) := by simp only [Int.mul_assoc, Int.mul_comm, Int.mul_left_comm]
  have e2 : (z - y) * (L * s) = L * (z * s) - L * (y * s) := by
    rw [Int.sub_mul]; simp only [Int.mul_left_comm]
  rw [e1, e2, Int.mul_sub, Int.mul_add, Int.mul_sub]; omega
theorem SS_mono {t : List Pt} (v : VT t) {ys zs : Nat → Int} {a b : Int} (hab : a ≤ b) : ∀ i, i < t.length → (∀ j, j ≤ i → ys j ≤ zs j) → SS t ys a b i ≤ SS t zs a b i
  | 0, _, _ => Int.le_refl _
  | i + 1, h, hle => by
    have ih := SS_mono v hab i (by omega) (fun j hj => hle j (by omega))
    have c1 := clX_in v h a
    have c2 := clX_in v h b
    have c3 := clX_mono v h hab
    have up := v.up i h
    have hw : wd t i = (pt t (i + 1)).x - (pt t i).x := rfl
    have hk : 0 ≤ MM t / wd t i := Int.ediv_nonneg (Int.le_of_lt (MM_pos v)) (by omega)
    have he : ee t ys a b i ≤ ee t zs a b i := by
      rw [ee_eq, ee_eq]
      have p1 := Int.mul_le_mul_of_nonneg_right (hle i (by omega)) (show 0 ≤ 2 * wd t i - (clX t i a + clX t i b - 2 * (pt t i).x) by omega)
      have p2 := Int.mul_le_mul_of_nonneg_right (hle (i + 1) (Nat.le_refl _)) (show 0 ≤ clX t i a + clX t i b - 2 * (pt t i).x by omega)
      exact Int.mul_le_mul_of_nonneg_left (by omega) (by omega)
    have := Int.mul_le_mul_of_nonneg_right he hk
    show SS t ys a b i + ee t ys a b i * (MM t / wd t i) ≤ SS t zs a b i + ee t zs a b i * (MM t / wd t i)
    omega
theorem SA_mono {t : List Pt} (v : VT t) {ys zs : Nat → Int} {a b : Int} (hab : a ≤ b) (h : ∀ j, j < t.length → ys j ≤ zs j) : SA t ys a b ≤ SA t zs a b := SS_mono v hab _ (by have := v.l1; omega) fun j hj => h j (by have := v.l1; omega)
def ceilD (s m : Int) : Int := s / m + (if s % m ≠ 0 then 1 else 0)
theorem arLo_eq {t : List Pt} (v : VT t) {a b : Int} (hab : a ≤ b) : arLo t a b = SA t (loY t) a b / MM t := (tw_W v (okY_lo v) hab).1
theorem arHi_eq {t : List Pt} (v : VT t) {a b : Int} (hab : a ≤ b) : arHi t a b = ceilD (SA t (hiY t) a b) (MM t) := by
  obtain ⟨h1, h2⟩ := tw_W v (okY_hi v) hab
  unfold arHi ceilD
  rw [h1]
  by_cases h : (tw t (hiY t) a b (t.length - 1)).N > 0
  · rw [if_pos h, if_pos (h2.1 h)]
  · rw [if_neg h, if_neg (fun hh => h (h2.2 hh))]
theorem ceilD_mono {s s' m : Int} (hm : 0 < m) (h : s ≤ s') : ceilD s m ≤ ceilD s' m := by
  unfold ceilD
  have e1 := Int.mul_ediv_add_emod s m
  have e2 := Int.mul_ediv_add_emod s' m
  have a0 := Int.emod_nonneg s (b := m) (by omega)
  have b0 := Int.emod_nonneg s' (b := m) (by omega)
  have a1 := Int.emod_lt_of_pos s hm
  have b1 := Int.emod_lt_of_pos s' hm
  have hle := Int.ediv_le_ediv hm h
  rcases Int.lt_or_eq_of_le hle with e | e
  · split <;> split <;> omega
  · rw [e] at e1 ⊢
    split <;> split <;> omega
theorem floor_ceil {s s' m : Int} (hm : 0 < m) (h : s ≤ s') : s / m ≤ ceilD s' m ∧ (s % m ≠ 0 → s / m ≠ ceilD s' m) := by
  have h1 := ceilD_mono hm h
  unfold ceilD at h1 ⊢
  constructor
  · split at h1 <;> omega
  · intro hn
    rw [if_pos hn] at h1; omega
theorem floor_add {s s' m : Int} (hm : 0 < m) : 0 ≤ (s + s') / m - s / m - s' / m ∧ (s + s') / m - s / m - s' / m ≤ 1 := by
  have e1 := Int.mul_ediv_add_emod s m
  have e2 := Int.mul_ediv_add_emod s' m
  have a0 := Int.emod_nonneg s (b := m) (by omega)
  have b0 := Int.emod_nonneg s' (b := m) (by omega)
  have a1 := Int.emod_lt_of_pos s hm
  have b1 := Int.emod_lt_of_pos s' hm
  have : s + s' = (s % m + s' % m) + (s / m + s' / m) * m := by rw [Int.add_mul, Int.mul_comm (s / m), Int.mul_comm (s' / m)]; omega
  rw [this, Int.add_mul_ediv_right _ _ (by omega)]
  have h1 : 0 ≤ (s % m + s' % m) / m := Int.ediv_nonneg (by omega) (by omega)
  have h2 : (s % m + s' % m) / m ≤ 1 := by
    have := Int.ediv_lt_of_lt_mul (a := s % m + s' % m) (b := 2) (c := m) hm (by omega)
    omega
  omega
theorem ceilD_neg {s m : Int} (hm : 0 < m) : ceilD s m = -((-s) / m) := by
  unfold ceilD
  have e1 := Int.mul_ediv_add_emod s m
  have a0 := Int.emod_nonneg s (b := m) (by omega)
  have a1 := Int.emod_lt_of_pos s hm
  split
  · have := ((Int.ediv_emod_unique (a := -s) (b := m) (r := m - s % m) (q := -(s / m) - 1) hm).2 ⟨by rw [Int.mul_sub, Int.mul_neg]; omega, by omega, by omega⟩).1
    omega
  · have := ((Int.ediv_emod_unique (a := -s) (b := m) (r := 0) (q := -(s / m)) hm).2 ⟨by rw [Int.mul_neg]; omega, by omega, by omega⟩).1
    omega
theorem ceil_add {s s' m : Int} (hm : 0 < m) : 0 ≤ ceilD s m + ceilD s' m - ceilD (s + s') m ∧ ceilD s m + ceilD s' m - ceilD (s + s') m ≤ 1 := by
  rw [ceilD_neg hm, ceilD_neg hm, ceilD_neg hm, Int.neg_add]
  have := floor_add (s := -s) (s' := -s') hm
  omega
end Go.Proofs.Ytpjmgeajajcceaa
