/-
  Area: what the program reckons is the exact twofold area, rounded. No condition.
-/
import Derived.Test.YtpjmgeajajcceaaTA2
set_option linter.unusedSimpArgs false
set_option linter.unusedVariables false
namespace Go.Proofs.Ytpjmgeajajcceaa
open Go.Sl Go.Sx

/-! ### One piece -/
def kk (x0 lo hi : Int) : Int := (hi - lo) * (lo + hi - 2 * x0)
def qq (x0 x1 y0 y1 : Int) : Int := (y1 - y0) / (x1 - x0)
def mm (x0 x1 y0 y1 : Int) : Int := (y1 - y0) - qq x0 x1 y0 y1 * (x1 - x0)
/-- The whole part of twice a piece's area, and the rest, in parts of its width. -/
def cc (x0 x1 y0 y1 lo hi : Int) : Int := 2 * y0 * (hi - lo) + qq x0 x1 y0 y1 * kk x0 lo hi + (mm x0 x1 y0 y1 * kk x0 lo hi) / (x1 - x0)
def rr (x0 x1 y0 y1 lo hi : Int) : Int := mm x0 x1 y0 y1 * kk x0 lo hi - (mm x0 x1 y0 y1 * kk x0 lo hi) / (x1 - x0) * (x1 - x0)

structure AN (x0 x1 y0 y1 lo hi : Int) : Prop where
  k0 : 0 ≤ kk x0 lo hi
  k1 : kk x0 lo hi ≤ 2000000000000
  q0 : -2000000000 ≤ qq x0 x1 y0 y1
  q1 : qq x0 x1 y0 y1 ≤ 2000000000
  qw0 : -2001000000 ≤ qq x0 x1 y0 y1 * (x1 - x0)
  qw1 : qq x0 x1 y0 y1 * (x1 - x0) ≤ 2001000000
  m0 : 0 ≤ mm x0 x1 y0 y1
  m1 : mm x0 x1 y0 y1 < x1 - x0
  mk0 : 0 ≤ mm x0 x1 y0 y1 * kk x0 lo hi
  mk1 : mm x0 x1 y0 y1 * kk x0 lo hi ≤ 2000000000000000000
  d0 : 0 ≤ (mm x0 x1 y0 y1 * kk x0 lo hi) / (x1 - x0)
  d1 : (mm x0 x1 y0 y1 * kk x0 lo hi) / (x1 - x0) ≤ 2000000000000
  r0 : 0 ≤ rr x0 x1 y0 y1 lo hi
  r1 : rr x0 x1 y0 y1 lo hi < x1 - x0
  yl : (2 * y0 * (hi - lo)).natAbs ≤ 2000000000000000
  qk : (qq x0 x1 y0 y1 * kk x0 lo hi).natAbs ≤ 4002000000000000
  full : lo = x0 → hi = x1 → rr x0 x1 y0 y1 lo hi = 0

theorem AN.mk' {x0 x1 y0 y1 lo hi : Int} (a0 : 0 ≤ x0) (a1 : x0 < x1) (a2 : x1 ≤ 1000000) (b0 : -1000000000 ≤ y0) (b1 : y0 ≤ 1000000000) (c0 : -1000000000 ≤ y1) (c1 : y1 ≤ 1000000000) (l0 : x0 ≤ lo) (l1 : lo < hi) (l2 : hi ≤ x1) : AN x0 x1 y0 y1 lo hi := by
  have hk : (kk x0 lo hi).natAbs ≤ (hi - lo).natAbs * (2 * (x1 - x0).natAbs) := by
    unfold kk; rw [Int.natAbs_mul]; exact Nat.mul_le_mul_left _ (by omega)
  have hk0 : 0 ≤ kk x0 lo hi := Int.mul_nonneg (by omega) (by omega)
  have hk1 : (kk x0 lo hi).natAbs ≤ 1000000 * 2000000 := Nat.le_trans hk (Nat.mul_le_mul (by omega) (by omega))
  have hm : mm x0 x1 y0 y1 = (y1 - y0) % (x1 - x0) := by
    unfold mm qq
    have := Int.mul_ediv_add_emod (y1 - y0) (x1 - x0)
    rw [Int.mul_comm] at this; omega
  have m0 : 0 ≤ mm x0 x1 y0 y1 := by rw [hm]; exact Int.emod_nonneg _ (by omega)
  have m1 : mm x0 x1 y0 y1 < x1 - x0 := by rw [hm]; exact Int.emod_lt_of_pos _ (by omega)
  have qw : qq x0 x1 y0 y1 * (x1 - x0) = (y1 - y0) - mm x0 x1 y0 y1 := by unfold mm; omega
  have q0 : -2000000000 ≤ qq x0 x1 y0 y1 := Int.le_ediv_of_mul_le (by omega) (by omega)
  have q1 : qq x0 x1 y0 y1 ≤ 2000000000 := Int.ediv_le_of_le_mul (by omega) (by omega)
  have hmk : (mm x0 x1 y0 y1 * kk x0 lo hi).natAbs ≤ 1000000 * (1000000 * 2000000) := mulB (by omega) hk1
  have mk0 : 0 ≤ mm x0 x1 y0 y1 * kk x0 lo hi := Int.mul_nonneg m0 hk0
  have hmk2 : mm x0 x1 y0 y1 * kk x0 lo hi ≤ (x1 - x0) * kk x0 lo hi := Int.mul_le_mul_of_nonneg_right (by omega) hk0
  have e1 := Int.mul_ediv_add_emod (mm x0 x1 y0 y1 * kk x0 lo hi) (x1 - x0)
  rw [Int.mul_comm] at e1
  have r0 := Int.emod_nonneg (mm x0 x1 y0 y1 * kk x0 lo hi) (b := x1 - x0) (by omega)
  have r1 := Int.emod_lt_of_pos (mm x0 x1 y0 y1 * kk x0 lo hi) (b := x1 - x0) (by omega)
  have hr : rr x0 x1 y0 y1 lo hi = (mm x0 x1 y0 y1 * kk x0 lo hi) % (x1 - x0) := by unfold rr; omega
  have hqk : (qq x0 x1 y0 y1 * kk x0 lo hi).natAbs ≤ 2000000 * 2001000000 := by
    have h1 : (qq x0 x1 y0 y1 * kk x0 lo hi).natAbs ≤ (qq x0 x1 y0 y1).natAbs * ((hi - lo).natAbs * (2 * (x1 - x0).natAbs)) := by rw [Int.natAbs_mul]; exact Nat.mul_le_mul_left _ hk
    have h2 : (qq x0 x1 y0 y1).natAbs * ((hi - lo).natAbs * (2 * (x1 - x0).natAbs)) = (2 * (hi - lo).natAbs) * (qq x0 x1 y0 y1 * (x1 - x0)).natAbs := by
      rw [Int.natAbs_mul]
      simp only [Nat.mul_comm, Nat.mul_left_comm, Nat.mul_assoc]
    have h3 : (2 * (hi - lo).natAbs) * (qq x0 x1 y0 y1 * (x1 - x0)).natAbs ≤ 2000000 * 2001000000 := Nat.mul_le_mul (by omega) (by omega)
    omega
  refine ⟨hk0, by omega, q0, q1, by omega, by omega, m0, m1, mk0, by omega, Int.ediv_nonneg mk0 (by omega), ?_, by omega, by omega, ?_, by omega, fun h h' => ?_⟩
  · exact Int.ediv_le_of_le_mul (by omega) (by have := Int.mul_le_mul_of_nonneg_left (show kk x0 lo hi ≤ 2000000000000 by omega) (show 0 ≤ x1 - x0 by omega); rw [Int.mul_comm (x1 - x0) 2000000000000] at this; omega)
  · have := mulB (x := 2 * y0) (y := hi - lo) (m := 2000000000) (n := 1000000) (by omega) (by omega)
    omega
  · subst h; subst h'
    rw [hr]
    have : mm lo hi y0 y1 * kk lo lo hi = (mm lo hi y0 y1 * (hi - lo)) * (hi - lo) := by
      unfold kk
      rw [show lo + hi - 2 * lo = hi - lo by omega, Int.mul_assoc]
    rw [this]
    exact Int.mul_emod_left _ _

/-! ### The exact state: whole part, numerator, denominator -/
structure TS where
  W : Int
  N : Int
  D : Int
def TS.add (s : TS) (c r w : Int) : TS := if r > 0 then ⟨s.W + c + (s.N * w + r * s.D) / (s.D * w), (s.N * w + r * s.D) % (s.D * w), s.D * w⟩ else ⟨s.W + c, s.N, s.D⟩
def fromX (t : List Pt) (a : Int) (i : Nat) : Int := if a > (pt t i).x then a else (pt t i).x
def toX (t : List Pt) (b : Int) (i : Nat) : Int := if b < (pt t (i + 1)).x then b else (pt t (i + 1)).x
/-- Twice the area below a line, over the first i pieces. -/
def tw (t : List Pt) (ys : Nat → Int) (a b : Int) : Nat → TS
  | 0 => ⟨0, 0, 1⟩
  | i + 1 => if fromX t a i ≥ toX t b i then tw t ys a b i else
      (tw t ys a b i).add (cc (pt t i).x (pt t (i + 1)).x (ys i) (ys (i + 1)) (fromX t a i) (toX t b i)) (rr (pt t i).x (pt t (i + 1)).x (ys i) (ys (i + 1)) (fromX t a i) (toX t b i)) ((pt t (i + 1)).x - (pt t i).x)

/-- How large a denominator may be, and how many rests there were. -/
def DB (t : List Pt) (a b : Int) (i : Nat) : Int := (if (pt t i).x > a then 1000000 else 1) * (if (pt t i).x > b then 1000000 else 1)
def CB (t : List Pt) (a b : Int) (i : Nat) : Int := (if (pt t i).x > a then 1 else 0) + (if (pt t i).x > b then 1 else 0)
theorem DB_le (t : List Pt) (a b : Int) (i : Nat) : 1 ≤ DB t a b i ∧ DB t a b i ≤ 1000000000000 := by unfold DB; split <;> split <;> omega
theorem CB_le (t : List Pt) (a b : Int) (i : Nat) : 0 ≤ CB t a b i ∧ CB t a b i ≤ 2 := by unfold CB; split <;> split <;> omega
theorem DB_mono {t : List Pt} (v : VT t) (a b : Int) {i : Nat} (h : i + 1 < t.length) : DB t a b i ≤ DB t a b (i + 1) ∧ CB t a b i ≤ CB t a b (i + 1) := by
  have := v.up i h
  unfold DB CB
  constructor <;> (repeat' split) <;> omega
theorem DB_step {t : List Pt} (v : VT t) {a b : Int} {i : Nat} (h : i + 1 < t.length) (hl : fromX t a i < toX t b i) (hp : ¬ (fromX t a i = (pt t i).x ∧ toX t b i = (pt t (i + 1)).x)) : DB t a b i ≤ 1000000 ∧ 1000000 * DB t a b i ≤ DB t a b (i + 1) ∧ CB t a b i + 1 ≤ CB t a b (i + 1) ∧ CB t a b i ≤ 1 := by
  have up := v.up i h
  unfold fromX toX at *
  have : ((pt t i).x < a ∧ a < (pt t (i + 1)).x) ∨ ((pt t i).x ≤ b ∧ b < (pt t (i + 1)).x) := by
    revert hl hp
    split <;> split <;> intro hl hp <;> omega
  unfold DB CB
  rcases this with ⟨h1, h2⟩ | ⟨h1, h2⟩
  · rw [if_neg (show ¬ (pt t i).x > a by omega), if_neg (show ¬ (pt t i).x > a by omega), if_pos (show (pt t (i + 1)).x > a by omega), if_pos (show (pt t (i + 1)).x > a by omega)]
    by_cases h3 : (pt t i).x > b
    · rw [if_pos h3, if_pos h3, if_pos (by omega), if_pos (by omega)]; omega
    · rw [if_neg h3, if_neg h3]; split <;> omega
  · rw [if_neg (show ¬ (pt t i).x > b by omega), if_neg (show ¬ (pt t i).x > b by omega), if_pos (show (pt t (i + 1)).x > b by omega), if_pos (show (pt t (i + 1)).x > b by omega)]
    by_cases h3 : (pt t i).x > a
    · rw [if_pos h3, if_pos h3, if_pos (by omega), if_pos (by omega)]; omega
    · rw [if_neg h3, if_neg h3]; split <;> omega

def okY (t : List Pt) (ys : Nat → Int) : Prop := ∀ i, i < t.length → -1000000000 ≤ ys i ∧ ys i ≤ 1000000000
theorem from_to {t : List Pt} {a b : Int} {i : Nat} : (pt t i).x ≤ fromX t a i ∧ a ≤ fromX t a i ∧ toX t b i ≤ (pt t (i + 1)).x ∧ toX t b i ≤ b := by
  unfold fromX toX; refine ⟨?_, ?_, ?_, ?_⟩ <;> split <;> omega
theorem AN.of {t : List Pt} (v : VT t) {ys : Nat → Int} (hy : okY t ys) {a b : Int} {i : Nat} (h : i + 1 < t.length) (hl : fromX t a i < toX t b i) : AN (pt t i).x (pt t (i + 1)).x (ys i) (ys (i + 1)) (fromX t a i) (toX t b i) := by
  obtain ⟨h1, _, h3, _⟩ := from_to (t := t) (a := a) (b := b) (i := i)
  have y0 := hy i (by omega)
  have y1 := hy (i + 1) h
  exact AN.mk' (v.ok i (by omega)).x0 (v.up i h) (v.ok (i + 1) h).x1 y0.1 y0.2 y1.1 y1.2 h1 hl h3

/-- The exact state is within bounds. -/
structure TB (t : List Pt) (ys : Nat → Int) (a b : Int) (i : Nat) : Prop where
  n0 : 0 ≤ (tw t ys a b i).N
  n1 : (tw t ys a b i).N < (tw t ys a b i).D
  d1 : (tw t ys a b i).D ≤ DB t a b i
  w0 : -(i : Int) * 10000000000000000 ≤ (tw t ys a b i).W
  w1 : (tw t ys a b i).W ≤ (i : Int) * 10000000000000000

theorem cc_bd {x0 x1 y0 y1 lo hi : Int} (n : AN x0 x1 y0 y1 lo hi) : -7000000000000000 ≤ cc x0 x1 y0 y1 lo hi ∧ cc x0 x1 y0 y1 lo hi ≤ 7000000000000000 := by
  obtain ⟨k0, k1, q0, q1, qw0, qw1, m0, m1, mk0, mk1, d0, d1, r0, r1, yl, qk, _⟩ := n
  unfold cc; omega

theorem tw_bd {t : List Pt} (v : VT t) {ys : Nat → Int} (hy : okY t ys) (a b : Int) : ∀ i, i < t.length → TB t ys a b i
  | 0, _ => ⟨by simp [tw], by simp [tw], (DB_le t a b 0).1, by simp [tw], by simp [tw]⟩
  | i + 1, h => by
    obtain ⟨n0, n1, d1, w0, w1⟩ := tw_bd v hy a b i (by omega)
    have hm := DB_mono v a b h
    by_cases hl : fromX t a i ≥ toX t b i
    · have e : tw t ys a b (i + 1) = tw t ys a b i := by simp only [tw]; rw [if_pos hl]
      exact ⟨by rw [e]; exact n0, by rw [e]; exact n1, by rw [e]; omega, by rw [e]; omega, by rw [e]; omega⟩
    · have n := AN.of v hy (a := a) (b := b) h (by omega)
      have cb := cc_bd n
      have e : tw t ys a b (i + 1) = (tw t ys a b i).add (cc (pt t i).x (pt t (i + 1)).x (ys i) (ys (i + 1)) (fromX t a i) (toX t b i)) (rr (pt t i).x (pt t (i + 1)).x (ys i) (ys (i + 1)) (fromX t a i) (toX t b i)) ((pt t (i + 1)).x - (pt t i).x) := by simp only [tw]; rw [if_neg hl]
      have up := v.up i h
      have wx := (v.ok (i + 1) h).x1
      have wx0 := (v.ok i (by omega)).x0
      by_cases hr : rr (pt t i).x (pt t (i + 1)).x (ys i) (ys (i + 1)) (fromX t a i) (toX t b i) > 0
      · have hs := DB_step v (a := a) (b := b) h (by omega) (fun hp => by have := n.full hp.1 hp.2; omega)
        unfold TS.add at e
        rw [if_pos hr] at e
        have hD : 0 < (tw t ys a b i).D * ((pt t (i + 1)).x - (pt t i).x) := Int.mul_pos (by omega) (by omega)
        have hN : (tw t ys a b i).N * ((pt t (i + 1)).x - (pt t i).x) + rr (pt t i).x (pt t (i + 1)).x (ys i) (ys (i + 1)) (fromX t a i) (toX t b i) * (tw t ys a b i).D < 2 * ((tw t ys a b i).D * ((pt t (i + 1)).x - (pt t i).x)) := by
          have h1 := Int.mul_lt_mul_of_pos_right n1 (show 0 < (pt t (i + 1)).x - (pt t i).x by omega)
          have h2 := Int.mul_lt_mul_of_pos_right n.r1 (show 0 < (tw t ys a b i).D by omega)
          rw [Int.mul_comm ((pt t (i + 1)).x - (pt t i).x)] at h2
          omega
        have hN0 : 0 ≤ (tw t ys a b i).N * ((pt t (i + 1)).x - (pt t i).x) + rr (pt t i).x (pt t (i + 1)).x (ys i) (ys (i + 1)) (fromX t a i) (toX t b i) * (tw t ys a b i).D := Int.add_nonneg (Int.mul_nonneg n0 (by omega)) (Int.mul_nonneg n.r0 (by omega))
        have hq : ((tw t ys a b i).N * ((pt t (i + 1)).x - (pt t i).x) + rr (pt t i).x (pt t (i + 1)).x (ys i) (ys (i + 1)) (fromX t a i) (toX t b i) * (tw t ys a b i).D) / ((tw t ys a b i).D * ((pt t (i + 1)).x - (pt t i).x)) < 2 := Int.ediv_lt_of_lt_mul hD hN
        have hq0 : 0 ≤ ((tw t ys a b i).N * ((pt t (i + 1)).x - (pt t i).x) + rr (pt t i).x (pt t (i + 1)).x (ys i) (ys (i + 1)) (fromX t a i) (toX t b i) * (tw t ys a b i).D) / ((tw t ys a b i).D * ((pt t (i + 1)).x - (pt t i).x)) := Int.ediv_nonneg hN0 (by omega)
        have hDw : (tw t ys a b i).D * ((pt t (i + 1)).x - (pt t i).x) ≤ DB t a b i * 1000000 := by
          have h1 := Int.mul_le_mul_of_nonneg_right d1 (show 0 ≤ (pt t (i + 1)).x - (pt t i).x by omega)
          have h2 := Int.mul_le_mul_of_nonneg_left (show (pt t (i + 1)).x - (pt t i).x ≤ 1000000 by omega) (show 0 ≤ DB t a b i by have := DB_le t a b i; omega)
          omega
        refine ⟨by rw [e]; exact Int.emod_nonneg _ (by omega), by rw [e]; exact Int.emod_lt_of_pos _ hD, by rw [e]; simp only; omega, by rw [e]; simp only; omega, by rw [e]; simp only; omega⟩
      · unfold TS.add at e
        rw [if_neg hr] at e
        exact ⟨by rw [e]; exact n0, by rw [e]; exact n1, by rw [e]; simp only; omega, by rw [e]; simp only; omega, by rw [e]; simp only; omega⟩
end Go.Proofs.Ytpjmgeajajcceaa
