/-
  Scale, the program's and the reference's, in one form. No condition.
-/
import Derived.Test.YtpjmgeajajcceaaTB9
set_option linter.unusedSimpArgs false
set_option linter.unusedVariables false
namespace Go.Proofs.Ytpjmgeajajcceaa
open Go.Sl Go.Sx
def V (lo hi : Int) : Prop := -1000000000000000 ≤ lo ∧ lo ≤ hi ∧ hi ≤ 1000000000000000
instance (lo hi : Int) : Decidable (V lo hi) := by unfold V; infer_instance

theorem F34_eq (f : Nat) (lo hi : Int) : F34 f lo hi = some (decide (V lo hi)) := by
  unfold F34 F34_j1
  by_cases h : V lo hi
  · have h' := h
    unfold V at h'
    rw [decide_eq_true h, decide_eq_true h'.1, decide_eq_true h'.2.1, decide_eq_true h'.2.2]; rfl
  · rw [decide_eq_false h]
    by_cases h1 : -1000000000000000 ≤ lo
    · by_cases h2 : lo ≤ hi
      · rw [decide_eq_true h1, decide_eq_true h2, decide_eq_false (p := hi ≤ 1000000000000000) (fun h3 => h ⟨h1, h2, h3⟩)]; rfl
      · rw [decide_eq_true h1, decide_eq_false h2]; rfl
    · rw [decide_eq_false h1]; rfl
theorem F52_eq (f : Nat) (lo hi : Int) : F52 f lo hi = some (if V lo hi then 0 else 10) := by
  unfold F52 F52_j1
  by_cases h : V lo hi
  · have h1 : decide (lo > hi) = false := by unfold V at h; simp; omega
    have h2 : decide (lo < (-1000000000000000 : Int)) = false := by unfold V at h; simp; omega
    have h3 : decide (hi > (1000000000000000 : Int)) = false := by unfold V at h; simp; omega
    rw [h1, h2, h3, if_pos h]; rfl
  · rw [if_neg h]
    by_cases h1 : lo > hi
    · rw [decide_eq_true h1]; rfl
    · rw [decide_eq_false h1]
      by_cases h2 : lo < -1000000000000000
      · rw [decide_eq_true h2]; rfl
      · rw [decide_eq_false h2, decide_eq_true (p := hi > 1000000000000000) (by unfold V at h; omega)]; rfl
theorem F106_eq (f : Nat) (a b c d : Int) : F106 f a b c d = some (if V a b ∧ V c d then 0 else 10) := by
  unfold F106
  simp only [F52_eq]
  by_cases h : V a b <;> by_cases h2 : V c d <;> simp [h, h2]
theorem F107_eq (f : Nat) (a b : Int) : F107 f a b = some (if V a b then (a, b, 0) else (0, 0, 5)) := by
  unfold F107
  rw [F34_eq]
  by_cases h : V a b <;> simp [h]
theorem g0 {α : Type} (a b : α) : getI [a, b] 0 = some a := rfl
theorem g1 {α : Type} (a b : α) : getI [a, b] 1 = some b := rfl
theorem k1 : w64 1 = 1 := by decide
theorem k2 : w64 2 = 2 := by decide
theorem absW {n : Int} (h1 : -1000000000000000 ≤ n) (h2 : n ≤ 1000000000000000) : (if w64 (0 - n) > n then w64 (0 - n) else n) = (n.natAbs : Int) := by
  rw [w64_id (by omega) (by omega)]
  split <;> omega
/-- floor of q*d + rest times n over d. -/
theorem floorMul {m n d : Int} (hd : 1 ≤ d) : (m / d) * n + ((m - (m / d) * d) * n) / d = (m * n) / d := by
  have e : m * n = (m - (m / d) * d) * n + (m / d * n) * d := by
    rw [Int.sub_mul, Int.mul_assoc (m / d) n d, Int.mul_comm n d, ← Int.mul_assoc]
    omega
  rw [e, Int.add_mul_ediv_right _ _ (by omega : d ≠ 0)]
  omega
def fl (m n d : Int) : Int := (m * n) / d
def ce (m n d : Int) : Int := -((-(m * n)) / d)
/-- What one step of Scale works with. -/
structure SF (m n d : Int) : Prop where
  m0 : -1000000000000000 ≤ m
  m1 : m ≤ 1000000000000000
  d1 : d ≤ 1000000000
  r0 : 0 ≤ m - m / d * d
  r1 : m - m / d * d < d
  q0 : -1000000000000000 ≤ m / d
  q1 : m / d ≤ 1000000000000000
  s0 : -1000000000000000000 ≤ (m - m / d * d) * n
  s1 : (m - m / d * d) * n ≤ 1000000000000000000
  t0 : -1000000000 ≤ ((m - m / d * d) * n) / d
  t1 : ((m - m / d * d) * n) / d ≤ 1000000000
  tn : (((m - m / d * d) * n) / d).natAbs ≤ n.natAbs
  u0 : -1000000000 ≤ -((-((m - m / d * d) * n)) / d)
  u1 : -((-((m - m / d * d) * n)) / d) ≤ 1000000000
  f : m / d * n + ((m - m / d * d) * n) / d = fl m n d
  c : m / d * n + -((-((m - m / d * d) * n)) / d) = ce m n d
  fc : fl m n d ≤ ce m n d
theorem absDiv {x n d : Int} (hd : 1 ≤ d) (h : x.natAbs ≤ d.natAbs * n.natAbs) : -(n.natAbs : Int) ≤ x / d ∧ x / d ≤ (n.natAbs : Int) := by
  have e : ((d.natAbs * n.natAbs : Nat) : Int) = (n.natAbs : Int) * d := by rw [Int.natCast_mul, Int.natAbs_of_nonneg (by omega), Int.mul_comm]
  have h' : (x.natAbs : Int) ≤ (n.natAbs : Int) * d := by rw [← e]; exact Int.ofNat_le.2 h
  constructor
  · apply Int.le_ediv_of_mul_le (by omega)
    rw [Int.neg_mul]
    omega
  · apply Int.ediv_le_of_le_mul (by omega)
    omega
theorem SF.mk' {m n d : Int} (h0 : -1000000000000000 ≤ m) (h1 : m ≤ 1000000000000000) (hn0 : -1000000000 ≤ n) (hn1 : n ≤ 1000000000) (hd : 1 ≤ d) (hd1 : d ≤ 1000000000) : SF m n d := by
  have hr : m - m / d * d = m % d := by have := Int.mul_ediv_add_emod m d; rw [Int.mul_comm] at this; omega
  have r0 : 0 ≤ m % d := Int.emod_nonneg _ (by omega)
  have r1 : m % d < d := Int.emod_lt_of_pos _ (by omega)
  have q0 : -1000000000000000 ≤ m / d := Int.le_ediv_of_mul_le (by omega) (by omega)
  have q1 : m / d ≤ 1000000000000000 := Int.ediv_le_of_le_mul (by omega) (by omega)
  have hrn : ((m % d) * n).natAbs ≤ d.natAbs * n.natAbs := by rw [Int.natAbs_mul]; exact Nat.mul_le_mul_right _ (by omega)
  have hrn' : ((m % d) * n).natAbs ≤ 1000000000 * 1000000000 := by rw [Int.natAbs_mul]; exact Nat.mul_le_mul (by omega) (by omega)
  have hb := absDiv (n := n) hd hrn
  have hb' := absDiv (x := -((m % d) * n)) (n := n) hd (by rw [Int.natAbs_neg]; exact hrn)
  have hf := floorMul (m := m) (n := n) hd
  have hc := floorMul (m := m) (n := -n) hd
  rw [hr, Int.mul_neg, Int.mul_neg, Int.mul_neg] at hc
  have hfc : (m * n) / d ≤ -((-(m * n)) / d) := by
    have := Int.add_mul_ediv_right
    have e1 := Int.mul_ediv_add_emod (m * n) d
    have e2 := Int.mul_ediv_add_emod (-(m * n)) d
    have p1 := Int.emod_nonneg (m * n) (b := d) (by omega)
    have p2 := Int.emod_nonneg (-(m * n)) (b := d) (by omega)
    have e3 : d * ((m * n) / d + (-(m * n)) / d) ≤ 0 := by rw [Int.mul_add]; omega
    have e4 : (m * n) / d + (-(m * n)) / d ≤ 0 := by
      rcases Int.lt_or_le 0 ((m * n) / d + (-(m * n)) / d) with hlt | hle
      · have := Int.mul_pos (a := d) (by omega) hlt; omega
      · exact hle
    omega
  rw [hr] at hf
  refine ⟨h0, h1, hd1, by rw [hr]; exact r0, by rw [hr]; exact r1, q0, q1, ?_, ?_, ?_, ?_, ?_, ?_, ?_, ?_, ?_, hfc⟩ <;> rw [hr]
  · omega
  · omega
  · omega
  · omega
  · omega
  · omega
  · omega
  · exact hf
  · unfold ce; omega
/-- Is it too far? -/
theorem bigQ {q n k : Int} (hk0 : 0 ≤ k) (hk : k ≤ 4000000000000000) (hn0 : -1000000000 ≤ n) (hn1 : n ≤ 1000000000) (h0 : n ≠ 0) :
    ((q.natAbs : Int) > w64 (Int.tdiv k (n.natAbs : Int))) ↔ k < (q * n).natAbs := by
  have hp : 0 < (n.natAbs : Int) := by omega
  have e1 : Int.tdiv k (n.natAbs : Int) = k / (n.natAbs : Int) := Int.tdiv_eq_ediv_of_nonneg hk0
  have hle : k / (n.natAbs : Int) ≤ k := Int.ediv_le_self _ hk0
  have hge : 0 ≤ k / (n.natAbs : Int) := Int.ediv_nonneg hk0 (by omega)
  rw [e1, w64_id (by omega) (by omega)]
  show k / (n.natAbs : Int) < (q.natAbs : Int) ↔ _
  rw [Int.ediv_lt_iff_lt_mul hp, Int.natAbs_mul, ← Int.natCast_mul]
theorem mul_zero_natAbs (q : Int) : (q * 0).natAbs = 0 := by rw [Int.mul_zero]; rfl
/-- One round of Scale's loop. -/
theorem F40_j2_eq {p n d : Int} (f : Nat) (k : Int → Int → Bool → Int → Option (Int × Int × Int)) (u v : Int) (s : Bool) (y : Int) (hd : 1 ≤ d) (hn0 : -1000000000 ≤ n) (hn1 : n ≤ 1000000000) (S : SF p n d) (hb : (p / d * n).natAbs ≤ 2000000000000000) (hd1 : d ≤ 1000000000) :
    F40_j2 f k n d u v s y p (p / d) false = k (let u0 := if s then u else fl p n d; let u1 := if fl p n d < u0 then fl p n d else u0; if ce p n d < u1 then ce p n d else u1)
      (let v0 := if s then v else fl p n d; let v1 := if fl p n d > v0 then fl p n d else v0; if ce p n d > v1 then ce p n d else v1) true (w64 (y + 1)) := by
  obtain ⟨m0, m1, dd, r0, r1, q0, q1, s0, s1, t0, t1, tn, u0, u1, hf, hc, hfc⟩ := S
  have e1 : w64 (p / d * d) = p / d * d := by
    exact w64_id (by omega) (by omega)
  have e2 : w64 (p - p / d * d) = p - p / d * d := w64_id (by omega) (by omega)
  have e3 : w64 ((p - p / d * d) * n) = (p - p / d * d) * n := w64_id (by omega) (by omega)
  have e4 : w64 (p / d * n) = p / d * n := w64_id (by omega) (by omega)
  have e5 := w64_id (n := p / d * n + ((p - p / d * d) * n) / d) (by omega) (by omega)
  have e6 := w64_id (n := p / d * n + -((-((p - p / d * d) * n)) / d)) (by omega) (by omega)
  have d1 := F85_eq f (x := (p - p / d * d) * n) hd (by omega) (by omega)
  have d2 := F86_eq f (x := (p - p / d * d) * n) hd (by omega) (by omega)
  unfold F40_j2 F40_j3 F40_j4
  rw [cond_false, e1, e2, e3, e4, d1, Option.bind_some, e5, d2, Option.bind_some, Option.bind_some, e6, hf, hc]
  cases s <;> simp
/-- The error or the range. -/
def mk3 (u v : Int) : Option (Int × Int × Int) := if V u v then some (u, v, 0) else some (0, 0, 5)
theorem mk3_not {u v x : Int} (h1 : u ≤ x) (h2 : x ≤ v) (hx : 1000000000000000 < x.natAbs) : mk3 u v = some (0, 0, 5) := by
  unfold mk3; rw [if_neg (by unfold V; omega)]
def least (lo hi n : Int) : Int := if n < 0 then hi else lo
def most (lo hi n : Int) : Int := if n < 0 then lo else hi
theorem ediv_mono {x y d : Int} (hd : 1 ≤ d) (h : x ≤ y) : x / d ≤ y / d := Int.ediv_le_ediv (by omega) h
theorem fl_mono {x y n d : Int} (hd : 1 ≤ d) (h : x * n ≤ y * n) : fl x n d ≤ fl y n d := ediv_mono hd h
theorem ce_mono {x y n d : Int} (hd : 1 ≤ d) (h : x * n ≤ y * n) : ce x n d ≤ ce y n d := by
  have := ediv_mono (x := -(y * n)) (y := -(x * n)) hd (by omega)
  unfold ce; omega
/-- The two ends' order. -/
theorem ends {lo hi n : Int} (h : lo ≤ hi) : least lo hi n * n ≤ most lo hi n * n := by
  unfold least most
  by_cases hn : n < 0
  · rw [if_pos hn, if_pos hn]; exact Int.mul_le_mul_of_nonpos_right h (by omega)
  · rw [if_neg hn, if_neg hn]; exact Int.mul_le_mul_of_nonneg_right h (by omega)
/-- Far out: what is too big for the loop lies out of the limits. -/
theorem far {m n d k : Int} (S : SF m n d) (hn : n.natAbs ≤ 1000000000) (hk : k < (m / d * n).natAbs) (hk2 : 1000000000000000 + (n.natAbs : Int) ≤ k) : 1000000000000000 < (fl m n d).natAbs := by
  have h1 := S.f
  have h2 := S.tn
  omega
theorem l1_step {lo hi n d : Int} (f m : Nat) (u v : Int) (s : Bool) (y : Int) {p : Int} (hy : getI [lo, hi] y = some p) (hy2 : y < 2) (h0 : -1000000000000000 ≤ p) (h1 : p ≤ 1000000000000000) (hn0 : -1000000000 ≤ n) (hn1 : n ≤ 1000000000) (hd : 1 ≤ d) (hd1 : d ≤ 1000000000) :
    F40_l1 f lo hi n d (m + 1) u v s y = if 2000000000000000 < (p / d * n).natAbs then some (0, 0, 5) else F40_l1 f lo hi n d m (let u0 := if s then u else fl p n d; let u1 := if fl p n d < u0 then fl p n d else u0; if ce p n d < u1 then ce p n d else u1)
      (let v0 := if s then v else fl p n d; let v1 := if fl p n d > v0 then fl p n d else v0; if ce p n d > v1 then ce p n d else v1) true (w64 (y + 1)) := by
  have S := SF.mk' h0 h1 hn0 hn1 hd hd1
  have hq : F85 f p d = some (p / d) := F85_eq f hd (by omega) (by omega)
  have q0 := S.q0
  have q1 := S.q1
  rw [F40_l1, decide_eq_true hy2, cond_true, hy, Option.bind_some, hq, Option.bind_some]
  by_cases hb : 2000000000000000 < (p / d * n).natAbs
  · rw [if_pos hb]
    have h0 : n ≠ 0 := by intro e; rw [e, mul_zero_natAbs] at hb; omega
    have e1 : (n != 0) = true := by simp [h0]
    have e2 : nz (n.natAbs : Int) = some () := by unfold nz; rw [if_pos (by omega)]
    rw [e1, cond_true, absW (by omega) (by omega), absW q0 q1, e2, Option.bind_some, decide_eq_true ((bigQ (by omega) (by omega) hn0 hn1 h0).2 (by omega))]
    unfold F40_j2; rfl
  · rw [if_neg hb]
    refine Eq.trans ?_ (F40_j2_eq f (F40_l1 f lo hi n d m) u v s y hd hn0 hn1 S (by omega) hd1)
    by_cases h0 : n = 0
    · have e1 : (n != 0) = false := by simp [h0]
      rw [e1, cond_false]
    · have e1 : (n != 0) = true := by simp [h0]
      have e2 : nz (n.natAbs : Int) = some () := by unfold nz; rw [if_pos (by omega)]
      rw [e1, cond_true, absW (by omega) (by omega), absW q0 q1, e2, Option.bind_some, decide_eq_false (fun h => hb (by have := (bigQ (by omega) (by omega) hn0 hn1 h0).1 h; omega))]
theorem l1_end {lo hi n d : Int} (f m : Nat) (u v : Int) (s : Bool) : F40_l1 f lo hi n d (m + 1) u v s 2 = mk3 u v := by
  have f3 : decide ((2 : Int) < 2) = false := rfl
  rw [F40_l1, f3, cond_false, F52_eq]
  unfold mk3 F40_j5
  by_cases h : V u v
  · rw [if_pos h, if_pos h]; rfl
  · rw [if_neg h, if_neg h]; rfl
theorem pick4 {a b c d : Int} (hab : a ≤ b) (hcd : c ≤ d) : (if d < (if c < (if b < (if a < a then a else a) then b else (if a < a then a else a)) then c else (if b < (if a < a then a else a) then b else (if a < a then a else a))) then d else (if c < (if b < (if a < a then a else a) then b else (if a < a then a else a)) then c else (if b < (if a < a then a else a) then b else (if a < a then a else a)))) = (if c < a then c else a) := by
  have e1 : (if a < a then a else a) = a := by split <;> rfl
  have e2 : (if b < a then b else a) = a := by split <;> omega
  rw [e1, e2]
  split <;> split <;> omega
theorem pick4' {a b c d : Int} (hab : a ≤ b) (hcd : c ≤ d) : (if d > (if c > (if b > (if a > a then a else a) then b else (if a > a then a else a)) then c else (if b > (if a > a then a else a) then b else (if a > a then a else a))) then d else (if c > (if b > (if a > a then a else a) then b else (if a > a then a else a)) then c else (if b > (if a > a then a else a) then b else (if a > a then a else a)))) = (if d > b then d else b) := by
  have e1 : (if a > a then a else a) = a := by split <;> rfl
  have e2 : (if b > a then b else a) = b := by split <;> omega
  rw [e1, e2]
  split <;> split <;> (try split) <;> omega
theorem F40_l1_eq {lo hi n d : Int} (h : V lo hi) (hn0 : -1000000000 ≤ n) (hn1 : n ≤ 1000000000) (hd : 1 ≤ d) (hd1 : d ≤ 1000000000) (f m : Nat) :
    F40_l1 f lo hi n d (m + 3) 0 0 false 0 = mk3 (fl (least lo hi n) n d) (ce (most lo hi n) n d) := by
  have hv := h
  unfold V at hv
  have S1 := SF.mk' (m := lo) (n := n) (d := d) (by omega) (by omega) hn0 hn1 hd hd1
  have S2 := SF.mk' (m := hi) (n := n) (d := d) (by omega) (by omega) hn0 hn1 hd hd1
  have he := ends (n := n) hv.2.1
  have m1 := fl_mono hd he
  have m2 := ce_mono hd he
  have k0 : w64 (0 + 1) = 1 := by decide
  have k3 : w64 (1 + 1) = 2 := by decide
  have a1 : fl (least lo hi n) n d ≤ fl lo n d ∧ fl (least lo hi n) n d ≤ fl hi n d ∧ ce lo n d ≤ ce (most lo hi n) n d ∧ ce hi n d ≤ ce (most lo hi n) n d ∧ (fl (least lo hi n) n d = fl lo n d ∨ fl (least lo hi n) n d = fl hi n d) ∧ (ce (most lo hi n) n d = ce lo n d ∨ ce (most lo hi n) n d = ce hi n d) := by
    unfold least most at *
    by_cases hn : n < 0
    · simp only [if_pos hn] at *
      exact ⟨m1, Int.le_refl _, Int.le_refl _, m2, .inr trivial, .inl trivial⟩
    · simp only [if_neg hn] at *
      exact ⟨Int.le_refl _, m1, m2, Int.le_refl _, .inl trivial, .inr trivial⟩
  obtain ⟨b1, b2, b3, b4, b5, b6⟩ := a1
  rw [l1_step f (m + 2) 0 0 false 0 (p := lo) rfl (by decide) (by omega) (by omega) hn0 hn1 hd hd1]
  by_cases c1 : 2000000000000000 < (lo / d * n).natAbs
  · rw [if_pos c1, mk3_not b1 (Int.le_trans S1.fc b3) (far S1 (by omega) (k := 2000000000000000) (by omega) (by omega))]
  · rw [if_neg c1, k0, l1_step f (m + 1) _ _ true 1 (p := hi) rfl (by decide) (by omega) (by omega) hn0 hn1 hd hd1]
    by_cases c2 : 2000000000000000 < (hi / d * n).natAbs
    · rw [if_pos c2, mk3_not b2 (Int.le_trans S2.fc b4) (far S2 (by omega) (k := 2000000000000000) (by omega) (by omega))]
    · rw [if_neg c2, k3, l1_end]
      simp only [Bool.false_eq_true, if_false, if_true]
      have g1 := S1.fc
      have g2 := S2.fc
      rw [pick4 g1 g2, pick4' g1 g2]
      congr 1
      · split <;> omega
      · split <;> omega
theorem F40_eq (lo hi n d : Int) : F40 64 lo hi n d = if V lo hi then (if -1000000000 ≤ n ∧ n ≤ 1000000000 ∧ 1 ≤ d ∧ d ≤ 1000000000 then mk3 (fl (least lo hi n) n d) (ce (most lo hi n) n d) else some (0, 0, 1)) else some (0, 0, 10) := by
  unfold F40
  rw [F52_eq]
  by_cases h : V lo hi
  · rw [if_pos h, if_pos h, Option.bind_some, F90_eq]
    rw [cond_z, Option.bind_some, F90_eq, Option.bind_some]
    unfold F40_j1
    by_cases h1 : -1000000000 ≤ n ∧ n ≤ 1000000000
    · rw [decide_eq_true h1]
      by_cases h2 : 1 ≤ d ∧ d ≤ 1000000000
      · rw [decide_eq_true h2, if_pos ⟨h1.1, h1.2, h2.1, h2.2⟩]
        exact F40_l1_eq h h1.1 h1.2 h2.1 h2.2 64 61
      · rw [decide_eq_false h2, if_neg (fun h => h2 ⟨h.2.2.1, h.2.2.2⟩)]; rfl
    · rw [decide_eq_false h1, if_neg (fun h => h1 ⟨h.1, h.2.1⟩)]; rfl
  · rw [if_neg h, if_neg h]; rfl
theorem F109_eq {m n d : Int} (f : Nat) (h0 : -1000000000000000 ≤ m) (h1 : m ≤ 1000000000000000) (hn0 : -1000000000 ≤ n) (hn1 : n ≤ 1000000000) (hd : 1 ≤ d) (hd1 : d ≤ 1000000000) :
    ∃ b : Bool, F109 f m n d = some (if b then (0, false) else (fl m n d, true)) ∧ (b = true → 1000000000000000 < (fl m n d).natAbs) ∧ (b = false → (fl m n d).natAbs ≤ 4000000000000000) := by
  have S := SF.mk' h0 h1 hn0 hn1 hd hd1
  have q0 := S.q0
  have q1 := S.q1
  have hq : F100 f m d = some (m / d) := F100_eq f hd (by omega) (by omega)
  have body : (m / d * n).natAbs ≤ 3000000000000000 → F109_j1 f m n d (m / d) false = some (fl m n d, true) ∧ (fl m n d).natAbs ≤ 4000000000000000 := fun hb => by
    obtain ⟨m0, m1, dd, r0, r1, q0, q1, s0, s1, t0, t1, tn, u0, u1, hf, hc, hfc⟩ := S
    have e1 : w64 (m / d * d) = m / d * d := w64_id (by omega) (by omega)
    have e2 : w64 (m - m / d * d) = m - m / d * d := w64_id (by omega) (by omega)
    have e3 : w64 ((m - m / d * d) * n) = (m - m / d * d) * n := w64_id (by omega) (by omega)
    have e4 : w64 (m / d * n) = m / d * n := w64_id (by omega) (by omega)
    have e5 := w64_id (n := m / d * n + ((m - m / d * d) * n) / d) (by omega) (by omega)
    have d1 := F100_eq f (x := (m - m / d * d) * n) hd (by omega) (by omega)
    unfold F109_j1
    rw [cond_false, e1, e2, e3, e4, d1, Option.bind_some, e5, hf]
    exact ⟨rfl, by omega⟩
  unfold F109
  rw [hq, Option.bind_some, absW (n := n) (by omega) (by omega), absW q0 q1]
  by_cases h : n = 0
  · have e1 : ((n.natAbs : Int) != 0) = false := by simp [h]
    have hb := body (by rw [h, mul_zero_natAbs]; omega)
    rw [e1, cond_false]
    exact ⟨false, hb.1, (fun h => by cases h), fun _ => hb.2⟩
  · have e1 : ((n.natAbs : Int) != 0) = true := by simp [h]
    have e2 : nz (n.natAbs : Int) = some () := by unfold nz; rw [if_pos (by omega)]
    have hp : 0 < (n.natAbs : Int) := by omega
    have t1 : Int.tdiv 1000000000000000 (n.natAbs : Int) = 1000000000000000 / (n.natAbs : Int) := Int.tdiv_eq_ediv_of_nonneg (by decide)
    have t2 : 1000000000000000 / (n.natAbs : Int) ≤ 1000000000000000 := Int.ediv_le_self _ (by decide)
    have t3 : 0 ≤ 1000000000000000 / (n.natAbs : Int) := Int.ediv_nonneg (by decide) (by omega)
    rw [e1, cond_true, e2, Option.bind_some, t1, w64_id (n := 1000000000000000 / (n.natAbs : Int)) (by omega) (by omega), w64_id (by omega) (by omega)]
    have e3 : (((m / d * n).natAbs : Nat) : Int) = ((m / d).natAbs : Int) * (n.natAbs : Int) := by rw [Int.natAbs_mul, Int.natCast_mul]
    have e4 := Int.mul_ediv_add_emod 1000000000000000 (n.natAbs : Int)
    have e5 := Int.emod_nonneg 1000000000000000 (b := (n.natAbs : Int)) (by omega)
    have e6 := Int.emod_lt_of_pos 1000000000000000 hp
    rw [Int.mul_comm] at e4
    generalize hK : (1000000000000000 : Int) / (n.natAbs : Int) = K at *
    by_cases hb : ((m / d).natAbs : Int) > K + 1
    · rw [decide_eq_true hb]
      refine ⟨true, rfl, fun _ => ?_, (fun h => by cases h)⟩
      have h2 : (K + 2) * (n.natAbs : Int) ≤ ((m / d).natAbs : Int) * (n.natAbs : Int) := Int.mul_le_mul_of_nonneg_right (by omega) (by omega)
      rw [Int.add_mul] at h2
      have hf := S.f
      have tn := S.tn
      omega
    · rw [decide_eq_false hb]
      have h2 : ((m / d).natAbs : Int) * (n.natAbs : Int) ≤ (K + 1) * (n.natAbs : Int) := Int.mul_le_mul_of_nonneg_right (by omega) (by omega)
      rw [Int.add_mul] at h2
      have hb := body (by omega)
      exact ⟨false, hb.1, (fun h => by cases h), fun _ => hb.2⟩
theorem fl_neg (m n d : Int) : fl (-m) n d = (-(m * n)) / d := by unfold fl; rw [Int.neg_mul]
theorem F49_j2_eq {n d u v : Int} (f : Nat) (hu0 : -1000000000000000 ≤ u) (hu1 : u ≤ 1000000000000000) (hv0 : -1000000000000000 ≤ v) (hv1 : v ≤ 1000000000000000) (hn0 : -1000000000 ≤ n) (hn1 : n ≤ 1000000000) (hd : 1 ≤ d) (hd1 : d ≤ 1000000000) :
    F49_j2 f n d u v = mk3 (fl u n d) (ce v n d) := by
  obtain ⟨b, e1, hb1, hb2⟩ := F109_eq f hu0 hu1 hn0 hn1 hd hd1
  obtain ⟨c, e2, hc1, hc2⟩ := F109_eq (m := -v) f (by omega) (by omega) hn0 hn1 hd hd1
  unfold F49_j2
  rw [w64_id (n := 0 - v) (by omega) (by omega), Int.zero_sub, e1, e2, Option.bind_some, Option.bind_some]
  have hce : ce v n d = -(fl (-v) n d) := by rw [fl_neg]; rfl
  cases b with
  | true =>
    have := hb1 rfl
    have hv : ¬ V (fl u n d) (ce v n d) := by unfold V; omega
    exact Eq.trans (by rfl) (if_neg hv).symm
  | false =>
    cases c with
    | true =>
      have := hc1 rfl
      have hv : ¬ V (fl u n d) (ce v n d) := by unfold V; omega
      exact Eq.trans (by rfl) (if_neg hv).symm
    | false =>
      have h2 := hc2 rfl
      show F49_j3 f (fl u n d, true) (fl (-v) n d, true) false = _
      unfold F49_j3
      rw [cond_false, F107_eq, w64_id (n := 0 - fl (-v) n d) (by omega) (by omega), Int.zero_sub, ← hce]
      unfold mk3
      by_cases h : V (fl u n d) (ce v n d)
      · rw [if_pos h, if_pos h]; rfl
      · rw [if_neg h, if_neg h]; rfl
theorem F49_eq (lo hi n d : Int) : F49 64 lo hi n d = if V lo hi then (if -1000000000 ≤ n ∧ n ≤ 1000000000 ∧ 1 ≤ d ∧ d ≤ 1000000000 then mk3 (fl (least lo hi n) n d) (ce (most lo hi n) n d) else some (0, 0, 1)) else some (0, 0, 10) := by
  unfold F49
  rw [F34_eq]
  by_cases h : V lo hi
  · have hv := h
    unfold V at hv
    rw [if_pos h, decide_eq_true h, Option.bind_some, Bool.not_true, cond_false]
    by_cases h1 : n < -1000000000
    · rw [decide_eq_true h1, if_neg (by omega)]; rfl
    · rw [decide_eq_false h1, cond_false]
      by_cases h2 : n > 1000000000
      · rw [decide_eq_true h2, if_neg (by omega)]; rfl
      · rw [decide_eq_false h2, cond_false]
        by_cases h3 : d < 1
        · rw [decide_eq_true h3, if_neg (by omega)]; rfl
        · rw [decide_eq_false h3, cond_false]
          by_cases h4 : d > 1000000000
          · rw [decide_eq_true h4, if_neg (by omega)]; rfl
          · rw [decide_eq_false h4, if_pos (by omega)]
            unfold F49_j1 least most
            rw [cond_false]
            by_cases h5 : n < 0
            · rw [decide_eq_true h5, cond_true, if_pos h5, if_pos h5, F49_j2_eq 64 (by omega) (by omega) (by omega) (by omega) (by omega) (by omega) (by omega) (by omega)]
            · rw [decide_eq_false h5, cond_false, if_neg h5, if_neg h5, F49_j2_eq 64 (by omega) (by omega) (by omega) (by omega) (by omega) (by omega) (by omega) (by omega)]
  · rw [if_neg h, decide_eq_false h]; rfl
theorem F40_F49 (lo hi n d : Int) : F40 64 lo hi n d = F49 64 lo hi n d := by rw [F40_eq, F49_eq]
end Go.Proofs.Ytpjmgeajajcceaa
