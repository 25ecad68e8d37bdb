/-
  A part of the walk and of the plain law of one given statement. No condition.
-/
import Derived.Test.YtpjmgeajajcceaaPU
set_option linter.unusedSimpArgs false
set_option linter.unusedVariables false
namespace Go.Proofs.Ytpjmgeajajcceaa
open Go.Sl Go.Sx

/-- The error or the range. -/
def mk3 (u v : Int) : Option (Int × Int × Int) := if V u v then some (u, v, 0) else some (0, 0, 5)
theorem mk3_not {u v x : Int} (h1 : u ≤ x) (h2 : x ≤ v) (hx : 1000000000000000 < x.natAbs) : mk3 u v = some (0, 0, 5) := by
  unfold mk3; rw [if_neg (by unfold V; omega)]

def least (lo hi n : Int) : Int := if n < 0 then hi else lo
def most (lo hi n : Int) : Int := if n < 0 then lo else hi

theorem ediv_mono {x y d : Int} (hd : 1 ≤ d) (h : x ≤ y) : x / d ≤ y / d := Int.ediv_le_ediv (by omega) h
theorem fl_mono {x y n d : Int} (hd : 1 ≤ d) (h : x * n ≤ y * n) : fl x n d ≤ fl y n d := ediv_mono hd h
theorem ce_mono {x y n d : Int} (hd : 1 ≤ d) (h : x * n ≤ y * n) : ce x n d ≤ ce y n d := by
  have := ediv_mono (x := -(y * n)) (y := -(x * n)) hd (by omega)
  unfold ce; omega

/-- The two ends' order. -/
theorem ends {lo hi n : Int} (h : lo ≤ hi) : least lo hi n * n ≤ most lo hi n * n := by
  unfold least most
  by_cases hn : n < 0
  · rw [if_pos hn, if_pos hn]; exact Int.mul_le_mul_of_nonpos_right h (by omega)
  · rw [if_neg hn, if_neg hn]; exact Int.mul_le_mul_of_nonneg_right h (by omega)

/-- Far out: what is too big for the loop lies out of the limits. -/
theorem far {m n d k : Int} (S : SF m n d) (hn : n.natAbs ≤ 1000000000) (hk : k < (m / d * n).natAbs) (hk2 : 1000000000000000 + (n.natAbs : Int) ≤ k) : 1000000000000000 < (fl m n d).natAbs := by
  have h1 := S.f
  have h2 := S.tn
  omega

theorem l1_step {lo hi n d : Int} (f m : Nat) (u v : Int) (s : Bool) (y : Int) {p : Int} (hy : getI [lo, hi] y = some p) (hy2 : y < 2) (h0 : -1000000000000000 ≤ p) (h1 : p ≤ 1000000000000000) (hn0 : -1000000000 ≤ n) (hn1 : n ≤ 1000000000) (hd : 1 ≤ d) (hd1 : d ≤ 1000000000) :
    F40_l1 f lo hi n d (m + 1) u v s y = if 2000000000000000 < (p / d * n).natAbs then some (0, 0, 5) else F40_l1 f lo hi n d m (let u0 := if s then u else fl p n d; let u1 := if fl p n d < u0 then fl p n d else u0; if ce p n d < u1 then ce p n d else u1)
      (let v0 := if s then v else fl p n d; let v1 := if fl p n d > v0 then fl p n d else v0; if ce p n d > v1 then ce p n d else v1) true (w64 (y + 1)) := by
  have S := SF.mk' h0 h1 hn0 hn1 hd hd1
  have hq : F85 f p d = some (p / d) := F85_eq f hd (by omega) (by omega)
  have q0 := S.q0
  have q1 := S.q1
  rw [F40_l1, decide_eq_true hy2, cond_true, hy, Option.bind_some, hq, Option.bind_some]
  by_cases hb : 2000000000000000 < (p / d * n).natAbs
  · rw [if_pos hb]
    have h0 : n ≠ 0 := by intro e; rw [e, mul_zero_natAbs] at hb; omega
    have e1 : (n != 0) = true := by simp [h0]
    have e2 : nz (n.natAbs : Int) = some () := by unfold nz; rw [if_pos (by omega)]
    rw [e1, cond_true, absW (by omega) (by omega), absW q0 q1, e2, Option.bind_some, decide_eq_true ((bigQ (by omega) (by omega) hn0 hn1 h0).2 (by omega))]
    unfold F40_j2; rfl
  · rw [if_neg hb]
    refine Eq.trans ?_ (F40_j2_eq f (F40_l1 f lo hi n d m) u v s y hd hn0 hn1 S (by omega) hd1)
    by_cases h0 : n = 0
    · have e1 : (n != 0) = false := by simp [h0]
      rw [e1, cond_false]
    · have e1 : (n != 0) = true := by simp [h0]
      have e2 : nz (n.natAbs : Int) = some () := by unfold nz; rw [if_pos (by omega)]
      rw [e1, cond_true, absW (by omega) (by omega), absW q0 q1, e2, Option.bind_some, decide_eq_false (fun h => hb (by have := (bigQ (by omega) (by omega) hn0 hn1 h0).1 h; omega))]

theorem l1_end {lo hi n d : Int} (f m : Nat) (u v : Int) (s : Bool) : F40_l1 f lo hi n d (m + 1) u v s 2 = mk3 u v := by
  have f3 : decide ((2 : Int) < 2) = false := rfl
  rw [F40_l1, f3, cond_false, F52_eq]
  unfold mk3 F40_j5
  by_cases h : V u v
  · rw [if_pos h, if_pos h]; rfl
  · rw [if_neg h, if_neg h]; rfl

theorem pick4 {a b c d : Int} (hab : a ≤ b) (hcd : c ≤ d) : (if d < (if c < (if b < (if a < a then a else a) then b else (if a < a then a else a)) then c else (if b < (if a < a then a else a) then b else (if a < a then a else a))) then d else (if c < (if b < (if a < a then a else a) then b else (if a < a then a else a)) then c else (if b < (if a < a then a else a) then b else (if a < a then a else a)))) = (if c < a then c else a) := by
  have e1 : (if a < a then a else a) = a := by split <;> rfl
  have e2 : (if b < a then b else a) = a := by split <;> omega
  rw [e1, e2]
  split <;> split <;> omega
theorem pick4' {a b c d : Int} (hab : a ≤ b) (hcd : c ≤ d) : (if d > (if c > (if b > (if a > a then a else a) then b else (if a > a then a else a)) then c else (if b > (if a > a then a else a) then b else (if a > a then a else a))) then d else (if c > (if b > (if a > a then a else a) then b else (if a > a then a else a)) then c else (if b > (if a > a then a else a) then b else (if a > a then a else a)))) = (if d > b then d else b) := by
  have e1 : (if a > a then a else a) = a := by split <;> rfl
  have e2 : (if b > a then b else a) = b := by split <;> omega
  rw [e1, e2]
  split <;> split <;> (try split) <;> omega

theorem F40_l1_eq {lo hi n d : Int} (h : V lo hi) (hn0 : -1000000000 ≤ n) (hn1 : n ≤ 1000000000) (hd : 1 ≤ d) (hd1 : d ≤ 1000000000) (f m : Nat) :
    F40_l1 f lo hi n d (m + 3) 0 0 false 0 = mk3 (fl (least lo hi n) n d) (ce (most lo hi n) n d) := by
  have hv := h
  unfold V at hv
  have S1 := SF.mk' (m := lo) (n := n) (d := d) (by omega) (by omega) hn0 hn1 hd hd1
  have S2 := SF.mk' (m := hi) (n := n) (d := d) (by omega) (by omega) hn0 hn1 hd hd1
  have he := ends (n := n) hv.2.1
  have m1 := fl_mono hd he
  have m2 := ce_mono hd he
  have k0 : w64 (0 + 1) = 1 := by decide
  have k3 : w64 (1 + 1) = 2 := by decide
  have a1 : fl (least lo hi n) n d ≤ fl lo n d ∧ fl (least lo hi n) n d ≤ fl hi n d ∧ ce lo n d ≤ ce (most lo hi n) n d ∧ ce hi n d ≤ ce (most lo hi n) n d ∧ (fl (least lo hi n) n d = fl lo n d ∨ fl (least lo hi n) n d = fl hi n d) ∧ (ce (most lo hi n) n d = ce lo n d ∨ ce (most lo hi n) n d = ce hi n d) := by
    unfold least most at *
    by_cases hn : n < 0
    · simp only [if_pos hn] at *
      exact ⟨m1, Int.le_refl _, Int.le_refl _, m2, .inr trivial, .inl trivial⟩
    · simp only [if_neg hn] at *
      exact ⟨Int.le_refl _, m1, m2, Int.le_refl _, .inl trivial, .inr trivial⟩
  obtain ⟨b1, b2, b3, b4, b5, b6⟩ := a1
  rw [l1_step f (m + 2) 0 0 false 0 (p := lo) rfl (by decide) (by omega) (by omega) hn0 hn1 hd hd1]
  by_cases c1 : 2000000000000000 < (lo / d * n).natAbs
  · rw [if_pos c1, mk3_not b1 (Int.le_trans S1.fc b3) (far S1 (by omega) (k := 2000000000000000) (by omega) (by omega))]
  · rw [if_neg c1, k0, l1_step f (m + 1) _ _ true 1 (p := hi) rfl (by decide) (by omega) (by omega) hn0 hn1 hd hd1]
    by_cases c2 : 2000000000000000 < (hi / d * n).natAbs
    · rw [if_pos c2, mk3_not b2 (Int.le_trans S2.fc b4) (far S2 (by omega) (k := 2000000000000000) (by omega) (by omega))]
    · rw [if_neg c2, k3, l1_end]
      simp only [Bool.false_eq_true, if_false, if_true]
      have g1 := S1.fc
      have g2 := S2.fc
      rw [pick4 g1 g2, pick4' g1 g2]
      congr 1
      · split <;> omega
      · split <;> omega

theorem F40_eq (lo hi n d : Int) : F40 64 lo hi n d = if V lo hi then (if -1000000000 ≤ n ∧ n ≤ 1000000000 ∧ 1 ≤ d ∧ d ≤ 1000000000 then mk3 (fl (least lo hi n) n d) (ce (most lo hi n) n d) else some (0, 0, 1)) else some (0, 0, 10) := by
  unfold F40
  rw [F52_eq]
  by_cases h : V lo hi
  · rw [if_pos h, if_pos h, Option.bind_some, F90_eq]
    rw [cond_z, Option.bind_some, F90_eq, Option.bind_some]
    unfold F40_j1
    by_cases h1 : -1000000000 ≤ n ∧ n ≤ 1000000000
    · rw [decide_eq_true h1]
      by_cases h2 : 1 ≤ d ∧ d ≤ 1000000000
      · rw [decide_eq_true h2, if_pos ⟨h1.1, h1.2, h2.1, h2.2⟩]
        exact F40_l1_eq h h1.1 h1.2 h2.1 h2.2 64 61
      · rw [decide_eq_false h2, if_neg (fun h => h2 ⟨h.2.2.1, h.2.2.2⟩)]; rfl
    · rw [decide_eq_false h1, if_neg (fun h => h1 ⟨h.1, h.2.1⟩)]; rfl
  · rw [if_neg h, if_neg h]; rfl
end Go.Proofs.Ytpjmgeajajcceaa
