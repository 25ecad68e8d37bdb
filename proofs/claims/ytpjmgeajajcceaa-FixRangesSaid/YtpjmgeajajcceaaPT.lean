/-
  A part of the walk and of the plain law of one given statement. No condition.
-/
import Derived.Test.YtpjmgeajajcceaaPS2
set_option linter.unusedSimpArgs false
set_option linter.unusedVariables false
namespace Go.Proofs.Ytpjmgeajajcceaa
open Go.Sl Go.Sx

def fl (m n d : Int) : Int := (m * n) / d
def ce (m n d : Int) : Int := -((-(m * n)) / d)

/-- What one step of Scale works with. -/
structure SF (m n d : Int) : Prop where
  m0 : -1000000000000000 ≤ m
  m1 : m ≤ 1000000000000000
  d1 : d ≤ 1000000000
  r0 : 0 ≤ m - m / d * d
  r1 : m - m / d * d < d
  q0 : -1000000000000000 ≤ m / d
  q1 : m / d ≤ 1000000000000000
  s0 : -1000000000000000000 ≤ (m - m / d * d) * n
  s1 : (m - m / d * d) * n ≤ 1000000000000000000
  t0 : -1000000000 ≤ ((m - m / d * d) * n) / d
  t1 : ((m - m / d * d) * n) / d ≤ 1000000000
  tn : (((m - m / d * d) * n) / d).natAbs ≤ n.natAbs
  u0 : -1000000000 ≤ -((-((m - m / d * d) * n)) / d)
  u1 : -((-((m - m / d * d) * n)) / d) ≤ 1000000000
  f : m / d * n + ((m - m / d * d) * n) / d = fl m n d
  c : m / d * n + -((-((m - m / d * d) * n)) / d) = ce m n d
  fc : fl m n d ≤ ce m n d

theorem absDiv {x n d : Int} (hd : 1 ≤ d) (h : x.natAbs ≤ d.natAbs * n.natAbs) : -(n.natAbs : Int) ≤ x / d ∧ x / d ≤ (n.natAbs : Int) := by
  have e : ((d.natAbs * n.natAbs : Nat) : Int) = (n.natAbs : Int) * d := by rw [Int.natCast_mul, Int.natAbs_of_nonneg (by omega), Int.mul_comm]
  have h' : (x.natAbs : Int) ≤ (n.natAbs : Int) * d := by rw [← e]; exact Int.ofNat_le.2 h
  constructor
  · apply Int.le_ediv_of_mul_le (by omega)
    rw [Int.neg_mul]
    omega
  · apply Int.ediv_le_of_le_mul (by omega)
    omega

theorem SF.mk' {m n d : Int} (h0 : -1000000000000000 ≤ m) (h1 : m ≤ 1000000000000000) (hn0 : -1000000000 ≤ n) (hn1 : n ≤ 1000000000) (hd : 1 ≤ d) (hd1 : d ≤ 1000000000) : SF m n d := by
  have hr : m - m / d * d = m % d := by have := Int.mul_ediv_add_emod m d; rw [Int.mul_comm] at this; omega
  have r0 : 0 ≤ m % d := Int.emod_nonneg _ (by omega)
  have r1 : m % d < d := Int.emod_lt_of_pos _ (by omega)
  have q0 : -1000000000000000 ≤ m / d := Int.le_ediv_of_mul_le (by omega) (by omega)
  have q1 : m / d ≤ 1000000000000000 := Int.ediv_le_of_le_mul (by omega) (by omega)
  have hrn : ((m % d) * n).natAbs ≤ d.natAbs * n.natAbs := by rw [Int.natAbs_mul]; exact Nat.mul_le_mul_right _ (by omega)
  have hrn' : ((m % d) * n).natAbs ≤ 1000000000 * 1000000000 := by rw [Int.natAbs_mul]; exact Nat.mul_le_mul (by omega) (by omega)
  have hb := absDiv (n := n) hd hrn
  have hb' := absDiv (x := -((m % d) * n)) (n := n) hd (by rw [Int.natAbs_neg]; exact hrn)
  have hf := floorMul (m := m) (n := n) hd
  have hc := floorMul (m := m) (n := -n) hd
  rw [hr, Int.mul_neg, Int.mul_neg, Int.mul_neg] at hc
  have hfc : (m * n) / d ≤ -((-(m * n)) / d) := by
    have := Int.add_mul_ediv_right
    have e1 := Int.mul_ediv_add_emod (m * n) d
    have e2 := Int.mul_ediv_add_emod (-(m * n)) d
    have p1 := Int.emod_nonneg (m * n) (b := d) (by omega)
    have p2 := Int.emod_nonneg (-(m * n)) (b := d) (by omega)
    have e3 : d * ((m * n) / d + (-(m * n)) / d) ≤ 0 := by rw [Int.mul_add]; omega
    have e4 : (m * n) / d + (-(m * n)) / d ≤ 0 := by
      rcases Int.lt_or_le 0 ((m * n) / d + (-(m * n)) / d) with hlt | hle
      · have := Int.mul_pos (a := d) (by omega) hlt; omega
      · exact hle
    omega
  rw [hr] at hf
  refine ⟨h0, h1, hd1, by rw [hr]; exact r0, by rw [hr]; exact r1, q0, q1, ?_, ?_, ?_, ?_, ?_, ?_, ?_, ?_, ?_, hfc⟩ <;> rw [hr]
  · omega
  · omega
  · omega
  · omega
  · omega
  · omega
  · omega
  · exact hf
  · unfold ce; omega

theorem F86_eq (f : Nat) {x d : Int} (hd : 1 ≤ d) (h1 : -2000000000000000000 ≤ x) (h2 : x ≤ 2000000000000000000) : F86 f x d = some (-((-x) / d)) := by
  have b := tdivB (x := -x) hd (by omega) (by omega)
  have hle : -4000000000000000000 ≤ (-x) / d ∧ (-x) / d ≤ 4000000000000000000 := by
    constructor
    · exact Int.le_ediv_of_mul_le (by omega) (by omega)
    · exact Int.ediv_le_of_le_mul (by omega) (by omega)
  unfold F86
  rw [w64_id (n := 0 - x) (by omega) (by omega), F85_eq f hd (by omega) (by omega)]
  simp only [Option.bind_some, Int.zero_sub]
  rw [w64_id (by omega) (by omega)]

/-- Is it too far? -/
theorem bigQ {q n k : Int} (hk0 : 0 ≤ k) (hk : k ≤ 4000000000000000) (hn0 : -1000000000 ≤ n) (hn1 : n ≤ 1000000000) (h0 : n ≠ 0) :
    ((q.natAbs : Int) > w64 (Int.tdiv k (n.natAbs : Int))) ↔ k < (q * n).natAbs := by
  have hp : 0 < (n.natAbs : Int) := by omega
  have e1 : Int.tdiv k (n.natAbs : Int) = k / (n.natAbs : Int) := Int.tdiv_eq_ediv_of_nonneg hk0
  have hle : k / (n.natAbs : Int) ≤ k := Int.ediv_le_self _ hk0
  have hge : 0 ≤ k / (n.natAbs : Int) := Int.ediv_nonneg hk0 (by omega)
  rw [e1, w64_id (by omega) (by omega)]
  show k / (n.natAbs : Int) < (q.natAbs : Int) ↔ _
  rw [Int.ediv_lt_iff_lt_mul hp, Int.natAbs_mul, ← Int.natCast_mul]

theorem mul_zero_natAbs (q : Int) : (q * 0).natAbs = 0 := by rw [Int.mul_zero]; rfl
end Go.Proofs.Ytpjmgeajajcceaa
