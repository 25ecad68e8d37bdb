/-
  A part of the walk and of the plain law of one given statement. No condition.
-/
import Derived.Test.YtpjmgeajajcceaaPV
set_option linter.unusedSimpArgs false
set_option linter.unusedVariables false
namespace Go.Proofs.Ytpjmgeajajcceaa
open Go.Sl Go.Sx

theorem F109_eq {m n d : Int} (f : Nat) (h0 : -1000000000000000 ≤ m) (h1 : m ≤ 1000000000000000) (hn0 : -1000000000 ≤ n) (hn1 : n ≤ 1000000000) (hd : 1 ≤ d) (hd1 : d ≤ 1000000000) :
    ∃ b : Bool, F109 f m n d = some (if b then (0, false) else (fl m n d, true)) ∧ (b = true → 1000000000000000 < (fl m n d).natAbs) ∧ (b = false → (fl m n d).natAbs ≤ 4000000000000000) := by
  have S := SF.mk' h0 h1 hn0 hn1 hd hd1
  have q0 := S.q0
  have q1 := S.q1
  have hq : F100 f m d = some (m / d) := F100_eq f hd (by omega) (by omega)
  have body : (m / d * n).natAbs ≤ 3000000000000000 → F109_j1 f m n d (m / d) false = some (fl m n d, true) ∧ (fl m n d).natAbs ≤ 4000000000000000 := fun hb => by
    obtain ⟨m0, m1, dd, r0, r1, q0, q1, s0, s1, t0, t1, tn, u0, u1, hf, hc, hfc⟩ := S
    have e1 : w64 (m / d * d) = m / d * d := w64_id (by omega) (by omega)
    have e2 : w64 (m - m / d * d) = m - m / d * d := w64_id (by omega) (by omega)
    have e3 : w64 ((m - m / d * d) * n) = (m - m / d * d) * n := w64_id (by omega) (by omega)
    have e4 : w64 (m / d * n) = m / d * n := w64_id (by omega) (by omega)
    have e5 := w64_id (n := m / d * n + ((m - m / d * d) * n) / d) (by omega) (by omega)
    have d1 := F100_eq f (x := (m - m / d * d) * n) hd (by omega) (by omega)
    unfold F109_j1
    rw [cond_false, e1, e2, e3, e4, d1, Option.bind_some, e5, hf]
    exact ⟨rfl, by omega⟩
  unfold F109
  rw [hq, Option.bind_some, absW (n := n) (by omega) (by omega), absW q0 q1]
  by_cases h : n = 0
  · have e1 : ((n.natAbs : Int) != 0) = false := by simp [h]
    have hb := body (by rw [h, mul_zero_natAbs]; omega)
    rw [e1, cond_false]
    exact ⟨false, hb.1, (fun h => by cases h), fun _ => hb.2⟩
  · have e1 : ((n.natAbs : Int) != 0) = true := by simp [h]
    have e2 : nz (n.natAbs : Int) = some () := by unfold nz; rw [if_pos (by omega)]
    have hp : 0 < (n.natAbs : Int) := by omega
    have t1 : Int.tdiv 1000000000000000 (n.natAbs : Int) = 1000000000000000 / (n.natAbs : Int) := Int.tdiv_eq_ediv_of_nonneg (by decide)
    have t2 : 1000000000000000 / (n.natAbs : Int) ≤ 1000000000000000 := Int.ediv_le_self _ (by decide)
    have t3 : 0 ≤ 1000000000000000 / (n.natAbs : Int) := Int.ediv_nonneg (by decide) (by omega)
    rw [e1, cond_true, e2, Option.bind_some, t1, w64_id (n := 1000000000000000 / (n.natAbs : Int)) (by omega) (by omega), w64_id (by omega) (by omega)]
    have e3 : (((m / d * n).natAbs : Nat) : Int) = ((m / d).natAbs : Int) * (n.natAbs : Int) := by rw [Int.natAbs_mul, Int.natCast_mul]
    have e4 := Int.mul_ediv_add_emod 1000000000000000 (n.natAbs : Int)
    have e5 := Int.emod_nonneg 1000000000000000 (b := (n.natAbs : Int)) (by omega)
    have e6 := Int.emod_lt_of_pos 1000000000000000 hp
    rw [Int.mul_comm] at e4
    generalize hK : (1000000000000000 : Int) / (n.natAbs : Int) = K at *
    by_cases hb : ((m / d).natAbs : Int) > K + 1
    · rw [decide_eq_true hb]
      refine ⟨true, rfl, fun _ => ?_, (fun h => by cases h)⟩
      have h2 : (K + 2) * (n.natAbs : Int) ≤ ((m / d).natAbs : Int) * (n.natAbs : Int) := Int.mul_le_mul_of_nonneg_right (by omega) (by omega)
      rw [Int.add_mul] at h2
      have hf := S.f
      have tn := S.tn
      omega
    · rw [decide_eq_false hb]
      have h2 : ((m / d).natAbs : Int) * (n.natAbs : Int) ≤ (K + 1) * (n.natAbs : Int) := Int.mul_le_mul_of_nonneg_right (by omega) (by omega)
      rw [Int.add_mul] at h2
      have hb := body (by omega)
      exact ⟨false, hb.1, (fun h => by cases h), fun _ => hb.2⟩

theorem fl_neg (m n d : Int) : fl (-m) n d = (-(m * n)) / d := by unfold fl; rw [Int.neg_mul]

theorem F49_j2_eq {n d u v : Int} (f : Nat) (hu0 : -1000000000000000 ≤ u) (hu1 : u ≤ 1000000000000000) (hv0 : -1000000000000000 ≤ v) (hv1 : v ≤ 1000000000000000) (hn0 : -1000000000 ≤ n) (hn1 : n ≤ 1000000000) (hd : 1 ≤ d) (hd1 : d ≤ 1000000000) :
    F49_j2 f n d u v = mk3 (fl u n d) (ce v n d) := by
  obtain ⟨b, e1, hb1, hb2⟩ := F109_eq f hu0 hu1 hn0 hn1 hd hd1
  obtain ⟨c, e2, hc1, hc2⟩ := F109_eq (m := -v) f (by omega) (by omega) hn0 hn1 hd hd1
  unfold F49_j2
  rw [w64_id (n := 0 - v) (by omega) (by omega), Int.zero_sub, e1, e2, Option.bind_some, Option.bind_some]
  have hce : ce v n d = -(fl (-v) n d) := by rw [fl_neg]; rfl
  cases b with
  | true =>
    have := hb1 rfl
    have hv : ¬ V (fl u n d) (ce v n d) := by unfold V; omega
    exact Eq.trans (by rfl) (if_neg hv).symm
  | false =>
    cases c with
    | true =>
      have := hc1 rfl
      have hv : ¬ V (fl u n d) (ce v n d) := by unfold V; omega
      exact Eq.trans (by rfl) (if_neg hv).symm
    | false =>
      have h2 := hc2 rfl
      show F49_j3 f (fl u n d, true) (fl (-v) n d, true) false = _
      unfold F49_j3
      rw [cond_false, F107_eq, w64_id (n := 0 - fl (-v) n d) (by omega) (by omega), Int.zero_sub, ← hce]
      unfold mk3
      by_cases h : V (fl u n d) (ce v n d)
      · rw [if_pos h, if_pos h]; rfl
      · rw [if_neg h, if_neg h]; rfl

theorem F49_eq (lo hi n d : Int) : F49 64 lo hi n d = if V lo hi then (if -1000000000 ≤ n ∧ n ≤ 1000000000 ∧ 1 ≤ d ∧ d ≤ 1000000000 then mk3 (fl (least lo hi n) n d) (ce (most lo hi n) n d) else some (0, 0, 1)) else some (0, 0, 10) := by
  unfold F49
  rw [F34_eq]
  by_cases h : V lo hi
  · have hv := h
    unfold V at hv
    rw [if_pos h, decide_eq_true h, Option.bind_some, Bool.not_true, cond_false]
    by_cases h1 : n < -1000000000
    · rw [decide_eq_true h1, if_neg (by omega)]; rfl
    · rw [decide_eq_false h1, cond_false]
      by_cases h2 : n > 1000000000
      · rw [decide_eq_true h2, if_neg (by omega)]; rfl
      · rw [decide_eq_false h2, cond_false]
        by_cases h3 : d < 1
        · rw [decide_eq_true h3, if_neg (by omega)]; rfl
        · rw [decide_eq_false h3, cond_false]
          by_cases h4 : d > 1000000000
          · rw [decide_eq_true h4, if_neg (by omega)]; rfl
          · rw [decide_eq_false h4, if_pos (by omega)]
            unfold F49_j1 least most
            rw [cond_false]
            by_cases h5 : n < 0
            · rw [decide_eq_true h5, cond_true, if_pos h5, if_pos h5, F49_j2_eq 64 (by omega) (by omega) (by omega) (by omega) (by omega) (by omega) (by omega) (by omega)]
            · rw [decide_eq_false h5, cond_false, if_neg h5, if_neg h5, F49_j2_eq 64 (by omega) (by omega) (by omega) (by omega) (by omega) (by omega) (by omega) (by omega)]
  · rw [if_neg h, decide_eq_false h]; rfl

theorem F40_F49 (lo hi n d : Int) : F40 64 lo hi n d = F49 64 lo hi n d := by rw [F40_eq, F49_eq]
end Go.Proofs.Ytpjmgeajajcceaa
