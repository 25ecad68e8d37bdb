/-
  A part of the walk and of the plain law of one given statement. No condition.
-/
import Derived.Test.YtpjmgeajajcceaaPT
set_option linter.unusedSimpArgs false
set_option linter.unusedVariables false
namespace Go.Proofs.Ytpjmgeajajcceaa
open Go.Sl Go.Sx

theorem F90_eq (f : Nat) (x a b : Int) : F90 f x a b = some (decide (a ≤ x ∧ x ≤ b)) := by
  unfold F90 F90_j1
  by_cases h1 : a ≤ x <;> by_cases h2 : x ≤ b <;> simp [h1, h2]

/-- One round of Scale's loop. -/
theorem F40_j2_eq {p n d : Int} (f : Nat) (k : Int → Int → Bool → Int → Option (Int × Int × Int)) (u v : Int) (s : Bool) (y : Int) (hd : 1 ≤ d) (hn0 : -1000000000 ≤ n) (hn1 : n ≤ 1000000000) (S : SF p n d) (hb : (p / d * n).natAbs ≤ 2000000000000000) (hd1 : d ≤ 1000000000) :
    F40_j2 f k n d u v s y p (p / d) false = k (let u0 := if s then u else fl p n d; let u1 := if fl p n d < u0 then fl p n d else u0; if ce p n d < u1 then ce p n d else u1)
      (let v0 := if s then v else fl p n d; let v1 := if fl p n d > v0 then fl p n d else v0; if ce p n d > v1 then ce p n d else v1) true (w64 (y + 1)) := by
  obtain ⟨m0, m1, dd, r0, r1, q0, q1, s0, s1, t0, t1, tn, u0, u1, hf, hc, hfc⟩ := S
  have e1 : w64 (p / d * d) = p / d * d := by
    exact w64_id (by omega) (by omega)
  have e2 : w64 (p - p / d * d) = p - p / d * d := w64_id (by omega) (by omega)
  have e3 : w64 ((p - p / d * d) * n) = (p - p / d * d) * n := w64_id (by omega) (by omega)
  have e4 : w64 (p / d * n) = p / d * n := w64_id (by omega) (by omega)
  have e5 := w64_id (n := p / d * n + ((p - p / d * d) * n) / d) (by omega) (by omega)
  have e6 := w64_id (n := p / d * n + -((-((p - p / d * d) * n)) / d)) (by omega) (by omega)
  have d1 := F85_eq f (x := (p - p / d * d) * n) hd (by omega) (by omega)
  have d2 := F86_eq f (x := (p - p / d * d) * n) hd (by omega) (by omega)
  unfold F40_j2 F40_j3 F40_j4
  rw [cond_false, e1, e2, e3, e4, d1, Option.bind_some, e5, d2, Option.bind_some, Option.bind_some, e6, hf, hc]
  cases s <;> simp
end Go.Proofs.Ytpjmgeajajcceaa
