/-
  A part of the walk and of the plain law of one given statement. No condition.
-/
import Derived.Test.YtpjmgeajajcceaaPM
set_option linter.unusedSimpArgs false
namespace Go.Proofs.Ytpjmgeajajcceaa
open Go.Sl Go.Sx
theorem mn_lo {x y : Int} (h1 : -1000000000000000 ≤ x) (h2 : -1000000000000000 ≤ y) : -1000000000000000 ≤ (if x < y then x else y) := by split <;> assumption
theorem mn_hi {x y : Int} (h2 : y ≤ 1000000000000000) : (if x < y then x else y) ≤ 1000000000000000 := by split <;> omega
theorem mx_hi {x y : Int} (h1 : x ≤ 1000000000000000) (h2 : y ≤ 1000000000000000) : (if x > y then x else y) ≤ 1000000000000000 := by split <;> assumption
theorem mn_mx {x y z : Int} (h : y ≤ z) : (if x < y then x else y) ≤ (if x > z then x else z) := by split <;> split <;> omega
theorem mulV {x1 x2 x3 x4 : Int} (q1 : ¬ 1000000000000000 < x1.natAbs) (q2 : ¬ 1000000000000000 < x2.natAbs) (q3 : ¬ 1000000000000000 < x3.natAbs) (q4 : ¬ 1000000000000000 < x4.natAbs) :
    (let t := (if x4 < (if x3 < (if x2 < x1 then x2 else x1) then x3 else (if x2 < x1 then x2 else x1)) then x4 else (if x3 < (if x2 < x1 then x2 else x1) then x3 else (if x2 < x1 then x2 else x1)))
     let u := (if x4 > (if x3 > (if x2 > x1 then x2 else x1) then x3 else (if x2 > x1 then x2 else x1)) then x4 else (if x3 > (if x2 > x1 then x2 else x1) then x3 else (if x2 > x1 then x2 else x1)))
     if V t u then some (t, u, (0 : Int)) else some (0, 0, 5)) = some
      ((if x4 < (if x3 < (if x2 < x1 then x2 else x1) then x3 else (if x2 < x1 then x2 else x1)) then x4 else (if x3 < (if x2 < x1 then x2 else x1) then x3 else (if x2 < x1 then x2 else x1))),
       (if x4 > (if x3 > (if x2 > x1 then x2 else x1) then x3 else (if x2 > x1 then x2 else x1)) then x4 else (if x3 > (if x2 > x1 then x2 else x1) then x3 else (if x2 > x1 then x2 else x1))), 0) := by
  have l1 : -1000000000000000 ≤ x1 := by omega
  have l2 : -1000000000000000 ≤ x2 := by omega
  have l3 : -1000000000000000 ≤ x3 := by omega
  have l4 : -1000000000000000 ≤ x4 := by omega
  have u1 : x1 ≤ 1000000000000000 := by omega
  have u2 : x2 ≤ 1000000000000000 := by omega
  have u3 : x3 ≤ 1000000000000000 := by omega
  have u4 : x4 ≤ 1000000000000000 := by omega
  exact if_pos ⟨mn_lo l4 (mn_lo l3 (mn_lo l2 l1)), mn_mx (mn_mx (mn_mx (Int.le_refl _))), mx_hi u4 (mx_hi u3 (mx_hi u2 u1))⟩

def res39 (t4 : GS) : Option (Int × Int × Int) := bif t4.g then some (0, 0, 5) else if V t4.u t4.v then some (t4.u, t4.v, 0) else some (0, 0, 5)
theorem stepM_g {p q : Int} {t : GS} (h : t.g = true) : (stepM p q t).g = true := by
  unfold stepM
  cases bg p q <;> cases t.s <;> simp [h]
theorem stepM_big {p q : Int} {t : GS} (h : bg p q = true) : (stepM p q t).g = true := by unfold stepM; rw [h]; rfl
theorem res39_g {t : GS} (h : t.g = true) : res39 t = some (0, 0, 5) := by unfold res39; rw [h]; rfl
theorem stepM_first {p q u v : Int} {g : Bool} (h : bg p q = false) : stepM p q ⟨u, v, false, g⟩ = ⟨p * q, p * q, true, g⟩ := by unfold stepM; rw [h]; rfl
theorem stepM_next {p q u v : Int} {g : Bool} (h : bg p q = false) : stepM p q ⟨u, v, true, g⟩ = ⟨if p * q < u then p * q else u, if p * q > v then p * q else v, true, g⟩ := by unfold stepM; rw [h]; rfl
theorem bg_lt {p q : Int} (h : bg p q = false) : ¬ 1000000000000000 < (p * q).natAbs := of_decide_eq_false h
theorem ini_lo {x : Int} (q : ¬ 1000000000000000 < x.natAbs) : (if x < 1000000000000000 then x else 1000000000000000) = x := by split <;> omega
theorem ini_hi {x : Int} (q : ¬ 1000000000000000 < x.natAbs) : (if x > -1000000000000000 then x else -1000000000000000) = x := by split <;> omega
end Go.Proofs.Ytpjmgeajajcceaa
