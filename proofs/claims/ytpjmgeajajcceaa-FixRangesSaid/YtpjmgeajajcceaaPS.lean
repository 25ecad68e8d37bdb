/-
  A part of the walk and of the plain law of one given statement. No condition.
-/
import Derived.Test.YtpjmgeajajcceaaPR2
set_option linter.unusedVariables false
set_option linter.unusedSimpArgs false
namespace Go.Proofs.Ytpjmgeajajcceaa
open Go.Sl Go.Sx
theorem floorT {x d : Int} (hd : 1 ≤ d) : (if Int.tmod x d < 0 then Int.tdiv x d - 1 else Int.tdiv x d) = x / d := by
  have h1 := Int.mul_tdiv_add_tmod x d
  have hlt : Int.tmod x d < d := Int.tmod_lt_of_pos x (by omega)
  have hgt : -d < Int.tmod x d := Int.lt_tmod_of_pos x (by omega)
  split
  · have := (Int.ediv_emod_unique (a := x) (b := d) (r := Int.tmod x d + d) (q := Int.tdiv x d - 1) (by omega)).2 ⟨by rw [Int.mul_sub]; omega, by omega, by omega⟩
    exact this.1.symm
  · have := (Int.ediv_emod_unique (a := x) (b := d) (r := Int.tmod x d) (q := Int.tdiv x d) (by omega)).2 ⟨by omega, by omega, by omega⟩
    exact this.1.symm
theorem tdivB {x d : Int} (hd : 1 ≤ d) (h1 : -4000000000000000000 ≤ x) (h2 : x ≤ 4000000000000000000) : -4000000000000000000 ≤ Int.tdiv x d ∧ Int.tdiv x d ≤ 4000000000000000000 := by
  have h := Int.natAbs_tdiv_le_natAbs x d
  omega
theorem F85_eq (f : Nat) {x d : Int} (hd : 1 ≤ d) (h1 : -4000000000000000000 ≤ x) (h2 : x ≤ 4000000000000000000) : F85 f x d = some (x / d) := by
  have hn : nz d = some () := by unfold nz; rw [if_pos (by omega)]
  obtain ⟨b1, b2⟩ := tdivB hd h1 h2
  rw [← floorT hd]
  unfold F85
  simp only [hn, Option.bind_some]
  rw [w64_id (n := Int.tdiv x d) (by omega) (by omega), w64_id (n := Int.tdiv x d - 1) (by omega) (by omega)]
  by_cases h : Int.tmod x d < 0
  · rw [decide_eq_true h, if_pos h]; rfl
  · rw [decide_eq_false h, if_neg h]; rfl
theorem F100_eq (f : Nat) {x d : Int} (hd : 1 ≤ d) (h1 : -4000000000000000000 ≤ x) (h2 : x ≤ 4000000000000000000) : F100 f x d = some (x / d) := by
  have hn : nz d = some () := by unfold nz; rw [if_pos (by omega)]
  obtain ⟨b1, b2⟩ := tdivB hd h1 h2
  rw [← floorT hd]
  unfold F100 F100_j1
  simp only [hn, Option.bind_some]
  rw [w64_id (n := Int.tdiv x d) (by omega) (by omega), w64_id (n := Int.tdiv x d - 1) (by omega) (by omega)]
  by_cases h : Int.tmod x d < 0
  · rw [decide_eq_true h, if_pos h]; rfl
  · rw [decide_eq_false h, if_neg h]; rfl
end Go.Proofs.Ytpjmgeajajcceaa
