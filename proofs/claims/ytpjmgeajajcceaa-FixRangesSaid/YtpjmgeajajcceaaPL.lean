/-
  A part of the walk and of the plain law of one given statement. No condition.
-/
import Derived.Test.YtpjmgeajajcceaaS8b
import Derived.Test.YtpjmgeajajcceaaSF2
set_option linter.unusedSimpArgs false
namespace Go.Proofs.Ytpjmgeajajcceaa
open Go.Sl Go.Sx

theorem w64_id {n : Int} (h1 : -9223372036854775808 ≤ n) (h2 : n ≤ 9223372036854775807) : w64 n = n := by
  unfold w64 IntKind.wrap
  simp [IntKind.bits, IntKind.signed]
  omega

def V (lo hi : Int) : Prop := -1000000000000000 ≤ lo ∧ lo ≤ hi ∧ hi ≤ 1000000000000000
instance (lo hi : Int) : Decidable (V lo hi) := by unfold V; infer_instance

theorem F34_eq (f : Nat) (lo hi : Int) : F34 f lo hi = some (decide (V lo hi)) := by
  unfold F34 F34_j1
  by_cases h : V lo hi
  · have h' := h
    unfold V at h'
    rw [decide_eq_true h, decide_eq_true h'.1, decide_eq_true h'.2.1, decide_eq_true h'.2.2]; rfl
  · rw [decide_eq_false h]
    by_cases h1 : -1000000000000000 ≤ lo
    · by_cases h2 : lo ≤ hi
      · rw [decide_eq_true h1, decide_eq_true h2, decide_eq_false (p := hi ≤ 1000000000000000) (fun h3 => h ⟨h1, h2, h3⟩)]; rfl
      · rw [decide_eq_true h1, decide_eq_false h2]; rfl
    · rw [decide_eq_false h1]; rfl
theorem F52_eq (f : Nat) (lo hi : Int) : F52 f lo hi = some (if V lo hi then 0 else 10) := by
  unfold F52 F52_j1
  by_cases h : V lo hi
  · have h1 : decide (lo > hi) = false := by unfold V at h; simp; omega
    have h2 : decide (lo < (-1000000000000000 : Int)) = false := by unfold V at h; simp; omega
    have h3 : decide (hi > (1000000000000000 : Int)) = false := by unfold V at h; simp; omega
    rw [h1, h2, h3, if_pos h]; rfl
  · rw [if_neg h]
    by_cases h1 : lo > hi
    · rw [decide_eq_true h1]; rfl
    · rw [decide_eq_false h1]
      by_cases h2 : lo < -1000000000000000
      · rw [decide_eq_true h2]; rfl
      · rw [decide_eq_false h2, decide_eq_true (p := hi > 1000000000000000) (by unfold V at h; omega)]; rfl
theorem F53_eq (f : Nat) (lo hi : Int) : F53 f lo hi = some (if V lo hi then 0 else 10) := by
  unfold F53
  rw [F34_eq]
  by_cases h : V lo hi <;> simp [h]
theorem F106_eq (f : Nat) (a b c d : Int) : F106 f a b c d = some (if V a b ∧ V c d then 0 else 10) := by
  unfold F106
  simp only [F52_eq]
  by_cases h : V a b <;> by_cases h2 : V c d <;> simp [h, h2]
theorem F107_eq (f : Nat) (a b : Int) : F107 f a b = some (if V a b then (a, b, 0) else (0, 0, 5)) := by
  unfold F107
  rw [F34_eq]
  by_cases h : V a b <;> simp [h]

theorem F44_eq (f : Nat) (a b c d : Int) : F44 f a b c d = some (if V a b ∧ V c d then (if V (a + c) (b + d) then (a + c, b + d, 0) else (0, 0, 5)) else (0, 0, 10)) := by
  unfold F44 F44_j1
  simp only [F34_eq, F107_eq]
  by_cases h : V a b <;> by_cases h2 : V c d
  · rw [w64_id (n := a + c) (by unfold V at *; omega) (by unfold V at *; omega), w64_id (n := b + d) (by unfold V at *; omega) (by unfold V at *; omega)]
    simp [h, h2]
  · simp [h, h2]
  · simp [h, h2]
  · simp [h, h2]

theorem g0 {α : Type} (a b : α) : getI [a, b] 0 = some a := rfl
theorem g1 {α : Type} (a b : α) : getI [a, b] 1 = some b := rfl
theorem k1 : w64 1 = 1 := by decide
theorem k2 : w64 2 = 2 := by decide

theorem F37_l2_eq (k : Int → Int → Bool → Int → Option (Int × Int × Int)) (c d y p : Int) (n : Nat) (u v : Int) (s : Bool) :
    F37_l2 k c d y p (n + 3) u v s 0 = k (let u1 := if s then u else w64 (p + c); let u2 := if w64 (p + c) < u1 then w64 (p + c) else u1; if w64 (p + d) < u2 then w64 (p + d) else u2)
      (let v1 := if s then v else w64 (p + c); let v2 := if w64 (p + c) > v1 then w64 (p + c) else v1; if w64 (p + d) > v2 then w64 (p + d) else v2) true (w64 (y + 1)) := by
  cases s <;> simp [F37_l2, F37_j2, g0, g1, k1, k2]

theorem F37_l1_eq (a b c d : Int) (n m : Nat) (h1 : V a b) (h2 : V c d) :
    F37_l1 (n + 3) a b c d (m + 3) 0 0 false 0 = some (if V (a + c) (b + d) then (a + c, b + d, 0) else (0, 0, 5)) := by
  have e1 := w64_id (n := a + c) (by unfold V at *; omega) (by unfold V at *; omega)
  have e2 := w64_id (n := a + d) (by unfold V at *; omega) (by unfold V at *; omega)
  have e3 := w64_id (n := b + c) (by unfold V at *; omega) (by unfold V at *; omega)
  have e4 := w64_id (n := b + d) (by unfold V at *; omega) (by unfold V at *; omega)
  have m1 : (if d < c then a + d else a + c) = a + c := by unfold V at *; split <;> omega
  have m2 : (if c < d then a + d else a + c) = a + d := by unfold V at *; split <;> omega
  have m3 : (if b < a then b + c else a + c) = a + c := by unfold V at *; split <;> omega
  have m5 : (if b + d < a + c then b + d else a + c) = a + c := by unfold V at *; split <;> omega
  have m6 : (if (if a + d < b + c then b + c else a + d) < b + d then b + d else (if a + d < b + c then b + c else a + d)) = b + d := by unfold V at *; split <;> split <;> omega
  simp [F37_l1, F37_l2_eq, F37_j3, F37_j1, F52_eq, g0, g1, k1, k2, e1, e2, e3, e4, m1, m2, m3, m5, m6]
  by_cases h3 : V (a + c) (b + d) <;> simp [h3]

theorem F37_eq (a b c d : Int) : F37 64 a b c d = some (if V a b ∧ V c d then (if V (a + c) (b + d) then (a + c, b + d, 0) else (0, 0, 5)) else (0, 0, 10)) := by
  unfold F37 F37_j1
  rw [F106_eq]
  by_cases h : V a b ∧ V c d
  · rw [if_pos h, if_pos h]
    exact F37_l1_eq a b c d 61 61 h.1 h.2
  · rw [if_neg h, if_neg h]; rfl

theorem F37_F44 (a b c d : Int) : F37 64 a b c d = F44 64 a b c d := by rw [F37_eq, F44_eq]

theorem F45_eq (f : Nat) (a b c d : Int) : F45 f a b c d = some (if V a b ∧ V c d then (if V (a - d) (b - c) then (a - d, b - c, 0) else (0, 0, 5)) else (0, 0, 10)) := by
  unfold F45 F45_j1
  simp only [F34_eq, F107_eq]
  by_cases h : V a b <;> by_cases h2 : V c d
  · rw [w64_id (n := a - d) (by unfold V at *; omega) (by unfold V at *; omega), w64_id (n := b - c) (by unfold V at *; omega) (by unfold V at *; omega)]
    simp [h, h2]
  · simp [h, h2]
  · simp [h, h2]
  · simp [h, h2]

theorem F38_l2_eq (k : Int → Int → Bool → Int → Option (Int × Int × Int)) (c d y p : Int) (n : Nat) (u v : Int) (s : Bool) :
    F38_l2 k c d y p (n + 3) u v s 0 = k (let u1 := if s then u else w64 (p - c); let u2 := if w64 (p - c) < u1 then w64 (p - c) else u1; if w64 (p - d) < u2 then w64 (p - d) else u2)
      (let v1 := if s then v else w64 (p - c); let v2 := if w64 (p - c) > v1 then w64 (p - c) else v1; if w64 (p - d) > v2 then w64 (p - d) else v2) true (w64 (y + 1)) := by
  cases s <;> simp [F38_l2, F38_j2, g0, g1, k1, k2]

theorem F38_l1_eq (a b c d : Int) (n m : Nat) (h1 : V a b) (h2 : V c d) :
    F38_l1 (n + 3) a b c d (m + 3) 0 0 false 0 = some (if V (a - d) (b - c) then (a - d, b - c, 0) else (0, 0, 5)) := by
  have e1 := w64_id (n := a - c) (by unfold V at *; omega) (by unfold V at *; omega)
  have e2 := w64_id (n := a - d) (by unfold V at *; omega) (by unfold V at *; omega)
  have e3 := w64_id (n := b - c) (by unfold V at *; omega) (by unfold V at *; omega)
  have e4 := w64_id (n := b - d) (by unfold V at *; omega) (by unfold V at *; omega)
  have m1 : (if c < d then a - d else a - c) = a - d := by unfold V at *; split <;> omega
  have m2 : (if d < c then a - d else a - c) = a - c := by unfold V at *; split <;> omega
  have m3 : (if b - c < a - d then b - c else a - d) = a - d := by unfold V at *; split <;> omega
  have m4 : (if b < a then b - d else a - d) = a - d := by unfold V at *; split <;> omega
  have m5 : (if a < b then b - c else a - c) = b - c := by unfold V at *; split <;> omega
  have m6 : (if d < c then b - d else b - c) = b - c := by unfold V at *; split <;> omega
  simp [F38_l1, F38_l2_eq, F38_j3, F38_j1, F52_eq, g0, g1, k1, k2, e1, e2, e3, e4, m1, m2, m3, m4, m5, m6]
  by_cases h3 : V (a - d) (b - c) <;> simp [h3]

theorem F38_eq (a b c d : Int) : F38 64 a b c d = some (if V a b ∧ V c d then (if V (a - d) (b - c) then (a - d, b - c, 0) else (0, 0, 5)) else (0, 0, 10)) := by
  unfold F38 F38_j1
  rw [F106_eq]
  by_cases h : V a b ∧ V c d
  · rw [if_pos h, if_pos h]
    exact F38_l1_eq a b c d 61 61 h.1 h.2
  · rw [if_neg h, if_neg h]; rfl
theorem F38_F45 (a b c d : Int) : F38 64 a b c d = F45 64 a b c d := by rw [F38_eq, F45_eq]

theorem F46_F47 (a b : Int) : F46 64 a b = F47 64 a b := by
  unfold F46 F47
  rw [F38_eq, F34_eq]
  by_cases h : V a b
  · have h0 : V 0 0 := by unfold V; omega
    have e1 := w64_id (n := 0 - b) (by unfold V at *; omega) (by unfold V at *; omega)
    have e2 := w64_id (n := 0 - a) (by unfold V at *; omega) (by unfold V at *; omega)
    have h3 : V (0 - b) (0 - a) := by unfold V at *; omega
    rw [if_pos ⟨h0, h⟩, if_pos h3, decide_eq_true h, Option.bind_some, Option.bind_some, e1, e2]; rfl
  · rw [if_neg (fun h2 => h h2.2), decide_eq_false h]; rfl

theorem F41_F50 (a b c d : Int) : F41 64 a b c d = F50 64 a b c d := by
  unfold F41 F50 F50_j1
  rw [F106_eq]
  simp only [F34_eq]
  by_cases h : V a b <;> by_cases h2 : V c d <;> simp [h, h2]
theorem F42_F51 (a b c d : Int) : F42 64 a b c d = F51 64 a b c d := by
  unfold F42 F51 F51_j1
  rw [F106_eq]
  simp only [F34_eq]
  by_cases h : V a b <;> by_cases h2 : V c d <;> simp [h, h2]
theorem F43_F54 (a b n : Int) : F43 64 a b n = F54 64 a b n := by
  unfold F43 F54 F43_j1 F54_j1 F90 F90_j1
  rw [F52_eq, F34_eq]
  by_cases h : V a b <;> by_cases h2 : a ≤ n <;> simp [h, h2]
theorem F55_F56 (a b c d : Int) : F55 64 a b c d = F56 64 a b c d := by
  unfold F55 F56 F55_j1 F56_j1
  rw [F106_eq]
  simp only [F34_eq]
  by_cases h : V a b <;> by_cases h2 : V c d <;> simp [h, h2]
end Go.Proofs.Ytpjmgeajajcceaa
