/-
  A part of the walk and of the plain law of one given statement. No condition.
-/
import Derived.Test.YtpjmgeajajcceaaT7
import Derived.Test.YtpjmgeajajcceaaSF2
set_option linter.unusedSimpArgs false
set_option linter.unusedVariables false
namespace Go.Proofs.Ytpjmgeajajcceaa
open Go.Sl Go.Sx
theorem w64_id {n : Int} (h1 : -9223372036854775808 ≤ n) (h2 : n ≤ 9223372036854775807) : w64 n = n := by
  unfold w64 IntKind.wrap
  simp [IntKind.bits, IntKind.signed]
  omega
def V (lo hi : Int) : Prop := -1000000000000000 ≤ lo ∧ lo ≤ hi ∧ hi ≤ 1000000000000000
instance (lo hi : Int) : Decidable (V lo hi) := by unfold V; infer_instance
theorem F52_eq (f : Nat) (lo hi : Int) : F52 f lo hi = some (if V lo hi then 0 else 10) := by
  unfold F52 F52_j1
  by_cases h : V lo hi
  · have h1 : decide (lo > hi) = false := by unfold V at h; simp; omega
    have h2 : decide (lo < (-1000000000000000 : Int)) = false := by unfold V at h; simp; omega
    have h3 : decide (hi > (1000000000000000 : Int)) = false := by unfold V at h; simp; omega
    rw [h1, h2, h3, if_pos h]; rfl
  · rw [if_neg h]
    by_cases h1 : lo > hi
    · rw [decide_eq_true h1]; rfl
    · rw [decide_eq_false h1]
      by_cases h2 : lo < -1000000000000000
      · rw [decide_eq_true h2]; rfl
      · rw [decide_eq_false h2, decide_eq_true (p := hi > 1000000000000000) (by unfold V at h; omega)]; rfl
theorem F106_eq (f : Nat) (a b c d : Int) : F106 f a b c d = some (if V a b ∧ V c d then 0 else 10) := by
  unfold F106
  simp only [F52_eq]
  by_cases h : V a b <;> by_cases h2 : V c d <;> simp [h, h2]
theorem g0 {α : Type} (a b : α) : getI [a, b] 0 = some a := rfl
theorem g1 {α : Type} (a b : α) : getI [a, b] 1 = some b := rfl
theorem k1 : w64 1 = 1 := by decide
theorem k2 : w64 2 = 2 := by decide
theorem F37_l2_eq (k : Int → Int → Bool → Int → Option (Int × Int × Int)) (c d y p : Int) (n : Nat) (u v : Int) (s : Bool) :
    F37_l2 k c d y p (n + 3) u v s 0 = k (let u1 := if s then u else w64 (p + c); let u2 := if w64 (p + c) < u1 then w64 (p + c) else u1; if w64 (p + d) < u2 then w64 (p + d) else u2)
      (let v1 := if s then v else w64 (p + c); let v2 := if w64 (p + c) > v1 then w64 (p + c) else v1; if w64 (p + d) > v2 then w64 (p + d) else v2) true (w64 (y + 1)) := by
  cases s <;> simp [F37_l2, F37_j2, g0, g1, k1, k2]
theorem F37_l1_eq (a b c d : Int) (n m : Nat) (h1 : V a b) (h2 : V c d) :
    F37_l1 (n + 3) a b c d (m + 3) 0 0 false 0 = some (if V (a + c) (b + d) then (a + c, b + d, 0) else (0, 0, 5)) := by
  have e1 := w64_id (n := a + c) (by unfold V at *; omega) (by unfold V at *; omega)
  have e2 := w64_id (n := a + d) (by unfold V at *; omega) (by unfold V at *; omega)
  have e3 := w64_id (n := b + c) (by unfold V at *; omega) (by unfold V at *; omega)
  have e4 := w64_id (n := b + d) (by unfold V at *; omega) (by unfold V at *; omega)
  have m1 : (if d < c then a + d else a + c) = a + c := by unfold V at *; split <;> omega
  have m2 : (if c < d then a + d else a + c) = a + d := by unfold V at *; split <;> omega
  have m3 : (if b < a then b + c else a + c) = a + c := by unfold V at *; split <;> omega
  have m5 : (if b + d < a + c then b + d else a + c) = a + c := by unfold V at *; split <;> omega
  have m6 : (if (if a + d < b + c then b + c else a + d) < b + d then b + d else (if a + d < b + c then b + c else a + d)) = b + d := by unfold V at *; split <;> split <;> omega
  simp [F37_l1, F37_l2_eq, F37_j3, F37_j1, F52_eq, g0, g1, k1, k2, e1, e2, e3, e4, m1, m2, m3, m5, m6]
  by_cases h3 : V (a + c) (b + d) <;> simp [h3]
theorem F37_eq (a b c d : Int) : F37 64 a b c d = some (if V a b ∧ V c d then (if V (a + c) (b + d) then (a + c, b + d, 0) else (0, 0, 5)) else (0, 0, 10)) := by
  unfold F37 F37_j1
  rw [F106_eq]
  by_cases h : V a b ∧ V c d
  · rw [if_pos h, if_pos h]
    exact F37_l1_eq a b c d 61 61 h.1 h.2
  · rw [if_neg h, if_neg h]; rfl
theorem F38_l2_eq (k : Int → Int → Bool → Int → Option (Int × Int × Int)) (c d y p : Int) (n : Nat) (u v : Int) (s : Bool) :
    F38_l2 k c d y p (n + 3) u v s 0 = k (let u1 := if s then u else w64 (p - c); let u2 := if w64 (p - c) < u1 then w64 (p - c) else u1; if w64 (p - d) < u2 then w64 (p - d) else u2)
      (let v1 := if s then v else w64 (p - c); let v2 := if w64 (p - c) > v1 then w64 (p - c) else v1; if w64 (p - d) > v2 then w64 (p - d) else v2) true (w64 (y + 1)) := by
  cases s <;> simp [F38_l2, F38_j2, g0, g1, k1, k2]
theorem F38_l1_eq (a b c d : Int) (n m : Nat) (h1 : V a b) (h2 : V c d) :
    F38_l1 (n + 3) a b c d (m + 3) 0 0 false 0 = some (if V (a - d) (b - c) then (a - d, b - c, 0) else (0, 0, 5)) := by
  have e1 := w64_id (n := a - c) (by unfold V at *; omega) (by unfold V at *; omega)
  have e2 := w64_id (n := a - d) (by unfold V at *; omega) (by unfold V at *; omega)
  have e3 := w64_id (n := b - c) (by unfold V at *; omega) (by unfold V at *; omega)
  have e4 := w64_id (n := b - d) (by unfold V at *; omega) (by unfold V at *; omega)
  have m1 : (if c < d then a - d else a - c) = a - d := by unfold V at *; split <;> omega
  have m2 : (if d < c then a - d else a - c) = a - c := by unfold V at *; split <;> omega
  have m3 : (if b - c < a - d then b - c else a - d) = a - d := by unfold V at *; split <;> omega
  have m4 : (if b < a then b - d else a - d) = a - d := by unfold V at *; split <;> omega
  have m5 : (if a < b then b - c else a - c) = b - c := by unfold V at *; split <;> omega
  have m6 : (if d < c then b - d else b - c) = b - c := by unfold V at *; split <;> omega
  simp [F38_l1, F38_l2_eq, F38_j3, F38_j1, F52_eq, g0, g1, k1, k2, e1, e2, e3, e4, m1, m2, m3, m4, m5, m6]
  by_cases h3 : V (a - d) (b - c) <;> simp [h3]
theorem F38_eq (a b c d : Int) : F38 64 a b c d = some (if V a b ∧ V c d then (if V (a - d) (b - c) then (a - d, b - c, 0) else (0, 0, 5)) else (0, 0, 10)) := by
  unfold F38 F38_j1
  rw [F106_eq]
  by_cases h : V a b ∧ V c d
  · rw [if_pos h, if_pos h]
    exact F38_l1_eq a b c d 61 61 h.1 h.2
  · rw [if_neg h, if_neg h]; rfl
theorem absW {n : Int} (h1 : -1000000000000000 ≤ n) (h2 : n ≤ 1000000000000000) : (if w64 (0 - n) > n then w64 (0 - n) else n) = (n.natAbs : Int) := by
  rw [w64_id (by omega) (by omega)]
  split <;> omega
theorem bigW {m n : Int} (hm1 : -1000000000000000 ≤ m) (hm2 : m ≤ 1000000000000000) (h0 : m ≠ 0) :
    ((n.natAbs : Int) > w64 (Int.tdiv 1000000000000000 (m.natAbs : Int))) ↔ 1000000000000000 < (m * n).natAbs := by
  have hp : 0 < (m.natAbs : Int) := by omega
  have e1 : Int.tdiv 1000000000000000 (m.natAbs : Int) = 1000000000000000 / (m.natAbs : Int) := Int.tdiv_eq_ediv_of_nonneg (by decide)
  have hle : 1000000000000000 / (m.natAbs : Int) ≤ 1000000000000000 := Int.ediv_le_self _ (by decide)
  have hge : 0 ≤ 1000000000000000 / (m.natAbs : Int) := Int.ediv_nonneg (by decide) (by omega)
  rw [e1, w64_id (by omega) (by omega)]
  show 1000000000000000 / (m.natAbs : Int) < (n.natAbs : Int) ↔ _
  rw [Int.ediv_lt_iff_lt_mul hp, Int.natAbs_mul, Nat.mul_comm, ← Int.natCast_mul]
  generalize n.natAbs * m.natAbs = k
  omega
/-- Is the product too big? -/
def bg (m n : Int) : Bool := decide (1000000000000000 < (m * n).natAbs)
theorem bg_comm (m n : Int) : bg m n = bg n m := by unfold bg; rw [Int.mul_comm]
theorem F39_body {m n : Int} (hm1 : -1000000000000000 ≤ m) (hm2 : m ≤ 1000000000000000) (hn1 : -1000000000000000 ≤ n) (hn2 : n ≤ 1000000000000000)
    (k : Int → Int → Bool → Bool → Int → Option (Int × Int × Int)) (y4 u v : Int) (s g : Bool) :
    (cond (m != (0 : Int)) ((nz (if (w64 (0 - m)) > m then (w64 (0 - m)) else m)).bind fun _ => (F39_j3 k m u v s g y4 n (decide ((if (w64 (0 - n)) > n then (w64 (0 - n)) else n) > (w64 (Int.tdiv 1000000000000000 (if (w64 (0 - m)) > m then (w64 (0 - m)) else m))))))) (F39_j3 k m u v s g y4 n false))
      = F39_j3 k m u v s g y4 n (bg m n) := by
  by_cases h0 : m = 0
  · subst h0
    have hb : bg 0 n = false := by unfold bg; rw [Int.zero_mul]; rfl
    rw [hb]; rfl
  · have h1 : (m != 0) = true := by simp [h0]
    rw [h1, cond_true, absW hm1 hm2, absW hn1 hn2]
    have h2 : nz (m.natAbs : Int) = some () := by unfold nz; rw [if_pos (by omega)]
    rw [h2, Option.bind_some]
    congr 1
    unfold bg
    exact decide_eq_decide.2 (bigW hm1 hm2 h0)
structure GS where
  u : Int
  v : Int
  s : Bool
  g : Bool
def stepM (p q : Int) (t : GS) : GS := bif bg p q then ⟨t.u, t.v, t.s, true⟩ else bif t.s then ⟨if p * q < t.u then p * q else t.u, if p * q > t.v then p * q else t.v, true, t.g⟩ else ⟨p * q, p * q, true, t.g⟩
theorem F39_j3_eq {p q : Int} (k : Int → Int → Bool → Bool → Int → Option (Int × Int × Int)) (u v : Int) (s g : Bool) (y : Int) :
    F39_j3 k p u v s g y q (bg p q) = k (stepM p q ⟨u, v, s, g⟩).u (stepM p q ⟨u, v, s, g⟩).v (stepM p q ⟨u, v, s, g⟩).s (stepM p q ⟨u, v, s, g⟩).g (w64 (y + 1)) := by
  unfold F39_j3 stepM
  cases hb : bg p q with
  | true => rfl
  | false =>
    have h3 : ¬ 1000000000000000 < (p * q).natAbs := of_decide_eq_false hb
    have e := w64_id (n := p * q) (by omega) (by omega)
    cases s <;> simp [F39_j4, F39_j2, e]
theorem F39_l2_eq (k : Int → Int → Bool → Bool → Int → Option (Int × Int × Int)) {c d p : Int} (y : Int) (n : Nat) (t : GS) (hp1 : -1000000000000000 ≤ p) (hp2 : p ≤ 1000000000000000) (hcd : V c d) :
    F39_l2 k c d y p (n + 3) t.u t.v t.s t.g 0 = k (stepM p d (stepM p c t)).u (stepM p d (stepM p c t)).v (stepM p d (stepM p c t)).s (stepM p d (stepM p c t)).g (w64 (y + 1)) := by
  unfold V at hcd
  obtain ⟨u, v, s, g⟩ := t
  have b1 := fun k y4 u v s g => F39_body (m := p) (n := c) hp1 hp2 (by omega) (by omega) k y4 u v s g
  have b2 := fun k y4 u v s g => F39_body (m := p) (n := d) hp1 hp2 (by omega) (by omega) k y4 u v s g
  have f1 : decide ((0 : Int) < 2) = true := rfl
  have f2 : decide ((1 : Int) < 2) = true := rfl
  have f3 : decide ((2 : Int) < 2) = false := rfl
  have k0 : w64 (0 + 1) = 1 := by decide
  have k3 : w64 (1 + 1) = 2 := by decide
  rw [F39_l2]
  simp only [f1, cond_true, g0, Option.bind_some]
  rw [b1, F39_j3_eq, k0, F39_l2]
  simp only [f2, cond_true, g1, Option.bind_some]
  rw [b2, F39_j3_eq, k3, F39_l2]
  simp only [f3, cond_false]
theorem F39_l1_eq {a b c d : Int} (n m : Nat) (h1 : V a b) (h2 : V c d) (t : GS) :
    F39_l1 (n + 3) a b c d (m + 3) t.u t.v t.s t.g 0 =
      (let t4 := stepM b d (stepM b c (stepM a d (stepM a c t)))
       bif t4.g then some (0, 0, 5) else if V t4.u t4.v then some (t4.u, t4.v, 0) else some (0, 0, 5)) := by
  have f1 : decide ((0 : Int) < 2) = true := rfl
  have f2 : decide ((1 : Int) < 2) = true := rfl
  have f3 : decide ((2 : Int) < 2) = false := rfl
  have k0 : w64 (0 + 1) = 1 := by decide
  have k3 : w64 (1 + 1) = 2 := by decide
  have hv := h1
  unfold V at hv
  rw [F39_l1]
  simp only [f1, cond_true, g0, Option.bind_some]
  rw [F39_l2_eq _ (p := a) (c := c) (d := d) 0 n t (by omega) (by omega) h2, k0, F39_l1]
  simp only [f2, cond_true, g1, Option.bind_some]
  rw [F39_l2_eq _ (p := b) (c := c) (d := d) 1 n _ (by omega) (by omega) h2, k3, F39_l1]
  simp only [f3, cond_false]
  generalize stepM b d (stepM b c (stepM a d (stepM a c t))) = t4
  cases hg : t4.g with
  | true => rfl
  | false =>
    rw [F52_eq]
    by_cases hV : V t4.u t4.v <;> simp [hV, F39_j6, F39_j5, F39_j1]
theorem mn_lo {x y : Int} (h1 : -1000000000000000 ≤ x) (h2 : -1000000000000000 ≤ y) : -1000000000000000 ≤ (if x < y then x else y) := by split <;> assumption
theorem mn_hi {x y : Int} (h2 : y ≤ 1000000000000000) : (if x < y then x else y) ≤ 1000000000000000 := by split <;> omega
theorem mx_hi {x y : Int} (h1 : x ≤ 1000000000000000) (h2 : y ≤ 1000000000000000) : (if x > y then x else y) ≤ 1000000000000000 := by split <;> assumption
theorem mn_mx {x y z : Int} (h : y ≤ z) : (if x < y then x else y) ≤ (if x > z then x else z) := by split <;> split <;> omega
theorem mulV {x1 x2 x3 x4 : Int} (q1 : ¬ 1000000000000000 < x1.natAbs) (q2 : ¬ 1000000000000000 < x2.natAbs) (q3 : ¬ 1000000000000000 < x3.natAbs) (q4 : ¬ 1000000000000000 < x4.natAbs) :
    (let t := (if x4 < (if x3 < (if x2 < x1 then x2 else x1) then x3 else (if x2 < x1 then x2 else x1)) then x4 else (if x3 < (if x2 < x1 then x2 else x1) then x3 else (if x2 < x1 then x2 else x1)))
     let u := (if x4 > (if x3 > (if x2 > x1 then x2 else x1) then x3 else (if x2 > x1 then x2 else x1)) then x4 else (if x3 > (if x2 > x1 then x2 else x1) then x3 else (if x2 > x1 then x2 else x1)))
     if V t u then some (t, u, (0 : Int)) else some (0, 0, 5)) = some
      ((if x4 < (if x3 < (if x2 < x1 then x2 else x1) then x3 else (if x2 < x1 then x2 else x1)) then x4 else (if x3 < (if x2 < x1 then x2 else x1) then x3 else (if x2 < x1 then x2 else x1))),
       (if x4 > (if x3 > (if x2 > x1 then x2 else x1) then x3 else (if x2 > x1 then x2 else x1)) then x4 else (if x3 > (if x2 > x1 then x2 else x1) then x3 else (if x2 > x1 then x2 else x1))), 0) := by
  have l1 : -1000000000000000 ≤ x1 := by omega
  have l2 : -1000000000000000 ≤ x2 := by omega
  have l3 : -1000000000000000 ≤ x3 := by omega
  have l4 : -1000000000000000 ≤ x4 := by omega
  have u1 : x1 ≤ 1000000000000000 := by omega
  have u2 : x2 ≤ 1000000000000000 := by omega
  have u3 : x3 ≤ 1000000000000000 := by omega
  have u4 : x4 ≤ 1000000000000000 := by omega
  exact if_pos ⟨mn_lo l4 (mn_lo l3 (mn_lo l2 l1)), mn_mx (mn_mx (mn_mx (Int.le_refl _))), mx_hi u4 (mx_hi u3 (mx_hi u2 u1))⟩
def res39 (t4 : GS) : Option (Int × Int × Int) := bif t4.g then some (0, 0, 5) else if V t4.u t4.v then some (t4.u, t4.v, 0) else some (0, 0, 5)
theorem stepM_g {p q : Int} {t : GS} (h : t.g = true) : (stepM p q t).g = true := by
  unfold stepM
  cases bg p q <;> cases t.s <;> simp [h]
theorem stepM_big {p q : Int} {t : GS} (h : bg p q = true) : (stepM p q t).g = true := by unfold stepM; rw [h]; rfl
theorem res39_g {t : GS} (h : t.g = true) : res39 t = some (0, 0, 5) := by unfold res39; rw [h]; rfl
theorem stepM_first {p q u v : Int} {g : Bool} (h : bg p q = false) : stepM p q ⟨u, v, false, g⟩ = ⟨p * q, p * q, true, g⟩ := by unfold stepM; rw [h]; rfl
theorem stepM_next {p q u v : Int} {g : Bool} (h : bg p q = false) : stepM p q ⟨u, v, true, g⟩ = ⟨if p * q < u then p * q else u, if p * q > v then p * q else v, true, g⟩ := by unfold stepM; rw [h]; rfl
theorem bg_lt {p q : Int} (h : bg p q = false) : ¬ 1000000000000000 < (p * q).natAbs := of_decide_eq_false h
theorem ini_lo {x : Int} (q : ¬ 1000000000000000 < x.natAbs) : (if x < 1000000000000000 then x else 1000000000000000) = x := by split <;> omega
theorem ini_hi {x : Int} (q : ¬ 1000000000000000 < x.natAbs) : (if x > -1000000000000000 then x else -1000000000000000) = x := by split <;> omega
theorem F39_64 {a b c d : Int} (h1 : V a b) (h2 : V c d) : F39_l1 64 a b c d 64 0 0 false false 0 = 
      (let t4 := stepM b d (stepM b c (stepM a d (stepM a c ⟨0, 0, false, false⟩)))
       bif t4.g then some (0, 0, 5) else if V t4.u t4.v then some (t4.u, t4.v, 0) else some (0, 0, 5)) := F39_l1_eq 61 61 h1 h2 ⟨0, 0, false, false⟩
theorem cond_z {α : Type} (x y : α) : cond ((0 : Int) != 0) x y = y := rfl
theorem floorT {x d : Int} (hd : 1 ≤ d) : (if Int.tmod x d < 0 then Int.tdiv x d - 1 else Int.tdiv x d) = x / d := by
  have h1 := Int.mul_tdiv_add_tmod x d
  have hlt : Int.tmod x d < d := Int.tmod_lt_of_pos x (by omega)
  have hgt : -d < Int.tmod x d := Int.lt_tmod_of_pos x (by omega)
  split
  · have := (Int.ediv_emod_unique (a := x) (b := d) (r := Int.tmod x d + d) (q := Int.tdiv x d - 1) (by omega)).2 ⟨by rw [Int.mul_sub]; omega, by omega, by omega⟩
    exact this.1.symm
  · have := (Int.ediv_emod_unique (a := x) (b := d) (r := Int.tmod x d) (q := Int.tdiv x d) (by omega)).2 ⟨by omega, by omega, by omega⟩
    exact this.1.symm
theorem tdivB {x d : Int} (hd : 1 ≤ d) (h1 : -4000000000000000000 ≤ x) (h2 : x ≤ 4000000000000000000) : -4000000000000000000 ≤ Int.tdiv x d ∧ Int.tdiv x d ≤ 4000000000000000000 := by
  have h := Int.natAbs_tdiv_le_natAbs x d
  omega
theorem F85_eq (f : Nat) {x d : Int} (hd : 1 ≤ d) (h1 : -4000000000000000000 ≤ x) (h2 : x ≤ 4000000000000000000) : F85 f x d = some (x / d) := by
  have hn : nz d = some () := by unfold nz; rw [if_pos (by omega)]
  obtain ⟨b1, b2⟩ := tdivB hd h1 h2
  rw [← floorT hd]
  unfold F85
  simp only [hn, Option.bind_some]
  rw [w64_id (n := Int.tdiv x d) (by omega) (by omega), w64_id (n := Int.tdiv x d - 1) (by omega) (by omega)]
  by_cases h : Int.tmod x d < 0
  · rw [decide_eq_true h, if_pos h]; rfl
  · rw [decide_eq_false h, if_neg h]; rfl
/-- floor of q*d + rest times n over d. -/
theorem floorMul {m n d : Int} (hd : 1 ≤ d) : (m / d) * n + ((m - (m / d) * d) * n) / d = (m * n) / d := by
  have e : m * n = (m - (m / d) * d) * n + (m / d * n) * d := by
    rw [Int.sub_mul, Int.mul_assoc (m / d) n d, Int.mul_comm n d, ← Int.mul_assoc]
    omega
  rw [e, Int.add_mul_ediv_right _ _ (by omega : d ≠ 0)]
  omega
def fl (m n d : Int) : Int := (m * n) / d
def ce (m n d : Int) : Int := -((-(m * n)) / d)
/-- What one step of Scale works with. -/
structure SF (m n d : Int) : Prop where
  m0 : -1000000000000000 ≤ m
  m1 : m ≤ 1000000000000000
  d1 : d ≤ 1000000000
  r0 : 0 ≤ m - m / d * d
  r1 : m - m / d * d < d
  q0 : -1000000000000000 ≤ m / d
  q1 : m / d ≤ 1000000000000000
  s0 : -1000000000000000000 ≤ (m - m / d * d) * n
  s1 : (m - m / d * d) * n ≤ 1000000000000000000
  t0 : -1000000000 ≤ ((m - m / d * d) * n) / d
  t1 : ((m - m / d * d) * n) / d ≤ 1000000000
  tn : (((m - m / d * d) * n) / d).natAbs ≤ n.natAbs
  u0 : -1000000000 ≤ -((-((m - m / d * d) * n)) / d)
  u1 : -((-((m - m / d * d) * n)) / d) ≤ 1000000000
  f : m / d * n + ((m - m / d * d) * n) / d = fl m n d
  c : m / d * n + -((-((m - m / d * d) * n)) / d) = ce m n d
  fc : fl m n d ≤ ce m n d
theorem absDiv {x n d : Int} (hd : 1 ≤ d) (h : x.natAbs ≤ d.natAbs * n.natAbs) : -(n.natAbs : Int) ≤ x / d ∧ x / d ≤ (n.natAbs : Int) := by
  have e : ((d.natAbs * n.natAbs : Nat) : Int) = (n.natAbs : Int) * d := by rw [Int.natCast_mul, Int.natAbs_of_nonneg (by omega), Int.mul_comm]
  have h' : (x.natAbs : Int) ≤ (n.natAbs : Int) * d := by rw [← e]; exact Int.ofNat_le.2 h
  constructor
  · apply Int.le_ediv_of_mul_le (by omega)
    rw [Int.neg_mul]
    omega
  · apply Int.ediv_le_of_le_mul (by omega)
    omega
theorem SF.mk' {m n d : Int} (h0 : -1000000000000000 ≤ m) (h1 : m ≤ 1000000000000000) (hn0 : -1000000000 ≤ n) (hn1 : n ≤ 1000000000) (hd : 1 ≤ d) (hd1 : d ≤ 1000000000) : SF m n d := by
  have hr : m - m / d * d = m % d := by have := Int.mul_ediv_add_emod m d; rw [Int.mul_comm] at this; omega
  have r0 : 0 ≤ m % d := Int.emod_nonneg _ (by omega)
  have r1 : m % d < d := Int.emod_lt_of_pos _ (by omega)
  have q0 : -1000000000000000 ≤ m / d := Int.le_ediv_of_mul_le (by omega) (by omega)
  have q1 : m / d ≤ 1000000000000000 := Int.ediv_le_of_le_mul (by omega) (by omega)
  have hrn : ((m % d) * n).natAbs ≤ d.natAbs * n.natAbs := by rw [Int.natAbs_mul]; exact Nat.mul_le_mul_right _ (by omega)
  have hrn' : ((m % d) * n).natAbs ≤ 1000000000 * 1000000000 := by rw [Int.natAbs_mul]; exact Nat.mul_le_mul (by omega) (by omega)
  have hb := absDiv (n := n) hd hrn
  have hb' := absDiv (x := -((m % d) * n)) (n := n) hd (by rw [Int.natAbs_neg]; exact hrn)
  have hf := floorMul (m := m) (n := n) hd
  have hc := floorMul (m := m) (n := -n) hd
  rw [hr, Int.mul_neg, Int.mul_neg, Int.mul_neg] at hc
  have hfc : (m * n) / d ≤ -((-(m * n)) / d) := by
    have := Int.add_mul_ediv_right
    have e1 := Int.mul_ediv_add_emod (m * n) d
    have e2 := Int.mul_ediv_add_emod (-(m * n)) d
    have p1 := Int.emod_nonneg (m * n) (b := d) (by omega)
    have p2 := Int.emod_nonneg (-(m * n)) (b := d) (by omega)
    have e3 : d * ((m * n) / d + (-(m * n)) / d) ≤ 0 := by rw [Int.mul_add]; omega
    have e4 : (m * n) / d + (-(m * n)) / d ≤ 0 := by
      rcases Int.lt_or_le 0 ((m * n) / d + (-(m * n)) / d) with hlt | hle
      · have := Int.mul_pos (a := d) (by omega) hlt; omega
      · exact hle
    omega
  rw [hr] at hf
  refine ⟨h0, h1, hd1, by rw [hr]; exact r0, by rw [hr]; exact r1, q0, q1, ?_, ?_, ?_, ?_, ?_, ?_, ?_, ?_, ?_, hfc⟩ <;> rw [hr]
  · omega
  · omega
  · omega
  · omega
  · omega
  · omega
  · omega
  · exact hf
  · unfold ce; omega
theorem F86_eq (f : Nat) {x d : Int} (hd : 1 ≤ d) (h1 : -2000000000000000000 ≤ x) (h2 : x ≤ 2000000000000000000) : F86 f x d = some (-((-x) / d)) := by
  have b := tdivB (x := -x) hd (by omega) (by omega)
  have hle : -4000000000000000000 ≤ (-x) / d ∧ (-x) / d ≤ 4000000000000000000 := by
    constructor
    · exact Int.le_ediv_of_mul_le (by omega) (by omega)
    · exact Int.ediv_le_of_le_mul (by omega) (by omega)
  unfold F86
  rw [w64_id (n := 0 - x) (by omega) (by omega), F85_eq f hd (by omega) (by omega)]
  simp only [Option.bind_some, Int.zero_sub]
  rw [w64_id (by omega) (by omega)]
/-- Is it too far? -/
theorem bigQ {q n k : Int} (hk0 : 0 ≤ k) (hk : k ≤ 4000000000000000) (hn0 : -1000000000 ≤ n) (hn1 : n ≤ 1000000000) (h0 : n ≠ 0) :
    ((q.natAbs : Int) > w64 (Int.tdiv k (n.natAbs : Int))) ↔ k < (q * n).natAbs := by
  have hp : 0 < (n.natAbs : Int) := by omega
  have e1 : Int.tdiv k (n.natAbs : Int) = k / (n.natAbs : Int) := Int.tdiv_eq_ediv_of_nonneg hk0
  have hle : k / (n.natAbs : Int) ≤ k := Int.ediv_le_self _ hk0
  have hge : 0 ≤ k / (n.natAbs : Int) := Int.ediv_nonneg hk0 (by omega)
  rw [e1, w64_id (by omega) (by omega)]
  show k / (n.natAbs : Int) < (q.natAbs : Int) ↔ _
  rw [Int.ediv_lt_iff_lt_mul hp, Int.natAbs_mul, ← Int.natCast_mul]
theorem mul_zero_natAbs (q : Int) : (q * 0).natAbs = 0 := by rw [Int.mul_zero]; rfl
theorem F90_eq (f : Nat) (x a b : Int) : F90 f x a b = some (decide (a ≤ x ∧ x ≤ b)) := by
  unfold F90 F90_j1
  by_cases h1 : a ≤ x <;> by_cases h2 : x ≤ b <;> simp [h1, h2]
/-- One round of Scale's loop. -/
theorem F40_j2_eq {p n d : Int} (f : Nat) (k : Int → Int → Bool → Int → Option (Int × Int × Int)) (u v : Int) (s : Bool) (y : Int) (hd : 1 ≤ d) (hn0 : -1000000000 ≤ n) (hn1 : n ≤ 1000000000) (S : SF p n d) (hb : (p / d * n).natAbs ≤ 2000000000000000) (hd1 : d ≤ 1000000000) :
    F40_j2 f k n d u v s y p (p / d) false = k (let u0 := if s then u else fl p n d; let u1 := if fl p n d < u0 then fl p n d else u0; if ce p n d < u1 then ce p n d else u1)
      (let v0 := if s then v else fl p n d; let v1 := if fl p n d > v0 then fl p n d else v0; if ce p n d > v1 then ce p n d else v1) true (w64 (y + 1)) := by
  obtain ⟨m0, m1, dd, r0, r1, q0, q1, s0, s1, t0, t1, tn, u0, u1, hf, hc, hfc⟩ := S
  have e1 : w64 (p / d * d) = p / d * d := by
    exact w64_id (by omega) (by omega)
  have e2 : w64 (p - p / d * d) = p - p / d * d := w64_id (by omega) (by omega)
  have e3 : w64 ((p - p / d * d) * n) = (p - p / d * d) * n := w64_id (by omega) (by omega)
  have e4 : w64 (p / d * n) = p / d * n := w64_id (by omega) (by omega)
  have e5 := w64_id (n := p / d * n + ((p - p / d * d) * n) / d) (by omega) (by omega)
  have e6 := w64_id (n := p / d * n + -((-((p - p / d * d) * n)) / d)) (by omega) (by omega)
  have d1 := F85_eq f (x := (p - p / d * d) * n) hd (by omega) (by omega)
  have d2 := F86_eq f (x := (p - p / d * d) * n) hd (by omega) (by omega)
  unfold F40_j2 F40_j3 F40_j4
  rw [cond_false, e1, e2, e3, e4, d1, Option.bind_some, e5, d2, Option.bind_some, Option.bind_some, e6, hf, hc]
  cases s <;> simp
/-- The error or the range. -/
def mk3 (u v : Int) : Option (Int × Int × Int) := if V u v then some (u, v, 0) else some (0, 0, 5)
theorem mk3_not {u v x : Int} (h1 : u ≤ x) (h2 : x ≤ v) (hx : 1000000000000000 < x.natAbs) : mk3 u v = some (0, 0, 5) := by
  unfold mk3; rw [if_neg (by unfold V; omega)]
def least (lo hi n : Int) : Int := if n < 0 then hi else lo
def most (lo hi n : Int) : Int := if n < 0 then lo else hi
theorem ediv_mono {x y d : Int} (hd : 1 ≤ d) (h : x ≤ y) : x / d ≤ y / d := Int.ediv_le_ediv (by omega) h
theorem fl_mono {x y n d : Int} (hd : 1 ≤ d) (h : x * n ≤ y * n) : fl x n d ≤ fl y n d := ediv_mono hd h
theorem ce_mono {x y n d : Int} (hd : 1 ≤ d) (h : x * n ≤ y * n) : ce x n d ≤ ce y n d := by
  have := ediv_mono (x := -(y * n)) (y := -(x * n)) hd (by omega)
  unfold ce; omega
/-- The two ends' order. -/
theorem ends {lo hi n : Int} (h : lo ≤ hi) : least lo hi n * n ≤ most lo hi n * n := by
  unfold least most
  by_cases hn : n < 0
  · rw [if_pos hn, if_pos hn]; exact Int.mul_le_mul_of_nonpos_right h (by omega)
  · rw [if_neg hn, if_neg hn]; exact Int.mul_le_mul_of_nonneg_right h (by omega)
/-- Far out: what is too big for the loop lies out of the limits. -/
theorem far {m n d k : Int} (S : SF m n d) (hn : n.natAbs ≤ 1000000000) (hk : k < (m / d * n).natAbs) (hk2 : 1000000000000000 + (n.natAbs : Int) ≤ k) : 1000000000000000 < (fl m n d).natAbs := by
  have h1 := S.f
  have h2 := S.tn
  omega
theorem l1_step {lo hi n d : Int} (f m : Nat) (u v : Int) (s : Bool) (y : Int) {p : Int} (hy : getI [lo, hi] y = some p) (hy2 : y < 2) (h0 : -1000000000000000 ≤ p) (h1 : p ≤ 1000000000000000) (hn0 : -1000000000 ≤ n) (hn1 : n ≤ 1000000000) (hd : 1 ≤ d) (hd1 : d ≤ 1000000000) :
    F40_l1 f lo hi n d (m + 1) u v s y = if 2000000000000000 < (p / d * n).natAbs then some (0, 0, 5) else F40_l1 f lo hi n d m (let u0 := if s then u else fl p n d; let u1 := if fl p n d < u0 then fl p n d else u0; if ce p n d < u1 then ce p n d else u1)
      (let v0 := if s then v else fl p n d; let v1 := if fl p n d > v0 then fl p n d else v0; if ce p n d > v1 then ce p n d else v1) true (w64 (y + 1)) := by
  have S := SF.mk' h0 h1 hn0 hn1 hd hd1
  have hq : F85 f p d = some (p / d) := F85_eq f hd (by omega) (by omega)
  have q0 := S.q0
  have q1 := S.q1
  rw [F40_l1, decide_eq_true hy2, cond_true, hy, Option.bind_some, hq, Option.bind_some]
  by_cases hb : 2000000000000000 < (p / d * n).natAbs
  · rw [if_pos hb]
    have h0 : n ≠ 0 := by intro e; rw [e, mul_zero_natAbs] at hb; omega
    have e1 : (n != 0) = true := by simp [h0]
    have e2 : nz (n.natAbs : Int) = some () := by unfold nz; rw [if_pos (by omega)]
    rw [e1, cond_true, absW (by omega) (by omega), absW q0 q1, e2, Option.bind_some, decide_eq_true ((bigQ (by omega) (by omega) hn0 hn1 h0).2 (by omega))]
    unfold F40_j2; rfl
  · rw [if_neg hb]
    refine Eq.trans ?_ (F40_j2_eq f (F40_l1 f lo hi n d m) u v s y hd hn0 hn1 S (by omega) hd1)
    by_cases h0 : n = 0
    · have e1 : (n != 0) = false := by simp [h0]
      rw [e1, cond_false]
    · have e1 : (n != 0) = true := by simp [h0]
      have e2 : nz (n.natAbs : Int) = some () := by unfold nz; rw [if_pos (by omega)]
      rw [e1, cond_true, absW (by omega) (by omega), absW q0 q1, e2, Option.bind_some, decide_eq_false (fun h => hb (by have := (bigQ (by omega) (by omega) hn0 hn1 h0).1 h; omega))]
theorem l1_end {lo hi n d : Int} (f m : Nat) (u v : Int) (s : Bool) : F40_l1 f lo hi n d (m + 1) u v s 2 = mk3 u v := by
  have f3 : decide ((2 : Int) < 2) = false := rfl
  rw [F40_l1, f3, cond_false, F52_eq]
  unfold mk3 F40_j5
  by_cases h : V u v
  · rw [if_pos h, if_pos h]; rfl
  · rw [if_neg h, if_neg h]; rfl
theorem pick4 {a b c d : Int} (hab : a ≤ b) (hcd : c ≤ d) : (if d < (if c < (if b < (if a < a then a else a) then b else (if a < a then a else a)) then c else (if b < (if a < a then a else a) then b else (if a < a then a else a))) then d else (if c < (if b < (if a < a then a else a) then b else (if a < a then a else a)) then c else (if b < (if a < a then a else a) then b else (if a < a then a else a)))) = (if c < a then c else a) := by
  have e1 : (if a < a then a else a) = a := by split <;> rfl
  have e2 : (if b < a then b else a) = a := by split <;> omega
  rw [e1, e2]
  split <;> split <;> omega
theorem pick4' {a b c d : Int} (hab : a ≤ b) (hcd : c ≤ d) : (if d > (if c > (if b > (if a > a then a else a) then b else (if a > a then a else a)) then c else (if b > (if a > a then a else a) then b else (if a > a then a else a))) then d else (if c > (if b > (if a > a then a else a) then b else (if a > a then a else a)) then c else (if b > (if a > a then a else a) then b else (if a > a then a else a)))) = (if d > b then d else b) := by
  have e1 : (if a > a then a else a) = a := by split <;> rfl
  have e2 : (if b > a then b else a) = b := by split <;> omega
  rw [e1, e2]
  split <;> split <;> (try split) <;> omega
theorem F40_l1_eq {lo hi n d : Int} (h : V lo hi) (hn0 : -1000000000 ≤ n) (hn1 : n ≤ 1000000000) (hd : 1 ≤ d) (hd1 : d ≤ 1000000000) (f m : Nat) :
    F40_l1 f lo hi n d (m + 3) 0 0 false 0 = mk3 (fl (least lo hi n) n d) (ce (most lo hi n) n d) := by
  have hv := h
  unfold V at hv
  have S1 := SF.mk' (m := lo) (n := n) (d := d) (by omega) (by omega) hn0 hn1 hd hd1
  have S2 := SF.mk' (m := hi) (n := n) (d := d) (by omega) (by omega) hn0 hn1 hd hd1
  have he := ends (n := n) hv.2.1
  have m1 := fl_mono hd he
  have m2 := ce_mono hd he
  have k0 : w64 (0 + 1) = 1 := by decide
  have k3 : w64 (1 + 1) = 2 := by decide
  have a1 : fl (least lo hi n) n d ≤ fl lo n d ∧ fl (least lo hi n) n d ≤ fl hi n d ∧ ce lo n d ≤ ce (most lo hi n) n d ∧ ce hi n d ≤ ce (most lo hi n) n d ∧ (fl (least lo hi n) n d = fl lo n d ∨ fl (least lo hi n) n d = fl hi n d) ∧ (ce (most lo hi n) n d = ce lo n d ∨ ce (most lo hi n) n d = ce hi n d) := by
    unfold least most at *
    by_cases hn : n < 0
    · simp only [if_pos hn] at *
      exact ⟨m1, Int.le_refl _, Int.le_refl _, m2, .inr trivial, .inl trivial⟩
    · simp only [if_neg hn] at *
      exact ⟨Int.le_refl _, m1, m2, Int.le_refl _, .inl trivial, .inr trivial⟩
  obtain ⟨b1, b2, b3, b4, b5, b6⟩ := a1
  rw [l1_step f (m + 2) 0 0 false 0 (p := lo) rfl (by decide) (by omega) (by omega) hn0 hn1 hd hd1]
  by_cases c1 : 2000000000000000 < (lo / d * n).natAbs
  · rw [if_pos c1, mk3_not b1 (Int.le_trans S1.fc b3) (far S1 (by omega) (k := 2000000000000000) (by omega) (by omega))]
  · rw [if_neg c1, k0, l1_step f (m + 1) _ _ true 1 (p := hi) rfl (by decide) (by omega) (by omega) hn0 hn1 hd hd1]
    by_cases c2 : 2000000000000000 < (hi / d * n).natAbs
    · rw [if_pos c2, mk3_not b2 (Int.le_trans S2.fc b4) (far S2 (by omega) (k := 2000000000000000) (by omega) (by omega))]
    · rw [if_neg c2, k3, l1_end]
      simp only [Bool.false_eq_true, if_false, if_true]
      have g1 := S1.fc
      have g2 := S2.fc
      rw [pick4 g1 g2, pick4' g1 g2]
      congr 1
      · split <;> omega
      · split <;> omega
theorem F40_eq (lo hi n d : Int) : F40 64 lo hi n d = if V lo hi then (if -1000000000 ≤ n ∧ n ≤ 1000000000 ∧ 1 ≤ d ∧ d ≤ 1000000000 then mk3 (fl (least lo hi n) n d) (ce (most lo hi n) n d) else some (0, 0, 1)) else some (0, 0, 10) := by
  unfold F40
  rw [F52_eq]
  by_cases h : V lo hi
  · rw [if_pos h, if_pos h, Option.bind_some, F90_eq]
    rw [cond_z, Option.bind_some, F90_eq, Option.bind_some]
    unfold F40_j1
    by_cases h1 : -1000000000 ≤ n ∧ n ≤ 1000000000
    · rw [decide_eq_true h1]
      by_cases h2 : 1 ≤ d ∧ d ≤ 1000000000
      · rw [decide_eq_true h2, if_pos ⟨h1.1, h1.2, h2.1, h2.2⟩]
        exact F40_l1_eq h h1.1 h1.2 h2.1 h2.2 64 61
      · rw [decide_eq_false h2, if_neg (fun h => h2 ⟨h.2.2.1, h.2.2.2⟩)]; rfl
    · rw [decide_eq_false h1, if_neg (fun h => h1 ⟨h.1, h.2.1⟩)]; rfl
  · rw [if_neg h, if_neg h]; rfl
end Go.Proofs.Ytpjmgeajajcceaa
