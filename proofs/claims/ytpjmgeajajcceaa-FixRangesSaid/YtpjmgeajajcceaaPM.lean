/-
  A part of the walk and of the plain law of one given statement. No condition.
-/
import Derived.Test.YtpjmgeajajcceaaPL
set_option linter.unusedSimpArgs false
namespace Go.Proofs.Ytpjmgeajajcceaa
open Go.Sl Go.Sx
theorem absW {n : Int} (h1 : -1000000000000000 ≤ n) (h2 : n ≤ 1000000000000000) : (if w64 (0 - n) > n then w64 (0 - n) else n) = (n.natAbs : Int) := by
  rw [w64_id (by omega) (by omega)]
  split <;> omega
theorem bigW {m n : Int} (hm1 : -1000000000000000 ≤ m) (hm2 : m ≤ 1000000000000000) (h0 : m ≠ 0) :
    ((n.natAbs : Int) > w64 (Int.tdiv 1000000000000000 (m.natAbs : Int))) ↔ 1000000000000000 < (m * n).natAbs := by
  have hp : 0 < (m.natAbs : Int) := by omega
  have e1 : Int.tdiv 1000000000000000 (m.natAbs : Int) = 1000000000000000 / (m.natAbs : Int) := Int.tdiv_eq_ediv_of_nonneg (by decide)
  have hle : 1000000000000000 / (m.natAbs : Int) ≤ 1000000000000000 := Int.ediv_le_self _ (by decide)
  have hge : 0 ≤ 1000000000000000 / (m.natAbs : Int) := Int.ediv_nonneg (by decide) (by omega)
  rw [e1, w64_id (by omega) (by omega)]
  show 1000000000000000 / (m.natAbs : Int) < (n.natAbs : Int) ↔ _
  rw [Int.ediv_lt_iff_lt_mul hp, Int.natAbs_mul, Nat.mul_comm, ← Int.natCast_mul]
  generalize n.natAbs * m.natAbs = k
  omega

/-- Is the product too big? -/
def bg (m n : Int) : Bool := decide (1000000000000000 < (m * n).natAbs)

theorem bg_comm (m n : Int) : bg m n = bg n m := by unfold bg; rw [Int.mul_comm]

theorem F39_body {m n : Int} (hm1 : -1000000000000000 ≤ m) (hm2 : m ≤ 1000000000000000) (hn1 : -1000000000000000 ≤ n) (hn2 : n ≤ 1000000000000000)
    (k : Int → Int → Bool → Bool → Int → Option (Int × Int × Int)) (y4 u v : Int) (s g : Bool) :
    (cond (m != (0 : Int)) ((nz (if (w64 (0 - m)) > m then (w64 (0 - m)) else m)).bind fun _ => (F39_j3 k m u v s g y4 n (decide ((if (w64 (0 - n)) > n then (w64 (0 - n)) else n) > (w64 (Int.tdiv 1000000000000000 (if (w64 (0 - m)) > m then (w64 (0 - m)) else m))))))) (F39_j3 k m u v s g y4 n false))
      = F39_j3 k m u v s g y4 n (bg m n) := by
  by_cases h0 : m = 0
  · subst h0
    have hb : bg 0 n = false := by unfold bg; rw [Int.zero_mul]; rfl
    rw [hb]; rfl
  · have h1 : (m != 0) = true := by simp [h0]
    rw [h1, cond_true, absW hm1 hm2, absW hn1 hn2]
    have h2 : nz (m.natAbs : Int) = some () := by unfold nz; rw [if_pos (by omega)]
    rw [h2, Option.bind_some]
    congr 1
    unfold bg
    exact decide_eq_decide.2 (bigW hm1 hm2 h0)

theorem F108_eq (f : Nat) {m n : Int} (hm1 : -1000000000000000 ≤ m) (hm2 : m ≤ 1000000000000000) (hn1 : -1000000000000000 ≤ n) (hn2 : n ≤ 1000000000000000) :
    F108 f m n = some (if bg m n then (0, false) else (m * n, true)) := by
  have key : F108 f m n = F108_j1 m n (bg m n) := by
    unfold F108
    rw [absW hn1 hn2, absW hm1 hm2]
    by_cases h0 : n = 0
    · subst h0
      have hb : bg m 0 = false := by unfold bg; rw [Int.mul_zero]; rfl
      rw [hb]; rfl
    · have h1 : ((n.natAbs : Int) != 0) = true := by simp [h0]
      have h2 : nz (n.natAbs : Int) = some () := by unfold nz; rw [if_pos (by omega)]
      rw [h1, cond_true, h2, Option.bind_some]
      congr 1
      rw [bg_comm]
      unfold bg
      exact decide_eq_decide.2 (bigW hn1 hn2 h0)
  rw [key]
  unfold F108_j1
  cases hb : bg m n with
  | true => rfl
  | false =>
    have h3 : ¬ 1000000000000000 < (m * n).natAbs := of_decide_eq_false hb
    rw [w64_id (n := m * n) (by omega) (by omega)]; rfl

theorem F48_l2_eq (f : Nat) (k : Int → Int → Int → Option (Int × Int × Int)) {c d p : Int} (y : Int) (n : Nat) (u v : Int) (hp1 : -1000000000000000 ≤ p) (hp2 : p ≤ 1000000000000000) (hcd : V c d) :
    F48_l2 f k c d y p (n + 3) u v 0 = if bg p c then some (0, 0, 5) else if bg p d then some (0, 0, 5) else
      k (let u1 := if p * c < u then p * c else u; if p * d < u1 then p * d else u1) (let v1 := if p * c > v then p * c else v; if p * d > v1 then p * d else v1) (w64 (y + 1)) := by
  unfold V at hcd
  have e1 := F108_eq f (m := p) (n := c) hp1 hp2 (by omega) (by omega)
  have e2 := F108_eq f (m := p) (n := d) hp1 hp2 (by omega) (by omega)
  cases h1 : bg p c <;> cases h2 : bg p d <;> rw [h1] at e1 <;> rw [h2] at e2 <;> simp [F48_l2, g0, g1, k1, k2, e1, e2]

structure GS where
  u : Int
  v : Int
  s : Bool
  g : Bool
def stepM (p q : Int) (t : GS) : GS := bif bg p q then ⟨t.u, t.v, t.s, true⟩ else bif t.s then ⟨if p * q < t.u then p * q else t.u, if p * q > t.v then p * q else t.v, true, t.g⟩ else ⟨p * q, p * q, true, t.g⟩

theorem F39_j3_eq {p q : Int} (k : Int → Int → Bool → Bool → Int → Option (Int × Int × Int)) (u v : Int) (s g : Bool) (y : Int) :
    F39_j3 k p u v s g y q (bg p q) = k (stepM p q ⟨u, v, s, g⟩).u (stepM p q ⟨u, v, s, g⟩).v (stepM p q ⟨u, v, s, g⟩).s (stepM p q ⟨u, v, s, g⟩).g (w64 (y + 1)) := by
  unfold F39_j3 stepM
  cases hb : bg p q with
  | true => rfl
  | false =>
    have h3 : ¬ 1000000000000000 < (p * q).natAbs := of_decide_eq_false hb
    have e := w64_id (n := p * q) (by omega) (by omega)
    cases s <;> simp [F39_j4, F39_j2, e]

theorem F39_l2_eq (k : Int → Int → Bool → Bool → Int → Option (Int × Int × Int)) {c d p : Int} (y : Int) (n : Nat) (t : GS) (hp1 : -1000000000000000 ≤ p) (hp2 : p ≤ 1000000000000000) (hcd : V c d) :
    F39_l2 k c d y p (n + 3) t.u t.v t.s t.g 0 = k (stepM p d (stepM p c t)).u (stepM p d (stepM p c t)).v (stepM p d (stepM p c t)).s (stepM p d (stepM p c t)).g (w64 (y + 1)) := by
  unfold V at hcd
  obtain ⟨u, v, s, g⟩ := t
  have b1 := fun k y4 u v s g => F39_body (m := p) (n := c) hp1 hp2 (by omega) (by omega) k y4 u v s g
  have b2 := fun k y4 u v s g => F39_body (m := p) (n := d) hp1 hp2 (by omega) (by omega) k y4 u v s g
  have f1 : decide ((0 : Int) < 2) = true := rfl
  have f2 : decide ((1 : Int) < 2) = true := rfl
  have f3 : decide ((2 : Int) < 2) = false := rfl
  have k0 : w64 (0 + 1) = 1 := by decide
  have k3 : w64 (1 + 1) = 2 := by decide
  rw [F39_l2]
  simp only [f1, cond_true, g0, Option.bind_some]
  rw [b1, F39_j3_eq, k0, F39_l2]
  simp only [f2, cond_true, g1, Option.bind_some]
  rw [b2, F39_j3_eq, k3, F39_l2]
  simp only [f3, cond_false]

theorem F48_l1_eq {a b c d : Int} (n m : Nat) (h1 : V a b) (h2 : V c d) :
    F48_l1 (n + 3) a b c d (m + 3) 1000000000000000 (-1000000000000000) 0 =
      (if bg a c then some (0, 0, 5) else if bg a d then some (0, 0, 5) else if bg b c then some (0, 0, 5) else if bg b d then some (0, 0, 5) else
        (let u1 := if a * c < 1000000000000000 then a * c else 1000000000000000
         let u2 := if a * d < u1 then a * d else u1
         let u3 := if b * c < u2 then b * c else u2
         let u4 := if b * d < u3 then b * d else u3
         let v1 := if a * c > -1000000000000000 then a * c else -1000000000000000
         let v2 := if a * d > v1 then a * d else v1
         let v3 := if b * c > v2 then b * c else v2
         let v4 := if b * d > v3 then b * d else v3
         some (u4, v4, 0))) := by
  have f1 : decide ((0 : Int) < 2) = true := rfl
  have f2 : decide ((1 : Int) < 2) = true := rfl
  have f3 : decide ((2 : Int) < 2) = false := rfl
  have k0 : w64 (0 + 1) = 1 := by decide
  have k3 : w64 (1 + 1) = 2 := by decide
  have hv := h1
  unfold V at hv
  rw [F48_l1]
  simp only [f1, cond_true, g0, Option.bind_some]
  rw [F48_l2_eq (n + 3) _ (p := a) (c := c) (d := d) 0 n _ _ (by omega) (by omega) h2, k0, F48_l1]
  simp only [f2, cond_true, g1, Option.bind_some]
  rw [F48_l2_eq (n + 3) _ (p := b) (c := c) (d := d) 1 n _ _ (by omega) (by omega) h2, k3, F48_l1]
  simp only [f3, cond_false]

theorem F39_l1_eq {a b c d : Int} (n m : Nat) (h1 : V a b) (h2 : V c d) (t : GS) :
    F39_l1 (n + 3) a b c d (m + 3) t.u t.v t.s t.g 0 =
      (let t4 := stepM b d (stepM b c (stepM a d (stepM a c t)))
       bif t4.g then some (0, 0, 5) else if V t4.u t4.v then some (t4.u, t4.v, 0) else some (0, 0, 5)) := by
  have f1 : decide ((0 : Int) < 2) = true := rfl
  have f2 : decide ((1 : Int) < 2) = true := rfl
  have f3 : decide ((2 : Int) < 2) = false := rfl
  have k0 : w64 (0 + 1) = 1 := by decide
  have k3 : w64 (1 + 1) = 2 := by decide
  have hv := h1
  unfold V at hv
  rw [F39_l1]
  simp only [f1, cond_true, g0, Option.bind_some]
  rw [F39_l2_eq _ (p := a) (c := c) (d := d) 0 n t (by omega) (by omega) h2, k0, F39_l1]
  simp only [f2, cond_true, g1, Option.bind_some]
  rw [F39_l2_eq _ (p := b) (c := c) (d := d) 1 n _ (by omega) (by omega) h2, k3, F39_l1]
  simp only [f3, cond_false]
  generalize stepM b d (stepM b c (stepM a d (stepM a c t))) = t4
  cases hg : t4.g with
  | true => rfl
  | false =>
    rw [F52_eq]
    by_cases hV : V t4.u t4.v <;> simp [hV, F39_j6, F39_j5, F39_j1]

end Go.Proofs.Ytpjmgeajajcceaa
