/-
  Tables: when one is valid, and its value at a place, as the program reckons it. No condition.
-/
import Derived.Test.YtpjmgeajajcceaaSF2
set_option linter.unusedSimpArgs false
set_option linter.unusedVariables false
namespace Go.Proofs.Ytpjmgeajajcceaa
open Go.Sl Go.Sx

theorem w64_id {n : Int} (h1 : -9223372036854775808 ≤ n) (h2 : n ≤ 9223372036854775807) : w64 n = n := by
  unfold w64 IntKind.wrap
  simp [IntKind.bits, IntKind.signed]
  omega
theorem cond_z {α : Type} (x y : α) : cond ((0 : Int) != 0) x y = y := rfl
theorem nzS {n : Int} (h : n ≠ 0) : nz n = some () := by unfold nz; rw [if_pos h]

/-! ### Loops -/
theorem loop_all {ρ : Type} {L : Nat → Int → Option ρ} {len : Nat} {good : Nat → Prop} {no yes : Option ρ}
    (h : ∀ n i, i < len → ∃ c : Bool, L (n + 1) (i : Int) = cond c (L n ((i + 1 : Nat) : Int)) no ∧ (c = true ↔ good i))
    (he : ∀ n, L (n + 1) (len : Int) = yes) : ∀ n i, i ≤ len → len - i < n → ((∀ j, i ≤ j → j < len → good j) ∧ L n (i : Int) = yes) ∨ ((¬ ∀ j, i ≤ j → j < len → good j) ∧ L n (i : Int) = no)
  | 0, i, _, hn => by omega
  | n + 1, i, hi, hn => by
    rcases Nat.lt_or_ge i len with hlt | hge
    · obtain ⟨c, e, hc⟩ := h n i hlt
      cases c with
      | true =>
        have hg := hc.1 rfl
        rw [e, cond_true]
        rcases loop_all h he n (i + 1) (by omega) (by omega) with ⟨h1, h2⟩ | ⟨h1, h2⟩
        · exact .inl ⟨fun j hj hl => by rcases Nat.eq_or_lt_of_le hj with e | e; exact e ▸ hg; exact h1 j e hl, h2⟩
        · exact .inr ⟨fun hall => h1 fun j hj hl => hall j (by omega) hl, h2⟩
      | false => exact .inr ⟨fun hall => (by have := hc.2 (hall i (Nat.le_refl _) hlt); cases this), by rw [e, cond_false]⟩
    · have : i = len := by omega
      subst this
      exact .inl ⟨fun j hj hl => by omega, he n⟩

/-! ### Points of a table -/
def pt (t : List Pt) (i : Nat) : Pt := t.getD i ⟨0, 0, 0⟩
theorem getI_pt {t : List Pt} {i : Nat} (h : i < t.length) : getI t (i : Int) = some (pt t i) := by
  rw [getI_of h]; simp [pt, h]
theorem pt_eq {t : List Pt} {i : Nat} (h : i < t.length) : pt t i = t[i] := by simp [pt, h]
theorem getI_tail {t : List Pt} {i : Nat} (h : i + 1 < t.length) : getI (t.drop 1) (i : Int) = some (pt t (i + 1)) := by
  rw [getI_of (by rw [List.length_drop]; omega)]
  simp [pt, h, Nat.add_comm]
theorem sub_tail {t : List Pt} (h : 1 ≤ t.length) : subI t 1 (t.length : Int) = some (t.drop 1) := by
  unfold subI
  rw [if_pos (by omega)]
  simp
theorem succ_w {i : Nat} (h : i < 4000000000) : w64 ((i : Int) + 1) = ((i + 1 : Nat) : Int) := by
  rw [w64_id (by omega) (by omega)]; simp
theorem pred_w {i : Nat} (h : i < 4000000000) (h0 : 0 < i) : w64 ((i : Int) - 1) = ((i - 1 : Nat) : Int) := by
  rw [w64_id (by omega) (by omega)]; omega

structure okP (p : Pt) : Prop where
  x0 : 0 ≤ p.x
  x1 : p.x ≤ 1000000
  lo : -1000000000 ≤ p.lo
  le : p.lo ≤ p.hi
  hi : p.hi ≤ 1000000000
/-- A table is valid. -/
structure VT (t : List Pt) : Prop where
  l1 : 1 ≤ t.length
  l2 : t.length ≤ 40
  ok : ∀ i, i < t.length → okP (pt t i)
  up : ∀ i, i + 1 < t.length → (pt t i).x < (pt t (i + 1)).x

def goodT (t : List Pt) (i : Nat) : Prop := okP (pt t i) ∧ (0 < i → (pt t (i - 1)).x < (pt t i).x)
theorem VT_iff (t : List Pt) : VT t ↔ (1 ≤ t.length ∧ t.length ≤ 40) ∧ ∀ j, 0 ≤ j → j < t.length → goodT t j :=
  ⟨fun v => ⟨⟨v.l1, v.l2⟩, fun j _ hj => ⟨v.ok j hj, fun h0 => by have := v.up (j - 1) (by omega); rwa [Nat.sub_add_cancel h0] at this⟩⟩,
   fun ⟨⟨h1, h2⟩, h⟩ => ⟨h1, h2, fun i hi => (h i (Nat.zero_le _) hi).1, fun i hi => by have := (h (i + 1) (Nat.zero_le _) hi).2 (by omega); simpa using this⟩⟩

theorem F90_eq (f : Nat) (x a b : Int) : F90 f x a b = some (decide (a ≤ x ∧ x ≤ b)) := by
  unfold F90 F90_j1
  by_cases h1 : a ≤ x <;> by_cases h2 : x ≤ b <;> simp [h1, h2]

theorem F67_step (f : Nat) {t : List Pt} (hl : t.length ≤ 40) (n i : Nat) (hi : i < t.length) :
    ∃ c : Bool, F67_l1 f t (n + 1) (i : Int) = cond c (F67_l1 f t n ((i + 1 : Nat) : Int)) (some 11) ∧ (c = true ↔ goodT t i) := by
  rw [F67_l1, decide_eq_true (by omega : (i : Int) < (t.length : Int)), cond_true, getI_pt hi, Option.bind_some, F90_eq, Option.bind_some]
  unfold F67_j1
  by_cases h1 : 0 ≤ (pt t i).x ∧ (pt t i).x ≤ 1000000
  · by_cases h2 : (pt t i).lo > (pt t i).hi
    · exact ⟨false, by simp [h1, h2], (fun h => by cases h), fun h => by have := h.1.le; omega⟩
    · by_cases h3 : (pt t i).lo < -1000000000
      · exact ⟨false, by simp [h1, h2, h3], (fun h => by cases h), fun h => by have := h.1.lo; omega⟩
      · by_cases h4 : (pt t i).hi > 1000000000
        · exact ⟨false, by simp [h1, h2, h3, h4], (fun h => by cases h), fun h => by have := h.1.hi; omega⟩
        · have hok : okP (pt t i) := ⟨h1.1, h1.2, by omega, by omega, by omega⟩
          by_cases h5 : 0 < i
          · rw [pred_w (by omega) h5, getI_pt (by omega : i - 1 < t.length)]
            by_cases h6 : (pt t (i - 1)).x ≥ (pt t i).x
            · exact ⟨false, by simp [h1, h2, h3, h4, h5, h6], (fun h => by cases h), fun h => by have := h.2 h5; omega⟩
            · refine ⟨true, ?_, fun _ => ⟨hok, fun _ => by omega⟩, fun _ => rfl⟩
              simp [h1, h2, h3, h4, h5, h6, succ_w (show i < 4000000000 by omega)]
          · refine ⟨true, ?_, fun _ => ⟨hok, fun h => absurd h h5⟩, fun _ => rfl⟩
            have : i = 0 := by omega
            subst this
            simp [h1, h2, h3, h4, show w64 1 = 1 by decide]
  · exact ⟨false, by simp [h1], (fun h => by cases h), fun h => absurd ⟨h.1.x0, h.1.x1⟩ h1⟩

theorem F67_cases {f : Nat} (hf : 50 ≤ f) (t : List Pt) : (VT t ∧ F67 f t = some 0) ∨ (¬ VT t ∧ F67 f t = some 11) := by
  rw [VT_iff]
  unfold F67
  rw [F90_eq, Option.bind_some]
  by_cases h : (1 : Int) ≤ (t.length : Int) ∧ (t.length : Int) ≤ 40
  · rw [decide_eq_true h, Bool.not_true, cond_false]
    have hl : 1 ≤ t.length ∧ t.length ≤ 40 := by omega
    have he : ∀ n, F67_l1 f t (n + 1) (t.length : Int) = some 0 := fun n => by
      rw [F67_l1, decide_eq_false (by omega), cond_false]
    rcases loop_all (F67_step f hl.2) he f 0 (Nat.zero_le _) (by omega) with ⟨h1, h2⟩ | ⟨h1, h2⟩
    · exact .inl ⟨⟨hl, h1⟩, h2⟩
    · exact .inr ⟨fun h => h1 h.2, h2⟩
  · rw [decide_eq_false h]
    exact .inr ⟨fun hh => h (by omega), rfl⟩

/-! ### The domain -/
def fstX (t : List Pt) : Int := (pt t 0).x
def lstX (t : List Pt) : Int := (pt t (t.length - 1)).x
theorem F117_eq (f : Nat) {t : List Pt} (v : VT t) : F117 f t = some (fstX t, lstX t) := by
  have h1 := v.l1
  have h2 := v.l2
  unfold F117
  have e0 := getI_pt (t := t) (i := 0) (by omega)
  rw [show ((0 : Nat) : Int) = 0 from rfl] at e0
  rw [e0, Option.bind_some, pred_w (by omega) (by omega), getI_pt (by omega)]; rfl
theorem F81_eq (f : Nat) {t : List Pt} (v : VT t) (a b : Int) : F81 f t a b = some (decide (fstX t ≤ a ∧ b ≤ lstX t)) := by
  unfold F81 F81_j1
  rw [F117_eq f v, Option.bind_some]
  by_cases h1 : fstX t ≤ a <;> by_cases h2 : b ≤ lstX t <;> simp [h1, h2]

/-! ### Places -/
theorem VT.mono {t : List Pt} (v : VT t) : ∀ {i j : Nat}, i < j → j < t.length → (pt t i).x < (pt t j).x
  | i, j + 1, h, hj => by
    rcases Nat.eq_or_lt_of_le (Nat.le_of_lt_succ h) with e | e
    · subst e; exact v.up i hj
    · exact Int.lt_trans (v.mono e (by omega)) (v.up j hj)
theorem VT.mono_le {t : List Pt} (v : VT t) {i j : Nat} (h : i ≤ j) (hj : j < t.length) : (pt t i).x ≤ (pt t j).x := by
  rcases Nat.eq_or_lt_of_le h with e | e
  · subst e; exact Int.le_refl _
  · exact Int.le_of_lt (v.mono e hj)
/-- The point at or ahead of a place. -/
structure Seg (t : List Pt) (x : Int) (i : Nat) : Prop where
  lt : i < t.length
  le : (pt t i).x ≤ x
  nx : i + 1 < t.length → x < (pt t (i + 1)).x
  last : i + 1 = t.length → x = (pt t i).x
theorem seg_uniq {t : List Pt} (v : VT t) {x : Int} {i j : Nat} (h : Seg t x i) (k : Seg t x j) : i = j := by
  rcases Nat.lt_trichotomy i j with e | e | e
  · have h1 := h.nx (by have := k.lt; omega)
    have h2 := v.mono_le (i := i + 1) (j := j) e k.lt
    have := k.le; omega
  · exact e
  · have h1 := k.nx (by have := h.lt; omega)
    have h2 := v.mono_le (i := j + 1) (j := i) e h.lt
    have := h.le; omega
theorem seg_ex {t : List Pt} (v : VT t) {x : Int} (h1 : fstX t ≤ x) (h2 : x ≤ lstX t) : ∃ i, Seg t x i := by
  have key : ∀ k, k < t.length → x < (pt t k).x → ∃ i, i < k ∧ (pt t i).x ≤ x ∧ x < (pt t (i + 1)).x := by
    intro k
    induction k with
    | zero => intro _ h; unfold fstX at h1; omega
    | succ k ih =>
      intro hk h
      by_cases hx : (pt t k).x ≤ x
      · exact ⟨k, by omega, hx, h⟩
      · obtain ⟨i, hi, a, b⟩ := ih (by omega) (by omega)
        exact ⟨i, by omega, a, b⟩
  have hl := v.l1
  by_cases hx : x < (pt t (t.length - 1)).x
  · obtain ⟨i, hi, a, b⟩ := key (t.length - 1) (by omega) hx
    exact ⟨i, ⟨by omega, a, fun _ => b, fun e => by omega⟩⟩
  · unfold lstX at h2
    exact ⟨t.length - 1, ⟨by omega, by omega, fun e => by omega, fun _ => by omega⟩⟩
theorem seg_in {t : List Pt} (v : VT t) {x : Int} {i : Nat} (s : Seg t x i) : fstX t ≤ x ∧ x ≤ lstX t := by
  have h1 := v.mono_le (Nat.zero_le i) s.lt
  have hl := s.lt
  refine ⟨Int.le_trans h1 s.le, ?_⟩
  unfold lstX
  by_cases e : i + 1 < t.length
  · have h2 := s.nx e
    have h3 := v.mono_le (i := i + 1) (j := t.length - 1) (by omega) (by omega)
    omega
  · have h2 := s.last (by omega)
    have : t.length - 1 = i := by omega
    rw [this]; omega
theorem seg_pt {t : List Pt} (v : VT t) {i : Nat} (h : i < t.length) : Seg t (pt t i).x i := ⟨h, Int.le_refl _, fun h2 => v.up i h2, fun _ => rfl⟩

/-! ### Lines -/
/-- The line from y to z over a piece, rounded down; rounded up. -/
def dn (a b y z x : Int) : Int := y + ((z - y) * (x - a)) / (b - a)
def upw (a b y z x : Int) : Int := y + -((-((z - y) * (x - a))) / (b - a))
def loAt (t : List Pt) (i : Nat) (x : Int) : Int := if x = (pt t i).x then (pt t i).lo else dn (pt t i).x (pt t (i + 1)).x (pt t i).lo (pt t (i + 1)).lo x
def hiAt (t : List Pt) (i : Nat) (x : Int) : Int := if x = (pt t i).x then (pt t i).hi else upw (pt t i).x (pt t (i + 1)).x (pt t i).hi (pt t (i + 1)).hi x

theorem line_num (a b y z x : Int) : y * (b - x) + z * (x - a) = (z - y) * (x - a) + y * (b - a) := by
  rw [Int.sub_mul, Int.mul_sub, Int.mul_sub, Int.mul_sub, Int.mul_sub]; omega
theorem dn_eq {a b : Int} (h : a < b) (y z x : Int) : (y * (b - x) + z * (x - a)) / (b - a) = dn a b y z x := by
  unfold dn
  rw [line_num, Int.add_mul_ediv_right _ _ (by omega : b - a ≠ 0)]; omega
theorem upw_eq {a b : Int} (h : a < b) (y z x : Int) : -((-(y * (b - x) + z * (x - a))) / (b - a)) = upw a b y z x := by
  unfold upw
  have e : -((z - y) * (x - a) + y * (b - a)) = -((z - y) * (x - a)) + (-y) * (b - a) := by rw [Int.neg_mul]; omega
  rw [line_num, e, Int.add_mul_ediv_right _ _ (by omega : b - a ≠ 0)]; omega
theorem mulB {x y : Int} {m n : Nat} (h1 : x.natAbs ≤ m) (h2 : y.natAbs ≤ n) : (x * y).natAbs ≤ m * n := by rw [Int.natAbs_mul]; exact Nat.mul_le_mul h1 h2

theorem floorT {x d : Int} (hd : 1 ≤ d) : (if Int.tmod x d < 0 then Int.tdiv x d - 1 else Int.tdiv x d) = x / d := by
  have h1 := Int.mul_tdiv_add_tmod x d
  have hlt : Int.tmod x d < d := Int.tmod_lt_of_pos x (by omega)
  have hgt : -d < Int.tmod x d := Int.lt_tmod_of_pos x (by omega)
  split
  · have := (Int.ediv_emod_unique (a := x) (b := d) (r := Int.tmod x d + d) (q := Int.tdiv x d - 1) (by omega)).2 ⟨by rw [Int.mul_sub]; omega, by omega, by omega⟩
    exact this.1.symm
  · have := (Int.ediv_emod_unique (a := x) (b := d) (r := Int.tmod x d) (q := Int.tdiv x d) (by omega)).2 ⟨by omega, by omega, by omega⟩
    exact this.1.symm
theorem tdivB {x d : Int} (h1 : -4000000000000000000 ≤ x) (h2 : x ≤ 4000000000000000000) : -4000000000000000000 ≤ Int.tdiv x d ∧ Int.tdiv x d ≤ 4000000000000000000 := by
  have h := Int.natAbs_tdiv_le_natAbs x d
  omega
theorem F85_eq (f : Nat) {x d : Int} (hd : 1 ≤ d) (h1 : -4000000000000000000 ≤ x) (h2 : x ≤ 4000000000000000000) : F85 f x d = some (x / d) := by
  have hn : nz d = some () := nzS (by omega)
  obtain ⟨b1, b2⟩ := tdivB (d := d) h1 h2
  rw [← floorT hd]
  unfold F85
  simp only [hn, Option.bind_some]
  rw [w64_id (n := Int.tdiv x d) (by omega) (by omega), w64_id (n := Int.tdiv x d - 1) (by omega) (by omega)]
  by_cases h : Int.tmod x d < 0
  · rw [decide_eq_true h, if_pos h]; rfl
  · rw [decide_eq_false h, if_neg h]; rfl
theorem F86_eq (f : Nat) {x d : Int} (hd : 1 ≤ d) (h1 : -2000000000000000000 ≤ x) (h2 : x ≤ 2000000000000000000) : F86 f x d = some (-((-x) / d)) := by
  have hle : -4000000000000000000 ≤ (-x) / d ∧ (-x) / d ≤ 4000000000000000000 := by
    constructor
    · exact Int.le_ediv_of_mul_le (by omega) (by omega)
    · exact Int.ediv_le_of_le_mul (by omega) (by omega)
  unfold F86
  rw [w64_id (n := 0 - x) (by omega) (by omega), F85_eq f hd (by omega) (by omega)]
  simp only [Option.bind_some, Int.zero_sub]
  rw [w64_id (by omega) (by omega)]

theorem F121_same (f : Nat) {p : Pt} (ok : okP p) (x : Int) : F121 f p.x p.lo p.hi p.x p.lo p.hi x = some (p.lo, p.hi) := by
  have h1 := ok.lo
  have h2 := ok.le
  have h3 := ok.hi
  unfold F121 F131
  simp only [beq_self_eq_true, Bool.and_true, cond_true, Option.bind_some]
  rw [F85_eq f (by decide) (by omega) (by omega), F86_eq f (by decide) (by omega) (by omega)]
  simp
theorem F121_eq (f : Nat) {p q : Pt} (hp : okP p) (hq : okP q) (h : p.x < q.x) {x : Int} (h1 : p.x ≤ x) (h2 : x ≤ q.x) :
    F121 f p.x p.lo p.hi q.x q.lo q.hi x = some (dn p.x q.x p.lo q.lo x, upw p.x q.x p.hi q.hi x) := by
  obtain ⟨p1, p2, p3, p4, p5⟩ := hp
  obtain ⟨q1, q2, q3, q4, q5⟩ := hq
  have hne : (p.x == q.x) = false := by simp; omega
  have b : ∀ y z : Int, -1000000000 ≤ y → y ≤ 1000000000 → -1000000000 ≤ z → z ≤ 1000000000 → w64 (w64 (y * w64 (q.x - x)) + w64 (z * w64 (x - p.x))) = y * (q.x - x) + z * (x - p.x) ∧ (y * (q.x - x) + z * (x - p.x)).natAbs ≤ 2000000000000000 := fun y z a1 a2 a3 a4 => by
    have m1 := mulB (x := y) (y := q.x - x) (m := 1000000000) (n := 1000000) (by omega) (by omega)
    have m2 := mulB (x := z) (y := x - p.x) (m := 1000000000) (n := 1000000) (by omega) (by omega)
    rw [w64_id (n := q.x - x) (by omega) (by omega), w64_id (n := x - p.x) (by omega) (by omega), w64_id (n := y * (q.x - x)) (by omega) (by omega), w64_id (n := z * (x - p.x)) (by omega) (by omega)]
    exact ⟨w64_id (by omega) (by omega), by omega⟩
  obtain ⟨e1, n1⟩ := b p.lo q.lo (by omega) (by omega) (by omega) (by omega)
  obtain ⟨e2, n2⟩ := b p.hi q.hi (by omega) (by omega) (by omega) (by omega)
  unfold F121 F131
  simp only [hne, Bool.false_and, cond_false, Option.bind_some]
  rw [e1, e2, w64_id (n := q.x - p.x) (by omega) (by omega), F85_eq f (by omega) (by omega) (by omega), F86_eq f (by omega) (by omega) (by omega), Option.bind_some, Option.bind_some, dn_eq h, upw_eq h]

theorem dn_l {a b y z : Int} : dn a b y z a = y := by unfold dn; simp
theorem upw_l {a b y z : Int} : upw a b y z a = y := by unfold upw; simp
theorem dn_r {a b y z : Int} (h : a < b) : dn a b y z b = z := by unfold dn; rw [Int.mul_ediv_cancel _ (by omega)]; omega
theorem upw_r {a b y z : Int} (h : a < b) : upw a b y z b = z := by unfold upw; rw [← Int.neg_mul, Int.mul_ediv_cancel _ (by omega)]; omega

theorem F120_eq (f : Nat) (a1 a2 a3 b1 b2 b3 x : Int) : F120 f a1 a2 a3 b1 b2 b3 x = some (decide (a1 ≤ x ∧ x ≤ b1)) := by
  unfold F120; rw [F90_eq]; rfl

/-- The loop over the pieces stops at the first one that has the place. -/
theorem F88_l1_eq (f : Nat) {t : List Pt} (v : VT t) {x : Int} {k : Nat} (hk : k + 1 < t.length) (h1 : (pt t k).x ≤ x) (h2 : x ≤ (pt t (k + 1)).x) (h0 : ∀ j, j < k → (pt t (j + 1)).x < x) :
    ∀ n i, i ≤ k → k - i < n → F88_l1 f t x (t.drop 1) n (i : Int) = some (dn (pt t k).x (pt t (k + 1)).x (pt t k).lo (pt t (k + 1)).lo x, upw (pt t k).x (pt t (k + 1)).x (pt t k).hi (pt t (k + 1)).hi x)
  | 0, i, _, hn => by omega
  | n + 1, i, hi, hn => by
    have hl := v.l2
    rw [F88_l1, decide_eq_true (by rw [List.length_drop]; omega), cond_true, getI_tail (by omega), getI_pt (by omega), Option.bind_some, Option.bind_some, F120_eq, Option.bind_some]
    rcases Nat.eq_or_lt_of_le hi with e | e
    · subst e
      rw [decide_eq_true ⟨h1, h2⟩, cond_true, F121_eq f (v.ok _ (by omega)) (v.ok _ hk) (v.up _ hk) h1 h2]; rfl
    · have := h0 i e
      rw [decide_eq_false (by omega), cond_false, succ_w (by omega)]
      exact F88_l1_eq f v hk h1 h2 h0 n (i + 1) e (by omega)

theorem F88_eq {f : Nat} (hf : 50 ≤ f) {t : List Pt} (v : VT t) {x : Int} {i : Nat} (s : Seg t x i) : F88 f t x = some (loAt t i x, hiAt t i x) := by
  have hl1 := v.l1
  have hl2 := v.l2
  unfold F88 loAt hiAt
  by_cases h1 : t.length = 1
  · have hi : i = 0 := by have := s.lt; omega
    subst hi
    have hx := s.last (by omega)
    have e0 := getI_pt (t := t) (i := 0) (by omega)
    rw [show ((0 : Nat) : Int) = 0 from rfl] at e0
    rw [h1, if_pos hx, if_pos hx]
    show ((getI t 0).bind _) = _
    rw [e0, Option.bind_some, Option.bind_some, F120_eq, Option.bind_some, decide_eq_true (by omega), cond_true, F121_same f (v.ok 0 (by omega))]; rfl
  · have hb : ((t.length : Int) == 1) = false := by simp; omega
    rw [hb, cond_false, sub_tail (by omega), Option.bind_some]
    by_cases hx : x = (pt t i).x
    · rw [if_pos hx, if_pos hx]
      by_cases hi : i = 0
      · subst hi
        have hup := v.up 0 (by omega)
        have := F88_l1_eq f v (k := 0) (x := x) (by omega) (by omega) (by omega) (fun j hj => by omega) f 0 (by omega) (by omega)
        rw [show ((0 : Nat) : Int) = 0 from rfl] at this
        rw [this, hx, dn_l, upw_l]
      · have hlt := s.lt
        have hup := v.up (i - 1) (by omega)
        have hs : i - 1 + 1 = i := by omega
        rw [hs] at hup
        have := F88_l1_eq f v (k := i - 1) (x := x) (by omega) (by omega) (by rw [hs]; omega) (fun j hj => by have := v.mono (i := j + 1) (j := i) (by omega) hlt; omega) f 0 (by omega) (by omega)
        rw [show ((0 : Nat) : Int) = 0 from rfl] at this
        rw [this, hs, hx, dn_r hup, upw_r hup]
    · rw [if_neg hx, if_neg hx]
      have hlt : i + 1 < t.length := by
        have := s.lt
        rcases Nat.eq_or_lt_of_le (show i + 1 ≤ t.length from this) with e | e
        · exact absurd (s.last e) hx
        · exact e
      have hn := s.nx hlt
      have hle := s.le
      have := F88_l1_eq f v (k := i) (x := x) hlt hle (by omega) (fun j hj => by have := v.mono_le (i := j + 1) (j := i) (by omega) s.lt; omega) f 0 (by omega) (by omega)
      rw [show ((0 : Nat) : Int) = 0 from rfl] at this
      exact this
end Go.Proofs.Ytpjmgeajajcceaa
