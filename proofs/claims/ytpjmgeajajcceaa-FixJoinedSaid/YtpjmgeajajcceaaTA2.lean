/-
  The value of a table at a place, as a function. No condition.
-/
import Derived.Test.YtpjmgeajajcceaaTA
set_option linter.unusedSimpArgs false
set_option linter.unusedVariables false
namespace Go.Proofs.Ytpjmgeajajcceaa
open Go.Sl Go.Sx

theorem seg_next {t : List Pt} {x : Int} {i : Nat} (s : Seg t x i) (hx : x ≠ (pt t i).x) : i + 1 < t.length := by
  rcases Nat.eq_or_lt_of_le (show i + 1 ≤ t.length from s.lt) with e | e
  · exact absurd (s.last e) hx
  · exact e

/-- A line between bounds stays between them. -/
theorem dn_bd {a b y z x m M : Int} (h : a < b) (h1 : a ≤ x) (h2 : x ≤ b) (y1 : m ≤ y) (y2 : y ≤ M) (z1 : m ≤ z) (z2 : z ≤ M) : m ≤ dn a b y z x ∧ dn a b y z x ≤ M := by
  rw [← dn_eq h]
  have p1 := Int.mul_le_mul_of_nonneg_right y1 (show 0 ≤ b - x by omega)
  have p2 := Int.mul_le_mul_of_nonneg_right y2 (show 0 ≤ b - x by omega)
  have p3 := Int.mul_le_mul_of_nonneg_right z1 (show 0 ≤ x - a by omega)
  have p4 := Int.mul_le_mul_of_nonneg_right z2 (show 0 ≤ x - a by omega)
  have em : m * (b - x) + m * (x - a) = m * (b - a) := by rw [← Int.mul_add]; congr 1; omega
  have eM : M * (b - x) + M * (x - a) = M * (b - a) := by rw [← Int.mul_add]; congr 1; omega
  exact ⟨Int.le_ediv_of_mul_le (by omega) (by omega), Int.ediv_le_of_le_mul (by omega) (by omega)⟩
theorem upw_neg {a b y z x : Int} : upw a b y z x = -(dn a b (-y) (-z) x) := by
  unfold upw dn
  have : (-z - -y) * (x - a) = -((z - y) * (x - a)) := by rw [← Int.neg_mul]; congr 1; omega
  rw [this]; omega
theorem upw_bd {a b y z x m M : Int} (h : a < b) (h1 : a ≤ x) (h2 : x ≤ b) (y1 : m ≤ y) (y2 : y ≤ M) (z1 : m ≤ z) (z2 : z ≤ M) : m ≤ upw a b y z x ∧ upw a b y z x ≤ M := by
  have := dn_bd (y := -y) (z := -z) (m := -M) (M := -m) h h1 h2 (by omega) (by omega) (by omega) (by omega)
  rw [upw_neg]; omega


theorem dn_le_upw {a b y z y' z' x : Int} (h : a < b) (h1 : a ≤ x) (h2 : x ≤ b) (hy : y ≤ y') (hz : z ≤ z') : dn a b y z x ≤ upw a b y' z' x := by
  rw [← dn_eq h, ← upw_eq h]
  have p1 := Int.mul_le_mul_of_nonneg_right hy (show 0 ≤ b - x by omega)
  have p2 := Int.mul_le_mul_of_nonneg_right hz (show 0 ≤ x - a by omega)
  have e1 := Int.ediv_mul_le (y * (b - x) + z * (x - a)) (show b - a ≠ 0 by omega)
  have e2 := Int.ediv_mul_le (-(y' * (b - x) + z' * (x - a))) (show b - a ≠ 0 by omega)
  have : (y * (b - x) + z * (x - a)) / (b - a) * (b - a) ≤ -((-(y' * (b - x) + z' * (x - a))) / (b - a)) * (b - a) := by rw [Int.neg_mul]; omega
  exact Int.le_of_mul_le_mul_right this (by omega)

open Classical in
noncomputable def ix (t : List Pt) (x : Int) : Nat := if h : ∃ i, Seg t x i then Classical.choose h else 0
theorem ix_seg {t : List Pt} (v : VT t) {x : Int} (h1 : fstX t ≤ x) (h2 : x ≤ lstX t) : Seg t x (ix t x) := by
  have h := seg_ex v h1 h2
  unfold ix
  rw [dif_pos h]
  exact Classical.choose_spec h
theorem ix_eq {t : List Pt} (v : VT t) {x : Int} {i : Nat} (s : Seg t x i) : ix t x = i := by
  obtain ⟨h1, h2⟩ := seg_in v s
  exact seg_uniq v (ix_seg v h1 h2) s
/-- The range of the values at a place. -/
noncomputable def atV (t : List Pt) (x : Int) : Int × Int := (loAt t (ix t x) x, hiAt t (ix t x) x)
theorem atV_pt {t : List Pt} (v : VT t) {k : Nat} (hk : k < t.length) : atV t (pt t k).x = ((pt t k).lo, (pt t k).hi) := by
  unfold atV
  rw [ix_eq v (seg_pt v hk)]
  simp [loAt, hiAt]
theorem F88_at {f : Nat} (hf : 50 ≤ f) {t : List Pt} (v : VT t) {x : Int} (h1 : fstX t ≤ x) (h2 : x ≤ lstX t) : F88 f t x = some (atV t x) := F88_eq hf v (ix_seg v h1 h2)
theorem atV_bd {t : List Pt} (v : VT t) {x : Int} (h1 : fstX t ≤ x) (h2 : x ≤ lstX t) : -1000000000 ≤ (atV t x).1 ∧ (atV t x).1 ≤ (atV t x).2 ∧ (atV t x).2 ≤ 1000000000 := by
  have s := ix_seg v h1 h2
  unfold atV loAt hiAt
  have o1 := v.ok _ s.lt
  by_cases hx : x = (pt t (ix t x)).x
  · rw [if_pos hx, if_pos hx]
    exact ⟨o1.lo, o1.le, o1.hi⟩
  · rw [if_neg hx, if_neg hx]
    have hn := seg_next s hx
    have o2 := v.ok _ hn
    have up := v.up _ hn
    have a1 := s.le
    have a2 := s.nx hn
    have b1 := dn_bd (y := (pt t (ix t x)).lo) (z := (pt t (ix t x + 1)).lo) (m := -1000000000) (M := 1000000000) up a1 (by omega) o1.lo (by have := o1.le; have := o1.hi; omega) o2.lo (by have := o2.le; have := o2.hi; omega)
    have b2 := upw_bd (y := (pt t (ix t x)).hi) (z := (pt t (ix t x + 1)).hi) (m := -1000000000) (M := 1000000000) up a1 (by omega) (by have := o1.le; have := o1.lo; omega) o1.hi (by have := o2.le; have := o2.lo; omega) o2.hi
    exact ⟨b1.1, dn_le_upw up a1 (by omega) o1.le o2.le, b2.2⟩
theorem pt_in {t : List Pt} (v : VT t) {k : Nat} (hk : k < t.length) : fstX t ≤ (pt t k).x ∧ (pt t k).x ≤ lstX t := seg_in v (seg_pt v hk)
theorem fst_bd {t : List Pt} (v : VT t) : 0 ≤ fstX t ∧ lstX t ≤ 1000000 := ⟨(v.ok 0 (by have := v.l1; omega)).x0, (v.ok (t.length - 1) (by have := v.l1; omega)).x1⟩
theorem drop_pt {t : List Pt} {i : Nat} (h : i < t.length) : t.drop i = pt t i :: t.drop (i + 1) := by rw [List.drop_eq_getElem_cons h, pt_eq h]
theorem mem_pt {t : List Pt} {p : Pt} (h : p ∈ t) : ∃ i, i < t.length ∧ pt t i = p := by
  obtain ⟨i, hi, e⟩ := List.mem_iff_getElem.1 h
  exact ⟨i, hi, by rw [pt_eq hi, e]⟩
theorem appC_eq {α : Type} {xs ys : List α} (h : xs.length + ys.length ≤ 1000000) : appC xs ys = some (xs ++ ys) := by
  unfold appC
  rw [if_pos (by omega)]
end Go.Proofs.Ytpjmgeajajcceaa
