/-
  A table made out of other tables holds what their curves bear: the geometry. No condition.
-/
import Derived.Test.YtpjmgeajajcceaaTZ11
set_option linter.unusedSimpArgs false
set_option linter.unusedVariables false
namespace Go.Proofs.Ytpjmgeajajcceaa
open Go.Sl Go.Sx
def Brk (lo hi w n d : Int) : Prop := lo * d ≤ w * d + n ∧ w * d + n ≤ hi * d
theorem brk_lie {lo hi w n d : Int} (hd : 1 ≤ d) (h0 : 0 ≤ n) (h1 : n < d) : Brk lo hi w n d ↔ lie lo hi w n := by
  unfold Brk lie
  constructor
  · rintro ⟨a, b⟩
    have e1 : lo < w + 1 := Int.lt_of_mul_lt_mul_right (a := d) (by rw [Int.add_mul]; omega) (by omega)
    refine ⟨by omega, ?_⟩
    split
    · have : w < hi := Int.lt_of_mul_lt_mul_right (a := d) (by omega) (by omega)
      omega
    · have : w ≤ hi := Int.le_of_mul_le_mul_right (a := d) (by omega) (by omega)
      omega
  · rintro ⟨a, b⟩
    have e1 := Int.mul_le_mul_of_nonneg_right a (show 0 ≤ d by omega)
    have e2 := Int.mul_le_mul_of_nonneg_right b (show 0 ≤ d by omega)
    rw [Int.add_mul] at e2
    refine ⟨by omega, ?_⟩
    split at e2 <;> omega
def G (t : List Pt) (c : List Int) (j : Nat) (y : Int) : Int := nu c j * ((pt t (j + 1)).x - y) + nu c (j + 1) * (y - (pt t j).x)
def W (t : List Pt) (j : Nat) : Int := (pt t (j + 1)).x - (pt t j).x
theorem dn_line {a b y z x : Int} (h : a < b) : dn a b y z x * (b - a) ≤ y * (b - x) + z * (x - a) := by
  rw [← dn_eq h]
  exact Int.ediv_mul_le _ (by omega)
theorem upw_line {a b y z x : Int} (h : a < b) : y * (b - x) + z * (x - a) ≤ upw a b y z x * (b - a) := by
  rw [← upw_eq h, Int.neg_mul]
  have := Int.ediv_mul_le (-(y * (b - x) + z * (x - a))) (b := b - a) (by omega)
  omega
theorem br {t : List Pt} {c : List Int} (v : VT t) (C : Curv t c) {j : Nat} (hj : j + 1 < t.length) {y : Int} (h1 : (pt t j).x ≤ y) (h2 : y ≤ (pt t (j + 1)).x) :
    (atV t y).1 * W t j ≤ G t c j y ∧ G t c j y ≤ (atV t y).2 * W t j := by
  rw [atV_piece v hj h1 h2]
  have hl := v.up j hj
  have a1 := dn_line (y := (pt t j).lo) (z := (pt t (j + 1)).lo) (x := y) hl
  have a2 := upw_line (y := (pt t j).hi) (z := (pt t (j + 1)).hi) (x := y) hl
  have b1 := C.bd j (by omega)
  have b2 := C.bd (j + 1) hj
  have m1 := Int.mul_le_mul_of_nonneg_right b1.1 (show 0 ≤ (pt t (j + 1)).x - y by omega)
  have m2 := Int.mul_le_mul_of_nonneg_right b2.1 (show 0 ≤ y - (pt t j).x by omega)
  have m3 := Int.mul_le_mul_of_nonneg_right b1.2 (show 0 ≤ (pt t (j + 1)).x - y by omega)
  have m4 := Int.mul_le_mul_of_nonneg_right b2.2 (show 0 ≤ y - (pt t j).x by omega)
  unfold G W
  exact ⟨by simp only; omega, by simp only; omega⟩
theorem line_lo {u w x A B Hu Hw Hx D : Int} (huw : u < w) (h1 : u ≤ x) (h2 : x ≤ w) (hA : A * D ≤ Hu) (hB : B * D ≤ Hw) (hH : Hx * (w - u) = Hu * (w - x) + Hw * (x - u)) (hD : 0 ≤ D) :
    dn u w A B x * D ≤ Hx := by
  refine Int.le_of_mul_le_mul_right (a := w - u) ?_ (by omega)
  have a := dn_line (y := A) (z := B) (x := x) huw
  have a' := Int.mul_le_mul_of_nonneg_right a hD
  have m1 := Int.mul_le_mul_of_nonneg_right hA (show 0 ≤ w - x by omega)
  have m2 := Int.mul_le_mul_of_nonneg_right hB (show 0 ≤ x - u by omega)
  have e1 : dn u w A B x * D * (w - u) = dn u w A B x * (w - u) * D := Int.mul_right_comm ..
  have e2 : (A * (w - x) + B * (x - u)) * D = A * D * (w - x) + B * D * (x - u) := by
    rw [Int.add_mul, Int.mul_right_comm A, Int.mul_right_comm B]
  omega
theorem line_hi {u w x A B Hu Hw Hx D : Int} (huw : u < w) (h1 : u ≤ x) (h2 : x ≤ w) (hA : Hu ≤ A * D) (hB : Hw ≤ B * D) (hH : Hx * (w - u) = Hu * (w - x) + Hw * (x - u)) (hD : 0 ≤ D) :
    Hx ≤ upw u w A B x * D := by
  refine Int.le_of_mul_le_mul_right (a := w - u) ?_ (by omega)
  have a := upw_line (y := A) (z := B) (x := x) huw
  have a' := Int.mul_le_mul_of_nonneg_right a hD
  have m1 := Int.mul_le_mul_of_nonneg_right hA (show 0 ≤ w - x by omega)
  have m2 := Int.mul_le_mul_of_nonneg_right hB (show 0 ≤ x - u by omega)
  have e1 : upw u w A B x * D * (w - u) = upw u w A B x * (w - u) * D := Int.mul_right_comm ..
  have e2 : (A * (w - x) + B * (x - u)) * D = A * D * (w - x) + B * D * (x - u) := by
    rw [Int.add_mul, Int.mul_right_comm A, Int.mul_right_comm B]
  omega
theorem G_aff (t : List Pt) (c : List Int) (j : Nat) (u w x : Int) : G t c j x * (w - u) = G t c j u * (w - x) + G t c j w * (x - u) := by
  unfold G; grind
theorem val_G {t : List Pt} {c : List Int} (v : VT t) {j : Nat} (hj : j + 1 < t.length) {x : Int} (h : x ≠ (pt t j).x) :
    (valAt t c j x).2.2 = W t j ∧ (valAt t c j x).1 * W t j + (valAt t c j x).2.1 = G t c j x := by
  unfold valAt G W
  rw [if_neg h, line_num]
  refine ⟨rfl, ?_⟩
  unfold dn
  have := Int.mul_ediv_add_emod ((nu c (j + 1) - nu c j) * (x - (pt t j).x)) ((pt t (j + 1)).x - (pt t j).x)
  rw [Int.mul_comm] at this
  simp only
  rw [Int.add_mul]
  omega
structure ValOk (w n d : Int) : Prop where
  d1 : 1 ≤ d
  d2 : d ≤ 1000000
  n0 : 0 ≤ n
  n1 : n < d
  w0 : -1000000000 ≤ w
  w1 : w ≤ 1000000000
theorem val_ok {t : List Pt} {c : List Int} (v : VT t) (C : Curv t c) {x : Int} (h1 : fstX t ≤ x) (h2 : x ≤ lstX t) :
    ValOk (valAt t c (ix t x) x).1 (valAt t c (ix t x) x).2.1 (valAt t c (ix t x) x).2.2 ∧ Brk (atV t x).1 (atV t x).2 (valAt t c (ix t x) x).1 (valAt t c (ix t x) x).2.1 (valAt t c (ix t x) x).2.2 := by
  have g := ix_seg v h1 h2
  obtain ⟨n0, L⟩ := val_lie v C h1 h2
  have b := atV_bd v h1 h2
  have hd : 1 ≤ (valAt t c (ix t x) x).2.2 ∧ (valAt t c (ix t x) x).2.2 ≤ 1000000 ∧ (valAt t c (ix t x) x).2.1 < (valAt t c (ix t x) x).2.2 := by
    unfold valAt
    split
    · simp only; omega
    · rename_i hx
      have hn := seg_next g hx
      have up := v.up _ hn
      have o1 := v.ok _ g.lt
      have o2 := v.ok _ hn
      have := o1.x0
      have := o2.x1
      simp only
      refine ⟨by omega, by omega, Int.emod_lt_of_pos _ (by omega)⟩
  have l1 := L.1
  have l2 := L.2
  refine ⟨⟨hd.1, hd.2.1, n0, hd.2.2, by omega, by split at l2 <;> omega⟩, (brk_lie hd.1 n0 hd.2.2).2 L⟩
theorem made {g : Int → Pt} {l : List Int} (hg : ∀ y, (g y).x = y) (hr : Rise l) (v : VT (l.map g)) {x : Int} (h1 : fstX (l.map g) ≤ x) (h2 : x ≤ lstX (l.map g)) :
    (x ∈ l ∧ atV (l.map g) x = ((g x).lo, (g x).hi)) ∨ ∃ u w, u ∈ l ∧ w ∈ l ∧ u < x ∧ x < w ∧ (∀ y ∈ l, y ≤ u ∨ w ≤ y) ∧ atV (l.map g) x = (dn u w (g u).lo (g w).lo x, upw u w (g u).hi (g w).hi x) := by
  have s := ix_seg v h1 h2
  generalize ix (l.map g) x = i at s
  have hi : i < l.length := by have := s.lt; simpa using this
  have e := pt_map (g := g) hi
  by_cases hx : x = (pt (l.map g) i).x
  · left
    have ex : x = l[i] := by rw [hx, e, hg]
    refine ⟨by rw [ex]; exact List.getElem_mem hi, ?_⟩
    rw [hx, atV_pt v s.lt, e]
    simp [hg]
  · right
    have hn := seg_next s hx
    have hi1 : i + 1 < l.length := by simpa using hn
    have e1 := pt_map (g := g) hi1
    have le := s.le
    have nx := s.nx hn
    rw [e, hg] at le hx
    rw [e1, hg] at nx
    refine ⟨l[i], l[i + 1], List.getElem_mem hi, List.getElem_mem hi1, by omega, nx, fun y hy => ?_, ?_⟩
    · obtain ⟨k, hk, rfl⟩ := List.mem_iff_getElem.1 hy
      rcases Nat.lt_trichotomy k i with h | h | h
      · exact .inl (Int.le_of_lt (hr.get h hi))
      · subst h; exact .inl (Int.le_refl _)
      · rcases Nat.eq_or_lt_of_le (show i + 1 ≤ k from h) with h | h
        · subst h; exact .inr (Int.le_refl _)
        · exact .inr (Int.le_of_lt (hr.get h hk))
    · have := atV_piece v hn (x := x) (by rw [e, hg]; omega) (by rw [e1, hg]; omega)
      rw [this, e, e1, hg, hg]
theorem dom_map {g : Int → Pt} {l : List Int} (hg : ∀ y, (g y).x = y) (hr : Rise l) {a b x : Int} (m1 : a ∈ l) (m2 : b ∈ l) (h1 : a ≤ x) (h2 : x ≤ b) : fstX (l.map g) ≤ x ∧ x ≤ lstX (l.map g) := by
  obtain ⟨i, hi, rfl⟩ := List.mem_iff_getElem.1 m1
  obtain ⟨k, hk, rfl⟩ := List.mem_iff_getElem.1 m2
  unfold fstX lstX
  rw [List.length_map, pt_map (by omega), pt_map (by omega), hg, hg]
  constructor
  · rcases Nat.eq_zero_or_pos i with e | e
    · subst e; exact h1
    · have := hr.get e hi; omega
  · rcases Nat.eq_or_lt_of_le (show k ≤ l.length - 1 by omega) with e | e
    · subst e; exact h2
    · have := hr.get e (by omega); omega
theorem inside {t : List Pt} (v : VT t) {u w x : Int} (hu : u < x) (hw : x < w) (f1 : fstX t ≤ u) (f2 : w ≤ lstX t) (none : ∀ j, j < t.length → (pt t j).x ≤ u ∨ w ≤ (pt t j).x) :
    ∃ j, j + 1 < t.length ∧ ix t x = j ∧ x ≠ (pt t j).x ∧ (pt t j).x ≤ u ∧ w ≤ (pt t (j + 1)).x := by
  have s := ix_seg v (x := x) (by omega) (by omega)
  have h1 := none _ s.lt
  have le := s.le
  have hne : x ≠ (pt t (ix t x)).x := by omega
  have hn := seg_next s hne
  have h2 := none _ hn
  have nx := s.nx hn
  exact ⟨ix t x, hn, rfl, hne, by omega, by omega⟩
theorem F27_made {f : Nat} (hf : 50 ≤ f) {t : List Pt} (v : VT t) {x : Int} (h1 : fstX t ≤ x) (h2 : x ≤ lstX t) : F27 f t x = some ((atV t x).1, (atV t x).2, 0) := by
  rcases F67_cases hf t with ⟨_, h⟩ | ⟨h, _⟩
  · rw [F27_eq hf v h, if_pos ⟨h1, h2⟩]
  · exact absurd v h
/-- A table that bears, at its places, what a curve bears there, bears it between them. -/
theorem bear {t : List Pt} {c : List Int} (v : VT t) (C : Curv t c) {g : Int → Pt} {l : List Int} (hg : ∀ y, (g y).x = y) (hr : Rise l) (v' : VT (l.map g)) {x : Int} (h1 : fstX (l.map g) ≤ x) (h2 : x ≤ lstX (l.map g))
    (hin : ∀ y ∈ l, fstX t ≤ y ∧ y ≤ lstX t) (hall : ∀ u ∈ l, ∀ w ∈ l, (∀ y ∈ l, y ≤ u ∨ w ≤ y) → ∀ j, j < t.length → (pt t j).x ≤ u ∨ w ≤ (pt t j).x)
    (hlo : ∀ y ∈ l, (g y).lo ≤ (atV t y).1) (hhi : ∀ y ∈ l, (atV t y).2 ≤ (g y).hi) :
    lie (atV (l.map g) x).1 (atV (l.map g) x).2 (valAt t c (ix t x) x).1 (valAt t c (ix t x) x).2.1 := by
  rcases made hg hr v' h1 h2 with ⟨m, e⟩ | ⟨u, w, mu, mw, hu, hw, hne, e⟩
  · have L := (val_lie v C (hin x m).1 (hin x m).2).2
    have a := hlo x m
    have b := hhi x m
    rw [e]
    exact ⟨Int.le_trans a L.1, Int.le_trans L.2 b⟩
  · obtain ⟨j, hj, ej, hx, ju, jw⟩ := inside v hu hw (hin u mu).1 (hin w mw).2 (hall u mu w mw hne)
    obtain ⟨V, _⟩ := val_ok v C (x := x) (by have := hin u mu; omega) (by have := hin w mw; omega)
    rw [ej] at V ⊢
    refine (brk_lie V.d1 V.n0 V.n1).1 ?_
    obtain ⟨ed, ew⟩ := val_G (c := c) v hj hx
    have up := v.up j hj
    have hW : 0 ≤ W t j := by unfold W; omega
    have bu := br v C hj (y := u) ju (by omega)
    have bw := br v C hj (y := w) (by omega) jw
    have k1 := Int.mul_le_mul_of_nonneg_right (hlo u mu) hW
    have k2 := Int.mul_le_mul_of_nonneg_right (hlo w mw) hW
    have k3 := Int.mul_le_mul_of_nonneg_right (hhi u mu) hW
    have k4 := Int.mul_le_mul_of_nonneg_right (hhi w mw) hW
    unfold Brk
    rw [ed, ew, e]
    exact ⟨line_lo (by omega) (by omega) (by omega) (Int.le_trans k1 bu.1) (Int.le_trans k2 bw.1) (G_aff ..) hW,
      line_hi (by omega) (by omega) (by omega) (Int.le_trans bu.2 k3) (Int.le_trans bw.2 k4) (G_aff ..) hW⟩
/-- A table that bears, at its places, the sums of two tables' ranges bears the sum of their curves. -/
theorem bear2 {t s : List Pt} {c d : List Int} (v : VT t) (C : Curv t c) (vs : VT s) (D : Curv s d) {g : Int → Pt} {l : List Int} (hg : ∀ y, (g y).x = y) (hr : Rise l) (v' : VT (l.map g)) {x : Int} (h1 : fstX (l.map g) ≤ x) (h2 : x ≤ lstX (l.map g))
    (hin : ∀ y ∈ l, (fstX t ≤ y ∧ y ≤ lstX t) ∧ fstX s ≤ y ∧ y ≤ lstX s) (hall : ∀ u ∈ l, ∀ w ∈ l, (∀ y ∈ l, y ≤ u ∨ w ≤ y) → (∀ j, j < t.length → (pt t j).x ≤ u ∨ w ≤ (pt t j).x) ∧ ∀ j, j < s.length → (pt s j).x ≤ u ∨ w ≤ (pt s j).x)
    (hlo : ∀ y ∈ l, (g y).lo = (atV t y).1 + (atV s y).1) (hhi : ∀ y ∈ l, (g y).hi = (atV t y).2 + (atV s y).2) {w n : Int} (n0 : 0 ≤ n) (n1 : n < (valAt t c (ix t x) x).2.2 * (valAt s d (ix s x) x).2.2)
    (hv : w * ((valAt t c (ix t x) x).2.2 * (valAt s d (ix s x) x).2.2) + n = ((valAt t c (ix t x) x).1 * (valAt t c (ix t x) x).2.2 + (valAt t c (ix t x) x).2.1) * (valAt s d (ix s x) x).2.2 + ((valAt s d (ix s x) x).1 * (valAt s d (ix s x) x).2.2 + (valAt s d (ix s x) x).2.1) * (valAt t c (ix t x) x).2.2) :
    lie (atV (l.map g) x).1 (atV (l.map g) x).2 w n := by
  refine (brk_lie (d := (valAt t c (ix t x) x).2.2 * (valAt s d (ix s x) x).2.2) (by omega) n0 n1).1 ?_
  unfold Brk
  rw [hv]
  rcases made hg hr v' h1 h2 with ⟨m, e⟩ | ⟨a, b, mu, mw, hu, hw, hne, e⟩
  · obtain ⟨V1, B1⟩ := val_ok v C (hin x m).1.1 (hin x m).1.2
    obtain ⟨V2, B2⟩ := val_ok vs D (hin x m).2.1 (hin x m).2.2
    unfold Brk at B1 B2
    have p1 : 0 ≤ (valAt t c (ix t x) x).2.2 := by have := V1.d1; omega
    have p2 : 0 ≤ (valAt s d (ix s x) x).2.2 := by have := V2.d1; omega
    have q1 := Int.mul_le_mul_of_nonneg_right B1.1 p2
    have q2 := Int.mul_le_mul_of_nonneg_right B1.2 p2
    have q3 := Int.mul_le_mul_of_nonneg_right B2.1 p1
    have q4 := Int.mul_le_mul_of_nonneg_right B2.2 p1
    rw [e]
    simp only
    rw [hlo x m, hhi x m, Int.add_mul (atV t x).1, Int.add_mul (atV t x).2]
    rw [Int.mul_assoc] at q1 q2
    rw [Int.mul_assoc, Int.mul_comm (valAt s d (ix s x) x).2.2] at q3 q4
    constructor <;> omega
  · obtain ⟨j, hj, ej, hx, ju, jw⟩ := inside v hu hw (hin a mu).1.1 (hin b mw).1.2 (hall a mu b mw hne).1
    obtain ⟨k, hk, ek, kx, ku, kw⟩ := inside vs hu hw (hin a mu).2.1 (hin b mw).2.2 (hall a mu b mw hne).2
    rw [ej, ek]
    obtain ⟨ed, ew⟩ := val_G (c := c) v hj hx
    obtain ⟨fd, fw⟩ := val_G (c := d) vs hk kx
    rw [ed, fd, ew, fw, e]
    have up := v.up j hj
    have us := vs.up k hk
    have hW : 0 ≤ W t j := by unfold W; omega
    have hS : 0 ≤ W s k := by unfold W; omega
    have hD : 0 ≤ W t j * W s k := Int.mul_nonneg hW hS
    have bu := br v C hj (y := a) ju (by omega)
    have bw := br v C hj (y := b) (by omega) jw
    have cu := br vs D hk (y := a) ku (by omega)
    have cw := br vs D hk (y := b) (by omega) kw
    have aff : (G t c j x * W s k + G s d k x * W t j) * (b - a) = (G t c j a * W s k + G s d k a * W t j) * (b - x) + (G t c j b * W s k + G s d k b * W t j) * (x - a) := by
      have g1 := G_aff t c j a b x
      have g2 := G_aff s d k a b x
      grind
    have lo : ∀ y ∈ l, (atV t y).1 * W t j ≤ G t c j y → (atV s y).1 * W s k ≤ G s d k y → (g y).lo * (W t j * W s k) ≤ G t c j y * W s k + G s d k y * W t j := fun y hy y1 y2 => by
      have z1 := Int.mul_le_mul_of_nonneg_right y1 hS
      have z2 := Int.mul_le_mul_of_nonneg_right y2 hW
      rw [hlo y hy, Int.add_mul]
      rw [Int.mul_assoc] at z1
      rw [Int.mul_assoc, Int.mul_comm (W s k)] at z2
      omega
    have hi : ∀ y ∈ l, G t c j y ≤ (atV t y).2 * W t j → G s d k y ≤ (atV s y).2 * W s k → G t c j y * W s k + G s d k y * W t j ≤ (g y).hi * (W t j * W s k) := fun y hy y1 y2 => by
      have z1 := Int.mul_le_mul_of_nonneg_right y1 hS
      have z2 := Int.mul_le_mul_of_nonneg_right y2 hW
      rw [hhi y hy, Int.add_mul]
      rw [Int.mul_assoc (atV t y).2] at z1
      rw [Int.mul_assoc (atV s y).2, Int.mul_comm (W s k)] at z2
      omega
    exact ⟨line_lo (by omega) (by omega) (by omega) (lo a mu bu.1 cu.1) (lo b mw bw.1 cw.1) aff hD,
      line_hi (by omega) (by omega) (by omega) (hi a mu bu.2 cu.2) (hi b mw bw.2 cw.2) aff hD⟩
end Go.Proofs.Ytpjmgeajajcceaa
