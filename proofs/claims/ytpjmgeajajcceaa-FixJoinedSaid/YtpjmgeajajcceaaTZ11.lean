/-
  Tables, as the law makes them: cuts, sums, hulls, multiples. No condition.
-/
import Derived.Test.YtpjmgeajajcceaaTB11
import Derived.Test.YtpjmgeajajcceaaTS
set_option linter.unusedSimpArgs false
set_option linter.unusedVariables false
namespace Go.Proofs.Ytpjmgeajajcceaa
open Go.Sl Go.Sx
/-- The whole numbers about a fraction lie within a range. -/
def lie (lo hi w n : Int) : Prop := lo ≤ w ∧ w + (if n > 0 then 1 else 0) ≤ hi
theorem F32_eq (f : Nat) {lo hi w n d : Int} (hn : 0 ≤ n) : ∃ b, F32 f lo hi w n d = some b ∧ (b = true ↔ lie lo hi w n) := by
  unfold F32 F32_j1 lie
  by_cases h1 : lo ≤ w
  · rw [decide_eq_true h1, cond_true]
    by_cases h2 : w < hi
    · rw [decide_eq_true h2]
      exact ⟨true, rfl, fun _ => ⟨h1, by split <;> omega⟩, fun _ => rfl⟩
    · rw [decide_eq_false h2, cond_false]
      by_cases h3 : w = hi
      · have : (w == hi) = true := beq_iff_eq.2 h3
        rw [this, cond_true]
        refine ⟨_, rfl, ?_⟩
        rw [beq_iff_eq]
        constructor
        · intro h; exact ⟨h1, by rw [if_neg (by omega)]; omega⟩
        · intro ⟨_, h⟩
          rcases Int.lt_or_eq_of_le hn with e | e
          · rw [if_pos e] at h; omega
          · exact e.symm
      · have : (w == hi) = false := beq_eq_false_iff_ne.2 h3
        rw [this]
        exact ⟨false, rfl, (fun h => by cases h), fun ⟨_, h⟩ => by split at h <;> omega⟩
  · rw [decide_eq_false h1]
    exact ⟨false, rfl, (fun h => by cases h), fun h => absurd h.1 h1⟩
/-- The curve's value at a place lies within the table's. -/
theorem val_lie {t : List Pt} (v : VT t) {c : List Int} (C : Curv t c) {x : Int} (h1 : fstX t ≤ x) (h2 : x ≤ lstX t) : 0 ≤ (valAt t c (ix t x) x).2.1 ∧ lie (atV t x).1 (atV t x).2 (valAt t c (ix t x) x).1 (valAt t c (ix t x) x).2.1 := by
  have g := ix_seg v h1 h2
  unfold atV loAt hiAt valAt
  by_cases hx : x = (pt t (ix t x)).x
  · rw [if_pos hx, if_pos hx, if_pos hx]
    have := C.bd _ g.lt
    refine ⟨Int.le_refl _, this.1, ?_⟩
    simp only; rw [if_neg (by omega)]; omega
  · rw [if_neg hx, if_neg hx, if_neg hx]
    have hn := seg_next g hx
    have up := v.up _ hn
    have nx := g.nx hn
    have le := g.le
    have c1 := C.bd _ g.lt
    have c2 := C.bd _ hn
    generalize ix t x = i at *
    have m0 := Int.emod_nonneg ((nu c (i + 1) - nu c i) * (x - (pt t i).x)) (b := (pt t (i + 1)).x - (pt t i).x) (by omega)
    have hc : upw (pt t i).x (pt t (i + 1)).x (nu c i) (nu c (i + 1)) x = dn (pt t i).x (pt t (i + 1)).x (nu c i) (nu c (i + 1)) x + (if ((nu c (i + 1) - nu c i) * (x - (pt t i).x)) % ((pt t (i + 1)).x - (pt t i).x) > 0 then 1 else 0) := by
      unfold upw dn
      rw [ceil_mod (by omega)]
      split <;> omega
    refine ⟨m0, dn_le up le (by omega) c1.1 c2.1, ?_⟩
    simp only
    rw [← hc]
    exact upw_le up le (by omega) c1.2 c2.2
def mid (t : List Pt) (a b : Int) (i : Nat) : List Pt := (t.drop i).filter fun p => decide (a < p.x) && decide (p.x < b)
theorem mid_end {t : List Pt} {a b : Int} : mid t a b t.length = [] := by simp [mid]
theorem mid_in {t : List Pt} {a b : Int} {i : Nat} (h : i < t.length) (h1 : a < (pt t i).x) (h2 : (pt t i).x < b) : mid t a b i = pt t i :: mid t a b (i + 1) := by
  unfold mid; rw [drop_pt h]; simp [h1, h2]
theorem mid_out {t : List Pt} {a b : Int} {i : Nat} (h : i < t.length) (h1 : ¬ (a < (pt t i).x ∧ (pt t i).x < b)) : mid t a b i = mid t a b (i + 1) := by
  unfold mid; rw [drop_pt h, List.filter_cons_of_neg]; simp; omega
theorem mid_mem {t : List Pt} {a b : Int} {i : Nat} {p : Pt} (h : p ∈ mid t a b i) : p ∈ t ∧ a < p.x ∧ p.x < b := by
  unfold mid at h
  rw [List.mem_filter] at h
  exact ⟨List.mem_of_mem_drop h.1, by simpa using h.2⟩
theorem mid_len (t : List Pt) (a b : Int) (i : Nat) : (mid t a b i).length ≤ t.length - i := by
  unfold mid
  have := List.length_filter_le (fun p : Pt => decide (a < p.x) && decide (p.x < b)) (t.drop i)
  rw [List.length_drop] at this
  exact this
theorem F65_l1_eq (f : Nat) {t : List Pt} (hl : t.length ≤ 40) (a b : Int) : ∀ n i (ys : List Int), i ≤ t.length → t.length - i < n → ys.length + (t.length - i) ≤ 1000 →
    F65_l1 f t a b n ys (i : Int) = cond (decide (b > a)) ((appC (ys ++ (mid t a b i).map (·.x)) [b]).bind fun d => F65_j4 f t d) (F65_j4 f t (ys ++ (mid t a b i).map (·.x)))
  | 0, i, _, _, hn, _ => by omega
  | n + 1, i, ys, hi, hn, hy => by
    rw [F65_l1]
    rcases Nat.eq_or_lt_of_le hi with e | e
    · subst e; rw [decide_eq_false (by omega), cond_false, mid_end]; simp
    · rw [decide_eq_true (by omega : (i : Int) < (t.length : Int)), cond_true, getI_pt e, Option.bind_some]
      unfold F65_j3 F65_j2
      by_cases h1 : a < (pt t i).x
      · by_cases h2 : (pt t i).x < b
        · rw [decide_eq_true h1, decide_eq_true h2, cond_true, cond_true, appC_eq (by simp; omega), Option.bind_some, succ_w (by omega), F65_l1_eq f hl a b n (i + 1) _ e (by omega) (by simp; omega), mid_in e h1 h2]
          simp
        · rw [decide_eq_true h1, decide_eq_false h2, cond_true, cond_false, succ_w (by omega), F65_l1_eq f hl a b n (i + 1) _ e (by omega) (by omega), mid_out e (fun h => h2 h.2)]
      · rw [decide_eq_false h1, cond_false, cond_false, succ_w (by omega), F65_l1_eq f hl a b n (i + 1) _ e (by omega) (by omega), mid_out e (fun h => h1 h.1)]
noncomputable def mkP (t : List Pt) (x : Int) : Pt := ⟨x, (atV t x).1, (atV t x).2⟩
theorem mkP_pt {t : List Pt} (v : VT t) {p : Pt} (h : p ∈ t) : mkP t p.x = p := by
  obtain ⟨i, hi, rfl⟩ := mem_pt h
  unfold mkP
  rw [atV_pt v hi]
theorem F65_l2_eq {f : Nat} (hf : 50 ≤ f) {t : List Pt} (v : VT t) {xs : List Int} (hx : ∀ x ∈ xs, fstX t ≤ x ∧ x ≤ lstX t) (hl : xs.length ≤ 1000) : ∀ n i (out : List Pt), i ≤ xs.length → xs.length - i < n → out.length + (xs.length - i) ≤ 1000 →
    F65_l2 f t xs n out (i : Int) = some (out ++ (xs.drop i).map (mkP t), 0)
  | 0, i, _, _, hn, _ => by omega
  | n + 1, i, out, hi, hn, hy => by
    rw [F65_l2]
    rcases Nat.eq_or_lt_of_le hi with e | e
    · subst e; rw [decide_eq_false (by omega), cond_false]; simp [F65_j5]
    · have hm := hx xs[i] (List.getElem_mem e)
      have hb := atV_bd v hm.1 hm.2
      rw [decide_eq_true (by omega : (i : Int) < (xs.length : Int)), cond_true, getI_of e, Option.bind_some, F88_at hf v hm.1 hm.2, Option.bind_some, decide_eq_false (by omega), cond_false, decide_eq_false (by omega)]
      unfold F65_j6
      rw [cond_false, appC_eq (by simp; omega), Option.bind_some, succ_w (by omega), F65_l2_eq hf v hx hl n (i + 1) _ e (by omega) (by simp; omega), List.drop_eq_getElem_cons e]
      simp only [List.map_cons, List.append_assoc, List.cons_append, List.nil_append]; rfl
theorem F106_eq (f : Nat) (a b c d : Int) : F106 f a b c d = some (if V a b ∧ V c d then 0 else 10) := by
  unfold F106
  simp only [F52_eq]
  by_cases h : V a b <;> by_cases h2 : V c d <;> simp [h, h2]
theorem g0 {α : Type} (a b : α) : getI [a, b] 0 = some a := rfl
theorem g1 {α : Type} (a b : α) : getI [a, b] 1 = some b := rfl
theorem k1 : w64 1 = 1 := by decide
theorem k2 : w64 2 = 2 := by decide
theorem absW {n : Int} (h1 : -1000000000000000 ≤ n) (h2 : n ≤ 1000000000000000) : (if w64 (0 - n) > n then w64 (0 - n) else n) = (n.natAbs : Int) := by
  rw [w64_id (by omega) (by omega)]
  split <;> omega
/-- floor of q*d + rest times n over d. -/
theorem floorMul {m n d : Int} (hd : 1 ≤ d) : (m / d) * n + ((m - (m / d) * d) * n) / d = (m * n) / d := by
  have e : m * n = (m - (m / d) * d) * n + (m / d * n) * d := by
    rw [Int.sub_mul, Int.mul_assoc (m / d) n d, Int.mul_comm n d, ← Int.mul_assoc]
    omega
  rw [e, Int.add_mul_ediv_right _ _ (by omega : d ≠ 0)]
  omega
def fl (m n d : Int) : Int := (m * n) / d
def ce (m n d : Int) : Int := -((-(m * n)) / d)
/-- What one step of Scale works with. -/
structure SF (m n d : Int) : Prop where
  m0 : -1000000000000000 ≤ m
  m1 : m ≤ 1000000000000000
  d1 : d ≤ 1000000000
  r0 : 0 ≤ m - m / d * d
  r1 : m - m / d * d < d
  q0 : -1000000000000000 ≤ m / d
  q1 : m / d ≤ 1000000000000000
  s0 : -1000000000000000000 ≤ (m - m / d * d) * n
  s1 : (m - m / d * d) * n ≤ 1000000000000000000
  t0 : -1000000000 ≤ ((m - m / d * d) * n) / d
  t1 : ((m - m / d * d) * n) / d ≤ 1000000000
  tn : (((m - m / d * d) * n) / d).natAbs ≤ n.natAbs
  u0 : -1000000000 ≤ -((-((m - m / d * d) * n)) / d)
  u1 : -((-((m - m / d * d) * n)) / d) ≤ 1000000000
  f : m / d * n + ((m - m / d * d) * n) / d = fl m n d
  c : m / d * n + -((-((m - m / d * d) * n)) / d) = ce m n d
  fc : fl m n d ≤ ce m n d
theorem absDiv {x n d : Int} (hd : 1 ≤ d) (h : x.natAbs ≤ d.natAbs * n.natAbs) : -(n.natAbs : Int) ≤ x / d ∧ x / d ≤ (n.natAbs : Int) := by
  have e : ((d.natAbs * n.natAbs : Nat) : Int) = (n.natAbs : Int) * d := by rw [Int.natCast_mul, Int.natAbs_of_nonneg (by omega), Int.mul_comm]
  have h' : (x.natAbs : Int) ≤ (n.natAbs : Int) * d := by rw [← e]; exact Int.ofNat_le.2 h
  constructor
  · apply Int.le_ediv_of_mul_le (by omega)
    rw [Int.neg_mul]
    omega
  · apply Int.ediv_le_of_le_mul (by omega)
    omega
theorem SF.mk' {m n d : Int} (h0 : -1000000000000000 ≤ m) (h1 : m ≤ 1000000000000000) (hn0 : -1000000000 ≤ n) (hn1 : n ≤ 1000000000) (hd : 1 ≤ d) (hd1 : d ≤ 1000000000) : SF m n d := by
  have hr : m - m / d * d = m % d := by have := Int.mul_ediv_add_emod m d; rw [Int.mul_comm] at this; omega
  have r0 : 0 ≤ m % d := Int.emod_nonneg _ (by omega)
  have r1 : m % d < d := Int.emod_lt_of_pos _ (by omega)
  have q0 : -1000000000000000 ≤ m / d := Int.le_ediv_of_mul_le (by omega) (by omega)
  have q1 : m / d ≤ 1000000000000000 := Int.ediv_le_of_le_mul (by omega) (by omega)
  have hrn : ((m % d) * n).natAbs ≤ d.natAbs * n.natAbs := by rw [Int.natAbs_mul]; exact Nat.mul_le_mul_right _ (by omega)
  have hrn' : ((m % d) * n).natAbs ≤ 1000000000 * 1000000000 := by rw [Int.natAbs_mul]; exact Nat.mul_le_mul (by omega) (by omega)
  have hb := absDiv (n := n) hd hrn
  have hb' := absDiv (x := -((m % d) * n)) (n := n) hd (by rw [Int.natAbs_neg]; exact hrn)
  have hf := floorMul (m := m) (n := n) hd
  have hc := floorMul (m := m) (n := -n) hd
  rw [hr, Int.mul_neg, Int.mul_neg, Int.mul_neg] at hc
  have hfc : (m * n) / d ≤ -((-(m * n)) / d) := by
    have := Int.add_mul_ediv_right
    have e1 := Int.mul_ediv_add_emod (m * n) d
    have e2 := Int.mul_ediv_add_emod (-(m * n)) d
    have p1 := Int.emod_nonneg (m * n) (b := d) (by omega)
    have p2 := Int.emod_nonneg (-(m * n)) (b := d) (by omega)
    have e3 : d * ((m * n) / d + (-(m * n)) / d) ≤ 0 := by rw [Int.mul_add]; omega
    have e4 : (m * n) / d + (-(m * n)) / d ≤ 0 := by
      rcases Int.lt_or_le 0 ((m * n) / d + (-(m * n)) / d) with hlt | hle
      · have := Int.mul_pos (a := d) (by omega) hlt; omega
      · exact hle
    omega
  rw [hr] at hf
  refine ⟨h0, h1, hd1, by rw [hr]; exact r0, by rw [hr]; exact r1, q0, q1, ?_, ?_, ?_, ?_, ?_, ?_, ?_, ?_, ?_, hfc⟩ <;> rw [hr]
  · omega
  · omega
  · omega
  · omega
  · omega
  · omega
  · omega
  · exact hf
  · unfold ce; omega
/-- Is it too far? -/
theorem bigQ {q n k : Int} (hk0 : 0 ≤ k) (hk : k ≤ 4000000000000000) (hn0 : -1000000000 ≤ n) (hn1 : n ≤ 1000000000) (h0 : n ≠ 0) :
    ((q.natAbs : Int) > w64 (Int.tdiv k (n.natAbs : Int))) ↔ k < (q * n).natAbs := by
  have hp : 0 < (n.natAbs : Int) := by omega
  have e1 : Int.tdiv k (n.natAbs : Int) = k / (n.natAbs : Int) := Int.tdiv_eq_ediv_of_nonneg hk0
  have hle : k / (n.natAbs : Int) ≤ k := Int.ediv_le_self _ hk0
  have hge : 0 ≤ k / (n.natAbs : Int) := Int.ediv_nonneg hk0 (by omega)
  rw [e1, w64_id (by omega) (by omega)]
  show k / (n.natAbs : Int) < (q.natAbs : Int) ↔ _
  rw [Int.ediv_lt_iff_lt_mul hp, Int.natAbs_mul, ← Int.natCast_mul]
theorem mul_zero_natAbs (q : Int) : (q * 0).natAbs = 0 := by rw [Int.mul_zero]; rfl
/-- One round of Scale's loop. -/
theorem F40_j2_eq {p n d : Int} (f : Nat) (k : Int → Int → Bool → Int → Option (Int × Int × Int)) (u v : Int) (s : Bool) (y : Int) (hd : 1 ≤ d) (hn0 : -1000000000 ≤ n) (hn1 : n ≤ 1000000000) (S : SF p n d) (hb : (p / d * n).natAbs ≤ 2000000000000000) (hd1 : d ≤ 1000000000) :
    F40_j2 f k n d u v s y p (p / d) false = k (let u0 := if s then u else fl p n d; let u1 := if fl p n d < u0 then fl p n d else u0; if ce p n d < u1 then ce p n d else u1)
      (let v0 := if s then v else fl p n d; let v1 := if fl p n d > v0 then fl p n d else v0; if ce p n d > v1 then ce p n d else v1) true (w64 (y + 1)) := by
  obtain ⟨m0, m1, dd, r0, r1, q0, q1, s0, s1, t0, t1, tn, u0, u1, hf, hc, hfc⟩ := S
  have e1 : w64 (p / d * d) = p / d * d := by
    exact w64_id (by omega) (by omega)
  have e2 : w64 (p - p / d * d) = p - p / d * d := w64_id (by omega) (by omega)
  have e3 : w64 ((p - p / d * d) * n) = (p - p / d * d) * n := w64_id (by omega) (by omega)
  have e4 : w64 (p / d * n) = p / d * n := w64_id (by omega) (by omega)
  have e5 := w64_id (n := p / d * n + ((p - p / d * d) * n) / d) (by omega) (by omega)
  have e6 := w64_id (n := p / d * n + -((-((p - p / d * d) * n)) / d)) (by omega) (by omega)
  have d1 := F85_eq f (x := (p - p / d * d) * n) hd (by omega) (by omega)
  have d2 := F86_eq f (x := (p - p / d * d) * n) hd (by omega) (by omega)
  unfold F40_j2 F40_j3 F40_j4
  rw [cond_false, e1, e2, e3, e4, d1, Option.bind_some, e5, d2, Option.bind_some, Option.bind_some, e6, hf, hc]
  cases s <;> simp
/-- The error or the range. -/
def mk3 (u v : Int) : Option (Int × Int × Int) := if V u v then some (u, v, 0) else some (0, 0, 5)
theorem mk3_not {u v x : Int} (h1 : u ≤ x) (h2 : x ≤ v) (hx : 1000000000000000 < x.natAbs) : mk3 u v = some (0, 0, 5) := by
  unfold mk3; rw [if_neg (by unfold V; omega)]
def least (lo hi n : Int) : Int := if n < 0 then hi else lo
def most (lo hi n : Int) : Int := if n < 0 then lo else hi
theorem ediv_mono {x y d : Int} (hd : 1 ≤ d) (h : x ≤ y) : x / d ≤ y / d := Int.ediv_le_ediv (by omega) h
theorem fl_mono {x y n d : Int} (hd : 1 ≤ d) (h : x * n ≤ y * n) : fl x n d ≤ fl y n d := ediv_mono hd h
theorem ce_mono {x y n d : Int} (hd : 1 ≤ d) (h : x * n ≤ y * n) : ce x n d ≤ ce y n d := by
  have := ediv_mono (x := -(y * n)) (y := -(x * n)) hd (by omega)
  unfold ce; omega
/-- The two ends' order. -/
theorem ends {lo hi n : Int} (h : lo ≤ hi) : least lo hi n * n ≤ most lo hi n * n := by
  unfold least most
  by_cases hn : n < 0
  · rw [if_pos hn, if_pos hn]; exact Int.mul_le_mul_of_nonpos_right h (by omega)
  · rw [if_neg hn, if_neg hn]; exact Int.mul_le_mul_of_nonneg_right h (by omega)
/-- Far out: what is too big for the loop lies out of the limits. -/
theorem far {m n d k : Int} (S : SF m n d) (hn : n.natAbs ≤ 1000000000) (hk : k < (m / d * n).natAbs) (hk2 : 1000000000000000 + (n.natAbs : Int) ≤ k) : 1000000000000000 < (fl m n d).natAbs := by
  have h1 := S.f
  have h2 := S.tn
  omega
theorem l1_step {lo hi n d : Int} (f m : Nat) (u v : Int) (s : Bool) (y : Int) {p : Int} (hy : getI [lo, hi] y = some p) (hy2 : y < 2) (h0 : -1000000000000000 ≤ p) (h1 : p ≤ 1000000000000000) (hn0 : -1000000000 ≤ n) (hn1 : n ≤ 1000000000) (hd : 1 ≤ d) (hd1 : d ≤ 1000000000) :
    F40_l1 f lo hi n d (m + 1) u v s y = if 2000000000000000 < (p / d * n).natAbs then some (0, 0, 5) else F40_l1 f lo hi n d m (let u0 := if s then u else fl p n d; let u1 := if fl p n d < u0 then fl p n d else u0; if ce p n d < u1 then ce p n d else u1)
      (let v0 := if s then v else fl p n d; let v1 := if fl p n d > v0 then fl p n d else v0; if ce p n d > v1 then ce p n d else v1) true (w64 (y + 1)) := by
  have S := SF.mk' h0 h1 hn0 hn1 hd hd1
  have hq : F85 f p d = some (p / d) := F85_eq f hd (by omega) (by omega)
  have q0 := S.q0
  have q1 := S.q1
  rw [F40_l1, decide_eq_true hy2, cond_true, hy, Option.bind_some, hq, Option.bind_some]
  by_cases hb : 2000000000000000 < (p / d * n).natAbs
  · rw [if_pos hb]
    have h0 : n ≠ 0 := by intro e; rw [e, mul_zero_natAbs] at hb; omega
    have e1 : (n != 0) = true := by simp [h0]
    have e2 : nz (n.natAbs : Int) = some () := by unfold nz; rw [if_pos (by omega)]
    rw [e1, cond_true, absW (by omega) (by omega), absW q0 q1, e2, Option.bind_some, decide_eq_true ((bigQ (by omega) (by omega) hn0 hn1 h0).2 (by omega))]
    unfold F40_j2; rfl
  · rw [if_neg hb]
    refine Eq.trans ?_ (F40_j2_eq f (F40_l1 f lo hi n d m) u v s y hd hn0 hn1 S (by omega) hd1)
    by_cases h0 : n = 0
    · have e1 : (n != 0) = false := by simp [h0]
      rw [e1, cond_false]
    · have e1 : (n != 0) = true := by simp [h0]
      have e2 : nz (n.natAbs : Int) = some () := by unfold nz; rw [if_pos (by omega)]
      rw [e1, cond_true, absW (by omega) (by omega), absW q0 q1, e2, Option.bind_some, decide_eq_false (fun h => hb (by have := (bigQ (by omega) (by omega) hn0 hn1 h0).1 h; omega))]
theorem l1_end {lo hi n d : Int} (f m : Nat) (u v : Int) (s : Bool) : F40_l1 f lo hi n d (m + 1) u v s 2 = mk3 u v := by
  have f3 : decide ((2 : Int) < 2) = false := rfl
  rw [F40_l1, f3, cond_false, F52_eq]
  unfold mk3 F40_j5
  by_cases h : V u v
  · rw [if_pos h, if_pos h]; rfl
  · rw [if_neg h, if_neg h]; rfl
theorem pick4 {a b c d : Int} (hab : a ≤ b) (hcd : c ≤ d) : (if d < (if c < (if b < (if a < a then a else a) then b else (if a < a then a else a)) then c else (if b < (if a < a then a else a) then b else (if a < a then a else a))) then d else (if c < (if b < (if a < a then a else a) then b else (if a < a then a else a)) then c else (if b < (if a < a then a else a) then b else (if a < a then a else a)))) = (if c < a then c else a) := by
  have e1 : (if a < a then a else a) = a := by split <;> rfl
  have e2 : (if b < a then b else a) = a := by split <;> omega
  rw [e1, e2]
  split <;> split <;> omega
theorem pick4' {a b c d : Int} (hab : a ≤ b) (hcd : c ≤ d) : (if d > (if c > (if b > (if a > a then a else a) then b else (if a > a then a else a)) then c else (if b > (if a > a then a else a) then b else (if a > a then a else a))) then d else (if c > (if b > (if a > a then a else a) then b else (if a > a then a else a)) then c else (if b > (if a > a then a else a) then b else (if a > a then a else a)))) = (if d > b then d else b) := by
  have e1 : (if a > a then a else a) = a := by split <;> rfl
  have e2 : (if b > a then b else a) = b := by split <;> omega
  rw [e1, e2]
  split <;> split <;> (try split) <;> omega
theorem F40_l1_eq {lo hi n d : Int} (h : V lo hi) (hn0 : -1000000000 ≤ n) (hn1 : n ≤ 1000000000) (hd : 1 ≤ d) (hd1 : d ≤ 1000000000) (f m : Nat) :
    F40_l1 f lo hi n d (m + 3) 0 0 false 0 = mk3 (fl (least lo hi n) n d) (ce (most lo hi n) n d) := by
  have hv := h
  unfold V at hv
  have S1 := SF.mk' (m := lo) (n := n) (d := d) (by omega) (by omega) hn0 hn1 hd hd1
  have S2 := SF.mk' (m := hi) (n := n) (d := d) (by omega) (by omega) hn0 hn1 hd hd1
  have he := ends (n := n) hv.2.1
  have m1 := fl_mono hd he
  have m2 := ce_mono hd he
  have k0 : w64 (0 + 1) = 1 := by decide
  have k3 : w64 (1 + 1) = 2 := by decide
  have a1 : fl (least lo hi n) n d ≤ fl lo n d ∧ fl (least lo hi n) n d ≤ fl hi n d ∧ ce lo n d ≤ ce (most lo hi n) n d ∧ ce hi n d ≤ ce (most lo hi n) n d ∧ (fl (least lo hi n) n d = fl lo n d ∨ fl (least lo hi n) n d = fl hi n d) ∧ (ce (most lo hi n) n d = ce lo n d ∨ ce (most lo hi n) n d = ce hi n d) := by
    unfold least most at *
    by_cases hn : n < 0
    · simp only [if_pos hn] at *
      exact ⟨m1, Int.le_refl _, Int.le_refl _, m2, .inr trivial, .inl trivial⟩
    · simp only [if_neg hn] at *
      exact ⟨Int.le_refl _, m1, m2, Int.le_refl _, .inl trivial, .inr trivial⟩
  obtain ⟨b1, b2, b3, b4, b5, b6⟩ := a1
  rw [l1_step f (m + 2) 0 0 false 0 (p := lo) rfl (by decide) (by omega) (by omega) hn0 hn1 hd hd1]
  by_cases c1 : 2000000000000000 < (lo / d * n).natAbs
  · rw [if_pos c1, mk3_not b1 (Int.le_trans S1.fc b3) (far S1 (by omega) (k := 2000000000000000) (by omega) (by omega))]
  · rw [if_neg c1, k0, l1_step f (m + 1) _ _ true 1 (p := hi) rfl (by decide) (by omega) (by omega) hn0 hn1 hd hd1]
    by_cases c2 : 2000000000000000 < (hi / d * n).natAbs
    · rw [if_pos c2, mk3_not b2 (Int.le_trans S2.fc b4) (far S2 (by omega) (k := 2000000000000000) (by omega) (by omega))]
    · rw [if_neg c2, k3, l1_end]
      simp only [Bool.false_eq_true, if_false, if_true]
      have g1 := S1.fc
      have g2 := S2.fc
      rw [pick4 g1 g2, pick4' g1 g2]
      congr 1
      · split <;> omega
      · split <;> omega
/-- Is a place in both domains? -/
def inB (t u : List Pt) (x : Int) : Prop := (fstX t ≤ x ∧ x ≤ lstX t) ∧ (fstX u ≤ x ∧ x ≤ lstX u)
instance (t u : List Pt) (x : Int) : Decidable (inB t u x) := by unfold inB; infer_instance
theorem getI2_0 {α : Type} (a b : α) : getI [a, b] 0 = some a := rfl
theorem getI2_1 {α : Type} (a b : α) : getI [a, b] 1 = some b := rfl
theorem F125_eq {f : Nat} (hf : 50 ≤ f) {t u : List Pt} (h1 : t.length ≤ 40) (h2 : u.length ≤ 40) : F125 f [t, u] = some (t ++ u) := by
  obtain ⟨n, rfl⟩ : ∃ n, f = n + 3 := ⟨f - 3, by omega⟩
  have k0 : w64 (0 + (t.length : Int)) = (t.length : Int) := by rw [w64_id (by omega) (by omega)]; omega
  have k1 : w64 ((t.length : Int) + (u.length : Int)) = (t.length : Int) + (u.length : Int) := w64_id (by omega) (by omega)
  have f1 : decide ((0 : Int) < ([t, u].length : Int)) = true := rfl
  have f2 : decide ((1 : Int) < ([t, u].length : Int)) = true := rfl
  have f3 : decide ((2 : Int) < ([t, u].length : Int)) = false := rfl
  have a0 : w64 (0 + 1) = 1 := by decide
  have a1 : w64 (1 + 1) = 2 := by decide
  have hg : growC ((t.length : Int) + (u.length : Int)) = some () := by unfold growC; rw [if_pos (by omega)]
  unfold F125
  rw [F125_l1, f1, cond_true, getI2_0, Option.bind_some, k0, decide_eq_false (by omega), cond_false, a0, F125_l1, f2, cond_true, getI2_1, Option.bind_some, k1, decide_eq_false (by omega), cond_false, a1, F125_l1, f3, cond_false, hg, Option.bind_some]
  rw [F125_l2, f1, cond_true, getI2_0, Option.bind_some, appC_eq (by simp; omega), Option.bind_some, a0, F125_l2, f2, cond_true, getI2_1, Option.bind_some, appC_eq (by simp; omega), Option.bind_some, a1, F125_l2, f3, cond_false, List.nil_append]
theorem lenC_eq {α : Type} {xs : List α} (h : xs.length ≤ 1000000) : lenC xs = some () := by unfold lenC; rw [if_pos (by omega)]
theorem F43_eq' (f : Nat) (a b n : Int) (h : V a b) : F43 f a b n = some (decide (a ≤ n ∧ n ≤ b)) := by
  unfold F43 F43_j1
  rw [F52_eq, Option.bind_some, if_pos h]
  show (F90 f n a b).bind _ = _
  rw [F90_eq]; rfl
def gd (p : Pt) : Prop := -1000000000 ≤ p.lo ∧ p.hi ≤ 1000000000
theorem pt_map {g : Int → Pt} {l : List Int} {i : Nat} (h : i < l.length) : pt (l.map g) i = g l[i] := by simp [pt, h]
theorem VT_map {g : Int → Pt} {l : List Int} (hg : ∀ x, (g x).x = x) (hr : Rise l) (h1 : 1 ≤ l.length) (h2 : l.length ≤ 40) (hx : ∀ x ∈ l, 0 ≤ x ∧ x ≤ 1000000) (hle : ∀ x ∈ l, (g x).lo ≤ (g x).hi) :
    VT (l.map g) ↔ ∀ j (h : j < l.length), gd (g l[j]) := by
  constructor
  · intro v j h
    have := v.ok j (by simpa using h)
    rw [pt_map h] at this
    exact ⟨this.lo, this.hi⟩
  · intro h
    refine ⟨by simpa using h1, by simpa using h2, fun i hi => ?_, fun i hi => ?_⟩
    · have hi' : i < l.length := by simpa using hi
      rw [pt_map hi']
      have hm := List.getElem_mem hi'
      have a := hx _ hm
      have b := h i hi'
      have c := hle _ hm
      have d := hg l[i]
      exact ⟨by omega, by omega, b.1, c, b.2⟩
    · have hi' : i + 1 < l.length := by simpa using hi
      rw [pt_map hi', pt_map (by omega), hg, hg]
      exact hr.get (by omega) hi'
noncomputable def mk2 (op : Int × Int → Int × Int → Int × Int) (t u : List Pt) (x : Int) : Pt := ⟨x, (op (atV t x) (atV u x)).1, (op (atV t x) (atV u x)).2⟩
def opS (a b : Int × Int) : Int × Int := (a.1 + b.1, a.2 + b.2)
def opH (a b : Int × Int) : Int × Int := (if b.1 < a.1 then b.1 else a.1, if b.2 > a.2 then b.2 else a.2)
/-- What the walk over places makes: a table, or the error of its numbers. -/
theorem F111_op {f : Nat} {a b : Int × Int} (ha : -1000000000 ≤ a.1 ∧ a.1 ≤ a.2 ∧ a.2 ≤ 1000000000) (hb : -1000000000 ≤ b.1 ∧ b.1 ≤ b.2 ∧ b.2 ≤ 1000000000) : F111 f a.1 a.2 b.1 b.2 = some (opS a b) := by
  unfold F111 opS
  rw [w64_id (n := a.1 + b.1) (by omega) (by omega), w64_id (n := a.2 + b.2) (by omega) (by omega)]
theorem F114_op {f : Nat} {a b : Int × Int} : F114 f a.1 a.2 b.1 b.2 = some (opH a b) := by
  unfold F114 opH
  by_cases h : a.1 = b.1 ∧ a.2 = b.2
  · have : ((a.1 == b.1) && ((a.2 == b.2) && true)) = true := by simp [h]
    rw [this, cond_true, h.1, h.2]; simp
  · have : ((a.1 == b.1) && ((a.2 == b.2) && true)) = false := by
      simp only [Bool.and_true, Bool.and_eq_false_iff, beq_eq_false_iff_ne, ne_eq]
      by_cases h1 : a.1 = b.1
      · exact .inr fun h2 => h ⟨h1, h2⟩
      · exact .inl h1
    rw [this]; rfl
theorem F57_l1_eq (f : Nat) {t u : List Pt} {lo hi : Int} (hV : V lo hi) {r : List Pt} (hr : r.length ≤ 100) : ∀ n i (ys : List Int), i ≤ r.length → r.length - i < n → ys.length ≤ i →
    ∃ ys', F57_l1 f t u lo hi r n ys (i : Int) = ((lenC ys').bind fun _ => ((lenC (sortL ys')).bind fun _ => (cond (decide (((compL (sortL ys')).length : Int) > (40 : Int))) (F57_j1 ([]) 2) (F57_l2 f t u ys' f ([]) 0)))) ∧
      (∀ y, y ∈ ys' ↔ y ∈ ys ∨ ∃ j, i ≤ j ∧ j < r.length ∧ (pt r j).x = y ∧ lo ≤ y ∧ y ≤ hi) ∧ ys'.length ≤ r.length
  | 0, i, _, _, hn, _ => by omega
  | n + 1, i, ys, hi', hn, hy => by
    rw [F57_l1]
    rcases Nat.eq_or_lt_of_le hi' with e | e
    · subst e
      rw [decide_eq_false (by omega), cond_false]
      exact ⟨ys, rfl, fun y => ⟨.inl, fun h => h.elim id fun ⟨j, h1, h2, _⟩ => by omega⟩, hy⟩
    · rw [decide_eq_true (by omega), cond_true, getI_pt e, Option.bind_some, F43_eq' f lo hi _ hV, Option.bind_some]
      unfold F57_j3
      rw [succ_w (by omega)]
      by_cases h : lo ≤ (pt r i).x ∧ (pt r i).x ≤ hi
      · rw [decide_eq_true h, cond_true, appC_eq (by simp; omega), Option.bind_some]
        obtain ⟨ys', h1, h2, h3⟩ := F57_l1_eq f (t := t) (u := u) hV hr n (i + 1) (ys ++ [(pt r i).x]) e (by omega) (by simp; omega)
        refine ⟨ys', h1, fun y => (h2 y).trans ⟨fun hh => ?_, fun hh => ?_⟩, h3⟩
        · rcases hh with hh | ⟨j, a, b⟩
          · rcases List.mem_append.1 hh with hh | hh
            · exact .inl hh
            · simp only [List.mem_singleton] at hh; subst hh; exact .inr ⟨i, Nat.le_refl _, e, rfl, h⟩
          · exact .inr ⟨j, by omega, b⟩
        · rcases hh with hh | ⟨j, a, b, c, g⟩
          · exact .inl (List.mem_append_left _ hh)
          · rcases Nat.eq_or_lt_of_le a with e' | e'
            · subst e'; subst c; exact .inl (List.mem_append_right _ (List.mem_singleton.2 rfl))
            · exact .inr ⟨j, e', b, c, g⟩
      · rw [decide_eq_false h, cond_false]
        obtain ⟨ys', h1, h2, h3⟩ := F57_l1_eq f (t := t) (u := u) hV hr n (i + 1) ys e (by omega) (by omega)
        refine ⟨ys', h1, fun y => (h2 y).trans ⟨fun hh => ?_, fun hh => ?_⟩, h3⟩
        · exact hh.imp id fun ⟨j, a, b⟩ => ⟨j, by omega, b⟩
        · refine hh.imp id fun ⟨j, a, b, c, g⟩ => ⟨j, ?_, b, c, g⟩
          rcases Nat.eq_or_lt_of_le a with e' | e'
          · subst e'; subst c; exact absurd g h
          · exact e'
theorem F57_l2_eq {f : Nat} (hf : 50 ≤ f) {t u : List Pt} (v : VT t) (v' : VT u) {ys : List Int} {l : List Int} (el : compL (sortL ys) = l) (hl : l.length ≤ 1000) (hx : ∀ x ∈ l, inB t u x) : ∀ n i (out : List Pt), i ≤ l.length → l.length - i < n → out.length ≤ i →
    ((∀ j (h : j < l.length), i ≤ j → gd (mk2 opS t u l[j])) ∧ F57_l2 f t u ys n out (i : Int) = some (out ++ (l.drop i).map (mk2 opS t u), 0)) ∨ ((¬ ∀ j (h : j < l.length), i ≤ j → gd (mk2 opS t u l[j])) ∧ F57_l2 f t u ys n out (i : Int) = some ([], 5))
  | 0, i, _, _, hn, _ => by omega
  | n + 1, i, out, hi, hn, ho => by
    rw [F57_l2, el]
    rcases Nat.eq_or_lt_of_le hi with e | e
    · subst e
      rw [decide_eq_false (by omega), cond_false]
      exact .inl ⟨fun j h1 h2 => by omega, by simp [F57_j4, F57_j1]⟩
    · have hm := hx l[i] (List.getElem_mem e)
      have b1 := atV_bd v hm.1.1 hm.1.2
      have b2 := atV_bd v' hm.2.1 hm.2.2
      rw [decide_eq_true (by omega), cond_true, getI_of e, Option.bind_some, F88_at hf v hm.1.1 hm.1.2, Option.bind_some, F88_at hf v' hm.2.1 hm.2.2, Option.bind_some, F111_op b1 b2, Option.bind_some]
      unfold F57_j5 F57_j4 F57_j1
      by_cases h1 : (opS (atV t l[i]) (atV u l[i])).1 < -1000000000
      · rw [decide_eq_true h1]
        exact .inr ⟨fun h => by have := (h i e (Nat.le_refl _)).1; simp only [mk2] at this; omega, rfl⟩
      · rw [decide_eq_false h1, cond_false]
        by_cases h2 : (opS (atV t l[i]) (atV u l[i])).2 > 1000000000
        · rw [decide_eq_true h2]
          exact .inr ⟨fun h => by have := (h i e (Nat.le_refl _)).2; simp only [mk2] at this; omega, rfl⟩
        · rw [decide_eq_false h2, cond_false, appC_eq (by simp; omega), Option.bind_some, succ_w (by omega)]
          rcases F57_l2_eq hf v v' el hl hx n (i + 1) (out ++ [⟨l[i], (opS (atV t l[i]) (atV u l[i])).1, (opS (atV t l[i]) (atV u l[i])).2⟩]) e (by omega) (by simp; omega) with ⟨a, b⟩ | ⟨a, b⟩
          · refine .inl ⟨fun j hj hij => ?_, ?_⟩
            · rcases Nat.eq_or_lt_of_le hij with e' | e'
              · subst e'; exact ⟨by simp only [mk2]; omega, by simp only [mk2]; omega⟩
              · exact a j hj e'
            · rw [b, List.drop_eq_getElem_cons e]
              simp only [List.map_cons, List.append_assoc, List.cons_append, List.nil_append]; rfl
          · exact .inr ⟨fun h => a fun j hj hij => h j hj (by omega), b⟩
theorem F59_l1_eq (f : Nat) {t u : List Pt} {lo hi : Int} (hV : V lo hi) {r : List Pt} (hr : r.length ≤ 100) : ∀ n i (ys : List Int), i ≤ r.length → r.length - i < n → ys.length ≤ i →
    ∃ ys', F59_l1 f t u lo hi r n ys (i : Int) = ((lenC ys').bind fun _ => ((lenC (sortL ys')).bind fun _ => (cond (decide (((compL (sortL ys')).length : Int) > (40 : Int))) (F59_j1 ([]) 2) (F59_l2 f t u ys' f ([]) 0)))) ∧
      (∀ y, y ∈ ys' ↔ y ∈ ys ∨ ∃ j, i ≤ j ∧ j < r.length ∧ (pt r j).x = y ∧ lo ≤ y ∧ y ≤ hi) ∧ ys'.length ≤ r.length
  | 0, i, _, _, hn, _ => by omega
  | n + 1, i, ys, hi', hn, hy => by
    rw [F59_l1]
    rcases Nat.eq_or_lt_of_le hi' with e | e
    · subst e
      rw [decide_eq_false (by omega), cond_false]
      exact ⟨ys, rfl, fun y => ⟨.inl, fun h => h.elim id fun ⟨j, h1, h2, _⟩ => by omega⟩, hy⟩
    · rw [decide_eq_true (by omega), cond_true, getI_pt e, Option.bind_some, F43_eq' f lo hi _ hV, Option.bind_some]
      unfold F59_j3
      rw [succ_w (by omega)]
      by_cases h : lo ≤ (pt r i).x ∧ (pt r i).x ≤ hi
      · rw [decide_eq_true h, cond_true, appC_eq (by simp; omega), Option.bind_some]
        obtain ⟨ys', h1, h2, h3⟩ := F59_l1_eq f (t := t) (u := u) hV hr n (i + 1) (ys ++ [(pt r i).x]) e (by omega) (by simp; omega)
        refine ⟨ys', h1, fun y => (h2 y).trans ⟨fun hh => ?_, fun hh => ?_⟩, h3⟩
        · rcases hh with hh | ⟨j, a, b⟩
          · rcases List.mem_append.1 hh with hh | hh
            · exact .inl hh
            · simp only [List.mem_singleton] at hh; subst hh; exact .inr ⟨i, Nat.le_refl _, e, rfl, h⟩
          · exact .inr ⟨j, by omega, b⟩
        · rcases hh with hh | ⟨j, a, b, c, g⟩
          · exact .inl (List.mem_append_left _ hh)
          · rcases Nat.eq_or_lt_of_le a with e' | e'
            · subst e'; subst c; exact .inl (List.mem_append_right _ (List.mem_singleton.2 rfl))
            · exact .inr ⟨j, e', b, c, g⟩
      · rw [decide_eq_false h, cond_false]
        obtain ⟨ys', h1, h2, h3⟩ := F59_l1_eq f (t := t) (u := u) hV hr n (i + 1) ys e (by omega) (by omega)
        refine ⟨ys', h1, fun y => (h2 y).trans ⟨fun hh => ?_, fun hh => ?_⟩, h3⟩
        · exact hh.imp id fun ⟨j, a, b⟩ => ⟨j, by omega, b⟩
        · refine hh.imp id fun ⟨j, a, b, c, g⟩ => ⟨j, ?_, b, c, g⟩
          rcases Nat.eq_or_lt_of_le a with e' | e'
          · subst e'; subst c; exact absurd g h
          · exact e'
theorem F59_l2_eq {f : Nat} (hf : 50 ≤ f) {t u : List Pt} (v : VT t) (v' : VT u) {ys : List Int} {l : List Int} (el : compL (sortL ys) = l) (hl : l.length ≤ 1000) (hx : ∀ x ∈ l, inB t u x) : ∀ n i (out : List Pt), i ≤ l.length → l.length - i < n → out.length ≤ i →
    ((∀ j (h : j < l.length), i ≤ j → gd (mk2 opH t u l[j])) ∧ F59_l2 f t u ys n out (i : Int) = some (out ++ (l.drop i).map (mk2 opH t u), 0)) ∨ ((¬ ∀ j (h : j < l.length), i ≤ j → gd (mk2 opH t u l[j])) ∧ F59_l2 f t u ys n out (i : Int) = some ([], 5))
  | 0, i, _, _, hn, _ => by omega
  | n + 1, i, out, hi, hn, ho => by
    rw [F59_l2, el]
    rcases Nat.eq_or_lt_of_le hi with e | e
    · subst e
      rw [decide_eq_false (by omega), cond_false]
      exact .inl ⟨fun j h1 h2 => by omega, by simp [F59_j4, F59_j1]⟩
    · have hm := hx l[i] (List.getElem_mem e)
      have b1 := atV_bd v hm.1.1 hm.1.2
      have b2 := atV_bd v' hm.2.1 hm.2.2
      rw [decide_eq_true (by omega), cond_true, getI_of e, Option.bind_some, F88_at hf v hm.1.1 hm.1.2, Option.bind_some, F88_at hf v' hm.2.1 hm.2.2, Option.bind_some, F114_op, Option.bind_some]
      unfold F59_j5 F59_j4 F59_j1
      by_cases h1 : (opH (atV t l[i]) (atV u l[i])).1 < -1000000000
      · rw [decide_eq_true h1]
        exact .inr ⟨fun h => by have := (h i e (Nat.le_refl _)).1; simp only [mk2] at this; omega, rfl⟩
      · rw [decide_eq_false h1, cond_false]
        by_cases h2 : (opH (atV t l[i]) (atV u l[i])).2 > 1000000000
        · rw [decide_eq_true h2]
          exact .inr ⟨fun h => by have := (h i e (Nat.le_refl _)).2; simp only [mk2] at this; omega, rfl⟩
        · rw [decide_eq_false h2, cond_false, appC_eq (by simp; omega), Option.bind_some, succ_w (by omega)]
          rcases F59_l2_eq hf v v' el hl hx n (i + 1) (out ++ [⟨l[i], (opH (atV t l[i]) (atV u l[i])).1, (opH (atV t l[i]) (atV u l[i])).2⟩]) e (by omega) (by simp; omega) with ⟨a, b⟩ | ⟨a, b⟩
          · refine .inl ⟨fun j hj hij => ?_, ?_⟩
            · rcases Nat.eq_or_lt_of_le hij with e' | e'
              · subst e'; exact ⟨by simp only [mk2]; omega, by simp only [mk2]; omega⟩
              · exact a j hj e'
            · rw [b, List.drop_eq_getElem_cons e]
              simp only [List.map_cons, List.append_assoc, List.cons_append, List.nil_append]; rfl
          · exact .inr ⟨fun h => a fun j hj hij => h j hj (by omega), b⟩
theorem pt_app1 {t u : List Pt} {j : Nat} (h : j < t.length) : pt (t ++ u) j = pt t j := by
  simp [pt, List.getD, List.getElem?_append_left h]
theorem pt_app2 {t u : List Pt} {j : Nat} : pt (t ++ u) (t.length + j) = pt u j := by
  simp [pt, List.getD, List.getElem?_append_right]
theorem dom_le {t : List Pt} (v : VT t) : fstX t ≤ lstX t := v.mono_le (Nat.zero_le _) (by have := v.l1; omega)
theorem dom_V {t : List Pt} (v : VT t) : V (fstX t) (lstX t) := by
  have h1 := fst_bd v
  have h2 := dom_le v
  unfold V; omega
/-- The common domain. -/
def dLo (t u : List Pt) : Int := if fstX u > fstX t then fstX u else fstX t
def dHi (t u : List Pt) : Int := if lstX u < lstX t then lstX u else lstX t
theorem inB_iff {t u : List Pt} {x : Int} : inB t u x ↔ dLo t u ≤ x ∧ x ≤ dHi t u := by
  unfold inB dLo dHi
  constructor
  · rintro ⟨⟨a, b⟩, c, d⟩
    exact ⟨by split <;> omega, by split <;> omega⟩
  · rintro ⟨a, b⟩
    refine ⟨⟨?_, ?_⟩, ?_, ?_⟩
    · revert a; split <;> omega
    · revert b; split <;> omega
    · revert a; split <;> omega
    · revert b; split <;> omega
theorem F42_eq (f : Nat) {t u : List Pt} (v : VT t) (v' : VT u) : F42 f (fstX t) (lstX t) (fstX u) (lstX u) = some (if dLo t u > dHi t u then (0, 0, 3) else (dLo t u, dHi t u, 0)) := by
  unfold F42
  rw [F106_eq, if_pos ⟨dom_V v, dom_V v'⟩, Option.bind_some, cond_z]
  show cond (decide (dLo t u > dHi t u)) _ _ = _
  by_cases h : dLo t u > dHi t u
  · rw [decide_eq_true h, if_pos h]; rfl
  · rw [decide_eq_false h, if_neg h]; rfl
theorem dV {t u : List Pt} (v : VT t) (v' : VT u) (h : ¬ dLo t u > dHi t u) : V (dLo t u) (dHi t u) := by
  have h1 := fst_bd v
  have h2 := fst_bd v'
  have h3 : -1000000000000000 ≤ dLo t u := by unfold dLo; split <;> omega
  have h4 : dHi t u ≤ 1000000000000000 := by unfold dHi; split <;> omega
  unfold V; omega
def okA (n d : Int) : Prop := -1000000000 ≤ n ∧ n ≤ 1000000000 ∧ 1 ≤ d ∧ d ≤ 1000000000
instance (n d : Int) : Decidable (okA n d) := by unfold okA; infer_instance
def sc (lo hi n d : Int) : Int × Int × Int := if V (fl (least lo hi n) n d) (ce (most lo hi n) n d) then (fl (least lo hi n) n d, ce (most lo hi n) n d, 0) else (0, 0, 5)
theorem mk3_some (u v : Int) : mk3 u v = some (if V u v then (u, v, 0) else (0, 0, 5)) := by unfold mk3; split <;> rfl
theorem F40_gen {f : Nat} (hf : 3 ≤ f) {lo hi n d : Int} (h : V lo hi) : F40 f lo hi n d = some (if okA n d then sc lo hi n d else (0, 0, 1)) := by
  obtain ⟨m, rfl⟩ : ∃ m, f = m + 3 := ⟨f - 3, by omega⟩
  unfold F40
  rw [F52_eq, if_pos h, Option.bind_some, F90_eq, cond_z, Option.bind_some, F90_eq, Option.bind_some]
  unfold F40_j1
  by_cases h1 : -1000000000 ≤ n ∧ n ≤ 1000000000
  · rw [decide_eq_true h1]
    by_cases h2 : 1 ≤ d ∧ d ≤ 1000000000
    · rw [decide_eq_true h2, if_pos ⟨h1.1, h1.2, h2.1, h2.2⟩, Bool.not_true, cond_false, cond_false, F40_l1_eq h h1.1 h1.2 h2.1 h2.2, mk3_some]; rfl
    · rw [decide_eq_false h2, if_neg (fun h => h2 ⟨h.2.2.1, h.2.2.2⟩)]; rfl
  · rw [decide_eq_false h1, if_neg (fun h => h1 ⟨h.1, h.2.1⟩)]; rfl
/-- A point, scaled. -/
def scP (n d : Int) (p : Pt) : Pt := ⟨p.x, (sc p.lo p.hi n d).1, (sc p.lo p.hi n d).2.1⟩
def gdS (n d : Int) (p : Pt) : Prop := (sc p.lo p.hi n d).2.2 = 0 ∧ gd (scP n d p)
theorem ok_V {p : Pt} (h : okP p) : V p.lo p.hi := by
  obtain ⟨_, _, h1, h2, h3⟩ := h
  unfold V; omega
theorem sc_err (lo hi n d : Int) : ((sc lo hi n d).2.2 = 0 ∧ (sc lo hi n d).1 ≤ (sc lo hi n d).2.1) ∨ sc lo hi n d = (0, 0, 5) := by
  unfold sc
  by_cases h : V (fl (least lo hi n) n d) (ce (most lo hi n) n d)
  · rw [if_pos h]; unfold V at h; exact .inl ⟨rfl, h.2.1⟩
  · rw [if_neg h]; exact .inr rfl
theorem F61_l1_eq {f : Nat} (hf : 50 ≤ f) {t : List Pt} (v : VT t) {n d : Int} (ha : okA n d) : ∀ m i (out : List Pt), i ≤ t.length → t.length - i < m → out.length ≤ i →
    ((∀ j, i ≤ j → j < t.length → gdS n d (pt t j)) ∧ F61_l1 f t n d m out (i : Int) = some (out ++ (t.drop i).map (scP n d), 0)) ∨ ((¬ ∀ j, i ≤ j → j < t.length → gdS n d (pt t j)) ∧ F61_l1 f t n d m out (i : Int) = some ([], 5))
  | 0, i, _, _, hn, _ => by omega
  | m + 1, i, out, hi, hn, ho => by
    have hl := v.l2
    rw [F61_l1]
    rcases Nat.eq_or_lt_of_le hi with e | e
    · subst e
      rw [decide_eq_false (by omega), cond_false]
      exact .inl ⟨fun j h1 h2 => by omega, by simp⟩
    · rw [decide_eq_true (by omega), cond_true, getI_pt e, Option.bind_some, F40_gen (by omega) (ok_V (v.ok i e)), if_pos ha, Option.bind_some]
      unfold F61_j2 F61_j1
      rcases sc_err (pt t i).lo (pt t i).hi n d with ⟨h0, hle⟩ | h5
      · have hb : ((sc (pt t i).lo (pt t i).hi n d).2.2 == 0) = true := by simp [h0]
        rw [hb, cond_true]
        by_cases h1 : (sc (pt t i).lo (pt t i).hi n d).1 < -1000000000
        · rw [decide_eq_true h1]
          exact .inr ⟨fun h => by have := (h i (Nat.le_refl _) e).2.1; simp only [scP] at this; omega, rfl⟩
        · by_cases h2 : (sc (pt t i).lo (pt t i).hi n d).2.1 > 1000000000
          · rw [decide_eq_false h1, decide_eq_true h2]
            exact .inr ⟨fun h => by have := (h i (Nat.le_refl _) e).2.2; simp only [scP] at this; omega, rfl⟩
          · rw [decide_eq_false h1, decide_eq_false h2, cond_false, cond_false, h0, cond_z, appC_eq (by simp; omega), Option.bind_some, succ_w (by omega)]
            rcases F61_l1_eq hf v ha m (i + 1) (out ++ [⟨(pt t i).x, (sc (pt t i).lo (pt t i).hi n d).1, (sc (pt t i).lo (pt t i).hi n d).2.1⟩]) e (by omega) (by simp; omega) with ⟨a, b⟩ | ⟨a, b⟩
            · refine .inl ⟨fun j hij hj => ?_, ?_⟩
              · rcases Nat.eq_or_lt_of_le hij with e' | e'
                · subst e'; exact ⟨h0, by simp only [scP]; omega, by simp only [scP]; omega⟩
                · exact a j e' hj
              · rw [b, drop_pt e]
                simp only [List.map_cons, List.append_assoc, List.cons_append, List.nil_append]; rfl
            · exact .inr ⟨fun h => a fun j hij hj => h j (by omega) hj, b⟩
      · rw [h5]
        exact .inr ⟨(fun h => by have := (h i (Nat.le_refl _) e).1; rw [h5] at this; cases this), rfl⟩
end Go.Proofs.Ytpjmgeajajcceaa
