/-
  Area: the loops of the program's reckoning. No condition.
-/
import Derived.Test.YtpjmgeajajcceaaTP
set_option linter.unusedSimpArgs false
set_option linter.unusedVariables false
namespace Go.Proofs.Ytpjmgeajajcceaa
open Go.Sl Go.Sx

/-- The program's state against the exact one. -/
structure FS (s : TS) (wh num den c : Int) : Prop where
  den : den = s.D
  eq : wh * s.D + num = s.W * s.D + s.N
  n0 : 0 ≤ num
  n1 : num ≤ c * s.D
theorem FS.floor {s : TS} {wh num den c : Int} (h : FS s wh num den c) (h0 : 0 ≤ s.N) (h1 : s.N < s.D) : num / den = s.W - wh := by
  obtain ⟨e, eq, _, _⟩ := h
  rw [e]
  exact ((Int.ediv_emod_unique (a := num) (b := s.D) (r := s.N) (q := s.W - wh) (by omega)).2 ⟨by rw [Int.mul_comm, Int.sub_mul]; omega, h0, h1⟩).1
theorem FS.ceil {s : TS} {wh num den c : Int} (h : FS s wh num den c) (h0 : 0 ≤ s.N) (h1 : s.N < s.D) : -((-num) / den) = s.W - wh + (if s.N > 0 then 1 else 0) := by
  obtain ⟨e, eq, _, _⟩ := h
  rw [e]
  by_cases hN : s.N > 0
  · rw [if_pos hN]
    have := ((Int.ediv_emod_unique (a := -num) (b := s.D) (r := s.D - s.N) (q := -(s.W - wh) - 1) (by omega)).2 ⟨by rw [Int.mul_comm, Int.sub_mul, Int.neg_mul, Int.sub_mul]; omega, by omega, by omega⟩).1
    omega
  · rw [if_neg hN]
    have := ((Int.ediv_emod_unique (a := -num) (b := s.D) (r := 0) (q := -(s.W - wh)) (by omega)).2 ⟨by rw [Int.mul_comm, Int.neg_mul, Int.sub_mul]; omega, by omega, by omega⟩).1
    omega
theorem FS.wh_bd {s : TS} {wh num den c : Int} (h : FS s wh num den c) (h0 : 0 ≤ s.N) (h1 : s.N < s.D) (hc : c ≤ 2) : s.W - 2 ≤ wh ∧ wh ≤ s.W := by
  have hf := h.floor h0 h1
  obtain ⟨e, _, n0, n1⟩ := h
  rw [e] at hf
  have q0 : 0 ≤ num / s.D := Int.ediv_nonneg n0 (by omega)
  have q1 : num / s.D ≤ 2 := Int.ediv_le_of_le_mul (by omega) (by have := Int.mul_le_mul_of_nonneg_right hc (show 0 ≤ s.D by omega); omega)
  omega

/-- A piece more. -/
theorem FS.add {s : TS} {wh num den c : Int} (h : FS s wh num den c) {p r w : Int} (hr : 0 < r) (hrw : r < w) (hD : 0 < s.D) : FS (s.add p r w) (wh + p) (num * w + r * den) (den * w) (c + 1) := by
  obtain ⟨e, eq, n0, n1⟩ := h
  subst e
  unfold TS.add
  rw [if_pos hr]
  have hd := Int.mul_ediv_add_emod (s.N * w + r * s.D) (s.D * w)
  refine ⟨rfl, ?_, Int.add_nonneg (Int.mul_nonneg n0 (by omega)) (Int.mul_nonneg (by omega) (by omega)), ?_⟩
  · show (wh + p) * (s.D * w) + (num * w + r * s.D) = (s.W + p + (s.N * w + r * s.D) / (s.D * w)) * (s.D * w) + (s.N * w + r * s.D) % (s.D * w)
    have e1 : (wh * s.D + num) * w = (s.W * s.D + s.N) * w := by rw [eq]
    rw [Int.add_mul, Int.add_mul, Int.mul_assoc, Int.mul_assoc] at e1
    have e2 : (s.W + p + (s.N * w + r * s.D) / (s.D * w)) * (s.D * w) = s.W * (s.D * w) + p * (s.D * w) + (s.D * w) * ((s.N * w + r * s.D) / (s.D * w)) := by
      rw [Int.add_mul, Int.add_mul, Int.mul_comm ((s.N * w + r * s.D) / (s.D * w))]
    rw [e2, Int.add_mul]
    omega
  · show num * w + r * s.D ≤ (c + 1) * (s.D * w)
    have e1 := Int.mul_le_mul_of_nonneg_right n1 (show 0 ≤ w by omega)
    rw [Int.mul_assoc] at e1
    have e2 := Int.mul_le_mul_of_nonneg_right (show r ≤ w by omega) (show 0 ≤ s.D by omega)
    rw [Int.mul_comm w] at e2
    rw [Int.add_mul]
    omega
theorem FS.keep {s : TS} {wh num den c : Int} (h : FS s wh num den c) {p r w : Int} (hr : ¬ r > 0) : FS (s.add p r w) (wh + p) num den c := by
  obtain ⟨e, eq, n0, n1⟩ := h
  unfold TS.add
  rw [if_neg hr]
  exact ⟨e, by show (wh + p) * s.D + num = (s.W + p) * s.D + s.N; rw [Int.add_mul, Int.add_mul]; omega, n0, n1⟩
theorem FS.mono {s : TS} {wh num den c c' : Int} (h : FS s wh num den c) (hc : c ≤ c') (hD : 0 ≤ s.D) : FS s wh num den c' :=
  ⟨h.den, h.eq, h.n0, Int.le_trans h.n1 (Int.mul_le_mul_of_nonneg_right hc hD)⟩

/-! ### The numbers that the loops come by -/
structure WN (x0 x1 y0 y1 lo hi : Int) : Prop where
  e1 : w64 (y1 - y0) = y1 - y0
  e2 : w64 (x1 - x0) = x1 - x0
  e3 : ∀ f, F85 f (y1 - y0) (x1 - x0) = some (qq x0 x1 y0 y1)
  e4 : w64 (qq x0 x1 y0 y1 * (x1 - x0)) = qq x0 x1 y0 y1 * (x1 - x0)
  e5 : w64 ((y1 - y0) - qq x0 x1 y0 y1 * (x1 - x0)) = mm x0 x1 y0 y1
  e6 : w64 (hi - lo) = hi - lo
  e7 : w64 (lo + hi) = lo + hi
  e8 : w64 (2 * x0) = 2 * x0
  e9 : w64 (lo + hi - 2 * x0) = lo + hi - 2 * x0
  f1 : w64 ((hi - lo) * (lo + hi - 2 * x0)) = kk x0 lo hi
  f2 : w64 (mm x0 x1 y0 y1 * kk x0 lo hi) = mm x0 x1 y0 y1 * kk x0 lo hi
  f3 : ∀ f, F85 f (mm x0 x1 y0 y1 * kk x0 lo hi) (x1 - x0) = some ((mm x0 x1 y0 y1 * kk x0 lo hi) / (x1 - x0))
  f4 : w64 ((mm x0 x1 y0 y1 * kk x0 lo hi) / (x1 - x0) * (x1 - x0)) = (mm x0 x1 y0 y1 * kk x0 lo hi) / (x1 - x0) * (x1 - x0)
  f5 : w64 (mm x0 x1 y0 y1 * kk x0 lo hi - (mm x0 x1 y0 y1 * kk x0 lo hi) / (x1 - x0) * (x1 - x0)) = rr x0 x1 y0 y1 lo hi
  f6 : w64 (2 * y0) = 2 * y0
  f7 : w64 (2 * y0 * (hi - lo)) = 2 * y0 * (hi - lo)
  f8 : w64 (qq x0 x1 y0 y1 * kk x0 lo hi) = qq x0 x1 y0 y1 * kk x0 lo hi
  f9 : w64 (2 * y0 * (hi - lo) + qq x0 x1 y0 y1 * kk x0 lo hi) = 2 * y0 * (hi - lo) + qq x0 x1 y0 y1 * kk x0 lo hi
theorem WN.mk' {x0 x1 y0 y1 lo hi : Int} (a0 : 0 ≤ x0) (a1 : x0 < x1) (a2 : x1 ≤ 1000000) (b0 : -1000000000 ≤ y0) (b1 : y0 ≤ 1000000000) (c0 : -1000000000 ≤ y1) (c1 : y1 ≤ 1000000000) (l0 : x0 ≤ lo) (l1 : lo < hi) (l2 : hi ≤ x1) : WN x0 x1 y0 y1 lo hi := by
  obtain ⟨k0, k1, q0, q1, qw0, qw1, m0, m1, mk0, mk1, d0, d1, r0, r1, yl, qk, _⟩ := AN.mk' a0 a1 a2 b0 b1 c0 c1 l0 l1 l2
  have hmm : (y1 - y0) - qq x0 x1 y0 y1 * (x1 - x0) = mm x0 x1 y0 y1 := rfl
  have hkk : (hi - lo) * (lo + hi - 2 * x0) = kk x0 lo hi := rfl
  have hrr : mm x0 x1 y0 y1 * kk x0 lo hi - (mm x0 x1 y0 y1 * kk x0 lo hi) / (x1 - x0) * (x1 - x0) = rr x0 x1 y0 y1 lo hi := rfl
  refine ⟨w64_id (by omega) (by omega), w64_id (by omega) (by omega), fun f => F85_eq f (by omega) (by omega) (by omega), w64_id (by omega) (by omega), ?_, w64_id (by omega) (by omega), w64_id (by omega) (by omega), w64_id (by omega) (by omega), w64_id (by omega) (by omega), ?_, w64_id (by omega) (by omega), fun f => F85_eq f (by omega) (by omega) (by omega), w64_id (by omega) (by omega), ?_, w64_id (by omega) (by omega), w64_id (by omega) (by omega), w64_id (by omega) (by omega), w64_id (by omega) (by omega)⟩
  · rw [hmm]; exact w64_id (by omega) (by omega)
  · rw [hkk]; exact w64_id (by omega) (by omega)
  · rw [hrr]; exact w64_id (by omega) (by omega)
theorem WN.of {t : List Pt} (v : VT t) {ys : Nat → Int} (hy : okY t ys) {a b : Int} {i : Nat} (h : i + 1 < t.length) (hl : fromX t a i < toX t b i) : WN (pt t i).x (pt t (i + 1)).x (ys i) (ys (i + 1)) (fromX t a i) (toX t b i) := by
  obtain ⟨h1, _, h3, _⟩ := from_to (t := t) (a := a) (b := b) (i := i)
  have y0 := hy i (by omega)
  have y1 := hy (i + 1) h
  exact WN.mk' (v.ok i (by omega)).x0 (v.up i h) (v.ok (i + 1) h).x1 y0.1 y0.2 y1.1 y1.2 h1 hl h3

def loY (t : List Pt) (i : Nat) : Int := (pt t i).lo
def hiY (t : List Pt) (i : Nat) : Int := (pt t i).hi
theorem okY_lo {t : List Pt} (v : VT t) : okY t (loY t) := fun i h => by have := v.ok i h; obtain ⟨_, _, h1, h2, h3⟩ := this; unfold loY; omega
theorem okY_hi {t : List Pt} (v : VT t) : okY t (hiY t) := fun i h => by have := v.ok i h; obtain ⟨_, _, h1, h2, h3⟩ := this; unfold hiY; omega

/-- The loop's state is within int. -/
theorem FS.nums {t : List Pt} (v : VT t) {ys : Nat → Int} (hy : okY t ys) {a b : Int} {i : Nat} (h : i + 1 < t.length) {wh num den : Int} (hF : FS (tw t ys a b i) wh num den (CB t a b i)) :
    -500000000000000000 ≤ wh ∧ wh ≤ 500000000000000000 ∧ 0 < den ∧ den ≤ 1000000000000 ∧ 0 ≤ num ∧ num ≤ 2000000000000 := by
  obtain ⟨n0, n1, d1, w0, w1⟩ := tw_bd v hy a b i (by omega)
  have hb := DB_le t a b i
  have hc := CB_le t a b i
  have hw := hF.wh_bd n0 n1 hc.2
  have hl := v.l2
  have hn := hF.n1
  have hd := hF.den
  have := Int.mul_le_mul_of_nonneg_right hc.2 (show 0 ≤ (tw t ys a b i).D by omega)
  exact ⟨by omega, by omega, by omega, by omega, hF.n0, by omega⟩

theorem F18_l1_eq {f : Nat} {t : List Pt} (v : VT t) (a b : Int) : ∀ n i (wh num den : Int), i < t.length → t.length - i < n → FS (tw t (loY t) a b i) wh num den (CB t a b i) →
    ∃ wh' num' den', F18_l1 f t a b (t.drop 1) n wh num den (i : Int) = F18_j2 f t a b wh' num' den' ∧ FS (tw t (loY t) a b (t.length - 1)) wh' num' den' 2
  | 0, i, _, _, _, _, hn, _ => by omega
  | n + 1, i, wh, num, den, hi, hn, hF => by
    have hl := v.l2
    have hy := okY_lo v
    rw [F18_l1]
    by_cases hx : i + 1 < t.length
    · rw [decide_eq_true (by rw [List.length_drop]; omega), cond_true, getI_tail hx, getI_pt hi, Option.bind_some, Option.bind_some]
      unfold F18_j4 F18_j5 F18_j4 F83
      have hm := DB_mono v a b hx
      obtain ⟨n0, n1, dd1, ww0, ww1⟩ := tw_bd v hy a b i (by omega)
      obtain ⟨b1, b2, b3, b4, b5, b6⟩ := hF.nums v hy hx
      show ∃ wh' num' den', cond (decide (fromX t a i ≥ toX t b i)) _ _ = _ ∧ _
      by_cases hlt : fromX t a i ≥ toX t b i
      · rw [decide_eq_true hlt, cond_true, succ_w (by omega)]
        refine F18_l1_eq v a b n (i + 1) wh num den hx (by omega) ?_
        have : tw t (loY t) a b (i + 1) = tw t (loY t) a b i := by simp only [tw]; rw [if_pos hlt]
        rw [this]; exact hF.mono hm.2 (by omega)
      · have hlt' : fromX t a i < toX t b i := by omega
        have an := AN.of v hy (a := a) (b := b) hx hlt'
        have cb := cc_bd an
        obtain ⟨e1, e2, e3, e4, e5, e6, e7, e8, e9, f1, f2, f3, f4, f5, f6, f7, f8, f9⟩ := WN.of v hy (a := a) (b := b) hx hlt'
        have hs : tw t (loY t) a b (i + 1) = (tw t (loY t) a b i).add (cc (pt t i).x (pt t (i + 1)).x (loY t i) (loY t (i + 1)) (fromX t a i) (toX t b i)) (rr (pt t i).x (pt t (i + 1)).x (loY t i) (loY t (i + 1)) (fromX t a i) (toX t b i)) ((pt t (i + 1)).x - (pt t i).x) := by simp only [tw]; rw [if_neg hlt]
        have g1 : w64 (wh + (2 * loY t i * (toX t b i - fromX t a i) + qq (pt t i).x (pt t (i + 1)).x (loY t i) (loY t (i + 1)) * kk (pt t i).x (fromX t a i) (toX t b i))) = wh + (2 * loY t i * (toX t b i - fromX t a i) + qq (pt t i).x (pt t (i + 1)).x (loY t i) (loY t (i + 1)) * kk (pt t i).x (fromX t a i) (toX t b i)) := by
          have := an.yl; have := an.qk
          exact w64_id (by omega) (by omega)
        have g2 : w64 (wh + (2 * loY t i * (toX t b i - fromX t a i) + qq (pt t i).x (pt t (i + 1)).x (loY t i) (loY t (i + 1)) * kk (pt t i).x (fromX t a i) (toX t b i)) + (mm (pt t i).x (pt t (i + 1)).x (loY t i) (loY t (i + 1)) * kk (pt t i).x (fromX t a i) (toX t b i)) / ((pt t (i + 1)).x - (pt t i).x)) = wh + cc (pt t i).x (pt t (i + 1)).x (loY t i) (loY t (i + 1)) (fromX t a i) (toX t b i) := by
          have := an.yl; have := an.qk; have := an.d0; have := an.d1
          unfold cc
          rw [w64_id (by omega) (by omega)]; omega
        rw [decide_eq_false hlt, cond_false]
        simp only [Option.bind_some]
        rw [show (if a > (pt t i).x then a else (pt t i).x) = fromX t a i from rfl, show (if b < (pt t (i + 1)).x then b else (pt t (i + 1)).x) = toX t b i from rfl, show (pt t i).lo = loY t i from rfl, show (pt t (i + 1)).lo = loY t (i + 1) from rfl]
        rw [e1, e2, e3, Option.bind_some, e4, e5, e6, e7, e8, e9, f1, f2, f3, Option.bind_some, Option.bind_some, f4, f5, f6, f7, f8, f9, g1, g2]
        by_cases hr : rr (pt t i).x (pt t (i + 1)).x (loY t i) (loY t (i + 1)) (fromX t a i) (toX t b i) > 0
        · have hst := DB_step v (a := a) (b := b) hx hlt' (fun hp => by have := an.full hp.1 hp.2; omega)
          have hden := hF.den
          have hn1 := hF.n1
          have w1 := (v.ok (i + 1) hx).x1
          have w0 := (v.ok i (by omega)).x0
          have up := v.up i hx
          have hnum : num ≤ 1000000 := by
            have := Int.mul_le_mul_of_nonneg_right hst.2.2.2 (show 0 ≤ (tw t (loY t) a b i).D by omega)
            omega
          have p1 := mulB (x := num) (y := (pt t (i + 1)).x - (pt t i).x) (m := 1000000) (n := 1000000) (by omega) (by omega)
          have p2 := mulB (x := rr (pt t i).x (pt t (i + 1)).x (loY t i) (loY t (i + 1)) (fromX t a i) (toX t b i)) (y := den) (m := 1000000) (n := 1000000) (by have := an.r1; omega) (by omega)
          have p3 := mulB (x := den) (y := (pt t (i + 1)).x - (pt t i).x) (m := 1000000) (n := 1000000) (by omega) (by omega)
          rw [decide_eq_true hr, cond_true, w64_id (n := num * _) (by omega) (by omega), w64_id (n := rr _ _ _ _ _ _ * den) (by omega) (by omega), w64_id (n := num * _ + _) (by omega) (by omega), w64_id (n := den * _) (by omega) (by omega), succ_w (by omega)]
          refine F18_l1_eq v a b n (i + 1) _ _ _ hx (by omega) ?_
          rw [hs]
          have hA := hF.add (p := cc (pt t i).x (pt t (i + 1)).x (loY t i) (loY t (i + 1)) (fromX t a i) (toX t b i)) hr an.r1 (by omega)
          refine hA.mono hst.2.2.1 ?_
          unfold TS.add
          rw [if_pos hr]
          exact Int.mul_nonneg (by omega) (by omega)
        · rw [decide_eq_false hr, cond_false, succ_w (by omega)]
          refine F18_l1_eq v a b n (i + 1) _ _ _ hx (by omega) ?_
          rw [hs]
          have hK := hF.keep (p := cc (pt t i).x (pt t (i + 1)).x (loY t i) (loY t (i + 1)) (fromX t a i) (toX t b i)) (w := (pt t (i + 1)).x - (pt t i).x) hr
          refine hK.mono hm.2 ?_
          unfold TS.add
          rw [if_neg hr]
          show 0 ≤ (tw t (loY t) a b i).D
          omega
    · have he : i = t.length - 1 := by omega
      rw [decide_eq_false (by rw [List.length_drop]; omega), cond_false]
      have hb := (tw_bd v hy a b i hi)
      refine ⟨wh, num, den, rfl, ?_⟩
      rw [← he]
      exact hF.mono (CB_le t a b i).2 (by have := hb.n0; have := hb.n1; omega)
end Go.Proofs.Ytpjmgeajajcceaa
