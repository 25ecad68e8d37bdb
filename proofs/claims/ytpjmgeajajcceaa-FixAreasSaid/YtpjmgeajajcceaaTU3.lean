/-
  Area: the reference's reckoning is the exact one. No condition.
-/
import Derived.Test.YtpjmgeajajcceaaTB3
import Derived.Test.YtpjmgeajajcceaaTW
set_option linter.unusedSimpArgs false
set_option linter.unusedVariables false
namespace Go.Proofs.Ytpjmgeajajcceaa
open Go.Sl Go.Sx
/-
  Area: the reference's reckoning is the exact one. No condition.
-/
theorem fromX_alt (t : List Pt) (a : Int) (i : Nat) : (if (pt t i).x > a then (pt t i).x else a) = fromX t a i := by unfold fromX; split <;> split <;> omega
theorem toX_alt (t : List Pt) (b : Int) (i : Nat) : (if (pt t (i + 1)).x < b then (pt t (i + 1)).x else b) = toX t b i := by unfold toX; split <;> split <;> omega
theorem F100_WN {x0 x1 y0 y1 lo hi : Int} (an : AN x0 x1 y0 y1 lo hi) (hw : 1 ≤ x1 - x0) (h0 : -2000000000 ≤ y1 - y0) (h1 : y1 - y0 ≤ 2000000000) (f : Nat) : F100 f (y1 - y0) (x1 - x0) = some (qq x0 x1 y0 y1) ∧ F100 f (mm x0 x1 y0 y1 * kk x0 lo hi) (x1 - x0) = some ((mm x0 x1 y0 y1 * kk x0 lo hi) / (x1 - x0)) :=
  ⟨F100_eq f hw (by omega) (by omega), F100_eq f hw (by have := an.mk0; omega) (by have := an.mk1; omega)⟩
theorem F78_eq {x0 x1 y0 y1 lo hi : Int} (wn : WN x0 x1 y0 y1 lo hi) (an : AN x0 x1 y0 y1 lo hi) (hw : 1 ≤ x1 - x0) (h0 : -2000000000 ≤ y1 - y0) (h1 : y1 - y0 ≤ 2000000000) (f : Nat) : F78 f x0 y0 x1 y1 lo hi = some (cc x0 x1 y0 y1 lo hi, rr x0 x1 y0 y1 lo hi, x1 - x0) := by
  obtain ⟨g1, g2⟩ := F100_WN an hw h0 h1 f
  obtain ⟨e1, e2, e3, e4, e5, e6, e7, e8, e9, f1, f2, f3, f4, f5, f6, f7, f8, f9⟩ := wn
  unfold F78
  rw [e1, e2, g1, Option.bind_some, e4, e5, e6, e7, e8, e9, f1, f2, g2, Option.bind_some, f4, f5, f6, f7, f8, f9]
  have := an.yl; have := an.qk; have := an.d0; have := an.d1
  rw [w64_id (n := 2 * y0 * (hi - lo) + qq x0 x1 y0 y1 * kk x0 lo hi + _) (by omega) (by omega)]; rfl
structure RS (s : TS) (w n d wh : Int) (i : Nat) : Prop where
  n : n = s.N
  d : d = s.D
  sum : wh + w = s.W
  w0 : -(i : Int) * 10000000000000000 ≤ w
  w1 : w ≤ (i : Int) * 10000000000000000
  h0 : -(i : Int) * 10000000000000000 ≤ wh
  h1 : wh ≤ (i : Int) * 10000000000000000
theorem F15_l1_eq {f : Nat} {t : List Pt} (v : VT t) {ys : List Int} (hlen : ys.length = t.length) (hy : okY t (nu ys)) (a b : Int) : ∀ m i (w n d wh : Int), i < t.length → t.length - i < m → RS (tw t (nu ys) a b i) w n d wh i →
    F15_l1 f (xsOf t) ys a b m w n d wh (i : Int) = some ((tw t (nu ys) a b (t.length - 1)).W, decide ((tw t (nu ys) a b (t.length - 1)).N > 0))
  | 0, i, _, _, _, _, _, hn, _ => by omega
  | m + 1, i, w, n, d, wh, hi, hn, hR => by
    have hl := v.l2
    have hxl := xsOf_len t
    obtain ⟨n0, n1, dd1, ww0, ww1⟩ := tw_bd v hy a b i hi
    obtain ⟨r1, r2, r3, r4, r5, r6, r7⟩ := hR
    rw [F15_l1, succ_w (by omega), hxl]
    by_cases hx : i + 1 < t.length
    · rw [decide_eq_true (by omega), cond_true, getI_nu (by omega), getI_nu (by omega), nu_xs hi, nu_xs hx, Option.bind_some, Option.bind_some, fromX_alt, toX_alt]
      unfold F15_j2 F15_j1
      rw [succ_w (by omega)]
      by_cases hlt : fromX t a i ≥ toX t b i
      · rw [decide_eq_true hlt, cond_true]
        refine F15_l1_eq v hlen hy a b m (i + 1) w n d wh hx (by omega) ?_
        have : tw t (nu ys) a b (i + 1) = tw t (nu ys) a b i := by simp only [tw]; rw [if_pos hlt]
        rw [this]; exact ⟨r1, r2, r3, by omega, by omega, by omega, by omega⟩
      · have hlt' : fromX t a i < toX t b i := by omega
        have an := AN.of v hy (a := a) (b := b) hx hlt'
        have wn := WN.of v hy (a := a) (b := b) hx hlt'
        have cb := cc_bd an
        have up := v.up i hx
        have y0 := hy i hi
        have y1 := hy (i + 1) hx
        have hs : tw t (nu ys) a b (i + 1) = (tw t (nu ys) a b i).add (cc (pt t i).x (pt t (i + 1)).x (nu ys i) (nu ys (i + 1)) (fromX t a i) (toX t b i)) (rr (pt t i).x (pt t (i + 1)).x (nu ys i) (nu ys (i + 1)) (fromX t a i) (toX t b i)) ((pt t (i + 1)).x - (pt t i).x) := by simp only [tw]; rw [if_neg hlt]
        rw [decide_eq_false hlt, cond_false, getI_nu (by omega), getI_nu (by omega)]
        simp only [Option.bind_some]
        rw [F78_eq wn an (by omega) (by omega) (by omega), Option.bind_some]
        by_cases hr : rr (pt t i).x (pt t (i + 1)).x (nu ys i) (nu ys (i + 1)) (fromX t a i) (toX t b i) > 0
        · have hb : (rr (pt t i).x (pt t (i + 1)).x (nu ys i) (nu ys (i + 1)) (fromX t a i) (toX t b i) == 0) = false := beq_eq_false_iff_ne.2 (by omega)
          have hst := DB_step v (a := a) (b := b) hx hlt' (fun hp => by have := an.full hp.1 hp.2; omega)
          have w1 := (v.ok (i + 1) hx).x1
          have w0 := (v.ok i (by omega)).x0
          show cond (rr (pt t i).x (pt t (i + 1)).x (nu ys i) (nu ys (i + 1)) (fromX t a i) (toX t b i) == 0) _ _ = _
          rw [hb, cond_false]
          have p1 := mulB (x := n) (y := (pt t (i + 1)).x - (pt t i).x) (m := 1000000) (n := 1000000) (by omega) (by omega)
          have p2 := mulB (x := rr (pt t i).x (pt t (i + 1)).x (nu ys i) (nu ys (i + 1)) (fromX t a i) (toX t b i)) (y := d) (m := 1000000) (n := 1000000) (by have := an.r1; omega) (by omega)
          have p3 := mulB (x := d) (y := (pt t (i + 1)).x - (pt t i).x) (m := 1000000) (n := 1000000) (by omega) (by omega)
          have hD : 0 < d * ((pt t (i + 1)).x - (pt t i).x) := Int.mul_pos (by omega) (by omega)
          have hN0 : 0 ≤ n * ((pt t (i + 1)).x - (pt t i).x) + rr (pt t i).x (pt t (i + 1)).x (nu ys i) (nu ys (i + 1)) (fromX t a i) (toX t b i) * d := Int.add_nonneg (Int.mul_nonneg (by omega) (by omega)) (Int.mul_nonneg an.r0 (by omega))
          have hN1 : n * ((pt t (i + 1)).x - (pt t i).x) + rr (pt t i).x (pt t (i + 1)).x (nu ys i) (nu ys (i + 1)) (fromX t a i) (toX t b i) * d ≤ 4000000000000 := by omega
          have hq0 := Int.ediv_nonneg hN0 (Int.le_of_lt hD)
          have hq1 : (n * ((pt t (i + 1)).x - (pt t i).x) + rr (pt t i).x (pt t (i + 1)).x (nu ys i) (nu ys (i + 1)) (fromX t a i) (toX t b i) * d) / (d * ((pt t (i + 1)).x - (pt t i).x)) ≤ 4000000000000 := Int.ediv_le_of_le_mul hD (by omega)
          have hde := Int.mul_ediv_add_emod (n * ((pt t (i + 1)).x - (pt t i).x) + rr (pt t i).x (pt t (i + 1)).x (nu ys i) (nu ys (i + 1)) (fromX t a i) (toX t b i) * d) (d * ((pt t (i + 1)).x - (pt t i).x))
          rw [Int.mul_comm] at hde
          have hm0 := Int.emod_nonneg (n * ((pt t (i + 1)).x - (pt t i).x) + rr (pt t i).x (pt t (i + 1)).x (nu ys i) (nu ys (i + 1)) (fromX t a i) (toX t b i) * d) (b := d * ((pt t (i + 1)).x - (pt t i).x)) (by omega)
          have hm1 := Int.emod_lt_of_pos (n * ((pt t (i + 1)).x - (pt t i).x) + rr (pt t i).x (pt t (i + 1)).x (nu ys i) (nu ys (i + 1)) (fromX t a i) (toX t b i) * d) hD
          have c79 : F79 f w n d (cc (pt t i).x (pt t (i + 1)).x (nu ys i) (nu ys (i + 1)) (fromX t a i) (toX t b i)) (rr (pt t i).x (pt t (i + 1)).x (nu ys i) (nu ys (i + 1)) (fromX t a i) (toX t b i)) ((pt t (i + 1)).x - (pt t i).x) = some (w + cc (pt t i).x (pt t (i + 1)).x (nu ys i) (nu ys (i + 1)) (fromX t a i) (toX t b i) + (n * ((pt t (i + 1)).x - (pt t i).x) + rr (pt t i).x (pt t (i + 1)).x (nu ys i) (nu ys (i + 1)) (fromX t a i) (toX t b i) * d) / (d * ((pt t (i + 1)).x - (pt t i).x)), (n * ((pt t (i + 1)).x - (pt t i).x) + rr (pt t i).x (pt t (i + 1)).x (nu ys i) (nu ys (i + 1)) (fromX t a i) (toX t b i) * d) % (d * ((pt t (i + 1)).x - (pt t i).x)), d * ((pt t (i + 1)).x - (pt t i).x)) := by
            unfold F79
            rw [w64_id (n := n * _) (by omega) (by omega), w64_id (n := rr _ _ _ _ _ _ * d) (by omega) (by omega), w64_id (n := n * _ + _) (by omega) (by omega), w64_id (n := d * _) (by omega) (by omega), F100_eq f (by omega) (by omega) (by omega), Option.bind_some]
            generalize n * ((pt t (i + 1)).x - (pt t i).x) + rr (pt t i).x (pt t (i + 1)).x (nu ys i) (nu ys (i + 1)) (fromX t a i) (toX t b i) * d = NN at *
            generalize d * ((pt t (i + 1)).x - (pt t i).x) = DD at *
            generalize NN / DD * DD = PP at *
            rw [w64_id (n := w + _) (by omega) (by omega), w64_id (n := w + _ + _) (by omega) (by omega), w64_id (n := PP) (by omega) (by omega), w64_id (n := NN - PP) (by omega) (by omega)]
            congr 3
            omega
          rw [c79, Option.bind_some]
          refine F15_l1_eq v hlen hy a b m (i + 1) _ _ _ wh hx (by omega) ?_
          rw [hs]
          unfold TS.add
          rw [if_pos hr]
          refine ⟨by show _ = _ % _; rw [r1, r2], by show _ = _ * _; rw [r2], ?_, by omega, by omega, by omega, by omega⟩
          show wh + _ = (tw t (nu ys) a b i).W + _ + _ / _
          rw [← r1, ← r2, ← r3]; omega
        · have hb : (rr (pt t i).x (pt t (i + 1)).x (nu ys i) (nu ys (i + 1)) (fromX t a i) (toX t b i) == 0) = true := beq_iff_eq.2 (by have := an.r0; omega)
          show cond (rr (pt t i).x (pt t (i + 1)).x (nu ys i) (nu ys (i + 1)) (fromX t a i) (toX t b i) == 0) _ _ = _
          rw [hb, cond_true, w64_id (n := wh + _) (by omega) (by omega)]
          refine F15_l1_eq v hlen hy a b m (i + 1) w n d _ hx (by omega) ?_
          rw [hs]
          unfold TS.add
          rw [if_neg hr]
          exact ⟨r1, r2, by show _ = (tw t (nu ys) a b i).W + _; omega, by omega, by omega, by omega, by omega⟩
    · have he : i = t.length - 1 := by omega
      rw [decide_eq_false (by omega), cond_false, w64_id (n := wh + w) (by omega) (by omega), r1, r3, he]
theorem F15_eq {f : Nat} (hf : 50 ≤ f) {t : List Pt} (v : VT t) {ys : List Int} (hlen : ys.length = t.length) (hy : okY t (nu ys)) (a b : Int) : F15 f (xsOf t) ys a b = some ((tw t (nu ys) a b (t.length - 1)).W, decide ((tw t (nu ys) a b (t.length - 1)).N > 0)) := by
  have h1 := v.l1
  have h2 := v.l2
  exact F15_l1_eq v hlen hy a b f 0 0 0 1 0 (by omega) (by omega) ⟨rfl, rfl, rfl, by simp, by simp, by simp, by simp⟩
theorem tw_congr {t : List Pt} {ys zs : Nat → Int} (a b : Int) : ∀ i, i < t.length → (∀ j, j ≤ i → ys j = zs j) → tw t ys a b i = tw t zs a b i
  | 0, _, _ => rfl
  | i + 1, h, e => by
    simp only [tw]
    rw [tw_congr a b i (by omega) (fun j hj => e j (by omega)), e i (by omega), e (i + 1) (Nat.le_refl _)]
end Go.Proofs.Ytpjmgeajajcceaa
