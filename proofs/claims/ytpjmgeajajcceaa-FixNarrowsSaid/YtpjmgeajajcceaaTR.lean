/-
  Area: the bounds that the program tells. No condition.
-/
import Derived.Test.YtpjmgeajajcceaaTQ
set_option linter.unusedSimpArgs false
set_option linter.unusedVariables false
namespace Go.Proofs.Ytpjmgeajajcceaa
open Go.Sl Go.Sx

theorem F18_l2_eq {f : Nat} {t : List Pt} (v : VT t) (a b u1 u2 u3 : Int) : ∀ n i (wh num den : Int), i < t.length → t.length - i < n → FS (tw t (hiY t) a b i) wh num den (CB t a b i) →
    ∃ wh' num' den', F18_l2 f t a b u1 u2 u3 (t.drop 1) n wh num den (i : Int) = F18_j6 f u1 u2 u3 wh' num' den' ∧ FS (tw t (hiY t) a b (t.length - 1)) wh' num' den' 2
  | 0, i, _, _, _, _, hn, _ => by omega
  | n + 1, i, wh, num, den, hi, hn, hF => by
    have hl := v.l2
    have hy := okY_hi v
    rw [F18_l2]
    by_cases hx : i + 1 < t.length
    · rw [decide_eq_true (by rw [List.length_drop]; omega), cond_true, getI_tail hx, getI_pt hi, Option.bind_some, Option.bind_some]
      unfold F18_j8 F18_j9 F18_j8 F84
      have hm := DB_mono v a b hx
      obtain ⟨n0, n1, dd1, ww0, ww1⟩ := tw_bd v hy a b i (by omega)
      obtain ⟨b1, b2, b3, b4, b5, b6⟩ := hF.nums v hy hx
      show ∃ wh' num' den', cond (decide (fromX t a i ≥ toX t b i)) _ _ = _ ∧ _
      by_cases hlt : fromX t a i ≥ toX t b i
      · rw [decide_eq_true hlt, cond_true, succ_w (by omega)]
        refine F18_l2_eq v a b u1 u2 u3 n (i + 1) wh num den hx (by omega) ?_
        have : tw t (hiY t) a b (i + 1) = tw t (hiY t) a b i := by simp only [tw]; rw [if_pos hlt]
        rw [this]; exact hF.mono hm.2 (by omega)
      · have hlt' : fromX t a i < toX t b i := by omega
        have an := AN.of v hy (a := a) (b := b) hx hlt'
        have cb := cc_bd an
        obtain ⟨e1, e2, e3, e4, e5, e6, e7, e8, e9, f1, f2, f3, f4, f5, f6, f7, f8, f9⟩ := WN.of v hy (a := a) (b := b) hx hlt'
        have hs : tw t (hiY t) a b (i + 1) = (tw t (hiY t) a b i).add (cc (pt t i).x (pt t (i + 1)).x (hiY t i) (hiY t (i + 1)) (fromX t a i) (toX t b i)) (rr (pt t i).x (pt t (i + 1)).x (hiY t i) (hiY t (i + 1)) (fromX t a i) (toX t b i)) ((pt t (i + 1)).x - (pt t i).x) := by simp only [tw]; rw [if_neg hlt]
        have g1 : w64 (wh + (2 * hiY t i * (toX t b i - fromX t a i) + qq (pt t i).x (pt t (i + 1)).x (hiY t i) (hiY t (i + 1)) * kk (pt t i).x (fromX t a i) (toX t b i))) = wh + (2 * hiY t i * (toX t b i - fromX t a i) + qq (pt t i).x (pt t (i + 1)).x (hiY t i) (hiY t (i + 1)) * kk (pt t i).x (fromX t a i) (toX t b i)) := by
          have := an.yl; have := an.qk
          exact w64_id (by omega) (by omega)
        have g2 : w64 (wh + (2 * hiY t i * (toX t b i - fromX t a i) + qq (pt t i).x (pt t (i + 1)).x (hiY t i) (hiY t (i + 1)) * kk (pt t i).x (fromX t a i) (toX t b i)) + (mm (pt t i).x (pt t (i + 1)).x (hiY t i) (hiY t (i + 1)) * kk (pt t i).x (fromX t a i) (toX t b i)) / ((pt t (i + 1)).x - (pt t i).x)) = wh + cc (pt t i).x (pt t (i + 1)).x (hiY t i) (hiY t (i + 1)) (fromX t a i) (toX t b i) := by
          have := an.yl; have := an.qk; have := an.d0; have := an.d1
          unfold cc
          rw [w64_id (by omega) (by omega)]; omega
        rw [decide_eq_false hlt, cond_false]
        simp only [Option.bind_some]
        rw [show (if a > (pt t i).x then a else (pt t i).x) = fromX t a i from rfl, show (if b < (pt t (i + 1)).x then b else (pt t (i + 1)).x) = toX t b i from rfl, show (pt t i).hi = hiY t i from rfl, show (pt t (i + 1)).hi = hiY t (i + 1) from rfl]
        rw [e1, e2, e3, Option.bind_some, e4, e5, e6, e7, e8, e9, f1, f2, f3, Option.bind_some, Option.bind_some, f4, f5, f6, f7, f8, f9, g1, g2]
        by_cases hr : rr (pt t i).x (pt t (i + 1)).x (hiY t i) (hiY t (i + 1)) (fromX t a i) (toX t b i) > 0
        · have hst := DB_step v (a := a) (b := b) hx hlt' (fun hp => by have := an.full hp.1 hp.2; omega)
          have hden := hF.den
          have hn1 := hF.n1
          have w1 := (v.ok (i + 1) hx).x1
          have w0 := (v.ok i (by omega)).x0
          have up := v.up i hx
          have hnum : num ≤ 1000000 := by
            have := Int.mul_le_mul_of_nonneg_right hst.2.2.2 (show 0 ≤ (tw t (hiY t) a b i).D by omega)
            omega
          have p1 := mulB (x := num) (y := (pt t (i + 1)).x - (pt t i).x) (m := 1000000) (n := 1000000) (by omega) (by omega)
          have p2 := mulB (x := rr (pt t i).x (pt t (i + 1)).x (hiY t i) (hiY t (i + 1)) (fromX t a i) (toX t b i)) (y := den) (m := 1000000) (n := 1000000) (by have := an.r1; omega) (by omega)
          have p3 := mulB (x := den) (y := (pt t (i + 1)).x - (pt t i).x) (m := 1000000) (n := 1000000) (by omega) (by omega)
          rw [decide_eq_true hr, cond_true, w64_id (n := num * _) (by omega) (by omega), w64_id (n := rr _ _ _ _ _ _ * den) (by omega) (by omega), w64_id (n := num * _ + _) (by omega) (by omega), w64_id (n := den * _) (by omega) (by omega), succ_w (by omega)]
          refine F18_l2_eq v a b u1 u2 u3 n (i + 1) _ _ _ hx (by omega) ?_
          rw [hs]
          have hA := hF.add (p := cc (pt t i).x (pt t (i + 1)).x (hiY t i) (hiY t (i + 1)) (fromX t a i) (toX t b i)) hr an.r1 (by omega)
          refine hA.mono hst.2.2.1 ?_
          unfold TS.add
          rw [if_pos hr]
          exact Int.mul_nonneg (by omega) (by omega)
        · rw [decide_eq_false hr, cond_false, succ_w (by omega)]
          refine F18_l2_eq v a b u1 u2 u3 n (i + 1) _ _ _ hx (by omega) ?_
          rw [hs]
          have hK := hF.keep (p := cc (pt t i).x (pt t (i + 1)).x (hiY t i) (hiY t (i + 1)) (fromX t a i) (toX t b i)) (w := (pt t (i + 1)).x - (pt t i).x) hr
          refine hK.mono hm.2 ?_
          unfold TS.add
          rw [if_neg hr]
          show 0 ≤ (tw t (hiY t) a b i).D
          omega
    · have he : i = t.length - 1 := by omega
      rw [decide_eq_false (by rw [List.length_drop]; omega), cond_false]
      have hb := (tw_bd v hy a b i hi)
      refine ⟨wh, num, den, rfl, ?_⟩
      rw [← he]
      exact hF.mono (CB_le t a b i).2 (by have := hb.n0; have := hb.n1; omega)

/-- The bounds of twice an area. -/
def arLo (t : List Pt) (a b : Int) : Int := (tw t (loY t) a b (t.length - 1)).W
def arHi (t : List Pt) (a b : Int) : Int := (tw t (hiY t) a b (t.length - 1)).W + (if (tw t (hiY t) a b (t.length - 1)).N > 0 then 1 else 0)
theorem FS.start {t : List Pt} (ys : Nat → Int) (a b : Int) : FS (tw t ys a b 0) 0 0 1 (CB t a b 0) := ⟨rfl, rfl, Int.le_refl _, by have := CB_le t a b 0; simp [tw]; omega⟩
theorem FS.ends {t : List Pt} (v : VT t) {ys : Nat → Int} (hy : okY t ys) {a b wh num den : Int} (h : FS (tw t ys a b (t.length - 1)) wh num den 2) :
    -500000000000000000 ≤ wh ∧ wh ≤ 500000000000000000 ∧ 1 ≤ den ∧ 0 ≤ num ∧ num ≤ 2000000000000 ∧ num / den = (tw t ys a b (t.length - 1)).W - wh ∧ -((-num) / den) = (tw t ys a b (t.length - 1)).W - wh + (if (tw t ys a b (t.length - 1)).N > 0 then 1 else 0) ∧ -500000000000000000 ≤ (tw t ys a b (t.length - 1)).W ∧ (tw t ys a b (t.length - 1)).W ≤ 500000000000000000 := by
  have hl1 := v.l1
  have hl2 := v.l2
  obtain ⟨n0, n1, d1, w0, w1⟩ := tw_bd v hy a b (t.length - 1) (by omega)
  have hb := DB_le t a b (t.length - 1)
  have hw := h.wh_bd n0 n1 (Int.le_refl _)
  have hf := h.floor n0 n1
  have hc := h.ceil n0 n1
  have hd := h.den
  have hn := h.n1
  exact ⟨by omega, by omega, by omega, h.n0, by omega, hf, hc, by omega, by omega⟩

theorem F18_j6_eq {f : Nat} {t : List Pt} (v : VT t) {a b w1 n1 d1 w2 n2 d2 : Int} (h1 : FS (tw t (loY t) a b (t.length - 1)) w1 n1 d1 2) (h2 : FS (tw t (hiY t) a b (t.length - 1)) w2 n2 d2 2) :
    F18_j6 f w1 n1 d1 w2 n2 d2 = some (arLo t a b, arHi t a b, 0) := by
  obtain ⟨a1, a2, a3, a4, a5, a6, a7, a8, a9⟩ := h1.ends v (okY_lo v)
  obtain ⟨b1, b2, b3, b4, b5, b6, b7, b8, b9⟩ := h2.ends v (okY_hi v)
  unfold F18_j6
  rw [F85_eq f a3 (by omega) (by omega), F86_eq f b3 (by omega) (by omega), Option.bind_some, Option.bind_some, a6, b7]
  have e1 : w64 (w1 + ((tw t (loY t) a b (t.length - 1)).W - w1)) = arLo t a b := by
    unfold arLo; rw [w64_id (by omega) (by omega)]; omega
  have e2 : w64 (w2 + ((tw t (hiY t) a b (t.length - 1)).W - w2 + (if (tw t (hiY t) a b (t.length - 1)).N > 0 then 1 else 0))) = arHi t a b := by
    unfold arHi
    split
    · rw [w64_id (by omega) (by omega)]; omega
    · rw [w64_id (by omega) (by omega)]; omega
  rw [e1, e2]

theorem F18_eq {f : Nat} (hf : 50 ≤ f) {t : List Pt} (v : VT t) (h67 : F67 f t = some 0) {a b : Int} (hab : a ≤ b) (h1 : fstX t ≤ a) (h2 : b ≤ lstX t) : F18 f t a b = some (arLo t a b, arHi t a b, 0) := by
  have hl1 := v.l1
  have hl2 := v.l2
  unfold F18
  rw [h67, Option.bind_some, cond_z, decide_eq_false (by omega), cond_false, F81_eq f v, Option.bind_some, decide_eq_true ⟨h1, h2⟩, Bool.not_true]
  unfold F18_j1
  rw [cond_false]
  by_cases h : t.length = 1
  · have hb : ((t.length : Int) == 1) = true := by simp [h]
    have e0 := getI_pt (t := t) (i := 0) (by omega)
    rw [show ((0 : Nat) : Int) = 0 from rfl] at e0
    have hlx : lstX t = (pt t 0).x := by unfold lstX; rw [h]
    have hfx : fstX t = (pt t 0).x := rfl
    have hc : decide ((if a > (pt t 0).x then a else (pt t 0).x) ≥ (if b < (pt t 0).x then b else (pt t 0).x)) = true := decide_eq_true (by rw [if_neg (by omega), if_neg (by omega)]; exact Int.le_refl _)
    rw [hb, cond_true, e0, Option.bind_some, Option.bind_some, hc, cond_true]
    unfold F18_j2
    rw [hb, cond_true, e0, Option.bind_some, Option.bind_some, hc, cond_true]
    have z : t.length - 1 = 0 := by omega
    refine F18_j6_eq v ?_ ?_
    · rw [z]; exact (FS.start (t := t) (loY t) a b).mono (CB_le t a b 0).2 (by simp [tw])
    · rw [z]; exact (FS.start (t := t) (hiY t) a b).mono (CB_le t a b 0).2 (by simp [tw])
  · have hb : ((t.length : Int) == 1) = false := beq_eq_false_iff_ne.2 (by omega)
    rw [hb, cond_false, sub_tail hl1, Option.bind_some]
    obtain ⟨w1, n1, d1, e1, F1⟩ := F18_l1_eq (f := f) v a b f 0 0 0 1 (by omega) (by omega) (FS.start _ a b)
    rw [show ((0 : Nat) : Int) = 0 from rfl] at e1
    rw [e1]
    unfold F18_j2
    rw [hb, cond_false, sub_tail hl1, Option.bind_some]
    obtain ⟨w2, n2, d2, e2, F2⟩ := F18_l2_eq (f := f) v a b w1 n1 d1 f 0 0 0 1 (by omega) (by omega) (FS.start _ a b)
    rw [show ((0 : Nat) : Int) = 0 from rfl] at e2
    rw [e2]
    exact F18_j6_eq v F1 F2
end Go.Proofs.Ytpjmgeajajcceaa
