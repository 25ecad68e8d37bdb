/-
  The plain law of FixAreas. No condition.
-/
import Derived.Test.YtpjmgeajajcceaaTU3
set_option linter.unusedSimpArgs false
set_option linter.unusedVariables false
namespace Go.Proofs.Ytpjmgeajajcceaa
open Go.Sl Go.Sx

theorem F14_eq (f : Nat) {t : List Pt} (v : VT t) (x : Int) : ∃ p, F14 f t x = some p ∧ fstX t ≤ p ∧ p ≤ lstX t := by
  have d := fst_bd v
  have hle : fstX t ≤ lstX t := v.mono_le (Nat.zero_le _) (by have := v.l1; omega)
  unfold F14
  rw [F73_eq f v, F74_eq f v, Option.bind_some, Option.bind_some, w64_id (n := lstX t - fstX t) (by omega) (by omega), w64_id (n := lstX t - fstX t + 1) (by omega) (by omega), nzS (by omega), Option.bind_some, Option.bind_some]
  have h1 := Int.lt_tmod_of_pos x (b := lstX t - fstX t + 1) (by omega)
  have h2 := Int.tmod_lt_of_pos x (b := lstX t - fstX t + 1) (by omega)
  rw [w64_id (n := Int.tmod x (lstX t - fstX t + 1) + (lstX t - fstX t + 1)) (by omega) (by omega)]
  have h3 := Int.tmod_nonneg (lstX t - fstX t + 1) (a := Int.tmod x (lstX t - fstX t + 1) + (lstX t - fstX t + 1)) (by omega)
  have h4 := Int.tmod_lt_of_pos (Int.tmod x (lstX t - fstX t + 1) + (lstX t - fstX t + 1)) (b := lstX t - fstX t + 1) (by omega)
  exact ⟨_, rfl, by rw [w64_id (by omega) (by omega)]; omega, by rw [w64_id (by omega) (by omega)]; omega⟩
theorem F16_eq {f : Nat} (hf : 50 ≤ f) {t : List Pt} (hl : t.length ≤ 40) : F16 f t = some (xsOf t) := by
  unfold F16; rw [F80_eq hf hl]; rfl

/-- A curve within a table. -/
structure Curv (t : List Pt) (c : List Int) : Prop where
  len : c.length = t.length
  bd : ∀ i, i < t.length → (pt t i).lo ≤ nu c i ∧ nu c i ≤ (pt t i).hi
theorem nu_app1 {l m : List Int} {i : Nat} (h : i < l.length) : nu (l ++ m) i = nu l i := by simp [nu, List.getD, List.getElem?_append_left h]
theorem nu_app2 {l : List Int} {x : Int} : nu (l ++ [x]) l.length = x := by simp [nu, List.getD]
theorem F17_l1_eq {t : List Pt} (v : VT t) (c : List Int) : ∀ n i (out : List Int), i ≤ t.length → t.length - i < n → out.length = i → (∀ j, j < i → (pt t j).lo ≤ nu out j ∧ nu out j ≤ (pt t j).hi) →
    ∃ out', F17_l1 t c n out (i : Int) = some out' ∧ Curv t out'
  | 0, i, _, _, hn, _, _ => by omega
  | n + 1, i, out, hi, hn, ho, hb => by
    have hl := v.l2
    rw [F17_l1]
    rcases Nat.eq_or_lt_of_le hi with e | e
    · subst e
      rw [decide_eq_false (by omega), cond_false]
      exact ⟨out, rfl, ho, hb⟩
    · rw [decide_eq_true (by omega), cond_true, getI_pt e, Option.bind_some]
      have ok := v.ok i e
      have h1 := ok.lo
      have h2 := ok.le
      have h3 := ok.hi
      have step : ∀ y : Int, ∃ out', F17_j1 (F17_l1 t c n) out (i : Int) (pt t i) y = some out' ∧ Curv t out' := fun y => by
        unfold F17_j1
        rw [w64_id (n := (pt t i).hi - (pt t i).lo) (by omega) (by omega), w64_id (n := (pt t i).hi - (pt t i).lo + 1) (by omega) (by omega), nzS (by omega), Option.bind_some, Option.bind_some]
        have k1 := Int.lt_tmod_of_pos y (b := (pt t i).hi - (pt t i).lo + 1) (by omega)
        have k2 := Int.tmod_lt_of_pos y (b := (pt t i).hi - (pt t i).lo + 1) (by omega)
        rw [w64_id (n := Int.tmod y ((pt t i).hi - (pt t i).lo + 1) + ((pt t i).hi - (pt t i).lo + 1)) (by omega) (by omega)]
        have k3 := Int.tmod_nonneg ((pt t i).hi - (pt t i).lo + 1) (a := Int.tmod y ((pt t i).hi - (pt t i).lo + 1) + ((pt t i).hi - (pt t i).lo + 1)) (by omega)
        have k4 := Int.tmod_lt_of_pos (Int.tmod y ((pt t i).hi - (pt t i).lo + 1) + ((pt t i).hi - (pt t i).lo + 1)) (b := (pt t i).hi - (pt t i).lo + 1) (by omega)
        rw [w64_id (n := (pt t i).lo + _) (by omega) (by omega), appC_eq (by simp; omega), Option.bind_some, succ_w (by omega)]
        refine F17_l1_eq v c n (i + 1) _ e (by omega) (by simp [ho]) fun j hj => ?_
        rcases Nat.eq_or_lt_of_le (Nat.le_of_lt_succ hj) with e' | e'
        · subst e'
          rw [← ho, nu_app2, ho]; omega
        · rw [nu_app1 (by omega)]; exact hb j e'
      by_cases hc : (c.length : Int) > 0
      · have hlt : i % c.length < c.length := Nat.mod_lt _ (by omega)
        have et : Int.tmod (i : Int) (c.length : Int) = ((i % c.length : Nat) : Int) := by
          rw [Int.tmod_eq_emod_of_nonneg (by omega)]; simp
        rw [decide_eq_true hc, cond_true, nzS (by omega), Option.bind_some, et, getI_of hlt, Option.bind_some]
        exact step _
      · rw [decide_eq_false hc, cond_false]
        exact step 0
theorem F17_eq {f : Nat} (hf : 50 ≤ f) {t : List Pt} (v : VT t) (c : List Int) : ∃ out, F17 f t c = some out ∧ Curv t out := by
  have := v.l2
  exact F17_l1_eq v c f 0 [] (Nat.zero_le _) (by omega) rfl (fun j hj => by omega)
theorem Curv.ok {t : List Pt} (v : VT t) {c : List Int} (h : Curv t c) : okY t (nu c) := fun i hi => by
  have := h.bd i hi
  obtain ⟨_, _, h1, h2, h3⟩ := v.ok i hi
  omega

theorem ar_bd {t : List Pt} (v : VT t) (a b : Int) : -500000000000000000 ≤ arLo t a b ∧ arLo t a b ≤ 500000000000000000 ∧ -500000000000000000 ≤ arHi t a b ∧ arHi t a b ≤ 500000000000000001 := by
  have hl1 := v.l1
  have hl2 := v.l2
  have h1 := tw_bd v (okY_lo v) a b (t.length - 1) (by omega)
  have h2 := tw_bd v (okY_hi v) a b (t.length - 1) (by omega)
  have := h1.w0; have := h1.w1; have := h2.w0; have := h2.w1
  unfold arLo arHi
  refine ⟨by omega, by omega, ?_, ?_⟩ <;> split <;> omega

theorem F3_true' (t : List Pt) (c : List Int) (x y z : Int) : ∃ fuel, F3 fuel t c x y z = some true := by
  refine ⟨2000, ?_⟩
  have hf : 50 ≤ 2000 := by decide
  have hs : F13 2000 = some true := sane_big
  generalize hF : (2000 : Nat) = f at *
  unfold F3
  rcases F12_cases hf t with ⟨v, h12⟩ | ⟨v, h12⟩
  · have h67 : F67 f t = some 0 := by rcases F67_cases hf t with ⟨_, h⟩ | ⟨h, _⟩; exact h; exact absurd v h
    obtain ⟨a, e1, a1, a2⟩ := F14_eq f v x
    obtain ⟨b0, e2, b1, b2⟩ := F14_eq f v y
    obtain ⟨c0, e3, c1, c2⟩ := F14_eq f v z
    obtain ⟨cu, e4, C⟩ := F17_eq hf v c
    rw [h12, Option.bind_some, Bool.not_true, cond_false, e1, e2, e3, Option.bind_some, Option.bind_some, Option.bind_some, F16_eq hf v.l2, Option.bind_some, e4, Option.bind_some]
    obtain ⟨b, eb, b3, b4, b5⟩ : ∃ b, (if b0 > a then b0 else a) = b ∧ a ≤ b ∧ b ≤ lstX t ∧ fstX t ≤ b := ⟨_, rfl, by split <;> omega, by split <;> omega, by split <;> omega⟩
    rw [eb]
    obtain ⟨d, ed, d3, d4, d5⟩ : ∃ d, (if c0 > b then c0 else b) = d ∧ b ≤ d ∧ d ≤ lstX t ∧ fstX t ≤ d := ⟨_, rfl, by split <;> omega, by split <;> omega, by split <;> omega⟩
    rw [ed, F15_eq hf v C.len (C.ok v), Option.bind_some, F18_eq hf v h67 (show a ≤ d by omega) a1 d4, Option.bind_some, F18_eq hf v h67 b3 a1 b4, Option.bind_some, F18_eq hf v h67 d3 b5 d4, Option.bind_some]
    have z0 : ((0 : Int) != 0) = false := rfl
    simp only [z0, cond_false]
    have hM := MM_pos v
    obtain ⟨w1, w2⟩ := tw_W v (C.ok v) (show a ≤ d by omega)
    have l1 := arLo_eq v (show a ≤ d by omega)
    have l2 := arLo_eq v b3
    have l3 := arLo_eq v d3
    have u1 := arHi_eq v (show a ≤ d by omega)
    have u2 := arHi_eq v b3
    have u3 := arHi_eq v d3
    have m1 := SA_mono v (ys := loY t) (zs := nu cu) (show a ≤ d by omega) fun j hj => (C.bd j hj).1
    have m2 := SA_mono v (ys := nu cu) (zs := hiY t) (show a ≤ d by omega) fun j hj => (C.bd j hj).2
    have f1 := Int.ediv_le_ediv hM m1
    obtain ⟨f2, f3⟩ := floor_ceil hM m2
    have s1 : SA t (loY t) a d = SA t (loY t) a b + SA t (loY t) b d := SS_add t _ a b d _
    have s2 : SA t (hiY t) a d = SA t (hiY t) a b + SA t (hiY t) b d := SS_add t _ a b d _
    have g1 := floor_add (s := SA t (loY t) a b) (s' := SA t (loY t) b d) hM
    have g2 := ceil_add (s := SA t (hiY t) a b) (s' := SA t (hiY t) b d) hM
    rw [← s1, ← l1, ← l2, ← l3] at g1
    rw [← s2, ← u1, ← u2, ← u3] at g2
    rw [← l1, ← w1] at f1
    rw [← u1, ← w1] at f2 f3
    have fin : F3_j1 f (arLo t a d, arHi t a d, 0) (arLo t a b, arHi t a b, 0) (arLo t b d, arHi t b d, 0) false = some true := by
      have q1 := ar_bd v a d
      have q2 := ar_bd v a b
      have q3 := ar_bd v b d
      unfold F3_j1 F3_j2
      simp only [cond_false]
      rw [w64_id (n := arLo t a d - arLo t a b) (by omega) (by omega), w64_id (n := arLo t a d - arLo t a b - arLo t b d) (by omega) (by omega), w64_id (n := arHi t a b + arHi t b d) (by omega) (by omega), w64_id (n := arHi t a b + arHi t b d - arHi t a d) (by omega) (by omega), decide_eq_true (by omega), decide_eq_true (by omega), decide_eq_true (by omega), decide_eq_true (by omega), hs]; rfl
    rw [decide_eq_false (show ¬ arLo t a d > _ by omega), cond_false, decide_eq_false (show ¬ _ > arHi t a d by omega), cond_false]
    by_cases hN : (tw t (nu cu) a d (t.length - 1)).N > 0
    · have := f3 (w2.1 hN)
      have hb : ((tw t (nu cu) a d (t.length - 1)).W == arHi t a d) = false := beq_eq_false_iff_ne.2 this
      rw [decide_eq_true hN, cond_true, hb]; exact fin
    · rw [decide_eq_false hN, cond_false]; exact fin
  · rw [h12, Option.bind_some, Bool.not_false, cond_true, hs]; rfl
end Go.Proofs.Ytpjmgeajajcceaa
