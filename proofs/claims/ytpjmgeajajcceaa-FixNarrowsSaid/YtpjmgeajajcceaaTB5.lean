/-
  Tables and curves, as the law makes them. No condition.
-/
import Derived.Test.YtpjmgeajajcceaaT5
import Derived.Test.YtpjmgeajajcceaaTK
import Derived.Test.YtpjmgeajajcceaaTW
set_option linter.unusedSimpArgs false
set_option linter.unusedVariables false
namespace Go.Proofs.Ytpjmgeajajcceaa
open Go.Sl Go.Sx
/-
  Tables, as the reference reckons them: when one is valid, and its value at a place. No condition.
-/
theorem F12_step {t : List Pt} (hl : t.length ≤ 40) (n i : Nat) (hi : i < t.length) :
    ∃ c : Bool, F12_l1 t (n + 1) (i : Int) = cond c (F12_l1 t n ((i + 1 : Nat) : Int)) (some false) ∧ (c = true ↔ goodT t i) := by
  rw [F12_l1, decide_eq_true (by omega : (i : Int) < (t.length : Int)), cond_true, getI_pt hi, Option.bind_some]
  unfold F12_j2
  by_cases h1 : (pt t i).x < 0
  · exact ⟨false, by simp [h1], (fun h => by cases h), fun h => by have := h.1.x0; omega⟩
  · by_cases h2 : (pt t i).x > 1000000
    · exact ⟨false, by simp [h1, h2], (fun h => by cases h), fun h => by have := h.1.x1; omega⟩
    · by_cases h3 : (pt t i).lo < -1000000000
      · refine ⟨false, ?_, (fun h => by cases h), fun h => by have := h.1.lo; omega⟩
        by_cases h5 : 0 < i
        · rw [pred_w (by omega) h5, getI_pt (by omega : i - 1 < t.length)]
          by_cases h6 : (pt t (i - 1)).x ≥ (pt t i).x <;> simp [h1, h2, h3, h5, h6]
        · simp [h1, h2, h3, h5]
      · by_cases h4 : (pt t i).lo > (pt t i).hi
        · refine ⟨false, ?_, (fun h => by cases h), fun h => by have := h.1.le; omega⟩
          by_cases h5 : 0 < i
          · rw [pred_w (by omega) h5, getI_pt (by omega : i - 1 < t.length)]
            by_cases h6 : (pt t (i - 1)).x ≥ (pt t i).x <;> simp [h1, h2, h3, h4, h5, h6]
          · simp [h1, h2, h3, h4, h5]
        · by_cases h7 : (pt t i).hi > 1000000000
          · refine ⟨false, ?_, (fun h => by cases h), fun h => by have := h.1.hi; omega⟩
            by_cases h5 : 0 < i
            · rw [pred_w (by omega) h5, getI_pt (by omega : i - 1 < t.length)]
              by_cases h6 : (pt t (i - 1)).x ≥ (pt t i).x <;> simp [h1, h2, h3, h4, h5, h6, h7]
            · simp [h1, h2, h3, h4, h5, h7]
          · have hok : okP (pt t i) := ⟨by omega, by omega, by omega, by omega, by omega⟩
            by_cases h5 : 0 < i
            · rw [pred_w (by omega) h5, getI_pt (by omega : i - 1 < t.length)]
              by_cases h6 : (pt t (i - 1)).x ≥ (pt t i).x
              · exact ⟨false, by simp [h1, h2, h3, h4, h5, h6, h7], (fun h => by cases h), fun h => by have := h.2 h5; omega⟩
              · refine ⟨true, ?_, fun _ => ⟨hok, fun _ => by omega⟩, fun _ => rfl⟩
                simp [h1, h2, h3, h4, h5, h6, h7, succ_w (show i < 4000000000 by omega)]
            · refine ⟨true, ?_, fun _ => ⟨hok, fun h => absurd h h5⟩, fun _ => rfl⟩
              have : i = 0 := by omega
              subst this
              simp [h1, h2, h3, h4, h7, show w64 1 = 1 by decide]
theorem F12_cases {f : Nat} (hf : 50 ≤ f) (t : List Pt) : (VT t ∧ F12 f t = some true) ∨ (¬ VT t ∧ F12 f t = some false) := by
  rw [VT_iff]
  unfold F12 F12_j1
  by_cases h0 : (t.length : Int) < 1
  · rw [decide_eq_true h0]
    exact .inr ⟨fun hh => by omega, rfl⟩
  · rw [decide_eq_false h0, cond_false]
    by_cases h : (t.length : Int) > 40
    · rw [decide_eq_true h]
      exact .inr ⟨fun hh => by omega, rfl⟩
    · rw [decide_eq_false h, cond_false]
      have hl : 1 ≤ t.length ∧ t.length ≤ 40 := by omega
      have he : ∀ n, F12_l1 t (n + 1) (t.length : Int) = some true := fun n => by
        rw [F12_l1, decide_eq_false (by omega), cond_false]
      rcases loop_all (F12_step hl.2) he f 0 (Nat.zero_le _) (by omega) with ⟨h1, h2⟩ | ⟨h1, h2⟩
      · exact .inl ⟨⟨hl, h1⟩, h2⟩
      · exact .inr ⟨fun h => h1 h.2, h2⟩
theorem F73_eq (f : Nat) {t : List Pt} (v : VT t) : F73 f t = some (fstX t) := by
  have h1 := v.l1
  have e0 := getI_pt (t := t) (i := 0) (by omega)
  rw [show ((0 : Nat) : Int) = 0 from rfl] at e0
  unfold F73
  rw [e0]; rfl
theorem F74_eq (f : Nat) {t : List Pt} (v : VT t) : F74 f t = some (lstX t) := by
  have h1 := v.l1
  have h2 := v.l2
  unfold F74
  rw [pred_w (by omega) (by omega), getI_pt (by omega)]; rfl
def nu (l : List Int) (i : Nat) : Int := l.getD i 0
theorem getI_nu {l : List Int} {i : Nat} (h : i < l.length) : getI l (i : Int) = some (nu l i) := by rw [getI_of h]; simp [nu, h]
theorem ceil_mod {n d : Int} (hd : 0 < d) : -((-n) / d) = if n % d > 0 then n / d + 1 else n / d := by
  have e1 := Int.mul_ediv_add_emod n d
  have r0 := Int.emod_nonneg n (b := d) (by omega)
  have r1 := Int.emod_lt_of_pos n hd
  split
  · have : (-n) / d = -(n / d) - 1 := ((Int.ediv_emod_unique (a := -n) (b := d) (r := d - n % d) (q := -(n / d) - 1) hd).2 ⟨by rw [Int.mul_sub, Int.mul_neg]; omega, by omega, by omega⟩).1
    omega
  · have : (-n) / d = -(n / d) := ((Int.ediv_emod_unique (a := -n) (b := d) (r := 0) (q := -(n / d)) hd).2 ⟨by rw [Int.mul_neg]; omega, by omega, by omega⟩).1
    omega
/-
  The plain law of FixAreas. No condition.
-/
theorem F14_eq (f : Nat) {t : List Pt} (v : VT t) (x : Int) : ∃ p, F14 f t x = some p ∧ fstX t ≤ p ∧ p ≤ lstX t := by
  have d := fst_bd v
  have hle : fstX t ≤ lstX t := v.mono_le (Nat.zero_le _) (by have := v.l1; omega)
  unfold F14
  rw [F73_eq f v, F74_eq f v, Option.bind_some, Option.bind_some, w64_id (n := lstX t - fstX t) (by omega) (by omega), w64_id (n := lstX t - fstX t + 1) (by omega) (by omega), nzS (by omega), Option.bind_some, Option.bind_some]
  have h1 := Int.lt_tmod_of_pos x (b := lstX t - fstX t + 1) (by omega)
  have h2 := Int.tmod_lt_of_pos x (b := lstX t - fstX t + 1) (by omega)
  rw [w64_id (n := Int.tmod x (lstX t - fstX t + 1) + (lstX t - fstX t + 1)) (by omega) (by omega)]
  have h3 := Int.tmod_nonneg (lstX t - fstX t + 1) (a := Int.tmod x (lstX t - fstX t + 1) + (lstX t - fstX t + 1)) (by omega)
  have h4 := Int.tmod_lt_of_pos (Int.tmod x (lstX t - fstX t + 1) + (lstX t - fstX t + 1)) (b := lstX t - fstX t + 1) (by omega)
  exact ⟨_, rfl, by rw [w64_id (by omega) (by omega)]; omega, by rw [w64_id (by omega) (by omega)]; omega⟩
/-- A curve within a table. -/
structure Curv (t : List Pt) (c : List Int) : Prop where
  len : c.length = t.length
  bd : ∀ i, i < t.length → (pt t i).lo ≤ nu c i ∧ nu c i ≤ (pt t i).hi
theorem nu_app1 {l m : List Int} {i : Nat} (h : i < l.length) : nu (l ++ m) i = nu l i := by simp [nu, List.getD, List.getElem?_append_left h]
theorem nu_app2 {l : List Int} {x : Int} : nu (l ++ [x]) l.length = x := by simp [nu, List.getD]
theorem F17_l1_eq {t : List Pt} (v : VT t) (c : List Int) : ∀ n i (out : List Int), i ≤ t.length → t.length - i < n → out.length = i → (∀ j, j < i → (pt t j).lo ≤ nu out j ∧ nu out j ≤ (pt t j).hi) →
    ∃ out', F17_l1 t c n out (i : Int) = some out' ∧ Curv t out'
  | 0, i, _, _, hn, _, _ => by omega
  | n + 1, i, out, hi, hn, ho, hb => by
    have hl := v.l2
    rw [F17_l1]
    rcases Nat.eq_or_lt_of_le hi with e | e
    · subst e
      rw [decide_eq_false (by omega), cond_false]
      exact ⟨out, rfl, ho, hb⟩
    · rw [decide_eq_true (by omega), cond_true, getI_pt e, Option.bind_some]
      have ok := v.ok i e
      have h1 := ok.lo
      have h2 := ok.le
      have h3 := ok.hi
      have step : ∀ y : Int, ∃ out', F17_j1 (F17_l1 t c n) out (i : Int) (pt t i) y = some out' ∧ Curv t out' := fun y => by
        unfold F17_j1
        rw [w64_id (n := (pt t i).hi - (pt t i).lo) (by omega) (by omega), w64_id (n := (pt t i).hi - (pt t i).lo + 1) (by omega) (by omega), nzS (by omega), Option.bind_some, Option.bind_some]
        have k1 := Int.lt_tmod_of_pos y (b := (pt t i).hi - (pt t i).lo + 1) (by omega)
        have k2 := Int.tmod_lt_of_pos y (b := (pt t i).hi - (pt t i).lo + 1) (by omega)
        rw [w64_id (n := Int.tmod y ((pt t i).hi - (pt t i).lo + 1) + ((pt t i).hi - (pt t i).lo + 1)) (by omega) (by omega)]
        have k3 := Int.tmod_nonneg ((pt t i).hi - (pt t i).lo + 1) (a := Int.tmod y ((pt t i).hi - (pt t i).lo + 1) + ((pt t i).hi - (pt t i).lo + 1)) (by omega)
        have k4 := Int.tmod_lt_of_pos (Int.tmod y ((pt t i).hi - (pt t i).lo + 1) + ((pt t i).hi - (pt t i).lo + 1)) (b := (pt t i).hi - (pt t i).lo + 1) (by omega)
        rw [w64_id (n := (pt t i).lo + _) (by omega) (by omega), appC_eq (by simp; omega), Option.bind_some, succ_w (by omega)]
        refine F17_l1_eq v c n (i + 1) _ e (by omega) (by simp [ho]) fun j hj => ?_
        rcases Nat.eq_or_lt_of_le (Nat.le_of_lt_succ hj) with e' | e'
        · subst e'
          rw [← ho, nu_app2, ho]; omega
        · rw [nu_app1 (by omega)]; exact hb j e'
      by_cases hc : (c.length : Int) > 0
      · have hlt : i % c.length < c.length := Nat.mod_lt _ (by omega)
        have et : Int.tmod (i : Int) (c.length : Int) = ((i % c.length : Nat) : Int) := by
          rw [Int.tmod_eq_emod_of_nonneg (by omega)]; simp
        rw [decide_eq_true hc, cond_true, nzS (by omega), Option.bind_some, et, getI_of hlt, Option.bind_some]
        exact step _
      · rw [decide_eq_false hc, cond_false]
        exact step 0
theorem F17_eq {f : Nat} (hf : 50 ≤ f) {t : List Pt} (v : VT t) (c : List Int) : ∃ out, F17 f t c = some out ∧ Curv t out := by
  have := v.l2
  exact F17_l1_eq v c f 0 [] (Nat.zero_le _) (by omega) rfl (fun j hj => by omega)
theorem Curv.ok {t : List Pt} (v : VT t) {c : List Int} (h : Curv t c) : okY t (nu c) := fun i hi => by
  have := h.bd i hi
  obtain ⟨_, _, h1, h2, h3⟩ := v.ok i hi
  omega
theorem ar_bd {t : List Pt} (v : VT t) (a b : Int) : -500000000000000000 ≤ arLo t a b ∧ arLo t a b ≤ 500000000000000000 ∧ -500000000000000000 ≤ arHi t a b ∧ arHi t a b ≤ 500000000000000001 := by
  have hl1 := v.l1
  have hl2 := v.l2
  have h1 := tw_bd v (okY_lo v) a b (t.length - 1) (by omega)
  have h2 := tw_bd v (okY_hi v) a b (t.length - 1) (by omega)
  have := h1.w0; have := h1.w1; have := h2.w0; have := h2.w1
  unfold arLo arHi
  refine ⟨by omega, by omega, ?_, ?_⟩ <;> split <;> omega
end Go.Proofs.Ytpjmgeajajcceaa
