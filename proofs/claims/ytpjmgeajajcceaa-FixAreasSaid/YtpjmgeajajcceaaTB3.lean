/-
  Tables, as the reference reckons them. No condition.
-/
import Derived.Test.YtpjmgeajajcceaaT3
import Derived.Test.YtpjmgeajajcceaaTA2
set_option linter.unusedSimpArgs false
set_option linter.unusedVariables false
namespace Go.Proofs.Ytpjmgeajajcceaa
open Go.Sl Go.Sx
/-
  Tables, as the reference reckons them: when one is valid, and its value at a place. No condition.
-/
theorem F12_step {t : List Pt} (hl : t.length ≤ 40) (n i : Nat) (hi : i < t.length) :
    ∃ c : Bool, F12_l1 t (n + 1) (i : Int) = cond c (F12_l1 t n ((i + 1 : Nat) : Int)) (some false) ∧ (c = true ↔ goodT t i) := by
  rw [F12_l1, decide_eq_true (by omega : (i : Int) < (t.length : Int)), cond_true, getI_pt hi, Option.bind_some]
  unfold F12_j2
  by_cases h1 : (pt t i).x < 0
  · exact ⟨false, by simp [h1], (fun h => by cases h), fun h => by have := h.1.x0; omega⟩
  · by_cases h2 : (pt t i).x > 1000000
    · exact ⟨false, by simp [h1, h2], (fun h => by cases h), fun h => by have := h.1.x1; omega⟩
    · by_cases h3 : (pt t i).lo < -1000000000
      · refine ⟨false, ?_, (fun h => by cases h), fun h => by have := h.1.lo; omega⟩
        by_cases h5 : 0 < i
        · rw [pred_w (by omega) h5, getI_pt (by omega : i - 1 < t.length)]
          by_cases h6 : (pt t (i - 1)).x ≥ (pt t i).x <;> simp [h1, h2, h3, h5, h6]
        · simp [h1, h2, h3, h5]
      · by_cases h4 : (pt t i).lo > (pt t i).hi
        · refine ⟨false, ?_, (fun h => by cases h), fun h => by have := h.1.le; omega⟩
          by_cases h5 : 0 < i
          · rw [pred_w (by omega) h5, getI_pt (by omega : i - 1 < t.length)]
            by_cases h6 : (pt t (i - 1)).x ≥ (pt t i).x <;> simp [h1, h2, h3, h4, h5, h6]
          · simp [h1, h2, h3, h4, h5]
        · by_cases h7 : (pt t i).hi > 1000000000
          · refine ⟨false, ?_, (fun h => by cases h), fun h => by have := h.1.hi; omega⟩
            by_cases h5 : 0 < i
            · rw [pred_w (by omega) h5, getI_pt (by omega : i - 1 < t.length)]
              by_cases h6 : (pt t (i - 1)).x ≥ (pt t i).x <;> simp [h1, h2, h3, h4, h5, h6, h7]
            · simp [h1, h2, h3, h4, h5, h7]
          · have hok : okP (pt t i) := ⟨by omega, by omega, by omega, by omega, by omega⟩
            by_cases h5 : 0 < i
            · rw [pred_w (by omega) h5, getI_pt (by omega : i - 1 < t.length)]
              by_cases h6 : (pt t (i - 1)).x ≥ (pt t i).x
              · exact ⟨false, by simp [h1, h2, h3, h4, h5, h6, h7], (fun h => by cases h), fun h => by have := h.2 h5; omega⟩
              · refine ⟨true, ?_, fun _ => ⟨hok, fun _ => by omega⟩, fun _ => rfl⟩
                simp [h1, h2, h3, h4, h5, h6, h7, succ_w (show i < 4000000000 by omega)]
            · refine ⟨true, ?_, fun _ => ⟨hok, fun h => absurd h h5⟩, fun _ => rfl⟩
              have : i = 0 := by omega
              subst this
              simp [h1, h2, h3, h4, h7, show w64 1 = 1 by decide]
theorem F12_cases {f : Nat} (hf : 50 ≤ f) (t : List Pt) : (VT t ∧ F12 f t = some true) ∨ (¬ VT t ∧ F12 f t = some false) := by
  rw [VT_iff]
  unfold F12 F12_j1
  by_cases h0 : (t.length : Int) < 1
  · rw [decide_eq_true h0]
    exact .inr ⟨fun hh => by omega, rfl⟩
  · rw [decide_eq_false h0, cond_false]
    by_cases h : (t.length : Int) > 40
    · rw [decide_eq_true h]
      exact .inr ⟨fun hh => by omega, rfl⟩
    · rw [decide_eq_false h, cond_false]
      have hl : 1 ≤ t.length ∧ t.length ≤ 40 := by omega
      have he : ∀ n, F12_l1 t (n + 1) (t.length : Int) = some true := fun n => by
        rw [F12_l1, decide_eq_false (by omega), cond_false]
      rcases loop_all (F12_step hl.2) he f 0 (Nat.zero_le _) (by omega) with ⟨h1, h2⟩ | ⟨h1, h2⟩
      · exact .inl ⟨⟨hl, h1⟩, h2⟩
      · exact .inr ⟨fun h => h1 h.2, h2⟩
theorem F73_eq (f : Nat) {t : List Pt} (v : VT t) : F73 f t = some (fstX t) := by
  have h1 := v.l1
  have e0 := getI_pt (t := t) (i := 0) (by omega)
  rw [show ((0 : Nat) : Int) = 0 from rfl] at e0
  unfold F73
  rw [e0]; rfl
theorem F74_eq (f : Nat) {t : List Pt} (v : VT t) : F74 f t = some (lstX t) := by
  have h1 := v.l1
  have h2 := v.l2
  unfold F74
  rw [pred_w (by omega) (by omega), getI_pt (by omega)]; rfl
theorem F100_eq (f : Nat) {x d : Int} (hd : 1 ≤ d) (h1 : -4000000000000000000 ≤ x) (h2 : x ≤ 4000000000000000000) : F100 f x d = some (x / d) := by
  have hn : nz d = some () := nzS (by omega)
  obtain ⟨b1, b2⟩ := tdivB (d := d) h1 h2
  rw [← floorT hd]
  unfold F100 F100_j1
  simp only [hn, Option.bind_some]
  rw [w64_id (n := Int.tdiv x d) (by omega) (by omega), w64_id (n := Int.tdiv x d - 1) (by omega) (by omega)]
  by_cases h : Int.tmod x d < 0
  · rw [decide_eq_true h, if_pos h]; rfl
  · rw [decide_eq_false h, if_neg h]; rfl

/-! ### Value -/
def nu (l : List Int) (i : Nat) : Int := l.getD i 0
theorem getI_nu {l : List Int} {i : Nat} (h : i < l.length) : getI l (i : Int) = some (nu l i) := by rw [getI_of h]; simp [nu, h]
/-- Places in a table's order. -/
def xsOf (t : List Pt) : List Int := t.map (·.x)
theorem xsOf_len (t : List Pt) : (xsOf t).length = t.length := by simp [xsOf]
theorem nu_xs {t : List Pt} {i : Nat} (h : i < t.length) : nu (xsOf t) i = (pt t i).x := by simp [nu, xsOf, pt, h]
theorem nu_lo {t : List Pt} {i : Nat} (h : i < t.length) : nu (t.map (·.lo)) i = (pt t i).lo := by simp [nu, pt, h]
theorem nu_hi {t : List Pt} {i : Nat} (h : i < t.length) : nu (t.map (·.hi)) i = (pt t i).hi := by simp [nu, pt, h]
/-- The exact value at a place: whole part, numerator, denominator. -/
def valAt (t : List Pt) (ys : List Int) (i : Nat) (x : Int) : Int × Int × Int :=
  if x = (pt t i).x then (nu ys i, 0, 1) else
    (dn (pt t i).x (pt t (i + 1)).x (nu ys i) (nu ys (i + 1)) x, ((nu ys (i + 1) - nu ys i) * (x - (pt t i).x)) % ((pt t (i + 1)).x - (pt t i).x), (pt t (i + 1)).x - (pt t i).x)
theorem F80_l1_eq {t : List Pt} (hl : t.length ≤ 40) : ∀ n i, i ≤ t.length → t.length - i < n →
    F80_l1 t n ((t.map (·.hi)).take i) ((t.map (·.lo)).take i) ((xsOf t).take i) (i : Int) = some (xsOf t, t.map (·.lo), t.map (·.hi))
  | 0, i, _, hn => by omega
  | n + 1, i, hi, hn => by
    rw [F80_l1]
    rcases Nat.eq_or_lt_of_le hi with e | e
    · subst e
      rw [decide_eq_false (by omega), cond_false]
      simp [xsOf, List.take_of_length_le]
    · rw [decide_eq_true (by omega), cond_true, getI_of e, Option.bind_some]
      have g : ∀ (f : Pt → Int), appC ((t.map f).take i) [f t[i]] = some ((t.map f).take (i + 1)) := fun f => by
        rw [appC_eq (by simp; omega)]
        congr 1
        rw [List.take_succ_eq_append_getElem (by simpa using e)]
        simp
      have g0 : appC ((xsOf t).take i) [t[i].x] = some ((xsOf t).take (i + 1)) := g (·.x)
      rw [g0, Option.bind_some, g (·.lo), Option.bind_some, g (·.hi), Option.bind_some, succ_w (by omega)]
      exact F80_l1_eq hl n (i + 1) e (by omega)
theorem F80_eq {f : Nat} (hf : 50 ≤ f) {t : List Pt} (hl : t.length ≤ 40) : F80 f t = some (xsOf t, t.map (·.lo), t.map (·.hi)) := by
  have := F80_l1_eq hl f 0 (Nat.zero_le _) (by omega)
  exact this
theorem ceil_mod {n d : Int} (hd : 0 < d) : -((-n) / d) = if n % d > 0 then n / d + 1 else n / d := by
  have e1 := Int.mul_ediv_add_emod n d
  have r0 := Int.emod_nonneg n (b := d) (by omega)
  have r1 := Int.emod_lt_of_pos n hd
  split
  · have : (-n) / d = -(n / d) - 1 := ((Int.ediv_emod_unique (a := -n) (b := d) (r := d - n % d) (q := -(n / d) - 1) hd).2 ⟨by rw [Int.mul_sub, Int.mul_neg]; omega, by omega, by omega⟩).1
    omega
  · have : (-n) / d = -(n / d) := ((Int.ediv_emod_unique (a := -n) (b := d) (r := 0) (q := -(n / d)) hd).2 ⟨by rw [Int.mul_neg]; omega, by omega, by omega⟩).1
    omega
end Go.Proofs.Ytpjmgeajajcceaa
