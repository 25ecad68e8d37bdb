/-
  Tables and curves, as the law makes them. No condition.
-/
import Derived.Test.YtpjmgeajajcceaaT11b
import Derived.Test.YtpjmgeajajcceaaTL
import Derived.Test.YtpjmgeajajcceaaTP
set_option linter.unusedSimpArgs false
set_option linter.unusedVariables false
namespace Go.Proofs.Ytpjmgeajajcceaa
open Go.Sl Go.Sx
/-
  Tables and curves, as the law makes them; Above. No condition.
-/
/-
  Tables, as the reference reckons them: when one is valid, and its value at a place. No condition.
-/
theorem F12_step {t : List Pt} (hl : t.length ≤ 40) (n i : Nat) (hi : i < t.length) :
    ∃ c : Bool, F12_l1 t (n + 1) (i : Int) = cond c (F12_l1 t n ((i + 1 : Nat) : Int)) (some false) ∧ (c = true ↔ goodT t i) := by
  rw [F12_l1, decide_eq_true (by omega : (i : Int) < (t.length : Int)), cond_true, getI_pt hi, Option.bind_some]
  unfold F12_j2
  by_cases h1 : (pt t i).x < 0
  · exact ⟨false, by simp [h1], (fun h => by cases h), fun h => by have := h.1.x0; omega⟩
  · by_cases h2 : (pt t i).x > 1000000
    · exact ⟨false, by simp [h1, h2], (fun h => by cases h), fun h => by have := h.1.x1; omega⟩
    · by_cases h3 : (pt t i).lo < -1000000000
      · refine ⟨false, ?_, (fun h => by cases h), fun h => by have := h.1.lo; omega⟩
        by_cases h5 : 0 < i
        · rw [pred_w (by omega) h5, getI_pt (by omega : i - 1 < t.length)]
          by_cases h6 : (pt t (i - 1)).x ≥ (pt t i).x <;> simp [h1, h2, h3, h5, h6]
        · simp [h1, h2, h3, h5]
      · by_cases h4 : (pt t i).lo > (pt t i).hi
        · refine ⟨false, ?_, (fun h => by cases h), fun h => by have := h.1.le; omega⟩
          by_cases h5 : 0 < i
          · rw [pred_w (by omega) h5, getI_pt (by omega : i - 1 < t.length)]
            by_cases h6 : (pt t (i - 1)).x ≥ (pt t i).x <;> simp [h1, h2, h3, h4, h5, h6]
          · simp [h1, h2, h3, h4, h5]
        · by_cases h7 : (pt t i).hi > 1000000000
          · refine ⟨false, ?_, (fun h => by cases h), fun h => by have := h.1.hi; omega⟩
            by_cases h5 : 0 < i
            · rw [pred_w (by omega) h5, getI_pt (by omega : i - 1 < t.length)]
              by_cases h6 : (pt t (i - 1)).x ≥ (pt t i).x <;> simp [h1, h2, h3, h4, h5, h6, h7]
            · simp [h1, h2, h3, h4, h5, h7]
          · have hok : okP (pt t i) := ⟨by omega, by omega, by omega, by omega, by omega⟩
            by_cases h5 : 0 < i
            · rw [pred_w (by omega) h5, getI_pt (by omega : i - 1 < t.length)]
              by_cases h6 : (pt t (i - 1)).x ≥ (pt t i).x
              · exact ⟨false, by simp [h1, h2, h3, h4, h5, h6, h7], (fun h => by cases h), fun h => by have := h.2 h5; omega⟩
              · refine ⟨true, ?_, fun _ => ⟨hok, fun _ => by omega⟩, fun _ => rfl⟩
                simp [h1, h2, h3, h4, h5, h6, h7, succ_w (show i < 4000000000 by omega)]
            · refine ⟨true, ?_, fun _ => ⟨hok, fun h => absurd h h5⟩, fun _ => rfl⟩
              have : i = 0 := by omega
              subst this
              simp [h1, h2, h3, h4, h7, show w64 1 = 1 by decide]
theorem F12_cases {f : Nat} (hf : 50 ≤ f) (t : List Pt) : (VT t ∧ F12 f t = some true) ∨ (¬ VT t ∧ F12 f t = some false) := by
  rw [VT_iff]
  unfold F12 F12_j1
  by_cases h0 : (t.length : Int) < 1
  · rw [decide_eq_true h0]
    exact .inr ⟨fun hh => by omega, rfl⟩
  · rw [decide_eq_false h0, cond_false]
    by_cases h : (t.length : Int) > 40
    · rw [decide_eq_true h]
      exact .inr ⟨fun hh => by omega, rfl⟩
    · rw [decide_eq_false h, cond_false]
      have hl : 1 ≤ t.length ∧ t.length ≤ 40 := by omega
      have he : ∀ n, F12_l1 t (n + 1) (t.length : Int) = some true := fun n => by
        rw [F12_l1, decide_eq_false (by omega), cond_false]
      rcases loop_all (F12_step hl.2) he f 0 (Nat.zero_le _) (by omega) with ⟨h1, h2⟩ | ⟨h1, h2⟩
      · exact .inl ⟨⟨hl, h1⟩, h2⟩
      · exact .inr ⟨fun h => h1 h.2, h2⟩
theorem F73_eq (f : Nat) {t : List Pt} (v : VT t) : F73 f t = some (fstX t) := by
  have h1 := v.l1
  have e0 := getI_pt (t := t) (i := 0) (by omega)
  rw [show ((0 : Nat) : Int) = 0 from rfl] at e0
  unfold F73
  rw [e0]; rfl
theorem F74_eq (f : Nat) {t : List Pt} (v : VT t) : F74 f t = some (lstX t) := by
  have h1 := v.l1
  have h2 := v.l2
  unfold F74
  rw [pred_w (by omega) (by omega), getI_pt (by omega)]; rfl
theorem F100_eq (f : Nat) {x d : Int} (hd : 1 ≤ d) (h1 : -4000000000000000000 ≤ x) (h2 : x ≤ 4000000000000000000) : F100 f x d = some (x / d) := by
  have hn : nz d = some () := nzS (by omega)
  obtain ⟨b1, b2⟩ := tdivB (d := d) h1 h2
  rw [← floorT hd]
  unfold F100 F100_j1
  simp only [hn, Option.bind_some]
  rw [w64_id (n := Int.tdiv x d) (by omega) (by omega), w64_id (n := Int.tdiv x d - 1) (by omega) (by omega)]
  by_cases h : Int.tmod x d < 0
  · rw [decide_eq_true h, if_pos h]; rfl
  · rw [decide_eq_false h, if_neg h]; rfl

/-! ### Value -/
def nu (l : List Int) (i : Nat) : Int := l.getD i 0
theorem getI_nu {l : List Int} {i : Nat} (h : i < l.length) : getI l (i : Int) = some (nu l i) := by rw [getI_of h]; simp [nu, h]
/-- Places in a table's order. -/
def xsOf (t : List Pt) : List Int := t.map (·.x)
theorem xsOf_len (t : List Pt) : (xsOf t).length = t.length := by simp [xsOf]
theorem nu_xs {t : List Pt} {i : Nat} (h : i < t.length) : nu (xsOf t) i = (pt t i).x := by simp [nu, xsOf, pt, h]
theorem nu_lo {t : List Pt} {i : Nat} (h : i < t.length) : nu (t.map (·.lo)) i = (pt t i).lo := by simp [nu, pt, h]
theorem nu_hi {t : List Pt} {i : Nat} (h : i < t.length) : nu (t.map (·.hi)) i = (pt t i).hi := by simp [nu, pt, h]
/-- The exact value at a place: whole part, numerator, denominator. -/
def valAt (t : List Pt) (ys : List Int) (i : Nat) (x : Int) : Int × Int × Int :=
  if x = (pt t i).x then (nu ys i, 0, 1) else
    (dn (pt t i).x (pt t (i + 1)).x (nu ys i) (nu ys (i + 1)) x, ((nu ys (i + 1) - nu ys i) * (x - (pt t i).x)) % ((pt t (i + 1)).x - (pt t i).x), (pt t (i + 1)).x - (pt t i).x)
theorem F30_l1_eq (f : Nat) {t : List Pt} (v : VT t) {ys : List Int} (hy : ys.length = t.length) (hb : ∀ i, i < t.length → -1000000000 ≤ nu ys i ∧ nu ys i ≤ 1000000000) {x : Int} {i : Nat} (s : Seg t x i) :
    ∀ n k, k ≤ i → i - k < n → F30_l1 f (xsOf t) ys x n (k : Int) = some (valAt t ys i x)
  | 0, k, _, hn => by omega
  | n + 1, k, hk, hn => by
    have hl := v.l2
    have hlt := s.lt
    rw [F30_l1, succ_w (by omega), xsOf_len]
    rcases Nat.eq_or_lt_of_le hk with e | e
    · subst e
      have stop : F30_j1 f (F30_l1 f (xsOf t) ys x n) (xsOf t) ys x (k : Int) false = some (valAt t ys k x) := by
        unfold F30_j1 valAt
        rw [cond_false, getI_nu (by rw [xsOf_len]; omega), nu_xs hlt, Option.bind_some]
        by_cases hx : x = (pt t k).x
        · rw [if_pos hx, hx]
          simp only [beq_self_eq_true, cond_true]
          rw [getI_nu (by omega)]; rfl
        · have hne : ((pt t k).x == x) = false := by simp; omega
          have hlt2 : k + 1 < t.length := by
            rcases Nat.eq_or_lt_of_le (show k + 1 ≤ t.length from hlt) with e | e
            · exact absurd (s.last e) hx
            · exact e
          rw [if_neg hx, hne, cond_false, succ_w (by omega), getI_nu (by rw [xsOf_len]; omega), getI_nu (by omega), getI_nu (by omega), nu_xs hlt2]
          simp only [Option.bind_some]
          have o1 := v.ok k hlt
          have o2 := v.ok (k + 1) hlt2
          have up := v.up k hlt2
          have b1 := hb k hlt
          have b2 := hb (k + 1) hlt2
          have hle := s.le
          have hnx := s.nx hlt2
          obtain ⟨p1, p2, _, _, _⟩ := o1
          obtain ⟨q1, q2, _, _, _⟩ := o2
          have m1 := mulB (x := nu ys (k + 1) - nu ys k) (y := x - (pt t k).x) (m := 2000000000) (n := 1000000) (by omega) (by omega)
          have e1 : w64 (nu ys (k + 1) - nu ys k) = nu ys (k + 1) - nu ys k := w64_id (by omega) (by omega)
          have e2 : w64 (x - (pt t k).x) = x - (pt t k).x := w64_id (by omega) (by omega)
          have e3 : w64 ((nu ys (k + 1) - nu ys k) * (x - (pt t k).x)) = (nu ys (k + 1) - nu ys k) * (x - (pt t k).x) := w64_id (by omega) (by omega)
          have e4 : w64 ((pt t (k + 1)).x - (pt t k).x) = (pt t (k + 1)).x - (pt t k).x := w64_id (by omega) (by omega)
          rw [e1, e2, e3, e4, F100_eq f (by omega) (by omega) (by omega), Option.bind_some]
          have hd := Int.mul_ediv_add_emod ((nu ys (k + 1) - nu ys k) * (x - (pt t k).x)) ((pt t (k + 1)).x - (pt t k).x)
          rw [Int.mul_comm] at hd
          have r0 := Int.emod_nonneg ((nu ys (k + 1) - nu ys k) * (x - (pt t k).x)) (b := (pt t (k + 1)).x - (pt t k).x) (by omega)
          have r1 := Int.emod_lt_of_pos ((nu ys (k + 1) - nu ys k) * (x - (pt t k).x)) (b := (pt t (k + 1)).x - (pt t k).x) (by omega)
          have d1 : -2000000000000000 ≤ ((nu ys (k + 1) - nu ys k) * (x - (pt t k).x)) / ((pt t (k + 1)).x - (pt t k).x) := Int.le_ediv_of_mul_le (by omega) (by omega)
          have d2 : ((nu ys (k + 1) - nu ys k) * (x - (pt t k).x)) / ((pt t (k + 1)).x - (pt t k).x) ≤ 2000000000000000 := Int.ediv_le_of_le_mul (by omega) (by omega)
          have e5 : w64 (((nu ys (k + 1) - nu ys k) * (x - (pt t k).x)) / ((pt t (k + 1)).x - (pt t k).x) * ((pt t (k + 1)).x - (pt t k).x)) = _ := w64_id (by omega) (by omega)
          rw [e5, w64_id (n := nu ys k + _) (by omega) (by omega), w64_id (by omega) (by omega)]
          unfold dn
          congr 3
          omega
      by_cases h2 : k + 1 < t.length
      · rw [decide_eq_true (by omega), cond_true, getI_nu (by rw [xsOf_len]; omega), nu_xs h2, Option.bind_some, decide_eq_false (by have := s.nx h2; omega)]
        exact stop
      · rw [decide_eq_false (by omega), cond_false]
        exact stop
    · have h2 : (pt t (k + 1)).x ≤ x := Int.le_trans (v.mono_le (i := k + 1) (j := i) e hlt) s.le
      rw [decide_eq_true (by omega), cond_true, getI_nu (by rw [xsOf_len]; omega), nu_xs (by omega), Option.bind_some, decide_eq_true h2]
      unfold F30_j1
      rw [cond_true, succ_w (by omega)]
      exact F30_l1_eq f v hy hb s n (k + 1) e (by omega)
theorem F30_eq {f : Nat} (hf : 50 ≤ f) {t : List Pt} (v : VT t) {ys : List Int} (hy : ys.length = t.length) (hb : ∀ i, i < t.length → -1000000000 ≤ nu ys i ∧ nu ys i ≤ 1000000000) {x : Int} {i : Nat} (s : Seg t x i) :
    F30 f (xsOf t) ys x = some (valAt t ys i x) := by
  have h1 := v.l2
  have h2 := s.lt
  have := F30_l1_eq f v hy hb s f 0 (Nat.zero_le _) (by omega)
  exact this
theorem F80_l1_eq {t : List Pt} (hl : t.length ≤ 40) : ∀ n i, i ≤ t.length → t.length - i < n →
    F80_l1 t n ((t.map (·.hi)).take i) ((t.map (·.lo)).take i) ((xsOf t).take i) (i : Int) = some (xsOf t, t.map (·.lo), t.map (·.hi))
  | 0, i, _, hn => by omega
  | n + 1, i, hi, hn => by
    rw [F80_l1]
    rcases Nat.eq_or_lt_of_le hi with e | e
    · subst e
      rw [decide_eq_false (by omega), cond_false]
      simp [xsOf, List.take_of_length_le]
    · rw [decide_eq_true (by omega), cond_true, getI_of e, Option.bind_some]
      have g : ∀ (f : Pt → Int), appC ((t.map f).take i) [f t[i]] = some ((t.map f).take (i + 1)) := fun f => by
        rw [appC_eq (by simp; omega)]
        congr 1
        rw [List.take_succ_eq_append_getElem (by simpa using e)]
        simp
      have g0 : appC ((xsOf t).take i) [t[i].x] = some ((xsOf t).take (i + 1)) := g (·.x)
      rw [g0, Option.bind_some, g (·.lo), Option.bind_some, g (·.hi), Option.bind_some, succ_w (by omega)]
      exact F80_l1_eq hl n (i + 1) e (by omega)
theorem F80_eq {f : Nat} (hf : 50 ≤ f) {t : List Pt} (hl : t.length ≤ 40) : F80 f t = some (xsOf t, t.map (·.lo), t.map (·.hi)) := by
  have := F80_l1_eq hl f 0 (Nat.zero_le _) (by omega)
  exact this
theorem ceil_mod {n d : Int} (hd : 0 < d) : -((-n) / d) = if n % d > 0 then n / d + 1 else n / d := by
  have e1 := Int.mul_ediv_add_emod n d
  have r0 := Int.emod_nonneg n (b := d) (by omega)
  have r1 := Int.emod_lt_of_pos n hd
  split
  · have : (-n) / d = -(n / d) - 1 := ((Int.ediv_emod_unique (a := -n) (b := d) (r := d - n % d) (q := -(n / d) - 1) hd).2 ⟨by rw [Int.mul_sub, Int.mul_neg]; omega, by omega, by omega⟩).1
    omega
  · have : (-n) / d = -(n / d) := ((Int.ediv_emod_unique (a := -n) (b := d) (r := 0) (q := -(n / d)) hd).2 ⟨by rw [Int.mul_neg]; omega, by omega, by omega⟩).1
    omega
/-
  The plain law of FixAreas. No condition.
-/
theorem F14_eq (f : Nat) {t : List Pt} (v : VT t) (x : Int) : ∃ p, F14 f t x = some p ∧ fstX t ≤ p ∧ p ≤ lstX t := by
  have d := fst_bd v
  have hle : fstX t ≤ lstX t := v.mono_le (Nat.zero_le _) (by have := v.l1; omega)
  unfold F14
  rw [F73_eq f v, F74_eq f v, Option.bind_some, Option.bind_some, w64_id (n := lstX t - fstX t) (by omega) (by omega), w64_id (n := lstX t - fstX t + 1) (by omega) (by omega), nzS (by omega), Option.bind_some, Option.bind_some]
  have h1 := Int.lt_tmod_of_pos x (b := lstX t - fstX t + 1) (by omega)
  have h2 := Int.tmod_lt_of_pos x (b := lstX t - fstX t + 1) (by omega)
  rw [w64_id (n := Int.tmod x (lstX t - fstX t + 1) + (lstX t - fstX t + 1)) (by omega) (by omega)]
  have h3 := Int.tmod_nonneg (lstX t - fstX t + 1) (a := Int.tmod x (lstX t - fstX t + 1) + (lstX t - fstX t + 1)) (by omega)
  have h4 := Int.tmod_lt_of_pos (Int.tmod x (lstX t - fstX t + 1) + (lstX t - fstX t + 1)) (b := lstX t - fstX t + 1) (by omega)
  exact ⟨_, rfl, by rw [w64_id (by omega) (by omega)]; omega, by rw [w64_id (by omega) (by omega)]; omega⟩
theorem F16_eq {f : Nat} (hf : 50 ≤ f) {t : List Pt} (hl : t.length ≤ 40) : F16 f t = some (xsOf t) := by
  unfold F16; rw [F80_eq hf hl]; rfl
/-- A curve within a table. -/
structure Curv (t : List Pt) (c : List Int) : Prop where
  len : c.length = t.length
  bd : ∀ i, i < t.length → (pt t i).lo ≤ nu c i ∧ nu c i ≤ (pt t i).hi
theorem nu_app1 {l m : List Int} {i : Nat} (h : i < l.length) : nu (l ++ m) i = nu l i := by simp [nu, List.getD, List.getElem?_append_left h]
theorem nu_app2 {l : List Int} {x : Int} : nu (l ++ [x]) l.length = x := by simp [nu, List.getD]
theorem F17_l1_eq {t : List Pt} (v : VT t) (c : List Int) : ∀ n i (out : List Int), i ≤ t.length → t.length - i < n → out.length = i → (∀ j, j < i → (pt t j).lo ≤ nu out j ∧ nu out j ≤ (pt t j).hi) →
    ∃ out', F17_l1 t c n out (i : Int) = some out' ∧ Curv t out'
  | 0, i, _, _, hn, _, _ => by omega
  | n + 1, i, out, hi, hn, ho, hb => by
    have hl := v.l2
    rw [F17_l1]
    rcases Nat.eq_or_lt_of_le hi with e | e
    · subst e
      rw [decide_eq_false (by omega), cond_false]
      exact ⟨out, rfl, ho, hb⟩
    · rw [decide_eq_true (by omega), cond_true, getI_pt e, Option.bind_some]
      have ok := v.ok i e
      have h1 := ok.lo
      have h2 := ok.le
      have h3 := ok.hi
      have step : ∀ y : Int, ∃ out', F17_j1 (F17_l1 t c n) out (i : Int) (pt t i) y = some out' ∧ Curv t out' := fun y => by
        unfold F17_j1
        rw [w64_id (n := (pt t i).hi - (pt t i).lo) (by omega) (by omega), w64_id (n := (pt t i).hi - (pt t i).lo + 1) (by omega) (by omega), nzS (by omega), Option.bind_some, Option.bind_some]
        have k1 := Int.lt_tmod_of_pos y (b := (pt t i).hi - (pt t i).lo + 1) (by omega)
        have k2 := Int.tmod_lt_of_pos y (b := (pt t i).hi - (pt t i).lo + 1) (by omega)
        rw [w64_id (n := Int.tmod y ((pt t i).hi - (pt t i).lo + 1) + ((pt t i).hi - (pt t i).lo + 1)) (by omega) (by omega)]
        have k3 := Int.tmod_nonneg ((pt t i).hi - (pt t i).lo + 1) (a := Int.tmod y ((pt t i).hi - (pt t i).lo + 1) + ((pt t i).hi - (pt t i).lo + 1)) (by omega)
        have k4 := Int.tmod_lt_of_pos (Int.tmod y ((pt t i).hi - (pt t i).lo + 1) + ((pt t i).hi - (pt t i).lo + 1)) (b := (pt t i).hi - (pt t i).lo + 1) (by omega)
        rw [w64_id (n := (pt t i).lo + _) (by omega) (by omega), appC_eq (by simp; omega), Option.bind_some, succ_w (by omega)]
        refine F17_l1_eq v c n (i + 1) _ e (by omega) (by simp [ho]) fun j hj => ?_
        rcases Nat.eq_or_lt_of_le (Nat.le_of_lt_succ hj) with e' | e'
        · subst e'
          rw [← ho, nu_app2, ho]; omega
        · rw [nu_app1 (by omega)]; exact hb j e'
      by_cases hc : (c.length : Int) > 0
      · have hlt : i % c.length < c.length := Nat.mod_lt _ (by omega)
        have et : Int.tmod (i : Int) (c.length : Int) = ((i % c.length : Nat) : Int) := by
          rw [Int.tmod_eq_emod_of_nonneg (by omega)]; simp
        rw [decide_eq_true hc, cond_true, nzS (by omega), Option.bind_some, et, getI_of hlt, Option.bind_some]
        exact step _
      · rw [decide_eq_false hc, cond_false]
        exact step 0
theorem F17_eq {f : Nat} (hf : 50 ≤ f) {t : List Pt} (v : VT t) (c : List Int) : ∃ out, F17 f t c = some out ∧ Curv t out := by
  have := v.l2
  exact F17_l1_eq v c f 0 [] (Nat.zero_le _) (by omega) rfl (fun j hj => by omega)
theorem Curv.ok {t : List Pt} (v : VT t) {c : List Int} (h : Curv t c) : okY t (nu c) := fun i hi => by
  have := h.bd i hi
  obtain ⟨_, _, h1, h2, h3⟩ := v.ok i hi
  omega
theorem F27_eq {f : Nat} (hf : 50 ≤ f) {t : List Pt} (v : VT t) (h67 : F67 f t = some 0) (x : Int) : F27 f t x = some (if fstX t ≤ x ∧ x ≤ lstX t then ((atV t x).1, (atV t x).2, 0) else (0, 0, 4)) := by
  unfold F27
  rw [h67, Option.bind_some, cond_z, F81_eq f v, Option.bind_some]
  by_cases h : fstX t ≤ x ∧ x ≤ lstX t
  · rw [if_pos h, decide_eq_true h, Bool.not_true, cond_false, F88_at hf v h.1 h.2]; rfl
  · rw [if_neg h, decide_eq_false h]; rfl
theorem dn_le {a b y z y' z' x : Int} (h : a < b) (h1 : a ≤ x) (h2 : x ≤ b) (hy : y ≤ y') (hz : z ≤ z') : dn a b y z x ≤ dn a b y' z' x := by
  rw [← dn_eq h, ← dn_eq h]
  have p1 := Int.mul_le_mul_of_nonneg_right hy (show 0 ≤ b - x by omega)
  have p2 := Int.mul_le_mul_of_nonneg_right hz (show 0 ≤ x - a by omega)
  exact Int.ediv_le_ediv (by omega) (by omega)
theorem upw_le {a b y z y' z' x : Int} (h : a < b) (h1 : a ≤ x) (h2 : x ≤ b) (hy : y ≤ y') (hz : z ≤ z') : upw a b y z x ≤ upw a b y' z' x := by
  have := dn_le (y := -y') (z := -z') (y' := -y) (z' := -z) h h1 h2 (by omega) (by omega)
  rw [upw_neg, upw_neg]; omega
end Go.Proofs.Ytpjmgeajajcceaa
