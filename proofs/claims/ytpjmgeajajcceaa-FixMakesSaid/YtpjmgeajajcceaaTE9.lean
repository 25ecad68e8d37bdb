/-
  The places of two tables: the program's and the reference's list are one. No condition.
-/
import Derived.Test.YtpjmgeajajcceaaPX9
import Derived.Test.YtpjmgeajajcceaaTS
set_option linter.unusedSimpArgs false
set_option linter.unusedVariables false
namespace Go.Proofs.Ytpjmgeajajcceaa
open Go.Sl Go.Sx

theorem subI_eq {α : Type} {xs : List α} {i j : Nat} (h1 : i ≤ j) (h2 : j ≤ xs.length) : subI xs (i : Int) (j : Int) = some ((xs.take j).drop i) := by
  unfold subI
  rw [if_pos (by omega)]
  simp

/-! ### Insertion -/
theorem F129_l1_eq {l : List Int} (hs : Rise l) (hl : l.length ≤ 1000) (x : Int) : ∀ n i, i ≤ l.length → i < n → (∀ j (h : j < l.length), i ≤ j → x ≤ l[j]) →
    ∃ l', F129_l1 l x n (i : Int) = some l' ∧ Rise l' ∧ (∀ y, y ∈ l' ↔ y ∈ l ∨ y = x) ∧ l'.length ≤ l.length + 1
  | 0, i, _, hn, _ => by omega
  | n + 1, i, hi, hn, hge => by
    rw [F129_l1]
    have stop : (∀ j (h : j < l.length), j < i → l[j] < x) → ∃ l', F129_j1 (F129_l1 l x n) l x (i : Int) false = some l' ∧ Rise l' ∧ (∀ y, y ∈ l' ↔ y ∈ l ∨ y = x) ∧ l'.length ≤ l.length + 1 := fun hlt => by
      unfold F129_j1 F129_j2
      rw [cond_false]
      have ins : (∀ j (h : j < l.length), i ≤ j → x < l[j]) → ∃ l', ((subI l 0 (i : Int)).bind fun d1 => ((appC ([]) d1).bind fun d2 => ((appC d2 ([x])).bind fun d3 => ((subI l (i : Int) (l.length : Int)).bind fun d4 => ((appC d3 d4).bind fun d5 => (some (d5))))))) = some l' ∧ Rise l' ∧ (∀ y, y ∈ l' ↔ y ∈ l ∨ y = x) ∧ l'.length ≤ l.length + 1 := fun hgt => by
        have e0 := subI_eq (xs := l) (i := 0) (j := i) (by omega) hi
        rw [show ((0 : Nat) : Int) = 0 from rfl] at e0
        have e1 := subI_eq (xs := l) (i := i) (j := l.length) hi (Nat.le_refl _)
        rw [List.drop_zero] at e0
        rw [List.take_length] at e1
        rw [e0, Option.bind_some, appC_eq (by simp; omega), Option.bind_some, appC_eq (by simp; omega), Option.bind_some, e1, Option.bind_some, appC_eq (by simp; omega), Option.bind_some]
        refine ⟨_, rfl, ?_, fun y => ?_, by simp; omega⟩
        · rw [List.nil_append]
          have h3 : Rise (l.take i) := hs.sublist (List.take_sublist _ _)
          have h4 : Rise (l.drop i) := hs.sublist (List.drop_sublist _ _)
          have ht : ∀ a ∈ l.take i, a < x := fun a ha => by
            obtain ⟨j, hj, rfl⟩ := List.mem_iff_getElem.1 ha
            simp only [List.length_take] at hj
            rw [List.getElem_take]; exact hlt j (by omega) (by omega)
          have hd : ∀ a ∈ l.drop i, x < a := fun a ha => by
            obtain ⟨j, hj, rfl⟩ := List.mem_iff_getElem.1 ha
            rw [List.length_drop] at hj
            rw [List.getElem_drop]; exact hgt (i + j) (by omega) (by omega)
          refine List.pairwise_append.2 ⟨List.pairwise_append.2 ⟨h3, List.pairwise_singleton _ _, fun a ha b hb => ?_⟩, h4, fun a ha b hb => ?_⟩
          · simp only [List.mem_singleton] at hb; subst hb; exact ht a ha
          · rcases List.mem_append.1 ha with ha | ha
            · exact Int.lt_trans (ht a ha) (hd b hb)
            · simp only [List.mem_singleton] at ha; subst ha; exact hd b hb
        · rw [List.nil_append, List.mem_append, List.mem_append, List.mem_singleton]
          conv => rhs; rw [← List.take_append_drop i l, List.mem_append]
          constructor
          · rintro ((h | h) | h)
            · exact .inl (.inl h)
            · exact .inr h
            · exact .inl (.inr h)
          · rintro ((h | h) | h)
            · exact .inl (.inl h)
            · exact .inr h
            · exact .inl (.inr h)
      by_cases h1 : i < l.length
      · rw [decide_eq_true (by omega), cond_true, getI_of h1, Option.bind_some]
        by_cases h2 : l[i] = x
        · have : (l[i] == x) = true := by simp [h2]
          rw [this, cond_true]
          exact ⟨l, rfl, hs, fun y => ⟨.inl, fun h => h.elim id fun e => e ▸ h2 ▸ List.getElem_mem h1⟩, by omega⟩
        · have : (l[i] == x) = false := by simp [h2]
          rw [this, cond_false]
          refine ins fun j hj hij => ?_
          have h3 := hge i h1 (Nat.le_refl _)
          rcases Nat.eq_or_lt_of_le hij with e | e
          · subst e; omega
          · have := hs.get e hj; omega
      · rw [decide_eq_false (by omega), cond_false, cond_false]
        exact ins fun j hj hij => by omega
    by_cases h0 : 0 < i
    · rw [decide_eq_true (by omega), cond_true, pred_w (by omega) h0, getI_of (by omega : i - 1 < l.length), Option.bind_some]
      by_cases h2 : l[i - 1] ≥ x
      · rw [decide_eq_true h2]
        unfold F129_j1
        rw [cond_true, pred_w (by omega) h0]
        refine F129_l1_eq hs hl x n (i - 1) (by omega) (by omega) fun j hj hij => ?_
        rcases Nat.eq_or_lt_of_le hij with e | e
        · subst e; exact h2
        · exact hge j hj (by omega)
      · rw [decide_eq_false h2]
        refine stop fun j hj hji => ?_
        rcases Nat.eq_or_lt_of_le (show j ≤ i - 1 by omega) with e | e
        · subst e; omega
        · have := hs.get e (show i - 1 < l.length by omega); omega
    · rw [decide_eq_false (by omega), cond_false]
      exact stop fun j hj hji => by omega
theorem F129_eq {f : Nat} {l : List Int} (hs : Rise l) (hl : l.length ≤ 1000) (hf : l.length < f) (x : Int) :
    ∃ l', F129 f l x = some l' ∧ Rise l' ∧ (∀ y, y ∈ l' ↔ y ∈ l ∨ y = x) ∧ l'.length ≤ l.length + 1 :=
  F129_l1_eq hs hl x f l.length (Nat.le_refl _) hf fun j hj hij => by omega

/-- Is a place in both domains? -/
def inB (t u : List Pt) (x : Int) : Prop := (fstX t ≤ x ∧ x ≤ lstX t) ∧ (fstX u ≤ x ∧ x ≤ lstX u)
instance (t u : List Pt) (x : Int) : Decidable (inB t u x) := by unfold inB; infer_instance

theorem F112_l1_eq {f : Nat} (hf : 1000 ≤ f) {t u : List Pt} (v : VT t) (v' : VT u) {d : List Pt} (hd : d.length ≤ 100) : ∀ n i (ys : List Int), i ≤ d.length → d.length - i < n → Rise ys → ys.length ≤ i →
    ∃ l, F112_l1 f t u d n ys (i : Int) = some l ∧ Rise l ∧ (∀ y, y ∈ l ↔ y ∈ ys ∨ ∃ j, i ≤ j ∧ j < d.length ∧ (pt d j).x = y ∧ inB t u y) ∧ l.length ≤ d.length
  | 0, i, _, _, hn, _, _ => by omega
  | n + 1, i, ys, hi, hn, hr, hy => by
    rw [F112_l1]
    rcases Nat.eq_or_lt_of_le hi with e | e
    · subst e
      rw [decide_eq_false (by omega), cond_false]
      exact ⟨ys, rfl, hr, fun y => ⟨.inl, fun h => h.elim id fun ⟨j, h1, h2, _⟩ => by omega⟩, hy⟩
    · rw [decide_eq_true (by omega), cond_true, getI_pt e, Option.bind_some, F91_eq f v, Option.bind_some]
      unfold F112_j2 F112_j1
      have no : ¬ inB t u (pt d i).x → ∃ l, F112_l1 f t u d n ys (w64 ((i : Int) + 1)) = some l ∧ Rise l ∧ (∀ y, y ∈ l ↔ y ∈ ys ∨ ∃ j, i ≤ j ∧ j < d.length ∧ (pt d j).x = y ∧ inB t u y) ∧ l.length ≤ d.length := fun hno => by
        rw [succ_w (by omega)]
        obtain ⟨l, h1, h2, h3, h4⟩ := F112_l1_eq hf v v' hd n (i + 1) ys e (by omega) hr (by omega)
        refine ⟨l, h1, h2, fun y => (h3 y).trans ⟨fun h => ?_, fun h => ?_⟩, h4⟩
        · exact h.imp id fun ⟨j, a, b⟩ => ⟨j, by omega, b⟩
        · refine h.imp id fun ⟨j, a, b, c, g⟩ => ⟨j, ?_, b, c, g⟩
          rcases Nat.eq_or_lt_of_le a with e' | e'
          · subst e'; subst c; exact absurd g hno
          · exact e'
      by_cases h1 : fstX t ≤ (pt d i).x ∧ (pt d i).x ≤ lstX t
      · rw [decide_eq_true h1, cond_true, F91_eq f v', Option.bind_some]
        by_cases h2 : fstX u ≤ (pt d i).x ∧ (pt d i).x ≤ lstX u
        · rw [decide_eq_true h2, cond_true]
          obtain ⟨l1, e1, r1, m1, n1⟩ := F129_eq (f := f) hr (by omega) (by omega) (pt d i).x
          rw [e1, Option.bind_some, succ_w (by omega)]
          obtain ⟨l, h1', h2', h3, h4⟩ := F112_l1_eq hf v v' hd n (i + 1) l1 e (by omega) r1 (by omega)
          refine ⟨l, h1', h2', fun y => (h3 y).trans ⟨fun h => ?_, fun h => ?_⟩, h4⟩
          · rcases h with h | ⟨j, a, b⟩
            · rcases (m1 y).1 h with h | h
              · exact .inl h
              · subst h; exact .inr ⟨i, Nat.le_refl _, e, rfl, h1, h2⟩
            · exact .inr ⟨j, by omega, b⟩
          · rcases h with h | ⟨j, a, b, c, g⟩
            · exact .inl ((m1 y).2 (.inl h))
            · rcases Nat.eq_or_lt_of_le a with e' | e'
              · subst e'; exact .inl ((m1 y).2 (.inr c.symm))
              · exact .inr ⟨j, e', b, c, g⟩
        · rw [decide_eq_false h2, cond_false]
          exact no fun h => h2 h.2
      · rw [decide_eq_false h1, cond_false, cond_false]
        exact no fun h => h1 h.1

/-- The places of two tables. -/
structure Places (t u : List Pt) (l : List Int) : Prop where
  rise : Rise l
  mem : ∀ y, y ∈ l ↔ (∃ j, j < (t ++ u).length ∧ (pt (t ++ u) j).x = y) ∧ inB t u y
  len : l.length ≤ 80
theorem F112_eq {f : Nat} (hf : 1000 ≤ f) {t u : List Pt} (v : VT t) (v' : VT u) : ∃ l, F112 f t u = some l ∧ Places t u l := by
  have h1 := v.l2
  have h2 := v'.l2
  unfold F112
  rw [appC_eq (by simp; omega), Option.bind_some, List.nil_append, appC_eq (by omega), Option.bind_some]
  obtain ⟨l, a, b, c, d⟩ := F112_l1_eq hf v v' (d := t ++ u) (by simp; omega) f 0 [] (Nat.zero_le _) (by simp; omega) List.Pairwise.nil (Nat.zero_le _)
  refine ⟨l, a, b, fun y => (c y).trans ⟨fun h => ?_, fun ⟨⟨j, x, z⟩, g⟩ => .inr ⟨j, Nat.zero_le _, x, z, g⟩⟩, by simp at d; omega⟩
  rcases h with h | ⟨j, _, x, z, g⟩
  · cases h
  · exact ⟨⟨j, x, z⟩, g⟩

/-! ### The program's places -/
theorem getI2_0 {α : Type} (a b : α) : getI [a, b] 0 = some a := rfl
theorem getI2_1 {α : Type} (a b : α) : getI [a, b] 1 = some b := rfl
theorem F125_eq {f : Nat} (hf : 50 ≤ f) {t u : List Pt} (h1 : t.length ≤ 40) (h2 : u.length ≤ 40) : F125 f [t, u] = some (t ++ u) := by
  obtain ⟨n, rfl⟩ : ∃ n, f = n + 3 := ⟨f - 3, by omega⟩
  have k0 : w64 (0 + (t.length : Int)) = (t.length : Int) := by rw [w64_id (by omega) (by omega)]; omega
  have k1 : w64 ((t.length : Int) + (u.length : Int)) = (t.length : Int) + (u.length : Int) := w64_id (by omega) (by omega)
  have f1 : decide ((0 : Int) < ([t, u].length : Int)) = true := rfl
  have f2 : decide ((1 : Int) < ([t, u].length : Int)) = true := rfl
  have f3 : decide ((2 : Int) < ([t, u].length : Int)) = false := rfl
  have a0 : w64 (0 + 1) = 1 := by decide
  have a1 : w64 (1 + 1) = 2 := by decide
  have hg : growC ((t.length : Int) + (u.length : Int)) = some () := by unfold growC; rw [if_pos (by omega)]
  unfold F125
  rw [F125_l1, f1, cond_true, getI2_0, Option.bind_some, k0, decide_eq_false (by omega), cond_false, a0, F125_l1, f2, cond_true, getI2_1, Option.bind_some, k1, decide_eq_false (by omega), cond_false, a1, F125_l1, f3, cond_false, hg, Option.bind_some]
  rw [F125_l2, f1, cond_true, getI2_0, Option.bind_some, appC_eq (by simp; omega), Option.bind_some, a0, F125_l2, f2, cond_true, getI2_1, Option.bind_some, appC_eq (by simp; omega), Option.bind_some, a1, F125_l2, f3, cond_false, List.nil_append]
theorem lenC_eq {α : Type} {xs : List α} (h : xs.length ≤ 1000000) : lenC xs = some () := by unfold lenC; rw [if_pos (by omega)]
theorem F43_eq' (f : Nat) (a b n : Int) (h : V a b) : F43 f a b n = some (decide (a ≤ n ∧ n ≤ b)) := by
  unfold F43 F43_j1
  rw [F52_eq, Option.bind_some, if_pos h]
  show (F90 f n a b).bind _ = _
  rw [F90_eq]; rfl
end Go.Proofs.Ytpjmgeajajcceaa
