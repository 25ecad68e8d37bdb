/-
  The plain law of FixTables, second part. No condition.
-/
import Derived.Test.YtpjmgeajajcceaaTC
set_option linter.unusedSimpArgs false
set_option linter.unusedVariables false
namespace Go.Proofs.Ytpjmgeajajcceaa
open Go.Sl Go.Sx

theorem rise_eq {f : Nat} (hf : 50 ≤ f) {t : List Pt} (v : VT t) (h67 : F67 f t = some 0) (h12 : F12 f t = some true) : ∃ b, F28 f t = some b ∧ F70 f t = some b := by
  have hl := v.l2
  have h1 := v.l1
  unfold F28 F70
  rw [h67, h12, Option.bind_some, Option.bind_some, cond_z, Bool.not_true, cond_false, sub_tail h1, Option.bind_some]
  have s1 : ∀ n i, i < (t.drop 1).length → ∃ c : Bool, F28_l1 f t (t.drop 1) (n + 1) (i : Int) = cond c (F28_l1 f t (t.drop 1) n ((i + 1 : Nat) : Int)) (some false) ∧ (c = true ↔ (pt t (i + 1)).lo ≥ (pt t i).hi) := fun n i hi => by
    rw [List.length_drop] at hi
    rw [F28_l1, decide_eq_true (by rw [List.length_drop]; omega), cond_true, getI_tail (by omega), getI_pt (by omega), Option.bind_some, Option.bind_some, succ_w (by omega)]
    unfold F98 F28_j1
    by_cases h : (pt t (i + 1)).lo ≥ (pt t i).hi
    · exact ⟨true, by rw [decide_eq_true h]; rfl, fun _ => h, fun _ => rfl⟩
    · exact ⟨false, by rw [decide_eq_false h]; rfl, (fun e => by cases e), fun e => absurd e h⟩
  have e1 : ∀ n, F28_l1 f t (t.drop 1) (n + 1) ((t.drop 1).length : Int) = some true := fun n => by
    rw [F28_l1, decide_eq_false (by omega), cond_false]; rfl
  have s2 : ∀ n i, i < t.length - 1 → ∃ c : Bool, F70_l1 t (n + 1) ((i : Int) + 1) = cond c (F70_l1 t n (((i + 1 : Nat) : Int) + 1)) (some false) ∧ (c = true ↔ (pt t (i + 1)).lo ≥ (pt t i).hi) := fun n i hi => by
    have ei : (i : Int) + 1 = ((i + 1 : Nat) : Int) := by simp
    rw [ei, F70_l1, decide_eq_true (by omega), cond_true, getI_pt (by omega), pred_w (by omega) (by omega), getI_pt (by omega), Option.bind_some, Option.bind_some, succ_w (by omega)]
    by_cases h : (pt t (i + 1)).lo ≥ (pt t i).hi
    · exact ⟨true, by rw [decide_eq_false (by simp; omega)]; rfl, fun _ => h, fun _ => rfl⟩
    · exact ⟨false, by rw [decide_eq_true (by simp; omega)]; rfl, (fun e => by cases e), fun e => absurd e h⟩
  have e2 : ∀ n, F70_l1 t (n + 1) (((t.length - 1 : Nat) : Int) + 1) = some true := fun n => by
    rw [F70_l1, decide_eq_false (by omega), cond_false]
  have r1 := loop_all s1 e1 f 0 (Nat.zero_le _) (by rw [List.length_drop]; omega)
  have r2 := loop_all (L := fun n i => F70_l1 t n (i + 1)) s2 e2 f 0 (Nat.zero_le _) (by omega)
  rw [List.length_drop] at r1
  rcases r1 with ⟨a1, b1⟩ | ⟨a1, b1⟩ <;> rcases r2 with ⟨a2, b2⟩ | ⟨a2, b2⟩
  · exact ⟨true, b1, b2⟩
  · exact absurd a1 a2
  · exact absurd a2 a1
  · exact ⟨false, b1, b2⟩

theorem fall_eq {f : Nat} (hf : 50 ≤ f) {t : List Pt} (v : VT t) (h67 : F67 f t = some 0) (h12 : F12 f t = some true) : ∃ b, F29 f t = some b ∧ F71 f t = some b := by
  have hl := v.l2
  have h1 := v.l1
  unfold F29 F71
  rw [h67, h12, Option.bind_some, Option.bind_some, cond_z, Bool.not_true, cond_false, sub_tail h1, Option.bind_some]
  have s1 : ∀ n i, i < (t.drop 1).length → ∃ c : Bool, F29_l1 f t (t.drop 1) (n + 1) (i : Int) = cond c (F29_l1 f t (t.drop 1) n ((i + 1 : Nat) : Int)) (some false) ∧ (c = true ↔ (pt t (i + 1)).hi ≤ (pt t i).lo) := fun n i hi => by
    rw [List.length_drop] at hi
    rw [F29_l1, decide_eq_true (by rw [List.length_drop]; omega), cond_true, getI_tail (by omega), getI_pt (by omega), Option.bind_some, Option.bind_some, succ_w (by omega)]
    unfold F99 F29_j1
    by_cases h : (pt t (i + 1)).hi ≤ (pt t i).lo
    · exact ⟨true, by rw [decide_eq_true h]; rfl, fun _ => h, fun _ => rfl⟩
    · exact ⟨false, by rw [decide_eq_false h]; rfl, (fun e => by cases e), fun e => absurd e h⟩
  have e1 : ∀ n, F29_l1 f t (t.drop 1) (n + 1) ((t.drop 1).length : Int) = some true := fun n => by
    rw [F29_l1, decide_eq_false (by omega), cond_false]; rfl
  have s2 : ∀ n i, i < t.length - 1 → ∃ c : Bool, F71_l1 t (n + 1) ((i : Int) + 1) = cond c (F71_l1 t n (((i + 1 : Nat) : Int) + 1)) (some false) ∧ (c = true ↔ (pt t (i + 1)).hi ≤ (pt t i).lo) := fun n i hi => by
    have ei : (i : Int) + 1 = ((i + 1 : Nat) : Int) := by simp
    rw [ei, F71_l1, decide_eq_true (by omega), cond_true, getI_pt (by omega), pred_w (by omega) (by omega), getI_pt (by omega), Option.bind_some, Option.bind_some, succ_w (by omega)]
    by_cases h : (pt t (i + 1)).hi ≤ (pt t i).lo
    · exact ⟨true, by rw [decide_eq_false (by simp; omega)]; rfl, fun _ => h, fun _ => rfl⟩
    · exact ⟨false, by rw [decide_eq_true (by simp; omega)]; rfl, (fun e => by cases e), fun e => absurd e h⟩
  have e2 : ∀ n, F71_l1 t (n + 1) (((t.length - 1 : Nat) : Int) + 1) = some true := fun n => by
    rw [F71_l1, decide_eq_false (by omega), cond_false]
  have r1 := loop_all s1 e1 f 0 (Nat.zero_le _) (by rw [List.length_drop]; omega)
  have r2 := loop_all (L := fun n i => F71_l1 t n (i + 1)) s2 e2 f 0 (Nat.zero_le _) (by omega)
  rw [List.length_drop] at r1
  rcases r1 with ⟨a1, b1⟩ | ⟨a1, b1⟩ <;> rcases r2 with ⟨a2, b2⟩ | ⟨a2, b2⟩
  · exact ⟨true, b1, b2⟩
  · exact absurd a1 a2
  · exact absurd a2 a1
  · exact ⟨false, b1, b2⟩

theorem curve_eq {f : Nat} (hf : 50 ≤ f) {t : List Pt} (v : VT t) (h67 : F67 f t = some 0) (h12 : F12 f t = some true) (c : List Int) : ∃ e, F31 f t c = some e ∧ F69 f t c = some e := by
  have hl := v.l2
  have h1 := v.l1
  unfold F31 F69
  rw [h67, h12, Option.bind_some, Option.bind_some, cond_z, Bool.not_true, cond_false]
  by_cases hc : c.length = t.length
  · have hb : ((c.length : Int) != (t.length : Int)) = false := by simp [hc]
    rw [hb, cond_false, cond_false]
    have s1 : ∀ n i, i < t.length → ∃ b : Bool, F31_l1 f t c (n + 1) (i : Int) = cond b (F31_l1 f t c n ((i + 1 : Nat) : Int)) (some 4) ∧ (b = true ↔ (pt t i).lo ≤ nu c i ∧ nu c i ≤ (pt t i).hi) := fun n i hi => by
      rw [F31_l1, decide_eq_true (by omega), cond_true, getI_pt hi, getI_nu (by omega), Option.bind_some, Option.bind_some, F90_eq, Option.bind_some, succ_w (by omega)]
      by_cases h : (pt t i).lo ≤ nu c i ∧ nu c i ≤ (pt t i).hi
      · exact ⟨true, by rw [decide_eq_true h]; rfl, fun _ => h, fun _ => rfl⟩
      · exact ⟨false, by rw [decide_eq_false h]; rfl, (fun e => by cases e), fun e => absurd e h⟩
    have e1 : ∀ n, F31_l1 f t c (n + 1) (t.length : Int) = some 0 := fun n => by
      rw [F31_l1, decide_eq_false (by omega), cond_false]
    have s2 : ∀ n i, i < t.length → ∃ b : Bool, F69_l1 t c (n + 1) (i : Int) = cond b (F69_l1 t c n ((i + 1 : Nat) : Int)) (some 4) ∧ (b = true ↔ (pt t i).lo ≤ nu c i ∧ nu c i ≤ (pt t i).hi) := fun n i hi => by
      rw [F69_l1, decide_eq_true (by omega), cond_true, getI_nu (by omega), getI_pt hi, Option.bind_some, Option.bind_some, Option.bind_some]
      unfold F69_j1
      rw [succ_w (by omega)]
      by_cases h : nu c i < (pt t i).lo
      · exact ⟨false, by rw [decide_eq_true h]; rfl, (fun e => by cases e), fun e => by omega⟩
      · by_cases h' : nu c i > (pt t i).hi
        · exact ⟨false, by rw [decide_eq_false h, decide_eq_true h']; rfl, (fun e => by cases e), fun e => by omega⟩
        · exact ⟨true, by rw [decide_eq_false h, decide_eq_false h']; rfl, fun _ => by omega, fun _ => rfl⟩
    have e2 : ∀ n, F69_l1 t c (n + 1) (t.length : Int) = some 0 := fun n => by
      rw [F69_l1, decide_eq_false (by omega), cond_false]
    have r1 := loop_all s1 e1 f 0 (Nat.zero_le _) (by omega)
    have r2 := loop_all s2 e2 f 0 (Nat.zero_le _) (by omega)
    rcases r1 with ⟨a1, b1⟩ | ⟨a1, b1⟩ <;> rcases r2 with ⟨a2, b2⟩ | ⟨a2, b2⟩
    · exact ⟨0, b1, b2⟩
    · exact absurd a1 a2
    · exact absurd a2 a1
    · exact ⟨4, b1, b2⟩
  · have hb : ((c.length : Int) != (t.length : Int)) = true := by simp; omega
    rw [hb]
    exact ⟨4, rfl, rfl⟩

theorem beq_self_i (a : Int) : (a == a) = true := by simp
theorem beq_self_b (a : Bool) : (a == a) = true := by simp
theorem bne_self_i (a : Int) : (a != a) = false := by simp
theorem F10_true (t : List Pt) (c : List Int) (x y : Int) : F10 2000 t c x y = some true := by
  have hf : 50 ≤ 2000 := by decide
  have hs : F13 2000 = some true := sane_big
  unfold F10
  rcases F67_cases hf t with ⟨v, h67⟩ | ⟨v, h67⟩
  · have h12 : F12 2000 t = some true := by rcases F12_cases hf t with ⟨_, h⟩ | ⟨h, _⟩; exact h; exact absurd v h
    obtain ⟨l, e, hl, c1, c2⟩ := cut_eq hf v h67 h12 x y
    obtain ⟨b1, r1, r2⟩ := rise_eq hf v h67 h12
    obtain ⟨b2, g1, g2⟩ := fall_eq hf v h67 h12
    obtain ⟨b3, k1, k2⟩ := curve_eq hf v h67 h12 c
    rw [F27_eq hf v h67, F64_eq hf v h12, c1, c2]
    generalize (if fstX t ≤ x ∧ x ≤ lstX t then ((atV t x).1, (atV t x).2, (0 : Int)) else (0, 0, 4)) = r
    simp only [Option.bind_some, beq_self_i, Bool.and_true, Bool.not_true, cond_false, bne_self_i]
    rw [F63_same l (by omega) (by omega), Option.bind_some, Bool.not_true, cond_false]
    unfold F10_j1 F10_j2 F68
    rw [h67, h12, k1, k2, r1, r2, g1, g2, hs]
    simp only [Option.bind_some, cond_false, Bool.not_true, beq_self_i, beq_self_b, cond_true]
  · have h12 : F12 2000 t = some false := by rcases F12_cases hf t with ⟨h, _⟩ | ⟨_, h⟩; exact absurd h v; exact h
    have c1 : F65 2000 t x y = some ([], 11) := by unfold F65; rw [h67]; rfl
    have c2 : F66 2000 t x y = some ([], 11) := by unfold F66; rw [h12]; rfl
    have a1 : F27 2000 t x = some (0, 0, 11) := by unfold F27; rw [h67]; rfl
    have a2 : F64 2000 t x = some (0, 0, 11) := by unfold F64; rw [h12]; rfl
    have r1 : F28 2000 t = some false := by unfold F28 F28_j1; rw [h67]; rfl
    have r2 : F70 2000 t = some false := by unfold F70; rw [h12]; rfl
    have g1 : F29 2000 t = some false := by unfold F29 F29_j1; rw [h67]; rfl
    have g2 : F71 2000 t = some false := by unfold F71; rw [h12]; rfl
    have k1 : F31 2000 t c = some 11 := by unfold F31; rw [h67]; rfl
    have k2 : F69 2000 t c = some 11 := by unfold F69; rw [h12]; rfl
    rw [a1, a2, c1, c2]
    simp only [Option.bind_some, beq_self_i, Bool.and_true, Bool.not_true, cond_false, bne_self_i]
    rw [F63_same [] (by simp) (by simp), Option.bind_some, Bool.not_true, cond_false]
    unfold F10_j1 F10_j2 F68
    rw [h67, h12, k1, k2, r1, r2, g1, g2, hs]
    simp only [Option.bind_some, cond_false, Bool.not_false, cond_true, beq_self_i, beq_self_b]
theorem F10_true' (t : List Pt) (c : List Int) (x y : Int) : ∃ fuel, F10 fuel t c x y = some true := ⟨2000, F10_true t c x y⟩
end Go.Proofs.Ytpjmgeajajcceaa
