/-
  The plain law of FixTables: the program's tables answer as the reference's. No condition.
-/
import Derived.Test.YtpjmgeajajcceaaTB
set_option linter.unusedSimpArgs false
set_option linter.unusedVariables false
namespace Go.Proofs.Ytpjmgeajajcceaa
open Go.Sl Go.Sx

theorem F63_l1_same (t : List Pt) (hl : t.length ≤ 1000000) : ∀ n i, i ≤ t.length → t.length - i < n → F63_l1 t t n (i : Int) = some true
  | 0, i, _, hn => by omega
  | n + 1, i, hi, hn => by
    rw [F63_l1]
    rcases Nat.eq_or_lt_of_le hi with e | e
    · subst e; rw [decide_eq_false (by omega), cond_false]
    · rw [decide_eq_true (by omega), cond_true, getI_pt e, Option.bind_some, Option.bind_some]
      simp only [beq_self_eq_true, Bool.and_true, Bool.not_true, cond_false]
      rw [succ_w (by omega)]
      exact F63_l1_same t hl n (i + 1) e (by omega)
theorem F63_same {f : Nat} (t : List Pt) (hl : t.length ≤ 1000000) (hf : t.length < f) : F63 f t t = some true := by
  unfold F63
  have : ((t.length : Int) != (t.length : Int)) = false := by simp
  rw [this, cond_false]
  exact F63_l1_same t hl f 0 (Nat.zero_le _) (by omega)

/-! ### At -/
theorem F27_eq {f : Nat} (hf : 50 ≤ f) {t : List Pt} (v : VT t) (h67 : F67 f t = some 0) (x : Int) : F27 f t x = some (if fstX t ≤ x ∧ x ≤ lstX t then ((atV t x).1, (atV t x).2, 0) else (0, 0, 4)) := by
  unfold F27
  rw [h67, Option.bind_some, cond_z, F81_eq f v, Option.bind_some]
  by_cases h : fstX t ≤ x ∧ x ≤ lstX t
  · rw [if_pos h, decide_eq_true h, Bool.not_true, cond_false, F88_at hf v h.1 h.2]; rfl
  · rw [if_neg h, decide_eq_false h]; rfl
theorem F92_at {f : Nat} (hf : 50 ≤ f) {t : List Pt} (v : VT t) {x : Int} (h1 : fstX t ≤ x) (h2 : x ≤ lstX t) : F92 f t x = some (atV t x) := F92_eq hf v (ix_seg v h1 h2)
theorem F64_eq {f : Nat} (hf : 50 ≤ f) {t : List Pt} (v : VT t) (h12 : F12 f t = some true) (x : Int) : F64 f t x = some (if fstX t ≤ x ∧ x ≤ lstX t then ((atV t x).1, (atV t x).2, 0) else (0, 0, 4)) := by
  unfold F64
  rw [h12, Option.bind_some, Bool.not_true, cond_false, F91_eq f v, Option.bind_some]
  by_cases h : fstX t ≤ x ∧ x ≤ lstX t
  · rw [if_pos h, decide_eq_true h, Bool.not_true, cond_false, F92_at hf v h.1 h.2]; rfl
  · rw [if_neg h, decide_eq_false h]; rfl

/-! ### Cut -/
def mid (t : List Pt) (a b : Int) (i : Nat) : List Pt := (t.drop i).filter fun p => decide (a < p.x) && decide (p.x < b)
theorem mid_end {t : List Pt} {a b : Int} : mid t a b t.length = [] := by simp [mid]
theorem mid_in {t : List Pt} {a b : Int} {i : Nat} (h : i < t.length) (h1 : a < (pt t i).x) (h2 : (pt t i).x < b) : mid t a b i = pt t i :: mid t a b (i + 1) := by
  unfold mid; rw [drop_pt h]; simp [h1, h2]
theorem mid_out {t : List Pt} {a b : Int} {i : Nat} (h : i < t.length) (h1 : ¬ (a < (pt t i).x ∧ (pt t i).x < b)) : mid t a b i = mid t a b (i + 1) := by
  unfold mid; rw [drop_pt h, List.filter_cons_of_neg]; simp; omega
theorem mid_mem {t : List Pt} {a b : Int} {i : Nat} {p : Pt} (h : p ∈ mid t a b i) : p ∈ t ∧ a < p.x ∧ p.x < b := by
  unfold mid at h
  rw [List.mem_filter] at h
  exact ⟨List.mem_of_mem_drop h.1, by simpa using h.2⟩
theorem mid_len (t : List Pt) (a b : Int) (i : Nat) : (mid t a b i).length ≤ t.length - i := by
  unfold mid
  have := List.length_filter_le (fun p : Pt => decide (a < p.x) && decide (p.x < b)) (t.drop i)
  rw [List.length_drop] at this
  exact this

theorem F65_l1_eq (f : Nat) {t : List Pt} (hl : t.length ≤ 40) (a b : Int) : ∀ n i (ys : List Int), i ≤ t.length → t.length - i < n → ys.length + (t.length - i) ≤ 1000 →
    F65_l1 f t a b n ys (i : Int) = cond (decide (b > a)) ((appC (ys ++ (mid t a b i).map (·.x)) [b]).bind fun d => F65_j4 f t d) (F65_j4 f t (ys ++ (mid t a b i).map (·.x)))
  | 0, i, _, _, hn, _ => by omega
  | n + 1, i, ys, hi, hn, hy => by
    rw [F65_l1]
    rcases Nat.eq_or_lt_of_le hi with e | e
    · subst e; rw [decide_eq_false (by omega), cond_false, mid_end]; simp
    · rw [decide_eq_true (by omega : (i : Int) < (t.length : Int)), cond_true, getI_pt e, Option.bind_some]
      unfold F65_j3 F65_j2
      by_cases h1 : a < (pt t i).x
      · by_cases h2 : (pt t i).x < b
        · rw [decide_eq_true h1, decide_eq_true h2, cond_true, cond_true, appC_eq (by simp; omega), Option.bind_some, succ_w (by omega), F65_l1_eq f hl a b n (i + 1) _ e (by omega) (by simp; omega), mid_in e h1 h2]
          simp
        · rw [decide_eq_true h1, decide_eq_false h2, cond_true, cond_false, succ_w (by omega), F65_l1_eq f hl a b n (i + 1) _ e (by omega) (by omega), mid_out e (fun h => h2 h.2)]
      · rw [decide_eq_false h1, cond_false, cond_false, succ_w (by omega), F65_l1_eq f hl a b n (i + 1) _ e (by omega) (by omega), mid_out e (fun h => h1 h.1)]

theorem F66_l1_eq {t : List Pt} (hl : t.length ≤ 40) (a b : Int) (r : Int × Int) : ∀ n i (ys : List Pt), i ≤ t.length → t.length - i < n → ys.length + (t.length - i) ≤ 1000 →
    F66_l1 t a b r n ys (i : Int) = cond (decide (a < b)) ((appC (ys ++ mid t a b i) [⟨b, r.1, r.2⟩]).bind fun d => F66_j4 d) (F66_j4 (ys ++ mid t a b i))
  | 0, i, _, _, hn, _ => by omega
  | n + 1, i, ys, hi, hn, hy => by
    rw [F66_l1]
    rcases Nat.eq_or_lt_of_le hi with e | e
    · subst e; rw [decide_eq_false (by omega), cond_false, mid_end]; simp
    · rw [decide_eq_true (by omega : (i : Int) < (t.length : Int)), cond_true, getI_pt e, Option.bind_some]
      unfold F66_j3 F66_j2
      by_cases h1 : a < (pt t i).x
      · by_cases h2 : (pt t i).x < b
        · rw [decide_eq_true h1, decide_eq_true h2, cond_true, cond_true, appC_eq (by simp; omega), Option.bind_some, succ_w (by omega), F66_l1_eq hl a b r n (i + 1) _ e (by omega) (by simp; omega), mid_in e h1 h2]
          simp
        · rw [decide_eq_true h1, decide_eq_false h2, cond_true, cond_false, succ_w (by omega), F66_l1_eq hl a b r n (i + 1) _ e (by omega) (by omega), mid_out e (fun h => h2 h.2)]
      · rw [decide_eq_false h1, cond_false, cond_false, succ_w (by omega), F66_l1_eq hl a b r n (i + 1) _ e (by omega) (by omega), mid_out e (fun h => h1 h.1)]

noncomputable def mkP (t : List Pt) (x : Int) : Pt := ⟨x, (atV t x).1, (atV t x).2⟩
theorem mkP_pt {t : List Pt} (v : VT t) {p : Pt} (h : p ∈ t) : mkP t p.x = p := by
  obtain ⟨i, hi, rfl⟩ := mem_pt h
  unfold mkP
  rw [atV_pt v hi]

theorem F65_l2_eq {f : Nat} (hf : 50 ≤ f) {t : List Pt} (v : VT t) {xs : List Int} (hx : ∀ x ∈ xs, fstX t ≤ x ∧ x ≤ lstX t) (hl : xs.length ≤ 1000) : ∀ n i (out : List Pt), i ≤ xs.length → xs.length - i < n → out.length + (xs.length - i) ≤ 1000 →
    F65_l2 f t xs n out (i : Int) = some (out ++ (xs.drop i).map (mkP t), 0)
  | 0, i, _, _, hn, _ => by omega
  | n + 1, i, out, hi, hn, hy => by
    rw [F65_l2]
    rcases Nat.eq_or_lt_of_le hi with e | e
    · subst e; rw [decide_eq_false (by omega), cond_false]; simp [F65_j5]
    · have hm := hx xs[i] (List.getElem_mem e)
      have hb := atV_bd v hm.1 hm.2
      rw [decide_eq_true (by omega : (i : Int) < (xs.length : Int)), cond_true, getI_of e, Option.bind_some, F88_at hf v hm.1 hm.2, Option.bind_some, decide_eq_false (by omega), cond_false, decide_eq_false (by omega)]
      unfold F65_j6
      rw [cond_false, appC_eq (by simp; omega), Option.bind_some, succ_w (by omega), F65_l2_eq hf v hx hl n (i + 1) _ e (by omega) (by simp; omega), List.drop_eq_getElem_cons e]
      simp only [List.map_cons, List.append_assoc, List.cons_append, List.nil_append]; rfl

theorem cut_eq {f : Nat} (hf : 50 ≤ f) {t : List Pt} (v : VT t) (h67 : F67 f t = some 0) (h12 : F12 f t = some true) (a b : Int) :
    ∃ l e, l.length ≤ 1000 ∧ F65 f t a b = some (l, e) ∧ F66 f t a b = some (l, e) := by
  have hl := v.l2
  unfold F65 F66
  rw [h67, h12, Option.bind_some, Option.bind_some, cond_z, Bool.not_true, cond_false]
  by_cases hab : a > b
  · rw [decide_eq_true hab]
    exact ⟨[], 4, by simp, rfl, rfl⟩
  · rw [decide_eq_false hab, cond_false, cond_false, F81_eq f v, Option.bind_some, F91_eq f v, Option.bind_some]
    by_cases h : fstX t ≤ a ∧ b ≤ lstX t
    · rw [decide_eq_true h, decide_eq_true (show fstX t ≤ a ∧ a ≤ lstX t by omega), Bool.not_true, cond_false, F91_eq f v, Option.bind_some, decide_eq_true (show fstX t ≤ b ∧ b ≤ lstX t by omega)]
      unfold F65_j1 F66_j1
      rw [Bool.not_true, cond_false, cond_false, F92_at hf v (by omega) (by omega), Option.bind_some, F92_at hf v (by omega) (by omega), Option.bind_some]
      have m := mid_len t a b 0
      have e1 := F65_l1_eq f hl a b f 0 [a] (Nat.zero_le _) (by omega) (by simp; omega)
      have e2 := F66_l1_eq hl a b (atV t b) f 0 [⟨a, (atV t a).1, (atV t a).2⟩] (Nat.zero_le _) (by omega) (by simp; omega)
      rw [show ((0 : Nat) : Int) = 0 from rfl] at e1 e2
      rw [e1, e2]
      unfold F65_j4 F66_j4
      have hmid : ∀ x ∈ (mid t a b 0).map (·.x), fstX t ≤ x ∧ x ≤ lstX t := fun x hx => by
        obtain ⟨p, hp, rfl⟩ := List.mem_map.1 hx
        obtain ⟨k, hk, rfl⟩ := mem_pt (mid_mem hp).1
        exact pt_in v hk
      have hmap : ((mid t a b 0).map (·.x)).map (mkP t) = mid t a b 0 := by
        rw [List.map_map]
        conv => rhs; rw [← List.map_id (mid t a b 0)]
        exact List.map_congr_left fun p hp => mkP_pt v (mid_mem hp).1
      by_cases h2 : a < b
      · rw [decide_eq_true (show b > a from h2), cond_true, cond_true, appC_eq (by simp; omega), appC_eq (by simp; omega), Option.bind_some, Option.bind_some]
        have e3 := F65_l2_eq hf v (xs := [a] ++ (mid t a b 0).map (·.x) ++ [b]) (fun x hx => by
          rcases List.mem_append.1 hx with hx | hx
          · rcases List.mem_append.1 hx with hx | hx
            · simp only [List.mem_singleton] at hx; omega
            · exact hmid x hx
          · simp only [List.mem_singleton] at hx; omega) (by simp; omega) f 0 [] (Nat.zero_le _) (by simp; omega) (by simp; omega)
        rw [show ((0 : Nat) : Int) = 0 from rfl] at e3
        rw [e3]
        refine ⟨_, _, ?_, rfl, ?_⟩
        · simp; omega
        · simp only [List.nil_append, List.drop_zero, List.map_append, hmap]
          rfl
      · rw [decide_eq_false (show ¬ b > a from h2), cond_false, cond_false]
        have e3 := F65_l2_eq hf v (xs := [a] ++ (mid t a b 0).map (·.x)) (fun x hx => by
          rcases List.mem_append.1 hx with hx | hx
          · simp only [List.mem_singleton] at hx; omega
          · exact hmid x hx) (by simp; omega) f 0 [] (Nat.zero_le _) (by simp; omega) (by simp; omega)
        rw [show ((0 : Nat) : Int) = 0 from rfl] at e3
        rw [e3]
        refine ⟨_, _, ?_, rfl, ?_⟩
        · simp; omega
        · simp only [List.nil_append, List.drop_zero, List.map_append, hmap]
          rfl
    · rw [decide_eq_false h]
      refine ⟨[], 4, by simp, rfl, ?_⟩
      by_cases ha : fstX t ≤ a ∧ a ≤ lstX t
      · rw [decide_eq_true ha, Bool.not_true, cond_false, F91_eq f v, Option.bind_some, decide_eq_false (by omega)]; rfl
      · rw [decide_eq_false ha]; rfl
end Go.Proofs.Ytpjmgeajajcceaa
