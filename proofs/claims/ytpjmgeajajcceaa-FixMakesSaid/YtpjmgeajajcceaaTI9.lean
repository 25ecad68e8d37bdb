/-
  The loops of Either; Plus and Either answer as the reference's. No condition.
-/
import Derived.Test.YtpjmgeajajcceaaTG9
set_option linter.unusedSimpArgs false
set_option linter.unusedVariables false
namespace Go.Proofs.Ytpjmgeajajcceaa
open Go.Sl Go.Sx

/-! ### The loops of Either -/
theorem F59_l1_eq (f : Nat) {t u : List Pt} {lo hi : Int} (hV : V lo hi) {r : List Pt} (hr : r.length ≤ 100) : ∀ n i (ys : List Int), i ≤ r.length → r.length - i < n → ys.length ≤ i →
    ∃ ys', F59_l1 f t u lo hi r n ys (i : Int) = ((lenC ys').bind fun _ => ((lenC (sortL ys')).bind fun _ => (cond (decide (((compL (sortL ys')).length : Int) > (40 : Int))) (F59_j1 ([]) 2) (F59_l2 f t u ys' f ([]) 0)))) ∧
      (∀ y, y ∈ ys' ↔ y ∈ ys ∨ ∃ j, i ≤ j ∧ j < r.length ∧ (pt r j).x = y ∧ lo ≤ y ∧ y ≤ hi) ∧ ys'.length ≤ r.length
  | 0, i, _, _, hn, _ => by omega
  | n + 1, i, ys, hi', hn, hy => by
    rw [F59_l1]
    rcases Nat.eq_or_lt_of_le hi' with e | e
    · subst e
      rw [decide_eq_false (by omega), cond_false]
      exact ⟨ys, rfl, fun y => ⟨.inl, fun h => h.elim id fun ⟨j, h1, h2, _⟩ => by omega⟩, hy⟩
    · rw [decide_eq_true (by omega), cond_true, getI_pt e, Option.bind_some, F43_eq' f lo hi _ hV, Option.bind_some]
      unfold F59_j3
      rw [succ_w (by omega)]
      by_cases h : lo ≤ (pt r i).x ∧ (pt r i).x ≤ hi
      · rw [decide_eq_true h, cond_true, appC_eq (by simp; omega), Option.bind_some]
        obtain ⟨ys', h1, h2, h3⟩ := F59_l1_eq f (t := t) (u := u) hV hr n (i + 1) (ys ++ [(pt r i).x]) e (by omega) (by simp; omega)
        refine ⟨ys', h1, fun y => (h2 y).trans ⟨fun hh => ?_, fun hh => ?_⟩, h3⟩
        · rcases hh with hh | ⟨j, a, b⟩
          · rcases List.mem_append.1 hh with hh | hh
            · exact .inl hh
            · simp only [List.mem_singleton] at hh; subst hh; exact .inr ⟨i, Nat.le_refl _, e, rfl, h⟩
          · exact .inr ⟨j, by omega, b⟩
        · rcases hh with hh | ⟨j, a, b, c, g⟩
          · exact .inl (List.mem_append_left _ hh)
          · rcases Nat.eq_or_lt_of_le a with e' | e'
            · subst e'; subst c; exact .inl (List.mem_append_right _ (List.mem_singleton.2 rfl))
            · exact .inr ⟨j, e', b, c, g⟩
      · rw [decide_eq_false h, cond_false]
        obtain ⟨ys', h1, h2, h3⟩ := F59_l1_eq f (t := t) (u := u) hV hr n (i + 1) ys e (by omega) (by omega)
        refine ⟨ys', h1, fun y => (h2 y).trans ⟨fun hh => ?_, fun hh => ?_⟩, h3⟩
        · exact hh.imp id fun ⟨j, a, b⟩ => ⟨j, by omega, b⟩
        · refine hh.imp id fun ⟨j, a, b, c, g⟩ => ⟨j, ?_, b, c, g⟩
          rcases Nat.eq_or_lt_of_le a with e' | e'
          · subst e'; subst c; exact absurd g h
          · exact e'

theorem F59_l2_eq {f : Nat} (hf : 50 ≤ f) {t u : List Pt} (v : VT t) (v' : VT u) {ys : List Int} {l : List Int} (el : compL (sortL ys) = l) (hl : l.length ≤ 1000) (hx : ∀ x ∈ l, inB t u x) : ∀ n i (out : List Pt), i ≤ l.length → l.length - i < n → out.length ≤ i →
    ((∀ j (h : j < l.length), i ≤ j → gd (mk2 opH t u l[j])) ∧ F59_l2 f t u ys n out (i : Int) = some (out ++ (l.drop i).map (mk2 opH t u), 0)) ∨ ((¬ ∀ j (h : j < l.length), i ≤ j → gd (mk2 opH t u l[j])) ∧ F59_l2 f t u ys n out (i : Int) = some ([], 5))
  | 0, i, _, _, hn, _ => by omega
  | n + 1, i, out, hi, hn, ho => by
    rw [F59_l2, el]
    rcases Nat.eq_or_lt_of_le hi with e | e
    · subst e
      rw [decide_eq_false (by omega), cond_false]
      exact .inl ⟨fun j h1 h2 => by omega, by simp [F59_j4, F59_j1]⟩
    · have hm := hx l[i] (List.getElem_mem e)
      have b1 := atV_bd v hm.1.1 hm.1.2
      have b2 := atV_bd v' hm.2.1 hm.2.2
      rw [decide_eq_true (by omega), cond_true, getI_of e, Option.bind_some, F88_at hf v hm.1.1 hm.1.2, Option.bind_some, F88_at hf v' hm.2.1 hm.2.2, Option.bind_some, F114_op, Option.bind_some]
      unfold F59_j5 F59_j4 F59_j1
      by_cases h1 : (opH (atV t l[i]) (atV u l[i])).1 < -1000000000
      · rw [decide_eq_true h1]
        exact .inr ⟨fun h => by have := (h i e (Nat.le_refl _)).1; simp only [mk2] at this; omega, rfl⟩
      · rw [decide_eq_false h1, cond_false]
        by_cases h2 : (opH (atV t l[i]) (atV u l[i])).2 > 1000000000
        · rw [decide_eq_true h2]
          exact .inr ⟨fun h => by have := (h i e (Nat.le_refl _)).2; simp only [mk2] at this; omega, rfl⟩
        · rw [decide_eq_false h2, cond_false, appC_eq (by simp; omega), Option.bind_some, succ_w (by omega)]
          rcases F59_l2_eq hf v v' el hl hx n (i + 1) (out ++ [⟨l[i], (opH (atV t l[i]) (atV u l[i])).1, (opH (atV t l[i]) (atV u l[i])).2⟩]) e (by omega) (by simp; omega) with ⟨a, b⟩ | ⟨a, b⟩
          · refine .inl ⟨fun j hj hij => ?_, ?_⟩
            · rcases Nat.eq_or_lt_of_le hij with e' | e'
              · subst e'; exact ⟨by simp only [mk2]; omega, by simp only [mk2]; omega⟩
              · exact a j hj e'
            · rw [b, List.drop_eq_getElem_cons e]
              simp only [List.map_cons, List.append_assoc, List.cons_append, List.nil_append]; rfl
          · exact .inr ⟨fun h => a fun j hj hij => h j hj (by omega), b⟩


theorem F60_l1_eq {f : Nat} (hf : 50 ≤ f) {t u : List Pt} (v : VT t) (v' : VT u) {l : List Int} (hl : l.length ≤ 1000) (hx : ∀ x ∈ l, inB t u x) : ∀ n i (out : List Pt), i ≤ l.length → l.length - i < n → out.length ≤ i →
    F60_l1 f t u l n out (i : Int) = ((F113 f (out ++ (l.drop i).map (mk2 opH t u))).bind fun r4 => (some (r4.1, r4.2)))
  | 0, i, _, _, hn, _ => by omega
  | n + 1, i, out, hi, hn, ho => by
    rw [F60_l1]
    rcases Nat.eq_or_lt_of_le hi with e | e
    · subst e
      rw [decide_eq_false (by omega), cond_false]
      simp
    · have hm := hx l[i] (List.getElem_mem e)
      rw [decide_eq_true (by omega), cond_true, getI_of e, Option.bind_some, F92_eq hf v (ix_seg v hm.1.1 hm.1.2), Option.bind_some, F92_eq hf v' (ix_seg v' hm.2.1 hm.2.2), Option.bind_some]
      rw [appC_eq (by simp; omega), Option.bind_some, succ_w (by omega), F60_l1_eq hf v v' hl hx n (i + 1) _ e (by omega) (by simp; omega), List.drop_eq_getElem_cons e]
      simp only [List.map_cons, List.append_assoc, List.cons_append, List.nil_append]; rfl

theorem pt_app1 {t u : List Pt} {j : Nat} (h : j < t.length) : pt (t ++ u) j = pt t j := by
  simp [pt, List.getD, List.getElem?_append_left h]
theorem pt_app2 {t u : List Pt} {j : Nat} : pt (t ++ u) (t.length + j) = pt u j := by
  simp [pt, List.getD, List.getElem?_append_right]
theorem dom_le {t : List Pt} (v : VT t) : fstX t ≤ lstX t := v.mono_le (Nat.zero_le _) (by have := v.l1; omega)
theorem dom_V {t : List Pt} (v : VT t) : V (fstX t) (lstX t) := by
  have h1 := fst_bd v
  have h2 := dom_le v
  unfold V; omega

/-- The common domain. -/
def dLo (t u : List Pt) : Int := if fstX u > fstX t then fstX u else fstX t
def dHi (t u : List Pt) : Int := if lstX u < lstX t then lstX u else lstX t
theorem inB_iff {t u : List Pt} {x : Int} : inB t u x ↔ dLo t u ≤ x ∧ x ≤ dHi t u := by
  unfold inB dLo dHi
  constructor
  · rintro ⟨⟨a, b⟩, c, d⟩
    exact ⟨by split <;> omega, by split <;> omega⟩
  · rintro ⟨a, b⟩
    refine ⟨⟨?_, ?_⟩, ?_, ?_⟩
    · revert a; split <;> omega
    · revert b; split <;> omega
    · revert a; split <;> omega
    · revert b; split <;> omega
theorem F42_eq (f : Nat) {t u : List Pt} (v : VT t) (v' : VT u) : F42 f (fstX t) (lstX t) (fstX u) (lstX u) = some (if dLo t u > dHi t u then (0, 0, 3) else (dLo t u, dHi t u, 0)) := by
  unfold F42
  rw [F106_eq, if_pos ⟨dom_V v, dom_V v'⟩, Option.bind_some, cond_z]
  show cond (decide (dLo t u > dHi t u)) _ _ = _
  by_cases h : dLo t u > dHi t u
  · rw [decide_eq_true h, if_pos h]; rfl
  · rw [decide_eq_false h, if_neg h]; rfl
theorem dV {t u : List Pt} (v : VT t) (v' : VT u) (h : ¬ dLo t u > dHi t u) : V (dLo t u) (dHi t u) := by
  have h1 := fst_bd v
  have h2 := fst_bd v'
  have h3 : -1000000000000000 ≤ dLo t u := by unfold dLo; split <;> omega
  have h4 : dHi t u ≤ 1000000000000000 := by unfold dHi; split <;> omega
  unfold V; omega
/-- Where the domains meet there is a place. -/
theorem places_some {t u : List Pt} (v : VT t) (v' : VT u) {l : List Int} (P : Places t u l) (h : ¬ dLo t u > dHi t u) : 1 ≤ l.length := by
  have hm : dLo t u ∈ l := by
    refine (P.mem _).2 ⟨?_, inB_iff.2 ⟨Int.le_refl _, by omega⟩⟩
    have h1 := v.l1
    have h2 := v'.l1
    unfold dLo
    split
    · exact ⟨t.length + 0, by simp; omega, by rw [pt_app2]; rfl⟩
    · exact ⟨0, by simp; omega, by rw [pt_app1 (by omega)]; rfl⟩
  rcases Nat.eq_zero_or_pos l.length with e | e
  · rw [List.length_eq_zero_iff.1 e] at hm; cases hm
  · exact e
theorem places_none {t u : List Pt} {l : List Int} (P : Places t u l) (h : dLo t u > dHi t u) : l = [] := by
  rcases l with _ | ⟨a, l⟩
  · rfl
  · have := ((P.mem a).1 (List.mem_cons_self ..)).2
    rw [inB_iff] at this; omega
theorem places_uniq {t u : List Pt} {l : List Int} (P : Places t u l) {ys : List Int} (h : ∀ y, y ∈ ys ↔ y ∈ ([] : List Int) ∨ ∃ j, 0 ≤ j ∧ j < (t ++ u).length ∧ (pt (t ++ u) j).x = y ∧ dLo t u ≤ y ∧ y ≤ dHi t u) : compL (sortL ys) = l := by
  obtain ⟨h1, h2⟩ := sc_rise ys
  refine rise_ext h1 P.rise fun x => (h2 x).trans ((h x).trans (Iff.trans ?_ (P.mem x).symm))
  rw [inB_iff]
  constructor
  · rintro (h | ⟨j, _, a, b, c⟩)
    · cases h
    · exact ⟨⟨j, a, b⟩, c⟩
  · rintro ⟨⟨j, a, b⟩, c⟩
    exact .inr ⟨j, Nat.zero_le _, a, b, c⟩

theorem plus_eq {f : Nat} (hf : 1000 ≤ f) (t u : List Pt) : ∃ l e, l.length ≤ 1000 ∧ F57 f t u = some (l, e) ∧ F58 f t u = some (l, e) := by
  unfold F57 F58
  rcases F67_cases (show 50 ≤ f by omega) t with ⟨v, h67⟩ | ⟨v, h67⟩
  · have h12 : F12 f t = some true := by rcases F12_cases (show 50 ≤ f by omega) t with ⟨_, h⟩ | ⟨h, _⟩; exact h; exact absurd v h
    rw [h67, h12, Option.bind_some, Option.bind_some, cond_z, Bool.not_true, cond_false]
    rcases F67_cases (show 50 ≤ f by omega) u with ⟨v', k67⟩ | ⟨v', k67⟩
    · have k12 : F12 f u = some true := by rcases F12_cases (show 50 ≤ f by omega) u with ⟨_, h⟩ | ⟨h, _⟩; exact h; exact absurd v' h
      rw [k67, k12, Option.bind_some, Option.bind_some, cond_z, F117_eq f v, Option.bind_some, F117_eq f v', Option.bind_some, F42_eq f v v', Option.bind_some]
      unfold F58_j1
      rw [Bool.not_true, cond_false]
      obtain ⟨l, e112, P⟩ := F112_eq hf v v'
      have hl := P.len
      have hx : ∀ x ∈ l, inB t u x := fun x h => (places_in v P h).1
      have e58 := F58_l1_eq (show 50 ≤ f by omega) v v' (l := l) (by omega) hx f 0 [] (Nat.zero_le _) (by omega) (Nat.zero_le _)
      rw [show ((0 : Nat) : Int) = 0 from rfl, List.nil_append, List.drop_zero] at e58
      rw [e112, Option.bind_some, e58]
      have hg : ∀ x, (mk2 opS t u x).x = x := fun _ => rfl
      have hle : ∀ x ∈ l, (mk2 opS t u x).lo ≤ (mk2 opS t u x).hi := fun x h => by
        have i := hx x h
        have b1 := atV_bd v i.1.1 i.1.2
        have b2 := atV_bd v' i.2.1 i.2.2
        simp only [mk2, opS]; omega
      have h113 := F113_eq (show 50 ≤ f by omega) hg P.rise (fun x h => (places_in v P h).2) hle (by omega)
      by_cases hd : dLo t u > dHi t u
      · rw [if_pos hd]
        have := places_none P hd
        subst this
        rcases h113 with ⟨_, e⟩ | ⟨h, _⟩ | ⟨h, _⟩
        · exact ⟨[], 4, by simp, rfl, by rw [e]; rfl⟩
        · simp at h
        · simp at h
      · rw [if_neg hd]
        have h1 := v.l2
        have h2 := v'.l2
        obtain ⟨ys, e57, hm, hly⟩ := F57_l1_eq f (t := t) (u := u) (dV v v' hd) (r := t ++ u) (by simp; omega) f 0 [] (Nat.zero_le _) (by simp; omega) (Nat.zero_le _)
        have el := places_uniq P hm
        have e2 := F57_l2_eq (show 50 ≤ f by omega) v v' el (by omega) hx f 0 [] (Nat.zero_le _) (by omega) (Nat.zero_le _)
        rw [show ((0 : Nat) : Int) = 0 from rfl] at e57 e2
        show ∃ l e, l.length ≤ 1000 ∧ F57_j2 f t u 0 (dLo t u) (dHi t u) = some (l, e) ∧ _
        unfold F57_j2
        rw [cond_z, F125_eq (show 50 ≤ f by omega) h1 h2, Option.bind_some, e57, lenC_eq (by simp at hly; omega), Option.bind_some, lenC_eq (by rw [← sortL_len]; simp at hly; omega), Option.bind_some, el]
        have hpos := places_some v v' P hd
        rcases h113 with ⟨h, _⟩ | ⟨h, e⟩ | ⟨h, h', hh⟩
        · omega
        · rw [decide_eq_true (by omega), e]
          exact ⟨[], 2, by simp, rfl, rfl⟩
        · rw [decide_eq_false (by omega), cond_false]
          rcases hh with ⟨a, e⟩ | ⟨a, e⟩
          · rcases e2 with ⟨_, e2⟩ | ⟨b, _⟩
            · rw [e2, e]
              exact ⟨l.map (mk2 opS t u), 0, by simp; omega, by simp, rfl⟩
            · exact absurd (fun j h _ => a j h) b
          · rcases e2 with ⟨b, _⟩ | ⟨_, e2⟩
            · exact absurd (fun j h => b j h (Nat.zero_le _)) a
            · rw [e2, e]
              exact ⟨[], 5, by simp, rfl, rfl⟩
    · have k12 : F12 f u = some false := by rcases F12_cases (show 50 ≤ f by omega) u with ⟨h, _⟩ | ⟨_, h⟩; exact absurd h v'; exact h
      rw [k67, k12]
      exact ⟨[], 11, by simp, rfl, rfl⟩
  · have h12 : F12 f t = some false := by rcases F12_cases (show 50 ≤ f by omega) t with ⟨h, _⟩ | ⟨_, h⟩; exact absurd h v; exact h
    rw [h67, h12]
    exact ⟨[], 11, by simp, rfl, rfl⟩

theorem either_eq {f : Nat} (hf : 1000 ≤ f) (t u : List Pt) : ∃ l e, l.length ≤ 1000 ∧ F59 f t u = some (l, e) ∧ F60 f t u = some (l, e) := by
  unfold F59 F60
  rcases F67_cases (show 50 ≤ f by omega) t with ⟨v, h67⟩ | ⟨v, h67⟩
  · have h12 : F12 f t = some true := by rcases F12_cases (show 50 ≤ f by omega) t with ⟨_, h⟩ | ⟨h, _⟩; exact h; exact absurd v h
    rw [h67, h12, Option.bind_some, Option.bind_some, cond_z, Bool.not_true, cond_false]
    rcases F67_cases (show 50 ≤ f by omega) u with ⟨v', k67⟩ | ⟨v', k67⟩
    · have k12 : F12 f u = some true := by rcases F12_cases (show 50 ≤ f by omega) u with ⟨_, h⟩ | ⟨h, _⟩; exact h; exact absurd v' h
      rw [k67, k12, Option.bind_some, Option.bind_some, cond_z, F117_eq f v, Option.bind_some, F117_eq f v', Option.bind_some, F42_eq f v v', Option.bind_some]
      unfold F60_j1
      rw [Bool.not_true, cond_false]
      obtain ⟨l, e112, P⟩ := F112_eq hf v v'
      have hl := P.len
      have hx : ∀ x ∈ l, inB t u x := fun x h => (places_in v P h).1
      have e60 := F60_l1_eq (show 50 ≤ f by omega) v v' (l := l) (by omega) hx f 0 [] (Nat.zero_le _) (by omega) (Nat.zero_le _)
      rw [show ((0 : Nat) : Int) = 0 from rfl, List.nil_append, List.drop_zero] at e60
      rw [e112, Option.bind_some, e60]
      have hg : ∀ x, (mk2 opH t u x).x = x := fun _ => rfl
      have hle : ∀ x ∈ l, (mk2 opH t u x).lo ≤ (mk2 opH t u x).hi := fun x h => by
        have i := hx x h
        have b1 := atV_bd v i.1.1 i.1.2
        have b2 := atV_bd v' i.2.1 i.2.2
        simp only [mk2, opH]; split <;> split <;> omega
      have h113 := F113_eq (show 50 ≤ f by omega) hg P.rise (fun x h => (places_in v P h).2) hle (by omega)
      by_cases hd : dLo t u > dHi t u
      · rw [if_pos hd]
        have := places_none P hd
        subst this
        rcases h113 with ⟨_, e⟩ | ⟨h, _⟩ | ⟨h, _⟩
        · exact ⟨[], 4, by simp, rfl, by rw [e]; rfl⟩
        · simp at h
        · simp at h
      · rw [if_neg hd]
        have h1 := v.l2
        have h2 := v'.l2
        obtain ⟨ys, e59, hm, hly⟩ := F59_l1_eq f (t := t) (u := u) (dV v v' hd) (r := t ++ u) (by simp; omega) f 0 [] (Nat.zero_le _) (by simp; omega) (Nat.zero_le _)
        have el := places_uniq P hm
        have e2 := F59_l2_eq (show 50 ≤ f by omega) v v' el (by omega) hx f 0 [] (Nat.zero_le _) (by omega) (Nat.zero_le _)
        rw [show ((0 : Nat) : Int) = 0 from rfl] at e59 e2
        show ∃ l e, l.length ≤ 1000 ∧ F59_j2 f t u 0 (dLo t u) (dHi t u) = some (l, e) ∧ _
        unfold F59_j2
        rw [cond_z, F125_eq (show 50 ≤ f by omega) h1 h2, Option.bind_some, e59, lenC_eq (by simp at hly; omega), Option.bind_some, lenC_eq (by rw [← sortL_len]; simp at hly; omega), Option.bind_some, el]
        have hpos := places_some v v' P hd
        rcases h113 with ⟨h, _⟩ | ⟨h, e⟩ | ⟨h, h', hh⟩
        · omega
        · rw [decide_eq_true (by omega), e]
          exact ⟨[], 2, by simp, rfl, rfl⟩
        · rw [decide_eq_false (by omega), cond_false]
          rcases hh with ⟨a, e⟩ | ⟨a, e⟩
          · rcases e2 with ⟨_, e2⟩ | ⟨b, _⟩
            · rw [e2, e]
              exact ⟨l.map (mk2 opH t u), 0, by simp; omega, by simp, rfl⟩
            · exact absurd (fun j h _ => a j h) b
          · rcases e2 with ⟨b, _⟩ | ⟨_, e2⟩
            · exact absurd (fun j h => b j h (Nat.zero_le _)) a
            · rw [e2, e]
              exact ⟨[], 5, by simp, rfl, rfl⟩
    · have k12 : F12 f u = some false := by rcases F12_cases (show 50 ≤ f by omega) u with ⟨h, _⟩ | ⟨_, h⟩; exact absurd h v'; exact h
      rw [k67, k12]
      exact ⟨[], 11, by simp, rfl, rfl⟩
  · have h12 : F12 f t = some false := by rcases F12_cases (show 50 ≤ f by omega) t with ⟨h, _⟩ | ⟨_, h⟩; exact absurd h v; exact h
    rw [h67, h12]
    exact ⟨[], 11, by simp, rfl, rfl⟩
end Go.Proofs.Ytpjmgeajajcceaa
