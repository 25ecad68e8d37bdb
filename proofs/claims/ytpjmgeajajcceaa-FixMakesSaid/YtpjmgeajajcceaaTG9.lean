/-
  Tables out of places: the reference's check of what was made. No condition.
-/
import Derived.Test.YtpjmgeajajcceaaTE9
set_option linter.unusedSimpArgs false
set_option linter.unusedVariables false
namespace Go.Proofs.Ytpjmgeajajcceaa
open Go.Sl Go.Sx

/-- A point that is made of two tables' values at a place. -/
noncomputable def mk2 (op : Int × Int → Int × Int → Int × Int) (t u : List Pt) (x : Int) : Pt := ⟨x, (op (atV t x) (atV u x)).1, (op (atV t x) (atV u x)).2⟩
def gd (p : Pt) : Prop := -1000000000 ≤ p.lo ∧ p.hi ≤ 1000000000
theorem pt_map {g : Int → Pt} {l : List Int} {i : Nat} (h : i < l.length) : pt (l.map g) i = g l[i] := by simp [pt, h]
theorem VT_map {g : Int → Pt} {l : List Int} (hg : ∀ x, (g x).x = x) (hr : Rise l) (h1 : 1 ≤ l.length) (h2 : l.length ≤ 40) (hx : ∀ x ∈ l, 0 ≤ x ∧ x ≤ 1000000) (hle : ∀ x ∈ l, (g x).lo ≤ (g x).hi) :
    VT (l.map g) ↔ ∀ j (h : j < l.length), gd (g l[j]) := by
  constructor
  · intro v j h
    have := v.ok j (by simpa using h)
    rw [pt_map h] at this
    exact ⟨this.lo, this.hi⟩
  · intro h
    refine ⟨by simpa using h1, by simpa using h2, fun i hi => ?_, fun i hi => ?_⟩
    · have hi' : i < l.length := by simpa using hi
      rw [pt_map hi']
      have hm := List.getElem_mem hi'
      have a := hx _ hm
      have b := h i hi'
      have c := hle _ hm
      have d := hg l[i]
      exact ⟨by omega, by omega, b.1, c, b.2⟩
    · have hi' : i + 1 < l.length := by simpa using hi
      rw [pt_map hi', pt_map (by omega), hg, hg]
      exact hr.get (by omega) hi'

theorem F113_eq {f : Nat} (hf : 50 ≤ f) {g : Int → Pt} {l : List Int} (hg : ∀ x, (g x).x = x) (hr : Rise l) (hx : ∀ x ∈ l, 0 ≤ x ∧ x ≤ 1000000) (hle : ∀ x ∈ l, (g x).lo ≤ (g x).hi) (hl : l.length ≤ 1000) :
    (l.length = 0 ∧ F113 f (l.map g) = some ([], 4)) ∨ (40 < l.length ∧ F113 f (l.map g) = some ([], 2)) ∨ (1 ≤ l.length ∧ l.length ≤ 40 ∧ (((∀ j (h : j < l.length), gd (g l[j])) ∧ F113 f (l.map g) = some (l.map g, 0)) ∨ ((¬ ∀ j (h : j < l.length), gd (g l[j])) ∧ F113 f (l.map g) = some ([], 5)))) := by
  unfold F113
  rw [List.length_map]
  by_cases h0 : l.length = 0
  · have : ((l.length : Int) == 0) = true := by simp [h0]
    rw [this]; exact .inl ⟨h0, rfl⟩
  · have : ((l.length : Int) == 0) = false := beq_eq_false_iff_ne.2 (by omega)
    rw [this, cond_false]
    by_cases h1 : l.length > 40
    · rw [decide_eq_true (by omega)]; exact .inr (.inl ⟨h1, rfl⟩)
    · rw [decide_eq_false (by omega), cond_false]
      refine .inr (.inr ⟨by omega, by omega, ?_⟩)
      have hv := VT_map hg hr (by omega) (by omega) hx hle
      rcases F12_cases hf (l.map g) with ⟨v, e⟩ | ⟨v, e⟩
      · exact .inl ⟨hv.1 v, by rw [e]; rfl⟩
      · exact .inr ⟨fun h => v (hv.2 h), by rw [e]; rfl⟩

def opS (a b : Int × Int) : Int × Int := (a.1 + b.1, a.2 + b.2)
def opH (a b : Int × Int) : Int × Int := (if b.1 < a.1 then b.1 else a.1, if b.2 > a.2 then b.2 else a.2)

/-- What the walk over places makes: a table, or the error of its numbers. -/
theorem F111_op {f : Nat} {a b : Int × Int} (ha : -1000000000 ≤ a.1 ∧ a.1 ≤ a.2 ∧ a.2 ≤ 1000000000) (hb : -1000000000 ≤ b.1 ∧ b.1 ≤ b.2 ∧ b.2 ≤ 1000000000) : F111 f a.1 a.2 b.1 b.2 = some (opS a b) := by
  unfold F111 opS
  rw [w64_id (n := a.1 + b.1) (by omega) (by omega), w64_id (n := a.2 + b.2) (by omega) (by omega)]
theorem F114_op {f : Nat} {a b : Int × Int} : F114 f a.1 a.2 b.1 b.2 = some (opH a b) := by
  unfold F114 opH
  by_cases h : a.1 = b.1 ∧ a.2 = b.2
  · have : ((a.1 == b.1) && ((a.2 == b.2) && true)) = true := by simp [h]
    rw [this, cond_true, h.1, h.2]; simp
  · have : ((a.1 == b.1) && ((a.2 == b.2) && true)) = false := by
      simp only [Bool.and_true, Bool.and_eq_false_iff, beq_eq_false_iff_ne, ne_eq]
      by_cases h1 : a.1 = b.1
      · exact .inr fun h2 => h ⟨h1, h2⟩
      · exact .inl h1
    rw [this]; rfl

theorem places_in {t u : List Pt} {l : List Int} (v : VT t) (P : Places t u l) {x : Int} (h : x ∈ l) : inB t u x ∧ 0 ≤ x ∧ x ≤ 1000000 := by
  obtain ⟨_, h2⟩ := (P.mem x).1 h
  have := fst_bd v
  exact ⟨h2, by have := h2.1; omega, by have := h2.1; omega⟩

/-! ### The loops of Plus -/
theorem F57_l1_eq (f : Nat) {t u : List Pt} {lo hi : Int} (hV : V lo hi) {r : List Pt} (hr : r.length ≤ 100) : ∀ n i (ys : List Int), i ≤ r.length → r.length - i < n → ys.length ≤ i →
    ∃ ys', F57_l1 f t u lo hi r n ys (i : Int) = ((lenC ys').bind fun _ => ((lenC (sortL ys')).bind fun _ => (cond (decide (((compL (sortL ys')).length : Int) > (40 : Int))) (F57_j1 ([]) 2) (F57_l2 f t u ys' f ([]) 0)))) ∧
      (∀ y, y ∈ ys' ↔ y ∈ ys ∨ ∃ j, i ≤ j ∧ j < r.length ∧ (pt r j).x = y ∧ lo ≤ y ∧ y ≤ hi) ∧ ys'.length ≤ r.length
  | 0, i, _, _, hn, _ => by omega
  | n + 1, i, ys, hi', hn, hy => by
    rw [F57_l1]
    rcases Nat.eq_or_lt_of_le hi' with e | e
    · subst e
      rw [decide_eq_false (by omega), cond_false]
      exact ⟨ys, rfl, fun y => ⟨.inl, fun h => h.elim id fun ⟨j, h1, h2, _⟩ => by omega⟩, hy⟩
    · rw [decide_eq_true (by omega), cond_true, getI_pt e, Option.bind_some, F43_eq' f lo hi _ hV, Option.bind_some]
      unfold F57_j3
      rw [succ_w (by omega)]
      by_cases h : lo ≤ (pt r i).x ∧ (pt r i).x ≤ hi
      · rw [decide_eq_true h, cond_true, appC_eq (by simp; omega), Option.bind_some]
        obtain ⟨ys', h1, h2, h3⟩ := F57_l1_eq f (t := t) (u := u) hV hr n (i + 1) (ys ++ [(pt r i).x]) e (by omega) (by simp; omega)
        refine ⟨ys', h1, fun y => (h2 y).trans ⟨fun hh => ?_, fun hh => ?_⟩, h3⟩
        · rcases hh with hh | ⟨j, a, b⟩
          · rcases List.mem_append.1 hh with hh | hh
            · exact .inl hh
            · simp only [List.mem_singleton] at hh; subst hh; exact .inr ⟨i, Nat.le_refl _, e, rfl, h⟩
          · exact .inr ⟨j, by omega, b⟩
        · rcases hh with hh | ⟨j, a, b, c, g⟩
          · exact .inl (List.mem_append_left _ hh)
          · rcases Nat.eq_or_lt_of_le a with e' | e'
            · subst e'; subst c; exact .inl (List.mem_append_right _ (List.mem_singleton.2 rfl))
            · exact .inr ⟨j, e', b, c, g⟩
      · rw [decide_eq_false h, cond_false]
        obtain ⟨ys', h1, h2, h3⟩ := F57_l1_eq f (t := t) (u := u) hV hr n (i + 1) ys e (by omega) (by omega)
        refine ⟨ys', h1, fun y => (h2 y).trans ⟨fun hh => ?_, fun hh => ?_⟩, h3⟩
        · exact hh.imp id fun ⟨j, a, b⟩ => ⟨j, by omega, b⟩
        · refine hh.imp id fun ⟨j, a, b, c, g⟩ => ⟨j, ?_, b, c, g⟩
          rcases Nat.eq_or_lt_of_le a with e' | e'
          · subst e'; subst c; exact absurd g h
          · exact e'

theorem F57_l2_eq {f : Nat} (hf : 50 ≤ f) {t u : List Pt} (v : VT t) (v' : VT u) {ys : List Int} {l : List Int} (el : compL (sortL ys) = l) (hl : l.length ≤ 1000) (hx : ∀ x ∈ l, inB t u x) : ∀ n i (out : List Pt), i ≤ l.length → l.length - i < n → out.length ≤ i →
    ((∀ j (h : j < l.length), i ≤ j → gd (mk2 opS t u l[j])) ∧ F57_l2 f t u ys n out (i : Int) = some (out ++ (l.drop i).map (mk2 opS t u), 0)) ∨ ((¬ ∀ j (h : j < l.length), i ≤ j → gd (mk2 opS t u l[j])) ∧ F57_l2 f t u ys n out (i : Int) = some ([], 5))
  | 0, i, _, _, hn, _ => by omega
  | n + 1, i, out, hi, hn, ho => by
    rw [F57_l2, el]
    rcases Nat.eq_or_lt_of_le hi with e | e
    · subst e
      rw [decide_eq_false (by omega), cond_false]
      exact .inl ⟨fun j h1 h2 => by omega, by simp [F57_j4, F57_j1]⟩
    · have hm := hx l[i] (List.getElem_mem e)
      have b1 := atV_bd v hm.1.1 hm.1.2
      have b2 := atV_bd v' hm.2.1 hm.2.2
      rw [decide_eq_true (by omega), cond_true, getI_of e, Option.bind_some, F88_at hf v hm.1.1 hm.1.2, Option.bind_some, F88_at hf v' hm.2.1 hm.2.2, Option.bind_some, F111_op b1 b2, Option.bind_some]
      unfold F57_j5 F57_j4 F57_j1
      by_cases h1 : (opS (atV t l[i]) (atV u l[i])).1 < -1000000000
      · rw [decide_eq_true h1]
        exact .inr ⟨fun h => by have := (h i e (Nat.le_refl _)).1; simp only [mk2] at this; omega, rfl⟩
      · rw [decide_eq_false h1, cond_false]
        by_cases h2 : (opS (atV t l[i]) (atV u l[i])).2 > 1000000000
        · rw [decide_eq_true h2]
          exact .inr ⟨fun h => by have := (h i e (Nat.le_refl _)).2; simp only [mk2] at this; omega, rfl⟩
        · rw [decide_eq_false h2, cond_false, appC_eq (by simp; omega), Option.bind_some, succ_w (by omega)]
          rcases F57_l2_eq hf v v' el hl hx n (i + 1) (out ++ [⟨l[i], (opS (atV t l[i]) (atV u l[i])).1, (opS (atV t l[i]) (atV u l[i])).2⟩]) e (by omega) (by simp; omega) with ⟨a, b⟩ | ⟨a, b⟩
          · refine .inl ⟨fun j hj hij => ?_, ?_⟩
            · rcases Nat.eq_or_lt_of_le hij with e' | e'
              · subst e'; exact ⟨by simp only [mk2]; omega, by simp only [mk2]; omega⟩
              · exact a j hj e'
            · rw [b, List.drop_eq_getElem_cons e]
              simp only [List.map_cons, List.append_assoc, List.cons_append, List.nil_append]; rfl
          · exact .inr ⟨fun h => a fun j hj hij => h j hj (by omega), b⟩

theorem F58_l1_eq {f : Nat} (hf : 50 ≤ f) {t u : List Pt} (v : VT t) (v' : VT u) {l : List Int} (hl : l.length ≤ 1000) (hx : ∀ x ∈ l, inB t u x) : ∀ n i (out : List Pt), i ≤ l.length → l.length - i < n → out.length ≤ i →
    F58_l1 f t u l n out (i : Int) = ((F113 f (out ++ (l.drop i).map (mk2 opS t u))).bind fun r4 => (some (r4.1, r4.2)))
  | 0, i, _, _, hn, _ => by omega
  | n + 1, i, out, hi, hn, ho => by
    rw [F58_l1]
    rcases Nat.eq_or_lt_of_le hi with e | e
    · subst e
      rw [decide_eq_false (by omega), cond_false]
      simp
    · have hm := hx l[i] (List.getElem_mem e)
      have b1 := atV_bd v hm.1.1 hm.1.2
      have b2 := atV_bd v' hm.2.1 hm.2.2
      rw [decide_eq_true (by omega), cond_true, getI_of e, Option.bind_some, F92_eq hf v (ix_seg v hm.1.1 hm.1.2), Option.bind_some, F92_eq hf v' (ix_seg v' hm.2.1 hm.2.2), Option.bind_some]
      show (appC out [⟨l[i], w64 ((atV t l[i]).1 + (atV u l[i]).1), w64 ((atV t l[i]).2 + (atV u l[i]).2)⟩]).bind _ = _
      rw [w64_id (n := (atV t l[i]).1 + (atV u l[i]).1) (by omega) (by omega), w64_id (n := (atV t l[i]).2 + (atV u l[i]).2) (by omega) (by omega), appC_eq (by simp; omega), Option.bind_some, succ_w (by omega), F58_l1_eq hf v v' hl hx n (i + 1) _ e (by omega) (by simp; omega), List.drop_eq_getElem_cons e]
      simp only [List.map_cons, List.append_assoc, List.cons_append, List.nil_append]; rfl
end Go.Proofs.Ytpjmgeajajcceaa
