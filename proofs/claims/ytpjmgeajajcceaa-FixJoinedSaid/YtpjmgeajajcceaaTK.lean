/-
  Tables over ranges of places, as the program reckons them: Over; the runs of places at which a test holds. No condition.
-/
import Derived.Test.YtpjmgeajajcceaaTA2
set_option linter.unusedSimpArgs false
set_option linter.unusedVariables false
namespace Go.Proofs.Ytpjmgeajajcceaa
open Go.Sl Go.Sx

/-! ### A piece's values are the table's -/
theorem atV_piece {t : List Pt} (v : VT t) {i : Nat} (hi : i + 1 < t.length) {x : Int} (h1 : (pt t i).x ≤ x) (h2 : x ≤ (pt t (i + 1)).x) :
    atV t x = (dn (pt t i).x (pt t (i + 1)).x (pt t i).lo (pt t (i + 1)).lo x, upw (pt t i).x (pt t (i + 1)).x (pt t i).hi (pt t (i + 1)).hi x) := by
  have up := v.up i hi
  rcases Int.lt_or_eq_of_le h2 with h | h
  · have s : Seg t x i := ⟨by omega, h1, fun _ => h, fun e => by omega⟩
    unfold atV
    rw [ix_eq v s]
    unfold loAt hiAt
    by_cases hx : x = (pt t i).x
    · rw [if_pos hx, if_pos hx, hx, dn_l, upw_l]
    · rw [if_neg hx, if_neg hx]
  · rw [h, atV_pt v hi, dn_r up, upw_r up]
theorem F121_at (f : Nat) {t : List Pt} (v : VT t) {i : Nat} (hi : i + 1 < t.length) {x : Int} (h1 : (pt t i).x ≤ x) (h2 : x ≤ (pt t (i + 1)).x) :
    F121 f (pt t i).x (pt t i).lo (pt t i).hi (pt t (i + 1)).x (pt t (i + 1)).lo (pt t (i + 1)).hi x = some (atV t x) := by
  rw [atV_piece v hi h1 h2, F121_eq f (v.ok i (by omega)) (v.ok (i + 1) hi) (v.up i hi) h1 h2]

/-! ### Ranges -/
def V (lo hi : Int) : Prop := -1000000000000000 ≤ lo ∧ lo ≤ hi ∧ hi ≤ 1000000000000000
instance (lo hi : Int) : Decidable (V lo hi) := by unfold V; infer_instance
theorem F52_eq (f : Nat) (lo hi : Int) : F52 f lo hi = some (if V lo hi then 0 else 10) := by
  unfold F52 F52_j1
  by_cases h : V lo hi
  · have h1 : decide (lo > hi) = false := by unfold V at h; simp; omega
    have h2 : decide (lo < (-1000000000000000 : Int)) = false := by unfold V at h; simp; omega
    have h3 : decide (hi > (1000000000000000 : Int)) = false := by unfold V at h; simp; omega
    rw [h1, h2, h3, if_pos h]; rfl
  · rw [if_neg h]
    by_cases h1 : lo > hi
    · rw [decide_eq_true h1]; rfl
    · rw [decide_eq_false h1]
      by_cases h2 : lo < -1000000000000000
      · rw [decide_eq_true h2]; rfl
      · rw [decide_eq_false h2, decide_eq_true (p := hi > 1000000000000000) (by unfold V at h; omega)]; rfl

/-! ### Over -/
/-- The least and the greatest value over a range of places: of its ends and of the points in it. -/
structure Ov (t : List Pt) (a b lo hi : Int) : Prop where
  la : lo ≤ (atV t a).1
  lb : lo ≤ (atV t b).1
  lp : ∀ j, j < t.length → a ≤ (pt t j).x → (pt t j).x ≤ b → lo ≤ (pt t j).lo
  lx : lo = (atV t a).1 ∨ lo = (atV t b).1 ∨ ∃ j, j < t.length ∧ a < (pt t j).x ∧ (pt t j).x < b ∧ lo = (pt t j).lo
  ha : (atV t a).2 ≤ hi
  hb : (atV t b).2 ≤ hi
  hp : ∀ j, j < t.length → a ≤ (pt t j).x → (pt t j).x ≤ b → (pt t j).hi ≤ hi
  hx : hi = (atV t a).2 ∨ hi = (atV t b).2 ∨ ∃ j, j < t.length ∧ a < (pt t j).x ∧ (pt t j).x < b ∧ hi = (pt t j).hi
theorem Ov.uniq {t : List Pt} {a b lo hi lo' hi' : Int} (h : Ov t a b lo hi) (k : Ov t a b lo' hi') : lo = lo' ∧ hi = hi' := by
  have l1 : lo ≤ lo' := by
    rcases k.lx with e | e | ⟨j, h1, h2, h3, e⟩
    · rw [e]; exact h.la
    · rw [e]; exact h.lb
    · rw [e]; exact h.lp j h1 (by omega) (by omega)
  have l2 : lo' ≤ lo := by
    rcases h.lx with e | e | ⟨j, h1, h2, h3, e⟩
    · rw [e]; exact k.la
    · rw [e]; exact k.lb
    · rw [e]; exact k.lp j h1 (by omega) (by omega)
  have l3 : hi' ≤ hi := by
    rcases k.hx with e | e | ⟨j, h1, h2, h3, e⟩
    · rw [e]; exact h.ha
    · rw [e]; exact h.hb
    · rw [e]; exact h.hp j h1 (by omega) (by omega)
  have l4 : hi ≤ hi' := by
    rcases h.hx with e | e | ⟨j, h1, h2, h3, e⟩
    · rw [e]; exact k.ha
    · rw [e]; exact k.hb
    · rw [e]; exact k.hp j h1 (by omega) (by omega)
  exact ⟨by omega, by omega⟩

/-- ... so far. -/
structure OvI (t : List Pt) (a b : Int) (i : Nat) (lo hi : Int) : Prop where
  la : lo ≤ (atV t a).1
  lb : lo ≤ (atV t b).1
  lp : ∀ j, j < i → a ≤ (pt t j).x → (pt t j).x ≤ b → lo ≤ (pt t j).lo
  lx : lo = (atV t a).1 ∨ lo = (atV t b).1 ∨ ∃ j, j < t.length ∧ a < (pt t j).x ∧ (pt t j).x < b ∧ lo = (pt t j).lo
  ha : (atV t a).2 ≤ hi
  hb : (atV t b).2 ≤ hi
  hp : ∀ j, j < i → a ≤ (pt t j).x → (pt t j).x ≤ b → (pt t j).hi ≤ hi
  hx : hi = (atV t a).2 ∨ hi = (atV t b).2 ∨ ∃ j, j < t.length ∧ a < (pt t j).x ∧ (pt t j).x < b ∧ hi = (pt t j).hi
theorem OvI.step {t : List Pt} (v : VT t) {a b : Int} {i : Nat} {lo hi : Int} (h : OvI t a b i lo hi) (hi' : i < t.length) (h1 : a ≤ (pt t i).x) (h2 : (pt t i).x ≤ b) :
    OvI t a b (i + 1) (if (pt t i).lo < lo then (pt t i).lo else lo) (if (pt t i).hi > hi then (pt t i).hi else hi) := by
  obtain ⟨la, lb, lp, lx, ha, hb, hp, hx⟩ := h
  have ends : (pt t i).x = a ∨ (pt t i).x = b ∨ (a < (pt t i).x ∧ (pt t i).x < b) := by omega
  have ea : (pt t i).x = a → (pt t i).lo = (atV t a).1 ∧ (pt t i).hi = (atV t a).2 := fun e => by rw [← e, atV_pt v hi']; exact ⟨rfl, rfl⟩
  have eb : (pt t i).x = b → (pt t i).lo = (atV t b).1 ∧ (pt t i).hi = (atV t b).2 := fun e => by rw [← e, atV_pt v hi']; exact ⟨rfl, rfl⟩
  refine ⟨by split <;> omega, by split <;> omega, fun j hj a1 a2 => ?_, ?_, by split <;> omega, by split <;> omega, fun j hj a1 a2 => ?_, ?_⟩
  · rcases Nat.eq_or_lt_of_le (Nat.le_of_lt_succ hj) with e | e
    · subst e; split <;> omega
    · have := lp j e a1 a2; split <;> omega
  · split
    · rcases ends with e | e | e
      · exact .inl (ea e).1
      · exact .inr (.inl (eb e).1)
      · exact .inr (.inr ⟨i, hi', e.1, e.2, rfl⟩)
    · exact lx
  · rcases Nat.eq_or_lt_of_le (Nat.le_of_lt_succ hj) with e | e
    · subst e; split <;> omega
    · have := hp j e a1 a2; split <;> omega
  · split
    · rcases ends with e | e | e
      · exact .inl (ea e).2
      · exact .inr (.inl (eb e).2)
      · exact .inr (.inr ⟨i, hi', e.1, e.2, rfl⟩)
    · exact hx
theorem OvI.skip {t : List Pt} {a b : Int} {i : Nat} {lo hi : Int} (h : OvI t a b i lo hi) (h1 : ¬ (a ≤ (pt t i).x ∧ (pt t i).x ≤ b)) : OvI t a b (i + 1) lo hi := by
  obtain ⟨la, lb, lp, lx, ha, hb, hp, hx⟩ := h
  refine ⟨la, lb, fun j hj a1 a2 => ?_, lx, ha, hb, fun j hj a1 a2 => ?_, hx⟩
  · rcases Nat.eq_or_lt_of_le (Nat.le_of_lt_succ hj) with e | e
    · subst e; exact absurd ⟨a1, a2⟩ h1
    · exact lp j e a1 a2
  · rcases Nat.eq_or_lt_of_le (Nat.le_of_lt_succ hj) with e | e
    · subst e; exact absurd ⟨a1, a2⟩ h1
    · exact hp j e a1 a2
theorem OvI.done {t : List Pt} {a b lo hi : Int} (h : OvI t a b t.length lo hi) : Ov t a b lo hi := ⟨h.la, h.lb, h.lp, h.lx, h.ha, h.hb, h.hp, h.hx⟩

theorem F19_l1_eq {f : Nat} (hf : 50 ≤ f) {t : List Pt} (v : VT t) (a b : Int) : ∀ n i (lo hi : Int), i ≤ t.length → t.length - i < n → OvI t a b i lo hi →
    ∃ lo' hi', F19_l1 f t a b n lo hi (i : Int) = some (lo', hi', 0) ∧ Ov t a b lo' hi'
  | 0, i, _, _, _, hn, _ => by omega
  | n + 1, i, lo, hi, hi', hn, ho => by
    have hl := v.l2
    rw [F19_l1]
    rcases Nat.eq_or_lt_of_le hi' with e | e
    · subst e
      rw [decide_eq_false (by omega), cond_false]
      exact ⟨lo, hi, rfl, ho.done⟩
    · rw [decide_eq_true (by omega), cond_true, getI_pt e, Option.bind_some, F90_eq, Option.bind_some]
      unfold F19_j1
      by_cases h : a ≤ (pt t i).x ∧ (pt t i).x ≤ b
      · have hp := pt_in v e
        have ok := v.ok i e
        have l := ok.le
        have e1 := ho.la
        have e2 := ho.ha
        rw [decide_eq_true h, cond_true, F88_at hf v hp.1 hp.2, Option.bind_some, atV_pt v e, succ_w (by omega)]
        have q1 : (if (pt t i).hi < (if (pt t i).lo < lo then (pt t i).lo else lo) then (pt t i).hi else (if (pt t i).lo < lo then (pt t i).lo else lo)) = (if (pt t i).lo < lo then (pt t i).lo else lo) := by
          generalize hm : (if (pt t i).lo < lo then (pt t i).lo else lo) = m
          have : m ≤ (pt t i).lo ∧ m ≤ lo := by rw [← hm]; split <;> omega
          rw [if_neg (by omega)]
        have q2 : (if (pt t i).hi > (if (pt t i).lo > hi then (pt t i).lo else hi) then (pt t i).hi else (if (pt t i).lo > hi then (pt t i).lo else hi)) = (if (pt t i).hi > hi then (pt t i).hi else hi) := by
          split <;> split <;> (try split) <;> omega
        show ∃ lo' hi', F19_l1 f t a b n (if (pt t i).hi < (if (pt t i).lo < lo then (pt t i).lo else lo) then (pt t i).hi else (if (pt t i).lo < lo then (pt t i).lo else lo)) (if (pt t i).hi > (if (pt t i).lo > hi then (pt t i).lo else hi) then (pt t i).hi else (if (pt t i).lo > hi then (pt t i).lo else hi)) _ = _ ∧ _
        rw [q1, q2]
        exact F19_l1_eq hf v a b n (i + 1) _ _ e (by omega) (ho.step v e h.1 h.2)
      · rw [decide_eq_false h, cond_false, succ_w (by omega)]
        exact F19_l1_eq hf v a b n (i + 1) _ _ e (by omega) (ho.skip h)

theorem mm4 {p q r s : Int} (h1 : p ≤ q) (h2 : r ≤ s) : (if s < (if r < (if q < (if p < p then p else p) then q else (if p < p then p else p)) then r else (if q < (if p < p then p else p) then q else (if p < p then p else p))) then s else (if r < (if q < (if p < p then p else p) then q else (if p < p then p else p)) then r else (if q < (if p < p then p else p) then q else (if p < p then p else p)))) = (if r < p then r else p) := by
  have e1 : (if p < p then p else p) = p := by split <;> rfl
  have e2 : (if q < p then q else p) = p := by split <;> omega
  rw [e1, e2]; split <;> split <;> omega
theorem mx4 {p q r s : Int} (h1 : p ≤ q) (h2 : r ≤ s) : (if s > (if r > (if q > (if p > p then p else p) then q else (if p > p then p else p)) then r else (if q > (if p > p then p else p) then q else (if p > p then p else p))) then s else (if r > (if q > (if p > p then p else p) then q else (if p > p then p else p)) then r else (if q > (if p > p then p else p) then q else (if p > p then p else p)))) = (if s > q then s else q) := by
  have e1 : (if p > p then p else p) = p := by split <;> rfl
  have e2 : (if q > p then q else p) = q := by split <;> omega
  rw [e1, e2]; split <;> split <;> (try split) <;> omega

theorem OvI.start {t : List Pt} {a b : Int} : OvI t a b 0 (if (atV t b).1 < (atV t a).1 then (atV t b).1 else (atV t a).1) (if (atV t b).2 > (atV t a).2 then (atV t b).2 else (atV t a).2) := by
  refine ⟨by split <;> omega, by split <;> omega, fun j hj => by omega, ?_, by split <;> omega, by split <;> omega, fun j hj => by omega, ?_⟩
  · split
    · exact .inr (.inl rfl)
    · exact .inl rfl
  · split
    · exact .inr (.inl rfl)
    · exact .inl rfl
theorem F19_eq {f : Nat} (hf : 50 ≤ f) {t : List Pt} (v : VT t) (h67 : F67 f t = some 0) {a b : Int} (hV : V a b) (h1 : fstX t ≤ a) (h2 : b ≤ lstX t) : ∃ lo hi, F19 f t a b = some (lo, hi, 0) ∧ Ov t a b lo hi := by
  have hab : a ≤ b := hV.2.1
  have b1 := atV_bd v h1 (by omega)
  have b2 := atV_bd v (x := b) (by omega) h2
  have hl := v.l2
  unfold F19
  rw [h67, Option.bind_some, cond_z, F52_eq, if_pos hV, Option.bind_some, cond_z, F81_eq f v, Option.bind_some, decide_eq_true ⟨h1, h2⟩, Bool.not_true, cond_false, F88_at hf v h1 (by omega), Option.bind_some, F88_at hf v (by omega) h2, Option.bind_some, mm4 b1.2.1 b2.2.1, mx4 b1.2.1 b2.2.1]
  have := F19_l1_eq hf v a b f 0 _ _ (Nat.zero_le _) (by omega) (OvI.start (t := t) (a := a) (b := b))
  exact this

/-! ### Runs -/
def inR (l : List Rng) (x : Int) : Prop := ∃ r ∈ l, r.lo ≤ x ∧ x ≤ r.hi
/-- Runs in their order, none beside another one. -/
structure Runs (l : List Rng) : Prop where
  gap : l.Pairwise fun r s => r.hi + 1 < s.lo
  ne : ∀ r ∈ l, r.lo ≤ r.hi
theorem inR_cons {r : Rng} {l : List Rng} {x : Int} : inR (r :: l) x ↔ (r.lo ≤ x ∧ x ≤ r.hi) ∨ inR l x := by
  unfold inR
  constructor
  · rintro ⟨s, hs, h⟩
    rcases List.mem_cons.1 hs with e | e
    · subst e; exact .inl h
    · exact .inr ⟨s, e, h⟩
  · rintro (h | ⟨s, hs, h⟩)
    · exact ⟨r, List.mem_cons_self .., h⟩
    · exact ⟨s, List.mem_cons_of_mem _ hs, h⟩
theorem Runs.ext : ∀ {l m : List Rng}, Runs l → Runs m → (∀ x, inR l x ↔ inR m x) → l = m
  | [], [], _, _, _ => rfl
  | [], r :: m, _, hm, h => by
    have := (h r.lo).2 (inR_cons.2 (.inl ⟨Int.le_refl _, hm.ne r (List.mem_cons_self ..)⟩))
    obtain ⟨s, hs, _⟩ := this; cases hs
  | r :: l, [], hl, _, h => by
    have := (h r.lo).1 (inR_cons.2 (.inl ⟨Int.le_refl _, hl.ne r (List.mem_cons_self ..)⟩))
    obtain ⟨s, hs, _⟩ := this; cases hs
  | r :: l, s :: m, hl, hm, h => by
    obtain ⟨g1, g2⟩ := List.pairwise_cons.1 hl.gap
    obtain ⟨k1, k2⟩ := List.pairwise_cons.1 hm.gap
    have n1 := hl.ne r (List.mem_cons_self ..)
    have n2 := hm.ne s (List.mem_cons_self ..)
    have far1 : ∀ x, inR l x → r.hi + 1 < x := fun x ⟨q, hq, hx⟩ => by have := g1 q hq; omega
    have far2 : ∀ x, inR m x → s.hi + 1 < x := fun x ⟨q, hq, hx⟩ => by have := k1 q hq; omega
    have lo1 : s.lo ≤ r.lo := by
      rcases inR_cons.1 ((h r.lo).1 (inR_cons.2 (.inl ⟨Int.le_refl _, n1⟩))) with e | e
      · exact e.1
      · have := far2 _ e; omega
    have lo2 : r.lo ≤ s.lo := by
      rcases inR_cons.1 ((h s.lo).2 (inR_cons.2 (.inl ⟨Int.le_refl _, n2⟩))) with e | e
      · exact e.1
      · have := far1 _ e; omega
    have hi1 : s.hi ≤ r.hi := by
      rcases Int.lt_or_le r.hi s.hi with e | e
      · rcases inR_cons.1 ((h (r.hi + 1)).2 (inR_cons.2 (.inl ⟨by omega, by omega⟩))) with e' | e'
        · omega
        · have := far1 _ e'; omega
      · exact e
    have hi2 : r.hi ≤ s.hi := by
      rcases Int.lt_or_le s.hi r.hi with e | e
      · rcases inR_cons.1 ((h (s.hi + 1)).1 (inR_cons.2 (.inl ⟨by omega, by omega⟩))) with e' | e'
        · omega
        · have := far2 _ e'; omega
      · exact e
    have hrs : r = s := by
      obtain ⟨rl, rh⟩ := r
      obtain ⟨sl, sh⟩ := s
      simp only at lo1 lo2 hi1 hi2
      have e1 : rl = sl := by omega
      have e2 : rh = sh := by omega
      rw [e1, e2]
    subst hrs
    congr 1
    refine Runs.ext ⟨g2, fun q hq => hl.ne q (List.mem_cons_of_mem _ hq)⟩ ⟨k2, fun q hq => hm.ne q (List.mem_cons_of_mem _ hq)⟩ fun x => ⟨fun hx => ?_, fun hx => ?_⟩
    · rcases inR_cons.1 ((h x).1 (inR_cons.2 (.inr hx))) with e | e
      · have := far1 x hx; omega
      · exact e
    · rcases inR_cons.1 ((h x).2 (inR_cons.2 (.inr hx))) with e | e
      · have := far2 x hx; omega
      · exact e

/-- The last run, and what is ahead of it. -/
theorem snoc_cases {α : Type} (l : List α) : l = [] ∨ ∃ k r, l = k ++ [r] := by
  rcases List.eq_nil_or_concat l with h | ⟨k, r, h⟩
  · exact .inl h
  · exact .inr ⟨k, r, by simpa using h⟩
theorem inR_snoc {r : Rng} {l : List Rng} {x : Int} : inR (l ++ [r]) x ↔ inR l x ∨ (r.lo ≤ x ∧ x ≤ r.hi) := by
  unfold inR
  constructor
  · rintro ⟨s, hs, h⟩
    rcases List.mem_append.1 hs with e | e
    · exact .inl ⟨s, e, h⟩
    · simp only [List.mem_singleton] at e; subst e; exact .inr h
  · rintro (⟨s, hs, h⟩ | h)
    · exact ⟨s, List.mem_append_left _ hs, h⟩
    · exact ⟨r, List.mem_append_right _ (List.mem_singleton.2 rfl), h⟩
theorem Runs.nil : Runs [] := ⟨List.Pairwise.nil, fun _ h => by cases h⟩
theorem Runs.snoc {l : List Rng} (h : Runs l) {r : Rng} (hr : r.lo ≤ r.hi) (hg : ∀ s ∈ l, s.hi + 1 < r.lo) : Runs (l ++ [r]) :=
  ⟨List.pairwise_append.2 ⟨h.gap, List.pairwise_singleton _ _, fun s hs q hq => by simp only [List.mem_singleton] at hq; subst hq; exact hg s hs⟩, fun s hs => by
    rcases List.mem_append.1 hs with e | e
    · exact h.ne s e
    · simp only [List.mem_singleton] at e; subst e; exact hr⟩
theorem Runs.init {l : List Rng} {r : Rng} (h : Runs (l ++ [r])) : Runs l ∧ r.lo ≤ r.hi ∧ ∀ s ∈ l, s.hi + 1 < r.lo := by
  obtain ⟨g1, _, g3⟩ := List.pairwise_append.1 h.gap
  exact ⟨⟨g1, fun s hs => h.ne s (List.mem_append_left _ hs)⟩, h.ne r (List.mem_append_right _ (List.mem_singleton.2 rfl)), fun s hs => g3 s hs r (List.mem_singleton.2 rfl)⟩

/-- The runs of the places from a on, ahead of x. -/
structure RunsTo (Q : Int → Prop) (a x : Int) (l : List Rng) : Prop where
  runs : Runs l
  mem : ∀ y, inR l y ↔ Q y ∧ a ≤ y ∧ y < x
  top : ∀ r ∈ l, r.hi < x
  len : (l.length : Int) ≤ x - a

theorem RunsTo.skip {Q : Int → Prop} {a x : Int} {l : List Rng} (h : RunsTo Q a x l) (hq : ¬ Q x) : RunsTo Q a (x + 1) l :=
  ⟨h.runs, fun y => (h.mem y).trans ⟨fun ⟨q, h1, h2⟩ => ⟨q, h1, by omega⟩, fun ⟨q, h1, h2⟩ => ⟨q, h1, by
    rcases Int.lt_or_eq_of_le (show y ≤ x by omega) with e | e
    · exact e
    · subst e; exact absurd q hq⟩⟩, fun r hr => by have := h.top r hr; omega, by have := h.len; omega⟩
/-- ... with a place more: the last run grows, or there is a new one. -/
theorem RunsTo.grow {Q : Int → Prop} {a x : Int} {k : List Rng} {r : Rng} (h : RunsTo Q a x (k ++ [r])) (hq : Q x) (hax : a ≤ x) (hr : r.hi = x - 1) : RunsTo Q a (x + 1) (k ++ [⟨r.lo, x⟩]) := by
  obtain ⟨h1, h2, h3⟩ := h.runs.init
  refine ⟨h1.snoc (by simp only; omega) h3, fun y => ?_, fun s hs => ?_, by have := h.len; simp at *; omega⟩
  · have hm := h.mem y
    rw [inR_snoc] at hm ⊢
    constructor
    · rintro (e | e)
      · have := hm.1 (.inl e); exact ⟨this.1, this.2.1, by omega⟩
      · by_cases hy : y = x
        · subst hy; exact ⟨hq, hax, by omega⟩
        · have := hm.1 (.inr ⟨e.1, by simp only at e; omega⟩); exact ⟨this.1, this.2.1, by omega⟩
    · rintro ⟨q, e1, e2⟩
      by_cases hy : y = x
      · exact .inr ⟨by simp only; omega, by simp only; omega⟩
      · rcases hm.2 ⟨q, e1, by omega⟩ with e | e
        · exact .inl e
        · exact .inr ⟨e.1, by simp only; omega⟩
  · rcases List.mem_append.1 hs with e | e
    · have := h3 s e; omega
    · simp only [List.mem_singleton] at e; subst e; simp only; omega
theorem RunsTo.new {Q : Int → Prop} {a x : Int} {l : List Rng} (h : RunsTo Q a x l) (hq : Q x) (hax : a ≤ x) (hr : ∀ r ∈ l, r.hi + 1 < x) : RunsTo Q a (x + 1) (l ++ [⟨x, x⟩]) := by
  refine ⟨h.runs.snoc (Int.le_refl _) hr, fun y => ?_, fun s hs => ?_, by have := h.len; simp; omega⟩
  · rw [inR_snoc, h.mem]
    constructor
    · rintro (e | e)
      · exact ⟨e.1, e.2.1, by omega⟩
      · have : y = x := by simp only at e; omega
        subst this; exact ⟨hq, hax, by omega⟩
    · rintro ⟨q, e1, e2⟩
      by_cases hy : y = x
      · exact .inr ⟨by simp only; omega, by simp only; omega⟩
      · exact .inl ⟨q, e1, by omega⟩
  · rcases List.mem_append.1 hs with e | e
    · have := hr s e; omega
    · simp only [List.mem_singleton] at e; subst e; simp only; omega
theorem gap_of {k : List Rng} {r : Rng} {x : Int} (h : Runs (k ++ [r])) (hr : r.hi + 1 < x) : ∀ s ∈ k ++ [r], s.hi + 1 < x := fun s hs => by
  obtain ⟨_, h2, h3⟩ := h.init
  rcases List.mem_append.1 hs with e | e
  · have := h3 s e; omega
  · simp only [List.mem_singleton] at e; subst e; exact hr
theorem snoc_getI {k : List Rng} {r : Rng} (h : k.length ≤ 4000000) : getI (k ++ [r]) (w64 (((k ++ [r]).length : Int) - 1)) = some r := by
  have e : w64 (((k ++ [r]).length : Int) - 1) = (k.length : Int) := by
    rw [List.length_append, List.length_singleton, w64_id (by omega) (by omega)]; omega
  rw [e, getI_of (by simp)]
  simp
theorem snoc_setI {k : List Rng} {r q : Rng} (h : k.length ≤ 4000000) : setI (k ++ [r]) (w64 (((k ++ [r]).length : Int) - 1)) q = some (k ++ [q]) := by
  have e : w64 (((k ++ [r]).length : Int) - 1) = (k.length : Int) := by
    rw [List.length_append, List.length_singleton, w64_id (by omega) (by omega)]; omega
  rw [e]
  unfold setI
  rw [if_pos (by simp; omega)]
  simp
theorem appC_eq' {α : Type} {xs ys : List α} (h : xs.length + ys.length ≤ 1000000000) : appC xs ys = some (xs ++ ys) := by
  unfold appC
  rw [if_pos (by omega)]
end Go.Proofs.Ytpjmgeajajcceaa
