/-
  Above: the runs that the program tells; the reference's search of a side of a piece. No condition.
-/
import Derived.Test.YtpjmgeajajcceaaTB4
import Derived.Test.YtpjmgeajajcceaaTL
set_option linter.unusedSimpArgs false
set_option linter.unusedVariables false
namespace Go.Proofs.Ytpjmgeajajcceaa
open Go.Sl Go.Sx

/-- Is each value at least so much there? -/
def QA (t : List Pt) (y x : Int) : Prop := (atV t x).1 ≥ y

theorem F23_l3_eq (f : Nat) {t : List Pt} (v : VT t) (k3 : List Rng → Int → Int → Option (List Rng × Int)) (y j : Int) {i : Nat} (hi' : i + 1 < t.length) : ∀ n (out : List Rng) (last x : Int), (pt t i).x ≤ x → x ≤ (pt t (i + 1)).x + 1 → ((pt t (i + 1)).x + 1 - x).toNat < n → (x ≤ (pt t (i + 1)).x ∨ last = (pt t (i + 1)).x) → RunsTo (QA t y) (fstX t) x out →
    ∃ out', F23_l3 f k3 y j (pt t (i + 1)) (pt t i) n out last x = k3 out' (pt t (i + 1)).x (w64 (j + 1)) ∧ RunsTo (QA t y) (fstX t) ((pt t (i + 1)).x + 1) out'
  | 0, _, _, _, _, _, hn, _, _ => by omega
  | n + 1, out, last, x, h1, h2, hn, hl, hR => by
    have o2 := v.ok (i + 1) hi'
    have hf := pt_in v (show i < t.length by omega)
    have hb := fst_bd v
    rw [F23_l3]
    by_cases hx : x ≤ (pt t (i + 1)).x
    · rw [decide_eq_true hx, cond_true, F121_at f v hi' h1 hx, Option.bind_some]
      have x1 := o2.x1
      obtain ⟨out', hR', e⟩ := runs_step (fun d => F23_l3 f k3 y j (pt t (i + 1)) (pt t i) n d x (w64 (x + 1))) hR (q := decide ((atV t x).1 ≥ y)) (by simp [QA]) (by omega) hb.1 (by omega)
      unfold F23_j5 F23_j4
      rw [e, w64_id (n := x + 1) (by omega) (by omega)]
      exact F23_l3_eq f v k3 y j hi' n out' x (x + 1) (by omega) (by omega) (by omega) (by omega) hR'
    · rw [decide_eq_false hx, cond_false]
      have : x = (pt t (i + 1)).x + 1 := by omega
      subst this
      refine ⟨out, ?_, hR⟩
      rw [hl.resolve_left hx]

theorem F23_l2_eq {f : Nat} (hf : 2000000 ≤ f) {t : List Pt} (v : VT t) (y : Int) : ∀ n i (out : List Rng) (last : Int), i < t.length → t.length - 1 - i < n → ((i = 0 ∧ last = -1 ∧ out = []) ∨ (0 < i ∧ last = (pt t i).x ∧ RunsTo (QA t y) (fstX t) ((pt t i).x + 1) out)) → 2 ≤ t.length →
    ∃ out', F23_l2 f t y (t.drop 1) n out last (i : Int) = some (out', 0) ∧ RunsTo (QA t y) (fstX t) (lstX t + 1) out'
  | 0, i, _, _, _, hn, _, _ => by omega
  | n + 1, i, out, last, hi', hn, hI, h2 => by
    have hl := v.l2
    rw [F23_l2]
    by_cases hx : i + 1 < t.length
    · rw [decide_eq_true (by rw [List.length_drop]; omega), cond_true, getI_tail hx, getI_pt hi', Option.bind_some, Option.bind_some]
      have ok := v.ok i hi'
      have ok2 := v.ok (i + 1) hx
      have up := v.up i hx
      obtain ⟨x, ex, hR, hx1, hx2⟩ : ∃ x, (if (w64 (last + (1 : Int))) > (pt t i).x then (w64 (last + (1 : Int))) else (pt t i).x) = x ∧ RunsTo (QA t y) (fstX t) x out ∧ (pt t i).x ≤ x ∧ x ≤ (pt t (i + 1)).x := by
        rcases hI with ⟨rfl, rfl, rfl⟩ | ⟨h0, rfl, hR⟩
        · have e : w64 (-1 + 1) = 0 := by decide
          have h0 := ok.x0
          rw [e, if_neg (by omega)]
          exact ⟨_, rfl, RunsTo.start _ _, Int.le_refl _, by omega⟩
        · have x0 := ok.x0
          have x1 := ok.x1
          rw [w64_id (n := (pt t i).x + 1) (by omega) (by omega), if_pos (by omega)]
          exact ⟨_, rfl, hR, by omega, by omega⟩
      rw [ex]
      have x0 := ok.x0
      have x1 := ok2.x1
      obtain ⟨out', e1, hR'⟩ := F23_l3_eq f v (F23_l2 f t y (t.drop 1) n) y (i : Int) hx f out last x hx1 (by omega) (by omega) (.inl hx2) hR
      rw [e1, succ_w (by omega)]
      exact F23_l2_eq hf v y n (i + 1) out' _ hx (by omega) (.inr ⟨by omega, rfl, hR'⟩) h2
    · have he : i = t.length - 1 := by omega
      rw [decide_eq_false (by rw [List.length_drop]; omega), cond_false]
      refine ⟨out, rfl, ?_⟩
      rcases hI with ⟨h0, _⟩ | ⟨_, _, hR⟩
      · omega
      · rw [he] at hR; exact hR

theorem F23_eq {f : Nat} (hf : 2000000 ≤ f) {t : List Pt} (v : VT t) (h67 : F67 f t = some 0) (y : Int) : ∃ out, F23 f t y = some (out, 0) ∧ RunsTo (QA t y) (fstX t) (lstX t + 1) out := by
  have hl1 := v.l1
  have hl2 := v.l2
  unfold F23
  rw [h67, Option.bind_some, cond_z]
  by_cases h1 : t.length = 1
  · have hb : ((t.length : Int) == 1) = true := by simp [h1]
    have e0 := getI_pt (t := t) (i := 0) (by omega)
    rw [show ((0 : Nat) : Int) = 0 from rfl] at e0
    have ok := v.ok 0 (by omega)
    have x0 := ok.x0
    have x1 := ok.x1
    rw [hb, cond_true, e0, Option.bind_some, Option.bind_some, if_neg (by omega)]
    obtain ⟨n, rfl⟩ : ∃ n, f = n + 2 := ⟨f - 2, by omega⟩
    have hfx : fstX t = (pt t 0).x := rfl
    have hlx : lstX t = (pt t 0).x := by unfold lstX; rw [h1]
    have hat := atV_pt v (k := 0) (by omega)
    rw [F23_l1, decide_eq_true (Int.le_refl _), cond_true, F121_same _ ok, Option.bind_some]
    obtain ⟨out', hR', e⟩ := runs_step (fun d => F23_l1 (n + 2) y (pt t 0) (pt t 0) (n + 1) d (pt t 0).x (w64 ((pt t 0).x + 1))) (RunsTo.start (QA t y) (pt t 0).x) (q := decide ((pt t 0).lo ≥ y)) (by simp [QA, hat]) (Int.le_refl _) x0 x1
    unfold F23_j3 F23_j2
    rw [e, F23_l1, w64_id (n := (pt t 0).x + 1) (by omega) (by omega), decide_eq_false (by omega), cond_false, hfx, hlx]
    exact ⟨out', rfl, hR'⟩
  · have hb : ((t.length : Int) == 1) = false := beq_eq_false_iff_ne.2 (by omega)
    rw [hb, cond_false, sub_tail hl1, Option.bind_some]
    have := F23_l2_eq hf v y f 0 [] (-1) (by omega) (by omega) (.inl ⟨rfl, rfl, rfl⟩) (by omega)
    exact this

/-! ### The reference's sides -/
theorem F34_eq (f : Nat) (lo hi : Int) : F34 f lo hi = some (decide (V lo hi)) := by
  unfold F34 F34_j1
  by_cases h : V lo hi
  · have h' := h
    unfold V at h'
    rw [decide_eq_true h, decide_eq_true h'.1, decide_eq_true h'.2.1, decide_eq_true h'.2.2]; rfl
  · rw [decide_eq_false h]
    by_cases h1 : -1000000000000000 ≤ lo
    · by_cases h2 : lo ≤ hi
      · rw [decide_eq_true h1, decide_eq_true h2, decide_eq_false (p := hi ≤ 1000000000000000) (fun h3 => h ⟨h1, h2, h3⟩)]; rfl
      · rw [decide_eq_true h1, decide_eq_false h2]; rfl
    · rw [decide_eq_false h1]; rfl
theorem F92_at {f : Nat} (hf : 50 ≤ f) {t : List Pt} (v : VT t) {x : Int} (h1 : fstX t ≤ x) (h2 : x ≤ lstX t) : F92 f t x = some (atV t x) := F92_eq hf v (ix_seg v h1 h2)

noncomputable def sd (t : List Pt) (kind n x : Int) : Bool := cond (kind == 1) (decide ((atV t x).1 ≤ n)) (cond (kind == 2) (decide ((atV t x).2 ≥ n)) (decide ((atV t x).1 ≥ n)))
theorem F132_eq {f : Nat} (hf : 50 ≤ f) {t : List Pt} (v : VT t) {x : Int} (h1 : fstX t ≤ x) (h2 : x ≤ lstX t) (kind n : Int) : F132 f t x kind n = some (sd t kind n x) := by
  unfold F132 sd
  rw [F92_at hf v h1 h2, Option.bind_some]
  cases (kind == 1) <;> cases (kind == 2) <;> rfl

/-- What a search within a piece tells. -/
structure Beg (q : Int → Bool) (a b lo hi : Int) (ok : Bool) : Prop where
  yes : ok = true → a ≤ lo ∧ lo ≤ hi ∧ hi ≤ b ∧ ∀ x, a ≤ x → x ≤ b → (q x = true ↔ lo ≤ x ∧ x ≤ hi)
  no : ok = false → ∀ x, a ≤ x → x ≤ b → q x = false
def Mono (q : Int → Bool) (a b : Int) : Prop := (∀ x y, a ≤ x → x ≤ y → y ≤ b → q x = true → q y = true) ∨ (∀ x y, a ≤ x → x ≤ y → y ≤ b → q y = true → q x = true)

theorem F123_l1_eq {f : Nat} (hf : 50 ≤ f) {t : List Pt} (v : VT t) {a b : Int} (ha : fstX t ≤ a) (hb : b ≤ lstX t) (kind k : Int) (hm : Mono (sd t kind k) a b) (hne : sd t kind k a ≠ sd t kind k b) : ∀ n (lo hi : Int), (hi - lo).toNat < n → a ≤ lo → lo < hi → hi ≤ b → sd t kind k lo = sd t kind k a → sd t kind k hi = sd t kind k b →
    ∃ lo' hi', F123_l1 f t a b kind k (sd t kind k a) n lo hi = some (lo', hi', true) ∧ Beg (sd t kind k) a b lo' hi' true
  | 0, _, _, hn, _, _, _, _, _ => by omega
  | n + 1, lo, hi, hn, h1, h2, h3, e1, e2 => by
    have d := fst_bd v
    rw [F123_l1, w64_id (n := hi - lo) (by omega) (by omega)]
    by_cases hx : hi - lo > 1
    · have et : Int.tdiv (hi - lo) 2 = (hi - lo) / 2 := Int.tdiv_eq_ediv_of_nonneg (by omega)
      rw [decide_eq_true hx, cond_true, et, w64_id (n := (hi - lo) / 2) (by omega) (by omega), w64_id (n := lo + (hi - lo) / 2) (by omega) (by omega), F132_eq hf v (by omega) (by omega), Option.bind_some]
      by_cases hs : sd t kind k (lo + (hi - lo) / 2) = sd t kind k a
      · have : (sd t kind k (lo + (hi - lo) / 2) == sd t kind k a) = true := by simp [hs]
        rw [this, cond_true]
        exact F123_l1_eq hf v ha hb kind k hm hne n _ _ (by omega) (by omega) (by omega) h3 hs e2
      · have : (sd t kind k (lo + (hi - lo) / 2) == sd t kind k a) = false := by simp [hs]
        rw [this, cond_false]
        refine F123_l1_eq hf v ha hb kind k hm hne n _ _ (by omega) h1 (by omega) (by omega) e1 ?_
        cases h4 : sd t kind k (lo + (hi - lo) / 2) <;> cases h5 : sd t kind k a <;> cases h6 : sd t kind k b <;> simp_all
    · rw [decide_eq_false hx, cond_false]
      have hh : hi = lo + 1 := by omega
      cases h5 : sd t kind k a with
      | true =>
        have h6 : sd t kind k b = false := by cases h6 : sd t kind k b <;> simp_all
        refine ⟨a, lo, rfl, fun _ => ⟨Int.le_refl _, h1, by omega, fun x hx1 hx2 => ⟨fun hq => ⟨hx1, ?_⟩, fun ⟨_, hq⟩ => ?_⟩⟩, fun h => by cases h⟩
        · rcases Int.lt_or_le lo x with hl | hl
          · rcases hm with m | m
            · have := m x b hx1 hx2 (Int.le_refl _) hq; rw [h6] at this; cases this
            · have := m hi x (by omega) (by omega) hx2 hq; rw [e2, h6] at this; cases this
          · exact hl
        · rcases hm with m | m
          · have := m a b (Int.le_refl _) (by omega) (Int.le_refl _) h5; rw [h6] at this; cases this
          · exact m x lo hx1 hq (by omega) (e1.trans h5)
      | false =>
        have h6 : sd t kind k b = true := by cases h6 : sd t kind k b <;> simp_all
        refine ⟨hi, b, rfl, fun _ => ⟨by omega, by omega, Int.le_refl _, fun x hx1 hx2 => ⟨fun hq => ⟨?_, hx2⟩, fun ⟨hq, _⟩ => ?_⟩⟩, fun h => by cases h⟩
        · rcases Int.lt_or_le x hi with hl | hl
          · rcases hm with m | m
            · have := m x lo hx1 (by omega) (by omega) hq; rw [e1, h5] at this; cases this
            · have := m a x (Int.le_refl _) hx1 hx2 hq; rw [h5] at this; cases this
          · exact hl
        · rcases hm with m | m
          · exact m hi x (by omega) hq hx2 (e2.trans h6)
          · have := m a b (Int.le_refl _) (by omega) (Int.le_refl _) h6; rw [h5] at this; cases this

theorem F123_eq {f : Nat} (hf : 2000000 ≤ f) {t : List Pt} (v : VT t) {a b : Int} (ha : fstX t ≤ a) (hab : a ≤ b) (hb : b ≤ lstX t) (kind k : Int) (hm : Mono (sd t kind k) a b) :
    ∃ lo hi ok, F123 f t a b kind k = some (lo, hi, ok) ∧ Beg (sd t kind k) a b lo hi ok := by
  have d := fst_bd v
  unfold F123
  rw [F132_eq (by omega) v ha (by omega), Option.bind_some, F132_eq (by omega) v (by omega) hb, Option.bind_some]
  unfold F123_j1 F123_j2
  have strict : sd t kind k a ≠ sd t kind k b → a < b := fun h => by
    rcases Int.lt_or_eq_of_le hab with e | e
    · exact e
    · subst e; exact absurd rfl h
  cases h5 : sd t kind k a with
  | true =>
    cases h6 : sd t kind k b with
    | true =>
      refine ⟨a, b, true, rfl, fun _ => ⟨Int.le_refl _, hab, Int.le_refl _, fun x h1 h2 => ⟨fun _ => ⟨h1, h2⟩, fun _ => ?_⟩⟩, fun h => by cases h⟩
      rcases hm with m | m
      · exact m a x (Int.le_refl _) h1 h2 h5
      · exact m x b h1 h2 (Int.le_refl _) h6
    | false =>
      have hne : sd t kind k a ≠ sd t kind k b := by rw [h5, h6]; decide
      have hs := strict hne
      obtain ⟨lo, hi, e, B⟩ := F123_l1_eq (show 50 ≤ f by omega) v ha hb kind k hm hne f a b (by omega) (Int.le_refl _) hs (Int.le_refl _) rfl rfl
      rw [h5] at e
      exact ⟨lo, hi, true, e, B⟩
  | false =>
    cases h6 : sd t kind k b with
    | true =>
      have hne : sd t kind k a ≠ sd t kind k b := by rw [h5, h6]; decide
      have hs := strict hne
      obtain ⟨lo, hi, e, B⟩ := F123_l1_eq (show 50 ≤ f by omega) v ha hb kind k hm hne f a b (by omega) (Int.le_refl _) hs (Int.le_refl _) rfl rfl
      rw [h5] at e
      exact ⟨lo, hi, true, e, B⟩
    | false =>
      refine ⟨0, 0, false, rfl, (fun h => by cases h), fun _ x h1 h2 => ?_⟩
      cases hq : sd t kind k x with
      | false => rfl
      | true =>
        rcases hm with m | m
        · have := m x b h1 h2 (Int.le_refl _) hq; rw [h6] at this; cases this
        · have := m a x (Int.le_refl _) h1 h2 hq; rw [h5] at this; cases this
end Go.Proofs.Ytpjmgeajajcceaa
