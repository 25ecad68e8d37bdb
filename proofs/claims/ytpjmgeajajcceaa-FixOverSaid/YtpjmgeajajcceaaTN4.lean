/-
  Over, Where and Above answer as the reference's. No condition.
-/
import Derived.Test.YtpjmgeajajcceaaTM4
set_option linter.unusedSimpArgs false
set_option linter.unusedVariables false
namespace Go.Proofs.Ytpjmgeajajcceaa
open Go.Sl Go.Sx

theorem dn_mono {a b y z x x' : Int} (h : a < b) (hx : x ≤ x') : (y ≤ z → dn a b y z x ≤ dn a b y z x') ∧ (z ≤ y → dn a b y z x' ≤ dn a b y z x) := by
  unfold dn
  constructor
  · intro hy
    have := Int.ediv_le_ediv (show 0 < b - a by omega) (Int.mul_le_mul_of_nonneg_left (show x - a ≤ x' - a by omega) (show 0 ≤ z - y by omega))
    omega
  · intro hy
    have := Int.ediv_le_ediv (show 0 < b - a by omega) (Int.mul_le_mul_of_nonpos_left (show z - y ≤ 0 by omega) (show x - a ≤ x' - a by omega))
    omega
theorem upw_mono {a b y z x x' : Int} (h : a < b) (hx : x ≤ x') : (y ≤ z → upw a b y z x ≤ upw a b y z x') ∧ (z ≤ y → upw a b y z x' ≤ upw a b y z x) := by
  have := dn_mono (y := -y) (z := -z) h hx
  rw [upw_neg, upw_neg]
  exact ⟨fun hy => by have := this.2 (by omega); omega, fun hy => by have := this.1 (by omega); omega⟩
/-- A side changes once at most within a piece. -/
theorem sd_mono {t : List Pt} (v : VT t) {i : Nat} (hi : i + 1 < t.length) (kind n : Int) : Mono (sd t kind n) (pt t i).x (pt t (i + 1)).x := by
  have up := v.up i hi
  have key : ∀ x y, (pt t i).x ≤ x → x ≤ y → y ≤ (pt t (i + 1)).x → (((pt t i).lo ≤ (pt t (i + 1)).lo → (atV t x).1 ≤ (atV t y).1) ∧ ((pt t (i + 1)).lo ≤ (pt t i).lo → (atV t y).1 ≤ (atV t x).1)) ∧ (((pt t i).hi ≤ (pt t (i + 1)).hi → (atV t x).2 ≤ (atV t y).2) ∧ ((pt t (i + 1)).hi ≤ (pt t i).hi → (atV t y).2 ≤ (atV t x).2)) := fun x y h1 h2 h3 => by
    rw [atV_piece v hi h1 (by omega), atV_piece v hi (by omega) h3]
    exact ⟨dn_mono up h2, upw_mono up h2⟩
  unfold Mono sd
  cases (kind == 1) with
  | true =>
    simp only [cond_true, decide_eq_true_eq]
    rcases Int.le_total (pt t i).lo (pt t (i + 1)).lo with h | h
    · exact .inr fun x y h1 h2 h3 q => by have := (key x y h1 h2 h3).1.1 h; omega
    · exact .inl fun x y h1 h2 h3 q => by have := (key x y h1 h2 h3).1.2 h; omega
  | false =>
    cases (kind == 2) with
    | true =>
      simp only [cond_false, cond_true, decide_eq_true_eq]
      rcases Int.le_total (pt t i).hi (pt t (i + 1)).hi with h | h
      · exact .inl fun x y h1 h2 h3 q => by have := (key x y h1 h2 h3).2.1 h; omega
      · exact .inr fun x y h1 h2 h3 q => by have := (key x y h1 h2 h3).2.2 h; omega
    | false =>
      simp only [cond_false, decide_eq_true_eq]
      rcases Int.le_total (pt t i).lo (pt t (i + 1)).lo with h | h
      · exact .inl fun x y h1 h2 h3 q => by have := (key x y h1 h2 h3).1.1 h; omega
      · exact .inr fun x y h1 h2 h3 q => by have := (key x y h1 h2 h3).1.2 h; omega
theorem mono_one (q : Int → Bool) (a : Int) : Mono q a a := .inl fun x y h1 h2 h3 hq => by
  have : x = y := by omega
  rw [← this]; exact hq

theorem runs_len : ∀ {l : List Rng} {a x : Int}, Runs l → (∀ r ∈ l, a ≤ r.lo ∧ r.hi < x) → a ≤ x → (l.length : Int) ≤ x - a
  | [], _, _, _, _, h => by simp; omega
  | r :: l, a, x, hr, hb, h => by
    obtain ⟨g1, g2⟩ := List.pairwise_cons.1 hr.gap
    have n := hr.ne r (List.mem_cons_self ..)
    have b := hb r (List.mem_cons_self ..)
    have := runs_len (l := l) (a := r.hi + 1) (x := x) ⟨g2, fun s hs => hr.ne s (List.mem_cons_of_mem _ hs)⟩ (fun s hs => ⟨by have := g1 s hs; omega, (hb s (List.mem_cons_of_mem _ hs)).2⟩) (by omega)
    simp only [List.length_cons]; omega
theorem inR_lo {l : List Rng} (h : Runs l) {r : Rng} (hr : r ∈ l) : inR l r.lo := ⟨r, hr, Int.le_refl _, h.ne r hr⟩

/-- A run behind runs. -/
def addR (l : List Rng) (A B : Int) : List Rng := match l.getLast? with
  | none => [⟨A, B⟩]
  | some r => if A ≤ r.hi + 1 then l.dropLast ++ [⟨r.lo, if B > r.hi then B else r.hi⟩] else l ++ [⟨A, B⟩]
theorem addR_nil (A B : Int) : addR [] A B = [⟨A, B⟩] := rfl
theorem addR_snoc (k : List Rng) (r : Rng) (A B : Int) : addR (k ++ [r]) A B = if A ≤ r.hi + 1 then k ++ [⟨r.lo, if B > r.hi then B else r.hi⟩] else k ++ [r] ++ [⟨A, B⟩] := by
  simp [addR]

/-- A piece's places, taken at once. -/
theorem RunsTo.piece {Q : Int → Prop} {a X s e A B : Int} {l : List Rng} (h : RunsTo Q a X l) (h1 : s ≤ X) (h2 : X - 1 ≤ s) (has : a ≤ s) (hX : X ≤ e + 1) (hA : s ≤ A) (hAB : A ≤ B) (hB : B ≤ e) (hq : ∀ y, s ≤ y → y ≤ e → (Q y ↔ A ≤ y ∧ y ≤ B)) : RunsTo Q a (e + 1) (addR l A B) := by
  have fin : ∀ l' : List Rng, Runs l' → (∀ y, inR l' y ↔ Q y ∧ a ≤ y ∧ y < e + 1) → RunsTo Q a (e + 1) l' := fun l' hr hm => by
    have ht : ∀ r ∈ l', r.hi < e + 1 := fun r hr' => ((hm r.hi).1 ⟨r, hr', hr.ne r hr', Int.le_refl _⟩).2.2
    exact ⟨hr, hm, ht, runs_len hr (fun r hr' => ⟨((hm r.lo).1 (inR_lo hr hr')).2.1, ht r hr'⟩) (by omega)⟩
  have new : (∀ r ∈ l, r.hi + 1 < A) → RunsTo Q a (e + 1) (l ++ [⟨A, B⟩]) := fun hg => by
    refine fin _ (h.runs.snoc hAB hg) fun y => ?_
    rw [inR_snoc, h.mem]
    constructor
    · rintro (c | c)
      · exact ⟨c.1, c.2.1, by omega⟩
      · simp only at c; exact ⟨(hq y (by omega) (by omega)).2 c, by omega, by omega⟩
    · rintro ⟨q, c1, c2⟩
      by_cases hy : y < X
      · exact .inl ⟨q, c1, hy⟩
      · exact .inr ((hq y (by omega) (by omega)).1 q)
  rcases snoc_cases l with rfl | ⟨k, r, rfl⟩
  · rw [addR_nil]; exact new fun r hr => by cases hr
  · rw [addR_snoc]
    obtain ⟨g1, g2, g3⟩ := h.runs.init
    have ht := h.top r (List.mem_append_right _ (List.mem_singleton.2 rfl))
    by_cases hA1 : A ≤ r.hi + 1
    · rw [if_pos hA1]
      obtain ⟨M, eM, m1, m2, m3⟩ : ∃ M, (if B > r.hi then B else r.hi) = M ∧ r.hi ≤ M ∧ B ≤ M ∧ (M = B ∨ M = r.hi) := ⟨_, rfl, by split <;> omega, by split <;> omega, by split <;> simp⟩
      rw [eM]
      refine fin _ (g1.snoc (by simp only; omega) g3) fun y => ?_
      have hm := h.mem y
      rw [inR_snoc] at hm ⊢
      constructor
      · rintro (c | c)
        · have := hm.1 (.inl c); exact ⟨this.1, this.2.1, by omega⟩
        · simp only at c
          by_cases hy : y ≤ r.hi
          · have := hm.1 (.inr ⟨c.1, hy⟩); exact ⟨this.1, this.2.1, by omega⟩
          · have hr1 := hm
            have ra := ((h.mem r.lo).1 (inR_snoc.2 (.inr ⟨Int.le_refl _, g2⟩))).2.1
            exact ⟨(hq y (by omega) (by omega)).2 ⟨by omega, by omega⟩, by omega, by omega⟩
      · rintro ⟨q, c1, c2⟩
        by_cases hy : y < X
        · rcases hm.2 ⟨q, c1, hy⟩ with c | c
          · exact .inl c
          · exact .inr ⟨c.1, by simp only; omega⟩
        · have := (hq y (by omega) (by omega)).1 q
          exact .inr ⟨by simp only; omega, by simp only; omega⟩
    · rw [if_neg hA1]
      exact new (gap_of h.runs (by omega))
theorem RunsTo.noPiece {Q : Int → Prop} {a X s e : Int} {l : List Rng} (h : RunsTo Q a X l) (h1 : s ≤ X) (has : a ≤ s) (hX : X ≤ e + 1) (hq : ∀ y, s ≤ y → y ≤ e → ¬ Q y) : RunsTo Q a (e + 1) l :=
  ⟨h.runs, fun y => (h.mem y).trans ⟨fun ⟨q, c1, c2⟩ => ⟨q, c1, by omega⟩, fun ⟨q, c1, c2⟩ => ⟨q, c1, by
    rcases Int.lt_or_le y X with hy | hy
    · exact hy
    · exact absurd q (hq y (by omega) (by omega))⟩⟩, fun r hr => by have := h.top r hr; omega, by have := h.len; omega⟩

theorem F95_j3_eq (K : List Rng → Int → Option (List Rng)) (l : List Rng) (i : Int) (r1 r2 : Int × Int × Bool) (hl : l.length ≤ 2000000) (hb : ∀ r ∈ l, 0 ≤ r.hi ∧ r.hi ≤ 1000000) :
    F95_j3 K l i r1 r2 true = K (addR l (if r2.1 > r1.1 then r2.1 else r1.1) (if r2.2.1 < r1.2.1 then r2.2.1 else r1.2.1)) (w64 (i + 1)) := by
  unfold F95_j3 F95_j5 F95_j4 F95_j1
  rw [cond_true]
  generalize (if r2.1 > r1.1 then r2.1 else r1.1) = A
  generalize (if r2.2.1 < r1.2.1 then r2.2.1 else r1.2.1) = B
  rcases snoc_cases l with rfl | ⟨k, r, rfl⟩
  · rw [decide_eq_false (by simp), cond_false, cond_false, appC_eq (by simp), Option.bind_some]; rfl
  · have hk : k.length ≤ 4000000 := by simp at hl; omega
    have hr := hb r (List.mem_append_right _ (List.mem_singleton.2 rfl))
    rw [decide_eq_true (by simp), cond_true, snoc_getI hk, Option.bind_some, Option.bind_some, Option.bind_some, w64_id (n := r.hi + 1) (by omega) (by omega), addR_snoc]
    by_cases h : A ≤ r.hi + 1
    · rw [decide_eq_true h, cond_true, snoc_setI hk, Option.bind_some, if_pos h]
    · rw [decide_eq_false h, cond_false, appC_eq' (by simp; omega), Option.bind_some, if_neg h]

theorem F95_l1_eq {f : Nat} (hf : 2000000 ≤ f) {t : List Pt} (v : VT t) (c1 k1 c2 k2 : Int) {Q : Int → Prop} (hQ : ∀ x, Q x ↔ sd t c1 k1 x = true ∧ sd t c2 k2 x = true) : ∀ n i (out : List Rng), i < t.length → t.length - i < n → RunsTo Q (fstX t) (if i = 0 then fstX t else (pt t i).x + 1) out →
    ∃ out', F95_l1 f t c1 k1 c2 k2 n out (i : Int) = some out' ∧ RunsTo Q (fstX t) (lstX t + 1) out'
  | 0, i, _, _, hn, _ => by omega
  | n + 1, i, out, hi, hn, hR => by
    have hl := v.l2
    have d := fst_bd v
    have pin := pt_in v hi
    rw [F95_l1, decide_eq_true (by omega), cond_true, getI_pt hi, Option.bind_some, succ_w (by omega)]
    have Xb : (pt t i).x ≤ (if i = 0 then fstX t else (pt t i).x + 1) ∧ (if i = 0 then fstX t else (pt t i).x + 1) - 1 ≤ (pt t i).x := by
      by_cases h0 : i = 0
      · subst h0; rw [if_pos rfl]; unfold fstX; omega
      · rw [if_neg h0]; omega
    -- one piece
    have one : ∀ e, (pt t i).x ≤ e → e ≤ lstX t → Mono (sd t c1 k1) (pt t i).x e → Mono (sd t c2 k2) (pt t i).x e → (if i = 0 then fstX t else (pt t i).x + 1) ≤ e + 1 →
        ∃ out', F95_j2 f (F95_l1 f t c1 k1 c2 k2 n) t c1 k1 c2 k2 out (i : Int) (pt t i) e = F95_l1 f t c1 k1 c2 k2 n out' (w64 ((i : Int) + 1)) ∧ RunsTo Q (fstX t) (e + 1) out' := fun e he1 he2 hm1 hm2 hX => by
      obtain ⟨lo1, hi1, ok1, e1, B1⟩ := F123_eq hf v pin.1 he1 he2 c1 k1 hm1
      obtain ⟨lo2, hi2, ok2, e2, B2⟩ := F123_eq hf v pin.1 he1 he2 c2 k2 hm2
      unfold F95_j2
      rw [e1, e2, Option.bind_some, Option.bind_some]
      have hno : (∀ y, (pt t i).x ≤ y → y ≤ e → ¬ Q y) → ∃ out', F95_j3 (F95_l1 f t c1 k1 c2 k2 n) out (i : Int) (lo1, hi1, ok1) (lo2, hi2, ok2) false = F95_l1 f t c1 k1 c2 k2 n out' (w64 ((i : Int) + 1)) ∧ RunsTo Q (fstX t) (e + 1) out' := fun hq =>
        ⟨out, rfl, hR.noPiece Xb.1 pin.1 hX hq⟩
      cases ok1 with
      | false => exact hno fun y h1 h2 hq => by have := ((hQ y).1 hq).1; rw [B1.no rfl y h1 h2] at this; cases this
      | true =>
        cases ok2 with
        | false => exact hno fun y h1 h2 hq => by have := ((hQ y).1 hq).2; rw [B2.no rfl y h1 h2] at this; cases this
        | true =>
          obtain ⟨a1, a2, a3, a4⟩ := B1.yes rfl
          obtain ⟨b1, b2, b3, b4⟩ := B2.yes rfl
          show ∃ out', F95_j3 (F95_l1 f t c1 k1 c2 k2 n) out (i : Int) (lo1, hi1, true) (lo2, hi2, true) (decide ((if lo2 > lo1 then lo2 else lo1) ≤ (if hi2 < hi1 then hi2 else hi1))) = _ ∧ _
          obtain ⟨A, eA, A1, A2, A3⟩ : ∃ A, (if lo2 > lo1 then lo2 else lo1) = A ∧ lo1 ≤ A ∧ lo2 ≤ A ∧ (A = lo1 ∨ A = lo2) := ⟨_, rfl, by split <;> omega, by split <;> omega, by split <;> simp⟩
          obtain ⟨B, eB, C1, C2, C3⟩ : ∃ B, (if hi2 < hi1 then hi2 else hi1) = B ∧ B ≤ hi1 ∧ B ≤ hi2 ∧ (B = hi1 ∨ B = hi2) := ⟨_, rfl, by split <;> omega, by split <;> omega, by split <;> simp⟩
          have hq : ∀ y, (pt t i).x ≤ y → y ≤ e → (Q y ↔ A ≤ y ∧ y ≤ B) := fun y h1 h2 => by rw [hQ, a4 y h1 h2, b4 y h1 h2]; omega
          rw [eA, eB]
          by_cases h : A ≤ B
          · rw [decide_eq_true h, F95_j3_eq _ _ _ _ _ (by have := hR.len; by_cases h0 : i = 0; rw [if_pos h0] at this; omega; rw [if_neg h0] at this; omega) (fun r hr => by
              have h1 := ((hR.mem r.lo).1 (inR_lo hR.runs hr)).2.1
              have h2 := hR.runs.ne r hr
              have h3 := hR.top r hr
              by_cases h0 : i = 0
              · rw [if_pos h0] at h3; omega
              · rw [if_neg h0] at h3; omega)]
            rw [show (if (lo2, hi2, true).1 > (lo1, hi1, true).1 then (lo2, hi2, true).1 else (lo1, hi1, true).1) = A from eA, show (if (lo2, hi2, true).2.1 < (lo1, hi1, true).2.1 then (lo2, hi2, true).2.1 else (lo1, hi1, true).2.1) = B from eB]
            exact ⟨_, rfl, hR.piece Xb.1 Xb.2 pin.1 hX (by omega) h (by omega) hq⟩
          · rw [decide_eq_false h]
            exact hno fun y h1 h2 hqy => by have := (hq y h1 h2).1 hqy; omega
    by_cases hx : i + 1 < t.length
    · have up := v.up i hx
      rw [decide_eq_true (by omega), cond_true, getI_pt hx, Option.bind_some]
      obtain ⟨out', e, hR'⟩ := one (pt t (i + 1)).x (by omega) (pt_in v hx).2 (sd_mono v hx c1 k1) (sd_mono v hx c2 k2) (by by_cases h0 : i = 0; rw [if_pos h0]; omega; rw [if_neg h0]; omega)
      rw [e, succ_w (by omega)]
      exact F95_l1_eq hf v c1 k1 c2 k2 hQ n (i + 1) out' hx (by omega) (by rw [if_neg (by omega)]; exact hR')
    · have hlast : (pt t i).x = lstX t := by unfold lstX; congr 2; omega
      rw [decide_eq_false (by omega), cond_false]
      obtain ⟨out', e, hR'⟩ := one (pt t i).x (Int.le_refl _) (by omega) (mono_one _ _) (mono_one _ _) (by by_cases h0 : i = 0; rw [if_pos h0]; omega; rw [if_neg h0]; omega)
      rw [e, succ_w (by omega)]
      obtain ⟨m, rfl⟩ : ∃ m, n = m + 1 := ⟨n - 1, by omega⟩
      rw [F95_l1, decide_eq_false (by omega), cond_false]
      exact ⟨out', rfl, by rw [hlast] at hR'; exact hR'⟩
theorem F95_eq {f : Nat} (hf : 2000000 ≤ f) {t : List Pt} (v : VT t) (c1 k1 c2 k2 : Int) {Q : Int → Prop} (hQ : ∀ x, Q x ↔ sd t c1 k1 x = true ∧ sd t c2 k2 x = true) : ∃ out', F95 f t c1 k1 c2 k2 = some out' ∧ RunsTo Q (fstX t) (lstX t + 1) out' := by
  have h1 := v.l1
  have h2 := v.l2
  have := F95_l1_eq hf v c1 k1 c2 k2 hQ f 0 [] (by omega) (by omega) (by rw [if_pos rfl]; exact RunsTo.start _ _)
  exact this
theorem RunsTo.uniq {Q : Int → Prop} {a x : Int} {l m : List Rng} (h : RunsTo Q a x l) (k : RunsTo Q a x m) : l = m := Runs.ext h.runs k.runs fun y => (h.mem y).trans (k.mem y).symm

theorem where_eq {f : Nat} (hf : 2000000 ≤ f) {t : List Pt} (v : VT t) (h67 : F67 f t = some 0) (h12 : F12 f t = some true) (lo hi : Int) : ∃ l e, l.length ≤ 1100000 ∧ F21 f t lo hi = some (l, e) ∧ F22 f t lo hi = some (l, e) := by
  by_cases hV : V lo hi
  · obtain ⟨l, e, R⟩ := F21_eq hf v h67 hV
    have hQ : ∀ x, QW t lo hi x ↔ sd t 1 hi x = true ∧ sd t 2 lo x = true := fun x => by simp [QW, sd]
    obtain ⟨m, e', R'⟩ := F95_eq hf v 1 hi 2 lo hQ
    have := R.uniq R'
    subst this
    have d := fst_bd v
    refine ⟨l, 0, by have := R.len; omega, e, ?_⟩
    unfold F22
    rw [h12, Option.bind_some, Bool.not_true, cond_false, F34_eq, Option.bind_some, decide_eq_true hV, Bool.not_true, cond_false, e']; rfl
  · refine ⟨[], 10, by simp, ?_, ?_⟩
    · unfold F21
      rw [h67, Option.bind_some, cond_z, F52_eq, if_neg hV]; rfl
    · unfold F22
      rw [h12, Option.bind_some, Bool.not_true, cond_false, F34_eq, decide_eq_false hV]; rfl
theorem above_eq {f : Nat} (hf : 2000000 ≤ f) {t : List Pt} (v : VT t) (h67 : F67 f t = some 0) (h12 : F12 f t = some true) (y : Int) : ∃ l e, l.length ≤ 1100000 ∧ F23 f t y = some (l, e) ∧ F24 f t y = some (l, e) := by
  obtain ⟨l, e, R⟩ := F23_eq hf v h67 y
  have hQ : ∀ x, QA t y x ↔ sd t 3 y x = true ∧ sd t 3 y x = true := fun x => by simp [QA, sd]
  obtain ⟨m, e', R'⟩ := F95_eq hf v 3 y 3 y hQ
  have := R.uniq R'
  subst this
  have d := fst_bd v
  refine ⟨l, 0, by have := R.len; omega, e, ?_⟩
  unfold F24
  rw [h12, Option.bind_some, Bool.not_true, cond_false, e']; rfl

/-! ### Over -/
theorem F20_l1_eq {t : List Pt} (v : VT t) {a b : Int} : ∀ n i (lo hi : Int), i ≤ t.length → t.length - i < n → OvI t a b i lo hi →
    ∃ lo' hi', F20_l1 t a b n lo hi (i : Int) = some (lo', hi', 0) ∧ Ov t a b lo' hi'
  | 0, i, _, _, _, hn, _ => by omega
  | n + 1, i, lo, hi, hi', hn, ho => by
    have hl := v.l2
    rw [F20_l1]
    rcases Nat.eq_or_lt_of_le hi' with e | e
    · subst e
      rw [decide_eq_false (by omega), cond_false]
      exact ⟨lo, hi, rfl, ho.done⟩
    · rw [decide_eq_true (by omega), cond_true, getI_pt e, Option.bind_some]
      unfold F20_j3 F20_j2
      have out : ¬ (a < (pt t i).x ∧ (pt t i).x < b) → OvI t a b (i + 1) lo hi := fun h => by
        by_cases h2 : a ≤ (pt t i).x ∧ (pt t i).x ≤ b
        · have hat := atV_pt v e
          have hs := ho.step v e h2.1 h2.2
          have h3 : (pt t i).x = a ∨ (pt t i).x = b := by omega
          have hlo : lo ≤ (pt t i).lo ∧ (pt t i).hi ≤ hi := by
            rcases h3 with h3 | h3
            · rw [h3] at hat
              have h4 := ho.la; have h5 := ho.ha
              rw [hat] at h4 h5; exact ⟨h4, h5⟩
            · rw [h3] at hat
              have h4 := ho.lb; have h5 := ho.hb
              rw [hat] at h4 h5; exact ⟨h4, h5⟩
          rw [if_neg (by omega), if_neg (by omega)] at hs
          exact hs
        · exact ho.skip h2
      by_cases h1 : a < (pt t i).x
      · by_cases h2 : (pt t i).x < b
        · rw [decide_eq_true h1, decide_eq_true h2, cond_true, cond_true, succ_w (by omega)]
          exact F20_l1_eq v n (i + 1) _ _ e (by omega) (ho.step v e (by omega) (by omega))
        · rw [decide_eq_true h1, decide_eq_false h2, cond_true, cond_false, succ_w (by omega)]
          exact F20_l1_eq v n (i + 1) _ _ e (by omega) (out fun h => h2 h.2)
      · rw [decide_eq_false h1, cond_false, cond_false, succ_w (by omega)]
        exact F20_l1_eq v n (i + 1) _ _ e (by omega) (out fun h => h1 h.1)
theorem over_eq {f : Nat} (hf : 50 ≤ f) {t : List Pt} (v : VT t) (h67 : F67 f t = some 0) (h12 : F12 f t = some true) (a b : Int) : ∃ r, F19 f t a b = some r ∧ F20 f t a b = some r := by
  have hl := v.l2
  by_cases hV : V a b
  · have hab : a ≤ b := hV.2.1
    by_cases hd : fstX t ≤ a ∧ b ≤ lstX t
    · obtain ⟨lo, hi, e, O⟩ := F19_eq hf v h67 hV hd.1 hd.2
      refine ⟨_, e, ?_⟩
      unfold F20 F20_j1
      rw [h12, Option.bind_some, Bool.not_true, cond_false, F34_eq, Option.bind_some, decide_eq_true hV, Bool.not_true, cond_false, F91_eq f v, Option.bind_some, decide_eq_true (show fstX t ≤ a ∧ a ≤ lstX t by omega), Bool.not_true, cond_false, F91_eq f v, Option.bind_some, decide_eq_true (show fstX t ≤ b ∧ b ≤ lstX t by omega), Bool.not_true, cond_false, F92_at hf v hd.1 (by omega), Option.bind_some, F92_at hf v (by omega) hd.2, Option.bind_some]
      obtain ⟨lo', hi', e', O'⟩ := F20_l1_eq v (a := a) (b := b) f 0 _ _ (Nat.zero_le _) (by omega) (OvI.start (t := t) (a := a) (b := b))
      obtain ⟨rfl, rfl⟩ := O.uniq O'
      exact e'
    · refine ⟨(0, 0, 4), ?_, ?_⟩
      · unfold F19
        rw [h67, Option.bind_some, cond_z, F52_eq, if_pos hV, Option.bind_some, cond_z, F81_eq f v, Option.bind_some, decide_eq_false hd]; rfl
      · unfold F20 F20_j1
        rw [h12, Option.bind_some, Bool.not_true, cond_false, F34_eq, Option.bind_some, decide_eq_true hV, Bool.not_true, cond_false, F91_eq f v, Option.bind_some]
        by_cases ha : fstX t ≤ a ∧ a ≤ lstX t
        · rw [decide_eq_true ha, Bool.not_true, cond_false, F91_eq f v, Option.bind_some, decide_eq_false (by omega)]; rfl
        · rw [decide_eq_false ha]; rfl
  · refine ⟨(0, 0, 10), ?_, ?_⟩
    · unfold F19
      rw [h67, Option.bind_some, cond_z, F52_eq, if_neg hV]; rfl
    · unfold F20
      rw [h12, Option.bind_some, Bool.not_true, cond_false, F34_eq, decide_eq_false hV]; rfl
theorem F26_l1_same (t : List Rng) (hl : t.length ≤ 1500000) : ∀ n i, i ≤ t.length → t.length - i < n → F26_l1 t t n (i : Int) = some true
  | 0, i, _, hn => by omega
  | n + 1, i, hi, hn => by
    rw [F26_l1]
    rcases Nat.eq_or_lt_of_le hi with e | e
    · subst e; rw [decide_eq_false (by omega), cond_false]
    · rw [decide_eq_true (by omega), cond_true, getI_of e, Option.bind_some, Option.bind_some]
      simp only [beq_self_eq_true, Bool.and_true, Bool.not_true, cond_false]
      rw [succ_w (by omega)]
      exact F26_l1_same t hl n (i + 1) e (by omega)
theorem F26_same {f : Nat} (t : List Rng) (hl : t.length ≤ 1500000) (hf : t.length < f) : F26 f t t = some true := by
  unfold F26
  have : ((t.length : Int) != (t.length : Int)) = false := by simp
  rw [this, cond_false]
  exact F26_l1_same t hl f 0 (Nat.zero_le _) (by omega)
end Go.Proofs.Ytpjmgeajajcceaa
