/-
  The plain law of FixCurves. No condition.
-/
import Derived.Test.YtpjmgeajajcceaaTB6
set_option linter.unusedSimpArgs false
set_option linter.unusedVariables false
namespace Go.Proofs.Ytpjmgeajajcceaa
open Go.Sl Go.Sx

theorem dn_mono {a b y z x x' : Int} (h : a < b) (hx : x ≤ x') : (y ≤ z → dn a b y z x ≤ dn a b y z x') ∧ (z ≤ y → dn a b y z x' ≤ dn a b y z x) := by
  unfold dn
  constructor
  · intro hy
    have := Int.ediv_le_ediv (show 0 < b - a by omega) (Int.mul_le_mul_of_nonneg_left (show x - a ≤ x' - a by omega) (show 0 ≤ z - y by omega))
    omega
  · intro hy
    have := Int.ediv_le_ediv (show 0 < b - a by omega) (Int.mul_le_mul_of_nonpos_left (show z - y ≤ 0 by omega) (show x - a ≤ x' - a by omega))
    omega
theorem dn_between {a b y z u x w : Int} (h : a < b) (h1 : u ≤ x) (h2 : x ≤ w) : dn a b y z u ≤ dn a b y z x ∨ dn a b y z w ≤ dn a b y z x := by
  rcases Int.le_total y z with e | e
  · exact .inl ((dn_mono h h1).1 e)
  · exact .inr ((dn_mono h h2).2 e)
theorem upw_between {a b y z u x w : Int} (h : a < b) (h1 : u ≤ x) (h2 : x ≤ w) : upw a b y z x ≤ upw a b y z u ∨ upw a b y z x ≤ upw a b y z w := by
  rw [upw_neg, upw_neg, upw_neg]
  rcases dn_between (y := -y) (z := -z) h h1 h2 with e | e
  · exact .inl (by omega)
  · exact .inr (by omega)
/-- Each value over a range of places is within Over. -/
theorem Ov.at {t : List Pt} (v : VT t) {a b lo hi x : Int} (O : Ov t a b lo hi) (h1 : fstX t ≤ a) (h2 : a ≤ x) (h3 : x ≤ b) (h4 : b ≤ lstX t) : lo ≤ (atV t x).1 ∧ (atV t x).2 ≤ hi := by
  have g := ix_seg v (x := x) (by omega) (by omega)
  by_cases hx : x = (pt t (ix t x)).x
  · have e : atV t x = ((pt t (ix t x)).lo, (pt t (ix t x)).hi) := by
      conv => lhs; rw [hx]
      exact atV_pt v g.lt
    rw [e]
    exact ⟨O.lp _ g.lt (by omega) (by omega), O.hp _ g.lt (by omega) (by omega)⟩
  · have hn := seg_next g hx
    generalize ix t x = i at *
    have up := v.up i hn
    have nx := g.nx hn
    have le := g.le
    -- the ends within the piece
    have left : ∃ u, (pt t i).x ≤ u ∧ u ≤ x ∧ lo ≤ (atV t u).1 ∧ (atV t u).2 ≤ hi := by
      by_cases ha : (pt t i).x ≤ a
      · exact ⟨a, ha, h2, O.la, O.ha⟩
      · refine ⟨(pt t i).x, Int.le_refl _, le, ?_, ?_⟩
        · rw [atV_pt v g.lt]; exact O.lp _ g.lt (by omega) (by omega)
        · rw [atV_pt v g.lt]; exact O.hp _ g.lt (by omega) (by omega)
    have right : ∃ w, x ≤ w ∧ w ≤ (pt t (i + 1)).x ∧ lo ≤ (atV t w).1 ∧ (atV t w).2 ≤ hi := by
      by_cases hb : b ≤ (pt t (i + 1)).x
      · exact ⟨b, h3, hb, O.lb, O.hb⟩
      · refine ⟨(pt t (i + 1)).x, by omega, Int.le_refl _, ?_, ?_⟩
        · rw [atV_pt v hn]; exact O.lp _ hn (by omega) (by omega)
        · rw [atV_pt v hn]; exact O.hp _ hn (by omega) (by omega)
    obtain ⟨u, u1, u2, u3, u4⟩ := left
    obtain ⟨w, w1, w2, w3, w4⟩ := right
    rw [atV_piece v hn u1 (by omega)] at u3 u4
    rw [atV_piece v hn (by omega) w2] at w3 w4
    rw [atV_piece v hn le (by omega)]
    simp only at u3 u4 w3 w4 ⊢
    have d := dn_between (y := (pt t i).lo) (z := (pt t (i + 1)).lo) up u2 w1
    have e := upw_between (y := (pt t i).hi) (z := (pt t (i + 1)).hi) up u2 w1
    omega

/-- The whole numbers about a fraction lie within a range. -/
def lie (lo hi w n : Int) : Prop := lo ≤ w ∧ w + (if n > 0 then 1 else 0) ≤ hi
theorem F32_eq (f : Nat) {lo hi w n d : Int} (hn : 0 ≤ n) : ∃ b, F32 f lo hi w n d = some b ∧ (b = true ↔ lie lo hi w n) := by
  unfold F32 F32_j1 lie
  by_cases h1 : lo ≤ w
  · rw [decide_eq_true h1, cond_true]
    by_cases h2 : w < hi
    · rw [decide_eq_true h2]
      exact ⟨true, rfl, fun _ => ⟨h1, by split <;> omega⟩, fun _ => rfl⟩
    · rw [decide_eq_false h2, cond_false]
      by_cases h3 : w = hi
      · have : (w == hi) = true := beq_iff_eq.2 h3
        rw [this, cond_true]
        refine ⟨_, rfl, ?_⟩
        rw [beq_iff_eq]
        constructor
        · intro h; exact ⟨h1, by rw [if_neg (by omega)]; omega⟩
        · intro ⟨_, h⟩
          rcases Int.lt_or_eq_of_le hn with e | e
          · rw [if_pos e] at h; omega
          · exact e.symm
      · have : (w == hi) = false := beq_eq_false_iff_ne.2 h3
        rw [this]
        exact ⟨false, rfl, (fun h => by cases h), fun ⟨_, h⟩ => by split at h <;> omega⟩
  · rw [decide_eq_false h1]
    exact ⟨false, rfl, (fun h => by cases h), fun h => absurd h.1 h1⟩

/-- The curve's value at a place lies within the table's. -/
theorem val_lie {t : List Pt} (v : VT t) {c : List Int} (C : Curv t c) {x : Int} (h1 : fstX t ≤ x) (h2 : x ≤ lstX t) : 0 ≤ (valAt t c (ix t x) x).2.1 ∧ lie (atV t x).1 (atV t x).2 (valAt t c (ix t x) x).1 (valAt t c (ix t x) x).2.1 := by
  have g := ix_seg v h1 h2
  unfold atV loAt hiAt valAt
  by_cases hx : x = (pt t (ix t x)).x
  · rw [if_pos hx, if_pos hx, if_pos hx]
    have := C.bd _ g.lt
    refine ⟨Int.le_refl _, this.1, ?_⟩
    simp only; rw [if_neg (by omega)]; omega
  · rw [if_neg hx, if_neg hx, if_neg hx]
    have hn := seg_next g hx
    have up := v.up _ hn
    have nx := g.nx hn
    have le := g.le
    have c1 := C.bd _ g.lt
    have c2 := C.bd _ hn
    generalize ix t x = i at *
    have m0 := Int.emod_nonneg ((nu c (i + 1) - nu c i) * (x - (pt t i).x)) (b := (pt t (i + 1)).x - (pt t i).x) (by omega)
    have hc : upw (pt t i).x (pt t (i + 1)).x (nu c i) (nu c (i + 1)) x = dn (pt t i).x (pt t (i + 1)).x (nu c i) (nu c (i + 1)) x + (if ((nu c (i + 1) - nu c i) * (x - (pt t i).x)) % ((pt t (i + 1)).x - (pt t i).x) > 0 then 1 else 0) := by
      unfold upw dn
      rw [ceil_mod (by omega)]
      split <;> omega
    refine ⟨m0, dn_le up le (by omega) c1.1 c2.1, ?_⟩
    simp only
    rw [← hc]
    exact upw_le up le (by omega) c1.2 c2.2

theorem F33_l1_eq {l : List Rng} (hl : l.length ≤ 1500000) (x : Int) : ∀ n i, i ≤ l.length → l.length - i < n → ∃ b, F33_l1 l x n (i : Int) = some b ∧ (b = true ↔ inR (l.drop i) x)
  | 0, i, _, hn => by omega
  | n + 1, i, hi, hn => by
    rw [F33_l1]
    rcases Nat.eq_or_lt_of_le hi with e | e
    · subst e
      rw [decide_eq_false (by omega), cond_false]
      exact ⟨false, rfl, (fun h => by cases h), fun ⟨r, hr, _⟩ => by simp at hr⟩
    · rw [decide_eq_true (by omega), cond_true, getI_of e, Option.bind_some]
      unfold F33_j1
      rw [succ_w (by omega)]
      obtain ⟨b, e1, hb⟩ := F33_l1_eq hl x n (i + 1) e (by omega)
      rw [e1, List.drop_eq_getElem_cons e]
      by_cases h1 : l[i].lo ≤ x
      · by_cases h2 : x ≤ l[i].hi
        · rw [decide_eq_true h1, decide_eq_true h2]
          exact ⟨true, rfl, fun _ => inR_cons.2 (.inl ⟨h1, h2⟩), fun _ => rfl⟩
        · rw [decide_eq_true h1, decide_eq_false h2]
          refine ⟨b, rfl, hb.trans ⟨fun h => inR_cons.2 (.inr h), fun h => ?_⟩⟩
          rcases inR_cons.1 h with h | h
          · exact absurd h.2 h2
          · exact h
      · rw [decide_eq_false h1]
        refine ⟨b, rfl, hb.trans ⟨fun h => inR_cons.2 (.inr h), fun h => ?_⟩⟩
        rcases inR_cons.1 h with h | h
        · exact absurd h.1 h1
        · exact h
theorem F33_eq {f : Nat} {l : List Rng} (hl : l.length ≤ 1500000) (hf : l.length < f) (x : Int) : ∃ b, F33 f l x = some b ∧ (b = true ↔ inR l x) := by
  have := F33_l1_eq hl x f 0 (Nat.zero_le _) (by omega)
  exact this

theorem F31_ok {f : Nat} (hf : 50 ≤ f) {t : List Pt} (v : VT t) (h67 : F67 f t = some 0) {c : List Int} (C : Curv t c) : F31 f t c = some 0 := by
  have hl := v.l2
  unfold F31
  have hb : ((c.length : Int) != (t.length : Int)) = false := by simp [C.len]
  rw [h67, Option.bind_some, cond_z, hb, cond_false]
  have s1 : ∀ n i, i < t.length → ∃ b : Bool, F31_l1 f t c (n + 1) (i : Int) = cond b (F31_l1 f t c n ((i + 1 : Nat) : Int)) (some 4) ∧ (b = true ↔ (pt t i).lo ≤ nu c i ∧ nu c i ≤ (pt t i).hi) := fun n i hi => by
    rw [F31_l1, decide_eq_true (by omega), cond_true, getI_pt hi, getI_nu (by rw [C.len]; omega), Option.bind_some, Option.bind_some, F90_eq, Option.bind_some, succ_w (by omega)]
    by_cases h : (pt t i).lo ≤ nu c i ∧ nu c i ≤ (pt t i).hi
    · exact ⟨true, by rw [decide_eq_true h]; rfl, fun _ => h, fun _ => rfl⟩
    · exact ⟨false, by rw [decide_eq_false h]; rfl, (fun e => by cases e), fun e => absurd e h⟩
  have e1 : ∀ n, F31_l1 f t c (n + 1) (t.length : Int) = some 0 := fun n => by
    rw [F31_l1, decide_eq_false (by omega), cond_false]
  rcases loop_all s1 e1 f 0 (Nat.zero_le _) (by omega) with ⟨_, b⟩ | ⟨a, _⟩
  · exact b
  · exact absurd (fun j _ hj => C.bd j hj) a

theorem F6_true' (t : List Pt) (c : List Int) (x y z lo hi : Int) : ∃ fuel, F6 fuel t c x y z lo hi = some true := by
  refine ⟨3000000, ?_⟩
  have hf : 50 ≤ 3000000 := by decide
  have hf2 : 2000000 ≤ 3000000 := by decide
  have hs : F13 3000000 = some true := sane_huge
  generalize hF : (3000000 : Nat) = f at *
  unfold F6
  rcases F12_cases hf t with ⟨v, h12⟩ | ⟨v, h12⟩
  · have h67 : F67 f t = some 0 := by rcases F67_cases hf t with ⟨_, h⟩ | ⟨h, _⟩; exact h; exact absurd v h
    obtain ⟨cu, e0, C⟩ := F17_eq hf v c
    obtain ⟨p, e1, p1, p2⟩ := F14_eq f v x
    obtain ⟨q, e2, q1, q2⟩ := F14_eq f v y
    obtain ⟨r, e3, r1, r2⟩ := F14_eq f v z
    have hb : ∀ i, i < t.length → -1000000000 ≤ nu cu i ∧ nu cu i ≤ 1000000000 := C.ok v
    rw [h12, Option.bind_some, Bool.not_true, cond_false, e0, e1, e2, e3, F16_eq hf v.l2]
    simp only [Option.bind_some]
    rw [F30_eq hf v C.len hb (ix_seg v p1 p2), Option.bind_some, F27_eq hf v h67, if_pos ⟨p1, p2⟩, Option.bind_some]
    obtain ⟨a, ea, a1, a2⟩ : ∃ a, (if q < p then q else p) = a ∧ a ≤ p ∧ fstX t ≤ a := ⟨_, rfl, by split <;> omega, by split <;> omega⟩
    obtain ⟨b, eb, b1, b2⟩ : ∃ b, (if r > p then r else p) = b ∧ p ≤ b ∧ b ≤ lstX t := ⟨_, rfl, by split <;> omega, by split <;> omega⟩
    have db := fst_bd v
    have hV : V a b := by unfold V; omega
    obtain ⟨ol, oh, e4, O⟩ := F19_eq hf v h67 hV a2 b2
    have ov := O.at v a2 a1 b1 b2
    obtain ⟨n0, L⟩ := val_lie v C p1 p2
    rw [ea, eb, e4, Option.bind_some, F31_ok hf v h67 C, Option.bind_some]
    have z0 : ((0 : Int) != 0) = false := rfl
    simp only [z0, cond_false]
    obtain ⟨t1, g1, k1⟩ := F32_eq f (lo := (atV t p).1) (hi := (atV t p).2) (w := (valAt t cu (ix t p) p).1) (d := (valAt t cu (ix t p) p).2.2) n0
    obtain ⟨t2, g2, k2⟩ := F32_eq f (lo := ol) (hi := oh) (w := (valAt t cu (ix t p) p).1) (d := (valAt t cu (ix t p) p).2.2) n0
    have ht1 : t1 = true := k1.2 L
    have ht2 : t2 = true := k2.2 ⟨by have := L.1; omega, by have := L.2; omega⟩
    rw [g1, Option.bind_some, ht1, Bool.not_true, cond_false, g2, Option.bind_some, ht2, Bool.not_true]
    unfold F6_j1
    rw [cond_false]
    obtain ⟨la, e5, RA⟩ := F23_eq hf2 v h67 lo
    have lenA := RA.len
    obtain ⟨t3, g3, k3⟩ := F33_eq (f := f) (l := la) (by omega) (by omega) p
    rw [e5, Option.bind_some]
    simp only [z0, cond_false]
    rw [g3, Option.bind_some]
    have fin : F6_j2 f t lo hi p (valAt t cu (ix t p) p) false = some true := by
      unfold F6_j2 F6_j3
      rw [cond_false, F34_eq, Option.bind_some]
      by_cases hVr : V lo hi
      · rw [decide_eq_true hVr, Bool.not_true, cond_false]
        obtain ⟨lw, e6, RW⟩ := F21_eq hf2 v h67 hVr
        have lenW := RW.len
        obtain ⟨t4, g4, k4⟩ := F33_eq (f := f) (l := lw) (by omega) (by omega) p
        have b0 : ((0 : Int) == 0) = true := rfl
        rw [e6, Option.bind_some]
        simp only [b0, cond_true]
        rw [g4, Option.bind_some]
        cases t4 with
        | true => rw [cond_true, hs]; rfl
        | false =>
          obtain ⟨t5, g5, k5⟩ := F32_eq f (lo := lo) (hi := hi) (w := (valAt t cu (ix t p) p).1) (d := (valAt t cu (ix t p) p).2.2) n0
          have ht5 : t5 = false := by
            cases t5 with
            | false => rfl
            | true =>
              exfalso
              have h5 := k5.1 rfl
              have hq : QW t lo hi p := by
                have l1 := L.1; have l2 := L.2
                have m1 := h5.1; have m2 := h5.2
                constructor
                · split at m2 <;> omega
                · split at l2 <;> omega
              have := k4.2 ((RW.mem p).2 ⟨hq, p1, by omega⟩)
              cases this
          rw [cond_false, g5, Option.bind_some, ht5, Bool.not_false, cond_true, hs]; rfl
      · rw [decide_eq_false hVr, Bool.not_false, cond_true, hs]; rfl
    cases t3 with
    | false => rw [cond_false]; exact fin
    | true =>
      have hq := ((RA.mem p).1 (k3.1 rfl)).1
      unfold QA at hq
      rw [cond_true, decide_eq_false (by have := L.1; omega)]
      exact fin
  · rw [h12, Option.bind_some, Bool.not_false, cond_true, hs]; rfl
end Go.Proofs.Ytpjmgeajajcceaa
