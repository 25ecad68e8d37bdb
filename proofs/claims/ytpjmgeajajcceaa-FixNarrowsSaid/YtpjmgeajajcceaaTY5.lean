/-
  The plain law of FixNarrows. No condition.
-/
import Derived.Test.YtpjmgeajajcceaaTB5
set_option linter.unusedSimpArgs false
set_option linter.unusedVariables false
namespace Go.Proofs.Ytpjmgeajajcceaa
open Go.Sl Go.Sx

theorem F27_eq {f : Nat} (hf : 50 ≤ f) {t : List Pt} (v : VT t) (h67 : F67 f t = some 0) (x : Int) : F27 f t x = some (if fstX t ≤ x ∧ x ≤ lstX t then ((atV t x).1, (atV t x).2, 0) else (0, 0, 4)) := by
  unfold F27
  rw [h67, Option.bind_some, cond_z, F81_eq f v, Option.bind_some]
  by_cases h : fstX t ≤ x ∧ x ≤ lstX t
  · rw [if_pos h, decide_eq_true h, Bool.not_true, cond_false, F88_at hf v h.1 h.2]; rfl
  · rw [if_neg h, decide_eq_false h]; rfl
theorem F28_char {f : Nat} (hf : 50 ≤ f) {t : List Pt} (v : VT t) (h67 : F67 f t = some 0) : ∃ b, F28 f t = some b ∧ (b = true → ∀ i, i + 1 < t.length → (pt t i).hi ≤ (pt t (i + 1)).lo) := by
  have hl := v.l2
  have h1 := v.l1
  unfold F28
  rw [h67, Option.bind_some, cond_z, sub_tail h1, Option.bind_some]
  have s1 : ∀ n i, i < (t.drop 1).length → ∃ c : Bool, F28_l1 f t (t.drop 1) (n + 1) (i : Int) = cond c (F28_l1 f t (t.drop 1) n ((i + 1 : Nat) : Int)) (some false) ∧ (c = true ↔ (pt t (i + 1)).lo ≥ (pt t i).hi) := fun n i hi => by
    rw [List.length_drop] at hi
    rw [F28_l1, decide_eq_true (by rw [List.length_drop]; omega), cond_true, getI_tail (by omega), getI_pt (by omega), Option.bind_some, Option.bind_some, succ_w (by omega)]
    unfold F98 F28_j1
    by_cases h : (pt t (i + 1)).lo ≥ (pt t i).hi
    · exact ⟨true, by rw [decide_eq_true h]; rfl, fun _ => h, fun _ => rfl⟩
    · exact ⟨false, by rw [decide_eq_false h]; rfl, (fun e => by cases e), fun e => absurd e h⟩
  have e1 : ∀ n, F28_l1 f t (t.drop 1) (n + 1) ((t.drop 1).length : Int) = some true := fun n => by
    rw [F28_l1, decide_eq_false (by omega), cond_false]; rfl
  rcases loop_all s1 e1 f 0 (Nat.zero_le _) (by rw [List.length_drop]; omega) with ⟨a, b⟩ | ⟨_, b⟩
  · exact ⟨true, b, fun _ i hi => a i (Nat.zero_le _) (by rw [List.length_drop]; omega)⟩
  · exact ⟨false, b, fun h => by cases h⟩
theorem F29_char {f : Nat} (hf : 50 ≤ f) {t : List Pt} (v : VT t) (h67 : F67 f t = some 0) : ∃ b, F29 f t = some b ∧ (b = true → ∀ i, i + 1 < t.length → (pt t (i + 1)).hi ≤ (pt t i).lo) := by
  have hl := v.l2
  have h1 := v.l1
  unfold F29
  rw [h67, Option.bind_some, cond_z, sub_tail h1, Option.bind_some]
  have s1 : ∀ n i, i < (t.drop 1).length → ∃ c : Bool, F29_l1 f t (t.drop 1) (n + 1) (i : Int) = cond c (F29_l1 f t (t.drop 1) n ((i + 1 : Nat) : Int)) (some false) ∧ (c = true ↔ (pt t (i + 1)).hi ≤ (pt t i).lo) := fun n i hi => by
    rw [List.length_drop] at hi
    rw [F29_l1, decide_eq_true (by rw [List.length_drop]; omega), cond_true, getI_tail (by omega), getI_pt (by omega), Option.bind_some, Option.bind_some, succ_w (by omega)]
    unfold F99 F29_j1
    by_cases h : (pt t (i + 1)).hi ≤ (pt t i).lo
    · exact ⟨true, by rw [decide_eq_true h]; rfl, fun _ => h, fun _ => rfl⟩
    · exact ⟨false, by rw [decide_eq_false h]; rfl, (fun e => by cases e), fun e => absurd e h⟩
  have e1 : ∀ n, F29_l1 f t (t.drop 1) (n + 1) ((t.drop 1).length : Int) = some true := fun n => by
    rw [F29_l1, decide_eq_false (by omega), cond_false]; rfl
  rcases loop_all s1 e1 f 0 (Nat.zero_le _) (by rw [List.length_drop]; omega) with ⟨a, b⟩ | ⟨_, b⟩
  · exact ⟨true, b, fun _ i hi => a i (Nat.zero_le _) (by rw [List.length_drop]; omega)⟩
  · exact ⟨false, b, fun h => by cases h⟩

/-! ### A table within another one -/
structure Within (s t : List Pt) : Prop where
  len : s.length = t.length
  x : ∀ i, (pt s i).x = (pt t i).x
  lo : ∀ i, i < t.length → (pt t i).lo ≤ (pt s i).lo
  hi : ∀ i, i < t.length → (pt s i).hi ≤ (pt t i).hi
theorem Within.dom {s t : List Pt} (h : Within s t) : fstX s = fstX t ∧ lstX s = lstX t := by
  unfold fstX lstX; rw [h.x, h.x, h.len]; exact ⟨rfl, rfl⟩
theorem Within.seg {s t : List Pt} (h : Within s t) {x : Int} {i : Nat} (g : Seg t x i) : Seg s x i :=
  ⟨by rw [h.len]; exact g.lt, by rw [h.x]; exact g.le, fun hh => by rw [h.x]; rw [h.len] at hh; exact g.nx hh, fun hh => by rw [h.x]; rw [h.len] at hh; exact g.last hh⟩
theorem dn_le {a b y z y' z' x : Int} (h : a < b) (h1 : a ≤ x) (h2 : x ≤ b) (hy : y ≤ y') (hz : z ≤ z') : dn a b y z x ≤ dn a b y' z' x := by
  rw [← dn_eq h, ← dn_eq h]
  have p1 := Int.mul_le_mul_of_nonneg_right hy (show 0 ≤ b - x by omega)
  have p2 := Int.mul_le_mul_of_nonneg_right hz (show 0 ≤ x - a by omega)
  exact Int.ediv_le_ediv (by omega) (by omega)
theorem upw_le {a b y z y' z' x : Int} (h : a < b) (h1 : a ≤ x) (h2 : x ≤ b) (hy : y ≤ y') (hz : z ≤ z') : upw a b y z x ≤ upw a b y' z' x := by
  have := dn_le (y := -y') (z := -z') (y' := -y) (z' := -z) h h1 h2 (by omega) (by omega)
  rw [upw_neg, upw_neg]; omega
theorem Within.at {s t : List Pt} (v : VT t) (v' : VT s) (h : Within s t) {x : Int} (h1 : fstX t ≤ x) (h2 : x ≤ lstX t) : (atV t x).1 ≤ (atV s x).1 ∧ (atV s x).2 ≤ (atV t x).2 := by
  have g := ix_seg v h1 h2
  unfold atV
  rw [ix_eq v' (h.seg g)]
  unfold loAt hiAt
  rw [h.x, h.x]
  by_cases hx : x = (pt t (ix t x)).x
  · rw [if_pos hx, if_pos hx, if_pos hx, if_pos hx]
    exact ⟨h.lo _ g.lt, h.hi _ g.lt⟩
  · rw [if_neg hx, if_neg hx, if_neg hx, if_neg hx]
    have hn := seg_next g hx
    have up := v.up _ hn
    have a1 := g.le
    have a2 := g.nx hn
    exact ⟨dn_le up a1 (by omega) (h.lo _ g.lt) (h.lo _ hn), upw_le up a1 (by omega) (h.hi _ g.lt) (h.hi _ hn)⟩
theorem Within.SA {s t : List Pt} (h : Within s t) (ys : Nat → Int) (a b : Int) : SA s ys a b = SA t ys a b ∧ MM s = MM t := by
  have hw : ∀ i, wd s i = wd t i := fun i => by unfold wd; rw [h.x, h.x]
  have hp : ∀ n, prodW s n = prodW t n := fun n => by
    induction n with
    | zero => rfl
    | succ n ih => simp only [prodW]; rw [ih, hw]
  have hM : MM s = MM t := by unfold MM; rw [h.len, hp]
  have he : ∀ i, ee s ys a b i = ee t ys a b i := fun i => by
    unfold ee gg clX; rw [hw, h.x, h.x]
  have hs : ∀ n, SS s ys a b n = SS t ys a b n := fun n => by
    induction n with
    | zero => rfl
    | succ n ih => simp only [SS]; rw [ih, he, hM, hw]
  exact ⟨by unfold Ytpjmgeajajcceaa.SA; rw [h.len, hs], hM⟩
theorem Within.area {s t : List Pt} (v : VT t) (v' : VT s) (h : Within s t) {a b : Int} (hab : a ≤ b) : arLo t a b ≤ arLo s a b ∧ arHi s a b ≤ arHi t a b := by
  rw [arLo_eq v hab, arLo_eq v' hab, arHi_eq v hab, arHi_eq v' hab, (h.SA _ a b).1, (h.SA (loY s) a b).2, (h.SA (hiY s) a b).1]
  exact ⟨Int.ediv_le_ediv (MM_pos v) (SA_mono v hab fun j hj => h.lo j hj), ceilD_mono (MM_pos v) (SA_mono v hab fun j hj => h.hi j hj)⟩
theorem Within.over {s t : List Pt} (v : VT t) (v' : VT s) (h : Within s t) {a b lo hi lo' hi' : Int} (hab : a ≤ b) (h1 : fstX t ≤ a) (h2 : b ≤ lstX t) (O : Ov t a b lo hi) (O' : Ov s a b lo' hi') : lo ≤ lo' ∧ hi' ≤ hi := by
  have ha := h.at v v' (x := a) h1 (by omega)
  have hb := h.at v v' (x := b) (by omega) h2
  have l1 := O.la; have l2 := O.lb; have l3 := O.ha; have l4 := O.hb
  constructor
  · rcases O'.lx with e | e | ⟨j, hj, h3, h4, e⟩
    · omega
    · omega
    · rw [h.len] at hj
      rw [h.x] at h3 h4
      have := O.lp j hj (by omega) (by omega)
      have := h.lo j hj; omega
  · rcases O'.hx with e | e | ⟨j, hj, h3, h4, e⟩
    · omega
    · omega
    · rw [h.len] at hj
      rw [h.x] at h3 h4
      have := O.hp j hj (by omega) (by omega)
      have := h.hi j hj; omega

def nar (t : List Pt) (c d : List Int) : List Pt := (List.range t.length).map fun i => ⟨(pt t i).x, if nu d i < nu c i then nu d i else nu c i, if nu d i > nu c i then nu d i else nu c i⟩
theorem nar_len (t : List Pt) (c d : List Int) : (nar t c d).length = t.length := by simp [nar]
theorem nar_pt {t : List Pt} {c d : List Int} {i : Nat} (h : i < t.length) : pt (nar t c d) i = ⟨(pt t i).x, if nu d i < nu c i then nu d i else nu c i, if nu d i > nu c i then nu d i else nu c i⟩ := by
  simp [pt, nar, h]
theorem pt_out {t : List Pt} {i : Nat} (h : t.length ≤ i) : pt t i = ⟨0, 0, 0⟩ := by simp [pt, List.getD, h]
theorem nar_within {t : List Pt} {c d : List Int} (C : Curv t c) (D : Curv t d) : Within (nar t c d) t := by
  refine ⟨nar_len t c d, fun i => ?_, fun i hi => ?_, fun i hi => ?_⟩
  · by_cases h : i < t.length
    · rw [nar_pt h]
    · rw [pt_out (by rw [nar_len]; omega), pt_out (by omega)]
  · rw [nar_pt hi]
    have := C.bd i hi; have := D.bd i hi
    show _ ≤ (if nu d i < nu c i then nu d i else nu c i)
    split <;> omega
  · rw [nar_pt hi]
    have := C.bd i hi; have := D.bd i hi
    show (if nu d i > nu c i then nu d i else nu c i) ≤ _
    split <;> omega
theorem nar_VT {t : List Pt} (v : VT t) {c d : List Int} (C : Curv t c) (D : Curv t d) : VT (nar t c d) := by
  have W := nar_within C D
  refine ⟨by rw [nar_len]; exact v.l1, by rw [nar_len]; exact v.l2, fun i hi => ?_, fun i hi => ?_⟩
  · rw [nar_len] at hi
    have ok := v.ok i hi
    have h1 := W.lo i hi
    have h2 := W.hi i hi
    have e := nar_pt (c := c) (d := d) hi
    refine ⟨by rw [W.x]; exact ok.x0, by rw [W.x]; exact ok.x1, by have := ok.lo; omega, ?_, by have := ok.hi; omega⟩
    rw [e]
    show (if nu d i < nu c i then nu d i else nu c i) ≤ (if nu d i > nu c i then nu d i else nu c i)
    split <;> split <;> omega
  · rw [nar_len] at hi
    rw [W.x, W.x]; exact v.up i hi

theorem F5_l1_eq {f : Nat} {t : List Pt} (v : VT t) {c d : List Int} (C : Curv t c) (D : Curv t d) (x y : Int) : ∀ n i, i ≤ t.length → t.length - i < n →
    ∃ m, F5_l1 f t x y c d n ((nar t c d).take i) (i : Int) = F5_l1 f t x y c d (m + 1) (nar t c d) (t.length : Int)
  | 0, i, _, hn => by omega
  | n + 1, i, hi, hn => by
    have hl := v.l2
    rcases Nat.eq_or_lt_of_le hi with e | e
    · subst e
      exact ⟨n, by rw [List.take_of_length_le (by rw [nar_len]; omega)]⟩
    · rw [F5_l1, decide_eq_true (by omega), cond_true, getI_pt e, Option.bind_some, getI_nu (by rw [C.len]; omega), getI_nu (by rw [D.len]; omega)]
      simp only [Option.bind_some]
      have hlen := nar_len t c d
      have et : (nar t c d).take i ++ [⟨(pt t i).x, if nu d i < nu c i then nu d i else nu c i, if nu d i > nu c i then nu d i else nu c i⟩] = (nar t c d).take (i + 1) := by
        rw [List.take_succ_eq_append_getElem (by omega)]
        congr 2
        rw [← nar_pt e, pt_eq (by omega)]
      rw [appC_eq (by simp; omega), Option.bind_some, et, succ_w (by omega)]
      exact F5_l1_eq v C D x y n (i + 1) e (by omega)

theorem F5_l2_eq {f : Nat} (hf : 50 ≤ f) {t : List Pt} (v : VT t) (h67 : F67 f t = some 0) (hs : F13 f = some true) {c d : List Int} (C : Curv t c) (D : Curv t d) : ∀ n i, i ≤ t.length → 1 ≤ i → t.length - i < n → F5_l2 f t c d n (i : Int) = some true
  | 0, i, _, _, hn => by omega
  | n + 1, i, hi, h1, hn => by
    have hl := v.l2
    obtain ⟨b1, e1, r1⟩ := F28_char hf v h67
    obtain ⟨b2, e2, r2⟩ := F29_char hf v h67
    rw [F5_l2, C.len]
    rcases Nat.eq_or_lt_of_le hi with e | e
    · subst e
      rw [decide_eq_false (by omega), cond_false, hs]; rfl
    · have ih := F5_l2_eq hf v h67 hs C D n (i + 1) e (by omega) (by omega)
      have c1 := C.bd i e
      have d1 := D.bd (i - 1) (by omega)
      have es : i - 1 + 1 = i := by omega
      rw [decide_eq_true (by omega), cond_true, e1, Option.bind_some, getI_nu (by rw [C.len]; omega), pred_w (by omega) (by omega), getI_nu (by rw [D.len]; omega), e2]
      simp only [Option.bind_some]
      unfold F5_j2
      rw [succ_w (by omega), ih]
      have a1 : b1 = true → decide (nu c i < nu d (i - 1)) = false := fun h => by
        have := r1 h (i - 1) (by omega)
        rw [es] at this
        exact decide_eq_false (by omega)
      have a2 : b2 = true → decide (nu c i > nu d (i - 1)) = false := fun h => by
        have := r2 h (i - 1) (by omega)
        rw [es] at this
        exact decide_eq_false (by omega)
      cases b1 with
      | true =>
        rw [cond_true, a1 rfl, cond_false]
        cases b2 with
        | true => rw [cond_true, a2 rfl]; rfl
        | false => rfl
      | false =>
        rw [cond_false]
        cases b2 with
        | true => rw [cond_true, a2 rfl]; rfl
        | false => rfl

theorem F5_true' (t : List Pt) (c d : List Int) (x y : Int) : ∃ fuel, F5 fuel t c d x y = some true := by
  refine ⟨2000, ?_⟩
  have hf : 50 ≤ 2000 := by decide
  have hs : F13 2000 = some true := sane_big
  generalize hF : (2000 : Nat) = f at *
  unfold F5
  rcases F12_cases hf t with ⟨v, h12⟩ | ⟨v, h12⟩
  · have h67 : F67 f t = some 0 := by rcases F67_cases hf t with ⟨_, h⟩ | ⟨h, _⟩; exact h; exact absurd v h
    obtain ⟨one, e1, C⟩ := F17_eq hf v c
    obtain ⟨two, e2, D⟩ := F17_eq hf v d
    have v' := nar_VT v C D
    have W := nar_within C D
    have k67 : F67 f (nar t one two) = some 0 := by rcases F67_cases hf (nar t one two) with ⟨_, h⟩ | ⟨h, _⟩; exact h; exact absurd v' h
    rw [h12, Option.bind_some, Bool.not_true, cond_false, e1, e2, Option.bind_some, Option.bind_some]
    have hl := v.l2
    obtain ⟨m, em⟩ := F5_l1_eq (f := f) v C D x y f 0 (Nat.zero_le _) (by omega)
    rw [List.take_zero, show ((0 : Nat) : Int) = 0 from rfl] at em
    rw [em, F5_l1, decide_eq_false (by omega), cond_false]
    obtain ⟨p, g1, p1, p2⟩ := F14_eq f v' x
    obtain ⟨q, g2, q1, q2⟩ := F14_eq f v' y
    obtain ⟨d1, d2⟩ := W.dom
    rw [d1] at p1 q1
    rw [d2] at p2 q2
    rw [g1, g2]
    simp only [Option.bind_some]
    obtain ⟨a, ea, a1, a2, a3⟩ : ∃ a, (if q < p then q else p) = a ∧ a ≤ p ∧ a ≤ q ∧ fstX t ≤ a := ⟨_, rfl, by split <;> omega, by split <;> omega, by split <;> omega⟩
    obtain ⟨b, eb, b1, b2, b3⟩ : ∃ b, (if q > p then q else p) = b ∧ p ≤ b ∧ q ≤ b ∧ b ≤ lstX t := ⟨_, rfl, by split <;> omega, by split <;> omega, by split <;> omega⟩
    rw [ea, eb]
    have db := fst_bd v
    have hab : a ≤ b := by omega
    have hV : V a b := by unfold V; omega
    obtain ⟨lo, hi, f1, O⟩ := F19_eq hf v h67 hV a3 b3
    obtain ⟨lo', hi', f2, O'⟩ := F19_eq hf v' k67 hV (by rw [d1]; exact a3) (by rw [d2]; exact b3)
    have ov := W.over v v' hab a3 b3 O O'
    have ar := W.area v v' hab
    have at' := W.at v v' a3 (show a ≤ lstX t by omega)
    rw [f1, f2, F18_eq hf v h67 hab a3 b3, F18_eq hf v' k67 hab (by rw [d1]; exact a3) (by rw [d2]; exact b3), F27_eq hf v h67, F27_eq hf v' k67, if_pos (show fstX t ≤ a ∧ a ≤ lstX t by omega), if_pos (show fstX (nar t one two) ≤ a ∧ a ≤ lstX (nar t one two) by rw [d1, d2]; omega)]
    have z0 : ((0 : Int) != 0) = false := rfl
    simp only [Option.bind_some, z0, cond_false]
    rw [decide_eq_false (show ¬ lo' < lo by omega), decide_eq_false (show ¬ hi' > hi by omega), decide_eq_false (show ¬ arLo (nar t one two) a b < arLo t a b by omega), decide_eq_false (show ¬ arHi (nar t one two) a b > arHi t a b by omega), decide_eq_false (show ¬ (atV (nar t one two) a).1 < (atV t a).1 by omega), decide_eq_false (show ¬ (atV (nar t one two) a).2 > (atV t a).2 by omega)]
    simp only [cond_false]
    unfold F5_j1
    rw [cond_false]
    have hl1 := v.l1
    exact F5_l2_eq hf v h67 hs C D f 1 (by omega) (Nat.le_refl _) (by omega)
  · rw [h12, Option.bind_some, Bool.not_false, cond_true, hs]; rfl
end Go.Proofs.Ytpjmgeajajcceaa
