/-
  The plain law of FixMakes. No condition.
-/
import Derived.Test.YtpjmgeajajcceaaTI9
set_option linter.unusedSimpArgs false
set_option linter.unusedVariables false
namespace Go.Proofs.Ytpjmgeajajcceaa
open Go.Sl Go.Sx

def okA (n d : Int) : Prop := -1000000000 ≤ n ∧ n ≤ 1000000000 ∧ 1 ≤ d ∧ d ≤ 1000000000
instance (n d : Int) : Decidable (okA n d) := by unfold okA; infer_instance
def sc (lo hi n d : Int) : Int × Int × Int := if V (fl (least lo hi n) n d) (ce (most lo hi n) n d) then (fl (least lo hi n) n d, ce (most lo hi n) n d, 0) else (0, 0, 5)
theorem mk3_some (u v : Int) : mk3 u v = some (if V u v then (u, v, 0) else (0, 0, 5)) := by unfold mk3; split <;> rfl
theorem F40_gen {f : Nat} (hf : 3 ≤ f) {lo hi n d : Int} (h : V lo hi) : F40 f lo hi n d = some (if okA n d then sc lo hi n d else (0, 0, 1)) := by
  obtain ⟨m, rfl⟩ : ∃ m, f = m + 3 := ⟨f - 3, by omega⟩
  unfold F40
  rw [F52_eq, if_pos h, Option.bind_some, F90_eq, cond_z, Option.bind_some, F90_eq, Option.bind_some]
  unfold F40_j1
  by_cases h1 : -1000000000 ≤ n ∧ n ≤ 1000000000
  · rw [decide_eq_true h1]
    by_cases h2 : 1 ≤ d ∧ d ≤ 1000000000
    · rw [decide_eq_true h2, if_pos ⟨h1.1, h1.2, h2.1, h2.2⟩, Bool.not_true, cond_false, cond_false, F40_l1_eq h h1.1 h1.2 h2.1 h2.2, mk3_some]; rfl
    · rw [decide_eq_false h2, if_neg (fun h => h2 ⟨h.2.2.1, h.2.2.2⟩)]; rfl
  · rw [decide_eq_false h1, if_neg (fun h => h1 ⟨h.1, h.2.1⟩)]; rfl
theorem F49_gen (f : Nat) {lo hi n d : Int} (h : V lo hi) : F49 f lo hi n d = some (if okA n d then sc lo hi n d else (0, 0, 1)) := by
  unfold F49
  rw [F34_eq, decide_eq_true h, Option.bind_some, Bool.not_true, cond_false]
  have hv := h
  unfold V at hv
  by_cases h1 : n < -1000000000
  · rw [decide_eq_true h1, if_neg (by unfold okA; omega)]; rfl
  · rw [decide_eq_false h1, cond_false]
    by_cases h2 : n > 1000000000
    · rw [decide_eq_true h2, if_neg (by unfold okA; omega)]; rfl
    · rw [decide_eq_false h2, cond_false]
      by_cases h3 : d < 1
      · rw [decide_eq_true h3, if_neg (by unfold okA; omega)]; rfl
      · rw [decide_eq_false h3, cond_false]
        by_cases h4 : d > 1000000000
        · rw [decide_eq_true h4, if_neg (by unfold okA; omega)]; rfl
        · rw [decide_eq_false h4, if_pos (by unfold okA; omega)]
          unfold F49_j1 sc least most
          rw [cond_false]
          by_cases h5 : n < 0
          · rw [decide_eq_true h5, cond_true, if_pos h5, if_pos h5, F49_j2_eq f (by omega) (by omega) (by omega) (by omega) (by omega) (by omega) (by omega) (by omega), mk3_some]
          · rw [decide_eq_false h5, cond_false, if_neg h5, if_neg h5, F49_j2_eq f (by omega) (by omega) (by omega) (by omega) (by omega) (by omega) (by omega) (by omega), mk3_some]

/-- A point, scaled. -/
def scP (n d : Int) (p : Pt) : Pt := ⟨p.x, (sc p.lo p.hi n d).1, (sc p.lo p.hi n d).2.1⟩
def gdS (n d : Int) (p : Pt) : Prop := (sc p.lo p.hi n d).2.2 = 0 ∧ gd (scP n d p)
theorem ok_V {p : Pt} (h : okP p) : V p.lo p.hi := by
  obtain ⟨_, _, h1, h2, h3⟩ := h
  unfold V; omega
theorem sc_err (lo hi n d : Int) : ((sc lo hi n d).2.2 = 0 ∧ (sc lo hi n d).1 ≤ (sc lo hi n d).2.1) ∨ sc lo hi n d = (0, 0, 5) := by
  unfold sc
  by_cases h : V (fl (least lo hi n) n d) (ce (most lo hi n) n d)
  · rw [if_pos h]; unfold V at h; exact .inl ⟨rfl, h.2.1⟩
  · rw [if_neg h]; exact .inr rfl

theorem F61_l1_eq {f : Nat} (hf : 50 ≤ f) {t : List Pt} (v : VT t) {n d : Int} (ha : okA n d) : ∀ m i (out : List Pt), i ≤ t.length → t.length - i < m → out.length ≤ i →
    ((∀ j, i ≤ j → j < t.length → gdS n d (pt t j)) ∧ F61_l1 f t n d m out (i : Int) = some (out ++ (t.drop i).map (scP n d), 0)) ∨ ((¬ ∀ j, i ≤ j → j < t.length → gdS n d (pt t j)) ∧ F61_l1 f t n d m out (i : Int) = some ([], 5))
  | 0, i, _, _, hn, _ => by omega
  | m + 1, i, out, hi, hn, ho => by
    have hl := v.l2
    rw [F61_l1]
    rcases Nat.eq_or_lt_of_le hi with e | e
    · subst e
      rw [decide_eq_false (by omega), cond_false]
      exact .inl ⟨fun j h1 h2 => by omega, by simp⟩
    · rw [decide_eq_true (by omega), cond_true, getI_pt e, Option.bind_some, F40_gen (by omega) (ok_V (v.ok i e)), if_pos ha, Option.bind_some]
      unfold F61_j2 F61_j1
      rcases sc_err (pt t i).lo (pt t i).hi n d with ⟨h0, hle⟩ | h5
      · have hb : ((sc (pt t i).lo (pt t i).hi n d).2.2 == 0) = true := by simp [h0]
        rw [hb, cond_true]
        by_cases h1 : (sc (pt t i).lo (pt t i).hi n d).1 < -1000000000
        · rw [decide_eq_true h1]
          exact .inr ⟨fun h => by have := (h i (Nat.le_refl _) e).2.1; simp only [scP] at this; omega, rfl⟩
        · by_cases h2 : (sc (pt t i).lo (pt t i).hi n d).2.1 > 1000000000
          · rw [decide_eq_false h1, decide_eq_true h2]
            exact .inr ⟨fun h => by have := (h i (Nat.le_refl _) e).2.2; simp only [scP] at this; omega, rfl⟩
          · rw [decide_eq_false h1, decide_eq_false h2, cond_false, cond_false, h0, cond_z, appC_eq (by simp; omega), Option.bind_some, succ_w (by omega)]
            rcases F61_l1_eq hf v ha m (i + 1) (out ++ [⟨(pt t i).x, (sc (pt t i).lo (pt t i).hi n d).1, (sc (pt t i).lo (pt t i).hi n d).2.1⟩]) e (by omega) (by simp; omega) with ⟨a, b⟩ | ⟨a, b⟩
            · refine .inl ⟨fun j hij hj => ?_, ?_⟩
              · rcases Nat.eq_or_lt_of_le hij with e' | e'
                · subst e'; exact ⟨h0, by simp only [scP]; omega, by simp only [scP]; omega⟩
                · exact a j e' hj
              · rw [b, drop_pt e]
                simp only [List.map_cons, List.append_assoc, List.cons_append, List.nil_append]; rfl
            · exact .inr ⟨fun h => a fun j hij hj => h j (by omega) hj, b⟩
      · rw [h5]
        exact .inr ⟨(fun h => by have := (h i (Nat.le_refl _) e).1; rw [h5] at this; cases this), rfl⟩

theorem F62_l1_eq {f : Nat} {t : List Pt} (v : VT t) {n d : Int} (ha : okA n d) : ∀ m i (out : List Pt) (b : Bool), i ≤ t.length → t.length - i < m → out.length ≤ i →
    ∃ b' : Bool, F62_l1 f t n d m out b (i : Int) = cond b' (some ([], 5)) ((F113 f (out ++ (t.drop i).map (scP n d))).bind fun r2 => (some (r2.1, r2.2))) ∧ (b' = false ↔ b = false ∧ ∀ j, i ≤ j → j < t.length → (sc (pt t j).lo (pt t j).hi n d).2.2 = 0)
  | 0, i, _, _, _, hn, _ => by omega
  | m + 1, i, out, b, hi, hn, ho => by
    have hl := v.l2
    rw [F62_l1]
    rcases Nat.eq_or_lt_of_le hi with e | e
    · subst e
      rw [decide_eq_false (by omega), cond_false]
      exact ⟨b, by simp, fun h => ⟨h, fun j h1 h2 => by omega⟩, fun h => h.1⟩
    · rw [decide_eq_true (by omega), cond_true, getI_pt e, Option.bind_some, F49_gen f (ok_V (v.ok i e)), if_pos ha, Option.bind_some]
      have hne : ((sc (pt t i).lo (pt t i).hi n d).2.2 == 1) = false := by
        rcases sc_err (pt t i).lo (pt t i).hi n d with ⟨h0, _⟩ | h5
        · rw [h0]; rfl
        · rw [h5]; rfl
      rw [hne, cond_false]
      unfold F62_j1
      have step : ∀ b1 : Bool, ∃ b' : Bool, ((appC out [⟨(pt t i).x, (sc (pt t i).lo (pt t i).hi n d).1, (sc (pt t i).lo (pt t i).hi n d).2.1⟩]).bind fun d1 => F62_l1 f t n d m d1 b1 (w64 ((i : Int) + 1))) = cond b' (some ([], 5)) ((F113 f (out ++ (t.drop i).map (scP n d))).bind fun r2 => (some (r2.1, r2.2))) ∧ (b' = false ↔ b1 = false ∧ ∀ j, i + 1 ≤ j → j < t.length → (sc (pt t j).lo (pt t j).hi n d).2.2 = 0) := fun b1 => by
        rw [appC_eq (by simp; omega), Option.bind_some, succ_w (by omega)]
        obtain ⟨b', h1, h2⟩ := F62_l1_eq (f := f) v ha m (i + 1) (out ++ [⟨(pt t i).x, (sc (pt t i).lo (pt t i).hi n d).1, (sc (pt t i).lo (pt t i).hi n d).2.1⟩]) b1 e (by omega) (by simp; omega)
        refine ⟨b', ?_, h2⟩
        rw [h1, drop_pt e]
        simp only [List.map_cons, List.append_assoc, List.cons_append, List.nil_append]; rfl
      cases b with
      | true =>
        obtain ⟨b', h1, h2⟩ := step true
        refine ⟨b', h1, h2.trans ⟨(fun h => by cases h.1), (fun h => by cases h.1)⟩⟩
      | false =>
        obtain ⟨b', h1, h2⟩ := step ((sc (pt t i).lo (pt t i).hi n d).2.2 != 0)
        refine ⟨b', h1, h2.trans ⟨fun h => ⟨rfl, fun j hij hj => ?_⟩, fun h => ⟨?_, fun j hij hj => h.2 j (by omega) hj⟩⟩⟩
        · rcases Nat.eq_or_lt_of_le hij with e' | e'
          · subst e'; simpa using h.1
          · exact h.2 j e' hj
        · simp [h.2 i (Nat.le_refl _) e]

theorem times_eq {f : Nat} (hf : 1000 ≤ f) (t : List Pt) (n d : Int) : ∃ l e, l.length ≤ 1000 ∧ F61 f t n d = some (l, e) ∧ F62 f t n d = some (l, e) := by
  unfold F61 F62
  rcases F67_cases (show 50 ≤ f by omega) t with ⟨v, h67⟩ | ⟨v, h67⟩
  · have h12 : F12 f t = some true := by rcases F12_cases (show 50 ≤ f by omega) t with ⟨_, h⟩ | ⟨h, _⟩; exact h; exact absurd v h
    have hl1 := v.l1
    have hl2 := v.l2
    rw [h67, h12, Option.bind_some, Option.bind_some, cond_z, Bool.not_true, cond_false]
    have e0 := getI_pt (t := t) (i := 0) (by omega)
    rw [show ((0 : Nat) : Int) = 0 from rfl] at e0
    by_cases ha : okA n d
    · obtain ⟨b, e2, hb⟩ := F62_l1_eq (f := f) v ha f 0 [] false (Nat.zero_le _) (by omega) (Nat.zero_le _)
      have e1 := F61_l1_eq (show 50 ≤ f by omega) v ha f 0 [] (Nat.zero_le _) (by omega) (Nat.zero_le _)
      rw [show ((0 : Nat) : Int) = 0 from rfl, List.nil_append, List.drop_zero] at e1 e2
      rw [e2]
      have hlen : (t.map (scP n d)).length = t.length := by simp
      have hpt : ∀ i, i < t.length → pt (t.map (scP n d)) i = scP n d (pt t i) := fun i h => by simp [pt, h]
      rcases e1 with ⟨a, e1⟩ | ⟨a, e1⟩
      · have hbf : b = false := hb.2 ⟨rfl, fun j h1 h2 => (a j h1 h2).1⟩
        have hv : VT (t.map (scP n d)) := by
          refine ⟨by omega, by omega, fun i hi => ?_, fun i hi => ?_⟩
          · rw [hlen] at hi
            rw [hpt i hi]
            have o := v.ok i hi
            have g := a i (Nat.zero_le _) hi
            refine ⟨o.x0, o.x1, g.2.1, ?_, g.2.2⟩
            rcases sc_err (pt t i).lo (pt t i).hi n d with ⟨_, h⟩ | h
            · exact h
            · have := g.1; rw [h] at this; cases this
          · rw [hlen] at hi
            rw [hpt i (by omega), hpt (i + 1) hi]
            exact v.up i hi
        have h113 : F113 f (t.map (scP n d)) = some (t.map (scP n d), 0) := by
          unfold F113
          rw [hlen]
          have : ((t.length : Int) == 0) = false := beq_eq_false_iff_ne.2 (by omega)
          rw [this, cond_false, decide_eq_false (by omega), cond_false]
          rcases F12_cases (show 50 ≤ f by omega) (t.map (scP n d)) with ⟨_, e⟩ | ⟨v', _⟩
          · rw [e]; rfl
          · exact absurd hv v'
        rw [e1, hbf, cond_false, h113]
        exact ⟨_, 0, by rw [hlen]; omega, rfl, rfl⟩
      · rw [e1]
        refine ⟨[], 5, by simp, rfl, ?_⟩
        cases b with
        | true => rfl
        | false =>
          have hz := (hb.1 rfl).2
          have hnv : ¬ VT (t.map (scP n d)) := fun hv => a fun j h1 h2 => by
            have o := hv.ok j (by omega)
            rw [hpt j h2] at o
            exact ⟨hz j h1 h2, o.lo, o.hi⟩
          have h113 : F113 f (t.map (scP n d)) = some ([], 5) := by
            unfold F113
            rw [hlen]
            have : ((t.length : Int) == 0) = false := beq_eq_false_iff_ne.2 (by omega)
            rw [this, cond_false, decide_eq_false (by omega), cond_false]
            rcases F12_cases (show 50 ≤ f by omega) (t.map (scP n d)) with ⟨v', _⟩ | ⟨_, e⟩
            · exact absurd v' hnv
            · rw [e]; rfl
          rw [cond_false, h113]; rfl
    · obtain ⟨m, rfl⟩ : ∃ m, f = m + 1 := ⟨f - 1, by omega⟩
      refine ⟨[], 1, by simp, ?_, ?_⟩
      · rw [F61_l1, decide_eq_true (by omega), cond_true, e0, Option.bind_some, F40_gen (by omega) (ok_V (v.ok 0 (by omega))), if_neg ha]; rfl
      · rw [F62_l1, decide_eq_true (by omega), cond_true, e0, Option.bind_some, F49_gen _ (ok_V (v.ok 0 (by omega))), if_neg ha]; rfl
  · have h12 : F12 f t = some false := by rcases F12_cases (show 50 ≤ f by omega) t with ⟨h, _⟩ | ⟨_, h⟩; exact absurd h v; exact h
    rw [h67, h12]
    exact ⟨[], 11, by simp, rfl, rfl⟩

theorem F63_l1_same (t : List Pt) (hl : t.length ≤ 1000000) : ∀ n i, i ≤ t.length → t.length - i < n → F63_l1 t t n (i : Int) = some true
  | 0, i, _, hn => by omega
  | n + 1, i, hi, hn => by
    rw [F63_l1]
    rcases Nat.eq_or_lt_of_le hi with e | e
    · subst e; rw [decide_eq_false (by omega), cond_false]
    · rw [decide_eq_true (by omega), cond_true, getI_pt e, Option.bind_some, Option.bind_some]
      simp only [beq_self_eq_true, Bool.and_true, Bool.not_true, cond_false]
      rw [succ_w (by omega)]
      exact F63_l1_same t hl n (i + 1) e (by omega)
theorem F63_same {f : Nat} (t : List Pt) (hl : t.length ≤ 1000000) (hf : t.length < f) : F63 f t t = some true := by
  unfold F63
  have : ((t.length : Int) != (t.length : Int)) = false := by simp
  rw [this, cond_false]
  exact F63_l1_same t hl f 0 (Nat.zero_le _) (by omega)

theorem F9_true' (t u : List Pt) (n d : Int) : ∃ fuel, F9 fuel t u n d = some true := by
  refine ⟨2000, ?_⟩
  obtain ⟨l1, e1, b1, p1, q1⟩ := plus_eq (f := 2000) (by decide) t u
  obtain ⟨l2, e2, b2, p2, q2⟩ := either_eq (f := 2000) (by decide) t u
  obtain ⟨l3, e3, b3, p3, q3⟩ := times_eq (f := 2000) (by decide) t n d
  have be : ∀ a : Int, (a == a) = true := fun a => by simp
  unfold F9 F9_j1
  rw [p1, q1, p2, q2, p3, q3]
  simp only [Option.bind_some]
  rw [F63_same l1 (by omega) (by omega), F63_same l2 (by omega) (by omega), F63_same l3 (by omega) (by omega)]
  simp only [Option.bind_some, be, cond_true]
  rw [sane_big]; rfl
end Go.Proofs.Ytpjmgeajajcceaa
