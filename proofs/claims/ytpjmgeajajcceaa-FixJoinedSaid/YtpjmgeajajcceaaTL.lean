/-
  Where: the runs that the program tells are those of the places at which a value may lie in the range. No condition.
-/
import Derived.Test.YtpjmgeajajcceaaTK
set_option linter.unusedSimpArgs false
set_option linter.unusedVariables false
namespace Go.Proofs.Ytpjmgeajajcceaa
open Go.Sl Go.Sx

/-- One place of a run's loop. -/
theorem runs_step {β : Type} (K : List Rng → Option β) {Q : Int → Prop} {a x : Int} {out : List Rng} (h : RunsTo Q a x out) {q : Bool} (hq : q = true ↔ Q x) (hax : a ≤ x) (ha : 0 ≤ a) (hx : x ≤ 1000000) :
    ∃ out', RunsTo Q a (x + 1) out' ∧ (cond (!q) (K out) (cond (decide ((w64 ((out.length : Int) - (1 : Int))) ≥ (0 : Int))) ((getI out (w64 ((out.length : Int) - (1 : Int)))).bind fun p2 => (cond (p2.hi == (w64 (x - (1 : Int)))) ((getI out (w64 ((out.length : Int) - (1 : Int)))).bind fun p1 => ((setI out (w64 ((out.length : Int) - (1 : Int))) ({ p1 with hi := x })).bind fun d1 => K d1)) ((appC out ([⟨x, x⟩])).bind fun d2 => K d2)))
      (cond false ((getI out (w64 ((out.length : Int) - (1 : Int)))).bind fun p1 => ((setI out (w64 ((out.length : Int) - (1 : Int))) ({ p1 with hi := x })).bind fun d1 => K d1)) ((appC out ([⟨x, x⟩])).bind fun d2 => K d2)))) = K out' := by
  have hlen := h.len
  cases q with
  | false => exact ⟨out, h.skip (fun hq' => by have := hq.2 hq'; cases this), rfl⟩
  | true =>
    have hQ := hq.1 rfl
    rw [Bool.not_true, cond_false]
    rcases snoc_cases out with rfl | ⟨k, r, rfl⟩
    · have : w64 ((([] : List Rng).length : Int) - 1) = -1 := by decide
      rw [this, decide_eq_false (by decide), cond_false, cond_false, appC_eq (by simp), Option.bind_some]
      exact ⟨_, h.new hQ hax (fun r hr => by cases hr), rfl⟩
    · have hk : k.length ≤ 4000000 := by simp at hlen; omega
      have e : w64 (((k ++ [r]).length : Int) - 1) = (k.length : Int) := by
        rw [List.length_append, List.length_singleton, w64_id (by omega) (by omega)]; omega
      have e1 : w64 (x - 1) = x - 1 := w64_id (by omega) (by omega)
      rw [decide_eq_true (by rw [e]; omega), cond_true, snoc_getI hk, Option.bind_some, e1]
      by_cases hr : r.hi = x - 1
      · have : (r.hi == x - 1) = true := by simp [hr]
        rw [this, cond_true, Option.bind_some, snoc_setI hk, Option.bind_some]
        exact ⟨_, h.grow hQ hax hr, rfl⟩
      · have : (r.hi == x - 1) = false := by simp [hr]
        have ht := h.top r (List.mem_append_right _ (List.mem_singleton.2 rfl))
        rw [this, cond_false, appC_eq' (by simp; omega), Option.bind_some]
        exact ⟨_, h.new hQ hax (gap_of h.runs (by omega)), rfl⟩

theorem RunsTo.start (Q : Int → Prop) (a : Int) : RunsTo Q a a [] := ⟨Runs.nil, fun y => ⟨(fun ⟨r, hr, _⟩ => by cases hr), fun ⟨_, h1, h2⟩ => by omega⟩, (fun r hr => by cases hr), by simp⟩

/-- May a value lie in the range there? -/
def QW (t : List Pt) (lo hi x : Int) : Prop := (atV t x).1 ≤ hi ∧ lo ≤ (atV t x).2

theorem F21_l3_eq (f : Nat) {t : List Pt} (v : VT t) (k3 : List Rng → Int → Int → Option (List Rng × Int)) (lo hi j : Int) {i : Nat} (hi' : i + 1 < t.length) : ∀ n (out : List Rng) (last x : Int), (pt t i).x ≤ x → x ≤ (pt t (i + 1)).x + 1 → ((pt t (i + 1)).x + 1 - x).toNat < n → (x ≤ (pt t (i + 1)).x ∨ last = (pt t (i + 1)).x) → RunsTo (QW t lo hi) (fstX t) x out →
    ∃ out', F21_l3 f k3 lo hi j (pt t (i + 1)) (pt t i) n out last x = k3 out' (pt t (i + 1)).x (w64 (j + 1)) ∧ RunsTo (QW t lo hi) (fstX t) ((pt t (i + 1)).x + 1) out'
  | 0, _, _, _, _, _, hn, _, _ => by omega
  | n + 1, out, last, x, h1, h2, hn, hl, hR => by
    have o2 := v.ok (i + 1) hi'
    have hf := pt_in v (show i < t.length by omega)
    have hb := fst_bd v
    rw [F21_l3]
    by_cases hx : x ≤ (pt t (i + 1)).x
    · rw [decide_eq_true hx, cond_true, F121_at f v hi' h1 hx, Option.bind_some]
      have x1 := o2.x1
      obtain ⟨out', hR', e⟩ := runs_step (fun d => F21_l3 f k3 lo hi j (pt t (i + 1)) (pt t i) n d x (w64 (x + 1))) hR (q := decide ((atV t x).1 ≤ hi) && decide (lo ≤ (atV t x).2)) (by simp [QW]) (by omega) hb.1 (by omega)
      have e2 : (cond (decide ((atV t x).1 ≤ hi)) (F21_j6 (F21_l3 f k3 lo hi j (pt t (i + 1)) (pt t i) n) out x (decide (lo ≤ (atV t x).2))) (F21_j6 (F21_l3 f k3 lo hi j (pt t (i + 1)) (pt t i) n) out x false)) = F21_j6 (F21_l3 f k3 lo hi j (pt t (i + 1)) (pt t i) n) out x (decide ((atV t x).1 ≤ hi) && decide (lo ≤ (atV t x).2)) := by
        by_cases hh : (atV t x).1 ≤ hi
        · rw [decide_eq_true hh]; rfl
        · rw [decide_eq_false hh]; rfl
      rw [e2]
      unfold F21_j6 F21_j7 F21_j5
      rw [e, w64_id (n := x + 1) (by omega) (by omega)]
      exact F21_l3_eq f v k3 lo hi j hi' n out' x (x + 1) (by omega) (by omega) (by omega) (by omega) hR'
    · rw [decide_eq_false hx, cond_false]
      have : x = (pt t (i + 1)).x + 1 := by omega
      subst this
      refine ⟨out, ?_, hR⟩
      rw [hl.resolve_left hx]

theorem F21_l2_eq {f : Nat} (hf : 2000000 ≤ f) {t : List Pt} (v : VT t) (lo hi : Int) : ∀ n i (out : List Rng) (last : Int), i < t.length → t.length - 1 - i < n → ((i = 0 ∧ last = -1 ∧ out = []) ∨ (0 < i ∧ last = (pt t i).x ∧ RunsTo (QW t lo hi) (fstX t) ((pt t i).x + 1) out)) → 2 ≤ t.length →
    ∃ out', F21_l2 f t lo hi (t.drop 1) n out last (i : Int) = some (out', 0) ∧ RunsTo (QW t lo hi) (fstX t) (lstX t + 1) out'
  | 0, i, _, _, _, hn, _, _ => by omega
  | n + 1, i, out, last, hi', hn, hI, h2 => by
    have hl := v.l2
    rw [F21_l2]
    by_cases hx : i + 1 < t.length
    · rw [decide_eq_true (by rw [List.length_drop]; omega), cond_true, getI_tail hx, getI_pt hi', Option.bind_some, Option.bind_some]
      have ok := v.ok i hi'
      have ok2 := v.ok (i + 1) hx
      have up := v.up i hx
      obtain ⟨x, ex, hR, hx1, hx2⟩ : ∃ x, (if (w64 (last + (1 : Int))) > (pt t i).x then (w64 (last + (1 : Int))) else (pt t i).x) = x ∧ RunsTo (QW t lo hi) (fstX t) x out ∧ (pt t i).x ≤ x ∧ x ≤ (pt t (i + 1)).x := by
        rcases hI with ⟨rfl, rfl, rfl⟩ | ⟨h0, rfl, hR⟩
        · have e : w64 (-1 + 1) = 0 := by decide
          have h0 := ok.x0
          rw [e, if_neg (by omega)]
          exact ⟨_, rfl, RunsTo.start _ _, Int.le_refl _, by omega⟩
        · have x0 := ok.x0
          have x1 := ok.x1
          rw [w64_id (n := (pt t i).x + 1) (by omega) (by omega), if_pos (by omega)]
          exact ⟨_, rfl, hR, by omega, by omega⟩
      rw [ex]
      have x0 := ok.x0
      have x1 := ok2.x1
      obtain ⟨out', e1, hR'⟩ := F21_l3_eq f v (F21_l2 f t lo hi (t.drop 1) n) lo hi (i : Int) hx f out last x hx1 (by omega) (by omega) (.inl hx2) hR
      rw [e1, succ_w (by omega)]
      exact F21_l2_eq hf v lo hi n (i + 1) out' _ hx (by omega) (.inr ⟨by omega, rfl, hR'⟩) h2
    · have he : i = t.length - 1 := by omega
      rw [decide_eq_false (by rw [List.length_drop]; omega), cond_false]
      refine ⟨out, rfl, ?_⟩
      rcases hI with ⟨h0, _⟩ | ⟨_, _, hR⟩
      · omega
      · rw [he] at hR; exact hR

theorem F21_eq {f : Nat} (hf : 2000000 ≤ f) {t : List Pt} (v : VT t) (h67 : F67 f t = some 0) {lo hi : Int} (hV : V lo hi) : ∃ out, F21 f t lo hi = some (out, 0) ∧ RunsTo (QW t lo hi) (fstX t) (lstX t + 1) out := by
  have hl1 := v.l1
  have hl2 := v.l2
  unfold F21
  rw [h67, Option.bind_some, cond_z, F52_eq, if_pos hV, Option.bind_some, cond_z]
  by_cases h1 : t.length = 1
  · have hb : ((t.length : Int) == 1) = true := by simp [h1]
    have e0 := getI_pt (t := t) (i := 0) (by omega)
    rw [show ((0 : Nat) : Int) = 0 from rfl] at e0
    have ok := v.ok 0 (by omega)
    have x0 := ok.x0
    have x1 := ok.x1
    rw [hb, cond_true, e0, Option.bind_some, Option.bind_some, if_neg (by omega)]
    obtain ⟨n, rfl⟩ : ∃ n, f = n + 2 := ⟨f - 2, by omega⟩
    have hfx : fstX t = (pt t 0).x := rfl
    have hlx : lstX t = (pt t 0).x := by unfold lstX; rw [h1]
    have hat := atV_pt v (k := 0) (by omega)
    rw [F21_l1, decide_eq_true (Int.le_refl _), cond_true, F121_same _ ok, Option.bind_some]
    obtain ⟨out', hR', e⟩ := runs_step (fun d => F21_l1 (n + 2) lo hi (pt t 0) (pt t 0) (n + 1) d (pt t 0).x (w64 ((pt t 0).x + 1))) (RunsTo.start (QW t lo hi) (pt t 0).x) (q := decide ((pt t 0).lo ≤ hi) && decide (lo ≤ (pt t 0).hi)) (by simp [QW, hat]) (Int.le_refl _) x0 x1
    have e2 : (cond (decide ((pt t 0).lo ≤ hi)) (F21_j3 (F21_l1 (n + 2) lo hi (pt t 0) (pt t 0) (n + 1)) [] (pt t 0).x (decide (lo ≤ (pt t 0).hi))) (F21_j3 (F21_l1 (n + 2) lo hi (pt t 0) (pt t 0) (n + 1)) [] (pt t 0).x false)) = F21_j3 (F21_l1 (n + 2) lo hi (pt t 0) (pt t 0) (n + 1)) [] (pt t 0).x (decide ((pt t 0).lo ≤ hi) && decide (lo ≤ (pt t 0).hi)) := by
      by_cases hh : (pt t 0).lo ≤ hi
      · rw [decide_eq_true hh]; rfl
      · rw [decide_eq_false hh]; rfl
    rw [e2]
    unfold F21_j3 F21_j4 F21_j2
    rw [e, F21_l1, w64_id (n := (pt t 0).x + 1) (by omega) (by omega), decide_eq_false (by omega), cond_false, hfx, hlx]
    exact ⟨out', rfl, hR'⟩
  · have hb : ((t.length : Int) == 1) = false := beq_eq_false_iff_ne.2 (by omega)
    rw [hb, cond_false, sub_tail hl1, Option.bind_some]
    have := F21_l2_eq hf v lo hi f 0 [] (-1) (by omega) (by omega) (.inl ⟨rfl, rfl, rfl⟩) (by omega)
    exact this
end Go.Proofs.Ytpjmgeajajcceaa
