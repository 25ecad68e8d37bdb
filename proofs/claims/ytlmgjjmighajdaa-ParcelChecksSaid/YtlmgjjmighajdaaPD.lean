/-
  Whether a deed can be done: the program and the reference agree. No condition.
-/
import Derived.Test.YtlmgjjmighajdaaPC
set_option linter.unusedSimpArgs false
set_option linter.unusedVariables false
namespace Go.Proofs.Ytlmgjjmighajdaa
open Go.Sl Go.Sx
theorem F56_has {f : Nat} {l : List Lot} (hl : l.length ≤ 40) (x : Int) (hf : 40 < f) : ∃ r, F56 f l x = some r ∧ (decide (r ≥ 0) = decide (Has l x)) ∧ (decide (r < 0) = !decide (Has l x)) := by
  rcases F56_eq (f := f) hl x hf with ⟨p, _, hh, e⟩ | ⟨hh, e⟩
  · exact ⟨p, e, by have : (p : Int) ≥ 0 := by omega
                    simp [this, hh], by have : ¬ (p : Int) < 0 := by omega
                                        simp [this, hh]⟩
  · exact ⟨-1, e, by simp [hh], by simp [hh]⟩
theorem bq (a b : Int) : (a == b) = decide (a = b) := by by_cases h : a = b <;> simp [h]
theorem bn (a b : Int) : (a != b) = !decide (a = b) := by by_cases h : a = b <;> simp [h]
theorem named_eq {f : Nat} {lots : List Lot} {holds : List (List (List Part))} (hl : LotsOk lots) (hf : 40 < f) (k l fr to m : Int) : F124 f lots holds k l fr to m = F79 f lots holds k l fr to m := by
  obtain ⟨p, e74, _⟩ := F74_eq (f := f) hl l hf
  obtain ⟨q, e56, eq0, eq1⟩ := F56_has (f := f) hl.1 l hf
  unfold F124
  rw [F125_eq]
  simp only [Option.bind_some]
  rcases deeds_at k with ⟨rfl, e⟩ | ⟨rfl, e⟩ | ⟨rfl, e⟩ | ⟨rfl, e⟩ | ⟨rfl, e⟩ | ⟨rfl, e⟩ | ⟨hk, e⟩
  all_goals
    simp only [hasK, lkK, e, Option.isSome_some, Option.getD_some, Option.isSome_none, Option.getD_none, zrow, F124_j1, F124_j2, F124_j3, F79, F79_j1, F79_j2, F79_j3, F79_j4, F79_j5, F79_j6, F79_j7, F71_eq, F72_eq, F130_eq, F118_eq, Option.bind_some, Bool.not_true, Bool.not_false, cond_true, cond_false, e74, e56, eq0, bq, bn]
  case inr.inr.inr.inr.inr.inr =>
    rcases hk with hk | hk
    · have h1 : decide (k < 1) = true := by simpa using hk
      simp [h1]
    · have h1 : decide (k < 1) = false := by simpa using (show 1 ≤ k by omega)
      have h2 : decide (k > 6) = true := by simpa using hk
      simp [h1, h2]
  all_goals
    by_cases a1 : l = 0 <;> by_cases a2 : fr = 0 <;> by_cases a3 : to = 0 <;> by_cases a4 : m = 0 <;> by_cases b1 : 0 ≤ fr ∧ fr ≤ 8 <;> by_cases b2 : 0 ≤ to ∧ to ≤ 8 <;> by_cases b3 : 1 ≤ m ∧ m ≤ 100000000 <;> by_cases b4 : fr = to <;>
    first
    | (exfalso; omega)
    | (simp [a1, a2, a3, a4, b1, b2, b3, b4]; done)
    | (simp [a1, a2, a3, a4, b1, b2, b3, b4]; cases decide (0 = to) <;> rfl)

theorem named_true {f : Nat} {lots : List Lot} (hl : LotsOk lots) (hf : 40 < f) {holds : List (List (List Part))} {k l fr to m : Int} (h : F79 f lots holds k l fr to m = some true) : (1 ≤ k ∧ k ≤ 6) ∧ (0 ≤ fr ∧ fr ≤ 8) ∧ (0 ≤ to ∧ to ≤ 8) ∧ (k ≠ 6 → 1 ≤ m ∧ m ≤ 100000000) ∧ (k = 6 → m = 0) := by
  obtain ⟨q, e56, eq0, eq1⟩ := F56_has (f := f) hl.1 l hf
  simp only [F79, F79_j1, F79_j2, F79_j3, F79_j4, F79_j5, F79_j6, F79_j7, F72_eq, F118_eq, Option.bind_some, e56, eq0, bq, bn] at h
  by_cases k1 : k < 1
  · simp [k1] at h
  by_cases k6 : k > 6
  · simp [k1, k6] at h
  refine ⟨by omega, ?_⟩
  by_cases h6 : k = 6
  · subst h6
    by_cases a1 : l = 0 <;> by_cases a3 : to = 0 <;> by_cases a4 : m = 0 <;> by_cases b1 : 0 ≤ fr ∧ fr ≤ 8 <;> simp [a1, a3, a4, b1] at h ⊢
  · by_cases b3 : 1 ≤ m ∧ m ≤ 100000000 <;> by_cases b1 : 0 ≤ fr ∧ fr ≤ 8 <;> by_cases b2 : 0 ≤ to ∧ to ≤ 8
    · exact ⟨b1, b2, fun _ => b3, fun h => absurd h h6⟩
    all_goals simp [k1, k6, h6, b1, b2, b3] at h
theorem named_some {f : Nat} {lots : List Lot} (hl : LotsOk lots) (hf : 40 < f) (holds : List (List (List Part))) (k l fr to m : Int) : ∃ b, F79 f lots holds k l fr to m = some b := by
  obtain ⟨q, e56, eq0, eq1⟩ := F56_has (f := f) hl.1 l hf
  simp only [F79, F79_j1, F79_j2, F79_j3, F79_j4, F79_j5, F79_j6, F79_j7, F72_eq, F118_eq, Option.bind_some, e56, eq0, bq, bn]
  have hc : ∀ (c : Bool) (x y : Option Bool), (∃ b, x = some b) → (∃ b, y = some b) → ∃ b, cond c x y = some b := fun c x y hx hy => by cases c; exact hy; exact hx
  repeat' (first | exact ⟨_, rfl⟩ | apply hc)
/-! ### Whether it can be done -/
theorem check_eq {f : Nat} {lots : List Lot} {holds : List (List (List Part))} (hs : StockOk lots holds) (h9 : holds.length = 9) (hf : 40 < f) (k l fr to m : Int) :
    ∃ r, F78 f lots holds k l fr to m = some r ∧ (F22 f lots holds = some 0 → F24 f lots holds k l fr to m = some r) := by
  obtain ⟨b, eb⟩ := named_some (f := f) hs.lok hf holds k l fr to m
  unfold F78
  rw [named_eq hs.lok hf, eb, F125_eq]
  simp only [Option.bind_some]
  cases b with
  | false => exact ⟨61, by simp, fun h => by unfold F24; rw [h, eb]; simp⟩
  | true =>
    obtain ⟨hk, hfr, hto, hm, hm6⟩ := named_true hs.lok hf eb
    have hfr' : fr.toNat < holds.length := by omega
    have hto' : to.toNat < holds.length := by omega
    have efr : getI holds fr = some holds[fr.toNat] := by have := getI_nat hfr'; rwa [Int.toNat_of_nonneg hfr.1] at this
    have eto : getI holds to = some holds[to.toNat] := by have := getI_nat hto'; rwa [Int.toNat_of_nonneg hto.1] at this
    have gfr := hs.hok _ (List.getElem_mem hfr')
    have gto := hs.hok _ (List.getElem_mem hto')
    have sfr := F75_eq (f := f) gfr.len (fun x hx => (gfr.heaps x hx).ok) hf
    have sto := F75_eq (f := f) gto.len (fun x hx => (gto.heaps x hx).ok) hf
    have hs0 := (sumH_bound fun x hx => (gfr.heaps x hx).ok).1
    have hm7 : k = 6 → decide (m > sumH holds[fr.toNat]) = false := fun e => by rw [hm6 e]; simpa using hs0
    have hc : ∀ (c : Bool) (x y z u : Option Int), (∃ r, x = some r ∧ z = some r) → (∃ r, y = some r ∧ u = some r) → ∃ r, cond c x y = some r ∧ cond c z u = some r := fun c x y z u hx hy => by cases c; exact hy; exact hx
    suffices ∃ r, (F78_j1 f holds k fr to m (lkK deeds k zrow).lot (lkK deeds k zrow).frm (lkK deeds k zrow).to (lkK deeds k zrow).mass (lkK deeds k zrow).fn = some r) ∧
        (cond (k == 3) (F24_j1 f holds k fr to m true) (cond (k == 4) (F24_j1 f holds k fr to m true) (F24_j1 f holds k fr to m (k == 5))) = some r) by
      obtain ⟨r, h1, h2⟩ := this
      refine ⟨r, by simpa using h1, fun h => ?_⟩
      unfold F24
      rw [h, eb]
      simpa using h2
    rcases deeds_at k with ⟨rfl, e⟩ | ⟨rfl, e⟩ | ⟨rfl, e⟩ | ⟨rfl, e⟩ | ⟨rfl, e⟩ | ⟨rfl, e⟩ | ⟨hk, e⟩
    case inr.inr.inr.inr.inr.inr => omega
    all_goals
      simp only [lkK, e, Option.getD_some, F78_j1, F78_j2, F78_j3, F78_j4, F24_j1, F24_j2, F24_j3, F24_j4, F24_j5, efr, eto, F77_75, sfr, sto, Option.bind_some, cond_true, cond_false, bq, decide_true, Int.reduceEq, decide_false]
      try simp only [hm7 rfl, cond_false]
      repeat' (first | exact ⟨_, rfl, rfl⟩ | apply hc)
end Go.Proofs.Ytlmgjjmighajdaa
