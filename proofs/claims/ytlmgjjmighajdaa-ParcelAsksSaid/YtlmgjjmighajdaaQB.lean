/-
  What an owner has, and may draw, of the plain functions that the walks compute. No condition.
-/
import Derived.Test.YtlmgjjmighajdaaQA
set_option linter.unusedSimpArgs false
set_option linter.unusedVariables false
namespace Go.Proofs.Ytlmgjjmighajdaa
open Go.Sl Go.Sx

/-! ### A row that is filled from the left -/
theorem getI_mid {α : Type} (a : List α) (v : α) (b : List α) {i : Nat} (hi : a.length = i) : getI (a ++ v :: b) (i : Int) = some v := by
  subst hi; unfold getI; simp
theorem setI_mid {α : Type} (a : List α) (v u : α) (b : List α) {i : Nat} (hi : a.length = i) : setI (a ++ v :: b) (i : Int) u = some (a ++ u :: b) := by
  subst hi; unfold setI
  have : (0 : Int) ≤ (a.length : Int) ∧ (a.length : Int) < ((a ++ v :: b).length : Int) := by simp; omega
  rw [if_pos this]
  simp
def rowAt (S : List (List Part) → Int) (holds : List (List (List Part))) (i : Nat) (v : Int) : List Int := (holds.take i).map S ++ v :: List.replicate (8 - i) 0
def rowTo (S : List (List Part) → Int) (holds : List (List (List Part))) (i : Nat) : List Int := (holds.take i).map S ++ List.replicate (9 - i) 0
theorem rowTo_at (S : List (List Part) → Int) (holds : List (List (List Part))) {i : Nat} (hi : i < 9) : rowTo S holds i = rowAt S holds i 0 := by
  unfold rowTo rowAt
  have : 9 - i = (8 - i) + 1 := by omega
  rw [this, List.replicate_succ]
theorem rowAt_to (S : List (List Part) → Int) {holds : List (List (List Part))} {i : Nat} (h9 : holds.length = 9) (hi : i < 9) : rowAt S holds i (S (holds[i]'(by omega))) = rowTo S holds (i + 1) := by
  unfold rowTo rowAt
  rw [List.take_succ_eq_append_getElem (by omega)]
  have : 8 - i = 9 - (i + 1) := by omega
  rw [this, List.map_append]
  simp only [List.map_cons, List.map_nil, List.append_assoc, List.singleton_append]
theorem rowTo_end (S : List (List Part) → Int) {holds : List (List (List Part))} (h9 : holds.length = 9) : rowTo S holds 9 = holds.map S := by
  unfold rowTo
  rw [List.take_of_length_le (by omega)]; simp
theorem rowTo_zero (S : List (List Part) → Int) (holds : List (List (List Part))) : rowTo S holds 0 = List.replicate 9 0 := by simp [rowTo]
theorem getRow (S : List (List Part) → Int) {holds : List (List (List Part))} {i : Nat} (h9 : holds.length = 9) (hi : i < 9) (v : Int) : getI (rowAt S holds i v) (i : Int) = some v :=
  getI_mid _ _ _ (by simp; omega)
theorem setRow (S : List (List Part) → Int) {holds : List (List (List Part))} {i : Nat} (h9 : holds.length = 9) (hi : i < 9) (v u : Int) : setI (rowAt S holds i v) (i : Int) u = some (rowAt S holds i u) :=
  setI_mid _ _ _ _ (by simp; omega)

/-! ### Of -/
def ownH (lots : List Lot) (who : Int) (l : List (List Part)) : Int := sumBy (fun p => sumBy (ownG lots who) p) l
theorem ownH_take {lots : List Lot} {who : Int} {l : List (List Part)} {j : Nat} (hj : j < l.length) : ownH lots who (l.take (j + 1)) = ownH lots who (l.take j) + sumBy (ownG lots who) l[j] := sumBy_take _ hj
theorem ownH_bound {lots : List Lot} {l : List (List Part)} (h : GoodHold lots l) (who : Int) (i : Nat) : 0 ≤ ownH lots who (l.take i) ∧ ownH lots who (l.take i) ≤ 16000000000 := by
  have := sumBy_bound (g := fun p => sumBy (ownG lots who) p) (b := 4000000000) (by omega) (l := l.take i) fun x hx => by
    have := ownM_bound (h.heaps x (List.mem_of_mem_take hx)) who x.length
    rwa [List.take_length] at this
  have h4 := h.len
  have hl : (l.take i).length ≤ 4 := by rw [List.length_take]; omega
  have h2 : (4000000000 : Int) * ((l.take i).length : Nat) ≤ 4000000000 * 4 := by omega
  unfold ownH
  omega
theorem F55_l3_eq {f : Nat} {lots : List Lot} {holds : List (List (List Part))} (hs : StockOk lots holds) (h9 : holds.length = 9) {i : Nat} (hi : i < 9) (k2 : List Int → Int → Option (List Int × Int)) (who y4 : Int) {p : List Part} (hp : GoodHeap lots p) {v : Int} (hv : 0 ≤ v ∧ v ≤ 16000000000) (hf : 40 < f) :
    F55_l3 f k2 lots holds who (i : Int) y4 p f (rowAt (ownH lots who) holds i v) 0 = k2 (rowAt (ownH lots who) holds i (v + sumBy (ownG lots who) p)) (w64 (y4 + 1)) := by
  have key := loop_st (T := fun n j => F55_l3 f k2 lots holds who (i : Int) y4 p n (rowAt (ownH lots who) holds i (v + sumBy (ownG lots who) (p.take j))) (j : Int)) (len := p.length) (n := f) (out := k2 (rowAt (ownH lots who) holds i (v + sumBy (ownG lots who) p)) (w64 (y4 + 1))) (by have := hp.ok.1; omega)
    (fun n j hj => by
      have h1 := ownM_bound hp who j
      have h2 := ownM_bound hp who (j + 1)
      rw [sumBy_take _ hj] at h2
      simp only [F55_l3, lt_len, hj, decide_true, cond_true, getI_nat hj, Option.bind_some, F115_eq hs.lok holds (hp.lots _ (List.getElem_mem hj)) hf, F55_j1]
      rw [succ_w (by have := hp.ok.1; omega), sumBy_take _ hj]
      unfold ownG at h2 ⊢
      by_cases hb : (theLot lots p[j].lot).owner = who
      · simp only [hb, beq_self_eq_true, cond_true, if_true, getRow _ h9 hi, setRow _ h9 hi, Option.bind_some] at h2 ⊢
        rw [w64_id (by omega) (by omega), Int.add_assoc]
      · have hb' : ((theLot lots p[j].lot).owner == who) = false := by simpa using hb
        simp only [hb', cond_false, hb, if_false, Int.add_zero])
    (fun n => by simp [F55_l3])
  simpa [sumBy] using key
theorem F55_l2_eq {f : Nat} {lots : List Lot} {holds : List (List (List Part))} (hs : StockOk lots holds) (h9 : holds.length = 9) {i : Nat} (hi : i < 9) (k3 : List Int → Int → Option (List Int × Int)) (who : Int) (hf : 40 < f) :
    F55_l2 f k3 lots holds who (i : Int) (holds[i]'(by omega)) f (rowTo (ownH lots who) holds i) 0 = k3 (rowTo (ownH lots who) holds (i + 1)) (w64 ((i : Int) + 1)) := by
  have hg := hs.hok _ (List.getElem_mem (l := holds) (n := i) (by omega))
  generalize he : holds[i]'(by omega) = hold at hg ⊢
  have key := loop_st (T := fun n j => F55_l2 f k3 lots holds who (i : Int) hold n (rowAt (ownH lots who) holds i (ownH lots who (hold.take j))) (j : Int)) (len := hold.length) (n := f) (out := k3 (rowAt (ownH lots who) holds i (ownH lots who hold)) (w64 ((i : Int) + 1))) (by have := hg.len; omega)
    (fun n j hj => by
      simp only [F55_l2, lt_len, hj, decide_true, cond_true, getI_nat hj, Option.bind_some]
      rw [F55_l3_eq hs h9 hi _ who _ (hg.heaps _ (List.getElem_mem hj)) (ownH_bound hg who j) hf, succ_w (by have := hg.len; omega), ownH_take hj])
    (fun n => by simp [F55_l2])
  rw [rowTo_at _ _ hi, ← rowAt_to _ h9 hi]
  rw [he]
  simpa [ownH, sumBy] using key
theorem mk9 : mkC 9 (0 : Int) = some (List.replicate 9 0) := rfl
theorem F55_eq {f : Nat} {lots : List Lot} {holds : List (List (List Part))} (h9 : holds.length = 9) (who : Int) (hf : 40 < f) :
    (StockOk lots holds ∧ (1 ≤ who ∧ who ≤ 9) ∧ F55 f lots holds who = some (holds.map (ownH lots who), 0)) ∨ (StockOk lots holds ∧ ¬ (1 ≤ who ∧ who ≤ 9) ∧ F55 f lots holds who = some ([], 1)) ∨ (¬ StockOk lots holds ∧ F55 f lots holds who = some ([], 62)) := by
  unfold F55 F111
  rcases F21_eq (lots := lots) h9 hf with ⟨hs, e⟩ | ⟨hs, e⟩
  · rw [e]
    by_cases hw : 1 ≤ who ∧ who ≤ 9
    · refine .inl ⟨hs, hw, ?_⟩
      simp only [Option.bind_some, F71_eq, hw, and_self, decide_true, Bool.not_true, cond_false, bne_self_eq_false, mk9]
      have key := loop_st (T := fun n i => F55_l1 f lots holds who n (rowTo (ownH lots who) holds i) (i : Int)) (len := 9) (n := f) (out := some (holds.map (ownH lots who), 0)) (by omega)
        (fun n i hi => by
          have h1 : decide ((i : Int) < 9) = true := by simpa using (show (i : Int) < 9 by omega)
          simp only [F55_l1, h1, cond_true, getI_nat (xs := holds) (i := i) (by omega), Option.bind_some]
          rw [F55_l2_eq hs h9 hi _ who hf, succ_w (by omega)])
        (fun n => by simp [F55_l1, rowTo_end _ h9])
      rw [← rowTo_zero (ownH lots who) holds]
      exact key
    · refine .inr (.inl ⟨hs, hw, ?_⟩)
      simp [F71_eq, hw]
  · exact .inr (.inr ⟨hs, by rw [e]; simp⟩)
end Go.Proofs.Ytlmgjjmighajdaa
