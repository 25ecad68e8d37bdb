/-
  What is asked of a stock: sums over its holds, of the plain functions that the walks compute. No condition.
-/
import Derived.Test.YtlmgjjmighajdaaT15
import Derived.Test.YtlmgjjmighajdaaPC
set_option linter.unusedSimpArgs false
set_option linter.unusedVariables false
namespace Go.Proofs.Ytlmgjjmighajdaa
open Go.Sl Go.Sx

/-- A loop with an index whose state is known ahead of each round. -/
theorem loop_from {ρ : Type} {T : Nat → Nat → Option ρ} {len : Nat} {out : Option ρ} (h : ∀ n i, i < len → T (n + 1) i = T n (i + 1)) (he : ∀ n, T (n + 1) len = out) : ∀ n i, i ≤ len → len - i < n → T n i = out
  | 0, i, _, hn => by omega
  | n + 1, i, hi, hn => by
    rcases Nat.lt_or_ge i len with hlt | hge
    · rw [h n i hlt]; exact loop_from h he n (i + 1) hlt (by omega)
    · have : i = len := by omega
      subst this; exact he n
theorem loop_st {ρ : Type} {T : Nat → Nat → Option ρ} {len n : Nat} {out : Option ρ} (hn : len < n) (h : ∀ n i, i < len → T (n + 1) i = T n (i + 1)) (he : ∀ n, T (n + 1) len = out) : T n 0 = out :=
  loop_from h he n 0 (by omega) (by omega)

/-! ### Sums -/
def sumBy {α : Type} (g : α → Int) (l : List α) : Int := (l.map g).sum
theorem sumBy_nil {α : Type} (g : α → Int) : sumBy g [] = 0 := rfl
theorem sumBy_cons {α : Type} (g : α → Int) (x : α) (l : List α) : sumBy g (x :: l) = g x + sumBy g l := by simp [sumBy]
theorem sumBy_app {α : Type} (g : α → Int) (a b : List α) : sumBy g (a ++ b) = sumBy g a + sumBy g b := by unfold sumBy; rw [List.map_append, sum_app]
theorem sumBy_take {α : Type} (g : α → Int) {l : List α} {i : Nat} (hi : i < l.length) : sumBy g (l.take (i + 1)) = sumBy g (l.take i) + g l[i] := by
  rw [List.take_succ_eq_append_getElem hi, sumBy_app, sumBy_cons, sumBy_nil]; omega
theorem sumBy_bound {α : Type} {g : α → Int} {b : Int} (hb : 0 ≤ b) : ∀ {l : List α}, (∀ x ∈ l, 0 ≤ g x ∧ g x ≤ b) → 0 ≤ sumBy g l ∧ sumBy g l ≤ b * l.length
  | [], _ => by simp [sumBy]
  | x :: l, h => by
    have ih := sumBy_bound hb (l := l) fun y hy => h y (List.mem_cons_of_mem _ hy)
    have h1 := h x (List.mem_cons_self ..)
    rw [sumBy_cons]
    have : b * ((x :: l).length : Nat) = b * l.length + b := by simp only [List.length_cons]; push_cast; rw [Int.mul_add]; omega
    omega
theorem sumBy_congr {α : Type} {g g' : α → Int} {l : List α} (h : ∀ x ∈ l, g x = g' x) : sumBy g l = sumBy g' l := by
  unfold sumBy; rw [List.map_congr_left h]
theorem sumM_by (l : List Part) : sumM l = sumBy (·.mass) l := rfl
theorem sumH_by (l : List (List Part)) : sumH l = sumBy sumM l := rfl

/-! ### The lot of a part -/
def theLot (l : List Lot) (x : Int) : Lot := (l.find? fun y => y.id == x).getD ⟨0, 0, 0, 0⟩
theorem theLot_at {l : List Lot} (h : LotsOk l) {p : Nat} {x : Int} (hp : ∃ h : p < l.length, l[p].id = x) : ∃ h : p < l.length, l[p] = theLot l x := by
  obtain ⟨hp1, e⟩ := hp
  refine ⟨hp1, ?_⟩
  unfold theLot
  cases hf : l.find? fun y => y.id == x with
  | none =>
    have := List.find?_eq_none.1 hf l[p] (List.getElem_mem _)
    simp [e] at this
  | some y =>
    have h1 := List.find?_some hf
    have h2 := List.mem_of_find?_eq_some hf
    obtain ⟨q, hq, rfl⟩ := List.getElem_of_mem h2
    have h3 : l[q].id = x := by simpa using h1
    have := place_one h ⟨hp1, e⟩ ⟨hq, h3⟩
    subst this
    rfl
theorem theLot_ok {l : List Lot} (h : LotsOk l) {x : Int} (hx : Has l x) : LotOk (theLot l x) := by
  obtain ⟨y, hy, e⟩ := hx
  obtain ⟨q, hq, rfl⟩ := List.getElem_of_mem hy
  obtain ⟨_, e2⟩ := theLot_at h ⟨hq, e⟩
  rw [← e2]; exact h.2.1 _ hy
theorem F74_lot {f : Nat} {l : List Lot} (h : LotsOk l) {x : Int} (hx : Has l x) (hf : 40 < f) : ∃ r, F74 f l x = some r ∧ getI l r.1 = some (theLot l x) := by
  obtain ⟨p, e, k⟩ := F74_eq (f := f) h x hf
  obtain ⟨hp, e2⟩ := theLot_at h (k hx)
  exact ⟨_, e, by rw [getI_nat hp, e2]⟩
theorem F56_lot {f : Nat} {l : List Lot} (h : LotsOk l) {x : Int} (hx : Has l x) (hf : 40 < f) : ∃ r, F56 f l x = some r ∧ getI l r = some (theLot l x) := by
  rcases F56_eq (f := f) h.1 x hf with ⟨p, hp, _, e⟩ | ⟨hn, _⟩
  · obtain ⟨hp, e2⟩ := theLot_at h hp
    exact ⟨_, e, by rw [getI_nat hp, e2]⟩
  · exact absurd hx hn
theorem F115_eq {f : Nat} {l : List Lot} (h : LotsOk l) (holds : List (List (List Part))) {x : Int} (hx : Has l x) (hf : 40 < f) : F115 f l holds x = some (theLot l x).owner := by
  obtain ⟨r, e1, e2⟩ := F74_lot (f := f) h hx hf
  unfold F115; rw [e1]; simp [e2]
theorem F120_eq {f : Nat} {l : List Lot} (h : LotsOk l) (holds : List (List (List Part))) {x : Int} (hx : Has l x) (hf : 40 < f) : F120 f l holds x = some (theLot l x).owner := by
  obtain ⟨r, e1, e2⟩ := F56_lot (f := f) h hx hf
  unfold F120; rw [e1]; simp [e2]

/-! ### Owned -/
def ownG (lots : List Lot) (who : Int) (q : Part) : Int := if (theLot lots q.lot).owner = who then q.mass else 0
theorem ownG_bound {lots : List Lot} {who : Int} {q : Part} (h : PartOk q) : 0 ≤ ownG lots who q ∧ ownG lots who q ≤ 100000000 := by
  unfold ownG
  have h0 := h.m0; have h1 := h.m1
  split <;> omega
theorem ownM_bound {lots : List Lot} {p : List Part} (h : GoodHeap lots p) (who : Int) (i : Nat) : 0 ≤ sumBy (ownG lots who) (p.take i) ∧ sumBy (ownG lots who) (p.take i) ≤ 4000000000 := by
  have := sumBy_bound (g := ownG lots who) (b := 100000000) (by omega) (l := p.take i) fun x hx => ownG_bound (h.ok.2.1 x (List.mem_of_mem_take hx))
  have h40 := h.ok.1
  have hl : (p.take i).length ≤ 40 := by rw [List.length_take]; omega
  have h2 : (100000000 : Int) * ((p.take i).length : Nat) ≤ 100000000 * 40 := by omega
  omega
theorem F116_eq {f : Nat} {lots : List Lot} (hl : LotsOk lots) (holds : List (List (List Part))) {p : List Part} (h : GoodHeap lots p) (who : Int) (hf : 40 < f) : F116 f lots holds p who = some (sumBy (ownG lots who) p) := by
  have key := loop_st (T := fun n i => F116_l1 f lots holds p who n (sumBy (ownG lots who) (p.take i)) (i : Int)) (len := p.length) (n := f) (out := some (sumBy (ownG lots who) p)) (by have := h.ok.1; omega)
    (fun n i hi => by
      have h1 := ownM_bound h who i
      have h2 := ownM_bound h who (i + 1)
      rw [sumBy_take _ hi] at h2
      simp only [F116_l1, lt_len, hi, decide_true, cond_true, getI_nat hi, Option.bind_some, F120_eq hl holds (h.lots _ (List.getElem_mem hi)) hf, F116_j1]
      rw [succ_w (by have := h.ok.1; omega), sumBy_take _ hi]
      unfold ownG at h2 ⊢
      by_cases hb : (theLot lots p[i].lot).owner = who
      · simp only [hb, beq_self_eq_true, cond_true, if_true] at h2 ⊢
        rw [w64_id (by omega) (by omega)]
      · have hb' : ((theLot lots p[i].lot).owner == who) = false := by simpa using hb
        simp only [hb', cond_false, hb, if_false, Int.add_zero])
    (fun n => by simp [F116_l1])
  simpa [F116, sumBy] using key
end Go.Proofs.Ytlmgjjmighajdaa
