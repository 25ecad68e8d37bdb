/-
  Dealing a mass: the order of the remainders. No condition.
-/
import Derived.Test.YtlmgjjmighajdaaPB
set_option linter.unusedSimpArgs false
set_option linter.unusedVariables false
namespace Go.Proofs.Ytlmgjjmighajdaa
open Go.Sl Go.Sx

/-! ### Sorting by insertion, from the right -/
section
variable {α : Type} (lt : α → α → Bool)
def insRev (x : α) : List α → List α
  | [] => [x]
  | y :: r => bif lt x y then y :: insRev x r else x :: y :: r
def sortRev (l : List α) : List α := l.foldl (fun r x => insRev lt x r) []
theorem insRev_perm (x : α) : ∀ r : List α, (insRev lt x r).Perm (x :: r)
  | [] => List.Perm.refl _
  | y :: r => by
    unfold insRev
    cases lt x y with
    | true => exact ((insRev_perm x r).cons y).trans (List.Perm.swap x y r)
    | false => exact List.Perm.refl _
theorem sortRev_perm_aux : ∀ (l r : List α), (l.foldl (fun r x => insRev lt x r) r).Perm (l ++ r)
  | [], r => List.Perm.refl _
  | x :: l, r => by
    refine (sortRev_perm_aux l (insRev lt x r)).trans ?_
    refine ((insRev_perm lt x r).append_left l).trans ?_
    exact List.perm_middle
theorem sortRev_perm (l : List α) : (sortRev lt l).Perm l := by
  have := sortRev_perm_aux lt l []
  rwa [List.append_nil] at this
end
/-- In a reversed list that is sorted by a strict order, what goes in comes behind its equals. -/
theorem insRev_sorted {α : Type} {lt : α → α → Bool} {bf : α → α → Prop} (tr : ∀ a b c, bf a b → bf b c → bf a c) {x : α} : ∀ {r : List α}, r.Pairwise (fun a b => bf b a) → (∀ y ∈ r, lt x y = true → bf x y) → (∀ y ∈ r, lt x y = false → bf y x) →
    (insRev lt x r).Pairwise (fun a b => bf b a)
  | [], _, _, _ => List.pairwise_singleton _ _
  | y :: r, hp, h1, h2 => by
    have hp' := List.pairwise_cons.1 hp
    unfold insRev
    cases e : lt x y with
    | true =>
      simp only [cond_true]
      refine List.pairwise_cons.2 ⟨fun z hz => ?_, insRev_sorted tr hp'.2 (fun z hz => h1 z (List.mem_cons_of_mem _ hz)) (fun z hz => h2 z (List.mem_cons_of_mem _ hz))⟩
      rcases List.mem_cons.1 ((insRev_perm lt x r).mem_iff.1 hz) with rfl | hz
      · exact h1 y (by simp) e
      · exact hp'.1 z hz
    | false =>
      simp only [cond_false]
      refine List.pairwise_cons.2 ⟨fun z hz => ?_, hp⟩
      have hy := h2 y (by simp) e
      rcases List.mem_cons.1 hz with rfl | hz
      · exact hy
      · exact tr _ _ _ (hp'.1 z hz) hy
/-! ### The place in a sorted list is how many come ahead -/
theorem take_iff {α : Type} [DecidableEq α] {bf : α → α → Prop} [DecidableRel bf] (irr : ∀ a, ¬ bf a a) (asy : ∀ a b, bf a b → ¬ bf b a) : ∀ {l : List α} {k : Nat} {x : α}, l.Pairwise bf → x ∈ l → (x ∈ l.take k ↔ l.countP (fun y => decide (bf y x)) < k)
  | [], k, x, _, hx => by cases hx
  | y :: l, 0, x, _, _ => by simp
  | y :: l, k + 1, x, hp, hx => by
    have hp' := List.pairwise_cons.1 hp
    by_cases e : x = y
    · subst e
      have hz : (x :: l).countP (fun z => decide (bf z x)) = 0 := by
        rw [List.countP_eq_zero]
        intro z hz
        simp only [decide_eq_true_eq]
        rcases List.mem_cons.1 hz with rfl | hz
        · exact irr _
        · exact asy _ _ (hp'.1 z hz)
      rw [hz]
      simp
    · have hxl : x ∈ l := by rcases List.mem_cons.1 hx with h | h; exact absurd h e; exact h
      have hb : bf y x := hp'.1 x hxl
      have ih := take_iff irr asy (k := k) hp'.2 hxl
      rw [List.take_succ_cons, List.mem_cons, List.countP_cons_of_pos (by simpa using hb)]
      constructor
      · rintro (h | h)
        · exact absurd h e
        · have := ih.1 h; omega
      · intro h
        exact .inr (ih.2 (by omega))
/-! ### Remainders -/
def rem_ (m s : Int) (a : List Int) (i : Int) : Int := (m * a.getD i.toNat 0) % s
/-- One place comes ahead of another one. -/
def ahead (m s : Int) (a : List Int) (i j : Int) : Prop := rem_ m s a i > rem_ m s a j ∨ (rem_ m s a i = rem_ m s a j ∧ i < j)
instance (m s : Int) (a : List Int) : DecidableRel (ahead m s a) := fun i j => inferInstanceAs (Decidable (_ ∨ _))
theorem ahead_irr (m s : Int) (a : List Int) (i : Int) : ¬ ahead m s a i i := by unfold ahead; omega
theorem ahead_asy (m s : Int) (a : List Int) (i j : Int) (h : ahead m s a i j) : ¬ ahead m s a j i := by unfold ahead at *; omega
theorem ahead_tr (m s : Int) (a : List Int) (i j k : Int) (h : ahead m s a i j) (h' : ahead m s a j k) : ahead m s a i k := by unfold ahead at *; omega
def less (m s : Int) (a : List Int) (i j : Int) : Bool := decide (rem_ m s a i > rem_ m s a j)
def places (n : Nat) : List Int := (List.range n).map fun i : Nat => (i : Int)
def orderS (m s : Int) (a : List Int) : List Int := (sortRev (less m s a) (places a.length)).reverse
theorem sortRev_aux (m s : Int) (a : List Int) : ∀ (l r : List Int), (∀ y ∈ r, ∀ x ∈ l, y < x) → l.Pairwise (· < ·) → r.Pairwise (fun x y => ahead m s a y x) →
    (l.foldl (fun r x => insRev (less m s a) x r) r).Pairwise (fun x y => ahead m s a y x)
  | [], r, _, _, h => h
  | x :: l, r, h1, h2, h3 => by
    have h2' := List.pairwise_cons.1 h2
    refine sortRev_aux m s a l _ (fun y hy z hz => ?_) h2'.2 (insRev_sorted (ahead_tr m s a) h3 (fun y hy e => ?_) (fun y hy e => ?_))
    · rcases List.mem_cons.1 ((insRev_perm _ x r).mem_iff.1 hy) with rfl | hy
      · exact h2'.1 z hz
      · exact h1 y hy z (List.mem_cons_of_mem _ hz)
    · have := of_decide_eq_true e
      exact .inl this
    · have e' := of_decide_eq_false e
      have := h1 y hy x (by simp)
      unfold ahead
      omega
theorem places_rising (n : Nat) : (places n).Pairwise (· < ·) := by
  unfold places
  rw [List.pairwise_map]
  exact List.pairwise_lt_range.imp fun h => by omega
theorem mem_places {n : Nat} {x : Int} : x ∈ places n ↔ 0 ≤ x ∧ x < n := by
  unfold places
  simp only [List.mem_map, List.mem_range]
  constructor
  · rintro ⟨i, hi, rfl⟩; omega
  · rintro ⟨h1, h2⟩; exact ⟨x.toNat, by omega, by omega⟩
theorem orderS_sorted (m s : Int) (a : List Int) : (orderS m s a).Pairwise (ahead m s a) := by
  unfold orderS
  rw [List.pairwise_reverse]
  exact sortRev_aux m s a _ [] (fun y hy => by cases hy) (places_rising _) List.Pairwise.nil
theorem orderS_perm (m s : Int) (a : List Int) : (orderS m s a).Perm (places a.length) := (List.reverse_perm _).trans (sortRev_perm _ _)
/-- How many places come ahead of one. -/
def rank (m s : Int) (a : List Int) (i : Int) : Nat := (places a.length).countP fun j => decide (ahead m s a j i)
theorem first_iff (m s : Int) (a : List Int) {i : Int} (hi : i ∈ places a.length) (k : Nat) : i ∈ (orderS m s a).take k ↔ rank m s a i < k := by
  have hp := orderS_perm m s a
  rw [take_iff (ahead_irr m s a) (ahead_asy m s a) (orderS_sorted m s a) (hp.mem_iff.2 hi), hp.countP_eq]
  rfl
end Go.Proofs.Ytlmgjjmighajdaa
