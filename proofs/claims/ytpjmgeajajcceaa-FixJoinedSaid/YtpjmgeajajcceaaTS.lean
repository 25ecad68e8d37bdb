/-
  Lists of numbers that rise: sorting and compacting makes the one list with the same members. Program-independent. No condition.
-/
import Derived.Test.YtpjmgeajajcceaaSr
import Derived.Test.YtpjmgeajajcceaaSs
namespace Go.Sx
open Go.Sl Go.Proofs

def Rise (l : List Int) : Prop := l.Pairwise (· < ·)
theorem rise_ext : ∀ {l m : List Int}, Rise l → Rise m → (∀ x, x ∈ l ↔ x ∈ m) → l = m
  | [], [], _, _, _ => rfl
  | [], b :: m, _, _, h => absurd ((h b).2 (List.mem_cons_self ..)) (List.not_mem_nil)
  | a :: l, [], _, _, h => absurd ((h a).1 (List.mem_cons_self ..)) (List.not_mem_nil)
  | a :: l, b :: m, hl, hm, h => by
    obtain ⟨h1, h2⟩ := List.pairwise_cons.1 hl
    obtain ⟨k1, k2⟩ := List.pairwise_cons.1 hm
    have e : a = b := by
      rcases List.mem_cons.1 ((h a).1 (List.mem_cons_self ..)) with e | e
      · exact e
      · rcases List.mem_cons.1 ((h b).2 (List.mem_cons_self ..)) with e' | e'
        · exact e'.symm
        · have := k1 a e; have := h1 b e'; omega
    subst e
    congr 1
    refine rise_ext h2 k2 fun x => ⟨fun hx => ?_, fun hx => ?_⟩
    · rcases List.mem_cons.1 ((h x).1 (List.mem_cons_of_mem _ hx)) with e | e
      · subst e; exact absurd (h1 x hx) (Int.lt_irrefl _)
      · exact e
    · rcases List.mem_cons.1 ((h x).2 (List.mem_cons_of_mem _ hx)) with e | e
      · subst e; exact absurd (k1 x hx) (Int.lt_irrefl _)
      · exact e

theorem compU {d : Array Int} (hs : ∀ i j, i < j → j < d.size → d[i]! ≤ d[j]!) : ∀ m, m ≤ d.size → Rise (Lib.compactUpTo d m) ∧ ∀ x, x ∈ Lib.compactUpTo d m ↔ ∃ j, j < m ∧ d[j]! = x
  | 0, _ => by simp [Lib.compactUpTo, Rise]
  | m + 1, hm => by
    obtain ⟨h1, h2⟩ := compU hs m (by omega)
    rw [Lib.compactUpTo_succ]
    by_cases hk : Lib.keeps d m = true
    · rw [if_pos hk]
      have hlt : ∀ x ∈ Lib.compactUpTo d m, x < d[m]! := fun x hx => by
        obtain ⟨j, hj, rfl⟩ := (h2 x).1 hx
        unfold Lib.keeps at hk
        have hk' := of_decide_eq_true hk
        have hne := hk'.resolve_left (by omega)
        have a1 : d[m - 1]! ≤ d[m]! := hs (m - 1) m (by omega) (by omega)
        have a2 : d[j]! ≤ d[m - 1]! := by
          rcases Nat.eq_or_lt_of_le (show j ≤ m - 1 by omega) with e | e
          · rw [e]; exact Int.le_refl _
          · exact hs j (m - 1) e (by omega)
        omega
      refine ⟨List.pairwise_append.2 ⟨h1, List.pairwise_singleton _ _, fun x hx y hy => ?_⟩, fun x => ?_⟩
      · simp only [List.mem_singleton] at hy; subst hy; exact hlt x hx
      · rw [List.mem_append, h2, List.mem_singleton]
        refine ⟨fun h => ?_, fun ⟨j, hj, e⟩ => ?_⟩
        · rcases h with ⟨j, hj, e⟩ | e
          · exact ⟨j, by omega, e⟩
          · exact ⟨m, by omega, e.symm⟩
        · rcases Nat.eq_or_lt_of_le (Nat.le_of_lt_succ hj) with e' | e'
          · subst e'; exact .inr e.symm
          · exact .inl ⟨j, e', e⟩
    · rw [if_neg hk, List.append_nil]
      refine ⟨h1, fun x => ?_⟩
      rw [h2]
      refine ⟨fun ⟨j, hj, e⟩ => ⟨j, by omega, e⟩, fun ⟨j, hj, e⟩ => ?_⟩
      rcases Nat.eq_or_lt_of_le (Nat.le_of_lt_succ hj) with e' | e'
      · subst e'
        unfold Lib.keeps at hk
        have hk' : ¬ (j = 0 ∨ d[j]! ≠ d[j - 1]!) := fun h => hk (decide_eq_true h)
        have h0 : j ≠ 0 := fun h => hk' (.inl h)
        have he : d[j]! = d[j - 1]! := Classical.byContradiction fun h => hk' (.inr h)
        exact ⟨j - 1, by omega, he ▸ e⟩
      · exact ⟨j, e', e⟩

theorem compL_rise {ys : List Int} (h : ys.Pairwise (· ≤ ·)) : Rise (compL ys) ∧ ∀ x, x ∈ compL ys ↔ x ∈ ys := by
  have hs : ∀ i j, i < j → j < ys.toArray.size → ys.toArray[i]! ≤ ys.toArray[j]! := fun i j hij hj => by
    simp only [List.size_toArray] at hj
    have hi : i < ys.length := by omega
    have := List.pairwise_iff_getElem.1 h i j hi hj hij
    simpa [hi, hj] using this
  obtain ⟨h1, h2⟩ := compU hs ys.length (by simp)
  refine ⟨h1, fun x => ?_⟩
  show x ∈ Lib.compactUpTo ys.toArray ys.length ↔ _
  rw [h2, List.mem_iff_getElem]
  constructor
  · rintro ⟨j, hj, e⟩
    exact ⟨j, hj, by simpa [hj] using e⟩
  · rintro ⟨j, hj, e⟩
    exact ⟨j, hj, by simpa [hj] using e⟩
theorem sc_rise (xs : List Int) : Rise (compL (sortL xs)) ∧ ∀ x, x ∈ compL (sortL xs) ↔ x ∈ xs := by
  obtain ⟨h1, h2⟩ := compL_rise (sortL_sorted xs)
  exact ⟨h1, fun x => (h2 x).trans (sortL_perm xs).mem_iff⟩
theorem Rise.get {l : List Int} (h : Rise l) {i j : Nat} (hi : i < j) (hj : j < l.length) : l[i] < l[j] := List.pairwise_iff_getElem.1 h i j (by omega) hj hi
end Go.Sx
