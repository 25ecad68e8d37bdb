/-
  Join, and whether two heaps are the same. No condition.
-/
import Derived.Test.YtlmgjjmighajdaaJC
import Derived.Test.YtlmgjjmighajdaaPJ
set_option linter.unusedSimpArgs false
set_option linter.unusedVariables false
namespace Go.Proofs.Ytlmgjjmighajdaa
open Go.Sl Go.Sx
theorem part_beq (p q : Part) : ((p.lot == q.lot) && ((p.mass == q.mass) && true)) = decide (p = q) := by
  obtain ⟨a, b⟩ := p
  obtain ⟨c, d⟩ := q
  by_cases h1 : a = c <;> by_cases h2 : b = d <;> simp [h1, h2]
theorem F26_eq {f : Nat} {a b : List Part} (h : a.length < f) (h2 : a.length ≤ 100000) : F26 f a b = some (decide (a = b)) := by
  unfold F26
  by_cases hl : a.length = b.length
  · have e : ((a.length : Int) != (b.length : Int)) = false := by simp [hl]
    rw [e, cond_false]
    have key := loop_all0 (L := F26_l1 a b) (len := a.length) (good := fun j => ∀ h : j < a.length, a[j] = b[j]'(by omega)) (no := some false) (yes := some true) (fun n i hi => by
      have hib : i < b.length := by omega
      simp only [F26_l1, lt_len, hi, decide_true, cond_true, getI_nat hi, getI_nat hib, Option.bind_some, part_beq]
      by_cases hh : a[i] = b[i]
      · exact .inl ⟨fun _ => hh, by simp only [hh, decide_true, Bool.not_true, cond_false]; rw [succ_w (by omega)]⟩
      · exact .inr ⟨fun k => hh (k trivial), by simp [hh]⟩) (fun n => by simp [F26_l1]) h
    rcases key with ⟨hg, e⟩ | ⟨hg, e⟩
    · have : a = b := List.ext_getElem hl fun i h1 h2 => hg i h1 h1
      rw [e]; simp [this]
    · have : ¬ a = b := fun e => hg fun j hj _ => by subst e; rfl
      rw [e]; simp [this]
  · have e : ((a.length : Int) != (b.length : Int)) = true := by simpa using (show ¬ (a.length : Int) = b.length by omega)
    rw [e, cond_true]
    have : ¬ a = b := fun e => hl (by rw [e])
    simp [this]
theorem F25_eq {f : Nat} (a b : List Part) (hf : 90 < f) :
    ((HeapOk a ∧ HeapOk b ∧ HeapOk (mergeP a b)) ∧ F25 f a b = some (mergeP a b, 0)) ∨ ((HeapOk a ∧ HeapOk b ∧ ¬ HeapOk (mergeP a b)) ∧ F25 f a b = some ([], 2)) ∨ (¬ (HeapOk a ∧ HeapOk b) ∧ F25 f a b = some ([], 62)) := by
  unfold F25 F25_j1
  rcases F73_eq (f := f) (l := a) (by omega) with ⟨ha, e1⟩ | ⟨ha, e1⟩
  · rcases F73_eq (f := f) (l := b) (by omega) with ⟨hb, e2⟩ | ⟨hb, e2⟩
    · rw [e1, e2]
      simp only [Option.bind_some, Bool.not_true, cond_false, F80_eq ha hb hf]
      rcases F73_eq (f := f) (l := mergeP a b) (by omega) with ⟨hm, e3⟩ | ⟨hm, e3⟩
      · exact .inl ⟨⟨ha, hb, hm⟩, by rw [e3]; simp⟩
      · exact .inr (.inl ⟨⟨ha, hb, hm⟩, by rw [e3]; simp⟩)
    · exact .inr (.inr ⟨fun k => hb k.2, by rw [e1, e2]; simp⟩)
  · exact .inr (.inr ⟨fun k => ha k.1, by rw [e1]; simp⟩)
theorem heap_nil : HeapOk [] := ⟨by simp, by simp, List.Pairwise.nil, by simp [sumM]⟩
theorem F25_ok {f : Nat} (a b : List Part) (hf : 90 < f) : ∃ r, F25 f a b = some r ∧ HeapOk r.1 ∧ (r.2 = 0 → HeapOk a ∧ HeapOk b ∧ HeapOk (mergeP a b) ∧ r.1 = mergeP a b) := by
  rcases F25_eq a b hf with ⟨h, e⟩ | ⟨h, e⟩ | ⟨h, e⟩
  · exact ⟨_, e, h.2.2, fun _ => ⟨h.1, h.2.1, h.2.2, rfl⟩⟩
  · exact ⟨_, e, heap_nil, fun k => by cases k⟩
  · exact ⟨_, e, heap_nil, fun k => by cases k⟩
end Go.Proofs.Ytlmgjjmighajdaa
