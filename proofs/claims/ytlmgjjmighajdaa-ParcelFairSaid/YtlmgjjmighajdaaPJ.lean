/-
  Joining heaps: what the program reckons, in plain words; commutative and associative. No condition.
-/
import Derived.Test.YtlmgjjmighajdaaPB
set_option linter.unusedSimpArgs false
set_option linter.unusedVariables false
namespace Go.Proofs.Ytlmgjjmighajdaa
open Go.Sl Go.Sx

/-- Two heaps in one. -/
def mergeP : List Part → List Part → List Part
  | [], b => b
  | p :: a, [] => p :: a
  | p :: a, q :: b => if p.lot < q.lot then p :: mergeP a (q :: b) else if q.lot < p.lot then q :: mergeP (p :: a) b else ⟨p.lot, p.mass + q.mass⟩ :: mergeP a b
termination_by a b => a.length + b.length
theorem merge_nil (a : List Part) : mergeP a [] = a := by cases a <;> simp [mergeP]
theorem nil_merge (a : List Part) : mergeP [] a = a := by simp [mergeP]
theorem merge_lt {p q : Part} {a b : List Part} (h : p.lot < q.lot) : mergeP (p :: a) (q :: b) = p :: mergeP a (q :: b) := by simp [mergeP, h]
theorem merge_gt {p q : Part} {a b : List Part} (h : q.lot < p.lot) : mergeP (p :: a) (q :: b) = q :: mergeP (p :: a) b := by
  have h1 : ¬ p.lot < q.lot := by omega
  simp [mergeP, h, h1]
theorem merge_eq {p q : Part} {a b : List Part} (h : p.lot = q.lot) : mergeP (p :: a) (q :: b) = ⟨p.lot, p.mass + q.mass⟩ :: mergeP a b := by
  have h1 : ¬ p.lot < q.lot := by omega
  have h2 : ¬ q.lot < p.lot := by omega
  simp [mergeP, h1, h2]
theorem merge_comm : ∀ n (a b : List Part), a.length + b.length ≤ n → mergeP a b = mergeP b a
  | _, [], b, _ => by rw [nil_merge, merge_nil]
  | _, p :: a, [], _ => by rw [nil_merge, merge_nil]
  | 0, p :: a, q :: b, h => by simp at h
  | n + 1, p :: a, q :: b, h => by
    simp only [List.length_cons] at h
    rcases Int.lt_trichotomy p.lot q.lot with e | e | e
    · rw [merge_lt e, merge_gt e, merge_comm n a (q :: b) (by simp only [List.length_cons]; omega)]
    · rw [merge_eq e, merge_eq e.symm, merge_comm n a b (by omega), e, Int.add_comm]
    · rw [merge_gt e, merge_lt e, merge_comm n (p :: a) b (by simp only [List.length_cons]; omega)]
theorem merge_assoc : ∀ n (a b c : List Part), a.length + b.length + c.length ≤ n → mergeP (mergeP a b) c = mergeP a (mergeP b c)
  | _, [], b, c, _ => by rw [nil_merge, nil_merge]
  | _, p :: a, [], c, _ => by rw [nil_merge, merge_nil]
  | _, p :: a, q :: b, [], _ => by rw [merge_nil, merge_nil]
  | 0, p :: a, q :: b, r :: c, h => by simp at h
  | n + 1, p :: a, q :: b, r :: c, h => by
    simp only [List.length_cons] at h
    have i1 := merge_assoc n a (q :: b) (r :: c) (by simp only [List.length_cons]; omega)
    have i2 := merge_assoc n (p :: a) b (r :: c) (by simp only [List.length_cons]; omega)
    have i3 := merge_assoc n (p :: a) (q :: b) c (by simp only [List.length_cons]; omega)
    have i4 := merge_assoc n a b (r :: c) (by simp only [List.length_cons]; omega)
    have i5 := merge_assoc n a (q :: b) c (by simp only [List.length_cons]; omega)
    have i6 := merge_assoc n (p :: a) b c (by simp only [List.length_cons]; omega)
    have i7 := merge_assoc n a b c (by omega)
    rcases Int.lt_trichotomy p.lot q.lot with e | e | e <;> rcases Int.lt_trichotomy q.lot r.lot with g | g | g <;> rcases Int.lt_trichotomy p.lot r.lot with k | k | k <;> (try (exfalso; omega))
    · rw [merge_lt e, merge_lt k, merge_lt g, merge_lt e, ← merge_lt g, i1]
    · rw [merge_lt e, merge_lt k, merge_eq g, merge_lt (show p.lot < (⟨q.lot, q.mass + r.mass⟩ : Part).lot from e), ← merge_eq g, i1]
    · rw [merge_lt e, merge_lt k, merge_gt g, merge_lt k, ← merge_gt g, i1]
    · rw [merge_lt e, merge_eq k, merge_gt g, merge_eq k, i5]
    · rw [merge_lt e, merge_gt k, merge_gt g, merge_gt k, ← merge_lt e, i3]
    · rw [merge_eq e, merge_lt (q := r) (show (⟨p.lot, p.mass + q.mass⟩ : Part).lot < r.lot from k), merge_lt g, merge_eq e, i4]
    · rw [merge_eq e, merge_eq (q := r) (show (⟨p.lot, p.mass + q.mass⟩ : Part).lot = r.lot from k), merge_eq g, merge_eq (show p.lot = (⟨q.lot, q.mass + r.mass⟩ : Part).lot from e), i7]
      simp only [Int.add_assoc]
    · rw [merge_eq e, merge_gt (q := r) (show r.lot < (⟨p.lot, p.mass + q.mass⟩ : Part).lot from k), merge_gt g, merge_gt k, ← merge_eq e, i3]
    · rw [merge_gt e, merge_lt g, merge_lt g, merge_gt e, i2]
    · rw [merge_gt e, merge_lt g, merge_lt g, merge_gt e, i2]
    · rw [merge_gt e, merge_lt g, merge_lt g, merge_gt e, i2]
    · rw [merge_gt e, merge_eq g, merge_eq g, merge_gt (show (⟨q.lot, q.mass + r.mass⟩ : Part).lot < p.lot from e), i6]
    · rw [merge_gt e, merge_gt g, merge_gt g, merge_gt k, ← merge_gt e, i3]
/-! ### The program's join -/
theorem drop_cons {α : Type} {l : List α} {i : Nat} (h : i < l.length) : l.drop i = l[i] :: l.drop (i + 1) := List.drop_eq_getElem_cons h
theorem F80_loop {a b : List Part} (ha : HeapOk a) (hb : HeapOk b) : ∀ n (out : List Part) i k, i ≤ a.length → k ≤ b.length → (a.length - i) + (b.length - k) < n → out.length + (a.length - i) + (b.length - k) ≤ 100 →
    F80_l1 a b n out (i : Int) (k : Int) = some (out ++ mergeP (a.drop i) (b.drop k))
  | 0, out, i, k, _, _, hn, _ => by omega
  | n + 1, out, i, k, hi, hk, hn, ho => by
    have la := ha.1
    have lb := hb.1
    have app : ∀ x : Part, appC out [x] = some (out ++ [x]) := fun x => by unfold appC; rw [if_pos (by simp only [List.length_cons, List.length_nil]; omega)]
    have eqk : ∀ {x y : Nat}, ((x : Int) == (y : Int)) = decide (x = y) := fun {x y} => by
      by_cases h : x = y
      · simp [h]
      · have : ¬ (x : Int) = y := by omega
        simp [h, this]
    simp only [F80_l1, F80_j1, F80_j2, F80_j3, lt_len, eqk]
    rcases Nat.lt_or_ge i a.length with hia | hia
    · have h1 : a.drop i = a[i] :: a.drop (i + 1) := drop_cons hia
      have pa := ha.2.1 _ (List.getElem_mem hia)
      rcases Nat.lt_or_ge k b.length with hkb | hkb
      · have h2 : b.drop k = b[k] :: b.drop (k + 1) := drop_cons hkb
        have pb := hb.2.1 _ (List.getElem_mem hkb)
        have n1 : ¬ k = b.length := by omega
        have n2 : ¬ i = a.length := by omega
        simp only [hia, hkb, n1, n2, decide_true, decide_false, cond_true, cond_false, getI_nat hia, getI_nat hkb, Option.bind_some, app, succ_w (i := i) (by omega), succ_w (i := k) (by omega)]
        rcases Int.lt_trichotomy a[i].lot b[k].lot with e | e | e
        · have e' : ¬ b[k].lot < a[i].lot := by omega
          simp only [e, e', decide_true, decide_false, cond_true, cond_false]
          rw [F80_loop ha hb n (out ++ [a[i]]) (i + 1) k (by omega) hk (by omega) (by simp only [List.length_append, List.length_cons, List.length_nil]; omega), h1, h2, merge_lt e, ← h2, List.append_assoc]
          rfl
        · have e1 : ¬ a[i].lot < b[k].lot := by omega
          have e2 : ¬ b[k].lot < a[i].lot := by omega
          have := pa.m0; have := pa.m1; have := pb.m0; have := pb.m1
          simp only [e1, e2, decide_true, decide_false, cond_true, cond_false, w64_id (n := a[i].mass + b[k].mass) (by omega) (by omega)]
          rw [F80_loop ha hb n (out ++ [(⟨a[i].lot, a[i].mass + b[k].mass⟩ : Part)]) (i + 1) (k + 1) (by omega) (by omega) (by omega) (by simp only [List.length_append, List.length_cons, List.length_nil]; omega), h1, h2, merge_eq e, List.append_assoc]
          rfl
        · have e1 : ¬ a[i].lot < b[k].lot := by omega
          simp only [e, e1, decide_true, decide_false, cond_true, cond_false]
          rw [F80_loop ha hb n (out ++ [b[k]]) i (k + 1) hi (by omega) (by omega) (by simp only [List.length_append, List.length_cons, List.length_nil]; omega), h1, h2, merge_gt e, ← h1, List.append_assoc]
          rfl
      · have n1 : k = b.length := by omega
        simp only [hia, n1, decide_true, cond_true, getI_nat hia, Option.bind_some, app, succ_w (i := i) (by omega)]
        have := F80_loop ha hb n (out ++ [a[i]]) (i + 1) k (by omega) hk (by omega) (by simp only [List.length_append, List.length_cons, List.length_nil]; omega)
        rw [n1] at this
        rw [this, h1, List.drop_length, merge_nil, merge_nil, List.append_assoc]
        rfl
    · have n2 : i = a.length := by omega
      have n2' : ¬ i < a.length := by omega
      rcases Nat.lt_or_ge k b.length with hkb | hkb
      · have h2 : b.drop k = b[k] :: b.drop (k + 1) := drop_cons hkb
        have n1 : ¬ k = b.length := by omega
        simp only [n2', hkb, n1, decide_true, decide_false, cond_true, cond_false, n2, getI_nat hkb, Option.bind_some, app, succ_w (i := k) (by omega), Nat.lt_irrefl]
        have := F80_loop ha hb n (out ++ [b[k]]) i (k + 1) hi (by omega) (by omega) (by simp only [List.length_append, List.length_cons, List.length_nil]; omega)
        rw [n2] at this
        rw [this, h2, List.drop_length, nil_merge, nil_merge, List.append_assoc]
        rfl
      · have n1 : k = b.length := by omega
        simp [n1, n2, nil_merge]
theorem F80_eq {f : Nat} {a b : List Part} (ha : HeapOk a) (hb : HeapOk b) (hf : 90 < f) : F80 f a b = some (mergeP a b) := by
  have := F80_loop ha hb f [] 0 0 (by omega) (by omega) (by have := ha.1; have := hb.1; omega) (by have := ha.1; have := hb.1; simp; omega)
  simpa [F80] using this
end Go.Proofs.Ytlmgjjmighajdaa
