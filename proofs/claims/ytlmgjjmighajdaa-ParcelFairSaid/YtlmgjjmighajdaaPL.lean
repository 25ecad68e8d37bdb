/-
  What is taken from a heap, and what is left: they are heaps, and in one they are the heap. No condition.
-/
import Derived.Test.YtlmgjjmighajdaaPI
set_option linter.unusedSimpArgs false
set_option linter.unusedVariables false
namespace Go.Proofs.Ytlmgjjmighajdaa
open Go.Sl Go.Sx
/-! ### The numbers that are dealt -/
theorem set_sum : ∀ {l : List Int} {i : Nat} (h : i < l.length), (l.set i (l[i] + 1)).sum = l.sum + 1
  | x :: l, 0, _ => by simp only [List.set_cons_zero, List.sum_cons, List.getElem_cons_zero]; omega
  | x :: l, i + 1, h => by
    have := set_sum (l := l) (i := i) (by simpa using h)
    simp only [List.set_cons_succ, List.sum_cons, List.getElem_cons_succ]; omega
theorem outS_sum (m : Int) (a : List Int) : ∀ (D2 D1 : List Int), (∀ x ∈ D1 ++ D2, x ∈ places a.length) → (D1 ++ D2).Nodup → (outS m a (D1 ++ D2)).sum = (outS m a D1).sum + D2.length
  | [], D1, _, _ => by simp
  | p :: D2, D1, h1, h2 => by
    have e : D1 ++ p :: D2 = (D1 ++ [p]) ++ D2 := by simp
    rw [e] at h1 h2 ⊢
    have hp : p ∈ places a.length := h1 p (by simp)
    have hnot : p ∉ D1 := fun hm => by
      have := (List.nodup_append.1 ((List.nodup_append.1 h2).1)).2.2 p hm p (by simp)
      exact this rfl
    obtain ⟨g, st⟩ := outS_set (m := m) (D := D1) hp hnot
    have hb := mem_places.1 hp
    have hi : p.toNat < (outS m a D1).length := by rw [outS_len]; omega
    have e1 : outS m a (D1 ++ [p]) = (outS m a D1).set p.toNat ((outS m a D1)[p.toNat] + 1) := by
      have hg : (outS m a D1)[p.toNat] = baseS m a p.toNat := by
        have h3 := (getI_spec g).2
        rw [List.getElem?_eq_getElem hi] at h3
        exact Option.some.inj h3
      rw [hg]
      exact (setI_spec st).2
    rw [outS_sum m a D2 (D1 ++ [p]) h1 h2, e1, set_sum hi]
    simp only [List.length_cons]; omega
theorem deal_sum {m : Int} {a : List Int} (h : DealOk m a) : (dealS m a).sum = m := by
  rw [← outS_deal]
  have hperm := orderS_perm m a.sum a
  have hnod : (orderS m a.sum a).Nodup := hperm.nodup_iff.2 ((places_rising _).imp fun h => by omega)
  obtain ⟨hb0, hb1, _⟩ := left_bounds h
  have := outS_sum m a ((orderS m a.sum a).take (leftS m a).toNat) [] (fun x hx => hperm.mem_iff.1 (List.mem_of_mem_take (by simpa using hx))) (hnod.sublist (List.take_sublist _ _))
  rw [List.nil_append, outS_nil, List.length_take, orderS_len] at this
  rw [this]
  unfold leftS at *
  omega
theorem deal_at {m : Int} {a : List Int} {i : Nat} (hi : i < a.length) : (dealS m a)[i]'(by rw [dealS_len]; exact hi) = baseS m a i + (if rank m a.sum a (i : Int) < (leftS m a).toNat then 1 else 0) := by simp [dealS]
theorem rem_at {m : Int} {a : List Int} {i : Nat} (hi : i < a.length) : rem_ m a.sum a (i : Int) = m * a[i] % a.sum := by
  unfold rem_
  have e : ((i : Int)).toNat = i := by omega
  rw [e, getD_mem hi]
/-- Whoever gets one more has a remainder. -/
theorem extra_rem {m : Int} {a : List Int} (h : DealOk m a) {i : Nat} (hi : i < a.length) (hr : rank m a.sum a (i : Int) < (leftS m a).toNat) : 0 < rem_ m a.sum a (i : Int) := by
  have hs := h.s0
  have hnn : ∀ j, 0 ≤ rem_ m a.sum a j := fun j => Int.emod_nonneg _ (by omega)
  have hlt : ∀ j, rem_ m a.sum a j < a.sum := fun j => Int.emod_lt_of_pos _ hs
  rcases Int.lt_or_le 0 (rem_ m a.sum a (i : Int)) with h0 | h0
  · exact h0
  · exfalso
    have hz : rem_ m a.sum a (i : Int) = 0 := by have := hnn i; omega
    -- whoever has a remainder comes ahead
    have hc : (places a.length).countP (fun j => decide (0 < rem_ m a.sum a j)) ≤ rank m a.sum a (i : Int) := by
      unfold rank
      refine List.countP_mono_left fun j hj hp => ?_
      simp only [decide_eq_true_eq] at hp ⊢
      unfold ahead
      omega
    have hsum : ∀ l : List Int, (l.map fun j => rem_ m a.sum a j).sum ≤ (a.sum - 1) * (l.countP (fun j => decide (0 < rem_ m a.sum a j)) : Nat) := by
      intro l
      induction l with
      | nil => simp
      | cons j l ih =>
        simp only [List.map_cons, List.sum_cons]
        by_cases hp : 0 < rem_ m a.sum a j
        · rw [List.countP_cons_of_pos (by simpa using hp)]
          have := hlt j
          have e : (a.sum - 1) * ((l.countP (fun j => decide (0 < rem_ m a.sum a j)) + 1 : Nat) : Int) = (a.sum - 1) * (l.countP (fun j => decide (0 < rem_ m a.sum a j)) : Nat) + (a.sum - 1) := by push_cast; grind
          omega
        · rw [List.countP_cons_of_neg (by simpa using hp)]
          have := hnn j
          omega
    have h1 := hsum (places a.length)
    have e1 : (places a.length).map (fun j => rem_ m a.sum a j) = a.map fun x => m * x % a.sum := by
      refine List.ext_getElem (by simp [places]) fun k h1 h2 => ?_
      rw [List.getElem_map, List.getElem_map]
      have hk : k < a.length := by simpa [places] using h1
      rw [places_at hk]
      exact rem_at hk
    rw [e1] at h1
    obtain ⟨hb0, hb1, e2⟩ := left_bounds h
    rw [← e2] at h1
    have h3 : (a.sum - 1) * ((places a.length).countP (fun j => decide (0 < rem_ m a.sum a j)) : Nat) ≤ (a.sum - 1) * (leftS m a - 1) := Int.mul_le_mul_of_nonneg_left (by omega) (by omega)
    have h4 : (a.sum - 1) * (leftS m a - 1) = a.sum * leftS m a - leftS m a - a.sum + 1 := by grind
    omega
theorem deal_le {m : Int} {a : List Int} (h : DealOk m a) (hm : m ≤ a.sum) {i : Nat} (hi : i < a.length) : (dealS m a)[i]'(by rw [dealS_len]; exact hi) ≤ a[i] := by
  rw [deal_at hi]
  have hs := h.s0
  have h0 := h.nn _ (List.getElem_mem hi)
  have e := Int.mul_ediv_add_emod (m * a[i]) a.sum
  have hb : baseS m a i = m * a[i] / a.sum := by unfold baseS; rw [getD_mem hi]
  have hle : m * a[i] ≤ a.sum * a[i] := Int.mul_le_mul_of_nonneg_right hm h0
  split
  · rename_i hr
    have hrem := extra_rem h hi hr
    rw [rem_at hi] at hrem
    rw [hb]
    rcases Int.lt_or_le (m * a[i] / a.sum) a[i] with hl | hl
    · omega
    · have : a.sum * a[i] ≤ a.sum * (m * a[i] / a.sum) := Int.mul_le_mul_of_nonneg_left hl (by omega)
      omega
  · rw [hb]
    rcases Int.lt_or_le a[i] (m * a[i] / a.sum) with hl | hl
    · have h1 : a.sum * (a[i] + 1) ≤ a.sum * (m * a[i] / a.sum) := Int.mul_le_mul_of_nonneg_left (by omega) (by omega)
      have h2 := Int.emod_nonneg (m * a[i]) (show a.sum ≠ 0 by omega)
      have h3 : a.sum * (a[i] + 1) = a.sum * a[i] + a.sum := by grind
      omega
    · omega
/-! ### In one they are the heap -/
inductive Fits : List Part → List Int → Prop
  | nil : Fits [] []
  | cons {p : Part} {h : List Part} {n : Int} {d : List Int} (h0 : 0 ≤ n) (h1 : n ≤ p.mass) (hp : 1 ≤ p.mass) (k : Fits h d) : Fits (p :: h) (n :: d)
theorem Fits.of : ∀ {h : List Part} {d : List Int}, d.length = h.length → (∀ i (hi : i < h.length) (hd : i < d.length), 0 ≤ d[i] ∧ d[i] ≤ h[i].mass ∧ 1 ≤ h[i].mass) → Fits h d
  | [], [], _, _ => .nil
  | [], _ :: _, e, _ => by cases e
  | _ :: _, [], e, _ => by cases e
  | p :: h, n :: d, e, k => by
    have k0 := k 0 (by simp) (by simp)
    exact .cons k0.1 k0.2.1 k0.2.2 (Fits.of (by simpa using e) fun i hi hd => k (i + 1) (by simpa using hi) (by simpa using hd))
theorem taken_lots : ∀ {h : List Part} {d : List Int} {q : Part}, q ∈ takenL h d → ∃ p ∈ h, p.lot = q.lot
  | [], _, q, hq => by simp [takenL] at hq
  | _ :: _, [], q, hq => by simp [takenL] at hq
  | p :: h, n :: d, q, hq => by
    simp only [takenL] at hq
    rcases List.mem_append.1 hq with hq | hq
    · split at hq
      · simp only [List.mem_singleton] at hq; subst hq; exact ⟨p, by simp, rfl⟩
      · cases hq
    · obtain ⟨p', hp, e⟩ := taken_lots hq
      exact ⟨p', List.mem_cons_of_mem _ hp, e⟩
theorem left_lots : ∀ {h : List Part} {d : List Int} {q : Part}, q ∈ leftL h d → ∃ p ∈ h, p.lot = q.lot
  | [], _, q, hq => by simp [leftL] at hq
  | _ :: _, [], q, hq => by simp [leftL] at hq
  | p :: h, n :: d, q, hq => by
    simp only [leftL] at hq
    rcases List.mem_append.1 hq with hq | hq
    · split at hq
      · simp only [List.mem_singleton] at hq; subst hq; exact ⟨p, by simp, rfl⟩
      · cases hq
    · obtain ⟨p', hp, e⟩ := left_lots hq
      exact ⟨p', List.mem_cons_of_mem _ hp, e⟩
theorem merge_r {p : Part} : ∀ {t l : List Part}, (∀ x ∈ t, p.lot < x.lot) → mergeP t (p :: l) = p :: mergeP t l
  | [], l, _ => by rw [nil_merge, nil_merge]
  | x :: t, l, h => merge_gt (h x (by simp))
theorem merge_l {p : Part} : ∀ {t l : List Part}, (∀ x ∈ l, p.lot < x.lot) → mergeP (p :: t) l = p :: mergeP t l
  | t, [], _ => by rw [merge_nil, merge_nil]
  | t, x :: l, h => merge_lt (h x (by simp))
theorem merge_split : ∀ {h : List Part} {d : List Int}, Fits h d → (h.Pairwise fun a b => a.lot < b.lot) → mergeP (takenL h d) (leftL h d) = h
  | _, _, .nil, _ => by simp [takenL, leftL, nil_merge]
  | p :: h, n :: d, .cons h0 h1 hp k, hr => by
    have hr' := List.pairwise_cons.1 hr
    have ih := merge_split k hr'.2
    have ht : ∀ x ∈ takenL h d, p.lot < x.lot := fun x hx => by obtain ⟨q, hq, e⟩ := taken_lots hx; rw [← e]; exact hr'.1 q hq
    have hl : ∀ x ∈ leftL h d, p.lot < x.lot := fun x hx => by obtain ⟨q, hq, e⟩ := left_lots hx; rw [← e]; exact hr'.1 q hq
    simp only [takenL, leftL]
    by_cases c1 : n > 0 <;> by_cases c2 : n < p.mass
    · simp only [c1, c2, if_true, List.singleton_append]
      rw [merge_eq (show (⟨p.lot, n⟩ : Part).lot = (⟨p.lot, p.mass - n⟩ : Part).lot from rfl), ih]
      have e : n + (p.mass - n) = p.mass := by omega
      simp only [e]
    · have e : n = p.mass := by omega
      simp only [c1, c2, if_true, if_false, List.singleton_append, List.nil_append]
      rw [merge_l (p := ⟨p.lot, n⟩) hl, ih, e]
    · have e : n = 0 := by omega
      simp only [c1, c2, if_true, if_false, List.singleton_append, List.nil_append]
      rw [merge_r (p := ⟨p.lot, p.mass - n⟩) ht, ih, e, Int.sub_zero]
    · omega
theorem taken_sum : ∀ {h : List Part} {d : List Int}, Fits h d → sumM (takenL h d) = d.sum
  | _, _, .nil => by simp [takenL, sumM]
  | p :: h, n :: d, .cons h0 h1 hp k => by
    have ih := taken_sum k
    simp only [takenL, List.sum_cons, sumM_app, ih]
    split
    · simp [sumM]
    · simp [sumM]; omega
theorem taken_part : ∀ {h : List Part} {d : List Int}, Fits h d → (∀ p ∈ h, PartOk p) → ∀ q ∈ takenL h d, PartOk q
  | _, _, .nil, _, q, hq => by simp [takenL] at hq
  | p :: h, n :: d, .cons h0 h1 hp k, hk, q, hq => by
    simp only [takenL] at hq
    rcases List.mem_append.1 hq with hq | hq
    · split at hq
      · have hp' := hk p (by simp)
        simp only [List.mem_singleton] at hq; subst hq
        exact ⟨hp'.l0, hp'.l1, by simp only; omega, by have := hp'.m1; simp only; omega⟩
      · cases hq
    · exact taken_part k (fun p hp => hk p (List.mem_cons_of_mem _ hp)) q hq
theorem left_part : ∀ {h : List Part} {d : List Int}, Fits h d → (∀ p ∈ h, PartOk p) → ∀ q ∈ leftL h d, PartOk q
  | _, _, .nil, _, q, hq => by simp [leftL] at hq
  | p :: h, n :: d, .cons h0 h1 hp k, hk, q, hq => by
    simp only [leftL] at hq
    rcases List.mem_append.1 hq with hq | hq
    · split at hq
      · have hp' := hk p (by simp)
        simp only [List.mem_singleton] at hq; subst hq
        exact ⟨hp'.l0, hp'.l1, by simp only; omega, by have := hp'.m1; simp only; omega⟩
      · cases hq
    · exact left_part k (fun p hp => hk p (List.mem_cons_of_mem _ hp)) q hq
theorem left_sum : ∀ {h : List Part} {d : List Int}, Fits h d → sumM (leftL h d) = sumM h - d.sum
  | _, _, .nil => by simp [leftL, sumM]
  | p :: h, n :: d, .cons h0 h1 hp k => by
    have ih := left_sum k
    have e : sumM (p :: h) = p.mass + sumM h := by simp [sumM]
    simp only [leftL, List.sum_cons, sumM_app, ih, e]
    split
    · simp [sumM]; omega
    · simp [sumM]; omega
theorem taken_len : ∀ (h : List Part) (d : List Int), (takenL h d).length ≤ h.length
  | [], _ => by simp [takenL]
  | _ :: _, [] => by simp [takenL]
  | p :: h, n :: d => by
    have := taken_len h d
    simp only [takenL, List.length_append, List.length_cons]
    split <;> simp <;> omega
theorem left_len : ∀ (h : List Part) (d : List Int), (leftL h d).length ≤ h.length
  | [], _ => by simp [leftL]
  | _ :: _, [] => by simp [leftL]
  | p :: h, n :: d => by
    have := left_len h d
    simp only [leftL, List.length_append, List.length_cons]
    split <;> simp <;> omega
theorem taken_rise : ∀ {h : List Part} {d : List Int}, (h.Pairwise fun a b => a.lot < b.lot) → (takenL h d).Pairwise fun a b => a.lot < b.lot
  | [], _, _ => by simp [takenL]
  | _ :: _, [], _ => by simp [takenL]
  | p :: h, n :: d, hr => by
    have hr' := List.pairwise_cons.1 hr
    have ih := taken_rise (d := d) hr'.2
    simp only [takenL]
    split
    · exact List.pairwise_cons.2 ⟨fun x hx => by obtain ⟨q, hq, e⟩ := taken_lots hx; rw [← e]; exact hr'.1 q hq, ih⟩
    · exact ih
theorem left_rise : ∀ {h : List Part} {d : List Int}, (h.Pairwise fun a b => a.lot < b.lot) → (leftL h d).Pairwise fun a b => a.lot < b.lot
  | [], _, _ => by simp [leftL]
  | _ :: _, [], _ => by simp [leftL]
  | p :: h, n :: d, hr => by
    have hr' := List.pairwise_cons.1 hr
    have ih := left_rise (d := d) hr'.2
    simp only [leftL]
    split
    · exact List.pairwise_cons.2 ⟨fun x hx => by obtain ⟨q, hq, e⟩ := left_lots hx; rw [← e]; exact hr'.1 q hq, ih⟩
    · exact ih
theorem fits_heap {h : List Part} {m : Int} (hk : HeapOk h) (hm0 : 0 ≤ m) (hm : m ≤ sumM h) (hl : h.length < 20) : Fits h (dealH m h) ∧ (dealH m h).sum = (if h = [] then 0 else m) := by
  unfold dealH
  split
  · rename_i e; subst e; exact ⟨.nil, rfl⟩
  · rename_i e
    have hd := dealOk_heap hk e hm0 hm hl
    refine ⟨Fits.of (by rw [dealS_len]; simp [massesL]) fun i hi hdi => ?_, deal_sum hd⟩
    have hi2 : i < (massesL h).length := by simpa [massesL] using hi
    have e2 : (massesL h)[i] = h[i].mass := by simp [massesL]
    exact ⟨(deal_bounds hd hi2).1, e2 ▸ deal_le hd (by rw [sum_masses]; exact hm) hi2, (hk.2.1 _ (List.getElem_mem hi)).m0⟩
theorem taken_ok {h : List Part} {m : Int} (hk : HeapOk h) (hm0 : 0 ≤ m) (hm : m ≤ sumM h) (hl : h.length < 20) : HeapOk (takenL h (dealH m h)) := by
  obtain ⟨hf, hs⟩ := fits_heap hk hm0 hm hl
  refine ⟨by have := taken_len h (dealH m h); have := hk.1; omega, taken_part hf hk.2.1, taken_rise hk.2.2.1, ?_⟩
  rw [taken_sum hf, hs]
  have := hk.2.2.2
  split <;> omega
theorem left_ok {h : List Part} {m : Int} (hk : HeapOk h) (hm0 : 0 ≤ m) (hm : m ≤ sumM h) (hl : h.length < 20) : HeapOk (leftL h (dealH m h)) := by
  obtain ⟨hf, hs⟩ := fits_heap hk hm0 hm hl
  refine ⟨by have := left_len h (dealH m h); have := hk.1; omega, left_part hf hk.2.1, left_rise hk.2.2.1, ?_⟩
  rw [left_sum hf, hs]
  have := hk.2.2.2
  split <;> omega
end Go.Proofs.Ytlmgjjmighajdaa
