/-
  Dealing a mass: the result. No condition.
-/
import Derived.Test.YtlmgjjmighajdaaPF
set_option linter.unusedSimpArgs false
set_option linter.unusedVariables false
namespace Go.Proofs.Ytlmgjjmighajdaa
open Go.Sl Go.Sx
theorem baseL_len (m : Int) (a : List Int) : (baseL m a).length = a.length := by simp [baseL]
theorem places_len (n : Nat) : (places n).length = n := by simp [places]
theorem baseL_at {m : Int} {a : List Int} {i : Nat} (h : i < a.length) : (baseL m a)[i]'(by rw [baseL_len]; exact h) = baseS m a i := by
  unfold baseL baseS
  rw [List.getElem_map, getD_mem h]
theorem places_at {n i : Nat} (h : i < n) : (places n)[i]'(by rw [places_len]; exact h) = (i : Int) := by simp [places]
theorem sum_take_bound {m : Int} (hm : 0 ≤ m) : ∀ {l : List Int}, (∀ x ∈ l, 0 ≤ x ∧ x ≤ m) → 0 ≤ l.sum ∧ l.sum ≤ m * l.length
  | [], _ => by simp
  | x :: l, h => by
    have ih := sum_take_bound hm (l := l) fun y hy => h y (List.mem_cons_of_mem _ hy)
    have hx := h x (by simp)
    simp only [List.sum_cons, List.length_cons]
    have e : m * ((l.length + 1 : Nat) : Int) = m * l.length + m := by push_cast; grind
    omega
theorem base_mem {m : Int} {a : List Int} (h : DealOk m a) : ∀ x ∈ baseL m a, 0 ≤ x ∧ x ≤ m := fun x hx => by
  obtain ⟨i, hi, rfl⟩ := List.getElem_of_mem hx
  rw [baseL_len] at hi
  rw [baseL_at hi]
  exact base_bounds h hi
theorem F127_l2_eq {f : Nat} {m : Int} {a : List Int} (h : DealOk m a) : ∀ k i n, i + k = a.length → k < n →
    F127_l2 f m a a.sum n ((baseL m a).take i ++ List.replicate k 0) ((places a.length).take i ++ List.replicate k 0) (m - ((baseL m a).take i).sum) (i : Int) = F127_l3 f m a a.sum (baseL m a) (places a.length) (leftS m a) f (places a.length) 0 20
  | _, _, 0, _, hn => by omega
  | 0, i, n + 1, hi, _ => by
    have hlt : decide ((i : Int) < (a.length : Int)) = false := by simpa using (show (a.length : Int) ≤ i by omega)
    simp only [F127_l2, hlt, cond_false, List.replicate_zero, List.append_nil]
    rw [List.take_of_length_le (by rw [baseL_len]; omega), List.take_of_length_le (by rw [places_len]; omega)]
    rfl
  | k + 1, i, n + 1, hi, hn => by
    have hia : i < a.length := by omega
    have hb := base_bounds h hia
    have hp := prod_bounds h hia
    have hlen := h.len
    have hs : a.sum ≠ 0 := by have := h.s0; omega
    have hm1 := h.m1
    have hm0 := h.m0
    have l1 : ((baseL m a).take i).length = i := by rw [List.length_take, baseL_len]; omega
    have l2 : ((places a.length).take i).length = i := by rw [List.length_take, places_len]; omega
    have eb : w64 (Int.tdiv (w64 (m * a[i])) a.sum) = baseS m a i := by
      have e3 : w64 (m * a[i]) = m * a[i] := w64_id (by omega) (by omega)
      rw [e3, Int.tdiv_eq_ediv_of_nonneg hp.1]
      have e2 : m * a[i] / a.sum = baseS m a i := by unfold baseS; rw [getD_mem hia]
      rw [e2, w64_id (by omega) (by omega)]
    have hsum := sum_take_bound h.m0 (l := (baseL m a).take i) fun x hx => base_mem h x (List.mem_of_mem_take hx)
    rw [l1] at hsum
    have hmi : m * (i : Int) ≤ 100000000 * 20 := Int.mul_le_mul hm1 (by omega) (by omega) (by omega)
    have s1 : setI ((baseL m a).take i ++ 0 :: List.replicate k 0) (i : Int) (baseS m a i) = some ((baseL m a).take i ++ baseS m a i :: List.replicate k 0) := setI_mid (by rw [l1])
    have s2 : setI ((places a.length).take i ++ 0 :: List.replicate k 0) (i : Int) (i : Int) = some ((places a.length).take i ++ (i : Int) :: List.replicate k 0) := setI_mid (by rw [l2])
    have g1 : getI ((baseL m a).take i ++ 0 :: List.replicate k 0) (i : Int) = some 0 := getI_mid (by rw [l1])
    have g2 : getI ((places a.length).take i ++ 0 :: List.replicate k 0) (i : Int) = some 0 := getI_mid (by rw [l2])
    have g3 : getI ((baseL m a).take i ++ baseS m a i :: List.replicate k 0) (i : Int) = some (baseS m a i) := getI_mid (by rw [l1])
    have t1 : (baseL m a).take (i + 1) = (baseL m a).take i ++ [baseS m a i] := by
      rw [List.take_succ_eq_append_getElem (by rw [baseL_len]; exact hia), baseL_at hia]
    have t2 : (places a.length).take (i + 1) = (places a.length).take i ++ [(i : Int)] := by
      rw [List.take_succ_eq_append_getElem (by rw [places_len]; exact hia), places_at hia]
    simp only [F127_l2, lt_len, hia, decide_true, cond_true, getI_nat hia, Option.bind_some, nzS hs, List.replicate_succ, g1, eb, s1, g2, s2, g3]
    have ih := F127_l2_eq (f := f) h k (i + 1) n (by omega) (by omega)
    rw [t1, t2, sum_app] at ih
    simp only [List.append_assoc, List.singleton_append, List.sum_cons, List.sum_nil, Int.add_zero] at ih
    rw [succ_w (by omega), w64_id (by omega) (by omega)]
    have e : m - ((baseL m a).take i).sum - baseS m a i = m - (((baseL m a).take i).sum + baseS m a i) := by omega
    rw [e]
    exact ih
/-! ### What is left goes to the first -/
def outS (m : Int) (a D : List Int) : List Int := (List.range a.length).map fun i : Nat => baseS m a i + (if (i : Int) ∈ D then 1 else 0)
theorem outS_len (m : Int) (a D : List Int) : (outS m a D).length = a.length := by simp [outS]
theorem outS_at {m : Int} {a D : List Int} {i : Nat} (h : i < a.length) : (outS m a D)[i]'(by rw [outS_len]; exact h) = baseS m a i + (if (i : Int) ∈ D then 1 else 0) := by simp [outS]
theorem outS_nil (m : Int) (a : List Int) : outS m a [] = baseL m a := by
  refine List.ext_getElem (by rw [outS_len, baseL_len]) fun i h1 h2 => ?_
  rw [outS_len] at h1
  rw [outS_at h1, baseL_at h1]
  simp
theorem outS_set {m : Int} {a D : List Int} {p : Int} (hp : p ∈ places a.length) (hD : p ∉ D) : getI (outS m a D) p = some (baseS m a p.toNat) ∧ setI (outS m a D) p (baseS m a p.toNat + 1) = some (outS m a (D ++ [p])) := by
  have hb := mem_places.1 hp
  have hi : p.toNat < a.length := by omega
  have hpn : ((p.toNat : Nat) : Int) = p := Int.toNat_of_nonneg hb.1
  constructor
  · have := getI_nat (xs := outS m a D) (i := p.toNat) (by rw [outS_len]; exact hi)
    rw [hpn] at this
    rw [this, outS_at hi, hpn, if_neg hD, Int.add_zero]
  · unfold setI
    rw [if_pos ⟨hb.1, by rw [outS_len]; exact hb.2⟩]
    congr 1
    refine List.ext_getElem (by simp [outS]) fun i h1 h2 => ?_
    rw [outS_len] at h2
    rw [outS_at h2]
    by_cases e : p.toNat = i
    · subst e
      rw [List.getElem_set_self, hpn]
      simp
    · rw [List.getElem_set_ne e, outS_at h2]
      have : (i : Int) ≠ p := fun k => e (by omega)
      simp [this]
theorem F127_l10_eq {m : Int} {a d5 : List Int} (h : DealOk m a) (hd : ∀ x ∈ d5, x ∈ places a.length) (hn : d5.Nodup) (hl : d5.length ≤ 20) : ∀ n j, j ≤ d5.length → d5.length - j < n → F127_l10 d5 n (outS m a (d5.take j)) (j : Int) = some (outS m a d5)
  | 0, j, _, hn => by omega
  | n + 1, j, hj, hn' => by
    rcases Nat.lt_or_ge j d5.length with hlt | hge
    · have hp := hd _ (List.getElem_mem hlt)
      have hnot : d5[j] ∉ d5.take j := fun hm => by
        obtain ⟨i, hi, e⟩ := List.getElem_of_mem hm
        rw [List.getElem_take] at e
        rw [List.length_take] at hi
        have := (List.getElem_inj hn).1 e
        omega
      obtain ⟨g, st⟩ := outS_set (m := m) (D := d5.take j) hp hnot
      have hb := mem_places.1 hp
      have hbb := base_bounds h (i := d5[j].toNat) (by omega)
      have hm1 := h.m1
      simp only [F127_l10, lt_len, hlt, decide_true, cond_true, getI_nat hlt, Option.bind_some, g]
      rw [w64_id (n := baseS m a d5[j].toNat + 1) (by omega) (by omega), st]
      simp only [Option.bind_some]
      rw [succ_w (by omega), ← List.take_succ_eq_append_getElem hlt]
      exact F127_l10_eq h hd hn hl n (j + 1) (by omega) (by omega)
    · have : j = d5.length := by omega
      subst this
      simp [F127_l10]
theorem orderS_len (m s : Int) (a : List Int) : (orderS m s a).length = a.length := by rw [(orderS_perm m s a).length_eq, places_len]
theorem outS_deal (m : Int) (a : List Int) : outS m a ((orderS m a.sum a).take (leftS m a).toNat) = dealS m a := by
  refine List.ext_getElem (by simp [outS, dealS]) fun i h1 h2 => ?_
  rw [outS_len] at h1
  have e2 : (dealS m a)[i] = baseS m a i + (if rank m a.sum a (i : Int) < (leftS m a).toNat then 1 else 0) := by simp [dealS]
  rw [outS_at h1, e2]
  congr 1
  have hp : (i : Int) ∈ places a.length := mem_places.2 ⟨by omega, by omega⟩
  have := first_iff m a.sum a hp (leftS m a).toNat
  by_cases hr : rank m a.sum a (i : Int) < (leftS m a).toNat
  · rw [if_pos (this.2 hr), if_pos hr]
  · rw [if_neg fun k => hr (this.1 k), if_neg hr]
theorem F127_l1_eq {f : Nat} {m : Int} {a : List Int} (hnn : ∀ x ∈ a, 0 ≤ x) (hs : a.sum ≤ 100000000) (hl : a.length < 20) : ∀ n i, i ≤ a.length → a.length - i < n → F127_l1 f m a n (a.take i).sum (i : Int) = F127_j1 f m a a.sum (List.replicate a.length 0)
  | 0, i, _, hn => by omega
  | n + 1, i, hi, hn => by
    rcases Nat.lt_or_ge i a.length with hlt | hge
    · have e : (a.take (i + 1)).sum = (a.take i).sum + a[i] := by rw [List.take_succ_eq_append_getElem hlt, sum_app]; simp
      have b1 := sum_nonneg (a := a.take (i + 1)) fun x hx => hnn x (List.mem_of_mem_take hx)
      have b2 : a.sum = (a.take (i + 1)).sum + (a.drop (i + 1)).sum := by rw [← sum_app, List.take_append_drop]
      have b3 := sum_nonneg (a := a.drop (i + 1)) fun x hx => hnn x (List.mem_of_mem_drop hx)
      simp only [F127_l1, lt_len, hlt, decide_true, cond_true, getI_nat hlt, Option.bind_some]
      rw [succ_w (by omega), ← e, w64_id (by omega) (by omega)]
      exact F127_l1_eq hnn hs hl n (i + 1) (by omega) (by omega)
    · have : i = a.length := by omega
      subst this
      have hmk : mkC (a.length : Int) (0 : Int) = some (List.replicate a.length 0) := by unfold mkC; rw [if_pos (by omega)]; simp
      simp [F127_l1, hmk]
/-- **What the program's deal reckons.** -/
theorem F127_eq {f : Nat} {m : Int} {a : List Int} (h : DealOk m a) (hf : 100 < f) : F127 f m a = some (dealS m a) := by
  have hlen := h.len
  unfold F127
  have e1 := F127_l1_eq (f := f) (m := m) h.nn h.s1 h.len f 0 (by omega) (by omega)
  simp only [List.take_zero, List.sum_nil] at e1
  have e0 : ((0 : Nat) : Int) = 0 := rfl
  rw [e0] at e1
  rw [e1]
  unfold F127_j1
  have hs : (a.sum == 0) = false := by simpa using (show ¬ a.sum = 0 by have := h.s0; omega)
  rw [hs, cond_false]
  have e2 := F127_l2_eq (f := f) h a.length 0 f (by omega) (by omega)
  simp only [List.take_zero, List.sum_nil, List.nil_append, Int.sub_zero] at e2
  rw [e0] at e2
  rw [e2, sorted_places h hf]
  obtain ⟨hb0, hb1, _⟩ := left_bounds h
  have hpl : (places a.length).length = a.length := places_len _
  obtain ⟨n, rfl⟩ : ∃ n, f = n + 1 := ⟨f - 1, by omega⟩
  have h20 : decide ((20 : Int) < ((places a.length).length : Int)) = false := by rw [hpl]; simpa using (show (a.length : Int) ≤ 20 by omega)
  simp only [F127_l8, h20, cond_false]
  have hsub : subI (orderS m a.sum a) 0 (leftS m a) = some ((orderS m a.sum a).take (leftS m a).toNat) := by
    unfold subI
    rw [if_pos ⟨by omega, hb0, by rw [orderS_len]; exact hb1⟩]
    simp
  rw [hsub]
  simp only [Option.bind_some]
  have hperm := orderS_perm m a.sum a
  have hnod : (orderS m a.sum a).Nodup := hperm.nodup_iff.2 ((places_rising _).imp fun h => by omega)
  have e3 := F127_l10_eq h (d5 := (orderS m a.sum a).take (leftS m a).toNat) (fun x hx => hperm.mem_iff.1 (List.mem_of_mem_take hx)) (hnod.sublist (List.take_sublist _ _)) (by rw [List.length_take, orderS_len]; omega) (n + 1) 0 (by omega) (by rw [List.length_take, orderS_len]; omega)
  rw [List.take_zero, outS_nil] at e3
  rw [e0] at e3
  rw [e3, outS_deal]
end Go.Proofs.Ytlmgjjmighajdaa
