/-
  The statement ParcelFair, of the plain function that its walk computes. No condition.
-/
import Derived.Test.YtlmgjjmighajdaaT7
import Derived.Test.YtlmgjjmighajdaaPK
import Derived.Test.YtlmgjjmighajdaaPL
set_option linter.unusedSimpArgs false
set_option linter.unusedVariables false
namespace Go.Proofs.Ytlmgjjmighajdaa
open Go.Sl Go.Sx
theorem F35_eq (f : Nat) (p n : Int) (h0 : 0 < n) (h1 : n ≤ 1000000000) : F35 f p n = some (p % n) := by
  unfold F35
  rw [nzS (by omega)]
  simp only [Option.bind_some]
  have a1 := Int.lt_tmod_of_pos p h0
  have a2 := Int.tmod_lt_of_pos p h0
  rw [w64_id (by omega) (by omega), Int.tmod_eq_emod_of_nonneg (by omega)]
  congr 1
  rw [Int.add_emod_right]
  have e : p.tmod n % n = p % n := by
    rw [Int.tmod_eq_emod]
    split
    · simp
    · have : ((n.natAbs : Nat) : Int) = n := by omega
      rw [this, Int.sub_emod]; simp
  exact e
def ofS : List Part → Int → Int
  | [], _ => 0
  | p :: t, x => if p.lot = x then p.mass else ofS t x
theorem F36_loop {t : List Part} (hl : t.length ≤ 1000) (x : Int) : ∀ n i, i ≤ t.length → t.length - i < n → F36_l1 t x n (i : Int) = some (ofS (t.drop i) x)
  | 0, i, _, hn => by omega
  | n + 1, i, hi, hn => by
    rcases Nat.lt_or_ge i t.length with hlt | hge
    · simp only [F36_l1, lt_len, hlt, decide_true, cond_true, getI_nat hlt, Option.bind_some]
      rw [drop_cons hlt]
      by_cases h : t[i].lot = x
      · simp [ofS, h]
      · have e : (t[i].lot == x) = false := by simpa using h
        rw [e, cond_false, succ_w (by omega), F36_loop hl x n (i + 1) (by omega) (by omega)]
        simp [ofS, h]
    · have : i = t.length := by omega
      subst this
      simp [F36_l1, ofS]
theorem F36_eq {f : Nat} {t : List Part} (hl : t.length ≤ 1000) (hf : t.length < f) (x : Int) : F36 f t x = some (ofS t x) := by
  have := F36_loop hl x f 0 (by omega) (by omega)
  simpa [F36] using this
theorem of_none : ∀ {t : List Part} {x : Int}, (∀ p ∈ t, p.lot ≠ x) → ofS t x = 0
  | [], _, _ => rfl
  | p :: t, x, h => by
    have h1 := h p (by simp)
    simp only [ofS, h1, if_false]
    exact of_none fun q hq => h q (List.mem_cons_of_mem _ hq)
theorem of_taken : ∀ {h : List Part} {d : List Int}, Fits h d → (h.Pairwise fun a b => a.lot < b.lot) → ∀ i (hi : i < h.length) (hd : i < d.length), ofS (takenL h d) h[i].lot = d[i]
  | _, _, .nil, _, i, hi, _ => by simp at hi
  | p :: h, n :: d, .cons h0 h1 hp k, hr, 0, hi, hd => by
    have hr' := List.pairwise_cons.1 hr
    simp only [takenL, List.getElem_cons_zero]
    split
    · simp [ofS]
    · have : n = 0 := by omega
      rw [List.nil_append, of_none, this]
      intro q hq
      obtain ⟨q', hq', e⟩ := taken_lots hq
      have := hr'.1 q' hq'
      omega
  | p :: h, n :: d, .cons h0 h1 hp k, hr, i + 1, hi, hd => by
    have hr' := List.pairwise_cons.1 hr
    have ih := of_taken k hr'.2 i (by simpa using hi) (by simpa using hd)
    have hih : i < h.length := by simpa using hi
    have hne : ¬ p.lot = h[i].lot := by have := hr'.1 _ (List.getElem_mem (by simpa using hi : i < h.length)); omega
    simp only [takenL, List.getElem_cons_succ]
    split
    · simp [ofS, hne, ih]
    · simpa using ih
/-! ### The heap -/
def pk (x : List Int) (k : Nat) : List Part := (List.range k).map fun i : Nat => (⟨(i : Int) + 1, 1 + x.getD i 0 % 1000⟩ : Part)
theorem pk_len (x : List Int) (k : Nat) : (pk x k).length = k := by simp [pk]
theorem pk_succ (x : List Int) (k : Nat) : pk x (k + 1) = pk x k ++ [(⟨(k : Int) + 1, 1 + x.getD k 0 % 1000⟩ : Part)] := by unfold pk; rw [List.range_succ, List.map_append]; rfl
theorem pk_mem {x : List Int} {k : Nat} {p : Part} (h : p ∈ pk x k) : 1 ≤ p.lot ∧ p.lot ≤ k ∧ 1 ≤ p.mass ∧ p.mass ≤ 1000 := by
  obtain ⟨i, hi, rfl⟩ := List.mem_map.1 h
  have := List.mem_range.1 hi
  simp only
  omega
theorem pk_sum (x : List Int) : ∀ k : Nat, (k : Int) ≤ sumM (pk x k) ∧ sumM (pk x k) ≤ 1000 * k
  | 0 => by simp [pk, sumM]
  | k + 1 => by
    have ih := pk_sum x k
    rw [pk_succ, sumM_app]
    have e : sumM [(⟨(k : Int) + 1, 1 + x.getD k 0 % 1000⟩ : Part)] = 1 + x.getD k 0 % 1000 := by simp [sumM]
    rw [e]
    push_cast
    omega
theorem pk_ok (x : List Int) {k : Nat} (hk : k ≤ 12) : HeapOk (pk x k) := by
  refine ⟨by rw [pk_len]; omega, fun p hp => ?_, ?_, by have := pk_sum x k; omega⟩
  · have := pk_mem hp
    exact ⟨by omega, by omega, by omega, by omega⟩
  · unfold pk
    rw [List.pairwise_map]
    exact List.pairwise_lt_range.imp fun h => by simp only; omega
def finF (f : Nat) (x0 : List Int) (x1 : Int) (r5 : Bool) (k : Nat) : Option Bool := F7_j1 f (fun _ _ _ => none) x0 x1 r5 (pk x0 k) (sumM (pk x0 k)) (k : Int) false
theorem F7_l1_eq {f : Nat} (x0 : List Int) (x1 : Int) (r5 : Bool) : ∀ n i, i ≤ x0.length → i ≤ 12 → 13 - i < n → ∃ k, k ≤ 12 ∧ F7_l1 f x0 x1 r5 n (pk x0 i) (sumM (pk x0 i)) (i : Int) = finF f x0 x1 r5 k
  | 0, i, _, _, hn => by omega
  | n + 1, i, hi, h12, hn => by
    rcases Nat.lt_or_ge i x0.length with hlt | hge
    · rcases Nat.lt_or_ge i 12 with h2 | h2
      · have c2 : decide ((i : Int) < 12) = true := by simpa using (show (i : Int) < 12 by omega)
        have hb := pk_sum x0 i
        have he : x0.getD i 0 = x0[i] := by simp [hlt]
        have m1 : w64 (1 + x0[i] % 1000) = 1 + x0[i] % 1000 := w64_id (by omega) (by omega)
        have m2 : w64 (sumM (pk x0 i) + (1 + x0[i] % 1000)) = sumM (pk x0 (i + 1)) := by
          rw [pk_succ, sumM_app, w64_id (by omega) (by omega), he]; simp [sumM]
        have m3 : appC (pk x0 i) [(⟨((i + 1 : Nat) : Int), 1 + x0[i] % 1000⟩ : Part)] = some (pk x0 (i + 1)) := by
          unfold appC
          rw [if_pos (by rw [pk_len]; simp; omega), pk_succ, he]
          rfl
        simp only [F7_l1, lt_len, hlt, decide_true, cond_true, c2, F7_j1, getI_nat hlt, Option.bind_some, F35_eq f x0[i] 1000 (by omega) (by omega), m1, succ_w (i := i) (by omega), m3, m2]
        exact F7_l1_eq x0 x1 r5 n (i + 1) (by omega) (by omega) (by omega)
      · have : i = 12 := by omega
        subst this
        refine ⟨12, by omega, ?_⟩
        have c2 : decide (((12 : Nat) : Int) < 12) = false := rfl
        simp only [F7_l1, lt_len, hlt, decide_true, cond_true, c2]
        simp only [finF, F7_j1, cond_false]
    · have : i = x0.length := by omega
      subst this
      refine ⟨x0.length, h12, ?_⟩
      simp only [F7_l1, lt_len, Nat.lt_irrefl, decide_false, cond_false]
      simp only [finF, F7_j1, cond_false]
theorem fair {h : List Part} {m : Int} (hk : HeapOk h) (hne : h ≠ []) (hm0 : 0 ≤ m) (hm : m ≤ sumM h) (hl : h.length ≤ 12) (hs : sumM h ≤ 12000) :
    F7_j2 200 h (sumM h) m (takenL h (dealH m h), leftL h (dealH m h), 0) false = some true := by
  have hd := dealOk_heap hk hne hm0 hm (by omega)
  obtain ⟨hf, _⟩ := fits_heap hk hm0 hm (by omega)
  have hpos := heap_pos hk hne
  have hlen : (takenL h (dealH m h)).length ≤ 12 := by have := taken_len h (dealH m h); omega
  have eD : dealH m h = dealS m (massesL h) := by unfold dealH; rw [if_neg hne]
  have hML : (massesL h).length = h.length := by simp [massesL]
  -- what is told of each part
  have got : ∀ i (hi : i < h.length), F36 200 (takenL h (dealH m h)) h[i].lot = some ((dealS m (massesL h))[i]'(by rw [dealS_len, hML]; exact hi)) := fun i hi => by
    rw [F36_eq (by omega) (by omega), of_taken hf hk.2.2.1 i hi (by rw [dealH_len]; exact hi)]
    simp only [eD]
  have mAt : ∀ i (hi : i < h.length), (massesL h)[i]'(by rw [hML]; exact hi) = h[i].mass := fun i hi => by simp [massesL]
  unfold F7_j2
  rw [cond_false]
  have key := loop_all0 (L := F7_l2 200 h (sumM h) m (takenL h (dealH m h), leftL h (dealH m h), 0)) (len := h.length) (good := fun _ => True) (no := some false) (yes := some true) (fun n i hi => by
    have hi2 : i < (massesL h).length := by rw [hML]; exact hi
    have hp := prod_bounds hd hi2
    rw [mAt i hi] at hp
    have hb := base_bounds hd hi2
    have hsum : (massesL h).sum = sumM h := rfl
    have eb : w64 (Int.tdiv (w64 (m * h[i].mass)) (sumM h)) = baseS m (massesL h) i := by
      have e3 : w64 (m * h[i].mass) = m * h[i].mass := w64_id (by omega) (by omega)
      rw [e3, Int.tdiv_eq_ediv_of_nonneg hp.1]
      have e2 : m * h[i].mass / sumM h = baseS m (massesL h) i := by unfold baseS; rw [getD_mem hi2, mAt i hi, hsum]
      have := hd.m1
      rw [e2, w64_id (by omega) (by omega)]
    have et : Int.tmod (w64 (m * h[i].mass)) (sumM h) = rem_ m (massesL h).sum (massesL h) (i : Int) := by
      have := tmod_eq hd hi2
      rw [mAt i hi] at this
      exact this
    have hm1 := hd.m1
    have eb1 : w64 (baseS m (massesL h) i + 1) = baseS m (massesL h) i + 1 := w64_id (by omega) (by omega)
    have hdi := deal_at (m := m) hi2
    have hn0 : nz (sumM h) = some () := nzS (by omega)
    -- the inner loop
    have inner : F7_l3 200 (F7_l2 200 h (sumM h) m (takenL h (dealH m h), leftL h (dealH m h), 0) n) h (takenL h (dealH m h), leftL h (dealH m h), 0) (i : Int) h[i] ((dealS m (massesL h))[i]'(by rw [dealS_len]; exact hi2)) 200 0 = F7_l2 200 h (sumM h) m (takenL h (dealH m h), leftL h (dealH m h), 0) n (w64 ((i : Int) + 1)) := by
      have key := loop_all0 (L := F7_l3 200 (F7_l2 200 h (sumM h) m (takenL h (dealH m h), leftL h (dealH m h), 0) n) h (takenL h (dealH m h), leftL h (dealH m h), 0) (i : Int) h[i] ((dealS m (massesL h))[i]'(by rw [dealS_len]; exact hi2))) (len := i) (good := fun _ => True) (no := some false) (yes := F7_l2 200 h (sumM h) m (takenL h (dealH m h), leftL h (dealH m h), 0) n (w64 ((i : Int) + 1))) (fun n' k hki => by
        have hk1 : k < h.length := by omega
        have hk2 : k < (massesL h).length := by omega
        simp only [F7_l3, lt_len, hki, decide_true, cond_true, getI_nat hk1, Option.bind_some, got k hk1, F7_j4]
        refine .inl ⟨trivial, ?_⟩
        by_cases he : h[k].mass = h[i].mass
        · have c1 : (h[k].mass == h[i].mass) = true := by simpa using he
          have hge : ¬ (dealS m (massesL h))[k]'(by rw [dealS_len]; exact hk2) < (dealS m (massesL h))[i]'(by rw [dealS_len]; exact hi2) := by
            rw [deal_at hk2, deal_at hi2]
            have eb2 : baseS m (massesL h) k = baseS m (massesL h) i := by unfold baseS; rw [getD_mem hk2, getD_mem hi2, mAt k hk1, mAt i hi, he]
            have er : rem_ m (massesL h).sum (massesL h) (k : Int) = rem_ m (massesL h).sum (massesL h) (i : Int) := by rw [rem_at hk2, rem_at hi2, mAt k hk1, mAt i hi, he]
            have hr : rank m (massesL h).sum (massesL h) (k : Int) ≤ rank m (massesL h).sum (massesL h) (i : Int) := by
              unfold rank
              refine List.countP_mono_left fun j hj hp => ?_
              simp only [decide_eq_true_eq] at hp ⊢
              unfold ahead at *
              omega
            rw [eb2]
            split <;> split <;> omega
          simp only [c1, cond_true, hge, decide_false, cond_false]
          rw [succ_w (by omega)]
        · have c1 : (h[k].mass == h[i].mass) = false := by simpa using he
          simp only [c1, cond_false]
          rw [succ_w (by omega)]) (fun n' => by simp [F7_l3]) (n := 200) (by omega)
      rcases key with ⟨_, e⟩ | ⟨hn, _⟩
      · exact e
      · exact absurd (fun _ _ => trivial) hn
    simp only [F7_l2, lt_len, hi, decide_true, cond_true, getI_nat hi, Option.bind_some, got i hi, hn0, eb, eb1, et, F7_j3]
    refine .inl ⟨trivial, ?_⟩
    have c1 : decide ((dealS m (massesL h))[i]'(by rw [dealS_len]; exact hi2) < baseS m (massesL h) i) = false := by rw [hdi]; simp; split <;> omega
    have c2 : decide ((dealS m (massesL h))[i]'(by rw [dealS_len]; exact hi2) > baseS m (massesL h) i + 1) = false := by rw [hdi]; simp; split <;> omega
    rw [c1, c2]
    simp only [cond_false]
    by_cases hr : rank m (massesL h).sum (massesL h) (i : Int) < (leftS m (massesL h)).toNat
    · have hrem := extra_rem hd hi2 hr
      have c4 : (rem_ m (massesL h).sum (massesL h) (i : Int) == 0) = false := by simpa using (show ¬ rem_ m (massesL h).sum (massesL h) (i : Int) = 0 by omega)
      rw [c4]
      simp only [cond_false, inner]
      rw [succ_w (by omega)]
      cases (dealS m (massesL h))[i]'(by rw [dealS_len]; exact hi2) == baseS m (massesL h) i + 1 <;> rfl
    · have c3 : ((dealS m (massesL h))[i]'(by rw [dealS_len]; exact hi2) == baseS m (massesL h) i + 1) = false := by rw [hdi, if_neg hr]; simpa using (show ¬ baseS m (massesL h) i + 0 = baseS m (massesL h) i + 1 by omega)
      rw [c3]
      simp only [cond_false, inner]
      rw [succ_w (by omega)]) (fun n => by simp [F7_l2]) (n := 200) (by omega)
  rcases key with ⟨_, e⟩ | ⟨hn, _⟩
  · exact e
  · exact absurd (fun _ _ => trivial) hn
theorem F33_eq {f : Nat} {h : List Part} (hk : HeapOk h) (hf : 40 < f) : F33 f h = some (sumM h) := by
  unfold F33
  rcases F73_eq (f := f) (l := h) hf with ⟨_, e⟩ | ⟨hn, _⟩
  · rw [e]; simp [F90_eq hk hf]
  · exact absurd hk hn
theorem fin_true (x0 : List Int) (x1 : Int) {k : Nat} (hk : k ≤ 12) : finF 200 x0 x1 true k = some true := by
  unfold finF F7_j1
  rw [cond_false]
  have ho := pk_ok x0 hk
  have hs := pk_sum x0 k
  by_cases h0 : sumM (pk x0 k) = 0
  · simp [h0]
  · have c0 : (sumM (pk x0 k) == 0) = false := by simpa using h0
    have hne : pk x0 k ≠ [] := fun e => h0 (by rw [e]; rfl)
    have hl := pk_len x0 k
    have hm := Int.emod_nonneg x1 (show sumM (pk x0 k) + 1 ≠ 0 by omega)
    have hm2 := Int.emod_lt_of_pos x1 (show 0 < sumM (pk x0 k) + 1 by omega)
    have e1 : w64 (sumM (pk x0 k) + 1) = sumM (pk x0 k) + 1 := w64_id (by omega) (by omega)
    have hT := taken_ok ho hm (show x1 % (sumM (pk x0 k) + 1) ≤ sumM (pk x0 k) by omega) (by omega)
    have hL := left_ok ho hm (show x1 % (sumM (pk x0 k) + 1) ≤ sumM (pk x0 k) by omega) (by omega)
    obtain ⟨hf, hsum⟩ := fits_heap ho hm (show x1 % (sumM (pk x0 k) + 1) ≤ sumM (pk x0 k) by omega) (by omega)
    rw [if_neg hne] at hsum
    have hmerge := merge_split hf ho.2.2.1
    have e25 : F25 200 (takenL (pk x0 k) (dealH (x1 % (sumM (pk x0 k) + 1)) (pk x0 k))) (leftL (pk x0 k) (dealH (x1 % (sumM (pk x0 k) + 1)) (pk x0 k))) = some (pk x0 k, 0) := by
      rcases F25_eq (f := 200) (takenL (pk x0 k) (dealH (x1 % (sumM (pk x0 k) + 1)) (pk x0 k))) (leftL (pk x0 k) (dealH (x1 % (sumM (pk x0 k) + 1)) (pk x0 k))) (by omega) with ⟨_, e⟩ | ⟨hn, _⟩ | ⟨hn, _⟩
      · rw [e, hmerge]
      · exact absurd (by rw [hmerge]; exact ho) hn.2.2
      · exact absurd ⟨hT, hL⟩ hn
    have e33 := F33_eq (f := 200) hT (by omega)
    rw [taken_sum hf, hsum] at e33
    simp only [c0, cond_false, e1, F35_eq 200 x1 (sumM (pk x0 k) + 1) (by omega) (by omega), Option.bind_some, F30_eq ho hm (show x1 % (sumM (pk x0 k) + 1) ≤ sumM (pk x0 k) by omega) (by omega) (show 100 < 200 by omega), e25, F26_eq (a := pk x0 k) (b := pk x0 k) (f := 200) (by omega) (by omega), decide_true, Bool.not_true, bne_self_eq_false, e33]
    exact fair ho hne hm (by omega) (by omega) (by omega)
theorem F7_true' (x0 : List Int) (x1 : Int) {p1 p2 p3 : Prop} (_ : p1) (_ : p2) (_ : p3) : ∃ fuel, F7 fuel x0 x1 = some true := by
  refine ⟨200, ?_⟩
  unfold F7
  rw [sane_true]
  simp only [Option.bind_some]
  obtain ⟨k, hk, e⟩ := F7_l1_eq (f := 200) x0 x1 true 200 0 (by omega) (by omega) (by omega)
  have e0 : ((0 : Nat) : Int) = 0 := rfl
  have e1 : pk x0 0 = [] := rfl
  have e2 : sumM [] = 0 := rfl
  rw [e0, e1, e2] at e
  rw [e]
  exact fin_true x0 x1 hk
end Go.Proofs.Ytlmgjjmighajdaa
