/-
  Shares and moisture, of the plain functions that the walks compute. No condition.
-/
import Derived.Test.YtlmgjjmighajdaaQC
set_option linter.unusedSimpArgs false
set_option linter.unusedVariables false
namespace Go.Proofs.Ytlmgjjmighajdaa
open Go.Sl Go.Sx

theorem F103_eq {f : Nat} {lots : List Lot} {holds : List (List (List Part))} (h9 : holds.length = 9) (x : Int) (hf : 40 < f) :
    (StockOk lots holds → (0 ≤ x ∧ x ≤ 8) → F103 f lots holds x = some 0) ∧ (StockOk lots holds → ¬ (0 ≤ x ∧ x ≤ 8) → F103 f lots holds x = some 1) ∧ (¬ StockOk lots holds → F103 f lots holds x = some 62) := by
  unfold F103
  rcases F21_eq (lots := lots) h9 hf with ⟨hs, e⟩ | ⟨hs, e⟩
  · rw [e]; exact ⟨fun _ hx => by simp [F130_eq, hx], fun _ hx => by simp [F130_eq, hx], fun h => absurd hs h⟩
  · rw [e]; exact ⟨fun h => absurd h hs, fun h => absurd h hs, fun _ => by simp⟩

/-! ### Lowest terms -/
theorem F117_119 (f : Nat) (a b : Int) : F117 f a b = F119 f a b := by
  unfold F117 F119
  have : ∀ n y z, F117_l1 a b n y z = F119_l1 a b n y z := by
    intro n
    induction n with
    | zero => intro y z; rfl
    | succ n ih => intro y z; simp only [F117_l1, F119_l1, ih]
  exact this ..
theorem eu_end (x0 x1 : Int) (n : Nat) {a : Int} (ha : 0 < a) : ∃ r, F119_l1 x0 x1 (n + 1) a 0 = some r := by
  have : nz a = some () := by unfold nz; rw [if_pos (by omega)]
  simp [F119_l1, this]
theorem eu_step (x0 x1 : Int) (n : Nat) {a b : Int} (ha : 0 ≤ a) (hb : 0 < b) : F119_l1 x0 x1 (n + 1) a b = F119_l1 x0 x1 n b (a % b) := by
  have h1 : nz b = some () := by unfold nz; rw [if_pos (by omega)]
  have h2 : decide (b > 0) = true := by simpa using hb
  simp only [F119_l1, h2, cond_true, h1, Option.bind_some, Int.tmod_eq_emod_of_nonneg ha]
theorem eu (x0 x1 : Int) : ∀ (k n : Nat) (a b : Int), 0 ≤ a → 0 ≤ b → (0 < a ∨ 0 < b) → b < 2 ^ k → 2 * k + 1 ≤ n → ∃ r, F119_l1 x0 x1 n a b = some r
  | 0, n, a, b, ha, hb, hp, hk, hn => by
    have : b = 0 := by simp at hk; omega
    subst this
    obtain ⟨m, rfl⟩ : ∃ m, n = m + 1 := ⟨n - 1, by omega⟩
    exact eu_end x0 x1 m (by omega)
  | k + 1, n, a, b, ha, hb, hp, hk, hn => by
    obtain ⟨m, rfl⟩ : ∃ m, n = m + 2 := ⟨n - 2, by omega⟩
    by_cases h0 : b = 0
    · subst h0; exact eu_end x0 x1 (m + 1) (by omega)
    · have hb' : 0 < b := by omega
      rw [eu_step x0 x1 (m + 1) ha hb']
      have hc0 := Int.emod_nonneg a h0
      have hc1 := Int.emod_lt_of_pos a hb'
      generalize a % b = c at hc0 hc1
      by_cases hc : c = 0
      · subst hc; exact eu_end x0 x1 m hb'
      · have hc' : 0 < c := by omega
        rw [eu_step x0 x1 m hb hc']
        have hd0 := Int.emod_nonneg b hc
        have hd1 := Int.emod_lt_of_pos b hc'
        have hd2 : b % c ≤ b - c := by
          have h1 := Int.emod_add_mul_ediv b c
          have h2 : 1 ≤ b / c := by
            have := Int.le_ediv_of_mul_le hc' (a := 1) (b := b) (by omega)
            exact this
          have h3 : c * 1 ≤ c * (b / c) := Int.mul_le_mul_of_nonneg_left h2 (by omega)
          omega
        have hk' : (2 : Int) ^ (k + 1) = 2 * 2 ^ k := by rw [Int.pow_succ]; omega
        exact eu x0 x1 k m c (b % c) (by omega) hd0 (.inl hc') (by omega) (by omega)
theorem ratio_some {f : Nat} (hf : 100 < f) {a b : Int} (ha : 0 ≤ a) (hb : 0 < b) (hb2 : b ≤ 100000000) : ∃ r, F119 f a b = some r := by
  unfold F119
  exact eu a b 40 f a b ha (by omega) (.inr hb) (by have : (2 : Int) ^ 40 = 1099511627776 := by decide
                                                    omega) (by omega)

/-! ### Sums over a hold -/
theorem g_bound {g : Part → Int} {lots : List Lot} {p : List Part} (h : GoodHeap lots p) (hg : ∀ q ∈ p, 0 ≤ g q ∧ g q ≤ 10000000000000) (i : Nat) : 0 ≤ sumBy g (p.take i) ∧ sumBy g (p.take i) ≤ 400000000000000 := by
  have := sumBy_bound (g := g) (b := 10000000000000) (by omega) (l := p.take i) fun x hx => hg x (List.mem_of_mem_take hx)
  have h40 := h.ok.1
  have hl : (p.take i).length ≤ 40 := by rw [List.length_take]; omega
  have h2 : (10000000000000 : Int) * ((p.take i).length : Nat) ≤ 10000000000000 * 40 := by omega
  omega
def hsum (g : Part → Int) (l : List (List Part)) : Int := sumBy (fun p => sumBy g p) l
theorem hsum_take {g : Part → Int} {l : List (List Part)} {j : Nat} (hj : j < l.length) : hsum g (l.take (j + 1)) = hsum g (l.take j) + sumBy g l[j] := sumBy_take _ hj
theorem h_bound {g : Part → Int} {lots : List Lot} {l : List (List Part)} (h : GoodHold lots l) (hg : ∀ p ∈ l, ∀ q ∈ p, 0 ≤ g q ∧ g q ≤ 10000000000000) (i : Nat) : 0 ≤ hsum g (l.take i) ∧ hsum g (l.take i) ≤ 1600000000000000 := by
  have := sumBy_bound (g := fun p => sumBy g p) (b := 400000000000000) (by omega) (l := l.take i) fun x hx => by
    have := g_bound (h.heaps x (List.mem_of_mem_take hx)) (hg x (List.mem_of_mem_take hx)) x.length
    rwa [List.take_length] at this
  have h4 := h.len
  have hl : (l.take i).length ≤ 4 := by rw [List.length_take]; omega
  have h2 : (400000000000000 : Int) * ((l.take i).length : Nat) ≤ 400000000000000 * 4 := by omega
  unfold hsum
  omega
def lotG (x : Int) (q : Part) : Int := if q.lot = x then q.mass else 0
theorem lotG_bound {x : Int} {q : Part} (h : PartOk q) : 0 ≤ lotG x q ∧ lotG x q ≤ 10000000000000 := by
  unfold lotG
  have h0 := h.m0; have h1 := h.m1
  split <;> omega
theorem F59_l2_eq {f : Nat} {lots : List Lot} (k2 : Int → Int → Option (Int × Int × Int)) (x y3 : Int) {p : List Part} (hp : GoodHeap lots p) {v : Int} (hv : 0 ≤ v ∧ v ≤ 1600000000000000) (hf : 40 < f) :
    F59_l2 k2 x y3 p f v 0 = k2 (v + sumBy (lotG x) p) (w64 (y3 + 1)) := by
  have key := loop_st (T := fun n j => F59_l2 k2 x y3 p n (v + sumBy (lotG x) (p.take j)) (j : Int)) (len := p.length) (n := f) (out := k2 (v + sumBy (lotG x) p) (w64 (y3 + 1))) (by have := hp.ok.1; omega)
    (fun n j hj => by
      have h1 := g_bound hp (fun q hq => lotG_bound (x := x) (hp.ok.2.1 q hq)) (j + 1)
      rw [sumBy_take _ hj] at h1
      simp only [F59_l2, lt_len, hj, decide_true, cond_true, getI_nat hj, Option.bind_some, F59_j1]
      rw [succ_w (by have := hp.ok.1; omega), sumBy_take _ hj]
      unfold lotG at h1 ⊢
      by_cases hb : p[j].lot = x
      · simp only [hb, beq_self_eq_true, cond_true, if_true] at h1 ⊢
        rw [w64_id (by omega) (by omega), Int.add_assoc]
      · have hb' : (p[j].lot == x) = false := by simpa using hb
        simp only [hb', cond_false, hb, if_false, Int.add_zero])
    (fun n => by simp [F59_l2])
  simpa [sumBy] using key
theorem F59_l1_eq {f : Nat} {lots : List Lot} {hold : List (List Part)} (hg : GoodHold lots hold) (x r : Int) (hf : 40 < f) :
    F59_l1 f x r hold f 0 0 = (F119 f (hsum (lotG x) hold) r).bind fun r2 => some (r2.1, r2.2, 0) := by
  have key := loop_st (T := fun n j => F59_l1 f x r hold n (hsum (lotG x) (hold.take j)) (j : Int)) (len := hold.length) (n := f) (out := (F119 f (hsum (lotG x) hold) r).bind fun r2 => some (r2.1, r2.2, 0)) (by have := hg.len; omega)
    (fun n j hj => by
      have hb := h_bound (g := lotG x) hg (fun p hp q hq => lotG_bound (x := x) ((hg.heaps p hp).ok.2.1 q hq)) j
      simp only [F59_l1, lt_len, hj, decide_true, cond_true, getI_nat hj, Option.bind_some]
      rw [F59_l2_eq _ x _ (hg.heaps _ (List.getElem_mem hj)) hb hf, succ_w (by have := hg.len; omega), hsum_take hj])
    (fun n => by simp [F59_l1, F117_119])
  simpa [hsum, sumBy] using key
theorem F105_eq {f : Nat} {lots : List Lot} {p : List Part} (hp : GoodHeap lots p) (x : Int) (hf : 40 < f) : F105 f p x = some (sumBy (lotG x) p) := by
  unfold F105
  have h40 := hp.ok.1
  have key : ∀ n j, j ≤ p.length → p.length - j < n → sumBy (lotG x) (p.take j) = 0 → F105_l1 p x n (j : Int) = some (sumBy (lotG x) p) := by
    intro n
    induction n with
    | zero => intro j _ h; omega
    | succ n ih =>
      intro j hj hn hz
      rcases Nat.lt_or_ge j p.length with hlt | hge
      · simp only [F105_l1, lt_len, hlt, decide_true, cond_true, getI_nat hlt, Option.bind_some]
        by_cases hb : p[j].lot = x
        · have hb' : (p[j].lot == x) = true := by simpa using hb
          rw [hb', cond_true]
          have e : p = p.take j ++ p[j] :: p.drop (j + 1) := by rw [← List.drop_eq_getElem_cons hlt, List.take_append_drop]
          have hrest : sumBy (lotG x) (p.drop (j + 1)) = 0 := by
            have : ∀ l : List Part, (∀ q ∈ l, q.lot ≠ x) → sumBy (lotG x) l = 0 := by
              intro l
              induction l with
              | nil => intro _; rfl
              | cons q l ih =>
                intro h
                rw [sumBy_cons, ih fun y hy => h y (List.mem_cons_of_mem _ hy)]
                have := h q (List.mem_cons_self ..)
                simp [lotG, this]
            refine this _ fun q hq => ?_
            obtain ⟨k, hk, rfl⟩ := List.getElem_of_mem hq
            rw [List.length_drop] at hk
            have h1 := pairs_at hp.ok.2.2.1 hlt (show j + 1 + k < p.length by omega) (by omega)
            rw [List.getElem_drop]
            omega
          have hs : sumBy (lotG x) p = p[j].mass := by
            have h2 : sumBy (lotG x) p = sumBy (lotG x) (p.take j ++ p[j] :: p.drop (j + 1)) := congrArg _ e
            rw [h2, sumBy_app, sumBy_cons, hz, hrest]
            simp [lotG, hb]
          rw [hs]
        · have hb' : (p[j].lot == x) = false := by simpa using hb
          rw [hb', cond_false, succ_w (by omega)]
          exact ih (j + 1) hlt (by omega) (by rw [sumBy_take _ hlt, hz]; simp [lotG, hb])
      · have : j = p.length := by omega
        subst this
        rw [List.take_length] at hz
        simp [F105_l1, hz]
  exact key f 0 (by omega) (by omega) rfl
theorem F60_l1_eq {f : Nat} {lots : List Lot} {holds : List (List (List Part))} {i : Nat} (hi : i < holds.length) (hg : GoodHold lots holds[i]) (x : Int) (hf : 40 < f) :
    F60_l1 f holds (i : Int) x f 0 0 = cond (sumH holds[i] == 0) (some (0, 0, 3)) ((F119 f (hsum (lotG x) holds[i]) (sumH holds[i])).bind fun r3 => some (r3.1, r3.2, 0)) := by
  have key := loop_st (T := fun n j => F60_l1 f holds (i : Int) x n (hsum (lotG x) (holds[i].take j)) (j : Int)) (len := holds[i].length) (n := f) (out := cond (sumH holds[i] == 0) (some (0, 0, 3)) ((F119 f (hsum (lotG x) holds[i]) (sumH holds[i])).bind fun r3 => some (r3.1, r3.2, 0))) (by have := hg.len; omega)
    (fun n j hj => by
      have hb := h_bound (g := lotG x) hg (fun p hp q hq => lotG_bound (x := x) ((hg.heaps p hp).ok.2.1 q hq)) (j + 1)
      rw [hsum_take hj] at hb
      simp only [F60_l1, getI_nat hi, Option.bind_some, lt_len, hj, decide_true, cond_true, getI_nat hj, F105_eq (hg.heaps _ (List.getElem_mem hj)) x hf]
      rw [succ_w (by have := hg.len; omega), w64_id (by omega) (by omega), hsum_take hj])
    (fun n => by
      simp only [F60_l1, getI_nat hi, Option.bind_some, lt_len, Nat.lt_irrefl, decide_false, cond_false, F77_75, F75_eq hg.len (fun p hp => (hg.heaps p hp).ok) hf, List.take_length])
  simpa [hsum, sumBy] using key
/-- Share: both answer alike. -/
theorem F59_60 {f : Nat} {lots : List Lot} {holds : List (List (List Part))} (h9 : holds.length = 9) (x y : Int) (hf : 100 < f) : ∃ r, F59 f lots holds x y = some r ∧ F60 f lots holds x y = some r := by
  have hf' : 40 < f := by omega
  obtain ⟨a1, a2, a3⟩ := F103_eq (lots := lots) h9 x hf'
  unfold F59 F60
  rcases F22_eq (lots := lots) h9 hf' with ⟨hs, e⟩ | ⟨hs, e⟩
  · rw [e]
    simp only [Option.bind_some, bne_self_eq_false, cond_false, F118_eq]
    by_cases hx : 0 ≤ x ∧ x ≤ 8
    · rw [a1 hs hx]
      simp only [hx, and_self, decide_true, Bool.not_true, cond_false, Option.bind_some, bne_self_eq_false]
      obtain ⟨i, rfl⟩ : ∃ i : Nat, x = (i : Int) := ⟨x.toNat, by omega⟩
      have hi : i < holds.length := by omega
      have hg := hs.hok _ (List.getElem_mem hi)
      obtain ⟨p, e1, k⟩ := F74_eq (f := f) hs.lok y hf'
      rw [e1]
      by_cases hy : Has lots y
      · rcases F56_eq (f := f) hs.lok.1 y hf' with ⟨q, _, _, e2⟩ | ⟨hn, _⟩
        · rw [e2]
          have h2 : decide ((q : Int) < 0) = false := by simp
          simp only [Option.bind_some, hy, decide_true, Bool.not_true, cond_false, h2, getI_nat hi, F75_eq hg.len (fun p hp => (hg.heaps p hp).ok) hf', F60_l1_eq hi hg y hf', F59_l1_eq hg y _ hf']
          by_cases h0 : sumH holds[i] = 0
          · exact ⟨(0, 0, 3), by simp [h0]⟩
          · have h0' : (sumH holds[i] == 0) = false := by simpa using h0
            have hb := sumH_bound (l := holds[i]) fun p hp => (hg.heaps p hp).ok
            have hs2 := hg.sum
            have hb2 := h_bound (g := lotG y) hg (fun p hp q hq => lotG_bound (x := y) ((hg.heaps p hp).ok.2.1 q hq)) holds[i].length
            rw [List.take_length] at hb2
            obtain ⟨r, er⟩ := ratio_some hf (a := hsum (lotG y) holds[i]) (b := sumH holds[i]) hb2.1 (by omega) hs2
            exact ⟨(r.1, r.2, 0), by simp [h0', er]⟩
        · exact absurd hy hn
      · rcases F56_eq (f := f) hs.lok.1 y hf' with ⟨q, _, hh, _⟩ | ⟨hn, e2⟩
        · exact absurd hh hy
        · rw [e2]; exact ⟨(0, 0, 60), by simp [hy]⟩
    · rw [a2 hs hx]; exact ⟨(0, 0, 1), by simp [hx]⟩
  · rw [e, a3 hs]; exact ⟨(0, 0, 62), by simp⟩
end Go.Proofs.Ytlmgjjmighajdaa
