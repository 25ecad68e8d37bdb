/-
  Finding a lot, and whether a stock is valid. No condition.
-/
import Derived.Test.YtlmgjjmighajdaaPA
set_option linter.unusedSimpArgs false
set_option linter.unusedVariables false
namespace Go.Proofs.Ytlmgjjmighajdaa
open Go.Sl Go.Sx

/-! ### Finding a lot -/
def Has (l : List Lot) (id : Int) : Prop := ∃ x ∈ l, x.id = id
instance (l : List Lot) (x : Int) : Decidable (Has l x) := inferInstanceAs (Decidable (∃ y ∈ l, y.id = x))
theorem F122_eq (f : Nat) (l : Lot) (x : Int) : F122 f l.id l.owner l.grade l.wet x = some (if l.id < x then -1 else if l.id > x then 1 else 0) := by
  unfold F122 F123 F137
  by_cases h1 : l.id < x <;> by_cases h2 : l.id > x <;> simp [h1, h2]
theorem half_w {a b : Nat} (h : a + b < 4000000000) : w64 (Int.fdiv (IntKind.wrap .u64 (w64 ((a : Int) + (b : Int)))) 2) = (((a + b) / 2 : Nat) : Int) := by
  rw [w64_id (n := (a : Int) + b) (by omega) (by omega)]
  have e1 : IntKind.wrap .u64 ((a : Int) + b) = (a : Int) + b := by
    unfold IntKind.wrap
    simp [IntKind.bits, IntKind.signed]
    omega
  rw [e1]
  have e2 : Int.fdiv ((a : Int) + b) 2 = (((a + b) / 2 : Nat) : Int) := by
    rw [Int.fdiv_eq_ediv_of_nonneg _ (by decide)]
    omega
  rw [e2, w64_id (by omega) (by omega)]
/-- The search in a rising list: the place of the first lot that is not before. -/
theorem F74_loop {f : Nat} {l : List Lot} (hl : l.length ≤ 40) (hs : l.Pairwise fun a b => a.id < b.id) (x : Int) : ∀ n i j, i ≤ j → j ≤ l.length → j - i < n →
    (∀ k (h : k < l.length), k < i → l[k].id < x) → (∀ k (h : k < l.length), j ≤ k → ¬ l[k].id < x) →
    ∃ p : Nat, p ≤ l.length ∧ (∀ k (h : k < l.length), k < p → l[k].id < x) ∧ (∀ k (h : k < l.length), p ≤ k → ¬ l[k].id < x) ∧
      F74_l1 f l x n (i : Int) (j : Int) = some ((p : Int), decide (∃ h : p < l.length, l[p].id = x))
  | 0, i, j, _, _, hn, _, _ => by omega
  | n + 1, i, j, hij, hj, hn, h1, h2 => by
    rcases Nat.lt_or_ge i j with hlt | hge
    · have hm : (i + j) / 2 < l.length := by omega
      have hm1 : i ≤ (i + j) / 2 := by omega
      have hm2 : (i + j) / 2 < j := by omega
      simp only [F74_l1, lt_len, hlt, decide_true, cond_true, half_w (a := i) (b := j) (by omega), getI_nat hm, Option.bind_some, F122_eq]
      by_cases hx : l[(i + j) / 2].id < x
      · simp only [hx, if_true]
        have e : decide ((-1 : Int) < 0) = true := rfl
        rw [e, cond_true, succ_w (by omega)]
        refine F74_loop hl hs x n ((i + j) / 2 + 1) j (by omega) hj (by omega) (fun k hk hki => ?_) h2
        rcases Nat.lt_or_ge k ((i + j) / 2) with h | h
        · have := pairs_at hs hk hm h; omega
        · have : k = (i + j) / 2 := by omega
          subst this; exact hx
      · have e : decide ((if l[(i + j) / 2].id < x then (-1 : Int) else if l[(i + j) / 2].id > x then 1 else 0) < 0) = false := by
          rw [if_neg hx]; split <;> rfl
        rw [e, cond_false]
        refine F74_loop hl hs x n i ((i + j) / 2) (by omega) (by omega) (by omega) h1 (fun k hk hki => ?_)
        rcases Nat.lt_or_ge ((i + j) / 2) k with h | h
        · have := pairs_at hs hm hk h; omega
        · have : k = (i + j) / 2 := by omega
          subst this; exact hx
    · have : i = j := by omega
      subst this
      refine ⟨i, hj, h1, h2, ?_⟩
      simp only [F74_l1, lt_len, Nat.lt_irrefl, decide_false, cond_false]
      by_cases hi : i < l.length
      · simp only [hi, decide_true, cond_true, getI_nat hi, Option.bind_some, F122_eq, F74_j1]
        have hx := h2 i hi (Nat.le_refl _)
        congr 2
        rw [if_neg hx]
        by_cases hg : l[i].id > x
        · have : ¬ l[i].id = x := by omega
          simp [hg, this]
        · have : l[i].id = x := by omega
          simp [this]
      · simp [hi, F74_j1]
theorem F74_eq {f : Nat} {l : List Lot} (h : LotsOk l) (x : Int) (hf : 40 < f) :
    ∃ p : Nat, F74 f l x = some ((p : Int), decide (Has l x)) ∧ (Has l x → ∃ h : p < l.length, l[p].id = x) := by
  obtain ⟨p, hp, h1, h2, e⟩ := F74_loop (f := f) h.1 h.2.2 x f 0 l.length (by omega) (by omega) (by have := h.1; omega) (fun k _ hk => by omega) (fun k hk hk2 => by omega)
  have key : Has l x ↔ ∃ h : p < l.length, l[p].id = x := by
    constructor
    · rintro ⟨y, hy, rfl⟩
      obtain ⟨j, hj, rfl⟩ := List.getElem_of_mem hy
      rcases Nat.lt_trichotomy j p with hjp | hjp | hjp
      · have := h1 j hj hjp; omega
      · subst hjp; exact ⟨hj, rfl⟩
      · have hpl : p < l.length := by omega
        have := pairs_at h.2.2 hpl hj hjp
        have := h2 p hpl (Nat.le_refl _)
        omega
    · rintro ⟨hp, e⟩
      exact ⟨l[p], List.getElem_mem _, e⟩
  refine ⟨p, ?_, key.1⟩
  unfold F74
  have e0 : (0 : Int) = ((0 : Nat) : Int) := rfl
  rw [e0, e]
  congr 2
  exact decide_eq_decide.2 key.symm

/-- The place of a lot, or -1. -/
def lotAt (l : List Lot) (x : Int) : Int := if Has l x then ((l.findIdx fun y => y.id == x : Nat) : Int) else -1
theorem F56_loop {l : List Lot} (hl : l.length ≤ 40) (x : Int) : ∀ n i, i ≤ l.length → l.length - i < n → (∀ k (h : k < l.length), k < i → l[k].id ≠ x) →
    (∃ p : Nat, (∃ h : p < l.length, l[p].id = x ∧ ∀ k (h : k < l.length), k < p → l[k].id ≠ x) ∧ F56_l1 l x n (i : Int) = some (p : Int)) ∨ (¬ Has l x ∧ F56_l1 l x n (i : Int) = some (-1))
  | 0, i, _, hn, _ => by omega
  | n + 1, i, hi, hn, hd => by
    rcases Nat.lt_or_ge i l.length with hlt | hge
    · simp only [F56_l1, lt_len, hlt, decide_true, cond_true, getI_nat hlt, Option.bind_some]
      by_cases hx : l[i].id = x
      · exact .inl ⟨i, ⟨hlt, hx, fun k hk hki => hd k hk hki⟩, by simp [hx]⟩
      · have e : (l[i].id == x) = false := by simpa using hx
        rw [e, cond_false, succ_w (by omega)]
        exact F56_loop hl x n (i + 1) (by omega) (by omega) fun k hk hki => by
          rcases Nat.lt_or_ge k i with h | h
          · exact hd k hk h
          · have : k = i := by omega
            subst this; exact hx
    · have : i = l.length := by omega
      subst this
      refine .inr ⟨fun ⟨y, hy, e⟩ => ?_, by simp [F56_l1]⟩
      obtain ⟨j, hj, rfl⟩ := List.getElem_of_mem hy
      exact hd j hj hj e
theorem F56_eq {f : Nat} {l : List Lot} (hl : l.length ≤ 40) (x : Int) (hf : 40 < f) :
    (∃ p : Nat, (∃ h : p < l.length, l[p].id = x) ∧ Has l x ∧ F56 f l x = some (p : Int)) ∨ (¬ Has l x ∧ F56 f l x = some (-1)) := by
  rcases F56_loop hl x f 0 (by omega) (by omega) (fun k _ hk => by omega) with ⟨p, ⟨hp, e, _⟩, h⟩ | h
  · exact .inl ⟨p, ⟨hp, e⟩, ⟨l[p], List.getElem_mem _, e⟩, by simpa [F56] using h⟩
  · exact .inr ⟨h.1, by simpa [F56] using h.2⟩
/-- In a list of lots with rising numbers both searches find the same place. -/
theorem place_one {l : List Lot} (h : LotsOk l) {p q : Nat} {x : Int} (hp : ∃ h : p < l.length, l[p].id = x) (hq : ∃ h : q < l.length, l[q].id = x) : p = q := by
  obtain ⟨hp, e1⟩ := hp
  obtain ⟨hq, e2⟩ := hq
  rcases Nat.lt_trichotomy p q with h1 | h1 | h1
  · have := pairs_at h.2.2 hp hq h1; omega
  · exact h1
  · have := pairs_at h.2.2 hq hp h1; omega

/-! ### A stock -/
structure GoodHeap (lots : List Lot) (h : List Part) : Prop where
  ok : HeapOk h
  ne : h ≠ []
  lots : ∀ p ∈ h, Has lots p.lot
structure GoodHold (lots : List Lot) (l : List (List Part)) : Prop where
  len : l.length ≤ 4
  heaps : ∀ h ∈ l, GoodHeap lots h
  sum : sumH l ≤ 100000000
theorem F21_l3_eq {f : Nat} {k1 : Int → Option Int} {lots : List Lot} (hl : LotsOk lots) (y : Int) {p : List Part} (hp : p.length ≤ 40) (hf : 40 < f) :
    ((∀ q ∈ p, Has lots q.lot) ∧ F21_l3 f k1 lots y p f 0 = k1 (w64 (y + 1))) ∨ ((¬ ∀ q ∈ p, Has lots q.lot) ∧ F21_l3 f k1 lots y p f 0 = some 62) := by
  have key := loop_all0 (L := F21_l3 f k1 lots y p) (len := p.length) (good := fun j => ∀ h : j < p.length, Has lots p[j].lot) (no := some 62) (yes := k1 (w64 (y + 1))) (fun n i hi => by
    obtain ⟨q, e, _⟩ := F74_eq (f := f) hl p[i].lot hf
    simp only [F21_l3, lt_len, hi, decide_true, cond_true, getI_nat hi, Option.bind_some, e]
    by_cases hh : Has lots p[i].lot
    · exact .inl ⟨fun _ => hh, by simp only [hh, decide_true, Bool.not_true, cond_false]; rw [succ_w (by omega)]⟩
    · exact .inr ⟨fun k => hh (k trivial), by simp [hh]⟩) (fun n => by simp [F21_l3]) (n := f) (by omega)
  have iff : (∀ j, j < p.length → ∀ h : j < p.length, Has lots p[j].lot) ↔ ∀ q ∈ p, Has lots q.lot := by
    constructor
    · intro k q hq; obtain ⟨j, hj, rfl⟩ := List.getElem_of_mem hq; exact k j hj hj
    · intro k j hj _; exact k _ (List.getElem_mem _)
  rw [iff] at key
  exact key
theorem F22_l3_eq {f : Nat} {k1 : Int → Option Int} {lots : List Lot} (hl : LotsOk lots) {hold : List (List Part)} {i : Nat} (hi : i < hold.length) (hp : hold[i].length ≤ 40) (hf : 40 < f) :
    ((∀ q ∈ hold[i], Has lots q.lot) ∧ F22_l3 f k1 lots hold (i : Int) f 0 = k1 (w64 ((i : Int) + 1))) ∨ ((¬ ∀ q ∈ hold[i], Has lots q.lot) ∧ F22_l3 f k1 lots hold (i : Int) f 0 = some 62) := by
  have key := loop_all0 (L := F22_l3 f k1 lots hold (i : Int)) (len := hold[i].length) (good := fun j => ∀ h : j < hold[i].length, Has lots hold[i][j].lot) (no := some 62) (yes := k1 (w64 ((i : Int) + 1))) (fun n j hj => by
    simp only [F22_l3, getI_nat hi, Option.bind_some, lt_len, hj, decide_true, cond_true, getI_nat hj]
    rcases F56_eq (f := f) hl.1 hold[i][j].lot hf with ⟨q, _, hh, e⟩ | ⟨hh, e⟩
    · refine .inl ⟨fun _ => hh, ?_⟩
      have h0 : ¬ (q : Int) < 0 := by omega
      simp only [e, Option.bind_some, h0, decide_false, cond_false]; rw [succ_w (by omega)]
    · exact .inr ⟨fun k => hh (k trivial), by simp [e]⟩) (fun n => by simp [F22_l3, getI_nat hi]) (n := f) (by omega)
  have iff : (∀ j, j < hold[i].length → ∀ h : j < hold[i].length, Has lots hold[i][j].lot) ↔ ∀ q ∈ hold[i], Has lots q.lot := by
    constructor
    · intro k q hq; obtain ⟨j, hj, rfl⟩ := List.getElem_of_mem hq; exact k j hj hj
    · intro k j hj _; exact k _ (List.getElem_mem _)
  rw [iff] at key
  exact key
theorem allMem {α : Type} {l : List α} {r : α → Prop} : (∀ j, j < l.length → ∀ h : j < l.length, r l[j]) ↔ ∀ x ∈ l, r x := by
  constructor
  · intro k q hq; obtain ⟨j, hj, rfl⟩ := List.getElem_of_mem hq; exact k j hj hj
  · intro k j hj _; exact k _ (List.getElem_mem _)
theorem F21_l2_eq {f : Nat} {k3 : Int → Option Int} {lots : List Lot} (hl : LotsOk lots) (y : Int) {hold : List (List Part)} (h4 : hold.length ≤ 4) (hf : 40 < f) :
    ((∀ p ∈ hold, GoodHeap lots p) ∧ F21_l2 f k3 lots y hold f 0 = (if sumH hold ≤ 100000000 then k3 (w64 (y + 1)) else some 62)) ∨ ((¬ ∀ p ∈ hold, GoodHeap lots p) ∧ F21_l2 f k3 lots y hold f 0 = some 62) := by
  by_cases hall : ∀ p ∈ hold, GoodHeap lots p
  · left
    refine ⟨hall, ?_⟩
    have key := loop_all0 (L := F21_l2 f k3 lots y hold) (len := hold.length) (good := fun j => True) (no := some 62) (yes := (if sumH hold ≤ 100000000 then k3 (w64 (y + 1)) else some 62)) (fun n i hi => by
      have hg := hall _ (List.getElem_mem hi)
      simp only [F21_l2, lt_len, hi, decide_true, cond_true, getI_nat hi, Option.bind_some]
      rcases F73_eq (f := f) (l := hold[i]) hf with ⟨_, e⟩ | ⟨hn, _⟩
      · rw [e]
        have hne : ¬ hold[i].length = 0 := fun e => hg.ne (List.eq_nil_of_length_eq_zero e)
        have hne' : ((hold[i].length : Int) == 0) = false := by simpa using (show ¬ (hold[i].length : Int) = 0 by omega)
        simp only [Option.bind_some, Bool.not_true, cond_false, F21_j1, hne']
        rcases F21_l3_eq (k1 := F21_l2 f k3 lots y hold n) hl (i : Int) hg.ok.1 hf with ⟨_, e2⟩ | ⟨hn, _⟩
        · exact .inl ⟨trivial, by rw [e2, succ_w (by omega)]⟩
        · exact absurd hg.lots hn
      · exact absurd hg.ok hn) (fun n => by
        have e := F75_eq (f := f) h4 (fun x hx => (hall x hx).ok) hf
        simp only [F21_l2, lt_len, Nat.lt_irrefl, decide_false, cond_false, e, Option.bind_some]
        by_cases hs : sumH hold ≤ 100000000
        · have : ¬ sumH hold > 100000000 := by omega
          simp [hs, this]
        · have : sumH hold > 100000000 := by omega
          simp [hs, this]) (n := f) (by omega)
    rcases key with ⟨_, e⟩ | ⟨hn, _⟩
    · exact e
    · exact absurd (fun _ _ => trivial) hn
  · right
    refine ⟨hall, ?_⟩
    have key := loop_all0 (L := F21_l2 f k3 lots y hold) (len := hold.length) (good := fun j => ∀ h : j < hold.length, GoodHeap lots hold[j]) (no := some 62) (yes := F21_l2 f k3 lots y hold 1 (hold.length : Int)) (fun n i hi => by
      simp only [F21_l2, lt_len, hi, decide_true, cond_true, getI_nat hi, Option.bind_some]
      rcases F73_eq (f := f) (l := hold[i]) hf with ⟨hok, e⟩ | ⟨hn, e⟩
      · rw [e]
        by_cases hne : hold[i] = []
        · exact .inr ⟨fun k => (k trivial).ne hne, by simp [hne, F21_j1]⟩
        · have hne' : ((hold[i].length : Int) == 0) = false := by
            have : ¬ hold[i].length = 0 := fun e => hne (List.eq_nil_of_length_eq_zero e)
            simpa using (show ¬ (hold[i].length : Int) = 0 by omega)
          simp only [Option.bind_some, Bool.not_true, cond_false, F21_j1, hne']
          rcases F21_l3_eq (k1 := F21_l2 f k3 lots y hold n) hl (i : Int) hok.1 hf with ⟨hp, e2⟩ | ⟨hn, e2⟩
          · exact .inl ⟨fun _ => ⟨hok, hne, hp⟩, by rw [e2, succ_w (by omega)]⟩
          · exact .inr ⟨fun k => hn (k trivial).lots, e2⟩
      · exact .inr ⟨fun k => hn (k trivial).ok, by simp [e, F21_j1]⟩) (fun n => by simp [F21_l2]) (n := f) (by omega)
    rw [allMem] at key
    rcases key with ⟨h, _⟩ | ⟨_, e⟩
    · exact absurd h hall
    · exact e
end Go.Proofs.Ytlmgjjmighajdaa
