/-
  Whether lots, heaps and stocks are valid: what the program reckons, and what the reference reckons, in plain words. No condition.
-/
import Derived.Test.YtlmgjjmighajdaaRC
set_option linter.unusedSimpArgs false
set_option linter.unusedVariables false
namespace Go.Proofs.Ytlmgjjmighajdaa
open Go.Sl Go.Sx

theorem w64_id {n : Int} (h1 : -9223372036854775808 ≤ n) (h2 : n ≤ 9223372036854775807) : w64 n = n := by
  unfold w64 IntKind.wrap
  simp [IntKind.bits, IntKind.signed]
  omega
theorem succ_w {i : Nat} (h : i < 4000000000) : w64 ((i : Int) + 1) = ((i + 1 : Nat) : Int) := by
  rw [w64_id (by omega) (by omega)]; simp
theorem pred_w {i : Nat} (h : i < 4000000000) (h0 : 0 < i) : w64 ((i : Int) - 1) = ((i - 1 : Nat) : Int) := by
  rw [w64_id (by omega) (by omega)]; omega
theorem sane_true : F16 200 = some true := by kernel_rfl

/-! ### Loops -/
theorem loop_all {ρ : Type} {L : Nat → Int → Option ρ} {len : Nat} {good : Nat → Prop} {no yes : Option ρ}
    (h : ∀ n i, i < len → (good i ∧ L (n + 1) (i : Int) = L n ((i + 1 : Nat) : Int)) ∨ (¬ good i ∧ L (n + 1) (i : Int) = no))
    (he : ∀ n, L (n + 1) (len : Int) = yes) : ∀ n i, i ≤ len → len - i < n → ((∀ j, i ≤ j → j < len → good j) ∧ L n (i : Int) = yes) ∨ ((¬ ∀ j, i ≤ j → j < len → good j) ∧ L n (i : Int) = no)
  | 0, i, _, hn => by omega
  | n + 1, i, hi, hn => by
    rcases Nat.lt_or_ge i len with hlt | hge
    · rcases h n i hlt with ⟨hg, e⟩ | ⟨hg, e⟩
      · rw [e]
        rcases loop_all h he n (i + 1) (by omega) (by omega) with ⟨h1, h2⟩ | ⟨h1, h2⟩
        · exact .inl ⟨fun j hj hl => by rcases Nat.eq_or_lt_of_le hj with e | e; exact e ▸ hg; exact h1 j e hl, h2⟩
        · exact .inr ⟨fun hall => h1 fun j hj hl => hall j (by omega) hl, h2⟩
      · exact .inr ⟨fun hall => hg (hall i (Nat.le_refl _) hlt), e⟩
    · have : i = len := by omega
      subst this
      exact .inl ⟨fun j hj hl => by omega, he n⟩
theorem loop_all0 {ρ : Type} {L : Nat → Int → Option ρ} {len : Nat} {good : Nat → Prop} {no yes : Option ρ}
    (h : ∀ n i, i < len → (good i ∧ L (n + 1) (i : Int) = L n ((i + 1 : Nat) : Int)) ∨ (¬ good i ∧ L (n + 1) (i : Int) = no))
    (he : ∀ n, L (n + 1) (len : Int) = yes) {n : Nat} (hn : len < n) : ((∀ j, j < len → good j) ∧ L n 0 = yes) ∨ ((¬ ∀ j, j < len → good j) ∧ L n 0 = no) := by
  rcases loop_all h he n 0 (by omega) (by omega) with ⟨h1, h2⟩ | ⟨h1, h2⟩
  · exact .inl ⟨fun j hj => h1 j (by omega) hj, h2⟩
  · exact .inr ⟨fun h => h1 fun j _ hj => h j hj, h2⟩
theorem getI_nat {α : Type} {xs : List α} {i : Nat} (h : i < xs.length) : getI xs (i : Int) = some xs[i] := getI_of h
theorem lt_len {i n : Nat} : decide ((i : Int) < (n : Int)) = decide (i < n) := by
  by_cases h : i < n
  · have : (i : Int) < n := by omega
    simp [h, this]
  · have : ¬ (i : Int) < n := by omega
    simp [h, this]

/-! ### A lot -/
theorem F71_eq (f : Nat) (x a b : Int) : F71 f x a b = some (decide (a ≤ x ∧ x ≤ b)) := by
  unfold F71 F71_j1
  by_cases h1 : a ≤ x <;> by_cases h2 : x ≤ b <;> simp [h1, h2]
theorem F72_eq (f : Nat) (x a b : Int) : F72 f x a b = some (decide (a ≤ x ∧ x ≤ b)) := by
  unfold F72 F72_j1
  by_cases h1 : a ≤ x <;> by_cases h2 : x ≤ b <;> simp [h1, h2]
structure LotOk (l : Lot) : Prop where
  id0 : 1 ≤ l.id
  id1 : l.id ≤ 9999
  ow0 : 1 ≤ l.owner
  ow1 : l.owner ≤ 9
  gr0 : 1 ≤ l.grade
  gr1 : l.grade ≤ 9
  we0 : 0 ≤ l.wet
  we1 : l.wet ≤ 10000
theorem F17_eq (f : Nat) (l : Lot) : (LotOk l ∧ F17 f l.id l.owner l.grade l.wet = some 0) ∨ (¬ LotOk l ∧ F17 f l.id l.owner l.grade l.wet = some 60) := by
  unfold F17 F17_j1
  simp only [F71_eq, Option.bind_some]
  by_cases h1 : 1 ≤ l.id ∧ l.id ≤ 9999
  · by_cases h2 : 1 ≤ l.owner ∧ l.owner ≤ 9
    · by_cases h3 : 1 ≤ l.grade ∧ l.grade ≤ 9
      · by_cases h4 : 0 ≤ l.wet ∧ l.wet ≤ 10000
        · exact .inl ⟨⟨h1.1, h1.2, h2.1, h2.2, h3.1, h3.2, h4.1, h4.2⟩, by simp [h1, h2, h3, h4]⟩
        · exact .inr ⟨fun k => h4 ⟨k.we0, k.we1⟩, by simp [h1, h2, h3, h4]⟩
      · exact .inr ⟨fun k => h3 ⟨k.gr0, k.gr1⟩, by simp [h1, h2, h3]⟩
    · exact .inr ⟨fun k => h2 ⟨k.ow0, k.ow1⟩, by simp [h1, h2]⟩
  · exact .inr ⟨fun k => h1 ⟨k.id0, k.id1⟩, by simp [h1]⟩
theorem F18_17 (f : Nat) (a b c d : Int) : F18 f a b c d = F17 f a b c d := by
  unfold F18 F17 F18_j1 F17_j1
  simp only [F71_eq, F72_eq]

/-! ### Lots -/
def LotsOk (l : List Lot) : Prop := l.length ≤ 40 ∧ (∀ x ∈ l, LotOk x) ∧ l.Pairwise fun a b => a.id < b.id
theorem pairs_of {α : Type} {r : α → α → Prop} (tr : ∀ a b c, r a b → r b c → r a c) : ∀ {l : List α}, (∀ j (h : j + 1 < l.length), r l[j] l[j + 1]) → l.Pairwise r
  | [], _ => List.Pairwise.nil
  | [_], _ => List.pairwise_singleton _ _
  | a :: b :: l, h => by
    have ih := pairs_of tr (l := b :: l) fun j hj => h (j + 1) (by simpa using hj)
    refine List.pairwise_cons.2 ⟨fun c hc => ?_, ih⟩
    have h0 : r a b := h 0 (by simp)
    rcases List.mem_cons.1 hc with rfl | hc
    · exact h0
    · exact tr _ _ _ h0 ((List.pairwise_cons.1 ih).1 c hc)
theorem pairs_at {α : Type} {r : α → α → Prop} : ∀ {l : List α}, l.Pairwise r → ∀ {i j : Nat} (hi : i < l.length) (hj : j < l.length), i < j → r l[i] l[j] := by
  intro l hl i j hi hj hij
  exact List.pairwise_iff_getElem.1 hl i j hi hj hij
def adjL (l : List Lot) (j : Nat) : Prop := ∀ h : j < l.length, LotOk l[j] ∧ (0 < j → l[j - 1].id < l[j].id)
theorem lotsOk_iff {l : List Lot} (h : l.length ≤ 40) : (∀ j, j < l.length → adjL l j) ↔ LotsOk l := by
  constructor
  · intro k
    refine ⟨h, fun x hx => ?_, pairs_of (fun a b c h1 h2 => by omega) fun j hj => ?_⟩
    · obtain ⟨j, hj, rfl⟩ := List.getElem_of_mem hx
      exact (k j hj hj).1
    · exact (k (j + 1) hj hj).2 (by omega)
  · rintro ⟨_, h1, h2⟩ j _ hj
    exact ⟨h1 _ (List.getElem_mem _), fun h0 => pairs_at h2 (by omega) hj (by omega)⟩
theorem F19_eq {f : Nat} {l : List Lot} (hf : 40 < f) : (LotsOk l ∧ F19 f l = some 0) ∨ (¬ LotsOk l ∧ F19 f l = some 60) := by
  unfold F19
  by_cases h40 : (l.length : Int) > 40
  · exact .inr ⟨fun k => by have := k.1; omega, by simp [h40]⟩
  · have h41 : l.length ≤ 40 := by omega
    simp only [h40, decide_false, cond_false]
    rw [← lotsOk_iff h41]
    refine loop_all0 (L := F19_l1 f l) (len := l.length) (fun n i hi => ?_) (fun n => ?_) (by omega)
    · simp only [F19_l1, lt_len, hi, decide_true, cond_true, getI_nat hi, Option.bind_some, F19_j1]
      rw [succ_w (by omega)]
      rcases F17_eq f l[i] with ⟨g1, e⟩ | ⟨g1, e⟩
      · rw [e]
        simp only [Option.bind_some]
        by_cases h0 : 0 < i
        · have h0' : (i : Int) > 0 := by omega
          simp only [h0', decide_true, pred_w (i := i) (by omega) h0, getI_nat (show i - 1 < l.length by omega), Option.bind_some]
          by_cases hg : l[i - 1].id ≥ l[i].id
          · exact .inr ⟨fun k => by have := (k hi).2 h0; omega, by simp [hg]⟩
          · exact .inl ⟨fun h => ⟨g1, fun _ => by omega⟩, by simp [hg]⟩
        · have h0' : ¬ (i : Int) > 0 := by omega
          exact .inl ⟨fun h => ⟨g1, fun k => absurd k h0⟩, by simp [h0]⟩
      · exact .inr ⟨fun k => g1 (k hi).1, by rw [e]; simp⟩
    · simp [F19_l1]
theorem F20_19 (f : Nat) (l : List Lot) : F20 f l = F19 f l := by
  unfold F20 F19
  have : ∀ n y, F20_l1 f l n y = F19_l1 f l n y := by
    intro n
    induction n with
    | zero => intro y; rfl
    | succ n ih =>
      intro y
      have ih' : F20_l1 f l n = F19_l1 f l n := funext ih
      simp only [F20_l1, F19_l1, ih', F20_j1, F19_j1, F18_17]
      cases h : getI l y with
      | none => simp
      | some p => simp
  rw [this]

/-! ### A heap -/
def sumM (h : List Part) : Int := (h.map (·.mass)).sum
def sumH (l : List (List Part)) : Int := (l.map sumM).sum
structure PartOk (p : Part) : Prop where
  l0 : 1 ≤ p.lot
  l1 : p.lot ≤ 9999
  m0 : 1 ≤ p.mass
  m1 : p.mass ≤ 100000000
def HeapOk (h : List Part) : Prop := h.length ≤ 40 ∧ (∀ p ∈ h, PartOk p) ∧ (h.Pairwise fun a b => a.lot < b.lot) ∧ sumM h ≤ 100000000
def adjP (l : List Part) (j : Nat) : Prop := ∀ h : j < l.length, PartOk l[j] ∧ (0 < j → l[j - 1].lot < l[j].lot)
theorem sum_app : ∀ (a b : List Int), (a ++ b).sum = a.sum + b.sum
  | [], b => by simp
  | x :: a, b => by simp only [List.cons_append, List.sum_cons, sum_app a b]; omega
theorem sumM_app (a b : List Part) : sumM (a ++ b) = sumM a + sumM b := by unfold sumM; rw [List.map_append, sum_app]
theorem sumH_app (a b : List (List Part)) : sumH (a ++ b) = sumH a + sumH b := by unfold sumH; rw [List.map_append, sum_app]
theorem sumM_take {l : List Part} {i : Nat} (hi : i < l.length) : sumM (l.take (i + 1)) = sumM (l.take i) + l[i].mass := by
  rw [List.take_succ_eq_append_getElem hi, sumM_app]
  simp [sumM]
theorem sumM_bound : ∀ {l : List Part}, (∀ p ∈ l, PartOk p) → 0 ≤ sumM l ∧ sumM l ≤ 100000000 * l.length
  | [], _ => by simp [sumM]
  | p :: l, h => by
    have ih := sumM_bound (l := l) fun q hq => h q (List.mem_cons_of_mem _ hq)
    have hp := h p (by simp)
    have := hp.m0; have := hp.m1
    simp only [sumM, List.map_cons, List.sum_cons, List.length_cons] at ih ⊢
    omega
theorem heapOk_iff {l : List Part} (h : l.length ≤ 40) : ((∀ j, j < l.length → adjP l j) ∧ sumM l ≤ 100000000) ↔ HeapOk l := by
  constructor
  · rintro ⟨k, hs⟩
    refine ⟨h, fun x hx => ?_, pairs_of (fun a b c h1 h2 => by omega) fun j hj => ?_, hs⟩
    · obtain ⟨j, hj, rfl⟩ := List.getElem_of_mem hx
      exact (k j hj hj).1
    · exact (k (j + 1) hj hj).2 (by omega)
  · rintro ⟨_, h1, h2, h3⟩
    exact ⟨fun j _ hj => ⟨h1 _ (List.getElem_mem _), fun h0 => pairs_at h2 (by omega) hj (by omega)⟩, h3⟩
theorem F73_loop {f : Nat} {l : List Part} (h40 : l.length ≤ 40) : ∀ n i, i ≤ l.length → l.length - i < n → (∀ j, j < i → adjP l j) →
    ((∀ j, j < l.length → adjP l j) ∧ F73_l1 f l n (sumM (l.take i)) (i : Int) = some (decide (sumM l ≤ 100000000))) ∨ ((¬ ∀ j, j < l.length → adjP l j) ∧ F73_l1 f l n (sumM (l.take i)) (i : Int) = some false)
  | 0, i, _, hn, _ => by omega
  | n + 1, i, hi, hn, hd => by
    rcases Nat.lt_or_ge i l.length with hlt | hge
    · have hb : 0 ≤ sumM (l.take i) ∧ sumM (l.take i) ≤ 100000000 * (l.take i).length := sumM_bound fun p hp => by
        obtain ⟨j, hj, rfl⟩ := List.getElem_of_mem hp
        simp only [List.length_take] at hj
        rw [List.getElem_take]
        exact (hd j (by omega) (by omega)).1
      have hb2 : (l.take i).length ≤ 40 := by rw [List.length_take]; omega
      have next : adjP l i → ((∀ j, j < l.length → adjP l j) ∧ F73_l1 f l n (w64 (sumM (l.take i) + l[i].mass)) (w64 ((i : Int) + 1)) = some (decide (sumM l ≤ 100000000))) ∨ ((¬ ∀ j, j < l.length → adjP l j) ∧ F73_l1 f l n (w64 (sumM (l.take i) + l[i].mass)) (w64 ((i : Int) + 1)) = some false) := fun g => by
        have gp := (g hlt).1
        have := gp.m0; have := gp.m1
        rw [succ_w (by omega), w64_id (by omega) (by omega), ← sumM_take hlt]
        exact F73_loop h40 n (i + 1) (by omega) (by omega) fun j hj => by
          rcases Nat.lt_or_ge j i with h | h
          · exact hd j h
          · have : j = i := by omega
            subst this; exact g
      simp only [F73_l1, lt_len, hlt, decide_true, cond_true, getI_nat hlt, Option.bind_some, F73_j1, F71_eq]
      by_cases h1 : 1 ≤ l[i].lot ∧ l[i].lot ≤ 9999
      · by_cases h2 : 1 ≤ l[i].mass ∧ l[i].mass ≤ 100000000
        · by_cases h0 : 0 < i
          · have h0' : (i : Int) > 0 := by omega
            simp only [h1, h2, h0', and_self, decide_true, Bool.not_true, cond_false, cond_true, pred_w (i := i) (by omega) h0, getI_nat (show i - 1 < l.length by omega), Option.bind_some]
            by_cases hg : l[i - 1].lot ≥ l[i].lot
            · exact .inr ⟨fun k => by have := (k i hlt hlt).2 h0; omega, by simp [hg]⟩
            · simp only [hg, decide_false, cond_false]
              exact next fun h => ⟨⟨h1.1, h1.2, h2.1, h2.2⟩, fun _ => by omega⟩
          · have h0' : ¬ (i : Int) > 0 := by omega
            simp only [h1, h2, h0', and_self, decide_true, decide_false, Bool.not_true, cond_false]
            exact next fun h => ⟨⟨h1.1, h1.2, h2.1, h2.2⟩, fun k => absurd k h0⟩
        · exact .inr ⟨fun k => h2 ⟨(k i hlt hlt).1.m0, (k i hlt hlt).1.m1⟩, by simp [h1, h2]⟩
      · exact .inr ⟨fun k => h1 ⟨(k i hlt hlt).1.l0, (k i hlt hlt).1.l1⟩, by simp [h1]⟩
    · have : i = l.length := by omega
      subst this
      refine .inl ⟨fun j hj => hd j hj, ?_⟩
      simp [F73_l1]
theorem F73_eq {f : Nat} {l : List Part} (hf : 40 < f) : (HeapOk l ∧ F73 f l = some true) ∨ (¬ HeapOk l ∧ F73 f l = some false) := by
  unfold F73
  by_cases h40 : (l.length : Int) > 40
  · exact .inr ⟨fun k => by have := k.1; omega, by simp [h40]⟩
  · have h41 : l.length ≤ 40 := by omega
    simp only [h40, decide_false, cond_false]
    rw [← heapOk_iff h41]
    have := F73_loop (f := f) h41 f 0 (by omega) (by omega) (fun j hj => by omega)
    simp only [List.take_zero] at this
    have e0 : sumM [] = 0 := rfl
    rw [e0] at this
    rcases this with ⟨h1, h2⟩ | ⟨h1, h2⟩
    · by_cases hs : sumM l ≤ 100000000
      · exact .inl ⟨⟨h1, hs⟩, by simpa [hs] using h2⟩
      · exact .inr ⟨fun k => hs k.2, by simpa [hs] using h2⟩
    · exact .inr ⟨fun k => h1 k.1, by simpa using h2⟩
theorem F76_73 (f : Nat) (l : List Part) : F76 f l = F73 f l := by
  unfold F76 F73
  have : ∀ n y z, F76_l1 f l n y z = F73_l1 f l n y z := by
    intro n
    induction n with
    | zero => intro y z; rfl
    | succ n ih =>
      intro y z
      have ih' : F76_l1 f l n = F73_l1 f l n := funext fun y => funext fun z => ih y z
      simp only [F76_l1, F73_l1, ih', F76_j1, F73_j1, F71_eq, F72_eq]
  rw [this]
/-! ### Masses -/
theorem mass_le {l : List Part} (h : HeapOk l) : 0 ≤ sumM l ∧ sumM l ≤ 100000000 := ⟨(sumM_bound h.2.1).1, h.2.2.2⟩
theorem sumM_take_le {l : List Part} (h : ∀ p ∈ l, PartOk p) (i : Nat) : 0 ≤ sumM (l.take i) ∧ sumM (l.take i) ≤ sumM l := by
  have e : l = l.take i ++ l.drop i := (List.take_append_drop i l).symm
  have h1 := sumM_bound (l := l.take i) fun p hp => h p (List.mem_of_mem_take hp)
  have h2 := sumM_bound (l := l.drop i) fun p hp => h p (List.mem_of_mem_drop hp)
  have h3 : sumM l = sumM (l.take i) + sumM (l.drop i) := by rw [← sumM_app, List.take_append_drop]
  omega
theorem F90_loop {l : List Part} (h : HeapOk l) : ∀ n i, i ≤ l.length → l.length - i < n → F90_l1 l n (sumM (l.take i)) (i : Int) = some (sumM l)
  | 0, i, _, hn => by omega
  | n + 1, i, hi, hn => by
    have h40 := h.1
    rcases Nat.lt_or_ge i l.length with hlt | hge
    · have h1 := sumM_take_le h.2.1 (i + 1)
      have h2 := mass_le h
      rw [sumM_take hlt] at h1
      simp only [F90_l1, lt_len, hlt, decide_true, cond_true, getI_nat hlt, Option.bind_some]
      rw [succ_w (by omega), w64_id (by omega) (by omega), ← sumM_take hlt]
      exact F90_loop h n (i + 1) (by omega) (by omega)
    · have : i = l.length := by omega
      subst this
      simp [F90_l1]
theorem F90_eq {f : Nat} {l : List Part} (h : HeapOk l) (hf : 40 < f) : F90 f l = some (sumM l) := by
  have := F90_loop h f 0 (by omega) (by have := h.1; omega)
  simpa [F90, sumM] using this
theorem F92_90 (f : Nat) (l : List Part) : F92 f l = F90 f l := by
  unfold F92 F90
  have : ∀ n y z, F92_l1 l n y z = F90_l1 l n y z := by
    intro n
    induction n with
    | zero => intro y z; rfl
    | succ n ih =>
      intro y z
      have ih' : F92_l1 l n = F90_l1 l n := funext fun y => funext fun z => ih y z
      simp only [F92_l1, F90_l1, ih']
  rw [this]
theorem sumH_take {l : List (List Part)} {i : Nat} (hi : i < l.length) : sumH (l.take (i + 1)) = sumH (l.take i) + sumM l[i] := by
  rw [List.take_succ_eq_append_getElem hi, sumH_app]
  simp [sumH]
theorem sumH_bound : ∀ {l : List (List Part)}, (∀ h ∈ l, HeapOk h) → 0 ≤ sumH l ∧ sumH l ≤ 100000000 * l.length
  | [], _ => by simp [sumH]
  | p :: l, h => by
    have ih := sumH_bound (l := l) fun q hq => h q (List.mem_cons_of_mem _ hq)
    have hp := mass_le (h p (by simp))
    simp only [sumH, List.map_cons, List.sum_cons, List.length_cons] at ih ⊢
    omega
theorem F75_loop {f : Nat} {l : List (List Part)} (hl : l.length ≤ 4) (h : ∀ x ∈ l, HeapOk x) (hf : 40 < f) : ∀ n i, i ≤ l.length → l.length - i < n → F75_l1 f l n (sumH (l.take i)) (i : Int) = some (sumH l)
  | 0, i, _, hn => by omega
  | n + 1, i, hi, hn => by
    rcases Nat.lt_or_ge i l.length with hlt | hge
    · have h1 := sumH_bound (l := l.take (i + 1)) fun x hx => h x (List.mem_of_mem_take hx)
      have h2 : (l.take (i + 1)).length ≤ 4 := by rw [List.length_take]; omega
      rw [sumH_take hlt] at h1
      simp only [F75_l1, lt_len, hlt, decide_true, cond_true, getI_nat hlt, Option.bind_some, F90_eq (h _ (List.getElem_mem _)) hf]
      rw [succ_w (by omega), w64_id (by omega) (by omega), ← sumH_take hlt]
      exact F75_loop hl h hf n (i + 1) (by omega) (by omega)
    · have : i = l.length := by omega
      subst this
      simp [F75_l1]
theorem F75_eq {f : Nat} {l : List (List Part)} (hl : l.length ≤ 4) (h : ∀ x ∈ l, HeapOk x) (hf : 40 < f) : F75 f l = some (sumH l) := by
  have := F75_loop hl h hf f 0 (by omega) (by omega)
  simpa [F75, sumH] using this
theorem F77_75 (f : Nat) (l : List (List Part)) : F77 f l = F75 f l := by
  unfold F77 F75
  have : ∀ n y z, F77_l1 f l n y z = F75_l1 f l n y z := by
    intro n
    induction n with
    | zero => intro y z; rfl
    | succ n ih =>
      intro y z
      have ih' : F77_l1 f l n = F75_l1 f l n := funext fun y => funext fun z => ih y z
      simp only [F77_l1, F75_l1, ih', F92_90]
  rw [this]
end Go.Proofs.Ytlmgjjmighajdaa
