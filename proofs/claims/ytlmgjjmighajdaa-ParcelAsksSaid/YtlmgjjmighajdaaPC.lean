/-
  Whether a stock is valid, and whether a deed can be done: the program and the reference agree. No condition.
-/
import Derived.Test.YtlmgjjmighajdaaPB
set_option linter.unusedSimpArgs false
set_option linter.unusedVariables false
namespace Go.Proofs.Ytlmgjjmighajdaa
open Go.Sl Go.Sx

theorem F22_l2_eq {f : Nat} {k3 : Int → Option Int} {lots : List Lot} (hl : LotsOk lots) (y : Int) {hold : List (List Part)} (h4 : hold.length ≤ 4) (hf : 40 < f) :
    ((∀ p ∈ hold, GoodHeap lots p) ∧ F22_l2 f k3 lots y hold f 0 = (if sumH hold ≤ 100000000 then k3 (w64 (y + 1)) else some 62)) ∨ ((¬ ∀ p ∈ hold, GoodHeap lots p) ∧ F22_l2 f k3 lots y hold f 0 = some 62) := by
  by_cases hall : ∀ p ∈ hold, GoodHeap lots p
  · left
    refine ⟨hall, ?_⟩
    have key := loop_all0 (L := F22_l2 f k3 lots y hold) (len := hold.length) (good := fun j => True) (no := some 62) (yes := (if sumH hold ≤ 100000000 then k3 (w64 (y + 1)) else some 62)) (fun n i hi => by
      have hg := hall _ (List.getElem_mem hi)
      simp only [F22_l2, lt_len, hi, decide_true, cond_true, getI_nat hi, Option.bind_some, F76_73]
      rcases F73_eq (f := f) (l := hold[i]) hf with ⟨_, e⟩ | ⟨hn, _⟩
      · rw [e]
        have hne : ¬ hold[i].length = 0 := fun e => hg.ne (List.eq_nil_of_length_eq_zero e)
        have hne' : ((hold[i].length : Int) == 0) = false := by simpa using (show ¬ (hold[i].length : Int) = 0 by omega)
        simp only [Option.bind_some, Bool.not_true, cond_false, F22_j1, hne']
        rcases F22_l3_eq (k1 := F22_l2 f k3 lots y hold n) hl hi hg.ok.1 hf with ⟨_, e2⟩ | ⟨hn, _⟩
        · exact .inl ⟨trivial, by rw [e2, succ_w (by omega)]⟩
        · exact absurd hg.lots hn
      · exact absurd hg.ok hn) (fun n => by
        have e := F75_eq (f := f) h4 (fun x hx => (hall x hx).ok) hf
        simp only [F22_l2, lt_len, Nat.lt_irrefl, decide_false, cond_false, F77_75, e, Option.bind_some]
        by_cases hs : sumH hold ≤ 100000000
        · have : ¬ sumH hold > 100000000 := by omega
          simp [hs, this]
        · have : sumH hold > 100000000 := by omega
          simp [hs, this]) (n := f) (by omega)
    rcases key with ⟨_, e⟩ | ⟨hn, _⟩
    · exact e
    · exact absurd (fun _ _ => trivial) hn
  · right
    refine ⟨hall, ?_⟩
    have key := loop_all0 (L := F22_l2 f k3 lots y hold) (len := hold.length) (good := fun j => ∀ h : j < hold.length, GoodHeap lots hold[j]) (no := some 62) (yes := F22_l2 f k3 lots y hold 1 (hold.length : Int)) (fun n i hi => by
      simp only [F22_l2, lt_len, hi, decide_true, cond_true, getI_nat hi, Option.bind_some, F76_73]
      rcases F73_eq (f := f) (l := hold[i]) hf with ⟨hok, e⟩ | ⟨hn, e⟩
      · rw [e]
        by_cases hne : hold[i] = []
        · exact .inr ⟨fun k => (k trivial).ne hne, by simp [hne, F22_j1]⟩
        · have hne' : ((hold[i].length : Int) == 0) = false := by
            have : ¬ hold[i].length = 0 := fun e => hne (List.eq_nil_of_length_eq_zero e)
            simpa using (show ¬ (hold[i].length : Int) = 0 by omega)
          simp only [Option.bind_some, Bool.not_true, cond_false, F22_j1, hne']
          rcases F22_l3_eq (k1 := F22_l2 f k3 lots y hold n) hl hi hok.1 hf with ⟨hp, e2⟩ | ⟨hn, e2⟩
          · exact .inl ⟨fun _ => ⟨hok, hne, hp⟩, by rw [e2, succ_w (by omega)]⟩
          · exact .inr ⟨fun k => hn (k trivial).lots, e2⟩
      · exact .inr ⟨fun k => hn (k trivial).ok, by simp [e, F22_j1]⟩) (fun n => by simp [F22_l2]) (n := f) (by omega)
    rw [allMem] at key
    rcases key with ⟨h, _⟩ | ⟨_, e⟩
    · exact absurd h hall
    · exact e
structure StockOk (lots : List Lot) (holds : List (List (List Part))) : Prop where
  lok : LotsOk lots
  hok : ∀ l ∈ holds, GoodHold lots l
theorem F21_eq {f : Nat} {lots : List Lot} {holds : List (List (List Part))} (h9 : holds.length = 9) (hf : 40 < f) : (StockOk lots holds ∧ F21 f lots holds = some 0) ∨ (¬ StockOk lots holds ∧ F21 f lots holds = some 62) := by
  unfold F21
  rcases F19_eq (l := lots) hf with ⟨hl, e⟩ | ⟨hl, e⟩
  · rw [e]
    have key := loop_all0 (L := F21_l1 f lots holds) (len := 9) (good := fun j => ∀ h : j < holds.length, GoodHold lots holds[j]) (no := some 62) (yes := some 0) (fun n i hi => by
      have hi' : i < holds.length := by omega
      have hlt : decide ((i : Int) < 9) = true := by simpa using (show (i : Int) < 9 by omega)
      simp only [F21_l1, hlt, cond_true, getI_nat hi', Option.bind_some]
      by_cases h4 : holds[i].length ≤ 4
      · have h4' : decide ((holds[i].length : Int) > 4) = false := by simpa using (show (holds[i].length : Int) ≤ 4 by omega)
        rw [h4', cond_false]
        rcases F21_l2_eq (k3 := F21_l1 f lots holds n) hl (i : Int) h4 hf with ⟨hg, e⟩ | ⟨hg, e⟩
        · by_cases hs : sumH holds[i] ≤ 100000000
          · exact .inl ⟨fun _ => ⟨h4, hg, hs⟩, by rw [e, if_pos hs, succ_w (by omega)]⟩
          · exact .inr ⟨fun k => hs (k hi').sum, by rw [e, if_neg hs]⟩
        · exact .inr ⟨fun k => hg (k hi').heaps, e⟩
      · have h4' : decide ((holds[i].length : Int) > 4) = true := by simpa using (show (holds[i].length : Int) > 4 by omega)
        exact .inr ⟨fun k => h4 (k hi').len, by rw [h4', cond_true]⟩) (fun n => by simp [F21_l1]) (n := f) (by omega)
    rw [← h9, allMem] at key
    rcases key with ⟨h, e⟩ | ⟨h, e⟩
    · exact .inl ⟨⟨hl, h⟩, by simpa using e⟩
    · exact .inr ⟨fun k => h k.hok, by simpa using e⟩
  · exact .inr ⟨fun k => hl k.lok, by rw [e]; simp⟩
theorem F22_eq {f : Nat} {lots : List Lot} {holds : List (List (List Part))} (h9 : holds.length = 9) (hf : 40 < f) : (StockOk lots holds ∧ F22 f lots holds = some 0) ∨ (¬ StockOk lots holds ∧ F22 f lots holds = some 62) := by
  unfold F22
  rcases F19_eq (l := lots) hf with ⟨hl, e⟩ | ⟨hl, e⟩
  · rw [F20_19, e]
    have key := loop_all0 (L := F22_l1 f lots holds) (len := 9) (good := fun j => ∀ h : j < holds.length, GoodHold lots holds[j]) (no := some 62) (yes := some 0) (fun n i hi => by
      have hi' : i < holds.length := by omega
      have hlt : decide ((i : Int) < 9) = true := by simpa using (show (i : Int) < 9 by omega)
      simp only [F22_l1, hlt, cond_true, getI_nat hi', Option.bind_some]
      by_cases h4 : holds[i].length ≤ 4
      · have h4' : decide ((holds[i].length : Int) > 4) = false := by simpa using (show (holds[i].length : Int) ≤ 4 by omega)
        rw [h4', cond_false]
        rcases F22_l2_eq (k3 := F22_l1 f lots holds n) hl (i : Int) h4 hf with ⟨hg, e⟩ | ⟨hg, e⟩
        · by_cases hs : sumH holds[i] ≤ 100000000
          · exact .inl ⟨fun _ => ⟨h4, hg, hs⟩, by rw [e, if_pos hs, succ_w (by omega)]⟩
          · exact .inr ⟨fun k => hs (k hi').sum, by rw [e, if_neg hs]⟩
        · exact .inr ⟨fun k => hg (k hi').heaps, e⟩
      · have h4' : decide ((holds[i].length : Int) > 4) = true := by simpa using (show (holds[i].length : Int) > 4 by omega)
        exact .inr ⟨fun k => h4 (k hi').len, by rw [h4', cond_true]⟩) (fun n => by simp [F22_l1]) (n := f) (by omega)
    rw [← h9, allMem] at key
    rcases key with ⟨h, e⟩ | ⟨h, e⟩
    · exact .inl ⟨⟨hl, h⟩, by simpa using e⟩
    · exact .inr ⟨fun k => h k.hok, by simpa using e⟩
  · exact .inr ⟨fun k => hl k.lok, by rw [F20_19, e]; simp⟩

/-! ### A deed -/
def deeds : List (Int × DRow) := putK (putK (putK (putK (putK (putK ([]) 1 (⟨true, false, true, true, (some 138)⟩ : DRow)) 2 (⟨true, false, true, true, (some 139)⟩ : DRow)) 3 (⟨false, true, false, true, (some 140)⟩ : DRow)) 4 (⟨false, true, true, true, (some 141)⟩ : DRow)) 5 (⟨false, true, false, true, (some 142)⟩ : DRow)) 6 (⟨false, true, false, false, (some 143)⟩ : DRow)
theorem F125_eq (f : Nat) : F125 f = some deeds := rfl
theorem deeds_at (k : Int) : (k = 1 ∧ getK deeds k = some ⟨true, false, true, true, some 138⟩) ∨ (k = 2 ∧ getK deeds k = some ⟨true, false, true, true, some 139⟩) ∨ (k = 3 ∧ getK deeds k = some ⟨false, true, false, true, some 140⟩) ∨
    (k = 4 ∧ getK deeds k = some ⟨false, true, true, true, some 141⟩) ∨ (k = 5 ∧ getK deeds k = some ⟨false, true, false, true, some 142⟩) ∨ (k = 6 ∧ getK deeds k = some ⟨false, true, false, false, some 143⟩) ∨ ((k < 1 ∨ 6 < k) ∧ getK deeds k = none) := by
  by_cases h1 : k = 1
  · subst h1; exact .inl ⟨rfl, rfl⟩
  by_cases h2 : k = 2
  · subst h2; exact .inr (.inl ⟨rfl, rfl⟩)
  by_cases h3 : k = 3
  · subst h3; exact .inr (.inr (.inl ⟨rfl, rfl⟩))
  by_cases h4 : k = 4
  · subst h4; exact .inr (.inr (.inr (.inl ⟨rfl, rfl⟩)))
  by_cases h5 : k = 5
  · subst h5; exact .inr (.inr (.inr (.inr (.inl ⟨rfl, rfl⟩))))
  by_cases h6 : k = 6
  · subst h6; exact .inr (.inr (.inr (.inr (.inr (.inl ⟨rfl, rfl⟩)))))
  refine .inr (.inr (.inr (.inr (.inr (.inr ⟨by omega, ?_⟩)))))
  have g : ∀ j : Int, k ≠ j → ((j == k) = false) := fun j h => by simpa using fun e => h e.symm
  show getK [(1, _), (2, _), (3, _), (4, _), (5, _), (6, _)] k = none
  simp [getK, g 1 h1, g 2 h2, g 3 h3, g 4 h4, g 5 h5, g 6 h6]
theorem F130_eq (f : Nat) (x : Int) : F130 f x = some (decide (0 ≤ x ∧ x ≤ 8)) := by unfold F130; simp only [F71_eq, Option.bind_some]
theorem F118_eq (f : Nat) (x : Int) : F118 f x = some (decide (0 ≤ x ∧ x ≤ 8)) := by unfold F118; simp only [F72_eq, Option.bind_some]
end Go.Proofs.Ytlmgjjmighajdaa
