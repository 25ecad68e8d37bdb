/-
  What an owner has, and may draw, of the plain functions that the walks compute (2). No condition.
-/
import Derived.Test.YtlmgjjmighajdaaQB
set_option linter.unusedSimpArgs false
set_option linter.unusedVariables false
namespace Go.Proofs.Ytlmgjjmighajdaa
open Go.Sl Go.Sx

theorem app_one {l : List Int} (h : l.length ≤ 100) (v : Int) : appC l [v] = some (l ++ [v]) := by
  unfold appC; rw [if_pos (by simp; omega)]
theorem take_map {S : List (List Part) → Int} {holds : List (List (List Part))} {i : Nat} (hi : i < holds.length) : (holds.take i).map S ++ [S holds[i]] = (holds.take (i + 1)).map S := by
  rw [List.take_succ_eq_append_getElem hi, List.map_append]; rfl
theorem F57_l2_eq {f : Nat} {lots : List Lot} {holds : List (List (List Part))} (hs : StockOk lots holds) (h9 : holds.length = 9) {i : Nat} (hi : i < 9) (k1 : List Int → Int → Option (List Int × Int)) (who : Int) (hf : 40 < f) :
    F57_l2 f k1 lots holds who ((holds.take i).map (ownH lots who)) (i : Int) f 0 0 = k1 ((holds.take (i + 1)).map (ownH lots who)) (w64 ((i : Int) + 1)) := by
  have hi' : i < holds.length := by omega
  have hg := hs.hok _ (List.getElem_mem hi')
  have key := loop_st (T := fun n j => F57_l2 f k1 lots holds who ((holds.take i).map (ownH lots who)) (i : Int) n (ownH lots who (holds[i].take j)) (j : Int)) (len := holds[i].length) (n := f) (out := k1 ((holds.take (i + 1)).map (ownH lots who)) (w64 ((i : Int) + 1))) (by have := hg.len; omega)
    (fun n j hj => by
      have h1 := ownH_bound hg who (j + 1)
      rw [ownH_take hj] at h1
      simp only [F57_l2, getI_nat hi', Option.bind_some, lt_len, hj, decide_true, cond_true, getI_nat hj, F116_eq hs.lok holds (hg.heaps _ (List.getElem_mem hj)) who hf]
      rw [succ_w (by have := hg.len; omega), w64_id (by omega) (by omega), ownH_take hj])
    (fun n => by
      simp only [F57_l2, getI_nat hi', Option.bind_some, lt_len, Nat.lt_irrefl, decide_false, cond_false, List.take_length]
      rw [app_one (by simp; omega)]
      simp only [Option.bind_some, take_map hi'])
  simpa [ownH, sumBy] using key
theorem F57_eq {f : Nat} {lots : List Lot} {holds : List (List (List Part))} (h9 : holds.length = 9) (who : Int) (hf : 40 < f) :
    (StockOk lots holds → (1 ≤ who ∧ who ≤ 9) → F57 f lots holds who = some (holds.map (ownH lots who), 0)) ∧ (StockOk lots holds → ¬ (1 ≤ who ∧ who ≤ 9) → F57 f lots holds who = some ([], 1)) ∧ (¬ StockOk lots holds → F57 f lots holds who = some ([], 62)) := by
  unfold F57
  rcases F22_eq (lots := lots) h9 hf with ⟨hs, e⟩ | ⟨hs, e⟩
  · rw [e]
    refine ⟨fun _ hw => ?_, fun _ hw => by simp [F72_eq, hw], fun h => absurd hs h⟩
    simp only [Option.bind_some, F72_eq, hw, and_self, decide_true, Bool.not_true, cond_false, bne_self_eq_false]
    have key := loop_st (T := fun n i => F57_l1 f lots holds who n ((holds.take i).map (ownH lots who)) (i : Int)) (len := 9) (n := f) (out := some (holds.map (ownH lots who), 0)) (by omega)
      (fun n i hi => by
        have h1 : decide ((i : Int) < 9) = true := by simpa using (show (i : Int) < 9 by omega)
        simp only [F57_l1, h1, cond_true]
        rw [F57_l2_eq hs h9 hi _ who hf, succ_w (by omega)])
      (fun n => by
        have h1 : holds.take 9 = holds := List.take_of_length_le (by omega)
        simp [F57_l1, h1])
    simpa using key
  · exact ⟨fun h => absurd h hs, fun h => absurd h hs, fun _ => by rw [e]; simp⟩

/-! ### Free -/
theorem own_all {lots : List Lot} {who : Int} : ∀ {p : List Part}, (∀ q ∈ p, PartOk q) → (sumBy (ownG lots who) p = sumM p ↔ ∀ q ∈ p, (theLot lots q.lot).owner = who)
  | [], _ => by simp [sumBy, sumM]
  | q :: p, h => by
    have ih := own_all (lots := lots) (who := who) (p := p) fun x hx => h x (List.mem_cons_of_mem _ hx)
    have hq := h q (List.mem_cons_self ..)
    have hb := ownG_bound (lots := lots) (who := who) hq
    have hle : sumBy (ownG lots who) p ≤ sumM p := by
      clear ih
      have : ∀ {p : List Part}, (∀ x ∈ p, PartOk x) → sumBy (ownG lots who) p ≤ sumM p := by
        intro p
        induction p with
        | nil => intro _; simp [sumBy, sumM]
        | cons x p ih =>
          intro h
          have h1 := ih fun y hy => h y (List.mem_cons_of_mem _ hy)
          have hx := h x (List.mem_cons_self ..)
          have h0 := hx.m0
          rw [sumBy_cons, sumM_by, sumBy_cons, ← sumM_by]
          have : ownG lots who x ≤ x.mass := by unfold ownG; split <;> omega
          omega
      exact this fun x hx => h x (List.mem_cons_of_mem _ hx)
    rw [sumBy_cons, sumM_by, sumBy_cons, ← sumM_by]
    have h0 := hq.m0
    simp only [List.mem_cons, forall_eq_or_imp]
    by_cases hw : (theLot lots q.lot).owner = who
    · have : ownG lots who q = q.mass := by simp [ownG, hw]
      rw [this]
      constructor
      · intro e; exact ⟨hw, ih.1 (by omega)⟩
      · intro ⟨_, e⟩; have := ih.2 e; omega
    · have : ownG lots who q = 0 := by simp [ownG, hw]
      rw [this]
      constructor
      · intro e; omega
      · intro ⟨e, _⟩; exact absurd e hw
/-- From the top down, while the heaps are one owner's. -/
def scan (own : Nat → Bool) (m : Nat → Int) : Nat → Int → Int
  | 0, acc => acc
  | j + 1, acc => if own j then scan own m j (acc + m j) else acc
def allOwn (lots : List Lot) (who : Int) (p : List Part) : Bool := p.all fun q => (theLot lots q.lot).owner == who
def freeH (lots : List Lot) (who : Int) (l : List (List Part)) : Int := scan (fun j => allOwn lots who (l.getD j [])) (fun j => sumM (l.getD j [])) l.length 0
theorem allOwn_iff {lots : List Lot} {who : Int} {p : List Part} : allOwn lots who p = true ↔ ∀ q ∈ p, (theLot lots q.lot).owner = who := by simp [allOwn]
theorem F54_l3_eq {f : Nat} {lots : List Lot} {holds : List (List (List Part))} (hl : LotsOk lots) (k1 : List Int → Int → Option (List Int × Int)) (k2 : List Int → Int → Option (List Int × Int)) (who y1 : Int) (y2 : List Int) (y3 : Int) {p : List Part} (hp : GoodHeap lots p) (hf : 40 < f) :
    (allOwn lots who p = true ∧ F54_l3 f k1 k2 lots holds who y1 y2 y3 p f 0 = F54_j1 f k1 k2 y1 y2 y3 p (-1)) ∨ (allOwn lots who p = false ∧ F54_l3 f k1 k2 lots holds who y1 y2 y3 p f 0 = k1 y2 (w64 (y1 + 1))) := by
  have key := loop_all0 (L := F54_l3 f k1 k2 lots holds who y1 y2 y3 p) (len := p.length) (good := fun j => ∀ h : j < p.length, (theLot lots p[j].lot).owner = who) (no := k1 y2 (w64 (y1 + 1))) (yes := F54_j1 f k1 k2 y1 y2 y3 p (-1)) (fun n j hj => by
    simp only [F54_l3, lt_len, hj, decide_true, cond_true, getI_nat hj, Option.bind_some, F115_eq hl holds (hp.lots _ (List.getElem_mem hj)) hf]
    by_cases hb : (theLot lots p[j].lot).owner = who
    · refine .inl ⟨fun _ => hb, ?_⟩
      simp only [hb, bne_self_eq_false, cond_false]
      rw [succ_w (by have := hp.ok.1; omega)]
    · refine .inr ⟨fun k => hb (k trivial), ?_⟩
      have hb' : ((theLot lots p[j].lot).owner != who) = true := by simpa using hb
      have h1 : decide ((j : Int) ≥ 0) = true := by simp
      simp only [hb', cond_true, F54_j1, h1]) (fun n => by simp [F54_l3]) (n := f) (by have := hp.ok.1; omega)
  have e2 : (∀ j, j < p.length → ∀ h : j < p.length, (theLot lots p[j].lot).owner = who) ↔ ∀ q : Part, q ∈ p → (theLot lots q.lot).owner = who := allMem (r := fun q : Part => (theLot lots q.lot).owner = who)
  rw [e2] at key
  rcases key with ⟨h, e⟩ | ⟨h, e⟩
  · exact .inl ⟨allOwn_iff.2 h, e⟩
  · exact .inr ⟨by rw [← Bool.not_eq_true, allOwn_iff]; exact h, e⟩
theorem getD_at {α : Type} {l : List α} {d : α} {j : Nat} (hj : j < l.length) : l.getD j d = l[j] := by simp [List.getD, hj]
theorem F54_l2_eq {f : Nat} {lots : List Lot} {holds : List (List (List Part))} (hs : StockOk lots holds) (h9 : holds.length = 9) {i : Nat} (hi : i < 9) (k1 : List Int → Int → Option (List Int × Int)) (who : Int) (hf : 40 < f) {hold : List (List Part)} (hg : GoodHold lots hold) (S : List (List Part) → Int) :
    ∀ (n j : Nat) (acc : Int), j ≤ hold.length → j < n → 0 ≤ acc → acc + 100000000 * j ≤ 4000000000 →
      F54_l2 f k1 lots holds who (i : Int) hold n (rowAt S holds i acc) ((j : Int) - 1) = k1 (rowAt S holds i (scan (fun j => allOwn lots who (hold.getD j [])) (fun j => sumM (hold.getD j [])) j acc)) (w64 ((i : Int) + 1))
  | 0, j, acc, _, hn, _, _ => by omega
  | n + 1, 0, acc, _, _, _, _ => by simp [F54_l2, scan]
  | n + 1, j + 1, acc, hj, hn, h0, hb => by
    have hj' : j < hold.length := hj
    have e1 : ((j + 1 : Nat) : Int) - 1 = (j : Int) := by omega
    have h1 : decide ((j : Int) ≥ 0) = true := by simp
    have hp := hg.heaps _ (List.getElem_mem hj')
    have hm := mass_le hp.ok
    rw [e1]
    simp only [F54_l2, h1, cond_true, getI_nat hj', Option.bind_some, scan, getD_at hj']
    rcases F54_l3_eq (f := f) (holds := holds) hs.lok k1 (F54_l2 f k1 lots holds who (i : Int) hold n) who (i : Int) (rowAt S holds i acc) (j : Int) hp hf with ⟨ha, e⟩ | ⟨ha, e⟩
    · rw [e, ha, if_pos rfl]
      have h2 : decide ((-1 : Int) ≥ 0) = false := by decide
      have h3 : w64 ((j : Int) - 1) = (j : Int) - 1 := w64_id (by omega) (by have := hg.len; omega)
      simp only [F54_j1, h2, cond_false, getRow _ h9 hi, setRow _ h9 hi, Option.bind_some, F90_eq hp.ok hf]
      push_cast at hb
      rw [w64_id (n := acc + sumM hold[j]) (by omega) (by omega), h3]
      exact F54_l2_eq hs h9 hi k1 who hf hg S n j _ (by omega) (by omega) (by omega) (by omega)
    · rw [e, ha, if_neg (by simp)]
theorem F54_eq {f : Nat} {lots : List Lot} {holds : List (List (List Part))} (h9 : holds.length = 9) (who : Int) (hf : 40 < f) :
    (StockOk lots holds → (1 ≤ who ∧ who ≤ 9) → F54 f lots holds who = some (holds.map (freeH lots who), 0)) ∧ (StockOk lots holds → ¬ (1 ≤ who ∧ who ≤ 9) → F54 f lots holds who = some ([], 1)) ∧ (¬ StockOk lots holds → F54 f lots holds who = some ([], 62)) := by
  unfold F54 F111
  rcases F21_eq (lots := lots) h9 hf with ⟨hs, e⟩ | ⟨hs, e⟩
  · rw [e]
    refine ⟨fun _ hw => ?_, fun _ hw => by simp [F71_eq, hw], fun h => absurd hs h⟩
    simp only [Option.bind_some, F71_eq, hw, and_self, decide_true, Bool.not_true, cond_false, bne_self_eq_false, mk9]
    have key := loop_st (T := fun n i => F54_l1 f lots holds who n (rowTo (freeH lots who) holds i) (i : Int)) (len := 9) (n := f) (out := some (holds.map (freeH lots who), 0)) (by omega)
      (fun n i hi => by
        have h1 : decide ((i : Int) < 9) = true := by simpa using (show (i : Int) < 9 by omega)
        have hi' : i < holds.length := by omega
        have hg := hs.hok _ (List.getElem_mem hi')
        have h4 := hg.len
        simp only [F54_l1, h1, cond_true, getI_nat hi', Option.bind_some]
        rw [rowTo_at _ _ hi, w64_id (by omega) (by omega), F54_l2_eq hs h9 hi _ who hf hg (freeH lots who) f _ 0 (by omega) (by omega) (by omega) (by omega), succ_w (by omega), ← rowAt_to _ h9 hi]
        rfl)
      (fun n => by simp [F54_l1, rowTo_end _ h9])
    rw [← rowTo_zero (freeH lots who) holds]
    exact key
  · exact ⟨fun h => absurd h hs, fun h => absurd h hs, fun _ => by rw [e]; simp⟩
theorem F58_l2_eq {f : Nat} {lots : List Lot} {holds : List (List (List Part))} (hs : StockOk lots holds) (h9 : holds.length = 9) {i : Nat} (hi : i < holds.length) (k1 : List Int → Int → Option (List Int × Int)) (who : Int) (hf : 40 < f) {y1 : List Int} (hy : y1.length ≤ 100) :
    ∀ (n j : Nat) (acc : Int), j ≤ holds[i].length → j < n → 0 ≤ acc → acc + 100000000 * j ≤ 4000000000 →
      F58_l2 f k1 lots holds who y1 (i : Int) n acc ((j : Int) - 1) = k1 (y1 ++ [scan (fun j => allOwn lots who (holds[i].getD j [])) (fun j => sumM (holds[i].getD j [])) j acc]) (w64 ((i : Int) + 1))
  | 0, j, acc, _, hn, _, _ => by omega
  | n + 1, 0, acc, _, _, _, _ => by simp [F58_l2, F58_j1, scan, app_one hy]
  | n + 1, j + 1, acc, hj, hn, h0, hb => by
    have hj' : j < holds[i].length := hj
    have e1 : ((j + 1 : Nat) : Int) - 1 = (j : Int) := by omega
    have h1 : decide ((j : Int) ≥ 0) = true := by simp
    have hg := hs.hok _ (List.getElem_mem hi)
    have hp := hg.heaps _ (List.getElem_mem hj')
    have hm := mass_le hp.ok
    have h3 : w64 ((j : Int) - 1) = (j : Int) - 1 := w64_id (by omega) (by have := hg.len; omega)
    rw [e1]
    simp only [F58_l2, h1, cond_true, getI_nat hi, getI_nat hj', Option.bind_some, scan, getD_at hj', F116_eq hs.lok holds hp who hf, F92_90, F90_eq hp.ok hf, F58_j1]
    by_cases ha : allOwn lots who holds[i][j] = true
    · have h2 : (sumBy (ownG lots who) holds[i][j] == sumM holds[i][j]) = true := by simpa using (own_all hp.ok.2.1).2 (allOwn_iff.1 ha)
      rw [h2, ha, if_pos rfl, cond_true, h3]
      push_cast at hb
      rw [w64_id (n := acc + sumM holds[i][j]) (by omega) (by omega)]
      exact F58_l2_eq hs h9 hi k1 who hf hy n j _ (by omega) (by omega) (by omega) (by omega)
    · have h2 : (sumBy (ownG lots who) holds[i][j] == sumM holds[i][j]) = false := by
        have : ¬ sumBy (ownG lots who) holds[i][j] = sumM holds[i][j] := fun e => ha (allOwn_iff.2 ((own_all hp.ok.2.1).1 e))
        simpa using this
      rw [h2, if_neg ha, cond_false, app_one hy]
      rfl
theorem F58_eq {f : Nat} {lots : List Lot} {holds : List (List (List Part))} (h9 : holds.length = 9) (who : Int) (hf : 40 < f) :
    (StockOk lots holds → (1 ≤ who ∧ who ≤ 9) → F58 f lots holds who = some (holds.map (freeH lots who), 0)) ∧ (StockOk lots holds → ¬ (1 ≤ who ∧ who ≤ 9) → F58 f lots holds who = some ([], 1)) ∧ (¬ StockOk lots holds → F58 f lots holds who = some ([], 62)) := by
  unfold F58
  rcases F22_eq (lots := lots) h9 hf with ⟨hs, e⟩ | ⟨hs, e⟩
  · rw [e]
    refine ⟨fun _ hw => ?_, fun _ hw => by simp [F72_eq, hw], fun h => absurd hs h⟩
    simp only [Option.bind_some, F72_eq, hw, and_self, decide_true, Bool.not_true, cond_false, bne_self_eq_false]
    have key := loop_st (T := fun n i => F58_l1 f lots holds who n ((holds.take i).map (freeH lots who)) (i : Int)) (len := 9) (n := f) (out := some (holds.map (freeH lots who), 0)) (by omega)
      (fun n i hi => by
        have h1 : decide ((i : Int) < 9) = true := by simpa using (show (i : Int) < 9 by omega)
        have hi' : i < holds.length := by omega
        have hg := hs.hok _ (List.getElem_mem hi')
        have h4 := hg.len
        simp only [F58_l1, h1, cond_true, getI_nat hi', Option.bind_some]
        rw [w64_id (by omega) (by omega), F58_l2_eq hs h9 hi' _ who hf (by simp; omega) f _ 0 (by omega) (by omega) (by omega) (by omega), succ_w (by omega), ← take_map hi']
        rfl)
      (fun n => by
        have h1 : holds.take 9 = holds := List.take_of_length_le (by omega)
        simp [F58_l1, h1])
    simpa using key
  · exact ⟨fun h => absurd h hs, fun h => absurd h hs, fun _ => by rw [e]; simp⟩
end Go.Proofs.Ytlmgjjmighajdaa
