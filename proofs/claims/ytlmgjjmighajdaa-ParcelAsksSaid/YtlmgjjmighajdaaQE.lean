/-
  Moisture, grades and what is held, of the plain functions that the walks compute. No condition.
-/
import Derived.Test.YtlmgjjmighajdaaQD
set_option linter.unusedSimpArgs false
set_option linter.unusedVariables false
namespace Go.Proofs.Ytlmgjjmighajdaa
open Go.Sl Go.Sx

/-! ### Wet -/
def wetG (lots : List Lot) (q : Part) : Int := q.mass * (theLot lots q.lot).wet
theorem wetG_bound {lots : List Lot} (hl : LotsOk lots) {q : Part} (h : PartOk q) (hq : Has lots q.lot) : 0 ≤ wetG lots q ∧ wetG lots q ≤ 10000000000000 := by
  unfold wetG
  have h0 := h.m0; have h1 := h.m1
  have hk := theLot_ok hl hq
  have w0 := hk.we0; have w1 := hk.we1
  refine ⟨Int.mul_nonneg (by omega) w0, ?_⟩
  have a1 : q.mass * (theLot lots q.lot).wet ≤ q.mass * 10000 := Int.mul_le_mul_of_nonneg_left w1 (by omega)
  omega
theorem wetG_all {lots : List Lot} (hl : LotsOk lots) {l : List (List Part)} (hg : GoodHold lots l) : ∀ p ∈ l, ∀ q ∈ p, 0 ≤ wetG lots q ∧ wetG lots q ≤ 10000000000000 := fun p hp q hq =>
  wetG_bound hl ((hg.heaps p hp).ok.2.1 q hq) ((hg.heaps p hp).lots q hq)
theorem F61_l2_eq {f : Nat} {lots : List Lot} (hl : LotsOk lots) (k1 : Int → Int → Option (Int × Int × Int)) (y1 : Int) {p : List Part} (hp : GoodHeap lots p) {v : Int} (hv : 0 ≤ v ∧ v ≤ 1600000000000000) (hf : 40 < f) :
    F61_l2 f k1 lots y1 p f v 0 = k1 (v + sumBy (wetG lots) p) (w64 (y1 + 1)) := by
  have key := loop_st (T := fun n j => F61_l2 f k1 lots y1 p n (v + sumBy (wetG lots) (p.take j)) (j : Int)) (len := p.length) (n := f) (out := k1 (v + sumBy (wetG lots) p) (w64 (y1 + 1))) (by have := hp.ok.1; omega)
    (fun n j hj => by
      have hb := wetG_bound hl (hp.ok.2.1 _ (List.getElem_mem hj)) (hp.lots _ (List.getElem_mem hj))
      have h1 := g_bound (g := wetG lots) hp (fun q hq => wetG_bound hl (hp.ok.2.1 q hq) (hp.lots q hq)) (j + 1)
      rw [sumBy_take _ hj] at h1
      obtain ⟨r, e1, e2⟩ := F74_lot (f := f) hl (hp.lots _ (List.getElem_mem hj)) hf
      simp only [F61_l2, lt_len, hj, decide_true, cond_true, getI_nat hj, Option.bind_some, e1, e2]
      have e3 : p[j].mass * (theLot lots p[j].lot).wet = wetG lots p[j] := rfl
      rw [succ_w (by have := hp.ok.1; omega), sumBy_take _ hj, e3, w64_id (n := wetG lots p[j]) (by omega) (by omega), w64_id (by omega) (by omega), Int.add_assoc])
    (fun n => by simp [F61_l2])
  simpa [sumBy] using key
theorem F62_l2_eq {f : Nat} {lots : List Lot} (hl : LotsOk lots) (k1 : Int → Int → Option (Int × Int × Int)) (y1 : Int) {p : List Part} (hp : GoodHeap lots p) {v : Int} (hv : 0 ≤ v ∧ v ≤ 1600000000000000) (hf : 40 < f) :
    F62_l2 f k1 lots y1 p f v 0 = k1 (v + sumBy (wetG lots) p) (w64 (y1 + 1)) := by
  have key := loop_st (T := fun n j => F62_l2 f k1 lots y1 p n (v + sumBy (wetG lots) (p.take j)) (j : Int)) (len := p.length) (n := f) (out := k1 (v + sumBy (wetG lots) p) (w64 (y1 + 1))) (by have := hp.ok.1; omega)
    (fun n j hj => by
      have hb := wetG_bound hl (hp.ok.2.1 _ (List.getElem_mem hj)) (hp.lots _ (List.getElem_mem hj))
      have h1 := g_bound (g := wetG lots) hp (fun q hq => wetG_bound hl (hp.ok.2.1 q hq) (hp.lots q hq)) (j + 1)
      rw [sumBy_take _ hj] at h1
      obtain ⟨r, e1, e2⟩ := F56_lot (f := f) hl (hp.lots _ (List.getElem_mem hj)) hf
      simp only [F62_l2, lt_len, hj, decide_true, cond_true, getI_nat hj, Option.bind_some, e1, e2]
      have e3 : p[j].mass * (theLot lots p[j].lot).wet = wetG lots p[j] := rfl
      rw [succ_w (by have := hp.ok.1; omega), sumBy_take _ hj, e3, w64_id (n := wetG lots p[j]) (by omega) (by omega), w64_id (by omega) (by omega), Int.add_assoc])
    (fun n => by simp [F62_l2])
  simpa [sumBy] using key
theorem F61_l1_eq {f : Nat} {lots : List Lot} (hl : LotsOk lots) {hold : List (List Part)} (hg : GoodHold lots hold) (r : Int) (hf : 40 < f) :
    F61_l1 f lots r hold f 0 0 = (F119 f (hsum (wetG lots) hold) r).bind fun r2 => some (r2.1, r2.2, 0) := by
  have key := loop_st (T := fun n j => F61_l1 f lots r hold n (hsum (wetG lots) (hold.take j)) (j : Int)) (len := hold.length) (n := f) (out := (F119 f (hsum (wetG lots) hold) r).bind fun r2 => some (r2.1, r2.2, 0)) (by have := hg.len; omega)
    (fun n j hj => by
      have hb := h_bound (g := wetG lots) hg (wetG_all hl hg) j
      simp only [F61_l1, lt_len, hj, decide_true, cond_true, getI_nat hj, Option.bind_some]
      rw [F61_l2_eq hl _ _ (hg.heaps _ (List.getElem_mem hj)) hb hf, succ_w (by have := hg.len; omega), hsum_take hj])
    (fun n => by simp [F61_l1, F117_119])
  simpa [hsum, sumBy] using key
theorem F62_l1_eq {f : Nat} {lots : List Lot} (hl : LotsOk lots) {holds : List (List (List Part))} {i : Nat} (hi : i < holds.length) (hg : GoodHold lots holds[i]) (hf : 40 < f) :
    F62_l1 f lots holds (i : Int) f 0 0 = cond (sumH holds[i] == 0) (some (0, 0, 3)) ((F119 f (hsum (wetG lots) holds[i]) (sumH holds[i])).bind fun r3 => some (r3.1, r3.2, 0)) := by
  have key := loop_st (T := fun n j => F62_l1 f lots holds (i : Int) n (hsum (wetG lots) (holds[i].take j)) (j : Int)) (len := holds[i].length) (n := f) (out := cond (sumH holds[i] == 0) (some (0, 0, 3)) ((F119 f (hsum (wetG lots) holds[i]) (sumH holds[i])).bind fun r3 => some (r3.1, r3.2, 0))) (by have := hg.len; omega)
    (fun n j hj => by
      have hb := h_bound (g := wetG lots) hg (wetG_all hl hg) j
      simp only [F62_l1, getI_nat hi, Option.bind_some, lt_len, hj, decide_true, cond_true, getI_nat hj]
      rw [F62_l2_eq hl _ _ (hg.heaps _ (List.getElem_mem hj)) hb hf, succ_w (by have := hg.len; omega), hsum_take hj])
    (fun n => by
      simp only [F62_l1, getI_nat hi, Option.bind_some, lt_len, Nat.lt_irrefl, decide_false, cond_false, F77_75, F75_eq hg.len (fun p hp => (hg.heaps p hp).ok) hf, List.take_length])
  simpa [hsum, sumBy] using key
theorem F61_62 {f : Nat} {lots : List Lot} {holds : List (List (List Part))} (h9 : holds.length = 9) (x : Int) (hf : 100 < f) : ∃ r, F61 f lots holds x = some r ∧ F62 f lots holds x = some r := by
  have hf' : 40 < f := by omega
  obtain ⟨a1, a2, a3⟩ := F103_eq (lots := lots) h9 x hf'
  unfold F61 F62
  rcases F22_eq (lots := lots) h9 hf' with ⟨hs, e⟩ | ⟨hs, e⟩
  · rw [e]
    simp only [Option.bind_some, bne_self_eq_false, cond_false, F118_eq]
    by_cases hx : 0 ≤ x ∧ x ≤ 8
    · rw [a1 hs hx]
      simp only [hx, and_self, decide_true, Bool.not_true, cond_false, Option.bind_some, bne_self_eq_false]
      obtain ⟨i, rfl⟩ : ∃ i : Nat, x = (i : Int) := ⟨x.toNat, by omega⟩
      have hi : i < holds.length := by omega
      have hg := hs.hok _ (List.getElem_mem hi)
      simp only [getI_nat hi, Option.bind_some, F75_eq hg.len (fun p hp => (hg.heaps p hp).ok) hf', F62_l1_eq hs.lok hi hg hf', F61_l1_eq hs.lok hg _ hf']
      by_cases h0 : sumH holds[i] = 0
      · exact ⟨(0, 0, 3), by simp [h0]⟩
      · have h0' : (sumH holds[i] == 0) = false := by simpa using h0
        have hb := sumH_bound (l := holds[i]) fun p hp => (hg.heaps p hp).ok
        have hs2 := hg.sum
        have hb2 := h_bound (g := wetG lots) hg (wetG_all hs.lok hg) holds[i].length
        rw [List.take_length] at hb2
        obtain ⟨r, er⟩ := ratio_some hf (a := hsum (wetG lots) holds[i]) (b := sumH holds[i]) hb2.1 (by omega) hs2
        exact ⟨(r.1, r.2, 0), by simp [h0', er]⟩
    · rw [a2 hs hx]; exact ⟨(0, 0, 1), by simp [hx]⟩
  · rw [e, a3 hs]; exact ⟨(0, 0, 62), by simp⟩

/-! ### Grades -/
def gradeAdd (lots : List Lot) (y : List Int) (q : Part) : List Int := y.set ((theLot lots q.lot).grade - 1).toNat (w64 (y.getD ((theLot lots q.lot).grade - 1).toNat 0 + q.mass))
theorem gradeAdd_len (lots : List Lot) (y : List Int) (q : Part) : (gradeAdd lots y q).length = y.length := by simp [gradeAdd]
theorem gradeFold_len (lots : List Lot) : ∀ (p : List Part) (y : List Int), (p.foldl (gradeAdd lots) y).length = y.length
  | [], y => rfl
  | q :: p, y => by rw [List.foldl_cons, gradeFold_len lots p, gradeAdd_len]
theorem foldl_take {σ α : Type} (g : σ → α → σ) (s : σ) {l : List α} {i : Nat} (hi : i < l.length) : (l.take (i + 1)).foldl g s = g ((l.take i).foldl g s) l[i] := by
  rw [List.take_succ_eq_append_getElem hi, List.foldl_append]; rfl
theorem grade_ok {lots : List Lot} (hl : LotsOk lots) {q : Part} (hq : Has lots q.lot) {y : List Int} (hy : y.length = 9) :
    getI y (w64 ((theLot lots q.lot).grade - 1)) = some (y.getD ((theLot lots q.lot).grade - 1).toNat 0) ∧ setI y (w64 ((theLot lots q.lot).grade - 1)) (w64 (y.getD ((theLot lots q.lot).grade - 1).toNat 0 + q.mass)) = some (gradeAdd lots y q) := by
  have hk := theLot_ok hl hq
  have g0 := hk.gr0; have g1 := hk.gr1
  rw [w64_id (n := (theLot lots q.lot).grade - 1) (by omega) (by omega)]
  generalize hk : (theLot lots q.lot).grade - 1 = g at *
  obtain ⟨k, rfl⟩ : ∃ k : Nat, g = (k : Int) := ⟨g.toNat, by omega⟩
  have hk9 : k < y.length := by omega
  constructor
  · rw [getI_nat hk9]; simp [List.getD, hk9]
  · unfold setI gradeAdd
    rw [if_pos (by omega), hk]
theorem F63_l2_eq {f : Nat} {lots : List Lot} (hl : LotsOk lots) (k1 : List Int → Int → Option (List Int × Int)) (y1 : Int) {p : List Part} (hp : GoodHeap lots p) {y : List Int} (hy : y.length = 9) (hf : 40 < f) :
    F63_l2 f k1 lots y1 p f y 0 = k1 (p.foldl (gradeAdd lots) y) (w64 (y1 + 1)) := by
  have key := loop_st (T := fun n j => F63_l2 f k1 lots y1 p n ((p.take j).foldl (gradeAdd lots) y) (j : Int)) (len := p.length) (n := f) (out := k1 (p.foldl (gradeAdd lots) y) (w64 (y1 + 1))) (by have := hp.ok.1; omega)
    (fun n j hj => by
      obtain ⟨r, e1, e2⟩ := F74_lot (f := f) hl (hp.lots _ (List.getElem_mem hj)) hf
      obtain ⟨e3, e4⟩ := grade_ok hl (hp.lots _ (List.getElem_mem hj)) (y := (p.take j).foldl (gradeAdd lots) y) (by rw [gradeFold_len, hy])
      simp only [F63_l2, lt_len, hj, decide_true, cond_true, getI_nat hj, Option.bind_some, e1, e2, e3, e4]
      rw [succ_w (by have := hp.ok.1; omega), foldl_take _ _ hj])
    (fun n => by simp [F63_l2])
  simpa using key
theorem F64_l2_eq {f : Nat} {lots : List Lot} (hl : LotsOk lots) (k1 : List Int → Int → Option (List Int × Int)) (y1 : Int) {p : List Part} (hp : GoodHeap lots p) {y : List Int} (hy : y.length = 9) (hf : 40 < f) :
    F64_l2 f k1 lots y1 p f y 0 = k1 (p.foldl (gradeAdd lots) y) (w64 (y1 + 1)) := by
  have key := loop_st (T := fun n j => F64_l2 f k1 lots y1 p n ((p.take j).foldl (gradeAdd lots) y) (j : Int)) (len := p.length) (n := f) (out := k1 (p.foldl (gradeAdd lots) y) (w64 (y1 + 1))) (by have := hp.ok.1; omega)
    (fun n j hj => by
      obtain ⟨r, e1, e2⟩ := F56_lot (f := f) hl (hp.lots _ (List.getElem_mem hj)) hf
      obtain ⟨e3, e4⟩ := grade_ok hl (hp.lots _ (List.getElem_mem hj)) (y := (p.take j).foldl (gradeAdd lots) y) (by rw [gradeFold_len, hy])
      simp only [F64_l2, lt_len, hj, decide_true, cond_true, getI_nat hj, Option.bind_some, e1, e2, e3, e4]
      rw [succ_w (by have := hp.ok.1; omega), foldl_take _ _ hj])
    (fun n => by simp [F64_l2])
  simpa using key
def gradeH (lots : List Lot) (y : List Int) (l : List (List Part)) : List Int := l.foldl (fun y p => p.foldl (gradeAdd lots) y) y
theorem gradeH_len (lots : List Lot) : ∀ (l : List (List Part)) (y : List Int), (gradeH lots y l).length = y.length
  | [], y => rfl
  | p :: l, y => by unfold gradeH; rw [List.foldl_cons]; have := gradeH_len lots l (p.foldl (gradeAdd lots) y); unfold gradeH at this; rw [this, gradeFold_len]
theorem F63_64 {f : Nat} {lots : List Lot} {holds : List (List (List Part))} (h9 : holds.length = 9) (x : Int) (hf : 40 < f) : ∃ r, F63 f lots holds x = some r ∧ F64 f lots holds x = some r ∧ r.1.length ≤ 9 := by
  obtain ⟨a1, a2, a3⟩ := F103_eq (lots := lots) h9 x hf
  unfold F63 F64
  rcases F22_eq (lots := lots) h9 hf with ⟨hs, e⟩ | ⟨hs, e⟩
  · rw [e]
    simp only [Option.bind_some, bne_self_eq_false, cond_false, F118_eq]
    by_cases hx : 0 ≤ x ∧ x ≤ 8
    · rw [a1 hs hx]
      simp only [hx, and_self, decide_true, Bool.not_true, cond_false, Option.bind_some, bne_self_eq_false, mk9]
      obtain ⟨i, rfl⟩ : ∃ i : Nat, x = (i : Int) := ⟨x.toNat, by omega⟩
      have hi : i < holds.length := by omega
      have hg := hs.hok _ (List.getElem_mem hi)
      simp only [getI_nat hi, Option.bind_some]
      refine ⟨(gradeH lots (List.replicate 9 0) holds[i], 0), ?_, ?_, by simp [gradeH_len]⟩
      · have key := loop_st (T := fun n j => F63_l1 f lots holds[i] n (gradeH lots (List.replicate 9 0) (holds[i].take j)) (j : Int)) (len := holds[i].length) (n := f) (out := some (gradeH lots (List.replicate 9 0) holds[i], 0)) (by have := hg.len; omega)
          (fun n j hj => by
            simp only [F63_l1, lt_len, hj, decide_true, cond_true, getI_nat hj, Option.bind_some]
            rw [F63_l2_eq hs.lok _ _ (hg.heaps _ (List.getElem_mem hj)) (by rw [gradeH_len]; rfl) hf, succ_w (by have := hg.len; omega)]
            unfold gradeH
            rw [foldl_take _ _ hj])
          (fun n => by simp [F63_l1])
        exact key
      · have key := loop_st (T := fun n j => F64_l1 f lots holds (i : Int) n (gradeH lots (List.replicate 9 0) (holds[i].take j)) (j : Int)) (len := holds[i].length) (n := f) (out := some (gradeH lots (List.replicate 9 0) holds[i], 0)) (by have := hg.len; omega)
          (fun n j hj => by
            simp only [F64_l1, getI_nat hi, Option.bind_some, lt_len, hj, decide_true, cond_true, getI_nat hj]
            rw [F64_l2_eq hs.lok _ _ (hg.heaps _ (List.getElem_mem hj)) (by rw [gradeH_len]; rfl) hf, succ_w (by have := hg.len; omega)]
            unfold gradeH
            rw [foldl_take _ _ hj])
          (fun n => by simp [F64_l1, getI_nat hi])
        exact key
    · rw [a2 hs hx]; exact ⟨([], 1), by simp, by simp [hx], by simp⟩
  · rw [e, a3 hs]; exact ⟨([], 62), by simp, by simp, by simp⟩

/-! ### Held -/
theorem F42_67 {f : Nat} {lots : List Lot} {holds : List (List (List Part))} (h9 : holds.length = 9) (x : Int) (hf : 40 < f) : ∃ r, F42 f lots holds x = some r ∧ F67 f lots holds x = some r := by
  obtain ⟨a1, a2, a3⟩ := F103_eq (lots := lots) h9 x hf
  unfold F42 F67
  rcases F22_eq (lots := lots) h9 hf with ⟨hs, e⟩ | ⟨hs, e⟩
  · rw [e]
    simp only [Option.bind_some, bne_self_eq_false, cond_false, F118_eq]
    by_cases hx : 0 ≤ x ∧ x ≤ 8
    · rw [a1 hs hx]
      obtain ⟨i, rfl⟩ : ∃ i : Nat, x = (i : Int) := ⟨x.toNat, by omega⟩
      have hi : i < holds.length := by omega
      have hg := hs.hok _ (List.getElem_mem hi)
      simp only [hx, and_self, decide_true, Bool.not_true, cond_false, Option.bind_some, bne_self_eq_false, getI_nat hi, F77_75, F75_eq hg.len (fun p hp => (hg.heaps p hp).ok) hf]
      exact ⟨_, rfl⟩
    · rw [a2 hs hx]; exact ⟨(0, 1), by simp, by simp [hx]⟩
  · rw [e, a3 hs]; exact ⟨(0, 62), by simp, by simp⟩

/-! ### Lists of numbers -/
theorem F68_same {f : Nat} {l : List Int} (h : l.length < f) (h9 : l.length ≤ 100) : F68 f l l = some true := by
  unfold F68
  rw [beq_self_eq_true]
  have key := loop_st (T := fun n i => F68_l1 l l n true (i : Int)) (len := l.length) (n := f) (out := some true) h
    (fun n i hi => by
      simp only [F68_l1, F68_j1, lt_len, hi, decide_true, cond_true, getI_nat hi, Option.bind_some, beq_self_eq_true]
      rw [succ_w (by omega)])
    (fun n => by simp [F68_l1, F68_j1])
  exact key
end Go.Proofs.Ytlmgjjmighajdaa
