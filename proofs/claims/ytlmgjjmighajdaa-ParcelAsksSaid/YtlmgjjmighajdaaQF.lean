/-
  The holds of one owner, of the plain functions that the walks compute. No condition.
-/
import Derived.Test.YtlmgjjmighajdaaQE
set_option linter.unusedSimpArgs false
set_option linter.unusedVariables false
namespace Go.Proofs.Ytlmgjjmighajdaa
open Go.Sl Go.Sx

theorem loop_any {ρ δ : Type} {T : Nat → Nat → δ → Option ρ} {len : Nat} {out : Option ρ} (h : ∀ n i d, i < len → ∃ d', T (n + 1) i d = T n (i + 1) d') (he : ∀ n d, T (n + 1) len d = out) : ∀ n i d, i ≤ len → len - i < n → T n i d = out
  | 0, i, d, _, hn => by omega
  | n + 1, i, d, hi, hn => by
    rcases Nat.lt_or_ge i len with hlt | hge
    · obtain ⟨d', e⟩ := h n i d hlt
      rw [e]; exact loop_any h he n (i + 1) d' hlt (by omega)
    · have : i = len := by omega
      subst this; exact he n d

/-! ### Owners of a heap -/
def ow (lots : List Lot) (q : Part) : Int := (theLot lots q.lot).owner
def owners (lots : List Lot) (D : List (Int × Bool)) (p : List Part) : List (Int × Bool) := p.foldl (fun D q => putK D (ow lots q) true) D
theorem owners_spec (lots : List Lot) : ∀ (p : List Part) (D : List (Int × Bool)), Rise D → (∀ x ∈ D, x.2 = true) →
    Rise (owners lots D p) ∧ (∀ x ∈ owners lots D p, x.2 = true) ∧ (∀ k, (k, true) ∈ owners lots D p ↔ (k, true) ∈ D ∨ ∃ q ∈ p, ow lots q = k)
  | [], D, hr, ht => ⟨hr, ht, fun k => by simp [owners]⟩
  | q :: p, D, hr, ht => by
    have hr' := putK_rise (k := ow lots q) (v := true) hr
    have ht' : ∀ x ∈ putK D (ow lots q) true, x.2 = true := fun x hx => by
      obtain ⟨j, u⟩ := x
      rcases (putK_mem hr j u).1 hx with ⟨_, e⟩ | ⟨_, e⟩
      · exact e
      · exact ht _ e
    obtain ⟨h1, h2, h3⟩ := owners_spec lots p _ hr' ht'
    refine ⟨h1, h2, fun k => ?_⟩
    show (k, true) ∈ owners lots (putK D (ow lots q) true) p ↔ _
    rw [h3, putK_mem hr]
    simp only [and_true, List.mem_cons, exists_eq_or_imp]
    constructor
    · rintro ((rfl | ⟨_, h⟩) | h)
      · exact .inr (.inl rfl)
      · exact .inl h
      · exact .inr (.inr h)
    · rintro (h | rfl | h)
      · by_cases e : k = ow lots q
        · exact .inl (.inl e)
        · exact .inl (.inr ⟨e, h⟩)
      · exact .inl (.inl rfl)
      · exact .inr h
theorem owners_one {lots : List Lot} {p : List Part} {o : Int} (hp : ∃ q ∈ p, ow lots q = o) : (owners lots [] p).length ≤ 1 ↔ ∀ q ∈ p, ow lots q = o := by
  obtain ⟨h1, h2, h3⟩ := owners_spec lots p [] List.Pairwise.nil (by simp)
  constructor
  · intro hl q hq
    have a1 := (h3 (ow lots q)).2 (.inr ⟨q, hq, rfl⟩)
    have a2 := (h3 o).2 (.inr hp)
    match hD : owners lots [] p, hl with
    | [], _ => rw [hD] at a1; simp at a1
    | [x], _ =>
      rw [hD, List.mem_singleton] at a1 a2
      rw [← a2] at a1
      simpa using a1
    | _ :: _ :: _, hl => simp at hl
  · intro hall
    match hD : owners lots [] p with
    | [] => simp
    | [x] => simp
    | x :: y :: l =>
      exfalso
      rw [hD] at h1 h2 h3
      have hx : x = (x.1, true) := by rw [← h2 x (by simp)]
      have hy : y = (y.1, true) := by rw [← h2 y (by simp)]
      have e1 := (h3 x.1).1 (by rw [← hx]; simp)
      have e2 := (h3 y.1).1 (by rw [← hy]; simp)
      have hlt : x.1 < y.1 := (List.pairwise_cons.1 h1).1 y (by simp)
      have k1 : x.1 = o := by
        rcases e1 with e | ⟨q, hq, e⟩
        · simp at e
        · rw [← e]; exact hall q hq
      have k2 : y.1 = o := by
        rcases e2 with e | ⟨q, hq, e⟩
        · simp at e
        · rw [← e]; exact hall q hq
      omega
def single (lots : List Lot) (p : List Part) : Bool := decide ((owners lots [] p).length ≤ 1)
def pureH (lots : List Lot) (l : List (List Part)) : Bool := decide (0 < l.length) && l.all (single lots)
theorem F65_l3_eq {f : Nat} {lots : List Lot} {holds : List (List (List Part))} (hl : LotsOk lots) (k1 : List Int → List (Int × Bool) → Int → Option (List Int × Int)) (k2 : List (Int × Bool) → Int → Option (List Int × Int)) (y4 : List Int) (y1 y5 : Int) {p : List Part} (hp : GoodHeap lots p) (hf : 40 < f) :
    F65_l3 f k1 k2 lots holds y4 y1 y5 p f [] 0 = cond (single lots p) (k2 (owners lots [] p) (w64 (y5 + 1))) (k1 y4 (owners lots [] p) (w64 (y1 + 1))) := by
  have key := loop_st (T := fun n j => F65_l3 f k1 k2 lots holds y4 y1 y5 p n (owners lots [] (p.take j)) (j : Int)) (len := p.length) (n := f) (out := cond (single lots p) (k2 (owners lots [] p) (w64 (y5 + 1))) (k1 y4 (owners lots [] p) (w64 (y1 + 1)))) (by have := hp.ok.1; omega)
    (fun n j hj => by
      simp only [F65_l3, lt_len, hj, decide_true, cond_true, getI_nat hj, Option.bind_some, F115_eq hl holds (hp.lots _ (List.getElem_mem hj)) hf]
      rw [succ_w (by have := hp.ok.1; omega)]
      unfold owners
      rw [foldl_take _ _ hj]
      rfl)
    (fun n => by
      simp only [F65_l3, lt_len, Nat.lt_irrefl, decide_false, cond_false, List.take_length, F65_j1, single]
      by_cases h : (owners lots [] p).length ≤ 1
      · have : ¬ ((owners lots [] p).length : Int) > 1 := by omega
        simp [h, this]
      · have : ((owners lots [] p).length : Int) > 1 := by omega
        simp [h, this])
  exact key
theorem F65_l2_eq {f : Nat} {lots : List Lot} {holds : List (List (List Part))} (hl : LotsOk lots) (k1 : List Int → List (Int × Bool) → Int → Option (List Int × Int)) {y4 : List Int} (hy : y4.length ≤ 100) (y1 : Int) {hold : List (List Part)} (hg : GoodHold lots hold) (hf : 40 < f) :
    ∀ n j D, j ≤ hold.length → hold.length - j < n → (∀ i (h : i < hold.length), i < j → single lots hold[i] = true) →
      ∃ D', F65_l2 f k1 lots holds y4 y1 hold n D (j : Int) = k1 (bif pureH lots hold then y4 ++ [y1] else y4) D' (w64 (y1 + 1))
  | 0, j, D, _, hn, _ => by omega
  | n + 1, j, D, hj, hn, hd => by
    rcases Nat.lt_or_ge j hold.length with hlt | hge
    · simp only [F65_l2, lt_len, hlt, decide_true, cond_true, getI_nat hlt, Option.bind_some]
      rw [F65_l3_eq hl _ _ _ _ _ (hg.heaps _ (List.getElem_mem hlt)) hf]
      cases hs : single lots hold[j] with
      | true =>
        rw [cond_true, succ_w (by have := hg.len; omega)]
        exact F65_l2_eq hl k1 hy y1 hg hf n (j + 1) _ hlt (by omega) fun i h hi => by
          rcases Nat.lt_or_ge i j with h1 | h1
          · exact hd i h h1
          · have : i = j := by omega
            subst this; exact hs
      | false =>
        have hp : pureH lots hold = false := by
          unfold pureH
          rw [Bool.and_eq_false_iff]
          right
          rw [List.all_eq_false]
          exact ⟨_, List.getElem_mem hlt, by simp [hs]⟩
        rw [hp]
        exact ⟨_, rfl⟩
    · have he : j = hold.length := by omega
      subst he
      have hall : hold.all (single lots) = true := List.all_eq_true.2 fun p hp => by
        obtain ⟨i, hi, rfl⟩ := List.getElem_of_mem hp
        exact hd i hi hi
      simp only [F65_l2, lt_len, Nat.lt_irrefl, decide_false, cond_false, F65_j1]
      by_cases h0 : 0 < hold.length
      · have h1 : ((hold.length : Int) > 0) := by omega
        have hp : pureH lots hold = true := by simp [pureH, hall, h0]
        rw [hp]
        refine ⟨D, ?_⟩
        simp [h1, h0, app_one hy]
      · have h1 : ¬ ((hold.length : Int) > 0) := by omega
        have hp : pureH lots hold = false := by simp [pureH, h0]
        rw [hp]
        refine ⟨D, ?_⟩
        simp [h1, h0]
def pures (lots : List Lot) (holds : List (List (List Part))) : Nat → List Int
  | 0 => []
  | i + 1 => bif pureH lots (holds.getD i []) then pures lots holds i ++ [(i : Int)] else pures lots holds i
theorem pures_len (lots : List Lot) (holds : List (List (List Part))) : ∀ i, (pures lots holds i).length ≤ i
  | 0 => by simp [pures]
  | i + 1 => by
    have := pures_len lots holds i
    unfold pures
    cases pureH lots (holds.getD i []) <;> simp <;> omega
theorem F65_eq {f : Nat} {lots : List Lot} {holds : List (List (List Part))} (h9 : holds.length = 9) (hf : 40 < f) :
    (StockOk lots holds → F65 f lots holds = some (pures lots holds 9, 0)) ∧ (¬ StockOk lots holds → F65 f lots holds = some ([], 62)) := by
  unfold F65
  rcases F21_eq (lots := lots) h9 hf with ⟨hs, e⟩ | ⟨hs, e⟩
  · rw [e]
    refine ⟨fun _ => ?_, fun h => absurd hs h⟩
    simp only [Option.bind_some, bne_self_eq_false, cond_false]
    have key := loop_any (T := fun n i D => F65_l1 f lots holds n (pures lots holds i) D (i : Int)) (len := 9) (out := some (pures lots holds 9, 0))
      (fun n i D hi => by
        have h1 : decide ((i : Int) < 9) = true := by simpa using (show (i : Int) < 9 by omega)
        have hi' : i < holds.length := by omega
        have hg := hs.hok _ (List.getElem_mem hi')
        obtain ⟨D', e⟩ := F65_l2_eq (f := f) (holds := holds) hs.lok (F65_l1 f lots holds n) (y4 := pures lots holds i) (by have := pures_len lots holds i; omega) (i : Int) hg hf f 0 D (by omega) (by have := hg.len; omega) (fun i _ h => by omega)
        refine ⟨D', ?_⟩
        simp only [F65_l1, h1, cond_true, getI_nat hi', Option.bind_some]
        rw [succ_w (by omega)] at e
        rw [pures, getD_at hi']
        exact e)
      (fun n D => by simp [F65_l1]) f 0 [] (by omega) (by omega)
    exact key
  · exact ⟨fun h => absurd h hs, fun _ => by rw [e]; simp⟩
theorem first_single {lots : List Lot} {p : List Part} (hp : GoodHeap lots p) (h0 : 0 < p.length) : (sumBy (ownG lots (theLot lots p[0].lot).owner) p == sumM p) = single lots p := by
  have h1 := own_all (lots := lots) (who := (theLot lots p[0].lot).owner) hp.ok.2.1
  have h2 := owners_one (lots := lots) (p := p) (o := (theLot lots p[0].lot).owner) ⟨p[0], List.getElem_mem _, rfl⟩
  by_cases hs : single lots p = true
  · rw [hs]
    have := h2.1 (of_decide_eq_true hs)
    simpa using h1.2 this
  · have hs' : single lots p = false := by simpa using hs
    rw [hs']
    have : ¬ sumBy (ownG lots (theLot lots p[0].lot).owner) p = sumM p := fun e => hs (decide_eq_true (h2.2 (h1.1 e)))
    simpa using this
theorem F66_l2_eq {f : Nat} {lots : List Lot} {holds : List (List (List Part))} (hl : LotsOk lots) (k1 : List Int → Int → Option (List Int × Int)) {y5 : List Int} (hy : y5.length ≤ 100) {i : Nat} (hi : i < holds.length) (hg : GoodHold lots holds[i]) (hf : 40 < f) :
    F66_l2 f k1 lots holds y5 (i : Int) f (decide ((holds[i].length : Int) > 0)) 0 = k1 (bif pureH lots holds[i] then y5 ++ [(i : Int)] else y5) (w64 ((i : Int) + 1)) := by
  have h0 : decide ((holds[i].length : Int) > 0) = decide (0 < holds[i].length) := by
    by_cases h : 0 < holds[i].length
    · have : (holds[i].length : Int) > 0 := by omega
      simp [h, this]
    · have : ¬ (holds[i].length : Int) > 0 := by omega
      simp [h, this]
  rw [h0]
  have key := loop_st (T := fun n j => F66_l2 f k1 lots holds y5 (i : Int) n (decide (0 < holds[i].length) && (holds[i].take j).all (single lots)) (j : Int)) (len := holds[i].length) (n := f) (out := k1 (bif pureH lots holds[i] then y5 ++ [(i : Int)] else y5) (w64 ((i : Int) + 1))) (by have := hg.len; omega)
    (fun n j hj => by
      have hp := hg.heaps _ (List.getElem_mem hj)
      have hp0 : 0 < holds[i][j].length := List.length_pos_iff.2 hp.ne
      have hpos : 0 < holds[i].length := by omega
      have e0 : getI holds[i][j] 0 = some holds[i][j][0] := getI_nat (i := 0) hp0
      have et : (holds[i].take (j + 1)).all (single lots) = ((holds[i].take j).all (single lots) && single lots holds[i][j]) := by
        rw [List.take_succ_eq_append_getElem hj, List.all_append]; simp
      simp only [F66_l2, getI_nat hi, Option.bind_some, lt_len, hj, decide_true, cond_true, getI_nat hj, F66_j2, hpos, Bool.true_and, et]
      cases hb : (holds[i].take j).all (single lots) with
      | true =>
        simp only [cond_true, e0, Option.bind_some, F120_eq hl holds (hp.lots _ (List.getElem_mem hp0)) hf, F116_eq hl holds hp _ hf, F92_90, F90_eq hp.ok hf, first_single hp hp0, Bool.true_and]
        rw [succ_w (by have := hg.len; omega)]
      | false =>
        simp only [cond_false, Bool.false_and]
        rw [succ_w (by have := hg.len; omega)])
    (fun n => by
      simp only [F66_l2, getI_nat hi, Option.bind_some, lt_len, Nat.lt_irrefl, decide_false, cond_false, List.take_length, F66_j1, app_one hy]
      show cond (pureH lots holds[i]) _ _ = _
      cases pureH lots holds[i] <;> rfl)
  have e1 : (decide (0 < holds[i].length) && (holds[i].take 0).all (single lots)) = decide (0 < holds[i].length) := by simp
  rw [← e1]
  exact key
theorem F66_eq {f : Nat} {lots : List Lot} {holds : List (List (List Part))} (h9 : holds.length = 9) (hf : 40 < f) :
    (StockOk lots holds → F66 f lots holds = some (pures lots holds 9, 0)) ∧ (¬ StockOk lots holds → F66 f lots holds = some ([], 62)) := by
  unfold F66
  rcases F22_eq (lots := lots) h9 hf with ⟨hs, e⟩ | ⟨hs, e⟩
  · rw [e]
    refine ⟨fun _ => ?_, fun h => absurd hs h⟩
    simp only [Option.bind_some, bne_self_eq_false, cond_false]
    have key := loop_st (T := fun n i => F66_l1 f lots holds n (pures lots holds i) (i : Int)) (len := 9) (n := f) (out := some (pures lots holds 9, 0)) (by omega)
      (fun n i hi => by
        have h1 : decide ((i : Int) < 9) = true := by simpa using (show (i : Int) < 9 by omega)
        have hi' : i < holds.length := by omega
        have hg := hs.hok _ (List.getElem_mem hi')
        simp only [F66_l1, h1, cond_true, getI_nat hi', Option.bind_some]
        rw [F66_l2_eq hs.lok _ (by have := pures_len lots holds i; omega) hi' hg hf, succ_w (by omega), pures, getD_at hi'])
      (fun n => by simp [F66_l1])
    exact key
  · exact ⟨fun h => absurd h hs, fun _ => by rw [e]; simp⟩
end Go.Proofs.Ytlmgjjmighajdaa
