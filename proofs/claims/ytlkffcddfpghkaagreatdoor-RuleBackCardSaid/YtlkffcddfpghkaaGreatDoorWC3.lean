/-
  A part of the walk and of the plain law of one given statement. No condition.
-/
import Derived.Test.YtlkffcddfpghkaaGreatDoorRG
import Derived.Test.YtlkffcddfpghkaaGreatDoorProg
set_option linter.unusedVariables false
set_option linter.unusedSimpArgs false
set_option maxRecDepth 100000
namespace Go.K
open Go.Sl Go.Sx Go.Proofs
theorem G118_rule (c : Cd) (i : Nat) (r : Rl) (hr : c.2.2[i]? = some r) (hf : c.2.1.length < LF) (hl : c.2.2.length ≤ 1000) : G118 LF (c, (i : Int)) = some (ruleE c.2.1 c.2.2 i r) := by
  have hi := lt_of_get hr
  have hi' : i < LF := by show i < 9223372036854775808; omega
  have hll : c.2.2.length < LF := by show c.2.2.length < 9223372036854775808; omega
  unfold G118 ruleE
  have hown : decide (fnd c.2.2 r.1 < (i : Int)) = hasR (c.2.2.take i) r.1 := by
    unfold fnd hasR
    rw [idx_take]
    have : (c.2.2.any fun x => decide (x.1 = r.1)) = true := List.any_eq_true.2 ⟨r, List.mem_of_getElem? hr, by simp⟩
    rw [this]; rfl
  simp only [getI_nat hr, Option.bind_some, G99_nm, G37_fnd (c.1, (c.2.1, c.2.2)) _ hll, hown]
  cases hnm : nmB r.1 with
  | false => simp [jl]
  | true =>
    simp only [Bool.not_true, cond_false, jl, Bool.false_or]
    cases hh : hasR (c.2.2.take i) r.1 with
    | true => rfl
    | false =>
      simp only [cond_false]
      by_cases hd : r.2.1 < 0 ∨ r.2.1 > r.2.2.1 ∨ r.2.2.1 > 100000
      · rw [if_pos hd]
        by_cases d1 : r.2.1 < 0
        · simp [d1, jl]
        · by_cases d2 : r.2.1 > r.2.2.1
          · simp [d1, d2, jl]
          · have d3 : r.2.2.1 > 100000 := by omega
            simp [d1, d2, d3, jl]
      · rw [if_neg hd]
        have d1 : ¬ r.2.1 < 0 := by omega
        have d2 : ¬ r.2.1 > r.2.2.1 := by omega
        have d3 : ¬ r.2.2.1 > 100000 := by omega
        simp only [d1, d2, d3, decide_false, cond_false, jl, G30_cond _ _ hf, Option.bind_some]
        by_cases h0 : condE c.2.1 r.2.2.2.1 = 0
        · simp only [h0, decide_true, cond_true, jl, ne_eq, not_true, if_false]
          by_cases h1 : condE c.2.1 r.2.2.2.2.1 = 0
          · simp only [h1, decide_true, Bool.not_true, cond_false, not_true, if_false]
            by_cases hu6 : 6 < r.2.2.2.2.2.length
            · have : decide ((r.2.2.2.2.2.length : Int) > 6) = true := decide_eq_true (by omega)
              simp only [this, cond_true, hu6, if_true]
            · have : decide ((r.2.2.2.2.2.length : Int) > 6) = false := decide_eq_false (by omega)
              have hu : r.2.2.2.2.2.length < LF := by show r.2.2.2.2.2.length < 9223372036854775808; omega
              simp only [this, cond_false, hu6, if_false]
              refine (iter_scan (unlS (c.2.2.take i) r.2.2.2.2.2) r.2.2.2.2.2 (some 0) ?_ ?_ hu).trans (getD_none _ _)
              · intro k s hk _
                have hkl := lt_of_get hk
                have htu : (r.2.2.2.2.2.take k).length < LF := by rw [List.length_take]; omega
                simp only [dlt hkl, cond_true, getI_nat hk, Option.bind_some, subI_take (Nat.le_of_lt hkl), G84_any _ _ htu, succ_W (Nat.lt_of_le_of_lt hkl hu)]
                have hlt : decide (fnd c.2.2 s < (i : Int)) = (!hasR c.2.2 s || hasR (c.2.2.take i) s) := idx_take _ _ _
                have hge : decide (fnd c.2.2 s ≥ (i : Int)) = !(!hasR c.2.2 s || hasR (c.2.2.take i) s) := by
                  rw [← hlt, ← decide_not]; exact decide_eq_decide.2 (by omega)
                have hneg := fnd_neg c.2.2 s
                rw [hge, hneg]
                have himp : hasR (c.2.2.take i) s = true → hasR c.2.2 s = true := fun h => by
                  unfold hasR at h ⊢
                  rw [List.any_eq_true] at h ⊢
                  obtain ⟨x, hx, hp⟩ := h
                  exact ⟨x, List.mem_of_mem_take hx, hp⟩
                unfold unlS
                cases h1 : hasR (c.2.2.take i) s with
                | true =>
                  rw [himp h1]
                  simp only [Bool.not_true, Bool.not_false, Bool.false_or, Bool.or_true, cond_false, jl]
                  cases (r.2.2.2.2.2.take k).any fun x => decide (x = s) <;> rfl
                | false => cases hasR c.2.2 s <;> rfl
              · intro _
                simp only [dnlt]; rfl
          · simp only [h1, decide_false, Bool.not_false, cond_true, not_false_eq_true, if_true]
        · simp only [h0, decide_false, cond_false, jl, Bool.not_false, cond_true, ne_eq, not_false_eq_true, if_true]
theorem G109_conds (c : Cd) (h : c.2.2.length ≤ 1000) : G109 LF c = some (condsL c.2.2) := by
  unfold G109
  refine (iter_app (fun i a => (a, i)) (fun r : Rl => [r.2.2.2.1, r.2.2.2.2.1]) c.2.2 (fun a => some a) 2 (fun _ _ => by simp) [] ?_ ?_ (by show c.2.2.length < 9223372036854775808; omega)).trans ?_
  · intro i x a hx ha hi
    simp only [List.length_nil] at ha
    simp only [dlt hi, cond_true, getI_nat hx, Option.bind_some, succ_W (show i + 1 < 9223372036854775808 by omega), appC_of (show a.length + [x.2.2.2.1, x.2.2.2.2.1].length ≤ 1099511627776 by simp; omega)]
  · intro a _
    simp only [dnlt]; rfl
  · rfl
theorem G176_parts (t : Tm) : G176 LF t = some (partsL t) := by
  unfold G176 partsL
  by_cases h1 : t.1 = 1
  · simp [h1]
  · by_cases h2 : t.1 = 2
    · simp [h2]
    · by_cases h3 : t.1 = 3 <;> simp [h1, h2, h3]
def cutAt (l : List Int) (n : Int) : Nat → Nat
  | 0 => 0
  | k + 1 => if l.getD k 0 ≥ n then cutAt l n k else k + 1
def putL (l : List Int) (n : Int) : List Int := if l[cutAt l n l.length]? = some n then l else l.take (cutAt l n l.length) ++ n :: l.drop (cutAt l n l.length)
theorem cutAt_le (l : List Int) (n : Int) : ∀ k, cutAt l n k ≤ k
  | 0 => Nat.le_refl _
  | k + 1 => by
    unfold cutAt
    split
    · exact Nat.le_succ_of_le (cutAt_le l n k)
    · exact Nat.le_refl _
theorem cutAt_rise {l : List Int} (hr : Rise l) (n : Int) : ∀ k, k ≤ l.length → (∀ i, i < cutAt l n k → l.getD i 0 < n) ∧ ∀ i, cutAt l n k ≤ i → i < k → n ≤ l.getD i 0
  | 0, _ => ⟨fun i hi => by simp [cutAt] at hi, fun i _ hi => by omega⟩
  | k + 1, hk => by
    unfold cutAt
    split
    · rename_i h
      obtain ⟨h1, h2⟩ := cutAt_rise hr n k (by omega)
      refine ⟨h1, fun i hi hlt => ?_⟩
      by_cases e : i = k
      · subst e; omega
      · exact h2 i hi (by omega)
    · rename_i h
      refine ⟨fun i hi => ?_, fun i hi hlt => by omega⟩
      by_cases e : i = k
      · subst e; omega
      · have := hr.get (i := i) (j := k) (by omega) (by omega)
        simp only [List.getD_eq_getElem?_getD, List.getElem?_eq_getElem (show k < l.length by omega), List.getElem?_eq_getElem (show i < l.length by omega), Option.getD_some] at h ⊢
        omega
theorem putL_len (l : List Int) (n : Int) : (putL l n).length ≤ l.length + 1 := by
  unfold putL
  split
  · omega
  · have := cutAt_le l n l.length
    simp; omega
theorem putL_rise {l : List Int} (hr : Rise l) (n : Int) : Rise (putL l n) ∧ ∀ x, x ∈ putL l n ↔ x ∈ l ∨ x = n := by
  obtain ⟨h1, h2⟩ := cutAt_rise hr n l.length (Nat.le_refl _)
  have hle := cutAt_le l n l.length
  unfold putL
  generalize cutAt l n l.length = k at *
  split
  · rename_i hk
    refine ⟨hr, fun x => ⟨.inl, fun h => ?_⟩⟩
    rcases h with h | h
    · exact h
    · subst h; exact List.mem_of_getElem? hk
  · rename_i hk
    have hlt : ∀ x ∈ l.take k, x < n := fun x hx => by
      obtain ⟨i, hi, rfl⟩ := List.mem_iff_getElem.1 hx
      rw [List.length_take] at hi
      have := h1 i (by omega)
      rw [List.getElem_take]
      rwa [List.getD_eq_getElem?_getD, List.getElem?_eq_getElem (show i < l.length by omega), Option.getD_some] at this
    have hgt : ∀ x ∈ l.drop k, n < x := fun x hx => by
      obtain ⟨i, hi, rfl⟩ := List.mem_iff_getElem.1 hx
      rw [List.length_drop] at hi
      rw [List.getElem_drop]
      have h0 := h2 k (Nat.le_refl _) (by omega)
      rw [List.getD_eq_getElem?_getD, List.getElem?_eq_getElem (show k < l.length by omega), Option.getD_some] at h0
      have hne : l[k] ≠ n := fun e => hk (by rw [List.getElem?_eq_getElem (show k < l.length by omega), e])
      by_cases e : i = 0
      · subst e; simp only [Nat.add_zero]; omega
      · have := hr.get (i := k) (j := k + i) (by omega) (by omega)
        omega
    have htd : l.take k ++ l.drop k = l := List.take_append_drop k l
    have hp := hr
    unfold Rise at hp ⊢
    rw [← htd, List.pairwise_append] at hp
    refine ⟨List.pairwise_append.2 ⟨hp.1, List.pairwise_cons.2 ⟨hgt, hp.2.1⟩, fun a ha b hb => ?_⟩, fun x => ?_⟩
    · rcases List.mem_cons.1 hb with e | e
      · subst e; exact hlt a ha
      · exact hp.2.2 a ha b e
    · constructor
      · intro hx
        rcases List.mem_append.1 hx with h | h
        · exact .inl (List.mem_of_mem_take h)
        · rcases List.mem_cons.1 h with e | e
          · exact .inr e
          · exact .inl (List.mem_of_mem_drop e)
      · intro hx
        rcases hx with h | h
        · rw [← htd] at h
          rcases List.mem_append.1 h with e | e
          · exact List.mem_append_left _ e
          · exact List.mem_append_right _ (List.mem_cons_of_mem _ e)
        · subst h; exact List.mem_append_right _ (List.mem_cons_self ..)
theorem G177_put (l : List Int) (n : Int) (hl : l.length ≤ 1000000) : G177 LF (l, n) = some (putL l n) := by
  unfold G177
  have loop : ∀ (k lf : Nat), k ≤ l.length → k < lf → iter (ρ := Int ⊕ List Int) lf (fun y12 : Int => cond (decide (y12 > (0 : Int))) (((getI l (w64 (y12 - (1 : Int))))).bind fun r13 => cond (decide (r13 ≥ n)) (some (.inl (w64 (y12 - (1 : Int))))) (some (.inr (.inl y12)))) (some (.inr (.inl y12)))) (k : Int) = some (.inl (cutAt l n k : Nat)) := by
    intro k
    induction k with
    | zero =>
      intro lf _ hlf
      obtain ⟨lf, rfl⟩ : ∃ q, lf = q + 1 := ⟨lf - 1, by omega⟩
      simp [iter, cutAt]
    | succ k ih =>
      intro lf hk hlf
      obtain ⟨lf, rfl⟩ : ∃ q, lf = q + 1 := ⟨lf - 1, by omega⟩
      have e1 : decide (((k + 1 : Nat) : Int) > 0) = true := decide_eq_true (by omega)
      have e2 : w64 (((k + 1 : Nat) : Int) - 1) = (k : Int) := by rw [w64_in (by omega)]; omega
      have e3 : l[k]? = some (l.getD k 0) := by rw [List.getD_eq_getElem?_getD, List.getElem?_eq_getElem (by omega)]; rfl
      simp only [iter, e1, e2, getI_nat e3, cond_true, Option.bind_some, cutAt]
      by_cases h : l.getD k 0 ≥ n
      · simp only [decide_eq_true h, cond_true, if_pos h]
        exact ih lf (by omega) (by omega)
      · simp only [decide_eq_false h, cond_false, if_neg h]
  rw [loop l.length LF (Nat.le_refl _) (by show l.length < 9223372036854775808; omega)]
  simp only [jl]
  have hle := cutAt_le l n l.length
  unfold putL
  by_cases hk : cutAt l n l.length < l.length
  · have e3 : l[cutAt l n l.length]? = some l[cutAt l n l.length] := List.getElem?_eq_getElem hk
    simp only [dlt hk, cond_true, getI_nat e3, Option.bind_some, jl]
    rw [e3]
    by_cases hn : l[cutAt l n l.length] = n
    · simp [hn]
    · have hn' : ¬ some l[cutAt l n l.length] = some n := fun e => hn (Option.some.inj e)
      have hd : subI l ((cutAt l n l.length : Nat) : Int) (l.length : Int) = some (l.drop (cutAt l n l.length)) := by
        unfold subI; rw [if_pos (by omega)]; simp
      simp only [decide_eq_false hn, cond_false, if_neg hn', subI_take hle, Option.bind_some, appC_of (show ([] : List Int).length + (l.take (cutAt l n l.length)).length ≤ 1099511627776 by simp; omega), List.nil_append, appC_of (show (l.take (cutAt l n l.length)).length + [n].length ≤ 1099511627776 by simp; omega), hd,
        appC_of (show (l.take (cutAt l n l.length) ++ [n]).length + (l.drop (cutAt l n l.length)).length ≤ 1099511627776 by simp; omega)]
      simp
  · have he : cutAt l n l.length = l.length := by omega
    have hd : subI l ((cutAt l n l.length : Nat) : Int) (l.length : Int) = some (l.drop (cutAt l n l.length)) := by
      unfold subI; rw [if_pos (by omega)]; simp
    have hno : l[cutAt l n l.length]? = none := List.getElem?_eq_none (by omega)
    have hz : decide (((cutAt l n l.length : Nat) : Int) < (l.length : Int)) = false := decide_eq_false (by omega)
    rw [hno]
    simp only [hz, cond_false, jl, subI_take hle, Option.bind_some, appC_of (show ([] : List Int).length + (l.take (cutAt l n l.length)).length ≤ 1099511627776 by simp; omega), List.nil_append, appC_of (show (l.take (cutAt l n l.length)).length + [n].length ≤ 1099511627776 by simp; omega), hd,
        appC_of (show (l.take (cutAt l n l.length) ++ [n]).length + (l.drop (cutAt l n l.length)).length ≤ 1099511627776 by simp; omega)]
    simp
theorem putF_len : ∀ (ns l : List Int), (ns.foldl putL l).length ≤ l.length + ns.length
  | [], l => by simp
  | n :: ns, l => by
    have h1 := putF_len ns (putL l n)
    have h2 := putL_len l n
    rw [List.foldl_cons, List.length_cons]; omega
theorem putF_rise : ∀ (ns : List Int) {l : List Int}, Rise l → Rise (ns.foldl putL l) ∧ ∀ x, x ∈ ns.foldl putL l ↔ x ∈ l ∨ x ∈ ns
  | [], l, h => ⟨h, fun x => by simp⟩
  | n :: ns, l, h => by
    obtain ⟨h1, h2⟩ := putL_rise h n
    obtain ⟨h3, h4⟩ := putF_rise ns h1
    refine ⟨h3, fun x => ?_⟩
    rw [List.foldl_cons, h4, h2, List.mem_cons, or_assoc]
theorem putF_sort (a : Int) (ns : List Int) : ns.foldl putL [a] = compL (sortL (a :: ns)) := by
  obtain ⟨h1, h2⟩ := putF_rise ns (l := [a]) (by simp [Rise])
  obtain ⟨h3, h4⟩ := sc_rise (a :: ns)
  refine rise_ext h1 h3 fun x => ?_
  rw [h2, h4, List.mem_singleton, List.mem_cons]
theorem iter_put {σ α ρ : Type} {f : α → Option (α ⊕ ρ)} (mk : Int → List Int → α) (h : σ → List Int) (all : List σ) (fin : List Int → Option ρ) (c : Nat) (hc : ∀ x ∈ all, (h x).length ≤ c) (a0 : List Int)
    (h1 : ∀ i x a, all[i]? = some x → a.length ≤ a0.length + c * i → i < all.length → f (mk (i : Nat) a) = some (.inl (mk ((i + 1 : Nat) : Int) ((h x).foldl putL a))))
    (h2 : ∀ a, a.length ≤ a0.length + c * all.length → f (mk (all.length : Nat) a) = outR (fin a)) (hl : all.length < LF) :
    iter LF f (mk 0 a0) = fin ((all.flatMap h).foldl putL a0) := by
  rw [iter_foldI mk (fun x _ a => (h x).foldl putL a) (fun i a => a.length ≤ a0.length + c * i) all fin a0 (fun i x a hx hg => h1 i x a hx hg (List.getElem?_eq_some_iff.1 hx).1)
    (fun i x a hx hg => by
      have := hc x (List.mem_of_getElem? hx)
      have := putF_len (h x) a
      rw [Nat.mul_add]; omega) h2 hl (by omega)]
  rw [foldI_const, List.foldl_flatMap]
theorem G108_starts (f : List Fct) (cs : List Cnd) (hf : f.length ≤ 1000) (hc : cs.length ≤ 100) (ht : ∀ c ∈ cs, c.length ≤ 1000) : G108 LF (f, cs) = some (startsL f cs) := by
  unfold G108 startsL
  refine (iter_app (fun i a => (a, i)) (fun x : Fct => [cutsOf cs x]) f (fun a => some a) 1 (fun _ _ => by simp) [] ?_ ?_ (by show f.length < 9223372036854775808; omega)).trans ?_
  · intro i x A hx hA hi
    simp only [List.length_nil] at hA
    simp only [dlt hi, cond_true, getI_nat hx, Option.bind_some]
    refine (iter_put (fun i a => (a, i)) (fun c : Cnd => c.flatMap (cutT x)) cs (fun a => some (.inl (A ++ [a], ((i + 1 : Nat) : Int)))) 2000 (fun c hc => by
        have h1 := flat_len (cutT x) 2 c (fun t _ => cutT_len x t)
        have h2 := ht c hc
        omega) [x.2.1] ?_ ?_ (by show cs.length < 9223372036854775808; omega)).trans ?_
    · intro j c a hj ha hjl
      simp only [List.length_singleton] at ha
      simp only [dlt hjl, cond_true, getI_nat hj, Option.bind_some]
      have hcl := ht c (List.mem_of_getElem? hj)
      refine (iter_put (fun i a => (a, i)) (cutT x) c (fun a => some (.inl (a, ((j + 1 : Nat) : Int)))) 2 (fun t _ => cutT_len x t) a ?_ ?_ (by show c.length < 9223372036854775808; omega)).trans ?_
      · intro k t b hk hb hkl
        simp only [dlt hkl, cond_true, getI_nat hk, Option.bind_some, eqD, G176_parts]
        have hp := parts_len t
        refine (iter_put (fun i a => (a, i)) (fun n => bif decide (t.2.2.2.1 = x.1) && inS x n then [n] else []) (partsL t) (fun b => some (.inl (b, ((k + 1 : Nat) : Int)))) 1 (fun n _ => by cases decide (t.2.2.2.1 = x.1) && inS x n <;> simp) b ?_ ?_ (by show (partsL t).length < 9223372036854775808; omega)).trans ?_
        · intro q n d hq hd hql
          have hdl : d.length ≤ 1000000 := by omega
          simp only [dlt hql, cond_true, getI_nat hq, Option.bind_some, succ_W (show q + 1 < 9223372036854775808 by omega), G177_put d n hdl]
          unfold inS
          cases decide (t.2.2.2.1 = x.1) <;> cases decide (n > x.2.1) <;> cases decide (n ≤ x.2.2) <;> simp [jl]
        · intro d _
          simp only [dnlt, succ_W (show k + 1 < 9223372036854775808 by omega)]; rfl
        · congr 3
          congr 1
          unfold cutT
          cases decide (t.2.2.2.1 = x.1) with
          | false => simp
          | true => simp only [Bool.true_and, cond_true]; exact flat_filter _ _
      · intro b _
        simp only [dnlt, succ_W (show j + 1 < 9223372036854775808 by omega)]; rfl
      · rfl
    · intro a ha
      simp only [List.length_singleton] at ha
      simp only [dnlt, cond_false, Option.bind_some, appC_of (show A.length + [a].length ≤ 1099511627776 by simp; omega), succ_W (show i + 1 < 9223372036854775808 by omega)]
    · rw [putF_sort]; rfl
  · intro a _
    simp only [dnlt]; rfl
  · rw [List.nil_append, ← List.map_eq_flatMap]
theorem G119_many (l : List (List Int)) (h : l.length ≤ 1000) : G119 LF l = some (manyL l) := by
  unfold G119 manyL
  refine (iter_foldI (fun i a => (a, i)) (fun (x : List Int) _ n => if (4001 : Int) < w64 (n * (x.length : Int)) then 4001 else w64 (n * (x.length : Int))) (fun _ _ => True) l (fun a => some a) 1 ?_ (fun _ _ _ _ _ => trivial) ?_ (by show l.length < 9223372036854775808; omega) trivial).trans ?_
  · intro i x a hx _
    have hi := lt_of_get hx
    simp only [dlt hi, cond_true, getI_nat hx, Option.bind_some, succ_W (show i + 1 < 9223372036854775808 by omega)]
  · intro a _
    simp only [dnlt]; rfl
  · rw [foldI_const]
theorem conds_len (l : List Rl) : (condsL l).length = 2 * l.length := by
  unfold condsL
  induction l with
  | nil => rfl
  | cons r l ih => rw [List.flatMap_cons, List.length_append, ih]; simp; omega
theorem G32_code (c : Cd) : G32 LF c = some (codeE c) := by
  unfold G32 codeE
  simp only [G99_nm, Option.bind_some]
  cases nmB c.1 with
  | false => rfl
  | true =>
    simp only [Bool.not_true, cond_false]
    by_cases h0 : c.2.1 = []
    · simp [h0]
    · have e0 : decide ((c.2.1.length : Int) = 0) = false := decide_eq_false (by have := List.length_pos_iff.2 h0; omega)
      rw [if_neg h0]
      simp only [e0, cond_false]
      by_cases h1 : 6 < c.2.1.length ∨ 12 < c.2.2.length
      · rw [if_pos h1]
        by_cases h2 : 6 < c.2.1.length
        · have : decide ((c.2.1.length : Int) > 6) = true := decide_eq_true (by omega)
          simp [this, jl]
        · have a1 : decide ((c.2.1.length : Int) > 6) = false := decide_eq_false (by omega)
          have a2 : decide ((c.2.2.length : Int) > 12) = true := decide_eq_true (by omega)
          simp [a1, a2, jl]
      · rw [if_neg h1]
        have a1 : decide ((c.2.1.length : Int) > 6) = false := decide_eq_false (by omega)
        have a2 : decide ((c.2.2.length : Int) > 12) = false := decide_eq_false (by omega)
        simp only [a1, a2, cond_false, jl]
        have hf6 : c.2.1.length ≤ 6 := by omega
        have hl12 : c.2.2.length ≤ 12 := by omega
        have hf : c.2.1.length < LF := by show c.2.1.length < 9223372036854775808; omega
        have hl : c.2.2.length < LF := by show c.2.2.length < 9223372036854775808; omega
        refine (iter_scan (factS c.2.1) c.2.1 (match scan (ruleS c.2.1 c.2.2) c.2.2 0 with
            | some e => some e
            | none => some (if manyL (startsL c.2.1 (condsL c.2.2)) > 4000 then 2 else 0)) ?_ ?_ hf).trans ?_
        · intro i x hx _
          have hi := lt_of_get hx
          have hown : decide (plF c.2.1 x.1 < (i : Int)) = (c.2.1.take i).any fun y => decide (y.1 = x.1) := by
            unfold plF
            rw [idx_take]
            have : (c.2.1.any fun y => decide (y.1 = x.1)) = true := List.any_eq_true.2 ⟨x, List.mem_of_getElem? hx, by simp⟩
            rw [this]; rfl
          simp only [dlt hi, cond_true, getI_nat hx, Option.bind_some, G99_nm, G111_plF _ _ hf, hown, G117_span x.1, succ_W (Nat.lt_of_le_of_lt hi hf)]
          unfold factS
          cases nmB x.1 with
          | false => rfl
          | true =>
            simp only [Bool.not_true, cond_false, jl, Bool.false_or]
            cases (c.2.1.take i).any fun y => decide (y.1 = x.1) with
            | true => rfl
            | false => simp only [cond_false]; cases spanB x <;> rfl
        · intro _
          simp only [dnlt, cond_false]
          congr 1
          refine (iter_scan (ruleS c.2.1 c.2.2) c.2.2 (some (if manyL (startsL c.2.1 (condsL c.2.2)) > 4000 then 2 else 0)) ?_ ?_ hl).trans ?_
          · intro i r hr _
            have hi := lt_of_get hr
            simp only [dlt hi, cond_true, Option.bind_some, G118_rule (c.1, (c.2.1, c.2.2)) i r hr hf (show c.2.2.length ≤ 1000 by omega), succ_W (Nat.lt_of_le_of_lt hi hl)]
            unfold ruleS
            by_cases hz : ruleE c.2.1 c.2.2 i r = 0 <;> simp [hz]
          · intro hs
            simp only [dnlt, cond_false]
            congr 1
            have hcl : (condsL c.2.2).length ≤ 100 := by rw [conds_len]; omega
            unfold G120
            simp only [G109_conds (c.1, (c.2.1, c.2.2)) (show c.2.2.length ≤ 1000 by omega), Option.bind_some, G108_starts _ _ (show c.2.1.length ≤ 1000 by omega) hcl (conds_short hs), G119_many _ (show (startsL c.2.1 (condsL c.2.2)).length ≤ 1000 by unfold startsL; rw [List.length_map]; omega)]
            by_cases hm : manyL (startsL c.2.1 (condsL c.2.2)) > 4000 <;> simp [hm]
          · cases scan (ruleS c.2.1 c.2.2) c.2.2 0 <;> rfl
        · cases scan (factS c.2.1) c.2.1 0 with
          | some e => rfl
          | none => cases scan (ruleS c.2.1 c.2.2) c.2.2 0 <;> rfl
end Go.K
namespace Go.K
open Go.Sl Go.Sx Go.Proofs
theorem itoaC_it {n : Int} (h : -1000000000000 ≤ n ∧ n ≤ 1000000000000) : itoaC n = some (It n) := by
  unfold itoaC It; rw [if_pos (by omega)]
theorem It_size {n : Int} (h : -1000000000000 ≤ n ∧ n ≤ 1000000000000) : (It n).size ≤ 14 := by
  rw [size_len]
  unfold It
  rw [ofL_data]
  unfold Lib.itoa
  have e : (10 : Nat) ^ (12 + 1) = 10000000000000 := by decide
  have h1 := dec_len10 12 n.natAbs (by omega)
  have h2 := dec_len10 12 n.toNat (by omega)
  split
  · simp only [List.length_cons]; omega
  · omega
abbrev tm0 : Tm := (0, (0, (0, (bts [], 0))))
def getT (c : Cnd) (i : Nat) : Tm := c.getD i tm0
theorem getT_I {c : Cnd} {i : Nat} (h : i < List.length c) : getI c (i : Int) = some (getT c i) := by
  refine getI_nat ?_
  unfold getT
  rw [List.getD_eq_getElem?_getD, List.getElem?_eq_getElem h]; rfl
def Shd (c : Cnd) : Prop := ∀ i, i < List.length c → shp (getT c i) i = true ∧ (cmpK (getT c i).1 = true → nmB (getT c i).2.2.2.1 = true)
theorem Shd_4 {c : Cnd} (hc : Shd c) {i : Nat} (hi : i < List.length c) (h : (getT c i).1 = 4) : ∃ a : Nat, (getT c i).2.1 = (a : Int) ∧ a < i := by
  have := (hc i hi).1
  unfold shp at this
  rw [if_neg (by omega), if_neg (by omega), if_pos h] at this
  have := of_decide_eq_true this
  exact ⟨(getT c i).2.1.toNat, by omega, by omega⟩
theorem Shd_5 {c : Cnd} (hc : Shd c) {i : Nat} (hi : i < List.length c) (h : (getT c i).1 = 5 ∨ (getT c i).1 = 6) : ∃ a b : Nat, (getT c i).2.1 = (a : Int) ∧ (getT c i).2.2.1 = (b : Int) ∧ a < i ∧ b < i := by
  have := (hc i hi).1
  unfold shp at this
  rw [if_neg (by omega), if_neg (by omega), if_neg (by omega), if_pos h] at this
  have := of_decide_eq_true this
  exact ⟨(getT c i).2.1.toNat, (getT c i).2.2.1.toNat, by omega, by omega, by omega, by omega⟩
theorem Shd_c {c : Cnd} (hc : Shd c) {i : Nat} (hi : i < List.length c) (h : cmpK (getT c i).1 = true) : (getT c i).2.2.2.1.size ≤ 12 ∧ -1000000000000 ≤ (getT c i).2.2.2.2 ∧ (getT c i).2.2.2.2 ≤ 1000000000000 := by
  have h1 := (hc i hi).1
  have h2 := (hc i hi).2 h
  have h3 := of_decide_eq_true h
  unfold shp at h1
  rw [if_neg (by omega), if_pos h3] at h1
  have h1 := of_decide_eq_true h1
  unfold nmB at h2
  simp only [Bool.and_eq_true, decide_eq_true_eq] at h2
  exact ⟨h2.1.1.2, h1.2.2.1, h1.2.2.2⟩
theorem Shd_k {c : Cnd} (hc : Shd c) {i : Nat} (hi : i < List.length c) : (getT c i).1 = 0 ∨ cmpK (getT c i).1 = true ∨ (getT c i).1 = 4 ∨ (getT c i).1 = 5 ∨ (getT c i).1 = 6 := by
  have h1 := (hc i hi).1
  unfold shp at h1
  by_cases a0 : (getT c i).1 = 0
  · exact .inl a0
  · rw [if_neg a0] at h1
    by_cases a1 : 1 ≤ (getT c i).1 ∧ (getT c i).1 ≤ 3
    · exact .inr (.inl (decide_eq_true a1))
    · rw [if_neg a1] at h1
      by_cases a4 : (getT c i).1 = 4
      · exact .inr (.inr (.inl a4))
      · rw [if_neg a4] at h1
        by_cases a5 : (getT c i).1 = 5 ∨ (getT c i).1 = 6
        · exact .inr (.inr (.inr a5))
        · rw [if_neg a5] at h1; cases h1
def opT (k : Int) (neg : Bool) : ByteArray :=
  bif neg then (if k = 1 then bts [62, 61] else if k = 2 then bts [62] else bts [33, 61]) else (if k = 1 then bts [60] else if k = 2 then bts [60, 61] else bts [61])
def cmpT (t : Tm) (neg : Bool) : ByteArray := (((t.2.2.2.1 ++ bts [32]) ++ opT t.1 neg) ++ bts [32]) ++ It t.2.2.2.2
def rdT (s : ByteArray) (b : Bool) : ByteArray := bif b then (bts [40, 32] ++ s) ++ bts [32, 41] else s
def jnK (k : Int) : Bool := decide (k = 5 ∨ k = 6)
def prT (c : Cnd) : Nat → Nat → ByteArray
  | 0, _ => bts []
  | n + 1, i =>
    if (getT c i).1 = 0 then bts [116, 114, 117, 101]
    else if (getT c i).1 = 4 then
      (if cmpK (getT c (getT c i).2.1.toNat).1 = true then cmpT (getT c (getT c i).2.1.toNat) true
       else bts [110, 111, 116, 32] ++ rdT (prT c n (getT c i).2.1.toNat) (jnK (getT c (getT c i).2.1.toNat).1))
    else if (getT c i).1 = 5 then
      (rdT (prT c n (getT c i).2.1.toNat) (decide ((getT c (getT c i).2.1.toNat).1 = 6)) ++ bts [32, 97, 110, 100, 32]) ++ rdT (prT c n (getT c i).2.2.1.toNat) (jnK (getT c (getT c i).2.2.1.toNat).1)
    else if (getT c i).1 = 6 then
      (prT c n (getT c i).2.1.toNat ++ bts [32, 111, 114, 32]) ++ rdT (prT c n (getT c i).2.2.1.toNat) (decide ((getT c (getT c i).2.2.1.toNat).1 = 6))
    else cmpT (getT c i) false
theorem opT_size (k : Int) (neg : Bool) : (opT k neg).size ≤ 2 := by
  unfold opT
  cases neg <;> simp only [cond_true, cond_false] <;> split <;> (try split) <;> decide
theorem cmpT_size {c : Cnd} (hc : Shd c) {i : Nat} (hi : i < List.length c) (h : cmpK (getT c i).1 = true) (neg : Bool) : (cmpT (getT c i) neg).size ≤ 30 := by
  obtain ⟨h1, h2, h3⟩ := Shd_c hc hi h
  unfold cmpT
  have := It_size ⟨h2, h3⟩
  have := opT_size (getT c i).1 neg
  simp only [size_app, bts_size, List.length_cons, List.length_nil]; omega
theorem rdT_size (s : ByteArray) (b : Bool) : (rdT s b).size ≤ s.size + 4 := by
  unfold rdT
  cases b <;> simp only [cond_true, cond_false, size_app, bts_size, List.length_cons, List.length_nil] <;> omega
theorem prT_size {c : Cnd} (hc : Shd c) : ∀ (n i : Nat), i < List.length c → (prT c n i).size + 20 ≤ 64 * 2 ^ i
  | 0, i, _ => by
    have : 1 ≤ 2 ^ i := Nat.one_le_two_pow
    unfold prT; rw [bts_size]; simp only [List.length_nil]; omega
  | n + 1, i, hi => by
    have hp : 1 ≤ 2 ^ i := Nat.one_le_two_pow
    have hd : ∀ a, a < i → 2 * 2 ^ a ≤ 2 ^ i := fun a h => by
      have h2 : 2 ^ (a + 1) ≤ 2 ^ i := Nat.pow_le_pow_right (by omega) h
      rw [Nat.pow_succ] at h2; omega
    unfold prT
    by_cases a0 : (getT c i).1 = 0
    · rw [if_pos a0, bts_size]; simp only [List.length_cons, List.length_nil]; omega
    rw [if_neg a0]
    by_cases a4 : (getT c i).1 = 4
    · obtain ⟨a, e, ha⟩ := Shd_4 hc hi a4
      have h2 := hd a ha
      rw [if_pos a4, e, Int.toNat_natCast]
      by_cases hk : cmpK (getT c a).1 = true
      · rw [if_pos hk]
        have := cmpT_size hc (show a < List.length c by omega) hk true
        omega
      · rw [if_neg hk]
        have h1 := prT_size hc n a (by omega)
        have h3 := rdT_size (prT c n a) (jnK (getT c a).1)
        simp only [size_app, bts_size, List.length_cons, List.length_nil]; omega
    rw [if_neg a4]
    by_cases a5 : (getT c i).1 = 5
    · obtain ⟨a, b, e, e2, ha, hb⟩ := Shd_5 hc hi (.inl a5)
      have h2 := hd a ha
      have h2b := hd b hb
      rw [if_pos a5, e, e2, Int.toNat_natCast, Int.toNat_natCast]
      have h1 := prT_size hc n a (by omega)
      have h1b := prT_size hc n b (by omega)
      have h3 := rdT_size (prT c n a) (decide ((getT c a).1 = 6))
      have h3b := rdT_size (prT c n b) (jnK (getT c b).1)
      simp only [size_app, bts_size, List.length_cons, List.length_nil]; omega
    rw [if_neg a5]
    by_cases a6 : (getT c i).1 = 6
    · obtain ⟨a, b, e, e2, ha, hb⟩ := Shd_5 hc hi (.inr a6)
      have h2 := hd a ha
      have h2b := hd b hb
      rw [if_pos a6, e, e2, Int.toNat_natCast, Int.toNat_natCast]
      have h1 := prT_size hc n a (by omega)
      have h1b := prT_size hc n b (by omega)
      have h3b := rdT_size (prT c n b) (decide ((getT c b).1 = 6))
      simp only [size_app, bts_size, List.length_cons, List.length_nil]; omega
    rw [if_neg a6]
    have hk : cmpK (getT c i).1 = true := by rcases Shd_k hc hi with h | h | h | h | h <;> first | exact h | omega
    have := cmpT_size hc hi hk false
    omega
end Go.K
namespace Go.K
open Go.Sl Go.Sx Go.Proofs
theorem peta {α β : Type} (p : α × β) : (p.1, p.2) = p := rfl
theorem cmp_cats {t : Tm} {neg : Bool} (h : t.2.2.2.1.size ≤ 12 ∧ -1000000000000 ≤ t.2.2.2.2 ∧ t.2.2.2.2 ≤ 1000000000000) : catC t.2.2.2.1 (bts [32]) = some () ∧ catC (t.2.2.2.1 ++ bts [32]) (opT t.1 neg) = some () ∧ catC ((t.2.2.2.1 ++ bts [32]) ++ opT t.1 neg) (bts [32]) = some () ∧ catC (((t.2.2.2.1 ++ bts [32]) ++ opT t.1 neg) ++ bts [32]) (It t.2.2.2.2) = some () := by
  have := It_size h.2
  have := opT_size t.1 neg
  have := h.1
  refine ⟨catC_of ?_, catC_of ?_, catC_of ?_, catC_of ?_⟩ <;> simp only [size_app, bts_size, List.length_cons, List.length_nil] <;> omega
theorem rd_cats {s : ByteArray} (h : s.size ≤ 1099511627776) : catC (bts [40, 32]) s = some () ∧ catC (bts [40, 32] ++ s) (bts [32, 41]) = some () := by
  refine ⟨catC_of ?_, catC_of ?_⟩ <;> simp only [size_app, bts_size, List.length_cons, List.length_nil] <;> omega
theorem pr_small {c : Cnd} (hc : Shd c) (h30 : List.length c ≤ 30) (n : Nat) {i : Nat} (hi : i < List.length c) : (prT c n i).size ≤ 68719476736 := by
  have h1 := prT_size hc n i hi
  have h2 : 2 ^ i ≤ 2 ^ 30 := Nat.pow_le_pow_right (by omega) (by omega)
  have e : (2 : Nat) ^ 30 = 1073741824 := by decide
  omega
abbrev P3 := ByteArray × (Int × Bool)
def pcsT (c : Cnd) (i : Nat) : List P3 :=
  if (getT c i).1 = 0 then [(bts [116, 114, 117, 101], (0, false))]
  else if (getT c i).1 = 4 then
    (if cmpK (getT c (getT c i).2.1.toNat).1 = true then [(cmpT (getT c (getT c i).2.1.toNat) true, (0, false))]
     else [(bts [110, 111, 116], (0, false)), (bts [], ((getT c i).2.1, jnK (getT c (getT c i).2.1.toNat).1))])
  else if (getT c i).1 = 5 then [(bts [], ((getT c i).2.1, decide ((getT c (getT c i).2.1.toNat).1 = 6))), (bts [97, 110, 100], (0, false)), (bts [], ((getT c i).2.2.1, jnK (getT c (getT c i).2.2.1.toNat).1))]
  else if (getT c i).1 = 6 then [(bts [], ((getT c i).2.1, false)), (bts [111, 114], (0, false)), (bts [], ((getT c i).2.2.1, decide ((getT c (getT c i).2.2.1.toNat).1 = 6)))]
  else [(cmpT (getT c i) false, (0, false))]
theorem G246_op {k : Int} (neg : Bool) (h : cmpK k = true) : G246 LF (k, neg) = some (opT k neg) := by
  have h := of_decide_eq_true h
  have : k = 1 ∨ k = 2 ∨ k = 3 := by omega
  rcases this with e | e | e <;> subst e <;> cases neg <;> rfl
theorem G220_t {c : Cnd} {i : Nat} (hi : i < List.length c) {neg : Bool} (hk : cmpK (getT c i).1 = true) (h : (getT c i).2.2.2.1.size ≤ 12 ∧ -1000000000000 ≤ (getT c i).2.2.2.2 ∧ (getT c i).2.2.2.2 ≤ 1000000000000) : G220 LF (c, ((i : Int), neg)) = some (cmpT (getT c i) neg) := by
  unfold G220
  obtain ⟨c1, c2, c3, c4⟩ := cmp_cats (t := getT c i) (neg := neg) h
  simp only [getT_I hi, Option.bind_some, G246_op neg hk, c1, c2, c3, c4, itoaC_it h.2]
  rfl
theorem G167_k {c : Cnd} {i : Nat} (hi : i < List.length c) : G167 LF (c, (i : Int)) = some (getT c i).1 := by
  unfold G167
  simp only [getT_I hi, Option.bind_some]
theorem G166_pcs {c : Cnd} (hc : Shd c) {i : Nat} (hi : i < List.length c) : G166 LF (c, (i : Int)) = some (pcsT c i) := by
  unfold G166 pcsT
  simp only [getT_I hi, Option.bind_some]
  by_cases a0 : (getT c i).1 = 0
  · simp only [a0, decide_true, cond_true, if_true]
  simp only [a0, decide_false, cond_false, if_false]
  by_cases a4 : (getT c i).1 = 4
  · obtain ⟨a, e, ha⟩ := Shd_4 hc hi a4
    have hal : a < List.length c := by omega
    simp only [a4, decide_true, cond_true, if_true, e, G167_k hal, Option.bind_some, Int.toNat_natCast, G93_cmp]
    cases hk : cmpK (getT c a).1 with
    | true => simp only [cond_true, if_true, G220_t hal hk (Shd_c hc hal hk), Option.bind_some]
    | false =>
      simp only [cond_false, Bool.false_eq_true, if_false, jnK]
      by_cases h5 : (getT c a).1 = 5
      · simp only [h5, decide_true, cond_true, true_or]
      · simp only [h5, decide_false, cond_false, false_or]
  simp only [a4, decide_false, cond_false, if_false]
  by_cases a5 : (getT c i).1 = 5
  · obtain ⟨a, b, e, e2, ha, hb⟩ := Shd_5 hc hi (.inl a5)
    have hal : a < List.length c := by omega
    have hbl : b < List.length c := by omega
    simp only [a5, decide_true, cond_true, if_true, e, e2, G167_k hal, G167_k hbl, Option.bind_some, Int.toNat_natCast, jnK]
    by_cases h5 : (getT c b).1 = 5
    · simp only [h5, decide_true, cond_true, true_or]
    · simp only [h5, decide_false, cond_false, false_or]
  simp only [a5, decide_false, cond_false, if_false]
  by_cases a6 : (getT c i).1 = 6
  · obtain ⟨a, b, e, e2, ha, hb⟩ := Shd_5 hc hi (.inr a6)
    have hbl : b < List.length c := by omega
    simp only [a6, decide_true, cond_true, if_true, e, e2, G167_k hbl, Option.bind_some, Int.toNat_natCast]
  simp only [a6, decide_false, cond_false, if_false]
  have hk : cmpK (getT c i).1 = true := by rcases Shd_k hc hi with h | h | h | h | h <;> first | exact h | omega
  simp only [G220_t hi hk (Shd_c hc hi hk), Option.bind_some]
end Go.K
namespace Go.K
open Go.Sl Go.Sx Go.Proofs
theorem ne_empty {s : ByteArray} (h : 0 < s.size) : (s.data.toList == ([] : List UInt8)) = false := by
  rw [size_len] at h
  cases e : s.data.toList with
  | nil => rw [e] at h; simp at h
  | cons a l => rfl
theorem cmpT_ne (t : Tm) (neg : Bool) : ((cmpT t neg).data.toList == ([] : List UInt8)) = false := by
  apply ne_empty
  unfold cmpT
  simp only [size_app, bts_size, List.length_cons, List.length_nil]; omega
theorem pcs_mem {c : Cnd} (hc : Shd c) {i : Nat} (hi : i < List.length c) : ∀ p ∈ pcsT c i, (p.1.data.toList == ([] : List UInt8)) = false ∨ ((p.1.data.toList == ([] : List UInt8)) = true ∧ ∃ a : Nat, p.2.1 = (a : Int) ∧ a < i) := by
  intro p hp
  unfold pcsT at hp
  by_cases a0 : (getT c i).1 = 0
  · rw [if_pos a0] at hp
    rcases List.mem_singleton.1 hp with rfl
    exact .inl rfl
  rw [if_neg a0] at hp
  by_cases a4 : (getT c i).1 = 4
  · obtain ⟨a, e, ha⟩ := Shd_4 hc hi a4
    rw [if_pos a4, e] at hp
    split at hp
    · rcases List.mem_singleton.1 hp with rfl
      exact .inl (cmpT_ne _ _)
    · rcases List.mem_cons.1 hp with rfl | hp
      · exact .inl rfl
      · rcases List.mem_singleton.1 hp with rfl
        exact .inr ⟨rfl, a, rfl, ha⟩
  rw [if_neg a4] at hp
  by_cases a5 : (getT c i).1 = 5
  · obtain ⟨a, b, e, e2, ha, hb⟩ := Shd_5 hc hi (.inl a5)
    rw [if_pos a5, e, e2] at hp
    rcases List.mem_cons.1 hp with rfl | hp
    · exact .inr ⟨rfl, a, rfl, ha⟩
    · rcases List.mem_cons.1 hp with rfl | hp
      · exact .inl rfl
      · rcases List.mem_singleton.1 hp with rfl
        exact .inr ⟨rfl, b, rfl, hb⟩
  rw [if_neg a5] at hp
  by_cases a6 : (getT c i).1 = 6
  · obtain ⟨a, b, e, e2, ha, hb⟩ := Shd_5 hc hi (.inr a6)
    rw [if_pos a6, e, e2] at hp
    rcases List.mem_cons.1 hp with rfl | hp
    · exact .inr ⟨rfl, a, rfl, ha⟩
    · rcases List.mem_cons.1 hp with rfl | hp
      · exact .inl rfl
      · rcases List.mem_singleton.1 hp with rfl
        exact .inr ⟨rfl, b, rfl, hb⟩
  rw [if_neg a6] at hp
  rcases List.mem_singleton.1 hp with rfl
  exact .inl (cmpT_ne _ _)
theorem pcs_len (c : Cnd) (i : Nat) : (pcsT c i).length ≤ 3 := by
  unfold pcsT
  split
  · simp
  · split
    · split <;> simp
    · split
      · simp
      · split <;> simp
theorem join1 {a : ByteArray} (h : a.size ≤ 274877906944) : joinC (bts [32]) [a] = some a := by
  unfold joinC
  rw [if_pos (by simp only [List.foldl, bts_size, List.length_cons, List.length_nil]; omega)]; rfl
theorem join2 {a b : ByteArray} (h : a.size ≤ 274877906944) (h2 : b.size ≤ 274877906944) : joinC (bts [32]) [a, b] = some (a ++ bts [32] ++ b) := by
  unfold joinC
  rw [if_pos (by simp only [List.foldl, bts_size, List.length_cons, List.length_nil]; omega)]; rfl
theorem join3 {a b d : ByteArray} (h : a.size ≤ 274877906944) (h2 : b.size ≤ 274877906944) (h3 : d.size ≤ 274877906944) : joinC (bts [32]) [a, b, d] = some (a ++ bts [32] ++ b ++ bts [32] ++ d) := by
  unfold joinC
  rw [if_pos (by simp only [List.foldl, bts_size, List.length_cons, List.length_nil]; omega)]; rfl
theorem word_not : bts [110, 111, 116] ++ bts [32] = bts [110, 111, 116, 32] := ext_data (by rw [app_data]; rfl)
theorem word_and (x : ByteArray) : x ++ bts [32] ++ bts [97, 110, 100] ++ bts [32] = x ++ bts [32, 97, 110, 100, 32] := by
  apply ext_data; simp only [app_data, List.append_assoc]; rfl
theorem word_or (x : ByteArray) : x ++ bts [32] ++ bts [111, 114] ++ bts [32] = x ++ bts [32, 111, 114, 32] := by
  apply ext_data; simp only [app_data, List.append_assoc]; rfl
def vP (c : Cnd) (n : Nat) (p : P3) : ByteArray := bif p.1.data.toList == ([] : List UInt8) then rdT (prT c n p.2.1.toNat) p.2.2 else p.1
theorem G96_pr {c : Cnd} (hc : Shd c) (h30 : List.length c ≤ 30) : ∀ (n i : Nat), i < n → i < List.length c → G96 LF n (c, (i : Int)) = some (prT c n i)
  | 0, i, h, _ => by omega
  | n + 1, i, h, hi => by
    rw [G96.eq_2]
    have hlen := pcs_len c i
    simp only [G166_pcs hc hi, Option.bind_some]
    refine (iter_app (fun k a => (a, k)) (fun p => [vP c n p]) (pcsT c i) (fun a => (joinC (bts [32]) a).bind fun r24 => some r24) 1 (fun _ _ => by simp) [] ?_ ?_ (by show (pcsT c i).length < 9223372036854775808; omega)).trans ?_
    · intro k p a hp ha hk
      have hm := pcs_mem hc hi p (List.mem_of_getElem? hp)
      have hab : List.length a ≤ 100 := by simp only [List.length_nil] at ha; omega
      have happ : ∀ v : ByteArray, appC a [v] = some (a ++ [v]) := fun v => appC_of (by simp; omega)
      simp only [dlt hk, cond_true, getI_nat hp, Option.bind_some, succ_W (show k + 1 < 9223372036854775808 by omega)]
      unfold vP
      rcases hm with e | ⟨e, b, e2, hb⟩
      · simp only [e, Bool.not_false, cond_true, cond_false, happ, Option.bind_some]
      · have ih := G96_pr hc h30 n b (by omega) (by omega)
        have hs := pr_small hc h30 n (show b < List.length c by omega)
        obtain ⟨c1, c2⟩ := rd_cats (show (prT c n b).size ≤ 1099511627776 by omega)
        simp only [e, Bool.not_true, cond_false, cond_true, e2, ih, Option.bind_some, Int.toNat_natCast, rdT]
        cases p.2.2 with
        | true => simp only [cond_true, c1, c2, happ, Option.bind_some]
        | false => simp only [cond_false, happ, Option.bind_some]
    · intro a _
      simp only [dnlt, cond_false]
    · rw [List.nil_append]
      have hfm : ∀ l : List P3, l.flatMap (fun p => [vP c n p]) = l.map (vP c n) := fun l => by
        induction l with
        | nil => rfl
        | cons x l ih => rw [List.flatMap_cons, ih]; rfl
      rw [hfm]
      have hbind : ∀ o : Option ByteArray, (o.bind fun r24 => some r24) = o := fun o => by cases o <;> rfl
      rw [hbind]
      unfold pcsT prT
      by_cases a0 : (getT c i).1 = 0
      · rw [if_pos a0, if_pos a0]
        exact join1 (a := bts [116, 114, 117, 101]) (by rw [bts_size]; simp)
      rw [if_neg a0, if_neg a0]
      have hk3 : (bts [97, 110, 100]).size ≤ 274877906944 := by rw [bts_size]; simp
      have hk2 : (bts [111, 114]).size ≤ 274877906944 := by rw [bts_size]; simp
      have hkn : (bts [110, 111, 116]).size ≤ 274877906944 := by rw [bts_size]; simp
      have hrd : ∀ (a : Nat) (b : Bool), a < List.length c → (rdT (prT c n a) b).size ≤ 274877906944 := fun a b h => by
        have := rdT_size (prT c n a) b
        have := pr_small hc h30 n h
        omega
      have hcv : ∀ (t : Tm) (neg : Bool), vP c n (cmpT t neg, (0, false)) = cmpT t neg := fun t neg => by unfold vP; simp only [cmpT_ne, cond_false]
      by_cases a4 : (getT c i).1 = 4
      · obtain ⟨a, e, ha⟩ := Shd_4 hc hi a4
        rw [if_pos a4, if_pos a4, e, Int.toNat_natCast]
        by_cases hk : cmpK (getT c a).1 = true
        · rw [if_pos hk, if_pos hk]
          have := cmpT_size hc (show a < List.length c by omega) hk true
          refine (congrArg (fun z => joinC (bts [32]) [z]) (hcv _ _)).trans (join1 (by omega))
        · rw [if_neg hk, if_neg hk]
          refine (join2 hkn (hrd a (jnK (getT c a).1) (by omega))).trans ?_
          rw [word_not]
      rw [if_neg a4, if_neg a4]
      by_cases a5 : (getT c i).1 = 5
      · obtain ⟨a, b, e, e2, ha, hb⟩ := Shd_5 hc hi (.inl a5)
        rw [if_pos a5, if_pos a5, e, e2, Int.toNat_natCast, Int.toNat_natCast]
        refine (join3 (hrd a (decide ((getT c a).1 = 6)) (by omega)) hk3 (hrd b (jnK (getT c b).1) (by omega))).trans ?_
        rw [word_and]
      rw [if_neg a5, if_neg a5]
      by_cases a6 : (getT c i).1 = 6
      · obtain ⟨a, b, e, e2, ha, hb⟩ := Shd_5 hc hi (.inr a6)
        rw [if_pos a6, if_pos a6, e, e2, Int.toNat_natCast, Int.toNat_natCast]
        refine (join3 (hrd a false (by omega)) hk2 (hrd b (decide ((getT c b).1 = 6)) (by omega))).trans ?_
        rw [word_or]; rfl
      rw [if_neg a6, if_neg a6]
      have hk : cmpK (getT c i).1 = true := by rcases Shd_k hc hi with h | h | h | h | h <;> first | exact h | omega
      have := cmpT_size hc hi hk false
      exact (congrArg (fun z => joinC (bts [32]) [z]) (hcv _ _)).trans (join1 (by omega))
end Go.K
namespace Go.K
open Go.Sl Go.Sx Go.Proofs
abbrev Sz3 := Int × (Int × Int)
def rdS (s : Sz3) (b : Bool) : Sz3 := bif b then (s.1 + 4, (s.2.1 + 1, s.2.2)) else s
def mx (a b : Int) : Int := if b > a then b else a
def two (w : Int) (x y : Sz3) : Sz3 := (x.1 + w + y.1, (mx x.2.1 y.2.1, x.2.2 + y.2.2 + 1))
def capS (r : Sz3) : Sz3 := (if 8001 < r.1 then 8001 else r.1, (r.2.1, if 31 < r.2.2 then 31 else r.2.2))
def getS (out : List Sz3) (a : Nat) : Sz3 := out.getD a (0, (0, 0))
def szR (c : Cnd) (out : List Sz3) (i : Nat) : Sz3 :=
  if cmpK (getT c i).1 = true then (((cmpT (getT c i) false).size : Int), (0, 1))
  else if (getT c i).1 = 4 then
    (if cmpK (getT c (getT c i).2.1.toNat).1 = true then (((cmpT (getT c (getT c i).2.1.toNat) true).size : Int), (0, 2))
     else ((rdS (getS out (getT c i).2.1.toNat) (jnK (getT c (getT c i).2.1.toNat).1)).1 + 4, ((rdS (getS out (getT c i).2.1.toNat) (jnK (getT c (getT c i).2.1.toNat).1)).2.1 + 1, (rdS (getS out (getT c i).2.1.toNat) (jnK (getT c (getT c i).2.1.toNat).1)).2.2 + 1)))
  else if (getT c i).1 = 5 then two 5 (rdS (getS out (getT c i).2.1.toNat) (decide ((getT c (getT c i).2.1.toNat).1 = 6))) (rdS (getS out (getT c i).2.2.1.toNat) (jnK (getT c (getT c i).2.2.1.toNat).1))
  else if (getT c i).1 = 6 then two 4 (rdS (getS out (getT c i).2.1.toNat) false) (rdS (getS out (getT c i).2.2.1.toNat) (decide ((getT c (getT c i).2.2.1.toNat).1 = 6)))
  else (4, (0, 1))
def szL (c : Cnd) : Nat → List Sz3
  | 0 => []
  | i + 1 => szL c i ++ [capS (szR c (szL c i) i)]
def OkS (i : Nat) (s : Sz3) : Prop := 0 ≤ s.1 ∧ s.1 ≤ 8001 ∧ 0 ≤ s.2.1 ∧ s.2.1 ≤ 2 * (i + 1) ∧ 0 ≤ s.2.2 ∧ s.2.2 ≤ 31
theorem szL_len (c : Cnd) : ∀ i, (szL c i).length = i
  | 0 => rfl
  | i + 1 => by unfold szL; rw [List.length_append, szL_len c i]; rfl
theorem rdS_ok {s : Sz3} {a : Nat} (b : Bool) (h : OkS a s) : 0 ≤ (rdS s b).1 ∧ (rdS s b).1 ≤ 8005 ∧ 0 ≤ (rdS s b).2.1 ∧ (rdS s b).2.1 ≤ 2 * (a + 1) + 1 ∧ 0 ≤ (rdS s b).2.2 ∧ (rdS s b).2.2 ≤ 31 := by
  obtain ⟨h1, h2, h3, h4, h5, h6⟩ := h
  unfold rdS
  cases b <;> simp only [cond_true, cond_false] <;> omega
theorem capS_ok {s : Sz3} {a : Nat} (h1 : 0 ≤ s.1) (h2 : 0 ≤ s.2.1 ∧ s.2.1 ≤ 2 * (a + 1)) (h3 : 0 ≤ s.2.2) : OkS a (capS s) := by
  unfold OkS capS
  refine ⟨?_, ?_, h2.1, h2.2, ?_, ?_⟩ <;> simp only <;> split <;> omega
theorem szR_ok {c : Cnd} (hc : Shd c) {i : Nat} (hi : i < List.length c) {out : List Sz3} (ho : ∀ a, a < i → OkS a (getS out a)) : 0 ≤ (szR c out i).1 ∧ (0 ≤ (szR c out i).2.1 ∧ (szR c out i).2.1 ≤ 2 * (i + 1)) ∧ 0 ≤ (szR c out i).2.2 := by
  unfold szR
  by_cases hk : cmpK (getT c i).1 = true
  · rw [if_pos hk]; exact ⟨by simp only; omega, ⟨by simp only; omega, by simp only; omega⟩, by simp only; omega⟩
  rw [if_neg hk]
  by_cases a4 : (getT c i).1 = 4
  · obtain ⟨a, e, ha⟩ := Shd_4 hc hi a4
    rw [if_pos a4, e, Int.toNat_natCast]
    by_cases hk2 : cmpK (getT c a).1 = true
    · rw [if_pos hk2]; exact ⟨by simp only; omega, ⟨by simp only; omega, by simp only; omega⟩, by simp only; omega⟩
    · rw [if_neg hk2]
      obtain ⟨h1, h2, h3, h4, h5, h6⟩ := rdS_ok (jnK (getT c a).1) (ho a ha)
      exact ⟨by simp only; omega, ⟨by simp only; omega, by simp only; omega⟩, by simp only; omega⟩
  rw [if_neg a4]
  by_cases a5 : (getT c i).1 = 5
  · obtain ⟨a, b, e, e2, ha, hb⟩ := Shd_5 hc hi (.inl a5)
    rw [if_pos a5, e, e2, Int.toNat_natCast, Int.toNat_natCast]
    obtain ⟨h1, h2, h3, h4, h5, h6⟩ := rdS_ok (decide ((getT c a).1 = 6)) (ho a ha)
    obtain ⟨k1, k2, k3, k4, k5, k6⟩ := rdS_ok (jnK (getT c b).1) (ho b hb)
    unfold two mx
    refine ⟨by simp only; omega, ⟨?_, ?_⟩, by simp only; omega⟩ <;> simp only <;> split <;> omega
  rw [if_neg a5]
  by_cases a6 : (getT c i).1 = 6
  · obtain ⟨a, b, e, e2, ha, hb⟩ := Shd_5 hc hi (.inr a6)
    rw [if_pos a6, e, e2, Int.toNat_natCast, Int.toNat_natCast]
    obtain ⟨h1, h2, h3, h4, h5, h6⟩ := rdS_ok false (ho a ha)
    obtain ⟨k1, k2, k3, k4, k5, k6⟩ := rdS_ok (decide ((getT c b).1 = 6)) (ho b hb)
    unfold two mx
    refine ⟨by simp only; omega, ⟨?_, ?_⟩, by simp only; omega⟩ <;> simp only <;> split <;> omega
  rw [if_neg a6]
  exact ⟨by simp only; omega, ⟨by simp only; omega, by simp only; omega⟩, by simp only; omega⟩
theorem szL_ok {c : Cnd} (hc : Shd c) : ∀ i, i ≤ List.length c → ∀ a, a < i → OkS a (getS (szL c i) a)
  | 0, _, a, h => by omega
  | i + 1, hi, a, h => by
    have hl := szL_len c i
    have ih := szL_ok hc i (by omega)
    by_cases e : a < i
    · have := ih a e
      unfold getS at this ⊢
      unfold szL
      rw [List.getD_eq_getElem?_getD, List.getElem?_append_left (by omega)]
      rwa [List.getD_eq_getElem?_getD] at this
    · have ea : a = i := by omega
      subst ea
      have hr := szR_ok hc (show a < List.length c by omega) ih
      unfold getS szL
      rw [List.getD_eq_getElem?_getD, List.getElem?_append_right (by omega), hl, Nat.sub_self]
      exact capS_ok hr.1 hr.2.1 hr.2.2
theorem iter_cnt {α ρ : Type} {f : α → Option (α ⊕ ρ)} (mk : Nat → α) (r : ρ) (N : Nat) (h1 : ∀ i, i < N → f (mk i) = some (.inl (mk (i + 1)))) (h2 : f (mk N) = some (.inr r)) : ∀ (m k lf : Nat), N = k + m → m < lf → iter lf f (mk k) = some r
  | 0, k, 0, _, h => by omega
  | m + 1, k, 0, _, h => by omega
  | 0, k, lf + 1, e, _ => by
    have : k = N := by omega
    subst this
    simp only [iter, h2]
  | m + 1, k, lf + 1, e, h => by
    simp only [iter, h1 k (by omega)]
    exact iter_cnt mk r N h1 h2 m (k + 1) lf (by omega) (by omega)
end Go.K
namespace Go.K
open Go.Sl Go.Sx Go.Proofs
theorem pcs_sz {c : Cnd} (hc : Shd c) {i : Nat} (hi : i < List.length c) : ∀ p ∈ pcsT c i, p.1.size ≤ 30 := by
  intro p hp
  unfold pcsT at hp
  by_cases a0 : (getT c i).1 = 0
  · rw [if_pos a0] at hp
    rcases List.mem_singleton.1 hp with rfl
    rw [bts_size]; simp
  rw [if_neg a0] at hp
  by_cases a4 : (getT c i).1 = 4
  · obtain ⟨a, e, ha⟩ := Shd_4 hc hi a4
    rw [if_pos a4, e, Int.toNat_natCast] at hp
    by_cases hk : cmpK (getT c a).1 = true
    · rw [if_pos hk] at hp
      rcases List.mem_singleton.1 hp with rfl
      exact cmpT_size hc (by omega) hk true
    · rw [if_neg hk] at hp
      rcases List.mem_cons.1 hp with rfl | hp
      · rw [bts_size]; simp
      · rcases List.mem_singleton.1 hp with rfl
        rw [bts_size]; simp
  rw [if_neg a4] at hp
  by_cases a5 : (getT c i).1 = 5
  · rw [if_pos a5] at hp
    rcases List.mem_cons.1 hp with rfl | hp
    · rw [bts_size]; simp
    · rcases List.mem_cons.1 hp with rfl | hp
      · rw [bts_size]; simp
      · rcases List.mem_singleton.1 hp with rfl
        rw [bts_size]; simp
  rw [if_neg a5] at hp
  by_cases a6 : (getT c i).1 = 6
  · rw [if_pos a6] at hp
    rcases List.mem_cons.1 hp with rfl | hp
    · rw [bts_size]; simp
    · rcases List.mem_cons.1 hp with rfl | hp
      · rw [bts_size]; simp
      · rcases List.mem_singleton.1 hp with rfl
        rw [bts_size]; simp
  rw [if_neg a6] at hp
  rcases List.mem_singleton.1 hp with rfl
  have hk : cmpK (getT c i).1 = true := by rcases Shd_k hc hi with h | h | h | h | h <;> first | exact h | omega
  exact cmpT_size hc hi hk false
def stQ (out : List Sz3) (p : P3) (s : Sz3) : Sz3 :=
  bif p.1.data.toList == ([] : List UInt8) then
    (bif p.2.2 then (s.1 + 1 + (getS out p.2.1.toNat).1 + 4, (s.2.1 + (getS out p.2.1.toNat).2.2, mx s.2.2 ((getS out p.2.1.toNat).2.1 + 1)))
     else (s.1 + 1 + (getS out p.2.1.toNat).1, (s.2.1 + (getS out p.2.1.toNat).2.2, mx s.2.2 (getS out p.2.1.toNat).2.1)))
  else (s.1 + 1 + (p.1.size : Int), s.2)
def fnQ (c : Cnd) (i : Nat) (a : Sz3) : Sz3 :=
  if (getT c i).1 = 4 then (if cmpK (getT c (getT c i).2.1.toNat).1 = true then (a.1, (a.2.2, 2)) else (a.1, (a.2.2 + 1, a.2.1))) else (a.1, (a.2.2, a.2.1))
theorem mx_le {a b n : Int} (h1 : a ≤ n) (h2 : b ≤ n) : mx a b ≤ n := by unfold mx; split <;> omega
theorem mx_ge {a b : Int} (h1 : 0 ≤ a) (h2 : 0 ≤ b) : 0 ≤ mx a b := by unfold mx; split <;> omega
theorem mx_0 {b : Int} (h : 0 ≤ b) : mx 0 b = b := by unfold mx; split <;> omega
theorem fn_szR {c : Cnd} (hc : Shd c) {i : Nat} (hi : i < List.length c) {out : List Sz3} (ho : ∀ a, a < i → OkS a (getS out a)) : fnQ c i (foldI (fun p _ s => stQ out p s) (pcsT c i) 0 ((-1 : Int), ((1 : Int), (0 : Int)))) = szR c out i := by
  have hcm : ∀ (t : Tm) (neg : Bool) (s : Sz3), stQ out (cmpT t neg, (0, false)) s = (s.1 + 1 + ((cmpT t neg).size : Int), s.2) := fun t neg s => by unfold stQ; simp only [cmpT_ne, cond_false]
  have hst : ∀ (a : Nat) (b : Bool) (s : Sz3), a < i → stQ out (bts [], ((a : Int), b)) s = (s.1 + 1 + (rdS (getS out a) b).1, (s.2.1 + (rdS (getS out a) b).2.2, mx s.2.2 (rdS (getS out a) b).2.1)) := fun a b s _ => by
    unfold stQ rdS
    cases b with
    | true =>
      have e : ((bts []).data.toList == ([] : List UInt8)) = true := rfl
      simp only [e, cond_true, Int.toNat_natCast, Prod.mk.injEq, and_true]; omega
    | false => rfl
  unfold szR pcsT fnQ
  by_cases a0 : (getT c i).1 = 0
  · have hk : ¬ cmpK (getT c i).1 = true := fun h => by have := of_decide_eq_true h; omega
    have n4 : ¬ (getT c i).1 = 4 := by omega
    have n5 : ¬ (getT c i).1 = 5 := by omega
    have n6 : ¬ (getT c i).1 = 6 := by omega
    rw [if_pos a0, if_neg hk, if_neg n4, if_neg n4, if_neg n5, if_neg n6]; rfl
  rw [if_neg a0]
  by_cases a4 : (getT c i).1 = 4
  · have hk : ¬ cmpK (getT c i).1 = true := fun h => by have := of_decide_eq_true h; omega
    obtain ⟨a, e, ha⟩ := Shd_4 hc hi a4
    rw [if_pos a4, if_pos a4, if_pos a4, if_neg hk, e, Int.toNat_natCast]
    by_cases hk2 : cmpK (getT c a).1 = true
    · rw [if_pos hk2, if_pos hk2, if_pos hk2]
      simp only [foldI, hcm, Prod.mk.injEq, and_true]; omega
    · rw [if_neg hk2, if_neg hk2, if_neg hk2]
      obtain ⟨h1, h2, h3, h4, h5, h6⟩ := rdS_ok (jnK (getT c a).1) (ho a ha)
      have e1 : ∀ s : Sz3, stQ out (bts [110, 111, 116], (0, false)) s = (s.1 + 1 + 3, s.2) := fun _ => rfl
      simp only [foldI, e1, hst _ _ _ ha, mx_0 h3, Prod.mk.injEq]
      refine ⟨by omega, trivial, by omega⟩
  rw [if_neg a4, if_neg a4, if_neg a4]
  by_cases a5 : (getT c i).1 = 5
  · have hk : ¬ cmpK (getT c i).1 = true := fun h => by have := of_decide_eq_true h; omega
    obtain ⟨a, b, e, e2, ha, hb⟩ := Shd_5 hc hi (.inl a5)
    rw [if_pos a5, if_pos a5, if_neg hk, e, e2, Int.toNat_natCast, Int.toNat_natCast]
    obtain ⟨h1, h2, h3, h4, h5, h6⟩ := rdS_ok (decide ((getT c a).1 = 6)) (ho a ha)
    have e1 : ∀ s : Sz3, stQ out (bts [97, 110, 100], (0, false)) s = (s.1 + 1 + 3, s.2) := fun _ => rfl
    simp only [foldI, e1, hst _ _ _ ha, hst _ _ _ hb, mx_0 h3, two, Prod.mk.injEq]
    refine ⟨by omega, trivial, by omega⟩
  rw [if_neg a5, if_neg a5]
  by_cases a6 : (getT c i).1 = 6
  · have hk : ¬ cmpK (getT c i).1 = true := fun h => by have := of_decide_eq_true h; omega
    obtain ⟨a, b, e, e2, ha, hb⟩ := Shd_5 hc hi (.inr a6)
    rw [if_pos a6, if_pos a6, if_neg hk, e, e2, Int.toNat_natCast, Int.toNat_natCast]
    obtain ⟨h1, h2, h3, h4, h5, h6⟩ := rdS_ok false (ho a ha)
    have e1 : ∀ s : Sz3, stQ out (bts [111, 114], (0, false)) s = (s.1 + 1 + 2, s.2) := fun _ => rfl
    simp only [foldI, e1, hst _ _ _ ha, hst _ _ _ hb, mx_0 h3, two, Prod.mk.injEq]
    refine ⟨by omega, trivial, by omega⟩
  have hk : cmpK (getT c i).1 = true := by rcases Shd_k hc hi with h | h | h | h | h <;> first | exact h | omega
  rw [if_neg a6, if_pos hk]
  simp only [foldI, hcm, Prod.mk.injEq, and_true]; omega
theorem szL_map {β : Type} {c : Cnd} {i a : Nat} (f : Sz3 → β) (h : a < i) : getI ((szL c i).map f) (a : Int) = some (f (getS (szL c i) a)) := by
  refine getI_nat ?_
  have hl := szL_len c i
  unfold getS
  rw [List.getElem?_map, List.getD_eq_getElem?_getD, List.getElem?_eq_getElem (by omega)]; rfl
abbrev mk95 (c : Cnd) (i : Nat) : (List Int) × ((List Int) × ((List Int) × Int)) := ((szL c i).map (·.1), ((szL c i).map (·.2.2), ((szL c i).map (·.2.1), (i : Int))))
theorem G95_sz {c : Cnd} (hc : Shd c) (h30 : List.length c ≤ 30) : G95 LF c = some ((szL c (List.length c)).map (·.1), ((szL c (List.length c)).map (·.2.2), (szL c (List.length c)).map (·.2.1))) := by
  unfold G95
  refine iter_cnt (mk95 c) _ (List.length c) ?_ ?_ (List.length c) 0 LF (by omega) (by show List.length c < 9223372036854775808; omega)
  · intro i hi
    have hok := szL_ok hc i (by omega)
    have hlen := szL_len c i
    have hpl := pcs_len c i
    have happ : ∀ (f : Sz3 → Int) (v : Int), appC ((szL c i).map f) [v] = some ((szL c i).map f ++ [v]) := fun f v => appC_of (by rw [List.length_map]; simp; omega)
    simp only [mk95, dlt hi, cond_true, G166_pcs hc hi, Option.bind_some]
    refine (iter_foldI (fun k (s : Sz3) => (s.1, (s.2.1, (s.2.2, k)))) (fun p _ s => stQ (szL c i) p s) (fun k s => -1 ≤ s.1 ∧ s.1 ≤ 10000 * k ∧ 1 ≤ s.2.1 ∧ s.2.1 ≤ 1 + 31 * k ∧ 0 ≤ s.2.2 ∧ s.2.2 ≤ 100) (pcsT c i)
      (fun a => some (Sum.inl ((szL c i).map (·.1) ++ [(capS (fnQ c i a)).1], ((szL c i).map (·.2.2) ++ [(capS (fnQ c i a)).2.2], ((szL c i).map (·.2.1) ++ [(capS (fnQ c i a)).2.1], ((i + 1 : Nat) : Int)))))) ((-1 : Int), ((1 : Int), (0 : Int))) ?_ ?_ ?_ (by show (pcsT c i).length < 9223372036854775808; omega) ⟨by simp, by simp, by simp, by simp, by simp, by simp⟩).trans ?_
    · intro k p s hp hg
      obtain ⟨g1, g2, g3, g4, g5, g6⟩ := hg
      have hk := (List.getElem?_eq_some_iff.1 hp).1
      have hm := pcs_mem hc hi p (List.mem_of_getElem? hp)
      have hz := pcs_sz hc hi p (List.mem_of_getElem? hp)
      have w1 : w64 (s.1 + 1) = s.1 + 1 := w64_id (by omega) (by omega)
      simp only [dlt hk, cond_true, getI_nat hp, Option.bind_some, succ_W (show k + 1 < 9223372036854775808 by omega), w1, stQ]
      rcases hm with e | ⟨e, b, e2, hb⟩
      · have w2 : w64 (s.1 + 1 + (p.1.size : Int)) = s.1 + 1 + (p.1.size : Int) := w64_id (by omega) (by omega)
        simp only [e, Bool.not_false, cond_true, cond_false, w2]
      · obtain ⟨h1, h2, h3, h4, h5, h6⟩ := hok b hb
        have w2 : w64 (s.1 + 1 + (getS (szL c i) b).1) = s.1 + 1 + (getS (szL c i) b).1 := w64_id (by omega) (by omega)
        have w3 : w64 (s.1 + 1 + (getS (szL c i) b).1 + 4) = s.1 + 1 + (getS (szL c i) b).1 + 4 := w64_id (by omega) (by omega)
        have w4 : w64 (s.2.1 + (getS (szL c i) b).2.2) = s.2.1 + (getS (szL c i) b).2.2 := w64_id (by omega) (by omega)
        have w5 : w64 ((getS (szL c i) b).2.1 + 1) = (getS (szL c i) b).2.1 + 1 := w64_id (by omega) (by omega)
        simp only [e, Bool.not_true, cond_false, cond_true, e2, szL_map (c := c) _ hb, Option.bind_some, Int.toNat_natCast, w2, w3, w4, w5]
        cases p.2.2 with
        | true => simp only [cond_true, mx]
        | false => simp only [cond_false, mx]
    · intro k p s hp hg
      obtain ⟨g1, g2, g3, g4, g5, g6⟩ := hg
      have hk := (List.getElem?_eq_some_iff.1 hp).1
      have hm := pcs_mem hc hi p (List.mem_of_getElem? hp)
      have hz := pcs_sz hc hi p (List.mem_of_getElem? hp)
      simp only [stQ]
      rcases hm with e | ⟨e, b, e2, hb⟩
      · simp only [e, cond_false]
        refine ⟨by omega, by omega, by omega, by omega, by omega, by omega⟩
      · obtain ⟨h1, h2, h3, h4, h5, h6⟩ := hok b hb
        simp only [e, cond_true, e2, Int.toNat_natCast]
        cases p.2.2 with
        | true =>
          simp only [cond_true]
          exact ⟨by omega, by omega, by omega, by omega, mx_ge g5 (by omega), mx_le g6 (by omega)⟩
        | false =>
          simp only [cond_false]
          exact ⟨by omega, by omega, by omega, by omega, mx_ge g5 (by omega), mx_le g6 (by omega)⟩
    · intro s hg
      obtain ⟨g1, g2, g3, g4, g5, g6⟩ := hg
      simp only [dnlt, cond_false, G167_k hi, Option.bind_some, fnQ, succ_W (show i + 1 < 9223372036854775808 by omega)]
      by_cases a4 : (getT c i).1 = 4
      · obtain ⟨a, e, ha⟩ := Shd_4 hc hi a4
        have hal : a < List.length c := by omega
        have w1 : w64 (s.2.2 + 1) = s.2.2 + 1 := w64_id (by omega) (by omega)
        simp only [decide_eq_true a4, Bool.not_true, cond_false, if_pos a4, getT_I hi, e, G167_k hal, Option.bind_some, G93_cmp, Int.toNat_natCast]
        cases hk : cmpK (getT c a).1 with
        | true => simp only [cond_true, if_true, jl, happ, Option.bind_some, capS, outR]
        | false => simp only [cond_false, Bool.false_eq_true, if_false, jl, happ, Option.bind_some, capS, outR, w1]
      · simp only [decide_eq_false a4, Bool.not_false, cond_true, if_neg a4, jl, happ, Option.bind_some, capS, outR]
    · have es : szL c (i + 1) = szL c i ++ [capS (szR c (szL c i) i)] := rfl
      simp only [fn_szR hc hi hok, es, List.map_append, List.map_cons, List.map_nil]
  · simp only [mk95, dnlt, cond_false]
end Go.K
namespace Go.K
open Go.Sl Go.Sx Go.Proofs
def prS (t : Tm) (i : Nat) : Option (ByteArray × Int) := bif !shp t i || (cmpK t.1 && !nmB t.2.2.2.1) then some (bts [], 41) else none
def printW (c : Cnd) : ByteArray × Int :=
  if (getS (szL c (List.length c)) (List.length c - 1)).2.1 > 8 then (bts [], 41)
  else if (getS (szL c (List.length c)) (List.length c - 1)).1 > 8000 ∨ (getS (szL c (List.length c)) (List.length c - 1)).2.2 > 30 then (bts [], 2)
  else (prT c LF (List.length c - 1), 0)
def printB (c : Cnd) : ByteArray × Int :=
  if List.length c = 0 ∨ 30 < List.length c then (bts [], 41)
  else (scan prS c 0).getD (printW c)
theorem scan_noneW {σ ρ : Type} (g : σ → Nat → Option ρ) : ∀ (l : List σ) (k : Nat), scan g l k = none → ∀ (i : Nat) (x : σ), l[i]? = some x → g x (k + i) = none
  | [], k, _, i, x, hx => by simp at hx
  | a :: l, k, h, i, x, hx => by
    unfold scan at h
    cases ha : g a k with
    | some y => rw [ha] at h; cases h
    | none =>
      rw [ha] at h
      cases i with
      | zero => simp only [List.getElem?_cons_zero, Option.some.injEq] at hx; subst hx; exact ha
      | succ i =>
        have := scan_noneW g l (k + 1) h i x (by simpa using hx)
        rwa [show k + (i + 1) = k + 1 + i by omega]
theorem Shd_of {c : Cnd} (h : scan prS c 0 = none) : Shd c := by
  intro i hi
  have hx : c[i]? = some (getT c i) := by
    unfold getT; rw [List.getD_eq_getElem?_getD, List.getElem?_eq_getElem hi]; rfl
  have := scan_noneW prS c 0 h i _ hx
  rw [Nat.zero_add] at this
  unfold prS at this
  cases h1 : shp (getT c i) i with
  | false => rw [h1] at this; cases this
  | true =>
    rw [h1] at this
    refine ⟨rfl, fun hk => ?_⟩
    rw [hk] at this
    cases h2 : nmB (getT c i).2.2.2.1 with
    | true => rfl
    | false => rw [h2] at this; cases this
theorem pred_W {n : Nat} (h : 1 ≤ n) (h2 : n ≤ 1000) : w64 ((n : Int) - 1) = ((n - 1 : Nat) : Int) := by
  rw [w64_id (by omega) (by omega)]; omega
theorem G19_print (c : Cnd) : G19 LF c = some (printB c) := by
  unfold G19 printB
  simp only [G91_in, Option.bind_some]
  by_cases hr : List.length c = 0 ∨ 30 < List.length c
  · rw [if_pos hr, decide_eq_false (by omega)]; rfl
  rw [if_neg hr, decide_eq_true (by omega)]
  simp only [Bool.not_true, cond_false]
  refine (iter_scan prS c (some (printW c)) ?_ ?_ (by show List.length c < 9223372036854775808; omega)).trans ?_
  · intro i t ht _
    have hi := (List.getElem?_eq_some_iff.1 ht).1
    simp only [dlt hi, cond_true, getI_nat ht, Option.bind_some, peta, G92_shp t i (by show i < 9223372036854775808; omega), G93_cmp, G94_nm, succ_W (show i + 1 < 9223372036854775808 by omega)]
    unfold prS
    cases shp t i with
    | false => rfl
    | true =>
      cases cmpK t.1 with
      | false => rfl
      | true => cases nmB t.2.2.2.1 <;> rfl
  · intro hs
    have hc := Shd_of hs
    have h30 : List.length c ≤ 30 := by omega
    have hl : List.length c - 1 < List.length c := by omega
    simp only [dnlt, cond_false, G95_sz hc h30, Option.bind_some, pred_W (show 1 ≤ List.length c by omega) (by omega), szL_map _ hl, G96_pr hc h30 LF (List.length c - 1) (by show List.length c - 1 < 9223372036854775808; omega) hl]
    unfold printW
    by_cases h8 : (getS (szL c (List.length c)) (List.length c - 1)).2.1 > 8
    · simp only [decide_eq_true h8, cond_true, if_pos h8]
    · simp only [decide_eq_false h8, cond_false, if_neg h8]
      by_cases h1 : (getS (szL c (List.length c)) (List.length c - 1)).1 > 8000
      · simp only [decide_eq_true h1, cond_true, jl, if_pos (Or.inl h1 : _ ∨ (getS (szL c (List.length c)) (List.length c - 1)).2.2 > 30)]
      · simp only [decide_eq_false h1, cond_false, jl]
        by_cases h2 : (getS (szL c (List.length c)) (List.length c - 1)).2.2 > 30
        · simp only [decide_eq_true h2, cond_true, if_pos (Or.inr h2 : (getS (szL c (List.length c)) (List.length c - 1)).1 > 8000 ∨ _)]
        · simp only [decide_eq_false h2, cond_false, if_neg (fun h => h.elim h1 h2 : ¬ ((getS (szL c (List.length c)) (List.length c - 1)).1 > 8000 ∨ (getS (szL c (List.length c)) (List.length c - 1)).2.2 > 30))]
  · cases scan prS c 0 <;> rfl
end Go.K
namespace Go.K
open Go.Sl Go.Sx Go.Proofs
def mnB (x : Nat) : Int := if 8001 < x then 8001 else (x : Int)
theorem getS_szW (c : Cnd) : ∀ (N a : Nat), a < N → getS (szL c N) a = capS (szR c (szL c a) a)
  | 0, a, h => by omega
  | N + 1, a, h => by
    have hl := szL_len c N
    by_cases e : a < N
    · have ih := getS_szW c N a e
      unfold getS at ih ⊢
      have es : szL c (N + 1) = szL c N ++ [capS (szR c (szL c N) N)] := rfl
      rw [es, List.getD_eq_getElem?_getD, List.getElem?_append_left (by omega)]
      rwa [List.getD_eq_getElem?_getD] at ih
    · have ea : a = N := by omega
      subst ea
      unfold getS
      have es : szL c (a + 1) = szL c a ++ [capS (szR c (szL c a) a)] := rfl
      rw [es, List.getD_eq_getElem?_getD, List.getElem?_append_right (by omega), hl, Nat.sub_self]; rfl
theorem rd_sz (s : Sz3) (t : ByteArray) (b : Bool) (h : s.1 = mnB t.size) : (rdS s b).1 = mnB t.size + ((rdT t b).size - t.size : Nat) ∧ t.size ≤ (rdT t b).size ∧ (rdT t b).size ≤ t.size + 4 := by
  unfold rdS rdT
  cases b with
  | true =>
    simp only [cond_true, size_app, bts_size, List.length_cons, List.length_nil, h]
    refine ⟨by omega, by omega, by omega⟩
  | false =>
    simp only [cond_false, h]
    refine ⟨by omega, by omega, by omega⟩
theorem sz_true {c : Cnd} (hc : Shd c) : ∀ (n i N : Nat), i < n → i < N → i < List.length c → (getS (szL c N) i).1 = mnB (prT c n i).size
  | 0, i, N, h, _, _ => by omega
  | n + 1, i, N, hn, hN, hi => by
    rw [getS_szW c N i hN]
    have hcap : ∀ r : Sz3, (capS r).1 = if 8001 < r.1 then 8001 else r.1 := fun _ => rfl
    rw [hcap]
    unfold szR prT
    by_cases hk : cmpK (getT c i).1 = true
    · have hk' := of_decide_eq_true hk
      have n0 : ¬ (getT c i).1 = 0 := by omega
      have n4 : ¬ (getT c i).1 = 4 := by omega
      have n5 : ¬ (getT c i).1 = 5 := by omega
      have n6 : ¬ (getT c i).1 = 6 := by omega
      rw [if_pos hk, if_neg n0, if_neg n4, if_neg n5, if_neg n6]
      unfold mnB; simp only; split <;> split <;> omega
    rw [if_neg hk]
    by_cases a4 : (getT c i).1 = 4
    · obtain ⟨a, e, ha⟩ := Shd_4 hc hi a4
      have n0 : ¬ (getT c i).1 = 0 := by omega
      rw [if_pos a4, if_neg n0, if_pos a4, e, Int.toNat_natCast]
      by_cases hk2 : cmpK (getT c a).1 = true
      · rw [if_pos hk2, if_pos hk2]
        unfold mnB; simp only; split <;> split <;> omega
      · rw [if_neg hk2, if_neg hk2]
        have ih := sz_true hc n a i (by omega) ha (by omega)
        obtain ⟨h1, h2, h3⟩ := rd_sz _ _ (jnK (getT c a).1) ih
        simp only [h1, size_app, bts_size, List.length_cons, List.length_nil]
        unfold mnB; split <;> split <;> split at * <;> omega
    rw [if_neg a4]
    by_cases a5 : (getT c i).1 = 5
    · obtain ⟨a, b, e, e2, ha, hb⟩ := Shd_5 hc hi (.inl a5)
      have n0 : ¬ (getT c i).1 = 0 := by omega
      rw [if_pos a5, if_neg n0, if_neg a4, if_pos a5, e, e2, Int.toNat_natCast, Int.toNat_natCast]
      obtain ⟨h1, h2, h3⟩ := rd_sz _ _ (decide ((getT c a).1 = 6)) (sz_true hc n a i (by omega) ha (by omega))
      obtain ⟨k1, k2, k3⟩ := rd_sz _ _ (jnK (getT c b).1) (sz_true hc n b i (by omega) hb (by omega))
      unfold two
      simp only [h1, k1, size_app, bts_size, List.length_cons, List.length_nil]
      unfold mnB; split <;> split <;> split <;> split <;> omega
    rw [if_neg a5]
    by_cases a6 : (getT c i).1 = 6
    · obtain ⟨a, b, e, e2, ha, hb⟩ := Shd_5 hc hi (.inr a6)
      have n0 : ¬ (getT c i).1 = 0 := by omega
      rw [if_pos a6, if_neg n0, if_neg a4, if_neg a5, if_pos a6, e, e2, Int.toNat_natCast, Int.toNat_natCast]
      obtain ⟨h1, h2, h3⟩ := rd_sz _ _ false (sz_true hc n a i (by omega) ha (by omega))
      obtain ⟨k1, k2, k3⟩ := rd_sz _ _ (decide ((getT c b).1 = 6)) (sz_true hc n b i (by omega) hb (by omega))
      have hf : (rdT (prT c n a) false) = prT c n a := rfl
      rw [hf] at h1
      unfold two
      simp only [h1, k1, size_app, bts_size, List.length_cons, List.length_nil]
      unfold mnB; split <;> split <;> split <;> split <;> omega
    have a0 : (getT c i).1 = 0 := by rcases Shd_k hc hi with h | h | h | h | h <;> first | exact h | omega | exact absurd h hk
    rw [if_neg a6, if_pos a0]
    unfold mnB
    simp only [bts_size, List.length_cons, List.length_nil]
    split <;> split <;> omega
theorem printB_size (c : Cnd) : (printB c).1.size ≤ 8000 := by
  unfold printB
  by_cases hr : List.length c = 0 ∨ 30 < List.length c
  · rw [if_pos hr]; simp only [bts_size]; simp
  · rw [if_neg hr]
    cases hs : scan prS c 0 with
    | some y =>
      have : y = (bts [], 41) := by
        have hx : ∀ (l : Cnd) (k : Nat), scan prS l k = some y → y = (bts [], 41) := by
          intro l
          induction l with
          | nil => intro k h; cases h
          | cons t l ih =>
            intro k h
            unfold scan at h
            cases hp : prS t k with
            | some z =>
              rw [hp] at h
              cases h
              unfold prS at hp
              cases hb : (!shp t k || (cmpK t.1 && !nmB t.2.2.2.1)) with
              | true => rw [hb] at hp; cases hp; rfl
              | false => rw [hb] at hp; cases hp
            | none => rw [hp] at h; exact ih (k + 1) h
        exact hx c 0 hs
      subst this
      show (bts []).size ≤ 8000
      rw [bts_size]; simp
    | none =>
      show (printW c).1.size ≤ 8000
      unfold printW
      split
      · rw [bts_size]; simp
      · split
        · rw [bts_size]; simp
        · rename_i h8 h1
          have := sz_true (Shd_of hs) LF (List.length c - 1) (List.length c) (by show List.length c - 1 < 9223372036854775808; omega) (by omega) (by omega)
          have h2 : ¬ (getS (szL c (List.length c)) (List.length c - 1)).1 > 8000 := fun h => h1 (.inl h)
          rw [this] at h2
          unfold mnB at h2
          show (prT c LF (List.length c - 1)).size ≤ 8000
          split at h2 <;> omega
end Go.K
namespace Go.K
open Go.Sl Go.Sx Go.Proofs
inductive Ex where
  | tr : Ex
  | cp : Int → ByteArray → Int → Ex
  | nt : Ex → Ex
  | an : Ex → Ex → Ex
  | or : Ex → Ex → Ex
def sz : Ex → Nat
  | .tr => 1
  | .cp _ _ _ => 1
  | .nt e => sz e + 1
  | .an a b => sz a + sz b + 1
  | .or a b => sz a + sz b + 1
def flat : Ex → Nat → Cnd
  | .tr, _ => [tmK 0 0 0]
  | .cp k w n, _ => [(k, (0, (0, (w, n))))]
  | .nt e, b => flat e b ++ [tmK 4 ((b + sz e - 1 : Nat) : Int) 0]
  | .an x y, b => flat x b ++ flat y (b + sz x) ++ [tmK 5 ((b + sz x - 1 : Nat) : Int) ((b + sz x + sz y - 1 : Nat) : Int)]
  | .or x y, b => flat x b ++ flat y (b + sz x) ++ [tmK 6 ((b + sz x - 1 : Nat) : Int) ((b + sz x + sz y - 1 : Nat) : Int)]
def jo : Ex → Nat
  | .or _ _ => 1
  | _ => 0
def j1 : Ex → Nat
  | .or _ _ => 1
  | .an _ _ => 1
  | _ => 0
def isC : Ex → Bool
  | .cp _ _ _ => true
  | _ => false
def DpE : Ex → Nat
  | .tr => 0
  | .cp _ _ _ => 0
  | .nt e => if isC e = true then 0 else DpE e + j1 e + 1
  | .an a b => max (DpE a + jo a) (DpE b + j1 b)
  | .or a b => max (DpE a) (DpE b + jo b)
def OkE : Ex → Prop
  | .tr => True
  | .cp k w n => (1 ≤ k ∧ k ≤ 3) ∧ nmB w = true ∧ -1000000000000 ≤ n ∧ n ≤ 1000000000000
  | .nt e => OkE e
  | .an a b => OkE a ∧ OkE b
  | .or a b => OkE a ∧ OkE b
theorem sz_pos : ∀ e, 1 ≤ sz e
  | .tr => Nat.le_refl _
  | .cp _ _ _ => Nat.le_refl _
  | .nt e => by unfold sz; omega
  | .an a b => by unfold sz; omega
  | .or a b => by unfold sz; omega
theorem flatE_len : ∀ (e : Ex) (b : Nat), List.length (flat e b) = sz e
  | .tr, _ => rfl
  | .cp _ _ _, _ => rfl
  | .nt e, b => by unfold flat sz; rw [List.length_append, flatE_len e b]; rfl
  | .an x y, b => by unfold flat sz; rw [List.length_append, List.length_append, flatE_len x, flatE_len y]; rfl
  | .or x y, b => by unfold flat sz; rw [List.length_append, List.length_append, flatE_len x, flatE_len y]; rfl
theorem jo_j1 (e : Ex) : jo e ≤ j1 e := by cases e <;> simp [jo, j1]
theorem j1_le (e : Ex) : j1 e ≤ 1 := by cases e <;> simp [jo, j1]
def IsT (P : Ex → Prop) (ts : Cnd) (t : PS) : Prop := ∃ e, OkE e ∧ P e ∧ t.2.1 = ts ++ flat e (List.length ts) ∧ t.2.2 = ((List.length ts + sz e - 1 : Nat) : Int)
theorem IsT.mono {P Q : Ex → Prop} {ts : Cnd} {t : PS} (h : IsT P ts t) (hpq : ∀ e, P e → Q e) : IsT Q ts t := by
  obtain ⟨e, h1, h2, h3⟩ := h; exact ⟨e, h1, hpq e h2, h3⟩
end Go.K
namespace Go.K
open Go.Sl Go.Sx Go.Proofs
def tx : Ex → ByteArray
  | .tr => bts [116, 114, 117, 101]
  | .cp k w n => cmpT (k, (0, (0, (w, n)))) false
  | .nt (.cp k w n) => cmpT (k, (0, (0, (w, n)))) true
  | .nt e => bts [110, 111, 116, 32] ++ rdT (tx e) (decide (j1 e = 1))
  | .an a b => (rdT (tx a) (decide (jo a = 1)) ++ bts [32, 97, 110, 100, 32]) ++ rdT (tx b) (decide (j1 b = 1))
  | .or a b => (tx a ++ bts [32, 111, 114, 32]) ++ rdT (tx b) (decide (jo b = 1))
def rt : Ex → Nat → Tm
  | .tr, _ => tmK 0 0 0
  | .cp k w n, _ => (k, (0, (0, (w, n))))
  | .nt e, b => tmK 4 ((b + sz e - 1 : Nat) : Int) 0
  | .an x y, b => tmK 5 ((b + sz x - 1 : Nat) : Int) ((b + sz x + sz y - 1 : Nat) : Int)
  | .or x y, b => tmK 6 ((b + sz x - 1 : Nat) : Int) ((b + sz x + sz y - 1 : Nat) : Int)
theorem rt_c {e : Ex} (h : OkE e) (b : Nat) : cmpK (rt e b).1 = isC e := by
  cases e with
  | cp k w n => exact decide_eq_true h.1
  | _ => rfl
theorem rt_j {e : Ex} (h : OkE e) (b : Nat) : jnK (rt e b).1 = decide (j1 e = 1) := by
  cases e with
  | cp k w n =>
    have := h.1
    show decide (k = 5 ∨ k = 6) = decide (0 = 1)
    rw [decide_eq_false (by omega)]; rfl
  | _ => rfl
theorem rt_o {e : Ex} (h : OkE e) (b : Nat) : decide ((rt e b).1 = 6) = decide (jo e = 1) := by
  cases e with
  | cp k w n =>
    have := h.1
    show decide (k = 6) = decide (0 = 1)
    rw [decide_eq_false (by omega)]; rfl
  | _ => rfl
def AtE (c : Cnd) (e : Ex) (b : Nat) : Prop := ∃ pre post : Cnd, c = pre ++ (flat e b ++ post) ∧ List.length pre = b
theorem getT_mid {c p q : Cnd} {t : Tm} (h : c = p ++ t :: q) : getT c (List.length p) = t := by
  subst h
  unfold getT
  rw [List.getD_eq_getElem?_getD, List.getElem?_append_right (Nat.le_refl _), Nat.sub_self]; rfl
theorem At_nt {c : Cnd} {e : Ex} {b : Nat} (h : AtE c (.nt e) b) : AtE c e b ∧ getT c (b + sz e) = rt (.nt e) b := by
  obtain ⟨pre, post, h, hl⟩ := h
  refine ⟨⟨pre, rt (.nt e) b :: post, ?_, hl⟩, ?_⟩
  · rw [h]; simp only [flat, rt, List.append_assoc, List.cons_append, List.nil_append]
  · have := getT_mid (c := c) (p := pre ++ flat e b) (t := rt (.nt e) b) (q := post) (by rw [h]; simp only [flat, rt, List.append_assoc, List.cons_append, List.nil_append])
    rwa [List.length_append, flatE_len, hl] at this
theorem At_an {c : Cnd} {x y : Ex} {b : Nat} (h : AtE c (.an x y) b) : AtE c x b ∧ AtE c y (b + sz x) ∧ getT c (b + sz x + sz y) = rt (.an x y) b := by
  obtain ⟨pre, post, h, hl⟩ := h
  refine ⟨⟨pre, flat y (b + sz x) ++ rt (.an x y) b :: post, ?_, hl⟩, ⟨pre ++ flat x b, rt (.an x y) b :: post, ?_, ?_⟩, ?_⟩
  · rw [h]; simp only [flat, rt, List.append_assoc, List.cons_append, List.nil_append]
  · rw [h]; simp only [flat, rt, List.append_assoc, List.cons_append, List.nil_append]
  · rw [List.length_append, flatE_len, hl]
  · have := getT_mid (c := c) (p := pre ++ (flat x b ++ flat y (b + sz x))) (t := rt (.an x y) b) (q := post) (by rw [h]; simp only [flat, rt, List.append_assoc, List.cons_append, List.nil_append])
    rwa [List.length_append, List.length_append, flatE_len, flatE_len, hl, ← Nat.add_assoc] at this
theorem At_or {c : Cnd} {x y : Ex} {b : Nat} (h : AtE c (.or x y) b) : AtE c x b ∧ AtE c y (b + sz x) ∧ getT c (b + sz x + sz y) = rt (.or x y) b := by
  obtain ⟨pre, post, h, hl⟩ := h
  refine ⟨⟨pre, flat y (b + sz x) ++ rt (.or x y) b :: post, ?_, hl⟩, ⟨pre ++ flat x b, rt (.or x y) b :: post, ?_, ?_⟩, ?_⟩
  · rw [h]; simp only [flat, rt, List.append_assoc, List.cons_append, List.nil_append]
  · rw [h]; simp only [flat, rt, List.append_assoc, List.cons_append, List.nil_append]
  · rw [List.length_append, flatE_len, hl]
  · have := getT_mid (c := c) (p := pre ++ (flat x b ++ flat y (b + sz x))) (t := rt (.or x y) b) (q := post) (by rw [h]; simp only [flat, rt, List.append_assoc, List.cons_append, List.nil_append])
    rwa [List.length_append, List.length_append, flatE_len, flatE_len, hl, ← Nat.add_assoc] at this
theorem At_rt {c : Cnd} {e : Ex} {b : Nat} (h : AtE c e b) : getT c (b + sz e - 1) = rt e b := by
  cases e with
  | tr =>
    obtain ⟨pre, post, h, hl⟩ := h
    have := getT_mid (c := c) (p := pre) (t := rt .tr b) (q := post) h
    rwa [hl] at this
  | cp k w n =>
    obtain ⟨pre, post, h, hl⟩ := h
    have := getT_mid (c := c) (p := pre) (t := rt (.cp k w n) b) (q := post) h
    rwa [hl] at this
  | nt e => exact (At_nt h).2
  | an x y => exact (At_an h).2.2 ▸ (by show getT c (b + (sz x + sz y + 1) - 1) = _; rw [← Nat.add_assoc, ← Nat.add_assoc, Nat.add_sub_cancel])
  | or x y => exact (At_or h).2.2 ▸ (by show getT c (b + (sz x + sz y + 1) - 1) = _; rw [← Nat.add_assoc, ← Nat.add_assoc, Nat.add_sub_cancel])
theorem tx_nt {e : Ex} (h : isC e = false) : tx (.nt e) = bts [110, 111, 116, 32] ++ rdT (tx e) (decide (j1 e = 1)) := by
  cases e with
  | cp k w n => cases h
  | _ => rfl
theorem tx_ntc {e : Ex} {b : Nat} (h : isC e = true) : tx (.nt e) = cmpT (rt e b) true := by
  cases e with
  | cp k w n => rfl
  | _ => cases h
theorem D_nt {e : Ex} (h : isC e = false) : DpE (.nt e) = DpE e + j1 e + 1 := by
  show (if isC e = true then 0 else _) = _
  rw [h]; rfl
theorem D_ntc {e : Ex} (h : isC e = true) : DpE (.nt e) = 0 := by
  show (if isC e = true then 0 else _) = _
  rw [h]; rfl
theorem prT_tree {c : Cnd} : ∀ (e : Ex) (b n : Nat), OkE e → AtE c e b → b + sz e - 1 < n → prT c n (b + sz e - 1) = tx e
  | e, b, 0, _, _, h => by omega
  | .tr, b, n + 1, ho, ha, hn => by unfold prT; rw [At_rt ha]; rfl
  | .cp k w m, b, n + 1, ho, ha, hn => by
    unfold prT
    have h1 := ho.1
    have e1 := At_rt ha
    rw [e1]
    have n0 : ¬ (rt (.cp k w m) b).1 = 0 := by show ¬ k = 0; omega
    have n4 : ¬ (rt (.cp k w m) b).1 = 4 := by show ¬ k = 4; omega
    have n5 : ¬ (rt (.cp k w m) b).1 = 5 := by show ¬ k = 5; omega
    have n6 : ¬ (rt (.cp k w m) b).1 = 6 := by show ¬ k = 6; omega
    rw [if_neg n0, if_neg n4, if_neg n5, if_neg n6]; rfl
  | .nt e, b, n + 1, ho, ha, hn => by
    have hp := sz_pos e
    obtain ⟨a1, a2⟩ := At_nt ha
    have e1 := At_rt ha
    have e2 := At_rt a1
    have hs : sz (.nt e) = sz e + 1 := rfl
    unfold prT
    have k0 : ¬ (rt (.nt e) b).1 = 0 := by show ¬ (4 : Int) = 0; omega
    have k4 : (rt (.nt e) b).1 = 4 := rfl
    have k1 : (rt (.nt e) b).2.1.toNat = b + sz e - 1 := Int.toNat_natCast _
    have ho : OkE e := ho
    rw [e1, if_neg k0, if_pos k4, k1, e2, rt_c ho, rt_j ho]
    cases hc : isC e with
    | true => rw [if_pos rfl, tx_ntc hc]
    | false => rw [if_neg (by decide), tx_nt hc, prT_tree e b n ho a1 (by omega)]
  | .an x y, b, n + 1, ho, ha, hn => by
    have hp := sz_pos x
    have hq := sz_pos y
    obtain ⟨a1, a2, a3⟩ := At_an ha
    have e1 := At_rt ha
    have e2 := At_rt a1
    have e3 := At_rt a2
    have hs : sz (.an x y) = sz x + sz y + 1 := rfl
    unfold prT
    have k0 : ¬ (rt (.an x y) b).1 = 0 := by show ¬ (5 : Int) = 0; omega
    have k4 : ¬ (rt (.an x y) b).1 = 4 := by show ¬ (5 : Int) = 4; omega
    have k5 : (rt (.an x y) b).1 = 5 := rfl
    have k1 : (rt (.an x y) b).2.1.toNat = b + sz x - 1 := Int.toNat_natCast _
    have k2 : (rt (.an x y) b).2.2.1.toNat = b + sz x + sz y - 1 := Int.toNat_natCast _
    rw [e1, if_neg k0, if_neg k4, if_pos k5, k1, k2, e2, e3, rt_o ho.1, rt_j ho.2, prT_tree x b n ho.1 a1 (by omega), prT_tree y (b + sz x) n ho.2 a2 (by omega)]
    rfl
  | .or x y, b, n + 1, ho, ha, hn => by
    have hp := sz_pos x
    have hq := sz_pos y
    obtain ⟨a1, a2, a3⟩ := At_or ha
    have e1 := At_rt ha
    have e2 := At_rt a1
    have e3 := At_rt a2
    have hs : sz (.or x y) = sz x + sz y + 1 := rfl
    unfold prT
    have k0 : ¬ (rt (.or x y) b).1 = 0 := by show ¬ (6 : Int) = 0; omega
    have k4 : ¬ (rt (.or x y) b).1 = 4 := by show ¬ (6 : Int) = 4; omega
    have k5 : ¬ (rt (.or x y) b).1 = 5 := by show ¬ (6 : Int) = 5; omega
    have k6 : (rt (.or x y) b).1 = 6 := rfl
    have k1 : (rt (.or x y) b).2.1.toNat = b + sz x - 1 := Int.toNat_natCast _
    have k2 : (rt (.or x y) b).2.2.1.toNat = b + sz x + sz y - 1 := Int.toNat_natCast _
    rw [e1, if_neg k0, if_neg k4, if_neg k5, if_pos k6, k1, k2, e3, rt_o ho.2, prT_tree x b n ho.1 a1 (by omega), prT_tree y (b + sz x) n ho.2 a2 (by omega)]
    rfl
def GdE (l : Cnd) (b : Nat) : Prop := ∀ i t, l[i]? = some t → shp t ((b + i : Nat) : Int) = true ∧ (cmpK t.1 = true → nmB t.2.2.2.1 = true)
theorem Gd_app {l m : Cnd} {b : Nat} (h1 : GdE l b) (h2 : GdE m (b + List.length l)) : GdE (l ++ m) b := by
  intro i t ht
  by_cases h : i < List.length l
  · rw [List.getElem?_append_left h] at ht; exact h1 i t ht
  · rw [List.getElem?_append_right (by omega)] at ht
    have := h2 _ t ht
    rwa [show b + List.length l + (i - List.length l) = b + i by omega] at this
theorem Gd_one {t : Tm} {b : Nat} (h : shp t (b : Int) = true) (h2 : cmpK t.1 = true → nmB t.2.2.2.1 = true) : GdE [t] b := by
  intro i u hu
  cases i with
  | zero => simp only [List.getElem?_cons_zero, Option.some.injEq] at hu; subst hu; exact ⟨h, h2⟩
  | succ i => simp at hu
theorem Gd_flat : ∀ (e : Ex) (b : Nat), OkE e → GdE (flat e b) b
  | .tr, b, _ => Gd_one rfl (fun h => by cases h)
  | .cp k w n, b, ho => Gd_one (by
      unfold shp
      have := ho.1
      rw [if_neg (show ¬ k = 0 by omega), if_pos (show 1 ≤ k ∧ k ≤ 3 from ho.1)]
      exact decide_eq_true ⟨rfl, rfl, ho.2.2⟩) (fun _ => ho.2.1)
  | .nt e, b, ho => by
    have hp := sz_pos e
    refine Gd_app (Gd_flat e b ho) (Gd_one ?_ (fun h => by cases h))
    rw [flatE_len]
    exact decide_eq_true ⟨rfl, rfl, by simp only [tmK]; omega, by simp only [tmK]; omega, rfl⟩
  | .an x y, b, ho => by
    have hp := sz_pos x
    have hq := sz_pos y
    refine Gd_app (Gd_app (Gd_flat x b ho.1) (by rw [flatE_len]; exact Gd_flat y _ ho.2)) (Gd_one ?_ (fun h => by cases h))
    rw [List.length_append, flatE_len, flatE_len]
    exact decide_eq_true ⟨rfl, rfl, by simp only [tmK]; omega, by simp only [tmK]; omega, by simp only [tmK]; omega, by simp only [tmK]; omega⟩
  | .or x y, b, ho => by
    have hp := sz_pos x
    have hq := sz_pos y
    refine Gd_app (Gd_app (Gd_flat x b ho.1) (by rw [flatE_len]; exact Gd_flat y _ ho.2)) (Gd_one ?_ (fun h => by cases h))
    rw [List.length_append, flatE_len, flatE_len]
    exact decide_eq_true ⟨rfl, rfl, by simp only [tmK]; omega, by simp only [tmK]; omega, by simp only [tmK]; omega, by simp only [tmK]; omega⟩
theorem scan_allW {σ ρ : Type} (g : σ → Nat → Option ρ) : ∀ (l : List σ) (k : Nat), (∀ (i : Nat) (x : σ), l[i]? = some x → g x (k + i) = none) → scan g l k = none
  | [], k, _ => rfl
  | a :: l, k, h => by
    unfold scan
    have h0 := h 0 a rfl
    rw [Nat.add_zero] at h0
    rw [h0]
    exact scan_allW g l (k + 1) fun i x hx => by
      have := h (i + 1) x (by simpa using hx)
      rwa [show k + (i + 1) = k + 1 + i by omega] at this
theorem flat_scan {e : Ex} (h : OkE e) : scan prS (flat e 0) 0 = none := by
  refine scan_allW _ _ _ fun i x hx => ?_
  obtain ⟨h1, h2⟩ := Gd_flat e 0 h i x hx
  unfold prS
  rw [h1]
  cases hk : cmpK x.1 with
  | false => rfl
  | true => rw [h2 hk]; rfl
end Go.K
namespace Go.K
open Go.Sl Go.Sx Go.Proofs
theorem cmpX_size {k n : Int} {w : ByteArray} (h : OkE (.cp k w n)) (neg : Bool) : (cmpT (k, (0, (0, (w, n)))) neg).size ≤ 30 := by
  obtain ⟨h1, h2, h3⟩ := h
  unfold cmpT
  have := It_size h3
  have := opT_size k neg
  unfold nmB at h2
  simp only [Bool.and_eq_true, decide_eq_true_eq] at h2
  have := h2.1.1.2
  simp only [size_app, bts_size, List.length_cons, List.length_nil]; omega
theorem tx_size : ∀ e, OkE e → (tx e).size ≤ 50 * sz e
  | .tr, _ => by unfold tx sz; rw [bts_size]; simp
  | .cp k w n, h => by have := cmpX_size h false; unfold tx sz; omega
  | .nt e, h => by
    have h : OkE e := h
    have ih := tx_size e h
    have hs : sz (.nt e) = sz e + 1 := rfl
    cases hc : isC e with
    | true =>
      cases e with
      | cp k w n => have := cmpX_size h true; rw [hs]; unfold tx; omega
      | _ => cases hc
    | false =>
      rw [tx_nt hc, hs]
      have := rdT_size (tx e) (decide (j1 e = 1))
      simp only [size_app, bts_size, List.length_cons, List.length_nil]; omega
  | .an x y, h => by
    have h1 := tx_size x h.1
    have h2 := tx_size y h.2
    have := rdT_size (tx x) (decide (jo x = 1))
    have := rdT_size (tx y) (decide (j1 y = 1))
    unfold tx sz
    simp only [size_app, bts_size, List.length_cons, List.length_nil]; omega
  | .or x y, h => by
    have h1 := tx_size x h.1
    have h2 := tx_size y h.2
    have := rdT_size (tx y) (decide (jo y = 1))
    unfold tx sz
    simp only [size_app, bts_size, List.length_cons, List.length_nil]; omega
def sE (e : Ex) : Sz3 := (((tx e).size : Int), ((DpE e : Int), (sz e : Int)))
theorem rdS_E (e : Ex) (j : Nat) (hj : j ≤ 1) : rdS (sE e) (decide (j = 1)) = (((rdT (tx e) (decide (j = 1))).size : Int), (((DpE e + j : Nat) : Int), (sz e : Int))) := by
  unfold rdS sE rdT
  have : j = 0 ∨ j = 1 := by omega
  rcases this with e' | e' <;> subst e'
  · rfl
  · simp only [decide_true, cond_true, size_app, bts_size, List.length_cons, List.length_nil, Prod.mk.injEq]
    refine ⟨by omega, by omega, trivial⟩
theorem capS_E {r : Sz3} (h1 : r.1 ≤ 8001) (h2 : r.2.2 ≤ 31) : capS r = r := by
  unfold capS
  rw [if_neg (by omega), if_neg (by omega)]
theorem getS_szL (c : Cnd) : ∀ (N a : Nat), a < N → getS (szL c N) a = capS (szR c (szL c a) a)
  | 0, a, h => by omega
  | N + 1, a, h => by
    have hl := szL_len c N
    by_cases e : a < N
    · have ih := getS_szL c N a e
      unfold getS at ih ⊢
      have es : szL c (N + 1) = szL c N ++ [capS (szR c (szL c N) N)] := rfl
      rw [es, List.getD_eq_getElem?_getD, List.getElem?_append_left (by omega)]
      rwa [List.getD_eq_getElem?_getD] at ih
    · have ea : a = N := by omega
      subst ea
      unfold getS
      have es : szL c (a + 1) = szL c a ++ [capS (szR c (szL c a) a)] := rfl
      rw [es, List.getD_eq_getElem?_getD, List.getElem?_append_right (by omega), hl, Nat.sub_self]; rfl
theorem jo_le (e : Ex) : jo e ≤ 1 := Nat.le_trans (jo_j1 e) (j1_le e)
theorem mx_nat (a b : Nat) : mx (a : Int) (b : Int) = ((max a b : Nat) : Int) := by
  unfold mx
  split <;> omega
theorem szR_tree {c : Cnd} : ∀ (e : Ex) (b : Nat), OkE e → AtE c e b → sz e ≤ 30 → szR c (szL c (b + sz e - 1)) (b + sz e - 1) = sE e
  | .tr, b, ho, ha, hs => by
    unfold szR
    rw [At_rt ha]; rfl
  | .cp k w n, b, ho, ha, hs => by
    unfold szR
    rw [At_rt ha, if_pos (show cmpK (rt (.cp k w n) b).1 = true from rt_c ho b)]; rfl
  | .nt e, b, ho, ha, hs => by
    have hp := sz_pos e
    have ho : OkE e := ho
    obtain ⟨a1, a2⟩ := At_nt ha
    have e1 := At_rt ha
    have e2 := At_rt a1
    have hz : sz (.nt e) = sz e + 1 := rfl
    have hx := tx_size e ho
    have k4 : (rt (.nt e) b).1 = 4 := rfl
    have kc : ¬ cmpK (rt (.nt e) b).1 = true := fun h => by cases h
    have k1 : (rt (.nt e) b).2.1.toNat = b + sz e - 1 := Int.toNat_natCast _
    unfold szR
    rw [e1, if_neg kc, if_pos k4, k1, e2, rt_c ho, rt_j ho]
    cases hc : isC e with
    | true =>
      rw [if_pos rfl]
      unfold sE
      rw [tx_ntc (b := b) hc, D_ntc hc, hz]
      cases e with
      | cp k w n => rfl
      | _ => cases hc
    | false =>
      rw [if_neg (by decide), getS_szL c _ _ (show b + sz e - 1 < b + sz (.nt e) - 1 by omega), szR_tree e b ho a1 (by omega), capS_E (by unfold sE; simp only; omega) (by unfold sE; simp only; omega), rdS_E e (j1 e) (j1_le e)]
      unfold sE
      rw [tx_nt hc, D_nt hc, hz]
      simp only [size_app, bts_size, List.length_cons, List.length_nil, Prod.mk.injEq]
      refine ⟨by omega, by omega, by omega⟩
  | .an x y, b, ho, ha, hs => by
    have hp := sz_pos x
    have hq := sz_pos y
    obtain ⟨a1, a2, a3⟩ := At_an ha
    have e1 := At_rt ha
    have e2 := At_rt a1
    have e3 := At_rt a2
    have hz : sz (.an x y) = sz x + sz y + 1 := rfl
    have hx := tx_size x ho.1
    have hy := tx_size y ho.2
    have kc : ¬ cmpK (rt (.an x y) b).1 = true := fun h => by cases h
    have k4 : ¬ (rt (.an x y) b).1 = 4 := by show ¬ (5 : Int) = 4; omega
    have k5 : (rt (.an x y) b).1 = 5 := rfl
    have k1 : (rt (.an x y) b).2.1.toNat = b + sz x - 1 := Int.toNat_natCast _
    have k2 : (rt (.an x y) b).2.2.1.toNat = b + sz x + sz y - 1 := Int.toNat_natCast _
    unfold szR
    rw [e1, if_neg kc, if_neg k4, if_pos k5, k1, k2, e2, e3, rt_o ho.1, rt_j ho.2,
      getS_szL c _ _ (show b + sz x - 1 < b + sz (.an x y) - 1 by omega), getS_szL c _ _ (show b + sz x + sz y - 1 < b + sz (.an x y) - 1 by omega),
      szR_tree x b ho.1 a1 (by omega), szR_tree y (b + sz x) ho.2 a2 (by omega), capS_E (by unfold sE; simp only; omega) (by unfold sE; simp only; omega), capS_E (by unfold sE; simp only; omega) (by unfold sE; simp only; omega),
      rdS_E x (jo x) (jo_le x), rdS_E y (j1 y) (j1_le y)]
    unfold sE two
    rw [hz]
    simp only [tx, DpE, mx_nat, size_app, bts_size, List.length_cons, List.length_nil, Prod.mk.injEq]
    refine ⟨by omega, trivial, by omega⟩
  | .or x y, b, ho, ha, hs => by
    have hp := sz_pos x
    have hq := sz_pos y
    obtain ⟨a1, a2, a3⟩ := At_or ha
    have e1 := At_rt ha
    have e2 := At_rt a1
    have e3 := At_rt a2
    have hz : sz (.or x y) = sz x + sz y + 1 := rfl
    have hx := tx_size x ho.1
    have hy := tx_size y ho.2
    have kc : ¬ cmpK (rt (.or x y) b).1 = true := fun h => by cases h
    have k4 : ¬ (rt (.or x y) b).1 = 4 := by show ¬ (6 : Int) = 4; omega
    have k5 : ¬ (rt (.or x y) b).1 = 5 := by show ¬ (6 : Int) = 5; omega
    have k6 : (rt (.or x y) b).1 = 6 := rfl
    have k1 : (rt (.or x y) b).2.1.toNat = b + sz x - 1 := Int.toNat_natCast _
    have k2 : (rt (.or x y) b).2.2.1.toNat = b + sz x + sz y - 1 := Int.toNat_natCast _
    have hr0 : rdS (sE x) false = sE x := rfl
    unfold szR
    rw [e1, if_neg kc, if_neg k4, if_neg k5, if_pos k6, k1, k2, e3, rt_o ho.2,
      getS_szL c _ _ (show b + sz x - 1 < b + sz (.or x y) - 1 by omega), getS_szL c _ _ (show b + sz x + sz y - 1 < b + sz (.or x y) - 1 by omega),
      szR_tree x b ho.1 a1 (by omega), szR_tree y (b + sz x) ho.2 a2 (by omega), capS_E (by unfold sE; simp only; omega) (by unfold sE; simp only; omega), capS_E (by unfold sE; simp only; omega) (by unfold sE; simp only; omega),
      hr0, rdS_E y (jo y) (jo_le y)]
    unfold sE two
    rw [hz]
    simp only [tx, DpE, mx_nat, size_app, bts_size, List.length_cons, List.length_nil, Prod.mk.injEq]
    refine ⟨by omega, trivial, by omega⟩
theorem printB_tree {e : Ex} (ho : OkE e) (hd : DpE e ≤ 8) (hs : sz e ≤ 30) : printB (flat e 0) = (tx e, 0) := by
  have hp := sz_pos e
  have hl := flatE_len e 0
  have ha : AtE (flat e 0) e 0 := ⟨[], [], by simp, rfl⟩
  have hx := tx_size e ho
  unfold printB
  rw [if_neg (by omega), flat_scan ho]
  show printW (flat e 0) = _
  have h1 := szR_tree e 0 ho ha hs
  have h2 := prT_tree e 0 LF ho ha (by show 0 + sz e - 1 < 9223372036854775808; omega)
  rw [Nat.zero_add] at h1 h2
  unfold printW
  rw [hl, getS_szL _ _ _ (show sz e - 1 < sz e by omega), h1, capS_E (by unfold sE; simp only; omega) (by unfold sE; simp only; omega), h2]
  unfold sE
  rw [if_neg (by simp only; omega), if_neg (by simp only; omega)]
end Go.K
namespace Go.K
open Go.Sl Go.Sx Go.Proofs
theorem num_itoaW {n : Int} {sg : Bool} (hs : n < 0 → sg = true) (h : -1000000000000 ≤ n ∧ n ≤ 1000000000000) : num 13 (Lib.itoa n) sg = some n := by
  have e10 : 10 ^ (12 + 1) = 10000000000000 := by decide
  unfold num
  by_cases hn : n < 0
  · rw [itoa_neg hn, hs hn]
    have ok := dec_ok (m := 13) (k := 12) (u := n.natAbs) (by omega) (by omega)
    have hh := dec_head n.natAbs (by omega)
    simp only [List.head?_cons, if_true, List.tail_cons, ok, Bool.true_and, decide_eq_true_eq, hh, ne_eq, not_false_eq_true, dec_val]
    congr 1
    omega
  · rw [itoa_pos hn]
    have ok := dec_ok (m := 13) (k := 12) (u := n.toNat) (by omega) (by omega)
    have hh : (Lib.decDigits n.toNat).head? ≠ some 45 := by
      intro e
      have := isD_iff.1 (dec_all n.toNat 45 (List.mem_of_mem_head? e))
      have e45 : (45 : UInt8).toNat = 45 := rfl
      omega
    rw [if_neg hh, ok, dec_val]
    simp only [if_true]
    congr 1
    omega
theorem num_It {n : Int} (h : -1000000000000 ≤ n ∧ n ≤ 1000000000000) : num 13 (It n).data.toList true = some n := by
  unfold It; rw [ofL_data]; exact num_itoaW (fun _ => rfl) h
theorem opS_T {k : Int} (neg : Bool) (h : 1 ≤ k ∧ k ≤ 3) : opS (opT k neg) = some (k, neg) := by
  have : k = 1 ∨ k = 2 ∨ k = 3 := by omega
  rcases this with e | e | e <;> subst e <;> cases neg <;> decide
def rwW (l : List ByteArray) (j : Nat) : List ByteArray := if j = 1 then wOpen :: (l ++ [wClose]) else l
def tw : Ex → List ByteArray
  | .tr => [wTrue]
  | .cp k w n => [w, opT k false, It n]
  | .nt (.cp k w n) => [w, opT k true, It n]
  | .nt e => wNot :: rwW (tw e) (j1 e)
  | .an a b => rwW (tw a) (jo a) ++ (wAnd :: rwW (tw b) (j1 b))
  | .or a b => tw a ++ (wOr :: rwW (tw b) (jo b))
theorem tw_nt {e : Ex} (h : isC e = false) : tw (.nt e) = wNot :: rwW (tw e) (j1 e) := by
  cases e with
  | cp k w n => cases h
  | _ => rfl
def Occ (ws : List ByteArray) (i : Nat) (l : List ByteArray) : Prop := ∃ pre post, ws = pre ++ (l ++ post) ∧ pre.length = i
theorem Occ.hd {ws : List ByteArray} {i : Nat} {w : ByteArray} {l : List ByteArray} (h : Occ ws i (w :: l)) : wAt ws i = w := by
  obtain ⟨pre, post, h, hl⟩ := h
  subst hl h
  unfold wAt
  rw [List.getD_eq_getElem?_getD, List.getElem?_append_right (Nat.le_refl _), Nat.sub_self]; rfl
theorem Occ.tl {ws : List ByteArray} {i : Nat} {w : ByteArray} {l : List ByteArray} (h : Occ ws i (w :: l)) : Occ ws (i + 1) l := by
  obtain ⟨pre, post, h, hl⟩ := h
  exact ⟨pre ++ [w], post, by rw [h]; simp only [List.append_assoc, List.cons_append, List.nil_append], by rw [List.length_append, hl]; rfl⟩
theorem Occ.l {ws : List ByteArray} {i : Nat} {l m : List ByteArray} (h : Occ ws i (l ++ m)) : Occ ws i l := by
  obtain ⟨pre, post, h, hl⟩ := h
  exact ⟨pre, m ++ post, by rw [h, List.append_assoc], hl⟩
theorem Occ.r {ws : List ByteArray} {i : Nat} {l m : List ByteArray} (h : Occ ws i (l ++ m)) : Occ ws (i + l.length) m := by
  obtain ⟨pre, post, h, hl⟩ := h
  exact ⟨pre ++ l, post, by rw [h]; simp only [List.append_assoc], by rw [List.length_append, hl]⟩
theorem Occ.le {ws : List ByteArray} {i : Nat} {l : List ByteArray} (h : Occ ws i l) : i + l.length ≤ ws.length := by
  obtain ⟨pre, post, h, hl⟩ := h
  rw [h, List.length_append, List.length_append]; omega
def StE (i : Nat) (ts : Cnd) (e : Ex) : PS := (i, (ts ++ flat e (List.length ts), ((List.length ts + sz e - 1 : Nat) : Int)))
theorem St_mk {i j : Nat} {ts : Cnd} {a b c : Ex} {kind : Int} (hsz : sz c = sz a + sz b + 1)
    (hfl : flat c (List.length ts) = flat a (List.length ts) ++ flat b (List.length ts + sz a) ++ [tmK kind ((List.length ts + sz a - 1 : Nat) : Int) ((List.length ts + sz a + sz b - 1 : Nat) : Int)]) :
    ((StE j (StE i ts a).2.1 b).1, ((StE j (StE i ts a).2.1 b).2.1 ++ [tmK kind (StE i ts a).2.2 (StE j (StE i ts a).2.1 b).2.2], ((List.length (StE j (StE i ts a).2.1 b).2.1 : Nat) : Int))) = StE j ts c := by
  have hl : List.length (ts ++ flat a (List.length ts)) = List.length ts + sz a := by rw [List.length_append, flatE_len]
  unfold StE
  simp only [hl, hfl, hsz, List.length_append, flatE_len, List.append_assoc, Prod.mk.injEq, true_and]
  omega
theorem nm_ne {w : ByteArray} (h : nmB w = true) : ¬ (w = wNot ∨ w = wOpen) ∧ ¬ w = wTrue := by
  refine ⟨fun e => ?_, fun e => ?_⟩
  · rcases e with e | e <;> subst e <;> exact absurd h (by decide)
  · subst e; exact absurd h (by decide)
def OneT (ws : List ByteArray) (F : Nat) (e : Ex) : Prop := ∀ (n deep i : Nat) (ts : Cnd), DpE e + j1 e + deep ≤ 8 → 9 ≤ n + deep → Occ ws i (rwW (tw e) (j1 e)) → oneS ws F n deep i ts = .inl (StE (i + (rwW (tw e) (j1 e)).length) ts e)
def AllT (ws : List ByteArray) (F : Nat) (e : Ex) : Prop := ∀ (n deep i : Nat) (ts : Cnd), DpE e + jo e + deep ≤ 8 → 9 ≤ n + deep → Occ ws i (rwW (tw e) (jo e)) → ∃ F', ws.length - (i + (rwW (tw e) (jo e)).length) < F' ∧ allS ws (oneS ws F n deep) F i ts = loopS wAnd 5 ws (oneS ws F n deep) F' (StE (i + (rwW (tw e) (jo e)).length) ts e)
def CdT (ws : List ByteArray) (F : Nat) (e : Ex) : Prop := ∀ (n deep i : Nat) (ts : Cnd), DpE e + deep ≤ 8 → 9 ≤ n + deep → Occ ws i (tw e) → wAt ws (i + (tw e).length) ≠ wAnd → ∃ F', ws.length - (i + (tw e).length) < F' ∧ cndS ws (oneS ws F n deep) F i ts = loopS wOr 6 ws (allS ws (oneS ws F n deep) F) F' (StE (i + (tw e).length) ts e)
theorem loop_stop {wrd : ByteArray} {kind : Int} {ws : List ByteArray} {next : Nat → Cnd → PE} {F : Nat} {s : PS} (hF : 0 < F) (h : wAt ws s.1 ≠ wrd) : loopS wrd kind ws next F s = .inl s := by
  obtain ⟨f, rfl⟩ : ∃ f, F = f + 1 := ⟨F - 1, by omega⟩
  unfold loopS; rw [if_neg h]
theorem loop_go {wrd : ByteArray} {kind : Int} {ws : List ByteArray} {next : Nat → Cnd → PE} {F : Nat} {s t : PS} (h : wAt ws s.1 = wrd) (hn : next (s.1 + 1) s.2.1 = .inl t) : loopS wrd kind ws next (F + 1) s = loopS wrd kind ws next F (t.1, (t.2.1 ++ [tmK kind s.2.2 t.2.2], ((List.length t.2.1 : Nat) : Int))) := by
  show (if wAt ws s.1 = wrd then _ else _) = _
  rw [if_pos h, hn]
theorem all_of_one {ws : List ByteArray} {F : Nat} (hF : ws.length < F) {e : Ex} (hj : j1 e = jo e) (h : OneT ws F e) : AllT ws F e := by
  intro n deep i ts h1 h2 h3
  rw [← hj] at h1 h3 ⊢
  refine ⟨F, by omega, ?_⟩
  unfold allS
  rw [h n deep i ts h1 h2 h3]
theorem cd_of_all {ws : List ByteArray} {F : Nat} (hF : ws.length < F) {e : Ex} (hj : jo e = 0) (h : AllT ws F e) : CdT ws F e := by
  intro n deep i ts h1 h2 h3 h4
  obtain ⟨F', f1, f2⟩ := h n deep i ts (by omega) h2 (by rw [hj]; exact h3)
  have hr : rwW (tw e) (jo e) = tw e := by rw [hj]; rfl
  rw [hr] at f1 f2
  refine ⟨F, by omega, ?_⟩
  unfold cndS
  rw [f2, loop_stop (by omega) h4]
theorem one_of_cd {ws : List ByteArray} {F : Nat} (hF : ws.length < F) {e : Ex} (hj : j1 e = 1) (h : CdT ws F e) : OneT ws F e := by
  intro n deep i ts h1 h2 h3
  have hr : rwW (tw e) (j1 e) = wOpen :: (tw e ++ [wClose]) := by rw [hj]; rfl
  rw [hr] at h3 ⊢
  rw [hj] at h1
  cases n with
  | zero => omega
  | succ n =>
    have h4 := h3.hd
    have h5 := h3.tl
    have h6 := h5.r.hd
    have hlen : (wOpen :: (tw e ++ [wClose])).length = (tw e).length + 2 := by simp
    obtain ⟨F', f1, f2⟩ := h n (deep + 1) (i + 1) ts (by omega) (by omega) h5.l (by rw [h6]; decide)
    unfold oneS
    rw [if_pos (Or.inr h4), if_neg (by omega), if_neg (by rw [h4]; decide), f2, loop_stop (by omega) (by show wAt ws (i + 1 + (tw e).length) ≠ wOr; rw [h6]; decide)]
    show (if wAt ws (i + 1 + (tw e).length) = wClose then _ else _) = _
    rw [if_pos h6, hlen]
    show Sum.inl (i + 1 + (tw e).length + 1, (StE (i + 1 + (tw e).length) ts e).2) = _
    rw [show i + 1 + (tw e).length + 1 = i + ((tw e).length + 2) by omega]; rfl
theorem cmp_words {ws : List ByteArray} {F n deep i : Nat} {ts : Cnd} {k m : Int} {w : ByteArray} (neg : Bool) (ho : OkE (.cp k w m)) (hn : 9 ≤ n + deep) (hd : deep ≤ 8) (h : Occ ws i [w, opT k neg, It m]) :
    oneS ws F n deep i ts = .inl (if neg then (i + 3, (ts ++ [(k, (0, (0, (w, m))))] ++ [tmK 4 (List.length ts : Nat) 0], ((List.length ts + 1 : Nat) : Int))) else (i + 3, (ts ++ [(k, (0, (0, (w, m))))], ((List.length ts : Nat) : Int)))) := by
  obtain ⟨h1, h2, h3⟩ := ho
  obtain ⟨n1, n2⟩ := nm_ne h2
  cases n with
  | zero => omega
  | succ n =>
    have e1 := h.hd
    have e2 := h.tl.hd
    have e3 := h.tl.tl.hd
    unfold oneS
    rw [e1, if_neg n1, if_neg n2, if_neg (by rw [h2]; decide)]
    unfold cmpS
    rw [e2, opS_T neg h1]
    simp only
    rw [e3, num_It h3]
    simp only
    rw [if_pos h3]
    cases neg <;> rfl
theorem tree_all {ws : List ByteArray} {F : Nat} (hF : ws.length < F) : ∀ e, OkE e → OneT ws F e ∧ AllT ws F e ∧ CdT ws F e
  | .tr, ho => by
    have h1 : OneT ws F .tr := by
      intro n deep i ts h1 h2 h3
      have e1 : wAt ws i = wTrue := Occ.hd (l := []) h3
      cases n with
      | zero => have h1 : 0 + 0 + deep ≤ 8 := h1; omega
      | succ n =>
        unfold oneS
        rw [e1, if_neg (by decide), if_pos rfl]; rfl
    have h2 := all_of_one hF rfl h1
    exact ⟨h1, h2, cd_of_all hF rfl h2⟩
  | .cp k w m, ho => by
    have h1 : OneT ws F (.cp k w m) := by
      intro n deep i ts h1 h2 h3
      have h1 : 0 + 0 + deep ≤ 8 := h1
      rw [cmp_words false ho h2 (by omega) h3]; rfl
    have h2 := all_of_one hF rfl h1
    exact ⟨h1, h2, cd_of_all hF rfl h2⟩
  | .nt e, ho => by
    have ho : OkE e := ho
    obtain ⟨i1, i2, i3⟩ := tree_all hF e ho
    have h1 : OneT ws F (.nt e) := by
      intro n deep i ts h1 h2 h3
      cases hc : isC e with
      | true =>
        cases e with
        | cp k w m =>
          have h1 : (if isC (.cp k w m) = true then 0 else DpE (.cp k w m) + j1 (.cp k w m) + 1) + 0 + deep ≤ 8 := h1
          rw [if_pos hc] at h1
          rw [cmp_words true ho h2 (by omega) h3]
          show Sum.inl (i + 3, (ts ++ [(k, (0, (0, (w, m))))] ++ [tmK 4 (List.length ts : Nat) 0], ((List.length ts + 1 : Nat) : Int))) = Sum.inl (i + 3, (ts ++ ([(k, (0, (0, (w, m))))] ++ [tmK 4 ((List.length ts + 1 - 1 : Nat) : Int) 0]), ((List.length ts + (1 + 1) - 1 : Nat) : Int)))
          rw [Nat.add_sub_cancel, List.append_assoc]; rfl
        | _ => cases hc
      | false =>
        have hr : rwW (tw (.nt e)) (j1 (.nt e)) = wNot :: rwW (tw e) (j1 e) := tw_nt hc
        rw [D_nt hc] at h1
        have h1 : DpE e + j1 e + 1 + 0 + deep ≤ 8 := h1
        rw [hr] at h3 ⊢
        cases n with
        | zero => omega
        | succ n =>
          have e1 := h3.hd
          unfold oneS
          rw [e1, if_pos (Or.inl rfl), if_neg (by omega), if_pos rfl, i1 n (deep + 1) (i + 1) ts (by omega) (by omega) h3.tl]
          unfold StE
          simp only [flat, sz, List.length_append, flatE_len, List.append_assoc, List.length_cons]
          rw [show i + 1 + (rwW (tw e) (j1 e)).length = i + ((rwW (tw e) (j1 e)).length + 1) by omega]
          rfl
    have h2 := all_of_one hF rfl h1
    exact ⟨h1, h2, cd_of_all hF rfl h2⟩
  | .an a b, ho => by
    obtain ⟨a1, a2, a3⟩ := tree_all hF a ho.1
    obtain ⟨b1, b2, b3⟩ := tree_all hF b ho.2
    have h2 : AllT ws F (.an a b) := by
      intro n deep i ts h1 h2 h3
      have h1 : max (DpE a + jo a) (DpE b + j1 b) + 0 + deep ≤ 8 := h1
      have h3 : Occ ws i (rwW (tw a) (jo a) ++ (wAnd :: rwW (tw b) (j1 b))) := h3
      obtain ⟨F', f1, f2⟩ := a2 n deep i ts (by omega) h2 h3.l
      have e1 := h3.r.hd
      have hle := h3.le
      have hb := b1 n deep (i + (rwW (tw a) (jo a)).length + 1) (StE (i + (rwW (tw a) (jo a)).length) ts a).2.1 (by omega) h2 h3.r.tl
      have hlen : (rwW (tw (.an a b)) (jo (.an a b))).length = (rwW (tw a) (jo a)).length + ((rwW (tw b) (j1 b)).length + 1) := by
        show (rwW (tw a) (jo a) ++ (wAnd :: rwW (tw b) (j1 b))).length = _
        rw [List.length_append, List.length_cons]
      rw [List.length_append, List.length_cons] at hle
      obtain ⟨f, rfl⟩ : ∃ f, F' = f + 1 := ⟨F' - 1, by omega⟩
      refine ⟨f, by rw [hlen]; omega, ?_⟩
      rw [f2, loop_go e1 hb, St_mk (c := .an a b) rfl rfl, hlen, show i + (rwW (tw a) (jo a)).length + 1 + (rwW (tw b) (j1 b)).length = i + ((rwW (tw a) (jo a)).length + ((rwW (tw b) (j1 b)).length + 1)) by omega]
    have h3 := cd_of_all hF rfl h2
    exact ⟨one_of_cd hF rfl h3, h2, h3⟩
  | .or a b, ho => by
    obtain ⟨a1, a2, a3⟩ := tree_all hF a ho.1
    obtain ⟨b1, b2, b3⟩ := tree_all hF b ho.2
    have h3 : CdT ws F (.or a b) := by
      intro n deep i ts h1 h2 h3 h4
      have h1 : max (DpE a) (DpE b + jo b) + deep ≤ 8 := h1
      have h3 : Occ ws i (tw a ++ (wOr :: rwW (tw b) (jo b))) := h3
      have e1 := h3.r.hd
      have hle := h3.le
      have hlen : (tw (.or a b)).length = (tw a).length + ((rwW (tw b) (jo b)).length + 1) := by
        show (tw a ++ (wOr :: rwW (tw b) (jo b))).length = _
        rw [List.length_append, List.length_cons]
      rw [List.length_append, List.length_cons] at hle
      rw [hlen] at h4
      obtain ⟨F', f1, f2⟩ := a3 n deep i ts (by omega) h2 h3.l (by rw [e1]; decide)
      obtain ⟨G', g1, g2⟩ := b2 n deep (i + (tw a).length + 1) (StE (i + (tw a).length) ts a).2.1 (by omega) h2 h3.r.tl
      have ei : i + (tw a).length + 1 + (rwW (tw b) (jo b)).length = i + ((tw a).length + ((rwW (tw b) (jo b)).length + 1)) := by omega
      rw [loop_stop (by omega) (by show wAt ws (i + (tw a).length + 1 + (rwW (tw b) (jo b)).length) ≠ wAnd; rw [ei]; exact h4)] at g2
      obtain ⟨f, rfl⟩ : ∃ f, F' = f + 1 := ⟨F' - 1, by omega⟩
      refine ⟨f, by rw [hlen]; omega, ?_⟩
      rw [f2, loop_go e1 g2, St_mk (c := .or a b) rfl rfl, hlen, ei]
    have h1 := one_of_cd hF rfl h3
    exact ⟨h1, all_of_one hF rfl h1, h3⟩
theorem parseW_tree {e : Ex} (ho : OkE e) (hd : DpE e ≤ 8) (hs : sz e ≤ 30) : parseW (tw e) = (flat e 0, (0, 0)) := by
  obtain ⟨h1, h2, h3⟩ := tree_all (ws := tw e) (F := (tw e).length + 1) (by omega) e ho
  have hend : wAt (tw e) (tw e).length = bts [] := wAt_end _
  obtain ⟨F', f1, f2⟩ := h3 LF 0 0 [] (by omega) (by show 9 ≤ 9223372036854775808 + 0; omega) ⟨[], [], by simp, rfl⟩ (by rw [Nat.zero_add, hend]; decide)
  rw [Nat.zero_add] at f1 f2
  have hl := flatE_len e 0
  unfold parseW condW
  rw [f2, loop_stop (by omega) (by show wAt (tw e) (tw e).length ≠ wOr; rw [hend]; decide)]
  show (if (tw e).length < (tw e).length then _ else _) = _
  rw [if_neg (by omega)]
  show (if 30 < List.length ([] ++ flat e 0) then _ else _) = _
  rw [List.nil_append, if_neg (by omega)]
  rfl
end Go.K
namespace Go.K
open Go.Sl Go.Sx Go.Proofs
theorem wd_app : ∀ (l cur m : List UInt8), wd cur (l ++ 32 :: m) = wd cur l ++ wd [] m
  | [], cur, m => by
    simp only [List.nil_append, wd, if_true]
    by_cases h : cur = []
    · simp only [h, if_true, List.nil_append]
    · simp only [h, if_false, List.cons_append, List.nil_append]
  | b :: r, cur, m => by
    simp only [List.cons_append, wd]
    by_cases hb : b = 32
    · by_cases h : cur = []
      · simp only [hb, h, if_true, wd_app r [] m]
      · simp only [hb, h, if_true, if_false, wd_app r [] m, List.cons_append]
    · simp only [hb, if_false, wd_app r (cur ++ [b]) m]
theorem words_sp (a b : ByteArray) : wordsB (a ++ bts [32] ++ b) = wordsB a ++ wordsB b := by
  unfold wordsB
  have e : (a ++ bts [32] ++ b).data.toList = a.data.toList ++ 32 :: b.data.toList := by
    rw [app_data, app_data, List.append_assoc]; rfl
  rw [e, wd_app, List.map_append]
theorem words_one {s : ByteArray} (h1 : s.data.toList ≠ []) (h2 : ∀ b ∈ s.data.toList, b ≠ 32) : wordsB s = [s] := by
  unfold wordsB
  rw [wd_one _ h1 h2]
  simp only [List.map_cons, List.map_nil, ofL_back]
theorem words_lit {l : List Nat} (h1 : (bts l).data.toList ≠ []) (h2 : ∀ b ∈ (bts l).data.toList, b ≠ 32) : wordsB (bts l) = [bts l] := words_one h1 h2
theorem word_rd (s : ByteArray) : (bts [40, 32] ++ s) ++ bts [32, 41] = ((bts [40] ++ bts [32] ++ s) ++ bts [32]) ++ bts [41] := by
  apply ext_data; simp only [app_data, List.append_assoc]; rfl
theorem words_rd {s : ByteArray} {j : Nat} (hj : j ≤ 1) : wordsB (rdT s (decide (j = 1))) = rwW (wordsB s) j := by
  have : j = 0 ∨ j = 1 := by omega
  rcases this with e | e <;> subst e
  · rfl
  · show wordsB ((bts [40, 32] ++ s) ++ bts [32, 41]) = wOpen :: (wordsB s ++ [wClose])
    rw [word_rd, words_sp, words_sp, words_lit (by decide) (by decide), words_lit (by decide) (by decide)]; rfl
theorem nm_no {w : ByteArray} (h : nmB w = true) : w.data.toList ≠ [] ∧ ∀ b ∈ w.data.toList, b ≠ 32 := by
  unfold nmB at h
  simp only [Bool.and_eq_true, decide_eq_true_eq] at h
  refine ⟨fun e => ?_, fun b hb e => ?_⟩
  · have := h.1.1.1
    rw [size_len, e] at this
    simp at this
  · have hs : scan chB w.data.toList 0 = none := by simpa using h.2
    obtain ⟨i, hi⟩ := List.getElem?_of_mem hb
    have := scan_noneW chB _ 0 hs i b hi
    subst e
    unfold chB at this
    have e1 : letB 32 = false := by decide
    have e2 : digB 32 = false := by decide
    rw [e1, e2] at this
    cases this
theorem op_no {k : Int} (neg : Bool) (h : 1 ≤ k ∧ k ≤ 3) : (opT k neg).data.toList ≠ [] ∧ ∀ b ∈ (opT k neg).data.toList, b ≠ 32 := by
  have : k = 1 ∨ k = 2 ∨ k = 3 := by omega
  rcases this with e | e | e <;> subst e <;> cases neg <;> decide
theorem It_no (n : Int) : (It n).data.toList ≠ [] ∧ ∀ b ∈ (It n).data.toList, b ≠ 32 := by
  unfold It
  rw [ofL_data]
  exact ⟨itoa_ne n, fun b hb => itoa_no hb (by decide) (by decide)⟩
theorem words_cmp {k n : Int} {w : ByteArray} (neg : Bool) (h : OkE (.cp k w n)) : wordsB (cmpT (k, (0, (0, (w, n)))) neg) = [w, opT k neg, It n] := by
  obtain ⟨h1, h2, h3⟩ := h
  show wordsB ((((w ++ bts [32]) ++ opT k neg) ++ bts [32]) ++ It n) = _
  rw [words_sp, words_sp, words_one (nm_no h2).1 (nm_no h2).2, words_one (op_no neg h1).1 (op_no neg h1).2, words_one (It_no n).1 (It_no n).2]; rfl
theorem words_tx : ∀ e, OkE e → wordsB (tx e) = tw e
  | .tr, _ => words_lit (by decide) (by decide)
  | .cp k w n, h => words_cmp false h
  | .nt e, h => by
    have h : OkE e := h
    cases hc : isC e with
    | true =>
      cases e with
      | cp k w n => exact words_cmp true h
      | _ => cases hc
    | false =>
      rw [tx_nt hc, tw_nt hc, ← word_not, words_sp, words_rd (j1_le e), words_tx e h, words_lit (by decide) (by decide)]; rfl
  | .an x y, h => by
    show wordsB ((rdT (tx x) (decide (jo x = 1)) ++ bts [32, 97, 110, 100, 32]) ++ rdT (tx y) (decide (j1 y = 1))) = rwW (tw x) (jo x) ++ (wAnd :: rwW (tw y) (j1 y))
    rw [← word_and, words_sp, words_sp, words_rd (jo_le x), words_rd (j1_le y), words_tx x h.1, words_tx y h.2, words_lit (by decide) (by decide), List.append_assoc]; rfl
  | .or x y, h => by
    show wordsB ((tx x ++ bts [32, 111, 114, 32]) ++ rdT (tx y) (decide (jo y = 1))) = tw x ++ (wOr :: rwW (tw y) (jo y))
    rw [← word_or, words_sp, words_sp, words_rd (jo_le y), words_tx x h.1, words_tx y h.2, words_lit (by decide) (by decide), List.append_assoc]; rfl
end Go.K
namespace Go.K
open Go.Sl Go.Sx Go.Proofs
def exA (c : Cnd) : Nat → Nat → Ex
  | 0, _ => .tr
  | n + 1, i =>
    if (getT c i).1 = 0 then .tr
    else if (getT c i).1 = 4 then .nt (exA c n (getT c i).2.1.toNat)
    else if (getT c i).1 = 5 then .an (exA c n (getT c i).2.1.toNat) (exA c n (getT c i).2.2.1.toNat)
    else if (getT c i).1 = 6 then .or (exA c n (getT c i).2.1.toNat) (exA c n (getT c i).2.2.1.toNat)
    else .cp (getT c i).1 (getT c i).2.2.2.1 (getT c i).2.2.2.2
theorem exA_s (c : Cnd) (n i : Nat) : exA c (n + 1) i = (if (getT c i).1 = 0 then .tr
    else if (getT c i).1 = 4 then .nt (exA c n (getT c i).2.1.toNat)
    else if (getT c i).1 = 5 then .an (exA c n (getT c i).2.1.toNat) (exA c n (getT c i).2.2.1.toNat)
    else if (getT c i).1 = 6 then .or (exA c n (getT c i).2.1.toNat) (exA c n (getT c i).2.2.1.toNat)
    else .cp (getT c i).1 (getT c i).2.2.2.1 (getT c i).2.2.2.2) := rfl
theorem cmpK_iff {k : Int} (h : cmpK k = true) : 1 ≤ k ∧ k ≤ 3 := of_decide_eq_true h
theorem exA_cmp {c : Cnd} {n i : Nat} (h : cmpK (getT c i).1 = true) : exA c (n + 1) i = .cp (getT c i).1 (getT c i).2.2.2.1 (getT c i).2.2.2.2 := by
  have := cmpK_iff h
  rw [exA_s, if_neg (by omega), if_neg (by omega), if_neg (by omega), if_neg (by omega)]
theorem exA_cases {c : Cnd} (hc : Shd c) {n i : Nat} (hn : i < n + 1) (hi : i < List.length c) :
    ((getT c i).1 = 0 ∧ exA c (n + 1) i = .tr) ∨
    (cmpK (getT c i).1 = true ∧ exA c (n + 1) i = .cp (getT c i).1 (getT c i).2.2.2.1 (getT c i).2.2.2.2) ∨
    ((getT c i).1 = 4 ∧ ∃ a : Nat, (getT c i).2.1 = (a : Int) ∧ a < i ∧ exA c (n + 1) i = .nt (exA c n a)) ∨
    ((getT c i).1 = 5 ∧ ∃ a b : Nat, (getT c i).2.1 = (a : Int) ∧ (getT c i).2.2.1 = (b : Int) ∧ a < i ∧ b < i ∧ exA c (n + 1) i = .an (exA c n a) (exA c n b)) ∨
    ((getT c i).1 = 6 ∧ ∃ a b : Nat, (getT c i).2.1 = (a : Int) ∧ (getT c i).2.2.1 = (b : Int) ∧ a < i ∧ b < i ∧ exA c (n + 1) i = .or (exA c n a) (exA c n b)) := by
  rcases Shd_k hc hi with h | h | h | h | h
  · refine .inl ⟨h, ?_⟩
    rw [exA_s, if_pos h]
  · exact .inr (.inl ⟨h, exA_cmp h⟩)
  · obtain ⟨a, e, ha⟩ := Shd_4 hc hi h
    refine .inr (.inr (.inl ⟨h, a, e, ha, ?_⟩))
    rw [exA_s, if_neg (by omega), if_pos h, e, Int.toNat_natCast]
  · obtain ⟨a, b, e, e2, ha, hb⟩ := Shd_5 hc hi (.inl h)
    refine .inr (.inr (.inr (.inl ⟨h, a, b, e, e2, ha, hb, ?_⟩)))
    rw [exA_s, if_neg (by omega), if_neg (by omega), if_pos h, e, e2, Int.toNat_natCast, Int.toNat_natCast]
  · obtain ⟨a, b, e, e2, ha, hb⟩ := Shd_5 hc hi (.inr h)
    refine .inr (.inr (.inr (.inr ⟨h, a, b, e, e2, ha, hb, ?_⟩)))
    rw [exA_s, if_neg (by omega), if_neg (by omega), if_neg (by omega), if_pos h, e, e2, Int.toNat_natCast, Int.toNat_natCast]
theorem exA_kind {c : Cnd} (hc : Shd c) {n i : Nat} (hn : i < n) (hi : i < List.length c) :
    cmpK (getT c i).1 = isC (exA c n i) ∧ jnK (getT c i).1 = decide (j1 (exA c n i) = 1) ∧ decide ((getT c i).1 = 6) = decide (jo (exA c n i) = 1) := by
  obtain ⟨m, rfl⟩ : ∃ m, n = m + 1 := ⟨n - 1, by omega⟩
  rcases exA_cases hc hn hi with ⟨h, e⟩ | ⟨h, e⟩ | ⟨h, a, _, _, e⟩ | ⟨h, a, b, _, _, _, _, e⟩ | ⟨h, a, b, _, _, _, _, e⟩
  · rw [h, e]; exact ⟨rfl, rfl, rfl⟩
  · have := cmpK_iff h
    rw [e]
    refine ⟨h, ?_, ?_⟩
    · show jnK _ = decide (0 = 1)
      unfold jnK
      rw [decide_eq_false (by omega)]; rfl
    · show decide _ = decide (0 = 1)
      rw [decide_eq_false (by omega)]; rfl
  · rw [h, e]; exact ⟨rfl, rfl, rfl⟩
  · rw [h, e]; exact ⟨rfl, rfl, rfl⟩
  · rw [h, e]; exact ⟨rfl, rfl, rfl⟩
theorem exA_ok {c : Cnd} (hc : Shd c) : ∀ (n i : Nat), i < n → i < List.length c → OkE (exA c n i)
  | 0, i, h, _ => by omega
  | n + 1, i, hn, hi => by
    rcases exA_cases hc hn hi with ⟨h, e⟩ | ⟨h, e⟩ | ⟨h, a, _, ha, e⟩ | ⟨h, a, b, _, _, ha, hb, e⟩ | ⟨h, a, b, _, _, ha, hb, e⟩
    · rw [e]; trivial
    · rw [e]
      have := Shd_c hc hi h
      exact ⟨cmpK_iff h, (hc i hi).2 h, this.2⟩
    · rw [e]; exact exA_ok hc n a (by omega) (by omega)
    · rw [e]; exact ⟨exA_ok hc n a (by omega) (by omega), exA_ok hc n b (by omega) (by omega)⟩
    · rw [e]; exact ⟨exA_ok hc n a (by omega) (by omega), exA_ok hc n b (by omega) (by omega)⟩
theorem prT_ex {c : Cnd} (hc : Shd c) : ∀ (n i : Nat), i < n → i < List.length c → prT c n i = tx (exA c n i)
  | 0, i, h, _ => by omega
  | n + 1, i, hn, hi => by
    unfold prT
    rcases exA_cases hc hn hi with ⟨h, e⟩ | ⟨h, e⟩ | ⟨h, a, ea, ha, e⟩ | ⟨h, a, b, ea, eb, ha, hb, e⟩ | ⟨h, a, b, ea, eb, ha, hb, e⟩
    · rw [if_pos h, e]; rfl
    · have := cmpK_iff h
      rw [if_neg (by omega), if_neg (by omega), if_neg (by omega), if_neg (by omega), e]; rfl
    · obtain ⟨k1, k2, k3⟩ := exA_kind hc (show a < n by omega) (show a < List.length c by omega)
      rw [if_neg (by omega), if_pos h, ea, Int.toNat_natCast, e]
      cases hC : isC (exA c n a) with
      | true =>
        rw [hC] at k1
        obtain ⟨m, rfl⟩ : ∃ m, n = m + 1 := ⟨n - 1, by omega⟩
        rw [if_pos k1, exA_cmp k1]; rfl
      | false =>
        rw [hC] at k1
        rw [if_neg (by rw [k1]; decide), tx_nt hC, prT_ex hc n a (by omega) (by omega), k2]
    · obtain ⟨k1, k2, k3⟩ := exA_kind hc (show a < n by omega) (show a < List.length c by omega)
      obtain ⟨q1, q2, q3⟩ := exA_kind hc (show b < n by omega) (show b < List.length c by omega)
      rw [if_neg (by omega), if_neg (by omega), if_pos h, ea, eb, Int.toNat_natCast, Int.toNat_natCast, e, prT_ex hc n a (by omega) (by omega), prT_ex hc n b (by omega) (by omega), k3, q2]; rfl
    · obtain ⟨q1, q2, q3⟩ := exA_kind hc (show b < n by omega) (show b < List.length c by omega)
      rw [if_neg (by omega), if_neg (by omega), if_neg (by omega), if_pos h, ea, eb, Int.toNat_natCast, Int.toNat_natCast, e, prT_ex hc n a (by omega) (by omega), prT_ex hc n b (by omega) (by omega), q3]; rfl
def mnT (x : Nat) : Int := if 31 < x then 31 else (x : Int)
theorem rdS_2 (s : Sz3) (e : Ex) {j : Nat} (hj : j ≤ 1) (h : s.2 = ((DpE e : Int), mnT (sz e))) : (rdS s (decide (j = 1))).2 = (((DpE e + j : Nat) : Int), mnT (sz e)) := by
  have : j = 0 ∨ j = 1 := by omega
  rcases this with e' | e' <;> subst e'
  · exact h
  · show (s.2.1 + 1, s.2.2) = _
    rw [h]; rfl
theorem sz_ex {c : Cnd} (hc : Shd c) : ∀ (n i N : Nat), i < n → i < N → i < List.length c → (getS (szL c N) i).2 = ((DpE (exA c n i) : Int), mnT (sz (exA c n i)))
  | 0, i, N, h, _, _ => by omega
  | n + 1, i, N, hn, hN, hi => by
    rw [getS_szW c N i hN]
    show ((szR c (szL c i) i).2.1, if 31 < (szR c (szL c i) i).2.2 then 31 else (szR c (szL c i) i).2.2) = _
    unfold szR
    rcases exA_cases hc hn hi with ⟨h, e⟩ | ⟨h, e⟩ | ⟨h, a, ea, ha, e⟩ | ⟨h, a, b, ea, eb, ha, hb, e⟩ | ⟨h, a, b, ea, eb, ha, hb, e⟩
    · have hk : ¬ cmpK (getT c i).1 = true := fun k => by have := cmpK_iff k; omega
      rw [if_neg hk, if_neg (by omega), if_neg (by omega), if_neg (by omega), e]; rfl
    · rw [if_pos h, e]; rfl
    · have hk : ¬ cmpK (getT c i).1 = true := fun k => by have := cmpK_iff k; omega
      obtain ⟨k1, k2, k3⟩ := exA_kind hc (show a < n by omega) (show a < List.length c by omega)
      rw [if_neg hk, if_pos h, ea, Int.toNat_natCast, e]
      cases hC : isC (exA c n a) with
      | true =>
        rw [hC] at k1
        obtain ⟨m, rfl⟩ : ∃ m, n = m + 1 := ⟨n - 1, by omega⟩
        rw [if_pos k1, exA_cmp k1]; rfl
      | false =>
        rw [hC] at k1
        have ih := rdS_2 _ _ (j1_le (exA c n a)) (sz_ex hc n a i (by omega) ha (by omega))
        rw [if_neg (by rw [k1]; decide), k2]
        have hs : sz (.nt (exA c n a)) = sz (exA c n a) + 1 := rfl
        simp only [ih, D_nt hC, hs, mnT, Prod.mk.injEq]
        refine ⟨by omega, ?_⟩
        split <;> split <;> split <;> omega
    · have hk : ¬ cmpK (getT c i).1 = true := fun k => by have := cmpK_iff k; omega
      obtain ⟨k1, k2, k3⟩ := exA_kind hc (show a < n by omega) (show a < List.length c by omega)
      obtain ⟨q1, q2, q3⟩ := exA_kind hc (show b < n by omega) (show b < List.length c by omega)
      have ih := rdS_2 _ _ (jo_le (exA c n a)) (sz_ex hc n a i (by omega) ha (by omega))
      have ih2 := rdS_2 _ _ (j1_le (exA c n b)) (sz_ex hc n b i (by omega) hb (by omega))
      have hs : sz (.an (exA c n a) (exA c n b)) = sz (exA c n a) + sz (exA c n b) + 1 := rfl
      have hd : DpE (.an (exA c n a) (exA c n b)) = max (DpE (exA c n a) + jo (exA c n a)) (DpE (exA c n b) + j1 (exA c n b)) := rfl
      rw [if_neg hk, if_neg (by omega), if_pos h, ea, eb, Int.toNat_natCast, Int.toNat_natCast, e, k3, q2]
      simp only [two, ih, ih2, mx_nat, hs, hd, mnT, Prod.mk.injEq, true_and]
      split <;> split <;> split <;> split <;> omega
    · have hk : ¬ cmpK (getT c i).1 = true := fun k => by have := cmpK_iff k; omega
      obtain ⟨q1, q2, q3⟩ := exA_kind hc (show b < n by omega) (show b < List.length c by omega)
      have ih : (rdS (getS (szL c i) a) false).2 = _ := sz_ex hc n a i (by omega) ha (by omega)
      have ih2 := rdS_2 _ _ (jo_le (exA c n b)) (sz_ex hc n b i (by omega) hb (by omega))
      have hs : sz (.or (exA c n a) (exA c n b)) = sz (exA c n a) + sz (exA c n b) + 1 := rfl
      have hd : DpE (.or (exA c n a) (exA c n b)) = max (DpE (exA c n a)) (DpE (exA c n b) + jo (exA c n b)) := rfl
      rw [if_neg hk, if_neg (by omega), if_neg (by omega), if_pos h, ea, eb, Int.toNat_natCast, Int.toNat_natCast, e, q3]
      simp only [two, ih, ih2, mx_nat, hs, hd, mnT, Prod.mk.injEq, true_and]
      split <;> split <;> split <;> split <;> omega
def treeC (c : Cnd) : Ex := exA c LF (List.length c - 1)
theorem printB_ex {c : Cnd} (h : (printB c).2 = 0) : Shd c ∧ List.length c ≠ 0 ∧ List.length c ≤ 30 ∧ (printB c).1 = tx (treeC c) ∧ OkE (treeC c) ∧ DpE (treeC c) ≤ 8 ∧ sz (treeC c) ≤ 30 := by
  unfold printB at h ⊢
  by_cases hr : List.length c = 0 ∨ 30 < List.length c
  · rw [if_pos hr] at h; cases h
  rw [if_neg hr] at h ⊢
  cases hs : scan prS c 0 with
  | some y =>
    exfalso
    rw [hs] at h
    have hx : ∀ (l : Cnd) (k : Nat), scan prS l k = some y → y = (bts [], 41) := by
      intro l
      induction l with
      | nil => intro k h; cases h
      | cons t l ih =>
        intro k h
        unfold scan at h
        cases hp : prS t k with
        | some z =>
          rw [hp] at h
          cases h
          unfold prS at hp
          cases hb : (!shp t k || (cmpK t.1 && !nmB t.2.2.2.1)) with
          | true => rw [hb] at hp; cases hp; rfl
          | false => rw [hb] at hp; cases hp
        | none => rw [hp] at h; exact ih (k + 1) h
    have := hx c 0 hs
    subst this
    cases h
  | none =>
    rw [hs] at h
    have hc := Shd_of hs
    have hl : List.length c - 1 < List.length c := by omega
    have hL : List.length c - 1 < LF := by show List.length c - 1 < 9223372036854775808; omega
    have hz := sz_ex hc LF (List.length c - 1) (List.length c) hL hl hl
    have hp := prT_ex hc LF (List.length c - 1) hL hl
    have ho := exA_ok hc LF (List.length c - 1) hL hl
    refine ⟨hc, by omega, by omega, ?_⟩
    have h : (printW c).2 = 0 := h
    show (printW c).1 = _ ∧ _
    unfold printW at h ⊢
    split at h
    · cases h
    split at h
    · cases h
    rename_i h1 h2
    rw [if_neg h1, if_neg h2]
    rw [hz] at h1 h2
    refine ⟨hp, ho, ?_, ?_⟩
    · show DpE (exA c LF (List.length c - 1)) ≤ 8
      simp only at h1; omega
    · show sz (exA c LF (List.length c - 1)) ≤ 30
      have h3 : ¬ mnT (sz (exA c LF (List.length c - 1))) > 30 := fun h => h2 (.inr h)
      unfold mnT at h3
      split at h3 <;> omega
theorem exA_flat {c : Cnd} : ∀ (e : Ex) (b n : Nat), OkE e → AtE c e b → b + sz e - 1 < n → exA c n (b + sz e - 1) = e
  | e, b, 0, _, _, h => by omega
  | .tr, b, n + 1, ho, ha, hn => by rw [exA_s, At_rt ha]; rfl
  | .cp k w m, b, n + 1, ho, ha, hn => by
    have e1 := At_rt ha
    have hk : cmpK (getT c (b + sz (.cp k w m) - 1)).1 = true := by rw [e1]; exact rt_c ho b
    rw [exA_cmp hk, e1]; rfl
  | .nt e, b, n + 1, ho, ha, hn => by
    have hp := sz_pos e
    obtain ⟨a1, a2⟩ := At_nt ha
    have e1 := At_rt ha
    have hs : sz (.nt e) = sz e + 1 := rfl
    have k0 : ¬ (rt (.nt e) b).1 = 0 := by show ¬ (4 : Int) = 0; omega
    have k4 : (rt (.nt e) b).1 = 4 := rfl
    have k1 : (rt (.nt e) b).2.1.toNat = b + sz e - 1 := Int.toNat_natCast _
    have ho : OkE e := ho
    rw [exA_s, e1, if_neg k0, if_pos k4, k1, exA_flat e b n ho a1 (by omega)]
  | .an x y, b, n + 1, ho, ha, hn => by
    have hp := sz_pos x
    have hq := sz_pos y
    obtain ⟨a1, a2, a3⟩ := At_an ha
    have e1 := At_rt ha
    have hs : sz (.an x y) = sz x + sz y + 1 := rfl
    have k0 : ¬ (rt (.an x y) b).1 = 0 := by show ¬ (5 : Int) = 0; omega
    have k4 : ¬ (rt (.an x y) b).1 = 4 := by show ¬ (5 : Int) = 4; omega
    have k5 : (rt (.an x y) b).1 = 5 := rfl
    have k1 : (rt (.an x y) b).2.1.toNat = b + sz x - 1 := Int.toNat_natCast _
    have k2 : (rt (.an x y) b).2.2.1.toNat = b + sz x + sz y - 1 := Int.toNat_natCast _
    rw [exA_s, e1, if_neg k0, if_neg k4, if_pos k5, k1, k2, exA_flat x b n ho.1 a1 (by omega), exA_flat y (b + sz x) n ho.2 a2 (by omega)]
  | .or x y, b, n + 1, ho, ha, hn => by
    have hp := sz_pos x
    have hq := sz_pos y
    obtain ⟨a1, a2, a3⟩ := At_or ha
    have e1 := At_rt ha
    have hs : sz (.or x y) = sz x + sz y + 1 := rfl
    have k0 : ¬ (rt (.or x y) b).1 = 0 := by show ¬ (6 : Int) = 0; omega
    have k4 : ¬ (rt (.or x y) b).1 = 4 := by show ¬ (6 : Int) = 4; omega
    have k5 : ¬ (rt (.or x y) b).1 = 5 := by show ¬ (6 : Int) = 5; omega
    have k6 : (rt (.or x y) b).1 = 6 := rfl
    have k1 : (rt (.or x y) b).2.1.toNat = b + sz x - 1 := Int.toNat_natCast _
    have k2 : (rt (.or x y) b).2.2.1.toNat = b + sz x + sz y - 1 := Int.toNat_natCast _
    rw [exA_s, e1, if_neg k0, if_neg k4, if_neg k5, if_pos k6, k1, k2, exA_flat x b n ho.1 a1 (by omega), exA_flat y (b + sz x) n ho.2 a2 (by omega)]
theorem tree_flat {e : Ex} (ho : OkE e) (hs : sz e ≤ 30) : treeC (flat e 0) = e := by
  have hp := sz_pos e
  have ha : AtE (flat e 0) e 0 := ⟨[], [], by simp, rfl⟩
  have := exA_flat e 0 LF ho ha (by show 0 + sz e - 1 < 9223372036854775808; omega)
  unfold treeC
  rw [flatE_len]
  rwa [Nat.zero_add] at this
end Go.K
namespace Go.K
open Go.Sl Go.Sx Go.Proofs
theorem plF_get {f : List Fct} {s : ByteArray} (h : f.any (fun x => decide (x.1 = s)) = true) : ∃ n : Nat, plF f s = (n : Int) ∧ n < f.length ∧ ∃ x, f[n]? = some x ∧ x.1 = s := by
  rw [← idx_any] at h
  cases hi : idx (fun x : Fct => decide (x.1 = s)) f 0 with
  | none => rw [hi] at h; cases h
  | some n =>
    obtain ⟨x, e1, e2, _⟩ := idx_some hi
    exact ⟨n, by unfold plF idxI; rw [hi], idx_lt hi, x, e1, by simpa using e2⟩
theorem term_ok {f : List Fct} {t : Tm} {i : Nat} (h : condS f t i = none) : shp t i = true ∧ (cmpK t.1 = true → f.any (fun x => decide (x.1 = t.2.2.2.1)) = true) := by
  unfold condS at h
  cases h1 : shp t i with
  | false => rw [h1] at h; cases h
  | true =>
    rw [h1] at h
    simp only [Bool.not_true, cond_false] at h
    refine ⟨rfl, fun hc => ?_⟩
    rw [hc] at h
    cases h2 : f.any (fun x => decide (x.1 = t.2.2.2.1)) with
    | true => rfl
    | false => rw [h2] at h; cases h
inductive Kdt (f : List Fct) (i : Nat) : Tm → Prop
  | tru {a b s n} : Kdt f i (0, (a, (b, (s, n))))
  | cmp {k a b s n} : (k = 1 ∨ k = 2 ∨ k = 3) → f.any (fun x => decide (x.1 = s)) = true → Kdt f i (k, (a, (b, (s, n))))
  | neg {a : Nat} {b s n} : a < i → Kdt f i (4, ((a : Int), (b, (s, n))))
  | bin {k} {a b : Nat} {s n} : (k = 5 ∨ k = 6) → a < i → b < i → Kdt f i (k, ((a : Int), ((b : Int), (s, n))))
theorem term_kd {f : List Fct} {t : Tm} {i : Nat} (h : condS f t i = none) : Kdt f i t := by
  obtain ⟨h1, h2⟩ := term_ok h
  obtain ⟨k, a, b, s, n⟩ := t
  unfold shp at h1
  simp only at h1 h2
  by_cases k0 : k = 0
  · subst k0; exact .tru
  · rw [if_neg k0] at h1
    by_cases k1 : 1 ≤ k ∧ k ≤ 3
    · exact .cmp (by omega) (h2 (decide_eq_true k1))
    · rw [if_neg k1] at h1
      by_cases k4 : k = 4
      · subst k4
        simp only [if_true, decide_eq_true_eq] at h1
        obtain ⟨m, rfl⟩ := Int.eq_ofNat_of_zero_le h1.2.2.1
        exact .neg (by omega)
      · rw [if_neg k4] at h1
        by_cases k5 : k = 5 ∨ k = 6
        · rw [if_pos k5, decide_eq_true_eq] at h1
          obtain ⟨m, rfl⟩ := Int.eq_ofNat_of_zero_le h1.2.2.1
          obtain ⟨q, rfl⟩ := Int.eq_ofNat_of_zero_le h1.2.2.2.2.1
          exact .bin k5 (by omega) (by omega)
        · rw [if_neg k5] at h1; cases h1
theorem getI_getD {α : Type} {l : List α} {n : Nat} (d : α) (h : n < l.length) : getI l (n : Int) = some (l.getD n d) := by
  apply getI_nat
  rw [List.getD_eq_getElem?_getD, List.getElem?_eq_getElem h]; rfl
theorem val_get {f : List Fct} {v : List Int} {s : ByteArray} (h : f.any (fun x => decide (x.1 = s)) = true) (hv : v.length = f.length) : getI v (plF f s) = some (v.getD (plF f s).toNat 0) := by
  obtain ⟨n, e, hn, _⟩ := plF_get h
  rw [e]; exact getI_getD 0 (by omega)
theorem last_of {l : List Bool} (h : l ≠ []) (hl : l.length ≤ 1000) : getI l (w64 ((l.length : Int) - 1)) = some (l.getLastD false) := by
  have hp := List.length_pos_iff.2 h
  rw [w64_in (by omega), show (l.length : Int) - 1 = ((l.length - 1 : Nat) : Int) by omega, getI_getD false (by omega)]
  congr 1
  rw [List.getLastD_eq_getLast?, List.getLast?_eq_getElem?, List.getD_eq_getElem?_getD]
theorem soL_len (f : List Fct) (v : List Int) : ∀ (c : Cnd) (l : List Bool), (c.foldl (fun l t => l ++ [tmSo f v t l]) l).length = l.length + c.length
  | [], l => by simp
  | t :: c, l => by rw [List.foldl_cons, soL_len f v c]; simp; omega
theorem tm_and (f : List Fct) (v : List Int) (a b : Nat) (s : ByteArray) (n : Int) (l : List Bool) : tmSo f v (5, ((a : Int), ((b : Int), (s, n)))) l = (l.getD a false && l.getD b false) := rfl
theorem tm_or (f : List Fct) (v : List Int) (a b : Nat) (s : ByteArray) (n : Int) (l : List Bool) : tmSo f v (6, ((a : Int), ((b : Int), (s, n)))) l = (l.getD a false || l.getD b false) := rfl
theorem setI_mid {α : Type} {a b : List α} {x y : α} {i : Nat} (h : a.length = i) : setI (a ++ x :: b) (i : Int) y = some (a ++ y :: b) := by
  subst h
  unfold setI
  simp; omega
theorem G57_so {f : List Fct} {v : List Int} {c : Cnd} (hc : condE f c = 0) (hv : v.length = f.length) (hf : f.length < LF) : G57 LF (f, (c, v)) = some (soB f v c) := by
  obtain ⟨c1, c2, c3⟩ := cond_short hc
  unfold G57
  have hm : mkC (c.length : Int) false = some (List.replicate c.length false) := by unfold mkC; rw [if_pos (by omega)]; simp
  simp only [hm, Option.bind_some]
  rw [show List.replicate c.length false = ([] : List Bool) ++ List.replicate (c.length - ([] : List Bool).length) false by simp]
  refine (iter_foldI (fun i (a : List Bool) => (i, a ++ List.replicate (c.length - a.length) false)) (fun (t : Tm) _ l => l ++ [tmSo f v t l]) (fun i a => a.length = i) c (fun a => some (a.getLastD false)) [] ?_ ?_ ?_ (by show c.length < 9223372036854775808; omega) rfl).trans ?_
  · intro i t l ht hl
    have hi := lt_of_get ht
    have hrep : List.replicate (c.length - l.length) false = false :: List.replicate (c.length - (i + 1)) false := by
      rw [hl, show c.length - i = (c.length - (i + 1)) + 1 by omega, List.replicate_succ]
    have hset : ∀ b : Bool, setI (l ++ false :: List.replicate (c.length - (i + 1)) false) (i : Int) b = some (l ++ [b] ++ List.replicate (c.length - (l ++ [b]).length) false) := fun b => by
      rw [setI_mid hl]; simp [hl]
    have hget : ∀ j : Nat, j < i → getI (l ++ false :: List.replicate (c.length - (i + 1)) false) (j : Int) = some (l.getD j false) := fun j hj => by
      rw [getI_getD false (by simp; omega)]
      congr 1
      simp [List.getD_eq_getElem?_getD, List.getElem?_append_left (show j < l.length by omega)]
    have hgi : getI (l ++ false :: List.replicate (c.length - (i + 1)) false) (i : Int) = some false := by
      apply getI_nat
      rw [List.getElem?_append_right (by omega)]
      simp [hl]
    have hkd := term_kd (c3 i t ht)
    simp only [dlt hi, cond_true, getI_nat ht, Option.bind_some, G98_cmp, hrep, succ_W (show i + 1 < 9223372036854775808 by omega)]
    cases hkd with
    | tru =>
      simp only [show cmpK 0 = false by rfl, cond_false, jl, decide_true, cond_true, hgi, Option.bind_some, hset]
      rfl
    | cmp h1 h2 =>
      rename_i k a b s n
      have hck : cmpK k = true := by unfold cmpK; exact decide_eq_true (by omega)
      simp only [hck, cond_true, G111_plF _ _ hf, Option.bind_some, val_get h2 hv, jl, hgi, hset]
      rcases h1 with rfl | rfl | rfl <;> rfl
    | neg h1 =>
      rename_i a b s n
      simp only [show cmpK 4 = false by rfl, cond_false, jl, hget a h1, Option.bind_some, hgi, hset]
      simp [tmSo, jl]
    | bin h0 h1 h2 =>
      rename_i k a b s n
      rcases h0 with rfl | rfl
      · simp only [show cmpK 5 = false by rfl, cond_false, jl, hget a h1, hget b h2, Option.bind_some, hgi, hset, tm_and]
        cases l.getD a false <;> rfl
      · simp only [show cmpK 6 = false by rfl, cond_false, jl, hget a h1, hget b h2, Option.bind_some, hgi, hset, tm_or]
        cases l.getD a false <;> rfl
  · intro i t l _ hl
    simp [hl]
  · intro a ha
    have hne : a ≠ [] := fun e => by subst e; simp at ha; omega
    have hr : a ++ List.replicate (c.length - a.length) false = a := by rw [ha]; simp
    simp only [dnlt, cond_false, hr, last_of hne (by omega), Option.bind_some]
  · unfold soB soL; rw [foldI_const]
end Go.K
namespace Go.K
open Go.Sl Go.Sx Go.Proofs
def evE (f : List Fct) (v : List Int) : Ex → Bool
  | .tr => true
  | .cp k w n => tmSo f v (k, (0, (0, (w, n)))) []
  | .nt e => !evE f v e
  | .an a b => evE f v a && evE f v b
  | .or a b => evE f v a || evE f v b
theorem soL_grow (f : List Fct) (v : List Int) : ∀ (d : Cnd) (l : List Bool), ∃ r, d.foldl (fun l t => l ++ [tmSo f v t l]) l = l ++ r
  | [], l => ⟨[], by rw [List.append_nil]; rfl⟩
  | t :: d, l => by
    obtain ⟨r, h⟩ := soL_grow f v d (l ++ [tmSo f v t l])
    exact ⟨tmSo f v t l :: r, by rw [List.foldl_cons, h, List.append_assoc]; rfl⟩
theorem soL_app (f : List Fct) (v : List Int) (c d : Cnd) : ∃ r, soL f v (c ++ d) = soL f v c ++ r := by
  unfold soL
  rw [List.foldl_append]
  exact soL_grow f v d _
theorem soL_snoc (f : List Fct) (v : List Int) (c : Cnd) (t : Tm) : soL f v (c ++ [t]) = soL f v c ++ [tmSo f v t (soL f v c)] := by
  unfold soL
  rw [List.foldl_append]; rfl
theorem soL_size (f : List Fct) (v : List Int) (c : Cnd) : (soL f v c).length = List.length c := by
  have := soL_len f v c []
  unfold soL
  rw [this]; simp
theorem getD_left {l r : List Bool} {a : Nat} (h : a < l.length) : (l ++ r).getD a false = l.getD a false := by
  rw [List.getD_eq_getElem?_getD, List.getElem?_append_left h, ← List.getD_eq_getElem?_getD]
theorem soL_pre (f : List Fct) (v : List Int) {c : Cnd} {a i : Nat} (ha : a < i) (hi : i ≤ List.length c) : (soL f v (c.take i)).getD a false = (soL f v c).getD a false := by
  obtain ⟨r, h⟩ := soL_app f v (c.take i) (c.drop i)
  rw [List.take_append_drop] at h
  rw [h, getD_left]
  rw [soL_size, List.length_take]; omega
theorem take_getT {c : Cnd} {i : Nat} (hi : i < List.length c) : c.take (i + 1) = c.take i ++ [getT c i] := by
  rw [List.take_add_one, List.getElem?_eq_getElem hi]
  unfold getT
  rw [List.getD_eq_getElem?_getD, List.getElem?_eq_getElem hi]; rfl
theorem soL_get (f : List Fct) (v : List Int) {c : Cnd} {i : Nat} (hi : i < List.length c) : (soL f v c).getD i false = tmSo f v (getT c i) (soL f v (c.take i)) := by
  rw [← soL_pre f v (show i < i + 1 by omega) (show i + 1 ≤ List.length c by omega), take_getT hi, soL_snoc]
  have hl : (soL f v (c.take i)).length = i := by rw [soL_size, List.length_take]; omega
  rw [List.getD_eq_getElem?_getD, List.getElem?_append_right (by omega), hl, Nat.sub_self]; rfl
theorem so_ex (f : List Fct) (v : List Int) {c : Cnd} (hc : Shd c) : ∀ (n i : Nat), i < n → i < List.length c → (soL f v c).getD i false = evE f v (exA c n i)
  | 0, i, h, _ => by omega
  | n + 1, i, hn, hi => by
    rw [soL_get f v hi]
    unfold tmSo
    rcases exA_cases hc hn hi with ⟨h, e⟩ | ⟨h, e⟩ | ⟨h, a, ea, ha, e⟩ | ⟨h, a, b, ea, eb, ha, hb, e⟩ | ⟨h, a, b, ea, eb, ha, hb, e⟩
    · rw [e]; simp only [if_pos h]; rfl
    · have hk := cmpK_iff h
      rw [e]
      unfold evE tmSo
      simp only
      have h0 : ¬ (getT c i).1 = 0 := by omega
      rw [if_neg h0, if_neg h0]
      by_cases h1 : (getT c i).1 = 1
      · rw [if_pos h1, if_pos h1]
      rw [if_neg h1, if_neg h1]
      by_cases h2 : (getT c i).1 = 2
      · rw [if_pos h2, if_pos h2]
      rw [if_neg h2, if_neg h2]
      have h3 : (getT c i).1 = 3 := by omega
      rw [if_pos h3, if_pos h3]
    · simp only [if_neg (show ¬ (getT c i).1 = 0 by omega), if_neg (show ¬ (getT c i).1 = 1 by omega), if_neg (show ¬ (getT c i).1 = 2 by omega), if_neg (show ¬ (getT c i).1 = 3 by omega), if_pos h, ea, Int.toNat_natCast]
      rw [e, soL_pre f v ha (by omega), so_ex f v hc n a (by omega) (by omega)]; rfl
    · simp only [if_neg (show ¬ (getT c i).1 = 0 by omega), if_neg (show ¬ (getT c i).1 = 1 by omega), if_neg (show ¬ (getT c i).1 = 2 by omega), if_neg (show ¬ (getT c i).1 = 3 by omega), if_neg (show ¬ (getT c i).1 = 4 by omega), if_pos h, ea, eb, Int.toNat_natCast]
      rw [e, soL_pre f v ha (by omega), soL_pre f v hb (by omega), so_ex f v hc n a (by omega) (by omega), so_ex f v hc n b (by omega) (by omega)]; rfl
    · simp only [if_neg (show ¬ (getT c i).1 = 0 by omega), if_neg (show ¬ (getT c i).1 = 1 by omega), if_neg (show ¬ (getT c i).1 = 2 by omega), if_neg (show ¬ (getT c i).1 = 3 by omega), if_neg (show ¬ (getT c i).1 = 4 by omega), if_neg (show ¬ (getT c i).1 = 5 by omega), ea, eb, Int.toNat_natCast]
      rw [e, soL_pre f v ha (by omega), soL_pre f v hb (by omega), so_ex f v hc n a (by omega) (by omega), so_ex f v hc n b (by omega) (by omega)]; rfl
theorem so_tree (f : List Fct) (v : List Int) {c : Cnd} (hc : Shd c) (hl : List.length c ≠ 0) (h30 : List.length c ≤ 30) : soB f v c = evE f v (treeC c) := by
  unfold soB treeC
  rw [← so_ex f v hc LF (List.length c - 1) (by show List.length c - 1 < 9223372036854775808; omega) (by omega), List.getLastD_eq_getLast?, List.getLast?_eq_getElem?, soL_size, List.getD_eq_getElem?_getD]
def fl0 (c : Cnd) : Cnd := flat (treeC c) 0
theorem fl0_so (f : List Fct) (v : List Int) {c : Cnd} (h : (printB c).2 = 0) : soB f v (fl0 c) = soB f v c := by
  obtain ⟨h1, h2, h3, h4, h5, h6, h7⟩ := printB_ex h
  have hp := sz_pos (treeC c)
  have hl : List.length (fl0 c) = sz (treeC c) := flatE_len _ _
  have hs : Shd (fl0 c) := Shd_of (flat_scan h5)
  rw [so_tree f v h1 h2 h3, so_tree f v hs (by omega) (by omega)]
  unfold fl0
  rw [tree_flat h5 h7]
theorem fl0_print {c : Cnd} (h : (printB c).2 = 0) : printB (fl0 c) = printB c := by
  obtain ⟨h1, h2, h3, h4, h5, h6, h7⟩ := printB_ex h
  unfold fl0
  rw [printB_tree h5 h6 h7, ← h4, ← h]
def LfE : Ex → Int → ByteArray → Int → Prop
  | .tr, _, _, _ => False
  | .cp k w n, a, b, c => k = a ∧ w = b ∧ n = c
  | .nt e, a, b, c => LfE e a b c
  | .an x y, a, b, c => LfE x a b c ∨ LfE y a b c
  | .or x y, a, b, c => LfE x a b c ∨ LfE y a b c
theorem leaf_flat : ∀ (e : Ex) (b : Nat) (t : Tm), t ∈ flat e b → cmpK t.1 = true → LfE e t.1 t.2.2.2.1 t.2.2.2.2
  | .tr, b, t, h, hk => by
    rcases List.mem_singleton.1 h with rfl
    cases hk
  | .cp k w n, b, t, h, hk => by
    rcases List.mem_singleton.1 h with rfl
    exact ⟨rfl, rfl, rfl⟩
  | .nt e, b, t, h, hk => by
    rcases List.mem_append.1 h with h | h
    · exact leaf_flat e b t h hk
    · rcases List.mem_singleton.1 h with rfl
      cases hk
  | .an x y, b, t, h, hk => by
    rcases List.mem_append.1 h with h | h
    · rcases List.mem_append.1 h with h | h
      · exact .inl (leaf_flat x b t h hk)
      · exact .inr (leaf_flat y _ t h hk)
    · rcases List.mem_singleton.1 h with rfl
      cases hk
  | .or x y, b, t, h, hk => by
    rcases List.mem_append.1 h with h | h
    · rcases List.mem_append.1 h with h | h
      · exact .inl (leaf_flat x b t h hk)
      · exact .inr (leaf_flat y _ t h hk)
    · rcases List.mem_singleton.1 h with rfl
      cases hk
theorem getT_mem {c : Cnd} {i : Nat} (hi : i < List.length c) : getT c i ∈ c := by
  unfold getT
  rw [List.getD_eq_getElem?_getD, List.getElem?_eq_getElem hi]
  exact List.getElem_mem hi
theorem leaf_ex {c : Cnd} (hc : Shd c) {k m : Int} {w : ByteArray} : ∀ (n i : Nat), i < n → i < List.length c → LfE (exA c n i) k w m → ∃ u ∈ c, u.1 = k ∧ u.2.2.2.1 = w ∧ u.2.2.2.2 = m
  | 0, i, h, _, _ => by omega
  | n + 1, i, hn, hi, hL => by
    rcases exA_cases hc hn hi with ⟨h, e⟩ | ⟨h, e⟩ | ⟨h, a, ea, ha, e⟩ | ⟨h, a, b, ea, eb, ha, hb, e⟩ | ⟨h, a, b, ea, eb, ha, hb, e⟩
    · rw [e] at hL; exact hL.elim
    · rw [e] at hL; exact ⟨_, getT_mem hi, hL⟩
    · rw [e] at hL; exact leaf_ex hc n a (by omega) (by omega) hL
    · rw [e] at hL
      rcases hL with hL | hL
      · exact leaf_ex hc n a (by omega) (by omega) hL
      · exact leaf_ex hc n b (by omega) (by omega) hL
    · rw [e] at hL
      rcases hL with hL | hL
      · exact leaf_ex hc n a (by omega) (by omega) hL
      · exact leaf_ex hc n b (by omega) (by omega) hL
theorem fl0_leaf {c : Cnd} (h : (printB c).2 = 0) {t : Tm} (ht : t ∈ fl0 c) (hk : cmpK t.1 = true) : ∃ u ∈ c, u.1 = t.1 ∧ u.2.2.2.1 = t.2.2.2.1 ∧ u.2.2.2.2 = t.2.2.2.2 := by
  obtain ⟨h1, h2, h3, h4, h5, h6, h7⟩ := printB_ex h
  exact leaf_ex h1 LF (List.length c - 1) (by show List.length c - 1 < 9223372036854775808; omega) (by omega) (leaf_flat _ 0 t ht hk)
theorem condS_nz {f : List Fct} : ∀ (l : Cnd) (k : Nat) (y : Int), scan (condS f) l k = some y → y ≠ 0
  | [], k, y, h => by cases h
  | t :: l, k, y, h => by
    unfold scan at h
    cases hp : condS f t k with
    | none => rw [hp] at h; exact condS_nz l _ y h
    | some z =>
      rw [hp] at h
      cases h
      unfold condS at hp
      cases hb : (!shp t (k : Int)) with
      | true => rw [hb] at hp; cases hp; decide
      | false =>
        rw [hb] at hp
        cases hq : (cmpK t.1 && !f.any (fun x => decide (x.1 = t.2.2.2.1))) with
        | true => rw [hq] at hp; cases hp; decide
        | false => rw [hq] at hp; cases hp
theorem condE_scan {f : List Fct} {c : Cnd} (h : condE f c = 0) : scan (condS f) c 0 = none := by
  unfold condE at h
  split at h
  · cases h
  split at h
  · cases h
  cases hs : scan (condS f) c 0 with
  | none => rfl
  | some y => rw [hs] at h; exact absurd h (condS_nz c 0 y hs)
theorem condE_names {f : List Fct} {c : Cnd} (h : condE f c = 0) {u : Tm} (hu : u ∈ c) (hk : cmpK u.1 = true) : f.any (fun x => decide (x.1 = u.2.2.2.1)) = true := by
  obtain ⟨i, hi⟩ := List.getElem?_of_mem hu
  have := scan_noneW _ c 0 (condE_scan h) i u hi
  unfold condS at this
  cases hb : (!shp u ((0 + i : Nat) : Int)) with
  | true => rw [hb] at this; cases this
  | false =>
    rw [hb, hk] at this
    cases ha : f.any (fun x => decide (x.1 = u.2.2.2.1)) with
    | true => rfl
    | false => rw [ha] at this; cases this
theorem fl0_cond {f : List Fct} {c : Cnd} (hf : condE f c = 0) (h : (printB c).2 = 0) : condE f (fl0 c) = 0 := by
  obtain ⟨h1, h2, h3, h4, h5, h6, h7⟩ := printB_ex h
  have hp := sz_pos (treeC c)
  have hl : List.length (fl0 c) = sz (treeC c) := flatE_len _ _
  unfold condE
  rw [if_neg (by omega), if_neg (fun e => by rw [e] at hl; simp at hl; omega)]
  have : scan (condS f) (fl0 c) 0 = none := by
    refine scan_allW _ _ _ fun i x hx => ?_
    have hg : shp x ((0 + i : Nat) : Int) = true := (Gd_flat (treeC c) 0 h5 i x hx).1
    unfold condS
    rw [hg]
    cases hk : cmpK x.1 with
    | false => rfl
    | true =>
      obtain ⟨u, u1, u2, u3, u4⟩ := fl0_leaf h (List.mem_of_getElem? hx) hk
      have := condE_names hf u1 (by rw [u2]; exact hk)
      rw [u3] at this
      rw [this]; rfl
  rw [this]; rfl
theorem parts_eq {t u : Tm} (h1 : u.1 = t.1) (h2 : u.2.2.2.2 = t.2.2.2.2) : partsL u = partsL t := by
  unfold partsL; rw [h1, h2]
theorem parts_no {t : Tm} (h : cmpK t.1 = false) : partsL t = [] := by
  have : ¬ (1 ≤ t.1 ∧ t.1 ≤ 3) := of_decide_eq_false h
  unfold partsL
  rw [if_neg (by omega), if_neg (by omega), if_neg (by omega)]
theorem fl0_cut {c : Cnd} (h : (printB c).2 = 0) (x : Fct) {n : Int} (hn : n ∈ (fl0 c).flatMap (cutT x)) : n ∈ c.flatMap (cutT x) := by
  obtain ⟨t, ht, hm⟩ := List.mem_flatMap.1 hn
  cases hk : cmpK t.1 with
  | false =>
    unfold cutT at hm
    rw [parts_no hk] at hm
    cases hd : decide (t.2.2.2.1 = x.1) with
    | true => rw [hd] at hm; cases hm
    | false => rw [hd] at hm; cases hm
  | true =>
    obtain ⟨u, u1, u2, u3, u4⟩ := fl0_leaf h ht hk
    refine List.mem_flatMap.2 ⟨u, u1, ?_⟩
    unfold cutT at hm ⊢
    rw [u3, parts_eq u2 u4]; exact hm
end Go.K
namespace Go.K
open Go.Sl Go.Sx Go.Proofs
theorem hasR_mem {l : List Rl} {s : ByteArray} (h : hasR l s = true) : ∃ r ∈ l, r.1 = s := by
  unfold hasR at h
  obtain ⟨r, h1, h2⟩ := List.any_eq_true.1 h
  exact ⟨r, h1, of_decide_eq_true h2⟩
theorem factS_none {f : List Fct} {x : Fct} {i : Nat} (h : factS f x i = none) : nmB x.1 = true ∧ -1000000000000 ≤ x.2.1 ∧ x.2.1 ≤ x.2.2 ∧ x.2.2 ≤ 1000000000000 := by
  unfold factS at h
  cases hb : (!nmB x.1 || (f.take i).any (fun y => decide (y.1 = x.1))) with
  | true => rw [hb] at h; cases h
  | false =>
    rw [hb] at h
    cases hs : spanB x with
    | false => rw [hs] at h; cases h
    | true =>
      have := of_decide_eq_true hs
      refine ⟨?_, this⟩
      cases hn : nmB x.1 with
      | true => rfl
      | false => rw [hn] at hb; cases hb
theorem ruleE_zero {f : List Fct} {l : List Rl} {i : Nat} {r : Rl} (h : ruleE f l i r = 0) : nmB r.1 = true ∧ 0 ≤ r.2.1 ∧ r.2.1 ≤ r.2.2.1 ∧ r.2.2.1 ≤ 100000 ∧ r.2.2.2.2.2.length ≤ 6 ∧ ∀ (k : Nat) (u : ByteArray), r.2.2.2.2.2[k]? = some u → hasR (l.take i) u = true := by
  unfold ruleE at h
  cases hb : (!nmB r.1 || hasR (l.take i) r.1) with
  | true => rw [hb] at h; cases h
  | false =>
    rw [hb] at h
    simp only [cond_false] at h
    have hn : nmB r.1 = true := by
      cases hn : nmB r.1 with
      | true => rfl
      | false => rw [hn] at hb; cases hb
    split at h
    · cases h
    split at h
    · omega
    split at h
    · omega
    split at h
    · cases h
    rename_i g1 g2 g3 g4
    refine ⟨hn, by omega, by omega, by omega, by omega, fun k u hu => ?_⟩
    have hs : scan (unlS (l.take i) r.2.2.2.2.2) r.2.2.2.2.2 0 = none := by
      cases hs : scan (unlS (l.take i) r.2.2.2.2.2) r.2.2.2.2.2 0 with
      | none => rfl
      | some e =>
        rw [hs] at h
        have he : ∀ (m : List ByteArray) (j : Nat), scan (unlS (l.take i) r.2.2.2.2.2) m j = some e → e = 42 := by
          intro m
          induction m with
          | nil => intro j hj; cases hj
          | cons a m ih =>
            intro j hj
            unfold scan at hj
            cases ha : unlS (l.take i) r.2.2.2.2.2 a j with
            | none => rw [ha] at hj; exact ih _ hj
            | some z =>
              rw [ha] at hj
              cases hj
              unfold unlS at ha
              cases hc : (!hasR (l.take i) a || (r.2.2.2.2.2.take j).any fun x => decide (x = a)) with
              | true => rw [hc] at ha; cases ha; rfl
              | false => rw [hc] at ha; cases ha
        have := he _ _ hs
        subst this
        cases h
    have := scan_noneW _ _ 0 hs k u hu
    unfold unlS at this
    cases hh : hasR (l.take i) u with
    | true => rfl
    | false => rw [hh] at this; cases this
theorem codeE_ok {c : Cd} (h : codeE c = 0) : nmB c.1 = true ∧ c.2.1.length ≤ 6 ∧ c.2.2.length ≤ 12 ∧
    (∀ (i : Nat) (x : Fct), c.2.1[i]? = some x → nmB x.1 = true ∧ -1000000000000 ≤ x.2.1 ∧ x.2.1 ≤ x.2.2 ∧ x.2.2 ≤ 1000000000000) ∧
    (∀ (i : Nat) (r : Rl), c.2.2[i]? = some r → nmB r.1 = true ∧ 0 ≤ r.2.1 ∧ r.2.1 ≤ r.2.2.1 ∧ r.2.2.1 ≤ 100000 ∧ r.2.2.2.2.2.length ≤ 6 ∧ ∀ (k : Nat) (u : ByteArray), r.2.2.2.2.2[k]? = some u → nmB u = true) := by
  unfold codeE at h
  cases hn : nmB c.1 with
  | false => rw [hn] at h; cases h
  | true =>
    rw [hn] at h
    simp only [Bool.not_true, cond_false] at h
    split at h
    · cases h
    split at h
    · cases h
    rename_i g1 g2
    cases hf : scan (factS c.2.1) c.2.1 0 with
    | some e =>
      rw [hf] at h
      simp only at h
      subst h
      have he : ∀ (m : List Fct) (j : Nat), scan (factS c.2.1) m j = some 0 → False := by
        intro m
        induction m with
        | nil => intro j hj; cases hj
        | cons a m ih =>
          intro j hj
          unfold scan at hj
          cases ha : factS c.2.1 a j with
          | none => rw [ha] at hj; exact ih _ hj
          | some z =>
            rw [ha] at hj
            cases hj
            unfold factS at ha
            cases hc : (!nmB a.1 || (c.2.1.take j).any (fun y => decide (y.1 = a.1))) with
            | true => rw [hc] at ha; cases ha
            | false =>
              rw [hc] at ha
              cases hs : spanB a with
              | true => rw [hs] at ha; cases ha
              | false => rw [hs] at ha; cases ha
      exact (he _ _ hf).elim
    | none =>
      rw [hf] at h
      simp only at h
      cases hr : scan (ruleS c.2.1 c.2.2) c.2.2 0 with
      | some e =>
        rw [hr] at h
        simp only at h
        subst h
        have he : ∀ (m : List Rl) (j : Nat), scan (ruleS c.2.1 c.2.2) m j = some 0 → False := by
          intro m
          induction m with
          | nil => intro j hj; cases hj
          | cons a m ih =>
            intro j hj
            unfold scan at hj
            cases ha : ruleS c.2.1 c.2.2 a j with
            | none => rw [ha] at hj; exact ih _ hj
            | some z =>
              rw [ha] at hj
              cases hj
              unfold ruleS at ha
              split at ha
              · rename_i hz
                exact hz (Option.some.inj ha)
              · cases ha
        exact (he _ _ hr).elim
      | none =>
        have hrule : ∀ (i : Nat) (r : Rl), c.2.2[i]? = some r → ruleE c.2.1 c.2.2 i r = 0 := by
          intro i r hi
          have := scan_noneW _ _ 0 hr i r hi
          rw [Nat.zero_add] at this
          unfold ruleS at this
          split at this
          · cases this
          · rename_i hz; simpa using hz
        refine ⟨rfl, by omega, by omega, fun i x hx => ?_, fun i r hi => ?_⟩
        · exact factS_none (scan_noneW _ _ 0 hf i x hx)
        · obtain ⟨r1, r2, r3, r4, r5, r6⟩ := ruleE_zero (hrule i r hi)
          refine ⟨r1, r2, r3, r4, r5, fun k u hu => ?_⟩
          obtain ⟨q, q1, q2⟩ := hasR_mem (r6 k u hu)
          obtain ⟨j, hj⟩ := List.getElem?_of_mem (List.mem_of_mem_take q1)
          have := (ruleE_zero (hrule j q hj)).1
          rwa [q2] at this
end Go.K
namespace Go.K
open Go.Sl Go.Sx Go.Proofs
structure VC (c : Cd) : Prop where
  fn : c.2.1 ≠ []
  fl : c.2.1.length ≤ 6
  ll : c.2.2.length ≤ 12
  fs : scan (factS c.2.1) c.2.1 0 = none
  rs : scan (ruleS c.2.1 c.2.2) c.2.2 0 = none
  mn : manyL (startsL c.2.1 (condsL c.2.2)) ≤ 4000
theorem VC.of {c : Cd} (h : codeE c = 0) : VC c := by
  unfold codeE at h
  cases h0 : nmB c.1 with
  | false => rw [h0] at h; cases h
  | true =>
    rw [h0] at h
    simp only [Bool.not_true, cond_false] at h
    split at h
    · cases h
    · rename_i h1
      split at h
      · cases h
      · rename_i h2
        have key : ∀ (e : Int) (l : List Fct) (i : Nat), scan (factS c.2.1) l i = some e → e ≠ 0 := by
          intro e l
          induction l with
          | nil => intro i hh; cases hh
          | cons x l ih =>
            intro i hh
            simp only [scan] at hh
            cases hf : factS c.2.1 x i with
            | none => rw [hf] at hh; exact ih _ hh
            | some e' =>
              rw [hf] at hh
              cases hh
              unfold factS at hf
              intro he
              subst he
              revert hf
              cases (!nmB x.1 || (c.2.1.take i).any fun y => decide (y.1 = x.1)) with
              | true => simp
              | false => cases spanB x <;> simp
        have key2 : ∀ (e : Int) (l : List Rl) (i : Nat), scan (ruleS c.2.1 c.2.2) l i = some e → e ≠ 0 := by
          intro e l
          induction l with
          | nil => intro i hh; cases hh
          | cons x l ih =>
            intro i hh
            simp only [scan] at hh
            cases hf : ruleS c.2.1 c.2.2 x i with
            | none => rw [hf] at hh; exact ih _ hh
            | some e' =>
              rw [hf] at hh
              cases hh
              unfold ruleS at hf
              split at hf
              · rename_i hz; cases hf; exact hz
              · cases hf
        split at h
        · rename_i e he; exact absurd h (key _ _ _ he)
        · rename_i he
          split at h
          · rename_i e he2; exact absurd h (key2 _ _ _ he2)
          · rename_i he2
            split at h
            · cases h
            · rename_i hm
              exact ⟨h1, by omega, by omega, he, he2, by omega⟩
theorem VC.rule {c : Cd} (h : VC c) {i : Nat} {r : Rl} (hr : c.2.2[i]? = some r) : nmB r.1 = true ∧ hasR (c.2.2.take i) r.1 = false ∧ (0 ≤ r.2.1 ∧ r.2.1 ≤ r.2.2.1 ∧ r.2.2.1 ≤ 100000) ∧ condE c.2.1 r.2.2.2.1 = 0 ∧ condE c.2.1 r.2.2.2.2.1 = 0 ∧ r.2.2.2.2.2.length ≤ 6 ∧ (scan (unlS (c.2.2.take i) r.2.2.2.2.2) r.2.2.2.2.2 0).getD 0 = 0 := rule_ok (rules_ok h.rs hr)
theorem VC.fl' {c : Cd} (h : VC c) : c.2.1.length < LF := by show c.2.1.length < 9223372036854775808; have := h.fl; omega
theorem VC.ll' {c : Cd} (h : VC c) : c.2.2.length < LF := by show c.2.2.length < 9223372036854775808; have := h.ll; omega
end Go.K
namespace Go.K
open Go.Sl Go.Sx Go.Proofs
def prodL (l : List (List Int)) : Nat := l.foldr (fun x n => x.length * n) 1
theorem choL_len : ∀ l : List (List Int), (choL l).length = prodL l
  | [] => rfl
  | x :: l => by
    have ih := choL_len l
    show (x.flatMap fun n => (choL l).map (n :: ·)).length = x.length * prodL l
    rw [← ih]
    induction x with
    | nil => simp
    | cons a x ihx => rw [List.flatMap_cons, List.length_append, ihx, List.length_map, List.length_cons, Nat.add_mul]; omega
theorem prod_pos : ∀ {l : List (List Int)}, (∀ x ∈ l, x ≠ []) → 1 ≤ prodL l
  | [], _ => Nat.le_refl _
  | x :: l, h => Nat.mul_pos (List.length_pos_iff.2 (h x (List.mem_cons_self ..))) (prod_pos fun y hy => h y (List.mem_cons_of_mem _ hy))
theorem many_prod : ∀ (l : List (List Int)) (n : Nat), (∀ x ∈ l, x ≠ [] ∧ x.length ≤ 1000000) → 1 ≤ n → n ≤ 4001 →
    l.foldl (fun (n : Int) x => if (4001 : Int) < w64 (n * (x.length : Int)) then 4001 else w64 (n * (x.length : Int))) (n : Int) ≤ 4000 → n * prodL l ≤ 4000
  | [], n, _, _, h2, h => by
    simp only [List.foldl_nil] at h
    simp [prodL]; omega
  | x :: l, n, hl, h1, h2, h => by
    obtain ⟨hx0, hx1⟩ := hl x (List.mem_cons_self ..)
    have hxp := List.length_pos_iff.2 hx0
    have hb : n * x.length ≤ 4001 * 1000000 := Nat.mul_le_mul h2 hx1
    have hp : n ≤ n * x.length := Nat.le_mul_of_pos_right _ hxp
    have he : w64 ((n : Int) * (x.length : Int)) = ((n * x.length : Nat) : Int) := by
      rw [← Int.natCast_mul, w64_in (by omega)]
    rw [List.foldl_cons, he] at h
    have hprod := prod_pos (l := l) fun y hy => (hl y (List.mem_cons_of_mem _ hy)).1
    by_cases hc : 4001 < n * x.length
    · rw [if_pos (by omega)] at h
      have := many_prod l 4001 (fun y hy => hl y (List.mem_cons_of_mem _ hy)) (by omega) (by omega) h
      have : 4001 * 1 ≤ 4001 * prodL l := Nat.mul_le_mul (Nat.le_refl _) hprod
      omega
    · rw [if_neg (by omega)] at h
      have := many_prod l (n * x.length) (fun y hy => hl y (List.mem_cons_of_mem _ hy)) (by omega) (by omega) h
      show n * (x.length * prodL l) ≤ 4000
      rw [← Nat.mul_assoc]; exact this
theorem rise_le : ∀ {l m : List Int}, Rise l → Rise m → (∀ x ∈ l, x ∈ m) → l.length ≤ m.length
  | [], _, _, _, _ => by simp
  | a :: l, [], _, _, h => absurd (h a (List.mem_cons_self ..)) (by simp)
  | a :: l, b :: m, hl, hm, h => by
    obtain ⟨l1, l2⟩ := List.pairwise_cons.1 hl
    obtain ⟨m1, m2⟩ := List.pairwise_cons.1 hm
    by_cases e : a = b
    · subst e
      have := rise_le l2 m2 fun x hx => by
        rcases List.mem_cons.1 (h x (List.mem_cons_of_mem _ hx)) with e | e
        · subst e; exact absurd (l1 x hx) (Int.lt_irrefl _)
        · exact e
      simp only [List.length_cons]; omega
    · have ha : a ∈ m := by
        rcases List.mem_cons.1 (h a (List.mem_cons_self ..)) with e' | e'
        · exact absurd e' e
        · exact e'
      have hb := m1 a ha
      have := rise_le hl m2 fun x hx => by
        rcases List.mem_cons.1 (h x hx) with e' | e'
        · rcases List.mem_cons.1 hx with e2 | e2
          · subst e2; exact ha
          · have := l1 x e2; omega
        · exact e'
      simp only [List.length_cons] at this ⊢; omega
theorem cuts_mem (cs : List Cnd) (x : Fct) : Rise (cutsOf cs x) ∧ ∀ n, n ∈ cutsOf cs x ↔ n = x.2.1 ∨ n ∈ cutN x cs := by
  obtain ⟨h1, h2⟩ := sc_rise (x.2.1 :: cutN x cs)
  exact ⟨h1, fun n => by rw [show cutsOf cs x = compL (sortL (x.2.1 :: cutN x cs)) from rfl, h2, List.mem_cons]⟩
theorem cuts_ne (cs : List Cnd) (x : Fct) : cutsOf cs x ≠ [] := fun e => by
  have := (cuts_mem cs x).2 x.2.1
  rw [e] at this
  simp at this
theorem cutN_mem {x : Fct} {cs : List Cnd} {n : Int} : n ∈ cutN x cs ↔ (∃ c ∈ cs, ∃ t ∈ c, t.2.2.2.1 = x.1 ∧ n ∈ partsL t) ∧ x.2.1 < n ∧ n ≤ x.2.2 := by
  unfold cutN cutT
  simp only [List.mem_flatMap]
  constructor
  · rintro ⟨c, hc, t, ht, hn⟩
    cases hd : decide (t.2.2.2.1 = x.1) with
    | false => rw [hd] at hn; simp at hn
    | true =>
      rw [hd] at hn
      simp only [cond_true, List.mem_filter] at hn
      obtain ⟨h1, h2⟩ := hn
      unfold inS at h2
      simp only [Bool.and_eq_true, decide_eq_true_eq] at h2
      exact ⟨⟨c, hc, t, ht, of_decide_eq_true hd, h1⟩, h2.1, h2.2⟩
  · rintro ⟨⟨c, hc, t, ht, e, h1⟩, h2, h3⟩
    refine ⟨c, hc, t, ht, ?_⟩
    rw [decide_eq_true e]
    simp only [cond_true, List.mem_filter]
    exact ⟨h1, by unfold inS; simp [h2, h3]⟩
theorem cutN_len (x : Fct) (cs : List Cnd) (hc : cs.length ≤ 100) (ht : ∀ c ∈ cs, List.length c ≤ 1000) : (cutN x cs).length ≤ 200000 := by
  have := flat_len (fun c : Cnd => c.flatMap (cutT x)) 2000 cs (fun c hc => by
    have h1 := flat_len (cutT x) 2 c (fun t _ => cutT_len x t)
    have h2 := ht c hc
    omega)
  unfold cutN; omega
theorem compact_le (xs : List Int) : (compL xs).length ≤ xs.length := by
  unfold compL Lib.compact Lib.compactUpTo
  rw [List.length_map]
  exact Nat.le_trans (List.length_filter_le _ _) (by simp)
theorem cuts_len (x : Fct) (cs : List Cnd) (hc : cs.length ≤ 100) (ht : ∀ c ∈ cs, List.length c ≤ 1000) : (cutsOf cs x).length ≤ 200001 := by
  have h1 := compact_le (sortL (x.2.1 :: cutN x cs))
  have h2 := sortL_len (x.2.1 :: cutN x cs)
  have h3 := cutN_len x cs hc ht
  unfold cutsOf
  simp only [List.length_cons] at h2
  omega
theorem cuts_le {cs : List Cnd} {x y : Fct} (h : fitB x y = true) : (cutsOf cs y).length ≤ (cutsOf cs x).length := by
  unfold fitB at h
  simp only [Bool.and_eq_true, decide_eq_true_eq] at h
  obtain ⟨e, h1, h2, h3⟩ := h
  obtain ⟨r1, m1⟩ := cuts_mem cs y
  obtain ⟨r2, m2⟩ := cuts_mem cs x
  -- without the least one
  have tl : ∀ {z : Fct}, ∃ t, cutsOf cs z = z.2.1 :: t ∧ ∀ n, n ∈ t ↔ n ∈ cutN z cs := by
    intro z
    obtain ⟨r, m⟩ := cuts_mem cs z
    cases hz : cutsOf cs z with
    | nil => exact absurd hz (cuts_ne cs z)
    | cons a t =>
      rw [hz] at r m
      obtain ⟨p1, p2⟩ := List.pairwise_cons.1 r
      have hlo : ∀ n, n ∈ cutN z cs → z.2.1 < n := fun n hn => (cutN_mem.1 hn).2.1
      have ha : a = z.2.1 := by
        rcases (m a).1 (List.mem_cons_self ..) with e | e
        · exact e
        · have h1 := hlo a e
          rcases List.mem_cons.1 ((m z.2.1).2 (.inl rfl)) with e' | e'
          · exact e'.symm
          · have := p1 _ e'; omega
      subst ha
      refine ⟨t, rfl, fun n => ⟨fun hn => ?_, fun hn => ?_⟩⟩
      · rcases (m n).1 (List.mem_cons_of_mem _ hn) with e | e
        · subst e; exact absurd (p1 _ hn) (Int.lt_irrefl _)
        · exact e
      · rcases List.mem_cons.1 ((m n).2 (.inr hn)) with e | e
        · subst e; exact absurd (hlo _ hn) (Int.lt_irrefl _)
        · exact e
  obtain ⟨t1, e1, n1⟩ := tl (z := y)
  obtain ⟨t2, e2, n2⟩ := tl (z := x)
  rw [e1] at r1
  rw [e2] at r2
  rw [e1, e2]
  have := rise_le (List.pairwise_cons.1 r1).2 (List.pairwise_cons.1 r2).2 fun n hn => by
    rw [n2, cutN_mem]
    obtain ⟨⟨c, hc, t, ht, e', hp⟩, h4, h5⟩ := cutN_mem.1 ((n1 n).1 hn)
    exact ⟨⟨c, hc, t, ht, by rw [e', e], hp⟩, by omega, by omega⟩
  simp only [List.length_cons]; omega
theorem fit_iff {f g : List Fct} (h : fitS f g = true) : f.length = g.length ∧ ∀ (i : Nat) (x y : Fct), f[i]? = some x → g[i]? = some y → fitB x y = true := by
  unfold fitS at h
  simp only [Bool.and_eq_true, decide_eq_true_eq, List.all_eq_true] at h
  refine ⟨h.1, fun i x y hx hy => h.2 (x, y) (List.mem_of_getElem? (i := i) ?_)⟩
  rw [List.getElem?_zip_eq_some]
  exact ⟨hx, hy⟩
theorem prod_le : ∀ {l m : List (List Int)}, l.length = m.length → (∀ (i : Nat) (x y : List Int), l[i]? = some x → m[i]? = some y → x.length ≤ y.length) → prodL l ≤ prodL m
  | [], [], _, _ => Nat.le_refl _
  | x :: l, y :: m, h, hh => Nat.mul_le_mul (hh 0 x y rfl rfl) (prod_le (by simpa using h) fun i a b ha hb => hh (i + 1) a b (by simpa using ha) (by simpa using hb))
  | [], _ :: _, h, _ => by simp at h
  | _ :: _, [], h, _ => by simp at h
theorem VC.cl {c : Cd} (h : VC c) : (condsL c.2.2).length ≤ 100 := by rw [conds_len]; have := h.ll; omega
theorem VC.cs {c : Cd} (h : VC c) : ∀ x ∈ condsL c.2.2, List.length x ≤ 1000 := conds_short h.rs
theorem starts_ne (f : List Fct) (cs : List Cnd) : ∀ x ∈ startsL f cs, x ≠ [] := by
  intro x hx
  unfold startsL at hx
  obtain ⟨y, _, rfl⟩ := List.mem_map.1 hx
  exact cuts_ne cs y
theorem starts_get {f : List Fct} {cs : List Cnd} {i : Nat} {x : List Int} (h : (startsL f cs)[i]? = some x) : ∃ y, f[i]? = some y ∧ x = cutsOf cs y := by
  unfold startsL at h
  rw [List.getElem?_map] at h
  cases hf : f[i]? with
  | none => rw [hf] at h; cases h
  | some y => rw [hf] at h; cases h; exact ⟨y, rfl, rfl⟩
theorem VC.prod {c : Cd} (h : VC c) : prodL (startsL c.2.1 (condsL c.2.2)) ≤ 4000 := by
  have := many_prod (startsL c.2.1 (condsL c.2.2)) 1 (fun x hx => ⟨starts_ne _ _ x hx, by
    unfold startsL at hx
    obtain ⟨y, _, rfl⟩ := List.mem_map.1 hx
    have := cuts_len y (condsL c.2.2) h.cl h.cs
    omega⟩) (by omega) (by omega) h.mn
  omega
structure VF (c : Cd) (f : List Fct) : Prop where
  ln : f.length = c.2.1.length
  cs : (choL (startsL f (condsL c.2.2))).length ≤ 4000
  fit : ∀ (i : Nat) (x y : Fct), c.2.1[i]? = some x → f[i]? = some y → fitB x y = true
theorem VF.of {c : Cd} (h : VC c) {f : List Fct} (hf : fitS c.2.1 f = true) : VF c f := by
  obtain ⟨h1, h2⟩ := fit_iff hf
  refine ⟨h1.symm, ?_, h2⟩
  rw [choL_len]
  refine Nat.le_trans (prod_le (m := startsL c.2.1 (condsL c.2.2)) (by simp [startsL, h1]) fun i x y hx hy => ?_) h.prod
  obtain ⟨u, hu, rfl⟩ := starts_get hx
  obtain ⟨w, hw, rfl⟩ := starts_get hy
  exact cuts_le (h2 i w u hw hu)
theorem VC.fact {c : Cd} (h : VC c) {i : Nat} {x : Fct} (hx : c.2.1[i]? = some x) : nmB x.1 = true ∧ (c.2.1.take i).any (fun y => decide (y.1 = x.1)) = false ∧ -1000000000000 ≤ x.2.1 ∧ x.2.1 ≤ x.2.2 ∧ x.2.2 ≤ 1000000000000 := by
  have := scan_none h.fs i x hx
  rw [Nat.zero_add] at this
  unfold factS at this
  cases h1 : !nmB x.1 || (c.2.1.take i).any fun y => decide (y.1 = x.1) with
  | true => rw [h1] at this; cases this
  | false =>
    rw [h1] at this
    simp only [Bool.or_eq_false_iff, Bool.not_eq_false'] at h1
    cases h2 : spanB x with
    | false => rw [h2] at this; cases this
    | true => unfold spanB at h2; exact ⟨h1.1, h1.2, of_decide_eq_true h2⟩
theorem cho_len : ∀ {l : List (List Int)} {v : List Int}, v ∈ choL l → v.length = l.length
  | [], v, h => by simp [choL] at h; subst h; rfl
  | x :: l, v, h => by
    simp only [choL, List.mem_flatMap, List.mem_map] at h
    obtain ⟨n, _, u, hu, rfl⟩ := h
    simp [cho_len hu]
end Go.K
namespace Go.K
open Go.Sl Go.Sx Go.Proofs
def rrR (r : Rl) : Rl := (r.1, (r.2.1, (r.2.2.1, (fl0 r.2.2.2.1, (fl0 r.2.2.2.2.1, r.2.2.2.2.2)))))
def rrC (c : Cd) : Cd := (c.1, (c.2.1, c.2.2.map rrR))
def PrR (r : Rl) : Prop := (printB r.2.2.2.1).2 = 0 ∧ (printB r.2.2.2.2.1).2 = 0
theorem hasR_rr (l : List Rl) (s : ByteArray) : hasR (l.map rrR) s = hasR l s := by
  unfold hasR; rw [List.any_map]; rfl
theorem unlS_rr (l : List Rl) (i : Nat) (u : List ByteArray) : unlS ((l.map rrR).take i) u = unlS (l.take i) u := by
  funext s k
  unfold unlS
  rw [← List.map_take, hasR_rr]
theorem ruleE_rr {f : List Fct} {l : List Rl} {i : Nat} {r : Rl} (h : ruleE f l i r = 0) (hp : PrR r) : ruleE f (l.map rrR) i (rrR r) = 0 := by
  obtain ⟨h1, h2, h3, h4, h5, h6, h7⟩ := rule_ok h
  have e4 : condE f (rrR r).2.2.2.1 = 0 := fl0_cond h4 hp.1
  have e5 : condE f (rrR r).2.2.2.2.1 = 0 := fl0_cond h5 hp.2
  have e1 : nmB (rrR r).1 = true := h1
  have e2 : hasR ((l.map rrR).take i) (rrR r).1 = false := by rw [← List.map_take, hasR_rr]; exact h2
  have e3 : ¬ ((rrR r).2.1 < 0 ∨ (rrR r).2.1 > (rrR r).2.2.1 ∨ (rrR r).2.2.1 > 100000) := by
    show ¬ (r.2.1 < 0 ∨ r.2.1 > r.2.2.1 ∨ r.2.2.1 > 100000)
    omega
  have e6 : ¬ 6 < (rrR r).2.2.2.2.2.length := by
    show ¬ 6 < r.2.2.2.2.2.length
    omega
  unfold ruleE
  rw [e1, e2, if_neg e3, e4, e5, if_neg e6, unlS_rr]
  simp only [Bool.not_true, Bool.or_self, cond_false, ne_eq, not_true, if_false]
  exact h7
theorem rules_rr {f : List Fct} {l : List Rl} (h : scan (ruleS f l) l 0 = none) (hp : ∀ r ∈ l, PrR r) : scan (ruleS f (l.map rrR)) (l.map rrR) 0 = none := by
  refine scan_allW _ _ _ fun i x hx => ?_
  rw [List.getElem?_map] at hx
  cases hr : l[i]? with
  | none => rw [hr] at hx; cases hx
  | some r =>
    rw [hr] at hx
    cases hx
    have := ruleE_rr (rules_ok h hr) (hp r (List.mem_of_getElem? hr))
    unfold ruleS
    rw [Nat.zero_add, if_neg (fun k => k this)]
theorem many_of_prod : ∀ (l : List (List Int)) (n : Nat), (∀ x ∈ l, x ≠ []) → n * prodL l ≤ 4000 →
    l.foldl (fun (n : Int) x => if (4001 : Int) < w64 (n * (x.length : Int)) then 4001 else w64 (n * (x.length : Int))) (n : Int) ≤ 4000
  | [], n, _, h => by
    simp only [List.foldl_nil]
    simp [prodL] at h; omega
  | x :: l, n, hl, h => by
    have hprod := prod_pos (l := l) fun y hy => hl y (List.mem_cons_of_mem _ hy)
    have h : n * (x.length * prodL l) ≤ 4000 := h
    rw [← Nat.mul_assoc] at h
    have hb : n * x.length ≤ n * x.length * prodL l := Nat.le_mul_of_pos_right _ hprod
    have he : w64 ((n : Int) * (x.length : Int)) = ((n * x.length : Nat) : Int) := by
      rw [← Int.natCast_mul, w64_in (by omega)]
    rw [List.foldl_cons, he, if_neg (by omega)]
    exact many_of_prod l (n * x.length) (fun y hy => hl y (List.mem_cons_of_mem _ hy)) h
theorem conds_rr {l : List Rl} (hp : ∀ r ∈ l, PrR r) {d : Cnd} (h : d ∈ condsL (l.map rrR)) : ∃ e ∈ condsL l, (printB e).2 = 0 ∧ d = fl0 e := by
  unfold condsL at h
  obtain ⟨r, hr, hd⟩ := List.mem_flatMap.1 h
  obtain ⟨q, hq, rfl⟩ := List.mem_map.1 hr
  have hq2 := hp q hq
  rcases List.mem_cons.1 hd with e | hd
  · exact ⟨q.2.2.2.1, List.mem_flatMap.2 ⟨q, hq, List.mem_cons_self ..⟩, hq2.1, e⟩
  · rcases List.mem_singleton.1 hd with e
    exact ⟨q.2.2.2.2.1, List.mem_flatMap.2 ⟨q, hq, List.mem_cons_of_mem _ (List.mem_cons_self ..)⟩, hq2.2, e⟩
theorem cuts_rr {l : List Rl} (hp : ∀ r ∈ l, PrR r) (x : Fct) : (cutsOf (condsL (l.map rrR)) x).length ≤ (cutsOf (condsL l) x).length := by
  obtain ⟨a1, a2⟩ := sc_rise (x.2.1 :: cutN x (condsL (l.map rrR)))
  obtain ⟨b1, b2⟩ := sc_rise (x.2.1 :: cutN x (condsL l))
  refine rise_le a1 b1 fun n hn => (b2 n).2 ?_
  rcases List.mem_cons.1 ((a2 n).1 hn) with e | hn
  · rw [e]; exact List.mem_cons_self ..
  · refine List.mem_cons_of_mem _ ?_
    obtain ⟨d, hd, hm⟩ := List.mem_flatMap.1 hn
    obtain ⟨e, he, hp2, rfl⟩ := conds_rr hp hd
    exact List.mem_flatMap.2 ⟨e, he, fl0_cut hp2 x hm⟩
theorem codeE_of {c : Cd} (h1 : nmB c.1 = true) (v : VC c) : codeE c = 0 := by
  have := v.fl
  have := v.ll
  have := v.mn
  unfold codeE
  rw [h1, if_neg v.fn, if_neg (by omega), v.fs]
  simp only [Bool.not_true, cond_false]
  rw [v.rs]
  simp only
  rw [if_neg (by omega)]
theorem codeE_rr {c : Cd} (h : codeE c = 0) (hp : ∀ r ∈ c.2.2, PrR r) : codeE (rrC c) = 0 := by
  have v := VC.of h
  obtain ⟨b1, _⟩ := codeE_ok h
  refine codeE_of (c := rrC c) b1 ⟨v.fn, v.fl, ?_, v.fs, rules_rr v.rs hp, ?_⟩
  · show (c.2.2.map rrR).length ≤ 12
    rw [List.length_map]; exact v.ll
  · show manyL (startsL c.2.1 (condsL (c.2.2.map rrR))) ≤ 4000
    refine many_of_prod _ 1 (starts_ne _ _) ?_
    rw [Nat.one_mul]
    refine Nat.le_trans (prod_le (m := startsL c.2.1 (condsL c.2.2)) (by simp [startsL]) fun i x y hx hy => ?_) v.prod
    obtain ⟨z, hz, rfl⟩ := starts_get hx
    obtain ⟨z', hz', rfl⟩ := starts_get hy
    rw [hz] at hz'
    cases hz'
    exact cuts_rr hp z
end Go.K
set_option maxHeartbeats 0
namespace Go.K
open Go.Sl Go.Sx Go.Proofs
noncomputable def G51 (lf : Nat) (x : (ByteArray × (Yf × Yr))) : Option ((ByteArray × Int)) :=
  ((G31 lf (x.1, (x.2.1, x.2.2)))).bind fun r52 => cond (!(decide (r52 = (0 : Int)))) (some ((bts []), r52)) (((catC (bts [99, 111, 100, 101, 32]) x.1)).bind fun r53 => iter lf (fun y54 : ((List ByteArray) × Int) => cond (decide (y54.2 < (x.2.1.length : Int))) (((getI x.2.1 y54.2)).bind fun r55 => ((catC (bts [102, 97, 99, 116, 32]) r55.1)).bind fun r56 => ((catC ((bts [102, 97, 99, 116, 32]) ++ r55.1) (bts [32]))).bind fun r57 => ((itoaC r55.2.1)).bind fun r58 => ((catC (((bts [102, 97, 99, 116, 32]) ++ r55.1) ++ (bts [32])) r58)).bind fun r59 => ((catC ((((bts [102, 97, 99, 116, 32]) ++ r55.1) ++ (bts [32])) ++ r58) (bts [32]))).bind fun r60 => ((itoaC r55.2.2)).bind fun r61 => ((catC (((((bts [102, 97, 99, 116, 32]) ++ r55.1) ++ (bts [32])) ++ r58) ++ (bts [32])) r61)).bind fun r62 => ((appC y54.1 [((((((bts [102, 97, 99, 116, 32]) ++ r55.1) ++ (bts [32])) ++ r58) ++ (bts [32])) ++ r61)])).bind fun r63 => some (.inl (r63, (w64 (y54.2 + (1 : Int)))))) (outR (iter lf (fun y64 : (Bool × ((List ByteArray) × Int)) => cond (decide (y64.2.2 < (x.2.2.length : Int))) (((getI x.2.2 y64.2.2)).bind fun r65 => ((catC (bts [114, 117, 108, 101, 32]) r65.1)).bind fun r66 => ((catC ((bts [114, 117, 108, 101, 32]) ++ r65.1) (bts [32]))).bind fun r67 => ((itoaC r65.2.1)).bind fun r68 => ((catC (((bts [114, 117, 108, 101, 32]) ++ r65.1) ++ (bts [32])) r68)).bind fun r69 => ((catC ((((bts [114, 117, 108, 101, 32]) ++ r65.1) ++ (bts [32])) ++ r68) (bts [32]))).bind fun r70 => ((itoaC r65.2.2.1)).bind fun r71 => ((catC (((((bts [114, 117, 108, 101, 32]) ++ r65.1) ++ (bts [32])) ++ r68) ++ (bts [32])) r71)).bind fun r72 => iter lf (fun y73 : (Bool × (ByteArray × Int)) => cond (decide (y73.2.2 < (2 : Int))) (jn (cond (decide (y73.2.2 = (0 : Int))) (((G19 lf r65.2.2.2.1)).bind fun r74 => cond (decide (r74.2 = (41 : Int))) (some (.inr (.inr (.inr ((bts []), r74.2))))) (jn (cond y73.1 (some (.inl true)) (some (.inl (!(decide (r74.2 = (0 : Int))))))) (fun y75 : Bool => cond (decide (y73.2.2 = (0 : Int))) (((catC (bts [32, 119, 104, 101, 110, 32]) r74.1)).bind fun r76 => ((catC y73.2.1 ((bts [32, 119, 104, 101, 110, 32]) ++ r74.1))).bind fun r77 => some (.inl (y75, (y73.2.1 ++ ((bts [32, 119, 104, 101, 110, 32]) ++ r74.1))))) (cond (decide (y73.2.2 = (1 : Int))) (((catC (bts [32, 109, 117, 115, 116, 32]) r74.1)).bind fun r78 => ((catC y73.2.1 ((bts [32, 109, 117, 115, 116, 32]) ++ r74.1))).bind fun r79 => some (.inl (y75, (y73.2.1 ++ ((bts [32, 109, 117, 115, 116, 32]) ++ r74.1))))) ((outI)))))) (cond (decide (y73.2.2 = (1 : Int))) (((G19 lf r65.2.2.2.2.1)).bind fun r80 => cond (decide (r80.2 = (41 : Int))) (some (.inr (.inr (.inr ((bts []), r80.2))))) (jn (cond y73.1 (some (.inl true)) (some (.inl (!(decide (r80.2 = (0 : Int))))))) (fun y81 : Bool => cond (decide (y73.2.2 = (0 : Int))) (((catC (bts [32, 119, 104, 101, 110, 32]) r80.1)).bind fun r82 => ((catC y73.2.1 ((bts [32, 119, 104, 101, 110, 32]) ++ r80.1))).bind fun r83 => some (.inl (y81, (y73.2.1 ++ ((bts [32, 119, 104, 101, 110, 32]) ++ r80.1))))) (cond (decide (y73.2.2 = (1 : Int))) (((catC (bts [32, 109, 117, 115, 116, 32]) r80.1)).bind fun r84 => ((catC y73.2.1 ((bts [32, 109, 117, 115, 116, 32]) ++ r80.1))).bind fun r85 => some (.inl (y81, (y73.2.1 ++ ((bts [32, 109, 117, 115, 116, 32]) ++ r80.1))))) ((outI)))))) ((outI)))) (fun y86 : (Bool × ByteArray) => some (.inl (y86.1, (y86.2, (w64 (y73.2.2 + (1 : Int)))))))) (outR (cond (decide ((r65.2.2.2.2.2.length : Int) > (0 : Int))) (((joinC (bts [32]) r65.2.2.2.2.2)).bind fun r87 => ((catC (bts [32, 117, 110, 108, 101, 115, 115, 32]) r87)).bind fun r88 => ((catC y73.2.1 ((bts [32, 117, 110, 108, 101, 115, 115, 32]) ++ r87))).bind fun r89 => ((appC y64.2.1 [(y73.2.1 ++ ((bts [32, 117, 110, 108, 101, 115, 115, 32]) ++ r87))])).bind fun r90 => some (.inl (y73.1, (r90, (w64 (y64.2.2 + (1 : Int))))))) (((appC y64.2.1 [y73.2.1])).bind fun r91 => some (.inl (y73.1, (r91, (w64 (y64.2.2 + (1 : Int)))))))))) (y64.1, (((((((bts [114, 117, 108, 101, 32]) ++ r65.1) ++ (bts [32])) ++ r68) ++ (bts [32])) ++ r71), (0 : Int)))) (outR (((joinC (bts [10]) y64.2.1)).bind fun r92 => ((catC r92 (bts [10]))).bind fun r93 => jn (cond y64.1 (some (.inl true)) (some (.inl (decide (((r92 ++ (bts [10])).size : Int) > (8000 : Int)))))) (fun y94 : Bool => cond y94 (some ((bts []), (2 : Int))) (some ((r92 ++ (bts [10])), (0 : Int))))))) (false, (y54.1, (0 : Int)))))) ([((bts [99, 111, 100, 101, 32]) ++ x.1)], (0 : Int)))
noncomputable def G11 (lf : Nat) (x : (ByteArray × (Yf × Yr))) : Option (Bool) :=
  ((G51 lf (x.1, (x.2.1, x.2.2)))).bind fun r32 => jn (cond (!(decide (r32.2 = (0 : Int)))) (some (.inl true)) (((G32 lf (x.1, (x.2.1, x.2.2)))).bind fun r33 => some (.inl (!(decide (r33 = (0 : Int))))))) (fun y34 : Bool => cond y34 (cond (!(decide (r32.2 = (0 : Int)))) (((G22 lf ())).bind fun r35 => some r35) (some false)) (((G49 lf r32.1)).bind fun r36 => ((G51 lf (r36.1.1, (r36.1.2.1, r36.1.2.2)))).bind fun r37 => jn (cond (!(decide (r36.2.2 = (0 : Int)))) (some (.inl true)) (cond (!(decide (r37.2 = (0 : Int)))) (some (.inl true)) (cond (!(r32.1.data.toList == r37.1.data.toList)) (some (.inl true)) (((G54 lf (x.2.1, r36.1.2.1))).bind fun r38 => cond (!r38) (some (.inl true)) (some (.inl (!(decide ((x.2.2.length : Int) = (r36.1.2.2.length : Int)))))))))) (fun y39 : Bool => cond y39 (some false) (iter lf (fun y40 : Int => cond (decide (y40 < (x.2.2.length : Int))) (((getI x.2.2 y40)).bind fun r41 => ((getI r36.1.2.2 y40)).bind fun r42 => jn (cond (!(r41.1.data.toList == r42.1.data.toList)) (some (.inl true)) (cond (!(decide (r41.2.1 = r42.2.1))) (some (.inl true)) (cond (!(decide (r41.2.2.1 = r42.2.2.1))) (some (.inl true)) (((G33 lf (r41.2.2.2.2.2, r42.2.2.2.2.2))).bind fun r43 => some (.inl (!r43)))))) (fun y44 : Bool => cond y44 (some (.inr false)) (some (.inl (w64 (y40 + (1 : Int))))))) (outR (((G55 lf (x.1, (x.2.1, x.2.2)))).bind fun r45 => jn (cond (!(decide (r45.2 = (0 : Int)))) (some (.inl true)) (some (.inl (!(decide ((r45.1.length : Int) = (x.2.1.length : Int))))))) (fun y46 : Bool => cond y46 (some false) (((G56 lf r45.1)).bind fun r47 => iter lf (fun y48 : Int => cond (decide (y48 < (r47.length : Int))) (((getI r47 y48)).bind fun r49 => cond (!(decide ((r49.length : Int) = (x.2.1.length : Int)))) (some (.inr false)) (iter lf (fun y50 : Int => cond (decide (y50 < (x.2.2.length : Int))) (((getI x.2.2 y50)).bind fun r51 => ((getI r36.1.2.2 y50)).bind fun r52 => jn (((G30 lf (x.2.1, r52.2.2.2.1))).bind fun r53 => cond (!(decide (r53 = (0 : Int)))) (some (.inl true)) (((G30 lf (x.2.1, r52.2.2.2.2.1))).bind fun r54 => cond (!(decide (r54 = (0 : Int)))) (some (.inl true)) (((G57 lf (x.2.1, (r51.2.2.2.1, r49)))).bind fun r55 => ((G57 lf (x.2.1, (r52.2.2.2.1, r49)))).bind fun r56 => cond (!(decide (r55 = r56))) (some (.inl true)) (((G57 lf (x.2.1, (r51.2.2.2.2.1, r49)))).bind fun r57 => ((G57 lf (x.2.1, (r52.2.2.2.2.1, r49)))).bind fun r58 => some (.inl (!(decide (r57 = r58)))))))) (fun y59 : Bool => cond y59 (some (.inr (.inr false))) (some (.inl (w64 (y50 + (1 : Int))))))) (some (.inr (.inl (w64 (y48 + (1 : Int))))))) (0 : Int))) (outR (((G22 lf ())).bind fun r60 => some r60))) (0 : Int)))))) (0 : Int)))))
end Go.K
namespace Go.K
open Go.Sl Go.Sx Go.Proofs
def fcT (f : Fct) : ByteArray := (((((bts [102, 97, 99, 116, 32]) ++ f.1) ++ (bts [32])) ++ It f.2.1) ++ (bts [32])) ++ It f.2.2
def hdT (r : Rl) : ByteArray := (((((bts [114, 117, 108, 101, 32]) ++ r.1) ++ (bts [32])) ++ It r.2.1) ++ (bts [32])) ++ It r.2.2.1
def rlT (r : Rl) : ByteArray := (((hdT r ++ (bts [32, 119, 104, 101, 110, 32])) ++ (printB r.2.2.2.1).1) ++ (bts [32, 109, 117, 115, 116, 32])) ++ (printB r.2.2.2.2.1).1
def unT (x : ByteArray) (i : Nat) (a : ByteArray) : ByteArray := if i = 0 then (a ++ (bts [32, 117, 110, 108, 101, 115, 115])) ++ ((bts [32]) ++ x) else a ++ ((bts [32]) ++ x)
def badR (r : Rl) : Bool := decide ((printB r.2.2.2.1).2 = 41) || decide ((printB r.2.2.2.2.1).2 = 41)
def longR (r : Rl) : Bool := !decide ((printB r.2.2.2.1).2 = 0) || !decide ((printB r.2.2.2.2.1).2 = 0)
def rlS (r : Rl) (_ : Nat) (a : Bool × ByteArray) : (Bool × ByteArray) ⊕ (ByteArray × Int) :=
  if badR r = true then .inr (bts [], 41) else .inl (a.1 || longR r, foldI unT r.2.2.2.2.2 0 (a.2 ++ rlT r) ++ bts [10])
def printC (c : Cd) : ByteArray × Int :=
  if codeE c ≠ 0 then (bts [], codeE c) else
    match foldS rlS c.2.2 0 (false, foldI (fun f _ a => a ++ (fcT f ++ bts [10])) c.2.1 0 (((bts [99, 111, 100, 101, 32]) ++ c.1) ++ bts [10])) with
    | .inr e => e
    | .inl a => if a.1 = true ∨ 8000 < a.2.size then (bts [], 2) else (a.2, 0)
theorem nm_size {w : ByteArray} (h : nmB w = true) : w.size ≤ 12 := by
  unfold nmB at h
  simp only [Bool.and_eq_true, decide_eq_true_eq] at h
  exact h.1.1.2
theorem cat_sm {a b : ByteArray} (ha : a.size ≤ 1000000) (hb : b.size ≤ 1000000) : catC a b = some () := catC_of (by omega)
theorem fcT_size {f : Fct} (h : nmB f.1 = true ∧ -1000000000000 ≤ f.2.1 ∧ f.2.1 ≤ f.2.2 ∧ f.2.2 ≤ 1000000000000) : (fcT f).size ≤ 60 := by
  have := nm_size h.1
  have := It_size (n := f.2.1) (by omega)
  have := It_size (n := f.2.2) (by omega)
  unfold fcT
  simp only [size_app, bts_size, List.length_cons, List.length_nil]; omega
theorem rlT_size {r : Rl} (h : nmB r.1 = true ∧ 0 ≤ r.2.1 ∧ r.2.1 ≤ r.2.2.1 ∧ r.2.2.1 ≤ 100000) : (hdT r).size ≤ 60 ∧ (rlT r).size ≤ 16080 := by
  have := nm_size h.1
  have := It_size (n := r.2.1) (by omega)
  have := It_size (n := r.2.2.1) (by omega)
  have := printB_size r.2.2.2.1
  have := printB_size r.2.2.2.2.1
  unfold rlT hdT
  simp only [size_app, bts_size, List.length_cons, List.length_nil]; omega
theorem unT_size (l : List ByteArray) (hl : ∀ u ∈ l, u.size ≤ 12) : ∀ (i : Nat) (a : ByteArray), (foldI unT l i a).size ≤ a.size + 20 * l.length := by
  induction l with
  | nil => intro i a; unfold foldI; simp
  | cons u l ih =>
    intro i a
    unfold foldI
    have h1 := ih (fun x hx => hl x (List.mem_cons_of_mem _ hx)) (i + 1) (unT u i a)
    have h2 := hl u (List.mem_cons_self ..)
    have h3 : (unT u i a).size ≤ a.size + 20 := by
      unfold unT
      split <;> simp only [size_app, bts_size, List.length_cons, List.length_nil] <;> omega
    rw [List.length_cons]; omega
end Go.K
namespace Go.K
open Go.Sl Go.Sx Go.Proofs
def joT (sep : ByteArray) (l : List ByteArray) : ByteArray := match l with
  | [] => ByteArray.empty
  | x :: xs => xs.foldl (fun r y => r ++ sep ++ y) x
theorem joinC_T {sep : ByteArray} {l : List ByteArray} (h : l.foldl (fun n x => n + x.size + (sep.size + 1)) 0 ≤ 1099511627776) : joinC sep l = some (joT sep l) := by
  unfold joinC; rw [if_pos h]; rfl
theorem sum_le (k m : Nat) (l : List ByteArray) (h : ∀ x ∈ l, x.size ≤ m) : ∀ n : Nat, l.foldl (fun n x => n + x.size + k) n ≤ n + l.length * (m + k) := by
  induction l with
  | nil => intro n; simp
  | cons x l ih =>
    intro n
    have h1 := ih (fun y hy => h y (List.mem_cons_of_mem _ hy)) (n + x.size + k)
    have h2 := h x (List.mem_cons_self ..)
    rw [List.foldl_cons, List.length_cons, Nat.succ_mul]; omega
theorem app_as (a b c : ByteArray) : a ++ b ++ c = a ++ (b ++ c) := by
  apply ext_data; simp only [app_data, List.append_assoc]
theorem fold_pre (sep p : ByteArray) : ∀ (l : List ByteArray) (x : ByteArray), p ++ l.foldl (fun r y => r ++ sep ++ y) x = l.foldl (fun r y => r ++ sep ++ y) (p ++ x)
  | [], x => rfl
  | y :: l, x => by rw [List.foldl_cons, List.foldl_cons, fold_pre sep p l]; simp only [app_as]
theorem unT_late : ∀ (l : List ByteArray) (i : Nat) (a : ByteArray), 0 < i → foldI unT l i a = l.foldl (fun r y => r ++ bts [32] ++ y) a
  | [], i, a, _ => rfl
  | y :: l, i, a, h => by
    have e : unT y i a = a ++ bts [32] ++ y := by unfold unT; rw [if_neg (by omega), app_as]
    show foldI unT l (i + 1) (unT y i a) = _
    rw [unT_late l (i + 1) _ (by omega), e]; rfl
theorem un_word : (bts [32, 117, 110, 108, 101, 115, 115]) ++ bts [32] = bts [32, 117, 110, 108, 101, 115, 115, 32] := ext_data (by rw [app_data]; rfl)
theorem unT_join (x : ByteArray) (l : List ByteArray) (a : ByteArray) : foldI unT (x :: l) 0 a = a ++ (bts [32, 117, 110, 108, 101, 115, 115, 32] ++ joT (bts [32]) (x :: l)) := by
  show foldI unT l 1 (unT x 0 a) = _
  rw [unT_late l 1 _ (by omega)]
  unfold unT joT
  rw [if_pos rfl]
  simp only
  rw [← un_word, fold_pre, fold_pre]
  congr 1
  simp only [app_as]
def lnT (r : Rl) : ByteArray := foldI unT r.2.2.2.2.2 0 (rlT r)
theorem lnT_pre (s : ByteArray) (r : Rl) : foldI unT r.2.2.2.2.2 0 (s ++ rlT r) = s ++ lnT r := by
  unfold lnT
  cases r.2.2.2.2.2 with
  | nil => rfl
  | cons x l => rw [unT_join, unT_join, app_as]
def txL (l : List ByteArray) : ByteArray := l.foldl (fun a x => a ++ (x ++ bts [10])) ByteArray.empty
theorem txL_app (l : List ByteArray) (x : ByteArray) : txL (l ++ [x]) = txL l ++ (x ++ bts [10]) := by
  unfold txL; rw [List.foldl_append]; rfl
theorem emp_app (x : ByteArray) : ByteArray.empty ++ x = x := by
  apply ext_data; rw [app_data]; rfl
theorem fold_nl : ∀ (l : List ByteArray) (x : ByteArray), l.foldl (fun r y => r ++ bts [10] ++ y) x ++ bts [10] = l.foldl (fun a y => a ++ (y ++ bts [10])) (x ++ bts [10])
  | [], x => rfl
  | y :: l, x => by rw [List.foldl_cons, List.foldl_cons, fold_nl l, app_as (x ++ bts [10]) y]
theorem joT_nl (x : ByteArray) (l : List ByteArray) : joT (bts [10]) (x :: l) ++ bts [10] = txL (x :: l) := by
  unfold joT txL
  simp only [List.foldl_cons, emp_app]
  exact fold_nl l x
def rlP (r : Rl) (_ : Nat) (a : Bool × List ByteArray) : (Bool × List ByteArray) ⊕ (ByteArray × Int) :=
  if badR r = true then .inr (bts [], 41) else .inl (a.1 || longR r, a.2 ++ [lnT r])
theorem rl_rel : ∀ (l : List Rl) (i : Nat) (b : Bool) (ls : List ByteArray), foldS rlS l i (b, txL ls) = match foldS rlP l i (b, ls) with
    | .inl a => .inl (a.1, txL a.2)
    | .inr e => .inr e
  | [], i, b, ls => rfl
  | r :: l, i, b, ls => by
    unfold foldS rlS rlP
    cases hb : badR r with
    | true => rfl
    | false =>
      simp only [Bool.false_eq_true, if_false]
      rw [lnT_pre, app_as, ← txL_app]
      exact rl_rel l (i + 1) _ _
theorem fc_rel : ∀ (l : List Fct) (i : Nat) (ls : List ByteArray), foldI (fun f _ a => a ++ (fcT f ++ bts [10])) l i (txL ls) = txL (ls ++ l.map fcT)
  | [], i, ls => by simp [foldI]
  | f :: l, i, ls => by
    show foldI _ l (i + 1) (txL ls ++ (fcT f ++ bts [10])) = _
    rw [← txL_app, fc_rel l (i + 1), List.map_cons, List.append_assoc]; rfl
theorem printC_lines (c : Cd) : printC c = if codeE c ≠ 0 then (bts [], codeE c) else
    match foldS rlP c.2.2 0 (false, ((bts [99, 111, 100, 101, 32]) ++ c.1) :: c.2.1.map fcT) with
    | .inr e => e
    | .inl a => if a.1 = true ∨ 8000 < (txL a.2).size then (bts [], 2) else (txL a.2, 0) := by
  unfold printC
  have e1 : ((bts [99, 111, 100, 101, 32]) ++ c.1) ++ bts [10] = txL [(bts [99, 111, 100, 101, 32]) ++ c.1] := by
    unfold txL; simp only [List.foldl_cons, List.foldl_nil, emp_app]
  rw [e1, fc_rel, rl_rel]
  show (if codeE c ≠ 0 then _ else _) = _
  congr 1
  show (match (match foldS rlP c.2.2 0 (false, [(bts [99, 111, 100, 101, 32]) ++ c.1] ++ c.2.1.map fcT) with
    | .inl a => (.inl (a.1, txL a.2) : (Bool × ByteArray) ⊕ (ByteArray × Int))
    | .inr e => .inr e) with
    | .inr e => e
    | .inl a => if a.1 = true ∨ 8000 < a.2.size then (bts [], 2) else (a.2, 0)) = _
  rw [show [(bts [99, 111, 100, 101, 32]) ++ c.1] ++ c.2.1.map fcT = ((bts [99, 111, 100, 101, 32]) ++ c.1) :: c.2.1.map fcT from rfl]
  cases foldS rlP c.2.2 0 (false, ((bts [99, 111, 100, 101, 32]) ++ c.1) :: c.2.1.map fcT) <;> rfl
end Go.K
namespace Go.K
open Go.Sl Go.Sx Go.Proofs
theorem lnT_size {r : Rl} (h : nmB r.1 = true ∧ 0 ≤ r.2.1 ∧ r.2.1 ≤ r.2.2.1 ∧ r.2.2.1 ≤ 100000) (h6 : r.2.2.2.2.2.length ≤ 6) (hun : ∀ u ∈ r.2.2.2.2.2, u.size ≤ 12) : (lnT r).size ≤ 16200 := by
  obtain ⟨z1, z2⟩ := rlT_size h
  have := unT_size r.2.2.2.2.2 hun 0 (rlT r)
  unfold lnT; omega
theorem joT_size (l : List ByteArray) (hl : ∀ x ∈ l, x.size ≤ 12) : (joT (bts [32]) l).size ≤ 20 * l.length := by
  unfold joT
  cases l with
  | nil => exact Nat.zero_le _
  | cons x l =>
    have hf : ∀ (m : List ByteArray), (∀ y ∈ m, y.size ≤ 12) → ∀ a : ByteArray, (m.foldl (fun r y => r ++ bts [32] ++ y) a).size ≤ a.size + 20 * m.length := by
      intro m
      induction m with
      | nil => intro _ a; simp
      | cons y m ih =>
        intro hm a
        have h1 := ih (fun z hz => hm z (List.mem_cons_of_mem _ hz)) (a ++ bts [32] ++ y)
        have h2 := hm y (List.mem_cons_self ..)
        simp only [size_app, bts_size, List.length_cons, List.length_nil] at h1
        rw [List.foldl_cons, List.length_cons]; omega
    have h1 := hf l (fun z hz => hl z (List.mem_cons_of_mem _ hz)) x
    have h2 := hl x (List.mem_cons_self ..)
    simp only [List.length_cons]; omega
def cdS (x : Cnd) (k : Nat) (a : Bool × ByteArray) : (Bool × ByteArray) ⊕ ((Bool × (List ByteArray × Int)) ⊕ (ByteArray × Int)) :=
  if (printB x).2 = 41 then .inr (.inr (bts [], 41)) else .inl (a.1 || !decide ((printB x).2 = 0), a.2 ++ ((if k = 0 then bts [32, 119, 104, 101, 110, 32] else bts [32, 109, 117, 115, 116, 32]) ++ (printB x).1))
theorem G51_print (c : Cd) : G51 LF c = some (printC c) := by
  rw [printC_lines]
  unfold G51
  simp only [G31_code, Option.bind_some]
  by_cases h0 : codeE c = 0
  · obtain ⟨b1, b2, b3, b4, b5⟩ := codeE_ok h0
    have hn := nm_size b1
    have hlit : ∀ l : List Nat, l.length ≤ 100 → (bts l).size ≤ 1000000 := fun l h => by rw [bts_size]; omega
    have k1 : catC (bts [99, 111, 100, 101, 32]) c.1 = some () := cat_sm (hlit _ (by simp)) (by omega)
    have s1 : ((bts [99, 111, 100, 101, 32]) ++ c.1).size ≤ 17 := by simp only [size_app, bts_size, List.length_cons, List.length_nil]; omega
    have nn : ¬ (codeE c ≠ 0) := fun h => h h0
    have happ : ∀ (a : List ByteArray) (x : ByteArray), a.length ≤ 1000 → appC a [x] = some (a ++ [x]) := fun a x h => appC_of (by simp; omega)
    simp only [decide_eq_true h0, Bool.not_true, cond_false, k1, Option.bind_some, if_neg nn]
    refine (iter_foldI (fun i a => (a, i)) (fun f _ a => a ++ [fcT f]) (fun i (a : List ByteArray) => a.length = 1 + i ∧ (∀ x ∈ a, x.size ≤ 16200) ∧ ∃ y l, a = y :: l) c.2.1
      (fun s => match foldS rlP c.2.2 0 (false, s) with
        | .inr e => some e
        | .inl a => some (if a.1 = true ∨ 8000 < (txL a.2).size then (bts [], 2) else (txL a.2, 0))) _ ?_ ?_ ?_ (by show c.2.1.length < 9223372036854775808; omega)
      ⟨rfl, fun x hx => by rcases List.mem_singleton.1 hx with rfl; omega, _, _, rfl⟩).trans ?_
    · intro i f a hf hg
      have hi := (List.getElem?_eq_some_iff.1 hf).1
      have hb := b4 i f hf
      have z1 := nm_size hb.1
      have z2 := It_size (n := f.2.1) (by omega)
      have z3 := It_size (n := f.2.2) (by omega)
      have c1 : catC (bts [102, 97, 99, 116, 32]) f.1 = some () := cat_sm (hlit _ (by simp)) (by omega)
      have c2 : catC ((bts [102, 97, 99, 116, 32]) ++ f.1) (bts [32]) = some () := cat_sm (by simp only [size_app, bts_size, List.length_cons, List.length_nil]; omega) (hlit _ (by simp))
      have c3 : catC (((bts [102, 97, 99, 116, 32]) ++ f.1) ++ (bts [32])) (It f.2.1) = some () := cat_sm (by simp only [size_app, bts_size, List.length_cons, List.length_nil]; omega) (by omega)
      have c4 : catC ((((bts [102, 97, 99, 116, 32]) ++ f.1) ++ (bts [32])) ++ It f.2.1) (bts [32]) = some () := cat_sm (by simp only [size_app, bts_size, List.length_cons, List.length_nil]; omega) (hlit _ (by simp))
      have c5 : catC (((((bts [102, 97, 99, 116, 32]) ++ f.1) ++ (bts [32])) ++ It f.2.1) ++ (bts [32])) (It f.2.2) = some () := cat_sm (by simp only [size_app, bts_size, List.length_cons, List.length_nil]; omega) (by omega)
      have t1 := itoaC_it (n := f.2.1) (by omega)
      have t2 := itoaC_it (n := f.2.2) (by omega)
      simp only [dlt hi, cond_true, getI_nat hf, Option.bind_some, c1, c2, c3, c4, c5, t1, t2, happ a _ (by omega), succ_W (show i + 1 < 9223372036854775808 by omega)]
      rfl
    · intro i f a hf hg
      obtain ⟨g1, g2, y, l, rfl⟩ := hg
      have z := fcT_size (b4 i f hf)
      refine ⟨by rw [List.length_append, g1]; simp; omega, fun x hx => ?_, y, l ++ [fcT f], rfl⟩
      rcases List.mem_append.1 hx with hx | hx
      · exact g2 x hx
      · rcases List.mem_singleton.1 hx with rfl; omega
    · intro s hs
      simp only [dnlt, cond_false]
      congr 1
      refine (iter_go (fun i (a : Bool × List ByteArray) => (a.1, (a.2, i))) rlP (fun i a => a.2.length ≤ 7 + i ∧ (∀ x ∈ a.2, x.size ≤ 16200) ∧ ∃ y l, a.2 = y :: l) c.2.2 (fun a => some (if a.1 = true ∨ 8000 < (txL a.2).size then (bts [], 2) else (txL a.2, 0))) (false, s) ?_ ?_ ?_ (by show c.2.2.length < 9223372036854775808; omega)
        ⟨by have := hs.1; show s.length ≤ 7 + 0; omega, hs.2⟩).trans ?_
      · intro i r a hr hg
        have hi := (List.getElem?_eq_some_iff.1 hr).1
        obtain ⟨r1, r2, r3, r4, r5, r6⟩ := b5 i r hr
        obtain ⟨z1, z2⟩ := rlT_size ⟨r1, r2, r3, r4⟩
        have hun : ∀ u ∈ r.2.2.2.2.2, u.size ≤ 12 := fun u hu => by
          obtain ⟨k, hk⟩ := List.getElem?_of_mem hu
          exact nm_size (r6 k u hk)
        have y1 := nm_size r1
        have y2 := It_size (n := r.2.1) (by omega)
        have y3 := It_size (n := r.2.2.1) (by omega)
        have y4 := printB_size r.2.2.2.1
        have y5 := printB_size r.2.2.2.2.1
        have t1 := itoaC_it (n := r.2.1) (by omega)
        have t2 := itoaC_it (n := r.2.2.1) (by omega)
        have c1 : catC (bts [114, 117, 108, 101, 32]) r.1 = some () := cat_sm (hlit _ (by simp)) (by omega)
        have c2 : catC ((bts [114, 117, 108, 101, 32]) ++ r.1) (bts [32]) = some () := cat_sm (by simp only [size_app, bts_size, List.length_cons, List.length_nil]; omega) (hlit _ (by simp))
        have c3 : catC (((bts [114, 117, 108, 101, 32]) ++ r.1) ++ (bts [32])) (It r.2.1) = some () := cat_sm (by simp only [size_app, bts_size, List.length_cons, List.length_nil]; omega) (by omega)
        have c4 : catC ((((bts [114, 117, 108, 101, 32]) ++ r.1) ++ (bts [32])) ++ It r.2.1) (bts [32]) = some () := cat_sm (by simp only [size_app, bts_size, List.length_cons, List.length_nil]; omega) (hlit _ (by simp))
        have c5 : catC (((((bts [114, 117, 108, 101, 32]) ++ r.1) ++ (bts [32])) ++ It r.2.1) ++ (bts [32])) (It r.2.2.1) = some () := cat_sm (by simp only [size_app, bts_size, List.length_cons, List.length_nil]; omega) (by omega)
        have eh : (((((bts [114, 117, 108, 101, 32]) ++ r.1) ++ (bts [32])) ++ It r.2.1) ++ (bts [32])) ++ It r.2.2.1 = hdT r := rfl
        simp only [dlt hi, cond_true, getI_nat hr, Option.bind_some, c1, c2, c3, c4, c5, t1, t2, eh, G19_print]
        refine (iter_go (fun k (b : Bool × ByteArray) => (b.1, (b.2, k))) cdS (fun k b => b.2.size ≤ 60 + 8006 * k) [r.2.2.2.1, r.2.2.2.2.1] (fun b => some (.inl (b.1, (a.2 ++ [if r.2.2.2.2.2.length = 0 then b.2 else b.2 ++ (bts [32, 117, 110, 108, 101, 115, 115, 32] ++ joT (bts [32]) r.2.2.2.2.2)], ((i + 1 : Nat) : Int))))) (a.1, hdT r) ?_ ?_ ?_ (by show 2 < 9223372036854775808; omega) (by show (hdT r).size ≤ 60 + 8006 * 0; omega)).trans ?_
        · intro k x b hx hb
          have hk := (List.getElem?_eq_some_iff.1 hx).1
          have hb' : b.2.size ≤ 60 + 8006 * k := hb
          have hk2 : k < 2 := hk
          have hkc : k = 0 ∨ k = 1 := by omega
          rcases hkc with e | e
          · subst e
            simp only [List.getElem?_cons_zero, Option.some.injEq] at hx
            subst hx
            have d1 : catC (bts [32, 119, 104, 101, 110, 32]) (printB r.2.2.2.1).1 = some () := cat_sm (hlit _ (by simp)) (by omega)
            have d2 : catC b.2 ((bts [32, 119, 104, 101, 110, 32]) ++ (printB r.2.2.2.1).1) = some () := cat_sm (by omega) (by simp only [size_app, bts_size, List.length_cons, List.length_nil]; omega)
            have e1 : decide (((0 : Nat) : Int) < 2) = true := rfl
            have e2 : decide (((0 : Nat) : Int) = 0) = true := rfl
            unfold cdS
            by_cases h41 : (printB r.2.2.2.1).2 = 41
            · simp only [e1, e2, cond_true, decide_eq_true h41, if_pos h41, jr]
              rw [h41]
            · simp only [e1, e2, cond_true, decide_eq_false h41, cond_false, if_neg h41, if_true]
              cases b.1 with
              | true => simp only [cond_true, jl, d1, d2, Option.bind_some, Bool.true_or]; rfl
              | false => simp only [cond_false, jl, d1, d2, Option.bind_some, Bool.false_or]; rfl
          · subst e
            simp only [List.getElem?_cons_succ, List.getElem?_cons_zero, Option.some.injEq] at hx
            subst hx
            have d1 : catC (bts [32, 109, 117, 115, 116, 32]) (printB r.2.2.2.2.1).1 = some () := cat_sm (hlit _ (by simp)) (by omega)
            have d2 : catC b.2 ((bts [32, 109, 117, 115, 116, 32]) ++ (printB r.2.2.2.2.1).1) = some () := cat_sm (by omega) (by simp only [size_app, bts_size, List.length_cons, List.length_nil]; omega)
            have e1 : decide (((1 : Nat) : Int) < 2) = true := rfl
            have e2 : decide (((1 : Nat) : Int) = 0) = false := rfl
            have e3 : decide (((1 : Nat) : Int) = 1) = true := rfl
            have n1 : ¬ (1 = 0) := by omega
            unfold cdS
            by_cases h41 : (printB r.2.2.2.2.1).2 = 41
            · simp only [e1, e2, e3, cond_true, cond_false, decide_eq_true h41, if_pos h41, jr]
              rw [h41]
            · simp only [e1, e2, e3, cond_true, decide_eq_false h41, cond_false, if_neg h41, if_neg n1]
              cases b.1 with
              | true => simp only [cond_true, jl, d1, d2, Option.bind_some, Bool.true_or]; rfl
              | false => simp only [cond_false, jl, d1, d2, Option.bind_some, Bool.false_or]; rfl
        · intro k x b b' hx hb hs
          have y := printB_size x
          have hb' : b.2.size ≤ 60 + 8006 * k := hb
          unfold cdS at hs
          split at hs
          · cases hs
          · cases hs
            show (b.2 ++ ((if k = 0 then _ else _) ++ (printB x).1)).size ≤ 60 + 8006 * (k + 1)
            split <;> simp only [size_app, bts_size, List.length_cons, List.length_nil] <;> omega
        · intro b hb
          have hb' : b.2.size ≤ 60 + 8006 * 2 := hb
          have e1 : decide (((2 : Nat) : Int) < 2) = false := rfl
          have hj : joinC (bts [32]) r.2.2.2.2.2 = some (joT (bts [32]) r.2.2.2.2.2) := joinC_T (by
            have := sum_le ((bts [32]).size + 1) 12 r.2.2.2.2.2 hun 0
            rw [bts_size] at this ⊢
            simp only [List.length_cons, List.length_nil] at this ⊢
            omega)
          have js := joT_size r.2.2.2.2.2 hun
          have d1 : catC (bts [32, 117, 110, 108, 101, 115, 115, 32]) (joT (bts [32]) r.2.2.2.2.2) = some () := cat_sm (hlit _ (by simp)) (by omega)
          have d2 : catC b.2 ((bts [32, 117, 110, 108, 101, 115, 115, 32]) ++ joT (bts [32]) r.2.2.2.2.2) = some () := cat_sm (by omega) (by simp only [size_app, bts_size, List.length_cons, List.length_nil]; omega)
          have hal : a.2.length ≤ 1000 := by have := hg.1; omega
          have e2 : decide ((([r.2.2.2.1, r.2.2.2.2.1].length : Nat) : Int) < 2) = false := rfl
          simp only [e2, cond_false, succ_W (show i + 1 < 9223372036854775808 by omega)]
          by_cases hz : r.2.2.2.2.2.length = 0
          · simp only [hz, decide_eq_false (show ¬ (((0 : Nat) : Int) > 0) by omega), cond_false, if_true, happ a.2 _ hal, Option.bind_some]
          · simp only [decide_eq_true (show ((r.2.2.2.2.2.length : Nat) : Int) > 0 by omega), cond_true, if_neg hz, hj, d1, d2, happ a.2 _ hal, Option.bind_some]
        · have hfin : (if r.2.2.2.2.2.length = 0 then rlT r else rlT r ++ (bts [32, 117, 110, 108, 101, 115, 115, 32] ++ joT (bts [32]) r.2.2.2.2.2)) = lnT r := by
            unfold lnT
            cases r.2.2.2.2.2 with
            | nil => rfl
            | cons x l => rw [if_neg (by simp), unT_join]
          have er : (hdT r ++ (bts [32, 119, 104, 101, 110, 32] ++ (printB r.2.2.2.1).1)) ++ (bts [32, 109, 117, 115, 116, 32] ++ (printB r.2.2.2.2.1).1) = rlT r := by
            unfold rlT; simp only [app_as]
          unfold rlP badR longR
          simp only [foldS, cdS]
          by_cases h1 : (printB r.2.2.2.1).2 = 41
          · simp only [h1, if_true, decide_true, Bool.true_or]
          · by_cases h2 : (printB r.2.2.2.2.1).2 = 41
            · simp only [h1, h2, if_true, if_false, decide_true, decide_false, Bool.or_true]
            · have n1 : ¬ (0 + 1 = 0) := by omega
              simp only [h1, h2, if_true, if_false, decide_false, Bool.or_false, Bool.false_eq_true, n1, er, hfin, Bool.or_assoc]
      · intro i r a a' hr hg hs
        obtain ⟨r1, r2, r3, r4, r5, r6⟩ := b5 i r hr
        have hun : ∀ u ∈ r.2.2.2.2.2, u.size ≤ 12 := fun u hu => by
          obtain ⟨k, hk⟩ := List.getElem?_of_mem hu
          exact nm_size (r6 k u hk)
        have z := lnT_size ⟨r1, r2, r3, r4⟩ r5 hun
        obtain ⟨g1, g2, y, l, g3⟩ := hg
        unfold rlP at hs
        split at hs
        · cases hs
        · cases hs
          refine ⟨by show (a.2 ++ [lnT r]).length ≤ _; rw [List.length_append]; simp; omega, fun x hx => ?_, y, l ++ [lnT r], by show a.2 ++ [lnT r] = _; rw [g3]; rfl⟩
          rcases List.mem_append.1 hx with hx | hx
          · exact g2 x hx
          · rcases List.mem_singleton.1 hx with rfl; omega
      · intro a hg
        obtain ⟨g1, g2, y, l, g3⟩ := hg
        have hsum := sum_le ((bts [10]).size + 1) 16200 a.2 g2 0
        have hb1 : (bts [10]).size = 1 := by rw [bts_size]; rfl
        rw [hb1] at hsum
        have hj : joinC (bts [10]) a.2 = some (joT (bts [10]) a.2) := joinC_T (by rw [hb1]; omega)
        have hnl : joT (bts [10]) a.2 ++ bts [10] = txL a.2 := by rw [g3]; exact joT_nl y l
        have hsz : (joT (bts [10]) a.2).size ≤ 1000000 := by
          rw [g3] at g2 ⊢
          have hf : ∀ (m : List ByteArray), (∀ y ∈ m, y.size ≤ 16200) → ∀ b : ByteArray, (m.foldl (fun r y => r ++ bts [10] ++ y) b).size ≤ b.size + 16201 * m.length := by
            intro m
            induction m with
            | nil => intro _ b; simp
            | cons w m ih =>
              intro hm b
              have h1 := ih (fun z hz => hm z (List.mem_cons_of_mem _ hz)) (b ++ bts [10] ++ w)
              have h2 := hm w (List.mem_cons_self ..)
              simp only [size_app, hb1] at h1
              rw [List.foldl_cons, List.length_cons]; omega
          have h1 := hf l (fun z hz => g2 z (List.mem_cons_of_mem _ hz)) y
          have h2 := g2 y (List.mem_cons_self ..)
          rw [g3, List.length_cons] at g1
          show (l.foldl (fun r y => r ++ bts [10] ++ y) y).size ≤ 1000000
          omega
        have d1 : catC (joT (bts [10]) a.2) (bts [10]) = some () := cat_sm hsz (hlit _ (by simp))
        simp only [dnlt, cond_false, hj, Option.bind_some, d1, hnl]
        congr 1
        by_cases hl : a.1 = true
        · simp only [hl, cond_true, jl, true_or, if_true]
        · have hl' : a.1 = false := by simpa using hl
          simp only [hl', cond_false, jl, Bool.false_eq_true, false_or]
          by_cases h8 : 8000 < (txL a.2).size
          · simp only [decide_eq_true (show ((txL a.2).size : Int) > 8000 by omega), cond_true, if_pos h8]
          · simp only [decide_eq_false (show ¬ ((txL a.2).size : Int) > 8000 by omega), cond_false, if_neg h8]
      · cases foldS rlP c.2.2 0 (false, s) <;> rfl
    · have hmap : ∀ (l : List Fct) (i : Nat) (a : List ByteArray), foldI (fun f _ a => a ++ [fcT f]) l i a = a ++ l.map fcT := by
        intro l
        induction l with
        | nil => intro i a; simp [foldI]
        | cons f l ih => intro i a; show foldI _ l (i + 1) (a ++ [fcT f]) = _; rw [ih, List.append_assoc]; rfl
      rw [hmap]
      show (match foldS rlP c.2.2 0 (false, ((bts [99, 111, 100, 101, 32]) ++ c.1) :: c.2.1.map fcT) with
        | .inr e => some e
        | .inl a => some (if a.1 = true ∨ 8000 < (txL a.2).size then (bts [], 2) else (txL a.2, 0))) = _
      cases foldS rlP c.2.2 0 (false, ((bts [99, 111, 100, 101, 32]) ++ c.1) :: c.2.1.map fcT) <;> rfl
  · simp only [decide_eq_false h0, Bool.not_false, cond_true, if_pos (show codeE c ≠ 0 from h0)]
end Go.K
namespace Go.K
open Go.Sl Go.Sx Go.Proofs
def nuW (w : ByteArray) (sg : Bool) : Int × Bool := pairN (num 13 w.data.toList sg)
end Go.K
namespace Go.K
open Go.Sl Go.Sx Go.Proofs
abbrev wMust : ByteArray := bts [109, 117, 115, 116]
abbrev wUnl : ByteArray := bts [117, 110, 108, 101, 115, 115]
abbrev wWhen : ByteArray := bts [119, 104, 101, 110]
abbrev wFact : ByteArray := bts [102, 97, 99, 116]
abbrev wRule : ByteArray := bts [114, 117, 108, 101]
abbrev wCode : ByteArray := bts [99, 111, 100, 101]
theorem qWhen (w : ByteArray) : (w.data.toList == [UInt8.ofNat 119, UInt8.ofNat 104, UInt8.ofNat 101, UInt8.ofNat 110]) = decide (w = wWhen) := eqD w wWhen
theorem qMust (w : ByteArray) : (w.data.toList == [UInt8.ofNat 109, UInt8.ofNat 117, UInt8.ofNat 115, UInt8.ofNat 116]) = decide (w = wMust) := eqD w wMust
theorem qFact (w : ByteArray) : (w.data.toList == [UInt8.ofNat 102, UInt8.ofNat 97, UInt8.ofNat 99, UInt8.ofNat 116]) = decide (w = wFact) := eqD w wFact
theorem qRule (w : ByteArray) : (w.data.toList == [UInt8.ofNat 114, UInt8.ofNat 117, UInt8.ofNat 108, UInt8.ofNat 101]) = decide (w = wRule) := eqD w wRule
theorem qCode (w : ByteArray) : (w.data.toList == [UInt8.ofNat 99, UInt8.ofNat 111, UInt8.ofNat 100, UInt8.ofNat 101]) = decide (w = wCode) := eqD w wCode
def ixW (e : ByteArray) : List ByteArray → Nat
  | [] => 0
  | x :: r => if x = e then 0 else ixW e r + 1
theorem ixW_le (e : ByteArray) : ∀ l : List ByteArray, ixW e l ≤ l.length
  | [] => Nat.le_refl _
  | x :: r => by
    have := ixW_le e r
    unfold ixW
    split
    · omega
    · rw [List.length_cons]; omega
theorem ixW_drop (e : ByteArray) : ∀ l : List ByteArray, l.drop (ixW e l) = [] ∨ ∃ r, l.drop (ixW e l) = e :: r
  | [] => .inl rfl
  | x :: r => by
    unfold ixW
    by_cases h : x = e
    · rw [if_pos h, h]; exact .inr ⟨r, rfl⟩
    · rw [if_neg h]; exact ixW_drop e r
theorem drop_wAt {l : List ByteArray} {i : Nat} (hi : i < l.length) : l.drop i = wAt l i :: l.drop (i + 1) := by
  rw [List.drop_eq_getElem_cons hi]
  unfold wAt
  rw [List.getD_eq_getElem?_getD, List.getElem?_eq_getElem hi]; rfl
theorem subI_seg {α : Type} {xs : List α} {a b : Nat} (h1 : a ≤ b) (h2 : b ≤ xs.length) : subI xs (a : Int) (b : Int) = some ((xs.drop a).take (b - a)) := by
  unfold subI
  rw [if_pos ⟨by omega, by omega, by omega⟩]
  simp only [Int.toNat_natCast, List.drop_take]
theorem subI_dr {α : Type} {xs : List α} {a : Nat} (h1 : a ≤ xs.length) : subI xs (a : Int) (xs.length : Int) = some (xs.drop a) := by
  rw [subI_seg h1 (Nat.le_refl _), List.take_of_length_le (by rw [List.length_drop]; omega)]
theorem subI_tk {α : Type} {xs : List α} {b : Nat} (h2 : b ≤ xs.length) : subI xs (0 : Int) (b : Int) = some (xs.take b) := by
  have := subI_seg (xs := xs) (Nat.zero_le b) h2
  simpa using this
def factL (w : List ByteArray) : Option Fct := match w with
  | [_, a, b, c] => if nmB a = true ∧ (nuW b true).2 = true ∧ (nuW c true).2 = true then some (a, ((nuW b true).1, (nuW c true).1)) else none
  | _ => none
def ruleL (w : List ByteArray) : Option Rl := match w with
  | _ :: a :: b :: c :: d :: rest => match rest.drop (ixW wMust rest) with
    | [] => none
    | _ :: r2 => if nmB a = true ∧ (nuW b false).2 = true ∧ (nuW c false).2 = true ∧ d = wWhen ∧ (parseW (rest.take (ixW wMust rest))).2.2 = 0 ∧ (parseW (r2.take (ixW wUnl r2))).2.2 = 0 ∧ ixW wUnl r2 + 1 ≠ r2.length ∧ (r2.drop (ixW wUnl r2 + 1)).all nmB = true
      then some (a, ((nuW b false).1, ((nuW c false).1, ((parseW (rest.take (ixW wMust rest))).1, ((parseW (r2.take (ixW wUnl r2))).1, r2.drop (ixW wUnl r2 + 1)))))) else none
  | _ => none
end Go.K
namespace Go.K
open Go.Sl Go.Sx Go.Proofs
def linesB (s : ByteArray) : List ByteArray := (lns s.data.toList).map ofL
theorem linesB_len (s : ByteArray) : (linesB s).length ≤ s.size + 1 := by
  unfold linesB lns
  rw [List.length_map, size_len]
  exact Nat.le_trans (trimE_len _) (sp_len _)
theorem sp_mem : ∀ (l x : List UInt8), x ∈ sp l → x.length ≤ l.length
  | [], x, h => by
    rcases List.mem_singleton.1 h with rfl
    exact Nat.le_refl _
  | b :: r, x, h => by
    have ih := sp_mem r
    unfold sp at h
    split at h
    · rcases List.mem_cons.1 h with rfl | h
      · exact Nat.zero_le _
      · have := ih x h
        rw [List.length_cons]; omega
    · split at h
      · rename_i y ys hy
        rcases List.mem_cons.1 h with rfl | h
        · have := ih y (by rw [hy]; exact List.mem_cons_self ..)
          simp only [List.length_cons]; omega
        · have := ih x (by rw [hy]; exact List.mem_cons_of_mem _ h)
          rw [List.length_cons]; omega
      · rcases List.mem_singleton.1 h with rfl
        simp only [List.length_cons, List.length_nil]; omega
theorem linesB_size {s x : ByteArray} (h : x ∈ linesB s) : x.size ≤ s.size := by
  unfold linesB lns at h
  obtain ⟨l, hl, rfl⟩ := List.mem_map.1 h
  have hm : l ∈ sp s.data.toList := by
    unfold trimE at hl
    split at hl
    · exact (List.dropLast_sublist _).subset hl
    · exact hl
  rw [ofL_size, size_len]
  exact sp_mem _ _ hm
theorem trimE_end (m : List (List UInt8)) (y : List UInt8) : trimE (m ++ [y]) = if y = [] then m else m ++ [y] := by
  unfold trimE
  rw [List.getLast?_concat, List.dropLast_concat]
  by_cases h : y = []
  · subst h; rw [if_pos rfl, if_pos rfl]
  · rw [if_neg h, if_neg (fun e => h (by injection e))]
theorem split_lines {s : ByteArray} (hs : s.size ≤ 8000) {ρ : Type} (K : List ByteArray → Option ρ) :
    ((splitC s (bts [10]))).bind (fun r109 => jn (((getI r109 (w64 ((r109.length : Int) - (1 : Int))))).bind fun r110 => cond (r110.data.toList == ([] : List UInt8)) (((subI r109 (0 : Int) (w64 ((r109.length : Int) - (1 : Int))))).bind fun r111 => some (.inl r111)) (some (.inl r109))) K) = K (linesB s) := by
  rw [splitC_sp (by omega), Option.bind_some]
  unfold linesB lns
  have hlen := sp_len s.data.toList
  have hne := sp_ne s.data.toList
  rw [← size_len] at hlen
  obtain ⟨m, y, hy⟩ : ∃ m y, sp s.data.toList = m ++ [y] := ⟨(sp s.data.toList).dropLast, (sp s.data.toList).getLast hne, (List.dropLast_concat_getLast hne).symm⟩
  rw [hy] at hlen ⊢
  rw [List.length_append, List.length_singleton] at hlen
  have el : (List.map ofL (m ++ [y])).length = m.length + 1 := by simp
  have ew : w64 (((m.length + 1 : Nat) : Int) - 1) = (m.length : Int) := by rw [w64_in (by omega)]; omega
  have g : getI (List.map ofL (m ++ [y])) (m.length : Int) = some (ofL y) := getI_nat (by simp)
  have t : subI (List.map ofL (m ++ [y])) (0 : Int) (m.length : Int) = some (List.map ofL m) := by
    rw [subI_tk (by rw [el]; omega)]; simp
  rw [trimE_end]
  simp only [el, ew, g, Option.bind_some, eqE, ofL_data2, t]
  by_cases h : y = []
  · rw [if_pos h, decide_eq_true h]; rfl
  · rw [if_neg h, decide_eq_false h]; rfl
end Go.K
namespace Go.K
open Go.Sl Go.Sx Go.Proofs
abbrev zC : Cd := ((bts []), (([] : List (ByteArray × (Int × Int))), ([] : List (ByteArray × (Int × (Int × (Yt × (Yt × (List ByteArray)))))))))
def lineL (b : Bool) (c : Cd) (w : List ByteArray) : Option Cd :=
  if b = false then (match w with
    | [k, a] => if k = wCode ∧ nmB a = true then some (a, c.2) else none
    | _ => none)
  else if wAt w 0 = wFact then (factL w).map (fun f => (c.1, (c.2.1 ++ [f], c.2.2)))
  else if wAt w 0 = wRule then (ruleL w).map (fun r => (c.1, (c.2.1, c.2.2 ++ [r])))
  else none
theorem lineL_2 (c : Cd) (k a : ByteArray) : lineL false c [k, a] = if k = wCode ∧ nmB a = true then some (a, c.2) else none := rfl
def stepL (s : ByteArray) (i : Nat) (a : Bool × Cd) : (Bool × Cd) ⊕ (Cd × (Int × Int)) :=
  if wordsB s = [] ∨ s.data.toList.head? = some 35 then .inl a else match lineL a.1 a.2 (wordsB s) with
    | some c => .inl (true, c)
    | none => .inr (zC, (((i + 1 : Nat) : Int), 46))
def finL (n : Nat) (a : Bool × Cd) : Cd × (Int × Int) := if a.1 = false then (zC, (((n + 1 : Nat) : Int), 46)) else if codeE a.2 = 0 then (a.2, (0, 0)) else (zC, (0, codeE a.2))
def parseL (s : ByteArray) : Cd × (Int × Int) := if 8000 < s.size then (zC, (0, 2)) else match foldS stepL (linesB s) 0 (false, zC) with
  | .inr e => e
  | .inl a => finL (linesB s).length a
theorem lineL_len {b : Bool} {c c' : Cd} {w : List ByteArray} (h : lineL b c w = some c') : c'.2.1.length ≤ c.2.1.length + 1 ∧ c'.2.2.length ≤ c.2.2.length + 1 := by
  unfold lineL at h
  split at h
  · split at h
    · split at h
      · cases h
        exact ⟨Nat.le_succ _, Nat.le_succ _⟩
      · cases h
    · cases h
  · split at h
    · cases hf : factL w with
      | none => rw [hf] at h; cases h
      | some f => rw [hf] at h; cases h; refine ⟨by simp, by simp⟩
    · split at h
      · cases hf : ruleL w with
        | none => rw [hf] at h; cases h
        | some f => rw [hf] at h; cases h; refine ⟨by simp, by simp⟩
      · cases h
theorem stepL_len {s : ByteArray} {i : Nat} {a a' : Bool × Cd} (h : stepL s i a = .inl a') (hg : a.2.2.1.length ≤ i ∧ a.2.2.2.length ≤ i) : a'.2.2.1.length ≤ i + 1 ∧ a'.2.2.2.length ≤ i + 1 := by
  unfold stepL at h
  split at h
  · cases h; omega
  · split at h
    · rename_i c hc
      cases h
      have := lineL_len hc
      show c.2.1.length ≤ i + 1 ∧ c.2.2.length ≤ i + 1
      omega
    · cases h
theorem words_nil {s : ByteArray} (h : s.data.toList = []) : wordsB s = [] := by
  unfold wordsB; rw [h]; rfl
theorem byte0 {s : ByteArray} (h : ¬ wordsB s = []) : ∃ b, byteAt s (0 : Int) = some ((b.toNat : Nat) : Int) ∧ s.data.toList.head? = some b := by
  cases hl : s.data.toList with
  | nil => exact absurd (words_nil hl) h
  | cons b r =>
    refine ⟨b, ?_, rfl⟩
    have e : s = ofL (b :: r) := ofL_eq hl
    rw [e]
    exact byteAt_ofL (i := 0) rfl
end Go.K
namespace Go.K
open Go.Sl Go.Sx Go.Proofs
theorem sm_l {α β ρ : Type} (a : α) (f : α → Option ρ) (g : β → Option ρ) : sm (.inl a) f g = f a := rfl
theorem sm_r {α β ρ : Type} (b : β) (f : α → Option ρ) (g : β → Option ρ) : sm (.inr b) f g = g b := rfl
def GoodW (l : List ByteArray) : Prop := ∀ x ∈ l, x.data.toList ≠ [] ∧ ∀ b ∈ x.data.toList, b ≠ 32
def sumW : List ByteArray → Nat
  | [] => 0
  | x :: r => x.size + 1 + sumW r
theorem sumW_c (x : ByteArray) (r : List ByteArray) : sumW (x :: r) = x.size + 1 + sumW r := rfl
theorem GoodW.tl {x : ByteArray} {l : List ByteArray} (h : GoodW (x :: l)) : GoodW l := fun y hy => h y (List.mem_cons_of_mem _ hy)
theorem GoodW.take {l : List ByteArray} (h : GoodW l) (n : Nat) : GoodW (l.take n) := fun y hy => h y (List.mem_of_mem_take hy)
theorem GoodW.drop {l : List ByteArray} (h : GoodW l) (n : Nat) : GoodW (l.drop n) := fun y hy => h y (List.mem_of_mem_drop hy)
theorem sumW_app (l m : List ByteArray) : sumW (l ++ m) = sumW l + sumW m := by
  induction l with
  | nil => simp [sumW]
  | cons x l ih => rw [List.cons_append, sumW_c, sumW_c, ih]; omega
theorem sumW_take (l : List ByteArray) (n : Nat) : sumW (l.take n) + sumW (l.drop n) = sumW l := by
  rw [← sumW_app, List.take_append_drop]
theorem sumW_len (l : List ByteArray) : l.length ≤ sumW l := by
  induction l with
  | nil => exact Nat.zero_le _
  | cons x l ih => rw [sumW_c, List.length_cons]; omega
theorem sumW_mem {l : List ByteArray} {x : ByteArray} (h : x ∈ l) : x.size + 1 ≤ sumW l := by
  induction l with
  | nil => cases h
  | cons y l ih =>
    rw [sumW_c]
    rcases List.mem_cons.1 h with e | e
    · subst e; omega
    · have := ih e; omega
theorem wd_good : ∀ (r cur : List UInt8), (∀ b ∈ cur, b ≠ 32) → ∀ u ∈ wd cur r, u ≠ [] ∧ ∀ b ∈ u, b ≠ 32
  | [], cur, hc, u, h => by
    unfold wd at h
    split at h
    · cases h
    · rename_i hn
      rcases List.mem_singleton.1 h with rfl
      exact ⟨hn, hc⟩
  | b :: r, cur, hc, u, h => by
    unfold wd at h
    split at h
    · split at h
      · exact wd_good r [] (by simp) u h
      · rename_i hn
        rcases List.mem_cons.1 h with rfl | h
        · exact ⟨hn, hc⟩
        · exact wd_good r [] (by simp) u h
    · rename_i hb
      exact wd_good r (cur ++ [b]) (fun c h => by
        rcases List.mem_append.1 h with h | h
        · exact hc c h
        · rcases List.mem_singleton.1 h with rfl; exact hb) u h
theorem words_good (s : ByteArray) : GoodW (wordsB s) := by
  intro x hx
  unfold wordsB at hx
  obtain ⟨l, hl, rfl⟩ := List.mem_map.1 hx
  rw [ofL_data2]
  exact wd_good _ [] (by simp) l hl
theorem wd_sum : ∀ (r cur : List UInt8), sumW ((wd cur r).map ofL) ≤ cur.length + r.length + 1
  | [], cur => by
    unfold wd
    split
    · exact Nat.zero_le _
    · show (ofL cur).size + 1 + 0 ≤ _
      rw [ofL_size]; simp
  | b :: r, cur => by
    have h1 := wd_sum r []
    have h2 := wd_sum r (cur ++ [b])
    unfold wd
    rw [List.length_cons]
    rw [List.length_nil] at h1
    rw [List.length_append, List.length_singleton] at h2
    split
    · split
      · omega
      · show (ofL cur).size + 1 + sumW ((wd [] r).map ofL) ≤ _
        rw [ofL_size]; omega
    · omega
theorem words_sum (s : ByteArray) : sumW (wordsB s) ≤ s.size + 1 := by
  have := wd_sum s.data.toList []
  rw [size_len]
  unfold wordsB
  simpa using this
theorem joT_go : ∀ (l : List ByteArray) (a : ByteArray), (l.foldl (fun r y => r ++ bts [32] ++ y) a).size = a.size + sumW l
  | [], a => rfl
  | y :: l, a => by
    rw [List.foldl_cons, joT_go l, sumW_c, size_app, size_app, bts_size]
    simp only [List.length_cons, List.length_nil]; omega
theorem joT_sum (l : List ByteArray) : (joT (bts [32]) l).size ≤ sumW l - 1 := by
  unfold joT
  cases l with
  | nil => exact Nat.zero_le _
  | cons x l =>
    simp only
    rw [joT_go, sumW_c]; omega
theorem words_fold : ∀ (l : List ByteArray) (a : ByteArray), GoodW l → wordsB (l.foldl (fun r y => r ++ bts [32] ++ y) a) = wordsB a ++ l
  | [], a, _ => by rw [List.append_nil]; rfl
  | y :: l, a, h => by
    rw [List.foldl_cons, words_fold l _ h.tl, words_sp, words_one (h y (List.mem_cons_self ..)).1 (h y (List.mem_cons_self ..)).2, List.append_assoc]; rfl
theorem words_jo {l : List ByteArray} (h : GoodW l) : wordsB (joT (bts [32]) l) = l := by
  unfold joT
  cases l with
  | nil => rfl
  | cons x l =>
    simp only
    rw [words_fold l x h.tl, words_one (h x (List.mem_cons_self ..)).1 (h x (List.mem_cons_self ..)).2]; rfl
theorem G199_t : G199 LF true = some (.inl ()) := rfl
theorem G199_f : G199 LF false = some (.inr 0) := rfl
theorem G198_nil : G198 LF ((([] : List ByteArray), ()), ()) = some (.inr 0) := rfl
theorem G198_cons (x : ByteArray) (r : List ByteArray) : G198 LF ((x :: r, ()), ()) = some (.inl ((r, ()), x)) := by
  unfold G198
  have e : decide (((x :: r).length : Int) > 0) = true := decide_eq_true (by rw [List.length_cons]; omega)
  have g : getI (x :: r) (0 : Int) = some x := getI_nat (i := 0) rfl
  have s : subI (x :: r) (1 : Int) (((x :: r).length : Nat) : Int) = some r := (subI_dr (xs := x :: r) (a := 1) (by rw [List.length_cons]; omega)).trans rfl
  simp only [e, G199_t, Option.bind_some, sm_l, g, s]
theorem G200_nil : G200 LF ((([] : List ByteArray), ()), ()) = some (.inr 0) := by
  unfold G200
  simp only [G198_nil, Option.bind_some, sm_r]
theorem G200_cons (x : ByteArray) (r : List ByteArray) : G200 LF ((x :: r, ()), ()) = some (if nmB x = true then .inl ((r, ()), x) else .inr 0) := by
  unfold G200
  simp only [G198_cons, Option.bind_some, sm_l, G94_nm]
  cases nmB x with
  | true => simp only [G199_t, Option.bind_some, sm_l, if_true]
  | false => simp only [G199_f, Option.bind_some, sm_r, Bool.false_eq_true, if_false]
theorem nu_ofL (w : ByteArray) (sg : Bool) (hl : w.size ≤ 8000) : G244 LF (w, sg) = some (nuW w sg) := by
  have := G244_num w.data.toList sg (by rw [← size_len]; omega)
  rwa [ofL_back] at this
theorem G239_nil (sg : Bool) : G239 LF ((([] : List ByteArray), ()), sg) = some (.inr 0) := by
  unfold G239
  simp only [G198_nil, Option.bind_some, sm_r]
theorem G239_cons (x : ByteArray) (r : List ByteArray) (sg : Bool) (hl : x.size ≤ 8000) : G239 LF ((x :: r, ()), sg) = some (if (nuW x sg).2 = true then .inl ((r, ()), (nuW x sg).1) else .inr 0) := by
  unfold G239
  simp only [G198_cons, Option.bind_some, sm_l, nu_ofL x sg hl]
  cases (nuW x sg).2 with
  | true => simp only [G199_t, Option.bind_some, sm_l, if_true]
  | false => simp only [G199_f, Option.bind_some, sm_r, Bool.false_eq_true, if_false]
theorem G266_has (e x : ByteArray) : G266 LF ([e], x) = some (decide (e = x)) := by
  unfold G266
  refine (iter_scan (fun (y : ByteArray) _ => if y = x then some true else none) [e] (some false) (fun i y hy _ => ?_) (fun _ => ?_) (by show 1 < 9223372036854775808; omega)).trans ?_
  · have hi := (List.getElem?_eq_some_iff.1 hy).1
    simp only [List.length_singleton] at hi
    simp only [dlt (show i < [e].length from hi), cond_true, getI_nat hy, Option.bind_some, eqD, succ_W (show i + 1 < 9223372036854775808 by omega)]
    by_cases h : y = x
    · rw [decide_eq_true h, if_pos h]; rfl
    · rw [decide_eq_false h, if_neg h]; rfl
  · simp only [dnlt, cond_false]; rfl
  · simp only [scan]
    by_cases h : e = x
    · rw [if_pos h, decide_eq_true h]
    · rw [if_neg h, decide_eq_false h]
theorem ix_loop {ρ : Type} {f : Int → Option (Int ⊕ ρ)} (F : Int → ρ) (e : ByteArray) (l : List ByteArray) (h1 : ∀ i : Nat, i < l.length → f (i : Int) = some (if wAt l i = e then .inr (F (i : Int)) else .inl ((i + 1 : Nat) : Int))) (h2 : f (l.length : Int) = some (.inr (F (l.length : Int)))) :
    ∀ (k lf i : Nat), l.length = i + k → k < lf → iter lf f (i : Int) = some (F ((i + ixW e (l.drop i) : Nat) : Int))
  | 0, lf + 1, i, hk, _ => by
    have hi : i = l.length := by omega
    subst hi
    simp only [iter, h2, List.drop_length]; rfl
  | k + 1, lf + 1, i, hk, hf => by
    have hi : i < l.length := by omega
    rw [drop_wAt hi]
    simp only [iter, h1 i hi]
    unfold ixW
    by_cases h : wAt l i = e
    · rw [if_pos h, if_pos h]; rfl
    · rw [if_neg h, if_neg h]
      have := ix_loop F e l h1 h2 k lf (i + 1) (by omega) (by omega)
      simp only
      rw [this, show i + 1 + ixW e (l.drop (i + 1)) = i + (ixW e (l.drop (i + 1)) + 1) by omega]
  | _, 0, _, _, h => by omega
theorem G240_upto {ws : List ByteArray} (hg : GoodW ws) (hs : sumW ws ≤ 8001) (e : ByteArray) : G240 LF ((ws, ()), [e]) = some (if (parseW (ws.take (ixW e ws))).2.2 = 0 then .inl ((ws.drop (ixW e ws), ()), (parseW (ws.take (ixW e ws))).1) else .inr 0) := by
  have hl := sumW_len ws
  have hn := ixW_le e ws
  unfold G240
  have hloop := ix_loop (ρ := (Int ⊕ ((((List ByteArray) × Unit) × Yt) ⊕ Int))) (f := fun y13 : Int => cond (decide (y13 < (ws.length : Int))) (((getI ws y13)).bind fun r14 => ((G266 LF ([e], r14))).bind fun r15 => cond (!r15) (some (.inl (w64 (y13 + (1 : Int))))) (some (.inr (.inl y13)))) (some (.inr (.inl y13)))) (fun i => .inl i) e ws
    (fun i hi => by
      simp only [dlt hi, cond_true, getI_w hi, Option.bind_some, G266_has, succ_W (show i + 1 < 9223372036854775808 by omega)]
      by_cases h : wAt ws i = e
      · rw [if_pos h, decide_eq_true h.symm]; rfl
      · rw [if_neg h, decide_eq_false (fun k => h k.symm)]; rfl)
    (by simp only [dnlt, cond_false]) ws.length LF 0 (by omega) (by show ws.length < 9223372036854775808; omega)
  rw [Nat.zero_add, List.drop_zero] at hloop
  have hst := sumW_take ws (ixW e ws)
  have hjs := joT_sum (ws.take (ixW e ws))
  have hjo : joinC (bts [32]) (ws.take (ixW e ws)) = some (joT (bts [32]) (ws.take (ixW e ws))) := joinC_T (by
    have := sum_le ((bts [32]).size + 1) 8001 (ws.take (ixW e ws)) (fun x hx => by have := sumW_mem hx; omega) 0
    have h2 : (ws.take (ixW e ws)).length ≤ 8001 := by rw [List.length_take]; omega
    have h3 : (bts [32]).size = 1 := rfl
    have h4 : (ws.take (ixW e ws)).length * (8001 + ((bts [32]).size + 1)) ≤ 8001 * (8001 + ((bts [32]).size + 1)) := Nat.mul_le_mul_right _ h2
    rw [h3] at h4 this ⊢
    omega)
  have hp : parseB (joT (bts [32]) (ws.take (ixW e ws))) = parseW (ws.take (ixW e ws)) := by
    unfold parseB
    rw [if_neg (by omega), words_jo (hg.take _)]
  have e0 : (0 : Int) = ((0 : Nat) : Int) := rfl
  refine (congrArg (fun z => jn z _) hloop).trans ?_
  rw [jl]
  simp only [subI_tk hn, Option.bind_some, hjo, G17_parse, hp]
  by_cases h0 : (parseW (ws.take (ixW e ws))).2.2 = 0
  · simp only [decide_eq_true h0, G199_t, Option.bind_some, sm_l, subI_dr hn, if_pos h0]
  · simp only [decide_eq_false h0, G199_f, Option.bind_some, sm_r, if_neg h0]
theorem G201_fact {ws : List ByteArray} (hs : sumW ws ≤ 8001) : (∃ q, G201 LF ((ws, ()), ()) = some (.inr q) ∧ ∀ z, factL (z :: ws) = none) ∨
    (∃ r f, G201 LF ((ws, ()), ()) = some (.inl ((r, ()), f)) ∧ ∀ z, factL (z :: ws) = if r = [] then some f else none) := by
  have hz : ∀ x ∈ ws, x.size ≤ 8000 := fun x hx => by have := sumW_mem hx; omega
  unfold G201
  match ws, hz with
  | [], _ => exact .inl ⟨0, by simp only [G200_nil, Option.bind_some, sm_r], fun _ => rfl⟩
  | [a], _ =>
    refine .inl ⟨0, ?_, fun _ => rfl⟩
    simp only [G200_cons, Option.bind_some]
    by_cases ha : nmB a = true
    · simp only [if_pos ha, sm_l, G239_nil, Option.bind_some, sm_r]
    · simp only [if_neg ha, sm_r]
  | [a, b], hz =>
    refine .inl ⟨0, ?_, fun _ => rfl⟩
    simp only [G200_cons, Option.bind_some]
    by_cases ha : nmB a = true
    · simp only [if_pos ha, sm_l, G239_cons b [] true (hz b (by simp)), Option.bind_some]
      by_cases hb : (nuW b true).2 = true
      · simp only [if_pos hb, sm_l, G239_nil, Option.bind_some, sm_r]
      · simp only [if_neg hb, sm_r]
    · simp only [if_neg ha, sm_r]
  | a :: b :: c :: r, hz =>
    simp only [G200_cons, Option.bind_some]
    have hF : ∀ z, ¬ (nmB a = true ∧ (nuW b true).2 = true ∧ (nuW c true).2 = true) → factL (z :: a :: b :: c :: r) = none := by
      intro z h
      cases r with
      | nil => exact if_neg h
      | cons _ _ => rfl
    by_cases ha : nmB a = true
    rotate_left
    · refine .inl ⟨0, by simp only [if_neg ha, sm_r], fun z => hF z fun h => ha h.1⟩
    simp only [if_pos ha, sm_l, G239_cons b (c :: r) true (hz b (by simp)), Option.bind_some]
    by_cases hb : (nuW b true).2 = true
    rotate_left
    · refine .inl ⟨0, by simp only [if_neg hb, sm_r], fun z => hF z fun h => hb h.2.1⟩
    simp only [if_pos hb, sm_l, G239_cons c r true (hz c (by simp)), Option.bind_some]
    by_cases hc : (nuW c true).2 = true
    rotate_left
    · refine .inl ⟨0, by simp only [if_neg hc, sm_r], fun z => hF z fun h => hc h.2.2⟩
    refine .inr ⟨r, (a, ((nuW b true).1, (nuW c true).1)), by simp only [if_pos hc, sm_l], fun z => ?_⟩
    cases r with
    | nil => exact if_pos ⟨ha, hb, hc⟩
    | cons _ _ => rfl
end Go.K
namespace Go.K
open Go.Sl Go.Sx Go.Proofs
def NB (s : ByteArray) : Prop := ∀ b ∈ s.data.toList, b ≠ 10
theorem NB_app {a b : ByteArray} (ha : NB a) (hb : NB b) : NB (a ++ b) := fun x hx => by
  rw [app_data] at hx
  rcases List.mem_append.1 hx with h | h
  · exact ha x h
  · exact hb x h
theorem sp_c (b : UInt8) (r : List UInt8) : sp (b :: r) = if b = 10 then [] :: sp r else match sp r with
    | x :: xs => (b :: x) :: xs
    | [] => [[b]] := rfl
theorem foldS_c {σ A ρ : Type} (step : σ → Nat → A → A ⊕ ρ) (x : σ) (r : List σ) (i : Nat) (a : A) : foldS step (x :: r) i a = match step x i a with
    | .inl a' => foldS step r (i + 1) a'
    | .inr e => .inr e := rfl
theorem sp_line : ∀ (x r : List UInt8), (∀ b ∈ x, b ≠ 10) → sp (x ++ 10 :: r) = x :: sp r
  | [], r, _ => by
    show (if (10 : UInt8) = 10 then _ else _) = _
    rw [if_pos rfl]
  | b :: x, r, h => by
    have hb := h b (List.mem_cons_self ..)
    rw [List.cons_append, sp_c, if_neg hb, sp_line x r fun c hc => h c (List.mem_cons_of_mem _ hc)]
theorem txL_data : ∀ (l : List ByteArray) (a : ByteArray), (l.foldl (fun a x => a ++ (x ++ bts [10])) a).data.toList = a.data.toList ++ l.flatMap fun x => x.data.toList ++ [10]
  | [], a => by simp
  | x :: l, a => by
    rw [List.foldl_cons, txL_data l, app_data, app_data, List.flatMap_cons, List.append_assoc]; rfl
theorem sp_tx : ∀ (l : List ByteArray), (∀ x ∈ l, NB x) → sp (l.flatMap fun x => x.data.toList ++ [10]) = (l.map fun x => x.data.toList) ++ [[]]
  | [], _ => rfl
  | x :: l, h => by
    rw [List.flatMap_cons, List.append_assoc, List.singleton_append, sp_line _ _ (h x (List.mem_cons_self ..)), sp_tx l fun y hy => h y (List.mem_cons_of_mem _ hy)]; rfl
theorem lines_tx {l : List ByteArray} (h : ∀ x ∈ l, NB x) : linesB (txL l) = l := by
  unfold linesB lns txL
  rw [txL_data]
  show List.map ofL (trimE (sp ([] ++ _))) = l
  rw [List.nil_append, sp_tx l h, trimE_end, if_pos rfl, List.map_map]
  have : ∀ m : List ByteArray, m.map (ofL ∘ fun x => x.data.toList) = m := by
    intro m
    induction m with
    | nil => rfl
    | cons x m ih => rw [List.map_cons, ih]; show ofL x.data.toList :: m = _; rw [ofL_back]
  exact this l
theorem NB_nm {w : ByteArray} (h : nmB w = true) : NB w := by
  unfold nmB at h
  simp only [Bool.and_eq_true, decide_eq_true_eq] at h
  intro b hb e
  have hs : scan chB w.data.toList 0 = none := by simpa using h.2
  obtain ⟨i, hi⟩ := List.getElem?_of_mem hb
  have := scan_noneW chB _ 0 hs i b hi
  subst e
  unfold chB at this
  have e1 : letB 10 = false := by decide
  have e2 : digB 10 = false := by decide
  rw [e1, e2] at this
  cases this
theorem NB_It (n : Int) : NB (It n) := by
  intro b hb
  unfold It at hb
  rw [ofL_data] at hb
  exact itoa_no hb (by decide) (by decide)
theorem NB_op {k : Int} (neg : Bool) (h : 1 ≤ k ∧ k ≤ 3) : NB (opT k neg) := by
  have : k = 1 ∨ k = 2 ∨ k = 3 := by omega
  unfold NB
  rcases this with e | e | e <;> subst e <;> cases neg <;> decide
theorem NB_32 : NB (bts [32]) := by unfold NB; decide
theorem NB_cmp {k n : Int} {w : ByteArray} (neg : Bool) (h : OkE (.cp k w n)) : NB (cmpT (k, (0, (0, (w, n)))) neg) :=
  NB_app (NB_app (NB_app (NB_app (NB_nm h.2.1) NB_32) (NB_op neg h.1)) NB_32) (NB_It n)
theorem NB_rd {s : ByteArray} (h : NB s) (b : Bool) : NB (rdT s b) := by
  cases b with
  | false => exact h
  | true => exact NB_app (NB_app (by unfold NB; decide) h) (by unfold NB; decide)
theorem NB_tx : ∀ e, OkE e → NB (tx e)
  | .tr, _ => by show NB (bts [116, 114, 117, 101]); unfold NB; decide
  | .cp k w n, h => NB_cmp false h
  | .nt e, h => by
    have h : OkE e := h
    cases hc : isC e with
    | true =>
      cases e with
      | cp k w n => exact NB_cmp true h
      | _ => cases hc
    | false =>
      rw [tx_nt hc]
      exact NB_app (by unfold NB; decide) (NB_rd (NB_tx e h) _)
  | .an x y, h => NB_app (NB_app (NB_rd (NB_tx x h.1) _) (by unfold NB; decide)) (NB_rd (NB_tx y h.2) _)
  | .or x y, h => NB_app (NB_app (NB_tx x h.1) (by unfold NB; decide)) (NB_rd (NB_tx y h.2) _)
theorem ixW_none {e : ByteArray} : ∀ {l : List ByteArray}, (∀ x ∈ l, x ≠ e) → ixW e l = l.length
  | [], _ => rfl
  | x :: l, h => by
    unfold ixW
    rw [if_neg (h x (List.mem_cons_self ..)), ixW_none fun y hy => h y (List.mem_cons_of_mem _ hy)]; rfl
theorem ixW_app {e : ByteArray} : ∀ {l : List ByteArray} (z : List ByteArray), (∀ x ∈ l, x ≠ e) → ixW e (l ++ e :: z) = l.length
  | [], z, _ => by
    show (if e = e then 0 else _) = 0
    rw [if_pos rfl]
  | x :: l, z, h => by
    rw [List.cons_append]
    unfold ixW
    rw [if_neg (h x (List.mem_cons_self ..)), ixW_app z fun y hy => h y (List.mem_cons_of_mem _ hy)]; rfl
theorem nm_no2 {w : ByteArray} (h : nmB w = true) : w ≠ wMust ∧ w ≠ wUnl := by
  refine ⟨fun e => ?_, fun e => ?_⟩
  · subst e; exact absurd h (by decide)
  · subst e; exact absurd h (by decide)
theorem It_no2 (n : Int) : It n ≠ wMust ∧ It n ≠ wUnl := by
  have key : ∀ b ∈ (It n).data.toList, b ≠ 117 := fun b hb => by
    unfold It at hb
    rw [ofL_data] at hb
    exact itoa_no hb (by decide) (by decide)
  refine ⟨fun e => key 117 ?_ rfl, fun e => key 117 ?_ rfl⟩
  · rw [e]; decide
  · rw [e]; decide
theorem op_no2 {k : Int} (neg : Bool) (h : 1 ≤ k ∧ k ≤ 3) : opT k neg ≠ wMust ∧ opT k neg ≠ wUnl := by
  have : k = 1 ∨ k = 2 ∨ k = 3 := by omega
  rcases this with e | e | e <;> subst e <;> cases neg <;> decide
theorem rw_no {l : List ByteArray} {j : Nat} (h : ∀ x ∈ l, x ≠ wMust ∧ x ≠ wUnl) : ∀ x ∈ rwW l j, x ≠ wMust ∧ x ≠ wUnl := by
  intro x hx
  unfold rwW at hx
  split at hx
  · rcases List.mem_cons.1 hx with rfl | hx
    · decide
    · rcases List.mem_append.1 hx with hx | hx
      · exact h x hx
      · rcases List.mem_singleton.1 hx with rfl; decide
  · exact h x hx
theorem cmp_no {k n : Int} {w : ByteArray} (neg : Bool) (h : OkE (.cp k w n)) : ∀ x ∈ [w, opT k neg, It n], x ≠ wMust ∧ x ≠ wUnl := by
  intro x hx
  simp only [List.mem_cons, List.not_mem_nil, or_false] at hx
  rcases hx with rfl | rfl | rfl
  · exact nm_no2 h.2.1
  · exact op_no2 neg h.1
  · exact It_no2 n
theorem tw_no : ∀ e, OkE e → ∀ x ∈ tw e, x ≠ wMust ∧ x ≠ wUnl
  | .tr, _, x, hx => by
    rcases List.mem_singleton.1 hx with rfl; decide
  | .cp k w n, h, x, hx => cmp_no false h x hx
  | .nt e, h, x, hx => by
    have h : OkE e := h
    cases hc : isC e with
    | true =>
      cases e with
      | cp k w n => exact cmp_no true h x hx
      | _ => cases hc
    | false =>
      rw [tw_nt hc] at hx
      rcases List.mem_cons.1 hx with rfl | hx
      · decide
      · exact rw_no (tw_no e h) x hx
  | .an a b, h, x, hx => by
    rcases List.mem_append.1 hx with hx | hx
    · exact rw_no (tw_no a h.1) x hx
    · rcases List.mem_cons.1 hx with rfl | hx
      · decide
      · exact rw_no (tw_no b h.2) x hx
  | .or a b, h, x, hx => by
    rcases List.mem_append.1 hx with hx | hx
    · exact tw_no a h.1 x hx
    · rcases List.mem_cons.1 hx with rfl | hx
      · decide
      · exact rw_no (tw_no b h.2) x hx
theorem nu_It {n : Int} {sg : Bool} (hs : n < 0 → sg = true) (h : -1000000000000 ≤ n ∧ n ≤ 1000000000000) : nuW (It n) sg = (n, true) := by
  unfold nuW It
  rw [ofL_data, num_itoaW hs h]; rfl
theorem words_It (n : Int) : wordsB (It n) = [It n] := words_one (It_no n).1 (It_no n).2
theorem words_nm {w : ByteArray} (h : nmB w = true) : wordsB w = [w] := words_one (nm_no h).1 (nm_no h).2
theorem code_words {n : ByteArray} (h : nmB n = true) : wordsB (bts [99, 111, 100, 101, 32] ++ n) = [wCode, n] := by
  have e : bts [99, 111, 100, 101, 32] ++ n = bts [99, 111, 100, 101] ++ bts [32] ++ n := by
    apply ext_data; simp only [app_data, List.append_assoc]; rfl
  rw [e, words_sp, words_nm h, words_lit (by decide) (by decide)]; rfl
theorem fact_words {f : Fct} (h : nmB f.1 = true) : wordsB (fcT f) = [wFact, f.1, It f.2.1, It f.2.2] := by
  have e : bts [102, 97, 99, 116, 32] ++ f.1 = bts [102, 97, 99, 116] ++ bts [32] ++ f.1 := by
    apply ext_data; simp only [app_data, List.append_assoc]; rfl
  unfold fcT
  rw [words_sp, words_sp, e, words_sp, words_nm h, words_It, words_It, words_lit (by decide) (by decide)]; rfl
theorem hd_words {r : Rl} (h : nmB r.1 = true) : wordsB (hdT r) = [wRule, r.1, It r.2.1, It r.2.2.1] := by
  have e : bts [114, 117, 108, 101, 32] ++ r.1 = bts [114, 117, 108, 101] ++ bts [32] ++ r.1 := by
    apply ext_data; simp only [app_data, List.append_assoc]; rfl
  unfold hdT
  rw [words_sp, words_sp, e, words_sp, words_nm h, words_It, words_It, words_lit (by decide) (by decide)]; rfl
theorem word_when (x : ByteArray) : x ++ bts [32] ++ bts [119, 104, 101, 110] ++ bts [32] = x ++ bts [32, 119, 104, 101, 110, 32] := by
  apply ext_data; simp only [app_data, List.append_assoc]; rfl
theorem word_must (x : ByteArray) : x ++ bts [32] ++ bts [109, 117, 115, 116] ++ bts [32] = x ++ bts [32, 109, 117, 115, 116, 32] := by
  apply ext_data; simp only [app_data, List.append_assoc]; rfl
theorem word_unl (x y : ByteArray) : x ++ (bts [32, 117, 110, 108, 101, 115, 115, 32] ++ y) = x ++ bts [32] ++ bts [117, 110, 108, 101, 115, 115] ++ bts [32] ++ y := by
  apply ext_data; simp only [app_data, List.append_assoc]; rfl
theorem rl_words {r : Rl} (h : nmB r.1 = true) (hp : PrR r) : wordsB (rlT r) = [wRule, r.1, It r.2.1, It r.2.2.1, wWhen] ++ (tw (treeC r.2.2.2.1) ++ (wMust :: tw (treeC r.2.2.2.2.1))) := by
  obtain ⟨_, _, _, a4, a5, _, _⟩ := printB_ex hp.1
  obtain ⟨_, _, _, b4, b5, _, _⟩ := printB_ex hp.2
  unfold rlT
  rw [← word_must, ← word_when, words_sp, words_sp, words_sp, words_sp, hd_words h, a4, b4, words_tx _ a5, words_tx _ b5, words_lit (by decide) (by decide), words_lit (by decide) (by decide)]
  simp only [List.append_assoc, List.cons_append, List.nil_append]
def unW (u : List ByteArray) : List ByteArray := match u with
  | [] => []
  | x :: l => wUnl :: x :: l
theorem ln_words {r : Rl} (h : nmB r.1 = true) (hp : PrR r) (hu : ∀ u ∈ r.2.2.2.2.2, nmB u = true) :
    wordsB (lnT r) = wRule :: r.1 :: It r.2.1 :: It r.2.2.1 :: wWhen :: (tw (treeC r.2.2.2.1) ++ (wMust :: (tw (treeC r.2.2.2.2.1) ++ unW r.2.2.2.2.2))) := by
  unfold lnT
  cases hl : r.2.2.2.2.2 with
  | nil =>
    show wordsB (rlT r) = _
    rw [rl_words h hp]
    unfold unW
    simp only [List.append_assoc, List.cons_append, List.nil_append, List.append_nil]
  | cons x l =>
    have hg : GoodW (x :: l) := fun y hy => nm_no (hu y (by rw [hl]; exact hy))
    rw [unT_join, word_unl, words_sp, words_sp, rl_words h hp, words_jo hg, words_lit (by decide) (by decide)]
    unfold unW
    simp only [List.append_assoc, List.cons_append, List.nil_append]
theorem rule_back {r : Rl} (h : nmB r.1 = true ∧ 0 ≤ r.2.1 ∧ r.2.1 ≤ r.2.2.1 ∧ r.2.2.1 ≤ 100000) (hp : PrR r) (hu : ∀ u ∈ r.2.2.2.2.2, nmB u = true) : ruleL (wordsB (lnT r)) = some (rrR r) := by
  obtain ⟨h1, h2, h3, h4⟩ := h
  obtain ⟨_, _, _, _, a5, a6, a7⟩ := printB_ex hp.1
  obtain ⟨_, _, _, _, b5, b6, b7⟩ := printB_ex hp.2
  rw [ln_words h1 hp hu]
  have t1 := tw_no _ a5
  have t2 := tw_no _ b5
  have i1 : ixW wMust (tw (treeC r.2.2.2.1) ++ (wMust :: (tw (treeC r.2.2.2.2.1) ++ unW r.2.2.2.2.2))) = (tw (treeC r.2.2.2.1)).length := ixW_app _ fun x hx => (t1 x hx).1
  have n1 : nuW (It r.2.1) false = (r.2.1, true) := nu_It (by omega) (by omega)
  have n2 : nuW (It r.2.2.1) false = (r.2.2.1, true) := nu_It (by omega) (by omega)
  have i2 : ixW wUnl (tw (treeC r.2.2.2.2.1) ++ unW r.2.2.2.2.2) = (tw (treeC r.2.2.2.2.1)).length := by
    cases r.2.2.2.2.2 with
    | nil =>
      show ixW wUnl (tw (treeC r.2.2.2.2.1) ++ []) = _
      rw [List.append_nil]
      exact ixW_none fun x hx => (t2 x hx).2
    | cons x l => exact ixW_app _ fun x hx => (t2 x hx).2
  have d2 : (tw (treeC r.2.2.2.2.1) ++ unW r.2.2.2.2.2).drop ((tw (treeC r.2.2.2.2.1)).length + 1) = r.2.2.2.2.2 := by
    rw [← List.drop_drop, List.drop_left]
    cases r.2.2.2.2.2 with
    | nil => rfl
    | cons x l => rfl
  have l2 : (tw (treeC r.2.2.2.2.1)).length + 1 ≠ (tw (treeC r.2.2.2.2.1) ++ unW r.2.2.2.2.2).length := by
    rw [List.length_append]
    cases r.2.2.2.2.2 with
    | nil => show _ ≠ _ + 0; omega
    | cons x l => show _ ≠ _ + (l.length + 1 + 1); omega
  have hal : r.2.2.2.2.2.all nmB = true := List.all_eq_true.2 hu
  unfold ruleL
  simp only [i1, List.drop_left, List.take_left, i2, n1, n2, d2, parseW_tree a5 a6 a7, parseW_tree b5 b6 b7]
  rw [if_pos ⟨h1, trivial, trivial, trivial, trivial, trivial, l2, hal⟩]
  rfl
theorem fact_back {f : Fct} (h : nmB f.1 = true ∧ -1000000000000 ≤ f.2.1 ∧ f.2.1 ≤ f.2.2 ∧ f.2.2 ≤ 1000000000000) : factL (wordsB (fcT f)) = some f := by
  rw [fact_words h.1]
  unfold factL
  simp only [nu_It (sg := true) (n := f.2.1) (fun _ => rfl) (by omega), nu_It (sg := true) (n := f.2.2) (fun _ => rfl) (by omega)]
  rw [if_pos ⟨h.1, trivial, trivial⟩]
theorem step_code {n : ByteArray} (h : nmB n = true) (i : Nat) : stepL (bts [99, 111, 100, 101, 32] ++ n) i (false, zC) = .inl (true, (n, ([], []))) := by
  unfold stepL
  rw [code_words h]
  have hh : (bts [99, 111, 100, 101, 32] ++ n).data.toList.head? = some 99 := by rw [app_data]; rfl
  rw [if_neg (by
    intro k
    rcases k with k | k
    · cases k
    · rw [hh] at k; exact absurd k (by decide))]
  have hL : lineL false zC [wCode, n] = some (n, ([], [])) := (lineL_2 _ _ _).trans (if_pos ⟨rfl, h⟩)
  simp only [hL]
theorem step_fact {f : Fct} (h : nmB f.1 = true ∧ -1000000000000 ≤ f.2.1 ∧ f.2.1 ≤ f.2.2 ∧ f.2.2 ≤ 1000000000000) (i : Nat) (n : ByteArray) (fs : List Fct) (rs : List Rl) : stepL (fcT f) i (true, (n, (fs, rs))) = .inl (true, (n, (fs ++ [f], rs))) := by
  unfold stepL
  have hh : (fcT f).data.toList.head? = some 102 := by
    unfold fcT
    simp only [app_data]; rfl
  have hw := fact_words h.1
  rw [if_neg (by
    intro k
    rcases k with k | k
    · rw [hw] at k; cases k
    · rw [hh] at k; exact absurd k (by decide))]
  have hL : lineL true (n, (fs, rs)) (wordsB (fcT f)) = some (n, (fs ++ [f], rs)) := by
    unfold lineL
    rw [if_neg (by decide), if_pos (by rw [hw]; rfl), fact_back h]; rfl
  simp only [hL]
theorem head_cat {a b : ByteArray} {x : UInt8} (h : a.data.toList.head? = some x) : (a ++ b).data.toList.head? = some x := by
  rw [app_data]
  cases hl : a.data.toList with
  | nil => rw [hl] at h; cases h
  | cons y l => rw [hl] at h; exact h
theorem ln_head (r : Rl) : (lnT r).data.toList.head? = some 114 := by
  have h1 : (rlT r).data.toList.head? = some 114 := head_cat (head_cat (head_cat (head_cat (head_cat (head_cat (head_cat (head_cat (head_cat rfl))))))))
  unfold lnT
  cases r.2.2.2.2.2 with
  | nil => exact h1
  | cons x l => rw [unT_join]; exact head_cat h1
theorem step_rule {r : Rl} (h : nmB r.1 = true ∧ 0 ≤ r.2.1 ∧ r.2.1 ≤ r.2.2.1 ∧ r.2.2.1 ≤ 100000) (hp : PrR r) (hu : ∀ u ∈ r.2.2.2.2.2, nmB u = true) (i : Nat) (n : ByteArray) (fs : List Fct) (rs : List Rl) : stepL (lnT r) i (true, (n, (fs, rs))) = .inl (true, (n, (fs, rs ++ [rrR r]))) := by
  unfold stepL
  have hw := ln_words h.1 hp hu
  rw [if_neg (by
    intro k
    rcases k with k | k
    · rw [hw] at k; cases k
    · rw [ln_head] at k; exact absurd k (by decide))]
  have w0 : wAt (wordsB (lnT r)) 0 = wRule := by rw [hw]; rfl
  have hL : lineL true (n, (fs, rs)) (wordsB (lnT r)) = some (n, (fs, rs ++ [rrR r])) := by
    unfold lineL
    rw [if_neg (by decide), w0, if_neg (by decide), if_pos rfl, rule_back h hp hu]; rfl
  simp only [hL]
theorem fold_facts (rest : List ByteArray) : ∀ (l : List Fct) (i : Nat) (n : ByteArray) (fs : List Fct) (rs : List Rl), (∀ f ∈ l, nmB f.1 = true ∧ -1000000000000 ≤ f.2.1 ∧ f.2.1 ≤ f.2.2 ∧ f.2.2 ≤ 1000000000000) →
    foldS stepL (l.map fcT ++ rest) i (true, (n, (fs, rs))) = foldS stepL rest (i + l.length) (true, (n, (fs ++ l, rs)))
  | [], i, n, fs, rs, _ => by simp
  | f :: l, i, n, fs, rs, h => by
    rw [List.map_cons, List.cons_append, foldS_c, step_fact (h f (List.mem_cons_self ..))]
    simp only
    rw [fold_facts rest l (i + 1) n (fs ++ [f]) rs fun g hg => h g (List.mem_cons_of_mem _ hg), List.append_assoc, List.length_cons, show i + 1 + l.length = i + (l.length + 1) by omega]; rfl
theorem fold_rules : ∀ (l : List Rl) (i : Nat) (n : ByteArray) (fs : List Fct) (rs : List Rl), (∀ r ∈ l, (nmB r.1 = true ∧ 0 ≤ r.2.1 ∧ r.2.1 ≤ r.2.2.1 ∧ r.2.2.1 ≤ 100000) ∧ PrR r ∧ ∀ u ∈ r.2.2.2.2.2, nmB u = true) →
    foldS stepL (l.map lnT) i (true, (n, (fs, rs))) = .inl (true, (n, (fs, rs ++ l.map rrR)))
  | [], i, n, fs, rs, _ => by simp [foldS]
  | r :: l, i, n, fs, rs, h => by
    obtain ⟨h1, h2, h3⟩ := h r (List.mem_cons_self ..)
    rw [List.map_cons, foldS_c, step_rule h1 h2 h3]
    simp only
    rw [fold_rules l (i + 1) n fs (rs ++ [rrR r]) fun g hg => h g (List.mem_cons_of_mem _ hg), List.append_assoc]; rfl
theorem rlP_inv : ∀ (l : List Rl) (i : Nat) (b : Bool) (ls : List ByteArray), match foldS rlP l i (b, ls) with
    | .inl a => a.1 = false → b = false ∧ (∀ r ∈ l, PrR r) ∧ a.2 = ls ++ l.map lnT
    | .inr e => e.2 = 41
  | [], i, b, ls => by
    show b = false → b = false ∧ _ ∧ ls = ls ++ []
    intro h
    exact ⟨h, (fun r hr => by cases hr), by rw [List.append_nil]⟩
  | r :: l, i, b, ls => by
    rw [foldS_c]
    unfold rlP
    cases hb : badR r with
    | true => rfl
    | false =>
      simp only [Bool.false_eq_true, if_false]
      have ih := rlP_inv l (i + 1) (b || longR r) (ls ++ [lnT r])
      change match foldS rlP l (i + 1) (b || longR r, ls ++ [lnT r]) with
        | .inl a => a.1 = false → b = false ∧ (∀ q ∈ r :: l, PrR q) ∧ a.2 = ls ++ (r :: l).map lnT
        | .inr e => e.2 = 41
      cases hf : foldS rlP l (i + 1) (b || longR r, ls ++ [lnT r]) with
      | inr e => rw [hf] at ih; exact ih
      | inl a =>
        rw [hf] at ih
        intro ha
        obtain ⟨k1, k2, k3⟩ := ih ha
        rw [Bool.or_eq_false_iff] at k1
        have hlg := k1.2
        unfold longR at hlg
        rw [Bool.or_eq_false_iff] at hlg
        refine ⟨k1.1, fun q hq => ?_, ?_⟩
        · rcases List.mem_cons.1 hq with rfl | hq
          · exact ⟨by simpa using hlg.1, by simpa using hlg.2⟩
          · exact k2 q hq
        · rw [k3, List.map_cons, List.append_assoc]; rfl
theorem rlP_ok : ∀ (l : List Rl) (i : Nat) (ls : List ByteArray), (∀ r ∈ l, PrR r) → foldS rlP l i (false, ls) = .inl (false, ls ++ l.map lnT)
  | [], i, ls, _ => by simp [foldS]
  | r :: l, i, ls, h => by
    obtain ⟨h1, h2⟩ := h r (List.mem_cons_self ..)
    rw [foldS_c]
    unfold rlP
    have hb : badR r = false := by unfold badR; rw [h1, h2]; rfl
    have hl : longR r = false := by unfold longR; rw [h1, h2]; rfl
    rw [hb, hl]
    simp only [Bool.false_eq_true, if_false, Bool.or_self]
    have := rlP_ok l (i + 1) (ls ++ [lnT r]) fun q hq => h q (List.mem_cons_of_mem _ hq)
    refine this.trans ?_
    rw [List.map_cons, List.append_assoc]; rfl
def lnC (c : Cd) : List ByteArray := (bts [99, 111, 100, 101, 32] ++ c.1) :: (c.2.1.map fcT ++ c.2.2.map lnT)
theorem printC_inv {c : Cd} (h : (printC c).2 = 0) : codeE c = 0 ∧ (∀ r ∈ c.2.2, PrR r) ∧ (txL (lnC c)).size ≤ 8000 ∧ printC c = (txL (lnC c), 0) := by
  rw [printC_lines] at h ⊢
  by_cases h0 : codeE c = 0
  · rw [if_neg (fun k => k h0)] at h ⊢
    have hi := rlP_inv c.2.2 0 false ((bts [99, 111, 100, 101, 32] ++ c.1) :: c.2.1.map fcT)
    cases hf : foldS rlP c.2.2 0 (false, (bts [99, 111, 100, 101, 32] ++ c.1) :: c.2.1.map fcT) with
    | inr e =>
      rw [hf] at h hi
      have hi : e.2 = 41 := hi
      have h : e.2 = 0 := h
      omega
    | inl a =>
      rw [hf] at h hi
      simp only at h hi ⊢
      split at h
      · cases h
      · rename_i hn
        have ha : a.1 = false := by
          cases ha : a.1 with
          | false => rfl
          | true => exact absurd (Or.inl ha) hn
        obtain ⟨_, k2, k3⟩ := hi ha
        have e : a.2 = lnC c := by rw [k3]; rfl
        rw [if_neg hn, e]
        refine ⟨h0, k2, ?_, rfl⟩
        rw [e] at hn
        exact Nat.le_of_not_lt fun k => hn (.inr k)
  · rw [if_pos h0] at h
    exact absurd h h0
theorem ln_rr {r : Rl} (hp : PrR r) : lnT (rrR r) = lnT r := by
  have e1 : printB (rrR r).2.2.2.1 = printB r.2.2.2.1 := fl0_print hp.1
  have e2 : printB (rrR r).2.2.2.2.1 = printB r.2.2.2.2.1 := fl0_print hp.2
  unfold lnT rlT
  rw [e1, e2]; rfl
theorem PrR_rr {r : Rl} (hp : PrR r) : PrR (rrR r) := by
  have e1 : printB (rrR r).2.2.2.1 = printB r.2.2.2.1 := fl0_print hp.1
  have e2 : printB (rrR r).2.2.2.2.1 = printB r.2.2.2.2.1 := fl0_print hp.2
  unfold PrR
  rw [e1, e2]; exact hp
theorem map_ln : ∀ {l : List Rl}, (∀ r ∈ l, PrR r) → (l.map rrR).map lnT = l.map lnT
  | [], _ => rfl
  | r :: l, h => by
    rw [List.map_cons, List.map_cons, List.map_cons, ln_rr (h r (List.mem_cons_self ..)), map_ln fun q hq => h q (List.mem_cons_of_mem _ hq)]
theorem print_back {c : Cd} (h : (printC c).2 = 0) : printC (rrC c) = printC c := by
  obtain ⟨h0, hp, hs, he⟩ := printC_inv h
  rw [he, printC_lines, if_neg (fun k => k (codeE_rr h0 hp))]
  have hf := rlP_ok (c.2.2.map rrR) 0 ((bts [99, 111, 100, 101, 32] ++ c.1) :: c.2.1.map fcT) (fun r hr => by
    obtain ⟨q, hq, rfl⟩ := List.mem_map.1 hr
    exact PrR_rr (hp q hq))
  rw [map_ln hp] at hf
  show (match foldS rlP (c.2.2.map rrR) 0 (false, (bts [99, 111, 100, 101, 32] ++ c.1) :: c.2.1.map fcT) with
    | .inr e => e
    | .inl a => if a.1 = true ∨ 8000 < (txL a.2).size then (bts [], 2) else (txL a.2, 0)) = _
  rw [hf]
  show (if false = true ∨ 8000 < (txL (lnC c)).size then _ else (txL (lnC c), 0)) = _
  rw [if_neg (by
    intro k
    rcases k with k | k
    · cases k
    · omega)]
theorem joT_NB : ∀ (l : List ByteArray) (a : ByteArray), NB a → (∀ x ∈ l, NB x) → NB (l.foldl (fun r y => r ++ bts [32] ++ y) a)
  | [], a, ha, _ => ha
  | y :: l, a, ha, h => by
    rw [List.foldl_cons]
    exact joT_NB l _ (NB_app (NB_app ha NB_32) (h y (List.mem_cons_self ..))) fun x hx => h x (List.mem_cons_of_mem _ hx)
theorem ln_NB {r : Rl} (h : nmB r.1 = true) (hp : PrR r) (hu : ∀ u ∈ r.2.2.2.2.2, nmB u = true) : NB (lnT r) := by
  obtain ⟨_, _, _, a4, a5, _, _⟩ := printB_ex hp.1
  obtain ⟨_, _, _, b4, b5, _, _⟩ := printB_ex hp.2
  have h1 : NB (rlT r) := by
    unfold rlT hdT
    rw [a4, b4]
    exact NB_app (NB_app (NB_app (NB_app (NB_app (NB_app (NB_app (NB_app (NB_app (by unfold NB; decide) (NB_nm h)) NB_32) (NB_It _)) NB_32) (NB_It _)) (by unfold NB; decide)) (NB_tx _ a5)) (by unfold NB; decide)) (NB_tx _ b5)
  unfold lnT
  cases hl : r.2.2.2.2.2 with
  | nil => exact h1
  | cons x l =>
    rw [unT_join]
    have hx : ∀ y ∈ x :: l, NB y := fun y hy => NB_nm (hu y (by rw [hl]; exact hy))
    refine NB_app h1 (NB_app (by unfold NB; decide) ?_)
    unfold joT
    exact joT_NB l x (hx x (List.mem_cons_self ..)) fun y hy => hx y (List.mem_cons_of_mem _ hy)
theorem parse_back {c : Cd} (h : (printC c).2 = 0) : parseL (printC c).1 = (rrC c, (0, 0)) := by
  obtain ⟨h0, hp, hs, he⟩ := printC_inv h
  obtain ⟨b1, b2, b3, b4, b5⟩ := codeE_ok h0
  have hF : ∀ f ∈ c.2.1, nmB f.1 = true ∧ -1000000000000 ≤ f.2.1 ∧ f.2.1 ≤ f.2.2 ∧ f.2.2 ≤ 1000000000000 := fun f hf => by
    obtain ⟨i, hi⟩ := List.getElem?_of_mem hf
    exact b4 i f hi
  have hR : ∀ r ∈ c.2.2, (nmB r.1 = true ∧ 0 ≤ r.2.1 ∧ r.2.1 ≤ r.2.2.1 ∧ r.2.2.1 ≤ 100000) ∧ PrR r ∧ ∀ u ∈ r.2.2.2.2.2, nmB u = true := fun r hr => by
    obtain ⟨i, hi⟩ := List.getElem?_of_mem hr
    obtain ⟨r1, r2, r3, r4, r5, r6⟩ := b5 i r hi
    exact ⟨⟨r1, r2, r3, r4⟩, hp r hr, fun u hu => by
      obtain ⟨k, hk⟩ := List.getElem?_of_mem hu
      exact r6 k u hk⟩
  have hN : ∀ x ∈ lnC c, NB x := fun x hx => by
    rcases List.mem_cons.1 hx with rfl | hx
    · exact NB_app (by unfold NB; decide) (NB_nm b1)
    · rcases List.mem_append.1 hx with hx | hx
      · obtain ⟨f, hf, rfl⟩ := List.mem_map.1 hx
        obtain ⟨f1, _⟩ := hF f hf
        exact NB_app (NB_app (NB_app (NB_app (NB_app (by unfold NB; decide) (NB_nm f1)) NB_32) (NB_It _)) NB_32) (NB_It _)
      · obtain ⟨r, hr, rfl⟩ := List.mem_map.1 hx
        obtain ⟨⟨r1, _⟩, r2, r3⟩ := hR r hr
        exact ln_NB r1 r2 r3
  rw [he]
  show parseL (txL (lnC c)) = _
  unfold parseL
  rw [if_neg (by omega), lines_tx hN]
  have hf : foldS stepL (lnC c) 0 (false, zC) = .inl (true, rrC c) := by
    unfold lnC
    rw [foldS_c, step_code b1]
    simp only
    rw [fold_facts _ _ _ _ _ _ hF, fold_rules _ _ _ _ _ hR]; rfl
  rw [hf]
  show finL (lnC c).length (true, rrC c) = _
  unfold finL
  rw [if_neg (show ¬ (true = false) by decide), if_pos (codeE_rr h0 hp)]
end Go.K
namespace Go.K
open Go.Sl Go.Sx Go.Proofs
theorem un_loop {ρ : Type} (E : Int → ρ) (A : List ByteArray → List ByteArray → ρ) : ∀ (us acc : List ByteArray) (lf : Nat), us.length < lf → acc.length + us.length ≤ 10000 →
    iter lf (fun y98 : ((List ByteArray) × (List ByteArray)) => cond (decide ((y98.2.length : Int) > (0 : Int))) (((G200 LF ((y98.2, ()), ()))).bind fun r99 => sm r99 (fun r100 : (((List ByteArray) × PUnit) × ByteArray) => ((appC y98.1 [r100.2])).bind fun r101 => some (.inl (r101, r100.1.1))) (fun r102 : Int => some (.inr (E r102)))) (some (.inr (A y98.1 y98.2)))) (acc, us) = some (if us.all nmB = true then A (acc ++ us) [] else E 0)
  | [], acc, lf + 1, _, _ => by
    have e : decide ((([] : List ByteArray).length : Int) > 0) = false := rfl
    simp only [iter, e, cond_false, List.append_nil]; rfl
  | u :: us, acc, lf + 1, h1, h2 => by
    rw [List.length_cons] at h1 h2
    have e : decide (((u :: us).length : Int) > 0) = true := decide_eq_true (by rw [List.length_cons]; omega)
    simp only [iter, e, cond_true, G200_cons, Option.bind_some]
    rw [List.all_cons]
    by_cases hu : nmB u = true
    · simp only [if_pos hu, sm_l, appC_of (show acc.length + [u].length ≤ 1099511627776 by rw [List.length_singleton]; omega), Option.bind_some]
      rw [un_loop E A us (acc ++ [u]) lf (by omega) (by rw [List.length_append, List.length_singleton]; omega), hu, Bool.true_and, List.append_assoc]; rfl
    · simp only [if_neg hu, sm_r]
      rw [Bool.not_eq_true] at hu
      rw [hu, Bool.false_and, if_neg (by decide)]
  | _, _, 0, h, _ => by omega
theorem G202_rule {ws : List ByteArray} (hg : GoodW ws) (hs : sumW ws ≤ 8001) : (∃ q, G202 LF ((ws, ()), ()) = some (.inr q) ∧ ∀ z, ruleL (z :: ws) = none) ∨
    (∃ r, G202 LF ((ws, ()), ()) = some (.inl (([], ()), r)) ∧ ∀ z, ruleL (z :: ws) = some r) := by
  have hz : ∀ x ∈ ws, x.size ≤ 8000 := fun x hx => by have := sumW_mem hx; omega
  unfold G202
  match ws, hz, hg, hs with
  | [], _, _, _ => exact .inl ⟨0, by simp only [G200_nil, Option.bind_some, sm_r], fun _ => rfl⟩
  | [a], _, _, _ =>
    refine .inl ⟨0, ?_, fun _ => rfl⟩
    simp only [G200_cons, Option.bind_some]
    by_cases ha : nmB a = true
    · simp only [if_pos ha, sm_l, G239_nil, Option.bind_some, sm_r]
    · simp only [if_neg ha, sm_r]
  | [a, b], hz, _, _ =>
    refine .inl ⟨0, ?_, fun _ => rfl⟩
    simp only [G200_cons, Option.bind_some]
    by_cases ha : nmB a = true
    · simp only [if_pos ha, sm_l, G239_cons b [] false (hz b (by simp)), Option.bind_some]
      by_cases hb : (nuW b false).2 = true
      · simp only [if_pos hb, sm_l, G239_nil, Option.bind_some, sm_r]
      · simp only [if_neg hb, sm_r]
    · simp only [if_neg ha, sm_r]
  | [a, b, c], hz, _, _ =>
    refine .inl ⟨0, ?_, fun _ => rfl⟩
    simp only [G200_cons, Option.bind_some]
    by_cases ha : nmB a = true
    · simp only [if_pos ha, sm_l, G239_cons b [c] false (hz b (by simp)), Option.bind_some]
      by_cases hb : (nuW b false).2 = true
      · simp only [if_pos hb, sm_l, G239_cons c [] false (hz c (by simp)), Option.bind_some]
        by_cases hc : (nuW c false).2 = true
        · simp only [if_pos hc, sm_l, G198_nil, Option.bind_some, sm_r]
        · simp only [if_neg hc, sm_r]
      · simp only [if_neg hb, sm_r]
    · simp only [if_neg ha, sm_r]
  | a :: b :: c :: d :: rest, hz, hg, hs =>
    have hr : GoodW rest := hg.tl.tl.tl.tl
    have hsr : sumW rest ≤ 8001 := by
      have : sumW (a :: b :: c :: d :: rest) = a.size + 1 + (b.size + 1 + (c.size + 1 + (d.size + 1 + sumW rest))) := rfl
      omega
    have hF : ∀ z, ¬ (nmB a = true ∧ (nuW b false).2 = true ∧ (nuW c false).2 = true ∧ d = wWhen ∧ (parseW (rest.take (ixW wMust rest))).2.2 = 0) → ruleL (z :: a :: b :: c :: d :: rest) = none := by
      intro z h
      unfold ruleL
      simp only
      split
      · rfl
      · exact if_neg fun k => h ⟨k.1, k.2.1, k.2.2.1, k.2.2.2.1, k.2.2.2.2.1⟩
    simp only [G200_cons, Option.bind_some]
    by_cases ha : nmB a = true
    rotate_left
    · refine .inl ⟨0, by simp only [if_neg ha, sm_r], fun z => hF z fun h => ha h.1⟩
    simp only [if_pos ha, sm_l, G239_cons b (c :: d :: rest) false (hz b (by simp)), Option.bind_some]
    by_cases hb : (nuW b false).2 = true
    rotate_left
    · refine .inl ⟨0, by simp only [if_neg hb, sm_r], fun z => hF z fun h => hb h.2.1⟩
    simp only [if_pos hb, sm_l, G239_cons c (d :: rest) false (hz c (by simp)), Option.bind_some]
    by_cases hc : (nuW c false).2 = true
    rotate_left
    · refine .inl ⟨0, by simp only [if_neg hc, sm_r], fun z => hF z fun h => hc h.2.2.1⟩
    simp only [if_pos hc, sm_l, G198_cons, Option.bind_some, qWhen]
    by_cases hd : d = wWhen
    rotate_left
    · refine .inl ⟨0, by simp only [decide_eq_false hd, G199_f, Option.bind_some, sm_r], fun z => hF z fun h => hd h.2.2.2.1⟩
    simp only [decide_eq_true hd, G199_t, Option.bind_some, sm_l, G240_upto hr hsr wMust]
    by_cases hp : (parseW (rest.take (ixW wMust rest))).2.2 = 0
    rotate_left
    · refine .inl ⟨0, by simp only [if_neg hp, sm_r], fun z => hF z fun h => hp h.2.2.2.2⟩
    simp only [if_pos hp, sm_l]
    rcases ixW_drop wMust rest with hd1 | ⟨r2, hd1⟩
    · refine .inl ⟨0, by simp only [hd1, G198_nil, Option.bind_some, sm_r], fun z => ?_⟩
      unfold ruleL
      simp only [hd1]
    have qm : (wMust.data.toList == [UInt8.ofNat 109, UInt8.ofNat 117, UInt8.ofNat 115, UInt8.ofNat 116]) = true := by rw [qMust]; exact decide_eq_true rfl
    have hr2 : GoodW r2 := by
      have := hr.drop (ixW wMust rest)
      rw [hd1] at this
      exact this.tl
    have hs2 : sumW r2 ≤ 8001 := by
      have := sumW_take rest (ixW wMust rest)
      rw [hd1] at this
      have e : sumW (wMust :: r2) = wMust.size + 1 + sumW r2 := rfl
      omega
    have hl2 := sumW_len r2
    have hk := ixW_le wUnl r2
    have rl : ∀ z, ruleL (z :: a :: b :: c :: d :: rest) = if (parseW (r2.take (ixW wUnl r2))).2.2 = 0 ∧ ixW wUnl r2 + 1 ≠ r2.length ∧ (r2.drop (ixW wUnl r2 + 1)).all nmB = true
      then some (a, ((nuW b false).1, ((nuW c false).1, ((parseW (rest.take (ixW wMust rest))).1, ((parseW (r2.take (ixW wUnl r2))).1, r2.drop (ixW wUnl r2 + 1)))))) else none := by
      intro z
      unfold ruleL
      simp only [hd1]
      by_cases hq : (parseW (r2.take (ixW wUnl r2))).2.2 = 0 ∧ ixW wUnl r2 + 1 ≠ r2.length ∧ (r2.drop (ixW wUnl r2 + 1)).all nmB = true
      · rw [if_pos hq, if_pos ⟨ha, hb, hc, hd, hp, hq⟩]
      · rw [if_neg hq, if_neg fun h => hq h.2.2.2.2.2]
    simp only [hd1, G198_cons, Option.bind_some, sm_l, qm, G199_t, G240_upto hr2 hs2 wUnl]
    by_cases hp2 : (parseW (r2.take (ixW wUnl r2))).2.2 = 0
    rotate_left
    · refine .inl ⟨0, by simp only [if_neg hp2, sm_r], fun z => by rw [rl z, if_neg fun h => hp2 h.1]⟩
    simp only [if_pos hp2, sm_l]
    rcases ixW_drop wUnl r2 with hd2 | ⟨us, hd2⟩
    · have hkl : ixW wUnl r2 = r2.length := by
        have := congrArg List.length hd2
        rw [List.length_drop, List.length_nil] at this; omega
      have e0 : decide ((([] : List ByteArray).length : Int) > 0) = false := rfl
      have ed : r2.drop (ixW wUnl r2 + 1) = [] := List.drop_eq_nil_of_le (by omega)
      refine .inr ⟨(a, ((nuW b false).1, ((nuW c false).1, ((parseW (rest.take (ixW wMust rest))).1, ((parseW (r2.take (ixW wUnl r2))).1, ([] : List ByteArray)))))), by simp only [hd2, e0, cond_false], fun z => ?_⟩
      rw [rl z, if_pos ⟨hp2, by omega, by rw [ed]; rfl⟩, ed]
    have hkl : ixW wUnl r2 + 1 + us.length = r2.length := by
      have := congrArg List.length hd2
      rw [List.length_drop, List.length_cons] at this; omega
    have ed : r2.drop (ixW wUnl r2 + 1) = us := by rw [← List.drop_drop, hd2]; rfl
    have e1 : decide (((wUnl :: us).length : Int) > 0) = true := decide_eq_true (by rw [List.length_cons]; omega)
    simp only [hd2, e1, cond_true, G198_cons, Option.bind_some, sm_l]
    cases us with
    | nil =>
      refine .inl ⟨0, by simp only [G200_nil, Option.bind_some, sm_r, jr], fun z => ?_⟩
      rw [rl z, if_neg fun h => h.2.1 (by simpa using hkl)]
    | cons u us =>
      rw [List.length_cons] at hkl
      simp only [G200_cons, Option.bind_some]
      by_cases hu : nmB u = true
      rotate_left
      · refine .inl ⟨0, by simp only [if_neg hu, sm_r, jr], fun z => ?_⟩
        rw [rl z, if_neg fun h => hu (by
          have := h.2.2
          rw [ed, List.all_cons, Bool.and_eq_true] at this
          exact this.1)]
      have eap : appC ([] : List ByteArray) [u] = some [u] := (appC_of (by simp)).trans rfl
      simp only [if_pos hu, sm_l, eap, Option.bind_some, jl]
      have lp := un_loop (ρ := (((List ByteArray) × Unit) × Rl) ⊕ Int) (fun q => .inr q) (fun ac l => .inl ((l, ()), (a, ((nuW b false).1, ((nuW c false).1, ((parseW (rest.take (ixW wMust rest))).1, ((parseW (r2.take (ixW wUnl r2))).1, ac))))))) us [u] LF (by show us.length < 9223372036854775808; omega) (by rw [List.length_singleton]; omega)
      by_cases hal : us.all nmB = true
      · rw [if_pos hal] at lp
        refine .inr ⟨_, lp, fun z => ?_⟩
        rw [rl z, if_pos ⟨hp2, by omega, by rw [ed, List.all_cons, hu, hal]; rfl⟩, ed]; rfl
      · rw [if_neg hal] at lp
        refine .inl ⟨0, lp, fun z => ?_⟩
        rw [rl z, if_neg fun h => hal (by
          have := h.2.2
          rw [ed, List.all_cons, Bool.and_eq_true] at this
          exact this.2)]
end Go.K
namespace Go.K
open Go.Sl Go.Sx Go.Proofs
theorem G49_parse (s : ByteArray) : G49 LF s = some (parseL s) := by
  unfold G49 parseL
  by_cases h8 : 8000 < s.size
  · simp only [decide_eq_true (show (s.size : Int) > 8000 by omega), cond_true, if_pos h8]
  rw [if_neg h8]
  have hln := linesB_len s
  simp only [decide_eq_false (show ¬ (s.size : Int) > 8000 by omega), cond_false]
  refine (split_lines (show s.size ≤ 8000 by omega) _).trans ?_
  refine (iter_go (fun i (a : Bool × Cd) => (a.1, (i, (a.2.1, (a.2.2.1, a.2.2.2))))) stepL (fun i a => a.2.2.1.length ≤ i ∧ a.2.2.2.length ≤ i) (linesB s) (fun a => some (finL (linesB s).length a)) (false, zC) ?_ ?_ ?_ (by show (linesB s).length < 9223372036854775808; omega) ⟨Nat.le_refl _, Nat.le_refl _⟩).trans ?_
  · intro i x a hx hg
    have hi := (List.getElem?_eq_some_iff.1 hx).1
    have hxs := linesB_size (List.mem_of_getElem? hx)
    have hwl := words_len x
    have hgw := words_good x
    have hsw := words_sum x
    obtain ⟨g1, g2⟩ := hg
    simp only [dlt hi, cond_true, getI_nat hx, Option.bind_some, G86_words x (by omega), succ_W (show i + 1 < 9223372036854775808 by omega)]
    by_cases hw : wordsB x = []
    · have st : stepL x i a = .inl a := if_pos (Or.inl hw)
      have hz : decide (((([] : List ByteArray).length : Nat) : Int) = 0) = true := rfl
      rw [st, hw]
      simp only [hz, cond_true]
    obtain ⟨b, hb, hh⟩ := byte0 hw
    have hl0 : 0 < (wordsB x).length := List.length_pos_iff.2 hw
    have b35 : (((b.toNat : Nat) : Int) = (35 : Int)) ↔ b = 35 := nat_eq (n := 35) (by omega)
    simp only [decide_eq_false (show ¬ ((wordsB x).length : Int) = 0 by omega), cond_false, hb, Option.bind_some, b35]
    by_cases h35 : b = 35
    · have st : stepL x i a = .inl a := if_pos (Or.inr (by rw [hh, h35]))
      rw [st, decide_eq_true h35]; rfl
    have st : stepL x i a = match lineL a.1 a.2 (wordsB x) with
      | some c => .inl (true, c)
      | none => .inr (zC, (((i + 1 : Nat) : Int), 46)) := if_neg (fun h => by
        rcases h with h | h
        · exact hw h
        · rw [hh] at h; exact h35 (by injection h))
    rw [st]
    clear st hb hh hx
    generalize wordsB x = w at *
    obtain ⟨bg, c1, fs, rs⟩ := a
    have g1 : fs.length ≤ i := g1
    have g2 : rs.length ≤ i := g2
    obtain ⟨x0, ws, rfl⟩ : ∃ x0 ws, w = x0 :: ws := by
      cases w with
      | nil => exact absurd rfl hw
      | cons x0 ws => exact ⟨x0, ws, rfl⟩
    have hgs : GoodW ws := hgw.tl
    have hss : sumW ws ≤ 8001 := by
      have : sumW (x0 :: ws) = x0.size + 1 + sumW ws := rfl
      omega
    have w0 : wAt (x0 :: ws) 0 = x0 := rfl
    simp only [decide_eq_false h35, cond_false, G198_cons, Option.bind_some, sm_l, qCode, qFact, qRule]
    cases bg with
    | false =>
      by_cases hk : x0 = wCode
      · simp only [decide_eq_true hk, Bool.not_true, decide_true, G199_t, Option.bind_some, sm_l, cond_true]
        cases ws with
        | nil => simp only [G200_nil, Option.bind_some, sm_r, jr, jl, cond_true]; rfl
        | cons v r =>
          simp only [G200_cons, Option.bind_some]
          by_cases hv : nmB v = true
          · simp only [if_pos hv, sm_l, jl]
            cases r with
            | nil =>
              have hL : lineL false (c1, (fs, rs)) [x0, v] = some (v, (fs, rs)) := (lineL_2 _ _ _).trans (if_pos ⟨hk, hv⟩)
              rw [hL]
              rfl
            | cons y r =>
              have hL : lineL false (c1, (fs, rs)) (x0 :: v :: y :: r) = none := rfl
              rw [hL]
              have e0 : decide (((y :: r).length : Int) = 0) = false := decide_eq_false (by rw [List.length_cons]; omega)
              simp only [e0, G199_f, Option.bind_some, sm_r, jl, cond_true]
          · have hL : lineL false (c1, (fs, rs)) (x0 :: v :: r) = none := by
              cases r with
              | nil => exact (lineL_2 _ _ _).trans (if_neg fun h => hv h.2)
              | cons _ _ => rfl
            rw [hL]
            simp only [if_neg hv, sm_r, jr, jl, cond_true]
      · have hL : lineL false (c1, (fs, rs)) (x0 :: ws) = none := by
          match ws with
          | [] => rfl
          | [v] => exact (lineL_2 _ _ _).trans (if_neg fun h => hk h.1)
          | _ :: _ :: _ => rfl
        rw [hL]
        have e : decide (false = (!(decide (x0 = wCode)))) = false := by rw [decide_eq_false hk]; rfl
        simp only [e, G199_f, Option.bind_some, sm_r, jl, cond_true]
    | true =>
      by_cases hk : x0 = wCode
      · have hL : lineL true (c1, (fs, rs)) (x0 :: ws) = none := by
          unfold lineL
          rw [if_neg (by decide), w0, hk, if_neg (by decide), if_neg (by decide)]
        rw [hL]
        have e : decide (true = (!(decide (x0 = wCode)))) = false := by rw [decide_eq_true hk]; rfl
        simp only [e, G199_f, Option.bind_some, sm_r, jl, cond_true]
      have e : decide (true = (!(decide (x0 = wCode)))) = true := by rw [decide_eq_false hk]; rfl
      simp only [e, G199_t, Option.bind_some, sm_l, decide_eq_false hk, cond_false]
      by_cases hf : x0 = wFact
      · have hL : lineL true (c1, (fs, rs)) (x0 :: ws) = (factL (x0 :: ws)).map (fun f => (c1, (fs ++ [f], rs))) := by
          unfold lineL
          rw [if_neg (by decide), w0, if_pos hf]
        rw [hL]
        simp only [decide_eq_true hf, cond_true]
        rcases G201_fact hss with ⟨q, e1, e2⟩ | ⟨r, f, e1, e2⟩
        · rw [e2]
          simp only [e1, Option.bind_some, sm_r, jr, jl, cond_true]; rfl
        · rw [e2]
          simp only [e1, Option.bind_some, sm_l, appC_of (show fs.length + [(f.1, (f.2.1, f.2.2))].length ≤ 1099511627776 by rw [List.length_singleton]; omega), jl]
          cases r with
          | nil => rfl
          | cons y r =>
            have e0 : decide (((y :: r).length : Int) = 0) = false := decide_eq_false (by rw [List.length_cons]; omega)
            simp only [e0, G199_f, Option.bind_some, sm_r, jl, cond_true]
            rfl
      · by_cases hr : x0 = wRule
        · have hL : lineL true (c1, (fs, rs)) (x0 :: ws) = (ruleL (x0 :: ws)).map (fun r => (c1, (fs, rs ++ [r]))) := by
            unfold lineL
            rw [if_neg (by decide), w0, if_neg hf, if_pos hr]
          rw [hL]
          simp only [decide_eq_false hf, decide_eq_true hr, cond_false, cond_true]
          rcases G202_rule hgs hss with ⟨q, e1, e2⟩ | ⟨r, e1, e2⟩
          · rw [e2]
            simp only [e1, Option.bind_some, sm_r, jr, jl, cond_true]; rfl
          · rw [e2]
            simp only [e1, Option.bind_some, sm_l, appC_of (show rs.length + [(r.1, (r.2.1, (r.2.2.1, (r.2.2.2.1, (r.2.2.2.2.1, r.2.2.2.2.2)))))].length ≤ 1099511627776 by rw [List.length_singleton]; omega), jl]
            rfl
        · have hL : lineL true (c1, (fs, rs)) (x0 :: ws) = none := by
            unfold lineL
            rw [if_neg (by decide), w0, if_neg hf, if_neg hr]
          rw [hL]
          simp only [decide_eq_false hf, decide_eq_false hr, cond_false, G199_f, Option.bind_some, sm_r, jr, jl, cond_true]
          rfl
  · intro i x a a' hx hg hs
    exact stepL_len hs hg
  · intro a hg
    simp only [dnlt, cond_false, succ_W (show (linesB s).length + 1 < 9223372036854775808 by omega)]
    congr 1
    unfold finL
    cases a.1 with
    | false => rfl
    | true =>
      simp only [Bool.not_true, cond_false, show G31 LF (a.2.1, (a.2.2.1, a.2.2.2)) = some (codeE a.2) from G31_code a.2, Option.bind_some]
      rw [if_neg (by decide)]
      by_cases h0 : codeE a.2 = 0
      · simp only [decide_eq_true h0, Bool.not_true, cond_false, if_pos h0]
      · simp only [decide_eq_false h0, Bool.not_false, cond_true, if_neg h0]
  · cases foldS stepL (linesB s) 0 (false, zC) <;> rfl
end Go.K
