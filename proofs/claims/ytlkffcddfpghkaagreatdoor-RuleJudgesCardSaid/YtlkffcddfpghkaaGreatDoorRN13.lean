/-
  A part of the walk and of the plain law of one given statement. No condition.
-/
import Derived.Test.YtlkffcddfpghkaaGreatDoorRG
import Derived.Test.YtlkffcddfpghkaaGreatDoorProg
set_option linter.unusedVariables false
set_option linter.unusedSimpArgs false
set_option maxRecDepth 100000
namespace Go.K
open Go.Sl Go.Sx Go.Proofs
theorem G118_rule (c : Cd) (i : Nat) (r : Rl) (hr : c.2.2[i]? = some r) (hf : c.2.1.length < LF) (hl : c.2.2.length ≤ 1000) : G118 LF (c, (i : Int)) = some (ruleE c.2.1 c.2.2 i r) := by
  have hi := lt_of_get hr
  have hi' : i < LF := by show i < 9223372036854775808; omega
  have hll : c.2.2.length < LF := by show c.2.2.length < 9223372036854775808; omega
  unfold G118 ruleE
  have hown : decide (fnd c.2.2 r.1 < (i : Int)) = hasR (c.2.2.take i) r.1 := by
    unfold fnd hasR
    rw [idx_take]
    have : (c.2.2.any fun x => decide (x.1 = r.1)) = true := List.any_eq_true.2 ⟨r, List.mem_of_getElem? hr, by simp⟩
    rw [this]; rfl
  simp only [getI_nat hr, Option.bind_some, G99_nm, G37_fnd (c.1, (c.2.1, c.2.2)) _ hll, hown]
  cases hnm : nmB r.1 with
  | false => simp [jl]
  | true =>
    simp only [Bool.not_true, cond_false, jl, Bool.false_or]
    cases hh : hasR (c.2.2.take i) r.1 with
    | true => rfl
    | false =>
      simp only [cond_false]
      by_cases hd : r.2.1 < 0 ∨ r.2.1 > r.2.2.1 ∨ r.2.2.1 > 100000
      · rw [if_pos hd]
        by_cases d1 : r.2.1 < 0
        · simp [d1, jl]
        · by_cases d2 : r.2.1 > r.2.2.1
          · simp [d1, d2, jl]
          · have d3 : r.2.2.1 > 100000 := by omega
            simp [d1, d2, d3, jl]
      · rw [if_neg hd]
        have d1 : ¬ r.2.1 < 0 := by omega
        have d2 : ¬ r.2.1 > r.2.2.1 := by omega
        have d3 : ¬ r.2.2.1 > 100000 := by omega
        simp only [d1, d2, d3, decide_false, cond_false, jl, G30_cond _ _ hf, Option.bind_some]
        by_cases h0 : condE c.2.1 r.2.2.2.1 = 0
        · simp only [h0, decide_true, cond_true, jl, ne_eq, not_true, if_false]
          by_cases h1 : condE c.2.1 r.2.2.2.2.1 = 0
          · simp only [h1, decide_true, Bool.not_true, cond_false, not_true, if_false]
            by_cases hu6 : 6 < r.2.2.2.2.2.length
            · have : decide ((r.2.2.2.2.2.length : Int) > 6) = true := decide_eq_true (by omega)
              simp only [this, cond_true, hu6, if_true]
            · have : decide ((r.2.2.2.2.2.length : Int) > 6) = false := decide_eq_false (by omega)
              have hu : r.2.2.2.2.2.length < LF := by show r.2.2.2.2.2.length < 9223372036854775808; omega
              simp only [this, cond_false, hu6, if_false]
              refine (iter_scan (unlS (c.2.2.take i) r.2.2.2.2.2) r.2.2.2.2.2 (some 0) ?_ ?_ hu).trans (getD_none _ _)
              · intro k s hk _
                have hkl := lt_of_get hk
                have htu : (r.2.2.2.2.2.take k).length < LF := by rw [List.length_take]; omega
                simp only [dlt hkl, cond_true, getI_nat hk, Option.bind_some, subI_take (Nat.le_of_lt hkl), G84_any _ _ htu, succ_W (Nat.lt_of_le_of_lt hkl hu)]
                have hlt : decide (fnd c.2.2 s < (i : Int)) = (!hasR c.2.2 s || hasR (c.2.2.take i) s) := idx_take _ _ _
                have hge : decide (fnd c.2.2 s ≥ (i : Int)) = !(!hasR c.2.2 s || hasR (c.2.2.take i) s) := by
                  rw [← hlt, ← decide_not]; exact decide_eq_decide.2 (by omega)
                have hneg := fnd_neg c.2.2 s
                rw [hge, hneg]
                have himp : hasR (c.2.2.take i) s = true → hasR c.2.2 s = true := fun h => by
                  unfold hasR at h ⊢
                  rw [List.any_eq_true] at h ⊢
                  obtain ⟨x, hx, hp⟩ := h
                  exact ⟨x, List.mem_of_mem_take hx, hp⟩
                unfold unlS
                cases h1 : hasR (c.2.2.take i) s with
                | true =>
                  rw [himp h1]
                  simp only [Bool.not_true, Bool.not_false, Bool.false_or, Bool.or_true, cond_false, jl]
                  cases (r.2.2.2.2.2.take k).any fun x => decide (x = s) <;> rfl
                | false => cases hasR c.2.2 s <;> rfl
              · intro _
                simp only [dnlt]; rfl
          · simp only [h1, decide_false, Bool.not_false, cond_true, not_false_eq_true, if_true]
        · simp only [h0, decide_false, cond_false, jl, Bool.not_false, cond_true, ne_eq, not_false_eq_true, if_true]
theorem G109_conds (c : Cd) (h : c.2.2.length ≤ 1000) : G109 LF c = some (condsL c.2.2) := by
  unfold G109
  refine (iter_app (fun i a => (a, i)) (fun r : Rl => [r.2.2.2.1, r.2.2.2.2.1]) c.2.2 (fun a => some a) 2 (fun _ _ => by simp) [] ?_ ?_ (by show c.2.2.length < 9223372036854775808; omega)).trans ?_
  · intro i x a hx ha hi
    simp only [List.length_nil] at ha
    simp only [dlt hi, cond_true, getI_nat hx, Option.bind_some, succ_W (show i + 1 < 9223372036854775808 by omega), appC_of (show a.length + [x.2.2.2.1, x.2.2.2.2.1].length ≤ 1099511627776 by simp; omega)]
  · intro a _
    simp only [dnlt]; rfl
  · rfl
theorem G176_parts (t : Tm) : G176 LF t = some (partsL t) := by
  unfold G176 partsL
  by_cases h1 : t.1 = 1
  · simp [h1]
  · by_cases h2 : t.1 = 2
    · simp [h2]
    · by_cases h3 : t.1 = 3 <;> simp [h1, h2, h3]
def cutAt (l : List Int) (n : Int) : Nat → Nat
  | 0 => 0
  | k + 1 => if l.getD k 0 ≥ n then cutAt l n k else k + 1
def putL (l : List Int) (n : Int) : List Int := if l[cutAt l n l.length]? = some n then l else l.take (cutAt l n l.length) ++ n :: l.drop (cutAt l n l.length)
theorem cutAt_le (l : List Int) (n : Int) : ∀ k, cutAt l n k ≤ k
  | 0 => Nat.le_refl _
  | k + 1 => by
    unfold cutAt
    split
    · exact Nat.le_succ_of_le (cutAt_le l n k)
    · exact Nat.le_refl _
theorem cutAt_rise {l : List Int} (hr : Rise l) (n : Int) : ∀ k, k ≤ l.length → (∀ i, i < cutAt l n k → l.getD i 0 < n) ∧ ∀ i, cutAt l n k ≤ i → i < k → n ≤ l.getD i 0
  | 0, _ => ⟨fun i hi => by simp [cutAt] at hi, fun i _ hi => by omega⟩
  | k + 1, hk => by
    unfold cutAt
    split
    · rename_i h
      obtain ⟨h1, h2⟩ := cutAt_rise hr n k (by omega)
      refine ⟨h1, fun i hi hlt => ?_⟩
      by_cases e : i = k
      · subst e; omega
      · exact h2 i hi (by omega)
    · rename_i h
      refine ⟨fun i hi => ?_, fun i hi hlt => by omega⟩
      by_cases e : i = k
      · subst e; omega
      · have := hr.get (i := i) (j := k) (by omega) (by omega)
        simp only [List.getD_eq_getElem?_getD, List.getElem?_eq_getElem (show k < l.length by omega), List.getElem?_eq_getElem (show i < l.length by omega), Option.getD_some] at h ⊢
        omega
theorem putL_len (l : List Int) (n : Int) : (putL l n).length ≤ l.length + 1 := by
  unfold putL
  split
  · omega
  · have := cutAt_le l n l.length
    simp; omega
theorem putL_rise {l : List Int} (hr : Rise l) (n : Int) : Rise (putL l n) ∧ ∀ x, x ∈ putL l n ↔ x ∈ l ∨ x = n := by
  obtain ⟨h1, h2⟩ := cutAt_rise hr n l.length (Nat.le_refl _)
  have hle := cutAt_le l n l.length
  unfold putL
  generalize cutAt l n l.length = k at *
  split
  · rename_i hk
    refine ⟨hr, fun x => ⟨.inl, fun h => ?_⟩⟩
    rcases h with h | h
    · exact h
    · subst h; exact List.mem_of_getElem? hk
  · rename_i hk
    have hlt : ∀ x ∈ l.take k, x < n := fun x hx => by
      obtain ⟨i, hi, rfl⟩ := List.mem_iff_getElem.1 hx
      rw [List.length_take] at hi
      have := h1 i (by omega)
      rw [List.getElem_take]
      rwa [List.getD_eq_getElem?_getD, List.getElem?_eq_getElem (show i < l.length by omega), Option.getD_some] at this
    have hgt : ∀ x ∈ l.drop k, n < x := fun x hx => by
      obtain ⟨i, hi, rfl⟩ := List.mem_iff_getElem.1 hx
      rw [List.length_drop] at hi
      rw [List.getElem_drop]
      have h0 := h2 k (Nat.le_refl _) (by omega)
      rw [List.getD_eq_getElem?_getD, List.getElem?_eq_getElem (show k < l.length by omega), Option.getD_some] at h0
      have hne : l[k] ≠ n := fun e => hk (by rw [List.getElem?_eq_getElem (show k < l.length by omega), e])
      by_cases e : i = 0
      · subst e; simp only [Nat.add_zero]; omega
      · have := hr.get (i := k) (j := k + i) (by omega) (by omega)
        omega
    have htd : l.take k ++ l.drop k = l := List.take_append_drop k l
    have hp := hr
    unfold Rise at hp ⊢
    rw [← htd, List.pairwise_append] at hp
    refine ⟨List.pairwise_append.2 ⟨hp.1, List.pairwise_cons.2 ⟨hgt, hp.2.1⟩, fun a ha b hb => ?_⟩, fun x => ?_⟩
    · rcases List.mem_cons.1 hb with e | e
      · subst e; exact hlt a ha
      · exact hp.2.2 a ha b e
    · constructor
      · intro hx
        rcases List.mem_append.1 hx with h | h
        · exact .inl (List.mem_of_mem_take h)
        · rcases List.mem_cons.1 h with e | e
          · exact .inr e
          · exact .inl (List.mem_of_mem_drop e)
      · intro hx
        rcases hx with h | h
        · rw [← htd] at h
          rcases List.mem_append.1 h with e | e
          · exact List.mem_append_left _ e
          · exact List.mem_append_right _ (List.mem_cons_of_mem _ e)
        · subst h; exact List.mem_append_right _ (List.mem_cons_self ..)
theorem G177_put (l : List Int) (n : Int) (hl : l.length ≤ 1000000) : G177 LF (l, n) = some (putL l n) := by
  unfold G177
  have loop : ∀ (k lf : Nat), k ≤ l.length → k < lf → iter (ρ := Int ⊕ List Int) lf (fun y12 : Int => cond (decide (y12 > (0 : Int))) (((getI l (w64 (y12 - (1 : Int))))).bind fun r13 => cond (decide (r13 ≥ n)) (some (.inl (w64 (y12 - (1 : Int))))) (some (.inr (.inl y12)))) (some (.inr (.inl y12)))) (k : Int) = some (.inl (cutAt l n k : Nat)) := by
    intro k
    induction k with
    | zero =>
      intro lf _ hlf
      obtain ⟨lf, rfl⟩ : ∃ q, lf = q + 1 := ⟨lf - 1, by omega⟩
      simp [iter, cutAt]
    | succ k ih =>
      intro lf hk hlf
      obtain ⟨lf, rfl⟩ : ∃ q, lf = q + 1 := ⟨lf - 1, by omega⟩
      have e1 : decide (((k + 1 : Nat) : Int) > 0) = true := decide_eq_true (by omega)
      have e2 : w64 (((k + 1 : Nat) : Int) - 1) = (k : Int) := by rw [w64_in (by omega)]; omega
      have e3 : l[k]? = some (l.getD k 0) := by rw [List.getD_eq_getElem?_getD, List.getElem?_eq_getElem (by omega)]; rfl
      simp only [iter, e1, e2, getI_nat e3, cond_true, Option.bind_some, cutAt]
      by_cases h : l.getD k 0 ≥ n
      · simp only [decide_eq_true h, cond_true, if_pos h]
        exact ih lf (by omega) (by omega)
      · simp only [decide_eq_false h, cond_false, if_neg h]
  rw [loop l.length LF (Nat.le_refl _) (by show l.length < 9223372036854775808; omega)]
  simp only [jl]
  have hle := cutAt_le l n l.length
  unfold putL
  by_cases hk : cutAt l n l.length < l.length
  · have e3 : l[cutAt l n l.length]? = some l[cutAt l n l.length] := List.getElem?_eq_getElem hk
    simp only [dlt hk, cond_true, getI_nat e3, Option.bind_some, jl]
    rw [e3]
    by_cases hn : l[cutAt l n l.length] = n
    · simp [hn]
    · have hn' : ¬ some l[cutAt l n l.length] = some n := fun e => hn (Option.some.inj e)
      have hd : subI l ((cutAt l n l.length : Nat) : Int) (l.length : Int) = some (l.drop (cutAt l n l.length)) := by
        unfold subI; rw [if_pos (by omega)]; simp
      simp only [decide_eq_false hn, cond_false, if_neg hn', subI_take hle, Option.bind_some, appC_of (show ([] : List Int).length + (l.take (cutAt l n l.length)).length ≤ 1099511627776 by simp; omega), List.nil_append, appC_of (show (l.take (cutAt l n l.length)).length + [n].length ≤ 1099511627776 by simp; omega), hd,
        appC_of (show (l.take (cutAt l n l.length) ++ [n]).length + (l.drop (cutAt l n l.length)).length ≤ 1099511627776 by simp; omega)]
      simp
  · have he : cutAt l n l.length = l.length := by omega
    have hd : subI l ((cutAt l n l.length : Nat) : Int) (l.length : Int) = some (l.drop (cutAt l n l.length)) := by
      unfold subI; rw [if_pos (by omega)]; simp
    have hno : l[cutAt l n l.length]? = none := List.getElem?_eq_none (by omega)
    have hz : decide (((cutAt l n l.length : Nat) : Int) < (l.length : Int)) = false := decide_eq_false (by omega)
    rw [hno]
    simp only [hz, cond_false, jl, subI_take hle, Option.bind_some, appC_of (show ([] : List Int).length + (l.take (cutAt l n l.length)).length ≤ 1099511627776 by simp; omega), List.nil_append, appC_of (show (l.take (cutAt l n l.length)).length + [n].length ≤ 1099511627776 by simp; omega), hd,
        appC_of (show (l.take (cutAt l n l.length) ++ [n]).length + (l.drop (cutAt l n l.length)).length ≤ 1099511627776 by simp; omega)]
    simp
theorem putF_len : ∀ (ns l : List Int), (ns.foldl putL l).length ≤ l.length + ns.length
  | [], l => by simp
  | n :: ns, l => by
    have h1 := putF_len ns (putL l n)
    have h2 := putL_len l n
    rw [List.foldl_cons, List.length_cons]; omega
theorem putF_rise : ∀ (ns : List Int) {l : List Int}, Rise l → Rise (ns.foldl putL l) ∧ ∀ x, x ∈ ns.foldl putL l ↔ x ∈ l ∨ x ∈ ns
  | [], l, h => ⟨h, fun x => by simp⟩
  | n :: ns, l, h => by
    obtain ⟨h1, h2⟩ := putL_rise h n
    obtain ⟨h3, h4⟩ := putF_rise ns h1
    refine ⟨h3, fun x => ?_⟩
    rw [List.foldl_cons, h4, h2, List.mem_cons, or_assoc]
theorem putF_sort (a : Int) (ns : List Int) : ns.foldl putL [a] = compL (sortL (a :: ns)) := by
  obtain ⟨h1, h2⟩ := putF_rise ns (l := [a]) (by simp [Rise])
  obtain ⟨h3, h4⟩ := sc_rise (a :: ns)
  refine rise_ext h1 h3 fun x => ?_
  rw [h2, h4, List.mem_singleton, List.mem_cons]
theorem iter_put {σ α ρ : Type} {f : α → Option (α ⊕ ρ)} (mk : Int → List Int → α) (h : σ → List Int) (all : List σ) (fin : List Int → Option ρ) (c : Nat) (hc : ∀ x ∈ all, (h x).length ≤ c) (a0 : List Int)
    (h1 : ∀ i x a, all[i]? = some x → a.length ≤ a0.length + c * i → i < all.length → f (mk (i : Nat) a) = some (.inl (mk ((i + 1 : Nat) : Int) ((h x).foldl putL a))))
    (h2 : ∀ a, a.length ≤ a0.length + c * all.length → f (mk (all.length : Nat) a) = outR (fin a)) (hl : all.length < LF) :
    iter LF f (mk 0 a0) = fin ((all.flatMap h).foldl putL a0) := by
  rw [iter_foldI mk (fun x _ a => (h x).foldl putL a) (fun i a => a.length ≤ a0.length + c * i) all fin a0 (fun i x a hx hg => h1 i x a hx hg (List.getElem?_eq_some_iff.1 hx).1)
    (fun i x a hx hg => by
      have := hc x (List.mem_of_getElem? hx)
      have := putF_len (h x) a
      rw [Nat.mul_add]; omega) h2 hl (by omega)]
  rw [foldI_const, List.foldl_flatMap]
theorem G108_starts (f : List Fct) (cs : List Cnd) (hf : f.length ≤ 1000) (hc : cs.length ≤ 100) (ht : ∀ c ∈ cs, c.length ≤ 1000) : G108 LF (f, cs) = some (startsL f cs) := by
  unfold G108 startsL
  refine (iter_app (fun i a => (a, i)) (fun x : Fct => [cutsOf cs x]) f (fun a => some a) 1 (fun _ _ => by simp) [] ?_ ?_ (by show f.length < 9223372036854775808; omega)).trans ?_
  · intro i x A hx hA hi
    simp only [List.length_nil] at hA
    simp only [dlt hi, cond_true, getI_nat hx, Option.bind_some]
    refine (iter_put (fun i a => (a, i)) (fun c : Cnd => c.flatMap (cutT x)) cs (fun a => some (.inl (A ++ [a], ((i + 1 : Nat) : Int)))) 2000 (fun c hc => by
        have h1 := flat_len (cutT x) 2 c (fun t _ => cutT_len x t)
        have h2 := ht c hc
        omega) [x.2.1] ?_ ?_ (by show cs.length < 9223372036854775808; omega)).trans ?_
    · intro j c a hj ha hjl
      simp only [List.length_singleton] at ha
      simp only [dlt hjl, cond_true, getI_nat hj, Option.bind_some]
      have hcl := ht c (List.mem_of_getElem? hj)
      refine (iter_put (fun i a => (a, i)) (cutT x) c (fun a => some (.inl (a, ((j + 1 : Nat) : Int)))) 2 (fun t _ => cutT_len x t) a ?_ ?_ (by show c.length < 9223372036854775808; omega)).trans ?_
      · intro k t b hk hb hkl
        simp only [dlt hkl, cond_true, getI_nat hk, Option.bind_some, eqD, G176_parts]
        have hp := parts_len t
        refine (iter_put (fun i a => (a, i)) (fun n => bif decide (t.2.2.2.1 = x.1) && inS x n then [n] else []) (partsL t) (fun b => some (.inl (b, ((k + 1 : Nat) : Int)))) 1 (fun n _ => by cases decide (t.2.2.2.1 = x.1) && inS x n <;> simp) b ?_ ?_ (by show (partsL t).length < 9223372036854775808; omega)).trans ?_
        · intro q n d hq hd hql
          have hdl : d.length ≤ 1000000 := by omega
          simp only [dlt hql, cond_true, getI_nat hq, Option.bind_some, succ_W (show q + 1 < 9223372036854775808 by omega), G177_put d n hdl]
          unfold inS
          cases decide (t.2.2.2.1 = x.1) <;> cases decide (n > x.2.1) <;> cases decide (n ≤ x.2.2) <;> simp [jl]
        · intro d _
          simp only [dnlt, succ_W (show k + 1 < 9223372036854775808 by omega)]; rfl
        · congr 3
          congr 1
          unfold cutT
          cases decide (t.2.2.2.1 = x.1) with
          | false => simp
          | true => simp only [Bool.true_and, cond_true]; exact flat_filter _ _
      · intro b _
        simp only [dnlt, succ_W (show j + 1 < 9223372036854775808 by omega)]; rfl
      · rfl
    · intro a ha
      simp only [List.length_singleton] at ha
      simp only [dnlt, cond_false, Option.bind_some, appC_of (show A.length + [a].length ≤ 1099511627776 by simp; omega), succ_W (show i + 1 < 9223372036854775808 by omega)]
    · rw [putF_sort]; rfl
  · intro a _
    simp only [dnlt]; rfl
  · rw [List.nil_append, ← List.map_eq_flatMap]
theorem G119_many (l : List (List Int)) (h : l.length ≤ 1000) : G119 LF l = some (manyL l) := by
  unfold G119 manyL
  refine (iter_foldI (fun i a => (a, i)) (fun (x : List Int) _ n => if (4001 : Int) < w64 (n * (x.length : Int)) then 4001 else w64 (n * (x.length : Int))) (fun _ _ => True) l (fun a => some a) 1 ?_ (fun _ _ _ _ _ => trivial) ?_ (by show l.length < 9223372036854775808; omega) trivial).trans ?_
  · intro i x a hx _
    have hi := lt_of_get hx
    simp only [dlt hi, cond_true, getI_nat hx, Option.bind_some, succ_W (show i + 1 < 9223372036854775808 by omega)]
  · intro a _
    simp only [dnlt]; rfl
  · rw [foldI_const]
theorem conds_len (l : List Rl) : (condsL l).length = 2 * l.length := by
  unfold condsL
  induction l with
  | nil => rfl
  | cons r l ih => rw [List.flatMap_cons, List.length_append, ih]; simp; omega
theorem G32_code (c : Cd) : G32 LF c = some (codeE c) := by
  unfold G32 codeE
  simp only [G99_nm, Option.bind_some]
  cases nmB c.1 with
  | false => rfl
  | true =>
    simp only [Bool.not_true, cond_false]
    by_cases h0 : c.2.1 = []
    · simp [h0]
    · have e0 : decide ((c.2.1.length : Int) = 0) = false := decide_eq_false (by have := List.length_pos_iff.2 h0; omega)
      rw [if_neg h0]
      simp only [e0, cond_false]
      by_cases h1 : 6 < c.2.1.length ∨ 12 < c.2.2.length
      · rw [if_pos h1]
        by_cases h2 : 6 < c.2.1.length
        · have : decide ((c.2.1.length : Int) > 6) = true := decide_eq_true (by omega)
          simp [this, jl]
        · have a1 : decide ((c.2.1.length : Int) > 6) = false := decide_eq_false (by omega)
          have a2 : decide ((c.2.2.length : Int) > 12) = true := decide_eq_true (by omega)
          simp [a1, a2, jl]
      · rw [if_neg h1]
        have a1 : decide ((c.2.1.length : Int) > 6) = false := decide_eq_false (by omega)
        have a2 : decide ((c.2.2.length : Int) > 12) = false := decide_eq_false (by omega)
        simp only [a1, a2, cond_false, jl]
        have hf6 : c.2.1.length ≤ 6 := by omega
        have hl12 : c.2.2.length ≤ 12 := by omega
        have hf : c.2.1.length < LF := by show c.2.1.length < 9223372036854775808; omega
        have hl : c.2.2.length < LF := by show c.2.2.length < 9223372036854775808; omega
        refine (iter_scan (factS c.2.1) c.2.1 (match scan (ruleS c.2.1 c.2.2) c.2.2 0 with
            | some e => some e
            | none => some (if manyL (startsL c.2.1 (condsL c.2.2)) > 4000 then 2 else 0)) ?_ ?_ hf).trans ?_
        · intro i x hx _
          have hi := lt_of_get hx
          have hown : decide (plF c.2.1 x.1 < (i : Int)) = (c.2.1.take i).any fun y => decide (y.1 = x.1) := by
            unfold plF
            rw [idx_take]
            have : (c.2.1.any fun y => decide (y.1 = x.1)) = true := List.any_eq_true.2 ⟨x, List.mem_of_getElem? hx, by simp⟩
            rw [this]; rfl
          simp only [dlt hi, cond_true, getI_nat hx, Option.bind_some, G99_nm, G111_plF _ _ hf, hown, G117_span x.1, succ_W (Nat.lt_of_le_of_lt hi hf)]
          unfold factS
          cases nmB x.1 with
          | false => rfl
          | true =>
            simp only [Bool.not_true, cond_false, jl, Bool.false_or]
            cases (c.2.1.take i).any fun y => decide (y.1 = x.1) with
            | true => rfl
            | false => simp only [cond_false]; cases spanB x <;> rfl
        · intro _
          simp only [dnlt, cond_false]
          congr 1
          refine (iter_scan (ruleS c.2.1 c.2.2) c.2.2 (some (if manyL (startsL c.2.1 (condsL c.2.2)) > 4000 then 2 else 0)) ?_ ?_ hl).trans ?_
          · intro i r hr _
            have hi := lt_of_get hr
            simp only [dlt hi, cond_true, Option.bind_some, G118_rule (c.1, (c.2.1, c.2.2)) i r hr hf (show c.2.2.length ≤ 1000 by omega), succ_W (Nat.lt_of_le_of_lt hi hl)]
            unfold ruleS
            by_cases hz : ruleE c.2.1 c.2.2 i r = 0 <;> simp [hz]
          · intro hs
            simp only [dnlt, cond_false]
            congr 1
            have hcl : (condsL c.2.2).length ≤ 100 := by rw [conds_len]; omega
            unfold G120
            simp only [G109_conds (c.1, (c.2.1, c.2.2)) (show c.2.2.length ≤ 1000 by omega), Option.bind_some, G108_starts _ _ (show c.2.1.length ≤ 1000 by omega) hcl (conds_short hs), G119_many _ (show (startsL c.2.1 (condsL c.2.2)).length ≤ 1000 by unfold startsL; rw [List.length_map]; omega)]
            by_cases hm : manyL (startsL c.2.1 (condsL c.2.2)) > 4000 <;> simp [hm]
          · cases scan (ruleS c.2.1 c.2.2) c.2.2 0 <;> rfl
        · cases scan (factS c.2.1) c.2.1 0 with
          | some e => rfl
          | none => cases scan (ruleS c.2.1 c.2.2) c.2.2 0 <;> rfl
end Go.K
namespace Go.K
open Go.Sl Go.Sx Go.Proofs
theorem plF_get {f : List Fct} {s : ByteArray} (h : f.any (fun x => decide (x.1 = s)) = true) : ∃ n : Nat, plF f s = (n : Int) ∧ n < f.length ∧ ∃ x, f[n]? = some x ∧ x.1 = s := by
  rw [← idx_any] at h
  cases hi : idx (fun x : Fct => decide (x.1 = s)) f 0 with
  | none => rw [hi] at h; cases h
  | some n =>
    obtain ⟨x, e1, e2, _⟩ := idx_some hi
    exact ⟨n, by unfold plF idxI; rw [hi], idx_lt hi, x, e1, by simpa using e2⟩
theorem term_ok {f : List Fct} {t : Tm} {i : Nat} (h : condS f t i = none) : shp t i = true ∧ (cmpK t.1 = true → f.any (fun x => decide (x.1 = t.2.2.2.1)) = true) := by
  unfold condS at h
  cases h1 : shp t i with
  | false => rw [h1] at h; cases h
  | true =>
    rw [h1] at h
    simp only [Bool.not_true, cond_false] at h
    refine ⟨rfl, fun hc => ?_⟩
    rw [hc] at h
    cases h2 : f.any (fun x => decide (x.1 = t.2.2.2.1)) with
    | true => rfl
    | false => rw [h2] at h; cases h
inductive Kdt (f : List Fct) (i : Nat) : Tm → Prop
  | tru {a b s n} : Kdt f i (0, (a, (b, (s, n))))
  | cmp {k a b s n} : (k = 1 ∨ k = 2 ∨ k = 3) → f.any (fun x => decide (x.1 = s)) = true → Kdt f i (k, (a, (b, (s, n))))
  | neg {a : Nat} {b s n} : a < i → Kdt f i (4, ((a : Int), (b, (s, n))))
  | bin {k} {a b : Nat} {s n} : (k = 5 ∨ k = 6) → a < i → b < i → Kdt f i (k, ((a : Int), ((b : Int), (s, n))))
theorem term_kd {f : List Fct} {t : Tm} {i : Nat} (h : condS f t i = none) : Kdt f i t := by
  obtain ⟨h1, h2⟩ := term_ok h
  obtain ⟨k, a, b, s, n⟩ := t
  unfold shp at h1
  simp only at h1 h2
  by_cases k0 : k = 0
  · subst k0; exact .tru
  · rw [if_neg k0] at h1
    by_cases k1 : 1 ≤ k ∧ k ≤ 3
    · exact .cmp (by omega) (h2 (decide_eq_true k1))
    · rw [if_neg k1] at h1
      by_cases k4 : k = 4
      · subst k4
        simp only [if_true, decide_eq_true_eq] at h1
        obtain ⟨m, rfl⟩ := Int.eq_ofNat_of_zero_le h1.2.2.1
        exact .neg (by omega)
      · rw [if_neg k4] at h1
        by_cases k5 : k = 5 ∨ k = 6
        · rw [if_pos k5, decide_eq_true_eq] at h1
          obtain ⟨m, rfl⟩ := Int.eq_ofNat_of_zero_le h1.2.2.1
          obtain ⟨q, rfl⟩ := Int.eq_ofNat_of_zero_le h1.2.2.2.2.1
          exact .bin k5 (by omega) (by omega)
        · rw [if_neg k5] at h1; cases h1
theorem getI_getD {α : Type} {l : List α} {n : Nat} (d : α) (h : n < l.length) : getI l (n : Int) = some (l.getD n d) := by
  apply getI_nat
  rw [List.getD_eq_getElem?_getD, List.getElem?_eq_getElem h]; rfl
theorem val_get {f : List Fct} {v : List Int} {s : ByteArray} (h : f.any (fun x => decide (x.1 = s)) = true) (hv : v.length = f.length) : getI v (plF f s) = some (v.getD (plF f s).toNat 0) := by
  obtain ⟨n, e, hn, _⟩ := plF_get h
  rw [e]; exact getI_getD 0 (by omega)
theorem G190_val {f : List Fct} {v : List Int} {s : ByteArray} (hf : f.length < LF) (h : f.any (fun x => decide (x.1 = s)) = true) (hv : v.length = f.length) : G190 LF ((f, v), s) = some (v.getD (plF f s).toNat 0) := by
  unfold G190
  simp only [G110_plc _ _ hf, Option.bind_some, val_get h hv]
theorem last_of {l : List Bool} (h : l ≠ []) (hl : l.length ≤ 1000) : getI l (w64 ((l.length : Int) - 1)) = some (l.getLastD false) := by
  have hp := List.length_pos_iff.2 h
  rw [w64_in (by omega), show (l.length : Int) - 1 = ((l.length - 1 : Nat) : Int) by omega, getI_getD false (by omega)]
  congr 1
  rw [List.getLastD_eq_getLast?, List.getLast?_eq_getElem?, List.getD_eq_getElem?_getD]
theorem tm_and (f : List Fct) (v : List Int) (a b : Nat) (s : ByteArray) (n : Int) (l : List Bool) : tmSo f v (5, ((a : Int), ((b : Int), (s, n)))) l = (l.getD a false && l.getD b false) := rfl
theorem tm_or (f : List Fct) (v : List Int) (a b : Nat) (s : ByteArray) (n : Int) (l : List Bool) : tmSo f v (6, ((a : Int), ((b : Int), (s, n)))) l = (l.getD a false || l.getD b false) := rfl
theorem step147 {f : List Fct} {v : List Int} {t : Tm} {l : List Bool} {i : Nat} (hf : f.length < LF) (hv : v.length = f.length) (hk : Kdt f i t) (hl : l.length = i) (hi : i ≤ 1000) :
    cond (decide (t.1 = (0 : Int))) (((G188 LF ((f, v), (t, l)))).bind fun r25 => ((appC l [r25])).bind fun r26 => some (.inl r26)) (cond (decide (t.1 = (1 : Int))) (((G189 LF ((f, v), (t, l)))).bind fun r27 => ((appC l [r27])).bind fun r28 => some (.inl r28)) (cond (decide (t.1 = (2 : Int))) (((G191 LF ((f, v), (t, l)))).bind fun r29 => ((appC l [r29])).bind fun r30 => some (.inl r30)) (cond (decide (t.1 = (3 : Int))) (((G192 LF ((f, v), (t, l)))).bind fun r31 => ((appC l [r31])).bind fun r32 => some (.inl r32)) (cond (decide (t.1 = (4 : Int))) (((G193 LF ((f, v), (t, l)))).bind fun r33 => ((appC l [r33])).bind fun r34 => some (.inl r34)) (cond (decide (t.1 = (5 : Int))) (((G194 LF ((f, v), (t, l)))).bind fun r35 => ((appC l [r35])).bind fun r36 => some (.inl r36)) (cond (decide (t.1 = (6 : Int))) (((G195 LF ((f, v), (t, l)))).bind fun r37 => ((appC l [r37])).bind fun r38 => some (.inl r38)) ((outI))))))))
    = (some (.inl (l ++ [tmSo f v t l])) : Option (List Bool ⊕ (List Bool × Int ⊕ Bool))) := by
  have ha : ∀ b : Bool, appC l [b] = some (l ++ [b]) := fun b => appC_of (by simp; omega)
  cases hk with
  | tru =>
    unfold G188
    simp only [decide_true, cond_true, Option.bind_some, ha]
    rfl
  | cmp h1 h2 =>
    rename_i k a b s n
    rcases h1 with rfl | rfl | rfl
    · unfold G189
      simp only [G190_val hf h2 hv, Option.bind_some, ha]
      rfl
    · unfold G191
      simp only [G190_val hf h2 hv, Option.bind_some, ha]
      rfl
    · unfold G192
      simp only [G190_val hf h2 hv, Option.bind_some, ha]
      rfl
  | neg h1 =>
    rename_i a b s n
    unfold G193
    simp only [getI_getD (l := l) (n := a) false (by omega), Option.bind_some, ha]
    simp [tmSo]
  | bin h0 h1 h2 =>
    rename_i k a b s n
    rcases h0 with rfl | rfl
    · unfold G194
      simp only [getI_getD (l := l) (n := a) false (by omega), getI_getD (l := l) (n := b) false (by omega), Option.bind_some]
      rw [tm_and]
      cases l.getD a false <;> simp only [Bool.true_and, Bool.false_and, cond_true, cond_false, Option.bind_some, ha] <;> rfl
    · unfold G195
      simp only [getI_getD (l := l) (n := a) false (by omega), getI_getD (l := l) (n := b) false (by omega), Option.bind_some]
      rw [tm_or]
      cases l.getD a false <;> simp only [Bool.true_or, Bool.false_or, cond_true, cond_false, Option.bind_some, ha] <;> rfl
theorem G147_so {f : List Fct} {v : List Int} {c : Cnd} (hc : condE f c = 0) (hv : v.length = f.length) (hf : f.length < LF) : G147 LF ((f, v), (c, ())) = some (soB f v c) := by
  obtain ⟨c1, c2, c3⟩ := cond_short hc
  unfold G147
  refine (iter_foldI (fun i a => (a, i)) (fun (t : Tm) _ l => l ++ [tmSo f v t l]) (fun i a => a.length = i) c (fun a => some (a.getLastD false)) [] ?_ ?_ ?_ (by show c.length < 9223372036854775808; omega) rfl).trans ?_
  · intro i t l ht hl
    have hi := lt_of_get ht
    simp only [dlt hi, cond_true, getI_nat ht, Option.bind_some]
    have := step147 hf hv (term_kd (c3 i t ht)) hl (by omega)
    rw [this]
    simp only [jl, succ_W (show i + 1 < 9223372036854775808 by omega)]
  · intro i t l _ hl
    simp [hl]
  · intro a ha
    have hne : a ≠ [] := fun e => by subst e; simp at ha; omega
    simp only [dnlt, cond_false, last_of hne (by omega), Option.bind_some]
  · unfold soB soL; rw [foldI_const]
theorem setI_mid {α : Type} {a b : List α} {x y : α} {i : Nat} (h : a.length = i) : setI (a ++ x :: b) (i : Int) y = some (a ++ y :: b) := by
  subst h
  unfold setI
  simp; omega
theorem G57_so {f : List Fct} {v : List Int} {c : Cnd} (hc : condE f c = 0) (hv : v.length = f.length) (hf : f.length < LF) : G57 LF (f, (c, v)) = some (soB f v c) := by
  obtain ⟨c1, c2, c3⟩ := cond_short hc
  unfold G57
  have hm : mkC (c.length : Int) false = some (List.replicate c.length false) := by unfold mkC; rw [if_pos (by omega)]; simp
  simp only [hm, Option.bind_some]
  rw [show List.replicate c.length false = ([] : List Bool) ++ List.replicate (c.length - ([] : List Bool).length) false by simp]
  refine (iter_foldI (fun i (a : List Bool) => (i, a ++ List.replicate (c.length - a.length) false)) (fun (t : Tm) _ l => l ++ [tmSo f v t l]) (fun i a => a.length = i) c (fun a => some (a.getLastD false)) [] ?_ ?_ ?_ (by show c.length < 9223372036854775808; omega) rfl).trans ?_
  · intro i t l ht hl
    have hi := lt_of_get ht
    have hrep : List.replicate (c.length - l.length) false = false :: List.replicate (c.length - (i + 1)) false := by
      rw [hl, show c.length - i = (c.length - (i + 1)) + 1 by omega, List.replicate_succ]
    have hset : ∀ b : Bool, setI (l ++ false :: List.replicate (c.length - (i + 1)) false) (i : Int) b = some (l ++ [b] ++ List.replicate (c.length - (l ++ [b]).length) false) := fun b => by
      rw [setI_mid hl]; simp [hl]
    have hget : ∀ j : Nat, j < i → getI (l ++ false :: List.replicate (c.length - (i + 1)) false) (j : Int) = some (l.getD j false) := fun j hj => by
      rw [getI_getD false (by simp; omega)]
      congr 1
      simp [List.getD_eq_getElem?_getD, List.getElem?_append_left (show j < l.length by omega)]
    have hgi : getI (l ++ false :: List.replicate (c.length - (i + 1)) false) (i : Int) = some false := by
      apply getI_nat
      rw [List.getElem?_append_right (by omega)]
      simp [hl]
    have hkd := term_kd (c3 i t ht)
    simp only [dlt hi, cond_true, getI_nat ht, Option.bind_some, G98_cmp, hrep, succ_W (show i + 1 < 9223372036854775808 by omega)]
    cases hkd with
    | tru =>
      simp only [show cmpK 0 = false by rfl, cond_false, jl, decide_true, cond_true, hgi, Option.bind_some, hset]
      rfl
    | cmp h1 h2 =>
      rename_i k a b s n
      have hck : cmpK k = true := by unfold cmpK; exact decide_eq_true (by omega)
      simp only [hck, cond_true, G111_plF _ _ hf, Option.bind_some, val_get h2 hv, jl, hgi, hset]
      rcases h1 with rfl | rfl | rfl <;> rfl
    | neg h1 =>
      rename_i a b s n
      simp only [show cmpK 4 = false by rfl, cond_false, jl, hget a h1, Option.bind_some, hgi, hset]
      simp [tmSo, jl]
    | bin h0 h1 h2 =>
      rename_i k a b s n
      rcases h0 with rfl | rfl
      · simp only [show cmpK 5 = false by rfl, cond_false, jl, hget a h1, hget b h2, Option.bind_some, hgi, hset, tm_and]
        cases l.getD a false <;> rfl
      · simp only [show cmpK 6 = false by rfl, cond_false, jl, hget a h1, hget b h2, Option.bind_some, hgi, hset, tm_or]
        cases l.getD a false <;> rfl
  · intro i t l _ hl
    simp [hl]
  · intro a ha
    have hne : a ≠ [] := fun e => by subst e; simp at ha; omega
    have hr : a ++ List.replicate (c.length - a.length) false = a := by rw [ha]; simp
    simp only [dnlt, cond_false, hr, last_of hne (by omega), Option.bind_some]
  · unfold soB soL; rw [foldI_const]
end Go.K
namespace Go.K
open Go.Sl Go.Sx Go.Proofs
structure VC (c : Cd) : Prop where
  fn : c.2.1 ≠ []
  fl : c.2.1.length ≤ 6
  ll : c.2.2.length ≤ 12
  fs : scan (factS c.2.1) c.2.1 0 = none
  rs : scan (ruleS c.2.1 c.2.2) c.2.2 0 = none
  mn : manyL (startsL c.2.1 (condsL c.2.2)) ≤ 4000
theorem VC.of {c : Cd} (h : codeE c = 0) : VC c := by
  unfold codeE at h
  cases h0 : nmB c.1 with
  | false => rw [h0] at h; cases h
  | true =>
    rw [h0] at h
    simp only [Bool.not_true, cond_false] at h
    split at h
    · cases h
    · rename_i h1
      split at h
      · cases h
      · rename_i h2
        have key : ∀ (e : Int) (l : List Fct) (i : Nat), scan (factS c.2.1) l i = some e → e ≠ 0 := by
          intro e l
          induction l with
          | nil => intro i hh; cases hh
          | cons x l ih =>
            intro i hh
            simp only [scan] at hh
            cases hf : factS c.2.1 x i with
            | none => rw [hf] at hh; exact ih _ hh
            | some e' =>
              rw [hf] at hh
              cases hh
              unfold factS at hf
              intro he
              subst he
              revert hf
              cases (!nmB x.1 || (c.2.1.take i).any fun y => decide (y.1 = x.1)) with
              | true => simp
              | false => cases spanB x <;> simp
        have key2 : ∀ (e : Int) (l : List Rl) (i : Nat), scan (ruleS c.2.1 c.2.2) l i = some e → e ≠ 0 := by
          intro e l
          induction l with
          | nil => intro i hh; cases hh
          | cons x l ih =>
            intro i hh
            simp only [scan] at hh
            cases hf : ruleS c.2.1 c.2.2 x i with
            | none => rw [hf] at hh; exact ih _ hh
            | some e' =>
              rw [hf] at hh
              cases hh
              unfold ruleS at hf
              split at hf
              · rename_i hz; cases hf; exact hz
              · cases hf
        split at h
        · rename_i e he; exact absurd h (key _ _ _ he)
        · rename_i he
          split at h
          · rename_i e he2; exact absurd h (key2 _ _ _ he2)
          · rename_i he2
            split at h
            · cases h
            · rename_i hm
              exact ⟨h1, by omega, by omega, he, he2, by omega⟩
theorem VC.rule {c : Cd} (h : VC c) {i : Nat} {r : Rl} (hr : c.2.2[i]? = some r) : nmB r.1 = true ∧ hasR (c.2.2.take i) r.1 = false ∧ (0 ≤ r.2.1 ∧ r.2.1 ≤ r.2.2.1 ∧ r.2.2.1 ≤ 100000) ∧ condE c.2.1 r.2.2.2.1 = 0 ∧ condE c.2.1 r.2.2.2.2.1 = 0 ∧ r.2.2.2.2.2.length ≤ 6 ∧ (scan (unlS (c.2.2.take i) r.2.2.2.2.2) r.2.2.2.2.2 0).getD 0 = 0 := rule_ok (rules_ok h.rs hr)
theorem VC.fl' {c : Cd} (h : VC c) : c.2.1.length < LF := by show c.2.1.length < 9223372036854775808; have := h.fl; omega
theorem VC.ll' {c : Cd} (h : VC c) : c.2.2.length < LF := by show c.2.2.length < 9223372036854775808; have := h.ll; omega
theorem VC.unl {c : Cd} (h : VC c) {i k : Nat} {r : Rl} {s : ByteArray} (hr : c.2.2[i]? = some r) (hs : r.2.2.2.2.2[k]? = some s) : ∃ n : Nat, fnd c.2.2 s = (n : Int) ∧ n < i := by
  obtain ⟨_, _, _, _, _, hl, hu⟩ := h.rule hr
  have hz : scan (unlS (c.2.2.take i) r.2.2.2.2.2) r.2.2.2.2.2 0 = none := by
    cases hq : scan (unlS (c.2.2.take i) r.2.2.2.2.2) r.2.2.2.2.2 0 with
    | none => rfl
    | some e =>
      rw [hq] at hu
      simp only [Option.getD_some] at hu
      subst hu
      exfalso
      have : ∀ (l : List ByteArray) (j : Nat), scan (unlS (c.2.2.take i) r.2.2.2.2.2) l j ≠ some 0 := by
        intro l
        induction l with
        | nil => intro j; simp [scan]
        | cons x l ih =>
          intro j
          simp only [scan]
          cases hx : unlS (c.2.2.take i) r.2.2.2.2.2 x j with
          | none => exact ih _
          | some e =>
            intro he
            cases he
            unfold unlS at hx
            revert hx
            cases (!hasR (c.2.2.take i) x || (r.2.2.2.2.2.take j).any fun y => decide (y = x)) <;> simp
      exact this _ _ hq
  have := scan_none hz k s hs
  rw [Nat.zero_add] at this
  unfold unlS at this
  have hh : hasR (c.2.2.take i) s = true := by
    cases hq : hasR (c.2.2.take i) s with
    | true => rfl
    | false => rw [hq] at this; cases this
  have hlt : decide (fnd c.2.2 s < (i : Int)) = true := by
    have e := idx_take (fun x : Rl => decide (x.1 = s)) c.2.2 i
    unfold fnd
    rw [e]
    unfold hasR at hh
    rw [hh, Bool.or_true]
  have hnn : decide (fnd c.2.2 s ≥ 0) = true := by
    rw [fnd_nn]
    unfold hasR at hh ⊢
    rw [List.any_eq_true] at hh ⊢
    obtain ⟨x, hx, hp⟩ := hh
    exact ⟨x, List.mem_of_mem_take hx, hp⟩
  have h1 := of_decide_eq_true hlt
  have h2 := of_decide_eq_true hnn
  exact ⟨(fnd c.2.2 s).toNat, by omega, by omega⟩
theorem and_fold (p : ByteArray → Bool) : ∀ (l : List ByteArray) (a : Bool), l.foldl (fun a s => a && p s) a = (a && l.all p)
  | [], a => by simp
  | s :: l, a => by rw [List.foldl_cons, and_fold p l, List.all_cons, Bool.and_assoc]
def ksL (f : List Fct) (v : List Int) (bs : List Bool) (m : List Rl) : List Bool := List.zipWith (fun b (r : Rl) => !b || soB f v r.2.2.2.2.1) bs m
theorem fold_pair (f : List Fct) (l : List Rl) (d : Int) (v : List Int) : ∀ (m : List Rl) (k b : List Bool),
    m.foldl (fun (a : List Bool × List Bool) r => (a.1 ++ [!bindB f l d v r a.2 || soB f v r.2.2.2.2.1], a.2 ++ [bindB f l d v r a.2])) (k, b) = (k ++ ksL f v (nbL f l d v m b) m, b ++ nbL f l d v m b)
  | [], k, b => by simp [nbL, ksL]
  | r :: m, k, b => by
    rw [List.foldl_cons, fold_pair f l d v m]
    simp [nbL, ksL]
theorem nbL_len (f : List Fct) (l : List Rl) (d : Int) (v : List Int) : ∀ (m : List Rl) (b : List Bool), (nbL f l d v m b).length = m.length
  | [], _ => rfl
  | r :: m, b => by simp [nbL, nbL_len f l d v m]
theorem bindsL_len (c : Cd) (d : Int) (v : List Int) : (bindsL c d v).length = c.2.2.length := nbL_len _ _ _ _ _ _
theorem keptL_len (c : Cd) (d : Int) (v : List Int) : (keptL c d v).length = c.2.2.length := by unfold keptL; simp [bindsL_len]
theorem G130_judge {c : Cd} (h : VC c) {d : Int} {v : List Int} (hv : v.length = c.2.1.length) : G130 LF (c, (d, (v, ()))) = some (bindsL c d v, keptL c d v) := by
  have hl12 := h.ll
  unfold G130
  refine (iter_foldI (fun i (a : List Bool × List Bool) => (i, (a.1, a.2))) (fun (r : Rl) _ a => (a.1 ++ [!bindB c.2.1 c.2.2 d v r a.2 || soB c.2.1 v r.2.2.2.2.1], a.2 ++ [bindB c.2.1 c.2.2 d v r a.2])) (fun i a => a.1.length = i ∧ a.2.length = i) c.2.2 (fun a => some (a.2, a.1)) ([], []) ?_ ?_ ?_ h.ll' ⟨rfl, rfl⟩).trans ?_
  · intro i r a hr ha
    obtain ⟨a1, a2⟩ := a
    simp only at ha
    have hi := lt_of_get hr
    obtain ⟨_, _, _, hw, hm, hu, _⟩ := h.rule hr
    simp only [dlt hi, cond_true, getI_nat hr, Option.bind_some, G91_in, G147_so hw hv h.fl', G147_so hm hv h.fl']
    -- the days and when
    have e1 : ∀ {ρ : Type} (K : Bool → Option ρ), jn (cond (decide (r.2.1 ≤ d ∧ d ≤ r.2.2.1)) (some (.inl (soB c.2.1 v r.2.2.2.1))) (some (.inl false))) K = K (decide (r.2.1 ≤ d ∧ d ≤ r.2.2.1) && soB c.2.1 v r.2.2.2.1) := by
      intro ρ K
      cases decide (r.2.1 ≤ d ∧ d ≤ r.2.2.1) <;> rfl
    rw [e1]
    refine (iter_foldI (fun i (a : Bool) => (a, i)) (fun (s : ByteArray) _ a => a && !a2.getD (fnd c.2.2 s).toNat false) (fun _ _ => True) r.2.2.2.2.2 (fun b => some (.inl (((i + 1 : Nat) : Int), (a1 ++ [!b || soB c.2.1 v r.2.2.2.2.1], a2 ++ [b])))) (decide (r.2.1 ≤ d ∧ d ≤ r.2.2.1) && soB c.2.1 v r.2.2.2.1) ?_ (fun _ _ _ _ _ => trivial) ?_ (by show r.2.2.2.2.2.length < 9223372036854775808; omega) trivial).trans ?_
    · intro k s b hs _
      have hk := lt_of_get hs
      obtain ⟨n, hn, hni⟩ := h.unl hr hs
      simp only [dlt hk, cond_true, getI_nat hs, Option.bind_some, succ_W (show k + 1 < 9223372036854775808 by omega)]
      cases b with
      | false => rfl
      | true =>
        simp only [cond_true, G36_fnd _ _ _ _ h.ll', Option.bind_some, hn, getI_getD (l := a2) (n := n) false (by omega)]
        rfl
    · intro b _
      simp only [dnlt, cond_false, appC_of (show a2.length + [b].length ≤ 1099511627776 by simp; omega), Option.bind_some, appC_of (show a1.length + [true].length ≤ 1099511627776 by simp; omega), appC_of (show a1.length + [soB c.2.1 v r.2.2.2.2.1].length ≤ 1099511627776 by simp; omega), succ_W (show i + 1 < 9223372036854775808 by omega)]
      cases b <;> rfl
    · rw [foldI_const, and_fold]
      rfl
  · intro i r a _ ha
    simp [ha.1, ha.2]
  · intro a _
    simp only [dnlt]; rfl
  · rw [foldI_const, fold_pair]
    rfl
theorem fold_binds (f : List Fct) (l : List Rl) (d : Int) (v : List Int) : ∀ (m : List Rl) (b : List Bool),
    m.foldl (fun (a : List Bool) r => a ++ [bindB f l d v r a]) b = b ++ nbL f l d v m b
  | [], b => by simp [nbL]
  | r :: m, b => by
    rw [List.foldl_cons, fold_binds f l d v m]
    simp [nbL]
theorem ref_bind {c : Cd} (h : VC c) {d : Int} {v : List Int} (hv : v.length = c.2.1.length) {i : Nat} {r : Rl} (hr : c.2.2[i]? = some r) {a : List Bool} (ha : a.length = i) {ρ : Type} (K : List Bool → Option ρ) :
    jn (((G126 LF (d, (r.2.1, r.2.2.1)))).bind fun r20 => cond r20 (((G57 LF (c.2.1, (r.2.2.2.1, v)))).bind fun r21 => some (.inl r21)) (some (.inl false))) (fun y22 : Bool => iter LF (fun y23 : (Bool × Int) => cond (decide (y23.2 < (r.2.2.2.2.2.length : Int))) (((getI r.2.2.2.2.2 y23.2)).bind fun r24 => ((G37 LF (c, r24))).bind fun r25 => ((getI a r25)).bind fun r26 => ((getI a r25)).bind fun r27 => cond r27 (some (.inl (false, (w64 (y23.2 + (1 : Int)))))) (some (.inl (y23.1, (w64 (y23.2 + (1 : Int))))))) (outR (((appC a [y23.1])).bind K))) (y22, (0 : Int)))
    = K (a ++ [bindB c.2.1 c.2.2 d v r a]) := by
  have hl12 := h.ll
  have hi := lt_of_get hr
  obtain ⟨_, _, _, hw, hm, hu, _⟩ := h.rule hr
  simp only [G126_in, Option.bind_some, G57_so hw hv h.fl']
  have e1 : ∀ {ρ : Type} (K : Bool → Option ρ), jn (cond (decide (r.2.1 ≤ d ∧ d ≤ r.2.2.1)) (some (.inl (soB c.2.1 v r.2.2.2.1))) (some (.inl false))) K = K (decide (r.2.1 ≤ d ∧ d ≤ r.2.2.1) && soB c.2.1 v r.2.2.2.1) := by
    intro ρ K
    cases decide (r.2.1 ≤ d ∧ d ≤ r.2.2.1) <;> rfl
  rw [e1]
  refine (iter_foldI (fun i (a : Bool) => (a, i)) (fun (s : ByteArray) _ b => b && !a.getD (fnd c.2.2 s).toNat false) (fun _ _ => True) r.2.2.2.2.2 (fun b => K (a ++ [b])) (decide (r.2.1 ≤ d ∧ d ≤ r.2.2.1) && soB c.2.1 v r.2.2.2.1) ?_ (fun _ _ _ _ _ => trivial) ?_ (by show r.2.2.2.2.2.length < 9223372036854775808; omega) trivial).trans ?_
  · intro k s b hs _
    have hk := lt_of_get hs
    obtain ⟨n, hn, hni⟩ := h.unl hr hs
    simp only [dlt hk, cond_true, getI_nat hs, Option.bind_some, succ_W (show k + 1 < 9223372036854775808 by omega), G37_fnd c s h.ll', hn, getI_getD (l := a) (n := n) false (by omega), Int.toNat_natCast]
    cases a.getD n false <;> cases b <;> rfl
  · intro b _
    simp only [dnlt, cond_false, appC_of (show a.length + [b].length ≤ 1099511627776 by simp; omega), Option.bind_some]
  · rw [foldI_const, and_fold]
    rfl
theorem G40_binds {c : Cd} (h : VC c) {d : Int} {v : List Int} (hv : v.length = c.2.1.length) : G40 LF (c, (d, v)) = some (bindsL c d v) := by
  have hl12 := h.ll
  unfold G40
  refine (iter_foldI (fun i (a : List Bool) => (a, i)) (fun (r : Rl) _ a => a ++ [bindB c.2.1 c.2.2 d v r a]) (fun i a => a.length = i) c.2.2 (fun a => some a) [] ?_ ?_ ?_ h.ll' rfl).trans ?_
  · intro i r a hr ha
    have hi := lt_of_get hr
    simp only [dlt hi, cond_true, getI_nat hr, Option.bind_some]
    have := ref_bind h (d := d) hv hr ha (fun r28 => (some (.inl (r28, ((i + 1 : Nat) : Int))) : Option ((List Bool × Int) ⊕ List Bool)))
    simp only [succ_W (show i + 1 < 9223372036854775808 by omega)]
    exact this
  · intro i r a _ ha
    simp [ha]
  · intro a _
    simp only [dnlt]; rfl
  · rw [foldI_const, fold_binds]
    rfl
theorem G26_kept {c : Cd} (h : VC c) {d : Int} {v : List Int} (hv : v.length = c.2.1.length) : G26 LF (c, (d, v)) = some (keptL c d v) := by
  have hl12 := h.ll
  unfold G26
  refine (iter_foldI (fun i (a : List Bool) => (a, i)) (fun (r : Rl) _ a => a ++ [bindB c.2.1 c.2.2 d v r a]) (fun i a => a.length = i) c.2.2 (fun a => some (ksL c.2.1 v a c.2.2)) [] ?_ ?_ ?_ h.ll' rfl).trans ?_
  · intro i r a hr ha
    have hi := lt_of_get hr
    simp only [dlt hi, cond_true, getI_nat hr, Option.bind_some]
    have := ref_bind h (d := d) hv hr ha (fun r28 => (some (.inl (r28, ((i + 1 : Nat) : Int))) : Option ((List Bool × Int) ⊕ List Bool)))
    simp only [succ_W (show i + 1 < 9223372036854775808 by omega)]
    exact this
  · intro i r a _ ha
    simp [ha]
  · intro bs hbs
    simp only [dnlt, cond_false]
    congr 1
    -- the second loop: state (i, done ++ the rest of bs)
    refine (iter_foldI (fun i (a : List Bool) => (i, a ++ bs.drop a.length)) (fun (r : Rl) i a => a ++ [!bs.getD i false || soB c.2.1 v r.2.2.2.2.1]) (fun i a => a.length = i) c.2.2 (fun a => some a) [] ?_ ?_ ?_ h.ll' rfl).trans ?_
    · intro i r a hr ha
      have hi := lt_of_get hr
      obtain ⟨_, _, _, hw, hm, hu, _⟩ := h.rule hr
      have hib : i < bs.length := by omega
      have hd : bs.drop a.length = bs.getD i false :: bs.drop (i + 1) := by
        rw [ha, List.drop_eq_getElem_cons hib, List.getD_eq_getElem?_getD, List.getElem?_eq_getElem hib]; rfl
      have hgi : getI (a ++ bs.getD i false :: bs.drop (i + 1)) (i : Int) = some (bs.getD i false) := by
        apply getI_nat
        rw [List.getElem?_append_right (by omega)]
        simp [ha]
      have hset : ∀ b : Bool, setI (a ++ bs.getD i false :: bs.drop (i + 1)) (i : Int) b = some (a ++ [b] ++ bs.drop (a ++ [b]).length) := fun b => by
        rw [setI_mid ha]; simp [ha]
      simp only [dlt hi, cond_true, getI_nat hr, Option.bind_some, hd, hgi, G57_so hm hv h.fl', hset, succ_W (show i + 1 < 9223372036854775808 by omega)]
      cases bs.getD i false <;> rfl
    · intro i r a _ ha
      simp [ha]
    · intro a ha
      have : a ++ bs.drop a.length = a := by rw [List.drop_eq_nil_of_le (by omega)]; simp
      simp only [dnlt, this]; rfl
    · congr 1
      unfold ksL
      have gen : ∀ (m : List Rl) (i : Nat) (a : List Bool), i + m.length = bs.length → foldI (fun (r : Rl) i (a : List Bool) => a ++ [!bs.getD i false || soB c.2.1 v r.2.2.2.2.1]) m i a = a ++ List.zipWith (fun b (r : Rl) => !b || soB c.2.1 v r.2.2.2.2.1) (bs.drop i) m := by
        intro m
        induction m with
        | nil => intro i a _; simp [foldI]
        | cons r m ih =>
          intro i a hlen
          simp only [List.length_cons] at hlen
          simp only [foldI]
          have e : bs.drop i = bs.getD i false :: bs.drop (i + 1) := by
            rw [List.drop_eq_getElem_cons (show i < bs.length by omega), List.getD_eq_getElem?_getD, List.getElem?_eq_getElem (show i < bs.length by omega)]; rfl
          rw [ih (i + 1) _ (by omega), e, List.zipWith_cons_cons, List.append_assoc]
          rfl
      rw [gen c.2.2 0 [] (by omega)]
      simp
  · rw [foldI_const, fold_binds]
    rfl
end Go.K
set_option maxHeartbeats 0
namespace Go.K
open Go.Sl Go.Sx Go.Proofs
noncomputable def G151 (lf : Nat) (x : ((ByteArray × (Yf × Yr)) × (Int × Yf))) : Option (Int) :=
  ((G27 lf ((x.1.1, (x.1.2.1, x.1.2.2)), x.2.2))).bind fun r13 => iter lf (fun y14 : (Bool × (Bool × Int)) => cond (decide (y14.2.2 < (r13.length : Int))) (((getI r13 y14.2.2)).bind fun r15 => ((G26 lf ((x.1.1, (x.1.2.1, x.1.2.2)), (x.2.1, r15)))).bind fun r16 => ((G28 lf (r16, (-1 : Int)))).bind fun r17 => cond r17 (some (.inl (true, (y14.2.1, (w64 (y14.2.2 + (1 : Int))))))) (some (.inl (y14.1, (true, (w64 (y14.2.2 + (1 : Int)))))))) (outR (((G148 lf (y14.1, y14.2.1))).bind fun r18 => some r18))) (false, (false, (0 : Int)))
noncomputable def G70 (lf : Nat) (x : ((ByteArray × (Yf × Yr)) × (Int × Yf))) : Option ((Int × Int)) :=
  ((G149 lf ((x.1.1, (x.1.2.1, x.1.2.2)), ((0 : Int), (false, (x.2.1, x.2.2)))))).bind fun r7 => cond (!(decide (r7 = (0 : Int)))) (some ((0 : Int), r7)) (((G151 lf ((x.1.1, (x.1.2.1, x.1.2.2)), (x.2.1, x.2.2)))).bind fun r8 => some (r8, (0 : Int)))
noncomputable def G66 (lf : Nat) (x : (Yf × Yt)) : Option ((Int × Int)) :=
  cond (decide ((x.1.length : Int) > (6 : Int))) (some ((0 : Int), (2 : Int))) (iter lf (fun y18 : Int => cond (decide (y18 < (x.1.length : Int))) (((getI x.1 y18)).bind fun r19 => jn (((G99 lf r19.1)).bind fun r20 => cond (!r20) (some (.inl true)) (((G117 lf (r19.2.1, r19.2.2))).bind fun r21 => cond (!r21) (some (.inl true)) (((G111 lf (x.1, r19.1))).bind fun r22 => some (.inl (decide (r22 < y18)))))) (fun y23 : Bool => cond y23 (some (.inr ((0 : Int), (44 : Int)))) (some (.inl (w64 (y18 + (1 : Int))))))) (outR (((G30 lf (x.1, x.2))).bind fun r24 => cond (!(decide (r24 = (0 : Int)))) (some ((0 : Int), r24)) (((G108 lf (x.1, [x.2]))).bind fun r25 => ((G119 lf r25)).bind fun r26 => cond (decide (r26 > (4000 : Int))) (some ((0 : Int), (2 : Int))) (((G56 lf r25)).bind fun r27 => iter lf (fun y28 : (Bool × (Bool × Int)) => cond (decide (y28.2.2 < (r27.length : Int))) (((getI r27 y28.2.2)).bind fun r29 => ((G57 lf (x.1, (x.2, r29)))).bind fun r30 => cond r30 (some (.inl (true, (y28.2.1, (w64 (y28.2.2 + (1 : Int))))))) (some (.inl (y28.1, (true, (w64 (y28.2.2 + (1 : Int)))))))) (outR (((G148 lf (y28.1, y28.2.1))).bind fun r31 => some (r31, (0 : Int))))) (false, (false, (0 : Int)))))))) (0 : Int))
end Go.K
namespace Go.K
open Go.Sl Go.Sx Go.Proofs
noncomputable def G65 (lf : Nat) (x : (Yf × Yt)) : Option ((Int × Int)) :=
  cond (decide ((x.1.length : Int) > (6 : Int))) (some ((0 : Int), (2 : Int))) (iter lf (fun y72 : Int => cond (decide (y72 < (x.1.length : Int))) (((getI x.1 y72)).bind fun r73 => jn (((G94 lf r73.1)).bind fun r74 => cond (!r74) (some (.inl true)) (((G112 lf (r73.1, (r73.2.1, r73.2.2)))).bind fun r75 => cond (!r75) (some (.inl true)) (((subI x.1 (0 : Int) y72)).bind fun r76 => ((G110 lf (r76, r73.1))).bind fun r77 => some (.inl (decide (r77 ≥ (0 : Int))))))) (fun y78 : Bool => cond y78 (some (.inr ((0 : Int), (44 : Int)))) (some (.inl (w64 (y72 + (1 : Int))))))) (outR (((G29 lf (x.1, x.2))).bind fun r79 => cond (!(decide (r79 = (0 : Int)))) (some ((0 : Int), r79)) (((G115 lf (x.1, [x.2]))).bind fun r80 => ((G114 lf r80)).bind fun r81 => cond (decide (r81 > (4000 : Int))) (some ((0 : Int), (2 : Int))) (((G131 lf ())).bind fun r82 => ((mkC (r80.length : Int) (0 : Int))).bind fun r83 => iter lf (fun y84 : ((List Int) × (List Bool)) => iter lf (fun y85 : ((List Int) × Int) => cond (decide (y85.2 < (y84.1.length : Int))) (((getI y84.1 y85.2)).bind fun r86 => ((getI y84.1 y85.2)).bind fun r87 => ((getI r80 y85.2)).bind fun r88 => ((getI r88 r87)).bind fun r89 => ((appC y85.1 [r89])).bind fun r90 => some (.inl (r90, (w64 (y85.2 + (1 : Int)))))) (outR (((G147 lf ((x.1, y85.1), (x.2, ())))).bind fun r91 => ((appC y84.2 [r91])).bind fun r92 => jn (iter lf (fun y93 : (Int × (List Int)) => cond (decide (y93.1 ≥ (0 : Int))) (((getI y93.2 y93.1)).bind fun r94 => ((getI y93.2 y93.1)).bind fun r95 => ((getI r80 y93.1)).bind fun r96 => cond (decide (r95 = (w64 ((r96.length : Int) - (1 : Int))))) (((getI y93.2 y93.1)).bind fun r97 => ((getI y93.2 y93.1)).bind fun r98 => ((setI y93.2 y93.1 (0 : Int))).bind fun r99 => some (.inl ((w64 (y93.1 - (1 : Int))), r99))) (some (.inr (.inl (y93.1, y93.2))))) (some (.inr (.inl (y93.1, y93.2))))) ((w64 ((r80.length : Int) - (1 : Int))), y84.1)) (fun y100 : (Int × (List Int)) => cond (decide (y100.1 < (0 : Int))) (outR (((G125 lf r92)).bind fun r101 => some (r101, (0 : Int)))) (((getI y100.2 y100.1)).bind fun r102 => ((getI y100.2 y100.1)).bind fun r103 => ((getI y100.2 y100.1)).bind fun r104 => ((getI y100.2 y100.1)).bind fun r105 => ((setI y100.2 y100.1 (w64 (r103 + (1 : Int))))).bind fun r106 => some (.inl (r106, r92))))))) (([] : List Int), (0 : Int))) (r83, ([] : List Bool))))))) (0 : Int))
noncomputable def G67 (lf : Nat) (x : ((ByteArray × (Yf × Yr)) × (Int × (Int × Yf)))) : Option ((Int × Int)) :=
  jn (((G31 lf (x.1.1, (x.1.2.1, x.1.2.2)))).bind fun r77 => cond (!(decide (r77 = (0 : Int)))) (some (.inl r77)) (((G91 lf (x.2.1, ((0 : Int), (w64 ((x.1.2.2.length : Int) - (1 : Int))))))).bind fun r78 => cond (!r78) (some (.inl (47 : Int))) (((G91 lf (x.2.2.1, ((0 : Int), (100000 : Int))))).bind fun r79 => cond (!r79) (some (.inl (45 : Int))) (((G173 lf ((x.1.1, (x.1.2.1, x.1.2.2)), x.2.2.2))).bind fun r80 => cond (!r80) (some (.inl (44 : Int))) (some (.inl (0 : Int))))))) (fun y81 : Int => cond (!(decide (y81 = (0 : Int)))) (some ((0 : Int), y81)) (((G131 lf ())).bind fun r82 => ((G116 lf (x.1.1, (x.1.2.1, x.1.2.2)))).bind fun r83 => ((G115 lf (x.2.2.2, r83))).bind fun r84 => ((mkC (r84.length : Int) (0 : Int))).bind fun r85 => iter lf (fun y86 : ((List Int) × (List Bool)) => iter lf (fun y87 : ((List Int) × Int) => cond (decide (y87.2 < (y86.1.length : Int))) (((getI y86.1 y87.2)).bind fun r88 => ((getI y86.1 y87.2)).bind fun r89 => ((getI r84 y87.2)).bind fun r90 => ((getI r90 r89)).bind fun r91 => ((appC y87.1 [r91])).bind fun r92 => some (.inl (r92, (w64 (y87.2 + (1 : Int)))))) (outR (((G130 lf ((x.1.1, (x.1.2.1, x.1.2.2)), (x.2.2.1, (y87.1, ()))))).bind fun r93 => ((getI r93.1 x.2.1)).bind fun r94 => ((appC y86.2 [r94])).bind fun r95 => jn (iter lf (fun y96 : (Int × (List Int)) => cond (decide (y96.1 ≥ (0 : Int))) (((getI y96.2 y96.1)).bind fun r97 => ((getI y96.2 y96.1)).bind fun r98 => ((getI r84 y96.1)).bind fun r99 => cond (decide (r98 = (w64 ((r99.length : Int) - (1 : Int))))) (((getI y96.2 y96.1)).bind fun r100 => ((getI y96.2 y96.1)).bind fun r101 => ((setI y96.2 y96.1 (0 : Int))).bind fun r102 => some (.inl ((w64 (y96.1 - (1 : Int))), r102))) (some (.inr (.inl (y96.1, y96.2))))) (some (.inr (.inl (y96.1, y96.2))))) ((w64 ((r84.length : Int) - (1 : Int))), y86.1)) (fun y103 : (Int × (List Int)) => cond (decide (y103.1 < (0 : Int))) (outR (((G125 lf r95)).bind fun r104 => some (r104, (0 : Int)))) (((getI y103.2 y103.1)).bind fun r105 => ((getI y103.2 y103.1)).bind fun r106 => ((getI y103.2 y103.1)).bind fun r107 => ((getI y103.2 y103.1)).bind fun r108 => ((setI y103.2 y103.1 (w64 (r106 + (1 : Int))))).bind fun r109 => some (.inl (r109, r95))))))) (([] : List Int), (0 : Int))) (r85, ([] : List Bool))))
end Go.K
namespace Go.K
open Go.Sl Go.Sx Go.Proofs
theorem castN_lt {k : List Nat} {i : Nat} (h : i < k.length) : decide ((i : Int) < ((castN k).length : Int)) = true := decide_eq_true (by simp [castN]; omega)
theorem vals_of {ρ : Type} {ls : List (List Int)} {k : List Nat} (hk : okI ls k) (hb : ls.length ≤ 1000) {f : List Int × Int → Option ((List Int × Int) ⊕ ρ)} {K : Option ρ}
    (h1 : ∀ (a : List Int) (i : Nat), i < k.length → f (a, (i : Int)) = ((getI (castN k) (i : Int))).bind fun r77 => ((getI (castN k) (i : Int))).bind fun r78 => ((getI ls (i : Int))).bind fun r79 => ((getI r79 r78)).bind fun r80 => ((appC a [r80])).bind fun r81 => some (.inl (r81, (w64 ((i : Int) + (1 : Int))))))
    (h2 : f (valsI ls k, ((castN k).length : Int)) = outR K) : iter LF f (([] : List Int), (0 : Int)) = K := by
  have hl := okI_len hk
  have hcl : (castN k).length = k.length := by simp [castN]
  refine (iter_foldI (f := f) (fun i a => (a, i)) (fun (x : Nat) i (a : List Int) => a ++ [(ls.getD i []).getD x 0]) (fun i a => a = valsI (ls.take i) (k.take i)) k (fun _ => K) []
    (fun i x a hx hg => ?_) (fun i x a hx hg => ?_) (fun a hg => ?_) (by show k.length < 9223372036854775808; omega) (by simp [valsI])).trans rfl
  · obtain ⟨c, hc, hlt⟩ := okI_get hk hx
    have hi := (List.getElem?_eq_some_iff.1 hx).1
    have hn : c[x]? = some c[x] := List.getElem?_eq_getElem hlt
    have hal : a.length ≤ 1000 := by rw [hg, vals_len (by simp; omega)]; simp; omega
    rw [h1 a i hi, getI_nat (show (castN k)[i]? = some (x : Int) by simp [castN, hx]), getI_nat hc]
    simp only [Option.bind_some, getI_nat hn, appC_of (show a.length + [c[x]].length ≤ 1099511627776 by simp; omega), succ_W (show i + 1 < 9223372036854775808 by omega)]
    simp [hc, hn]
  · have hi := (List.getElem?_eq_some_iff.1 hx).1
    have e1 := vals_take hk (i + 1) (by omega)
    have e0 := vals_take hk i (by omega)
    obtain ⟨c, hc, hlt⟩ := okI_get hk hx
    have t1 : k.take (i + 1) = k.take i ++ [x] := by rw [List.take_add_one, hx]; rfl
    have t2 : ls.take (i + 1) = ls.take i ++ [c] := by rw [List.take_add_one, hc]; rfl
    rw [t1, t2, vals_snoc _ _ (by simp; omega), ← hg]
    simp [hc]
  · have : a = valsI ls k := by rw [hg, List.take_length, ← hl, List.take_length]
    rw [this, ← hcl]; exact h2
theorem adv_of {ρ : Type} {ls : List (List Int)} {k : List Nat} (hk : okI ls k) (hb : ls.length ≤ 1000) (hcl : ∀ c ∈ ls, c.length < LF) (END : Option ρ) (NEXT : List Int → Option ρ) :
    jn (iter LF (fun y85 : (Int × (List Int)) => cond (decide (y85.1 ≥ (0 : Int))) (((getI y85.2 y85.1)).bind fun r86 => ((getI y85.2 y85.1)).bind fun r87 => ((getI ls y85.1)).bind fun r88 => cond (decide (r87 = (w64 ((r88.length : Int) - (1 : Int))))) (((getI y85.2 y85.1)).bind fun r89 => ((getI y85.2 y85.1)).bind fun r90 => ((setI y85.2 y85.1 (0 : Int))).bind fun r91 => some (.inl ((w64 (y85.1 - (1 : Int))), r91))) (some (.inr (.inl (y85.1, y85.2))))) (some (.inr (.inl (y85.1, y85.2))))) ((w64 ((ls.length : Int) - (1 : Int))), castN k))
      (fun y92 : (Int × (List Int)) => cond (decide (y92.1 < (0 : Int))) END (((getI y92.2 y92.1)).bind fun r94 => ((getI y92.2 y92.1)).bind fun r95 => ((getI y92.2 y92.1)).bind fun r96 => ((getI y92.2 y92.1)).bind fun r97 => ((setI y92.2 y92.1 (w64 (r95 + (1 : Int))))).bind NEXT))
    = match nxt ls k with
      | none => END
      | some k' => NEXT (castN k') := by
  have hkl := okI_len hk
  obtain ⟨i, at', h1, h2⟩ := adv_loop (ρ := (Int × List Int) ⊕ ρ) (ls := ls) (fun y => .inl y) hb hcl (f := fun y85 : (Int × (List Int)) => cond (decide (y85.1 ≥ (0 : Int))) (((getI y85.2 y85.1)).bind fun r86 => ((getI y85.2 y85.1)).bind fun r87 => ((getI ls y85.1)).bind fun r88 => cond (decide (r87 = (w64 ((r88.length : Int) - (1 : Int))))) (((getI y85.2 y85.1)).bind fun r89 => ((getI y85.2 y85.1)).bind fun r90 => ((setI y85.2 y85.1 (0 : Int))).bind fun r91 => some (.inl ((w64 (y85.1 - (1 : Int))), r91))) (some (.inr (.inl (y85.1, y85.2))))) (some (.inr (.inl (y85.1, y85.2)))))
    (fun at_ => rfl)
    (fun j x at_ c e1 e2 e3 e4 => by
      have hc := hcl c (List.mem_of_getElem? e2)
      have hc' : c.length < 9223372036854775808 := hc
      have d1 : decide ((j : Int) ≥ 0) = true := decide_eq_true (by omega)
      have d2 : decide ((x : Int) = w64 ((c.length : Int) - 1)) = true := decide_eq_true (by rw [w64_in (by omega)]; omega)
      simp only [d1, d2, cond_true, getI_nat e1, getI_nat e2, Option.bind_some])
    (fun j x at_ c e1 e2 e3 e4 => by
      have hc := hcl c (List.mem_of_getElem? e2)
      have hc' : c.length < 9223372036854775808 := hc
      have d1 : decide ((j : Int) ≥ 0) = true := decide_eq_true (by omega)
      have d2 : decide ((x : Int) = w64 ((c.length : Int) - 1)) = false := decide_eq_false (by rw [w64_in (by omega)]; omega)
      simp only [d1, d2, cond_true, cond_false, getI_nat e1, getI_nat e2, Option.bind_some])
    k.length ls [] k 0 LF (by simp) rfl hk (by show k.length < 9223372036854775808; omega)
  have hst : w64 ((ls.length : Int) - 1) = (k.length : Int) - 1 := by rw [w64_in (by omega)]; omega
  simp only [List.replicate_zero, List.append_nil] at h1 h2
  rw [hst, h1]
  simp only [jl]
  cases hn : nxt ls k with
  | none =>
    rw [hn] at h2
    subst h2
    rfl
  | some k' =>
    rw [hn] at h2
    obtain ⟨j, r, rfl, e1, e2⟩ := h2
    have d1 : decide ((j : Int) < 0) = false := decide_eq_false (by omega)
    simp only [d1, cond_false, getI_nat e1, Option.bind_some, e2]
theorem mkC_zer (ls : List (List Int)) (h : ls.length ≤ 1000) : mkC (ls.length : Int) (0 : Int) = some (castN (zerN ls)) := by
  unfold mkC
  rw [if_pos (by omega)]
  simp only [castN, zerN, List.map_map, Int.toNat_natCast]
  congr 1
  exact List.map_const'.symm
def prodL (l : List (List Int)) : Nat := l.foldr (fun x n => x.length * n) 1
theorem choL_len : ∀ l : List (List Int), (choL l).length = prodL l
  | [] => rfl
  | x :: l => by
    have ih := choL_len l
    show (x.flatMap fun n => (choL l).map (n :: ·)).length = x.length * prodL l
    rw [← ih]
    induction x with
    | nil => simp
    | cons a x ihx => rw [List.flatMap_cons, List.length_append, ihx, List.length_map, List.length_cons, Nat.add_mul]; omega
theorem prod_pos : ∀ {l : List (List Int)}, (∀ x ∈ l, x ≠ []) → 1 ≤ prodL l
  | [], _ => Nat.le_refl _
  | x :: l, h => Nat.mul_pos (List.length_pos_iff.2 (h x (List.mem_cons_self ..))) (prod_pos fun y hy => h y (List.mem_cons_of_mem _ hy))
theorem many_prod : ∀ (l : List (List Int)) (n : Nat), (∀ x ∈ l, x ≠ [] ∧ x.length ≤ 1000000) → 1 ≤ n → n ≤ 4001 →
    l.foldl (fun (n : Int) x => if (4001 : Int) < w64 (n * (x.length : Int)) then 4001 else w64 (n * (x.length : Int))) (n : Int) ≤ 4000 → n * prodL l ≤ 4000
  | [], n, _, _, h2, h => by
    simp only [List.foldl_nil] at h
    simp [prodL]; omega
  | x :: l, n, hl, h1, h2, h => by
    obtain ⟨hx0, hx1⟩ := hl x (List.mem_cons_self ..)
    have hxp := List.length_pos_iff.2 hx0
    have hb : n * x.length ≤ 4001 * 1000000 := Nat.mul_le_mul h2 hx1
    have hp : n ≤ n * x.length := Nat.le_mul_of_pos_right _ hxp
    have he : w64 ((n : Int) * (x.length : Int)) = ((n * x.length : Nat) : Int) := by
      rw [← Int.natCast_mul, w64_in (by omega)]
    rw [List.foldl_cons, he] at h
    have hprod := prod_pos (l := l) fun y hy => (hl y (List.mem_cons_of_mem _ hy)).1
    by_cases hc : 4001 < n * x.length
    · rw [if_pos (by omega)] at h
      have := many_prod l 4001 (fun y hy => hl y (List.mem_cons_of_mem _ hy)) (by omega) (by omega) h
      have : 4001 * 1 ≤ 4001 * prodL l := Nat.mul_le_mul (Nat.le_refl _) hprod
      omega
    · rw [if_neg (by omega)] at h
      have := many_prod l (n * x.length) (fun y hy => hl y (List.mem_cons_of_mem _ hy)) (by omega) (by omega) h
      show n * (x.length * prodL l) ≤ 4000
      rw [← Nat.mul_assoc]; exact this
theorem rise_le : ∀ {l m : List Int}, Rise l → Rise m → (∀ x ∈ l, x ∈ m) → l.length ≤ m.length
  | [], _, _, _, _ => by simp
  | a :: l, [], _, _, h => absurd (h a (List.mem_cons_self ..)) (by simp)
  | a :: l, b :: m, hl, hm, h => by
    obtain ⟨l1, l2⟩ := List.pairwise_cons.1 hl
    obtain ⟨m1, m2⟩ := List.pairwise_cons.1 hm
    by_cases e : a = b
    · subst e
      have := rise_le l2 m2 fun x hx => by
        rcases List.mem_cons.1 (h x (List.mem_cons_of_mem _ hx)) with e | e
        · subst e; exact absurd (l1 x hx) (Int.lt_irrefl _)
        · exact e
      simp only [List.length_cons]; omega
    · have ha : a ∈ m := by
        rcases List.mem_cons.1 (h a (List.mem_cons_self ..)) with e' | e'
        · exact absurd e' e
        · exact e'
      have hb := m1 a ha
      have := rise_le hl m2 fun x hx => by
        rcases List.mem_cons.1 (h x hx) with e' | e'
        · rcases List.mem_cons.1 hx with e2 | e2
          · subst e2; exact ha
          · have := l1 x e2; omega
        · exact e'
      simp only [List.length_cons] at this ⊢; omega
theorem cuts_mem (cs : List Cnd) (x : Fct) : Rise (cutsOf cs x) ∧ ∀ n, n ∈ cutsOf cs x ↔ n = x.2.1 ∨ n ∈ cutN x cs := by
  obtain ⟨h1, h2⟩ := sc_rise (x.2.1 :: cutN x cs)
  exact ⟨h1, fun n => by rw [show cutsOf cs x = compL (sortL (x.2.1 :: cutN x cs)) from rfl, h2, List.mem_cons]⟩
theorem cuts_ne (cs : List Cnd) (x : Fct) : cutsOf cs x ≠ [] := fun e => by
  have := (cuts_mem cs x).2 x.2.1
  rw [e] at this
  simp at this
theorem cutN_mem {x : Fct} {cs : List Cnd} {n : Int} : n ∈ cutN x cs ↔ (∃ c ∈ cs, ∃ t ∈ c, t.2.2.2.1 = x.1 ∧ n ∈ partsL t) ∧ x.2.1 < n ∧ n ≤ x.2.2 := by
  unfold cutN cutT
  simp only [List.mem_flatMap]
  constructor
  · rintro ⟨c, hc, t, ht, hn⟩
    cases hd : decide (t.2.2.2.1 = x.1) with
    | false => rw [hd] at hn; simp at hn
    | true =>
      rw [hd] at hn
      simp only [cond_true, List.mem_filter] at hn
      obtain ⟨h1, h2⟩ := hn
      unfold inS at h2
      simp only [Bool.and_eq_true, decide_eq_true_eq] at h2
      exact ⟨⟨c, hc, t, ht, of_decide_eq_true hd, h1⟩, h2.1, h2.2⟩
  · rintro ⟨⟨c, hc, t, ht, e, h1⟩, h2, h3⟩
    refine ⟨c, hc, t, ht, ?_⟩
    rw [decide_eq_true e]
    simp only [cond_true, List.mem_filter]
    exact ⟨h1, by unfold inS; simp [h2, h3]⟩
theorem cutN_len (x : Fct) (cs : List Cnd) (hc : cs.length ≤ 100) (ht : ∀ c ∈ cs, List.length c ≤ 1000) : (cutN x cs).length ≤ 200000 := by
  have := flat_len (fun c : Cnd => c.flatMap (cutT x)) 2000 cs (fun c hc => by
    have h1 := flat_len (cutT x) 2 c (fun t _ => cutT_len x t)
    have h2 := ht c hc
    omega)
  unfold cutN; omega
theorem compact_le (xs : List Int) : (compL xs).length ≤ xs.length := by
  unfold compL Lib.compact Lib.compactUpTo
  rw [List.length_map]
  exact Nat.le_trans (List.length_filter_le _ _) (by simp)
theorem cuts_len (x : Fct) (cs : List Cnd) (hc : cs.length ≤ 100) (ht : ∀ c ∈ cs, List.length c ≤ 1000) : (cutsOf cs x).length ≤ 200001 := by
  have h1 := compact_le (sortL (x.2.1 :: cutN x cs))
  have h2 := sortL_len (x.2.1 :: cutN x cs)
  have h3 := cutN_len x cs hc ht
  unfold cutsOf
  simp only [List.length_cons] at h2
  omega
theorem cuts_le {cs : List Cnd} {x y : Fct} (h : fitB x y = true) : (cutsOf cs y).length ≤ (cutsOf cs x).length := by
  unfold fitB at h
  simp only [Bool.and_eq_true, decide_eq_true_eq] at h
  obtain ⟨e, h1, h2, h3⟩ := h
  obtain ⟨r1, m1⟩ := cuts_mem cs y
  obtain ⟨r2, m2⟩ := cuts_mem cs x
  -- without the least one
  have tl : ∀ {z : Fct}, ∃ t, cutsOf cs z = z.2.1 :: t ∧ ∀ n, n ∈ t ↔ n ∈ cutN z cs := by
    intro z
    obtain ⟨r, m⟩ := cuts_mem cs z
    cases hz : cutsOf cs z with
    | nil => exact absurd hz (cuts_ne cs z)
    | cons a t =>
      rw [hz] at r m
      obtain ⟨p1, p2⟩ := List.pairwise_cons.1 r
      have hlo : ∀ n, n ∈ cutN z cs → z.2.1 < n := fun n hn => (cutN_mem.1 hn).2.1
      have ha : a = z.2.1 := by
        rcases (m a).1 (List.mem_cons_self ..) with e | e
        · exact e
        · have h1 := hlo a e
          rcases List.mem_cons.1 ((m z.2.1).2 (.inl rfl)) with e' | e'
          · exact e'.symm
          · have := p1 _ e'; omega
      subst ha
      refine ⟨t, rfl, fun n => ⟨fun hn => ?_, fun hn => ?_⟩⟩
      · rcases (m n).1 (List.mem_cons_of_mem _ hn) with e | e
        · subst e; exact absurd (p1 _ hn) (Int.lt_irrefl _)
        · exact e
      · rcases List.mem_cons.1 ((m n).2 (.inr hn)) with e | e
        · subst e; exact absurd (hlo _ hn) (Int.lt_irrefl _)
        · exact e
  obtain ⟨t1, e1, n1⟩ := tl (z := y)
  obtain ⟨t2, e2, n2⟩ := tl (z := x)
  rw [e1] at r1
  rw [e2] at r2
  rw [e1, e2]
  have := rise_le (List.pairwise_cons.1 r1).2 (List.pairwise_cons.1 r2).2 fun n hn => by
    rw [n2, cutN_mem]
    obtain ⟨⟨c, hc, t, ht, e', hp⟩, h4, h5⟩ := cutN_mem.1 ((n1 n).1 hn)
    exact ⟨⟨c, hc, t, ht, by rw [e', e], hp⟩, by omega, by omega⟩
  simp only [List.length_cons]; omega
theorem fit_iff {f g : List Fct} (h : fitS f g = true) : f.length = g.length ∧ ∀ (i : Nat) (x y : Fct), f[i]? = some x → g[i]? = some y → fitB x y = true := by
  unfold fitS at h
  simp only [Bool.and_eq_true, decide_eq_true_eq, List.all_eq_true] at h
  refine ⟨h.1, fun i x y hx hy => h.2 (x, y) (List.mem_of_getElem? (i := i) ?_)⟩
  rw [List.getElem?_zip_eq_some]
  exact ⟨hx, hy⟩
theorem prod_le : ∀ {l m : List (List Int)}, l.length = m.length → (∀ (i : Nat) (x y : List Int), l[i]? = some x → m[i]? = some y → x.length ≤ y.length) → prodL l ≤ prodL m
  | [], [], _, _ => Nat.le_refl _
  | x :: l, y :: m, h, hh => Nat.mul_le_mul (hh 0 x y rfl rfl) (prod_le (by simpa using h) fun i a b ha hb => hh (i + 1) a b (by simpa using ha) (by simpa using hb))
  | [], _ :: _, h, _ => by simp at h
  | _ :: _, [], h, _ => by simp at h
theorem VC.cl {c : Cd} (h : VC c) : (condsL c.2.2).length ≤ 100 := by rw [conds_len]; have := h.ll; omega
theorem VC.cs {c : Cd} (h : VC c) : ∀ x ∈ condsL c.2.2, List.length x ≤ 1000 := conds_short h.rs
theorem starts_ne (f : List Fct) (cs : List Cnd) : ∀ x ∈ startsL f cs, x ≠ [] := by
  intro x hx
  unfold startsL at hx
  obtain ⟨y, _, rfl⟩ := List.mem_map.1 hx
  exact cuts_ne cs y
theorem starts_get {f : List Fct} {cs : List Cnd} {i : Nat} {x : List Int} (h : (startsL f cs)[i]? = some x) : ∃ y, f[i]? = some y ∧ x = cutsOf cs y := by
  unfold startsL at h
  rw [List.getElem?_map] at h
  cases hf : f[i]? with
  | none => rw [hf] at h; cases h
  | some y => rw [hf] at h; cases h; exact ⟨y, rfl, rfl⟩
theorem VC.prod {c : Cd} (h : VC c) : prodL (startsL c.2.1 (condsL c.2.2)) ≤ 4000 := by
  have := many_prod (startsL c.2.1 (condsL c.2.2)) 1 (fun x hx => ⟨starts_ne _ _ x hx, by
    unfold startsL at hx
    obtain ⟨y, _, rfl⟩ := List.mem_map.1 hx
    have := cuts_len y (condsL c.2.2) h.cl h.cs
    omega⟩) (by omega) (by omega) h.mn
  omega
structure VF (c : Cd) (f : List Fct) : Prop where
  ln : f.length = c.2.1.length
  cs : (choL (startsL f (condsL c.2.2))).length ≤ 4000
  fit : ∀ (i : Nat) (x y : Fct), c.2.1[i]? = some x → f[i]? = some y → fitB x y = true
theorem VF.of {c : Cd} (h : VC c) {f : List Fct} (hf : fitS c.2.1 f = true) : VF c f := by
  obtain ⟨h1, h2⟩ := fit_iff hf
  refine ⟨h1.symm, ?_, h2⟩
  rw [choL_len]
  refine Nat.le_trans (prod_le (m := startsL c.2.1 (condsL c.2.2)) (by simp [startsL, h1]) fun i x y hx hy => ?_) h.prod
  obtain ⟨u, hu, rfl⟩ := starts_get hx
  obtain ⟨w, hw, rfl⟩ := starts_get hy
  exact cuts_le (h2 i w u hw hu)
theorem cho_len : ∀ {l : List (List Int)} {v : List Int}, v ∈ choL l → v.length = l.length
  | [], v, h => by simp [choL] at h; subst h; rfl
  | x :: l, v, h => by
    simp only [choL, List.mem_flatMap, List.mem_map] at h
    obtain ⟨n, _, u, hu, rfl⟩ := h
    simp [cho_len hu]
theorem cho_ne {l : List (List Int)} (h : ∀ x ∈ l, x ≠ []) : choL l ≠ [] := by
  have := prod_pos h
  rw [← choL_len] at this
  exact List.length_pos_iff.1 this
theorem VF.vlen {c : Cd} {f : List Fct} (h : VF c f) {v : List Int} (hv : v ∈ casesL c f) : v.length = c.2.1.length := by
  rw [cho_len hv]; simp [startsL, h.ln]
end Go.K
namespace Go.K
open Go.Sl Go.Sx Go.Proofs
theorem G106_idx (l : List Bool) (b : Bool) (hl : l.length < LF) : G106 LF (l, b) = some (idxI (fun x => decide (b = x)) l) := by
  unfold G106
  refine (iter_find (fun x => decide (b = x)) (fun i => (i : Int)) l (some (-1)) ?_ ?_ hl).trans ?_
  · intro i x hx
    have hi := lt_of_get hx
    simp only [dlt hi, cond_true, getI_nat hx, Option.bind_some, succ_W (Nat.lt_of_le_of_lt hi hl)]
    cases decide (b = x) <;> rfl
  · simp only [dnlt]; rfl
  · unfold idxI; cases idx (fun x => decide (b = x)) l 0 <;> rfl
theorem any_not (l : List Bool) : (l.any fun x => decide (false = x)) = l.any fun b => !b := by
  congr 1; funext b; cases b <;> rfl
theorem any_id (l : List Bool) : (l.any fun x => decide (true = x)) = l.any fun b => b := by
  congr 1; funext b; cases b <;> rfl
theorem G174_any (l : List Bool) (b : Bool) (hl : l.length < LF) : G174 LF (l, b) = some (l.any fun x => decide (b = x)) := by
  unfold G174
  simp only [G106_idx l b hl, Option.bind_some, idxI_nonneg]
theorem G125_ans (l : List Bool) (hl : l.length < LF) : G125 LF l = some (ansL l) := by
  unfold G125 ansL
  simp only [G174_any l _ hl, Option.bind_some, any_not, any_id]
  cases l.any fun b => !b with
  | false => rfl
  | true => cases l.any fun b => b <;> rfl
theorem G222_fit (x y : Fct) : G222 LF (x, y) = some (fitB x y) := by
  unfold G222 fitB
  simp only [eqD]
  by_cases h0 : x.1 = y.1
  · by_cases h1 : x.2.1 ≤ y.2.1
    · by_cases h2 : y.2.1 ≤ y.2.2
      · by_cases h3 : y.2.2 ≤ x.2.2 <;> simp [h0, h1, h2, h3]
      · simp [h0, h1, h2]
    · simp [h0, h1]
  · simp [h0]
theorem scan_all {σ : Type} (p : σ → Bool) : ∀ (l : List σ) (i : Nat), (scan (fun x _ => bif p x then none else some false) l i).getD true = l.all p
  | [], _ => rfl
  | x :: l, i => by
    simp only [scan, List.all_cons]
    cases p x with
    | true => simp only [cond_true, Bool.true_and]; exact scan_all p l (i + 1)
    | false => rfl
theorem G173_fit (c : Cd) (f : List Fct) (hl : c.2.1.length < LF) : G173 LF (c, f) = some (fitS c.2.1 f) := by
  unfold G173 fitS
  by_cases he : c.2.1.length = f.length
  · have e1 : decide ((c.2.1.length : Int) = (f.length : Int)) = true := decide_eq_true (by omega)
    have hz : (c.2.1.zip f).length = c.2.1.length := by simp [he]
    simp only [e1, Bool.not_true, cond_false, decide_eq_true he, Bool.true_and]
    refine (iter_scan (fun (p : Fct × Fct) _ => bif fitB p.1 p.2 then none else some false) (c.2.1.zip f) (some true) ?_ ?_ (by omega)).trans ?_
    · intro i p hp _
      obtain ⟨h1, h2⟩ := List.getElem?_zip_eq_some.1 hp
      have hi := lt_of_get h1
      simp only [dlt hi, cond_true, getI_nat h1, getI_nat h2, Option.bind_some, G222_fit, succ_W (Nat.lt_of_le_of_lt hi hl)]
      cases fitB p.1 p.2 <;> rfl
    · intro _
      rw [hz]
      simp only [dnlt]; rfl
    · exact (getD_none _ _).trans (congrArg some (scan_all (fun p : Fct × Fct => fitB p.1 p.2) _ _))
  · have e1 : decide ((c.2.1.length : Int) = (f.length : Int)) = false := decide_eq_false (by omega)
    simp only [e1, Bool.not_false, cond_true, decide_eq_false he, Bool.false_and]
theorem VC.of_code {c : Cd} (h : codeE c = 0) : c.2.1.length < LF := by
  have := (VC.of h).fl
  show c.2.1.length < 9223372036854775808; omega
theorem asked_P {ρ : Type} (c : Cd) (d : Int) (f : List Fct) (K : Int → Option ρ) :
    jn (((G31 LF c)).bind fun r10 => cond (!(decide (r10 = (0 : Int)))) (some (.inl r10)) (((G91 LF (d, ((0 : Int), (100000 : Int))))).bind fun r11 => cond (!r11) (some (.inl (45 : Int))) (((G173 LF (c, f))).bind fun r12 => cond (!r12) (some (.inl (44 : Int))) (some (.inl (0 : Int)))))) K = K (askE c d f) := by
  unfold askE
  simp only [G31_code, Option.bind_some]
  by_cases h : codeE c = 0
  · simp only [h, decide_true, Bool.not_true, cond_false, G91_in, Option.bind_some, G173_fit c f (VC.of_code h), ne_eq, not_true, if_false]
    by_cases h2 : 0 ≤ d ∧ d ≤ 100000
    · simp only [decide_eq_true h2, Bool.not_true, cond_false, h2, not_true, if_false]
      cases fitS c.2.1 f <;> rfl
    · simp only [decide_eq_false h2, Bool.not_false, cond_true, jl]
      rw [if_pos h2]
  · simp only [h, decide_false, Bool.not_false, cond_true, jl, ne_eq, not_false_eq_true, if_true]
theorem G107_fit (c : Cd) (f : List Fct) (hl : c.2.1.length < LF) : G107 LF (c, f) = some (fitS c.2.1 f) := by
  unfold G107 fitS
  by_cases he : c.2.1.length = f.length
  · have e1 : decide ((f.length : Int) = (c.2.1.length : Int)) = true := decide_eq_true (by omega)
    have hz : (c.2.1.zip f).length = f.length := by simp [he]
    simp only [e1, Bool.not_true, cond_false, decide_eq_true he, Bool.true_and]
    refine (iter_scan (fun (p : Fct × Fct) _ => bif fitB p.1 p.2 then none else some false) (c.2.1.zip f) (some true) ?_ ?_ (by omega)).trans ?_
    · intro i p hp _
      obtain ⟨h1, h2⟩ := List.getElem?_zip_eq_some.1 hp
      have hi := lt_of_get h2
      simp only [dlt hi, cond_true, getI_nat h1, getI_nat h2, Option.bind_some, eqD, succ_W (Nat.lt_of_le_of_lt hi (by omega))]
      unfold fitB
      by_cases h0 : p.1.1 = p.2.1
      · by_cases c1 : p.2.2.1 > p.2.2.2
        · have : ¬ (p.1.2.1 ≤ p.2.2.1 ∧ p.2.2.1 ≤ p.2.2.2 ∧ p.2.2.2 ≤ p.1.2.2) := by omega
          simp [h0, c1, this, jl]
        · by_cases c2 : p.2.2.1 < p.1.2.1
          · have : ¬ (p.1.2.1 ≤ p.2.2.1 ∧ p.2.2.1 ≤ p.2.2.2 ∧ p.2.2.2 ≤ p.1.2.2) := by omega
            simp [h0, c1, c2, this, jl]
          · by_cases c3 : p.2.2.2 > p.1.2.2
            · have : ¬ (p.1.2.1 ≤ p.2.2.1 ∧ p.2.2.1 ≤ p.2.2.2 ∧ p.2.2.2 ≤ p.1.2.2) := by omega
              simp [h0, c1, c2, c3, this, jl]
            · have : p.1.2.1 ≤ p.2.2.1 ∧ p.2.2.1 ≤ p.2.2.2 ∧ p.2.2.2 ≤ p.1.2.2 := by omega
              simp [h0, c1, c2, c3, this, jl]
      · have h0' : ¬ p.2.1 = p.1.1 := fun e => h0 e.symm
        simp [h0, h0', jl]
    · intro _
      rw [hz]
      simp only [dnlt]; rfl
    · exact (getD_none _ _).trans (congrArg some (scan_all (fun p : Fct × Fct => fitB p.1 p.2) _ _))
  · have e1 : decide ((f.length : Int) = (c.2.1.length : Int)) = false := decide_eq_false (by omega)
    simp only [e1, Bool.not_false, cond_true, decide_eq_false he, Bool.false_and]
theorem G149_asked (c : Cd) (r d : Int) (f : List Fct) : G149 LF (c, (r, (false, (d, f)))) = some (askE c d f) := by
  unfold G149 askE
  simp only [G32_code, Option.bind_some]
  by_cases h : codeE c = 0
  · simp only [h, decide_true, Bool.not_true, cond_false, jl, G126_in, Option.bind_some, G107_fit _ f (VC.of_code h), ne_eq, not_true, if_false]
    by_cases h2 : 0 ≤ d ∧ d ≤ 100000
    · simp only [decide_eq_true h2, Bool.not_true, cond_false, h2, not_true, if_false]
      cases fitS c.2.1 f <;> rfl
    · simp only [decide_eq_false h2, Bool.not_false, cond_true, jl]
      rw [if_pos h2]
  · simp only [h, decide_false, Bool.not_false, cond_true, jl, ne_eq, not_false_eq_true, if_true]
theorem ask_ok {c : Cd} {d : Int} {f : List Fct} (h : askE c d f = 0) : VC c ∧ (0 ≤ d ∧ d ≤ 100000) ∧ fitS c.2.1 f = true := by
  unfold askE at h
  split at h
  · rename_i h1; exact absurd h h1
  · rename_i h1
    split at h
    · cases h
    · rename_i h2
      cases h3 : fitS c.2.1 f with
      | false => rw [h3] at h; cases h
      | true => exact ⟨VC.of (by simpa using h1), by simpa using h2, rfl⟩
def allK (l : List Bool) : Bool := !l.any fun b => !b
def keptA (c : Cd) (d : Int) (f : List Fct) : Int := ansL ((casesL c f).map fun v => allK (keptL c d v))
theorem starts_len (f : List Fct) (cs : List Cnd) : (startsL f cs).length = f.length := by simp [startsL]
theorem starts_cl (f : List Fct) {c : Cd} (h : VC c) : ∀ x ∈ startsL f (condsL c.2.2), x.length < LF := by
  intro x hx
  unfold startsL at hx
  obtain ⟨y, _, rfl⟩ := List.mem_map.1 hx
  have := cuts_len y (condsL c.2.2) h.cl h.cs
  show (cutsOf (condsL c.2.2) y).length < 9223372036854775808; omega
theorem go_fold {V S ρ : Type} (g : V → S → S) : ∀ (l : List V) (s : S), goS (ρ := ρ) (fun v s => .inl (g v s)) l s = .inl (l.foldl (fun s v => g v s) s)
  | [], s => rfl
  | v :: l, s => by simp only [goS, List.foldl_cons]; exact go_fold g l _
theorem fold_map {V B : Type} (g : V → B) : ∀ (l : List V) (s : List B), l.foldl (fun s v => s ++ [g v]) s = s ++ l.map g
  | [], s => by simp
  | v :: l, s => by rw [List.foldl_cons, fold_map g l]; simp
theorem G104_kept {c : Cd} (h : VC c) {d : Int} {f : List Fct} (hf : VF c f) : G104 LF (c, (d, f)) = some (keptA c d f) := by
  have hfl := h.fl
  have hfn := hf.ln
  have hls := starts_len f (condsL c.2.2)
  unfold G104
  simp only [show G131 LF () = some () by rfl, Option.bind_some, G116_conds _ _ _ (show c.2.2.length ≤ 1000 by have := h.ll; omega), G115_starts _ _ (show f.length ≤ 1000 by omega) (show (condsL c.2.2).length ≤ 1000 by have := h.cl; omega) h.cs, mkC_zer _ (show (startsL f (condsL c.2.2)).length ≤ 1000 by omega)]
  refine (iter_odo (fun i s => (i, s)) (startsL f (condsL c.2.2)) (starts_ne _ _) (fun v s => .inl (s ++ [allK (keptL c d v)])) (fun n s => s.length = n) (fun s => some (ansL s)) ?_ ?_ (by have := hf.cs; show _ < 9223372036854775808; omega) [] rfl).trans ?_
  · intro k s n hk hv hn hs
    have hcs := hf.cs
    have hvl := hf.vlen hv
    have hkl : (keptL c d (valsI (startsL f (condsL c.2.2)) k)).length < LF := by rw [keptL_len]; exact h.ll'
    have hs' : (s ++ [allK (keptL c d (valsI (startsL f (condsL c.2.2)) k))]).length < LF := by show _ < 9223372036854775808; simp; omega
    refine vals_of hk (show (startsL f (condsL c.2.2)).length ≤ 1000 by omega) (fun a i hi => by simp only [castN_lt hi, cond_true]) ?_
    simp only [dnlt, cond_false]
    congr 1
    simp only [G130_judge (c := (c.1, (c.2.1, c.2.2))) h hvl, Option.bind_some, G174_any _ _ hkl, any_not, appC_of (show s.length + [!(keptL c d (valsI (startsL f (condsL c.2.2)) k)).any fun b => !b].length ≤ 1099511627776 by simp; omega)]
    refine (adv_of hk (show (startsL f (condsL c.2.2)).length ≤ 1000 by omega) (starts_cl f h) _ _).trans ?_
    cases nxt (startsL f (condsL c.2.2)) k with
    | some k' => rfl
    | none =>
      simp only
      rw [show (s ++ [!(keptL c d (valsI (startsL f (condsL c.2.2)) k)).any fun b => !b]) = s ++ [allK (keptL c d (valsI (startsL f (condsL c.2.2)) k))] from rfl, G125_ans _ hs']
      rfl
  · intro v s s' n _ _ hs he
    cases he
    simp [hs]
  · rw [go_fold, fold_map]
    rfl
theorem G23_kept (c : Cd) (d : Int) (f : List Fct) : G23 LF (c, (d, f)) = some (if askE c d f = 0 then (keptA c d f, 0) else (0, askE c d f)) := by
  unfold G23
  rw [asked_P (c.1, (c.2.1, c.2.2)) d f]
  by_cases h : askE c d f = 0
  · obtain ⟨h1, h2, h3⟩ := ask_ok h
    simp only [h, decide_true, Bool.not_true, cond_false, if_true]
    rw [show G104 LF ((c.1, (c.2.1, c.2.2)), (d, f)) = some (keptA c d f) from G104_kept h1 (VF.of h1 h3)]
    rfl
  · simp only [h, decide_false, Bool.not_false, cond_true, if_false]
end Go.K
namespace Go.K
open Go.Sl Go.Sx Go.Proofs
def chF (ls : List (List Int)) (out : List (List Int)) : List (List Int) := ls.foldl (fun out x => out.flatMap fun y => x.map fun n => y ++ [n]) out
theorem chF_eq : ∀ (ls out : List (List Int)), chF ls out = out.flatMap fun y => (choL ls).map (y ++ ·)
  | [], out => by
    show out = _
    have : (fun y : List Int => (choL []).map (y ++ ·)) = fun y => [y] := by funext y; simp [choL]
    rw [this]; simp
  | x :: ls, out => by
    show chF ls (out.flatMap fun y => x.map fun n => y ++ [n]) = _
    rw [chF_eq ls, List.flatMap_assoc]
    congr 1
    funext y
    rw [List.flatMap_map]
    show (x.flatMap fun n => (choL ls).map ((y ++ [n]) ++ ·)) = (x.flatMap fun n => (choL ls).map (n :: ·)).map (y ++ ·)
    rw [List.map_flatMap]
    congr 1
    funext n
    rw [List.map_map]
    congr 1
    funext z
    simp
theorem chF_one (ls : List (List Int)) : chF ls [[]] = choL ls := by rw [chF_eq]; simp
theorem step_len (out : List (List Int)) (x : List Int) : (out.flatMap fun y => x.map fun n => y ++ [n]).length = out.length * x.length := by
  induction out with
  | nil => simp
  | cons y out ih => rw [List.flatMap_cons, List.length_append, ih, List.length_map, List.length_cons, Nat.add_mul]; omega
theorem G56_cho (ls : List (List Int)) (hne : ∀ x ∈ ls, x ≠ []) (hp : prodL ls ≤ 4000) (hl : ls.length ≤ 1000) : G56 LF ls = some (choL ls) := by
  unfold G56
  refine (iter_foldI (fun i a => (a, i)) (fun (x : List Int) _ out => out.flatMap fun y => x.map fun n => y ++ [n]) (fun i (a : List (List Int)) => a.length * prodL (ls.drop i) ≤ 4000 ∧ ∀ y ∈ a, y.length = i) ls (fun a => some a) [[]] ?_ ?_ ?_ (by show ls.length < 9223372036854775808; omega) ⟨by simp; exact hp, by simp⟩).trans ?_
  · intro i x a hx hg
    obtain ⟨g1, g2⟩ := hg
    have hi := lt_of_get hx
    have hd : ls.drop i = x :: ls.drop (i + 1) := by
      rw [List.drop_eq_getElem_cons hi]
      rw [List.getElem?_eq_getElem hi] at hx
      simp only [Option.some.injEq] at hx
      rw [hx]
    have hpos : 1 ≤ prodL (ls.drop (i + 1)) := prod_pos fun y hy => hne y (List.mem_of_mem_drop hy)
    have hmul : a.length * x.length ≤ 4000 := by
      rw [hd] at g1
      have e : a.length * (x.length * prodL (ls.drop (i + 1))) = (a.length * x.length) * prodL (ls.drop (i + 1)) := (Nat.mul_assoc _ _ _).symm
      have g1' : (a.length * x.length) * prodL (ls.drop (i + 1)) ≤ 4000 := by rw [← e]; exact g1
      have := Nat.mul_le_mul (Nat.le_refl (a.length * x.length)) hpos
      omega
    have hxp := List.length_pos_iff.2 (hne x (List.mem_of_getElem? hx))
    have hal : a.length ≤ 4000 := by
      have := Nat.le_mul_of_pos_right a.length hxp
      omega
    simp only [dlt hi, cond_true, getI_nat hx, Option.bind_some]
    refine (iter_foldI (fun i s => (s, i)) (fun (y : List Int) _ s => s ++ x.map fun n => y ++ [n]) (fun j (s : List (List Int)) => s.length = j * x.length) a (fun s => some (.inl (s, ((i + 1 : Nat) : Int)))) [] ?_ ?_ ?_ (by show a.length < 9223372036854775808; omega) (by simp)).trans ?_
    · intro j y s hy hs
      have hj := lt_of_get hy
      have hyl := g2 y (List.mem_of_getElem? hy)
      have hjm : j * x.length + x.length ≤ 4000 := by
        have := Nat.mul_le_mul (show j + 1 ≤ a.length by omega) (Nat.le_refl x.length)
        rw [Nat.add_mul] at this; omega
      simp only [dlt hj, cond_true, getI_nat hy, Option.bind_some]
      refine (iter_app (fun i s => (s, i)) (fun n : Int => [y ++ [n]]) x (fun s => some (.inl (s, ((j + 1 : Nat) : Int)))) 1 (fun _ _ => by simp) s ?_ ?_ (by show x.length < 9223372036854775808; omega)).trans ?_
      · intro q n u hq hu hql
        simp only [dlt hql, cond_true, getI_nat hq, Option.bind_some, appC_of (show ([] : List Int).length + y.length ≤ 1099511627776 by simp; omega), List.nil_append, appC_of (show y.length + [n].length ≤ 1099511627776 by simp; omega), appC_of (show u.length + [y ++ [n]].length ≤ 1099511627776 by simp; omega), succ_W (show q + 1 < 9223372036854775808 by omega)]
      · intro u _
        simp only [dnlt, succ_W (show j + 1 < 9223372036854775808 by omega)]; rfl
      · rw [← List.map_eq_flatMap]
    · intro j y s hy hs
      rw [List.length_append, List.length_map, hs, Nat.add_mul]; omega
    · intro s _
      simp only [dnlt, succ_W (show i + 1 < 9223372036854775808 by omega)]; rfl
    · rw [foldI_const]
      have : ∀ (l : List (List Int)) (s : List (List Int)), l.foldl (fun s y => s ++ x.map fun n => y ++ [n]) s = s ++ l.flatMap fun y => x.map fun n => y ++ [n] := by
        intro l
        induction l with
        | nil => intro s; simp
        | cons y l ih => intro s; rw [List.foldl_cons, ih]; simp
      rw [this]; rfl
  · intro i x a hx hg
    obtain ⟨g1, g2⟩ := hg
    have hi := lt_of_get hx
    have hd : ls.drop i = x :: ls.drop (i + 1) := by
      rw [List.drop_eq_getElem_cons hi]
      rw [List.getElem?_eq_getElem hi] at hx
      simp only [Option.some.injEq] at hx
      rw [hx]
    refine ⟨?_, fun y hy => ?_⟩
    · rw [step_len, Nat.mul_assoc]
      rw [hd] at g1
      exact g1
    · simp only [List.mem_flatMap, List.mem_map] at hy
      obtain ⟨z, hz, n, _, rfl⟩ := hy
      simp [g2 z hz]
  · intro a _
    simp only [dnlt]; rfl
  · rw [foldI_const]
    congr 1
    exact chF_one ls
theorem VF.prod {c : Cd} {f : List Fct} (h : VF c f) : prodL (startsL f (condsL c.2.2)) ≤ 4000 := by rw [← choL_len]; exact h.cs
theorem G27_cases {c : Cd} (h : VC c) {f : List Fct} (hf : VF c f) : G27 LF (c, f) = some (casesL c f) := by
  have hfl := h.fl
  have hfn := hf.ln
  unfold G27
  simp only [G109_conds (c.1, (c.2.1, c.2.2)) (show c.2.2.length ≤ 1000 by have := h.ll; omega), Option.bind_some, G108_starts _ _ (show f.length ≤ 1000 by omega) h.cl h.cs, G56_cho _ (starts_ne _ _) hf.prod (show (startsL f (condsL c.2.2)).length ≤ 1000 by rw [starts_len]; omega)]
  rfl
def allBut (l : List Bool) (k : Int) : Bool := (scan (fun x i => bif !x && !decide ((i : Int) = k) then some false else none) l 0).isNone
theorem G28_all (l : List Bool) (k : Int) (hl : l.length < LF) : G28 LF (l, k) = some (allBut l k) := by
  unfold G28 allBut
  refine (iter_scan (fun (x : Bool) i => bif !x && !decide ((i : Int) = k) then some false else none) l (some true) ?_ ?_ hl).trans ?_
  · intro i x hx _
    have hi := lt_of_get hx
    simp only [dlt hi, cond_true, getI_nat hx, Option.bind_some, succ_W (Nat.lt_of_le_of_lt hi hl)]
    cases x with
    | true => rfl
    | false => cases decide ((i : Int) = k) <;> rfl
  · intro _
    simp only [dnlt]; rfl
  · have key : ∀ (l : List Bool) (i : Nat) (e : Bool), scan (fun (x : Bool) i => bif !x && !decide ((i : Int) = k) then some false else none) l i = some e → e = false := by
      intro l
      induction l with
      | nil => intro i e h; cases h
      | cons x l ih =>
        intro i e h
        simp only [scan] at h
        cases hc : (!x && !decide ((i : Int) = k)) with
        | true => rw [hc] at h; cases h; rfl
        | false => rw [hc] at h; exact ih _ _ h
    cases h : scan (fun (x : Bool) i => bif !x && !decide ((i : Int) = k) then some false else none) l 0 with
    | none => rfl
    | some e => rw [key l 0 e h]; rfl
theorem allBut_m1 (l : List Bool) : allBut l (-1) = allK l := by
  unfold allBut allK
  have : (fun (x : Bool) (i : Nat) => bif !x && !decide ((i : Int) = -1) then some false else none) = fun x _ => bif !x then some false else none := by
    funext x i
    have : decide ((i : Int) = -1) = false := decide_eq_false (by omega)
    rw [this]; simp
  rw [this, scan_any]
  cases l.any fun b => !b <;> rfl
theorem G148_ans (l : List Bool) (hne : l ≠ []) : G148 LF (l.any fun b => b, l.any fun b => !b) = some (ansL l) := by
  unfold G148 ansL
  cases h1 : l.any fun b => b with
  | true => cases l.any fun b => !b <;> rfl
  | false =>
    have : (l.any fun b => !b) = true := by
      cases l with
      | nil => exact absurd rfl hne
      | cons x l =>
        rw [List.any_cons] at h1 ⊢
        cases x with
        | true => cases h1
        | false => rfl
    rw [this]; rfl
theorem yn_fold {V : Type} (g : V → Bool) : ∀ (l : List V) (y n : Bool), l.foldl (fun (a : Bool × Bool) v => bif g v then (true, a.2) else (a.1, true)) (y, n) = (y || (l.map g).any (fun b => b), n || (l.map g).any fun b => !b)
  | [], y, n => by simp
  | v :: l, y, n => by
    rw [List.foldl_cons, List.map_cons, List.any_cons, List.any_cons]
    cases g v with
    | true => simp only [cond_true]; rw [yn_fold g l]; simp
    | false => simp only [cond_false]; rw [yn_fold g l]; simp
theorem G151_kept {c : Cd} (h : VC c) {d : Int} {f : List Fct} (hf : VF c f) : G151 LF (c, (d, f)) = some (keptA c d f) := by
  have hne : casesL c f ≠ [] := cho_ne (starts_ne _ _)
  have hlen : (casesL c f).length < LF := by have := hf.cs; show (choL (startsL f (condsL c.2.2))).length < 9223372036854775808; omega
  unfold G151
  simp only [G27_cases (c := (c.1, (c.2.1, c.2.2))) h hf, Option.bind_some]
  refine (iter_foldI (fun i (a : Bool × Bool) => (a.1, (a.2, i))) (fun (v : List Int) _ a => bif allK (keptL c d v) then (true, a.2) else (a.1, true)) (fun _ _ => True) (casesL c f) (fun a => G148 LF (a.1, a.2)) (false, false) ?_ (fun _ _ _ _ _ => trivial) ?_ hlen trivial).trans ?_
  · intro i v a hv _
    have hi := lt_of_get hv
    have hvl := hf.vlen (List.mem_of_getElem? hv)
    have hkl : (keptL c d v).length < LF := by rw [keptL_len]; exact h.ll'
    simp only [dlt (show i < (casesL (c.1, (c.2.1, c.2.2)) f).length from hi), cond_true, getI_nat (show (casesL (c.1, (c.2.1, c.2.2)) f)[i]? = some v from hv), Option.bind_some, show G26 LF ((c.1, (c.2.1, c.2.2)), (d, v)) = some (keptL c d v) from G26_kept h hvl, G28_all _ _ hkl, allBut_m1, succ_W (Nat.lt_of_le_of_lt hi hlen)]
    cases allK (keptL c d v) <;> rfl
  · intro a _
    have := dnlt (casesL c f).length
    simp only [show decide (((casesL c f).length : Int) < ((casesL (c.1, (c.2.1, c.2.2)) f).length : Int)) = false from this, cond_false]
    cases G148 LF (a.1, a.2) <;> rfl
  · rw [foldI_const, yn_fold]
    simp only [Bool.false_or]
    rw [G148_ans _ (by simpa using hne)]
    rfl
theorem G70_kept (c : Cd) (d : Int) (f : List Fct) : G70 LF (c, (d, f)) = some (if askE c d f = 0 then (keptA c d f, 0) else (0, askE c d f)) := by
  unfold G70
  simp only [show G149 LF ((c.1, (c.2.1, c.2.2)), ((0 : Int), (false, (d, f)))) = some (askE c d f) from G149_asked c 0 d f, Option.bind_some]
  by_cases h : askE c d f = 0
  · obtain ⟨h1, h2, h3⟩ := ask_ok h
    simp only [h, decide_true, Bool.not_true, cond_false, if_true]
    rw [show G151 LF ((c.1, (c.2.1, c.2.2)), (d, f)) = some (keptA c d f) from G151_kept h1 (VF.of h1 h3)]
    rfl
  · simp only [h, decide_false, Bool.not_false, cond_true, if_false]
end Go.K
namespace Go.K
theorem sane_true : G22 LF () = some true := by kernel_rfl
end Go.K
namespace Go.K
open Go.Sl Go.Sx Go.Proofs
theorem VF.le {c : Cd} {f : List Fct} (h : VF c f) {i : Nat} {x : Fct} (hx : f[i]? = some x) : x.2.1 ≤ x.2.2 := by
  have hi := lt_of_get hx
  have hl := h.ln
  have := h.fit i _ x (List.getElem?_eq_getElem (show i < c.2.1.length by omega)) hx
  unfold fitB at this
  simp only [Bool.and_eq_true, decide_eq_true_eq] at this
  exact this.2.2.1
end Go.K
namespace Go.K
open Go.Sl Go.Sx Go.Proofs
def near1 (l : List Int) (n m : Int) : Prop := m ∈ l ∧ m ≤ n ∧ ∀ k ∈ l, k ≤ n → k ≤ m
def Near (c : Cd) (f : List Fct) (v w : List Int) : Prop := w.length = v.length ∧ ∀ (i : Nat) (x : Fct) (n m : Int), f[i]? = some x → v[i]? = some n → w[i]? = some m → near1 (cutsOf (condsL c.2.2) x) n m
def In (f : List Fct) (v : List Int) : Prop := v.length = f.length ∧ ∀ (i : Nat) (x : Fct) (n : Int), f[i]? = some x → v[i]? = some n → x.2.1 ≤ n ∧ n ≤ x.2.2
theorem cut_side {cs : List Cnd} {x : Fct} {n m : Int} (hx : x.2.1 ≤ n ∧ n ≤ x.2.2) (h : near1 (cutsOf cs x) n m) {cd : Cnd} {t : Tm} (hc : cd ∈ cs) (ht : t ∈ cd) (hn : t.2.2.2.1 = x.1) {k : Int} (hk : k ∈ partsL t) : n < k ↔ m < k := by
  obtain ⟨h1, h2, h3⟩ := h
  have hlo : x.2.1 ≤ m := h3 _ (((cuts_mem cs x).2 _).2 (.inl rfl)) hx.1
  by_cases hk1 : x.2.1 < k
  · by_cases hk2 : k ≤ x.2.2
    · have hmem : k ∈ cutsOf cs x := ((cuts_mem cs x).2 k).2 (.inr (cutN_mem.2 ⟨⟨cd, hc, t, ht, hn, hk⟩, hk1, hk2⟩))
      constructor
      · intro h; omega
      · intro h
        by_cases hkn : k ≤ n
        · have := h3 k hmem hkn; omega
        · omega
    · omega
  · omega
theorem Near.term {c : Cd} (h : VC c) {f : List Fct} (hf : VF c f) {v w : List Int} (hv : In f v) (hw : Near c f v w) {cd : Cnd} (hc : cd ∈ condsL c.2.2) (hcd : condE c.2.1 cd = 0) {i : Nat} {t : Tm} (ht : cd[i]? = some t) (l : List Bool) : tmSo c.2.1 v t l = tmSo c.2.1 w t l := by
  obtain ⟨c1, c2, c3⟩ := cond_short hcd
  have hs := c3 i t ht
  have hkd := term_kd hs
  obtain ⟨hshp, hsh2⟩ := term_ok hs
  have htm := List.mem_of_getElem? ht
  cases hkd with
  | tru => rfl
  | neg _ => rfl
  | bin h0 _ _ => rcases h0 with rfl | rfl <;> rfl
  | cmp h1 h2 =>
    rename_i k a b s n
    obtain ⟨p, hp, hpl, x, hx, hxs⟩ := plF_get h2
    have hfl := hf.ln
    have hvl := hv.1
    have hwl := hw.1
    have hfp : f[p]? = some f[p] := List.getElem?_eq_getElem (by omega)
    have hname : x.1 = f[p].1 := by
      have := hf.fit p x f[p] hx hfp
      unfold fitB at this
      simp only [Bool.and_eq_true, decide_eq_true_eq] at this
      exact this.1
    have hvp : v[p]? = some v[p] := List.getElem?_eq_getElem (by omega)
    have hwp : w[p]? = some w[p] := List.getElem?_eq_getElem (by omega)
    have hin := hv.2 p _ _ hfp hvp
    have hne := hw.2 p _ _ _ hfp hvp hwp
    have hside : ∀ q, q ∈ partsL (k, (a, (b, (s, n)))) → (v[p] < q ↔ w[p] < q) := fun q hq => cut_side hin hne hc htm (by show s = f[p].1; rw [← hname, hxs]) hq
    have gv : v.getD (plF c.2.1 s).toNat 0 = v[p] := by rw [hp, Int.toNat_natCast, List.getD_eq_getElem?_getD, hvp]; rfl
    have gw : w.getD (plF c.2.1 s).toNat 0 = w[p] := by rw [hp, Int.toNat_natCast, List.getD_eq_getElem?_getD, hwp]; rfl
    have hnb : -1000000000000 ≤ n ∧ n ≤ 1000000000000 := by
      unfold shp at hshp
      simp only at hshp
      rw [if_neg (by omega), if_pos (by omega), decide_eq_true_eq] at hshp
      exact hshp.2.2
    have hw1 : w64 (n + 1) = n + 1 := w64_in (by omega)
    unfold tmSo
    simp only [gv, gw]
    rcases h1 with rfl | rfl | rfl
    · have := hside n (by simp [partsL])
      rw [if_neg (by decide), if_pos rfl, if_neg (by decide), if_pos rfl]
      exact decide_eq_decide.2 this
    · have := hside (n + 1) (by simp [partsL, hw1])
      rw [if_neg (by decide), if_neg (by decide), if_pos rfl, if_neg (by decide), if_neg (by decide), if_pos rfl]
      exact decide_eq_decide.2 (by omega)
    · have e1 := hside n (by simp [partsL])
      have e2 := hside (n + 1) (by simp [partsL, hw1])
      rw [if_neg (by decide), if_neg (by decide), if_neg (by decide), if_pos rfl, if_neg (by decide), if_neg (by decide), if_neg (by decide), if_pos rfl]
      exact decide_eq_decide.2 (by omega)
theorem Near.so {c : Cd} (h : VC c) {f : List Fct} (hf : VF c f) {v w : List Int} (hv : In f v) (hw : Near c f v w) {cd : Cnd} (hc : cd ∈ condsL c.2.2) (hcd : condE c.2.1 cd = 0) : soB c.2.1 v cd = soB c.2.1 w cd := by
  unfold soB soL
  congr 1
  have key : ∀ (m : Cnd), (∀ t ∈ m, t ∈ cd) → ∀ l, m.foldl (fun l t => l ++ [tmSo c.2.1 v t l]) l = m.foldl (fun l t => l ++ [tmSo c.2.1 w t l]) l := by
    intro m
    induction m with
    | nil => intro _ l; rfl
    | cons t m ih =>
      intro hs l
      obtain ⟨i, hi⟩ := List.mem_iff_getElem?.1 (hs t (List.mem_cons_self ..))
      rw [List.foldl_cons, List.foldl_cons, hw.term h hf hv hc hcd hi, ih (fun q hq => hs q (List.mem_cons_of_mem _ hq))]
  exact key cd (fun _ h => h) []
theorem conds_mem {l : List Rl} {r : Rl} (h : r ∈ l) : r.2.2.2.1 ∈ condsL l ∧ r.2.2.2.2.1 ∈ condsL l := by
  unfold condsL
  exact ⟨List.mem_flatMap.2 ⟨r, h, List.mem_cons_self ..⟩, List.mem_flatMap.2 ⟨r, h, List.mem_cons_of_mem _ (List.mem_cons_self ..)⟩⟩
theorem VC.conds {c : Cd} (h : VC c) {r : Rl} (hr : r ∈ c.2.2) : condE c.2.1 r.2.2.2.1 = 0 ∧ condE c.2.1 r.2.2.2.2.1 = 0 := by
  obtain ⟨i, hi⟩ := List.mem_iff_getElem?.1 hr
  obtain ⟨_, _, _, h1, h2, _⟩ := h.rule hi
  exact ⟨h1, h2⟩
theorem Near.binds {c : Cd} (h : VC c) {f : List Fct} (hf : VF c f) {v w : List Int} (hv : In f v) (hw : Near c f v w) (d : Int) : bindsL c d v = bindsL c d w := by
  unfold bindsL
  have key : ∀ (m : List Rl), (∀ r ∈ m, r ∈ c.2.2) → ∀ out, nbL c.2.1 c.2.2 d v m out = nbL c.2.1 c.2.2 d w m out := by
    intro m
    induction m with
    | nil => intro _ out; rfl
    | cons r m ih =>
      intro hs out
      have hr := hs r (List.mem_cons_self ..)
      have e : bindB c.2.1 c.2.2 d v r out = bindB c.2.1 c.2.2 d w r out := by
        unfold bindB
        rw [hw.so h hf hv (conds_mem hr).1 (h.conds hr).1]
      simp only [nbL, e]
      rw [ih (fun q hq => hs q (List.mem_cons_of_mem _ hq))]
  exact key c.2.2 (fun _ h => h) []
theorem Near.kept {c : Cd} (h : VC c) {f : List Fct} (hf : VF c f) {v w : List Int} (hv : In f v) (hw : Near c f v w) (d : Int) : keptL c d v = keptL c d w := by
  unfold keptL
  rw [hw.binds h hf hv d]
  have key : ∀ (m : List Rl), (∀ r ∈ m, r ∈ c.2.2) → ∀ bs : List Bool, List.zipWith (fun b (r : Rl) => !b || soB c.2.1 v r.2.2.2.2.1) bs m = List.zipWith (fun b (r : Rl) => !b || soB c.2.1 w r.2.2.2.2.1) bs m := by
    intro m
    induction m with
    | nil => intro _ bs; simp
    | cons r m ih =>
      intro hs bs
      have hr := hs r (List.mem_cons_self ..)
      cases bs with
      | nil => rfl
      | cons b bs =>
        simp only [List.zipWith_cons_cons]
        rw [hw.so h hf hv (conds_mem hr).2 (h.conds hr).2, ih (fun q hq => hs q (List.mem_cons_of_mem _ hq))]
  exact key c.2.2 (fun _ h => h) _
end Go.K
namespace Go.K
open Go.Sl Go.Sx Go.Proofs
theorem same_loop {σ : Type} {f : Int → Option (Int ⊕ Bool)} (l : List σ) (h1 : ∀ (i : Nat) x, l[i]? = some x → f (i : Int) = some (.inl ((i + 1 : Nat) : Int))) (h2 : f (l.length : Int) = some (.inr true)) (hl : l.length < LF) : iter LF f 0 = some true := by
  refine (iter_scan (fun (_ : σ) _ => (none : Option Bool)) l (some true) (fun i x hx _ => h1 i x hx) (fun _ => h2) hl).trans ?_
  have : ∀ (l : List σ) (i : Nat), scan (fun (_ : σ) _ => (none : Option Bool)) l i = none := by
    intro l
    induction l with
    | nil => intro i; rfl
    | cons x l ih => intro i; simp only [scan]; exact ih _
  rw [this]
end Go.K
namespace Go.K
open Go.Sl Go.Sx Go.Proofs
abbrev Cl := Int × (Int × (Int × List Int))
end Go.K
namespace Go.K
open Go.Sl Go.Sx Go.Proofs
noncomputable def G38 (lf : Nat) (x : ((ByteArray × (Yf × Yr)) × (Int × Yf))) : Option (((List (Int × (Int × Int))) × Int)) :=
  jn (((G31 lf (x.1.1, (x.1.2.1, x.1.2.2)))).bind fun r1059 => cond (!(decide (r1059 = (0 : Int)))) (some (.inl r1059)) (((G91 lf (x.2.1, ((0 : Int), (100000 : Int))))).bind fun r1060 => cond (!r1060) (some (.inl (45 : Int))) (((G173 lf ((x.1.1, (x.1.2.1, x.1.2.2)), x.2.2))).bind fun r1061 => cond (!r1061) (some (.inl (44 : Int))) (some (.inl (0 : Int)))))) (fun y1062 : Int => cond (!(decide (y1062 = (0 : Int)))) (some (([] : List (Int × (Int × Int))), y1062)) (jn (agree (((mkC (x.1.2.2.length : Int) ([] : List Bool))).bind fun r1063 => agree (agree (((mkC (x.1.2.2.length : Int) ([] : List Bool))).bind fun r1064 => agree (some (.inl (r1063, r1064))) (some (.inl (r1063, r1064)))) (agree (agree (((mkC (x.1.2.2.length : Int) ([] : List Bool))).bind fun r1065 => some (.inl (r1063, r1065))) (agree (((mkC (x.1.2.2.length : Int) ([] : List Bool))).bind fun r1066 => some (.inl (r1063, r1066))) (((mkC (x.1.2.2.length : Int) ([] : List Bool))).bind fun r1067 => some (.inl (r1063, r1067))))) (agree (((mkC (x.1.2.2.length : Int) ([] : List Bool))).bind fun r1068 => some (.inl (r1063, r1068))) (agree (((mkC (x.1.2.2.length : Int) ([] : List Bool))).bind fun r1069 => some (.inl (r1063, r1069))) (((mkC (x.1.2.2.length : Int) ([] : List Bool))).bind fun r1070 => some (.inl (r1063, r1070))))))) (agree (agree (agree (((mkC (x.1.2.2.length : Int) ([] : List Bool))).bind fun r1071 => some (.inl (r1063, r1071))) (agree (((mkC (x.1.2.2.length : Int) ([] : List Bool))).bind fun r1072 => some (.inl (r1063, r1072))) (((mkC (x.1.2.2.length : Int) ([] : List Bool))).bind fun r1073 => some (.inl (r1063, r1073))))) (agree (agree (((mkC (x.1.2.2.length : Int) ([] : List Bool))).bind fun r1074 => some (.inl (r1063, r1074))) (((mkC (x.1.2.2.length : Int) ([] : List Bool))).bind fun r1075 => some (.inl (r1063, r1075)))) (((mkC (x.1.2.2.length : Int) ([] : List Bool))).bind fun r1076 => some (.inl (r1063, r1076))))) (agree (agree (((mkC (x.1.2.2.length : Int) ([] : List Bool))).bind fun r1077 => some (.inl (r1063, r1077))) (agree (((mkC (x.1.2.2.length : Int) ([] : List Bool))).bind fun r1078 => some (.inl (r1063, r1078))) (((mkC (x.1.2.2.length : Int) ([] : List Bool))).bind fun r1079 => some (.inl (r1063, r1079))))) (agree (agree (((mkC (x.1.2.2.length : Int) ([] : List Bool))).bind fun r1080 => some (.inl (r1063, r1080))) (((mkC (x.1.2.2.length : Int) ([] : List Bool))).bind fun r1081 => some (.inl (r1063, r1081)))) (((mkC (x.1.2.2.length : Int) ([] : List Bool))).bind fun r1082 => some (.inl (r1063, r1082))))))) (agree (agree (((mkC (x.1.2.2.length : Int) ([] : List Bool))).bind fun r1083 => agree (((mkC (x.1.2.2.length : Int) ([] : List Bool))).bind fun r1084 => agree (some (.inl (r1083, r1084))) (some (.inl (r1083, r1084)))) (agree (agree (((mkC (x.1.2.2.length : Int) ([] : List Bool))).bind fun r1085 => some (.inl (r1083, r1085))) (agree (((mkC (x.1.2.2.length : Int) ([] : List Bool))).bind fun r1086 => some (.inl (r1083, r1086))) (((mkC (x.1.2.2.length : Int) ([] : List Bool))).bind fun r1087 => some (.inl (r1083, r1087))))) (agree (((mkC (x.1.2.2.length : Int) ([] : List Bool))).bind fun r1088 => some (.inl (r1083, r1088))) (agree (((mkC (x.1.2.2.length : Int) ([] : List Bool))).bind fun r1089 => some (.inl (r1083, r1089))) (((mkC (x.1.2.2.length : Int) ([] : List Bool))).bind fun r1090 => some (.inl (r1083, r1090))))))) (agree (((mkC (x.1.2.2.length : Int) ([] : List Bool))).bind fun r1091 => agree (((mkC (x.1.2.2.length : Int) ([] : List Bool))).bind fun r1092 => agree (some (.inl (r1092, r1091))) (some (.inl (r1092, r1091)))) (agree (agree (((mkC (x.1.2.2.length : Int) ([] : List Bool))).bind fun r1093 => some (.inl (r1093, r1091))) (((mkC (x.1.2.2.length : Int) ([] : List Bool))).bind fun r1094 => some (.inl (r1094, r1091)))) (agree (((mkC (x.1.2.2.length : Int) ([] : List Bool))).bind fun r1095 => some (.inl (r1095, r1091))) (((mkC (x.1.2.2.length : Int) ([] : List Bool))).bind fun r1096 => some (.inl (r1096, r1091)))))) (agree (agree (((mkC (x.1.2.2.length : Int) ([] : List Bool))).bind fun r1097 => agree (((mkC (x.1.2.2.length : Int) ([] : List Bool))).bind fun r1098 => some (.inl (r1097, r1098))) (agree (((mkC (x.1.2.2.length : Int) ([] : List Bool))).bind fun r1099 => some (.inl (r1097, r1099))) (((mkC (x.1.2.2.length : Int) ([] : List Bool))).bind fun r1100 => some (.inl (r1097, r1100))))) (agree (((mkC (x.1.2.2.length : Int) ([] : List Bool))).bind fun r1101 => agree (((mkC (x.1.2.2.length : Int) ([] : List Bool))).bind fun r1102 => some (.inl (r1102, r1101))) (((mkC (x.1.2.2.length : Int) ([] : List Bool))).bind fun r1103 => some (.inl (r1103, r1101)))) (agree (((mkC (x.1.2.2.length : Int) ([] : List Bool))).bind fun r1104 => agree (((mkC (x.1.2.2.length : Int) ([] : List Bool))).bind fun r1105 => some (.inl (r1104, r1105))) (((mkC (x.1.2.2.length : Int) ([] : List Bool))).bind fun r1106 => some (.inl (r1104, r1106)))) (((mkC (x.1.2.2.length : Int) ([] : List Bool))).bind fun r1107 => ((mkC (x.1.2.2.length : Int) ([] : List Bool))).bind fun r1108 => some (.inl (r1108, r1107)))))) (agree (((mkC (x.1.2.2.length : Int) ([] : List Bool))).bind fun r1109 => agree (((mkC (x.1.2.2.length : Int) ([] : List Bool))).bind fun r1110 => some (.inl (r1109, r1110))) (agree (((mkC (x.1.2.2.length : Int) ([] : List Bool))).bind fun r1111 => some (.inl (r1109, r1111))) (((mkC (x.1.2.2.length : Int) ([] : List Bool))).bind fun r1112 => some (.inl (r1109, r1112))))) (agree (((mkC (x.1.2.2.length : Int) ([] : List Bool))).bind fun r1113 => agree (((mkC (x.1.2.2.length : Int) ([] : List Bool))).bind fun r1114 => some (.inl (r1114, r1113))) (((mkC (x.1.2.2.length : Int) ([] : List Bool))).bind fun r1115 => some (.inl (r1115, r1113)))) (agree (((mkC (x.1.2.2.length : Int) ([] : List Bool))).bind fun r1116 => agree (((mkC (x.1.2.2.length : Int) ([] : List Bool))).bind fun r1117 => some (.inl (r1116, r1117))) (((mkC (x.1.2.2.length : Int) ([] : List Bool))).bind fun r1118 => some (.inl (r1116, r1118)))) (((mkC (x.1.2.2.length : Int) ([] : List Bool))).bind fun r1119 => ((mkC (x.1.2.2.length : Int) ([] : List Bool))).bind fun r1120 => some (.inl (r1120, r1119))))))))) (agree (agree (((mkC (x.1.2.2.length : Int) ([] : List Bool))).bind fun r1121 => agree (agree (((mkC (x.1.2.2.length : Int) ([] : List Bool))).bind fun r1122 => some (.inl (r1121, r1122))) (agree (((mkC (x.1.2.2.length : Int) ([] : List Bool))).bind fun r1123 => some (.inl (r1121, r1123))) (((mkC (x.1.2.2.length : Int) ([] : List Bool))).bind fun r1124 => some (.inl (r1121, r1124))))) (agree (agree (((mkC (x.1.2.2.length : Int) ([] : List Bool))).bind fun r1125 => some (.inl (r1121, r1125))) (((mkC (x.1.2.2.length : Int) ([] : List Bool))).bind fun r1126 => some (.inl (r1121, r1126)))) (((mkC (x.1.2.2.length : Int) ([] : List Bool))).bind fun r1127 => some (.inl (r1121, r1127))))) (agree (agree (((mkC (x.1.2.2.length : Int) ([] : List Bool))).bind fun r1128 => agree (((mkC (x.1.2.2.length : Int) ([] : List Bool))).bind fun r1129 => some (.inl (r1128, r1129))) (agree (((mkC (x.1.2.2.length : Int) ([] : List Bool))).bind fun r1130 => some (.inl (r1128, r1130))) (((mkC (x.1.2.2.length : Int) ([] : List Bool))).bind fun r1131 => some (.inl (r1128, r1131))))) (agree (((mkC (x.1.2.2.length : Int) ([] : List Bool))).bind fun r1132 => agree (((mkC (x.1.2.2.length : Int) ([] : List Bool))).bind fun r1133 => some (.inl (r1133, r1132))) (((mkC (x.1.2.2.length : Int) ([] : List Bool))).bind fun r1134 => some (.inl (r1134, r1132)))) (agree (((mkC (x.1.2.2.length : Int) ([] : List Bool))).bind fun r1135 => agree (((mkC (x.1.2.2.length : Int) ([] : List Bool))).bind fun r1136 => some (.inl (r1135, r1136))) (((mkC (x.1.2.2.length : Int) ([] : List Bool))).bind fun r1137 => some (.inl (r1135, r1137)))) (((mkC (x.1.2.2.length : Int) ([] : List Bool))).bind fun r1138 => ((mkC (x.1.2.2.length : Int) ([] : List Bool))).bind fun r1139 => some (.inl (r1139, r1138)))))) (agree (((mkC (x.1.2.2.length : Int) ([] : List Bool))).bind fun r1140 => agree (agree (((mkC (x.1.2.2.length : Int) ([] : List Bool))).bind fun r1141 => some (.inl (r1140, r1141))) (((mkC (x.1.2.2.length : Int) ([] : List Bool))).bind fun r1142 => some (.inl (r1140, r1142)))) (((mkC (x.1.2.2.length : Int) ([] : List Bool))).bind fun r1143 => some (.inl (r1140, r1143)))) (agree (((mkC (x.1.2.2.length : Int) ([] : List Bool))).bind fun r1144 => agree (((mkC (x.1.2.2.length : Int) ([] : List Bool))).bind fun r1145 => some (.inl (r1144, r1145))) (((mkC (x.1.2.2.length : Int) ([] : List Bool))).bind fun r1146 => some (.inl (r1144, r1146)))) (((mkC (x.1.2.2.length : Int) ([] : List Bool))).bind fun r1147 => ((mkC (x.1.2.2.length : Int) ([] : List Bool))).bind fun r1148 => some (.inl (r1148, r1147))))))) (agree (((mkC (x.1.2.2.length : Int) ([] : List Bool))).bind fun r1149 => agree (agree (((mkC (x.1.2.2.length : Int) ([] : List Bool))).bind fun r1150 => some (.inl (r1149, r1150))) (agree (((mkC (x.1.2.2.length : Int) ([] : List Bool))).bind fun r1151 => some (.inl (r1149, r1151))) (((mkC (x.1.2.2.length : Int) ([] : List Bool))).bind fun r1152 => some (.inl (r1149, r1152))))) (agree (agree (((mkC (x.1.2.2.length : Int) ([] : List Bool))).bind fun r1153 => some (.inl (r1149, r1153))) (((mkC (x.1.2.2.length : Int) ([] : List Bool))).bind fun r1154 => some (.inl (r1149, r1154)))) (((mkC (x.1.2.2.length : Int) ([] : List Bool))).bind fun r1155 => some (.inl (r1149, r1155))))) (agree (agree (((mkC (x.1.2.2.length : Int) ([] : List Bool))).bind fun r1156 => agree (((mkC (x.1.2.2.length : Int) ([] : List Bool))).bind fun r1157 => some (.inl (r1156, r1157))) (agree (((mkC (x.1.2.2.length : Int) ([] : List Bool))).bind fun r1158 => some (.inl (r1156, r1158))) (((mkC (x.1.2.2.length : Int) ([] : List Bool))).bind fun r1159 => some (.inl (r1156, r1159))))) (agree (((mkC (x.1.2.2.length : Int) ([] : List Bool))).bind fun r1160 => agree (((mkC (x.1.2.2.length : Int) ([] : List Bool))).bind fun r1161 => some (.inl (r1161, r1160))) (((mkC (x.1.2.2.length : Int) ([] : List Bool))).bind fun r1162 => some (.inl (r1162, r1160)))) (agree (((mkC (x.1.2.2.length : Int) ([] : List Bool))).bind fun r1163 => agree (((mkC (x.1.2.2.length : Int) ([] : List Bool))).bind fun r1164 => some (.inl (r1163, r1164))) (((mkC (x.1.2.2.length : Int) ([] : List Bool))).bind fun r1165 => some (.inl (r1163, r1165)))) (((mkC (x.1.2.2.length : Int) ([] : List Bool))).bind fun r1166 => ((mkC (x.1.2.2.length : Int) ([] : List Bool))).bind fun r1167 => some (.inl (r1167, r1166)))))) (agree (((mkC (x.1.2.2.length : Int) ([] : List Bool))).bind fun r1168 => agree (agree (((mkC (x.1.2.2.length : Int) ([] : List Bool))).bind fun r1169 => some (.inl (r1168, r1169))) (((mkC (x.1.2.2.length : Int) ([] : List Bool))).bind fun r1170 => some (.inl (r1168, r1170)))) (((mkC (x.1.2.2.length : Int) ([] : List Bool))).bind fun r1171 => some (.inl (r1168, r1171)))) (agree (((mkC (x.1.2.2.length : Int) ([] : List Bool))).bind fun r1172 => agree (((mkC (x.1.2.2.length : Int) ([] : List Bool))).bind fun r1173 => some (.inl (r1172, r1173))) (((mkC (x.1.2.2.length : Int) ([] : List Bool))).bind fun r1174 => some (.inl (r1172, r1174)))) (((mkC (x.1.2.2.length : Int) ([] : List Bool))).bind fun r1175 => ((mkC (x.1.2.2.length : Int) ([] : List Bool))).bind fun r1176 => some (.inl (r1176, r1175)))))))))) (fun y1177 : ((List (List Bool)) × (List (List Bool))) => ((G131 lf ())).bind fun r1178 => ((G116 lf (x.1.1, (x.1.2.1, x.1.2.2)))).bind fun r1179 => ((G115 lf (x.2.2, r1179))).bind fun r1180 => ((mkC (r1180.length : Int) (0 : Int))).bind fun r1181 => iter lf (fun y1182 : ((List Int) × ((List (List Bool)) × (List (List Bool)))) => iter lf (fun y1183 : ((List Int) × Int) => cond (decide (y1183.2 < (y1182.1.length : Int))) (((getI y1182.1 y1183.2)).bind fun r1184 => ((getI y1182.1 y1183.2)).bind fun r1185 => ((getI r1180 y1183.2)).bind fun r1186 => ((getI r1186 r1185)).bind fun r1187 => ((appC y1183.1 [r1187])).bind fun r1188 => some (.inl (r1188, (w64 (y1183.2 + (1 : Int)))))) (outR (((G130 lf ((x.1.1, (x.1.2.1, x.1.2.2)), (x.2.1, (y1183.1, ()))))).bind fun r1189 => iter lf (fun y1190 : (Int × ((List (List Bool)) × (List (List Bool)))) => cond (decide (y1190.1 < (x.1.2.2.length : Int))) (jn (((getI y1190.2.2 y1190.1)).bind fun r1191 => ((getI r1189.1 y1190.1)).bind fun r1192 => ((getI y1190.2.1 y1190.1)).bind fun r1193 => ((getI r1189.2 y1190.1)).bind fun r1194 => agree (((getI y1190.2.2 y1190.1)).bind fun r1195 => agree (agree (((appC r1195 [r1192])).bind fun r1196 => agree (((getI y1190.2.1 y1190.1)).bind fun r1197 => ((appC r1197 [r1194])).bind fun r1198 => ((getI y1190.2.2 y1190.1)).bind fun r1199 => cond (decide (y1190.1 = y1190.1)) (((setI y1190.2.2 y1190.1 r1196)).bind fun r1200 => ((getI y1190.2.1 y1190.1)).bind fun r1201 => cond (decide (y1190.1 = y1190.1)) (((setI y1190.2.1 y1190.1 r1198)).bind fun r1202 => some (.inl (r1202, r1200))) ((outI))) ((outI))) (((getI y1190.2.1 y1190.1)).bind fun r1203 => ((appC r1203 [r1194])).bind fun r1204 => ((getI y1190.2.2 y1190.1)).bind fun r1205 => cond (decide (y1190.1 = y1190.1)) (((setI y1190.2.2 y1190.1 r1196)).bind fun r1206 => ((getI y1190.2.1 y1190.1)).bind fun r1207 => cond (decide (y1190.1 = y1190.1)) (((setI y1190.2.1 y1190.1 r1204)).bind fun r1208 => some (.inl (r1208, r1206))) ((outI))) ((outI)))) (agree (((getI y1190.2.1 y1190.1)).bind fun r1209 => agree (((appC r1195 [r1192])).bind fun r1210 => ((appC r1209 [r1194])).bind fun r1211 => ((getI y1190.2.2 y1190.1)).bind fun r1212 => cond (decide (y1190.1 = y1190.1)) (((setI y1190.2.2 y1190.1 r1210)).bind fun r1213 => ((getI y1190.2.1 y1190.1)).bind fun r1214 => cond (decide (y1190.1 = y1190.1)) (((setI y1190.2.1 y1190.1 r1211)).bind fun r1215 => some (.inl (r1215, r1213))) ((outI))) ((outI))) (((appC r1195 [r1192])).bind fun r1216 => ((appC r1209 [r1194])).bind fun r1217 => ((getI y1190.2.2 y1190.1)).bind fun r1218 => cond (decide (y1190.1 = y1190.1)) (((setI y1190.2.2 y1190.1 r1216)).bind fun r1219 => ((getI y1190.2.1 y1190.1)).bind fun r1220 => cond (decide (y1190.1 = y1190.1)) (((setI y1190.2.1 y1190.1 r1217)).bind fun r1221 => some (.inl (r1221, r1219))) ((outI))) ((outI)))) (agree (((appC r1195 [r1192])).bind fun r1222 => ((getI y1190.2.1 y1190.1)).bind fun r1223 => ((appC r1223 [r1194])).bind fun r1224 => ((getI y1190.2.2 y1190.1)).bind fun r1225 => cond (decide (y1190.1 = y1190.1)) (((setI y1190.2.2 y1190.1 r1222)).bind fun r1226 => ((getI y1190.2.1 y1190.1)).bind fun r1227 => cond (decide (y1190.1 = y1190.1)) (((setI y1190.2.1 y1190.1 r1224)).bind fun r1228 => some (.inl (r1228, r1226))) ((outI))) ((outI))) (((getI y1190.2.1 y1190.1)).bind fun r1229 => ((appC r1195 [r1192])).bind fun r1230 => ((appC r1229 [r1194])).bind fun r1231 => ((getI y1190.2.2 y1190.1)).bind fun r1232 => cond (decide (y1190.1 = y1190.1)) (((setI y1190.2.2 y1190.1 r1230)).bind fun r1233 => ((getI y1190.2.1 y1190.1)).bind fun r1234 => cond (decide (y1190.1 = y1190.1)) (((setI y1190.2.1 y1190.1 r1231)).bind fun r1235 => some (.inl (r1235, r1233))) ((outI))) ((outI)))))) (agree (((getI y1190.2.1 y1190.1)).bind fun r1236 => agree (agree (((appC r1195 [r1192])).bind fun r1237 => ((appC r1236 [r1194])).bind fun r1238 => ((getI y1190.2.2 y1190.1)).bind fun r1239 => cond (decide (y1190.1 = y1190.1)) (((setI y1190.2.2 y1190.1 r1237)).bind fun r1240 => ((getI y1190.2.1 y1190.1)).bind fun r1241 => cond (decide (y1190.1 = y1190.1)) (((setI y1190.2.1 y1190.1 r1238)).bind fun r1242 => some (.inl (r1242, r1240))) ((outI))) ((outI))) (((appC r1195 [r1192])).bind fun r1243 => ((appC r1236 [r1194])).bind fun r1244 => ((getI y1190.2.2 y1190.1)).bind fun r1245 => cond (decide (y1190.1 = y1190.1)) (((setI y1190.2.2 y1190.1 r1243)).bind fun r1246 => ((getI y1190.2.1 y1190.1)).bind fun r1247 => cond (decide (y1190.1 = y1190.1)) (((setI y1190.2.1 y1190.1 r1244)).bind fun r1248 => some (.inl (r1248, r1246))) ((outI))) ((outI)))) (((appC r1195 [r1192])).bind fun r1249 => ((appC r1236 [r1194])).bind fun r1250 => ((getI y1190.2.2 y1190.1)).bind fun r1251 => cond (decide (y1190.1 = y1190.1)) (((setI y1190.2.2 y1190.1 r1249)).bind fun r1252 => ((getI y1190.2.1 y1190.1)).bind fun r1253 => cond (decide (y1190.1 = y1190.1)) (((setI y1190.2.1 y1190.1 r1250)).bind fun r1254 => some (.inl (r1254, r1252))) ((outI))) ((outI)))) (agree (agree (((appC r1195 [r1192])).bind fun r1255 => ((getI y1190.2.1 y1190.1)).bind fun r1256 => ((appC r1256 [r1194])).bind fun r1257 => ((getI y1190.2.2 y1190.1)).bind fun r1258 => cond (decide (y1190.1 = y1190.1)) (((setI y1190.2.2 y1190.1 r1255)).bind fun r1259 => ((getI y1190.2.1 y1190.1)).bind fun r1260 => cond (decide (y1190.1 = y1190.1)) (((setI y1190.2.1 y1190.1 r1257)).bind fun r1261 => some (.inl (r1261, r1259))) ((outI))) ((outI))) (((getI y1190.2.1 y1190.1)).bind fun r1262 => ((appC r1195 [r1192])).bind fun r1263 => ((appC r1262 [r1194])).bind fun r1264 => ((getI y1190.2.2 y1190.1)).bind fun r1265 => cond (decide (y1190.1 = y1190.1)) (((setI y1190.2.2 y1190.1 r1263)).bind fun r1266 => ((getI y1190.2.1 y1190.1)).bind fun r1267 => cond (decide (y1190.1 = y1190.1)) (((setI y1190.2.1 y1190.1 r1264)).bind fun r1268 => some (.inl (r1268, r1266))) ((outI))) ((outI)))) (((getI y1190.2.1 y1190.1)).bind fun r1269 => ((appC r1195 [r1192])).bind fun r1270 => ((appC r1269 [r1194])).bind fun r1271 => ((getI y1190.2.2 y1190.1)).bind fun r1272 => cond (decide (y1190.1 = y1190.1)) (((setI y1190.2.2 y1190.1 r1270)).bind fun r1273 => ((getI y1190.2.1 y1190.1)).bind fun r1274 => cond (decide (y1190.1 = y1190.1)) (((setI y1190.2.1 y1190.1 r1271)).bind fun r1275 => some (.inl (r1275, r1273))) ((outI))) ((outI)))))) (agree (agree (((getI y1190.2.2 y1190.1)).bind fun r1276 => agree (((appC r1276 [r1192])).bind fun r1277 => agree (((getI y1190.2.1 y1190.1)).bind fun r1278 => ((appC r1278 [r1194])).bind fun r1279 => ((getI y1190.2.2 y1190.1)).bind fun r1280 => cond (decide (y1190.1 = y1190.1)) (((setI y1190.2.2 y1190.1 r1277)).bind fun r1281 => ((getI y1190.2.1 y1190.1)).bind fun r1282 => cond (decide (y1190.1 = y1190.1)) (((setI y1190.2.1 y1190.1 r1279)).bind fun r1283 => some (.inl (r1283, r1281))) ((outI))) ((outI))) (((getI y1190.2.1 y1190.1)).bind fun r1284 => ((appC r1284 [r1194])).bind fun r1285 => ((getI y1190.2.2 y1190.1)).bind fun r1286 => cond (decide (y1190.1 = y1190.1)) (((setI y1190.2.2 y1190.1 r1277)).bind fun r1287 => ((getI y1190.2.1 y1190.1)).bind fun r1288 => cond (decide (y1190.1 = y1190.1)) (((setI y1190.2.1 y1190.1 r1285)).bind fun r1289 => some (.inl (r1289, r1287))) ((outI))) ((outI)))) (agree (((getI y1190.2.1 y1190.1)).bind fun r1290 => agree (((appC r1276 [r1192])).bind fun r1291 => ((appC r1290 [r1194])).bind fun r1292 => ((getI y1190.2.2 y1190.1)).bind fun r1293 => cond (decide (y1190.1 = y1190.1)) (((setI y1190.2.2 y1190.1 r1291)).bind fun r1294 => ((getI y1190.2.1 y1190.1)).bind fun r1295 => cond (decide (y1190.1 = y1190.1)) (((setI y1190.2.1 y1190.1 r1292)).bind fun r1296 => some (.inl (r1296, r1294))) ((outI))) ((outI))) (((appC r1276 [r1192])).bind fun r1297 => ((appC r1290 [r1194])).bind fun r1298 => ((getI y1190.2.2 y1190.1)).bind fun r1299 => cond (decide (y1190.1 = y1190.1)) (((setI y1190.2.2 y1190.1 r1297)).bind fun r1300 => ((getI y1190.2.1 y1190.1)).bind fun r1301 => cond (decide (y1190.1 = y1190.1)) (((setI y1190.2.1 y1190.1 r1298)).bind fun r1302 => some (.inl (r1302, r1300))) ((outI))) ((outI)))) (agree (((appC r1276 [r1192])).bind fun r1303 => ((getI y1190.2.1 y1190.1)).bind fun r1304 => ((appC r1304 [r1194])).bind fun r1305 => ((getI y1190.2.2 y1190.1)).bind fun r1306 => cond (decide (y1190.1 = y1190.1)) (((setI y1190.2.2 y1190.1 r1303)).bind fun r1307 => ((getI y1190.2.1 y1190.1)).bind fun r1308 => cond (decide (y1190.1 = y1190.1)) (((setI y1190.2.1 y1190.1 r1305)).bind fun r1309 => some (.inl (r1309, r1307))) ((outI))) ((outI))) (((getI y1190.2.1 y1190.1)).bind fun r1310 => ((appC r1276 [r1192])).bind fun r1311 => ((appC r1310 [r1194])).bind fun r1312 => ((getI y1190.2.2 y1190.1)).bind fun r1313 => cond (decide (y1190.1 = y1190.1)) (((setI y1190.2.2 y1190.1 r1311)).bind fun r1314 => ((getI y1190.2.1 y1190.1)).bind fun r1315 => cond (decide (y1190.1 = y1190.1)) (((setI y1190.2.1 y1190.1 r1312)).bind fun r1316 => some (.inl (r1316, r1314))) ((outI))) ((outI)))))) (agree (((getI y1190.2.1 y1190.1)).bind fun r1317 => agree (((getI y1190.2.2 y1190.1)).bind fun r1318 => agree (((appC r1318 [r1192])).bind fun r1319 => ((appC r1317 [r1194])).bind fun r1320 => ((getI y1190.2.2 y1190.1)).bind fun r1321 => cond (decide (y1190.1 = y1190.1)) (((setI y1190.2.2 y1190.1 r1319)).bind fun r1322 => ((getI y1190.2.1 y1190.1)).bind fun r1323 => cond (decide (y1190.1 = y1190.1)) (((setI y1190.2.1 y1190.1 r1320)).bind fun r1324 => some (.inl (r1324, r1322))) ((outI))) ((outI))) (((appC r1318 [r1192])).bind fun r1325 => ((appC r1317 [r1194])).bind fun r1326 => ((getI y1190.2.2 y1190.1)).bind fun r1327 => cond (decide (y1190.1 = y1190.1)) (((setI y1190.2.2 y1190.1 r1325)).bind fun r1328 => ((getI y1190.2.1 y1190.1)).bind fun r1329 => cond (decide (y1190.1 = y1190.1)) (((setI y1190.2.1 y1190.1 r1326)).bind fun r1330 => some (.inl (r1330, r1328))) ((outI))) ((outI)))) (((getI y1190.2.2 y1190.1)).bind fun r1331 => ((appC r1331 [r1192])).bind fun r1332 => ((appC r1317 [r1194])).bind fun r1333 => ((getI y1190.2.2 y1190.1)).bind fun r1334 => cond (decide (y1190.1 = y1190.1)) (((setI y1190.2.2 y1190.1 r1332)).bind fun r1335 => ((getI y1190.2.1 y1190.1)).bind fun r1336 => cond (decide (y1190.1 = y1190.1)) (((setI y1190.2.1 y1190.1 r1333)).bind fun r1337 => some (.inl (r1337, r1335))) ((outI))) ((outI)))) (agree (((getI y1190.2.2 y1190.1)).bind fun r1338 => agree (((appC r1338 [r1192])).bind fun r1339 => ((getI y1190.2.1 y1190.1)).bind fun r1340 => ((appC r1340 [r1194])).bind fun r1341 => ((getI y1190.2.2 y1190.1)).bind fun r1342 => cond (decide (y1190.1 = y1190.1)) (((setI y1190.2.2 y1190.1 r1339)).bind fun r1343 => ((getI y1190.2.1 y1190.1)).bind fun r1344 => cond (decide (y1190.1 = y1190.1)) (((setI y1190.2.1 y1190.1 r1341)).bind fun r1345 => some (.inl (r1345, r1343))) ((outI))) ((outI))) (((getI y1190.2.1 y1190.1)).bind fun r1346 => ((appC r1338 [r1192])).bind fun r1347 => ((appC r1346 [r1194])).bind fun r1348 => ((getI y1190.2.2 y1190.1)).bind fun r1349 => cond (decide (y1190.1 = y1190.1)) (((setI y1190.2.2 y1190.1 r1347)).bind fun r1350 => ((getI y1190.2.1 y1190.1)).bind fun r1351 => cond (decide (y1190.1 = y1190.1)) (((setI y1190.2.1 y1190.1 r1348)).bind fun r1352 => some (.inl (r1352, r1350))) ((outI))) ((outI)))) (((getI y1190.2.1 y1190.1)).bind fun r1353 => ((getI y1190.2.2 y1190.1)).bind fun r1354 => ((appC r1354 [r1192])).bind fun r1355 => ((appC r1353 [r1194])).bind fun r1356 => ((getI y1190.2.2 y1190.1)).bind fun r1357 => cond (decide (y1190.1 = y1190.1)) (((setI y1190.2.2 y1190.1 r1355)).bind fun r1358 => ((getI y1190.2.1 y1190.1)).bind fun r1359 => cond (decide (y1190.1 = y1190.1)) (((setI y1190.2.1 y1190.1 r1356)).bind fun r1360 => some (.inl (r1360, r1358))) ((outI))) ((outI)))))) (agree (((getI y1190.2.1 y1190.1)).bind fun r1361 => agree (((getI y1190.2.2 y1190.1)).bind fun r1362 => agree (agree (((appC r1362 [r1192])).bind fun r1363 => ((appC r1361 [r1194])).bind fun r1364 => ((getI y1190.2.2 y1190.1)).bind fun r1365 => cond (decide (y1190.1 = y1190.1)) (((setI y1190.2.2 y1190.1 r1363)).bind fun r1366 => ((getI y1190.2.1 y1190.1)).bind fun r1367 => cond (decide (y1190.1 = y1190.1)) (((setI y1190.2.1 y1190.1 r1364)).bind fun r1368 => some (.inl (r1368, r1366))) ((outI))) ((outI))) (((appC r1362 [r1192])).bind fun r1369 => ((appC r1361 [r1194])).bind fun r1370 => ((getI y1190.2.2 y1190.1)).bind fun r1371 => cond (decide (y1190.1 = y1190.1)) (((setI y1190.2.2 y1190.1 r1369)).bind fun r1372 => ((getI y1190.2.1 y1190.1)).bind fun r1373 => cond (decide (y1190.1 = y1190.1)) (((setI y1190.2.1 y1190.1 r1370)).bind fun r1374 => some (.inl (r1374, r1372))) ((outI))) ((outI)))) (((appC r1362 [r1192])).bind fun r1375 => ((appC r1361 [r1194])).bind fun r1376 => ((getI y1190.2.2 y1190.1)).bind fun r1377 => cond (decide (y1190.1 = y1190.1)) (((setI y1190.2.2 y1190.1 r1375)).bind fun r1378 => ((getI y1190.2.1 y1190.1)).bind fun r1379 => cond (decide (y1190.1 = y1190.1)) (((setI y1190.2.1 y1190.1 r1376)).bind fun r1380 => some (.inl (r1380, r1378))) ((outI))) ((outI)))) (agree (agree (((getI y1190.2.2 y1190.1)).bind fun r1381 => agree (((appC r1381 [r1192])).bind fun r1382 => ((appC r1361 [r1194])).bind fun r1383 => ((getI y1190.2.2 y1190.1)).bind fun r1384 => cond (decide (y1190.1 = y1190.1)) (((setI y1190.2.2 y1190.1 r1382)).bind fun r1385 => ((getI y1190.2.1 y1190.1)).bind fun r1386 => cond (decide (y1190.1 = y1190.1)) (((setI y1190.2.1 y1190.1 r1383)).bind fun r1387 => some (.inl (r1387, r1385))) ((outI))) ((outI))) (((appC r1381 [r1192])).bind fun r1388 => ((appC r1361 [r1194])).bind fun r1389 => ((getI y1190.2.2 y1190.1)).bind fun r1390 => cond (decide (y1190.1 = y1190.1)) (((setI y1190.2.2 y1190.1 r1388)).bind fun r1391 => ((getI y1190.2.1 y1190.1)).bind fun r1392 => cond (decide (y1190.1 = y1190.1)) (((setI y1190.2.1 y1190.1 r1389)).bind fun r1393 => some (.inl (r1393, r1391))) ((outI))) ((outI)))) (((getI y1190.2.2 y1190.1)).bind fun r1394 => ((appC r1394 [r1192])).bind fun r1395 => ((appC r1361 [r1194])).bind fun r1396 => ((getI y1190.2.2 y1190.1)).bind fun r1397 => cond (decide (y1190.1 = y1190.1)) (((setI y1190.2.2 y1190.1 r1395)).bind fun r1398 => ((getI y1190.2.1 y1190.1)).bind fun r1399 => cond (decide (y1190.1 = y1190.1)) (((setI y1190.2.1 y1190.1 r1396)).bind fun r1400 => some (.inl (r1400, r1398))) ((outI))) ((outI)))) (agree (((getI y1190.2.2 y1190.1)).bind fun r1401 => ((appC r1401 [r1192])).bind fun r1402 => ((appC r1361 [r1194])).bind fun r1403 => ((getI y1190.2.2 y1190.1)).bind fun r1404 => cond (decide (y1190.1 = y1190.1)) (((setI y1190.2.2 y1190.1 r1402)).bind fun r1405 => ((getI y1190.2.1 y1190.1)).bind fun r1406 => cond (decide (y1190.1 = y1190.1)) (((setI y1190.2.1 y1190.1 r1403)).bind fun r1407 => some (.inl (r1407, r1405))) ((outI))) ((outI))) (((getI y1190.2.2 y1190.1)).bind fun r1408 => ((appC r1408 [r1192])).bind fun r1409 => ((appC r1361 [r1194])).bind fun r1410 => ((getI y1190.2.2 y1190.1)).bind fun r1411 => cond (decide (y1190.1 = y1190.1)) (((setI y1190.2.2 y1190.1 r1409)).bind fun r1412 => ((getI y1190.2.1 y1190.1)).bind fun r1413 => cond (decide (y1190.1 = y1190.1)) (((setI y1190.2.1 y1190.1 r1410)).bind fun r1414 => some (.inl (r1414, r1412))) ((outI))) ((outI)))))) (agree (((getI y1190.2.2 y1190.1)).bind fun r1415 => agree (agree (((appC r1415 [r1192])).bind fun r1416 => ((getI y1190.2.1 y1190.1)).bind fun r1417 => ((appC r1417 [r1194])).bind fun r1418 => ((getI y1190.2.2 y1190.1)).bind fun r1419 => cond (decide (y1190.1 = y1190.1)) (((setI y1190.2.2 y1190.1 r1416)).bind fun r1420 => ((getI y1190.2.1 y1190.1)).bind fun r1421 => cond (decide (y1190.1 = y1190.1)) (((setI y1190.2.1 y1190.1 r1418)).bind fun r1422 => some (.inl (r1422, r1420))) ((outI))) ((outI))) (((getI y1190.2.1 y1190.1)).bind fun r1423 => ((appC r1415 [r1192])).bind fun r1424 => ((appC r1423 [r1194])).bind fun r1425 => ((getI y1190.2.2 y1190.1)).bind fun r1426 => cond (decide (y1190.1 = y1190.1)) (((setI y1190.2.2 y1190.1 r1424)).bind fun r1427 => ((getI y1190.2.1 y1190.1)).bind fun r1428 => cond (decide (y1190.1 = y1190.1)) (((setI y1190.2.1 y1190.1 r1425)).bind fun r1429 => some (.inl (r1429, r1427))) ((outI))) ((outI)))) (((getI y1190.2.1 y1190.1)).bind fun r1430 => ((appC r1415 [r1192])).bind fun r1431 => ((appC r1430 [r1194])).bind fun r1432 => ((getI y1190.2.2 y1190.1)).bind fun r1433 => cond (decide (y1190.1 = y1190.1)) (((setI y1190.2.2 y1190.1 r1431)).bind fun r1434 => ((getI y1190.2.1 y1190.1)).bind fun r1435 => cond (decide (y1190.1 = y1190.1)) (((setI y1190.2.1 y1190.1 r1432)).bind fun r1436 => some (.inl (r1436, r1434))) ((outI))) ((outI)))) (agree (agree (((getI y1190.2.2 y1190.1)).bind fun r1437 => agree (((appC r1437 [r1192])).bind fun r1438 => ((getI y1190.2.1 y1190.1)).bind fun r1439 => ((appC r1439 [r1194])).bind fun r1440 => ((getI y1190.2.2 y1190.1)).bind fun r1441 => cond (decide (y1190.1 = y1190.1)) (((setI y1190.2.2 y1190.1 r1438)).bind fun r1442 => ((getI y1190.2.1 y1190.1)).bind fun r1443 => cond (decide (y1190.1 = y1190.1)) (((setI y1190.2.1 y1190.1 r1440)).bind fun r1444 => some (.inl (r1444, r1442))) ((outI))) ((outI))) (((getI y1190.2.1 y1190.1)).bind fun r1445 => ((appC r1437 [r1192])).bind fun r1446 => ((appC r1445 [r1194])).bind fun r1447 => ((getI y1190.2.2 y1190.1)).bind fun r1448 => cond (decide (y1190.1 = y1190.1)) (((setI y1190.2.2 y1190.1 r1446)).bind fun r1449 => ((getI y1190.2.1 y1190.1)).bind fun r1450 => cond (decide (y1190.1 = y1190.1)) (((setI y1190.2.1 y1190.1 r1447)).bind fun r1451 => some (.inl (r1451, r1449))) ((outI))) ((outI)))) (((getI y1190.2.1 y1190.1)).bind fun r1452 => ((getI y1190.2.2 y1190.1)).bind fun r1453 => ((appC r1453 [r1192])).bind fun r1454 => ((appC r1452 [r1194])).bind fun r1455 => ((getI y1190.2.2 y1190.1)).bind fun r1456 => cond (decide (y1190.1 = y1190.1)) (((setI y1190.2.2 y1190.1 r1454)).bind fun r1457 => ((getI y1190.2.1 y1190.1)).bind fun r1458 => cond (decide (y1190.1 = y1190.1)) (((setI y1190.2.1 y1190.1 r1455)).bind fun r1459 => some (.inl (r1459, r1457))) ((outI))) ((outI)))) (((getI y1190.2.1 y1190.1)).bind fun r1460 => agree (((getI y1190.2.2 y1190.1)).bind fun r1461 => ((appC r1461 [r1192])).bind fun r1462 => ((appC r1460 [r1194])).bind fun r1463 => ((getI y1190.2.2 y1190.1)).bind fun r1464 => cond (decide (y1190.1 = y1190.1)) (((setI y1190.2.2 y1190.1 r1462)).bind fun r1465 => ((getI y1190.2.1 y1190.1)).bind fun r1466 => cond (decide (y1190.1 = y1190.1)) (((setI y1190.2.1 y1190.1 r1463)).bind fun r1467 => some (.inl (r1467, r1465))) ((outI))) ((outI))) (((getI y1190.2.2 y1190.1)).bind fun r1468 => ((appC r1468 [r1192])).bind fun r1469 => ((appC r1460 [r1194])).bind fun r1470 => ((getI y1190.2.2 y1190.1)).bind fun r1471 => cond (decide (y1190.1 = y1190.1)) (((setI y1190.2.2 y1190.1 r1469)).bind fun r1472 => ((getI y1190.2.1 y1190.1)).bind fun r1473 => cond (decide (y1190.1 = y1190.1)) (((setI y1190.2.1 y1190.1 r1470)).bind fun r1474 => some (.inl (r1474, r1472))) ((outI))) ((outI))))))))) (fun y1475 : ((List (List Bool)) × (List (List Bool))) => some (.inl ((w64 (y1190.1 + (1 : Int))), (y1475.1, y1475.2))))) (outR (jn (iter lf (fun y1476 : (Int × (List Int)) => cond (decide (y1476.1 ≥ (0 : Int))) (((getI y1476.2 y1476.1)).bind fun r1477 => ((getI y1476.2 y1476.1)).bind fun r1478 => ((getI r1180 y1476.1)).bind fun r1479 => cond (decide (r1478 = (w64 ((r1479.length : Int) - (1 : Int))))) (((getI y1476.2 y1476.1)).bind fun r1480 => ((getI y1476.2 y1476.1)).bind fun r1481 => ((setI y1476.2 y1476.1 (0 : Int))).bind fun r1482 => some (.inl ((w64 (y1476.1 - (1 : Int))), r1482))) (some (.inr (.inl (y1476.1, y1476.2))))) (some (.inr (.inl (y1476.1, y1476.2))))) ((w64 ((r1180.length : Int) - (1 : Int))), y1182.1)) (fun y1483 : (Int × (List Int)) => cond (decide (y1483.1 < (0 : Int))) (outR (iter lf (fun y1484 : ((List (Int × (Int × Int))) × (Int × ((List (List Bool)) × (List (List Bool))))) => cond (decide (y1484.2.1 < (x.1.2.2.length : Int))) (((getI y1484.2.2.1 y1484.2.1)).bind fun r1485 => ((getI y1484.2.2.2 y1484.2.1)).bind fun r1486 => ((G125 lf r1485)).bind fun r1487 => ((G125 lf r1486)).bind fun r1488 => ((appC y1484.1 [(y1484.2.1, (r1487, r1488))])).bind fun r1489 => some (.inl (r1489, ((w64 (y1484.2.1 + (1 : Int))), (y1484.2.2.1, y1484.2.2.2))))) (some (.inr (y1484.1, (0 : Int))))) (([] : List (Int × (Int × Int))), ((0 : Int), (y1190.2.2, y1190.2.1))))) (((getI y1483.2 y1483.1)).bind fun r1490 => ((getI y1483.2 y1483.1)).bind fun r1491 => ((getI y1483.2 y1483.1)).bind fun r1492 => ((getI y1483.2 y1483.1)).bind fun r1493 => ((setI y1483.2 y1483.1 (w64 (r1491 + (1 : Int))))).bind fun r1494 => some (.inl (r1494, (y1190.2.1, y1190.2.2)))))))) ((0 : Int), (y1182.2.1, y1182.2.2))))) (([] : List Int), (0 : Int))) (r1181, (y1177.2, y1177.1)))))
end Go.K
namespace Go.K
open Go.Sl Go.Sx Go.Proofs
abbrev RR := List (List Bool)
noncomputable def M38 (l : List (ByteArray × (Int × (Int × (Yt × (Yt × (List ByteArray))))))) : Option ((RR × RR) ⊕ ((List (Int × (Int × Int))) × Int)) :=
  (agree (((mkC (l.length : Int) ([] : List Bool))).bind fun r1063 => agree (agree (((mkC (l.length : Int) ([] : List Bool))).bind fun r1064 => agree (some (.inl (r1063, r1064))) (some (.inl (r1063, r1064)))) (agree (agree (((mkC (l.length : Int) ([] : List Bool))).bind fun r1065 => some (.inl (r1063, r1065))) (agree (((mkC (l.length : Int) ([] : List Bool))).bind fun r1066 => some (.inl (r1063, r1066))) (((mkC (l.length : Int) ([] : List Bool))).bind fun r1067 => some (.inl (r1063, r1067))))) (agree (((mkC (l.length : Int) ([] : List Bool))).bind fun r1068 => some (.inl (r1063, r1068))) (agree (((mkC (l.length : Int) ([] : List Bool))).bind fun r1069 => some (.inl (r1063, r1069))) (((mkC (l.length : Int) ([] : List Bool))).bind fun r1070 => some (.inl (r1063, r1070))))))) (agree (agree (agree (((mkC (l.length : Int) ([] : List Bool))).bind fun r1071 => some (.inl (r1063, r1071))) (agree (((mkC (l.length : Int) ([] : List Bool))).bind fun r1072 => some (.inl (r1063, r1072))) (((mkC (l.length : Int) ([] : List Bool))).bind fun r1073 => some (.inl (r1063, r1073))))) (agree (agree (((mkC (l.length : Int) ([] : List Bool))).bind fun r1074 => some (.inl (r1063, r1074))) (((mkC (l.length : Int) ([] : List Bool))).bind fun r1075 => some (.inl (r1063, r1075)))) (((mkC (l.length : Int) ([] : List Bool))).bind fun r1076 => some (.inl (r1063, r1076))))) (agree (agree (((mkC (l.length : Int) ([] : List Bool))).bind fun r1077 => some (.inl (r1063, r1077))) (agree (((mkC (l.length : Int) ([] : List Bool))).bind fun r1078 => some (.inl (r1063, r1078))) (((mkC (l.length : Int) ([] : List Bool))).bind fun r1079 => some (.inl (r1063, r1079))))) (agree (agree (((mkC (l.length : Int) ([] : List Bool))).bind fun r1080 => some (.inl (r1063, r1080))) (((mkC (l.length : Int) ([] : List Bool))).bind fun r1081 => some (.inl (r1063, r1081)))) (((mkC (l.length : Int) ([] : List Bool))).bind fun r1082 => some (.inl (r1063, r1082))))))) (agree (agree (((mkC (l.length : Int) ([] : List Bool))).bind fun r1083 => agree (((mkC (l.length : Int) ([] : List Bool))).bind fun r1084 => agree (some (.inl (r1083, r1084))) (some (.inl (r1083, r1084)))) (agree (agree (((mkC (l.length : Int) ([] : List Bool))).bind fun r1085 => some (.inl (r1083, r1085))) (agree (((mkC (l.length : Int) ([] : List Bool))).bind fun r1086 => some (.inl (r1083, r1086))) (((mkC (l.length : Int) ([] : List Bool))).bind fun r1087 => some (.inl (r1083, r1087))))) (agree (((mkC (l.length : Int) ([] : List Bool))).bind fun r1088 => some (.inl (r1083, r1088))) (agree (((mkC (l.length : Int) ([] : List Bool))).bind fun r1089 => some (.inl (r1083, r1089))) (((mkC (l.length : Int) ([] : List Bool))).bind fun r1090 => some (.inl (r1083, r1090))))))) (agree (((mkC (l.length : Int) ([] : List Bool))).bind fun r1091 => agree (((mkC (l.length : Int) ([] : List Bool))).bind fun r1092 => agree (some (.inl (r1092, r1091))) (some (.inl (r1092, r1091)))) (agree (agree (((mkC (l.length : Int) ([] : List Bool))).bind fun r1093 => some (.inl (r1093, r1091))) (((mkC (l.length : Int) ([] : List Bool))).bind fun r1094 => some (.inl (r1094, r1091)))) (agree (((mkC (l.length : Int) ([] : List Bool))).bind fun r1095 => some (.inl (r1095, r1091))) (((mkC (l.length : Int) ([] : List Bool))).bind fun r1096 => some (.inl (r1096, r1091)))))) (agree (agree (((mkC (l.length : Int) ([] : List Bool))).bind fun r1097 => agree (((mkC (l.length : Int) ([] : List Bool))).bind fun r1098 => some (.inl (r1097, r1098))) (agree (((mkC (l.length : Int) ([] : List Bool))).bind fun r1099 => some (.inl (r1097, r1099))) (((mkC (l.length : Int) ([] : List Bool))).bind fun r1100 => some (.inl (r1097, r1100))))) (agree (((mkC (l.length : Int) ([] : List Bool))).bind fun r1101 => agree (((mkC (l.length : Int) ([] : List Bool))).bind fun r1102 => some (.inl (r1102, r1101))) (((mkC (l.length : Int) ([] : List Bool))).bind fun r1103 => some (.inl (r1103, r1101)))) (agree (((mkC (l.length : Int) ([] : List Bool))).bind fun r1104 => agree (((mkC (l.length : Int) ([] : List Bool))).bind fun r1105 => some (.inl (r1104, r1105))) (((mkC (l.length : Int) ([] : List Bool))).bind fun r1106 => some (.inl (r1104, r1106)))) (((mkC (l.length : Int) ([] : List Bool))).bind fun r1107 => ((mkC (l.length : Int) ([] : List Bool))).bind fun r1108 => some (.inl (r1108, r1107)))))) (agree (((mkC (l.length : Int) ([] : List Bool))).bind fun r1109 => agree (((mkC (l.length : Int) ([] : List Bool))).bind fun r1110 => some (.inl (r1109, r1110))) (agree (((mkC (l.length : Int) ([] : List Bool))).bind fun r1111 => some (.inl (r1109, r1111))) (((mkC (l.length : Int) ([] : List Bool))).bind fun r1112 => some (.inl (r1109, r1112))))) (agree (((mkC (l.length : Int) ([] : List Bool))).bind fun r1113 => agree (((mkC (l.length : Int) ([] : List Bool))).bind fun r1114 => some (.inl (r1114, r1113))) (((mkC (l.length : Int) ([] : List Bool))).bind fun r1115 => some (.inl (r1115, r1113)))) (agree (((mkC (l.length : Int) ([] : List Bool))).bind fun r1116 => agree (((mkC (l.length : Int) ([] : List Bool))).bind fun r1117 => some (.inl (r1116, r1117))) (((mkC (l.length : Int) ([] : List Bool))).bind fun r1118 => some (.inl (r1116, r1118)))) (((mkC (l.length : Int) ([] : List Bool))).bind fun r1119 => ((mkC (l.length : Int) ([] : List Bool))).bind fun r1120 => some (.inl (r1120, r1119))))))))) (agree (agree (((mkC (l.length : Int) ([] : List Bool))).bind fun r1121 => agree (agree (((mkC (l.length : Int) ([] : List Bool))).bind fun r1122 => some (.inl (r1121, r1122))) (agree (((mkC (l.length : Int) ([] : List Bool))).bind fun r1123 => some (.inl (r1121, r1123))) (((mkC (l.length : Int) ([] : List Bool))).bind fun r1124 => some (.inl (r1121, r1124))))) (agree (agree (((mkC (l.length : Int) ([] : List Bool))).bind fun r1125 => some (.inl (r1121, r1125))) (((mkC (l.length : Int) ([] : List Bool))).bind fun r1126 => some (.inl (r1121, r1126)))) (((mkC (l.length : Int) ([] : List Bool))).bind fun r1127 => some (.inl (r1121, r1127))))) (agree (agree (((mkC (l.length : Int) ([] : List Bool))).bind fun r1128 => agree (((mkC (l.length : Int) ([] : List Bool))).bind fun r1129 => some (.inl (r1128, r1129))) (agree (((mkC (l.length : Int) ([] : List Bool))).bind fun r1130 => some (.inl (r1128, r1130))) (((mkC (l.length : Int) ([] : List Bool))).bind fun r1131 => some (.inl (r1128, r1131))))) (agree (((mkC (l.length : Int) ([] : List Bool))).bind fun r1132 => agree (((mkC (l.length : Int) ([] : List Bool))).bind fun r1133 => some (.inl (r1133, r1132))) (((mkC (l.length : Int) ([] : List Bool))).bind fun r1134 => some (.inl (r1134, r1132)))) (agree (((mkC (l.length : Int) ([] : List Bool))).bind fun r1135 => agree (((mkC (l.length : Int) ([] : List Bool))).bind fun r1136 => some (.inl (r1135, r1136))) (((mkC (l.length : Int) ([] : List Bool))).bind fun r1137 => some (.inl (r1135, r1137)))) (((mkC (l.length : Int) ([] : List Bool))).bind fun r1138 => ((mkC (l.length : Int) ([] : List Bool))).bind fun r1139 => some (.inl (r1139, r1138)))))) (agree (((mkC (l.length : Int) ([] : List Bool))).bind fun r1140 => agree (agree (((mkC (l.length : Int) ([] : List Bool))).bind fun r1141 => some (.inl (r1140, r1141))) (((mkC (l.length : Int) ([] : List Bool))).bind fun r1142 => some (.inl (r1140, r1142)))) (((mkC (l.length : Int) ([] : List Bool))).bind fun r1143 => some (.inl (r1140, r1143)))) (agree (((mkC (l.length : Int) ([] : List Bool))).bind fun r1144 => agree (((mkC (l.length : Int) ([] : List Bool))).bind fun r1145 => some (.inl (r1144, r1145))) (((mkC (l.length : Int) ([] : List Bool))).bind fun r1146 => some (.inl (r1144, r1146)))) (((mkC (l.length : Int) ([] : List Bool))).bind fun r1147 => ((mkC (l.length : Int) ([] : List Bool))).bind fun r1148 => some (.inl (r1148, r1147))))))) (agree (((mkC (l.length : Int) ([] : List Bool))).bind fun r1149 => agree (agree (((mkC (l.length : Int) ([] : List Bool))).bind fun r1150 => some (.inl (r1149, r1150))) (agree (((mkC (l.length : Int) ([] : List Bool))).bind fun r1151 => some (.inl (r1149, r1151))) (((mkC (l.length : Int) ([] : List Bool))).bind fun r1152 => some (.inl (r1149, r1152))))) (agree (agree (((mkC (l.length : Int) ([] : List Bool))).bind fun r1153 => some (.inl (r1149, r1153))) (((mkC (l.length : Int) ([] : List Bool))).bind fun r1154 => some (.inl (r1149, r1154)))) (((mkC (l.length : Int) ([] : List Bool))).bind fun r1155 => some (.inl (r1149, r1155))))) (agree (agree (((mkC (l.length : Int) ([] : List Bool))).bind fun r1156 => agree (((mkC (l.length : Int) ([] : List Bool))).bind fun r1157 => some (.inl (r1156, r1157))) (agree (((mkC (l.length : Int) ([] : List Bool))).bind fun r1158 => some (.inl (r1156, r1158))) (((mkC (l.length : Int) ([] : List Bool))).bind fun r1159 => some (.inl (r1156, r1159))))) (agree (((mkC (l.length : Int) ([] : List Bool))).bind fun r1160 => agree (((mkC (l.length : Int) ([] : List Bool))).bind fun r1161 => some (.inl (r1161, r1160))) (((mkC (l.length : Int) ([] : List Bool))).bind fun r1162 => some (.inl (r1162, r1160)))) (agree (((mkC (l.length : Int) ([] : List Bool))).bind fun r1163 => agree (((mkC (l.length : Int) ([] : List Bool))).bind fun r1164 => some (.inl (r1163, r1164))) (((mkC (l.length : Int) ([] : List Bool))).bind fun r1165 => some (.inl (r1163, r1165)))) (((mkC (l.length : Int) ([] : List Bool))).bind fun r1166 => ((mkC (l.length : Int) ([] : List Bool))).bind fun r1167 => some (.inl (r1167, r1166)))))) (agree (((mkC (l.length : Int) ([] : List Bool))).bind fun r1168 => agree (agree (((mkC (l.length : Int) ([] : List Bool))).bind fun r1169 => some (.inl (r1168, r1169))) (((mkC (l.length : Int) ([] : List Bool))).bind fun r1170 => some (.inl (r1168, r1170)))) (((mkC (l.length : Int) ([] : List Bool))).bind fun r1171 => some (.inl (r1168, r1171)))) (agree (((mkC (l.length : Int) ([] : List Bool))).bind fun r1172 => agree (((mkC (l.length : Int) ([] : List Bool))).bind fun r1173 => some (.inl (r1172, r1173))) (((mkC (l.length : Int) ([] : List Bool))).bind fun r1174 => some (.inl (r1172, r1174)))) (((mkC (l.length : Int) ([] : List Bool))).bind fun r1175 => ((mkC (l.length : Int) ([] : List Bool))).bind fun r1176 => some (.inl (r1176, r1175))))))))))
noncomputable def J38 (r1189 : List Bool × List Bool) (y1190 : Int × (RR × RR)) : Option ((RR × RR) ⊕ ((Int × (RR × RR)) ⊕ ((List Int × (RR × RR)) ⊕ ((List (Int × (Int × Int))) × Int)))) :=
  (((getI y1190.2.2 y1190.1)).bind fun r1191 => ((getI r1189.1 y1190.1)).bind fun r1192 => ((getI y1190.2.1 y1190.1)).bind fun r1193 => ((getI r1189.2 y1190.1)).bind fun r1194 => agree (((getI y1190.2.2 y1190.1)).bind fun r1195 => agree (agree (((appC r1195 [r1192])).bind fun r1196 => agree (((getI y1190.2.1 y1190.1)).bind fun r1197 => ((appC r1197 [r1194])).bind fun r1198 => ((getI y1190.2.2 y1190.1)).bind fun r1199 => cond (decide (y1190.1 = y1190.1)) (((setI y1190.2.2 y1190.1 r1196)).bind fun r1200 => ((getI y1190.2.1 y1190.1)).bind fun r1201 => cond (decide (y1190.1 = y1190.1)) (((setI y1190.2.1 y1190.1 r1198)).bind fun r1202 => some (.inl (r1202, r1200))) ((outI))) ((outI))) (((getI y1190.2.1 y1190.1)).bind fun r1203 => ((appC r1203 [r1194])).bind fun r1204 => ((getI y1190.2.2 y1190.1)).bind fun r1205 => cond (decide (y1190.1 = y1190.1)) (((setI y1190.2.2 y1190.1 r1196)).bind fun r1206 => ((getI y1190.2.1 y1190.1)).bind fun r1207 => cond (decide (y1190.1 = y1190.1)) (((setI y1190.2.1 y1190.1 r1204)).bind fun r1208 => some (.inl (r1208, r1206))) ((outI))) ((outI)))) (agree (((getI y1190.2.1 y1190.1)).bind fun r1209 => agree (((appC r1195 [r1192])).bind fun r1210 => ((appC r1209 [r1194])).bind fun r1211 => ((getI y1190.2.2 y1190.1)).bind fun r1212 => cond (decide (y1190.1 = y1190.1)) (((setI y1190.2.2 y1190.1 r1210)).bind fun r1213 => ((getI y1190.2.1 y1190.1)).bind fun r1214 => cond (decide (y1190.1 = y1190.1)) (((setI y1190.2.1 y1190.1 r1211)).bind fun r1215 => some (.inl (r1215, r1213))) ((outI))) ((outI))) (((appC r1195 [r1192])).bind fun r1216 => ((appC r1209 [r1194])).bind fun r1217 => ((getI y1190.2.2 y1190.1)).bind fun r1218 => cond (decide (y1190.1 = y1190.1)) (((setI y1190.2.2 y1190.1 r1216)).bind fun r1219 => ((getI y1190.2.1 y1190.1)).bind fun r1220 => cond (decide (y1190.1 = y1190.1)) (((setI y1190.2.1 y1190.1 r1217)).bind fun r1221 => some (.inl (r1221, r1219))) ((outI))) ((outI)))) (agree (((appC r1195 [r1192])).bind fun r1222 => ((getI y1190.2.1 y1190.1)).bind fun r1223 => ((appC r1223 [r1194])).bind fun r1224 => ((getI y1190.2.2 y1190.1)).bind fun r1225 => cond (decide (y1190.1 = y1190.1)) (((setI y1190.2.2 y1190.1 r1222)).bind fun r1226 => ((getI y1190.2.1 y1190.1)).bind fun r1227 => cond (decide (y1190.1 = y1190.1)) (((setI y1190.2.1 y1190.1 r1224)).bind fun r1228 => some (.inl (r1228, r1226))) ((outI))) ((outI))) (((getI y1190.2.1 y1190.1)).bind fun r1229 => ((appC r1195 [r1192])).bind fun r1230 => ((appC r1229 [r1194])).bind fun r1231 => ((getI y1190.2.2 y1190.1)).bind fun r1232 => cond (decide (y1190.1 = y1190.1)) (((setI y1190.2.2 y1190.1 r1230)).bind fun r1233 => ((getI y1190.2.1 y1190.1)).bind fun r1234 => cond (decide (y1190.1 = y1190.1)) (((setI y1190.2.1 y1190.1 r1231)).bind fun r1235 => some (.inl (r1235, r1233))) ((outI))) ((outI)))))) (agree (((getI y1190.2.1 y1190.1)).bind fun r1236 => agree (agree (((appC r1195 [r1192])).bind fun r1237 => ((appC r1236 [r1194])).bind fun r1238 => ((getI y1190.2.2 y1190.1)).bind fun r1239 => cond (decide (y1190.1 = y1190.1)) (((setI y1190.2.2 y1190.1 r1237)).bind fun r1240 => ((getI y1190.2.1 y1190.1)).bind fun r1241 => cond (decide (y1190.1 = y1190.1)) (((setI y1190.2.1 y1190.1 r1238)).bind fun r1242 => some (.inl (r1242, r1240))) ((outI))) ((outI))) (((appC r1195 [r1192])).bind fun r1243 => ((appC r1236 [r1194])).bind fun r1244 => ((getI y1190.2.2 y1190.1)).bind fun r1245 => cond (decide (y1190.1 = y1190.1)) (((setI y1190.2.2 y1190.1 r1243)).bind fun r1246 => ((getI y1190.2.1 y1190.1)).bind fun r1247 => cond (decide (y1190.1 = y1190.1)) (((setI y1190.2.1 y1190.1 r1244)).bind fun r1248 => some (.inl (r1248, r1246))) ((outI))) ((outI)))) (((appC r1195 [r1192])).bind fun r1249 => ((appC r1236 [r1194])).bind fun r1250 => ((getI y1190.2.2 y1190.1)).bind fun r1251 => cond (decide (y1190.1 = y1190.1)) (((setI y1190.2.2 y1190.1 r1249)).bind fun r1252 => ((getI y1190.2.1 y1190.1)).bind fun r1253 => cond (decide (y1190.1 = y1190.1)) (((setI y1190.2.1 y1190.1 r1250)).bind fun r1254 => some (.inl (r1254, r1252))) ((outI))) ((outI)))) (agree (agree (((appC r1195 [r1192])).bind fun r1255 => ((getI y1190.2.1 y1190.1)).bind fun r1256 => ((appC r1256 [r1194])).bind fun r1257 => ((getI y1190.2.2 y1190.1)).bind fun r1258 => cond (decide (y1190.1 = y1190.1)) (((setI y1190.2.2 y1190.1 r1255)).bind fun r1259 => ((getI y1190.2.1 y1190.1)).bind fun r1260 => cond (decide (y1190.1 = y1190.1)) (((setI y1190.2.1 y1190.1 r1257)).bind fun r1261 => some (.inl (r1261, r1259))) ((outI))) ((outI))) (((getI y1190.2.1 y1190.1)).bind fun r1262 => ((appC r1195 [r1192])).bind fun r1263 => ((appC r1262 [r1194])).bind fun r1264 => ((getI y1190.2.2 y1190.1)).bind fun r1265 => cond (decide (y1190.1 = y1190.1)) (((setI y1190.2.2 y1190.1 r1263)).bind fun r1266 => ((getI y1190.2.1 y1190.1)).bind fun r1267 => cond (decide (y1190.1 = y1190.1)) (((setI y1190.2.1 y1190.1 r1264)).bind fun r1268 => some (.inl (r1268, r1266))) ((outI))) ((outI)))) (((getI y1190.2.1 y1190.1)).bind fun r1269 => ((appC r1195 [r1192])).bind fun r1270 => ((appC r1269 [r1194])).bind fun r1271 => ((getI y1190.2.2 y1190.1)).bind fun r1272 => cond (decide (y1190.1 = y1190.1)) (((setI y1190.2.2 y1190.1 r1270)).bind fun r1273 => ((getI y1190.2.1 y1190.1)).bind fun r1274 => cond (decide (y1190.1 = y1190.1)) (((setI y1190.2.1 y1190.1 r1271)).bind fun r1275 => some (.inl (r1275, r1273))) ((outI))) ((outI)))))) (agree (agree (((getI y1190.2.2 y1190.1)).bind fun r1276 => agree (((appC r1276 [r1192])).bind fun r1277 => agree (((getI y1190.2.1 y1190.1)).bind fun r1278 => ((appC r1278 [r1194])).bind fun r1279 => ((getI y1190.2.2 y1190.1)).bind fun r1280 => cond (decide (y1190.1 = y1190.1)) (((setI y1190.2.2 y1190.1 r1277)).bind fun r1281 => ((getI y1190.2.1 y1190.1)).bind fun r1282 => cond (decide (y1190.1 = y1190.1)) (((setI y1190.2.1 y1190.1 r1279)).bind fun r1283 => some (.inl (r1283, r1281))) ((outI))) ((outI))) (((getI y1190.2.1 y1190.1)).bind fun r1284 => ((appC r1284 [r1194])).bind fun r1285 => ((getI y1190.2.2 y1190.1)).bind fun r1286 => cond (decide (y1190.1 = y1190.1)) (((setI y1190.2.2 y1190.1 r1277)).bind fun r1287 => ((getI y1190.2.1 y1190.1)).bind fun r1288 => cond (decide (y1190.1 = y1190.1)) (((setI y1190.2.1 y1190.1 r1285)).bind fun r1289 => some (.inl (r1289, r1287))) ((outI))) ((outI)))) (agree (((getI y1190.2.1 y1190.1)).bind fun r1290 => agree (((appC r1276 [r1192])).bind fun r1291 => ((appC r1290 [r1194])).bind fun r1292 => ((getI y1190.2.2 y1190.1)).bind fun r1293 => cond (decide (y1190.1 = y1190.1)) (((setI y1190.2.2 y1190.1 r1291)).bind fun r1294 => ((getI y1190.2.1 y1190.1)).bind fun r1295 => cond (decide (y1190.1 = y1190.1)) (((setI y1190.2.1 y1190.1 r1292)).bind fun r1296 => some (.inl (r1296, r1294))) ((outI))) ((outI))) (((appC r1276 [r1192])).bind fun r1297 => ((appC r1290 [r1194])).bind fun r1298 => ((getI y1190.2.2 y1190.1)).bind fun r1299 => cond (decide (y1190.1 = y1190.1)) (((setI y1190.2.2 y1190.1 r1297)).bind fun r1300 => ((getI y1190.2.1 y1190.1)).bind fun r1301 => cond (decide (y1190.1 = y1190.1)) (((setI y1190.2.1 y1190.1 r1298)).bind fun r1302 => some (.inl (r1302, r1300))) ((outI))) ((outI)))) (agree (((appC r1276 [r1192])).bind fun r1303 => ((getI y1190.2.1 y1190.1)).bind fun r1304 => ((appC r1304 [r1194])).bind fun r1305 => ((getI y1190.2.2 y1190.1)).bind fun r1306 => cond (decide (y1190.1 = y1190.1)) (((setI y1190.2.2 y1190.1 r1303)).bind fun r1307 => ((getI y1190.2.1 y1190.1)).bind fun r1308 => cond (decide (y1190.1 = y1190.1)) (((setI y1190.2.1 y1190.1 r1305)).bind fun r1309 => some (.inl (r1309, r1307))) ((outI))) ((outI))) (((getI y1190.2.1 y1190.1)).bind fun r1310 => ((appC r1276 [r1192])).bind fun r1311 => ((appC r1310 [r1194])).bind fun r1312 => ((getI y1190.2.2 y1190.1)).bind fun r1313 => cond (decide (y1190.1 = y1190.1)) (((setI y1190.2.2 y1190.1 r1311)).bind fun r1314 => ((getI y1190.2.1 y1190.1)).bind fun r1315 => cond (decide (y1190.1 = y1190.1)) (((setI y1190.2.1 y1190.1 r1312)).bind fun r1316 => some (.inl (r1316, r1314))) ((outI))) ((outI)))))) (agree (((getI y1190.2.1 y1190.1)).bind fun r1317 => agree (((getI y1190.2.2 y1190.1)).bind fun r1318 => agree (((appC r1318 [r1192])).bind fun r1319 => ((appC r1317 [r1194])).bind fun r1320 => ((getI y1190.2.2 y1190.1)).bind fun r1321 => cond (decide (y1190.1 = y1190.1)) (((setI y1190.2.2 y1190.1 r1319)).bind fun r1322 => ((getI y1190.2.1 y1190.1)).bind fun r1323 => cond (decide (y1190.1 = y1190.1)) (((setI y1190.2.1 y1190.1 r1320)).bind fun r1324 => some (.inl (r1324, r1322))) ((outI))) ((outI))) (((appC r1318 [r1192])).bind fun r1325 => ((appC r1317 [r1194])).bind fun r1326 => ((getI y1190.2.2 y1190.1)).bind fun r1327 => cond (decide (y1190.1 = y1190.1)) (((setI y1190.2.2 y1190.1 r1325)).bind fun r1328 => ((getI y1190.2.1 y1190.1)).bind fun r1329 => cond (decide (y1190.1 = y1190.1)) (((setI y1190.2.1 y1190.1 r1326)).bind fun r1330 => some (.inl (r1330, r1328))) ((outI))) ((outI)))) (((getI y1190.2.2 y1190.1)).bind fun r1331 => ((appC r1331 [r1192])).bind fun r1332 => ((appC r1317 [r1194])).bind fun r1333 => ((getI y1190.2.2 y1190.1)).bind fun r1334 => cond (decide (y1190.1 = y1190.1)) (((setI y1190.2.2 y1190.1 r1332)).bind fun r1335 => ((getI y1190.2.1 y1190.1)).bind fun r1336 => cond (decide (y1190.1 = y1190.1)) (((setI y1190.2.1 y1190.1 r1333)).bind fun r1337 => some (.inl (r1337, r1335))) ((outI))) ((outI)))) (agree (((getI y1190.2.2 y1190.1)).bind fun r1338 => agree (((appC r1338 [r1192])).bind fun r1339 => ((getI y1190.2.1 y1190.1)).bind fun r1340 => ((appC r1340 [r1194])).bind fun r1341 => ((getI y1190.2.2 y1190.1)).bind fun r1342 => cond (decide (y1190.1 = y1190.1)) (((setI y1190.2.2 y1190.1 r1339)).bind fun r1343 => ((getI y1190.2.1 y1190.1)).bind fun r1344 => cond (decide (y1190.1 = y1190.1)) (((setI y1190.2.1 y1190.1 r1341)).bind fun r1345 => some (.inl (r1345, r1343))) ((outI))) ((outI))) (((getI y1190.2.1 y1190.1)).bind fun r1346 => ((appC r1338 [r1192])).bind fun r1347 => ((appC r1346 [r1194])).bind fun r1348 => ((getI y1190.2.2 y1190.1)).bind fun r1349 => cond (decide (y1190.1 = y1190.1)) (((setI y1190.2.2 y1190.1 r1347)).bind fun r1350 => ((getI y1190.2.1 y1190.1)).bind fun r1351 => cond (decide (y1190.1 = y1190.1)) (((setI y1190.2.1 y1190.1 r1348)).bind fun r1352 => some (.inl (r1352, r1350))) ((outI))) ((outI)))) (((getI y1190.2.1 y1190.1)).bind fun r1353 => ((getI y1190.2.2 y1190.1)).bind fun r1354 => ((appC r1354 [r1192])).bind fun r1355 => ((appC r1353 [r1194])).bind fun r1356 => ((getI y1190.2.2 y1190.1)).bind fun r1357 => cond (decide (y1190.1 = y1190.1)) (((setI y1190.2.2 y1190.1 r1355)).bind fun r1358 => ((getI y1190.2.1 y1190.1)).bind fun r1359 => cond (decide (y1190.1 = y1190.1)) (((setI y1190.2.1 y1190.1 r1356)).bind fun r1360 => some (.inl (r1360, r1358))) ((outI))) ((outI)))))) (agree (((getI y1190.2.1 y1190.1)).bind fun r1361 => agree (((getI y1190.2.2 y1190.1)).bind fun r1362 => agree (agree (((appC r1362 [r1192])).bind fun r1363 => ((appC r1361 [r1194])).bind fun r1364 => ((getI y1190.2.2 y1190.1)).bind fun r1365 => cond (decide (y1190.1 = y1190.1)) (((setI y1190.2.2 y1190.1 r1363)).bind fun r1366 => ((getI y1190.2.1 y1190.1)).bind fun r1367 => cond (decide (y1190.1 = y1190.1)) (((setI y1190.2.1 y1190.1 r1364)).bind fun r1368 => some (.inl (r1368, r1366))) ((outI))) ((outI))) (((appC r1362 [r1192])).bind fun r1369 => ((appC r1361 [r1194])).bind fun r1370 => ((getI y1190.2.2 y1190.1)).bind fun r1371 => cond (decide (y1190.1 = y1190.1)) (((setI y1190.2.2 y1190.1 r1369)).bind fun r1372 => ((getI y1190.2.1 y1190.1)).bind fun r1373 => cond (decide (y1190.1 = y1190.1)) (((setI y1190.2.1 y1190.1 r1370)).bind fun r1374 => some (.inl (r1374, r1372))) ((outI))) ((outI)))) (((appC r1362 [r1192])).bind fun r1375 => ((appC r1361 [r1194])).bind fun r1376 => ((getI y1190.2.2 y1190.1)).bind fun r1377 => cond (decide (y1190.1 = y1190.1)) (((setI y1190.2.2 y1190.1 r1375)).bind fun r1378 => ((getI y1190.2.1 y1190.1)).bind fun r1379 => cond (decide (y1190.1 = y1190.1)) (((setI y1190.2.1 y1190.1 r1376)).bind fun r1380 => some (.inl (r1380, r1378))) ((outI))) ((outI)))) (agree (agree (((getI y1190.2.2 y1190.1)).bind fun r1381 => agree (((appC r1381 [r1192])).bind fun r1382 => ((appC r1361 [r1194])).bind fun r1383 => ((getI y1190.2.2 y1190.1)).bind fun r1384 => cond (decide (y1190.1 = y1190.1)) (((setI y1190.2.2 y1190.1 r1382)).bind fun r1385 => ((getI y1190.2.1 y1190.1)).bind fun r1386 => cond (decide (y1190.1 = y1190.1)) (((setI y1190.2.1 y1190.1 r1383)).bind fun r1387 => some (.inl (r1387, r1385))) ((outI))) ((outI))) (((appC r1381 [r1192])).bind fun r1388 => ((appC r1361 [r1194])).bind fun r1389 => ((getI y1190.2.2 y1190.1)).bind fun r1390 => cond (decide (y1190.1 = y1190.1)) (((setI y1190.2.2 y1190.1 r1388)).bind fun r1391 => ((getI y1190.2.1 y1190.1)).bind fun r1392 => cond (decide (y1190.1 = y1190.1)) (((setI y1190.2.1 y1190.1 r1389)).bind fun r1393 => some (.inl (r1393, r1391))) ((outI))) ((outI)))) (((getI y1190.2.2 y1190.1)).bind fun r1394 => ((appC r1394 [r1192])).bind fun r1395 => ((appC r1361 [r1194])).bind fun r1396 => ((getI y1190.2.2 y1190.1)).bind fun r1397 => cond (decide (y1190.1 = y1190.1)) (((setI y1190.2.2 y1190.1 r1395)).bind fun r1398 => ((getI y1190.2.1 y1190.1)).bind fun r1399 => cond (decide (y1190.1 = y1190.1)) (((setI y1190.2.1 y1190.1 r1396)).bind fun r1400 => some (.inl (r1400, r1398))) ((outI))) ((outI)))) (agree (((getI y1190.2.2 y1190.1)).bind fun r1401 => ((appC r1401 [r1192])).bind fun r1402 => ((appC r1361 [r1194])).bind fun r1403 => ((getI y1190.2.2 y1190.1)).bind fun r1404 => cond (decide (y1190.1 = y1190.1)) (((setI y1190.2.2 y1190.1 r1402)).bind fun r1405 => ((getI y1190.2.1 y1190.1)).bind fun r1406 => cond (decide (y1190.1 = y1190.1)) (((setI y1190.2.1 y1190.1 r1403)).bind fun r1407 => some (.inl (r1407, r1405))) ((outI))) ((outI))) (((getI y1190.2.2 y1190.1)).bind fun r1408 => ((appC r1408 [r1192])).bind fun r1409 => ((appC r1361 [r1194])).bind fun r1410 => ((getI y1190.2.2 y1190.1)).bind fun r1411 => cond (decide (y1190.1 = y1190.1)) (((setI y1190.2.2 y1190.1 r1409)).bind fun r1412 => ((getI y1190.2.1 y1190.1)).bind fun r1413 => cond (decide (y1190.1 = y1190.1)) (((setI y1190.2.1 y1190.1 r1410)).bind fun r1414 => some (.inl (r1414, r1412))) ((outI))) ((outI)))))) (agree (((getI y1190.2.2 y1190.1)).bind fun r1415 => agree (agree (((appC r1415 [r1192])).bind fun r1416 => ((getI y1190.2.1 y1190.1)).bind fun r1417 => ((appC r1417 [r1194])).bind fun r1418 => ((getI y1190.2.2 y1190.1)).bind fun r1419 => cond (decide (y1190.1 = y1190.1)) (((setI y1190.2.2 y1190.1 r1416)).bind fun r1420 => ((getI y1190.2.1 y1190.1)).bind fun r1421 => cond (decide (y1190.1 = y1190.1)) (((setI y1190.2.1 y1190.1 r1418)).bind fun r1422 => some (.inl (r1422, r1420))) ((outI))) ((outI))) (((getI y1190.2.1 y1190.1)).bind fun r1423 => ((appC r1415 [r1192])).bind fun r1424 => ((appC r1423 [r1194])).bind fun r1425 => ((getI y1190.2.2 y1190.1)).bind fun r1426 => cond (decide (y1190.1 = y1190.1)) (((setI y1190.2.2 y1190.1 r1424)).bind fun r1427 => ((getI y1190.2.1 y1190.1)).bind fun r1428 => cond (decide (y1190.1 = y1190.1)) (((setI y1190.2.1 y1190.1 r1425)).bind fun r1429 => some (.inl (r1429, r1427))) ((outI))) ((outI)))) (((getI y1190.2.1 y1190.1)).bind fun r1430 => ((appC r1415 [r1192])).bind fun r1431 => ((appC r1430 [r1194])).bind fun r1432 => ((getI y1190.2.2 y1190.1)).bind fun r1433 => cond (decide (y1190.1 = y1190.1)) (((setI y1190.2.2 y1190.1 r1431)).bind fun r1434 => ((getI y1190.2.1 y1190.1)).bind fun r1435 => cond (decide (y1190.1 = y1190.1)) (((setI y1190.2.1 y1190.1 r1432)).bind fun r1436 => some (.inl (r1436, r1434))) ((outI))) ((outI)))) (agree (agree (((getI y1190.2.2 y1190.1)).bind fun r1437 => agree (((appC r1437 [r1192])).bind fun r1438 => ((getI y1190.2.1 y1190.1)).bind fun r1439 => ((appC r1439 [r1194])).bind fun r1440 => ((getI y1190.2.2 y1190.1)).bind fun r1441 => cond (decide (y1190.1 = y1190.1)) (((setI y1190.2.2 y1190.1 r1438)).bind fun r1442 => ((getI y1190.2.1 y1190.1)).bind fun r1443 => cond (decide (y1190.1 = y1190.1)) (((setI y1190.2.1 y1190.1 r1440)).bind fun r1444 => some (.inl (r1444, r1442))) ((outI))) ((outI))) (((getI y1190.2.1 y1190.1)).bind fun r1445 => ((appC r1437 [r1192])).bind fun r1446 => ((appC r1445 [r1194])).bind fun r1447 => ((getI y1190.2.2 y1190.1)).bind fun r1448 => cond (decide (y1190.1 = y1190.1)) (((setI y1190.2.2 y1190.1 r1446)).bind fun r1449 => ((getI y1190.2.1 y1190.1)).bind fun r1450 => cond (decide (y1190.1 = y1190.1)) (((setI y1190.2.1 y1190.1 r1447)).bind fun r1451 => some (.inl (r1451, r1449))) ((outI))) ((outI)))) (((getI y1190.2.1 y1190.1)).bind fun r1452 => ((getI y1190.2.2 y1190.1)).bind fun r1453 => ((appC r1453 [r1192])).bind fun r1454 => ((appC r1452 [r1194])).bind fun r1455 => ((getI y1190.2.2 y1190.1)).bind fun r1456 => cond (decide (y1190.1 = y1190.1)) (((setI y1190.2.2 y1190.1 r1454)).bind fun r1457 => ((getI y1190.2.1 y1190.1)).bind fun r1458 => cond (decide (y1190.1 = y1190.1)) (((setI y1190.2.1 y1190.1 r1455)).bind fun r1459 => some (.inl (r1459, r1457))) ((outI))) ((outI)))) (((getI y1190.2.1 y1190.1)).bind fun r1460 => agree (((getI y1190.2.2 y1190.1)).bind fun r1461 => ((appC r1461 [r1192])).bind fun r1462 => ((appC r1460 [r1194])).bind fun r1463 => ((getI y1190.2.2 y1190.1)).bind fun r1464 => cond (decide (y1190.1 = y1190.1)) (((setI y1190.2.2 y1190.1 r1462)).bind fun r1465 => ((getI y1190.2.1 y1190.1)).bind fun r1466 => cond (decide (y1190.1 = y1190.1)) (((setI y1190.2.1 y1190.1 r1463)).bind fun r1467 => some (.inl (r1467, r1465))) ((outI))) ((outI))) (((getI y1190.2.2 y1190.1)).bind fun r1468 => ((appC r1468 [r1192])).bind fun r1469 => ((appC r1460 [r1194])).bind fun r1470 => ((getI y1190.2.2 y1190.1)).bind fun r1471 => cond (decide (y1190.1 = y1190.1)) (((setI y1190.2.2 y1190.1 r1469)).bind fun r1472 => ((getI y1190.2.1 y1190.1)).bind fun r1473 => cond (decide (y1190.1 = y1190.1)) (((setI y1190.2.1 y1190.1 r1470)).bind fun r1474 => some (.inl (r1474, r1472))) ((outI))) ((outI)))))))))
theorem G38_form (lf : Nat) (x : ((ByteArray × (Yf × Yr)) × (Int × Yf))) : G38 lf x =
  jn (((G31 lf (x.1.1, (x.1.2.1, x.1.2.2)))).bind fun r1059 => cond (!(decide (r1059 = (0 : Int)))) (some (.inl r1059)) (((G91 lf (x.2.1, ((0 : Int), (100000 : Int))))).bind fun r1060 => cond (!r1060) (some (.inl (45 : Int))) (((G173 lf ((x.1.1, (x.1.2.1, x.1.2.2)), x.2.2))).bind fun r1061 => cond (!r1061) (some (.inl (44 : Int))) (some (.inl (0 : Int)))))) (fun y1062 : Int => cond (!(decide (y1062 = (0 : Int)))) (some (([] : List (Int × (Int × Int))), y1062)) (jn (M38 x.1.2.2) (fun y1177 : ((List (List Bool)) × (List (List Bool))) => ((G131 lf ())).bind fun r1178 => ((G116 lf (x.1.1, (x.1.2.1, x.1.2.2)))).bind fun r1179 => ((G115 lf (x.2.2, r1179))).bind fun r1180 => ((mkC (r1180.length : Int) (0 : Int))).bind fun r1181 => iter lf (fun y1182 : ((List Int) × ((List (List Bool)) × (List (List Bool)))) => iter lf (fun y1183 : ((List Int) × Int) => cond (decide (y1183.2 < (y1182.1.length : Int))) (((getI y1182.1 y1183.2)).bind fun r1184 => ((getI y1182.1 y1183.2)).bind fun r1185 => ((getI r1180 y1183.2)).bind fun r1186 => ((getI r1186 r1185)).bind fun r1187 => ((appC y1183.1 [r1187])).bind fun r1188 => some (.inl (r1188, (w64 (y1183.2 + (1 : Int)))))) (outR (((G130 lf ((x.1.1, (x.1.2.1, x.1.2.2)), (x.2.1, (y1183.1, ()))))).bind fun r1189 => iter lf (fun y1190 : (Int × ((List (List Bool)) × (List (List Bool)))) => cond (decide (y1190.1 < (x.1.2.2.length : Int))) (jn (J38 r1189 y1190) (fun y1475 : ((List (List Bool)) × (List (List Bool))) => some (.inl ((w64 (y1190.1 + (1 : Int))), (y1475.1, y1475.2))))) (outR (jn (iter lf (fun y1476 : (Int × (List Int)) => cond (decide (y1476.1 ≥ (0 : Int))) (((getI y1476.2 y1476.1)).bind fun r1477 => ((getI y1476.2 y1476.1)).bind fun r1478 => ((getI r1180 y1476.1)).bind fun r1479 => cond (decide (r1478 = (w64 ((r1479.length : Int) - (1 : Int))))) (((getI y1476.2 y1476.1)).bind fun r1480 => ((getI y1476.2 y1476.1)).bind fun r1481 => ((setI y1476.2 y1476.1 (0 : Int))).bind fun r1482 => some (.inl ((w64 (y1476.1 - (1 : Int))), r1482))) (some (.inr (.inl (y1476.1, y1476.2))))) (some (.inr (.inl (y1476.1, y1476.2))))) ((w64 ((r1180.length : Int) - (1 : Int))), y1182.1)) (fun y1483 : (Int × (List Int)) => cond (decide (y1483.1 < (0 : Int))) (outR (iter lf (fun y1484 : ((List (Int × (Int × Int))) × (Int × ((List (List Bool)) × (List (List Bool))))) => cond (decide (y1484.2.1 < (x.1.2.2.length : Int))) (((getI y1484.2.2.1 y1484.2.1)).bind fun r1485 => ((getI y1484.2.2.2 y1484.2.1)).bind fun r1486 => ((G125 lf r1485)).bind fun r1487 => ((G125 lf r1486)).bind fun r1488 => ((appC y1484.1 [(y1484.2.1, (r1487, r1488))])).bind fun r1489 => some (.inl (r1489, ((w64 (y1484.2.1 + (1 : Int))), (y1484.2.2.1, y1484.2.2.2))))) (some (.inr (y1484.1, (0 : Int))))) (([] : List (Int × (Int × Int))), ((0 : Int), (y1190.2.2, y1190.2.1))))) (((getI y1483.2 y1483.1)).bind fun r1490 => ((getI y1483.2 y1483.1)).bind fun r1491 => ((getI y1483.2 y1483.1)).bind fun r1492 => ((getI y1483.2 y1483.1)).bind fun r1493 => ((setI y1483.2 y1483.1 (w64 (r1491 + (1 : Int))))).bind fun r1494 => some (.inl (r1494, (y1190.2.1, y1190.2.2)))))))) ((0 : Int), (y1182.2.1, y1182.2.2))))) (([] : List Int), (0 : Int))) (r1181, (y1177.2, y1177.1))))) := rfl
end Go.K
namespace Go.K
open Go.Sl Go.Sx Go.Proofs
theorem setI_nt {α : Type} {l : List α} {i : Nat} {x : α} (h : i < l.length) : setI l (i : Int) x = some (l.set i x) := by
  unfold setI
  rw [if_pos (by omega)]
  simp
theorem getD_upd {α : Type} (l : List α) (i j : Nat) (v d : α) (h : i < l.length) : (l.set i v).getD j d = if j = i then v else l.getD j d := by
  simp only [List.getD_eq_getElem?_getD, List.getElem?_set]
  by_cases e : i = j
  · subst e; simp [h]
  · simp [e, show ¬ j = i from fun q => e q.symm]
def updR (X : List (List Bool)) (i : Nat) (b : Bool) : List (List Bool) := X.set i (X.getD i [] ++ [b])
def addR (X : List (List Bool)) (b : List Bool) : List (List Bool) := (List.range X.length).map fun i => X.getD i [] ++ [b.getD i false]
def rowsB (m : Nat) (P : List (List Bool)) : List (List Bool) := (List.range m).map fun i => P.map fun b => b.getD i false
theorem foldI_two {σ A B : Type} (g : σ → Nat → A → A) (h : σ → Nat → B → B) : ∀ (l : List σ) (i : Nat) (a : A) (b : B), foldI (fun x i (s : A × B) => (g x i s.1, h x i s.2)) l i (a, b) = (foldI g l i a, foldI h l i b)
  | [], _, _, _ => rfl
  | x :: l, i, a, b => by simp only [foldI]; exact foldI_two g h l (i + 1) _ _
theorem upd_len (b : List Bool) : ∀ (l : List Rl) (i : Nat) (X : List (List Bool)), (foldI (fun _ i X => updR X i (b.getD i false)) l i X).length = X.length
  | [], _, _ => rfl
  | r :: l, i, X => by
    simp only [foldI]
    rw [upd_len b l (i + 1)]
    simp [updR]
theorem upd_get (b : List Bool) : ∀ (l : List Rl) (i : Nat) (X : List (List Bool)) (j : Nat), i + l.length = X.length → (foldI (fun _ i X => updR X i (b.getD i false)) l i X).getD j [] = if i ≤ j ∧ j < X.length then X.getD j [] ++ [b.getD j false] else X.getD j []
  | [], i, X, j, h => by
    simp only [List.length_nil, Nat.add_zero] at h
    rw [if_neg (by omega)]; rfl
  | r :: l, i, X, j, h => by
    simp only [List.length_cons] at h
    have hlen : (updR X i (b.getD i false)).length = X.length := by simp [updR]
    simp only [foldI]
    rw [upd_get b l (i + 1) _ j (by rw [hlen]; omega), hlen]
    unfold updR
    rw [getD_upd _ _ _ _ _ (by omega)]
    by_cases e : j = i
    · subst e
      simp [show j < X.length by omega, Nat.not_succ_le_self]
    · rw [if_neg e]
      by_cases q : i ≤ j ∧ j < X.length
      · rw [if_pos q, if_pos (by omega)]
      · rw [if_neg q, if_neg (by omega)]
theorem upd_all (b : List Bool) (l : List Rl) (X : List (List Bool)) (h : l.length = X.length) : foldI (fun _ i X => updR X i (b.getD i false)) l 0 X = addR X b := by
  refine List.ext_getElem (by rw [upd_len]; simp [addR]) fun j h1 h2 => ?_
  have hj : j < X.length := by rw [upd_len] at h1; exact h1
  have := upd_get b l 0 X j (by omega)
  rw [if_pos ⟨Nat.zero_le _, hj⟩, List.getD_eq_getElem?_getD, List.getElem?_eq_getElem h1] at this
  simp only [Option.getD_some] at this
  rw [this]
  simp [addR]
theorem addR_rows (m : Nat) (P : List (List Bool)) (b : List Bool) : addR (rowsB m P) b = rowsB m (P ++ [b]) := by
  unfold addR
  have e : (rowsB m P).length = m := by simp [rowsB]
  rw [e]
  show _ = (List.range m).map _
  refine List.map_congr_left fun i hi => ?_
  have hi := List.mem_range.1 hi
  have : (rowsB m P).getD i [] = P.map fun b => b.getD i false := by
    rw [List.getD_eq_getElem?_getD]
    simp [rowsB, hi]
  rw [this]
  simp
theorem fold_rows {V : Type} (g h : V → List Bool) (m : Nat) : ∀ (l : List V) (P Q : List (List Bool)), l.foldl (fun (s : List (List Bool) × List (List Bool)) v => (addR s.1 (g v), addR s.2 (h v))) (rowsB m P, rowsB m Q) = (rowsB m (P ++ l.map g), rowsB m (Q ++ l.map h))
  | [], P, Q => by simp
  | v :: l, P, Q => by
    rw [List.foldl_cons]
    simp only [addR_rows]
    rw [fold_rows g h m l]
    simp
theorem rows_nil (m : Nat) : List.replicate m ([] : List Bool) = rowsB m [] := by
  simp [rowsB]
  induction m with
  | zero => rfl
  | succ m ih => rw [List.replicate_succ', List.range_succ, List.map_append, ih]; rfl
theorem mkC_rows (m : Nat) (h : m ≤ 1000) : mkC (m : Int) ([] : List Bool) = some (rowsB m []) := by
  unfold mkC
  rw [if_pos (by omega), Int.toNat_natCast, rows_nil]
theorem foldI_app {σ B : Type} (g : Nat → B) : ∀ (l : List σ) (i : Nat) (a : List B), foldI (fun _ i a => a ++ [g i]) l i a = a ++ (List.range' i l.length).map g
  | [], i, a => by simp [foldI]
  | x :: l, i, a => by
    simp only [foldI]
    rw [foldI_app g l (i + 1)]
    simp [List.range'_succ]
def judgeA (c : Cd) (d : Int) (f : List Fct) : List (Int × (Int × Int)) := (List.range c.2.2.length).map fun i : Nat =>
  ((i : Int), (ansL ((casesL c f).map fun v => (bindsL c d v).getD i false), ansL ((casesL c f).map fun v => (keptL c d v).getD i false)))
def goodR (m n : Nat) (X : List (List Bool)) : Prop := X.length = m ∧ ∀ j, j < m → (X.getD j []).length = n
theorem goodR_add {m n : Nat} {X : List (List Bool)} (h : goodR m n X) (b : List Bool) : goodR m (n + 1) (addR X b) := by
  obtain ⟨h1, h2⟩ := h
  refine ⟨by simp [addR, h1], fun j hj => ?_⟩
  have : (addR X b).getD j [] = X.getD j [] ++ [b.getD j false] := by
    rw [List.getD_eq_getElem?_getD]
    simp [addR, h1, hj]
  rw [this, List.length_append, h2 j hj]; rfl
theorem upd_ok {m n i : Nat} {X : List (List Bool)} (h : X.length = m ∧ (∀ j, j < m → (X.getD j []).length ≤ n + i)) (hi : i < m) (b : Bool) : (updR X i b).length = m ∧ ∀ j, j < m → ((updR X i b).getD j []).length ≤ n + (i + 1) := by
  obtain ⟨h1, h2⟩ := h
  refine ⟨by simp [updR, h1], fun j hj => ?_⟩
  unfold updR
  rw [getD_upd _ _ _ _ _ (by omega)]
  split
  · have := h2 i hi
    rw [List.length_append, List.length_singleton]; omega
  · have := h2 j hj
    omega
theorem M38_eq (l : List Rl) (h : l.length ≤ 1000) : M38 l = some (.inl (rowsB l.length [], rowsB l.length [])) := by
  unfold M38
  simp only [mkC_rows l.length h, Option.bind_some, agree_self]
theorem J38_eq {b k : List Bool} {a1 a2 : RR} {i : Nat} (h1 : i < a1.length) (h2 : i < a2.length) (h3 : i < b.length) (h4 : i < k.length) (l1 : (a1.getD i []).length ≤ 5000) (l2 : (a2.getD i []).length ≤ 5000) :
    J38 (b, k) ((i : Int), (a1, a2)) = some (.inl (updR a1 i (k.getD i false), updR a2 i (b.getD i false))) := by
  have e1 := getI_getD (l := a1) (n := i) [] h1
  have e2 := getI_getD (l := a2) (n := i) [] h2
  have e3 := getI_getD (l := b) (n := i) false h3
  have e4 := getI_getD (l := k) (n := i) false h4
  have e5 := appC_of (show (a1.getD i []).length + [k.getD i false].length ≤ 1099511627776 by rw [List.length_singleton]; omega)
  have e6 := appC_of (show (a2.getD i []).length + [b.getD i false].length ≤ 1099511627776 by rw [List.length_singleton]; omega)
  have e7 := fun x => setI_nt (x := x) h1
  have e8 := fun x => setI_nt (x := x) h2
  unfold J38 updR
  generalize a1.getD i [] = r1 at *
  generalize a2.getD i [] = r2 at *
  generalize k.getD i false = v1 at *
  generalize b.getD i false = v2 at *
  simp only [e1, e2, e3, e4, e5, e6, e7, e8, Option.bind_some, decide_true, cond_true, agree_self]
theorem G38_judge (c : Cd) (d : Int) (f : List Fct) : G38 LF (c, (d, f)) = some (if askE c d f = 0 then (judgeA c d f, 0) else ([], askE c d f)) := by
  rw [G38_form, asked_P (c.1, (c.2.1, c.2.2)) d f]
  by_cases he : askE c d f = 0
  · obtain ⟨h, h2, h3⟩ := ask_ok he
    have hf := VF.of h h3
    have hfl := h.fl
    have hll := h.ll
    have hfn := hf.ln
    have hls := starts_len f (condsL c.2.2)
    simp only [he, decide_true, Bool.not_true, cond_false, if_true, M38_eq c.2.2 (by omega), Option.bind_some, jl, show G131 LF () = some () by rfl, G116_conds _ _ _ (show c.2.2.length ≤ 1000 by omega), G115_starts _ _ (show f.length ≤ 1000 by omega) (show (condsL c.2.2).length ≤ 1000 by have := h.cl; omega) h.cs, mkC_zer _ (show (startsL f (condsL c.2.2)).length ≤ 1000 by omega)]
    refine (iter_odo (fun i (s : List (List Bool) × List (List Bool)) => (i, (s.1, s.2))) (startsL f (condsL c.2.2)) (starts_ne _ _) (fun v s => .inl (addR s.1 (keptL c d v), addR s.2 (bindsL c d v))) (fun n s => goodR c.2.2.length n s.1 ∧ goodR c.2.2.length n s.2)
      (fun s => some ((List.range c.2.2.length).map fun i : Nat => ((i : Int), (ansL (s.2.getD i []), ansL (s.1.getD i []))), (0 : Int))) ?_ ?_ (by have := hf.cs; show _ < 9223372036854775808; omega) (rowsB c.2.2.length [], rowsB c.2.2.length []) ?_).trans ?_
    · intro k s n hk hv hn hs
      obtain ⟨A, B⟩ := s
      have hcs := hf.cs
      have hvl := hf.vlen hv
      have hkl : (keptL c d (valsI (startsL f (condsL c.2.2)) k)).length = c.2.2.length := keptL_len _ _ _
      have hbl : (bindsL c d (valsI (startsL f (condsL c.2.2)) k)).length = c.2.2.length := bindsL_len _ _ _
      refine vals_of hk (show (startsL f (condsL c.2.2)).length ≤ 1000 by omega) (fun a i hi => by simp only [castN_lt hi, cond_true]) ?_
      simp only [dnlt, cond_false]
      congr 1
      simp only [G130_judge (c := (c.1, (c.2.1, c.2.2))) h hvl, Option.bind_some]
      obtain ⟨hA, hB⟩ := hs
      simp only at hA hB
      refine (iter_foldI (fun i (a : List (List Bool) × List (List Bool)) => (i, (a.1, a.2))) (fun (_ : Rl) i a => (updR a.1 i ((keptL c d (valsI (startsL f (condsL c.2.2)) k)).getD i false), updR a.2 i ((bindsL c d (valsI (startsL f (condsL c.2.2)) k)).getD i false)))
        (fun i a => (a.1.length = c.2.2.length ∧ ∀ j, j < c.2.2.length → (a.1.getD j []).length ≤ n + i) ∧ (a.2.length = c.2.2.length ∧ ∀ j, j < c.2.2.length → (a.2.getD j []).length ≤ n + i)) c.2.2
        (fun a => match nxt (startsL f (condsL c.2.2)) k with
          | some k' => some (.inl (castN k', (a.1, a.2)))
          | none => outR (some ((List.range c.2.2.length).map fun i : Nat => ((i : Int), (ansL (a.2.getD i []), ansL (a.1.getD i []))), (0 : Int)))) (A, B) ?_ ?_ ?_ h.ll' ⟨⟨hA.1, fun j hj => Nat.le_of_eq (hA.2 j hj)⟩, ⟨hB.1, fun j hj => Nat.le_of_eq (hB.2 j hj)⟩⟩).trans ?_
      · intro i r a hr ha
        obtain ⟨a1, a2⟩ := a
        obtain ⟨⟨g1, g2⟩, ⟨g3, g4⟩⟩ := ha
        simp only at g1 g2 g3 g4
        have hi := lt_of_get hr
        have b1 := g2 i hi
        have b2 := g4 i hi
        simp only [dlt hi, cond_true, Option.bind_some, J38_eq (b := bindsL c d (valsI (startsL f (condsL c.2.2)) k)) (k := keptL c d (valsI (startsL f (condsL c.2.2)) k)) (a1 := a1) (a2 := a2) (i := i) (by omega) (by omega) (by omega) (by omega) (by omega) (by omega), jl, succ_W (show i + 1 < 9223372036854775808 by omega)]
      · intro i r a hr ha
        have hi := lt_of_get hr
        exact ⟨upd_ok ha.1 hi _, upd_ok ha.2 hi _⟩
      · intro a ha
        obtain ⟨a1, a2⟩ := a
        obtain ⟨⟨g1, g2⟩, ⟨g3, g4⟩⟩ := ha
        simp only at g1 g2 g3 g4
        simp only [dnlt, cond_false]
        congr 1
        refine (adv_of hk (show (startsL f (condsL c.2.2)).length ≤ 1000 by omega) (starts_cl f h) _ _).trans ?_
        cases nxt (startsL f (condsL c.2.2)) k with
        | some k' => rfl
        | none =>
          simp only
          congr 1
          refine (iter_foldI (fun i (a : List (Int × (Int × Int))) => (a, (i, (a2, a1)))) (fun (_ : Rl) i a => a ++ [((i : Int), (ansL (a2.getD i []), ansL (a1.getD i [])))]) (fun i a => a.length = i) c.2.2 (fun a => some (a, (0 : Int))) [] ?_ ?_ ?_ h.ll' rfl).trans ?_
          · intro i r a hr ha
            have hi := lt_of_get hr
            have b1 := g2 i hi
            have b2 := g4 i hi
            simp only [dlt hi, cond_true, getI_getD (l := a1) (n := i) [] (by omega), getI_getD (l := a2) (n := i) [] (by omega), Option.bind_some, G125_ans _ (show (a1.getD i []).length < 9223372036854775808 by omega), G125_ans _ (show (a2.getD i []).length < 9223372036854775808 by omega),
              appC_of (show a.length + [((i : Int), (ansL (a2.getD i []), ansL (a1.getD i [])))].length ≤ 1099511627776 by simp only [List.length_singleton]; omega), succ_W (show i + 1 < 9223372036854775808 by omega)]
          · intro i r a hr ha
            simp [ha]
          · intro a ha
            simp only [dnlt, cond_false]; rfl
          · rw [foldI_app (fun i : Nat => ((i : Int), (ansL (a2.getD i []), ansL (a1.getD i []))))]
            simp [List.range_eq_range']
      · rw [foldI_two (fun (_ : Rl) i X => updR X i ((keptL c d (valsI (startsL f (condsL c.2.2)) k)).getD i false)) (fun (_ : Rl) i X => updR X i ((bindsL c d (valsI (startsL f (condsL c.2.2)) k)).getD i false)), upd_all _ _ _ hA.1.symm, upd_all _ _ _ hB.1.symm]
        cases nxt (startsL f (condsL c.2.2)) k <;> rfl
    · intro v s s' n hv hn hs hst
      cases hst
      exact ⟨goodR_add hs.1 _, goodR_add hs.2 _⟩
    · have g0 : goodR c.2.2.length 0 (rowsB c.2.2.length []) := ⟨by simp [rowsB], fun j hj => by rw [List.getD_eq_getElem?_getD]; simp [rowsB, hj]⟩
      exact ⟨g0, g0⟩
    · rw [go_fold, fold_rows (keptL c d) (bindsL c d)]
      simp only [List.nil_append]
      congr 1
      unfold judgeA
      congr 1
      refine List.map_congr_left fun i hi => ?_
      have hi := List.mem_range.1 hi
      have e : ∀ P : List (List Bool), (rowsB c.2.2.length P).getD i [] = P.map fun b => b.getD i false := fun P => by
        rw [List.getD_eq_getElem?_getD]
        simp [rowsB, hi]
      simp only [e, List.map_map]
      rfl
  · simp only [he, decide_false, Bool.not_false, cond_true, if_false]
end Go.K
namespace Go.K
open Go.Sl Go.Sx Go.Proofs
theorem G45_self (l : List (Int × (Int × Int))) (hl : l.length < LF) : G45 LF (l, l) = some true := by
  unfold G45
  simp only [decide_true, Bool.not_true, cond_false]
  refine same_loop l (fun i x hx => ?_) ?_ hl
  · have hi := lt_of_get hx
    simp only [dlt hi, cond_true, getI_nat hx, Option.bind_some, decide_true, Bool.and_self, Bool.and_true, Bool.not_true, cond_false, succ_W (Nat.lt_of_le_of_lt hi hl)]
  · simp only [dnlt, cond_false]
end Go.K
namespace Go.K
open Go.Sl Go.Sx Go.Proofs
def hfS (f : List Fct) (x : Fct) (i : Nat) : Option (Int × Int) := bif !nmB x.1 || (!spanB x || (f.take i).any fun y => decide (y.1 = x.1)) then some (0, 44) else none
def holdA (f : List Fct) (x : Cnd) : Int × Int :=
  if 6 < f.length then (0, 2)
  else match scan (hfS f) f 0 with
    | some e => e
    | none => if condE f x ≠ 0 then (0, condE f x) else if manyL (startsL f [x]) > 4000 then (0, 2)
      else (ansL ((choL (startsL f [x])).map fun v => soB f v x), 0)
theorem hold_prod {f : List Fct} {x : Cnd} (hc : condE f x = 0) (hm : ¬ manyL (startsL f [x]) > 4000) : prodL (startsL f [x]) ≤ 4000 := by
  have hx := (cond_short hc).2.1
  have := many_prod (startsL f [x]) 1 (fun y hy => ⟨starts_ne _ _ y hy, by
    unfold startsL at hy
    obtain ⟨u, _, rfl⟩ := List.mem_map.1 hy
    have := cuts_len u [x] (by simp) (fun c hc => by simp only [List.mem_singleton] at hc; subst hc; omega)
    omega⟩) (by omega) (by omega) (by unfold manyL at hm; exact Int.not_lt.1 hm)
  omega
theorem cho_len2 : ∀ {ls : List (List Int)} {v : List Int}, v ∈ choL ls → v.length = ls.length
  | [], v, h => by simp only [choL, List.mem_singleton] at h; subst h; rfl
  | x :: ls, v, h => by
    simp only [choL, List.mem_flatMap, List.mem_map] at h
    obtain ⟨n, _, w, hw, rfl⟩ := h
    simp [cho_len2 hw]
theorem starts_cl1 (f : List Fct) {x : Cnd} (hx : x.length ≤ 30) : ∀ y ∈ startsL f [x], y.length < LF := by
  intro y hy
  unfold startsL at hy
  obtain ⟨u, _, rfl⟩ := List.mem_map.1 hy
  have := cuts_len u [x] (by simp) (fun c hc => by simp only [List.mem_singleton] at hc; subst hc; omega)
  show (cutsOf [x] u).length < 9223372036854775808; omega
theorem G65_holds (f : List Fct) (x : Cnd) : G65 LF (f, x) = some (holdA f x) := by
  unfold G65 holdA
  by_cases h6 : 6 < f.length
  · have : decide ((f.length : Int) > 6) = true := decide_eq_true (by omega)
    simp only [this, cond_true, h6, if_true]
  · have : decide ((f.length : Int) > 6) = false := decide_eq_false (by omega)
    have hf : f.length < LF := by show f.length < 9223372036854775808; omega
    simp only [this, cond_false, h6, if_false]
    refine (iter_scan (hfS f) f (some (if condE f x ≠ 0 then (0, condE f x) else if manyL (startsL f [x]) > 4000 then (0, 2)
      else (ansL ((choL (startsL f [x])).map fun v => soB f v x), 0))) ?_ ?_ hf).trans ?_
    · intro i u hu _
      have hi := lt_of_get hu
      have htl : (f.take i).length < LF := by rw [List.length_take]; omega
      simp only [dlt hi, cond_true, getI_nat hu, Option.bind_some, G94_nm, subI_take (Nat.le_of_lt hi), G110_plc _ _ htl, plF_nn, show G112 LF (u.1, (u.2.1, u.2.2)) = some (spanB u) from G112_span u, succ_W (Nat.lt_of_le_of_lt hi hf)]
      unfold hfS
      cases nmB u.1 with
      | false => rfl
      | true =>
        cases spanB u with
        | false => rfl
        | true => cases (f.take i).any fun y => decide (y.1 = u.1) <;> rfl
    · intro _
      simp only [dnlt, cond_false]
      refine congrArg outR ?_
      simp only [G29_cond _ _ hf, Option.bind_some]
      by_cases hc : condE f x = 0
      · have hx := (cond_short hc).2.1
        have hls := starts_len f [x]
        simp only [hc, decide_true, Bool.not_true, cond_false, ne_eq, not_true, if_false, G115_starts f [x] (by omega) (by simp) (fun c hc => by simp only [List.mem_singleton] at hc; subst hc; omega), Option.bind_some, G114_many _ (show (startsL f [x]).length ≤ 1000 by omega)]
        by_cases hm : manyL (startsL f [x]) > 4000
        · simp only [hm, decide_true, cond_true, if_true]
        · have hp := hold_prod hc hm
          rw [← choL_len] at hp
          simp only [hm, decide_false, cond_false, if_false, show G131 LF () = some () by rfl, Option.bind_some, mkC_zer _ (show (startsL f [x]).length ≤ 1000 by omega)]
          refine (iter_odo (fun i s => (i, s)) (startsL f [x]) (starts_ne _ _) (fun v s => .inl (s ++ [soB f v x])) (fun n s => s.length = n) (fun s => some (ansL s, (0 : Int))) ?_ ?_ (by show _ < 9223372036854775808; omega) [] rfl).trans ?_
          · intro k s n hk hv hn hs
            have hvl : (valsI (startsL f [x]) k).length = f.length := by rw [cho_len2 hv, hls]
            have hs' : (s ++ [soB f (valsI (startsL f [x]) k) x]).length < LF := by show _ < 9223372036854775808; simp; omega
            refine vals_of hk (show (startsL f [x]).length ≤ 1000 by omega) (fun a i hi => by simp only [castN_lt hi, cond_true]) ?_
            simp only [dnlt, cond_false]
            congr 1
            simp only [G147_so hc hvl hf, Option.bind_some, appC_of (show s.length + [soB f (valsI (startsL f [x]) k) x].length ≤ 1099511627776 by simp; omega)]
            refine (adv_of hk (show (startsL f [x]).length ≤ 1000 by omega) (starts_cl1 f hx) _ _).trans ?_
            cases nxt (startsL f [x]) k with
            | some k' => rfl
            | none =>
              simp only
              rw [G125_ans _ hs']
              rfl
          · intro v s s' n _ _ hs he
            cases he
            simp [hs]
          · rw [go_fold, fold_map]
            rfl
      · simp only [hc, decide_false, Bool.not_false, cond_true, ne_eq, not_false_eq_true, if_true]
    · cases scan (hfS f) f 0 <;> rfl
theorem G66_holds (f : List Fct) (x : Cnd) : G66 LF (f, x) = some (holdA f x) := by
  unfold G66 holdA
  by_cases h6 : 6 < f.length
  · have : decide ((f.length : Int) > 6) = true := decide_eq_true (by omega)
    simp only [this, cond_true, h6, if_true]
  · have : decide ((f.length : Int) > 6) = false := decide_eq_false (by omega)
    have hf : f.length < LF := by show f.length < 9223372036854775808; omega
    simp only [this, cond_false, h6, if_false]
    refine (iter_scan (hfS f) f (some (if condE f x ≠ 0 then (0, condE f x) else if manyL (startsL f [x]) > 4000 then (0, 2)
      else (ansL ((choL (startsL f [x])).map fun v => soB f v x), 0))) ?_ ?_ hf).trans ?_
    · intro i u hu _
      have hi := lt_of_get hu
      have hown : decide (plF f u.1 < (i : Int)) = (f.take i).any fun y => decide (y.1 = u.1) := by
        unfold plF
        rw [idx_take]
        have : (f.any fun y => decide (y.1 = u.1)) = true := List.any_eq_true.2 ⟨u, List.mem_of_getElem? hu, by simp⟩
        rw [this]; rfl
      simp only [dlt hi, cond_true, getI_nat hu, Option.bind_some, G99_nm, G111_plF _ _ hf, hown, G117_span u.1, succ_W (Nat.lt_of_le_of_lt hi hf)]
      unfold hfS
      cases nmB u.1 with
      | false => rfl
      | true =>
        cases spanB u with
        | false => rfl
        | true => cases (f.take i).any fun y => decide (y.1 = u.1) <;> rfl
    · intro _
      simp only [dnlt, cond_false]
      refine congrArg outR ?_
      simp only [G30_cond _ _ hf, Option.bind_some]
      by_cases hc : condE f x = 0
      · have hx := (cond_short hc).2.1
        have hls := starts_len f [x]
        simp only [hc, decide_true, Bool.not_true, cond_false, ne_eq, not_true, if_false, G108_starts f [x] (by omega) (by simp) (fun c hc => by simp only [List.mem_singleton] at hc; subst hc; omega), Option.bind_some, G119_many _ (show (startsL f [x]).length ≤ 1000 by omega)]
        by_cases hm : manyL (startsL f [x]) > 4000
        · simp only [hm, decide_true, cond_true, if_true]
        · have hp := hold_prod hc hm
          simp only [hm, decide_false, cond_false, if_false, G56_cho _ (starts_ne _ _) hp (show (startsL f [x]).length ≤ 1000 by omega), Option.bind_some]
          rw [← choL_len] at hp
          have hne : (choL (startsL f [x])).map (fun v => soB f v x) ≠ [] := by simpa using cho_ne (starts_ne f [x])
          refine (iter_foldI (fun i (a : Bool × Bool) => (a.1, (a.2, i))) (fun (v : List Int) _ a => bif soB f v x then (true, a.2) else (a.1, true)) (fun _ _ => True) (choL (startsL f [x])) (fun a => (G148 LF (a.1, a.2)).bind fun r => some (r, (0 : Int))) (false, false) ?_ (fun _ _ _ _ _ => trivial) ?_ (by show _ < 9223372036854775808; omega) trivial).trans ?_
          · intro i v a hv _
            have hi := lt_of_get hv
            have hvl : v.length = f.length := by rw [cho_len2 (List.mem_of_getElem? hv), hls]
            simp only [dlt hi, cond_true, getI_nat hv, Option.bind_some, G57_so hc hvl hf, succ_W (show i + 1 < 9223372036854775808 by omega)]
            cases soB f v x <;> rfl
          · intro a _
            simp only [dnlt, cond_false]
          · rw [foldI_const, yn_fold]
            simp only [Bool.false_or]
            rw [G148_ans _ hne]
            rfl
      · simp only [hc, decide_false, Bool.not_false, cond_true, ne_eq, not_false_eq_true, if_true]
    · cases scan (hfS f) f 0 <;> rfl
def askR (c : Cd) (r d : Int) (f : List Fct) : Int := if codeE c ≠ 0 then codeE c else if ¬ (0 ≤ r ∧ r < (c.2.2.length : Int)) then 47 else if ¬ (0 ≤ d ∧ d ≤ 100000) then 45 else bif !fitS c.2.1 f then 44 else 0
theorem askR_ask {c : Cd} {r d : Int} {f : List Fct} (h : askR c r d f = 0) : askE c d f = 0 ∧ 0 ≤ r ∧ r < (c.2.2.length : Int) := by
  unfold askR at h
  unfold askE
  split at h
  · rename_i h1; exact absurd h h1
  · rename_i h1
    rw [if_neg h1]
    split at h
    · cases h
    · rename_i h2
      split at h
      · cases h
      · rename_i h3
        rw [if_neg h3]
        exact ⟨h, by omega, by omega⟩
def bindA (c : Cd) (r d : Int) (f : List Fct) : Int × Int := if askR c r d f = 0 then (ansL ((casesL c f).map fun v => (bindsL c d v).getD r.toNat false), 0) else (0, askR c r d f)
theorem askedR_P {ρ : Type} (c : Cd) (r d : Int) (f : List Fct) (K : Int → Option ρ) :
    jn (((G31 LF c)).bind fun r77 => cond (!(decide (r77 = (0 : Int)))) (some (.inl r77)) (((G91 LF (r, ((0 : Int), (w64 ((c.2.2.length : Int) - (1 : Int))))))).bind fun r78 => cond (!r78) (some (.inl (47 : Int))) (((G91 LF (d, ((0 : Int), (100000 : Int))))).bind fun r79 => cond (!r79) (some (.inl (45 : Int))) (((G173 LF (c, f))).bind fun r80 => cond (!r80) (some (.inl (44 : Int))) (some (.inl (0 : Int))))))) K = K (askR c r d f) := by
  unfold askR
  simp only [G31_code, Option.bind_some]
  by_cases h : codeE c = 0
  · have hll := (VC.of h).ll
    have e1 : w64 ((c.2.2.length : Int) - 1) = (c.2.2.length : Int) - 1 := w64_in (by omega)
    simp only [h, decide_true, Bool.not_true, cond_false, G91_in, Option.bind_some, G173_fit c f (VC.of_code h), ne_eq, not_true, if_false, e1]
    by_cases h1 : 0 ≤ r ∧ r < (c.2.2.length : Int)
    · have h1' : decide (0 ≤ r ∧ r ≤ (c.2.2.length : Int) - 1) = true := decide_eq_true (by omega)
      rw [h1', if_neg (not_not_intro h1)]
      simp only [Bool.not_true, cond_false]
      by_cases h2 : 0 ≤ d ∧ d ≤ 100000
      · rw [decide_eq_true h2, if_neg (not_not_intro h2)]
        simp only [Bool.not_true, cond_false]
        cases fitS c.2.1 f <;> rfl
      · rw [decide_eq_false h2, if_pos h2]
        rfl
    · have h1' : decide (0 ≤ r ∧ r ≤ (c.2.2.length : Int) - 1) = false := decide_eq_false (by omega)
      rw [h1', if_pos h1]
      rfl
  · simp only [h, decide_false, Bool.not_false, cond_true, jl, ne_eq, not_false_eq_true, if_true]
theorem G67_binds (c : Cd) (r d : Int) (f : List Fct) : G67 LF (c, (r, (d, f))) = some (bindA c r d f) := by
  unfold G67 bindA
  rw [askedR_P (c.1, (c.2.1, c.2.2)) r d f]
  by_cases he : askR c r d f = 0
  · obtain ⟨he2, r0, r1⟩ := askR_ask he
    obtain ⟨h, h2, h3⟩ := ask_ok he2
    have hf := VF.of h h3
    have hfl := h.fl
    have hll := h.ll
    have hfn := hf.ln
    have hls := starts_len f (condsL c.2.2)
    obtain ⟨j, rfl⟩ := Int.eq_ofNat_of_zero_le r0
    simp only [he, decide_true, Bool.not_true, cond_false, if_true, Int.toNat_natCast, show G131 LF () = some () by rfl, Option.bind_some, G116_conds _ _ _ (show c.2.2.length ≤ 1000 by omega), G115_starts _ _ (show f.length ≤ 1000 by omega) (show (condsL c.2.2).length ≤ 1000 by have := h.cl; omega) h.cs, mkC_zer _ (show (startsL f (condsL c.2.2)).length ≤ 1000 by omega)]
    refine (iter_odo (fun i s => (i, s)) (startsL f (condsL c.2.2)) (starts_ne _ _) (fun v s => .inl (s ++ [(bindsL c d v).getD j false])) (fun n s => s.length = n) (fun s => some (ansL s, (0 : Int))) ?_ ?_ (by have := hf.cs; show _ < 9223372036854775808; omega) [] rfl).trans ?_
    · intro k s n hk hv hn hs
      have hcs := hf.cs
      have hvl := hf.vlen hv
      have hbl : (bindsL c d (valsI (startsL f (condsL c.2.2)) k)).length = c.2.2.length := bindsL_len _ _ _
      have hs' : (s ++ [(bindsL c d (valsI (startsL f (condsL c.2.2)) k)).getD j false]).length < LF := by show _ < 9223372036854775808; simp; omega
      refine vals_of hk (show (startsL f (condsL c.2.2)).length ≤ 1000 by omega) (fun a i hi => by simp only [castN_lt hi, cond_true]) ?_
      simp only [dnlt, cond_false]
      congr 1
      simp only [G130_judge (c := (c.1, (c.2.1, c.2.2))) h hvl, Option.bind_some, show getI (bindsL (c.1, (c.2.1, c.2.2)) d (valsI (startsL f (condsL c.2.2)) k)) (j : Int) = some ((bindsL c d (valsI (startsL f (condsL c.2.2)) k)).getD j false) from getI_getD (l := bindsL c d (valsI (startsL f (condsL c.2.2)) k)) (n := j) false (by omega), appC_of (show s.length + [(bindsL c d (valsI (startsL f (condsL c.2.2)) k)).getD j false].length ≤ 1099511627776 by simp; omega)]
      refine (adv_of hk (show (startsL f (condsL c.2.2)).length ≤ 1000 by omega) (starts_cl f h) _ _).trans ?_
      cases nxt (startsL f (condsL c.2.2)) k with
      | some k' => rfl
      | none =>
        simp only
        rw [G125_ans _ hs']
        rfl
    · intro v s s' n _ _ hs he
      cases he
      simp [hs]
    · rw [go_fold, fold_map]
      rfl
  · simp only [he, decide_false, Bool.not_false, cond_true, if_false]
theorem G149_askR (c : Cd) (r d : Int) (f : List Fct) : G149 LF (c, (r, (true, (d, f)))) = some (askR c r d f) := by
  unfold G149 askR
  simp only [G32_code, Option.bind_some]
  by_cases h : codeE c = 0
  · have hll := (VC.of h).ll
    have e1 : w64 ((c.2.2.length : Int) - 1) = (c.2.2.length : Int) - 1 := w64_in (by omega)
    simp only [h, decide_true, Bool.not_true, cond_false, cond_true, jl, G126_in, Option.bind_some, G107_fit _ f (VC.of_code h), ne_eq, not_true, if_false, e1]
    by_cases h1 : 0 ≤ r ∧ r < (c.2.2.length : Int)
    · have h1' : decide (0 ≤ r ∧ r ≤ (c.2.2.length : Int) - 1) = true := decide_eq_true (by omega)
      rw [h1', if_neg (not_not_intro h1)]
      simp only [Bool.not_true, cond_false]
      by_cases h2 : 0 ≤ d ∧ d ≤ 100000
      · rw [decide_eq_true h2, if_neg (not_not_intro h2)]
        simp only [Bool.not_true, cond_false]
        cases fitS c.2.1 f <;> rfl
      · rw [decide_eq_false h2, if_pos h2]
        rfl
    · have h1' : decide (0 ≤ r ∧ r ≤ (c.2.2.length : Int) - 1) = false := decide_eq_false (by omega)
      rw [h1', if_pos h1]
      rfl
  · simp only [h, decide_false, Bool.not_false, cond_true, jl, ne_eq, not_false_eq_true, if_true]
end Go.K
namespace Go.K
open Go.Sl Go.Sx Go.Proofs
noncomputable def G69 (lf : Nat) (x : ((ByteArray × (Yf × Yr)) × (Int × Yf))) : Option (((List (Int × (Int × Int))) × Int)) :=
  ((G149 lf ((x.1.1, (x.1.2.1, x.1.2.2)), ((0 : Int), (false, (x.2.1, x.2.2)))))).bind fun r121 => cond (!(decide (r121 = (0 : Int)))) (some (([] : List (Int × (Int × Int))), r121)) (jn (agree (((mkC (x.1.2.2.length : Int) false)).bind fun r122 => agree (((mkC (x.1.2.2.length : Int) false)).bind fun r123 => some (.inl (r122, r123))) (((mkC (x.1.2.2.length : Int) false)).bind fun r124 => some (.inl (r122, r124)))) (agree (((mkC (x.1.2.2.length : Int) false)).bind fun r125 => agree (((mkC (x.1.2.2.length : Int) false)).bind fun r126 => some (.inl (r126, r125))) (((mkC (x.1.2.2.length : Int) false)).bind fun r127 => some (.inl (r127, r125)))) (agree (((mkC (x.1.2.2.length : Int) false)).bind fun r128 => ((mkC (x.1.2.2.length : Int) false)).bind fun r129 => some (.inl (r128, r129))) (((mkC (x.1.2.2.length : Int) false)).bind fun r130 => ((mkC (x.1.2.2.length : Int) false)).bind fun r131 => some (.inl (r131, r130)))))) (fun y132 : ((List Bool) × (List Bool)) => jn (agree (((mkC (x.1.2.2.length : Int) false)).bind fun r133 => agree (((mkC (x.1.2.2.length : Int) false)).bind fun r134 => some (.inl (r133, r134))) (((mkC (x.1.2.2.length : Int) false)).bind fun r135 => some (.inl (r133, r135)))) (agree (((mkC (x.1.2.2.length : Int) false)).bind fun r136 => agree (((mkC (x.1.2.2.length : Int) false)).bind fun r137 => some (.inl (r137, r136))) (((mkC (x.1.2.2.length : Int) false)).bind fun r138 => some (.inl (r138, r136)))) (agree (((mkC (x.1.2.2.length : Int) false)).bind fun r139 => ((mkC (x.1.2.2.length : Int) false)).bind fun r140 => some (.inl (r139, r140))) (((mkC (x.1.2.2.length : Int) false)).bind fun r141 => ((mkC (x.1.2.2.length : Int) false)).bind fun r142 => some (.inl (r142, r141)))))) (fun y143 : ((List Bool) × (List Bool)) => ((G27 lf ((x.1.1, (x.1.2.1, x.1.2.2)), x.2.2))).bind fun r144 => iter lf (fun y145 : (Int × ((List Bool) × ((List Bool) × ((List Bool) × (List Bool))))) => cond (decide (y145.1 < (r144.length : Int))) (((getI r144 y145.1)).bind fun r146 => ((G40 lf ((x.1.1, (x.1.2.1, x.1.2.2)), (x.2.1, r146)))).bind fun r147 => ((G26 lf ((x.1.1, (x.1.2.1, x.1.2.2)), (x.2.1, r146)))).bind fun r148 => iter lf (fun y149 : (Int × ((List Bool) × ((List Bool) × ((List Bool) × (List Bool))))) => cond (decide (y149.1 < (r147.length : Int))) (jn (((getI r147 y149.1)).bind fun r150 => ((G150 lf r150)).bind fun r151 => cond (decide (r151 = (0 : Int))) (((getI y149.2.2.1 y149.1)).bind fun r152 => ((getI y149.2.2.1 y149.1)).bind fun r153 => ((setI y149.2.2.1 y149.1 true)).bind fun r154 => some (.inl (r154, y149.2.2.2.1))) (cond (decide (r151 = (1 : Int))) (((getI y149.2.2.2.1 y149.1)).bind fun r155 => ((getI y149.2.2.2.1 y149.1)).bind fun r156 => ((setI y149.2.2.2.1 y149.1 true)).bind fun r157 => some (.inl (y149.2.2.1, r157))) ((outI)))) (fun y158 : ((List Bool) × (List Bool)) => ((getI r148 y149.1)).bind fun r159 => ((G150 lf r159)).bind fun r160 => cond (decide (r160 = (0 : Int))) (((getI y149.2.1 y149.1)).bind fun r161 => ((getI y149.2.1 y149.1)).bind fun r162 => ((setI y149.2.1 y149.1 true)).bind fun r163 => some (.inl ((w64 (y149.1 + (1 : Int))), (r163, (y158.1, (y158.2, y149.2.2.2.2)))))) (cond (decide (r160 = (1 : Int))) (((getI y149.2.2.2.2 y149.1)).bind fun r164 => ((getI y149.2.2.2.2 y149.1)).bind fun r165 => ((setI y149.2.2.2.2 y149.1 true)).bind fun r166 => some (.inl ((w64 (y149.1 + (1 : Int))), (y149.2.1, (y158.1, (y158.2, r166)))))) ((outI))))) (some (.inr (.inl ((w64 (y145.1 + (1 : Int))), (y149.2.1, (y149.2.2.1, (y149.2.2.2.1, y149.2.2.2.2)))))))) ((0 : Int), (y145.2.1, (y145.2.2.1, (y145.2.2.2.1, y145.2.2.2.2))))) (outR (iter lf (fun y167 : ((List (Int × (Int × Int))) × Int) => cond (decide (y167.2 < (x.1.2.2.length : Int))) (((getI y145.2.2.1 y167.2)).bind fun r168 => ((getI y145.2.2.1 y167.2)).bind fun r169 => ((getI y145.2.2.2.1 y167.2)).bind fun r170 => ((getI y145.2.2.2.1 y167.2)).bind fun r171 => ((getI y145.2.1 y167.2)).bind fun r172 => ((getI y145.2.1 y167.2)).bind fun r173 => ((getI y145.2.2.2.2 y167.2)).bind fun r174 => ((getI y145.2.2.2.2 y167.2)).bind fun r175 => ((G148 lf (r169, r171))).bind fun r176 => ((G148 lf (r173, r175))).bind fun r177 => ((appC y167.1 [(y167.2, (r176, r177))])).bind fun r178 => some (.inl (r178, (w64 (y167.2 + (1 : Int)))))) (some (.inr (y167.1, (0 : Int))))) (([] : List (Int × (Int × Int))), (0 : Int))))) ((0 : Int), (y143.1, (y132.1, (y132.2, y143.2)))))))
end Go.K
namespace Go.K
open Go.Sl Go.Sx Go.Proofs
theorem mkC_rep (m : Nat) (h : m ≤ 1000) : mkC (m : Int) false = some (List.replicate m false) := by
  unfold mkC
  rw [if_pos (by omega), Int.toNat_natCast]
def setR (X : List Bool) (i : Nat) (t : Bool) : List Bool := bif t then X.set i true else X
def orL (X b : List Bool) : List Bool := (List.range X.length).map fun i => X.getD i false || b.getD i false
theorem setR_len (X : List Bool) (i : Nat) (t : Bool) : (setR X i t).length = X.length := by cases t <;> simp [setR]
theorem setRs_len (b : List Bool) {σ : Type} : ∀ (l : List σ) (i : Nat) (X : List Bool), (foldI (fun _ i X => setR X i (b.getD i false)) l i X).length = X.length
  | [], _, _ => rfl
  | r :: l, i, X => by
    simp only [foldI]
    rw [setRs_len b l (i + 1), setR_len]
theorem setRs_get (b : List Bool) {σ : Type} : ∀ (l : List σ) (i : Nat) (X : List Bool) (j : Nat), i + l.length = X.length → (foldI (fun _ i X => setR X i (b.getD i false)) l i X).getD j false = if i ≤ j ∧ j < X.length then (X.getD j false || b.getD j false) else X.getD j false
  | [], i, X, j, h => by
    simp only [List.length_nil, Nat.add_zero] at h
    rw [if_neg (by omega)]; rfl
  | r :: l, i, X, j, h => by
    simp only [List.length_cons] at h
    simp only [foldI]
    rw [setRs_get b l (i + 1) _ j (by rw [setR_len]; omega), setR_len]
    have e : (setR X i (b.getD i false)).getD j false = if j = i then (X.getD i false || b.getD i false) else X.getD j false := by
      unfold setR
      cases hb : b.getD i false with
      | true => simp only [cond_true, Bool.or_true]; exact getD_upd X i j true false (by omega)
      | false =>
        simp only [cond_false, Bool.or_false]
        by_cases q : j = i
        · subst q; rw [if_pos rfl]
        · rw [if_neg q]
    rw [e]
    by_cases q : j = i
    · subst q
      simp [show j < X.length by omega, Nat.not_succ_le_self]
    · rw [if_neg q]
      by_cases q2 : i ≤ j ∧ j < X.length
      · rw [if_pos q2, if_pos (by omega)]
      · rw [if_neg q2, if_neg (by omega)]
theorem setRs_all (b : List Bool) {σ : Type} (l : List σ) (X : List Bool) (h : l.length = X.length) : foldI (fun _ i X => setR X i (b.getD i false)) l 0 X = orL X b := by
  refine List.ext_getElem (by rw [setRs_len]; simp [orL]) fun j h1 h2 => ?_
  have hj : j < X.length := by rw [setRs_len] at h1; exact h1
  have := setRs_get b l 0 X j (by omega)
  rw [if_pos ⟨Nat.zero_le _, hj⟩, List.getD_eq_getElem?_getD, List.getElem?_eq_getElem h1] at this
  simp only [Option.getD_some] at this
  rw [this]
  simp [orL]
def orA (m : Nat) (P : List (List Bool)) : List Bool := (List.range m).map fun i => P.any fun b => b.getD i false
theorem orA_add (m : Nat) (P : List (List Bool)) (b : List Bool) : orL (orA m P) b = orA m (P ++ [b]) := by
  unfold orL
  have e : (orA m P).length = m := by simp [orA]
  rw [e]
  show _ = (List.range m).map _
  refine List.map_congr_left fun i hi => ?_
  have hi := List.mem_range.1 hi
  have : (orA m P).getD i false = P.any fun b => b.getD i false := by
    rw [List.getD_eq_getElem?_getD]
    simp [orA, hi]
  rw [this]
  simp
theorem orA_nil (m : Nat) : List.replicate m false = orA m [] := by
  simp [orA]
  induction m with
  | zero => rfl
  | succ m ih => rw [List.replicate_succ', List.range_succ, List.map_append, ih]; rfl
theorem orA_get {m i : Nat} (P : List (List Bool)) (h : i < m) : (orA m P).getD i false = P.any fun b => b.getD i false := by
  rw [List.getD_eq_getElem?_getD]
  simp [orA, h]
theorem fold_or {V : Type} (g : V → List Bool) (m : Nat) : ∀ (l : List V) (P : List (List Bool)), l.foldl (fun s v => orL s (g v)) (orA m P) = orA m (P ++ l.map g)
  | [], P => by simp
  | v :: l, P => by
    rw [List.foldl_cons, orA_add, fold_or g m l]
    simp
theorem foldl_two {σ A B : Type} (g : A → σ → A) (h : B → σ → B) : ∀ (l : List σ) (a : A) (b : B), l.foldl (fun (s : A × B) x => (g s.1 x, h s.2 x)) (a, b) = (l.foldl g a, l.foldl h b)
  | [], _, _ => rfl
  | x :: l, a, b => by simp only [List.foldl_cons]; exact foldl_two g h l _ _
def notL (b : List Bool) : List Bool := b.map fun x => !x
theorem notL_get {b : List Bool} {i : Nat} (h : i < b.length) : (notL b).getD i false = !b.getD i false := by
  simp [notL, List.getD_eq_getElem?_getD, h]
abbrev Q4 := List Bool × (List Bool × (List Bool × List Bool))
abbrev q4L (n : Nat) (a : Q4) : Prop := a.1.length = n ∧ a.2.1.length = n ∧ a.2.2.1.length = n ∧ a.2.2.2.length = n
theorem G69_judge (c : Cd) (d : Int) (f : List Fct) : G69 LF (c, (d, f)) = some (if askE c d f = 0 then (judgeA c d f, 0) else ([], askE c d f)) := by
  unfold G69
  simp only [show G149 LF ((c.1, (c.2.1, c.2.2)), ((0 : Int), (false, (d, f)))) = some (askE c d f) from G149_asked c 0 d f, Option.bind_some]
  by_cases he : askE c d f = 0
  · obtain ⟨h, h2, h3⟩ := ask_ok he
    have hf := VF.of h h3
    have hll := h.ll
    have hlen : (casesL c f).length < LF := by have := hf.cs; show (choL (startsL f (condsL c.2.2))).length < 9223372036854775808; omega
    simp only [he, decide_true, Bool.not_true, cond_false, if_true, mkC_rep c.2.2.length (by omega), Option.bind_some, agree_self, jl, show G27 LF ((c.1, (c.2.1, c.2.2)), f) = some (casesL c f) from G27_cases h hf]
    rw [orA_nil]
    refine (iter_foldI (fun i (a : Q4) => (i, a)) (fun (v : List Int) _ (a : Q4) => (orL a.1 (keptL c d v), (orL a.2.1 (bindsL c d v), (orL a.2.2.1 (notL (bindsL c d v)), orL a.2.2.2 (notL (keptL c d v))))))
      (fun _ a => q4L c.2.2.length a) (casesL c f)
      (fun a => some ((List.range c.2.2.length).map fun i : Nat => ((i : Int), ((G148 LF (a.2.1.getD i false, a.2.2.1.getD i false)).getD 0, (G148 LF (a.1.getD i false, a.2.2.2.getD i false)).getD 0)), (0 : Int))) (orA c.2.2.length [], (orA c.2.2.length [], (orA c.2.2.length [], orA c.2.2.length []))) ?_ ?_ ?_ hlen ?_).trans ?_
    · intro i v a hv ha
      obtain ⟨k0, b0, b1, k1⟩ := a
      obtain ⟨l1, l2, l3, l4⟩ := ha
      simp only at l1 l2 l3 l4
      have hi := lt_of_get hv
      have hvl := hf.vlen (List.mem_of_getElem? hv)
      have hkl : (keptL c d v).length = c.2.2.length := keptL_len _ _ _
      have hbl : (bindsL c d v).length = c.2.2.length := bindsL_len _ _ _
      simp only [dlt hi, cond_true, getI_nat hv, Option.bind_some, show G40 LF ((c.1, (c.2.1, c.2.2)), (d, v)) = some (bindsL c d v) from G40_binds h hvl, show G26 LF ((c.1, (c.2.1, c.2.2)), (d, v)) = some (keptL c d v) from G26_kept h hvl]
      refine (iter_foldI (fun i (a : Q4) => (i, a)) (fun (_ : Bool) i (a : Q4) => (setR a.1 i ((keptL c d v).getD i false), (setR a.2.1 i ((bindsL c d v).getD i false), (setR a.2.2.1 i ((notL (bindsL c d v)).getD i false), setR a.2.2.2 i ((notL (keptL c d v)).getD i false)))))
        (fun _ a => q4L c.2.2.length a) (bindsL c d v) (fun a => some (.inl ((((i + 1 : Nat) : Int)), a))) (k0, (b0, (b1, k1))) ?_ ?_ ?_ (by rw [hbl]; exact h.ll') ⟨l1, l2, l3, l4⟩).trans ?_
      · intro j x a hx ha
        obtain ⟨p0, q0, q1, p1⟩ := a
        obtain ⟨m1, m2, m3, m4⟩ := ha
        simp only at m1 m2 m3 m4
        have hj := lt_of_get hx
        have hxe : (bindsL c d v).getD j false = x := by rw [List.getD_eq_getElem?_getD, hx]; rfl
        have hjk : j < (keptL c d v).length := by omega
        simp only [dlt hj, cond_true, getI_nat hx, Option.bind_some, getI_getD (l := keptL c d v) (n := j) false hjk, getI_getD (l := p0) (n := j) false (by omega), getI_getD (l := q0) (n := j) false (by omega), getI_getD (l := q1) (n := j) false (by omega), getI_getD (l := p1) (n := j) false (by omega),
          setI_nt (l := p0) (i := j) (x := true) (by omega), setI_nt (l := q0) (i := j) (x := true) (by omega), setI_nt (l := q1) (i := j) (x := true) (by omega), setI_nt (l := p1) (i := j) (x := true) (by omega), succ_W (show j + 1 < 9223372036854775808 by omega), notL_get hj, notL_get hjk, hxe]
        generalize (keptL c d v).getD j false = y
        cases x <;> cases y <;> rfl
      · intro j x a hx ha
        exact ⟨(setR_len _ _ _).trans ha.1, (setR_len _ _ _).trans ha.2.1, (setR_len _ _ _).trans ha.2.2.1, (setR_len _ _ _).trans ha.2.2.2⟩
      · intro a ha
        simp only [dnlt, cond_false, succ_W (Nat.lt_of_le_of_lt hi hlen)]; rfl
      · rw [foldI_two (fun (_ : Bool) i X => setR X i ((keptL c d v).getD i false)) (fun (_ : Bool) i (a : List Bool × (List Bool × List Bool)) => (setR a.1 i ((bindsL c d v).getD i false), (setR a.2.1 i ((notL (bindsL c d v)).getD i false), setR a.2.2 i ((notL (keptL c d v)).getD i false)))),
          foldI_two (fun (_ : Bool) i X => setR X i ((bindsL c d v).getD i false)) (fun (_ : Bool) i (a : List Bool × List Bool) => (setR a.1 i ((notL (bindsL c d v)).getD i false), setR a.2 i ((notL (keptL c d v)).getD i false))),
          foldI_two (fun (_ : Bool) i X => setR X i ((notL (bindsL c d v)).getD i false)) (fun (_ : Bool) i X => setR X i ((notL (keptL c d v)).getD i false)),
          setRs_all _ _ _ (by omega), setRs_all _ _ _ (by omega), setRs_all _ _ _ (by omega), setRs_all _ _ _ (by omega)]
    · intro i v a hv ha
      exact ⟨by simp [orL, ha.1], by simp [orL, ha.2.1], by simp [orL, ha.2.2.1], by simp [orL, ha.2.2.2]⟩
    · intro a ha
      obtain ⟨k0, b0, b1, k1⟩ := a
      obtain ⟨l1, l2, l3, l4⟩ := ha
      simp only at l1 l2 l3 l4
      have hg : ∀ x y : Bool, G148 LF (x, y) = some ((G148 LF (x, y)).getD 0) := fun x y => by cases x <;> cases y <;> rfl
      simp only [dnlt, cond_false]
      congr 1
      refine (iter_foldI (fun i (a : List (Int × (Int × Int))) => (a, i)) (fun (_ : Rl) i a => a ++ [((i : Int), ((G148 LF (b0.getD i false, b1.getD i false)).getD 0, (G148 LF (k0.getD i false, k1.getD i false)).getD 0))]) (fun i a => a.length = i) c.2.2 (fun a => some (a, (0 : Int))) [] ?_ ?_ ?_ h.ll' rfl).trans ?_
      · intro i r a hr ha
        have hi := lt_of_get hr
        simp only [dlt hi, cond_true, getI_getD (l := b0) (n := i) false (by omega), getI_getD (l := b1) (n := i) false (by omega), getI_getD (l := k0) (n := i) false (by omega), getI_getD (l := k1) (n := i) false (by omega), Option.bind_some]
        rw [hg (b0.getD i false), hg (k0.getD i false)]
        simp only [Option.bind_some, Option.getD_some, appC_of (show a.length + [((i : Int), ((G148 LF (b0.getD i false, b1.getD i false)).getD 0, (G148 LF (k0.getD i false, k1.getD i false)).getD 0))].length ≤ 1099511627776 by simp only [List.length_singleton]; omega), succ_W (show i + 1 < 9223372036854775808 by omega)]
      · intro i r a hr ha
        simp [ha]
      · intro a ha
        simp only [dnlt, cond_false]; rfl
      · rw [foldI_app (fun i : Nat => ((i : Int), ((G148 LF (b0.getD i false, b1.getD i false)).getD 0, (G148 LF (k0.getD i false, k1.getD i false)).getD 0)))]
        simp [List.range_eq_range']
    · exact ⟨by simp [orA], by simp [orA], by simp [orA], by simp [orA]⟩
    · rw [foldI_const, foldl_two (fun s v => orL s (keptL c d v)) (fun (s : List Bool × (List Bool × List Bool)) v => (orL s.1 (bindsL c d v), (orL s.2.1 (notL (bindsL c d v)), orL s.2.2 (notL (keptL c d v))))),
        foldl_two (fun s v => orL s (bindsL c d v)) (fun (s : List Bool × List Bool) v => (orL s.1 (notL (bindsL c d v)), orL s.2 (notL (keptL c d v)))),
        foldl_two (fun s v => orL s (notL (bindsL c d v))) (fun s v => orL s (notL (keptL c d v))), fold_or, fold_or, fold_or, fold_or]
      simp only [List.nil_append]
      congr 2
      unfold judgeA
      refine List.map_congr_left fun i hi => ?_
      have hi := List.mem_range.1 hi
      have hne : ∀ g : List Int → Bool, (casesL c f).map g ≠ [] := fun g => by
        have := cho_ne (starts_ne f (condsL c.2.2))
        simpa [casesL] using this
      have key : ∀ g : List Int → List Bool, (∀ v, (g v).length = c.2.2.length) → G148 LF ((orA c.2.2.length ((casesL c f).map g)).getD i false, (orA c.2.2.length ((casesL c f).map fun v => notL (g v))).getD i false) = some (ansL ((casesL c f).map fun v => (g v).getD i false)) := by
        intro g hgl
        rw [orA_get _ hi, orA_get _ hi, ← G148_ans _ (hne _)]
        congr 2
        · simp [List.any_map, Function.comp_def]
        · rw [List.any_map, List.any_map]
          congr 1
          funext v
          simp only [Function.comp_def]
          rw [notL_get (by rw [hgl]; exact hi)]
      rw [key (bindsL c d) (fun v => bindsL_len _ _ _), key (keptL c d) (fun v => keptL_len _ _ _)]
      rfl
  · simp only [he, decide_false, Bool.not_false, cond_true, if_false]
end Go.K
namespace Go.K
open Go.Sl Go.Sx Go.Proofs
noncomputable def G68 (lf : Nat) (x : ((ByteArray × (Yf × Yr)) × (Int × (Int × Yf)))) : Option ((Int × Int)) :=
  ((G149 lf ((x.1.1, (x.1.2.1, x.1.2.2)), (x.2.1, (true, (x.2.2.1, x.2.2.2)))))).bind fun r9 => cond (!(decide (r9 = (0 : Int)))) (some ((0 : Int), r9)) (((G69 lf ((x.1.1, (x.1.2.1, x.1.2.2)), (x.2.2.1, x.2.2.2)))).bind fun r10 => ((getI r10.1 x.2.1)).bind fun r11 => some (r11.2.1, (0 : Int)))
noncomputable def G13 (lf : Nat) (x : ((ByteArray × (Yf × Yr)) × ((Int × (Int × (Yf × ByteArray))) × Yt))) : Option (Bool) :=
  ((G65 lf (x.2.1.2.2.1, x.2.2))).bind fun r18 => ((G66 lf (x.2.1.2.2.1, x.2.2))).bind fun r19 => ((G67 lf ((x.1.1, (x.1.2.1, x.1.2.2)), (x.2.1.1, (x.2.1.2.1, x.2.1.2.2.1))))).bind fun r20 => ((G68 lf ((x.1.1, (x.1.2.1, x.1.2.2)), (x.2.1.1, (x.2.1.2.1, x.2.1.2.2.1))))).bind fun r21 => ((G38 lf ((x.1.1, (x.1.2.1, x.1.2.2)), (x.2.1.2.1, x.2.1.2.2.1)))).bind fun r22 => ((G69 lf ((x.1.1, (x.1.2.1, x.1.2.2)), (x.2.1.2.1, x.2.1.2.2.1)))).bind fun r23 => ((G23 lf ((x.1.1, (x.1.2.1, x.1.2.2)), (x.2.1.2.1, x.2.1.2.2.1)))).bind fun r24 => ((G70 lf ((x.1.1, (x.1.2.1, x.1.2.2)), (x.2.1.2.1, x.2.1.2.2.1)))).bind fun r25 => cond (decide (r18.1 = r19.1)) (cond (decide (r18.2 = r19.2)) (cond (decide (r20.1 = r21.1)) (cond (decide (r20.2 = r21.2)) (((G45 lf (r22.1, r23.1))).bind fun r26 => cond r26 (cond (decide (r22.2 = r23.2)) (cond (decide (r24.1 = r25.1)) (cond (decide (r24.2 = r25.2)) (((G22 lf ())).bind fun r27 => some r27) (some false)) (some false)) (some false)) (some false)) (some false)) (some false)) (some false)) (some false)
end Go.K
namespace Go.K
open Go.Sl Go.Sx Go.Proofs
theorem judgeA_get {c : Cd} {d : Int} {f : List Fct} {i : Nat} (h : i < c.2.2.length) : (judgeA c d f)[i]? = some ((i : Int), (ansL ((casesL c f).map fun v => (bindsL c d v).getD i false), ansL ((casesL c f).map fun v => (keptL c d v).getD i false))) := by
  simp [judgeA, h]
theorem judgeA_len (c : Cd) (d : Int) (f : List Fct) : (judgeA c d f).length = c.2.2.length := by simp [judgeA]
theorem G68_binds (c : Cd) (r d : Int) (f : List Fct) : G68 LF (c, (r, (d, f))) = some (bindA c r d f) := by
  unfold G68 bindA
  simp only [show G149 LF ((c.1, (c.2.1, c.2.2)), (r, (true, (d, f)))) = some (askR c r d f) from G149_askR c r d f, Option.bind_some]
  by_cases he : askR c r d f = 0
  · obtain ⟨he2, r0, r1⟩ := askR_ask he
    obtain ⟨j, rfl⟩ := Int.eq_ofNat_of_zero_le r0
    simp only [he, decide_true, Bool.not_true, cond_false, if_true, show G69 LF ((c.1, (c.2.1, c.2.2)), (d, f)) = _ from G69_judge c d f, he2, Option.bind_some, getI_nat (judgeA_get (c := c) (d := d) (f := f) (i := j) (by omega)), Int.toNat_natCast]
  · simp only [he, decide_false, Bool.not_false, cond_true, if_false]
theorem G13_true (c : Cd) (r d : Int) (f : List Fct) (s : ByteArray) (x : Cnd) : G13 LF (c, ((r, (d, (f, s))), x)) = some true := by
  have hl : ((if askE c d f = 0 then (judgeA c d f, (0 : Int)) else ([], askE c d f)).1).length < LF := by
    by_cases he : askE c d f = 0
    · obtain ⟨h, h2, h3⟩ := ask_ok he
      have := h.ll
      simp only [he, if_true, judgeA_len]
      show c.2.2.length < 9223372036854775808
      omega
    · simp only [he, if_false, List.length_nil]; decide
  unfold G13
  simp only [show G65 LF (f, x) = _ from G65_holds f x, show G66 LF (f, x) = _ from G66_holds f x, show G67 LF ((c.1, (c.2.1, c.2.2)), (r, (d, f))) = _ from G67_binds c r d f, show G68 LF ((c.1, (c.2.1, c.2.2)), (r, (d, f))) = _ from G68_binds c r d f,
    show G38 LF ((c.1, (c.2.1, c.2.2)), (d, f)) = _ from G38_judge c d f, show G69 LF ((c.1, (c.2.1, c.2.2)), (d, f)) = _ from G69_judge c d f, show G23 LF ((c.1, (c.2.1, c.2.2)), (d, f)) = _ from G23_kept c d f, show G70 LF ((c.1, (c.2.1, c.2.2)), (d, f)) = _ from G70_kept c d f,
    Option.bind_some, sane_true, decide_true, cond_true, G45_self _ hl]
end Go.K
