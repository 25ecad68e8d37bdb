/-
  A part of the walk and of the plain law of one given statement. No condition.
-/
import Derived.Test.YtlmgjjmighajdaaQO
import Derived.Test.YtlmgjjmighajdaaE0
import Derived.ProofKit
import Derived.OpenShut
import Derived.Stop.Joined
import Derived.Deep.Slices
set_option linter.unusedSimpArgs false
set_option linter.unusedVariables false
namespace Go.Proofs.Ytlmgjjmighajdaa
open Go.Sl Go.Sx
variable {ids : List Int} {h : List Part} {m : Int}
def loseL : List (List Part) → List Int → List (List Part) → List Part → List (List Part) × List Part
  | p :: H, n :: d, res, out => loseL H d (if lf p n = [] then res else res ++ [lf p n]) (mergeP out (tk p n))
  | _, _, res, out => (res, out)
inductive Fit (ids : List Int) : List (List Part) → List Int → Prop
  | nil : Fit ids [] []
  | cons {p : List Part} {H : List (List Part)} {n : Int} {d : List Int} : Cut ids p n → Fit ids H d → Fit ids (p :: H) (n :: d)
theorem Fit.len : ∀ {H : List (List Part)} {d : List Int}, Fit ids H d → d.length = H.length
  | _, _, .nil => rfl
  | _, _, .cons _ k => by simp [k.len]
theorem Fit.of : ∀ {H : List (List Part)} {d : List Int}, d.length = H.length → (∀ i (hi : i < H.length) (hd : i < d.length), Cut ids H[i] d[i]) → Fit ids H d
  | [], [], _, _ => .nil
  | [], _ :: _, e, _ => by cases e
  | _ :: _, [], e, _ => by cases e
  | p :: H, n :: d, e, k => .cons (k 0 (by simp) (by simp)) (Fit.of (by simpa using e) fun i hi hd => k (i + 1) (by simpa using hi) (by simpa using hd))
theorem Fit.sum0 : ∀ {H : List (List Part)} {d : List Int}, Fit ids H d → 0 ≤ d.sum
  | _, _, .nil => by simp
  | _, _, .cons c k => by have := k.sum0; have := c.m0; simp only [List.sum_cons]; omega
theorem Fit.at : ∀ {H : List (List Part)} {d : List Int}, Fit ids H d → ∀ i (hi : i < H.length) (hd : i < d.length), Cut ids H[i] d[i]
  | _, _, .nil, i, hi, _ => by simp at hi
  | _, _, .cons c k, 0, _, _ => c
  | _, _, .cons c k, i + 1, hi, hd => k.at i (by simpa using hi) (by simpa using hd)
theorem Fit.drop : ∀ {H : List (List Part)} {d : List Int}, Fit ids H d → ∀ i, Fit ids (H.drop i) (d.drop i)
  | _, _, k, 0 => k
  | _, _, .nil, i + 1 => by simpa using Fit.nil
  | _, _, .cons c k, i + 1 => by simpa using k.drop i
theorem F88_l2_eq {f : Nat} (hf : 1001 ≤ f) {H : List (List Part)} {d : List Int} (hl : H.length ≤ 100) (i8 : ids.length ≤ 40) (k : Fit ids H d) : ∀ n i (res : List (List Part)) (out : List Part), i ≤ H.length → H.length - i < n → res.length ≤ i → In ids out → sumM out + (d.drop i).sum ≤ 100000000 → 0 ≤ sumM out →
    F88_l2 f H d n res out (i : Int) = some (loseL (H.drop i) (d.drop i) res out)
  | 0, i, res, out, _, hn, _, _, _, _ => by omega
  | n + 1, i, res, out, hi, hn, hr, ho, hs, h0 => by
    have hdl := k.len
    rcases Nat.lt_or_ge i H.length with hlt | hge
    · have hd : i < d.length := by omega
      have c := k.at i hlt hd
      have e1 : H.drop i = H[i] :: H.drop (i + 1) := List.drop_eq_getElem_cons hlt
      have e2 : d.drop i = d[i] :: d.drop (i + 1) := List.drop_eq_getElem_cons hd
      have hs' : sumM out + (d[i] + (d.drop (i + 1)).sum) ≤ 100000000 := by rw [e2, List.sum_cons] at hs; exact hs
      have hsd := (k.drop (i + 1)).sum0
      have hc0 := c.m0
      have hts := c.tk_sum
      have hms := merge_sum _ out (tk H[i] d[i]) (Nat.le_refl _)
      have hmi := ho.merge c.tk_in (by omega)
      simp only [F88_l2, lt_len, hlt, decide_true, cond_true, getI_nat hlt, getI_nat hd, Option.bind_some]
      rw [c.F93 hf]
      simp only [Option.bind_some, F88_j2]
      rw [F89_eq (ho.heap (by omega) (by omega)) (c.tk_in.heap (by omega) (by omega)) (by omega)]
      simp only [Option.bind_some]
      rw [e1, e2]
      simp only [loseL]
      by_cases hz : lf H[i] d[i] = []
      · have : decide (((lf H[i] d[i]).length : Int) > 0) = false := by rw [hz]; rfl
        rw [this, cond_false, if_pos hz, F88_j1, succ_w (by omega)]
        exact F88_l2_eq hf hl i8 k n (i + 1) res _ hlt (by omega) (by omega) hmi (by omega) (by omega)
      · have : decide (((lf H[i] d[i]).length : Int) > 0) = true := decide_eq_true (by have := List.length_pos_iff.2 hz; omega)
        rw [this, cond_true, if_neg hz, app_small (by omega) (by simp)]
        simp only [Option.bind_some, F88_j1]
        rw [succ_w (by omega)]
        exact F88_l2_eq hf hl i8 k n (i + 1) _ _ hlt (by omega) (by simp; omega) hmi (by omega) (by omega)
    · have : i = H.length := by omega
      subst this
      simp [F88_l2, loseL]
theorem F142_l2_eq {f : Nat} (hf : 1001 ≤ f) (t : Nat) {H : List (List Part)} {d : List Int} (hl : H.length ≤ 50) (i8 : ids.length ≤ 40) (k : Fit ids H d) {p2 : List (List (Int × Bool))} (hp2 : p2.length = H.length) (ne : ∀ p ∈ H, p ≠ []) : ∀ n i (x : Pl) (res : List (List Part)) (M : List (List (Int × Bool))) (out : List Part) (s : List (Int × Bool)), i ≤ H.length → H.length - i < n → res.length ≤ i → At9 x t res M → In ids out → sumM out + (d.drop i).sum ≤ 100000000 → 0 ≤ sumM out →
    ∃ s' M', M'.length = (loseL (H.drop i) (d.drop i) res out).1.length ∧ F142_l2 f (t : Int) H p2 d n x out s (i : Int) = some ((loseL (H.drop i) (d.drop i) res out).2, s', x.put t (loseL (H.drop i) (d.drop i) res out).1 M') ∧
      (∀ u ∈ M', u ∈ M ∨ u ∈ p2) ∧ (Tells H p2 → Tells res M → Has1 out s → Tells (loseL (H.drop i) (d.drop i) res out).1 M' ∧ Has1 (loseL (H.drop i) (d.drop i) res out).2 s')
  | 0, i, x, res, M, out, s, _, hn, _, _, _, _, _ => by omega
  | n + 1, i, x, res, M, out, s, hi, hn, hr, ha, ho, hs, h0 => by
    have hdl := k.len
    rcases Nat.lt_or_ge i H.length with hlt | hge
    · have hd : i < d.length := by omega
      have h2 : i < p2.length := by omega
      have c := k.at i hlt hd
      have e1 : H.drop i = H[i] :: H.drop (i + 1) := List.drop_eq_getElem_cons hlt
      have e2 : d.drop i = d[i] :: d.drop (i + 1) := List.drop_eq_getElem_cons hd
      have hs' : sumM out + (d[i] + (d.drop (i + 1)).sum) ≤ 100000000 := by rw [e2, List.sum_cons] at hs; exact hs
      have hsd := (k.drop (i + 1)).sum0
      have hc0 := c.m0
      have hts := c.tk_sum
      have hms := merge_sum _ out (tk H[i] d[i]) (Nat.le_refl _)
      have hmi := ho.merge c.tk_in (by omega)
      have hdi : decide ((i : Int) < (d.length : Int)) = true := decide_eq_true (by omega)
      -- what is put back
      obtain ⟨res', M', hres, hM', hput, hat, hu1, hT1⟩ : ∃ res' M', res' = (if lf H[i] d[i] = [] then res else res ++ [lf H[i] d[i]]) ∧ res'.length ≤ i + 1 ∧ F148 f x (t : Int) (lf H[i] d[i]) p2[i] = some (x.put t res' M') ∧ At9 (x.put t res' M') t res' M' ∧
          (∀ u ∈ M', u ∈ M ∨ u ∈ p2) ∧ (Tells H p2 → Tells res M → Tells res' M') := by
        by_cases hz : lf H[i] d[i] = []
        · refine ⟨res, M, by rw [if_pos hz], by omega, ?_, ?_⟩
          · rw [hz, F148_nil, Pl.put_self ha]
          · rw [Pl.put_self ha]; exact ⟨ha, fun u hu => .inl hu, fun _ k => k⟩
        · refine ⟨res ++ [lf H[i] d[i]], M ++ [p2[i]], by rw [if_neg hz], by simp; omega, F148_put ha hz _, ha.put (by simp [ha.len]) (by simp; omega), fun u hu => ?_, fun k1 k2 => k2.append ((k1.at i hlt h2).lf c)⟩
          rcases List.mem_append.1 hu with hu | hu
          · exact .inl hu
          · rw [List.mem_singleton] at hu; subst hu; exact .inr (List.getElem_mem _)
      simp only [F142_l2, hdi, cond_true, getI_nat hlt, getI_nat hd, getI_nat h2, Option.bind_some]
      rw [c.F91 hf]
      simp only [Option.bind_some]
      rw [hput]
      simp only [Option.bind_some]
      rw [e1, e2]
      simp only [loseL, ← hres]
      by_cases hz : d[i] > 0
      · rw [decide_eq_true hz, cond_true, F150_eq (ho.heap (by omega) (by omega)) (c.tk_in.heap (by omega) (by omega)) _ _ hf]
        simp only [Option.bind_some, F142_j1]
        rw [succ_w (by omega)]
        obtain ⟨s', M2, hM2, e, hu2, hT2⟩ := F142_l2_eq hf t hl i8 k hp2 ne n (i + 1) (x.put t res' M') res' M' (mergeP out (tk H[i] d[i])) (uniK (uniK [] s) p2[i]) hlt (by omega) hM' hat hmi (by omega) (by omega)
        rw [Pl.put_put] at e
        exact ⟨s', M2, hM2, e, fun u k => (hu2 u k).elim (hu1 u) .inr, fun k1 k2 k3 => hT2 k1 (hT1 k1 k2) (k3.merge ((k1.at i hlt h2).tk c))⟩
      · rw [decide_eq_false hz, cond_false]
        simp only [F142_j1]
        have hz0 : d[i] = 0 := by omega
        have htn : tk H[i] d[i] = [] := by
          by_cases hne : tk H[i] d[i] = []
          · exact hne
          · have := c.tk_in.pos hne; omega
        rw [htn, merge_nil, succ_w (by omega)]
        obtain ⟨s', M2, hM2, e, hu2, hT2⟩ := F142_l2_eq hf t hl i8 k hp2 ne n (i + 1) (x.put t res' M') res' M' out s hlt (by omega) hM' hat ho (by omega) (by omega)
        rw [Pl.put_put] at e
        exact ⟨s', M2, hM2, e, fun u k => (hu2 u k).elim (hu1 u) .inr, fun k1 k2 k3 => hT2 k1 (hT1 k1 k2) k3⟩
    · have hi' : i = H.length := by omega
      subst hi'
      have hdi : decide ((H.length : Int) < (d.length : Int)) = false := decide_eq_false (by omega)
      have el : loseL (H.drop H.length) (d.drop H.length) res out = (res, out) := by simp [loseL]
      refine ⟨s, M, ?_, ?_, fun u hu => .inl hu, fun _ k2 k3 => by rw [el]; exact ⟨k2, k3⟩⟩
      · simp [loseL, ha.len]
      · simp only [F142_l2, hdi, cond_false]
        rw [el, Pl.put_self ha]
end Go.Proofs.Ytlmgjjmighajdaa
set_option linter.unusedSimpArgs false
set_option linter.unusedVariables false
namespace Go.Proofs.Ytlmgjjmighajdaa
open Go.Sl Go.Sx
variable {ids : List Int} {h : List Part} {m : Int}
def massH (H : List (List Part)) : List Int := H.map sumM
def loseS (H : List (List Part)) (m : Int) : List (List Part) × List Part := loseL H (dealS m (massH H)) [] []
theorem Hold.one_le {H : List (List Part)} (k : Hold ids H) : ∀ p ∈ H, sumM p ≤ sumH H := by
  have : ∀ l : List (List Part), Hold ids l → ∀ p ∈ l, sumM p ≤ sumH l := by
    intro l
    induction l with
    | nil => intro _ p hp; cases hp
    | cons q l ih =>
      intro hl p hp
      have h0 := hl.tail.sum_pos
      have h1 := (hl.ins q (by simp)).pos (hl.ne q (by simp))
      have hs : sumH (q :: l) = sumM q + sumH l := by simp [sumH]
      rw [hs]
      rcases List.mem_cons.1 hp with rfl | hp
      · omega
      · have := ih hl.tail p hp; omega
  exact this H k
theorem massH_sum (H : List (List Part)) : (massH H).sum = sumH H := rfl
theorem dealOk_hold {H : List (List Part)} (k : Hold ids H) (hl : H.length < 20) (hs : sumH H ≤ 100000000) (h0 : 0 < m) (h1 : m ≤ sumH H) : DealOk m (massH H) where
  nn x hx := by obtain ⟨p, hp, rfl⟩ := List.mem_map.1 hx; have := (k.ins p hp).pos (k.ne p hp); omega
  s0 := by rw [massH_sum]; omega
  s1 := by rw [massH_sum]; exact hs
  m0 := by omega
  m1 := by omega
  len := by have : (massH H).length = H.length := by simp [massH]
            omega
theorem fit_hold {H : List (List Part)} (k : Hold ids H) (hl : H.length < 20) (hs : sumH H ≤ 100000000) (h0 : 0 < m) (h1 : m ≤ sumH H) : Fit ids H (dealS m (massH H)) := by
  have hd := dealOk_hold k hl hs h0 h1
  refine Fit.of (by rw [dealS_len]; simp [massH]) fun i hi hdi => ?_
  have hm : i < (massH H).length := by simpa [massH] using hi
  have b1 := (deal_bounds hd hm).1
  have b2 := deal_le hd (by rw [massH_sum]; exact h1) hm
  have e : (massH H)[i] = sumM H[i] := by simp [massH]
  rw [e] at b2
  have := k.one_le _ (List.getElem_mem hi)
  exact ⟨k.ins _ (List.getElem_mem hi), k.i8, by omega, b1, b2⟩
theorem massH_take {H : List (List Part)} {i : Nat} (hi : i < H.length) : massH (H.take i) ++ [sumM H[i]] = massH (H.take (i + 1)) := by
  rw [List.take_succ_eq_append_getElem hi]; unfold massH; rw [List.map_append]; rfl
theorem F88_eq {f : Nat} (hf : 1001 ≤ f) {H : List (List Part)} (k : Hold ids H) (hl : H.length < 20) (hs : sumH H ≤ 100000000) (h0 : 0 < m) (h1 : m ≤ sumH H) : F88 f H m = some (loseS H m) := by
  have hd := dealOk_hold k hl hs h0 h1
  have hfit := fit_hold k hl hs h0 h1
  have i8 := k.i8
  unfold F88
  have key := from_st (T := fun n i => F88_l1 f H m n (massH (H.take i)) (i : Int)) (len := H.length) (n := f) (out := (F126 f m (massH H)).bind fun r2 => F88_l2 f H r2 f [] [] 0) (by omega)
    (fun n i hi => by
      have hp := k.ins _ (List.getElem_mem hi)
      have := k.one_le _ (List.getElem_mem hi)
      simp only [F88_l1, lt_len, hi, decide_true, cond_true, getI_nat hi, Option.bind_some]
      rw [F92_90, F90_eq (hp.heap (by omega) (by omega)) (by omega)]
      simp only [Option.bind_some]
      rw [app_small (by simp [massH]; omega) (by simp)]
      simp only [Option.bind_some]
      rw [massH_take hi, succ_w (by omega)])
    (fun n => by simp [F88_l1])
  have e0 : F88_l1 f H m f [] 0 = (F126 f m (massH H)).bind fun r2 => F88_l2 f H r2 f [] [] 0 := by simpa [massH] using key
  rw [e0, F126_eq hd (show 200 ≤ f by omega)]
  simp only [Option.bind_some]
  have e := F88_l2_eq hf (by omega) i8 hfit f 0 [] [] (by omega) (by omega) (by simp) (In.nil ids) (by rw [List.drop_zero, deal_sum hd]; simp [sumM]; omega) (by simp [sumM])
  simpa [loseS] using e
theorem F142_eq {f : Nat} (hf : 1001 ≤ f) {t : Nat} {x : Pl} {H : List (List Part)} {M : List (List (Int × Bool))} (ha : At9 x t H M) (k : Hold ids H) (hl : H.length < 20) (hs : sumH H ≤ 100000000) (h0 : 0 < m) (h1 : m ≤ sumH H) (a b c : Int) :
    ∃ s' M', M'.length = (loseS H m).1.length ∧ F142 f x a b (t : Int) c m = some ((loseS H m).2, s', x.put t (loseS H m).1 M') ∧ (∀ u ∈ M', u ∈ M) ∧ (Tells H M → Tells (loseS H m).1 M') := by
  have hd := dealOk_hold k hl hs h0 h1
  have hfit := fit_hold k hl hs h0 h1
  have i8 := k.i8
  unfold F142
  rw [getI_opt, ha.h]
  simp only [Option.bind_some]
  have key := from_st (T := fun n i => F142_l1 f x (t : Int) m H n (massH (H.take i)) (i : Int)) (len := H.length) (n := f) (out := (F127 f m (massH H)).bind fun r1 => F142_l2 f (t : Int) H M r1 f (x.put t [] []) [] [] 0) (by omega)
    (fun n i hi => by
      have hp := k.ins _ (List.getElem_mem hi)
      have := k.one_le _ (List.getElem_mem hi)
      simp only [F142_l1, lt_len, hi, decide_true, cond_true, getI_nat hi, Option.bind_some]
      rw [F90_eq (hp.heap (by omega) (by omega)) (by omega)]
      simp only [Option.bind_some]
      rw [app_small (by simp [massH]; omega) (by simp)]
      simp only [Option.bind_some]
      rw [massH_take hi, succ_w (by omega)])
    (fun n => by
      simp only [F142_l1, lt_len, Nat.lt_irrefl, decide_false, cond_false, getI_opt, ha.m, Option.bind_some, List.take_length]
      rfl)
  have e0 : F142_l1 f x (t : Int) m H f [] 0 = (F127 f m (massH H)).bind fun r1 => F142_l2 f (t : Int) H M r1 f (x.put t [] []) [] [] 0 := by simpa [massH] using key
  rw [e0, F127_eq hd (by omega)]
  simp only [Option.bind_some]
  obtain ⟨s', M', hM, e, hu, hT⟩ := F142_l2_eq hf t (by omega) i8 hfit (p2 := M) ha.len k.ne f 0 (x.put t [] []) [] [] [] [] (by omega) (by omega) (by simp) (ha.put rfl (by simp)) (In.nil ids) (by rw [List.drop_zero, deal_sum hd]; simp [sumM]; omega) (by simp [sumM])
  rw [Pl.put_put] at e
  refine ⟨s', M', by simpa [loseS] using hM, by simpa [loseS] using e, fun u k => (hu u k).elim (fun h => by cases h) id, fun k => ?_⟩
  have := (hT k trivial (Has1.nil _)).1
  simpa [loseS] using this
end Go.Proofs.Ytlmgjjmighajdaa
set_option linter.unusedSimpArgs false
set_option linter.unusedVariables false
namespace Go.Proofs.Ytlmgjjmighajdaa
open Go.Sl Go.Sx
variable {ids : List Int} {h : List Part} {m : Int}
def ontoS (H : List (List Part)) (b : List Part) : List (List Part) := match H.reverse with
  | [] => [b]
  | p :: r => r.reverse ++ [mergeP p b]
theorem ontoS_nil (b : List Part) : ontoS [] b = [b] := rfl
theorem ontoS_last (H : List (List Part)) (p b : List Part) : ontoS (H ++ [p]) b = H ++ [mergeP p b] := by simp [ontoS]
theorem F86_eq {f : Nat} (hf : 1001 ≤ f) {H : List (List Part)} (hl : H.length ≤ 100) (hH : ∀ p ∈ H, HeapOk p) {b : List Part} (hb : HeapOk b) : F86 f H b = some (ontoS H b) := by
  unfold F86
  rcases List.eq_nil_or_concat H with rfl | ⟨H', p, rfl⟩
  · rfl
  · have e : H'.concat p = H' ++ [p] := by simp
    rw [e] at hl hH ⊢
    rw [List.length_append] at hl
    simp only [List.length_cons, List.length_nil] at hl
    have hlen : ((H' ++ [p]).length : Int) = ((H'.length + 1 : Nat) : Int) := by simp
    have h0 : (((H' ++ [p]).length : Int) == 0) = false := by
      have : ¬ ((H' ++ [p]).length : Int) = 0 := by rw [hlen]; omega
      simpa using this
    have hget : getI (H' ++ [p]) (H'.length : Int) = some p := by rw [getI_opt]; simp
    rw [h0, cond_false, hlen, len_pred (by omega), sub_last]
    simp only [Option.bind_some]
    rw [app_small (by simp) (by omega)]
    simp only [Option.bind_some, hget, List.nil_append]
    rw [F89_eq (hH p (by simp)) hb (by omega)]
    simp only [Option.bind_some]
    rw [app_small (by omega) (by simp), ontoS_last]
    rfl
theorem F146_eq {f : Nat} (hf : 1001 ≤ f) {t : Nat} {x : Pl} {H : List (List Part)} {M : List (List (Int × Bool))} (ha : At9 x t H M) (hH : ∀ p ∈ H, HeapOk p) {b : List Part} (hb : HeapOk b) (hne : b ≠ []) (u : List (Int × Bool)) :
    ∃ M', M'.length = (ontoS H b).length ∧ F146 f x (t : Int) b u = some (x.put t (ontoS H b) M') ∧ (Tells H M → Has1 b u → Tells (ontoS H b) M') := by
  rcases List.eq_nil_or_concat H with rfl | ⟨H', p, rfl⟩
  · have hM : M = [] := List.eq_nil_of_length_eq_zero (by simpa using ha.len)
    subst hM
    refine ⟨_, rfl, F146_nil ha hb hne u hf, fun _ k => ⟨?_, trivial⟩⟩
    exact fun q hq => uni_in (.inl (tin_mem (k q hq)))
  · have e : H'.concat p = H' ++ [p] := by simp
    rw [e] at ha hH ⊢
    have hlen := ha.len
    obtain ⟨M', s, rfl⟩ : ∃ M' s, M = M' ++ [s] := by
      rcases List.eq_nil_or_concat M with rfl | ⟨M', s, rfl⟩
      · simp at hlen
      · exact ⟨M', s, by simp⟩
    rw [ontoS_last]
    refine ⟨M' ++ [uniK (uniK [] s) u], by simpa using hlen, F146_last ha (hH p (by simp)) hb (.inr hne) u hf, fun k1 k2 => ?_⟩
    obtain ⟨t1, t2⟩ := Tells.left (by simpa using hlen) k1
    exact t1.append (t2.merge k2)
theorem F143_eq {f : Nat} (hf : 1001 ≤ f) {t : Nat} {x : Pl} {H : List (List Part)} {p q : List Part} {M : List (List (Int × Bool))} (ha : At9 x t (H ++ [p] ++ [q]) M) (hp : HeapOk p) (hq : HeapOk q) (hne : q ≠ []) (a b c d : Int) :
    ∃ M', M'.length = (H ++ [mergeP p q]).length ∧ F143 f x a b (t : Int) c d = some ([], [], x.put t (H ++ [mergeP p q]) M') ∧ (Tells (H ++ [p] ++ [q]) M → Tells (H ++ [mergeP p q]) M') := by
  have hlen := ha.len
  obtain ⟨M1, s, rfl⟩ : ∃ M' s, M = M' ++ [s] := by
    rcases List.eq_nil_or_concat M with rfl | ⟨M', s, rfl⟩
    · simp at hlen
    · exact ⟨M', s, by simp⟩
  have hM1 : M1.length = (H ++ [p]).length := by simpa using hlen
  obtain ⟨M2, s2, rfl⟩ : ∃ M' s, M1 = M' ++ [s] := by
    rcases List.eq_nil_or_concat M1 with rfl | ⟨M', s, rfl⟩
    · simp at hM1
    · exact ⟨M', s, by simp⟩
  have hs := ha.small
  have hs1 : (H ++ [p]).length ≤ 100 := by rw [List.length_append] at hs; omega
  unfold F143
  rw [F151_last ha]
  simp only [Option.bind_some]
  rw [F152_last ha]
  simp only [Option.bind_some]
  rw [F146_last (ha.put hM1 hs1) hp hq (.inr hne) s hf]
  simp only [Option.bind_some, Pl.put_put]
  refine ⟨_, by simpa using hM1, rfl, fun k => ?_⟩
  obtain ⟨t1, t2⟩ := Tells.left hM1 k
  obtain ⟨t3, t4⟩ := Tells.left (by simpa using hM1) t1
  exact t3.append (t4.merge t2)
theorem mix_ref {f : Nat} (hf : 1001 ≤ f) {H : List (List Part)} {p q : List Part} (hl : H.length ≤ 90) (hp : HeapOk p) (hq : HeapOk q) :
    subI (H ++ [p] ++ [q]) 0 (w64 (((H ++ [p] ++ [q]).length : Int) - 2)) = some H ∧ getI (H ++ [p] ++ [q]) (w64 (((H ++ [p] ++ [q]).length : Int) - 2)) = some p ∧ getI (H ++ [p] ++ [q]) (w64 (((H ++ [p] ++ [q]).length : Int) - 1)) = some q := by
  have hlen : ((H ++ [p] ++ [q]).length : Int) = ((H.length + 2 : Nat) : Int) := by simp
  have e1 : w64 (((H.length + 2 : Nat) : Int) - 2) = (H.length : Int) := by rw [w64_id (by omega) (by omega)]; omega
  have e2 : w64 (((H.length + 2 : Nat) : Int) - 1) = ((H.length + 1 : Nat) : Int) := by rw [w64_id (by omega) (by omega)]; omega
  rw [hlen, e1, e2]
  refine ⟨?_, ?_, ?_⟩
  · unfold subI
    rw [if_pos (by simp; omega)]
    simp
  · rw [getI_opt]; simp
  · rw [getI_opt]; simp
end Go.Proofs.Ytlmgjjmighajdaa
set_option linter.unusedSimpArgs false
set_option linter.unusedVariables false
namespace Go.Proofs.Ytlmgjjmighajdaa
open Go.Sl Go.Sx
theorem named_more {f : Nat} {lots : List Lot} (hl : LotsOk lots) (hf : 40 < f) {holds : List (List (List Part))} {k l fr to m : Int} (h : F79 f lots holds k l fr to m = some true) : ((k = 1 ∨ k = 2) → Has lots l) ∧ (k = 4 → fr ≠ to) := by
  obtain ⟨q, e56, eq0, eq1⟩ := F56_has (f := f) hl.1 l hf
  have hn := named_true hl hf h
  obtain ⟨hk, b1, b2, b3, _⟩ := hn
  simp only [F79, F79_j1, F79_j2, F79_j3, F79_j4, F79_j5, F79_j6, F79_j7, F72_eq, F118_eq, Option.bind_some, e56, eq0, bq, bn] at h
  refine ⟨?_, ?_⟩
  · rintro (rfl | rfl)
    · have b3' := b3 (by omega)
      by_cases a2 : fr = 0 <;> simp [b1, b2, b3', a2] at h
      exact h
    · have b3' := b3 (by omega)
      by_cases a2 : fr = 0 <;> simp [b1, b2, b3', a2] at h
      exact h
  · rintro rfl
    have b3' := b3 (by omega)
    by_cases a1 : l = 0 <;> simp [b1, b2, b3', a1] at h
    exact h
structure Allowed (lots : List Lot) (holds : List (List (List Part))) (k l fr to m : Int) : Prop where
  k0 : 1 ≤ k ∧ k ≤ 6
  fr0 : 0 ≤ fr ∧ fr ≤ 8
  to0 : 0 ≤ to ∧ to ≤ 8
  m0 : k ≠ 6 → 1 ≤ m ∧ m ≤ 100000000
  m6 : k = 6 → m = 0
  lot : (k = 1 ∨ k = 2) → Has lots l
  apart : k = 4 → fr ≠ to
  from_ : (k = 3 ∨ k = 4 ∨ k = 5) → m ≤ sumH (holds.getD fr.toNat [])
  two : k = 6 → 2 ≤ (holds.getD fr.toNat []).length
  room : k = 2 → (holds.getD to.toNat []).length ≠ 4
  into : (k = 1 ∨ k = 2 ∨ k = 4) → sumH (holds.getD to.toNat []) + m ≤ 100000000
theorem F24_allowed {f : Nat} {lots : List Lot} {holds : List (List (List Part))} (hs : StockOk lots holds) (h9 : holds.length = 9) (hf : 40 < f) {k l fr to m : Int} (h : F24 f lots holds k l fr to m = some 0) : Allowed lots holds k l fr to m := by
  obtain ⟨b, eb⟩ := named_some (f := f) hs.lok hf holds k l fr to m
  unfold F24 at h
  rcases F22_eq (lots := lots) h9 hf with ⟨_, e22⟩ | ⟨hn, _⟩
  · rw [e22, eb] at h
    simp only [Option.bind_some] at h
    cases b with
    | false => simp at h
    | true =>
      obtain ⟨hk, hfr, hto, hm, hm6⟩ := named_true hs.lok hf eb
      obtain ⟨hlot, hap⟩ := named_more hs.lok hf eb
      have hfr' : fr.toNat < holds.length := by omega
      have hto' : to.toNat < holds.length := by omega
      have efr : getI holds fr = some holds[fr.toNat] := by have := getI_nat hfr'; rwa [Int.toNat_of_nonneg hfr.1] at this
      have eto : getI holds to = some holds[to.toNat] := by have := getI_nat hto'; rwa [Int.toNat_of_nonneg hto.1] at this
      have gfr := hs.hok _ (List.getElem_mem hfr')
      have gto := hs.hok _ (List.getElem_mem hto')
      have sfr := F75_eq (f := f) gfr.len (fun x hx => (gfr.heaps x hx).ok) hf
      have sto := F75_eq (f := f) gto.len (fun x hx => (gto.heaps x hx).ok) hf
      have hs0 := (sumH_bound fun x hx => (gto.heaps x hx).ok).1
      have hs1 := gto.sum
      have hw : k ≠ 6 → w64 (sumH holds[to.toNat] + m) = sumH holds[to.toNat] + m := fun e => w64_id (by have := hm e; omega) (by have := hm e; omega)
      have d1 : holds.getD fr.toNat [] = holds[fr.toNat] := by simp [hfr']
      have d2 : holds.getD to.toNat [] = holds[to.toNat] := by simp [hto']
      simp only [F24_j1, F24_j2, F24_j3, F24_j4, F24_j5, efr, eto, F77_75, sfr, sto, Option.bind_some, bq] at h
      have hk' : k = 1 ∨ k = 2 ∨ k = 3 ∨ k = 4 ∨ k = 5 ∨ k = 6 := by omega
      have fin : ((k = 3 ∨ k = 4 ∨ k = 5) → m ≤ sumH holds[fr.toNat]) ∧ (k = 6 → 2 ≤ holds[fr.toNat].length) ∧ (k = 2 → holds[to.toNat].length ≠ 4) ∧ ((k = 1 ∨ k = 2 ∨ k = 4) → sumH holds[to.toNat] + m ≤ 100000000) := by
        by_cases c1 : m > sumH holds[fr.toNat] <;> by_cases c2 : (holds[fr.toNat].length : Int) < 2 <;> by_cases c3 : (holds[to.toNat].length : Int) = 4 <;> by_cases c4 : sumH holds[to.toNat] + m > 100000000 <;>
          rcases hk' with rfl | rfl | rfl | rfl | rfl | rfl <;>
          first
          | (exfalso; simp [hw, c1, c2, c3, c4] at h; done)
          | (refine ⟨fun _ => by omega, fun _ => by omega, fun _ => by omega, fun _ => by omega⟩)
          | omega
      exact ⟨hk, hfr, hto, hm, hm6, hlot, hap, by rw [d1]; exact fin.1, by rw [d1]; exact fin.2.1, by rw [d2]; exact fin.2.2.1, by rw [d2]; exact fin.2.2.2⟩
  · exact absurd hs hn
end Go.Proofs.Ytlmgjjmighajdaa
set_option linter.unusedSimpArgs false
set_option linter.unusedVariables false
namespace Go.Proofs.Ytlmgjjmighajdaa
open Go.Sl Go.Sx
theorem one_ok {l m : Int} (h : PartOk ⟨l, m⟩) : HeapOk [⟨l, m⟩] := ⟨by simp, by simpa using h, List.pairwise_singleton _ _, by have := h.m1; simpa [sumM] using this⟩
theorem one_has (l m : Int) : Has1 [⟨l, m⟩] (putK [] l true) := fun q hq => by rw [List.mem_singleton] at hq; subst hq; exact tin_put.2 (.inl rfl)
theorem F138_eq {f : Nat} (hf : 1001 ≤ f) {t : Nat} {x : Pl} {H : List (List Part)} {M : List (List (Int × Bool))} (ha : At9 x t H M) (hH : ∀ p ∈ H, HeapOk p) {l m : Int} (hp : PartOk ⟨l, m⟩) (k fr : Int) :
    ∃ s M', M'.length = (ontoS H [⟨l, m⟩]).length ∧ F138 f x k l fr (t : Int) m = some ([⟨l, m⟩], s, x.put t (ontoS H [⟨l, m⟩]) M') ∧ (Tells H M → Tells (ontoS H [⟨l, m⟩]) M') := by
  unfold F138 F147
  obtain ⟨M', hM, e, hT⟩ := F146_eq hf ha hH (one_ok hp) (by simp) (putK [] l true)
  simp only [Option.bind_some]
  rw [e]
  exact ⟨_, M', hM, rfl, fun k => hT k (one_has l m)⟩
theorem F139_eq {f : Nat} {t : Nat} {x : Pl} {H : List (List Part)} {M : List (List (Int × Bool))} (ha : At9 x t H M) (k l fr m : Int) :
    ∃ s, F139 f x k l fr (t : Int) m = some ([⟨l, m⟩], s, x.put t (H ++ [[⟨l, m⟩]]) (M ++ [putK [] l true])) := by
  unfold F139 F147
  simp only [Option.bind_some]
  rw [F148_put ha (by simp)]
  exact ⟨_, rfl⟩
end Go.Proofs.Ytlmgjjmighajdaa
set_option linter.unusedSimpArgs false
set_option linter.unusedVariables false
namespace Go.Proofs.Ytlmgjjmighajdaa
open Go.Sl Go.Sx
variable {ids : List Int}
theorem drawR_spec : ∀ (r : List (List Part)) (out : List Part) (m : Int), Hold ids r → In ids out → 0 < m → m ≤ sumH r → sumM out + sumH r ≤ 100000000 → 0 ≤ sumM out →
    Hold ids (drawR r out m).1 ∧ In ids (drawR r out m).2 ∧ sumH (drawR r out m).1 = sumH r - m ∧ sumM (drawR r out m).2 = sumM out + m ∧ (drawR r out m).1.length ≤ r.length
  | [], out, m, _, _, h0, h1, _, _ => by simp [sumH] at h1; omega
  | p :: r, out, m, hk, ho, h0, h1, h2, hoo => by
    have hr := hk.tail
    have hsr := hr.sum_pos
    have hp := hk.ins p (by simp)
    have hpp := hp.pos (hk.ne p (by simp))
    have hsum : sumH (p :: r) = sumM p + sumH r := by simp [sumH]
    rw [hsum] at h1 h2 ⊢
    by_cases hle : m ≤ sumM p
    · have c : Cut ids p m := ⟨hp, hk.i8, by omega, by omega, hle⟩
      have htk := c.tk_sum
      have hlf := c.lf_sum
      have hms := merge_sum _ out (tk p m) (Nat.le_refl _)
      simp only [drawR, if_pos hle]
      by_cases hl : lf p m = []
      · rw [if_pos hl]
        rw [hl] at hlf
        simp [sumM] at hlf
        exact ⟨hr, ho.merge c.tk_in (by omega), by simp only [sumM] at *; omega, by omega, by simp⟩
      · rw [if_neg hl]
        refine ⟨⟨hk.i8, fun q hq => ?_, fun q hq => ?_, by have := hk.len; simpa using this⟩, ho.merge c.tk_in (by omega), ?_, by omega, by simp⟩
        · rcases List.mem_cons.1 hq with rfl | hq
          · exact c.lf_in
          · exact hr.ins q hq
        · rcases List.mem_cons.1 hq with rfl | hq
          · exact hl
          · exact hr.ne q hq
        · have : sumH (lf p m :: r) = sumM (lf p m) + sumH r := by simp [sumH]
          omega
    · have c : Cut ids p (sumM p) := ⟨hp, hk.i8, by omega, by omega, Int.le_refl _⟩
      have htk := c.tk_sum
      have hms := merge_sum _ out (tk p (sumM p)) (Nat.le_refl _)
      obtain ⟨a1, a2, a3, a4, a5⟩ := drawR_spec r (mergeP out (tk p (sumM p))) (m - sumM p) hr (ho.merge c.tk_in (by omega)) (by omega) (by omega) (by omega) (by omega)
      simp only [drawR, if_neg hle]
      exact ⟨a1, a2, by omega, by omega, by simp; omega⟩
end Go.Proofs.Ytlmgjjmighajdaa
set_option linter.unusedSimpArgs false
set_option linter.unusedVariables false
namespace Go.Proofs.Ytlmgjjmighajdaa
open Go.Sl Go.Sx
variable {ids : List Int}
theorem Hold.append {H : List (List Part)} {p : List Part} (k : Hold ids H) (hp : In ids p) (ne : p ≠ []) (hl : H.length < 100) : Hold ids (H ++ [p]) :=
  ⟨k.i8, fun q hq => by rcases List.mem_append.1 hq with h | h; exact k.ins q h; simp at h; subst h; exact hp, fun q hq => by rcases List.mem_append.1 hq with h | h; exact k.ne q h; simp at h; subst h; exact ne, by simp; omega⟩
theorem Hold.left {H : List (List Part)} {p : List Part} (k : Hold ids (H ++ [p])) : Hold ids H ∧ In ids p ∧ p ≠ [] :=
  ⟨⟨k.i8, fun q hq => k.ins q (by simp [hq]), fun q hq => k.ne q (by simp [hq]), by have := k.len; simp at this; omega⟩, k.ins p (by simp), k.ne p (by simp)⟩
theorem sumH_one (H : List (List Part)) (p : List Part) : sumH (H ++ [p]) = sumH H + sumM p := by rw [sumH_app]; simp [sumH]
theorem ontoS_spec {H : List (List Part)} (k : Hold ids H) (hl : H.length < 100) {b : List Part} (hb : In ids b) (ne : b ≠ []) (hs : sumH H + sumM b ≤ 100000000) :
    Hold ids (ontoS H b) ∧ sumH (ontoS H b) = sumH H + sumM b ∧ (ontoS H b).length = max 1 H.length := by
  rcases List.eq_nil_or_concat H with rfl | ⟨H', p, rfl⟩
  · refine ⟨⟨k.i8, fun q hq => ?_, fun q hq => ?_, by simp [ontoS_nil]⟩, by simp [ontoS_nil, sumH], by simp [ontoS_nil]⟩
    · rw [ontoS_nil, List.mem_singleton] at hq; subst hq; exact hb
    · rw [ontoS_nil, List.mem_singleton] at hq; subst hq; exact ne
  · have e : H'.concat p = H' ++ [p] := by simp
    rw [e] at k hl hs ⊢
    obtain ⟨k1, k2, k3⟩ := k.left
    have h0 := k1.sum_pos
    rw [sumH_one] at hs ⊢
    rw [ontoS_last, sumH_one, merge_sum _ p b (Nat.le_refl _)]
    refine ⟨k1.append (k2.merge hb (by omega)) (merge_ne (.inr ne)) (by simp at hl; omega), by omega, by simp⟩
end Go.Proofs.Ytlmgjjmighajdaa
set_option linter.unusedSimpArgs false
set_option linter.unusedVariables false
namespace Go.Proofs.Ytlmgjjmighajdaa
open Go.Sl Go.Sx
variable {ids : List Int}
theorem loseL_spec (i8 : ids.length ≤ 40) : ∀ {H : List (List Part)} {d : List Int}, Fit ids H d → ∀ (res : List (List Part)) (out : List Part), Hold ids res → res.length + H.length ≤ 100 → In ids out → 0 ≤ sumM out → sumM out + d.sum ≤ 100000000 →
    Hold ids (loseL H d res out).1 ∧ In ids (loseL H d res out).2 ∧ sumH (loseL H d res out).1 = sumH res + sumH H - d.sum ∧ sumM (loseL H d res out).2 = sumM out + d.sum ∧ (loseL H d res out).1.length ≤ res.length + H.length
  | _, _, .nil, res, out, hr, hl, ho, h0, hs => by simp [loseL, sumH, hr, ho]
  | p :: H, n :: d, .cons c k, res, out, hr, hl, ho, h0, hs => by
    simp only [List.sum_cons, List.length_cons] at hs hl ⊢
    have hsum : sumH (p :: H) = sumM p + sumH H := by simp [sumH]
    have hd0 := k.sum0
    have hc0 := c.m0
    have htk := c.tk_sum
    have hlf := c.lf_sum
    have hms := merge_sum _ out (tk p n) (Nat.le_refl _)
    simp only [loseL]
    by_cases hz : lf p n = []
    · rw [if_pos hz]
      rw [hz] at hlf
      have hlf0 : (0 : Int) = sumM p - n := by simpa [sumM] using hlf
      obtain ⟨a1, a2, a3, a4, a5⟩ := loseL_spec i8 k res (mergeP out (tk p n)) hr (by omega) (ho.merge c.tk_in (by omega)) (by omega) (by omega)
      exact ⟨a1, a2, by omega, by omega, by omega⟩
    · rw [if_neg hz]
      obtain ⟨a1, a2, a3, a4, a5⟩ := loseL_spec i8 k (res ++ [lf p n]) (mergeP out (tk p n)) (hr.append c.lf_in hz (by omega)) (by simp; omega) (ho.merge c.tk_in (by omega)) (by omega) (by omega)
      rw [sumH_one] at a3
      rw [List.length_append] at a5
      simp only [List.length_cons, List.length_nil] at a5
      exact ⟨a1, a2, by omega, by omega, by omega⟩
end Go.Proofs.Ytlmgjjmighajdaa
set_option linter.unusedSimpArgs false
set_option linter.unusedVariables false
namespace Go.Proofs.Ytlmgjjmighajdaa
open Go.Sl Go.Sx
variable {ids : List Int}
def drawS (H : List (List Part)) (m : Int) : List (List Part) × List Part := ((drawR H.reverse [] m).1.reverse, (drawR H.reverse [] m).2)
def mixS (H : List (List Part)) : List (List Part) := match H.reverse with
  | q :: p :: r => r.reverse ++ [mergeP p q]
  | _ => H
theorem mixS_last (H : List (List Part)) (p q : List Part) : mixS (H ++ [p] ++ [q]) = H ++ [mergeP p q] := by simp [mixS]
def doS (holds : List (List (List Part))) (k l fr to m : Int) : List (List (List Part)) × List Part :=
  let F := holds.getD fr.toNat []
  let T := holds.getD to.toNat []
  if k = 1 then (holds.set to.toNat (ontoS T [⟨l, m⟩]), [⟨l, m⟩])
  else if k = 2 then (holds.set to.toNat (T ++ [[⟨l, m⟩]]), [⟨l, m⟩])
  else if k = 3 then (holds.set fr.toNat (drawS F m).1, (drawS F m).2)
  else if k = 4 then ((holds.set fr.toNat (drawS F m).1).set to.toNat (ontoS T (drawS F m).2), (drawS F m).2)
  else if k = 5 then (holds.set fr.toNat (loseS F m).1, (loseS F m).2)
  else (holds.set fr.toNat (mixS F), [])
theorem sumH_rev : ∀ H : List (List Part), sumH H.reverse = sumH H
  | [] => rfl
  | p :: H => by
    rw [List.reverse_cons, sumH_one, sumH_rev H]
    have : sumH (p :: H) = sumM p + sumH H := by simp [sumH]
    omega
theorem Hold.rev {H : List (List Part)} (k : Hold ids H) : Hold ids H.reverse := ⟨k.i8, fun p hp => k.ins p (by simpa using hp), fun p hp => k.ne p (by simpa using hp), by simpa using k.len⟩
theorem drawS_spec {H : List (List Part)} {m : Int} (k : Hold ids H) (h0 : 0 < m) (h1 : m ≤ sumH H) (hs : sumH H ≤ 100000000) :
    Hold ids (drawS H m).1 ∧ In ids (drawS H m).2 ∧ sumH (drawS H m).1 = sumH H - m ∧ sumM (drawS H m).2 = m ∧ (drawS H m).1.length ≤ H.length := by
  obtain ⟨a1, a2, a3, a4, a5⟩ := drawR_spec H.reverse [] m k.rev (In.nil ids) h0 (by rw [sumH_rev]; exact h1) (by rw [sumH_rev]; simp [sumM]; exact hs) (by simp [sumM])
  rw [sumH_rev] at a3
  refine ⟨a1.rev, a2, by unfold drawS; rw [sumH_rev]; exact a3, by unfold drawS; rw [a4]; simp [sumM], by simpa [drawS] using a5⟩
end Go.Proofs.Ytlmgjjmighajdaa
set_option linter.unusedSimpArgs false
set_option linter.unusedVariables false
namespace Go.Proofs.Ytlmgjjmighajdaa
open Go.Sl Go.Sx
def idsOf (lots : List Lot) : List Int := lots.map (·.id)
theorem mem_ids {lots : List Lot} {x : Int} : x ∈ idsOf lots ↔ Has lots x := by simp [idsOf, Has]
theorem GoodHold.hold {lots : List Lot} {H : List (List Part)} (g : GoodHold lots H) (h8 : lots.length ≤ 40) : Hold (idsOf lots) H :=
  ⟨by simpa [idsOf] using h8, fun p hp => ⟨(g.heaps p hp).ok.2.1, (g.heaps p hp).ok.2.2.1, fun q hq => mem_ids.2 ((g.heaps p hp).lots q hq)⟩, fun p hp => (g.heaps p hp).ne, by have := g.len; omega⟩
theorem Hold.good {lots : List Lot} {H : List (List Part)} (k : Hold (idsOf lots) H) (hl : H.length ≤ 4) (hs : sumH H ≤ 100000000) : GoodHold lots H :=
  ⟨hl, fun p hp => ⟨(k.ins p hp).heap (by have := k.i8; omega) (by have := k.one_le p hp; omega), k.ne p hp, fun q hq => mem_ids.1 ((k.ins p hp).ids q hq)⟩, hs⟩
theorem StockOk.set {lots : List Lot} {holds : List (List (List Part))} (s : StockOk lots holds) {t : Nat} {H : List (List Part)} (g : GoodHold lots H) : StockOk lots (holds.set t H) :=
  ⟨s.lok, fun l hl => by rcases List.mem_or_eq_of_mem_set hl with h | rfl; exact s.hok l h; exact g⟩
theorem StockOk.small {lots : List Lot} {holds : List (List (List Part))} (s : StockOk lots holds) (h9 : holds.length = 9) : Small holds :=
  ⟨h9, fun l hl => by have := (s.hok l hl).len; omega, fun l hl p hp => by have := ((s.hok l hl).heaps p hp).ok.1; omega⟩
end Go.Proofs.Ytlmgjjmighajdaa
set_option linter.unusedSimpArgs false
set_option linter.unusedVariables false
namespace Go.Proofs.Ytlmgjjmighajdaa
open Go.Sl Go.Sx
theorem two_last {α : Type} {l : List α} (h : 2 ≤ l.length) : ∃ l' p q, l = l' ++ [p] ++ [q] := by
  rcases List.eq_nil_or_concat l with rfl | ⟨l1, q, rfl⟩
  · simp at h
  · rcases List.eq_nil_or_concat l1 with rfl | ⟨l2, p, rfl⟩
    · simp at h
    · exact ⟨l2, p, q, by simp⟩
theorem mixS_spec {ids : List Int} {H : List (List Part)} (k : Hold ids H) (h2 : 2 ≤ H.length) (hs : sumH H ≤ 100000000) : Hold ids (mixS H) ∧ sumH (mixS H) = sumH H ∧ (mixS H).length ≤ H.length := by
  obtain ⟨H', p, q, rfl⟩ := two_last h2
  obtain ⟨k1, k2, k3⟩ := k.left
  obtain ⟨k4, k5, k6⟩ := k1.left
  have h0 := k4.sum_pos
  have hp := k5.pos k6
  have hq := k2.pos k3
  have hl := k.len
  rw [sumH_one, sumH_one] at hs ⊢
  rw [mixS_last, sumH_one, merge_sum _ p q (Nat.le_refl _)]
  exact ⟨k4.append (k5.merge k2 (by omega)) (merge_ne (.inl k6)) (by simp at hl; omega), by omega, by simp⟩
end Go.Proofs.Ytlmgjjmighajdaa
set_option linter.unusedSimpArgs false
set_option linter.unusedVariables false
namespace Go.Proofs.Ytlmgjjmighajdaa
open Go.Sl Go.Sx
theorem hold_at {lots : List Lot} {holds : List (List (List Part))} (s : StockOk lots holds) (h8 : lots.length ≤ 40) (h9 : holds.length = 9) {t : Nat} (ht : t < 9) : Hold (idsOf lots) (holds.getD t []) ∧ (holds.getD t []).length ≤ 4 ∧ sumH (holds.getD t []) ≤ 100000000 ∧ holds[t]? = some (holds.getD t []) := by
  have h : t < holds.length := by omega
  have e : holds.getD t [] = holds[t] := by simp [h]
  rw [e]
  have g := s.hok _ (List.getElem_mem h)
  exact ⟨g.hold h8, g.len, g.sum, by simp [h]⟩
theorem one_in {lots : List Lot} (hl : LotsOk lots) {l m : Int} (hh : Has lots l) (h0 : 1 ≤ m) (h1 : m ≤ 100000000) : In (idsOf lots) [⟨l, m⟩] := by
  refine ⟨fun p hp => ?_, List.pairwise_singleton _ _, fun p hp => ?_⟩
  · rw [List.mem_singleton] at hp
    subst hp
    obtain ⟨y, hy, e⟩ := hh
    have := hl.2.1 y hy
    exact ⟨by show 1 ≤ l; rw [← e]; exact this.id0, by show l ≤ 9999; rw [← e]; exact this.id1, h0, h1⟩
  · rw [List.mem_singleton] at hp
    subst hp
    exact mem_ids.2 hh
theorem doS_good {lots : List Lot} {holds : List (List (List Part))} (s : StockOk lots holds) (h8 : lots.length ≤ 40) (h9 : holds.length = 9) {k l fr to m : Int} (a : Allowed lots holds k l fr to m) :
    StockOk lots (doS holds k l fr to m).1 ∧ (doS holds k l fr to m).1.length = 9 ∧ In (idsOf lots) (doS holds k l fr to m).2 ∧ sumM (doS holds k l fr to m).2 = m := by
  obtain ⟨f1, f2, f3, f4⟩ := hold_at s h8 h9 (t := fr.toNat) (by have := a.fr0; omega)
  obtain ⟨t1, t2, t3, t4⟩ := hold_at s h8 h9 (t := to.toNat) (by have := a.to0; omega)
  have hk := a.k0
  have hk' : k = 1 ∨ k = 2 ∨ k = 3 ∨ k = 4 ∨ k = 5 ∨ k = 6 := by omega
  unfold doS
  rcases hk' with rfl | rfl | rfl | rfl | rfl | rfl
  · have hm := a.m0 (by omega)
    have h1 := one_in s.lok (a.lot (.inl rfl)) hm.1 hm.2
    have hi := a.into (.inl rfl)
    have hs1 : sumM [(⟨l, m⟩ : Part)] = m := by simp [sumM]
    obtain ⟨b1, b2, b3⟩ := ontoS_spec t1 (by omega) h1 (by simp) (by rw [hs1]; exact hi)
    simp only [if_true]
    exact ⟨s.set (b1.good (by omega) (by omega)), by simp [h9], h1, hs1⟩
  · have hm := a.m0 (by omega)
    have h1 := one_in s.lok (a.lot (.inr rfl)) hm.1 hm.2
    have hi := a.into (.inr (.inl rfl))
    have hr := a.room rfl
    have hs1 : sumM [(⟨l, m⟩ : Part)] = m := by simp [sumM]
    simp only [show ¬ (2 : Int) = 1 by omega, if_false, if_true]
    exact ⟨s.set ((t1.append h1 (by simp) (by omega)).good (by simp only [List.length_append, List.length_cons, List.length_nil]; omega) (by rw [sumH_one, hs1]; exact hi)), by simp [h9], h1, hs1⟩
  · have hm := a.m0 (by omega)
    obtain ⟨d1, d2, d3, d4, d5⟩ := drawS_spec f1 (m := m) (by omega) (a.from_ (.inl rfl)) f3
    simp only [show ¬ (3 : Int) = 1 by omega, show ¬ (3 : Int) = 2 by omega, if_false, if_true]
    exact ⟨s.set (d1.good (by omega) (by omega)), by simp [h9], d2, d4⟩
  · have hm := a.m0 (by omega)
    obtain ⟨d1, d2, d3, d4, d5⟩ := drawS_spec f1 (m := m) (by omega) (a.from_ (.inr (.inl rfl))) f3
    have hi := a.into (.inr (.inr rfl))
    have hne : (drawS (holds.getD fr.toNat []) m).2 ≠ [] := fun e => by rw [e] at d4; simp [sumM] at d4; omega
    obtain ⟨b1, b2, b3⟩ := ontoS_spec t1 (by omega) d2 hne (by rw [d4]; exact hi)
    simp only [show ¬ (4 : Int) = 1 by omega, show ¬ (4 : Int) = 2 by omega, show ¬ (4 : Int) = 3 by omega, if_false, if_true]
    exact ⟨(s.set (d1.good (by omega) (by omega))).set (b1.good (by omega) (by omega)), by simp [h9], d2, d4⟩
  · have hm := a.m0 (by omega)
    have hfr := a.from_ (.inr (.inr rfl))
    have hd := dealOk_hold f1 (by omega) f3 (m := m) (by omega) hfr
    have hfit := fit_hold f1 (by omega) f3 (m := m) (by omega) hfr
    obtain ⟨d1, d2, d3, d4, d5⟩ := loseL_spec f1.i8 hfit [] [] ⟨f1.i8, by simp, by simp, by simp⟩ (by simp only [List.length_nil]; omega) (In.nil _) (by simp [sumM]) (by rw [deal_sum hd]; simp [sumM]; omega)
    rw [deal_sum hd] at d3 d4
    simp only [show ¬ (5 : Int) = 1 by omega, show ¬ (5 : Int) = 2 by omega, show ¬ (5 : Int) = 3 by omega, show ¬ (5 : Int) = 4 by omega, if_false, if_true]
    have e0 : sumH [] = 0 := rfl
    have e1 : sumM [] = 0 := rfl
    exact ⟨s.set (d1.good (by simp only [List.length_nil] at d5; omega) (by omega)), by simp [h9], d2, by unfold loseS; omega⟩
  · obtain ⟨d1, d2, d3⟩ := mixS_spec f1 (a.two rfl) f3
    simp only [show ¬ (6 : Int) = 1 by omega, show ¬ (6 : Int) = 2 by omega, show ¬ (6 : Int) = 3 by omega, show ¬ (6 : Int) = 4 by omega, show ¬ (6 : Int) = 5 by omega, if_false]
    exact ⟨s.set (d1.good (by omega) (by omega)), by simp [h9], In.nil _, by rw [a.m6 rfl]; rfl⟩
end Go.Proofs.Ytlmgjjmighajdaa
set_option linter.unusedSimpArgs false
set_option linter.unusedVariables false
namespace Go.Proofs.Ytlmgjjmighajdaa
open Go.Sl Go.Sx
theorem Hold.heapOk {ids : List Int} {H : List (List Part)} (k : Hold ids H) (hs : sumH H ≤ 100000000) : ∀ p ∈ H, HeapOk p := fun p hp => (k.ins p hp).heap (by have := k.i8; omega) (by have := k.one_le p hp; omega)
theorem F28_end {f : Nat} (hf : 1001 ≤ f) {lots : List Lot} {H holds : List (List (List Part))} (s : StockOk lots H) (h9 : H.length = 9) (hl : lots.length ≤ 40) {mv : List Part} (hm : mv.length ≤ 100) :
    F28_j1 f (lots, holds) H mv = some (lots, H, mv, 0) := by
  unfold F28_j1 F28_j2
  rw [F85_eq (s.small h9) (show lots.length ≤ 100 by omega) hf]
  simp only [Option.bind_some]
  rw [app_small (by simp) (by omega)]
  rfl
theorem F28_eq {f : Nat} (hf : 1001 ≤ f) {lots : List Lot} {holds : List (List (List Part))} (s : StockOk lots holds) (h8 : lots.length ≤ 40) (h9 : holds.length = 9) {k l fr to m : Int} (h24 : F24 f lots holds k l fr to m = some 0) :
    F28 f lots holds k l fr to m = some (lots, (doS holds k l fr to m).1, (doS holds k l fr to m).2, 0) := by
  have a := F24_allowed s h9 (by omega) h24
  obtain ⟨g1, g2, g3, g4⟩ := doS_good s h8 h9 a
  have gl := g3.len
  have gi : (idsOf lots).length ≤ 40 := by simpa [idsOf] using h8
  obtain ⟨f1, f2, f3, f4⟩ := hold_at s h8 h9 (t := fr.toNat) (by have := a.fr0; omega)
  obtain ⟨t1, t2, t3, t4⟩ := hold_at s h8 h9 (t := to.toNat) (by have := a.to0; omega)
  have ef : getI holds fr = some (holds.getD fr.toNat []) := by
    have : fr = (fr.toNat : Int) := by have := a.fr0; omega
    rw [this, getI_opt, Int.toNat_natCast]; exact f4
  have et : getI holds to = some (holds.getD to.toNat []) := by
    have : to = (to.toNat : Int) := by have := a.to0; omega
    rw [this, getI_opt, Int.toNat_natCast]; exact t4
  unfold F28
  rw [h24]
  simp only [Option.bind_some, bne_self_eq_false, cond_false]
  rw [F85_eq (s.small h9) (by omega) hf]
  simp only [Option.bind_some, bq]
  have hk := a.k0
  have hk' : k = 1 ∨ k = 2 ∨ k = 3 ∨ k = 4 ∨ k = 5 ∨ k = 6 := by omega
  rcases hk' with rfl | rfl | rfl | rfl | rfl | rfl
  · have hm := a.m0 (by omega)
    have h1 := one_in s.lok (a.lot (.inl rfl)) hm.1 hm.2
    have hs1 : sumM [(⟨l, m⟩ : Part)] = m := by simp [sumM]
    simp only [doS, if_true, decide_true, cond_true, et, Option.bind_some] at g1 g2 ⊢
    rw [F86_eq hf (by omega) (t1.heapOk t3) (h1.heap (by omega) (by omega))]
    simp only [Option.bind_some]
    exact F28_end hf g1 g2 h8 (by simp)
  · simp only [doS, show ¬ (2 : Int) = 1 by omega, if_false, if_true, decide_true, decide_false, cond_true, cond_false, et, Option.bind_some] at g1 g2 ⊢
    rw [app_small (by omega) (by simp)]
    simp only [Option.bind_some]
    exact F28_end hf g1 g2 h8 (by simp)
  · have hm := a.m0 (by omega)
    simp only [doS, show ¬ (3 : Int) = 1 by omega, show ¬ (3 : Int) = 2 by omega, if_false, if_true, decide_true, decide_false, cond_true, cond_false, ef, Option.bind_some] at g1 g2 gl ⊢
    rw [F87_eq hf f1.rev (by omega) (by rw [sumH_rev]; exact a.from_ (.inl rfl)) (by rw [sumH_rev]; exact f3)]
    simp only [Option.bind_some]
    exact F28_end hf g1 g2 h8 (show (drawS (holds.getD fr.toNat []) m).2.length ≤ 100 by omega)
  · have hm := a.m0 (by omega)
    have hap := a.apart rfl
    have hne : fr.toNat ≠ to.toNat := by have := a.fr0; have := a.to0; omega
    obtain ⟨d1, d2, d3, d4, d5⟩ := drawS_spec f1 (m := m) (by omega) (a.from_ (.inr (.inl rfl))) f3
    have hi := a.into (.inr (.inr rfl))
    simp only [doS, show ¬ (4 : Int) = 1 by omega, show ¬ (4 : Int) = 2 by omega, show ¬ (4 : Int) = 3 by omega, if_false, if_true, decide_true, decide_false, cond_true, cond_false, ef, Option.bind_some] at g1 g2 gl ⊢
    rw [F87_eq hf f1.rev (by omega) (by rw [sumH_rev]; exact a.from_ (.inr (.inl rfl))) (by rw [sumH_rev]; exact f3)]
    have e5 : ∀ v, getI (holds.set fr.toNat v) to = some (holds.getD to.toNat []) := fun v => by
      have : to = (to.toNat : Int) := by have := a.to0; omega
      rw [this, getI_opt, Int.toNat_natCast, List.getElem?_set_ne hne]; exact t4
    simp only [Option.bind_some, e5]
    have e6 : ((drawR (holds.getD fr.toNat []).reverse [] m).1.reverse, (drawR (holds.getD fr.toNat []).reverse [] m).2) = drawS (holds.getD fr.toNat []) m := rfl
    have e7 : (drawR (holds.getD fr.toNat []).reverse [] m).2 = (drawS (holds.getD fr.toNat []) m).2 := rfl
    rw [e7, F86_eq hf (by omega) (t1.heapOk t3) (d2.heap (by omega) (by omega))]
    simp only [Option.bind_some]
    exact F28_end hf g1 g2 h8 (by omega)
  · have hm := a.m0 (by omega)
    simp only [doS, show ¬ (5 : Int) = 1 by omega, show ¬ (5 : Int) = 2 by omega, show ¬ (5 : Int) = 3 by omega, show ¬ (5 : Int) = 4 by omega, if_false, if_true, decide_true, decide_false, cond_true, cond_false, ef, Option.bind_some] at g1 g2 gl ⊢
    rw [F88_eq hf f1 (by omega) f3 (by omega) (a.from_ (.inr (.inr rfl)))]
    simp only [Option.bind_some]
    exact F28_end hf g1 g2 h8 (by omega)
  · obtain ⟨H, p, q, e⟩ := two_last (a.two rfl)
    simp only [doS, show ¬ (6 : Int) = 1 by omega, show ¬ (6 : Int) = 2 by omega, show ¬ (6 : Int) = 3 by omega, show ¬ (6 : Int) = 4 by omega, show ¬ (6 : Int) = 5 by omega, if_false, decide_true, decide_false, cond_true, cond_false, ef, Option.bind_some] at g1 g2 gl ⊢
    have hok := f1.heapOk f3
    rw [e] at hok f2 g1 g2 ⊢
    have hp := hok p (by simp)
    have hq := hok q (by simp)
    simp only [List.length_append, List.length_cons, List.length_nil] at f2
    obtain ⟨m1, m2, m3⟩ := mix_ref hf (H := H) (by omega) hp hq
    rw [m1, m2, m3]
    simp only [Option.bind_some]
    rw [app_small (by simp) (by omega)]
    simp only [Option.bind_some, List.nil_append]
    rw [F89_eq hp hq (by omega)]
    simp only [Option.bind_some]
    rw [app_small (by omega) (by simp)]
    simp only [Option.bind_some]
    rw [mixS_last] at g1 g2 ⊢
    exact F28_end hf g1 g2 h8 (by simp)
end Go.Proofs.Ytlmgjjmighajdaa
set_option linter.unusedSimpArgs false
set_option linter.unusedVariables false
namespace Go.Proofs.Ytlmgjjmighajdaa
open Go.Sl Go.Sx
theorem getD_set {α : Type} (l : List α) (t u : Nat) (v d : α) : (l.set t v).getD u d = if t = u ∧ t < l.length then v else l.getD u d := by
  by_cases e : t = u
  · subst e
    by_cases h : t < l.length
    · simp [h]
    · have : l.length ≤ t := by omega
      simp [List.getElem?_eq_none this, h]
  · simp [List.getElem?_set_ne e, e]
structure PlOk (lots : List Lot) (x : Pl) : Prop where
  el : x.lots = lots
  sok : StockOk lots x.holds
  h9 : x.holds.length = 9
  m9 : x.may.length = 9
  len : ∀ t : Nat, (x.may.getD t []).length = (x.holds.getD t []).length
def PlTells (x : Pl) : Prop := ∀ t : Nat, Tells (x.holds.getD t []) (x.may.getD t [])
theorem PlOk.at9 {lots : List Lot} {x : Pl} (k : PlOk lots x) {t : Nat} (ht : t < 9) : At9 x t (x.holds.getD t []) (x.may.getD t []) := by
  have h1 : t < x.holds.length := by have := k.h9; omega
  have h2 : t < x.may.length := by have := k.m9; omega
  refine ⟨by simp [h1], by simp [h2], k.len t, ?_⟩
  have e : x.holds.getD t [] = x.holds[t] := by simp [h1]
  rw [e]
  have := (k.sok.hok _ (List.getElem_mem h1)).len
  omega
theorem PlOk.put {lots : List Lot} {x : Pl} (k : PlOk lots x) {t : Nat} {H : List (List Part)} {M : List (List (Int × Bool))} (hl : M.length = H.length) (s : StockOk lots (x.holds.set t H)) : PlOk lots (x.put t H M) := by
  refine ⟨k.el, s, by simp [Pl.put, k.h9], by simp [Pl.put, k.m9], fun u => ?_⟩
  simp only [Pl.put, getD_set, k.h9, k.m9]
  split
  · exact hl
  · exact k.len u
theorem PlTells.put {x : Pl} (k : PlTells x) (h9 : x.holds.length = x.may.length) {t : Nat} {H : List (List Part)} {M : List (List (Int × Bool))} (h : Tells H M) : PlTells (x.put t H M) := fun u => by
  simp only [Pl.put, getD_set, h9]
  split
  · exact h
  · exact k u
def MayIn (x y : Pl) (l : Int) : Prop := ∀ t : Nat, ∀ u ∈ y.may.getD t [], u ∈ x.may.getD t [] ∨ u = putK [] l true
theorem MayIn.put {x : Pl} {t : Nat} {H : List (List Part)} {M : List (List (Int × Bool))} {l : Int} (h : ∀ u ∈ M, u ∈ x.may.getD t [] ∨ u = putK [] l true) : MayIn x (x.put t H M) l := fun v u hu => by
  simp only [Pl.put, getD_set] at hu
  split at hu
  · rename_i e; rw [← e.1]; exact h u hu
  · exact .inl hu
theorem F140_eq {f : Nat} (hf : 1001 ≤ f) {ids : List Int} {t : Nat} {x : Pl} {H : List (List Part)} {M : List (List (Int × Bool))} (ha : At9 x t H M) (k : Hold ids H) {m : Int} (h0 : 0 < m) (h1 : m ≤ sumH H) (hs : sumH H ≤ 100000000) (hl : H.length ≤ 90) (a b c : Int) :
    ∃ s' M', M'.length = (drawS H m).1.length ∧ F140 f x a b (t : Int) c m = some ((drawS H m).2, s', x.put t (drawS H m).1 M') ∧ (∀ u ∈ M', u ∈ M) ∧ (Tells H M → Tells (drawS H m).1 M' ∧ Has1 (drawS H m).2 s') := by
  obtain ⟨s', M', e1, e2, e3, e4⟩ := F140_l1_eq hf t H.reverse f x M [] [] m (by simp; omega) k.rev (by simpa using ha) (In.nil ids) h0 (by rw [sumH_rev]; exact h1) (by rw [sumH_rev]; simp [sumM]; exact hs)
  refine ⟨s', M', by simpa [drawS] using e1, ?_, e3, fun kk => ?_⟩
  · unfold F140 F140_j1
    rw [e2]; rfl
  · have := e4 (by simpa using kk) (Has1.nil _)
    exact this
theorem F82_eq {f : Nat} (hf : 1001 ≤ f) {lots : List Lot} (h8 : lots.length ≤ 40) {x : Pl} (p : PlOk lots x) {k l fr to m : Int} (h78 : F78 f lots x.holds k l fr to m = some 0) (a : Allowed lots x.holds k l fr to m) :
    ∃ s y, F82 f x k l fr to m = some ((doS x.holds k l fr to m).2, s, 0, y) ∧ y.holds = (doS x.holds k l fr to m).1 ∧ PlOk lots y ∧ (PlTells x → PlTells y) ∧ (k = 2 ∨ k = 3 ∨ k = 5 → MayIn x y l) := by
  have s := p.sok
  have h9 := p.h9
  have hpl : x.holds.length = x.may.length := by rw [p.h9, p.m9]
  obtain ⟨g1, g2, g3, g4⟩ := doS_good s h8 h9 a
  have gl := g3.len
  have gi : (idsOf lots).length ≤ 40 := by simpa [idsOf] using h8
  obtain ⟨f1, f2, f3, f4⟩ := hold_at s h8 h9 (t := fr.toNat) (by have := a.fr0; omega)
  obtain ⟨t1, t2, t3, t4⟩ := hold_at s h8 h9 (t := to.toNat) (by have := a.to0; omega)
  have af := p.at9 (t := fr.toNat) (by have := a.fr0; omega)
  have at_ := p.at9 (t := to.toNat) (by have := a.to0; omega)
  have efr : (fr.toNat : Int) = fr := by have := a.fr0; omega
  have eto : (to.toNat : Int) = to := by have := a.to0; omega
  have hk := a.k0
  unfold F82
  rw [p.el, h78]
  simp only [Option.bind_some, bne_self_eq_false, cond_false, F125_eq, lkK]
  rcases deeds_at k with ⟨rfl, e⟩ | ⟨rfl, e⟩ | ⟨rfl, e⟩ | ⟨rfl, e⟩ | ⟨rfl, e⟩ | ⟨rfl, e⟩ | ⟨hk, e⟩
  · have hm := a.m0 (by omega)
    have h1 := one_in s.lok (a.lot (.inl rfl)) hm.1 hm.2
    have hpo : PartOk ⟨l, m⟩ := h1.ok _ (by simp)
    obtain ⟨s', M', c1, c2, c3⟩ := F138_eq hf at_ (t1.heapOk t3) hpo 1 fr
    rw [eto] at c2
    simp only [doS, if_true] at g1 ⊢
    simp only [e, Option.getD_some, beq_self_eq_true, cond_true, c2, Option.bind_some]
    exact ⟨s', _, rfl, rfl, p.put c1 g1, fun k => k.put hpl (c3 (k _)), fun h => absurd h (by decide)⟩
  · have hm := a.m0 (by omega)
    obtain ⟨s', c2⟩ := F139_eq (f := f) at_ 2 l fr m
    rw [eto] at c2
    simp only [doS, show ¬ (2 : Int) = 1 by omega, if_false, if_true] at g1 ⊢
    simp only [e, Option.getD_some, show ((some 139 : Option Nat) == some 138) = false from rfl, beq_self_eq_true, cond_true, cond_false, c2, Option.bind_some]
    refine ⟨s', _, rfl, rfl, p.put (by have := at_.len; rw [List.length_append, List.length_append, this]; rfl) g1, fun k => k.put hpl ((k _).append (one_has l m)), fun _ => MayIn.put fun u hu => ?_⟩
    rcases List.mem_append.1 hu with h | h
    · exact .inl h
    · exact .inr (by simpa using h)
  · have hm := a.m0 (by omega)
    obtain ⟨s', M', c1, c2, c3, c4⟩ := F140_eq hf af f1 (m := m) (by omega) (a.from_ (.inl rfl)) f3 (by omega) 3 l to
    rw [efr] at c2
    simp only [doS, show ¬ (3 : Int) = 1 by omega, show ¬ (3 : Int) = 2 by omega, if_false, if_true] at g1 ⊢
    simp only [e, Option.getD_some, show ((some 140 : Option Nat) == some 138) = false from rfl, show ((some 140 : Option Nat) == some 139) = false from rfl, beq_self_eq_true, cond_true, cond_false, c2, Option.bind_some]
    exact ⟨s', _, rfl, rfl, p.put c1 g1, fun k => k.put hpl (c4 (k _)).1, fun _ => MayIn.put fun u hu => .inl (c3 u hu)⟩
  · have hm := a.m0 (by omega)
    have hap := a.apart rfl
    have hne : fr.toNat ≠ to.toNat := by have := a.fr0; have := a.to0; omega
    obtain ⟨d1, d2, d3, d4, d5⟩ := drawS_spec f1 (m := m) (by omega) (a.from_ (.inr (.inl rfl))) f3
    obtain ⟨s', M', c1, c2, c3, c4⟩ := F140_eq hf af f1 (m := m) (by omega) (a.from_ (.inr (.inl rfl))) f3 (by omega) 4 l to
    rw [efr] at c2
    have sg := s.set (t := fr.toNat) (d1.good (by omega) (by omega))
    have p2 := p.put c1 sg
    have hn2 : (drawS (x.holds.getD fr.toNat []) m).2 ≠ [] := fun h => by rw [h] at d4; simp [sumM] at d4; omega
    simp only [doS, show ¬ (4 : Int) = 1 by omega, show ¬ (4 : Int) = 2 by omega, show ¬ (4 : Int) = 3 by omega, if_false, if_true] at g1 gl g3 ⊢
    obtain ⟨M2, b1, b2, b3⟩ := F146_eq hf (at_.other hne (H' := (drawS (x.holds.getD fr.toNat []) m).1) (M' := M')) (t1.heapOk t3) (g3.heap (by omega) (by omega)) hn2 s'
    rw [eto] at b2
    simp only [e, Option.getD_some, show ((some 141 : Option Nat) == some 138) = false from rfl, show ((some 141 : Option Nat) == some 139) = false from rfl, show ((some 141 : Option Nat) == some 140) = false from rfl, beq_self_eq_true, cond_true, cond_false, F141, c2, b2, Option.bind_some]
    refine ⟨s', _, rfl, rfl, p2.put b1 g1, fun k => ?_, fun h => absurd h (by decide)⟩
    obtain ⟨k1, k2⟩ := c4 (k _)
    exact (k.put hpl k1).put (by simp [Pl.put, hpl]) (b3 (k _) k2)
  · have hm := a.m0 (by omega)
    obtain ⟨s', M', c1, c2, c3, c4⟩ := F142_eq hf af f1 (by omega) f3 (m := m) (by omega) (a.from_ (.inr (.inr rfl))) 5 l to
    rw [efr] at c2
    simp only [doS, show ¬ (5 : Int) = 1 by omega, show ¬ (5 : Int) = 2 by omega, show ¬ (5 : Int) = 3 by omega, show ¬ (5 : Int) = 4 by omega, if_false, if_true] at g1 ⊢
    simp only [e, Option.getD_some, show ((some 142 : Option Nat) == some 138) = false from rfl, show ((some 142 : Option Nat) == some 139) = false from rfl, show ((some 142 : Option Nat) == some 140) = false from rfl, show ((some 142 : Option Nat) == some 141) = false from rfl, beq_self_eq_true, cond_true, cond_false, c2, Option.bind_some]
    exact ⟨s', _, rfl, rfl, p.put c1 g1, fun k => k.put hpl (c4 (k _)), fun _ => MayIn.put fun u hu => .inl (c3 u hu)⟩
  · obtain ⟨H, p', q, eH⟩ := two_last (a.two rfl)
    have hok := f1.heapOk f3
    have hne := f1.ne
    rw [eH] at hok hne
    have af' := af
    rw [eH] at af'
    obtain ⟨M', c1, c2, c3⟩ := F143_eq hf af' (hok p' (by simp)) (hok q (by simp)) (hne q (by simp)) 6 l to m
    rw [efr] at c2
    simp only [doS, show ¬ (6 : Int) = 1 by omega, show ¬ (6 : Int) = 2 by omega, show ¬ (6 : Int) = 3 by omega, show ¬ (6 : Int) = 4 by omega, show ¬ (6 : Int) = 5 by omega, if_false, eH, mixS_last] at g1 ⊢
    simp only [e, Option.getD_some, show ((some 143 : Option Nat) == some 138) = false from rfl, show ((some 143 : Option Nat) == some 139) = false from rfl, show ((some 143 : Option Nat) == some 140) = false from rfl, show ((some 143 : Option Nat) == some 141) = false from rfl, show ((some 143 : Option Nat) == some 142) = false from rfl, beq_self_eq_true, cond_true, cond_false, c2, Option.bind_some]
    exact ⟨[], _, rfl, rfl, p.put c1 g1, fun k => k.put hpl (c3 (by have := k fr.toNat; rwa [eH] at this)), fun h => absurd h (by decide)⟩
  · omega
theorem F82_no {f : Nat} {x : Pl} {k l fr to m r : Int} (h : F78 f x.lots x.holds k l fr to m = some r) (hr : r ≠ 0) : F82 f x k l fr to m = some ([], [], r, x) := by
  unfold F82
  have : (r != 0) = true := by simpa using hr
  rw [h, Option.bind_some, this, cond_true]
end Go.Proofs.Ytlmgjjmighajdaa
set_option linter.unusedSimpArgs false
set_option linter.unusedVariables false
namespace Go.Proofs.Ytlmgjjmighajdaa
open Go.Sl Go.Sx
theorem getD_map {α β : Type} (g : List α → List β) (hg : g [] = []) (l : List (List α)) (t : Nat) : (l.map g).getD t [] = g (l.getD t []) := by
  by_cases h : t < l.length
  · simp [h]
  · have : l.length ≤ t := by omega
    simp [List.getElem?_eq_none this, hg]
def plOf (lots : List Lot) (holds : List (List (List Part))) : Pl := ⟨lots, holds, mayOf holds⟩
theorem plOf_ok {lots : List Lot} {holds : List (List (List Part))} (s : StockOk lots holds) (h9 : holds.length = 9) : PlOk lots (plOf lots holds) where
  el := rfl
  sok := s
  h9 := h9
  m9 := by simp [plOf, mayOf, h9]
  len t := by
    show ((mayOf holds).getD t []).length = (holds.getD t []).length
    unfold mayOf
    rw [getD_map _ rfl]
    simp
theorem F78_of {f : Nat} {lots : List Lot} {holds : List (List (List Part))} (s : StockOk lots holds) (h9 : holds.length = 9) (hf : 40 < f) (k l fr to m : Int) :
    ∃ r, F78 f lots holds k l fr to m = some r ∧ F24 f lots holds k l fr to m = some r := by
  obtain ⟨r, e1, e2⟩ := check_eq s h9 hf k l fr to m
  rcases F22_eq (lots := lots) h9 hf with ⟨_, e⟩ | ⟨hn, _⟩
  · exact ⟨r, e1, e2 e⟩
  · exact absurd s hn
theorem F27_eq {f : Nat} (hf : 1001 ≤ f) {lots : List Lot} {holds : List (List (List Part))} (s : StockOk lots holds) (h8 : lots.length ≤ 40) (h9 : holds.length = 9) {k l fr to m : Int} (h24 : F24 f lots holds k l fr to m = some 0) :
    F27 f lots holds k l fr to m = some (lots, (doS holds k l fr to m).1, (doS holds k l fr to m).2, 0) := by
  have a := F24_allowed s h9 (by omega) h24
  obtain ⟨g1, g2, g3, g4⟩ := doS_good s h8 h9 a
  obtain ⟨r, e1, e2⟩ := F78_of s h9 (by omega : 40 < f) k l fr to m
  have hr : r = 0 := by rw [e2] at h24; exact Option.some.inj h24
  subst hr
  obtain ⟨s', y, d1, d2, d3, _, _⟩ := F82_eq hf h8 (plOf_ok s h9) e1 a
  have gi : (idsOf lots).length ≤ 40 := by simpa [idsOf] using h8
  have e0 := g3.len
  change F82 f (plOf lots holds) k l fr to m = some ((doS holds k l fr to m).2, s', 0, y) at d1
  change y.holds = (doS holds k l fr to m).1 at d2
  unfold F27
  rcases F21_eq (lots := lots) h9 (by omega : 40 < f) with ⟨_, e⟩ | ⟨hn, _⟩
  · rw [e]
    simp only [Option.bind_some, bne_self_eq_false, cond_false]
    rw [F81_eq (s.small h9) (by omega) hf]
    simp only [Option.bind_some]
    change (F82 f (plOf lots holds) k l fr to m).bind _ = _
    rw [d1]
    simp only [Option.bind_some, bne_self_eq_false, cond_false]
    rw [d3.el, d2, F83_eq (g1.small g2) (by omega) hf]
    simp only [Option.bind_some]
    rw [F84_eq (by omega)]
    rfl
  · exact absurd s hn
abbrev Holds := List (List (List Part))
def nine : Holds := [[], [], [], [], [], [], [], [], []]
def doD (h : Holds) (d : Deed) : Holds := (doS h d.kind d.lot d.frm d.to d.mass).1
def run (h : Holds) (ds : List Deed) : Holds := ds.foldl doD h
end Go.Proofs.Ytlmgjjmighajdaa
set_option linter.unusedSimpArgs false
set_option linter.unusedVariables false
namespace Go.Proofs.Ytlmgjjmighajdaa
open Go.Sl Go.Sx
theorem part_beq' (p q : Part) : ((p.lot == q.lot) && ((p.mass == q.mass) && true)) = decide (p = q) := by
  obtain ⟨a, b⟩ := p
  obtain ⟨c, d⟩ := q
  by_cases h1 : a = c <;> by_cases h2 : b = d <;> simp [h1, h2]
theorem lot_beq (p q : Lot) : ((p.id == q.id) && ((p.owner == q.owner) && ((p.grade == q.grade) && ((p.wet == q.wet) && true)))) = decide (p = q) := by
  obtain ⟨a, b, c, d⟩ := p
  obtain ⟨a', b', c', d'⟩ := q
  by_cases h1 : a = a' <;> by_cases h2 : b = b' <;> by_cases h3 : c = c' <;> by_cases h4 : d = d' <;> simp [h1, h2, h3, h4]
theorem cmp_loop {α ρ : Type} [DecidableEq α] {L : Nat → Int → Option ρ} {a b : List α} {no yes : Option ρ} (hl : a.length = b.length)
    (h : ∀ n i (h1 : i < a.length) (h2 : i < b.length), L (n + 1) (i : Int) = if a[i] = b[i] then L n ((i + 1 : Nat) : Int) else no)
    (he : ∀ n, L (n + 1) (a.length : Int) = yes) {n : Nat} (hn : a.length < n) : L n 0 = if a = b then yes else no := by
  have key := loop_all0 (L := L) (len := a.length) (good := fun j => ∀ h : j < a.length, a[j] = b[j]'(by omega)) (no := no) (yes := yes) (fun n i hi => by
    have hib : i < b.length := by omega
    rw [h n i hi hib]
    by_cases hh : a[i] = b[i]
    · exact .inl ⟨fun _ => hh, if_pos hh⟩
    · exact .inr ⟨fun k => hh (k hi), if_neg hh⟩) he hn
  rcases key with ⟨hg, e⟩ | ⟨hg, e⟩
  · have : a = b := List.ext_getElem hl fun i h1 h2 => hg i h1 h1
    rw [e, if_pos this]
  · have : ¬ a = b := fun e => hg fun j hj _ => by subst e; rfl
    rw [e, if_neg this]
theorem ne_len {α : Type} {a b : List α} : ((a.length : Int) != (b.length : Int)) = !decide (a.length = b.length) := by
  by_cases h : a.length = b.length
  · simp [h]
  · have : ¬ (a.length : Int) = (b.length : Int) := by omega
    simp [h, this]
theorem F29_refl {f : Nat} (hf : 1001 ≤ f) (lots : List Lot) (hl : lots.length ≤ 100) {a : Holds} (ha : Small a) : F29 f lots a lots a = some true := by
  have a9 := ha.n9
  have h3 : ∀ k i (h1 : i < a.length), F29_l3 f k a a (i : Int) f 0 = k ((i + 1 : Nat) : Int) := fun k i h1 => by
    have s1 := ha.len _ (List.getElem_mem h1)
    have key := from_st (T := fun n j => F29_l3 f k a a (i : Int) n (j : Int)) (len := a[i].length) (n := f) (out := k ((i + 1 : Nat) : Int)) (by omega)
      (fun n j hj => by
        have s2 := ha.heaps _ (List.getElem_mem h1) _ (List.getElem_mem hj)
        simp only [F29_l3, getI_nat h1, Option.bind_some, lt_len, hj, decide_true, cond_true, getI_nat hj]
        have e : F26 f a[i][j] a[i][j] = some true := by
          unfold F26
          rw [ne_len, decide_eq_true rfl, Bool.not_true, cond_false, cmp_loop (L := F26_l1 a[i][j] a[i][j]) (a := a[i][j]) (b := a[i][j]) rfl (no := some false) (yes := some true) (fun n m h1 h2 => by
            simp only [F26_l1, lt_len, h1, decide_true, cond_true, getI_nat h1, Option.bind_some, part_beq', Bool.not_true, cond_false, if_true]
            rw [succ_w (by omega)]) (fun n => by simp [F26_l1]) (by omega)]
          simp
        rw [e]
        simp only [Option.bind_some, Bool.not_true, cond_false]
        rw [succ_w (by omega)])
      (fun n => by
        simp only [F29_l3, getI_nat h1, Option.bind_some, lt_len, Nat.lt_irrefl, decide_false, cond_false]
        rw [succ_w (by omega)])
    exact key
  have h2 : F29_l2 f a a f 0 = some true := by
    have key := from_st (T := fun n j => F29_l2 f a a n (j : Int)) (len := 9) (n := f) (out := some true) (by omega)
      (fun n i hi => by
        have h1 : i < a.length := by omega
        have hd : decide ((i : Int) < 9) = true := decide_eq_true (by omega)
        simp only [F29_l2, hd, cond_true, getI_nat h1, Option.bind_some, bne_self_eq_false, cond_false]
        exact h3 _ i h1)
      (fun n => by simp [F29_l2])
    exact key
  unfold F29
  rw [bne_self_eq_false, cond_false]
  have key := from_st (T := fun n j => F29_l1 f lots a lots a n (j : Int)) (len := lots.length) (n := f) (out := some true) (by omega)
    (fun n j hj => by
      simp only [F29_l1, lt_len, hj, decide_true, cond_true, getI_nat hj, Option.bind_some, lot_beq, Bool.not_true, cond_false]
      rw [succ_w (by omega)])
    (fun n => by simp only [F29_l1, lt_len, Nat.lt_irrefl, decide_false, cond_false]; exact h2)
  exact key
theorem F28_no {f : Nat} {lots : List Lot} {holds : List (List (List Part))} {k l fr to m r : Int} (h : F24 f lots holds k l fr to m = some r) (hr : r ≠ 0) : F28 f lots holds k l fr to m = some ([], [[], [], [], [], [], [], [], [], []], [], r) := by
  have hb : (r != 0) = true := by simpa using hr
  unfold F28
  rw [h, Option.bind_some, hb, cond_true]
theorem small_nine : Small [[], [], [], [], [], [], [], [], []] := ⟨rfl, fun l hl => by simp at hl; subst hl; simp, fun l hl p hp => by simp at hl; subst hl; cases hp⟩
theorem do_same {f : Nat} (hf : 1001 ≤ f) {lots : List Lot} {holds : List (List (List Part))} (h9 : holds.length = 9) (k l fr to m : Int) :
    ∃ L H mv e, F27 f lots holds k l fr to m = some (L, H, mv, e) ∧ F28 f lots holds k l fr to m = some (L, H, mv, e) ∧ L.length ≤ 100 ∧ Small H ∧ mv.length ≤ 100 := by
  rcases F21_eq (lots := lots) h9 (by omega : 40 < f) with ⟨s, e21⟩ | ⟨hn, e21⟩
  · have h40 := s.lok.1
    obtain ⟨r, e1, e2⟩ := F78_of s h9 (by omega : 40 < f) k l fr to m
    by_cases hr : r = 0
    · subst hr
      obtain ⟨g1, g2, g3, g4⟩ := doS_good s h40 h9 (F24_allowed s h9 (by omega) e2)
      have gl := g3.len
      have gi : (idsOf lots).length ≤ 40 := by simpa [idsOf] using h40
      exact ⟨_, _, _, _, F27_eq hf s h40 h9 e2, F28_eq hf s h40 h9 e2, by omega, g1.small g2, by omega⟩
    · refine ⟨_, _, _, _, ?_, F28_no e2 hr, by simp, small_nine, by simp⟩
      have hb : (r != 0) = true := by simpa using hr
      unfold F27
      rw [e21]
      simp only [Option.bind_some, bne_self_eq_false, cond_false]
      rw [F81_eq (s.small h9) (by omega) hf]
      simp only [Option.bind_some]
      rw [F82_no (x := ⟨lots, holds, mayOf holds⟩) e1 hr]
      simp only [Option.bind_some, hb, cond_true]
  · refine ⟨[], [[], [], [], [], [], [], [], [], []], [], 62, ?_, ?_, by simp, small_nine, by simp⟩
    · unfold F27
      rw [e21]; rfl
    · refine F28_no (r := 62) ?_ (by omega)
      rcases F22_eq (lots := lots) h9 (by omega : 40 < f) with ⟨s, _⟩ | ⟨_, e22⟩
      · exact absurd s hn
      · unfold F24
        rw [e22]; rfl
theorem F26_refl {f : Nat} (hf : 1001 ≤ f) {a : List Part} (h : a.length ≤ 100) : F26 f a a = some true := by
  unfold F26
  rw [ne_len, decide_eq_true rfl, Bool.not_true, cond_false, cmp_loop (L := F26_l1 a a) (a := a) (b := a) rfl (no := some false) (yes := some true) (fun n m h1 h2 => by
    simp only [F26_l1, lt_len, h1, decide_true, cond_true, getI_nat h1, Option.bind_some, part_beq', Bool.not_true, cond_false, if_true]
    rw [succ_w (by omega)]) (fun n => by simp [F26_l1]) (by omega)]
  simp
theorem F5_gen {f : Nat} (hf : 1001 ≤ f) (hsane : F16 f = some true) (lots : List Lot) (holds : List (List (List Part))) (h9 : holds.length = 9) (k l fr to m : Int) : F5 f lots holds k l fr to m = some true := by
  obtain ⟨L, H, mv, e, d1, d2, d3, d4, d5⟩ := do_same hf (lots := lots) h9 k l fr to m
  have bs : ∀ {α β : Type} {o : Option α} {a : α} {g : α → Option β} {r : Option β}, o = some a → g a = r → o.bind g = r := fun h k => by rw [h]; exact k
  have ct : ∀ {α : Type} {c : Bool} {a b r : α}, c = true → a = r → cond c a b = r := fun h k => by rw [h]; exact k
  unfold F5
  refine bs hsane (bs d1 (bs d2 (bs (F29_refl hf L d3 d4) (bs (F26_refl hf (show mv.length ≤ 100 from d5)) ?_))))
  refine ct rfl (ct rfl (ct rfl ?_))
  unfold F5_j1
  rw [beq_self_eq_true]
theorem sane_2000 : F16 2000 = some true := by kernel_rfl
theorem F5_true' (lots : List Lot) (holds : List (List (List Part))) (k l fr to m : Int) (h9 : holds.length = 9) : ∃ fuel, F5 fuel lots holds k l fr to m = some true := ⟨2000, F5_gen (by omega) sane_2000 lots holds h9 k l fr to m⟩
end Go.Proofs.Ytlmgjjmighajdaa
set_option linter.unusedVariables false
namespace Go.Sx
open Go.Sl Go.RowKit Go.ChangeShapes
def I64 (n : Int) : Prop := -9223372036854775808 ≤ n ∧ n ≤ 9223372036854775807
def Opens {α : Type} (P : Program) (t : TypeId) (T : Ty α) (ok : α → Prop) : Prop :=
  ∀ (H : Type) (enc : TypeId × Value → H) (W : World) (fuel : Nat) (cs : List Value) (d : DataW H × List MemPlace),
    DataW.trod enc P W 0 (fun _ => true) true fuel t cs = some d → ∃ x, T.rep (Zone.all W) cs x ∧ ok x
theorem mapM_mem {α β : Type} {f : α → Option β} : ∀ {l : List α} {ys : List β}, l.mapM f = some ys → ∀ a ∈ l, ∃ y, f a = some y
  | [], _, _, a, ha => by cases ha
  | x :: l, ys, h, a, ha => by
    rw [List.mapM_cons] at h
    cases hx : f x with
    | none => rw [hx] at h; simp at h
    | some y =>
      rw [hx] at h
      simp only [Option.pure_def, Option.bind_eq_bind, Option.bind_some] at h
      cases hl : l.mapM f with
      | none => rw [hl] at h; simp at h
      | some zs =>
        rcases List.mem_cons.1 ha with e | e
        · subst e; exact ⟨y, hx⟩
        · exact mapM_mem hl a e
section
variable {H : Type} {enc : TypeId × Value → H} {P : Program} {W : World} {fuel : Nat} {t : TypeId} {cs : List Value} {d : DataW H × List MemPlace}
theorem trod_fields {fs : Array Field} (ht : P.underlying t = some (.struct fs)) (h : DataW.trod enc P W 0 (fun _ => true) true fuel t cs = some d) :
    cs.length = P.cellsOf t ∧ ∃ n, ∀ f ∈ fs.toList, ∃ y, DataW.trod enc P W 0 (fun _ => true) true n f.type ((cs.drop f.offset).take (P.cellsOf f.type)) = some y := by
  cases fuel with
  | zero => simp [DataW.trod] at h
  | succ n =>
    simp only [DataW.trod, ht] at h
    by_cases hl : cs.length = P.cellsOf t
    · rw [if_pos hl] at h
      refine ⟨hl, n, fun f hf => ?_⟩
      cases hm : fs.toList.mapM fun f => DataW.trod enc P W 0 (fun _ => true) true n f.type ((cs.drop f.offset).take (P.cellsOf f.type)) with
      | none => rw [hm] at h; simp at h
      | some ys => exact mapM_mem hm f hf
    · rw [if_neg hl] at h; cases h
theorem trod_items {m : Nat} {e : TypeId} (ht : P.underlying t = some (.array m e)) (h : DataW.trod enc P W 0 (fun _ => true) true fuel t cs = some d) :
    cs.length = P.cellsOf t ∧ ∃ n, ∀ i, i < m → ∃ y, DataW.trod enc P W 0 (fun _ => true) true n e ((cs.drop (i * P.cellsOf e)).take (P.cellsOf e)) = some y := by
  cases fuel with
  | zero => simp [DataW.trod] at h
  | succ n =>
    simp only [DataW.trod, ht] at h
    by_cases hl : cs.length = P.cellsOf t
    · rw [if_pos hl] at h
      refine ⟨hl, n, fun i hi => ?_⟩
      cases hm : (List.range m).mapM fun i => DataW.trod enc P W 0 (fun _ => true) true n e ((cs.drop (i * P.cellsOf e)).take (P.cellsOf e)) with
      | none => rw [hm] at h; simp at h
      | some ys => exact mapM_mem hm i (List.mem_range.2 hi)
    · rw [if_neg hl] at h; cases h
end
def allInt (P : Program) : Nat → TypeId → Bool
  | 0, _ => false
  | f + 1, t => match P.underlying t with
    | some (.int .i64) => true
    | some (.struct fs) => fs.toList.all (fun x => allInt P f x.type) && (List.range (P.cellsOf t)).all fun i => fs.toList.any fun x => Nat.ble x.offset i && Nat.blt i (x.offset + P.cellsOf x.type)
    | some (.array n e) => allInt P f e && (List.range (P.cellsOf t)).all fun i => Nat.blt (i / P.cellsOf e) n && Nat.blt 0 (P.cellsOf e)
    | _ => false
def IntCells (cs : List Value) : Prop := ∀ (i : Nat) (c : Value), cs[i]? = some c → ∃ n : Int, c = Value.int .i64 n ∧ I64 n
theorem wf_I64 {n : Int} (h : (Lit.int .i64 n).wf = true) : I64 n := by
  have e1 : IntKind.i64.min = -9223372036854775808 := by decide
  have e2 : IntKind.i64.max = 9223372036854775807 := by decide
  simp only [Lit.wf, e1, e2, Bool.and_eq_true, decide_eq_true_eq] at h
  exact h
theorem allInt_spec {H : Type} {enc : TypeId × Value → H} {P : Program} {W : World} : ∀ (f : Nat) {t : TypeId} (_ : allInt P f t = true) {fuel : Nat} {cs : List Value} {d : DataW H × List MemPlace},
    DataW.trod enc P W 0 (fun _ => true) true fuel t cs = some d → IntCells cs
  | 0, _, h, _, _, _, _ => by cases h
  | f + 1, t, h, fuel, cs, d, hd => by
    unfold allInt at h
    split at h
    · rename_i ht
      obtain ⟨n, rfl, _, hw⟩ := DataW.trod_int ht hd
      intro i c hi
      cases i with
      | zero => simp only [List.getElem?_cons_zero, Option.some.injEq] at hi; exact ⟨n, hi.symm, wf_I64 hw⟩
      | succ i => simp at hi
    · rename_i fs ht
      simp only [Bool.and_eq_true, List.all_eq_true, List.any_eq_true, List.mem_range, Nat.ble_eq, Nat.blt_eq] at h
      obtain ⟨h1, h2⟩ := h
      obtain ⟨hl, n, hf⟩ := trod_fields ht hd
      intro i c hi
      have hlt : i < cs.length := (List.getElem?_eq_some_iff.1 hi).1
      obtain ⟨x, hx, ho, hu⟩ := h2 i (by omega)
      obtain ⟨y, hy⟩ := hf x hx
      refine allInt_spec f (h1 x hx) hy (i - x.offset) c ?_
      rw [List.getElem?_take, if_pos (by omega), List.getElem?_drop, show x.offset + (i - x.offset) = i by omega]
      exact hi
    · rename_i m e ht
      simp only [Bool.and_eq_true, List.all_eq_true, List.mem_range, Nat.blt_eq] at h
      obtain ⟨h1, h2⟩ := h
      obtain ⟨hl, n, hf⟩ := trod_items ht hd
      intro i c hi
      have hlt : i < cs.length := (List.getElem?_eq_some_iff.1 hi).1
      obtain ⟨hq, hp⟩ := h2 i (by omega)
      obtain ⟨y, hy⟩ := hf _ hq
      have hmod := Nat.mod_lt i hp
      have hdm := Nat.div_add_mod i (P.cellsOf e)
      rw [Nat.mul_comm] at hdm
      refine allInt_spec f h1 hy (i % P.cellsOf e) c ?_
      rw [List.getElem?_take, if_pos hmod, List.getElem?_drop, hdm]
      exact hi
    · cases h
theorem opens_ints {α : Type} {P : Program} {t : TypeId} {T : Ty α} {ok : α → Prop} (k : Nat) (hk : P.cellsOf t = k) (hs : (match P.underlying t with | some (.struct _) => true | some (.array _ _) => true | _ => false) = true) (ha : allInt P 8 t = true)
    (mk : ∀ (h : Zone) (l : List Int), l.length = k → (∀ n ∈ l, I64 n) → ∃ x, T.rep h (l.map fun n => .int .i64 n) x ∧ ok x) : Opens P t T ok := fun H enc W fuel cs d h => by
  have hi := allInt_spec 8 ha h
  have hl : cs.length = k := by
    split at hs
    · rename_i fs ht; rw [(trod_fields ht h).1, hk]
    · rename_i m e ht; rw [(trod_items ht h).1, hk]
    · cases hs
  have key : ∀ cs : List Value, IntCells cs → ∃ l : List Int, cs = l.map (fun n => .int .i64 n) ∧ ∀ n ∈ l, I64 n := by
    intro cs
    induction cs with
    | nil => exact fun _ => ⟨[], rfl, fun _ h => by cases h⟩
    | cons c cs ih =>
      intro hc
      obtain ⟨n, rfl, hn⟩ := hc 0 c rfl
      obtain ⟨l, rfl, hl⟩ := ih (fun i c hi => hc (i + 1) c (by simpa using hi))
      exact ⟨n :: l, rfl, fun m hm => by rcases List.mem_cons.1 hm with e | e; exact e ▸ hn; exact hl m e⟩
  obtain ⟨l, rfl, hn⟩ := key cs hi
  exact mk _ l (by simpa using hl) hn
theorem opens_slice {α : Type} {P : Program} {t e : TypeId} {T : Ty α} {ok : α → Prop} (ht : P.underlying t = some (.slice e)) (he : P.cellsOf e = T.size) (h : Opens P e T ok) : Opens P t (Ty.slice T) (fun xs => (∀ x ∈ xs, ok x) ∧ xs.length ≤ maxLen) := fun H enc W fuel cs d hd => by
  rcases Go.Deep.open_slice ht hd with ⟨rfl, _⟩ | ⟨a, len, cap, m, n, D, Pl, rfl, _, hl, hm, hmm, _, hx⟩
  · exact ⟨[], ⟨none, 0, rfl, SliceR.nil' T _⟩, ⟨(fun _ h => by cases h), by simp⟩⟩
  · simp only [if_true] at hmm
    have hall : ∀ i, i < len → ∃ x, (∃ c, T.rep (Zone.all W) c x ∧ ∀ j v, c[j]? = some v → (Zone.all W).cell? ((a.add (i * T.size)).add j) = some v) ∧ ok x := fun i hi => by
      obtain ⟨cs', h1, h2⟩ := hx i (by omega)
      obtain ⟨x, hr, ho⟩ := h H enc W n cs' _ h2
      refine ⟨x, ⟨cs', hr, fun j v hj => ?_⟩, ho⟩
      rw [he] at h1
      obtain ⟨_, hlen, hc⟩ := World.cells?_some h1
      have hlt : j < cs'.length := (List.getElem?_eq_some_iff.1 hj).1
      exact (hc j (by omega)).trans hj
    have key : ∀ k, k ≤ len → ∃ xs : List α, xs.length = k ∧ (∀ x ∈ xs, ok x) ∧ ∀ i x, xs[i]? = some x → ∃ c, T.rep (Zone.all W) c x ∧ ∀ j v, c[j]? = some v → (Zone.all W).cell? ((a.add (i * T.size)).add j) = some v := by
      intro k
      induction k with
      | zero => exact fun _ => ⟨[], rfl, (fun _ h => by cases h), (fun i x h => by simp at h)⟩
      | succ k ih =>
        intro hk
        obtain ⟨xs, h1, h2, h3⟩ := ih (by omega)
        obtain ⟨x, hx1, hx2⟩ := hall k (by omega)
        refine ⟨xs ++ [x], by simp [h1], fun y hy => ?_, fun i y hy => ?_⟩
        · rcases List.mem_append.1 hy with e | e
          · exact h2 y e
          · simp only [List.mem_singleton] at e; exact e ▸ hx2
        · rw [List.getElem?_append] at hy
          split at hy
          · exact h3 i y hy
          · rename_i hge
            have : i - xs.length = 0 := by
              have := (List.getElem?_eq_some_iff.1 hy).1
              simp at this; omega
            rw [this] at hy
            simp only [List.getElem?_cons_zero, Option.some.injEq] at hy
            subst hy
            have : i = k := by omega
            subst this
            exact hx1
    obtain ⟨xs, h1, h2, h3⟩ := key len (Nat.le_refl _)
    refine ⟨xs, ⟨some a, cap, by rw [h1], ⟨by omega, hm, (fun e => by cases e), fun b e i x hi => ?_⟩⟩, ⟨h2, by omega⟩⟩
    cases e
    exact h3 i x hi
section
variable {H : Type} {enc : TypeId × Value → H} {P : Program} {W : World} {base : Nat} {t : TypeId} {v : Value} {d : DataW H} {ps : List MemPlace}
theorem arg_agg {α : Type} {T : Ty α} {ok : α → Prop} (hs : (match P.underlying t with | some (.struct _) => true | some (.array _ _) => true | _ => false) = true) (hv : Value.okWide P W .any base t v) (h : DataW.Trod enc P W 0 (fun _ => true) true t v d ps) (ho : Opens P t T ok) :
    ∃ cs x, v = .agg cs.toArray ∧ T.rep (Zone.all W) cs x ∧ ok x := by
  obtain ⟨fuel, hf⟩ := h
  obtain ⟨x, hx, hok⟩ := ho H enc W fuel _ _ hf
  have : ∃ cs, v = .agg cs := by
    unfold Value.okWide at hv
    split at hs
    · rename_i fs ht; rw [ht] at hv; obtain ⟨cs, e, _⟩ := hv; exact ⟨cs, e⟩
    · rename_i m e ht; rw [ht] at hv; obtain ⟨cs, e, _⟩ := hv; exact ⟨cs, e⟩
    · cases hs
  obtain ⟨cs, rfl⟩ := this
  exact ⟨cs.toList, x, rfl, hx, hok⟩
theorem trodAll_stays (hl : laidOutB P = true) {W' : World} (hb : Below W.heap.size W W') : ∀ {ts : List TypeId} {vs : List Value} {ds : List (DataW H)} {ps : List MemPlace}, (ts.all fun t => P.readableRec t && Nat.blt t P.types.size) = true →
    DataW.TrodAll enc P W 0 (fun _ => true) true ts vs ds ps → (∀ p ∈ ps, p.block < W.heap.size) → DataW.TrodAll enc P W' 0 (fun b => decide (b < W.heap.size)) true ts vs ds ps
  | [], [], [], _, _, h, _ => h
  | t :: ts, v :: vs, d :: ds, _, hr, ⟨p, q, h1, h2, e⟩, hlt => by
    simp only [List.all_cons, Bool.and_eq_true, Nat.blt_eq] at hr
    subst e
    exact ⟨p, q, Below.trod hl hr.1.1 hr.1.2 h1 hb (fun x hx => hlt x (List.mem_append_left _ hx)), trodAll_stays hl hb hr.2 h2 (fun x hx => hlt x (List.mem_append_right _ hx)), rfl⟩
  | [], _ :: _, _, _, _, h, _ => h.elim
  | [], [], _ :: _, _, _, h, _ => h.elim
  | _ :: _, [], _, _, _, h, _ => h.elim
  | _ :: _, _ :: _, [], _, _, h, _ => h.elim
theorem post_true {f : Func} {s : ChangeSpec} {args : Array Value} {ds : List (DataW H)} {before : List MemPlace} {apart : Bool} {W' : World} {tb : TypeId} (hl : laidOutB P = true) (hvars : s.vars = []) (hr : (f.params.toList.all fun t => P.readableRec t && Nat.blt t P.types.size) = true)
    (hres : f.resultTypes = #[tb]) (hu : P.underlying tb = some .bool) (hW : DataW.Whole enc P f.params.toList s.vars apart W args.toList ds [] before) (hb : Below W.heap.size W W') (hs : s.fn H (ds ++ []) = { results := [.lit (.bool true)], args := ds }) :
    s.post enc P f apart true false false W args (.bool true) W' := by
  have hlt := hW.lt
  have hW0 := hW
  obtain ⟨p, q, hA, hV, rfl, _, _⟩ := hW
  rw [hvars] at hV
  obtain ⟨_, rfl⟩ := trodVars_none hV
  refine ⟨ds, [], p ++ [], [], p, [], hW0, ?_, ?_, ?_, hb.frame _, fun h => by cases h⟩
  · rw [hs, hres]; exact trodAll_mk1 (shut_bool hu true)
  · rw [hs]; exact trodAll_stays hl hb hr hA (fun x hx => hlt x (by simpa using hx))
  · rw [hs, hvars]; rfl
end
end Go.Sx
namespace Go.Sx
def wrapB (P : Program) (t e : TypeId) : Bool := match P.underlying t with
  | some (.struct fs) => (match fs.toList with | [f] => Nat.beq f.type e && Nat.beq f.offset 0 && Nat.beq (P.cellsOf e) (P.cellsOf t) | _ => false)
  | _ => false
theorem opens_wrap {α : Type} {P : Program} {t e : TypeId} {T : Ty α} {ok : α → Prop} (hb : wrapB P t e = true) (h : Opens P e T ok) : Opens P t T ok := fun H enc W fuel cs d hd => by
  unfold wrapB at hb
  split at hb
  · rename_i fs ht
    split at hb
    · rename_i f hf
      simp only [Bool.and_eq_true, Nat.beq_eq] at hb
      obtain ⟨hl, n, hx⟩ := trod_fields ht hd
      obtain ⟨y, hy⟩ := hx f (by rw [hf]; exact List.mem_cons_self ..)
      rw [hb.1.1, hb.1.2, hb.2, ← hl, List.drop_zero, List.take_length] at hy
      exact h H enc W n cs y hy
    · cases hb
  · cases hb
def pairB (P : Program) (t e e' : TypeId) : Bool := match P.underlying t with
  | some (.struct fs) => (match fs.toList with | [f, g] => Nat.beq f.type e && Nat.beq f.offset 0 && Nat.beq g.type e' && Nat.beq g.offset (P.cellsOf e) && Nat.beq (P.cellsOf e + P.cellsOf e') (P.cellsOf t) | _ => false)
  | _ => false
theorem opens_pair {α β : Type} {P : Program} {t e e' : TypeId} {T : Ty α} {U : Ty β} {ok : α → Prop} {ok' : β → Prop} (hb : pairB P t e e' = true) (h : Opens P e T ok) (h' : Opens P e' U ok') : Opens P t (Ty.pair T U) (fun x => ok x.1 ∧ ok' x.2) := fun H enc W fuel cs d hd => by
  unfold pairB at hb
  split at hb
  · rename_i fs ht
    split at hb
    · rename_i f g hf
      simp only [Bool.and_eq_true, Nat.beq_eq] at hb
      obtain ⟨⟨⟨⟨h1, h2⟩, h3⟩, h4⟩, h5⟩ := hb
      obtain ⟨hl, n, hx⟩ := trod_fields ht hd
      obtain ⟨y, hy⟩ := hx f (by rw [hf]; exact List.mem_cons_self ..)
      obtain ⟨z, hz⟩ := hx g (by rw [hf]; exact List.mem_cons_of_mem _ (List.mem_cons_self ..))
      rw [h1, h2, List.drop_zero] at hy
      rw [h3, h4, List.take_of_length_le (by rw [List.length_drop]; omega)] at hz
      obtain ⟨x1, r1, o1⟩ := h H enc W n _ y hy
      obtain ⟨x2, r2, o2⟩ := h' H enc W n _ z hz
      exact ⟨(x1, x2), ⟨_, _, (List.take_append_drop _ _).symm, r1, r2⟩, o1, o2⟩
    · cases hb
  · cases hb
end Go.Sx
set_option linter.unusedVariables false
namespace Go.Sx
open Go.Sl Go.RowKit Go.ChangeShapes
theorem opens_arr {α : Type} {P : Program} {t e : TypeId} {m : Nat} {T : Ty α} {ok : α → Prop} (ht : P.underlying t = some (.array m e)) (he : P.cellsOf e = T.size) (hc : P.cellsOf t = m * T.size) (h : Opens P e T ok) :
    Opens P t (Ty.arr m T) (fun xs => (∀ x ∈ xs, ok x) ∧ xs.length = m) := fun H enc W fuel cs d hd => by
  obtain ⟨hl, n, hx⟩ := trod_items ht hd
  have key : ∀ k, k ≤ m → ∃ xs : List α, xs.length = k ∧ Rows T (Zone.all W) (cs.take (k * T.size)) xs ∧ ∀ x ∈ xs, ok x := by
    intro k
    induction k with
    | zero => exact fun _ => ⟨[], rfl, by simp [Rows], fun x hx => by cases hx⟩
    | succ k ih =>
      intro hk
      obtain ⟨xs, h1, h2, h3⟩ := ih (by omega)
      obtain ⟨y, hy⟩ := hx k (by omega)
      rw [he] at hy
      obtain ⟨x, r, o⟩ := h H enc W n _ y hy
      refine ⟨xs ++ [x], by simp [h1], ?_, fun z hz => ?_⟩
      · have e1 : cs.take ((k + 1) * T.size) = cs.take (k * T.size) ++ (cs.drop (k * T.size)).take T.size := by
          rw [Nat.add_mul, Nat.one_mul, List.take_add]
        rw [e1]
        exact h2.append (Rows.single r)
      · rcases List.mem_append.1 hz with hz | hz
        · exact h3 z hz
        · simp only [List.mem_singleton] at hz; subst hz; exact o
  obtain ⟨xs, h1, h2, h3⟩ := key m (Nat.le_refl _)
  refine ⟨xs, ⟨h1, ?_⟩, h3, h1⟩
  rwa [List.take_of_length_le (by rw [hl, hc]; exact Nat.le_refl _)] at h2
theorem arr_len {α : Type} {h : Zone} {T : Ty α} {m : Nat} {cs : List Value} {xs : List (List α)} (s : (Ty.arr m (Ty.slice T)).rep h cs xs) : cs.length = m := by
  have := (Ty.arr m (Ty.slice T)).len s
  rw [this]; exact Nat.mul_one m
end Go.Sx
