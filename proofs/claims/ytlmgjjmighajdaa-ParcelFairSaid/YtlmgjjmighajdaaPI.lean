/-
  Taking a mass from a heap: what is taken and what is left. No condition.
-/
import Derived.Test.YtlmgjjmighajdaaPG
import Derived.Test.YtlmgjjmighajdaaPJ
set_option linter.unusedSimpArgs false
set_option linter.unusedVariables false
namespace Go.Proofs.Ytlmgjjmighajdaa
open Go.Sl Go.Sx
def takenL : List Part → List Int → List Part
  | p :: h, n :: d => (if n > 0 then [⟨p.lot, n⟩] else []) ++ takenL h d
  | _, _ => []
def leftL : List Part → List Int → List Part
  | p :: h, n :: d => (if n < p.mass then [⟨p.lot, p.mass - n⟩] else []) ++ leftL h d
  | _, _ => []
def massesL (h : List Part) : List Int := h.map (·.mass)
def dealH (m : Int) (h : List Part) : List Int := if h = [] then [] else dealS m (massesL h)
theorem dealS_len (m : Int) (a : List Int) : (dealS m a).length = a.length := by simp [dealS]
theorem dealH_len (m : Int) (h : List Part) : (dealH m h).length = h.length := by
  unfold dealH
  split
  · rename_i e; rw [e]; rfl
  · rw [dealS_len]; simp [massesL]
theorem sum_masses (h : List Part) : (massesL h).sum = sumM h := rfl
theorem heap_pos {h : List Part} (hk : HeapOk h) (hne : h ≠ []) : 0 < sumM h := by
  cases h with
  | nil => exact absurd rfl hne
  | cons p h =>
    have hp := (hk.2.1 p (by simp)).m0
    have := (sumM_bound (l := h) fun q hq => hk.2.1 q (List.mem_cons_of_mem _ hq)).1
    simp only [sumM, List.map_cons, List.sum_cons] at this ⊢
    omega
theorem dealOk_heap {h : List Part} {m : Int} (hk : HeapOk h) (hne : h ≠ []) (hm0 : 0 ≤ m) (hm : m ≤ sumM h) (hl : h.length < 20) : DealOk m (massesL h) where
  nn x hx := by obtain ⟨p, hp, rfl⟩ := List.mem_map.1 hx; have := (hk.2.1 p hp).m0; omega
  s0 := by rw [sum_masses]; exact heap_pos hk hne
  s1 := by rw [sum_masses]; exact hk.2.2.2
  m0 := hm0
  m1 := by have := hk.2.2.2; omega
  len := by simpa [massesL] using hl
theorem F127_nil (f : Nat) (hf : 0 < f) (m : Int) : F127 f m [] = some [] := by
  obtain ⟨n, rfl⟩ : ∃ n, f = n + 1 := ⟨f - 1, by omega⟩
  simp [F127, F127_l1, F127_j1, mkC]
theorem F127_heap {f : Nat} {h : List Part} {m : Int} (hk : HeapOk h) (hm0 : 0 ≤ m) (hm : m ≤ sumM h) (hl : h.length < 20) (hf : 100 < f) : F127 f m (massesL h) = some (dealH m h) := by
  unfold dealH
  split
  · rename_i e; subst e; exact F127_nil f (by omega) m
  · rename_i e; exact F127_eq (dealOk_heap hk e hm0 hm hl) hf
theorem deal_bounds {a : List Int} {m : Int} (h : DealOk m a) {i : Nat} (hi : i < a.length) : 0 ≤ (dealS m a)[i]'(by rw [dealS_len]; exact hi) ∧ (dealS m a)[i]'(by rw [dealS_len]; exact hi) ≤ 100000001 := by
  have hb := base_bounds h hi
  have hm := h.m1
  have e : (dealS m a)[i]'(by rw [dealS_len]; exact hi) = baseS m a i + (if rank m a.sum a (i : Int) < (leftS m a).toNat then 1 else 0) := by simp [dealS]
  rw [e]
  split <;> omega
theorem dealH_bounds {h : List Part} {m : Int} (hk : HeapOk h) (hm0 : 0 ≤ m) (hm : m ≤ sumM h) (hl : h.length < 20) : ∀ x ∈ dealH m h, 0 ≤ x ∧ x ≤ 100000001 := fun x hx => by
  unfold dealH at hx
  split at hx
  · cases hx
  · rename_i e
    obtain ⟨i, hi, rfl⟩ := List.getElem_of_mem hx
    rw [dealS_len] at hi
    exact deal_bounds (dealOk_heap hk e hm0 hm hl) hi
theorem F91_l2_eq {h : List Part} {d : List Int} (hd : d.length = h.length) (hl : h.length < 20) (hk : ∀ p ∈ h, PartOk p) (hb : ∀ x ∈ d, 0 ≤ x ∧ x ≤ 100000001) : ∀ n i (tk lf : List Part), i ≤ h.length → h.length - i < n → tk.length + (h.length - i) ≤ 40 → lf.length + (h.length - i) ≤ 40 →
    F91_l2 h d n tk lf (i : Int) = some (tk ++ takenL (h.drop i) (d.drop i), lf ++ leftL (h.drop i) (d.drop i))
  | 0, i, _, _, _, hn, _, _ => by omega
  | n + 1, i, tk, lf, hi, hn, h1, h2 => by
    rcases Nat.lt_or_ge i h.length with hlt | hge
    · have hid : i < d.length := by omega
      have app : ∀ (l : List Part) (x : Part), l.length ≤ 60 → appC l [x] = some (l ++ [x]) := fun l x hl => by unfold appC; rw [if_pos (by simp only [List.length_cons, List.length_nil]; omega)]
      have hp := hk _ (List.getElem_mem hlt)
      have hx := hb _ (List.getElem_mem hid)
      have e1 : h.drop i = h[i] :: h.drop (i + 1) := drop_cons hlt
      have e2 : d.drop i = d[i] :: d.drop (i + 1) := drop_cons hid
      have := hp.m0; have := hp.m1
      have hw : w64 (h[i].mass - d[i]) = h[i].mass - d[i] := w64_id (by omega) (by omega)
      have lt2 : decide ((i : Int) < (d.length : Int)) = true := by simpa using (show (i : Int) < d.length by omega)
      simp only [F91_l2, F91_j1, F91_j2, lt2, cond_true, getI_nat hlt, getI_nat hid, Option.bind_some, hw, succ_w (i := i) (by omega)]
      rw [e1, e2]
      simp only [takenL, leftL]
      by_cases c1 : d[i] > 0 <;> by_cases c2 : d[i] < h[i].mass
      · simp only [c1, c2, decide_true, cond_true, app tk _ (by omega), app lf _ (by omega), Option.bind_some, if_true]
        rw [F91_l2_eq hd hl hk hb n (i + 1) _ _ (by omega) (by omega) (by simp only [List.length_append, List.length_cons, List.length_nil]; omega) (by simp only [List.length_append, List.length_cons, List.length_nil]; omega)]
        simp only [List.append_assoc]
      · simp only [c1, c2, decide_true, decide_false, cond_true, cond_false, app tk _ (by omega), Option.bind_some, if_true, if_false]
        rw [F91_l2_eq hd hl hk hb n (i + 1) _ _ (by omega) (by omega) (by simp only [List.length_append, List.length_cons, List.length_nil]; omega) (by omega)]
        simp only [List.append_assoc, List.nil_append]
      · simp only [c1, c2, decide_true, decide_false, cond_true, cond_false, app lf _ (by omega), Option.bind_some, if_true, if_false]
        rw [F91_l2_eq hd hl hk hb n (i + 1) _ _ (by omega) (by omega) (by omega) (by simp only [List.length_append, List.length_cons, List.length_nil]; omega)]
        simp only [List.append_assoc, List.nil_append]
      · simp only [c1, c2, decide_false, cond_false, if_false]
        rw [F91_l2_eq hd hl hk hb n (i + 1) _ _ (by omega) (by omega) (by omega) (by omega)]
        simp only [List.nil_append]
    · have : i = h.length := by omega
      subst this
      have lt2 : decide ((h.length : Int) < (d.length : Int)) = false := by simp [hd]
      simp only [F91_l2, lt2, cond_false, List.drop_length]
      simp [takenL, leftL]
theorem F91_l1_eq {f : Nat} {h : List Part} (m : Int) (hl : h.length ≤ 40) : ∀ n i, i ≤ h.length → h.length - i < n → F91_l1 f h m n (massesL (h.take i)) (i : Int) = ((F127 f m (massesL h)).bind fun r => F91_l2 h r f [] [] 0)
  | 0, i, _, hn => by omega
  | n + 1, i, hi, hn => by
    rcases Nat.lt_or_ge i h.length with hlt | hge
    · have app : appC (massesL (h.take i)) [h[i].mass] = some (massesL (h.take (i + 1))) := by
        unfold appC
        rw [if_pos (by simp [massesL]; omega), List.take_succ_eq_append_getElem hlt]
        unfold massesL
        rw [List.map_append]; rfl
      simp only [F91_l1, lt_len, hlt, decide_true, cond_true, getI_nat hlt, Option.bind_some, app, succ_w (i := i) (by omega)]
      exact F91_l1_eq m hl n (i + 1) (by omega) (by omega)
    · have : i = h.length := by omega
      subst this
      simp [F91_l1]
theorem F91_eq {f : Nat} {h : List Part} {m : Int} (hk : HeapOk h) (hm0 : 0 ≤ m) (hm : m ≤ sumM h) (hl : h.length < 20) (hf : 100 < f) : F91 f h m = some (takenL h (dealH m h), leftL h (dealH m h)) := by
  unfold F91
  have e1 := F91_l1_eq (f := f) (h := h) m (by omega) f 0 (by omega) (by omega)
  have e0 : ((0 : Nat) : Int) = 0 := rfl
  rw [e0] at e1
  have e2 : massesL (h.take 0) = [] := rfl
  rw [e2] at e1
  rw [e1, F127_heap hk hm0 hm hl hf]
  simp only [Option.bind_some]
  have e3 := F91_l2_eq (dealH_len m h) hl hk.2.1 (dealH_bounds hk hm0 hm hl) f 0 [] [] (by omega) (by omega) (by simp; omega) (by simp; omega)
  rw [e0] at e3
  rw [e3]
  simp
theorem F30_eq {f : Nat} {h : List Part} {m : Int} (hk : HeapOk h) (hm0 : 0 ≤ m) (hm : m ≤ sumM h) (hl : h.length < 20) (hf : 100 < f) : F30 f h m = some (takenL h (dealH m h), leftL h (dealH m h), 0) := by
  unfold F30
  rcases F73_eq (f := f) (l := h) (by omega) with ⟨_, e⟩ | ⟨hn, _⟩
  · have c1 : decide (m < 0) = false := by simpa using hm0
    have c2 : decide (m > sumM h) = false := by simpa using hm
    rw [e]
    simp [c1, F90_eq hk (show 40 < f by omega), c2, F91_eq hk hm0 hm hl hf]
  · exact absurd hk hn
end Go.Proofs.Ytlmgjjmighajdaa
