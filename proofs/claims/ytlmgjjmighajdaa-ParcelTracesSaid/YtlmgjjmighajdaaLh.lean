/-
  A part of the walk and of the plain law of one given statement. No condition.
-/
import Derived.Test.YtlmgjjmighajdaaQJ
import Derived.Test.YtlmgjjmighajdaaE0
import Derived.ProofKit
import Derived.OpenShut
import Derived.Stop.Joined
import Derived.Deep.Slices
set_option linter.unusedSimpArgs false
set_option linter.unusedVariables false
namespace Go.Proofs.Ytlmgjjmighajdaa
open Go.Sl Go.Sx
def setOf (p : List Part) : List (Int × Bool) := p.foldl (fun D q => putK D q.lot true) []
def mayOf (holds : List (List (List Part))) : List (List (List (Int × Bool))) := holds.map fun l => l.map setOf
def mayAt (holds : List (List (List Part))) (i : Nat) (v : List (List (Int × Bool))) : List (List (List (Int × Bool))) := (holds.take i).map (fun l => l.map setOf) ++ v :: List.replicate (8 - i) []
def mayTo (holds : List (List (List Part))) (i : Nat) : List (List (List (Int × Bool))) := (holds.take i).map (fun l => l.map setOf) ++ List.replicate (9 - i) []
theorem mayTo_at (holds : List (List (List Part))) {i : Nat} (hi : i < 9) : mayTo holds i = mayAt holds i [] := by
  unfold mayTo mayAt
  have : 9 - i = (8 - i) + 1 := by omega
  rw [this, List.replicate_succ]
theorem mayAt_to {holds : List (List (List Part))} {i : Nat} (h9 : holds.length = 9) (hi : i < holds.length) : mayAt holds i (holds[i].map setOf) = mayTo holds (i + 1) := by
  unfold mayTo mayAt
  rw [List.take_succ_eq_append_getElem hi]
  have : 8 - i = 9 - (i + 1) := by omega
  rw [this, List.map_append]
  simp only [List.map_cons, List.map_nil, List.append_assoc, List.singleton_append]
theorem take_fold {σ α : Type} (g : σ → α → σ) (s : σ) {l : List α} {i : Nat} (hi : i < l.length) : (l.take (i + 1)).foldl g s = g ((l.take i).foldl g s) l[i] := by
  rw [List.take_succ_eq_append_getElem hi, List.foldl_append]; rfl
theorem F81_l3_eq {f : Nat} (k1 : Pl → Int → Option Pl) {holds : List (List (List Part))} {i : Nat} (h9 : holds.length = 9) (hi : i < holds.length) (lots : List Lot) (H : List (List (List Part))) (y3 : Int) {p : List Part} (hp : p.length ≤ 100) (v : List (List (Int × Bool))) (hv : v.length ≤ 100) (hf : 200 ≤ f) :
    F81_l3 k1 (i : Int) ⟨lots, H, mayAt holds i v⟩ y3 p f [] 0 = k1 ⟨lots, H, mayAt holds i (v ++ [setOf p])⟩ (w64 (y3 + 1)) := by
  have hlen : ((holds.take i).map fun l => l.map setOf).length = i := by rw [List.length_map, List.length_take]; omega
  have key := from_st (T := fun n j => F81_l3 k1 (i : Int) ⟨lots, H, mayAt holds i v⟩ y3 p n ((p.take j).foldl (fun D q => putK D q.lot true) []) (j : Int)) (len := p.length) (n := f) (out := k1 ⟨lots, H, mayAt holds i (v ++ [setOf p])⟩ (w64 (y3 + 1))) (by omega)
    (fun n j hj => by
      simp only [F81_l3, lt_len, hj, decide_true, cond_true, getI_nat hj, Option.bind_some]
      rw [succ_w (by omega), take_fold _ _ hj])
    (fun n => by
      simp only [F81_l3, lt_len, Nat.lt_irrefl, decide_false, cond_false, List.take_length]
      unfold mayAt
      rw [mid_get _ _ _ hlen]
      simp only [Option.bind_some]
      rw [app_small (by omega) (by simp)]
      simp only [Option.bind_some]
      rw [mid_set _ _ _ _ hlen]
      rfl)
  exact key
theorem F81_l2_eq {f : Nat} (k3 : Pl → Int → Option Pl) {holds : List (List (List Part))} (hs : Small holds) {i : Nat} (hi : i < holds.length) (lots : List Lot) (hf : 200 ≤ f) :
    F81_l2 f k3 (i : Int) holds[i] f ⟨lots, holds, mayTo holds i⟩ 0 = k3 ⟨lots, holds, mayTo holds (i + 1)⟩ (w64 ((i : Int) + 1)) := by
  have h9 := hs.n9
  have hli := hs.len _ (List.getElem_mem hi)
  have key := from_st (T := fun n j => F81_l2 f k3 (i : Int) holds[i] n ⟨lots, holds, mayAt holds i ((holds[i].take j).map setOf)⟩ (j : Int)) (len := holds[i].length) (n := f) (out := k3 ⟨lots, holds, mayTo holds (i + 1)⟩ (w64 ((i : Int) + 1))) (by omega)
    (fun n j hj => by
      have hp := hs.heaps _ (List.getElem_mem hi) _ (List.getElem_mem hj)
      simp only [F81_l2, lt_len, hj, decide_true, cond_true, getI_nat hj, Option.bind_some]
      rw [F81_l3_eq _ h9 hi lots holds _ hp _ (by simp; omega) hf, succ_w (by omega), List.take_succ_eq_append_getElem hj, List.map_append]
      rfl)
    (fun n => by simp only [F81_l2, lt_len, Nat.lt_irrefl, decide_false, cond_false, List.take_length, mayAt_to h9 hi])
  rw [mayTo_at _ (by omega)]
  simpa using key
theorem F81_eq {f : Nat} {lots : List Lot} {holds : List (List (List Part))} (hs : Small holds) (hl : lots.length ≤ 100) (hf : 200 ≤ f) : F81 f lots holds = some ⟨lots, holds, mayOf holds⟩ := by
  have h9 := hs.n9
  unfold F81
  rw [F83_eq hs hl hf]
  simp only [Option.bind_some]
  have key := from_st (T := fun n i => F81_l1 f holds n ⟨lots, holds, mayTo holds i⟩ (i : Int)) (len := 9) (n := f) (out := some ⟨lots, holds, mayOf holds⟩) (by omega)
    (fun n i hi => by
      have h1 : decide ((i : Int) < 9) = true := decide_eq_true (by omega)
      have hi' : i < holds.length := by omega
      simp only [F81_l1, h1, cond_true, getI_nat hi', Option.bind_some]
      rw [F81_l2_eq _ hs hi' lots hf, succ_w (by omega)])
    (fun n => by
      have h1 : mayTo holds 9 = mayOf holds := by unfold mayTo mayOf; rw [List.take_of_length_le (by omega)]; simp
      simp [F81_l1, h1])
  exact key
end Go.Proofs.Ytlmgjjmighajdaa
set_option linter.unusedSimpArgs false
set_option linter.unusedVariables false
namespace Go.Proofs.Ytlmgjjmighajdaa
open Go.Sl Go.Sx
theorem getI_opt {α : Type} (l : List α) (t : Nat) : getI l (t : Int) = l[t]? := by unfold getI; simp
structure At9 (x : Pl) (t : Nat) (H : List (List Part)) (M : List (List (Int × Bool))) : Prop where
  h : x.holds[t]? = some H
  m : x.may[t]? = some M
  len : M.length = H.length
  small : H.length ≤ 100
def _root_.Go.Sx.Pl.put (x : Pl) (t : Nat) (H : List (List Part)) (M : List (List (Int × Bool))) : Pl := ⟨x.lots, x.holds.set t H, x.may.set t M⟩
theorem _root_.Go.Sx.Pl.put_put (x : Pl) (t : Nat) (H H' : List (List Part)) (M M' : List (List (Int × Bool))) : (x.put t H M).put t H' M' = x.put t H' M' := by simp [Pl.put]
theorem _root_.Go.Sx.Pl.put_self {x : Pl} {t : Nat} {H : List (List Part)} {M : List (List (Int × Bool))} (h : At9 x t H M) : x.put t H M = x := by
  unfold Pl.put
  rw [set_same h.h, set_same h.m]
theorem At9.put {x : Pl} {t : Nat} {H : List (List Part)} {M : List (List (Int × Bool))} (h : At9 x t H M) {H' : List (List Part)} {M' : List (List (Int × Bool))} (hl : M'.length = H'.length) (hs : H'.length ≤ 100) : At9 (x.put t H' M') t H' M' := by
  have h1 := (List.getElem?_eq_some_iff.1 h.h).1
  have h2 := (List.getElem?_eq_some_iff.1 h.m).1
  exact ⟨by simp [Pl.put, h1], by simp [Pl.put, h2], hl, hs⟩
theorem At9.other {x : Pl} {t u : Nat} {H H' : List (List Part)} {M M' : List (List (Int × Bool))} (h : At9 x t H M) (hne : u ≠ t) : At9 (x.put u H' M') t H M := by
  refine ⟨?_, ?_, h.len, h.small⟩
  · simp only [Pl.put]; rw [List.getElem?_set_ne hne]; exact h.h
  · simp only [Pl.put]; rw [List.getElem?_set_ne hne]; exact h.m
theorem F151_nil {f : Nat} {x : Pl} {t : Nat} (h : At9 x t [] []) : F151 f x (t : Int) = some ([], [], x) := by
  unfold F151
  rw [getI_opt, h.h]
  rfl
theorem len_pred {n : Nat} (h : n ≤ 100) : w64 (((n + 1 : Nat) : Int) - 1) = (n : Int) := by rw [w64_id (by omega) (by omega)]; omega
theorem F151_last {f : Nat} {x : Pl} {t : Nat} {H : List (List Part)} {p : List Part} {M : List (List (Int × Bool))} {s : List (Int × Bool)} (h : At9 x t (H ++ [p]) (M ++ [s])) : F151 f x (t : Int) = some (p, s, x) := by
  unfold F151
  have hl : M.length = H.length := by have := h.len; simpa using this
  have hs := h.small
  rw [List.length_append] at hs
  have e : ((H ++ [p]).length : Int) = ((H.length + 1 : Nat) : Int) := by simp
  simp only [getI_opt, h.h, h.m, Option.bind_some, e, len_pred (n := H.length) (by simp at hs; omega)]
  have h0 : decide ((H.length : Int) < 0) = false := decide_eq_false (by omega)
  rw [h0, cond_false]
  have e1 : (H ++ [p])[H.length]? = some p := by simp
  have e2 : (M ++ [s])[H.length]? = some s := by rw [← hl]; simp
  simp [getI_opt, e1, e2]
theorem F152_nil {f : Nat} {x : Pl} {t : Nat} (h : At9 x t [] []) : F152 f x (t : Int) = some x := by
  unfold F152
  rw [getI_opt, h.h]
  rfl
theorem sub_last {α : Type} (l : List α) (a : α) : subI (l ++ [a]) 0 (l.length : Int) = some l := by
  unfold subI
  rw [if_pos (by simp; omega)]
  simp
theorem F152_last {f : Nat} {x : Pl} {t : Nat} {H : List (List Part)} {p : List Part} {M : List (List (Int × Bool))} {s : List (Int × Bool)} (h : At9 x t (H ++ [p]) (M ++ [s])) : F152 f x (t : Int) = some (x.put t H M) := by
  unfold F152
  have hl : M.length = H.length := by have := h.len; simpa using this
  have hs := h.small
  rw [List.length_append] at hs
  have e : ((H ++ [p]).length : Int) = ((H.length + 1 : Nat) : Int) := by simp
  simp only [getI_opt, h.h, h.m, Option.bind_some, e, len_pred (n := H.length) (by simp at hs; omega)]
  have h0 : decide ((H.length : Int) ≥ 0) = true := decide_eq_true (by omega)
  have e2 : subI (M ++ [s]) 0 (H.length : Int) = some M := by rw [← hl]; exact sub_last M s
  rw [h0, cond_true, sub_last, e2]
  simp [Pl.put]
theorem F148_nil {f : Nat} (x : Pl) (t : Int) (s : List (Int × Bool)) : F148 f x t [] s = some x := by unfold F148; rfl
theorem F148_put {f : Nat} {x : Pl} {t : Nat} {H : List (List Part)} {M : List (List (Int × Bool))} (h : At9 x t H M) {p : List Part} (hp : p ≠ []) (s : List (Int × Bool)) : F148 f x (t : Int) p s = some (x.put t (H ++ [p]) (M ++ [s])) := by
  unfold F148
  have h0 : decide ((p.length : Int) > 0) = true := decide_eq_true (by have := List.length_pos_iff.2 hp; omega)
  have hs := h.small
  have hl := h.len
  rw [h0, cond_true, getI_opt, h.h, getI_opt, h.m]
  simp only [Option.bind_some]
  rw [app_small (by omega) (by simp), app_small (by omega) (by simp)]
  simp [Pl.put]
theorem F150_eq {f : Nat} {a b : List Part} (ha : HeapOk a) (hb : HeapOk b) (s u : List (Int × Bool)) (hf : 200 ≤ f) : F150 f a s b u = some (mergeP a b, uniK (uniK [] s) u) := by
  unfold F150
  rw [F80_eq ha hb (by omega)]
  obtain ⟨n, rfl⟩ : ∃ n, f = n + 3 := ⟨f - 3, by omega⟩
  rfl
theorem merge_ne {a b : List Part} (h : a ≠ [] ∨ b ≠ []) : mergeP a b ≠ [] := by
  cases a with
  | nil => simpa [nil_merge] using h
  | cons p a =>
    cases b with
    | nil => simp [merge_nil]
    | cons q b =>
      unfold mergeP
      split
      · simp
      · split <;> simp
theorem F146_nil {f : Nat} {x : Pl} {t : Nat} (h : At9 x t [] []) {b : List Part} (hb : HeapOk b) (hne : b ≠ []) (u : List (Int × Bool)) (hf : 200 ≤ f) : F146 f x (t : Int) b u = some (x.put t [b] [uniK [] u]) := by
  unfold F146 F146_j1
  have h0 : HeapOk [] := ⟨by simp, by simp, List.Pairwise.nil, by simp [sumM]⟩
  rw [F151_nil h]
  simp only [Option.bind_some]
  rw [F150_eq h0 hb _ _ hf]
  simp only [Option.bind_some, nil_merge]
  rw [F152_nil h]
  simp only [Option.bind_some]
  rw [F148_put h hne]
  rfl
theorem F146_last {f : Nat} {x : Pl} {t : Nat} {H : List (List Part)} {p : List Part} {M : List (List (Int × Bool))} {s : List (Int × Bool)} (h : At9 x t (H ++ [p]) (M ++ [s])) {b : List Part} (hp : HeapOk p) (hb : HeapOk b) (hne : p ≠ [] ∨ b ≠ []) (u : List (Int × Bool)) (hf : 200 ≤ f) :
    F146 f x (t : Int) b u = some (x.put t (H ++ [mergeP p b]) (M ++ [uniK (uniK [] s) u])) := by
  unfold F146 F146_j1
  have hl : M.length = H.length := by have := h.len; simpa using this
  have hs := h.small
  rw [List.length_append] at hs
  rw [F151_last h]
  simp only [Option.bind_some]
  rw [F150_eq hp hb _ _ hf]
  simp only [Option.bind_some]
  rw [F152_last h]
  simp only [Option.bind_some]
  rw [F148_put (h.put hl (by omega)) (merge_ne hne), Pl.put_put]
  rfl
end Go.Proofs.Ytlmgjjmighajdaa
set_option linter.unusedSimpArgs false
set_option linter.unusedVariables false
namespace Go.Proofs.Ytlmgjjmighajdaa
open Go.Sl Go.Sx
structure In (ids : List Int) (h : List Part) : Prop where
  ok : ∀ p ∈ h, PartOk p
  rise : h.Pairwise fun a b => a.lot < b.lot
  ids : ∀ p ∈ h, p.lot ∈ ids
theorem In.nil (ids : List Int) : In ids [] := ⟨by simp, List.Pairwise.nil, by simp⟩
theorem nodup_len {α : Type} [DecidableEq α] : ∀ {l m : List α}, l.Nodup → (∀ x ∈ l, x ∈ m) → l.length ≤ m.length
  | [], m, _, _ => by simp
  | x :: l, m, hn, h => by
    have hx : x ∈ m := h x (by simp)
    have hn' := List.nodup_cons.1 hn
    have ih := nodup_len (l := l) (m := m.erase x) hn'.2 fun y hy => by
      have : y ≠ x := fun e => hn'.1 (e ▸ hy)
      exact (List.mem_erase_of_ne this).2 (h y (by simp [hy]))
    have := List.length_erase_of_mem hx
    have hpos : 0 < m.length := List.length_pos_of_mem hx
    simp only [List.length_cons]
    omega
theorem In.len {ids : List Int} {h : List Part} (k : In ids h) : h.length ≤ ids.length := by
  have h1 : (h.map (·.lot)).Nodup := by
    rw [List.Nodup, List.pairwise_map]
    exact k.rise.imp fun e => by omega
  have := nodup_len h1 (m := ids) fun x hx => by
    obtain ⟨p, hp, rfl⟩ := List.mem_map.1 hx
    exact k.ids p hp
  simpa using this
theorem In.heap {ids : List Int} {h : List Part} (k : In ids h) (hl : ids.length ≤ 40) (hs : sumM h ≤ 100000000) : HeapOk h := ⟨by have := k.len; omega, k.ok, k.rise, hs⟩
theorem merge_sum : ∀ (n : Nat) (a b : List Part), a.length + b.length ≤ n → sumM (mergeP a b) = sumM a + sumM b
  | _, [], b, _ => by rw [nil_merge]; simp [sumM]
  | _, p :: a, [], _ => by rw [merge_nil]; simp [sumM]
  | 0, p :: a, q :: b, h => by simp at h
  | n + 1, p :: a, q :: b, h => by
    simp only [List.length_cons] at h
    rcases Int.lt_trichotomy p.lot q.lot with e | e | e
    · rw [merge_lt e]
      have := merge_sum n a (q :: b) (by simp only [List.length_cons]; omega)
      simp only [sumM, List.map_cons, List.sum_cons] at this ⊢
      omega
    · rw [merge_eq e]
      have := merge_sum n a b (by omega)
      simp only [sumM, List.map_cons, List.sum_cons] at this ⊢
      omega
    · rw [merge_gt e]
      have := merge_sum n (p :: a) b (by simp only [List.length_cons]; omega)
      simp only [sumM, List.map_cons, List.sum_cons] at this ⊢
      omega
theorem merge_lots : ∀ (n : Nat) (a b : List Part), a.length + b.length ≤ n → ∀ x ∈ mergeP a b, (∃ p ∈ a, p.lot = x.lot) ∨ (∃ q ∈ b, q.lot = x.lot)
  | _, [], b, _, x, hx => by rw [nil_merge] at hx; exact .inr ⟨x, hx, rfl⟩
  | _, p :: a, [], _, x, hx => by rw [merge_nil] at hx; exact .inl ⟨x, hx, rfl⟩
  | 0, p :: a, q :: b, h, _, _ => by simp at h
  | n + 1, p :: a, q :: b, h, x, hx => by
    simp only [List.length_cons] at h
    rcases Int.lt_trichotomy p.lot q.lot with e | e | e
    · rw [merge_lt e] at hx
      rcases List.mem_cons.1 hx with rfl | hx
      · exact .inl ⟨x, by simp, rfl⟩
      · rcases merge_lots n a (q :: b) (by simp only [List.length_cons]; omega) x hx with ⟨r, hr, k⟩ | k
        · exact .inl ⟨r, by simp [hr], k⟩
        · exact .inr k
    · rw [merge_eq e] at hx
      rcases List.mem_cons.1 hx with rfl | hx
      · exact .inl ⟨p, by simp, rfl⟩
      · rcases merge_lots n a b (by omega) x hx with ⟨r, hr, k⟩ | ⟨r, hr, k⟩
        · exact .inl ⟨r, by simp [hr], k⟩
        · exact .inr ⟨r, by simp [hr], k⟩
    · rw [merge_gt e] at hx
      rcases List.mem_cons.1 hx with rfl | hx
      · exact .inr ⟨x, by simp, rfl⟩
      · rcases merge_lots n (p :: a) b (by simp only [List.length_cons]; omega) x hx with k | ⟨r, hr, k⟩
        · exact .inl k
        · exact .inr ⟨r, by simp [hr], k⟩
theorem merge_rise : ∀ (n : Nat) (a b : List Part), a.length + b.length ≤ n → (a.Pairwise fun x y => x.lot < y.lot) → (b.Pairwise fun x y => x.lot < y.lot) → (mergeP a b).Pairwise fun x y => x.lot < y.lot
  | _, [], b, _, _, hb => by rw [nil_merge]; exact hb
  | _, p :: a, [], _, ha, _ => by rw [merge_nil]; exact ha
  | 0, p :: a, q :: b, h, _, _ => by simp at h
  | n + 1, p :: a, q :: b, h, ha, hb => by
    simp only [List.length_cons] at h
    have ha' := List.pairwise_cons.1 ha
    have hb' := List.pairwise_cons.1 hb
    rcases Int.lt_trichotomy p.lot q.lot with e | e | e
    · rw [merge_lt e]
      refine List.pairwise_cons.2 ⟨fun x hx => ?_, merge_rise n a (q :: b) (by simp only [List.length_cons]; omega) ha'.2 hb⟩
      rcases merge_lots _ a (q :: b) (Nat.le_refl _) x hx with ⟨r, hr, k⟩ | ⟨r, hr, k⟩
      · have := ha'.1 r hr; omega
      · rcases List.mem_cons.1 hr with rfl | hr
        · omega
        · have := hb'.1 r hr; omega
    · rw [merge_eq e]
      refine List.pairwise_cons.2 ⟨fun x hx => ?_, merge_rise n a b (by omega) ha'.2 hb'.2⟩
      show p.lot < x.lot
      rcases merge_lots _ a b (Nat.le_refl _) x hx with ⟨r, hr, k⟩ | ⟨r, hr, k⟩
      · have := ha'.1 r hr; omega
      · have := hb'.1 r hr; omega
    · rw [merge_gt e]
      refine List.pairwise_cons.2 ⟨fun x hx => ?_, merge_rise n (p :: a) b (by simp only [List.length_cons]; omega) ha hb'.2⟩
      rcases merge_lots _ (p :: a) b (Nat.le_refl _) x hx with ⟨r, hr, k⟩ | ⟨r, hr, k⟩
      · rcases List.mem_cons.1 hr with rfl | hr
        · omega
        · have := ha'.1 r hr; omega
      · have := hb'.1 r hr; omega
theorem sumM_ge : ∀ {h : List Part}, (∀ p ∈ h, 1 ≤ p.mass) → ∀ p ∈ h, p.mass ≤ sumM h
  | [], _, p, hp => by cases hp
  | q :: h, hk, p, hp => by
    have h0 : 0 ≤ sumM h := by
      clear hp
      have : ∀ {l : List Part}, (∀ p ∈ l, 1 ≤ p.mass) → 0 ≤ sumM l := by
        intro l
        induction l with
        | nil => intro _; simp [sumM]
        | cons x l ih => intro h; have := ih fun y hy => h y (by simp [hy]); have := h x (by simp); simp only [sumM, List.map_cons, List.sum_cons] at *; omega
      exact this fun y hy => hk y (by simp [hy])
    have h1 := hk q (by simp)
    simp only [sumM, List.map_cons, List.sum_cons] at h0 ⊢
    rcases List.mem_cons.1 hp with rfl | hp
    · omega
    · have := sumM_ge (h := h) (fun y hy => hk y (by simp [hy])) p hp
      simp only [sumM] at this
      omega
theorem merge_mass : ∀ (n : Nat) (a b : List Part), a.length + b.length ≤ n → (∀ p ∈ a, 1 ≤ p.mass) → (∀ p ∈ b, 1 ≤ p.mass) → ∀ x ∈ mergeP a b, 1 ≤ x.mass
  | _, [], b, _, _, hb, x, hx => by rw [nil_merge] at hx; exact hb x hx
  | _, p :: a, [], _, ha, _, x, hx => by rw [merge_nil] at hx; exact ha x hx
  | 0, p :: a, q :: b, h, _, _, _, _ => by simp at h
  | n + 1, p :: a, q :: b, h, ha, hb, x, hx => by
    simp only [List.length_cons] at h
    rcases Int.lt_trichotomy p.lot q.lot with e | e | e
    · rw [merge_lt e] at hx
      rcases List.mem_cons.1 hx with rfl | hx
      · exact ha x (by simp)
      · exact merge_mass n a (q :: b) (by simp only [List.length_cons]; omega) (fun y hy => ha y (by simp [hy])) hb x hx
    · rw [merge_eq e] at hx
      rcases List.mem_cons.1 hx with rfl | hx
      · have := ha p (by simp); have := hb q (by simp)
        show 1 ≤ p.mass + q.mass
        omega
      · exact merge_mass n a b (by omega) (fun y hy => ha y (by simp [hy])) (fun y hy => hb y (by simp [hy])) x hx
    · rw [merge_gt e] at hx
      rcases List.mem_cons.1 hx with rfl | hx
      · exact hb x (by simp)
      · exact merge_mass n (p :: a) b (by simp only [List.length_cons]; omega) ha (fun y hy => hb y (by simp [hy])) x hx
theorem In.merge {ids : List Int} {a b : List Part} (ha : In ids a) (hb : In ids b) (hs : sumM a + sumM b ≤ 100000000) : In ids (mergeP a b) := by
  have hm := merge_mass _ a b (Nat.le_refl _) (fun p hp => (ha.ok p hp).m0) (fun p hp => (hb.ok p hp).m0)
  refine ⟨fun x hx => ?_, merge_rise _ a b (Nat.le_refl _) ha.rise hb.rise, fun x hx => ?_⟩
  · have h1 := sumM_ge hm x hx
    rw [merge_sum _ a b (Nat.le_refl _)] at h1
    have h2 := hm x hx
    rcases merge_lots _ a b (Nat.le_refl _) x hx with ⟨r, hr, k⟩ | ⟨r, hr, k⟩
    · have := ha.ok r hr
      exact ⟨by have := this.l0; omega, by have := this.l1; omega, h2, by omega⟩
    · have := hb.ok r hr
      exact ⟨by have := this.l0; omega, by have := this.l1; omega, h2, by omega⟩
  · rcases merge_lots _ a b (Nat.le_refl _) x hx with ⟨r, hr, k⟩ | ⟨r, hr, k⟩
    · rw [← k]; exact ha.ids r hr
    · rw [← k]; exact hb.ids r hr
end Go.Proofs.Ytlmgjjmighajdaa
set_option linter.unusedSimpArgs false
set_option linter.unusedVariables false
namespace Go.Proofs.Ytlmgjjmighajdaa
open Go.Sl Go.Sx
theorem getK_put {β : Type} : ∀ (D : List (Int × β)) (k : Int) (v : β) (j : Int), getK (putK D k v) j = if k = j then some v else getK D j
  | [], k, v, j => by
    by_cases e : k = j
    · simp [putK, getK, e]
    · have : (k == j) = false := by simpa using e
      simp [putK, getK, e, this]
  | p :: D, k, v, j => by
    have bk : ∀ a b : Int, (a == b) = decide (a = b) := fun a b => rfl
    by_cases e : k = j
    · subst e
      by_cases h1 : k < p.1
      · simp [putK, getK, h1]
      · by_cases h2 : k = p.1
        · simp [putK, getK, h2]
        · have h3 : ¬ p.1 = k := fun x => h2 x.symm
          have ih := getK_put D k v k
          rw [if_pos rfl] at ih
          simp only [putK, bk, decide_eq_false h1, decide_eq_false h2, cond_false, getK, decide_eq_false h3, if_true]
          exact ih
    · have hj : (k == j) = false := by simpa using e
      by_cases h1 : k < p.1
      · simp [putK, getK, h1, hj, e]
      · by_cases h2 : k = p.1
        · have h3 : (p.1 == j) = false := by rw [← h2]; exact hj
          subst h2
          simp [putK, getK, e, hj]
        · have ih := getK_put D k v j
          rw [if_neg e] at ih
          simp only [putK, bk, decide_eq_false h1, decide_eq_false h2, cond_false, getK, if_neg e]
          rw [ih]
def Tin (s : List (Int × Bool)) (l : Int) : Prop := lkK s l false = true
theorem tin_put {s : List (Int × Bool)} {k l : Int} : Tin (putK s k true) l ↔ k = l ∨ Tin s l := by
  unfold Tin lkK
  rw [getK_put]
  by_cases e : k = l <;> simp [e]
theorem tin_mem : ∀ {s : List (Int × Bool)} {l : Int}, Tin s l → (l, true) ∈ s
  | [], l, h => by simp [Tin, lkK, getK] at h
  | p :: s, l, h => by
    by_cases e : p.1 = l
    · have : p.2 = true := by simpa [Tin, lkK, getK, e] using h
      rw [← e, ← this]; simp
    · have e' : (p.1 == l) = false := by simpa using e
      have : Tin s l := by simpa [Tin, lkK, getK, e'] using h
      exact List.mem_cons_of_mem _ (tin_mem this)
theorem uni_in : ∀ {s D : List (Int × Bool)} {l : Int}, (l, true) ∈ s ∨ Tin D l → Tin (uniK D s) l
  | [], D, l, h => by
    rcases h with h | h
    · cases h
    · exact h
  | p :: s, D, l, h => by
    show Tin (uniK (putK D p.1 true) s) l
    refine uni_in ?_
    rcases h with h | h
    · rcases List.mem_cons.1 h with e | h
      · exact .inr (tin_put.2 (.inl (by rw [← e])))
      · exact .inl h
    · exact .inr (tin_put.2 (.inr h))
def Has1 (p : List Part) (s : List (Int × Bool)) : Prop := ∀ q ∈ p, Tin s q.lot
theorem Has1.nil (s : List (Int × Bool)) : Has1 [] s := fun q hq => by cases hq
theorem Has1.merge {a b : List Part} {s u : List (Int × Bool)} (ha : Has1 a s) (hb : Has1 b u) : Has1 (mergeP a b) (uniK (uniK [] s) u) := fun x hx => by
  rcases merge_lots _ a b (Nat.le_refl _) x hx with ⟨r, hr, k⟩ | ⟨r, hr, k⟩
  · rw [← k]; exact uni_in (.inr (uni_in (.inl (tin_mem (ha r hr)))))
  · rw [← k]; exact uni_in (.inl (tin_mem (hb r hr)))
theorem Has1.sub {a b : List Part} {s : List (Int × Bool)} (h : Has1 a s) (hs : ∀ q ∈ b, ∃ p ∈ a, p.lot = q.lot) : Has1 b s := fun q hq => by
  obtain ⟨p, hp, e⟩ := hs q hq
  rw [← e]; exact h p hp
def Tells : List (List Part) → List (List (Int × Bool)) → Prop
  | [], [] => True
  | p :: H, s :: M => Has1 p s ∧ Tells H M
  | _, _ => False
theorem Tells.len : ∀ {H : List (List Part)} {M : List (List (Int × Bool))}, Tells H M → M.length = H.length
  | [], [], _ => rfl
  | p :: H, s :: M, h => by have := Tells.len h.2; simp [this]
  | [], _ :: _, h => h.elim
  | _ :: _, [], h => h.elim
theorem Tells.append : ∀ {H : List (List Part)} {M : List (List (Int × Bool))} {p : List Part} {s : List (Int × Bool)}, Tells H M → Has1 p s → Tells (H ++ [p]) (M ++ [s])
  | [], [], p, s, _, k => ⟨k, trivial⟩
  | _ :: _, _ :: _, _, _, h, k => ⟨h.1, Tells.append h.2 k⟩
  | [], _ :: _, _, _, h, _ => h.elim
  | _ :: _, [], _, _, h, _ => h.elim
theorem Tells.left : ∀ {H : List (List Part)} {M : List (List (Int × Bool))} {p : List Part} {s : List (Int × Bool)}, M.length = H.length → Tells (H ++ [p]) (M ++ [s]) → Tells H M ∧ Has1 p s
  | [], [], p, s, _, k => ⟨trivial, k.1⟩
  | _ :: _, _ :: _, _, _, e, k => by have := Tells.left (by simpa using e) k.2; exact ⟨⟨k.1, this.1⟩, this.2⟩
  | [], _ :: _, _, _, e, _ => by simp at e
  | _ :: _, [], _, _, e, _ => by simp at e
theorem Tells.at : ∀ {H : List (List Part)} {M : List (List (Int × Bool))}, Tells H M → ∀ i (hi : i < H.length) (hm : i < M.length), Has1 H[i] M[i]
  | [], [], _, i, hi, _ => by simp at hi
  | _ :: _, _ :: _, h, 0, _, _ => h.1
  | _ :: _, _ :: _, h, i + 1, hi, hm => Tells.at h.2 i (by simpa using hi) (by simpa using hm)
  | [], _ :: _, h, _, _, _ => h.elim
  | _ :: _, [], h, _, _, _ => h.elim
end Go.Proofs.Ytlmgjjmighajdaa
set_option linter.unusedSimpArgs false
set_option linter.unusedVariables false
namespace Go.Proofs.Ytlmgjjmighajdaa
open Go.Sl Go.Sx
def tk (h : List Part) (m : Int) : List Part := takenL h (dealH m h)
def lf (h : List Part) (m : Int) : List Part := leftL h (dealH m h)
structure Cut (ids : List Int) (h : List Part) (m : Int) : Prop where
  inn : In ids h
  i8 : ids.length ≤ 8
  s : sumM h ≤ 100000000
  m0 : 0 ≤ m
  m1 : m ≤ sumM h
variable {ids : List Int} {h : List Part} {m : Int}
theorem Cut.heap (c : Cut ids h m) : HeapOk h := c.inn.heap (by have := c.i8; omega) c.s
theorem Cut.len (c : Cut ids h m) : h.length < 20 := by have := c.inn.len; have := c.i8; omega
theorem Cut.fits (c : Cut ids h m) : Fits h (dealH m h) ∧ (dealH m h).sum = m := by
  obtain ⟨h1, h2⟩ := fits_heap c.heap c.m0 c.m1 c.len
  refine ⟨h1, h2.trans ?_⟩
  split
  · rename_i e; have := c.m1; have := c.m0; subst e; simp [sumM] at *; omega
  · rfl
theorem Cut.tk_sum (c : Cut ids h m) : sumM (tk h m) = m := (taken_sum c.fits.1).trans c.fits.2
theorem Cut.lf_sum (c : Cut ids h m) : sumM (lf h m) = sumM h - m := by have := left_sum c.fits.1; rw [c.fits.2] at this; exact this
theorem Has1.tk (c : Cut ids h m) {s : List (Int × Bool)} (k : Has1 h s) : Has1 (tk h m) s := k.sub fun q hq => taken_lots hq
theorem Has1.lf (c : Cut ids h m) {s : List (Int × Bool)} (k : Has1 h s) : Has1 (lf h m) s := k.sub fun q hq => left_lots hq
theorem Cut.tk_in (c : Cut ids h m) : In ids (tk h m) := ⟨taken_part c.fits.1 c.inn.ok, taken_rise c.inn.rise, fun q hq => by obtain ⟨p, hp, e⟩ := taken_lots hq; rw [← e]; exact c.inn.ids p hp⟩
theorem Cut.lf_in (c : Cut ids h m) : In ids (lf h m) := ⟨left_part c.fits.1 c.inn.ok, left_rise c.inn.rise, fun q hq => by obtain ⟨p, hp, e⟩ := left_lots hq; rw [← e]; exact c.inn.ids p hp⟩
theorem In.pos (k : In ids h) (hne : h ≠ []) : 0 < sumM h := by
  obtain ⟨p, hp⟩ := List.exists_mem_of_ne_nil _ hne
  have h1 := sumM_ge (fun q hq => (k.ok q hq).m0) p hp
  have := (k.ok p hp).m0
  omega
theorem Cut.lf_nil (c : Cut ids h m) (e : m = sumM h) : lf h m = [] := by
  by_cases hne : lf h m = []
  · exact hne
  · have := c.lf_in.pos hne; have := c.lf_sum; omega
theorem Cut.F91 (c : Cut ids h m) {f : Nat} (hf : 200 ≤ f) : F91 f h m = some (tk h m, lf h m) := F91_eq c.heap c.m0 c.m1 c.len (by omega)
theorem Cut.F93 (c : Cut ids h m) {f : Nat} (hf : 200 ≤ f) : F93 f h m = some (tk h m, lf h m) := F93_eq c.heap c.m0 c.m1 c.len hf
def drawR : List (List Part) → List Part → Int → List (List Part) × List Part
  | [], out, _ => ([], out)
  | p :: r, out, m => if m ≤ sumM p then ((if lf p m = [] then r else lf p m :: r), mergeP out (tk p m)) else drawR r (mergeP out (tk p (sumM p))) (m - sumM p)
structure Hold (ids : List Int) (r : List (List Part)) : Prop where
  i8 : ids.length ≤ 8
  ins : ∀ p ∈ r, In ids p
  ne : ∀ p ∈ r, p ≠ []
  len : r.length ≤ 100
theorem Hold.sum_pos {r : List (List Part)} (k : Hold ids r) : 0 ≤ sumH r := by
  have : ∀ l : List (List Part), (∀ p ∈ l, In ids p) → (∀ p ∈ l, p ≠ []) → 0 ≤ sumH l := by
    intro l
    induction l with
    | nil => intro _ _; simp [sumH]
    | cons p l ih =>
      intro h1 h2
      have := ih (fun q hq => h1 q (by simp [hq])) fun q hq => h2 q (by simp [hq])
      have := (h1 p (by simp)).pos (h2 p (by simp))
      simp only [sumH, List.map_cons, List.sum_cons] at *
      omega
  exact this r k.ins k.ne
theorem Hold.tail {p : List Part} {r : List (List Part)} (k : Hold ids (p :: r)) : Hold ids r := ⟨k.i8, fun q hq => k.ins q (by simp [hq]), fun q hq => k.ne q (by simp [hq]), by have := k.len; simp at this; omega⟩
theorem F140_l1_eq {f : Nat} (hf : 200 ≤ f) (t : Nat) : ∀ (r : List (List Part)) (n : Nat) (x : Pl) (M : List (List (Int × Bool))) (out : List Part) (s : List (Int × Bool)) (m : Int), r.length < n → Hold ids r → At9 x t r.reverse M → In ids out →
    0 < m → m ≤ sumH r → sumM out + sumH r ≤ 100000000 →
    ∃ s' M', M'.length = (drawR r out m).1.length ∧ F140_l1 f (t : Int) n x out s m = some ((drawR r out m).2, s', x.put t (drawR r out m).1.reverse M') ∧
      (∀ u ∈ M', u ∈ M) ∧ (Tells r.reverse M → Has1 out s → Tells (drawR r out m).1.reverse M' ∧ Has1 (drawR r out m).2 s')
  | [], n, x, M, out, s, m, _, _, _, _, h0, h1, _ => by simp [sumH] at h1; omega
  | p :: r, 0, x, M, out, s, m, hn, _, _, _, _, _, _ => by simp at hn
  | p :: r, n + 1, x, M, out, s, m, hn, hk, ha, ho, h0, h1, h2 => by
    have e : (p :: r).reverse = r.reverse ++ [p] := by simp
    rw [e] at ha
    have hlen := ha.len
    obtain ⟨M', s1, rfl⟩ : ∃ M' s1, M = M' ++ [s1] := by
      rcases List.eq_nil_or_concat M with rfl | ⟨M', s1, rfl⟩
      · simp at hlen
      · exact ⟨M', s1, by simp⟩
    have hM : M'.length = r.reverse.length := by simpa using hlen
    have hr := hk.tail
    have hsr := hr.sum_pos
    have hp := hk.ins p (by simp)
    have hpp := hp.pos (hk.ne p (by simp))
    have hsum : sumH (p :: r) = sumM p + sumH r := by simp [sumH]
    rw [hsum] at h1 h2
    have hoo : 0 ≤ sumM out := by
      by_cases e : out = []
      · subst e; simp [sumM]
      · have := ho.pos e; omega
    have hpl : (((r.reverse ++ [p]).length : Nat) : Int) > 0 := by simp
    have hph := hp.heap (by have := hk.i8; omega) (by omega)
    have hat : At9 (x.put t r.reverse M') t r.reverse M' := ha.put hM (by have := hk.len; simp at this ⊢; omega)
    simp only [F140_l1, getI_opt, ha.h, Option.bind_some, decide_eq_true hpl, cond_true]
    rw [F151_last ha]
    simp only [Option.bind_some]
    rw [F152_last ha]
    simp only [Option.bind_some]
    rw [F90_eq hph (by omega)]
    simp only [Option.bind_some]
    by_cases hle : m ≤ sumM p
    · have hmin : (if sumM p < m then sumM p else m) = m := if_neg (by omega)
      have c : Cut ids p m := ⟨hp, hk.i8, by omega, by omega, hle⟩
      have hw : w64 (m - m) = 0 := by rw [Int.sub_self]; rfl
      have htk := c.tk_sum
      simp only [hmin]
      rw [c.F91 hf]
      simp only [Option.bind_some]
      rw [F150_eq (ho.heap (by have := hk.i8; omega) (by omega)) (c.tk_in.heap (by have := hk.i8; omega) (by omega)) _ _ hf]
      simp only [Option.bind_some, hw, beq_self_eq_true, cond_true]
      simp only [drawR, if_pos hle]
      by_cases hl : lf p m = []
      · rw [hl, F148_nil]
        refine ⟨uniK (uniK [] s) s1, M', by simpa using hM, by simp, fun u hu => by simp [hu], fun ht ho => ?_⟩
        rw [e] at ht
        obtain ⟨t1, t2⟩ := Tells.left hM ht
        exact ⟨by simpa using t1, ho.merge (t2.tk c)⟩
      · rw [F148_put hat hl, Pl.put_put]
        refine ⟨uniK (uniK [] s) s1, M' ++ [s1], by simp [hl]; simpa using hM, by simp [hl], fun u hu => hu, fun ht ho => ?_⟩
        rw [e] at ht
        obtain ⟨t1, t2⟩ := Tells.left hM ht
        exact ⟨by simpa [hl] using t1.append (t2.lf c), ho.merge (t2.tk c)⟩
    · have hmin : (if sumM p < m then sumM p else m) = sumM p := if_pos (by omega)
      have c : Cut ids p (sumM p) := ⟨hp, hk.i8, by omega, by omega, Int.le_refl _⟩
      have hw : w64 (m - sumM p) = m - sumM p := w64_id (by omega) (by omega)
      have htk := c.tk_sum
      have hb : (m - sumM p == 0) = false := by
        have : ¬ m - sumM p = 0 := by omega
        simpa using this
      simp only [hmin]
      rw [c.F91 hf]
      simp only [Option.bind_some]
      rw [F150_eq (ho.heap (by have := hk.i8; omega) (by omega)) (c.tk_in.heap (by have := hk.i8; omega) (by omega)) _ _ hf]
      simp only [Option.bind_some, hw, hb, cond_false]
      have hms := merge_sum _ out (tk p (sumM p)) (Nat.le_refl _)
      obtain ⟨s', M2, hl, e2, hu, hT⟩ := F140_l1_eq hf t r n (x.put t r.reverse M') M' (mergeP out (tk p (sumM p))) (uniK (uniK [] s) s1) (m - sumM p) (by simp at hn; omega) hr hat (ho.merge c.tk_in (by omega)) (by omega) (by omega) (by omega)
      rw [e2, Pl.put_put]
      simp only [drawR, if_neg hle]
      refine ⟨s', M2, hl, rfl, fun u k => by simp [hu u k], fun ht ho => ?_⟩
      rw [e] at ht
      obtain ⟨t1, t2⟩ := Tells.left hM ht
      exact hT t1 (ho.merge (t2.tk c))
end Go.Proofs.Ytlmgjjmighajdaa
set_option linter.unusedSimpArgs false
set_option linter.unusedVariables false
namespace Go.Proofs.Ytlmgjjmighajdaa
open Go.Sl Go.Sx
variable {ids : List Int} {h : List Part} {m : Int}
theorem F87_l1_eq {f : Nat} (hf : 200 ≤ f) : ∀ (r : List (List Part)) (n : Nat) (out : List Part) (m : Int), r.length + 1 < n → Hold ids r → In ids out →
    0 < m → m ≤ sumH r → sumM out + sumH r ≤ 100000000 →
    F87_l1 f n r.reverse out m = some ((drawR r out m).1.reverse, (drawR r out m).2)
  | [], n, out, m, _, _, _, h0, h1, _ => by simp [sumH] at h1; omega
  | p :: r, 0, out, m, hn, _, _, _, _, _ => by simp at hn
  | p :: r, n + 1, out, m, hn, hk, ho, h0, h1, h2 => by
    have e : (p :: r).reverse = r.reverse ++ [p] := by simp
    have hr := hk.tail
    have hsr := hr.sum_pos
    have hp := hk.ins p (by simp)
    have hpp := hp.pos (hk.ne p (by simp))
    have hsum : sumH (p :: r) = sumM p + sumH r := by simp [sumH]
    have hkl := hk.len
    simp only [List.length_cons] at hkl hn
    rw [hsum] at h1 h2
    have hoo : 0 ≤ sumM out := by
      by_cases e : out = []
      · subst e; simp [sumM]
      · have := ho.pos e; omega
    have hph := hp.heap (by have := hk.i8; omega) (by omega)
    have hlen : w64 (((r.reverse ++ [p]).length : Int) - 1) = (r.reverse.length : Int) := by
      have : ((r.reverse ++ [p]).length : Int) = ((r.reverse.length + 1 : Nat) : Int) := by simp
      rw [this, len_pred (by simp; omega)]
    have hget : getI (r.reverse ++ [p]) (r.reverse.length : Int) = some p := by rw [getI_opt]; simp
    have hm0 : decide (m > 0) = true := decide_eq_true h0
    rw [e]
    simp only [F87_l1, hm0, cond_true, hlen, hget, Option.bind_some, sub_last]
    rw [F92_90, F90_eq hph (by omega)]
    simp only [Option.bind_some]
    by_cases hle : m ≤ sumM p
    · have hmin : (if sumM p < m then sumM p else m) = m := if_neg (by omega)
      have c : Cut ids p m := ⟨hp, hk.i8, by omega, by omega, hle⟩
      have hw : w64 (m - m) = 0 := by rw [Int.sub_self]; rfl
      have htk := c.tk_sum
      obtain ⟨n', rfl⟩ : ∃ n', n = n' + 1 := ⟨n - 1, by omega⟩
      simp only [hmin]
      rw [c.F93 hf]
      simp only [Option.bind_some]
      rw [F89_eq (ho.heap (by have := hk.i8; omega) (by omega)) (c.tk_in.heap (by have := hk.i8; omega) (by omega)) (by omega)]
      simp only [Option.bind_some, drawR, if_pos hle]
      have hz : decide ((0 : Int) > 0) = false := rfl
      by_cases hl : lf p m = []
      · have : decide (((lf p m).length : Int) > 0) = false := by rw [hl]; rfl
        rw [this, cond_false, if_pos hl]
        simp only [F87_j1, hmin, hw, F87_l1, hz, cond_false]
      · have : decide (((lf p m).length : Int) > 0) = true := decide_eq_true (by have := List.length_pos_iff.2 hl; omega)
        rw [this, cond_true, if_neg hl, app_small (by simp; omega) (by simp)]
        simp only [Option.bind_some, F87_j1, hmin, hw, F87_l1, hz, cond_false]
        simp
    · have hmin : (if sumM p < m then sumM p else m) = sumM p := if_pos (by omega)
      have c : Cut ids p (sumM p) := ⟨hp, hk.i8, by omega, by omega, Int.le_refl _⟩
      have hw : w64 (m - sumM p) = m - sumM p := w64_id (by omega) (by omega)
      have htk := c.tk_sum
      have hl := c.lf_nil rfl
      simp only [hmin]
      rw [c.F93 hf]
      simp only [Option.bind_some]
      rw [F89_eq (ho.heap (by have := hk.i8; omega) (by omega)) (c.tk_in.heap (by have := hk.i8; omega) (by omega)) (by omega)]
      have : decide (((lf p (sumM p)).length : Int) > 0) = false := by rw [hl]; rfl
      simp only [Option.bind_some, this, cond_false, F87_j1, hmin, hw]
      have hms := merge_sum _ out (tk p (sumM p)) (Nat.le_refl _)
      rw [F87_l1_eq hf r n (mergeP out (tk p (sumM p))) (m - sumM p) (by omega) hr (ho.merge c.tk_in (by omega)) (by omega) (by omega) (by omega)]
      simp only [drawR, if_neg hle]
theorem F87_eq {f : Nat} (hf : 200 ≤ f) {H : List (List Part)} (hk : Hold ids H.reverse) {m : Int} (h0 : 0 < m) (h1 : m ≤ sumH H.reverse) (h2 : sumH H.reverse ≤ 100000000) :
    F87 f H m = some ((drawR H.reverse [] m).1.reverse, (drawR H.reverse [] m).2) := by
  have hl := hk.len
  rw [List.length_reverse] at hl
  unfold F87
  rw [app_small (by simp) (by omega)]
  simp only [Option.bind_some, List.nil_append]
  have := F87_l1_eq hf H.reverse f [] m (by simp; omega) hk (In.nil ids) h0 h1 (by simp [sumM]; omega)
  rwa [List.reverse_reverse] at this
end Go.Proofs.Ytlmgjjmighajdaa
set_option linter.unusedSimpArgs false
set_option linter.unusedVariables false
namespace Go.Proofs.Ytlmgjjmighajdaa
open Go.Sl Go.Sx
variable {ids : List Int} {h : List Part} {m : Int}
def loseL : List (List Part) → List Int → List (List Part) → List Part → List (List Part) × List Part
  | p :: H, n :: d, res, out => loseL H d (if lf p n = [] then res else res ++ [lf p n]) (mergeP out (tk p n))
  | _, _, res, out => (res, out)
inductive Fit (ids : List Int) : List (List Part) → List Int → Prop
  | nil : Fit ids [] []
  | cons {p : List Part} {H : List (List Part)} {n : Int} {d : List Int} : Cut ids p n → Fit ids H d → Fit ids (p :: H) (n :: d)
theorem Fit.len : ∀ {H : List (List Part)} {d : List Int}, Fit ids H d → d.length = H.length
  | _, _, .nil => rfl
  | _, _, .cons _ k => by simp [k.len]
theorem Fit.of : ∀ {H : List (List Part)} {d : List Int}, d.length = H.length → (∀ i (hi : i < H.length) (hd : i < d.length), Cut ids H[i] d[i]) → Fit ids H d
  | [], [], _, _ => .nil
  | [], _ :: _, e, _ => by cases e
  | _ :: _, [], e, _ => by cases e
  | p :: H, n :: d, e, k => .cons (k 0 (by simp) (by simp)) (Fit.of (by simpa using e) fun i hi hd => k (i + 1) (by simpa using hi) (by simpa using hd))
theorem Fit.sum0 : ∀ {H : List (List Part)} {d : List Int}, Fit ids H d → 0 ≤ d.sum
  | _, _, .nil => by simp
  | _, _, .cons c k => by have := k.sum0; have := c.m0; simp only [List.sum_cons]; omega
theorem Fit.at : ∀ {H : List (List Part)} {d : List Int}, Fit ids H d → ∀ i (hi : i < H.length) (hd : i < d.length), Cut ids H[i] d[i]
  | _, _, .nil, i, hi, _ => by simp at hi
  | _, _, .cons c k, 0, _, _ => c
  | _, _, .cons c k, i + 1, hi, hd => k.at i (by simpa using hi) (by simpa using hd)
theorem Fit.drop : ∀ {H : List (List Part)} {d : List Int}, Fit ids H d → ∀ i, Fit ids (H.drop i) (d.drop i)
  | _, _, k, 0 => k
  | _, _, .nil, i + 1 => by simpa using Fit.nil
  | _, _, .cons c k, i + 1 => by simpa using k.drop i
theorem F88_l2_eq {f : Nat} (hf : 200 ≤ f) {H : List (List Part)} {d : List Int} (hl : H.length ≤ 100) (i8 : ids.length ≤ 8) (k : Fit ids H d) : ∀ n i (res : List (List Part)) (out : List Part), i ≤ H.length → H.length - i < n → res.length ≤ i → In ids out → sumM out + (d.drop i).sum ≤ 100000000 → 0 ≤ sumM out →
    F88_l2 f H d n res out (i : Int) = some (loseL (H.drop i) (d.drop i) res out)
  | 0, i, res, out, _, hn, _, _, _, _ => by omega
  | n + 1, i, res, out, hi, hn, hr, ho, hs, h0 => by
    have hdl := k.len
    rcases Nat.lt_or_ge i H.length with hlt | hge
    · have hd : i < d.length := by omega
      have c := k.at i hlt hd
      have e1 : H.drop i = H[i] :: H.drop (i + 1) := List.drop_eq_getElem_cons hlt
      have e2 : d.drop i = d[i] :: d.drop (i + 1) := List.drop_eq_getElem_cons hd
      have hs' : sumM out + (d[i] + (d.drop (i + 1)).sum) ≤ 100000000 := by rw [e2, List.sum_cons] at hs; exact hs
      have hsd := (k.drop (i + 1)).sum0
      have hc0 := c.m0
      have hts := c.tk_sum
      have hms := merge_sum _ out (tk H[i] d[i]) (Nat.le_refl _)
      have hmi := ho.merge c.tk_in (by omega)
      simp only [F88_l2, lt_len, hlt, decide_true, cond_true, getI_nat hlt, getI_nat hd, Option.bind_some]
      rw [c.F93 hf]
      simp only [Option.bind_some, F88_j2]
      rw [F89_eq (ho.heap (by omega) (by omega)) (c.tk_in.heap (by omega) (by omega)) (by omega)]
      simp only [Option.bind_some]
      rw [e1, e2]
      simp only [loseL]
      by_cases hz : lf H[i] d[i] = []
      · have : decide (((lf H[i] d[i]).length : Int) > 0) = false := by rw [hz]; rfl
        rw [this, cond_false, if_pos hz, F88_j1, succ_w (by omega)]
        exact F88_l2_eq hf hl i8 k n (i + 1) res _ hlt (by omega) (by omega) hmi (by omega) (by omega)
      · have : decide (((lf H[i] d[i]).length : Int) > 0) = true := decide_eq_true (by have := List.length_pos_iff.2 hz; omega)
        rw [this, cond_true, if_neg hz, app_small (by omega) (by simp)]
        simp only [Option.bind_some, F88_j1]
        rw [succ_w (by omega)]
        exact F88_l2_eq hf hl i8 k n (i + 1) _ _ hlt (by omega) (by simp; omega) hmi (by omega) (by omega)
    · have : i = H.length := by omega
      subst this
      simp [F88_l2, loseL]
theorem F142_l2_eq {f : Nat} (hf : 200 ≤ f) (t : Nat) {H : List (List Part)} {d : List Int} (hl : H.length ≤ 50) (i8 : ids.length ≤ 8) (k : Fit ids H d) {p2 : List (List (Int × Bool))} (hp2 : p2.length = H.length) (ne : ∀ p ∈ H, p ≠ []) : ∀ n i (x : Pl) (res : List (List Part)) (M : List (List (Int × Bool))) (out : List Part) (s : List (Int × Bool)), i ≤ H.length → H.length - i < n → res.length ≤ i → At9 x t res M → In ids out → sumM out + (d.drop i).sum ≤ 100000000 → 0 ≤ sumM out →
    ∃ s' M', M'.length = (loseL (H.drop i) (d.drop i) res out).1.length ∧ F142_l2 f (t : Int) H p2 d n x out s (i : Int) = some ((loseL (H.drop i) (d.drop i) res out).2, s', x.put t (loseL (H.drop i) (d.drop i) res out).1 M') ∧
      (∀ u ∈ M', u ∈ M ∨ u ∈ p2) ∧ (Tells H p2 → Tells res M → Has1 out s → Tells (loseL (H.drop i) (d.drop i) res out).1 M' ∧ Has1 (loseL (H.drop i) (d.drop i) res out).2 s')
  | 0, i, x, res, M, out, s, _, hn, _, _, _, _, _ => by omega
  | n + 1, i, x, res, M, out, s, hi, hn, hr, ha, ho, hs, h0 => by
    have hdl := k.len
    rcases Nat.lt_or_ge i H.length with hlt | hge
    · have hd : i < d.length := by omega
      have h2 : i < p2.length := by omega
      have c := k.at i hlt hd
      have e1 : H.drop i = H[i] :: H.drop (i + 1) := List.drop_eq_getElem_cons hlt
      have e2 : d.drop i = d[i] :: d.drop (i + 1) := List.drop_eq_getElem_cons hd
      have hs' : sumM out + (d[i] + (d.drop (i + 1)).sum) ≤ 100000000 := by rw [e2, List.sum_cons] at hs; exact hs
      have hsd := (k.drop (i + 1)).sum0
      have hc0 := c.m0
      have hts := c.tk_sum
      have hms := merge_sum _ out (tk H[i] d[i]) (Nat.le_refl _)
      have hmi := ho.merge c.tk_in (by omega)
      have hdi : decide ((i : Int) < (d.length : Int)) = true := decide_eq_true (by omega)
      -- what is put back
      obtain ⟨res', M', hres, hM', hput, hat, hu1, hT1⟩ : ∃ res' M', res' = (if lf H[i] d[i] = [] then res else res ++ [lf H[i] d[i]]) ∧ res'.length ≤ i + 1 ∧ F148 f x (t : Int) (lf H[i] d[i]) p2[i] = some (x.put t res' M') ∧ At9 (x.put t res' M') t res' M' ∧
          (∀ u ∈ M', u ∈ M ∨ u ∈ p2) ∧ (Tells H p2 → Tells res M → Tells res' M') := by
        by_cases hz : lf H[i] d[i] = []
        · refine ⟨res, M, by rw [if_pos hz], by omega, ?_, ?_⟩
          · rw [hz, F148_nil, Pl.put_self ha]
          · rw [Pl.put_self ha]; exact ⟨ha, fun u hu => .inl hu, fun _ k => k⟩
        · refine ⟨res ++ [lf H[i] d[i]], M ++ [p2[i]], by rw [if_neg hz], by simp; omega, F148_put ha hz _, ha.put (by simp [ha.len]) (by simp; omega), fun u hu => ?_, fun k1 k2 => k2.append ((k1.at i hlt h2).lf c)⟩
          rcases List.mem_append.1 hu with hu | hu
          · exact .inl hu
          · rw [List.mem_singleton] at hu; subst hu; exact .inr (List.getElem_mem _)
      simp only [F142_l2, hdi, cond_true, getI_nat hlt, getI_nat hd, getI_nat h2, Option.bind_some]
      rw [c.F91 hf]
      simp only [Option.bind_some]
      rw [hput]
      simp only [Option.bind_some]
      rw [e1, e2]
      simp only [loseL, ← hres]
      by_cases hz : d[i] > 0
      · rw [decide_eq_true hz, cond_true, F150_eq (ho.heap (by omega) (by omega)) (c.tk_in.heap (by omega) (by omega)) _ _ hf]
        simp only [Option.bind_some, F142_j1]
        rw [succ_w (by omega)]
        obtain ⟨s', M2, hM2, e, hu2, hT2⟩ := F142_l2_eq hf t hl i8 k hp2 ne n (i + 1) (x.put t res' M') res' M' (mergeP out (tk H[i] d[i])) (uniK (uniK [] s) p2[i]) hlt (by omega) hM' hat hmi (by omega) (by omega)
        rw [Pl.put_put] at e
        exact ⟨s', M2, hM2, e, fun u k => (hu2 u k).elim (hu1 u) .inr, fun k1 k2 k3 => hT2 k1 (hT1 k1 k2) (k3.merge ((k1.at i hlt h2).tk c))⟩
      · rw [decide_eq_false hz, cond_false]
        simp only [F142_j1]
        have hz0 : d[i] = 0 := by omega
        have htn : tk H[i] d[i] = [] := by
          by_cases hne : tk H[i] d[i] = []
          · exact hne
          · have := c.tk_in.pos hne; omega
        rw [htn, merge_nil, succ_w (by omega)]
        obtain ⟨s', M2, hM2, e, hu2, hT2⟩ := F142_l2_eq hf t hl i8 k hp2 ne n (i + 1) (x.put t res' M') res' M' out s hlt (by omega) hM' hat ho (by omega) (by omega)
        rw [Pl.put_put] at e
        exact ⟨s', M2, hM2, e, fun u k => (hu2 u k).elim (hu1 u) .inr, fun k1 k2 k3 => hT2 k1 (hT1 k1 k2) k3⟩
    · have hi' : i = H.length := by omega
      subst hi'
      have hdi : decide ((H.length : Int) < (d.length : Int)) = false := decide_eq_false (by omega)
      have el : loseL (H.drop H.length) (d.drop H.length) res out = (res, out) := by simp [loseL]
      refine ⟨s, M, ?_, ?_, fun u hu => .inl hu, fun _ k2 k3 => by rw [el]; exact ⟨k2, k3⟩⟩
      · simp [loseL, ha.len]
      · simp only [F142_l2, hdi, cond_false]
        rw [el, Pl.put_self ha]
end Go.Proofs.Ytlmgjjmighajdaa
set_option linter.unusedSimpArgs false
set_option linter.unusedVariables false
namespace Go.Proofs.Ytlmgjjmighajdaa
open Go.Sl Go.Sx
variable {ids : List Int} {h : List Part} {m : Int}
def massH (H : List (List Part)) : List Int := H.map sumM
def loseS (H : List (List Part)) (m : Int) : List (List Part) × List Part := loseL H (dealS m (massH H)) [] []
theorem Hold.one_le {H : List (List Part)} (k : Hold ids H) : ∀ p ∈ H, sumM p ≤ sumH H := by
  have : ∀ l : List (List Part), Hold ids l → ∀ p ∈ l, sumM p ≤ sumH l := by
    intro l
    induction l with
    | nil => intro _ p hp; cases hp
    | cons q l ih =>
      intro hl p hp
      have h0 := hl.tail.sum_pos
      have h1 := (hl.ins q (by simp)).pos (hl.ne q (by simp))
      have hs : sumH (q :: l) = sumM q + sumH l := by simp [sumH]
      rw [hs]
      rcases List.mem_cons.1 hp with rfl | hp
      · omega
      · have := ih hl.tail p hp; omega
  exact this H k
theorem massH_sum (H : List (List Part)) : (massH H).sum = sumH H := rfl
theorem dealOk_hold {H : List (List Part)} (k : Hold ids H) (hl : H.length < 20) (hs : sumH H ≤ 100000000) (h0 : 0 < m) (h1 : m ≤ sumH H) : DealOk m (massH H) where
  nn x hx := by obtain ⟨p, hp, rfl⟩ := List.mem_map.1 hx; have := (k.ins p hp).pos (k.ne p hp); omega
  s0 := by rw [massH_sum]; omega
  s1 := by rw [massH_sum]; exact hs
  m0 := by omega
  m1 := by omega
  len := by simpa [massH] using hl
theorem fit_hold {H : List (List Part)} (k : Hold ids H) (hl : H.length < 20) (hs : sumH H ≤ 100000000) (h0 : 0 < m) (h1 : m ≤ sumH H) : Fit ids H (dealS m (massH H)) := by
  have hd := dealOk_hold k hl hs h0 h1
  refine Fit.of (by rw [dealS_len]; simp [massH]) fun i hi hdi => ?_
  have hm : i < (massH H).length := by simpa [massH] using hi
  have b1 := (deal_bounds hd hm).1
  have b2 := deal_le hd (by rw [massH_sum]; exact h1) hm
  have e : (massH H)[i] = sumM H[i] := by simp [massH]
  rw [e] at b2
  have := k.one_le _ (List.getElem_mem hi)
  exact ⟨k.ins _ (List.getElem_mem hi), k.i8, by omega, b1, b2⟩
theorem massH_take {H : List (List Part)} {i : Nat} (hi : i < H.length) : massH (H.take i) ++ [sumM H[i]] = massH (H.take (i + 1)) := by
  rw [List.take_succ_eq_append_getElem hi]; unfold massH; rw [List.map_append]; rfl
theorem F88_eq {f : Nat} (hf : 200 ≤ f) {H : List (List Part)} (k : Hold ids H) (hl : H.length < 20) (hs : sumH H ≤ 100000000) (h0 : 0 < m) (h1 : m ≤ sumH H) : F88 f H m = some (loseS H m) := by
  have hd := dealOk_hold k hl hs h0 h1
  have hfit := fit_hold k hl hs h0 h1
  have i8 := k.i8
  unfold F88
  have key := from_st (T := fun n i => F88_l1 f H m n (massH (H.take i)) (i : Int)) (len := H.length) (n := f) (out := (F126 f m (massH H)).bind fun r2 => F88_l2 f H r2 f [] [] 0) (by omega)
    (fun n i hi => by
      have hp := k.ins _ (List.getElem_mem hi)
      have := k.one_le _ (List.getElem_mem hi)
      simp only [F88_l1, lt_len, hi, decide_true, cond_true, getI_nat hi, Option.bind_some]
      rw [F92_90, F90_eq (hp.heap (by omega) (by omega)) (by omega)]
      simp only [Option.bind_some]
      rw [app_small (by simp [massH]; omega) (by simp)]
      simp only [Option.bind_some]
      rw [massH_take hi, succ_w (by omega)])
    (fun n => by simp [F88_l1])
  have e0 : F88_l1 f H m f [] 0 = (F126 f m (massH H)).bind fun r2 => F88_l2 f H r2 f [] [] 0 := by simpa [massH] using key
  rw [e0, F126_eq hd hf]
  simp only [Option.bind_some]
  have e := F88_l2_eq hf (by omega) i8 hfit f 0 [] [] (by omega) (by omega) (by simp) (In.nil ids) (by rw [List.drop_zero, deal_sum hd]; simp [sumM]; omega) (by simp [sumM])
  simpa [loseS] using e
theorem F142_eq {f : Nat} (hf : 200 ≤ f) {t : Nat} {x : Pl} {H : List (List Part)} {M : List (List (Int × Bool))} (ha : At9 x t H M) (k : Hold ids H) (hl : H.length < 20) (hs : sumH H ≤ 100000000) (h0 : 0 < m) (h1 : m ≤ sumH H) (a b c : Int) :
    ∃ s' M', M'.length = (loseS H m).1.length ∧ F142 f x a b (t : Int) c m = some ((loseS H m).2, s', x.put t (loseS H m).1 M') ∧ (∀ u ∈ M', u ∈ M) ∧ (Tells H M → Tells (loseS H m).1 M') := by
  have hd := dealOk_hold k hl hs h0 h1
  have hfit := fit_hold k hl hs h0 h1
  have i8 := k.i8
  unfold F142
  rw [getI_opt, ha.h]
  simp only [Option.bind_some]
  have key := from_st (T := fun n i => F142_l1 f x (t : Int) m H n (massH (H.take i)) (i : Int)) (len := H.length) (n := f) (out := (F127 f m (massH H)).bind fun r1 => F142_l2 f (t : Int) H M r1 f (x.put t [] []) [] [] 0) (by omega)
    (fun n i hi => by
      have hp := k.ins _ (List.getElem_mem hi)
      have := k.one_le _ (List.getElem_mem hi)
      simp only [F142_l1, lt_len, hi, decide_true, cond_true, getI_nat hi, Option.bind_some]
      rw [F90_eq (hp.heap (by omega) (by omega)) (by omega)]
      simp only [Option.bind_some]
      rw [app_small (by simp [massH]; omega) (by simp)]
      simp only [Option.bind_some]
      rw [massH_take hi, succ_w (by omega)])
    (fun n => by
      simp only [F142_l1, lt_len, Nat.lt_irrefl, decide_false, cond_false, getI_opt, ha.m, Option.bind_some, List.take_length]
      rfl)
  have e0 : F142_l1 f x (t : Int) m H f [] 0 = (F127 f m (massH H)).bind fun r1 => F142_l2 f (t : Int) H M r1 f (x.put t [] []) [] [] 0 := by simpa [massH] using key
  rw [e0, F127_eq hd (by omega)]
  simp only [Option.bind_some]
  obtain ⟨s', M', hM, e, hu, hT⟩ := F142_l2_eq hf t (by omega) i8 hfit (p2 := M) ha.len k.ne f 0 (x.put t [] []) [] [] [] [] (by omega) (by omega) (by simp) (ha.put rfl (by simp)) (In.nil ids) (by rw [List.drop_zero, deal_sum hd]; simp [sumM]; omega) (by simp [sumM])
  rw [Pl.put_put] at e
  refine ⟨s', M', by simpa [loseS] using hM, by simpa [loseS] using e, fun u k => (hu u k).elim (fun h => by cases h) id, fun k => ?_⟩
  have := (hT k trivial (Has1.nil _)).1
  simpa [loseS] using this
end Go.Proofs.Ytlmgjjmighajdaa
set_option linter.unusedSimpArgs false
set_option linter.unusedVariables false
namespace Go.Proofs.Ytlmgjjmighajdaa
open Go.Sl Go.Sx
variable {ids : List Int} {h : List Part} {m : Int}
def ontoS (H : List (List Part)) (b : List Part) : List (List Part) := match H.reverse with
  | [] => [b]
  | p :: r => r.reverse ++ [mergeP p b]
theorem ontoS_nil (b : List Part) : ontoS [] b = [b] := rfl
theorem ontoS_last (H : List (List Part)) (p b : List Part) : ontoS (H ++ [p]) b = H ++ [mergeP p b] := by simp [ontoS]
theorem F86_eq {f : Nat} (hf : 200 ≤ f) {H : List (List Part)} (hl : H.length ≤ 100) (hH : ∀ p ∈ H, HeapOk p) {b : List Part} (hb : HeapOk b) : F86 f H b = some (ontoS H b) := by
  unfold F86
  rcases List.eq_nil_or_concat H with rfl | ⟨H', p, rfl⟩
  · rfl
  · have e : H'.concat p = H' ++ [p] := by simp
    rw [e] at hl hH ⊢
    rw [List.length_append] at hl
    simp only [List.length_cons, List.length_nil] at hl
    have hlen : ((H' ++ [p]).length : Int) = ((H'.length + 1 : Nat) : Int) := by simp
    have h0 : (((H' ++ [p]).length : Int) == 0) = false := by
      have : ¬ ((H' ++ [p]).length : Int) = 0 := by rw [hlen]; omega
      simpa using this
    have hget : getI (H' ++ [p]) (H'.length : Int) = some p := by rw [getI_opt]; simp
    rw [h0, cond_false, hlen, len_pred (by omega), sub_last]
    simp only [Option.bind_some]
    rw [app_small (by simp) (by omega)]
    simp only [Option.bind_some, hget, List.nil_append]
    rw [F89_eq (hH p (by simp)) hb (by omega)]
    simp only [Option.bind_some]
    rw [app_small (by omega) (by simp), ontoS_last]
    rfl
theorem F146_eq {f : Nat} (hf : 200 ≤ f) {t : Nat} {x : Pl} {H : List (List Part)} {M : List (List (Int × Bool))} (ha : At9 x t H M) (hH : ∀ p ∈ H, HeapOk p) {b : List Part} (hb : HeapOk b) (hne : b ≠ []) (u : List (Int × Bool)) :
    ∃ M', M'.length = (ontoS H b).length ∧ F146 f x (t : Int) b u = some (x.put t (ontoS H b) M') ∧ (Tells H M → Has1 b u → Tells (ontoS H b) M') := by
  rcases List.eq_nil_or_concat H with rfl | ⟨H', p, rfl⟩
  · have hM : M = [] := List.eq_nil_of_length_eq_zero (by simpa using ha.len)
    subst hM
    refine ⟨_, rfl, F146_nil ha hb hne u hf, fun _ k => ⟨?_, trivial⟩⟩
    exact fun q hq => uni_in (.inl (tin_mem (k q hq)))
  · have e : H'.concat p = H' ++ [p] := by simp
    rw [e] at ha hH ⊢
    have hlen := ha.len
    obtain ⟨M', s, rfl⟩ : ∃ M' s, M = M' ++ [s] := by
      rcases List.eq_nil_or_concat M with rfl | ⟨M', s, rfl⟩
      · simp at hlen
      · exact ⟨M', s, by simp⟩
    rw [ontoS_last]
    refine ⟨M' ++ [uniK (uniK [] s) u], by simpa using hlen, F146_last ha (hH p (by simp)) hb (.inr hne) u hf, fun k1 k2 => ?_⟩
    obtain ⟨t1, t2⟩ := Tells.left (by simpa using hlen) k1
    exact t1.append (t2.merge k2)
theorem F143_eq {f : Nat} (hf : 200 ≤ f) {t : Nat} {x : Pl} {H : List (List Part)} {p q : List Part} {M : List (List (Int × Bool))} (ha : At9 x t (H ++ [p] ++ [q]) M) (hp : HeapOk p) (hq : HeapOk q) (hne : q ≠ []) (a b c d : Int) :
    ∃ M', M'.length = (H ++ [mergeP p q]).length ∧ F143 f x a b (t : Int) c d = some ([], [], x.put t (H ++ [mergeP p q]) M') ∧ (Tells (H ++ [p] ++ [q]) M → Tells (H ++ [mergeP p q]) M') := by
  have hlen := ha.len
  obtain ⟨M1, s, rfl⟩ : ∃ M' s, M = M' ++ [s] := by
    rcases List.eq_nil_or_concat M with rfl | ⟨M', s, rfl⟩
    · simp at hlen
    · exact ⟨M', s, by simp⟩
  have hM1 : M1.length = (H ++ [p]).length := by simpa using hlen
  obtain ⟨M2, s2, rfl⟩ : ∃ M' s, M1 = M' ++ [s] := by
    rcases List.eq_nil_or_concat M1 with rfl | ⟨M', s, rfl⟩
    · simp at hM1
    · exact ⟨M', s, by simp⟩
  have hs := ha.small
  have hs1 : (H ++ [p]).length ≤ 100 := by rw [List.length_append] at hs; omega
  unfold F143
  rw [F151_last ha]
  simp only [Option.bind_some]
  rw [F152_last ha]
  simp only [Option.bind_some]
  rw [F146_last (ha.put hM1 hs1) hp hq (.inr hne) s hf]
  simp only [Option.bind_some, Pl.put_put]
  refine ⟨_, by simpa using hM1, rfl, fun k => ?_⟩
  obtain ⟨t1, t2⟩ := Tells.left hM1 k
  obtain ⟨t3, t4⟩ := Tells.left (by simpa using hM1) t1
  exact t3.append (t4.merge t2)
theorem mix_ref {f : Nat} (hf : 200 ≤ f) {H : List (List Part)} {p q : List Part} (hl : H.length ≤ 90) (hp : HeapOk p) (hq : HeapOk q) :
    subI (H ++ [p] ++ [q]) 0 (w64 (((H ++ [p] ++ [q]).length : Int) - 2)) = some H ∧ getI (H ++ [p] ++ [q]) (w64 (((H ++ [p] ++ [q]).length : Int) - 2)) = some p ∧ getI (H ++ [p] ++ [q]) (w64 (((H ++ [p] ++ [q]).length : Int) - 1)) = some q := by
  have hlen : ((H ++ [p] ++ [q]).length : Int) = ((H.length + 2 : Nat) : Int) := by simp
  have e1 : w64 (((H.length + 2 : Nat) : Int) - 2) = (H.length : Int) := by rw [w64_id (by omega) (by omega)]; omega
  have e2 : w64 (((H.length + 2 : Nat) : Int) - 1) = ((H.length + 1 : Nat) : Int) := by rw [w64_id (by omega) (by omega)]; omega
  rw [hlen, e1, e2]
  refine ⟨?_, ?_, ?_⟩
  · unfold subI
    rw [if_pos (by simp; omega)]
    simp
  · rw [getI_opt]; simp
  · rw [getI_opt]; simp
end Go.Proofs.Ytlmgjjmighajdaa
set_option linter.unusedSimpArgs false
set_option linter.unusedVariables false
namespace Go.Proofs.Ytlmgjjmighajdaa
open Go.Sl Go.Sx
theorem named_more {f : Nat} {lots : List Lot} (hl : LotsOk lots) (hf : 40 < f) {holds : List (List (List Part))} {k l fr to m : Int} (h : F79 f lots holds k l fr to m = some true) : ((k = 1 ∨ k = 2) → Has lots l) ∧ (k = 4 → fr ≠ to) := by
  obtain ⟨q, e56, eq0, eq1⟩ := F56_has (f := f) hl.1 l hf
  have hn := named_true hl hf h
  obtain ⟨hk, b1, b2, b3, _⟩ := hn
  simp only [F79, F79_j1, F79_j2, F79_j3, F79_j4, F79_j5, F79_j6, F79_j7, F72_eq, F118_eq, Option.bind_some, e56, eq0, bq, bn] at h
  refine ⟨?_, ?_⟩
  · rintro (rfl | rfl)
    · have b3' := b3 (by omega)
      by_cases a2 : fr = 0 <;> simp [b1, b2, b3', a2] at h
      exact h
    · have b3' := b3 (by omega)
      by_cases a2 : fr = 0 <;> simp [b1, b2, b3', a2] at h
      exact h
  · rintro rfl
    have b3' := b3 (by omega)
    by_cases a1 : l = 0 <;> simp [b1, b2, b3', a1] at h
    exact h
structure Allowed (lots : List Lot) (holds : List (List (List Part))) (k l fr to m : Int) : Prop where
  k0 : 1 ≤ k ∧ k ≤ 6
  fr0 : 0 ≤ fr ∧ fr ≤ 8
  to0 : 0 ≤ to ∧ to ≤ 8
  m0 : k ≠ 6 → 1 ≤ m ∧ m ≤ 100000000
  m6 : k = 6 → m = 0
  lot : (k = 1 ∨ k = 2) → Has lots l
  apart : k = 4 → fr ≠ to
  from_ : (k = 3 ∨ k = 4 ∨ k = 5) → m ≤ sumH (holds.getD fr.toNat [])
  two : k = 6 → 2 ≤ (holds.getD fr.toNat []).length
  room : k = 2 → (holds.getD to.toNat []).length ≠ 4
  into : (k = 1 ∨ k = 2 ∨ k = 4) → sumH (holds.getD to.toNat []) + m ≤ 100000000
theorem F24_allowed {f : Nat} {lots : List Lot} {holds : List (List (List Part))} (hs : StockOk lots holds) (h9 : holds.length = 9) (hf : 40 < f) {k l fr to m : Int} (h : F24 f lots holds k l fr to m = some 0) : Allowed lots holds k l fr to m := by
  obtain ⟨b, eb⟩ := named_some (f := f) hs.lok hf holds k l fr to m
  unfold F24 at h
  rcases F22_eq (lots := lots) h9 hf with ⟨_, e22⟩ | ⟨hn, _⟩
  · rw [e22, eb] at h
    simp only [Option.bind_some] at h
    cases b with
    | false => simp at h
    | true =>
      obtain ⟨hk, hfr, hto, hm, hm6⟩ := named_true hs.lok hf eb
      obtain ⟨hlot, hap⟩ := named_more hs.lok hf eb
      have hfr' : fr.toNat < holds.length := by omega
      have hto' : to.toNat < holds.length := by omega
      have efr : getI holds fr = some holds[fr.toNat] := by have := getI_nat hfr'; rwa [Int.toNat_of_nonneg hfr.1] at this
      have eto : getI holds to = some holds[to.toNat] := by have := getI_nat hto'; rwa [Int.toNat_of_nonneg hto.1] at this
      have gfr := hs.hok _ (List.getElem_mem hfr')
      have gto := hs.hok _ (List.getElem_mem hto')
      have sfr := F75_eq (f := f) gfr.len (fun x hx => (gfr.heaps x hx).ok) hf
      have sto := F75_eq (f := f) gto.len (fun x hx => (gto.heaps x hx).ok) hf
      have hs0 := (sumH_bound fun x hx => (gto.heaps x hx).ok).1
      have hs1 := gto.sum
      have hw : k ≠ 6 → w64 (sumH holds[to.toNat] + m) = sumH holds[to.toNat] + m := fun e => w64_id (by have := hm e; omega) (by have := hm e; omega)
      have d1 : holds.getD fr.toNat [] = holds[fr.toNat] := by simp [hfr']
      have d2 : holds.getD to.toNat [] = holds[to.toNat] := by simp [hto']
      simp only [F24_j1, F24_j2, F24_j3, F24_j4, F24_j5, efr, eto, F77_75, sfr, sto, Option.bind_some, bq] at h
      have hk' : k = 1 ∨ k = 2 ∨ k = 3 ∨ k = 4 ∨ k = 5 ∨ k = 6 := by omega
      have fin : ((k = 3 ∨ k = 4 ∨ k = 5) → m ≤ sumH holds[fr.toNat]) ∧ (k = 6 → 2 ≤ holds[fr.toNat].length) ∧ (k = 2 → holds[to.toNat].length ≠ 4) ∧ ((k = 1 ∨ k = 2 ∨ k = 4) → sumH holds[to.toNat] + m ≤ 100000000) := by
        by_cases c1 : m > sumH holds[fr.toNat] <;> by_cases c2 : (holds[fr.toNat].length : Int) < 2 <;> by_cases c3 : (holds[to.toNat].length : Int) = 4 <;> by_cases c4 : sumH holds[to.toNat] + m > 100000000 <;>
          rcases hk' with rfl | rfl | rfl | rfl | rfl | rfl <;>
          first
          | (exfalso; simp [hw, c1, c2, c3, c4] at h; done)
          | (refine ⟨fun _ => by omega, fun _ => by omega, fun _ => by omega, fun _ => by omega⟩)
          | omega
      exact ⟨hk, hfr, hto, hm, hm6, hlot, hap, by rw [d1]; exact fin.1, by rw [d1]; exact fin.2.1, by rw [d2]; exact fin.2.2.1, by rw [d2]; exact fin.2.2.2⟩
  · exact absurd hs hn
end Go.Proofs.Ytlmgjjmighajdaa
set_option linter.unusedSimpArgs false
set_option linter.unusedVariables false
namespace Go.Proofs.Ytlmgjjmighajdaa
open Go.Sl Go.Sx
theorem one_ok {l m : Int} (h : PartOk ⟨l, m⟩) : HeapOk [⟨l, m⟩] := ⟨by simp, by simpa using h, List.pairwise_singleton _ _, by have := h.m1; simpa [sumM] using this⟩
theorem one_has (l m : Int) : Has1 [⟨l, m⟩] (putK [] l true) := fun q hq => by rw [List.mem_singleton] at hq; subst hq; exact tin_put.2 (.inl rfl)
theorem F138_eq {f : Nat} (hf : 200 ≤ f) {t : Nat} {x : Pl} {H : List (List Part)} {M : List (List (Int × Bool))} (ha : At9 x t H M) (hH : ∀ p ∈ H, HeapOk p) {l m : Int} (hp : PartOk ⟨l, m⟩) (k fr : Int) :
    ∃ s M', M'.length = (ontoS H [⟨l, m⟩]).length ∧ F138 f x k l fr (t : Int) m = some ([⟨l, m⟩], s, x.put t (ontoS H [⟨l, m⟩]) M') ∧ (Tells H M → Tells (ontoS H [⟨l, m⟩]) M') := by
  unfold F138 F147
  obtain ⟨M', hM, e, hT⟩ := F146_eq hf ha hH (one_ok hp) (by simp) (putK [] l true)
  simp only [Option.bind_some]
  rw [e]
  exact ⟨_, M', hM, rfl, fun k => hT k (one_has l m)⟩
theorem F139_eq {f : Nat} {t : Nat} {x : Pl} {H : List (List Part)} {M : List (List (Int × Bool))} (ha : At9 x t H M) (k l fr m : Int) :
    ∃ s, F139 f x k l fr (t : Int) m = some ([⟨l, m⟩], s, x.put t (H ++ [[⟨l, m⟩]]) (M ++ [putK [] l true])) := by
  unfold F139 F147
  simp only [Option.bind_some]
  rw [F148_put ha (by simp)]
  exact ⟨_, rfl⟩
end Go.Proofs.Ytlmgjjmighajdaa
set_option linter.unusedSimpArgs false
set_option linter.unusedVariables false
namespace Go.Proofs.Ytlmgjjmighajdaa
open Go.Sl Go.Sx
variable {ids : List Int}
theorem drawR_spec : ∀ (r : List (List Part)) (out : List Part) (m : Int), Hold ids r → In ids out → 0 < m → m ≤ sumH r → sumM out + sumH r ≤ 100000000 → 0 ≤ sumM out →
    Hold ids (drawR r out m).1 ∧ In ids (drawR r out m).2 ∧ sumH (drawR r out m).1 = sumH r - m ∧ sumM (drawR r out m).2 = sumM out + m ∧ (drawR r out m).1.length ≤ r.length
  | [], out, m, _, _, h0, h1, _, _ => by simp [sumH] at h1; omega
  | p :: r, out, m, hk, ho, h0, h1, h2, hoo => by
    have hr := hk.tail
    have hsr := hr.sum_pos
    have hp := hk.ins p (by simp)
    have hpp := hp.pos (hk.ne p (by simp))
    have hsum : sumH (p :: r) = sumM p + sumH r := by simp [sumH]
    rw [hsum] at h1 h2 ⊢
    by_cases hle : m ≤ sumM p
    · have c : Cut ids p m := ⟨hp, hk.i8, by omega, by omega, hle⟩
      have htk := c.tk_sum
      have hlf := c.lf_sum
      have hms := merge_sum _ out (tk p m) (Nat.le_refl _)
      simp only [drawR, if_pos hle]
      by_cases hl : lf p m = []
      · rw [if_pos hl]
        rw [hl] at hlf
        simp [sumM] at hlf
        exact ⟨hr, ho.merge c.tk_in (by omega), by simp only [sumM] at *; omega, by omega, by simp⟩
      · rw [if_neg hl]
        refine ⟨⟨hk.i8, fun q hq => ?_, fun q hq => ?_, by have := hk.len; simpa using this⟩, ho.merge c.tk_in (by omega), ?_, by omega, by simp⟩
        · rcases List.mem_cons.1 hq with rfl | hq
          · exact c.lf_in
          · exact hr.ins q hq
        · rcases List.mem_cons.1 hq with rfl | hq
          · exact hl
          · exact hr.ne q hq
        · have : sumH (lf p m :: r) = sumM (lf p m) + sumH r := by simp [sumH]
          omega
    · have c : Cut ids p (sumM p) := ⟨hp, hk.i8, by omega, by omega, Int.le_refl _⟩
      have htk := c.tk_sum
      have hms := merge_sum _ out (tk p (sumM p)) (Nat.le_refl _)
      obtain ⟨a1, a2, a3, a4, a5⟩ := drawR_spec r (mergeP out (tk p (sumM p))) (m - sumM p) hr (ho.merge c.tk_in (by omega)) (by omega) (by omega) (by omega) (by omega)
      simp only [drawR, if_neg hle]
      exact ⟨a1, a2, by omega, by omega, by simp; omega⟩
end Go.Proofs.Ytlmgjjmighajdaa
set_option linter.unusedSimpArgs false
set_option linter.unusedVariables false
namespace Go.Proofs.Ytlmgjjmighajdaa
open Go.Sl Go.Sx
variable {ids : List Int}
theorem Hold.append {H : List (List Part)} {p : List Part} (k : Hold ids H) (hp : In ids p) (ne : p ≠ []) (hl : H.length < 100) : Hold ids (H ++ [p]) :=
  ⟨k.i8, fun q hq => by rcases List.mem_append.1 hq with h | h; exact k.ins q h; simp at h; subst h; exact hp, fun q hq => by rcases List.mem_append.1 hq with h | h; exact k.ne q h; simp at h; subst h; exact ne, by simp; omega⟩
theorem Hold.left {H : List (List Part)} {p : List Part} (k : Hold ids (H ++ [p])) : Hold ids H ∧ In ids p ∧ p ≠ [] :=
  ⟨⟨k.i8, fun q hq => k.ins q (by simp [hq]), fun q hq => k.ne q (by simp [hq]), by have := k.len; simp at this; omega⟩, k.ins p (by simp), k.ne p (by simp)⟩
theorem sumH_one (H : List (List Part)) (p : List Part) : sumH (H ++ [p]) = sumH H + sumM p := by rw [sumH_app]; simp [sumH]
theorem ontoS_spec {H : List (List Part)} (k : Hold ids H) (hl : H.length < 100) {b : List Part} (hb : In ids b) (ne : b ≠ []) (hs : sumH H + sumM b ≤ 100000000) :
    Hold ids (ontoS H b) ∧ sumH (ontoS H b) = sumH H + sumM b ∧ (ontoS H b).length = max 1 H.length := by
  rcases List.eq_nil_or_concat H with rfl | ⟨H', p, rfl⟩
  · refine ⟨⟨k.i8, fun q hq => ?_, fun q hq => ?_, by simp [ontoS_nil]⟩, by simp [ontoS_nil, sumH], by simp [ontoS_nil]⟩
    · rw [ontoS_nil, List.mem_singleton] at hq; subst hq; exact hb
    · rw [ontoS_nil, List.mem_singleton] at hq; subst hq; exact ne
  · have e : H'.concat p = H' ++ [p] := by simp
    rw [e] at k hl hs ⊢
    obtain ⟨k1, k2, k3⟩ := k.left
    have h0 := k1.sum_pos
    rw [sumH_one] at hs ⊢
    rw [ontoS_last, sumH_one, merge_sum _ p b (Nat.le_refl _)]
    refine ⟨k1.append (k2.merge hb (by omega)) (merge_ne (.inr ne)) (by simp at hl; omega), by omega, by simp⟩
end Go.Proofs.Ytlmgjjmighajdaa
set_option linter.unusedSimpArgs false
set_option linter.unusedVariables false
namespace Go.Proofs.Ytlmgjjmighajdaa
open Go.Sl Go.Sx
variable {ids : List Int}
theorem loseL_spec (i8 : ids.length ≤ 8) : ∀ {H : List (List Part)} {d : List Int}, Fit ids H d → ∀ (res : List (List Part)) (out : List Part), Hold ids res → res.length + H.length ≤ 100 → In ids out → 0 ≤ sumM out → sumM out + d.sum ≤ 100000000 →
    Hold ids (loseL H d res out).1 ∧ In ids (loseL H d res out).2 ∧ sumH (loseL H d res out).1 = sumH res + sumH H - d.sum ∧ sumM (loseL H d res out).2 = sumM out + d.sum ∧ (loseL H d res out).1.length ≤ res.length + H.length
  | _, _, .nil, res, out, hr, hl, ho, h0, hs => by simp [loseL, sumH, hr, ho]
  | p :: H, n :: d, .cons c k, res, out, hr, hl, ho, h0, hs => by
    simp only [List.sum_cons, List.length_cons] at hs hl ⊢
    have hsum : sumH (p :: H) = sumM p + sumH H := by simp [sumH]
    have hd0 := k.sum0
    have hc0 := c.m0
    have htk := c.tk_sum
    have hlf := c.lf_sum
    have hms := merge_sum _ out (tk p n) (Nat.le_refl _)
    simp only [loseL]
    by_cases hz : lf p n = []
    · rw [if_pos hz]
      rw [hz] at hlf
      have hlf0 : (0 : Int) = sumM p - n := by simpa [sumM] using hlf
      obtain ⟨a1, a2, a3, a4, a5⟩ := loseL_spec i8 k res (mergeP out (tk p n)) hr (by omega) (ho.merge c.tk_in (by omega)) (by omega) (by omega)
      exact ⟨a1, a2, by omega, by omega, by omega⟩
    · rw [if_neg hz]
      obtain ⟨a1, a2, a3, a4, a5⟩ := loseL_spec i8 k (res ++ [lf p n]) (mergeP out (tk p n)) (hr.append c.lf_in hz (by omega)) (by simp; omega) (ho.merge c.tk_in (by omega)) (by omega) (by omega)
      rw [sumH_one] at a3
      rw [List.length_append] at a5
      simp only [List.length_cons, List.length_nil] at a5
      exact ⟨a1, a2, by omega, by omega, by omega⟩
end Go.Proofs.Ytlmgjjmighajdaa
set_option linter.unusedSimpArgs false
set_option linter.unusedVariables false
namespace Go.Proofs.Ytlmgjjmighajdaa
open Go.Sl Go.Sx
variable {ids : List Int}
def drawS (H : List (List Part)) (m : Int) : List (List Part) × List Part := ((drawR H.reverse [] m).1.reverse, (drawR H.reverse [] m).2)
def mixS (H : List (List Part)) : List (List Part) := match H.reverse with
  | q :: p :: r => r.reverse ++ [mergeP p q]
  | _ => H
theorem mixS_last (H : List (List Part)) (p q : List Part) : mixS (H ++ [p] ++ [q]) = H ++ [mergeP p q] := by simp [mixS]
def doS (holds : List (List (List Part))) (k l fr to m : Int) : List (List (List Part)) × List Part :=
  let F := holds.getD fr.toNat []
  let T := holds.getD to.toNat []
  if k = 1 then (holds.set to.toNat (ontoS T [⟨l, m⟩]), [⟨l, m⟩])
  else if k = 2 then (holds.set to.toNat (T ++ [[⟨l, m⟩]]), [⟨l, m⟩])
  else if k = 3 then (holds.set fr.toNat (drawS F m).1, (drawS F m).2)
  else if k = 4 then ((holds.set fr.toNat (drawS F m).1).set to.toNat (ontoS T (drawS F m).2), (drawS F m).2)
  else if k = 5 then (holds.set fr.toNat (loseS F m).1, (loseS F m).2)
  else (holds.set fr.toNat (mixS F), [])
theorem sumH_rev : ∀ H : List (List Part), sumH H.reverse = sumH H
  | [] => rfl
  | p :: H => by
    rw [List.reverse_cons, sumH_one, sumH_rev H]
    have : sumH (p :: H) = sumM p + sumH H := by simp [sumH]
    omega
theorem Hold.rev {H : List (List Part)} (k : Hold ids H) : Hold ids H.reverse := ⟨k.i8, fun p hp => k.ins p (by simpa using hp), fun p hp => k.ne p (by simpa using hp), by simpa using k.len⟩
theorem drawS_spec {H : List (List Part)} {m : Int} (k : Hold ids H) (h0 : 0 < m) (h1 : m ≤ sumH H) (hs : sumH H ≤ 100000000) :
    Hold ids (drawS H m).1 ∧ In ids (drawS H m).2 ∧ sumH (drawS H m).1 = sumH H - m ∧ sumM (drawS H m).2 = m ∧ (drawS H m).1.length ≤ H.length := by
  obtain ⟨a1, a2, a3, a4, a5⟩ := drawR_spec H.reverse [] m k.rev (In.nil ids) h0 (by rw [sumH_rev]; exact h1) (by rw [sumH_rev]; simp [sumM]; exact hs) (by simp [sumM])
  rw [sumH_rev] at a3
  refine ⟨a1.rev, a2, by unfold drawS; rw [sumH_rev]; exact a3, by unfold drawS; rw [a4]; simp [sumM], by simpa [drawS] using a5⟩
end Go.Proofs.Ytlmgjjmighajdaa
set_option linter.unusedSimpArgs false
set_option linter.unusedVariables false
namespace Go.Proofs.Ytlmgjjmighajdaa
open Go.Sl Go.Sx
def idsOf (lots : List Lot) : List Int := lots.map (·.id)
theorem mem_ids {lots : List Lot} {x : Int} : x ∈ idsOf lots ↔ Has lots x := by simp [idsOf, Has]
theorem GoodHold.hold {lots : List Lot} {H : List (List Part)} (g : GoodHold lots H) (h8 : lots.length ≤ 8) : Hold (idsOf lots) H :=
  ⟨by simpa [idsOf] using h8, fun p hp => ⟨(g.heaps p hp).ok.2.1, (g.heaps p hp).ok.2.2.1, fun q hq => mem_ids.2 ((g.heaps p hp).lots q hq)⟩, fun p hp => (g.heaps p hp).ne, by have := g.len; omega⟩
theorem Hold.good {lots : List Lot} {H : List (List Part)} (k : Hold (idsOf lots) H) (hl : H.length ≤ 4) (hs : sumH H ≤ 100000000) : GoodHold lots H :=
  ⟨hl, fun p hp => ⟨(k.ins p hp).heap (by have := k.i8; omega) (by have := k.one_le p hp; omega), k.ne p hp, fun q hq => mem_ids.1 ((k.ins p hp).ids q hq)⟩, hs⟩
theorem StockOk.set {lots : List Lot} {holds : List (List (List Part))} (s : StockOk lots holds) {t : Nat} {H : List (List Part)} (g : GoodHold lots H) : StockOk lots (holds.set t H) :=
  ⟨s.lok, fun l hl => by rcases List.mem_or_eq_of_mem_set hl with h | rfl; exact s.hok l h; exact g⟩
theorem StockOk.small {lots : List Lot} {holds : List (List (List Part))} (s : StockOk lots holds) (h9 : holds.length = 9) : Small holds :=
  ⟨h9, fun l hl => by have := (s.hok l hl).len; omega, fun l hl p hp => by have := ((s.hok l hl).heaps p hp).ok.1; omega⟩
end Go.Proofs.Ytlmgjjmighajdaa
set_option linter.unusedSimpArgs false
set_option linter.unusedVariables false
namespace Go.Proofs.Ytlmgjjmighajdaa
open Go.Sl Go.Sx
theorem two_last {α : Type} {l : List α} (h : 2 ≤ l.length) : ∃ l' p q, l = l' ++ [p] ++ [q] := by
  rcases List.eq_nil_or_concat l with rfl | ⟨l1, q, rfl⟩
  · simp at h
  · rcases List.eq_nil_or_concat l1 with rfl | ⟨l2, p, rfl⟩
    · simp at h
    · exact ⟨l2, p, q, by simp⟩
theorem mixS_spec {ids : List Int} {H : List (List Part)} (k : Hold ids H) (h2 : 2 ≤ H.length) (hs : sumH H ≤ 100000000) : Hold ids (mixS H) ∧ sumH (mixS H) = sumH H ∧ (mixS H).length ≤ H.length := by
  obtain ⟨H', p, q, rfl⟩ := two_last h2
  obtain ⟨k1, k2, k3⟩ := k.left
  obtain ⟨k4, k5, k6⟩ := k1.left
  have h0 := k4.sum_pos
  have hp := k5.pos k6
  have hq := k2.pos k3
  have hl := k.len
  rw [sumH_one, sumH_one] at hs ⊢
  rw [mixS_last, sumH_one, merge_sum _ p q (Nat.le_refl _)]
  exact ⟨k4.append (k5.merge k2 (by omega)) (merge_ne (.inl k6)) (by simp at hl; omega), by omega, by simp⟩
end Go.Proofs.Ytlmgjjmighajdaa
set_option linter.unusedSimpArgs false
set_option linter.unusedVariables false
namespace Go.Proofs.Ytlmgjjmighajdaa
open Go.Sl Go.Sx
theorem hold_at {lots : List Lot} {holds : List (List (List Part))} (s : StockOk lots holds) (h8 : lots.length ≤ 8) (h9 : holds.length = 9) {t : Nat} (ht : t < 9) : Hold (idsOf lots) (holds.getD t []) ∧ (holds.getD t []).length ≤ 4 ∧ sumH (holds.getD t []) ≤ 100000000 ∧ holds[t]? = some (holds.getD t []) := by
  have h : t < holds.length := by omega
  have e : holds.getD t [] = holds[t] := by simp [h]
  rw [e]
  have g := s.hok _ (List.getElem_mem h)
  exact ⟨g.hold h8, g.len, g.sum, by simp [h]⟩
theorem one_in {lots : List Lot} (hl : LotsOk lots) {l m : Int} (hh : Has lots l) (h0 : 1 ≤ m) (h1 : m ≤ 100000000) : In (idsOf lots) [⟨l, m⟩] := by
  refine ⟨fun p hp => ?_, List.pairwise_singleton _ _, fun p hp => ?_⟩
  · rw [List.mem_singleton] at hp
    subst hp
    obtain ⟨y, hy, e⟩ := hh
    have := hl.2.1 y hy
    exact ⟨by show 1 ≤ l; rw [← e]; exact this.id0, by show l ≤ 9999; rw [← e]; exact this.id1, h0, h1⟩
  · rw [List.mem_singleton] at hp
    subst hp
    exact mem_ids.2 hh
theorem doS_good {lots : List Lot} {holds : List (List (List Part))} (s : StockOk lots holds) (h8 : lots.length ≤ 8) (h9 : holds.length = 9) {k l fr to m : Int} (a : Allowed lots holds k l fr to m) :
    StockOk lots (doS holds k l fr to m).1 ∧ (doS holds k l fr to m).1.length = 9 ∧ In (idsOf lots) (doS holds k l fr to m).2 ∧ sumM (doS holds k l fr to m).2 = m := by
  obtain ⟨f1, f2, f3, f4⟩ := hold_at s h8 h9 (t := fr.toNat) (by have := a.fr0; omega)
  obtain ⟨t1, t2, t3, t4⟩ := hold_at s h8 h9 (t := to.toNat) (by have := a.to0; omega)
  have hk := a.k0
  have hk' : k = 1 ∨ k = 2 ∨ k = 3 ∨ k = 4 ∨ k = 5 ∨ k = 6 := by omega
  unfold doS
  rcases hk' with rfl | rfl | rfl | rfl | rfl | rfl
  · have hm := a.m0 (by omega)
    have h1 := one_in s.lok (a.lot (.inl rfl)) hm.1 hm.2
    have hi := a.into (.inl rfl)
    have hs1 : sumM [(⟨l, m⟩ : Part)] = m := by simp [sumM]
    obtain ⟨b1, b2, b3⟩ := ontoS_spec t1 (by omega) h1 (by simp) (by rw [hs1]; exact hi)
    simp only [if_true]
    exact ⟨s.set (b1.good (by omega) (by omega)), by simp [h9], h1, hs1⟩
  · have hm := a.m0 (by omega)
    have h1 := one_in s.lok (a.lot (.inr rfl)) hm.1 hm.2
    have hi := a.into (.inr (.inl rfl))
    have hr := a.room rfl
    have hs1 : sumM [(⟨l, m⟩ : Part)] = m := by simp [sumM]
    simp only [show ¬ (2 : Int) = 1 by omega, if_false, if_true]
    exact ⟨s.set ((t1.append h1 (by simp) (by omega)).good (by simp only [List.length_append, List.length_cons, List.length_nil]; omega) (by rw [sumH_one, hs1]; exact hi)), by simp [h9], h1, hs1⟩
  · have hm := a.m0 (by omega)
    obtain ⟨d1, d2, d3, d4, d5⟩ := drawS_spec f1 (m := m) (by omega) (a.from_ (.inl rfl)) f3
    simp only [show ¬ (3 : Int) = 1 by omega, show ¬ (3 : Int) = 2 by omega, if_false, if_true]
    exact ⟨s.set (d1.good (by omega) (by omega)), by simp [h9], d2, d4⟩
  · have hm := a.m0 (by omega)
    obtain ⟨d1, d2, d3, d4, d5⟩ := drawS_spec f1 (m := m) (by omega) (a.from_ (.inr (.inl rfl))) f3
    have hi := a.into (.inr (.inr rfl))
    have hne : (drawS (holds.getD fr.toNat []) m).2 ≠ [] := fun e => by rw [e] at d4; simp [sumM] at d4; omega
    obtain ⟨b1, b2, b3⟩ := ontoS_spec t1 (by omega) d2 hne (by rw [d4]; exact hi)
    simp only [show ¬ (4 : Int) = 1 by omega, show ¬ (4 : Int) = 2 by omega, show ¬ (4 : Int) = 3 by omega, if_false, if_true]
    exact ⟨(s.set (d1.good (by omega) (by omega))).set (b1.good (by omega) (by omega)), by simp [h9], d2, d4⟩
  · have hm := a.m0 (by omega)
    have hfr := a.from_ (.inr (.inr rfl))
    have hd := dealOk_hold f1 (by omega) f3 (m := m) (by omega) hfr
    have hfit := fit_hold f1 (by omega) f3 (m := m) (by omega) hfr
    obtain ⟨d1, d2, d3, d4, d5⟩ := loseL_spec f1.i8 hfit [] [] ⟨f1.i8, by simp, by simp, by simp⟩ (by simp only [List.length_nil]; omega) (In.nil _) (by simp [sumM]) (by rw [deal_sum hd]; simp [sumM]; omega)
    rw [deal_sum hd] at d3 d4
    simp only [show ¬ (5 : Int) = 1 by omega, show ¬ (5 : Int) = 2 by omega, show ¬ (5 : Int) = 3 by omega, show ¬ (5 : Int) = 4 by omega, if_false, if_true]
    have e0 : sumH [] = 0 := rfl
    have e1 : sumM [] = 0 := rfl
    exact ⟨s.set (d1.good (by simp only [List.length_nil] at d5; omega) (by omega)), by simp [h9], d2, by unfold loseS; omega⟩
  · obtain ⟨d1, d2, d3⟩ := mixS_spec f1 (a.two rfl) f3
    simp only [show ¬ (6 : Int) = 1 by omega, show ¬ (6 : Int) = 2 by omega, show ¬ (6 : Int) = 3 by omega, show ¬ (6 : Int) = 4 by omega, show ¬ (6 : Int) = 5 by omega, if_false]
    exact ⟨s.set (d1.good (by omega) (by omega)), by simp [h9], In.nil _, by rw [a.m6 rfl]; rfl⟩
end Go.Proofs.Ytlmgjjmighajdaa
set_option linter.unusedSimpArgs false
set_option linter.unusedVariables false
namespace Go.Proofs.Ytlmgjjmighajdaa
open Go.Sl Go.Sx
theorem Hold.heapOk {ids : List Int} {H : List (List Part)} (k : Hold ids H) (hs : sumH H ≤ 100000000) : ∀ p ∈ H, HeapOk p := fun p hp => (k.ins p hp).heap (by have := k.i8; omega) (by have := k.one_le p hp; omega)
theorem F28_end {f : Nat} (hf : 200 ≤ f) {lots : List Lot} {H holds : List (List (List Part))} (s : StockOk lots H) (h9 : H.length = 9) (hl : lots.length ≤ 8) {mv : List Part} (hm : mv.length ≤ 100) :
    F28_j1 f (lots, holds) H mv = some (lots, H, mv, 0) := by
  unfold F28_j1 F28_j2
  rw [F85_eq (s.small h9) (show lots.length ≤ 100 by omega) hf]
  simp only [Option.bind_some]
  rw [app_small (by simp) (by omega)]
  rfl
theorem F28_eq {f : Nat} (hf : 200 ≤ f) {lots : List Lot} {holds : List (List (List Part))} (s : StockOk lots holds) (h8 : lots.length ≤ 8) (h9 : holds.length = 9) {k l fr to m : Int} (h24 : F24 f lots holds k l fr to m = some 0) :
    F28 f lots holds k l fr to m = some (lots, (doS holds k l fr to m).1, (doS holds k l fr to m).2, 0) := by
  have a := F24_allowed s h9 (by omega) h24
  obtain ⟨g1, g2, g3, g4⟩ := doS_good s h8 h9 a
  have gl := g3.len
  have gi : (idsOf lots).length ≤ 8 := by simpa [idsOf] using h8
  obtain ⟨f1, f2, f3, f4⟩ := hold_at s h8 h9 (t := fr.toNat) (by have := a.fr0; omega)
  obtain ⟨t1, t2, t3, t4⟩ := hold_at s h8 h9 (t := to.toNat) (by have := a.to0; omega)
  have ef : getI holds fr = some (holds.getD fr.toNat []) := by
    have : fr = (fr.toNat : Int) := by have := a.fr0; omega
    rw [this, getI_opt, Int.toNat_natCast]; exact f4
  have et : getI holds to = some (holds.getD to.toNat []) := by
    have : to = (to.toNat : Int) := by have := a.to0; omega
    rw [this, getI_opt, Int.toNat_natCast]; exact t4
  unfold F28
  rw [h24]
  simp only [Option.bind_some, bne_self_eq_false, cond_false]
  rw [F85_eq (s.small h9) (by omega) hf]
  simp only [Option.bind_some, bq]
  have hk := a.k0
  have hk' : k = 1 ∨ k = 2 ∨ k = 3 ∨ k = 4 ∨ k = 5 ∨ k = 6 := by omega
  rcases hk' with rfl | rfl | rfl | rfl | rfl | rfl
  · have hm := a.m0 (by omega)
    have h1 := one_in s.lok (a.lot (.inl rfl)) hm.1 hm.2
    have hs1 : sumM [(⟨l, m⟩ : Part)] = m := by simp [sumM]
    simp only [doS, if_true, decide_true, cond_true, et, Option.bind_some] at g1 g2 ⊢
    rw [F86_eq hf (by omega) (t1.heapOk t3) (h1.heap (by omega) (by omega))]
    simp only [Option.bind_some]
    exact F28_end hf g1 g2 h8 (by simp)
  · simp only [doS, show ¬ (2 : Int) = 1 by omega, if_false, if_true, decide_true, decide_false, cond_true, cond_false, et, Option.bind_some] at g1 g2 ⊢
    rw [app_small (by omega) (by simp)]
    simp only [Option.bind_some]
    exact F28_end hf g1 g2 h8 (by simp)
  · have hm := a.m0 (by omega)
    simp only [doS, show ¬ (3 : Int) = 1 by omega, show ¬ (3 : Int) = 2 by omega, if_false, if_true, decide_true, decide_false, cond_true, cond_false, ef, Option.bind_some] at g1 g2 gl ⊢
    rw [F87_eq hf f1.rev (by omega) (by rw [sumH_rev]; exact a.from_ (.inl rfl)) (by rw [sumH_rev]; exact f3)]
    simp only [Option.bind_some]
    exact F28_end hf g1 g2 h8 (show (drawS (holds.getD fr.toNat []) m).2.length ≤ 100 by omega)
  · have hm := a.m0 (by omega)
    have hap := a.apart rfl
    have hne : fr.toNat ≠ to.toNat := by have := a.fr0; have := a.to0; omega
    obtain ⟨d1, d2, d3, d4, d5⟩ := drawS_spec f1 (m := m) (by omega) (a.from_ (.inr (.inl rfl))) f3
    have hi := a.into (.inr (.inr rfl))
    simp only [doS, show ¬ (4 : Int) = 1 by omega, show ¬ (4 : Int) = 2 by omega, show ¬ (4 : Int) = 3 by omega, if_false, if_true, decide_true, decide_false, cond_true, cond_false, ef, Option.bind_some] at g1 g2 gl ⊢
    rw [F87_eq hf f1.rev (by omega) (by rw [sumH_rev]; exact a.from_ (.inr (.inl rfl))) (by rw [sumH_rev]; exact f3)]
    have e5 : ∀ v, getI (holds.set fr.toNat v) to = some (holds.getD to.toNat []) := fun v => by
      have : to = (to.toNat : Int) := by have := a.to0; omega
      rw [this, getI_opt, Int.toNat_natCast, List.getElem?_set_ne hne]; exact t4
    simp only [Option.bind_some, e5]
    have e6 : ((drawR (holds.getD fr.toNat []).reverse [] m).1.reverse, (drawR (holds.getD fr.toNat []).reverse [] m).2) = drawS (holds.getD fr.toNat []) m := rfl
    have e7 : (drawR (holds.getD fr.toNat []).reverse [] m).2 = (drawS (holds.getD fr.toNat []) m).2 := rfl
    rw [e7, F86_eq hf (by omega) (t1.heapOk t3) (d2.heap (by omega) (by omega))]
    simp only [Option.bind_some]
    exact F28_end hf g1 g2 h8 (by omega)
  · have hm := a.m0 (by omega)
    simp only [doS, show ¬ (5 : Int) = 1 by omega, show ¬ (5 : Int) = 2 by omega, show ¬ (5 : Int) = 3 by omega, show ¬ (5 : Int) = 4 by omega, if_false, if_true, decide_true, decide_false, cond_true, cond_false, ef, Option.bind_some] at g1 g2 gl ⊢
    rw [F88_eq hf f1 (by omega) f3 (by omega) (a.from_ (.inr (.inr rfl)))]
    simp only [Option.bind_some]
    exact F28_end hf g1 g2 h8 (by omega)
  · obtain ⟨H, p, q, e⟩ := two_last (a.two rfl)
    simp only [doS, show ¬ (6 : Int) = 1 by omega, show ¬ (6 : Int) = 2 by omega, show ¬ (6 : Int) = 3 by omega, show ¬ (6 : Int) = 4 by omega, show ¬ (6 : Int) = 5 by omega, if_false, decide_true, decide_false, cond_true, cond_false, ef, Option.bind_some] at g1 g2 gl ⊢
    have hok := f1.heapOk f3
    rw [e] at hok f2 g1 g2 ⊢
    have hp := hok p (by simp)
    have hq := hok q (by simp)
    simp only [List.length_append, List.length_cons, List.length_nil] at f2
    obtain ⟨m1, m2, m3⟩ := mix_ref hf (H := H) (by omega) hp hq
    rw [m1, m2, m3]
    simp only [Option.bind_some]
    rw [app_small (by simp) (by omega)]
    simp only [Option.bind_some, List.nil_append]
    rw [F89_eq hp hq (by omega)]
    simp only [Option.bind_some]
    rw [app_small (by omega) (by simp)]
    simp only [Option.bind_some]
    rw [mixS_last] at g1 g2 ⊢
    exact F28_end hf g1 g2 h8 (by simp)
end Go.Proofs.Ytlmgjjmighajdaa
set_option linter.unusedSimpArgs false
set_option linter.unusedVariables false
namespace Go.Proofs.Ytlmgjjmighajdaa
open Go.Sl Go.Sx
theorem getD_set {α : Type} (l : List α) (t u : Nat) (v d : α) : (l.set t v).getD u d = if t = u ∧ t < l.length then v else l.getD u d := by
  by_cases e : t = u
  · subst e
    by_cases h : t < l.length
    · simp [h]
    · have : l.length ≤ t := by omega
      simp [List.getElem?_eq_none this, h]
  · simp [List.getElem?_set_ne e, e]
structure PlOk (lots : List Lot) (x : Pl) : Prop where
  el : x.lots = lots
  sok : StockOk lots x.holds
  h9 : x.holds.length = 9
  m9 : x.may.length = 9
  len : ∀ t : Nat, (x.may.getD t []).length = (x.holds.getD t []).length
def PlTells (x : Pl) : Prop := ∀ t : Nat, Tells (x.holds.getD t []) (x.may.getD t [])
theorem PlOk.at9 {lots : List Lot} {x : Pl} (k : PlOk lots x) {t : Nat} (ht : t < 9) : At9 x t (x.holds.getD t []) (x.may.getD t []) := by
  have h1 : t < x.holds.length := by have := k.h9; omega
  have h2 : t < x.may.length := by have := k.m9; omega
  refine ⟨by simp [h1], by simp [h2], k.len t, ?_⟩
  have e : x.holds.getD t [] = x.holds[t] := by simp [h1]
  rw [e]
  have := (k.sok.hok _ (List.getElem_mem h1)).len
  omega
theorem PlOk.put {lots : List Lot} {x : Pl} (k : PlOk lots x) {t : Nat} {H : List (List Part)} {M : List (List (Int × Bool))} (hl : M.length = H.length) (s : StockOk lots (x.holds.set t H)) : PlOk lots (x.put t H M) := by
  refine ⟨k.el, s, by simp [Pl.put, k.h9], by simp [Pl.put, k.m9], fun u => ?_⟩
  simp only [Pl.put, getD_set, k.h9, k.m9]
  split
  · exact hl
  · exact k.len u
theorem PlTells.put {x : Pl} (k : PlTells x) (h9 : x.holds.length = x.may.length) {t : Nat} {H : List (List Part)} {M : List (List (Int × Bool))} (h : Tells H M) : PlTells (x.put t H M) := fun u => by
  simp only [Pl.put, getD_set, h9]
  split
  · exact h
  · exact k u
def MayIn (x y : Pl) (l : Int) : Prop := ∀ t : Nat, ∀ u ∈ y.may.getD t [], u ∈ x.may.getD t [] ∨ u = putK [] l true
theorem MayIn.put {x : Pl} {t : Nat} {H : List (List Part)} {M : List (List (Int × Bool))} {l : Int} (h : ∀ u ∈ M, u ∈ x.may.getD t [] ∨ u = putK [] l true) : MayIn x (x.put t H M) l := fun v u hu => by
  simp only [Pl.put, getD_set] at hu
  split at hu
  · rename_i e; rw [← e.1]; exact h u hu
  · exact .inl hu
theorem F140_eq {f : Nat} (hf : 200 ≤ f) {ids : List Int} {t : Nat} {x : Pl} {H : List (List Part)} {M : List (List (Int × Bool))} (ha : At9 x t H M) (k : Hold ids H) {m : Int} (h0 : 0 < m) (h1 : m ≤ sumH H) (hs : sumH H ≤ 100000000) (hl : H.length ≤ 90) (a b c : Int) :
    ∃ s' M', M'.length = (drawS H m).1.length ∧ F140 f x a b (t : Int) c m = some ((drawS H m).2, s', x.put t (drawS H m).1 M') ∧ (∀ u ∈ M', u ∈ M) ∧ (Tells H M → Tells (drawS H m).1 M' ∧ Has1 (drawS H m).2 s') := by
  obtain ⟨s', M', e1, e2, e3, e4⟩ := F140_l1_eq hf t H.reverse f x M [] [] m (by simp; omega) k.rev (by simpa using ha) (In.nil ids) h0 (by rw [sumH_rev]; exact h1) (by rw [sumH_rev]; simp [sumM]; exact hs)
  refine ⟨s', M', by simpa [drawS] using e1, ?_, e3, fun kk => ?_⟩
  · unfold F140 F140_j1
    rw [e2]; rfl
  · have := e4 (by simpa using kk) (Has1.nil _)
    exact this
theorem F82_eq {f : Nat} (hf : 200 ≤ f) {lots : List Lot} (h8 : lots.length ≤ 8) {x : Pl} (p : PlOk lots x) {k l fr to m : Int} (h78 : F78 f lots x.holds k l fr to m = some 0) (a : Allowed lots x.holds k l fr to m) :
    ∃ s y, F82 f x k l fr to m = some ((doS x.holds k l fr to m).2, s, 0, y) ∧ y.holds = (doS x.holds k l fr to m).1 ∧ PlOk lots y ∧ (PlTells x → PlTells y) ∧ (k = 2 ∨ k = 3 ∨ k = 5 → MayIn x y l) := by
  have s := p.sok
  have h9 := p.h9
  have hpl : x.holds.length = x.may.length := by rw [p.h9, p.m9]
  obtain ⟨g1, g2, g3, g4⟩ := doS_good s h8 h9 a
  have gl := g3.len
  have gi : (idsOf lots).length ≤ 8 := by simpa [idsOf] using h8
  obtain ⟨f1, f2, f3, f4⟩ := hold_at s h8 h9 (t := fr.toNat) (by have := a.fr0; omega)
  obtain ⟨t1, t2, t3, t4⟩ := hold_at s h8 h9 (t := to.toNat) (by have := a.to0; omega)
  have af := p.at9 (t := fr.toNat) (by have := a.fr0; omega)
  have at_ := p.at9 (t := to.toNat) (by have := a.to0; omega)
  have efr : (fr.toNat : Int) = fr := by have := a.fr0; omega
  have eto : (to.toNat : Int) = to := by have := a.to0; omega
  have hk := a.k0
  unfold F82
  rw [p.el, h78]
  simp only [Option.bind_some, bne_self_eq_false, cond_false, F125_eq, lkK]
  rcases deeds_at k with ⟨rfl, e⟩ | ⟨rfl, e⟩ | ⟨rfl, e⟩ | ⟨rfl, e⟩ | ⟨rfl, e⟩ | ⟨rfl, e⟩ | ⟨hk, e⟩
  · have hm := a.m0 (by omega)
    have h1 := one_in s.lok (a.lot (.inl rfl)) hm.1 hm.2
    have hpo : PartOk ⟨l, m⟩ := h1.ok _ (by simp)
    obtain ⟨s', M', c1, c2, c3⟩ := F138_eq hf at_ (t1.heapOk t3) hpo 1 fr
    rw [eto] at c2
    simp only [doS, if_true] at g1 ⊢
    simp only [e, Option.getD_some, beq_self_eq_true, cond_true, c2, Option.bind_some]
    exact ⟨s', _, rfl, rfl, p.put c1 g1, fun k => k.put hpl (c3 (k _)), fun h => absurd h (by decide)⟩
  · have hm := a.m0 (by omega)
    obtain ⟨s', c2⟩ := F139_eq (f := f) at_ 2 l fr m
    rw [eto] at c2
    simp only [doS, show ¬ (2 : Int) = 1 by omega, if_false, if_true] at g1 ⊢
    simp only [e, Option.getD_some, show ((some 139 : Option Nat) == some 138) = false from rfl, beq_self_eq_true, cond_true, cond_false, c2, Option.bind_some]
    refine ⟨s', _, rfl, rfl, p.put (by have := at_.len; rw [List.length_append, List.length_append, this]; rfl) g1, fun k => k.put hpl ((k _).append (one_has l m)), fun _ => MayIn.put fun u hu => ?_⟩
    rcases List.mem_append.1 hu with h | h
    · exact .inl h
    · exact .inr (by simpa using h)
  · have hm := a.m0 (by omega)
    obtain ⟨s', M', c1, c2, c3, c4⟩ := F140_eq hf af f1 (m := m) (by omega) (a.from_ (.inl rfl)) f3 (by omega) 3 l to
    rw [efr] at c2
    simp only [doS, show ¬ (3 : Int) = 1 by omega, show ¬ (3 : Int) = 2 by omega, if_false, if_true] at g1 ⊢
    simp only [e, Option.getD_some, show ((some 140 : Option Nat) == some 138) = false from rfl, show ((some 140 : Option Nat) == some 139) = false from rfl, beq_self_eq_true, cond_true, cond_false, c2, Option.bind_some]
    exact ⟨s', _, rfl, rfl, p.put c1 g1, fun k => k.put hpl (c4 (k _)).1, fun _ => MayIn.put fun u hu => .inl (c3 u hu)⟩
  · have hm := a.m0 (by omega)
    have hap := a.apart rfl
    have hne : fr.toNat ≠ to.toNat := by have := a.fr0; have := a.to0; omega
    obtain ⟨d1, d2, d3, d4, d5⟩ := drawS_spec f1 (m := m) (by omega) (a.from_ (.inr (.inl rfl))) f3
    obtain ⟨s', M', c1, c2, c3, c4⟩ := F140_eq hf af f1 (m := m) (by omega) (a.from_ (.inr (.inl rfl))) f3 (by omega) 4 l to
    rw [efr] at c2
    have sg := s.set (t := fr.toNat) (d1.good (by omega) (by omega))
    have p2 := p.put c1 sg
    have hn2 : (drawS (x.holds.getD fr.toNat []) m).2 ≠ [] := fun h => by rw [h] at d4; simp [sumM] at d4; omega
    simp only [doS, show ¬ (4 : Int) = 1 by omega, show ¬ (4 : Int) = 2 by omega, show ¬ (4 : Int) = 3 by omega, if_false, if_true] at g1 gl g3 ⊢
    obtain ⟨M2, b1, b2, b3⟩ := F146_eq hf (at_.other hne (H' := (drawS (x.holds.getD fr.toNat []) m).1) (M' := M')) (t1.heapOk t3) (g3.heap (by omega) (by omega)) hn2 s'
    rw [eto] at b2
    simp only [e, Option.getD_some, show ((some 141 : Option Nat) == some 138) = false from rfl, show ((some 141 : Option Nat) == some 139) = false from rfl, show ((some 141 : Option Nat) == some 140) = false from rfl, beq_self_eq_true, cond_true, cond_false, F141, c2, b2, Option.bind_some]
    refine ⟨s', _, rfl, rfl, p2.put b1 g1, fun k => ?_, fun h => absurd h (by decide)⟩
    obtain ⟨k1, k2⟩ := c4 (k _)
    exact (k.put hpl k1).put (by simp [Pl.put, hpl]) (b3 (k _) k2)
  · have hm := a.m0 (by omega)
    obtain ⟨s', M', c1, c2, c3, c4⟩ := F142_eq hf af f1 (by omega) f3 (m := m) (by omega) (a.from_ (.inr (.inr rfl))) 5 l to
    rw [efr] at c2
    simp only [doS, show ¬ (5 : Int) = 1 by omega, show ¬ (5 : Int) = 2 by omega, show ¬ (5 : Int) = 3 by omega, show ¬ (5 : Int) = 4 by omega, if_false, if_true] at g1 ⊢
    simp only [e, Option.getD_some, show ((some 142 : Option Nat) == some 138) = false from rfl, show ((some 142 : Option Nat) == some 139) = false from rfl, show ((some 142 : Option Nat) == some 140) = false from rfl, show ((some 142 : Option Nat) == some 141) = false from rfl, beq_self_eq_true, cond_true, cond_false, c2, Option.bind_some]
    exact ⟨s', _, rfl, rfl, p.put c1 g1, fun k => k.put hpl (c4 (k _)), fun _ => MayIn.put fun u hu => .inl (c3 u hu)⟩
  · obtain ⟨H, p', q, eH⟩ := two_last (a.two rfl)
    have hok := f1.heapOk f3
    have hne := f1.ne
    rw [eH] at hok hne
    have af' := af
    rw [eH] at af'
    obtain ⟨M', c1, c2, c3⟩ := F143_eq hf af' (hok p' (by simp)) (hok q (by simp)) (hne q (by simp)) 6 l to m
    rw [efr] at c2
    simp only [doS, show ¬ (6 : Int) = 1 by omega, show ¬ (6 : Int) = 2 by omega, show ¬ (6 : Int) = 3 by omega, show ¬ (6 : Int) = 4 by omega, show ¬ (6 : Int) = 5 by omega, if_false, eH, mixS_last] at g1 ⊢
    simp only [e, Option.getD_some, show ((some 143 : Option Nat) == some 138) = false from rfl, show ((some 143 : Option Nat) == some 139) = false from rfl, show ((some 143 : Option Nat) == some 140) = false from rfl, show ((some 143 : Option Nat) == some 141) = false from rfl, show ((some 143 : Option Nat) == some 142) = false from rfl, beq_self_eq_true, cond_true, cond_false, c2, Option.bind_some]
    exact ⟨[], _, rfl, rfl, p.put c1 g1, fun k => k.put hpl (c3 (by have := k fr.toNat; rwa [eH] at this)), fun h => absurd h (by decide)⟩
  · omega
theorem F82_no {f : Nat} {x : Pl} {k l fr to m r : Int} (h : F78 f x.lots x.holds k l fr to m = some r) (hr : r ≠ 0) : F82 f x k l fr to m = some ([], [], r, x) := by
  unfold F82
  have : (r != 0) = true := by simpa using hr
  rw [h, Option.bind_some, this, cond_true]
end Go.Proofs.Ytlmgjjmighajdaa
set_option linter.unusedSimpArgs false
set_option linter.unusedVariables false
namespace Go.Proofs.Ytlmgjjmighajdaa
open Go.Sl Go.Sx
theorem getD_map {α β : Type} (g : List α → List β) (hg : g [] = []) (l : List (List α)) (t : Nat) : (l.map g).getD t [] = g (l.getD t []) := by
  by_cases h : t < l.length
  · simp [h]
  · have : l.length ≤ t := by omega
    simp [List.getElem?_eq_none this, hg]
def plOf (lots : List Lot) (holds : List (List (List Part))) : Pl := ⟨lots, holds, mayOf holds⟩
theorem plOf_ok {lots : List Lot} {holds : List (List (List Part))} (s : StockOk lots holds) (h9 : holds.length = 9) : PlOk lots (plOf lots holds) where
  el := rfl
  sok := s
  h9 := h9
  m9 := by simp [plOf, mayOf, h9]
  len t := by
    show ((mayOf holds).getD t []).length = (holds.getD t []).length
    unfold mayOf
    rw [getD_map _ rfl]
    simp
theorem F78_of {f : Nat} {lots : List Lot} {holds : List (List (List Part))} (s : StockOk lots holds) (h9 : holds.length = 9) (hf : 40 < f) (k l fr to m : Int) :
    ∃ r, F78 f lots holds k l fr to m = some r ∧ F24 f lots holds k l fr to m = some r := by
  obtain ⟨r, e1, e2⟩ := check_eq s h9 hf k l fr to m
  rcases F22_eq (lots := lots) h9 hf with ⟨_, e⟩ | ⟨hn, _⟩
  · exact ⟨r, e1, e2 e⟩
  · exact absurd s hn
abbrev Holds := List (List (List Part))
def nine : Holds := [[], [], [], [], [], [], [], [], []]
def doD (h : Holds) (d : Deed) : Holds := (doS h d.kind d.lot d.frm d.to d.mass).1
def run (h : Holds) (ds : List Deed) : Holds := ds.foldl doD h
def Can (f : Nat) (lots : List Lot) (h : Holds) (d : Deed) : Prop := F24 f lots h d.kind d.lot d.frm d.to d.mass = some 0
def Chain (f : Nat) (lots : List Lot) (h : Holds) : List Deed → Prop
  | [] => True
  | d :: ds => Can f lots h d ∧ Chain f lots (doD h d) ds
theorem Chain.snoc {f : Nat} {lots : List Lot} : ∀ {h : Holds} {ds : List Deed} {d : Deed}, Chain f lots h ds → Can f lots (run h ds) d → Chain f lots h (ds ++ [d])
  | h, [], d, _, k => ⟨k, trivial⟩
  | h, e :: ds, d, c, k => ⟨c.1, Chain.snoc c.2 k⟩
theorem nine_ok {lots : List Lot} (h : LotsOk lots) : StockOk lots nine := by
  refine ⟨h, fun l hl => ?_⟩
  have : l = [] := by simp [nine] at hl; exact hl
  subst this
  exact ⟨by simp, by simp, by simp [sumH]⟩
theorem doD_good {f : Nat} (hf : 200 ≤ f) {lots : List Lot} {h : Holds} (s : StockOk lots h) (h8 : lots.length ≤ 8) (h9 : h.length = 9) {d : Deed} (c : Can f lots h d) : StockOk lots (doD h d) ∧ (doD h d).length = 9 := by
  obtain ⟨g1, g2, _, _⟩ := doS_good s h8 h9 (F24_allowed s h9 (by omega) c)
  exact ⟨g1, g2⟩
theorem run_snoc (h : Holds) (ds : List Deed) (d : Deed) : run h (ds ++ [d]) = doD (run h ds) d := by simp [run]
theorem run_good {f : Nat} (hf : 200 ≤ f) {lots : List Lot} (h8 : lots.length ≤ 8) : ∀ {ds : List Deed} {h : Holds}, StockOk lots h → h.length = 9 → Chain f lots h ds → StockOk lots (run h ds) ∧ (run h ds).length = 9
  | [], h, s, h9, _ => ⟨s, h9⟩
  | d :: ds, h, s, h9, c => by
    obtain ⟨g1, g2⟩ := doD_good hf s h8 h9 c.1
    exact run_good (ds := ds) hf h8 g1 g2 c.2
end Go.Proofs.Ytlmgjjmighajdaa
set_option linter.unusedSimpArgs false
set_option linter.unusedVariables false
namespace Go.Proofs.Ytlmgjjmighajdaa
open Go.Sl Go.Sx
theorem F35_eq (f : Nat) (p n : Int) (h0 : 0 < n) (h1 : n ≤ 1000000000) : F35 f p n = some (p % n) := by
  unfold F35
  rw [nzS (by omega)]
  simp only [Option.bind_some]
  have a1 := Int.lt_tmod_of_pos p h0
  have a2 := Int.tmod_lt_of_pos p h0
  rw [w64_id (by omega) (by omega), Int.tmod_eq_emod_of_nonneg (by omega)]
  congr 1
  rw [Int.add_emod_right]
  have e : p.tmod n % n = p % n := by
    rw [Int.tmod_eq_emod]
    split
    · simp
    · have : ((n.natAbs : Nat) : Int) = n := by omega
      rw [this, Int.sub_emod]; simp
  exact e
theorem mod_b (p n : Int) (h0 : 0 < n) : 0 ≤ p % n ∧ p % n < n := ⟨Int.emod_nonneg _ (by omega), Int.emod_lt_of_pos _ h0⟩
structure LotsTo (l : List Lot) (i : Nat) (m : Int) : Prop where
  len : l.length = i
  ok : ∀ x ∈ l, LotOk x ∧ x.id ≤ m
  rise : l.Pairwise fun a b => a.id < b.id
  m0 : 0 ≤ m
  m1 : m ≤ 3 * i
theorem F94_loop {f : Nat} (x : List A4) : ∀ n i (l : List Lot) (m : Int), LotsTo l i m → i ≤ 8 → 9 - i ≤ n → ∃ lots, F94_l1 f x n l m (i : Int) = some lots ∧ LotsOk lots ∧ lots.length ≤ 8
  | 0, i, l, m, k, h8, hn => by omega
  | n + 1, i, l, m, k, h8, hn => by
    have fin : LotsOk l ∧ l.length ≤ 8 := ⟨⟨by have := k.len; omega, fun y hy => (k.ok y hy).1, k.rise⟩, by have := k.len; omega⟩
    simp only [F94_l1]
    by_cases hx : i < x.length
    · rw [decide_eq_true (by omega : (i : Int) < (x.length : Int)), cond_true]
      by_cases hi : i < 8
      · rw [decide_eq_true (by omega : (i : Int) < 8)]
        simp only [F94_j1, cond_true, getI_nat hx, Option.bind_some]
        have b0 := mod_b x[i].a0 3 (by omega)
        have b1 := mod_b x[i].a1 3 (by omega)
        have b2 := mod_b x[i].a2 3 (by omega)
        have b3 := mod_b x[i].a3 10001 (by omega)
        rw [F35_eq f x[i].a0 3 (by omega) (by omega), F35_eq f x[i].a1 3 (by omega) (by omega), F35_eq f x[i].a2 3 (by omega) (by omega), F35_eq f x[i].a3 10001 (by omega) (by omega)]
        simp only [Option.bind_some]
        have k0 := k.m0
        have k1 := k.m1
        rw [w64_id (n := m + 1) (by omega) (by omega), w64_id (n := m + 1 + x[i].a0 % 3) (by omega) (by omega), w64_id (n := 1 + x[i].a1 % 3) (by omega) (by omega), w64_id (n := 1 + x[i].a2 % 3) (by omega) (by omega), app_small (by have := k.len; omega) (by simp)]
        simp only [Option.bind_some]
        rw [succ_w (by omega)]
        refine F94_loop x n (i + 1) _ _ ⟨by simp [k.len], fun y hy => ?_, ?_, by omega, by push_cast; omega⟩ (by omega) (by omega)
        · rcases List.mem_append.1 hy with h | h
          · have := k.ok y h
            exact ⟨this.1, by omega⟩
          · rw [List.mem_singleton] at h
            subst h
            exact ⟨⟨by show 1 ≤ m + 1 + _; omega, by show m + 1 + _ ≤ 9999; omega, by show 1 ≤ 1 + _; omega, by show 1 + _ ≤ 9; omega, by show 1 ≤ 1 + _; omega, by show 1 + _ ≤ 9; omega, by show 0 ≤ x[i].a3 % 10001; omega, by show x[i].a3 % 10001 ≤ 10000; omega⟩, Int.le_refl _⟩
        · refine List.pairwise_append.2 ⟨k.rise, List.pairwise_singleton _ _, fun a ha b hb => ?_⟩
          rw [List.mem_singleton] at hb
          subst hb
          have := (k.ok a ha).2
          show a.id < m + 1 + _
          omega
      · rw [decide_eq_false (by omega : ¬ (i : Int) < 8)]
        simp only [F94_j1, cond_false]
        exact ⟨l, rfl, fin⟩
    · rw [decide_eq_false (by omega : ¬ (i : Int) < (x.length : Int)), cond_false]
      simp only [F94_j1, cond_false]
      exact ⟨l, rfl, fin⟩
theorem F94_eq {f : Nat} (hf : 200 ≤ f) (x : List A4) : ∃ lots, F94 f x = some lots ∧ LotsOk lots ∧ lots.length ≤ 8 := by
  have := F94_loop (f := f) x f 0 [] 0 ⟨rfl, by simp, List.Pairwise.nil, by omega, by omega⟩ (by omega) (by omega)
  simpa [F94] using this
theorem F95_eq {f : Nat} (hf : 200 ≤ f) {lots : List Lot} {h : Holds} (s : StockOk lots h) (h8 : lots.length ≤ 8) (h0 : 0 < lots.length) (h9 : h.length = 9) (a b c d e : Int) :
    ∃ k l fr to m g, F95 f lots h a b c d e = some (k, l, fr, to, m, g) ∧ (g = true → F24 f lots h k l fr to m = some 0) := by
  have j2' : ∀ r1 l fr to m, ∃ k l' fr' to' m' g, F95_j2 f lots h r1 l fr to m = some (k, l', fr', to', m', g) ∧ (g = true → F24 f lots h k l' fr' to' m' = some 0) := by
    intro r1 l fr to m
    obtain ⟨r, _, e2⟩ := F78_of s h9 (by omega : 40 < f) (w64 (1 + r1)) l fr to m
    refine ⟨w64 (1 + r1), l, fr, to, m, r == 0, by unfold F95_j2; rw [e2]; rfl, fun hg => ?_⟩
    have : r = 0 := by simpa using hg
    rw [e2, this]
  have j4 : ∀ e r1 r3 y6, 0 ≤ r3 → r3 < 4 → ∃ k l' fr' to' m' g, F95_j4 f lots h e r1 r3 y6 = some (k, l', fr', to', m', g) ∧ (g = true → F24 f lots h k l' fr' to' m' = some 0) := by
    intro e r1 r3 y6 hr0 hr1
    unfold F95_j4
    cases h6 : (w64 (1 + r1) != 6)
    · rw [cond_false]; exact j2' _ _ _ _ _
    · have hlt : r3.toNat < h.length := by omega
      have er : getI h r3 = some h[r3.toNat] := by have := getI_nat hlt; rwa [Int.toNat_of_nonneg hr0] at this
      have g := s.hok _ (List.getElem_mem hlt)
      have hs0 := (sumH_bound fun x hx => (g.heaps x hx).ok).1
      have hs1 := g.sum
      rw [cond_true, er]
      simp only [Option.bind_some]
      rw [F77_75, F75_eq g.len (fun x hx => (g.heaps x hx).ok) (by omega)]
      simp only [Option.bind_some]
      rw [F35_eq f e _ (by split <;> omega) (by split <;> omega)]
      exact j2' _ _ _ _ _
  have j3 : ∀ b e r1 r3 r6 y8 y9, 0 ≤ r3 → r3 < 4 → ∃ k l' fr' to' m' g, F95_j3 f lots h b e r1 r3 r6 y8 y9 = some (k, l', fr', to', m', g) ∧ (g = true → F24 f lots h k l' fr' to' m' = some 0) := by
    intro b e r1 r3 r6 y8 y9 hr0 hr1
    unfold F95_j3
    cases y9
    · rw [cond_false]
      cases h4 : (w64 (1 + r1) == 4)
      · rw [cond_false]; exact j4 _ _ _ _ hr0 hr1
      · rw [cond_true]; exact j4 _ _ _ _ hr0 hr1
    · rw [cond_true, F35_eq f b _ (by omega) (by omega)]
      have mb := mod_b b (lots.length : Int) (by omega)
      have hlt : (b % (lots.length : Int)).toNat < lots.length := by omega
      have er : getI lots (b % (lots.length : Int)) = some lots[(b % (lots.length : Int)).toNat] := by have := getI_nat hlt; rwa [Int.toNat_of_nonneg mb.1] at this
      simp only [Option.bind_some, er]
      exact j2' _ _ _ _ _
  have mc := mod_b c 4 (by omega)
  have j1 : ∀ m, ∃ k l' fr' to' m' g, F95_j1 f lots h b e (a % 6) (c % 4) (d % 4) m = some (k, l', fr', to', m', g) ∧ (g = true → F24 f lots h k l' fr' to' m' = some 0) := by
    intro m
    unfold F95_j1
    cases h1 : (w64 (1 + a % 6) == 1)
    · rw [cond_false]; exact j3 _ _ _ _ _ _ _ mc.1 mc.2
    · rw [cond_true]; exact j3 _ _ _ _ _ _ _ mc.1 mc.2
  unfold F95
  rw [F35_eq f a 6 (by omega) (by omega), F35_eq f c 4 (by omega) (by omega), F35_eq f d 4 (by omega) (by omega), F35_eq f e 400 (by omega) (by omega), F35_eq f (w64 (Int.tdiv e 400)) 9 (by omega) (by omega)]
  simp only [Option.bind_some]
  cases h1 : (w64 (Int.tdiv e 400) % 9 == 0)
  · rw [cond_false]; exact j1 _
  · rw [cond_true, F35_eq f e 5000000 (by omega) (by omega)]
    exact j1 _
theorem F37_loop {f : Nat} (hf : 200 ≤ f) (x : List A5) {lots : List Lot} (hl : LotsOk lots) (h8 : lots.length ≤ 8) : ∀ n i (ds : List Deed), ds.length ≤ i → i ≤ 24 → 25 - i ≤ n → Chain f lots nine ds → (lots = [] → ds = []) →
    ∃ ds', F37_l1 f x lots n ds lots (run nine ds) (i : Int) = some (lots, ds') ∧ ds'.length ≤ 24 ∧ Chain f lots nine ds' ∧ (lots = [] → ds' = [])
  | 0, i, ds, _, _, hn, _, _ => by omega
  | n + 1, i, ds, hd, hi, hn, hc, h00 => by
    have fin : ds.length ≤ 24 ∧ Chain f lots nine ds ∧ (lots = [] → ds = []) := ⟨by omega, hc, h00⟩
    simp only [F37_l1]
    by_cases hx : i < x.length
    · rw [decide_eq_true (by omega : (i : Int) < (x.length : Int)), cond_true]
      by_cases hi : i < 24
      · rw [decide_eq_true (by omega : (i : Int) < 24), cond_true]
        by_cases h0 : 0 < lots.length
        · rw [decide_eq_true (by omega : (lots.length : Int) > 0)]
          obtain ⟨g1, g2⟩ := run_good hf h8 (nine_ok hl) rfl hc
          obtain ⟨k, l, fr, to, m, g, e1, e2⟩ := F95_eq hf g1 h8 h0 g2 x[i].a0 x[i].a1 x[i].a2 x[i].a3 x[i].a4
          simp only [F37_j1, cond_true, getI_nat hx, Option.bind_some, e1]
          cases g
          · simp only [F37_j3, cond_false, F37_j2]
            rw [succ_w (by omega)]
            exact F37_loop hf x hl h8 n (i + 1) ds (by omega) (by omega) (by omega) hc h00
          · have h24 := e2 rfl
            simp only [F37_j3, cond_true, F37_j2]
            rw [F28_eq hf g1 h8 g2 h24]
            simp only [Option.bind_some]
            rw [app_small (by omega) (by simp)]
            simp only [Option.bind_some]
            rw [succ_w (by omega)]
            have e3 : (doS (run nine ds) k l fr to m).1 = run nine (ds ++ [⟨k, l, fr, to, m⟩]) := by rw [run_snoc]; rfl
            rw [e3]
            exact F37_loop hf x hl h8 n (i + 1) _ (by simp; omega) (by omega) (by omega) (hc.snoc h24) (fun e => by rw [e] at h0; simp at h0)
        · rw [decide_eq_false (by omega : ¬ (lots.length : Int) > 0)]
          simp only [F37_j1, cond_false]
          exact ⟨ds, rfl, fin⟩
      · rw [decide_eq_false (by omega : ¬ (i : Int) < 24), cond_false]
        simp only [F37_j1, cond_false]
        exact ⟨ds, rfl, fin⟩
    · rw [decide_eq_false (by omega : ¬ (i : Int) < (x.length : Int)), cond_false]
      simp only [F37_j1, cond_false]
      exact ⟨ds, rfl, fin⟩
structure MadeOk (f : Nat) (lots : List Lot) (ds : List Deed) : Prop where
  lok : LotsOk lots
  h8 : lots.length ≤ 8
  len : ds.length ≤ 24
  chain : Chain f lots nine ds
  none : lots = [] → ds = []
theorem F37_eq {f : Nat} (hf : 200 ≤ f) (x : List A4) (y : List A5) : ∃ lots ds, F37 f x y = some (lots, ds) ∧ MadeOk f lots ds := by
  obtain ⟨lots, e, hl, h8⟩ := F94_eq hf x
  obtain ⟨ds, e2, h1, h2, h3⟩ := F37_loop hf y hl h8 f 0 [] (by simp) (by omega) (by omega) trivial (fun _ => rfl)
  refine ⟨lots, ds, ?_, hl, h8, h1, h2, h3⟩
  unfold F37
  rw [e]
  exact e2
end Go.Proofs.Ytlmgjjmighajdaa
set_option linter.unusedSimpArgs false
set_option linter.unusedVariables false
namespace Go.Proofs.Ytlmgjjmighajdaa
open Go.Sl Go.Sx
theorem F82_step {f : Nat} (hf : 200 ≤ f) {lots : List Lot} (h8 : lots.length ≤ 8) {x : Pl} (p : PlOk lots x) (d : Deed) :
    (∃ r, r ≠ 0 ∧ F24 f lots x.holds d.kind d.lot d.frm d.to d.mass = some r ∧ F82 f x d.kind d.lot d.frm d.to d.mass = some ([], [], r, x)) ∨
    (∃ s y, Can f lots x.holds d ∧ F82 f x d.kind d.lot d.frm d.to d.mass = some ((doS x.holds d.kind d.lot d.frm d.to d.mass).2, s, 0, y) ∧ y.holds = doD x.holds d ∧ PlOk lots y ∧ (PlTells x → PlTells y) ∧ (d.kind = 2 ∨ d.kind = 3 ∨ d.kind = 5 → MayIn x y d.lot)) := by
  obtain ⟨r, e1, e2⟩ := F78_of p.sok p.h9 (by omega : 40 < f) d.kind d.lot d.frm d.to d.mass
  by_cases hr : r = 0
  · subst hr
    obtain ⟨s, y, k1, k2, k3, k4, k5⟩ := F82_eq hf h8 p e1 (F24_allowed p.sok p.h9 (by omega) e2)
    exact .inr ⟨s, y, e2, k1, k2, k3, k4, k5⟩
  · exact .inl ⟨r, hr, e2, F82_no (by rw [p.el]; exact e1) hr⟩
theorem drop_head {α : Type} {ds : List α} {i : Nat} {d : α} {rest : List α} (e : ds.drop i = d :: rest) : ∃ h : i < ds.length, ds[i] = d ∧ ds.drop (i + 1) = rest := by
  have hlt : i < ds.length := by
    rcases Nat.lt_or_ge i ds.length with h | h
    · exact h
    · rw [List.drop_eq_nil_of_le h] at e; cases e
  have e2 := List.drop_eq_getElem_cons hlt
  rw [e] at e2
  injection e2 with ed er
  exact ⟨hlt, ed.symm, er.symm⟩
theorem F110_ok {f : Nat} (hf : 200 ≤ f) {lots : List Lot} (hl : LotsOk lots) {ds : List Deed} (hd : ds.length ≤ 60) : F110 f lots ds = some 0 := by
  unfold F110
  rcases F19_eq (l := lots) (by omega : 40 < f) with ⟨_, e⟩ | ⟨hn, _⟩
  · have : decide ((ds.length : Int) > 60) = false := decide_eq_false (by omega)
    rw [e]
    simp only [Option.bind_some, bne_self_eq_false, cond_false, this]
  · exact absurd hl hn
theorem F81_nine {f : Nat} (hf : 200 ≤ f) {lots : List Lot} (hl : LotsOk lots) (h8 : lots.length ≤ 8) : F81 f lots nine = some (plOf lots nine) := F81_eq ((nine_ok hl).small rfl) (by omega) hf
end Go.Proofs.Ytlmgjjmighajdaa
set_option linter.unusedSimpArgs false
set_option linter.unusedVariables false
namespace Go.Proofs.Ytlmgjjmighajdaa
open Go.Sl Go.Sx
variable {ids : List Int}
def ofM (l : Int) (p : List Part) : Int := (p.map fun q => if q.lot = l then q.mass else 0).sum
def ofH (l : Int) (H : List (List Part)) : Int := (H.map (ofM l)).sum
def ofA (l : Int) (h : Holds) : Int := (h.map (ofH l)).sum
theorem ofM_cons (l : Int) (q : Part) (p : List Part) : ofM l (q :: p) = (if q.lot = l then q.mass else 0) + ofM l p := by simp [ofM]
theorem ofH_cons (l : Int) (p : List Part) (H : List (List Part)) : ofH l (p :: H) = ofM l p + ofH l H := by simp [ofH]
theorem ofM_bound {l : Int} : ∀ {p : List Part}, (∀ q ∈ p, 1 ≤ q.mass) → 0 ≤ ofM l p ∧ ofM l p ≤ sumM p
  | [], _ => by simp [ofM, sumM]
  | q :: p, h => by
    have ih := ofM_bound (l := l) (p := p) fun x hx => h x (by simp [hx])
    have h1 := h q (by simp)
    rw [ofM_cons]
    have : sumM (q :: p) = q.mass + sumM p := by simp [sumM]
    rw [this]
    split <;> omega
def mvD (h : Holds) (d : Deed) : List Part := (doS h d.kind d.lot d.frm d.to d.mass).2
def gainS (c : Int → Bool) (l : Int) : Holds → List Deed → Int
  | _, [] => 0
  | h, d :: ds => (if c d.kind = true then ofM l (mvD h d) else 0) + gainS c l (doD h d) ds
def isIn (k : Int) : Bool := (k == 1) || (k == 2)
def isDraw (k : Int) : Bool := k == 3
def isLose (k : Int) : Bool := k == 5
theorem mvD_ok {f : Nat} (hf : 200 ≤ f) {lots : List Lot} {h : Holds} (s : StockOk lots h) (h8 : lots.length ≤ 8) (h9 : h.length = 9) {d : Deed} (c : Can f lots h d) (l : Int) : In (idsOf lots) (mvD h d) ∧ (mvD h d).length ≤ 8 ∧ 0 ≤ ofM l (mvD h d) ∧ ofM l (mvD h d) ≤ 100000000 ∧ sumM (mvD h d) ≤ 100000000 := by
  have a := F24_allowed s h9 (by omega) c
  obtain ⟨g1, g2, g3, g4⟩ := doS_good s h8 h9 a
  have gi : (idsOf lots).length ≤ 8 := by simpa [idsOf] using h8
  have hm : d.mass ≤ 100000000 := by
    by_cases e : d.kind = 6
    · have := a.m6 e; omega
    · exact (a.m0 e).2
  have b := ofM_bound (l := l) (p := mvD h d) fun q hq => (g3.ok q hq).m0
  change sumM (mvD h d) = _ at g4
  have hl : (mvD h d).length ≤ (idsOf lots).length := g3.len
  exact ⟨g3, by omega, b.1, by omega, by omega⟩
end Go.Proofs.Ytlmgjjmighajdaa
set_option linter.unusedSimpArgs false
set_option linter.unusedVariables false
namespace Go.Proofs.Ytlmgjjmighajdaa
open Go.Sl Go.Sx
abbrev Tab := List (Int × Int)
def addK (y : Tab) (q : Part) : Tab := putK y q.lot (w64 (lkK y q.lot 0 + q.mass))
theorem lk_put (y : Tab) (k v l : Int) : lkK (putK y k v) l 0 = if k = l then v else lkK y l 0 := by
  unfold lkK; rw [getK_put]; split <;> rfl
def Bd (y : Tab) (b : Int) : Prop := ∀ l, 0 ≤ lkK y l 0 ∧ lkK y l 0 ≤ b
theorem Bd.nil : Bd [] 0 := fun l => by simp [lkK, getK]
theorem fold_lk : ∀ {p : List Part} {y : Tab} {b : Int}, (∀ q ∈ p, PartOk q) → Bd y b → b + 100000000 * (p.length : Int) ≤ 1000000000000 → ∀ l, lkK (p.foldl addK y) l 0 = lkK y l 0 + ofM l p
  | [], y, b, _, _, _, l => by simp [ofM]
  | q :: p, y, b, h, hb, hl, l => by
    have hq := h q (by simp)
    have q0 := hq.m0
    have q1 := hq.m1
    simp only [List.length_cons] at hl
    push_cast at hl
    have hy := hb q.lot
    have hw : w64 (lkK y q.lot 0 + q.mass) = lkK y q.lot 0 + q.mass := w64_id (by omega) (by omega)
    have hb2 : Bd (addK y q) (b + 100000000) := fun l => by
      unfold addK
      rw [lk_put, hw]
      have := hb l
      split <;> omega
    rw [List.foldl_cons, fold_lk (fun x hx => h x (by simp [hx])) hb2 (by omega) l, ofM_cons]
    have : lkK (addK y q) l 0 = lkK y l 0 + (if q.lot = l then q.mass else 0) := by
      unfold addK
      rw [lk_put, hw]
      split
      · rename_i e; subst e; rfl
      · omega
    omega
theorem F45_l2_eq {f : Nat} (hf : 200 ≤ f) (k5 : Pl → Tab → Tab → Tab → Int → Option (List Account × Int)) (a b : Tab) (i : Int) (r : List Part × List (Int × Bool) × Int × Pl) (hr : r.1.length ≤ 100) (y : Tab) : F45_l2 k5 a b i r f y 0 = F45_j2 k5 i r a b (r.1.foldl addK y) := by
  have key := from_st (T := fun n j => F45_l2 k5 a b i r n ((r.1.take j).foldl addK y) (j : Int)) (len := r.1.length) (n := f) (out := F45_j2 k5 i r a b (r.1.foldl addK y)) (by omega)
    (fun n j hj => by
      simp only [F45_l2, lt_len, hj, decide_true, cond_true, getI_nat hj, Option.bind_some]
      rw [succ_w (by omega), take_fold _ _ hj]; rfl)
    (fun n => by simp only [F45_l2, lt_len, Nat.lt_irrefl, decide_false, cond_false, List.take_length])
  exact key
theorem F45_l3_eq {f : Nat} (hf : 200 ≤ f) (k5 : Pl → Tab → Tab → Tab → Int → Option (List Account × Int)) (a b : Tab) (i : Int) (r : List Part × List (Int × Bool) × Int × Pl) (hr : r.1.length ≤ 100) (y : Tab) : F45_l3 k5 a b i r f y 0 = F45_j2 k5 i r a (r.1.foldl addK y) b := by
  have key := from_st (T := fun n j => F45_l3 k5 a b i r n ((r.1.take j).foldl addK y) (j : Int)) (len := r.1.length) (n := f) (out := F45_j2 k5 i r a (r.1.foldl addK y) b) (by omega)
    (fun n j hj => by
      simp only [F45_l3, lt_len, hj, decide_true, cond_true, getI_nat hj, Option.bind_some]
      rw [succ_w (by omega), take_fold _ _ hj]; rfl)
    (fun n => by simp only [F45_l3, lt_len, Nat.lt_irrefl, decide_false, cond_false, List.take_length])
  exact key
theorem F45_l4_eq {f : Nat} (hf : 200 ≤ f) (k5 : Pl → Tab → Tab → Tab → Int → Option (List Account × Int)) (a b : Tab) (i : Int) (r : List Part × List (Int × Bool) × Int × Pl) (hr : r.1.length ≤ 100) (y : Tab) : F45_l4 k5 a b i r f y 0 = F45_j2 k5 i r (r.1.foldl addK y) a b := by
  have key := from_st (T := fun n j => F45_l4 k5 a b i r n ((r.1.take j).foldl addK y) (j : Int)) (len := r.1.length) (n := f) (out := F45_j2 k5 i r (r.1.foldl addK y) a b) (by omega)
    (fun n j hj => by
      simp only [F45_l4, lt_len, hj, decide_true, cond_true, getI_nat hj, Option.bind_some]
      rw [succ_w (by omega), take_fold _ _ hj]; rfl)
    (fun n => by simp only [F45_l4, lt_len, Nat.lt_irrefl, decide_false, cond_false, List.take_length])
  exact key
theorem F45_l5_eq {f : Nat} (hf : 200 ≤ f) (k5 : Pl → Tab → Tab → Tab → Int → Option (List Account × Int)) (a b c : Tab) (i : Int) (r : List Part × List (Int × Bool) × Int × Pl) (hr : r.1.length ≤ 100) : F45_l5 k5 a b c i r f 0 = F45_j2 k5 i r a b c := by
  have key := from_st (T := fun n j => F45_l5 k5 a b c i r n (j : Int)) (len := r.1.length) (n := f) (out := F45_j2 k5 i r a b c) (by omega)
    (fun n j hj => by
      simp only [F45_l5, lt_len, hj, decide_true, cond_true, getI_nat hj, Option.bind_some]
      rw [succ_w (by omega)])
    (fun n => by simp only [F45_l5, lt_len, Nat.lt_irrefl, decide_false, cond_false])
  exact key
def addP (y : Tab) (p : List Part) : Tab := p.foldl addK y
def addH (y : Tab) (H : List (List Part)) : Tab := H.foldl addP y
theorem addH_lk {lots : List Lot} : ∀ {H : List (List Part)} {y : Tab} {b : Int}, (∀ p ∈ H, GoodHeap lots p) → lots.length ≤ 8 → Bd y b → b + 1000000000 * (H.length : Int) ≤ 100000000000 → ∀ l, lkK (addH y H) l 0 = lkK y l 0 + ofH l H
  | [], y, b, _, _, _, _, l => by simp [addH, ofH]
  | p :: H, y, b, h, h8, hb, hl, l => by
    have hp := h p (by simp)
    have hin : In (idsOf lots) p := ⟨hp.ok.2.1, hp.ok.2.2.1, fun q hq => mem_ids.2 (hp.lots q hq)⟩
    have hlen := hin.len
    have gi : (idsOf lots).length ≤ 8 := by simpa [idsOf] using h8
    simp only [List.length_cons] at hl
    push_cast at hl
    have hk := fold_lk (p := p) hp.ok.2.1 hb (by omega)
    have hb2 : Bd (addP y p) (b + 100000000) := fun l => by
      have := hb l
      have hbd := ofM_bound (l := l) (p := p) fun q hq => (hp.ok.2.1 q hq).m0
      have hs := hp.ok.2.2.2
      unfold addP
      rw [hk l]
      omega
    show lkK (addH (addP y p) H) l 0 = _
    rw [addH_lk (fun x hx => h x (by simp [hx])) h8 hb2 (by omega) l, ofH_cons]
    unfold addP
    rw [hk l]
    omega
theorem F45_l7_eq {f : Nat} (hf : 200 ≤ f) (k3 : Tab → Int → Option (List Account × Int)) (i : Int) {H : List (List Part)} (hH : H.length ≤ 100) (hp : ∀ p ∈ H, p.length ≤ 100) (y : Tab) : F45_l7 f k3 i H f y 0 = k3 (addH y H) (w64 (i + 1)) := by
  have h8 : ∀ k1 (t : Int) (p : List Part) (hl : p.length ≤ 100) (y : Tab), F45_l8 k1 t p f y 0 = k1 (addP y p) (w64 (t + 1)) := fun k1 t p hl y => by
    have key := from_st (T := fun n j => F45_l8 k1 t p n ((p.take j).foldl addK y) (j : Int)) (len := p.length) (n := f) (out := k1 (addP y p) (w64 (t + 1))) (by omega)
      (fun n j hj => by
        simp only [F45_l8, lt_len, hj, decide_true, cond_true, getI_nat hj, Option.bind_some]
        rw [succ_w (by omega), take_fold _ _ hj]; rfl)
      (fun n => by simp only [F45_l8, lt_len, Nat.lt_irrefl, decide_false, cond_false, List.take_length]; rfl)
    exact key
  have key := from_st (T := fun n j => F45_l7 f k3 i H n (addH y (H.take j)) (j : Int)) (len := H.length) (n := f) (out := k3 (addH y H) (w64 (i + 1))) (by omega)
    (fun n j hj => by
      simp only [F45_l7, lt_len, hj, decide_true, cond_true, getI_nat hj, Option.bind_some]
      rw [h8 _ _ _ (hp _ (List.getElem_mem hj)), succ_w (by omega)]
      unfold addH
      rw [take_fold _ _ hj])
    (fun n => by simp only [F45_l7, lt_len, Nat.lt_irrefl, decide_false, cond_false, List.take_length])
  exact key
def acctK (a b c d : Tab) (x : Lot) : Account := ⟨x.id, lkK c x.id 0, lkK b x.id 0, lkK a x.id 0, lkK d x.id 0⟩
theorem F45_l9_eq {f : Nat} (hf : 200 ≤ f) {lots : List Lot} (h8 : lots.length ≤ 100) (a b c d : Tab) : F45_l9 lots a b c d f [] 0 = some (lots.map (acctK a b c d), 0) := by
  have key := from_st (T := fun n j => F45_l9 lots a b c d n ((lots.take j).map (acctK a b c d)) (j : Int)) (len := lots.length) (n := f) (out := some (lots.map (acctK a b c d), 0)) (by omega)
    (fun n j hj => by
      simp only [F45_l9, lt_len, hj, decide_true, cond_true, getI_nat hj, Option.bind_some]
      rw [app_small (by simp; omega) (by simp)]
      simp only [Option.bind_some]
      rw [succ_w (by omega), List.take_succ_eq_append_getElem hj, List.map_append]
      rfl)
    (fun n => by simp only [F45_l9, lt_len, Nat.lt_irrefl, decide_false, cond_false, List.take_length])
  exact key
def addA (y : Tab) (h : Holds) : Tab := h.foldl addH y
theorem addA_lk {lots : List Lot} (h8 : lots.length ≤ 8) : ∀ {h : Holds} {y : Tab} {b : Int}, (∀ H ∈ h, GoodHold lots H) → Bd y b → b + 4000000000 * (h.length : Int) ≤ 90000000000 → ∀ l, lkK (addA y h) l 0 = lkK y l 0 + ofA l h
  | [], y, b, _, _, _, l => by simp [addA, ofA]
  | H :: h, y, b, g, hb, hl, l => by
    have gH := g H (by simp)
    have h4 := gH.len
    simp only [List.length_cons] at hl
    push_cast at hl
    have hk := addH_lk (y := y) gH.heaps h8 hb (by omega)
    have hH := gH.hold h8
    have hb2 : Bd (addH y H) (b + 400000000) := fun l => by
      have := hb l
      have : ∀ K : List (List Part), (∀ p ∈ K, GoodHeap lots p) → 0 ≤ ofH l K ∧ ofH l K ≤ 100000000 * (K.length : Int) := by
        intro K
        induction K with
        | nil => intro _; simp [ofH]
        | cons p K ih =>
          intro hK
          have i1 := ih fun x hx => hK x (by simp [hx])
          have hp := hK p (by simp)
          have hbd := ofM_bound (l := l) (p := p) fun q hq => (hp.ok.2.1 q hq).m0
          have hs := hp.ok.2.2.2
          rw [ofH_cons, List.length_cons]
          push_cast
          omega
      have := this H gH.heaps
      rw [hk l]
      omega
    show lkK (addA (addH y H) h) l 0 = _
    rw [addA_lk h8 (fun x hx => g x (by simp [hx])) hb2 (by omega) l, hk l]
    have : ofA l (H :: h) = ofH l H + ofA l h := by simp [ofA]
    omega
theorem F45_l6_eq {f : Nat} (hf : 200 ≤ f) {lots : List Lot} (h8 : lots.length ≤ 8) (a b c : Tab) {x : Pl} (p : PlOk lots x) : F45_l6 f lots a b c x f [] 0 = some (lots.map (acctK a b c (addA [] x.holds)), 0) := by
  have h9 := p.h9
  have sm := p.sok.small p.h9
  have key := from_st (T := fun n j => F45_l6 f lots a b c x n (addA [] (x.holds.take j)) (j : Int)) (len := 9) (n := f) (out := some (lots.map (acctK a b c (addA [] x.holds)), 0)) (by omega)
    (fun n j hj => by
      have h1 : decide ((j : Int) < 9) = true := decide_eq_true (by omega)
      have hlt : j < x.holds.length := by omega
      simp only [F45_l6, h1, cond_true, getI_nat hlt, Option.bind_some]
      rw [F45_l7_eq hf _ _ (sm.len _ (List.getElem_mem hlt)) (sm.heaps _ (List.getElem_mem hlt)), succ_w (by omega)]
      unfold addA
      rw [take_fold _ _ hlt])
    (fun n => by
      have h1 : decide (((9 : Nat) : Int) < 9) = false := by decide
      simp only [F45_l6, h1, cond_false, List.take_of_length_le (show x.holds.length ≤ 9 by omega)]
      exact F45_l9_eq hf (by omega) _ _ _ _)
  exact key
theorem F45_loop {f : Nat} (hf : 200 ≤ f) {lots : List Lot} (h8 : lots.length ≤ 8) {ds : List Deed} (hd : ds.length ≤ 60) : ∀ (rest : List Deed) n i (x : Pl) (a b c : Tab), PlOk lots x → Chain f lots x.holds rest → ds.drop i = rest → i ≤ ds.length → rest.length < n →
    Bd a (100000000 * (i : Int)) → Bd b (100000000 * (i : Int)) → Bd c (100000000 * (i : Int)) →
    ∃ a' b' c' y, F45_l1 f lots ds n x a b c (i : Int) = F45_j1 f lots a' b' c' (some y) (ds.length : Int) 0 ∧ PlOk lots y ∧ y.holds = run x.holds rest ∧
      ∀ l, lkK a' l 0 = lkK a l 0 + gainS isLose l x.holds rest ∧ lkK b' l 0 = lkK b l 0 + gainS isDraw l x.holds rest ∧ lkK c' l 0 = lkK c l 0 + gainS isIn l x.holds rest
  | _, 0, i, x, a, b, c, _, _, _, _, hn, _, _, _ => by omega
  | [], n + 1, i, x, a, b, c, p, ch, e, hi, hn, ha, hb, hc => by
    have : ds.length ≤ i := by simpa using e
    have h1 : decide ((i : Int) < (ds.length : Int)) = false := decide_eq_false (by omega)
    simp only [F45_l1, h1, cond_false]
    exact ⟨a, b, c, x, rfl, p, rfl, fun l => by simp [gainS]⟩
  | d :: rest, n + 1, i, x, a, b, c, p, ch, e, hi, hn, ha, hb, hc => by
    obtain ⟨hlt, ed, er⟩ := drop_head e
    have h1 : decide ((i : Int) < (ds.length : Int)) = true := decide_eq_true (by omega)
    rcases F82_step hf h8 p d with ⟨r, hr, e1, e2⟩ | ⟨s, y, c', e1, e2, p2, _, _⟩
    · have := ch.1
      unfold Can at this
      rw [e1] at this
      exact absurd (Option.some.inj this) hr
    · obtain ⟨m1, m2, m3, m4, m5⟩ := mvD_ok hf p.sok h8 p.h9 ch.1 0
      have mb : ∀ l, 0 ≤ ofM l (mvD x.holds d) ∧ ofM l (mvD x.holds d) ≤ 100000000 := fun l => by
        obtain ⟨_, _, k1, k2, _⟩ := mvD_ok hf p.sok h8 p.h9 ch.1 l
        exact ⟨k1, k2⟩
      have hfold : ∀ z : Tab, Bd z (100000000 * (i : Int)) → (∀ l, lkK ((mvD x.holds d).foldl addK z) l 0 = lkK z l 0 + ofM l (mvD x.holds d)) ∧ Bd ((mvD x.holds d).foldl addK z) (100000000 * ((i + 1 : Nat) : Int)) := fun z hz => by
        have hk := fold_lk (p := mvD x.holds d) m1.ok hz (by omega)
        refine ⟨hk, fun l => ?_⟩
        have := hz l
        have := mb l
        rw [hk l]
        push_cast
        omega
      have hup : ∀ z : Tab, Bd z (100000000 * (i : Int)) → Bd z (100000000 * ((i + 1 : Nat) : Int)) := fun z hz l => by have := hz l; push_cast; omega
      have ih := fun a b c ha hb hc => F45_loop hf h8 hd rest n (i + 1) y a b c p2 (by rw [e2]; exact ch.2) er hlt (by simp at hn; omega) ha hb hc
      simp only [F45_l1, h1, cond_true, getI_nat hlt, Option.bind_some, ed]
      rw [e1]
      simp only [Option.bind_some, bne_self_eq_false, cond_false]
      have hmv : ((doS x.holds d.kind d.lot d.frm d.to d.mass).2).length ≤ 100 := by
        change (mvD x.holds d).length ≤ 100
        omega
      cases k12 : ((d.kind == 1) || (d.kind == 2))
      · rw [cond_false]
        cases k3 : (d.kind == 3)
        · rw [cond_false]
          cases k5 : (d.kind == 5)
          · rw [cond_false, F45_l5_eq hf _ _ _ _ _ _ hmv]
            simp only [F45_j2]
            rw [succ_w (by omega)]
            obtain ⟨a', b', c'', z, h1, h2, h3, h4⟩ := ih a b c (hup a ha) (hup b hb) (hup c hc)
            refine ⟨a', b', c'', z, h1, h2, by rw [h3, e2]; rfl, fun l => ?_⟩
            rw [e2] at h4
            simp only [gainS, isIn, isDraw, isLose, k12, k3, k5]
            have := h4 l
            simp only [Bool.false_eq_true, if_false] at *
            omega
          · rw [cond_true, F45_l4_eq hf _ _ _ _ _ hmv]
            simp only [F45_j2]
            rw [succ_w (by omega)]
            obtain ⟨g1, g2⟩ := hfold a ha
            obtain ⟨a', b', c'', z, h1, h2, h3, h4⟩ := ih _ b c g2 (hup b hb) (hup c hc)
            refine ⟨a', b', c'', z, h1, h2, by rw [h3, e2]; rfl, fun l => ?_⟩
            rw [e2] at h4
            simp only [gainS, isIn, isDraw, isLose, k12, k3, k5]
            have := h4 l
            have := g1 l
            simp only [Bool.false_eq_true, if_false, if_true] at *
            omega
        · rw [cond_true, F45_l3_eq hf _ _ _ _ _ hmv]
          have k5 : (d.kind == 5) = false := by simp at k3 ⊢; omega
          simp only [F45_j2]
          rw [succ_w (by omega)]
          obtain ⟨g1, g2⟩ := hfold b hb
          obtain ⟨a', b', c'', z, h1, h2, h3, h4⟩ := ih a _ c (hup a ha) g2 (hup c hc)
          refine ⟨a', b', c'', z, h1, h2, by rw [h3, e2]; rfl, fun l => ?_⟩
          rw [e2] at h4
          simp only [gainS, isIn, isDraw, isLose, k12, k3, k5]
          have := h4 l
          have := g1 l
          simp only [Bool.false_eq_true, if_false, if_true] at *
          omega
      · rw [cond_true, F45_l2_eq hf _ _ _ _ _ hmv]
        have k3 : (d.kind == 3) = false := by simp at k12 ⊢; omega
        have k5 : (d.kind == 5) = false := by simp at k12 ⊢; omega
        simp only [F45_j2]
        rw [succ_w (by omega)]
        obtain ⟨g1, g2⟩ := hfold c hc
        obtain ⟨a', b', c'', z, h1, h2, h3, h4⟩ := ih a b _ (hup a ha) (hup b hb) g2
        refine ⟨a', b', c'', z, h1, h2, by rw [h3, e2]; rfl, fun l => ?_⟩
        rw [e2] at h4
        simp only [gainS, isIn, isDraw, isLose, k12, k3, k5]
        have := h4 l
        have := g1 l
        simp only [Bool.false_eq_true, if_false, if_true] at *
        omega
def acctS (ds : List Deed) (x : Lot) : Account := ⟨x.id, gainS isIn x.id nine ds, gainS isDraw x.id nine ds, gainS isLose x.id nine ds, ofA x.id (run nine ds)⟩
theorem F45_eq {f : Nat} (hf : 200 ≤ f) {lots : List Lot} {ds : List Deed} (k : MadeOk f lots ds) : F45 f lots ds = some (lots.map (acctS ds), 0) := by
  have hd := k.len
  have h8 := k.h8
  have b0 : Bd [] (100000000 * ((0 : Nat) : Int)) := fun l => by simp [lkK, getK]
  obtain ⟨a, b, c, y, e1, p, e2, h⟩ := F45_loop (ds := ds) hf k.h8 (by omega) ds f 0 (plOf lots nine) [] [] [] (plOf_ok (nine_ok k.lok) rfl) k.chain (by simp) (by omega) (by omega) b0 b0 b0
  unfold F45
  rw [F110_ok hf k.lok (by omega)]
  simp only [Option.bind_some, bne_self_eq_false, cond_false]
  change (F81 f lots nine).bind _ = _
  rw [F81_nine hf k.lok k.h8]
  refine Eq.trans (show _ = F45_l1 f lots ds f (plOf lots nine) [] [] [] ((0 : Nat) : Int) from rfl) ?_
  rw [e1]
  simp only [F45_j1, bne_self_eq_false, cond_false, Option.bind_some]
  rw [F45_l6_eq hf k.h8 a b c p]
  have e2' : y.holds = run nine ds := e2
  rw [e2']
  have hA := addA_lk (lots := lots) k.h8 (h := run nine ds) (y := []) (b := 0) (fun H hH => by have := p.sok.hok H; rw [e2'] at this; exact this hH) Bd.nil (by have := p.h9; rw [e2'] at this; omega)
  congr 2
  refine List.map_congr_left fun x _ => ?_
  have nil : ∀ l, lkK ([] : Tab) l 0 = 0 := fun l => by simp [lkK, getK]
  unfold acctK acctS
  have h1 := h x.id
  rw [nil] at h1
  rw [h1.1, h1.2.1, h1.2.2, hA x.id, nil]
  simp only [Int.zero_add]
  rfl
end Go.Proofs.Ytlmgjjmighajdaa
set_option linter.unusedSimpArgs false
set_option linter.unusedVariables false
namespace Go.Proofs.Ytlmgjjmighajdaa
open Go.Sl Go.Sx
theorem F98_zero' {f : Nat} (hf : 200 ≤ f) {lots : List Lot} (hl : LotsOk lots) {l : List Int} (hn : l.length ≤ 100) (h : ∀ x ∈ l, Has lots x) : F98 f lots l = some 0 := by
  have key := from_st (T := fun n j => F98_l1 f lots l n (j : Int)) (len := l.length) (n := f) (out := some 0) (by omega)
    (fun n j hj => by
      obtain ⟨q, e, _⟩ := F74_eq (f := f) hl l[j] (by omega)
      simp only [F98_l1, lt_len, hj, decide_true, cond_true, getI_nat hj, Option.bind_some, e, h _ (List.getElem_mem hj), Bool.not_true, cond_false]
      rw [succ_w (by omega)])
    (fun n => by simp [F98_l1])
  exact key
def hits (x : Int) (i : Nat) (p : List Part) : List Trail := (p.filter fun q => q.lot == x).map fun q => ⟨i, q.mass⟩
def trS (x : Int) : Holds → List Deed → Nat → List Trail
  | _, [], _ => []
  | h, d :: ds, i => hits x i (mvD h d) ++ trS x (doD h d) ds (i + 1)
theorem hits_nil {x : Int} {i : Nat} {p : List Part} (h : ∀ q ∈ p, q.lot ≠ x) : hits x i p = [] := by
  unfold hits
  rw [List.filter_eq_nil_iff.2 fun q hq => by simpa using h q hq]; rfl
theorem hits_cons (x : Int) (i : Nat) (q : Part) (p : List Part) : hits x i (q :: p) = (if q.lot = x then [⟨i, q.mass⟩] else []) ++ hits x i p := by
  unfold hits
  by_cases e : q.lot = x <;> simp [e]
theorem hits_one {x : Int} {i : Nat} : ∀ {p : List Part}, (p.Pairwise fun a b => a.lot < b.lot) → (hits x i p).length ≤ 1
  | [], _ => by simp [hits]
  | q :: p, h => by
    have h' := List.pairwise_cons.1 h
    rw [hits_cons]
    by_cases e : q.lot = x
    · rw [hits_nil (fun r hr => by have := h'.1 r hr; omega)]; simp [e]
    · have := hits_one (x := x) (i := i) h'.2
      simpa [e] using this
theorem hits_sum (x : Int) (i : Nat) : ∀ (p : List Part), ((hits x i p).map (·.mass)).sum = ofM x p
  | [] => rfl
  | q :: p => by
    rw [hits_cons, List.map_append, sum_app, hits_sum x i p, ofM_cons]
    split <;> simp
theorem hits_mem {x : Int} {i : Nat} {p : List Part} {t : Trail} (h : t ∈ hits x i p) : t.deed = (i : Int) ∧ ∃ q ∈ p, t.mass = q.mass := by
  unfold hits at h
  obtain ⟨q, hq, rfl⟩ := List.mem_map.1 h
  exact ⟨rfl, q, (List.mem_filter.1 hq).1, rfl⟩
theorem trS_mem {f : Nat} (hf : 200 ≤ f) {lots : List Lot} (h8 : lots.length ≤ 8) {x : Int} : ∀ {ds : List Deed} {h : Holds} {i : Nat}, StockOk lots h → h.length = 9 → Chain f lots h ds → ∀ t ∈ trS x h ds i, (i : Int) ≤ t.deed ∧ t.deed < ((i + ds.length : Nat) : Int) ∧ 1 ≤ t.mass ∧ t.mass ≤ 100000000
  | [], _, _, _, _, _, t, ht => by cases ht
  | d :: ds, h, i, s, h9, c, t, ht => by
    obtain ⟨g1, g2⟩ := doD_good hf s h8 h9 c.1
    obtain ⟨m1, _⟩ := mvD_ok hf s h8 h9 c.1 0
    simp only [trS] at ht
    simp only [List.length_cons]
    rcases List.mem_append.1 ht with ht | ht
    · obtain ⟨e, q, hq, e2⟩ := hits_mem ht
      have := m1.ok q hq
      have := this.m0
      have := (m1.ok q hq).m1
      omega
    · have := trS_mem (ds := ds) (i := i + 1) hf h8 g1 g2 c.2 t ht
      push_cast at this ⊢
      omega
theorem trS_rise {f : Nat} (hf : 200 ≤ f) {lots : List Lot} (h8 : lots.length ≤ 8) {x : Int} : ∀ {ds : List Deed} {h : Holds} {i : Nat}, StockOk lots h → h.length = 9 → Chain f lots h ds → ((trS x h ds i).Pairwise fun a b => a.deed < b.deed) ∧ (trS x h ds i).length ≤ ds.length
  | [], _, _, _, _, _ => ⟨List.Pairwise.nil, by simp [trS]⟩
  | d :: ds, h, i, s, h9, c => by
    obtain ⟨g1, g2⟩ := doD_good hf s h8 h9 c.1
    obtain ⟨m1, _⟩ := mvD_ok hf s h8 h9 c.1 0
    obtain ⟨i1, i2⟩ := trS_rise (x := x) (ds := ds) (i := i + 1) hf h8 g1 g2 c.2
    have h1 := hits_one (x := x) (i := i) m1.rise
    simp only [trS]
    refine ⟨List.pairwise_append.2 ⟨?_, i1, fun a ha b hb => ?_⟩, by rw [List.length_append, List.length_cons]; omega⟩
    · match e : hits x i (mvD h d), h1 with
      | [], _ => exact List.Pairwise.nil
      | [t], _ => exact List.pairwise_singleton _ _
    · have e1 := (hits_mem ha).1
      have e2 := (trS_mem (x := x) (ds := ds) (i := i + 1) hf h8 g1 g2 c.2 b hb).1
      push_cast at e2
      omega
def kindAt (D : List Deed) (j : Int) : Int := (D.getD j.toNat ⟨0, 0, 0, 0, 0⟩).kind
def sumT (c : Int → Bool) (D : List Deed) (T : List Trail) : Int := (T.map fun t => if c (kindAt D t.deed) = true then t.mass else 0).sum
theorem sumT_app (c : Int → Bool) (D : List Deed) (a b : List Trail) : sumT c D (a ++ b) = sumT c D a + sumT c D b := by unfold sumT; rw [List.map_append, sum_app]
theorem sumT_trS (c : Int → Bool) (D : List Deed) (x : Int) : ∀ (rest : List Deed) (h : Holds) (i : Nat), D.drop i = rest → sumT c D (trS x h rest i) = gainS c x h rest
  | [], _, _, _ => rfl
  | d :: rest, h, i, e => by
    obtain ⟨hlt, ed, er⟩ := drop_head e
    have hk : ∀ t ∈ hits x i (mvD h d), kindAt D t.deed = d.kind := fun t ht => by
      have := (hits_mem ht).1
      unfold kindAt
      rw [this, Int.toNat_natCast]
      simp [hlt, ed]
    simp only [trS, gainS]
    rw [sumT_app, sumT_trS c D x rest _ _ er]
    congr 1
    unfold sumT
    rw [List.map_congr_left (g := fun t => if c d.kind = true then t.mass else 0) fun t ht => by rw [hk t ht]]
    cases hc : c d.kind
    · have : ∀ l : List Trail, (l.map fun t => if false = true then t.mass else 0).sum = 0 := by
        intro l
        induction l with
        | nil => rfl
        | cons t l ih => simp only [List.map_cons, List.sum_cons, ih]; rfl
      rw [this]; rfl
    · rw [if_pos rfl, ← hits_sum x i]; simp
theorem F49_loop {f : Nat} (hf : 200 ≤ f) {lots : List Lot} (hl : LotsOk lots) (h8 : lots.length ≤ 8) {a : Int} (ha : Has lots a) {ds : List Deed} (hd : ds.length ≤ 60) : ∀ (rest : List Deed) n i (x : Pl) (T : List Trail), PlOk lots x → Chain f lots x.holds rest → ds.drop i = rest → i ≤ ds.length → rest.length < n → T.length ≤ i →
    F49_l1 f lots ds a n T x (i : Int) = some (T ++ trS a x.holds rest i, 0)
  | _, 0, i, x, T, _, _, _, _, hn, _ => by omega
  | [], n + 1, i, x, T, p, c, e, hi, hn, hT => by
    have : ds.length ≤ i := by simpa using e
    have h1 : decide ((i : Int) < (ds.length : Int)) = false := decide_eq_false (by omega)
    simp only [F49_l1, h1, cond_false, F49_j1, beq_self_eq_true, cond_true]
    rw [F98_zero' hf hl (by simp) (by intro x hx; simp at hx; subst hx; exact ha)]
    simp [F49_j3, trS]
  | d :: rest, n + 1, i, x, T, p, c, e, hi, hn, hT => by
    obtain ⟨hlt, ed, er⟩ := drop_head e
    have h1 : decide ((i : Int) < (ds.length : Int)) = true := decide_eq_true (by omega)
    rcases F82_step hf h8 p d with ⟨r, hr, e1, e2⟩ | ⟨s, y, c', e1, e2, p2, _, _⟩
    · have := c.1
      unfold Can at this
      rw [e1] at this
      exact absurd (Option.some.inj this) hr
    · obtain ⟨m1, m2, _⟩ := mvD_ok hf p.sok h8 p.h9 c.1 0
      simp only [F49_l1, h1, cond_true, getI_nat hlt, Option.bind_some, ed]
      rw [e1]
      simp only [Option.bind_some, bne_self_eq_false, cond_false]
      change F49_l2 _ a (i : Int) (mvD x.holds d, s, 0, y) f T 0 = _
      have key := from_st (T := fun n' j => F49_l2 (F49_l1 f lots ds a n) a (i : Int) (mvD x.holds d, s, 0, y) n' (T ++ hits a i ((mvD x.holds d).take j)) (j : Int)) (len := (mvD x.holds d).length) (n := f) (out := F49_l1 f lots ds a n (T ++ hits a i (mvD x.holds d)) y ((i + 1 : Nat) : Int)) (by omega)
        (fun n' j hj => by
          have hh : hits a i ((mvD x.holds d).take (j + 1)) = hits a i ((mvD x.holds d).take j) ++ (if (mvD x.holds d)[j].lot = a then [⟨i, (mvD x.holds d)[j].mass⟩] else []) := by
            rw [List.take_succ_eq_append_getElem hj]
            unfold hits
            rw [List.filter_append, List.map_append]
            congr 1
            by_cases e : (mvD x.holds d)[j].lot = a <;> simp [e]
          have hlen : (hits a i ((mvD x.holds d).take j)).length ≤ 8 := by
            unfold hits
            rw [List.length_map]
            refine Nat.le_trans (List.length_filter_le _ _) ?_
            rw [List.length_take]; omega
          simp only [F49_l2, lt_len, hj, decide_true, cond_true, getI_nat hj, Option.bind_some, bq, F49_j2]
          rw [hh]
          by_cases e : (mvD x.holds d)[j].lot = a
          · rw [decide_eq_true e, cond_true, if_pos e, app_small (by rw [List.length_append]; omega) (by simp)]
            simp only [Option.bind_some]
            rw [succ_w (by omega), List.append_assoc]
          · rw [decide_eq_false e, cond_false, if_neg e, succ_w (by omega), List.append_nil])
        (fun n' => by
          simp only [F49_l2, lt_len, Nat.lt_irrefl, decide_false, cond_false, List.take_length]
          rw [succ_w (by omega)])
      have e0 : T ++ hits a i ((mvD x.holds d).take 0) = T := by simp [hits]
      rw [e0] at key
      refine key.trans ?_
      rw [F49_loop hf hl h8 ha hd rest n (i + 1) y _ p2 (by rw [e2]; exact c.2) er hlt (by simp at hn; omega) (by have := hits_one (x := a) (i := i) m1.rise; rw [List.length_append]; omega), e2, List.append_assoc]
      rfl
theorem F49_eq {f : Nat} (hf : 200 ≤ f) {lots : List Lot} {ds : List Deed} (k : MadeOk f lots ds) {a : Int} (ha : Has lots a) : F49 f lots ds a = some (trS a nine ds 0, 0) := by
  have hd := k.len
  unfold F49
  rw [F110_ok hf k.lok (by omega)]
  simp only [Option.bind_some, bne_self_eq_false, cond_false]
  change (F81 f lots nine).bind _ = _
  rw [F81_nine hf k.lok k.h8]
  exact F49_loop hf k.lok k.h8 ha (by omega) ds f 0 (plOf lots nine) [] (plOf_ok (nine_ok k.lok) rfl) k.chain (by simp) (by omega) (by omega) (by simp)
end Go.Proofs.Ytlmgjjmighajdaa
set_option linter.unusedSimpArgs false
set_option linter.unusedVariables false
namespace Go.Proofs.Ytlmgjjmighajdaa
open Go.Sl Go.Sx
theorem sumT_bound {c : Int → Bool} {D : List Deed} : ∀ {T : List Trail}, (∀ t ∈ T, 1 ≤ t.mass ∧ t.mass ≤ 100000000) → 0 ≤ sumT c D T ∧ sumT c D T ≤ 100000000 * (T.length : Int)
  | [], _ => by simp [sumT]
  | t :: T, h => by
    have ih := sumT_bound (c := c) (D := D) (T := T) fun x hx => h x (by simp [hx])
    have := h t (by simp)
    have e : sumT c D (t :: T) = (if c (kindAt D t.deed) = true then t.mass else 0) + sumT c D T := by simp [sumT]
    rw [e, List.length_cons]
    push_cast
    split <;> omega
theorem sumT_take {c : Int → Bool} {D : List Deed} {T : List Trail} {j : Nat} (hj : j < T.length) : sumT c D (T.take (j + 1)) = sumT c D (T.take j) + (if c (kindAt D T[j].deed) = true then T[j].mass else 0) := by
  rw [List.take_succ_eq_append_getElem hj, sumT_app]
  congr 1
  simp [sumT]
theorem F12_l1_eq {f : Nat} (hf : 200 ≤ f) {lots : List Lot} {ds : List Deed} {T : List Trail} {A : List Account} {r3 : Int} {x : Account} (hA : getI A r3 = some x) (hT : ∀ t ∈ T, 0 ≤ t.deed ∧ t.deed < (ds.length : Int) ∧ 1 ≤ t.mass ∧ t.mass ≤ 100000000) (hr : T.Pairwise fun a b => a.deed < b.deed) (hl : T.length ≤ 100)
    (h1 : sumT isIn ds T = x.poured) (h2 : sumT isDraw ds T = x.drawn) (h3 : sumT isLose ds T = x.lost) : F12_l1 (lots, ds) r3 (T, 0) (A, 0) f 0 0 0 0 = some true := by
  have key := from_st (T := fun n j => F12_l1 (lots, ds) r3 (T, 0) (A, 0) n (sumT isIn ds (T.take j)) (sumT isDraw ds (T.take j)) (sumT isLose ds (T.take j)) (j : Int)) (len := T.length) (n := f) (out := some true) (by omega)
    (fun n j hj => by
      have ht := hT _ (List.getElem_mem hj)
      have hd : T[j].deed.toNat < ds.length := by omega
      have gd : getI ds T[j].deed = some ds[T[j].deed.toNat] := by have := getI_nat hd; rwa [Int.toNat_of_nonneg ht.1] at this
      have hk : kindAt ds T[j].deed = ds[T[j].deed.toNat].kind := by unfold kindAt; simp [hd]
      have d1 : decide (T[j].deed < 0) = false := decide_eq_false (by omega)
      have d2 : decide (T[j].deed ≥ (ds.length : Int)) = false := decide_eq_false (by omega)
      have d3 : decide (T[j].mass < 1) = false := decide_eq_false (by omega)
      have hlen : (T.take j).length ≤ 100 := by rw [List.length_take]; omega
      have bb : ∀ c, 0 ≤ sumT c ds (T.take j) ∧ sumT c ds (T.take j) ≤ 10000000000 := fun c => by
        have := sumT_bound (c := c) (D := ds) (T := T.take j) fun t ht => (hT t (List.mem_of_mem_take ht)).2.2
        omega
      have w : ∀ c, w64 (sumT c ds (T.take j) + T[j].mass) = sumT c ds (T.take j) + T[j].mass := fun c => by have := bb c; exact w64_id (by omega) (by omega)
      have j3 : F12_j3 (F12_l1 (lots, ds) r3 (T, 0) (A, 0) n) (lots, ds) (T, 0) (sumT isIn ds (T.take j)) (sumT isDraw ds (T.take j)) (sumT isLose ds (T.take j)) (j : Int) false = F12_l1 (lots, ds) r3 (T, 0) (A, 0) n (sumT isIn ds (T.take (j + 1))) (sumT isDraw ds (T.take (j + 1))) (sumT isLose ds (T.take (j + 1))) ((j + 1 : Nat) : Int) := by
        rw [sumT_take hj, sumT_take hj, sumT_take hj, hk]
        simp only [F12_j3, cond_false, getI_nat hj, Option.bind_some, gd, isIn, isDraw, isLose]
        have bs : ∀ k m : Int, k = m → (k == m) = true := fun k m e => by simpa using e
        have bn : ∀ k m : Int, k ≠ m → (k == m) = false := fun k m e => by simpa using e
        have hc : ds[T[j].deed.toNat].kind = 1 ∨ ds[T[j].deed.toNat].kind = 2 ∨ ds[T[j].deed.toNat].kind = 3 ∨ ds[T[j].deed.toNat].kind = 5 ∨ (ds[T[j].deed.toNat].kind ≠ 1 ∧ ds[T[j].deed.toNat].kind ≠ 2 ∧ ds[T[j].deed.toNat].kind ≠ 3 ∧ ds[T[j].deed.toNat].kind ≠ 5) := by omega
        rcases hc with e | e | e | e | ⟨n1, n2, n3, n5⟩
        · simp only [bs _ _ e, bn _ 2 (show ds[T[j].deed.toNat].kind ≠ 2 by omega), bn _ 3 (show ds[T[j].deed.toNat].kind ≠ 3 by omega), bn _ 5 (show ds[T[j].deed.toNat].kind ≠ 5 by omega), cond_false, cond_true, F12_j4, F12_j2, Bool.or_self, Bool.or_true, Bool.true_or, Bool.or_false, Bool.false_eq_true, if_false, if_true, Int.add_zero, getI_nat hj, Option.bind_some, w]
          rw [succ_w (by omega)]
        · simp only [bs _ _ e, bn _ 1 (show ds[T[j].deed.toNat].kind ≠ 1 by omega), bn _ 3 (show ds[T[j].deed.toNat].kind ≠ 3 by omega), bn _ 5 (show ds[T[j].deed.toNat].kind ≠ 5 by omega), cond_false, cond_true, F12_j4, F12_j2, Bool.or_self, Bool.or_true, Bool.true_or, Bool.or_false, Bool.false_eq_true, if_false, if_true, Int.add_zero, getI_nat hj, Option.bind_some, w]
          rw [succ_w (by omega)]
        · simp only [bs _ _ e, bn _ 1 (show ds[T[j].deed.toNat].kind ≠ 1 by omega), bn _ 2 (show ds[T[j].deed.toNat].kind ≠ 2 by omega), bn _ 5 (show ds[T[j].deed.toNat].kind ≠ 5 by omega), cond_false, cond_true, F12_j4, F12_j2, Bool.or_self, Bool.or_true, Bool.true_or, Bool.or_false, Bool.false_eq_true, if_false, if_true, Int.add_zero, getI_nat hj, Option.bind_some, w]
          rw [succ_w (by omega)]
        · simp only [bs _ _ e, bn _ 1 (show ds[T[j].deed.toNat].kind ≠ 1 by omega), bn _ 2 (show ds[T[j].deed.toNat].kind ≠ 2 by omega), bn _ 3 (show ds[T[j].deed.toNat].kind ≠ 3 by omega), cond_false, cond_true, F12_j4, F12_j2, Bool.or_self, Bool.or_true, Bool.true_or, Bool.or_false, Bool.false_eq_true, if_false, if_true, Int.add_zero, getI_nat hj, Option.bind_some, w]
          rw [succ_w (by omega)]
        · simp only [bn _ _ n1, bn _ _ n2, bn _ _ n3, bn _ _ n5, cond_false, cond_true, F12_j4, F12_j2, Bool.or_self, Bool.or_true, Bool.true_or, Bool.or_false, Bool.false_eq_true, if_false, if_true, Int.add_zero, getI_nat hj, Option.bind_some, w]
          rw [succ_w (by omega)]
      simp only [F12_l1, lt_len, hj, decide_true, cond_true, getI_nat hj, Option.bind_some, d1, d2, d3, cond_false]
      by_cases h0 : (j : Int) > 0
      · have hj1 : j - 1 < T.length := by omega
        have hlt := List.pairwise_iff_getElem.1 hr (j - 1) j hj1 hj (by omega)
        rw [decide_eq_true h0, cond_true, pred_w (by omega) (by omega), getI_nat hj1]
        simp only [Option.bind_some, decide_eq_false (show ¬ T[j - 1].deed ≥ T[j].deed by omega)]
        exact j3
      · rw [decide_eq_false h0, cond_false]
        exact j3)
    (fun n => by
      simp only [F12_l1, lt_len, Nat.lt_irrefl, decide_false, cond_false, List.take_length, hA, Option.bind_some, h1, h2, h3, beq_self_eq_true, cond_true, F12_j5])
  have e0 : ∀ c, sumT c ds (T.take 0) = 0 := fun c => by simp [sumT]
  rw [e0, e0, e0] at key
  exact key
theorem F12_gen {f : Nat} (hf : 200 ≤ f) (hsane : F16 f = some true) (x : List A4) (y : List A5) (c0 c1 c2 n : Int) : F12 f x y c0 c1 c2 n = some true := by
  obtain ⟨lots, ds, e, k⟩ := F37_eq hf x y
  have hd := k.len
  have h8 := k.h8
  have bs : ∀ {α β : Type} {o : Option α} {a : α} {g : α → Option β} {r : Option β}, o = some a → g a = r → o.bind g = r := fun h k => by rw [h]; exact k
  have cf : ∀ {α : Type} {c : Bool} {a b r : α}, c = false → b = r → cond c a b = r := fun h k => by rw [h]; exact k
  unfold F12
  refine bs hsane (bs e ?_)
  show cond ((lots.length : Int) == 0) (some true) _ = some true
  by_cases h0 : (lots.length : Int) = 0
  · rw [h0]; rfl
  · have hb0 : ((lots.length : Int) == 0) = false := by simpa using h0
    have mb := mod_b n (lots.length : Int) (by omega)
    obtain ⟨i, hi⟩ : ∃ i : Nat, (i : Int) = n % (lots.length : Int) := ⟨(n % (lots.length : Int)).toNat, by omega⟩
    have hil : i < lots.length := by omega
    have e35 : F35 f n (lots.length : Int) = some (i : Int) := by rw [F35_eq f n _ (by omega) (by omega), hi]
    have ha : Has lots lots[i].id := ⟨_, List.getElem_mem hil, rfl⟩
    have hb : ((((lots.map (acctS ds)).length : Nat) : Int) != (lots.length : Int)) = false := by rw [List.length_map]; exact bne_self_eq_false _
    have hT := trS_mem (x := lots[i].id) (i := 0) hf k.h8 (nine_ok k.lok) rfl k.chain
    obtain ⟨r1, r2⟩ := trS_rise (x := lots[i].id) (i := 0) hf k.h8 (nine_ok k.lok) rfl k.chain
    refine cf hb0 (bs e35 (bs (getI_nat hil) (bs (F49_eq hf k ha) (bs (F45_eq hf k) (cf rfl (cf rfl (cf rfl ?_)))))))
    refine (congrArg (F12_j1 f (lots, ds) (i : Int) (trS lots[i].id nine ds 0, 0) (lots.map (acctS ds), 0)) hb).trans ?_
    refine cf rfl ?_
    refine F12_l1_eq hf (x := acctS ds lots[i]) (by rw [getI_opt]; simp [hil]) (fun t ht => ?_) r1 (by omega) ?_ ?_ ?_
    · have := hT t ht
      rw [Nat.zero_add] at this
      exact ⟨by have := this.1; omega, this.2⟩
    · exact sumT_trS isIn ds _ ds nine 0 (by simp)
    · exact sumT_trS isDraw ds _ ds nine 0 (by simp)
    · exact sumT_trS isLose ds _ ds nine 0 (by simp)
theorem F12_true' (x : List A4) (y : List A5) (c0 c1 c2 n : Int) : ∃ fuel, F12 fuel x y c0 c1 c2 n = some true := ⟨200, F12_gen (by omega) sane_true x y c0 c1 c2 n⟩
end Go.Proofs.Ytlmgjjmighajdaa
set_option linter.unusedVariables false
namespace Go.Sx
open Go.Sl Go.RowKit Go.ChangeShapes
def I64 (n : Int) : Prop := -9223372036854775808 ≤ n ∧ n ≤ 9223372036854775807
def Opens {α : Type} (P : Program) (t : TypeId) (T : Ty α) (ok : α → Prop) : Prop :=
  ∀ (H : Type) (enc : TypeId × Value → H) (W : World) (fuel : Nat) (cs : List Value) (d : DataW H × List MemPlace),
    DataW.trod enc P W 0 (fun _ => true) true fuel t cs = some d → ∃ x, T.rep (Zone.all W) cs x ∧ ok x
theorem mapM_mem {α β : Type} {f : α → Option β} : ∀ {l : List α} {ys : List β}, l.mapM f = some ys → ∀ a ∈ l, ∃ y, f a = some y
  | [], _, _, a, ha => by cases ha
  | x :: l, ys, h, a, ha => by
    rw [List.mapM_cons] at h
    cases hx : f x with
    | none => rw [hx] at h; simp at h
    | some y =>
      rw [hx] at h
      simp only [Option.pure_def, Option.bind_eq_bind, Option.bind_some] at h
      cases hl : l.mapM f with
      | none => rw [hl] at h; simp at h
      | some zs =>
        rcases List.mem_cons.1 ha with e | e
        · subst e; exact ⟨y, hx⟩
        · exact mapM_mem hl a e
section
variable {H : Type} {enc : TypeId × Value → H} {P : Program} {W : World} {fuel : Nat} {t : TypeId} {cs : List Value} {d : DataW H × List MemPlace}
theorem trod_fields {fs : Array Field} (ht : P.underlying t = some (.struct fs)) (h : DataW.trod enc P W 0 (fun _ => true) true fuel t cs = some d) :
    cs.length = P.cellsOf t ∧ ∃ n, ∀ f ∈ fs.toList, ∃ y, DataW.trod enc P W 0 (fun _ => true) true n f.type ((cs.drop f.offset).take (P.cellsOf f.type)) = some y := by
  cases fuel with
  | zero => simp [DataW.trod] at h
  | succ n =>
    simp only [DataW.trod, ht] at h
    by_cases hl : cs.length = P.cellsOf t
    · rw [if_pos hl] at h
      refine ⟨hl, n, fun f hf => ?_⟩
      cases hm : fs.toList.mapM fun f => DataW.trod enc P W 0 (fun _ => true) true n f.type ((cs.drop f.offset).take (P.cellsOf f.type)) with
      | none => rw [hm] at h; simp at h
      | some ys => exact mapM_mem hm f hf
    · rw [if_neg hl] at h; cases h
theorem trod_items {m : Nat} {e : TypeId} (ht : P.underlying t = some (.array m e)) (h : DataW.trod enc P W 0 (fun _ => true) true fuel t cs = some d) :
    cs.length = P.cellsOf t ∧ ∃ n, ∀ i, i < m → ∃ y, DataW.trod enc P W 0 (fun _ => true) true n e ((cs.drop (i * P.cellsOf e)).take (P.cellsOf e)) = some y := by
  cases fuel with
  | zero => simp [DataW.trod] at h
  | succ n =>
    simp only [DataW.trod, ht] at h
    by_cases hl : cs.length = P.cellsOf t
    · rw [if_pos hl] at h
      refine ⟨hl, n, fun i hi => ?_⟩
      cases hm : (List.range m).mapM fun i => DataW.trod enc P W 0 (fun _ => true) true n e ((cs.drop (i * P.cellsOf e)).take (P.cellsOf e)) with
      | none => rw [hm] at h; simp at h
      | some ys => exact mapM_mem hm i (List.mem_range.2 hi)
    · rw [if_neg hl] at h; cases h
end
def allInt (P : Program) : Nat → TypeId → Bool
  | 0, _ => false
  | f + 1, t => match P.underlying t with
    | some (.int .i64) => true
    | some (.struct fs) => fs.toList.all (fun x => allInt P f x.type) && (List.range (P.cellsOf t)).all fun i => fs.toList.any fun x => Nat.ble x.offset i && Nat.blt i (x.offset + P.cellsOf x.type)
    | some (.array n e) => allInt P f e && (List.range (P.cellsOf t)).all fun i => Nat.blt (i / P.cellsOf e) n && Nat.blt 0 (P.cellsOf e)
    | _ => false
def IntCells (cs : List Value) : Prop := ∀ (i : Nat) (c : Value), cs[i]? = some c → ∃ n : Int, c = Value.int .i64 n ∧ I64 n
theorem wf_I64 {n : Int} (h : (Lit.int .i64 n).wf = true) : I64 n := by
  have e1 : IntKind.i64.min = -9223372036854775808 := by decide
  have e2 : IntKind.i64.max = 9223372036854775807 := by decide
  simp only [Lit.wf, e1, e2, Bool.and_eq_true, decide_eq_true_eq] at h
  exact h
theorem allInt_spec {H : Type} {enc : TypeId × Value → H} {P : Program} {W : World} : ∀ (f : Nat) {t : TypeId} (_ : allInt P f t = true) {fuel : Nat} {cs : List Value} {d : DataW H × List MemPlace},
    DataW.trod enc P W 0 (fun _ => true) true fuel t cs = some d → IntCells cs
  | 0, _, h, _, _, _, _ => by cases h
  | f + 1, t, h, fuel, cs, d, hd => by
    unfold allInt at h
    split at h
    · rename_i ht
      obtain ⟨n, rfl, _, hw⟩ := DataW.trod_int ht hd
      intro i c hi
      cases i with
      | zero => simp only [List.getElem?_cons_zero, Option.some.injEq] at hi; exact ⟨n, hi.symm, wf_I64 hw⟩
      | succ i => simp at hi
    · rename_i fs ht
      simp only [Bool.and_eq_true, List.all_eq_true, List.any_eq_true, List.mem_range, Nat.ble_eq, Nat.blt_eq] at h
      obtain ⟨h1, h2⟩ := h
      obtain ⟨hl, n, hf⟩ := trod_fields ht hd
      intro i c hi
      have hlt : i < cs.length := (List.getElem?_eq_some_iff.1 hi).1
      obtain ⟨x, hx, ho, hu⟩ := h2 i (by omega)
      obtain ⟨y, hy⟩ := hf x hx
      refine allInt_spec f (h1 x hx) hy (i - x.offset) c ?_
      rw [List.getElem?_take, if_pos (by omega), List.getElem?_drop, show x.offset + (i - x.offset) = i by omega]
      exact hi
    · rename_i m e ht
      simp only [Bool.and_eq_true, List.all_eq_true, List.mem_range, Nat.blt_eq] at h
      obtain ⟨h1, h2⟩ := h
      obtain ⟨hl, n, hf⟩ := trod_items ht hd
      intro i c hi
      have hlt : i < cs.length := (List.getElem?_eq_some_iff.1 hi).1
      obtain ⟨hq, hp⟩ := h2 i (by omega)
      obtain ⟨y, hy⟩ := hf _ hq
      have hmod := Nat.mod_lt i hp
      have hdm := Nat.div_add_mod i (P.cellsOf e)
      rw [Nat.mul_comm] at hdm
      refine allInt_spec f h1 hy (i % P.cellsOf e) c ?_
      rw [List.getElem?_take, if_pos hmod, List.getElem?_drop, hdm]
      exact hi
    · cases h
theorem opens_ints {α : Type} {P : Program} {t : TypeId} {T : Ty α} {ok : α → Prop} (k : Nat) (hk : P.cellsOf t = k) (hs : (match P.underlying t with | some (.struct _) => true | some (.array _ _) => true | _ => false) = true) (ha : allInt P 8 t = true)
    (mk : ∀ (h : Zone) (l : List Int), l.length = k → (∀ n ∈ l, I64 n) → ∃ x, T.rep h (l.map fun n => .int .i64 n) x ∧ ok x) : Opens P t T ok := fun H enc W fuel cs d h => by
  have hi := allInt_spec 8 ha h
  have hl : cs.length = k := by
    split at hs
    · rename_i fs ht; rw [(trod_fields ht h).1, hk]
    · rename_i m e ht; rw [(trod_items ht h).1, hk]
    · cases hs
  have key : ∀ cs : List Value, IntCells cs → ∃ l : List Int, cs = l.map (fun n => .int .i64 n) ∧ ∀ n ∈ l, I64 n := by
    intro cs
    induction cs with
    | nil => exact fun _ => ⟨[], rfl, fun _ h => by cases h⟩
    | cons c cs ih =>
      intro hc
      obtain ⟨n, rfl, hn⟩ := hc 0 c rfl
      obtain ⟨l, rfl, hl⟩ := ih (fun i c hi => hc (i + 1) c (by simpa using hi))
      exact ⟨n :: l, rfl, fun m hm => by rcases List.mem_cons.1 hm with e | e; exact e ▸ hn; exact hl m e⟩
  obtain ⟨l, rfl, hn⟩ := key cs hi
  exact mk _ l (by simpa using hl) hn
theorem opens_slice {α : Type} {P : Program} {t e : TypeId} {T : Ty α} {ok : α → Prop} (ht : P.underlying t = some (.slice e)) (he : P.cellsOf e = T.size) (h : Opens P e T ok) : Opens P t (Ty.slice T) (fun xs => (∀ x ∈ xs, ok x) ∧ xs.length ≤ maxLen) := fun H enc W fuel cs d hd => by
  rcases Go.Deep.open_slice ht hd with ⟨rfl, _⟩ | ⟨a, len, cap, m, n, D, Pl, rfl, _, hl, hm, hmm, _, hx⟩
  · exact ⟨[], ⟨none, 0, rfl, SliceR.nil' T _⟩, ⟨(fun _ h => by cases h), by simp⟩⟩
  · simp only [if_true] at hmm
    have hall : ∀ i, i < len → ∃ x, (∃ c, T.rep (Zone.all W) c x ∧ ∀ j v, c[j]? = some v → (Zone.all W).cell? ((a.add (i * T.size)).add j) = some v) ∧ ok x := fun i hi => by
      obtain ⟨cs', h1, h2⟩ := hx i (by omega)
      obtain ⟨x, hr, ho⟩ := h H enc W n cs' _ h2
      refine ⟨x, ⟨cs', hr, fun j v hj => ?_⟩, ho⟩
      rw [he] at h1
      obtain ⟨_, hlen, hc⟩ := World.cells?_some h1
      have hlt : j < cs'.length := (List.getElem?_eq_some_iff.1 hj).1
      exact (hc j (by omega)).trans hj
    have key : ∀ k, k ≤ len → ∃ xs : List α, xs.length = k ∧ (∀ x ∈ xs, ok x) ∧ ∀ i x, xs[i]? = some x → ∃ c, T.rep (Zone.all W) c x ∧ ∀ j v, c[j]? = some v → (Zone.all W).cell? ((a.add (i * T.size)).add j) = some v := by
      intro k
      induction k with
      | zero => exact fun _ => ⟨[], rfl, (fun _ h => by cases h), (fun i x h => by simp at h)⟩
      | succ k ih =>
        intro hk
        obtain ⟨xs, h1, h2, h3⟩ := ih (by omega)
        obtain ⟨x, hx1, hx2⟩ := hall k (by omega)
        refine ⟨xs ++ [x], by simp [h1], fun y hy => ?_, fun i y hy => ?_⟩
        · rcases List.mem_append.1 hy with e | e
          · exact h2 y e
          · simp only [List.mem_singleton] at e; exact e ▸ hx2
        · rw [List.getElem?_append] at hy
          split at hy
          · exact h3 i y hy
          · rename_i hge
            have : i - xs.length = 0 := by
              have := (List.getElem?_eq_some_iff.1 hy).1
              simp at this; omega
            rw [this] at hy
            simp only [List.getElem?_cons_zero, Option.some.injEq] at hy
            subst hy
            have : i = k := by omega
            subst this
            exact hx1
    obtain ⟨xs, h1, h2, h3⟩ := key len (Nat.le_refl _)
    refine ⟨xs, ⟨some a, cap, by rw [h1], ⟨by omega, hm, (fun e => by cases e), fun b e i x hi => ?_⟩⟩, ⟨h2, by omega⟩⟩
    cases e
    exact h3 i x hi
section
variable {H : Type} {enc : TypeId × Value → H} {P : Program} {W : World} {base : Nat} {t : TypeId} {v : Value} {d : DataW H} {ps : List MemPlace}
theorem arg_agg {α : Type} {T : Ty α} {ok : α → Prop} (hs : (match P.underlying t with | some (.struct _) => true | some (.array _ _) => true | _ => false) = true) (hv : Value.okWide P W .any base t v) (h : DataW.Trod enc P W 0 (fun _ => true) true t v d ps) (ho : Opens P t T ok) :
    ∃ cs x, v = .agg cs.toArray ∧ T.rep (Zone.all W) cs x ∧ ok x := by
  obtain ⟨fuel, hf⟩ := h
  obtain ⟨x, hx, hok⟩ := ho H enc W fuel _ _ hf
  have : ∃ cs, v = .agg cs := by
    unfold Value.okWide at hv
    split at hs
    · rename_i fs ht; rw [ht] at hv; obtain ⟨cs, e, _⟩ := hv; exact ⟨cs, e⟩
    · rename_i m e ht; rw [ht] at hv; obtain ⟨cs, e, _⟩ := hv; exact ⟨cs, e⟩
    · cases hs
  obtain ⟨cs, rfl⟩ := this
  exact ⟨cs.toList, x, rfl, hx, hok⟩
theorem arg_int (ht : P.underlying t = some (.int .i64)) (hv : Value.okWide P W .any base t v) (h : DataW.Trod enc P W 0 (fun _ => true) true t v d ps) : ∃ n, v = .int .i64 n ∧ I64 n := by
  obtain ⟨n, rfl, _, _, hw⟩ := open_int ht hv h
  exact ⟨n, rfl, wf_I64 hw⟩
theorem trodAll_stays (hl : laidOutB P = true) {W' : World} (hb : Below W.heap.size W W') : ∀ {ts : List TypeId} {vs : List Value} {ds : List (DataW H)} {ps : List MemPlace}, (ts.all fun t => P.readableRec t && Nat.blt t P.types.size) = true →
    DataW.TrodAll enc P W 0 (fun _ => true) true ts vs ds ps → (∀ p ∈ ps, p.block < W.heap.size) → DataW.TrodAll enc P W' 0 (fun b => decide (b < W.heap.size)) true ts vs ds ps
  | [], [], [], _, _, h, _ => h
  | t :: ts, v :: vs, d :: ds, _, hr, ⟨p, q, h1, h2, e⟩, hlt => by
    simp only [List.all_cons, Bool.and_eq_true, Nat.blt_eq] at hr
    subst e
    exact ⟨p, q, Below.trod hl hr.1.1 hr.1.2 h1 hb (fun x hx => hlt x (List.mem_append_left _ hx)), trodAll_stays hl hb hr.2 h2 (fun x hx => hlt x (List.mem_append_right _ hx)), rfl⟩
  | [], _ :: _, _, _, _, h, _ => h.elim
  | [], [], _ :: _, _, _, h, _ => h.elim
  | _ :: _, [], _, _, _, h, _ => h.elim
  | _ :: _, _ :: _, [], _, _, h, _ => h.elim
theorem post_true {f : Func} {s : ChangeSpec} {args : Array Value} {ds : List (DataW H)} {before : List MemPlace} {apart : Bool} {W' : World} {tb : TypeId} (hl : laidOutB P = true) (hvars : s.vars = []) (hr : (f.params.toList.all fun t => P.readableRec t && Nat.blt t P.types.size) = true)
    (hres : f.resultTypes = #[tb]) (hu : P.underlying tb = some .bool) (hW : DataW.Whole enc P f.params.toList s.vars apart W args.toList ds [] before) (hb : Below W.heap.size W W') (hs : s.fn H (ds ++ []) = { results := [.lit (.bool true)], args := ds }) :
    s.post enc P f apart true false false W args (.bool true) W' := by
  have hlt := hW.lt
  have hW0 := hW
  obtain ⟨p, q, hA, hV, rfl, _, _⟩ := hW
  rw [hvars] at hV
  obtain ⟨_, rfl⟩ := trodVars_none hV
  refine ⟨ds, [], p ++ [], [], p, [], hW0, ?_, ?_, ?_, hb.frame _, fun h => by cases h⟩
  · rw [hs, hres]; exact trodAll_mk1 (shut_bool hu true)
  · rw [hs]; exact trodAll_stays hl hb hr hA (fun x hx => hlt x (by simpa using hx))
  · rw [hs, hvars]; rfl
end
end Go.Sx
namespace Go.Sx
structure A3 where
  a0 : Int
  a1 : Int
  a2 : Int
  deriving DecidableEq
def A3T : Ty A3 := Ty.flat 3 (fun p => [.int .i64 p.a0, .int .i64 p.a1, .int .i64 p.a2]) (fun _ => rfl) (fun _ => rfl)
end Go.Sx
set_option linter.unusedVariables false
namespace Go.Sx
open Go.Sl Go.RowKit Go.ChangeShapes
def tripB (P : Program) (t e e' e'' : TypeId) : Bool := match P.underlying t with
  | some (.struct fs) => (match fs.toList with | [f, g, k] => Nat.beq f.type e && Nat.beq f.offset 0 && Nat.beq g.type e' && Nat.beq g.offset (P.cellsOf e) && Nat.beq k.type e'' && Nat.beq k.offset (P.cellsOf e + P.cellsOf e') && Nat.beq (P.cellsOf e + P.cellsOf e' + P.cellsOf e'') (P.cellsOf t) | _ => false)
  | _ => false
theorem opens_trip {α β γ : Type} {P : Program} {t e e' e'' : TypeId} {T : Ty α} {U : Ty β} {V : Ty γ} {ok : α → Prop} {ok' : β → Prop} {ok'' : γ → Prop} (hb : tripB P t e e' e'' = true) (h : Opens P e T ok) (h' : Opens P e' U ok') (h'' : Opens P e'' V ok'') : Opens P t (Ty.pair T (Ty.pair U V)) (fun x => ok x.1 ∧ ok' x.2.1 ∧ ok'' x.2.2) := fun H enc W fuel cs d hd => by
  unfold tripB at hb
  split at hb
  · rename_i fs ht
    split at hb
    · rename_i f g k hf
      simp only [Bool.and_eq_true, Nat.beq_eq] at hb
      obtain ⟨⟨⟨⟨⟨⟨h1, h2⟩, h3⟩, h4⟩, h5⟩, h6⟩, h7⟩ := hb
      obtain ⟨hl, n, hx⟩ := trod_fields ht hd
      obtain ⟨y, hy⟩ := hx f (by rw [hf]; exact List.mem_cons_self ..)
      obtain ⟨z, hz⟩ := hx g (by rw [hf]; exact List.mem_cons_of_mem _ (List.mem_cons_self ..))
      obtain ⟨u, hu⟩ := hx k (by rw [hf]; exact List.mem_cons_of_mem _ (List.mem_cons_of_mem _ (List.mem_cons_self ..)))
      rw [h1, h2, List.drop_zero] at hy
      rw [h3, h4] at hz
      rw [h5, h6, List.take_of_length_le (by rw [List.length_drop]; omega)] at hu
      obtain ⟨x1, r1, o1⟩ := h H enc W n _ y hy
      obtain ⟨x2, r2, o2⟩ := h' H enc W n _ z hz
      obtain ⟨x3, r3, o3⟩ := h'' H enc W n _ u hu
      have e1 : cs = cs.take (P.cellsOf e) ++ ((cs.drop (P.cellsOf e)).take (P.cellsOf e') ++ cs.drop (P.cellsOf e + P.cellsOf e')) := by
        rw [← List.drop_drop, List.take_append_drop, List.take_append_drop]
      exact ⟨(x1, x2, x3), ⟨_, _, e1, r1, _, _, rfl, r2, r3⟩, o1, o2, o3⟩
    · cases hb
  · cases hb
end Go.Sx
