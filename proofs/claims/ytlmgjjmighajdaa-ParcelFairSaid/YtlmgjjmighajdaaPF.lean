/-
  Dealing a mass: what the program's deal reckons. No condition.
-/
import Derived.Test.YtlmgjjmighajdaaPE
set_option linter.unusedSimpArgs false
set_option linter.unusedVariables false
namespace Go.Proofs.Ytlmgjjmighajdaa
open Go.Sl Go.Sx
theorem sum_nonneg : ∀ {a : List Int}, (∀ x ∈ a, 0 ≤ x) → 0 ≤ a.sum
  | [], _ => by simp
  | x :: a, h => by have := sum_nonneg (a := a) fun y hy => h y (List.mem_cons_of_mem _ hy); have := h x (by simp); simp only [List.sum_cons]; omega
theorem le_sum : ∀ {a : List Int}, (∀ x ∈ a, 0 ≤ x) → ∀ x ∈ a, x ≤ a.sum
  | [], _, x, hx => by cases hx
  | y :: a, h, x, hx => by
    have h0 := h y (by simp)
    have h1 := sum_nonneg (a := a) fun z hz => h z (List.mem_cons_of_mem _ hz)
    simp only [List.sum_cons]
    rcases List.mem_cons.1 hx with rfl | hx
    · omega
    · have := le_sum (a := a) (fun z hz => h z (List.mem_cons_of_mem _ hz)) x hx; omega
/-- What is dealt: masses that are not negative, some mass in all, not too many. -/
structure DealOk (m : Int) (a : List Int) : Prop where
  nn : ∀ x ∈ a, 0 ≤ x
  s0 : 0 < a.sum
  s1 : a.sum ≤ 100000000
  m0 : 0 ≤ m
  m1 : m ≤ 100000000
  len : a.length < 20
def baseS (m : Int) (a : List Int) (i : Nat) : Int := m * a.getD i 0 / a.sum
def baseL (m : Int) (a : List Int) : List Int := a.map fun x => m * x / a.sum
def leftS (m : Int) (a : List Int) : Int := m - (baseL m a).sum
def dealS (m : Int) (a : List Int) : List Int := (List.range a.length).map fun i => baseS m a i + (if rank m a.sum a (i : Int) < (leftS m a).toNat then 1 else 0)
theorem div_sum (m s : Int) (hs : s ≠ 0) : ∀ b : List Int, s * (b.map fun x => m * x / s).sum + (b.map fun x => m * x % s).sum = m * b.sum
  | [] => by simp
  | x :: b => by
    have ih := div_sum m s hs b
    have e := Int.mul_ediv_add_emod (m * x) s
    simp only [List.map_cons, List.sum_cons]
    grind
theorem rem_sum {m s : Int} (hs : 0 < s) : ∀ b : List Int, 0 ≤ (b.map fun x => m * x % s).sum ∧ (b.map fun x => m * x % s).sum ≤ (s - 1) * b.length
  | [] => by simp
  | x :: b => by
    have ih := rem_sum (m := m) hs b
    have h1 := Int.emod_nonneg (m * x) (show s ≠ 0 by omega)
    have h2 := Int.emod_lt_of_pos (m * x) hs
    simp only [List.map_cons, List.sum_cons, List.length_cons]
    have e : (s - 1) * ((b.length + 1 : Nat) : Int) = (s - 1) * b.length + (s - 1) := by push_cast; grind
    omega
theorem left_bounds {m : Int} {a : List Int} (h : DealOk m a) : 0 ≤ leftS m a ∧ leftS m a ≤ a.length ∧ a.sum * leftS m a = (a.map fun x => m * x % a.sum).sum := by
  have h1 := div_sum m a.sum (by have := h.s0; omega) a
  have h2 := rem_sum (m := m) h.s0 a
  have e : a.sum * leftS m a = (a.map fun x => m * x % a.sum).sum := by unfold leftS baseL; grind
  have hs := h.s0
  refine ⟨?_, ?_, e⟩
  · rcases Int.lt_or_le (leftS m a) 0 with hl | hl
    · have : a.sum * leftS m a < 0 := Int.mul_neg_of_pos_of_neg hs hl
      omega
    · exact hl
  · rcases Int.lt_or_le (a.length : Int) (leftS m a) with hl | hl
    · have h3 : a.sum * a.length < a.sum * leftS m a := Int.mul_lt_mul_of_pos_left hl hs
      have h4 : (a.sum - 1) * a.length ≤ a.sum * a.length := Int.mul_le_mul_of_nonneg_right (by omega) (by omega)
      omega
    · exact hl
theorem getD_mem {a : List Int} {i : Nat} (h : i < a.length) : a.getD i 0 = a[i] := by simp [h]
theorem base_bounds {m : Int} {a : List Int} (h : DealOk m a) {i : Nat} (hi : i < a.length) : 0 ≤ baseS m a i ∧ baseS m a i ≤ m := by
  have h0 := h.nn _ (List.getElem_mem hi)
  have h1 := le_sum h.nn _ (List.getElem_mem hi)
  unfold baseS
  rw [getD_mem hi]
  have hm := h.m0
  have hs := h.s0
  refine ⟨Int.ediv_nonneg (Int.mul_nonneg hm h0) (by omega), ?_⟩
  refine Int.ediv_le_of_le_mul hs ?_
  exact Int.mul_le_mul_of_nonneg_left h1 hm
theorem prod_bounds {m : Int} {a : List Int} (h : DealOk m a) {i : Nat} (hi : i < a.length) : 0 ≤ m * a[i] ∧ m * a[i] ≤ 10000000000000000 := by
  have h0 := h.nn _ (List.getElem_mem hi)
  have h1 := le_sum h.nn _ (List.getElem_mem hi)
  have := h.s1; have := h.m0; have := h.m1
  refine ⟨Int.mul_nonneg h.m0 h0, ?_⟩
  have : m * a[i] ≤ 100000000 * 100000000 := Int.mul_le_mul (by omega) (by omega) h0 (by omega)
  omega
/-! ### The loops -/
theorem F123_eq (f : Nat) (x y : Int) : F123 f x y = some (if x < y then -1 else if x > y then 1 else 0) := by
  unfold F123 F137
  by_cases h1 : x < y <;> by_cases h2 : x > y <;> simp [h1, h2]
theorem nzS {n : Int} (h : n ≠ 0) : nz n = some () := by unfold nz; rw [if_pos h]
theorem tmod_eq {m : Int} {a : List Int} (h : DealOk m a) {i : Nat} (hi : i < a.length) : Int.tmod (w64 (m * a[i])) a.sum = rem_ m a.sum a (i : Int) := by
  have hp := prod_bounds h hi
  rw [w64_id (by omega) (by omega), Int.tmod_eq_emod_of_nonneg hp.1]
  unfold rem_
  have e : ((i : Int)).toNat = i := by omega
  rw [e, getD_mem hi]
theorem setI_mid {pre post : List Int} {x y : Int} {j : Int} (hj : j = pre.length) : setI (pre ++ x :: post) j y = some (pre ++ y :: post) := by
  subst hj
  unfold setI
  have h1 : (0 : Int) ≤ pre.length ∧ (pre.length : Int) < (pre ++ x :: post).length := by simp; omega
  rw [if_pos h1]
  simp
theorem getI_mid {pre post : List Int} {x : Int} {j : Int} (hj : j = pre.length) : getI (pre ++ x :: post) j = some x := by
  subst hj
  unfold getI
  rw [if_pos (by omega)]
  simp
def Good (n : Nat) (l : List Int) : Prop := ∀ x ∈ l, 0 ≤ x ∧ x < n
theorem F127_l7_eq {f : Nat} {k4 : List Int → Int → Option (List Int)} {m : Int} {a : List Int} (h : DealOk m a) (i : Int) (x : Int) : ∀ n (r tl : List Int), Good a.length (x :: r) → r.length < n → r.length < 100 →
    F127_l7 f k4 m a a.sum 0 i n (r.reverse ++ x :: tl) (r.length : Int) = k4 ((insRev (less m a.sum a) x r).reverse ++ tl) (w64 (i + 1))
  | 0, r, tl, _, hn, _ => by omega
  | n + 1, [], tl, hg, hn, hl => by simp [F127_l7, F127_j3, insRev]
  | n + 1, y :: r, tl, hg, hn, hl => by
    have hx := hg x (by simp)
    have hy := hg y (by simp)
    have hxl : x.toNat < a.length := by omega
    have hyl : y.toNat < a.length := by omega
    have ex : getI a x = some a[x.toNat] := by have := getI_nat hxl; rwa [Int.toNat_of_nonneg hx.1] at this
    have ey : getI a y = some a[y.toNat] := by have := getI_nat hyl; rwa [Int.toNat_of_nonneg hy.1] at this
    have hs : a.sum ≠ 0 := by have := h.s0; omega
    have hpos : decide (((y :: r).length : Int) > 0) = true := by simp
    have hlen : (((y :: r).length : Nat) : Int) = (r.reverse ++ [y]).length := by simp
    have hpred : w64 (((y :: r).length : Int) - 1) = (r.reverse.length : Nat) := by rw [pred_w (by omega) (by simp)]; simp
    have e0 : (y :: r).reverse ++ x :: tl = (r.reverse ++ [y]) ++ x :: tl := by simp
    have e1 : (y :: r).reverse ++ x :: tl = r.reverse ++ y :: (x :: tl) := by simp
    have g1 : getI ((y :: r).reverse ++ x :: tl) ((y :: r).length : Int) = some x := by rw [e0]; exact getI_mid hlen
    have g2 : getI ((y :: r).reverse ++ x :: tl) (w64 (((y :: r).length : Int) - 1)) = some y := by rw [e1]; exact getI_mid hpred
    have t1 := tmod_eq h hxl
    have t2 := tmod_eq h hyl
    rw [Int.toNat_of_nonneg hx.1] at t1
    rw [Int.toNat_of_nonneg hy.1] at t2
    simp only [F127_l7, hpos, cond_true, g1, g2, Option.bind_some, ex, ey, nzS hs, t1, t2, F123_eq, F127_j3]
    by_cases hl2 : rem_ m a.sum a y < rem_ m a.sum a x
    · have hc : decide ((if rem_ m a.sum a y < rem_ m a.sum a x then (-1 : Int) else if rem_ m a.sum a y > rem_ m a.sum a x then 1 else 0) < 0) = true := by rw [if_pos hl2]; rfl
      have hless : less m a.sum a x y = true := by unfold less; simpa using hl2
      have s1 : setI ((y :: r).reverse ++ x :: tl) ((y :: r).length : Int) y = some ((r.reverse ++ [y]) ++ y :: tl) := by rw [e0]; exact setI_mid hlen
      have e2 : (r.reverse ++ [y]) ++ y :: tl = r.reverse ++ y :: (y :: tl) := by simp
      have g3 : getI ((r.reverse ++ [y]) ++ y :: tl) (w64 (((y :: r).length : Int) - 1)) = some y := by rw [e2]; exact getI_mid hpred
      have s2 : setI ((r.reverse ++ [y]) ++ y :: tl) (w64 (((y :: r).length : Int) - 1)) x = some (r.reverse ++ x :: (y :: tl)) := by rw [e2]; exact setI_mid hpred
      rw [hc]
      simp only [cond_true, s1, Option.bind_some, g3, s2]
      have ih := F127_l7_eq (f := f) (k4 := k4) h i x n r (y :: tl) (fun z hz => hg z (by rcases List.mem_cons.1 hz with e | e; simp [e]; simp [e])) (by simp at hn; omega) (by simp at hl; omega)
      have e3 : ((r.reverse.length : Nat) : Int) = (r.length : Int) := by simp
      rw [hpred, e3, ih]
      simp [insRev, hless]
    · have hc : decide ((if rem_ m a.sum a y < rem_ m a.sum a x then (-1 : Int) else if rem_ m a.sum a y > rem_ m a.sum a x then 1 else 0) < 0) = false := by rw [if_neg hl2]; split <;> rfl
      have hless : less m a.sum a x y = false := by unfold less; simpa using hl2
      rw [hc]
      simp [insRev, hless]

theorem insRev_len {α : Type} (lt : α → α → Bool) (x : α) (r : List α) : (insRev lt x r).length = r.length + 1 := by rw [(insRev_perm lt x r).length_eq]; rfl
theorem F127_l6_eq {f : Nat} {m : Int} {a : List Int} (h : DealOk m a) (hf : 100 < f) (y17 y13 : List Int) (y18 : Int) (hy : y13.length = a.length) : ∀ n (r tl : List Int), Good a.length (r ++ tl) → r.length + tl.length = a.length → tl.length < n →
    F127_l6 f m a a.sum y17 y13 y18 0 n (r.reverse ++ tl) (r.length : Int) = F127_l8 f y17 y13 y18 ((tl.foldl (fun r x => insRev (less m a.sum a) x r) r).reverse) f 20
  | 0, r, tl, _, _, hn => by omega
  | n + 1, r, [], hg, hl, hn => by
    have hlt : decide ((r.length : Int) < (y13.length : Int)) = false := by simpa using (show (y13.length : Int) ≤ r.length by simp at hl; omega)
    simp only [F127_l6, hlt, cond_false, List.append_nil, List.foldl_nil]
  | n + 1, r, x :: tl, hg, hl, hn => by
    have hlen := h.len
    have hlt : decide ((r.length : Int) < (y13.length : Int)) = true := by simpa using (show (r.length : Int) < y13.length by simp at hl; omega)
    simp only [F127_l6, hlt, cond_true]
    rw [F127_l7_eq (f := f) h (r.length : Int) x f r tl (fun z hz => hg z (by rcases List.mem_cons.1 hz with e | e; simp [e]; simp [e])) (by simp at hl; omega) (by simp at hl; omega)]
    have e : w64 ((r.length : Int) + 1) = ((insRev (less m a.sum a) x r).length : Int) := by rw [succ_w (by simp at hl; omega), insRev_len]
    rw [e, F127_l6_eq h hf y17 y13 y18 hy n (insRev (less m a.sum a) x r) tl (fun z hz => hg z (by
      rcases List.mem_append.1 hz with hz | hz
      · rcases List.mem_cons.1 ((insRev_perm _ x r).mem_iff.1 hz) with e | e
        · simp [e]
        · simp [e]
      · simp [hz])) (by rw [insRev_len]; simp at hl; omega) (by simp at hn; omega)]
    rfl
theorem good_places (n : Nat) : Good n (places n) := fun x hx => mem_places.1 hx
theorem sorted_places {f : Nat} {m : Int} {a : List Int} (h : DealOk m a) (hf : 100 < f) (y17 : List Int) (y18 : Int) :
    F127_l3 f m a a.sum y17 (places a.length) y18 f (places a.length) 0 20 = F127_l8 f y17 (places a.length) y18 (orderS m a.sum a) f 20 := by
  have hlen := h.len
  obtain ⟨n, rfl⟩ : ∃ n, f = n + 1 := ⟨f - 1, by omega⟩
  have hpl : (places a.length).length = a.length := by simp [places]
  have h20 : decide ((20 : Int) ≤ ((places a.length).length : Int)) = false := by rw [hpl]; simpa using (show (a.length : Int) < 20 by omega)
  simp only [F127_l3, h20, cond_false]
  have e1 : w64 ((0 : Int) + 1) = 1 := rfl
  rw [e1]
  rcases hp : places a.length with _ | ⟨x, tl⟩
  · -- no numbers at all
    have : a.length = 0 := by rw [← hpl, hp]; rfl
    have : a = [] := List.eq_nil_of_length_eq_zero this
    have := h.s0
    simp_all
  · have hg : Good a.length (x :: tl) := hp ▸ good_places a.length
    have hl2 : tl.length + 1 = a.length := by rw [← hpl, hp]; rfl
    have := F127_l6_eq (f := n + 1) h hf y17 (x :: tl) y18 (by simpa using hl2) (n + 1) [x] tl (by simpa using hg) (by simp; omega) (by omega)
    simp only [List.reverse_cons, List.reverse_nil, List.nil_append, List.length_cons, List.length_nil, List.singleton_append] at this
    have e2 : ((0 + 1 : Nat) : Int) = 1 := rfl
    rw [e2] at this
    rw [this]
    unfold orderS sortRev
    rw [hp]
    rfl
end Go.Proofs.Ytlmgjjmighajdaa
