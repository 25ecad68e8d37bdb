/-
  Cuts, sums, hulls and multiples of tables: what the code makes. No condition.
-/
import Derived.Test.YtpjmgeajajcceaaTX11
set_option linter.unusedSimpArgs false
set_option linter.unusedVariables false
namespace Go.Proofs.Ytpjmgeajajcceaa
open Go.Sl Go.Sx
theorem ok67 {f : Nat} (hf : 50 ≤ f) {t : List Pt} (v : VT t) : F67 f t = some 0 := by
  rcases F67_cases hf t with ⟨_, h⟩ | ⟨h, _⟩
  · exact h
  · exact absurd v h
theorem mid_len2 {t : List Pt} {a b : Int} (hb : b ≤ lstX t) : ∀ n i, t.length - i = n → i < t.length → (mid t a b i).length ≤ t.length - i - 1
  | n, i, hn, hi => by
    rcases Nat.eq_or_lt_of_le (show i + 1 ≤ t.length from hi) with e | e
    · have hx : ¬ (a < (pt t i).x ∧ (pt t i).x < b) := fun h => by
        have h2 := h.2
        unfold lstX at hb
        rw [show t.length - 1 = i by omega] at hb
        omega
      rw [mid_out hi hx, e, mid_end]; simp
    · have ih := mid_len2 (a := a) hb (n - 1) (i + 1) (by omega) e
      by_cases h : a < (pt t i).x ∧ (pt t i).x < b
      · rw [mid_in hi h.1 h.2, List.length_cons]; omega
      · rw [mid_out hi h]; omega
termination_by n => n
theorem mid_pw {t : List Pt} (v : VT t) (a b : Int) (i : Nat) : Rise ((mid t a b i).map (·.x)) := by
  have h : t.Pairwise fun p q => p.x < q.x := List.pairwise_iff_getElem.2 fun i j hi hj hij => by
    have := v.mono hij hj
    rwa [pt_eq hi, pt_eq hj] at this
  unfold Rise mid
  rw [List.pairwise_map]
  exact (h.sublist (List.drop_sublist i t)).filter _
theorem F65_res {f : Nat} (hf : 50 ≤ f) {t : List Pt} (v : VT t) {a b : Int} (hab : a ≤ b) (h1 : fstX t ≤ a) (h2 : b ≤ lstX t) :
    ∃ l : List Int, F65 f t a b = some (l.map (mkP t), 0) ∧ Rise l ∧ VT (l.map (mkP t)) ∧ a ∈ l ∧ b ∈ l ∧ (∀ x ∈ l, a ≤ x ∧ x ≤ b) ∧ ∀ j, j < t.length → a ≤ (pt t j).x → (pt t j).x ≤ b → (pt t j).x ∈ l := by
  have hl := v.l2
  have fb := fst_bd v
  have hmem : ∀ x ∈ (mid t a b 0).map (·.x), a < x ∧ x < b := fun x hx => by
    obtain ⟨p, hp, rfl⟩ := List.mem_map.1 hx
    exact (mid_mem hp).2
  have hpts : ∀ j, j < t.length → a < (pt t j).x → (pt t j).x < b → (pt t j).x ∈ (mid t a b 0).map (·.x) := fun j hj k1 k2 => by
    refine List.mem_map.2 ⟨pt t j, ?_, rfl⟩
    unfold mid
    rw [List.mem_filter, List.drop_zero, pt_eq hj]
    rw [pt_eq hj] at k1 k2
    exact ⟨List.getElem_mem hj, by simp [k1, k2]⟩
  have key : ∀ l : List Int, Rise l → 1 ≤ l.length → l.length ≤ 40 → (∀ x ∈ l, a ≤ x ∧ x ≤ b) → VT (l.map (mkP t)) := fun l hr k1 k2 hx =>
    (VT_map (g := mkP t) (fun _ => rfl) hr k1 k2 (fun x h => by have := hx x h; omega) (fun x h => by
      have := hx x h
      have := atV_bd v (x := x) (by omega) (by omega)
      simp only [mkP]; omega)).2 fun j hj => by
        have := hx _ (List.getElem_mem hj)
        have := atV_bd v (x := l[j]) (by omega) (by omega)
        exact ⟨this.1, this.2.2⟩
  have m := mid_len t a b 0
  unfold F65
  rw [ok67 hf v, Option.bind_some, cond_z, decide_eq_false (by omega : ¬ a > b), cond_false, F81_eq f v, Option.bind_some, decide_eq_true (show fstX t ≤ a ∧ b ≤ lstX t from ⟨h1, h2⟩)]
  unfold F65_j1
  rw [Bool.not_true, cond_false]
  have e1 := F65_l1_eq f hl a b f 0 [a] (Nat.zero_le _) (by omega) (by simp; omega)
  rw [show ((0 : Nat) : Int) = 0 from rfl] at e1
  rw [e1]
  unfold F65_j4
  rcases Int.lt_or_eq_of_le hab with hlt | heq
  · rw [decide_eq_true (show b > a from hlt), cond_true, appC_eq (by simp; omega), Option.bind_some]
    have hxs : ∀ x ∈ [a] ++ (mid t a b 0).map (·.x) ++ [b], a ≤ x ∧ x ≤ b := fun x hx => by
      rcases List.mem_append.1 hx with hx | hx
      · rcases List.mem_append.1 hx with hx | hx
        · simp only [List.mem_singleton] at hx; omega
        · have := hmem x hx; omega
      · simp only [List.mem_singleton] at hx; omega
    have e3 := F65_l2_eq hf v (xs := [a] ++ (mid t a b 0).map (·.x) ++ [b]) (fun x hx => by have := hxs x hx; omega) (by simp; omega) f 0 [] (Nat.zero_le _) (by simp; omega) (by simp; omega)
    rw [show ((0 : Nat) : Int) = 0 from rfl] at e3
    rw [e3]
    have hr : Rise ([a] ++ (mid t a b 0).map (·.x) ++ [b]) := by
      refine List.pairwise_append.2 ⟨List.pairwise_append.2 ⟨List.pairwise_singleton _ _, mid_pw v a b 0, fun x hx y hy => ?_⟩, List.pairwise_singleton _ _, fun x hx y hy => ?_⟩
      · simp only [List.mem_singleton] at hx; have := hmem y hy; omega
      · simp only [List.mem_singleton] at hy
        rcases List.mem_append.1 hx with hx | hx
        · simp only [List.mem_singleton] at hx; omega
        · have := hmem x hx; omega
    have h1' := v.l1
    have hlen : ([a] ++ (mid t a b 0).map (·.x) ++ [b]).length ≤ 40 := by
      have h2t : 1 < t.length := by
        rcases Nat.lt_or_ge 1 t.length with h | h
        · exact h
        · have : t.length = 1 := by omega
          unfold fstX lstX at *
          rw [this, Nat.sub_self] at h2
          omega
      have m2 := mid_len2 (a := a) h2 (t.length - 1) 1 rfl h2t
      have m0 : mid t a b 0 = mid t a b 1 := mid_out (by omega) fun h => by
        have := h.1
        unfold fstX at h1
        omega
      rw [m0]
      simp; omega
    refine ⟨_, by simp, hr, key _ hr (by simp) hlen hxs, by simp, by simp, hxs, fun j hj k1 k2 => ?_⟩
    rcases Int.lt_or_eq_of_le k1 with k1 | k1
    · rcases Int.lt_or_eq_of_le k2 with k2 | k2
      · exact List.mem_append_left _ (List.mem_append_right _ (hpts j hj k1 k2))
      · rw [k2]; simp
    · rw [← k1]; simp
  · subst heq
    rw [decide_eq_false (by omega), cond_false]
    have hm : (mid t a a 0).map (·.x) = [] := List.eq_nil_iff_forall_not_mem.2 fun x hx => by have := hmem x hx; omega
    have e3 := F65_l2_eq hf v (xs := [a] ++ (mid t a a 0).map (·.x)) (fun x hx => by
      rw [hm] at hx
      simp only [List.append_nil, List.mem_singleton] at hx; omega) (by rw [hm]; simp) f 0 [] (Nat.zero_le _) (by rw [hm]; simp; omega) (by rw [hm]; simp)
    rw [show ((0 : Nat) : Int) = 0 from rfl] at e3
    rw [e3, hm]
    have hxs : ∀ x ∈ [a], a ≤ x ∧ x ≤ a := fun x hx => by simp only [List.mem_singleton] at hx; omega
    refine ⟨[a], by simp, List.pairwise_singleton _ _, key _ (List.pairwise_singleton _ _) (by simp) (by simp) hxs, by simp, by simp, hxs, fun j hj k1 k2 => ?_⟩
    rw [show (pt t j).x = a by omega]; simp
/-- The places of two tables where both are known. -/
structure Pl (t u : List Pt) (l : List Int) : Prop where
  rise : Rise l
  dom : ∀ y ∈ l, dLo t u ≤ y ∧ y ≤ dHi t u
  lo : dLo t u ∈ l
  hi : dHi t u ∈ l
  p1 : ∀ j, j < t.length → dLo t u ≤ (pt t j).x → (pt t j).x ≤ dHi t u → (pt t j).x ∈ l
  p2 : ∀ j, j < u.length → dLo t u ≤ (pt u j).x → (pt u j).x ≤ dHi t u → (pt u j).x ∈ l
theorem Pl.of {t u : List Pt} (v : VT t) (v' : VT u) (h : ¬ dLo t u > dHi t u) {ys : List Int} (hm : ∀ y, y ∈ ys ↔ y ∈ ([] : List Int) ∨ ∃ j, 0 ≤ j ∧ j < (t ++ u).length ∧ (pt (t ++ u) j).x = y ∧ dLo t u ≤ y ∧ y ≤ dHi t u) : Pl t u (compL (sortL ys)) := by
  obtain ⟨h1, h2⟩ := sc_rise ys
  have q1 : ∀ j, j < t.length → dLo t u ≤ (pt t j).x → (pt t j).x ≤ dHi t u → (pt t j).x ∈ compL (sortL ys) := fun j hj a b =>
    (h2 _).2 ((hm _).2 (.inr ⟨j, Nat.zero_le _, by simp; omega, by rw [pt_app1 hj], a, b⟩))
  have q2 : ∀ j, j < u.length → dLo t u ≤ (pt u j).x → (pt u j).x ≤ dHi t u → (pt u j).x ∈ compL (sortL ys) := fun j hj a b =>
    (h2 _).2 ((hm _).2 (.inr ⟨t.length + j, Nat.zero_le _, by simp; omega, by rw [pt_app2], a, b⟩))
  have l1 := v.l1
  have l2 := v'.l1
  refine ⟨h1, fun y hy => ?_, ?_, ?_, q1, q2⟩
  · rcases (hm _).1 ((h2 _).1 hy) with k | ⟨j, _, _, _, a, b⟩
    · cases k
    · exact ⟨a, b⟩
  · by_cases k : fstX u > fstX t
    · have e : dLo t u = (pt u 0).x := by unfold dLo; rw [if_pos k]; rfl
      rw [e]; exact q2 0 (by omega) (by omega) (by omega)
    · have e : dLo t u = (pt t 0).x := by unfold dLo; rw [if_neg k]; rfl
      rw [e]; exact q1 0 (by omega) (by omega) (by omega)
  · by_cases k : lstX u < lstX t
    · have e : dHi t u = (pt u (u.length - 1)).x := by unfold dHi; rw [if_pos k]; rfl
      rw [e]; exact q2 _ (by omega) (by omega) (by omega)
    · have e : dHi t u = (pt t (t.length - 1)).x := by unfold dHi; rw [if_neg k]; rfl
      rw [e]; exact q1 _ (by omega) (by omega) (by omega)
theorem Pl.inB {t u : List Pt} {l : List Int} (P : Pl t u l) : ∀ y ∈ l, inB t u y := fun y hy => inB_iff.2 (P.dom y hy)
theorem Pl.all {t u : List Pt} {l : List Int} (P : Pl t u l) : ∀ a ∈ l, ∀ b ∈ l, (∀ y ∈ l, y ≤ a ∨ b ≤ y) → (∀ j, j < t.length → (pt t j).x ≤ a ∨ b ≤ (pt t j).x) ∧ ∀ j, j < u.length → (pt u j).x ≤ a ∨ b ≤ (pt u j).x := fun a ha b hb hn => by
  have da := P.dom a ha
  have db := P.dom b hb
  refine ⟨fun j hj => ?_, fun j hj => ?_⟩
  · by_cases k1 : (pt t j).x < dLo t u
    · omega
    · by_cases k2 : (pt t j).x > dHi t u
      · omega
      · exact hn _ (P.p1 j hj (by omega) (by omega))
  · by_cases k1 : (pt u j).x < dLo t u
    · omega
    · by_cases k2 : (pt u j).x > dHi t u
      · omega
      · exact hn _ (P.p2 j hj (by omega) (by omega))
theorem mk2_VT {t u : List Pt} (v : VT t) {op : Int × Int → Int × Int → Int × Int} {l : List Int} (P : Pl t u l) (h2 : l.length ≤ 40) (hop : ∀ y, inB t u y → (op (atV t y) (atV u y)).1 ≤ (op (atV t y) (atV u y)).2) (hg : ∀ j (h : j < l.length), gd (mk2 op t u l[j])) : VT (l.map (mk2 op t u)) := by
  have fb := fst_bd v
  have h1 : 1 ≤ l.length := by
    rcases Nat.eq_zero_or_pos l.length with e | e
    · have := P.lo; rw [List.length_eq_zero_iff.1 e] at this; cases this
    · exact e
  exact (VT_map (g := mk2 op t u) (fun _ => rfl) P.rise h1 h2 (fun x h => by have := (P.inB x h).1; omega) fun x h => hop x (P.inB x h)).2 hg
theorem F57_res {f : Nat} (hf : 1000 ≤ f) {t u : List Pt} (v : VT t) (v' : VT u) (hd : ¬ dLo t u > dHi t u) :
    (∃ l : List Int, F57 f t u = some (l.map (mk2 opS t u), 0) ∧ VT (l.map (mk2 opS t u)) ∧ Pl t u l) ∨ F57 f t u = some ([], 2) ∨ F57 f t u = some ([], 5) := by
  have h1 := v.l2
  have h2 := v'.l2
  unfold F57
  rw [ok67 (by omega) v, ok67 (by omega) v', Option.bind_some, cond_z, Option.bind_some, cond_z, F117_eq f v, Option.bind_some, F117_eq f v', Option.bind_some, F42_eq f v v', Option.bind_some, if_neg hd]
  obtain ⟨ys, e57, hm, hly⟩ := F57_l1_eq f (t := t) (u := u) (dV v v' hd) (r := t ++ u) (by simp; omega) f 0 [] (Nat.zero_le _) (by simp; omega) (Nat.zero_le _)
  have P := Pl.of v v' hd hm
  rw [show ((0 : Nat) : Int) = 0 from rfl] at e57
  show (∃ l : List Int, F57_j2 f t u 0 (dLo t u) (dHi t u) = some (l.map (mk2 opS t u), 0) ∧ _) ∨ F57_j2 f t u 0 (dLo t u) (dHi t u) = _ ∨ F57_j2 f t u 0 (dLo t u) (dHi t u) = _
  unfold F57_j2
  rw [cond_z, F125_eq (show 50 ≤ f by omega) h1 h2, Option.bind_some, e57, lenC_eq (by simp at hly; omega), Option.bind_some, lenC_eq (by rw [← sortL_len]; simp at hly; omega), Option.bind_some]
  by_cases hl : (compL (sortL ys)).length ≤ 40
  · rw [decide_eq_false (by omega), cond_false]
    have e2 := F57_l2_eq (show 50 ≤ f by omega) v v' (ys := ys) rfl (by omega) P.inB f 0 [] (Nat.zero_le _) (by omega) (Nat.zero_le _)
    rw [show ((0 : Nat) : Int) = 0 from rfl] at e2
    rcases e2 with ⟨g, e⟩ | ⟨_, e⟩
    · left
      refine ⟨compL (sortL ys), by rw [e]; simp, mk2_VT v P hl (fun y i => ?_) fun j h => g j h (Nat.zero_le _), P⟩
      have b1 := atV_bd v i.1.1 i.1.2
      have b2 := atV_bd v' i.2.1 i.2.2
      simp only [opS]; omega
    · right; right; rw [e]
  · rw [decide_eq_true (by omega)]
    exact .inr (.inl rfl)
theorem F59_res {f : Nat} (hf : 1000 ≤ f) {t u : List Pt} (v : VT t) (v' : VT u) (hd : ¬ dLo t u > dHi t u) :
    (∃ l : List Int, F59 f t u = some (l.map (mk2 opH t u), 0) ∧ VT (l.map (mk2 opH t u)) ∧ Pl t u l) ∨ F59 f t u = some ([], 2) := by
  have h1 := v.l2
  have h2 := v'.l2
  unfold F59
  rw [ok67 (by omega) v, ok67 (by omega) v', Option.bind_some, cond_z, Option.bind_some, cond_z, F117_eq f v, Option.bind_some, F117_eq f v', Option.bind_some, F42_eq f v v', Option.bind_some, if_neg hd]
  obtain ⟨ys, e59, hm, hly⟩ := F59_l1_eq f (t := t) (u := u) (dV v v' hd) (r := t ++ u) (by simp; omega) f 0 [] (Nat.zero_le _) (by simp; omega) (Nat.zero_le _)
  have P := Pl.of v v' hd hm
  rw [show ((0 : Nat) : Int) = 0 from rfl] at e59
  show (∃ l : List Int, F59_j2 f t u 0 (dLo t u) (dHi t u) = some (l.map (mk2 opH t u), 0) ∧ _) ∨ F59_j2 f t u 0 (dLo t u) (dHi t u) = _
  unfold F59_j2
  rw [cond_z, F125_eq (show 50 ≤ f by omega) h1 h2, Option.bind_some, e59, lenC_eq (by simp at hly; omega), Option.bind_some, lenC_eq (by rw [← sortL_len]; simp at hly; omega), Option.bind_some]
  by_cases hl : (compL (sortL ys)).length ≤ 40
  · rw [decide_eq_false (by omega), cond_false]
    have e2 := F59_l2_eq (show 50 ≤ f by omega) v v' (ys := ys) rfl (by omega) P.inB f 0 [] (Nat.zero_le _) (by omega) (Nat.zero_le _)
    rw [show ((0 : Nat) : Int) = 0 from rfl] at e2
    have hgd : ∀ y, inB t u y → gd (mk2 opH t u y) ∧ (mk2 opH t u y).lo ≤ (mk2 opH t u y).hi := fun y i => by
      have b1 := atV_bd v i.1.1 i.1.2
      have b2 := atV_bd v' i.2.1 i.2.2
      simp only [gd, mk2, opH]
      refine ⟨⟨by split <;> omega, by split <;> omega⟩, ?_⟩
      split <;> split <;> omega
    rcases e2 with ⟨g, e⟩ | ⟨g, e⟩
    · left
      exact ⟨compL (sortL ys), by rw [e]; simp, mk2_VT v P hl (fun y i => (hgd y i).2) fun j h => g j h (Nat.zero_le _), P⟩
    · exact absurd (fun j h _ => (hgd _ (P.inB _ (List.getElem_mem h))).1) g
  · rw [decide_eq_true (by omega)]
    exact .inr rfl
theorem F61_res {f : Nat} (hf : 50 ≤ f) {t : List Pt} (v : VT t) {n d : Int} (ha : okA n d) :
    ((∀ j, j < t.length → gdS n d (pt t j)) ∧ F61 f t n d = some (t.map (scP n d), 0)) ∨ F61 f t n d = some ([], 5) := by
  have h1 := v.l2
  unfold F61
  rw [ok67 hf v, Option.bind_some, cond_z]
  have e := F61_l1_eq hf v ha f 0 [] (Nat.zero_le _) (by omega) (Nat.zero_le _)
  rw [show ((0 : Nat) : Int) = 0 from rfl] at e
  rcases e with ⟨a, e⟩ | ⟨_, e⟩
  · left; exact ⟨fun j h => a j (Nat.zero_le _) h, by rw [e]; simp⟩
  · right; exact e
theorem F36_eq (f : Nat) (x : Int) : ∃ r, F36 f x = some r ∧ -1000000 ≤ r ∧ r ≤ 1000000 := by
  have h1 := Int.lt_tmod_of_pos x (b := 2000001) (by omega)
  have h2 := Int.tmod_lt_of_pos x (b := 2000001) (by omega)
  have h3 := Int.tmod_nonneg 2000001 (a := Int.tmod x 2000001 + 2000001) (by omega)
  have h4 := Int.tmod_lt_of_pos (Int.tmod x 2000001 + 2000001) (b := 2000001) (by omega)
  unfold F36
  rw [w64_id (n := Int.tmod x 2000001 + 2000001) (by omega) (by omega), w64_id (n := Int.tmod (Int.tmod x 2000001 + 2000001) 2000001 - 1000000) (by omega) (by omega)]
  exact ⟨_, rfl, by omega, by omega⟩
theorem F75_eq (f : Nat) {w n d w' n' d' : Int} (V : ValOk w n d) (V' : ValOk w' n' d') : ∃ a b, F75 f w n d w' n' d' = some (a, b, d * d') ∧ 0 ≤ b ∧ b < d * d' ∧ a * (d * d') + b = (w * d + n) * d' + (w' * d' + n') * d := by
  obtain ⟨d1, d2, n0, n1, w0, w1⟩ := V
  obtain ⟨e1, e2, m0, m1, u0, u1⟩ := V'
  have k1 : 1 ≤ d * d' := Int.mul_pos (by omega : 0 < d) (by omega : 0 < d')
  have k2 := mulB (x := d) (y := d') (m := 1000000) (n := 1000000) (by omega) (by omega)
  have k3 := mulB (x := n) (y := d') (m := 1000000) (n := 1000000) (by omega) (by omega)
  have k4 := mulB (x := n') (y := d) (m := 1000000) (n := 1000000) (by omega) (by omega)
  have k5 : 0 ≤ n * d' := Int.mul_nonneg n0 (by omega)
  have k6 : 0 ≤ n' * d := Int.mul_nonneg m0 (by omega)
  unfold F75
  rw [w64_id (n := d * d') (by omega) (by omega), w64_id (n := n * d') (by omega) (by omega), w64_id (n := n' * d) (by omega) (by omega), w64_id (n := n * d' + n' * d) (by omega) (by omega), nzS (by omega), Option.bind_some, Option.bind_some]
  rw [Int.tdiv_eq_ediv_of_nonneg (by omega), Int.tmod_eq_emod_of_nonneg (by omega)]
  have r0 := Int.emod_nonneg (n * d' + n' * d) (b := d * d') (by omega)
  have r1 := Int.emod_lt_of_pos (n * d' + n' * d) (b := d * d') (by omega)
  have q0 : 0 ≤ (n * d' + n' * d) / (d * d') := Int.ediv_nonneg (by omega) (by omega)
  have q1 : (n * d' + n' * d) / (d * d') ≤ n * d' + n' * d := Int.ediv_le_self _ (by omega)
  have hd := Int.mul_ediv_add_emod (n * d' + n' * d) (d * d')
  rw [w64_id (n := w + w') (by omega) (by omega), w64_id (n := (n * d' + n' * d) / (d * d')) (by omega) (by omega), w64_id (n := w + w' + (n * d' + n' * d) / (d * d')) (by omega) (by omega)]
  refine ⟨_, _, rfl, r0, r1, ?_⟩
  generalize (n * d' + n' * d) / (d * d') = q at *
  generalize (n * d' + n' * d) % (d * d') = r at *
  grind
theorem absDiv1 {x d : Int} (hd : 1 ≤ d) : (x / d).natAbs ≤ x.natAbs := by
  have := Int.natAbs_ediv_le_natAbs x d
  exact this
theorem F72_eq (f : Nat) {lo hi w n d N D : Int} (V : ValOk w n d) (hN0 : -1000 ≤ N) (hN1 : N ≤ 1000) (hD0 : 1 ≤ D) (hD1 : D ≤ 1000) :
    ∃ b a r, F72 f lo hi w n d N D = some b ∧ (b = true ↔ lie lo hi a r) ∧ 0 ≤ r ∧ r < d * D ∧ a * (d * D) + r = N * (w * d + n) := by
  obtain ⟨d1, d2, n0, n1, w0, w1⟩ := V
  have k1 := mulB (x := N) (y := w) (m := 1000) (n := 1000000000) (by omega) (by omega)
  have k2 := absDiv1 (x := N * w) hD0
  have k3 := Int.mul_ediv_add_emod (N * w) D
  have k4 := Int.emod_nonneg (N * w) (b := D) (by omega)
  have k5 := Int.emod_lt_of_pos (N * w) (b := D) (by omega)
  rw [Int.mul_comm D] at k3
  have k6 := mulB (x := N) (y := n) (m := 1000) (n := 1000000) (by omega) (by omega)
  have k7 := mulB (x := N * w - N * w / D * D) (y := d) (m := 1000) (n := 1000000) (by omega) (by omega)
  have k8 := mulB (x := d) (y := D) (m := 1000000) (n := 1000) (by omega) (by omega)
  have k9 : 1 ≤ d * D := Int.mul_pos (by omega : 0 < d) (by omega : 0 < D)
  unfold F72
  rw [w64_id (n := N * w) (by omega) (by omega), F100_eq f hD0 (by omega) (by omega), Option.bind_some]
  rw [w64_id (n := N * w / D * D) (by omega) (by omega), w64_id (n := N * w - N * w / D * D) (by omega) (by omega), w64_id (n := (N * w - N * w / D * D) * d) (by omega) (by omega), w64_id (n := N * n) (by omega) (by omega), w64_id (n := (N * w - N * w / D * D) * d + N * n) (by omega) (by omega), w64_id (n := d * D) (by omega) (by omega)]
  rw [F100_eq f k9 (by omega) (by omega), Option.bind_some]
  have eX : (N * w - N * w / D * D) * d + N * n = N * (w * d + n) - N * w / D * (d * D) := by grind
  generalize hq : N * w / D = q at *
  generalize hX : (N * w - q * D) * d + N * n = X at *
  have j2 := absDiv1 (x := X) k9
  have j3 := Int.mul_ediv_add_emod X (d * D)
  have j4 := Int.emod_nonneg X (b := d * D) (by omega)
  have j5 := Int.emod_lt_of_pos X (b := d * D) (by omega)
  rw [Int.mul_comm (d * D)] at j3
  generalize hp : X / (d * D) = p at *
  have j6 := mulB (x := p) (y := d) (m := 4000000000) (n := 1000000) (by omega) (by omega)
  have j7 : p * d * D = p * (d * D) := Int.mul_assoc ..
  rw [w64_id (n := q + p) (by omega) (by omega), w64_id (n := p * d) (by omega) (by omega), w64_id (n := p * d * D) (by omega) (by omega), w64_id (n := X - p * d * D) (by omega) (by omega)]
  obtain ⟨b, e, hb⟩ := F32_eq f (lo := lo) (hi := hi) (w := q + p) (n := X - p * d * D) (d := d * D) (by omega)
  rw [e]
  refine ⟨b, _, _, rfl, hb, by omega, by omega, ?_⟩
  rw [j7]
  grind
end Go.Proofs.Ytpjmgeajajcceaa
