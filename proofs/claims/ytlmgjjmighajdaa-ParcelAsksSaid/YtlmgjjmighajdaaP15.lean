/-
  The statement ParcelAsks, of the plain function that its walk computes. No condition.
-/
import Derived.Test.YtlmgjjmighajdaaQF
set_option linter.unusedSimpArgs false
set_option linter.unusedVariables false
namespace Go.Proofs.Ytlmgjjmighajdaa
open Go.Sl Go.Sx
theorem F54_58 {lots : List Lot} {holds : List (List (List Part))} (h9 : holds.length = 9) (who : Int) : ∃ r, F54 200 lots holds who = some r ∧ F58 200 lots holds who = some r ∧ r.1.length ≤ 9 := by
  obtain ⟨a1, a2, a3⟩ := F54_eq (f := 200) (lots := lots) h9 who (by omega)
  obtain ⟨b1, b2, b3⟩ := F58_eq (f := 200) (lots := lots) h9 who (by omega)
  by_cases hs : StockOk lots holds
  · by_cases hw : 1 ≤ who ∧ who ≤ 9
    · exact ⟨_, a1 hs hw, b1 hs hw, by simp [h9]⟩
    · exact ⟨_, a2 hs hw, b2 hs hw, by simp⟩
  · exact ⟨_, a3 hs, b3 hs, by simp⟩
theorem F55_57 {lots : List Lot} {holds : List (List (List Part))} (h9 : holds.length = 9) (who : Int) : ∃ r, F55 200 lots holds who = some r ∧ F57 200 lots holds who = some r ∧ r.1.length ≤ 9 := by
  obtain ⟨b1, b2, b3⟩ := F57_eq (f := 200) (lots := lots) h9 who (by omega)
  rcases F55_eq (f := 200) (lots := lots) h9 who (by omega) with ⟨hs, hw, e⟩ | ⟨hs, hw, e⟩ | ⟨hs, e⟩
  · exact ⟨_, e, b1 hs hw, by simp [h9]⟩
  · exact ⟨_, e, b2 hs hw, by simp⟩
  · exact ⟨_, e, b3 hs, by simp⟩
theorem F65_66 {lots : List Lot} {holds : List (List (List Part))} (h9 : holds.length = 9) : ∃ r, F65 200 lots holds = some r ∧ F66 200 lots holds = some r ∧ r.1.length ≤ 9 := by
  obtain ⟨a1, a2⟩ := F65_eq (f := 200) (lots := lots) h9 (by omega)
  obtain ⟨b1, b2⟩ := F66_eq (f := 200) (lots := lots) h9 (by omega)
  by_cases hs : StockOk lots holds
  · exact ⟨_, a1 hs, b1 hs, by simpa using pures_len lots holds 9⟩
  · exact ⟨_, a2 hs, b2 hs, by simp⟩
theorem F15_true {lots : List Lot} {holds : List (List (List Part))} (h9 : holds.length = 9) (a b c : Int) : F15 200 lots holds a b c = some true := by
  obtain ⟨r1, x1, y1, l1⟩ := F55_57 (lots := lots) h9 a
  obtain ⟨r2, x2, y2, l2⟩ := F54_58 (lots := lots) h9 a
  obtain ⟨r3, x3, y3⟩ := F59_60 (f := 200) (lots := lots) h9 b c (by omega)
  obtain ⟨r4, x4, y4⟩ := F61_62 (f := 200) (lots := lots) h9 b (by omega)
  obtain ⟨r5, x5, y5, l5⟩ := F63_64 (f := 200) (lots := lots) h9 b (by omega)
  obtain ⟨r6, x6, y6, l6⟩ := F65_66 (lots := lots) h9
  obtain ⟨r7, x7, y7⟩ := F42_67 (f := 200) (lots := lots) h9 b (by omega)
  unfold F15
  simp only [sane_true, x1, y1, x2, y2, x3, y3, x4, y4, x5, y5, x6, y6, x7, y7, Option.bind_some, F68_same (f := 200) (l := r1.1) (by omega) (by omega), F68_same (f := 200) (l := r2.1) (by omega) (by omega),
    F68_same (f := 200) (l := r5.1) (by omega) (by omega), F68_same (f := 200) (l := r6.1) (by omega) (by omega), cond_true, beq_self_eq_true, Bool.and_self, F15_j1]
theorem F15_true' (lots : List Lot) (holds : List (List (List Part))) (a b c : Int) {p1 p2 p3 p4 : Prop} (_ : p1) (_ : p2) (_ : p3) (h9 : holds.length = 9) (_ : p4) : ∃ fuel, F15 fuel lots holds a b c = some true := ⟨200, F15_true h9 a b c⟩
end Go.Proofs.Ytlmgjjmighajdaa
