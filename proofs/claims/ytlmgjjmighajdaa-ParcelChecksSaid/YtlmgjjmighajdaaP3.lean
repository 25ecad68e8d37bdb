/-
  The statement ParcelChecks, of the plain function that its walk computes. No condition.
-/
import Derived.Test.YtlmgjjmighajdaaT3
import Derived.Test.YtlmgjjmighajdaaPD
set_option linter.unusedSimpArgs false
set_option linter.unusedVariables false
namespace Go.Proofs.Ytlmgjjmighajdaa
open Go.Sl Go.Sx
theorem F3_true' (l lots : List Lot) (holds : List (List (List Part))) (k a b c m : Int) {p1 p2 p3 p4 p5 p6 : Prop} (_ : p1) (_ : p2) (_ : p3) (_ : p4) (_ : p5) (h9 : holds.length = 9) (_ : p6) : ∃ fuel, F3 fuel l lots holds k a b c m = some true := by
  refine ⟨200, ?_⟩
  have h1 : F3_j1 200 l lots holds k a b c m true false = some true := by
    unfold F3_j1 F3_j2
    obtain ⟨e1, h19⟩ : ∃ e, F19 200 l = some e := by rcases F19_eq (f := 200) (l := l) (by omega) with ⟨_, h⟩ | ⟨_, h⟩ <;> exact ⟨_, h⟩
    simp only [F20_19, h19, cond_false, cond_true, Option.bind_some, beq_self_eq_true]
    rcases F21_eq (f := 200) h9 (by omega) (lots := lots) with ⟨hs, h21⟩ | ⟨hs, h21⟩
    · rcases F22_eq (f := 200) h9 (by omega) (lots := lots) with ⟨_, h22⟩ | ⟨hn, _⟩
      · obtain ⟨r, h78, h24⟩ := check_eq (f := 200) hs h9 (by omega) k a b c m
        have h23 : F23 200 lots holds k a b c m = some r := by unfold F23; rw [h21]; simp [h78]
        simp [h21, h22, h23, h24 h22]
      · exact absurd hs hn
    · rcases F22_eq (f := 200) h9 (by omega) (lots := lots) with ⟨hn, _⟩ | ⟨_, h22⟩
      · exact absurd hn hs
      · have h23 : F23 200 lots holds k a b c m = some 62 := by unfold F23; rw [h21]; simp
        have h24 : F24 200 lots holds k a b c m = some 62 := by unfold F24; rw [h22]; simp
        simp [h21, h22, h23, h24]
  unfold F3
  rw [sane_true]
  simp only [Option.bind_some]
  by_cases hl : 0 < l.length
  · have h0 : decide ((l.length : Int) > 0) = true := by simpa using hl
    have e0 := getI_nat (xs := l) (i := 0) hl
    have e0' : getI l 0 = some l[0] := e0
    rw [h0, cond_true, e0']
    simp only [Option.bind_some, F18_17]
    rcases F17_eq 200 l[0] with ⟨_, e⟩ | ⟨_, e⟩ <;> rw [e] <;> simpa using h1
  · have h0 : decide ((l.length : Int) > 0) = false := by simpa using (show (l.length : Int) ≤ 0 by omega)
    rw [h0, cond_false]
    exact h1
end Go.Proofs.Ytlmgjjmighajdaa
