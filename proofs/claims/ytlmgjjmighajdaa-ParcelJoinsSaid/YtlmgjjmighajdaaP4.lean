/-
  The statement ParcelJoins, of the plain function that its walk computes. No condition.
-/
import Derived.Test.YtlmgjjmighajdaaT4
import Derived.Test.YtlmgjjmighajdaaPK
set_option linter.unusedSimpArgs false
set_option linter.unusedVariables false
namespace Go.Proofs.Ytlmgjjmighajdaa
open Go.Sl Go.Sx
theorem F25_comm {f : Nat} (a b : List Part) (hf : 90 < f) : F25 f b a = F25 f a b := by
  have hm : mergeP a b = mergeP b a := merge_comm _ a b (Nat.le_refl _)
  rcases F25_eq a b hf with ⟨h, e⟩ | ⟨h, e⟩ | ⟨h, e⟩ <;> rcases F25_eq b a hf with ⟨h', e'⟩ | ⟨h', e'⟩ | ⟨h', e'⟩ <;> rw [e, e']
  · rw [hm]
  · exact absurd (hm ▸ h.2.2) h'.2.2
  · exact absurd ⟨h.2.1, h.1⟩ h'
  · exact absurd (hm ▸ h'.2.2) h.2.2
  · exact absurd ⟨h.2.1, h.1⟩ h'
  · exact absurd ⟨h'.2.1, h'.1⟩ h
  · exact absurd ⟨h'.2.1, h'.1⟩ h
theorem F4_true' (a b c : List Part) {p1 p2 p3 p4 p5 p6 : Prop} (_ : p1) (_ : p2) (_ : p3) (_ : p4) (_ : p5) (_ : p6) : ∃ fuel, F4 fuel a b c = some true := by
  refine ⟨200, ?_⟩
  obtain ⟨r2, e2, k2, z2⟩ := F25_ok (f := 200) a b (by omega)
  obtain ⟨r3, e3, k3, z3⟩ := F25_ok (f := 200) r2.1 c (by omega)
  obtain ⟨r4, e4, k4, z4⟩ := F25_ok (f := 200) b c (by omega)
  obtain ⟨r5, e5, k5, z5⟩ := F25_ok (f := 200) a r4.1 (by omega)
  have l2 := k2.1
  have l3 := k3.1
  unfold F4
  rw [sane_true]
  simp only [Option.bind_some, F25_comm a b (f := 200) (by omega), e2, e3, e4, e5, F26_eq (a := r2.1) (b := r2.1) (f := 200) (by omega) (by omega), F26_eq (a := r3.1) (b := r5.1) (f := 200) (by omega) (by omega), decide_true, Bool.not_true, bne_self_eq_false, cond_false, F4_j1, F4_j2, cond_true]
  by_cases h2 : r2.2 = 0
  · by_cases h4 : r4.2 = 0
    · obtain ⟨ha, hb, hab, m2⟩ := z2 h2
      obtain ⟨_, hc, hbc, m4⟩ := z4 h4
      have hass : mergeP r2.1 c = mergeP a r4.1 := by rw [m2, m4]; exact merge_assoc _ a b c (Nat.le_refl _)
      have e35 : r3 = r5 := by
        rcases F25_eq r2.1 c (f := 200) (by omega) with ⟨h, e⟩ | ⟨h, e⟩ | ⟨h, e⟩ <;> rcases F25_eq a r4.1 (f := 200) (by omega) with ⟨h', e'⟩ | ⟨h', e'⟩ | ⟨h', e'⟩ <;> rw [e3] at e <;> rw [e5] at e' <;> simp only [Option.some.injEq] at e e' <;> subst e <;> subst e'
        · rw [hass]
        · exact absurd (hass ▸ h.2.2) h'.2.2
        · exact absurd ⟨ha, k4⟩ h'
        · exact absurd (hass ▸ h'.2.2) h.2.2
        · rfl
        · exact absurd ⟨ha, k4⟩ h'
        · exact absurd ⟨k2, hc⟩ h
        · exact absurd ⟨k2, hc⟩ h
        · rfl
      subst e35
      simp [h2, h4]
    · have : (r4.2 != 0) = true := by simpa using h4
      simp [h2, this]
  · have : (r2.2 != 0) = true := by simpa using h2
    simp [this]
end Go.Proofs.Ytlmgjjmighajdaa
