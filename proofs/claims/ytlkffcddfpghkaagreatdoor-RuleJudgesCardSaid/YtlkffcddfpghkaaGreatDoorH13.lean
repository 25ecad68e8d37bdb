/-
  The statement RuleJudges holds of the program, with what it lists of Go's own variables tied to the program's text. No condition.
-/
import Derived.Test.YtlkffcddfpghkaaGreatDoorRN13
import Derived.Test.YtlkffcddfpghkaaGreatDoorLo
import Derived.SevenTiedAt
import Derived.Test.YtlkffcddfpghkaaGreatDoorTie
import Derived.Test.YtlkffcddfpghkaaGreatDoorCards
set_option linter.unusedVariables false
namespace Go.Proofs.YtlkffcddfpghkaaGreatDoor
open Go.Sl Go.Sx Go.RowKit Go.ChangeShapes Go.K
theorem own : ownKnob Tryz.prog.godebug = none := by kernel_rfl
theorem lays : laidOutB Tryz.prog = true := by kernel_rfl
theorem fv : Valid (envT Tryz.prog 0) Tryz.prog 13 _ [aB] (F13x Tryz.prog LF) := fnF_valid mixedT kc45x 13 _ _ LF
theorem of_laid {W : World} (h : laidMetH Tryz.prog Rows.ruleJudgesRow.laid W) : Lib.TabIs Tryz.prog W "internal/strconv.uint64pow10" .u64 Lib.pow10Tab := by
  rw [MakeChecks.laidMetH_plain _ _ _ (by kernel_rfl)] at h
  obtain ⟨ps, ⟨g0, t0, cs0, f0, p0, q0, _, _, _, _, ⟨g1, t1, cs1, f1, p1, q1, _, _, _, _, ⟨g2, t2, cs2, f2, p2, q2, hg2, ht2, hv2, hd2, _, _⟩, _⟩, _⟩, _, _⟩ := h
  obtain rfl := Option.some.inj ((show Tryz.prog.globalNamed "internal/strconv.uint64pow10" = some 1 by kernel_rfl).symm.trans hg2)
  obtain rfl := Option.some.inj ((show (Tryz.prog.globals[1]?).map (·.type) = some 318 by kernel_rfl).symm.trans ht2)
  unfold Lib.TabIs
  rw [hv2, ← Lib.cells_of_tab (n := 20) (e := 279) Tryz.underlying318 Tryz.underlying279 (by kernel_rfl) (by kernel_rfl) hd2]
set_option maxHeartbeats 32000000 in
set_option maxRecDepth 100000 in
theorem lifted (os : Os) (started : os.Started) (H : Type) (enc : TypeId × Value → H) :
    ReturnsInHanded {} Tryz.checked os 13 .any (fun w args => (Rows.ruleJudgesSpec.pre enc Tryz.prog Tryz.f13 [] false w args ∧ laidMetH Tryz.prog Rows.ruleJudgesRow.laid w) ∧ sizedMet enc Tryz.prog Tryz.f13 (OpenSpec.ofChange Rows.ruleJudgesSpec) false w args)
      (Rows.ruleJudgesSpec.post enc Tryz.prog Tryz.f13 false true false false) := by
  refine returns_and_shaped (C := Tryz.checked) (X := fun w _ => laidMetH Tryz.prog Rows.ruleJudgesRow.laid w) (fun _ _ _ hh h => h.of_heap hh) own started (by kernel_rfl) Tryz.func13
    (ChangeSpec.witness_shaped (enc := enc) (C := Tryz.checked) (os := os) (X := fun w _ => laidMetH Tryz.prog Rows.ruleJudgesRow.laid w) false (World.laidAll Tryz.prog os Rows.ruleJudgesRow.laid) #[.agg #[.string ByteArray.empty, .slice none 0 0, .slice none 0 0], .agg #[.int .i64 0, .int .i64 0, .slice none 0 0, .string ByteArray.empty], .agg #[.slice none 0 0]] 8 (World.laidAll_os _ _ _)
      (World.shaped_of_ZipB (by kernel_rfl) (by kernel_rfl)) (by kernel_rfl) (by kernel_rfl) (by kernel_rfl)
      (by rw [MakeChecks.laidMetH_plain _ _ _ (by kernel_rfl)]; exact laidMet_laidAll _ (by kernel_rfl) (by kernel_rfl))) ?_
  intro W base args ds gs before hval hW hL hsh
  have hW' := hW
  obtain ⟨p, q, hA, hV, rfl, _, _⟩ := hW
  obtain ⟨rfl, rfl⟩ := trodVars_none hV
  have hp : Tryz.f13.params.toList = [36, 38, 24] := by kernel_rfl
  rw [hp] at hA
  obtain ⟨v0, v1, v2, d0, d1, d2, p0, p1, p2, rfl, rfl, rfl, h0, h1, h2⟩ := trodAll_three hA
  obtain ⟨x0, r0⟩ := oA (u := (.pair .str (.pair (.sl (.pair .str (.pair .i .i))) (.sl Yq)))) (by kernel_rfl) (by kernel_rfl) (hval 0 36 v0 rfl rfl) h0
  obtain ⟨x1, r1⟩ := oA (u := (.pair .i (.pair .i (.pair (.sl (.pair .str (.pair .i .i))) .str)))) (by kernel_rfl) (by kernel_rfl) (hval 1 38 v1 rfl rfl) h1
  obtain ⟨x2, r2⟩ := oA (u := (.sl Yp)) (by kernel_rfl) (by kernel_rfl) (hval 2 24 v2 rfl rfl) h2
  have hE := env_of (of_laid hL) (cell_of_shapedOpen_int hsh (g := 0) (t := 3) (zero := #[.int .i64 0]) (by show 0 < Tryz.prog.globals.size; rw [show Tryz.prog.globals.size = 8 by kernel_rfl]; decide) (by kernel_rfl) rfl (by kernel_rfl) (by kernel_rfl) Tryz.underlying3)
  refine (fv (x := (x0, (x1, x2))) ((F13x_G LF _).trans (G13_true ..)) (z := Zone.all W) (L := []) (w := W) (vs := [_, _, _]) hE ⟨_, _, rfl, r0, _, _, rfl, r1, _, rfl, r2⟩ (St.all W)).mono fun e W' ⟨v, h', he, hle, hv, hs⟩ => ?_
  obtain ⟨vs, rfl, v, rfl, hv⟩ := hv
  have hv' : [v] = [Value.bool true] := rep1 hv
  obtain rfl : v = .bool true := by simpa using hv'
  subst he
  exact ⟨_, rfl, post_true (tb := 4) lays rfl (by kernel_rfl) (by kernel_rfl) (by kernel_rfl) hW' (hs.below hle (hs.size hle)) rfl⟩
theorem andT {a b : Bool} (h : a = true) (k : b = true) : (a && b) = true := by rw [h, k]; rfl
set_option maxHeartbeats 32000000 in
set_option maxRecDepth 100000 in
theorem closed : joinedFacts Tryz.pinned.checked.prog 13 Tryz.f13 Rows.ruleJudgesSpec Rows.ruleJudgesRow = true := by
  simp only [joinedFacts, Bool.and_eq_true]
  repeat' apply And.intro
  all_goals (as_aux_lemma => kernel_rfl)
theorem named : Tryz.pinned.checked.prog.funcNamed Rows.ruleJudgesRow.func = some 13 := by kernel_rfl
theorem inst : Tryz.f13.isInstance Tryz.pinned.checked.prog Rows.ruleJudgesRow.origin Rows.ruleJudgesRow.targs := of_decide_eq_true (by kernel_rfl)
set_option maxHeartbeats 32000000 in
theorem ruleJudges_said : Rows.RuleJudgesSaid :=
  OpenClaim.holds_of_wide 13 Tryz.f13 rfl rfl rfl rfl rfl rfl rfl ⟨rfl, rfl, rfl, rfl, rfl⟩ rfl rfl rfl rfl rfl named Tryz.func13 closed
    inst (by unfold Func.isWrapper; first | (rw [if_pos (by decide +kernel)]; kernel_rfl) | (rw [if_neg (by decide +kernel)]; exact ⟨rfl, rfl⟩))
    (fun os started H enc _ => lifted os started H enc)
set_option maxHeartbeats 32000000 in
theorem ruleJudges_holds : Rows.RuleJudgesCardSaid :=
  Claim7.holds_tied_plain_at .later [] [.data, .data, .data, .data, .sentinel, .sentinel, .pinned] true (true, "998248dde1d338c0992a2e89ccae146aa88736c49a9185abe4d1927c8a172670") true
    ruleJudges_said (fun _ h => by cases h) (by as_aux_lemma => kernel_rfl) (fun _ h => by cases h) ruleJudges_row_tie rfl ⟨rfl, rfl⟩ (by as_aux_lemma => kernel_rfl) rfl
    (fun f fn hf hfn => by
      obtain rfl : f = 13 := Option.some.inj ((show Tryz.prog.funcNamed "ullage/ullagelaw04.RuleJudges" = some 13 by kernel_rfl).symm.trans hf) |>.symm
      obtain rfl : fn = Tryz.f13 := (Option.some.inj (Tryz.func13.symm.trans hfn)).symm
      exact ⟨by as_aux_lemma => kernel_rfl, fun j t ht => by
        rw [Tryz.params13] at ht
        have hm : t ∈ [36, 38, 24] := by simpa using Array.mem_of_getElem? ht
        have hall : ([36, 38, 24].all fun u => !Tryz.prog.wantsStandIn u) = true := by kernel_rfl
        exact (show Tryz.prog.wantsStandIn t = false by simpa using List.all_eq_true.1 hall t hm)⟩)
    (by as_aux_lemma => kernel_rfl)
#print axioms ruleJudges_holds
end Go.Proofs.YtlkffcddfpghkaaGreatDoor
