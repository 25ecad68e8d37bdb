/-
 The statement ParcelPrints holds of the program, with what it lists of Go's own variables tied to the program's text. No condition.
-/
import Derived.Test.YtpooahfamelfnaaGreatDoorDat
import Derived.Test.YtpooahfamelfnaaGreatDoorLo
import Derived.SevenTiedAt
import Derived.Test.YtpooahfamelfnaaGreatDoorTie
import Derived.Test.YtpooahfamelfnaaGreatDoorCards
set_option linter.unusedVariables false
namespace Go.Proofs.YtpooahfamelfnaaGreatDoor
open Go.Sl Go.Sx Go.RowKit Go.ChangeShapes Go.K
theorem own : ownKnob Tryz.prog.godebug = none := by kernel_rfl
theorem lays : laidOutB Tryz.prog = true := by kernel_rfl
theorem fv : Valid (envT Tryz.prog 0) Tryz.prog 4 _ [aB] (F4 Tryz.prog LF) := fnF_valid mixedT kc10 4 _ _ LF
theorem of_laid {W : World} (h : laidMetH Tryz.prog Rows.parcelPrintsRow.laid W) : Lib.TabIs Tryz.prog W "internal/strconv.uint64pow10" .u64 Lib.pow10Tab := by
 rw [MakeChecks.laidMetH_plain _ _ _ (by kernel_rfl)] at h
 obtain ⟨ps, ⟨g0, t0, cs0, f0, p0, q0, _, _, _, _, ⟨g1, t1, cs1, f1, p1, q1, _, _, _, _, ⟨g2, t2, cs2, f2, p2, q2, hg2, ht2, hv2, hd2, _, _⟩, _⟩, _⟩, _, _⟩ := h
 obtain rfl := Option.some.inj ((show Tryz.prog.globalNamed "internal/strconv.uint64pow10" = some 5 by kernel_rfl).symm.trans hg2)
 obtain rfl := Option.some.inj ((show (Tryz.prog.globals[5]?).map (·.type) = some 200 by kernel_rfl).symm.trans ht2)
 unfold Lib.TabIs
 rw [hv2, ← Lib.cells_of_tab (n := 20) (e := 167) Tryz.underlying200 Tryz.underlying167 (by kernel_rfl) (by kernel_rfl) hd2]
set_option maxHeartbeats 32000000 in
set_option maxRecDepth 100000 in
theorem lifted (os : Os) (started : os.Started) (H : Type) (enc : TypeId × Value → H) :
  ReturnsInHanded {} Tryz.checked os 4 .any (fun w args => (Rows.parcelPrintsSpec.pre enc Tryz.prog Tryz.f4 [] false w args ∧ laidMetH Tryz.prog Rows.parcelPrintsRow.laid w) ∧ sizedMet enc Tryz.prog Tryz.f4 (OpenSpec.ofChange Rows.parcelPrintsSpec) false w args)
   (Rows.parcelPrintsSpec.post enc Tryz.prog Tryz.f4 false true false false) := by
 refine returns_and_shaped (C := Tryz.checked) (X := fun w _ => laidMetH Tryz.prog Rows.parcelPrintsRow.laid w) (fun _ _ _ hh h => h.of_heap hh) own started (by kernel_rfl) Tryz.func4
  (ChangeSpec.witness_shaped (enc := enc) (C := Tryz.checked) (os := os) (X := fun w _ => laidMetH Tryz.prog Rows.parcelPrintsRow.laid w) false (World.laidAll Tryz.prog os Rows.parcelPrintsRow.laid) #[.agg #[.slice none 0 0, .slice none 0 0, .slice none 0 0, .slice none 0 0, .slice none 0 0, .slice none 0 0, .slice none 0 0, .slice none 0 0, .slice none 0 0, .slice none 0 0]] 8 (World.laidAll_os _ _ _)
   (World.shaped_of_ZipB (by kernel_rfl) (by kernel_rfl)) (by kernel_rfl) (by kernel_rfl) (by kernel_rfl)
   (by rw [MakeChecks.laidMetH_plain _ _ _ (by kernel_rfl)]; exact laidMet_laidAll _ (by kernel_rfl) (by kernel_rfl))) ?_
 intro W base args ds gs before hval hW hL hsh
 have hW' := hW
 obtain ⟨p, q, hA, hV, rfl, _, _⟩ := hW
 obtain ⟨rfl, rfl⟩ := trodVars_none hV
 have hp : Tryz.f4.params.toList = [27] := by kernel_rfl
 rw [hp] at hA
 obtain ⟨v0, d0, rfl, rfl, h0⟩ := trodAll_one hA
 obtain ⟨x0, r0⟩ := oA (u := Yu) (by kernel_rfl) (by kernel_rfl) (hval 0 27 v0 rfl rfl) h0
 have hE := env_of (of_laid hL) (cell_of_shapedOpen_int hsh (g := 0) (t := 3) (zero := #[.int .i64 0]) (by show 0 < Tryz.prog.globals.size; rw [show Tryz.prog.globals.size = 8 by kernel_rfl]; decide) (by kernel_rfl) rfl (by kernel_rfl) (by kernel_rfl) Tryz.underlying3)
 refine (fv (x := x0) ((F4_G LF _).trans (G4_true ..)) (z := Zone.all W) (L := []) (w := W) (vs := [_]) hE ⟨_, rfl, r0⟩ (St.all W)).mono fun e W' ⟨v, h', he, hle, hv, hs⟩ => ?_
 obtain ⟨vs, rfl, v, rfl, hv⟩ := hv
 have hv' : [v] = [Value.bool true] := rep1 hv
 obtain rfl : v = .bool true := by simpa using hv'
 subst he
 exact ⟨_, rfl, post_true (tb := 4) lays rfl (by kernel_rfl) (by kernel_rfl) (by kernel_rfl) hW' (hs.below hle (hs.size hle)) rfl⟩
theorem andT {a b : Bool} (h : a = true) (k : b = true) : (a && b) = true := by rw [h, k]; rfl
set_option maxHeartbeats 32000000 in
set_option maxRecDepth 100000 in
theorem closed : joinedFacts Tryz.pinned.checked.prog 4 Tryz.f4 Rows.parcelPrintsSpec Rows.parcelPrintsRow = true := by
 simp only [joinedFacts, za]
 repeat' apply And.intro
 all_goals (as_aux_lemma => kernel_rfl)
theorem named : Tryz.pinned.checked.prog.funcNamed Rows.parcelPrintsRow.func = some 4 := by kernel_rfl
theorem inst : Tryz.f4.isInstance Tryz.pinned.checked.prog Rows.parcelPrintsRow.origin Rows.parcelPrintsRow.targs := of_decide_eq_true (by kernel_rfl)
set_option maxHeartbeats 32000000 in
theorem parcelPrints_said : Rows.ParcelPrintsSaid :=
 OpenClaim.holds_of_wide 4 Tryz.f4 rfl rfl rfl rfl rfl rfl rfl ⟨rfl, rfl, rfl, rfl, rfl⟩ rfl rfl rfl rfl rfl named Tryz.func4 closed
  inst (by unfold Func.isWrapper; first | (rw [if_pos (by decide +kernel)]; kernel_rfl) | (rw [if_neg (by decide +kernel)]; exact ⟨rfl, rfl⟩))
  (fun os started H enc _ => lifted os started H enc)
set_option maxHeartbeats 32000000 in
theorem parcelPrints_holds : Rows.ParcelPrintsCardSaid :=
 Claim7.holds_tied_plain_at .later [] [.data, .data, .data, .data, .sentinel, .sentinel, .pinned] true (true, "7b498e789d6f11d4e22ede464f274d6a7ace32d15f459a1582b7c25788348322") true
  parcelPrints_said (fun _ h => by cases h) (by as_aux_lemma => kernel_rfl) (fun _ h => by cases h) parcelPrints_row_tie rfl ⟨rfl, rfl⟩ (by as_aux_lemma => kernel_rfl) rfl
  (fun f fn hf hfn => by
   obtain rfl : f = 4 := Option.some.inj ((show Tryz.prog.funcNamed "ullage/ullagelaw06.ParcelPrints" = some 4 by kernel_rfl).symm.trans hf) |>.symm
   obtain rfl : fn = Tryz.f4 := (Option.some.inj (Tryz.func4.symm.trans hfn)).symm
   exact ⟨by as_aux_lemma => kernel_rfl, fun j t ht => by
    rw [Tryz.params4] at ht
    have hm : t ∈ [27] := by simpa using Array.mem_of_getElem? ht
    have hall : ([27].all fun u => !Tryz.prog.wantsStandIn u) = true := by kernel_rfl
    exact (show Tryz.prog.wantsStandIn t = false by simpa using List.all_eq_true.1 hall t hm)⟩)
  (by as_aux_lemma => kernel_rfl)
#print axioms parcelPrints_holds
end Go.Proofs.YtpooahfamelfnaaGreatDoor
