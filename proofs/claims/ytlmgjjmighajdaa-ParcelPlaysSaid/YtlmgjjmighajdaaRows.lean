/-
  No cell of these rows narrows 'for every input' (looked for: loops, veiled, ifaces, maps, wideKeys, modest, calm, conditions, laid).
  DERIVED. THE GIVEN ROWS OF THIS SEAT. 13 by the template 'for every input the law returns true; each argument reads behind the call as it read before'; 0 by the template 'total and deterministic' (their statements: YtlmgjjmighajdaaTotals.lean).
  GIVEN WITH THE SEED: the statements are not yours to turn. If you find one false, say at which input.
  Laid BY PROGRAM, IN A SANDBOX (cutbox-rows.mjs): the forced cells as the released guide's own fill.sh prints them over the translation 374e9b3a0b49eba4… (all of the seat's roots in one cut). By AI agents, Wed Nov 11 2026. No macro, syntax, notation, axiom, sorry.
-/
import Derived.Test.YtlmgjjmighajdaaChecked
import GoSem.Claim
import GoSem.ClaimJoined
import GoSem.ClaimMapViews
import Derived.JoinedTies
import Derived.KernelRfl
namespace Go.Proofs.Ytlmgjjmighajdaa
/- THE CELL 'sum', in the pinned program and in every row, IS THE sha256 OF THE DUMP (.gsa) THAT YtlmgjjmighajdaaProg.lean LOADS. Nothing in Lean hashes anything: it is a label: what it is worth is what the hold of that sum in a sandbox is worth. -/
noncomputable def Try.pinned : Pinned := { name := "ytlmgjjmighajdaa", sum := "374e9b3a0b49eba423ce1839b24c77b76e2c0829bfcedd22540ad9eb4071aa1d", checked := Try.checked }
namespace Rows
def none {H : Type} : Left H := { results := [], args := [] }

/-- 'ullagelaw06.ParcelChecks': WHATEVER THE INPUT: true; the input reads as it did. -/
def parcelChecksSpec : ChangeSpec := { name := "parcelChecks", fn := fun _ => fun
  | [d1, d2, d3] => { results := [.lit (.bool true)], args := [d1, d2, d3] }
  | _ => none }
def parcelChecksRow : OpenClaim := { program := "ytlmgjjmighajdaa", sum := "374e9b3a0b49eba423ce1839b24c77b76e2c0829bfcedd22540ad9eb4071aa1d", func := "ullage/ullagelaw06.ParcelChecks", spec := "parcelChecks", unfollowed := true, recurses := true, apart := false }
def ParcelChecksSaid : Prop := parcelChecksRow.holds Try.pinned (OpenSpec.ofChange parcelChecksSpec)

/-- ITS FALSE NEIGHBOUR: 'it returns false'. Refute it at one input. -/
def parcelChecksWrong : ChangeSpec := { name := "parcelChecks", fn := fun _ => fun
  | [d1, d2, d3] => { results := [.lit (.bool false)], args := [d1, d2, d3] }
  | _ => none }
def ParcelChecksWrongFalsely : Prop := parcelChecksRow.holds Try.pinned (OpenSpec.ofChange parcelChecksWrong)

/-- 'ullagelaw06.ParcelJoins': WHATEVER THE INPUT: true; the input reads as it did. -/
def parcelJoinsSpec : ChangeSpec := { name := "parcelJoins", fn := fun _ => fun
  | [d1, d2, d3] => { results := [.lit (.bool true)], args := [d1, d2, d3] }
  | _ => none }
def parcelJoinsRow : OpenClaim := { program := "ytlmgjjmighajdaa", sum := "374e9b3a0b49eba423ce1839b24c77b76e2c0829bfcedd22540ad9eb4071aa1d", func := "ullage/ullagelaw06.ParcelJoins", spec := "parcelJoins", unfollowed := true, recurses := true, apart := false }
def ParcelJoinsSaid : Prop := parcelJoinsRow.holds Try.pinned (OpenSpec.ofChange parcelJoinsSpec)

/-- ITS FALSE NEIGHBOUR: 'it returns false'. Refute it at one input. -/
def parcelJoinsWrong : ChangeSpec := { name := "parcelJoins", fn := fun _ => fun
  | [d1, d2, d3] => { results := [.lit (.bool false)], args := [d1, d2, d3] }
  | _ => none }
def ParcelJoinsWrongFalsely : Prop := parcelJoinsRow.holds Try.pinned (OpenSpec.ofChange parcelJoinsWrong)

/-- 'ullagelaw06.ParcelDoes': WHATEVER THE INPUT: true; the input reads as it did. -/
def parcelDoesSpec : ChangeSpec := { name := "parcelDoes", fn := fun _ => fun
  | [d1, d2] => { results := [.lit (.bool true)], args := [d1, d2] }
  | _ => none }
def parcelDoesRow : OpenClaim := { program := "ytlmgjjmighajdaa", sum := "374e9b3a0b49eba423ce1839b24c77b76e2c0829bfcedd22540ad9eb4071aa1d", func := "ullage/ullagelaw06.ParcelDoes", spec := "parcelDoes", unfollowed := true, recurses := true, apart := false }
def ParcelDoesSaid : Prop := parcelDoesRow.holds Try.pinned (OpenSpec.ofChange parcelDoesSpec)

/-- ITS FALSE NEIGHBOUR: 'it returns false'. Refute it at one input. -/
def parcelDoesWrong : ChangeSpec := { name := "parcelDoes", fn := fun _ => fun
  | [d1, d2] => { results := [.lit (.bool false)], args := [d1, d2] }
  | _ => none }
def ParcelDoesWrongFalsely : Prop := parcelDoesRow.holds Try.pinned (OpenSpec.ofChange parcelDoesWrong)

/-- 'ullagelaw06.ParcelSplits': WHATEVER THE INPUT: true; the input reads as it did. -/
def parcelSplitsSpec : ChangeSpec := { name := "parcelSplits", fn := fun _ => fun
  | [d1, d2, d3] => { results := [.lit (.bool true)], args := [d1, d2, d3] }
  | _ => none }
def parcelSplitsRow : OpenClaim := { program := "ytlmgjjmighajdaa", sum := "374e9b3a0b49eba423ce1839b24c77b76e2c0829bfcedd22540ad9eb4071aa1d", func := "ullage/ullagelaw06.ParcelSplits", spec := "parcelSplits", unfollowed := true, recurses := true, apart := false }
def ParcelSplitsSaid : Prop := parcelSplitsRow.holds Try.pinned (OpenSpec.ofChange parcelSplitsSpec)

/-- ITS FALSE NEIGHBOUR: 'it returns false'. Refute it at one input. -/
def parcelSplitsWrong : ChangeSpec := { name := "parcelSplits", fn := fun _ => fun
  | [d1, d2, d3] => { results := [.lit (.bool false)], args := [d1, d2, d3] }
  | _ => none }
def ParcelSplitsWrongFalsely : Prop := parcelSplitsRow.holds Try.pinned (OpenSpec.ofChange parcelSplitsWrong)

/-- 'ullagelaw06.ParcelFair': WHATEVER THE INPUT: true; the input reads as it did. -/
def parcelFairSpec : ChangeSpec := { name := "parcelFair", fn := fun _ => fun
  | [d1, d2] => { results := [.lit (.bool true)], args := [d1, d2] }
  | _ => none }
def parcelFairRow : OpenClaim := { program := "ytlmgjjmighajdaa", sum := "374e9b3a0b49eba423ce1839b24c77b76e2c0829bfcedd22540ad9eb4071aa1d", func := "ullage/ullagelaw06.ParcelFair", spec := "parcelFair", unfollowed := true, recurses := true, apart := false }
def ParcelFairSaid : Prop := parcelFairRow.holds Try.pinned (OpenSpec.ofChange parcelFairSpec)

/-- ITS FALSE NEIGHBOUR: 'it returns false'. Refute it at one input. -/
def parcelFairWrong : ChangeSpec := { name := "parcelFair", fn := fun _ => fun
  | [d1, d2] => { results := [.lit (.bool false)], args := [d1, d2] }
  | _ => none }
def ParcelFairWrongFalsely : Prop := parcelFairRow.holds Try.pinned (OpenSpec.ofChange parcelFairWrong)

/-- 'ullagelaw06.ParcelApart': WHATEVER THE INPUT: true; the input reads as it did. -/
def parcelApartSpec : ChangeSpec := { name := "parcelApart", fn := fun _ => fun
  | [d1, d2, d3] => { results := [.lit (.bool true)], args := [d1, d2, d3] }
  | _ => none }
def parcelApartRow : OpenClaim := { program := "ytlmgjjmighajdaa", sum := "374e9b3a0b49eba423ce1839b24c77b76e2c0829bfcedd22540ad9eb4071aa1d", func := "ullage/ullagelaw06.ParcelApart", spec := "parcelApart", unfollowed := true, recurses := true, apart := false }
def ParcelApartSaid : Prop := parcelApartRow.holds Try.pinned (OpenSpec.ofChange parcelApartSpec)

/-- ITS FALSE NEIGHBOUR: 'it returns false'. Refute it at one input. -/
def parcelApartWrong : ChangeSpec := { name := "parcelApart", fn := fun _ => fun
  | [d1, d2, d3] => { results := [.lit (.bool false)], args := [d1, d2, d3] }
  | _ => none }
def ParcelApartWrongFalsely : Prop := parcelApartRow.holds Try.pinned (OpenSpec.ofChange parcelApartWrong)

/-- 'ullagelaw06.ParcelMasses': WHATEVER THE INPUT: true; the input reads as it did. -/
def parcelMassesSpec : ChangeSpec := { name := "parcelMasses", fn := fun _ => fun
  | [d] => { results := [.lit (.bool true)], args := [d] }
  | _ => none }
def parcelMassesRow : OpenClaim := { program := "ytlmgjjmighajdaa", sum := "374e9b3a0b49eba423ce1839b24c77b76e2c0829bfcedd22540ad9eb4071aa1d", func := "ullage/ullagelaw06.ParcelMasses", spec := "parcelMasses", unfollowed := true, recurses := true, apart := false }
def ParcelMassesSaid : Prop := parcelMassesRow.holds Try.pinned (OpenSpec.ofChange parcelMassesSpec)

/-- ITS FALSE NEIGHBOUR: 'it returns false'. Refute it at one input. -/
def parcelMassesWrong : ChangeSpec := { name := "parcelMasses", fn := fun _ => fun
  | [d] => { results := [.lit (.bool false)], args := [d] }
  | _ => none }
def ParcelMassesWrongFalsely : Prop := parcelMassesRow.holds Try.pinned (OpenSpec.ofChange parcelMassesWrong)

/-- 'ullagelaw06.ParcelPlays': WHATEVER THE INPUT: true; the input reads as it did. -/
def parcelPlaysSpec : ChangeSpec := { name := "parcelPlays", fn := fun _ => fun
  | [d] => { results := [.lit (.bool true)], args := [d] }
  | _ => none }
def parcelPlaysRow : OpenClaim := { program := "ytlmgjjmighajdaa", sum := "374e9b3a0b49eba423ce1839b24c77b76e2c0829bfcedd22540ad9eb4071aa1d", func := "ullage/ullagelaw06.ParcelPlays", spec := "parcelPlays", unfollowed := true, recurses := true, apart := false }
def ParcelPlaysSaid : Prop := parcelPlaysRow.holds Try.pinned (OpenSpec.ofChange parcelPlaysSpec)

/-- ITS FALSE NEIGHBOUR: 'it returns false'. Refute it at one input. -/
def parcelPlaysWrong : ChangeSpec := { name := "parcelPlays", fn := fun _ => fun
  | [d] => { results := [.lit (.bool false)], args := [d] }
  | _ => none }
def ParcelPlaysWrongFalsely : Prop := parcelPlaysRow.holds Try.pinned (OpenSpec.ofChange parcelPlaysWrong)

/-- 'ullagelaw06.ParcelEven': WHATEVER THE INPUT: true; the input reads as it did. -/
def parcelEvenSpec : ChangeSpec := { name := "parcelEven", fn := fun _ => fun
  | [d] => { results := [.lit (.bool true)], args := [d] }
  | _ => none }
def parcelEvenRow : OpenClaim := { program := "ytlmgjjmighajdaa", sum := "374e9b3a0b49eba423ce1839b24c77b76e2c0829bfcedd22540ad9eb4071aa1d", func := "ullage/ullagelaw06.ParcelEven", spec := "parcelEven", unfollowed := true, recurses := true, apart := false }
def ParcelEvenSaid : Prop := parcelEvenRow.holds Try.pinned (OpenSpec.ofChange parcelEvenSpec)

/-- ITS FALSE NEIGHBOUR: 'it returns false'. Refute it at one input. -/
def parcelEvenWrong : ChangeSpec := { name := "parcelEven", fn := fun _ => fun
  | [d] => { results := [.lit (.bool false)], args := [d] }
  | _ => none }
def ParcelEvenWrongFalsely : Prop := parcelEvenRow.holds Try.pinned (OpenSpec.ofChange parcelEvenWrong)

/-- 'ullagelaw06.ParcelTraces': WHATEVER THE INPUT: true; the input reads as it did. -/
def parcelTracesSpec : ChangeSpec := { name := "parcelTraces", fn := fun _ => fun
  | [d1, d2] => { results := [.lit (.bool true)], args := [d1, d2] }
  | _ => none }
def parcelTracesRow : OpenClaim := { program := "ytlmgjjmighajdaa", sum := "374e9b3a0b49eba423ce1839b24c77b76e2c0829bfcedd22540ad9eb4071aa1d", func := "ullage/ullagelaw06.ParcelTraces", spec := "parcelTraces", unfollowed := true, recurses := true, apart := false }
def ParcelTracesSaid : Prop := parcelTracesRow.holds Try.pinned (OpenSpec.ofChange parcelTracesSpec)

/-- ITS FALSE NEIGHBOUR: 'it returns false'. Refute it at one input. -/
def parcelTracesWrong : ChangeSpec := { name := "parcelTraces", fn := fun _ => fun
  | [d1, d2] => { results := [.lit (.bool false)], args := [d1, d2] }
  | _ => none }
def ParcelTracesWrongFalsely : Prop := parcelTracesRow.holds Try.pinned (OpenSpec.ofChange parcelTracesWrong)

/-- 'ullagelaw06.ParcelCommutes': WHATEVER THE INPUT: true; the input reads as it did. -/
def parcelCommutesSpec : ChangeSpec := { name := "parcelCommutes", fn := fun _ => fun
  | [d1, d2] => { results := [.lit (.bool true)], args := [d1, d2] }
  | _ => none }
def parcelCommutesRow : OpenClaim := { program := "ytlmgjjmighajdaa", sum := "374e9b3a0b49eba423ce1839b24c77b76e2c0829bfcedd22540ad9eb4071aa1d", func := "ullage/ullagelaw06.ParcelCommutes", spec := "parcelCommutes", unfollowed := true, recurses := true, apart := false }
def ParcelCommutesSaid : Prop := parcelCommutesRow.holds Try.pinned (OpenSpec.ofChange parcelCommutesSpec)

/-- ITS FALSE NEIGHBOUR: 'it returns false'. Refute it at one input. -/
def parcelCommutesWrong : ChangeSpec := { name := "parcelCommutes", fn := fun _ => fun
  | [d1, d2] => { results := [.lit (.bool false)], args := [d1, d2] }
  | _ => none }
def ParcelCommutesWrongFalsely : Prop := parcelCommutesRow.holds Try.pinned (OpenSpec.ofChange parcelCommutesWrong)

/-- 'ullagelaw06.ParcelFree': WHATEVER THE INPUT: true; the input reads as it did. -/
def parcelFreeSpec : ChangeSpec := { name := "parcelFree", fn := fun _ => fun
  | [d1, d2, d3] => { results := [.lit (.bool true)], args := [d1, d2, d3] }
  | _ => none }
def parcelFreeRow : OpenClaim := { program := "ytlmgjjmighajdaa", sum := "374e9b3a0b49eba423ce1839b24c77b76e2c0829bfcedd22540ad9eb4071aa1d", func := "ullage/ullagelaw06.ParcelFree", spec := "parcelFree", unfollowed := true, recurses := true, apart := false }
def ParcelFreeSaid : Prop := parcelFreeRow.holds Try.pinned (OpenSpec.ofChange parcelFreeSpec)

/-- ITS FALSE NEIGHBOUR: 'it returns false'. Refute it at one input. -/
def parcelFreeWrong : ChangeSpec := { name := "parcelFree", fn := fun _ => fun
  | [d1, d2, d3] => { results := [.lit (.bool false)], args := [d1, d2, d3] }
  | _ => none }
def ParcelFreeWrongFalsely : Prop := parcelFreeRow.holds Try.pinned (OpenSpec.ofChange parcelFreeWrong)

/-- 'ullagelaw06.ParcelAsks': WHATEVER THE INPUT: true; the input reads as it did. -/
def parcelAsksSpec : ChangeSpec := { name := "parcelAsks", fn := fun _ => fun
  | [d1, d2] => { results := [.lit (.bool true)], args := [d1, d2] }
  | _ => none }
def parcelAsksRow : OpenClaim := { program := "ytlmgjjmighajdaa", sum := "374e9b3a0b49eba423ce1839b24c77b76e2c0829bfcedd22540ad9eb4071aa1d", func := "ullage/ullagelaw06.ParcelAsks", spec := "parcelAsks", unfollowed := true, recurses := true, apart := false }
def ParcelAsksSaid : Prop := parcelAsksRow.holds Try.pinned (OpenSpec.ofChange parcelAsksSpec)

/-- ITS FALSE NEIGHBOUR: 'it returns false'. Refute it at one input. -/
def parcelAsksWrong : ChangeSpec := { name := "parcelAsks", fn := fun _ => fun
  | [d1, d2] => { results := [.lit (.bool false)], args := [d1, d2] }
  | _ => none }
def ParcelAsksWrongFalsely : Prop := parcelAsksRow.holds Try.pinned (OpenSpec.ofChange parcelAsksWrong)

/- THE SECOND FORM. 'bulk': how many values and letters a reading holds, each counted each time it is reached (what is shared counts as often as it is met; a slice's spare places count too). A statement '..UptoSaid' is the law's where the arguments, and the package variables that the reading takes, are together of bulk at most 1048576: NARROWER than '..Said'. Prove '..Said' where nothing that the law and all that it calls make is longer than what came in: it says more and counts as full. Else prove '..UptoSaid'. A law counts once. -/
mutual
def uptoBulk {H : Type} : DataW H → Nat
  | .lit (.string bytes) => bytes.length + 1
  | .lit _ => 1
  | .nil => 1
  | .ptr d => uptoBulk d + 1
  | .slice elems spare => uptoBulkAll elems + uptoBulkAll spare + 1
  | .agg parts => uptoBulkAll parts + 1
  | .iface _ d => uptoBulk d + 1
  | .map entries => uptoBulkEntries entries + 1
  | .held _ => 1
def uptoBulkAll {H : Type} : List (DataW H) → Nat
  | [] => 0
  | d :: r => uptoBulk d + uptoBulkAll r
def uptoBulkEntries {H : Type} : List (Lit × DataW H) → Nat
  | [] => 0
  | x :: r => uptoBulkEntry x + uptoBulkEntries r
def uptoBulkEntry {H : Type} : Lit × DataW H → Nat
  | (.string bytes, d) => bytes.length + uptoBulk d + 1
  | (_, d) => uptoBulk d + 1
 end
def uptoSmall : (H : Type) → List (DataW H) → Bool := fun _ ds => decide (uptoBulkAll ds ≤ 1048576)
def OpenSpec.upto (s : _root_.Go.ChangeSpec) : _root_.Go.OpenSpec := { _root_.Go.OpenSpec.ofChange s with cond := some uptoSmall }

/-- 'ullagelaw06.ParcelChecks', WHERE WHAT IT READS IS OF BULK AT MOST 1048576: true; the input reads as it did. -/
def parcelChecksUptoRow : OpenClaim := { program := "ytlmgjjmighajdaa", sum := "374e9b3a0b49eba423ce1839b24c77b76e2c0829bfcedd22540ad9eb4071aa1d", func := "ullage/ullagelaw06.ParcelChecks", spec := "parcelChecks", unfollowed := true, recurses := true, apart := false, narrowed := true }
def ParcelChecksUptoSaid : Prop := parcelChecksUptoRow.holds Try.pinned (OpenSpec.upto parcelChecksSpec)

/-- 'ullagelaw06.ParcelJoins', WHERE WHAT IT READS IS OF BULK AT MOST 1048576: true; the input reads as it did. -/
def parcelJoinsUptoRow : OpenClaim := { program := "ytlmgjjmighajdaa", sum := "374e9b3a0b49eba423ce1839b24c77b76e2c0829bfcedd22540ad9eb4071aa1d", func := "ullage/ullagelaw06.ParcelJoins", spec := "parcelJoins", unfollowed := true, recurses := true, apart := false, narrowed := true }
def ParcelJoinsUptoSaid : Prop := parcelJoinsUptoRow.holds Try.pinned (OpenSpec.upto parcelJoinsSpec)

/-- 'ullagelaw06.ParcelDoes', WHERE WHAT IT READS IS OF BULK AT MOST 1048576: true; the input reads as it did. -/
def parcelDoesUptoRow : OpenClaim := { program := "ytlmgjjmighajdaa", sum := "374e9b3a0b49eba423ce1839b24c77b76e2c0829bfcedd22540ad9eb4071aa1d", func := "ullage/ullagelaw06.ParcelDoes", spec := "parcelDoes", unfollowed := true, recurses := true, apart := false, narrowed := true }
def ParcelDoesUptoSaid : Prop := parcelDoesUptoRow.holds Try.pinned (OpenSpec.upto parcelDoesSpec)

/-- 'ullagelaw06.ParcelSplits', WHERE WHAT IT READS IS OF BULK AT MOST 1048576: true; the input reads as it did. -/
def parcelSplitsUptoRow : OpenClaim := { program := "ytlmgjjmighajdaa", sum := "374e9b3a0b49eba423ce1839b24c77b76e2c0829bfcedd22540ad9eb4071aa1d", func := "ullage/ullagelaw06.ParcelSplits", spec := "parcelSplits", unfollowed := true, recurses := true, apart := false, narrowed := true }
def ParcelSplitsUptoSaid : Prop := parcelSplitsUptoRow.holds Try.pinned (OpenSpec.upto parcelSplitsSpec)

/-- 'ullagelaw06.ParcelFair', WHERE WHAT IT READS IS OF BULK AT MOST 1048576: true; the input reads as it did. -/
def parcelFairUptoRow : OpenClaim := { program := "ytlmgjjmighajdaa", sum := "374e9b3a0b49eba423ce1839b24c77b76e2c0829bfcedd22540ad9eb4071aa1d", func := "ullage/ullagelaw06.ParcelFair", spec := "parcelFair", unfollowed := true, recurses := true, apart := false, narrowed := true }
def ParcelFairUptoSaid : Prop := parcelFairUptoRow.holds Try.pinned (OpenSpec.upto parcelFairSpec)

/-- 'ullagelaw06.ParcelApart', WHERE WHAT IT READS IS OF BULK AT MOST 1048576: true; the input reads as it did. -/
def parcelApartUptoRow : OpenClaim := { program := "ytlmgjjmighajdaa", sum := "374e9b3a0b49eba423ce1839b24c77b76e2c0829bfcedd22540ad9eb4071aa1d", func := "ullage/ullagelaw06.ParcelApart", spec := "parcelApart", unfollowed := true, recurses := true, apart := false, narrowed := true }
def ParcelApartUptoSaid : Prop := parcelApartUptoRow.holds Try.pinned (OpenSpec.upto parcelApartSpec)

/-- 'ullagelaw06.ParcelMasses', WHERE WHAT IT READS IS OF BULK AT MOST 1048576: true; the input reads as it did. -/
def parcelMassesUptoRow : OpenClaim := { program := "ytlmgjjmighajdaa", sum := "374e9b3a0b49eba423ce1839b24c77b76e2c0829bfcedd22540ad9eb4071aa1d", func := "ullage/ullagelaw06.ParcelMasses", spec := "parcelMasses", unfollowed := true, recurses := true, apart := false, narrowed := true }
def ParcelMassesUptoSaid : Prop := parcelMassesUptoRow.holds Try.pinned (OpenSpec.upto parcelMassesSpec)

/-- 'ullagelaw06.ParcelPlays', WHERE WHAT IT READS IS OF BULK AT MOST 1048576: true; the input reads as it did. -/
def parcelPlaysUptoRow : OpenClaim := { program := "ytlmgjjmighajdaa", sum := "374e9b3a0b49eba423ce1839b24c77b76e2c0829bfcedd22540ad9eb4071aa1d", func := "ullage/ullagelaw06.ParcelPlays", spec := "parcelPlays", unfollowed := true, recurses := true, apart := false, narrowed := true }
def ParcelPlaysUptoSaid : Prop := parcelPlaysUptoRow.holds Try.pinned (OpenSpec.upto parcelPlaysSpec)

/-- 'ullagelaw06.ParcelEven', WHERE WHAT IT READS IS OF BULK AT MOST 1048576: true; the input reads as it did. -/
def parcelEvenUptoRow : OpenClaim := { program := "ytlmgjjmighajdaa", sum := "374e9b3a0b49eba423ce1839b24c77b76e2c0829bfcedd22540ad9eb4071aa1d", func := "ullage/ullagelaw06.ParcelEven", spec := "parcelEven", unfollowed := true, recurses := true, apart := false, narrowed := true }
def ParcelEvenUptoSaid : Prop := parcelEvenUptoRow.holds Try.pinned (OpenSpec.upto parcelEvenSpec)

/-- 'ullagelaw06.ParcelTraces', WHERE WHAT IT READS IS OF BULK AT MOST 1048576: true; the input reads as it did. -/
def parcelTracesUptoRow : OpenClaim := { program := "ytlmgjjmighajdaa", sum := "374e9b3a0b49eba423ce1839b24c77b76e2c0829bfcedd22540ad9eb4071aa1d", func := "ullage/ullagelaw06.ParcelTraces", spec := "parcelTraces", unfollowed := true, recurses := true, apart := false, narrowed := true }
def ParcelTracesUptoSaid : Prop := parcelTracesUptoRow.holds Try.pinned (OpenSpec.upto parcelTracesSpec)

/-- 'ullagelaw06.ParcelCommutes', WHERE WHAT IT READS IS OF BULK AT MOST 1048576: true; the input reads as it did. -/
def parcelCommutesUptoRow : OpenClaim := { program := "ytlmgjjmighajdaa", sum := "374e9b3a0b49eba423ce1839b24c77b76e2c0829bfcedd22540ad9eb4071aa1d", func := "ullage/ullagelaw06.ParcelCommutes", spec := "parcelCommutes", unfollowed := true, recurses := true, apart := false, narrowed := true }
def ParcelCommutesUptoSaid : Prop := parcelCommutesUptoRow.holds Try.pinned (OpenSpec.upto parcelCommutesSpec)

/-- 'ullagelaw06.ParcelFree', WHERE WHAT IT READS IS OF BULK AT MOST 1048576: true; the input reads as it did. -/
def parcelFreeUptoRow : OpenClaim := { program := "ytlmgjjmighajdaa", sum := "374e9b3a0b49eba423ce1839b24c77b76e2c0829bfcedd22540ad9eb4071aa1d", func := "ullage/ullagelaw06.ParcelFree", spec := "parcelFree", unfollowed := true, recurses := true, apart := false, narrowed := true }
def ParcelFreeUptoSaid : Prop := parcelFreeUptoRow.holds Try.pinned (OpenSpec.upto parcelFreeSpec)

/-- 'ullagelaw06.ParcelAsks', WHERE WHAT IT READS IS OF BULK AT MOST 1048576: true; the input reads as it did. -/
def parcelAsksUptoRow : OpenClaim := { program := "ytlmgjjmighajdaa", sum := "374e9b3a0b49eba423ce1839b24c77b76e2c0829bfcedd22540ad9eb4071aa1d", func := "ullage/ullagelaw06.ParcelAsks", spec := "parcelAsks", unfollowed := true, recurses := true, apart := false, narrowed := true }
def ParcelAsksUptoSaid : Prop := parcelAsksUptoRow.holds Try.pinned (OpenSpec.upto parcelAsksSpec)

end Rows
end Go.Proofs.Ytlmgjjmighajdaa
