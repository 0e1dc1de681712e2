/-
  No cell of these rows narrows 'for every input' (looked for: loops, veiled, ifaces, maps, wideKeys, modest, calm, conditions, laid).
  DERIVED. THE GIVEN ROWS OF THIS SEAT. 12 by the template 'for every input the law returns true; each argument reads behind the call as it read before'; 0 by the template 'total and deterministic' (their statements: YtmbjjahfjbhbcaaTotals.lean).
  GIVEN WITH THE SEED: the statements are not yours to turn. If you find one false, say at which input.
  Laid BY PROGRAM, IN A SANDBOX (cutbox-rows.mjs): the forced cells as the released guide's own fill.sh prints them over the translation 295fae701127a5b5… (all of the seat's roots in one cut). By AI agents, Wed Nov 11 2026. No macro, syntax, notation, axiom, sorry.
-/
import Derived.Test.YtmbjjahfjbhbcaaChecked
import GoSem.Claim
import GoSem.ClaimJoined
import GoSem.ClaimMapViews
import Derived.JoinedTies
import Derived.KernelRfl
namespace Go.Proofs.Ytmbjjahfjbhbcaa
/- THE CELL 'sum', in the pinned program and in every row, IS THE sha256 OF THE DUMP (.gsa) THAT YtmbjjahfjbhbcaaProg.lean LOADS. Nothing in Lean hashes anything: it is a label: what it is worth is what the hold of that sum in a sandbox is worth. -/
noncomputable def Try.pinned : Pinned := { name := "ytmbjjahfjbhbcaa", sum := "295fae701127a5b54a7f916d6392ddf95bfaa016294463f6e6020dacbc3a0d85", checked := Try.checked }
namespace Rows
def none {H : Type} : Left H := { results := [], args := [] }

/-- 'laws.FnExactPartnerOf': WHATEVER THE INPUT: true; the input reads as it did. -/
def fnExactPartnerOfSpec : ChangeSpec := { name := "fnExactPartnerOf", fn := fun _ => fun
  | [d1, d2, d3] => { results := [.lit (.bool true)], args := [d1, d2, d3] }
  | _ => none }
def fnExactPartnerOfRow : OpenClaim := { program := "ytmbjjahfjbhbcaa", sum := "295fae701127a5b54a7f916d6392ddf95bfaa016294463f6e6020dacbc3a0d85", func := "loop.example/g01322/laws.FnExactPartnerOf", spec := "fnExactPartnerOf", apart := false }
def FnExactPartnerOfSaid : Prop := fnExactPartnerOfRow.holds Try.pinned (OpenSpec.ofChange fnExactPartnerOfSpec)

/-- ITS FALSE NEIGHBOUR: 'it returns false'. Refute it at one input. -/
def fnExactPartnerOfWrong : ChangeSpec := { name := "fnExactPartnerOf", fn := fun _ => fun
  | [d1, d2, d3] => { results := [.lit (.bool false)], args := [d1, d2, d3] }
  | _ => none }
def FnExactPartnerOfWrongFalsely : Prop := fnExactPartnerOfRow.holds Try.pinned (OpenSpec.ofChange fnExactPartnerOfWrong)

/-- 'laws.FnExactBestShiftOf': WHATEVER THE INPUT: true; the input reads as it did. -/
def fnExactBestShiftOfSpec : ChangeSpec := { name := "fnExactBestShiftOf", fn := fun _ => fun
  | [d1, d2] => { results := [.lit (.bool true)], args := [d1, d2] }
  | _ => none }
def fnExactBestShiftOfRow : OpenClaim := { program := "ytmbjjahfjbhbcaa", sum := "295fae701127a5b54a7f916d6392ddf95bfaa016294463f6e6020dacbc3a0d85", func := "loop.example/g01322/laws.FnExactBestShiftOf", spec := "fnExactBestShiftOf", apart := false }
def FnExactBestShiftOfSaid : Prop := fnExactBestShiftOfRow.holds Try.pinned (OpenSpec.ofChange fnExactBestShiftOfSpec)

/-- ITS FALSE NEIGHBOUR: 'it returns false'. Refute it at one input. -/
def fnExactBestShiftOfWrong : ChangeSpec := { name := "fnExactBestShiftOf", fn := fun _ => fun
  | [d1, d2] => { results := [.lit (.bool false)], args := [d1, d2] }
  | _ => none }
def FnExactBestShiftOfWrongFalsely : Prop := fnExactBestShiftOfRow.holds Try.pinned (OpenSpec.ofChange fnExactBestShiftOfWrong)

/-- 'laws.FnExactValidJobs': WHATEVER THE INPUT: true; the input reads as it did. -/
def fnExactValidJobsSpec : ChangeSpec := { name := "fnExactValidJobs", fn := fun _ => fun
  | [d] => { results := [.lit (.bool true)], args := [d] }
  | _ => none }
def fnExactValidJobsRow : OpenClaim := { program := "ytmbjjahfjbhbcaa", sum := "295fae701127a5b54a7f916d6392ddf95bfaa016294463f6e6020dacbc3a0d85", func := "loop.example/g01322/laws.FnExactValidJobs", spec := "fnExactValidJobs", unfollowed := true, recurses := true, apart := false }
def FnExactValidJobsSaid : Prop := fnExactValidJobsRow.holds Try.pinned (OpenSpec.ofChange fnExactValidJobsSpec)

/-- ITS FALSE NEIGHBOUR: 'it returns false'. Refute it at one input. -/
def fnExactValidJobsWrong : ChangeSpec := { name := "fnExactValidJobs", fn := fun _ => fun
  | [d] => { results := [.lit (.bool false)], args := [d] }
  | _ => none }
def FnExactValidJobsWrongFalsely : Prop := fnExactValidJobsRow.holds Try.pinned (OpenSpec.ofChange fnExactValidJobsWrong)

/-- 'laws.FnExactLostCells': WHATEVER THE INPUT: true; the input reads as it did. -/
def fnExactLostCellsSpec : ChangeSpec := { name := "fnExactLostCells", fn := fun _ => fun
  | [d] => { results := [.lit (.bool true)], args := [d] }
  | _ => none }
def fnExactLostCellsRow : OpenClaim := { program := "ytmbjjahfjbhbcaa", sum := "295fae701127a5b54a7f916d6392ddf95bfaa016294463f6e6020dacbc3a0d85", func := "loop.example/g01322/laws.FnExactLostCells", spec := "fnExactLostCells", apart := false }
def FnExactLostCellsSaid : Prop := fnExactLostCellsRow.holds Try.pinned (OpenSpec.ofChange fnExactLostCellsSpec)

/-- ITS FALSE NEIGHBOUR: 'it returns false'. Refute it at one input. -/
def fnExactLostCellsWrong : ChangeSpec := { name := "fnExactLostCells", fn := fun _ => fun
  | [d] => { results := [.lit (.bool false)], args := [d] }
  | _ => none }
def FnExactLostCellsWrongFalsely : Prop := fnExactLostCellsRow.holds Try.pinned (OpenSpec.ofChange fnExactLostCellsWrong)

/-- 'laws.FnExactRepeatsBy': WHATEVER THE INPUT: true; the input reads as it did. -/
def fnExactRepeatsBySpec : ChangeSpec := { name := "fnExactRepeatsBy", fn := fun _ => fun
  | [d1, d2, d3] => { results := [.lit (.bool true)], args := [d1, d2, d3] }
  | _ => none }
def fnExactRepeatsByRow : OpenClaim := { program := "ytmbjjahfjbhbcaa", sum := "295fae701127a5b54a7f916d6392ddf95bfaa016294463f6e6020dacbc3a0d85", func := "loop.example/g01322/laws.FnExactRepeatsBy", spec := "fnExactRepeatsBy", apart := false }
def FnExactRepeatsBySaid : Prop := fnExactRepeatsByRow.holds Try.pinned (OpenSpec.ofChange fnExactRepeatsBySpec)

/-- ITS FALSE NEIGHBOUR: 'it returns false'. Refute it at one input. -/
def fnExactRepeatsByWrong : ChangeSpec := { name := "fnExactRepeatsBy", fn := fun _ => fun
  | [d1, d2, d3] => { results := [.lit (.bool false)], args := [d1, d2, d3] }
  | _ => none }
def FnExactRepeatsByWrongFalsely : Prop := fnExactRepeatsByRow.holds Try.pinned (OpenSpec.ofChange fnExactRepeatsByWrong)

/-- 'laws.FnExactPeriodsOf': WHATEVER THE INPUT: true; the input reads as it did. -/
def fnExactPeriodsOfSpec : ChangeSpec := { name := "fnExactPeriodsOf", fn := fun _ => fun
  | [d] => { results := [.lit (.bool true)], args := [d] }
  | _ => none }
def fnExactPeriodsOfRow : OpenClaim := { program := "ytmbjjahfjbhbcaa", sum := "295fae701127a5b54a7f916d6392ddf95bfaa016294463f6e6020dacbc3a0d85", func := "loop.example/g01322/laws.FnExactPeriodsOf", spec := "fnExactPeriodsOf", apart := false }
def FnExactPeriodsOfSaid : Prop := fnExactPeriodsOfRow.holds Try.pinned (OpenSpec.ofChange fnExactPeriodsOfSpec)

/-- ITS FALSE NEIGHBOUR: 'it returns false'. Refute it at one input. -/
def fnExactPeriodsOfWrong : ChangeSpec := { name := "fnExactPeriodsOf", fn := fun _ => fun
  | [d] => { results := [.lit (.bool false)], args := [d] }
  | _ => none }
def FnExactPeriodsOfWrongFalsely : Prop := fnExactPeriodsOfRow.holds Try.pinned (OpenSpec.ofChange fnExactPeriodsOfWrong)

/-- 'laws.FnExactStonesNeeded': WHATEVER THE INPUT: true; the input reads as it did. -/
def fnExactStonesNeededSpec : ChangeSpec := { name := "fnExactStonesNeeded", fn := fun _ => fun
  | [d1, d2] => { results := [.lit (.bool true)], args := [d1, d2] }
  | _ => none }
def fnExactStonesNeededRow : OpenClaim := { program := "ytmbjjahfjbhbcaa", sum := "295fae701127a5b54a7f916d6392ddf95bfaa016294463f6e6020dacbc3a0d85", func := "loop.example/g01322/laws.FnExactStonesNeeded", spec := "fnExactStonesNeeded", unfollowed := true, recurses := true, apart := false }
def FnExactStonesNeededSaid : Prop := fnExactStonesNeededRow.holds Try.pinned (OpenSpec.ofChange fnExactStonesNeededSpec)

/-- ITS FALSE NEIGHBOUR: 'it returns false'. Refute it at one input. -/
def fnExactStonesNeededWrong : ChangeSpec := { name := "fnExactStonesNeeded", fn := fun _ => fun
  | [d1, d2] => { results := [.lit (.bool false)], args := [d1, d2] }
  | _ => none }
def FnExactStonesNeededWrongFalsely : Prop := fnExactStonesNeededRow.holds Try.pinned (OpenSpec.ofChange fnExactStonesNeededWrong)

/-- 'laws.FnExactAgreement': WHATEVER THE INPUT: true; the input reads as it did. -/
def fnExactAgreementSpec : ChangeSpec := { name := "fnExactAgreement", fn := fun _ => fun
  | [d1, d2] => { results := [.lit (.bool true)], args := [d1, d2] }
  | _ => none }
def fnExactAgreementRow : OpenClaim := { program := "ytmbjjahfjbhbcaa", sum := "295fae701127a5b54a7f916d6392ddf95bfaa016294463f6e6020dacbc3a0d85", func := "loop.example/g01322/laws.FnExactAgreement", spec := "fnExactAgreement", unfollowed := true, recurses := true, apart := false }
def FnExactAgreementSaid : Prop := fnExactAgreementRow.holds Try.pinned (OpenSpec.ofChange fnExactAgreementSpec)

/-- ITS FALSE NEIGHBOUR: 'it returns false'. Refute it at one input. -/
def fnExactAgreementWrong : ChangeSpec := { name := "fnExactAgreement", fn := fun _ => fun
  | [d1, d2] => { results := [.lit (.bool false)], args := [d1, d2] }
  | _ => none }
def FnExactAgreementWrongFalsely : Prop := fnExactAgreementRow.holds Try.pinned (OpenSpec.ofChange fnExactAgreementWrong)

/-- 'laws.FnExactBestKind': WHATEVER THE INPUT: true; the input reads as it did. -/
def fnExactBestKindSpec : ChangeSpec := { name := "fnExactBestKind", fn := fun _ => fun
  | [d] => { results := [.lit (.bool true)], args := [d] }
  | _ => none }
def fnExactBestKindRow : OpenClaim := { program := "ytmbjjahfjbhbcaa", sum := "295fae701127a5b54a7f916d6392ddf95bfaa016294463f6e6020dacbc3a0d85", func := "loop.example/g01322/laws.FnExactBestKind", spec := "fnExactBestKind", apart := false }
def FnExactBestKindSaid : Prop := fnExactBestKindRow.holds Try.pinned (OpenSpec.ofChange fnExactBestKindSpec)

/-- ITS FALSE NEIGHBOUR: 'it returns false'. Refute it at one input. -/
def fnExactBestKindWrong : ChangeSpec := { name := "fnExactBestKind", fn := fun _ => fun
  | [d] => { results := [.lit (.bool false)], args := [d] }
  | _ => none }
def FnExactBestKindWrongFalsely : Prop := fnExactBestKindRow.holds Try.pinned (OpenSpec.ofChange fnExactBestKindWrong)

/-- 'laws.FnExactClashesUnder': WHATEVER THE INPUT: true; the input reads as it did. -/
def fnExactClashesUnderSpec : ChangeSpec := { name := "fnExactClashesUnder", fn := fun _ => fun
  | [d1, d2] => { results := [.lit (.bool true)], args := [d1, d2] }
  | _ => none }
def fnExactClashesUnderRow : OpenClaim := { program := "ytmbjjahfjbhbcaa", sum := "295fae701127a5b54a7f916d6392ddf95bfaa016294463f6e6020dacbc3a0d85", func := "loop.example/g01322/laws.FnExactClashesUnder", spec := "fnExactClashesUnder", apart := false }
def FnExactClashesUnderSaid : Prop := fnExactClashesUnderRow.holds Try.pinned (OpenSpec.ofChange fnExactClashesUnderSpec)

/-- ITS FALSE NEIGHBOUR: 'it returns false'. Refute it at one input. -/
def fnExactClashesUnderWrong : ChangeSpec := { name := "fnExactClashesUnder", fn := fun _ => fun
  | [d1, d2] => { results := [.lit (.bool false)], args := [d1, d2] }
  | _ => none }
def FnExactClashesUnderWrongFalsely : Prop := fnExactClashesUnderRow.holds Try.pinned (OpenSpec.ofChange fnExactClashesUnderWrong)

/-- 'laws.FnExactFirstConflict': WHATEVER THE INPUT: true; the input reads as it did. -/
def fnExactFirstConflictSpec : ChangeSpec := { name := "fnExactFirstConflict", fn := fun _ => fun
  | [d1, d2, d3] => { results := [.lit (.bool true)], args := [d1, d2, d3] }
  | _ => none }
def fnExactFirstConflictRow : OpenClaim := { program := "ytmbjjahfjbhbcaa", sum := "295fae701127a5b54a7f916d6392ddf95bfaa016294463f6e6020dacbc3a0d85", func := "loop.example/g01322/laws.FnExactFirstConflict", spec := "fnExactFirstConflict", apart := false }
def FnExactFirstConflictSaid : Prop := fnExactFirstConflictRow.holds Try.pinned (OpenSpec.ofChange fnExactFirstConflictSpec)

/-- ITS FALSE NEIGHBOUR: 'it returns false'. Refute it at one input. -/
def fnExactFirstConflictWrong : ChangeSpec := { name := "fnExactFirstConflict", fn := fun _ => fun
  | [d1, d2, d3] => { results := [.lit (.bool false)], args := [d1, d2, d3] }
  | _ => none }
def FnExactFirstConflictWrongFalsely : Prop := fnExactFirstConflictRow.holds Try.pinned (OpenSpec.ofChange fnExactFirstConflictWrong)

/-- 'laws.FnExactWrongStones': WHATEVER THE INPUT: true; the input reads as it did. -/
def fnExactWrongStonesSpec : ChangeSpec := { name := "fnExactWrongStones", fn := fun _ => fun
  | [d1, d2] => { results := [.lit (.bool true)], args := [d1, d2] }
  | _ => none }
def fnExactWrongStonesRow : OpenClaim := { program := "ytmbjjahfjbhbcaa", sum := "295fae701127a5b54a7f916d6392ddf95bfaa016294463f6e6020dacbc3a0d85", func := "loop.example/g01322/laws.FnExactWrongStones", spec := "fnExactWrongStones", unfollowed := true, recurses := true, apart := false }
def FnExactWrongStonesSaid : Prop := fnExactWrongStonesRow.holds Try.pinned (OpenSpec.ofChange fnExactWrongStonesSpec)

/-- ITS FALSE NEIGHBOUR: 'it returns false'. Refute it at one input. -/
def fnExactWrongStonesWrong : ChangeSpec := { name := "fnExactWrongStones", fn := fun _ => fun
  | [d1, d2] => { results := [.lit (.bool false)], args := [d1, d2] }
  | _ => none }
def FnExactWrongStonesWrongFalsely : Prop := fnExactWrongStonesRow.holds Try.pinned (OpenSpec.ofChange fnExactWrongStonesWrong)

/- THE SECOND FORM. 'bulk': how many values and letters a reading holds, each counted each time it is reached (what is shared counts as often as it is met; a slice's spare places count too). A statement '..UptoSaid' is the law's where the arguments, and the package variables that the reading takes, are together of bulk at most 1048576: NARROWER than '..Said'. Prove '..Said' where nothing that the law and all that it calls make is longer than what came in: it says more and counts as full. Else prove '..UptoSaid'. A law counts once. -/
mutual
def uptoBulk {H : Type} : DataW H → Nat
  | .lit (.string bytes) => bytes.length + 1
  | .lit _ => 1
  | .nil => 1
  | .ptr d => uptoBulk d + 1
  | .slice elems spare => uptoBulkAll elems + uptoBulkAll spare + 1
  | .agg parts => uptoBulkAll parts + 1
  | .iface _ d => uptoBulk d + 1
  | .map entries => uptoBulkEntries entries + 1
  | .held _ => 1
def uptoBulkAll {H : Type} : List (DataW H) → Nat
  | [] => 0
  | d :: r => uptoBulk d + uptoBulkAll r
def uptoBulkEntries {H : Type} : List (Lit × DataW H) → Nat
  | [] => 0
  | x :: r => uptoBulkEntry x + uptoBulkEntries r
def uptoBulkEntry {H : Type} : Lit × DataW H → Nat
  | (.string bytes, d) => bytes.length + uptoBulk d + 1
  | (_, d) => uptoBulk d + 1
 end
def uptoSmall : (H : Type) → List (DataW H) → Bool := fun _ ds => decide (uptoBulkAll ds ≤ 1048576)
def OpenSpec.upto (s : _root_.Go.ChangeSpec) : _root_.Go.OpenSpec := { _root_.Go.OpenSpec.ofChange s with cond := some uptoSmall }

/-- 'laws.FnExactPartnerOf', WHERE WHAT IT READS IS OF BULK AT MOST 1048576: true; the input reads as it did. -/
def fnExactPartnerOfUptoRow : OpenClaim := { program := "ytmbjjahfjbhbcaa", sum := "295fae701127a5b54a7f916d6392ddf95bfaa016294463f6e6020dacbc3a0d85", func := "loop.example/g01322/laws.FnExactPartnerOf", spec := "fnExactPartnerOf", apart := false, narrowed := true }
def FnExactPartnerOfUptoSaid : Prop := fnExactPartnerOfUptoRow.holds Try.pinned (OpenSpec.upto fnExactPartnerOfSpec)

/-- 'laws.FnExactBestShiftOf', WHERE WHAT IT READS IS OF BULK AT MOST 1048576: true; the input reads as it did. -/
def fnExactBestShiftOfUptoRow : OpenClaim := { program := "ytmbjjahfjbhbcaa", sum := "295fae701127a5b54a7f916d6392ddf95bfaa016294463f6e6020dacbc3a0d85", func := "loop.example/g01322/laws.FnExactBestShiftOf", spec := "fnExactBestShiftOf", apart := false, narrowed := true }
def FnExactBestShiftOfUptoSaid : Prop := fnExactBestShiftOfUptoRow.holds Try.pinned (OpenSpec.upto fnExactBestShiftOfSpec)

/-- 'laws.FnExactValidJobs', WHERE WHAT IT READS IS OF BULK AT MOST 1048576: true; the input reads as it did. -/
def fnExactValidJobsUptoRow : OpenClaim := { program := "ytmbjjahfjbhbcaa", sum := "295fae701127a5b54a7f916d6392ddf95bfaa016294463f6e6020dacbc3a0d85", func := "loop.example/g01322/laws.FnExactValidJobs", spec := "fnExactValidJobs", unfollowed := true, recurses := true, apart := false, narrowed := true }
def FnExactValidJobsUptoSaid : Prop := fnExactValidJobsUptoRow.holds Try.pinned (OpenSpec.upto fnExactValidJobsSpec)

/-- 'laws.FnExactLostCells', WHERE WHAT IT READS IS OF BULK AT MOST 1048576: true; the input reads as it did. -/
def fnExactLostCellsUptoRow : OpenClaim := { program := "ytmbjjahfjbhbcaa", sum := "295fae701127a5b54a7f916d6392ddf95bfaa016294463f6e6020dacbc3a0d85", func := "loop.example/g01322/laws.FnExactLostCells", spec := "fnExactLostCells", apart := false, narrowed := true }
def FnExactLostCellsUptoSaid : Prop := fnExactLostCellsUptoRow.holds Try.pinned (OpenSpec.upto fnExactLostCellsSpec)

/-- 'laws.FnExactRepeatsBy', WHERE WHAT IT READS IS OF BULK AT MOST 1048576: true; the input reads as it did. -/
def fnExactRepeatsByUptoRow : OpenClaim := { program := "ytmbjjahfjbhbcaa", sum := "295fae701127a5b54a7f916d6392ddf95bfaa016294463f6e6020dacbc3a0d85", func := "loop.example/g01322/laws.FnExactRepeatsBy", spec := "fnExactRepeatsBy", apart := false, narrowed := true }
def FnExactRepeatsByUptoSaid : Prop := fnExactRepeatsByUptoRow.holds Try.pinned (OpenSpec.upto fnExactRepeatsBySpec)

/-- 'laws.FnExactPeriodsOf', WHERE WHAT IT READS IS OF BULK AT MOST 1048576: true; the input reads as it did. -/
def fnExactPeriodsOfUptoRow : OpenClaim := { program := "ytmbjjahfjbhbcaa", sum := "295fae701127a5b54a7f916d6392ddf95bfaa016294463f6e6020dacbc3a0d85", func := "loop.example/g01322/laws.FnExactPeriodsOf", spec := "fnExactPeriodsOf", apart := false, narrowed := true }
def FnExactPeriodsOfUptoSaid : Prop := fnExactPeriodsOfUptoRow.holds Try.pinned (OpenSpec.upto fnExactPeriodsOfSpec)

/-- 'laws.FnExactStonesNeeded', WHERE WHAT IT READS IS OF BULK AT MOST 1048576: true; the input reads as it did. -/
def fnExactStonesNeededUptoRow : OpenClaim := { program := "ytmbjjahfjbhbcaa", sum := "295fae701127a5b54a7f916d6392ddf95bfaa016294463f6e6020dacbc3a0d85", func := "loop.example/g01322/laws.FnExactStonesNeeded", spec := "fnExactStonesNeeded", unfollowed := true, recurses := true, apart := false, narrowed := true }
def FnExactStonesNeededUptoSaid : Prop := fnExactStonesNeededUptoRow.holds Try.pinned (OpenSpec.upto fnExactStonesNeededSpec)

/-- 'laws.FnExactAgreement', WHERE WHAT IT READS IS OF BULK AT MOST 1048576: true; the input reads as it did. -/
def fnExactAgreementUptoRow : OpenClaim := { program := "ytmbjjahfjbhbcaa", sum := "295fae701127a5b54a7f916d6392ddf95bfaa016294463f6e6020dacbc3a0d85", func := "loop.example/g01322/laws.FnExactAgreement", spec := "fnExactAgreement", unfollowed := true, recurses := true, apart := false, narrowed := true }
def FnExactAgreementUptoSaid : Prop := fnExactAgreementUptoRow.holds Try.pinned (OpenSpec.upto fnExactAgreementSpec)

/-- 'laws.FnExactBestKind', WHERE WHAT IT READS IS OF BULK AT MOST 1048576: true; the input reads as it did. -/
def fnExactBestKindUptoRow : OpenClaim := { program := "ytmbjjahfjbhbcaa", sum := "295fae701127a5b54a7f916d6392ddf95bfaa016294463f6e6020dacbc3a0d85", func := "loop.example/g01322/laws.FnExactBestKind", spec := "fnExactBestKind", apart := false, narrowed := true }
def FnExactBestKindUptoSaid : Prop := fnExactBestKindUptoRow.holds Try.pinned (OpenSpec.upto fnExactBestKindSpec)

/-- 'laws.FnExactClashesUnder', WHERE WHAT IT READS IS OF BULK AT MOST 1048576: true; the input reads as it did. -/
def fnExactClashesUnderUptoRow : OpenClaim := { program := "ytmbjjahfjbhbcaa", sum := "295fae701127a5b54a7f916d6392ddf95bfaa016294463f6e6020dacbc3a0d85", func := "loop.example/g01322/laws.FnExactClashesUnder", spec := "fnExactClashesUnder", apart := false, narrowed := true }
def FnExactClashesUnderUptoSaid : Prop := fnExactClashesUnderUptoRow.holds Try.pinned (OpenSpec.upto fnExactClashesUnderSpec)

/-- 'laws.FnExactFirstConflict', WHERE WHAT IT READS IS OF BULK AT MOST 1048576: true; the input reads as it did. -/
def fnExactFirstConflictUptoRow : OpenClaim := { program := "ytmbjjahfjbhbcaa", sum := "295fae701127a5b54a7f916d6392ddf95bfaa016294463f6e6020dacbc3a0d85", func := "loop.example/g01322/laws.FnExactFirstConflict", spec := "fnExactFirstConflict", apart := false, narrowed := true }
def FnExactFirstConflictUptoSaid : Prop := fnExactFirstConflictUptoRow.holds Try.pinned (OpenSpec.upto fnExactFirstConflictSpec)

/-- 'laws.FnExactWrongStones', WHERE WHAT IT READS IS OF BULK AT MOST 1048576: true; the input reads as it did. -/
def fnExactWrongStonesUptoRow : OpenClaim := { program := "ytmbjjahfjbhbcaa", sum := "295fae701127a5b54a7f916d6392ddf95bfaa016294463f6e6020dacbc3a0d85", func := "loop.example/g01322/laws.FnExactWrongStones", spec := "fnExactWrongStones", unfollowed := true, recurses := true, apart := false, narrowed := true }
def FnExactWrongStonesUptoSaid : Prop := fnExactWrongStonesUptoRow.holds Try.pinned (OpenSpec.upto fnExactWrongStonesSpec)

end Rows
end Go.Proofs.Ytmbjjahfjbhbcaa
