/-
  No cell of these rows narrows 'for every input' (looked for: loops, veiled, ifaces, maps, wideKeys, modest, calm, conditions, laid).
  DERIVED. THE GIVEN ROWS OF THIS SEAT. 12 by the template 'for every input the law returns true; each argument reads behind the call as it read before'; 0 by the template 'total and deterministic' (their statements: YtjibhgjhjehdcaaTotals.lean).
  GIVEN WITH THE SEED: the statements are not yours to turn. If you find one false, say at which input.
  Laid BY PROGRAM, IN A SANDBOX (cutbox-rows.mjs): the forced cells as the released guide's own fill.sh prints them over the translation 828f3bdc2b629ee9… (all of the seat's roots in one cut). By AI agents, Wed Nov 11 2026. No macro, syntax, notation, axiom, sorry.
-/
import Derived.Test.YtjibhgjhjehdcaaChecked
import GoSem.Claim
import GoSem.ClaimJoined
import GoSem.ClaimMapViews
import Derived.JoinedTies
import Derived.KernelRfl
namespace Go.Proofs.Ytjibhgjhjehdcaa
/- THE CELL 'sum', in the pinned program and in every row, IS THE sha256 OF THE DUMP (.gsa) THAT YtjibhgjhjehdcaaProg.lean LOADS. Nothing in Lean hashes anything: it is a label: what it is worth is what the hold of that sum in a sandbox is worth. -/
noncomputable def Try.pinned : Pinned := { name := "ytjibhgjhjehdcaa", sum := "828f3bdc2b629ee97ff3006ff5a98e8b1f945ccf08e02927ba4a76e3ee2da045", checked := Try.checked }
namespace Rows
def none {H : Type} : Left H := { results := [], args := [] }

/-- 'laws.FnExactLoseCells': WHATEVER THE INPUT: true; the input reads as it did. -/
def fnExactLoseCellsSpec : ChangeSpec := { name := "fnExactLoseCells", fn := fun _ => fun
  | [d1, d2] => { results := [.lit (.bool true)], args := [d1, d2] }
  | _ => none }
def fnExactLoseCellsRow : OpenClaim := { program := "ytjibhgjhjehdcaa", sum := "828f3bdc2b629ee97ff3006ff5a98e8b1f945ccf08e02927ba4a76e3ee2da045", func := "loop.example/g01322/laws.FnExactLoseCells", spec := "fnExactLoseCells", unfollowed := true, recurses := true, apart := false }
def FnExactLoseCellsSaid : Prop := fnExactLoseCellsRow.holds Try.pinned (OpenSpec.ofChange fnExactLoseCellsSpec)

/-- ITS FALSE NEIGHBOUR: 'it returns false'. Refute it at one input. -/
def fnExactLoseCellsWrong : ChangeSpec := { name := "fnExactLoseCells", fn := fun _ => fun
  | [d1, d2] => { results := [.lit (.bool false)], args := [d1, d2] }
  | _ => none }
def FnExactLoseCellsWrongFalsely : Prop := fnExactLoseCellsRow.holds Try.pinned (OpenSpec.ofChange fnExactLoseCellsWrong)

/-- 'laws.FnExactFillFrom': WHATEVER THE INPUT: true; the input reads as it did. -/
def fnExactFillFromSpec : ChangeSpec := { name := "fnExactFillFrom", fn := fun _ => fun
  | [d1, d2] => { results := [.lit (.bool true)], args := [d1, d2] }
  | _ => none }
def fnExactFillFromRow : OpenClaim := { program := "ytjibhgjhjehdcaa", sum := "828f3bdc2b629ee97ff3006ff5a98e8b1f945ccf08e02927ba4a76e3ee2da045", func := "loop.example/g01322/laws.FnExactFillFrom", spec := "fnExactFillFrom", unfollowed := true, recurses := true, apart := false }
def FnExactFillFromSaid : Prop := fnExactFillFromRow.holds Try.pinned (OpenSpec.ofChange fnExactFillFromSpec)

/-- ITS FALSE NEIGHBOUR: 'it returns false'. Refute it at one input. -/
def fnExactFillFromWrong : ChangeSpec := { name := "fnExactFillFrom", fn := fun _ => fun
  | [d1, d2] => { results := [.lit (.bool false)], args := [d1, d2] }
  | _ => none }
def FnExactFillFromWrongFalsely : Prop := fnExactFillFromRow.holds Try.pinned (OpenSpec.ofChange fnExactFillFromWrong)

/-- 'laws.FnExactFillByKind': WHATEVER THE INPUT: true; the input reads as it did. -/
def fnExactFillByKindSpec : ChangeSpec := { name := "fnExactFillByKind", fn := fun _ => fun
  | [d1, d2] => { results := [.lit (.bool true)], args := [d1, d2] }
  | _ => none }
def fnExactFillByKindRow : OpenClaim := { program := "ytjibhgjhjehdcaa", sum := "828f3bdc2b629ee97ff3006ff5a98e8b1f945ccf08e02927ba4a76e3ee2da045", func := "loop.example/g01322/laws.FnExactFillByKind", spec := "fnExactFillByKind", unfollowed := true, recurses := true, apart := false }
def FnExactFillByKindSaid : Prop := fnExactFillByKindRow.holds Try.pinned (OpenSpec.ofChange fnExactFillByKindSpec)

/-- ITS FALSE NEIGHBOUR: 'it returns false'. Refute it at one input. -/
def fnExactFillByKindWrong : ChangeSpec := { name := "fnExactFillByKind", fn := fun _ => fun
  | [d1, d2] => { results := [.lit (.bool false)], args := [d1, d2] }
  | _ => none }
def FnExactFillByKindWrongFalsely : Prop := fnExactFillByKindRow.holds Try.pinned (OpenSpec.ofChange fnExactFillByKindWrong)

/-- 'laws.FnExactOrderOf': WHATEVER THE INPUT: true; the input reads as it did. -/
def fnExactOrderOfSpec : ChangeSpec := { name := "fnExactOrderOf", fn := fun _ => fun
  | [d] => { results := [.lit (.bool true)], args := [d] }
  | _ => none }
def fnExactOrderOfRow : OpenClaim := { program := "ytjibhgjhjehdcaa", sum := "828f3bdc2b629ee97ff3006ff5a98e8b1f945ccf08e02927ba4a76e3ee2da045", func := "loop.example/g01322/laws.FnExactOrderOf", spec := "fnExactOrderOf", unfollowed := true, recurses := true, apart := false }
def FnExactOrderOfSaid : Prop := fnExactOrderOfRow.holds Try.pinned (OpenSpec.ofChange fnExactOrderOfSpec)

/-- ITS FALSE NEIGHBOUR: 'it returns false'. Refute it at one input. -/
def fnExactOrderOfWrong : ChangeSpec := { name := "fnExactOrderOf", fn := fun _ => fun
  | [d] => { results := [.lit (.bool false)], args := [d] }
  | _ => none }
def FnExactOrderOfWrongFalsely : Prop := fnExactOrderOfRow.holds Try.pinned (OpenSpec.ofChange fnExactOrderOfWrong)

/-- 'laws.FnExactBeforeAll': WHATEVER THE INPUT: true; the input reads as it did. -/
def fnExactBeforeAllSpec : ChangeSpec := { name := "fnExactBeforeAll", fn := fun _ => fun
  | [d] => { results := [.lit (.bool true)], args := [d] }
  | _ => none }
def fnExactBeforeAllRow : OpenClaim := { program := "ytjibhgjhjehdcaa", sum := "828f3bdc2b629ee97ff3006ff5a98e8b1f945ccf08e02927ba4a76e3ee2da045", func := "loop.example/g01322/laws.FnExactBeforeAll", spec := "fnExactBeforeAll", unfollowed := true, recurses := true, apart := false }
def FnExactBeforeAllSaid : Prop := fnExactBeforeAllRow.holds Try.pinned (OpenSpec.ofChange fnExactBeforeAllSpec)

/-- ITS FALSE NEIGHBOUR: 'it returns false'. Refute it at one input. -/
def fnExactBeforeAllWrong : ChangeSpec := { name := "fnExactBeforeAll", fn := fun _ => fun
  | [d] => { results := [.lit (.bool false)], args := [d] }
  | _ => none }
def FnExactBeforeAllWrongFalsely : Prop := fnExactBeforeAllRow.holds Try.pinned (OpenSpec.ofChange fnExactBeforeAllWrong)

/-- 'laws.FnExactChainJobs': WHATEVER THE INPUT: true; the input reads as it did. -/
def fnExactChainJobsSpec : ChangeSpec := { name := "fnExactChainJobs", fn := fun _ => fun
  | [d1, d2, d3] => { results := [.lit (.bool true)], args := [d1, d2, d3] }
  | _ => none }
def fnExactChainJobsRow : OpenClaim := { program := "ytjibhgjhjehdcaa", sum := "828f3bdc2b629ee97ff3006ff5a98e8b1f945ccf08e02927ba4a76e3ee2da045", func := "loop.example/g01322/laws.FnExactChainJobs", spec := "fnExactChainJobs", unfollowed := true, recurses := true, apart := false }
def FnExactChainJobsSaid : Prop := fnExactChainJobsRow.holds Try.pinned (OpenSpec.ofChange fnExactChainJobsSpec)

/-- ITS FALSE NEIGHBOUR: 'it returns false'. Refute it at one input. -/
def fnExactChainJobsWrong : ChangeSpec := { name := "fnExactChainJobs", fn := fun _ => fun
  | [d1, d2, d3] => { results := [.lit (.bool false)], args := [d1, d2, d3] }
  | _ => none }
def FnExactChainJobsWrongFalsely : Prop := fnExactChainJobsRow.holds Try.pinned (OpenSpec.ofChange fnExactChainJobsWrong)

/-- 'laws.FnExactNearestOf': WHATEVER THE INPUT: true; the input reads as it did. -/
def fnExactNearestOfSpec : ChangeSpec := { name := "fnExactNearestOf", fn := fun _ => fun
  | [d1, d2] => { results := [.lit (.bool true)], args := [d1, d2] }
  | _ => none }
def fnExactNearestOfRow : OpenClaim := { program := "ytjibhgjhjehdcaa", sum := "828f3bdc2b629ee97ff3006ff5a98e8b1f945ccf08e02927ba4a76e3ee2da045", func := "loop.example/g01322/laws.FnExactNearestOf", spec := "fnExactNearestOf", unfollowed := true, recurses := true, apart := false }
def FnExactNearestOfSaid : Prop := fnExactNearestOfRow.holds Try.pinned (OpenSpec.ofChange fnExactNearestOfSpec)

/-- ITS FALSE NEIGHBOUR: 'it returns false'. Refute it at one input. -/
def fnExactNearestOfWrong : ChangeSpec := { name := "fnExactNearestOf", fn := fun _ => fun
  | [d1, d2] => { results := [.lit (.bool false)], args := [d1, d2] }
  | _ => none }
def FnExactNearestOfWrongFalsely : Prop := fnExactNearestOfRow.holds Try.pinned (OpenSpec.ofChange fnExactNearestOfWrong)

/-- 'laws.FnExactFillRound': WHATEVER THE INPUT: true; the input reads as it did. -/
def fnExactFillRoundSpec : ChangeSpec := { name := "fnExactFillRound", fn := fun _ => fun
  | [d] => { results := [.lit (.bool true)], args := [d] }
  | _ => none }
def fnExactFillRoundRow : OpenClaim := { program := "ytjibhgjhjehdcaa", sum := "828f3bdc2b629ee97ff3006ff5a98e8b1f945ccf08e02927ba4a76e3ee2da045", func := "loop.example/g01322/laws.FnExactFillRound", spec := "fnExactFillRound", unfollowed := true, recurses := true, apart := false }
def FnExactFillRoundSaid : Prop := fnExactFillRoundRow.holds Try.pinned (OpenSpec.ofChange fnExactFillRoundSpec)

/-- ITS FALSE NEIGHBOUR: 'it returns false'. Refute it at one input. -/
def fnExactFillRoundWrong : ChangeSpec := { name := "fnExactFillRound", fn := fun _ => fun
  | [d] => { results := [.lit (.bool false)], args := [d] }
  | _ => none }
def FnExactFillRoundWrongFalsely : Prop := fnExactFillRoundRow.holds Try.pinned (OpenSpec.ofChange fnExactFillRoundWrong)

/-- 'laws.FnExactFillByPeriods': WHATEVER THE INPUT: true; the input reads as it did. -/
def fnExactFillByPeriodsSpec : ChangeSpec := { name := "fnExactFillByPeriods", fn := fun _ => fun
  | [d1, d2, d3] => { results := [.lit (.bool true)], args := [d1, d2, d3] }
  | _ => none }
def fnExactFillByPeriodsRow : OpenClaim := { program := "ytjibhgjhjehdcaa", sum := "828f3bdc2b629ee97ff3006ff5a98e8b1f945ccf08e02927ba4a76e3ee2da045", func := "loop.example/g01322/laws.FnExactFillByPeriods", spec := "fnExactFillByPeriods", unfollowed := true, recurses := true, apart := false }
def FnExactFillByPeriodsSaid : Prop := fnExactFillByPeriodsRow.holds Try.pinned (OpenSpec.ofChange fnExactFillByPeriodsSpec)

/-- ITS FALSE NEIGHBOUR: 'it returns false'. Refute it at one input. -/
def fnExactFillByPeriodsWrong : ChangeSpec := { name := "fnExactFillByPeriods", fn := fun _ => fun
  | [d1, d2, d3] => { results := [.lit (.bool false)], args := [d1, d2, d3] }
  | _ => none }
def FnExactFillByPeriodsWrongFalsely : Prop := fnExactFillByPeriodsRow.holds Try.pinned (OpenSpec.ofChange fnExactFillByPeriodsWrong)

/-- 'laws.FnExactDropJob': WHATEVER THE INPUT: true; the input reads as it did. -/
def fnExactDropJobSpec : ChangeSpec := { name := "fnExactDropJob", fn := fun _ => fun
  | [d1, d2] => { results := [.lit (.bool true)], args := [d1, d2] }
  | _ => none }
def fnExactDropJobRow : OpenClaim := { program := "ytjibhgjhjehdcaa", sum := "828f3bdc2b629ee97ff3006ff5a98e8b1f945ccf08e02927ba4a76e3ee2da045", func := "loop.example/g01322/laws.FnExactDropJob", spec := "fnExactDropJob", unfollowed := true, recurses := true, apart := false }
def FnExactDropJobSaid : Prop := fnExactDropJobRow.holds Try.pinned (OpenSpec.ofChange fnExactDropJobSpec)

/-- ITS FALSE NEIGHBOUR: 'it returns false'. Refute it at one input. -/
def fnExactDropJobWrong : ChangeSpec := { name := "fnExactDropJob", fn := fun _ => fun
  | [d1, d2] => { results := [.lit (.bool false)], args := [d1, d2] }
  | _ => none }
def FnExactDropJobWrongFalsely : Prop := fnExactDropJobRow.holds Try.pinned (OpenSpec.ofChange fnExactDropJobWrong)

/-- 'laws.FnExactEarliestOf': WHATEVER THE INPUT: true; the input reads as it did. -/
def fnExactEarliestOfSpec : ChangeSpec := { name := "fnExactEarliestOf", fn := fun _ => fun
  | [d] => { results := [.lit (.bool true)], args := [d] }
  | _ => none }
def fnExactEarliestOfRow : OpenClaim := { program := "ytjibhgjhjehdcaa", sum := "828f3bdc2b629ee97ff3006ff5a98e8b1f945ccf08e02927ba4a76e3ee2da045", func := "loop.example/g01322/laws.FnExactEarliestOf", spec := "fnExactEarliestOf", unfollowed := true, recurses := true, apart := false }
def FnExactEarliestOfSaid : Prop := fnExactEarliestOfRow.holds Try.pinned (OpenSpec.ofChange fnExactEarliestOfSpec)

/-- ITS FALSE NEIGHBOUR: 'it returns false'. Refute it at one input. -/
def fnExactEarliestOfWrong : ChangeSpec := { name := "fnExactEarliestOf", fn := fun _ => fun
  | [d] => { results := [.lit (.bool false)], args := [d] }
  | _ => none }
def FnExactEarliestOfWrongFalsely : Prop := fnExactEarliestOfRow.holds Try.pinned (OpenSpec.ofChange fnExactEarliestOfWrong)

/-- 'laws.FnExactVoteOf': WHATEVER THE INPUT: true; the input reads as it did. -/
def fnExactVoteOfSpec : ChangeSpec := { name := "fnExactVoteOf", fn := fun _ => fun
  | [d] => { results := [.lit (.bool true)], args := [d] }
  | _ => none }
def fnExactVoteOfRow : OpenClaim := { program := "ytjibhgjhjehdcaa", sum := "828f3bdc2b629ee97ff3006ff5a98e8b1f945ccf08e02927ba4a76e3ee2da045", func := "loop.example/g01322/laws.FnExactVoteOf", spec := "fnExactVoteOf", unfollowed := true, recurses := true, apart := false }
def FnExactVoteOfSaid : Prop := fnExactVoteOfRow.holds Try.pinned (OpenSpec.ofChange fnExactVoteOfSpec)

/-- ITS FALSE NEIGHBOUR: 'it returns false'. Refute it at one input. -/
def fnExactVoteOfWrong : ChangeSpec := { name := "fnExactVoteOf", fn := fun _ => fun
  | [d] => { results := [.lit (.bool false)], args := [d] }
  | _ => none }
def FnExactVoteOfWrongFalsely : Prop := fnExactVoteOfRow.holds Try.pinned (OpenSpec.ofChange fnExactVoteOfWrong)

/- THE SECOND FORM. 'bulk': how many values and letters a reading holds, each counted each time it is reached (what is shared counts as often as it is met; a slice's spare places count too). A statement '..UptoSaid' is the law's where the arguments, and the package variables that the reading takes, are together of bulk at most 1048576: NARROWER than '..Said'. Prove '..Said' where nothing that the law and all that it calls make is longer than what came in: it says more and counts as full. Else prove '..UptoSaid'. A law counts once. -/
mutual
def uptoBulk {H : Type} : DataW H → Nat
  | .lit (.string bytes) => bytes.length + 1
  | .lit _ => 1
  | .nil => 1
  | .ptr d => uptoBulk d + 1
  | .slice elems spare => uptoBulkAll elems + uptoBulkAll spare + 1
  | .agg parts => uptoBulkAll parts + 1
  | .iface _ d => uptoBulk d + 1
  | .map entries => uptoBulkEntries entries + 1
  | .held _ => 1
def uptoBulkAll {H : Type} : List (DataW H) → Nat
  | [] => 0
  | d :: r => uptoBulk d + uptoBulkAll r
def uptoBulkEntries {H : Type} : List (Lit × DataW H) → Nat
  | [] => 0
  | x :: r => uptoBulkEntry x + uptoBulkEntries r
def uptoBulkEntry {H : Type} : Lit × DataW H → Nat
  | (.string bytes, d) => bytes.length + uptoBulk d + 1
  | (_, d) => uptoBulk d + 1
 end
def uptoSmall : (H : Type) → List (DataW H) → Bool := fun _ ds => decide (uptoBulkAll ds ≤ 1048576)
def OpenSpec.upto (s : _root_.Go.ChangeSpec) : _root_.Go.OpenSpec := { _root_.Go.OpenSpec.ofChange s with cond := some uptoSmall }

/-- 'laws.FnExactLoseCells', WHERE WHAT IT READS IS OF BULK AT MOST 1048576: true; the input reads as it did. -/
def fnExactLoseCellsUptoRow : OpenClaim := { program := "ytjibhgjhjehdcaa", sum := "828f3bdc2b629ee97ff3006ff5a98e8b1f945ccf08e02927ba4a76e3ee2da045", func := "loop.example/g01322/laws.FnExactLoseCells", spec := "fnExactLoseCells", unfollowed := true, recurses := true, apart := false, narrowed := true }
def FnExactLoseCellsUptoSaid : Prop := fnExactLoseCellsUptoRow.holds Try.pinned (OpenSpec.upto fnExactLoseCellsSpec)

/-- 'laws.FnExactFillFrom', WHERE WHAT IT READS IS OF BULK AT MOST 1048576: true; the input reads as it did. -/
def fnExactFillFromUptoRow : OpenClaim := { program := "ytjibhgjhjehdcaa", sum := "828f3bdc2b629ee97ff3006ff5a98e8b1f945ccf08e02927ba4a76e3ee2da045", func := "loop.example/g01322/laws.FnExactFillFrom", spec := "fnExactFillFrom", unfollowed := true, recurses := true, apart := false, narrowed := true }
def FnExactFillFromUptoSaid : Prop := fnExactFillFromUptoRow.holds Try.pinned (OpenSpec.upto fnExactFillFromSpec)

/-- 'laws.FnExactFillByKind', WHERE WHAT IT READS IS OF BULK AT MOST 1048576: true; the input reads as it did. -/
def fnExactFillByKindUptoRow : OpenClaim := { program := "ytjibhgjhjehdcaa", sum := "828f3bdc2b629ee97ff3006ff5a98e8b1f945ccf08e02927ba4a76e3ee2da045", func := "loop.example/g01322/laws.FnExactFillByKind", spec := "fnExactFillByKind", unfollowed := true, recurses := true, apart := false, narrowed := true }
def FnExactFillByKindUptoSaid : Prop := fnExactFillByKindUptoRow.holds Try.pinned (OpenSpec.upto fnExactFillByKindSpec)

/-- 'laws.FnExactOrderOf', WHERE WHAT IT READS IS OF BULK AT MOST 1048576: true; the input reads as it did. -/
def fnExactOrderOfUptoRow : OpenClaim := { program := "ytjibhgjhjehdcaa", sum := "828f3bdc2b629ee97ff3006ff5a98e8b1f945ccf08e02927ba4a76e3ee2da045", func := "loop.example/g01322/laws.FnExactOrderOf", spec := "fnExactOrderOf", unfollowed := true, recurses := true, apart := false, narrowed := true }
def FnExactOrderOfUptoSaid : Prop := fnExactOrderOfUptoRow.holds Try.pinned (OpenSpec.upto fnExactOrderOfSpec)

/-- 'laws.FnExactBeforeAll', WHERE WHAT IT READS IS OF BULK AT MOST 1048576: true; the input reads as it did. -/
def fnExactBeforeAllUptoRow : OpenClaim := { program := "ytjibhgjhjehdcaa", sum := "828f3bdc2b629ee97ff3006ff5a98e8b1f945ccf08e02927ba4a76e3ee2da045", func := "loop.example/g01322/laws.FnExactBeforeAll", spec := "fnExactBeforeAll", unfollowed := true, recurses := true, apart := false, narrowed := true }
def FnExactBeforeAllUptoSaid : Prop := fnExactBeforeAllUptoRow.holds Try.pinned (OpenSpec.upto fnExactBeforeAllSpec)

/-- 'laws.FnExactChainJobs', WHERE WHAT IT READS IS OF BULK AT MOST 1048576: true; the input reads as it did. -/
def fnExactChainJobsUptoRow : OpenClaim := { program := "ytjibhgjhjehdcaa", sum := "828f3bdc2b629ee97ff3006ff5a98e8b1f945ccf08e02927ba4a76e3ee2da045", func := "loop.example/g01322/laws.FnExactChainJobs", spec := "fnExactChainJobs", unfollowed := true, recurses := true, apart := false, narrowed := true }
def FnExactChainJobsUptoSaid : Prop := fnExactChainJobsUptoRow.holds Try.pinned (OpenSpec.upto fnExactChainJobsSpec)

/-- 'laws.FnExactNearestOf', WHERE WHAT IT READS IS OF BULK AT MOST 1048576: true; the input reads as it did. -/
def fnExactNearestOfUptoRow : OpenClaim := { program := "ytjibhgjhjehdcaa", sum := "828f3bdc2b629ee97ff3006ff5a98e8b1f945ccf08e02927ba4a76e3ee2da045", func := "loop.example/g01322/laws.FnExactNearestOf", spec := "fnExactNearestOf", unfollowed := true, recurses := true, apart := false, narrowed := true }
def FnExactNearestOfUptoSaid : Prop := fnExactNearestOfUptoRow.holds Try.pinned (OpenSpec.upto fnExactNearestOfSpec)

/-- 'laws.FnExactFillRound', WHERE WHAT IT READS IS OF BULK AT MOST 1048576: true; the input reads as it did. -/
def fnExactFillRoundUptoRow : OpenClaim := { program := "ytjibhgjhjehdcaa", sum := "828f3bdc2b629ee97ff3006ff5a98e8b1f945ccf08e02927ba4a76e3ee2da045", func := "loop.example/g01322/laws.FnExactFillRound", spec := "fnExactFillRound", unfollowed := true, recurses := true, apart := false, narrowed := true }
def FnExactFillRoundUptoSaid : Prop := fnExactFillRoundUptoRow.holds Try.pinned (OpenSpec.upto fnExactFillRoundSpec)

/-- 'laws.FnExactFillByPeriods', WHERE WHAT IT READS IS OF BULK AT MOST 1048576: true; the input reads as it did. -/
def fnExactFillByPeriodsUptoRow : OpenClaim := { program := "ytjibhgjhjehdcaa", sum := "828f3bdc2b629ee97ff3006ff5a98e8b1f945ccf08e02927ba4a76e3ee2da045", func := "loop.example/g01322/laws.FnExactFillByPeriods", spec := "fnExactFillByPeriods", unfollowed := true, recurses := true, apart := false, narrowed := true }
def FnExactFillByPeriodsUptoSaid : Prop := fnExactFillByPeriodsUptoRow.holds Try.pinned (OpenSpec.upto fnExactFillByPeriodsSpec)

/-- 'laws.FnExactDropJob', WHERE WHAT IT READS IS OF BULK AT MOST 1048576: true; the input reads as it did. -/
def fnExactDropJobUptoRow : OpenClaim := { program := "ytjibhgjhjehdcaa", sum := "828f3bdc2b629ee97ff3006ff5a98e8b1f945ccf08e02927ba4a76e3ee2da045", func := "loop.example/g01322/laws.FnExactDropJob", spec := "fnExactDropJob", unfollowed := true, recurses := true, apart := false, narrowed := true }
def FnExactDropJobUptoSaid : Prop := fnExactDropJobUptoRow.holds Try.pinned (OpenSpec.upto fnExactDropJobSpec)

/-- 'laws.FnExactEarliestOf', WHERE WHAT IT READS IS OF BULK AT MOST 1048576: true; the input reads as it did. -/
def fnExactEarliestOfUptoRow : OpenClaim := { program := "ytjibhgjhjehdcaa", sum := "828f3bdc2b629ee97ff3006ff5a98e8b1f945ccf08e02927ba4a76e3ee2da045", func := "loop.example/g01322/laws.FnExactEarliestOf", spec := "fnExactEarliestOf", unfollowed := true, recurses := true, apart := false, narrowed := true }
def FnExactEarliestOfUptoSaid : Prop := fnExactEarliestOfUptoRow.holds Try.pinned (OpenSpec.upto fnExactEarliestOfSpec)

/-- 'laws.FnExactVoteOf', WHERE WHAT IT READS IS OF BULK AT MOST 1048576: true; the input reads as it did. -/
def fnExactVoteOfUptoRow : OpenClaim := { program := "ytjibhgjhjehdcaa", sum := "828f3bdc2b629ee97ff3006ff5a98e8b1f945ccf08e02927ba4a76e3ee2da045", func := "loop.example/g01322/laws.FnExactVoteOf", spec := "fnExactVoteOf", unfollowed := true, recurses := true, apart := false, narrowed := true }
def FnExactVoteOfUptoSaid : Prop := fnExactVoteOfUptoRow.holds Try.pinned (OpenSpec.upto fnExactVoteOfSpec)

end Rows
end Go.Proofs.Ytjibhgjhjehdcaa
