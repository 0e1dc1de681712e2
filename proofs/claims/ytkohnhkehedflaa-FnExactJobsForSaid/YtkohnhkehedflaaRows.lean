/-
  No cell of these rows narrows 'for every input' (looked for: loops, veiled, ifaces, maps, wideKeys, modest, calm, conditions, laid).
  DERIVED. THE GIVEN ROWS OF THIS SEAT. 8 by the template 'for every input the law returns true; each argument reads behind the call as it read before'; 0 by the template 'total and deterministic' (their statements: YtkohnhkehedflaaTotals.lean).
  GIVEN WITH THE SEED: the statements are not yours to turn. If you find one false, say at which input.
  Laid BY PROGRAM, IN A SANDBOX (cutbox-rows.mjs): the forced cells as the released guide's own fill.sh prints them over the translation 81e673c25b028a23… (all of the seat's roots in one cut). By AI agents, Wed Nov 11 2026. No macro, syntax, notation, axiom, sorry.
-/
import Derived.Test.YtkohnhkehedflaaChecked
import GoSem.Claim
import GoSem.ClaimJoined
import GoSem.ClaimMapViews
import Derived.JoinedTies
import Derived.KernelRfl
namespace Go.Proofs.Ytkohnhkehedflaa
/- THE CELL 'sum', in the pinned program and in every row, IS THE sha256 OF THE DUMP (.gsa) THAT YtkohnhkehedflaaProg.lean LOADS. Nothing in Lean hashes anything: it is a label: what it is worth is what the hold of that sum in a sandbox is worth. -/
noncomputable def Try.pinned : Pinned := { name := "ytkohnhkehedflaa", sum := "81e673c25b028a2343304150218d917df792c0d7c51b1943b8a2cf0cd583b244", checked := Try.checked }
namespace Rows
def none {H : Type} : Left H := { results := [], args := [] }

/-- 'laws.FnRepeats': WHATEVER THE INPUT: true; the input reads as it did. -/
def fnRepeatsSpec : ChangeSpec := { name := "fnRepeats", fn := fun _ => fun
  | [d1, d2] => { results := [.lit (.bool true)], args := [d1, d2] }
  | _ => none }
def fnRepeatsRow : OpenClaim := { program := "ytkohnhkehedflaa", sum := "81e673c25b028a2343304150218d917df792c0d7c51b1943b8a2cf0cd583b244", func := "loop.example/g01322/laws.FnRepeats", spec := "fnRepeats", unfollowed := true, recurses := true, apart := false }
def FnRepeatsSaid : Prop := fnRepeatsRow.holds Try.pinned (OpenSpec.ofChange fnRepeatsSpec)

/-- ITS FALSE NEIGHBOUR: 'it returns false'. Refute it at one input. -/
def fnRepeatsWrong : ChangeSpec := { name := "fnRepeats", fn := fun _ => fun
  | [d1, d2] => { results := [.lit (.bool false)], args := [d1, d2] }
  | _ => none }
def FnRepeatsWrongFalsely : Prop := fnRepeatsRow.holds Try.pinned (OpenSpec.ofChange fnRepeatsWrong)

/-- 'laws.FnExactHandsNeeded': WHATEVER THE INPUT: true; the input reads as it did. -/
def fnExactHandsNeededSpec : ChangeSpec := { name := "fnExactHandsNeeded", fn := fun _ => fun
  | [d1, d2, d3] => { results := [.lit (.bool true)], args := [d1, d2, d3] }
  | _ => none }
def fnExactHandsNeededRow : OpenClaim := { program := "ytkohnhkehedflaa", sum := "81e673c25b028a2343304150218d917df792c0d7c51b1943b8a2cf0cd583b244", func := "loop.example/g01322/laws.FnExactHandsNeeded", spec := "fnExactHandsNeeded", unfollowed := true, recurses := true, apart := false }
def FnExactHandsNeededSaid : Prop := fnExactHandsNeededRow.holds Try.pinned (OpenSpec.ofChange fnExactHandsNeededSpec)

/-- ITS FALSE NEIGHBOUR: 'it returns false'. Refute it at one input. -/
def fnExactHandsNeededWrong : ChangeSpec := { name := "fnExactHandsNeeded", fn := fun _ => fun
  | [d1, d2, d3] => { results := [.lit (.bool false)], args := [d1, d2, d3] }
  | _ => none }
def FnExactHandsNeededWrongFalsely : Prop := fnExactHandsNeededRow.holds Try.pinned (OpenSpec.ofChange fnExactHandsNeededWrong)

/-- 'laws.FnExactIdleDays': WHATEVER THE INPUT: true; the input reads as it did. -/
def fnExactIdleDaysSpec : ChangeSpec := { name := "fnExactIdleDays", fn := fun _ => fun
  | [d1, d2, d3] => { results := [.lit (.bool true)], args := [d1, d2, d3] }
  | _ => none }
def fnExactIdleDaysRow : OpenClaim := { program := "ytkohnhkehedflaa", sum := "81e673c25b028a2343304150218d917df792c0d7c51b1943b8a2cf0cd583b244", func := "loop.example/g01322/laws.FnExactIdleDays", spec := "fnExactIdleDays", unfollowed := true, recurses := true, apart := false }
def FnExactIdleDaysSaid : Prop := fnExactIdleDaysRow.holds Try.pinned (OpenSpec.ofChange fnExactIdleDaysSpec)

/-- ITS FALSE NEIGHBOUR: 'it returns false'. Refute it at one input. -/
def fnExactIdleDaysWrong : ChangeSpec := { name := "fnExactIdleDays", fn := fun _ => fun
  | [d1, d2, d3] => { results := [.lit (.bool false)], args := [d1, d2, d3] }
  | _ => none }
def FnExactIdleDaysWrongFalsely : Prop := fnExactIdleDaysRow.holds Try.pinned (OpenSpec.ofChange fnExactIdleDaysWrong)

/-- 'laws.FnExactLeastBars': WHATEVER THE INPUT: true; the input reads as it did. -/
def fnExactLeastBarsSpec : ChangeSpec := { name := "fnExactLeastBars", fn := fun _ => fun
  | [d1, d2, d3, d4] => { results := [.lit (.bool true)], args := [d1, d2, d3, d4] }
  | _ => none }
def fnExactLeastBarsRow : OpenClaim := { program := "ytkohnhkehedflaa", sum := "81e673c25b028a2343304150218d917df792c0d7c51b1943b8a2cf0cd583b244", func := "loop.example/g01322/laws.FnExactLeastBars", spec := "fnExactLeastBars", unfollowed := true, recurses := true, apart := false }
def FnExactLeastBarsSaid : Prop := fnExactLeastBarsRow.holds Try.pinned (OpenSpec.ofChange fnExactLeastBarsSpec)

/-- ITS FALSE NEIGHBOUR: 'it returns false'. Refute it at one input. -/
def fnExactLeastBarsWrong : ChangeSpec := { name := "fnExactLeastBars", fn := fun _ => fun
  | [d1, d2, d3, d4] => { results := [.lit (.bool false)], args := [d1, d2, d3, d4] }
  | _ => none }
def FnExactLeastBarsWrongFalsely : Prop := fnExactLeastBarsRow.holds Try.pinned (OpenSpec.ofChange fnExactLeastBarsWrong)

/-- 'laws.FnExactBestPlan': WHATEVER THE INPUT: true; the input reads as it did. -/
def fnExactBestPlanSpec : ChangeSpec := { name := "fnExactBestPlan", fn := fun _ => fun
  | [d1, d2, d3] => { results := [.lit (.bool true)], args := [d1, d2, d3] }
  | _ => none }
def fnExactBestPlanRow : OpenClaim := { program := "ytkohnhkehedflaa", sum := "81e673c25b028a2343304150218d917df792c0d7c51b1943b8a2cf0cd583b244", func := "loop.example/g01322/laws.FnExactBestPlan", spec := "fnExactBestPlan", unfollowed := true, recurses := true, apart := false }
def FnExactBestPlanSaid : Prop := fnExactBestPlanRow.holds Try.pinned (OpenSpec.ofChange fnExactBestPlanSpec)

/-- ITS FALSE NEIGHBOUR: 'it returns false'. Refute it at one input. -/
def fnExactBestPlanWrong : ChangeSpec := { name := "fnExactBestPlan", fn := fun _ => fun
  | [d1, d2, d3] => { results := [.lit (.bool false)], args := [d1, d2, d3] }
  | _ => none }
def FnExactBestPlanWrongFalsely : Prop := fnExactBestPlanRow.holds Try.pinned (OpenSpec.ofChange fnExactBestPlanWrong)

/-- 'laws.FnPlanned': WHATEVER THE INPUT: true; the input reads as it did. -/
def fnPlannedSpec : ChangeSpec := { name := "fnPlanned", fn := fun _ => fun
  | [d1, d2] => { results := [.lit (.bool true)], args := [d1, d2] }
  | _ => none }
def fnPlannedRow : OpenClaim := { program := "ytkohnhkehedflaa", sum := "81e673c25b028a2343304150218d917df792c0d7c51b1943b8a2cf0cd583b244", func := "loop.example/g01322/laws.FnPlanned", spec := "fnPlanned", unfollowed := true, recurses := true, apart := false }
def FnPlannedSaid : Prop := fnPlannedRow.holds Try.pinned (OpenSpec.ofChange fnPlannedSpec)

/-- ITS FALSE NEIGHBOUR: 'it returns false'. Refute it at one input. -/
def fnPlannedWrong : ChangeSpec := { name := "fnPlanned", fn := fun _ => fun
  | [d1, d2] => { results := [.lit (.bool false)], args := [d1, d2] }
  | _ => none }
def FnPlannedWrongFalsely : Prop := fnPlannedRow.holds Try.pinned (OpenSpec.ofChange fnPlannedWrong)

/-- 'laws.FnExactJobsFor': WHATEVER THE INPUT: true; the input reads as it did. -/
def fnExactJobsForSpec : ChangeSpec := { name := "fnExactJobsFor", fn := fun _ => fun
  | [d1, d2] => { results := [.lit (.bool true)], args := [d1, d2] }
  | _ => none }
def fnExactJobsForRow : OpenClaim := { program := "ytkohnhkehedflaa", sum := "81e673c25b028a2343304150218d917df792c0d7c51b1943b8a2cf0cd583b244", func := "loop.example/g01322/laws.FnExactJobsFor", spec := "fnExactJobsFor", unfollowed := true, recurses := true, apart := false }
def FnExactJobsForSaid : Prop := fnExactJobsForRow.holds Try.pinned (OpenSpec.ofChange fnExactJobsForSpec)

/-- ITS FALSE NEIGHBOUR: 'it returns false'. Refute it at one input. -/
def fnExactJobsForWrong : ChangeSpec := { name := "fnExactJobsFor", fn := fun _ => fun
  | [d1, d2] => { results := [.lit (.bool false)], args := [d1, d2] }
  | _ => none }
def FnExactJobsForWrongFalsely : Prop := fnExactJobsForRow.holds Try.pinned (OpenSpec.ofChange fnExactJobsForWrong)

/-- 'laws.FnPlans': WHATEVER THE INPUT: true; the input reads as it did. -/
def fnPlansSpec : ChangeSpec := { name := "fnPlans", fn := fun _ => fun
  | [d1, d2] => { results := [.lit (.bool true)], args := [d1, d2] }
  | _ => none }
def fnPlansRow : OpenClaim := { program := "ytkohnhkehedflaa", sum := "81e673c25b028a2343304150218d917df792c0d7c51b1943b8a2cf0cd583b244", func := "loop.example/g01322/laws.FnPlans", spec := "fnPlans", unfollowed := true, recurses := true, apart := false }
def FnPlansSaid : Prop := fnPlansRow.holds Try.pinned (OpenSpec.ofChange fnPlansSpec)

/-- ITS FALSE NEIGHBOUR: 'it returns false'. Refute it at one input. -/
def fnPlansWrong : ChangeSpec := { name := "fnPlans", fn := fun _ => fun
  | [d1, d2] => { results := [.lit (.bool false)], args := [d1, d2] }
  | _ => none }
def FnPlansWrongFalsely : Prop := fnPlansRow.holds Try.pinned (OpenSpec.ofChange fnPlansWrong)

/- THE SECOND FORM. 'bulk': how many values and letters a reading holds, each counted each time it is reached (what is shared counts as often as it is met; a slice's spare places count too). A statement '..UptoSaid' is the law's where the arguments, and the package variables that the reading takes, are together of bulk at most 1048576: NARROWER than '..Said'. Prove '..Said' where nothing that the law and all that it calls make is longer than what came in: it says more and counts as full. Else prove '..UptoSaid'. A law counts once. -/
mutual
def uptoBulk {H : Type} : DataW H → Nat
  | .lit (.string bytes) => bytes.length + 1
  | .lit _ => 1
  | .nil => 1
  | .ptr d => uptoBulk d + 1
  | .slice elems spare => uptoBulkAll elems + uptoBulkAll spare + 1
  | .agg parts => uptoBulkAll parts + 1
  | .iface _ d => uptoBulk d + 1
  | .map entries => uptoBulkEntries entries + 1
  | .held _ => 1
def uptoBulkAll {H : Type} : List (DataW H) → Nat
  | [] => 0
  | d :: r => uptoBulk d + uptoBulkAll r
def uptoBulkEntries {H : Type} : List (Lit × DataW H) → Nat
  | [] => 0
  | x :: r => uptoBulkEntry x + uptoBulkEntries r
def uptoBulkEntry {H : Type} : Lit × DataW H → Nat
  | (.string bytes, d) => bytes.length + uptoBulk d + 1
  | (_, d) => uptoBulk d + 1
 end
def uptoSmall : (H : Type) → List (DataW H) → Bool := fun _ ds => decide (uptoBulkAll ds ≤ 1048576)
def OpenSpec.upto (s : _root_.Go.ChangeSpec) : _root_.Go.OpenSpec := { _root_.Go.OpenSpec.ofChange s with cond := some uptoSmall }

/-- 'laws.FnRepeats', WHERE WHAT IT READS IS OF BULK AT MOST 1048576: true; the input reads as it did. -/
def fnRepeatsUptoRow : OpenClaim := { program := "ytkohnhkehedflaa", sum := "81e673c25b028a2343304150218d917df792c0d7c51b1943b8a2cf0cd583b244", func := "loop.example/g01322/laws.FnRepeats", spec := "fnRepeats", unfollowed := true, recurses := true, apart := false, narrowed := true }
def FnRepeatsUptoSaid : Prop := fnRepeatsUptoRow.holds Try.pinned (OpenSpec.upto fnRepeatsSpec)

/-- 'laws.FnExactHandsNeeded', WHERE WHAT IT READS IS OF BULK AT MOST 1048576: true; the input reads as it did. -/
def fnExactHandsNeededUptoRow : OpenClaim := { program := "ytkohnhkehedflaa", sum := "81e673c25b028a2343304150218d917df792c0d7c51b1943b8a2cf0cd583b244", func := "loop.example/g01322/laws.FnExactHandsNeeded", spec := "fnExactHandsNeeded", unfollowed := true, recurses := true, apart := false, narrowed := true }
def FnExactHandsNeededUptoSaid : Prop := fnExactHandsNeededUptoRow.holds Try.pinned (OpenSpec.upto fnExactHandsNeededSpec)

/-- 'laws.FnExactIdleDays', WHERE WHAT IT READS IS OF BULK AT MOST 1048576: true; the input reads as it did. -/
def fnExactIdleDaysUptoRow : OpenClaim := { program := "ytkohnhkehedflaa", sum := "81e673c25b028a2343304150218d917df792c0d7c51b1943b8a2cf0cd583b244", func := "loop.example/g01322/laws.FnExactIdleDays", spec := "fnExactIdleDays", unfollowed := true, recurses := true, apart := false, narrowed := true }
def FnExactIdleDaysUptoSaid : Prop := fnExactIdleDaysUptoRow.holds Try.pinned (OpenSpec.upto fnExactIdleDaysSpec)

/-- 'laws.FnExactLeastBars', WHERE WHAT IT READS IS OF BULK AT MOST 1048576: true; the input reads as it did. -/
def fnExactLeastBarsUptoRow : OpenClaim := { program := "ytkohnhkehedflaa", sum := "81e673c25b028a2343304150218d917df792c0d7c51b1943b8a2cf0cd583b244", func := "loop.example/g01322/laws.FnExactLeastBars", spec := "fnExactLeastBars", unfollowed := true, recurses := true, apart := false, narrowed := true }
def FnExactLeastBarsUptoSaid : Prop := fnExactLeastBarsUptoRow.holds Try.pinned (OpenSpec.upto fnExactLeastBarsSpec)

/-- 'laws.FnExactBestPlan', WHERE WHAT IT READS IS OF BULK AT MOST 1048576: true; the input reads as it did. -/
def fnExactBestPlanUptoRow : OpenClaim := { program := "ytkohnhkehedflaa", sum := "81e673c25b028a2343304150218d917df792c0d7c51b1943b8a2cf0cd583b244", func := "loop.example/g01322/laws.FnExactBestPlan", spec := "fnExactBestPlan", unfollowed := true, recurses := true, apart := false, narrowed := true }
def FnExactBestPlanUptoSaid : Prop := fnExactBestPlanUptoRow.holds Try.pinned (OpenSpec.upto fnExactBestPlanSpec)

/-- 'laws.FnPlanned', WHERE WHAT IT READS IS OF BULK AT MOST 1048576: true; the input reads as it did. -/
def fnPlannedUptoRow : OpenClaim := { program := "ytkohnhkehedflaa", sum := "81e673c25b028a2343304150218d917df792c0d7c51b1943b8a2cf0cd583b244", func := "loop.example/g01322/laws.FnPlanned", spec := "fnPlanned", unfollowed := true, recurses := true, apart := false, narrowed := true }
def FnPlannedUptoSaid : Prop := fnPlannedUptoRow.holds Try.pinned (OpenSpec.upto fnPlannedSpec)

/-- 'laws.FnExactJobsFor', WHERE WHAT IT READS IS OF BULK AT MOST 1048576: true; the input reads as it did. -/
def fnExactJobsForUptoRow : OpenClaim := { program := "ytkohnhkehedflaa", sum := "81e673c25b028a2343304150218d917df792c0d7c51b1943b8a2cf0cd583b244", func := "loop.example/g01322/laws.FnExactJobsFor", spec := "fnExactJobsFor", unfollowed := true, recurses := true, apart := false, narrowed := true }
def FnExactJobsForUptoSaid : Prop := fnExactJobsForUptoRow.holds Try.pinned (OpenSpec.upto fnExactJobsForSpec)

/-- 'laws.FnPlans', WHERE WHAT IT READS IS OF BULK AT MOST 1048576: true; the input reads as it did. -/
def fnPlansUptoRow : OpenClaim := { program := "ytkohnhkehedflaa", sum := "81e673c25b028a2343304150218d917df792c0d7c51b1943b8a2cf0cd583b244", func := "loop.example/g01322/laws.FnPlans", spec := "fnPlans", unfollowed := true, recurses := true, apart := false, narrowed := true }
def FnPlansUptoSaid : Prop := fnPlansUptoRow.holds Try.pinned (OpenSpec.upto fnPlansSpec)

end Rows
end Go.Proofs.Ytkohnhkehedflaa
