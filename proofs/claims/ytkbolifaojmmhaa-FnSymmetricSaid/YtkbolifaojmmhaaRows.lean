/-
  No cell of these rows narrows 'for every input' (looked for: loops, veiled, ifaces, maps, wideKeys, modest, calm, conditions, laid).
  DERIVED. THE GIVEN ROWS OF THIS SEAT. 12 by the template 'for every input the law returns true; each argument reads behind the call as it read before'; 0 by the template 'total and deterministic' (their statements: YtkbolifaojmmhaaTotals.lean).
  GIVEN WITH THE SEED: the statements are not yours to turn. If you find one false, say at which input.
  Laid BY PROGRAM, IN A SANDBOX (cutbox-rows.mjs): the forced cells as the released guide's own fill.sh prints them over the translation c2e2accfaa886f89… (all of the seat's roots in one cut). By AI agents, Wed Nov 11 2026. No macro, syntax, notation, axiom, sorry.
-/
import Derived.Test.YtkbolifaojmmhaaChecked
import GoSem.Claim
import GoSem.ClaimJoined
import GoSem.ClaimMapViews
import Derived.JoinedTies
import Derived.KernelRfl
namespace Go.Proofs.Ytkbolifaojmmhaa
/- THE CELL 'sum', in the pinned program and in every row, IS THE sha256 OF THE DUMP (.gsa) THAT YtkbolifaojmmhaaProg.lean LOADS. Nothing in Lean hashes anything: it is a label: what it is worth is what the hold of that sum in a sandbox is worth. -/
noncomputable def Try.pinned : Pinned := { name := "ytkbolifaojmmhaa", sum := "c2e2accfaa886f89568837298c552b93178620911b798128b35650d66f54b3b2", checked := Try.checked }
namespace Rows
def none {H : Type} : Left H := { results := [], args := [] }

/-- 'laws.FnExactFillByNeighbours': WHATEVER THE INPUT: true; the input reads as it did. -/
def fnExactFillByNeighboursSpec : ChangeSpec := { name := "fnExactFillByNeighbours", fn := fun _ => fun
  | [d1, d2] => { results := [.lit (.bool true)], args := [d1, d2] }
  | _ => none }
def fnExactFillByNeighboursRow : OpenClaim := { program := "ytkbolifaojmmhaa", sum := "c2e2accfaa886f89568837298c552b93178620911b798128b35650d66f54b3b2", func := "loop.example/g01322/laws.FnExactFillByNeighbours", spec := "fnExactFillByNeighbours", unfollowed := true, recurses := true, apart := false }
def FnExactFillByNeighboursSaid : Prop := fnExactFillByNeighboursRow.holds Try.pinned (OpenSpec.ofChange fnExactFillByNeighboursSpec)

/-- ITS FALSE NEIGHBOUR: 'it returns false'. Refute it at one input. -/
def fnExactFillByNeighboursWrong : ChangeSpec := { name := "fnExactFillByNeighbours", fn := fun _ => fun
  | [d1, d2] => { results := [.lit (.bool false)], args := [d1, d2] }
  | _ => none }
def FnExactFillByNeighboursWrongFalsely : Prop := fnExactFillByNeighboursRow.holds Try.pinned (OpenSpec.ofChange fnExactFillByNeighboursWrong)

/-- 'laws.FnExactBoundFor': WHATEVER THE INPUT: true; the input reads as it did. -/
def fnExactBoundForSpec : ChangeSpec := { name := "fnExactBoundFor", fn := fun _ => fun
  | [d1, d2] => { results := [.lit (.bool true)], args := [d1, d2] }
  | _ => none }
def fnExactBoundForRow : OpenClaim := { program := "ytkbolifaojmmhaa", sum := "c2e2accfaa886f89568837298c552b93178620911b798128b35650d66f54b3b2", func := "loop.example/g01322/laws.FnExactBoundFor", spec := "fnExactBoundFor", unfollowed := true, recurses := true, apart := false }
def FnExactBoundForSaid : Prop := fnExactBoundForRow.holds Try.pinned (OpenSpec.ofChange fnExactBoundForSpec)

/-- ITS FALSE NEIGHBOUR: 'it returns false'. Refute it at one input. -/
def fnExactBoundForWrong : ChangeSpec := { name := "fnExactBoundFor", fn := fun _ => fun
  | [d1, d2] => { results := [.lit (.bool false)], args := [d1, d2] }
  | _ => none }
def FnExactBoundForWrongFalsely : Prop := fnExactBoundForRow.holds Try.pinned (OpenSpec.ofChange fnExactBoundForWrong)

/-- 'laws.FnExactValidSlots': WHATEVER THE INPUT: true; the input reads as it did. -/
def fnExactValidSlotsSpec : ChangeSpec := { name := "fnExactValidSlots", fn := fun _ => fun
  | [d1, d2, d3] => { results := [.lit (.bool true)], args := [d1, d2, d3] }
  | _ => none }
def fnExactValidSlotsRow : OpenClaim := { program := "ytkbolifaojmmhaa", sum := "c2e2accfaa886f89568837298c552b93178620911b798128b35650d66f54b3b2", func := "loop.example/g01322/laws.FnExactValidSlots", spec := "fnExactValidSlots", unfollowed := true, recurses := true, apart := false }
def FnExactValidSlotsSaid : Prop := fnExactValidSlotsRow.holds Try.pinned (OpenSpec.ofChange fnExactValidSlotsSpec)

/-- ITS FALSE NEIGHBOUR: 'it returns false'. Refute it at one input. -/
def fnExactValidSlotsWrong : ChangeSpec := { name := "fnExactValidSlots", fn := fun _ => fun
  | [d1, d2, d3] => { results := [.lit (.bool false)], args := [d1, d2, d3] }
  | _ => none }
def FnExactValidSlotsWrongFalsely : Prop := fnExactValidSlotsRow.holds Try.pinned (OpenSpec.ofChange fnExactValidSlotsWrong)

/-- 'laws.FnExactLatestOf': WHATEVER THE INPUT: true; the input reads as it did. -/
def fnExactLatestOfSpec : ChangeSpec := { name := "fnExactLatestOf", fn := fun _ => fun
  | [d1, d2] => { results := [.lit (.bool true)], args := [d1, d2] }
  | _ => none }
def fnExactLatestOfRow : OpenClaim := { program := "ytkbolifaojmmhaa", sum := "c2e2accfaa886f89568837298c552b93178620911b798128b35650d66f54b3b2", func := "loop.example/g01322/laws.FnExactLatestOf", spec := "fnExactLatestOf", unfollowed := true, recurses := true, apart := false }
def FnExactLatestOfSaid : Prop := fnExactLatestOfRow.holds Try.pinned (OpenSpec.ofChange fnExactLatestOfSpec)

/-- ITS FALSE NEIGHBOUR: 'it returns false'. Refute it at one input. -/
def fnExactLatestOfWrong : ChangeSpec := { name := "fnExactLatestOf", fn := fun _ => fun
  | [d1, d2] => { results := [.lit (.bool false)], args := [d1, d2] }
  | _ => none }
def FnExactLatestOfWrongFalsely : Prop := fnExactLatestOfRow.holds Try.pinned (OpenSpec.ofChange fnExactLatestOfWrong)

/-- 'laws.FnExactLongestChain': WHATEVER THE INPUT: true; the input reads as it did. -/
def fnExactLongestChainSpec : ChangeSpec := { name := "fnExactLongestChain", fn := fun _ => fun
  | [d] => { results := [.lit (.bool true)], args := [d] }
  | _ => none }
def fnExactLongestChainRow : OpenClaim := { program := "ytkbolifaojmmhaa", sum := "c2e2accfaa886f89568837298c552b93178620911b798128b35650d66f54b3b2", func := "loop.example/g01322/laws.FnExactLongestChain", spec := "fnExactLongestChain", unfollowed := true, recurses := true, apart := false }
def FnExactLongestChainSaid : Prop := fnExactLongestChainRow.holds Try.pinned (OpenSpec.ofChange fnExactLongestChainSpec)

/-- ITS FALSE NEIGHBOUR: 'it returns false'. Refute it at one input. -/
def fnExactLongestChainWrong : ChangeSpec := { name := "fnExactLongestChain", fn := fun _ => fun
  | [d] => { results := [.lit (.bool false)], args := [d] }
  | _ => none }
def FnExactLongestChainWrongFalsely : Prop := fnExactLongestChainRow.holds Try.pinned (OpenSpec.ofChange fnExactLongestChainWrong)

/-- 'laws.FnExactStaggerRows': WHATEVER THE INPUT: true; the input reads as it did. -/
def fnExactStaggerRowsSpec : ChangeSpec := { name := "fnExactStaggerRows", fn := fun _ => fun
  | [d1, d2, d3, d4, d5] => { results := [.lit (.bool true)], args := [d1, d2, d3, d4, d5] }
  | _ => none }
def fnExactStaggerRowsRow : OpenClaim := { program := "ytkbolifaojmmhaa", sum := "c2e2accfaa886f89568837298c552b93178620911b798128b35650d66f54b3b2", func := "loop.example/g01322/laws.FnExactStaggerRows", spec := "fnExactStaggerRows", unfollowed := true, recurses := true, apart := false }
def FnExactStaggerRowsSaid : Prop := fnExactStaggerRowsRow.holds Try.pinned (OpenSpec.ofChange fnExactStaggerRowsSpec)

/-- ITS FALSE NEIGHBOUR: 'it returns false'. Refute it at one input. -/
def fnExactStaggerRowsWrong : ChangeSpec := { name := "fnExactStaggerRows", fn := fun _ => fun
  | [d1, d2, d3, d4, d5] => { results := [.lit (.bool false)], args := [d1, d2, d3, d4, d5] }
  | _ => none }
def FnExactStaggerRowsWrongFalsely : Prop := fnExactStaggerRowsRow.holds Try.pinned (OpenSpec.ofChange fnExactStaggerRowsWrong)

/-- 'laws.FnExactFirstWrongSlot': WHATEVER THE INPUT: true; the input reads as it did. -/
def fnExactFirstWrongSlotSpec : ChangeSpec := { name := "fnExactFirstWrongSlot", fn := fun _ => fun
  | [d1, d2, d3] => { results := [.lit (.bool true)], args := [d1, d2, d3] }
  | _ => none }
def fnExactFirstWrongSlotRow : OpenClaim := { program := "ytkbolifaojmmhaa", sum := "c2e2accfaa886f89568837298c552b93178620911b798128b35650d66f54b3b2", func := "loop.example/g01322/laws.FnExactFirstWrongSlot", spec := "fnExactFirstWrongSlot", unfollowed := true, recurses := true, apart := false }
def FnExactFirstWrongSlotSaid : Prop := fnExactFirstWrongSlotRow.holds Try.pinned (OpenSpec.ofChange fnExactFirstWrongSlotSpec)

/-- ITS FALSE NEIGHBOUR: 'it returns false'. Refute it at one input. -/
def fnExactFirstWrongSlotWrong : ChangeSpec := { name := "fnExactFirstWrongSlot", fn := fun _ => fun
  | [d1, d2, d3] => { results := [.lit (.bool false)], args := [d1, d2, d3] }
  | _ => none }
def FnExactFirstWrongSlotWrongFalsely : Prop := fnExactFirstWrongSlotRow.holds Try.pinned (OpenSpec.ofChange fnExactFirstWrongSlotWrong)

/-- 'laws.FnNeighbours': WHATEVER THE INPUT: true; the input reads as it did. -/
def fnNeighboursSpec : ChangeSpec := { name := "fnNeighbours", fn := fun _ => fun
  | [d1, d2] => { results := [.lit (.bool true)], args := [d1, d2] }
  | _ => none }
def fnNeighboursRow : OpenClaim := { program := "ytkbolifaojmmhaa", sum := "c2e2accfaa886f89568837298c552b93178620911b798128b35650d66f54b3b2", func := "loop.example/g01322/laws.FnNeighbours", spec := "fnNeighbours", unfollowed := true, recurses := true, apart := false }
def FnNeighboursSaid : Prop := fnNeighboursRow.holds Try.pinned (OpenSpec.ofChange fnNeighboursSpec)

/-- ITS FALSE NEIGHBOUR: 'it returns false'. Refute it at one input. -/
def fnNeighboursWrong : ChangeSpec := { name := "fnNeighbours", fn := fun _ => fun
  | [d1, d2] => { results := [.lit (.bool false)], args := [d1, d2] }
  | _ => none }
def FnNeighboursWrongFalsely : Prop := fnNeighboursRow.holds Try.pinned (OpenSpec.ofChange fnNeighboursWrong)

/-- 'laws.FnExactLengthOfPlan': WHATEVER THE INPUT: true; the input reads as it did. -/
def fnExactLengthOfPlanSpec : ChangeSpec := { name := "fnExactLengthOfPlan", fn := fun _ => fun
  | [d1, d2, d3] => { results := [.lit (.bool true)], args := [d1, d2, d3] }
  | _ => none }
def fnExactLengthOfPlanRow : OpenClaim := { program := "ytkbolifaojmmhaa", sum := "c2e2accfaa886f89568837298c552b93178620911b798128b35650d66f54b3b2", func := "loop.example/g01322/laws.FnExactLengthOfPlan", spec := "fnExactLengthOfPlan", unfollowed := true, recurses := true, apart := false }
def FnExactLengthOfPlanSaid : Prop := fnExactLengthOfPlanRow.holds Try.pinned (OpenSpec.ofChange fnExactLengthOfPlanSpec)

/-- ITS FALSE NEIGHBOUR: 'it returns false'. Refute it at one input. -/
def fnExactLengthOfPlanWrong : ChangeSpec := { name := "fnExactLengthOfPlan", fn := fun _ => fun
  | [d1, d2, d3] => { results := [.lit (.bool false)], args := [d1, d2, d3] }
  | _ => none }
def FnExactLengthOfPlanWrongFalsely : Prop := fnExactLengthOfPlanRow.holds Try.pinned (OpenSpec.ofChange fnExactLengthOfPlanWrong)

/-- 'laws.FnExactPlanInOrder': WHATEVER THE INPUT: true; the input reads as it did. -/
def fnExactPlanInOrderSpec : ChangeSpec := { name := "fnExactPlanInOrder", fn := fun _ => fun
  | [d1, d2, d3] => { results := [.lit (.bool true)], args := [d1, d2, d3] }
  | _ => none }
def fnExactPlanInOrderRow : OpenClaim := { program := "ytkbolifaojmmhaa", sum := "c2e2accfaa886f89568837298c552b93178620911b798128b35650d66f54b3b2", func := "loop.example/g01322/laws.FnExactPlanInOrder", spec := "fnExactPlanInOrder", unfollowed := true, recurses := true, apart := false }
def FnExactPlanInOrderSaid : Prop := fnExactPlanInOrderRow.holds Try.pinned (OpenSpec.ofChange fnExactPlanInOrderSpec)

/-- ITS FALSE NEIGHBOUR: 'it returns false'. Refute it at one input. -/
def fnExactPlanInOrderWrong : ChangeSpec := { name := "fnExactPlanInOrder", fn := fun _ => fun
  | [d1, d2, d3] => { results := [.lit (.bool false)], args := [d1, d2, d3] }
  | _ => none }
def FnExactPlanInOrderWrongFalsely : Prop := fnExactPlanInOrderRow.holds Try.pinned (OpenSpec.ofChange fnExactPlanInOrderWrong)

/-- 'laws.FnSymmetric': WHATEVER THE INPUT: true; the input reads as it did. -/
def fnSymmetricSpec : ChangeSpec := { name := "fnSymmetric", fn := fun _ => fun
  | [d1, d2] => { results := [.lit (.bool true)], args := [d1, d2] }
  | _ => none }
def fnSymmetricRow : OpenClaim := { program := "ytkbolifaojmmhaa", sum := "c2e2accfaa886f89568837298c552b93178620911b798128b35650d66f54b3b2", func := "loop.example/g01322/laws.FnSymmetric", spec := "fnSymmetric", unfollowed := true, recurses := true, apart := false }
def FnSymmetricSaid : Prop := fnSymmetricRow.holds Try.pinned (OpenSpec.ofChange fnSymmetricSpec)

/-- ITS FALSE NEIGHBOUR: 'it returns false'. Refute it at one input. -/
def fnSymmetricWrong : ChangeSpec := { name := "fnSymmetric", fn := fun _ => fun
  | [d1, d2] => { results := [.lit (.bool false)], args := [d1, d2] }
  | _ => none }
def FnSymmetricWrongFalsely : Prop := fnSymmetricRow.holds Try.pinned (OpenSpec.ofChange fnSymmetricWrong)

/-- 'laws.FnExactBusyOn': WHATEVER THE INPUT: true; the input reads as it did. -/
def fnExactBusyOnSpec : ChangeSpec := { name := "fnExactBusyOn", fn := fun _ => fun
  | [d1, d2, d3, d4] => { results := [.lit (.bool true)], args := [d1, d2, d3, d4] }
  | _ => none }
def fnExactBusyOnRow : OpenClaim := { program := "ytkbolifaojmmhaa", sum := "c2e2accfaa886f89568837298c552b93178620911b798128b35650d66f54b3b2", func := "loop.example/g01322/laws.FnExactBusyOn", spec := "fnExactBusyOn", unfollowed := true, recurses := true, apart := false }
def FnExactBusyOnSaid : Prop := fnExactBusyOnRow.holds Try.pinned (OpenSpec.ofChange fnExactBusyOnSpec)

/-- ITS FALSE NEIGHBOUR: 'it returns false'. Refute it at one input. -/
def fnExactBusyOnWrong : ChangeSpec := { name := "fnExactBusyOn", fn := fun _ => fun
  | [d1, d2, d3, d4] => { results := [.lit (.bool false)], args := [d1, d2, d3, d4] }
  | _ => none }
def FnExactBusyOnWrongFalsely : Prop := fnExactBusyOnRow.holds Try.pinned (OpenSpec.ofChange fnExactBusyOnWrong)

/- THE SECOND FORM. 'bulk': how many values and letters a reading holds, each counted each time it is reached (what is shared counts as often as it is met; a slice's spare places count too). A statement '..UptoSaid' is the law's where the arguments, and the package variables that the reading takes, are together of bulk at most 1048576: NARROWER than '..Said'. Prove '..Said' where nothing that the law and all that it calls make is longer than what came in: it says more and counts as full. Else prove '..UptoSaid'. A law counts once. -/
mutual
def uptoBulk {H : Type} : DataW H → Nat
  | .lit (.string bytes) => bytes.length + 1
  | .lit _ => 1
  | .nil => 1
  | .ptr d => uptoBulk d + 1
  | .slice elems spare => uptoBulkAll elems + uptoBulkAll spare + 1
  | .agg parts => uptoBulkAll parts + 1
  | .iface _ d => uptoBulk d + 1
  | .map entries => uptoBulkEntries entries + 1
  | .held _ => 1
def uptoBulkAll {H : Type} : List (DataW H) → Nat
  | [] => 0
  | d :: r => uptoBulk d + uptoBulkAll r
def uptoBulkEntries {H : Type} : List (Lit × DataW H) → Nat
  | [] => 0
  | x :: r => uptoBulkEntry x + uptoBulkEntries r
def uptoBulkEntry {H : Type} : Lit × DataW H → Nat
  | (.string bytes, d) => bytes.length + uptoBulk d + 1
  | (_, d) => uptoBulk d + 1
 end
def uptoSmall : (H : Type) → List (DataW H) → Bool := fun _ ds => decide (uptoBulkAll ds ≤ 1048576)
def OpenSpec.upto (s : _root_.Go.ChangeSpec) : _root_.Go.OpenSpec := { _root_.Go.OpenSpec.ofChange s with cond := some uptoSmall }

/-- 'laws.FnExactFillByNeighbours', WHERE WHAT IT READS IS OF BULK AT MOST 1048576: true; the input reads as it did. -/
def fnExactFillByNeighboursUptoRow : OpenClaim := { program := "ytkbolifaojmmhaa", sum := "c2e2accfaa886f89568837298c552b93178620911b798128b35650d66f54b3b2", func := "loop.example/g01322/laws.FnExactFillByNeighbours", spec := "fnExactFillByNeighbours", unfollowed := true, recurses := true, apart := false, narrowed := true }
def FnExactFillByNeighboursUptoSaid : Prop := fnExactFillByNeighboursUptoRow.holds Try.pinned (OpenSpec.upto fnExactFillByNeighboursSpec)

/-- 'laws.FnExactBoundFor', WHERE WHAT IT READS IS OF BULK AT MOST 1048576: true; the input reads as it did. -/
def fnExactBoundForUptoRow : OpenClaim := { program := "ytkbolifaojmmhaa", sum := "c2e2accfaa886f89568837298c552b93178620911b798128b35650d66f54b3b2", func := "loop.example/g01322/laws.FnExactBoundFor", spec := "fnExactBoundFor", unfollowed := true, recurses := true, apart := false, narrowed := true }
def FnExactBoundForUptoSaid : Prop := fnExactBoundForUptoRow.holds Try.pinned (OpenSpec.upto fnExactBoundForSpec)

/-- 'laws.FnExactValidSlots', WHERE WHAT IT READS IS OF BULK AT MOST 1048576: true; the input reads as it did. -/
def fnExactValidSlotsUptoRow : OpenClaim := { program := "ytkbolifaojmmhaa", sum := "c2e2accfaa886f89568837298c552b93178620911b798128b35650d66f54b3b2", func := "loop.example/g01322/laws.FnExactValidSlots", spec := "fnExactValidSlots", unfollowed := true, recurses := true, apart := false, narrowed := true }
def FnExactValidSlotsUptoSaid : Prop := fnExactValidSlotsUptoRow.holds Try.pinned (OpenSpec.upto fnExactValidSlotsSpec)

/-- 'laws.FnExactLatestOf', WHERE WHAT IT READS IS OF BULK AT MOST 1048576: true; the input reads as it did. -/
def fnExactLatestOfUptoRow : OpenClaim := { program := "ytkbolifaojmmhaa", sum := "c2e2accfaa886f89568837298c552b93178620911b798128b35650d66f54b3b2", func := "loop.example/g01322/laws.FnExactLatestOf", spec := "fnExactLatestOf", unfollowed := true, recurses := true, apart := false, narrowed := true }
def FnExactLatestOfUptoSaid : Prop := fnExactLatestOfUptoRow.holds Try.pinned (OpenSpec.upto fnExactLatestOfSpec)

/-- 'laws.FnExactLongestChain', WHERE WHAT IT READS IS OF BULK AT MOST 1048576: true; the input reads as it did. -/
def fnExactLongestChainUptoRow : OpenClaim := { program := "ytkbolifaojmmhaa", sum := "c2e2accfaa886f89568837298c552b93178620911b798128b35650d66f54b3b2", func := "loop.example/g01322/laws.FnExactLongestChain", spec := "fnExactLongestChain", unfollowed := true, recurses := true, apart := false, narrowed := true }
def FnExactLongestChainUptoSaid : Prop := fnExactLongestChainUptoRow.holds Try.pinned (OpenSpec.upto fnExactLongestChainSpec)

/-- 'laws.FnExactStaggerRows', WHERE WHAT IT READS IS OF BULK AT MOST 1048576: true; the input reads as it did. -/
def fnExactStaggerRowsUptoRow : OpenClaim := { program := "ytkbolifaojmmhaa", sum := "c2e2accfaa886f89568837298c552b93178620911b798128b35650d66f54b3b2", func := "loop.example/g01322/laws.FnExactStaggerRows", spec := "fnExactStaggerRows", unfollowed := true, recurses := true, apart := false, narrowed := true }
def FnExactStaggerRowsUptoSaid : Prop := fnExactStaggerRowsUptoRow.holds Try.pinned (OpenSpec.upto fnExactStaggerRowsSpec)

/-- 'laws.FnExactFirstWrongSlot', WHERE WHAT IT READS IS OF BULK AT MOST 1048576: true; the input reads as it did. -/
def fnExactFirstWrongSlotUptoRow : OpenClaim := { program := "ytkbolifaojmmhaa", sum := "c2e2accfaa886f89568837298c552b93178620911b798128b35650d66f54b3b2", func := "loop.example/g01322/laws.FnExactFirstWrongSlot", spec := "fnExactFirstWrongSlot", unfollowed := true, recurses := true, apart := false, narrowed := true }
def FnExactFirstWrongSlotUptoSaid : Prop := fnExactFirstWrongSlotUptoRow.holds Try.pinned (OpenSpec.upto fnExactFirstWrongSlotSpec)

/-- 'laws.FnNeighbours', WHERE WHAT IT READS IS OF BULK AT MOST 1048576: true; the input reads as it did. -/
def fnNeighboursUptoRow : OpenClaim := { program := "ytkbolifaojmmhaa", sum := "c2e2accfaa886f89568837298c552b93178620911b798128b35650d66f54b3b2", func := "loop.example/g01322/laws.FnNeighbours", spec := "fnNeighbours", unfollowed := true, recurses := true, apart := false, narrowed := true }
def FnNeighboursUptoSaid : Prop := fnNeighboursUptoRow.holds Try.pinned (OpenSpec.upto fnNeighboursSpec)

/-- 'laws.FnExactLengthOfPlan', WHERE WHAT IT READS IS OF BULK AT MOST 1048576: true; the input reads as it did. -/
def fnExactLengthOfPlanUptoRow : OpenClaim := { program := "ytkbolifaojmmhaa", sum := "c2e2accfaa886f89568837298c552b93178620911b798128b35650d66f54b3b2", func := "loop.example/g01322/laws.FnExactLengthOfPlan", spec := "fnExactLengthOfPlan", unfollowed := true, recurses := true, apart := false, narrowed := true }
def FnExactLengthOfPlanUptoSaid : Prop := fnExactLengthOfPlanUptoRow.holds Try.pinned (OpenSpec.upto fnExactLengthOfPlanSpec)

/-- 'laws.FnExactPlanInOrder', WHERE WHAT IT READS IS OF BULK AT MOST 1048576: true; the input reads as it did. -/
def fnExactPlanInOrderUptoRow : OpenClaim := { program := "ytkbolifaojmmhaa", sum := "c2e2accfaa886f89568837298c552b93178620911b798128b35650d66f54b3b2", func := "loop.example/g01322/laws.FnExactPlanInOrder", spec := "fnExactPlanInOrder", unfollowed := true, recurses := true, apart := false, narrowed := true }
def FnExactPlanInOrderUptoSaid : Prop := fnExactPlanInOrderUptoRow.holds Try.pinned (OpenSpec.upto fnExactPlanInOrderSpec)

/-- 'laws.FnSymmetric', WHERE WHAT IT READS IS OF BULK AT MOST 1048576: true; the input reads as it did. -/
def fnSymmetricUptoRow : OpenClaim := { program := "ytkbolifaojmmhaa", sum := "c2e2accfaa886f89568837298c552b93178620911b798128b35650d66f54b3b2", func := "loop.example/g01322/laws.FnSymmetric", spec := "fnSymmetric", unfollowed := true, recurses := true, apart := false, narrowed := true }
def FnSymmetricUptoSaid : Prop := fnSymmetricUptoRow.holds Try.pinned (OpenSpec.upto fnSymmetricSpec)

/-- 'laws.FnExactBusyOn', WHERE WHAT IT READS IS OF BULK AT MOST 1048576: true; the input reads as it did. -/
def fnExactBusyOnUptoRow : OpenClaim := { program := "ytkbolifaojmmhaa", sum := "c2e2accfaa886f89568837298c552b93178620911b798128b35650d66f54b3b2", func := "loop.example/g01322/laws.FnExactBusyOn", spec := "fnExactBusyOn", unfollowed := true, recurses := true, apart := false, narrowed := true }
def FnExactBusyOnUptoSaid : Prop := fnExactBusyOnUptoRow.holds Try.pinned (OpenSpec.upto fnExactBusyOnSpec)

end Rows
end Go.Proofs.Ytkbolifaojmmhaa
