/-
  DERIVED. GIVEN WITH THE SEED: THE CARDS: each row of YtbmaolhjplapoaaDoorRows.lean that lists a variable, with what it lists TIED to the program's text (the seventh form; the later family's looks); each row that meets fmt, with fmt's text TOLD by the authors' own Lean function (tested against real Go, not proved from fmt's source: count such statements apart). THE CARD IS WHAT COUNTS. Prove the row's statement (the work); the ties are given (YtbmaolhjplapoaaDoorTie.lean); close each card by the builder's one call (the guide's Derived/Test/ToyasCard.lean, 'card_holds'). Laid BY PROGRAM, IN A SANDBOX (cutbox-door.mjs). By AI agents, Wed Nov 11 2026. No macro, syntax, notation, axiom, sorry.
-/
import Derived.Test.YtbmaolhjplapoaaDoorRows
import GoSem.ClaimSeven
namespace Go.Proofs.YtbmaolhjplapoaaDoor
namespace Rows

/-- THE TIED CARD OF 'laws.FnExactReadRow'. -/
def fnExactReadRowCard : Claim7 := { stood := { row := fnExactReadRowRow, standIns := [], harness := (true, "bfe913b7bf22a7ab07569f849fa611c0c0954f611ffb94c6fcddc1acc1631f6d"), looks := true }, kinds := [], alts := [], laidByText := true, laidKinds := [.data, .data, .data, .data, .sentinel, .sentinel, .pinned], laidTests := true, laidLooks := .later }
def FnExactReadRowCardSaid : Prop := Claim7.holds Tryd.pinned (.plain (OpenSpec.ofChange fnExactReadRowSpec)) fnExactReadRowCard

/-- THE TIED CARD OF 'laws.FnStaggered'. -/
def fnStaggeredCard : Claim7 := { stood := { row := fnStaggeredRow, standIns := [], harness := (true, "bfe913b7bf22a7ab07569f849fa611c0c0954f611ffb94c6fcddc1acc1631f6d"), looks := true }, kinds := [], alts := [], laidByText := true, laidKinds := [.data, .pinned], laidTests := true, laidLooks := .later }
def FnStaggeredCardSaid : Prop := Claim7.holds Tryd.pinned (.plain (OpenSpec.ofChange fnStaggeredSpec)) fnStaggeredCard

/-- THE TIED CARD OF 'laws.FnExactReadJobs'. -/
def fnExactReadJobsCard : Claim7 := { stood := { row := fnExactReadJobsRow, standIns := [], harness := (true, "bfe913b7bf22a7ab07569f849fa611c0c0954f611ffb94c6fcddc1acc1631f6d"), looks := true }, kinds := [], alts := [], laidByText := true, laidKinds := [.data, .data, .data, .data, .sentinel, .sentinel, .pinned], laidTests := true, laidLooks := .later }
def FnExactReadJobsCardSaid : Prop := Claim7.holds Tryd.pinned (.plain (OpenSpec.ofChange fnExactReadJobsSpec)) fnExactReadJobsCard

/-- THE SECOND FORM's CARD OF 'laws.FnExactReadRow'. -/
def fnExactReadRowUptoCard : Claim7 := { stood := { row := fnExactReadRowUptoRow, standIns := [], harness := (true, "bfe913b7bf22a7ab07569f849fa611c0c0954f611ffb94c6fcddc1acc1631f6d"), looks := true }, kinds := [], alts := [], laidByText := true, laidKinds := [.data, .data, .data, .data, .sentinel, .sentinel, .pinned], laidTests := true, laidLooks := .later }
def FnExactReadRowUptoCardSaid : Prop := Claim7.holds Tryd.pinned (.plain (OpenSpec.upto fnExactReadRowSpec)) fnExactReadRowUptoCard

/-- THE SECOND FORM's CARD OF 'laws.FnStaggered'. -/
def fnStaggeredUptoCard : Claim7 := { stood := { row := fnStaggeredUptoRow, standIns := [], harness := (true, "bfe913b7bf22a7ab07569f849fa611c0c0954f611ffb94c6fcddc1acc1631f6d"), looks := true }, kinds := [], alts := [], laidByText := true, laidKinds := [.data, .pinned], laidTests := true, laidLooks := .later }
def FnStaggeredUptoCardSaid : Prop := Claim7.holds Tryd.pinned (.plain (OpenSpec.upto fnStaggeredSpec)) fnStaggeredUptoCard

/-- THE SECOND FORM's CARD OF 'laws.FnExactReadJobs'. -/
def fnExactReadJobsUptoCard : Claim7 := { stood := { row := fnExactReadJobsUptoRow, standIns := [], harness := (true, "bfe913b7bf22a7ab07569f849fa611c0c0954f611ffb94c6fcddc1acc1631f6d"), looks := true }, kinds := [], alts := [], laidByText := true, laidKinds := [.data, .data, .data, .data, .sentinel, .sentinel, .pinned], laidTests := true, laidLooks := .later }
def FnExactReadJobsUptoCardSaid : Prop := Claim7.holds Tryd.pinned (.plain (OpenSpec.upto fnExactReadJobsSpec)) fnExactReadJobsUptoCard
end Rows
end Go.Proofs.YtbmaolhjplapoaaDoor
