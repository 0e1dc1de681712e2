/-
  DERIVED. GIVEN WITH THE SEED: THE CARDS: each row of YtkohnhkehedflaaDoorRows.lean that lists a variable, with what it lists TIED to the program's text (the seventh form; the later family's looks); each row that meets fmt, with fmt's text TOLD by the authors' own Lean function (tested against real Go, not proved from fmt's source: count such statements apart). THE CARD IS WHAT COUNTS. Prove the row's statement (the work); the ties are given (YtkohnhkehedflaaDoorTie.lean); close each card by the builder's one call (the guide's Derived/Test/ToyasCard.lean, 'card_holds'). Laid BY PROGRAM, IN A SANDBOX (cutbox-door.mjs). By AI agents, Wed Nov 11 2026. No macro, syntax, notation, axiom, sorry.
-/
import Derived.Test.YtkohnhkehedflaaDoorRows
import GoSem.ClaimSeven
namespace Go.Proofs.YtkohnhkehedflaaDoor
namespace Rows

/-- THE TIED CARD OF 'laws.FnExactTurnsOf'. -/
def fnExactTurnsOfCard : Claim7 := { stood := { row := fnExactTurnsOfRow, standIns := [], harness := (true, "960d0d9ddd46ee53558ad627bdf27b703a2ef1cf1d21ecd7453a5d2ee2e361d2"), looks := false }, kinds := [], alts := [], laidByText := true, laidKinds := [.data, .pinned], laidTests := true, laidLooks := .later }
def FnExactTurnsOfCardSaid : Prop := Claim7.holds Tryd.pinned (.plain (OpenSpec.ofChange fnExactTurnsOfSpec)) fnExactTurnsOfCard

/-- THE TIED CARD OF 'laws.FnExactRowText'. -/
def fnExactRowTextCard : Claim7 := { stood := { row := fnExactRowTextRow, standIns := [], harness := (true, "960d0d9ddd46ee53558ad627bdf27b703a2ef1cf1d21ecd7453a5d2ee2e361d2"), looks := false }, kinds := [], alts := [], laidByText := true, laidKinds := [.data, .data, .data], laidTests := true, laidLooks := .later }
def FnExactRowTextCardSaid : Prop := Claim7.holds Tryd.pinned (.plain (OpenSpec.ofChange fnExactRowTextSpec)) fnExactRowTextCard

/-- THE TIED CARD OF 'laws.FnExactStonesAlong'. -/
def fnExactStonesAlongCard : Claim7 := { stood := { row := fnExactStonesAlongRow, standIns := [], harness := (true, "960d0d9ddd46ee53558ad627bdf27b703a2ef1cf1d21ecd7453a5d2ee2e361d2"), looks := false }, kinds := [], alts := [], laidByText := true, laidKinds := [.data, .pinned], laidTests := true, laidLooks := .later }
def FnExactStonesAlongCardSaid : Prop := Claim7.holds Tryd.pinned (.plain (OpenSpec.ofChange fnExactStonesAlongSpec)) fnExactStonesAlongCard

/-- THE TIED CARD OF 'laws.FnExactJobsText'. -/
def fnExactJobsTextCard : Claim7 := { stood := { row := fnExactJobsTextRow, standIns := [], harness := (true, "960d0d9ddd46ee53558ad627bdf27b703a2ef1cf1d21ecd7453a5d2ee2e361d2"), looks := false }, kinds := [], alts := [], laidByText := true, laidKinds := [.data, .data, .data], laidTests := true, laidLooks := .later }
def FnExactJobsTextCardSaid : Prop := Claim7.holds Tryd.pinned (.plain (OpenSpec.ofChange fnExactJobsTextSpec)) fnExactJobsTextCard

/-- THE SECOND FORM's CARD OF 'laws.FnExactTurnsOf'. -/
def fnExactTurnsOfUptoCard : Claim7 := { stood := { row := fnExactTurnsOfUptoRow, standIns := [], harness := (true, "960d0d9ddd46ee53558ad627bdf27b703a2ef1cf1d21ecd7453a5d2ee2e361d2"), looks := false }, kinds := [], alts := [], laidByText := true, laidKinds := [.data, .pinned], laidTests := true, laidLooks := .later }
def FnExactTurnsOfUptoCardSaid : Prop := Claim7.holds Tryd.pinned (.plain (OpenSpec.upto fnExactTurnsOfSpec)) fnExactTurnsOfUptoCard

/-- THE SECOND FORM's CARD OF 'laws.FnExactRowText'. -/
def fnExactRowTextUptoCard : Claim7 := { stood := { row := fnExactRowTextUptoRow, standIns := [], harness := (true, "960d0d9ddd46ee53558ad627bdf27b703a2ef1cf1d21ecd7453a5d2ee2e361d2"), looks := false }, kinds := [], alts := [], laidByText := true, laidKinds := [.data, .data, .data], laidTests := true, laidLooks := .later }
def FnExactRowTextUptoCardSaid : Prop := Claim7.holds Tryd.pinned (.plain (OpenSpec.upto fnExactRowTextSpec)) fnExactRowTextUptoCard

/-- THE SECOND FORM's CARD OF 'laws.FnExactStonesAlong'. -/
def fnExactStonesAlongUptoCard : Claim7 := { stood := { row := fnExactStonesAlongUptoRow, standIns := [], harness := (true, "960d0d9ddd46ee53558ad627bdf27b703a2ef1cf1d21ecd7453a5d2ee2e361d2"), looks := false }, kinds := [], alts := [], laidByText := true, laidKinds := [.data, .pinned], laidTests := true, laidLooks := .later }
def FnExactStonesAlongUptoCardSaid : Prop := Claim7.holds Tryd.pinned (.plain (OpenSpec.upto fnExactStonesAlongSpec)) fnExactStonesAlongUptoCard

/-- THE SECOND FORM's CARD OF 'laws.FnExactJobsText'. -/
def fnExactJobsTextUptoCard : Claim7 := { stood := { row := fnExactJobsTextUptoRow, standIns := [], harness := (true, "960d0d9ddd46ee53558ad627bdf27b703a2ef1cf1d21ecd7453a5d2ee2e361d2"), looks := false }, kinds := [], alts := [], laidByText := true, laidKinds := [.data, .data, .data], laidTests := true, laidLooks := .later }
def FnExactJobsTextUptoCardSaid : Prop := Claim7.holds Tryd.pinned (.plain (OpenSpec.upto fnExactJobsTextSpec)) fnExactJobsTextUptoCard
end Rows
end Go.Proofs.YtkohnhkehedflaaDoor
