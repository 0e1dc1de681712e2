/- Tables that a program's text lays: none is listed here. -/
import GoSem.ClaimSeven
import Derived.Calls
set_option linter.unusedVariables false
namespace Go.RR
open Go

/-- The blocks of the listed tables. -/
def TabBlk (P : Program) (g : Nat) : Prop := False
/-- The listed tables hold what they should. -/
def JJ (P : Program) (w : World) : Prop := True
theorem JJ_lt {P : Program} {w : World} {g : Nat} (h : JJ P w) (hg : TabBlk P g) : g < w.heap.size := hg.elim
theorem JJ_keep {P : Program} {w w' : World} (h : JJ P w) (hs : w.heap.size ≤ w'.heap.size) (hk : ∀ g, TabBlk P g → w'.heap[g]? = w.heap[g]?) : JJ P w' := trivial
end Go.RR
