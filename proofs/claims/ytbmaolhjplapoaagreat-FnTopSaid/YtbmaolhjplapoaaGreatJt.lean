/- Tables that a program's text lays: none is listed here. -/
import GoSem.ClaimSeven
import Derived.Calls
set_option linter.unusedVariables false
namespace Go.RR
open Go
def w7 (P : Program) (g : Nat) : Prop := False
def JJ (P : Program) (w : World) : Prop := True
theorem zEJ {P : Program} {w : World} {g : Nat} (h : JJ P w) (hg : w7 P g) : g < w.heap.size := hg.elim
theorem zTu {P : Program} {w w' : World} (h : JJ P w) (hs : w.heap.size ≤ w'.heap.size) (hk : ∀ g, w7 P g → w'.heap[g]? = w.heap[g]?) : JJ P w' := trivial
end Go.RR
