/- A table that a program's text lays: the powers of ten. -/
import GoSem.ClaimSeven
import Derived.Calls
import Derived.Lib.LaidTab
import Derived.Lib.AppendIntMem
namespace Go.RR
open Go

/-- The block of the listed table. -/
def TabBlk (P : Program) (g : Nat) : Prop := P.globalNamed "internal/strconv.uint64pow10" = some g
/-- The listed table holds what it should. -/
def JJ (P : Program) (w : World) : Prop := Lib.TabIs P w "internal/strconv.uint64pow10" .u64 Lib.pow10Tab
theorem JJ_lt {P : Program} {w : World} {g : Nat} (h : JJ P w) (hg : TabBlk P g) : g < w.heap.size := by
  unfold JJ Lib.TabIs World.var? at h
  unfold TabBlk at hg
  rw [hg] at h
  cases h2 : w.heap[g]? with
  | none => simp [h2] at h
  | some x => exact (Array.getElem?_eq_some_iff.1 h2).1
theorem JJ_keep {P : Program} {w w' : World} (h : JJ P w) (hs : w.heap.size ≤ w'.heap.size) (hk : ∀ g, TabBlk P g → w'.heap[g]? = w.heap[g]?) : JJ P w' := by
  unfold JJ Lib.TabIs World.var? at h ⊢
  cases hg : P.globalNamed "internal/strconv.uint64pow10" with
  | none => rw [hg] at h; cases h
  | some g =>
    rw [hg] at h
    simp only [Option.bind] at h ⊢
    rw [hk g hg]; exact h
end Go.RR
