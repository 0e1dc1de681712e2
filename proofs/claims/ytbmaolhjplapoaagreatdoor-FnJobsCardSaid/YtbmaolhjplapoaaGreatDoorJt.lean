/- What the listed variables of a program hold: the powers of ten, two errors, the greatest length that is looked through at once. -/
import GoSem.ClaimSeven
import Derived.Calls
import Derived.Lib.LaidTab
import Derived.Lib.AppendIntMem
namespace Go.RR
open Go
def TabBlk (P : Program) (g : Nat) : Prop := P.globalNamed "internal/strconv.uint64pow10" = some g ∨ P.globalNamed "strconv.ErrSyntax" = some g ∨ P.globalNamed "strconv.ErrRange" = some g ∨ P.globalNamed "internal/bytealg.MaxLen" = some g
def IsErr (P : Program) (w : World) (n : String) : Prop := ∃ tp p, w.var? P n = some #[.iface tp p]
def IsInt (P : Program) (w : World) (n : String) : Prop := ∃ g m, P.globalNamed n = some g ∧ w.cell? ⟨g, 0, none⟩ = some (.int .i64 m)
def JJ (P : Program) (w : World) : Prop := Lib.TabIs P w "internal/strconv.uint64pow10" .u64 Lib.pow10Tab ∧ IsErr P w "strconv.ErrSyntax" ∧ IsErr P w "strconv.ErrRange" ∧ IsInt P w "internal/bytealg.MaxLen"
theorem var_lt {P : Program} {w : World} {n : String} {cs : Array Value} {g : Nat} (h : w.var? P n = some cs) (hg : P.globalNamed n = some g) : g < w.heap.size := by
 unfold World.var? at h
 rw [hg] at h
 cases h2 : w.heap[g]? with
 | none => simp [h2] at h
 | some x => exact (Array.getElem?_eq_some_iff.1 h2).1
theorem var_keep {P : Program} {w w' : World} {n : String} {cs : Array Value} (h : w.var? P n = some cs) (hk : ∀ g, P.globalNamed n = some g → w'.heap[g]? = w.heap[g]?) : w'.var? P n = some cs := by
 unfold World.var? at h ⊢
 cases hg : P.globalNamed n with
 | none => rw [hg] at h; cases h
 | some g =>
  rw [hg] at h
  simp only [Option.bind] at h ⊢
  rw [hk g hg]; exact h
theorem cell_heap {w w' : World} {g : Nat} {i : Nat} (hk : w'.heap[g]? = w.heap[g]?) : w'.cell? ⟨g, i, none⟩ = w.cell? ⟨g, i, none⟩ := by
 unfold World.cell?
 simp only [hk]
theorem JJ_lt {P : Program} {w : World} {g : Nat} (h : JJ P w) (hg : TabBlk P g) : g < w.heap.size := by
 obtain ⟨h1, ⟨_, _, h2⟩, ⟨_, _, h3⟩, ⟨g4, m, h4, h5⟩⟩ := h
 rcases hg with hg | hg | hg | hg
 ·exact var_lt h1 hg
 ·exact var_lt h2 hg
 ·exact var_lt h3 hg
 ·obtain rfl := Option.some.inj (h4.symm.trans hg)
  cases h6 : w.heap[g4]? with
  | none => unfold World.cell? at h5; simp [h6] at h5
  | some x => exact (Array.getElem?_eq_some_iff.1 h6).1
theorem JJ_keep {P : Program} {w w' : World} (h : JJ P w) (hs : w.heap.size ≤ w'.heap.size) (hk : ∀ g, TabBlk P g → w'.heap[g]? = w.heap[g]?) : JJ P w' := by
 obtain ⟨h1, ⟨t2, p2, h2⟩, ⟨t3, p3, h3⟩, ⟨g4, m, h4, h5⟩⟩ := h
 exact ⟨var_keep h1 fun g hg => hk g (.inl hg), ⟨t2, p2, var_keep h2 fun g hg => hk g (.inr (.inl hg))⟩, ⟨t3, p3, var_keep h3 fun g hg => hk g (.inr (.inr (.inl hg)))⟩, ⟨g4, m, h4, (cell_heap (hk g4 (.inr (.inr (.inr h4))))).trans h5⟩⟩
end Go.RR
