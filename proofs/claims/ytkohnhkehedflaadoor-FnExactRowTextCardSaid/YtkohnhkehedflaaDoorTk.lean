/- The listed table, from the row's condition. -/
import Derived.Test.YtkohnhkehedflaaDoorTb
import Derived.Lib.LaidU8
set_option linter.unusedVariables false
namespace Go.RR
open Go Go.Proofs

theorem tabs_of {W : World} (h : Lib.VarReads Tryd.prog W "internal/strconv.uint64pow10" (Lib.tabData .u64 Lib.pow10Tab)) : JJ Tryd.prog W := by
  obtain ⟨g, t, cs, fuel, p, hg, hty, hvar, hd⟩ := h
  obtain rfl := Option.some.inj ((show Tryd.prog.globalNamed "internal/strconv.uint64pow10" = some 1 by kernel_rfl).symm.trans hg)
  obtain rfl := Option.some.inj ((show (Tryd.prog.globals[1]?).map (·.type) = some 120 by kernel_rfl).symm.trans hty)
  have hcs := Lib.cells_of_tab Tryd.underlying120 Tryd.underlying109 (by kernel_rfl) (by kernel_rfl) hd
  have hvar' : W.var? Tryd.prog "internal/strconv.uint64pow10" = some cs := hvar
  show W.var? Tryd.prog "internal/strconv.uint64pow10" = _
  rw [hvar', ← hcs]
end Go.RR
