/- Plain Lean that the closed forms use. No condition. -/
import Derived.Test.YtkohnhkehedflaaRo
import Derived.IntWalk
set_option linter.unusedVariables false
namespace Go.RR
open Go
theorem inB_nat {i n : Nat} (h : i < n) : inB (i : Int) n = true := by
 unfold inB
 simp; omega
theorem succ64 {i : Nat} (h : i < 1000000000) : IntKind.wrap .i64 ((i : Int) + 1) = ((i + 1 : Nat) : Int) := by
 rw [IntWalk.i64_in _ (by omega)]; omega
theorem lt_true {i n : Nat} (h : i < n) : decide ((i : Int) < (n : Int)) = true := by simp; exact h
theorem toNat_nat (i : Nat) : Int.toNat (i : Int) = i := rfl
end Go.RR
