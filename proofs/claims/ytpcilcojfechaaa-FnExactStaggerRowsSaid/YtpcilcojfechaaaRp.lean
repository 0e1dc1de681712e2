/- Plain Lean that the closed forms use. No condition; no theorem of the program. -/
import Derived.Test.YtpcilcojfechaaaRo
import Derived.IntWalk
set_option linter.unusedVariables false
namespace Go.RR
open Go

/-- A condition at so many numbers from one on. -/
def allN (p : Nat → Bool) : Nat → Nat → Bool
  | _, 0 => true
  | i, k + 1 => p i && allN p (i + 1) k
theorem allN_congr {p q : Nat → Bool} : ∀ (k i : Nat), (∀ j, i ≤ j → j < i + k → p j = q j) → allN p i k = allN q i k
  | 0, i, h => rfl
  | k + 1, i, h => by
    simp only [allN, h i (Nat.le_refl i) (by omega), allN_congr k (i + 1) fun j h1 h2 => h j (by omega) (by omega)]
theorem blt_true {a b : Nat} (h : a < b) : Nat.blt a b = true := Nat.ble_eq_true_of_le h
theorem blt_false {a b : Nat} (h : b ≤ a) : Nat.blt a b = false := by
  cases hb : Nat.blt a b
  · rfl
  · have := Nat.le_of_ble_eq_true hb; omega
theorem inB_nat {i n : Nat} (h : i < n) : inB (i : Int) n = true := by
  unfold inB
  simp; omega
theorem succ64 {i : Nat} (h : i < 1000000000) : IntKind.wrap .i64 ((i : Int) + 1) = ((i + 1 : Nat) : Int) := by
  rw [IntWalk.i64_in _ (by omega)]; omega
theorem lt_true {i n : Nat} (h : i < n) : decide ((i : Int) < (n : Int)) = true := by simp; exact h
theorem lt_false {i n : Nat} (h : n ≤ i) : decide ((i : Int) < (n : Int)) = false := by simp; exact h
theorem toNat_nat (i : Nat) : Int.toNat (i : Int) = i := rfl
end Go.RR
