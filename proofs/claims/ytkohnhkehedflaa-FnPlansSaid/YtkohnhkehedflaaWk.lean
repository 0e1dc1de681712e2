/- The plain laws of EarliestOf and BeforeAll. -/
import Derived.Test.YtkohnhkehedflaaWj
import Derived.Test.YtkohnhkehedflaaVm
set_option linter.unusedVariables false
set_option linter.unusedSimpArgs false
namespace Go.RR
open Go
noncomputable def waitsB (l : List Job) (i k : Nat) : Bool := (bShr .u16 (l.getD i (0, 0)).2 k) % 2 == 1
theorem after_nn {l : List Job} (hj : JobsOK l) {i : Nat} (hi : i < l.length) : 0 ≤ (l.getD i (0, 0)).2 := (hj _ (getD_mem' hi)).2.1
theorem swaits_eq {l : List Job} (hj : JobsOK l) {i k : Nat} (hi : i < l.length) (hk : k ≤ 1000000) : s_q18 l i k = some (waitsB l i k) := by
 unfold s_q18 waitsB
 rw [inB_nat hi, u64n (by omega), dlt0, toNat_nat]
 have ht : Int.tmod (bShr .u16 (l.getD i (0, 0)).2 k) 2 = (bShr .u16 (l.getD i (0, 0)).2 k) % 2 := Int.tmod_eq_emod_of_nonneg (shr_range (after_nn hj hi)).1
 rw [ht]; rfl
theorem iwaits_eq {l : List Job} (hj : JobsOK l) {i k : Nat} (hi : i < l.length) : s_q0o (l.getD i (0, 0)).1 (l.getD i (0, 0)).2 k = some (waitsB l i k) := by
 unfold s_q0o waitsB
 rw [dlt0, and1 (shr_range (after_nn hj hi)).1]; rfl
theorem max_eq (a b : Int) : s_q1y a b = max a b := by
 unfold s_q1y
 by_cases h : a > b
 ·rw [decide_eq_true h, cond_true, Int.max_eq_left (by omega)]
 ·rw [decide_eq_false h, cond_false, Int.max_eq_right (by omega)]
theorem ord_len {l : List Job} : (ordN l l.length 0 []).1.length ≤ l.length := by
 have := (ordN_len l l.length 0 []).1
 simpa using this
theorem ord_mem {l : List Job} : ∀ x ∈ (ordN l l.length 0 []).1, ∃ j : Nat, j < l.length ∧ x = (j : Int) := ordN_mem l l.length 0 [] fun x hx => by simp at hx
end Go.RR
