/- Plain facts of pictures that are drawn: numbers that are picked lie in their range, and the picture is valid. -/
import Derived.Test.YtbmaolhjplapoaaDoorRy
import Derived.Test.YtbmaolhjplapoaaDoorVo
set_option linter.unusedVariables false
set_option linter.unusedSimpArgs false
namespace Go.RR
open Go

abbrev Byt (l : List Int) : Prop := l.length ≤ 5000 ∧ ∀ x ∈ l, 0 ≤ x ∧ x ≤ 255
theorem and255 (x : Int) : 0 ≤ IntKind.wrap .i64 (bAnd .u64 x 255) ∧ IntKind.wrap .i64 (bAnd .u64 x 255) ≤ 255 := by
  have e : bAnd .u64 x 255 = ((BitVec.ofInt 64 x &&& BitVec.ofInt 64 255).toNat : Int) := by
    have hlt : (BitVec.ofInt 64 x &&& BitVec.ofInt 64 255).toNat < 18446744073709551616 := (BitVec.ofInt 64 x &&& BitVec.ofInt 64 255).isLt
    exact IntWalk.u64_in ((BitVec.ofInt 64 x &&& BitVec.ofInt 64 255).toNat : Int) (by omega)
  have hle : (BitVec.ofInt 64 x &&& BitVec.ofInt 64 255).toNat ≤ 255 := by
    rw [BitVec.toNat_and]
    exact Nat.and_le_right
  rw [e, IntWalk.i64_in _ (by omega)]
  omega
theorem next_ok {n : Nat} {sd : Int} {l : List Int} (hl : Byt l) (hn : n ≤ 100000) : ∃ x sd', s_sl00Src_next (n : Int) sd l = some (x, ((n + 1 : Nat) : Int), sd') ∧ 0 ≤ x ∧ x ≤ 255 := by
  unfold s_sl00Src_next
  rw [succ64 (by omega)]
  have h40 : decide (40 < 0) = false := rfl
  by_cases h : n < l.length
  · have hx := hl.2 _ (getD_mem' (d := 0) h)
    rw [lt_true h, inB_nat h, decide_eq_true (show ((n + 1 : Nat) : Int) ≤ (l.length : Int) by omega), toNat_nat]
    exact ⟨_, _, rfl, by rw [IntWalk.i64_in _ (by omega)]; exact hx⟩
  · rw [decide_eq_false (show ¬ ((n : Int) < (l.length : Int)) by omega), cond_false, decide_eq_false (show ¬ ((n + 1 : Nat) : Int) ≤ (l.length : Int) by omega), cond_false, h40, cond_false]
    exact ⟨_, _, rfl, and255 _⟩
theorem pick_ok {n : Nat} {k sd : Int} {l : List Int} (hl : Byt l) (hn : n ≤ 10000) (hk : k ≤ 60000) : ∃ (x : Int) (m : Nat) (sd' : Int), s_sl00Src_pick k (n : Int) sd l = some (x, (m : Int), sd') ∧ (k ≤ 1 → x = 0) ∧ (1 < k → 0 ≤ x ∧ x < k) ∧ n ≤ m ∧ m ≤ n + 2 := by
  unfold s_sl00Src_pick
  by_cases h : k ≤ 1
  · rw [decide_eq_true h]
    exact ⟨0, n, sd, rfl, fun _ => rfl, fun h' => by omega, Nat.le_refl _, by omega⟩
  · rw [decide_eq_false h, cond_false]
    obtain ⟨x, s1, e1, x1, x2⟩ := next_ok (sd := sd) hl (show n ≤ 100000 by omega)
    have hk0 : decide (k = 0) = false := decide_eq_false (by omega)
    rw [e1]
    dsimp only [Option.bind]
    by_cases h2 : k > 200
    · obtain ⟨y, s2, e2, y1, y2⟩ := next_ok (sd := s1) hl (show n + 1 ≤ 100000 by omega)
      rw [decide_eq_true h2, cond_true, e2]
      dsimp only
      rw [hk0, cond_false, IntWalk.i64_in (x * 256) (by omega), IntWalk.i64_in _ (by omega)]
      refine ⟨_, n + 2, s2, rfl, fun h' => by omega, fun _ => ?_, by omega, by omega⟩
      rw [Int.tmod_eq_emod_of_nonneg (by omega)]
      exact ⟨Int.emod_nonneg _ (by omega), Int.emod_lt_of_pos _ (by omega)⟩
    · rw [decide_eq_false h2, cond_false, hk0, cond_false]
      refine ⟨_, n + 1, s1, rfl, fun h' => by omega, fun _ => ?_, by omega, by omega⟩
      rw [Int.tmod_eq_emod_of_nonneg (by omega)]
      exact ⟨Int.emod_nonneg _ (by omega), Int.emod_lt_of_pos _ (by omega)⟩
end Go.RR
