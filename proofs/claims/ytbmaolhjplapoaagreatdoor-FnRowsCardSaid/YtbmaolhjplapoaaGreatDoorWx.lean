/- Plain facts of rows that are drawn, and of numbers that are taken from bytes. No condition. -/
import Derived.Test.YtbmaolhjplapoaaGreatDoorWa
import Derived.Test.YtbmaolhjplapoaaGreatDoorVf
set_option linter.unusedVariables false
set_option linter.unusedSimpArgs false
namespace Go.RR
open Go
abbrev Byt (l : List Int) : Prop := l.length ≤ 5000 ∧ ∀ x ∈ l, 0 ≤ x ∧ x ≤ 255
theorem and255 (x : Int) : 0 ≤ IntKind.wrap .i64 (bAnd .u64 x 255) ∧ IntKind.wrap .i64 (bAnd .u64 x 255) ≤ 255 := by
 have e : bAnd .u64 x 255 = ((BitVec.ofInt 64 x &&& BitVec.ofInt 64 255).toNat : Int) := by
  have hlt : (BitVec.ofInt 64 x &&& BitVec.ofInt 64 255).toNat < 18446744073709551616 := (BitVec.ofInt 64 x &&& BitVec.ofInt 64 255).isLt
  exact IntWalk.u64_in ((BitVec.ofInt 64 x &&& BitVec.ofInt 64 255).toNat : Int) (by omega)
 have hle : (BitVec.ofInt 64 x &&& BitVec.ofInt 64 255).toNat ≤ 255 := by
  rw [BitVec.toNat_and]
  exact Nat.and_le_right
 rw [e, IntWalk.i64_in _ (by omega)]
 omega
theorem next_ok {n : Nat} {sd : Int} {l : List Int} (hl : Byt l) (hn : n ≤ 100000) : ∃ x sd', s_q0g (n : Int) sd l = some (x, ((n + 1 : Nat) : Int), sd') ∧ 0 ≤ x ∧ x ≤ 255 := by
 unfold s_q0g
 rw [succ64 (by omega)]
 have h40 : decide (40 < 0) = false := rfl
 by_cases h : n < l.length
 ·have hx := hl.2 _ (getD_mem' (d := 0) h)
  rw [lt_true h, inB_nat h, decide_eq_true (show ((n + 1 : Nat) : Int) ≤ (l.length : Int) by omega), toNat_nat]
  exact ⟨_, _, rfl, by rw [IntWalk.i64_in _ (by omega)]; exact hx⟩
 ·rw [decide_eq_false (show ¬ ((n : Int) < (l.length : Int)) by omega), cond_false, decide_eq_false (show ¬ ((n + 1 : Nat) : Int) ≤ (l.length : Int) by omega), cond_false, h40, cond_false]
  exact ⟨_, _, rfl, and255 _⟩
theorem pick_ok {n : Nat} {k sd : Int} {l : List Int} (hl : Byt l) (hn : n ≤ 10000) (hk : k ≤ 60000) : ∃ (x : Int) (m : Nat) (sd' : Int), s_q0h k (n : Int) sd l = some (x, (m : Int), sd') ∧ (k ≤ 1 → x = 0) ∧ (1 < k → 0 ≤ x ∧ x < k) ∧ n ≤ m ∧ m ≤ n + 2 := by
 unfold s_q0h
 by_cases h : k ≤ 1
 ·rw [decide_eq_true h]
  exact ⟨0, n, sd, rfl, fun _ => rfl, fun h' => by omega, Nat.le_refl _, by omega⟩
 ·rw [decide_eq_false h, cond_false]
  obtain ⟨x, s1, e1, x1, x2⟩ := next_ok (sd := sd) hl (show n ≤ 100000 by omega)
  have hk0 : decide (k = 0) = false := decide_eq_false (by omega)
  rw [e1]
  dsimp only [Option.bind]
  by_cases h2 : k > 200
  ·obtain ⟨y, s2, e2, y1, y2⟩ := next_ok (sd := s1) hl (show n + 1 ≤ 100000 by omega)
   rw [decide_eq_true h2, cond_true, e2]
   dsimp only
   rw [hk0, cond_false, IntWalk.i64_in (x * 256) (by omega), IntWalk.i64_in _ (by omega)]
   refine ⟨_, n + 2, s2, rfl, fun h' => by omega, fun _ => ?_, by omega, by omega⟩
   rw [Int.tmod_eq_emod_of_nonneg (by omega)]
   exact ⟨Int.emod_nonneg _ (by omega), Int.emod_lt_of_pos _ (by omega)⟩
  ·rw [decide_eq_false h2, cond_false, hk0, cond_false]
   refine ⟨_, n + 1, s1, rfl, fun h' => by omega, fun _ => ?_, by omega, by omega⟩
   rw [Int.tmod_eq_emod_of_nonneg (by omega)]
   exact ⟨Int.emod_nonneg _ (by omega), Int.emod_lt_of_pos _ (by omega)⟩
theorem pick_small {n : Nat} {k sd : Int} {l : List Int} (hl : Byt l) (hn : n ≤ 10000) (hk : 1 < k ∧ k ≤ 200) : ∃ (x m : Nat) (sd' : Int), s_q0h k (n : Int) sd l = some ((x : Int), (m : Int), sd') ∧ (x : Int) < k ∧ n ≤ m ∧ m ≤ n + 2 := by
 obtain ⟨x, m, sd', e, _, h2, h3, h4⟩ := pick_ok (n := n) (k := k) (sd := sd) hl hn (by omega)
 obtain ⟨h5, h6⟩ := h2 hk.1
 exact ⟨x.toNat, m, sd', by rw [e, Int.toNat_of_nonneg h5], by omega, h3, h4⟩
def OK9 (r : List Int) : Prop := ∀ x ∈ r, 1 ≤ x ∧ x ≤ 9
theorem drawn_run {l : List Int} (hl : Byt l) : ∀ (k n M : Nat) (sd : Int) (r : List Int), k < M → n + 2 * k ≤ 1000 → OK9 r → 1 ≤ r.length → r.length + k ≤ 6 →
  ∃ (m : Nat) (sd' : Int) (r' : List Int), iter (fun x => f_q12_n3 x.1 x.2.1 x.2.2.1 x.2.2.2.1 x.2.2.2.2) M ((k : Int), (n : Int), sd, l, r) = some ((m : Int), sd', r') ∧ OK9 r' ∧ 1 ≤ r'.length ∧ r'.length ≤ 6
 | 0, n, M + 1, sd, r, _, _, h1, h2, h3 => by
  refine ⟨n, sd, r, iter_out ?_, h1, h2, by omega⟩
  show f_q12_n3 0 n sd l r = _
  unfold f_q12_n3
  rfl
 | k + 1, n, M + 1, sd, r, hm, hn, h1, h2, h3 => by
  obtain ⟨x, m, sd', e, e1, e2, e3⟩ := pick_small (n := n) (k := 9) (sd := sd) hl (by omega) (by omega)
  have hs : f_q12_n3 ((k + 1 : Nat) : Int) n sd l r = some (.inl ((k : Int), (m : Int), sd', l, r ++ [1 + (x : Int)])) := by
   unfold f_q12_n3
   rw [decide_eq_true (show ((k + 1 : Nat) : Int) > 0 by omega), e]
   simp only [cond_true, Option.bind]
   rw [IntWalk.i64_in (1 + (x : Int)) (by omega), IntWalk.i16_in (1 + (x : Int)) (by omega), IntWalk.i64_in (((k + 1 : Nat) : Int) - 1) (by omega), fits_small (by simp; omega), show ((k + 1 : Nat) : Int) - 1 = (k : Int) by omega]
   rfl
  rw [iter_in (step := fun x => f_q12_n3 x.1 x.2.1 x.2.2.1 x.2.2.2.1 x.2.2.2.2) (x := (((k + 1 : Nat) : Int), (n : Int), sd, l, r)) hs]
  refine drawn_run hl k m M sd' _ (by omega) (by omega) (fun y hy => ?_) (by simp) (by simp; omega)
  rcases List.mem_append.1 hy with hy | hy
  ·exact h1 y hy
  ·rw [List.mem_singleton] at hy; omega
 | k, n, 0, _, _, hm, _, _, _, _ => by omega
theorem A2Row_ok {l : List Int} (hl : Byt l) : ∃ r, s_q1v l = some r ∧ OK9 r ∧ 1 ≤ r.length ∧ r.length ≤ 6 := by
 obtain ⟨x, m, sd, e, e1, _, e3⟩ := pick_small (n := 0) (k := 9) (sd := 0) hl (by omega) (by omega)
 obtain ⟨y, m2, sd2, f, f1, _, f3⟩ := pick_small (n := m) (k := 6) (sd := sd) hl (by omega) (by omega)
 obtain ⟨m3, sd3, r, g, g1, g2, g3⟩ := drawn_run hl y m2 FU sd2 [1 + (x : Int)] (FU_big (pow_big (by omega))) (by omega) (fun z hz => by rw [List.mem_singleton] at hz; omega) (by simp) (by simp; omega)
 refine ⟨r, ?_, g1, g2, g3⟩
 have e : s_q0h 9 (s_q1d l).1 (s_q1d l).2 l = some ((x : Int), (m : Int), sd) := e
 unfold s_q1v s_q12
 rw [e]
 simp only [Option.bind]
 rw [f]
 simp only
 rw [IntWalk.i64_in (1 + (x : Int)) (by omega), IntWalk.i16_in (1 + (x : Int)) (by omega)]
 unfold f_q12_run3
 rw [g]
theorem at_ok {l : List Int} (hl : Byt l) {i k : Nat} (hk : 1 < k ∧ k ≤ 200) : ∃ x : Nat, s_q1z l (i : Int) (k : Int) = some (x : Int) ∧ x < k := by
 unfold s_q1z
 by_cases h : i < l.length
 ·have hx := hl.2 _ (getD_mem' (d := 0) h)
  rw [decide_eq_false (show ¬ (i : Int) ≥ ((l.length : Nat) : Int) by omega), decide_eq_false (show ¬ (k : Int) < 1 by omega), inB_nat h, decide_eq_false (show ¬ (k : Int) = 0 by omega), toNat_nat, IntWalk.i64_in _ (by omega), Int.tmod_eq_emod_of_nonneg (by omega)]
  have h1 := Int.emod_nonneg (l.getD i 0) (show (k : Int) ≠ 0 by omega)
  have h2 := Int.emod_lt_of_pos (l.getD i 0) (show (0 : Int) < (k : Int) by omega)
  exact ⟨(l.getD i 0 % (k : Int)).toNat, by rw [Int.toNat_of_nonneg h1]; rfl, by omega⟩
 ·rw [decide_eq_true (show (i : Int) ≥ ((l.length : Nat) : Int) by omega)]
  exact ⟨0, rfl, by omega⟩
end Go.RR
