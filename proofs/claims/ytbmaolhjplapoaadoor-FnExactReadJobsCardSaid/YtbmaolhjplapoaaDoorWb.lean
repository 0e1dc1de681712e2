/- Numbers in decimal: the reference's reader. -/
import Derived.Test.YtbmaolhjplapoaaDoorWa
set_option linter.unusedVariables false
set_option linter.unusedSimpArgs false
namespace Go.RR
open Go

/-- What some digits spell, behind what stands before them. -/
def numL (acc : Nat) : List UInt8 → Option Nat
  | [] => some acc
  | c :: r => if 48 ≤ c.toNat ∧ c.toNat ≤ 57 then numL (10 * acc + (c.toNat - 48)) r else none
def numE : Option Nat → Int × Bool
  | some v => ((v : Int), true)
  | none => (0, false)
theorem byte_drop {z : ByteArray} {i : Nat} {c : UInt8} {r : List UInt8} (h : z.data.toList.drop i = c :: r) : i < z.size ∧ byteAt z i = (c.toNat : Int) ∧ z.data.toList.drop (i + 1) = r := by
  have hz : z.data.toList.length = z.size := rfl
  have hi : i < z.data.toList.length := by
    rcases Nat.lt_or_ge i z.data.toList.length with h1 | h1
    · exact h1
    · rw [List.drop_eq_nil_iff.2 h1] at h; cases h
  rw [List.drop_eq_getElem_cons hi] at h
  obtain ⟨h1, h2⟩ := List.cons.inj h
  refine ⟨by omega, ?_, h2⟩
  unfold byteAt
  rw [List.getD_eq_getElem?_getD, List.getElem?_eq_getElem hi, h1]; rfl
theorem num_run {z : ByteArray} (hz : z.size ≤ 10) : ∀ (r : List UInt8) (i m acc : Nat), z.data.toList.drop i = r → i + r.length = z.size → r.length < m → acc < 10 ^ i →
    iter (fun x => f_sl01Number_n5 x.1 x.2.1 x.2.2) m (z, (acc : Int), (i : Int)) = some (numE (numL acc r))
  | [], i, m + 1, acc, h, hl, hm, ha => by
    unfold iter
    dsimp only
    have : i = z.size := by simpa using hl
    subst this
    have e : f_sl01Number_n5 z (acc : Int) ((z.size : Nat) : Int) = some (.inr ((acc : Int), true)) := by
      unfold f_sl01Number_n5
      rw [lt_neg, cond_false]
    rw [e]; rfl
  | c :: r, i, m + 1, acc, h, hl, hm, ha => by
    obtain ⟨hi, hb, hd⟩ := byte_drop h
    have hp : 10 ^ i ≤ 10 ^ 9 := Nat.pow_le_pow_right (by decide) (by omega)
    have e9 : (10 : Nat) ^ 9 = 1000000000 := by decide
    have hc := c.toNat_lt
    unfold iter numL
    dsimp only
    by_cases h1 : 48 ≤ c.toNat ∧ c.toNat ≤ 57
    · have e : f_sl01Number_n5 z (acc : Int) (i : Int) = some (.inl (z, ((10 * acc + (c.toNat - 48) : Nat) : Int), ((i + 1 : Nat) : Int))) := by
        unfold f_sl01Number_n5
        rw [lt_true hi, inB_nat hi, toNat_nat, hb, decide_eq_false (show ¬ ((c.toNat : Nat) : Int) < 48 by omega), decide_eq_false (show ¬ ((c.toNat : Nat) : Int) > 57 by omega), succ64 (i := i) (by omega)]
        simp only [cond_true, cond_false]
        rw [IntWalk.u8_in (((c.toNat : Nat) : Int) - 48) (by omega), IntWalk.i64_in (10 * (acc : Int)) (by omega), IntWalk.i64_in (((c.toNat : Nat) : Int) - 48) (by omega), IntWalk.i64_in _ (by omega)]
        have : 10 * (acc : Int) + (((c.toNat : Nat) : Int) - 48) = ((10 * acc + (c.toNat - 48) : Nat) : Int) := by omega
        rw [this]
      rw [e, if_pos h1]
      refine num_run hz r (i + 1) m _ hd (by simp only [List.length_cons] at hl; omega) (by simp only [List.length_cons] at hm; omega) ?_
      have : 10 ^ (i + 1) = 10 * 10 ^ i := by rw [Nat.pow_succ, Nat.mul_comm]
      omega
    · rw [if_neg h1]
      by_cases h2 : c.toNat < 48
      · have e : f_sl01Number_n5 z (acc : Int) (i : Int) = some (.inr (0, false)) := by
          unfold f_sl01Number_n5
          rw [lt_true hi, inB_nat hi, toNat_nat, hb, decide_eq_true (show ((c.toNat : Nat) : Int) < 48 by omega)]; rfl
        rw [e]; rfl
      · have e : f_sl01Number_n5 z (acc : Int) (i : Int) = some (.inr (0, false)) := by
          unfold f_sl01Number_n5
          rw [lt_true hi, inB_nat hi, toNat_nat, hb, decide_eq_false (show ¬ ((c.toNat : Nat) : Int) < 48 by omega), decide_eq_true (show ((c.toNat : Nat) : Int) > 57 by omega)]; rfl
        rw [e]; rfl
  | [], i, 0, acc, _, _, hm, _ => by simp at hm
  | _ :: _, i, 0, acc, _, _, hm, _ => by simp at hm
/-- The number that a text tells. -/
def numB (l : List UInt8) : Int × Bool := match l with
  | [] => (0, false)
  | c :: r => if 10 < l.length ∨ (c.toNat = 48 ∧ r ≠ []) then (0, false) else numE (numL 0 l)
theorem number_eq (z : ByteArray) : s_sl01Number z = some (numB z.data.toList) := by
  have hz : z.data.toList.length = z.size := rfl
  unfold s_sl01Number
  rw [Lib.toList_data, Lib.toList_data]
  cases hl : z.data.toList with
  | nil => rfl
  | cons c r =>
    rw [hl] at hz
    simp only [List.length_cons] at hz
    have e0 : ((c :: r) == (⟨#[]⟩ : ByteArray).data.toList) = false := rfl
    rw [e0, cond_false]
    have en : numB (c :: r) = if 10 < (c :: r).length ∨ (c.toNat = 48 ∧ r ≠ []) then (0, false) else numE (numL 0 (c :: r)) := rfl
    rw [en]
    by_cases h1 : z.size > 10
    · rw [decide_eq_true (show ((z.size : Nat) : Int) > 10 by omega), if_pos (.inl (by simp only [List.length_cons]; omega))]; rfl
    · obtain ⟨q1, q2, q3⟩ := byte_drop (z := z) (i := 0) (c := c) (r := r) hl
      have run : f_sl01Number_run5 (z, 0, 0) = some (numE (numL 0 (c :: r))) := by
        unfold f_sl01Number_run5
        exact num_run (z := z) (by omega) (c :: r) 0 FU 0 hl (by simp only [List.length_cons]; omega) (by simp only [List.length_cons]; exact FU_big (pow_big (by omega))) (by decide)
      rw [decide_eq_false (show ¬ ((z.size : Nat) : Int) > 10 by omega), cond_false, inB_of (show 0 ≤ (0 : Int) ∧ (0 : Int) < (z.size : Nat) by omega), cond_true, q2, run]
      by_cases h2 : c.toNat = 48
      · rw [show (((c.toNat : Nat) : Int) == 48) = true by rw [beq_iff_eq]; omega, cond_true]
        by_cases h3 : r = []
        · subst h3
          rw [decide_eq_false (show ¬ ((z.size : Nat) : Int) > 1 by simp at hz; omega), if_neg (by simp)]; rfl
        · have : 1 ≤ r.length := by cases r with
            | nil => exact absurd rfl h3
            | cons _ _ => simp
          rw [decide_eq_true (show ((z.size : Nat) : Int) > 1 by omega), if_pos (.inr ⟨h2, h3⟩)]; rfl
      · rw [show (((c.toNat : Nat) : Int) == 48) = false by simpa using fun q : ((c.toNat : Nat) : Int) = 48 => h2 (by omega), cond_false, if_neg (by
          rintro (h | h)
          · simp only [List.length_cons] at h; omega
          · exact h2 h.1)]
theorem numL_ge : ∀ (r : List UInt8) (acc v : Nat), numL acc r = some v → acc * 10 ^ r.length ≤ v
  | [], acc, v, h => by cases h; simp
  | c :: r, acc, v, h => by
    unfold numL at h
    split at h
    · have := numL_ge r _ v h
      have h2 : 10 * acc * 10 ^ r.length ≤ (10 * acc + (c.toNat - 48)) * 10 ^ r.length := Nat.mul_le_mul_right _ (by omega)
      rw [List.length_cons, Nat.pow_succ]
      have : acc * (10 ^ r.length * 10) = 10 * acc * 10 ^ r.length := by rw [Nat.mul_comm (10 ^ r.length) 10, ← Nat.mul_assoc, Nat.mul_comm acc 10]
      omega
    · cases h
theorem byte_back (c : UInt8) {d : Nat} (h : c.toNat = 48 + d) : UInt8.ofNat (48 + d) = c := by
  rw [← h]; exact UInt8.ofNat_toNat
/-- A number of at most three digits is told by its digits. -/
theorem numB_dl {l : List UInt8} {v : Nat} (hv : v < 1000) (h : numB l = ((v : Int), true)) : l = dl v := by
  unfold numB at h
  split at h
  · cases h
  · rename_i c r
    split at h
    · cases h
    · rename_i hn
      have h : numL 0 (c :: r) = some v := by
        cases hq : numL 0 (c :: r) with
        | none => rw [hq] at h; cases h
        | some u =>
          rw [hq] at h
          have := congrArg Prod.fst h
          have : (u : Int) = (v : Int) := this
          congr 1; omega
      have hz : ¬ (c.toNat = 48 ∧ r ≠ []) := fun q => hn (.inr q)
      unfold numL at h
      split at h
      · rename_i hc
        match r, h, hz with
        | [], h, _ =>
          unfold numL at h
          have h := Option.some.inj h
          unfold dl
          rw [if_pos (by omega), byte_back c (by omega)]
        | d :: r, h, hz =>
          have hc2 : c.toNat ≠ 48 := fun q => hz ⟨q, fun q2 => by cases q2⟩
          unfold numL at h
          split at h
          · rename_i hd
            match r, h with
            | [], h =>
              unfold numL at h
              have h := Option.some.inj h
              unfold dl
              rw [if_neg (by omega), if_pos (by omega), byte_back c (by omega), byte_back d (by omega)]
            | e :: r, h =>
              unfold numL at h
              split at h
              · rename_i he
                match r, h with
                | [], h =>
                  unfold numL at h
                  have h := Option.some.inj h
                  unfold dl
                  rw [if_neg (by omega), if_neg (by omega), byte_back c (by omega), byte_back d (by omega), byte_back e (by omega)]
                | g :: r, h =>
                  exfalso
                  have h1 := numL_ge _ _ _ h
                  have h2 : 10 ≤ 10 ^ (g :: r).length := by
                    rw [List.length_cons, Nat.pow_succ]
                    have := Nat.one_le_two_pow (n := 0)
                    have : 1 ≤ 10 ^ r.length := Nat.pow_pos (by decide)
                    omega
                  have h3 := Nat.mul_le_mul_left (10 * (10 * (10 * 0 + (c.toNat - 48)) + (d.toNat - 48)) + (e.toNat - 48)) h2
                  omega
              · cases h
          · cases h
      · cases h
theorem numB_all : ∀ n : Fin 1000, numB (dl n.1) = ((n.1 : Int), true) := by decide +kernel
end Go.RR
