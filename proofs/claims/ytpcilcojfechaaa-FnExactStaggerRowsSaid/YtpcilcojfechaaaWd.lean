/- Plain laws of rows: lengths, the least distance, what the public functions answer. -/
import Derived.Test.YtpcilcojfechaaaWc
set_option linter.unusedVariables false
set_option linter.unusedSimpArgs false
namespace Go.RR
open Go

/-! ### The length of a row -/
def rlen (r : List Int) (S : Int) : Int := r.foldl (· + ·) (((r.length - 1 : Nat) : Int) * S)
theorem foldl_toI : ∀ (l : List Nat) (s : Int), (toI l).foldl (· + ·) s = s + ((l.sum : Nat) : Int)
  | [], s => by simp [toI]
  | x :: l, s => by
    show (toI l).foldl (· + ·) (s + (x : Int)) = _
    rw [foldl_toI l, List.sum_cons]
    omega
theorem wids_sum {L S W F : Nat} (hW : 1 ≤ W) : (wids L S W F).sum + ((wids L S W F).length - 1) * S = L := by
  unfold wids
  generalize hf : min F L = f
  generalize hD : L - f = D
  generalize hk : D / (S + W) = k
  generalize hm : D % (S + W) = m
  have h1 : k * (S + W) + m = D := by
    rw [← hk, ← hm, Nat.mul_comm]; exact Nat.div_add_mod D (S + W)
  have hfL : f ≤ L := by omega
  rw [Nat.mul_add] at h1
  split
  · simp only [List.sum_cons, List.sum_append, List.sum_nil, List.length_cons, List.length_append, List.length_replicate, List.length_nil, List.sum_replicate_nat]
    rw [show k + (0 + 1) + 1 - 1 = k + 1 by omega, Nat.succ_mul]
    omega
  · split
    · rename_i h0 hk0
      subst hk0
      simp
      omega
    · simp only [List.sum_cons, List.sum_append, List.sum_nil, List.length_cons, List.length_append, List.length_replicate, List.length_nil, List.sum_replicate_nat]
      obtain ⟨k', rfl⟩ : ∃ k', k = k' + 1 := ⟨k - 1, by omega⟩
      rw [show k' + 1 - 1 + (0 + 1) + 1 - 1 = k' + 1 by omega, show k' + 1 - 1 = k' by omega]
      rw [Nat.succ_mul, Nat.succ_mul] at h1
      rw [Nat.succ_mul]
      omega
theorem wids_ne (L S W F : Nat) : 1 ≤ (wids L S W F).length := by
  unfold wids
  split
  · simp
  · split <;> simp
theorem brk_facts {L S W F : Nat} (hL : 1 ≤ L) (hW : 1 ≤ W) (hF : 1 ≤ F) (h : (brk L S W F).2 = true) : (brk L S W F).1 = toI (wids L S W F) ∧ OKR (toI (wids L S W F)) ∧ rlen (toI (wids L S W F)) (S : Int) = (L : Int) := by
  unfold brk at h ⊢
  cases hb : brkOk L S W F
  · rw [hb] at h; cases h
  · rw [hb] at h
    unfold brkOk at hb
    rw [Bool.and_eq_true, decide_eq_true_eq, List.all_eq_true] at hb
    refine ⟨rfl, ⟨fun x hx => ?_, by rw [toI_len]; exact wids_ne L S W F, by rw [toI_len]; exact hb.1⟩, ?_⟩
    · obtain ⟨n, hn, rfl⟩ := List.mem_map.1 hx
      have h1 := wids_pos (S := S) hL hW hF n hn
      have h2 := hb.2 n hn
      rw [decide_eq_true_eq] at h2
      omega
    · unfold rlen
      rw [foldl_toI, toI_len]
      have := wids_sum (L := L) (S := S) (W := W) (F := F) hW
      have e : (((wids L S W F).length - 1 : Nat) : Int) * (S : Int) = ((((wids L S W F).length - 1) * S : Nat) : Int) := by rw [Int.natCast_mul]
      rw [e]
      omega
/-! ### The least distance -/
end Go.RR
