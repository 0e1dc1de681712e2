/- Plain facts of fields: all fields part the cells; masks of places. No condition; no theorem of the program. -/
import Derived.Test.YtkohnhkehedflaaFf
set_option linter.unusedVariables false
set_option linter.unusedSimpArgs false
namespace Go.RR
open Go

/-! ### Masks -/
def orF (m : Nat) (l : List Nat) : Nat := l.foldl (fun m k => m ||| 2 ^ k) m
theorem orF_bit (j : Nat) : ∀ (l : List Nat) (m : Nat), (orF m l).testBit j = (m.testBit j || l.contains j)
  | [], m => by simp [orF]
  | k :: l, m => by
    show (orF (m ||| 2 ^ k) l).testBit j = _
    rw [orF_bit j l, Nat.testBit_or, Nat.testBit_two_pow, List.contains_cons]
    by_cases e : k = j
    · subst e; simp
    · have : (j == k) = false := by simp; omega
      rw [this, decide_eq_false e]; simp
theorem orF_congr {l l' : List Nat} (h : ∀ j, j ∈ l ↔ j ∈ l') : orF 0 l = orF 0 l' := by
  apply Nat.eq_of_testBit_eq
  intro j
  rw [orF_bit, orF_bit]
  congr 1
  rw [Bool.eq_iff_iff, List.contains_iff_mem, List.contains_iff_mem]
  exact h j
theorem orF_lt : ∀ (l : List Nat) (m : Nat), m < 4096 → (∀ k ∈ l, k < 12) → orF m l < 4096
  | [], m, hm, _ => hm
  | k :: l, m, hm, h => by
    refine orF_lt l (m ||| 2 ^ k) ?_ fun j hj => h j (by simp [hj])
    exact Nat.or_lt_two_pow (n := 12) hm (Nat.pow_lt_pow_right (by decide) (h k (by simp)))
theorem orF_app (m : Nat) (l : List Nat) (k : Nat) : orF m (l ++ [k]) = orF m l ||| 2 ^ k := by simp [orF, List.foldl_append]
theorem shlN {q : Nat} (hq : q < 12) : bShl .u16 1 (q : Int) = ((2 ^ q : Nat) : Int) ∧ 1 ≤ 2 ^ q ∧ 2 ^ q ≤ 4096 := by
  have h1 : 2 ^ q ≤ 2 ^ 12 := Nat.pow_le_pow_right (by decide) (by omega)
  have h2 : 0 < 2 ^ q := Nat.pow_pos (by decide)
  have h1 : 2 ^ q ≤ 4096 := h1
  refine ⟨?_, h2, h1⟩
  unfold bShl
  have hm : min (Int.toNat (q : Int)) IntKind.u16.bits = q := by
    rw [toNat_nat]
    exact Nat.min_eq_left (by show q ≤ 16; omega)
  rw [hm, Int.one_mul, show ((2 : Int) ^ q) = ((2 ^ q : Nat) : Int) by rw [Int.natCast_pow]; rfl]
  exact IntWalk.u16_in _ (by omega)
theorem bor_ok {m k : Nat} (hm : m < 4096) (hk : k < 12) : bOr .u16 (m : Int) (bShl .u16 1 (k : Int)) = ((m ||| 2 ^ k : Nat) : Int) := by
  obtain ⟨h1, h2, h3⟩ := shlN hk
  rw [h1]
  unfold bOr
  have hlt : m ||| 2 ^ k < 2 ^ 13 := Nat.or_lt_two_pow (by omega) (by omega)
  have hlt : m ||| 2 ^ k < 8192 := hlt
  have e : ((BitVec.ofInt IntKind.u16.bits (m : Int) ||| BitVec.ofInt IntKind.u16.bits ((2 ^ k : Nat) : Int)).toNat : Int) = ((m ||| 2 ^ k : Nat) : Int) := by
    show ((BitVec.ofInt 16 (m : Int) ||| BitVec.ofInt 16 ((2 ^ k : Nat) : Int)).toNat : Int) = _
    rw [BitVec.toNat_or, BitVec.toNat_ofInt, BitVec.toNat_ofInt]
    have a : ((m : Int) % ((2 ^ 16 : Nat) : Int)).toNat = m := by
      have : ((2 ^ 16 : Nat) : Int) = 65536 := rfl
      rw [this]; omega
    have b : (((2 ^ k : Nat) : Int) % ((2 ^ 16 : Nat) : Int)).toNat = 2 ^ k := by
      have : ((2 ^ 16 : Nat) : Int) = 65536 := rfl
      rw [this]; omega
    rw [a, b]
  rw [e]
  exact IntWalk.u16_in _ (by omega)

/-! ### Folds by places -/
theorem fold_inv {τ : Type} {g : τ → Nat → τ} {N : Nat} (I : Nat → τ → Prop) {st : τ} (h0 : I 0 st) (hs : ∀ i st, i < N → I i st → I (i + 1) (g st i)) : ∀ n, n ≤ N → I n ((List.range' 0 n).foldl g st)
  | 0, _ => h0
  | n + 1, h => by
    rw [List.range'_1_concat, List.foldl_append]
    have := hs n _ (by omega) (fold_inv I h0 hs n (by omega))
    simpa using this

/-! ### The parts -/
section
variable {w h : Nat} (hw : w ≤ 12) (hh : h ≤ 12) {f : Nat → Int}
def rowN (w h : Nat) (f : Nat → Int) (s : Nat) : List Nat := listed fun k => (comp w h f s).contains k
def rowZ (w h : Nat) (f : Nat → Int) (s : Nat) : List Int := cst (rowN w h f s)
theorem rowN_len (w h : Nat) (f : Nat → Int) (s : Nat) : (rowN w h f s).length ≤ 144 := nodup_len (listed_nodup _) fun x hx => (listed_mem.1 hx).1
/-- The first cells of all fields. -/
structure Parts (w h : Nat) (f : Nat → Int) (ss : List Nat) (n : Nat) : Prop where
  cell : ∀ s ∈ ss, isC w h s
  apart : ss.Pairwise fun s t => ∀ k, k ∈ comp w h f s → k ∉ comp w h f t
  all : ∀ k, k < n → isC w h k → ∃ s ∈ ss, k ∈ comp w h f s
  len : ss.length ≤ n
include hw hh
theorem parts_at : ∀ n, n ≤ 144 → ∃ ss, Parts w h f ss n ∧ ((List.range' 0 n).foldl (fdS w h f) ([], zB)).1 = ss.map (rowZ w h f) ∧ ((List.range' 0 n).foldl (fdS w h f) ([], zB)).2 = fun k => ss.any fun s => (comp w h f s).contains k := by
  refine fold_inv (τ := List (List Int) × (Nat → Bool)) (I := fun n st => ∃ ss : List Nat, Parts w h f ss n ∧ st.1 = ss.map (rowZ w h f) ∧ st.2 = fun k => ss.any fun s => (comp w h f s).contains k) ?_ ?_
  · exact ⟨[], ⟨fun s hs => (by cases hs), List.Pairwise.nil, fun k hk => by omega, Nat.le_refl _⟩, rfl, rfl⟩
  · rintro i ⟨o, d⟩ hi ⟨ss, hp, h1, h2⟩
    dsimp only at h1 h2
    subst h1 h2
    unfold fdS
    dsimp only
    by_cases hc : isC w h i
    · rw [decide_eq_true hc, Bool.true_and]
      cases hd : ss.any fun s => (comp w h f s).contains i with
      | true =>
        rw [Bool.not_true, cond_false]
        refine ⟨ss, ⟨hp.cell, hp.apart, fun k hk hck => ?_, by have := hp.len; omega⟩, rfl, rfl⟩
        by_cases e : k = i
        · subst e
          obtain ⟨s, hs, hm⟩ := List.any_eq_true.1 hd
          exact ⟨s, hs, by simpa using hm⟩
        · exact hp.all k (by omega) hck
      | false =>
        rw [Bool.not_false, cond_true]
        refine ⟨ss ++ [i], ⟨fun s hs => ?_, ?_, fun k hk hck => ?_, by rw [List.length_append]; have := hp.len; simp; omega⟩, by simp [rowZ, rowN], by funext k; simp⟩
        · rcases List.mem_append.1 hs with hs | hs
          · exact hp.cell s hs
          · rw [List.mem_singleton] at hs; subst hs; exact hc
        · rw [List.pairwise_append]
          refine ⟨hp.apart, List.pairwise_singleton _ _, fun s hs t ht k hk hk2 => ?_⟩
          rw [List.mem_singleton] at ht; subst ht
          have hin := comp_meet hw hh (hp.cell s hs) hc hk hk2
          have : (ss.any fun s => (comp w h f s).contains t) = true := List.any_eq_true.2 ⟨s, hs, by simpa using hin⟩
          rw [this] at hd; cases hd
        · by_cases e : k = i
          · subst e; exact ⟨k, by simp, comp_self hw hh hc⟩
          · obtain ⟨s, hs, hm⟩ := hp.all k (by omega) hck
            exact ⟨s, by simp [hs], hm⟩
    · rw [decide_eq_false hc, Bool.false_and, cond_false]
      refine ⟨ss, ⟨hp.cell, hp.apart, fun k hk hck => ?_, by have := hp.len; omega⟩, rfl, rfl⟩
      by_cases e : k = i
      · subst e; exact absurd hck hc
      · exact hp.all k (by omega) hck
theorem parts_ok : ∃ ss, Parts w h f ss 144 ∧ (fdA w h f).1 = ss.map (rowZ w h f) := by
  obtain ⟨ss, h1, h2, _⟩ := parts_at hw hh (f := f) 144 (Nat.le_refl _)
  exact ⟨ss, h1, by rw [fdA_def]; exact h2⟩
theorem rowN_mem {s : Nat} (hs : isC w h s) {k : Nat} : k ∈ rowN w h f s ↔ k ∈ comp w h f s := by
  have := listed_comp hw hh (f := f) hs k
  unfold rowN
  rw [← List.contains_iff_mem, this, List.contains_iff_mem]
theorem rowN_lt {s : Nat} (hs : isC w h s) {k : Nat} (hk : k ∈ rowN w h f s) : k < 144 := comp_lt hw hh hs k ((rowN_mem hw hh hs).1 hk)
theorem rowN_pos {s : Nat} (hs : isC w h s) : 0 < (rowN w h f s).length := List.length_pos_of_mem ((rowN_mem hw hh hs).2 (comp_self hw hh hs))
theorem rowN_col {s : Nat} (hs : isC w h s) {k : Nat} (hk : k ∈ rowN w h f s) : f k = f s := (comp_ok hw hh hs).1.col k ((rowN_mem hw hh hs).1 hk)
theorem rowN_cell {s : Nat} (hs : isC w h s) {k : Nat} (hk : k ∈ rowN w h f s) : isC w h k := (comp_ok hw hh hs).1.cell k ((rowN_mem hw hh hs).1 hk)
end
end Go.RR
