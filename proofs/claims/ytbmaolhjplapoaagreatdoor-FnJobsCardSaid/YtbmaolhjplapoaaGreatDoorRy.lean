/- Plain Lean: what runs are, for the usual loops. No condition. -/
import Derived.Test.YtbmaolhjplapoaaGreatDoorRw
set_option linter.unusedVariables false
set_option linter.unusedSimpArgs false
namespace Go.RR
open Go
section
variable {α σ ρ τ : Type}
theorem range_getD (d : α) (l : List α) : (List.range' 0 l.length).map (fun i => l.getD i d) = l := by
 apply List.ext_getElem?
 intro i
 rw [List.getElem?_map]
 by_cases h : i < l.length
 ·rw [List.getElem?_range' h, Option.map_some, List.getElem?_eq_getElem h, Nat.zero_add, Nat.one_mul, List.getD_eq_getElem?_getD, List.getElem?_eq_getElem h]
  rfl
 ·rw [List.getElem?_eq_none_iff.2 (by simp; omega), List.getElem?_eq_none_iff.2 (by omega)]
  rfl
theorem foldl_getD (d : α) (g : σ → α → σ) (l : List α) (s : σ) : (List.range' 0 l.length).foldl (fun s i => g s (l.getD i d)) s = l.foldl g s := by
 have h := List.foldl_map (f := fun i => l.getD i d) (g := g) (l := List.range' 0 l.length) (init := s)
 rw [range_getD] at h
 exact h.symm
theorem getD_mem' {d : α} {l : List α} {i : Nat} (h : i < l.length) : l.getD i d ∈ l := by
 rw [List.getD_eq_getElem?_getD, List.getElem?_eq_getElem h]
 exact List.getElem_mem h
theorem pow_big {n : Nat} (h : n ≤ 18446744073709551616) : n ≤ 2 ^ 100 := Nat.le_trans h (by decide)
theorem run_count {step : σ → Option (σ ⊕ ρ)} (N : Nat) (emb : Nat → τ → σ) (g : τ → Nat → τ) (x : ρ) (st : τ) (hN : N ≤ 18446744073709551616) (hs : ∀ i st, i < N → step (emb i st) = some (.inl (emb (i + 1) (g st i)))) (he : step (emb N ((List.range' 0 N).foldl g st)) = some (.inr x)) : iter step FU (emb 0 st) = some x :=
 iter_count step N emb g x hs N 0 FU (by omega) (FU_big (pow_big hN)) st he
theorem run_countI {step : σ → Option (σ ⊕ ρ)} (N : Nat) (emb : Nat → τ → σ) (g : τ → Nat → τ) (I : Nat → τ → Prop) (x : ρ) (st : τ) (hN : N ≤ 18446744073709551616) (h0 : I 0 st) (hs : ∀ i st, i < N → I i st → step (emb i st) = some (.inl (emb (i + 1) (g st i))) ∧ I (i + 1) (g st i)) (he : I N ((List.range' 0 N).foldl g st) → step (emb N ((List.range' 0 N).foldl g st)) = some (.inr x)) : iter step FU (emb 0 st) = some x :=
 iter_countI step N emb g I x hs N 0 FU (by omega) (FU_big (pow_big hN)) st h0 he
theorem run_list {step : σ → Option (σ ⊕ ρ)} (d : α) (l : List α) (emb : Nat → τ → σ) (g : τ → α → τ) (x : ρ) (st : τ) (hN : l.length ≤ 18446744073709551616) (hs : ∀ i st, i < l.length → l.getD i d ∈ l → step (emb i st) = some (.inl (emb (i + 1) (g st (l.getD i d))))) (he : step (emb l.length (l.foldl g st)) = some (.inr x)) : iter step FU (emb 0 st) = some x := by
 refine run_count l.length emb (fun s i => g s (l.getD i d)) x st hN (fun i st hi => hs i st hi (getD_mem' hi)) ?_
 rw [foldl_getD]
 exact he
theorem run_listI {step : σ → Option (σ ⊕ ρ)} (d : α) (l : List α) (emb : Nat → τ → σ) (g : τ → α → τ) (I : Nat → τ → Prop) (x : ρ) (st : τ) (hN : l.length ≤ 18446744073709551616) (h0 : I 0 st) (hs : ∀ i st, i < l.length → l.getD i d ∈ l → I i st → step (emb i st) = some (.inl (emb (i + 1) (g st (l.getD i d)))) ∧ I (i + 1) (g st (l.getD i d))) (he : I l.length (l.foldl g st) → step (emb l.length (l.foldl g st)) = some (.inr x)) : iter step FU (emb 0 st) = some x := by
 refine run_countI l.length emb (fun s i => g s (l.getD i d)) I x st hN h0 (fun i st hi => hs i st hi (getD_mem' hi)) ?_
 rw [foldl_getD]
 exact he
theorem iter_all {step : σ → Option (σ ⊕ ρ)} (N : Nat) (emb : Nat → σ) (p : Nat → Bool) (a b : ρ) (hs : ∀ i, i < N → step (emb i) = some (cond (p i) (.inl (emb (i + 1))) (.inr b))) (he : step (emb N) = some (.inr a)) :
  ∀ (k i m : Nat), i + k = N → k < m → iter step m (emb i) = some (cond ((List.range' i k).all p) a b)
 | 0, i, m + 1, h, hm => by
  obtain rfl : i = N := h
  unfold iter
  rw [he]; rfl
 | k + 1, i, m + 1, h, hm => by
  rw [List.range'_succ, List.all_cons]
  unfold iter
  rw [hs i (by omega)]
  cases p i
  ·rfl
  ·exact iter_all N emb p a b hs he k (i + 1) m (by omega) (by omega)
 | _, _, 0, _, hm => by omega
theorem run_all {step : σ → Option (σ ⊕ ρ)} (N : Nat) (emb : Nat → σ) (p : Nat → Bool) (a b : ρ) (hN : N ≤ 18446744073709551616) (hs : ∀ i, i < N → step (emb i) = some (cond (p i) (.inl (emb (i + 1))) (.inr b))) (he : step (emb N) = some (.inr a)) : iter step FU (emb 0) = some (cond ((List.range' 0 N).all p) a b) :=
 iter_all N emb p a b hs he N 0 FU (by omega) (FU_big (pow_big hN))
theorem run_allL {step : σ → Option (σ ⊕ ρ)} (d : α) (l : List α) (emb : Nat → σ) (p : α → Bool) (a b : ρ) (hN : l.length ≤ 18446744073709551616) (hs : ∀ i, i < l.length → l.getD i d ∈ l → step (emb i) = some (cond (p (l.getD i d)) (.inl (emb (i + 1))) (.inr b))) (he : step (emb l.length) = some (.inr a)) : iter step FU (emb 0) = some (cond (l.all p) a b) := by
 have h := run_all l.length emb (fun i => p (l.getD i d)) a b hN (fun i hi => hs i hi (getD_mem' hi)) he
 have e : (List.range' 0 l.length).all (fun i => p (l.getD i d)) = l.all p := by
  have := List.all_map (f := fun i => l.getD i d) (p := p) (l := List.range' 0 l.length)
  rw [range_getD] at this
  exact this.symm
 rw [e] at h
 exact h
theorem all_getD (d : α) (l : List α) (p : α → Bool) : (List.range' 0 l.length).all (fun i => p (l.getD i d)) = l.all p := by
 have := List.all_map (f := fun i => l.getD i d) (p := p) (l := List.range' 0 l.length)
 rw [range_getD] at this
 exact this.symm
theorem run_idx {step : σ → Option (σ ⊕ Int)} (N : Nat) (emb : Nat → σ) (q : Nat → Bool) (hs : ∀ i, i < N → step (emb i) = some (cond (q i) (.inr (i : Int)) (.inl (emb (i + 1))))) (he : step (emb N) = some (.inr (-1))) :
  ∀ (k i m : Nat), i + k = N → k < m → ∃ r, iter step m (emb i) = some r ∧ decide (r ≥ 0) = (List.range' i k).any q ∧ r = (match (List.range' i k).find? q with | some j => (j : Int) | none => -1)
 | 0, i, m + 1, h, hm => by
  obtain rfl : i = N := h
  unfold iter
  rw [he]
  exact ⟨-1, rfl, rfl, rfl⟩
 | k + 1, i, m + 1, h, hm => by
  rw [List.range'_succ, List.any_cons, List.find?_cons]
  unfold iter
  rw [hs i (by omega)]
  cases q i
  ·exact run_idx N emb q hs he k (i + 1) m (by omega) (by omega)
  ·exact ⟨i, rfl, by simp, rfl⟩
 | _, _, 0, _, hm => by omega
theorem any_getD (d : α) (l : List α) (q : α → Bool) : (List.range' 0 l.length).any (fun i => q (l.getD i d)) = l.any q := by
 have := List.any_map (f := fun i => l.getD i d) (p := q) (l := List.range' 0 l.length)
 rw [range_getD] at this
 exact this.symm
end
end Go.RR
