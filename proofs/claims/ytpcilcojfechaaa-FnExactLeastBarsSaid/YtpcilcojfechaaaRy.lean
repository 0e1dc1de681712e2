/- Plain Lean: what runs are, for the usual loops. No condition; no theorem of the program. -/
import Derived.Test.YtpcilcojfechaaaRw
set_option linter.unusedVariables false
set_option linter.unusedSimpArgs false
namespace Go.RR
open Go

section
variable {α σ ρ τ : Type}
theorem range_getD (d : α) (l : List α) : (List.range' 0 l.length).map (fun i => l.getD i d) = l := by
  apply List.ext_getElem?
  intro i
  rw [List.getElem?_map]
  by_cases h : i < l.length
  · rw [List.getElem?_range' h, Option.map_some, List.getElem?_eq_getElem h, Nat.zero_add, Nat.one_mul, List.getD_eq_getElem?_getD, List.getElem?_eq_getElem h]
    rfl
  · rw [List.getElem?_eq_none_iff.2 (by simp; omega), List.getElem?_eq_none_iff.2 (by omega)]
    rfl
theorem foldl_getD (d : α) (g : σ → α → σ) (l : List α) (s : σ) : (List.range' 0 l.length).foldl (fun s i => g s (l.getD i d)) s = l.foldl g s := by
  have h := List.foldl_map (f := fun i => l.getD i d) (g := g) (l := List.range' 0 l.length) (init := s)
  rw [range_getD] at h
  exact h.symm
theorem getD_mem' {d : α} {l : List α} {i : Nat} (h : i < l.length) : l.getD i d ∈ l := by
  rw [List.getD_eq_getElem?_getD, List.getElem?_eq_getElem h]
  exact List.getElem_mem h
theorem pow_big {n : Nat} (h : n ≤ 18446744073709551616) : n ≤ 2 ^ 100 := Nat.le_trans h (by decide)
/-- A counted loop. -/
theorem run_count {step : σ → Option (σ ⊕ ρ)} (N : Nat) (emb : Nat → τ → σ) (g : τ → Nat → τ) (x : ρ) (st : τ) (hN : N ≤ 18446744073709551616) (hs : ∀ i st, i < N → step (emb i st) = some (.inl (emb (i + 1) (g st i)))) (he : step (emb N ((List.range' 0 N).foldl g st)) = some (.inr x)) : iter step FU (emb 0 st) = some x :=
  iter_count step N emb g x hs N 0 FU (by omega) (FU_big (pow_big hN)) st he
theorem run_countI {step : σ → Option (σ ⊕ ρ)} (N : Nat) (emb : Nat → τ → σ) (g : τ → Nat → τ) (I : Nat → τ → Prop) (x : ρ) (st : τ) (hN : N ≤ 18446744073709551616) (h0 : I 0 st) (hs : ∀ i st, i < N → I i st → step (emb i st) = some (.inl (emb (i + 1) (g st i))) ∧ I (i + 1) (g st i)) (he : I N ((List.range' 0 N).foldl g st) → step (emb N ((List.range' 0 N).foldl g st)) = some (.inr x)) : iter step FU (emb 0 st) = some x :=
  iter_countI step N emb g I x hs N 0 FU (by omega) (FU_big (pow_big hN)) st h0 he
/-- A loop over a list. -/
theorem run_list {step : σ → Option (σ ⊕ ρ)} (d : α) (l : List α) (emb : Nat → τ → σ) (g : τ → α → τ) (x : ρ) (st : τ) (hN : l.length ≤ 18446744073709551616) (hs : ∀ i st, i < l.length → l.getD i d ∈ l → step (emb i st) = some (.inl (emb (i + 1) (g st (l.getD i d))))) (he : step (emb l.length (l.foldl g st)) = some (.inr x)) : iter step FU (emb 0 st) = some x := by
  refine run_count l.length emb (fun s i => g s (l.getD i d)) x st hN (fun i st hi => hs i st hi (getD_mem' hi)) ?_
  rw [foldl_getD]
  exact he
theorem run_listI {step : σ → Option (σ ⊕ ρ)} (d : α) (l : List α) (emb : Nat → τ → σ) (g : τ → α → τ) (I : Nat → τ → Prop) (x : ρ) (st : τ) (hN : l.length ≤ 18446744073709551616) (h0 : I 0 st) (hs : ∀ i st, i < l.length → l.getD i d ∈ l → I i st → step (emb i st) = some (.inl (emb (i + 1) (g st (l.getD i d)))) ∧ I (i + 1) (g st (l.getD i d))) (he : I l.length (l.foldl g st) → step (emb l.length (l.foldl g st)) = some (.inr x)) : iter step FU (emb 0 st) = some x := by
  refine run_countI l.length emb (fun s i => g s (l.getD i d)) I x st hN h0 (fun i st hi => hs i st hi (getD_mem' hi)) ?_
  rw [foldl_getD]
  exact he
/-- A loop that looks for the first at which something does not hold. -/
theorem iter_all {step : σ → Option (σ ⊕ ρ)} (N : Nat) (emb : Nat → σ) (p : Nat → Bool) (a b : ρ) (hs : ∀ i, i < N → step (emb i) = some (cond (p i) (.inl (emb (i + 1))) (.inr b))) (he : step (emb N) = some (.inr a)) :
    ∀ (k i m : Nat), i + k = N → k < m → iter step m (emb i) = some (cond ((List.range' i k).all p) a b)
  | 0, i, m + 1, h, hm => by
    obtain rfl : i = N := h
    unfold iter
    rw [he]; rfl
  | k + 1, i, m + 1, h, hm => by
    rw [List.range'_succ, List.all_cons]
    unfold iter
    rw [hs i (by omega)]
    cases p i
    · rfl
    · exact iter_all N emb p a b hs he k (i + 1) m (by omega) (by omega)
  | _, _, 0, _, hm => by omega
theorem run_all {step : σ → Option (σ ⊕ ρ)} (N : Nat) (emb : Nat → σ) (p : Nat → Bool) (a b : ρ) (hN : N ≤ 18446744073709551616) (hs : ∀ i, i < N → step (emb i) = some (cond (p i) (.inl (emb (i + 1))) (.inr b))) (he : step (emb N) = some (.inr a)) : iter step FU (emb 0) = some (cond ((List.range' 0 N).all p) a b) :=
  iter_all N emb p a b hs he N 0 FU (by omega) (FU_big (pow_big hN))
theorem run_allL {step : σ → Option (σ ⊕ ρ)} (d : α) (l : List α) (emb : Nat → σ) (p : α → Bool) (a b : ρ) (hN : l.length ≤ 18446744073709551616) (hs : ∀ i, i < l.length → l.getD i d ∈ l → step (emb i) = some (cond (p (l.getD i d)) (.inl (emb (i + 1))) (.inr b))) (he : step (emb l.length) = some (.inr a)) : iter step FU (emb 0) = some (cond (l.all p) a b) := by
  have h := run_all l.length emb (fun i => p (l.getD i d)) a b hN (fun i hi => hs i hi (getD_mem' hi)) he
  have e : (List.range' 0 l.length).all (fun i => p (l.getD i d)) = l.all p := by
    have := List.all_map (f := fun i => l.getD i d) (p := p) (l := List.range' 0 l.length)
    rw [range_getD] at this
    exact this.symm
  rw [e] at h
  exact h
theorem iter_all2 {step : σ → Option (σ ⊕ ρ)} (N : Nat) (emb : Nat → σ) (p : Nat → Bool) (a b : ρ) (hs : ∀ i, i < N → step (emb i) = some (cond (p i) (.inl (emb (i + 1))) (.inr b))) (he : (∀ j, j < N → p j = true) → step (emb N) = some (.inr a)) :
    ∀ (k i m : Nat), i + k = N → k < m → (∀ j, j < i → p j = true) → iter step m (emb i) = some (cond ((List.range' i k).all p) a b)
  | 0, i, m + 1, h, hm, hp => by
    obtain rfl : i = N := h
    unfold iter
    rw [he hp]; rfl
  | k + 1, i, m + 1, h, hm, hp => by
    rw [List.range'_succ, List.all_cons]
    unfold iter
    rw [hs i (by omega)]
    cases hpi : p i
    · rfl
    · refine iter_all2 N emb p a b hs he k (i + 1) m (by omega) (by omega) fun j hj => ?_
      by_cases e : j = i
      · rw [e]; exact hpi
      · exact hp j (by omega)
  | _, _, 0, _, hm, _ => by omega
theorem all_getD (d : α) (l : List α) (p : α → Bool) : (List.range' 0 l.length).all (fun i => p (l.getD i d)) = l.all p := by
  have := List.all_map (f := fun i => l.getD i d) (p := p) (l := List.range' 0 l.length)
  rw [range_getD] at this
  exact this.symm
theorem run_allL2 {step : σ → Option (σ ⊕ ρ)} (d : α) (l : List α) (emb : Nat → σ) (p : α → Bool) (a b : ρ) (hN : l.length ≤ 18446744073709551616) (hs : ∀ i, i < l.length → l.getD i d ∈ l → step (emb i) = some (cond (p (l.getD i d)) (.inl (emb (i + 1))) (.inr b))) (he : l.all p = true → step (emb l.length) = some (.inr a)) : iter step FU (emb 0) = some (cond (l.all p) a b) := by
  have h := iter_all2 (step := step) l.length emb (fun i => p (l.getD i d)) a b (fun i hi => hs i hi (getD_mem' hi)) (fun hp => he (by
    rw [← all_getD d l p, List.all_eq_true]
    intro j hj
    exact hp j (by have := List.mem_range'_1.1 hj; omega))) l.length 0 FU (by omega) (FU_big (pow_big hN)) (fun j hj => by omega)
  rw [all_getD] at h
  exact h
/-- The place of the first at which something holds, or -1. -/
theorem run_idx {step : σ → Option (σ ⊕ Int)} (N : Nat) (emb : Nat → σ) (q : Nat → Bool) (hs : ∀ i, i < N → step (emb i) = some (cond (q i) (.inr (i : Int)) (.inl (emb (i + 1))))) (he : step (emb N) = some (.inr (-1))) :
    ∀ (k i m : Nat), i + k = N → k < m → ∃ r, iter step m (emb i) = some r ∧ decide (r ≥ 0) = (List.range' i k).any q ∧ r = (match (List.range' i k).find? q with | some j => (j : Int) | none => -1)
  | 0, i, m + 1, h, hm => by
    obtain rfl : i = N := h
    unfold iter
    rw [he]
    exact ⟨-1, rfl, rfl, rfl⟩
  | k + 1, i, m + 1, h, hm => by
    rw [List.range'_succ, List.any_cons, List.find?_cons]
    unfold iter
    rw [hs i (by omega)]
    cases q i
    · exact run_idx N emb q hs he k (i + 1) m (by omega) (by omega)
    · exact ⟨i, rfl, by simp, rfl⟩
  | _, _, 0, _, hm => by omega
theorem any_getD (d : α) (l : List α) (q : α → Bool) : (List.range' 0 l.length).any (fun i => q (l.getD i d)) = l.any q := by
  have := List.any_map (f := fun i => l.getD i d) (p := q) (l := List.range' 0 l.length)
  rw [range_getD] at this
  exact this.symm
theorem set_copy {t r : List α} {i : Nat} {x : α} (hr : r.length = t.length) (hx : t[i]? = some x) : (t.take i ++ r.drop i).set i x = t.take (i + 1) ++ r.drop (i + 1) := by
  have hi : i < t.length := (List.getElem?_eq_some_iff.1 hx).1
  have h1 : (t.take i).length = i := by simp; omega
  rw [List.set_append_right _ _ (by omega), h1, Nat.sub_self, List.take_add_one, hx, List.drop_eq_getElem_cons (by omega : i < r.length), List.set_cons_zero]
  simp
/-- A loop that may be left, by its list of places. -/
theorem run_exit {step : σ → Option (σ ⊕ ρ)} (N : Nat) (emb : Nat → τ → σ) (g : τ → Nat → τ ⊕ ρ) (fin : τ → ρ) (st : τ) (hN : N ≤ 18446744073709551616)
    (hs : ∀ i st, i < N → step (emb i st) = some (match g st i with | .inl st' => .inl (emb (i + 1) st') | .inr r => .inr r)) (he : ∀ st, step (emb N st) = some (.inr (fin st))) : iter step FU (emb 0 st) = some (match exitL g st (List.range' 0 N) with | .inl st' => fin st' | .inr r => r) :=
  iter_exit step N emb g (fin st) fin hs he N 0 FU (by omega) (FU_big (pow_big hN)) st
/-- The first of some numbers at which something holds; or the one behind them. -/
def firstN (p : Nat → Bool) : Nat → Nat → Nat
  | 0, i => i
  | k + 1, i => cond (p i) i (firstN p k (i + 1))
theorem firstN_congr {p q : Nat → Bool} : ∀ (k i : Nat), (∀ j, i ≤ j → j < i + k → p j = q j) → firstN p k i = firstN q k i
  | 0, i, h => rfl
  | k + 1, i, h => by
    simp only [firstN, h i (Nat.le_refl i) (by omega), firstN_congr k (i + 1) fun j h1 h2 => h j (by omega) (by omega)]
theorem iter_first {step : σ → Option (σ ⊕ ρ)} (emb : Nat → σ) (p : Nat → Bool) (fin : Nat → ρ) (N : Nat) (hs : ∀ i, i < N → step (emb i) = some (cond (p i) (.inr (fin i)) (.inl (emb (i + 1))))) (he : step (emb N) = some (.inr (fin N))) : ∀ (k i m : Nat), i + k = N → k < m → iter step m (emb i) = some (fin (firstN p k i))
  | 0, i, m + 1, h, hm => by
    obtain rfl : i = N := h
    unfold iter
    rw [he]; rfl
  | k + 1, i, m + 1, h, hm => by
    unfold iter
    rw [hs i (by omega)]
    simp only [firstN]
    cases p i
    · exact iter_first emb p fin N hs he k (i + 1) m (by omega) (by omega)
    · rfl
  | _, _, 0, _, hm => by omega
end
/-- The first pair, in order, of which something holds. -/
def pairOf {α : Type} (bad : α → α → Bool) : List α → Option (α × α)
  | [] => none
  | a :: l => match l.find? (bad a) with
    | some b => some (a, b)
    | none => pairOf bad l
theorem find_filter {α : Type} {p c : α → Bool} (h : ∀ b, p b = true → c b = true) : ∀ l : List α, (l.filter c).find? p = l.find? p
  | [] => rfl
  | b :: l => by
    cases hc : c b
    · rw [List.filter_cons_of_neg (by simp [hc]), find_filter h l, List.find?_cons]
      cases hp : p b
      · rfl
      · rw [h b hp] at hc; cases hc
    · rw [List.filter_cons_of_pos hc, List.find?_cons, List.find?_cons, find_filter h l]
theorem pair_filter {α : Type} {bad : α → α → Bool} {c : α → Bool} (h : ∀ a b, bad a b = true → c a = true ∧ c b = true) : ∀ l : List α, pairOf bad (l.filter c) = pairOf bad l
  | [] => rfl
  | a :: l => by
    cases hc : c a
    · rw [List.filter_cons_of_neg (by simp [hc]), pair_filter h l]
      simp only [pairOf]
      have : l.find? (bad a) = none := by
        rw [List.find?_eq_none]
        intro b _ hb
        rw [(h a b hb).1] at hc; cases hc
      rw [this]
    · rw [List.filter_cons_of_pos hc]
      simp only [pairOf, find_filter (fun b hb => (h a b hb).2) l, pair_filter h l]
end Go.RR
