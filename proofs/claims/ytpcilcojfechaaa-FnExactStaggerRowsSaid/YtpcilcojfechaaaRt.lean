/- Plain Lean of loops: folds over lists, with an exit and without. No condition; no theorem of the program. -/
import Derived.Test.YtpcilcojfechaaaRp
set_option linter.unusedVariables false
set_option linter.unusedSimpArgs false
namespace Go.RR
open Go

/-! ### Folds -/
/-- A fold that may be left. -/
def exitL.{u, v, w} {α : Type u} {σ : Type v} {ρ : Type w} (step : σ → α → σ ⊕ ρ) : σ → List α → σ ⊕ ρ
  | s, [] => .inl s
  | s, x :: l => match step s x with
    | .inl s' => exitL step s' l
    | .inr r => .inr r
/-- What stands behind a fold's end or its exit. -/
def goesOn {σ ρ : Type} (G : σ → Prop) (E : ρ → Prop) : σ ⊕ ρ → Prop
  | .inl s => G s
  | .inr r => E r
section
variable {α σ ρ : Type}
theorem foldl_ext' {f g : σ → α → σ} : ∀ (l : List α) (s : σ), (∀ x, x ∈ l → ∀ s, f s x = g s x) → l.foldl f s = l.foldl g s
  | [], s, h => rfl
  | x :: l, s, h => by
    rw [List.foldl_cons, List.foldl_cons, h x (by simp) s]
    exact foldl_ext' l _ fun y hy => h y (by simp [hy])
theorem exitL_ext {f g : σ → α → σ ⊕ ρ} : ∀ (l : List α) (s : σ), (∀ x, x ∈ l → ∀ s, f s x = g s x) → exitL f s l = exitL g s l
  | [], s, h => rfl
  | x :: l, s, h => by
    simp only [exitL, h x (by simp) s]
    cases g s x with
    | inl s' => exact exitL_ext l s' fun y hy => h y (by simp [hy])
    | inr r => rfl
theorem exitL_map {β : Type} {g : β → α} {f : σ → α → σ ⊕ ρ} : ∀ (l : List β) (s : σ), exitL f s (l.map g) = exitL (fun s x => f s (g x)) s l
  | [], s => rfl
  | x :: l, s => by
    simp only [List.map_cons, exitL]
    cases f s (g x) with
    | inl s' => exact exitL_map l s'
    | inr r => rfl
theorem exitL_filter {c : α → Bool} {f : σ → α → σ ⊕ ρ} : ∀ (l : List α) (s : σ), exitL f s (l.filter c) = exitL (fun s x => cond (c x) (f s x) (.inl s)) s l
  | [], s => rfl
  | x :: l, s => by
    cases hc : c x
    · rw [List.filter_cons_of_neg (by simp [hc])]
      simp only [exitL, hc, cond_false]
      exact exitL_filter l s
    · rw [List.filter_cons_of_pos hc]
      simp only [exitL, hc, cond_true]
      cases f s x with
      | inl s' => exact exitL_filter l s'
      | inr r => rfl
theorem foldl_filter' {c : α → Bool} {f : σ → α → σ} : ∀ (l : List α) (s : σ), (l.filter c).foldl f s = l.foldl (fun s x => cond (c x) (f s x) s) s
  | [], s => rfl
  | x :: l, s => by
    cases hc : c x
    · rw [List.filter_cons_of_neg (by simp [hc]), List.foldl_cons, hc]
      exact foldl_filter' l s
    · rw [List.filter_cons_of_pos hc, List.foldl_cons, List.foldl_cons, hc]
      exact foldl_filter' l _
theorem foldl_push {β : Type} {c : α → Bool} {g : α → β} : ∀ (l : List α) (s : List β), l.foldl (fun s x => cond (c x) (s ++ [g x]) s) s = s ++ (l.filter c).map g
  | [], s => by simp
  | x :: l, s => by
    rw [List.foldl_cons, foldl_push l]
    cases hc : c x
    · rw [List.filter_cons_of_neg (by simp [hc])]; rfl
    · rw [List.filter_cons_of_pos hc]; simp

/-! ### Loops that count -/
/-- A loop over the numbers below one. -/
theorem count_loop (N : Nat) (G : Nat → σ → Prop) (step : σ → Nat → σ) (hs : ∀ i st, i < N → G (i + 1) (step st i) → G i st) :
    ∀ (k i : Nat), i + k = N → ∀ st, G N ((List.range' i k).foldl step st) → G i st
  | 0, i, h, st, g => by
    obtain rfl : i = N := h
    exact g
  | k + 1, i, h, st, g => by
    rw [List.range'_succ, List.foldl_cons] at g
    exact hs i st (by omega) (count_loop N G step hs k (i + 1) (by omega) _ g)
theorem count_exit (N : Nat) (G : Nat → σ → Prop) (E : ρ → Prop) (step : σ → Nat → σ ⊕ ρ) (hs : ∀ i st, i < N → goesOn (G (i + 1)) E (step st i) → G i st) :
    ∀ (k i : Nat), i + k = N → ∀ st, goesOn (G N) E (exitL step st (List.range' i k)) → G i st
  | 0, i, h, st, g => by
    obtain rfl : i = N := h
    exact g
  | k + 1, i, h, st, g => by
    rw [List.range'_succ] at g
    simp only [exitL] at g
    refine hs i st (by omega) ?_
    cases hst : step st i with
    | inl s' => rw [hst] at g; exact count_exit N G E step hs k (i + 1) (by omega) _ g
    | inr r => rw [hst] at g; exact g
/-- A loop over a list. -/
theorem list_loop' (d : α) (l : List α) (G : Nat → σ → Prop) (step : σ → α → σ) (hs : ∀ i st, i < l.length → l.getD i d ∈ l → G (i + 1) (step st (l.getD i d)) → G i st) :
    ∀ (m : List α) (i : Nat), l = l.take i ++ m → i ≤ l.length → ∀ st, G l.length (m.foldl step st) → G i st
  | [], i, h, hi, st, g => by
    have : l.length = i := by
      have := congrArg List.length h
      simp at this; omega
    rw [this] at g
    exact g
  | x :: m, i, h, hi, st, g => by
    have hlt : i < l.length := by
      have := congrArg List.length h
      simp at this; omega
    have hx : l.getD i d = x := by
      rw [List.getD_eq_getElem?_getD, h, List.getElem?_append_right (by rw [List.length_take]; exact Nat.min_le_left _ _), List.length_take, Nat.min_eq_left hi]
      simp
    have hm : l.getD i d ∈ l := by rw [hx, h]; simp
    refine hs i st hlt hm ?_
    rw [hx]
    rw [List.foldl_cons] at g
    refine list_loop' d l G step hs m (i + 1) ?_ (by omega) _ g
    have h2 : l.take (i + 1) = l.take i ++ [x] := by
      rw [List.take_add_one, show l[i]? = some x from ?_]
      · rfl
      · rw [List.getElem?_eq_getElem hlt]
        rw [List.getD_eq_getElem?_getD, List.getElem?_eq_getElem hlt] at hx
        exact congrArg some hx
    rw [h2, List.append_assoc]
    exact h
theorem list_loop (d : α) (l : List α) (G : Nat → σ → Prop) (step : σ → α → σ) (hs : ∀ i st, i < l.length → l.getD i d ∈ l → G (i + 1) (step st (l.getD i d)) → G i st) (st : σ) (g : G l.length (l.foldl step st)) : G 0 st :=
  list_loop' d l G step hs l 0 (by simp) (by omega) st g
theorem list_exit' (d : α) (l : List α) (G : Nat → σ → Prop) (E : ρ → Prop) (step : σ → α → σ ⊕ ρ) (hs : ∀ i st, i < l.length → l.getD i d ∈ l → goesOn (G (i + 1)) E (step st (l.getD i d)) → G i st) :
    ∀ (m : List α) (i : Nat), l = l.take i ++ m → i ≤ l.length → ∀ st, goesOn (G l.length) E (exitL step st m) → G i st
  | [], i, h, hi, st, g => by
    have : l.length = i := by
      have := congrArg List.length h
      simp at this; omega
    rw [this] at g
    exact g
  | x :: m, i, h, hi, st, g => by
    have hlt : i < l.length := by
      have := congrArg List.length h
      simp at this; omega
    have hx : l.getD i d = x := by
      rw [List.getD_eq_getElem?_getD, h, List.getElem?_append_right (by rw [List.length_take]; exact Nat.min_le_left _ _), List.length_take, Nat.min_eq_left hi]
      simp
    have hm : l.getD i d ∈ l := by rw [hx, h]; simp
    refine hs i st hlt hm ?_
    rw [hx]
    simp only [exitL] at g
    have h2 : l.take (i + 1) = l.take i ++ [x] := by
      rw [List.take_add_one, show l[i]? = some x from ?_]
      · rfl
      · rw [List.getElem?_eq_getElem hlt]
        rw [List.getD_eq_getElem?_getD, List.getElem?_eq_getElem hlt] at hx
        exact congrArg some hx
    cases hst : step st x with
    | inl s' =>
      rw [hst] at g
      exact list_exit' d l G E step hs m (i + 1) (by rw [h2, List.append_assoc]; exact h) (by omega) _ g
    | inr r => rw [hst] at g; exact g
theorem list_exit (d : α) (l : List α) (G : Nat → σ → Prop) (E : ρ → Prop) (step : σ → α → σ ⊕ ρ) (hs : ∀ i st, i < l.length → l.getD i d ∈ l → goesOn (G (i + 1)) E (step st (l.getD i d)) → G i st) (st : σ) (g : goesOn (G l.length) E (exitL step st l)) : G 0 st :=
  list_exit' d l G E step hs l 0 (by simp) (by omega) st g
end
theorem fits_small {n : Nat} (h : n ≤ 140737488355328) : fits n = true := Nat.ble_eq_true_of_le h
theorem inB_of {x : Int} {n : Nat} (h : 0 ≤ x ∧ x < (n : Int)) : inB x n = true := by
  unfold inB; simp [h.1, h.2]
theorem lt_neg (n : Nat) : decide ((n : Int) < (n : Int)) = false := by simp
end Go.RR
