/- Plain Lean of loops: folds over lists, with an exit and without. No condition. -/
import Derived.Test.YtkohnhkehedflaaRp
set_option linter.unusedVariables false
set_option linter.unusedSimpArgs false
namespace Go.RR
open Go
def exitL.{u, v, w} {α : Type u} {σ : Type v} {ρ : Type w} (step : σ → α → σ ⊕ ρ) : σ → List α → σ ⊕ ρ
 | s, [] => .inl s
 | s, x :: l => match step s x with
  | .inl s' => exitL step s' l
  | .inr r => .inr r
def goesOn {σ ρ : Type} (G : σ → Prop) (E : ρ → Prop) : σ ⊕ ρ → Prop
 | .inl s => G s
 | .inr r => E r
section
variable {α σ ρ : Type}
theorem foldl_ext' {f g : σ → α → σ} : ∀ (l : List α) (s : σ), (∀ x, x ∈ l → ∀ s, f s x = g s x) → l.foldl f s = l.foldl g s
 | [], s, h => rfl
 | x :: l, s, h => by
  rw [List.foldl_cons, List.foldl_cons, h x (by simp) s]
  exact foldl_ext' l _ fun y hy => h y (by simp [hy])
end
theorem fits_small {n : Nat} (h : n ≤ 140737488355328) : fits n = true := Nat.ble_eq_true_of_le h
theorem inB_of {x : Int} {n : Nat} (h : 0 ≤ x ∧ x < (n : Int)) : inB x n = true := by
 unfold inB; simp [h.1, h.2]
theorem lt_neg (n : Nat) : decide ((n : Int) < (n : Int)) = false := by simp
end Go.RR
