/- The plain law of TurnsOf: paths and their straight parts. -/
import Derived.Test.YtpcilcojfechaaaVc
import Derived.Test.YtpcilcojfechaaaRy
set_option linter.unusedVariables false
set_option linter.unusedSimpArgs false
namespace Go.RR
open Go

/-- What stands behind a run that may be left. -/
def endL {τ ρ : Type} (fin : τ → ρ) : τ ⊕ ρ → ρ
  | .inl st => fin st
  | .inr r => r
/-- A run that may be left, with what holds on the way. -/
theorem iter_exitI {α σ τ ρ : Type} {step : σ → Option (σ ⊕ ρ)} (N : Nat) (emb : Nat → τ → σ) (g : τ → Nat → τ ⊕ ρ) (I : Nat → τ → Prop) (fin : τ → ρ)
    (hs : ∀ i st, i < N → I i st → step (emb i st) = some (match g st i with | .inl st' => .inl (emb (i + 1) st') | .inr r => .inr r) ∧ ∀ st', g st i = .inl st' → I (i + 1) st') (he : ∀ st, I N st → step (emb N st) = some (.inr (fin st))) :
    ∀ (k i m : Nat), i + k = N → k < m → ∀ st, I i st → iter step m (emb i st) = some (endL fin (exitL g st (List.range' i k))) ∧ ∀ st', exitL g st (List.range' i k) = .inl st' → I N st'
  | 0, i, m + 1, h, hm, st, hI => by
    obtain rfl : i = N := h
    refine ⟨?_, fun st' e => by cases e; exact hI⟩
    unfold iter
    rw [he st hI]
    rfl
  | k + 1, i, m + 1, h, hm, st, hI => by
    rw [List.range'_succ]
    unfold iter exitL
    obtain ⟨h1, h2⟩ := hs i st (by omega) hI
    rw [h1]
    cases hg : g st i with
    | inl st' => exact iter_exitI (α := α) N emb g I fin hs he k (i + 1) m (by omega) (by omega) st' (h2 st' hg)
    | inr r => exact ⟨rfl, fun st' e => by cases e⟩
  | _, _, 0, _, hm, _, _ => by omega

/-! ### bytes -/
/-! ### Trim -/
/-! ### straight parts -/
/-! ### the law -/
end Go.RR
