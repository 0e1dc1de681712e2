/- The plain law of FillByNeighbours. -/
import Derived.Test.YtkbolifaojmmhaaWp
set_option linter.unusedVariables false
set_option linter.unusedSimpArgs false
namespace Go.RR
open Go

def Rng (f : Nat → Int) : Prop := ∀ k, k < 144 → 0 ≤ f k ∧ f k < 16
theorem most_range (a : Nat → Int) : 0 ≤ mostB a ∧ mostB a < 16 := by
  unfold mostB
  have : ∀ (ks : List Nat) (st : Int), (∀ k ∈ ks, k < 16) → (0 ≤ st ∧ st < 16) → 0 ≤ ks.foldl (bestStep a) st ∧ ks.foldl (bestStep a) st < 16 := by
    intro ks
    induction ks with
    | nil => intro st _ h; exact h
    | cons k ks ih =>
      intro st hk h
      rw [List.foldl_cons]
      exact ih _ (fun x hx => hk x (by simp [hx])) (bestStep_range h (hk k (by simp)))
  have h := this (List.range' 1 15) 0 (fun k hk => by have := List.mem_range'_1.1 hk; omega) (by omega)
  rw [IntWalk.u8_in _ (by omega)]
  exact h
theorem round_range {w h : Int} {f : Nat → Int} (hf : Rng f) : Rng (roundF w h f) := by
  intro k hk
  unfold roundF
  rw [cellsF_at]
  split
  · exact most_range _
  · exact hf k hk
noncomputable def goB (w h : Int) : Nat → Nat → (Nat → Int) → (Nat → Int) × Int
  | 0, k, f => (f, (k : Int))
  | rem + 1, k, f => cond (roundN w h f == 0) (f, (k : Int)) (goB w h rem (k + 1) (roundF w h f))
theorem rounds_run {σ ρ : Type} {step : σ → Option (σ ⊕ ρ)} {w h : Int} (n : Nat) (emb : Nat → (Nat → Int) → σ) (fin : (Nat → Int) → Int → ρ)
    (hs : ∀ k f, k < n → Rng f → step (emb k f) = some (cond (roundN w h f == 0) (.inr (fin f k)) (.inl (emb (k + 1) (roundF w h f)))))
    (he : ∀ f, step (emb n f) = some (.inr (fin f n))) : ∀ (rem k : Nat) (f : Nat → Int) (m : Nat), k + rem = n → rem < m → Rng f → iter step m (emb k f) = some (fin (goB w h rem k f).1 (goB w h rem k f).2)
  | 0, k, f, m + 1, hk, hm, hf => by
    obtain rfl : k = n := by omega
    simp only [iter, he]
    rfl
  | rem + 1, k, f, m + 1, hk, hm, hf => by
    simp only [iter, hs k f (by omega) hf]
    unfold goB
    cases roundN w h f == 0
    · exact rounds_run n emb fin hs he rem (k + 1) (roundF w h f) m (by omega) (by omega) (round_range hf)
    · rfl
theorem law_FillByNeighbours {w h : Int} {f : Nat → Int} {k : Int} (hw : I8 w) (hh : I8 h) (hf : U8 f) (hk : IntKind.i64.min ≤ k ∧ k ≤ IntKind.i64.max) : s_wFnExactFillByNeighbours w h f k = some true := by
  have key : ∀ f' : Nat → Int, U8 f' → ∃ a, s_sFillByNeighbours w h f' k = some a ∧ s_iFillByNeighbours w h f' k = some a := by
    intro f' hf'
    unfold s_sFillByNeighbours s_iFillByNeighbours
    rw [valid_eq hw hh]
    have e : s_iwithin k 0 30 = s_sl00In k 0 30 := rfl
    rw [e]
    cases hv : s_sl01Ok w h f'
    · cases s_sl00In k 0 30 <;> exact ⟨_, rfl, rfl⟩
    · cases hr : s_sl00In k 0 30
      · exact ⟨_, rfl, rfl⟩
      · rw [s57_eq] at hr
        simp only [Bool.and_eq_true, decide_eq_true_eq] at hr
        obtain ⟨n, rfl⟩ : ∃ n : Nat, k = (n : Int) := ⟨k.toNat, by omega⟩
        obtain ⟨h1, h2⟩ := valid_size hw hh hv
        have hb : Rng f' := fun k hk => ⟨(hf' k hk).1, valid_low hv hk⟩
        refine ⟨(w, h, (goB w h n 0 f').1, (goB w h n 0 f').2, 0), ?_, ?_⟩
        · show f_sFillByNeighbours_run6 ((n : Int), 0, w, h, f', 0, 0, zF) = _
          unfold f_sFillByNeighbours_run6
          refine rounds_run n (fun k (f : Nat → Int) => ((n : Int), (k : Int), w, h, f, 0, 0, zF)) (fun f k => (w, h, f, k, 0)) ?_ ?_ n 0 f' FU (by omega) (FU_big (pow_big (by omega))) hb
          · intro k f hk hf
            show f_sFillByNeighbours_n6 n k w h f 0 0 zF = _
            unfold f_sFillByNeighbours_n6
            rw [lt_true hk, sround_eq h1 h2 hf, succ64 (by omega)]
            simp only [cond_true, Option.bind]
            cases roundN w h f == 0 <;> rfl
          · intro f
            show f_sFillByNeighbours_n6 n n w h f 0 0 zF = _
            unfold f_sFillByNeighbours_n6
            rw [lt_neg, cond_false]
        · show f_iFillByNeighbours_run5 ((n : Int), (n : Int), 0, w, h, f', 0, 0, zF) = _
          unfold f_iFillByNeighbours_run5
          refine rounds_run n (fun k (f : Nat → Int) => ((n : Int), (n : Int), (k : Int), w, h, f, 0, 0, zF)) (fun f k => (w, h, f, k, 0)) ?_ ?_ n 0 f' FU (by omega) (FU_big (pow_big (by omega))) hb
          · intro k f hk hf
            show f_iFillByNeighbours_n5 n n k w h f 0 0 zF = _
            unfold f_iFillByNeighbours_n5
            rw [lt_true hk, iround_eq h1 h2 hf, succ64 (by omega)]
            simp only [cond_true, Option.bind]
            cases roundN w h f == 0 <;> rfl
          · intro f
            show f_iFillByNeighbours_n5 n n n w h f 0 0 zF = _
            unfold f_iFillByNeighbours_n5
            rw [lt_neg, cond_false]
  unfold s_wFnExactFillByNeighbours s_wtoPicture
  obtain ⟨a, e1, e2⟩ := key (s_wtoByteA144 f) (u_wFnExactPeriodsOf_51 hf)
  exact sameFill e1 e2 ⟨rfl, rfl, fun _ _ => rfl, rfl, rfl⟩
end Go.RR
