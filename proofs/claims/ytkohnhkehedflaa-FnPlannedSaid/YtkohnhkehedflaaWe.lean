/- The plain laws of FillFrom and FillByKind. -/
import Derived.Test.YtkohnhkehedflaaWd
set_option linter.unusedVariables false
set_option linter.unusedSimpArgs false
namespace Go.RR
open Go

theorem z_eq {x : Int} (h : x = 0) : (x == 0) = true := beq_iff_eq.2 h
theorem z_ne {x : Int} (h : ¬ x = 0) : (x == 0) = false := by simpa using h
theorem n_ne {x : Int} (h : ¬ x = 0) : (x != 0) = true := bne_iff_ne.2 h
theorem n_eq {x : Int} (h : x = 0) : (x != 0) = false := by rw [h]; rfl
/-! ### comparing pictures -/
/-! ### filling -/
noncomputable def cellsF (f : Nat → Int) (how : Nat → Int) (l : List Nat) (o : Nat → Int) : Nat → Int := l.foldl (fun o i => cond (f i != 0) o (upd o i (how i))) o
noncomputable def countF (f : Nat → Int) (how : Nat → Int) (l : List Nat) : Int := l.foldl (fun n i => cond (f i != 0) n (cond (how i != 0) (IntKind.wrap .i64 (n + 1)) n)) 0
theorem foldl_two {α σ τ : Type} {F : σ → α → σ} {G : τ → α → τ} : ∀ (l : List α) (a : σ) (b : τ), l.foldl (fun (st : σ × τ) i => (F st.1 i, G st.2 i)) (a, b) = (l.foldl F a, l.foldl G b)
  | [], a, b => rfl
  | x :: l, a, b => by rw [List.foldl_cons, foldl_two l]; rfl
theorem cellsF_at {f how : Nat → Int} : ∀ (l : List Nat) (o : Nat → Int) (j : Nat), cellsF f how l o j = if j ∈ l ∧ f j = 0 then how j else o j
  | [], o, j => by simp [cellsF]
  | i :: l, o, j => by
    have ih := cellsF_at (f := f) (how := how) l
    unfold cellsF at ih ⊢
    rw [List.foldl_cons, ih]
    by_cases hj : j ∈ l ∧ f j = 0
    · rw [if_pos hj, if_pos ⟨by simp [hj.1], hj.2⟩]
    · rw [if_neg hj]
      by_cases h0 : f i = 0
      · have hb : (f i != 0) = false := by simp [h0]
        rw [hb, cond_false]
        unfold upd
        by_cases hji : j = i
        · subst hji
          rw [Nat.beq_refl, cond_true, if_pos ⟨by simp, h0⟩]
        · rw [beqF hji, cond_false, if_neg]
          rintro ⟨h1, h2⟩
          rcases List.mem_cons.1 h1 with h1 | h1
          · exact hji h1
          · exact hj ⟨h1, h2⟩
      · have hb : (f i != 0) = true := by simpa using h0
        rw [hb, cond_true, if_neg]
        rintro ⟨h1, h2⟩
        rcases List.mem_cons.1 h1 with h1 | h1
        · subst h1; exact h0 h2
        · exact hj ⟨h1, h2⟩
theorem countF_congr {f : Nat → Int} {how how' : Nat → Int} {l : List Nat} (h : ∀ i ∈ l, f i = 0 → how i = how' i) : countF f how l = countF f how' l := by
  unfold countF
  refine foldl_ext' _ _ fun i hi n => ?_
  by_cases h0 : f i = 0
  · rw [h i hi h0]
  · have hb : (f i != 0) = true := by simpa using h0
    rw [hb]; rfl
theorem countF_all {w h : Int} {f how : Nat → Int} (hc : ∀ i, i < 144 → f i = 0 → how i ≠ 0 → isIn w h i = true) : countF f how (cellsOf w h) = countF f how (List.range' 0 144) := by
  unfold countF cellsOf
  rw [foldl_filter']
  refine foldl_ext' _ _ fun i hi n => ?_
  have hi : i < 144 := by have := List.mem_range'_1.1 hi; omega
  by_cases h0 : f i = 0
  · by_cases h1 : how i = 0
    · have hb : (how i != 0) = false := by simp [h1]
      rw [hb]
      cases isIn w h i <;> cases f i != 0 <;> rfl
    · rw [hc i hi h0 h1]; rfl
  · have hb : (f i != 0) = true := by simpa using h0
    rw [hb]
    cases isIn w h i <;> rfl
/-- The step of a fill. -/
noncomputable def fillStep (f how : Nat → Int) (st : (Nat → Int) × Int) (i : Nat) : (Nat → Int) × Int := (cond (f i != 0) st.1 (upd st.1 i (how i)), cond (f i != 0) st.2 (cond (how i != 0) (IntKind.wrap .i64 (st.2 + 1)) st.2))
theorem fill_fold (f how : Nat → Int) (l : List Nat) (o : Nat → Int) : l.foldl (fillStep f how) (o, 0) = (cellsF f how l o, countF f how l) :=
  foldl_two (F := fun (o : Nat → Int) i => cond (f i != 0) o (upd o i (how i))) (G := fun (n : Int) i => cond (f i != 0) n (cond (how i != 0) (IntKind.wrap .i64 (n + 1)) n)) l o 0

/-! ### FillFrom -/
noncomputable def fromS (f g : Nat → Int) (st : (Nat → Int) × Int) (i : Nat) : (Nat → Int) × Int := cond (f i == 0) (cond (g i != 0) (upd st.1 i (g i), IntKind.wrap .i64 (st.2 + 1)) st) st
theorem fromS_at {f g : Nat → Int} : ∀ (l : List Nat) (st : (Nat → Int) × Int), (∀ j, (l.foldl (fromS f g) st).1 j = if j ∈ l ∧ f j = 0 ∧ g j ≠ 0 then g j else st.1 j) ∧ (l.foldl (fromS f g) st).2 = l.foldl (fun n i => cond (f i != 0) n (cond (g i != 0) (IntKind.wrap .i64 (n + 1)) n)) st.2
  | [], st => ⟨fun j => by simp, rfl⟩
  | i :: l, st => by
    obtain ⟨h1, h2⟩ := fromS_at (f := f) (g := g) l (fromS f g st i)
    rw [List.foldl_cons, List.foldl_cons]
    constructor
    · intro j
      rw [h1]
      by_cases hj : j ∈ l ∧ f j = 0 ∧ g j ≠ 0
      · rw [if_pos hj, if_pos ⟨by simp [hj.1], hj.2⟩]
      · rw [if_neg hj]
        by_cases h0 : f i = 0
        · by_cases hg : g i = 0
          · have e : fromS f g st i = st := by unfold fromS; rw [z_eq h0, n_eq hg]; rfl
            rw [e, if_neg]
            rintro ⟨q1, q2, q3⟩
            rcases List.mem_cons.1 q1 with q1 | q1
            · subst q1; exact q3 hg
            · exact hj ⟨q1, q2, q3⟩
          · have e : (fromS f g st i).1 = upd st.1 i (g i) := by unfold fromS; rw [z_eq h0, n_ne hg]; rfl
            rw [e]
            unfold upd
            by_cases hji : j = i
            · subst hji
              rw [Nat.beq_refl, cond_true, if_pos ⟨by simp, h0, hg⟩]
            · rw [beqF hji, cond_false, if_neg]
              rintro ⟨q1, q2⟩
              rcases List.mem_cons.1 q1 with q1 | q1
              · exact hji q1
              · exact hj ⟨q1, q2⟩
        · have e : fromS f g st i = st := by unfold fromS; rw [z_ne h0]; rfl
          rw [e, if_neg]
          rintro ⟨q1, q2, q3⟩
          rcases List.mem_cons.1 q1 with q1 | q1
          · subst q1; exact h0 q2
          · exact hj ⟨q1, q2, q3⟩
    · rw [h2]
      congr 1
      unfold fromS
      by_cases h0 : f i = 0
      · by_cases hg : g i = 0
        · rw [z_eq h0, n_eq hg, n_eq h0]; rfl
        · rw [z_eq h0, n_ne hg, n_eq h0]; rfl
      · rw [z_ne h0, n_ne h0]; rfl
end Go.RR
