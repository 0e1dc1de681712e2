/- The plain laws of FillByKind, FillByPeriods and LoseCells. -/
import Derived.Test.YtkohnhkehedflaaWe
set_option linter.unusedVariables false
set_option linter.unusedSimpArgs false
namespace Go.RR
open Go

noncomputable def lostOf (w h : Int) (f : Nat → Int) : List Int := ((cellsOf w h).filter fun i => f i == 0).map fun i : Nat => (i : Int)
theorem lost_len (w h : Int) (f : Nat → Int) : (lostOf w h f).length ≤ 144 := by
  unfold lostOf
  rw [List.length_map]
  exact Nat.le_trans (List.length_filter_le _ _) (cellsOf_len w h)
theorem s66_eq {w h : Int} {f : Nat → Int} (hw : I8 w) (hh : I8 h) : s_sl06Lost w h f = some (lostOf w h f) := by
  unfold s_sl06Lost f_sl06Lost_run3
  refine run_countI 144 (fun i (l : List Int) => ((i : Int), w, h, f, l)) (fun l i => cond (isIn w h i) (cond (f i == 0) (l ++ [(i : Int)]) l) l) (fun i l => l.length ≤ i) _ [] (by decide) (Nat.le_refl _) ?_ ?_
  · intro i l hi hl
    constructor
    · show f_sl06Lost_n3 i w h f l = _
      unfold f_sl06Lost_n3
      rw [lt144 hi, s81_in hw hh hi, inB_nat hi, toNat_nat, succ64 (by omega)]
      cases isIn w h i
      · rfl
      · simp only [cond_true]
        rw [fits_small (by simp; omega)]
        cases f i == 0 <;> rfl
    · show (cond (isIn w h i) (cond (f i == 0) (l ++ [(i : Int)]) l) l).length ≤ i + 1
      cases isIn w h i
      · show l.length ≤ i + 1; omega
      · cases f i == 0
        · show l.length ≤ i + 1; omega
        · simp; omega
  · intro _
    unfold f_sl06Lost_n3
    rw [end144, cond_false]
    have e := foldl_filter' (c := isIn w h) (f := fun (l : List Int) (i : Nat) => cond (f i == 0) (l ++ [(i : Int)]) l) (List.range' 0 144) []
    rw [← e, foldl_push (g := fun i : Nat => (i : Int))]
    rfl

theorem mem_lost {w h : Int} {f : Nat → Int} {x : Int} (hx : x ∈ lostOf w h f) : ∃ j : Nat, j ∈ cellsOf w h ∧ j < 144 ∧ x = (j : Int) ∧ f j = 0 := by
  obtain ⟨j, hj, rfl⟩ := List.mem_map.1 hx
  obtain ⟨h1, h2⟩ := List.mem_filter.1 hj
  exact ⟨j, h1, cellsOf_lt h1, rfl, by simpa using h2⟩
theorem lost_fold {σ : Type} {w h : Int} {f : Nat → Int} (g : σ → Nat → σ) (s : σ) : (lostOf w h f).foldl (fun st x => g st x.toNat) s = (cellsOf w h).foldl (fun st i => cond (f i == 0) (g st i) st) s := by
  unfold lostOf
  rw [List.foldl_map]
  simp only [toNat_nat]
  rw [foldl_filter']

/-! ### FillByKind -/
end Go.RR
