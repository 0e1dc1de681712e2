/- Plain facts of pictures: cells, validity, the codes of two pictures. -/
import Derived.Test.YtkohnhkehedflaaWc
import Derived.Test.YtkohnhkehedflaaRy
set_option linter.unusedVariables false
set_option linter.unusedSimpArgs false
namespace Go.RR
open Go

abbrev I8 (x : Int) : Prop := -128 ≤ x ∧ x ≤ 127
noncomputable def isIn (w h : Int) (i : Nat) : Bool := s_iisCell (Int.tmod i 12) (IntKind.wrap .i64 (Int.tdiv i 12)) w h
noncomputable def cellsOf (w h : Int) : List Nat := (List.range' 0 144).filter (isIn w h)
theorem cellsOf_lt {w h : Int} {i : Nat} (hi : i ∈ cellsOf w h) : i < 144 := by
  have := List.mem_range'_1.1 (List.mem_filter.1 hi).1
  omega
theorem cellsOf_len (w h : Int) : (cellsOf w h).length ≤ 144 :=
  Nat.le_trans (List.length_filter_le (isIn w h) (List.range' 0 144)) (by simp)
theorem lt144 {i : Nat} (h : i < 144) : decide ((i : Int) < 144) = true := lt_true (n := 144) h
theorem end144 : decide (((144 : Nat) : Int) < 144) = false := rfl
theorem s90_eq (w h : Int) (g : Nat → Nat → Int) : s_iImage_cells w h g = some ((cellsOf w h).map fun i : Nat => (i : Int)) := by
  unfold s_iImage_cells f_iImage_cells_run3
  refine run_countI 144 (fun i l => ((i : Int), w, h, g, l)) (fun l i => cond (isIn w h i) (l ++ [(i : Int)]) l) (fun i l => l.length ≤ i) _ [] (by decide) (Nat.le_refl _) ?_ ?_
  · intro i l hi hl
    constructor
    · unfold f_iImage_cells_n3
      rw [lt144 hi, succ64 (by omega)]
      simp only [cond_true]
      unfold isIn
      cases s_iisCell (Int.tmod i 12) (IntKind.wrap .i64 (Int.tdiv i 12)) w h
      · rfl
      · simp only [cond_true]
        rw [fits_small (by simp; omega)]
        rfl
    · show (cond (isIn w h i) (l ++ [(i : Int)]) l).length ≤ i + 1
      cases isIn w h i <;> simp <;> omega
  · intro _
    unfold f_iImage_cells_n3
    rw [end144, cond_false, foldl_push (g := fun i : Nat => (i : Int))]
    rfl
theorem s67_eq (w h : Int) (f : Nat → Int) : s_iPicture_numbers w h f = some ((cellsOf w h).map fun i : Nat => (i : Int)) := by
  unfold s_iPicture_numbers; rw [s90_eq]; rfl
noncomputable abbrev nums (w h : Int) : List Int := (cellsOf w h).map fun i : Nat => (i : Int)
theorem nums_len (w h : Int) : (nums w h).length ≤ 144 := by rw [List.length_map]; exact cellsOf_len w h
theorem mem_nums {w h : Int} {x : Int} (hx : x ∈ nums w h) : ∃ j : Nat, j ∈ cellsOf w h ∧ j < 144 ∧ x = (j : Int) := by
  obtain ⟨j, hj, rfl⟩ := List.mem_map.1 hx
  exact ⟨j, hj, cellsOf_lt hj, rfl⟩

/-! ### validity -/
theorem isIn_eq {w h : Int} {j : Nat} (hw : I8 w) (hh : I8 h) (hj : j < 144) : isIn w h j = (decide ((j : Int) % 12 < w) && decide ((j : Int) / 12 < h)) :=
  s83_eq (f := zF) hw hh (by omega)
theorem valid_at {w h : Int} {f : Nat → Int} (hv : s_sl01Ok w h f = true) {j : Nat} (hj : j < 144) : p47 w h f j = true := by
  unfold s_sl01Ok at hv
  simp only [Bool.and_eq_true] at hv
  have all : ∀ (k i : Nat), allN (p47 w h f) i k = true → ∀ j, i ≤ j → j < i + k → p47 w h f j = true := by
    intro k
    induction k with
    | zero => intro i _ j h1 h2; omega
    | succ k ih =>
      intro i hall j h1 h2
      simp only [allN, Bool.and_eq_true] at hall
      by_cases e : j = i
      · rw [e]; exact hall.1
      · exact ih (i + 1) hall.2 j (by omega) (by omega)
  exact all 144 0 hv.2.2 j (Nat.zero_le j) (by omega)
theorem valid_size {w h : Int} {f : Nat → Int} (hw : I8 w) (hh : I8 h) (hv : s_sl01Ok w h f = true) : (1 ≤ w ∧ w ≤ 12) ∧ (1 ≤ h ∧ h ≤ 12) := by
  unfold s_sl01Ok at hv
  rw [w64 hw, w64 hh, s57_eq, s57_eq] at hv
  simp only [Bool.and_eq_true, decide_eq_true_eq] at hv
  exact ⟨hv.1, hv.2.1⟩
theorem valid_low {w h : Int} {f : Nat → Int} (hv : s_sl01Ok w h f = true) {j : Nat} (hj : j < 144) : f j < 16 := by
  have := valid_at hv hj
  unfold p47 at this
  simp only [Bool.and_eq_true, Bool.not_eq_true', decide_eq_false_iff_not] at this
  omega
theorem valid_cell {w h : Int} {f : Nat → Int} (hw : I8 w) (hh : I8 h) (hv : s_sl01Ok w h f = true) {j : Nat} (hj : j < 144) (hf : f j ≠ 0) : (j : Int) % 12 < w ∧ (j : Int) / 12 < h := by
  have := valid_at hv hj
  unfold p47 at this
  rw [s81_eq hw hh] at this
  simp only [Bool.and_eq_true, Bool.or_eq_true, Bool.not_eq_true', decide_eq_true_eq, decide_eq_false_iff_not, bne_iff_ne, ne_eq, Bool.not_eq_false', bne_eq_false_iff_eq] at this
  rcases this.2 with h1 | h1
  · exact h1.2
  · exact absurd h1 hf
theorem s81_in {w h : Int} {f : Nat → Int} {j : Nat} (hw : I8 w) (hh : I8 h) (hj : j < 144) : s_sl01Is w h f j = isIn w h j := by
  rw [s81_eq hw hh, isIn_eq hw hh hj, decide_eq_true (show (0 : Int) ≤ j by omega), decide_eq_true (show (j : Int) ≤ 143 by omega)]; rfl
theorem s83_in {w h : Int} {g : Nat → Int} {x y : Int} (hw : I8 w) (hh : I8 h) : s_iPicture_has w h g x y = (decide (0 ≤ x) && decide (x < w) && (decide (0 ≤ y) && decide (y < h))) := by
  unfold s_iPicture_has s_iisCell
  rw [w64 hw, w64 hh, IntWalk.i64_in (w - 1) (by omega), IntWalk.i64_in (h - 1) (by omega), s63_eq, s63_eq]
  have e3 : decide (x ≤ w - 1) = decide (x < w) := decide_eq_decide.2 (by omega)
  have e4 : decide (y ≤ h - 1) = decide (y < h) := decide_eq_decide.2 (by omega)
  rw [e3, e4]
  cases (decide (0 ≤ x) && decide (x < w)) <;> rfl
theorem place_in {x y : Int} (hx : 0 ≤ x ∧ x < 12) (hy : 0 ≤ y ∧ y < 12) : IntKind.wrap .i64 (x + (IntKind.wrap .i64 (12 * y))) = x + 12 * y ∧ inB (x + 12 * y) 144 = true := by
  rw [IntWalk.i64_in (12 * y) (by omega), IntWalk.i64_in (x + 12 * y) (by omega)]
  exact ⟨rfl, inB_of (by omega)⟩
/-- A cell's column and row, as the machine has them. -/
theorem col {i : Nat} : Int.tmod (i : Int) 12 = (i : Int) % 12 := rem12 (Int.natCast_nonneg i)
theorem lin {i : Nat} (h : i < 1000000) : IntKind.wrap .i64 (Int.tdiv (i : Int) 12) = (i : Int) / 12 := quo12 (by omega)
theorem s_iValidPicture_47 {w h : Int} {f : Nat → Int} (hw : I8 w) (hh : I8 h) : s_iValidPicture w h f = s_sl01Ok w h f := valid_eq hw hh

abbrev U8 (f : Nat → Int) : Prop := ∀ j, j < 144 → 0 ≤ f j ∧ f j ≤ 255
/-! ### codes of two -/
abbrev Pic := Int × Int × (Nat → Int)
theorem FU_steps (n : Nat) (hn : n ≤ 18446744073709551616) : ∃ k, FU = k + n := ⟨FU - n, by have := FU_big (pow_big hn); omega⟩
end Go.RR
