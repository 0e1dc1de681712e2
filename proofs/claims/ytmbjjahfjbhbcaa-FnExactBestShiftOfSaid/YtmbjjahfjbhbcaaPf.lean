/- The plain law of BestShiftOf. -/
import Derived.Test.YtmbjjahfjbhbcaaPc
import Derived.Test.YtmbjjahfjbhbcaaPe
set_option linter.unusedVariables false
set_option linter.unusedSimpArgs false
namespace Go.RR
open Go

theorem isIn_eq {w h : Int} {j : Nat} (hw : -128 ≤ w ∧ w ≤ 127) (hh : -128 ≤ h ∧ h ≤ 127) (hj : j < 144) : isIn w h j = (decide ((j : Int) % 12 < w) && decide ((j : Int) / 12 < h)) :=
  s83_eq (f := zF) hw hh (by omega)
theorem valid_at {w h : Int} {f : Nat → Int} (hv : s47 w h f = true) {j : Nat} (hj : j < 144) : p47 w h f j = true := by
  unfold s47 at hv
  simp only [Bool.and_eq_true] at hv
  have all : ∀ (k i : Nat), allN (p47 w h f) i k = true → ∀ j, i ≤ j → j < i + k → p47 w h f j = true := by
    intro k
    induction k with
    | zero => intro i _ j h1 h2; omega
    | succ k ih =>
      intro i hall j h1 h2
      simp only [allN, Bool.and_eq_true] at hall
      by_cases e : j = i
      · rw [e]; exact hall.1
      · exact ih (i + 1) hall.2 j (by omega) (by omega)
  exact all 144 0 hv.2.2 j (Nat.zero_le j) (by omega)
theorem valid_size {w h : Int} {f : Nat → Int} (hw : -128 ≤ w ∧ w ≤ 127) (hh : -128 ≤ h ∧ h ≤ 127) (hv : s47 w h f = true) : (1 ≤ w ∧ w ≤ 12) ∧ (1 ≤ h ∧ h ≤ 12) := by
  unfold s47 at hv
  rw [w64 hw, w64 hh, s57_eq, s57_eq] at hv
  simp only [Bool.and_eq_true, decide_eq_true_eq] at hv
  exact ⟨hv.1, hv.2.1⟩
/-- Where a valid picture has a stone is a cell; and its colour is a small one. -/
theorem valid_cell {w h : Int} {f : Nat → Int} (hw : -128 ≤ w ∧ w ≤ 127) (hh : -128 ≤ h ∧ h ≤ 127) (hv : s47 w h f = true) {j : Nat} (hj : j < 144) (hf : f j ≠ 0) : ((j : Int) % 12 < w ∧ (j : Int) / 12 < h) ∧ f j < 16 := by
  have := valid_at hv hj
  unfold p47 at this
  rw [s81_eq hw hh] at this
  simp only [Bool.and_eq_true, Bool.or_eq_true, Bool.not_eq_true', decide_eq_true_eq, decide_eq_false_iff_not, bne_iff_ne, ne_eq, Bool.not_eq_false', bne_eq_false_iff_eq] at this
  rcases this.2 with h1 | h1
  · exact ⟨h1.2, by omega⟩
  · exact absurd h1 hf
theorem s83_in {w h : Int} {g : Nat → Int} {x y : Int} (hw : -128 ≤ w ∧ w ≤ 127) (hh : -128 ≤ h ∧ h ≤ 127) : s83 w h g x y = (decide (0 ≤ x) && decide (x < w) && (decide (0 ≤ y) && decide (y < h))) := by
  unfold s83 s96
  rw [w64 hw, w64 hh, IntWalk.i64_in (w - 1) (by omega), IntWalk.i64_in (h - 1) (by omega), s63_eq, s63_eq]
  have e3 : decide (x ≤ w - 1) = decide (x < w) := decide_eq_decide.2 (by omega)
  have e4 : decide (y ≤ h - 1) = decide (y < h) := decide_eq_decide.2 (by omega)
  rw [e3, e4]
  cases (decide (0 ≤ x) && decide (x < w)) <;> rfl
theorem fit_eq {w h : Int} {f : Nat → Int} {w2 h2 : Int} {g : Nat → Int} (hw : -128 ≤ w ∧ w ≤ 127) (hh : -128 ≤ h ∧ h ≤ 127) (hv : s47 w h f = true) (hw2 : -128 ≤ w2 ∧ w2 ≤ 127) (hh2 : -128 ≤ h2 ∧ h2 ≤ 127) (hv2 : s47 w2 h2 g = true) (e s : Int) :
    fitI w h f w2 h2 g e s = fitS f g e s := by
  unfold fitI fitS cellsOf
  rw [foldl_filter']
  refine foldl_ext' _ _ fun i hi n => ?_
  have hi : i < 144 := by have := List.mem_range'_1.1 hi; omega
  have hsz := valid_size hw2 hh2 hv2
  by_cases h0 : f i = 0
  · have : (f i != 0) = false := by simp [h0]
    rw [this]
    simp
  · have hc := valid_cell hw hh hv hi h0
    have h1 : isIn w h i = true := by
      rw [isIn_eq hw hh hi]
      simp [hc.1]
    rw [h1, cond_true]
    congr 1
    congr 1
    rw [s83_in hw2 hh2, s57_eq, s57_eq]
    by_cases hx : 0 ≤ shX e i ∧ shX e i ≤ 11
    · by_cases hy : 0 ≤ shY s i ∧ shY s i ≤ 11
      · by_cases hg : g (Int.toNat (shX e i + 12 * shY s i)) = f i
        · have hp : Int.toNat (shX e i + 12 * shY s i) < 144 := by omega
          have hgc := (valid_cell hw2 hh2 hv2 hp (by rw [hg]; exact h0)).1
          have h3 : ((Int.toNat (shX e i + 12 * shY s i) : Nat) : Int) = shX e i + 12 * shY s i := by omega
          rw [h3] at hgc
          have q1 : shX e i < w2 := by omega
          have q2 : shY s i < h2 := by omega
          simp [hx, hy, q1, q2]
        · have : (g (Int.toNat (shX e i + 12 * shY s i)) == f i) = false := by simp [hg]
          rw [this]
          simp
      · have : (decide (0 ≤ shY s i) && decide (shY s i < h2)) = false := by
          simp only [Bool.and_eq_false_iff, decide_eq_false_iff_not]; omega
        rw [this]
        have : (decide (0 ≤ shY s i) && decide (shY s i ≤ 11)) = false := by
          simp only [Bool.and_eq_false_iff, decide_eq_false_iff_not]; omega
        rw [this]
        simp
    · have : (decide (0 ≤ shX e i) && decide (shX e i < w2)) = false := by
        simp only [Bool.and_eq_false_iff, decide_eq_false_iff_not]; omega
      rw [this]
      have : (decide (0 ≤ shX e i) && decide (shX e i ≤ 11)) = false := by
        simp only [Bool.and_eq_false_iff, decide_eq_false_iff_not]; omega
      rw [this]
      simp
theorem law4 {w h : Int} {f : Nat → Int} {w2 h2 : Int} {g : Nat → Int} (hw : -128 ≤ w ∧ w ≤ 127) (hh : -128 ≤ h ∧ h ≤ 127) (hf : ∀ j, j < 144 → 0 ≤ f j ∧ f j ≤ 255) (hw2 : -128 ≤ w2 ∧ w2 ≤ 127) (hh2 : -128 ≤ h2 ∧ h2 ≤ 127) (hg : ∀ j, j < 144 → 0 ≤ g j ∧ g j ≤ 255) :
    s4 w h f w2 h2 g = some true := by
  have key : s19 w h (s51 f) w2 h2 (s51 g) = some (s18 w h (s51 f) w2 h2 (s51 g)) := by
    unfold s19 s18
    rw [i8_in hw, i8_in hh, i8_in hw2, i8_in hh2, valid_eq hw hh, valid_eq hw2 hh2]
    simp only [Bool.and_self, cond_true]
    cases h1 : s47 w h (s51 f)
    · simp only [Bool.not_false, cond_true]
    · cases h2' : s47 w2 h2 (s51 g)
      · simp only [Bool.not_false, Bool.not_true, cond_true, cond_false]
      · have : fitI w h (s51 f) w2 h2 (s51 g) = fitS (s51 f) (s51 g) := by
          funext e s; exact fit_eq hw hh h1 hw2 hh2 h2' e s
        rw [this]
  unfold s4 s16
  rw [key]
  simp
end Go.RR
