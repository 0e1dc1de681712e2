/- Plain facts of pictures: what a valid one is. -/
import Derived.Test.YtkohnhkehedflaaVa
set_option linter.unusedVariables false
namespace Go.RR
open Go

theorem w64 {w : Int} (h : -128 ≤ w ∧ w ≤ 127) : IntKind.wrap .i64 w = w := IntWalk.i64_in _ (by omega)
theorem quo12 {j : Int} (h : 0 ≤ j ∧ j ≤ 9223372036854775807) : IntKind.wrap .i64 (Int.tdiv j 12) = j / 12 := IntWalk.i64_quo _ _ (by omega)
theorem rem12 {j : Int} (h : 0 ≤ j) : Int.tmod j 12 = j % 12 := Int.tmod_eq_emod_of_nonneg h
theorem s63_eq (a b c : Int) : s_iwithin a b c = (decide (b ≤ a) && decide (a ≤ c)) := by
  unfold s_iwithin; cases decide (b ≤ a) <;> rfl
theorem s57_eq (a b c : Int) : s_sl00In a b c = (decide (b ≤ a) && decide (a ≤ c)) := by
  unfold s_sl00In; show cond (decide (b ≤ a)) _ _ = _; cases decide (b ≤ a) <;> rfl
theorem s83_eq {w h : Int} {f : Nat → Int} {j : Int} (hw : -128 ≤ w ∧ w ≤ 127) (hh : -128 ≤ h ∧ h ≤ 127) (hj : 0 ≤ j ∧ j ≤ 9223372036854775807) :
    s_iPicture_has w h f (Int.tmod j 12) (IntKind.wrap .i64 (Int.tdiv j 12)) = (decide (j % 12 < w) && decide (j / 12 < h)) := by
  unfold s_iPicture_has s_iisCell
  rw [w64 hw, w64 hh, quo12 hj, rem12 hj.1, IntWalk.i64_in (w - 1) (by omega), IntWalk.i64_in (h - 1) (by omega), s63_eq, s63_eq]
  have e1 : decide (0 ≤ j % 12) = true := decide_eq_true (by omega)
  have e2 : decide (0 ≤ j / 12) = true := decide_eq_true (by omega)
  have e3 : decide (j % 12 ≤ w - 1) = decide (j % 12 < w) := decide_eq_decide.2 (by omega)
  have e4 : decide (j / 12 ≤ h - 1) = decide (j / 12 < h) := decide_eq_decide.2 (by omega)
  rw [e1, e2, e3, e4]
  cases decide (j % 12 < w) <;> rfl
theorem s81_eq {w h : Int} {f : Nat → Int} {j : Int} (hw : -128 ≤ w ∧ w ≤ 127) (hh : -128 ≤ h ∧ h ≤ 127) :
    s_sl01Is w h f j = (decide (0 ≤ j) && decide (j ≤ 143) && (decide (j % 12 < w) && decide (j / 12 < h))) := by
  unfold s_sl01Is
  rw [s57_eq]
  by_cases h0 : 0 ≤ j
  · by_cases h1 : j ≤ 143
    · rw [w64 hw, w64 hh, quo12 (by omega), rem12 h0, decide_eq_true h0, decide_eq_true h1]
      cases decide (j % 12 < w) <;> cases decide (j / 12 < h) <;> rfl
    · rw [decide_eq_false h1, Bool.and_false, Bool.false_and]; rfl
  · rw [decide_eq_false h0, Bool.false_and, Bool.false_and]; rfl
theorem valid_eq {w h : Int} {f : Nat → Int} (hw : -128 ≤ w ∧ w ≤ 127) (hh : -128 ≤ h ∧ h ≤ 127) : s_iValidPicture w h f = s_sl01Ok w h f := by
  unfold s_iValidPicture s_sl01Ok
  have e : allN (p53 w h f) 0 144 = allN (p47 w h f) 0 144 := by
    refine allN_congr 144 0 fun j _ hj => ?_
    unfold p53 p47
    rw [s83_eq hw hh (by omega), s81_eq hw hh, decide_eq_true (show (0 : Int) ≤ j by omega), decide_eq_true (show (j : Int) ≤ 143 by omega), Bool.true_and, Bool.true_and, Bool.and_comm]
  rw [e]
  unfold s_iisSize
  rw [s63_eq, s63_eq, s57_eq, s57_eq]
  cases (decide ((1 : Int) ≤ IntKind.wrap .i64 w) && decide (IntKind.wrap .i64 w ≤ 12)) <;> rfl
theorem valid_high {w h : Int} {f : Nat → Int} (hh : -128 ≤ h ∧ h ≤ 127) (hv : s_sl01Ok w h f = true) : h ≤ 12 := by
  unfold s_sl01Ok at hv
  rw [w64 hh, s57_eq, s57_eq] at hv
  simp only [Bool.and_eq_true, decide_eq_true_eq] at hv
  exact hv.2.1.2
end Go.RR
