/- The plain laws of RepeatsBy and PeriodsOf. -/
import Derived.Test.YtkohnhkehedflaaWd
import Derived.Test.YtkohnhkehedflaaVr
set_option linter.unusedVariables false
set_option linter.unusedSimpArgs false
namespace Go.RR
open Go

theorem at_in {w h : Int} {f : Nat → Int} {x y : Int} (hx : 0 ≤ x ∧ x < 12) (hy : 0 ≤ y ∧ y < 12) : s_iPicture_at w h f x y = some (f (Int.toNat (x + 12 * y))) := by
  unfold s_iPicture_at
  rw [(place_in hx hy).1, (place_in hx hy).2]; rfl
theorem all_filter' {α : Type} {c p : α → Bool} : ∀ l : List α, (l.filter c).all p = l.all fun x => cond (c x) (p x) true
  | [] => rfl
  | x :: l => by
    cases hc : c x
    · rw [List.filter_cons_of_neg (by simp [hc]), List.all_cons, hc, all_filter' l]; rfl
    · rw [List.filter_cons_of_pos hc, List.all_cons, List.all_cons, hc, all_filter' l]; rfl
noncomputable def okAt (w h : Int) (f : Nat → Int) (e s : Int) (i : Nat) : Bool :=
  cond (decide ((i : Int) % 12 + e < w) && decide ((i : Int) / 12 + s < h)) (cond (f i != 0) (cond (f (Int.toNat ((i : Int) % 12 + e + 12 * ((i : Int) / 12 + s))) != 0) (!(f i != f (Int.toNat ((i : Int) % 12 + e + 12 * ((i : Int) / 12 + s))))) true) true) true
noncomputable def reps (w h : Int) (f : Nat → Int) (e s : Int) : Bool := (List.range' 0 144).all fun i => cond (isIn w h i) (okAt w h f e s i) true
theorem s68_eq {w h : Int} {f : Nat → Int} {e s : Int} (hw : 1 ≤ w ∧ w ≤ 12) (hh : 1 ≤ h ∧ h ≤ 12) (he : 0 ≤ e ∧ e ≤ 1000) (hs : 0 ≤ s ∧ s ≤ 1000) : s_sl06Repeats w h f e s = some (reps w h f e s) := by
  unfold s_sl06Repeats f_sl06Repeats_run2
  have key := run_all (step := fun x => f_sl06Repeats_n2 x.1 x.2.1 x.2.2.1 x.2.2.2.1 x.2.2.2.2.1 x.2.2.2.2.2) 144 (fun i => (e, s, (i : Int), w, h, f)) (fun i => cond (isIn w h i) (okAt w h f e s i) true) true false (by decide) ?_ ?_
  · refine key.trans ?_
    unfold reps
    cases (List.range' 0 144).all fun i => cond (isIn w h i) (okAt w h f e s i) true <;> rfl
  · intro i hi
    show f_sl06Repeats_n2 e s i w h f = _
    unfold f_sl06Repeats_n2
    rw [lt144 hi, s81_in (by unfold I8; omega) (by unfold I8; omega) hi, inB_nat hi, succ64 (by omega), toNat_nat, col, lin (by omega), IntWalk.i64_in ((i : Int) % 12 + e) (by omega), IntWalk.i64_in ((i : Int) / 12 + s) (by omega), IntWalk.i64_in w (by omega), IntWalk.i64_in h (by omega)]
    cases isIn w h i
    · rfl
    · simp only [cond_true, Bool.not_true, cond_false]
      unfold okAt
      by_cases hx : (i : Int) % 12 + e < w
      · rw [decide_eq_false (show ¬ ((i : Int) % 12 + e ≥ w) by omega), decide_eq_true hx]
        by_cases hy : (i : Int) / 12 + s < h
        · rw [decide_eq_false (show ¬ ((i : Int) / 12 + s ≥ h) by omega), decide_eq_true hy]
          have hp := place_in (x := (i : Int) % 12 + e) (y := (i : Int) / 12 + s) (by omega) (by omega)
          rw [hp.1, hp.2]
          simp only [cond_true, cond_false, Bool.and_self]
          cases f i != 0
          · rfl
          · cases f (Int.toNat ((i : Int) % 12 + e + 12 * ((i : Int) / 12 + s))) != 0
            · rfl
            · cases f i != f (Int.toNat ((i : Int) % 12 + e + 12 * ((i : Int) / 12 + s))) <;> rfl
        · rw [decide_eq_true (show (i : Int) / 12 + s ≥ h by omega), decide_eq_false hy]
          rfl
      · rw [decide_eq_true (show (i : Int) % 12 + e ≥ w by omega), decide_eq_false hx]
        rfl
  · rfl
theorem s70_eq {w h : Int} {f : Nat → Int} {e s : Int} (hw : 1 ≤ w ∧ w ≤ 12) (hh : 1 ≤ h ∧ h ≤ 12) (he : 0 ≤ e ∧ e ≤ 1000) (hs : 0 ≤ s ∧ s ≤ 1000) : s_iPicture_repeats w h f e s = some (reps w h f e s) := by
  unfold s_iPicture_repeats
  rw [s67_eq]
  simp only [Option.bind]
  unfold f_iPicture_repeats_run2
  have key := run_allL (step := fun x => f_iPicture_repeats_n2 x.1 x.2.1 x.2.2.1 x.2.2.2.1 x.2.2.2.2.1 x.2.2.2.2.2.1 x.2.2.2.2.2.2.1 x.2.2.2.2.2.2.2) (0 : Int) (nums w h) (fun i => (e, s, (((nums w h).length : Nat) : Int), (i : Int), w, h, f, nums w h)) (fun x => okAt w h f e s x.toNat) true false (Nat.le_trans (nums_len w h) (by decide)) ?_ ?_
  · refine key.trans ?_
    have e2 : (nums w h).all (fun x => okAt w h f e s x.toNat) = reps w h f e s := by
      unfold nums cellsOf reps
      rw [List.all_map, all_filter']
      rfl
    rw [e2]
    cases reps w h f e s <;> rfl
  · intro i hi hm
    have hl := nums_len w h
    show f_iPicture_repeats_n2 e s (((nums w h).length : Nat) : Int) i w h f (nums w h) = _
    unfold f_iPicture_repeats_n2
    rw [lt_true hi, inB_nat hi, toNat_nat, succ64 (by omega)]
    obtain ⟨j, hc, hj, ej⟩ := mem_nums hm
    rw [ej, inB_nat hj, toNat_nat, col, lin (by omega), IntWalk.i64_in ((j : Int) % 12 + e) (by omega), IntWalk.i64_in ((j : Int) / 12 + s) (by omega), s83_in (by unfold I8; omega) (by unfold I8; omega)]
    rw [decide_eq_true (show (0 : Int) ≤ (j : Int) % 12 + e by omega), decide_eq_true (show (0 : Int) ≤ (j : Int) / 12 + s by omega)]
    simp only [cond_true, Bool.true_and]
    unfold okAt
    by_cases hx : (j : Int) % 12 + e < w
    · rw [decide_eq_true hx]
      by_cases hy : (j : Int) / 12 + s < h
      · rw [decide_eq_true hy, at_in (by omega) (by omega)]
        simp only [cond_true, cond_false, Bool.and_self, Bool.not_true, Option.bind]
        cases f j != 0
        · rfl
        · cases f (Int.toNat ((j : Int) % 12 + e + 12 * ((j : Int) / 12 + s))) != 0
          · rfl
          · cases f j != f (Int.toNat ((j : Int) % 12 + e + 12 * ((j : Int) / 12 + s))) <;> rfl
      · rw [decide_eq_false hy]
        rfl
    · rw [decide_eq_false hx]
      rfl
  · show f_iPicture_repeats_n2 e s (((nums w h).length : Nat) : Int) (((nums w h).length : Nat) : Int) w h f (nums w h) = _
    unfold f_iPicture_repeats_n2
    rw [lt_neg, cond_false]
theorem reps_east {w h : Int} {f : Nat → Int} : reps w h f w 0 = true := by
  unfold reps
  rw [List.all_eq_true]
  intro i hi
  have hi : i < 144 := by have := List.mem_range'_1.1 hi; omega
  unfold okAt
  rw [decide_eq_false (show ¬ ((i : Int) % 12 + w < w) by omega)]
  cases isIn w h i <;> rfl
theorem reps_south {w h : Int} {f : Nat → Int} : reps w h f 0 h = true := by
  unfold reps
  rw [List.all_eq_true]
  intro i hi
  have hi : i < 144 := by have := List.mem_range'_1.1 hi; omega
  unfold okAt
  rw [decide_eq_false (show ¬ ((i : Int) / 12 + h < h) by omega), Bool.and_false]
  cases isIn w h i <;> rfl
end Go.RR

