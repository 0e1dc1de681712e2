/- The best shift of two pictures. -/
import Derived.Test.YtkohnhkehedflaaWd
import Derived.Test.YtkohnhkehedflaaVs
set_option linter.unusedVariables false
set_option linter.unusedSimpArgs false
namespace Go.RR
open Go

noncomputable def shX (e : Int) (i : Nat) : Int := IntKind.wrap .i64 (Int.tmod i 12 + e)
noncomputable def shY (s : Int) (i : Nat) : Int := IntKind.wrap .i64 (IntKind.wrap .i64 (Int.tdiv i 12) + s)
noncomputable def fitI (w h : Int) (f : Nat → Int) (w2 h2 : Int) (g : Nat → Int) (e s : Int) : Int :=
  (cellsOf w h).foldl (fun n i => cond (f i != 0 && (s_iPicture_has w2 h2 g (shX e i) (shY s i) && (g (Int.toNat (shX e i + 12 * shY s i)) == f i))) (IntKind.wrap .i64 (n + 1)) n) 0
noncomputable def fitS (f g : Nat → Int) (e s : Int) : Int :=
  (List.range' 0 144).foldl (fun n (i : Nat) => cond (f i != 0 && (s_sl00In (shX e i) 0 11 && (s_sl00In (shY s i) 0 11 && (g (Int.toNat (shX e i + 12 * shY s i)) == f i)))) (IntKind.wrap .i64 (n + 1)) n) 0
theorem fit_eq {w h : Int} {f : Nat → Int} {w2 h2 : Int} {g : Nat → Int} (hw : I8 w) (hh : I8 h) (hv : s_sl01Ok w h f = true) (hw2 : I8 w2) (hh2 : I8 h2) (hv2 : s_sl01Ok w2 h2 g = true) (e s : Int) :
    fitI w h f w2 h2 g e s = fitS f g e s := by
  unfold fitI fitS cellsOf
  rw [foldl_filter']
  refine foldl_ext' _ _ fun i hi n => ?_
  have hi : i < 144 := by have := List.mem_range'_1.1 hi; omega
  have hsz := valid_size hw2 hh2 hv2
  by_cases h0 : f i = 0
  · have : (f i != 0) = false := by simp [h0]
    rw [this]
    simp
  · have hc := valid_cell hw hh hv hi h0
    have h1 : isIn w h i = true := by
      rw [isIn_eq hw hh hi]
      simp [hc]
    rw [h1, cond_true]
    congr 1
    congr 1
    rw [s83_in hw2 hh2, s57_eq, s57_eq]
    by_cases hx : 0 ≤ shX e i ∧ shX e i ≤ 11
    · by_cases hy : 0 ≤ shY s i ∧ shY s i ≤ 11
      · by_cases hg : g (Int.toNat (shX e i + 12 * shY s i)) = f i
        · have hp : Int.toNat (shX e i + 12 * shY s i) < 144 := by omega
          have hgc := valid_cell hw2 hh2 hv2 hp (by rw [hg]; exact h0)
          have h3 : ((Int.toNat (shX e i + 12 * shY s i) : Nat) : Int) = shX e i + 12 * shY s i := by omega
          rw [h3] at hgc
          have q1 : shX e i < w2 := by omega
          have q2 : shY s i < h2 := by omega
          simp [hx, hy, q1, q2]
        · have : (g (Int.toNat (shX e i + 12 * shY s i)) == f i) = false := by simp [hg]
          rw [this]
          simp
      · have : (decide (0 ≤ shY s i) && decide (shY s i < h2)) = false := by
          simp only [Bool.and_eq_false_iff, decide_eq_false_iff_not]; omega
        rw [this]
        have : (decide (0 ≤ shY s i) && decide (shY s i ≤ 11)) = false := by
          simp only [Bool.and_eq_false_iff, decide_eq_false_iff_not]; omega
        rw [this]
        simp
    · have : (decide (0 ≤ shX e i) && decide (shX e i < w2)) = false := by
        simp only [Bool.and_eq_false_iff, decide_eq_false_iff_not]; omega
      rw [this]
      have : (decide (0 ≤ shX e i) && decide (shX e i ≤ 11)) = false := by
        simp only [Bool.and_eq_false_iff, decide_eq_false_iff_not]; omega
      rw [this]
      simp
theorem fitting_eq {w h : Int} {f : Nat → Int} {w2 h2 : Int} {g : Nat → Int} (hs2 : (1 ≤ w2 ∧ w2 ≤ 12) ∧ (1 ≤ h2 ∧ h2 ≤ 12)) (e s : Int) : s_ifitting w h f w2 h2 g e s = some (fitI w h f w2 h2 g e s) := by
  unfold s_ifitting
  rw [s67_eq]
  show f_ifitting_run3 (e, s, 0, (((nums w h).length : Nat) : Int), 0, w, h, f, w2, h2, g, nums w h) = _
  unfold f_ifitting_run3
  refine run_list (0 : Int) (nums w h) (fun i (n : Int) => (e, s, n, (((nums w h).length : Nat) : Int), (i : Int), w, h, f, w2, h2, g, nums w h)) (fun n x => cond (f x.toNat != 0 && (s_iPicture_has w2 h2 g (shX e x.toNat) (shY s x.toNat) && (g (Int.toNat (shX e x.toNat + 12 * shY s x.toNat)) == f x.toNat))) (IntKind.wrap .i64 (n + 1)) n) _ 0 (Nat.le_trans (nums_len w h) (by decide)) ?_ ?_
  · intro i n hi hm
    have hl2 := nums_len w h
    show f_ifitting_n3 e s n (((nums w h).length : Nat) : Int) i w h f w2 h2 g (nums w h) = _
    unfold f_ifitting_n3
    rw [lt_true hi, inB_nat hi, toNat_nat, succ64 (by omega)]
    obtain ⟨j, _, hj, ej⟩ := mem_nums hm
    rw [ej, inB_nat hj, toNat_nat]
    simp only [cond_true]
    cases h0 : f j != 0
    · simp only [Bool.false_and, cond_false]
    · simp only [Bool.true_and, cond_true]
      have hX : IntKind.wrap .i64 (Int.tmod (j : Int) 12 + e) = shX e j := rfl
      have hY : IntKind.wrap .i64 (IntKind.wrap .i64 (Int.tdiv (j : Int) 12) + s) = shY s j := rfl
      rw [hX, hY]
      cases h1 : s_iPicture_has w2 h2 g (shX e j) (shY s j)
      · simp only [Bool.false_and, cond_false]
      · simp only [Bool.true_and, cond_true]
        rw [s83_in (by omega) (by omega)] at h1
        have h1 : (0 ≤ shX e j ∧ shX e j < w2) ∧ (0 ≤ shY s j ∧ shY s j < h2) := by simpa using h1
        obtain ⟨e1, e2⟩ := place_in (x := shX e j) (y := shY s j) (by omega) (by omega)
        unfold s_iPicture_at
        rw [e1, e2]
        show cond (g _ == f j) _ _ = _
        cases g (shX e j + 12 * shY s j).toNat == f j <;> rfl
  · show f_ifitting_n3 e s _ (((nums w h).length : Nat) : Int) (((nums w h).length : Nat) : Int) w h f w2 h2 g (nums w h) = _
    unfold f_ifitting_n3
    rw [lt_neg, cond_false]
    unfold fitI nums
    rw [List.foldl_map]
    rfl

noncomputable def shiftStep (F : Int → Int → Int) (a : Nat) (st : Int × Int × Int) (b : Nat) : Int × Int × Int := cond (decide (F ((a : Int) - 3) ((b : Int) - 3) > st.2.2)) ((a : Int) - 3, (b : Int) - 3, F ((a : Int) - 3) ((b : Int) - 3)) st
noncomputable def shiftRow (F : Int → Int → Int) (st : Int × Int × Int) (a : Nat) : Int × Int × Int := (List.range' 0 7).foldl (shiftStep F a) st
noncomputable def bestOf (F : Int → Int → Int) : Int × Int × Int := (List.range' 0 7).foldl (shiftRow F) (0, 0, -1)
theorem sh_le {i : Nat} (h : i < 7) : decide ((i : Int) - 3 ≤ 3) = true := decide_eq_true (by omega)
theorem sh_succ {i : Nat} (h : i < 7) : IntKind.wrap .i64 ((i : Int) - 3 + 1) = ((i + 1 : Nat) : Int) - 3 := by rw [IntWalk.i64_in _ (by omega)]; omega
theorem iBest_eq {w h : Int} {f : Nat → Int} {w2 h2 : Int} {g : Nat → Int} (hs2 : (1 ≤ w2 ∧ w2 ≤ 12) ∧ (1 ≤ h2 ∧ h2 ≤ 12)) : f_iBestShiftOf_run5 (0, 0, -1, -3, w, h, f, w2, h2, g) = some ((bestOf (fitI w h f w2 h2 g)).1, (bestOf (fitI w h f w2 h2 g)).2.1, (bestOf (fitI w h f w2 h2 g)).2.2, 0) := by
  unfold f_iBestShiftOf_run5
  refine run_count 7 (fun i (st : Int × Int × Int) => (st.1, st.2.1, st.2.2, (i : Int) - 3, w, h, f, w2, h2, g)) (shiftRow (fitI w h f w2 h2 g)) _ (0, 0, -1) (by decide) ?_ ?_
  · intro i st hi
    show f_iBestShiftOf_n5 st.1 st.2.1 st.2.2 ((i : Int) - 3) w h f w2 h2 g = _
    unfold f_iBestShiftOf_n5
    rw [sh_le hi, cond_true]
    unfold f_iBestShiftOf_run8
    refine run_count 7 (fun k (st : Int × Int × Int) => (st.1, st.2.1, st.2.2, (i : Int) - 3, (k : Int) - 3, w, h, f, w2, h2, g)) (shiftStep (fitI w h f w2 h2 g) i) _ st (by decide) ?_ ?_
    · intro k st hk
      show f_iBestShiftOf_n8 st.1 st.2.1 st.2.2 ((i : Int) - 3) ((k : Int) - 3) w h f w2 h2 g = _
      unfold f_iBestShiftOf_n8
      rw [sh_le hk, cond_true, fitting_eq hs2, sh_succ hk]
      show cond (decide (fitI w h f w2 h2 g ((i : Int) - 3) ((k : Int) - 3) > st.2.2)) _ _ = _
      unfold shiftStep
      cases decide (fitI w h f w2 h2 g ((i : Int) - 3) ((k : Int) - 3) > st.2.2) <;> rfl
    · show f_iBestShiftOf_n8 _ _ _ ((i : Int) - 3) (((7 : Nat) : Int) - 3) w h f w2 h2 g = _
      unfold f_iBestShiftOf_n8
      rw [show decide (((7 : Nat) : Int) - 3 ≤ 3) = false from rfl, cond_false, sh_succ hi]
      rfl
  · show f_iBestShiftOf_n5 _ _ _ (((7 : Nat) : Int) - 3) w h f w2 h2 g = _
    unfold f_iBestShiftOf_n5
    rw [show decide (((7 : Nat) : Int) - 3 ≤ 3) = false from rfl, cond_false]
    rfl
theorem sFit_run {w h : Int} {f : Nat → Int} {w2 h2 : Int} {g : Nat → Int} {x0 x1 x2 : Int} {a b : Nat} (hb : b < 7) : f_sBestShiftOf_run14 (x0, x1, x2, (a : Int) - 3, (b : Int) - 3, 0, 0, w, h, f, w2, h2, g) =
    some (.inl ((shiftStep (fitS f g) a (x0, x1, x2) b).1, (shiftStep (fitS f g) a (x0, x1, x2) b).2.1, (shiftStep (fitS f g) a (x0, x1, x2) b).2.2, (a : Int) - 3, ((b + 1 : Nat) : Int) - 3, w, h, f, w2, h2, g)) := by
  unfold f_sBestShiftOf_run14
  refine run_count 144 (fun i (n : Int) => (x0, x1, x2, (a : Int) - 3, (b : Int) - 3, n, (i : Int), w, h, f, w2, h2, g)) (fun n (i : Nat) => cond (f i != 0 && (s_sl00In (shX ((a : Int) - 3) i) 0 11 && (s_sl00In (shY ((b : Int) - 3) i) 0 11 && (g (Int.toNat (shX ((a : Int) - 3) i + 12 * shY ((b : Int) - 3) i)) == f i)))) (IntKind.wrap .i64 (n + 1)) n) _ 0 (by decide) ?_ ?_
  · intro i n hi
    show f_sBestShiftOf_n14 x0 x1 x2 ((a : Int) - 3) ((b : Int) - 3) n i w h f w2 h2 g = _
    unfold f_sBestShiftOf_n14
    rw [lt144 hi, inB_nat hi, toNat_nat, succ64 (by omega)]
    simp only [cond_true]
    cases h0 : f i != 0
    · simp only [Bool.false_and, cond_false]
    · simp only [Bool.true_and, cond_true]
      have hX : IntKind.wrap .i64 (Int.tmod (i : Int) 12 + ((a : Int) - 3)) = shX ((a : Int) - 3) i := rfl
      have hY : IntKind.wrap .i64 (IntKind.wrap .i64 (Int.tdiv (i : Int) 12) + ((b : Int) - 3)) = shY ((b : Int) - 3) i := rfl
      rw [hX, hY]
      cases h1 : s_sl00In (shX ((a : Int) - 3) i) 0 11
      · simp only [Bool.false_and, cond_false]
      · simp only [Bool.true_and, cond_true]
        cases h2 : s_sl00In (shY ((b : Int) - 3) i) 0 11
        · simp only [Bool.false_and, cond_false]
        · simp only [Bool.true_and, cond_true]
          rw [s57_eq] at h1 h2
          have h1 : 0 ≤ shX ((a : Int) - 3) i ∧ shX ((a : Int) - 3) i ≤ 11 := by simpa using h1
          have h2 : 0 ≤ shY ((b : Int) - 3) i ∧ shY ((b : Int) - 3) i ≤ 11 := by simpa using h2
          obtain ⟨e1, e2⟩ := place_in (x := shX ((a : Int) - 3) i) (y := shY ((b : Int) - 3) i) (by omega) (by omega)
          rw [e1, e2]
          cases g (shX ((a : Int) - 3) i + 12 * shY ((b : Int) - 3) i).toNat == f i <;> rfl
  · show f_sBestShiftOf_n14 x0 x1 x2 ((a : Int) - 3) ((b : Int) - 3) (fitS f g ((a : Int) - 3) ((b : Int) - 3)) ((144 : Nat) : Int) w h f w2 h2 g = _
    unfold f_sBestShiftOf_n14
    rw [end144, cond_false, sh_succ hb]
    unfold shiftStep
    show cond (decide (fitS f g ((a : Int) - 3) ((b : Int) - 3) > x2)) _ _ = _
    cases decide (fitS f g ((a : Int) - 3) ((b : Int) - 3) > x2) <;> rfl
theorem sBest_eq {w h : Int} {f : Nat → Int} {w2 h2 : Int} {g : Nat → Int} : f_sBestShiftOf_run7 (0, 0, -1, -3, w, h, f, w2, h2, g) = some ((bestOf (fitS f g)).1, (bestOf (fitS f g)).2.1, (bestOf (fitS f g)).2.2, 0) := by
  unfold f_sBestShiftOf_run7
  refine run_count 7 (fun i (st : Int × Int × Int) => (st.1, st.2.1, st.2.2, (i : Int) - 3, w, h, f, w2, h2, g)) (shiftRow (fitS f g)) _ (0, 0, -1) (by decide) ?_ ?_
  · intro i st hi
    show f_sBestShiftOf_n7 st.1 st.2.1 st.2.2 ((i : Int) - 3) w h f w2 h2 g = _
    unfold f_sBestShiftOf_n7
    rw [sh_le hi, cond_true]
    unfold f_sBestShiftOf_run10
    refine run_count 7 (fun k (st : Int × Int × Int) => (st.1, st.2.1, st.2.2, (i : Int) - 3, (k : Int) - 3, w, h, f, w2, h2, g)) (shiftStep (fitS f g) i) _ st (by decide) ?_ ?_
    · intro k st hk
      show f_sBestShiftOf_n10 st.1 st.2.1 st.2.2 ((i : Int) - 3) ((k : Int) - 3) w h f w2 h2 g = _
      unfold f_sBestShiftOf_n10
      rw [sh_le hk, cond_true, sFit_run hk]
    · show f_sBestShiftOf_n10 _ _ _ ((i : Int) - 3) (((7 : Nat) : Int) - 3) w h f w2 h2 g = _
      unfold f_sBestShiftOf_n10
      rw [show decide (((7 : Nat) : Int) - 3 ≤ 3) = false from rfl, cond_false, sh_succ hi]
      rfl
  · show f_sBestShiftOf_n7 _ _ _ (((7 : Nat) : Int) - 3) w h f w2 h2 g = _
    unfold f_sBestShiftOf_n7
    rw [show decide (((7 : Nat) : Int) - 3 ≤ 3) = false from rfl, cond_false]
    rfl
theorem shift_eq {w h : Int} {f : Nat → Int} {w2 h2 : Int} {g : Nat → Int} (hw : I8 w) (hh : I8 h) (hv : s_sl01Ok w h f = true) (hw2 : I8 w2) (hh2 : I8 h2) (hv2 : s_sl01Ok w2 h2 g = true) :
    s_iBestShiftOf w h f w2 h2 g = some ((bestOf (fitS f g)).1, (bestOf (fitS f g)).2.1, (bestOf (fitS f g)).2.2, 0) ∧ s_sBestShiftOf w h f w2 h2 g = some ((bestOf (fitS f g)).1, (bestOf (fitS f g)).2.1, (bestOf (fitS f g)).2.2, 0) := by
  have e : fitI w h f w2 h2 g = fitS f g := by funext a b; exact fit_eq hw hh hv hw2 hh2 hv2 a b
  unfold s_iBestShiftOf s_sBestShiftOf
  rw [valid_eq hw hh, valid_eq hw2 hh2, hv, hv2, sBest_eq]
  exact ⟨by rw [← e]; exact iBest_eq (valid_size hw2 hh2 hv2), rfl⟩
theorem step_up {F : Int → Int → Int} {a : Nat} {st : Int × Int × Int} {b : Nat} : st.2.2 ≤ (shiftStep F a st b).2.2 ∧ F ((a : Int) - 3) ((b : Int) - 3) ≤ (shiftStep F a st b).2.2 := by
  unfold shiftStep
  by_cases h : F ((a : Int) - 3) ((b : Int) - 3) > st.2.2
  · rw [decide_eq_true h]
    exact ⟨by show st.2.2 ≤ F _ _; omega, Int.le_refl _⟩
  · rw [decide_eq_false h]
    exact ⟨Int.le_refl _, by show F _ _ ≤ st.2.2; omega⟩
theorem fold_up {α σ : Type} {m : σ → Int} {F : σ → α → σ} (hF : ∀ s x, m s ≤ m (F s x)) : ∀ (l : List α) (s : σ), m s ≤ m (l.foldl F s)
  | [], s => Int.le_refl _
  | x :: l, s => Int.le_trans (hF s x) (fold_up hF l _)
theorem fold_mem {α σ : Type} {m : σ → Int} {F : σ → α → σ} (hF : ∀ s x, m s ≤ m (F s x)) {c : Int} {y : α} (hy : ∀ s, c ≤ m (F s y)) : ∀ (l : List α) (s : σ), y ∈ l → c ≤ m (l.foldl F s)
  | x :: l, s, h => by
    rcases List.mem_cons.1 h with rfl | h
    · exact Int.le_trans (hy s) (fold_up hF l _)
    · exact fold_mem hF hy l _ h
theorem best_up {F : Int → Int → Int} : F 0 0 ≤ (bestOf F).2.2 := by
  unfold bestOf
  have h1 : ∀ (s : Int × Int × Int) (x : Nat), s.2.2 ≤ (shiftRow F s x).2.2 := fun s x => fold_up (m := fun st : Int × Int × Int => st.2.2) (fun s b => step_up.1) _ s
  refine fold_mem (m := fun st : Int × Int × Int => st.2.2) h1 (y := 3) (fun s => ?_) _ _ (by decide)
  exact fold_mem (m := fun st : Int × Int × Int => st.2.2) (F := shiftStep F 3) (fun s b => step_up.1) (y := 3) (fun s => step_up.2) _ s (by decide)
end Go.RR
