/- The plain laws of FillByKind, FillByPeriods and LoseCells. -/
import Derived.Test.YtkbolifaojmmhaaWe
set_option linter.unusedVariables false
set_option linter.unusedSimpArgs false
namespace Go.RR
open Go

theorem part_in {w h : Int} {f : Nat → Int} {k : Int} {i : Nat} (hw : 1 ≤ w ∧ w ≤ 12) (hh : 1 ≤ h ∧ h ≤ 12) (hi : i < 144) (hx : (i : Int) % 12 < w) (hy : (i : Int) / 12 < h) : 0 ≤ s_sl06Partner w h f k i ∧ s_sl06Partner w h f k i < 144 := by
  unfold s_sl06Partner
  rw [col, lin (by omega), w64 (w := w) (by omega), w64 (w := h) (by omega)]
  have e1 : IntKind.wrap .i64 (w - 1) = w - 1 := IntWalk.i64_in _ (by omega)
  have e2 : IntKind.wrap .i64 (h - 1) = h - 1 := IntWalk.i64_in _ (by omega)
  have e3 : IntKind.wrap .i64 (w - 1 - (i : Int) % 12) = w - 1 - (i : Int) % 12 := IntWalk.i64_in _ (by omega)
  have e4 : IntKind.wrap .i64 (h - 1 - (i : Int) / 12) = h - 1 - (i : Int) / 12 := IntWalk.i64_in _ (by omega)
  have e5 : IntKind.wrap .i64 (12 * (h - 1 - (i : Int) / 12)) = 12 * (h - 1 - (i : Int) / 12) := IntWalk.i64_in _ (by omega)
  have e6 : IntKind.wrap .i64 (12 * ((i : Int) / 12)) = 12 * ((i : Int) / 12) := IntWalk.i64_in _ (by omega)
  have e7 : IntKind.wrap .i64 (w - 1 - (i : Int) % 12 + 12 * (h - 1 - (i : Int) / 12)) = w - 1 - (i : Int) % 12 + 12 * (h - 1 - (i : Int) / 12) := IntWalk.i64_in _ (by omega)
  have e8 : IntKind.wrap .i64 (w - 1 - (i : Int) % 12 + 12 * ((i : Int) / 12)) = w - 1 - (i : Int) % 12 + 12 * ((i : Int) / 12) := IntWalk.i64_in _ (by omega)
  have e9 : IntKind.wrap .i64 ((i : Int) % 12 + 12 * (h - 1 - (i : Int) / 12)) = (i : Int) % 12 + 12 * (h - 1 - (i : Int) / 12) := IntWalk.i64_in _ (by omega)
  have e10 : IntKind.wrap .i64 ((i : Int) % 12 + 12 * ((i : Int) / 12)) = (i : Int) % 12 + 12 * ((i : Int) / 12) := IntWalk.i64_in _ (by omega)
  cases k != 1 <;> cases k != 0 <;> simp only [cond_true, cond_false, e1, e2, e3, e4, e5, e6, e7, e8, e9, e10] <;> omega
theorem s27_same (l : List Int) (hl : l.length ≤ 100000000) : s_weqInt64S l l = some true := by
  unfold s_weqInt64S
  have : (((List.length l : Nat) : Int) != ((List.length l : Nat) : Int)) = false := by simp
  rw [this, cond_false]
  unfold f_weqInt64S_run4
  have h := run_all (step := fun x => f_weqInt64S_n4 x.1 x.2.1 x.2.2) l.length (fun i => ((i : Int), l, l)) (fun i => true) true false (by omega) ?_ ?_
  · exact h.trans (by simp)
  · intro i hi
    show f_weqInt64S_n4 i l l = _
    unfold f_weqInt64S_n4
    rw [lt_true hi, inB_nat hi, toNat_nat, succ64 (by omega)]
    have : (l.getD i 0 != l.getD i 0) = false := by simp
    rw [this]; rfl
  · show f_weqInt64S_n4 (l.length : Nat) l l = _
    unfold f_weqInt64S_n4
    rw [lt_neg, cond_false]
noncomputable def lostOf (w h : Int) (f : Nat → Int) : List Int := ((cellsOf w h).filter fun i => f i == 0).map fun i : Nat => (i : Int)
theorem lost_len (w h : Int) (f : Nat → Int) : (lostOf w h f).length ≤ 144 := by
  unfold lostOf
  rw [List.length_map]
  exact Nat.le_trans (List.length_filter_le _ _) (cellsOf_len w h)
theorem s66_eq {w h : Int} {f : Nat → Int} (hw : I8 w) (hh : I8 h) : s_sl06Lost w h f = some (lostOf w h f) := by
  unfold s_sl06Lost f_sl06Lost_run3
  refine run_countI 144 (fun i (l : List Int) => ((i : Int), w, h, f, l)) (fun l i => cond (isIn w h i) (cond (f i == 0) (l ++ [(i : Int)]) l) l) (fun i l => l.length ≤ i) _ [] (by decide) (Nat.le_refl _) ?_ ?_
  · intro i l hi hl
    constructor
    · show f_sl06Lost_n3 i w h f l = _
      unfold f_sl06Lost_n3
      rw [lt144 hi, s81_in hw hh hi, inB_nat hi, toNat_nat, succ64 (by omega)]
      cases isIn w h i
      · rfl
      · simp only [cond_true]
        rw [fits_small (by simp; omega)]
        cases f i == 0 <;> rfl
    · show (cond (isIn w h i) (cond (f i == 0) (l ++ [(i : Int)]) l) l).length ≤ i + 1
      cases isIn w h i
      · show l.length ≤ i + 1; omega
      · cases f i == 0
        · show l.length ≤ i + 1; omega
        · simp; omega
  · intro _
    unfold f_sl06Lost_n3
    rw [end144, cond_false]
    have e := foldl_filter' (c := isIn w h) (f := fun (l : List Int) (i : Nat) => cond (f i == 0) (l ++ [(i : Int)]) l) (List.range' 0 144) []
    rw [← e, foldl_push (g := fun i : Nat => (i : Int))]
    rfl

theorem mem_lost {w h : Int} {f : Nat → Int} {x : Int} (hx : x ∈ lostOf w h f) : ∃ j : Nat, j ∈ cellsOf w h ∧ j < 144 ∧ x = (j : Int) ∧ f j = 0 := by
  obtain ⟨j, hj, rfl⟩ := List.mem_map.1 hx
  obtain ⟨h1, h2⟩ := List.mem_filter.1 hj
  exact ⟨j, h1, cellsOf_lt h1, rfl, by simpa using h2⟩
theorem lost_fold {σ : Type} {w h : Int} {f : Nat → Int} (g : σ → Nat → σ) (s : σ) : (lostOf w h f).foldl (fun st x => g st x.toNat) s = (cellsOf w h).foldl (fun st i => cond (f i == 0) (g st i) st) s := by
  unfold lostOf
  rw [List.foldl_map]
  simp only [toNat_nat]
  rw [foldl_filter']

/-! ### FillByKind -/
noncomputable def byKind (w h : Int) (f : Nat → Int) (k : Int) (i : Nat) : Int := f (Int.toNat (s_sl06Partner w h f k i))
theorem filled_b {w h : Int} {f : Nat → Int} {k : Int} (hw : 1 ≤ w ∧ w ≤ 12) (hh : 1 ≤ h ∧ h ≤ 12) : s_ifilled_a w h f w h f k = some (w, h, cellsF f (byKind w h f k) (cellsOf w h) f, countF f (byKind w h f k) (cellsOf w h)) := by
  unfold s_ifilled_a
  rw [s67_eq]
  simp only [Option.bind]
  unfold f_ifilled_a_run3
  refine run_list (0 : Int) (nums w h) (fun i (st : (Nat → Int) × Int) => (st.2, (((nums w h).length : Nat) : Int), (i : Int), w, h, f, k, w, h, f, 0, 0, zF, w, h, st.1, nums w h)) (fun st x => fillStep f (byKind w h f k) st x.toNat) _ (f, 0) (Nat.le_trans (nums_len w h) (by decide)) ?_ ?_
  · intro i st hi hm
    have hl := nums_len w h
    show f_ifilled_a_n3 st.2 (((nums w h).length : Nat) : Int) i w h f k w h f 0 0 zF w h st.1 (nums w h) = _
    unfold f_ifilled_a_n3
    rw [lt_true hi, inB_nat hi, toNat_nat, succ64 (by omega)]
    obtain ⟨j, hc, hj, ej⟩ := mem_nums hm
    rw [ej, inB_nat hj, toNat_nat]
    have hin : isIn w h j = true := (List.mem_filter.1 hc).2
    have hxy : (j : Int) % 12 < w ∧ (j : Int) / 12 < h := by
      rw [isIn_eq (by unfold I8; omega) (by unfold I8; omega) hj] at hin
      simpa using hin
    have hp := part_in (f := f) (k := k) hw hh hj hxy.1 hxy.2
    have hwv : s_iFillByKind_1 j w h f k = some (byKind w h f k j) := by
      unfold s_iFillByKind_1
      have e56 : s_iPicture_partner w h f k j = s_sl06Partner w h f k j := rfl
      rw [e56, inB_of (x := s_sl06Partner w h f k j) (n := 144) (by omega)]; rfl
    rw [hwv]
    simp only [cond_true, Option.bind]
    have hu : upd st.1 j (byKind w h f k j) j = byKind w h f k j := by unfold upd; rw [Nat.beq_refl]; rfl
    rw [hu]
    unfold fillStep
    cases f j != 0
    · cases byKind w h f k j != 0 <;> rfl
    · rfl
  · have e : (nums w h).foldl (fun st (x : Int) => fillStep f (byKind w h f k) st x.toNat) (f, 0) = (cellsF f (byKind w h f k) (cellsOf w h) f, countF f (byKind w h f k) (cellsOf w h)) := by
      unfold nums
      rw [List.foldl_map]
      exact fill_fold f _ (cellsOf w h) f
    rw [e]
    show f_ifilled_a_n3 _ (((nums w h).length : Nat) : Int) (((nums w h).length : Nat) : Int) w h f k w h f 0 0 zF w h _ (nums w h) = _
    unfold f_ifilled_a_n3
    rw [lt_neg, cond_false]
theorem sByKind_run {w h : Int} {f : Nat → Int} {k : Int} (hw : 1 ≤ w ∧ w ≤ 12) (hh : 1 ≤ h ∧ h ≤ 12) : f_sFillByKind_run9 (k, 0, 0, w, h, f, 0, 0, zF, w, h, f, lostOf w h f) = some (w, h, cellsF f (byKind w h f k) (cellsOf w h) f, countF f (byKind w h f k) (cellsOf w h), 0) := by
  unfold f_sFillByKind_run9
  refine run_list (0 : Int) (lostOf w h f) (fun i (st : (Nat → Int) × Int) => (k, st.2, (i : Int), w, h, f, 0, 0, zF, w, h, st.1, lostOf w h f)) (fun st x => (upd st.1 x.toNat (byKind w h f k x.toNat), cond (byKind w h f k x.toNat != 0) (IntKind.wrap .i64 (st.2 + 1)) st.2)) _ (f, 0) (Nat.le_trans (lost_len w h f) (by decide)) ?_ ?_
  · intro i st hi hm
    have hl := lost_len w h f
    show f_sFillByKind_n9 k st.2 i w h f 0 0 zF w h st.1 (lostOf w h f) = _
    unfold f_sFillByKind_n9
    rw [lt_true hi, inB_nat hi, toNat_nat, succ64 (by omega)]
    obtain ⟨j, hc, hj, ej, _⟩ := mem_lost hm
    rw [ej, inB_nat hj, toNat_nat]
    have hin : isIn w h j = true := (List.mem_filter.1 hc).2
    have hxy : (j : Int) % 12 < w ∧ (j : Int) / 12 < h := by
      rw [isIn_eq (by unfold I8; omega) (by unfold I8; omega) hj] at hin
      simpa using hin
    have hp := part_in (f := f) (k := k) hw hh hj hxy.1 hxy.2
    rw [inB_of (x := s_sl06Partner w h f k j) (n := 144) (by omega)]
    simp only [cond_true]
    show cond (byKind w h f k j != 0) _ _ = _
    cases byKind w h f k j != 0 <;> rfl
  · have e := lost_fold (w := w) (h := h) (f := f) (fun (st : (Nat → Int) × Int) i => (upd st.1 i (byKind w h f k i), cond (byKind w h f k i != 0) (IntKind.wrap .i64 (st.2 + 1)) st.2)) (f, 0)
    rw [e]
    have e2 : (fun (st : (Nat → Int) × Int) i => cond (f i == 0) (upd st.1 i (byKind w h f k i), cond (byKind w h f k i != 0) (IntKind.wrap .i64 (st.2 + 1)) st.2) st) = fillStep f (byKind w h f k) := by
      funext st i
      unfold fillStep
      simp only [bne]
      cases f i == 0 <;> rfl
    rw [e2, fill_fold]
    unfold f_sFillByKind_n9
    rw [lt_neg, cond_false]
end Go.RR
