/- The plain laws of ClashesUnder and BestKind. -/
import Derived.Test.YtmbjjahfjbhbcaaXc
set_option linter.unusedVariables false
set_option linter.unusedSimpArgs false
namespace Go.RR
open Go

theorem part_in {w h : Int} {f : Nat → Int} {k : Int} {i : Nat} (hw : 1 ≤ w ∧ w ≤ 12) (hh : 1 ≤ h ∧ h ≤ 12) (hi : i < 144) (hx : (i : Int) % 12 < w) (hy : (i : Int) / 12 < h) : 0 ≤ s50 w h f k i ∧ s50 w h f k i < 144 := by
  unfold s50
  rw [col, lin (by omega), w64 (w := w) (by omega), w64 (w := h) (by omega)]
  have e1 : IntKind.wrap .i64 (w - 1) = w - 1 := IntWalk.i64_in _ (by omega)
  have e2 : IntKind.wrap .i64 (h - 1) = h - 1 := IntWalk.i64_in _ (by omega)
  have e3 : IntKind.wrap .i64 (w - 1 - (i : Int) % 12) = w - 1 - (i : Int) % 12 := IntWalk.i64_in _ (by omega)
  have e4 : IntKind.wrap .i64 (h - 1 - (i : Int) / 12) = h - 1 - (i : Int) / 12 := IntWalk.i64_in _ (by omega)
  have e5 : IntKind.wrap .i64 (12 * (h - 1 - (i : Int) / 12)) = 12 * (h - 1 - (i : Int) / 12) := IntWalk.i64_in _ (by omega)
  have e6 : IntKind.wrap .i64 (12 * ((i : Int) / 12)) = 12 * ((i : Int) / 12) := IntWalk.i64_in _ (by omega)
  have e7 : IntKind.wrap .i64 (w - 1 - (i : Int) % 12 + 12 * (h - 1 - (i : Int) / 12)) = w - 1 - (i : Int) % 12 + 12 * (h - 1 - (i : Int) / 12) := IntWalk.i64_in _ (by omega)
  have e8 : IntKind.wrap .i64 (w - 1 - (i : Int) % 12 + 12 * ((i : Int) / 12)) = w - 1 - (i : Int) % 12 + 12 * ((i : Int) / 12) := IntWalk.i64_in _ (by omega)
  have e9 : IntKind.wrap .i64 ((i : Int) % 12 + 12 * (h - 1 - (i : Int) / 12)) = (i : Int) % 12 + 12 * (h - 1 - (i : Int) / 12) := IntWalk.i64_in _ (by omega)
  have e10 : IntKind.wrap .i64 ((i : Int) % 12 + 12 * ((i : Int) / 12)) = (i : Int) % 12 + 12 * ((i : Int) / 12) := IntWalk.i64_in _ (by omega)
  cases k != 1 <;> cases k != 0 <;> simp only [cond_true, cond_false, e1, e2, e3, e4, e5, e6, e7, e8, e9, e10] <;> omega
noncomputable def clash (w h : Int) (f : Nat → Int) (k : Int) (n : Int) (i : Nat) : Int :=
  cond (decide ((i : Int) < s50 w h f k i)) (cond (f i != 0) (cond (f (Int.toNat (s50 w h f k i)) != 0) (cond (f i != f (Int.toNat (s50 w h f k i))) (IntKind.wrap .i64 (n + 1)) n) n) n) n
noncomputable def clashes (w h : Int) (f : Nat → Int) (k : Int) : Int := (List.range' 0 144).foldl (fun n (i : Nat) => cond (isIn w h i) (clash w h f k n i) n) 0
theorem s75_eq {w h : Int} {f : Nat → Int} {k : Int} (hw : 1 ≤ w ∧ w ≤ 12) (hh : 1 ≤ h ∧ h ≤ 12) : s75 w h f k = some (clashes w h f k) := by
  unfold s75 f75_run3
  refine run_count 144 (fun i (n : Int) => (k, n, (i : Int), w, h, f)) (fun n (i : Nat) => cond (isIn w h i) (clash w h f k n i) n) _ 0 (by decide) ?_ ?_
  · intro i n hi
    show f75_n3 k n i w h f = _
    unfold f75_n3
    rw [lt144 hi, s81_in (by unfold I8; omega) (by unfold I8; omega) hi, inB_nat hi, succ64 (by omega), toNat_nat]
    cases hin : isIn w h i
    · rfl
    · have hxy : (i : Int) % 12 < w ∧ (i : Int) / 12 < h := by
        rw [isIn_eq (by unfold I8; omega) (by unfold I8; omega) hi] at hin
        simpa using hin
      have hp := part_in (f := f) (k := k) hw hh hi hxy.1 hxy.2
      rw [inB_of (x := s50 w h f k i) (n := 144) (by omega)]
      simp only [cond_true, Bool.not_true, cond_false]
      unfold clash
      show cond (decide ((i : Int) < s50 w h f k i)) _ _ = _
      cases decide ((i : Int) < s50 w h f k i)
      · rfl
      · cases f i != 0
        · rfl
        · cases f (Int.toNat (s50 w h f k i)) != 0
          · rfl
          · cases f i != f (Int.toNat (s50 w h f k i)) <;> rfl
  · unfold f75_n3
    rw [end144, cond_false]
    rfl
theorem s76_eq {w h : Int} {f : Nat → Int} {k : Int} (hw : 1 ≤ w ∧ w ≤ 12) (hh : 1 ≤ h ∧ h ≤ 12) : s76 w h f k = some (clashes w h f k) := by
  unfold s76
  rw [s67_eq]
  simp only [Option.bind]
  unfold f76_run3
  refine run_list (0 : Int) (nums w h) (fun i (n : Int) => (k, n, (((nums w h).length : Nat) : Int), (i : Int), w, h, f, nums w h)) (fun n x => clash w h f k n x.toNat) _ 0 (Nat.le_trans (nums_len w h) (by decide)) ?_ ?_
  · intro i n hi hm
    have hl := nums_len w h
    unfold f76_n3
    rw [lt_true hi, inB_nat hi, toNat_nat, succ64 (by omega)]
    obtain ⟨j, hc, hj, e⟩ := mem_nums hm
    rw [e, inB_nat hj, toNat_nat]
    have hin : isIn w h j = true := (List.mem_filter.1 hc).2
    have hxy : (j : Int) % 12 < w ∧ (j : Int) / 12 < h := by
      rw [isIn_eq (by unfold I8; omega) (by unfold I8; omega) hj] at hin
      simpa using hin
    have hp := part_in (f := f) (k := k) hw hh hj hxy.1 hxy.2
    have e56 : s56 w h f k j = s50 w h f k j := rfl
    rw [e56, inB_of (x := s50 w h f k j) (n := 144) (by omega)]
    simp only [cond_true]
    unfold clash
    cases decide ((j : Int) < s50 w h f k j)
    · rfl
    · cases f j != 0
      · rfl
      · cases f (Int.toNat (s50 w h f k j)) != 0
        · rfl
        · cases f j != f (Int.toNat (s50 w h f k j)) <;> rfl
  · unfold f76_n3
    rw [lt_neg, cond_false]
    unfold clashes nums cellsOf
    rw [List.foldl_map, foldl_filter']
    simp only [toNat_nat]
theorem law12 {w h : Int} {f : Nat → Int} {k : Int} (hw : I8 w) (hh : I8 h) (hf : U8 f) (hk : IntKind.i64.min ≤ k ∧ k ≤ IntKind.i64.max) : s12 w h f k = some true := by
  have key : s42 w h (s51 f) k = s41 w h (s51 f) k ∧ ∃ v, s41 w h (s51 f) k = some v := by
    unfold s42 s41
    have e1 : s54 k = s48 k := rfl
    rw [e1, valid_eq hw hh]
    cases hv : s47 w h (s51 f)
    · cases s48 k <;> exact ⟨rfl, _, rfl⟩
    · obtain ⟨h1, h2⟩ := valid_size hw hh hv
      rw [s75_eq h1 h2, s76_eq h1 h2]
      cases s48 k <;> exact ⟨rfl, _, rfl⟩
  unfold s12 s16
  obtain ⟨e, v, ev⟩ := key
  rw [e, ev]
  simp
noncomputable def bestK (c : Int → Int) : Int × Int := (List.range' 0 2).foldl (fun st (i : Nat) => cond (decide (c ((i : Int) + 1) < st.2)) ((i : Int) + 1, c ((i : Int) + 1)) st) (0, c 0)
theorem kind_lt {i : Nat} (h : i < 2) : decide ((i : Int) + 1 ≤ 2) = true := decide_eq_true (by omega)
theorem kind_succ {i : Nat} (h : i < 2) : IntKind.wrap .i64 ((i : Int) + 1 + 1) = ((i + 1 : Nat) : Int) + 1 := by rw [IntWalk.i64_in _ (by omega)]; omega
theorem law11 {w h : Int} {f : Nat → Int} (hw : I8 w) (hh : I8 h) (hf : U8 f) : s11 w h f = some true := by
  have key : ∃ v, s39 w h (s51 f) = some v ∧ s40 w h (s51 f) = some v := by
    unfold s39 s40
    rw [valid_eq hw hh]
    cases hv : s47 w h (s51 f)
    · exact ⟨_, rfl, rfl⟩
    · obtain ⟨h1, h2⟩ := valid_size hw hh hv
      rw [s75_eq h1 h2, s76_eq h1 h2]
      simp only [Bool.not_true, cond_false, Option.bind]
      refine ⟨((bestK (clashes w h (s51 f))).1, (bestK (clashes w h (s51 f))).2, 0), ?_, ?_⟩
      · unfold f39_run6
        refine run_count 2 (fun i (st : Int × Int) => (st.1, st.2, (i : Int) + 1, w, h, s51 f)) (fun st (i : Nat) => cond (decide (clashes w h (s51 f) ((i : Int) + 1) < st.2)) ((i : Int) + 1, clashes w h (s51 f) ((i : Int) + 1)) st) _ (0, clashes w h (s51 f) 0) (by decide) ?_ ?_
        · intro i st hi
          unfold f39_n6
          rw [kind_lt hi, s75_eq h1 h2, kind_succ hi]
          simp only [cond_true, Option.bind]
          cases decide (clashes w h (s51 f) ((i : Int) + 1) < st.2) <;> rfl
        · rfl
      · unfold f40_run5
        refine run_count 2 (fun i (st : Int × Int) => (st.1, st.2, (i : Int) + 1, w, h, s51 f)) (fun st (i : Nat) => cond (decide (clashes w h (s51 f) ((i : Int) + 1) < st.2)) ((i : Int) + 1, clashes w h (s51 f) ((i : Int) + 1)) st) _ (0, clashes w h (s51 f) 0) (by decide) ?_ ?_
        · intro i st hi
          unfold f40_n5
          rw [kind_lt hi, s76_eq h1 h2, kind_succ hi]
          simp only [cond_true, Option.bind]
          cases decide (clashes w h (s51 f) ((i : Int) + 1) < st.2) <;> rfl
        · rfl
  unfold s11 s16
  obtain ⟨v, ev, ew⟩ := key
  rw [ew, ev]
  simp
end Go.RR
