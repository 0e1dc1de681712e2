/- Plain facts of symmetries: clashes, the best kind, partners, what is filled by a kind. -/
import Derived.Test.YtkbolifaojmmhaaWf
import Derived.Test.YtkbolifaojmmhaaWx
import Derived.Test.YtkbolifaojmmhaaVq
set_option linter.unusedVariables false
set_option linter.unusedSimpArgs false
namespace Go.RR
open Go

noncomputable def clash (w h : Int) (f : Nat → Int) (k : Int) (n : Int) (i : Nat) : Int :=
  cond (decide ((i : Int) < s_sl06Partner w h f k i)) (cond (f i != 0) (cond (f (Int.toNat (s_sl06Partner w h f k i)) != 0) (cond (f i != f (Int.toNat (s_sl06Partner w h f k i))) (IntKind.wrap .i64 (n + 1)) n) n) n) n
noncomputable def clashes (w h : Int) (f : Nat → Int) (k : Int) : Int := (List.range' 0 144).foldl (fun n (i : Nat) => cond (isIn w h i) (clash w h f k n i) n) 0
theorem s75_eq {w h : Int} {f : Nat → Int} {k : Int} (hw : 1 ≤ w ∧ w ≤ 12) (hh : 1 ≤ h ∧ h ≤ 12) : s_sl06Clashes w h f k = some (clashes w h f k) := by
  unfold s_sl06Clashes f_sl06Clashes_run3
  refine run_count 144 (fun i (n : Int) => (k, n, (i : Int), w, h, f)) (fun n (i : Nat) => cond (isIn w h i) (clash w h f k n i) n) _ 0 (by decide) ?_ ?_
  · intro i n hi
    show f_sl06Clashes_n3 k n i w h f = _
    unfold f_sl06Clashes_n3
    rw [lt144 hi, s81_in (by unfold I8; omega) (by unfold I8; omega) hi, inB_nat hi, succ64 (by omega), toNat_nat]
    cases hin : isIn w h i
    · rfl
    · have hxy : (i : Int) % 12 < w ∧ (i : Int) / 12 < h := by
        rw [isIn_eq (by unfold I8; omega) (by unfold I8; omega) hi] at hin
        simpa using hin
      have hp := part_in (f := f) (k := k) hw hh hi hxy.1 hxy.2
      rw [inB_of (x := s_sl06Partner w h f k i) (n := 144) (by omega)]
      simp only [cond_true, Bool.not_true, cond_false]
      unfold clash
      show cond (decide ((i : Int) < s_sl06Partner w h f k i)) _ _ = _
      cases decide ((i : Int) < s_sl06Partner w h f k i)
      · rfl
      · cases f i != 0
        · rfl
        · cases f (Int.toNat (s_sl06Partner w h f k i)) != 0
          · rfl
          · cases f i != f (Int.toNat (s_sl06Partner w h f k i)) <;> rfl
  · unfold f_sl06Clashes_n3
    rw [end144, cond_false]
    rfl
theorem s76_eq {w h : Int} {f : Nat → Int} {k : Int} (hw : 1 ≤ w ∧ w ≤ 12) (hh : 1 ≤ h ∧ h ≤ 12) : s_iPicture_clashesUnder w h f k = some (clashes w h f k) := by
  unfold s_iPicture_clashesUnder
  rw [s67_eq]
  simp only [Option.bind]
  unfold f_iPicture_clashesUnder_run3
  refine run_list (0 : Int) (nums w h) (fun i (n : Int) => (k, n, (((nums w h).length : Nat) : Int), (i : Int), w, h, f, nums w h)) (fun n x => clash w h f k n x.toNat) _ 0 (Nat.le_trans (nums_len w h) (by decide)) ?_ ?_
  · intro i n hi hm
    have hl := nums_len w h
    unfold f_iPicture_clashesUnder_n3
    rw [lt_true hi, inB_nat hi, toNat_nat, succ64 (by omega)]
    obtain ⟨j, hc, hj, e⟩ := mem_nums hm
    rw [e, inB_nat hj, toNat_nat]
    have hin : isIn w h j = true := (List.mem_filter.1 hc).2
    have hxy : (j : Int) % 12 < w ∧ (j : Int) / 12 < h := by
      rw [isIn_eq (by unfold I8; omega) (by unfold I8; omega) hj] at hin
      simpa using hin
    have hp := part_in (f := f) (k := k) hw hh hj hxy.1 hxy.2
    have e56 : s_iPicture_partner w h f k j = s_sl06Partner w h f k j := rfl
    rw [e56, inB_of (x := s_sl06Partner w h f k j) (n := 144) (by omega)]
    simp only [cond_true]
    unfold clash
    cases decide ((j : Int) < s_sl06Partner w h f k j)
    · rfl
    · cases f j != 0
      · rfl
      · cases f (Int.toNat (s_sl06Partner w h f k j)) != 0
        · rfl
        · cases f j != f (Int.toNat (s_sl06Partner w h f k j)) <;> rfl
  · unfold f_iPicture_clashesUnder_n3
    rw [lt_neg, cond_false]
    unfold clashes nums cellsOf
    rw [List.foldl_map, foldl_filter']
    simp only [toNat_nat]
noncomputable def bestK (c : Int → Int) : Int × Int := (List.range' 0 2).foldl (fun st (i : Nat) => cond (decide (c ((i : Int) + 1) < st.2)) ((i : Int) + 1, c ((i : Int) + 1)) st) (0, c 0)
theorem kind_lt {i : Nat} (h : i < 2) : decide ((i : Int) + 1 ≤ 2) = true := decide_eq_true (by omega)
theorem kind_succ {i : Nat} (h : i < 2) : IntKind.wrap .i64 ((i : Int) + 1 + 1) = ((i + 1 : Nat) : Int) + 1 := by rw [IntWalk.i64_in _ (by omega)]; omega
theorem best_eq {w h : Int} {f : Nat → Int} (hs : Siz w h) (hv : s_sl01Ok w h f = true) : s_sBestKind w h f = some ((bestK (clashes w h f)).1, (bestK (clashes w h f)).2, 0) ∧ s_iBestKind w h f = some ((bestK (clashes w h f)).1, (bestK (clashes w h f)).2, 0) := by
  obtain ⟨hw, hh⟩ := hs.i8
  obtain ⟨h1, h2⟩ := hs
  unfold s_sBestKind s_iBestKind
  rw [valid_eq hw hh, hv]
  rw [s75_eq h1 h2, s76_eq h1 h2]
  simp only [Bool.not_true, cond_false, Option.bind]
  refine ⟨?_, ?_⟩
  · unfold f_sBestKind_run6
    refine run_count 2 (fun i (st : Int × Int) => (st.1, st.2, (i : Int) + 1, w, h, f)) (fun st (i : Nat) => cond (decide (clashes w h f ((i : Int) + 1) < st.2)) ((i : Int) + 1, clashes w h f ((i : Int) + 1)) st) _ (0, clashes w h f 0) (by decide) ?_ ?_
    · intro i st hi
      unfold f_sBestKind_n6
      rw [kind_lt hi, s75_eq h1 h2, kind_succ hi]
      simp only [cond_true, Option.bind]
      cases decide (clashes w h f ((i : Int) + 1) < st.2) <;> rfl
    · rfl
  · unfold f_iBestKind_run5
    refine run_count 2 (fun i (st : Int × Int) => (st.1, st.2, (i : Int) + 1, w, h, f)) (fun st (i : Nat) => cond (decide (clashes w h f ((i : Int) + 1) < st.2)) ((i : Int) + 1, clashes w h f ((i : Int) + 1)) st) _ (0, clashes w h f 0) (by decide) ?_ ?_
    · intro i st hi
      unfold f_iBestKind_n5
      rw [kind_lt hi, s76_eq h1 h2, kind_succ hi]
      simp only [cond_true, Option.bind]
      cases decide (clashes w h f ((i : Int) + 1) < st.2) <;> rfl
    · rfl
end Go.RR
