/- Plain facts of lost cells: which they are, losing cells, filling by a kind. -/
import Derived.Test.YtkbolifaojmmhaaEa
set_option linter.unusedVariables false
set_option linter.unusedSimpArgs false
namespace Go.RR
open Go

theorem s26_run {w h : Int} {f : Nat → Int} : f_iLostCells_run5 ((((nums w h).length : Nat) : Int), 0, w, h, f, [], nums w h) = some (lostOf w h f, 0) := by
  unfold f_iLostCells_run5
  refine run_listI (0 : Int) (nums w h) (fun i (l : List Int) => ((((nums w h).length : Nat) : Int), (i : Int), w, h, f, l, nums w h)) (fun l x => cond (f x.toNat == 0) (l ++ [x]) l) (fun i l => l.length ≤ i) _ [] (Nat.le_trans (nums_len w h) (by decide)) (Nat.le_refl _) ?_ ?_
  · intro i l hi hm hl
    have hl2 := nums_len w h
    constructor
    · show f_iLostCells_n5 (((nums w h).length : Nat) : Int) i w h f l (nums w h) = _
      unfold f_iLostCells_n5
      rw [lt_true hi, inB_nat hi, toNat_nat, succ64 (by omega)]
      obtain ⟨j, _, hj, ej⟩ := mem_nums hm
      rw [ej, inB_nat hj, toNat_nat]
      simp only [cond_true]
      rw [fits_small (by simp; omega)]
      cases f j == 0 <;> rfl
    · cases f ((nums w h).getD i 0).toNat == 0
      · show l.length ≤ i + 1; omega
      · simp; omega
  · intro _
    unfold f_iLostCells_n5
    rw [lt_neg, cond_false]
    have e : (nums w h).foldl (fun (l : List Int) x => cond (f x.toNat == 0) (l ++ [x]) l) [] = lostOf w h f := by
      unfold nums
      rw [List.foldl_map]
      simp only [toNat_nat]
      rw [foldl_push (g := fun i : Nat => (i : Int))]
      rfl
    rw [e]
theorem lost_eq {w h : Int} {f : Nat → Int} (hs : Siz w h) (hv : s_sl01Ok w h f = true) : s_sLostCells w h f = some (lostOf w h f, 0) ∧ s_iLostCells w h f = some (lostOf w h f, 0) := by
  obtain ⟨hw, hh⟩ := hs.i8
  unfold s_sLostCells s_iLostCells
  rw [valid_eq hw hh, s66_eq hw hh, s67_eq, hv]
  exact ⟨rfl, s26_run⟩
noncomputable def loseF (f : Nat → Int) (l : List Int) : Nat → Int := l.foldl (fun o x => upd o x.toNat 0) f
theorem loseF_at : ∀ (l : List Int) (f : Nat → Int) (j : Nat), (∀ x ∈ l, 0 ≤ x) → loseF f l j = if (j : Int) ∈ l then 0 else f j
  | [], f, j, _ => by simp [loseF]
  | x :: l, f, j, h => by
    have ih := loseF_at l (upd f x.toNat 0) j fun y hy => h y (List.mem_cons_of_mem _ hy)
    have hx := h x (by simp)
    show loseF (upd f x.toNat 0) l j = _
    rw [ih, upd_at]
    by_cases h1 : (j : Int) ∈ l
    · rw [if_pos h1, if_pos (List.mem_cons_of_mem _ h1)]
    · rw [if_neg h1]
      by_cases h2 : j = x.toNat
      · rw [if_pos h2, if_pos (by rw [h2, Int.toNat_of_nonneg hx]; simp)]
      · rw [if_neg h2, if_neg]
        intro hm
        rcases List.mem_cons.1 hm with hm | hm
        · omega
        · exact h1 hm
theorem hasN_eq {w h : Int} {f : Nat → Int} {j : Nat} : s_iPicture_hasNumber w h f (j : Int) = isIn w h j := by
  unfold s_iPicture_hasNumber
  rw [decide_eq_true (show (j : Int) ≥ 0 by omega)]
  rfl
theorem iLose_eq {w h : Int} {f : Nat → Int} {l : List Int} (hs : Siz w h) (hv : s_sl01Ok w h f = true) (hl : l.length ≤ 1000) (hall : ∀ x ∈ l, ∃ j : Nat, j < 144 ∧ isIn w h j = true ∧ x = (j : Int)) : s_iLoseCells w h f l = some (w, h, loseF f l, 0) := by
  obtain ⟨hw, hh⟩ := hs.i8
  unfold s_iLoseCells
  have hany : s_gContainsFunc_int64_a l w h f = some false := by
    unfold s_gContainsFunc_int64_a s_gIndexFunc_int64_a f_gIndexFunc_int64_a_run2
    have e := run_allL (step := fun x => f_gIndexFunc_int64_a_n2 x.1 x.2.1 x.2.2.1 x.2.2.2.1 x.2.2.2.2.1 x.2.2.2.2.2) (0 : Int) l (fun i => (((l.length : Nat) : Int), (i : Int), l, w, h, f)) (fun _ => true) (-1 : Int) (0 : Int) (by omega) ?_ ?_
    · have e2 : (l.all fun _ => true) = true := by simp
      rw [e2] at e
      have e : iter (fun x => f_gIndexFunc_int64_a_n2 x.1 x.2.1 x.2.2.1 x.2.2.2.1 x.2.2.2.2.1 x.2.2.2.2.2) FU (((l.length : Nat) : Int), 0, l, w, h, f) = some (-1) := e
      rw [e]; rfl
    · intro i hi hm
      show f_gIndexFunc_int64_a_n2 (l.length : Nat) i l w h f = _
      unfold f_gIndexFunc_int64_a_n2 s_iLoseCells_1
      rw [lt_true hi, inB_nat hi, toNat_nat, succ64 (by omega)]
      obtain ⟨j, _, h2, h3⟩ := hall _ hm
      rw [h3, hasN_eq, h2]; rfl
    · show f_gIndexFunc_int64_a_n2 (l.length : Nat) (l.length : Nat) l w h f = _
      unfold f_gIndexFunc_int64_a_n2
      rw [lt_neg, cond_false]
  rw [hany, valid_eq hw hh, hv]
  have run6 : f_iLoseCells_run6 (((l.length : Nat) : Int), 0, w, h, f, 0, 0, zF, l) = some (w, h, loseF f l, 0) := by
    unfold f_iLoseCells_run6
    refine run_list (0 : Int) l (fun i (o : Nat → Int) => (((l.length : Nat) : Int), (i : Int), w, h, o, 0, 0, zF, l)) (fun o x => upd o x.toNat 0) _ f (by omega) ?_ ?_
    · intro i o hi hm
      obtain ⟨j, hj, _, h3⟩ := hall _ hm
      show f_iLoseCells_n6 (l.length : Nat) i w h o 0 0 zF l = _
      unfold f_iLoseCells_n6
      rw [lt_true hi, inB_nat hi, toNat_nat, succ64 (by omega), h3, inB_nat hj]
      rfl
    · unfold f_iLoseCells_n6
      rw [lt_neg, cond_false]
      rfl
  exact run6
theorem fillK_eq {w h : Int} {f : Nat → Int} {n : Nat} (hs : Siz w h) (hv : s_sl01Ok w h f = true) (hn : n < 3) :
    s_sFillByKind w h f (n : Int) = some (w, h, cellsF f (byKind w h f n) (cellsOf w h) f, countF f (byKind w h f n) (cellsOf w h), 0) ∧ s_iFillByKind w h f (n : Int) = some (w, h, cellsF f (byKind w h f n) (cellsOf w h) f, countF f (byKind w h f n) (cellsOf w h), 0) := by
  obtain ⟨hw, hh⟩ := hs.i8
  have hk : s_sl06Kind (n : Int) = true := by
    unfold s_sl06Kind
    rw [s57_eq, decide_eq_true (by omega), decide_eq_true (by omega)]; rfl
  have hk2 : s_iisKind (n : Int) = true := hk
  unfold s_sFillByKind s_iFillByKind
  rw [valid_eq hw hh, hv, hk, hk2, s66_eq hw hh]
  constructor
  · exact sByKind_run hs.1 hs.2
  · rw [filled_b hs.1 hs.2]; rfl
theorem under_eq {w h : Int} {f : Nat → Int} {n : Nat} (hs : Siz w h) (hv : s_sl01Ok w h f = true) (hn : n < 3) : s_iClashesUnder w h f (n : Int) = some (clashes w h f n, 0) := by
  obtain ⟨hw, hh⟩ := hs.i8
  have hk2 : s_iisKind (n : Int) = true := by
    show s_iwithin (n : Int) 0 2 = true
    rw [s63_eq, decide_eq_true (by omega), decide_eq_true (by omega)]; rfl
  unfold s_iClashesUnder
  rw [valid_eq hw hh, hv, hk2, s76_eq hs.1 hs.2]; rfl
end Go.RR
