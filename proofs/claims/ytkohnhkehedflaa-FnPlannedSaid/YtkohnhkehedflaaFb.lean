/- The plain law of FnRepeats. -/
import Derived.Test.YtkohnhkehedflaaFa
set_option linter.unusedVariables false
set_option linter.unusedSimpArgs false
namespace Go.RR
open Go

/-! ### lost cells -/
theorem s26_run {w h : Int} {f : Nat → Int} : f_iLostCells_run5 ((((nums w h).length : Nat) : Int), 0, w, h, f, [], nums w h) = some (lostOf w h f, 0) := by
  unfold f_iLostCells_run5
  refine run_listI (0 : Int) (nums w h) (fun i (l : List Int) => ((((nums w h).length : Nat) : Int), (i : Int), w, h, f, l, nums w h)) (fun l x => cond (f x.toNat == 0) (l ++ [x]) l) (fun i l => l.length ≤ i) _ [] (Nat.le_trans (nums_len w h) (by decide)) (Nat.le_refl _) ?_ ?_
  · intro i l hi hm hl
    have hl2 := nums_len w h
    constructor
    · show f_iLostCells_n5 (((nums w h).length : Nat) : Int) i w h f l (nums w h) = _
      unfold f_iLostCells_n5
      rw [lt_true hi, inB_nat hi, toNat_nat, succ64 (by omega)]
      obtain ⟨j, _, hj, ej⟩ := mem_nums hm
      rw [ej, inB_nat hj, toNat_nat]
      simp only [cond_true]
      rw [fits_small (by simp; omega)]
      cases f j == 0 <;> rfl
    · cases f ((nums w h).getD i 0).toNat == 0
      · show l.length ≤ i + 1; omega
      · simp; omega
  · intro _
    unfold f_iLostCells_n5
    rw [lt_neg, cond_false]
    have e : (nums w h).foldl (fun (l : List Int) x => cond (f x.toNat == 0) (l ++ [x]) l) [] = lostOf w h f := by
      unfold nums
      rw [List.foldl_map]
      simp only [toNat_nat]
      rw [foldl_push (g := fun i : Nat => (i : Int))]
      rfl
    rw [e]
theorem lost_eq {w h : Int} {f : Nat → Int} (hs : Siz w h) (hv : s_sl01Ok w h f = true) : s_sLostCells w h f = some (lostOf w h f, 0) ∧ s_iLostCells w h f = some (lostOf w h f, 0) := by
  obtain ⟨hw, hh⟩ := hs.i8
  unfold s_sLostCells s_iLostCells
  rw [valid_eq hw hh, s66_eq hw hh, s67_eq, hv]
  exact ⟨rfl, s26_run⟩
theorem mem_in {w h : Int} {i : Nat} (hs : Siz w h) (hm : i ∈ cellsOf w h) : i < 144 ∧ (i : Int) % 12 < w ∧ (i : Int) / 12 < h := by
  obtain ⟨hw, hh⟩ := hs.i8
  have hi := cellsOf_lt hm
  have h1 := (List.mem_filter.1 hm).2
  rw [isIn_eq hw hh hi] at h1
  exact ⟨hi, by simpa using h1⟩
theorem lost_len_eq {w h : Int} {f how : Nat → Int} : ∀ (l : List Nat) (n : Int), 0 ≤ n → n + l.length ≤ 10000 →
    (((l.filter fun i => f i == 0 && how i == 0).length : Nat) : Int) = ((l.filter fun i => f i == 0).length : Nat) - (l.foldl (fun n i => cond (f i != 0) n (cond (how i != 0) (IntKind.wrap .i64 (n + 1)) n)) n - n)
  | [], n, _, _ => by simp
  | i :: l, n, hn, hl => by
    simp only [List.length_cons] at hl
    rw [List.foldl_cons]
    by_cases h1 : f i = 0
    · by_cases h2 : how i = 0
      · rw [List.filter_cons_of_pos (by simp [h1, h2]), List.filter_cons_of_pos (by simp [h1]), n_eq h1, n_eq h2]
        have := lost_len_eq (w := w) (h := h) (f := f) (how := how) l n hn (by omega)
        simp only [cond_false, List.length_cons]
        omega
      · rw [List.filter_cons_of_neg (by simp [h1, h2]), List.filter_cons_of_pos (by simp [h1]), n_eq h1, n_ne h2]
        simp only [cond_false, cond_true, List.length_cons]
        rw [IntWalk.i64_in (n + 1) (by omega)]
        have := lost_len_eq (w := w) (h := h) (f := f) (how := how) l (n + 1) (by omega) (by omega)
        omega
    · rw [List.filter_cons_of_neg (by simp [h1]), List.filter_cons_of_neg (by simp [h1]), n_ne h1]
      exact lost_len_eq (w := w) (h := h) (f := f) (how := how) l n hn (by omega)
theorem faEq_self (n : Nat) (f : Nat → Int) : faEq n f f = true := by
  unfold faEq
  simp
theorem rest_len {w h : Int} {f how : Nat → Int} : (((lostOf w h (cellsF f how (cellsOf w h) f)).length : Nat) : Int) = ((lostOf w h f).length : Nat) - countF f how (cellsOf w h) := by
  have e : (cellsOf w h).filter (fun i => cellsF f how (cellsOf w h) f i == 0) = (cellsOf w h).filter fun i => f i == 0 && how i == 0 := by
    apply List.filter_congr
    intro i hi
    rw [cellsF_at]
    by_cases h0 : f i = 0
    · rw [if_pos ⟨hi, h0⟩, z_eq h0]; rfl
    · rw [if_neg fun hh => h0 hh.2, z_ne h0]; rfl
  unfold lostOf
  rw [List.length_map, List.length_map, e]
  have := lost_len_eq (w := w) (h := h) (f := f) (how := how) (cellsOf w h) 0 (by omega) (by have := cellsOf_len w h; omega)
  rw [this]
  unfold countF
  omega

/-! ### filling by periods -/
noncomputable def fillP (w h : Int) (f : Nat → Int) (e s : Int) : Nat → Int := cellsF f (byPer f e s) (cellsOf w h) f
noncomputable def cntP (w h : Int) (f : Nat → Int) (e s : Int) : Int := countF f (byPer f e s) (cellsOf w h)
theorem cntP_rng {w h : Int} {f : Nat → Int} {e s : Int} : 0 ≤ cntP w h f e s ∧ cntP w h f e s ≤ 144 := by
  have h2 := lost_len_eq (w := w) (h := h) (f := f) (how := byPer f e s) (cellsOf w h) 0 (by omega) (by have := cellsOf_len w h; omega)
  have h3 : ((cellsOf w h).filter fun i => f i == 0 && byPer f e s i == 0).length ≤ ((cellsOf w h).filter fun i => f i == 0).length := by
    have : (cellsOf w h).filter (fun i => f i == 0 && byPer f e s i == 0) = ((cellsOf w h).filter fun i => f i == 0).filter fun i => byPer f e s i == 0 := by
      rw [List.filter_filter]
      apply List.filter_congr
      intro i _
      rw [Bool.and_comm]
    rw [this]
    exact List.length_filter_le _ _
  have h4 : ((cellsOf w h).filter fun i => f i == 0).length ≤ 144 := Nat.le_trans (List.length_filter_le _ _) (cellsOf_len w h)
  show 0 ≤ List.foldl _ 0 _ ∧ List.foldl _ 0 _ ≤ 144
  omega
theorem codes {w h : Int} {f : Nat → Int} {e s : Int} (hs : Siz w h) (hv : s_sl01Ok w h f = true) : s_sl06Periods w h f e s = (if (1 ≤ e ∧ e ≤ w) ∧ (1 ≤ s ∧ s ≤ h) then 0 else 2) ∧ s_icodeOf (s_iValidPicture w h f) (s_iPicture_arePeriods w h f e s) = (if (1 ≤ e ∧ e ≤ w) ∧ (1 ≤ s ∧ s ≤ h) then 0 else 2) := by
  obtain ⟨hw, hh⟩ := hs.i8
  unfold s_sl06Periods s_iPicture_arePeriods s_iPicture_size
  simp only
  rw [valid_eq hw hh, hv, s57_eq, s57_eq, s63_eq, s63_eq, w64 hw, w64 hh]
  have eA : (decide (1 ≤ e) && decide (e ≤ w)) = decide (1 ≤ e ∧ e ≤ w) := by by_cases h1 : 1 ≤ e <;> by_cases h2 : e ≤ w <;> simp [h1, h2]
  have eB : (decide (1 ≤ s) && decide (s ≤ h)) = decide (1 ≤ s ∧ s ≤ h) := by by_cases h1 : 1 ≤ s <;> by_cases h2 : s ≤ h <;> simp [h1, h2]
  rw [eA, eB]
  by_cases h1 : 1 ≤ e ∧ e ≤ w
  · by_cases h2 : 1 ≤ s ∧ s ≤ h
    · rw [if_pos ⟨h1, h2⟩, decide_eq_true h1, decide_eq_true h2]; exact ⟨rfl, rfl⟩
    · rw [if_neg fun hh => h2 hh.2, decide_eq_true h1, decide_eq_false h2]; exact ⟨rfl, rfl⟩
  · rw [if_neg fun hh => h1 hh.1, decide_eq_false h1]; exact ⟨rfl, rfl⟩
theorem fillP_eq {w h : Int} {f : Nat → Int} {e s : Int} (hs : Siz w h) (hv : s_sl01Ok w h f = true) (he : 1 ≤ e ∧ e ≤ w) (hss : 1 ≤ s ∧ s ≤ h) (hn : badP f e s = none) :
    s_sFillByPeriods w h f e s = some (w, h, fillP w h f e s, cntP w h f e s, 0) ∧ s_iFillByPeriods w h f e s = some (w, h, fillP w h f e s, cntP w h f e s, 0) := by
  obtain ⟨hw, hh⟩ := hs.i8
  obtain ⟨c1, c2⟩ := codes (e := e) (s := s) hs hv
  rw [if_pos ⟨he, hss⟩] at c1 c2
  unfold s_sFillByPeriods s_iFillByPeriods
  rw [c1, c2, s78_eq (w := w) (h := h) he.1 hss.1, s80_eq he.1 hss.1, alike_cells hw hh hv, s66_eq hw hh, filled_c hw hh hv he.1 hss.1, hn]
  refine ⟨?_, rfl⟩
  have e1 : ((cellsOf w h).foldl (fromS f (byPer f e s)) (f, 0)).1 = fillP w h f e s := funext fun j => (from_same (cellsOf w h)).1 j
  have e2 : ((cellsOf w h).foldl (fromS f (byPer f e s)) (f, 0)).2 = cntP w h f e s := (from_same (cellsOf w h)).2
  rw [← e1, ← e2]
  exact sPeriods_run he.1 hss.1
theorem fillP_code {w h : Int} {f : Nat → Int} {e s : Int} (hs : Siz w h) (hv : s_sl01Ok w h f = true) : ∃ v, s_iFillByPeriods w h f e s = some v ∧ v.2.2.2.2 = (if (1 ≤ e ∧ e ≤ w) ∧ (1 ≤ s ∧ s ≤ h) then (match badP f e s with | none => 0 | some _ => 8) else 2) := by
  obtain ⟨hw, hh⟩ := hs.i8
  obtain ⟨_, c2⟩ := codes (e := e) (s := s) hs hv
  unfold s_iFillByPeriods
  rw [c2]
  by_cases hc : (1 ≤ e ∧ e ≤ w) ∧ (1 ≤ s ∧ s ≤ h)
  · rw [if_pos hc, if_pos hc, s80_eq hc.1.1 hc.2.1, alike_cells hw hh hv, filled_c hw hh hv hc.1.1 hc.2.1]
    cases badP f e s with
    | none => exact ⟨_, rfl, rfl⟩
    | some p => exact ⟨_, rfl, rfl⟩
  · rw [if_neg hc, if_neg hc]
    exact ⟨_, rfl, rfl⟩
theorem first_eq {w h : Int} {f : Nat → Int} {e s : Int} (hs : Siz w h) (hv : s_sl01Ok w h f = true) : ∃ v, s_sFirstConflict w h f e s = some v ∧ s_iFirstConflict w h f e s = some v ∧ v = (if (1 ≤ e ∧ e ≤ w) ∧ (1 ≤ s ∧ s ≤ h) then (match badP f e s with | none => ((0 : Int), (0 : Int), (6 : Int)) | some p => ((p.1 : Int), (p.2 : Int), (0 : Int))) else (0, 0, 2)) := by
  obtain ⟨hw, hh⟩ := hs.i8
  obtain ⟨c1, c2⟩ := codes (e := e) (s := s) hs hv
  unfold s_sFirstConflict s_iFirstConflict
  rw [c1, c2]
  by_cases hc : (1 ≤ e ∧ e ≤ w) ∧ (1 ≤ s ∧ s ≤ h)
  · rw [if_pos hc, if_pos hc, s78_eq (w := w) (h := h) hc.1.1 hc.2.1, s80_eq hc.1.1 hc.2.1, alike_cells hw hh hv]
    cases badP f e s with
    | none => exact ⟨_, rfl, rfl, rfl⟩
    | some p =>
      refine ⟨_, ?_, rfl, rfl⟩
      show cond (decide ((p.1 : Int) < 0)) _ _ = _
      rw [decide_eq_false (by omega)]; rfl
  · rw [if_neg hc, if_neg hc]
    exact ⟨_, rfl, rfl, rfl⟩
theorem fillP_drw {w h : Int} {f : Nat → Int} {a b : Int} (hs : Siz w h) (hd : Drw w h f) (ha : 1 ≤ a) (hb : 1 ≤ b) (ht : ∀ j, j < 144 → f j ≠ 0 → f j = tile a b j) :
    Drw w h (fillP w h f (min a w) (min b h)) ∧ ∀ j, j < 144 → fillP w h f (min a w) (min b h) j ≠ 0 → fillP w h f (min a w) (min b h) j = tile a b j := by
  have hs1 := hs.1
  have hs2 := hs.2
  have e : ∀ j, fillP w h f (min a w) (min b h) j = if j ∈ cellsOf w h ∧ f j = 0 then byPer f (min a w) (min b h) j else f j := fun j => cellsF_at _ _ _
  have key : ∀ j, j ∈ cellsOf w h → byPer f (min a w) (min b h) j = 0 ∨ byPer f (min a w) (min b h) j = tile a b j := by
    intro j hj
    obtain ⟨h1, h2⟩ := mem_in hs hj
    unfold byPer
    cases hf : (List.range' 0 144).find? (perP f (min a w) (min b h) j) with
    | none => exact .inl rfl
    | some c =>
      right
      obtain ⟨h3, h4⟩ := find_lt hf
      have h5 := perP_ne h4
      unfold perP at h4
      rw [n_ne h5, cond_true, alike_nat h1 h3 (by omega) (by omega)] at h4
      simp only [Bool.and_eq_true, decide_eq_true_eq] at h4
      show f c = _
      rw [ht c h3 h5, tile_same h2 (hd.out c h3 h5) h4.1 h4.2]
  have tr := fun j => tile_rng ha hb j
  refine ⟨⟨fun j hj => ?_, fun j hj h0 => ?_⟩, fun j hj h0 => ?_⟩
  · rw [e]
    split
    · rename_i hm
      rcases key j hm.1 with h1 | h1 <;> rw [h1]
      · omega
      · have := tr j; omega
    · exact hd.rng j hj
  · rw [e] at h0
    by_cases hm : j ∈ cellsOf w h ∧ f j = 0
    · exact (mem_in hs hm.1).2
    · rw [if_neg hm] at h0
      exact hd.out j hj h0
  · rw [e] at h0 ⊢
    by_cases hm : j ∈ cellsOf w h ∧ f j = 0
    · rw [if_pos hm] at h0 ⊢
      rcases key j hm.1 with h1 | h1
      · exact absurd h1 h0
      · exact h1
    · rw [if_neg hm] at h0 ⊢
      exact ht j hj h0

/-! ### the law -/
theorem z_ne' {x y : Int} (h : ¬ x = y) : (x == y) = false := by simpa using h
theorem law_Repeats {l0 l1 : List Int} (h0 : l0.length ≤ maxLen) (b0 : ∀ x ∈ l0, 0 ≤ x ∧ x ≤ 255) (h1 : l1.length ≤ maxLen) (b1 : ∀ x ∈ l1, 0 ≤ x ∧ x ≤ 255) : s_wFnRepeats l0 l1 = some true := by
  unfold s_wFnRepeats s_wf6big
  by_cases q0 : ((l0.length : Nat) : Int) > 4096
  · rw [decide_eq_true q0]; rfl
  by_cases q1 : ((l1.length : Nat) : Int) > 4096
  · rw [decide_eq_true q1, decide_eq_false q0]; rfl
  rw [decide_eq_false q0, decide_eq_false q1, cond_false, cond_false]
  obtain ⟨w, h, f, e1, hs6, hd⟩ := P6Picture_ok (l := l0) ⟨by omega, b0⟩
  have hs : Siz w h := ⟨⟨by omega, by omega⟩, by omega, by omega⟩
  obtain ⟨hw, hh⟩ := hs.i8
  have hv := valid_mk hs hd
  have nn : ∀ x : Int, (x != x) = false := fun x => by simp
  have ee : ∀ x : Int, (x == x) = true := fun x => by simp
  have bb : ∀ x : Bool, (x == x) = true := fun x => by simp
  obtain ⟨e2, e3⟩ := periods_eq hs hv
  obtain ⟨px1, px2, px3⟩ := perX_spec (f := f) hs
  obtain ⟨py1, py2, py3⟩ := perY_spec (f := f) hs
  rw [e1]; dsimp only [Option.bind]
  rw [e3]; dsimp only
  rw [e2]; dsimp only
  simp only [nn, cond_false]
  -- behind both loops
  have fin : f_wFnRepeats_n16 (perY w h f : Int) (h + 1) l0 l1 w h f = some (Sum.inr true) := by
    unfold f_wFnRepeats_n16
    rw [w64 hh, decide_eq_false (show ¬ (h + 1 ≤ h) by omega), cond_false]
    obtain ⟨x8, e8, x81, x82⟩ := P6Pick_ok (l := l1) (k := 3) ⟨by omega, b1⟩ (by omega)
    obtain ⟨x9, e9, x91, x92⟩ := P6Pick_ok (l := l0) (k := 3) ⟨by omega, b0⟩ (by omega)
    rw [e8]; dsimp only [Option.bind]
    rw [e9]; dsimp only
    rw [IntWalk.i64_in (1 + x8) (by omega), IntWalk.i64_in (1 + x9) (by omega)]
    obtain ⟨u, v, g, e10, hs6', hd', ht⟩ := tiled_ok (l := l1) (a := 1 + x8) (b := 1 + x9) ⟨by omega, b1⟩ (by omega) (by omega)
    have hs' : Siz u v := ⟨⟨by omega, by omega⟩, by omega, by omega⟩
    obtain ⟨hu, hvv⟩ := hs'.i8
    have hv' := valid_mk hs' hd'
    rw [e10]; dsimp only
    rw [w64 hu, w64 hvv]
    have hnc := no_conflict hs' hd' (a := 1 + x8) (b := 1 + x9) (by omega) (by omega) ht
    obtain ⟨hd2, ht2⟩ := fillP_drw hs' hd' (a := 1 + x8) (b := 1 + x9) (by omega) (by omega) ht
    have hnc2 := no_conflict hs' hd2 (a := 1 + x8) (b := 1 + x9) (by omega) (by omega) ht2
    obtain ⟨hr1, hr2⟩ := tile_reps hs' hd2 (a := 1 + x8) (b := 1 + x9) (by omega) (by omega) ht2
    have hv2 := valid_mk hs' hd2
    have ha' : 1 ≤ min (1 + x8) u ∧ min (1 + x8) u ≤ u := by omega
    have hb' : 1 ≤ min (1 + x9) v ∧ min (1 + x9) v ≤ v := by omega
    generalize min (1 + x8) u = a' at *
    generalize min (1 + x9) v = b' at *
    obtain ⟨e11, e12⟩ := fillP_eq hs' hv' ha' hb' hnc
    obtain ⟨z1, _, e13, ez1⟩ := first_eq (e := a') (s := b') hs' hv'
    rw [if_pos ⟨ha', hb'⟩, hnc] at ez1
    subst ez1
    obtain ⟨e14, _⟩ := lost_eq hs' hv'
    obtain ⟨_, e15⟩ := lost_eq hs' hv2
    obtain ⟨z2, _, e16, ez2⟩ := first_eq (e := a') (s := b') hs' hv2
    rw [if_pos ⟨ha', hb'⟩, hnc2] at ez2
    subst ez2
    obtain ⟨_, e17⟩ := repeats_eq (e := a') (s := 0) hs' hv2 (by omega) (by omega) (by omega)
    obtain ⟨_, e18⟩ := repeats_eq (e := 0) (s := b') hs' hv2 (by omega) (by omega) (by omega)
    rw [hr1] at e17
    rw [hr2] at e18
    obtain ⟨z3, e19, e20, ez3⟩ := first_eq (e := a') (s := b') hs hv
    obtain ⟨z4, e21, ez4⟩ := fillP_code (e := a') (s := b') hs hv
    have hlen := rest_len (w := u) (h := v) (f := g) (how := byPer g a' b')
    have hlen : (((lostOf u v (fillP u v g a' b')).length : Nat) : Int) = ((lostOf u v g).length : Nat) - cntP u v g a' b' := hlen
    have hcr := cntP_rng (w := u) (h := v) (f := g) (e := a') (s := b')
    have hl1 := lost_len u v g
    have hlen2 : ((((lostOf u v (fillP u v g a' b')).length : Nat) : Int) != IntKind.wrap .i64 (((lostOf u v g).length : Nat) - cntP u v g a' b')) = false := by
      rw [IntWalk.i64_in _ (by omega), hlen, nn]
    rw [e12]; dsimp only
    rw [e11]; dsimp only
    rw [e13]; dsimp only
    rw [e14]; dsimp only
    rw [e15]; dsimp only
    rw [e16]; dsimp only
    rw [e17]; dsimp only
    rw [e18]; dsimp only
    rw [e20]; dsimp only
    rw [e19]; dsimp only
    rw [e21]; dsimp only
    simp only [hlen2, nn, ee, faEq_self, Bool.and_true, Bool.not_true, cond_false]
    rw [ez4, ez3, w64 hw]
    by_cases hc : (1 ≤ a' ∧ a' ≤ w) ∧ (1 ≤ b' ∧ b' ≤ h)
    · rw [if_pos hc, if_pos hc]
      cases hbp : badP f a' b' with
      | none => rfl
      | some p =>
        obtain ⟨p1, p2, p3, p4⟩ := pairOf_spec 144 0 p.1 p.2 hbp
        unfold badN at p4
        by_cases n1 : f p.1 = 0
        · rw [n_eq n1] at p4; cases p4
        by_cases n2 : f p.2 = 0
        · rw [n_ne n1, n_eq n2] at p4; cases p4
        cases n3 : (f p.2 != f p.1) with
        | false => rw [n_ne n1, n_ne n2, n3] at p4; cases p4
        | true =>
          have n4 : (f p.1 != f p.2) = true := by rw [bne_comm]; exact n3
          dsimp only
          rw [inB_nat (show p.1 < 144 by omega), inB_nat (show p.2 < 144 by omega), toNat_nat, toNat_nat, n_ne n1, n_ne n2, n4, decide_eq_true (show (p.1 : Int) ≥ 0 by omega), decide_eq_true (show (p.1 : Int) < (p.2 : Int) by omega), decide_eq_true (show (p.2 : Int) < 144 by omega)]
          rfl
    · rw [if_neg hc, if_neg hc]
      dsimp only
      by_cases c1 : a' > w
      · rw [decide_eq_true c1]; rfl
      · rw [decide_eq_false c1, decide_eq_true (show b' > h by omega)]; rfl
  have loopY : f_wFnRepeats_run16 ((perY w h f : Int), 1, l0, l1, w, h, f) = some true := by
    have eh : ((h.toNat : Nat) : Int) = h := Int.toNat_of_nonneg (by omega)
    unfold f_wFnRepeats_run16
    refine iter_countI (fun x => f_wFnRepeats_n16 x.1 x.2.1 x.2.2.1 x.2.2.2.1 x.2.2.2.2.1 x.2.2.2.2.2.1 x.2.2.2.2.2.2) (τ := Unit) (h.toNat + 1) (fun k _ => ((perY w h f : Int), (k : Int), l0, l1, w, h, f)) (fun _ _ => ()) (fun k _ => 1 ≤ k) true ?_ h.toNat 1 FU (by omega) (FU_big (pow_big (by omega))) () (Nat.le_refl _) ?_
    · intro k _ hk hk1
      refine ⟨?_, Nat.le_succ_of_le hk1⟩
      have hk1 : 1 ≤ k := hk1
      show f_wFnRepeats_n16 (perY w h f : Int) k l0 l1 w h f = _
      obtain ⟨r1, r2⟩ := repeats_eq (e := 0) (s := (k : Int)) hs hv (by omega) (by omega) (by omega)
      unfold f_wFnRepeats_n16
      rw [w64 hh, decide_eq_true (show (k : Int) ≤ h by omega), cond_true, r2]
      dsimp only [Option.bind]
      rw [r1]
      dsimp only
      simp only [nn, bb, Bool.not_true, cond_false]
      rw [succ64 (by omega)]
      by_cases c1 : k < perY w h f
      · rw [lt_true c1, cond_true, py2 k hk1 c1, cond_false, z_ne' (show ¬ (k : Int) = (perY w h f : Int) by omega)]; rfl
      · rw [decide_eq_false (show ¬ ((k : Int) < (perY w h f : Int)) by omega), cond_false]
        by_cases c2 : k = perY w h f
        · rw [c2, ee, cond_true, py3]; rfl
        · rw [z_ne' (show ¬ (k : Int) = (perY w h f : Int) by omega)]; rfl
    · intro _
      show f_wFnRepeats_n16 (perY w h f : Int) ((h.toNat + 1 : Nat) : Int) l0 l1 w h f = _
      rw [show ((h.toNat + 1 : Nat) : Int) = h + 1 by omega]
      exact fin
  have loopX : f_wFnRepeats_run9 ((perX w h f : Int), (perY w h f : Int), 1, l0, l1, w, h, f) = some true := by
    have ew : ((w.toNat : Nat) : Int) = w := Int.toNat_of_nonneg (by omega)
    unfold f_wFnRepeats_run9
    refine iter_countI (fun x => f_wFnRepeats_n9 x.1 x.2.1 x.2.2.1 x.2.2.2.1 x.2.2.2.2.1 x.2.2.2.2.2.1 x.2.2.2.2.2.2.1 x.2.2.2.2.2.2.2) (τ := Unit) (w.toNat + 1) (fun k _ => ((perX w h f : Int), (perY w h f : Int), (k : Int), l0, l1, w, h, f)) (fun _ _ => ()) (fun k _ => 1 ≤ k) true ?_ w.toNat 1 FU (by omega) (FU_big (pow_big (by omega))) () (Nat.le_refl _) ?_
    · intro k _ hk hk1
      refine ⟨?_, Nat.le_succ_of_le hk1⟩
      have hk1 : 1 ≤ k := hk1
      show f_wFnRepeats_n9 (perX w h f : Int) (perY w h f : Int) k l0 l1 w h f = _
      obtain ⟨r1, r2⟩ := repeats_eq (e := (k : Int)) (s := 0) hs hv (by omega) (by omega) (by omega)
      unfold f_wFnRepeats_n9
      rw [w64 hw, decide_eq_true (show (k : Int) ≤ w by omega), cond_true, r2]
      dsimp only [Option.bind]
      rw [r1]
      dsimp only
      simp only [nn, bb, Bool.not_true, cond_false]
      rw [succ64 (by omega)]
      by_cases c1 : k < perX w h f
      · rw [lt_true c1, cond_true, px2 k hk1 c1, cond_false, z_ne' (show ¬ (k : Int) = (perX w h f : Int) by omega)]; rfl
      · rw [decide_eq_false (show ¬ ((k : Int) < (perX w h f : Int)) by omega), cond_false]
        by_cases c2 : k = perX w h f
        · rw [c2, ee, cond_true, px3]; rfl
        · rw [z_ne' (show ¬ (k : Int) = (perX w h f : Int) by omega)]; rfl
    · intro _
      show f_wFnRepeats_n9 (perX w h f : Int) (perY w h f : Int) ((w.toNat + 1 : Nat) : Int) l0 l1 w h f = _
      unfold f_wFnRepeats_n9
      rw [w64 hw, decide_eq_false (show ¬ (((w.toNat + 1 : Nat) : Int) ≤ w) by omega), cond_false, loopY]
      rfl
  exact loopX
end Go.RR
