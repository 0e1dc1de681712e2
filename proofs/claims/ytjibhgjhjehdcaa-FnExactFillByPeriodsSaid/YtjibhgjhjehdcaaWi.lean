/- The plain laws of FillByPeriods and LoseCells. -/
import Derived.Test.YtjibhgjhjehdcaaWf
set_option linter.unusedVariables false
set_option linter.unusedSimpArgs false
namespace Go.RR
open Go

/-! ### FillByPeriods -/
noncomputable def perP (f : Nat → Int) (e s : Int) (i b : Nat) : Bool := cond (f b != 0) (alikeB i b e s) false
noncomputable def byPer (f : Nat → Int) (e s : Int) (i : Nat) : Int := match (List.range' 0 144).find? (perP f e s i) with
  | some b => f b
  | none => 0
theorem perP_ne {f : Nat → Int} {e s : Int} {i b : Nat} (h : perP f e s i b = true) : f b ≠ 0 := by
  intro h0
  unfold perP at h
  rw [n_eq h0] at h
  cases h
theorem find_lt {p : Nat → Bool} {n b : Nat} (h : (List.range' 0 n).find? p = some b) : b < n ∧ p b = true := by
  have h1 := List.mem_of_find?_eq_some h
  have h2 := List.find?_some h
  have := List.mem_range'_1.1 h1
  exact ⟨by omega, h2⟩
theorem fillByPeriods_1 {w h : Int} {f : Nat → Int} {e s : Int} (hw : I8 w) (hh : I8 h) (hv : s_sl01Ok w h f = true) (he : 1 ≤ e) (hs : 1 ≤ s) {j : Nat} : s_iFillByPeriods_1 j w h f e s = some (byPer f e s j) := by
  unfold s_iFillByPeriods_1
  rw [s67_eq]
  simp only [Option.bind]
  unfold f_iFillByPeriods_1_run2
  have hl := nums_len w h
  have key := iter_findL (step := fun x => f_iFillByPeriods_1_n2 x.1 x.2.1 x.2.2.1 x.2.2.2.1 x.2.2.2.2.1 x.2.2.2.2.2.1 x.2.2.2.2.2.2.1 x.2.2.2.2.2.2.2.1 x.2.2.2.2.2.2.2.2) (0 : Int) (nums w h) (fun i => ((j : Int), (((nums w h).length : Nat) : Int), (i : Int), w, h, f, e, s, nums w h)) (fun b => perP f e s j b.toNat) (fun b => f b.toNat) 0 ?_ ?_ (nums w h).length 0 FU (by omega) (FU_big (pow_big (by omega)))
  · refine key.trans ?_
    rw [List.drop_zero]
    unfold nums byPer
    rw [find_map']
    simp only [toNat_nat]
    have e1 : (cellsOf w h).find? (fun x => perP f e s j x) = (List.range' 0 144).find? (perP f e s j) := by
      unfold cellsOf
      have c1 : ∀ l : List Nat, (∀ x ∈ l, x < 144) → (l.filter (isIn w h)).find? (perP f e s j) = l.find? (perP f e s j) := by
        intro l
        induction l with
        | nil => intro _; rfl
        | cons b l ih =>
          intro hb
          have ih := ih fun x hx => hb x (by simp [hx])
          cases hc : isIn w h b
          · rw [List.filter_cons_of_neg (by simp [hc]), ih, List.find?_cons]
            cases hp : perP f e s j b
            · rfl
            · have hcell := valid_cell hw hh hv (hb b (by simp)) (perP_ne hp)
              rw [isIn_eq hw hh (hb b (by simp))] at hc
              simp [hcell] at hc
          · rw [List.filter_cons_of_pos hc, List.find?_cons, List.find?_cons, ih]
      exact c1 _ fun x hx => by have := List.mem_range'_1.1 hx; omega
    rw [e1]
    cases (List.range' 0 144).find? (perP f e s j) <;> rfl
  · intro i hi hm
    show f_iFillByPeriods_1_n2 j (((nums w h).length : Nat) : Int) i w h f e s (nums w h) = _
    unfold f_iFillByPeriods_1_n2
    obtain ⟨b, _, hb, eb⟩ := mem_nums hm
    rw [lt_true hi, inB_nat hi, toNat_nat, eb, inB_nat hb, toNat_nat, succ64 (by omega)]
    have e95 : s_ialike j b e s = some (alikeB j b e s) := s94_eq he hs
    rw [e95]
    simp only [cond_true, Option.bind]
    unfold perP
    cases f b != 0
    · rfl
    · cases alikeB j b e s <;> rfl
  · show f_iFillByPeriods_1_n2 j (((nums w h).length : Nat) : Int) (((nums w h).length : Nat) : Int) w h f e s (nums w h) = _
    unfold f_iFillByPeriods_1_n2
    rw [lt_neg, cond_false]
theorem filled_c {w h : Int} {f : Nat → Int} {e s : Int} (hw : I8 w) (hh : I8 h) (hv : s_sl01Ok w h f = true) (he : 1 ≤ e) (hs : 1 ≤ s) : s_ifilled_c w h f w h f e s = some (w, h, cellsF f (byPer f e s) (cellsOf w h) f, countF f (byPer f e s) (cellsOf w h)) := by
  unfold s_ifilled_c
  rw [s67_eq]
  simp only [Option.bind]
  unfold f_ifilled_c_run3
  refine run_list (0 : Int) (nums w h) (fun i (st : (Nat → Int) × Int) => (st.2, (((nums w h).length : Nat) : Int), (i : Int), w, h, f, e, s, w, h, f, 0, 0, zF, w, h, st.1, nums w h)) (fun st x => fillStep f (byPer f e s) st x.toNat) _ (f, 0) (Nat.le_trans (nums_len w h) (by decide)) ?_ ?_
  · intro i st hi hm
    have hl := nums_len w h
    show f_ifilled_c_n3 st.2 (((nums w h).length : Nat) : Int) i w h f e s w h f 0 0 zF w h st.1 (nums w h) = _
    unfold f_ifilled_c_n3
    rw [lt_true hi, inB_nat hi, toNat_nat, succ64 (by omega)]
    obtain ⟨j, hc, hj, ej⟩ := mem_nums hm
    rw [ej, inB_nat hj, toNat_nat, fillByPeriods_1 hw hh hv he hs]
    simp only [cond_true, Option.bind]
    have hu : upd st.1 j (byPer f e s j) j = byPer f e s j := by unfold upd; rw [Nat.beq_refl]; rfl
    rw [hu]
    unfold fillStep
    cases f j != 0
    · cases byPer f e s j != 0 <;> rfl
    · rfl
  · have e1 : (nums w h).foldl (fun st (x : Int) => fillStep f (byPer f e s) st x.toNat) (f, 0) = (cellsF f (byPer f e s) (cellsOf w h) f, countF f (byPer f e s) (cellsOf w h)) := by
      unfold nums
      rw [List.foldl_map]
      exact fill_fold f _ (cellsOf w h) f
    rw [e1]
    show f_ifilled_c_n3 _ (((nums w h).length : Nat) : Int) (((nums w h).length : Nat) : Int) w h f e s w h f 0 0 zF w h _ (nums w h) = _
    unfold f_ifilled_c_n3
    rw [lt_neg, cond_false]
theorem sPeriods_run {w h : Int} {f : Nat → Int} {e s : Int} (he : 1 ≤ e) (hs : 1 ≤ s) : f_sFillByPeriods_run11 (e, s, 0, 0, w, h, f, 0, 0, zF, w, h, f, lostOf w h f) = some (w, h, ((cellsOf w h).foldl (fromS f (byPer f e s)) (f, 0)).1, ((cellsOf w h).foldl (fromS f (byPer f e s)) (f, 0)).2, 0) := by
  unfold f_sFillByPeriods_run11
  refine run_list (0 : Int) (lostOf w h f) (fun i (st : (Nat → Int) × Int) => (e, s, st.2, (i : Int), w, h, f, 0, 0, zF, w, h, st.1, lostOf w h f)) (fun st x => fromS f (byPer f e s) st x.toNat) _ (f, 0) (Nat.le_trans (lost_len w h f) (by decide)) ?_ ?_
  · intro i st hi hm
    have hl := lost_len w h f
    show f_sFillByPeriods_n11 e s st.2 i w h f 0 0 zF w h st.1 (lostOf w h f) = _
    unfold f_sFillByPeriods_n11
    rw [lt_true hi]
    simp only [cond_true]
    obtain ⟨j, hc, hj, ej, h0⟩ := mem_lost hm
    unfold f_sFillByPeriods_run14
    refine (iter_find (step := fun x => f_sFillByPeriods_n14 x.1 x.2.1 x.2.2.1 x.2.2.2.1 x.2.2.2.2.1 x.2.2.2.2.2.1 x.2.2.2.2.2.2.1 x.2.2.2.2.2.2.2.1 x.2.2.2.2.2.2.2.2.1 x.2.2.2.2.2.2.2.2.2.1 x.2.2.2.2.2.2.2.2.2.2.1 x.2.2.2.2.2.2.2.2.2.2.2.1 x.2.2.2.2.2.2.2.2.2.2.2.2.1 x.2.2.2.2.2.2.2.2.2.2.2.2.2.1 x.2.2.2.2.2.2.2.2.2.2.2.2.2.2) 144 (fun b => (e, s, st.2, (i : Int), (b : Int), w, h, f, 0, 0, zF, w, h, st.1, lostOf w h f)) (perP f e s j)
      (fun b => Sum.inl (e, s, IntKind.wrap .i64 (st.2 + 1), ((i + 1 : Nat) : Int), w, h, f, 0, 0, zF, w, h, upd st.1 j (f b), lostOf w h f)) (Sum.inl (e, s, st.2, ((i + 1 : Nat) : Int), w, h, f, 0, 0, zF, w, h, st.1, lostOf w h f)) ?_ ?_ 144 0 FU rfl (FU_big (pow_big (by decide)))).trans ?_
    · intro b hb
      show f_sFillByPeriods_n14 e s st.2 i b w h f 0 0 zF w h st.1 (lostOf w h f) = _
      unfold f_sFillByPeriods_n14
      rw [lt144 hb, inB_nat hb, inB_nat hi, toNat_nat, toNat_nat, ej, inB_nat hj, toNat_nat, s94_eq he hs, succ64 (i := i) (by omega), succ64 (i := b) (by omega)]
      simp only [cond_true, Option.bind]
      unfold perP
      cases f b != 0
      · rfl
      · cases alikeB j b e s <;> rfl
    · show f_sFillByPeriods_n14 e s st.2 i (144 : Nat) w h f 0 0 zF w h st.1 (lostOf w h f) = _
      unfold f_sFillByPeriods_n14
      rw [end144, cond_false, succ64 (by omega)]
    · rw [ej, toNat_nat]
      unfold fromS byPer
      rw [z_eq h0]
      cases hfi : (List.range' 0 144).find? (perP f e s j) with
      | none => rfl
      | some b =>
        dsimp only
        rw [n_ne (perP_ne (find_lt hfi).2)]
        rfl
  · have e1 := lost_fold (w := w) (h := h) (f := f) (fromS f (byPer f e s)) (f, 0)
    rw [e1]
    have e2 : (fun (st : (Nat → Int) × Int) i => cond (f i == 0) (fromS f (byPer f e s) st i) st) = fromS f (byPer f e s) := by
      funext st i
      unfold fromS
      cases f i == 0 <;> rfl
    rw [e2]
    unfold f_sFillByPeriods_n11
    rw [lt_neg, cond_false]
theorem from_same {f how : Nat → Int} (l : List Nat) : (∀ j, (l.foldl (fromS f how) (f, 0)).1 j = cellsF f how l f j) ∧ (l.foldl (fromS f how) (f, 0)).2 = countF f how l := by
  refine ⟨fun j => ?_, (fromS_at l (f, 0)).2⟩
  rw [(fromS_at l (f, 0)).1, cellsF_at]
  by_cases h1 : j ∈ l ∧ f j = 0
  · by_cases h2 : how j = 0
    · have n2 : ¬ (j ∈ l ∧ f j = 0 ∧ how j ≠ 0) := fun q => q.2.2 h2
      rw [if_neg n2, if_pos h1, h2]; exact h1.2
    · rw [if_pos ⟨h1.1, h1.2, h2⟩, if_pos h1]
  · have n2 : ¬ (j ∈ l ∧ f j = 0 ∧ how j ≠ 0) := fun q => h1 ⟨q.1, q.2.1⟩
    rw [if_neg n2, if_neg h1]
theorem law_FillByPeriods {w h : Int} {f : Nat → Int} {e s : Int} (hw : I8 w) (hh : I8 h) (hf : U8 f) (he : IntKind.i64.min ≤ e ∧ e ≤ IntKind.i64.max) (hs : IntKind.i64.min ≤ s ∧ s ≤ IntKind.i64.max) : s_wFnExactFillByPeriods w h f e s = some true := by
  have key : ∀ f' : Nat → Int, ∃ a b, s_sFillByPeriods w h f' e s = some a ∧ s_iFillByPeriods w h f' e s = some b ∧ SameFill b a := by
    intro f'
    unfold s_sFillByPeriods s_iFillByPeriods s_sl06Periods s_iPicture_arePeriods s_iPicture_size
    simp only
    rw [valid_eq hw hh, s57_eq, s57_eq, s63_eq, s63_eq, w64 hw, w64 hh]
    cases hv : s_sl01Ok w h f'
    · cases decide (1 ≤ e) && decide (e ≤ w) <;> exact ⟨_, _, rfl, rfl, rfl, rfl, fun _ _ => rfl, rfl, rfl⟩
    · cases hA : decide (1 ≤ e) && decide (e ≤ w)
      · exact ⟨_, _, rfl, rfl, rfl, rfl, fun _ _ => rfl, rfl, rfl⟩
      · cases hB : decide (1 ≤ s) && decide (s ≤ h)
        · exact ⟨_, _, rfl, rfl, rfl, rfl, fun _ _ => rfl, rfl, rfl⟩
        · simp only [Bool.and_eq_true, decide_eq_true_eq] at hA hB
          rw [s78_eq (w := w) (h := h) hA.1 hB.1, s80_eq hA.1 hB.1, alike_cells hw hh hv, s66_eq hw hh, filled_c hw hh hv hA.1 hB.1]
          cases badP f' e s with
          | none =>
            refine ⟨_, _, sPeriods_run hA.1 hB.1, rfl, rfl, rfl, fun j _ => ((from_same (cellsOf w h)).1 j).symm, (from_same (cellsOf w h)).2.symm, rfl⟩
          | some p =>
            refine ⟨(0, 0, zF, 0, 8), (0, 0, zF, 0, 8), ?_, rfl, rfl, rfl, fun _ _ => rfl, rfl, rfl⟩
            show cond (decide (((p.1 : Nat) : Int) ≥ 0)) (some (0, 0, zF, 0, 8)) (Option.bind (some (lostOf w h f')) fun r2 => f_sFillByPeriods_run11 (e, s, 0, 0, w, h, f', 0, 0, zF, w, h, f', r2)) = some (0, 0, zF, 0, 8)
            rw [decide_eq_true (by omega)]
            rfl
  unfold s_wFnExactFillByPeriods s_wtoPicture
  obtain ⟨a, b, e1, e2, hs⟩ := key (s_wtoByteA144 f)
  exact sameFill e1 e2 hs

/-! ### LoseCells -/
theorem mk_ok (n k : Nat) (h : n * k ≤ 140737488355328) : (decide (0 ≤ ((n : Nat) : Int)) && decide (((n : Nat) : Int) = ((n : Nat) : Int)) && fits ((Int.toNat ((n : Nat) : Int)) * k)) = true := by
  rw [toNat_nat, fits_small h]
  simp
theorem toInts {l : List Int} (hl : l.length ≤ 2000000) : s_wtoInt64S l = some l := by
  unfold s_wtoInt64S
  rw [mk_ok _ _ (by omega), cond_true, toNat_nat]
  unfold f_wtoInt64S_run3
  have key := run_count (step := fun x => f_wtoInt64S_n3 x.1 x.2.1 x.2.2) (τ := Unit) l.length (fun i _ => ((i : Int), l, l.take i ++ (List.replicate l.length 0).drop i)) (fun _ _ => ()) l () (by omega) ?_ ?_
  · exact key
  · intro i _ hi
    show f_wtoInt64S_n3 i l (l.take i ++ (List.replicate l.length 0).drop i) = _
    unfold f_wtoInt64S_n3
    have hlen : (l.take i ++ (List.replicate l.length 0).drop i).length = l.length := by simp; omega
    rw [hlen, lt_true hi, inB_nat hi, toNat_nat, succ64 (by omega)]
    simp only [cond_true]
    rw [set_copy (by simp) (show l[i]? = some (l.getD i 0) from by rw [List.getD_eq_getElem?_getD, List.getElem?_eq_getElem hi]; rfl)]
  · show f_wtoInt64S_n3 (l.length : Nat) l (l.take l.length ++ (List.replicate l.length 0).drop l.length) = _
    unfold f_wtoInt64S_n3
    rw [lt_neg, cond_false, List.take_length, List.drop_eq_nil_of_le (by simp), List.append_nil]
noncomputable def loseF (f : Nat → Int) (l : List Int) : Nat → Int := l.foldl (fun o x => upd o x.toNat 0) f
theorem cell_lt {w h : Int} {f : Nat → Int} {x : Int} (h0 : s_sl06Cell w h f x = true) : 0 ≤ x ∧ x < 144 := by
  unfold s_sl06Cell at h0
  rw [s57_eq] at h0
  cases h1 : (decide (0 ≤ x) && decide (x ≤ 143))
  · rw [h1] at h0; cases h0
  · simp only [Bool.and_eq_true, decide_eq_true_eq] at h1; omega
theorem law_LoseCells {w h : Int} {f : Nat → Int} {l : List Int} (hw : I8 w) (hh : I8 h) (hf : U8 f) (hlm : l.length ≤ maxLen) (hb : ∀ x ∈ l, IntKind.i64.min ≤ x ∧ x ≤ IntKind.i64.max) : s_wFnExactLoseCells w h f l = some true := by
  unfold s_wFnExactLoseCells
  by_cases hbig : ((List.length l : Nat) : Int) > 1048576
  · rw [decide_eq_true hbig]; rfl
  rw [decide_eq_false hbig, cond_false]
  have hl : l.length ≤ 1048576 := by omega
  have key : ∀ f' : Nat → Int, ∃ a, s_sLoseCells w h f' l = some a ∧ s_iLoseCells w h f' l = some a := by
    intro f'
    unfold s_sLoseCells s_iLoseCells
    have hany : ∃ r, s_gContainsFunc_int64_a l w h f' = some r ∧ r = l.any fun x => !(s_iPicture_hasNumber w h f' x) := by
      unfold s_gContainsFunc_int64_a s_gIndexFunc_int64_a f_gIndexFunc_int64_a_run2
      have hs1 : ∀ i, i < l.length → f_gIndexFunc_int64_a_n2 (l.length : Nat) i l w h f' = some (cond (!(s_iPicture_hasNumber w h f' (l.getD i 0))) (Sum.inr (i : Int)) (Sum.inl (((l.length : Nat) : Int), ((i + 1 : Nat) : Int), l, w, h, f'))) := by
        intro i hi
        unfold f_gIndexFunc_int64_a_n2 s_iLoseCells_1
        rw [lt_true hi, inB_nat hi, toNat_nat, succ64 (by omega)]
        simp only [cond_true]
        cases s_iPicture_hasNumber w h f' (l.getD i 0) <;> rfl
      have he1 : f_gIndexFunc_int64_a_n2 (l.length : Nat) (l.length : Nat) l w h f' = some (Sum.inr (-1)) := by
        unfold f_gIndexFunc_int64_a_n2
        rw [lt_neg, cond_false]
      obtain ⟨r, h1, h2, _⟩ := run_idx (step := fun x => f_gIndexFunc_int64_a_n2 x.1 x.2.1 x.2.2.1 x.2.2.2.1 x.2.2.2.2.1 x.2.2.2.2.2) l.length (fun i => (((l.length : Nat) : Int), (i : Int), l, w, h, f')) (fun i => !(s_iPicture_hasNumber w h f' (l.getD i 0))) hs1 he1 l.length 0 FU (by omega) (FU_big (pow_big (by omega)))
      have h1 : iter (fun x => f_gIndexFunc_int64_a_n2 x.1 x.2.1 x.2.2.1 x.2.2.2.1 x.2.2.2.2.1 x.2.2.2.2.2) FU (((l.length : Nat) : Int), 0, l, w, h, f') = some r := h1
      refine ⟨decide (r ≥ 0), by rw [h1]; rfl, ?_⟩
      rw [h2]
      exact any_getD 0 l fun x => !(s_iPicture_hasNumber w h f' x)
    obtain ⟨r, hr1, hr2⟩ := hany
    rw [hr1, hr2, valid_eq hw hh]
    simp only [Option.bind]
    cases hv : s_sl01Ok w h f'
    · cases (l.any fun x => !(s_iPicture_hasNumber w h f' x)) <;> exact ⟨_, rfl, rfl⟩
    · obtain ⟨h1, h2⟩ := valid_size hw hh hv
      have hc : ∀ x ∈ l, s_iPicture_hasNumber w h f' x = s_sl06Cell w h f' x := fun x hx => cell_eq hw hh (hb x hx).2 (by omega)
      have hany : (l.any fun x => !(s_iPicture_hasNumber w h f' x)) = !(l.all fun x => s_sl06Cell w h f' x) := by
        have : ∀ m : List Int, (∀ x ∈ m, s_iPicture_hasNumber w h f' x = s_sl06Cell w h f' x) → (m.any fun x => !(s_iPicture_hasNumber w h f' x)) = !(m.all fun x => s_sl06Cell w h f' x) := by
          intro m
          induction m with
          | nil => intro _; rfl
          | cons x m ih =>
            intro hm
            rw [List.any_cons, List.all_cons, ih fun y hy => hm y (by simp [hy]), hm x (by simp)]
            cases s_sl06Cell w h f' x <;> rfl
        exact this l hc
      rw [hany, Bool.not_not]
      simp only [Bool.not_true, cond_false]
      have run9 : (∀ x ∈ l, s_sl06Cell w h f' x = true) → f_sLoseCells_run9 (0, l, w, h, f', 0, 0, zF) = some (w, h, loseF f' l, 0) := by
        intro hall
        unfold f_sLoseCells_run9
        refine run_list (0 : Int) l (fun i (o : Nat → Int) => ((i : Int), l, w, h, o, 0, 0, zF)) (fun o x => upd o x.toNat 0) _ f' (by omega) ?_ ?_
        · intro i o hi hm
          have hx := cell_lt (hall _ hm)
          show f_sLoseCells_n9 i l w h o 0 0 zF = _
          unfold f_sLoseCells_n9
          rw [lt_true hi, inB_nat hi, toNat_nat, succ64 (by omega), inB_of (x := l.getD i 0) (n := 144) (by omega)]
          rfl
        · unfold f_sLoseCells_n9
          rw [lt_neg, cond_false]
          rfl
      have run6 : (∀ x ∈ l, s_sl06Cell w h f' x = true) → f_iLoseCells_run6 (((l.length : Nat) : Int), 0, w, h, f', 0, 0, zF, l) = some (w, h, loseF f' l, 0) := by
        intro hall
        unfold f_iLoseCells_run6
        refine run_list (0 : Int) l (fun i (o : Nat → Int) => (((l.length : Nat) : Int), (i : Int), w, h, o, 0, 0, zF, l)) (fun o x => upd o x.toNat 0) _ f' (by omega) ?_ ?_
        · intro i o hi hm
          have hx := cell_lt (hall _ hm)
          show f_iLoseCells_n6 (l.length : Nat) i w h o 0 0 zF l = _
          unfold f_iLoseCells_n6
          rw [lt_true hi, inB_nat hi, toNat_nat, succ64 (by omega), inB_of (x := l.getD i 0) (n := 144) (by omega)]
          rfl
        · unfold f_iLoseCells_n6
          rw [lt_neg, cond_false]
          rfl
      have run4 : f_sLoseCells_run4 (0, l, w, h, f', 0, 0, zF) = some (cond (l.all fun x => s_sl06Cell w h f' x) (w, h, loseF f' l, 0) (0, 0, zF, 2)) := by
        unfold f_sLoseCells_run4
        refine run_allL2 (step := fun x => f_sLoseCells_n4 x.1 x.2.1 x.2.2.1 x.2.2.2.1 x.2.2.2.2.1 x.2.2.2.2.2.1 x.2.2.2.2.2.2.1 x.2.2.2.2.2.2.2) (0 : Int) l (fun i => ((i : Int), l, w, h, f', 0, 0, zF)) (fun x => s_sl06Cell w h f' x) _ _ (by omega) ?_ ?_
        · intro i hi hm
          show f_sLoseCells_n4 i l w h f' 0 0 zF = _
          unfold f_sLoseCells_n4
          rw [lt_true hi, inB_nat hi, toNat_nat, succ64 (by omega)]
          simp only [cond_true]
          cases s_sl06Cell w h f' (l.getD i 0) <;> rfl
        · intro hall
          show f_sLoseCells_n4 (l.length : Nat) l w h f' 0 0 zF = _
          unfold f_sLoseCells_n4
          rw [lt_neg, cond_false, run9 (fun x hx => List.all_eq_true.1 hall x hx)]
          rfl
      rw [run4]
      cases hall : l.all fun x => s_sl06Cell w h f' x
      · exact ⟨_, rfl, rfl⟩
      · rw [run6 (fun x hx => List.all_eq_true.1 hall x hx)]
        exact ⟨_, rfl, rfl⟩
  rw [toInts (by omega)]
  simp only [Option.bind]
  obtain ⟨a, e1, e2⟩ := key (s_wtoPicture w h f).2.2
  have e1 : s_sLoseCells (s_wtoPicture w h f).1 (s_wtoPicture w h f).2.1 (s_wtoPicture w h f).2.2 l = some a := e1
  have e2 : s_iLoseCells (s_wtoPicture w h f).1 (s_wtoPicture w h f).2.1 (s_wtoPicture w h f).2.2 l = some a := e2
  rw [e1, e2, s27_same l (by omega)]
  simp only [eqPic fun _ _ => rfl]
  simp
end Go.RR
