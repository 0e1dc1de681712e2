/- The plain laws of FillByPeriods and LoseCells. -/
import Derived.Test.YtkohnhkehedflaaWf
import Derived.Test.YtkohnhkehedflaaWh
set_option linter.unusedVariables false
set_option linter.unusedSimpArgs false
namespace Go.RR
open Go

/-! ### FillByPeriods -/
noncomputable def perP (f : Nat → Int) (e s : Int) (i b : Nat) : Bool := cond (f b != 0) (alikeB i b e s) false
noncomputable def byPer (f : Nat → Int) (e s : Int) (i : Nat) : Int := match (List.range' 0 144).find? (perP f e s i) with
  | some b => f b
  | none => 0
theorem perP_ne {f : Nat → Int} {e s : Int} {i b : Nat} (h : perP f e s i b = true) : f b ≠ 0 := by
  intro h0
  unfold perP at h
  rw [n_eq h0] at h
  cases h
theorem find_lt {p : Nat → Bool} {n b : Nat} (h : (List.range' 0 n).find? p = some b) : b < n ∧ p b = true := by
  have h1 := List.mem_of_find?_eq_some h
  have h2 := List.find?_some h
  have := List.mem_range'_1.1 h1
  exact ⟨by omega, h2⟩
theorem fillByPeriods_1 {w h : Int} {f : Nat → Int} {e s : Int} (hw : I8 w) (hh : I8 h) (hv : s_sl01Ok w h f = true) (he : 1 ≤ e) (hs : 1 ≤ s) {j : Nat} : s_iFillByPeriods_1 j w h f e s = some (byPer f e s j) := by
  unfold s_iFillByPeriods_1
  rw [s67_eq]
  simp only [Option.bind]
  unfold f_iFillByPeriods_1_run2
  have hl := nums_len w h
  have key := iter_findL (step := fun x => f_iFillByPeriods_1_n2 x.1 x.2.1 x.2.2.1 x.2.2.2.1 x.2.2.2.2.1 x.2.2.2.2.2.1 x.2.2.2.2.2.2.1 x.2.2.2.2.2.2.2.1 x.2.2.2.2.2.2.2.2) (0 : Int) (nums w h) (fun i => ((j : Int), (((nums w h).length : Nat) : Int), (i : Int), w, h, f, e, s, nums w h)) (fun b => perP f e s j b.toNat) (fun b => f b.toNat) 0 ?_ ?_ (nums w h).length 0 FU (by omega) (FU_big (pow_big (by omega)))
  · refine key.trans ?_
    rw [List.drop_zero]
    unfold nums byPer
    rw [find_map']
    simp only [toNat_nat]
    have e1 : (cellsOf w h).find? (fun x => perP f e s j x) = (List.range' 0 144).find? (perP f e s j) := by
      unfold cellsOf
      have c1 : ∀ l : List Nat, (∀ x ∈ l, x < 144) → (l.filter (isIn w h)).find? (perP f e s j) = l.find? (perP f e s j) := by
        intro l
        induction l with
        | nil => intro _; rfl
        | cons b l ih =>
          intro hb
          have ih := ih fun x hx => hb x (by simp [hx])
          cases hc : isIn w h b
          · rw [List.filter_cons_of_neg (by simp [hc]), ih, List.find?_cons]
            cases hp : perP f e s j b
            · rfl
            · have hcell := valid_cell hw hh hv (hb b (by simp)) (perP_ne hp)
              rw [isIn_eq hw hh (hb b (by simp))] at hc
              simp [hcell] at hc
          · rw [List.filter_cons_of_pos hc, List.find?_cons, List.find?_cons, ih]
      exact c1 _ fun x hx => by have := List.mem_range'_1.1 hx; omega
    rw [e1]
    cases (List.range' 0 144).find? (perP f e s j) <;> rfl
  · intro i hi hm
    show f_iFillByPeriods_1_n2 j (((nums w h).length : Nat) : Int) i w h f e s (nums w h) = _
    unfold f_iFillByPeriods_1_n2
    obtain ⟨b, _, hb, eb⟩ := mem_nums hm
    rw [lt_true hi, inB_nat hi, toNat_nat, eb, inB_nat hb, toNat_nat, succ64 (by omega)]
    have e95 : s_ialike j b e s = some (alikeB j b e s) := s94_eq he hs
    rw [e95]
    simp only [cond_true, Option.bind]
    unfold perP
    cases f b != 0
    · rfl
    · cases alikeB j b e s <;> rfl
  · show f_iFillByPeriods_1_n2 j (((nums w h).length : Nat) : Int) (((nums w h).length : Nat) : Int) w h f e s (nums w h) = _
    unfold f_iFillByPeriods_1_n2
    rw [lt_neg, cond_false]
theorem filled_c {w h : Int} {f : Nat → Int} {e s : Int} (hw : I8 w) (hh : I8 h) (hv : s_sl01Ok w h f = true) (he : 1 ≤ e) (hs : 1 ≤ s) : s_ifilled_a w h f w h f e s = some (w, h, cellsF f (byPer f e s) (cellsOf w h) f, countF f (byPer f e s) (cellsOf w h)) := by
  unfold s_ifilled_a
  rw [s67_eq]
  simp only [Option.bind]
  unfold f_ifilled_a_run3
  refine run_list (0 : Int) (nums w h) (fun i (st : (Nat → Int) × Int) => (st.2, (((nums w h).length : Nat) : Int), (i : Int), w, h, f, e, s, w, h, f, 0, 0, zF, w, h, st.1, nums w h)) (fun st x => fillStep f (byPer f e s) st x.toNat) _ (f, 0) (Nat.le_trans (nums_len w h) (by decide)) ?_ ?_
  · intro i st hi hm
    have hl := nums_len w h
    show f_ifilled_a_n3 st.2 (((nums w h).length : Nat) : Int) i w h f e s w h f 0 0 zF w h st.1 (nums w h) = _
    unfold f_ifilled_a_n3
    rw [lt_true hi, inB_nat hi, toNat_nat, succ64 (by omega)]
    obtain ⟨j, hc, hj, ej⟩ := mem_nums hm
    rw [ej, inB_nat hj, toNat_nat, fillByPeriods_1 hw hh hv he hs]
    simp only [cond_true, Option.bind]
    have hu : upd st.1 j (byPer f e s j) j = byPer f e s j := by unfold upd; rw [Nat.beq_refl]; rfl
    rw [hu]
    unfold fillStep
    cases f j != 0
    · cases byPer f e s j != 0 <;> rfl
    · rfl
  · have e1 : (nums w h).foldl (fun st (x : Int) => fillStep f (byPer f e s) st x.toNat) (f, 0) = (cellsF f (byPer f e s) (cellsOf w h) f, countF f (byPer f e s) (cellsOf w h)) := by
      unfold nums
      rw [List.foldl_map]
      exact fill_fold f _ (cellsOf w h) f
    rw [e1]
    show f_ifilled_a_n3 _ (((nums w h).length : Nat) : Int) (((nums w h).length : Nat) : Int) w h f e s w h f 0 0 zF w h _ (nums w h) = _
    unfold f_ifilled_a_n3
    rw [lt_neg, cond_false]
theorem sPeriods_run {w h : Int} {f : Nat → Int} {e s : Int} (he : 1 ≤ e) (hs : 1 ≤ s) : f_sFillByPeriods_run11 (e, s, 0, 0, w, h, f, 0, 0, zF, w, h, f, lostOf w h f) = some (w, h, ((cellsOf w h).foldl (fromS f (byPer f e s)) (f, 0)).1, ((cellsOf w h).foldl (fromS f (byPer f e s)) (f, 0)).2, 0) := by
  unfold f_sFillByPeriods_run11
  refine run_list (0 : Int) (lostOf w h f) (fun i (st : (Nat → Int) × Int) => (e, s, st.2, (i : Int), w, h, f, 0, 0, zF, w, h, st.1, lostOf w h f)) (fun st x => fromS f (byPer f e s) st x.toNat) _ (f, 0) (Nat.le_trans (lost_len w h f) (by decide)) ?_ ?_
  · intro i st hi hm
    have hl := lost_len w h f
    show f_sFillByPeriods_n11 e s st.2 i w h f 0 0 zF w h st.1 (lostOf w h f) = _
    unfold f_sFillByPeriods_n11
    rw [lt_true hi]
    simp only [cond_true]
    obtain ⟨j, hc, hj, ej, h0⟩ := mem_lost hm
    unfold f_sFillByPeriods_run14
    refine (iter_find (step := fun x => f_sFillByPeriods_n14 x.1 x.2.1 x.2.2.1 x.2.2.2.1 x.2.2.2.2.1 x.2.2.2.2.2.1 x.2.2.2.2.2.2.1 x.2.2.2.2.2.2.2.1 x.2.2.2.2.2.2.2.2.1 x.2.2.2.2.2.2.2.2.2.1 x.2.2.2.2.2.2.2.2.2.2.1 x.2.2.2.2.2.2.2.2.2.2.2.1 x.2.2.2.2.2.2.2.2.2.2.2.2.1 x.2.2.2.2.2.2.2.2.2.2.2.2.2.1 x.2.2.2.2.2.2.2.2.2.2.2.2.2.2) 144 (fun b => (e, s, st.2, (i : Int), (b : Int), w, h, f, 0, 0, zF, w, h, st.1, lostOf w h f)) (perP f e s j)
      (fun b => Sum.inl (e, s, IntKind.wrap .i64 (st.2 + 1), ((i + 1 : Nat) : Int), w, h, f, 0, 0, zF, w, h, upd st.1 j (f b), lostOf w h f)) (Sum.inl (e, s, st.2, ((i + 1 : Nat) : Int), w, h, f, 0, 0, zF, w, h, st.1, lostOf w h f)) ?_ ?_ 144 0 FU rfl (FU_big (pow_big (by decide)))).trans ?_
    · intro b hb
      show f_sFillByPeriods_n14 e s st.2 i b w h f 0 0 zF w h st.1 (lostOf w h f) = _
      unfold f_sFillByPeriods_n14
      rw [lt144 hb, inB_nat hb, inB_nat hi, toNat_nat, toNat_nat, ej, inB_nat hj, toNat_nat, s94_eq he hs, succ64 (i := i) (by omega), succ64 (i := b) (by omega)]
      simp only [cond_true, Option.bind]
      unfold perP
      cases f b != 0
      · rfl
      · cases alikeB j b e s <;> rfl
    · show f_sFillByPeriods_n14 e s st.2 i (144 : Nat) w h f 0 0 zF w h st.1 (lostOf w h f) = _
      unfold f_sFillByPeriods_n14
      rw [end144, cond_false, succ64 (by omega)]
    · rw [ej, toNat_nat]
      unfold fromS byPer
      rw [z_eq h0]
      cases hfi : (List.range' 0 144).find? (perP f e s j) with
      | none => rfl
      | some b =>
        dsimp only
        rw [n_ne (perP_ne (find_lt hfi).2)]
        rfl
  · have e1 := lost_fold (w := w) (h := h) (f := f) (fromS f (byPer f e s)) (f, 0)
    rw [e1]
    have e2 : (fun (st : (Nat → Int) × Int) i => cond (f i == 0) (fromS f (byPer f e s) st i) st) = fromS f (byPer f e s) := by
      funext st i
      unfold fromS
      cases f i == 0 <;> rfl
    rw [e2]
    unfold f_sFillByPeriods_n11
    rw [lt_neg, cond_false]
theorem from_same {f how : Nat → Int} (l : List Nat) : (∀ j, (l.foldl (fromS f how) (f, 0)).1 j = cellsF f how l f j) ∧ (l.foldl (fromS f how) (f, 0)).2 = countF f how l := by
  refine ⟨fun j => ?_, (fromS_at l (f, 0)).2⟩
  rw [(fromS_at l (f, 0)).1, cellsF_at]
  by_cases h1 : j ∈ l ∧ f j = 0
  · by_cases h2 : how j = 0
    · have n2 : ¬ (j ∈ l ∧ f j = 0 ∧ how j ≠ 0) := fun q => q.2.2 h2
      rw [if_neg n2, if_pos h1, h2]; exact h1.2
    · rw [if_pos ⟨h1.1, h1.2, h2⟩, if_pos h1]
  · have n2 : ¬ (j ∈ l ∧ f j = 0 ∧ how j ≠ 0) := fun q => h1 ⟨q.1, q.2.1⟩
    rw [if_neg n2, if_neg h1]
/-! ### LoseCells -/
end Go.RR
