/- The plain law of JobsFor. No condition; no theorem of the program. -/
import Derived.Test.YtkohnhkehedflaaGd
import Derived.Test.YtkohnhkehedflaaWc
set_option linter.unusedVariables false
set_option linter.unusedSimpArgs false
namespace Go.RR
open Go

abbrev I8 (x : Int) : Prop := -128 ≤ x ∧ x ≤ 127
abbrev Job := Int × Int
theorem valid_size {w h : Int} {f : Nat → Int} (hw : I8 w) (hh : I8 h) (hv : s_sl01Ok w h f = true) : (1 ≤ w ∧ w ≤ 12) ∧ (1 ≤ h ∧ h ≤ 12) := by
  unfold s_sl01Ok at hv
  rw [w64 hw, w64 hh, s57_eq, s57_eq] at hv
  simp only [Bool.and_eq_true, decide_eq_true_eq] at hv
  exact ⟨hv.1, hv.2.1⟩
theorem eqJobs {l : List Job} (hl : l.length ≤ 100000000) : s_weqJobS l l = some true := by
  unfold s_weqJobS
  have : (((List.length l : Nat) : Int) != ((List.length l : Nat) : Int)) = false := by simp
  rw [this, cond_false]
  unfold f_weqJobS_run4
  have h := run_all (step := fun x => f_weqJobS_n4 x.1 x.2.1 x.2.2) l.length (fun i => ((i : Int), l, l)) (fun i => true) true false (by omega) ?_ ?_
  · exact h.trans (by simp)
  · intro i hi
    show f_weqJobS_n4 i l l = _
    unfold f_weqJobS_n4 s_weqJob
    rw [lt_true hi, inB_nat hi, toNat_nat, succ64 (by omega)]
    have a : ((l.getD i (0, 0)).1 != (l.getD i (0, 0)).1) = false := by simp
    have b : ((l.getD i (0, 0)).2 != (l.getD i (0, 0)).2) = false := by simp
    rw [a, b]; rfl
  · show f_weqJobS_n4 (l.length : Nat) l l = _
    unfold f_weqJobS_n4
    rw [lt_neg, cond_false]
/-! ### marking jobs -/
noncomputable def markJ (i : Nat) : Job := (IntKind.wrap .i8 ((1 + 2 * i : Nat) : Int), IntKind.wrap .u16 ((2 + 2 * i : Nat) : Int))
noncomputable def markJL (n : Nat) : List Job := (List.range' 0 n).map markJ
theorem markJL_len (n : Nat) : (markJL n).length = n := by simp [markJL]
theorem markJL_get {n i : Nat} (h : i < n) : (markJL n)[i]? = some (markJ i) := by
  unfold markJL
  rw [List.getElem?_map, List.getElem?_range' h]
  simp
theorem k2 {i : Nat} (h : i ≤ 2000000) : IntKind.wrap .i64 (((1 + 2 * i : Nat) : Int) + 1) = ((2 + 2 * i : Nat) : Int) ∧ IntKind.wrap .i64 (((2 + 2 * i : Nat) : Int) + 1) = ((1 + 2 * (i + 1) : Nat) : Int) := by
  rw [IntWalk.i64_in (((1 + 2 * i : Nat) : Int) + 1) (by omega), IntWalk.i64_in (((2 + 2 * i : Nat) : Int) + 1) (by omega)]
  omega
theorem markJobs_eq {l : List Job} (hl : l.length ≤ 1000000) : s_wmarkJobS l 1 = some (((1 + 2 * l.length : Nat) : Int), markJL l.length) := by
  unfold s_wmarkJobS f_wmarkJobS_run2
  have key := run_count (step := fun x => f_wmarkJobS_n2 x.1 x.2.1 x.2.2) (τ := Unit) l.length (fun i _ => (((1 + 2 * i : Nat) : Int), (i : Int), (markJL l.length).take i ++ l.drop i)) (fun _ _ => ()) (((1 + 2 * l.length : Nat) : Int), markJL l.length) () (by omega) ?_ ?_
  · exact key
  · intro i _ hi
    show f_wmarkJobS_n2 ((1 + 2 * i : Nat) : Int) i ((markJL l.length).take i ++ l.drop i) = _
    have hlen : ((markJL l.length).take i ++ l.drop i).length = l.length := by simp [markJL_len]; omega
    unfold f_wmarkJobS_n2
    rw [List.length_set, hlen, lt_true hi, inB_nat hi, toNat_nat, succ64 (i := i) (by omega), (k2 (i := i) (by omega)).1, (k2 (i := i) (by omega)).2]
    simp only [cond_true]
    have hg : ∀ v : Job, (List.getD (((markJL l.length).take i ++ l.drop i).set i v) i (0, 0)) = v := fun v => by
      rw [List.getD_eq_getElem?_getD, List.getElem?_set_self (by rw [hlen]; exact hi)]; rfl
    rw [hg, List.set_set]
    have := set_copy (t := markJL l.length) (r := l) (i := i) (x := markJ i) (by rw [markJL_len]) (markJL_get hi)
    show some (Sum.inl (((1 + 2 * (i + 1) : Nat) : Int), ((i + 1 : Nat) : Int), ((markJL l.length).take i ++ l.drop i).set i (markJ i))) = _
    rw [this]
  · show f_wmarkJobS_n2 ((1 + 2 * l.length : Nat) : Int) (l.length : Nat) ((markJL l.length).take l.length ++ l.drop l.length) = _
    have h1 : (markJL l.length).take l.length ++ l.drop l.length = markJL l.length := by
      rw [List.drop_length, List.append_nil]
      exact List.take_of_length_le (by rw [markJL_len]; exact Nat.le_refl _)
    rw [h1]
    unfold f_wmarkJobS_n2
    rw [markJL_len, lt_neg, cond_false]
theorem heldJobs_eq (n : Nat) (hn : n ≤ 1000000) : s_wheldJobS (markJL n) 1 = some ((1 + 2 * n : Nat) : Int) := by
  unfold s_wheldJobS f_wheldJobS_run2
  have key := run_count (step := fun x => f_wheldJobS_n2 x.1 x.2.1 x.2.2) (τ := Unit) n (fun i _ => (((1 + 2 * i : Nat) : Int), (i : Int), markJL n)) (fun _ _ => ()) ((1 + 2 * n : Nat) : Int) () (by omega) ?_ ?_
  · exact key
  · intro i _ hi
    show f_wheldJobS_n2 ((1 + 2 * i : Nat) : Int) i (markJL n) = _
    unfold f_wheldJobS_n2
    have hg : (markJL n).getD i (0, 0) = markJ i := by rw [List.getD_eq_getElem?_getD, markJL_get hi]; rfl
    rw [markJL_len, lt_true hi, inB_nat hi, toNat_nat, hg, succ64 (i := i) (by omega), (k2 (i := i) (by omega)).1, (k2 (i := i) (by omega)).2]
    have a : ((markJ i).1 != IntKind.wrap .i8 ((1 + 2 * i : Nat) : Int)) = false := by simp [markJ]
    have b : ((markJ i).2 != IntKind.wrap .u16 ((2 + 2 * i : Nat) : Int)) = false := by simp [markJ]
    rw [a, b]; rfl
  · show f_wheldJobS_n2 ((1 + 2 * n : Nat) : Int) (n : Nat) (markJL n) = _
    unfold f_wheldJobS_n2
    rw [markJL_len, lt_neg, cond_false]


/-! ### The law -/
theorem jobs_both {a0 a1 a3 : Int} {f : Nat → Int} (hw : I8 a0) (hh : I8 a1) : ∃ v : List Job × Int, s_sJobsFor a0 a1 f a3 = some v ∧ s_iJobsFor a0 a1 f a3 = some v ∧ v.1.length ≤ 1000000 := by
  unfold s_sJobsFor s_iJobsFor
  rw [valid_eq hw hh]
  have e : s_iwithin a3 1 144 = s_sl00In a3 1 144 := rfl
  rw [e]
  cases hv : s_sl01Ok a0 a1 f
  · cases hr : s_sl00In a3 1 144 <;> exact ⟨([], 1), rfl, rfl, by simp⟩
  · cases hr : s_sl00In a3 1 144
    · exact ⟨([], 2), rfl, rfl, by simp⟩
    · obtain ⟨⟨w1, w2⟩, h1, h2⟩ := valid_size hw hh hv
      obtain ⟨w, rfl⟩ : ∃ w : Nat, a0 = (w : Int) := ⟨a0.toNat, (Int.toNat_of_nonneg (by omega)).symm⟩
      obtain ⟨h, rfl⟩ : ∃ h : Nat, a1 = (h : Int) := ⟨a1.toNat, (Int.toNat_of_nonneg (by omega)).symm⟩
      have hw12 : w ≤ 12 := by omega
      have hh12 : h ≤ 12 := by omega
      have hd : a3 ≠ 0 := by
        rintro rfl
        exact absurd hr (by decide)
      obtain ⟨ss, hp, hs⟩ := parts_ok hw12 hh12 (f := f)
      have h0 : 0 < ss.length := by
        obtain ⟨s, hm, _⟩ := hp.all 0 (by omega) (by unfold isC; omega)
        exact List.length_pos_of_mem hm
      have hc : (s_icodeOf true true != 0) = false := rfl
      have hbig := hp.len
      have hfl : (fullOf f ss).length ≤ ss.length := List.length_filter_le _ _
      refine ⟨jobsR w h f (fullOf f ss) a3, ?_, ?_, ?_⟩
      · rw [sfields_ok hw12 hh12, hs]
        simp only [Bool.not_true, cond_false, Option.bind]
        exact s9_ok hw12 hh12 hd hp
      · rw [ifields_ok hw12 hh12, hs, hc]
        simp only [cond_false, Option.bind]
        rw [del_ok hw12 hh12 hp.cell hbig h0]
        simp only [List.length_map]
        unfold jobsR
        by_cases hn : (((fullOf f ss).length : Nat) : Int) > 12
        · rw [decide_eq_true hn]; rfl
        · rw [decide_eq_false hn]
          simp only [cond_false]
          exact i9_ok hw12 hh12 (full_ok hw12 hh12 hp) (by omega) hd
      · unfold jobsR
        cases decide ((((fullOf f ss).length : Nat) : Int) > 12)
        · have := jobsG_len (D := fun i => daysOf (rowLen w h f (fullOf f ss) i) a3) (M := fun i => ((maskOf w h f (fullOf f ss) i : Nat) : Int)) (fullOf f ss).length 0 []
          rw [List.length_nil] at this
          rw [cond_false]; omega
        · exact Nat.zero_le _
theorem law_JobsFor {a0 a1 a3 : Int} {a2 : Nat → Int} (hw : I8 a0) (hh : I8 a1) : s_wFnExactJobsFor a0 a1 a2 a3 = some true := by
  unfold s_wFnExactJobsFor
  rw [show s_wtoPicture a0 a1 a2 = (a0, a1, s_wtoByteA144 a2) from rfl]
  generalize s_wtoByteA144 a2 = f
  obtain ⟨v, e1, e2, hlv⟩ := jobs_both (a3 := a3) (f := f) hw hh
  have e5 : decide (((1 + 2 * v.1.length : Nat) : Int) < 0) = false := decide_eq_false (by omega)
  simp only [Option.bind, e1, e2, eqJobs (l := v.1) (by omega), markJobs_eq (l := v.1) hlv, heldJobs_eq v.1.length hlv, e5]
  simp
end Go.RR
