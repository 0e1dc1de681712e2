/- The plain law of ReadJobs: the two readers. -/
import Derived.Test.YtbmaolhjplapoaaDoorWi
set_option linter.unusedVariables false
set_option linter.unusedSimpArgs false
namespace Go.RR
open Go

theorem bor_rng (x y : Int) : 0 ≤ bOr .u16 x y ∧ bOr .u16 x y ≤ 65535 := wu16 _
theorem restO_rng : ∀ (r : List ByteArray) (a b : Int), 0 ≤ a ∧ a ≤ 65535 → restO a r = some b → 0 ≤ b ∧ b ≤ 65535
  | [], a, b, h, e => by cases e; exact h
  | p :: r, a, b, h, e => by
    unfold restO at e
    split at e
    · exact restO_rng r _ b (bor_rng _ _) e
    · cases e
def JobsI (i : Nat) (l : List Job) : Prop := l.length ≤ i ∧ ∀ x ∈ l, (-128 ≤ x.1 ∧ x.1 ≤ 127) ∧ (0 ≤ x.2 ∧ x.2 ≤ 65535)
theorem i8_rng (v : Int) : -128 ≤ IntKind.wrap .i8 v ∧ IntKind.wrap .i8 v ≤ 127 := by
  simp only [IntKind.wrap, IntKind.bits, IntKind.signed]; simp; split <;> omega
theorem jobsI_app {i : Nat} {l : List Job} (h : JobsI i l) {x : Job} (h1 : -128 ≤ x.1 ∧ x.1 ≤ 127) (h2 : 0 ≤ x.2 ∧ x.2 ≤ 65535) : JobsI (i + 1) (l ++ [x]) := by
  refine ⟨by have := h.1; simp; omega, fun y hy => ?_⟩
  rcases List.mem_append.1 hy with hy | hy
  · exact h.2 y hy
  · have : y = x := by simpa using hy
    rw [this]; exact ⟨h1, h2⟩
theorem gS_I {ws : List ByteArray} {i : Nat} {l : List Job} (h : JobsI i l) : ∀ l', gS ws l i = .inl l' → JobsI (i + 1) l' := by
  intro l' e
  unfold gS jobS at e
  split at e
  · rename_i b hb
    cases hn : (numB (hd0 (ws.getD i (⟨#[]⟩ : ByteArray))).data.toList).2
    · rw [hn] at e; cases e
    · rw [hn] at e
      cases e
      exact jobsI_app h (i8_rng _) (restO_rng _ 0 b (by omega) hb)
  · cases e
theorem gI_I {ws : List ByteArray} {i : Nat} {l : List Job} (h : JobsI i l) : ∀ l', gI ws l i = .inl l' → JobsI (i + 1) l' := by
  intro l' e
  unfold gI jobI at e
  split at e
  · rename_i b hb
    split at e
    · rename_i d hd
      cases e
      obtain ⟨⟨h1, h2, _⟩, _⟩ := widG_some (by decide) hd
      exact jobsI_app h (by show -128 ≤ (d : Int) ∧ (d : Int) ≤ 127; omega) (restO_rng _ 0 b (by omega) hb)
    · cases e
  · cases e
theorem days_of {l : List Job} (hj : ∀ x ∈ l, (-128 ≤ x.1 ∧ x.1 ≤ 127) ∧ (0 ≤ x.2 ∧ x.2 ≤ 65535)) (hv : validB l = true) : DaysOK l := by
  unfold validB at hv
  simp only [Bool.and_eq_true, decide_eq_true_eq] at hv
  exact ⟨hv.1, fun x hx => ⟨jobP_days (hj x hx).1 (List.all_eq_true.1 hv.2.1 x hx), (hj x hx).2.1⟩⟩
abbrev WordsJ (ws : List ByteArray) : Prop := ws.length ≤ 1100000 ∧ ∀ w ∈ ws, w.size ≤ 1100000
theorem sJobs {z : ByteArray} {ws : List ByteArray} (h : WordsJ ws) : f_sReadJobs_run6 (z, 0, [], ws) = some (endL (finJ z) (exitL (gS ws) [] (List.range' 0 ws.length))) := by
  unfold f_sReadJobs_run6
  refine (iter_exitI (α := Unit) (step := fun x => f_sReadJobs_n6 x.1 x.2.1 x.2.2.1 x.2.2.2) ws.length (fun i l => (z, (i : Int), l, ws)) (gS ws) JobsI (finJ z) ?_ ?_ ws.length 0 FU (by omega) (FU_big (pow_big (by have := h.1; omega))) [] ⟨Nat.le_refl _, fun x hx => by cases hx⟩).1
  · intro i l hi hI
    refine ⟨?_, gS_I hI⟩
    have hl := h.1
    have hI1 := hI.1
    obtain ⟨p1, p2, p3, p4, p5⟩ := psOf_eq (h.2 _ (getD_mem' (d := (⟨#[]⟩ : ByteArray)) hi))
    generalize hw : ws.getD i (⟨#[]⟩ : ByteArray) = w at p1 p2 p3 p4 p5
    have hdl : ((psOf w).drop 1).length = (psOf w).length - 1 := List.length_drop ..
    show f_sReadJobs_n6 z i l ws = _
    unfold f_sReadJobs_n6 gS jobS
    rw [lt_true hi, inB_nat hi, toNat_nat, hw, p1]
    simp only [cond_true, Option.bind]
    rw [inB_of (show 0 ≤ (0 : Int) ∧ (0 : Int) < ((psOf w).length : Nat) by omega), cond_true, number_eq]
    dsimp only
    have e := sInner (z := z) (x1 := (i : Int)) (x7 := day31 (numB (hd0 w).data.toList).1) (ok := (numB (hd0 w).data.toList).2) (l := l) (ws := ws) (ps := psOf w) (by omega) (by omega) (by omega) ((psOf w).drop 1) 1 FU 0 rfl (by omega) (FU_big (pow_big (by omega)))
    refine Eq.trans e ?_
    have ei : (i : Int) + 1 = ((i + 1 : Nat) : Int) := by omega
    rw [ei]
    cases restO 0 ((psOf w).drop 1) with
    | none => rfl
    | some b =>
      dsimp only
      cases (numB (hd0 w).data.toList).2 <;> rfl
  · intro l hI
    have hl := h.1
    have hI1 := hI.1
    show f_sReadJobs_n6 z (ws.length : Nat) l ws = _
    unfold f_sReadJobs_n6 finJ
    rw [lt_neg, cond_false, sok_eq l (by omega)]
    simp only [Option.bind]
    cases hv : validB l
    · rfl
    · rw [sText_eq (days_of hI.2 hv)]
      dsimp only
      cases (textJ l).toList == z.toList <;> rfl
theorem iJobs {z : ByteArray} {ws : List ByteArray} (h : WordsJ ws) : f_iReadJobs_run5 (z, ((ws.length : Nat) : Int), 0, [], ws) = some (endL (finJ z) (exitL (gI ws) [] (List.range' 0 ws.length))) := by
  unfold f_iReadJobs_run5
  refine (iter_exitI (α := Unit) (step := fun x => f_iReadJobs_n5 x.1 x.2.1 x.2.2.1 x.2.2.2.1 x.2.2.2.2) ws.length (fun i l => (z, ((ws.length : Nat) : Int), (i : Int), l, ws)) (gI ws) JobsI (finJ z) ?_ ?_ ws.length 0 FU (by omega) (FU_big (pow_big (by have := h.1; omega))) [] ⟨Nat.le_refl _, fun x hx => by cases hx⟩).1
  · intro i l hi hI
    refine ⟨?_, gI_I hI⟩
    have hl := h.1
    have hI1 := hI.1
    obtain ⟨p1, p2, p3, p4, p5⟩ := psOf_eq (h.2 _ (getD_mem' (d := (⟨#[]⟩ : ByteArray)) hi))
    generalize hw : ws.getD i (⟨#[]⟩ : ByteArray) = w at p1 p2 p3 p4 p5
    have hd : hd0 w ∈ psOf w := getD_mem' (d := (⟨#[]⟩ : ByteArray)) (by omega)
    obtain ⟨v, b, e1, e2⟩ := read_is (s := hd0 w) (lo := 1) (hi := 30) (by have := p5 _ hd; omega) (by decide)
    have e1 : s_ireadDecimal ((psOf w).getD 0 (⟨#[]⟩ : ByteArray)) 1 30 = some (v, b) := e1
    have hs : inS 1 (((psOf w).length : Nat) : Int) (psOf w).length = true := by
      unfold inS
      simp only [Bool.and_eq_true, decide_eq_true_eq]
      omega
    have ht : List.drop 1 (List.take (Int.toNat (((psOf w).length : Nat) : Int)) (psOf w)) = (psOf w).drop 1 := by
      rw [toNat_nat, List.take_length]
    show f_iReadJobs_n5 z (ws.length : Nat) i l ws = _
    unfold f_iReadJobs_n5 gI jobI
    rw [lt_true hi, inB_nat hi, toNat_nat, hw, p2]
    simp only [cond_true, Option.bind]
    rw [inB_of (show 0 ≤ (0 : Int) ∧ (0 : Int) < ((psOf w).length : Nat) by omega), cond_true, e1]
    dsimp only
    rw [hs, cond_true, ht]
    have e := iInner (z := z) (x2 := ((ws.length : Nat) : Int)) (x3 := (i : Int)) (x7 := IntKind.wrap .i8 v) (l := l) (ws := ws) (ps := (psOf w).drop 1) (by omega) (by omega) (by simp; omega) (fun p hp => by have := p5 p (List.mem_of_mem_drop hp); omega) ((psOf w).drop 1) 0 FU b 0 rfl (by simp) (FU_big (pow_big (by simp; omega)))
    refine Eq.trans e ?_
    have ei : (i : Int) + 1 = ((i + 1 : Nat) : Int) := by omega
    rw [ei]
    cases restO 0 ((psOf w).drop 1) with
    | none => rfl
    | some c =>
      dsimp only
      cases hg : widG 1 30 (hd0 w) with
      | some d =>
        rw [hg] at e2
        obtain ⟨rfl, rfl⟩ := e2
        obtain ⟨⟨h1, h2, _⟩, _⟩ := widG_some (by decide) hg
        rw [IntWalk.i8_in (d : Int) (by omega)]
        rfl
      | none =>
        rw [hg] at e2
        obtain rfl := e2
        rfl
  · intro l hI
    have hl := h.1
    have hI1 := hI.1
    show f_iReadJobs_n5 z (ws.length : Nat) (ws.length : Nat) l ws = _
    unfold f_iReadJobs_n5 finJ
    rw [lt_neg, cond_false, iok_eq l (by omega)]
    simp only [Option.bind]
    cases hv : validB l
    · rfl
    · have ej : s_iJobsText l = some (textJ l) := by
        unfold s_iJobsText
        rw [iok_eq l (by omega), hv]
        exact iText_eq (days_of hI.2 hv)
      rw [ej]
      dsimp only
      cases (textJ l).toList == z.toList <;> rfl
theorem fin_len {z : ByteArray} {ws : List ByteArray} : ∀ (k i : Nat) (l : List Job), (endL (finJ z) (exitL (gI ws) l (List.range' i k))).1.length ≤ 12
  | 0, i, l => by
    show (finJ z l).1.length ≤ 12
    unfold finJ
    cases hv : validB l
    · exact Nat.zero_le _
    · rw [cond_true]
      cases (textJ l).toList == z.toList
      · exact Nat.zero_le _
      · exact (valid_ord hv).1
  | k + 1, i, l => by
    rw [List.range'_succ]
    unfold exitL
    cases hg : gI ws l i with
    | inl l' => exact fin_len k (i + 1) l'
    | inr r =>
      unfold gI jobI at hg
      split at hg
      · split at hg
        · cases hg
        · cases hg; exact Nat.zero_le _
      · cases hg; exact Nat.zero_le _
theorem empty_eq (z : ByteArray) : (z.toList == (⟨#[]⟩ : ByteArray).toList) = decide (z.size = 0) := by
  rw [Lib.toList_data, Lib.toList_data]
  have hz : z.data.toList.length = z.size := rfl
  by_cases h : z.size = 0
  · have : z.data.toList = [] := List.length_eq_zero_iff.1 (by omega)
    rw [this, decide_eq_true h]; rfl
  · rw [decide_eq_false h]
    cases hl : z.data.toList with
    | nil => rw [hl] at hz; simp at hz; omega
    | cons a l => rfl
theorem jobs_two {z : ByteArray} (hz : z.size ≤ 1048576) : ∃ v, s_sReadJobs z = some v ∧ s_iReadJobs z = some v ∧ v.1.length ≤ 12 := by
  unfold s_sReadJobs s_iReadJobs
  rw [empty_eq]
  by_cases h0 : z.size = 0
  · rw [decide_eq_true h0]
    exact ⟨_, rfl, rfl, Nat.zero_le _⟩
  · rw [decide_eq_false h0]
    obtain ⟨ws, e1, e2, e3⟩ := split_two (z := z) (y := 32) (by omega)
    have e1 : s_sl01Split z 32 = some ws := e1
    have hzl : z.data.toList.length = z.size := rfl
    obtain ⟨l1, l2⟩ := spl_len 32 z.data.toList
    have hw : WordsJ ws := by
      refine ⟨?_, fun w hw => ?_⟩
      · have : ws.length = (spl 32 z.data.toList).length := by rw [← e3, List.length_map]
        omega
      · have h1 : w.data.toList ∈ spl 32 z.data.toList := by rw [← e3]; exact List.mem_map.2 ⟨w, hw, rfl⟩
        have h2 := l2 _ h1
        have h3 : w.data.toList.length = w.size := rfl
        omega
    rw [e1, e2]
    refine ⟨_, ?_, iJobs hw, fin_len _ _ _⟩
    have e := sJobs (z := z) hw
    rw [two_runs] at e
    exact e
theorem law_ReadJobs {z : ByteArray} (hlm : z.size ≤ maxLen) : s_wFnExactReadJobs z = some true := by
  unfold s_wFnExactReadJobs
  by_cases hz : ((z.size : Nat) : Int) > 1048576
  · rw [decide_eq_true hz]; rfl
  rw [decide_eq_false hz, cond_false]
  obtain ⟨v, e1, e2, hl⟩ := jobs_two (z := z) (by omega)
  have nn : ∀ x : Int, (x != x) = false := fun x => by simp
  have e3 := eqJobs (l := v.1) (by omega)
  have e7 : decide (((1 + 2 * v.1.length : Nat) : Int) < 0) = false := decide_eq_false (by omega)
  simp only [Option.bind, e1, e2, e3, markJobs_eq (l := v.1) (by omega), heldJobs_eq v.1.length (by omega), e7, nn, Bool.not_true, cond_false]
end Go.RR
