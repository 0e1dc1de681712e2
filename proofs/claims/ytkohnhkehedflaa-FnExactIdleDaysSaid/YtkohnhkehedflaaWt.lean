/- Plain facts of slots and plans; the plain law of IdleDays. -/
import Derived.Test.YtkohnhkehedflaaWk
import Derived.Test.YtkohnhkehedflaaVt
set_option linter.unusedVariables false
set_option linter.unusedSimpArgs false
namespace Go.RR
open Go

abbrev Slot := Int × Int
abbrev SlotsOK (l : List Slot) : Prop := ∀ x ∈ l, (-128 ≤ x.1 ∧ x.1 ≤ 127) ∧ (-32768 ≤ x.2 ∧ x.2 ≤ 32767)
theorem toSlots {l : List Slot} (hl : l.length ≤ 2000000) : s_wtoSlotS l = some l := by
  unfold s_wtoSlotS
  rw [mk_ok _ _ (by omega), cond_true, toNat_nat]
  unfold f_wtoSlotS_run3
  have key := run_count (step := fun x => f_wtoSlotS_n3 x.1 x.2.1 x.2.2) (τ := Unit) l.length (fun i _ => ((i : Int), l, l.take i ++ (List.replicate l.length (0, 0)).drop i)) (fun _ _ => ()) l () (by omega) ?_ ?_
  · exact key
  · intro i _ hi
    show f_wtoSlotS_n3 i l (l.take i ++ (List.replicate l.length (0, 0)).drop i) = _
    unfold f_wtoSlotS_n3
    have hlen : (l.take i ++ (List.replicate l.length ((0, 0) : Slot)).drop i).length = l.length := by simp; omega
    rw [hlen, lt_true hi, inB_nat hi, toNat_nat, succ64 (by omega)]
    simp only [cond_true]
    have hx : l[i]? = some ((s_wtoSlot (l.getD i (0, 0)).1 (l.getD i (0, 0)).2).1, (s_wtoSlot (l.getD i (0, 0)).1 (l.getD i (0, 0)).2).2) := by
      show l[i]? = some (l.getD i (0, 0))
      rw [List.getD_eq_getElem?_getD, List.getElem?_eq_getElem hi]; rfl
    rw [set_copy (by simp) hx]
  · show f_wtoSlotS_n3 (l.length : Nat) l (l.take l.length ++ (List.replicate l.length (0, 0)).drop l.length) = _
    unfold f_wtoSlotS_n3
    rw [lt_neg, cond_false, List.take_length, List.drop_eq_nil_of_le (by simp), List.append_nil]
theorem eqSlots {l : List Slot} (hl : l.length ≤ 100000000) : s_weqSlotS l l = some true := by
  unfold s_weqSlotS
  have : (((List.length l : Nat) : Int) != ((List.length l : Nat) : Int)) = false := by simp
  rw [this, cond_false]
  unfold f_weqSlotS_run4
  have h := run_all (step := fun x => f_weqSlotS_n4 x.1 x.2.1 x.2.2) l.length (fun i => ((i : Int), l, l)) (fun i => true) true false (by omega) ?_ ?_
  · exact h.trans (by simp)
  · intro i hi
    show f_weqSlotS_n4 i l l = _
    unfold f_weqSlotS_n4 s_weqSlot
    rw [lt_true hi, inB_nat hi, toNat_nat, succ64 (by omega)]
    have a : ((l.getD i (0, 0)).1 != (l.getD i (0, 0)).1) = false := by simp
    have b : ((l.getD i (0, 0)).2 != (l.getD i (0, 0)).2) = false := by simp
    rw [a, b]; rfl
  · show f_weqSlotS_n4 (l.length : Nat) l l = _
    unfold f_weqSlotS_n4
    rw [lt_neg, cond_false]
theorem szBoth {l : List Job} {p : List Slot} (hl : l.length ≤ maxLen) (hp : p.length ≤ maxLen) : (decide (s_wszJobS l 1048576 < 0) = true) ∨ (decide (s_wszJobS l 1048576 < 0) = false ∧ decide (s_wszSlotS p (s_wszJobS l 1048576) < 0) = true) ∨ (l.length ≤ 1048576 ∧ p.length ≤ 1048576 ∧ decide (s_wszJobS l 1048576 < 0) = false ∧ decide (s_wszSlotS p (s_wszJobS l 1048576) < 0) = false) := by
  simp only [maxLen] at hl hp
  unfold s_wszJobS
  rw [IntWalk.i64_in (1048576 - ((l.length : Nat) : Int)) (by omega)]
  by_cases h : 1048576 < l.length
  · left
    rw [decide_eq_true (show 1048576 - ((l.length : Nat) : Int) < 0 by omega)]
    rfl
  · right
    rw [decide_eq_false (show ¬ 1048576 - ((l.length : Nat) : Int) < 0 by omega), cond_false]
    rw [decide_eq_false (show ¬ 1048576 - ((l.length : Nat) : Int) < 0 by omega)]
    unfold s_wszSlotS
    rw [IntWalk.i64_in (1048576 - ((l.length : Nat) : Int) - ((p.length : Nat) : Int)) (by omega)]
    by_cases h2 : 1048576 - ((l.length : Nat) : Int) - ((p.length : Nat) : Int) < 0
    · left
      rw [decide_eq_true h2]
      exact ⟨rfl, rfl⟩
    · right
      rw [decide_eq_false h2, cond_false]
      exact ⟨by omega, by omega, rfl, decide_eq_false h2⟩

theorem hands_in1 {h : Int} (hh : s_sl07Hands h = true) : 1 ≤ h ∧ h ≤ 4 := by
  unfold s_sl07Hands s_sl00In at hh
  cases h1 : decide (h ≥ 1)
  · rw [h1] at hh; cases hh
  · rw [h1] at hh
    have a := of_decide_eq_true h1
    have b := of_decide_eq_true hh
    omega
/-! ### faults -/
noncomputable def doneB (l : List Job) (p : List Slot) (k : Nat) : Int := IntKind.wrap .i64 (IntKind.wrap .i64 (p.getD k (0, 0)).2 + IntKind.wrap .i64 (l.getD k (0, 0)).1)
noncomputable def badB (h : Int) (l : List Job) (p : List Slot) (i k : Nat) : Bool :=
  cond (!(s_sl07Slot h (p.getD k (0, 0)).1 (p.getD k (0, 0)).2)) false
    (cond (cond (waitsB l i k) (decide (IntKind.wrap .i64 (p.getD i (0, 0)).2 < doneB l p k)) false) true
      (cond (decide ((k : Int) < (i : Int))) (cond ((p.getD k (0, 0)).1 == (p.getD i (0, 0)).1) (cond (decide (IntKind.wrap .i64 (p.getD i (0, 0)).2 < doneB l p k)) (decide (IntKind.wrap .i64 (p.getD k (0, 0)).2 < doneB l p i)) false) false) false))
noncomputable def faultB (h : Int) (l : List Job) (p : List Slot) (i : Nat) : Bool :=
  cond (!(s_sl07Slot h (p.getD i (0, 0)).1 (p.getD i (0, 0)).2)) true (!((List.range' 0 l.length).all fun k => !(badB h l p i k)))
noncomputable def faultI (h : Int) (l : List Job) (p : List Slot) : Int := match (List.range' 0 l.length).find? (faultB h l p) with
  | some j => (j : Int)
  | none => -1
theorem sdone_eq {l : List Job} {p : List Slot} {k : Nat} (hk : k < l.length) (hk2 : k < p.length) : s_sl07Done l p k = some (doneB l p k) := by
  unfold s_sl07Done
  rw [inB_nat hk, inB_nat hk2, toNat_nat]; rfl
theorem sfault_inner {h : Int} {l : List Job} {p : List Slot} (hj : JobsOK l) (hn : l.length ≤ 12) (hp : p.length = l.length) {i : Nat} (hi : i < l.length) :
    f_sl07Fault_run7 (h, (i : Int), 0, l, p) = some (cond ((List.range' 0 l.length).all fun k => !(badB h l p i k)) (Sum.inl (h, ((i + 1 : Nat) : Int), l, p)) (Sum.inr (i : Int))) := by
  unfold f_sl07Fault_run7
  refine run_all (step := fun x => f_sl07Fault_n7 x.1 x.2.1 x.2.2.1 x.2.2.2.1 x.2.2.2.2) l.length (fun k => (h, (i : Int), (k : Int), l, p)) (fun k => !(badB h l p i k)) _ _ (by omega) ?_ ?_
  · intro k hk
    show f_sl07Fault_n7 h i k l p = _
    unfold f_sl07Fault_n7
    rw [lt_true hk, inB_nat (show k < p.length by omega), inB_nat (show i < p.length by omega), swaits_eq hj hi (by omega), sdone_eq hk (by omega), sdone_eq hi (by omega), toNat_nat, toNat_nat, succ64 (by omega)]
    unfold badB
    simp only [cond_true, Option.bind]
    cases s_sl07Slot h (p.getD k (0, 0)).1 (p.getD k (0, 0)).2
    · rfl
    · cases waitsB l i k <;> cases decide (IntKind.wrap .i64 (p.getD i (0, 0)).2 < doneB l p k) <;> cases decide ((k : Int) < (i : Int)) <;> cases ((p.getD k (0, 0)).1 == (p.getD i (0, 0)).1) <;> cases decide (IntKind.wrap .i64 (p.getD k (0, 0)).2 < doneB l p i) <;> rfl
  · show f_sl07Fault_n7 h i (l.length : Nat) l p = _
    unfold f_sl07Fault_n7
    rw [lt_neg, cond_false, succ64 (by omega)]
theorem sfault_eq {h : Int} {l : List Job} {p : List Slot} (hj : JobsOK l) (hn : l.length ≤ 12) (hp : p.length = l.length) : s_sl07Fault l h p = some (faultI h l p) := by
  unfold s_sl07Fault f_sl07Fault_run2
  have hs1 : ∀ i, i < l.length → f_sl07Fault_n2 h i l p = some (cond (faultB h l p i) (Sum.inr (i : Int)) (Sum.inl (h, ((i + 1 : Nat) : Int), l, p))) := by
    intro i hi
    unfold f_sl07Fault_n2
    rw [lt_true hi, inB_nat (show i < p.length by omega), toNat_nat, sfault_inner hj hn hp hi]
    unfold faultB
    cases s_sl07Slot h (p.getD i (0, 0)).1 (p.getD i (0, 0)).2
    · rfl
    · cases (List.range' 0 l.length).all fun k => !(badB h l p i k) <;> rfl
  have he1 : f_sl07Fault_n2 h (l.length : Nat) l p = some (Sum.inr (-1)) := by
    unfold f_sl07Fault_n2
    rw [lt_neg, cond_false]
  obtain ⟨r, h1, _, h3⟩ := run_idx (step := fun x => f_sl07Fault_n2 x.1 x.2.1 x.2.2.1 x.2.2.2) l.length (fun i => (h, (i : Int), l, p)) (faultB h l p) hs1 he1 l.length 0 FU (by omega) (FU_big (pow_big (by omega)))
  have h1 : iter (fun x => f_sl07Fault_n2 x.1 x.2.1 x.2.2.1 x.2.2.2) FU (h, 0, l, p) = some r := h1
  rw [h1, h3]; rfl
theorem iwrong_1_eq {h : Int} {l : List Job} {p : List Slot} (hj : JobsOK l) (hn : l.length ≤ 12) (hp : p.length = l.length) {i : Nat} (hi : i < l.length) : s_iwrong_1 i p h l = some (faultB h l p i) := by
  unfold s_iwrong_1
  rw [inB_nat (show i < p.length by omega), toNat_nat, cond_true]
  have es : ∀ x y : Int, s_iisSlot x y h = s_sl07Slot h x y := fun x y => rfl
  rw [es]
  have key : f_iwrong_1_run5 ((i : Int), ((p.length : Nat) : Int), 0, h, l, (p.getD i (0, 0)).1, (p.getD i (0, 0)).2, p) = some (cond ((List.range' 0 p.length).all fun k => !(badB h l p i k)) false true) := by
    unfold f_iwrong_1_run5
    refine run_all (step := fun x => f_iwrong_1_n5 x.1 x.2.1 x.2.2.1 x.2.2.2.1 x.2.2.2.2.1 x.2.2.2.2.2.1 x.2.2.2.2.2.2.1 x.2.2.2.2.2.2.2) p.length (fun k => ((i : Int), ((p.length : Nat) : Int), (k : Int), h, l, (p.getD i (0, 0)).1, (p.getD i (0, 0)).2, p)) (fun k => !(badB h l p i k)) _ _ (by omega) ?_ ?_
    · intro k hk
      show f_iwrong_1_n5 i (p.length : Nat) k h l (p.getD i (0, 0)).1 (p.getD i (0, 0)).2 p = _
      unfold f_iwrong_1_n5
      rw [lt_true hk, inB_nat hk, inB_nat hi, inB_nat (show k < l.length by omega), toNat_nat, toNat_nat, iwaits_eq hj hi, es, succ64 (by omega)]
      have e1 : s_idone (l.getD k (0, 0)).1 (l.getD k (0, 0)).2 (p.getD k (0, 0)).1 (p.getD k (0, 0)).2 = doneB l p k := rfl
      have e2 : s_idone (l.getD i (0, 0)).1 (l.getD i (0, 0)).2 (p.getD i (0, 0)).1 (p.getD i (0, 0)).2 = doneB l p i := rfl
      rw [e1, e2]
      unfold badB
      simp only [cond_true, Option.bind]
      cases s_sl07Slot h (p.getD k (0, 0)).1 (p.getD k (0, 0)).2
      · rfl
      · cases waitsB l i k <;> cases decide (IntKind.wrap .i64 (p.getD i (0, 0)).2 < doneB l p k) <;> cases decide ((k : Int) < (i : Int)) <;> cases ((p.getD k (0, 0)).1 == (p.getD i (0, 0)).1) <;> cases decide (IntKind.wrap .i64 (p.getD k (0, 0)).2 < doneB l p i) <;> rfl
    · show f_iwrong_1_n5 i (p.length : Nat) (p.length : Nat) h l (p.getD i (0, 0)).1 (p.getD i (0, 0)).2 p = _
      unfold f_iwrong_1_n5
      rw [lt_neg, cond_false]
  rw [key, hp]
  unfold faultB
  cases s_sl07Slot h (p.getD i (0, 0)).1 (p.getD i (0, 0)).2
  · rfl
  · cases (List.range' 0 l.length).all fun k => !(badB h l p i k) <;> rfl
theorem iwrong_eq {h : Int} {l : List Job} {p : List Slot} (hj : JobsOK l) (hn : l.length ≤ 12) (hp : p.length = l.length) : s_iwrong l h p = some (faultI h l p) := by
  unfold s_iwrong
  rw [indices_eq hn]
  simp only [Option.bind]
  unfold s_gIndexFunc_int_b f_gIndexFunc_int_b_run2
  have hlen : ((List.range' 0 l.length).map fun i : Nat => (i : Int)).length = l.length := by simp
  rw [hlen]
  have hs1 : ∀ i, i < l.length → f_gIndexFunc_int_b_n2 (l.length : Nat) i ((List.range' 0 l.length).map fun i : Nat => (i : Int)) p h l = some (cond (faultB h l p i) (Sum.inr (i : Int)) (Sum.inl (((l.length : Nat) : Int), ((i + 1 : Nat) : Int), (List.range' 0 l.length).map (fun i : Nat => (i : Int)), p, h, l))) := by
    intro i hi
    unfold f_gIndexFunc_int_b_n2
    have hg : ((List.range' 0 l.length).map fun i : Nat => (i : Int)).getD i 0 = (i : Int) := by
      rw [List.getD_eq_getElem?_getD, List.getElem?_map, List.getElem?_range' hi]
      simp
    rw [hlen, lt_true hi, inB_nat hi, toNat_nat, hg, iwrong_1_eq hj hn hp hi, succ64 (by omega)]
    simp only [cond_true, Option.bind]
    cases faultB h l p i <;> rfl
  have he1 : f_gIndexFunc_int_b_n2 (l.length : Nat) (l.length : Nat) ((List.range' 0 l.length).map fun i : Nat => (i : Int)) p h l = some (Sum.inr (-1)) := by
    unfold f_gIndexFunc_int_b_n2
    rw [lt_neg, cond_false]
  obtain ⟨r, h1, _, h3⟩ := run_idx (step := fun x => f_gIndexFunc_int_b_n2 x.1 x.2.1 x.2.2.1 x.2.2.2.1 x.2.2.2.2.1 x.2.2.2.2.2) l.length (fun i => (((l.length : Nat) : Int), (i : Int), (List.range' 0 l.length).map (fun i : Nat => (i : Int)), p, h, l)) (faultB h l p) hs1 he1 l.length 0 FU (by omega) (FU_big (pow_big (by omega)))
  have h1 : iter (fun x => f_gIndexFunc_int_b_n2 x.1 x.2.1 x.2.2.1 x.2.2.2.1 x.2.2.2.2.1 x.2.2.2.2.2) FU (((l.length : Nat) : Int), 0, (List.range' 0 l.length).map (fun i : Nat => (i : Int)), p, h, l) = some r := h1
  rw [h1, h3]; rfl

/-! ### valid plans -/
theorem len_beq (a b : Nat) : (((a : Nat) : Int) == ((b : Nat) : Int)) = decide (a = b) := by
  by_cases h : a = b
  · subst h; simp
  · rw [decide_eq_false h]
    exact beq_eq_false_iff_ne.2 (by omega)
theorem len_bne (a b : Nat) : (((a : Nat) : Int) != ((b : Nat) : Int)) = !decide (a = b) := by
  rw [← len_beq]; rfl
noncomputable def planB (h : Int) (l : List Job) (p : List Slot) : Bool := decide (p.length = l.length) && decide (faultI h l p < 0)
noncomputable def slotsB (h : Int) (l : List Job) (p : List Slot) : Bool := validB l && (s_sl07Hands h && planB h l p)
theorem splan_eq {h : Int} {l : List Job} {p : List Slot} (hj : JobsOK l) (hn : l.length ≤ 12) : s_sl07Plan l h p = some (planB h l p) := by
  unfold s_sl07Plan planB
  rw [len_beq]
  by_cases hp : p.length = l.length
  · rw [decide_eq_true hp, sfault_eq hj hn hp]; rfl
  · rw [decide_eq_false hp]; rfl
theorem ivalid_eq {h : Int} {l : List Job} {p : List Slot} (hj : JobsOK l) (hl : l.length ≤ 100000000) : s_iValidSlots l h p = some (slotsB h l p) := by
  unfold s_iValidSlots slotsB
  have eh : s_iisHands h = s_sl07Hands h := rfl
  rw [iok_eq l hl, len_beq, eh]
  cases hv : validB l
  · rfl
  · obtain ⟨hn, _⟩ := valid_ord hv
    unfold planB
    by_cases hp : p.length = l.length
    · rw [decide_eq_true hp, iwrong_eq hj hn hp]
      cases s_sl07Hands h <;> rfl
    · rw [decide_eq_false hp]
      cases s_sl07Hands h <;> rfl
noncomputable def codeP (h : Int) (l : List Job) (p : List Slot) : Int := cond (!(validB l)) 1 (cond (!(s_sl07Hands h)) 2 (cond (!(planB h l p)) 1 0))
theorem splanned_eq {h : Int} {l : List Job} {p : List Slot} (hj : JobsOK l) (hl : l.length ≤ 100000000) : s_sl07Planned l h p = some (codeP h l p) := by
  unfold s_sl07Planned codeP
  rw [sok_eq l hl]
  cases hv : validB l
  · rfl
  · obtain ⟨hn, _⟩ := valid_ord hv
    rw [splan_eq hj hn]
    cases s_sl07Hands h
    · rfl
    · cases planB h l p <;> rfl
theorem icode_eq {h : Int} {l : List Job} {p : List Slot} (hj : JobsOK l) (hl : l.length ≤ 100000000) : s_iplanCode l h p = some (codeP h l p) := by
  unfold s_iplanCode codeP
  have eh : s_iisHands h = s_sl07Hands h := rfl
  rw [iok_eq l hl, eh, ivalid_eq hj hl]
  unfold slotsB
  cases hv : validB l
  · cases s_sl07Hands h <;> rfl
  · cases s_sl07Hands h
    · rfl
    · cases planB h l p <;> rfl
theorem codeP_ok {h : Int} {l : List Job} {p : List Slot} (hc : codeP h l p = 0) : validB l = true ∧ s_sl07Hands h = true ∧ p.length = l.length ∧ l.length ≤ 12 := by
  unfold codeP at hc
  cases hv : validB l
  · rw [hv] at hc; cases hc
  · obtain ⟨hn, _⟩ := valid_ord hv
    rw [hv] at hc
    cases hh : s_sl07Hands h
    · rw [hh] at hc; cases hc
    · rw [hh] at hc
      cases hp : planB h l p
      · rw [hp] at hc; cases hc
      · unfold planB at hp
        simp only [Bool.and_eq_true, decide_eq_true_eq] at hp
        exact ⟨rfl, rfl, hp.1, hn⟩
/-! ### the length of a plan -/
noncomputable def lenB (l : List Job) (p : List Slot) : Int := (List.range' 0 l.length).foldl (fun (m : Int) k => max m (doneB l p k)) 0
theorem slen_eq {l : List Job} {p : List Slot} (hn : l.length ≤ 12) (hp : p.length = l.length) : s_sl07Length l p = some (lenB l p) := by
  unfold s_sl07Length f_sl07Length_run3
  refine run_count (step := fun x => f_sl07Length_n3 x.1 x.2.1 x.2.2.1 x.2.2.2) l.length (fun i (m : Int) => (m, (i : Int), l, p)) (fun m k => max m (doneB l p k)) _ 0 (by omega) ?_ ?_
  · intro i m hi
    show f_sl07Length_n3 m i l p = _
    unfold f_sl07Length_n3
    rw [lt_true hi, sdone_eq hi (by omega), succ64 (by omega), cond_true]
    simp only [Option.bind, max_eq]
  · show f_sl07Length_n3 _ (l.length : Nat) l p = _
    unfold f_sl07Length_n3
    rw [lt_neg, cond_false]; rfl
theorem ilen_eq {l : List Job} {p : List Slot} (hn : l.length ≤ 12) (hp : p.length = l.length) : s_ilengthOf l p = some (lenB l p) := by
  unfold s_ilengthOf f_ilengthOf_run3
  refine run_count (step := fun x => f_ilengthOf_n3 x.1 x.2.1 x.2.2.1 x.2.2.2.1 x.2.2.2.2) l.length (fun i (m : Int) => (m, ((l.length : Nat) : Int), (i : Int), p, l)) (fun m k => max m (doneB l p k)) _ 0 (by omega) ?_ ?_
  · intro i m hi
    show f_ilengthOf_n3 m (l.length : Nat) i p l = _
    unfold f_ilengthOf_n3
    rw [lt_true hi, inB_nat hi, inB_nat (show i < p.length by omega), toNat_nat, succ64 (by omega)]
    rfl
  · show f_ilengthOf_n3 _ (l.length : Nat) (l.length : Nat) p l = _
    unfold f_ilengthOf_n3
    rw [lt_neg, cond_false]; rfl
/-! ### marks -/
theorem markSlots {l : List Slot} {a : Int} {s : Nat} (hs : s ≤ 2000000 + 1) (ha : a = ((1 + 2 * s : Nat) : Int)) (hl : l.length ≤ 2000000) : ∃ v, s_wmarkSlotS l a = some v ∧ decide (v.1 < 0) = false := by
  subst ha
  unfold s_wmarkSlotS f_wmarkSlotS_run2
  let g : List Slot → Nat → List Slot := fun x2 i => (List.set (List.set x2 i ((IntKind.wrap .i8 ((1 + 2 * (s + i) : Nat) : Int)), (List.getD x2 i (0, 0)).2)) i ((List.getD (List.set x2 i ((IntKind.wrap .i8 ((1 + 2 * (s + i) : Nat) : Int)), (List.getD x2 i (0, 0)).2)) i (0, 0)).1, (IntKind.wrap .i16 (IntKind.wrap .i64 (((1 + 2 * (s + i) : Nat) : Int) + 1)))))
  refine ⟨(((1 + 2 * (s + l.length) : Nat) : Int), (List.range' 0 l.length).foldl g l), ?_, decide_eq_false (by show ¬ ((1 + 2 * (s + l.length) : Nat) : Int) < 0; omega)⟩
  refine run_countI l.length (fun i (st : List Slot) => (((1 + 2 * (s + i) : Nat) : Int), (i : Int), st)) g (fun _ st => st.length = l.length) _ l (by omega) rfl ?_ ?_
  · intro i st hi hI
    constructor
    · show f_wmarkSlotS_n2 ((1 + 2 * (s + i) : Nat) : Int) i st = _
      unfold f_wmarkSlotS_n2
      rw [List.length_set, hI, lt_true hi, inB_nat hi, toNat_nat, succ64 (i := i) (by omega)]
      have e : IntKind.wrap .i64 (IntKind.wrap .i64 (((1 + 2 * (s + i) : Nat) : Int) + 1) + 1) = ((1 + 2 * (s + (i + 1)) : Nat) : Int) := by
        rw [IntWalk.i64_in (((1 + 2 * (s + i) : Nat) : Int) + 1) (by omega), IntWalk.i64_in _ (by omega)]; omega
      rw [e]
      rfl
    · show (g st i).length = l.length
      simp only [g, List.length_set, hI]
  · intro hI
    unfold f_wmarkSlotS_n2
    have hI : ((List.range' 0 l.length).foldl g l).length = l.length := hI
    rw [hI, lt_neg, cond_false]
theorem markJobs1 {l : List Job} (hl : l.length ≤ 2000000) : ∃ v, s_wmarkJobS l 1 = some v ∧ v.1 = ((1 + 2 * l.length : Nat) : Int) := by
  unfold s_wmarkJobS f_wmarkJobS_run2
  let g : List Job → Nat → List Job := fun x2 i => (List.set (List.set x2 i ((IntKind.wrap .i8 ((1 + 2 * i : Nat) : Int)), (List.getD x2 i (0, 0)).2)) i ((List.getD (List.set x2 i ((IntKind.wrap .i8 ((1 + 2 * i : Nat) : Int)), (List.getD x2 i (0, 0)).2)) i (0, 0)).1, (IntKind.wrap .u16 (IntKind.wrap .i64 (((1 + 2 * i : Nat) : Int) + 1)))))
  refine ⟨(((1 + 2 * l.length : Nat) : Int), (List.range' 0 l.length).foldl g l), ?_, rfl⟩
  refine run_countI l.length (fun i (st : List Job) => (((1 + 2 * i : Nat) : Int), (i : Int), st)) g (fun _ st => st.length = l.length) _ l (by omega) rfl ?_ ?_
  · intro i st hi hI
    constructor
    · show f_wmarkJobS_n2 ((1 + 2 * i : Nat) : Int) i st = _
      unfold f_wmarkJobS_n2
      rw [List.length_set, hI, lt_true hi, inB_nat hi, toNat_nat, succ64 (i := i) (by omega)]
      have e : IntKind.wrap .i64 (IntKind.wrap .i64 (((1 + 2 * i : Nat) : Int) + 1) + 1) = ((1 + 2 * (i + 1) : Nat) : Int) := by
        rw [IntWalk.i64_in (((1 + 2 * i : Nat) : Int) + 1) (by omega), IntWalk.i64_in _ (by omega)]; omega
      rw [e]
      rfl
    · show (g st i).length = l.length
      simp only [g, List.length_set, hI]
  · intro hI
    unfold f_wmarkJobS_n2
    have hI : ((List.range' 0 l.length).foldl g l).length = l.length := hI
    rw [hI, lt_neg, cond_false]
/-! ### idle days -/
theorem hand_ok {l : List Job} {h : Int} {p : List Slot} (hs : SlotsOK p) (hc : codeP h l p = 0) : ∀ i, i < l.length → ∃ k : Nat, (p.getD i (0, 0)).1 = (k : Int) ∧ k < h.toNat := by
  intro i hi
  obtain ⟨_, hh, hpl, hn⟩ := codeP_ok hc
  have h1 := hands_in1 hh
  unfold codeP at hc
  cases hv : validB l with
  | false => rw [hv] at hc; cases hc
  | true =>
    rw [hv, hh] at hc
    cases hp : planB h l p with
    | false => rw [hp] at hc; cases hc
    | true =>
      unfold planB at hp
      obtain ⟨_, hf⟩ := Bool.and_eq_true_iff.1 hp
      have hf := of_decide_eq_true hf
      unfold faultI at hf
      cases hq : (List.range' 0 l.length).find? (faultB h l p) with
      | some j => rw [hq] at hf; exact absurd hf (by show ¬ ((j : Nat) : Int) < 0; omega)
      | none =>
        have := List.find?_eq_none.1 hq i (List.mem_range'_1.2 ⟨Nat.zero_le _, by omega⟩)
        unfold faultB at this
        have q1 := hs _ (getD_mem' (d := ((0, 0) : Slot)) (show i < p.length by omega))
        cases hsl : s_sl07Slot h (p.getD i (0, 0)).1 (p.getD i (0, 0)).2 with
        | false => rw [hsl] at this; exact absurd rfl this
        | true =>
          unfold s_sl07Slot at hsl
          cases h0 : s_sl00In (IntKind.wrap .i64 (p.getD i (0, 0)).1) 0 (IntKind.wrap .i64 (h - 1)) with
          | false => rw [h0] at hsl; cases hsl
          | true =>
            unfold s_sl00In at h0
            rw [IntWalk.i64_in (p.getD i (0, 0)).1 (by omega), IntWalk.i64_in (h - 1) (by omega)] at h0
            by_cases a : (p.getD i (0, 0)).1 ≥ 0
            · rw [decide_eq_true a, cond_true] at h0
              have b := of_decide_eq_true h0
              exact ⟨(p.getD i (0, 0)).1.toNat, by omega, by omega⟩
            · rw [decide_eq_false a] at h0; cases h0
noncomputable def idleS (l : List Job) (p : List Slot) (st : List Int) (i : Nat) : List Int := st.set (p.getD i (0, 0)).1.toNat (IntKind.wrap .i64 (st.getD (p.getD i (0, 0)).1.toNat 0 - IntKind.wrap .i64 (l.getD i (0, 0)).1))
theorem idleS_len {l : List Job} {p : List Slot} {st : List Int} {i : Nat} : (idleS l p st i).length = st.length := by unfold idleS; simp
noncomputable def idleL (l : List Job) (p : List Slot) (h : Int) : List Int := (List.range' 0 l.length).foldl (idleS l p) (List.replicate h.toNat (lenB l p))
theorem foldI_len {l : List Job} {p : List Slot} : ∀ (ks : List Nat) (st : List Int), (ks.foldl (idleS l p) st).length = st.length
  | [], st => rfl
  | k :: ks, st => by rw [List.foldl_cons, foldI_len ks, idleS_len]
theorem idle_len {l : List Job} {p : List Slot} {h : Int} : (idleL l p h).length = h.toNat := by unfold idleL; rw [foldI_len]; simp
section
variable {l : List Job} {h : Int} {p : List Slot} (hn : l.length ≤ 12) (hp : p.length = l.length) (hh : ∀ i, i < l.length → ∃ k : Nat, (p.getD i (0, 0)).1 = (k : Int) ∧ k < h.toNat)
include hn hp hh
theorem sidle_sub : f_sIdleDays_run10 (0, l, p, List.replicate h.toNat (lenB l p)) = some (idleL l p h, 0) := by
  unfold f_sIdleDays_run10
  refine run_countI (step := fun x => f_sIdleDays_n10 x.1 x.2.1 x.2.2.1 x.2.2.2) l.length (fun i (st : List Int) => ((i : Int), l, p, st)) (idleS l p) (fun _ st => st.length = h.toNat) _ (List.replicate h.toNat (lenB l p)) (by omega) (by simp) ?_ ?_
  · intro i st hi hI
    refine ⟨?_, by rw [idleS_len]; exact hI⟩
    obtain ⟨k, hk, hk2⟩ := hh i hi
    show f_sIdleDays_n10 i l p st = _
    unfold f_sIdleDays_n10 idleS
    rw [lt_true hi, inB_nat (show i < p.length by omega), toNat_nat, hk, inB_nat (show k < st.length by omega), inB_nat hi, succ64 (by omega)]
    rfl
  · intro _
    show f_sIdleDays_n10 (l.length : Nat) l p (idleL l p h) = _
    unfold f_sIdleDays_n10
    rw [lt_neg, cond_false]
theorem iidle_sub : f_iIdleDays_run6 (((l.length : Nat) : Int), 0, p, List.replicate h.toNat (lenB l p), l) = some (idleL l p h, 0) := by
  unfold f_iIdleDays_run6
  refine run_countI (step := fun x => f_iIdleDays_n6 x.1 x.2.1 x.2.2.1 x.2.2.2.1 x.2.2.2.2) l.length (fun i (st : List Int) => (((l.length : Nat) : Int), (i : Int), p, st, l)) (idleS l p) (fun _ st => st.length = h.toNat) _ (List.replicate h.toNat (lenB l p)) (by omega) (by simp) ?_ ?_
  · intro i st hi hI
    refine ⟨?_, by rw [idleS_len]; exact hI⟩
    obtain ⟨k, hk, hk2⟩ := hh i hi
    show f_iIdleDays_n6 (l.length : Nat) i p st l = _
    unfold f_iIdleDays_n6 idleS
    rw [lt_true hi, inB_nat (show i < p.length by omega), toNat_nat, hk, inB_nat (show k < st.length by omega), inB_nat hi, succ64 (by omega)]
    rfl
  · intro _
    show f_iIdleDays_n6 (l.length : Nat) (l.length : Nat) p (idleL l p h) l = _
    unfold f_iIdleDays_n6
    rw [lt_neg, cond_false]
theorem sidle_run (h4 : 1 ≤ h ∧ h ≤ 4) : f_sIdleDays_run6 (h, 0, l, p, []) = some (idleL l p h, 0) := by
  unfold f_sIdleDays_run6
  have hz : h = ((h.toNat : Nat) : Int) := by omega
  refine run_countI (step := fun x => f_sIdleDays_n6 x.1 x.2.1 x.2.2.1 x.2.2.2.1 x.2.2.2.2) h.toNat (fun i (st : List Int) => (h, (i : Int), l, p, st)) (fun st _ => st ++ [lenB l p]) (fun i st => st = List.replicate i (lenB l p)) _ [] (by omega) rfl ?_ ?_
  · intro i st hi hI
    subst hI
    refine ⟨?_, by rw [← List.replicate_succ']⟩
    show f_sIdleDays_n6 h i l p _ = _
    unfold f_sIdleDays_n6
    rw [decide_eq_true (show (i : Int) < h by omega), slen_eq hn hp]
    simp only [Option.bind, cond_true]
    rw [fits_small (by simp; omega), succ64 (by omega)]
    rfl
  · intro hI
    rw [hI]
    show f_sIdleDays_n6 h (h.toNat : Nat) l p _ = _
    unfold f_sIdleDays_n6
    rw [decide_eq_false (by omega), sidle_sub hn hp hh]
    rfl
end
theorem law_IdleDays {l : List Job} {h : Int} {p : List Slot} (hlm : l.length ≤ maxLen) (hj : ∀ x ∈ l, (-128 ≤ x.1 ∧ x.1 ≤ 127) ∧ (0 ≤ x.2 ∧ x.2 ≤ 65535)) (hh : IntKind.i64.min ≤ h ∧ h ≤ IntKind.i64.max) (hpm : p.length ≤ maxLen) (hp : SlotsOK p) : s_wFnExactIdleDays l h p = some true := by
  unfold s_wFnExactIdleDays
  rcases szBoth hlm hpm with q | ⟨q1, q2⟩ | ⟨h1, h2, q1, q2⟩
  · rw [q]; rfl
  · rw [q1, q2]; rfl
  have key : ∃ v : List Int × Int, s_sIdleDays l h p = some v ∧ s_iIdleDays l h p = some v ∧ v.1.length ≤ 1000 := by
    unfold s_sIdleDays s_iIdleDays
    rw [splanned_eq hj (by omega), icode_eq hj (by omega)]
    by_cases hc : codeP h l p = 0
    · obtain ⟨_, hha, hpl, hn⟩ := codeP_ok hc
      have h4 := hands_in1 hha
      have hk := hand_ok hp hc
      have hrep : s_gRepeat [lenB l p] h = some (List.replicate h.toNat (lenB l p)) := by
        unfold s_gRepeat
        rw [decide_eq_true h4.1, decide_eq_true h4.2]
        rfl
      rw [hc, ilen_eq hn hpl]
      simp only [Option.bind, hrep, sidle_run hn hpl hk h4, iidle_sub hn hpl hk]
      refine ⟨_, rfl, rfl, ?_⟩
      have := idle_len (l := l) (p := p) (h := h)
      show (idleL l p h).length ≤ 1000
      omega
    · have h3 : (codeP h l p != 0) = true := by simpa using hc
      simp only [Option.bind, h3]
      exact ⟨_, rfl, rfl, by simp⟩
  obtain ⟨v, e1, e2, hv⟩ := key
  obtain ⟨m, e3, e4⟩ := markJobs1 (l := l) (by omega)
  obtain ⟨m2, e5, e6⟩ := markSlots (l := p) (a := m.1) (s := l.length) (by omega) e4 (by omega)
  have e7 : decide (((v.1.length + 1 : Nat) : Int) < 0) = false := decide_eq_false (by omega)
  rw [q1, q2, toJobs (by omega), toSlots (by omega)]
  simp only [cond_false, Option.bind, e1, e2, e3, e5, e6, eqJobs (l := l) (by omega), eqSlots (l := p) (by omega), s27_same v.1 (by omega), s28_eq v.1 (by omega), s29_eq v.1.length (by omega), e7]
  simp
end Go.RR
