/- Plain facts of slots and plans; the plain laws of ValidSlots, FirstWrongSlot, LengthOfPlan and BusyOn. -/
import Derived.Test.YtkohnhkehedflaaWk
import Derived.Test.YtkohnhkehedflaaVq
set_option linter.unusedVariables false
set_option linter.unusedSimpArgs false
namespace Go.RR
open Go

abbrev Slot := Int × Int
abbrev SlotsOK (l : List Slot) : Prop := ∀ x ∈ l, (-128 ≤ x.1 ∧ x.1 ≤ 127) ∧ (-32768 ≤ x.2 ∧ x.2 ≤ 32767)
theorem toSlots {l : List Slot} (hl : l.length ≤ 2000000) : s_wtoSlotS l = some l := by
  unfold s_wtoSlotS
  rw [mk_ok _ _ (by omega), cond_true, toNat_nat]
  unfold f_wtoSlotS_run3
  have key := run_count (step := fun x => f_wtoSlotS_n3 x.1 x.2.1 x.2.2) (τ := Unit) l.length (fun i _ => ((i : Int), l, l.take i ++ (List.replicate l.length (0, 0)).drop i)) (fun _ _ => ()) l () (by omega) ?_ ?_
  · exact key
  · intro i _ hi
    show f_wtoSlotS_n3 i l (l.take i ++ (List.replicate l.length (0, 0)).drop i) = _
    unfold f_wtoSlotS_n3
    have hlen : (l.take i ++ (List.replicate l.length ((0, 0) : Slot)).drop i).length = l.length := by simp; omega
    rw [hlen, lt_true hi, inB_nat hi, toNat_nat, succ64 (by omega)]
    simp only [cond_true]
    have hx : l[i]? = some ((s_wtoSlot (l.getD i (0, 0)).1 (l.getD i (0, 0)).2).1, (s_wtoSlot (l.getD i (0, 0)).1 (l.getD i (0, 0)).2).2) := by
      show l[i]? = some (l.getD i (0, 0))
      rw [List.getD_eq_getElem?_getD, List.getElem?_eq_getElem hi]; rfl
    rw [set_copy (by simp) hx]
  · show f_wtoSlotS_n3 (l.length : Nat) l (l.take l.length ++ (List.replicate l.length (0, 0)).drop l.length) = _
    unfold f_wtoSlotS_n3
    rw [lt_neg, cond_false, List.take_length, List.drop_eq_nil_of_le (by simp), List.append_nil]
theorem eqSlots {l : List Slot} (hl : l.length ≤ 100000000) : s_weqSlotS l l = some true := by
  unfold s_weqSlotS
  have : (((List.length l : Nat) : Int) != ((List.length l : Nat) : Int)) = false := by simp
  rw [this, cond_false]
  unfold f_weqSlotS_run4
  have h := run_all (step := fun x => f_weqSlotS_n4 x.1 x.2.1 x.2.2) l.length (fun i => ((i : Int), l, l)) (fun i => true) true false (by omega) ?_ ?_
  · exact h.trans (by simp)
  · intro i hi
    show f_weqSlotS_n4 i l l = _
    unfold f_weqSlotS_n4 s_weqSlot
    rw [lt_true hi, inB_nat hi, toNat_nat, succ64 (by omega)]
    have a : ((l.getD i (0, 0)).1 != (l.getD i (0, 0)).1) = false := by simp
    have b : ((l.getD i (0, 0)).2 != (l.getD i (0, 0)).2) = false := by simp
    rw [a, b]; rfl
  · show f_weqSlotS_n4 (l.length : Nat) l l = _
    unfold f_weqSlotS_n4
    rw [lt_neg, cond_false]
theorem szBoth {l : List Job} {p : List Slot} (hl : l.length ≤ maxLen) (hp : p.length ≤ maxLen) : (decide (s_wszJobS l 1048576 < 0) = true) ∨ (decide (s_wszJobS l 1048576 < 0) = false ∧ decide (s_wszSlotS p (s_wszJobS l 1048576) < 0) = true) ∨ (l.length ≤ 1048576 ∧ p.length ≤ 1048576 ∧ decide (s_wszJobS l 1048576 < 0) = false ∧ decide (s_wszSlotS p (s_wszJobS l 1048576) < 0) = false) := by
  simp only [maxLen] at hl hp
  unfold s_wszJobS
  rw [IntWalk.i64_in (1048576 - ((l.length : Nat) : Int)) (by omega)]
  by_cases h : 1048576 < l.length
  · left
    rw [decide_eq_true (show 1048576 - ((l.length : Nat) : Int) < 0 by omega)]
    rfl
  · right
    rw [decide_eq_false (show ¬ 1048576 - ((l.length : Nat) : Int) < 0 by omega), cond_false]
    rw [decide_eq_false (show ¬ 1048576 - ((l.length : Nat) : Int) < 0 by omega)]
    unfold s_wszSlotS
    rw [IntWalk.i64_in (1048576 - ((l.length : Nat) : Int) - ((p.length : Nat) : Int)) (by omega)]
    by_cases h2 : 1048576 - ((l.length : Nat) : Int) - ((p.length : Nat) : Int) < 0
    · left
      rw [decide_eq_true h2]
      exact ⟨rfl, rfl⟩
    · right
      rw [decide_eq_false h2, cond_false]
      exact ⟨by omega, by omega, rfl, decide_eq_false h2⟩

/-! ### faults -/
noncomputable def doneB (l : List Job) (p : List Slot) (k : Nat) : Int := IntKind.wrap .i64 (IntKind.wrap .i64 (p.getD k (0, 0)).2 + IntKind.wrap .i64 (l.getD k (0, 0)).1)
theorem sdone_eq {l : List Job} {p : List Slot} {k : Nat} (hk : k < l.length) (hk2 : k < p.length) : s_sl07Done l p k = some (doneB l p k) := by
  unfold s_sl07Done
  rw [inB_nat hk, inB_nat hk2, toNat_nat]; rfl
/-! ### valid plans -/
theorem len_beq (a b : Nat) : (((a : Nat) : Int) == ((b : Nat) : Int)) = decide (a = b) := by
  by_cases h : a = b
  · subst h; simp
  · rw [decide_eq_false h]
    exact beq_eq_false_iff_ne.2 (by omega)
theorem len_bne (a b : Nat) : (((a : Nat) : Int) != ((b : Nat) : Int)) = !decide (a = b) := by
  rw [← len_beq]; rfl
/-! ### the length of a plan -/
noncomputable def lenB (l : List Job) (p : List Slot) : Int := (List.range' 0 l.length).foldl (fun (m : Int) k => max m (doneB l p k)) 0
theorem slen_eq {l : List Job} {p : List Slot} (hn : l.length ≤ 12) (hp : p.length = l.length) : s_sl07Length l p = some (lenB l p) := by
  unfold s_sl07Length f_sl07Length_run3
  refine run_count (step := fun x => f_sl07Length_n3 x.1 x.2.1 x.2.2.1 x.2.2.2) l.length (fun i (m : Int) => (m, (i : Int), l, p)) (fun m k => max m (doneB l p k)) _ 0 (by omega) ?_ ?_
  · intro i m hi
    show f_sl07Length_n3 m i l p = _
    unfold f_sl07Length_n3
    rw [lt_true hi, sdone_eq hi (by omega), succ64 (by omega), cond_true]
    simp only [Option.bind, max_eq]
  · show f_sl07Length_n3 _ (l.length : Nat) l p = _
    unfold f_sl07Length_n3
    rw [lt_neg, cond_false]; rfl
/-! ### who is busy -/
theorem markSlots {l : List Slot} {a : Int} {s : Nat} (hs : s ≤ 2000000 + 1) (ha : a = ((1 + 2 * s : Nat) : Int)) (hl : l.length ≤ 2000000) : ∃ v, s_wmarkSlotS l a = some v ∧ decide (v.1 < 0) = false := by
  subst ha
  unfold s_wmarkSlotS f_wmarkSlotS_run2
  let g : List Slot → Nat → List Slot := fun x2 i => (List.set (List.set x2 i ((IntKind.wrap .i8 ((1 + 2 * (s + i) : Nat) : Int)), (List.getD x2 i (0, 0)).2)) i ((List.getD (List.set x2 i ((IntKind.wrap .i8 ((1 + 2 * (s + i) : Nat) : Int)), (List.getD x2 i (0, 0)).2)) i (0, 0)).1, (IntKind.wrap .i16 (IntKind.wrap .i64 (((1 + 2 * (s + i) : Nat) : Int) + 1)))))
  refine ⟨(((1 + 2 * (s + l.length) : Nat) : Int), (List.range' 0 l.length).foldl g l), ?_, decide_eq_false (by show ¬ ((1 + 2 * (s + l.length) : Nat) : Int) < 0; omega)⟩
  refine run_countI l.length (fun i (st : List Slot) => (((1 + 2 * (s + i) : Nat) : Int), (i : Int), st)) g (fun _ st => st.length = l.length) _ l (by omega) rfl ?_ ?_
  · intro i st hi hI
    constructor
    · show f_wmarkSlotS_n2 ((1 + 2 * (s + i) : Nat) : Int) i st = _
      unfold f_wmarkSlotS_n2
      rw [List.length_set, hI, lt_true hi, inB_nat hi, toNat_nat, succ64 (i := i) (by omega)]
      have e : IntKind.wrap .i64 (IntKind.wrap .i64 (((1 + 2 * (s + i) : Nat) : Int) + 1) + 1) = ((1 + 2 * (s + (i + 1)) : Nat) : Int) := by
        rw [IntWalk.i64_in (((1 + 2 * (s + i) : Nat) : Int) + 1) (by omega), IntWalk.i64_in _ (by omega)]; omega
      rw [e]
      rfl
    · show (g st i).length = l.length
      simp only [g, List.length_set, hI]
  · intro hI
    unfold f_wmarkSlotS_n2
    have hI : ((List.range' 0 l.length).foldl g l).length = l.length := hI
    rw [hI, lt_neg, cond_false]
theorem markJobs1 {l : List Job} (hl : l.length ≤ 2000000) : ∃ v, s_wmarkJobS l 1 = some v ∧ v.1 = ((1 + 2 * l.length : Nat) : Int) := by
  unfold s_wmarkJobS f_wmarkJobS_run2
  let g : List Job → Nat → List Job := fun x2 i => (List.set (List.set x2 i ((IntKind.wrap .i8 ((1 + 2 * i : Nat) : Int)), (List.getD x2 i (0, 0)).2)) i ((List.getD (List.set x2 i ((IntKind.wrap .i8 ((1 + 2 * i : Nat) : Int)), (List.getD x2 i (0, 0)).2)) i (0, 0)).1, (IntKind.wrap .u16 (IntKind.wrap .i64 (((1 + 2 * i : Nat) : Int) + 1)))))
  refine ⟨(((1 + 2 * l.length : Nat) : Int), (List.range' 0 l.length).foldl g l), ?_, rfl⟩
  refine run_countI l.length (fun i (st : List Job) => (((1 + 2 * i : Nat) : Int), (i : Int), st)) g (fun _ st => st.length = l.length) _ l (by omega) rfl ?_ ?_
  · intro i st hi hI
    constructor
    · show f_wmarkJobS_n2 ((1 + 2 * i : Nat) : Int) i st = _
      unfold f_wmarkJobS_n2
      rw [List.length_set, hI, lt_true hi, inB_nat hi, toNat_nat, succ64 (i := i) (by omega)]
      have e : IntKind.wrap .i64 (IntKind.wrap .i64 (((1 + 2 * i : Nat) : Int) + 1) + 1) = ((1 + 2 * (i + 1) : Nat) : Int) := by
        rw [IntWalk.i64_in (((1 + 2 * i : Nat) : Int) + 1) (by omega), IntWalk.i64_in _ (by omega)]; omega
      rw [e]
      rfl
    · show (g st i).length = l.length
      simp only [g, List.length_set, hI]
  · intro hI
    unfold f_wmarkJobS_n2
    have hI : ((List.range' 0 l.length).foldl g l).length = l.length := hI
    rw [hI, lt_neg, cond_false]
end Go.RR
