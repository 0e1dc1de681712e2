/- The plain law of PlanInOrder. -/
import Derived.Test.YtkohnhkehedflaaWs
import Derived.Test.YtkohnhkehedflaaVr
set_option linter.unusedVariables false
set_option linter.unusedSimpArgs false
namespace Go.RR
open Go

theorem getD_at {α : Type} {l : List α} {i : Nat} (d : α) (h : i < l.length) : l.getD i d = l[i] := by
  rw [List.getD_eq_getElem?_getD, List.getElem?_eq_getElem h]; rfl
noncomputable def rdyB (l : List Job) (p : List Slot) (i : Nat) : Int := (List.range' 0 l.length).foldl (fun (m : Int) k => cond (waitsB l i k) (max m (doneB l p k)) m) 0
/-- The hand that is free first. -/
noncomputable def atB (fr : List Int) (rd : Int) (n : Nat) : Nat := (List.range' 1 n).foldl (fun at_ h => cond (decide (max (fr.getD h 0) rd < max (fr.getD at_ 0) rd)) h at_) 0
noncomputable def slotB (l : List Job) (p : List Slot) (fr : List Int) (i : Nat) : Slot :=
  (IntKind.wrap .i8 ((atB fr (rdyB l p i) (fr.length - 1) : Nat) : Int), IntKind.wrap .i16 (max (fr.getD (atB fr (rdyB l p i) (fr.length - 1)) 0) (rdyB l p i)))
theorem fold_at_le (f : Nat → Nat → Bool) : ∀ (k i a : Nat), a < i → (List.range' i k).foldl (fun at_ h => cond (f at_ h) h at_) a < i + k
  | 0, i, a, h => h
  | k + 1, i, a, h => by
    rw [List.range'_succ, List.foldl_cons]
    have := fold_at_le f k (i + 1) (cond (f a i) i a) (by cases f a i <;> simp <;> omega)
    omega
theorem atB_lt (fr : List Int) (rd : Int) (n : Nat) : atB fr rd n < 1 + n := fold_at_le _ n 1 0 (by omega)
theorem sput_eq {l : List Job} {p : List Slot} {fr : List Int} {i : Nat} (hj : JobsOK l) (hn : l.length ≤ 12) (hp : p.length = l.length) (hi : i < l.length) (hf : 1 ≤ fr.length ∧ fr.length ≤ 4) : s_sl07Put l p fr i = some (slotB l p fr i) := by
  unfold s_sl07Put f_sl07Put_run3
  refine run_count (step := fun x => f_sl07Put_n3 x.1 x.2.1 x.2.2.1 x.2.2.2.1 x.2.2.2.2.1 x.2.2.2.2.2.1 x.2.2.2.2.2.2.1 x.2.2.2.2.2.2.2) l.length (fun k (m : Int) => ((i : Int), m, (k : Int), l, p, fr, 0, 0)) (fun m k => cond (waitsB l i k) (max m (doneB l p k)) m) _ 0 (by omega) ?_ ?_
  · intro k m hk
    show f_sl07Put_n3 i m k l p fr 0 0 = _
    unfold f_sl07Put_n3
    rw [lt_true hk, swaits_eq hj hi (by omega), sdone_eq hk (by omega), succ64 (by omega)]
    simp only [cond_true, Option.bind, max_eq]
    cases waitsB l i k <;> rfl
  · show f_sl07Put_n3 i (rdyB l p i) (l.length : Nat) l p fr 0 0 = _
    unfold f_sl07Put_n3
    rw [lt_neg, cond_false]
    have key : f_sl07Put_run9 (rdyB l p i, 0, 1, fr, 0, 0) = some (slotB l p fr i) := by
      unfold f_sl07Put_run9
      have e := run_countI (step := fun x => f_sl07Put_n9 x.1 x.2.1 x.2.2.1 x.2.2.2.1 x.2.2.2.2.1 x.2.2.2.2.2) (fr.length - 1) (fun k (a : Nat) => (rdyB l p i, (a : Int), ((1 + k : Nat) : Int), fr, 0, 0)) (fun a k => cond (decide (max (fr.getD (1 + k) 0) (rdyB l p i) < max (fr.getD a 0) (rdyB l p i))) (1 + k) a) (fun k a => a < 1 + k) (slotB l p fr i) 0 (by omega) (by omega) ?_ ?_
      · exact e
      · intro k a hk ha
        refine ⟨?_, by cases decide (max (fr.getD (1 + k) 0) (rdyB l p i) < max (fr.getD a 0) (rdyB l p i)) <;> simp <;> omega⟩
        show f_sl07Put_n9 (rdyB l p i) a ((1 + k : Nat) : Int) fr 0 0 = _
        unfold f_sl07Put_n9
        rw [lt_true (show 1 + k < fr.length by omega), inB_nat (show 1 + k < fr.length by omega), inB_nat (show a < fr.length by omega), toNat_nat, toNat_nat, max_eq, max_eq, succ64 (by omega)]
        simp only [cond_true]
        have e1 : 1 + k + 1 = 1 + (k + 1) := by omega
        rw [e1]
        cases decide (max (fr.getD (1 + k) 0) (rdyB l p i) < max (fr.getD a 0) (rdyB l p i)) <;> rfl
      · intro ha
        have e2 : (List.range' 0 (fr.length - 1)).foldl (fun a k => cond (decide (max (fr.getD (1 + k) 0) (rdyB l p i) < max (fr.getD a 0) (rdyB l p i))) (1 + k) a) 0 = atB fr (rdyB l p i) (fr.length - 1) := by
          have h1 : List.range' 1 (fr.length - 1) = (List.range' 0 (fr.length - 1)).map (1 + ·) := by rw [List.map_add_range']
          unfold atB
          rw [h1, List.foldl_map]
        rw [e2] at ha ⊢
        show f_sl07Put_n9 (rdyB l p i) (atB fr (rdyB l p i) (fr.length - 1) : Nat) ((1 + (fr.length - 1) : Nat) : Int) fr 0 0 = _
        unfold f_sl07Put_n9
        rw [show 1 + (fr.length - 1) = fr.length by omega, lt_neg, cond_false, inB_nat (by omega), toNat_nat, max_eq]
        rfl
    rw [key]
    rfl
theorem islot_eq {l : List Job} {p : List Slot} {fr : List Int} {i : Nat} (hj : JobsOK l) (hn : l.length ≤ 12) (hp : p.length = l.length) (hi : i < l.length) (hf : 1 ≤ fr.length ∧ fr.length ≤ 4) : s_ishop_slot l p fr i = some (slotB l p fr i) := by
  unfold s_ishop_slot f_ishop_slot_run3
  refine run_countI (step := fun x => f_ishop_slot_n3 x.1 x.2.1 x.2.2.1 x.2.2.2.1 x.2.2.2.2.1 x.2.2.2.2.2.1 x.2.2.2.2.2.2.1 x.2.2.2.2.2.2.2.1 x.2.2.2.2.2.2.2.2) l.length (fun k (m : Int) => ((i : Int), m, ((l.length : Nat) : Int), (k : Int), l, p, fr, 0, 0)) (fun m k => cond (waitsB l i k) (max m (doneB l p k)) m) (fun _ m => 0 ≤ m) _ 0 (by omega) (by omega) ?_ ?_
  · intro k m hk hm
    refine ⟨?_, by cases waitsB l i k <;> simp <;> omega⟩
    show f_ishop_slot_n3 i m (l.length : Nat) k l p fr 0 0 = _
    unfold f_ishop_slot_n3
    rw [lt_true hk, inB_nat hk, inB_nat hi, toNat_nat, toNat_nat, iwaits_eq hj hi, inB_nat (show k < p.length by omega), succ64 (by omega)]
    simp only [cond_true, Option.bind]
    cases waitsB l i k <;> rfl
  · intro hm
    have hm : 0 ≤ rdyB l p i := hm
    show f_ishop_slot_n3 i (rdyB l p i) (l.length : Nat) (l.length : Nat) l p fr 0 0 = _
    unfold f_ishop_slot_n3
    rw [lt_neg, cond_false]
    have key : f_ishop_slot_run10 (rdyB l p i, 0, -1, ((fr.length : Nat) : Int), 0, 0, 0, fr) = some (slotB l p fr i) := by
      unfold f_ishop_slot_run10
      have e := run_countI (step := fun x => f_ishop_slot_n10 x.1 x.2.1 x.2.2.1 x.2.2.2.1 x.2.2.2.2.1 x.2.2.2.2.2.1 x.2.2.2.2.2.2.1 x.2.2.2.2.2.2.2) fr.length (fun k (a : Nat) => (rdyB l p i, (a : Int), (if k = 0 then -1 else max (fr.getD a 0) (rdyB l p i)), ((fr.length : Nat) : Int), (k : Int), 0, 0, fr)) (fun a k => if k = 0 then 0 else cond (decide (max (fr.getD k 0) (rdyB l p i) < max (fr.getD a 0) (rdyB l p i))) k a) (fun k a => a = 0 ∨ a < k) (slotB l p fr i) 0 (by omega) (.inl rfl) ?_ ?_
      · exact e
      · intro k a hk ha
        refine ⟨?_, ?_⟩
        · show f_ishop_slot_n10 (rdyB l p i) a (if k = 0 then -1 else max (fr.getD a 0) (rdyB l p i)) (fr.length : Nat) k 0 0 fr = _
          unfold f_ishop_slot_n10
          rw [lt_true hk, inB_nat hk, toNat_nat, succ64 (by omega), if_neg (show ¬ k + 1 = 0 by omega)]
          by_cases h0 : k = 0
          · subst h0
            simp
          · rw [if_neg h0, if_neg h0, decide_eq_false (show ¬ max (fr.getD a 0) (rdyB l p i) < 0 by omega)]
            simp only [cond_true, cond_false]
            cases decide (max (fr.getD k 0) (rdyB l p i) < max (fr.getD a 0) (rdyB l p i)) <;> rfl
        · by_cases h0 : k = 0
          · rw [if_pos h0]; exact .inl rfl
          · rw [if_neg h0]
            cases decide (max (fr.getD k 0) (rdyB l p i) < max (fr.getD a 0) (rdyB l p i))
            · simp only [cond_false]; omega
            · simp only [cond_true]; omega
      · intro ha
        have e2 : (List.range' 0 fr.length).foldl (fun a k => if k = 0 then 0 else cond (decide (max (fr.getD k 0) (rdyB l p i) < max (fr.getD a 0) (rdyB l p i))) k a) 0 = atB fr (rdyB l p i) (fr.length - 1) := by
          obtain ⟨m, hm⟩ : ∃ m, fr.length = m + 1 := ⟨fr.length - 1, by omega⟩
          rw [hm, List.range'_succ, List.foldl_cons]
          unfold atB
          simp only [if_true, Nat.add_sub_cancel, Nat.zero_add]
          refine foldl_ext' _ _ fun k hk a => ?_
          have := (List.mem_range'_1.1 hk).1
          rw [if_neg (by omega)]
        rw [e2]
        show f_ishop_slot_n10 (rdyB l p i) (atB fr (rdyB l p i) (fr.length - 1) : Nat) (if fr.length = 0 then -1 else _) (fr.length : Nat) (fr.length : Nat) 0 0 fr = _
        unfold f_ishop_slot_n10
        rw [lt_neg, cond_false, if_neg (by omega)]
        rfl
    rw [key]
    rfl

/-! ### the order -/
theorem within_eq (n a b : Int) : s_iwithin n a b = s_sl00In n a b := rfl
theorem slot_hand {l : List Job} {p : List Slot} {fr : List Int} {i : Nat} (hf : 1 ≤ fr.length ∧ fr.length ≤ 4) : ∃ h : Nat, h < fr.length ∧ (slotB l p fr i).1 = (h : Int) := by
  have := atB_lt fr (rdyB l p i) (fr.length - 1)
  refine ⟨atB fr (rdyB l p i) (fr.length - 1), by omega, ?_⟩
  unfold slotB
  exact IntWalk.i8_in _ (by omega)
/-! ### the law -/
theorem hands_le {h : Int} (hh : s_sl07Hands h = true) : ∃ n : Nat, h = (n : Int) ∧ 1 ≤ n ∧ n ≤ 4 := by
  unfold s_sl07Hands s_sl00In at hh
  by_cases h1 : h ≥ 1
  · rw [decide_eq_true h1, cond_true] at hh
    have := of_decide_eq_true hh
    exact ⟨h.toNat, by omega, by omega, by omega⟩
  · rw [decide_eq_false h1, cond_false] at hh; cases hh
theorem mkh_ok {n : Nat} (h : n ≤ 4) : (decide (0 ≤ ((n : Nat) : Int)) && decide (((n : Nat) : Int) = ((n : Nat) : Int)) && fits ((Int.toNat ((n : Nat) : Int)) * 8)) = true := mk_ok n 8 (by omega)
theorem markInts {l : List Int} {s : Nat} (hs : s ≤ 10000000) (hl : l.length ≤ 2000000) : ∃ v, s_wmarkInt64S l (s : Int) = some v ∧ decide (v.1 < 0) = false := by
  unfold s_wmarkInt64S f_wmarkInt64S_run2
  refine ⟨(((s + l.length : Nat) : Int), (List.range' 0 l.length).foldl (fun st i => st.set i ((s + i : Nat) : Int)) l), ?_, decide_eq_false (by show ¬ ((s + l.length : Nat) : Int) < 0; omega)⟩
  refine run_countI (step := fun x => f_wmarkInt64S_n2 x.1 x.2.1 x.2.2) l.length (fun i (st : List Int) => (((s + i : Nat) : Int), (i : Int), st)) (fun st i => st.set i ((s + i : Nat) : Int)) (fun _ st => st.length = l.length) _ l (by omega) rfl ?_ ?_
  · intro i st hi hI
    refine ⟨?_, by simp [hI]⟩
    show f_wmarkInt64S_n2 ((s + i : Nat) : Int) i st = _
    unfold f_wmarkInt64S_n2
    rw [hI, lt_true hi, inB_nat hi, toNat_nat, succ64 (i := i) (by omega), succ64 (i := s + i) (by omega)]
    rfl
  · intro hI
    have hI : ((List.range' 0 l.length).foldl (fun st i => st.set i ((s + i : Nat) : Int)) l).length = l.length := hI
    show f_wmarkInt64S_n2 ((s + l.length : Nat) : Int) (l.length : Nat) ((List.range' 0 l.length).foldl (fun st i => st.set i ((s + i : Nat) : Int)) l) = _
    unfold f_wmarkInt64S_n2
    rw [hI, lt_neg, cond_false]
/-- Slots that are marked in turn. -/
noncomputable def markP (n : Nat) : List Slot := (List.range' 0 n).map fun i : Nat => (IntKind.wrap .i8 ((1 + 2 * i : Nat) : Int), IntKind.wrap .i16 ((2 + 2 * i : Nat) : Int))
theorem markP_len (n : Nat) : (markP n).length = n := by simp [markP]
theorem markP_get {n i : Nat} (h : i < n) : (markP n)[i]? = some (IntKind.wrap .i8 ((1 + 2 * i : Nat) : Int), IntKind.wrap .i16 ((2 + 2 * i : Nat) : Int)) := by
  unfold markP
  rw [List.getElem?_map, List.getElem?_range' h]
  simp
theorem markP_eq (l : List Slot) (hl : l.length ≤ 2000000) : s_wmarkSlotS l 1 = some (((1 + 2 * l.length : Nat) : Int), markP l.length) := by
  unfold s_wmarkSlotS f_wmarkSlotS_run2
  have key := run_count (step := fun x => f_wmarkSlotS_n2 x.1 x.2.1 x.2.2) (τ := Unit) l.length (fun i _ => (((1 + 2 * i : Nat) : Int), (i : Int), (markP l.length).take i ++ l.drop i)) (fun _ _ => ()) (((1 + 2 * l.length : Nat) : Int), markP l.length) () (by omega) ?_ ?_
  · exact key
  · intro i _ hi
    show f_wmarkSlotS_n2 ((1 + 2 * i : Nat) : Int) i ((markP l.length).take i ++ l.drop i) = _
    have hlen : ((markP l.length).take i ++ l.drop i).length = l.length := by
      simp [markP_len]; omega
    unfold f_wmarkSlotS_n2
    have e : IntKind.wrap .i64 (IntKind.wrap .i64 (((1 + 2 * i : Nat) : Int) + 1) + 1) = ((1 + 2 * (i + 1) : Nat) : Int) := by
      rw [IntWalk.i64_in (((1 + 2 * i : Nat) : Int) + 1) (by omega), IntWalk.i64_in _ (by omega)]; omega
    have e2 : IntKind.wrap .i64 (((1 + 2 * i : Nat) : Int) + 1) = ((2 + 2 * i : Nat) : Int) := by
      rw [IntWalk.i64_in _ (by omega)]; omega
    rw [List.length_set, hlen, lt_true hi, inB_nat hi, succ64 (i := i) (by omega), e, e2, toNat_nat]
    simp only [cond_true]
    have hg : ∀ (x : Slot), List.getD (((markP l.length).take i ++ l.drop i).set i x) i (0, 0) = x := fun x => by
      rw [List.getD_eq_getElem?_getD, List.getElem?_set_self (by omega)]; rfl
    rw [hg, List.set_set]
    have hset := set_copy (t := markP l.length) (r := l) (i := i) (by rw [markP_len]) (markP_get hi)
    rw [← hset]
  · show f_wmarkSlotS_n2 ((1 + 2 * l.length : Nat) : Int) (l.length : Nat) ((markP l.length).take l.length ++ l.drop l.length) = _
    have h1 : (markP l.length).take l.length ++ l.drop l.length = markP l.length := by
      rw [List.drop_length, List.append_nil]
      exact List.take_of_length_le (by rw [markP_len]; exact Nat.le_refl _)
    rw [h1]
    unfold f_wmarkSlotS_n2
    rw [markP_len, lt_neg, cond_false]
theorem heldP_eq (n : Nat) (hn : n ≤ 2000000) : s_wheldSlotS (markP n) 1 = some ((1 + 2 * n : Nat) : Int) := by
  unfold s_wheldSlotS f_wheldSlotS_run2
  have key := run_count (step := fun x => f_wheldSlotS_n2 x.1 x.2.1 x.2.2) (τ := Unit) n (fun i _ => (((1 + 2 * i : Nat) : Int), (i : Int), markP n)) (fun _ _ => ()) ((1 + 2 * n : Nat) : Int) () (by omega) ?_ ?_
  · exact key
  · intro i _ hi
    show f_wheldSlotS_n2 ((1 + 2 * i : Nat) : Int) i (markP n) = _
    unfold f_wheldSlotS_n2
    have hg : (markP n).getD i (0, 0) = (IntKind.wrap .i8 ((1 + 2 * i : Nat) : Int), IntKind.wrap .i16 ((2 + 2 * i : Nat) : Int)) := by rw [List.getD_eq_getElem?_getD, markP_get hi]; rfl
    have e : IntKind.wrap .i64 (IntKind.wrap .i64 (((1 + 2 * i : Nat) : Int) + 1) + 1) = ((1 + 2 * (i + 1) : Nat) : Int) := by
      rw [IntWalk.i64_in (((1 + 2 * i : Nat) : Int) + 1) (by omega), IntWalk.i64_in _ (by omega)]; omega
    have e2 : IntKind.wrap .i64 (((1 + 2 * i : Nat) : Int) + 1) = ((2 + 2 * i : Nat) : Int) := by
      rw [IntWalk.i64_in _ (by omega)]; omega
    have nn : ∀ x : Int, (x != x) = false := fun x => by simp
    rw [markP_len, lt_true hi, inB_nat hi, toNat_nat, hg, e, e2, succ64 (i := i) (by omega), nn, nn]
    rfl
  · show f_wheldSlotS_n2 ((1 + 2 * n : Nat) : Int) (n : Nat) (markP n) = _
    unfold f_wheldSlotS_n2
    rw [markP_len, lt_neg, cond_false]
theorem toInts {l : List Int} (hl : l.length ≤ 2000000) : s_wtoInt64S l = some l := by
  unfold s_wtoInt64S
  rw [mk_ok _ _ (by omega), cond_true, toNat_nat]
  unfold f_wtoInt64S_run3
  have key := run_count (step := fun x => f_wtoInt64S_n3 x.1 x.2.1 x.2.2) (τ := Unit) l.length (fun i _ => ((i : Int), l, l.take i ++ (List.replicate l.length 0).drop i)) (fun _ _ => ()) l () (by omega) ?_ ?_
  · exact key
  · intro i _ hi
    show f_wtoInt64S_n3 i l (l.take i ++ (List.replicate l.length 0).drop i) = _
    unfold f_wtoInt64S_n3
    have hlen : (l.take i ++ (List.replicate l.length 0).drop i).length = l.length := by simp; omega
    rw [hlen, lt_true hi, inB_nat hi, toNat_nat, succ64 (by omega)]
    simp only [cond_true]
    rw [set_copy (by simp) (show l[i]? = some (l.getD i 0) from by rw [List.getD_eq_getElem?_getD, List.getElem?_eq_getElem hi]; rfl)]
  · show f_wtoInt64S_n3 (l.length : Nat) l (l.take l.length ++ (List.replicate l.length 0).drop l.length) = _
    unfold f_wtoInt64S_n3
    rw [lt_neg, cond_false, List.take_length, List.drop_eq_nil_of_le (by simp), List.append_nil]
end Go.RR
