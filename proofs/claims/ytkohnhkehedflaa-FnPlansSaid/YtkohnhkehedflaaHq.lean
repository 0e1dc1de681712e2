/- A plan with one wrong slot; the days of a plan, one by one. -/
import Derived.Test.YtkohnhkehedflaaHy
import Derived.Test.YtkohnhkehedflaaVz
set_option linter.unusedVariables false
set_option linter.unusedSimpArgs false
namespace Go.RR
open Go
theorem find_at {q : Nat → Bool} {n k : Nat} (hk : k < n) (h1 : ∀ i, i < k → q i = false) (h2 : q k = true) : (List.range' 0 n).find? q = some k := by
 have e : List.range' 0 n = List.range' 0 k ++ List.range' k (n - k) := by
  have h := List.range'_append_1 (s := 0) (m := k) (n := n - k)
  rw [Nat.zero_add, show k + (n - k) = n by omega] at h
  exact h.symm
 rw [e, List.find?_append]
 have : (List.range' 0 k).find? q = none := by
  rw [List.find?_eq_none]
  intro i hi
  rw [h1 i (by rw [List.mem_range'_1] at hi; omega)]
  simp
 rw [this, show n - k = (n - k - 1) + 1 by omega, List.range'_succ, List.find?_cons, h2]
 rfl
section
variable {l : List Job} {H : Nat} {p : List Slot} (hv : VJ l) (hH : 1 ≤ H ∧ H ≤ 4) (hb : MadeP l H p)
include hv hH hb
theorem made_slots : SlotsOK p := by
 intro x hx
 obtain ⟨i, hi, e⟩ := List.getElem_of_mem hx
 have hl := made_len hv hH hb
 have hi2 : i < l.length := by rw [← hl]; exact hi
 obtain ⟨y, y1, y2⟩ := built_hand hv hb hi2
 have hs := built_st hv hb hi2
 have e2 : p.getD i (0, 0) = x := by rw [getD_lt (0, 0) hi, e]
 have y1 : (p.getD i (0, 0)).1 = (y : Int) := y1
 have hs : 0 ≤ (p.getD i (0, 0)).2 ∧ (p.getD i (0, 0)).2 ≤ 1000 := hs
 rw [e2] at y1 hs
 omega
noncomputable def badP (p : List Slot) (H k : Nat) : List Slot := p.set k (IntKind.wrap .i8 (H : Int), (p.getD k (0, 0)).2)
theorem bad_fault {k : Nat} (hk : k < l.length) : faultI (H : Int) l (badP p H k) = (k : Int) := by
 have hl := made_len hv hH hb
 have gk : (badP p H k).getD k (0, 0) = ((H : Int), (p.getD k (0, 0)).2) := by
  unfold badP
  rw [getD_set_eq (by omega), IntWalk.i8_in (H : Int) (by omega)]
 have gn : ∀ i, i ≠ k → (badP p H k).getD i (0, 0) = p.getD i (0, 0) := fun i hi => getD_set_ne (fun e => hi e.symm)
 have sk : s_q1o (H : Int) ((badP p H k).getD k (0, 0)).1 ((badP p H k).getD k (0, 0)).2 = false := by
  rw [gk]
  unfold s_q1o s_q25
  rw [IntWalk.i64_in (H : Int) (by omega), IntWalk.i64_in ((H : Int) - 1) (by omega), decide_eq_false (show ¬ (H : Int) ≤ (H : Int) - 1 by omega)]
  cases decide ((H : Int) ≥ 0) <;> rfl
 have hf : (List.range' 0 l.length).find? (faultB (H : Int) l (badP p H k)) = some k := by
  refine find_at hk (fun i hi => ?_) ?_
  ·have h0 := made_fault hv hH hb (show i < l.length by omega)
   unfold faultB at h0 ⊢
   rw [gn i (by omega)]
   rw [made_slot hv hH hb (show i < l.length by omega), Bool.not_true, cond_false, Bool.not_eq_false', List.all_eq_true] at h0 ⊢
   intro q hq
   by_cases e : q = k
   ·subst e
    unfold badB
    rw [sk]; rfl
   ·have := h0 q hq
    unfold badB doneB at this ⊢
    rw [gn i (by omega), gn q e]
    exact this
  ·unfold faultB
   rw [sk]; rfl
 unfold faultI
 rw [hf]
end
theorem code_ok {l : List Job} {H : Nat} {p : List Slot} (hv : validB l = true) (hH : 1 ≤ H ∧ H ≤ 4) (hp : planB (H : Int) l p = true) : codeP (H : Int) l p = 0 := by
 unfold codeP
 rw [hv, hands_ok hH, hp]; rfl
theorem ifirst_eq {l : List Job} {H : Nat} {p : List Slot} (hj : JobsOK l) (hv : validB l = true) (hH : 1 ≤ H ∧ H ≤ 4) (hl : p.length = l.length) : s_q04 l (H : Int) p = some (cond (decide (faultI (H : Int) l p < 0)) (0, 6) (faultI (H : Int) l p, 0)) := by
 have hn := (valid_ord hv).1
 have e : s_q1a (H : Int) = s_q15 (H : Int) := rfl
 unfold s_q04
 rw [iok_eq l (by omega), hv, e, hands_ok hH, hl]
 have b0 : (((l.length : Nat) : Int) != ((l.length : Nat) : Int)) = false := by simp
 simp only [Option.bind, show (s_q1t true true != 0) = false from rfl, cond_false, b0, iwrong_eq hj hn hl]
 cases decide (faultI (H : Int) l p < 0) <;> rfl
theorem sfirst_eq {l : List Job} {H : Nat} {p : List Slot} (hj : JobsOK l) (hv : validB l = true) (hH : 1 ≤ H ∧ H ≤ 4) (hl : p.length = l.length) : s_q05 l (H : Int) p = some (cond (decide (faultI (H : Int) l p < 0)) (0, 6) (faultI (H : Int) l p, 0)) := by
 have hn := (valid_ord hv).1
 unfold s_q05 s_q11
 rw [sok_eq l (by omega), hv, hands_ok hH, hl]
 have b0 : (((l.length : Nat) : Int) != ((l.length : Nat) : Int)) = false := by simp
 simp only [Option.bind, Bool.not_true, cond_false, b0, sfault_eq hj hn hl, show ((0 : Int) == 0) = true from rfl, show ((0 : Int) != 0) = false from rfl, cond_true]
 cases decide (faultI (H : Int) l p < 0) <;> rfl
theorem at_nat {l : List Int} (hl : Byt l) {i k : Nat} (hk : 1 ≤ k) : ∃ x : Nat, s_q2a l (i : Int) (k : Int) = some (x : Int) ∧ x < k := by
 unfold s_q2a
 by_cases h : i < l.length
 ·have hx := hl.2 _ (getD_mem' (d := 0) h)
  rw [decide_eq_false (show ¬ (i : Int) ≥ ((l.length : Nat) : Int) by omega), decide_eq_false (show ¬ (k : Int) < 1 by omega), inB_nat h, decide_eq_false (show ¬ (k : Int) = 0 by omega), toNat_nat, IntWalk.i64_in (l.getD i 0) (by omega), Int.tmod_eq_emod_of_nonneg hx.1]
  have h1 := Int.emod_nonneg (l.getD i 0) (show (k : Int) ≠ 0 by omega)
  have h2 := Int.emod_lt_of_pos (l.getD i 0) (show (0 : Int) < (k : Int) by omega)
  exact ⟨(l.getD i 0 % (k : Int)).toNat, by rw [Int.toNat_of_nonneg h1]; rfl, by omega⟩
 ·rw [decide_eq_true (show (i : Int) ≥ ((l.length : Nat) : Int) by omega)]
  exact ⟨0, rfl, by omega⟩
section
variable {l : List Job} {H : Nat} {p : List Slot} {a1 : List Int} (hvl : validB l = true) (hv : VJ l) (hH : 1 ≤ H ∧ H ≤ 4) (hb : MadeP l H p)
include hvl hv hH hb
theorem ibusy_eq {d : Int} (hd : 0 ≤ d ∧ d ≤ 2000) : s_q1s l (H : Int) p d = some (busyL l p d, 0) := by
 unfold s_q1s
 have hn := hv.len
 have hw : s_q1v d 0 2000 = true := by
  unfold s_q1v
  rw [decide_eq_true hd.1, decide_eq_true hd.2]; rfl
 rw [icode_eq hv.ok (by omega), code_ok hvl hH (made_plan hv hH hb), hw, ibusy_run hv.ok (made_slots hv hH hb) hn (made_len hv hH hb)]
 rfl
theorem run48_ok {L W c : Int} {d : Nat} (hc : 0 ≤ c ∧ c ≤ 100000) (hd : d ≤ 2000) : f_q1p_run48 ((H : Int), L, W, c, (d : Int), 0, a1, l, p, busyL l p d) = some (.inl ((H : Int), L, W, c + ((busyL l p d).length : Int), ((d + 1 : Nat) : Int), a1, l, p)) := by
 have _ := hvl
 have hbl := busy_hands hv hH hb (d : Int)
 have hl := made_len hv hH hb
 unfold f_q1p_run48
 refine run_list (step := fun x => f_q1p_n48 x.1 x.2.1 x.2.2.1 x.2.2.2.1 x.2.2.2.2.1 x.2.2.2.2.2.1 x.2.2.2.2.2.2.1 x.2.2.2.2.2.2.2.1 x.2.2.2.2.2.2.2.2.1 x.2.2.2.2.2.2.2.2.2) (0 : Int) (busyL l p d) (fun i (_ : Unit) => ((H : Int), L, W, c, (d : Int), (i : Int), a1, l, p, busyL l p d)) (fun u _ => u) _ () (by omega) ?_ ?_
 ·intro i u hi hm
  obtain ⟨k, k1, k2, k3, k4⟩ := busy_mem hv hH hb (d : Int) _ hm
  have hs := built_st hv hb k2
  have hdk := hv.days k k2
  have k3 : (p.getD k (0, 0)).2 ≤ (d : Int) := k3
  have k4 : (d : Int) < (p.getD k (0, 0)).2 + (l.getD k (0, 0)).1 := k4
  have hs : 0 ≤ (p.getD k (0, 0)).2 ∧ (p.getD k (0, 0)).2 ≤ 1000 := hs
  have hdk : 1 ≤ (l.getD k (0, 0)).1 ∧ (l.getD k (0, 0)).1 ≤ 30 := hdk
  show f_q1p_n48 (H : Int) L W c d i a1 l p (busyL l p d) = _
  unfold f_q1p_n48
  rw [lt_true hi, inB_nat hi, toNat_nat, k1, decide_eq_false (show ¬ (k : Int) < 0 by omega), decide_eq_false (show ¬ (k : Int) ≥ ((l.length : Nat) : Int) by omega), inB_nat (show k < p.length by omega), inB_nat k2, toNat_nat, succ64 (by omega)]
  rw [IntWalk.i64_in (p.getD k (0, 0)).2 (by omega), IntWalk.i64_in (l.getD k (0, 0)).1 (by omega), IntWalk.i64_in ((p.getD k (0, 0)).2 + (l.getD k (0, 0)).1) (by omega), decide_eq_false (show ¬ (p.getD k (0, 0)).2 > (d : Int) by omega), decide_eq_false (show ¬ (d : Int) ≥ (p.getD k (0, 0)).2 + (l.getD k (0, 0)).1 by omega)]
  rfl
 ·show f_q1p_n48 (H : Int) L W c d ((busyL l p d).length : Nat) a1 l p (busyL l p d) = _
  unfold f_q1p_n48
  rw [lt_neg, cond_false, succ64 (by omega), IntWalk.i64_in (c + _) (by omega)]
end
end Go.RR
namespace Go.RR
open Go
theorem same_slots (l : List Slot) (hl : l.length ≤ 1000000) : s_q0k l l = some true := by
 unfold s_q0k
 have : (((List.length l : Nat) : Int) != ((List.length l : Nat) : Int)) = false := by simp
 rw [this, cond_false]
 unfold f_q0k_run4
 have h := run_all (step := fun x => f_q0k_n4 x.1 x.2.1 x.2.2) l.length (fun i => ((i : Int), l, l)) (fun i => true) true false (by omega) ?_ ?_
 ·exact h.trans (by simp)
 ·intro i hi
  show f_q0k_n4 i l l = _
  unfold f_q0k_n4
  rw [lt_true hi, inB_nat hi, toNat_nat, succ64 (by omega), beq_self_eq_true, beq_self_eq_true]
  rfl
 ·show f_q0k_n4 (l.length : Nat) l l = _
  unfold f_q0k_n4
  rw [lt_neg, cond_false]
theorem same_ints (l : List Int) (hl : l.length ≤ 1000000) : s_q1x l l = some true := by
 unfold s_q1x s_q1i
 have : (((List.length l : Nat) : Int) != ((List.length l : Nat) : Int)) = false := by simp
 rw [this, cond_false]
 unfold f_q1i_run4
 have h := run_all (step := fun x => f_q1i_n4 x.1 x.2.1 x.2.2) l.length (fun i => ((i : Int), l, l)) (fun i => true) true false (by omega) ?_ ?_
 ·have h : iter (fun x => f_q1i_n4 x.1 x.2.1 x.2.2) FU (0, l, l) = some true := h.trans (by simp)
  rw [h]; rfl
 ·intro i hi
  show f_q1i_n4 i l l = _
  unfold f_q1i_n4
  rw [lt_true hi, inB_nat hi, toNat_nat, succ64 (by omega)]
  have : (l.getD i 0 != l.getD i 0) = false := by simp
  rw [this]; rfl
 ·show f_q1i_n4 (l.length : Nat) l l = _
  unfold f_q1i_n4
  rw [lt_neg, cond_false]
theorem hands_both {l : List Job} {d : Int} (hj : JobsOK l) (hv : validB l = true) (hd : 0 ≤ d ∧ d ≤ 1000) : s_q0e l d 20000 = some (handR l d 20000) ∧ s_q0a l d 20000 = some (handR l d 20000) := by
 have hn := (valid_ord hv).1
 have hb : s_q25 20000 0 20000 = true := rfl
 have hd2 : s_q25 d 0 1000 = true := by
  unfold s_q25
  rw [decide_eq_true (show d ≥ 0 by omega), decide_eq_true hd.2]; rfl
 have ew : s_q1v 20000 0 20000 = s_q25 20000 0 20000 := rfl
 have ed : s_q1v d 0 1000 = s_q25 d 0 1000 := rfl
 unfold s_q0e s_q0a
 rw [sok_eq l (by omega), iok_eq l (by omega), ew, ed, hd2, hb, hv]
 exact ⟨shand hj hv hb, ihand hj hn (in_bg hb)⟩
section
variable {l : List Job} {H : Nat} {ord : List Int} {a1 : List Int} (hvl : validB l = true) (hv : VJ l) (hH : 1 ≤ H ∧ H ≤ 4) (ho : isO l 0 ord = true) (hol : ord.length = l.length) (ha : Byt a1)
include hvl hv hH ho hol ha
theorem fin_ok : f_q1p_n42 (H : Int) (lenB l (ordP l H ord)) (sumJ l) (sumJ l) (lenB l (ordP l H ord) + 1) a1 l (ordP l H ord) = some (.inr true) := by
 have hb := ord_made hv hH ho hol
 have hj := hv.ok
 have hn := hv.len
 have hlen := built_len hv hb
 have hs := made_sum hv hH hb
 have hpl := made_len hv hH hb
 obtain ⟨e1, e2⟩ := hands_both hj hvl (d := lenB l (ordP l H ord)) (by omega)
 have nn : ∀ x : Int, (x != x) = false := fun x => by simp
 have tail : cond (((List.length l : Nat) : Int) == 0) (some (Sum.inr true : (Int × Int × Int × Int × Int × (List Int) × (List (Int × Int)) × (List (Int × Int))) ⊕ Bool)) (Option.bind (s_q2a a1 1 ((List.length l : Nat) : Int)) fun r26 => (cond (fits ((List.length ([] : List (Int × Int)) + List.length (ordP l H ord : List (Int × Int))) * 4)) (cond (inB r26 (List.length ([] ++ ordP l H ord))) (Option.bind (s_q04 l (H : Int) (List.set ([] ++ ordP l H ord) (Int.toNat r26) ((IntKind.wrap .i8 (H : Int)), (List.getD ([] ++ ordP l H ord) (Int.toNat r26) ((0, 0) : (Int × Int))).2))) fun r27 => (Option.bind (s_q05 l (H : Int) (List.set ([] ++ ordP l H ord) (Int.toNat r26) ((IntKind.wrap .i8 (H : Int)), (List.getD ([] ++ ordP l H ord) (Int.toNat r26) ((0, 0) : (Int × Int))).2))) fun r28 => (cond (r27.2 == r28.2) (cond (r27.2 == 0) (cond (r27.1 == r28.1) (cond (r28.1 == r26) (Option.bind (s_q0j l (H : Int) (List.set ([] ++ ordP l H ord) (Int.toNat r26) ((IntKind.wrap .i8 (H : Int)), (List.getD ([] ++ ordP l H ord) (Int.toNat r26) ((0, 0) : (Int × Int))).2))) fun r29 => (some (Sum.inr (!r29)))) (some (Sum.inr false))) (some (Sum.inr false))) (some (Sum.inr false))) (some (Sum.inr false))))) none) none)) = some (.inr true) := by
  by_cases h0 : l.length = 0
  ·rw [h0]; rfl
  ·have hz : (((List.length l : Nat) : Int) == 0) = false := beq_eq_false_iff_ne.2 (by omega)
   obtain ⟨k, k1, k2⟩ := at_nat (i := 1) (k := l.length) ha (by omega)
   have k1 : s_q2a a1 1 ((List.length l : Nat) : Int) = some (k : Int) := k1
   have hbp : (badP (ordP l H ord) H k).length = l.length := by unfold badP; rw [List.length_set]; exact hpl
   have hf := bad_fault hv hH hb k2
   have e3 := ifirst_eq hj hvl hH hbp
   have e4 := sfirst_eq hj hvl hH hbp
   have e5 := ivalid_eq (h := (H : Int)) (p := badP (ordP l H ord) H k) hj (show l.length ≤ 100000000 by omega)
   have e6 : slotsB (H : Int) l (badP (ordP l H ord) H k) = false := by
    unfold slotsB planB
    rw [hf, decide_eq_false (show ¬ (k : Int) < 0 by omega)]
    simp
   rw [hf, decide_eq_false (show ¬ (k : Int) < 0 by omega), cond_false] at e3 e4
   rw [e6] at e5
   unfold badP at e3 e4 e5
   rw [hz, cond_false, k1]
   simp only [Option.bind]
   rw [fits_small (by simp; omega), List.nil_append, inB_nat (show k < (ordP l H ord).length by omega), toNat_nat, e3, e4]
   simp only [cond_true]
   rw [e5]
   simp
 unfold f_q1p_n42
 rw [decide_eq_false (show ¬ lenB l (ordP l H ord) + 1 ≤ lenB l (ordP l H ord) by omega), cond_false, nn, cond_false, e1, e2]
 simp only [Option.bind, nn, cond_false]
 simp only [Option.bind] at tail
 rcases hand_spec (Bg := 20000) hv hH ho hol with q | ⟨q1, q2⟩
 ·rw [q]
  simp only [show ((7 : Int) == 0) = false from rfl, show ((7 : Int) != 0) = true from rfl, show ((7 : Int) != 7) = false from rfl, cond_false, cond_true]
  exact tail
 ·rw [q1, decide_eq_false (show ¬ (handR l (lenB l (ordP l H ord)) 20000).1 > (H : Int) by omega)]
  simp only [show ((0 : Int) == 0) = true from rfl, show ((0 : Int) != 0) = false from rfl, cond_false, cond_true]
  exact tail
theorem days_ok : f_q1p_run42 ((H : Int), lenB l (ordP l H ord), sumJ l, 0, 0, a1, l, ordP l H ord) = some true := by
 have hb := ord_made hv hH ho hol
 have hlen := built_len hv hb
 have hs := made_sum hv hH hb
 have hz : lenB l (ordP l H ord) = (((lenB l (ordP l H ord)).toNat : Nat) : Int) := by omega
 have hcnt : ∀ n : Nat, 0 ≤ sm (fun d => (((busyL l (ordP l H ord) (d : Int)).length : Nat) : Int)) n ∧ sm (fun d => (((busyL l (ordP l H ord) (d : Int)).length : Nat) : Int)) n ≤ (n : Int) * 4 := by
  intro n
  constructor
  ·have := sm_le (f := fun _ => 0) (g := fun d : Nat => (((busyL l (ordP l H ord) (d : Int)).length : Nat) : Int)) n fun d hd => by
    show (0 : Int) ≤ ((busyL l (ordP l H ord) (d : Int)).length : Nat)
    omega
   rwa [sm_zero] at this
  ·rw [← sm_const]
   refine sm_le n fun d hd => ?_
   have := busy_hands hv hH hb (d : Int)
   show (((busyL l (ordP l H ord) (d : Int)).length : Nat) : Int) ≤ 4
   omega
 unfold f_q1p_run42
 refine run_countI (step := fun x => f_q1p_n42 x.1 x.2.1 x.2.2.1 x.2.2.2.1 x.2.2.2.2.1 x.2.2.2.2.2.1 x.2.2.2.2.2.2.1 x.2.2.2.2.2.2.2) ((lenB l (ordP l H ord)).toNat + 1) (fun d (c : Int) => ((H : Int), lenB l (ordP l H ord), sumJ l, c, (d : Int), a1, l, ordP l H ord)) (fun c d => c + (((busyL l (ordP l H ord) (d : Int)).length : Nat) : Int)) (fun d c => c = sm (fun d => (((busyL l (ordP l H ord) (d : Int)).length : Nat) : Int)) d) true 0 (by omega) rfl ?_ ?_
 ·intro d c hd hc
  refine ⟨?_, by rw [hc]; rfl⟩
  have hc2 := hcnt d
  rw [← hc] at hc2
  have hbh := busy_hands hv hH hb (d : Int)
  show f_q1p_n42 (H : Int) (lenB l (ordP l H ord)) (sumJ l) c d a1 l (ordP l H ord) = _
  unfold f_q1p_n42
  rw [decide_eq_true (show (d : Int) ≤ lenB l (ordP l H ord) by omega), cond_true, ibusy_eq hvl hv hH hb (by omega)]
  have r48 := run48_ok (a1 := a1) (L := lenB l (ordP l H ord)) (W := sumJ l) (c := c) (d := d) hvl hv hH hb (by omega) (by omega)
  simp only [Option.bind, show ((0 : Int) != 0) = false from rfl, cond_false]
  rw [decide_eq_false (show ¬ (((busyL l (ordP l H ord) (d : Int)).length : Nat) : Int) > (H : Int) by omega), cond_false, r48]
  by_cases e : (d : Int) = lenB l (ordP l H ord)
  ·rw [beq_iff_eq.2 e, cond_true]
   have h0 := busy_end hv hH hb
   rw [e, h0]
   rfl
  ·rw [beq_eq_false_iff_ne.2 e, cond_false]
 ·intro hI
  rw [hI, busy_all hv hH hb]
  have := fin_ok hvl hv hH ho hol ha
  show f_q1p_n42 (H : Int) (lenB l (ordP l H ord)) (sumJ l) (sumJ l) (((lenB l (ordP l H ord)).toNat + 1 : Nat) : Int) a1 l (ordP l H ord) = _
  rw [show (((lenB l (ordP l H ord)).toNat + 1 : Nat) : Int) = lenB l (ordP l H ord) + 1 by omega]
  exact this
theorem idle_ok : f_q1p_run33 ((H : Int), lenB l (ordP l H ord), sumJ l, 0, 0, a1, l, ordP l H ord, idleL l (ordP l H ord) (H : Int)) = some true := by
 have hb := ord_made hv hH ho hol
 have hlen := built_len hv hb
 have hs := made_sum hv hH hb
 have hil : (idleL l (ordP l H ord) (H : Int)).length = H := idle_len
 have hcnt : ∀ n : Nat, n ≤ H → 0 ≤ sm (fun y => (idleL l (ordP l H ord) (H : Int)).getD y 0) n ∧ sm (fun y => (idleL l (ordP l H ord) (H : Int)).getD y 0) n ≤ (n : Int) * 360 := by
  intro n hn
  constructor
  ·have := sm_le (f := fun _ => 0) (g := fun y => (idleL l (ordP l H ord) (H : Int)).getD y 0) n fun y hy => (idle_pos hv hH hb (show y < H by omega)).1
   rwa [sm_zero] at this
  ·rw [← sm_const]
   exact sm_le n fun y hy => (idle_pos hv hH hb (show y < H by omega)).2
 unfold f_q1p_run33
 refine run_countI (step := fun x => f_q1p_n33 x.1 x.2.1 x.2.2.1 x.2.2.2.1 x.2.2.2.2.1 x.2.2.2.2.2.1 x.2.2.2.2.2.2.1 x.2.2.2.2.2.2.2.1 x.2.2.2.2.2.2.2.2) H (fun y (c : Int) => ((H : Int), lenB l (ordP l H ord), sumJ l, c, (y : Int), a1, l, ordP l H ord, idleL l (ordP l H ord) (H : Int))) (fun c y => c + (idleL l (ordP l H ord) (H : Int)).getD y 0) (fun y c => c = sm (fun y => (idleL l (ordP l H ord) (H : Int)).getD y 0) y) true 0 (by omega) rfl ?_ ?_
 ·intro y c hy hc
  refine ⟨?_, by rw [hc]; rfl⟩
  have hc2 := hcnt y (by omega)
  rw [← hc] at hc2
  have hp := idle_pos hv hH hb hy
  show f_q1p_n33 (H : Int) (lenB l (ordP l H ord)) (sumJ l) c y a1 l (ordP l H ord) (idleL l (ordP l H ord) (H : Int)) = _
  unfold f_q1p_n33
  rw [hil, lt_true hy, inB_nat hy, toNat_nat, decide_eq_false (show ¬ (idleL l (ordP l H ord) (H : Int)).getD y 0 < 0 by omega), succ64 (by omega), IntWalk.i64_in (c + _) (by omega)]
  rfl
 ·intro hI
  have hsum := idle_sum hv hH hb
  rw [hI]
  have hc2 := hcnt H (Nat.le_refl _)
  show f_q1p_n33 (H : Int) (lenB l (ordP l H ord)) (sumJ l) (sm (fun y => (idleL l (ordP l H ord) (H : Int)).getD y 0) H) (H : Nat) a1 l (ordP l H ord) (idleL l (ordP l H ord) (H : Int)) = _
  unfold f_q1p_n33
  rw [hil, lt_neg, cond_false, hsum.symm, IntWalk.i64_in _ (by omega)]
  rw [show ((sm (fun y => (idleL l (ordP l H ord) (H : Int)).getD y 0) H + sumJ l) != (sm (fun y => (idleL l (ordP l H ord) (H : Int)).getD y 0) H + sumJ l)) = false by simp, cond_false, days_ok hvl hv hH ho hol ha]
  rfl
theorem work_ok : f_q1p_run28 ((H : Int), lenB l (ordP l H ord), 0, 0, a1, l, ordP l H ord, idleL l (ordP l H ord) (H : Int)) = some true := by
 have hb := ord_made hv hH ho hol
 have hn := hv.len
 have hcnt : ∀ n : Nat, n ≤ l.length → 0 ≤ sm (dn l) n ∧ sm (dn l) n ≤ (n : Int) * 30 := by
  intro n hn
  constructor
  ·have := sm_le (f := fun _ => 0) (g := dn l) n fun y hy => by have := hv.days y (by omega); omega
   rwa [sm_zero] at this
  ·rw [← sm_const]
   exact sm_le n fun y hy => (hv.days y (by omega)).2
 unfold f_q1p_run28
 refine run_countI (step := fun x => f_q1p_n28 x.1 x.2.1 x.2.2.1 x.2.2.2.1 x.2.2.2.2.1 x.2.2.2.2.2.1 x.2.2.2.2.2.2.1 x.2.2.2.2.2.2.2) l.length (fun i (c : Int) => ((H : Int), lenB l (ordP l H ord), c, (i : Int), a1, l, ordP l H ord, idleL l (ordP l H ord) (H : Int))) (fun c i => c + dn l i) (fun i c => c = sm (dn l) i) true 0 (by omega) rfl ?_ ?_
 ·intro i c hi hc
  refine ⟨?_, by rw [hc]; rfl⟩
  have hc2 := hcnt i (by omega)
  rw [← hc] at hc2
  have hd : 1 ≤ (l.getD i (0, 0)).1 ∧ (l.getD i (0, 0)).1 ≤ 30 := hv.days i hi
  show f_q1p_n28 (H : Int) (lenB l (ordP l H ord)) c i a1 l (ordP l H ord) (idleL l (ordP l H ord) (H : Int)) = _
  unfold f_q1p_n28
  rw [lt_true hi, inB_nat hi, toNat_nat, succ64 (by omega), IntWalk.i64_in (l.getD i (0, 0)).1 (by omega), IntWalk.i64_in (c + _) (by omega)]
  rfl
 ·intro hI
  rw [hI]
  show f_q1p_n28 (H : Int) (lenB l (ordP l H ord)) (sumJ l) (l.length : Nat) a1 l (ordP l H ord) (idleL l (ordP l H ord) (H : Int)) = _
  unfold f_q1p_n28
  rw [lt_neg, cond_false, idle_ok hvl hv hH ho hol ha]
  rfl
end
end Go.RR
namespace Go.RR
open Go
theorem ilength_eq {l : List Job} {H : Nat} {p : List Slot} (hvl : validB l = true) (hv : VJ l) (hH : 1 ≤ H ∧ H ≤ 4) (hb : MadeP l H p) : s_q09 l (H : Int) p = some (lenB l p, 0) := by
 have hn := hv.len
 unfold s_q09
 rw [icode_eq hv.ok (by omega), code_ok hvl hH (made_plan hv hH hb), ilen_eq hn (made_len hv hH hb)]
 rfl
theorem ivalid_made {l : List Job} {H : Nat} {p : List Slot} (hvl : validB l = true) (hv : VJ l) (hH : 1 ≤ H ∧ H ≤ 4) (hb : MadeP l H p) : s_q0j l (H : Int) p = some true := by
 have hn := hv.len
 rw [ivalid_eq hv.ok (by omega)]
 unfold slotsB
 rw [hvl, hands_ok hH, made_plan hv hH hb]; rfl
theorem ifirst_made {l : List Job} {H : Nat} {p : List Slot} (hvl : validB l = true) (hv : VJ l) (hH : 1 ≤ H ∧ H ≤ 4) (hb : MadeP l H p) : s_q04 l (H : Int) p = some (0, 6) := by
 have hp := made_plan hv hH hb
 unfold planB at hp
 obtain ⟨_, hf⟩ := Bool.and_eq_true_iff.1 hp
 rw [ifirst_eq hv.ok hvl hH (made_len hv hH hb), hf, cond_true]
theorem idle_both {l : List Job} {H : Nat} {p : List Slot} (hvl : validB l = true) (hv : VJ l) (hH : 1 ≤ H ∧ H ≤ 4) (hb : MadeP l H p) : s_q0z l (H : Int) p = some (idleL l p (H : Int), 0) ∧ s_q0u l (H : Int) p = some (idleL l p (H : Int), 0) := by
 have hn := hv.len
 have hpl := made_len hv hH hb
 have hc := code_ok hvl hH (made_plan hv hH hb)
 have hk := hand_ok (made_slots hv hH hb) hc
 have hrep : s_q1r [lenB l p] (H : Int) = some (List.replicate (H : Int).toNat (lenB l p)) := by
  unfold s_q1r
  rw [decide_eq_true (show (1 : Int) ≤ (H : Int) by omega), decide_eq_true (show (H : Int) ≤ 4 by omega)]
  rfl
 unfold s_q0z s_q0u
 rw [splanned_eq hv.ok (by omega), icode_eq hv.ok (by omega), hc, ilen_eq hn hpl]
 simp only [Option.bind, hrep, sidle_run hn hpl hk (show 1 ≤ (H : Int) ∧ (H : Int) ≤ 4 by omega), iidle_sub hn hpl hk]
 exact ⟨rfl, rfl⟩
theorem law_Plans {l0 l1 : List Int} (h0 : l0.length ≤ maxLen) (b0 : ∀ x ∈ l0, 0 ≤ x ∧ x ≤ 255) (h1 : l1.length ≤ maxLen) (b1 : ∀ x ∈ l1, 0 ≤ x ∧ x ≤ 255) : s_q1p l0 l1 = some true := by
 unfold s_q1p s_q20
 by_cases q0 : ((l0.length : Nat) : Int) > 3000
 ·rw [decide_eq_true q0]; rfl
 by_cases q1 : ((l1.length : Nat) : Int) > 3000
 ·rw [decide_eq_true q1, decide_eq_false q0]; rfl
 rw [decide_eq_false q0, decide_eq_false q1, cond_false, cond_false]
 have ha1 : Byt l1 := ⟨by omega, b1⟩
 obtain ⟨l, e1, hl⟩ := jobs_drawn (a := l0) ⟨by omega, b0⟩
 obtain ⟨r, e2, hr⟩ := at_nat (i := 0) (k := 3) ha1 (by omega)
 have e2 : s_q2a l1 0 3 = some (r : Int) := e2
 obtain ⟨ord, e3, ho, hol⟩ := order_drawn ha1 hl.ok hl.valid
 have hv := valid_vj hl.ok hl.valid
 have hn := hv.len
 have hl6 := hl.len
 have hH : 1 ≤ r + 1 ∧ r + 1 ≤ 4 := by omega
 have eH : IntKind.wrap .i64 (1 + (r : Int)) = ((r + 1 : Nat) : Int) := by
  rw [IntWalk.i64_in _ (by omega)]; omega
 have hb := ord_made hv hH ho hol
 have hpo : planO ((r + 1 : Nat) : Int) l ord = (ordP l (r + 1) ord, 0) := by
  unfold planO
  rw [hl.valid, hands_ok hH, ho, decide_eq_true hol, toNat_nat]
  rfl
 have e4 := iplanO_eq (h := ((r + 1 : Nat) : Int)) (ord := ord) hl.ok (show l.length ≤ 100000000 by omega) (by omega)
 have e5 := splanO_eq (h := ((r + 1 : Nat) : Int)) (ord := ord) hl.ok (show l.length ≤ 100000000 by omega) (by omega)
 rw [hpo] at e4 e5
 have e6 := ibestP (h := ((r + 1 : Nat) : Int)) (Bg := 20000) hl.ok (show l.length ≤ 100000000 by omega)
 have e7 : s_q0x l ((r + 1 : Nat) : Int) 20000 = some (bestP l ((r + 1 : Nat) : Int) 20000) := by
  unfold s_q0x
  rw [sbestL hl.ok (by omega)]; rfl
 have hbp : bestP l ((r + 1 : Nat) : Int) 20000 = bestV l (r + 1) 20000 := by
  unfold bestP
  rw [hl.valid, hands_ok hH, show s_q25 20000 0 20000 = true from rfl, toNat_nat]; rfl
 rw [hbp] at e6 e7
 have hne : ((r + 1 : Nat) : Int) ≠ 0 := by omega
 have e8 : s_q0t l ((r + 1 : Nat) : Int) = some (boundB l ((r + 1 : Nat) : Int), 0) := by
  have e : s_q1a ((r + 1 : Nat) : Int) = s_q15 ((r + 1 : Nat) : Int) := rfl
  unfold s_q0t
  rw [iok_eq l (by omega), hl.valid, e, hands_ok hH, ibound_eq hl.ok hn hne]
  rfl
 have e9 : s_q0y l ((r + 1 : Nat) : Int) = some (boundB l ((r + 1 : Nat) : Int), 0) := by
  unfold s_q0y s_q11
  rw [sok_eq l (by omega), hl.valid, hands_ok hH, sbound_eq hl.ok hn (valid_ord hl.valid).2 hne]
  rfl
 have e10 := ilength_eq hl.valid hv hH hb
 have e11 := ifirst_made hl.valid hv hH hb
 have e12 := same_slots (ordP l (r + 1) ord) (by rw [made_len hv hH hb]; omega)
 have e13 := ivalid_made hl.valid hv hH hb
 have hbd := built_bound hv hb hH
 obtain ⟨e14, e15⟩ := idle_both hl.valid hv hH hb
 have hil : (idleL l (ordP l (r + 1) ord) ((r + 1 : Nat) : Int)).length = r + 1 := idle_len
 have e16 := same_ints (idleL l (ordP l (r + 1) ord) ((r + 1 : Nat) : Int)) (by omega)
 have e17 := work_ok hl.valid hv hH ho hol ha1
 have nn : ∀ x : Int, (x != x) = false := fun x => by simp
 rw [e1]; dsimp only [Option.bind]
 rw [e2]; dsimp only
 rw [e3, eH]; dsimp only
 rw [e4]; dsimp only
 rw [e5]; dsimp only
 rw [e6]; dsimp only
 rw [e7]; dsimp only
 rw [e8]; dsimp only
 rw [e9]; dsimp only
 rw [e10]; dsimp only
 rw [e11]; dsimp only
 have hv5 : (bestV l (r + 1) 20000).1.length ≤ 1000000 := by
  have := bestP_len (h := ((r + 1 : Nat) : Int)) (Bg := 20000) hl.ok
  rw [hbp] at this
  omega
 have e18 := same_slots _ hv5
 simp only [nn, cond_false, e12, e13, e14, e15, e16, e18, Bool.not_true, show ((0 : Int) != 0) = false from rfl, show ((6 : Int) != 6) = false from rfl, hil, e17, decide_eq_false (show ¬ lenB l (ordP l (r + 1) ord) < boundB l ((r + 1 : Nat) : Int) by omega)]
 by_cases hc : (goB l (r + 1) 20000).2 = 2
 ·have hbv : (bestV l (r + 1) 20000).2.2 = 7 := by
   unfold bestV
   rw [decide_eq_true hc]; rfl
  rw [hbv]
  rfl
 ·obtain ⟨b, g1, g2, g3, g4⟩ := goB_spec (Bg := 20000) hv hH ho hol hc
  have hbv : bestV l (r + 1) 20000 = (b, (goB l (r + 1) 20000).1.len, 0) := by
   unfold bestV
   rw [decide_eq_false hc, g1]; rfl
  have hbb := built_bound hv g2 hH
  rw [hbv]
  dsimp only
  rw [ilength_eq hl.valid hv hH g2, ivalid_made hl.valid hv hH g2, g3]
  rw [g3] at g4
  dsimp only
  rw [nn 0, nn (lenB l b), decide_eq_false (show ¬ lenB l b > lenB l (ordP l (r + 1) ord) by omega), decide_eq_false (show ¬ lenB l b < boundB l ((r + 1 : Nat) : Int) by omega)]
  rfl
end Go.RR
