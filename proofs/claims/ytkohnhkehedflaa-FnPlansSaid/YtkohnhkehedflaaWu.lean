/- The plain law of PlanInOrder. -/
import Derived.Test.YtkohnhkehedflaaWs
import Derived.Test.YtkohnhkehedflaaVr
set_option linter.unusedVariables false
set_option linter.unusedSimpArgs false
namespace Go.RR
open Go
theorem getD_at {α : Type} {l : List α} {i : Nat} (d : α) (h : i < l.length) : l.getD i d = l[i] := by
 rw [List.getD_eq_getElem?_getD, List.getElem?_eq_getElem h]; rfl
noncomputable def rdyB (l : List Job) (p : List Slot) (i : Nat) : Int := (List.range' 0 l.length).foldl (fun (m : Int) k => cond (waitsB l i k) (max m (doneB l p k)) m) 0
noncomputable def atB (fr : List Int) (rd : Int) (n : Nat) : Nat := (List.range' 1 n).foldl (fun at_ h => cond (decide (max (fr.getD h 0) rd < max (fr.getD at_ 0) rd)) h at_) 0
noncomputable def slotB (l : List Job) (p : List Slot) (fr : List Int) (i : Nat) : Slot :=
 (IntKind.wrap .i8 ((atB fr (rdyB l p i) (fr.length - 1) : Nat) : Int), IntKind.wrap .i16 (max (fr.getD (atB fr (rdyB l p i) (fr.length - 1)) 0) (rdyB l p i)))
theorem fold_at_le (f : Nat → Nat → Bool) : ∀ (k i a : Nat), a < i → (List.range' i k).foldl (fun at_ h => cond (f at_ h) h at_) a < i + k
 | 0, i, a, h => h
 | k + 1, i, a, h => by
  rw [List.range'_succ, List.foldl_cons]
  have := fold_at_le f k (i + 1) (cond (f a i) i a) (by cases f a i <;> simp <;> omega)
  omega
theorem atB_lt (fr : List Int) (rd : Int) (n : Nat) : atB fr rd n < 1 + n := fold_at_le _ n 1 0 (by omega)
theorem sput_eq {l : List Job} {p : List Slot} {fr : List Int} {i : Nat} (hj : JobsOK l) (hn : l.length ≤ 12) (hp : p.length = l.length) (hi : i < l.length) (hf : 1 ≤ fr.length ∧ fr.length ≤ 4) : s_q1z l p fr i = some (slotB l p fr i) := by
 unfold s_q1z f_q1z_run3
 refine run_count (step := fun x => f_q1z_n3 x.1 x.2.1 x.2.2.1 x.2.2.2.1 x.2.2.2.2.1 x.2.2.2.2.2.1 x.2.2.2.2.2.2.1 x.2.2.2.2.2.2.2) l.length (fun k (m : Int) => ((i : Int), m, (k : Int), l, p, fr, 0, 0)) (fun m k => cond (waitsB l i k) (max m (doneB l p k)) m) _ 0 (by omega) ?_ ?_
 ·intro k m hk
  show f_q1z_n3 i m k l p fr 0 0 = _
  unfold f_q1z_n3
  rw [lt_true hk, swaits_eq hj hi (by omega), sdone_eq hk (by omega), succ64 (by omega)]
  simp only [cond_true, Option.bind, max_eq]
  cases waitsB l i k <;> rfl
 ·show f_q1z_n3 i (rdyB l p i) (l.length : Nat) l p fr 0 0 = _
  unfold f_q1z_n3
  rw [lt_neg, cond_false]
  have key : f_q1z_run9 (rdyB l p i, 0, 1, fr, 0, 0) = some (slotB l p fr i) := by
   unfold f_q1z_run9
   have e := run_countI (step := fun x => f_q1z_n9 x.1 x.2.1 x.2.2.1 x.2.2.2.1 x.2.2.2.2.1 x.2.2.2.2.2) (fr.length - 1) (fun k (a : Nat) => (rdyB l p i, (a : Int), ((1 + k : Nat) : Int), fr, 0, 0)) (fun a k => cond (decide (max (fr.getD (1 + k) 0) (rdyB l p i) < max (fr.getD a 0) (rdyB l p i))) (1 + k) a) (fun k a => a < 1 + k) (slotB l p fr i) 0 (by omega) (by omega) ?_ ?_
   ·exact e
   ·intro k a hk ha
    refine ⟨?_, by cases decide (max (fr.getD (1 + k) 0) (rdyB l p i) < max (fr.getD a 0) (rdyB l p i)) <;> simp <;> omega⟩
    show f_q1z_n9 (rdyB l p i) a ((1 + k : Nat) : Int) fr 0 0 = _
    unfold f_q1z_n9
    rw [lt_true (show 1 + k < fr.length by omega), inB_nat (show 1 + k < fr.length by omega), inB_nat (show a < fr.length by omega), toNat_nat, toNat_nat, max_eq, max_eq, succ64 (by omega)]
    simp only [cond_true]
    have e1 : 1 + k + 1 = 1 + (k + 1) := by omega
    rw [e1]
    cases decide (max (fr.getD (1 + k) 0) (rdyB l p i) < max (fr.getD a 0) (rdyB l p i)) <;> rfl
   ·intro ha
    have e2 : (List.range' 0 (fr.length - 1)).foldl (fun a k => cond (decide (max (fr.getD (1 + k) 0) (rdyB l p i) < max (fr.getD a 0) (rdyB l p i))) (1 + k) a) 0 = atB fr (rdyB l p i) (fr.length - 1) := by
     have h1 : List.range' 1 (fr.length - 1) = (List.range' 0 (fr.length - 1)).map (1 + ·) := by rw [List.map_add_range']
     unfold atB
     rw [h1, List.foldl_map]
    rw [e2] at ha ⊢
    show f_q1z_n9 (rdyB l p i) (atB fr (rdyB l p i) (fr.length - 1) : Nat) ((1 + (fr.length - 1) : Nat) : Int) fr 0 0 = _
    unfold f_q1z_n9
    rw [show 1 + (fr.length - 1) = fr.length by omega, lt_neg, cond_false, inB_nat (by omega), toNat_nat, max_eq]
    rfl
  rw [key]
  rfl
theorem islot_eq {l : List Job} {p : List Slot} {fr : List Int} {i : Nat} (hj : JobsOK l) (hn : l.length ≤ 12) (hp : p.length = l.length) (hi : i < l.length) (hf : 1 ≤ fr.length ∧ fr.length ≤ 4) : s_q0q l p fr i = some (slotB l p fr i) := by
 unfold s_q0q f_q0q_run3
 refine run_countI (step := fun x => f_q0q_n3 x.1 x.2.1 x.2.2.1 x.2.2.2.1 x.2.2.2.2.1 x.2.2.2.2.2.1 x.2.2.2.2.2.2.1 x.2.2.2.2.2.2.2.1 x.2.2.2.2.2.2.2.2) l.length (fun k (m : Int) => ((i : Int), m, ((l.length : Nat) : Int), (k : Int), l, p, fr, 0, 0)) (fun m k => cond (waitsB l i k) (max m (doneB l p k)) m) (fun _ m => 0 ≤ m) _ 0 (by omega) (by omega) ?_ ?_
 ·intro k m hk hm
  refine ⟨?_, by cases waitsB l i k <;> simp <;> omega⟩
  show f_q0q_n3 i m (l.length : Nat) k l p fr 0 0 = _
  unfold f_q0q_n3
  rw [lt_true hk, inB_nat hk, inB_nat hi, toNat_nat, toNat_nat, iwaits_eq hj hi, inB_nat (show k < p.length by omega), succ64 (by omega)]
  simp only [cond_true, Option.bind]
  cases waitsB l i k <;> rfl
 ·intro hm
  have hm : 0 ≤ rdyB l p i := hm
  show f_q0q_n3 i (rdyB l p i) (l.length : Nat) (l.length : Nat) l p fr 0 0 = _
  unfold f_q0q_n3
  rw [lt_neg, cond_false]
  have key : f_q0q_run10 (rdyB l p i, 0, -1, ((fr.length : Nat) : Int), 0, 0, 0, fr) = some (slotB l p fr i) := by
   unfold f_q0q_run10
   have e := run_countI (step := fun x => f_q0q_n10 x.1 x.2.1 x.2.2.1 x.2.2.2.1 x.2.2.2.2.1 x.2.2.2.2.2.1 x.2.2.2.2.2.2.1 x.2.2.2.2.2.2.2) fr.length (fun k (a : Nat) => (rdyB l p i, (a : Int), (if k = 0 then -1 else max (fr.getD a 0) (rdyB l p i)), ((fr.length : Nat) : Int), (k : Int), 0, 0, fr)) (fun a k => if k = 0 then 0 else cond (decide (max (fr.getD k 0) (rdyB l p i) < max (fr.getD a 0) (rdyB l p i))) k a) (fun k a => a = 0 ∨ a < k) (slotB l p fr i) 0 (by omega) (.inl rfl) ?_ ?_
   ·exact e
   ·intro k a hk ha
    refine ⟨?_, ?_⟩
    ·show f_q0q_n10 (rdyB l p i) a (if k = 0 then -1 else max (fr.getD a 0) (rdyB l p i)) (fr.length : Nat) k 0 0 fr = _
     unfold f_q0q_n10
     rw [lt_true hk, inB_nat hk, toNat_nat, succ64 (by omega), if_neg (show ¬ k + 1 = 0 by omega)]
     by_cases h0 : k = 0
     ·subst h0
      simp
     ·rw [if_neg h0, if_neg h0, decide_eq_false (show ¬ max (fr.getD a 0) (rdyB l p i) < 0 by omega)]
      simp only [cond_true, cond_false]
      cases decide (max (fr.getD k 0) (rdyB l p i) < max (fr.getD a 0) (rdyB l p i)) <;> rfl
    ·by_cases h0 : k = 0
     ·rw [if_pos h0]; exact .inl rfl
     ·rw [if_neg h0]
      cases decide (max (fr.getD k 0) (rdyB l p i) < max (fr.getD a 0) (rdyB l p i))
      ·simp only [cond_false]; omega
      ·simp only [cond_true]; omega
   ·intro ha
    have e2 : (List.range' 0 fr.length).foldl (fun a k => if k = 0 then 0 else cond (decide (max (fr.getD k 0) (rdyB l p i) < max (fr.getD a 0) (rdyB l p i))) k a) 0 = atB fr (rdyB l p i) (fr.length - 1) := by
     obtain ⟨m, hm⟩ : ∃ m, fr.length = m + 1 := ⟨fr.length - 1, by omega⟩
     rw [hm, List.range'_succ, List.foldl_cons]
     unfold atB
     simp only [if_true, Nat.add_sub_cancel, Nat.zero_add]
     refine foldl_ext' _ _ fun k hk a => ?_
     have := (List.mem_range'_1.1 hk).1
     rw [if_neg (by omega)]
    rw [e2]
    show f_q0q_n10 (rdyB l p i) (atB fr (rdyB l p i) (fr.length - 1) : Nat) (if fr.length = 0 then -1 else _) (fr.length : Nat) (fr.length : Nat) 0 0 fr = _
    unfold f_q0q_n10
    rw [lt_neg, cond_false, if_neg (by omega)]
    rfl
  rw [key]
  rfl
theorem within_eq (n a b : Int) : s_q1v n a b = s_q25 n a b := rfl
theorem slot_hand {l : List Job} {p : List Slot} {fr : List Int} {i : Nat} (hf : 1 ≤ fr.length ∧ fr.length ≤ 4) : ∃ h : Nat, h < fr.length ∧ (slotB l p fr i).1 = (h : Int) := by
 have := atB_lt fr (rdyB l p i) (fr.length - 1)
 refine ⟨atB fr (rdyB l p i) (fr.length - 1), by omega, ?_⟩
 unfold slotB
 exact IntWalk.i8_in _ (by omega)
theorem hands_le {h : Int} (hh : s_q15 h = true) : ∃ n : Nat, h = (n : Int) ∧ 1 ≤ n ∧ n ≤ 4 := by
 unfold s_q15 s_q25 at hh
 by_cases h1 : h ≥ 1
 ·rw [decide_eq_true h1, cond_true] at hh
  have := of_decide_eq_true hh
  exact ⟨h.toNat, by omega, by omega, by omega⟩
 ·rw [decide_eq_false h1, cond_false] at hh; cases hh
theorem mkh_ok {n : Nat} (h : n ≤ 4) : (decide (0 ≤ ((n : Nat) : Int)) && decide (((n : Nat) : Int) = ((n : Nat) : Int)) && fits ((Int.toNat ((n : Nat) : Int)) * 8)) = true := mk_ok n 8 (by omega)
end Go.RR
