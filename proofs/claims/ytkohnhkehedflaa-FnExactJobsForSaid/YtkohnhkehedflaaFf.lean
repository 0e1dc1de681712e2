/- Plain laws of fields: all fields of a picture, the program's and the reference's. No condition; no theorem of the program. -/
import Derived.Test.YtkohnhkehedflaaFe
set_option linter.unusedVariables false
set_option linter.unusedSimpArgs false
namespace Go.RR
open Go

theorem listed_ok (p : Nat → Bool) : s_sl01Listed p = some (cst (listed p)) := by
  have hf : ∀ (l : List Nat) (st : List Int), l.foldl (fun st i => cond (p i) (st ++ [(i : Int)]) st) st = st ++ cst (l.filter p) := by
    intro l
    induction l with
    | nil => intro st; simp [cst]
    | cons a l ih =>
      intro st
      rw [List.foldl_cons, ih, List.filter_cons]
      cases p a <;> simp [cst]
  unfold s_sl01Listed f_sl01Listed_run3
  refine (run_countI (step := fun x => f_sl01Listed_n3 x.1 x.2.1 x.2.2) 144 (fun i st => ((i : Int), p, st)) (fun st i => cond (p i) (st ++ [(i : Int)]) st) (fun i st => st.length ≤ i) (cst (listed p)) [] (by omega) (by simp) ?_ ?_).trans rfl
  · intro i st hi hI
    refine ⟨?_, by cases p i <;> simp <;> omega⟩
    show f_sl01Listed_n3 (i : Int) p st = _
    unfold f_sl01Listed_n3
    rw [decide_eq_true (show (i : Int) < 144 by omega), inB_nat hi, toNat_nat, fits_small (by simp; omega), IntWalk.i64_in ((i : Int) + 1) (by omega)]
    simp only [cond_true]
    cases p i <;> rfl
  · intro _
    rw [hf]
    show f_sl01Listed_n3 144 p _ = _
    unfold f_sl01Listed_n3
    rw [show decide ((144 : Int) < 144) = false from rfl, cond_false, List.nil_append]
    unfold listed
    rw [List.range_eq_range']
def fdS (w h : Nat) (f : Nat → Int) (st : List (List Int) × (Nat → Bool)) (i : Nat) : List (List Int) × (Nat → Bool) :=
  cond (decide (isC w h i) && !st.2 i) (st.1 ++ [cst (listed fun k => (comp w h f i).contains k)], fun k => st.2 k || (comp w h f i).contains k) st
def fdA (w h : Nat) (f : Nat → Int) : List (List Int) × (Nat → Bool) := (List.range' 0 144).foldl (fdS w h f) ([], zB)
theorem fdA_def (w h : Nat) (f : Nat → Int) : fdA w h f = (List.range' 0 144).foldl (fdS w h f) ([], zB) := rfl
theorem fdS_len (w h : Nat) (f : Nat → Int) (st : List (List Int) × (Nat → Bool)) (i : Nat) : (fdS w h f st i).1.length ≤ st.1.length + 1 := by
  unfold fdS
  cases decide (isC w h i) && !st.2 i <;> simp
theorem upd_true (l : List Nat) : ∀ d : Nat → Bool, l.foldl (fun d n => updb d n true) d = fun k => d k || l.contains k := by
  induction l with
  | nil => intro d; funext k; simp
  | cons a l ih =>
    intro d
    rw [List.foldl_cons, ih]
    funext k
    unfold updb
    by_cases e : k = a
    · subst e; rw [show Nat.beq k k = true from Nat.beq_refl k]; simp
    · rw [show Nat.beq k a = false from beqF e]; simp [e]
theorem upd_or (z : Nat → Bool) (l : List Nat) : ∀ d : Nat → Bool, l.foldl (fun d n => updb d n (d n || z n)) d = fun k => d k || (l.contains k && z k) := by
  induction l with
  | nil => intro d; funext k; simp
  | cons a l ih =>
    intro d
    rw [List.foldl_cons, ih]
    funext k
    unfold updb
    by_cases e : k = a
    · subst e
      rw [show Nat.beq k k = true from Nat.beq_refl k]
      cases d k <;> cases z k <;> simp
    · rw [show Nat.beq k a = false from beqF e]; simp [e]
theorem cell_dec {w h i : Nat} (hw : w ≤ 12) (hh : h ≤ 12) (f : Nat → Int) (hi : i < 144) : s_iPicture_has (w : Int) (h : Int) f (Int.tmod (i : Int) 12) (IntKind.wrap .i64 (Int.tdiv (i : Int) 12)) = decide (isC w h i) := by
  unfold s_iPicture_has
  rw [tdiv12, tmod12, IntWalk.i64_in ((i / 12 : Nat) : Int) (by omega), isCell_eq hw hh]
  exact decide_eq_decide.2 (by unfold isC; omega)
theorem is_dec {w h i : Nat} (hw : w ≤ 12) (hh : h ≤ 12) (f : Nat → Int) (hi : i < 144) : s_sl01Is (w : Int) (h : Int) f (i : Int) = decide (isC w h i) := by
  have h0 : s_sl00In (i : Int) 0 143 = true := by
    unfold s_sl00In
    rw [decide_eq_true (show (0 : Int) ≤ (i : Int) by omega), cond_true, decide_eq_true (show (i : Int) ≤ 143 by omega)]
  unfold s_sl01Is
  rw [h0, cond_true, tdiv12, tmod12, IntWalk.i64_in ((i / 12 : Nat) : Int) (by omega), IntWalk.i64_in (w : Int) (by omega), IntWalk.i64_in (h : Int) (by omega)]
  rw [Bool.eq_iff_iff, decide_eq_true_eq]
  unfold isC
  by_cases h1 : i % 12 < w
  · rw [decide_eq_true (show ((i % 12 : Nat) : Int) < (w : Int) by omega), cond_true, decide_eq_true_eq]; omega
  · rw [decide_eq_false (show ¬ ((i % 12 : Nat) : Int) < (w : Int) by omega), cond_false]
    simp [h1]
section
variable {w h : Nat} (hw : w ≤ 12) (hh : h ≤ 12) {f : Nat → Int}
include hw hh
theorem comp_lt {s : Nat} (hs : isC w h s) : ∀ x ∈ comp w h f s, x < 144 := fun x hx => isC_lt hh ((comp_ok hw hh hs).1.cell x hx)
theorem listed_comp {s : Nat} (hs : isC w h s) (k : Nat) : (listed fun k => (comp w h f s).contains k).contains k = (comp w h f s).contains k := by
  rw [Bool.eq_iff_iff, List.contains_iff_mem, listed_mem]
  exact ⟨fun h => h.2, fun h => ⟨comp_lt hw hh hs k (by simpa using h), h⟩⟩
theorem ifields_mark {i : Nat} (hi : i < 144) (hc : isC w h i) {o : List (List Int)} (ho : o.length ≤ i) (d : Nat → Bool) :
    f_iPicture_fields_run8 ((i : Int), (((cst (listed fun k => (comp w h f i).contains k)).length : Nat) : Int), 0, (w : Int), (h : Int), f, o, d, cst (listed fun k => (comp w h f i).contains k)) = some (.inl (((i + 1 : Nat) : Int), (w : Int), (h : Int), f, o ++ [cst (listed fun k => (comp w h f i).contains k)], fun k => d k || (comp w h f i).contains k)) := by
  have hlm : ∀ x ∈ listed fun k => (comp w h f i).contains k, x < 144 := fun x hx => (listed_mem.1 hx).1
  have hll := nodup_len (listed_nodup fun k => (comp w h f i).contains k) hlm
  have hcon := listed_comp hw hh (f := f) hc
  generalize (listed fun k => (comp w h f i).contains k) = l at *
  unfold f_iPicture_fields_run8
  refine (run_countI (step := fun x => f_iPicture_fields_n8 x.1 x.2.1 x.2.2.1 x.2.2.2.1 x.2.2.2.2.1 x.2.2.2.2.2.1 x.2.2.2.2.2.2.1 x.2.2.2.2.2.2.2.1 x.2.2.2.2.2.2.2.2) l.length (fun j d => ((i : Int), (((cst l).length : Nat) : Int), (j : Int), (w : Int), (h : Int), f, o, d, cst l)) (fun d j => updb d (l.getD j 0) true) (fun _ _ => True) _ d (by omega) trivial ?_ ?_).trans rfl
  · intro j d hj _
    refine ⟨?_, trivial⟩
    have hjl : j < (cst l).length := by rw [cst_len]; exact hj
    have hx4 := hlm _ (getD_mem' (d := 0) hj)
    show f_iPicture_fields_n8 (i : Int) ((cst l).length : Nat) (j : Int) w h f o d (cst l) = _
    unfold f_iPicture_fields_n8
    rw [lt_true hjl, inB_nat hjl, toNat_nat, cst_get, inB_nat hx4, toNat_nat, IntWalk.i64_in ((j : Int) + 1) (by omega)]
    rfl
  · intro _
    rw [foldl_getD 0 (fun d n => updb d n true), upd_true]
    show f_iPicture_fields_n8 (i : Int) ((cst l).length : Nat) (l.length : Nat) w h f o _ (cst l) = _
    unfold f_iPicture_fields_n8
    rw [cst_len, lt_neg, cond_false, fits_small (by simp; omega), IntWalk.i64_in ((i : Int) + 1) (by omega), cond_true]
    simp only [hcon]
    rfl
theorem ifields_ok : s_iPicture_fields (w : Int) (h : Int) f = some (fdA w h f).1 := by
  unfold s_iPicture_fields f_iPicture_fields_run3
  refine (run_countI (step := fun x => f_iPicture_fields_n3 x.1 x.2.1 x.2.2.1 x.2.2.2.1 x.2.2.2.2.1 x.2.2.2.2.2) 144 (fun i st => ((i : Int), (w : Int), (h : Int), f, st.1, st.2)) (fdS w h f) (fun i st => st.1.length ≤ i) (fdA w h f).1 ([], zB) (by omega) (by simp) ?_ ?_).trans rfl
  · intro i st hi hI
    have hl := fdS_len w h f st i
    refine ⟨?_, by omega⟩
    show f_iPicture_fields_n3 (i : Int) w h f st.1 st.2 = _
    unfold f_iPicture_fields_n3 fdS
    rw [decide_eq_true (show (i : Int) < 144 by omega), cell_dec hw hh f hi, inB_nat hi, toNat_nat, IntWalk.i64_in ((i : Int) + 1) (by omega)]
    simp only [cond_true]
    by_cases hc : isC w h i
    · rw [decide_eq_true hc]
      simp only [Bool.not_true, cond_false, Bool.true_and]
      cases hd : st.2 i
      · simp only [Bool.not_false, cond_true, cond_false]
        rw [tdiv12, tmod12, IntWalk.i64_in ((i / 12 : Nat) : Int) (by omega), ifield_ok hw hh hc]
        exact ifields_mark hw hh hi hc hI st.2
      · rfl
    · rw [decide_eq_false hc]
      rfl
  · intro _
    have key : ∀ st : List (List Int) × (Nat → Bool), f_iPicture_fields_n3 ((144 : Nat) : Int) w h f st.1 st.2 = some (.inr st.1) := fun st => by
      unfold f_iPicture_fields_n3
      rw [show decide (((144 : Nat) : Int) < 144) = false from rfl, cond_false]
    rw [← fdA_def]
    generalize fdA w h f = st
    exact key st
theorem sfields_mark {i : Nat} (hi : i < 144) (hc : isC w h i) {o : List (List Int)} (ho : o.length ≤ i) (d : Nat → Bool) :
    f_sl01Fields_run9 ((i : Int), 0, (w : Int), (h : Int), f, o, d, fun k => (comp w h f i).contains k) = some (.inl (((i + 1 : Nat) : Int), (w : Int), (h : Int), f, o ++ [cst (listed fun k => (comp w h f i).contains k)], fun k => d k || (comp w h f i).contains k)) := by
  have hlt := comp_lt hw hh (f := f) hc
  have hz : ∀ k, (144 ≤ k) → (comp w h f i).contains k = false := fun k hk => by
    rw [Bool.eq_false_iff]
    intro e
    have := hlt k (by simpa using e)
    omega
  generalize hzz : (fun k => (comp w h f i).contains k) = z
  have hz : ∀ k, 144 ≤ k → z k = false := fun k hk => by rw [← hzz]; exact hz k hk
  have hd' : ∀ k, (comp w h f i).contains k = z k := fun k => by rw [← hzz]
  simp only [hd']
  unfold f_sl01Fields_run9
  refine (run_countI (step := fun x => f_sl01Fields_n9 x.1 x.2.1 x.2.2.1 x.2.2.2.1 x.2.2.2.2.1 x.2.2.2.2.2.1 x.2.2.2.2.2.2.1 x.2.2.2.2.2.2.2) 144 (fun j d => ((i : Int), (j : Int), (w : Int), (h : Int), f, o, d, z)) (fun d j => updb d j (d j || z j)) (fun _ _ => True) _ d (by omega) trivial ?_ ?_).trans rfl
  · intro j d hj _
    refine ⟨?_, trivial⟩
    show f_sl01Fields_n9 (i : Int) (j : Int) w h f o d z = _
    unfold f_sl01Fields_n9
    rw [decide_eq_true (show (j : Int) < 144 by omega), inB_nat hj, toNat_nat, IntWalk.i64_in ((j : Int) + 1) (by omega)]
    simp only [cond_true]
    cases d j <;> rfl
  · intro _
    rw [upd_or]
    show f_sl01Fields_n9 (i : Int) 144 w h f o _ z = _
    unfold f_sl01Fields_n9
    rw [show decide ((144 : Int) < 144) = false from rfl, cond_false, listed_ok]
    simp only [Option.bind]
    rw [fits_small (by simp; omega), IntWalk.i64_in ((i : Int) + 1) (by omega), cond_true]
    congr 8
    funext k
    by_cases hk : k < 144
    · rw [show (List.range' 0 144).contains k = true by simp [List.mem_range'_1]; omega, Bool.true_and]
    · rw [hz k (by omega), Bool.and_false]
theorem sfields_ok : s_sl01Fields (w : Int) (h : Int) f = some (fdA w h f).1 := by
  unfold s_sl01Fields f_sl01Fields_run4
  refine (run_countI (step := fun x => f_sl01Fields_n4 x.1 x.2.1 x.2.2.1 x.2.2.2.1 x.2.2.2.2.1 x.2.2.2.2.2) 144 (fun i st => ((i : Int), (w : Int), (h : Int), f, st.1, st.2)) (fdS w h f) (fun i st => st.1.length ≤ i) (fdA w h f).1 ([], zB) (by omega) (by simp) ?_ ?_).trans rfl
  · intro i st hi hI
    have hl := fdS_len w h f st i
    refine ⟨?_, by omega⟩
    show f_sl01Fields_n4 (i : Int) w h f st.1 st.2 = _
    unfold f_sl01Fields_n4 fdS
    rw [decide_eq_true (show (i : Int) < 144 by omega), is_dec hw hh f hi, inB_nat hi, toNat_nat, IntWalk.i64_in ((i : Int) + 1) (by omega)]
    simp only [cond_true]
    by_cases hc : isC w h i
    · rw [decide_eq_true hc]
      simp only [Bool.not_true, cond_false, Bool.true_and]
      cases hd : st.2 i
      · simp only [Bool.not_false, cond_true, cond_false]
        rw [sfield_ok hw hh hc]
        exact sfields_mark hw hh hi hc hI st.2
      · rfl
    · rw [decide_eq_false hc]
      rfl
  · intro _
    have key : ∀ st : List (List Int) × (Nat → Bool), f_sl01Fields_n4 ((144 : Nat) : Int) w h f st.1 st.2 = some (.inr st.1) := fun st => by
      unfold f_sl01Fields_n4
      rw [show decide (((144 : Nat) : Int) < 144) = false from rfl, cond_false]
    rw [← fdA_def]
    generalize fdA w h f = st
    exact key st
end
end Go.RR
