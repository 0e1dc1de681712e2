/- The plain laws of NearestOf and VoteOf. -/
import Derived.Test.YtkohnhkehedflaaWe
import Derived.Test.YtkohnhkehedflaaVs
set_option linter.unusedVariables false
set_option linter.unusedSimpArgs false
namespace Go.RR
open Go

theorem any_not_all {α : Type} (p : α → Bool) : ∀ l : List α, (l.any fun x => !p x) = !l.all p
  | [] => rfl
  | x :: m => by rw [List.any_cons, List.all_cons, any_not_all p m]; cases p x <;> rfl
abbrev PicsOK (l : List Pic) : Prop := ∀ x ∈ l, I8 x.1 ∧ I8 x.2.1 ∧ U8 x.2.2
abbrev pd : Pic := (0, 0, zF)
noncomputable def okPic (p : Pic) : Bool := s_sl01Ok p.1 p.2.1 p.2.2
noncomputable def sameAs (l : List Pic) (p : Pic) : Bool := !(p.1 != (l.getD 0 pd).1) && !(p.2.1 != (l.getD 0 pd).2.1)
noncomputable def codeL (l : List Pic) : Int := cond (l.all okPic) (cond (l.all (sameAs l)) 0 4) 1
theorem inB0 {n : Nat} (h : 0 < n) : inB 0 n = true := inB_of (by omega)
theorem all7 {l : List Pic} (hn : l.length ≤ 100000000) : f_sl06All_run7 (1, l) = some (cond (l.all (sameAs l)) 0 4) := by
  unfold f_sl06All_run7
  by_cases h0 : l.length = 0
  · have : l = [] := List.eq_nil_of_length_eq_zero h0
    subst this
    obtain ⟨k, hk⟩ := FU_steps 1 (by decide)
    rw [hk]
    rfl
  · have hp0 : sameAs l (l.getD 0 pd) = true := by unfold sameAs; simp
    have h := iter_all2 (step := fun x => f_sl06All_n7 x.1 x.2) l.length (fun i => ((i : Int), l)) (fun i => sameAs l (l.getD i pd)) 0 4 ?_ ?_ (l.length - 1) 1 FU (by omega) (FU_big (pow_big (by omega))) (fun j hj => by
      have : j = 0 := by omega
      rw [this]; exact hp0)
    · refine h.trans ?_
      have e : (List.range' 0 l.length).all (fun i => sameAs l (l.getD i pd)) = (List.range' 1 (l.length - 1)).all fun i => sameAs l (l.getD i pd) := by
        obtain ⟨m, hm⟩ : ∃ m, l.length = m + 1 := ⟨l.length - 1, by omega⟩
        rw [hm, List.range'_succ, List.all_cons, hp0]
        rfl
      rw [← e, all_getD pd l (sameAs l)]
    · intro i hi
      show f_sl06All_n7 i l = _
      unfold f_sl06All_n7 sameAs
      rw [lt_true hi, inB_nat hi, inB0 (by omega), toNat_nat, succ64 (by omega)]
      simp only [cond_true]
      cases (l.getD i pd).1 != (l.getD 0 pd).1
      · cases (l.getD i pd).2.1 != (l.getD 0 pd).2.1 <;> rfl
      · rfl
    · intro _
      show f_sl06All_n7 (l.length : Nat) l = _
      unfold f_sl06All_n7
      rw [lt_neg, cond_false]
theorem sall_eq {l : List Pic} (hn : l.length ≤ 100000000) : s_sl06All l = some (codeL l) := by
  unfold s_sl06All f_sl06All_run2
  refine (run_allL2 (step := fun x => f_sl06All_n2 x.1 x.2) pd l (fun i => ((i : Int), l)) okPic (cond (l.all (sameAs l)) 0 4) 1 (by omega) ?_ ?_).trans rfl
  · intro i hi _
    show f_sl06All_n2 i l = _
    unfold f_sl06All_n2 okPic
    rw [lt_true hi, inB_nat hi, toNat_nat, succ64 (by omega)]
    simp only [cond_true]
    cases s_sl01Ok (l.getD i pd).1 (l.getD i pd).2.1 (l.getD i pd).2.2 <;> rfl
  · intro _
    show f_sl06All_n2 (l.length : Nat) l = _
    unfold f_sl06All_n2
    rw [lt_neg, cond_false, all7 hn]
    rfl
theorem iall_eq {l : List Pic} (hn : l.length ≤ 100000000) (hb : PicsOK l) : s_icodeAlike l = some (codeL l) := by
  have ha : s_gContainsFunc_Picture_a l = some (!(l.all okPic)) := by
    unfold s_gContainsFunc_Picture_a s_gIndexFunc_Picture_a f_gIndexFunc_Picture_a_run2
    have hs1 : ∀ i, i < l.length → f_gIndexFunc_Picture_a_n2 (l.length : Nat) i l = some (cond (!(okPic (l.getD i pd))) (Sum.inr (i : Int)) (Sum.inl (((l.length : Nat) : Int), ((i + 1 : Nat) : Int), l))) := by
      intro i hi
      have hbi := hb _ (getD_mem' (d := pd) hi)
      unfold f_gIndexFunc_Picture_a_n2 s_icodeAlike_1 okPic
      rw [lt_true hi, inB_nat hi, toNat_nat, succ64 (by omega), valid_eq hbi.1 hbi.2.1]
      simp only [cond_true]
      cases s_sl01Ok (l.getD i pd).1 (l.getD i pd).2.1 (l.getD i pd).2.2 <;> rfl
    have he1 : f_gIndexFunc_Picture_a_n2 (l.length : Nat) (l.length : Nat) l = some (Sum.inr (-1)) := by
      unfold f_gIndexFunc_Picture_a_n2
      rw [lt_neg, cond_false]
    obtain ⟨r, h1, h2, _⟩ := run_idx (step := fun x => f_gIndexFunc_Picture_a_n2 x.1 x.2.1 x.2.2) l.length (fun i => (((l.length : Nat) : Int), (i : Int), l)) (fun i => !(okPic (l.getD i pd))) hs1 he1 l.length 0 FU (by omega) (FU_big (pow_big (by omega)))
    have h1 : iter (fun x => f_gIndexFunc_Picture_a_n2 x.1 x.2.1 x.2.2) FU (((l.length : Nat) : Int), 0, l) = some r := h1
    rw [h1]
    simp only [Option.bind]
    rw [h2, any_getD pd l fun x => !(okPic x)]
    exact congrArg some (any_not_all okPic l)
  have hbb : s_gContainsFunc_Picture_b l l = some (!(l.all (sameAs l))) := by
    unfold s_gContainsFunc_Picture_b s_gIndexFunc_Picture_b f_gIndexFunc_Picture_b_run2
    have hs1 : ∀ i, i < l.length → f_gIndexFunc_Picture_b_n2 (l.length : Nat) i l l = some (cond (!(sameAs l (l.getD i pd))) (Sum.inr (i : Int)) (Sum.inl (((l.length : Nat) : Int), ((i + 1 : Nat) : Int), l, l))) := by
      intro i hi
      unfold f_gIndexFunc_Picture_b_n2 s_icodeAlike_2 sameAs
      rw [lt_true hi, inB_nat hi, inB0 (by omega), toNat_nat, succ64 (by omega)]
      simp only [cond_true]
      cases (l.getD i pd).1 != (l.getD 0 pd).1
      · cases (l.getD i pd).2.1 != (l.getD 0 pd).2.1 <;> rfl
      · rfl
    have he1 : f_gIndexFunc_Picture_b_n2 (l.length : Nat) (l.length : Nat) l l = some (Sum.inr (-1)) := by
      unfold f_gIndexFunc_Picture_b_n2
      rw [lt_neg, cond_false]
    obtain ⟨r, h1, h2, _⟩ := run_idx (step := fun x => f_gIndexFunc_Picture_b_n2 x.1 x.2.1 x.2.2.1 x.2.2.2) l.length (fun i => (((l.length : Nat) : Int), (i : Int), l, l)) (fun i => !(sameAs l (l.getD i pd))) hs1 he1 l.length 0 FU (by omega) (FU_big (pow_big (by omega)))
    have h1 : iter (fun x => f_gIndexFunc_Picture_b_n2 x.1 x.2.1 x.2.2.1 x.2.2.2) FU (((l.length : Nat) : Int), 0, l, l) = some r := h1
    rw [h1]
    simp only [Option.bind]
    rw [h2, any_getD pd l fun x => !(sameAs l x)]
    exact congrArg some (any_not_all (sameAs l) l)
  unfold s_icodeAlike codeL
  rw [ha, hbb]
  cases l.all okPic <;> cases l.all (sameAs l) <;> rfl
theorem codeL_ok {l : List Pic} (h : codeL l = 0) : (∀ x ∈ l, okPic x = true) ∧ ∀ x ∈ l, x.1 = (l.getD 0 pd).1 ∧ x.2.1 = (l.getD 0 pd).2.1 := by
  unfold codeL at h
  cases h1 : l.all okPic
  · rw [h1] at h; cases h
  · cases h2 : l.all (sameAs l)
    · rw [h1, h2] at h; cases h
    · refine ⟨fun x hx => List.all_eq_true.1 h1 x hx, fun x hx => ?_⟩
      have := List.all_eq_true.1 h2 x hx
      unfold sameAs at this
      simpa using this

/-! ### copies of pictures -/
theorem mk_ok (n k : Nat) (h : n * k ≤ 140737488355328) : (decide (0 ≤ ((n : Nat) : Int)) && decide (((n : Nat) : Int) = ((n : Nat) : Int)) && fits ((Int.toNat ((n : Nat) : Int)) * k)) = true := by
  rw [toNat_nat, fits_small h]
  simp
/-! ### NearestOf -/
noncomputable def agree (f g : Nat → Int) : Int × Int := (List.range' 0 144).foldl (fun st (i : Nat) => cond (f i == 0) st (cond (g i == 0) st (cond (f i == g i) (IntKind.wrap .i64 (st.1 + 1), st.2) (st.1, IntKind.wrap .i64 (st.2 + 1))))) (0, 0)
theorem s73_eq (w h : Int) (f : Nat → Int) (w2 h2 : Int) (g : Nat → Int) : s_sl06Agree w h f w2 h2 g = some (agree f g) := by
  unfold s_sl06Agree f_sl06Agree_run4
  refine run_count 144 (fun i (st : Int × Int) => (st.1, st.2, (i : Int), w, h, f, w2, h2, g)) (fun st (i : Nat) => cond (f i == 0) st (cond (g i == 0) st (cond (f i == g i) (IntKind.wrap .i64 (st.1 + 1), st.2) (st.1, IntKind.wrap .i64 (st.2 + 1))))) (agree f g) (0, 0) (by decide) ?_ ?_
  · intro i st hi
    unfold f_sl06Agree_n4
    rw [lt144 hi, inB_nat hi, succ64 (by omega)]
    simp only [cond_true, toNat_nat]
    cases f i == 0
    · cases g i == 0
      · cases f i == g i <;> rfl
      · rfl
    · rfl
  · unfold f_sl06Agree_n4
    rw [end144, cond_false]
    rfl
theorem s74_eq (w h : Int) (f : Nat → Int) (w2 h2 : Int) (g : Nat → Int) : s_iagreement w h f w2 h2 g = some (agree f g) := by
  unfold s_iagreement f_iagreement_run3
  refine run_count 144 (fun i (st : Int × Int) => (st.1, st.2, f, (i : Int), w2, h2, g)) (fun st (i : Nat) => cond (f i == 0) st (cond (g i == 0) st (cond (f i == g i) (IntKind.wrap .i64 (st.1 + 1), st.2) (st.1, IntKind.wrap .i64 (st.2 + 1))))) (agree f g) (0, 0) (by decide) ?_ ?_
  · intro i st hi
    unfold f_iagreement_n3
    rw [lt144 hi, inB_nat hi, succ64 (by omega)]
    simp only [cond_true, toNat_nat]
    cases f i == 0
    · cases g i == 0
      · cases f i == g i <;> rfl
      · rfl
    · rfl
  · unfold f_iagreement_n3
    rw [end144, cond_false]
    rfl
noncomputable def dist (l : List Pic) (g : Nat → Int) (i : Nat) : Int := (agree (l.getD i pd).2.2 g).2
noncomputable def near (l : List Pic) (g : Nat → Int) (st : Int × Int) (i : Nat) : Int × Int := cond (decide (dist l g i < st.2)) ((i : Int), dist l g i) st
noncomputable def nearest (l : List Pic) (g : Nat → Int) : Int × Int := (List.range' 1 (l.length - 1)).foldl (near l g) (0, dist l g 0)
theorem sNear {l : List Pic} {w h : Int} {g : Nat → Int} (hn : 1 ≤ l.length) (hn2 : l.length ≤ 12) : f_sNearestOf_run9 (0, dist l g 0, 1, l, w, h, g) = some ((nearest l g).1, (nearest l g).2, 0) := by
  unfold f_sNearestOf_run9
  refine iter_count (fun x => f_sNearestOf_n9 x.1 x.2.1 x.2.2.1 x.2.2.2.1 x.2.2.2.2.1 x.2.2.2.2.2.1 x.2.2.2.2.2.2) l.length (fun i (st : Int × Int) => (st.1, st.2, (i : Int), l, w, h, g)) (near l g) _ ?_ (l.length - 1) 1 FU (by omega) (FU_big (pow_big (by omega))) (0, dist l g 0) ?_
  · intro i st hi
    show f_sNearestOf_n9 st.1 st.2 i l w h g = _
    unfold f_sNearestOf_n9
    rw [lt_true hi, inB_nat hi, toNat_nat, s73_eq, succ64 (by omega)]
    simp only [cond_true, Option.bind]
    unfold near
    show cond (decide (dist l g i < st.2)) _ _ = _
    cases decide (dist l g i < st.2) <;> rfl
  · show f_sNearestOf_n9 _ _ (l.length : Nat) l w h g = _
    unfold f_sNearestOf_n9
    rw [lt_neg, cond_false]
    rfl
noncomputable def nearI (l : List Pic) (g : Nat → Int) (st : Int × Int) (i : Nat) : Int × Int := cond (decide (st.1 < 0)) ((i : Int), dist l g i) (near l g st i)
theorem nearI_fold {l : List Pic} {g : Nat → Int} : ∀ (ks : List Nat) (st : Int × Int), 0 ≤ st.1 → ks.foldl (nearI l g) st = ks.foldl (near l g) st
  | [], st, h => rfl
  | k :: ks, st, h => by
    have e : nearI l g st k = near l g st k := by
      unfold nearI
      rw [decide_eq_false (by omega)]; rfl
    rw [List.foldl_cons, List.foldl_cons, e]
    refine nearI_fold ks _ ?_
    unfold near
    cases decide (dist l g k < st.2)
    · exact h
    · show 0 ≤ (k : Int); omega
theorem iNear {l : List Pic} {w h : Int} {g : Nat → Int} (hn : 1 ≤ l.length) (hn2 : l.length ≤ 12) : f_iNearestOf_run8 ((-1), 0, ((l.length : Nat) : Int), 0, w, h, g, l) = some ((nearest l g).1, (nearest l g).2, 0) := by
  unfold f_iNearestOf_run8
  refine run_count l.length (fun i (st : Int × Int) => (st.1, st.2, ((l.length : Nat) : Int), (i : Int), w, h, g, l)) (nearI l g) _ (-1, 0) (by omega) ?_ ?_
  · intro i st hi
    show f_iNearestOf_n8 st.1 st.2 (l.length : Nat) i w h g l = _
    unfold f_iNearestOf_n8
    rw [lt_true hi, inB_nat hi, toNat_nat, s74_eq, succ64 (by omega)]
    simp only [cond_true, Option.bind]
    unfold nearI near
    show cond (decide (st.1 < 0)) _ (cond (decide (dist l g i < st.2)) _ _) = _
    cases decide (st.1 < 0)
    · cases decide (dist l g i < st.2) <;> rfl
    · rfl
  · have e : (List.range' 0 l.length).foldl (nearI l g) (-1, 0) = nearest l g := by
      obtain ⟨m, hm⟩ : ∃ m, l.length = m + 1 := ⟨l.length - 1, by omega⟩
      unfold nearest
      rw [hm, List.range'_succ, List.foldl_cons]
      have e0 : nearI l g (-1, 0) 0 = (0, dist l g 0) := rfl
      rw [e0, nearI_fold _ _ (by show (0 : Int) ≤ 0; omega)]
      rfl
    rw [e]
    show f_iNearestOf_n8 _ _ (l.length : Nat) (l.length : Nat) w h g l = _
    unfold f_iNearestOf_n8
    rw [lt_neg, cond_false]
theorem len_in {n : Nat} (h : s_sl00In ((n : Nat) : Int) 1 12 = true) : 1 ≤ n ∧ n ≤ 12 := by
  rw [s57_eq] at h
  simp only [Bool.and_eq_true, decide_eq_true_eq] at h
  omega
end Go.RR
