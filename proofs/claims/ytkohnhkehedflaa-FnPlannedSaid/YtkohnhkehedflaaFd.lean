/- Pictures of one size: what the functions answer. -/
import Derived.Test.YtkohnhkehedflaaFb
import Derived.Test.YtkohnhkehedflaaFc
import Derived.Test.YtkohnhkehedflaaWn
set_option linter.unusedVariables false
set_option linter.unusedSimpArgs false
namespace Go.RR
open Go

/-! ### lost cells -/
noncomputable def loseF (f : Nat → Int) (l : List Int) : Nat → Int := l.foldl (fun o x => upd o x.toNat 0) f
theorem loseF_at : ∀ (l : List Int) (f : Nat → Int) (j : Nat), (∀ x ∈ l, 0 ≤ x) → loseF f l j = if (j : Int) ∈ l then 0 else f j
  | [], f, j, _ => by simp [loseF]
  | x :: l, f, j, h => by
    have ih := loseF_at l (upd f x.toNat 0) j fun y hy => h y (List.mem_cons_of_mem _ hy)
    have hx := h x (by simp)
    show loseF (upd f x.toNat 0) l j = _
    rw [ih, upd_at]
    by_cases h1 : (j : Int) ∈ l
    · rw [if_pos h1, if_pos (List.mem_cons_of_mem _ h1)]
    · rw [if_neg h1]
      by_cases h2 : j = x.toNat
      · rw [if_pos h2, if_pos (by rw [h2, Int.toNat_of_nonneg hx]; simp)]
      · rw [if_neg h2, if_neg]
        intro hm
        rcases List.mem_cons.1 hm with hm | hm
        · omega
        · exact h1 hm
theorem hasN_eq {w h : Int} {f : Nat → Int} {j : Nat} : s_iPicture_hasNumber w h f (j : Int) = isIn w h j := by
  unfold s_iPicture_hasNumber
  rw [decide_eq_true (show (j : Int) ≥ 0 by omega)]
  rfl
theorem iLose_eq {w h : Int} {f : Nat → Int} {l : List Int} (hs : Siz w h) (hv : s_sl01Ok w h f = true) (hl : l.length ≤ 1000) (hall : ∀ x ∈ l, ∃ j : Nat, j < 144 ∧ isIn w h j = true ∧ x = (j : Int)) : s_iLoseCells w h f l = some (w, h, loseF f l, 0) := by
  obtain ⟨hw, hh⟩ := hs.i8
  unfold s_iLoseCells
  have hany : s_gContainsFunc_int64_a l w h f = some false := by
    unfold s_gContainsFunc_int64_a s_gIndexFunc_int64_a f_gIndexFunc_int64_a_run2
    have e := run_allL (step := fun x => f_gIndexFunc_int64_a_n2 x.1 x.2.1 x.2.2.1 x.2.2.2.1 x.2.2.2.2.1 x.2.2.2.2.2) (0 : Int) l (fun i => (((l.length : Nat) : Int), (i : Int), l, w, h, f)) (fun _ => true) (-1 : Int) (0 : Int) (by omega) ?_ ?_
    · have e2 : (l.all fun _ => true) = true := by simp
      rw [e2] at e
      have e : iter (fun x => f_gIndexFunc_int64_a_n2 x.1 x.2.1 x.2.2.1 x.2.2.2.1 x.2.2.2.2.1 x.2.2.2.2.2) FU (((l.length : Nat) : Int), 0, l, w, h, f) = some (-1) := e
      rw [e]; rfl
    · intro i hi hm
      show f_gIndexFunc_int64_a_n2 (l.length : Nat) i l w h f = _
      unfold f_gIndexFunc_int64_a_n2 s_iLoseCells_1
      rw [lt_true hi, inB_nat hi, toNat_nat, succ64 (by omega)]
      obtain ⟨j, _, h2, h3⟩ := hall _ hm
      rw [h3, hasN_eq, h2]; rfl
    · show f_gIndexFunc_int64_a_n2 (l.length : Nat) (l.length : Nat) l w h f = _
      unfold f_gIndexFunc_int64_a_n2
      rw [lt_neg, cond_false]
  rw [hany, valid_eq hw hh, hv]
  have run6 : f_iLoseCells_run6 (((l.length : Nat) : Int), 0, w, h, f, 0, 0, zF, l) = some (w, h, loseF f l, 0) := by
    unfold f_iLoseCells_run6
    refine run_list (0 : Int) l (fun i (o : Nat → Int) => (((l.length : Nat) : Int), (i : Int), w, h, o, 0, 0, zF, l)) (fun o x => upd o x.toNat 0) _ f (by omega) ?_ ?_
    · intro i o hi hm
      obtain ⟨j, hj, _, h3⟩ := hall _ hm
      show f_iLoseCells_n6 (l.length : Nat) i w h o 0 0 zF l = _
      unfold f_iLoseCells_n6
      rw [lt_true hi, inB_nat hi, toNat_nat, succ64 (by omega), h3, inB_nat hj]
      rfl
    · unfold f_iLoseCells_n6
      rw [lt_neg, cond_false]
      rfl
  exact run6

theorem sLose_eq {w h : Int} {f : Nat → Int} {l : List Int} (hs : Siz w h) (hv : s_sl01Ok w h f = true) (hl : l.length ≤ 1000) (hall : ∀ x ∈ l, ∃ j : Nat, j < 144 ∧ isIn w h j = true ∧ x = (j : Int)) : s_sLoseCells w h f l = some (w, h, loseF f l, 0) := by
  obtain ⟨hw, hh⟩ := hs.i8
  unfold s_sLoseCells
  rw [hv]
  have run9 : f_sLoseCells_run9 (0, l, w, h, f, 0, 0, zF) = some (w, h, loseF f l, 0) := by
    unfold f_sLoseCells_run9
    refine run_list (0 : Int) l (fun i (o : Nat → Int) => ((i : Int), l, w, h, o, 0, 0, zF)) (fun o x => upd o x.toNat 0) _ f (by omega) ?_ ?_
    · intro i o hi hm
      obtain ⟨j, hj, _, h3⟩ := hall _ hm
      show f_sLoseCells_n9 i l w h o 0 0 zF = _
      unfold f_sLoseCells_n9
      rw [lt_true hi, inB_nat hi, toNat_nat, succ64 (by omega), h3, inB_nat hj]
      rfl
    · unfold f_sLoseCells_n9
      rw [lt_neg, cond_false]
      rfl
  show f_sLoseCells_run4 (0, l, w, h, f, 0, 0, zF) = _
  unfold f_sLoseCells_run4
  have e := run_allL (step := fun x => f_sLoseCells_n4 x.1 x.2.1 x.2.2.1 x.2.2.2.1 x.2.2.2.2.1 x.2.2.2.2.2.1 x.2.2.2.2.2.2.1 x.2.2.2.2.2.2.2) (0 : Int) l (fun i => ((i : Int), l, w, h, f, 0, 0, zF)) (fun _ => true) (w, h, loseF f l, 0) (0, 0, zF, 2) (by omega) ?_ ?_
  · have e2 : (l.all fun _ => true) = true := by simp
    rw [e2] at e
    exact e
  · intro i hi hm
    show f_sLoseCells_n4 i l w h f 0 0 zF = _
    unfold f_sLoseCells_n4
    rw [lt_true hi, inB_nat hi, toNat_nat, succ64 (by omega)]
    obtain ⟨j, h1, h2, h3⟩ := hall _ hm
    have h4 : s_sl06Cell w h f (j : Int) = true := by
      unfold s_sl06Cell
      rw [s57_eq, decide_eq_true (by omega), decide_eq_true (by omega), s81_in hw hh h1, h2]; rfl
    rw [h3, h4]; rfl
  · show f_sLoseCells_n4 (l.length : Nat) l w h f 0 0 zF = _
    unfold f_sLoseCells_n4
    rw [lt_neg, cond_false, run9]
    rfl

theorem same_eq (l : List Int) (hl : l.length ≤ 100000) : s_sSameNumbers l l = some true := by
  unfold s_sSameNumbers s_sl00Same f_sl00Same_run4
  have nn : ∀ x : Int, (x != x) = false := fun x => by simp
  have e := run_allL (step := fun x => f_sl00Same_n4 x.1 x.2.1 x.2.2) (0 : Int) l (fun i => ((i : Int), l, l)) (fun _ => true) true false (by omega) ?_ ?_
  · have e2 : (l.all fun _ => true) = true := by simp
    rw [e2] at e
    have e : iter (fun x => f_sl00Same_n4 x.1 x.2.1 x.2.2) FU (0, l, l) = some true := e
    rw [nn, cond_false, e]; rfl
  · intro i hi hm
    show f_sl00Same_n4 i l l = _
    unfold f_sl00Same_n4
    rw [lt_true hi, inB_nat hi, toNat_nat, succ64 (by omega), nn]; rfl
  · show f_sl00Same_n4 (l.length : Nat) l l = _
    unfold f_sl00Same_n4
    rw [lt_neg, cond_false]
noncomputable def wrongOf (f g : Nat → Int) : List Int := ((List.range' 0 144).filter fun i => cond (f i != 0) (f i != g i) false).map fun i : Nat => (i : Int)
theorem push_cond {l : List Nat} {c d : Nat → Bool} : l.foldl (fun (s : List Int) (i : Nat) => cond (c i) (cond (d i) (s ++ [(i : Int)]) s) s) [] = (l.filter fun i => cond (c i) (d i) false).map fun i : Nat => (i : Int) := by
  have e : ∀ (s : List Int) (i : Nat), cond (c i) (cond (d i) (s ++ [(i : Int)]) s) s = cond (cond (c i) (d i) false) (s ++ [(i : Int)]) s := by
    intro s i
    cases c i <;> rfl
  simp only [e]
  rw [foldl_push (g := fun i : Nat => (i : Int))]
  rfl
theorem sWrong_run {w h : Int} {f : Nat → Int} {w2 h2 : Int} {g : Nat → Int} : f_sWrongStones_run6 (0, w, h, f, w2, h2, g, []) = some (wrongOf f g, 0) := by
  unfold f_sWrongStones_run6
  refine run_countI 144 (fun i (l : List Int) => ((i : Int), w, h, f, w2, h2, g, l)) (fun l i => cond (f i != 0) (cond (f i != g i) (l ++ [(i : Int)]) l) l) (fun i l => l.length ≤ i) _ [] (by decide) (Nat.le_refl _) ?_ ?_
  · intro i l hi hl
    constructor
    · show f_sWrongStones_n6 i w h f w2 h2 g l = _
      unfold f_sWrongStones_n6
      rw [lt144 hi, inB_nat hi, toNat_nat, succ64 (by omega)]
      simp only [cond_true]
      rw [fits_small (by simp; omega)]
      cases f i != 0
      · rfl
      · cases f i != g i <;> rfl
    · cases f i != 0
      · show l.length ≤ i + 1; omega
      · cases f i != g i
        · show l.length ≤ i + 1; omega
        · simp; omega
  · intro _
    unfold f_sWrongStones_n6
    rw [end144, cond_false, push_cond]
    rfl
theorem iWrong_run {w2 h2 : Int} {f g : Nat → Int} {w3 : Int} : f_iWrongStones_run6 (f, 0, w2, h2, g, []) = some (wrongOf f g, 0) := by
  unfold f_iWrongStones_run6
  refine run_countI 144 (fun i (l : List Int) => (f, (i : Int), w2, h2, g, l)) (fun l i => cond (f i != 0) (cond (f i != g i) (l ++ [(i : Int)]) l) l) (fun i l => l.length ≤ i) _ [] (by decide) (Nat.le_refl _) ?_ ?_
  · intro i l hi hl
    constructor
    · show f_iWrongStones_n6 f i w2 h2 g l = _
      unfold f_iWrongStones_n6
      have ec : (g i != f i) = (f i != g i) := by
        by_cases hq : f i = g i
        · rw [hq]
        · have : ¬ g i = f i := fun h => hq h.symm
          rw [bne_iff_ne.2 hq, bne_iff_ne.2 this]
      rw [lt144 hi, inB_nat hi, toNat_nat, succ64 (by omega), ec]
      simp only [cond_true]
      rw [fits_small (by simp; omega)]
      cases f i != 0
      · rfl
      · cases f i != g i <;> rfl
    · cases f i != 0
      · show l.length ≤ i + 1; omega
      · cases f i != g i
        · show l.length ≤ i + 1; omega
        · simp; omega
  · intro _
    unfold f_iWrongStones_n6
    rw [end144, cond_false, push_cond]
    rfl

theorem filled_b {w h : Int} {f : Nat → Int} {w2 h2 : Int} {g : Nat → Int} : s_ifilled_b w h f w2 h2 g = some (w, h, cellsF f g (cellsOf w h) f, countF f g (cellsOf w h)) := by
  unfold s_ifilled_b
  rw [s67_eq]
  simp only [Option.bind]
  unfold f_ifilled_b_run3
  refine run_list (0 : Int) (nums w h) (fun i (st : (Nat → Int) × Int) => (st.2, (((nums w h).length : Nat) : Int), (i : Int), w2, h2, g, w, h, f, 0, 0, zF, w, h, st.1, nums w h)) (fun st x => fillStep f g st x.toNat) _ (f, 0) (Nat.le_trans (nums_len w h) (by decide)) ?_ ?_
  · intro i st hi hm
    have hl := nums_len w h
    show f_ifilled_b_n3 st.2 (((nums w h).length : Nat) : Int) i w2 h2 g w h f 0 0 zF w h st.1 (nums w h) = _
    unfold f_ifilled_b_n3
    rw [lt_true hi, inB_nat hi, toNat_nat, succ64 (by omega)]
    obtain ⟨j, _, hj, ej⟩ := mem_nums hm
    rw [ej, inB_nat hj, toNat_nat]
    have hw : s_iFillFrom_1 j w2 h2 g = some (g j) := by unfold s_iFillFrom_1; rw [inB_nat hj]; rfl
    rw [hw]
    simp only [cond_true, Option.bind]
    have hu : upd st.1 j (g j) j = g j := by unfold upd; rw [Nat.beq_refl]; rfl
    rw [hu]
    unfold fillStep
    cases f j != 0
    · cases g j != 0 <;> rfl
    · rfl
  · have e : (nums w h).foldl (fun st (x : Int) => fillStep f g st x.toNat) (f, 0) = (cellsF f g (cellsOf w h) f, countF f g (cellsOf w h)) := by
      unfold nums
      rw [List.foldl_map]
      exact fill_fold f g (cellsOf w h) f
    rw [e]
    show f_ifilled_b_n3 _ (((nums w h).length : Nat) : Int) (((nums w h).length : Nat) : Int) w2 h2 g w h f 0 0 zF w h _ (nums w h) = _
    unfold f_ifilled_b_n3
    rw [lt_neg, cond_false]

/-! ### many pictures of one size -/
abbrev Alike (w h : Int) (l : List Pic) : Prop := ∀ x ∈ l, x.1 = w ∧ x.2.1 = h ∧ Drw w h x.2.2
theorem Alike.ok {w h : Int} {l : List Pic} (hs : Siz w h) (ha : Alike w h l) : PicsOK l := by
  obtain ⟨hw, hh⟩ := hs.i8
  intro x hx
  obtain ⟨h1, h2, h3⟩ := ha x hx
  refine ⟨by rw [h1]; exact hw, by rw [h2]; exact hh, fun j hj => ?_⟩
  have := h3.rng j hj
  omega
theorem Alike.code {w h : Int} {l : List Pic} (hs : Siz w h) (ha : Alike w h l) : codeL l = 0 := by
  have e1 : l.all okPic = true := by
    rw [List.all_eq_true]
    intro x hx
    obtain ⟨h1, h2, h3⟩ := ha x hx
    unfold okPic
    rw [h1, h2]
    exact valid_mk hs h3
  have e2 : l.all (sameAs l) = true := by
    rw [List.all_eq_true]
    intro x hx
    obtain ⟨h1, h2, h3⟩ := ha x hx
    cases l with
    | nil => cases hx
    | cons y l =>
      obtain ⟨g1, g2, g3⟩ := ha y (List.mem_cons_self ..)
      unfold sameAs
      rw [h1, h2]
      show (!(w != y.1) && !(h != y.2.1)) = true
      rw [g1, g2]
      simp
  unfold codeL
  rw [e1, e2]; rfl
theorem Alike.icode {w h : Int} {l : List Pic} (hs : Siz w h) (ha : Alike w h l) (hn : l.length ≤ 1000) : s_icodeAlike l = some 0 := by
  rw [iall_eq (by omega) (ha.ok hs), ha.code hs]
theorem Alike.scode {w h : Int} {l : List Pic} (hs : Siz w h) (ha : Alike w h l) (hn : l.length ≤ 1000) : s_sl06All l = some 0 := by
  rw [sall_eq (by omega), ha.code hs]
theorem alike2 {w h : Int} {f g : Nat → Int} (hf : Drw w h f) (hg : Drw w h g) : Alike w h [(w, h, f), (w, h, g)] := by
  intro x hx
  rcases List.mem_cons.1 hx with rfl | hx
  · exact ⟨rfl, rfl, hf⟩
  · rcases List.mem_cons.1 hx with rfl | hx
    · exact ⟨rfl, rfl, hg⟩
    · cases hx
theorem from_eq {w h : Int} {f g : Nat → Int} (hs : Siz w h) (hf : Drw w h f) (hg : Drw w h g) : s_iFillFrom w h f w h g = some (w, h, cellsF f g (cellsOf w h) f, countF f g (cellsOf w h), 0) := by
  unfold s_iFillFrom
  rw [(alike2 hf hg).icode hs (by simp), filled_b]
  rfl
theorem wrong_eq {w h : Int} {f g : Nat → Int} (hs : Siz w h) (hf : Drw w h f) (hg : Drw w h g) : s_iWrongStones w h f w h g = some (wrongOf f g, 0) ∧ s_sWrongStones w h f w h g = some (wrongOf f g, 0) := by
  unfold s_iWrongStones s_sWrongStones
  rw [(alike2 hf hg).icode hs (by simp), (alike2 hf hg).scode hs (by simp)]
  exact ⟨iWrong_run (w3 := 0), sWrong_run⟩
theorem agree_eq {w h : Int} {f g : Nat → Int} (hs : Siz w h) (hf : Drw w h f) (hg : Drw w h g) : s_iAgreement w h f w h g = some ((agree f g).1, (agree f g).2, 0) := by
  unfold s_iAgreement
  rw [(alike2 hf hg).icode hs (by simp), s74_eq]
  rfl
noncomputable def needed (f g : Nat → Int) : Nat → Int := (List.range' 0 144).foldl (fun st (i : Nat) => cond (g i != 0) (cond (f i == 0) (upd st (Int.toNat (g i)) (IntKind.wrap .i64 (st (Int.toNat (g i)) + 1))) st) st) zF
theorem needed_eq {w h : Int} {f g : Nat → Int} (hs : Siz w h) (hf : Drw w h f) (hg : Drw w h g) : s_iStonesNeeded w h f w h g = some (needed f g, 0) := by
  unfold s_iStonesNeeded
  rw [(alike2 hf hg).icode hs (by simp)]
  show f_iStonesNeeded_run6 (g, 0, w, h, f, zF, zF) = _
  unfold f_iStonesNeeded_run6
  refine run_count 144 (fun i (o : Nat → Int) => (g, (i : Int), w, h, f, zF, o)) (fun st (i : Nat) => cond (g i != 0) (cond (f i == 0) (upd st (Int.toNat (g i)) (IntKind.wrap .i64 (st (Int.toNat (g i)) + 1))) st) st) _ zF (by decide) ?_ ?_
  · intro i o hi
    show f_iStonesNeeded_n6 g i w h f zF o = _
    unfold f_iStonesNeeded_n6
    rw [lt144 hi, inB_nat hi, toNat_nat, succ64 (by omega)]
    have h1 := hg.rng i hi
    rw [inB_of (show 0 ≤ g i ∧ g i < 16 by omega)]
    simp only [cond_true]
    cases g i != 0
    · rfl
    · cases f i == 0 <;> rfl
  · show f_iStonesNeeded_n6 g ((144 : Nat) : Int) w h f zF _ = _
    unfold f_iStonesNeeded_n6
    rw [end144, cond_false]
    rfl
theorem cols_ok {w h : Int} {l : List Pic} (ha : Alike w h l) : ∀ x ∈ l, ∀ k, k < 144 → 0 ≤ x.2.2 k ∧ x.2.2 k < 16 := fun x hx k hk => (ha x hx).2.2.rng k hk
theorem head_pd {w h : Int} {l : List Pic} (ha : Alike w h l) (hn : 1 ≤ l.length) : (l.getD 0 pd).1 = w ∧ (l.getD 0 pd).2.1 = h := by
  cases l with
  | nil => cases hn
  | cons y l => exact ⟨(ha y (List.mem_cons_self ..)).1, (ha y (List.mem_cons_self ..)).2.1⟩
theorem vote_eq {w h : Int} {l : List Pic} (hs : Siz w h) (ha : Alike w h l) (hn : 1 ≤ l.length ∧ l.length ≤ 12) :
    s_iVoteOf l = some (w, h, cellsF zF (voteAt l) (cellsOf w h) zF, 0) ∧ s_sVoteOf l = some (w, h, cellsF zF (voteAt l) (List.range' 0 144) zF, 0) := by
  have hin : s_sl00In ((l.length : Nat) : Int) 1 12 = true := by
    rw [s57_eq, decide_eq_true (by omega), decide_eq_true (by omega)]; rfl
  have hin2 : s_iwithin ((l.length : Nat) : Int) 1 12 = true := hin
  obtain ⟨e1, e2⟩ := head_pd ha hn.1
  unfold s_iVoteOf s_sVoteOf
  rw [ha.icode hs (by omega), ha.scode hs (by omega), inB0 hn.1, s67_eq, hin, hin2]
  have e1' : (List.getD l 0 ((0, 0, zF) : (Int × Int × (Nat → Int)))).1 = w := e1
  have e2' : (List.getD l 0 ((0, 0, zF) : (Int × Int × (Nat → Int)))).2.1 = h := e2
  rw [e1', e2']
  exact ⟨iVote_run hn.2 (cols_ok ha), sVote_run hn.2 (cols_ok ha)⟩
theorem voteAt_zero {w h : Int} {l : List Pic} (hs : Siz w h) (ha : Alike w h l) {j : Nat} (hj : j < 144) (ho : ¬ j ∈ cellsOf w h) : voteAt l j = 0 := by
  obtain ⟨hw, hh⟩ := hs.i8
  have hz : ∀ c ∈ colsAt l j, c = 0 := by
    intro c hcm
    obtain ⟨p, hp, rfl⟩ := List.mem_map.1 hcm
    by_cases h1 : p.2.2 j = 0
    · exact h1
    · exfalso
      apply ho
      have hcell := (ha p hp).2.2.out j hj h1
      refine List.mem_filter.2 ⟨List.mem_range'_1.2 ⟨Nat.zero_le j, by omega⟩, ?_⟩
      rw [isIn_eq hw hh hj]
      simp [hcell]
  exact most_zero fun i hi => by rw [cnt_zero _ _ hz i hi]; rfl
theorem vote_cells {w h : Int} {l : List Pic} (hs : Siz w h) (ha : Alike w h l) {j : Nat} (hj : j < 144) :
    cellsF zF (voteAt l) (cellsOf w h) zF j = voteAt l j ∧ cellsF zF (voteAt l) (List.range' 0 144) zF j = voteAt l j := by
  have hr : j ∈ List.range' 0 144 := List.mem_range'_1.2 ⟨Nat.zero_le j, by omega⟩
  rw [cellsF_at (f := zF) (cellsOf w h), cellsF_at (f := zF) (List.range' 0 144)]
  refine ⟨?_, if_pos ⟨hr, rfl⟩⟩
  by_cases hin : j ∈ cellsOf w h
  · rw [if_pos ⟨hin, rfl⟩]
  · rw [if_neg (fun q => hin q.1), voteAt_zero hs ha hj hin]; rfl
theorem near_eq {w h : Int} {l : List Pic} {f : Nat → Int} (hs : Siz w h) (ha : Alike w h ((w, h, f) :: l)) (hn : 1 ≤ l.length ∧ l.length ≤ 12) :
    s_iNearestOf l w h f = some ((nearest l f).1, (nearest l f).2, 0) ∧ s_sNearestOf l w h f = some ((nearest l f).1, (nearest l f).2, 0) := by
  have hin : s_sl00In ((l.length : Nat) : Int) 1 12 = true := by
    rw [s57_eq, decide_eq_true (by omega), decide_eq_true (by omega)]; rfl
  have hin2 : s_iwithin ((l.length : Nat) : Int) 1 12 = true := hin
  have hc : s_icodeAlike ([(w, h, f)] ++ l) = some 0 := ha.icode hs (by simp; omega)
  have hc2 : s_sl06All ([(w, h, f)] ++ l) = some 0 := ha.scode hs (by simp; omega)
  unfold s_iNearestOf s_sNearestOf
  rw [fits_small (show (List.length ([(w, h, f)] : List (Int × Int × (Nat → Int))) + List.length l) * 146 ≤ 140737488355328 by simp; omega), hc, hc2, hin, hin2, inB0 hn.1, s73_eq]
  exact ⟨iNear hn.1 hn.2, sNear hn.1 hn.2⟩
end Go.RR
