/- The plain law of FnSymmetric. -/
import Derived.Test.YtkbolifaojmmhaaEb
set_option linter.unusedVariables false
set_option linter.unusedSimpArgs false
namespace Go.RR
open Go

/-! ### partners -/
theorem part_val {w h : Int} {f : Nat → Int} {k : Int} {i : Nat} (hs : Siz w h) (hi : i < 144) (hx : (i : Int) % 12 < w) (hy : (i : Int) / 12 < h) :
    s_sl06Partner w h f k i = (cond (k != 1) (w - 1 - (i : Int) % 12) ((i : Int) % 12)) + 12 * (cond (k != 0) (h - 1 - (i : Int) / 12) ((i : Int) / 12)) := by
  obtain ⟨hw, hh⟩ := hs
  unfold s_sl06Partner
  rw [col, lin (by omega), w64 (w := w) (by omega), w64 (w := h) (by omega)]
  have e1 : IntKind.wrap .i64 (w - 1) = w - 1 := IntWalk.i64_in _ (by omega)
  have e2 : IntKind.wrap .i64 (h - 1) = h - 1 := IntWalk.i64_in _ (by omega)
  rw [e1, e2]
  have e3 : IntKind.wrap .i64 (w - 1 - (i : Int) % 12) = w - 1 - (i : Int) % 12 := IntWalk.i64_in _ (by omega)
  have e4 : IntKind.wrap .i64 (h - 1 - (i : Int) / 12) = h - 1 - (i : Int) / 12 := IntWalk.i64_in _ (by omega)
  rw [e3, e4]
  have e5 : IntKind.wrap .i64 (12 * (h - 1 - (i : Int) / 12)) = 12 * (h - 1 - (i : Int) / 12) := IntWalk.i64_in _ (by omega)
  have e6 : IntKind.wrap .i64 (12 * ((i : Int) / 12)) = 12 * ((i : Int) / 12) := IntWalk.i64_in _ (by omega)
  cases k != 1 <;> cases k != 0 <;> simp only [cond_true, cond_false, e5, e6] <;> exact IntWalk.i64_in _ (by omega)
theorem part_spec {w h : Int} {k : Int} {i : Nat} (hs : Siz w h) (hi : i < 144) (hx : (i : Int) % 12 < w) (hy : (i : Int) / 12 < h) :
    ∃ q : Nat, q < 144 ∧ ((q : Int) % 12 < w ∧ (q : Int) / 12 < h) ∧ (∀ f, s_sl06Partner w h f k i = (q : Int)) ∧ ∀ f, s_sl06Partner w h f k q = (i : Int) := by
  have hw := hs.1
  have hh := hs.2
  have hv := fun f => part_val (f := f) (k := k) hs hi hx hy
  obtain ⟨x, ex⟩ : ∃ x : Int, x = cond (k != 1) (w - 1 - (i : Int) % 12) ((i : Int) % 12) := ⟨_, rfl⟩
  obtain ⟨y, ey⟩ : ∃ y : Int, y = cond (k != 0) (h - 1 - (i : Int) / 12) ((i : Int) / 12) := ⟨_, rfl⟩
  rw [← ex, ← ey] at hv
  have bx : 0 ≤ x ∧ x < w := by rw [ex]; cases k != 1 <;> simp only [cond_true, cond_false] <;> omega
  have bY : 0 ≤ y ∧ y < h := by rw [ey]; cases k != 0 <;> simp only [cond_true, cond_false] <;> omega
  obtain ⟨q, eq⟩ : ∃ q : Nat, x + 12 * y = (q : Int) := ⟨(x + 12 * y).toNat, by omega⟩
  have q1 : (q : Int) % 12 = x := by omega
  have q2 : (q : Int) / 12 = y := by omega
  refine ⟨q, by omega, ⟨by omega, by omega⟩, fun f => by rw [hv, eq], fun f => ?_⟩
  rw [part_val hs (by omega) (by omega) (by omega), q1, q2, ex, ey]
  cases k != 1 <;> cases k != 0 <;> simp only [cond_true, cond_false] <;> omega

/-! ### a picture that is filled by a kind -/
noncomputable def mdl (w h : Int) (f : Nat → Int) (k : Int) : Nat → Int := cellsF f (byKind w h f k) (cellsOf w h) f
theorem mdl_in {w h : Int} {f : Nat → Int} {k : Int} {i : Nat} (hs : Siz w h) (hi : i < 144) (hx : (i : Int) % 12 < w) (hy : (i : Int) / 12 < h) : mdl w h f k i = if f i = 0 then f (Int.toNat (s_sl06Partner w h f k i)) else f i := by
  obtain ⟨hw, hh⟩ := hs.i8
  have e : mdl w h f k i = if i ∈ cellsOf w h ∧ f i = 0 then byKind w h f k i else f i := cellsF_at _ _ _
  have hm : i ∈ cellsOf w h := List.mem_filter.2 ⟨List.mem_range'_1.2 ⟨by omega, by omega⟩, by rw [isIn_eq hw hh hi, decide_eq_true hx, decide_eq_true hy]; rfl⟩
  rw [e]
  by_cases h0 : f i = 0
  · rw [if_pos ⟨hm, h0⟩, if_pos h0]; rfl
  · rw [if_neg fun hh => h0 hh.2, if_neg h0]
theorem mem_in {w h : Int} {i : Nat} (hs : Siz w h) (hm : i ∈ cellsOf w h) : i < 144 ∧ (i : Int) % 12 < w ∧ (i : Int) / 12 < h := by
  obtain ⟨hw, hh⟩ := hs.i8
  have hi := cellsOf_lt hm
  have h1 := (List.mem_filter.1 hm).2
  rw [isIn_eq hw hh hi] at h1
  exact ⟨hi, by simpa using h1⟩
theorem mdl_drw {w h : Int} {f : Nat → Int} {k : Int} (hs : Siz w h) (hd : Drw w h f) : Drw w h (mdl w h f k) := by
  have e : ∀ j, mdl w h f k j = if j ∈ cellsOf w h ∧ f j = 0 then byKind w h f k j else f j := fun j => cellsF_at _ _ _
  refine ⟨fun j hj => ?_, fun j hj h0 => ?_⟩
  · rw [e]
    split
    · rename_i hm
      obtain ⟨h1, h2, h3⟩ := mem_in hs hm.1
      obtain ⟨q, q1, _, q2, _⟩ := part_spec (k := k) hs h1 h2 h3
      unfold byKind
      rw [q2, toNat_nat]
      exact hd.rng q q1
    · exact hd.rng j hj
  · rw [e] at h0
    by_cases hm : j ∈ cellsOf w h ∧ f j = 0
    · exact (mem_in hs hm.1).2
    · rw [if_neg hm] at h0
      exact hd.out j hj h0
theorem clash_same {w h : Int} {f : Nat → Int} {k : Int} (hs : Siz w h) : clashes w h (mdl w h f k) k = clashes w h f k := by
  obtain ⟨hw, hh⟩ := hs.i8
  unfold clashes
  refine foldl_ext' _ _ fun i hi n => ?_
  have hi144 : i < 144 := by have := List.mem_range'_1.1 hi; omega
  cases hin : isIn w h i with
  | false => rfl
  | true =>
    rw [isIn_eq hw hh hi144] at hin
    simp only [Bool.and_eq_true, decide_eq_true_eq] at hin
    obtain ⟨q, q1, q2, q3, q4⟩ := part_spec (k := k) hs hi144 hin.1 hin.2
    simp only [cond_true]
    unfold clash
    rw [q3, q3, toNat_nat, mdl_in hs hi144 hin.1 hin.2, mdl_in hs q1 q2.1 q2.2, q3, q4, toNat_nat, toNat_nat]
    cases decide ((i : Int) < (q : Int)) with
    | false => rfl
    | true =>
      simp only [cond_true]
      by_cases h1 : f i = 0
      · rw [if_pos h1, n_eq h1]
        by_cases h2 : f q = 0
        · rw [h2]; rfl
        · have nn : (f q != f q) = false := by simp
          rw [if_neg h2, nn, n_ne h2]; rfl
      · rw [if_neg h1]
        by_cases h2 : f q = 0
        · have nn : (f i != f i) = false := by simp
          rw [if_pos h2, nn, n_eq h2, n_ne h1]; rfl
        · rw [if_neg h2]
theorem lost_len_eq {w h : Int} {f how : Nat → Int} : ∀ (l : List Nat) (n : Int), 0 ≤ n → n + l.length ≤ 10000 →
    (((l.filter fun i => f i == 0 && how i == 0).length : Nat) : Int) = ((l.filter fun i => f i == 0).length : Nat) - (l.foldl (fun n i => cond (f i != 0) n (cond (how i != 0) (IntKind.wrap .i64 (n + 1)) n)) n - n)
  | [], n, _, _ => by simp
  | i :: l, n, hn, hl => by
    simp only [List.length_cons] at hl
    rw [List.foldl_cons]
    by_cases h1 : f i = 0
    · by_cases h2 : how i = 0
      · rw [List.filter_cons_of_pos (by simp [h1, h2]), List.filter_cons_of_pos (by simp [h1]), n_eq h1, n_eq h2]
        have := lost_len_eq (w := w) (h := h) (f := f) (how := how) l n hn (by omega)
        simp only [cond_false, List.length_cons]
        omega
      · rw [List.filter_cons_of_neg (by simp [h1, h2]), List.filter_cons_of_pos (by simp [h1]), n_eq h1, n_ne h2]
        simp only [cond_false, cond_true, List.length_cons]
        rw [IntWalk.i64_in (n + 1) (by omega)]
        have := lost_len_eq (w := w) (h := h) (f := f) (how := how) l (n + 1) (by omega) (by omega)
        omega
    · rw [List.filter_cons_of_neg (by simp [h1]), List.filter_cons_of_neg (by simp [h1]), n_ne h1]
      exact lost_len_eq (w := w) (h := h) (f := f) (how := how) l n hn (by omega)
theorem rest_len {w h : Int} {f : Nat → Int} {k : Int} (hs : Siz w h) : (((lostOf w h (mdl w h f k)).length : Nat) : Int) = ((lostOf w h f).length : Nat) - countF f (byKind w h f k) (cellsOf w h) := by
  have e : (cellsOf w h).filter (fun i => mdl w h f k i == 0) = (cellsOf w h).filter fun i => f i == 0 && byKind w h f k i == 0 := by
    apply List.filter_congr
    intro i hi
    obtain ⟨h1, h2, h3⟩ := mem_in hs hi
    rw [mdl_in hs h1 h2 h3]
    by_cases h0 : f i = 0
    · rw [if_pos h0, z_eq h0]; rfl
    · rw [if_neg h0, z_ne h0]; rfl
  unfold lostOf
  rw [List.length_map, List.length_map, e]
  have := lost_len_eq (w := w) (h := h) (f := f) (how := byKind w h f k) (cellsOf w h) 0 (by omega) (by have := cellsOf_len w h; omega)
  rw [this]
  unfold countF
  omega
theorem best_spec (c : Int → Int) : ∀ n : Nat, n < 3 → (bestK c).2 ≤ c n ∧ ((n : Int) < (bestK c).1 → c n ≠ (bestK c).2) ∧ ((n : Int) = (bestK c).1 → c n = (bestK c).2) := by
  have e : bestK c = (fun st : Int × Int => cond (decide (c 2 < st.2)) (2, c 2) st) (cond (decide (c 1 < c 0)) (1, c 1) (0, c 0)) := rfl
  intro n hn
  have hn : n = 0 ∨ n = 1 ∨ n = 2 := by omega
  rw [e]
  by_cases h1 : c 1 < c 0
  · rw [decide_eq_true h1, cond_true]
    dsimp only
    by_cases h2 : c 2 < c 1
    · rw [decide_eq_true h2, cond_true]
      rcases hn with rfl | rfl | rfl
      · exact ⟨by show c 2 ≤ c 0; omega, fun _ => by show c 0 ≠ c 2; omega, fun hh => by simp at hh⟩
      · exact ⟨by show c 2 ≤ c 1; omega, fun _ => by show c 1 ≠ c 2; omega, fun hh => by simp at hh⟩
      · exact ⟨by show c 2 ≤ c 2; omega, fun hh => by simp at hh, fun _ => rfl⟩
    · rw [decide_eq_false h2, cond_false]
      rcases hn with rfl | rfl | rfl
      · exact ⟨by show c 1 ≤ c 0; omega, fun _ => by show c 0 ≠ c 1; omega, fun hh => by simp at hh⟩
      · exact ⟨by show c 1 ≤ c 1; omega, fun hh => by simp at hh, fun _ => rfl⟩
      · exact ⟨by show c 1 ≤ c 2; omega, fun hh => by simp at hh, fun hh => by simp at hh⟩
  · rw [decide_eq_false h1, cond_false]
    dsimp only
    by_cases h2 : c 2 < c 0
    · rw [decide_eq_true h2, cond_true]
      rcases hn with rfl | rfl | rfl
      · exact ⟨by show c 2 ≤ c 0; omega, fun _ => by show c 0 ≠ c 2; omega, fun hh => by simp at hh⟩
      · exact ⟨by show c 2 ≤ c 1; omega, fun _ => by show c 1 ≠ c 2; omega, fun hh => by simp at hh⟩
      · exact ⟨by show c 2 ≤ c 2; omega, fun hh => by simp at hh, fun _ => rfl⟩
    · rw [decide_eq_false h2, cond_false]
      rcases hn with rfl | rfl | rfl
      · exact ⟨by show c 0 ≤ c 0; omega, fun hh => by simp at hh, fun _ => rfl⟩
      · exact ⟨by show c 0 ≤ c 1; omega, fun hh => by simp at hh, fun hh => by simp at hh⟩
      · exact ⟨by show c 0 ≤ c 2; omega, fun hh => by simp at hh, fun hh => by simp at hh⟩

/-! ### the law -/
theorem faEq_self (n : Nat) (f : Nat → Int) : faEq n f f = true := by
  unfold faEq
  simp
theorem same_eq (l : List Int) (hl : l.length ≤ 100000) : s_sSameNumbers l l = some true := by
  unfold s_sSameNumbers s_sl00Same f_sl00Same_run4
  have nn : ∀ x : Int, (x != x) = false := fun x => by simp
  have e := run_allL (step := fun x => f_sl00Same_n4 x.1 x.2.1 x.2.2) (0 : Int) l (fun i => ((i : Int), l, l)) (fun _ => true) true false (by omega) ?_ ?_
  · have e2 : (l.all fun _ => true) = true := by simp
    rw [e2] at e
    have e : iter (fun x => f_sl00Same_n4 x.1 x.2.1 x.2.2) FU (0, l, l) = some true := e
    rw [nn, cond_false, e]; rfl
  · intro i hi hm
    show f_sl00Same_n4 i l l = _
    unfold f_sl00Same_n4
    rw [lt_true hi, inB_nat hi, toNat_nat, succ64 (by omega), nn]; rfl
  · show f_sl00Same_n4 (l.length : Nat) l l = _
    unfold f_sl00Same_n4
    rw [lt_neg, cond_false]
theorem partnerOf_eq {w h : Int} {f : Nat → Int} {n i : Nat} (hs : Siz w h) (hv : s_sl01Ok w h f = true) (hn : n < 3) (hin : isIn w h i = true) : s_iPartnerOf w h f n i = (s_sl06Partner w h f n i, 0) := by
  obtain ⟨hw, hh⟩ := hs.i8
  have hk2 : s_iisKind (n : Int) = true := by
    show s_iwithin (n : Int) 0 2 = true
    rw [s63_eq, decide_eq_true (by omega), decide_eq_true (by omega)]; rfl
  unfold s_iPartnerOf
  rw [hk2, valid_eq hw hh, hv, hasN_eq, hin]; rfl
theorem symm_step {w h : Int} {f : Nat → Int} {n i : Nat} {a b : Int} {l : List Int} (hs : Siz w h) (hd : Drw w h f) (hn : n < 3) (hi : i < 144) :
    f_wFnSymmetric_n23 a b n i w h f l w h (mdl w h f n) = some (Sum.inl (a, b, (n : Int), ((i + 1 : Nat) : Int), w, h, f, l, w, h, mdl w h f n)) := by
  obtain ⟨hw, hh⟩ := hs.i8
  have hv := valid_mk hs hd
  have nn : ∀ x : Int, (x != x) = false := fun x => by simp
  unfold f_wFnSymmetric_n23 s_sP6Is
  rw [lt144 hi, cond_true, s81_in hw hh hi, succ64 (by omega)]
  cases hin : isIn w h i with
  | false => rfl
  | true =>
    have hxy := hin
    rw [isIn_eq hw hh hi] at hxy
    simp only [Bool.and_eq_true, decide_eq_true_eq] at hxy
    obtain ⟨q, q1, q2, q3, q4⟩ := part_spec (k := n) hs hi hxy.1 hxy.2
    have hinq : isIn w h q = true := by rw [isIn_eq hw hh q1, decide_eq_true q2.1, decide_eq_true q2.2]; rfl
    rw [partnerOf_eq hs hv hn hin, q3]
    dsimp only
    rw [partnerOf_eq hs hv hn hinq, q4, s81_in hw hh q1, hinq, decide_eq_false (show ¬ ((q : Int) < 0) by omega), decide_eq_false (show ¬ ((q : Int) > 143) by omega), inB_nat hi, inB_nat q1, toNat_nat, toNat_nat, mdl_in hs hi hxy.1 hxy.2, q3, toNat_nat]
    by_cases h0 : f i = 0
    · rw [if_pos h0, n_eq h0, z_eq h0]
      simp only [nn]; rfl
    · rw [if_neg h0, n_ne h0, z_ne h0]
      simp only [nn]; rfl
theorem law_Symmetric {l0 l1 : List Int} (h0 : l0.length ≤ maxLen) (b0 : ∀ x ∈ l0, 0 ≤ x ∧ x ≤ 255) (h1 : l1.length ≤ maxLen) (b1 : ∀ x ∈ l1, 0 ≤ x ∧ x ≤ 255) : s_wFnSymmetric l0 l1 = some true := by
  unfold s_wFnSymmetric s_wf6big
  by_cases q0 : ((l0.length : Nat) : Int) > 4096
  · rw [decide_eq_true q0]; rfl
  by_cases q1 : ((l1.length : Nat) : Int) > 4096
  · rw [decide_eq_true q1, decide_eq_false q0]; rfl
  rw [decide_eq_false q0, decide_eq_false q1, cond_false, cond_false]
  obtain ⟨w, h, f, e1, hs6, hd⟩ := P6Picture_ok (l := l0) ⟨by omega, b0⟩
  have hs : Siz w h := ⟨⟨by omega, by omega⟩, by omega, by omega⟩
  obtain ⟨hw, hh⟩ := hs.i8
  have hv := valid_mk hs hd
  have nn : ∀ x : Int, (x != x) = false := fun x => by simp
  have ee : ∀ x : Int, (x == x) = true := fun x => by simp
  obtain ⟨e2, e3⟩ := lost_eq hs hv
  obtain ⟨e4, e5⟩ := best_eq hs hv
  have hll := lost_len w h f
  have hsp := best_spec (clashes w h f)
  generalize bestK (clashes w h f) = bk at e4 e5 hsp
  rw [e1]; dsimp only [Option.bind]
  rw [e3]; dsimp only
  rw [e2]; dsimp only
  rw [e5]; dsimp only
  rw [e4]; dsimp only
  rw [same_eq _ (by omega)]
  simp only [nn, Bool.not_true, cond_false]
  -- the last loop
  have hend : decide (((144 : Nat) : Int) < 144) = false := rfl
  have last : f_wFnSymmetric_run35 (0, 0, w, h, f, w, h, f, []) = some true := by
    unfold f_wFnSymmetric_run35
    refine run_countI (step := fun x => f_wFnSymmetric_n35 x.1 x.2.1 x.2.2.1 x.2.2.2.1 x.2.2.2.2.1 x.2.2.2.2.2.1 x.2.2.2.2.2.2.1 x.2.2.2.2.2.2.2.1 x.2.2.2.2.2.2.2.2) 144 (fun i (st : List Int) => (0, (i : Int), w, h, f, w, h, f, st)) (fun st i => cond (isIn w h i) (st ++ [(i : Int)]) st) (fun i st => st.length ≤ i) true [] (by omega) (by simp) ?_ ?_
    · intro i st hi hI
      refine ⟨?_, by cases isIn w h i <;> simp <;> omega⟩
      show f_wFnSymmetric_n35 0 i w h f w h f st = _
      unfold f_wFnSymmetric_n35 s_sP6Is
      rw [lt144 hi, cond_true, s81_in hw hh hi, succ64 (by omega), fits_small (by simp; omega)]
      cases isIn w h i <;> rfl
    · intro hI
      have e : (List.range' 0 144).foldl (fun (st : List Int) (i : Nat) => cond (isIn w h i) (st ++ [(i : Int)]) st) [] = nums w h := by
        rw [foldl_push (g := fun i : Nat => (i : Int))]; rfl
      rw [e]
      show f_wFnSymmetric_n35 0 ((144 : Nat) : Int) w h f w h f (nums w h) = _
      unfold f_wFnSymmetric_n35
      rw [hend, cond_false, iLose_eq (l := nums w h) hs hv (by have := nums_len w h; omega) (fun x hx => by
        obtain ⟨j, hj, hj2, ej⟩ := mem_nums hx
        exact ⟨j, hj2, (List.mem_filter.1 hj).2, ej⟩)]
      dsimp only [Option.bind]
      have hz : faEq 144 (loseF f (nums w h)) zF = true := by
        unfold faEq
        rw [List.all_eq_true]
        intro j hj
        have hj := List.mem_range.1 hj
        rw [loseF_at _ _ _ (fun x hx => by obtain ⟨j, _, _, ej⟩ := mem_nums hx; omega)]
        by_cases hm : (j : Int) ∈ nums w h
        · rw [if_pos hm]; rfl
        · rw [if_neg hm]
          have h0 : f j = 0 := by
            apply Classical.byContradiction
            intro hne
            obtain ⟨c1, c2⟩ := hd.out j hj hne
            refine hm (List.mem_map.2 ⟨j, List.mem_filter.2 ⟨List.mem_range'_1.2 ⟨by omega, by omega⟩, ?_⟩, rfl⟩)
            rw [isIn_eq hw hh hj, decide_eq_true c1, decide_eq_true c2]; rfl
          rw [h0]; rfl
      simp only [ee, faEq_self, hz, Bool.and_true, cond_true]
  -- losing what is lost
  have again : s_iLoseCells w h f (lostOf w h f) = some (w, h, loseF f (lostOf w h f), 0) := iLose_eq hs hv (by omega) fun x hx => by
    obtain ⟨j, hj, hj2, ej, _⟩ := mem_lost hx
    exact ⟨j, hj2, (List.mem_filter.1 hj).2, ej⟩
  have hsame : ∀ j, loseF f (lostOf w h f) j = f j := fun j => by
    rw [loseF_at _ _ _ (fun x hx => by obtain ⟨j, _, _, ej, _⟩ := mem_lost hx; omega)]
    split
    · rename_i hm
      obtain ⟨j', _, _, ej, e0⟩ := mem_lost hm
      have : j = j' := by omega
      rw [this, e0]
    · rfl
  have hsame : loseF f (lostOf w h f) = f := funext hsame
  rw [hsame] at again
  unfold f_wFnSymmetric_run11
  refine run_count (step := fun x => f_wFnSymmetric_n11 x.1 x.2.1 x.2.2.1 x.2.2.2.1 x.2.2.2.2.1 x.2.2.2.2.2.1 x.2.2.2.2.2.2) (τ := Unit) 3 (fun n _ => (bk.1, bk.2, (n : Int), w, h, f, lostOf w h f)) (fun _ _ => ()) true () (by omega) ?_ ?_
  · intro n _ hn
    show f_wFnSymmetric_n11 bk.1 bk.2 n w h f (lostOf w h f) = _
    obtain ⟨s1, s2, s3⟩ := hsp n hn
    obtain ⟨e6, e7⟩ := fillK_eq hs hv hn
    have hdm := mdl_drw (k := n) hs hd
    have hvm := valid_mk hs hdm
    have e8 := under_eq (n := n) hs hv hn
    have e9 := under_eq (n := n) hs hvm hn
    rw [clash_same hs] at e9
    obtain ⟨_, e10⟩ := lost_eq hs hvm
    have e11 := rest_len (f := f) (k := n) hs
    have hcr : 0 ≤ countF f (byKind w h f n) (cellsOf w h) ∧ countF f (byKind w h f n) (cellsOf w h) ≤ 144 := by
      have h1 := lost_len w h (mdl w h f n)
      have h2 := lost_len_eq (w := w) (h := h) (f := f) (how := byKind w h f n) (cellsOf w h) 0 (by omega) (by have := cellsOf_len w h; omega)
      have h3 : ((cellsOf w h).filter fun i => f i == 0 && byKind w h f n i == 0).length ≤ ((cellsOf w h).filter fun i => f i == 0).length := by
        have : (cellsOf w h).filter (fun i => f i == 0 && byKind w h f n i == 0) = ((cellsOf w h).filter fun i => f i == 0).filter fun i => byKind w h f n i == 0 := by
          rw [List.filter_filter]
          apply List.filter_congr
          intro i _
          rw [Bool.and_comm]
        rw [this]
        exact List.length_filter_le _ _
      have h4 : ((cellsOf w h).filter fun i => f i == 0).length ≤ 144 := Nat.le_trans (List.length_filter_le _ _) (cellsOf_len w h)
      show 0 ≤ List.foldl _ 0 _ ∧ List.foldl _ 0 _ ≤ 144
      omega
    have inner : f_wFnSymmetric_run23 (bk.1, bk.2, (n : Int), 0, w, h, f, lostOf w h f, w, h, mdl w h f n) = some (Sum.inl (bk.1, bk.2, ((n + 1 : Nat) : Int), w, h, f, lostOf w h f)) := by
      unfold f_wFnSymmetric_run23
      refine run_count (step := fun x => f_wFnSymmetric_n23 x.1 x.2.1 x.2.2.1 x.2.2.2.1 x.2.2.2.2.1 x.2.2.2.2.2.1 x.2.2.2.2.2.2.1 x.2.2.2.2.2.2.2.1 x.2.2.2.2.2.2.2.2.1 x.2.2.2.2.2.2.2.2.2.1 x.2.2.2.2.2.2.2.2.2.2) (τ := Unit) 144 (fun i _ => (bk.1, bk.2, (n : Int), (i : Int), w, h, f, lostOf w h f, w, h, mdl w h f n)) (fun _ _ => ()) _ () (by omega) ?_ ?_
      · intro i _ hi
        exact symm_step hs hd hn hi
      · show f_wFnSymmetric_n23 bk.1 bk.2 n ((144 : Nat) : Int) w h f (lostOf w h f) w h (mdl w h f n) = _
        unfold f_wFnSymmetric_n23
        rw [hend, cond_false, succ64 (by omega)]
    unfold f_wFnSymmetric_n11
    have e6 : s_sFillByKind w h f (n : Int) = some (w, h, mdl w h f n, countF f (byKind w h f n) (cellsOf w h), 0) := e6
    have e7 : s_iFillByKind w h f (n : Int) = some (w, h, mdl w h f n, countF f (byKind w h f n) (cellsOf w h), 0) := e7
    have hlen : ((((lostOf w h (mdl w h f n)).length : Nat) : Int) != IntKind.wrap .i64 (((lostOf w h f).length : Nat) - countF f (byKind w h f n) (cellsOf w h))) = false := by
      rw [IntWalk.i64_in _ (by omega), e11, nn]
    rw [decide_eq_true (show (n : Int) < 3 by omega), cond_true, e8]
    dsimp only [Option.bind]
    rw [e7]; dsimp only
    rw [e6]; dsimp only
    rw [e9]; dsimp only
    rw [e10]; dsimp only
    rw [inner]
    simp only [hlen, nn, ee, faEq_self, Bool.and_true, Bool.not_true, cond_false]
    rw [decide_eq_false (show ¬ (clashes w h f n < bk.2) by omega), cond_false]
    by_cases hlt : (n : Int) < bk.1
    · have c1 : (clashes w h f n == bk.2) = false := by simpa using s2 hlt
      have c2 : ((n : Int) == bk.1) = false := by
        have : (n : Int) ≠ bk.1 := by omega
        simpa using this
      rw [decide_eq_true hlt, cond_true, c1, cond_false, c2, cond_false]
    · rw [decide_eq_false hlt, cond_false]
      by_cases heq : (n : Int) = bk.1
      · have c1 : (clashes w h f n != bk.2) = false := by rw [s3 heq, nn]
        have c2 : ((n : Int) == bk.1) = true := by simpa using heq
        rw [c2, cond_true, c1, cond_false]
      · have c2 : ((n : Int) == bk.1) = false := by simpa using heq
        rw [c2, cond_false]
  · show f_wFnSymmetric_n11 bk.1 bk.2 ((3 : Nat) : Int) w h f (lostOf w h f) = _
    have h3 : decide (((3 : Nat) : Int) < 3) = false := rfl
    unfold f_wFnSymmetric_n11
    rw [h3, cond_false, again]
    dsimp only [Option.bind]
    rw [last]; rfl
end Go.RR
