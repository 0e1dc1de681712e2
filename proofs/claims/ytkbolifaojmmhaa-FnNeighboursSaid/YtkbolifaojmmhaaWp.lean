/- The plain law of FillRound. -/
import Derived.Test.YtkbolifaojmmhaaWn
set_option linter.unusedVariables false
set_option linter.unusedSimpArgs false
namespace Go.RR
open Go

/-! ### neighbours -/
noncomputable def besB (w h : Int) (i : Nat) : List Int :=
  cond (decide ((i : Int) / 12 > 0)) [(i : Int) - 12] [] ++ cond (decide ((i : Int) % 12 > 0)) [(i : Int) - 1] [] ++ cond (decide ((i : Int) % 12 + 1 < w)) [(i : Int) + 1] [] ++ cond (decide ((i : Int) / 12 + 1 < h)) [(i : Int) + 12] []
theorem sBes_eq {w h : Int} {f : Nat → Int} {i : Nat} (hw : I8 w) (hh : I8 h) (hi : i < 144) : s_sl01Beside w h f i = some (besB w h i) := by
  unfold s_sl01Beside
  rw [col, lin (by omega), w64 hw, w64 hh, IntWalk.i64_in ((i : Int) - 12) (by omega), IntWalk.i64_in ((i : Int) - 1) (by omega), IntWalk.i64_in ((i : Int) + 1) (by omega), IntWalk.i64_in ((i : Int) + 12) (by omega), IntWalk.i64_in ((i : Int) % 12 + 1) (by omega), IntWalk.i64_in ((i : Int) / 12 + 1) (by omega)]
  unfold besB
  cases decide ((i : Int) / 12 > 0) <;> cases decide ((i : Int) % 12 > 0) <;> cases decide ((i : Int) % 12 + 1 < w) <;> cases decide ((i : Int) / 12 + 1 < h) <;> rfl
theorem isCell_eq {w h x y : Int} (hw : I8 w) (hh : I8 h) : s_iisCell x y w h = (decide (0 ≤ x) && decide (x < w) && (decide (0 ≤ y) && decide (y < h))) := s83_in (g := zF) hw hh
theorem iBes_eq {w h : Int} {i : Nat} (hw : 1 ≤ w ∧ w ≤ 12) (hh : 1 ≤ h ∧ h ≤ 12) (hi : i < 144) (hx : (i : Int) % 12 < w) (hy : (i : Int) / 12 < h) : s_ibeside i w h = some (besB w h i) := by
  have hw' : I8 w := by unfold I8; omega
  have hh' : I8 h := by unfold I8; omega
  unfold s_ibeside f_ibeside_run3
  obtain ⟨k, hk⟩ := FU_steps 5 (by decide)
  rw [hk]
  generalize hD : updR (updR (updR (updR zF2 0 (upd (upd zF 0 0) 1 (-1))) 1 (upd (upd zF 0 (-1)) 1 0)) 2 (upd (upd zF 0 1) 1 0)) 3 (upd (upd zF 0 0) 1 1) = D
  have st : ∀ (j : Int) (jn : Nat) (dx dy nx : Int) (b : Bool) (l : List Int), j = (jn : Int) → jn < 4 → D jn 0 = dx → D jn 1 = dy → -1 ≤ dx ∧ dx ≤ 1 → -1 ≤ dy ∧ dy ≤ 1 → (i : Int) + dx + 12 * dy = nx → (decide (0 ≤ (i : Int) % 12 + dx) && decide ((i : Int) % 12 + dx < w) && (decide (0 ≤ (i : Int) / 12 + dy) && decide ((i : Int) / 12 + dy < h))) = b → l.length ≤ 4 →
      f_ibeside_n3 i w h D j l = some (Sum.inl ((i : Int), w, h, D, j + 1, l ++ cond b [nx] [])) := by
    intro j jn dx dy nx b l hj hjn e1 e2 b1 b2 e3 e4 hl
    subst hj
    unfold f_ibeside_n3
    rw [toNat_nat, e1, e2, inB_nat hjn, show decide ((jn : Int) < 4) = true from lt_true (n := 4) hjn, succ64 (by omega), show inB 0 2 = true from rfl, show inB 1 2 = true from rfl, col, lin (by omega), IntWalk.i64_in ((i : Int) % 12 + dx) (by omega), IntWalk.i64_in ((i : Int) / 12 + dy) (by omega), isCell_eq hw' hh', e4, IntWalk.i64_in (12 * ((i : Int) / 12 + dy)) (by omega), IntWalk.i64_in ((i : Int) % 12 + dx + 12 * ((i : Int) / 12 + dy)) (by omega), fits_small (by simp; omega)]
    have : (i : Int) % 12 + dx + 12 * ((i : Int) / 12 + dy) = nx := by omega
    rw [this]
    cases b
    · simp
    · simp
  have d0 : (decide (0 ≤ (i : Int) % 12 + 0) && decide ((i : Int) % 12 + 0 < w) && (decide (0 ≤ (i : Int) / 12 + -1) && decide ((i : Int) / 12 + -1 < h))) = decide ((i : Int) / 12 > 0) := by
    rw [decide_eq_true (show 0 ≤ (i : Int) % 12 + 0 by omega), decide_eq_true (show (i : Int) % 12 + 0 < w by omega), decide_eq_true (show (i : Int) / 12 + -1 < h by omega)]
    simp only [Bool.true_and, Bool.and_true]
    exact decide_eq_decide.2 (by omega)
  have d1 : (decide (0 ≤ (i : Int) % 12 + -1) && decide ((i : Int) % 12 + -1 < w) && (decide (0 ≤ (i : Int) / 12 + 0) && decide ((i : Int) / 12 + 0 < h))) = decide ((i : Int) % 12 > 0) := by
    rw [decide_eq_true (show 0 ≤ (i : Int) / 12 + 0 by omega), decide_eq_true (show (i : Int) / 12 + 0 < h by omega), decide_eq_true (show (i : Int) % 12 + -1 < w by omega)]
    simp only [Bool.true_and, Bool.and_true]
    exact decide_eq_decide.2 (by omega)
  have d2 : (decide (0 ≤ (i : Int) % 12 + 1) && decide ((i : Int) % 12 + 1 < w) && (decide (0 ≤ (i : Int) / 12 + 0) && decide ((i : Int) / 12 + 0 < h))) = decide ((i : Int) % 12 + 1 < w) := by
    rw [decide_eq_true (show 0 ≤ (i : Int) / 12 + 0 by omega), decide_eq_true (show (i : Int) / 12 + 0 < h by omega), decide_eq_true (show 0 ≤ (i : Int) % 12 + 1 by omega)]
    simp only [Bool.true_and, Bool.and_true]
  have d3 : (decide (0 ≤ (i : Int) % 12 + 0) && decide ((i : Int) % 12 + 0 < w) && (decide (0 ≤ (i : Int) / 12 + 1) && decide ((i : Int) / 12 + 1 < h))) = decide ((i : Int) / 12 + 1 < h) := by
    rw [decide_eq_true (show 0 ≤ (i : Int) % 12 + 0 by omega), decide_eq_true (show (i : Int) % 12 + 0 < w by omega), decide_eq_true (show 0 ≤ (i : Int) / 12 + 1 by omega)]
    simp only [Bool.true_and, Bool.and_true]
  have c0 := st 0 0 0 (-1) ((i : Int) - 12) _ [] rfl (by decide) (by subst hD; rfl) (by subst hD; rfl) (by omega) (by omega) (by omega) d0 (by simp)
  have c1 := fun l hl => st 1 1 (-1) 0 ((i : Int) - 1) _ l rfl (by decide) (by subst hD; rfl) (by subst hD; rfl) (by omega) (by omega) (by omega) d1 hl
  have c2 := fun l hl => st 2 2 1 0 ((i : Int) + 1) _ l rfl (by decide) (by subst hD; rfl) (by subst hD; rfl) (by omega) (by omega) (by omega) d2 hl
  have c3 := fun l hl => st 3 3 0 1 ((i : Int) + 12) _ l rfl (by decide) (by subst hD; rfl) (by subst hD; rfl) (by omega) (by omega) (by omega) d3 hl
  have c4 : ∀ l, f_ibeside_n3 i w h D 4 l = some (Sum.inr l) := fun l => rfl
  have cl : ∀ (b : Bool) (x : Int), (cond b [x] []).length ≤ 1 := fun b x => by cases b <;> simp
  simp only [iter, c0, show (0 : Int) + 1 = 1 from rfl]
  rw [c1 _ (by have := cl (decide ((i : Int) / 12 > 0)) ((i : Int) - 12); simp only [List.nil_append]; omega)]
  simp only [show (1 : Int) + 1 = 2 from rfl]
  rw [c2 _ (by have := cl (decide ((i : Int) / 12 > 0)) ((i : Int) - 12); have := cl (decide ((i : Int) % 12 > 0)) ((i : Int) - 1); simp only [List.nil_append, List.length_append]; omega)]
  simp only [show (2 : Int) + 1 = 3 from rfl]
  rw [c3 _ (by have := cl (decide ((i : Int) / 12 > 0)) ((i : Int) - 12); have := cl (decide ((i : Int) % 12 > 0)) ((i : Int) - 1); have := cl (decide ((i : Int) % 12 + 1 < w)) ((i : Int) + 1); simp only [List.nil_append, List.length_append]; omega)]
  simp only [show (3 : Int) + 1 = 4 from rfl, c4]
  rfl
theorem bes_len (w h : Int) (i : Nat) : (besB w h i).length ≤ 4 := by
  unfold besB
  cases decide ((i : Int) / 12 > 0) <;> cases decide ((i : Int) % 12 > 0) <;> cases decide ((i : Int) % 12 + 1 < w) <;> cases decide ((i : Int) / 12 + 1 < h) <;> simp
theorem mem_bes {w h : Int} {i : Nat} {x : Int} (hw : w ≤ 12) (hh : h ≤ 12) (hi : i < 144) (hx : x ∈ besB w h i) : ∃ j : Nat, j < 144 ∧ x = (j : Int) := by
  unfold besB at hx
  have q : 0 ≤ x ∧ x < 144 := by
    rcases List.mem_append.1 hx with hx | hx
    · rcases List.mem_append.1 hx with hx | hx
      · rcases List.mem_append.1 hx with hx | hx
        · cases hd : decide ((i : Int) / 12 > 0) <;> rw [hd] at hx
          · simp at hx
          · have := of_decide_eq_true hd; simp at hx; omega
        · cases hd : decide ((i : Int) % 12 > 0) <;> rw [hd] at hx
          · simp at hx
          · have := of_decide_eq_true hd; simp at hx; omega
      · cases hd : decide ((i : Int) % 12 + 1 < w) <;> rw [hd] at hx
        · simp at hx
        · have := of_decide_eq_true hd; simp at hx; omega
    · cases hd : decide ((i : Int) / 12 + 1 < h) <;> rw [hd] at hx
      · simp at hx
      · have := of_decide_eq_true hd; simp at hx; omega
  exact ⟨x.toNat, by omega, by omega⟩

/-! ### a round -/
noncomputable def besC (w h : Int) (f : Nat → Int) (i : Nat) : List Int := (besB w h i).map fun x => f x.toNat
noncomputable def roundAt (w h : Int) (f : Nat → Int) (i : Nat) : Int := mostB ((besC w h f i).foldl cntStep zF)
noncomputable def roundF (w h : Int) (f : Nat → Int) : Nat → Int := cellsF f (roundAt w h f) (cellsOf w h) f
noncomputable def roundN (w h : Int) (f : Nat → Int) : Int := countF f (roundAt w h f) (cellsOf w h)
theorem besC_get {w h : Int} {f : Nat → Int} {i k : Nat} (hk : k < (besB w h i).length) : (besC w h f i)[k]? = some (f ((besB w h i).getD k 0).toNat) := by
  unfold besC
  rw [List.getElem?_map, List.getD_eq_getElem?_getD, List.getElem?_eq_getElem hk]; rfl
theorem iround_1_eq {w h : Int} {f : Nat → Int} {i : Nat} (hw : 1 ≤ w ∧ w ≤ 12) (hh : 1 ≤ h ∧ h ≤ 12) (hf : ∀ k, k < 144 → 0 ≤ f k ∧ f k < 16) (hi : i < 144) (hx : (i : Int) % 12 < w) (hy : (i : Int) / 12 < h) : s_iround_1 i w h f = some (roundAt w h f i) := by
  unfold s_iround_1
  rw [iBes_eq hw hh hi hx hy]
  simp only [Option.bind]
  have hl := bes_len w h i
  unfold f_iround_1_run3
  have key := run_count (step := fun x => f_iround_1_n3 x.1 x.2.1 x.2.2.1 x.2.2.2.1 x.2.2.2.2.1 x.2.2.2.2.2.1 x.2.2.2.2.2.2) (τ := Unit) (besB w h i).length (fun k _ => ((((besB w h i).length : Nat) : Int), (k : Int), w, h, f, (besC w h f i).take k, besB w h i)) (fun _ _ => ()) (roundAt w h f i) () (by omega) ?_ ?_
  · exact key
  · intro k _ hk
    show f_iround_1_n3 ((besB w h i).length : Nat) k w h f ((besC w h f i).take k) (besB w h i) = _
    obtain ⟨j, hj, ej⟩ := mem_bes hw.2 hh.2 hi (getD_mem' (d := (0 : Int)) hk)
    have ec : f j = f ((besB w h i).getD k 0).toNat := by rw [ej]; rfl
    unfold f_iround_1_n3
    have hlen : ((besC w h f i).take k).length ≤ 12 := by simp [besC]; omega
    rw [lt_true hk, inB_nat hk, toNat_nat, ← ec, ej, inB_nat hj, fits_small (by simp only [List.length_cons, List.length_nil]; omega), succ64 (i := k) (by omega)]
    simp only [cond_true]
    rw [List.take_add_one, besC_get hk, ← ec]
    rfl
  · show f_iround_1_n3 ((besB w h i).length : Nat) ((besB w h i).length : Nat) w h f ((besC w h f i).take (besB w h i).length) (besB w h i) = _
    have hc : (besC w h f i).take (besB w h i).length = besC w h f i := List.take_of_length_le (by simp [besC])
    have hm : s_imost (besC w h f i) = some (roundAt w h f i) := imost_eq (by simp [besC]; omega) fun x hx => by
      obtain ⟨p, hp, rfl⟩ := List.mem_map.1 hx
      obtain ⟨j, hj, ej⟩ := mem_bes hw.2 hh.2 hi hp
      rw [ej]
      exact hf j hj
    unfold f_iround_1_n3
    rw [lt_neg, cond_false, hc, hm]
    rfl
theorem iround_eq {w h : Int} {f : Nat → Int} (hw : 1 ≤ w ∧ w ≤ 12) (hh : 1 ≤ h ∧ h ≤ 12) (hf : ∀ k, k < 144 → 0 ≤ f k ∧ f k < 16) : s_iround w h f = some (w, h, roundF w h f, roundN w h f) := by
  have key : s_ifilled_b w h f w h f = some (w, h, roundF w h f, roundN w h f) := by
    unfold s_ifilled_b
    rw [s67_eq]
    simp only [Option.bind]
    unfold f_ifilled_b_run3
    refine run_list (0 : Int) (nums w h) (fun i (st : (Nat → Int) × Int) => (st.2, (((nums w h).length : Nat) : Int), (i : Int), w, h, f, w, h, f, 0, 0, zF, w, h, st.1, nums w h)) (fun st x => fillStep f (roundAt w h f) st x.toNat) _ (f, 0) (Nat.le_trans (nums_len w h) (by decide)) ?_ ?_
    · intro i st hi hm
      have hl := nums_len w h
      show f_ifilled_b_n3 st.2 (((nums w h).length : Nat) : Int) i w h f w h f 0 0 zF w h st.1 (nums w h) = _
      unfold f_ifilled_b_n3
      rw [lt_true hi, inB_nat hi, toNat_nat, succ64 (by omega)]
      obtain ⟨j, hc, hj, ej⟩ := mem_nums hm
      rw [ej, inB_nat hj, toNat_nat]
      have hin : isIn w h j = true := (List.mem_filter.1 hc).2
      have hxy : (j : Int) % 12 < w ∧ (j : Int) / 12 < h := by
        rw [isIn_eq (by unfold I8; omega) (by unfold I8; omega) hj] at hin
        simpa using hin
      rw [iround_1_eq hw hh hf hj hxy.1 hxy.2]
      simp only [cond_true, Option.bind]
      have hu : upd st.1 j (roundAt w h f j) j = roundAt w h f j := by unfold upd; rw [Nat.beq_refl]; rfl
      rw [hu]
      unfold fillStep
      cases f j != 0
      · cases roundAt w h f j != 0 <;> rfl
      · rfl
    · have e : (nums w h).foldl (fun st (x : Int) => fillStep f (roundAt w h f) st x.toNat) (f, 0) = (roundF w h f, roundN w h f) := by
        unfold nums
        rw [List.foldl_map]
        exact fill_fold f _ (cellsOf w h) f
      rw [e]
      show f_ifilled_b_n3 _ (((nums w h).length : Nat) : Int) (((nums w h).length : Nat) : Int) w h f w h f 0 0 zF w h _ (nums w h) = _
      unfold f_ifilled_b_n3
      rw [lt_neg, cond_false]
  unfold s_iround
  rw [key]
  rfl
theorem sInner10 {w h : Int} {f : Nat → Int} {o : Nat → Int} {n : Int} {m i : Nat} {ls : List Int} (hw : w ≤ 12) (hh : h ≤ 12) (hf : ∀ k, k < 144 → 0 ≤ f k ∧ f k < 16) (hi : i < 144) (hm : m < ls.length) (hm2 : m ≤ 1000) (he : ls.getD m 0 = (i : Int)) :
    f_sl06Round_run10 (n, (m : Int), 0, w, h, f, 0, 0, zF, w, h, o, ls, zF, besB w h i) = some (Sum.inl (cond (roundAt w h f i != 0) (IntKind.wrap .i64 (n + 1)) n, ((m + 1 : Nat) : Int), w, h, f, 0, 0, zF, w, h, cond (roundAt w h f i != 0) (upd o i (roundAt w h f i)) o, ls)) := by
  have hl := bes_len w h i
  unfold f_sl06Round_run10
  refine run_list (0 : Int) (besB w h i) (fun k (cnt : Nat → Int) => (n, (m : Int), (k : Int), w, h, f, 0, 0, zF, w, h, o, ls, cnt, besB w h i)) (fun cnt x => cntStep cnt (f x.toNat)) _ zF (by omega) ?_ ?_
  · intro k cnt hk hmem
    obtain ⟨j, hj, ej⟩ := mem_bes hw hh hi hmem
    have hfj := hf j hj
    show f_sl06Round_n10 n m k w h f 0 0 zF w h o ls cnt (besB w h i) = _
    unfold f_sl06Round_n10 cntStep
    rw [lt_true hk, inB_nat hk, toNat_nat, ej, inB_nat hj, toNat_nat, inB_of (x := f j) (n := 16) (by omega), succ64 (i := k) (by omega)]
    rfl
  · have e : (besB w h i).foldl (fun cnt (x : Int) => cntStep cnt (f x.toNat)) zF = (besC w h f i).foldl cntStep zF := by
      unfold besC
      rw [List.foldl_map]
    rw [e]
    show f_sl06Round_n10 n m ((besB w h i).length : Nat) w h f 0 0 zF w h o ls _ (besB w h i) = _
    unfold f_sl06Round_n10
    rw [lt_neg, cond_false, most_eq, toNat_nat, inB_nat hm, he, inB_nat hi, toNat_nat, succ64 (i := m) (by omega)]
    simp only [Option.bind]
    show cond (roundAt w h f i != 0) _ _ = _
    cases roundAt w h f i != 0 <;> rfl
theorem from_cells {f g : Nat → Int} (l : List Nat) : (l.foldl (fromS f g) (f, 0)) = (cellsF f g l f, countF f g l) := by
  have q := fromS_at (f := f) (g := g) l (f, 0)
  apply Prod.ext
  · funext j
    rw [q.1]
    show _ = cellsF f g l f j
    rw [cellsF_at]
    by_cases h0 : f j = 0
    · by_cases hg : g j = 0
      · have n2 : ¬ (j ∈ l ∧ f j = 0 ∧ g j ≠ 0) := fun q => q.2.2 hg
        dsimp only
        rw [if_neg n2, h0, hg]
        split <;> rfl
      · dsimp only
        by_cases hj : j ∈ l
        · rw [if_pos ⟨hj, h0, hg⟩, if_pos ⟨hj, h0⟩]
        · rw [if_neg (fun q => hj q.1), if_neg (fun q => hj q.1)]
    · dsimp only
      rw [if_neg (fun q => h0 q.2.1), if_neg (fun q => h0 q.2)]
  · exact q.2
theorem sround_eq {w h : Int} {f : Nat → Int} (hw : 1 ≤ w ∧ w ≤ 12) (hh : 1 ≤ h ∧ h ≤ 12) (hf : ∀ k, k < 144 → 0 ≤ f k ∧ f k < 16) : s_sl06Round w h f = some (w, h, roundF w h f, roundN w h f) := by
  have hw' : I8 w := by unfold I8; omega
  have hh' : I8 h := by unfold I8; omega
  unfold s_sl06Round
  rw [s66_eq hw' hh']
  simp only [Option.bind]
  unfold f_sl06Round_run5
  refine run_list (0 : Int) (lostOf w h f) (fun i (st : (Nat → Int) × Int) => (st.2, (i : Int), w, h, f, 0, 0, zF, w, h, st.1, lostOf w h f)) (fun st x => cond (roundAt w h f x.toNat != 0) (upd st.1 x.toNat (roundAt w h f x.toNat), IntKind.wrap .i64 (st.2 + 1)) st) _ (f, 0) (Nat.le_trans (lost_len w h f) (by decide)) ?_ ?_
  · intro i st hi hm
    have hl := lost_len w h f
    show f_sl06Round_n5 st.2 i w h f 0 0 zF w h st.1 (lostOf w h f) = _
    obtain ⟨j, hc, hj, ej, _⟩ := mem_lost hm
    unfold f_sl06Round_n5
    rw [lt_true hi, inB_nat hi, toNat_nat, ej, sBes_eq hw' hh' hj]
    simp only [cond_true, Option.bind]
    rw [sInner10 hw.2 hh.2 hf hj hi (by omega) ej, toNat_nat]
    cases roundAt w h f j != 0 <;> rfl
  · have e := lost_fold (w := w) (h := h) (f := f) (fun (st : (Nat → Int) × Int) i => cond (roundAt w h f i != 0) (upd st.1 i (roundAt w h f i), IntKind.wrap .i64 (st.2 + 1)) st) (f, 0)
    rw [e]
    have e2 := from_cells (f := f) (g := roundAt w h f) (cellsOf w h)
    show f_sl06Round_n5 ((cellsOf w h).foldl (fromS f (roundAt w h f)) (f, 0)).2 ((lostOf w h f).length : Nat) w h f 0 0 zF w h ((cellsOf w h).foldl (fromS f (roundAt w h f)) (f, 0)).1 (lostOf w h f) = _
    rw [e2]
    unfold f_sl06Round_n5
    rw [lt_neg, cond_false]
    rfl
end Go.RR
