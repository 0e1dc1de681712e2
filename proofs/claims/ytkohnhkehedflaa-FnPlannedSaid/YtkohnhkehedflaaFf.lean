/- The plain law of FnPlanned. -/
import Derived.Test.YtkohnhkehedflaaFe
set_option linter.unusedVariables false
set_option linter.unusedSimpArgs false
namespace Go.RR
open Go

theorem loseF_sub {f : Nat → Int} {l : List Int} (hl : ∀ x ∈ l, 0 ≤ x) (j : Nat) : loseF f l j = f j ∨ loseF f l j = 0 := by
  rw [loseF_at l f j hl]
  split
  · exact .inr rfl
  · exact .inl rfl
theorem sub_drw {w h : Int} {f g : Nat → Int} (hg : Drw w h g) (hfg : ∀ j, j < 144 → f j = g j ∨ f j = 0) : Drw w h f := by
  refine ⟨fun j hj => ?_, fun j hj h0 => ?_⟩
  · have := hg.rng j hj
    rcases hfg j hj with h1 | h1 <;> rw [h1] <;> omega
  · rcases hfg j hj with h1 | h1
    · rw [h1] at h0; exact hg.out j hj h0
    · exact absurd h1 h0
theorem is_in {w h : Int} {f : Nat → Int} {i : Nat} (hs : Siz w h) (hi : i < 144) : s_sP6Is w h f (i : Int) = isIn w h i := by
  obtain ⟨hw, hh⟩ := hs.i8
  show s_sl01Is w h f (i : Int) = _
  exact s81_in hw hh hi
/-- The last part: three pictures of one size. -/
theorem planned36 {w h : Int} {f d u : Nat → Int} (hs : Siz w h) (hf : Drw w h f) (hd : Drw w h d) (hu : ∀ j, j < 144 → 0 ≤ u j ∧ u j < 16) : f_wFnPlanned_run36 (0, w, h, f, w, h, d, w, h, u) = some true := by
  obtain ⟨hw, hh⟩ := hs.i8
  unfold f_wFnPlanned_run36
  refine run_countI 144 (fun i (o : Nat → Int) => ((i : Int), w, h, f, w, h, d, w, h, o)) (fun o (i : Nat) => cond (!isIn w h i) (upd o i 0) o) (fun i o => ∀ j, j < 144 → (0 ≤ o j ∧ o j < 16) ∧ (j < i → isIn w h j = false → o j = 0)) true u (by decide) (fun j hj => ⟨hu j hj, fun q => absurd q (Nat.not_lt_zero j)⟩) ?_ ?_
  · intro i o hi hI
    constructor
    · show f_wFnPlanned_n36 (i : Int) w h f w h d w h o = _
      unfold f_wFnPlanned_n36
      rw [lt144 hi, inB_nat hi, toNat_nat, succ64 (by omega), is_in hs hi]
      cases isIn w h i <;> rfl
    · intro j hj
      obtain ⟨h1, h2⟩ := hI j hj
      cases hin : isIn w h i
      · show (0 ≤ upd o i 0 j ∧ upd o i 0 j < 16) ∧ _
        rw [upd_at]
        by_cases hji : j = i
        · rw [if_pos hji]
          refine ⟨by omega, fun _ _ => ?_⟩
          show upd o i 0 j = 0
          rw [upd_at, if_pos hji]
        · rw [if_neg hji]
          refine ⟨h1, fun q1 q2 => ?_⟩
          show upd o i 0 j = 0
          rw [upd_at, if_neg hji]
          exact h2 (by omega) q2
      · refine ⟨h1, fun q1 q2 => ?_⟩
        by_cases hji : j = i
        · rw [hji, hin] at q2; cases q2
        · exact h2 (by omega) q2
  · generalize (List.range' 0 144).foldl _ u = o
    intro hI
    have ho : Drw w h o := ⟨fun j hj => (hI j hj).1, fun j hj h0 => by
      cases hin : isIn w h j
      · exact absurd ((hI j hj).2 hj hin) h0
      · rw [isIn_eq hw hh hj] at hin
        simpa using hin⟩
    have nn : ∀ x : Int, (x != x) = false := fun x => by simp
    have ee : ∀ x : Int, (x == x) = true := fun x => by simp
    have ha : Alike w h [(w, h, o), (w, h, f), (w, h, d)] := by
      intro x hx
      rcases List.mem_cons.1 hx with rfl | hx
      · exact ⟨rfl, rfl, ho⟩
      · exact alike2 hf hd x hx
    have ha2 : Alike w h ((w, h, o) :: [(w, h, o), (w, h, f), (w, h, d)]) := by
      intro x hx
      rcases List.mem_cons.1 hx with rfl | hx
      · exact ⟨rfl, rfl, ho⟩
      · exact ha x hx
    obtain ⟨e1, e2⟩ := near_eq hs ha2 (by simp)
    rw [nearest_self] at e1 e2
    obtain ⟨e3, e4⟩ := vote_eq hs ha (by simp)
    obtain ⟨e5, e6⟩ := wrong_eq hs ho hf
    have e7 := same_eq (wrongOf o f) (by have := wrong_len o f; omega)
    obtain ⟨e8, e9⟩ := shift_eq hw hh (valid_mk hs ho) hw hh (valid_mk hs hf)
    have e10 := agree_eq hs ho hf
    have hv := faEq_of (n := 144) (f := cellsF zF (voteAt [(w, h, o), (w, h, f), (w, h, d)]) (cellsOf w h) zF) (g := cellsF zF (voteAt [(w, h, o), (w, h, f), (w, h, d)]) (List.range' 0 144) zF) fun j hj => by
      obtain ⟨v1, v2⟩ := vote_cells hs ha hj
      rw [v1, v2]
    have hb := best_up (F := fitS o f)
    rw [fit_zero] at hb
    show f_wFnPlanned_n36 ((144 : Nat) : Int) w h f w h d w h o = _
    unfold f_wFnPlanned_n36
    rw [end144, cond_false, e1]; dsimp only [Option.bind]
    rw [e2]; dsimp only
    rw [e3]; dsimp only
    rw [e4]; dsimp only
    rw [e5]; dsimp only
    rw [e6]; dsimp only
    simp only [nn, ee, hv, cond_false, Bool.and_true, Bool.not_true]
    rw [e7]; dsimp only
    simp only [Bool.not_true, cond_false]
    rw [e8]; dsimp only
    rw [e9]; dsimp only
    rw [e10]; dsimp only
    simp only [ee, cond_true]
    rw [decide_eq_true (show (bestOf (fitS o f)).2.2 ≥ (agree o f).1 from hb)]
/-- The middle part: what is filled is counted. -/
theorem planned21 {w h : Int} {f d : Nat → Int} {l1 : List Int} (hs6 : (1 ≤ w ∧ w ≤ 6) ∧ (1 ≤ h ∧ h ≤ 6)) (hf : Drw w h f) (hdf : ∀ j, j < 144 → d j = f j ∨ d j = 0) (hl1 : Byt l1) :
    f_wFnPlanned_run21 (countF d f (cellsOf w h), (agree d f).1, 0, 0, l1, w, h, f, w, h, d, needed d f) = some true := by
  have hs : Siz w h := ⟨⟨by omega, by omega⟩, by omega, by omega⟩
  obtain ⟨hw, hh⟩ := hs.i8
  have hd := sub_drw hf hdf
  obtain ⟨n1, n2, n3⟩ := needed_sum (f := d) hs hf
  unfold f_wFnPlanned_run21
  refine run_countI 16 (fun i (s : Int) => (countF d f (cellsOf w h), (agree d f).1, s, (i : Int), l1, w, h, f, w, h, d, needed d f)) (fun s (i : Nat) => IntKind.wrap .i64 (s + needed d f i)) (fun i s => s = sumN (needed d f) i) true 0 (by decide) rfl ?_ ?_
  · intro i s hi hI
    have r1 := sumN_rng n2 i (by omega)
    have r2 := n2 i hi
    constructor
    · show f_wFnPlanned_n21 (countF d f (cellsOf w h)) (agree d f).1 s (i : Int) l1 w h f w h d (needed d f) = _
      unfold f_wFnPlanned_n21
      rw [lt16 hi, inB_nat hi, toNat_nat, succ64 (by omega)]
      rfl
    · show IntKind.wrap .i64 (s + needed d f i) = sumN (needed d f) i + needed d f i
      rw [hI, IntWalk.i64_in _ (by omega)]
  · generalize (List.range' 0 16).foldl _ (0 : Int) = s
    intro hI
    have nn : ∀ x : Int, (x != x) = false := fun x => by simp
    have ee : ∀ x : Int, (x == x) = true := fun x => by simp
    have hsub : ∀ j, j < 144 → d j ≠ 0 → f j = d j := fun j hj h0 => by
      rcases hdf j hj with h1 | h1
      · exact h1.symm
      · exact absurd h1 h0
    obtain ⟨e1, _⟩ := lost_eq hs (valid_mk hs hd)
    have a1 : Alike w h [(w, h, d)] := by
      intro x hx
      rcases List.mem_cons.1 hx with rfl | hx
      · exact ⟨rfl, rfl, hd⟩
      · cases hx
    have a4 : Alike w h [(w, h, d), (w, h, f), (w, h, d), (w, h, f)] := by
      intro x hx
      rcases List.mem_cons.1 hx with rfl | hx
      · exact ⟨rfl, rfl, hd⟩
      · rcases List.mem_cons.1 hx with rfl | hx
        · exact ⟨rfl, rfl, hf⟩
        · exact alike2 hd hf x hx
    obtain ⟨e2, _⟩ := vote_eq hs a1 (by simp)
    obtain ⟨e3, _⟩ := vote_eq hs a4 (by simp)
    have f1 := faEq_of (n := 144) (f := cellsF zF (voteAt [(w, h, d)]) (cellsOf w h) zF) (g := d) fun j hj => by
      rw [(vote_cells hs a1 hj).1]; exact voteAt_one (hd.rng j hj)
    have f2 := faEq_of (n := 144) (f := cellsF zF (voteAt [(w, h, d), (w, h, f), (w, h, d), (w, h, f)]) (cellsOf w h) zF) (g := f) fun j hj => by
      rw [(vote_cells hs a4 hj).1]; exact voteAt_four (hf.rng j hj) (hdf j hj)
    obtain ⟨w2, h2, f3, e4, hs2, hd2⟩ := P6Picture_ok hl1
    have c1 := agree_lost hs hd
    have c2 := cells_num hs6
    have c3 := cellsOf_len w h
    have c4 : IntKind.wrap .i64 ((IntKind.wrap .i64 (IntKind.wrap .i64 w * IntKind.wrap .i64 h)) - (((lostOf w h d).length : Nat) : Int)) = (agree d f).1 := by
      rw [agree_sub hsub, w64 hw, w64 hh, ← c2, IntWalk.i64_in (((cellsOf w h).length : Nat) : Int) (by omega), IntWalk.i64_in _ (by omega)]
      show _ = ((((List.range' 0 144).filter fun i => d i != 0).length : Nat) : Int)
      omega
    have c5 : s = countF d f (cellsOf w h) := by rw [hI]; exact n1
    have p36 := planned36 hs hf hd hd2.rng
    show f_wFnPlanned_n21 (countF d f (cellsOf w h)) (agree d f).1 s ((16 : Nat) : Int) l1 w h f w h d (needed d f) = _
    unfold f_wFnPlanned_n21
    rw [show decide (((16 : Nat) : Int) < 16) = false from rfl, cond_false, e1]; dsimp only [Option.bind]
    rw [c4, c5, n3, e2]; dsimp only
    rw [e3]; dsimp only
    rw [e4]; dsimp only
    rw [p36]
    simp only [nn, ee, f1, f2, cond_false, Bool.and_true, Bool.not_true, show inB 0 16 = true from rfl, cond_true]
    rfl
/-- A cell that is drawn. -/
noncomputable def pickC (w h : Int) (l : List Int) (k : Nat) : Int := (s_sP6Pick ([(k : Int)] ++ l) w).getD 0 + 12 * (s_sP6Pick ([(k : Int), 7] ++ l) h).getD 0
theorem byt_cons {x : Int} {l : List Int} (hx : 0 ≤ x ∧ x ≤ 255) (hl : l.length ≤ 4999 ∧ ∀ y ∈ l, 0 ≤ y ∧ y ≤ 255) : Byt (x :: l) := ⟨by simp only [List.length_cons]; omega, fun y hy => by
  rcases List.mem_cons.1 hy with rfl | hy
  · exact hx
  · exact hl.2 y hy⟩
theorem law_Planned {l0 l1 : List Int} (h0 : l0.length ≤ maxLen) (b0 : ∀ x ∈ l0, 0 ≤ x ∧ x ≤ 255) (h1 : l1.length ≤ maxLen) (b1 : ∀ x ∈ l1, 0 ≤ x ∧ x ≤ 255) : s_wFnPlanned l0 l1 = some true := by
  unfold s_wFnPlanned s_wf6big
  by_cases q0 : ((l0.length : Nat) : Int) > 4096
  · rw [decide_eq_true q0]; rfl
  by_cases q1 : ((l1.length : Nat) : Int) > 4096
  · rw [decide_eq_true q1, decide_eq_false q0]; rfl
  rw [decide_eq_false q0, decide_eq_false q1, cond_false, cond_false]
  obtain ⟨w, h, f, e1, hs6, hd⟩ := P6Picture_ok (l := l0) ⟨by omega, b0⟩
  have hs : Siz w h := ⟨⟨by omega, by omega⟩, by omega, by omega⟩
  obtain ⟨hw, hh⟩ := hs.i8
  have nn : ∀ x : Int, (x != x) = false := fun x => by simp
  have ee : ∀ x : Int, (x == x) = true := fun x => by simp
  rw [e1]; dsimp only [Option.bind]
  unfold f_wFnPlanned_run7
  refine run_countI 5 (fun i (l : List Int) => ((i : Int), l1, w, h, f, w, h, f, l)) (fun l (i : Nat) => l ++ [pickC w h l1 i]) (fun i l => l.length = i ∧ ∀ x ∈ l, ∃ j : Nat, j < 144 ∧ isIn w h j = true ∧ x = (j : Int)) true [] (by decide) ⟨rfl, fun x hx => by cases hx⟩ ?_ ?_
  · intro i l hi hI
    obtain ⟨p1, e2, p11, p12⟩ := P6Pick_ok (l := [(i : Int)] ++ l1) (k := w) (byt_cons (x := (i : Int)) (l := l1) (by omega) ⟨by omega, b1⟩) (by omega)
    obtain ⟨p2, e3, p21, p22⟩ := P6Pick_ok (l := [(i : Int), 7] ++ l1) (k := h) (byt_cons (x := (i : Int)) (l := 7 :: l1) (by omega) (by
      have := byt_cons (x := 7) (l := l1) (by omega) ⟨by omega, b1⟩
      exact ⟨by show (7 :: l1).length ≤ 4999; rw [List.length_cons]; omega, this.2⟩)) (by omega)
    have ep : pickC w h l1 i = p1 + 12 * p2 := by unfold pickC; rw [e2, e3]; rfl
    constructor
    · show f_wFnPlanned_n7 (i : Int) l1 w h f w h f l = _
      unfold f_wFnPlanned_n7
      rw [show decide ((i : Int) < 5) = true from lt_true (n := 5) hi, cond_true, w64 hw, w64 hh, e2]; dsimp only [Option.bind]
      rw [e3]; dsimp only
      rw [fits_small (show (List.length ([(i : Int)] : List Int) + List.length l1) * 1 ≤ 140737488355328 by simp; omega), fits_small (show (List.length ([(i : Int), 7] : List Int) + List.length l1) * 1 ≤ 140737488355328 by simp; omega), fits_small (show (List.length l + List.length ([(IntKind.wrap .i64 (p1 + (IntKind.wrap .i64 (12 * p2))))] : List Int)) * 8 ≤ 140737488355328 by simp [hI.1]; omega), IntWalk.u8_in _ (by omega), IntWalk.i64_in (12 * p2) (by omega), IntWalk.i64_in (p1 + 12 * p2) (by omega), ep]
      rfl
    · refine ⟨by simp [hI.1], fun x hx => ?_⟩
      rcases List.mem_append.1 hx with hx | hx
      · exact hI.2 x hx
      · have hx : x = pickC w h l1 i := by simpa using hx
        refine ⟨(p1 + 12 * p2).toNat, by omega, ?_, by rw [hx, ep]; omega⟩
        rw [isIn_eq hw hh (by omega), decide_eq_true (by omega), decide_eq_true (by omega)]; rfl
  · generalize (List.range' 0 5).foldl _ [] = l
    intro hI
    have hv := valid_mk hs hd
    have hpos : ∀ x ∈ l, 0 ≤ x := fun x hx => by obtain ⟨j, _, _, e⟩ := hI.2 x hx; omega
    have hdf : ∀ j, j < 144 → loseF f l j = f j ∨ loseF f l j = 0 := fun j _ => loseF_sub hpos j
    have e2 := iLose_eq hs hv (by omega) hI.2
    have e3 := sLose_eq hs hv (by omega) hI.2
    generalize loseF f l = d at *
    have hdd := sub_drw hd hdf
    have hsub : ∀ j, j < 144 → d j ≠ 0 → f j = d j := fun j hj h0 => by
      rcases hdf j hj with h1 | h1
      · exact h1.symm
      · exact absurd h1 h0
    have e4 := from_eq hs hdd hd
    have e5 := needed_eq hs hdd hd
    obtain ⟨e6, _⟩ := wrong_eq hs hdd hd
    rw [wrong_none hsub] at e6
    have e7 := agree_eq hs hdd hd
    have a2 : (agree d f).2 = 0 := by rw [agree_sub hsub]
    have f1 := faEq_of (n := 144) (f := cellsF d f (cellsOf w h) d) (g := f) fun j hj => fill_plan hs hd hdf hj
    have p21 := planned21 (l1 := l1) hs6 hd hdf ⟨by omega, b1⟩
    show f_wFnPlanned_n7 ((5 : Nat) : Int) l1 w h f w h f l = _
    unfold f_wFnPlanned_n7
    rw [show decide (((5 : Nat) : Int) < 5) = false from rfl, cond_false, e2]; dsimp only [Option.bind]
    rw [e3]; dsimp only
    rw [e4]; dsimp only
    rw [e5]; dsimp only
    rw [e6]; dsimp only
    rw [e7]; dsimp only
    rw [p21, a2]
    simp only [nn, ee, f1, faEq_self, cond_false, Bool.and_true, Bool.not_true]
    rfl
end Go.RR
