/- The plain laws of RepeatsBy and PeriodsOf. -/
import Derived.Test.YtmbjjahfjbhbcaaXc
set_option linter.unusedVariables false
set_option linter.unusedSimpArgs false
namespace Go.RR
open Go

theorem all_filter' {α : Type} {c p : α → Bool} : ∀ l : List α, (l.filter c).all p = l.all fun x => cond (c x) (p x) true
  | [] => rfl
  | x :: l => by
    cases hc : c x
    · rw [List.filter_cons_of_neg (by simp [hc]), List.all_cons, hc, all_filter' l]; rfl
    · rw [List.filter_cons_of_pos hc, List.all_cons, List.all_cons, hc, all_filter' l]; rfl
noncomputable def okAt (w h : Int) (f : Nat → Int) (e s : Int) (i : Nat) : Bool :=
  cond (decide ((i : Int) % 12 + e < w) && decide ((i : Int) / 12 + s < h)) (cond (f i != 0) (cond (f (Int.toNat ((i : Int) % 12 + e + 12 * ((i : Int) / 12 + s))) != 0) (!(f i != f (Int.toNat ((i : Int) % 12 + e + 12 * ((i : Int) / 12 + s))))) true) true) true
noncomputable def reps (w h : Int) (f : Nat → Int) (e s : Int) : Bool := (List.range' 0 144).all fun i => cond (isIn w h i) (okAt w h f e s i) true
theorem s68_eq {w h : Int} {f : Nat → Int} {e s : Int} (hw : 1 ≤ w ∧ w ≤ 12) (hh : 1 ≤ h ∧ h ≤ 12) (he : 0 ≤ e ∧ e ≤ 1000) (hs : 0 ≤ s ∧ s ≤ 1000) : s68 w h f e s = some (reps w h f e s) := by
  unfold s68 f68_run2
  have key := run_all (step := fun x => f68_n2 x.1 x.2.1 x.2.2.1 x.2.2.2.1 x.2.2.2.2.1 x.2.2.2.2.2) 144 (fun i => (e, s, (i : Int), w, h, f)) (fun i => cond (isIn w h i) (okAt w h f e s i) true) true false (by decide) ?_ ?_
  · refine key.trans ?_
    unfold reps
    cases (List.range' 0 144).all fun i => cond (isIn w h i) (okAt w h f e s i) true <;> rfl
  · intro i hi
    show f68_n2 e s i w h f = _
    unfold f68_n2
    rw [lt144 hi, s81_in (by unfold I8; omega) (by unfold I8; omega) hi, inB_nat hi, succ64 (by omega), toNat_nat, col, lin (by omega), IntWalk.i64_in ((i : Int) % 12 + e) (by omega), IntWalk.i64_in ((i : Int) / 12 + s) (by omega), IntWalk.i64_in w (by omega), IntWalk.i64_in h (by omega)]
    cases isIn w h i
    · rfl
    · simp only [cond_true, Bool.not_true, cond_false]
      unfold okAt
      by_cases hx : (i : Int) % 12 + e < w
      · rw [decide_eq_false (show ¬ ((i : Int) % 12 + e ≥ w) by omega), decide_eq_true hx]
        by_cases hy : (i : Int) / 12 + s < h
        · rw [decide_eq_false (show ¬ ((i : Int) / 12 + s ≥ h) by omega), decide_eq_true hy]
          have hp := place_in (x := (i : Int) % 12 + e) (y := (i : Int) / 12 + s) (by omega) (by omega)
          rw [hp.1, hp.2]
          simp only [cond_true, cond_false, Bool.and_self]
          cases f i != 0
          · rfl
          · cases f (Int.toNat ((i : Int) % 12 + e + 12 * ((i : Int) / 12 + s))) != 0
            · rfl
            · cases f i != f (Int.toNat ((i : Int) % 12 + e + 12 * ((i : Int) / 12 + s))) <;> rfl
        · rw [decide_eq_true (show (i : Int) / 12 + s ≥ h by omega), decide_eq_false hy]
          rfl
      · rw [decide_eq_true (show (i : Int) % 12 + e ≥ w by omega), decide_eq_false hx]
        rfl
  · rfl
theorem s70_eq {w h : Int} {f : Nat → Int} {e s : Int} (hw : 1 ≤ w ∧ w ≤ 12) (hh : 1 ≤ h ∧ h ≤ 12) (he : 0 ≤ e ∧ e ≤ 1000) (hs : 0 ≤ s ∧ s ≤ 1000) : s70 w h f e s = some (reps w h f e s) := by
  unfold s70
  rw [s67_eq]
  simp only [Option.bind]
  unfold f70_run2
  have key := run_allL (step := fun x => f70_n2 x.1 x.2.1 x.2.2.1 x.2.2.2.1 x.2.2.2.2.1 x.2.2.2.2.2.1 x.2.2.2.2.2.2.1 x.2.2.2.2.2.2.2) (0 : Int) (nums w h) (fun i => (e, s, (((nums w h).length : Nat) : Int), (i : Int), w, h, f, nums w h)) (fun x => okAt w h f e s x.toNat) true false (Nat.le_trans (nums_len w h) (by decide)) ?_ ?_
  · refine key.trans ?_
    have e2 : (nums w h).all (fun x => okAt w h f e s x.toNat) = reps w h f e s := by
      unfold nums cellsOf reps
      rw [List.all_map, all_filter']
      rfl
    rw [e2]
    cases reps w h f e s <;> rfl
  · intro i hi hm
    have hl := nums_len w h
    show f70_n2 e s (((nums w h).length : Nat) : Int) i w h f (nums w h) = _
    unfold f70_n2
    rw [lt_true hi, inB_nat hi, toNat_nat, succ64 (by omega)]
    obtain ⟨j, hc, hj, ej⟩ := mem_nums hm
    rw [ej, inB_nat hj, toNat_nat, col, lin (by omega), IntWalk.i64_in ((j : Int) % 12 + e) (by omega), IntWalk.i64_in ((j : Int) / 12 + s) (by omega), s83_in (by unfold I8; omega) (by unfold I8; omega)]
    rw [decide_eq_true (show (0 : Int) ≤ (j : Int) % 12 + e by omega), decide_eq_true (show (0 : Int) ≤ (j : Int) / 12 + s by omega)]
    simp only [cond_true, Bool.true_and]
    unfold okAt
    by_cases hx : (j : Int) % 12 + e < w
    · rw [decide_eq_true hx]
      by_cases hy : (j : Int) / 12 + s < h
      · rw [decide_eq_true hy, at_in (by omega) (by omega)]
        simp only [cond_true, cond_false, Bool.and_self, Bool.not_true, Option.bind]
        cases f j != 0
        · rfl
        · cases f (Int.toNat ((j : Int) % 12 + e + 12 * ((j : Int) / 12 + s))) != 0
          · rfl
          · cases f j != f (Int.toNat ((j : Int) % 12 + e + 12 * ((j : Int) / 12 + s))) <;> rfl
      · rw [decide_eq_false hy]
        rfl
    · rw [decide_eq_false hx]
      rfl
  · show f70_n2 e s (((nums w h).length : Nat) : Int) (((nums w h).length : Nat) : Int) w h f (nums w h) = _
    unfold f70_n2
    rw [lt_neg, cond_false]
theorem law7 {w h : Int} {f : Nat → Int} {e s : Int} (hw : I8 w) (hh : I8 h) (hf : U8 f) (he : IntKind.i64.min ≤ e ∧ e ≤ IntKind.i64.max) (hs : IntKind.i64.min ≤ s ∧ s ≤ IntKind.i64.max) : s7 w h f e s = some true := by
  have key : ∃ v, s30 w h (s51 f) e s = some v ∧ s31 w h (s51 f) e s = some v := by
    unfold s30 s31 s69
    simp only
    rw [valid_eq hw hh, s57_eq, s57_eq, s63_eq, s63_eq, w64 hw, w64 hh]
    cases hv : s47 w h (s51 f)
    · cases decide (0 ≤ e) && decide (e ≤ w) <;> cases decide (0 ≤ s) && decide (s ≤ h) <;> cases he0 : (e != 0) <;> exact ⟨_, rfl, rfl⟩
    · obtain ⟨h1, h2⟩ := valid_size hw hh hv
      cases hA : decide (0 ≤ e) && decide (e ≤ w)
      · exact ⟨_, rfl, rfl⟩
      · cases hB : decide (0 ≤ s) && decide (s ≤ h)
        · exact ⟨_, rfl, rfl⟩
        · simp only [Bool.and_eq_true, decide_eq_true_eq] at hA hB
          rw [s68_eq h1 h2 (by omega) (by omega), s70_eq h1 h2 (by omega) (by omega)]
          simp only [bne]
          cases e == 0 <;> cases s == 0 <;> exact ⟨_, rfl, rfl⟩
  unfold s7 s16
  obtain ⟨v, e1, e2⟩ := key
  rw [e1, e2]
  simp
theorem reps_east {w h : Int} {f : Nat → Int} : reps w h f w 0 = true := by
  unfold reps
  rw [List.all_eq_true]
  intro i hi
  have hi : i < 144 := by have := List.mem_range'_1.1 hi; omega
  unfold okAt
  rw [decide_eq_false (show ¬ ((i : Int) % 12 + w < w) by omega)]
  cases isIn w h i <;> rfl
theorem reps_south {w h : Int} {f : Nat → Int} : reps w h f 0 h = true := by
  unfold reps
  rw [List.all_eq_true]
  intro i hi
  have hi : i < 144 := by have := List.mem_range'_1.1 hi; omega
  unfold okAt
  rw [decide_eq_false (show ¬ ((i : Int) / 12 + h < h) by omega), Bool.and_false]
  cases isIn w h i <;> rfl
theorem law8 {w h : Int} {f : Nat → Int} (hw : I8 w) (hh : I8 h) (hf : U8 f) : s8 w h f = some true := by
  have key : ∃ v, s32 w h (s51 f) = some v ∧ s33 w h (s51 f) = some v := by
    unfold s32 s33
    rw [valid_eq hw hh]
    cases hv : s47 w h (s51 f)
    · exact ⟨_, rfl, rfl⟩
    · obtain ⟨h1, h2⟩ := valid_size hw hh hv
      have ew : ((w.toNat : Nat) : Int) = w := Int.toNat_of_nonneg (by omega)
      have eh : ((h.toNat : Nat) : Int) = h := Int.toNat_of_nonneg (by omega)
      simp only [Bool.not_true, cond_false]
      have r7 : ∀ e : Int, f32_run7 (e, 1, w, h, s51 f) = some (e, ((firstN (fun s => reps w h (s51 f) 0 (s : Int)) (h.toNat - 1) 1 : Nat) : Int), 0) := by
        intro e
        unfold f32_run7
        refine iter_first (fun s => (e, (s : Int), w, h, s51 f)) (fun s => reps w h (s51 f) 0 (s : Int)) (fun s => (e, (s : Int), 0)) h.toNat ?_ ?_ (h.toNat - 1) 1 FU (by omega) (FU_big (pow_big (by omega)))
        · intro s hs
          show f32_n7 e s w h (s51 f) = _
          unfold f32_n7
          rw [s68_eq h1 h2 (by omega) (by omega), succ64 (by omega)]
          simp only [Option.bind]
          cases reps w h (s51 f) 0 (s : Int) <;> rfl
        · show f32_n7 e (h.toNat : Int) w h (s51 f) = _
          unfold f32_n7
          rw [eh, s68_eq h1 h2 (by omega) (by omega), reps_south]
          rfl
      have r6 : ∀ e : Int, f33_run6 (e, 1, w, h, s51 f) = some (e, ((firstN (fun s => reps w h (s51 f) 0 (s : Int)) (h.toNat - 1) 1 : Nat) : Int), 0) := by
        intro e
        unfold f33_run6
        refine iter_first (fun s => (e, (s : Int), w, h, s51 f)) (fun s => reps w h (s51 f) 0 (s : Int)) (fun s => (e, (s : Int), 0)) h.toNat ?_ ?_ (h.toNat - 1) 1 FU (by omega) (FU_big (pow_big (by omega)))
        · intro s hs
          show f33_n6 e s w h (s51 f) = _
          unfold f33_n6
          rw [s70_eq h1 h2 (by omega) (by omega), succ64 (by omega)]
          simp only [Option.bind]
          cases reps w h (s51 f) 0 (s : Int) <;> rfl
        · show f33_n6 e (h.toNat : Int) w h (s51 f) = _
          unfold f33_n6
          rw [eh, s70_eq h1 h2 (by omega) (by omega), reps_south]
          rfl
      refine ⟨(((firstN (fun e => reps w h (s51 f) (e : Int) 0) (w.toNat - 1) 1 : Nat) : Int), ((firstN (fun s => reps w h (s51 f) 0 (s : Int)) (h.toNat - 1) 1 : Nat) : Int), 0), ?_, ?_⟩
      · unfold f32_run4
        refine iter_first (fun e => ((e : Int), w, h, s51 f)) (fun e => reps w h (s51 f) (e : Int) 0) (fun e => ((e : Int), ((firstN (fun s => reps w h (s51 f) 0 (s : Int)) (h.toNat - 1) 1 : Nat) : Int), (0 : Int))) w.toNat ?_ ?_ (w.toNat - 1) 1 FU (by omega) (FU_big (pow_big (by omega)))
        · intro e he
          show f32_n4 e w h (s51 f) = _
          unfold f32_n4
          rw [s68_eq h1 h2 (by omega) (by omega), succ64 (by omega), r7]
          simp only [Option.bind]
          cases reps w h (s51 f) (e : Int) 0 <;> rfl
        · show f32_n4 (w.toNat : Int) w h (s51 f) = _
          unfold f32_n4
          rw [ew, s68_eq h1 h2 (by omega) (by omega), reps_east, r7]
          rfl
      · unfold f33_run4
        refine iter_first (fun e => ((e : Int), 1, w, h, s51 f)) (fun e => reps w h (s51 f) (e : Int) 0) (fun e => ((e : Int), ((firstN (fun s => reps w h (s51 f) 0 (s : Int)) (h.toNat - 1) 1 : Nat) : Int), (0 : Int))) w.toNat ?_ ?_ (w.toNat - 1) 1 FU (by omega) (FU_big (pow_big (by omega)))
        · intro e he
          show f33_n4 e 1 w h (s51 f) = _
          unfold f33_n4
          rw [s70_eq h1 h2 (by omega) (by omega), succ64 (by omega), r6]
          simp only [Option.bind]
          cases reps w h (s51 f) (e : Int) 0 <;> rfl
        · show f33_n4 (w.toNat : Int) 1 w h (s51 f) = _
          unfold f33_n4
          rw [ew, s70_eq h1 h2 (by omega) (by omega), reps_east, r6]
          rfl
  unfold s8 s16
  obtain ⟨v, e1, e2⟩ := key
  rw [e1, e2]
  simp
end Go.RR
