/- Plain laws of rows: bricks, run by run. -/
import Derived.Test.YtpcilcojfechaaaWa
set_option linter.unusedVariables false
set_option linter.unusedSimpArgs false
namespace Go.RR
open Go

theorem len_ix {n : Nat} (h : 0 < n) (h2 : n ≤ 2000000) : IntKind.wrap .i64 (((n : Nat) : Int) - 1) = ((n - 1 : Nat) : Int) := by
  rw [IntWalk.i64_in _ (by omega)]; omega
theorem set_last {α : Type} (a : List α) (x y : α) : (a ++ [x]).set ((a ++ [x]).length - 1) y = a ++ [y] := by
  simp
theorem toI_app (a b : List Nat) : toI (a ++ b) = toI a ++ toI b := by simp [toI]
def fin_i (l : List Nat) : List Int × Bool := cond (decide (l.length ≤ 60) && l.all fun n => decide (n ≤ 200)) (toI l, true) ([], false)
theorem end_i {τ : Type} {l : List Nat} (hp : ∀ x ∈ l, 1 ≤ x) (hl : l.length ≤ 1000000) :
    (cond (decide (((List.length (toI l) : Nat) : Int) > 60)) (some (Sum.inr ([], false))) (Option.bind (s_iisWidth (toI l)) fun r1 => (cond (!r1) (some (Sum.inr ([], false))) (Option.map (fun x => (Sum.inr x)) (f_ibrick_run13 (((List.length (toI l) : Nat) : Int), 0, [], toI l))))) : Option (τ ⊕ (List Int × Bool))) = some (.inr (fin_i l)) := by
  unfold fin_i
  rw [toI_len, isWidth_all (by rw [toI_len]; exact hl), toI_all l hp]
  by_cases h : l.length ≤ 60
  · rw [decide_eq_false (show ¬ ((l.length : Nat) : Int) > 60 by omega), decide_eq_true h, cond_false, Bool.true_and]
    cases ha : l.all fun n => decide (n ≤ 200)
    · rfl
    · rw [List.all_eq_true] at ha
      show Option.map _ (f_ibrick_run13 _) = _
      rw [conv_i h (fun x hx => by simpa using ha x hx)]
      rfl
  · rw [decide_eq_true (show ((l.length : Nat) : Int) > 60 by omega), decide_eq_false h]
    rfl
theorem rep_foldl {α : Type} (x : α) : ∀ (k i : Nat) (s : List α), (List.range' i k).foldl (fun l _ => l ++ [x]) s = s ++ List.replicate k x
  | 0, _, s => by simp
  | k + 1, i, s => by
    rw [List.range'_succ, List.foldl_cons, rep_foldl x k, List.replicate_succ]
    simp
theorem toI_rep (k W : Nat) : List.replicate k (W : Int) = toI (List.replicate k W) := by simp [toI]
theorem brick_i {L S W F : Nat} (hL : 1 ≤ L ∧ L ≤ 2000) (hS : S ≤ 200) (hW : 1 ≤ W ∧ W ≤ 200) (hF : 1 ≤ F ∧ F ≤ 200) : s_ibrick (L : Int) (S : Int) (W : Int) (F : Int) = some (brk L S W F) := by
  have hmin : min (F : Int) (L : Int) = ((min F L : Nat) : Int) := by omega
  have hpos := wids_pos (L := L) (S := S) (W := W) (F := F) hL.1 hW.1 hF.1
  have hbrk : brk L S W F = fin_i (wids L S W F) := rfl
  rw [hbrk]
  unfold s_ibrick t_ibrick
  try dsimp (config := {proj := false, iota := false, eta := false}) only
  rw [hmin]
  show f_ibrick_run3 ((S : Int), (W : Int), IntKind.wrap .i64 ((L : Int) - ((min F L : Nat) : Int)), [((min F L : Nat) : Int)]) = _
  revert hpos
  unfold wids
  generalize hf : min F L = f
  generalize hD : L - f = D
  generalize hk : D / (S + W) = k
  generalize hm : D % (S + W) = m
  intro hpos
  have hSW : 0 < S + W := by omega
  have h1 : k * (S + W) + m = D := by
    rw [← hk, ← hm, Nat.mul_comm]; exact Nat.div_add_mod D (S + W)
  have h2 : m < S + W := by rw [← hm]; exact Nat.mod_lt _ hSW
  have hfL : f ≤ L := by omega
  have hkD : k ≤ k * (S + W) := Nat.le_mul_of_pos_right _ hSW
  rw [IntWalk.i64_in ((L : Int) - (f : Int)) (by omega), show (L : Int) - (f : Int) = ((D - 0 * (S + W) : Nat) : Int) by omega]
  unfold f_ibrick_run3
  refine run_countI k (fun i (l : List Int) => ((S : Int), (W : Int), ((D - i * (S + W) : Nat) : Int), l)) (fun l _ => l ++ [(W : Int)]) (fun i l => l.length = 1 + i) _ [(f : Int)] (by omega) rfl ?_ ?_
  · intro i l hi hl
    refine ⟨?_, by simp [hl]; omega⟩
    show f_ibrick_n3 S W ((D - i * (S + W) : Nat) : Int) l = _
    have h3 : (i + 1) * (S + W) ≤ k * (S + W) := Nat.mul_le_mul_right _ hi
    rw [Nat.succ_mul] at h3
    unfold f_ibrick_n3 t_ibrick_3
    try dsimp (config := {proj := false, iota := false, eta := false}) only
    rw [IntWalk.i64_in ((S : Int) + (W : Int)) (by omega), decide_eq_true (show ((D - i * (S + W) : Nat) : Int) ≥ (S : Int) + (W : Int) by omega), IntWalk.i64_in (((D - i * (S + W) : Nat) : Int) - ((S : Int) + (W : Int))) (by omega), fits_small (by simp; omega), show ((D - i * (S + W) : Nat) : Int) - ((S : Int) + (W : Int)) = ((D - (i + 1) * (S + W) : Nat) : Int) by rw [Nat.succ_mul]; omega]
    rfl
  · rw [rep_foldl]
    intro _
    show f_ibrick_n3 S W ((D - k * (S + W) : Nat) : Int) ([(f : Int)] ++ List.replicate k (W : Int)) = _
    rw [show D - k * (S + W) = m by omega, toI_rep, show [(f : Int)] ++ toI (List.replicate k W) = toI (f :: List.replicate k W) from rfl]
    have hlen : (toI (f :: List.replicate k W)).length = k + 1 := by rw [toI_len]; simp
    unfold f_ibrick_n3 t_ibrick_3
    try dsimp (config := {proj := false, iota := false, eta := false}) only
    rw [IntWalk.i64_in ((S : Int) + (W : Int)) (by omega), decide_eq_false (show ¬ (m : Int) ≥ (S : Int) + (W : Int) by omega), cond_false]
    by_cases hms : m > S
    · rw [if_pos hms] at hpos ⊢
      rw [decide_eq_true (show (m : Int) > (S : Int) by omega), cond_true, fits_small (by rw [hlen]; simp; omega), cond_true, IntWalk.i64_in ((m : Int) - (S : Int)) (by omega), show (m : Int) - (S : Int) = ((m - S : Nat) : Int) by omega,
        show toI (f :: List.replicate k W) ++ [((m - S : Nat) : Int)] = toI (f :: (List.replicate k W ++ [m - S])) by rw [← List.cons_append, toI_app]; rfl]
      exact end_i hpos (by simp; omega)
    · rw [if_neg hms] at hpos ⊢
      rw [decide_eq_false (show ¬ (m : Int) > (S : Int) by omega), cond_false, hlen, len_ix (by omega) (by omega), inB_nat (by omega), cond_true, toNat_nat, toI_get]
      by_cases hk0 : k = 0
      · subst hk0
        rw [if_pos rfl] at hpos ⊢
        have e : List.set (toI (f :: List.replicate 0 W)) (0 + 1 - 1) (IntKind.wrap .i64 (((List.getD (f :: List.replicate 0 W) (0 + 1 - 1) 0 : Nat) : Int) + (m : Int))) = toI [f + m] := by
          rw [IntWalk.i64_in _ (by simp; omega)]
          show [(f : Int) + (m : Int)] = [((f + m : Nat) : Int)]
          rw [Int.natCast_add]
        rw [e, cond_true]
        exact end_i hpos (by simp)
      · rw [if_neg hk0] at hpos ⊢
        obtain ⟨k', rfl⟩ : ∃ k', k = k' + 1 := ⟨k - 1, by omega⟩
        have e0 : f :: List.replicate (k' + 1) W = (f :: List.replicate k' W) ++ [W] := by
          rw [List.replicate_succ', List.cons_append]
        have e1 : (f :: List.replicate (k' + 1) W).getD (k' + 1 + 1 - 1) 0 = W := by
          rw [e0, List.getD_eq_getElem?_getD, List.getElem?_append_right (by simp)]
          simp
        have e : List.set (toI (f :: List.replicate (k' + 1) W)) (k' + 1 + 1 - 1) (IntKind.wrap .i64 (((List.getD (f :: List.replicate (k' + 1) W) (k' + 1 + 1 - 1) 0 : Nat) : Int) + (m : Int))) = toI (f :: (List.replicate (k' + 1 - 1) W ++ [W + m])) := by
          rw [e1, IntWalk.i64_in _ (by omega), e0, toI_app, ← List.cons_append, toI_app]
          have := set_last (toI (f :: List.replicate k' W)) (W : Int) ((W : Int) + (m : Int))
          rw [List.length_append, toI_len] at this
          simp only [List.length_cons, List.length_replicate, List.length_nil] at this
          show List.set (toI (f :: List.replicate k' W) ++ [(W : Int)]) _ _ = toI (f :: List.replicate k' W) ++ [((W + m : Nat) : Int)]
          rw [show k' + 1 + 1 - 1 = k' + 1 + (0 + 1) - 1 by omega, this, Int.natCast_add]
        rw [e, cond_true]
        exact end_i hpos (by simp; omega)
theorem fin_s {l : List Nat} (hp : ∀ x ∈ l, 1 ≤ x) (h1 : 1 ≤ l.length) (hl : l.length ≤ 1000000) : ∃ o, f_sl05Brick_run14 (0, toI l, []) = some (o, (fin_i l).2) ∧ ((fin_i l).2 = true → o = (fin_i l).1) := by
  obtain ⟨o, h2, h3⟩ := conv_s hp hl
  have e : (fin_i l).2 = (decide (l.length ≤ 60) && l.all fun n => decide (n ≤ 200)) := by
    unfold fin_i
    cases (decide (l.length ≤ 60) && l.all fun n => decide (n ≤ 200)) <;> rfl
  refine ⟨o, ?_, fun ht => ?_⟩
  · rw [h2, e]
    have : decide (1 ≤ l.length ∧ l.length ≤ 60) = decide (l.length ≤ 60) := decide_eq_decide.2 ⟨fun h => h.2, fun h => ⟨h1, h⟩⟩
    rw [this]
  · rw [e, Bool.and_eq_true] at ht
    rw [h3 ht.2]
    unfold fin_i
    rw [ht.1, ht.2]; rfl
theorem brick_s {L S W F : Nat} (hL : 1 ≤ L ∧ L ≤ 2000) (hS : S ≤ 200) (hW : 1 ≤ W ∧ W ≤ 200) (hF : 1 ≤ F ∧ F ≤ 200) : ∃ o, s_sl05Brick (L : Int) (S : Int) (W : Int) (F : Int) = some (o, (brk L S W F).2) ∧ ((brk L S W F).2 = true → o = (brk L S W F).1) := by
  have hpos := wids_pos (L := L) (S := S) (W := W) (F := F) hL.1 hW.1 hF.1
  have hbrk : brk L S W F = fin_i (wids L S W F) := rfl
  rw [hbrk]
  unfold s_sl05Brick t_sl05Brick
  try dsimp (config := {proj := false, iota := false, eta := false}) only
  by_cases hFL : F ≥ L
  · have e : wids L S W F = [L] := by
      unfold wids
      rw [show min F L = L by omega, Nat.sub_self, Nat.zero_mod, Nat.zero_div, if_neg (by omega), if_pos rfl]; rfl
    rw [e] at hpos ⊢
    rw [decide_eq_true (show (F : Int) ≥ (L : Int) by omega)]
    exact fin_s (l := [L]) hpos (by simp) (by simp)
  · rw [decide_eq_false (show ¬ (F : Int) ≥ (L : Int) by omega), cond_false]
    revert hpos
    unfold wids
    rw [show min F L = F by omega]
    generalize hD : L - F = D
    generalize hk : D / (S + W) = k
    generalize hm : D % (S + W) = m
    intro hpos
    have hSW : 0 < S + W := by omega
    have h1 : k * (S + W) + m = D := by
      rw [← hk, ← hm, Nat.mul_comm]; exact Nat.div_add_mod D (S + W)
    have h2 : m < S + W := by rw [← hm]; exact Nat.mod_lt _ hSW
    have hkD : k ≤ k * (S + W) := Nat.le_mul_of_pos_right _ hSW
    have hstep : ∀ i (l : List Int), i < k → i < 60 → l.length = 1 + i → f_sl05Brick_n5 (L : Int) (S : Int) (W : Int) ((F + i * (S + W) : Nat) : Int) l = some (.inl ((L : Int), (S : Int), (W : Int), ((F + (i + 1) * (S + W) : Nat) : Int), l ++ [(W : Int)])) := by
      intro i l hi hi6 hl
      have h3 : (i + 1) * (S + W) ≤ k * (S + W) := Nat.mul_le_mul_right _ hi
      rw [Nat.succ_mul] at h3
      unfold f_sl05Brick_n5 t_sl05Brick_5
      try dsimp (config := {proj := false, iota := false, eta := false}) only
      rw [IntWalk.i64_in (((F + i * (S + W) : Nat) : Int) + (S : Int)) (by omega), IntWalk.i64_in (((F + i * (S + W) : Nat) : Int) + (S : Int) + (W : Int)) (by omega), decide_eq_true (show ((F + i * (S + W) : Nat) : Int) + (S : Int) + (W : Int) ≤ (L : Int) by omega), decide_eq_true (show ((l.length : Nat) : Int) ≤ 60 by omega), fits_small (by simp; omega), IntWalk.i64_in ((S : Int) + (W : Int)) (by omega), IntWalk.i64_in (((F + i * (S + W) : Nat) : Int) + ((S : Int) + (W : Int))) (by omega), show ((F + i * (S + W) : Nat) : Int) + ((S : Int) + (W : Int)) = ((F + (i + 1) * (S + W) : Nat) : Int) by rw [Nat.succ_mul]; omega]
      rfl
    have hrun : ∀ K, K ≤ k → K ≤ 60 → ∀ x, f_sl05Brick_n5 (L : Int) (S : Int) (W : Int) ((F + K * (S + W) : Nat) : Int) (toI (F :: List.replicate K W)) = some (.inr x) → f_sl05Brick_run5 ((L : Int), (S : Int), (W : Int), (F : Int), [(F : Int)]) = some x := by
      intro K hK hK6 x hx
      have e0 : (F : Int) = ((F + 0 * (S + W) : Nat) : Int) := by omega
      unfold f_sl05Brick_run5
      conv => lhs; arg 3; rw [e0]
      refine run_countI (step := fun x => f_sl05Brick_n5 x.1 x.2.1 x.2.2.1 x.2.2.2.1 x.2.2.2.2) K (fun i (l : List Int) => ((L : Int), (S : Int), (W : Int), ((F + i * (S + W) : Nat) : Int), l)) (fun l _ => l ++ [(W : Int)]) (fun i l => l.length = 1 + i) x _ (by omega) rfl ?_ ?_
      · intro i l hi hl
        exact ⟨hstep i l (by omega) (by omega) hl, by simp [hl]; omega⟩
      · rw [rep_foldl]
        intro _
        show f_sl05Brick_n5 (L : Int) (S : Int) (W : Int) ((F + K * (S + W) : Nat) : Int) ([((F + 0 * (S + W) : Nat) : Int)] ++ List.replicate K (W : Int)) = _
        rw [← e0, toI_rep]
        exact hx
    by_cases hk6 : k ≤ 60
    · have hlen : (toI (F :: List.replicate k W)).length = k + 1 := by rw [toI_len]; simp
      have go : ∀ l : List Nat, (∀ x ∈ l, 1 ≤ x) → 1 ≤ l.length → l.length ≤ 1000000 → (f_sl05Brick_n5 (L : Int) (S : Int) (W : Int) ((F + k * (S + W) : Nat) : Int) (toI (F :: List.replicate k W)) = Option.map (fun x => Sum.inr x) (f_sl05Brick_run14 (0, toI l, []))) →
          ∃ o, f_sl05Brick_run5 ((L : Int), (S : Int), (W : Int), (F : Int), [(F : Int)]) = some (o, (fin_i l).2) ∧ ((fin_i l).2 = true → o = (fin_i l).1) := by
        intro l hp hl1 hl2 he
        obtain ⟨o, q1, q2⟩ := fin_s hp hl1 hl2
        refine ⟨o, hrun k (Nat.le_refl _) hk6 _ ?_, q2⟩
        rw [he, q1]; rfl
      by_cases hms : m > S
      · rw [if_pos hms] at hpos ⊢
        refine go _ hpos (by simp) (by simp; omega) ?_
        unfold f_sl05Brick_n5 t_sl05Brick_5
        try dsimp (config := {proj := false, iota := false, eta := false}) only
        rw [IntWalk.i64_in (((F + k * (S + W) : Nat) : Int) + (S : Int)) (by omega), IntWalk.i64_in (((F + k * (S + W) : Nat) : Int) + (S : Int) + (W : Int)) (by omega), decide_eq_false (show ¬ ((F + k * (S + W) : Nat) : Int) + (S : Int) + (W : Int) ≤ (L : Int) by omega), cond_false, IntWalk.i64_in ((L : Int) - ((F + k * (S + W) : Nat) : Int)) (by omega), show (L : Int) - ((F + k * (S + W) : Nat) : Int) = (m : Int) by omega, decide_eq_true (show (m : Int) > (S : Int) by omega), cond_true, fits_small (by rw [hlen]; simp; omega), cond_true, IntWalk.i64_in ((m : Int) - (S : Int)) (by omega), show (m : Int) - (S : Int) = ((m - S : Nat) : Int) by omega,
          show toI (F :: List.replicate k W) ++ [((m - S : Nat) : Int)] = toI (F :: (List.replicate k W ++ [m - S])) by rw [← List.cons_append, toI_app]; rfl]
      · rw [if_neg hms] at hpos ⊢
        have pre : ∀ l, List.set (toI (F :: List.replicate k W)) k (IntKind.wrap .i64 (((List.getD (F :: List.replicate k W) k 0 : Nat) : Int) + (m : Int))) = toI l → f_sl05Brick_n5 (L : Int) (S : Int) (W : Int) ((F + k * (S + W) : Nat) : Int) (toI (F :: List.replicate k W)) = Option.map (fun x => Sum.inr x) (f_sl05Brick_run14 (0, toI l, [])) := by
          intro l hl
          unfold f_sl05Brick_n5 t_sl05Brick_5
          try dsimp (config := {proj := false, iota := false, eta := false}) only
          rw [IntWalk.i64_in (((F + k * (S + W) : Nat) : Int) + (S : Int)) (by omega), IntWalk.i64_in (((F + k * (S + W) : Nat) : Int) + (S : Int) + (W : Int)) (by omega), decide_eq_false (show ¬ ((F + k * (S + W) : Nat) : Int) + (S : Int) + (W : Int) ≤ (L : Int) by omega), cond_false, IntWalk.i64_in ((L : Int) - ((F + k * (S + W) : Nat) : Int)) (by omega), show (L : Int) - ((F + k * (S + W) : Nat) : Int) = (m : Int) by omega, decide_eq_false (show ¬ (m : Int) > (S : Int) by omega), cond_false, hlen, len_ix (by omega) (by omega), show k + 1 - 1 = k by omega, inB_nat (by omega), cond_true, toNat_nat, toI_get, hl, cond_true]
        by_cases hk0 : k = 0
        · subst hk0
          rw [if_pos rfl] at hpos ⊢
          refine go _ hpos (by simp) (by simp) (pre _ ?_)
          rw [IntWalk.i64_in _ (by simp; omega)]
          show [(F : Int) + (m : Int)] = [((F + m : Nat) : Int)]
          rw [Int.natCast_add]
        · rw [if_neg hk0] at hpos ⊢
          refine go _ hpos (by simp) (by simp; omega) (pre _ ?_)
          obtain ⟨k', rfl⟩ : ∃ k', k = k' + 1 := ⟨k - 1, by omega⟩
          have e0 : F :: List.replicate (k' + 1) W = (F :: List.replicate k' W) ++ [W] := by
            rw [List.replicate_succ', List.cons_append]
          have e1 : (F :: List.replicate (k' + 1) W).getD (k' + 1) 0 = W := by
            rw [e0, List.getD_eq_getElem?_getD, List.getElem?_append_right (by simp)]
            simp
          rw [e1, IntWalk.i64_in _ (by omega), e0, toI_app, ← List.cons_append, toI_app]
          have := set_last (toI (F :: List.replicate k' W)) (W : Int) ((W : Int) + (m : Int))
          rw [List.length_append, toI_len] at this
          simp only [List.length_cons, List.length_replicate, List.length_nil] at this
          show List.set (toI (F :: List.replicate k' W) ++ [(W : Int)]) _ _ = toI (F :: List.replicate k' W) ++ [((W + m : Nat) : Int)]
          rw [show k' + 1 = k' + 1 + (0 + 1) - 1 by omega, this, Int.natCast_add]
    · -- too many stones
      have h3 : 61 * (S + W) ≤ k * (S + W) := Nat.mul_le_mul_right _ (by omega)
      have hlen : (toI (F :: List.replicate 60 W)).length = 61 := by rw [toI_len]; simp
      have hbig : ∀ l : List Nat, 61 ≤ l.length → (fin_i l).2 = false := by
        intro l hl
        unfold fin_i
        rw [decide_eq_false (show ¬ l.length ≤ 60 by omega)]; rfl
      have hq : (fin_i (if m > S then F :: (List.replicate k W ++ [m - S]) else if k = 0 then [F + m] else F :: (List.replicate (k - 1) W ++ [W + m]))).2 = false := by
        apply hbig
        split
        · simp; omega
        · rw [if_neg (by omega)]; simp; omega
      rw [hq]
      obtain ⟨o, q1, q2⟩ := conv_s (l := F :: (List.replicate 60 W ++ [D - 60 * (S + W) - S])) (fun x hx => by
        simp only [List.mem_cons, List.mem_append, List.mem_replicate, List.not_mem_nil, or_false] at hx
        rcases hx with rfl | ⟨_, rfl⟩ | rfl <;> omega) (by simp)
      have e62 : decide (1 ≤ (F :: (List.replicate 60 W ++ [D - 60 * (S + W) - S])).length ∧ (F :: (List.replicate 60 W ++ [D - 60 * (S + W) - S])).length ≤ 60) = false := by
        apply decide_eq_false
        simp
      rw [e62, Bool.false_and] at q1
      refine ⟨o, hrun 60 (by omega) (Nat.le_refl _) _ ?_, fun h => nomatch h⟩
      unfold f_sl05Brick_n5 t_sl05Brick_5
      try dsimp (config := {proj := false, iota := false, eta := false}) only
      rw [IntWalk.i64_in (((F + 60 * (S + W) : Nat) : Int) + (S : Int)) (by omega), IntWalk.i64_in (((F + 60 * (S + W) : Nat) : Int) + (S : Int) + (W : Int)) (by omega), decide_eq_true (show ((F + 60 * (S + W) : Nat) : Int) + (S : Int) + (W : Int) ≤ (L : Int) by omega), cond_true, hlen, decide_eq_false (show ¬ ((61 : Nat) : Int) ≤ 60 by omega), cond_false, IntWalk.i64_in ((L : Int) - ((F + 60 * (S + W) : Nat) : Int)) (by omega), show (L : Int) - ((F + 60 * (S + W) : Nat) : Int) = ((D - 60 * (S + W) : Nat) : Int) by omega, decide_eq_true (show ((D - 60 * (S + W) : Nat) : Int) > (S : Int) by omega), cond_true, fits_small (by simp), cond_true, IntWalk.i64_in (((D - 60 * (S + W) : Nat) : Int) - (S : Int)) (by omega), show ((D - 60 * (S + W) : Nat) : Int) - (S : Int) = ((D - 60 * (S + W) - S : Nat) : Int) by omega,
        show toI (F :: List.replicate 60 W) ++ [((D - 60 * (S + W) - S : Nat) : Int)] = toI (F :: (List.replicate 60 W ++ [D - 60 * (S + W) - S])) by rw [← List.cons_append, toI_app]; rfl, q1]
      rfl
end Go.RR
