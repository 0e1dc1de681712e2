/- The plain law of TurnsOf: paths and their straight parts. -/
import Derived.Test.YtpcilcojfechaaaVc
import Derived.Test.YtpcilcojfechaaaRy
set_option linter.unusedVariables false
set_option linter.unusedSimpArgs false
namespace Go.RR
open Go

/-- What stands behind a run that may be left. -/
def endL {τ ρ : Type} (fin : τ → ρ) : τ ⊕ ρ → ρ
  | .inl st => fin st
  | .inr r => r
/-- A run that may be left, with what holds on the way. -/
theorem iter_exitI {α σ τ ρ : Type} {step : σ → Option (σ ⊕ ρ)} (N : Nat) (emb : Nat → τ → σ) (g : τ → Nat → τ ⊕ ρ) (I : Nat → τ → Prop) (fin : τ → ρ)
    (hs : ∀ i st, i < N → I i st → step (emb i st) = some (match g st i with | .inl st' => .inl (emb (i + 1) st') | .inr r => .inr r) ∧ ∀ st', g st i = .inl st' → I (i + 1) st') (he : ∀ st, I N st → step (emb N st) = some (.inr (fin st))) :
    ∀ (k i m : Nat), i + k = N → k < m → ∀ st, I i st → iter step m (emb i st) = some (endL fin (exitL g st (List.range' i k))) ∧ ∀ st', exitL g st (List.range' i k) = .inl st' → I N st'
  | 0, i, m + 1, h, hm, st, hI => by
    obtain rfl : i = N := h
    refine ⟨?_, fun st' e => by cases e; exact hI⟩
    unfold iter
    rw [he st hI]
    rfl
  | k + 1, i, m + 1, h, hm, st, hI => by
    rw [List.range'_succ]
    unfold iter exitL
    obtain ⟨h1, h2⟩ := hs i st (by omega) hI
    rw [h1]
    cases hg : g st i with
    | inl st' => exact iter_exitI (α := α) N emb g I fin hs he k (i + 1) m (by omega) (by omega) st' (h2 st' hg)
    | inr r => exact ⟨rfl, fun st' e => by cases e⟩
  | _, _, 0, _, hm, _, _ => by omega

/-! ### bytes -/
/-! ### Trim -/
/-! ### straight parts -/
/-! ### the law -/
end Go.RR
namespace Go.RR
open Go

/-! ### marks in a row -/
/-! ### widths -/
theorem any_width (l : List Int) (hl : l.length ≤ 1000000) : s_gContainsFunc_int64_a l = some (l.any s_iisWidth_1) := by
  unfold s_gContainsFunc_int64_a s_gIndexFunc_int64_a f_gIndexFunc_int64_a_run2
  have hs1 : ∀ i, i < l.length → f_gIndexFunc_int64_a_n2 (l.length : Nat) i l = some (cond (s_iisWidth_1 (l.getD i 0)) (Sum.inr (i : Int)) (Sum.inl (((l.length : Nat) : Int), ((i + 1 : Nat) : Int), l))) := by
    intro i hi
    unfold f_gIndexFunc_int64_a_n2
    rw [lt_true hi, inB_nat hi, toNat_nat, succ64 (by omega)]
    simp only [cond_true]
    cases s_iisWidth_1 (l.getD i 0) <;> rfl
  have he1 : f_gIndexFunc_int64_a_n2 (l.length : Nat) (l.length : Nat) l = some (Sum.inr (-1)) := by
    unfold f_gIndexFunc_int64_a_n2
    rw [lt_neg, cond_false]
  obtain ⟨r, h1, h2, _⟩ := run_idx (step := fun x => f_gIndexFunc_int64_a_n2 x.1 x.2.1 x.2.2) l.length (fun i => (((l.length : Nat) : Int), (i : Int), l)) (fun i => s_iisWidth_1 (l.getD i 0)) hs1 he1 l.length 0 FU (by omega) (FU_big (pow_big (by omega)))
  have h1 : iter (fun x => f_gIndexFunc_int64_a_n2 x.1 x.2.1 x.2.2) FU (((l.length : Nat) : Int), 0, l) = some r := h1
  rw [h1]
  simp only [Option.bind]
  rw [h2, any_getD 0 l s_iisWidth_1]
/-! ### the stones of one part -/
theorem foldl_map' {α β : Type} (f : α → β) : ∀ (l : List α) (s : List β), l.foldl (fun s x => s ++ [f x]) s = s ++ l.map f
  | [], s => by simp
  | x :: l, s => by rw [List.foldl_cons, foldl_map' f l]; simp
/-! ### all parts -/
/-! ### the law -/
end Go.RR
namespace Go.RR
open Go

theorem iter_in {σ ρ : Type} {step : σ → Option (σ ⊕ ρ)} {x y : σ} {m : Nat} (h : step x = some (.inl y)) : iter step (m + 1) x = iter step m y := by
  rw [iter, h]
theorem iter_out {σ ρ : Type} {step : σ → Option (σ ⊕ ρ)} {x : σ} {r : ρ} {m : Nat} (h : step x = some (.inr r)) : iter step (m + 1) x = some r := by
  rw [iter, h]
def OKW (r : List Int) : Prop := ∀ x ∈ r, 1 ≤ x ∧ x ≤ 200
theorem width_ok {x : Int} (h : 1 ≤ x ∧ x ≤ 200) : s_sl05Width x = true := by
  unfold s_sl05Width s_sl00In
  rw [decide_eq_true (show x ≥ 1 by omega), decide_eq_true (show x ≤ 200 by omega)]; rfl
theorem width_iff {x : Int} : s_sl05Width x = decide (1 ≤ x ∧ x ≤ 200) := by
  by_cases h : 1 ≤ x ∧ x ≤ 200
  · rw [width_ok h, decide_eq_true h]
  · rw [decide_eq_false h]
    unfold s_sl05Width s_sl00In
    by_cases h1 : x ≥ 1
    · rw [decide_eq_true h1, decide_eq_false (show ¬ x ≤ 200 by omega)]; rfl
    · rw [decide_eq_false h1]; rfl
theorem long_ok {x : Int} (h : 1 ≤ x ∧ x ≤ 2000) : s_iisLong x = true := by
  unfold s_iisLong s_iwithin
  rw [decide_eq_true (show (1 : Int) ≤ x by omega), decide_eq_true (show x ≤ 2000 by omega)]; rfl
theorem seam_ok {x : Int} (h : 0 ≤ x ∧ x ≤ 200) : s_iisSeam x = true := by
  unfold s_iisSeam s_iwithin
  rw [decide_eq_true (show (0 : Int) ≤ x by omega), decide_eq_true (show x ≤ 200 by omega)]; rfl
theorem in_len {n : Nat} : s_sl00In ((n : Nat) : Int) 1 60 = decide (1 ≤ n ∧ n ≤ 60) := by
  unfold s_sl00In
  by_cases h1 : 1 ≤ n
  · rw [decide_eq_true (show (n : Int) ≥ 1 by omega)]
    by_cases h2 : n ≤ 60
    · rw [decide_eq_true (show (n : Int) ≤ 60 by omega), decide_eq_true ⟨h1, h2⟩]; rfl
    · rw [decide_eq_false (show ¬ (n : Int) ≤ 60 by omega), decide_eq_false (fun h : 1 ≤ n ∧ n ≤ 60 => h2 h.2)]; rfl
  · rw [decide_eq_false (show ¬ (n : Int) ≥ 1 by omega), decide_eq_false (fun h : 1 ≤ n ∧ n ≤ 60 => h1 h.1)]; rfl
def okR (r : List Int) : Bool := decide (1 ≤ r.length ∧ r.length ≤ 60)
theorem ok_eq {r : List Int} (h : OKW r) (hl : r.length ≤ 1000000) : s_sl05Ok r = some (okR r) := by
  unfold s_sl05Ok okR
  rw [in_len]
  cases hd : decide (1 ≤ r.length ∧ r.length ≤ 60)
  · rfl
  · show f_sl05Ok_run4 (0, r) = some true
    unfold f_sl05Ok_run4
    refine (run_all (step := fun x => f_sl05Ok_n4 x.1 x.2) r.length (fun i => ((i : Int), r)) (fun i => true) true false (by omega) ?_ ?_).trans (by simp)
    · intro i hi
      show f_sl05Ok_n4 i r = _
      have hx := h _ (getD_mem' (d := 0) hi)
      unfold f_sl05Ok_n4
      rw [lt_true hi, inB_nat hi, toNat_nat, IntWalk.i64_in _ (by omega), width_ok hx, succ64 (by omega)]
      rfl
    · show f_sl05Ok_n4 (r.length : Nat) r = _
      unfold f_sl05Ok_n4
      rw [lt_neg, cond_false]
theorem isWidth_all {l : List Int} (hl : l.length ≤ 1000000) : s_iisWidth l = some (l.all s_sl05Width) := by
  unfold s_iisWidth
  rw [any_width _ hl]
  have e : ∀ x, s_iisWidth_1 x = !s_sl05Width x := fun x => rfl
  have : (l.any s_iisWidth_1) = !(l.all s_sl05Width) := by
    rw [List.all_eq_not_any_not]
    simp [funext e]
  simp only [Option.bind, this, Bool.not_not]
/-! ### Bricks -/
/-- The widths of a brick's row. -/
def wids (L S W F : Nat) : List Nat :=
  if (L - min F L) % (S + W) > S then min F L :: (List.replicate ((L - min F L) / (S + W)) W ++ [(L - min F L) % (S + W) - S])
  else if (L - min F L) / (S + W) = 0 then [min F L + (L - min F L) % (S + W)]
  else min F L :: (List.replicate ((L - min F L) / (S + W) - 1) W ++ [W + (L - min F L) % (S + W)])
def toI (l : List Nat) : List Int := l.map fun n : Nat => (n : Int)
def brkOk (L S W F : Nat) : Bool := decide ((wids L S W F).length ≤ 60) && (wids L S W F).all fun n => decide (n ≤ 200)
def brk (L S W F : Nat) : List Int × Bool := cond (brkOk L S W F) (toI (wids L S W F), true) ([], false)
theorem wids_pos {L S W F : Nat} (hL : 1 ≤ L) (hW : 1 ≤ W) (hF : 1 ≤ F) : ∀ x ∈ wids L S W F, 1 ≤ x := by
  intro x hx
  unfold wids at hx
  split at hx
  · simp only [List.mem_cons, List.mem_append, List.mem_replicate, List.not_mem_nil, or_false] at hx
    rcases hx with rfl | ⟨_, rfl⟩ | rfl <;> omega
  · split at hx
    · simp only [List.mem_singleton] at hx
      omega
    · simp only [List.mem_cons, List.mem_append, List.mem_replicate, List.not_mem_nil, or_false] at hx
      rcases hx with rfl | ⟨_, rfl⟩ | rfl <;> omega
theorem toI_len (l : List Nat) : (toI l).length = l.length := by simp [toI]
theorem toI_get (l : List Nat) (i : Nat) : (toI l).getD i 0 = ((l.getD i 0 : Nat) : Int) := by
  unfold toI
  rw [List.getD_eq_getElem?_getD, List.getD_eq_getElem?_getD, List.getElem?_map]
  cases l[i]? <;> rfl
theorem toI_all (l : List Nat) (hp : ∀ x ∈ l, 1 ≤ x) : (toI l).all s_sl05Width = l.all fun n => decide (n ≤ 200) := by
  unfold toI
  rw [List.all_map]
  apply Bool.eq_iff_iff.2
  rw [List.all_eq_true, List.all_eq_true]
  constructor
  · intro h x hx
    have h1 := h x hx
    have h2 := hp x hx
    simp only [Function.comp, width_iff, decide_eq_true_eq] at h1 ⊢
    omega
  · intro h x hx
    have h1 := h x hx
    have h2 := hp x hx
    simp only [Function.comp, width_iff, decide_eq_true_eq] at h1 ⊢
    omega
theorem conv_i {l : List Nat} (hl : l.length ≤ 60) (h : ∀ x ∈ l, x ≤ 200) : f_ibrick_run13 (((l.length : Nat) : Int), 0, [], toI l) = some (toI l, true) := by
  unfold f_ibrick_run13
  have := run_listI (step := fun x => f_ibrick_n13 x.1 x.2.1 x.2.2.1 x.2.2.2) (0 : Nat) l (fun i (o : List Int) => (((l.length : Nat) : Int), (i : Int), o, toI l)) (fun o x => o ++ [((x : Nat) : Int)]) (fun i o => o.length = i) (toI l, true) [] (by omega) rfl ?_ ?_
  · exact this
  · intro i o hi hm ho
    refine ⟨?_, by simp [ho]⟩
    show f_ibrick_n13 (l.length : Nat) i o (toI l) = _
    have hx := h _ hm
    unfold f_ibrick_n13 t_ibrick_13
    try dsimp (config := {proj := false, iota := false, eta := false}) only
    rw [lt_true hi, inB_nat (by rw [toI_len]; exact hi), toNat_nat, toI_get, IntWalk.i16_in _ (by omega), succ64 (by omega), fits_small (by simp; omega)]
    rfl
  · have e : l.foldl (fun (o : List Int) x => o ++ [((x : Nat) : Int)]) [] = toI l := by
      rw [foldl_map' (fun x : Nat => (x : Int))]; rfl
    intro _
    rw [e]
    show f_ibrick_n13 (l.length : Nat) (l.length : Nat) (toI l) (toI l) = _
    unfold f_ibrick_n13 t_ibrick_13
    try dsimp (config := {proj := false, iota := false, eta := false}) only
    rw [lt_neg, cond_false]
theorem conv_s {l : List Nat} (hp : ∀ x ∈ l, 1 ≤ x) (hl : l.length ≤ 1000000) : ∃ o, f_sl05Brick_run14 (0, toI l, []) = some (o, decide (1 ≤ l.length ∧ l.length ≤ 60) && l.all fun n => decide (n ≤ 200)) ∧ ((l.all fun n => decide (n ≤ 200)) = true → o = toI l) := by
  by_cases h : ∀ x ∈ l, x ≤ 200
  · have ha : (l.all fun n => decide (n ≤ 200)) = true := by
      rw [List.all_eq_true]; intro x hx; simpa using h x hx
    rw [ha, Bool.and_true]
    refine ⟨toI l, ?_, fun _ => rfl⟩
    unfold f_sl05Brick_run14
    refine run_listI (step := fun x => f_sl05Brick_n14 x.1 x.2.1 x.2.2) (0 : Nat) l (fun i (o : List Int) => ((i : Int), toI l, o)) (fun o x => o ++ [((x : Nat) : Int)]) (fun i o => o.length = i) _ [] (by omega) rfl ?_ ?_
    · intro i o hi hm ho
      refine ⟨?_, by simp [ho]⟩
      show f_sl05Brick_n14 i (toI l) o = _
      have hx := h _ hm
      have hx1 := hp _ hm
      unfold f_sl05Brick_n14 t_sl05Brick_14
      try dsimp (config := {proj := false, iota := false, eta := false}) only
      rw [toI_len, lt_true hi, inB_nat hi, toNat_nat, toI_get, width_ok (by omega), IntWalk.i16_in _ (by omega), succ64 (by omega), fits_small (by simp; omega)]
      rfl
    · have e : l.foldl (fun (o : List Int) x => o ++ [((x : Nat) : Int)]) [] = toI l := by
        rw [foldl_map' (fun x : Nat => (x : Int))]; rfl
      intro _
      rw [e]
      show f_sl05Brick_n14 (l.length : Nat) (toI l) (toI l) = _
      unfold f_sl05Brick_n14 t_sl05Brick_14
      try dsimp (config := {proj := false, iota := false, eta := false}) only
      rw [toI_len, lt_neg, cond_false, ok_eq (fun x hx => by
        obtain ⟨n, hn, rfl⟩ := List.mem_map.1 hx
        have h1 := h n hn
        have h2 := hp n hn
        omega) (by rw [toI_len]; exact hl)]
      unfold okR
      rw [toI_len]
      rfl
  · have ha : (l.all fun n => decide (n ≤ 200)) = false := by
      apply Bool.eq_false_iff.2
      intro hh
      rw [List.all_eq_true] at hh
      exact h fun x hx => by simpa using hh x hx
    rw [ha, Bool.and_false]
    refine ⟨[], ?_, fun h => nomatch h⟩
    unfold f_sl05Brick_run14
    -- the first one that is too wide ends it
    have key : ∀ (k i m : Nat) (o : List Int), i + k = l.length → k < m → o.length = i → (∃ j, i ≤ j ∧ j < l.length ∧ ¬ l.getD j 0 ≤ 200) → iter (fun x => f_sl05Brick_n14 x.1 x.2.1 x.2.2) m ((i : Int), toI l, o) = some ([], false) := by
      intro k
      induction k with
      | zero => intro i m o hi hm ho ⟨j, h1, h2, h3⟩; omega
      | succ k ih =>
        intro i m o hi hm ho ⟨j, h1, h2, h3⟩
        cases m with
        | zero => omega
        | succ m =>
          have hil : i < l.length := by omega
          by_cases hx : l.getD i 0 ≤ 200
          · have hx1 := hp _ (getD_mem' (d := 0) hil)
            have hstep : f_sl05Brick_n14 i (toI l) o = some (.inl (((i + 1 : Nat) : Int), toI l, o ++ [((l.getD i 0 : Nat) : Int)])) := by
              unfold f_sl05Brick_n14 t_sl05Brick_14
              try dsimp (config := {proj := false, iota := false, eta := false}) only
              rw [toI_len, lt_true hil, inB_nat hil, toNat_nat, toI_get, width_ok (by omega), IntWalk.i16_in _ (by omega), succ64 (by omega), fits_small (by simp; omega)]
              rfl
            rw [iter_in (step := fun x => f_sl05Brick_n14 x.1 x.2.1 x.2.2) hstep]
            refine ih (i + 1) m _ (by omega) (by omega) (by simp [ho]) ⟨j, ?_, h2, h3⟩
            rcases Nat.eq_or_lt_of_le h1 with e | e
            · exact absurd hx (e ▸ h3)
            · exact e
          · have hstep : f_sl05Brick_n14 i (toI l) o = some (.inr ([], false)) := by
              unfold f_sl05Brick_n14 t_sl05Brick_14
              try dsimp (config := {proj := false, iota := false, eta := false}) only
              rw [toI_len, lt_true hil, inB_nat hil, toNat_nat, toI_get, width_iff, decide_eq_false (by omega)]
              rfl
            exact iter_out (step := fun x => f_sl05Brick_n14 x.1 x.2.1 x.2.2) hstep
    refine key l.length 0 FU [] (by omega) (FU_big (pow_big (by omega))) rfl ?_
    by_cases hh : ∃ j, j < l.length ∧ ¬ l.getD j 0 ≤ 200
    · obtain ⟨j, h1, h2⟩ := hh
      exact ⟨j, Nat.zero_le _, h1, h2⟩
    · exfalso
      apply h
      intro x hx
      obtain ⟨j, hj, rfl⟩ := List.getElem_of_mem hx
      by_cases hc : l[j] ≤ 200
      · exact hc
      · exact absurd ⟨j, hj, by rw [List.getD_eq_getElem?_getD, List.getElem?_eq_getElem hj]; exact hc⟩ hh
end Go.RR
