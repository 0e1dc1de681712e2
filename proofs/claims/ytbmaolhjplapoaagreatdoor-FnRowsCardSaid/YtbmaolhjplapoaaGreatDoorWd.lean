/- Plain laws of rows: the fewest stones, the program's and the reference's. No condition. -/
import Derived.Test.YtbmaolhjplapoaaGreatDoorWa
import Derived.Test.YtbmaolhjplapoaaGreatDoorDb
set_option linter.unusedVariables false
set_option linter.unusedSimpArgs false
namespace Go.RR
open Go
structure SzOK (z : List Int) : Prop where
 len : 1 ≤ z.length ∧ z.length ≤ 8
 rng : ∀ n ∈ z, 1 ≤ n ∧ n ≤ 200
 inc : ∀ i, 0 < i → i < z.length → z.getD (i - 1) 0 < z.getD i 0
theorem SzOK.pos {z : List Int} (h : SzOK z) : SizesOK z := fun n hn => (h.rng n hn).1
theorem within_ok {x a b : Int} (h : a ≤ x ∧ x ≤ b) : s_q1n x a b = true := by
 unfold s_q1n
 rw [decide_eq_true h.1, decide_eq_true h.2]; rfl
theorem in_ok {x a b : Int} (h : a ≤ x ∧ x ≤ b) : s_q1w x a b = true := by
 unfold s_q1w
 rw [decide_eq_true (show x ≥ a from h.1), decide_eq_true h.2]; rfl
theorem slong_ok {L S : Int} (hL : 1 ≤ L ∧ L ≤ 2000) (hS : 0 ≤ S ∧ S ≤ 200) : s_q1f L S = true := by
 unfold s_q1f s_q1h
 rw [in_ok hL, in_ok hS]; rfl
theorem iSizes {z : List Int} {L S : Int} (h : SzOK z) (hL : 1 ≤ L ∧ L ≤ 2000) (hS : 0 ≤ S ∧ S ≤ 200) : s_q0y L S z = some true := by
 have hz := h.len
 unfold s_q0y f_q0y_run2
 refine run_count (step := fun x => f_q0y_n2 x.1 x.2.1 x.2.2.1 x.2.2.2.1 x.2.2.2.2) (τ := Unit) z.length (fun i _ => (L, S, ((z.length : Nat) : Int), (i : Int), z)) (fun _ _ => ()) true () (by omega) ?_ ?_
 ·intro i _ hi
  show f_q0y_n2 L S (z.length : Nat) i z = _
  unfold f_q0y_n2
  rw [lt_true hi, inB_nat hi, toNat_nat, succ64 (by omega), cond_true, cond_true]
  by_cases h0 : 0 < i
  ·rw [decide_eq_true (show (i : Int) > 0 by omega), len_ix h0 (by omega), inB_nat (show i - 1 < z.length by omega), toNat_nat, decide_eq_false (show ¬ z.getD (i - 1) 0 ≥ z.getD i 0 by have := h.inc i h0 hi; omega)]
   rfl
  ·rw [decide_eq_false (show ¬ (i : Int) > 0 by omega)]
   rfl
 ·show f_q0y_n2 L S (z.length : Nat) (z.length : Nat) z = _
  unfold f_q0y_n2
  have hw : z.all s_q14 = true := List.all_eq_true.2 fun n hn => width_ok (h.rng n hn)
  rw [lt_neg, cond_false, long_ok hL, seam_ok hS, within_ok (x := ((z.length : Nat) : Int)) (by omega), isWidth_all (by omega), hw]
  rfl
theorem sSizes {z : List Int} {L S : Int} (h : SzOK z) (hL : 1 ≤ L ∧ L ≤ 2000) (hS : 0 ≤ S ∧ S ≤ 200) : s_q13 L S z = some true := by
 have hz := h.len
 unfold s_q13
 rw [slong_ok hL hS, in_ok (x := ((z.length : Nat) : Int)) (by omega)]
 simp only [Bool.not_true, cond_false]
 unfold f_q13_run4
 refine run_count (step := fun x => f_q13_n4 x.1 x.2) (τ := Unit) z.length (fun i _ => ((i : Int), z)) (fun _ _ => ()) true () (by omega) ?_ ?_
 ·intro i _ hi
  show f_q13_n4 i z = _
  unfold f_q13_n4
  rw [lt_true hi, inB_nat hi, toNat_nat, succ64 (by omega), width_ok (h.rng _ (getD_mem' hi))]
  by_cases h0 : 0 < i
  ·rw [decide_eq_true (show (i : Int) > 0 by omega), len_ix h0 (by omega), inB_nat (show i - 1 < z.length by omega), toNat_nat, decide_eq_false (show ¬ z.getD i 0 ≤ z.getD (i - 1) 0 by have := h.inc i h0 hi; omega)]
   rfl
  ·rw [decide_eq_false (show ¬ (i : Int) > 0 by omega)]
   rfl
 ·show f_q13_n4 (z.length : Nat) z = _
  unfold f_q13_n4
  rw [lt_neg, cond_false]
def FT (z : List Int) (s c : Int) (t : Nat) (x : Int) (j : Nat) : Int := if j < t then few z s j else if j = t then x else c
def stF (z : List Int) (s : Int) (t : Nat) (x n : Int) : Int := if n + s ≤ (t : Int) then min x (few z s ((t : Int) - n - s).toNat + 1) else x
theorem stF_all {z : List Int} {s : Int} (hz : SizesOK z) (hs : 0 ≤ s) {t : Nat} (ht : 0 < t) : z.foldl (stF z s t) 61 = few z s t := (few_step hz hs t ht).symm
theorem FT_next (z : List Int) (s c : Int) (W t : Nat) : tbl (W + 1) (FT z s c t (few z s t)) = tbl (W + 1) (FT z s c (t + 1) c) := by
 refine tbl_congr fun i hi => ?_
 unfold FT
 by_cases h1 : i < t
 ·rw [if_pos h1, if_pos (by omega)]
 ·rw [if_neg h1]
  by_cases h2 : i = t
  ·subst h2; rw [if_pos rfl, if_pos (by omega)]
  ·rw [if_neg h2, if_neg (by omega)]
   split <;> rfl
theorem FT_set (z : List Int) (s c : Int) (W t : Nat) (x y : Int) : (tbl (W + 1) (FT z s c t x)).set t y = tbl (W + 1) (FT z s c t y) := by
 rw [tbl_set]
 refine tbl_congr fun i hi => ?_
 unfold FT
 by_cases h2 : i = t
 ·subst h2; rw [if_pos rfl, if_neg (by omega), if_pos rfl]
 ·rw [if_neg h2]
  by_cases h1 : i < t
  ·rw [if_pos h1, if_pos h1]
  ·rw [if_neg h1, if_neg h1, if_neg h2, if_neg h2]
theorem FT_at (z : List Int) (s c : Int) (t : Nat) (x : Int) : FT z s c t x t = x := by unfold FT; rw [if_neg (by omega), if_pos rfl]
theorem FT_lt (z : List Int) (s c : Int) {t j : Nat} (x : Int) (h : j < t) : FT z s c t x j = few z s j := if_pos h
theorem FT_end (z : List Int) (s c : Int) (W : Nat) (x : Int) : tbl (W + 1) (FT z s c (W + 1) x) = tbl (W + 1) (few z s) := tbl_congr fun i hi => FT_lt z s c x hi
theorem pick_before {z : List Int} {S : Int} {t i : Nat} (hi : i < pickI z S t) : goodF z S t (z.getD i 0) = false := by
 have hl : i < z.length := Nat.lt_of_lt_of_le hi List.findIdx_le_length
 have := List.not_of_lt_findIdx hi
 rw [List.getD_eq_getElem?_getD, List.getElem?_eq_getElem hl]
 simpa using this
section
variable {z : List Int} {S : Int} (h : SzOK z) (hS : 0 ≤ S ∧ S ≤ 200)
include h hS
theorem iFew_in {W t : Nat} (ht : 1 ≤ t ∧ t ≤ W) (hW : W ≤ 3000) : f_q0b_run10 ((t : Int), ((z.length : Nat) : Int), 0, z, S, (W : Int), tbl (W + 1) (FT z S 61 t 61)) = some (.inl (((t + 1 : Nat) : Int), z, S, (W : Int), tbl (W + 1) (FT z S 61 (t + 1) 61))) := by
 have hz := h.len
 unfold f_q0b_run10
 refine run_list (step := fun x => f_q0b_n10 x.1 x.2.1 x.2.2.1 x.2.2.2.1 x.2.2.2.2.1 x.2.2.2.2.2.1 x.2.2.2.2.2.2) 0 z (fun i x => ((t : Int), ((z.length : Nat) : Int), (i : Int), z, S, (W : Int), tbl (W + 1) (FT z S 61 t x))) (stF z S t) _ 61 (by omega) ?_ ?_
 ·intro i x hi hm
  show f_q0b_n10 t (z.length : Nat) i z S W (tbl (W + 1) (FT z S 61 t x)) = _
  have hr := h.rng _ hm
  unfold f_q0b_n10
  rw [lt_true hi, inB_nat hi, toNat_nat, succ64 (by omega), IntWalk.i64_in (z.getD i 0 + S) (by omega), tbl_len, cond_true, cond_true]
  unfold stF
  by_cases hc : z.getD i 0 + S ≤ (t : Int)
  ·obtain ⟨j, hj⟩ : ∃ j : Nat, (t : Int) - z.getD i 0 - S = (j : Int) := ⟨((t : Int) - z.getD i 0 - S).toNat, by omega⟩
   have hf := few_rng h.pos hS.1 j
   rw [decide_eq_true hc, IntWalk.i64_in ((t : Int) - z.getD i 0) (by omega), IntWalk.i64_in ((t : Int) - z.getD i 0 - S) (by omega), hj, inB_nat (show t < W + 1 by omega), inB_nat (show j < W + 1 by omega), toNat_nat, toNat_nat, tbl_get _ (show t < W + 1 by omega), tbl_get _ (show j < W + 1 by omega), FT_at, FT_lt z S 61 x (show j < t by omega), IntWalk.i64_in (few z S j + 1) (by omega), if_pos hc, FT_set]
   rfl
  ·rw [decide_eq_false hc, if_neg hc]
   rfl
 ·show f_q0b_n10 t (z.length : Nat) (z.length : Nat) z S W _ = _
  unfold f_q0b_n10
  rw [lt_neg, cond_false, stF_all h.pos hS.1 (by omega), FT_next, succ64 (by omega)]
theorem sFew_in {W t : Nat} {L : Int} (ht : 1 ≤ t ∧ t ≤ W) (hW : W ≤ 3000) : f_q0c_run9 (L, S, (t : Int), 0, z, tbl (W + 1) (FT z S 0 t 61)) = some (.inl (L, S, ((t + 1 : Nat) : Int), z, tbl (W + 1) (FT z S 0 (t + 1) 0))) := by
 have hz := h.len
 unfold f_q0c_run9
 refine run_list (step := fun x => f_q0c_n9 x.1 x.2.1 x.2.2.1 x.2.2.2.1 x.2.2.2.2.1 x.2.2.2.2.2) 0 z (fun i x => (L, S, (t : Int), (i : Int), z, tbl (W + 1) (FT z S 0 t x))) (stF z S t) _ 61 (by omega) ?_ ?_
 ·intro i x hi hm
  show f_q0c_n9 L S t i z (tbl (W + 1) (FT z S 0 t x)) = _
  have hr := h.rng _ hm
  unfold f_q0c_n9
  rw [lt_true hi, inB_nat hi, toNat_nat, succ64 (by omega), IntWalk.i64_in ((t : Int) - z.getD i 0) (by omega), IntWalk.i64_in ((t : Int) - z.getD i 0 - S) (by omega), tbl_len, cond_true, cond_true]
  unfold stF
  by_cases hc : z.getD i 0 + S ≤ (t : Int)
  ·obtain ⟨j, hj⟩ : ∃ j : Nat, (t : Int) - z.getD i 0 - S = (j : Int) := ⟨((t : Int) - z.getD i 0 - S).toNat, by omega⟩
   have hf := few_rng h.pos hS.1 j
   rw [decide_eq_true (show (t : Int) - z.getD i 0 - S ≥ 0 by omega), hj, inB_nat (show t < W + 1 by omega), inB_nat (show j < W + 1 by omega), toNat_nat, toNat_nat, tbl_get _ (show t < W + 1 by omega), tbl_get _ (show j < W + 1 by omega), FT_at, FT_lt z S 0 x (show j < t by omega), IntWalk.i64_in (few z S j + 1) (by omega), if_pos hc, FT_set]
   by_cases hm : few z S j + 1 < x
   ·rw [decide_eq_true hm, Int.min_eq_right (by omega)]
    rfl
   ·rw [decide_eq_false hm, Int.min_eq_left (by omega)]
    rfl
  ·rw [decide_eq_false (show ¬ (t : Int) - z.getD i 0 - S ≥ 0 by omega), if_neg hc]
   rfl
 ·show f_q0c_n9 L S t (z.length : Nat) z _ = _
  unfold f_q0c_n9
  rw [lt_neg, cond_false, stF_all h.pos hS.1 (by omega), FT_next, succ64 (by omega)]
theorem good_eq {W t : Nat} (ht : t ≤ W) (hW : W ≤ 3000) {n : Int} (hn : n ∈ z) : s_q09 n S t (tbl (W + 1) (few z S)) = some (goodF z S t n) := by
 have hr := h.rng n hn
 unfold s_q09 goodF
 rw [IntWalk.i64_in (n + S) (by omega), IntWalk.i64_in ((t : Int) - n) (by omega), IntWalk.i64_in ((t : Int) - n - S) (by omega), tbl_len]
 by_cases hc : n + S ≤ (t : Int)
 ·obtain ⟨j, hj⟩ : ∃ j : Nat, (t : Int) - n - S = (j : Int) := ⟨((t : Int) - n - S).toNat, by omega⟩
  have hf := few_rng h.pos hS.1 t
  rw [decide_eq_true hc, hj, inB_nat (show j < W + 1 by omega), inB_nat (show t < W + 1 by omega), toNat_nat, toNat_nat, tbl_get _ (show t < W + 1 by omega), tbl_get _ (show j < W + 1 by omega), IntWalk.i64_in (few z S t - 1) (by omega)]
  rfl
 ·rw [decide_eq_false hc]
  rfl
theorem pick_good {t : Nat} (ht : 0 < t) (h6 : few z S t ≤ 60) : pickI z S t < z.length ∧ goodF z S t (z.getD (pickI z S t) 0) = true := by
 obtain ⟨h1, h2, h3, h4⟩ := pickF_ok h.pos hS.1 ht h6
 refine ⟨h1, ?_⟩
 show goodF z S t (pickN z S t) = true
 unfold goodF
 rw [decide_eq_true h3, h4]
 simp
end
theorem iter_till {σ ρ : Type} {step : σ → Option (σ ⊕ ρ)} (emb : Nat → σ) (p : Nat → Bool) (r : Nat → ρ) (N j : Nat) (hj : j < N) (hp : p j = true) (hn : ∀ i, i < j → p i = false) (hs : ∀ i, i < N → step (emb i) = some (cond (p i) (.inr (r i)) (.inl (emb (i + 1))))) : ∀ (k i m : Nat), i + k = j → k < m → iter step m (emb i) = some (r j)
 | 0, i, m + 1, h, hm => by
  obtain rfl : i = j := h
  refine iter_out ?_
  rw [hs i hj, hp]; rfl
 | k + 1, i, m + 1, h, hm => by
  rw [iter_in (y := emb (i + 1)) (by rw [hs i (by omega), hn i (by omega)]; rfl)]
  exact iter_till emb p r N j hj hp hn hs k (i + 1) m (by omega) (by omega)
 | k, i, 0, _, hm => by omega
section
variable {z : List Int} {S : Int} (h : SzOK z) (hS : 0 ≤ S ∧ S ≤ 200)
include h hS
theorem idx_eq {W t : Nat} (ht : 0 < t) (htW : t ≤ W) (hW : W ≤ 3000) (h6 : few z S t ≤ 60) : s_q06 z S t (tbl (W + 1) (few z S)) = some (pickI z S t : Int) := by
 have hz := h.len
 obtain ⟨h1, h2⟩ := pick_good h hS ht h6
 unfold s_q06 f_q06_run2
 refine iter_till (step := fun x => f_q06_n2 x.1 x.2.1 x.2.2.1 x.2.2.2.1 x.2.2.2.2.1 x.2.2.2.2.2) (fun i => (((z.length : Nat) : Int), (i : Int), z, S, (t : Int), tbl (W + 1) (few z S))) (fun i => goodF z S t (z.getD i 0)) (fun i => (i : Int)) z.length (pickI z S t) h1 h2 (fun i hi => pick_before hi) ?_ (pickI z S t) 0 FU (by omega) (FU_big (pow_big (by omega)))
 intro i hi
 show f_q06_n2 (z.length : Nat) i z S t (tbl (W + 1) (few z S)) = _
 unfold f_q06_n2
 rw [lt_true hi, inB_nat hi, toNat_nat, good_eq h hS htW hW (getD_mem' hi), succ64 (by omega)]
 simp only [cond_true, Option.bind]
 cases goodF z S t (z.getD i 0) <;> rfl
theorem iBuild {W : Nat} (hW : W ≤ 3000) : ∀ (k t m : Nat) (out : List Int), few z S t = (k : Int) → t ≤ W → k ≤ 60 → out.length + k ≤ 100 → k < m →
  iter (fun x => f_q0b_n18 x.1 x.2.1 x.2.2.1 x.2.2.2.1 x.2.2.2.2) m (z, S, (t : Int), tbl (W + 1) (few z S), out) = some (out ++ buildF z S k t, 0)
 | 0, t, m + 1, out, hk, ht, h6, ho, hm => by
  have hr := (few_rng h.pos hS.1 t).2.2
  obtain rfl : t = 0 := by
   rcases Nat.eq_zero_or_pos t with h0 | h0
   ·exact h0
   ·have := hr h0; omega
  refine iter_out ?_
  show f_q0b_n18 z S 0 _ out = _
  unfold f_q0b_n18
  simp [buildF]
 | k + 1, t, m + 1, out, hk, ht, h6, ho, hm => by
  have h0 : 0 < t := by
   rcases Nat.eq_zero_or_pos t with h0 | h0
   ·subst h0; rw [few_zero] at hk; omega
   ·exact h0
  obtain ⟨p1, p2, p3, p4⟩ := pickF_ok h.pos hS.1 h0 (by omega)
  have hr := h.rng _ p2
  have hp : z.getD (pickI z S t) 0 = pickN z S t := rfl
  obtain ⟨u, hu⟩ : ∃ u : Nat, (t : Int) - (pickN z S t + S) = (u : Int) := ⟨((t : Int) - (pickN z S t + S)).toNat, by omega⟩
  have hu2 : ((t : Int) - pickN z S t - S).toNat = u := by omega
  rw [hu2] at p4
  have hs : f_q0b_n18 z S t (tbl (W + 1) (few z S)) out = some (.inl (z, S, (u : Int), tbl (W + 1) (few z S), out ++ [pickN z S t])) := by
   unfold f_q0b_n18
   rw [decide_eq_true (show (t : Int) > 0 by omega), idx_eq h hS h0 ht hW (by omega)]
   simp only [cond_true, Option.bind]
   rw [inB_nat p1, toNat_nat, hp, IntWalk.i16_in _ (by omega), IntWalk.i64_in (pickN z S t + S) (by omega), IntWalk.i64_in _ (by omega), hu, fits_small (by simp; omega)]
   rfl
  rw [iter_in (step := fun x => f_q0b_n18 x.1 x.2.1 x.2.2.1 x.2.2.2.1 x.2.2.2.2) (x := (z, S, (t : Int), tbl (W + 1) (few z S), out)) hs]
  rw [iBuild hW k u m (out ++ [pickN z S t]) (by omega) (by omega) (by omega) (by simp; omega) (by omega), List.append_assoc]
  simp only [buildF, hu2, List.singleton_append]
 | k, t, 0, out, _, _, _, _, hm => by omega
theorem sBuild {W : Nat} (hW : W ≤ 3000) : ∀ (k t m : Nat) (out : List Int), few z S t = (k : Int) → t ≤ W → k ≤ 60 → out.length + k ≤ 100 → k < m →
  iter (fun x => f_q0c_n18 x.1 x.2.1 x.2.2.1 x.2.2.2.1 x.2.2.2.2) m (S, (t : Int), z, tbl (W + 1) (few z S), out) = some (out ++ buildF z S k t, 0)
 | 0, t, m + 1, out, hk, ht, h6, ho, hm => by
  have hr := (few_rng h.pos hS.1 t).2.2
  obtain rfl : t = 0 := by
   rcases Nat.eq_zero_or_pos t with h0 | h0
   ·exact h0
   ·have := hr h0; omega
  refine iter_out ?_
  show f_q0c_n18 S 0 z _ out = _
  unfold f_q0c_n18
  simp [buildF]
 | k + 1, t, m + 1, out, hk, ht, h6, ho, hm => by
  have h0 : 0 < t := by
   rcases Nat.eq_zero_or_pos t with h0 | h0
   ·subst h0; rw [few_zero] at hk; omega
   ·exact h0
  have hz := h.len
  obtain ⟨p1, p2, p3, p4⟩ := pickF_ok h.pos hS.1 h0 (by omega)
  obtain ⟨q1, q2⟩ := pick_good h hS h0 (by omega)
  have hr := h.rng _ p2
  have hp : z.getD (pickI z S t) 0 = pickN z S t := rfl
  obtain ⟨u, hu⟩ : ∃ u : Nat, (t : Int) - pickN z S t - S = (u : Int) := ⟨((t : Int) - pickN z S t - S).toNat, by omega⟩
  have hu2 : ((t : Int) - pickN z S t - S).toNat = u := by omega
  rw [hu2] at p4
  have hin : f_q0c_run20 (S, (t : Int), 0, z, tbl (W + 1) (few z S), out) = some (.inl (S, (u : Int), z, tbl (W + 1) (few z S), out ++ [pickN z S t])) := by
   unfold f_q0c_run20
   have := iter_till (step := fun x => f_q0c_n20 x.1 x.2.1 x.2.2.1 x.2.2.2.1 x.2.2.2.2.1 x.2.2.2.2.2) (fun i => (S, (t : Int), (i : Int), z, tbl (W + 1) (few z S), out)) (fun i => goodF z S t (z.getD i 0)) (fun i => .inl (S, (t : Int) - z.getD i 0 - S, z, tbl (W + 1) (few z S), out ++ [z.getD i 0])) z.length (pickI z S t) q1 q2 (fun i hi => pick_before hi) ?_ (pickI z S t) 0 FU (by omega) (FU_big (pow_big (by omega)))
   ·rw [hp, hu] at this; exact this
   ·intro i hi
    have hm := getD_mem' (d := 0) hi
    have hr := h.rng _ hm
    show f_q0c_n20 S t i z (tbl (W + 1) (few z S)) out = _
    unfold f_q0c_n20 goodF
    rw [lt_true hi, inB_nat hi, toNat_nat, IntWalk.i64_in ((t : Int) - z.getD i 0) (by omega), IntWalk.i64_in ((t : Int) - z.getD i 0 - S) (by omega), tbl_len, succ64 (by omega), cond_true, cond_true]
    by_cases hc : z.getD i 0 + S ≤ (t : Int)
    ·obtain ⟨j, hj⟩ : ∃ j : Nat, (t : Int) - z.getD i 0 - S = (j : Int) := ⟨((t : Int) - z.getD i 0 - S).toNat, by omega⟩
     have hf := few_rng h.pos hS.1 j
     rw [decide_eq_true (show (t : Int) - z.getD i 0 - S ≥ 0 by omega), decide_eq_true hc, hj, inB_nat (show j < W + 1 by omega), inB_nat (show t < W + 1 by omega), toNat_nat, toNat_nat, tbl_get _ (show t < W + 1 by omega), tbl_get _ (show j < W + 1 by omega), IntWalk.i64_in (few z S j + 1) (by omega), IntWalk.i16_in (z.getD i 0) (by omega), fits_small (by simp; omega)]
     have e : (few z S j + 1 == few z S t) = (few z S j == few z S t - 1) := by
      rw [Bool.eq_iff_iff, beq_iff_eq, beq_iff_eq]; omega
     rw [e]
     cases few z S j == few z S t - 1 <;> rfl
    ·rw [decide_eq_false (show ¬ (t : Int) - z.getD i 0 - S ≥ 0 by omega), decide_eq_false hc]
     rfl
  have hs : f_q0c_n18 S t z (tbl (W + 1) (few z S)) out = some (.inl (S, (u : Int), z, tbl (W + 1) (few z S), out ++ [pickN z S t])) := by
   unfold f_q0c_n18
   rw [decide_eq_true (show (t : Int) > 0 by omega), hin]
   rfl
  rw [iter_in (step := fun x => f_q0c_n18 x.1 x.2.1 x.2.2.1 x.2.2.2.1 x.2.2.2.2) (x := (S, (t : Int), z, tbl (W + 1) (few z S), out)) hs]
  rw [sBuild hW k u m (out ++ [pickN z S t]) (by omega) (by omega) (by omega) (by simp; omega) (by omega), List.append_assoc]
  simp only [buildF, hu2, List.singleton_append]
 | k, t, 0, out, _, _, _, _, hm => by omega
end
def fewest (z : List Int) (S : Int) (W : Nat) : List Int × Int := if few z S W > 60 then ([], 6) else (buildF z S (few z S W).toNat W, 0)
section
variable {z : List Int} {S : Int} (h : SzOK z) (hS : 0 ≤ S ∧ S ≤ 200)
include h hS
theorem iFewest {L : Int} {W : Nat} (hL : 1 ≤ L ∧ L ≤ 2000) (hW : L + S = (W : Int)) : s_q0b L S z = some (fewest z S W) := by
 have hrep : s_q1i [61] (((W + 1 : Nat) : Int)) = some (List.replicate (W + 1) 61) := by
  unfold s_q1i
  rw [decide_eq_true (show (1 : Int) ≤ ((W + 1 : Nat) : Int) by omega), decide_eq_true (show ((W + 1 : Nat) : Int) ≤ 4000 by omega)]
  rfl
 unfold s_q0b
 rw [iSizes h hL hS]
 simp only [Option.bind, Bool.not_true, cond_false]
 rw [IntWalk.i64_in (L + S) (by omega), hW, IntWalk.i64_in ((W : Int) + 1) (by omega), show (W : Int) + 1 = ((W + 1 : Nat) : Int) by omega, hrep]
 simp only [List.length_replicate]
 rw [show inB 0 (W + 1) = true from inB_nat (i := 0) (by omega), cond_true, tbl_replicate, tbl_set, show tbl (W + 1) (fun j => if j = 0 then 0 else (fun _ => (61 : Int)) j) = tbl (W + 1) (FT z S 61 1 61) from tbl_congr fun i hi => by
  unfold FT
  by_cases h0 : i = 0
  ·subst h0; simp [few_zero]
  ·rw [if_neg h0, if_neg (by omega)]; split <;> rfl]
 unfold f_q0b_run7
 refine run_count (step := fun x => f_q0b_n7 x.1 x.2.1 x.2.2.1 x.2.2.2.1 x.2.2.2.2) (τ := Unit) W (fun i _ => (((i + 1 : Nat) : Int), z, S, (W : Int), tbl (W + 1) (FT z S 61 (i + 1) 61))) (fun _ _ => ()) _ () (by omega) ?_ ?_
 ·intro i _ hi
  show f_q0b_n7 ((i + 1 : Nat) : Int) z S W (tbl (W + 1) (FT z S 61 (i + 1) 61)) = _
  unfold f_q0b_n7
  rw [decide_eq_true (show ((i + 1 : Nat) : Int) ≤ (W : Int) by omega), cond_true]
  exact iFew_in h hS (by omega) (by omega)
 ·show f_q0b_n7 ((W + 1 : Nat) : Int) z S W (tbl (W + 1) (FT z S 61 (W + 1) 61)) = _
  unfold f_q0b_n7
  have hf := few_rng h.pos hS.1 W
  rw [decide_eq_false (show ¬ ((W + 1 : Nat) : Int) ≤ (W : Int) by omega), cond_false, FT_end, tbl_len, inB_nat (show W < W + 1 by omega), toNat_nat, tbl_get _ (show W < W + 1 by omega), cond_true]
  unfold fewest
  by_cases h6 : few z S W > 60
  ·rw [decide_eq_true h6, if_pos h6]; rfl
  ·rw [decide_eq_false h6, if_neg h6, cond_false]
   unfold f_q0b_run18
   rw [iBuild h hS (by omega) (few z S W).toNat W FU [] (by omega) (Nat.le_refl _) (by omega) (by simp; omega) (FU_big (pow_big (by omega)))]
   rfl
theorem sFewest {L : Int} {W : Nat} (hL : 1 ≤ L ∧ L ≤ 2000) (hW : L + S = (W : Int)) : s_q0c L S z = some (fewest z S W) := by
 unfold s_q0c
 rw [sSizes h hL hS]
 simp only [Option.bind, Bool.not_true, cond_false]
 rw [IntWalk.i64_in (L + S) (by omega), hW, IntWalk.i64_in ((W : Int) + 1) (by omega), show (W : Int) + 1 = ((W + 1 : Nat) : Int) by omega, toNat_nat, fits_small (by omega), decide_eq_true (show (0 : Int) ≤ ((W + 1 : Nat) : Int) by omega)]
 simp only [decide_true, Bool.and_self, cond_true]
 rw [tbl_replicate, show tbl (W + 1) (fun _ => (0 : Int)) = tbl (W + 1) (FT z S 0 1 0) from tbl_congr fun i hi => by
  unfold FT
  by_cases h0 : i < 1
  ·obtain rfl : i = 0 := by omega
   simp [few_zero]
  ·rw [if_neg h0]; split <;> rfl]
 unfold f_q0c_run5
 refine run_count (step := fun x => f_q0c_n5 x.1 x.2.1 x.2.2.1 x.2.2.2.1 x.2.2.2.2) (τ := Unit) W (fun i _ => (L, S, ((i + 1 : Nat) : Int), z, tbl (W + 1) (FT z S 0 (i + 1) 0))) (fun _ _ => ()) _ () (by omega) ?_ ?_
 ·intro i _ hi
  show f_q0c_n5 L S ((i + 1 : Nat) : Int) z (tbl (W + 1) (FT z S 0 (i + 1) 0)) = _
  unfold f_q0c_n5
  rw [tbl_len, lt_true (show i + 1 < W + 1 by omega), inB_nat (show i + 1 < W + 1 by omega), toNat_nat, FT_set, cond_true, cond_true]
  exact sFew_in h hS (by omega) (by omega)
 ·show f_q0c_n5 L S ((W + 1 : Nat) : Int) z (tbl (W + 1) (FT z S 0 (W + 1) 0)) = _
  unfold f_q0c_n5
  have hf := few_rng h.pos hS.1 W
  rw [tbl_len, lt_neg, cond_false, IntWalk.i64_in (L + S) (by omega), hW, FT_end, inB_nat (show W < W + 1 by omega), toNat_nat, tbl_get _ (show W < W + 1 by omega), cond_true]
  unfold fewest
  by_cases h6 : few z S W > 60
  ·rw [decide_eq_true h6, if_pos h6]; rfl
  ·rw [decide_eq_false h6, if_neg h6, cond_false]
   unfold f_q0c_run18
   rw [sBuild h hS (by omega) (few z S W).toNat W FU [] (by omega) (Nat.le_refl _) (by omega) (by simp; omega) (FU_big (pow_big (by omega)))]
   rfl
end
end Go.RR
namespace Go.RR
open Go
def Sat (f : Nat → Int) : Prop := ∀ t, 0 ≤ f t ∧ f t ≤ MST
def gP (W : Nat) (s c : Int) (a : Nat) (f : Nat → Int) (n : Int) : Nat → Int := if 0 < c ∧ (a : Int) + n + s ≤ (W : Int) then (fun t => if t = ((a : Int) + n + s).toNat then min (f t + c) MST else f t) else f
theorem gP_sat {W : Nat} {s c : Int} {a : Nat} {f : Nat → Int} {n : Int} (hc : 0 ≤ c) (hf : Sat f) : Sat (gP W s c a f n) := by
 intro t
 have := hf t
 unfold gP
 split
 ·show 0 ≤ (if t = _ then _ else _) ∧ (if t = _ then _ else _) ≤ MST
  split
  ·unfold MST at *; omega
  ·exact this
 ·exact this
theorem gP_all {W : Nat} {s c : Int} {a t : Nat} (hc : 0 ≤ c) (hs : 0 ≤ s) (ht : t ≤ W) : ∀ (z : List Int) (f : Nat → Int) (X : Int), (∀ n ∈ z, 1 ≤ n) → f t = min X MST → 0 ≤ X →
  (z.foldl (gP W s c a) f) t = min (X + (z.map fun n => if (a : Int) + n + s = (t : Int) then c else 0).sum) MST
 | [], f, X, _, h, _ => by simpa using h
 | n :: z, f, X, hz, h, hX => by
  have hn := hz n (by simp)
  rw [List.foldl_cons, gP_all hc hs ht z _ (X + if (a : Int) + n + s = (t : Int) then c else 0) (fun m hm => hz m (by simp [hm]))]
  ·congr 1
   rw [List.map_cons, List.sum_cons]; omega
  ·unfold gP
   by_cases h1 : 0 < c ∧ (a : Int) + n + s ≤ (W : Int)
   ·rw [if_pos h1]
    show (if t = ((a : Int) + n + s).toNat then min (f t + c) MST else f t) = _
    by_cases h2 : (a : Int) + n + s = (t : Int)
    ·rw [if_pos (by omega), if_pos h2, h]; unfold MST; omega
    ·rw [if_neg (by omega), if_neg h2, h]; congr 1; omega
   ·rw [if_neg h1, h]
    by_cases h2 : (a : Int) + n + s = (t : Int)
    ·rw [if_pos h2]; congr 1; omega
    ·rw [if_neg h2]; congr 1; omega
  ·split <;> omega
theorem foldl_sat {α : Type} (g : (Nat → Int) → α → Nat → Int) (hg : ∀ f x, Sat f → Sat (g f x)) : ∀ (l : List α) (f : Nat → Int), Sat f → Sat (l.foldl g f)
 | [], f, h => h
 | x :: l, f, h => foldl_sat g hg l _ (hg f x h)
def outP (z : List Int) (W : Nat) (s : Int) (now : Nat → Int) (f : Nat → Int) (a : Nat) : Nat → Int := z.foldl (gP W s (now a) a) f
theorem outP_all {z : List Int} {W : Nat} {s : Int} {now : Nat → Int} (hz : SizesOK z) (hs : 0 ≤ s) (hn : Sat now) {t : Nat} (ht : t ≤ W) : ∀ m, ((List.range' 0 m).foldl (outP z W s now) (fun _ => 0)) t = min (pushG z s now m t) MST
 | 0 => by
  show (0 : Int) = min 0 MST
  unfold MST; omega
 | m + 1 => by
  rw [List.range'_1_concat, List.foldl_append, List.foldl_cons, List.foldl_nil, Nat.zero_add]
  show (z.foldl (gP W s (now m) m) ((List.range' 0 m).foldl (outP z W s now) fun _ => 0)) t = _
  rw [gP_all (hn m).1 hs ht z _ (pushG z s now m t) hz (outP_all hz hs hn ht m) (pushG_nonneg z s (fun a => (hn a).1) t m)]
  rfl
theorem cnt_sat (z : List Int) (s : Int) (k : Nat) : Sat (cnt z s k) := fun t => cnt_rng z s k t
section
variable {z : List Int} {S : Int} (h : SzOK z) (hS : 0 ≤ S ∧ S ≤ 200)
include h hS
theorem iCnt_in {W a : Nat} {sum k : Int} {now f : Nat → Int} (ha : a ≤ W) (hW : W ≤ 3000) (hn : Sat now) (hf : Sat f) :
  f_q0o_run13 (S, (W : Int), sum, (a : Int), now a, k, ((W + 1 : Nat) : Int), (a : Int), ((z.length : Nat) : Int), 0, z, tbl (W + 1) f, tbl (W + 1) now) = some (.inl (S, (W : Int), sum, k, ((W + 1 : Nat) : Int), ((a + 1 : Nat) : Int), z, tbl (W + 1) (outP z W S now f a), tbl (W + 1) now)) := by
 have hz := h.len
 have hc := hn a
 unfold f_q0o_run13
 refine run_listI (step := fun x => f_q0o_n13 x.1 x.2.1 x.2.2.1 x.2.2.2.1 x.2.2.2.2.1 x.2.2.2.2.2.1 x.2.2.2.2.2.2.1 x.2.2.2.2.2.2.2.1 x.2.2.2.2.2.2.2.2.1 x.2.2.2.2.2.2.2.2.2.1 x.2.2.2.2.2.2.2.2.2.2.1 x.2.2.2.2.2.2.2.2.2.2.2.1 x.2.2.2.2.2.2.2.2.2.2.2.2) 0 z (fun i f => (S, (W : Int), sum, (a : Int), now a, k, ((W + 1 : Nat) : Int), (a : Int), ((z.length : Nat) : Int), (i : Int), z, tbl (W + 1) f, tbl (W + 1) now)) (gP W S (now a) a) (fun _ f => Sat f) _ f (by omega) hf ?_ ?_
 ·intro i f hi hm hf
  refine ⟨?_, gP_sat hc.1 hf⟩
  show f_q0o_n13 S W sum a (now a) k ((W + 1 : Nat) : Int) a (z.length : Nat) i z (tbl (W + 1) f) (tbl (W + 1) now) = _
  have hr := h.rng _ hm
  unfold f_q0o_n13 gP
  rw [lt_true hi, inB_nat hi, toNat_nat, succ64 (by omega), IntWalk.i64_in ((a : Int) + z.getD i 0) (by omega), IntWalk.i64_in ((a : Int) + z.getD i 0 + S) (by omega), tbl_len, cond_true, cond_true]
  by_cases h0 : 0 < now a
  ·rw [decide_eq_true (show now a > 0 from h0), cond_true]
   by_cases h1 : (a : Int) + z.getD i 0 + S ≤ (W : Int)
   ·obtain ⟨j, hj⟩ : ∃ j : Nat, (a : Int) + z.getD i 0 + S = (j : Int) := ⟨((a : Int) + z.getD i 0 + S).toNat, by omega⟩
    have hfj := hf j
    have hM : MST = 1000000000 := rfl
    rw [decide_eq_true h1, if_pos ⟨h0, h1⟩, hj, inB_nat (show j < W + 1 by omega), toNat_nat, tbl_get _ (show j < W + 1 by omega), IntWalk.i64_in (f j + now a) (by omega), tbl_set]
    simp only [cond_true]
    rw [show tbl (W + 1) (fun t => if t = j then min (f j + now a) 1000000000 else f t) = tbl (W + 1) (fun t => if t = j then min (f t + now a) MST else f t) from tbl_congr fun t _ => by
     by_cases e : t = j
     ·subst e; rw [if_pos rfl, if_pos rfl]; rfl
     ·rw [if_neg e, if_neg e]]
   ·rw [decide_eq_false h1, if_neg (by omega)]
    rfl
  ·rw [decide_eq_false (show ¬ now a > 0 from h0), if_neg (by omega)]
   rfl
 ·intro hf
  show f_q0o_n13 S W sum a (now a) k ((W + 1 : Nat) : Int) a (z.length : Nat) (z.length : Nat) z _ (tbl (W + 1) now) = _
  unfold f_q0o_n13
  rw [lt_neg, cond_false, succ64 (by omega)]
  rfl
theorem iCnt_out {W k : Nat} {sum : Int} (hW : W ≤ 3000) (hk : k < 100) (hs : 0 ≤ sum ∧ sum ≤ MST) :
  f_q0o_run10 (S, (W : Int), sum, (k : Int), ((W + 1 : Nat) : Int), 0, z, tbl (W + 1) (fun _ => 0), tbl (W + 1) (cnt z S k)) = some (.inl (S, (W : Int), min (sum + cnt z S (k + 1) W) MST, ((k + 1 : Nat) : Int), z, tbl (W + 1) (cnt z S (k + 1)))) := by
 have hn := cnt_sat z S k
 unfold f_q0o_run10
 refine run_countI (step := fun x => f_q0o_n10 x.1 x.2.1 x.2.2.1 x.2.2.2.1 x.2.2.2.2.1 x.2.2.2.2.2.1 x.2.2.2.2.2.2.1 x.2.2.2.2.2.2.2.1 x.2.2.2.2.2.2.2.2) (W + 1) (fun a f => (S, (W : Int), sum, (k : Int), ((W + 1 : Nat) : Int), (a : Int), z, tbl (W + 1) f, tbl (W + 1) (cnt z S k))) (outP z W S (cnt z S k)) (fun _ f => Sat f) _ (fun _ => 0) (by omega) (fun t => (by unfold MST; omega : (0 : Int) ≤ 0 ∧ (0 : Int) ≤ MST)) ?_ ?_
 ·intro a f ha hf
  refine ⟨?_, foldl_sat _ (fun f x hf => gP_sat (hn a).1 hf) z f hf⟩
  show f_q0o_n10 S W sum k ((W + 1 : Nat) : Int) a z (tbl (W + 1) f) (tbl (W + 1) (cnt z S k)) = _
  unfold f_q0o_n10
  rw [tbl_len, lt_true ha, inB_nat ha, toNat_nat, tbl_get _ ha, cond_true, cond_true]
  exact iCnt_in h hS (by omega) hW hn hf
 ·intro hf
  have he : tbl (W + 1) ((List.range' 0 (W + 1)).foldl (outP z W S (cnt z S k)) (fun _ => 0)) = tbl (W + 1) (cnt z S (k + 1)) := tbl_congr fun t ht => by
   rw [outP_all h.pos hS.1 hn (by omega) (W + 1), pushG_cnt z S k ht h.pos hS.1]
  show f_q0o_n10 S W sum k ((W + 1 : Nat) : Int) ((W + 1 : Nat) : Int) z (tbl (W + 1) ((List.range' 0 (W + 1)).foldl (outP z W S (cnt z S k)) (fun _ => 0))) (tbl (W + 1) (cnt z S k)) = _
  rw [he]
  have hc := cnt_rng z S (k + 1) W
  have hM : MST = 1000000000 := rfl
  unfold f_q0o_n10
  rw [lt_neg, cond_false, tbl_len, inB_nat (show W < W + 1 by omega), toNat_nat, tbl_get _ (show W < W + 1 by omega), IntWalk.i64_in (sum + cnt z S (k + 1) W) (by omega), succ64 (by omega)]
  rfl
theorem cnt_first (W : Nat) : (List.replicate (W + 1) (0 : Int)).set 0 1 = tbl (W + 1) (cnt z S 0) := by
 have _ := h
 have _ := hS
 rw [tbl_replicate, tbl_set]
 exact tbl_congr fun t _ => rfl
theorem iCount {L : Int} {W : Nat} (hL : 1 ≤ L ∧ L ≤ 2000) (hW : L + S = (W : Int)) : s_q0o L S z = some (totC z S W 60, 0) := by
 unfold s_q0o
 rw [iSizes h hL hS]
 simp only [Option.bind, Bool.not_true, cond_false]
 rw [IntWalk.i64_in (L + S) (by omega), hW, IntWalk.i64_in ((W : Int) + 1) (by omega), show (W : Int) + 1 = ((W + 1 : Nat) : Int) by omega, toNat_nat, fits_small (by omega), decide_eq_true (show (0 : Int) ≤ ((W + 1 : Nat) : Int) by omega)]
 simp only [decide_true, Bool.and_self, cond_true, List.length_replicate]
 rw [show inB 0 (W + 1) = true from inB_nat (i := 0) (by omega), cond_true, cnt_first h hS]
 unfold f_q0o_run7
 refine run_count (step := fun x => f_q0o_n7 x.1 x.2.1 x.2.2.1 x.2.2.2.1 x.2.2.2.2.1 x.2.2.2.2.2) (τ := Unit) 60 (fun k _ => (S, (W : Int), totC z S W k, (k : Int), z, tbl (W + 1) (cnt z S k))) (fun _ _ => ()) _ () (by omega) ?_ ?_
 ·intro k _ hk
  show f_q0o_n7 S W (totC z S W k) k z (tbl (W + 1) (cnt z S k)) = _
  unfold f_q0o_n7
  rw [decide_eq_true (show (k : Int) < 60 by omega), IntWalk.i64_in ((W : Int) + 1) (by omega), show (W : Int) + 1 = ((W + 1 : Nat) : Int) by omega, toNat_nat, fits_small (by omega), decide_eq_true (show (0 : Int) ≤ ((W + 1 : Nat) : Int) by omega), tbl_len, tbl_replicate]
  simp only [decide_true, Bool.and_self, cond_true]
  exact iCnt_out h hS (by omega) (by omega) (tot_rng z S W k)
 ·show f_q0o_n7 S W (totC z S W 60) 60 z (tbl (W + 1) (cnt z S 60)) = _
  rfl
def GT (z : List Int) (s : Int) (k t : Nat) (x : Int) (j : Nat) : Int := if j < t then cnt z s (k + 1) j else if j = t then x else 0
def stC (z : List Int) (s : Int) (k t : Nat) (x n : Int) : Int := if n + s ≤ (t : Int) then min (x + cnt z s k ((t : Int) - n - s).toNat) MST else x
theorem sCnt_in {W t k : Nat} {sum : Int} (ht : 1 ≤ t ∧ t ≤ W) (hW : W ≤ 3000) :
  f_q0t_run15 (S, (W : Int), sum, (k : Int), (t : Int), 0, z, tbl (W + 1) (cnt z S k), tbl (W + 1) (GT z S k t 0)) = some (.inl (S, (W : Int), sum, (k : Int), ((t + 1 : Nat) : Int), z, tbl (W + 1) (cnt z S k), tbl (W + 1) (GT z S k (t + 1) 0))) := by
 have hz := h.len
 have hM : MST = 1000000000 := rfl
 unfold f_q0t_run15
 refine run_listI (step := fun x => f_q0t_n15 x.1 x.2.1 x.2.2.1 x.2.2.2.1 x.2.2.2.2.1 x.2.2.2.2.2.1 x.2.2.2.2.2.2.1 x.2.2.2.2.2.2.2.1 x.2.2.2.2.2.2.2.2) 0 z (fun i x => (S, (W : Int), sum, (k : Int), (t : Int), (i : Int), z, tbl (W + 1) (cnt z S k), tbl (W + 1) (GT z S k t x))) (stC z S k t) (fun _ x => 0 ≤ x ∧ x ≤ MST) _ 0 (by omega) (by omega) ?_ ?_
 ·intro i x hi hm hx
  have hr := h.rng _ hm
  refine ⟨?_, ?_⟩
  ·show f_q0t_n15 S W sum k t i z (tbl (W + 1) (cnt z S k)) (tbl (W + 1) (GT z S k t x)) = _
   unfold f_q0t_n15 stC
   rw [lt_true hi, inB_nat hi, toNat_nat, succ64 (by omega), IntWalk.i64_in ((t : Int) - z.getD i 0) (by omega), IntWalk.i64_in ((t : Int) - z.getD i 0 - S) (by omega), tbl_len, tbl_len, cond_true, cond_true]
   by_cases hc : z.getD i 0 + S ≤ (t : Int)
   ·obtain ⟨j, hj⟩ : ∃ j : Nat, (t : Int) - z.getD i 0 - S = (j : Int) := ⟨((t : Int) - z.getD i 0 - S).toNat, by omega⟩
    have hf := cnt_rng z S k j
    have hg : GT z S k t x t = x := by unfold GT; rw [if_neg (by omega), if_pos rfl]
    rw [decide_eq_true (show (t : Int) - z.getD i 0 - S ≥ 0 by omega), hj, inB_nat (show t < W + 1 by omega), inB_nat (show j < W + 1 by omega), toNat_nat, toNat_nat, tbl_get _ (show t < W + 1 by omega), tbl_get _ (show j < W + 1 by omega), hg, IntWalk.i64_in (x + cnt z S k j) (by omega), if_pos hc, min_if, tbl_set]
    rw [show tbl (W + 1) (fun j' => if j' = t then min (x + cnt z S k j) 1000000000 else GT z S k t x j') = tbl (W + 1) (GT z S k t (min (x + cnt z S k j) MST)) from tbl_congr fun u _ => by
     unfold GT
     by_cases e : u = t
     ·subst e; rw [if_pos rfl, if_neg (by omega), if_pos rfl]; rfl
     ·rw [if_neg e]
      by_cases e2 : u < t
      ·rw [if_pos e2, if_pos e2]
      ·rw [if_neg e2, if_neg e2, if_neg e, if_neg e]]
    rfl
   ·rw [decide_eq_false (show ¬ (t : Int) - z.getD i 0 - S ≥ 0 by omega), if_neg hc]
    rfl
  ·unfold stC
   have hf := cnt_rng z S k ((t : Int) - z.getD i 0 - S).toNat
   split
   ·omega
   ·exact hx
 ·intro _
  have e : z.foldl (stC z S k t) 0 = cnt z S (k + 1) t := by
   have := pull_all (fun n => n + S ≤ (t : Int)) (fun n => cnt z S k ((t : Int) - n - S).toNat) (fun n => (cnt_rng z S k _).1) z 0 0 (by rw [hM]; rfl) (Int.le_refl _)
   rw [Int.zero_add] at this
   exact this
  show f_q0t_n15 S W sum k t (z.length : Nat) z (tbl (W + 1) (cnt z S k)) (tbl (W + 1) (GT z S k t (z.foldl (stC z S k t) 0))) = _
  unfold f_q0t_n15
  rw [lt_neg, cond_false, e, succ64 (by omega), show tbl (W + 1) (GT z S k t (cnt z S (k + 1) t)) = tbl (W + 1) (GT z S k (t + 1) 0) from tbl_congr fun u _ => by
   unfold GT
   by_cases e2 : u < t
   ·rw [if_pos e2, if_pos (by omega)]
   ·rw [if_neg e2]
    by_cases e : u = t
    ·subst e; rw [if_pos rfl, if_pos (by omega)]
    ·rw [if_neg e, if_neg (by omega)]; split <;> rfl]
theorem sCnt_out {W k : Nat} {sum : Int} (hW : W ≤ 3000) (hk : k < 100) (hs : 0 ≤ sum ∧ sum ≤ MST) :
  f_q0t_run12 (S, (W : Int), sum, (k : Int), 1, z, tbl (W + 1) (cnt z S k), tbl (W + 1) (fun _ => 0)) = some (.inl (S, (W : Int), min (sum + cnt z S (k + 1) W) MST, ((k + 1 : Nat) : Int), z, tbl (W + 1) (cnt z S (k + 1)))) := by
 have hM : MST = 1000000000 := rfl
 have h0 : tbl (W + 1) (fun _ => (0 : Int)) = tbl (W + 1) (GT z S k 1 0) := tbl_congr fun t _ => by
  unfold GT
  by_cases e : t < 1
  ·obtain rfl : t = 0 := by omega
   rw [if_pos e]
   have h1 : cnt z S (k + 1) 0 = min (z.map fun n => if n + S ≤ ((0 : Nat) : Int) then cnt z S k (((0 : Nat) : Int) - n - S).toNat else 0).sum MST := rfl
   have h2 : ∀ l : List Int, (∀ n ∈ l, 1 ≤ n) → (l.map fun n => if n + S ≤ ((0 : Nat) : Int) then cnt z S k (((0 : Nat) : Int) - n - S).toNat else 0).sum = 0 := by
    intro l
    induction l with
    | nil => intro _; rfl
    | cons b l ih =>
     intro hl
     have := hl b (by simp)
     rw [List.map_cons, List.sum_cons, ih fun n hn => hl n (by simp [hn]), if_neg (by omega)]; rfl
   rw [h1, h2 z h.pos]
   rfl
  ·rw [if_neg e]; split <;> rfl
 rw [h0]
 unfold f_q0t_run12
 refine run_count (step := fun x => f_q0t_n12 x.1 x.2.1 x.2.2.1 x.2.2.2.1 x.2.2.2.2.1 x.2.2.2.2.2.1 x.2.2.2.2.2.2.1 x.2.2.2.2.2.2.2) (τ := Unit) W (fun i _ => (S, (W : Int), sum, (k : Int), ((i + 1 : Nat) : Int), z, tbl (W + 1) (cnt z S k), tbl (W + 1) (GT z S k (i + 1) 0))) (fun _ _ => ()) _ () (by omega) ?_ ?_
 ·intro i _ hi
  show f_q0t_n12 S W sum k ((i + 1 : Nat) : Int) z (tbl (W + 1) (cnt z S k)) (tbl (W + 1) (GT z S k (i + 1) 0)) = _
  unfold f_q0t_n12
  rw [decide_eq_true (show ((i + 1 : Nat) : Int) ≤ (W : Int) by omega), cond_true]
  exact sCnt_in h hS (by omega) hW
 ·have he : tbl (W + 1) (GT z S k (W + 1) 0) = tbl (W + 1) (cnt z S (k + 1)) := tbl_congr fun t ht => if_pos ht
  show f_q0t_n12 S W sum k ((W + 1 : Nat) : Int) z (tbl (W + 1) (cnt z S k)) (tbl (W + 1) (GT z S k (W + 1) 0)) = _
  rw [he]
  have hc := cnt_rng z S (k + 1) W
  unfold f_q0t_n12
  rw [decide_eq_false (show ¬ ((W + 1 : Nat) : Int) ≤ (W : Int) by omega), cond_false, tbl_len, inB_nat (show W < W + 1 by omega), toNat_nat, tbl_get _ (show W < W + 1 by omega), IntWalk.i64_in (sum + cnt z S (k + 1) W) (by omega), succ64 (by omega), min_if]
  rfl
theorem sCount {L : Int} {W : Nat} (hL : 1 ≤ L ∧ L ≤ 2000) (hW : L + S = (W : Int)) : s_q0t L S z = some (totC z S W 60, 0) := by
 unfold s_q0t
 rw [sSizes h hL hS]
 simp only [Option.bind, Bool.not_true, cond_false]
 rw [IntWalk.i64_in (L + S) (by omega), hW, IntWalk.i64_in ((W : Int) + 1) (by omega), show (W : Int) + 1 = ((W + 1 : Nat) : Int) by omega, toNat_nat, fits_small (by omega), decide_eq_true (show (0 : Int) ≤ ((W + 1 : Nat) : Int) by omega)]
 simp only [decide_true, Bool.and_self, cond_true, List.length_replicate]
 rw [show inB 0 (W + 1) = true from inB_nat (i := 0) (by omega), cond_true, cnt_first h hS]
 unfold f_q0t_run8
 refine run_count (step := fun x => f_q0t_n8 x.1 x.2.1 x.2.2.1 x.2.2.2.1 x.2.2.2.2.1 x.2.2.2.2.2) (τ := Unit) 60 (fun k _ => (S, (W : Int), totC z S W k, (k : Int), z, tbl (W + 1) (cnt z S k))) (fun _ _ => ()) _ () (by omega) ?_ ?_
 ·intro k _ hk
  show f_q0t_n8 S W (totC z S W k) k z (tbl (W + 1) (cnt z S k)) = _
  unfold f_q0t_n8
  rw [decide_eq_true (show (k : Int) < 60 by omega), IntWalk.i64_in ((W : Int) + 1) (by omega), show (W : Int) + 1 = ((W + 1 : Nat) : Int) by omega, toNat_nat, fits_small (by omega), decide_eq_true (show (0 : Int) ≤ ((W + 1 : Nat) : Int) by omega), tbl_replicate]
  simp only [decide_true, Bool.and_self, cond_true]
  exact sCnt_out h hS (by omega) (by omega) (tot_rng z S W k)
 ·show f_q0t_n8 S W (totC z S W 60) 60 z (tbl (W + 1) (cnt z S 60)) = _
  rfl
end
end Go.RR
