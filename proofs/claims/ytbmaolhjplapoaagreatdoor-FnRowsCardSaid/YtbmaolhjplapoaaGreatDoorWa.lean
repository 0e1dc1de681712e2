/- Plain laws of rows: which are valid, joints, lengths. No condition. -/
import Derived.Test.YtbmaolhjplapoaaGreatDoorVe
import Derived.Test.YtbmaolhjplapoaaGreatDoorRy
set_option linter.unusedVariables false
set_option linter.unusedSimpArgs false
namespace Go.RR
open Go
theorem iter_in {σ ρ : Type} {step : σ → Option (σ ⊕ ρ)} {x y : σ} {m : Nat} (h : step x = some (.inl y)) : iter step (m + 1) x = iter step m y := by
 rw [iter, h]
theorem iter_out {σ ρ : Type} {step : σ → Option (σ ⊕ ρ)} {x : σ} {r : ρ} {m : Nat} (h : step x = some (.inr r)) : iter step (m + 1) x = some r := by
 rw [iter, h]
def OKW (r : List Int) : Prop := ∀ x ∈ r, 1 ≤ x ∧ x ≤ 200
theorem width_ok {x : Int} (h : 1 ≤ x ∧ x ≤ 200) : s_q14 x = true := by
 unfold s_q14 s_q1w
 rw [decide_eq_true (show x ≥ 1 by omega), decide_eq_true (show x ≤ 200 by omega)]; rfl
theorem long_ok {x : Int} (h : 1 ≤ x ∧ x ≤ 2000) : s_q1l x = true := by
 unfold s_q1l s_q1n
 rw [decide_eq_true (show (1 : Int) ≤ x by omega), decide_eq_true (show x ≤ 2000 by omega)]; rfl
theorem seam_ok {x : Int} (h : 0 ≤ x ∧ x ≤ 200) : s_q1m x = true := by
 unfold s_q1m s_q1n
 rw [decide_eq_true (show (0 : Int) ≤ x by omega), decide_eq_true (show x ≤ 200 by omega)]; rfl
theorem in_len {n : Nat} : s_q1w ((n : Nat) : Int) 1 60 = decide (1 ≤ n ∧ n ≤ 60) := by
 unfold s_q1w
 by_cases h1 : 1 ≤ n
 ·rw [decide_eq_true (show (n : Int) ≥ 1 by omega)]
  by_cases h2 : n ≤ 60
  ·rw [decide_eq_true (show (n : Int) ≤ 60 by omega), decide_eq_true ⟨h1, h2⟩]; rfl
  ·rw [decide_eq_false (show ¬ (n : Int) ≤ 60 by omega), decide_eq_false (fun h : 1 ≤ n ∧ n ≤ 60 => h2 h.2)]; rfl
 ·rw [decide_eq_false (show ¬ (n : Int) ≥ 1 by omega), decide_eq_false (fun h : 1 ≤ n ∧ n ≤ 60 => h1 h.1)]; rfl
theorem within_len {n : Nat} : s_q1n ((n : Nat) : Int) 1 60 = decide (1 ≤ n ∧ n ≤ 60) := by
 unfold s_q1n
 by_cases h1 : 1 ≤ n
 ·rw [decide_eq_true (show (1 : Int) ≤ (n : Int) by omega)]
  by_cases h2 : n ≤ 60
  ·rw [decide_eq_true (show (n : Int) ≤ 60 by omega), decide_eq_true ⟨h1, h2⟩]; rfl
  ·rw [decide_eq_false (show ¬ (n : Int) ≤ 60 by omega), decide_eq_false (fun h : 1 ≤ n ∧ n ≤ 60 => h2 h.2)]; rfl
 ·rw [decide_eq_false (show ¬ (1 : Int) ≤ (n : Int) by omega), decide_eq_false (fun h : 1 ≤ n ∧ n ≤ 60 => h1 h.1)]; rfl
def okR (r : List Int) : Bool := decide (1 ≤ r.length ∧ r.length ≤ 60)
theorem ok_eq {r : List Int} (h : OKW r) (hl : r.length ≤ 1000000) : s_q1x r = some (okR r) := by
 unfold s_q1x okR
 rw [in_len]
 cases hd : decide (1 ≤ r.length ∧ r.length ≤ 60)
 ·rfl
 ·show f_q1x_run4 (0, r) = some true
  unfold f_q1x_run4
  refine (run_all (step := fun x => f_q1x_n4 x.1 x.2) r.length (fun i => ((i : Int), r)) (fun i => true) true false (by omega) ?_ ?_).trans (by simp)
  ·intro i hi
   show f_q1x_n4 i r = _
   have hx := h _ (getD_mem' (d := 0) hi)
   unfold f_q1x_n4
   rw [lt_true hi, inB_nat hi, toNat_nat, IntWalk.i64_in _ (by omega), width_ok hx, succ64 (by omega)]
   rfl
  ·show f_q1x_n4 (r.length : Nat) r = _
   unfold f_q1x_n4
   rw [lt_neg, cond_false]
theorem any_width (l : List Int) (hl : l.length ≤ 1000000) : s_q02 l = some (l.any s_q0r) := by
 unfold s_q02 s_q05 f_q05_run2
 have hs1 : ∀ i, i < l.length → f_q05_n2 (l.length : Nat) i l = some (cond (s_q0r (l.getD i 0)) (Sum.inr (i : Int)) (Sum.inl (((l.length : Nat) : Int), ((i + 1 : Nat) : Int), l))) := by
  intro i hi
  unfold f_q05_n2
  rw [lt_true hi, inB_nat hi, toNat_nat, succ64 (by omega)]
  simp only [cond_true]
  cases s_q0r (l.getD i 0) <;> rfl
 have he1 : f_q05_n2 (l.length : Nat) (l.length : Nat) l = some (Sum.inr (-1)) := by
  unfold f_q05_n2
  rw [lt_neg, cond_false]
 obtain ⟨r, h1, h2, _⟩ := run_idx (step := fun x => f_q05_n2 x.1 x.2.1 x.2.2) l.length (fun i => (((l.length : Nat) : Int), (i : Int), l)) (fun i => s_q0r (l.getD i 0)) hs1 he1 l.length 0 FU (by omega) (FU_big (pow_big (by omega)))
 have h1 : iter (fun x => f_q05_n2 x.1 x.2.1 x.2.2) FU (((l.length : Nat) : Int), 0, l) = some r := h1
 rw [h1]
 simp only [Option.bind]
 rw [h2, any_getD 0 l s_q0r]
theorem any_not_all {α : Type} (p : α → Bool) : ∀ l : List α, (l.any fun x => !p x) = !l.all p
 | [] => rfl
 | x :: m => by rw [List.any_cons, List.all_cons, any_not_all p m]; cases p x <;> rfl
theorem isWidth_all {l : List Int} (hl : l.length ≤ 1000000) : s_q1a l = some (l.all s_q14) := by
 unfold s_q1a
 rw [any_width _ hl]
 have e : ∀ x, s_q0r x = !s_q14 x := fun x => rfl
 have : (l.any s_q0r) = !(l.all s_q14) := by
  rw [List.all_eq_not_any_not]
  simp [funext e]
 simp only [Option.bind, this, Bool.not_not]
theorem valid_one {x : Int} (h : 1 ≤ x ∧ x ≤ 200) : s_q0l x = some false := by
 unfold s_q0l
 rw [IntWalk.i64_in _ (by omega), isWidth_all (by simp)]
 simp only [Option.bind, List.all_cons, List.all_nil, width_ok h]
 rfl
theorem any_bad {r : List Int} (h : OKW r) (hl : r.length ≤ 1000000) : s_q00 r = some false := by
 unfold s_q00 s_q03 f_q03_run2
 have : iter (fun x => f_q03_n2 x.1 x.2.1 x.2.2) FU (((r.length : Nat) : Int), 0, r) = some (-1) := by
  refine (run_all (step := fun x => f_q03_n2 x.1 x.2.1 x.2.2) r.length (fun i => (((r.length : Nat) : Int), (i : Int), r)) (fun i => true) (-1) 0 (by omega) ?_ ?_).trans (by rw [List.all_eq_true.2 (fun _ _ => rfl)]; rfl)
  ·intro i hi
   show f_q03_n2 (r.length : Nat) i r = _
   unfold f_q03_n2
   rw [lt_true hi, inB_nat hi, toNat_nat, valid_one (h _ (getD_mem' (d := 0) hi)), succ64 (by omega)]
   rfl
  ·show f_q03_n2 (r.length : Nat) (r.length : Nat) r = _
   unfold f_q03_n2
   rw [lt_neg, cond_false]
 rw [this]; rfl
theorem valid_eq {r : List Int} (h : OKW r) (hl : r.length ≤ 1000000) : s_q0x r = some (okR r) := by
 unfold s_q0x okR
 rw [within_len, any_bad h hl]
 cases decide (1 ≤ r.length ∧ r.length ≤ 60) <;> rfl
theorem len_ix {n : Nat} (h : 0 < n) (h2 : n ≤ 2000000) : IntKind.wrap .i64 (((n : Nat) : Int) - 1) = ((n - 1 : Nat) : Int) := by
 rw [IntWalk.i64_in _ (by omega)]; omega
structure OKR (r : List Int) : Prop where
 w : OKW r
 p : 1 ≤ r.length
 l : r.length ≤ 60
abbrev JT := Int × Int
def jst (r : List Int) (S : Int) (st : Int × List JT) (i : Nat) : Int × List JT := (st.1 + r.getD i 0 + S, st.2 ++ [(st.1 + r.getD i 0, st.1 + r.getD i 0 + S)])
def J (r : List Int) (S : Int) : List JT := ((List.range' 0 (r.length - 1)).foldl (jst r S) (0, [])).2
def InJ (p : JT) : Prop := (0 ≤ p.1 ∧ p.1 ≤ 24000) ∧ 0 ≤ p.2 ∧ p.2 ≤ 24000
def JI (i : Nat) (st : Int × List JT) : Prop := (0 ≤ st.1 ∧ st.1 ≤ 400 * i) ∧ st.2.length = i ∧ ∀ p ∈ st.2, InJ p
theorem JI_step {r : List Int} {S : Int} (h : OKR r) (hS : 0 ≤ S ∧ S ≤ 200) {i : Nat} {st : Int × List JT} (hi : i < r.length - 1) (hI : JI i st) : JI (i + 1) (jst r S st i) := by
 have hx := h.w _ (getD_mem' (d := 0) (show i < r.length by omega))
 have hl := h.l
 obtain ⟨h1, h2, h3⟩ := hI
 refine ⟨by unfold jst; dsimp only; omega, by unfold jst; simp [h2], fun p hp => ?_⟩
 unfold jst at hp
 rcases List.mem_append.1 hp with hp | hp
 ·exact h3 p hp
 ·simp only [List.mem_singleton] at hp
  subst hp
  unfold InJ
  dsimp only
  omega
theorem J_i {r : List Int} {S : Int} (h : OKR r) (hS : 0 ≤ S ∧ S ≤ 200) : s_q0j r S = some (J r S) := by
 have hp := h.p
 have hl := h.l
 have hlen : (List.take (r.length - 1) r).length = r.length - 1 := by rw [List.length_take]; omega
 unfold s_q0j
 rw [len_ix (by omega) (by omega), toNat_nat, List.drop_zero, hlen]
 have hin : inS 0 ((r.length - 1 : Nat) : Int) r.length = true := by
  unfold inS
  rw [decide_eq_true (show (0 : Int) ≤ 0 by omega), decide_eq_true (show (0 : Int) ≤ ((r.length - 1 : Nat) : Int) by omega), decide_eq_true (show ((r.length - 1 : Nat) : Int) ≤ (r.length : Int) by omega)]; rfl
 rw [hin, cond_true]
 unfold f_q0j_run3
 refine run_countI (step := fun x => f_q0j_n3 x.1 x.2.1 x.2.2.1 x.2.2.2.1 x.2.2.2.2.1 x.2.2.2.2.2) (r.length - 1) (fun i (st : Int × List JT) => (S, st.1, ((r.length - 1 : Nat) : Int), (i : Int), st.2, List.take (r.length - 1) r)) (jst r S) JI _ (0, []) (by omega) ⟨by omega, rfl, fun p hp => nomatch hp⟩ ?_ ?_
 ·intro i st hi hI
  refine ⟨?_, JI_step h hS hi hI⟩
  show f_q0j_n3 S st.1 ((r.length - 1 : Nat) : Int) i st.2 (List.take (r.length - 1) r) = _
  have hx := h.w _ (getD_mem' (d := 0) (show i < r.length by omega))
  have hg : (List.take (r.length - 1) r).getD i 0 = r.getD i 0 := by
   rw [List.getD_eq_getElem?_getD, List.getD_eq_getElem?_getD, List.getElem?_take_of_lt hi]
  obtain ⟨h1, h2, h3⟩ := hI
  unfold f_q0j_n3
  rw [lt_true hi, inB_nat (by rw [hlen]; exact hi), toNat_nat, hg, IntWalk.i64_in (r.getD i 0) (by omega), IntWalk.i64_in (st.1 + r.getD i 0) (by omega), IntWalk.i64_in (st.1 + r.getD i 0 + S) (by omega), IntWalk.i16_in (st.1 + r.getD i 0) (by omega), IntWalk.i16_in (st.1 + r.getD i 0 + S) (by omega), fits_small (by simp [h2]; omega), succ64 (by omega)]
  rfl
 ·intro hI
  show f_q0j_n3 _ _ ((r.length - 1 : Nat) : Int) ((r.length - 1 : Nat) : Int) _ _ = _
  unfold f_q0j_n3
  rw [lt_neg, cond_false]
  rfl
theorem J_facts {r : List Int} {S : Int} (h : OKR r) (hS : 0 ≤ S ∧ S ≤ 200) : (J r S).length = r.length - 1 ∧ ∀ p ∈ J r S, InJ p := by
 have : ∀ (k i : Nat) st, i + k ≤ r.length - 1 → JI i st → JI (i + k) ((List.range' i k).foldl (jst r S) st) := by
  intro k
  induction k with
  | zero => intro i st _ hI; exact hI
  | succ k ih =>
   intro i st hk hI
   rw [List.range'_succ, List.foldl_cons]
   have := ih (i + 1) _ (by omega) (JI_step h hS (by omega) hI)
   rw [show i + (k + 1) = i + 1 + k by omega]; exact this
 obtain ⟨_, h2, h3⟩ := this (r.length - 1) 0 (0, []) (by omega) ⟨by omega, rfl, fun p hp => nomatch hp⟩
 rw [Nat.zero_add] at h2
 exact ⟨h2, h3⟩
theorem max_if (a b : Int) : s_q1q a b = max a b := by
 unfold s_q1q
 by_cases h : a > b
 ·rw [decide_eq_true h, cond_true]; omega
 ·rw [decide_eq_false h, cond_false]; omega
theorem min_if (a b : Int) : s_q1r a b = min a b := by
 unfold s_q1r
 by_cases h : a < b
 ·rw [decide_eq_true h, cond_true]; omega
 ·rw [decide_eq_false h, cond_false]; omega
def rlen (r : List Int) (S : Int) : Int := r.foldl (· + ·) (((r.length - 1 : Nat) : Int) * S)
theorem len_i {r : List Int} {S : Int} (h : OKR r) (hS : 0 ≤ S ∧ S ≤ 200) : s_q0k r S = some (rlen r S) := by
 have hl := h.l
 have hp := h.p
 have hm : 0 ≤ ((r.length - 1 : Nat) : Int) * S ∧ ((r.length - 1 : Nat) : Int) * S ≤ 60 * 200 := by
  constructor
  ·exact Int.mul_nonneg (by omega) hS.1
  ·exact Int.mul_le_mul (by omega) hS.2 hS.1 (by omega)
 unfold s_q0k
 rw [len_ix (by omega) (by omega), IntWalk.i64_in (((r.length - 1 : Nat) : Int) * S) (by omega)]
 unfold f_q0k_run3
 refine run_listI (step := fun x => f_q0k_n3 x.1 x.2.1 x.2.2.1 x.2.2.2) (0 : Int) r (fun i (s : Int) => (s, ((r.length : Nat) : Int), (i : Int), r)) (· + ·) (fun i s => 0 ≤ s ∧ s ≤ 12000 + 200 * i) _ (((r.length - 1 : Nat) : Int) * S) (by omega) (by omega) ?_ ?_
 ·intro i s hi hm2 hs
  have hx := h.w _ hm2
  refine ⟨?_, by omega⟩
  show f_q0k_n3 s ((r.length : Nat) : Int) i r = _
  unfold f_q0k_n3
  rw [lt_true hi, inB_nat hi, toNat_nat, IntWalk.i64_in (r.getD i 0) (by omega), IntWalk.i64_in (s + r.getD i 0) (by omega), succ64 (by omega)]
  rfl
 ·intro _
  show f_q0k_n3 (rlen r S) ((r.length : Nat) : Int) ((r.length : Nat) : Int) r = _
  unfold f_q0k_n3
  rw [lt_neg, cond_false]
theorem ok_len {n : Nat} (h1 : 1 ≤ n) (h2 : n ≤ 60) : decide (1 ≤ n ∧ n ≤ 60) = true := decide_eq_true ⟨h1, h2⟩
theorem valid_ok {r : List Int} (h : OKR r) : s_q0x r = some true := by
 have := h.l
 rw [valid_eq h.w (by omega)]
 unfold okR
 rw [ok_len h.p h.l]
theorem sok_ok {r : List Int} (h : OKR r) : s_q1x r = some true := by
 have := h.l
 rw [ok_eq h.w (by omega)]
 unfold okR
 rw [ok_len h.p h.l]
theorem lengthOf_ok {r : List Int} {S : Int} (h : OKR r) (hS : 0 ≤ S ∧ S ≤ 200) : s_q0w r S = some (rlen r S, 0) := by
 unfold s_q0w
 rw [valid_ok h, seam_ok hS, len_i h hS]
 rfl
theorem same_row (l : List Int) (hl : l.length ≤ 1000000) : s_q1c l l = some true := by
 unfold s_q1c s_q1g
 have : (((List.length l : Nat) : Int) != ((List.length l : Nat) : Int)) = false := by simp
 rw [this, cond_false]
 unfold f_q1g_run4
 have h := run_all (step := fun x => f_q1g_n4 x.1 x.2.1 x.2.2) l.length (fun i => ((i : Int), l, l)) (fun i => true) true false (by omega) ?_ ?_
 ·have h : iter (fun x => f_q1g_n4 x.1 x.2.1 x.2.2) FU (0, l, l) = some true := h.trans (by simp)
  rw [h]; rfl
 ·intro i hi
  show f_q1g_n4 i l l = _
  unfold f_q1g_n4
  rw [lt_true hi, inB_nat hi, toNat_nat, succ64 (by omega)]
  have : (l.getD i 0 != l.getD i 0) = false := by simp
  rw [this]; rfl
 ·show f_q1g_n4 (l.length : Nat) l l = _
  unfold f_q1g_n4
  rw [lt_neg, cond_false]
end Go.RR
