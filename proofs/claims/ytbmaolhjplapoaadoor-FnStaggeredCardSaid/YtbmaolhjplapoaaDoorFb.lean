/- The plain law of StonesAlong: stones along a path. -/
import Derived.Test.YtbmaolhjplapoaaDoorVc
import Derived.Test.YtbmaolhjplapoaaDoorFa
set_option linter.unusedVariables false
set_option linter.unusedSimpArgs false
namespace Go.RR
open Go

/-! ### marks in a row -/
/-! ### widths -/
theorem any_width (l : List Int) (hl : l.length ≤ 1000000) : s_gContainsFunc_int64_a l = some (l.any s_iisWidth_1) := by
  unfold s_gContainsFunc_int64_a s_gIndexFunc_int64_a f_gIndexFunc_int64_a_run2
  have hs1 : ∀ i, i < l.length → f_gIndexFunc_int64_a_n2 (l.length : Nat) i l = some (cond (s_iisWidth_1 (l.getD i 0)) (Sum.inr (i : Int)) (Sum.inl (((l.length : Nat) : Int), ((i + 1 : Nat) : Int), l))) := by
    intro i hi
    unfold f_gIndexFunc_int64_a_n2
    rw [lt_true hi, inB_nat hi, toNat_nat, succ64 (by omega)]
    simp only [cond_true]
    cases s_iisWidth_1 (l.getD i 0) <;> rfl
  have he1 : f_gIndexFunc_int64_a_n2 (l.length : Nat) (l.length : Nat) l = some (Sum.inr (-1)) := by
    unfold f_gIndexFunc_int64_a_n2
    rw [lt_neg, cond_false]
  obtain ⟨r, h1, h2, _⟩ := run_idx (step := fun x => f_gIndexFunc_int64_a_n2 x.1 x.2.1 x.2.2) l.length (fun i => (((l.length : Nat) : Int), (i : Int), l)) (fun i => s_iisWidth_1 (l.getD i 0)) hs1 he1 l.length 0 FU (by omega) (FU_big (pow_big (by omega)))
  have h1 : iter (fun x => f_gIndexFunc_int64_a_n2 x.1 x.2.1 x.2.2) FU (((l.length : Nat) : Int), 0, l) = some r := h1
  rw [h1]
  simp only [Option.bind]
  rw [h2, any_getD 0 l s_iisWidth_1]
theorem width_two (a b : Int) : s_iisWidth [a, b] = some (s_sl05Width a && s_sl05Width b) := by
  unfold s_iisWidth
  rw [any_width _ (by simp)]
  have e : ∀ x, s_iisWidth_1 x = !s_sl05Width x := fun x => rfl
  simp only [Option.bind, List.any_cons, List.any_nil, e]
  cases s_sl05Width a <;> cases s_sl05Width b <;> rfl
theorem any_between (l : List Int) (lo hi : Int) (hl : l.length ≤ 1000000) : s_gContainsFunc_int16_a l lo hi = some (l.any fun x => s_iRow_isBetween_1 x lo hi) := by
  unfold s_gContainsFunc_int16_a s_gIndexFunc_int16_a f_gIndexFunc_int16_a_run2
  have hs1 : ∀ i, i < l.length → f_gIndexFunc_int16_a_n2 (l.length : Nat) i l lo hi = some (cond (s_iRow_isBetween_1 (l.getD i 0) lo hi) (Sum.inr (i : Int)) (Sum.inl (((l.length : Nat) : Int), ((i + 1 : Nat) : Int), l, lo, hi))) := by
    intro i hi2
    unfold f_gIndexFunc_int16_a_n2
    rw [lt_true hi2, inB_nat hi2, toNat_nat, succ64 (by omega)]
    simp only [cond_true]
    cases s_iRow_isBetween_1 (l.getD i 0) lo hi <;> rfl
  have he1 : f_gIndexFunc_int16_a_n2 (l.length : Nat) (l.length : Nat) l lo hi = some (Sum.inr (-1)) := by
    unfold f_gIndexFunc_int16_a_n2
    rw [lt_neg, cond_false]
  obtain ⟨r, h1, h2, _⟩ := run_idx (step := fun x => f_gIndexFunc_int16_a_n2 x.1 x.2.1 x.2.2.1 x.2.2.2.1 x.2.2.2.2) l.length (fun i => (((l.length : Nat) : Int), (i : Int), l, lo, hi)) (fun i => s_iRow_isBetween_1 (l.getD i 0) lo hi) hs1 he1 l.length 0 FU (by omega) (FU_big (pow_big (by omega)))
  have h1 : iter (fun x => f_gIndexFunc_int16_a_n2 x.1 x.2.1 x.2.2.1 x.2.2.2.1 x.2.2.2.2) FU (((l.length : Nat) : Int), 0, l, lo, hi) = some r := h1
  rw [h1]
  simp only [Option.bind]
  rw [h2, any_getD 0 l fun x => s_iRow_isBetween_1 x lo hi]

/-! ### the stones of one part -/
def nN (P M : Nat) : Nat := (P + M - 1) / M
def widN (P N k : Nat) : Nat := P / N + if k < P % N then 1 else 0
def rowN (P N : Nat) : List Int := (List.range' 0 N).map fun k => (widN P N k : Int)
theorem rowN_len (P N : Nat) : (rowN P N).length = N := by simp [rowN]
theorem nN_facts {P M : Nat} (hP : 1 ≤ P) (hM : 1 ≤ M) : 1 ≤ nN P M ∧ nN P M ≤ P ∧ P ≤ nN P M * M := by
  unfold nN
  refine ⟨Nat.div_pos (by omega) hM, ?_, ?_⟩
  · apply Nat.div_le_of_le_mul
    obtain ⟨p, rfl⟩ : ∃ p, P = p + 1 := ⟨P - 1, by omega⟩
    obtain ⟨m, rfl⟩ : ∃ m, M = m + 1 := ⟨M - 1, by omega⟩
    have : (m + 1) * (p + 1) = m * p + m + (p + 1) := by rw [Nat.mul_add, Nat.add_mul]; omega
    rw [this]; omega
  · have h1 := Nat.div_add_mod (P + M - 1) M
    have h2 := Nat.mod_lt (P + M - 1) (show M > 0 by omega)
    rw [Nat.mul_comm] at h1
    omega
theorem wid_le {P N M k : Nat} (hN : 1 ≤ N) (hP : P ≤ N * M) : widN P N k ≤ M := by
  unfold widN
  have h1 := Nat.div_add_mod P N
  by_cases hk : k < P % N
  · rw [if_pos hk]
    have : P / N < M := by
      rcases Nat.lt_or_ge (P / N) M with h | h
      · exact h
      · have := Nat.mul_le_mul_left N h
        omega
    omega
  · rw [if_neg hk]
    exact Nat.div_le_of_le_mul hP
theorem wid_last {P N : Nat} (hN : 1 ≤ N) : widN P N (N - 1) = P / N := by
  unfold widN
  have := Nat.mod_lt P (show N > 0 by omega)
  rw [if_neg (by omega)]; rfl
theorem wid_ge (P N k : Nat) : P / N ≤ widN P N k := by unfold widN; split <;> omega
theorem quo_nat {P N : Nat} (hP : P ≤ 100000) (hN : 1 ≤ N) : IntKind.wrap .i64 (Int.tdiv (P : Int) (N : Int)) = ((P / N : Nat) : Int) := by
  rw [IntWalk.i64_quo _ _ (by omega), Int.natCast_ediv]
theorem rem_nat (P N : Nat) : Int.tmod (P : Int) (N : Int) = ((P % N : Nat) : Int) := by
  rw [Int.tmod_eq_emod_of_nonneg (by omega), Int.natCast_emod]
theorem cnt_nat {P M : Nat} (hP : P ≤ 2000) (hM : 1 ≤ M ∧ M ≤ 200) : IntKind.wrap .i64 (Int.tdiv (IntKind.wrap .i64 ((IntKind.wrap .i64 ((P : Int) + (M : Int))) - 1)) (M : Int)) = ((nN P M : Nat) : Int) := by
  rw [IntWalk.i64_in ((P : Int) + M) (by omega), IntWalk.i64_in ((P : Int) + M - 1) (by omega), show (P : Int) + M - 1 = ((P + M - 1 : Nat) : Int) by omega, quo_nat (by omega) hM.1]
  rfl
theorem lt_nat {a b : Nat} : decide ((a : Int) < (b : Int)) = decide (a < b) := decide_eq_decide.2 (by omega)
theorem foldl_map' {α β : Type} (f : α → β) : ∀ (l : List α) (s : List β), l.foldl (fun s x => s ++ [f x]) s = s ++ l.map f
  | [], s => by simp
  | x :: l, s => by rw [List.foldl_cons, foldl_map' f l]; simp
theorem sRow_run {x0 x1 : Int} {i P N : Nat} {st out : List Int} (hi : i < st.length) (hp : st.getD i 0 = (P : Int)) (hP : P ≤ 2000) (hN : 1 ≤ N ∧ N ≤ 2000) (hs : st.length ≤ 2000) (ho : out.length ≤ 10000000) :
    f_sStonesAlong_run16 (x0, x1, (i : Int), (N : Int), 0, st, out) = some (.inl (x0, x1, ((i + 1 : Nat) : Int), st, out ++ rowN P N)) := by
  unfold f_sStonesAlong_run16
  refine run_countI N (fun k (o : List Int) => (x0, x1, (i : Int), (N : Int), (k : Int), st, o)) (fun o k => o ++ [(widN P N k : Int)]) (fun k o => o.length = out.length + k) _ out (by omega) rfl ?_ ?_
  · intro k o hk ho2
    constructor
    · show f_sStonesAlong_n16 x0 x1 i N k st o = _
      unfold f_sStonesAlong_n16
      rw [lt_true hk, inB_nat hi, toNat_nat, hp, decide_eq_false (show ¬ (N : Int) = 0 by omega), rem_nat, lt_nat, quo_nat (by omega) hN.1, succ64 (i := k) (by omega)]
      simp only [cond_true, cond_false]
      have hq : P / N ≤ P := Nat.div_le_self P N
      have hq0 : (0 : Int) ≤ ((P / N : Nat) : Int) := Int.natCast_nonneg _
      by_cases hm : k < P % N
      · rw [decide_eq_true hm, cond_true, IntWalk.i64_in (((P / N : Nat) : Int) + 1) (by omega), fits_small (show (List.length o + List.length ([((P / N : Nat) : Int) + 1] : List Int)) * 8 ≤ 140737488355328 by simp; omega)]
        have : widN P N k = P / N + 1 := by unfold widN; rw [if_pos hm]
        rw [this]; rfl
      · rw [decide_eq_false hm, cond_false, fits_small (show (List.length o + List.length ([((P / N : Nat) : Int)] : List Int)) * 8 ≤ 140737488355328 by simp; omega)]
        have : widN P N k = P / N := by unfold widN; rw [if_neg hm]; rfl
        rw [this]; rfl
    · show (o ++ [(widN P N k : Int)]).length = out.length + (k + 1)
      simp; omega
  · intro _
    rw [foldl_map' (fun k => (widN P N k : Int))]
    show f_sStonesAlong_n16 x0 x1 i N (N : Nat) st (out ++ rowN P N) = _
    unfold f_sStonesAlong_n16
    rw [lt_neg, cond_false, succ64 (by omega)]
theorem even_eq {P N : Nat} (hP : 1 ≤ P ∧ P ≤ 2000) (hN : 1 ≤ N ∧ N ≤ P) (h2 : P ≤ N * 200) : s_ieven (P : Int) (N : Int) = some (rowN P N, true) := by
  unfold s_ieven
  have hq : P / N ≤ 200 := Nat.div_le_of_le_mul h2
  have hq0 : (0 : Int) ≤ ((P / N : Nat) : Int) := Int.natCast_nonneg _
  rw [decide_eq_false (show ¬ (P : Int) < (N : Int) by omega), IntWalk.i64_in ((N : Int) * 200) (by omega), decide_eq_false (show ¬ (P : Int) > (N : Int) * 200 by omega), cond_false, cond_false]
  unfold f_ieven_run5
  refine run_countI N (fun k (o : List Int) => ((P : Int), (N : Int), (N : Int), (k : Int), o)) (fun o k => o ++ [(widN P N k : Int)]) (fun k o => o.length = k) _ [] (by omega) rfl ?_ ?_
  · intro k o hk ho2
    constructor
    · show f_ieven_n5 P N N k o = _
      unfold f_ieven_n5
      rw [lt_true hk, decide_eq_false (show ¬ (N : Int) = 0 by omega), rem_nat, lt_nat, quo_nat (by omega) hN.1, succ64 (i := k) (by omega)]
      simp only [cond_true, cond_false]
      by_cases hm : k < P % N
      · rw [decide_eq_true hm, cond_true, IntWalk.i64_in (((P / N : Nat) : Int) + 1) (by omega), IntWalk.i16_in (((P / N : Nat) : Int) + 1) (by omega), fits_small (show (List.length o + List.length ([((P / N : Nat) : Int) + 1] : List Int)) * 2 ≤ 140737488355328 by simp; omega)]
        have : widN P N k = P / N + 1 := by unfold widN; rw [if_pos hm]
        rw [this]; rfl
      · rw [decide_eq_false hm, cond_false, IntWalk.i16_in ((P / N : Nat) : Int) (by omega), fits_small (show (List.length o + List.length ([((P / N : Nat) : Int)] : List Int)) * 2 ≤ 140737488355328 by simp; omega)]
        have : widN P N k = P / N := by unfold widN; rw [if_neg hm]; rfl
        rw [this]; rfl
    · show (o ++ [(widN P N k : Int)]).length = k + 1
      simp; omega
  · intro _
    rw [foldl_map' (fun k => (widN P N k : Int))]
    show f_ieven_n5 P N N (N : Nat) ([] ++ rowN P N) = _
    unfold f_ieven_n5
    rw [lt_neg, cond_false]
    rfl
theorem between_eq {P N A M : Nat} (hN : 1 ≤ N ∧ N ≤ 2000) (hM : M ≤ 200) (hP : P ≤ N * M) : s_iRow_isBetween (rowN P N) (A : Int) (M : Int) = some (decide (A ≤ P / N)) := by
  unfold s_iRow_isBetween
  rw [any_between _ _ _ (by rw [rowN_len]; omega)]
  simp only [Option.bind]
  have hw : ∀ k, s_iRow_isBetween_1 (widN P N k : Int) (A : Int) (M : Int) = !decide (A ≤ widN P N k) := by
    intro k
    have hle := wid_le (k := k) hN.1 hP
    unfold s_iRow_isBetween_1 s_iwithin
    rw [IntWalk.i64_in _ (by omega), decide_eq_true (show (widN P N k : Int) ≤ (M : Int) by omega)]
    have : decide ((A : Int) ≤ (widN P N k : Int)) = decide (A ≤ widN P N k) := decide_eq_decide.2 (by omega)
    rw [this]
    cases decide (A ≤ widN P N k) <;> rfl
  by_cases h : A ≤ P / N
  · rw [decide_eq_true h]
    have : ((rowN P N).any fun x => s_iRow_isBetween_1 x (A : Int) (M : Int)) = false := by
      rw [List.any_eq_false]
      intro x hx
      obtain ⟨k, _, rfl⟩ := List.mem_map.1 hx
      rw [hw k, decide_eq_true (Nat.le_trans h (wid_ge P N k))]; simp
    rw [this]; rfl
  · rw [decide_eq_false h]
    have : ((rowN P N).any fun x => s_iRow_isBetween_1 x (A : Int) (M : Int)) = true := by
      rw [List.any_eq_true]
      refine ⟨(widN P N (N - 1) : Int), List.mem_map.2 ⟨N - 1, List.mem_range'_1.2 ⟨Nat.zero_le _, by omega⟩, rfl⟩, ?_⟩
      rw [hw, wid_last hN.1, decide_eq_false h]; rfl
    rw [this]; rfl

/-! ### all parts -/
def stoneG (A M : Nat) (st : List Int) (out : List Int) (i : Nat) : List Int ⊕ (List Int × Int) :=
  if (st.getD i 0).toNat / nN (st.getD i 0).toNat M < A then .inr ([], 6) else .inl (out ++ rowN (st.getD i 0).toNat (nN (st.getD i 0).toNat M))
def stoneF (out : List Int) : List Int × Int := if out.length > 60 then ([], 3) else (out, 0)
def StoneI (i : Nat) (out : List Int) : Prop := out.length ≤ 2000 * i ∧ ∀ x ∈ out, 1 ≤ x ∧ x ≤ 200
theorem stoneI_step {A M : Nat} {st out : List Int} {i : Nat} (hA : 1 ≤ A) (hM : 1 ≤ M ∧ M ≤ 200) (hx : 1 ≤ st.getD i 0 ∧ st.getD i 0 ≤ 2000) (h : StoneI i out) : ∀ o, stoneG A M st out i = .inl o → StoneI (i + 1) o := by
  intro o e
  unfold stoneG at e
  split at e
  · cases e
  · rename_i hn
    cases e
    obtain ⟨f1, f2, f3⟩ := nN_facts (P := (st.getD i 0).toNat) (M := M) (by omega) hM.1
    refine ⟨by rw [List.length_append, rowN_len]; have := h.1; omega, fun x hxm => ?_⟩
    rcases List.mem_append.1 hxm with hxm | hxm
    · exact h.2 x hxm
    · obtain ⟨k, _, rfl⟩ := List.mem_map.1 hxm
      have h1 := wid_le (k := k) f1 f3
      have h2 := wid_ge (st.getD i 0).toNat (nN (st.getD i 0).toNat M) k
      omega
theorem sConv {out : List Int} (hl : out.length ≤ 60) (hx : ∀ x ∈ out, 1 ≤ x ∧ x ≤ 200) : f_sStonesAlong_run26 (0, out, []) = some (out, 0) := by
  unfold f_sStonesAlong_run26
  refine run_countI out.length (fun i (o : List Int) => ((i : Int), out, o)) (fun o i => o ++ [out.getD i 0]) (fun i o => o = out.take i) _ [] (by omega) rfl ?_ ?_
  · intro i o hi ho
    constructor
    · show f_sStonesAlong_n26 i out o = _
      unfold f_sStonesAlong_n26
      have hm := hx _ (getD_mem' (d := (0 : Int)) hi)
      have hlo : o.length ≤ 60 := by rw [ho, List.length_take]; omega
      rw [lt_true hi, inB_nat hi, toNat_nat, IntWalk.i16_in (out.getD i 0) (by omega), fits_small (show (List.length o + List.length ([out.getD i 0] : List Int)) * 2 ≤ 140737488355328 by simp; omega), succ64 (by omega)]
      rfl
    · show o ++ [out.getD i 0] = out.take (i + 1)
      rw [ho, List.take_add_one, List.getD_eq_getElem?_getD, List.getElem?_eq_getElem hi]
      rfl
  · intro ho
    rw [ho]
    show f_sStonesAlong_n26 (out.length : Nat) out (out.take out.length) = _
    unfold f_sStonesAlong_n26
    rw [lt_neg, cond_false, List.take_length]
abbrev PartsOK (st : List Int) : Prop := st.length ≤ 2000 ∧ ∀ x ∈ st, 1 ≤ x ∧ x ≤ 2000
theorem sStones {A M : Nat} {st : List Int} (hA : 1 ≤ A) (hM : 1 ≤ M ∧ M ≤ 200) (hst : PartsOK st) :
    f_sStonesAlong_run10 ((A : Int), (M : Int), 0, st, []) = some (endL stoneF (exitL (stoneG A M st) [] (List.range' 0 st.length))) := by
  unfold f_sStonesAlong_run10
  refine (iter_exitI (α := Unit) (step := fun x => f_sStonesAlong_n10 x.1 x.2.1 x.2.2.1 x.2.2.2.1 x.2.2.2.2) st.length (fun i o => ((A : Int), (M : Int), (i : Int), st, o)) (stoneG A M st) StoneI stoneF ?_ ?_ st.length 0 FU (by omega) (FU_big (pow_big (by have := hst.1; omega))) [] ⟨Nat.zero_le _, fun x hx => by cases hx⟩).1
  · intro i o hi hI
    have hx := hst.2 _ (getD_mem' (d := (0 : Int)) hi)
    refine ⟨?_, stoneI_step hA hM hx hI⟩
    obtain ⟨P, hp⟩ : ∃ P : Nat, st.getD i 0 = (P : Int) := ⟨(st.getD i 0).toNat, by omega⟩
    have hs := hst.1
    obtain ⟨f1, f2, f3⟩ := nN_facts (P := P) (M := M) (by omega) hM.1
    show f_sStonesAlong_n10 A M i st o = _
    unfold f_sStonesAlong_n10 stoneG
    have ho := hI.1
    rw [lt_true hi, inB_nat hi, toNat_nat, hp, decide_eq_false (show ¬ (M : Int) = 0 by omega), cnt_nat (by omega) hM, decide_eq_false (show ¬ ((nN P M : Nat) : Int) = 0 by omega), quo_nat (by omega) f1, lt_nat, sRow_run hi hp (by omega) ⟨f1, by omega⟩ hs (by omega), toNat_nat]
    simp only [cond_true, cond_false]
    by_cases h : P / nN P M < A
    · rw [decide_eq_true h, if_pos h]; rfl
    · rw [decide_eq_false h, if_neg h]; rfl
  · intro o hI
    show f_sStonesAlong_n10 A M (st.length : Nat) st o = _
    unfold f_sStonesAlong_n10 stoneF
    rw [lt_neg, cond_false]
    by_cases h : o.length > 60
    · rw [decide_eq_true (show ((o.length : Nat) : Int) > 60 by omega), if_pos h]; rfl
    · rw [decide_eq_false (show ¬ ((o.length : Nat) : Int) > 60 by omega), if_neg h, sConv (by omega) hI.2]; rfl
theorem iStones {A M : Nat} {st : List Int} (hA : 1 ≤ A) (hM : 1 ≤ M ∧ M ≤ 200) (hst : PartsOK st) :
    f_iStonesAlong_run10 ((A : Int), (M : Int), ((st.length : Nat) : Int), 0, [], st) = some (endL stoneF (exitL (stoneG A M st) [] (List.range' 0 st.length))) := by
  unfold f_iStonesAlong_run10
  refine (iter_exitI (α := Unit) (step := fun x => f_iStonesAlong_n10 x.1 x.2.1 x.2.2.1 x.2.2.2.1 x.2.2.2.2.1 x.2.2.2.2.2) st.length (fun i o => ((A : Int), (M : Int), ((st.length : Nat) : Int), (i : Int), o, st)) (stoneG A M st) StoneI stoneF ?_ ?_ st.length 0 FU (by omega) (FU_big (pow_big (by have := hst.1; omega))) [] ⟨Nat.zero_le _, fun x hx => by cases hx⟩).1
  · intro i o hi hI
    have hx := hst.2 _ (getD_mem' (d := (0 : Int)) hi)
    refine ⟨?_, stoneI_step hA hM hx hI⟩
    obtain ⟨P, hp⟩ : ∃ P : Nat, st.getD i 0 = (P : Int) := ⟨(st.getD i 0).toNat, by omega⟩
    have hs := hst.1
    obtain ⟨f1, f2, f3⟩ := nN_facts (P := P) (M := M) (by omega) hM.1
    have f4 : P ≤ nN P M * 200 := Nat.le_trans f3 (Nat.mul_le_mul_left _ hM.2)
    show f_iStonesAlong_n10 A M (st.length : Nat) i o st = _
    unfold f_iStonesAlong_n10 stoneG
    have ho := hI.1
    rw [lt_true hi, inB_nat hi, toNat_nat, hp, decide_eq_false (show ¬ (M : Int) = 0 by omega), cnt_nat (by omega) hM, even_eq ⟨by omega, by omega⟩ ⟨f1, f2⟩ f4, toNat_nat, succ64 (by omega)]
    simp only [cond_true, cond_false, Option.bind, Bool.not_true, between_eq ⟨f1, by omega⟩ hM.2 f3]
    rw [fits_small (show (List.length o + List.length (rowN P (nN P M))) * 2 ≤ 140737488355328 by rw [rowN_len]; omega)]
    by_cases h : P / nN P M < A
    · rw [decide_eq_false (show ¬ A ≤ P / nN P M by omega), if_pos h]; rfl
    · rw [decide_eq_true (show A ≤ P / nN P M by omega), if_neg h]; rfl
  · intro o hI
    show f_iStonesAlong_n10 A M (st.length : Nat) (st.length : Nat) o st = _
    unfold f_iStonesAlong_n10 stoneF
    rw [lt_neg, cond_false]
    by_cases h : o.length > 60
    · rw [decide_eq_true (show ((o.length : Nat) : Int) > 60 by omega), if_pos h]; rfl
    · rw [decide_eq_false (show ¬ ((o.length : Nat) : Int) > 60 by omega), if_neg h]; rfl
theorem stones_len {A M : Nat} {st : List Int} : ∀ (k i : Nat) (o : List Int), (endL stoneF (exitL (stoneG A M st) o (List.range' i k))).1.length ≤ 60
  | 0, i, o => by
    show (stoneF o).1.length ≤ 60
    unfold stoneF
    split
    · exact Nat.zero_le _
    · show o.length ≤ 60; omega
  | k + 1, i, o => by
    rw [List.range'_succ]
    unfold exitL
    cases hg : stoneG A M st o i with
    | inl o' => exact stones_len k (i + 1) o'
    | inr r =>
      unfold stoneG at hg
      split at hg
      · cases hg; exact Nat.zero_le _
      · cases hg

/-! ### the law -/
theorem stones_two {z : ByteArray} {a b : Int} (hz : z.size ≤ 1048576) : ∃ v, s_sStonesAlong z a b = some v ∧ s_iStonesAlong z a b = some v ∧ v.1.length ≤ 60 := by
  obtain ⟨p, q, e1, e2, h⟩ := path_two hz
  unfold s_sStonesAlong s_iStonesAlong
  rw [width_two, e1, e2]
  simp only [Option.bind]
  cases hw1 : s_sl05Width a
  · exact ⟨_, rfl, rfl, Nat.zero_le _⟩
  cases hw2 : s_sl05Width b
  · exact ⟨_, rfl, rfl, Nat.zero_le _⟩
  have rng : ∀ x, s_sl05Width x = true → 1 ≤ x ∧ x ≤ 200 := by
    intro x hx
    unfold s_sl05Width s_sl00In at hx
    by_cases q : x ≥ 1
    · rw [decide_eq_true q, cond_true] at hx
      have := of_decide_eq_true hx; omega
    · rw [decide_eq_false q] at hx; cases hx
  have ra := rng a hw1
  have rb := rng b hw2
  simp only [Bool.not_true, Bool.and_self, cond_false]
  cases hp : pathOf z with
  | none =>
    rw [hp] at h
    rw [h.1, h.2]
    exact ⟨_, rfl, rfl, Nat.zero_le _⟩
  | some st =>
    rw [hp] at h
    obtain ⟨rfl, rfl, hI, h1, h2⟩ := h
    have hst : PartsOK st := ⟨by have := hI.2.1; omega, fun x hx => by have := hI.2.2 x hx; omega⟩
    simp only [Bool.not_true, cond_false]
    by_cases hab : a > b
    · rw [decide_eq_true hab]
      exact ⟨_, rfl, rfl, Nat.zero_le _⟩
    · rw [decide_eq_false hab]
      obtain ⟨A, rfl⟩ : ∃ A : Nat, a = (A : Int) := ⟨a.toNat, by omega⟩
      obtain ⟨M, rfl⟩ : ∃ M : Nat, b = (M : Int) := ⟨b.toNat, by omega⟩
      exact ⟨_, sStones (by omega) (by omega) hst, iStones (by omega) (by omega) hst, stones_len _ _ _⟩
end Go.RR
