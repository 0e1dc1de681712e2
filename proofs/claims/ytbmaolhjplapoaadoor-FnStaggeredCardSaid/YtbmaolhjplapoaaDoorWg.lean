/- Plain facts of a path's parts and of their stones; the law's loops over them. -/
import Derived.Test.YtbmaolhjplapoaaDoorWf
set_option linter.unusedVariables false
set_option linter.unusedSimpArgs false
namespace Go.RR
open Go

/-! ### Parts of a path -/
def sumI (l : List Int) : Int := l.foldl (· + ·) 0
theorem foldl_sum : ∀ (l : List Int) (s : Int), l.foldl (· + ·) s = s + sumI l
  | [], s => by simp [sumI]
  | x :: l, s => by
    unfold sumI
    rw [List.foldl_cons, List.foldl_cons, foldl_sum l, foldl_sum l (0 + x)]
    omega
theorem sumI_app (a : List Int) (x : Int) : sumI (a ++ [x]) = sumI a + x := by
  unfold sumI
  rw [List.foldl_append]; rfl
def chg (z : ByteArray) (T : Int) (i : Nat) : Int := cond (decide (0 < i)) (cond (byteAt z i != byteAt z (i - 1)) (T + 1) T) T
noncomputable def pst (z : ByteArray) (n : Nat) : List Int := (List.range' 0 n).foldl (pathS z) []
def cst (z : ByteArray) (n : Nat) : Int := (List.range' 0 n).foldl (chg z) 0
theorem fold_last {σ : Type} (f : σ → Nat → σ) (s : σ) (n : Nat) : (List.range' 0 (n + 1)).foldl f s = f ((List.range' 0 n).foldl f s) n := by
  rw [List.range'_concat, List.foldl_append, Nat.zero_add, Nat.one_mul]; rfl
theorem pst_facts (z : ByteArray) : ∀ n : Nat, sumI (pst z n) = (n : Int) ∧ (1 ≤ n → (((pst z n).length : Nat) : Int) = cst z n + 1) ∧ (n = 0 → pst z n = [] ∧ cst z n = 0)
  | 0 => ⟨rfl, fun h => by omega, fun _ => ⟨rfl, rfl⟩⟩
  | n + 1 => by
    obtain ⟨h1, h2, h3⟩ := pst_facts z n
    have e1 : pst z (n + 1) = pathS z (pst z n) n := fold_last _ _ _
    have e2 : cst z (n + 1) = chg z (cst z n) n := fold_last _ _ _
    rw [e1, e2]
    refine ⟨?_, fun _ => ?_, fun h => by omega⟩
    · unfold pathS
      by_cases hn : 0 < n
      · rw [decide_eq_true hn, cond_true]
        cases byteAt z (n - 1) == byteAt z n
        · rw [cond_false, sumI_app, h1]; omega
        · rw [cond_true]
          have hne : pst z n ≠ [] := fun e => by have := h2 hn; rw [e] at this; simp at this; have h4 : sumI (pst z n) = 0 := by rw [e]; rfl
                                                 omega
          have e3 := List.dropLast_concat_getLast hne
          rw [← e3]
          unfold lastUp
          rw [show ((pst z n).dropLast ++ [(pst z n).getLast hne]).getD (((pst z n).dropLast ++ [(pst z n).getLast hne]).length - 1) 0 = (pst z n).getLast hne by
            rw [List.length_append, List.getD_eq_getElem?_getD, List.getElem?_append_right (by simp)]; simp, set_last, sumI_app]
          have h4 := h1
          rw [← e3, sumI_app] at h4
          omega
      · have hn0 : n = 0 := by omega
        obtain ⟨q1, q2⟩ := h3 hn0
        rw [decide_eq_false hn, cond_false, sumI_app, h1]; omega
    · unfold pathS chg
      by_cases hn : 0 < n
      · have := h2 hn
        rw [decide_eq_true hn, cond_true, cond_true]
        by_cases hb : byteAt z (n - 1) = byteAt z n
        · rw [beq_iff_eq.2 hb, cond_true]
          have : (byteAt z n != byteAt z (n - 1)) = false := by rw [hb]; simp
          rw [this, cond_false]
          unfold lastUp
          rw [List.length_set]; omega
        · have e4 : (byteAt z (n - 1) == byteAt z n) = false := by simpa using hb
          have e5 : (byteAt z n != byteAt z (n - 1)) = true := by simpa using fun h => hb h.symm
          rw [e4, e5, cond_false, cond_true, List.length_append, List.length_singleton]; omega
      · have hn0 : n = 0 := by omega
        obtain ⟨q1, q2⟩ := h3 hn0
        rw [decide_eq_false hn, cond_false, cond_false, q1, q2]; rfl
theorem exit_all {z : ByteArray} (hz : AllGood z) : ∀ (k i : Nat) (st : List Int), i + k ≤ z.size → exitL (pathG z) st (List.range' i k) = .inl ((List.range' i k).foldl (pathS z) st)
  | 0, i, st, _ => rfl
  | k + 1, i, st, h => by
    rw [List.range'_succ, List.foldl_cons]
    unfold exitL
    have : pathG z st i = .inl (pathS z st i) := by
      unfold pathG
      rw [hz i (by omega)]; rfl
    rw [this]
    exact exit_all hz k (i + 1) _ (by omega)
theorem path_good {z : ByteArray} (hz : AllGood z) (h1 : 1 ≤ z.size) (h2 : z.size ≤ 2000) : pathOf z = some (pst z z.size) := by
  unfold pathOf parts
  rw [exit_all hz _ _ _ (by omega)]
  have : s_sl00In ((z.size : Nat) : Int) 1 2000 = true := by
    unfold s_sl00In
    rw [decide_eq_true (show ((z.size : Nat) : Int) ≥ 1 by omega), decide_eq_true (show ((z.size : Nat) : Int) ≤ 2000 by omega)]; rfl
  rw [this]; rfl
/-- What is known of the parts of a good path. -/
structure PP (z : ByteArray) (st : List Int) : Prop where
  of : pathOf z = some st
  sum : sumI st = ((z.size : Nat) : Int)
  len : ((st.length : Nat) : Int) = cst z z.size + 1
  le : st.length ≤ z.size
  pos : ∀ x ∈ st, 1 ≤ x ∧ x ≤ ((z.size : Nat) : Int)
theorem pp_ok {z : ByteArray} (hz : AllGood z) (h1 : 1 ≤ z.size) (h2 : z.size ≤ 2000) : PP z (pst z z.size) := by
  have hp := path_good hz h1 h2
  obtain ⟨a, b, _, _, h⟩ := path_two (z := z) (by omega)
  rw [hp] at h
  obtain ⟨_, _, hI, _, _⟩ := h
  obtain ⟨q1, q2, _⟩ := pst_facts z z.size
  exact ⟨hp, q1, q2 h1, hI.2.1, hI.2.2⟩

/-! ### Stones of the parts -/
def stn (p : Int) : List Int := rowN p.toNat (nN p.toNat 3)
def allS (st : List Int) : List Int := st.flatMap stn
theorem nN_le {p : Nat} (hp : 1 ≤ p) : nN p 3 ≤ p ∧ 1 ≤ p / nN p 3 := by
  obtain ⟨h1, h2, _⟩ := nN_facts hp (show 1 ≤ 3 by omega)
  exact ⟨h2, Nat.div_pos h2 (by omega)⟩
theorem stone_fold {st : List Int} (h : ∀ x ∈ st, 1 ≤ x) : ∀ (k i : Nat) (o : List Int), i + k = st.length → exitL (stoneG 1 3 st) o (List.range' i k) = .inl (o ++ allS (st.drop i))
  | 0, i, o, hi => by
    rw [show st.drop i = [] from List.drop_eq_nil_of_le (by omega)]
    simp [exitL, allS]
  | k + 1, i, o, hi => by
    have hx := h _ (getD_mem' (d := 0) (show i < st.length by omega))
    have hN := nN_le (p := (st.getD i 0).toNat) (by omega)
    have e : stoneG 1 3 st o i = .inl (o ++ stn (st.getD i 0)) := by
      unfold stoneG
      rw [if_neg (by omega)]; rfl
    rw [List.range'_succ]
    unfold exitL
    rw [e]
    show exitL (stoneG 1 3 st) (o ++ stn (st.getD i 0)) (List.range' (i + 1) k) = _
    rw [stone_fold h k (i + 1) _ (by omega)]
    have ed : st.drop i = st.getD i 0 :: st.drop (i + 1) := by
      rw [List.drop_eq_getElem_cons (show i < st.length by omega), List.getD_eq_getElem?_getD, List.getElem?_eq_getElem (show i < st.length by omega)]; rfl
    rw [ed]
    unfold allS
    rw [List.flatMap_cons, List.append_assoc]
theorem stones_ok {z : ByteArray} {st : List Int} (hP : PP z st) (hz : z.size ≤ 2000) : s_iStonesAlong z 1 3 = some (stoneF (allS st)) ∧ s_sStonesAlong z 1 3 = some (stoneF (allS st)) := by
  obtain ⟨p, q, e1, e2, h⟩ := path_two (z := z) (by omega)
  rw [hP.of] at h
  obtain ⟨rfl, rfl, _, _, _⟩ := h
  have hst : PartsOK st := ⟨by have := hP.le; omega, fun x hx => by have := hP.pos x hx; omega⟩
  have hf := stone_fold (st := st) (fun x hx => (hP.pos x hx).1) st.length 0 [] (by omega)
  rw [List.nil_append, List.drop_zero] at hf
  have w1 : s_sl05Width 1 = true := rfl
  have w3 : s_sl05Width 3 = true := rfl
  have a1 := iStones (A := 1) (M := 3) (by omega) (by omega) hst
  have a2 := sStones (A := 1) (M := 3) (by omega) (by omega) hst
  rw [hf] at a1 a2
  unfold s_sStonesAlong s_iStonesAlong
  rw [width_two, e1, e2, w1, w3]
  exact ⟨a1, a2⟩

/-! ### The law's loop over one part -/
def ownS (P N j : Nat) : Nat := j * (P / N) + min j (P % N)
theorem ownS_step {P N j : Nat} : ownS P N (j + 1) = ownS P N j + widN P N j := by
  unfold ownS widN
  rw [Nat.succ_mul]
  split <;> omega
theorem ownS_end {P N : Nat} (hN : 1 ≤ N) : ownS P N N = P := by
  unfold ownS
  have h1 : P % N < N := Nat.mod_lt _ (by omega)
  have h2 := Nat.div_add_mod P N
  rw [show min N (P % N) = P % N by omega]
  exact h2
theorem ownS_lt {P N j : Nat} (hN : 1 ≤ N) (hq : 1 ≤ P / N) (hj : j < N) : ownS P N j < P := by
  have h2 := Nat.div_add_mod P N
  have h3 : N * (P / N) = j * (P / N) + (N - j) * (P / N) := by rw [← Nat.add_mul]; congr 1; omega
  have h4 : N - j ≤ (N - j) * (P / N) := Nat.le_mul_of_pos_right _ hq
  unfold ownS
  have h5 : min j (P % N) ≤ P % N := Nat.min_le_right _ _
  omega
theorem rowN_get {P N j : Nat} (h : j < N) : (rowN P N).getD j 0 = (widN P N j : Int) := by
  unfold rowN
  rw [List.getD_eq_getElem?_getD, List.getElem?_map, List.getElem?_range' h]
  simp
theorem part_run {st md : List Int} {off i P : Nat} (hi : i < st.length) (hp : st.getD i 0 = (P : Int)) (hP : 1 ≤ P ∧ P ≤ 2000) (hs : st.length ≤ 2000) (hm : md.length ≤ 2000) (ho : off + nN P 3 ≤ md.length) (hg : ∀ j, j < nN P 3 → md.getD (off + j) 0 = (widN P (nN P 3) j : Int)) :
    f_wFnStaggered_run76 ((off : Int), (i : Int), 0, 0, st, md) = some (.inl (((off + nN P 3 : Nat) : Int), ((i + 1 : Nat) : Int), st, md)) := by
  obtain ⟨n1, n2, n3⟩ := nN_facts hP.1 (show 1 ≤ 3 by omega)
  obtain ⟨_, n4⟩ := nN_le hP.1
  unfold f_wFnStaggered_run76
  have hN : nN P 3 ≤ 2000 := by omega
  have := run_countI (step := fun x => f_wFnStaggered_n76 x.1 x.2.1 x.2.2.1 x.2.2.2.1 x.2.2.2.2.1 x.2.2.2.2.2) (nN P 3) (fun j (_ : Unit) => (((off + j : Nat) : Int), (i : Int), ((ownS P (nN P 3) j : Nat) : Int), (j : Int), st, md)) (fun u _ => u) (fun _ _ => True) (.inl (((off + nN P 3 : Nat) : Int), ((i + 1 : Nat) : Int), st, md)) () (by omega) trivial ?_ ?_
  · have e0 : ownS P (nN P 3) 0 = 0 := by unfold ownS; simp
    rw [e0] at this
    exact this
  · intro j u hj _
    refine ⟨?_, trivial⟩
    show f_wFnStaggered_n76 ((off + j : Nat) : Int) i ((ownS P (nN P 3) j : Nat) : Int) j st md = _
    have h1 := ownS_lt (P := P) n1 n4 hj
    have h2 := wid_le (k := j) n1 n3
    have h3 := wid_ge P (nN P 3) j
    unfold f_wFnStaggered_n76
    rw [inB_nat hi, toNat_nat, hp, decide_eq_true (show ((ownS P (nN P 3) j : Nat) : Int) < (P : Int) by omega), lt_true (show off + j < md.length by omega), inB_nat (show off + j < md.length by omega), toNat_nat, hg j hj, decide_eq_false (show ¬ (widN P (nN P 3) j : Int) < 1 by omega), decide_eq_false (show ¬ (widN P (nN P 3) j : Int) > 3 by omega), IntWalk.i64_in (widN P (nN P 3) j : Int) (by omega), IntWalk.i64_in (((ownS P (nN P 3) j : Nat) : Int) + (widN P (nN P 3) j : Int)) (by omega), succ64 (i := off + j) (by omega), succ64 (i := j) (by omega), show ((ownS P (nN P 3) j : Nat) : Int) + (widN P (nN P 3) j : Int) = ((ownS P (nN P 3) (j + 1) : Nat) : Int) by rw [ownS_step]; omega]
    rfl
  · intro _
    show f_wFnStaggered_n76 ((off + nN P 3 : Nat) : Int) i ((ownS P (nN P 3) (nN P 3) : Nat) : Int) ((nN P 3 : Nat) : Int) st md = _
    have ec : IntKind.wrap .i64 (Int.tdiv (IntKind.wrap .i64 ((P : Int) + 2)) 3) = ((nN P 3 : Nat) : Int) := by
      rw [IntWalk.i64_in ((P : Int) + 2) (by omega), show (P : Int) + 2 = ((P + 3 - 1 : Nat) : Int) by omega]
      exact quo_nat (P := P + 3 - 1) (N := 3) (by omega) (by omega)
    unfold f_wFnStaggered_n76
    rw [inB_nat hi, toNat_nat, hp, ownS_end n1, ec, decide_eq_false (show ¬ (P : Int) < (P : Int) by omega), succ64 (i := i) (by omega)]
    simp
theorem allS_app (a b : List Int) : allS (a ++ b) = allS a ++ allS b := by simp [allS]
theorem stones_run {z : ByteArray} {st : List Int} (hP : PP z st) (hz : z.size ≤ 54) (hm : (allS st).length ≤ 60) : f_wFnStaggered_run72 (0, 0, st, allS st) = some true := by
  have hle := hP.le
  unfold f_wFnStaggered_run72
  have hoff : ∀ i, i < st.length → (allS (st.take i)).length + nN (st.getD i 0).toNat 3 ≤ (allS st).length ∧ (∀ j, j < nN (st.getD i 0).toNat 3 → (allS st).getD ((allS (st.take i)).length + j) 0 = (widN (st.getD i 0).toNat (nN (st.getD i 0).toNat 3) j : Int)) ∧ (allS (st.take (i + 1))).length = (allS (st.take i)).length + nN (st.getD i 0).toNat 3 := by
    intro i hi
    have e1 : st.take (i + 1) = st.take i ++ [st.getD i 0] := by
      rw [List.take_add_one, List.getD_eq_getElem?_getD, List.getElem?_eq_getElem hi]; rfl
    have e2 : allS st = allS (st.take i) ++ (stn (st.getD i 0) ++ allS (st.drop (i + 1))) := by
      have := List.take_append_drop (i + 1) st
      rw [e1] at this
      conv => lhs; rw [← this]
      rw [allS_app, allS_app, List.append_assoc]
      congr 2
      simp [allS]
    have e3 : (stn (st.getD i 0)).length = nN (st.getD i 0).toNat 3 := by unfold stn; rw [rowN_len]
    refine ⟨?_, fun j hj => ?_, ?_⟩
    · rw [e2, List.length_append, List.length_append, e3]; omega
    · rw [e2, List.getD_eq_getElem?_getD, List.getElem?_append_right (by omega), Nat.add_sub_cancel_left, List.getElem?_append_left (by rw [e3]; exact hj), ← List.getD_eq_getElem?_getD]
      exact rowN_get hj
    · rw [e1, allS_app, List.length_append]
      congr 1
      show (stn (st.getD i 0) ++ []).length = _
      rw [List.append_nil, e3]
  have := run_countI (step := fun x => f_wFnStaggered_n72 x.1 x.2.1 x.2.2.1 x.2.2.2) st.length (fun i (_ : Unit) => (((allS (st.take i)).length : Int), (i : Int), st, allS st)) (fun u _ => u) (fun _ _ => True) true () (by omega) trivial ?_ ?_
  · exact this
  · intro i u hi _
    refine ⟨?_, trivial⟩
    show f_wFnStaggered_n72 ((allS (st.take i)).length : Int) i st (allS st) = _
    have hx := hP.pos _ (getD_mem' (d := 0) hi)
    obtain ⟨h1, h2, h3⟩ := hoff i hi
    unfold f_wFnStaggered_n72
    rw [lt_true hi, cond_true, part_run (P := (st.getD i 0).toNat) hi (by omega) (by omega) (by omega) (by omega) h1 h2, h3]
  · intro _
    show f_wFnStaggered_n72 ((allS (st.take st.length)).length : Int) ((st.length : Nat) : Int) st (allS st) = _
    unfold f_wFnStaggered_n72
    rw [lt_neg, cond_false, List.take_length]
    simp

/-! ### The law's tail: turns, sums, stones -/
theorem same_row (l : List Int) (hl : l.length ≤ 1000000) : s_sSameRow l l = some true := by
  unfold s_sSameRow s_sl05Same
  have : (((List.length l : Nat) : Int) != ((List.length l : Nat) : Int)) = false := by simp
  rw [this, cond_false]
  unfold f_sl05Same_run4
  have h := run_all (step := fun x => f_sl05Same_n4 x.1 x.2.1 x.2.2) l.length (fun i => ((i : Int), l, l)) (fun i => true) true false (by omega) ?_ ?_
  · have h : iter (fun x => f_sl05Same_n4 x.1 x.2.1 x.2.2) FU (0, l, l) = some true := h.trans (by simp)
    rw [h]; rfl
  · intro i hi
    show f_sl05Same_n4 i l l = _
    unfold f_sl05Same_n4
    rw [lt_true hi, inB_nat hi, toNat_nat, succ64 (by omega)]
    have : (l.getD i 0 != l.getD i 0) = false := by simp
    rw [this]; rfl
  · show f_sl05Same_n4 (l.length : Nat) l l = _
    unfold f_sl05Same_n4
    rw [lt_neg, cond_false]
theorem same_ints (l : List Int) (hl : l.length ≤ 1000000) : s_sA2Same l l = some true := by
  unfold s_sA2Same s_sl00Same
  have : (((List.length l : Nat) : Int) != ((List.length l : Nat) : Int)) = false := by simp
  rw [this, cond_false]
  unfold f_sl00Same_run4
  have h := run_all (step := fun x => f_sl00Same_n4 x.1 x.2.1 x.2.2) l.length (fun i => ((i : Int), l, l)) (fun i => true) true false (by omega) ?_ ?_
  · have h : iter (fun x => f_sl00Same_n4 x.1 x.2.1 x.2.2) FU (0, l, l) = some true := h.trans (by simp)
    rw [h]; rfl
  · intro i hi
    show f_sl00Same_n4 i l l = _
    unfold f_sl00Same_n4
    rw [lt_true hi, inB_nat hi, toNat_nat, succ64 (by omega)]
    have : (l.getD i 0 != l.getD i 0) = false := by simp
    rw [this]; rfl
  · show f_sl00Same_n4 (l.length : Nat) l l = _
    unfold f_sl00Same_n4
    rw [lt_neg, cond_false]
theorem sum_run {z : ByteArray} {st : List Int} (hP : PP z st) (hz : 1 ≤ z.size ∧ z.size ≤ 54) : f_wFnStaggered_run59 (z, cst z z.size, cst z z.size, 0, 0, st) = some true := by
  have hle := hP.le
  unfold f_wFnStaggered_run59
  refine run_listI (step := fun x => f_wFnStaggered_n59 x.1 x.2.1 x.2.2.1 x.2.2.2.1 x.2.2.2.2.1 x.2.2.2.2.2) (0 : Int) st (fun i (s : Int) => (z, cst z z.size, cst z z.size, s, (i : Int), st)) (· + ·) (fun i s => 0 ≤ s ∧ s ≤ 54 * i) true 0 (by omega) (by omega) ?_ ?_
  · intro i s hi hm hs
    have hx := hP.pos _ hm
    refine ⟨?_, by omega⟩
    show f_wFnStaggered_n59 z (cst z z.size) (cst z z.size) s i st = _
    unfold f_wFnStaggered_n59
    rw [lt_true hi, inB_nat hi, toNat_nat, IntWalk.i64_in (s + st.getD i 0) (by omega), succ64 (by omega)]
    rfl
  · intro _
    have e : st.foldl (· + ·) (0 : Int) = ((z.size : Nat) : Int) := hP.sum
    rw [e]
    show f_wFnStaggered_n59 z (cst z z.size) (cst z z.size) ((z.size : Nat) : Int) ((st.length : Nat) : Int) st = _
    obtain ⟨s1, s2⟩ := stones_ok hP (by omega)
    unfold f_wFnStaggered_n59
    rw [lt_neg, cond_false, s1, s2]
    have b1 : (cst z z.size != cst z z.size) = false := by simp
    have b2 : (((z.size : Nat) : Int) != ((z.size : Nat) : Int)) = false := by simp
    rw [b1, b2, cond_false, cond_false]
    have b3 : ((stoneF (allS st)).2 != (stoneF (allS st)).2) = false := by simp
    have hl60 : (stoneF (allS st)).1.length ≤ 60 := by
      unfold stoneF
      split
      · simp
      · rename_i h; exact Nat.le_of_not_lt h
    simp only [Option.bind, b3, cond_false, same_row _ (show (stoneF (allS st)).1.length ≤ 1000000 by omega), Bool.not_true]
    by_cases hbig : (allS st).length > 60
    · have : stoneF (allS st) = ([], 3) := by unfold stoneF; rw [if_pos hbig]
      rw [this]; rfl
    · have : stoneF (allS st) = (allS st, 0) := by unfold stoneF; rw [if_neg hbig]
      rw [this]
      show Option.map _ (f_wFnStaggered_run72 (0, 0, st, allS st)) = _
      rw [stones_run hP hz.2 (by omega)]; rfl
theorem turn_run {z : ByteArray} {st : List Int} (hP : PP z st) (hz : 1 ≤ z.size ∧ z.size ≤ 54) : f_wFnStaggered_run54 (z, cst z z.size, 0, 0, 0, st) = some true := by
  unfold f_wFnStaggered_run54
  refine run_countI (step := fun x => f_wFnStaggered_n54 x.1 x.2.1 x.2.2.1 x.2.2.2.1 x.2.2.2.2.1 x.2.2.2.2.2) z.size (fun i (T : Int) => (z, cst z z.size, T, 0, (i : Int), st)) (chg z) (fun i T => 0 ≤ T ∧ T ≤ i) true 0 (by omega) (by omega) ?_ ?_
  · intro i T hi hT
    constructor
    · show f_wFnStaggered_n54 z (cst z z.size) T 0 i st = _
      unfold f_wFnStaggered_n54 chg
      rw [lt_true hi, cond_true, succ64 (by omega)]
      by_cases h0 : 0 < i
      · rw [decide_eq_true (show (i : Int) > 0 by omega), decide_eq_true h0, inB_nat hi, prev_ix h0 (by omega), inB_nat (show i - 1 < z.size by omega), toNat_nat, toNat_nat, IntWalk.i64_in (T + 1) (by omega)]
        simp only [cond_true]
        cases (byteAt z i != byteAt z (i - 1)) <;> rfl
      · rw [decide_eq_false (show ¬ (i : Int) > 0 by omega), decide_eq_false h0]
        rfl
    · show 0 ≤ chg z T i ∧ chg z T i ≤ ((i + 1 : Nat) : Int)
      unfold chg
      cases decide (0 < i)
      · simp only [cond_false]; omega
      · cases (byteAt z i != byteAt z (i - 1))
        · simp only [cond_true, cond_false]; omega
        · simp only [cond_true]; omega
  · intro _
    show f_wFnStaggered_n54 z (cst z z.size) (cst z z.size) 0 ((z.size : Nat) : Int) st = _
    unfold f_wFnStaggered_n54
    rw [lt_neg, cond_false, sum_run hP hz]
    rfl
end Go.RR
