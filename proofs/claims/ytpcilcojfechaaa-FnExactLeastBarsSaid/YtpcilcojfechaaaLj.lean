/- Bars that may be cut, and the order of the pieces: both sides. No theorem of the program. -/
import Derived.Test.YtpcilcojfechaaaLc
import Derived.Test.YtpcilcojfechaaaVd
import Derived.Test.YtpcilcojfechaaaKe
import Derived.Test.YtpcilcojfechaaaKc
set_option linter.unusedVariables false
set_option linter.unusedSimpArgs false
namespace Go.RR
open Go Go.RowKit

def pcB (L x : Int) : Bool := decide (1 ≤ x ∧ x ≤ L)
def sawB (L S : Int) (P : List Int) : Bool := cond (P.all (pcB L)) (cond (decide (1 ≤ L ∧ L ≤ 10000)) (cond (decide (0 ≤ S ∧ S ≤ 10000)) (decide ((P.length : Int) ≤ 14)) false) false) false
theorem sawn_run {L S : Int} {P : List Int} (hl : P.length ≤ 2000000) : s_sl04Sawn L S P = some (sawB L S P) := by
  unfold s_sl04Sawn f_sl04Sawn_run2 sawB
  refine (run_allL (step := fun x => f_sl04Sawn_n2 x.1 x.2.1 x.2.2.1 x.2.2.2) 0 P (fun i => (L, S, (i : Int), P)) (pcB L) (cond (decide (1 ≤ L ∧ L ≤ 10000)) (cond (decide (0 ≤ S ∧ S ≤ 10000)) (decide ((P.length : Int) ≤ 14)) false) false) false (by omega) ?_ ?_)
  · intro i hi hm
    show f_sl04Sawn_n2 L S i P = _
    unfold f_sl04Sawn_n2
    rw [lt_true hi, inB_nat hi, toNat_nat, succ64 (by omega), in_eq]
    show cond true (cond true (cond (!pcB L (P.getD i 0)) _ _) _) _ = _
    cases pcB L (P.getD i 0) <;> rfl
  · show f_sl04Sawn_n2 L S (P.length : Nat) P = _
    unfold f_sl04Sawn_n2
    rw [lt_neg, cond_false, in_eq, in_eq]
    cases decide (1 ≤ L ∧ L ≤ 10000) <;> cases decide (0 ≤ S ∧ S ≤ 10000) <;> rfl
theorem bars_run {L S : Int} {P : List Int} (hl : P.length ≤ 2000000) : s_iareBars L S P = some (sawB L S P) := by
  have hc : s_gContainsFunc_int64_b P L = some (P.any fun x => s_iareBars_1 x L) := by
    unfold s_gContainsFunc_int64_b s_gIndexFunc_int64_b f_gIndexFunc_int64_b_run2
    have hs1 : ∀ i, i < P.length → f_gIndexFunc_int64_b_n2 (P.length : Nat) i P L = some (cond (s_iareBars_1 (P.getD i 0) L) (Sum.inr (i : Int)) (Sum.inl (((P.length : Nat) : Int), ((i + 1 : Nat) : Int), P, L))) := by
      intro i hi
      unfold f_gIndexFunc_int64_b_n2
      rw [lt_true hi, inB_nat hi, toNat_nat, succ64 (by omega)]
      simp only [cond_true]
      cases s_iareBars_1 (P.getD i 0) L <;> rfl
    have he1 : f_gIndexFunc_int64_b_n2 (P.length : Nat) (P.length : Nat) P L = some (Sum.inr (-1)) := by
      unfold f_gIndexFunc_int64_b_n2
      rw [lt_neg, cond_false]
    obtain ⟨r, h1, h2, _⟩ := run_idx (step := fun x => f_gIndexFunc_int64_b_n2 x.1 x.2.1 x.2.2.1 x.2.2.2) P.length (fun i => (((P.length : Nat) : Int), (i : Int), P, L)) (fun i => s_iareBars_1 (P.getD i 0) L) hs1 he1 P.length 0 FU (by omega) (FU_big (pow_big (by omega)))
    have h1 : iter (fun x => f_gIndexFunc_int64_b_n2 x.1 x.2.1 x.2.2.1 x.2.2.2) FU (((P.length : Nat) : Int), 0, P, L) = some r := h1
    rw [h1]
    simp only [Option.bind]
    rw [h2, any_getD 0 P fun x => s_iareBars_1 x L]
  have hn : (P.any fun x => s_iareBars_1 x L) = !(P.all (pcB L)) := by
    rw [List.all_eq_not_any_not, Bool.not_not]
    congr 1
    funext x
    show (!(s_iwithin x 1 L)) = !(pcB L x)
    rw [within_eq]; rfl
  unfold s_iareBars sawB
  rw [hc, hn, within_eq, within_eq]
  cases P.all (pcB L) <;> cases decide (1 ≤ L ∧ L ≤ 10000) <;> cases decide (0 ≤ S ∧ S ≤ 10000) <;> cases decide ((P.length : Int) ≤ 14) <;> rfl
theorem sawB_ok {L S : Int} {P : List Int} (h : sawB L S P = true) : PcOK P S ∧ 0 ≤ L ∧ L ≤ 10000 ∧ ∀ x ∈ P, 1 ≤ x ∧ x ≤ L := by
  unfold sawB at h
  cases h1 : P.all (pcB L) with
  | false => rw [h1] at h; cases h
  | true =>
    rw [h1] at h
    cases h2 : decide (1 ≤ L ∧ L ≤ 10000) with
    | false => rw [h2] at h; cases h
    | true =>
      rw [h2] at h
      cases h3 : decide (0 ≤ S ∧ S ≤ 10000) with
      | false => rw [h3] at h; cases h
      | true =>
        rw [h3] at h
        have h4 : (P.length : Int) ≤ 14 := of_decide_eq_true h
        have h2 := of_decide_eq_true h2
        have h3 := of_decide_eq_true h3
        have h5 : ∀ x ∈ P, 1 ≤ x ∧ x ≤ L := fun x hx => of_decide_eq_true (List.all_eq_true.1 h1 x hx)
        exact ⟨⟨by omega, fun x hx => by have := h5 x hx; omega, h3⟩, by omega, by omega, h5⟩

/-! ### The longest pieces first -/
def insR (P : List Int) (x : Int) : List Int → List Int
  | [] => [x]
  | y :: l => cond (decide (P.getD y.toNat 0 < P.getD x.toNat 0)) (y :: insR P x l) (x :: y :: l)
def revO (P : List Int) (n : Nat) : List Int := (List.range' 0 n).foldl (fun (r : List Int) (i : Nat) => insR P (i : Int) r) []
def ordP (P : List Int) : List Int := (revO P P.length).reverse
theorem insR_len (P : List Int) (x : Int) : ∀ l, (insR P x l).length = l.length + 1
  | [] => rfl
  | y :: l => by
    unfold insR
    cases decide (P.getD y.toNat 0 < P.getD x.toNat 0)
    · rfl
    · simp [insR_len P x l]
theorem insR_mem (P : List Int) (x : Int) : ∀ (l : List Int) (z : Int), z ∈ insR P x l → z = x ∨ z ∈ l
  | [], z, h => by simp [insR] at h; exact .inl h
  | y :: l, z, h => by
    unfold insR at h
    cases hd : decide (P.getD y.toNat 0 < P.getD x.toNat 0)
    · rw [hd] at h; simpa using h
    · rw [hd] at h
      simp only [cond_true, List.mem_cons] at h ⊢
      rcases h with h | h
      · exact .inr (.inl h)
      · rcases insR_mem P x l z h with h | h
        · exact .inl h
        · exact .inr (.inr h)
theorem revO_succ (P : List Int) (n : Nat) : revO P (n + 1) = insR P (n : Int) (revO P n) := by
  unfold revO
  rw [List.range'_1_concat, List.foldl_append]; simp
theorem revO_ok (P : List Int) : ∀ n, (revO P n).length = n ∧ ∀ z ∈ revO P n, 0 ≤ z ∧ z < (n : Int)
  | 0 => ⟨rfl, fun z h => by simp [revO] at h⟩
  | n + 1 => by
    rw [revO_succ, insR_len, (revO_ok P n).1]
    refine ⟨rfl, fun z h => ?_⟩
    rcases insR_mem P _ _ z h with rfl | h
    · omega
    · have := (revO_ok P n).2 z h; omega
theorem ordP_ok (P : List Int) : (ordP P).length = P.length ∧ ∀ z ∈ ordP P, 0 ≤ z ∧ z < (P.length : Int) := by
  unfold ordP
  refine ⟨by rw [List.length_reverse, (revO_ok P _).1], fun z h => (revO_ok P _).2 z (List.mem_reverse.1 h)⟩
theorem it_l {σ ρ : Type} {step : σ → Option (σ ⊕ ρ)} {s s' : σ} {m : Nat} (h : step s = some (.inl s')) : iter step (m + 1) s = iter step m s' := by rw [iter, h]
theorem it_r {σ ρ : Type} {step : σ → Option (σ ⊕ ρ)} {s : σ} {r : ρ} {m : Nat} (h : step s = some (.inr r)) : iter step (m + 1) s = some r := by rw [iter, h]
theorem it_rF {σ ρ : Type} {step : σ → Option (σ ⊕ ρ)} {s : σ} {r : ρ} (h : step s = some (.inr r)) : iter step FU s = some r := by
  obtain ⟨q, hq⟩ : ∃ q, FU = q + 1 := ⟨FU - 1, by have := FU_big (m := 1) (by decide); omega⟩
  rw [hq]; exact it_r h
theorem shift_run {P : List Int} {i : Nat} (hP : P.length ≤ 14) (hi : i < P.length) : ∀ (A B : List Int) (z : Int), (∀ y ∈ A, 0 ≤ y ∧ y < (P.length : Int)) → A.length ≤ 14 → ∀ m, A.length < m →
    iter (fun x => f_sl04Longest_n7 x.1 x.2.1 x.2.2.1 x.2.2.2) m ((i : Int), (A.length : Int), P, A.reverse ++ z :: B) = some (.inl (((i + 1 : Nat) : Int), P, (insR P (i : Int) A).reverse ++ B))
  | [], B, z, _, _, m + 1, _ => by
    have : f_sl04Longest_n7 (i : Int) ((0 : Nat) : Int) P ([] ++ z :: B) = some (.inr (.inl (((i + 1 : Nat) : Int), P, [(i : Int)] ++ B))) := by
      unfold f_sl04Longest_n7
      have hh : inB ((0 : Nat) : Int) (List.length ([] ++ z :: B)) = true := inB_nat (by simp)
      rw [decide_eq_false (show ¬ ((0 : Nat) : Int) > 0 by omega), cond_false, hh, succ64 (by omega)]
      rfl
    exact it_r this
  | y :: A, B, z, hA, hlen, m + 1, hm => by
    have hlen : A.length + 1 ≤ 14 := hlen
    have hm : A.length + 1 < m + 1 := hm
    have hy := hA y (by simp)
    obtain ⟨yn, rfl⟩ : ∃ yn : Nat, y = yn := ⟨y.toNat, by omega⟩
    have hout : ((yn : Int) :: A).reverse ++ z :: B = A.reverse ++ (yn : Int) :: z :: B := by simp
    rw [hout]
    have hL : (A.reverse ++ (yn : Int) :: z :: B).length = A.length + 2 + B.length := by simp; omega
    have hg : (A.reverse ++ (yn : Int) :: z :: B).getD A.length 0 = (yn : Int) := by
      rw [List.getD_eq_getElem?_getD, List.getElem?_append_right (by simp)]; simp
    have hset : ∀ v : Int, (A.reverse ++ (yn : Int) :: z :: B).set (A.length + 1) v = A.reverse ++ (yn : Int) :: v :: B := fun v => by
      rw [List.set_append_right _ _ (by simp)]; simp
    have h1 : IntKind.wrap .i64 (((A.length + 1 : Nat) : Int) - 1) = (A.length : Int) := by rw [IntWalk.i64_in _ (by omega)]; omega
    have key : f_sl04Longest_n7 (i : Int) ((A.length + 1 : Nat) : Int) P (A.reverse ++ (yn : Int) :: z :: B) = cond (decide (P.getD yn 0 < P.getD i 0)) (some (.inl ((i : Int), (A.length : Int), P, A.reverse ++ (yn : Int) :: (yn : Int) :: B))) (some (.inr (.inl (((i + 1 : Nat) : Int), P, A.reverse ++ (yn : Int) :: (i : Int) :: B)))) := by
      unfold f_sl04Longest_n7
      rw [decide_eq_true (show ((A.length + 1 : Nat) : Int) > 0 by omega), cond_true, h1, toNat_nat, toNat_nat, inB_nat (show A.length < _ by rw [hL]; omega), cond_true, hg, toNat_nat, inB_nat (show yn < P.length by omega), cond_true, inB_nat hi, cond_true, inB_nat (show A.length + 1 < _ by rw [hL]; omega), toNat_nat (A.length + 1), hset, hset, succ64 (by omega)]
      rfl
    unfold insR
    rw [toNat_nat, toNat_nat]
    cases hd : decide (P.getD yn 0 < P.getD i 0)
    · rw [hd] at key
      refine (it_r (step := fun x => f_sl04Longest_n7 x.1 x.2.1 x.2.2.1 x.2.2.2) key).trans ?_
      simp
    · rw [hd] at key
      refine (it_l (step := fun x => f_sl04Longest_n7 x.1 x.2.1 x.2.2.1 x.2.2.2) key).trans ?_
      have := shift_run hP hi A ((yn : Int) :: B) (yn : Int) (fun y hy => hA y (by simp [hy])) (by omega) m (by omega)
      refine this.trans ?_
      simp
  | [], _, _, _, _, 0, hm => by simp at hm
  | _ :: _, _, _, _, _, 0, hm => by simp at hm
theorem longS_run {P : List Int} (hP : P.length ≤ 14) : s_sl04Longest P = some (ordP P) := by
  unfold s_sl04Longest f_sl04Longest_run3 ordP
  refine run_count (step := fun x => f_sl04Longest_n3 x.1 x.2.1 x.2.2) (τ := Unit) P.length (fun i _ => ((i : Int), P, (revO P i).reverse)) (fun _ _ => ()) _ () (by omega) (fun i _ hi => ?_) ?_
  · show f_sl04Longest_n3 (i : Int) P (revO P i).reverse = some (.inl (((i + 1 : Nat) : Int), P, (revO P (i + 1)).reverse))
    have hr := revO_ok P i
    unfold f_sl04Longest_n3
    have hf : fits ((List.length (revO P i).reverse + List.length [(i : Int)]) * 8) = true := fits_small (by rw [List.length_reverse, hr.1]; simp; omega)
    rw [lt_true hi, cond_true, hf, cond_true, List.length_reverse]
    unfold f_sl04Longest_run7
    have := shift_run hP hi (revO P i) [] (i : Int) (fun y hy => by have := hr.2 y hy; omega) (by omega) FU (FU_big (pow_big (by omega)))
    rw [List.append_nil] at this
    rw [revO_succ]
    exact this
  · show f_sl04Longest_n3 (P.length : Nat) P (revO P P.length).reverse = _
    unfold f_sl04Longest_n3
    rw [lt_neg, cond_false]
/-! ### The same, sorted by exchanges -/
theorem swap_run {P : List Int} {S : Int} (hPc : PcOK P S) {b i : Int} {x : Nat} (hx : x < P.length) : ∀ (A C : List Int), (∀ y ∈ A, 0 ≤ y ∧ y < (P.length : Int)) → A.length ≤ 14 → (i < 1000 ∧ 0 ≤ i) → ∀ m, A.length < m →
    iter (fun x => f_ginsertionSortCmpFunc_int64_n4 x.1 x.2.1 x.2.2.1 x.2.2.2.1 x.2.2.2.2.1 x.2.2.2.2.2) m (0, b, i, (A.length : Int), A.reverse ++ (x : Int) :: C, P) = some (.inl (0, b, i + 1, (insR P (x : Int) A).reverse ++ C, P))
  | [], C, _, _, hi, m + 1, _ => by
    have : f_ginsertionSortCmpFunc_int64_n4 0 b i ((0 : Nat) : Int) ([] ++ (x : Int) :: C) P = some (.inr (.inl (0, b, i + 1, [(x : Int)] ++ C, P))) := by
      unfold f_ginsertionSortCmpFunc_int64_n4
      rw [decide_eq_false (show ¬ ((0 : Nat) : Int) > 0 by omega), cond_false, IntWalk.i64_in _ (by omega)]
      rfl
    exact it_r this
  | y :: A, C, hA, hlen, hi, m + 1, hm => by
    have hlen : A.length + 1 ≤ 14 := hlen
    have hm : A.length + 1 < m + 1 := hm
    have hy := hA y (by simp)
    obtain ⟨yn, rfl⟩ : ∃ yn : Nat, y = yn := ⟨y.toNat, by omega⟩
    have hout : ((yn : Int) :: A).reverse ++ (x : Int) :: C = A.reverse ++ (yn : Int) :: (x : Int) :: C := by simp
    rw [hout]
    have hL : (A.reverse ++ (yn : Int) :: (x : Int) :: C).length = A.length + 2 + C.length := by simp; omega
    have hg : (A.reverse ++ (yn : Int) :: (x : Int) :: C).getD A.length 0 = (yn : Int) := by
      rw [List.getD_eq_getElem?_getD, List.getElem?_append_right (by simp)]; simp
    have hg2 : (A.reverse ++ (yn : Int) :: (x : Int) :: C).getD (A.length + 1) 0 = (x : Int) := by
      rw [List.getD_eq_getElem?_getD, List.getElem?_append_right (by simp)]; simp
    have hset : (A.reverse ++ (yn : Int) :: (x : Int) :: C).set (A.length + 1) (yn : Int) = A.reverse ++ (yn : Int) :: (yn : Int) :: C := by
      rw [List.set_append_right _ _ (by simp)]; simp
    have hset2 : (A.reverse ++ (yn : Int) :: (yn : Int) :: C).set A.length (x : Int) = A.reverse ++ (x : Int) :: (yn : Int) :: C := by
      rw [List.set_append_right _ _ (by simp)]; simp
    have hL2 : (A.reverse ++ (yn : Int) :: (yn : Int) :: C).length = A.length + 2 + C.length := by simp; omega
    have h1 : IntKind.wrap .i64 (((A.length + 1 : Nat) : Int) - 1) = (A.length : Int) := by rw [IntWalk.i64_in _ (by omega)]; omega
    have p1 := hPc.get yn
    have p2 := hPc.get x
    have hcmp : s_ilongestFirst_1 (x : Int) (yn : Int) P = some (P.getD yn 0 - P.getD x 0) := by
      unfold s_ilongestFirst_1
      rw [inB_nat (show yn < P.length by omega), inB_nat hx, cond_true, cond_true, toNat_nat, toNat_nat, IntWalk.i64_in _ (by omega)]
    have hd : decide (P.getD yn 0 - P.getD x 0 < 0) = decide (P.getD yn 0 < P.getD x 0) := by
      by_cases h : P.getD yn 0 < P.getD x 0
      · rw [decide_eq_true h, decide_eq_true (by omega)]
      · rw [decide_eq_false h, decide_eq_false (by omega)]
    have key : f_ginsertionSortCmpFunc_int64_n4 0 b i ((A.length + 1 : Nat) : Int) (A.reverse ++ (yn : Int) :: (x : Int) :: C) P = cond (decide (P.getD yn 0 < P.getD x 0)) (some (.inl (0, b, i, (A.length : Int), A.reverse ++ (x : Int) :: (yn : Int) :: C, P))) (some (.inr (.inl (0, b, i + 1, A.reverse ++ (yn : Int) :: (x : Int) :: C, P)))) := by
      unfold f_ginsertionSortCmpFunc_int64_n4
      rw [decide_eq_true (show ((A.length + 1 : Nat) : Int) > 0 by omega), cond_true, h1, toNat_nat (A.length + 1), toNat_nat A.length, inB_nat (show A.length + 1 < _ by rw [hL]; omega), cond_true, inB_nat (show A.length < _ by rw [hL]; omega), cond_true, hg, hg2, hcmp, IntWalk.i64_in _ (show _ by omega)]
      show cond (decide (P.getD yn 0 - P.getD x 0 < 0)) _ _ = _
      rw [hd, hset, inB_nat (show A.length < _ by rw [hL2]; omega), hset2]
      rfl
    unfold insR
    rw [toNat_nat, toNat_nat]
    cases hd : decide (P.getD yn 0 < P.getD x 0)
    · rw [hd] at key
      refine (it_r (step := fun x => f_ginsertionSortCmpFunc_int64_n4 x.1 x.2.1 x.2.2.1 x.2.2.2.1 x.2.2.2.2.1 x.2.2.2.2.2) key).trans ?_
      simp
    · rw [hd] at key
      refine (it_l (step := fun x => f_ginsertionSortCmpFunc_int64_n4 x.1 x.2.1 x.2.2.1 x.2.2.2.1 x.2.2.2.2.1 x.2.2.2.2.2) key).trans ?_
      have := swap_run hPc (b := b) (i := i) hx A ((yn : Int) :: C) (fun y hy => hA y (by simp [hy])) (by omega) hi m (by omega)
      refine this.trans ?_
      simp
  | [], _, _, _, _, 0, hm => by simp at hm
  | _ :: _, _, _, _, _, 0, hm => by simp at hm
theorem sort_run {P : List Int} {S : Int} (hPc : PcOK P S) : s_ginsertionSortCmpFunc_int64 0 (P.length : Int) ((List.range' 0 P.length).map fun i : Nat => (i : Int)) P = some (ordP P) := by
  have hP := hPc.len
  unfold s_ginsertionSortCmpFunc_int64 f_ginsertionSortCmpFunc_int64_run1
  rw [IntWalk.i64_in _ (by omega)]
  cases hn : P.length with
  | zero =>
    have : ordP P = [] := by unfold ordP; rw [hn]; rfl
    rw [this]
    have : f_ginsertionSortCmpFunc_int64_n1 0 ((0 : Nat) : Int) (0 + 1) [] P = some (.inr []) := by
      unfold f_ginsertionSortCmpFunc_int64_n1
      rw [decide_eq_false (by omega), cond_false]
    exact it_rF (step := fun x => f_ginsertionSortCmpFunc_int64_n1 x.1 x.2.1 x.2.2.1 x.2.2.2.1 x.2.2.2.2) this
  | succ n =>
    have hst : ((List.range' 0 (n + 1)).map fun i : Nat => (i : Int)) = (revO P 1).reverse ++ (List.range' 1 n).map fun i : Nat => (i : Int) := by
      rw [List.range'_succ, List.map_cons, revO_succ]; rfl
    rw [hst]
    refine run_count (step := fun x => f_ginsertionSortCmpFunc_int64_n1 x.1 x.2.1 x.2.2.1 x.2.2.2.1 x.2.2.2.2) (τ := Unit) n (fun j _ => (0, ((n + 1 : Nat) : Int), ((j : Int) + 1), (revO P (j + 1)).reverse ++ (List.range' (j + 1) (n - j)).map fun i : Nat => (i : Int), P)) (fun _ _ => ()) _ () (by omega) (fun j _ hj => ?_) ?_
    · show f_ginsertionSortCmpFunc_int64_n1 0 ((n + 1 : Nat) : Int) ((j : Int) + 1) ((revO P (j + 1)).reverse ++ (List.range' (j + 1) (n - j)).map fun i : Nat => (i : Int)) P = some (.inl (0, ((n + 1 : Nat) : Int), (((j + 1 : Nat) : Int) + 1), (revO P (j + 1 + 1)).reverse ++ (List.range' (j + 1 + 1) (n - (j + 1))).map fun i : Nat => (i : Int), P))
      have hr := revO_ok P (j + 1)
      unfold f_ginsertionSortCmpFunc_int64_n1 f_ginsertionSortCmpFunc_int64_run4
      rw [decide_eq_true (show (j : Int) + 1 < ((n + 1 : Nat) : Int) by omega), cond_true, show n - j = (n - (j + 1)) + 1 by omega, List.range'_succ, List.map_cons, revO_succ P (j + 1)]
      have := swap_run hPc (b := ((n + 1 : Nat) : Int)) (i := (j : Int) + 1) (x := j + 1) (by omega) (revO P (j + 1)) ((List.range' (j + 1 + 1) (n - (j + 1))).map fun i : Nat => (i : Int)) (fun y hy => by have := hr.2 y hy; omega) (by omega) (by omega) FU (FU_big (pow_big (by omega)))
      rw [hr.1] at this
      exact this
    · show f_ginsertionSortCmpFunc_int64_n1 0 ((n + 1 : Nat) : Int) ((n : Int) + 1) ((revO P (n + 1)).reverse ++ (List.range' (n + 1) (n - n)).map fun i : Nat => (i : Int)) P = _
      unfold f_ginsertionSortCmpFunc_int64_n1 ordP
      rw [decide_eq_false (by omega), cond_false, Nat.sub_self, hn]
      simp
theorem longI_run {P : List Int} {S : Int} (hPc : PcOK P S) : s_ilongestFirst P = some (ordP P) := by
  have hP := hPc.len
  have hsort : s_gSortStableFunc_int64 ((List.range' 0 P.length).map fun i : Nat => (i : Int)) P = some (ordP P) := by
    unfold s_gSortStableFunc_int64 s_gstableCmpFunc_int64 f_gstableCmpFunc_int64_run2
    have e7 : ∀ r : List Int, f_gstableCmpFunc_int64_run7 ((P.length : Int), 20, r, P) = some r := fun r => by
      unfold f_gstableCmpFunc_int64_run7
      have : f_gstableCmpFunc_int64_n7 (P.length : Int) 20 r P = some (.inr r) := by
        unfold f_gstableCmpFunc_int64_n7
        rw [decide_eq_false (by omega), cond_false]
      exact it_rF (step := fun x => f_gstableCmpFunc_int64_n7 x.1 x.2.1 x.2.2.1 x.2.2.2) this
    have : f_gstableCmpFunc_int64_n2 (P.length : Int) 20 0 20 ((List.range' 0 P.length).map fun i : Nat => (i : Int)) P = some (.inr (ordP P)) := by
      unfold f_gstableCmpFunc_int64_n2
      rw [decide_eq_false (by omega), cond_false, sort_run hPc]
      show Option.map _ (f_gstableCmpFunc_int64_run7 ((P.length : Int), 20, ordP P, P)) = _
      rw [e7]; rfl
    have hlen : List.length ((List.range' 0 P.length).map fun i : Nat => (i : Int)) = P.length := by simp
    rw [hlen, it_rF (step := fun x => f_gstableCmpFunc_int64_n2 x.1 x.2.1 x.2.2.1 x.2.2.2.1 x.2.2.2.2.1 x.2.2.2.2.2) this]; rfl
  unfold s_ilongestFirst f_ilongestFirst_run3
  refine run_count (step := fun x => f_ilongestFirst_n3 x.1 x.2.1 x.2.2.1 x.2.2.2) (τ := Unit) P.length (fun i _ => (((P.length : Nat) : Int), (i : Int), P, (List.range' 0 i).map fun i : Nat => (i : Int))) (fun _ _ => ()) _ () (by omega) (fun i _ hi => ?_) ?_
  · show f_ilongestFirst_n3 ((P.length : Nat) : Int) (i : Int) P ((List.range' 0 i).map fun i : Nat => (i : Int)) = some (.inl (((P.length : Nat) : Int), ((i + 1 : Nat) : Int), P, (List.range' 0 (i + 1)).map fun i : Nat => (i : Int)))
    unfold f_ilongestFirst_n3
    have hf : fits ((List.length ((List.range' 0 i).map fun i : Nat => (i : Int)) + List.length [(i : Int)]) * 8) = true := fits_small (by simp; omega)
    rw [lt_true hi, cond_true, hf, cond_true, succ64 (by omega), List.range'_1_concat, List.map_append]
    simp
  · show f_ilongestFirst_n3 ((P.length : Nat) : Int) (P.length : Nat) P ((List.range' 0 P.length).map fun i : Nat => (i : Int)) = _
    unfold f_ilongestFirst_n3
    rw [lt_neg, cond_false, hsort]; rfl
end Go.RR
namespace Go.RR
open Go Go.Proofs Go.RowKit

/-- A slice of rows of one's own, as the kit says it. -/
structure RO (w : World) (lo : Nat) (l : List (List Int)) (v : Value) (vs : List Value) : Prop where
  nest : Nest w lo .i64 l vs
  own : w.ownsRow lo 28 1 v l.length vs
  apart : ∀ u ∈ vs, ∀ g, ownG u = some g → v.ownBlock ≠ some g
theorem RO.nestV {w : World} {lo : Nat} {l : List (List Int)} {v : Value} {vs : List Value} (h : RO w lo l v vs) : NestV w lo .i64 l v vs := by
  have hown := ownsRow_own h.own
  have hb : ∀ g, ownG v = some g → v.ownBlock = some g := fun g hg => by
    rcases ownG_ownBlock hg with h1 | ⟨p, rfl⟩
    · exact h1
    · rcases h.own.2 with ⟨q, _⟩ | ⟨_, _, _, q, _⟩ <;> cases q
  refine ⟨h.nest, hown, fun g hg => ?_, fun u hu g hg e => h.apart u hu g hg (hb g e)⟩
  rcases h.own.2 with ⟨rfl, _⟩ | ⟨g', cap, cur, rfl, hlo, hg', _⟩
  · cases hg
  · have := hb g hg
    simp only [Value.ownBlock, Option.some.injEq] at this
    subst this
    exact ⟨hlo, (Array.getElem?_eq_some_iff.1 hg').1⟩
theorem RO.below {w w' : World} {lo : Nat} {l : List (List Int)} {v : Value} {vs : List Value} (h : RO w lo l v vs) (hb : Below w.heap.size w w') : RO w' lo l v vs := by
  refine ⟨h.nest.keep hb.size fun u hu g hg => hb.block g (h.nest.low hu hg).2, ⟨h.own.1, ?_⟩, h.apart⟩
  rcases h.own.2 with q | ⟨g, cap, cur, q, hlo, hg, r⟩
  · exact .inl q
  · exact .inr ⟨g, cap, cur, q, hlo, by rw [hb.block g (Array.getElem?_eq_some_iff.1 hg).1]; exact hg, r⟩
/-- One row more. -/
theorem RO.snoc {w w1 : World} {lo : Nat} {l : List (List Int)} {v : Value} {vs : List Value} (h : RO w lo l v vs) {r : List Int} {u : Value} {a : Nat} (ha : lo ≤ a) (hr : NRow w a .i64 r u) (hf : ∀ x ∈ vs, ∀ g, ownG x = some g → g < a) (hfv : ∀ g, v.ownBlock = some g → g < a) {o : Obj}
    {g cap : Nat} (hown : w1.ownsRow lo 28 1 (.slice (some ⟨g, 0, none⟩) (l.length + 1) cap) (l.length + 1) (vs ++ [u])) (hgrow : (w.alloc o).grownBy w1 v.ownBlock) (hat : v.ownBlock = some g ∨ g = (w.alloc o).heap.size) : RO w1 lo (l ++ [r]) (.slice (some ⟨g, 0, none⟩) (l.length + 1) cap) (vs ++ [u]) := by
  have hsz := alloc_size w o
  have hk : ∀ q, q < w.heap.size → v.ownBlock ≠ some q → w1.heap[q]? = w.heap[q]? := fun q hq hne => by
    rw [hgrow.block q (by omega) (fun e => hne e.symm)]
    exact Below.heap_alloc w o q hq
  have hs : w.heap.size ≤ w1.heap.size := by have := hgrow.size; omega
  refine ⟨Nest.snoc (h.nest.keep hs fun x hx q hq => hk q (h.nest.low hx hq).2 (h.apart x hx q hq)) ((hr.lower ha).keep hs fun q hq => hk q (hr.2 q hq).2 fun e => ?_) fun x hx q hq e => ?_, by rw [List.length_append]; exact hown, fun x hx q hq e => ?_⟩
  · have := hfv q e; have := (hr.2 q hq).1; omega
  · have := hf x hx q e; have := (hr.2 q hq).1; omega
  · simp only [Value.ownBlock, Option.some.injEq] at e
    subst e
    rcases List.mem_append.1 hx with hx | hx
    · have h1 := h.nest.low hx hq
      rcases hat with hat | hat
      · exact h.apart x hx _ hq hat
      · omega
    · rw [List.mem_singleton] at hx
      subst hx
      have h1 := hr.2 _ hq
      rcases hat with hat | hat
      · have := hfv _ hat; omega
      · omega

def FPr (v : Value) (vs : List Value) (g : Nat) : Prop := v.ownBlock = some g ∨ ∃ u ∈ vs, ownG u = some g
theorem ownsRow_keep {w w' : World} {lo : Nat} {e : TypeId} {s : Nat} {v : Value} {n : Nat} {xs : List Value} (h : w.ownsRow lo e s v n xs) (hk : ∀ g, v.ownBlock = some g → w'.heap[g]? = w.heap[g]?) : w'.ownsRow lo e s v n xs := by
  refine ⟨h.1, ?_⟩
  rcases h.2 with q | ⟨g, cap, cur, rfl, hlo, hg, r⟩
  · exact .inl q
  · exact .inr ⟨g, cap, cur, rfl, hlo, by rw [hk g rfl]; exact hg, r⟩
theorem ownsRow_lt {w : World} {lo : Nat} {e : TypeId} {s : Nat} {v : Value} {n : Nat} {xs : List Value} (h : w.ownsRow lo e s v n xs) {g : Nat} (hg : v.ownBlock = some g) : lo ≤ g ∧ g < w.heap.size := by
  rcases h.2 with ⟨rfl, _⟩ | ⟨g', cap, cur, rfl, hlo, hg', r⟩
  · cases hg
  · simp only [Value.ownBlock, Option.some.injEq] at hg
    subst hg
    exact ⟨hlo, (Array.getElem?_eq_some_iff.1 hg').1⟩
theorem RO.keep {w w' : World} {lo : Nat} {l : List (List Int)} {v : Value} {vs : List Value} (h : RO w lo l v vs) (hs : w.heap.size ≤ w'.heap.size) (hk : ∀ g, FPr v vs g → w'.heap[g]? = w.heap[g]?) : RO w' lo l v vs :=
  ⟨h.nest.keep hs fun u hu g hg => hk g (.inr ⟨u, hu, hg⟩), ownsRow_keep h.own fun g hg => hk g (.inl hg), h.apart⟩
theorem RO.lt' {w : World} {lo : Nat} {l : List (List Int)} {v : Value} {vs : List Value} (h : RO w lo l v vs) {g : Nat} (hg : FPr v vs g) : lo ≤ g ∧ g < w.heap.size := by
  rcases hg with hg | ⟨u, hu, hg⟩
  · exact ownsRow_lt h.own hg
  · exact h.nest.low hu hg
theorem RO.nil (w : World) (lo : Nat) : RO w lo [] (.slice none 0 0) [] :=
  ⟨⟨rfl, fun i u h => by simp at h, fun i j u v _ h => by simp at h⟩, World.ownsRow_nil w lo 28 1, fun u h => (nomatch h)⟩

/-! ### Bars -/
/-- Rows of rows that are one's own, by the types of their blocks. -/
structure NT (w : World) (lo : Nat) (l : List (List Int)) (v : Value) (vs : List Value) : Prop where
  own : w.ownsRow lo 28 1 v l.length vs
  row : ∀ (i : Nat) (u : Value), vs[i]? = some u → w.ownsRow lo 2 1 u (l.getD i []).length ((l.getD i []).map (Value.int .i64)) ∧ ∃ g c, u = .slice (some ⟨g, 0, none⟩) (l.getD i []).length c
  sep : ∀ (i j : Nat) (u u' : Value), i ≠ j → vs[i]? = some u → vs[j]? = some u' → ∀ g, u.ownBlock = some g → u'.ownBlock ≠ some g
  apart : ∀ u ∈ vs, ∀ g, u.ownBlock = some g → v.ownBlock ≠ some g
def FP (v : Value) (vs : List Value) (g : Nat) : Prop := v.ownBlock = some g ∨ ∃ u ∈ vs, u.ownBlock = some g
theorem NT.len {w : World} {lo : Nat} {l : List (List Int)} {v : Value} {vs : List Value} (h : NT w lo l v vs) : vs.length = l.length := by
  have := h.own.1; omega
theorem NT.keep {w w' : World} {lo : Nat} {l : List (List Int)} {v : Value} {vs : List Value} (h : NT w lo l v vs) (hk : ∀ g, FP v vs g → w'.heap[g]? = w.heap[g]?) : NT w' lo l v vs :=
  ⟨ownsRow_keep h.own fun g hg => hk g (.inl hg), fun i u hu => ⟨ownsRow_keep (h.row i u hu).1 fun g hg => hk g (.inr ⟨u, List.mem_of_getElem? hu, hg⟩), (h.row i u hu).2⟩, h.sep, h.apart⟩
theorem NT.lt {w : World} {lo : Nat} {l : List (List Int)} {v : Value} {vs : List Value} (h : NT w lo l v vs) {g : Nat} (hg : FP v vs g) : lo ≤ g ∧ g < w.heap.size := by
  rcases hg with hg | ⟨u, hu, hg⟩
  · exact ownsRow_lt h.own hg
  · obtain ⟨i, hi⟩ := List.mem_iff_getElem?.1 hu
    exact ownsRow_lt (h.row i u hi).1 hg
theorem NT.nil (w : World) (lo : Nat) : NT w lo [] (.slice none 0 0) [] :=
  ⟨World.ownsRow_nil w lo 28 1, fun i u h => by simp at h, fun i j u v _ h => by simp at h, fun u h => (nomatch h)⟩
theorem NT.at {w : World} {lo : Nat} {l : List (List Int)} {v : Value} {vs : List Value} (h : NT w lo l v vs) {i : Nat} (hi : i < l.length) : ∃ u, vs[i]? = some u := ⟨vs[i]'(by rw [h.len]; exact hi), List.getElem?_eq_getElem _⟩
theorem NT.form {w : World} {lo : Nat} {l : List (List Int)} {v : Value} {vs : List Value} (h : NT w lo l v vs) (hl : l ≠ []) : ∃ g c, v = .slice (some ⟨g, 0, none⟩) l.length c := by
  rcases h.own.2 with ⟨_, h0⟩ | ⟨g, cap, cur, rfl, _⟩
  · exact absurd (List.eq_nil_of_length_eq_zero h0) hl
  · exact ⟨g, cap, rfl⟩
theorem NT.slice {w : World} {lo : Nat} {l : List (List Int)} {v : Value} {vs : List Value} (h : NT w lo l v vs) : ∃ ao c, v = .slice ao l.length c := by
  rcases h.own.2 with ⟨rfl, h0⟩ | ⟨g, cap, cur, rfl, _⟩
  · exact ⟨none, 0, by rw [h0]⟩
  · exact ⟨_, cap, rfl⟩
theorem RO.slice {w : World} {lo : Nat} {l : List (List Int)} {v : Value} {vs : List Value} (h : RO w lo l v vs) : ∃ ao c, v = .slice ao l.length c := by
  rcases h.own.2 with ⟨rfl, h0⟩ | ⟨g, cap, cur, rfl, _⟩
  · exact ⟨none, 0, by rw [h0]⟩
  · exact ⟨_, cap, rfl⟩
theorem NT.cell {w : World} {lo : Nat} {l : List (List Int)} {g n c : Nat} {vs : List Value} (h : NT w lo l (.slice (some ⟨g, 0, none⟩) n c) vs) {i : Nat} {u : Value} (hu : vs[i]? = some u) : w.cell? ⟨g, i, none⟩ = some u ∧ w.frozen? ⟨g, i, none⟩ = false := by
  rcases h.own.2 with ⟨e, _⟩ | ⟨g', cap, cur, e, _, hg, h1, h2, h3, h4⟩
  · cases e
  · simp only [Value.slice.injEq, Option.some.injEq, Addr.mk.injEq] at e
    obtain ⟨⟨rfl, _⟩, _⟩ := e
    have := Lies.of_heap hg h4 i u hu
    rw [Nat.zero_add] at this
    exact ⟨this, by simp [World.frozen?, hg]⟩
/-- A row may be read. -/
theorem ownsRow_innr {w : World} {lo : Nat} {r : List Int} {u : Value} (h : w.ownsRow lo 2 1 u r.length (r.map (Value.int .i64))) : Innr w (fun _ => False) 0 .i64 r u := by
  rcases h.2 with ⟨rfl, h0⟩ | ⟨g, cap, cur, rfl, hlo, hg, h1, h2, h3, h4⟩
  · exact ⟨none, 0, by rw [h0], by omega, fun hne => absurd (List.eq_nil_of_length_eq_zero h0) hne⟩
  · exact ⟨_, cap, rfl, h1, fun _ => ⟨g, 0, rfl, Nat.zero_le _, (Array.getElem?_eq_some_iff.1 hg).1, fun hf => hf, Lies.of_heap hg h4⟩⟩
theorem ownsRow_set {w : World} {lo : Nat} {e : TypeId} {g n c : Nat} {xs : List Value} (h : w.ownsRow lo e 1 (.slice (some ⟨g, 0, none⟩) n c) n xs) {i : Nat} (hi : i < n) (x : Value) : (w.setCell ⟨g, i, none⟩ x).ownsRow lo e 1 (.slice (some ⟨g, 0, none⟩) n c) n (xs.set i x) := by
  refine ⟨by rw [List.length_set]; exact h.1, ?_⟩
  rcases h.2 with ⟨q, _⟩ | ⟨g', cap, cur, q, hlo, hg, h1, h2, h3, h4⟩
  · cases q
  · simp only [Value.slice.injEq, Option.some.injEq, Addr.mk.injEq] at q
    obtain ⟨⟨rfl, _⟩, _, rfl⟩ := q
    refine .inr ⟨g, c, cur.setIfInBounds i x, rfl, hlo, ?_, h1, h2, by simp [h3], ?_⟩
    · simp only [World.setCell, Array.getElem?_modify]
      simp [hg]
    · rw [Nat.mul_one] at h4 ⊢
      rw [Array.toList_setIfInBounds, ← h4, List.take_set]
theorem setCell_other {w : World} {g i k : Nat} {x : Value} (h : k ≠ g) : (w.setCell ⟨g, i, none⟩ x).heap[k]? = w.heap[k]? := Below.heap_setCell _ _ _ _ h
theorem setCell_size {w : World} {a : Addr} {x : Value} : (w.setCell a x).heap.size = w.heap.size := by simp [World.setCell]
end Go.RR
namespace Go.RR
open Go Go.Proofs Go.RowKit

theorem set_getD {l : List (List Int)} {i : Nat} {r : List Int} (j : Nat) (hi : i < l.length) : (l.set i r).getD j [] = if j = i then r else l.getD j [] := by
  rw [List.getD_eq_getElem?_getD, List.getD_eq_getElem?_getD]
  by_cases e : j = i
  · subst e; simp [hi]
  · rw [if_neg e, List.getElem?_set_ne (by omega)]
theorem set_get {vs : List Value} {i j : Nat} {x u : Value} (h : (vs.set i x)[j]? = some u) : (j = i ∧ u = x) ∨ (j ≠ i ∧ vs[j]? = some u) := by
  by_cases e : j = i
  · subst e
    rw [List.getElem?_set] at h
    simp only [if_true] at h
    split at h
    · exact .inl ⟨rfl, (Option.some.inj h).symm⟩
    · cases h
  · rw [List.getElem?_set_ne (by omega)] at h
    exact .inr ⟨e, h⟩
theorem set_mem {vs : List Value} {i : Nat} {x u : Value} (h : u ∈ vs.set i x) : u = x ∨ ∃ j, j ≠ i ∧ vs[j]? = some u := by
  obtain ⟨j, hj⟩ := List.mem_iff_getElem?.1 h
  rcases set_get hj with ⟨_, h⟩ | ⟨h1, h2⟩
  · exact .inl h
  · exact .inr ⟨j, h1, h2⟩
/-- A row is put in the place of another one. -/
theorem NT.set {w w1 : World} {lo : Nat} {l : List (List Int)} {vs : List Value} {i gB n cB : Nat} {u u' : Value} {r : List Int} (h : NT w lo l (.slice (some ⟨gB, 0, none⟩) n cB) vs) (hi : vs[i]? = some u)
    (hown : w1.ownsRow lo 2 1 u' r.length (r.map (Value.int .i64))) (hform : ∃ g c, u' = .slice (some ⟨g, 0, none⟩) r.length c) (hk : ∀ k, k < w.heap.size → u.ownBlock ≠ some k → w1.heap[k]? = w.heap[k]?)
    (hat : ∀ g, u'.ownBlock = some g → u.ownBlock = some g ∨ w.heap.size ≤ g) : NT (w1.setCell ⟨gB, i, none⟩ u') lo (l.set i r) (.slice (some ⟨gB, 0, none⟩) n cB) (vs.set i u') := by
  have hil : i < l.length := by rw [← h.len]; exact (List.getElem?_eq_some_iff.1 hi).1
  have hum : u ∈ vs := List.mem_of_getElem? hi
  have hn : n = l.length := by
    rcases h.own.2 with ⟨q, _⟩ | ⟨_, _, _, q, _⟩
    · cases q
    · cases q; rfl
  subst hn
  have huB : u.ownBlock ≠ some gB := fun e => h.apart u hum gB e rfl
  have hBlt : gB < w.heap.size := (ownsRow_lt h.own (g := gB) rfl).2
  have hu'B : u'.ownBlock ≠ some gB := fun e => by
    rcases hat gB e with q | q
    · exact huB q
    · omega
  have hothers : ∀ (j : Nat) (x : Value), j ≠ i → vs[j]? = some x → ∀ g, x.ownBlock = some g → u'.ownBlock ≠ some g := fun j x hj hx g hg e => by
    rcases hat g e with q | q
    · exact h.sep j i x u hj hx hi g hg q
    · have := (h.lt (.inr ⟨x, List.mem_of_getElem? hx, hg⟩)).2; omega
  refine ⟨?_, fun j x hx => ?_, fun j j' x x' hjj hx hx' g hg e => ?_, fun x hx g hg e => ?_⟩
  · rw [List.length_set]
    exact ownsRow_set (ownsRow_keep h.own fun g hg => hk g (ownsRow_lt h.own hg).2 (by cases hg; exact huB)) hil u'
  · rw [set_getD j hil]
    rcases set_get hx with ⟨rfl, rfl⟩ | ⟨hj, hx⟩
    · rw [if_pos rfl]
      exact ⟨ownsRow_keep hown fun g hg => setCell_other fun e => hu'B (e ▸ hg), hform⟩
    · rw [if_neg hj]
      have hr := h.row j x hx
      refine ⟨ownsRow_keep hr.1 fun g hg => ?_, hr.2⟩
      have hg2 := (ownsRow_lt hr.1 hg).2
      rw [setCell_other fun e => h.apart x (List.mem_of_getElem? hx) g hg (by rw [e]; rfl), hk g hg2 fun e => h.sep j i x u hj hx hi g hg e]
  · rcases set_get hx with ⟨a1, a2⟩ | ⟨hj, hx2⟩
    · rcases set_get hx' with ⟨a3, a4⟩ | ⟨hj', hx3⟩
      · omega
      · exact hothers j' x' hj' hx3 g e (a2 ▸ hg)
    · rcases set_get hx' with ⟨a3, a4⟩ | ⟨hj', hx3⟩
      · exact hothers j x hj hx2 g hg (a4 ▸ e)
      · exact h.sep j j' x x' hjj hx2 hx3 g hg e
  · rcases set_mem hx with rfl | ⟨j, hj, hx⟩
    · have : gB = g := Option.some.inj e
      exact hu'B (this ▸ hg)
    · exact h.apart x (List.mem_of_getElem? hx) g hg e
/-- A piece more in a bar. -/
theorem NT.put {w w1 : World} {lo : Nat} {l : List (List Int)} {vs : List Value} {i gB n cB g cap : Nat} {u : Value} {k : Int} {o : Obj} (h : NT w lo l (.slice (some ⟨gB, 0, none⟩) n cB) vs) (hi : vs[i]? = some u)
    (hown : w1.ownsRow lo 2 1 (.slice (some ⟨g, 0, none⟩) ((l.getD i []).length + 1) cap) ((l.getD i []).length + 1) ((l.getD i []).map (Value.int .i64) ++ [.int .i64 k]))
    (hgrow : (w.alloc o).grownBy w1 u.ownBlock) (hat : u.ownBlock = some g ∨ g = w.heap.size + 1) :
    NT (w1.setCell ⟨gB, i, none⟩ (.slice (some ⟨g, 0, none⟩) ((l.getD i []).length + 1) cap)) lo (putB l i k) (.slice (some ⟨gB, 0, none⟩) n cB) (vs.set i (.slice (some ⟨g, 0, none⟩) ((l.getD i []).length + 1) cap)) := by
  refine NT.set (r := l.getD i [] ++ [k]) h hi (by rw [List.length_append, List.map_append]; exact hown) ⟨g, cap, by rw [List.length_append]; rfl⟩ (fun q hq hne => ?_) fun g' hg' => ?_
  · have hsz := alloc_size w o
    rw [hgrow.block q (by omega) fun e => hne e.symm]
    exact Below.heap_alloc w o q hq
  · have e : g = g' := Option.some.inj hg'
    subst e
    rcases hat with hat | hat
    · exact .inl hat
    · exact .inr (by omega)
/-- A piece less in a bar. -/
theorem NT.cut {w : World} {lo : Nat} {l : List (List Int)} {vs : List Value} {i gB n cB g c : Nat} {r : List Int} {k : Int} (h : NT w lo l (.slice (some ⟨gB, 0, none⟩) n cB) vs) (hr : l.getD i [] = r ++ [k]) (hi : vs[i]? = some (.slice (some ⟨g, 0, none⟩) (r.length + 1) c)) :
    NT (w.setCell ⟨gB, i, none⟩ (.slice (some ⟨g, 0, none⟩) r.length c)) lo (l.set i r) (.slice (some ⟨gB, 0, none⟩) n cB) (vs.set i (.slice (some ⟨g, 0, none⟩) r.length c)) := by
  refine NT.set (w1 := w) h hi ?_ ⟨g, c, rfl⟩ (fun _ _ _ => rfl) fun g' hg' => .inl hg'
  have h1 := (h.row i _ hi).1
  rw [hr] at h1
  refine ⟨by simp, ?_⟩
  rcases h1.2 with ⟨q, _⟩ | ⟨g', cap, cur, q, hlo, hg, q1, q2, q3, q4⟩
  · cases q
  · simp only [Value.slice.injEq, Option.some.injEq, Addr.mk.injEq] at q
    obtain ⟨⟨rfl, _⟩, _, rfl⟩ := q
    rw [List.length_append] at q1
    refine .inr ⟨g, c, cur, rfl, hlo, hg, by omega, q2, q3, ?_⟩
    have := congrArg (List.take (r.length * 1)) q4
    rw [List.take_take, List.map_append, List.take_append_of_le_length (by simp), Nat.min_eq_left (by simp)] at this
    rw [this]
    exact List.take_of_length_le (by simp)
/-- A bar more. -/
theorem NT.snoc {w w0 w1 : World} {lo : Nat} {l : List (List Int)} {v : Value} {vs : List Value} {g cap gr : Nat} {k : Int} {o : Obj} (hlo : lo ≤ w.heap.size) (h : NT w lo l v vs) (hw0 : w0 = w.alloc (.cells #[.int .i64 k] 2)) (hgr : gr = w.heap.size)
    (hown : w1.ownsRow lo 28 1 (.slice (some ⟨g, 0, none⟩) (l.length + 1) cap) (l.length + 1) (vs ++ [.slice (some ⟨gr, 0, none⟩) 1 1]))
    (hgrow : (w0.alloc o).grownBy w1 v.ownBlock) (hat : v.ownBlock = some g ∨ g = w.heap.size + 2) :
    NT w1 lo (l ++ [[k]]) (.slice (some ⟨g, 0, none⟩) (l.length + 1) cap) (vs ++ [.slice (some ⟨gr, 0, none⟩) 1 1]) := by
  subst hw0 hgr
  have hs0 := alloc_size w (.cells #[.int .i64 k] 2)
  have hs1 := alloc_size (w.alloc (.cells #[.int .i64 k] 2)) o
  have hl := h.len
  have hk : ∀ q, q < w.heap.size → v.ownBlock ≠ some q → w1.heap[q]? = w.heap[q]? := fun q hq hne => by
    rw [hgrow.block q (by omega) fun e => hne e.symm, Below.heap_alloc _ o q (by omega), Below.heap_alloc w _ q hq]
  have hvn : v.ownBlock ≠ some w.heap.size := fun e => by have := (h.lt (.inl e)).2; omega
  have hnew : w1.heap[w.heap.size]? = some (.cells #[.int .i64 k] 2) := by
    rw [hgrow.block w.heap.size (by omega) fun e => hvn e.symm, Below.heap_alloc _ o _ (by omega)]
    exact alloc_at w _
  have at_ : ∀ (i : Nat) (x : Value), (vs ++ [.slice (some ⟨w.heap.size, 0, none⟩) 1 1])[i]? = some x → (i < vs.length ∧ vs[i]? = some x) ∨ (i = vs.length ∧ x = .slice (some ⟨w.heap.size, 0, none⟩) 1 1) := by
    intro i x hx
    rcases Nat.lt_or_ge i vs.length with hi | hi
    · exact .inl ⟨hi, by rw [List.getElem?_append_left hi] at hx; exact hx⟩
    · rw [List.getElem?_append_right hi] at hx
      obtain ⟨q, hq⟩ : ∃ q, i - vs.length = q := ⟨_, rfl⟩
      rw [hq] at hx
      cases q with
      | zero => exact .inr ⟨by omega, (Option.some.inj hx).symm⟩
      | succ q => cases hx
  have hg : ∀ q, q < w.heap.size + 1 → (∀ g', v.ownBlock = some g' → g' ≠ q) → g ≠ q := fun q hq hne e => by
    rcases hat with hat | hat
    · exact hne g hat e
    · omega
  refine ⟨by rw [List.length_append]; exact hown, fun i x hx => ?_, fun i j x x' hij hx hx' q hq e => ?_, fun x hx q hq e => ?_⟩
  · rcases at_ i x hx with ⟨hi, hx⟩ | ⟨rfl, rfl⟩
    · rw [show (l ++ [[k]]).getD i [] = l.getD i [] by rw [List.getD_eq_getElem?_getD, List.getElem?_append_left (by omega), ← List.getD_eq_getElem?_getD]]
      have hr := h.row i x hx
      exact ⟨ownsRow_keep hr.1 fun q hq => hk q (ownsRow_lt hr.1 hq).2 (h.apart x (List.mem_of_getElem? hx) q hq), hr.2⟩
    · rw [show (l ++ [[k]]).getD vs.length [] = [k] by rw [List.getD_eq_getElem?_getD, List.getElem?_append_right (by omega), hl, Nat.sub_self]; rfl]
      exact ⟨⟨rfl, .inr ⟨w.heap.size, 1, _, rfl, hlo, hnew, Nat.le_refl _, by decide, rfl, rfl⟩⟩, _, _, rfl⟩
  · rcases at_ i x hx with ⟨hi, hx⟩ | ⟨rfl, rfl⟩
    · rcases at_ j x' hx' with ⟨hj, hx'⟩ | ⟨rfl, rfl⟩
      · exact h.sep i j x x' hij hx hx' q hq e
      · have := (h.lt (.inr ⟨x, List.mem_of_getElem? hx, hq⟩)).2
        have e : w.heap.size = q := Option.some.inj e
        omega
    · rcases at_ j x' hx' with ⟨hj, hx'⟩ | ⟨rfl, rfl⟩
      · have := (h.lt (.inr ⟨x', List.mem_of_getElem? hx', e⟩)).2
        have hq : w.heap.size = q := Option.some.inj hq
        omega
      · exact hij rfl
  · have e : g = q := Option.some.inj e
    rcases List.mem_append.1 hx with hx | hx
    · have h1 := (h.lt (.inr ⟨x, hx, hq⟩)).2
      exact hg q (by omega) (fun g' hg' e' => h.apart x hx q hq (e' ▸ hg')) e
    · rw [List.mem_singleton] at hx
      subst hx
      have hq : w.heap.size = q := Option.some.inj hq
      exact hg q (by omega) (fun g' hg' e' => by have := (h.lt (.inl hg')).2; omega) e
/-- A bar less. -/
theorem NT.pop {w : World} {lo : Nat} {l : List (List Int)} {vs : List Value} {g n c : Nat} {r : List Int} (h : NT w lo (l ++ [r]) (.slice (some ⟨g, 0, none⟩) n c) vs) : NT w lo l (.slice (some ⟨g, 0, none⟩) l.length c) (vs.take l.length) := by
  have hlen := h.len
  rw [List.length_append] at hlen
  have tk : ∀ (i : Nat) (x : Value), (vs.take l.length)[i]? = some x → i < l.length ∧ vs[i]? = some x := fun i x hx => by
    rw [List.getElem?_take] at hx
    by_cases hi : i < l.length
    · rw [if_pos hi] at hx; exact ⟨hi, hx⟩
    · rw [if_neg hi] at hx; cases hx
  refine ⟨⟨by simp at hlen ⊢; omega, ?_⟩, fun i x hx => ?_, fun i j x x' hij hx hx' => h.sep i j x x' hij (tk i x hx).2 (tk j x' hx').2, fun x hx => h.apart x (List.mem_of_mem_take hx)⟩
  · rcases h.own.2 with ⟨q, _⟩ | ⟨g', cap, cur, q, hlo, hg, q1, q2, q3, q4⟩
    · cases q
    · simp only [Value.slice.injEq, Option.some.injEq, Addr.mk.injEq] at q
      obtain ⟨⟨rfl, _⟩, _, rfl⟩ := q
      rw [List.length_append, List.length_singleton] at q1 q4
      refine .inr ⟨g, c, cur, rfl, hlo, hg, by omega, q2, q3, ?_⟩
      rw [← q4, List.take_take]
      congr 1
      omega
  · obtain ⟨hi, hx⟩ := tk i x hx
    have hr := h.row i x hx
    rwa [show (l ++ [r]).getD i [] = l.getD i [] by rw [List.getD_eq_getElem?_getD, List.getElem?_append_left (by omega), ← List.getD_eq_getElem?_getD]] at hr
end Go.RR
