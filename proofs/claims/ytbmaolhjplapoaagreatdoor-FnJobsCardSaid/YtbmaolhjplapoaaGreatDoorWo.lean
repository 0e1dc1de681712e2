/- Plain facts of jobs: the order, what valid jobs are. -/
import Derived.Test.YtbmaolhjplapoaaGreatDoorFa
import Derived.Test.YtbmaolhjplapoaaGreatDoorRy
set_option linter.unusedVariables false
set_option linter.unusedSimpArgs false
namespace Go.RR
open Go
abbrev Job := Int × Int
abbrev JobsOK (l : List Job) : Prop := ∀ x ∈ l, (-128 ≤ x.1 ∧ x.1 ≤ 127) ∧ (0 ≤ x.2 ∧ x.2 ≤ 65535)
theorem wu16 (n : Int) : 0 ≤ IntKind.wrap .u16 n ∧ IntKind.wrap .u16 n ≤ 65535 := by
 have : IntKind.wrap .u16 n = n % 65536 := by simp [IntKind.wrap, IntKind.bits, IntKind.signed]
 omega
theorem and1 {x : Int} (h : 0 ≤ x) : bAnd .u16 x 1 = x % 2 := by
 unfold bAnd
 have e : ((BitVec.ofInt IntKind.u16.bits x &&& BitVec.ofInt IntKind.u16.bits 1).toNat : Int) = x % 2 := by
  show ((BitVec.ofInt 16 x &&& BitVec.ofInt 16 1).toNat : Int) = x % 2
  rw [BitVec.toNat_and]
  have h1 : (BitVec.ofInt 16 1).toNat = 1 := rfl
  rw [h1, Nat.and_one_is_mod, BitVec.toNat_ofInt]
  omega
 rw [e]
 exact IntWalk.u16_in _ (by omega)
theorem shr_range {x : Int} {y : Int} (h : 0 ≤ x) : 0 ≤ bShr .u16 x y ∧ bShr .u16 x y ≤ x := by
 unfold bShr
 have hp : (0 : Int) < 2 ^ min y.toNat IntKind.u16.bits := Int.pow_pos (by decide)
 rw [Int.fdiv_eq_ediv_of_nonneg x (Int.le_of_lt hp)]
 exact ⟨Int.ediv_nonneg h (Int.le_of_lt hp), Int.ediv_le_self _ h⟩
theorem u64n {k : Nat} (h : k ≤ 1000000000) : IntKind.wrap .u64 (k : Int) = k := IntWalk.u64_in _ (by omega)
theorem dlt0 (k : Nat) : decide ((k : Int) < 0) = false := decide_eq_false (by omega)
noncomputable def ready (l : List Job) (done : Int) (k : Nat) : Bool := cond ((bShr .u16 done k) % 2 == 0) (bAndNot .u16 (l.getD k (0, 0)).2 done == 0) false
noncomputable def pick (l : List Job) (done : Int) : Option Nat := (List.range' 0 l.length).find? (ready l done)
noncomputable def ordN (l : List Job) : Nat → Int → List Int → List Int × Bool
 | 0, _, out => (out, true)
 | k + 1, done, out => match pick l done with
  | none => (out, false)
  | some j => ordN l k (bOr .u16 done (bShl .u16 1 j)) (out ++ [(j : Int)])
theorem pick_lt {l : List Job} {done : Int} {j : Nat} (h : pick l done = some j) : j < l.length := by
 have := List.mem_range'_1.1 (List.mem_of_find?_eq_some h)
 omega
theorem order_1 {l : List Job} {done : Int} {k : Nat} (hd : 0 ≤ done) (hk : k < l.length) : s_q1p k done l = some (ready l done k) := by
 unfold s_q1p ready
 rw [dlt0, cond_false, and1 (shr_range hd).1, inB_nat hk, toNat_nat]
 cases (bShr .u16 done k) % 2 == 0 <;> rfl
theorem indices_eq {l : List Job} (hn : l.length ≤ 12) : s_q1n l = some ((List.range' 0 l.length).map fun i : Nat => (i : Int)) := by
 unfold s_q1n f_q1n_run3
 have key := run_count (step := fun x => f_q1n_n3 x.1 x.2.1 x.2.2) (τ := Unit) l.length (fun i _ => (((l.length : Nat) : Int), (i : Int), (List.range' 0 i).map fun i : Nat => (i : Int))) (fun _ _ => ()) ((List.range' 0 l.length).map fun i : Nat => (i : Int)) () (by omega) ?_ ?_
 ·exact key
 ·intro i _ hi
  show f_q1n_n3 (l.length : Nat) i ((List.range' 0 i).map fun i : Nat => (i : Int)) = _
  unfold f_q1n_n3
  rw [lt_true hi, fits_small (by simp; omega), succ64 (by omega)]
  simp only [cond_true]
  rw [List.range'_1_concat, List.map_append]
  simp
 ·show f_q1n_n3 (l.length : Nat) (l.length : Nat) ((List.range' 0 l.length).map fun i : Nat => (i : Int)) = _
  unfold f_q1n_n3
  rw [lt_neg, cond_false]
theorem index_eq {l : List Job} {done : Int} (hn : l.length ≤ 12) (hd : 0 ≤ done) : s_q08 ((List.range' 0 l.length).map fun i : Nat => (i : Int)) done l = some (match pick l done with | some j => (j : Int) | none => -1) := by
 unfold s_q08 f_q08_run2
 have hlen : ((List.range' 0 l.length).map fun i : Nat => (i : Int)).length = l.length := by simp
 rw [hlen]
 have hs1 : ∀ i, i < l.length → f_q08_n2 (l.length : Nat) i ((List.range' 0 l.length).map fun i : Nat => (i : Int)) done l = some (cond (ready l done i) (Sum.inr (i : Int)) (Sum.inl (((l.length : Nat) : Int), ((i + 1 : Nat) : Int), (List.range' 0 l.length).map (fun i : Nat => (i : Int)), done, l))) := by
  intro i hi
  unfold f_q08_n2
  have hg : ((List.range' 0 l.length).map fun i : Nat => (i : Int)).getD i 0 = (i : Int) := by
   rw [List.getD_eq_getElem?_getD, List.getElem?_map, List.getElem?_range' hi]
   simp
  rw [hlen, lt_true hi, inB_nat hi, toNat_nat, hg, order_1 hd hi, succ64 (by omega)]
  simp only [cond_true, Option.bind]
  cases ready l done i <;> rfl
 have he1 : f_q08_n2 (l.length : Nat) (l.length : Nat) ((List.range' 0 l.length).map fun i : Nat => (i : Int)) done l = some (Sum.inr (-1)) := by
  unfold f_q08_n2
  rw [lt_neg, cond_false]
 obtain ⟨r, h1, _, h3⟩ := run_idx (step := fun x => f_q08_n2 x.1 x.2.1 x.2.2.1 x.2.2.2.1 x.2.2.2.2) l.length (fun i => (((l.length : Nat) : Int), (i : Int), (List.range' 0 l.length).map (fun i : Nat => (i : Int)), done, l)) (ready l done) hs1 he1 l.length 0 FU (by omega) (FU_big (pow_big (by omega)))
 have h1 : iter (fun x => f_q08_n2 x.1 x.2.1 x.2.2.1 x.2.2.2.1 x.2.2.2.2) FU (((l.length : Nat) : Int), 0, (List.range' 0 l.length).map (fun i : Nat => (i : Int)), done, l) = some r := h1
 rw [h1, h3]; rfl
theorem iorder_run {l : List Job} (hn : l.length ≤ 12) : ∀ (k i m : Nat) (out : List Int) (done : Int), i + k = l.length → k < m → 0 ≤ done → out.length ≤ i → iter (fun x => f_q25_n3 x.1 x.2.1 x.2.2.1 x.2.2.2.1 x.2.2.2.2) m (((l.length : Nat) : Int), (i : Int), l, out, done) = some (ordN l k done out).1
 | 0, i, m + 1, out, done, h, hm, hd, ho => by
  obtain rfl : i = l.length := h
  unfold iter f_q25_n3
  rw [lt_neg, cond_false]
  rfl
 | k + 1, i, m + 1, out, done, h, hm, hd, ho => by
  unfold iter
  have e : f_q25_n3 (l.length : Nat) i l out done = some (match pick l done with | some j => Sum.inl (((l.length : Nat) : Int), ((i + 1 : Nat) : Int), l, out ++ [(j : Int)], bOr .u16 done (bShl .u16 1 j)) | none => Sum.inr out) := by
   unfold f_q25_n3
   rw [lt_true (by omega), indices_eq hn, succ64 (by omega)]
   simp only [cond_true, Option.bind, index_eq hn hd]
   cases pick l done with
   | none => rfl
   | some j =>
    dsimp only
    rw [dlt0, cond_false, fits_small (by simp; omega)]
    rfl
  rw [e]
  unfold ordN
  cases pick l done with
  | none => rfl
  | some j =>
   have := iorder_run hn k (i + 1) m (out ++ [(j : Int)]) (bOr .u16 done (bShl .u16 1 j)) (by omega) (by omega) (wu16 _).1 (by simp; omega)
   exact this
 | _, _, 0, _, _, _, hm, _, _ => by omega
theorem iorder_eq {l : List Job} (hn : l.length ≤ 12) : s_q25 l = some (ordN l l.length 0 []).1 :=
 iorder_run hn l.length 0 FU [] 0 (by omega) (FU_big (pow_big (by omega))) (by omega) (by simp)
noncomputable def nxOf (l : List Job) (done : Int) (q : Nat) : Int := match (List.range' q (l.length - q)).find? (ready l done) with
 | some j => (j : Int)
 | none => -1
theorem sdown {l : List Job} {done : Int} {out : List Int} (hn : l.length ≤ 12) (hd : 0 ≤ done) (ho : out.length ≤ 12) : ∀ (q m : Nat), q ≤ l.length → q < m →
  iter (fun x => f_q1g_n6 x.1 x.2.1 x.2.2.1 x.2.2.2.1 x.2.2.2.2) m (done, nxOf l done q, (q : Int) - 1, l, out) = some (match pick l done with | none => Sum.inr ([], false) | some j => Sum.inl (bOr .u16 done (bShl .u16 1 j), l, out ++ [(j : Int)]))
 | 0, m + 1, hq, hm => by
  unfold iter
  have e : f_q1g_n6 done (nxOf l done 0) (((0 : Nat) : Int) - 1) l out = some (Sum.inr (match pick l done with | none => Sum.inr ([], false) | some j => Sum.inl (bOr .u16 done (bShl .u16 1 j), l, out ++ [(j : Int)]))) := by
   unfold f_q1g_n6
   rw [decide_eq_false (show ¬ (((0 : Nat) : Int) - 1 ≥ 0) by omega), cond_false]
   unfold nxOf pick
   cases hf : (List.range' 0 l.length).find? (ready l done) with
   | none =>
    rfl
   | some j =>
    have hj := pick_lt (l := l) (done := done) (j := j) hf
    dsimp only
    rw [dlt0, u64n (by omega), dlt0, cond_false, cond_false, fits_small (by simp; omega)]
    rfl
  rw [e]
 | q + 1, m + 1, hq, hm => by
  unfold iter
  have e : f_q1g_n6 done (nxOf l done (q + 1)) (((q + 1 : Nat) : Int) - 1) l out = some (Sum.inl (done, nxOf l done q, (q : Int) - 1, l, out)) := by
   have hq' : ((q + 1 : Nat) : Int) - 1 = (q : Int) := by omega
   rw [hq']
   unfold f_q1g_n6
   have hr : nxOf l done q = cond (ready l done q) (q : Int) (nxOf l done (q + 1)) := by
    unfold nxOf
    rw [show l.length - q = (l.length - (q + 1)) + 1 by omega, List.range'_succ, List.find?_cons]
    cases ready l done q <;> rfl
   rw [decide_eq_true (show (q : Int) ≥ 0 by omega), u64n (by omega), dlt0, inB_nat (show q < l.length by omega), toNat_nat, hr, IntWalk.i64_in ((q : Int) - 1) (by omega)]
   simp only [cond_true, cond_false]
   have ht : Int.tmod (bShr .u16 done q) 2 = (bShr .u16 done q) % 2 := Int.tmod_eq_emod_of_nonneg (shr_range hd).1
   rw [ht]
   unfold ready
   cases (bShr .u16 done q) % 2 == 0
   ·rfl
   ·cases bAndNot .u16 (l.getD q (0, 0)).2 done == 0 <;> rfl
  rw [e]
  exact sdown hn hd ho q m (by omega) (by omega)
 | _, 0, _, hm => by omega
theorem sorder_run {l : List Job} (hn : l.length ≤ 12) : ∀ (k m : Nat) (out : List Int) (done : Int), out.length + k = l.length → k < m → 0 ≤ done → iter (fun x => f_q1g_n3 x.1 x.2.1 x.2.2) m (done, l, out) = some (cond (ordN l k done out).2 ((ordN l k done out).1, true) ([], false))
 | 0, m + 1, out, done, h, hm, hd => by
  unfold iter f_q1g_n3
  rw [show out.length = l.length from h, lt_neg, cond_false]
  rfl
 | k + 1, m + 1, out, done, h, hm, hd => by
  unfold iter
  have e : f_q1g_n3 done l out = some (match pick l done with | none => Sum.inr ([], false) | some j => Sum.inl (bOr .u16 done (bShl .u16 1 j), l, out ++ [(j : Int)])) := by
   unfold f_q1g_n3
   rw [lt_true (show out.length < l.length by omega), cond_true, IntWalk.i64_in (((l.length : Nat) : Int) - 1) (by omega)]
   unfold f_q1g_run6
   have hnx : nxOf l done l.length = -1 := by
    unfold nxOf
    rw [Nat.sub_self]; rfl
   have := sdown (out := out) hn hd (by omega) l.length FU (Nat.le_refl _) (FU_big (pow_big (by omega)))
   rw [hnx] at this
   exact this
  rw [e]
  unfold ordN
  cases pick l done with
  | none => rfl
  | some j =>
   have := sorder_run hn k m (out ++ [(j : Int)]) (bOr .u16 done (bShl .u16 1 j)) (by simp; omega) (by omega) (wu16 _).1
   exact this
 | _, 0, _, _, _, hm, _ => by omega
theorem sorder_eq {l : List Job} (hn : l.length ≤ 12) : s_q1g l = some (cond (ordN l l.length 0 []).2 ((ordN l l.length 0 []).1, true) ([], false)) :=
 sorder_run hn l.length FU [] 0 (by simp) (FU_big (pow_big (by omega))) (by omega)
theorem ordN_len (l : List Job) : ∀ (k : Nat) (done : Int) (out : List Int), (ordN l k done out).1.length ≤ out.length + k ∧ (decide ((ordN l k done out).1.length = out.length + k) = (ordN l k done out).2)
 | 0, done, out => by simp [ordN]
 | k + 1, done, out => by
  unfold ordN
  cases pick l done with
  | none => exact ⟨by simp, decide_eq_false (by show ¬ out.length = out.length + (k + 1); omega)⟩
  | some j =>
   obtain ⟨h1, h2⟩ := ordN_len l k (bOr .u16 done (bShl .u16 1 j)) (out ++ [(j : Int)])
   dsimp only
   rw [← h2]
   simp only [List.length_append, List.length_cons, List.length_nil] at h1 ⊢
   refine ⟨by omega, decide_eq_decide.2 (by omega)⟩
theorem ordN_mem (l : List Job) : ∀ (k : Nat) (done : Int) (out : List Int), (∀ x ∈ out, ∃ j : Nat, j < l.length ∧ x = (j : Int)) → ∀ x ∈ (ordN l k done out).1, ∃ j : Nat, j < l.length ∧ x = (j : Int)
 | 0, done, out, h => h
 | k + 1, done, out, h => by
  unfold ordN
  cases hp : pick l done with
  | none => exact h
  | some j =>
   refine ordN_mem l k _ _ fun x hx => ?_
   rcases List.mem_append.1 hx with hx | hx
   ·exact h x hx
   ·simp at hx; exact ⟨j, pick_lt hp, hx⟩
noncomputable def jobP (n : Nat) (x : Job) : Bool := s_q27 (IntKind.wrap .i64 x.1) 1 30 && !(bShr .u16 x.2 n != 0)
noncomputable def validB (l : List Job) : Bool := decide (l.length ≤ 12) && (l.all (jobP l.length) && (ordN l l.length 0 []).2)
theorem any_not_all {α : Type} (p : α → Bool) : ∀ l : List α, (l.any fun x => !p x) = !l.all p
 | [] => rfl
 | x :: m => by rw [List.any_cons, List.all_cons, any_not_all p m]; cases p x <;> rfl
theorem sok_eq (l : List Job) (hm : l.length ≤ 100000000) : s_q2a l = some (validB l) := by
 unfold s_q2a validB
 by_cases hn : l.length ≤ 12
 ·rw [decide_eq_false (show ¬ (((l.length : Nat) : Int) > 12) by omega), decide_eq_true hn, cond_false, Bool.true_and]
  unfold f_q2a_run4
  have key := run_allL (step := fun x => f_q2a_n4 x.1 x.2) ((0, 0) : Job) l (fun i => ((i : Int), l)) (jobP l.length) (ordN l l.length 0 []).2 false (by omega) ?_ ?_
  ·refine key.trans ?_
   cases l.all (jobP l.length) <;> rfl
  ·intro i hi _
   show f_q2a_n4 i l = _
   unfold f_q2a_n4 jobP
   rw [lt_true hi, inB_nat hi, toNat_nat, u64n (by omega), dlt0, succ64 (by omega)]
   simp only [cond_true, cond_false]
   cases s_q27 (IntKind.wrap .i64 (l.getD i (0, 0)).1) 1 30
   ·rfl
   ·cases bShr .u16 (l.getD i (0, 0)).2 (l.length : Nat) != 0 <;> rfl
  ·show f_q2a_n4 (l.length : Nat) l = _
   unfold f_q2a_n4
   rw [lt_neg, cond_false, sorder_eq hn]
   cases (ordN l l.length 0 []).2 <;> rfl
 ·rw [decide_eq_true (show (((l.length : Nat) : Int) > 12) by omega), decide_eq_false hn]
  rfl
theorem iok_eq (l : List Job) (hm : l.length ≤ 100000000) : s_q12 l = some (validB l) := by
 unfold s_q12 t_q12 validB
 try dsimp (config := {proj := false, iota := false, eta := false}) only
 by_cases hn : l.length ≤ 12
 ·rw [decide_eq_true (show (((l.length : Nat) : Int) ≤ 12) by omega), decide_eq_true hn, cond_true, Bool.true_and]
  have hs1 : ∀ i, i < l.length → f_q07_n2 (l.length : Nat) i l (l.length : Nat) = some (cond (!(jobP l.length (l.getD i (0, 0)))) (Sum.inr (i : Int)) (Sum.inl (((l.length : Nat) : Int), ((i + 1 : Nat) : Int), l, ((l.length : Nat) : Int)))) := by
   intro i hi
   unfold f_q07_n2 s_q0m jobP
   rw [lt_true hi, inB_nat hi, toNat_nat, dlt0, succ64 (by omega)]
   simp only [cond_true, cond_false]
   have e : s_q1y (IntKind.wrap .i64 (l.getD i (0, 0)).1) 1 30 = s_q27 (IntKind.wrap .i64 (l.getD i (0, 0)).1) 1 30 := rfl
   rw [e]
   cases s_q27 (IntKind.wrap .i64 (l.getD i (0, 0)).1) 1 30
   ·rfl
   ·cases bShr .u16 (l.getD i (0, 0)).2 (l.length : Nat) != 0 <;> rfl
  have he1 : f_q07_n2 (l.length : Nat) (l.length : Nat) l (l.length : Nat) = some (Sum.inr (-1)) := by
   unfold f_q07_n2
   rw [lt_neg, cond_false]
  obtain ⟨r, h1, h2, _⟩ := run_idx (step := fun x => f_q07_n2 x.1 x.2.1 x.2.2.1 x.2.2.2) l.length (fun i => (((l.length : Nat) : Int), (i : Int), l, ((l.length : Nat) : Int))) (fun i => !(jobP l.length (l.getD i (0, 0)))) hs1 he1 l.length 0 FU (by omega) (FU_big (pow_big (by omega)))
  have h1 : iter (fun x => f_q07_n2 x.1 x.2.1 x.2.2.1 x.2.2.2) FU (((l.length : Nat) : Int), 0, l, ((l.length : Nat) : Int)) = some r := h1
  have hc : s_q02 l (l.length : Nat) = some (!(l.all (jobP l.length))) := by
   unfold s_q02 s_q07 f_q07_run2
   rw [h1]
   simp only [Option.bind]
   rw [h2, any_getD ((0, 0) : Job) l fun x => !(jobP l.length x)]
   exact congrArg some (any_not_all (jobP l.length) l)
  rw [hc, iorder_eq hn]
  simp only [Option.bind, Bool.not_not]
  have hlen := (ordN_len l l.length 0 []).2
  simp only [List.length_nil, Nat.zero_add] at hlen
  have e : ((((ordN l l.length 0 []).1.length : Nat) : Int) == ((l.length : Nat) : Int)) = (ordN l l.length 0 []).2 := by
   rw [← hlen]
   by_cases hq : (ordN l l.length 0 []).1.length = l.length
   ·rw [hq]; simp
   ·rw [decide_eq_false hq]
    have : ¬ (((ordN l l.length 0 []).1.length : Nat) : Int) = ((l.length : Nat) : Int) := by omega
    exact beq_eq_false_iff_ne.2 this
  rw [e]
  cases l.all (jobP l.length) <;> rfl
 ·rw [decide_eq_false (show ¬ (((l.length : Nat) : Int) ≤ 12) by omega), decide_eq_false hn]
  rfl
theorem valid_ord {l : List Job} (h : validB l = true) : l.length ≤ 12 ∧ (ordN l l.length 0 []).2 = true := by
 unfold validB at h
 simp only [Bool.and_eq_true, decide_eq_true_eq] at h
 exact ⟨h.1, h.2.2⟩
theorem mk_ok (n k : Nat) (h : n * k ≤ 140737488355328) : (decide (0 ≤ ((n : Nat) : Int)) && decide (((n : Nat) : Int) = ((n : Nat) : Int)) && fits ((Int.toNat ((n : Nat) : Int)) * k)) = true := by
 rw [toNat_nat, fits_small h]
 simp
end Go.RR
namespace Go.RR
open Go
noncomputable def waitsB (l : List Job) (i k : Nat) : Bool := (bShr .u16 (l.getD i (0, 0)).2 k) % 2 == 1
theorem after_nn {l : List Job} (hj : JobsOK l) {i : Nat} (hi : i < l.length) : 0 ≤ (l.getD i (0, 0)).2 := (hj _ (getD_mem' hi)).2.1
theorem swaits_eq {l : List Job} (hj : JobsOK l) {i k : Nat} (hi : i < l.length) (hk : k ≤ 1000000) : s_q1i l i k = some (waitsB l i k) := by
 unfold s_q1i waitsB
 rw [inB_nat hi, u64n (by omega), dlt0, toNat_nat]
 have ht : Int.tmod (bShr .u16 (l.getD i (0, 0)).2 k) 2 = (bShr .u16 (l.getD i (0, 0)).2 k) % 2 := Int.tmod_eq_emod_of_nonneg (shr_range (after_nn hj hi)).1
 rw [ht]; rfl
theorem iwaits_eq {l : List Job} (hj : JobsOK l) {i k : Nat} (hi : i < l.length) : s_q0z (l.getD i (0, 0)).1 (l.getD i (0, 0)).2 k = some (waitsB l i k) := by
 unfold s_q0z waitsB
 rw [dlt0, and1 (shr_range (after_nn hj hi)).1]; rfl
theorem max_eq (a b : Int) : s_q21 a b = max a b := by
 unfold s_q21
 by_cases h : a > b
 ·rw [decide_eq_true h, cond_true, Int.max_eq_left (by omega)]
 ·rw [decide_eq_false h, cond_false, Int.max_eq_right (by omega)]
noncomputable def stepE (l : List Job) (i : Nat) (st : List Int) (k : Nat) : List Int := cond (waitsB l i k) (st.set i (max (st.getD i 0) (IntKind.wrap .i64 (st.getD k 0 + IntKind.wrap .i64 (l.getD k (0, 0)).1)))) st
theorem stepE_len {l : List Job} {i k : Nat} {st : List Int} : (stepE l i st k).length = st.length := by
 unfold stepE
 cases waitsB l i k <;> simp
theorem foldE_len {l : List Job} {i : Nat} : ∀ (ks : List Nat) (st : List Int), (ks.foldl (stepE l i) st).length = st.length
 | [], st => rfl
 | k :: ks, st => by rw [List.foldl_cons, foldE_len ks, stepE_len]
noncomputable def earl (l : List Job) (ord : List Int) : List Int := ord.foldl (fun st x => (List.range' 0 l.length).foldl (stepE l x.toNat) st) (List.replicate l.length 0)
theorem sE_inner {l : List Job} (hj : JobsOK l) (hn : l.length ≤ 12) {ord : List Int} {o j : Nat} (hjl : j < l.length) (ho : o ≤ 1000) {st : List Int} (hst : st.length = l.length) :
  f_q0o_run8 ((o : Int), (j : Int), 0, l, ord, st) = some (Sum.inl (((o + 1 : Nat) : Int), l, ord, (List.range' 0 l.length).foldl (stepE l j) st)) := by
 unfold f_q0o_run8
 refine run_countI l.length (fun k (st : List Int) => ((o : Int), (j : Int), (k : Int), l, ord, st)) (stepE l j) (fun _ st => st.length = l.length) _ st (by omega) hst ?_ ?_
 ·intro k st hk hI
  refine ⟨?_, by rw [stepE_len]; exact hI⟩
  show f_q0o_n8 o j k l ord st = _
  unfold f_q0o_n8
  rw [lt_true hk, swaits_eq hj hjl (by omega), hI, inB_nat hjl, inB_nat hk, toNat_nat, toNat_nat, max_eq, succ64 (by omega)]
  simp only [cond_true, Option.bind]
  unfold stepE
  cases waitsB l j k <;> rfl
 ·intro _
  unfold f_q0o_n8
  rw [lt_neg, cond_false, succ64 (by omega)]
theorem iE_inner {l : List Job} (hj : JobsOK l) (hn : l.length ≤ 12) {ord : List Int} {o j : Nat} {m : Int} (hjl : j < l.length) (ho : o ≤ 1000) {st : List Int} (hst : st.length = l.length) :
  f_q1c_run6 ((j : Int), m, (o : Int), ((l.length : Nat) : Int), 0, l, st, ord) = some (Sum.inl (m, ((o + 1 : Nat) : Int), l, (List.range' 0 l.length).foldl (stepE l j) st, ord)) := by
 unfold f_q1c_run6
 refine run_countI l.length (fun k (st : List Int) => ((j : Int), m, (o : Int), ((l.length : Nat) : Int), (k : Int), l, st, ord)) (stepE l j) (fun _ st => st.length = l.length) _ st (by omega) hst ?_ ?_
 ·intro k st hk hI
  refine ⟨?_, by rw [stepE_len]; exact hI⟩
  show f_q1c_n6 j m o (l.length : Nat) k l st ord = _
  unfold f_q1c_n6 t_q1c_6
  try dsimp (config := {proj := false, iota := false, eta := false}) only
  rw [lt_true hk, inB_nat hjl, toNat_nat, iwaits_eq hj hjl, hI, inB_nat hjl, inB_nat hk, toNat_nat, succ64 (by omega)]
  simp only [cond_true, Option.bind]
  unfold stepE
  cases waitsB l j k <;> rfl
 ·intro _
  unfold f_q1c_n6 t_q1c_6
  try dsimp (config := {proj := false, iota := false, eta := false}) only
  rw [lt_neg, cond_false, succ64 (by omega)]
theorem sE_eq {l : List Job} (hj : JobsOK l) (hn : l.length ≤ 12) {ord : List Int} (hol : ord.length ≤ 12) (hor : ∀ x ∈ ord, ∃ j : Nat, j < l.length ∧ x = (j : Int)) : f_q0o_run4 (0, l, ord, List.replicate l.length 0) = some (earl l ord) := by
 unfold f_q0o_run4
 refine run_listI (0 : Int) ord (fun i (st : List Int) => ((i : Int), l, ord, st)) (fun st x => (List.range' 0 l.length).foldl (stepE l x.toNat) st) (fun _ st => st.length = l.length) _ (List.replicate l.length 0) (by omega) (by simp) ?_ ?_
 ·intro i st hi hm hI
  obtain ⟨j, hjl, ej⟩ := hor _ hm
  refine ⟨?_, by rw [foldE_len]; exact hI⟩
  show f_q0o_n4 i l ord st = _
  unfold f_q0o_n4
  rw [lt_true hi, inB_nat hi, toNat_nat, ej, sE_inner hj hn hjl (by omega) hI, toNat_nat]
  rfl
 ·intro _
  unfold f_q0o_n4
  rw [lt_neg, cond_false]
  rfl
theorem iE_eq {l : List Job} (hj : JobsOK l) (hn : l.length ≤ 12) {ord : List Int} (hol : ord.length ≤ 12) (hor : ∀ x ∈ ord, ∃ j : Nat, j < l.length ∧ x = (j : Int)) : f_q1c_run3 (((ord.length : Nat) : Int), 0, l, List.replicate l.length 0, ord) = some (earl l ord) := by
 unfold f_q1c_run3
 refine run_listI (0 : Int) ord (fun i (st : List Int) => (((ord.length : Nat) : Int), (i : Int), l, st, ord)) (fun st x => (List.range' 0 l.length).foldl (stepE l x.toNat) st) (fun _ st => st.length = l.length) _ (List.replicate l.length 0) (by omega) (by simp) ?_ ?_
 ·intro i st hi hm hI
  obtain ⟨j, hjl, ej⟩ := hor _ hm
  refine ⟨?_, by rw [foldE_len]; exact hI⟩
  show f_q1c_n3 (ord.length : Nat) i l st ord = _
  unfold f_q1c_n3 t_q1c_3
  try dsimp (config := {proj := false, iota := false, eta := false}) only
  rw [lt_true hi, inB_nat hi, toNat_nat, ej, iE_inner hj hn hjl (by omega) hI, toNat_nat]
  rfl
 ·intro _
  unfold f_q1c_n3 t_q1c_3
  try dsimp (config := {proj := false, iota := false, eta := false}) only
  rw [lt_neg, cond_false]
  rfl
theorem earl_len {l : List Job} : ∀ (ord : List Int), (earl l ord).length = l.length := by
 have : ∀ (ord : List Int) (st : List Int), (ord.foldl (fun st x => (List.range' 0 l.length).foldl (stepE l x.toNat) st) st).length = st.length := by
  intro ord
  induction ord with
  | nil => intro st; rfl
  | cons x ord ih => intro st; rw [List.foldl_cons, ih, foldE_len]
 intro ord
 unfold earl
 rw [this]; simp
theorem ord_len {l : List Job} : (ordN l l.length 0 []).1.length ≤ l.length := by
 have := (ordN_len l l.length 0 []).1
 simpa using this
theorem ord_mem {l : List Job} : ∀ x ∈ (ordN l l.length 0 []).1, ∃ j : Nat, j < l.length ∧ x = (j : Int) := ordN_mem l l.length 0 [] fun x hx => by simp at hx
noncomputable def stepB (l : List Job) (i : Nat) (st : List Int) (k : Nat) : List Int := cond (waitsB l i k) (st.set i (bOr .u16 (st.getD i 0) (st.getD k 0))) st
theorem stepB_len {l : List Job} {i k : Nat} {st : List Int} : (stepB l i st k).length = st.length := by
 unfold stepB
 cases waitsB l i k <;> simp
theorem foldB_len {l : List Job} {i : Nat} : ∀ (ks : List Nat) (st : List Int), (ks.foldl (stepB l i) st).length = st.length
 | [], st => rfl
 | k :: ks, st => by rw [List.foldl_cons, foldB_len ks, stepB_len]
noncomputable def outB (l : List Job) (st : List Int) (x : Int) : List Int := (List.range' 0 l.length).foldl (stepB l x.toNat) (st.set x.toNat (l.getD x.toNat (0, 0)).2)
theorem outB_len {l : List Job} {st : List Int} {x : Int} : (outB l st x).length = st.length := by
 unfold outB; rw [foldB_len]; simp
noncomputable def befo (l : List Job) (ord : List Int) : List Int := ord.foldl (outB l) (List.replicate l.length 0)
theorem sB_inner {l : List Job} (hj : JobsOK l) (hn : l.length ≤ 12) {ord : List Int} {o j : Nat} (hjl : j < l.length) (ho : o ≤ 1000) {st : List Int} (hst : st.length = l.length) :
  f_q14_run11 ((o : Int), (j : Int), 0, l, ord, st) = some (Sum.inl (((o + 1 : Nat) : Int), l, ord, (List.range' 0 l.length).foldl (stepB l j) st)) := by
 unfold f_q14_run11
 refine run_countI l.length (fun k (st : List Int) => ((o : Int), (j : Int), (k : Int), l, ord, st)) (stepB l j) (fun _ st => st.length = l.length) _ st (by omega) hst ?_ ?_
 ·intro k st hk hI
  refine ⟨?_, by rw [stepB_len]; exact hI⟩
  show f_q14_n11 o j k l ord st = _
  unfold f_q14_n11 t_q14_11
  try dsimp (config := {proj := false, iota := false, eta := false}) only
  rw [lt_true hk, swaits_eq hj hjl (by omega), hI, inB_nat hjl, inB_nat hk, toNat_nat, toNat_nat, succ64 (by omega)]
  simp only [cond_true, Option.bind]
  unfold stepB
  cases waitsB l j k <;> rfl
 ·intro _
  unfold f_q14_n11 t_q14_11
  try dsimp (config := {proj := false, iota := false, eta := false}) only
  rw [lt_neg, cond_false, succ64 (by omega)]
theorem iB_inner {l : List Job} (hj : JobsOK l) (hn : l.length ≤ 12) {ord : List Int} {o j : Nat} {m : Int} (hjl : j < l.length) (ho : o ≤ 1000) {st : List Int} (hst : st.length = l.length) :
  f_q0x_run9 ((j : Int), m, (o : Int), ((l.length : Nat) : Int), 0, l, st, ord) = some (Sum.inl (m, ((o + 1 : Nat) : Int), l, (List.range' 0 l.length).foldl (stepB l j) st, ord)) := by
 unfold f_q0x_run9
 refine run_countI l.length (fun k (st : List Int) => ((j : Int), m, (o : Int), ((l.length : Nat) : Int), (k : Int), l, st, ord)) (stepB l j) (fun _ st => st.length = l.length) _ st (by omega) hst ?_ ?_
 ·intro k st hk hI
  refine ⟨?_, by rw [stepB_len]; exact hI⟩
  show f_q0x_n9 j m o (l.length : Nat) k l st ord = _
  unfold f_q0x_n9 t_q0x_9
  try dsimp (config := {proj := false, iota := false, eta := false}) only
  rw [lt_true hk, inB_nat hjl, toNat_nat, iwaits_eq hj hjl, hI, inB_nat hjl, inB_nat hk, toNat_nat, succ64 (by omega)]
  simp only [cond_true, Option.bind]
  unfold stepB
  cases waitsB l j k <;> rfl
 ·intro _
  unfold f_q0x_n9 t_q0x_9
  try dsimp (config := {proj := false, iota := false, eta := false}) only
  rw [lt_neg, cond_false, succ64 (by omega)]
theorem sB_eq {l : List Job} (hj : JobsOK l) (hn : l.length ≤ 12) {ord : List Int} (hol : ord.length ≤ 12) (hor : ∀ x ∈ ord, ∃ j : Nat, j < l.length ∧ x = (j : Int)) : f_q14_run6 (0, l, ord, List.replicate l.length 0) = some (befo l ord, 0) := by
 unfold f_q14_run6
 refine run_listI (0 : Int) ord (fun i (st : List Int) => ((i : Int), l, ord, st)) (outB l) (fun _ st => st.length = l.length) _ (List.replicate l.length 0) (by omega) (by simp) ?_ ?_
 ·intro i st hi hm hI
  obtain ⟨j, hjl, ej⟩ := hor _ hm
  refine ⟨?_, by rw [outB_len]; exact hI⟩
  show f_q14_n6 i l ord st = _
  unfold f_q14_n6 t_q14_6
  try dsimp (config := {proj := false, iota := false, eta := false}) only
  rw [lt_true hi, inB_nat hi, toNat_nat, ej, hI, inB_nat hjl, toNat_nat, sB_inner hj hn hjl (by omega) (by simp [hI])]
  rfl
 ·intro _
  unfold f_q14_n6 t_q14_6
  try dsimp (config := {proj := false, iota := false, eta := false}) only
  rw [lt_neg, cond_false]
  rfl
theorem iB_eq {l : List Job} (hj : JobsOK l) (hn : l.length ≤ 12) {ord : List Int} (hol : ord.length ≤ 12) (hor : ∀ x ∈ ord, ∃ j : Nat, j < l.length ∧ x = (j : Int)) : f_q0x_run5 (((ord.length : Nat) : Int), 0, l, List.replicate l.length 0, ord) = some (befo l ord, 0) := by
 unfold f_q0x_run5
 refine run_listI (0 : Int) ord (fun i (st : List Int) => (((ord.length : Nat) : Int), (i : Int), l, st, ord)) (outB l) (fun _ st => st.length = l.length) _ (List.replicate l.length 0) (by omega) (by simp) ?_ ?_
 ·intro i st hi hm hI
  obtain ⟨j, hjl, ej⟩ := hor _ hm
  refine ⟨?_, by rw [outB_len]; exact hI⟩
  show f_q0x_n5 (ord.length : Nat) i l st ord = _
  unfold f_q0x_n5 t_q0x_5
  try dsimp (config := {proj := false, iota := false, eta := false}) only
  rw [lt_true hi, inB_nat hi, toNat_nat, ej, hI, inB_nat hjl, toNat_nat, iB_inner hj hn hjl (by omega) (by simp [hI])]
  rfl
 ·intro _
  unfold f_q0x_n5 t_q0x_5
  try dsimp (config := {proj := false, iota := false, eta := false}) only
  rw [lt_neg, cond_false]
  rfl
theorem befo_len {l : List Job} : ∀ (ord : List Int), (befo l ord).length = l.length := by
 have : ∀ (ord : List Int) (st : List Int), (ord.foldl (outB l) st).length = st.length := by
  intro ord
  induction ord with
  | nil => intro st; rfl
  | cons x ord ih => intro st; rw [List.foldl_cons, ih, outB_len]
 intro ord
 unfold befo
 rw [this]; simp
end Go.RR
namespace Go.RR
open Go
theorem k2 {i : Nat} (h : i ≤ 2000000) : IntKind.wrap .i64 (((1 + 2 * i : Nat) : Int) + 1) = ((2 + 2 * i : Nat) : Int) ∧ IntKind.wrap .i64 (((2 + 2 * i : Nat) : Int) + 1) = ((1 + 2 * (i + 1) : Nat) : Int) := by
 rw [IntWalk.i64_in (((1 + 2 * i : Nat) : Int) + 1) (by omega), IntWalk.i64_in (((2 + 2 * i : Nat) : Int) + 1) (by omega)]
 omega
theorem shl1 {q : Nat} (hq : q < 12) : bShl .u16 1 (q : Int) = ((2 ^ q : Nat) : Int) ∧ 1 ≤ 2 ^ q ∧ 2 ^ q ≤ 4096 := by
 have h1 : 2 ^ q ≤ 2 ^ 12 := Nat.pow_le_pow_right (by decide) (by omega)
 have h2 : 0 < 2 ^ q := Nat.pow_pos (by decide)
 have h1 : 2 ^ q ≤ 4096 := h1
 refine ⟨?_, h2, h1⟩
 unfold bShl
 have hm : min (Int.toNat (q : Int)) IntKind.u16.bits = q := by
  rw [toNat_nat]
  exact Nat.min_eq_left (by show q ≤ 16; omega)
 rw [hm, Int.one_mul, show ((2 : Int) ^ q) = ((2 ^ q : Nat) : Int) by rw [Int.natCast_pow]; rfl]
 exact IntWalk.u16_in _ (by omega)
theorem mask_eq {x : Int} (hx : 0 ≤ x ∧ x ≤ 65535) {q : Nat} (hq : q < 12) : bAnd .u16 x (IntKind.wrap .u16 (bShl .u16 1 (q : Int) - 1)) = Int.tmod x (bShl .u16 1 (q : Int)) := by
 obtain ⟨h1, h2, h3⟩ := shl1 hq
 rw [h1, IntWalk.u16_in (((2 ^ q : Nat) : Int) - 1) (by omega), Int.tmod_eq_emod_of_nonneg hx.1]
 unfold bAnd
 have e : ((BitVec.ofInt IntKind.u16.bits x &&& BitVec.ofInt IntKind.u16.bits (((2 ^ q : Nat) : Int) - 1)).toNat : Int) = x % ((2 ^ q : Nat) : Int) := by
  show ((BitVec.ofInt 16 x &&& BitVec.ofInt 16 (((2 ^ q : Nat) : Int) - 1)).toNat : Int) = _
  rw [BitVec.toNat_and, BitVec.toNat_ofInt, BitVec.toNat_ofInt]
  have a : (x % ((2 ^ 16 : Nat) : Int)).toNat = x.toNat := by
   have : ((2 ^ 16 : Nat) : Int) = 65536 := rfl
   rw [this]; omega
  have b : ((((2 ^ q : Nat) : Int) - 1) % ((2 ^ 16 : Nat) : Int)).toNat = 2 ^ q - 1 := by
   have : ((2 ^ 16 : Nat) : Int) = 65536 := rfl
   rw [this]; omega
  rw [a, b, Nat.and_two_pow_sub_one_eq_mod]
  have : (x.toNat : Int) = x := Int.toNat_of_nonneg hx.1
  rw [Int.natCast_emod, this]
 rw [e]
 have h0 := Int.emod_nonneg x (show ((2 ^ q : Nat) : Int) ≠ 0 by omega)
 have h4 := Int.emod_lt_of_pos x (show (0 : Int) < ((2 ^ q : Nat) : Int) by omega)
 exact IntWalk.u16_in _ (by omega)
noncomputable def newA (l : List Job) (q i : Nat) : Int := cond (waitsB l i q) (bOr .u16 (l.getD i (0, 0)).2 (l.getD q (0, 0)).2) (l.getD i (0, 0)).2
noncomputable def newJob (l : List Job) (q i : Nat) : Job := ((l.getD i (0, 0)).1, bOr .u16 (Int.tmod (newA l q i) (bShl .u16 1 (q : Int))) (bShl .u16 (bShr .u16 (newA l q i) ((q + 1 : Nat) : Int)) (q : Int)))
noncomputable def dropStep (l : List Job) (q : Nat) (st : List Job) (i : Nat) : List Job := cond ((i : Int) == (q : Int)) st (st ++ [newJob l q i])
theorem dropStep_len {l : List Job} {q i : Nat} {st : List Job} (h : st.length ≤ i) : (dropStep l q st i).length ≤ i + 1 := by
 unfold dropStep
 cases (i : Int) == (q : Int)
 ·simp; omega
 ·show st.length ≤ i + 1; omega
noncomputable def dropL (l : List Job) (q : Nat) : List Job := (List.range' 0 l.length).foldl (dropStep l q) []
theorem sDrop_run {l : List Job} (hj : JobsOK l) (hn : l.length ≤ 12) {q : Nat} (hq : q < l.length) : f_q1q_run6 ((q : Int), 0, l, []) = some (dropL l q, 0) := by
 unfold f_q1q_run6
 refine run_countI l.length (fun i (st : List Job) => ((q : Int), (i : Int), l, st)) (dropStep l q) (fun i st => st.length ≤ i) _ [] (by omega) (Nat.le_refl _) ?_ ?_
 ·intro i st hi hI
  refine ⟨?_, dropStep_len hI⟩
  show f_q1q_n6 q i l st = _
  obtain ⟨h1, h2, h3⟩ := shl1 (q := q) (by omega)
  have hz : decide (bShl .u16 1 (q : Int) = 0) = false := decide_eq_false (by rw [h1]; omega)
  unfold f_q1q_n6 t_q1q_6
  try dsimp (config := {proj := false, iota := false, eta := false}) only
  rw [lt_true hi, inB_nat hi, inB_nat hq, swaits_eq hj hi (by omega), toNat_nat, toNat_nat, u64n (k := q) (by omega), succ64 (i := q) (by omega), u64n (k := q + 1) (by omega), dlt0, dlt0, hz, succ64 (i := i) (by omega), fits_small (by simp; omega), fits_small (by simp; omega)]
  simp only [cond_true, cond_false, Option.bind]
  unfold dropStep newJob newA
  cases (i : Int) == (q : Int)
  ·cases waitsB l i q <;> rfl
  ·rfl
 ·intro _
  unfold f_q1q_n6 t_q1q_6
  try dsimp (config := {proj := false, iota := false, eta := false}) only
  rw [lt_neg, cond_false]
  rfl
theorem iDrop_run {l : List Job} (hj : JobsOK l) (hn : l.length ≤ 12) {q : Nat} (hq : q < l.length) : f_q1j_run6 ((q : Int), ((l.length : Nat) : Int), 0, l, []) = some (dropL l q, 0) := by
 unfold f_q1j_run6
 refine run_countI l.length (fun i (st : List Job) => ((q : Int), ((l.length : Nat) : Int), (i : Int), l, st)) (dropStep l q) (fun i st => st.length ≤ i) _ [] (by omega) (Nat.le_refl _) ?_ ?_
 ·intro i st hi hI
  refine ⟨?_, dropStep_len hI⟩
  show f_q1j_n6 q (l.length : Nat) i l st = _
  have hA1 := (hj _ (getD_mem' (d := ((0, 0) : Job)) hi)).2
  have hA2 := wu16 (BitVec.ofInt IntKind.u16.bits (l.getD i (0, 0)).2 ||| BitVec.ofInt IntKind.u16.bits (l.getD q (0, 0)).2).toNat
  have m1 := mask_eq hA1 (q := q) (by omega)
  have m2 := mask_eq (x := bOr .u16 (l.getD i (0, 0)).2 (l.getD q (0, 0)).2) hA2 (q := q) (by omega)
  unfold f_q1j_n6 t_q1j_6
  try dsimp (config := {proj := false, iota := false, eta := false}) only
  rw [lt_true hi, inB_nat hi, inB_nat hq, toNat_nat, iwaits_eq hj hi, toNat_nat, succ64 (i := q) (by omega), dlt0, dlt0, succ64 (i := i) (by omega), fits_small (by simp; omega), fits_small (by simp; omega)]
  simp only [cond_true, cond_false, Option.bind]
  unfold dropStep newJob
  unfold newA
  cases (i : Int) == (q : Int)
  ·cases waitsB l i q
   ·simp only [cond_false]
    rw [m1]
   ·simp only [cond_true, cond_false]
    rw [m2]
  ·rfl
 ·intro _
  unfold f_q1j_n6 t_q1j_6
  try dsimp (config := {proj := false, iota := false, eta := false}) only
  rw [lt_neg, cond_false]
  rfl
end Go.RR
namespace Go.RR
open Go
noncomputable def chainL (l : List Job) (q p : Nat) : List Job := l.set p ((l.getD p (0, 0)).1, bOr .u16 (l.getD p (0, 0)).2 (bShl .u16 1 (q : Int)))
end Go.RR
