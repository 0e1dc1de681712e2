/- The plain law of DropJob. -/
import Derived.Test.YtjibhgjhjehdcaaWk
import Derived.Test.YtjibhgjhjehdcaaVg
set_option linter.unusedVariables false
set_option linter.unusedSimpArgs false
namespace Go.RR
open Go

/-! ### marking jobs -/
noncomputable def markJ (i : Nat) : Job := (IntKind.wrap .i8 ((1 + 2 * i : Nat) : Int), IntKind.wrap .u16 ((2 + 2 * i : Nat) : Int))
noncomputable def markJL (n : Nat) : List Job := (List.range' 0 n).map markJ
theorem markJL_len (n : Nat) : (markJL n).length = n := by simp [markJL]
theorem markJL_get {n i : Nat} (h : i < n) : (markJL n)[i]? = some (markJ i) := by
  unfold markJL
  rw [List.getElem?_map, List.getElem?_range' h]
  simp
theorem k2 {i : Nat} (h : i ≤ 2000000) : IntKind.wrap .i64 (((1 + 2 * i : Nat) : Int) + 1) = ((2 + 2 * i : Nat) : Int) ∧ IntKind.wrap .i64 (((2 + 2 * i : Nat) : Int) + 1) = ((1 + 2 * (i + 1) : Nat) : Int) := by
  rw [IntWalk.i64_in (((1 + 2 * i : Nat) : Int) + 1) (by omega), IntWalk.i64_in (((2 + 2 * i : Nat) : Int) + 1) (by omega)]
  omega
theorem markJobs_eq {l : List Job} (hl : l.length ≤ 1000000) : s_wmarkJobS l 1 = some (((1 + 2 * l.length : Nat) : Int), markJL l.length) := by
  unfold s_wmarkJobS f_wmarkJobS_run2
  have key := run_count (step := fun x => f_wmarkJobS_n2 x.1 x.2.1 x.2.2) (τ := Unit) l.length (fun i _ => (((1 + 2 * i : Nat) : Int), (i : Int), (markJL l.length).take i ++ l.drop i)) (fun _ _ => ()) (((1 + 2 * l.length : Nat) : Int), markJL l.length) () (by omega) ?_ ?_
  · exact key
  · intro i _ hi
    show f_wmarkJobS_n2 ((1 + 2 * i : Nat) : Int) i ((markJL l.length).take i ++ l.drop i) = _
    have hlen : ((markJL l.length).take i ++ l.drop i).length = l.length := by simp [markJL_len]; omega
    unfold f_wmarkJobS_n2
    rw [List.length_set, hlen, lt_true hi, inB_nat hi, toNat_nat, succ64 (i := i) (by omega), (k2 (i := i) (by omega)).1, (k2 (i := i) (by omega)).2]
    simp only [cond_true]
    have hg : ∀ v : Job, (List.getD (((markJL l.length).take i ++ l.drop i).set i v) i (0, 0)) = v := fun v => by
      rw [List.getD_eq_getElem?_getD, List.getElem?_set_self (by rw [hlen]; exact hi)]; rfl
    rw [hg, List.set_set]
    have := set_copy (t := markJL l.length) (r := l) (i := i) (x := markJ i) (by rw [markJL_len]) (markJL_get hi)
    show some (Sum.inl (((1 + 2 * (i + 1) : Nat) : Int), ((i + 1 : Nat) : Int), ((markJL l.length).take i ++ l.drop i).set i (markJ i))) = _
    rw [this]
  · show f_wmarkJobS_n2 ((1 + 2 * l.length : Nat) : Int) (l.length : Nat) ((markJL l.length).take l.length ++ l.drop l.length) = _
    have h1 : (markJL l.length).take l.length ++ l.drop l.length = markJL l.length := by
      rw [List.drop_length, List.append_nil]
      exact List.take_of_length_le (by rw [markJL_len]; exact Nat.le_refl _)
    rw [h1]
    unfold f_wmarkJobS_n2
    rw [markJL_len, lt_neg, cond_false]
theorem heldJobs_eq (n : Nat) (hn : n ≤ 1000000) : s_wheldJobS (markJL n) 1 = some ((1 + 2 * n : Nat) : Int) := by
  unfold s_wheldJobS f_wheldJobS_run2
  have key := run_count (step := fun x => f_wheldJobS_n2 x.1 x.2.1 x.2.2) (τ := Unit) n (fun i _ => (((1 + 2 * i : Nat) : Int), (i : Int), markJL n)) (fun _ _ => ()) ((1 + 2 * n : Nat) : Int) () (by omega) ?_ ?_
  · exact key
  · intro i _ hi
    show f_wheldJobS_n2 ((1 + 2 * i : Nat) : Int) i (markJL n) = _
    unfold f_wheldJobS_n2
    have hg : (markJL n).getD i (0, 0) = markJ i := by rw [List.getD_eq_getElem?_getD, markJL_get hi]; rfl
    rw [markJL_len, lt_true hi, inB_nat hi, toNat_nat, hg, succ64 (i := i) (by omega), (k2 (i := i) (by omega)).1, (k2 (i := i) (by omega)).2]
    have a : ((markJ i).1 != IntKind.wrap .i8 ((1 + 2 * i : Nat) : Int)) = false := by simp [markJ]
    have b : ((markJ i).2 != IntKind.wrap .u16 ((2 + 2 * i : Nat) : Int)) = false := by simp [markJ]
    rw [a, b]; rfl
  · show f_wheldJobS_n2 ((1 + 2 * n : Nat) : Int) (n : Nat) (markJL n) = _
    unfold f_wheldJobS_n2
    rw [markJL_len, lt_neg, cond_false]

/-! ### dropping -/
theorem shl1 {q : Nat} (hq : q < 12) : bShl .u16 1 (q : Int) = ((2 ^ q : Nat) : Int) ∧ 1 ≤ 2 ^ q ∧ 2 ^ q ≤ 4096 := by
  have h1 : 2 ^ q ≤ 2 ^ 12 := Nat.pow_le_pow_right (by decide) (by omega)
  have h2 : 0 < 2 ^ q := Nat.pow_pos (by decide)
  have h1 : 2 ^ q ≤ 4096 := h1
  refine ⟨?_, h2, h1⟩
  unfold bShl
  have hm : min (Int.toNat (q : Int)) IntKind.u16.bits = q := by
    rw [toNat_nat]
    exact Nat.min_eq_left (by show q ≤ 16; omega)
  rw [hm, Int.one_mul, show ((2 : Int) ^ q) = ((2 ^ q : Nat) : Int) by rw [Int.natCast_pow]; rfl]
  exact IntWalk.u16_in _ (by omega)
theorem mask_eq {x : Int} (hx : 0 ≤ x ∧ x ≤ 65535) {q : Nat} (hq : q < 12) : bAnd .u16 x (IntKind.wrap .u16 (bShl .u16 1 (q : Int) - 1)) = Int.tmod x (bShl .u16 1 (q : Int)) := by
  obtain ⟨h1, h2, h3⟩ := shl1 hq
  rw [h1, IntWalk.u16_in (((2 ^ q : Nat) : Int) - 1) (by omega), Int.tmod_eq_emod_of_nonneg hx.1]
  unfold bAnd
  have e : ((BitVec.ofInt IntKind.u16.bits x &&& BitVec.ofInt IntKind.u16.bits (((2 ^ q : Nat) : Int) - 1)).toNat : Int) = x % ((2 ^ q : Nat) : Int) := by
    show ((BitVec.ofInt 16 x &&& BitVec.ofInt 16 (((2 ^ q : Nat) : Int) - 1)).toNat : Int) = _
    rw [BitVec.toNat_and, BitVec.toNat_ofInt, BitVec.toNat_ofInt]
    have a : (x % ((2 ^ 16 : Nat) : Int)).toNat = x.toNat := by
      have : ((2 ^ 16 : Nat) : Int) = 65536 := rfl
      rw [this]; omega
    have b : ((((2 ^ q : Nat) : Int) - 1) % ((2 ^ 16 : Nat) : Int)).toNat = 2 ^ q - 1 := by
      have : ((2 ^ 16 : Nat) : Int) = 65536 := rfl
      rw [this]; omega
    rw [a, b, Nat.and_two_pow_sub_one_eq_mod]
    have : (x.toNat : Int) = x := Int.toNat_of_nonneg hx.1
    rw [Int.natCast_emod, this]
  rw [e]
  have h0 := Int.emod_nonneg x (show ((2 ^ q : Nat) : Int) ≠ 0 by omega)
  have h4 := Int.emod_lt_of_pos x (show (0 : Int) < ((2 ^ q : Nat) : Int) by omega)
  exact IntWalk.u16_in _ (by omega)
noncomputable def newA (l : List Job) (q i : Nat) : Int := cond (waitsB l i q) (bOr .u16 (l.getD i (0, 0)).2 (l.getD q (0, 0)).2) (l.getD i (0, 0)).2
noncomputable def newJob (l : List Job) (q i : Nat) : Job := ((l.getD i (0, 0)).1, bOr .u16 (Int.tmod (newA l q i) (bShl .u16 1 (q : Int))) (bShl .u16 (bShr .u16 (newA l q i) ((q + 1 : Nat) : Int)) (q : Int)))
theorem newA_range {l : List Job} (hj : JobsOK l) {q i : Nat} (hi : i < l.length) : 0 ≤ newA l q i ∧ newA l q i ≤ 65535 := by
  unfold newA
  cases waitsB l i q
  · exact (hj _ (getD_mem' hi)).2
  · exact wu16 _
noncomputable def dropStep (l : List Job) (q : Nat) (st : List Job) (i : Nat) : List Job := cond ((i : Int) == (q : Int)) st (st ++ [newJob l q i])
theorem dropStep_len {l : List Job} {q i : Nat} {st : List Job} (h : st.length ≤ i) : (dropStep l q st i).length ≤ i + 1 := by
  unfold dropStep
  cases (i : Int) == (q : Int)
  · simp; omega
  · show st.length ≤ i + 1; omega
noncomputable def dropL (l : List Job) (q : Nat) : List Job := (List.range' 0 l.length).foldl (dropStep l q) []
theorem sDrop_run {l : List Job} (hj : JobsOK l) (hn : l.length ≤ 12) {q : Nat} (hq : q < l.length) : f_sDropJob_run6 ((q : Int), 0, l, []) = some (dropL l q, 0) := by
  unfold f_sDropJob_run6
  refine run_countI l.length (fun i (st : List Job) => ((q : Int), (i : Int), l, st)) (dropStep l q) (fun i st => st.length ≤ i) _ [] (by omega) (Nat.le_refl _) ?_ ?_
  · intro i st hi hI
    refine ⟨?_, dropStep_len hI⟩
    show f_sDropJob_n6 q i l st = _
    obtain ⟨h1, h2, h3⟩ := shl1 (q := q) (by omega)
    have hz : decide (bShl .u16 1 (q : Int) = 0) = false := decide_eq_false (by rw [h1]; omega)
    unfold f_sDropJob_n6
    rw [lt_true hi, inB_nat hi, inB_nat hq, swaits_eq hj hi (by omega), toNat_nat, toNat_nat, u64n (k := q) (by omega), succ64 (i := q) (by omega), u64n (k := q + 1) (by omega), dlt0, dlt0, hz, succ64 (i := i) (by omega), fits_small (by simp; omega), fits_small (by simp; omega)]
    simp only [cond_true, cond_false, Option.bind]
    unfold dropStep newJob newA
    cases (i : Int) == (q : Int)
    · cases waitsB l i q <;> rfl
    · rfl
  · intro _
    unfold f_sDropJob_n6
    rw [lt_neg, cond_false]
    rfl
theorem iDrop_run {l : List Job} (hj : JobsOK l) (hn : l.length ≤ 12) {q : Nat} (hq : q < l.length) : f_iDropJob_run6 ((q : Int), ((l.length : Nat) : Int), 0, l, []) = some (dropL l q, 0) := by
  unfold f_iDropJob_run6
  refine run_countI l.length (fun i (st : List Job) => ((q : Int), ((l.length : Nat) : Int), (i : Int), l, st)) (dropStep l q) (fun i st => st.length ≤ i) _ [] (by omega) (Nat.le_refl _) ?_ ?_
  · intro i st hi hI
    refine ⟨?_, dropStep_len hI⟩
    show f_iDropJob_n6 q (l.length : Nat) i l st = _
    have hA1 := (hj _ (getD_mem' (d := ((0, 0) : Job)) hi)).2
    have hA2 := wu16 (BitVec.ofInt IntKind.u16.bits (l.getD i (0, 0)).2 ||| BitVec.ofInt IntKind.u16.bits (l.getD q (0, 0)).2).toNat
    have m1 := mask_eq hA1 (q := q) (by omega)
    have m2 := mask_eq (x := bOr .u16 (l.getD i (0, 0)).2 (l.getD q (0, 0)).2) hA2 (q := q) (by omega)
    unfold f_iDropJob_n6
    rw [lt_true hi, inB_nat hi, inB_nat hq, toNat_nat, iwaits_eq hj hi, toNat_nat, succ64 (i := q) (by omega), dlt0, dlt0, succ64 (i := i) (by omega), fits_small (by simp; omega), fits_small (by simp; omega)]
    simp only [cond_true, cond_false, Option.bind]
    unfold dropStep newJob
    unfold newA
    cases (i : Int) == (q : Int)
    · cases waitsB l i q
      · simp only [cond_false]
        rw [m1]
      · simp only [cond_true, cond_false]
        rw [m2]
    · rfl
  · intro _
    unfold f_iDropJob_n6
    rw [lt_neg, cond_false]
    rfl
theorem dropL_len {l : List Job} {q : Nat} : (dropL l q).length ≤ l.length := by
  have : ∀ (ks : List Nat) (st : List Job), (ks.foldl (dropStep l q) st).length ≤ st.length + ks.length := by
    intro ks
    induction ks with
    | nil => intro st; simp
    | cons k ks ih =>
      intro st
      have := ih (dropStep l q st k)
      rw [List.foldl_cons]
      have h2 : (dropStep l q st k).length ≤ st.length + 1 := by
        unfold dropStep
        cases (k : Int) == (q : Int) <;> simp
      simp only [List.length_cons]; omega
  have := this (List.range' 0 l.length) []
  simpa [dropL] using this
theorem law_DropJob {l : List Job} {a : Int} (hlm : l.length ≤ maxLen) (hj : ∀ x ∈ l, (-128 ≤ x.1 ∧ x.1 ≤ 127) ∧ (0 ≤ x.2 ∧ x.2 ≤ 65535)) (ha : IntKind.i64.min ≤ a ∧ a ≤ IntKind.i64.max) : s_wFnExactDropJob l a = some true := by
  unfold s_wFnExactDropJob
  rcases szJobs hlm with ⟨_, h⟩ | ⟨hl, h⟩
  · rw [h]; rfl
  rw [h, cond_false, toJobs (by omega)]
  have key : ∃ v : List Job × Int, s_sDropJob l a = some v ∧ s_iDropJob l a = some v ∧ v.1.length ≤ 1000000 := by
    unfold s_sDropJob s_iDropJob s_sl07Job
    rw [sok_eq l (by omega), iok_eq l (by omega)]
    have e : s_iwithin a 0 (IntKind.wrap .i64 (((l.length : Nat) : Int) - 1)) = s_sl00In a 0 (IntKind.wrap .i64 (((l.length : Nat) : Int) - 1)) := rfl
    rw [e]
    simp only [Option.bind]
    cases hv : validB l
    · exact ⟨([], 1), rfl, rfl, by simp⟩
    · obtain ⟨h1, _⟩ := valid_ord hv
      cases hr : s_sl00In a 0 (IntKind.wrap .i64 (((l.length : Nat) : Int) - 1))
      · exact ⟨([], 2), rfl, rfl, by simp⟩
      · have hb : 0 ≤ a ∧ a < ((l.length : Nat) : Int) := by
          unfold s_sl00In at hr
          rw [IntWalk.i64_in (((l.length : Nat) : Int) - 1) (by omega)] at hr
          cases h3 : decide (a ≥ 0)
          · rw [h3] at hr; cases hr
          · rw [h3] at hr
            have a1 := of_decide_eq_true h3
            have a2 := of_decide_eq_true hr
            omega
        obtain ⟨q, rfl⟩ : ∃ q : Nat, a = (q : Int) := ⟨a.toNat, (Int.toNat_of_nonneg hb.1).symm⟩
        have hq : q < l.length := by omega
        refine ⟨(dropL l q, 0), ?_, ?_, ?_⟩
        · exact sDrop_run hj h1 hq
        · exact iDrop_run hj h1 hq
        · have := dropL_len (l := l) (q := q)
          show (dropL l q).length ≤ 1000000
          omega
  obtain ⟨v, e1, e2, hlv⟩ := key
  obtain ⟨m, e3, e4⟩ := markJobs (l := l) (by omega)
  have e5 : decide (((1 + 2 * v.1.length : Nat) : Int) < 0) = false := decide_eq_false (by omega)
  simp only [Option.bind, e1, e2, e3, e4, eqJobs (l := v.1) (by omega), eqJobs (l := l) (by omega), markJobs_eq (l := v.1) hlv, heldJobs_eq v.1.length hlv, e5]
  simp
end Go.RR
