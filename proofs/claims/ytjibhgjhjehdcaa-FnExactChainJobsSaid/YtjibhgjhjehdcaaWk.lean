/- The plain laws of EarliestOf and BeforeAll. -/
import Derived.Test.YtjibhgjhjehdcaaWj
import Derived.Test.YtjibhgjhjehdcaaVf
set_option linter.unusedVariables false
set_option linter.unusedSimpArgs false
namespace Go.RR
open Go

noncomputable def waitsB (l : List Job) (i k : Nat) : Bool := (bShr .u16 (l.getD i (0, 0)).2 k) % 2 == 1
theorem after_nn {l : List Job} (hj : JobsOK l) {i : Nat} (hi : i < l.length) : 0 ≤ (l.getD i (0, 0)).2 := (hj _ (getD_mem' hi)).2.1
theorem swaits_eq {l : List Job} (hj : JobsOK l) {i k : Nat} (hi : i < l.length) (hk : k ≤ 1000000) : s_sl07Waits l i k = some (waitsB l i k) := by
  unfold s_sl07Waits waitsB
  rw [inB_nat hi, u64n (by omega), dlt0, toNat_nat]
  have ht : Int.tmod (bShr .u16 (l.getD i (0, 0)).2 k) 2 = (bShr .u16 (l.getD i (0, 0)).2 k) % 2 := Int.tmod_eq_emod_of_nonneg (shr_range (after_nn hj hi)).1
  rw [ht]; rfl
theorem iwaits_eq {l : List Job} (hj : JobsOK l) {i k : Nat} (hi : i < l.length) : s_iJob_waits (l.getD i (0, 0)).1 (l.getD i (0, 0)).2 k = some (waitsB l i k) := by
  unfold s_iJob_waits waitsB
  rw [dlt0, and1 (shr_range (after_nn hj hi)).1]; rfl
theorem max_eq (a b : Int) : s_sl00Max a b = max a b := by
  unfold s_sl00Max
  by_cases h : a > b
  · rw [decide_eq_true h, cond_true, Int.max_eq_left (by omega)]
  · rw [decide_eq_false h, cond_false, Int.max_eq_right (by omega)]

/-! ### earliest days -/
noncomputable def stepE (l : List Job) (i : Nat) (st : List Int) (k : Nat) : List Int := cond (waitsB l i k) (st.set i (max (st.getD i 0) (IntKind.wrap .i64 (st.getD k 0 + IntKind.wrap .i64 (l.getD k (0, 0)).1)))) st
theorem stepE_len {l : List Job} {i k : Nat} {st : List Int} : (stepE l i st k).length = st.length := by
  unfold stepE
  cases waitsB l i k <;> simp
theorem foldE_len {l : List Job} {i : Nat} : ∀ (ks : List Nat) (st : List Int), (ks.foldl (stepE l i) st).length = st.length
  | [], st => rfl
  | k :: ks, st => by rw [List.foldl_cons, foldE_len ks, stepE_len]
noncomputable def earl (l : List Job) (ord : List Int) : List Int := ord.foldl (fun st x => (List.range' 0 l.length).foldl (stepE l x.toNat) st) (List.replicate l.length 0)
theorem sE_inner {l : List Job} (hj : JobsOK l) (hn : l.length ≤ 12) {ord : List Int} {o j : Nat} (hjl : j < l.length) (ho : o ≤ 1000) {st : List Int} (hst : st.length = l.length) :
    f_sl07Earliest_run8 ((o : Int), (j : Int), 0, l, ord, st) = some (Sum.inl (((o + 1 : Nat) : Int), l, ord, (List.range' 0 l.length).foldl (stepE l j) st)) := by
  unfold f_sl07Earliest_run8
  refine run_countI l.length (fun k (st : List Int) => ((o : Int), (j : Int), (k : Int), l, ord, st)) (stepE l j) (fun _ st => st.length = l.length) _ st (by omega) hst ?_ ?_
  · intro k st hk hI
    refine ⟨?_, by rw [stepE_len]; exact hI⟩
    show f_sl07Earliest_n8 o j k l ord st = _
    unfold f_sl07Earliest_n8
    rw [lt_true hk, swaits_eq hj hjl (by omega), hI, inB_nat hjl, inB_nat hk, toNat_nat, toNat_nat, max_eq, succ64 (by omega)]
    simp only [cond_true, Option.bind]
    unfold stepE
    cases waitsB l j k <;> rfl
  · intro _
    unfold f_sl07Earliest_n8
    rw [lt_neg, cond_false, succ64 (by omega)]
theorem iE_inner {l : List Job} (hj : JobsOK l) (hn : l.length ≤ 12) {ord : List Int} {o j : Nat} {m : Int} (hjl : j < l.length) (ho : o ≤ 1000) {st : List Int} (hst : st.length = l.length) :
    f_iearliest_run6 ((j : Int), m, (o : Int), ((l.length : Nat) : Int), 0, l, st, ord) = some (Sum.inl (m, ((o + 1 : Nat) : Int), l, (List.range' 0 l.length).foldl (stepE l j) st, ord)) := by
  unfold f_iearliest_run6
  refine run_countI l.length (fun k (st : List Int) => ((j : Int), m, (o : Int), ((l.length : Nat) : Int), (k : Int), l, st, ord)) (stepE l j) (fun _ st => st.length = l.length) _ st (by omega) hst ?_ ?_
  · intro k st hk hI
    refine ⟨?_, by rw [stepE_len]; exact hI⟩
    show f_iearliest_n6 j m o (l.length : Nat) k l st ord = _
    unfold f_iearliest_n6
    rw [lt_true hk, inB_nat hjl, toNat_nat, iwaits_eq hj hjl, hI, inB_nat hjl, inB_nat hk, toNat_nat, succ64 (by omega)]
    simp only [cond_true, Option.bind]
    unfold stepE
    cases waitsB l j k <;> rfl
  · intro _
    unfold f_iearliest_n6
    rw [lt_neg, cond_false, succ64 (by omega)]
theorem sE_eq {l : List Job} (hj : JobsOK l) (hn : l.length ≤ 12) {ord : List Int} (hol : ord.length ≤ 12) (hor : ∀ x ∈ ord, ∃ j : Nat, j < l.length ∧ x = (j : Int)) : f_sl07Earliest_run4 (0, l, ord, List.replicate l.length 0) = some (earl l ord) := by
  unfold f_sl07Earliest_run4
  refine run_listI (0 : Int) ord (fun i (st : List Int) => ((i : Int), l, ord, st)) (fun st x => (List.range' 0 l.length).foldl (stepE l x.toNat) st) (fun _ st => st.length = l.length) _ (List.replicate l.length 0) (by omega) (by simp) ?_ ?_
  · intro i st hi hm hI
    obtain ⟨j, hjl, ej⟩ := hor _ hm
    refine ⟨?_, by rw [foldE_len]; exact hI⟩
    show f_sl07Earliest_n4 i l ord st = _
    unfold f_sl07Earliest_n4
    rw [lt_true hi, inB_nat hi, toNat_nat, ej, sE_inner hj hn hjl (by omega) hI, toNat_nat]
    rfl
  · intro _
    unfold f_sl07Earliest_n4
    rw [lt_neg, cond_false]
    rfl
theorem iE_eq {l : List Job} (hj : JobsOK l) (hn : l.length ≤ 12) {ord : List Int} (hol : ord.length ≤ 12) (hor : ∀ x ∈ ord, ∃ j : Nat, j < l.length ∧ x = (j : Int)) : f_iearliest_run3 (((ord.length : Nat) : Int), 0, l, List.replicate l.length 0, ord) = some (earl l ord) := by
  unfold f_iearliest_run3
  refine run_listI (0 : Int) ord (fun i (st : List Int) => (((ord.length : Nat) : Int), (i : Int), l, st, ord)) (fun st x => (List.range' 0 l.length).foldl (stepE l x.toNat) st) (fun _ st => st.length = l.length) _ (List.replicate l.length 0) (by omega) (by simp) ?_ ?_
  · intro i st hi hm hI
    obtain ⟨j, hjl, ej⟩ := hor _ hm
    refine ⟨?_, by rw [foldE_len]; exact hI⟩
    show f_iearliest_n3 (ord.length : Nat) i l st ord = _
    unfold f_iearliest_n3
    rw [lt_true hi, inB_nat hi, toNat_nat, ej, iE_inner hj hn hjl (by omega) hI, toNat_nat]
    rfl
  · intro _
    unfold f_iearliest_n3
    rw [lt_neg, cond_false]
    rfl
theorem earl_len {l : List Job} : ∀ (ord : List Int), (earl l ord).length = l.length := by
  have : ∀ (ord : List Int) (st : List Int), (ord.foldl (fun st x => (List.range' 0 l.length).foldl (stepE l x.toNat) st) st).length = st.length := by
    intro ord
    induction ord with
    | nil => intro st; rfl
    | cons x ord ih => intro st; rw [List.foldl_cons, ih, foldE_len]
  intro ord
  unfold earl
  rw [this]; simp
theorem ord_len {l : List Job} : (ordN l l.length 0 []).1.length ≤ l.length := by
  have := (ordN_len l l.length 0 []).1
  simpa using this
theorem ord_mem {l : List Job} : ∀ x ∈ (ordN l l.length 0 []).1, ∃ j : Nat, j < l.length ∧ x = (j : Int) := ordN_mem l l.length 0 [] fun x hx => by simp at hx
theorem law_EarliestOf {l : List Job} (hlm : l.length ≤ maxLen) (hj : ∀ x ∈ l, (-128 ≤ x.1 ∧ x.1 ≤ 127) ∧ (0 ≤ x.2 ∧ x.2 ≤ 65535)) : s_wFnExactEarliestOf l = some true := by
  unfold s_wFnExactEarliestOf
  rcases szJobs hlm with ⟨_, h⟩ | ⟨hl, h⟩
  · rw [h]; rfl
  rw [h, cond_false, toJobs (by omega)]
  have key : ∃ v : List Int × Int, s_sEarliestOf l = some v ∧ s_iEarliestOf l = some v ∧ v.1.length ≤ 1000000 := by
    unfold s_sEarliestOf s_iEarliestOf
    rw [sok_eq l (by omega), iok_eq l (by omega)]
    simp only [Option.bind]
    cases hv : validB l
    · exact ⟨([], 1), rfl, rfl, by simp⟩
    · obtain ⟨h1, h2⟩ := valid_ord hv
      have hol := ord_len (l := l)
      unfold s_sl07Earliest s_iearliest
      rw [sorder_eq h1, iorder_eq h1, h2, mk_ok _ _ (by omega)]
      simp only [Option.bind, cond_true, toNat_nat]
      rw [sE_eq hj h1 (by omega) ord_mem, iE_eq hj h1 (by omega) ord_mem]
      refine ⟨(earl l (ordN l l.length 0 []).1, 0), rfl, rfl, ?_⟩
      show (earl l (ordN l l.length 0 []).1).length ≤ 1000000
      rw [earl_len]; omega
  obtain ⟨v, e1, e2, hlv⟩ := key
  obtain ⟨m, e3, e4⟩ := markJobs (l := l) (by omega)
  have e5 : decide (((v.1.length + 1 : Nat) : Int) < 0) = false := decide_eq_false (by omega)
  simp only [Option.bind, e1, e2, e3, e4, s27_same v.1 (by omega), eqJobs (l := l) (by omega), s28_eq v.1 hlv, s29_eq v.1.length hlv, e5]
  simp

/-! ### what is before -/
noncomputable def stepB (l : List Job) (i : Nat) (st : List Int) (k : Nat) : List Int := cond (waitsB l i k) (st.set i (bOr .u16 (st.getD i 0) (st.getD k 0))) st
theorem stepB_len {l : List Job} {i k : Nat} {st : List Int} : (stepB l i st k).length = st.length := by
  unfold stepB
  cases waitsB l i k <;> simp
theorem foldB_len {l : List Job} {i : Nat} : ∀ (ks : List Nat) (st : List Int), (ks.foldl (stepB l i) st).length = st.length
  | [], st => rfl
  | k :: ks, st => by rw [List.foldl_cons, foldB_len ks, stepB_len]
noncomputable def outB (l : List Job) (st : List Int) (x : Int) : List Int := (List.range' 0 l.length).foldl (stepB l x.toNat) (st.set x.toNat (l.getD x.toNat (0, 0)).2)
theorem outB_len {l : List Job} {st : List Int} {x : Int} : (outB l st x).length = st.length := by
  unfold outB; rw [foldB_len]; simp
noncomputable def befo (l : List Job) (ord : List Int) : List Int := ord.foldl (outB l) (List.replicate l.length 0)
theorem sB_inner {l : List Job} (hj : JobsOK l) (hn : l.length ≤ 12) {ord : List Int} {o j : Nat} (hjl : j < l.length) (ho : o ≤ 1000) {st : List Int} (hst : st.length = l.length) :
    f_sBeforeAll_run11 ((o : Int), (j : Int), 0, l, ord, st) = some (Sum.inl (((o + 1 : Nat) : Int), l, ord, (List.range' 0 l.length).foldl (stepB l j) st)) := by
  unfold f_sBeforeAll_run11
  refine run_countI l.length (fun k (st : List Int) => ((o : Int), (j : Int), (k : Int), l, ord, st)) (stepB l j) (fun _ st => st.length = l.length) _ st (by omega) hst ?_ ?_
  · intro k st hk hI
    refine ⟨?_, by rw [stepB_len]; exact hI⟩
    show f_sBeforeAll_n11 o j k l ord st = _
    unfold f_sBeforeAll_n11
    rw [lt_true hk, swaits_eq hj hjl (by omega), hI, inB_nat hjl, inB_nat hk, toNat_nat, toNat_nat, succ64 (by omega)]
    simp only [cond_true, Option.bind]
    unfold stepB
    cases waitsB l j k <;> rfl
  · intro _
    unfold f_sBeforeAll_n11
    rw [lt_neg, cond_false, succ64 (by omega)]
theorem iB_inner {l : List Job} (hj : JobsOK l) (hn : l.length ≤ 12) {ord : List Int} {o j : Nat} {m : Int} (hjl : j < l.length) (ho : o ≤ 1000) {st : List Int} (hst : st.length = l.length) :
    f_iBeforeAll_run9 ((j : Int), m, (o : Int), ((l.length : Nat) : Int), 0, l, st, ord) = some (Sum.inl (m, ((o + 1 : Nat) : Int), l, (List.range' 0 l.length).foldl (stepB l j) st, ord)) := by
  unfold f_iBeforeAll_run9
  refine run_countI l.length (fun k (st : List Int) => ((j : Int), m, (o : Int), ((l.length : Nat) : Int), (k : Int), l, st, ord)) (stepB l j) (fun _ st => st.length = l.length) _ st (by omega) hst ?_ ?_
  · intro k st hk hI
    refine ⟨?_, by rw [stepB_len]; exact hI⟩
    show f_iBeforeAll_n9 j m o (l.length : Nat) k l st ord = _
    unfold f_iBeforeAll_n9
    rw [lt_true hk, inB_nat hjl, toNat_nat, iwaits_eq hj hjl, hI, inB_nat hjl, inB_nat hk, toNat_nat, succ64 (by omega)]
    simp only [cond_true, Option.bind]
    unfold stepB
    cases waitsB l j k <;> rfl
  · intro _
    unfold f_iBeforeAll_n9
    rw [lt_neg, cond_false, succ64 (by omega)]
theorem sB_eq {l : List Job} (hj : JobsOK l) (hn : l.length ≤ 12) {ord : List Int} (hol : ord.length ≤ 12) (hor : ∀ x ∈ ord, ∃ j : Nat, j < l.length ∧ x = (j : Int)) : f_sBeforeAll_run6 (0, l, ord, List.replicate l.length 0) = some (befo l ord, 0) := by
  unfold f_sBeforeAll_run6
  refine run_listI (0 : Int) ord (fun i (st : List Int) => ((i : Int), l, ord, st)) (outB l) (fun _ st => st.length = l.length) _ (List.replicate l.length 0) (by omega) (by simp) ?_ ?_
  · intro i st hi hm hI
    obtain ⟨j, hjl, ej⟩ := hor _ hm
    refine ⟨?_, by rw [outB_len]; exact hI⟩
    show f_sBeforeAll_n6 i l ord st = _
    unfold f_sBeforeAll_n6
    rw [lt_true hi, inB_nat hi, toNat_nat, ej, hI, inB_nat hjl, toNat_nat, sB_inner hj hn hjl (by omega) (by simp [hI])]
    rfl
  · intro _
    unfold f_sBeforeAll_n6
    rw [lt_neg, cond_false]
    rfl
theorem iB_eq {l : List Job} (hj : JobsOK l) (hn : l.length ≤ 12) {ord : List Int} (hol : ord.length ≤ 12) (hor : ∀ x ∈ ord, ∃ j : Nat, j < l.length ∧ x = (j : Int)) : f_iBeforeAll_run5 (((ord.length : Nat) : Int), 0, l, List.replicate l.length 0, ord) = some (befo l ord, 0) := by
  unfold f_iBeforeAll_run5
  refine run_listI (0 : Int) ord (fun i (st : List Int) => (((ord.length : Nat) : Int), (i : Int), l, st, ord)) (outB l) (fun _ st => st.length = l.length) _ (List.replicate l.length 0) (by omega) (by simp) ?_ ?_
  · intro i st hi hm hI
    obtain ⟨j, hjl, ej⟩ := hor _ hm
    refine ⟨?_, by rw [outB_len]; exact hI⟩
    show f_iBeforeAll_n5 (ord.length : Nat) i l st ord = _
    unfold f_iBeforeAll_n5
    rw [lt_true hi, inB_nat hi, toNat_nat, ej, hI, inB_nat hjl, toNat_nat, iB_inner hj hn hjl (by omega) (by simp [hI])]
    rfl
  · intro _
    unfold f_iBeforeAll_n5
    rw [lt_neg, cond_false]
    rfl
theorem befo_len {l : List Job} : ∀ (ord : List Int), (befo l ord).length = l.length := by
  have : ∀ (ord : List Int) (st : List Int), (ord.foldl (outB l) st).length = st.length := by
    intro ord
    induction ord with
    | nil => intro st; rfl
    | cons x ord ih => intro st; rw [List.foldl_cons, ih, outB_len]
  intro ord
  unfold befo
  rw [this]; simp
theorem u16s (i : Nat) (h : i ≤ 60000) : IntKind.wrap .u16 (i : Int) = i := IntWalk.u16_in _ (by omega)
theorem s28u_eq (l : List Int) (hl : l.length ≤ 50000) : s_wmarkUint16S l 1 = some (((l.length + 1 : Nat) : Int), markL l.length) := by
  unfold s_wmarkUint16S f_wmarkUint16S_run2
  have key := run_count (step := fun x => f_wmarkUint16S_n2 x.1 x.2.1 x.2.2) (τ := Unit) l.length (fun i _ => (((i + 1 : Nat) : Int), (i : Int), (markL l.length).take i ++ l.drop i)) (fun _ _ => ()) (((l.length + 1 : Nat) : Int), markL l.length) () (by omega) ?_ ?_
  · exact key
  · intro i _ hi
    show f_wmarkUint16S_n2 ((i + 1 : Nat) : Int) i ((markL l.length).take i ++ l.drop i) = _
    have hlen : ((markL l.length).take i ++ l.drop i).length = l.length := by
      simp [markL_len]; omega
    unfold f_wmarkUint16S_n2
    rw [hlen, lt_true hi, inB_nat hi, succ64 (i := i) (by omega), succ64 (i := i + 1) (by omega), toNat_nat]
    simp only [cond_true]
    have hset : ((markL l.length).take i ++ l.drop i).set i ((i + 1 : Nat) : Int) = (markL l.length).take (i + 1) ++ l.drop (i + 1) := by
      have h1 : ((markL l.length).take i).length = i := by simp [markL_len]; omega
      rw [List.set_append_right _ _ (by omega), h1, Nat.sub_self, List.take_add_one, markL_get hi]
      rw [List.drop_eq_getElem_cons hi, List.set_cons_zero]
      simp
    rw [u16s (i + 1) (by omega), hset]
  · show f_wmarkUint16S_n2 ((l.length + 1 : Nat) : Int) (l.length : Nat) ((markL l.length).take l.length ++ l.drop l.length) = _
    have h1 : (markL l.length).take l.length ++ l.drop l.length = markL l.length := by
      rw [List.drop_length, List.append_nil]
      exact List.take_of_length_le (by rw [markL_len]; exact Nat.le_refl _)
    rw [h1]
    unfold f_wmarkUint16S_n2
    rw [markL_len, lt_neg, cond_false]
theorem s29u_eq (n : Nat) (hn : n ≤ 50000) : s_wheldUint16S (markL n) 1 = some ((n + 1 : Nat) : Int) := by
  unfold s_wheldUint16S f_wheldUint16S_run2
  have key := run_count (step := fun x => f_wheldUint16S_n2 x.1 x.2.1 x.2.2) (τ := Unit) n (fun i _ => (((i + 1 : Nat) : Int), (i : Int), markL n)) (fun _ _ => ()) ((n + 1 : Nat) : Int) () (by omega) ?_ ?_
  · exact key
  · intro i _ hi
    show f_wheldUint16S_n2 ((i + 1 : Nat) : Int) i (markL n) = _
    unfold f_wheldUint16S_n2
    have hg : (markL n).getD i 0 = ((i + 1 : Nat) : Int) := by rw [List.getD_eq_getElem?_getD, markL_get hi]; rfl
    rw [markL_len, lt_true hi, inB_nat hi, toNat_nat, hg, u16s (i + 1) (by omega), succ64 (i := i) (by omega), succ64 (i := i + 1) (by omega)]
    have : (((i + 1 : Nat) : Int) != ((i + 1 : Nat) : Int)) = false := by simp
    rw [this]; rfl
  · show f_wheldUint16S_n2 ((n + 1 : Nat) : Int) (n : Nat) (markL n) = _
    unfold f_wheldUint16S_n2
    rw [markL_len, lt_neg, cond_false]
theorem s27u_same (l : List Int) (hl : l.length ≤ 1000000) : s_weqUint16S l l = some true := by
  unfold s_weqUint16S
  have : (((List.length l : Nat) : Int) != ((List.length l : Nat) : Int)) = false := by simp
  rw [this, cond_false]
  unfold f_weqUint16S_run4
  have h := run_all (step := fun x => f_weqUint16S_n4 x.1 x.2.1 x.2.2) l.length (fun i => ((i : Int), l, l)) (fun i => true) true false (by omega) ?_ ?_
  · exact h.trans (by simp)
  · intro i hi
    show f_weqUint16S_n4 i l l = _
    unfold f_weqUint16S_n4
    rw [lt_true hi, inB_nat hi, toNat_nat, succ64 (by omega)]
    have : (l.getD i 0 != l.getD i 0) = false := by simp
    rw [this]; rfl
  · show f_weqUint16S_n4 (l.length : Nat) l l = _
    unfold f_weqUint16S_n4
    rw [lt_neg, cond_false]
theorem law_BeforeAll {l : List Job} (hlm : l.length ≤ maxLen) (hj : ∀ x ∈ l, (-128 ≤ x.1 ∧ x.1 ≤ 127) ∧ (0 ≤ x.2 ∧ x.2 ≤ 65535)) : s_wFnExactBeforeAll l = some true := by
  unfold s_wFnExactBeforeAll
  rcases szJobs hlm with ⟨_, h⟩ | ⟨hl, h⟩
  · rw [h]; rfl
  rw [h, cond_false, toJobs (by omega)]
  have key : ∃ v : List Int × Int, s_sBeforeAll l = some v ∧ s_iBeforeAll l = some v ∧ v.1.length ≤ 50000 := by
    unfold s_sBeforeAll s_iBeforeAll
    rw [sok_eq l (by omega), iok_eq l (by omega), mk_ok l.length 2 (by omega)]
    simp only [Option.bind, cond_true, toNat_nat]
    cases hv : validB l
    · exact ⟨([], 1), rfl, rfl, by simp⟩
    · obtain ⟨h1, h2⟩ := valid_ord hv
      have hol := ord_len (l := l)
      rw [sorder_eq h1, iorder_eq h1, h2]
      simp only [cond_true, Bool.not_true, cond_false]
      rw [sB_eq hj h1 (by omega) ord_mem, iB_eq hj h1 (by omega) ord_mem]
      refine ⟨(befo l (ordN l l.length 0 []).1, 0), rfl, rfl, ?_⟩
      show (befo l (ordN l l.length 0 []).1).length ≤ 50000
      rw [befo_len]; omega
  obtain ⟨v, e1, e2, hlv⟩ := key
  obtain ⟨m, e3, e4⟩ := markJobs (l := l) (by omega)
  have e5 : decide (((v.1.length + 1 : Nat) : Int) < 0) = false := decide_eq_false (by omega)
  simp only [Option.bind, e1, e2, e3, e4, s27u_same v.1 (by omega), eqJobs (l := l) (by omega), s28u_eq v.1 hlv, s29u_eq v.1.length hlv, e5]
  simp
end Go.RR
