/- Plain laws of JobsFor: the reference's fields, and the program. No condition; no theorem of the program. -/
import Derived.Test.YtkohnhkehedflaaGc
set_option linter.unusedVariables false
set_option linter.unusedSimpArgs false
namespace Go.RR
open Go

theorem fold_adj (p : Nat → Bool) : ∀ (l : List Nat) (m : Nat), l.foldl (fun m k => cond (p k) (m ||| 2 ^ k) m) m = orF m (l.filter p)
  | [], m => rfl
  | k :: l, m => by
    rw [List.foldl_cons, fold_adj p l, List.filter_cons]
    cases p k <;> rfl
section
variable {w h : Nat} (hw : w ≤ 12) (hh : h ≤ 12) {f : Nat → Int}
include hw hh
theorem full_ok {ss : List Nat} (hp : Parts w h f ss 144) : FullP w h f (fullOf f ss) := by
  have hm : ∀ s, s ∈ fullOf f ss ↔ s ∈ ss ∧ f s ≠ 0 := fun s => by
    unfold fullOf
    rw [List.mem_filter]
    simp
  refine ⟨fun s hs => hp.cell s ((hm s).1 hs).1, fun s hs => ((hm s).1 hs).2, fun k hk hf => ?_⟩
  obtain ⟨s, hs, hks⟩ := hp.all k (isC_lt hh hk) hk
  have hfs := (comp_ok hw hh (f := f) (hp.cell s hs)).1.col k hks
  have hmem := (hm s).2 ⟨hs, by rw [← hfs]; exact hf⟩
  obtain ⟨j, hj, e⟩ := List.getElem_of_mem hmem
  refine ⟨j, hj, ?_⟩
  rw [List.getD_eq_getElem?_getD, List.getElem?_eq_getElem hj]
  show k ∈ comp w h f (fullOf f ss)[j]
  rw [e]; exact hks
theorem row_at {fs : List Nat} {i : Nat} (hi : i < fs.length) : (fs.map (rowZ w h f)).getD i [] = rowZ w h f (fs.getD i 0) := by
  have := hw
  have := hh
  rw [List.getD_eq_getElem?_getD, List.getElem?_map, List.getElem?_eq_getElem hi]
  simp [List.getD_eq_getElem?_getD, List.getElem?_eq_getElem hi]
theorem s13_ok {d : Int} {ss : List Nat} {i : Nat} (hi : i < ss.length) (hc : isC w h (ss.getD i 0)) {o : List (List Int)} (ho : o.length ≤ 1000) (hbig : ss.length ≤ 144) (ow : Nat → Int) :
    f_sJobsFor_run13 (d, (i : Int), 0, (w : Int), (h : Int), f, ss.map (rowZ w h f), o, ow) = some (.inl (d, ((i + 1 : Nat) : Int), (w : Int), (h : Int), f, ss.map (rowZ w h f), o ++ [rowZ w h f (ss.getD i 0)], marks ow (rowN w h f (ss.getD i 0)) ((o.length : Nat) : Int))) := by
  have hrow := row_at hw hh (f := f) hi
  have hil : i < (ss.map (rowZ w h f)).length := by rw [List.length_map]; exact hi
  have hl144 := rowN_len w h f (ss.getD i 0)
  have hzlen : (rowZ w h f (ss.getD i 0)).length = (rowN w h f (ss.getD i 0)).length := cst_len _
  unfold f_sJobsFor_run13
  refine (run_countI (step := fun x => f_sJobsFor_n13 x.1 x.2.1 x.2.2.1 x.2.2.2.1 x.2.2.2.2.1 x.2.2.2.2.2.1 x.2.2.2.2.2.2.1 x.2.2.2.2.2.2.2.1 x.2.2.2.2.2.2.2.2) (rowN w h f (ss.getD i 0)).length (fun p ow => (d, (i : Int), (p : Int), (w : Int), (h : Int), f, ss.map (rowZ w h f), o, ow)) (fun ow p => upd ow ((rowN w h f (ss.getD i 0)).getD p 0) ((o.length : Nat) : Int)) (fun _ _ => True) (.inl (d, ((i + 1 : Nat) : Int), (w : Int), (h : Int), f, ss.map (rowZ w h f), o ++ [rowZ w h f (ss.getD i 0)], marks ow (rowN w h f (ss.getD i 0)) ((o.length : Nat) : Int))) ow (by omega) trivial ?_ ?_).trans rfl
  · intro p ow hp _
    have hzl : p < (rowZ w h f (ss.getD i 0)).length := by rw [hzlen]; exact hp
    have hzg : (rowZ w h f (ss.getD i 0)).getD p 0 = (((rowN w h f (ss.getD i 0)).getD p 0 : Nat) : Int) := cst_get _ _
    have h4 := rowN_lt hw hh hc (getD_mem' (d := 0) hp)
    refine ⟨?_, trivial⟩
    show f_sJobsFor_n13 d i p w h f (ss.map (rowZ w h f)) o ow = _
    unfold f_sJobsFor_n13
    rw [inB_nat hil, toNat_nat, hrow, lt_true hzl, inB_nat hzl, toNat_nat, hzg, inB_nat h4, toNat_nat, IntWalk.i64_in ((p : Int) + 1) (by omega)]
    rfl
  · intro _
    rw [foldl_getD 0 (fun ow k => upd ow k ((o.length : Nat) : Int))]
    show f_sJobsFor_n13 d i ((rowN w h f (ss.getD i 0)).length : Nat) w h f (ss.map (rowZ w h f)) o _ = _
    unfold f_sJobsFor_n13
    rw [inB_nat hil, toNat_nat, hrow, hzlen, lt_neg, cond_true, cond_false, cond_true, fits_small (by simp; omega), cond_true, IntWalk.i64_in ((i : Int) + 1) (by omega)]
    rfl
def ownS (w h : Nat) (f : Nat → Int) (ss : List Nat) (st : List (List Int) × (Nat → Int)) (i : Nat) : List (List Int) × (Nat → Int) :=
  cond (f (ss.getD i 0) == 0) st (st.1 ++ [rowZ w h f (ss.getD i 0)], marks st.2 (rowN w h f (ss.getD i 0)) ((st.1.length : Nat) : Int))
def jobsR (w h : Nat) (f : Nat → Int) (fs : List Nat) (d : Int) : List (Int × Int) × Int :=
  cond (decide (((fs.length : Nat) : Int) > 12)) ([], 3) (jobsG (fun i => daysOf (rowLen w h f fs i) d) (fun i => ((maskOf w h f fs i : Nat) : Int)) fs.length 0 [])
theorem apart_at {ss : List Nat} (hp : Parts w h f ss 144) {i : Nat} (hi : i < ss.length) {a : Nat} (ha : a ∈ ss.take i) {k : Nat} (hk : k ∈ comp w h f a) : k ∉ comp w h f (ss.getD i 0) := by
  have := hw
  have := hh
  obtain ⟨m, hm, e⟩ := List.mem_iff_getElem.1 ha
  rw [List.length_take] at hm
  rw [List.getElem_take] at e
  have := List.pairwise_iff_getElem.1 hp.apart m i (by omega) hi (by omega) k (by rw [e]; exact hk)
  rw [List.getD_eq_getElem?_getD, List.getElem?_eq_getElem hi]
  exact this
theorem s9_ok {d : Int} (hd : d ≠ 0) {ss : List Nat} (hp : Parts w h f ss 144) : f_sJobsFor_run9 (d, 0, (w : Int), (h : Int), f, ss.map (rowZ w h f), [], zF) = some (jobsR w h f (fullOf f ss) d) := by
  have hbig := hp.len
  unfold f_sJobsFor_run9
  refine (run_countI (step := fun x => f_sJobsFor_n9 x.1 x.2.1 x.2.2.1 x.2.2.2.1 x.2.2.2.2.1 x.2.2.2.2.2.1 x.2.2.2.2.2.2.1 x.2.2.2.2.2.2.2) ss.length (fun i st => (d, (i : Int), (w : Int), (h : Int), f, ss.map (rowZ w h f), st.1, st.2)) (ownS w h f ss) (fun i st => st.1 = (fullOf f (ss.take i)).map (rowZ w h f) ∧ OwnP w h f (fullOf f (ss.take i)) st.2) (jobsR w h f (fullOf f ss) d) ([], zF) (by omega) ⟨rfl, fun j hj => by simp [fullOf] at hj⟩ ?_ ?_).trans rfl
  · rintro i ⟨o, ow⟩ hi ⟨h1, h2⟩
    dsimp only at h1 h2
    have hc := hp.cell _ (getD_mem' (d := 0) hi)
    have hrow := row_at hw hh (f := f) hi
    have hil : i < (ss.map (rowZ w h f)).length := by rw [List.length_map]; exact hi
    obtain ⟨k, k1, k2, k3, k4⟩ := head_ok hw hh (f := f) hc
    have hol : o.length ≤ 144 := by
      rw [h1, List.length_map]
      have := List.length_filter_le (fun s => !(f s == 0)) (ss.take i)
      rw [List.length_take] at this
      have : (fullOf f (ss.take i)).length ≤ ss.length := by unfold fullOf; omega
      omega
    have htk : ss.take (i + 1) = ss.take i ++ [ss.getD i 0] := by
      rw [List.take_add_one, List.getElem?_eq_getElem hi, List.getD_eq_getElem?_getD, List.getElem?_eq_getElem hi]; rfl
    have hs : f_sJobsFor_n9 d i w h f (ss.map (rowZ w h f)) o ow = some (.inl (d, ((i + 1 : Nat) : Int), (w : Int), (h : Int), f, ss.map (rowZ w h f), (ownS w h f ss (o, ow) i).1, (ownS w h f ss (o, ow) i).2)) := by
      unfold f_sJobsFor_n9 ownS
      rw [lt_true hil, inB_nat hil, toNat_nat, hrow, k1, show inB 0 (rowZ w h f (ss.getD i 0)).length = true from inB_nat (i := 0) k4, inB_nat k2, toNat_nat, k3, IntWalk.i64_in ((i : Int) + 1) (by omega)]
      simp only [cond_true]
      cases hz : f (ss.getD i 0) == 0
      · simp only [cond_false]
        exact s13_ok hw hh hi hc (by omega) hbig ow
      · rfl
    refine ⟨hs, ?_⟩
    rw [htk]
    unfold ownS
    have hfa : fullOf f (ss.take i ++ [ss.getD i 0]) = fullOf f (ss.take i) ++ cond (f (ss.getD i 0) == 0) [] [ss.getD i 0] := by
      unfold fullOf
      rw [List.filter_append, List.filter_cons]
      cases f (ss.getD i 0) == 0 <;> rfl
    rw [hfa]
    cases hz : f (ss.getD i 0) == 0
    · simp only [cond_false]
      refine ⟨by rw [h1, List.map_append]; rfl, fun j hj k hk => ?_⟩
      rw [List.length_append, List.length_singleton] at hj
      rw [marks_at]
      have hol2 : o.length = (fullOf f (ss.take i)).length := by rw [h1, List.length_map]
      by_cases hj2 : j < (fullOf f (ss.take i)).length
      · rw [getD_app hj2] at hk
        have hmem := getD_mem' (d := 0) hj2
        have ha : (fullOf f (ss.take i)).getD j 0 ∈ ss.take i := by
          unfold fullOf at hmem ⊢
          exact (List.mem_filter.1 hmem).1
        rw [if_neg fun hin => apart_at hw hh hp hi ha hk ((rowN_mem hw hh hc).1 hin)]
        exact h2 j hj2 k hk
      · obtain rfl : j = (fullOf f (ss.take i)).length := by omega
        rw [getD_new] at hk
        rw [if_pos ((rowN_mem hw hh hc).2 hk), hol2]
    · simp only [cond_true, List.append_nil]
      exact ⟨h1, h2⟩
  · intro hI
    rw [List.take_length] at hI
    generalize (List.range' 0 ss.length).foldl (ownS w h f ss) ([], zF) = st at hI
    obtain ⟨o, ow⟩ := st
    obtain ⟨h1, h2⟩ := hI
    dsimp only at h1 h2
    subst h1
    show f_sJobsFor_n9 d (ss.length : Nat) w h f (ss.map (rowZ w h f)) ((fullOf f ss).map (rowZ w h f)) ow = _
    unfold f_sJobsFor_n9 jobsR
    rw [List.length_map, lt_neg, cond_false, List.length_map]
    by_cases hn : (((fullOf f ss).length : Nat) : Int) > 12
    · rw [decide_eq_true hn]; rfl
    · rw [decide_eq_false hn]
      simp only [cond_false]
      rw [s21_ok hw hh (full_ok hw hh hp) h2 (by omega) hd]
      rfl

/-! ### The program -/
theorem i16_ok {fs : List Nat} (hP : FullP w h f fs) {d : Int} {i : Nat} {out : List (Int × Int)} {dd : Int} (h12 : fs.length ≤ 12) (hi : i < fs.length) (ho : out.length ≤ 100) :
    f_iJobsFor_run16 (d, ((fs.length : Nat) : Int), (i : Int), ((fs.length : Nat) : Int), 0, (w : Int), (h : Int), f, fs.map (rowZ w h f), out, rowZ w h f (fs.getD i 0), dd, 0) = some (.inl (d, ((fs.length : Nat) : Int), ((i + 1 : Nat) : Int), (w : Int), (h : Int), f, fs.map (rowZ w h f), out ++ [(dd, ((maskOf w h f fs i : Nat) : Int))])) := by
  have hci := hP.cell _ (getD_mem' (d := 0) hi)
  obtain ⟨q, q1, q2, q3, q4⟩ := head_ok hw hh (f := f) hci
  unfold f_iJobsFor_run16
  refine (run_countI (step := fun x => f_iJobsFor_n16 x.1 x.2.1 x.2.2.1 x.2.2.2.1 x.2.2.2.2.1 x.2.2.2.2.2.1 x.2.2.2.2.2.2.1 x.2.2.2.2.2.2.2.1 x.2.2.2.2.2.2.2.2.1 x.2.2.2.2.2.2.2.2.2.1 x.2.2.2.2.2.2.2.2.2.2.1 x.2.2.2.2.2.2.2.2.2.2.2.1 x.2.2.2.2.2.2.2.2.2.2.2.2) fs.length (fun k m => (d, ((fs.length : Nat) : Int), (i : Int), ((fs.length : Nat) : Int), (k : Int), (w : Int), (h : Int), f, fs.map (rowZ w h f), out, rowZ w h f (fs.getD i 0), dd, ((m : Nat) : Int))) (fun m k => cond (adjK w h f fs i k) (m ||| 2 ^ k) m) (fun _ m => m < 4096) (.inl (d, ((fs.length : Nat) : Int), ((i + 1 : Nat) : Int), (w : Int), (h : Int), f, fs.map (rowZ w h f), out ++ [(dd, ((maskOf w h f fs i : Nat) : Int))])) 0 (by omega) (by omega) ?_ ?_).trans rfl
  · intro k m hk hm
    have hck := hP.cell _ (getD_mem' (d := 0) hk)
    obtain ⟨p, p1, p2, p3, p4⟩ := head_ok hw hh (f := f) hck
    have hkl : k < (fs.map (rowZ w h f)).length := by rw [List.length_map]; exact hk
    have hn := near_ok hw hh (f := f) (own := rowN w h f (fs.getD i 0)) (other := rowN w h f (fs.getD k 0)) (fun c hc => rowN_cell hw hh hci hc) (by have := rowN_len w h f (fs.getD i 0); omega) (by have := rowN_len w h f (fs.getD k 0); omega)
    have hn : s_iareNeighbours (w : Int) (h : Int) f (rowZ w h f (fs.getD i 0)) (rowZ w h f (fs.getD k 0)) = _ := hn
    show f_iJobsFor_n16 d (fs.length : Nat) i (fs.length : Nat) k w h f (fs.map (rowZ w h f)) out (rowZ w h f (fs.getD i 0)) dd (m : Int) = _ ∧ _
    unfold f_iJobsFor_n16 adjK
    rw [lt_true hk, inB_nat hkl, toNat_nat, row_at hw hh hk, show inB 0 (rowZ w h f (fs.getD k 0)).length = true from inB_nat (i := 0) p4, p1, inB_nat p2, show inB 0 (rowZ w h f (fs.getD i 0)).length = true from inB_nat (i := 0) q4, q1, inB_nat q2, toNat_nat, toNat_nat, p3, q3, hn, IntWalk.i64_in ((k : Int) + 1) (by omega), decide_eq_false (show ¬ (k : Int) < 0 by omega)]
    simp only [cond_true, cond_false, Option.bind]
    cases decide (f (fs.getD k 0) < f (fs.getD i 0))
    · exact ⟨rfl, hm⟩
    · cases adjB w h (rowN w h f (fs.getD i 0)) (rowN w h f (fs.getD k 0))
      · exact ⟨rfl, hm⟩
      · rw [bor_ok hm (show k < 12 by omega)]
        exact ⟨rfl, Nat.or_lt_two_pow (n := 12) hm (Nat.pow_lt_pow_right (by decide) (by omega))⟩
  · intro _
    rw [fold_adj]
    show f_iJobsFor_n16 d (fs.length : Nat) i (fs.length : Nat) (fs.length : Nat) w h f (fs.map (rowZ w h f)) out (rowZ w h f (fs.getD i 0)) dd _ = _
    unfold f_iJobsFor_n16
    rw [lt_neg, cond_false, fits_small (by simp; omega), cond_true, IntWalk.i64_in ((i : Int) + 1) (by omega)]
    rfl
theorem i9_ok {fs : List Nat} (hP : FullP w h f fs) {d : Int} (h12 : fs.length ≤ 12) (hd : d ≠ 0) : f_iJobsFor_run9 (d, ((fs.length : Nat) : Int), 0, (w : Int), (h : Int), f, fs.map (rowZ w h f), []) = some (jobsG (fun i => daysOf (rowLen w h f fs i) d) (fun i => ((maskOf w h f fs i : Nat) : Int)) fs.length 0 []) := by
  unfold f_iJobsFor_run9
  refine iter_jobs (step := fun x => f_iJobsFor_n9 x.1 x.2.1 x.2.2.1 x.2.2.2.1 x.2.2.2.2.1 x.2.2.2.2.2.1 x.2.2.2.2.2.2.1 x.2.2.2.2.2.2.2) (fun i out => (d, ((fs.length : Nat) : Int), (i : Int), (w : Int), (h : Int), f, fs.map (rowZ w h f), out)) _ _ fs.length ?_ ?_ fs.length 0 FU [] (by omega) (FU_big (pow_big (by omega))) (Nat.le_refl _)
  · intro i out hi ho
    have hil : i < (fs.map (rowZ w h f)).length := by rw [List.length_map]; exact hi
    show f_iJobsFor_n9 d (fs.length : Nat) i w h f (fs.map (rowZ w h f)) out = _
    unfold f_iJobsFor_n9
    rw [lt_true hi, inB_nat hil, toNat_nat, row_at hw hh hi, decide_eq_false hd]
    simp only [cond_true, cond_false]
    rw [List.length_map, i16_ok hw hh hP h12 hi (by omega)]
    unfold daysOf rowLen
    cases decide (IntKind.wrap .i64 (Int.tdiv (IntKind.wrap .i64 ((IntKind.wrap .i64 (((List.length (rowZ w h f (fs.getD i 0)) : Nat) : Int) + d)) - 1)) d) > 30) <;> rfl
  · intro out
    show f_iJobsFor_n9 d (fs.length : Nat) (fs.length : Nat) w h f (fs.map (rowZ w h f)) out = _
    unfold f_iJobsFor_n9
    rw [lt_neg, cond_false]
end
end Go.RR
