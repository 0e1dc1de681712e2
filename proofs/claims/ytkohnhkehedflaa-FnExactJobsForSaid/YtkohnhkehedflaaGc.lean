/- Plain laws of JobsFor: the reference. No condition; no theorem of the program. -/
import Derived.Test.YtkohnhkehedflaaGb
set_option linter.unusedVariables false
set_option linter.unusedSimpArgs false
namespace Go.RR
open Go

/-! ### Jobs one by one -/
def jobsG (D M : Nat → Int) : Nat → Nat → List (Int × Int) → List (Int × Int) × Int
  | 0, _, out => (out, 0)
  | k + 1, i, out => cond (decide (D i > 30)) ([], 3) (jobsG D M k (i + 1) (out ++ [(IntKind.wrap .i8 (D i), M i)]))
theorem jobsG_len {D M : Nat → Int} : ∀ (k i : Nat) (out : List (Int × Int)), (jobsG D M k i out).1.length ≤ out.length + k
  | 0, _, out => Nat.le_refl _
  | k + 1, i, out => by
    unfold jobsG
    cases decide (D i > 30)
    · have := jobsG_len (D := D) (M := M) k (i + 1) (out ++ [(IntKind.wrap .i8 (D i), M i)])
      rw [List.length_append, List.length_singleton] at this
      rw [cond_false]; omega
    · exact Nat.zero_le _
theorem iter_jobs {σ : Type} {step : σ → Option (σ ⊕ (List (Int × Int) × Int))} (emb : Nat → List (Int × Int) → σ) (D M : Nat → Int) (N : Nat) (hs : ∀ i out, i < N → out.length ≤ i → step (emb i out) = some (cond (decide (D i > 30)) (.inr ([], 3)) (.inl (emb (i + 1) (out ++ [(IntKind.wrap .i8 (D i), M i)]))))) (he : ∀ out, step (emb N out) = some (.inr (out, 0))) :
    ∀ (k i m : Nat) (out : List (Int × Int)), i + k = N → k < m → out.length ≤ i → iter step m (emb i out) = some (jobsG D M k i out)
  | 0, i, m + 1, out, h, hm, _ => by
    obtain rfl : i = N := h
    unfold iter
    rw [he]; rfl
  | k + 1, i, m + 1, out, h, hm, ho => by
    unfold iter jobsG
    rw [hs i out (by omega) ho]
    cases decide (D i > 30)
    · exact iter_jobs emb D M N hs he k (i + 1) m _ (by omega) (by omega) (by rw [List.length_append, List.length_singleton]; omega)
    · rfl
  | _, _, 0, _, _, hm, _ => by omega
/-- The days of a job of so many cells. -/
def daysOf (n : Nat) (d : Int) : Int := IntKind.wrap .i64 (Int.tdiv (IntKind.wrap .i64 ((IntKind.wrap .i64 (((n : Nat) : Int) + d)) - 1)) d)

/-! ### Owners of cells -/
def marks (o : Nat → Int) (l : List Nat) (v : Int) : Nat → Int := l.foldl (fun o k => upd o k v) o
theorem marks_at (v : Int) (k : Nat) : ∀ (l : List Nat) (o : Nat → Int), marks o l v k = if k ∈ l then v else o k
  | [], o => by simp [marks]
  | a :: l, o => by
    show marks (upd o a v) l v k = _
    rw [marks_at v k l]
    unfold upd
    by_cases e : k = a
    · subst e; rw [show Nat.beq k k = true from Nat.beq_refl k]; simp
    · rw [show Nat.beq k a = false from beqF e]; simp [e]
structure FullP (w h : Nat) (f : Nat → Int) (fs : List Nat) : Prop where
  cell : ∀ s ∈ fs, isC w h s
  full : ∀ s ∈ fs, f s ≠ 0
  all : ∀ k, isC w h k → f k ≠ 0 → ∃ j, j < fs.length ∧ k ∈ comp w h f (fs.getD j 0)
def OwnP (w h : Nat) (f : Nat → Int) (fs : List Nat) (ow : Nat → Int) : Prop := ∀ j, j < fs.length → ∀ k ∈ comp w h f (fs.getD j 0), ow k = (j : Int)
def bitsC (w h : Nat) (f : Nat → Int) (ow : Nat → Int) (c : Nat) : List Nat := ((nb w h c).filter fun n => f n != 0 && decide (f n < f c)).map fun n => Int.toNat (ow n)
def adjK (w h : Nat) (f : Nat → Int) (fs : List Nat) (i k : Nat) : Bool := decide (f (fs.getD k 0) < f (fs.getD i 0)) && adjB w h (rowN w h f (fs.getD i 0)) (rowN w h f (fs.getD k 0))
def maskOf (w h : Nat) (f : Nat → Int) (fs : List Nat) (i : Nat) : Nat := orF 0 ((List.range' 0 fs.length).filter (adjK w h f fs i))
def stepM (f : Nat → Int) (ow : Nat → Int) (c m n : Nat) : Nat := cond (f n != 0 && decide (f n < f c)) (m ||| 2 ^ Int.toNat (ow n)) m
theorem fold_bits (f ow : Nat → Int) (c : Nat) : ∀ (l : List Nat) (m : Nat), l.foldl (stepM f ow c) m = orF m ((l.filter fun n => f n != 0 && decide (f n < f c)).map fun n => Int.toNat (ow n))
  | [], m => rfl
  | n :: l, m => by
    rw [List.foldl_cons, fold_bits f ow c l, List.filter_cons]
    unfold stepM
    cases f n != 0 && decide (f n < f c)
    · rfl
    · rfl
theorem fold_or (p : Nat → List Nat) : ∀ (l : List Nat) (m : Nat), l.foldl (fun m c => orF m (p c)) m = orF m (l.flatMap p)
  | [], m => rfl
  | c :: l, m => by
    rw [List.foldl_cons, fold_or p l, List.flatMap_cons]
    unfold orF
    rw [List.foldl_append]
section
variable {w h : Nat} (hw : w ≤ 12) (hh : h ≤ 12) {f : Nat → Int} {fs : List Nat} (hP : FullP w h f fs) {ow : Nat → Int} (hO : OwnP w h f fs ow)
include hw hh hP hO
theorem own_at {n : Nat} (hn : isC w h n) (hf : f n ≠ 0) : ∃ j, j < fs.length ∧ n ∈ comp w h f (fs.getD j 0) ∧ ow n = (j : Int) := by
  have _ := hw
  have _ := hh
  obtain ⟨j, h1, h2⟩ := hP.all n hn hf
  exact ⟨j, h1, h2, hO j h1 n h2⟩
theorem mask_eq' {i : Nat} (hi : i < fs.length) : orF 0 ((rowN w h f (fs.getD i 0)).flatMap (bitsC w h f ow)) = maskOf w h f fs i := by
  have hci := hP.cell _ (getD_mem' (d := 0) hi)
  unfold maskOf
  apply orF_congr
  intro j
  rw [List.mem_flatMap, List.mem_filter, List.mem_range'_1]
  unfold bitsC adjK adjB
  constructor
  · rintro ⟨c, hc, hj⟩
    obtain ⟨n, hn, rfl⟩ := List.mem_map.1 hj
    obtain ⟨hn1, hn2⟩ := List.mem_filter.1 hn
    rw [Bool.and_eq_true, decide_eq_true_eq] at hn2
    have hnc := nb_cell hw (rowN_cell hw hh hci hc) hn1
    have hf0 : f n ≠ 0 := by simpa using hn2.1
    obtain ⟨j', q1, q2, q3⟩ := own_at hw hh hP hO hnc hf0
    have hcj := hP.cell _ (getD_mem' (d := 0) q1)
    have hr := (rowN_mem hw hh hcj).2 q2
    rw [q3, toNat_nat]
    refine ⟨⟨Nat.zero_le _, by omega⟩, ?_⟩
    rw [Bool.and_eq_true, decide_eq_true_eq, ← rowN_col hw hh hcj hr, ← rowN_col hw hh hci hc]
    exact ⟨hn2.2, List.any_eq_true.2 ⟨c, hc, List.any_eq_true.2 ⟨n, hn1, by simpa using hr⟩⟩⟩
  · rintro ⟨⟨_, hj⟩, ha⟩
    have hj : j < fs.length := by omega
    rw [Bool.and_eq_true, decide_eq_true_eq] at ha
    obtain ⟨c, hc, ha2⟩ := List.any_eq_true.1 ha.2
    obtain ⟨n, hn, hr⟩ := List.any_eq_true.1 ha2
    have hr : n ∈ rowN w h f (fs.getD j 0) := by simpa using hr
    have hcj := hP.cell _ (getD_mem' (d := 0) hj)
    have hfn := rowN_col hw hh hcj hr
    refine ⟨c, hc, List.mem_map.2 ⟨n, List.mem_filter.2 ⟨hn, ?_⟩, ?_⟩⟩
    · rw [Bool.and_eq_true, decide_eq_true_eq, hfn, rowN_col hw hh hci hc]
      exact ⟨by simpa using hP.full _ (getD_mem' (d := 0) hj), ha.1⟩
    · rw [hO j hj n ((rowN_mem hw hh hcj).1 hr), toNat_nat]
theorem s32_ok {d : Int} {i p m : Nat} {out : List (Int × Int)} {dd : Int} (h12 : fs.length ≤ 12) (hi : i < fs.length) (hp : p < (rowN w h f (fs.getD i 0)).length) (hm : m < 4096) :
    f_sJobsFor_run32 (d, (i : Int), (p : Int), 0, (w : Int), (h : Int), f, fs.map (rowZ w h f), ow, out, dd, (m : Int), cst (nb w h ((rowN w h f (fs.getD i 0)).getD p 0))) = some (.inl (d, (i : Int), ((p + 1 : Nat) : Int), (w : Int), (h : Int), f, fs.map (rowZ w h f), ow, out, dd, ((orF m (bitsC w h f ow ((rowN w h f (fs.getD i 0)).getD p 0)) : Nat) : Int))) ∧ orF m (bitsC w h f ow ((rowN w h f (fs.getD i 0)).getD p 0)) < 4096 := by
  have hci := hP.cell _ (getD_mem' (d := 0) hi)
  have hcm := getD_mem' (d := 0) hp
  have hcc := rowN_cell hw hh hci hcm
  have hc4 := rowN_lt hw hh hci hcm
  have hl144 := rowN_len w h f (fs.getD i 0)
  have hrow : (fs.map (rowZ w h f)).getD i [] = rowZ w h f (fs.getD i 0) := by
    rw [List.getD_eq_getElem?_getD, List.getElem?_map, List.getElem?_eq_getElem hi]
    simp [List.getD_eq_getElem?_getD, List.getElem?_eq_getElem hi]
  have hzl : p < (rowZ w h f (fs.getD i 0)).length := by unfold rowZ; rw [cst_len]; exact hp
  have hzg : (rowZ w h f (fs.getD i 0)).getD p 0 = (((rowN w h f (fs.getD i 0)).getD p 0 : Nat) : Int) := cst_get _ _
  have hil : i < (fs.map (rowZ w h f)).length := by rw [List.length_map]; exact hi
  generalize (rowN w h f (fs.getD i 0)).getD p 0 = c at *
  have hbits : ∀ n ∈ nb w h c, f n ≠ 0 → ∃ j : Nat, ow n = (j : Int) ∧ j < 12 := fun n hn hf => by
    obtain ⟨j, q1, _, q3⟩ := own_at hw hh hP hO (nb_cell hw hcc hn) hf
    exact ⟨j, q3, by omega⟩
  have hlt : orF m (bitsC w h f ow c) < 4096 := by
    refine orF_lt _ _ hm fun k hk => ?_
    obtain ⟨n, hn, rfl⟩ := List.mem_map.1 hk
    obtain ⟨hn1, hn2⟩ := List.mem_filter.1 hn
    rw [Bool.and_eq_true] at hn2
    obtain ⟨j, q1, q2⟩ := hbits n hn1 (by simpa using hn2.1)
    rw [q1, toNat_nat]; exact q2
  refine ⟨?_, hlt⟩
  have hnl := nb_len w h c
  unfold f_sJobsFor_run32
  refine (run_countI (step := fun x => f_sJobsFor_n32 x.1 x.2.1 x.2.2.1 x.2.2.2.1 x.2.2.2.2.1 x.2.2.2.2.2.1 x.2.2.2.2.2.2.1 x.2.2.2.2.2.2.2.1 x.2.2.2.2.2.2.2.2.1 x.2.2.2.2.2.2.2.2.2.1 x.2.2.2.2.2.2.2.2.2.2.1 x.2.2.2.2.2.2.2.2.2.2.2.1 x.2.2.2.2.2.2.2.2.2.2.2.2) (nb w h c).length (fun j m => (d, (i : Int), (p : Int), (j : Int), (w : Int), (h : Int), f, fs.map (rowZ w h f), ow, out, dd, ((m : Nat) : Int), cst (nb w h c))) (fun m j => stepM f ow c m ((nb w h c).getD j 0)) (fun _ m => m < 4096) (.inl (d, (i : Int), ((p + 1 : Nat) : Int), (w : Int), (h : Int), f, fs.map (rowZ w h f), ow, out, dd, ((orF m (bitsC w h f ow c) : Nat) : Int))) m (by omega) hm ?_ ?_).trans rfl
  · intro j m hj hm
    have hn := getD_mem' (d := 0) hj
    have hjl : j < (cst (nb w h c)).length := by rw [cst_len]; exact hj
    have hg := cst_get (nb w h c) j
    generalize (nb w h c).getD j 0 = n at hn hg
    have hn4 := isC_lt hh (nb_cell hw hcc hn)
    show f_sJobsFor_n32 d i p j w h f (fs.map (rowZ w h f)) ow out dd (m : Int) (cst (nb w h c)) = _ ∧ _
    unfold f_sJobsFor_n32 stepM
    rw [lt_true hjl, inB_nat hjl, toNat_nat, hg, inB_nat hn4, toNat_nat, inB_nat hil, toNat_nat, hrow, inB_nat hzl, toNat_nat, hzg, inB_nat hc4, toNat_nat, IntWalk.i64_in ((j : Int) + 1) (by omega)]
    simp only [cond_true]
    by_cases hf : f n = 0
    · rw [show (f n != 0) = false by simp [hf]]
      exact ⟨rfl, hm⟩
    · rw [show (f n != 0) = true by simp [hf], Bool.true_and]
      obtain ⟨k, q1, q2⟩ := hbits n hn hf
      cases hlt : decide (f n < f c)
      · exact ⟨rfl, hm⟩
      · rw [q1, IntWalk.u64_in (k : Int) (by omega), decide_eq_false (show ¬ (k : Int) < 0 by omega), bor_ok hm q2, toNat_nat]
        exact ⟨rfl, Nat.or_lt_two_pow (n := 12) hm (Nat.pow_lt_pow_right (by decide) q2)⟩
  · intro _
    rw [foldl_getD 0 (stepM f ow c), fold_bits]
    show f_sJobsFor_n32 d i p ((nb w h c).length : Nat) w h f (fs.map (rowZ w h f)) ow out dd _ (cst (nb w h c)) = _
    unfold f_sJobsFor_n32
    rw [cst_len, lt_neg, cond_false, IntWalk.i64_in ((p : Int) + 1) (by omega)]
    rfl
theorem s28_ok {d : Int} {i : Nat} {out : List (Int × Int)} {dd : Int} (h12 : fs.length ≤ 12) (hi : i < fs.length) (ho : out.length ≤ 100) :
    f_sJobsFor_run28 (d, (i : Int), 0, (w : Int), (h : Int), f, fs.map (rowZ w h f), ow, out, dd, 0) = some (.inl (d, ((i + 1 : Nat) : Int), (w : Int), (h : Int), f, fs.map (rowZ w h f), ow, out ++ [(dd, ((maskOf w h f fs i : Nat) : Int))])) := by
  have hci := hP.cell _ (getD_mem' (d := 0) hi)
  have hl144 := rowN_len w h f (fs.getD i 0)
  have hrow : (fs.map (rowZ w h f)).getD i [] = rowZ w h f (fs.getD i 0) := by
    rw [List.getD_eq_getElem?_getD, List.getElem?_map, List.getElem?_eq_getElem hi]
    simp [List.getD_eq_getElem?_getD, List.getElem?_eq_getElem hi]
  have hzlen : (rowZ w h f (fs.getD i 0)).length = (rowN w h f (fs.getD i 0)).length := cst_len _
  have hil : i < (fs.map (rowZ w h f)).length := by rw [List.length_map]; exact hi
  rw [← mask_eq' hw hh hP hO hi]
  unfold f_sJobsFor_run28
  refine (run_countI (step := fun x => f_sJobsFor_n28 x.1 x.2.1 x.2.2.1 x.2.2.2.1 x.2.2.2.2.1 x.2.2.2.2.2.1 x.2.2.2.2.2.2.1 x.2.2.2.2.2.2.2.1 x.2.2.2.2.2.2.2.2.1 x.2.2.2.2.2.2.2.2.2.1 x.2.2.2.2.2.2.2.2.2.2) (rowN w h f (fs.getD i 0)).length (fun p m => (d, (i : Int), (p : Int), (w : Int), (h : Int), f, fs.map (rowZ w h f), ow, out, dd, ((m : Nat) : Int))) (fun m p => orF m (bitsC w h f ow ((rowN w h f (fs.getD i 0)).getD p 0))) (fun _ m => m < 4096) (.inl (d, ((i + 1 : Nat) : Int), (w : Int), (h : Int), f, fs.map (rowZ w h f), ow, out ++ [(dd, ((orF 0 ((rowN w h f (fs.getD i 0)).flatMap (bitsC w h f ow)) : Nat) : Int))])) 0 (by omega) (by omega) ?_ ?_).trans rfl
  · intro p m hp hm
    obtain ⟨k1, k2⟩ := s32_ok hw hh hP hO (d := d) (out := out) (dd := dd) h12 hi hp hm
    refine ⟨?_, k2⟩
    have hzl : p < (rowZ w h f (fs.getD i 0)).length := by rw [hzlen]; exact hp
    have hzg : (rowZ w h f (fs.getD i 0)).getD p 0 = (((rowN w h f (fs.getD i 0)).getD p 0 : Nat) : Int) := cst_get _ _
    show f_sJobsFor_n28 d i p w h f (fs.map (rowZ w h f)) ow out dd (m : Int) = _
    unfold f_sJobsFor_n28
    rw [inB_nat hil, toNat_nat, hrow, lt_true hzl, inB_nat hzl, toNat_nat, hzg, sbeside_ok hw hh (rowN_cell hw hh hci (getD_mem' (d := 0) hp))]
    simp only [cond_true, Option.bind]
    exact k1
  · intro _
    rw [foldl_getD 0 (fun m c => orF m (bitsC w h f ow c)), fold_or]
    show f_sJobsFor_n28 d i ((rowN w h f (fs.getD i 0)).length : Nat) w h f (fs.map (rowZ w h f)) ow out dd _ = _
    unfold f_sJobsFor_n28
    rw [inB_nat hil, toNat_nat, hrow, hzlen, lt_neg, cond_true, cond_false, fits_small (by simp; omega), cond_true, IntWalk.i64_in ((i : Int) + 1) (by omega)]
    rfl
def rowLen (w h : Nat) (f : Nat → Int) (fs : List Nat) (i : Nat) : Nat := (rowZ w h f (fs.getD i 0)).length
theorem s21_ok {d : Int} (h12 : fs.length ≤ 12) (hd : d ≠ 0) : f_sJobsFor_run21 (d, 0, (w : Int), (h : Int), f, fs.map (rowZ w h f), ow, []) = some (jobsG (fun i => daysOf (rowLen w h f fs i) d) (fun i => ((maskOf w h f fs i : Nat) : Int)) fs.length 0 []) := by
  unfold f_sJobsFor_run21
  refine iter_jobs (step := fun x => f_sJobsFor_n21 x.1 x.2.1 x.2.2.1 x.2.2.2.1 x.2.2.2.2.1 x.2.2.2.2.2.1 x.2.2.2.2.2.2.1 x.2.2.2.2.2.2.2) (fun i out => (d, (i : Int), (w : Int), (h : Int), f, fs.map (rowZ w h f), ow, out)) _ _ fs.length ?_ ?_ fs.length 0 FU [] (by omega) (FU_big (pow_big (by omega))) (Nat.le_refl _)
  · intro i out hi ho
    have hil : i < (fs.map (rowZ w h f)).length := by rw [List.length_map]; exact hi
    have hrow : (fs.map (rowZ w h f)).getD i [] = rowZ w h f (fs.getD i 0) := by
      rw [List.getD_eq_getElem?_getD, List.getElem?_map, List.getElem?_eq_getElem hi]
      simp [List.getD_eq_getElem?_getD, List.getElem?_eq_getElem hi]
    show f_sJobsFor_n21 d i w h f (fs.map (rowZ w h f)) ow out = _
    unfold f_sJobsFor_n21
    rw [lt_true hil, inB_nat hil, toNat_nat, hrow, decide_eq_false hd]
    simp only [cond_true, cond_false]
    rw [s28_ok hw hh hP hO h12 hi (by omega)]
    unfold daysOf rowLen
    cases decide (IntKind.wrap .i64 (Int.tdiv (IntKind.wrap .i64 ((IntKind.wrap .i64 (((List.length (rowZ w h f (fs.getD i 0)) : Nat) : Int) + d)) - 1)) d) > 30) <;> rfl
  · intro out
    show f_sJobsFor_n21 d (fs.length : Nat) w h f (fs.map (rowZ w h f)) ow out = _
    unfold f_sJobsFor_n21
    rw [List.length_map, lt_neg, cond_false]
end
end Go.RR
