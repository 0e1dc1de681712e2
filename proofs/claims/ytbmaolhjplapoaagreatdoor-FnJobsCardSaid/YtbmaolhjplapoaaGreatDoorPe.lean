/- Plain facts of fields: which are bare, which are neighbours. No condition. -/
import Derived.Test.YtbmaolhjplapoaaGreatDoorPa
import Derived.Test.YtbmaolhjplapoaaGreatDoorVh
import Derived.Test.YtbmaolhjplapoaaGreatDoorVg
set_option linter.unusedVariables false
set_option linter.unusedSimpArgs false
namespace Go.RR
open Go
theorem idx_any {α : Type} {step : α → Option (α ⊕ Int)} {r : Option Int} (N : Nat) (hN : N ≤ 1000000) (emb : Nat → α) (q : Nat → Bool) (hs : ∀ i, i < N → step (emb i) = some (cond (q i) (.inr (i : Int)) (.inl (emb (i + 1))))) (he : step (emb N) = some (.inr (-1))) (hr : iter step FU (emb 0) = r) :
  (Option.bind r fun r1 => (some (decide (r1 ≥ 0)))) = some ((List.range' 0 N).any q) := by
 obtain ⟨k, h1, h2, _⟩ := run_idx (step := step) N emb q hs he N 0 FU (by omega) (FU_big (pow_big (by omega)))
 rw [← hr, h1]
 show some (decide (k ≥ 0)) = _
 rw [h2]
theorem any_cst (l : List Nat) (p : Nat → Bool) : (List.range' 0 l.length).any (fun i => p (l.getD i 0)) = l.any p := any_getD 0 l p
theorem has_ok {l other : List Nat} (hl : l.length ≤ 1000) (ho : other.length ≤ 1000) : s_q01 (cst l) (cst other) = some (l.any fun n => other.contains n) := by
 unfold s_q01
 rw [← any_cst]
 refine idx_any (step := fun x => f_q05_n2 x.1 x.2.1 x.2.2.1 x.2.2.2) l.length (by omega) (fun i => (((cst l).length : Nat), (i : Int), cst l, cst other)) (fun i => other.contains (l.getD i 0)) ?_ ?_ rfl
 ·intro i hi
  have hil : i < (cst l).length := by rw [cst_len]; exact hi
  show f_q05_n2 ((cst l).length : Nat) (i : Int) (cst l) (cst other) = _
  unfold f_q05_n2 s_q06
  rw [lt_true hil, inB_nat hil, toNat_nat, cst_get, contains_ok (by rw [cst_len]; omega), contains_cst, IntWalk.i64_in ((i : Int) + 1) (by omega)]
  simp only [cond_true, Option.bind]
  cases other.contains (l.getD i 0) <;> rfl
 ·show f_q05_n2 ((cst l).length : Nat) (l.length : Nat) (cst l) (cst other) = _
  unfold f_q05_n2
  rw [cst_len, lt_neg, cond_false]
def adjB (w h : Nat) (own other : List Nat) : Bool := own.any fun c => (nb w h c).any fun n => other.contains n
section
variable {w h : Nat} (hw : w ≤ 12) (hh : h ≤ 12) {f : Nat → Int}
include hw hh
theorem near_ok {own other : List Nat} (hc : ∀ c ∈ own, isC w h c) (hl : own.length ≤ 1000) (ho : other.length ≤ 1000) : s_q0g (w : Int) (h : Int) f (cst own) (cst other) = some (adjB w h own other) := by
 unfold s_q0g s_q00 adjB
 rw [← any_cst]
 have key := idx_any (step := fun x => f_q04_n2 x.1 x.2.1 x.2.2.1 x.2.2.2.1 x.2.2.2.2.1 x.2.2.2.2.2.1 x.2.2.2.2.2.2) (r := s_q04 (cst own) (w : Int) (h : Int) f (cst other)) own.length (by omega) (fun i => (((cst own).length : Nat), (i : Int), cst own, (w : Int), (h : Int), f, cst other)) (fun i => (nb w h (own.getD i 0)).any fun n => other.contains n) ?_ ?_ rfl
 ·rw [key]; rfl
 ·intro i hi
  have hil : i < (cst own).length := by rw [cst_len]; exact hi
  have hcc := hc _ (getD_mem' (d := 0) hi)
  show f_q04_n2 ((cst own).length : Nat) (i : Int) (cst own) (w : Int) (h : Int) f (cst other) = _
  unfold f_q04_n2 s_q0a
  have hn := nb_len w h (own.getD i 0)
  rw [lt_true hil, inB_nat hil, toNat_nat, cst_get, ibeside_ok hw hh hcc, IntWalk.i64_in ((i : Int) + 1) (by omega)]
  simp only [cond_true, Option.bind]
  rw [has_ok (by omega) ho]
  simp only [Option.bind]
  cases (nb w h (own.getD i 0)).any fun n => other.contains n <;> rfl
 ·show f_q04_n2 ((cst own).length : Nat) (own.length : Nat) (cst own) (w : Int) (h : Int) f (cst other) = _
  unfold f_q04_n2
  rw [cst_len, lt_neg, cond_false]
theorem head_ok {s : Nat} (hs : isC w h s) : ∃ k : Nat, (rowZ w h f s).getD 0 0 = (k : Int) ∧ k < 144 ∧ f k = f s ∧ 0 < (rowZ w h f s).length := by
 have hp := rowN_pos hw hh (f := f) hs
 have hm := getD_mem' (d := 0) hp
 refine ⟨(rowN w h f s).getD 0 0, cst_get _ _, rowN_lt hw hh hs hm, rowN_col hw hh hs hm, by unfold rowZ; rw [cst_len]; exact hp⟩
theorem valid_row {s : Nat} (hs : isC w h s) : validR (rowZ w h f s) = true := by
 obtain ⟨k, h1, h2, _, h4⟩ := head_ok hw hh (f := f) hs
 unfold validR headOf
 rw [h1, inB_nat h2, show inB 0 (rowZ w h f s).length = true from inB_nat (i := 0) h4]
 rfl
theorem bare_row {s : Nat} (hs : isC w h s) : bareR f (rowZ w h f s) = (f s == 0) := by
 obtain ⟨k, h1, h2, h3, h4⟩ := head_ok hw hh (f := f) hs
 unfold bareR headOf
 rw [h1, toNat_nat, h3]
def fullOf (f : Nat → Int) (ss : List Nat) : List Nat := ss.filter fun s => !(f s == 0)
theorem drop_rows {ss : List Nat} (hc : ∀ s ∈ ss, isC w h s) : dropR (bareR f) (ss.map (rowZ w h f)) = (fullOf f ss).map (rowZ w h f) := by
 unfold dropR fullOf
 rw [List.filter_map]
 congr 1
 apply List.filter_congr
 intro s hs
 show (!bareR f (rowZ w h f s)) = _
 rw [bare_row hw hh (hc s hs)]
theorem del_ok {ss : List Nat} (hc : ∀ s ∈ ss, isC w h s) (hl : ss.length ≤ 144) (hp : 0 < ss.length) (a1 a2 : Int) : s_gDeleteFunc (ss.map (rowZ w h f)) a1 a2 f = some ((fullOf f ss).map (rowZ w h f), a1, a2, f) := by
 unfold s_gDeleteFunc
 rw [List.length_map, show Nat.blt 0 ss.length = true from Nat.ble_eq_true_of_le hp, show Nat.ble ss.length 1000000 = true by rw [Nat.ble_eq]; omega, show (ss.map (rowZ w h f)).all validR = true from List.all_eq_true.2 fun r hr => by
  obtain ⟨s, hs, rfl⟩ := List.mem_map.1 hr
  exact valid_row hw hh (hc s hs)]
 rw [drop_rows hw hh hc]
 rfl
end
end Go.RR
namespace Go.RR
open Go
def jobsG (D M : Nat → Int) : Nat → Nat → List (Int × Int) → List (Int × Int) × Int
 | 0, _, out => (out, 0)
 | k + 1, i, out => cond (decide (D i > 30)) ([], 3) (jobsG D M k (i + 1) (out ++ [(IntKind.wrap .i8 (D i), M i)]))
theorem jobsG_len {D M : Nat → Int} : ∀ (k i : Nat) (out : List (Int × Int)), (jobsG D M k i out).1.length ≤ out.length + k
 | 0, _, out => Nat.le_refl _
 | k + 1, i, out => by
  unfold jobsG
  cases decide (D i > 30)
  ·have := jobsG_len (D := D) (M := M) k (i + 1) (out ++ [(IntKind.wrap .i8 (D i), M i)])
   rw [List.length_append, List.length_singleton] at this
   rw [cond_false]; omega
  ·exact Nat.zero_le _
theorem iter_jobs {σ : Type} {step : σ → Option (σ ⊕ (List (Int × Int) × Int))} (emb : Nat → List (Int × Int) → σ) (D M : Nat → Int) (N : Nat) (hs : ∀ i out, i < N → out.length ≤ i → step (emb i out) = some (cond (decide (D i > 30)) (.inr ([], 3)) (.inl (emb (i + 1) (out ++ [(IntKind.wrap .i8 (D i), M i)]))))) (he : ∀ out, step (emb N out) = some (.inr (out, 0))) :
  ∀ (k i m : Nat) (out : List (Int × Int)), i + k = N → k < m → out.length ≤ i → iter step m (emb i out) = some (jobsG D M k i out)
 | 0, i, m + 1, out, h, hm, _ => by
  obtain rfl : i = N := h
  unfold iter
  rw [he]; rfl
 | k + 1, i, m + 1, out, h, hm, ho => by
  unfold iter jobsG
  rw [hs i out (by omega) ho]
  cases decide (D i > 30)
  ·exact iter_jobs emb D M N hs he k (i + 1) m _ (by omega) (by omega) (by rw [List.length_append, List.length_singleton]; omega)
  ·rfl
 | _, _, 0, _, _, hm, _ => by omega
def daysOf (n : Nat) (d : Int) : Int := IntKind.wrap .i64 (Int.tdiv (IntKind.wrap .i64 ((IntKind.wrap .i64 (((n : Nat) : Int) + d)) - 1)) d)
def marks (o : Nat → Int) (l : List Nat) (v : Int) : Nat → Int := l.foldl (fun o k => upd o k v) o
theorem marks_at (v : Int) (k : Nat) : ∀ (l : List Nat) (o : Nat → Int), marks o l v k = if k ∈ l then v else o k
 | [], o => by simp [marks]
 | a :: l, o => by
  show marks (upd o a v) l v k = _
  rw [marks_at v k l]
  unfold upd
  by_cases e : k = a
  ·subst e; rw [show Nat.beq k k = true from Nat.beq_refl k]; simp
  ·rw [show Nat.beq k a = false from beqF e]; simp [e]
structure FullP (w h : Nat) (f : Nat → Int) (fs : List Nat) : Prop where
 cell : ∀ s ∈ fs, isC w h s
 full : ∀ s ∈ fs, f s ≠ 0
 all : ∀ k, isC w h k → f k ≠ 0 → ∃ j, j < fs.length ∧ k ∈ comp w h f (fs.getD j 0)
def OwnP (w h : Nat) (f : Nat → Int) (fs : List Nat) (ow : Nat → Int) : Prop := ∀ j, j < fs.length → ∀ k ∈ comp w h f (fs.getD j 0), ow k = (j : Int)
def bitsC (w h : Nat) (f : Nat → Int) (ow : Nat → Int) (c : Nat) : List Nat := ((nb w h c).filter fun n => f n != 0 && decide (f n < f c)).map fun n => Int.toNat (ow n)
def adjK (w h : Nat) (f : Nat → Int) (fs : List Nat) (i k : Nat) : Bool := decide (f (fs.getD k 0) < f (fs.getD i 0)) && adjB w h (rowN w h f (fs.getD i 0)) (rowN w h f (fs.getD k 0))
def maskOf (w h : Nat) (f : Nat → Int) (fs : List Nat) (i : Nat) : Nat := orF 0 ((List.range' 0 fs.length).filter (adjK w h f fs i))
def stepM (f : Nat → Int) (ow : Nat → Int) (c m n : Nat) : Nat := cond (f n != 0 && decide (f n < f c)) (m ||| 2 ^ Int.toNat (ow n)) m
theorem fold_bits (f ow : Nat → Int) (c : Nat) : ∀ (l : List Nat) (m : Nat), l.foldl (stepM f ow c) m = orF m ((l.filter fun n => f n != 0 && decide (f n < f c)).map fun n => Int.toNat (ow n))
 | [], m => rfl
 | n :: l, m => by
  rw [List.foldl_cons, fold_bits f ow c l, List.filter_cons]
  unfold stepM
  cases f n != 0 && decide (f n < f c)
  ·rfl
  ·rfl
theorem fold_or (p : Nat → List Nat) : ∀ (l : List Nat) (m : Nat), l.foldl (fun m c => orF m (p c)) m = orF m (l.flatMap p)
 | [], m => rfl
 | c :: l, m => by
  rw [List.foldl_cons, fold_or p l, List.flatMap_cons]
  unfold orF
  rw [List.foldl_append]
section
variable {w h : Nat} (hw : w ≤ 12) (hh : h ≤ 12) {f : Nat → Int} {fs : List Nat} (hP : FullP w h f fs) {ow : Nat → Int} (hO : OwnP w h f fs ow)
include hw hh hP hO
theorem own_at {n : Nat} (hn : isC w h n) (hf : f n ≠ 0) : ∃ j, j < fs.length ∧ n ∈ comp w h f (fs.getD j 0) ∧ ow n = (j : Int) := by
 have _ := hw
 have _ := hh
 obtain ⟨j, h1, h2⟩ := hP.all n hn hf
 exact ⟨j, h1, h2, hO j h1 n h2⟩
theorem mask_eq' {i : Nat} (hi : i < fs.length) : orF 0 ((rowN w h f (fs.getD i 0)).flatMap (bitsC w h f ow)) = maskOf w h f fs i := by
 have hci := hP.cell _ (getD_mem' (d := 0) hi)
 unfold maskOf
 apply orF_congr
 intro j
 rw [List.mem_flatMap, List.mem_filter, List.mem_range'_1]
 unfold bitsC adjK adjB
 constructor
 ·rintro ⟨c, hc, hj⟩
  obtain ⟨n, hn, rfl⟩ := List.mem_map.1 hj
  obtain ⟨hn1, hn2⟩ := List.mem_filter.1 hn
  rw [Bool.and_eq_true, decide_eq_true_eq] at hn2
  have hnc := nb_cell hw (rowN_cell hw hh hci hc) hn1
  have hf0 : f n ≠ 0 := by simpa using hn2.1
  obtain ⟨j', q1, q2, q3⟩ := own_at hw hh hP hO hnc hf0
  have hcj := hP.cell _ (getD_mem' (d := 0) q1)
  have hr := (rowN_mem hw hh hcj).2 q2
  rw [q3, toNat_nat]
  refine ⟨⟨Nat.zero_le _, by omega⟩, ?_⟩
  rw [Bool.and_eq_true, decide_eq_true_eq, ← rowN_col hw hh hcj hr, ← rowN_col hw hh hci hc]
  exact ⟨hn2.2, List.any_eq_true.2 ⟨c, hc, List.any_eq_true.2 ⟨n, hn1, by simpa using hr⟩⟩⟩
 ·rintro ⟨⟨_, hj⟩, ha⟩
  have hj : j < fs.length := by omega
  rw [Bool.and_eq_true, decide_eq_true_eq] at ha
  obtain ⟨c, hc, ha2⟩ := List.any_eq_true.1 ha.2
  obtain ⟨n, hn, hr⟩ := List.any_eq_true.1 ha2
  have hr : n ∈ rowN w h f (fs.getD j 0) := by simpa using hr
  have hcj := hP.cell _ (getD_mem' (d := 0) hj)
  have hfn := rowN_col hw hh hcj hr
  refine ⟨c, hc, List.mem_map.2 ⟨n, List.mem_filter.2 ⟨hn, ?_⟩, ?_⟩⟩
  ·rw [Bool.and_eq_true, decide_eq_true_eq, hfn, rowN_col hw hh hci hc]
   exact ⟨by simpa using hP.full _ (getD_mem' (d := 0) hj), ha.1⟩
  ·rw [hO j hj n ((rowN_mem hw hh hcj).1 hr), toNat_nat]
theorem s32_ok {d : Int} {i p m : Nat} {out : List (Int × Int)} {dd : Int} (h12 : fs.length ≤ 12) (hi : i < fs.length) (hp : p < (rowN w h f (fs.getD i 0)).length) (hm : m < 4096) :
  f_q1r_run32 (d, (i : Int), (p : Int), 0, (w : Int), (h : Int), f, fs.map (rowZ w h f), ow, out, dd, (m : Int), cst (nb w h ((rowN w h f (fs.getD i 0)).getD p 0))) = some (.inl (d, (i : Int), ((p + 1 : Nat) : Int), (w : Int), (h : Int), f, fs.map (rowZ w h f), ow, out, dd, ((orF m (bitsC w h f ow ((rowN w h f (fs.getD i 0)).getD p 0)) : Nat) : Int))) ∧ orF m (bitsC w h f ow ((rowN w h f (fs.getD i 0)).getD p 0)) < 4096 := by
 have hci := hP.cell _ (getD_mem' (d := 0) hi)
 have hcm := getD_mem' (d := 0) hp
 have hcc := rowN_cell hw hh hci hcm
 have hc4 := rowN_lt hw hh hci hcm
 have hl144 := rowN_len w h f (fs.getD i 0)
 have hrow : (fs.map (rowZ w h f)).getD i [] = rowZ w h f (fs.getD i 0) := by
  rw [List.getD_eq_getElem?_getD, List.getElem?_map, List.getElem?_eq_getElem hi]
  simp [List.getD_eq_getElem?_getD, List.getElem?_eq_getElem hi]
 have hzl : p < (rowZ w h f (fs.getD i 0)).length := by unfold rowZ; rw [cst_len]; exact hp
 have hzg : (rowZ w h f (fs.getD i 0)).getD p 0 = (((rowN w h f (fs.getD i 0)).getD p 0 : Nat) : Int) := cst_get _ _
 have hil : i < (fs.map (rowZ w h f)).length := by rw [List.length_map]; exact hi
 generalize (rowN w h f (fs.getD i 0)).getD p 0 = c at *
 have hbits : ∀ n ∈ nb w h c, f n ≠ 0 → ∃ j : Nat, ow n = (j : Int) ∧ j < 12 := fun n hn hf => by
  obtain ⟨j, q1, _, q3⟩ := own_at hw hh hP hO (nb_cell hw hcc hn) hf
  exact ⟨j, q3, by omega⟩
 have hlt : orF m (bitsC w h f ow c) < 4096 := by
  refine orF_lt _ _ hm fun k hk => ?_
  obtain ⟨n, hn, rfl⟩ := List.mem_map.1 hk
  obtain ⟨hn1, hn2⟩ := List.mem_filter.1 hn
  rw [Bool.and_eq_true] at hn2
  obtain ⟨j, q1, q2⟩ := hbits n hn1 (by simpa using hn2.1)
  rw [q1, toNat_nat]; exact q2
 refine ⟨?_, hlt⟩
 have hnl := nb_len w h c
 unfold f_q1r_run32
 refine (run_countI (step := fun x => f_q1r_n32 x.1 x.2.1 x.2.2.1 x.2.2.2.1 x.2.2.2.2.1 x.2.2.2.2.2.1 x.2.2.2.2.2.2.1 x.2.2.2.2.2.2.2.1 x.2.2.2.2.2.2.2.2.1 x.2.2.2.2.2.2.2.2.2.1 x.2.2.2.2.2.2.2.2.2.2.1 x.2.2.2.2.2.2.2.2.2.2.2.1 x.2.2.2.2.2.2.2.2.2.2.2.2) (nb w h c).length (fun j m => (d, (i : Int), (p : Int), (j : Int), (w : Int), (h : Int), f, fs.map (rowZ w h f), ow, out, dd, ((m : Nat) : Int), cst (nb w h c))) (fun m j => stepM f ow c m ((nb w h c).getD j 0)) (fun _ m => m < 4096) (.inl (d, (i : Int), ((p + 1 : Nat) : Int), (w : Int), (h : Int), f, fs.map (rowZ w h f), ow, out, dd, ((orF m (bitsC w h f ow c) : Nat) : Int))) m (by omega) hm ?_ ?_).trans rfl
 ·intro j m hj hm
  have hn := getD_mem' (d := 0) hj
  have hjl : j < (cst (nb w h c)).length := by rw [cst_len]; exact hj
  have hg := cst_get (nb w h c) j
  generalize (nb w h c).getD j 0 = n at hn hg
  have hn4 := isC_lt hh (nb_cell hw hcc hn)
  show f_q1r_n32 d i p j w h f (fs.map (rowZ w h f)) ow out dd (m : Int) (cst (nb w h c)) = _ ∧ _
  unfold f_q1r_n32 t_q1r_32 stepM
  try dsimp (config := {proj := false, iota := false, eta := false}) only
  rw [lt_true hjl, inB_nat hjl, toNat_nat, hg, inB_nat hn4, toNat_nat, inB_nat hil, toNat_nat, hrow, inB_nat hzl, toNat_nat, hzg, inB_nat hc4, toNat_nat, IntWalk.i64_in ((j : Int) + 1) (by omega)]
  simp only [cond_true]
  by_cases hf : f n = 0
  ·rw [show (f n != 0) = false by simp [hf]]
   exact ⟨rfl, hm⟩
  ·rw [show (f n != 0) = true by simp [hf], Bool.true_and]
   obtain ⟨k, q1, q2⟩ := hbits n hn hf
   cases hlt : decide (f n < f c)
   ·exact ⟨rfl, hm⟩
   ·rw [q1, IntWalk.u64_in (k : Int) (by omega), decide_eq_false (show ¬ (k : Int) < 0 by omega), bor_ok hm q2, toNat_nat]
    exact ⟨rfl, Nat.or_lt_two_pow (n := 12) hm (Nat.pow_lt_pow_right (by decide) q2)⟩
 ·intro _
  rw [foldl_getD 0 (stepM f ow c), fold_bits]
  show f_q1r_n32 d i p ((nb w h c).length : Nat) w h f (fs.map (rowZ w h f)) ow out dd _ (cst (nb w h c)) = _
  unfold f_q1r_n32 t_q1r_32
  try dsimp (config := {proj := false, iota := false, eta := false}) only
  rw [cst_len, lt_neg, cond_false, IntWalk.i64_in ((p : Int) + 1) (by omega)]
  rfl
theorem s28_ok {d : Int} {i : Nat} {out : List (Int × Int)} {dd : Int} (h12 : fs.length ≤ 12) (hi : i < fs.length) (ho : out.length ≤ 100) :
  f_q1r_run28 (d, (i : Int), 0, (w : Int), (h : Int), f, fs.map (rowZ w h f), ow, out, dd, 0) = some (.inl (d, ((i + 1 : Nat) : Int), (w : Int), (h : Int), f, fs.map (rowZ w h f), ow, out ++ [(dd, ((maskOf w h f fs i : Nat) : Int))])) := by
 have hci := hP.cell _ (getD_mem' (d := 0) hi)
 have hl144 := rowN_len w h f (fs.getD i 0)
 have hrow : (fs.map (rowZ w h f)).getD i [] = rowZ w h f (fs.getD i 0) := by
  rw [List.getD_eq_getElem?_getD, List.getElem?_map, List.getElem?_eq_getElem hi]
  simp [List.getD_eq_getElem?_getD, List.getElem?_eq_getElem hi]
 have hzlen : (rowZ w h f (fs.getD i 0)).length = (rowN w h f (fs.getD i 0)).length := cst_len _
 have hil : i < (fs.map (rowZ w h f)).length := by rw [List.length_map]; exact hi
 rw [← mask_eq' hw hh hP hO hi]
 unfold f_q1r_run28
 refine (run_countI (step := fun x => f_q1r_n28 x.1 x.2.1 x.2.2.1 x.2.2.2.1 x.2.2.2.2.1 x.2.2.2.2.2.1 x.2.2.2.2.2.2.1 x.2.2.2.2.2.2.2.1 x.2.2.2.2.2.2.2.2.1 x.2.2.2.2.2.2.2.2.2.1 x.2.2.2.2.2.2.2.2.2.2) (rowN w h f (fs.getD i 0)).length (fun p m => (d, (i : Int), (p : Int), (w : Int), (h : Int), f, fs.map (rowZ w h f), ow, out, dd, ((m : Nat) : Int))) (fun m p => orF m (bitsC w h f ow ((rowN w h f (fs.getD i 0)).getD p 0))) (fun _ m => m < 4096) (.inl (d, ((i + 1 : Nat) : Int), (w : Int), (h : Int), f, fs.map (rowZ w h f), ow, out ++ [(dd, ((orF 0 ((rowN w h f (fs.getD i 0)).flatMap (bitsC w h f ow)) : Nat) : Int))])) 0 (by omega) (by omega) ?_ ?_).trans rfl
 ·intro p m hp hm
  obtain ⟨k1, k2⟩ := s32_ok hw hh hP hO (d := d) (out := out) (dd := dd) h12 hi hp hm
  refine ⟨?_, k2⟩
  have hzl : p < (rowZ w h f (fs.getD i 0)).length := by rw [hzlen]; exact hp
  have hzg : (rowZ w h f (fs.getD i 0)).getD p 0 = (((rowN w h f (fs.getD i 0)).getD p 0 : Nat) : Int) := cst_get _ _
  show f_q1r_n28 d i p w h f (fs.map (rowZ w h f)) ow out dd (m : Int) = _
  unfold f_q1r_n28 t_q1r_28
  try dsimp (config := {proj := false, iota := false, eta := false}) only
  rw [inB_nat hil, toNat_nat, hrow, lt_true hzl, inB_nat hzl, toNat_nat, hzg, sbeside_ok hw hh (rowN_cell hw hh hci (getD_mem' (d := 0) hp))]
  simp only [cond_true, Option.bind]
  exact k1
 ·intro _
  rw [foldl_getD 0 (fun m c => orF m (bitsC w h f ow c)), fold_or]
  show f_q1r_n28 d i ((rowN w h f (fs.getD i 0)).length : Nat) w h f (fs.map (rowZ w h f)) ow out dd _ = _
  unfold f_q1r_n28 t_q1r_28
  try dsimp (config := {proj := false, iota := false, eta := false}) only
  rw [inB_nat hil, toNat_nat, hrow, hzlen, lt_neg, cond_true, cond_false, fits_small (by simp; omega), cond_true, IntWalk.i64_in ((i : Int) + 1) (by omega)]
  rfl
def rowLen (w h : Nat) (f : Nat → Int) (fs : List Nat) (i : Nat) : Nat := (rowZ w h f (fs.getD i 0)).length
theorem s21_ok {d : Int} (h12 : fs.length ≤ 12) (hd : d ≠ 0) : f_q1r_run21 (d, 0, (w : Int), (h : Int), f, fs.map (rowZ w h f), ow, []) = some (jobsG (fun i => daysOf (rowLen w h f fs i) d) (fun i => ((maskOf w h f fs i : Nat) : Int)) fs.length 0 []) := by
 unfold f_q1r_run21
 refine iter_jobs (step := fun x => f_q1r_n21 x.1 x.2.1 x.2.2.1 x.2.2.2.1 x.2.2.2.2.1 x.2.2.2.2.2.1 x.2.2.2.2.2.2.1 x.2.2.2.2.2.2.2) (fun i out => (d, (i : Int), (w : Int), (h : Int), f, fs.map (rowZ w h f), ow, out)) _ _ fs.length ?_ ?_ fs.length 0 FU [] (by omega) (FU_big (pow_big (by omega))) (Nat.le_refl _)
 ·intro i out hi ho
  have hil : i < (fs.map (rowZ w h f)).length := by rw [List.length_map]; exact hi
  have hrow : (fs.map (rowZ w h f)).getD i [] = rowZ w h f (fs.getD i 0) := by
   rw [List.getD_eq_getElem?_getD, List.getElem?_map, List.getElem?_eq_getElem hi]
   simp [List.getD_eq_getElem?_getD, List.getElem?_eq_getElem hi]
  show f_q1r_n21 d i w h f (fs.map (rowZ w h f)) ow out = _
  unfold f_q1r_n21 t_q1r_21
  try dsimp (config := {proj := false, iota := false, eta := false}) only
  rw [lt_true hil, inB_nat hil, toNat_nat, hrow, decide_eq_false hd]
  simp only [cond_true, cond_false]
  rw [s28_ok hw hh hP hO h12 hi (by omega)]
  unfold daysOf rowLen
  cases decide (IntKind.wrap .i64 (Int.tdiv (IntKind.wrap .i64 ((IntKind.wrap .i64 (((List.length (rowZ w h f (fs.getD i 0)) : Nat) : Int) + d)) - 1)) d) > 30) <;> rfl
 ·intro out
  show f_q1r_n21 d (fs.length : Nat) w h f (fs.map (rowZ w h f)) ow out = _
  unfold f_q1r_n21 t_q1r_21
  try dsimp (config := {proj := false, iota := false, eta := false}) only
  rw [List.length_map, lt_neg, cond_false]
end
end Go.RR
namespace Go.RR
open Go
theorem fold_adj (p : Nat → Bool) : ∀ (l : List Nat) (m : Nat), l.foldl (fun m k => cond (p k) (m ||| 2 ^ k) m) m = orF m (l.filter p)
 | [], m => rfl
 | k :: l, m => by
  rw [List.foldl_cons, fold_adj p l, List.filter_cons]
  cases p k <;> rfl
section
variable {w h : Nat} (hw : w ≤ 12) (hh : h ≤ 12) {f : Nat → Int}
include hw hh
theorem full_ok {ss : List Nat} (hp : Parts w h f ss 144) : FullP w h f (fullOf f ss) := by
 have hm : ∀ s, s ∈ fullOf f ss ↔ s ∈ ss ∧ f s ≠ 0 := fun s => by
  unfold fullOf
  rw [List.mem_filter]
  simp
 refine ⟨fun s hs => hp.cell s ((hm s).1 hs).1, fun s hs => ((hm s).1 hs).2, fun k hk hf => ?_⟩
 obtain ⟨s, hs, hks⟩ := hp.all k (isC_lt hh hk) hk
 have hfs := (comp_ok hw hh (f := f) (hp.cell s hs)).1.col k hks
 have hmem := (hm s).2 ⟨hs, by rw [← hfs]; exact hf⟩
 obtain ⟨j, hj, e⟩ := List.getElem_of_mem hmem
 refine ⟨j, hj, ?_⟩
 rw [List.getD_eq_getElem?_getD, List.getElem?_eq_getElem hj]
 show k ∈ comp w h f (fullOf f ss)[j]
 rw [e]; exact hks
theorem row_at {fs : List Nat} {i : Nat} (hi : i < fs.length) : (fs.map (rowZ w h f)).getD i [] = rowZ w h f (fs.getD i 0) := by
 have := hw
 have := hh
 rw [List.getD_eq_getElem?_getD, List.getElem?_map, List.getElem?_eq_getElem hi]
 simp [List.getD_eq_getElem?_getD, List.getElem?_eq_getElem hi]
theorem s13_ok {d : Int} {ss : List Nat} {i : Nat} (hi : i < ss.length) (hc : isC w h (ss.getD i 0)) {o : List (List Int)} (ho : o.length ≤ 1000) (hbig : ss.length ≤ 144) (ow : Nat → Int) :
  f_q1r_run13 (d, (i : Int), 0, (w : Int), (h : Int), f, ss.map (rowZ w h f), o, ow) = some (.inl (d, ((i + 1 : Nat) : Int), (w : Int), (h : Int), f, ss.map (rowZ w h f), o ++ [rowZ w h f (ss.getD i 0)], marks ow (rowN w h f (ss.getD i 0)) ((o.length : Nat) : Int))) := by
 have hrow := row_at hw hh (f := f) hi
 have hil : i < (ss.map (rowZ w h f)).length := by rw [List.length_map]; exact hi
 have hl144 := rowN_len w h f (ss.getD i 0)
 have hzlen : (rowZ w h f (ss.getD i 0)).length = (rowN w h f (ss.getD i 0)).length := cst_len _
 unfold f_q1r_run13
 refine (run_countI (step := fun x => f_q1r_n13 x.1 x.2.1 x.2.2.1 x.2.2.2.1 x.2.2.2.2.1 x.2.2.2.2.2.1 x.2.2.2.2.2.2.1 x.2.2.2.2.2.2.2.1 x.2.2.2.2.2.2.2.2) (rowN w h f (ss.getD i 0)).length (fun p ow => (d, (i : Int), (p : Int), (w : Int), (h : Int), f, ss.map (rowZ w h f), o, ow)) (fun ow p => upd ow ((rowN w h f (ss.getD i 0)).getD p 0) ((o.length : Nat) : Int)) (fun _ _ => True) (.inl (d, ((i + 1 : Nat) : Int), (w : Int), (h : Int), f, ss.map (rowZ w h f), o ++ [rowZ w h f (ss.getD i 0)], marks ow (rowN w h f (ss.getD i 0)) ((o.length : Nat) : Int))) ow (by omega) trivial ?_ ?_).trans rfl
 ·intro p ow hp _
  have hzl : p < (rowZ w h f (ss.getD i 0)).length := by rw [hzlen]; exact hp
  have hzg : (rowZ w h f (ss.getD i 0)).getD p 0 = (((rowN w h f (ss.getD i 0)).getD p 0 : Nat) : Int) := cst_get _ _
  have h4 := rowN_lt hw hh hc (getD_mem' (d := 0) hp)
  refine ⟨?_, trivial⟩
  show f_q1r_n13 d i p w h f (ss.map (rowZ w h f)) o ow = _
  unfold f_q1r_n13 t_q1r_13
  try dsimp (config := {proj := false, iota := false, eta := false}) only
  rw [inB_nat hil, toNat_nat, hrow, lt_true hzl, inB_nat hzl, toNat_nat, hzg, inB_nat h4, toNat_nat, IntWalk.i64_in ((p : Int) + 1) (by omega)]
  rfl
 ·intro _
  rw [foldl_getD 0 (fun ow k => upd ow k ((o.length : Nat) : Int))]
  show f_q1r_n13 d i ((rowN w h f (ss.getD i 0)).length : Nat) w h f (ss.map (rowZ w h f)) o _ = _
  unfold f_q1r_n13 t_q1r_13
  try dsimp (config := {proj := false, iota := false, eta := false}) only
  rw [inB_nat hil, toNat_nat, hrow, hzlen, lt_neg, cond_true, cond_false, cond_true, fits_small (by simp; omega), cond_true, IntWalk.i64_in ((i : Int) + 1) (by omega)]
  rfl
def ownS (w h : Nat) (f : Nat → Int) (ss : List Nat) (st : List (List Int) × (Nat → Int)) (i : Nat) : List (List Int) × (Nat → Int) :=
 cond (f (ss.getD i 0) == 0) st (st.1 ++ [rowZ w h f (ss.getD i 0)], marks st.2 (rowN w h f (ss.getD i 0)) ((st.1.length : Nat) : Int))
def jobsR (w h : Nat) (f : Nat → Int) (fs : List Nat) (d : Int) : List (Int × Int) × Int :=
 cond (decide (((fs.length : Nat) : Int) > 12)) ([], 3) (jobsG (fun i => daysOf (rowLen w h f fs i) d) (fun i => ((maskOf w h f fs i : Nat) : Int)) fs.length 0 [])
theorem apart_at {ss : List Nat} (hp : Parts w h f ss 144) {i : Nat} (hi : i < ss.length) {a : Nat} (ha : a ∈ ss.take i) {k : Nat} (hk : k ∈ comp w h f a) : k ∉ comp w h f (ss.getD i 0) := by
 have := hw
 have := hh
 obtain ⟨m, hm, e⟩ := List.mem_iff_getElem.1 ha
 rw [List.length_take] at hm
 rw [List.getElem_take] at e
 have := List.pairwise_iff_getElem.1 hp.apart m i (by omega) hi (by omega) k (by rw [e]; exact hk)
 rw [List.getD_eq_getElem?_getD, List.getElem?_eq_getElem hi]
 exact this
theorem s9_ok {d : Int} (hd : d ≠ 0) {ss : List Nat} (hp : Parts w h f ss 144) : f_q1r_run9 (d, 0, (w : Int), (h : Int), f, ss.map (rowZ w h f), [], zF) = some (jobsR w h f (fullOf f ss) d) := by
 have hbig := hp.len
 unfold f_q1r_run9
 refine (run_countI (step := fun x => f_q1r_n9 x.1 x.2.1 x.2.2.1 x.2.2.2.1 x.2.2.2.2.1 x.2.2.2.2.2.1 x.2.2.2.2.2.2.1 x.2.2.2.2.2.2.2) ss.length (fun i st => (d, (i : Int), (w : Int), (h : Int), f, ss.map (rowZ w h f), st.1, st.2)) (ownS w h f ss) (fun i st => st.1 = (fullOf f (ss.take i)).map (rowZ w h f) ∧ OwnP w h f (fullOf f (ss.take i)) st.2) (jobsR w h f (fullOf f ss) d) ([], zF) (by omega) ⟨rfl, fun j hj => by simp [fullOf] at hj⟩ ?_ ?_).trans rfl
 ·rintro i ⟨o, ow⟩ hi ⟨h1, h2⟩
  dsimp only at h1 h2
  have hc := hp.cell _ (getD_mem' (d := 0) hi)
  have hrow := row_at hw hh (f := f) hi
  have hil : i < (ss.map (rowZ w h f)).length := by rw [List.length_map]; exact hi
  obtain ⟨k, k1, k2, k3, k4⟩ := head_ok hw hh (f := f) hc
  have hol : o.length ≤ 144 := by
   rw [h1, List.length_map]
   have := List.length_filter_le (fun s => !(f s == 0)) (ss.take i)
   rw [List.length_take] at this
   have : (fullOf f (ss.take i)).length ≤ ss.length := by unfold fullOf; omega
   omega
  have htk : ss.take (i + 1) = ss.take i ++ [ss.getD i 0] := by
   rw [List.take_add_one, List.getElem?_eq_getElem hi, List.getD_eq_getElem?_getD, List.getElem?_eq_getElem hi]; rfl
  have hs : f_q1r_n9 d i w h f (ss.map (rowZ w h f)) o ow = some (.inl (d, ((i + 1 : Nat) : Int), (w : Int), (h : Int), f, ss.map (rowZ w h f), (ownS w h f ss (o, ow) i).1, (ownS w h f ss (o, ow) i).2)) := by
   unfold f_q1r_n9 t_q1r_9 ownS
   try dsimp (config := {proj := false, iota := false, eta := false}) only
   rw [lt_true hil, inB_nat hil, toNat_nat, hrow, k1, show inB 0 (rowZ w h f (ss.getD i 0)).length = true from inB_nat (i := 0) k4, inB_nat k2, toNat_nat, k3, IntWalk.i64_in ((i : Int) + 1) (by omega)]
   simp only [cond_true]
   cases hz : f (ss.getD i 0) == 0
   ·simp only [cond_false]
    exact s13_ok hw hh hi hc (by omega) hbig ow
   ·rfl
  refine ⟨hs, ?_⟩
  rw [htk]
  unfold ownS
  have hfa : fullOf f (ss.take i ++ [ss.getD i 0]) = fullOf f (ss.take i) ++ cond (f (ss.getD i 0) == 0) [] [ss.getD i 0] := by
   unfold fullOf
   rw [List.filter_append, List.filter_cons]
   cases f (ss.getD i 0) == 0 <;> rfl
  rw [hfa]
  cases hz : f (ss.getD i 0) == 0
  ·simp only [cond_false]
   refine ⟨by rw [h1, List.map_append]; rfl, fun j hj k hk => ?_⟩
   rw [List.length_append, List.length_singleton] at hj
   rw [marks_at]
   have hol2 : o.length = (fullOf f (ss.take i)).length := by rw [h1, List.length_map]
   by_cases hj2 : j < (fullOf f (ss.take i)).length
   ·rw [getD_app hj2] at hk
    have hmem := getD_mem' (d := 0) hj2
    have ha : (fullOf f (ss.take i)).getD j 0 ∈ ss.take i := by
     unfold fullOf at hmem ⊢
     exact (List.mem_filter.1 hmem).1
    rw [if_neg fun hin => apart_at hw hh hp hi ha hk ((rowN_mem hw hh hc).1 hin)]
    exact h2 j hj2 k hk
   ·obtain rfl : j = (fullOf f (ss.take i)).length := by omega
    rw [getD_new] at hk
    rw [if_pos ((rowN_mem hw hh hc).2 hk), hol2]
  ·simp only [cond_true, List.append_nil]
   exact ⟨h1, h2⟩
 ·intro hI
  rw [List.take_length] at hI
  generalize (List.range' 0 ss.length).foldl (ownS w h f ss) ([], zF) = st at hI
  obtain ⟨o, ow⟩ := st
  obtain ⟨h1, h2⟩ := hI
  dsimp only at h1 h2
  subst h1
  show f_q1r_n9 d (ss.length : Nat) w h f (ss.map (rowZ w h f)) ((fullOf f ss).map (rowZ w h f)) ow = _
  unfold f_q1r_n9 t_q1r_9 jobsR
  try dsimp (config := {proj := false, iota := false, eta := false}) only
  rw [List.length_map, lt_neg, cond_false, List.length_map]
  by_cases hn : (((fullOf f ss).length : Nat) : Int) > 12
  ·rw [decide_eq_true hn]; rfl
  ·rw [decide_eq_false hn]
   simp only [cond_false]
   rw [s21_ok hw hh (full_ok hw hh hp) h2 (by omega) hd]
   rfl
theorem i16_ok {fs : List Nat} (hP : FullP w h f fs) {d : Int} {i : Nat} {out : List (Int × Int)} {dd : Int} (h12 : fs.length ≤ 12) (hi : i < fs.length) (ho : out.length ≤ 100) :
  f_q1k_run16 (d, ((fs.length : Nat) : Int), (i : Int), ((fs.length : Nat) : Int), 0, (w : Int), (h : Int), f, fs.map (rowZ w h f), out, rowZ w h f (fs.getD i 0), dd, 0) = some (.inl (d, ((fs.length : Nat) : Int), ((i + 1 : Nat) : Int), (w : Int), (h : Int), f, fs.map (rowZ w h f), out ++ [(dd, ((maskOf w h f fs i : Nat) : Int))])) := by
 have hci := hP.cell _ (getD_mem' (d := 0) hi)
 obtain ⟨q, q1, q2, q3, q4⟩ := head_ok hw hh (f := f) hci
 unfold f_q1k_run16
 refine (run_countI (step := fun x => f_q1k_n16 x.1 x.2.1 x.2.2.1 x.2.2.2.1 x.2.2.2.2.1 x.2.2.2.2.2.1 x.2.2.2.2.2.2.1 x.2.2.2.2.2.2.2.1 x.2.2.2.2.2.2.2.2.1 x.2.2.2.2.2.2.2.2.2.1 x.2.2.2.2.2.2.2.2.2.2.1 x.2.2.2.2.2.2.2.2.2.2.2.1 x.2.2.2.2.2.2.2.2.2.2.2.2) fs.length (fun k m => (d, ((fs.length : Nat) : Int), (i : Int), ((fs.length : Nat) : Int), (k : Int), (w : Int), (h : Int), f, fs.map (rowZ w h f), out, rowZ w h f (fs.getD i 0), dd, ((m : Nat) : Int))) (fun m k => cond (adjK w h f fs i k) (m ||| 2 ^ k) m) (fun _ m => m < 4096) (.inl (d, ((fs.length : Nat) : Int), ((i + 1 : Nat) : Int), (w : Int), (h : Int), f, fs.map (rowZ w h f), out ++ [(dd, ((maskOf w h f fs i : Nat) : Int))])) 0 (by omega) (by omega) ?_ ?_).trans rfl
 ·intro k m hk hm
  have hck := hP.cell _ (getD_mem' (d := 0) hk)
  obtain ⟨p, p1, p2, p3, p4⟩ := head_ok hw hh (f := f) hck
  have hkl : k < (fs.map (rowZ w h f)).length := by rw [List.length_map]; exact hk
  have hn := near_ok hw hh (f := f) (own := rowN w h f (fs.getD i 0)) (other := rowN w h f (fs.getD k 0)) (fun c hc => rowN_cell hw hh hci hc) (by have := rowN_len w h f (fs.getD i 0); omega) (by have := rowN_len w h f (fs.getD k 0); omega)
  have hn : s_q0g (w : Int) (h : Int) f (rowZ w h f (fs.getD i 0)) (rowZ w h f (fs.getD k 0)) = _ := hn
  show f_q1k_n16 d (fs.length : Nat) i (fs.length : Nat) k w h f (fs.map (rowZ w h f)) out (rowZ w h f (fs.getD i 0)) dd (m : Int) = _ ∧ _
  unfold f_q1k_n16 t_q1k_16 adjK
  try dsimp (config := {proj := false, iota := false, eta := false}) only
  rw [lt_true hk, inB_nat hkl, toNat_nat, row_at hw hh hk, show inB 0 (rowZ w h f (fs.getD k 0)).length = true from inB_nat (i := 0) p4, p1, inB_nat p2, show inB 0 (rowZ w h f (fs.getD i 0)).length = true from inB_nat (i := 0) q4, q1, inB_nat q2, toNat_nat, toNat_nat, p3, q3, hn, IntWalk.i64_in ((k : Int) + 1) (by omega), decide_eq_false (show ¬ (k : Int) < 0 by omega)]
  simp only [cond_true, cond_false, Option.bind]
  cases decide (f (fs.getD k 0) < f (fs.getD i 0))
  ·exact ⟨rfl, hm⟩
  ·cases adjB w h (rowN w h f (fs.getD i 0)) (rowN w h f (fs.getD k 0))
   ·exact ⟨rfl, hm⟩
   ·rw [bor_ok hm (show k < 12 by omega)]
    exact ⟨rfl, Nat.or_lt_two_pow (n := 12) hm (Nat.pow_lt_pow_right (by decide) (by omega))⟩
 ·intro _
  rw [fold_adj]
  show f_q1k_n16 d (fs.length : Nat) i (fs.length : Nat) (fs.length : Nat) w h f (fs.map (rowZ w h f)) out (rowZ w h f (fs.getD i 0)) dd _ = _
  unfold f_q1k_n16 t_q1k_16
  try dsimp (config := {proj := false, iota := false, eta := false}) only
  rw [lt_neg, cond_false, fits_small (by simp; omega), cond_true, IntWalk.i64_in ((i : Int) + 1) (by omega)]
  rfl
theorem i9_ok {fs : List Nat} (hP : FullP w h f fs) {d : Int} (h12 : fs.length ≤ 12) (hd : d ≠ 0) : f_q1k_run9 (d, ((fs.length : Nat) : Int), 0, (w : Int), (h : Int), f, fs.map (rowZ w h f), []) = some (jobsG (fun i => daysOf (rowLen w h f fs i) d) (fun i => ((maskOf w h f fs i : Nat) : Int)) fs.length 0 []) := by
 unfold f_q1k_run9
 refine iter_jobs (step := fun x => f_q1k_n9 x.1 x.2.1 x.2.2.1 x.2.2.2.1 x.2.2.2.2.1 x.2.2.2.2.2.1 x.2.2.2.2.2.2.1 x.2.2.2.2.2.2.2) (fun i out => (d, ((fs.length : Nat) : Int), (i : Int), (w : Int), (h : Int), f, fs.map (rowZ w h f), out)) _ _ fs.length ?_ ?_ fs.length 0 FU [] (by omega) (FU_big (pow_big (by omega))) (Nat.le_refl _)
 ·intro i out hi ho
  have hil : i < (fs.map (rowZ w h f)).length := by rw [List.length_map]; exact hi
  show f_q1k_n9 d (fs.length : Nat) i w h f (fs.map (rowZ w h f)) out = _
  unfold f_q1k_n9 t_q1k_9
  try dsimp (config := {proj := false, iota := false, eta := false}) only
  rw [lt_true hi, inB_nat hil, toNat_nat, row_at hw hh hi, decide_eq_false hd]
  simp only [cond_true, cond_false]
  rw [List.length_map, i16_ok hw hh hP h12 hi (by omega)]
  unfold daysOf rowLen
  cases decide (IntKind.wrap .i64 (Int.tdiv (IntKind.wrap .i64 ((IntKind.wrap .i64 (((List.length (rowZ w h f (fs.getD i 0)) : Nat) : Int) + d)) - 1)) d) > 30) <;> rfl
 ·intro out
  show f_q1k_n9 d (fs.length : Nat) (fs.length : Nat) w h f (fs.map (rowZ w h f)) out = _
  unfold f_q1k_n9 t_q1k_9
  try dsimp (config := {proj := false, iota := false, eta := false}) only
  rw [lt_neg, cond_false]
end
end Go.RR
namespace Go.RR
open Go
end Go.RR
namespace Go.RR
open Go
theorem k2 {i : Nat} (h : i ≤ 2000000) : IntKind.wrap .i64 (((1 + 2 * i : Nat) : Int) + 1) = ((2 + 2 * i : Nat) : Int) ∧ IntKind.wrap .i64 (((2 + 2 * i : Nat) : Int) + 1) = ((1 + 2 * (i + 1) : Nat) : Int) := by
 rw [IntWalk.i64_in (((1 + 2 * i : Nat) : Int) + 1) (by omega), IntWalk.i64_in (((2 + 2 * i : Nat) : Int) + 1) (by omega)]
 omega
end Go.RR
