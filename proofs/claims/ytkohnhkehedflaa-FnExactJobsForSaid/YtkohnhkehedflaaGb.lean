/- Plain facts of fields: which are bare, which are neighbours. No condition; no theorem of the program. -/
import Derived.Test.YtkohnhkehedflaaGa
import Derived.Test.YtkohnhkehedflaaVd
set_option linter.unusedVariables false
set_option linter.unusedSimpArgs false
namespace Go.RR
open Go

theorem idx_any {α : Type} {step : α → Option (α ⊕ Int)} {r : Option Int} (N : Nat) (hN : N ≤ 1000000) (emb : Nat → α) (q : Nat → Bool) (hs : ∀ i, i < N → step (emb i) = some (cond (q i) (.inr (i : Int)) (.inl (emb (i + 1))))) (he : step (emb N) = some (.inr (-1))) (hr : iter step FU (emb 0) = r) :
    (Option.bind r fun r1 => (some (decide (r1 ≥ 0)))) = some ((List.range' 0 N).any q) := by
  obtain ⟨k, h1, h2, _⟩ := run_idx (step := step) N emb q hs he N 0 FU (by omega) (FU_big (pow_big (by omega)))
  rw [← hr, h1]
  show some (decide (k ≥ 0)) = _
  rw [h2]
theorem any_cst (l : List Nat) (p : Nat → Bool) : (List.range' 0 l.length).any (fun i => p (l.getD i 0)) = l.any p := any_getD 0 l p
theorem has_ok {l other : List Nat} (hl : l.length ≤ 1000) (ho : other.length ≤ 1000) : s_gContainsFunc_int64_b (cst l) (cst other) = some (l.any fun n => other.contains n) := by
  unfold s_gContainsFunc_int64_b
  rw [← any_cst]
  refine idx_any (step := fun x => f_gIndexFunc_int64_b_n2 x.1 x.2.1 x.2.2.1 x.2.2.2) l.length (by omega) (fun i => (((cst l).length : Nat), (i : Int), cst l, cst other)) (fun i => other.contains (l.getD i 0)) ?_ ?_ rfl
  · intro i hi
    have hil : i < (cst l).length := by rw [cst_len]; exact hi
    show f_gIndexFunc_int64_b_n2 ((cst l).length : Nat) (i : Int) (cst l) (cst other) = _
    unfold f_gIndexFunc_int64_b_n2 s_iareNeighbours_1_1
    rw [lt_true hil, inB_nat hil, toNat_nat, cst_get, contains_ok (by rw [cst_len]; omega), contains_cst, IntWalk.i64_in ((i : Int) + 1) (by omega)]
    simp only [cond_true, Option.bind]
    cases other.contains (l.getD i 0) <;> rfl
  · show f_gIndexFunc_int64_b_n2 ((cst l).length : Nat) (l.length : Nat) (cst l) (cst other) = _
    unfold f_gIndexFunc_int64_b_n2
    rw [cst_len, lt_neg, cond_false]
def adjB (w h : Nat) (own other : List Nat) : Bool := own.any fun c => (nb w h c).any fun n => other.contains n
section
variable {w h : Nat} (hw : w ≤ 12) (hh : h ≤ 12) {f : Nat → Int}
include hw hh
theorem near_ok {own other : List Nat} (hc : ∀ c ∈ own, isC w h c) (hl : own.length ≤ 1000) (ho : other.length ≤ 1000) : s_iareNeighbours (w : Int) (h : Int) f (cst own) (cst other) = some (adjB w h own other) := by
  unfold s_iareNeighbours s_gContainsFunc_int64_a adjB
  rw [← any_cst]
  have key := idx_any (step := fun x => f_gIndexFunc_int64_a_n2 x.1 x.2.1 x.2.2.1 x.2.2.2.1 x.2.2.2.2.1 x.2.2.2.2.2.1 x.2.2.2.2.2.2) (r := s_gIndexFunc_int64_a (cst own) (w : Int) (h : Int) f (cst other)) own.length (by omega) (fun i => (((cst own).length : Nat), (i : Int), cst own, (w : Int), (h : Int), f, cst other)) (fun i => (nb w h (own.getD i 0)).any fun n => other.contains n) ?_ ?_ rfl
  · rw [key]; rfl
  · intro i hi
    have hil : i < (cst own).length := by rw [cst_len]; exact hi
    have hcc := hc _ (getD_mem' (d := 0) hi)
    show f_gIndexFunc_int64_a_n2 ((cst own).length : Nat) (i : Int) (cst own) (w : Int) (h : Int) f (cst other) = _
    unfold f_gIndexFunc_int64_a_n2 s_iareNeighbours_1
    have hn := nb_len w h (own.getD i 0)
    rw [lt_true hil, inB_nat hil, toNat_nat, cst_get, ibeside_ok hw hh hcc, IntWalk.i64_in ((i : Int) + 1) (by omega)]
    simp only [cond_true, Option.bind]
    rw [has_ok (by omega) ho]
    simp only [Option.bind]
    cases (nb w h (own.getD i 0)).any fun n => other.contains n <;> rfl
  · show f_gIndexFunc_int64_a_n2 ((cst own).length : Nat) (own.length : Nat) (cst own) (w : Int) (h : Int) f (cst other) = _
    unfold f_gIndexFunc_int64_a_n2
    rw [cst_len, lt_neg, cond_false]
theorem head_ok {s : Nat} (hs : isC w h s) : ∃ k : Nat, (rowZ w h f s).getD 0 0 = (k : Int) ∧ k < 144 ∧ f k = f s ∧ 0 < (rowZ w h f s).length := by
  have hp := rowN_pos hw hh (f := f) hs
  have hm := getD_mem' (d := 0) hp
  refine ⟨(rowN w h f s).getD 0 0, cst_get _ _, rowN_lt hw hh hs hm, rowN_col hw hh hs hm, by unfold rowZ; rw [cst_len]; exact hp⟩
theorem valid_row {s : Nat} (hs : isC w h s) : validR (rowZ w h f s) = true := by
  obtain ⟨k, h1, h2, _, h4⟩ := head_ok hw hh (f := f) hs
  unfold validR headOf
  rw [h1, inB_nat h2, show inB 0 (rowZ w h f s).length = true from inB_nat (i := 0) h4]
  rfl
theorem bare_row {s : Nat} (hs : isC w h s) : bareR f (rowZ w h f s) = (f s == 0) := by
  obtain ⟨k, h1, h2, h3, h4⟩ := head_ok hw hh (f := f) hs
  unfold bareR headOf
  rw [h1, toNat_nat, h3]
def fullOf (f : Nat → Int) (ss : List Nat) : List Nat := ss.filter fun s => !(f s == 0)
theorem drop_rows {ss : List Nat} (hc : ∀ s ∈ ss, isC w h s) : dropR (bareR f) (ss.map (rowZ w h f)) = (fullOf f ss).map (rowZ w h f) := by
  unfold dropR fullOf
  rw [List.filter_map]
  congr 1
  apply List.filter_congr
  intro s hs
  show (!bareR f (rowZ w h f s)) = _
  rw [bare_row hw hh (hc s hs)]
theorem del_ok {ss : List Nat} (hc : ∀ s ∈ ss, isC w h s) (hl : ss.length ≤ 144) (hp : 0 < ss.length) (a1 a2 : Int) : s_gDeleteFunc (ss.map (rowZ w h f)) a1 a2 f = some ((fullOf f ss).map (rowZ w h f), a1, a2, f) := by
  unfold s_gDeleteFunc
  rw [List.length_map, show Nat.blt 0 ss.length = true from Nat.ble_eq_true_of_le hp, show Nat.ble ss.length 1000000 = true by rw [Nat.ble_eq]; omega, show (ss.map (rowZ w h f)).all validR = true from List.all_eq_true.2 fun r hr => by
    obtain ⟨s, hs, rfl⟩ := List.mem_map.1 hr
    exact valid_row hw hh (hc s hs)]
  rw [drop_rows hw hh hc]
  rfl
end
end Go.RR
