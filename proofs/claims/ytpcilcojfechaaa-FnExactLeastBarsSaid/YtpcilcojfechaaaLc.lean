/- The search for the fewest bars, in plain terms: what is put where, what has room. No condition but the ranges; no theorem of the program. -/
import Derived.Test.YtpcilcojfechaaaLb
import Derived.Test.YtpcilcojfechaaaWa
set_option linter.unusedVariables false
set_option linter.unusedSimpArgs false
namespace Go.RR
open Go Go.RowKit

def putB (bars : List (List Int)) (a : Nat) (k : Int) : List (List Int) := bars.set a (bars.getD a [] ++ [k])
theorem putB_len (bars : List (List Int)) (a : Nat) (k : Int) : (putB bars a k).length = bars.length := by simp [putB]
theorem putB_get {bars : List (List Int)} {a i : Nat} {k : Int} (hi : i < bars.length) : (putB bars a k)[i]? = some (if i = a then bars.getD i [] ++ [k] else bars.getD i []) := by
  unfold putB
  by_cases e : i = a
  · subst e
    simp [hi]
  · rw [List.getElem?_set_ne (by omega), if_neg e, List.getD_eq_getElem?_getD, List.getElem?_eq_getElem hi]; rfl
def BarsOK (P : List Int) (n : Nat) (bars : List (List Int)) : Prop := bars.length ≤ n ∧ ∀ r ∈ bars, r ≠ [] ∧ r.length ≤ n ∧ ∀ x ∈ r, 0 ≤ x ∧ x < (P.length : Int)
theorem BarsOK.row {P : List Int} {n : Nat} {bars : List (List Int)} (h : BarsOK P n bars) {a : Nat} (ha : a < bars.length) : bars.getD a [] ≠ [] ∧ (bars.getD a []).length ≤ n ∧ ∀ x ∈ bars.getD a [], 0 ≤ x ∧ x < (P.length : Int) := h.2 _ (getD_mem' (d := ([] : List Int)) ha)
theorem BarsOK.put {P : List Int} {n : Nat} {bars : List (List Int)} (h : BarsOK P n bars) {a : Nat} (ha : a < bars.length) {k : Int} (hk : 0 ≤ k ∧ k < (P.length : Int)) : BarsOK P (n + 1) (putB bars a k) := by
  have hrow := h.row ha
  refine ⟨by rw [putB_len]; have := h.1; omega, fun r hr => ?_⟩
  rcases List.mem_or_eq_of_mem_set hr with hr | rfl
  · have := h.2 r hr
    exact ⟨this.1, by omega, this.2.2⟩
  · refine ⟨by simp, by rw [List.length_append, List.length_cons, List.length_nil]; omega, fun x hx => ?_⟩
    rcases List.mem_append.1 hx with hx | hx
    · exact hrow.2.2 x hx
    · rw [List.mem_singleton] at hx; subst hx; exact hk
theorem BarsOK.new {P : List Int} {n : Nat} {bars : List (List Int)} (h : BarsOK P n bars) {k : Int} (hk : 0 ≤ k ∧ k < (P.length : Int)) : BarsOK P (n + 1) (bars ++ [[k]]) := by
  refine ⟨by simp; have := h.1; omega, fun r hr => ?_⟩
  rcases List.mem_append.1 hr with hr | hr
  · have := h.2 r hr
    exact ⟨this.1, by omega, this.2.2⟩
  · rw [List.mem_singleton] at hr
    subst hr
    refine ⟨by simp, by simp, fun x hx => ?_⟩
    rw [List.mem_singleton] at hx; subst hx; exact hk

theorem put_run {P : List Int} {n : Nat} {bars : List (List Int)} (h : BarsOK P n bars) (hn : n ≤ 14) {a : Nat} (ha : a ≤ bars.length) (k : Int) : s_sl04Put bars (a : Int) k = some (if a < bars.length then putB bars a k else bars ++ [[k]]) := by
  unfold s_sl04Put f_sl04Put_run3
  have hb := h.1
  refine run_count (step := fun x => f_sl04Put_n3 x.1 x.2.1 x.2.2.1 x.2.2.2.1 x.2.2.2.2) (τ := Unit) bars.length (fun i _ => ((a : Int), k, (i : Int), bars, (putB bars a k).take i)) (fun _ _ => ()) _ () (by omega) (fun i _ hi => ?_) ?_
  · show f_sl04Put_n3 (a : Int) k (i : Int) bars ((putB bars a k).take i) = some (.inl ((a : Int), k, ((i + 1 : Nat) : Int), bars, (putB bars a k).take (i + 1)))
    have hrow := (h.row hi).2.1
    unfold f_sl04Put_n3
    rw [lt_true hi, inB_nat hi, succ64 (i := i) (by omega), toNat_nat]
    have hl1 : ((putB bars a k).take i).length ≤ 14 := by rw [List.length_take, putB_len]; omega
    have f1 : fits ((List.length ([] : List Int) + List.length (List.getD bars i ([] : List Int))) * 8) = true := fits_small (by simp only [List.length_nil]; omega)
    have f2 : fits ((List.length (([] ++ List.getD bars i ([] : List Int)) : List Int) + List.length ([k] : List Int)) * 8) = true := fits_small (by simp only [List.nil_append, List.length_cons, List.length_nil]; omega)
    have f3 : ∀ r : List Int, fits ((List.length ((putB bars a k).take i) + List.length [r]) * 24) = true := fun r => fits_small (by simp only [List.length_cons, List.length_nil]; omega)
    rw [f1, f2, f3, f3]
    simp only [cond_true, List.nil_append]
    rw [List.take_add_one, putB_get hi]
    by_cases e : i = a
    · subst e
      rw [show ((i : Int) == (i : Int)) = true by simp, cond_true, if_pos rfl]; rfl
    · rw [show ((i : Int) == (a : Int)) = false by simp; omega, cond_false, if_neg e]; rfl
  · show f_sl04Put_n3 (a : Int) k (bars.length : Nat) bars ((putB bars a k).take bars.length) = _
    have ht : (putB bars a k).take bars.length = putB bars a k := List.take_of_length_le (by rw [putB_len]; exact Nat.le_refl _)
    rw [ht]
    unfold f_sl04Put_n3
    rw [lt_neg, cond_false]
    have f4 : fits ((List.length (putB bars a k) + List.length [[k]]) * 24) = true := fits_small (by rw [putB_len]; simp only [List.length_cons, List.length_nil]; omega)
    rw [f4]
    by_cases e : a < bars.length
    · rw [show ((a : Int) == (bars.length : Int)) = false by simp; omega, cond_false, if_pos e]
    · have e1 : a = bars.length := by omega
      rw [show ((a : Int) == (bars.length : Int)) = true by simp; omega, cond_true, if_neg e, cond_true]
      have : putB bars a k = bars := by unfold putB; exact List.set_eq_of_length_le (by omega)
      rw [this]

/-! ### Room, in the program's words -/
theorem useOf_run {P : List Int} {S : Int} (hP : PcOK P S) {r : List Int} (hr : r ≠ []) (hl : r.length ≤ 15) (hx : ∀ x ∈ r, 0 ≤ x ∧ x < (P.length : Int)) : s_iuseOf P S r = some (useP P S r) := by
  have hS := hP.saw
  have hlen : 1 ≤ r.length := List.length_pos_iff.2 hr
  unfold s_iuseOf f_iuseOf_run5
  rw [show (((List.length r : Nat) : Int) == 0) = false by simp; exact hr, cond_false]
  have hm0 : 0 ≤ ((r.length : Int) - 1) * S := Int.mul_nonneg (by omega) (by omega)
  have hm1 : ((r.length : Int) - 1) * S ≤ 14 * 10000 := Int.le_trans (Int.mul_le_mul_of_nonneg_right (show (r.length : Int) - 1 ≤ 14 by omega) hS.1) (Int.mul_le_mul_of_nonneg_left hS.2 (by omega))
  have e1 : IntKind.wrap .i64 (((List.length r : Nat) : Int) - 1) = (r.length : Int) - 1 := IntWalk.i64_in _ (by omega)
  have e2 : IntKind.wrap .i64 (((r.length : Int) - 1) * S) = ((r.length : Int) - 1) * S := IntWalk.i64_in _ (by omega)
  rw [e1, e2]
  obtain ⟨M, hM⟩ : ∃ M, ((r.length : Int) - 1) * S = M := ⟨_, rfl⟩
  rw [hM] at hm0 hm1 ⊢
  have hsum : ∀ i, 0 ≤ ((r.take i).map fun y => P.getD y.toNat 0).sum ∧ ((r.take i).map fun y => P.getD y.toNat 0).sum ≤ 10000 * (i : Int) := by
    intro i
    induction i with
    | zero => simp
    | succ i ih =>
      rw [List.take_add_one]
      cases e : r[i]? with
      | none =>
        simp only [Option.toList, List.append_nil]
        omega
      | some x =>
        have := hP.get x.toNat
        simp only [Option.toList, List.map_append, List.map_cons, List.map_nil, List.sum_append, List.sum_cons, List.sum_nil]
        omega
  have fin : M + (r.map fun y => P.getD y.toNat 0).sum = useP P S r := by
    subst hM
    cases r with
    | nil => exact absurd rfl hr
    | cons x l =>
      simp only [useP, List.map_cons, List.sum_cons, List.length_cons]
      have : (l.map fun y => S + P.getD y.toNat 0).sum = (l.length : Int) * S + (l.map fun y => P.getD y.toNat 0).sum := by
        clear hx hl hlen hsum e1 e2 hr hm0 hm1
        induction l with
        | nil => simp
        | cons y l ih =>
          simp only [List.map_cons, List.sum_cons, List.length_cons]
          rw [ih]
          have : ((l.length + 1 : Nat) : Int) * S = (l.length : Int) * S + S := by
            rw [show ((l.length + 1 : Nat) : Int) = (l.length : Int) + 1 by omega, Int.add_mul, Int.one_mul]
          omega
      rw [this, show ((l.length + 1 : Nat) : Int) - 1 = (l.length : Int) by omega]
      omega
  rw [← fin]
  refine Eq.trans (by simp) (run_count (step := fun x => f_iuseOf_n5 x.1 x.2.1 x.2.2.1 x.2.2.2.1 x.2.2.2.2) (τ := Unit) r.length (fun i _ => (M + ((r.take i).map fun y => P.getD y.toNat 0).sum, ((List.length r : Nat) : Int), (i : Int), P, r)) (fun _ _ => ()) _ () (by omega) (fun i _ hi => ?_) ?_)
  · show f_iuseOf_n5 (M + ((r.take i).map fun y => P.getD y.toNat 0).sum) ((List.length r : Nat) : Int) (i : Int) P r = some (.inl (M + ((r.take (i + 1)).map fun y => P.getD y.toNat 0).sum, ((List.length r : Nat) : Int), ((i + 1 : Nat) : Int), P, r))
    have h1 := hx _ (getD_mem' (d := 0) hi)
    have h2 := hsum i
    have h3 := hP.get (r.getD i 0).toNat
    unfold f_iuseOf_n5
    rw [lt_true hi, inB_nat hi, succ64 (i := i) (by omega), toNat_nat]
    have hin : inB (List.getD r i 0) (List.length P) = true := by
      obtain ⟨y, hy⟩ : ∃ y : Nat, List.getD r i 0 = y := ⟨(List.getD r i 0).toNat, by omega⟩
      rw [hy] at h1 ⊢
      exact inB_nat (by omega)
    rw [hin]
    simp only [cond_true]
    have e3 : r[i]? = some (r.getD i 0) := by rw [List.getD_eq_getElem?_getD, List.getElem?_eq_getElem hi]; rfl
    rw [List.take_add_one, e3]
    simp only [Option.toList, List.map_append, List.map_cons, List.map_nil, List.sum_append, List.sum_cons, List.sum_nil]
    rw [IntWalk.i64_in _ (by omega)]
    congr 3
    omega
  · show f_iuseOf_n5 (M + ((r.take r.length).map fun y => P.getD y.toNat 0).sum) ((List.length r : Nat) : Int) ((List.length r : Nat) : Int) P r = _
    rw [List.take_length]
    unfold f_iuseOf_n5
    rw [lt_neg, cond_false]
def fitB (P : List Int) (S L : Int) (r : List Int) (k : Int) : Bool := decide (useP P S r + S + P.getD k.toNat 0 ≤ L)
theorem hasRoom_run {P : List Int} {S L : Int} (hP : PcOK P S) {r : List Int} (hr : r ≠ []) (hl : r.length ≤ 14) (hx : ∀ x ∈ r, 0 ≤ x ∧ x < (P.length : Int)) {k : Int} (hk : 0 ≤ k ∧ k < (P.length : Int)) : s_ihasRoom L S P r k = some (fitB P S L r k) := by
  unfold s_ihasRoom s_gClone_int64
  have hlen : 1 ≤ r.length := List.length_pos_iff.2 hr
  have f1 : fits ((List.length ([] : List Int) + List.length (r : List Int)) * 8) = true := fits_small (by simp only [List.length_nil]; omega)
  have f2 : fits ((List.length (r : List Int) + List.length ([k] : List Int)) * 8) = true := fits_small (by simp only [List.length_cons, List.length_nil]; omega)
  rw [blt_true (by omega), cond_true, f1, cond_true, List.nil_append]
  show (cond (fits ((List.length (r : List Int) + List.length ([k] : List Int)) * 8)) _ none) = _
  rw [f2, cond_true, useOf_run hP (by simp) (by simp; omega) (fun x h => by
    rcases List.mem_append.1 h with h | h
    · exact hx x h
    · rw [List.mem_singleton] at h; subst h; exact hk), useP_snoc P S hr]
  rfl

/-! ### The search -/
structure SSt where
  found : Bool
  best : List (List Int)
  looks : Nat
def tryAll (F : List (List Int) → SSt → Option SSt) (fit : List Int → Bool) (bud : Nat) (bars : List (List Int)) (k : Int) : List Nat → SSt → Option SSt
  | [], st => some st
  | a :: q, st => cond (fit (bars.getD a [])) (cond (Nat.blt st.looks bud) ((F (putB bars a k) ⟨st.found, st.best, st.looks + 1⟩).bind (tryAll F fit bud bars k q)) none) (tryAll F fit bud bars k q st)
def newB (F : List (List Int) → SSt → Option SSt) (bud : Nat) (bars : List (List Int)) (k : Int) (st : SSt) : Option SSt :=
  cond (st.found && Nat.ble st.best.length (bars.length + 1)) (some st) (cond (Nat.blt st.looks bud) (F (bars ++ [[k]]) ⟨st.found, st.best, st.looks + 1⟩) none)
def goB (P : List Int) (S L : Int) (bud : Nat) : List Int → List (List Int) → SSt → Option SSt
  | [], bars, st => some (cond (!st.found || Nat.blt bars.length st.best.length) ⟨true, bars, st.looks⟩ st)
  | k :: rest, bars, st => (tryAll (goB P S L bud rest) (fun r => fitB P S L r k) bud bars k (List.range' 0 bars.length) st).bind (newB (goB P S L bud rest) bud bars k)
end Go.RR
