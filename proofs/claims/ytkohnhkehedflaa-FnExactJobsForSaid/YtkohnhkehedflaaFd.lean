/- Plain laws of fields: neighbours and fields, the program's and the reference's. No condition; no theorem of the program. -/
import Derived.Test.YtkohnhkehedflaaFb
import Derived.Test.YtkohnhkehedflaaFc
set_option linter.unusedVariables false
set_option linter.unusedSimpArgs false
namespace Go.RR
open Go

theorem it_in {σ ρ : Type} {step : σ → Option (σ ⊕ ρ)} {x y : σ} {m : Nat} (h : step x = some (.inl y)) : iter step (m + 1) x = iter step m y := by
  show (match step x with
    | none => none
    | some (.inl s') => iter step m s'
    | some (.inr r) => some r) = _
  rw [h]
theorem it_out {σ ρ : Type} {step : σ → Option (σ ⊕ ρ)} {x : σ} {r : ρ} {m : Nat} (h : step x = some (.inr r)) : iter step (m + 1) x = some r := by
  show (match step x with
    | none => none
    | some (.inl s') => iter step m s'
    | some (.inr r) => some r) = _
  rw [h]
theorem cst_len (l : List Nat) : (cst l).length = l.length := by simp [cst]
theorem cst_get (l : List Nat) (i : Nat) : (cst l).getD i 0 = ((l.getD i 0 : Nat) : Int) := by
  simp only [cst, List.getD_eq_getElem?_getD, List.getElem?_map]
  cases l[i]? <;> rfl
theorem cst_app (a b : List Nat) : cst (a ++ b) = cst a ++ cst b := by simp [cst]
theorem tdiv12 (k : Nat) : Int.tdiv (k : Int) 12 = ((k / 12 : Nat) : Int) := rfl
theorem tmod12 (k : Nat) : Int.tmod (k : Int) 12 = ((k % 12 : Nat) : Int) := rfl

/-! ### Neighbours -/
theorem isCell_eq {x y : Int} {w h : Nat} (hw : w ≤ 12) (hh : h ≤ 12) : s_iisCell x y (w : Int) (h : Int) = decide ((0 ≤ x ∧ x < (w : Int)) ∧ (0 ≤ y ∧ y < (h : Int))) := by
  unfold s_iisCell s_iwithin
  rw [IntWalk.i64_in (w : Int) (by omega), IntWalk.i64_in (h : Int) (by omega), IntWalk.i64_in ((w : Int) - 1) (by omega), IntWalk.i64_in ((h : Int) - 1) (by omega)]
  by_cases a1 : 0 ≤ x <;> by_cases a2 : x ≤ (w : Int) - 1 <;> by_cases a3 : 0 ≤ y <;> by_cases a4 : y ≤ (h : Int) - 1 <;>
    simp [a1, a2, a3, a4, show (x < (w : Int)) ↔ (x ≤ (w : Int) - 1) by omega, show (y < (h : Int)) ↔ (y ≤ (h : Int) - 1) by omega]
noncomputable def dirT : Nat → Nat → Int := updR (updR (updR (updR zF2 0 (upd (upd zF 0 0) 1 (-1))) 1 (upd (upd zF 0 (-1)) 1 0)) 2 (upd (upd zF 0 1) 1 0)) 3 (upd (upd zF 0 0) 1 1)
theorem beside_step {w h k i : Nat} (hw : w ≤ 12) (hh : h ≤ 12) (hk : k < 144) (hi : i < 4) {dx dy : Int} (hx : dirT i 0 = dx) (hy : dirT i 1 = dy) (hdx : -1 ≤ dx ∧ dx ≤ 1) (hdy : -1 ≤ dy ∧ dy ≤ 1) {o : List Int} (ho : o.length ≤ 100) :
    f_ibeside_n3 (k : Int) (w : Int) (h : Int) dirT (i : Int) o = some (.inl ((k : Int), (w : Int), (h : Int), dirT, ((i + 1 : Nat) : Int), o ++ cond (decide ((0 ≤ ((k % 12 : Nat) : Int) + dx ∧ ((k % 12 : Nat) : Int) + dx < (w : Int)) ∧ (0 ≤ ((k / 12 : Nat) : Int) + dy ∧ ((k / 12 : Nat) : Int) + dy < (h : Int)))) [(k : Int) + dx + 12 * dy] [])) := by
  unfold f_ibeside_n3
  rw [decide_eq_true (show (i : Int) < 4 by omega), inB_nat hi, toNat_nat, show inB 0 2 = true from rfl, show inB 1 2 = true from rfl, hx, hy, tmod12, tdiv12, IntWalk.i64_in ((k / 12 : Nat) : Int) (by omega), IntWalk.i64_in (((k % 12 : Nat) : Int) + dx) (by omega), IntWalk.i64_in (((k / 12 : Nat) : Int) + dy) (by omega), isCell_eq hw hh, IntWalk.i64_in (12 * (((k / 12 : Nat) : Int) + dy)) (by omega), IntWalk.i64_in (((k % 12 : Nat) : Int) + dx + 12 * (((k / 12 : Nat) : Int) + dy)) (by omega), show ((k % 12 : Nat) : Int) + dx + 12 * (((k / 12 : Nat) : Int) + dy) = (k : Int) + dx + 12 * dy by omega, IntWalk.i64_in ((i : Int) + 1) (by omega), fits_small (by simp; omega)]
  simp only [cond_true]
  generalize (decide ((0 ≤ ((k % 12 : Nat) : Int) + dx ∧ ((k % 12 : Nat) : Int) + dx < (w : Int)) ∧ (0 ≤ ((k / 12 : Nat) : Int) + dy ∧ ((k / 12 : Nat) : Int) + dy < (h : Int)))) = b
  cases b <;> simp
theorem cond_if {p : Prop} [Decidable p] {q : Prop} [Decidable q] (hpq : p ↔ q) {x : Int} {m : Nat} (hx : q → x = (m : Int)) : (cond (decide p) [x] [] : List Int) = cst (if q then [m] else []) := by
  by_cases hq : q
  · rw [decide_eq_true (hpq.2 hq), if_pos hq, hx hq]; rfl
  · rw [decide_eq_false (fun hp => hq (hpq.1 hp)), if_neg hq]; rfl
theorem ibeside_ok {w h k : Nat} (hw : w ≤ 12) (hh : h ≤ 12) (hk : isC w h k) : s_ibeside (k : Int) (w : Int) (h : Int) = some (cst (nb w h k)) := by
  have hk4 := isC_lt hh hk
  unfold isC at hk
  unfold s_ibeside f_ibeside_run3
  obtain ⟨M, hM⟩ : ∃ M, FU = M + 1 + 1 + 1 + 1 + 1 := ⟨FU - 5, by have := FU_big (m := 5) (by decide); omega⟩
  rw [hM]
  have s0 := beside_step (i := 0) (k := k) hw hh hk4 (by omega) (dx := 0) (dy := -1) rfl rfl (by omega) (by omega) (o := []) (by simp)
  rw [cond_if (q := 0 < k / 12) (m := k - 12) (by omega) (by omega)] at s0
  have l0 : (cst (if 0 < k / 12 then [k - 12] else [])).length ≤ 1 := by by_cases hq : 0 < k / 12 <;> simp [hq, cst]
  have s1 := beside_step (i := 1) (k := k) hw hh hk4 (by omega) (dx := -1) (dy := 0) rfl rfl (by omega) (by omega) (o := [] ++ cst (if 0 < k / 12 then [k - 12] else [])) (by simp only [List.nil_append]; omega)
  rw [cond_if (q := 0 < k % 12) (m := k - 1) (by omega) (by omega)] at s1
  have l1 : (cst (if 0 < k % 12 then [k - 1] else [])).length ≤ 1 := by by_cases hq : 0 < k % 12 <;> simp [hq, cst]
  have s2 := beside_step (i := 2) (k := k) hw hh hk4 (by omega) (dx := 1) (dy := 0) rfl rfl (by omega) (by omega) (o := [] ++ cst (if 0 < k / 12 then [k - 12] else []) ++ cst (if 0 < k % 12 then [k - 1] else [])) (by simp only [List.nil_append, List.length_append]; omega)
  rw [cond_if (q := k % 12 + 1 < w) (m := k + 1) (by omega) (by omega)] at s2
  have l2 : (cst (if k % 12 + 1 < w then [k + 1] else [])).length ≤ 1 := by by_cases hq : k % 12 + 1 < w <;> simp [hq, cst]
  have s3 := beside_step (i := 3) (k := k) hw hh hk4 (by omega) (dx := 0) (dy := 1) rfl rfl (by omega) (by omega) (o := [] ++ cst (if 0 < k / 12 then [k - 12] else []) ++ cst (if 0 < k % 12 then [k - 1] else []) ++ cst (if k % 12 + 1 < w then [k + 1] else [])) (by simp only [List.nil_append, List.length_append]; omega)
  rw [cond_if (q := k / 12 + 1 < h) (m := k + 12) (by omega) (by omega)] at s3
  refine (it_in (step := fun x => f_ibeside_n3 x.1 x.2.1 x.2.2.1 x.2.2.2.1 x.2.2.2.2.1 x.2.2.2.2.2) (x := ((k : Int), (w : Int), (h : Int), dirT, 0, [])) s0).trans ?_
  refine (it_in (step := fun x => f_ibeside_n3 x.1 x.2.1 x.2.2.1 x.2.2.2.1 x.2.2.2.2.1 x.2.2.2.2.2) s1).trans ?_
  refine (it_in (step := fun x => f_ibeside_n3 x.1 x.2.1 x.2.2.1 x.2.2.2.1 x.2.2.2.2.1 x.2.2.2.2.2) s2).trans ?_
  refine (it_in (step := fun x => f_ibeside_n3 x.1 x.2.1 x.2.2.1 x.2.2.2.1 x.2.2.2.2.1 x.2.2.2.2.2) s3).trans ?_
  refine it_out ?_
  show f_ibeside_n3 (k : Int) (w : Int) (h : Int) dirT 4 _ = _
  unfold f_ibeside_n3
  rw [show decide ((4 : Int) < 4) = false from rfl, cond_false]
  congr 2
  unfold nb
  simp only [cst_app, List.nil_append, List.append_assoc]
theorem sbeside_ok {w h k : Nat} (hw : w ≤ 12) (hh : h ≤ 12) {f : Nat → Int} (hk : isC w h k) : s_sl01Beside (w : Int) (h : Int) f (k : Int) = some (cst (nb w h k)) := by
  have hk4 := isC_lt hh hk
  unfold isC at hk
  unfold s_sl01Beside nb
  rw [tdiv12, tmod12, IntWalk.i64_in ((k / 12 : Nat) : Int) (by omega), IntWalk.i64_in (((k / 12 : Nat) : Int) + 1) (by omega), IntWalk.i64_in (((k % 12 : Nat) : Int) + 1) (by omega), IntWalk.i64_in (w : Int) (by omega), IntWalk.i64_in (h : Int) (by omega), IntWalk.i64_in ((k : Int) - 12) (by omega), IntWalk.i64_in ((k : Int) - 1) (by omega), IntWalk.i64_in ((k : Int) + 1) (by omega), IntWalk.i64_in ((k : Int) + 12) (by omega)]
  have g1 : decide (((k / 12 : Nat) : Int) > 0) = decide (0 < k / 12) := decide_eq_decide.2 (by omega)
  have g2 : decide (((k % 12 : Nat) : Int) > 0) = decide (0 < k % 12) := decide_eq_decide.2 (by omega)
  have g3 : decide (((k % 12 : Nat) : Int) + 1 < (w : Int)) = decide (k % 12 + 1 < w) := decide_eq_decide.2 (by omega)
  have g4 : decide (((k / 12 : Nat) : Int) + 1 < (h : Int)) = decide (k / 12 + 1 < h) := decide_eq_decide.2 (by omega)
  rw [g1, g2, g3, g4]
  have e1 : 0 < k / 12 → (k : Int) - 12 = ((k - 12 : Nat) : Int) := fun _ => by omega
  have e2 : 0 < k % 12 → (k : Int) - 1 = ((k - 1 : Nat) : Int) := fun _ => by omega
  by_cases h1 : 0 < k / 12 <;> by_cases h2 : 0 < k % 12 <;> by_cases h3 : k % 12 + 1 < w <;> by_cases h4 : k / 12 + 1 < h <;>
    simp only [h1, h2, h3, h4, decide_true, decide_false, cond_true, cond_false, if_true, if_false, e1, e2, List.nil_append, List.append_nil, List.length_append, List.length_singleton, List.length_nil, show ∀ n : Nat, n ≤ 1000 → fits (n * 8) = true from fun n hn => fits_small (by omega), cst, List.map_append, List.map_cons, List.map_nil, List.append_assoc, List.cons_append, Nat.zero_add, show fits (1 * 8) = true from fits_small (by omega), show fits ((1 + 1) * 8) = true from fits_small (by omega), show fits ((1 + (1 + 1)) * 8) = true from fits_small (by omega), show fits ((1 + 1 + 1) * 8) = true from fits_small (by omega), show fits ((1 + 1 + 1 + 1) * 8) = true from fits_small (by omega)] <;> rfl
end Go.RR
