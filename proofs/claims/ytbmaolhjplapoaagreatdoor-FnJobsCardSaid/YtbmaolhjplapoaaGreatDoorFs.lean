/- Sorting numbers: a contract of the kit. No condition. -/
import Derived.Test.YtbmaolhjplapoaaGreatDoorTb
import Derived.Test.YtbmaolhjplapoaaGreatDoorRw
import Derived.Test.YtbmaolhjplapoaaGreatDoorSo
import Derived.Sort.OwnSortedInts
set_option linter.unusedVariables false
set_option linter.unusedSimpArgs false
namespace Go.RR
open Go Go.Proofs
noncomputable def s_gSort (a0 : List Int) : Option (List Int) := cond (Nat.blt 0 a0.length && Nat.ble a0.length 1000000) (some (a0.mergeSort fun x y => decide (x ≤ y))) none
noncomputable def u_gSort : UCon := fun e l rest => match e, l, rest with
 | (.one (.i .i64)), a0, [] => ⟨List Int, s_gSort a0, fun _ => none, fun r => r⟩
 | _, _, _ => UCall.fail
theorem rows_i64 {I : Inn} : ∀ {l : List Int} {xs : List Value}, RowsC I (.one (.i .i64)) l xs → xs = l.map (Value.int .i64)
 | [], xs, h => h
 | x :: l, xs, h => by
  simp only [RowsC] at h
  obtain ⟨c1, c2, rfl, h1, h2⟩ := h
  have h1 : c1 = [.int .i64 x] := h1
  rw [h1, rows_i64 h2]; rfl
theorem rows_i64_of {I : Inn} : ∀ l : List Int, RowsC I (.one (.i .i64)) l (l.map (Value.int .i64))
 | [] => rfl
 | x :: l => ⟨[.int .i64 x], _, rfl, rfl, rows_i64_of l⟩
theorem gSort_calls (a0 r : List Int) (hr : s_gSort a0 = some r) (w : World) (v : Value) (xs : List Value) (hown : OwnV w v 1 a0.length xs) (hrow : RowsC noInn (.one (.i .i64)) a0 xs) :
  Calls Tryz.prog 207 #[v] w fun en w' => ∃ z, en = .returned z ∧ ResU none z ∧ ∃ xs', RowsC noInn (.one (.i .i64)) r xs' ∧ OwnV w' v 1 r.length xs' ∧ But v w w' := by
 unfold s_gSort at hr
 cases hc : (Nat.blt 0 a0.length && Nat.ble a0.length 1000000)
 ·rw [hc] at hr; cases hr
 ·rw [hc] at hr
  rw [Bool.and_eq_true, Nat.ble_eq] at hc
  have h0 : 0 < a0.length := Nat.le_of_ble_eq_true hc.1
  have hr := Option.some.inj hr
  have hxs := rows_i64 hrow
  subst hxs
  have hlen : r.length = a0.length := by rw [← hr]; exact List.length_mergeSort a0
  rcases hown with ⟨h1, _⟩ | ⟨g, cap, cur, ty, rfl, hcap, hg, hn, hm, hsz, htk⟩
  ·exact absurd h1 (by omega)
  ·have hH : Sort.Holds (Value.int .i64) w g 0 a0.toArray := by
    intro j hj
    have hj : j < a0.length := by simpa using hj
    refine ⟨?_, ?_⟩
    ·have hl := Lies.of_heap hg htk j (Value.int .i64 (a0[j])) (by rw [List.getElem?_map, List.getElem?_eq_getElem hj]; rfl)
     rw [hl]
     simp [hj]
    ·unfold World.frozen?
     rw [hg]
     simp
   have hlt : g < w.heap.size := (Array.getElem?_eq_some_iff.1 hg).1
   refine (Tryz.slices_Sort_int g 0 cap a0 w hH hlt (by omega)).mono ?_
   rintro en w' ⟨rfl, n, os, rfl⟩
   rw [hr]
   refine ⟨_, rfl, rfl, r.map (Value.int .i64), rows_i64_of r, .inr ⟨g, cap, _, ty, by rw [hlen], hcap, Go.heap_sortedI r.toArray hg, by rw [hlen]; exact hn, hm, by simp [Sort.putCells, hsz], ?_⟩, ?_⟩
   ·rw [Nat.mul_one]
    exact Go.take_putCellsI cur r (by omega)
   ·exact ⟨rfl, rfl, rfl, by simp [Sort.grow], fun k hk hne => by
     have hne : g ≠ k := fun e => hne (by simp only [ownG]; rw [if_neg (by omega), e])
     rw [Sort.heap_grow_old _ _ (by simpa using hk)]
     simp [Sort.putRow, Sort.mapBlock, Sort.ahead, Array.getElem?_modify, hne]⟩
theorem f_gSort_sound : USound Tryz.prog 207 u_gSort := by
 intro e l rest
 suffices h : ∀ z : UCall e, u_gSort e l rest = z → ∀ r : z.α, e.flat = true → rest.all isV = true → z.c = some r → ∀ w v xs vs, JJ Tryz.prog w → (∀ k, ownG v = some k → ¬ TabBlk Tryz.prog k) → OwnV w v e.sz l.length xs → RowsC noInn e l xs → ArgsV w rest vs →
   Calls Tryz.prog 207 (v :: vs).toArray w fun en w' => ∃ q, en = .returned q ∧ ResU (z.res r) q ∧ ∃ xs', RowsC noInn e (z.new r) xs' ∧ OwnV w' v e.sz (z.new r).length xs' ∧ But v w w' from h _ rfl
 intro z hz
 unfold u_gSort at hz
 split at hz
 ·rename_i a0
  subst hz
  intro r _ _ hr w v xs vs hJ hT hown hrow hargs
  have hargs : vs = [] := hargs
  subst hargs
  exact gSort_calls a0 r hr w v xs hown hrow
 ·subst hz
  intro r _ _ hr; cases hr
end Go.RR
