/- Plain laws of fields: the field of a cell, the program's and the reference's. No condition; no theorem of the program. -/
import Derived.Test.YtkohnhkehedflaaFd
set_option linter.unusedVariables false
set_option linter.unusedSimpArgs false
namespace Go.RR
open Go

theorem contains_cst (q : List Nat) (n : Nat) : (cst q).contains (n : Int) = q.contains n := by
  rw [Bool.eq_iff_iff, List.contains_iff_mem, List.contains_iff_mem, cst_mem]
  exact ⟨fun ⟨m, h1, h2⟩ => by rw [show n = m by omega]; exact h1, fun h => ⟨n, h, rfl⟩⟩
theorem contains_ok {l : List Int} {n : Int} (hl : l.length ≤ 1000000) : s_gContains_int64 l n = some (l.contains n) := by
  have hs1 : ∀ i, i < l.length → f_gIndex_int64_n2 n (l.length : Nat) i l = some (cond (n == l.getD i 0) (Sum.inr (i : Int)) (Sum.inl (n, ((l.length : Nat) : Int), ((i + 1 : Nat) : Int), l))) := by
    intro i hi
    unfold f_gIndex_int64_n2
    rw [lt_true hi, inB_nat hi, toNat_nat, succ64 (by omega)]
    simp only [cond_true]
    cases n == l.getD i 0 <;> rfl
  have he1 : f_gIndex_int64_n2 n (l.length : Nat) (l.length : Nat) l = some (Sum.inr (-1)) := by
    unfold f_gIndex_int64_n2
    rw [lt_neg, cond_false]
  obtain ⟨r, h1, h2, _⟩ := run_idx (step := fun x => f_gIndex_int64_n2 x.1 x.2.1 x.2.2.1 x.2.2.2) l.length (fun i => (n, ((l.length : Nat) : Int), (i : Int), l)) (fun i => n == l.getD i 0) hs1 he1 l.length 0 FU (by omega) (FU_big (pow_big (by omega)))
  have h1 : iter (fun x => f_gIndex_int64_n2 x.1 x.2.1 x.2.2.1 x.2.2.2) FU (n, ((l.length : Nat) : Int), 0, l) = some r := h1
  unfold s_gContains_int64 s_gIndex_int64 f_gIndex_int64_run2
  rw [h1]
  simp only [Option.bind]
  rw [h2, any_getD 0 l (fun x => n == x), List.contains_eq_any_beq]
theorem adF_len (f : Nat → Int) (c : Int) (q : List Nat) (n : Nat) : (adF f c q n).length ≤ q.length + 1 := by
  rcases adF_cases f c q n with ⟨e, _⟩ | ⟨e, _⟩ <;> rw [e] <;> simp
theorem seen_app (q : List Nat) (n : Nat) : updb (fun k => q.contains k) n true = fun k => (q ++ [n]).contains k := by
  funext k
  unfold updb
  by_cases e : k = n
  · subst e; rw [show Nat.beq k k = true from Nat.beq_refl k]; simp
  · rw [show Nat.beq k n = false from beqF e]
    simp [e]
section
variable {w h : Nat} (hw : w ≤ 12) (hh : h ≤ 12) {f : Nat → Int} {s : Nat}
include hw hh
theorem field_in {q : List Nat} {i : Nat} (hq : BQ w h f s q) (hi : i < q.length) :
    f_iPicture_field_run6 ((i : Int), (((cst (nb w h (q.getD i 0))).length : Nat) : Int), 0, (w : Int), (h : Int), f, cst q, cst (nb w h (q.getD i 0))) = some (.inl (((i + 1 : Nat) : Int), (w : Int), (h : Int), f, cst (roundF w h f (f s) q i))) := by
  have hql := nodup_len hq.nd fun x hx => isC_lt hh (hq.cell x hx)
  generalize hx : q.getD i 0 = x
  have hnl := nb_len w h x
  unfold f_iPicture_field_run6
  have key := run_countI (step := fun x => f_iPicture_field_n6 x.1 x.2.1 x.2.2.1 x.2.2.2.1 x.2.2.2.2.1 x.2.2.2.2.2.1 x.2.2.2.2.2.2.1 x.2.2.2.2.2.2.2) (nb w h x).length (fun j t => ((i : Int), (((cst (nb w h x)).length : Nat) : Int), (j : Int), (w : Int), (h : Int), f, cst t, cst (nb w h x))) (fun t j => adF f (f s) t ((nb w h x).getD j 0)) (fun j t => BQ w h f s t ∧ i < t.length ∧ t.getD i 0 = x ∧ t.length ≤ 144 + j) (.inl (((i + 1 : Nat) : Int), (w : Int), (h : Int), f, cst (roundF w h f (f s) q i))) q (by omega) ⟨hq, hi, hx, by omega⟩ ?_ ?_
  · exact key
  · intro j t hj ⟨h1, h2, h3, h4⟩
    have hn := getD_mem' (d := 0) hj
    have hg := cst_get (nb w h x) j
    have hjl : j < (cst (nb w h x)).length := by rw [cst_len]; exact hj
    have hil : i < (cst t).length := by rw [cst_len]; exact h2
    have hgt := cst_get t i
    rw [h3] at hgt
    generalize (nb w h x).getD j 0 = n at hn hg ⊢
    obtain ⟨k1, ⟨u, k2⟩, _⟩ := adF_ok hw h1 h2 (n := n) (by rw [h3]; exact hn)
    have hadl := adF_len f (f s) t n
    have hxm := getD_mem' (d := 0) h2
    rw [h3] at hxm
    have hxc := h1.cell _ hxm
    have hx4 := isC_lt hh hxc
    have hn4 := isC_lt hh (nb_cell hw hxc hn)
    refine ⟨?_, k1, by rw [k2, List.length_append]; omega, by rw [k2, List.getD_eq_getElem?_getD, List.getElem?_append_left h2, ← List.getD_eq_getElem?_getD]; exact h3, by omega⟩
    show f_iPicture_field_n6 i ((cst (nb w h x)).length : Nat) j w h f (cst t) (cst (nb w h x)) = _
    unfold f_iPicture_field_n6 adF
    rw [lt_true hjl, inB_nat hjl, toNat_nat, hg, inB_nat hn4, inB_nat hil, toNat_nat, hgt, inB_nat hx4, toNat_nat, toNat_nat, h1.col x hxm, contains_ok (by rw [cst_len]; omega), contains_cst, IntWalk.i64_in ((j : Int) + 1) (by omega), fits_small (by rw [cst_len]; simp; omega)]
    simp only [cond_true, Option.bind]
    cases f n == f s
    · rfl
    · simp only [cond_true]
      cases t.contains n
      · simp only [Bool.not_false, cond_true, cond_false]
        rw [cst_app]
        rfl
      · rfl
  · intro _
    rw [foldl_getD 0 (fun t n => adF f (f s) t n)]
    show f_iPicture_field_n6 i ((cst (nb w h x)).length : Nat) ((nb w h x).length : Nat) w h f _ (cst (nb w h x)) = _
    unfold f_iPicture_field_n6
    rw [cst_len, lt_neg, cond_false, IntWalk.i64_in ((i : Int) + 1) (by omega)]
    unfold roundF
    rw [hx]
    rfl
theorem field_run : ∀ (m i : Nat) (q : List Nat) (M : Nat), BQ w h f s q → i ≤ q.length → 144 < i + m → Closed w h f s q i → m < M →
    iter (fun x => f_iPicture_field_n3 x.1 x.2.1 x.2.2.1 x.2.2.2.1 x.2.2.2.2) M ((i : Int), (w : Int), (h : Int), f, cst q) = some (cst (listed fun k => (bfs w h f (f s) m i q).contains k))
  | 0, i, q, _, hq, hi, hm, hc, _ => by
    have := nodup_len hq.nd fun x hx => isC_lt hh (hq.cell x hx)
    omega
  | m + 1, i, q, M + 1, hq, hi, hm, hc, hM => by
    have hql := nodup_len hq.nd fun x hx => isC_lt hh (hq.cell x hx)
    unfold bfs
    by_cases h1 : i < q.length
    · rw [if_pos h1]
      obtain ⟨k1, k2, k3⟩ := round_ok hw hq h1 hc
      have hil : i < (cst q).length := by rw [cst_len]; exact h1
      have hcell := hq.cell _ (getD_mem' (d := 0) h1)
      have hs : f_iPicture_field_n3 (i : Int) (w : Int) (h : Int) f (cst q) = some (.inl (((i + 1 : Nat) : Int), (w : Int), (h : Int), f, cst (roundF w h f (f s) q i))) := by
        unfold f_iPicture_field_n3
        rw [lt_true hil, inB_nat hil, toNat_nat, cst_get, ibeside_ok hw hh hcell]
        simp only [cond_true, Option.bind]
        exact field_in hw hh hq h1
      rw [it_in (step := fun x => f_iPicture_field_n3 x.1 x.2.1 x.2.2.1 x.2.2.2.1 x.2.2.2.2) (x := ((i : Int), (w : Int), (h : Int), f, cst q)) hs]
      exact field_run m (i + 1) _ M k1 (by omega) (by omega) k2 (by omega)
    · rw [if_neg h1]
      obtain rfl : i = q.length := by omega
      refine it_out ?_
      show f_iPicture_field_n3 (q.length : Nat) (w : Int) (h : Int) f (cst q) = _
      unfold f_iPicture_field_n3 s_gSort
      have h0 := hq.head.2
      rw [cst_len, lt_neg, cond_false, show Nat.blt 0 q.length = true from Nat.ble_eq_true_of_le h0, show Nat.ble q.length 1000000 = true by rw [Nat.ble_eq]; omega, sort_listed hq.nd fun x hx => isC_lt hh (hq.cell x hx)]
      rfl
  | _ + 1, _, _, 0, _, _, _, _, hM => by omega
theorem ifield_ok (hs : isC w h s) : s_iPicture_field (w : Int) (h : Int) f ((s % 12 : Nat) : Int) ((s / 12 : Nat) : Int) = some (cst (listed fun k => (comp w h f s).contains k)) := by
  have hs4 := isC_lt hh hs
  unfold s_iPicture_field f_iPicture_field_run3
  rw [IntWalk.i64_in (12 * ((s / 12 : Nat) : Int)) (by omega), IntWalk.i64_in _ (by omega), show ((s % 12 : Nat) : Int) + 12 * ((s / 12 : Nat) : Int) = (s : Int) by omega]
  exact field_run hw hh 145 0 [s] FU (first_ok hs) (by simp) (by omega) (fun m hm => by omega) (FU_big (pow_big (by omega)))

/-! ### The reference -/
theorem sfield_in {q : List Nat} {i : Nat} (hs : isC w h s) (hq : BQ w h f s q) (hi : i < q.length) {z : Nat → Bool} :
    f_sl01Field_run9 ((s : Int), (i : Int), 0, (w : Int), (h : Int), f, z, (fun k => q.contains k), cst q, cst (nb w h (q.getD i 0))) = some (.inl ((s : Int), ((i + 1 : Nat) : Int), (w : Int), (h : Int), f, z, (fun k => (roundF w h f (f s) q i).contains k), cst (roundF w h f (f s) q i))) := by
  have hs4 := isC_lt hh hs
  have hql := nodup_len hq.nd fun x hx => isC_lt hh (hq.cell x hx)
  generalize hx : q.getD i 0 = x
  have hnl := nb_len w h x
  unfold f_sl01Field_run9
  have key := run_countI (step := fun x => f_sl01Field_n9 x.1 x.2.1 x.2.2.1 x.2.2.2.1 x.2.2.2.2.1 x.2.2.2.2.2.1 x.2.2.2.2.2.2.1 x.2.2.2.2.2.2.2.1 x.2.2.2.2.2.2.2.2.1 x.2.2.2.2.2.2.2.2.2) (nb w h x).length (fun j t => ((s : Int), (i : Int), (j : Int), (w : Int), (h : Int), f, z, (fun k => t.contains k), cst t, cst (nb w h x))) (fun t j => adF f (f s) t ((nb w h x).getD j 0)) (fun j t => BQ w h f s t ∧ i < t.length ∧ t.getD i 0 = x ∧ t.length ≤ 144 + j) (.inl ((s : Int), ((i + 1 : Nat) : Int), (w : Int), (h : Int), f, z, (fun k => (roundF w h f (f s) q i).contains k), cst (roundF w h f (f s) q i))) q (by omega) ⟨hq, hi, hx, by omega⟩ ?_ ?_
  · exact key
  · intro j t hj ⟨h1, h2, h3, h4⟩
    have hn := getD_mem' (d := 0) hj
    have hg := cst_get (nb w h x) j
    have hjl : j < (cst (nb w h x)).length := by rw [cst_len]; exact hj
    generalize (nb w h x).getD j 0 = n at hn hg ⊢
    obtain ⟨k1, ⟨u, k2⟩, _⟩ := adF_ok hw h1 h2 (n := n) (by rw [h3]; exact hn)
    have hadl := adF_len f (f s) t n
    have hxm := getD_mem' (d := 0) h2
    rw [h3] at hxm
    have hxc := h1.cell _ hxm
    have hn4 := isC_lt hh (nb_cell hw hxc hn)
    refine ⟨?_, k1, by rw [k2, List.length_append]; omega, by rw [k2, List.getD_eq_getElem?_getD, List.getElem?_append_left h2, ← List.getD_eq_getElem?_getD]; exact h3, by omega⟩
    show f_sl01Field_n9 s i j w h f z (fun k => t.contains k) (cst t) (cst (nb w h x)) = _
    unfold f_sl01Field_n9 adF
    rw [lt_true hjl, inB_nat hjl, toNat_nat, hg, inB_nat hn4, inB_nat hs4, toNat_nat, toNat_nat, IntWalk.i64_in ((j : Int) + 1) (by omega), fits_small (by rw [cst_len]; simp; omega)]
    simp only [cond_true]
    by_cases hc : t.contains n = true
    · rw [hc]
      cases f n == f s <;> rfl
    · rw [Bool.not_eq_true] at hc
      rw [hc]
      cases f n == f s
      · rfl
      · simp only [Bool.not_false, cond_true, cond_false]
        rw [cst_app, seen_app]
        rfl
  · intro _
    rw [foldl_getD 0 (fun t n => adF f (f s) t n)]
    show f_sl01Field_n9 s i ((nb w h x).length : Nat) w h f z _ _ (cst (nb w h x)) = _
    unfold f_sl01Field_n9
    rw [cst_len, lt_neg, cond_false, IntWalk.i64_in ((i : Int) + 1) (by omega)]
    unfold roundF
    rw [hx]
    rfl
theorem sfield_run (hs : isC w h s) {z : Nat → Bool} : ∀ (m i : Nat) (q : List Nat) (M : Nat), BQ w h f s q → i ≤ q.length → 144 < i + m → Closed w h f s q i → m < M →
    iter (fun x => f_sl01Field_n5 x.1 x.2.1 x.2.2.1 x.2.2.2.1 x.2.2.2.2.1 x.2.2.2.2.2.1 x.2.2.2.2.2.2.1 x.2.2.2.2.2.2.2) M ((s : Int), (i : Int), (w : Int), (h : Int), f, z, (fun k => q.contains k), cst q) = some (fun k => (bfs w h f (f s) m i q).contains k)
  | 0, i, q, _, hq, hi, hm, hc, _ => by
    have := nodup_len hq.nd fun x hx => isC_lt hh (hq.cell x hx)
    omega
  | m + 1, i, q, M + 1, hq, hi, hm, hc, hM => by
    unfold bfs
    by_cases h1 : i < q.length
    · rw [if_pos h1]
      obtain ⟨k1, k2, k3⟩ := round_ok hw hq h1 hc
      have hil : i < (cst q).length := by rw [cst_len]; exact h1
      have hcell := hq.cell _ (getD_mem' (d := 0) h1)
      have hst : f_sl01Field_n5 (s : Int) (i : Int) (w : Int) (h : Int) f z (fun k => q.contains k) (cst q) = some (.inl ((s : Int), ((i + 1 : Nat) : Int), (w : Int), (h : Int), f, z, (fun k => (roundF w h f (f s) q i).contains k), cst (roundF w h f (f s) q i))) := by
        unfold f_sl01Field_n5
        rw [lt_true hil, inB_nat hil, toNat_nat, cst_get, sbeside_ok hw hh hcell]
        simp only [cond_true, Option.bind]
        exact sfield_in hw hh hs hq h1
      rw [it_in (step := fun x => f_sl01Field_n5 x.1 x.2.1 x.2.2.1 x.2.2.2.1 x.2.2.2.2.1 x.2.2.2.2.2.1 x.2.2.2.2.2.2.1 x.2.2.2.2.2.2.2) (x := ((s : Int), (i : Int), (w : Int), (h : Int), f, z, (fun k => q.contains k), cst q)) hst]
      exact sfield_run hs m (i + 1) _ M k1 (by omega) (by omega) k2 (by omega)
    · rw [if_neg h1]
      obtain rfl : i = q.length := by omega
      refine it_out ?_
      show f_sl01Field_n5 (s : Int) (q.length : Nat) (w : Int) (h : Int) f z (fun k => q.contains k) (cst q) = _
      unfold f_sl01Field_n5
      rw [cst_len, lt_neg, cond_false]
  | _ + 1, _, _, 0, _, _, _, _, hM => by omega
theorem sfield_ok (hs : isC w h s) : s_sl01Field (w : Int) (h : Int) f (s : Int) = some (fun k => (comp w h f s).contains k) := by
  have hs4 := isC_lt hh hs
  unfold s_sl01Field f_sl01Field_run5
  rw [inB_nat hs4, cond_true, toNat_nat]
  have e : updb zB s true = fun k => ([s] : List Nat).contains k := by
    have := seen_app [] s
    rw [List.nil_append] at this
    rw [← this]
    congr 1
  rw [e]
  exact sfield_run hw hh hs 145 0 [s] FU (first_ok hs) (by simp) (by omega) (fun m hm => by omega) (FU_big (pow_big (by omega)))
end
end Go.RR
