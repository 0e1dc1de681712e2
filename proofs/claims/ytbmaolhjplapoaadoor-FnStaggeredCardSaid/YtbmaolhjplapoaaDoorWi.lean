/- The plain law of FnStaggered. -/
import Derived.Test.YtbmaolhjplapoaaDoorWg
import Derived.Test.YtbmaolhjplapoaaDoorWe
set_option linter.unusedVariables false
set_option linter.unusedSimpArgs false
namespace Go.RR
open Go

theorem at_ok {l : List Int} (hl : Byt l) {i k : Nat} (hk : 1 < k ∧ k ≤ 200) : ∃ x : Nat, s_wa2At l (i : Int) (k : Int) = some (x : Int) ∧ x < k := by
  unfold s_wa2At
  by_cases h : i < l.length
  · have hx := hl.2 _ (getD_mem' (d := 0) h)
    rw [decide_eq_false (show ¬ (i : Int) ≥ ((l.length : Nat) : Int) by omega), decide_eq_false (show ¬ (k : Int) < 1 by omega), inB_nat h, decide_eq_false (show ¬ (k : Int) = 0 by omega), toNat_nat, IntWalk.i64_in _ (by omega), Int.tmod_eq_emod_of_nonneg (by omega)]
    have h1 := Int.emod_nonneg (l.getD i 0) (show (k : Int) ≠ 0 by omega)
    have h2 := Int.emod_lt_of_pos (l.getD i 0) (show (0 : Int) < (k : Int) by omega)
    exact ⟨(l.getD i 0 % (k : Int)).toNat, by rw [Int.toNat_of_nonneg h1]; rfl, by omega⟩
  · rw [decide_eq_true (show (i : Int) ≥ ((l.length : Nat) : Int) by omega)]
    exact ⟨0, rfl, by omega⟩
theorem same_rows {rs : List (List Int)} (hl : rs.length ≤ 1000) (h : ∀ r ∈ rs, OKR r) : s_sA2SameRows rs rs = some true := by
  unfold s_sA2SameRows
  have : (((List.length rs : Nat) : Int) != ((List.length rs : Nat) : Int)) = false := by simp
  rw [this, cond_false]
  unfold f_sA2SameRows_run4
  refine (run_all (step := fun x => f_sA2SameRows_n4 x.1 x.2.1 x.2.2) rs.length (fun i => ((i : Int), rs, rs)) (fun i => true) true false (by omega) ?_ ?_).trans (by simp)
  · intro i hi
    show f_sA2SameRows_n4 i rs rs = _
    have hr := h _ (getD_mem' (d := ([] : List Int)) hi)
    have hrl := hr.l
    have hs : s_sl05Same (rs.getD i []) (rs.getD i []) = some true := by
      have := same_row (rs.getD i []) (by omega)
      unfold s_sSameRow at this
      cases hx : s_sl05Same (rs.getD i []) (rs.getD i []) with
      | none => rw [hx] at this; cases this
      | some b => rw [hx] at this; exact this
    unfold f_sA2SameRows_n4
    rw [lt_true hi, inB_nat hi, toNat_nat, hs, succ64 (by omega)]
    rfl
  · show f_sA2SameRows_n4 (rs.length : Nat) rs rs = _
    unfold f_sA2SameRows_n4
    rw [lt_neg, cond_false]
theorem same_pairs {l : List (Nat → Int)} (hl : l.length ≤ 100000) : s_sA2SamePairs l l = some true := by
  unfold s_sA2SamePairs
  have : (((List.length l : Nat) : Int) != ((List.length l : Nat) : Int)) = false := by simp
  rw [this, cond_false]
  unfold f_sA2SamePairs_run4
  refine (run_all (step := fun x => f_sA2SamePairs_n4 x.1 x.2.1 x.2.2) l.length (fun i => ((i : Int), l, l)) (fun i => true) true false (by omega) ?_ ?_).trans (by simp)
  · intro i hi
    show f_sA2SamePairs_n4 i l l = _
    unfold f_sA2SamePairs_n4
    have : faEq 2 (l.getD i zF) (l.getD i zF) = true := by unfold faEq; simp
    rw [lt_true hi, inB_nat hi, toNat_nat, this, succ64 (by omega)]
    rfl
  · show f_sA2SamePairs_n4 (l.length : Nat) l l = _
    unfold f_sA2SamePairs_n4
    rw [lt_neg, cond_false]

/-- What is known of the part of the law that stands behind the staggered rows. -/
structure TF (a0 a1 : List Int) (S near : Int) (A B : List Int) (CL : List (Nat → Int)) (lv : Int × Int) (z : ByteArray) (st : List Int) (T : Int) (la lb lt : Bool) : Prop where
  hA : s_sA2Row a0 = some A
  hB : s_sA2Row a1 = some B
  c1 : s_iClashesOf A B S near = some (CL, 0)
  c2 : s_sClashesOf A B S near = some (CL, 0)
  l1 : s_iLeastApart A B S = some lv
  l2 : s_sLeastApart A B S = some lv
  f1 : s_iFirstClash [A, B] S near = some (cond (la && lb && lt) (1, 0) (0, 6))
  hp : s_sA2Path a1 = some z
  t1 : s_iTurnsOf z = some (T, st, 0)
  t2 : s_sTurnsOf z = some (T, st, 0)
  sp : s_sA2SamePairs CL CL = some true
  si : s_sA2Same st st = some true
  tr : f_wFnStaggered_run54 (z, T, 0, 0, 0, st) = some true
  e1 : decide (((List.length A : Nat) : Int) > 1) = la
  e2 : decide (((List.length B : Nat) : Int) > 1) = lb
  e3 : (lv.2 == 0) = (la && lb)
  e4 : decide (((List.length CL : Nat) : Int) > 0) = (la && lb && lt)
  e5 : decide (lv.1 < near) = lt
  e6 : (((List.length st : Nat) : Int) != IntKind.wrap .i64 (T + 1)) = false
  b1 : (lv.1 != lv.1) = false
  b2 : (lv.2 != lv.2) = false
  b3 : (T != T) = false
theorem tf_ok {a0 a1 : List Int} {S near : Int} (h0 : Byt a0) (h1 : Byt a1) (hS : 0 ≤ S ∧ S ≤ 200) (hn : 0 ≤ near ∧ near ≤ 2000) : ∃ A B CL lv z st T la lb lt, TF a0 a1 S near A B CL lv z st T la lb lt := by
  obtain ⟨A, hA, oA⟩ := A2Row_ok h0
  obtain ⟨B, hB, oB⟩ := A2Row_ok h1
  obtain ⟨z, hp, hz1, hz2, hzg⟩ := A2Path_ok h1
  have hP := pp_ok hzg hz1 (by omega)
  obtain ⟨la, ra⟩ := J_facts oA hS
  obtain ⟨lb, rb⟩ := J_facts oB hS
  have hal := oA.l
  have hbl := oB.l
  obtain ⟨t2, t1, _⟩ := turns_eq (z := z) (by omega)
  have hlen := hP.len
  have hle := hP.le
  have hT : turns z = (cst z z.size, pst z z.size, 0) := by
    unfold turns
    rw [hP.of]
    show (IntKind.wrap .i64 (((List.length (pst z z.size) : Nat) : Int) - 1), pst z z.size, (0 : Int)) = _
    rw [IntWalk.i64_in _ (by omega), hlen, Int.add_sub_cancel]
  rw [hT] at t1 t2
  have hnear : s_iwithin near 0 2000 = true := by
    unfold s_iwithin
    rw [decide_eq_true hn.1, decide_eq_true hn.2]; rfl
  have hnear2 : s_sl05Near near = true := by
    unfold s_sl05Near s_sl00In
    rw [decide_eq_true (show near ≥ 0 from hn.1), decide_eq_true hn.2]; rfl
  have hcl := CLs_len (ja := J A S) (jb := J B S) (near := near) (by omega) (by omega)
  have hany := CLs_any (J A S) (J B S) near
  rw [least_any, least_ok oA oB hS] at hany
  have e4 : decide (((List.length (CLs (J A S) (J B S) near) : Nat) : Int) > 0) = (decide (((List.length A : Nat) : Int) > 1) && decide (((List.length B : Nat) : Int) > 1) && decide ((leastV (V (J A S) (J B S))).1 < near)) := by
    rw [← hany]; exact decide_eq_decide.2 (by omega)
  refine ⟨A, B, CLs (J A S) (J B S) near, leastV (V (J A S) (J B S)), z, pst z z.size, cst z z.size, _, _, _, hA, hB, ?_, ?_, least_i oA oB hS, least_s oA oB hS, ?_, hp, t1, t2, same_pairs (by omega), same_ints _ (by omega), turn_run hP ⟨hz1, hz2⟩, rfl, rfl, least_ok oA oB hS, e4, rfl, ?_, by simp, by simp, by simp⟩
  · unfold s_iClashesOf
    rw [valid_ok oA, valid_ok oB, seam_ok hS, hnear, cl_i oA oB hS]
    rfl
  · have hseam : s_sl05Seam S = true := seam_ok hS
    unfold s_sClashesOf s_sl05Both
    rw [sok_ok oA, sok_ok oB, hseam, hnear2, cl_s oA oB hS]
    rfl
  · rw [first_eq (rs := [A, B]) (fun r hr => by simp at hr; rcases hr with rfl | rfl <;> assumption) (by simp) hS hn]
    have eg : anyClash (J (gR [A, B] 0) S) (J (gR [A, B] (0 + 1)) S) near = (decide (((List.length A : Nat) : Int) > 1) && decide (((List.length B : Nat) : Int) > 1) && decide ((leastV (V (J A S) (J B S))).1 < near)) := by
      show anyClash (J A S) (J B S) near = _
      rw [least_any, least_ok oA oB hS]
    show some (cond (Nat.blt (cond (anyClash (J (gR [A, B] 0) S) (J (gR [A, B] (0 + 1)) S) near) 0 (0 + 1)) 1) (((cond (anyClash (J (gR [A, B] 0) S) (J (gR [A, B] (0 + 1)) S) near) 0 (0 + 1) + 1 : Nat) : Int), 0) (0, 6)) = _
    rw [eg]
    generalize (decide (((List.length A : Nat) : Int) > 1) && decide (((List.length B : Nat) : Int) > 1) && decide ((leastV (V (J A S) (J B S))).1 < near)) = b
    cases b <;> rfl
  · rw [IntWalk.i64_in _ (by omega), hlen]
    simp
theorem stag_cases {L S W : Nat} {near : Int} (hL : 1 ≤ L ∧ L ≤ 2000) (hS : S ≤ 200) (hW : 1 ≤ W ∧ W ≤ 200) (hn : 0 ≤ near ∧ near ≤ 2000) : (∃ out, stag L S W near 4 = (out, 0) ∧ StI L S near 3 out ∧ out.length = 4 ∧ s_iFirstClash out (S : Int) near = some (0, 6)) ∨ stag L S W near 4 = ([], 6) := by
  have hst : (∃ out, stag L S W near 4 = (out, 0) ∧ StI L S near 3 out) ∨ stag L S W near 4 = ([], 6) := by
    unfold stag
    cases hb : (brk L S W W).2
    · exact .inr rfl
    · cases he : exitL (stG L S W near) [(brk L S W W).1] (List.range' 0 (4 - 1)) with
      | inl o => exact .inl ⟨o, rfl, stag_inv (rows := 4) hL hW hb o he⟩
      | inr r =>
        refine .inr ?_
        show r = _
        revert he
        have : ∀ (k i : Nat) (o : List (List Int)), exitL (stG L S W near) o (List.range' i k) = .inr r → r = ([], 6) := by
          intro k
          induction k with
          | zero => intro i o h; cases h
          | succ k ih =>
            intro i o h
            rw [List.range'_succ] at h
            unfold exitL at h
            cases hg : stG L S W near o i with
            | inl o' => rw [hg] at h; exact ih _ _ h
            | inr r' =>
              rw [hg] at h
              cases h
              unfold stG at hg
              cases hq : Nat.blt (atJ L S W near o) W
              · rw [hq] at hg; cases hg; rfl
              · rw [hq] at hg; cases hg
        exact this _ _ _
  rcases hst with ⟨out, e, hI⟩ | e
  · have hlen := hI.len
    have hfc : s_iFirstClash out (S : Int) near = some (0, 6) := by
      rw [first_eq (fun r hr => (hI.row r hr).1) (by omega) (by omega) hn]
      have : firstN (fun j => anyClash (J (gR out j) S) (J (gR out (j + 1)) S) near) (out.length - 1) 0 = out.length - 1 := by
        obtain ⟨q1, q2⟩ := firstN_le (fun j => anyClash (J (gR out j) S) (J (gR out (j + 1)) S) near) (out.length - 1) 0
        rcases Nat.lt_or_ge (firstN (fun j => anyClash (J (gR out j) S) (J (gR out (j + 1)) S) near) (out.length - 1) 0) (out.length - 1) with h | h
        · have h2 := q2 (by omega)
          rw [hI.gap _ (by omega)] at h2; cases h2
        · omega
      rw [this]
      dsimp only
      rw [blt_f (Nat.lt_irrefl _)]; rfl
    exact .inl ⟨out, e, hI, hlen, hfc⟩
  · exact .inr e
theorem run30_ok {a0 a1 : List Int} {L S : Nat} {near : Int} (h0 : Byt a0) (h1 : Byt a1) (hS : S ≤ 200) (hn : 0 ≤ near ∧ near ≤ 2000) {out : List (List Int)} (ho : StI L S near 3 out) : f_wFnStaggered_run30 ((L : Int), (S : Int), near, 0, a0, a1, out) = some true := by
  obtain ⟨A, B, CL, lv, z, st, T, la, lb, lt, F⟩ := tf_ok (S := (S : Int)) h0 h1 (by omega) hn
  have hlen := ho.len
  unfold f_wFnStaggered_run30
  refine run_countI (step := fun x => f_wFnStaggered_n30 x.1 x.2.1 x.2.2.1 x.2.2.2.1 x.2.2.2.2.1 x.2.2.2.2.2.1 x.2.2.2.2.2.2) out.length (fun i (_ : Unit) => ((L : Int), (S : Int), near, (i : Int), a0, a1, out)) (fun u _ => u) (fun _ _ => True) true () (by omega) trivial ?_ ?_
  · intro i u hi _
    refine ⟨?_, trivial⟩
    show f_wFnStaggered_n30 (L : Int) (S : Int) near i a0 a1 out = _
    obtain ⟨r1, r2⟩ := ho.row _ (getD_mem' (d := ([] : List Int)) hi)
    unfold f_wFnStaggered_n30
    rw [lt_true hi, inB_nat hi, toNat_nat, lengthOf_ok r1 (by omega), r2, succ64 (by omega)]
    have b0 : ((L : Int) != (L : Int)) = false := by simp
    simp only [cond_true, Option.bind, show ((0 : Int) != 0) = false from rfl, cond_false, b0]
  · intro _
    show f_wFnStaggered_n30 (L : Int) (S : Int) near ((out.length : Nat) : Int) a0 a1 out = _
    unfold f_wFnStaggered_n30
    rw [lt_neg, cond_false]
    simp only [F.hA, F.hB, Option.bind, F.c1, F.c2, F.l1, F.l2, F.f1, F.hp, F.t1, F.t2, F.sp, F.si, F.tr, F.e1, F.e2, F.e3, F.e4, F.e5, F.e6, F.b1, F.b2, F.b3, show ((0 : Int) != 0) = false from rfl, cond_false, Bool.not_true]
    cases la <;> cases lb <;> cases lt <;> rfl
section
variable {a0 a1 : List Int} {L S W : Nat} {near : Int} (h0 : Byt a0) (h1 : Byt a1) (hL : 1 ≤ L ∧ L ≤ 2000) (hS : S ≤ 200) (hW : 1 ≤ W ∧ W ≤ 200) (hn : 0 ≤ near ∧ near ≤ 2000)
include h0 h1 hL hS hn
include hW
theorem run17_ok {due : List Int} (hd : due.length ≤ 60) (hm : ∀ i, 1 ≤ i → i + 2 < due.length → due.getD i 0 = (W : Int)) (hr : ∀ x ∈ due, 1 ≤ x ∧ x ≤ 200) : f_wFnStaggered_run17 ((L : Int), (S : Int), (W : Int), near, 1, a0, a1, due) = some true := by
  obtain ⟨A, B, CL, lv, z, st, T, la, lb, lt, F⟩ := tf_ok (S := (S : Int)) h0 h1 (by omega) hn
  unfold f_wFnStaggered_run17
  refine run_countI (step := fun x => f_wFnStaggered_n17 x.1 x.2.1 x.2.2.1 x.2.2.2.1 x.2.2.2.2.1 x.2.2.2.2.2.1 x.2.2.2.2.2.2.1 x.2.2.2.2.2.2.2) (due.length - 2) (fun i (_ : Unit) => ((L : Int), (S : Int), (W : Int), near, ((i + 1 : Nat) : Int), a0, a1, due)) (fun u _ => u) (fun _ _ => True) true () (by omega) trivial ?_ ?_
  · intro i u hi _
    refine ⟨?_, trivial⟩
    show f_wFnStaggered_n17 (L : Int) (S : Int) (W : Int) near ((i + 1 : Nat) : Int) a0 a1 due = _
    have hx := hr _ (getD_mem' (d := 0) (show i + 1 < due.length by omega))
    unfold f_wFnStaggered_n17
    rw [succ64 (i := i + 1) (by omega), lt_true (show i + 1 + 1 < due.length by omega), inB_nat (show i + 1 < due.length by omega), toNat_nat, IntWalk.i64_in (due.getD (i + 1) 0) (by omega), IntWalk.i64_in (((i + 1 : Nat) : Int) + 2) (by omega)]
    simp only [cond_true]
    by_cases h3 : i + 3 < due.length
    · rw [hm (i + 1) (by omega) (by omega)]
      have b0 : ((W : Int) != (W : Int)) = false := by simp
      rw [b0]; rfl
    · rw [decide_eq_false (show ¬ ((i + 1 : Nat) : Int) + 2 < ((due.length : Nat) : Int) by omega)]
      cases (due.getD (i + 1) 0 != (W : Int)) <;> rfl
  · intro _
    show f_wFnStaggered_n17 (L : Int) (S : Int) (W : Int) near ((due.length - 2 + 1 : Nat) : Int) a0 a1 due = _
    unfold f_wFnStaggered_n17
    have s1 : s_iStaggerRows (L : Int) (S : Int) (W : Int) near 4 = some (stag L S W near 4) := stag_i (rows := 4) hL hS hW (by omega) hn
    have s2 : s_sStaggerRows (L : Int) (S : Int) (W : Int) near 4 = some (stag L S W near 4) := stag_s (rows := 4) hL hS hW (by omega) hn
    rw [succ64 (i := due.length - 2 + 1) (by omega), decide_eq_false (show ¬ ((due.length - 2 + 1 + 1 : Nat) : Int) < ((due.length : Nat) : Int) by omega), cond_false, s1, s2]
    rcases stag_cases hL hS hW hn with ⟨out, e, hI, hlen, hfc⟩ | e
    · rw [e]
      have b4 : (((List.length out : Nat) : Int) != 4) = false := by rw [hlen]; rfl
      simp only [Option.bind, show ((0 : Int) != 0) = false from rfl, cond_false, same_rows (rs := out) (by omega) (fun r hr => (hI.row r hr).1), Bool.not_true, show ((0 : Int) == 0) = true from rfl, cond_true, hfc, b4, show ((6 : Int) != 6) = false from rfl, run30_ok h0 h1 hS hn hI]
      rfl
    · rw [e]
      simp only [Option.bind, show ((6 : Int) != 6) = false from rfl, cond_false, same_rows (rs := []) (by simp) (fun r hr => nomatch hr), Bool.not_true, show ((6 : Int) == 0) = false from rfl, F.hA, F.hB, F.c1, F.c2, F.l1, F.l2, F.f1, F.hp, F.t1, F.t2, F.sp, F.si, F.tr, F.e1, F.e2, F.e3, F.e4, F.e5, F.e6, F.b1, F.b2, F.b3, show ((0 : Int) != 0) = false from rfl]
      cases la <;> cases lb <;> cases lt <;> rfl
end
theorem law_Staggered {a0 a1 : List Int} (_ : a0.length ≤ maxLen) (h0 : ∀ x ∈ a0, 0 ≤ x ∧ x ≤ 255) (_ : a1.length ≤ maxLen) (h1 : ∀ x ∈ a1, 0 ≤ x ∧ x ≤ 255) : s_wFnStaggered a0 a1 = some true := by
  unfold s_wFnStaggered s_wa2Long
  by_cases l0 : a0.length > 3000
  · rw [decide_eq_true (show ((a0.length : Nat) : Int) > 3000 by omega)]; rfl
  rw [decide_eq_false (show ¬ ((a0.length : Nat) : Int) > 3000 by omega), cond_false]
  by_cases l1 : a1.length > 3000
  · rw [decide_eq_true (show ((a1.length : Nat) : Int) > 3000 by omega)]; rfl
  rw [decide_eq_false (show ¬ ((a1.length : Nat) : Int) > 3000 by omega), cond_false]
  have h0 : Byt a0 := ⟨by omega, h0⟩
  have h1 : Byt a1 := ⟨by omega, h1⟩
  obtain ⟨x1, p1, q1⟩ := at_ok h0 (i := 0) (k := 50) (by omega)
  obtain ⟨x2, p2, q2⟩ := at_ok h0 (i := 1) (k := 3) (by omega)
  obtain ⟨x3, p3, q3⟩ := at_ok h0 (i := 2) (k := 8) (by omega)
  obtain ⟨x4, p4, q4⟩ := at_ok h0 (i := 3) (k := 3) (by omega)
  obtain ⟨x5, p5, q5⟩ := at_ok h1 (i := 0) (k := 9) (by omega)
  have p1 : s_wa2At a0 0 50 = some (x1 : Int) := p1
  have p2 : s_wa2At a0 1 3 = some (x2 : Int) := p2
  have p3 : s_wa2At a0 2 8 = some (x3 : Int) := p3
  have p4 : s_wa2At a0 3 3 = some (x4 : Int) := p4
  have p5 : s_wa2At a1 0 9 = some (x5 : Int) := p5
  have g1 : IntKind.wrap .i64 (5 + (x1 : Int)) = ((5 + x1 : Nat) : Int) := by rw [IntWalk.i64_in _ (by omega)]; omega
  have g3 : IntKind.wrap .i64 (2 + (x3 : Int)) = ((2 + x3 : Nat) : Int) := by rw [IntWalk.i64_in _ (by omega)]; omega
  have g5 : IntKind.wrap .i64 (1 + (x5 : Int)) = ((1 + x5 : Nat) : Int) := by rw [IntWalk.i64_in _ (by omega)]; omega
  rw [p1, p2, p3, p4, p5]
  simp only [Option.bind, g1, g3, g5]
  generalize hL : 5 + x1 = L
  generalize hW : 2 + x3 = W
  generalize hF : 1 + x5 = F
  have hL : 1 ≤ L ∧ L ≤ 2000 := by omega
  have hW : 1 ≤ W ∧ W ≤ 200 := by omega
  have hF : 1 ≤ F ∧ F ≤ 200 := by omega
  have hS : x2 ≤ 200 := by omega
  have hn : 0 ≤ (x4 : Int) ∧ (x4 : Int) ≤ 2000 := by omega
  rw [bR_i hL hS hW hF, bR_s hL hS hW hF]
  cases hb : (brk L x2 W F).2
  · have e : bR L x2 W F = ([], 6) := by unfold bR; rw [hb]; rfl
    obtain ⟨A, B, CL, lv, z, st, T, la, lb, lt, F'⟩ := tf_ok (S := (x2 : Int)) h0 h1 (by omega) hn
    have s1 : s_iStaggerRows (L : Int) (x2 : Int) (W : Int) (x4 : Int) 4 = some (stag L x2 W (x4 : Int) 4) := stag_i (rows := 4) hL hS hW (by omega) hn
    have s2 : s_sStaggerRows (L : Int) (x2 : Int) (W : Int) (x4 : Int) 4 = some (stag L x2 W (x4 : Int) 4) := stag_s (rows := 4) hL hS hW (by omega) hn
    rw [e]
    simp only [show ((6 : Int) != 6) = false from rfl, cond_false, same_row [] (by simp), Bool.not_true, show ((6 : Int) != 0) = true from rfl, cond_true, show ((6 : Int) == 0) = false from rfl, s1, s2]
    rcases stag_cases hL hS hW hn with ⟨out, e, hI, hlen, hfc⟩ | e
    · rw [e]
      have b4 : (((List.length out : Nat) : Int) != 4) = false := by rw [hlen]; rfl
      simp only [show ((0 : Int) != 0) = false from rfl, cond_false, same_rows (rs := out) (by omega) (fun r hr => (hI.row r hr).1), Bool.not_true, show ((0 : Int) == 0) = true from rfl, cond_true, hfc, b4, show ((6 : Int) != 6) = false from rfl, run30_ok h0 h1 hS hn hI]
    · rw [e]
      simp only [Option.bind, show ((6 : Int) != 6) = false from rfl, cond_false, same_rows (rs := []) (by simp) (fun r hr => nomatch hr), Bool.not_true, show ((6 : Int) == 0) = false from rfl, F'.hA, F'.hB, F'.c1, F'.c2, F'.l1, F'.l2, F'.f1, F'.hp, F'.t1, F'.t2, F'.sp, F'.si, F'.tr, F'.e1, F'.e2, F'.e3, F'.e4, F'.e5, F'.e6, F'.b1, F'.b2, F'.b3, show ((0 : Int) != 0) = false from rfl]
      cases la <;> cases lb <;> cases lt <;> rfl
  · obtain ⟨k1, k2, k3⟩ := brk_facts hL.1 hW.1 hF.1 hb
    have e : bR L x2 W F = (toI (wids L x2 W F), 0) := by unfold bR; rw [hb, k1]; rfl
    have hl := k2.l
    have hrun := run17_ok h0 h1 hL hS hW hn hl (fun i i1 i2 => brk_mid i1 (by rw [toI_len] at i2; exact i2)) k2.w
    have b0 : ((L : Int) != (L : Int)) = false := by simp
    rw [e]
    simp only [show ((0 : Int) != 0) = false from rfl, cond_false, same_row _ (show (toI (wids L x2 W F)).length ≤ 1000000 by omega), Bool.not_true, lengthOf_ok k2 (show 0 ≤ (x2 : Int) ∧ (x2 : Int) ≤ 200 by omega), k3, b0, hrun]
    cases hFL : decide ((F : Int) < (L : Int))
    · rfl
    · cases h1l : decide (((List.length (toI (wids L x2 W F)) : Nat) : Int) > 1)
      · rfl
      · have hFL := of_decide_eq_true hFL
        have h1l := of_decide_eq_true h1l
        rw [toI_len] at h1l
        rw [brk_first (by omega) (by omega), IntWalk.i64_in (F : Int) (by omega), show inB 0 (toI (wids L x2 W F)).length = true from inB_nat (i := 0) (by rw [toI_len]; omega)]
        have b5 : ((F : Int) != (F : Int)) = false := by simp
        rw [b5]; rfl
end Go.RR
