/- The plain law of RowText. -/
import Derived.Test.YtkohnhkehedflaaDoorVh
import Derived.Test.YtkohnhkehedflaaDoorFb
import Derived.Test.YtkohnhkehedflaaDoorFc
set_option linter.unusedVariables false
set_option linter.unusedSimpArgs false
namespace Go.RR
open Go

noncomputable def widP (x : Int) : Bool := s_sl05Width (IntKind.wrap .i64 x)
noncomputable def validR (l : List Int) : Bool := s_sl00In ((l.length : Nat) : Int) 1 60 && l.all widP
theorem sOkR {l : List Int} (hl : l.length ≤ 100000000) : s_sl05Ok l = some (validR l) := by
  unfold s_sl05Ok validR
  cases s_sl00In ((l.length : Nat) : Int) 1 60
  · rfl
  · show f_sl05Ok_run4 (0, l) = _
    unfold f_sl05Ok_run4
    have e := run_allL (step := fun x => f_sl05Ok_n4 x.1 x.2) (0 : Int) l (fun i => ((i : Int), l)) widP true false (by omega) ?_ ?_
    · refine e.trans ?_
      cases l.all widP <;> rfl
    · intro i hi hm
      show f_sl05Ok_n4 i l = _
      unfold f_sl05Ok_n4 widP
      rw [lt_true hi, inB_nat hi, toNat_nat, succ64 (by omega)]
      cases s_sl05Width (IntKind.wrap .i64 (l.getD i 0)) <;> rfl
    · show f_sl05Ok_n4 (l.length : Nat) l = _
      unfold f_sl05Ok_n4
      rw [lt_neg, cond_false]
theorem width_one (a : Int) : s_iisWidth [a] = some (s_sl05Width a) := by
  unfold s_iisWidth
  rw [any_width _ (by simp)]
  have e : ∀ x, s_iisWidth_1 x = !s_sl05Width x := fun x => rfl
  simp only [Option.bind, List.any_cons, List.any_nil, e]
  cases s_sl05Width a <;> rfl
theorem iOkR {l : List Int} (hl : l.length ≤ 100000000) : s_iValidRow l = some (validR l) := by
  unfold s_iValidRow validR
  have hw : s_iwithin ((l.length : Nat) : Int) 1 60 = s_sl00In ((l.length : Nat) : Int) 1 60 := rfl
  rw [hw]
  have hc : s_gContainsFunc_int16_b l = some (l.any fun x => !widP x) := by
    unfold s_gContainsFunc_int16_b s_gIndexFunc_int16_b f_gIndexFunc_int16_b_run2
    have hs1 : ∀ i, i < l.length → f_gIndexFunc_int16_b_n2 (l.length : Nat) i l = some (cond (!widP (l.getD i 0)) (Sum.inr (i : Int)) (Sum.inl (((l.length : Nat) : Int), ((i + 1 : Nat) : Int), l))) := by
      intro i hi
      unfold f_gIndexFunc_int16_b_n2 s_iValidRow_1 widP
      rw [lt_true hi, inB_nat hi, toNat_nat, succ64 (by omega), width_one]
      simp only [cond_true, Option.bind]
      cases s_sl05Width (IntKind.wrap .i64 (l.getD i 0)) <;> rfl
    have he1 : f_gIndexFunc_int16_b_n2 (l.length : Nat) (l.length : Nat) l = some (Sum.inr (-1)) := by
      unfold f_gIndexFunc_int16_b_n2
      rw [lt_neg, cond_false]
    obtain ⟨r, h1, h2, _⟩ := run_idx (step := fun x => f_gIndexFunc_int16_b_n2 x.1 x.2.1 x.2.2) l.length (fun i => (((l.length : Nat) : Int), (i : Int), l)) (fun i => !widP (l.getD i 0)) hs1 he1 l.length 0 FU (by omega) (FU_big (pow_big (by omega)))
    have h1 : iter (fun x => f_gIndexFunc_int16_b_n2 x.1 x.2.1 x.2.2) FU (((l.length : Nat) : Int), 0, l) = some r := h1
    rw [h1]
    simp only [Option.bind]
    rw [h2, any_getD 0 l fun x => !widP x]
  rw [hc, any_not_all widP l]
  cases s_sl00In ((l.length : Nat) : Int) 1 60 <;> cases l.all widP <;> rfl
theorem wid_rng {x : Int} (hx : -32768 ≤ x ∧ x ≤ 32767) (h : widP x = true) : 1 ≤ x ∧ x ≤ 200 := by
  unfold widP at h
  rw [IntWalk.i64_in _ (by omega)] at h
  unfold s_sl05Width s_sl00In at h
  by_cases q : x ≥ 1
  · rw [decide_eq_true q, cond_true] at h
    have := of_decide_eq_true h; omega
  · rw [decide_eq_false q] at h; cases h
abbrev WidOK (l : List Int) : Prop := (1 ≤ l.length ∧ l.length ≤ 60) ∧ ∀ x ∈ l, 1 ≤ x ∧ x ≤ 200
def wordR (l : List Int) (i : Nat) : ByteArray := decB (l.getD i 0).toNat
def rowS (l : List Int) (z : ByteArray) (i : Nat) : ByteArray := z ++ (comma ++ wordR l i)
def rowT (l : List Int) (n : Nat) : ByteArray := (List.range' 1 n).foldl (rowS l) (wordR l 0)
theorem rowT_size {l : List Int} (h : WidOK l) : ∀ n, n < l.length → (rowT l n).size ≤ 4 * (n + 1)
  | 0, hn => by
    have hx := h.2 _ (getD_mem' (d := (0 : Int)) hn)
    exact Nat.le_trans (decB_three (n := (l.getD 0 0).toNat) (by omega)) (by omega)
  | n + 1, hn => by
    have ih := rowT_size h n (by omega)
    have hx := h.2 _ (getD_mem' (d := (0 : Int)) hn)
    have hd := decB_three (n := (l.getD (n + 1) 0).toNat) (by omega)
    have hc : comma.size = 1 := rfl
    unfold rowT at ih ⊢
    rw [List.range'_concat, List.foldl_append]
    simp only [List.foldl_cons, List.foldl_nil, Nat.one_mul]
    rw [show 1 + n = n + 1 by omega]
    show ((List.range' 1 n).foldl (rowS l) (wordR l 0) ++ (comma ++ decB (l.getD (n + 1) 0).toNat)).size ≤ _
    rw [ByteArray.size_append, ByteArray.size_append]; omega
theorem dec_at {l : List Int} (h : WidOK l) {i : Nat} (hi : i < l.length) : s_sDecimal_z (IntKind.wrap .i64 (l.getD i 0)) = some (wordR l i) ∧ s_idecimal (IntKind.wrap .i64 (l.getD i 0)) = some (wordR l i) ∧ (wordR l i).size ≤ 3 := by
  have hx := h.2 _ (getD_mem' (d := (0 : Int)) hi)
  rw [IntWalk.i64_in _ (by omega)]
  have e1 := sDec_three (n := (l.getD i 0).toNat) (by omega)
  have e2 := iDec_all (n := (l.getD i 0).toNat) (by omega)
  rw [Int.toNat_of_nonneg (by omega)] at e1 e2
  exact ⟨e1, e2, decB_three (by omega)⟩
theorem sRow_text {l : List Int} (h : WidOK l) : s_sl05Text l = some (rowT l (l.length - 1)) := by
  obtain ⟨⟨h1, h2⟩, h3⟩ := h
  unfold s_sl05Text
  have h0 := dec_at ⟨⟨h1, h2⟩, h3⟩ (show 0 < l.length by omega)
  rw [inB_of (show 0 ≤ (0 : Int) ∧ (0 : Int) < (l.length : Nat) by omega), cond_true, h0.1]
  simp only [Option.bind]
  unfold f_sl05Text_run3
  refine iter_countI (fun x => f_sl05Text_n3 x.1 x.2.1 x.2.2) l.length (fun i (z : ByteArray) => (z, (i : Int), l)) (rowS l) (fun i z => z.size ≤ 4 * i) (rowT l (l.length - 1)) ?_ (l.length - 1) 1 FU (by omega) (FU_big (pow_big (by omega))) (wordR l 0) (by omega) ?_
  · intro i z hi hz
    obtain ⟨e1, _, e3⟩ := dec_at ⟨⟨h1, h2⟩, h3⟩ hi
    have hc : comma.size = 1 := rfl
    constructor
    · show f_sl05Text_n3 z i l = _
      unfold f_sl05Text_n3
      rw [lt_true hi, inB_nat hi, toNat_nat, e1, succ64 (by omega)]
      simp only [cond_true, Option.bind]
      have f1 : fits ((⟨#[44]⟩ : ByteArray).size + (wordR l i).size) = true := fitsB (by show 1 + _ ≤ _; omega)
      have f2 : fits (z.size + ((⟨#[44]⟩ : ByteArray) ++ wordR l i).size) = true := fitsB (by rw [ByteArray.size_append]; show _ + (1 + _) ≤ _; omega)
      rw [f1, f2]; rfl
    · show (z ++ (comma ++ wordR l i)).size ≤ 4 * (i + 1)
      rw [ByteArray.size_append, ByteArray.size_append]; omega
  · intro _
    show f_sl05Text_n3 (rowT l (l.length - 1)) (l.length : Nat) l = _
    unfold f_sl05Text_n3
    rw [lt_neg, cond_false]
theorem row_join (l : List Int) : ∀ n, (rowT l n).data.toList = Lib.join (((List.range' 0 (n + 1)).map (wordR l)).map (·.data.toList)) comma.data.toList
  | 0 => (Lib.join_one _ _).symm
  | n + 1 => by
    have ih := row_join l n
    rw [List.range'_concat, List.map_append, List.map_append]
    simp only [List.map_cons, List.map_nil, Nat.zero_add, Nat.one_mul]
    rw [join_snoc _ _ _ (by
      intro q
      have := congrArg List.length q
      simp at this), ← ih]
    unfold rowT
    rw [List.range'_concat, List.foldl_append]
    simp only [List.foldl_cons, List.foldl_nil, Nat.one_mul]
    rw [show 1 + n = n + 1 by omega]
    show ((List.range' 1 n).foldl (rowS l) (wordR l 0) ++ (comma ++ wordR l (n + 1))).data.toList = _
    rw [ByteArray.data_append, ByteArray.data_append, Array.toList_append, Array.toList_append]
theorem iRow_text {l : List Int} (h : WidOK l) : f_iRowText_run5 (((l.length : Nat) : Int), 0, [], l) = some (rowT l (l.length - 1)) := by
  have h' := h
  obtain ⟨⟨h1, h2⟩, h3⟩ := h
  unfold f_iRowText_run5
  refine run_countI l.length (fun i (ws : List ByteArray) => (((l.length : Nat) : Int), (i : Int), ws, l)) (fun ws i => ws ++ [wordR l i]) (fun i ws => ws.length = i) _ [] (by omega) rfl ?_ ?_
  · intro i ws hi hI
    obtain ⟨_, e2, _⟩ := dec_at h' hi
    constructor
    · show f_iRowText_n5 (l.length : Nat) i ws l = _
      unfold f_iRowText_n5
      rw [lt_true hi, inB_nat hi, toNat_nat, e2, succ64 (by omega)]
      simp only [cond_true, Option.bind]
      rw [fits_small (show (List.length ws + List.length ([wordR l i] : List ByteArray)) * 16 ≤ 140737488355328 by simp [hI]; omega)]
      rfl
    · simp [hI]
  · intro _
    rw [foldl_map'' (wordR l)]
    show f_iRowText_n5 (l.length : Nat) (l.length : Nat) ((List.range' 0 l.length).map (wordR l)) l = _
    unfold f_iRowText_n5 s_stringsJoin
    rw [lt_neg, cond_false]
    have ej := row_join l (l.length - 1)
    rw [show l.length - 1 + 1 = l.length by omega] at ej
    have ej : (rowT l (l.length - 1)).data.toList = Lib.join (((List.range' 0 l.length).map (wordR l)).map (·.data.toList)) (⟨#[44]⟩ : ByteArray).data.toList := ej
    rw [← ej]
    have hl : (rowT l (l.length - 1)).data.toList.length ≤ 140737488355328 := by
      have := rowT_size h' (l.length - 1) (by omega)
      have hs : (rowT l (l.length - 1)).data.toList.length = (rowT l (l.length - 1)).size := rfl
      omega
    rw [ble_le (show ((List.range' 0 l.length).map (wordR l)).length ≤ 1000000 by simp; omega), ble_le hl]
    rfl
theorem toRow_eq {l : List Int} (hl : l.length ≤ 2000000) : s_wtoRow l = some l := by
  unfold s_wtoRow
  rw [mk_ok _ _ (by omega), cond_true]
  unfold f_wtoRow_run3
  have hr : (List.replicate (Int.toNat ((l.length : Nat) : Int)) (0 : Int)).length = l.length := by simp
  generalize List.replicate (Int.toNat ((l.length : Nat) : Int)) (0 : Int) = r at hr
  have key := run_count (step := fun x => f_wtoRow_n3 x.1 x.2.1 x.2.2) (τ := Unit) l.length (fun i _ => ((i : Int), l, l.take i ++ r.drop i)) (fun _ _ => ()) l () (by omega) ?_ ?_
  · exact key
  · intro i _ hi
    have hlen : (l.take i ++ r.drop i).length = l.length := by simp; omega
    show f_wtoRow_n3 i l (l.take i ++ r.drop i) = _
    unfold f_wtoRow_n3
    have hx : l[i]? = some (l.getD i 0) := by rw [List.getD_eq_getElem?_getD, List.getElem?_eq_getElem hi]; rfl
    rw [hlen, lt_true hi, inB_nat hi, toNat_nat, succ64 (by omega), set_copy hr hx]
    rfl
  · show f_wtoRow_n3 (l.length : Nat) l (l.take l.length ++ r.drop l.length) = _
    have : l.take l.length ++ r.drop l.length = l := by rw [← hr, List.drop_length, List.append_nil, hr, List.take_length]
    rw [this]
    unfold f_wtoRow_n3
    rw [lt_neg, cond_false]
theorem law_RowText {l : List Int} (hlm : l.length ≤ maxLen) (hb : ∀ x ∈ l, -32768 ≤ x ∧ x ≤ 32767) : s_wFnExactRowText l = some true := by
  unfold s_wFnExactRowText
  by_cases hz : ((l.length : Nat) : Int) > 1048576
  · rw [decide_eq_true hz]; rfl
  rw [decide_eq_false hz, cond_false, toRow_eq (by omega)]
  have key : ∃ t, s_sRowText l = some t ∧ s_iRowText l = some t := by
    unfold s_sRowText s_iRowText
    rw [sOkR (by omega), iOkR (by omega)]
    simp only [Option.bind]
    cases hv : validR l
    · exact ⟨_, rfl, rfl⟩
    · have hd : WidOK l := by
        unfold validR at hv
        rw [Bool.and_eq_true] at hv
        refine ⟨?_, fun x hx => wid_rng (hb x hx) (List.all_eq_true.1 hv.2 x hx)⟩
        have h1 := hv.1
        unfold s_sl00In at h1
        by_cases q : ((l.length : Nat) : Int) ≥ 1
        · rw [decide_eq_true q, cond_true] at h1
          have := of_decide_eq_true h1; omega
        · rw [decide_eq_false q] at h1; cases h1
      rw [sRow_text hd]
      exact ⟨_, rfl, iRow_text hd⟩
  obtain ⟨t, e1, e2⟩ := key
  have bb : (t.toList == t.toList) = true := by simp
  simp only [Option.bind, e1, e2, bb, eqRow_same l (by omega), Bool.not_true, cond_false]
end Go.RR
