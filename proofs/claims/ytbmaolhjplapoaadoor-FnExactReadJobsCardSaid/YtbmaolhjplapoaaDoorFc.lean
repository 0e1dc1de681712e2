/- The plain law of JobsText: numbers and words. -/
import Derived.Test.YtbmaolhjplapoaaDoorWj
set_option linter.unusedVariables false
set_option linter.unusedSimpArgs false
namespace Go.RR
open Go

/-! ### numbers as texts -/
theorem ble_le {a b : Nat} (h : a ≤ b) : Nat.ble a b = true := by rw [Nat.ble_eq]; exact h
def decB (n : Nat) : ByteArray := ⟨(Lib.decDigits n).toArray⟩
theorem dec_one {n : Nat} (h : n < 10) : Lib.decDigits n = [UInt8.ofNat (48 + n)] := by
  rw [Lib.decDigits, dif_pos h]
theorem dec_two {n : Nat} (h : ¬ n < 10) (h2 : n < 100) : Lib.decDigits n = [UInt8.ofNat (48 + n / 10), UInt8.ofNat (48 + n % 10)] := by
  rw [Lib.decDigits, dif_neg h, dec_one (by omega)]; rfl
theorem decB_size {n : Nat} (h : n < 100) : (decB n).size ≤ 2 := by
  show (Lib.decDigits n).toArray.size ≤ 2
  by_cases h1 : n < 10
  · rw [dec_one h1]; exact (by decide : 1 ≤ 2)
  · rw [dec_two h1 h]; exact Nat.le_refl 2
theorem digit_eq {n : Nat} : strB [IntKind.wrap .u8 (IntKind.wrap .i64 (48 + Int.tmod (n : Int) 10))] = ⟨#[UInt8.ofNat (48 + n % 10)]⟩ := by
  have e : Int.tmod (n : Int) 10 = ((n % 10 : Nat) : Int) := by rw [Int.tmod_eq_emod_of_nonneg (by omega)]; omega
  rw [e, IntWalk.i64_in (48 + ((n % 10 : Nat) : Int)) (by omega), IntWalk.u8_in _ (by omega)]
  have e2 : (48 + ((n % 10 : Nat) : Int)).toNat = 48 + n % 10 := by omega
  unfold strB
  simp only [List.map_cons, List.map_nil, e2]
theorem decB_step {n : Nat} (h : ¬ n < 10) : decB n = decB (n / 10) ++ (⟨#[UInt8.ofNat (48 + n % 10)]⟩ : ByteArray) := by
  apply ByteArray.ext
  rw [ByteArray.data_append]
  unfold decB
  rw [Lib.decDigits, dif_neg h]
  simp
theorem decB_three {n : Nat} (h : n < 1000) : (decB n).size ≤ 3 := by
  by_cases h1 : n < 10
  · exact Nat.le_trans (decB_size (by omega)) (by omega)
  · rw [decB_step h1, ByteArray.size_append]
    have := decB_size (n := n / 10) (by omega)
    have : (⟨#[UInt8.ofNat (48 + n % 10)]⟩ : ByteArray).size = 1 := rfl
    omega
theorem div10 {n : Nat} (h : n ≤ 100000) : IntKind.wrap .i64 (Int.tdiv (n : Int) 10) = ((n / 10 : Nat) : Int) := by
  rw [IntWalk.i64_quo _ _ (by omega)]; omega
theorem sDec_one {n : Nat} (h : n < 10) : s_sDecimal_y (n : Int) = some (decB n) ∧ s_sDecimal_x (n : Int) = some (decB n) ∧ s_sDecimal_z (n : Int) = some (decB n) := by
  unfold s_sDecimal_z s_sDecimal_y s_sDecimal_x decB
  rw [decide_eq_true (show (n : Int) < 10 by omega), digit_eq, dec_one h, show n % 10 = n by omega]
  exact ⟨rfl, rfl, rfl⟩
theorem dec_next {n : Nat} {o : Option ByteArray} (h : ¬ n < 10) (h2 : n < 1000) (ho : o = some (decB (n / 10))) :
    (cond (decide ((n : Int) < 10)) (some (strB [IntKind.wrap .u8 (IntKind.wrap .i64 (48 + Int.tmod (n : Int) 10))])) (Option.bind o fun r1 => (cond (fits (r1.size + (strB [IntKind.wrap .u8 (IntKind.wrap .i64 (48 + Int.tmod (n : Int) 10))]).size)) (some (r1 ++ (strB [IntKind.wrap .u8 (IntKind.wrap .i64 (48 + Int.tmod (n : Int) 10))]))) none))) = some (decB n) := by
  rw [decide_eq_false (show ¬ (n : Int) < 10 by omega), ho, digit_eq]
  have hs := decB_size (n := n / 10) (by omega)
  simp only [cond_false, Option.bind]
  rw [fits_small (show (decB (n / 10)).size + (⟨#[UInt8.ofNat (48 + n % 10)]⟩ : ByteArray).size ≤ 140737488355328 by
    have : (⟨#[UInt8.ofNat (48 + n % 10)]⟩ : ByteArray).size = 1 := rfl
    omega), cond_true, ← decB_step h]
theorem sDec_two {n : Nat} (h : n < 100) : s_sDecimal_y (n : Int) = some (decB n) := by
  by_cases h1 : n < 10
  · exact (sDec_one h1).1
  · unfold s_sDecimal_y
    rw [div10 (by omega)]
    exact dec_next h1 (by omega) (sDec_one (by omega)).2.1
theorem sDec_three {n : Nat} (h : n < 1000) : s_sDecimal_z (n : Int) = some (decB n) := by
  by_cases h1 : n < 10
  · exact (sDec_one h1).2.2
  · unfold s_sDecimal_z
    rw [div10 (by omega)]
    exact dec_next h1 h (sDec_two (by omega))
theorem sDec_eq {n : Nat} (h : n < 100) : s_sDecimal_z (n : Int) = some (decB n) := sDec_three (by omega)
theorem iDec_all {n : Nat} (h : n ≤ 1000000) : s_idecimal (n : Int) = some (decB n) := by
  unfold s_idecimal s_strconvFormatInt
  rw [show decide ((10 : Int) = 10) = true from rfl, decide_eq_true (show -9223372036854775808 ≤ (n : Int) by omega), decide_eq_true (show (n : Int) ≤ 9223372036854775807 by omega)]
  have : Lib.itoa (n : Int) = Lib.decDigits n := by
    unfold Lib.itoa
    rw [if_neg (by omega), Int.toNat_natCast]
  show some (⟨(Lib.itoa (n : Int)).toArray⟩ : ByteArray) = _
  rw [this]; rfl
theorem iDec_eq {n : Nat} (h : n < 100) : s_idecimal (n : Int) = some (decB n) := iDec_all (by omega)

/-! ### one job's word -/
noncomputable def waitsB (x : Job) (k : Nat) : Bool := (bShr .u16 x.2 k) % 2 == 1
def comma : ByteArray := ⟨#[44]⟩
def blank : ByteArray := ⟨#[32]⟩
noncomputable def tailS (x : Job) (z : ByteArray) (k : Nat) : ByteArray := cond (waitsB x k) (z ++ (comma ++ decB k)) z
noncomputable def tailN (x : Job) (n : Nat) (z : ByteArray) : ByteArray := (List.range' 0 n).foldl (tailS x) z
theorem tail_app (x : Job) : ∀ (ks : List Nat) (a b : ByteArray), ks.foldl (tailS x) (a ++ b) = a ++ ks.foldl (tailS x) b
  | [], a, b => rfl
  | k :: ks, a, b => by
    rw [List.foldl_cons, List.foldl_cons]
    have : tailS x (a ++ b) k = a ++ tailS x b k := by
      unfold tailS
      cases waitsB x k
      · rfl
      · show a ++ b ++ (comma ++ decB k) = a ++ (b ++ (comma ++ decB k))
        exact ByteArray.append_assoc
    rw [this, tail_app x ks]
noncomputable def wordB (n : Nat) (x : Job) : ByteArray := tailN x n (decB x.1.toNat)
theorem tail_size (x : Job) : ∀ (ks : List Nat) (z : ByteArray), (∀ k ∈ ks, k < 100) → (ks.foldl (tailS x) z).size ≤ z.size + 3 * ks.length
  | [], z, _ => by simp
  | k :: ks, z, h => by
    rw [List.foldl_cons]
    have h1 := tail_size x ks (tailS x z k) fun j hj => h j (List.mem_cons_of_mem _ hj)
    have h2 : (tailS x z k).size ≤ z.size + 3 := by
      unfold tailS
      cases waitsB x k
      · exact Nat.le_add_right _ _
      · show (z ++ (comma ++ decB k)).size ≤ _
        rw [ByteArray.size_append, ByteArray.size_append]
        have := decB_size (h k (List.mem_cons_self ..))
        have : comma.size = 1 := rfl
        omega
    simp only [List.length_cons]
    omega
theorem jobP_days {n : Nat} {x : Job} (hx : -128 ≤ x.1 ∧ x.1 ≤ 127) (h : jobP n x = true) : 1 ≤ x.1 ∧ x.1 ≤ 30 := by
  unfold jobP at h
  rw [Bool.and_eq_true] at h
  have h := h.1
  rw [IntWalk.i64_in _ (by omega)] at h
  unfold s_sl00In at h
  by_cases q : x.1 ≥ 1
  · rw [decide_eq_true q, cond_true] at h
    have := of_decide_eq_true h; omega
  · rw [decide_eq_false q] at h; cases h
theorem fitsB {a b : Nat} (h : a + b ≤ 1000000) : fits (a + b) = true := fits_small (by omega)
theorem sWaits_eq {l : List Job} {i k : Nat} (hi : i < l.length) (hk : k ≤ 1000) (h2 : 0 ≤ (l.getD i (0, 0)).2) : s_sl07Waits l (i : Int) (k : Int) = some (waitsB (l.getD i (0, 0)) k) := by
  unfold s_sl07Waits waitsB
  rw [inB_nat hi, toNat_nat, u64n (by omega), dlt0]
  have h0 : 0 ≤ bShr .u16 (l.getD i (0, 0)).2 (k : Int) := (shr_range h2).1
  rw [Int.tmod_eq_emod_of_nonneg h0]; rfl
theorem iWaits_eq {x : Job} {k : Nat} (h2 : 0 ≤ x.2) : s_iJob_waits x.1 x.2 (k : Int) = some (waitsB x k) := by
  unfold s_iJob_waits waitsB
  have h0 : 0 ≤ bShr .u16 x.2 (k : Int) := (shr_range h2).1
  rw [dlt0, and1 h0]; rfl
theorem sTail_run {l : List Job} {i : Nat} {z : ByteArray} (hn : l.length ≤ 12) (hi : i < l.length) (h2 : 0 ≤ (l.getD i (0, 0)).2) (hz : z.size ≤ 2000) : f_sl07Text_run9 (z, (i : Int), 0, l) = some (.inl (tailN (l.getD i (0, 0)) l.length z, ((i + 1 : Nat) : Int), l)) := by
  unfold f_sl07Text_run9
  refine run_countI l.length (fun k (o : ByteArray) => (o, (i : Int), (k : Int), l)) (tailS (l.getD i (0, 0))) (fun k o => o.size ≤ z.size + 3 * k) _ z (by omega) (Nat.le_refl _) ?_ ?_
  · intro k o hk ho
    have hd := decB_size (n := k) (by omega)
    have hc : comma.size = 1 := rfl
    constructor
    · show f_sl07Text_n9 o i k l = _
      unfold f_sl07Text_n9 tailS
      rw [lt_true hk, sWaits_eq hi (by omega) h2, sDec_eq (by omega), succ64 (by omega)]
      simp only [cond_true, Option.bind]
      have e1 : fits ((⟨#[44]⟩ : ByteArray).size + (decB k).size) = true := fitsB (by show 1 + _ ≤ _; omega)
      have e2 : fits (o.size + ((⟨#[44]⟩ : ByteArray) ++ decB k).size) = true := fitsB (by rw [ByteArray.size_append]; show _ + (1 + _) ≤ _; omega)
      rw [e1, e2]
      cases waitsB (l.getD i (0, 0)) k <;> rfl
    · have h2 := tail_size (l.getD i (0, 0)) [k] o (fun j hj => by simp at hj; omega)
      simp only [List.foldl_cons, List.foldl_nil, List.length_singleton] at h2
      omega
  · intro _
    show f_sl07Text_n9 (tailN (l.getD i (0, 0)) l.length z) i (l.length : Nat) l = _
    unfold f_sl07Text_n9
    rw [lt_neg, cond_false, succ64 (by omega)]
theorem iTail_run {l : List Job} {x : Job} {i n : Nat} {z : ByteArray} {ws : List ByteArray} (hn : n ≤ 12) (hi : i ≤ 12) (hw : ws.length ≤ 12) (h2 : 0 ≤ x.2) (hz : z.size ≤ 100) :
    f_iJobsText_run9 (z, ((l.length : Nat) : Int), (i : Int), ((n : Nat) : Int), 0, l, ws, x.1, x.2) = some (.inl (((l.length : Nat) : Int), ((i + 1 : Nat) : Int), l, ws ++ [tailN x n z])) := by
  unfold f_iJobsText_run9
  refine run_countI n (fun k (o : ByteArray) => (o, ((l.length : Nat) : Int), (i : Int), ((n : Nat) : Int), (k : Int), l, ws, x.1, x.2)) (tailS x) (fun k o => o.size ≤ z.size + 3 * k) _ z (by omega) (Nat.le_refl _) ?_ ?_
  · intro k o hk ho
    have hd := decB_size (n := k) (by omega)
    constructor
    · show f_iJobsText_n9 o (l.length : Nat) i n k l ws x.1 x.2 = _
      unfold f_iJobsText_n9 tailS
      rw [lt_true hk, iWaits_eq h2, iDec_eq (by omega), succ64 (by omega)]
      simp only [cond_true, Option.bind]
      have e1 : fits ((⟨#[44]⟩ : ByteArray).size + (decB k).size) = true := fitsB (by show 1 + _ ≤ _; omega)
      have e2 : fits (o.size + ((⟨#[44]⟩ : ByteArray) ++ decB k).size) = true := fitsB (by rw [ByteArray.size_append]; show _ + (1 + _) ≤ _; omega)
      rw [e1, e2]
      cases waitsB x k <;> rfl
    · have h2 := tail_size x [k] o (fun j hj => by simp at hj; omega)
      simp only [List.foldl_cons, List.foldl_nil, List.length_singleton] at h2
      omega
  · intro _
    show f_iJobsText_n9 (tailN x n z) (l.length : Nat) i n (n : Nat) l ws x.1 x.2 = _
    unfold f_iJobsText_n9
    rw [lt_neg, cond_false, succ64 (by omega), fits_small (show (List.length ws + List.length ([tailN x n z] : List ByteArray)) * 16 ≤ 140737488355328 by simp; omega)]
    rfl

/-! ### all words -/
theorem foldl_map'' {α β : Type} (f : α → β) (l : List α) : l.foldl (fun s x => s ++ [f x]) ([] : List β) = l.map f := by
  have : ∀ (l : List α) (s : List β), l.foldl (fun s x => s ++ [f x]) s = s ++ l.map f := by
    intro l
    induction l with
    | nil => intro s; simp
    | cons x l ih => intro s; rw [List.foldl_cons, ih]; simp
  rw [this, List.nil_append]
noncomputable def textS (l : List Job) (z : ByteArray) (i : Nat) : ByteArray := cond (decide (0 < i)) (z ++ blank ++ wordB l.length (l.getD i (0, 0))) (z ++ wordB l.length (l.getD i (0, 0)))
noncomputable def textJ (l : List Job) : ByteArray := (List.range' 0 l.length).foldl (textS l) (⟨#[]⟩ : ByteArray)
theorem word_size {n : Nat} {x : Job} (hn : n ≤ 12) (hx : 1 ≤ x.1 ∧ x.1 ≤ 30) : (wordB n x).size ≤ 38 := by
  have h1 := tail_size x (List.range' 0 n) (decB x.1.toNat) (fun k hk => by have := List.mem_range'_1.1 hk; omega)
  have h2 := decB_size (n := x.1.toNat) (by omega)
  rw [List.length_range'] at h1
  show (tailN x n _).size ≤ 38
  unfold tailN
  omega
abbrev DaysOK (l : List Job) : Prop := l.length ≤ 12 ∧ ∀ x ∈ l, (1 ≤ x.1 ∧ x.1 ≤ 30) ∧ 0 ≤ x.2
theorem sText_eq {l : List Job} (h : DaysOK l) : s_sl07Text l = some (textJ l) := by
  unfold s_sl07Text f_sl07Text_run3
  obtain ⟨hn, hx⟩ := h
  refine run_countI l.length (fun i (z : ByteArray) => (z, (i : Int), l)) (textS l) (fun i z => z.size ≤ 39 * i) _ _ (by omega) (Nat.zero_le _) ?_ ?_
  · intro i z hi hz
    have hxi := hx _ (getD_mem' (d := ((0, 0) : Job)) hi)
    have hws := word_size hn hxi.1
    have hds := decB_size (n := (l.getD i (0, 0)).1.toNat) (by omega)
    have hb : blank.size = 1 := rfl
    have ed : s_sDecimal_z (IntKind.wrap .i64 (l.getD i (0, 0)).1) = some (decB (l.getD i (0, 0)).1.toNat) := by
      rw [IntWalk.i64_in _ (by omega)]
      have := sDec_eq (n := (l.getD i (0, 0)).1.toNat) (by omega)
      rw [Int.toNat_of_nonneg (by omega)] at this
      exact this
    have hw : ∀ y : ByteArray, tailN (l.getD i (0, 0)) l.length (y ++ decB (l.getD i (0, 0)).1.toNat) = y ++ wordB l.length (l.getD i (0, 0)) := fun y => tail_app _ _ _ _
    constructor
    · show f_sl07Text_n3 z i l = _
      unfold f_sl07Text_n3 textS
      rw [lt_true hi, inB_nat hi, toNat_nat, ed]
      simp only [cond_true, Option.bind]
      by_cases h0 : 0 < i
      · have e3 : (z ++ (⟨#[32]⟩ : ByteArray)).size = z.size + 1 := ByteArray.size_append
        have e1 : fits (z.size + (⟨#[32]⟩ : ByteArray).size) = true := fitsB (by show _ + 1 ≤ _; omega)
        have e2 : fits ((z ++ (⟨#[32]⟩ : ByteArray)).size + (decB (l.getD i (0, 0)).1.toNat).size) = true := fitsB (by rw [e3]; omega)
        rw [decide_eq_true (show (i : Int) > 0 by omega), decide_eq_true h0, e1, e2, sTail_run hn hi hxi.2 (by rw [ByteArray.size_append, e3]; omega)]
        have := hw (z ++ (⟨#[32]⟩ : ByteArray))
        rw [this]; rfl
      · have e2 : fits (z.size + (decB (l.getD i (0, 0)).1.toNat).size) = true := fitsB (by omega)
        rw [decide_eq_false (show ¬ (i : Int) > 0 by omega), decide_eq_false h0, e2]
        simp only [cond_false, cond_true]
        rw [sTail_run hn hi hxi.2 (by rw [ByteArray.size_append]; omega), hw z]
    · show (textS l z i).size ≤ 39 * (i + 1)
      unfold textS
      by_cases h0 : 0 < i
      · rw [decide_eq_true h0, cond_true, ByteArray.size_append, ByteArray.size_append]; omega
      · rw [decide_eq_false h0, cond_false, ByteArray.size_append]; omega
  · intro _
    show f_sl07Text_n3 (textJ l) (l.length : Nat) l = _
    unfold f_sl07Text_n3
    rw [lt_neg, cond_false]
/-- What Join makes is what the other one makes. -/
theorem join_snoc (sep x : List UInt8) : ∀ ws : List (List UInt8), ws ≠ [] → Lib.join (ws ++ [x]) sep = Lib.join ws sep ++ (sep ++ x)
  | [], h => absurd rfl h
  | w :: ws, _ => by
    rw [List.cons_append, Lib.join_cons, Lib.join_cons]
    unfold Lib.joinTail
    rw [List.map_append, List.flatten_append]
    simp
theorem text_join (l : List Job) : ∀ n, n ≤ l.length → ((List.range' 0 n).foldl (textS l) (⟨#[]⟩ : ByteArray)).data.toList = Lib.join (((List.range' 0 n).map fun i => wordB l.length (l.getD i (0, 0))).map (·.data.toList)) blank.data.toList
  | 0, _ => rfl
  | n + 1, h => by
    have ih := text_join l n (by omega)
    rw [List.range'_concat, List.foldl_append, List.map_append, List.map_append]
    simp only [List.foldl_cons, List.foldl_nil, List.map_cons, List.map_nil, Nat.zero_add, Nat.one_mul]
    generalize (List.range' 0 n).foldl (textS l) (⟨#[]⟩ : ByteArray) = z at ih
    unfold textS
    by_cases h0 : 0 < n
    · rw [decide_eq_true h0, cond_true, join_snoc _ _ _ (by
        intro q
        have := congrArg List.length q
        simp at this
        omega), ← ih, ByteArray.data_append, ByteArray.data_append, Array.toList_append, Array.toList_append, List.append_assoc]
    · obtain rfl : n = 0 := by omega
      have hz : z.data.toList = [] := ih
      rw [decide_eq_false h0, cond_false, ByteArray.data_append, Array.toList_append, hz]
      exact (Lib.join_one _ _).symm
theorem iText_eq {l : List Job} (h : DaysOK l) : f_iJobsText_run5 (((l.length : Nat) : Int), 0, l, []) = some (textJ l) := by
  obtain ⟨hn, hx⟩ := h
  unfold f_iJobsText_run5
  refine run_countI l.length (fun i (ws : List ByteArray) => (((l.length : Nat) : Int), (i : Int), l, ws)) (fun ws i => ws ++ [wordB l.length (l.getD i (0, 0))]) (fun i ws => ws.length = i ∧ ∀ w ∈ ws, w.size ≤ 38) _ [] (by omega) ⟨rfl, fun w hw => by cases hw⟩ ?_ ?_
  · intro i ws hi hI
    have hxi := hx _ (getD_mem' (d := ((0, 0) : Job)) hi)
    have hds := decB_size (n := (l.getD i (0, 0)).1.toNat) (by omega)
    have ed : s_idecimal (IntKind.wrap .i64 (l.getD i (0, 0)).1) = some (decB (l.getD i (0, 0)).1.toNat) := by
      rw [IntWalk.i64_in _ (by omega)]
      have := iDec_eq (n := (l.getD i (0, 0)).1.toNat) (by omega)
      rw [Int.toNat_of_nonneg (by omega)] at this
      exact this
    constructor
    · show f_iJobsText_n5 (l.length : Nat) i l ws = _
      unfold f_iJobsText_n5
      rw [lt_true hi, inB_nat hi, toNat_nat, ed]
      simp only [cond_true, Option.bind]
      exact iTail_run hn (by omega) (by rw [hI.1]; omega) hxi.2 (by omega)
    · refine ⟨by simp [hI.1], fun w hw => ?_⟩
      rcases List.mem_append.1 hw with hw | hw
      · exact hI.2 w hw
      · have hw : w = wordB l.length (l.getD i (0, 0)) := by simpa using hw
        rw [hw]; exact word_size hn hxi.1
  · intro _
    rw [foldl_map'' (fun i => wordB l.length (l.getD i (0, 0)))]
    show f_iJobsText_n5 (l.length : Nat) (l.length : Nat) l ((List.range' 0 l.length).map fun i => wordB l.length (l.getD i (0, 0))) = _
    unfold f_iJobsText_n5 s_stringsJoin
    rw [lt_neg, cond_false]
    have ej := text_join l l.length (Nat.le_refl _)
    have ej : (textJ l).data.toList = Lib.join (((List.range' 0 l.length).map fun i => wordB l.length (l.getD i (0, 0))).map (·.data.toList)) (⟨#[32]⟩ : ByteArray).data.toList := ej
    rw [← ej]
    have hl : (textJ l).data.toList.length ≤ 140737488355328 := by
      have hs : (textJ l).data.toList.length = (textJ l).size := rfl
      have : ∀ n, n ≤ l.length → ((List.range' 0 n).foldl (textS l) (⟨#[]⟩ : ByteArray)).size ≤ 39 * n := by
        intro n
        induction n with
        | zero => intro _; exact Nat.le_refl _
        | succ n ih =>
          intro hn2
          have ih := ih (by omega)
          rw [List.range'_concat, List.foldl_append]
          simp only [List.foldl_cons, List.foldl_nil, Nat.zero_add, Nat.one_mul]
          have hws := word_size hn (hx _ (getD_mem' (d := ((0, 0) : Job)) (show n < l.length by omega))).1
          have hb : blank.size = 1 := rfl
          unfold textS at ih ⊢
          by_cases h0 : 0 < n
          · rw [decide_eq_true h0, cond_true, ByteArray.size_append, ByteArray.size_append]; omega
          · rw [decide_eq_false h0, cond_false, ByteArray.size_append]; omega
      have := this l.length (Nat.le_refl _)
      rw [hs]
      show (textJ l).size ≤ _
      unfold textJ
      omega
    rw [ble_le (show ((List.range' 0 l.length).map fun i => wordB l.length (l.getD i (0, 0))).length ≤ 1000000 by simp; omega), ble_le hl]
    rfl

/-! ### the law -/
end Go.RR
