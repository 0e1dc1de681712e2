/- The plain law of ReadRow. -/
import Derived.Test.YtbmaolhjplapoaaDoorWc
set_option linter.unusedVariables false
set_option linter.unusedSimpArgs false
namespace Go.RR
open Go

/-- What stands behind a run that may be left. -/
def endL {τ ρ : Type} (fin : τ → ρ) : τ ⊕ ρ → ρ
  | .inl st => fin st
  | .inr r => r
/-- A run that may be left, with what holds on the way. -/
theorem iter_exitI {α σ τ ρ : Type} {step : σ → Option (σ ⊕ ρ)} (N : Nat) (emb : Nat → τ → σ) (g : τ → Nat → τ ⊕ ρ) (I : Nat → τ → Prop) (fin : τ → ρ)
    (hs : ∀ i st, i < N → I i st → step (emb i st) = some (match g st i with | .inl st' => .inl (emb (i + 1) st') | .inr r => .inr r) ∧ ∀ st', g st i = .inl st' → I (i + 1) st') (he : ∀ st, I N st → step (emb N st) = some (.inr (fin st))) :
    ∀ (k i m : Nat), i + k = N → k < m → ∀ st, I i st → iter step m (emb i st) = some (endL fin (exitL g st (List.range' i k))) ∧ ∀ st', exitL g st (List.range' i k) = .inl st' → I N st'
  | 0, i, m + 1, h, hm, st, hI => by
    obtain rfl : i = N := h
    refine ⟨?_, fun st' e => by cases e; exact hI⟩
    unfold iter
    rw [he st hI]
    rfl
  | k + 1, i, m + 1, h, hm, st, hI => by
    rw [List.range'_succ]
    unfold iter exitL
    obtain ⟨h1, h2⟩ := hs i st (by omega) hI
    rw [h1]
    cases hg : g st i with
    | inl st' => exact iter_exitI (α := α) N emb g I fin hs he k (i + 1) m (by omega) (by omega) st' (h2 st' hg)
    | inr r => exact ⟨rfl, fun st' e => by cases e⟩
  | _, _, 0, _, hm, _, _ => by omega

theorem eqRow_same (l : List Int) (hl : l.length ≤ 100000000) : s_weqRow l l = some true := by
  unfold s_weqRow
  have : (((List.length l : Nat) : Int) != ((List.length l : Nat) : Int)) = false := by simp
  rw [this, cond_false]
  unfold f_weqRow_run4
  have h := run_all (step := fun x => f_weqRow_n4 x.1 x.2.1 x.2.2) l.length (fun i => ((i : Int), l, l)) (fun i => true) true false (by omega) ?_ ?_
  · exact h.trans (by simp)
  · intro i hi
    show f_weqRow_n4 i l l = _
    unfold f_weqRow_n4
    rw [lt_true hi, inB_nat hi, toNat_nat, succ64 (by omega)]
    have : (l.getD i 0 != l.getD i 0) = false := by simp
    rw [this]; rfl
  · show f_weqRow_n4 (l.length : Nat) l l = _
    unfold f_weqRow_n4
    rw [lt_neg, cond_false]

noncomputable def markR (n : Nat) : List Int := (List.range' 0 n).map fun i : Nat => IntKind.wrap .i16 ((i + 1 : Nat) : Int)
theorem markR_len (n : Nat) : (markR n).length = n := by simp [markR]
theorem markR_get {n i : Nat} (h : i < n) : (markR n)[i]? = some (IntKind.wrap .i16 ((i + 1 : Nat) : Int)) := by
  unfold markR
  rw [List.getElem?_map, List.getElem?_range' (by omega)]
  simp
theorem markRow_eq (l : List Int) (hl : l.length ≤ 1000000) : s_wmarkRow l 1 = some (((l.length + 1 : Nat) : Int), markR l.length) := by
  unfold s_wmarkRow f_wmarkRow_run2
  have key := run_count (step := fun x => f_wmarkRow_n2 x.1 x.2.1 x.2.2) (τ := Unit) l.length (fun i _ => (((i + 1 : Nat) : Int), (i : Int), (markR l.length).take i ++ l.drop i)) (fun _ _ => ()) (((l.length + 1 : Nat) : Int), markR l.length) () (by omega) ?_ ?_
  · exact key
  · intro i _ hi
    show f_wmarkRow_n2 ((i + 1 : Nat) : Int) i ((markR l.length).take i ++ l.drop i) = _
    have hlen : ((markR l.length).take i ++ l.drop i).length = l.length := by
      simp [markR_len]; omega
    unfold f_wmarkRow_n2
    rw [hlen, lt_true hi, inB_nat hi, succ64 (i := i) (by omega), succ64 (i := i + 1) (by omega), toNat_nat]
    simp only [cond_true]
    have hset : ((markR l.length).take i ++ l.drop i).set i (IntKind.wrap .i16 ((i + 1 : Nat) : Int)) = (markR l.length).take (i + 1) ++ l.drop (i + 1) := by
      have h1 : ((markR l.length).take i).length = i := by simp [markR_len]; omega
      rw [List.set_append_right _ _ (by omega), h1, Nat.sub_self, List.take_add_one, markR_get hi]
      rw [List.drop_eq_getElem_cons hi, List.set_cons_zero]
      simp
    rw [hset]
  · show f_wmarkRow_n2 ((l.length + 1 : Nat) : Int) (l.length : Nat) ((markR l.length).take l.length ++ l.drop l.length) = _
    have h1 : (markR l.length).take l.length ++ l.drop l.length = markR l.length := by
      rw [List.drop_length, List.append_nil]
      exact List.take_of_length_le (by rw [markR_len]; exact Nat.le_refl _)
    rw [h1]
    unfold f_wmarkRow_n2
    rw [markR_len, lt_neg, cond_false]
theorem heldRow_eq (n : Nat) (hn : n ≤ 1000000) : s_wheldRow (markR n) 1 = some ((n + 1 : Nat) : Int) := by
  unfold s_wheldRow f_wheldRow_run2
  have key := run_count (step := fun x => f_wheldRow_n2 x.1 x.2.1 x.2.2) (τ := Unit) n (fun i _ => (((i + 1 : Nat) : Int), (i : Int), markR n)) (fun _ _ => ()) ((n + 1 : Nat) : Int) () (by omega) ?_ ?_
  · exact key
  · intro i _ hi
    show f_wheldRow_n2 ((i + 1 : Nat) : Int) i (markR n) = _
    unfold f_wheldRow_n2
    have hg : (markR n).getD i 0 = IntKind.wrap .i16 ((i + 1 : Nat) : Int) := by rw [List.getD_eq_getElem?_getD, markR_get hi]; rfl
    rw [markR_len, lt_true hi, inB_nat hi, toNat_nat, hg, succ64 (i := i) (by omega), succ64 (i := i + 1) (by omega)]
    have : (IntKind.wrap .i16 ((i + 1 : Nat) : Int) != IntKind.wrap .i16 ((i + 1 : Nat) : Int)) = false := by simp
    rw [this]; rfl
  · show f_wheldRow_n2 ((n + 1 : Nat) : Int) (n : Nat) (markR n) = _
    unfold f_wheldRow_n2
    rw [markR_len, lt_neg, cond_false]

theorem any_width (l : List Int) (hl : l.length ≤ 1000000) : s_gContainsFunc_int64_a l = some (l.any s_iisWidth_1) := by
  unfold s_gContainsFunc_int64_a s_gIndexFunc_int64_a f_gIndexFunc_int64_a_run2
  have hs1 : ∀ i, i < l.length → f_gIndexFunc_int64_a_n2 (l.length : Nat) i l = some (cond (s_iisWidth_1 (l.getD i 0)) (Sum.inr (i : Int)) (Sum.inl (((l.length : Nat) : Int), ((i + 1 : Nat) : Int), l))) := by
    intro i hi
    unfold f_gIndexFunc_int64_a_n2
    rw [lt_true hi, inB_nat hi, toNat_nat, succ64 (by omega)]
    simp only [cond_true]
    cases s_iisWidth_1 (l.getD i 0) <;> rfl
  have he1 : f_gIndexFunc_int64_a_n2 (l.length : Nat) (l.length : Nat) l = some (Sum.inr (-1)) := by
    unfold f_gIndexFunc_int64_a_n2
    rw [lt_neg, cond_false]
  obtain ⟨r, h1, h2, _⟩ := run_idx (step := fun x => f_gIndexFunc_int64_a_n2 x.1 x.2.1 x.2.2) l.length (fun i => (((l.length : Nat) : Int), (i : Int), l)) (fun i => s_iisWidth_1 (l.getD i 0)) hs1 he1 l.length 0 FU (by omega) (FU_big (pow_big (by omega)))
  have h1 : iter (fun x => f_gIndexFunc_int64_a_n2 x.1 x.2.1 x.2.2) FU (((l.length : Nat) : Int), 0, l) = some r := h1
  rw [h1]
  simp only [Option.bind]
  rw [h2, any_getD 0 l s_iisWidth_1]
theorem any_not_all {α : Type} (p : α → Bool) : ∀ l : List α, (l.any fun x => !p x) = !l.all p
  | [] => rfl
  | x :: m => by rw [List.any_cons, List.all_cons, any_not_all p m]; cases p x <;> rfl
noncomputable def widP (x : Int) : Bool := s_sl05Width (IntKind.wrap .i64 x)
noncomputable def validR (l : List Int) : Bool := s_sl00In ((l.length : Nat) : Int) 1 60 && l.all widP
theorem sOkR {l : List Int} (hl : l.length ≤ 100000000) : s_sl05Ok l = some (validR l) := by
  unfold s_sl05Ok validR
  cases s_sl00In ((l.length : Nat) : Int) 1 60
  · rfl
  · show f_sl05Ok_run4 (0, l) = _
    unfold f_sl05Ok_run4
    have e := run_allL (step := fun x => f_sl05Ok_n4 x.1 x.2) (0 : Int) l (fun i => ((i : Int), l)) widP true false (by omega) ?_ ?_
    · refine e.trans ?_
      cases l.all widP <;> rfl
    · intro i hi hm
      show f_sl05Ok_n4 i l = _
      unfold f_sl05Ok_n4 widP
      rw [lt_true hi, inB_nat hi, toNat_nat, succ64 (by omega)]
      cases s_sl05Width (IntKind.wrap .i64 (l.getD i 0)) <;> rfl
    · show f_sl05Ok_n4 (l.length : Nat) l = _
      unfold f_sl05Ok_n4
      rw [lt_neg, cond_false]
theorem width_one (a : Int) : s_iisWidth [a] = some (s_sl05Width a) := by
  unfold s_iisWidth
  rw [any_width _ (by simp)]
  have e : ∀ x, s_iisWidth_1 x = !s_sl05Width x := fun x => rfl
  simp only [Option.bind, List.any_cons, List.any_nil, e]
  cases s_sl05Width a <;> rfl
theorem iOkR {l : List Int} (hl : l.length ≤ 100000000) : s_iValidRow l = some (validR l) := by
  unfold s_iValidRow validR
  have hw : s_iwithin ((l.length : Nat) : Int) 1 60 = s_sl00In ((l.length : Nat) : Int) 1 60 := rfl
  rw [hw]
  have hc : s_gContainsFunc_int16_a l = some (l.any fun x => !widP x) := by
    unfold s_gContainsFunc_int16_a s_gIndexFunc_int16_a f_gIndexFunc_int16_a_run2
    have hs1 : ∀ i, i < l.length → f_gIndexFunc_int16_a_n2 (l.length : Nat) i l = some (cond (!widP (l.getD i 0)) (Sum.inr (i : Int)) (Sum.inl (((l.length : Nat) : Int), ((i + 1 : Nat) : Int), l))) := by
      intro i hi
      unfold f_gIndexFunc_int16_a_n2 s_iValidRow_1 widP
      rw [lt_true hi, inB_nat hi, toNat_nat, succ64 (by omega), width_one]
      simp only [cond_true, Option.bind]
      cases s_sl05Width (IntKind.wrap .i64 (l.getD i 0)) <;> rfl
    have he1 : f_gIndexFunc_int16_a_n2 (l.length : Nat) (l.length : Nat) l = some (Sum.inr (-1)) := by
      unfold f_gIndexFunc_int16_a_n2
      rw [lt_neg, cond_false]
    obtain ⟨r, h1, h2, _⟩ := run_idx (step := fun x => f_gIndexFunc_int16_a_n2 x.1 x.2.1 x.2.2) l.length (fun i => (((l.length : Nat) : Int), (i : Int), l)) (fun i => !widP (l.getD i 0)) hs1 he1 l.length 0 FU (by omega) (FU_big (pow_big (by omega)))
    have h1 : iter (fun x => f_gIndexFunc_int16_a_n2 x.1 x.2.1 x.2.2) FU (((l.length : Nat) : Int), 0, l) = some r := h1
    rw [h1]
    simp only [Option.bind]
    rw [h2, any_getD 0 l fun x => !widP x]
  rw [hc, any_not_all widP l]
  cases s_sl00In ((l.length : Nat) : Int) 1 60 <;> cases l.all widP <;> rfl
theorem wid_rng {x : Int} (hx : -32768 ≤ x ∧ x ≤ 32767) (h : widP x = true) : 1 ≤ x ∧ x ≤ 200 := by
  unfold widP at h
  rw [IntWalk.i64_in _ (by omega)] at h
  unfold s_sl05Width s_sl00In at h
  by_cases q : x ≥ 1
  · rw [decide_eq_true q, cond_true] at h
    have := of_decide_eq_true h; omega
  · rw [decide_eq_false q] at h; cases h

/-! ### words and widths -/
theorem spl_len (y : UInt8) : ∀ l : List UInt8, (spl y l).length ≤ l.length + 1 ∧ ∀ w ∈ spl y l, w.length ≤ l.length
  | [] => ⟨Nat.le_refl _, fun w hw => by
    have : w = [] := by simpa [spl] using hw
    rw [this]; exact Nat.le_refl _⟩
  | b :: l => by
    obtain ⟨h1, h2⟩ := spl_len y l
    by_cases hb : b = y
    · have es : spl y (b :: l) = [] :: spl y l := by
        show (if b = y then _ else _) = _
        rw [if_pos hb]
      rw [es]
      refine ⟨by simp only [List.length_cons]; omega, fun w hw => ?_⟩
      rcases List.mem_cons.1 hw with rfl | hw
      · exact Nat.zero_le _
      · have := h2 w hw
        simp only [List.length_cons]; omega
    · have es : spl y (b :: l) = match spl y l with
          | w :: ws => (b :: w) :: ws
          | [] => [[b]] := by
        show (if b = y then _ else _) = _
        rw [if_neg hb]
        rfl
      rw [es]
      cases hsp : spl y l with
      | nil => exact absurd hsp (spl_ne y l)
      | cons w ws =>
        rw [hsp] at h1 h2
        dsimp only
        refine ⟨by simp only [List.length_cons] at h1 ⊢; omega, fun u hu => ?_⟩
        rcases List.mem_cons.1 hu with rfl | hu
        · have := h2 w (List.mem_cons_self ..)
          simp only [List.length_cons]; omega
        · have := h2 u (List.mem_cons_of_mem _ hu)
          simp only [List.length_cons]; omega
/-- The width that a word tells. -/
def widOf (hi : Nat) (w : ByteArray) : Option Nat := if (numB w.data.toList).2 = true ∧ 1 ≤ (numB w.data.toList).1 ∧ (numB w.data.toList).1 ≤ (hi : Int) then some (numB w.data.toList).1.toNat else none
theorem widOf_some {w : ByteArray} {hi n : Nat} (hh : hi < 1000) (h : widOf hi w = some n) : IsWid w 1 hi n ∧ numB w.data.toList = ((n : Int), true) := by
  unfold widOf at h
  split at h
  · rename_i hc
    obtain ⟨h1, h2, h3⟩ := hc
    have h := Option.some.inj h
    have e : numB w.data.toList = ((n : Int), true) := Prod.ext (by show (numB w.data.toList).1 = (n : Int); omega) h1
    exact ⟨⟨by omega, by omega, numB_dl (by omega) e⟩, e⟩
  · cases h
theorem widOf_none {w : ByteArray} {hi : Nat} (hh : hi < 1000) (h : widOf hi w = none) : ∀ n, ¬ IsWid w 1 hi n := by
  intro n hn
  obtain ⟨h1, h2, h3⟩ := hn
  unfold widOf at h
  have e : numB w.data.toList = ((n : Int), true) := by rw [h3]; exact numB_all ⟨n, by omega⟩
  rw [e, if_pos ⟨rfl, by show 1 ≤ (n : Int); omega, by show (n : Int) ≤ hi; omega⟩] at h
  cases h
noncomputable def readG (ws : List ByteArray) (out : List Int) (i : Nat) : List Int ⊕ (List Int × Int) := match widOf 200 (ws.getD i (⟨#[]⟩ : ByteArray)) with
  | some n => .inl (out ++ [(n : Int)])
  | none => .inr ([], 5)
noncomputable def readF (out : List Int) : List Int × Int := cond (validR out) (out, 0) ([], 5)
abbrev WordsOK (ws : List ByteArray) : Prop := ws.length ≤ 1100000 ∧ ∀ w ∈ ws, w.size ≤ 1100000
theorem readI {ws : List ByteArray} {out : List Int} {i : Nat} (h : out.length ≤ i) : ∀ o, readG ws out i = .inl o → o.length ≤ i + 1 := by
  intro o e
  unfold readG at e
  split at e
  · cases e; simp; omega
  · cases e
theorem sRead {ws : List ByteArray} (h : WordsOK ws) : f_sReadRow_run4 (0, ws, []) = some (endL readF (exitL (readG ws) [] (List.range' 0 ws.length))) := by
  unfold f_sReadRow_run4
  refine (iter_exitI (α := Unit) (step := fun x => f_sReadRow_n4 x.1 x.2.1 x.2.2) ws.length (fun i o => ((i : Int), ws, o)) (readG ws) (fun i o => o.length ≤ i) readF ?_ ?_ ws.length 0 FU (by omega) (FU_big (pow_big (by have := h.1; omega))) [] (Nat.le_refl _)).1
  · intro i o hi ho
    refine ⟨?_, readI ho⟩
    have hl := h.1
    show f_sReadRow_n4 i ws o = _
    unfold f_sReadRow_n4 readG
    rw [lt_true hi, inB_nat hi, toNat_nat, number_eq]
    simp only [cond_true, Option.bind]
    cases hw : widOf 200 (ws.getD i (⟨#[]⟩ : ByteArray)) with
    | some n =>
      obtain ⟨⟨h1, h2, _⟩, h3⟩ := widOf_some (by decide) hw
      have hwid : s_sl05Width (n : Int) = true := by
        unfold s_sl05Width s_sl00In
        rw [decide_eq_true (show (n : Int) ≥ 1 by omega), decide_eq_true (show (n : Int) ≤ 200 by omega)]; rfl
      rw [h3]
      dsimp only
      rw [hwid, IntWalk.i16_in (n : Int) (by omega), fits_small (show (List.length o + List.length ([(n : Int)] : List Int)) * 2 ≤ 140737488355328 by simp; omega), succ64 (by omega)]
      rfl
    | none =>
      unfold widOf at hw
      split at hw
      · cases hw
      · rename_i hn
        cases hb : (numB (ws.getD i (⟨#[]⟩ : ByteArray)).data.toList).2
        · rfl
        · have hwid : s_sl05Width (numB (ws.getD i (⟨#[]⟩ : ByteArray)).data.toList).1 = false := by
            unfold s_sl05Width s_sl00In
            by_cases q : (numB (ws.getD i (⟨#[]⟩ : ByteArray)).data.toList).1 ≥ 1
            · rw [decide_eq_true q, cond_true]
              exact decide_eq_false fun q2 => hn ⟨hb, q, q2⟩
            · rw [decide_eq_false q]; rfl
          rw [hwid]; rfl
  · intro o ho
    have hl := h.1
    show f_sReadRow_n4 (ws.length : Nat) ws o = _
    unfold f_sReadRow_n4 readF
    rw [lt_neg, cond_false, sOkR (by omega)]
    cases validR o <;> rfl
theorem iRead {ws : List ByteArray} (h : WordsOK ws) : f_iReadRow_run3 (((ws.length : Nat) : Int), 0, [], ws) = some (endL readF (exitL (readG ws) [] (List.range' 0 ws.length))) := by
  unfold f_iReadRow_run3
  refine (iter_exitI (α := Unit) (step := fun x => f_iReadRow_n3 x.1 x.2.1 x.2.2.1 x.2.2.2) ws.length (fun i o => (((ws.length : Nat) : Int), (i : Int), o, ws)) (readG ws) (fun i o => o.length ≤ i) readF ?_ ?_ ws.length 0 FU (by omega) (FU_big (pow_big (by have := h.1; omega))) [] (Nat.le_refl _)).1
  · intro i o hi ho
    refine ⟨?_, readI ho⟩
    have hl := h.1
    have hsz : (ws.getD i (⟨#[]⟩ : ByteArray)).size ≤ 2000000 := by
      have := h.2 _ (getD_mem' (d := (⟨#[]⟩ : ByteArray)) hi)
      omega
    show f_iReadRow_n3 (ws.length : Nat) i o ws = _
    unfold f_iReadRow_n3 readG
    rw [lt_true hi, inB_nat hi, toNat_nat]
    simp only [cond_true]
    cases hw : widOf 200 (ws.getD i (⟨#[]⟩ : ByteArray)) with
    | some n =>
      obtain ⟨h1, _⟩ := widOf_some (by decide) hw
      have e := read_yes (lo := 1) (hi := 200) hsz (by decide) h1
      have e : s_ireadDecimal (ws.getD i (⟨#[]⟩ : ByteArray)) 1 200 = some ((n : Int), true) := e
      obtain ⟨h2, h3, _⟩ := h1
      rw [e]
      dsimp only [Option.bind]
      rw [IntWalk.i16_in (n : Int) (by omega), fits_small (show (List.length o + List.length ([(n : Int)] : List Int)) * 2 ≤ 140737488355328 by simp; omega), succ64 (by omega)]
      rfl
    | none =>
      obtain ⟨v, e⟩ := read_no (lo := 1) (hi := 200) hsz (by decide) (widOf_none (by decide) hw)
      have e : s_ireadDecimal (ws.getD i (⟨#[]⟩ : ByteArray)) 1 200 = some (v, false) := e
      rw [e]; rfl
  · intro o ho
    have hl := h.1
    show f_iReadRow_n3 (ws.length : Nat) (ws.length : Nat) o ws = _
    unfold f_iReadRow_n3 readF
    rw [lt_neg, cond_false, iOkR (by omega)]
    cases validR o <;> rfl
theorem read_len {ws : List ByteArray} : ∀ (k i : Nat) (o : List Int), (endL readF (exitL (readG ws) o (List.range' i k))).1.length ≤ 60
  | 0, i, o => by
    show (readF o).1.length ≤ 60
    unfold readF
    cases hv : validR o
    · exact Nat.zero_le _
    · show o.length ≤ 60
      unfold validR at hv
      rw [Bool.and_eq_true] at hv
      have h1 := hv.1
      unfold s_sl00In at h1
      by_cases q : ((o.length : Nat) : Int) ≥ 1
      · rw [decide_eq_true q, cond_true] at h1
        have := of_decide_eq_true h1; omega
      · rw [decide_eq_false q] at h1; cases h1
  | k + 1, i, o => by
    rw [List.range'_succ]
    unfold exitL
    cases hg : readG ws o i with
    | inl o' => exact read_len k (i + 1) o'
    | inr r =>
      unfold readG at hg
      split at hg
      · cases hg
      · cases hg; exact Nat.zero_le _

/-! ### the law -/
theorem read_two {z : ByteArray} (hz : z.size ≤ 1048576) : ∃ v, s_sReadRow z = some v ∧ s_iReadRow z = some v ∧ v.1.length ≤ 60 := by
  obtain ⟨ws, e1, e2, e3⟩ := split_two (z := z) (y := 44) (by omega)
  have hzl : z.data.toList.length = z.size := rfl
  obtain ⟨l1, l2⟩ := spl_len 44 z.data.toList
  have hw : WordsOK ws := by
    refine ⟨?_, fun w hw => ?_⟩
    · have : ws.length = (spl 44 z.data.toList).length := by rw [← e3, List.length_map]
      omega
    · have h1 : w.data.toList ∈ spl 44 z.data.toList := by rw [← e3]; exact List.mem_map.2 ⟨w, hw, rfl⟩
      have h2 := l2 _ h1
      have h3 : w.data.toList.length = w.size := rfl
      omega
  have e1 : s_sl01Split z 44 = some ws := e1
  unfold s_sReadRow s_iReadRow
  rw [e1, e2]
  exact ⟨_, sRead hw, iRead hw, read_len _ _ _⟩
theorem law_ReadRow {z : ByteArray} (hlm : z.size ≤ maxLen) : s_wFnExactReadRow z = some true := by
  unfold s_wFnExactReadRow
  by_cases hz : ((z.size : Nat) : Int) > 1048576
  · rw [decide_eq_true hz]; rfl
  rw [decide_eq_false hz, cond_false]
  obtain ⟨v, e1, e2, hl⟩ := read_two (z := z) (by omega)
  have nn : ∀ x : Int, (x != x) = false := fun x => by simp
  have e3 := eqRow_same v.1 (by omega)
  have e7 : decide (((v.1.length + 1 : Nat) : Int) < 0) = false := decide_eq_false (by omega)
  simp only [Option.bind, e1, e2, e3, markRow_eq v.1 (by omega), heldRow_eq v.1.length (by omega), e7, nn, Bool.not_true, cond_false]
end Go.RR
