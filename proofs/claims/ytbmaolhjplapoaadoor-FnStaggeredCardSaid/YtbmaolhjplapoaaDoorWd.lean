/- Plain laws of rows: lengths, the least distance, what the public functions answer. -/
import Derived.Test.YtbmaolhjplapoaaDoorWc
set_option linter.unusedVariables false
set_option linter.unusedSimpArgs false
namespace Go.RR
open Go

/-! ### The length of a row -/
def rlen (r : List Int) (S : Int) : Int := r.foldl (· + ·) (((r.length - 1 : Nat) : Int) * S)
theorem len_i {r : List Int} {S : Int} (h : OKR r) (hS : 0 ≤ S ∧ S ≤ 200) : s_iRow_length r S = some (rlen r S) := by
  have hl := h.l
  have hp := h.p
  have hm : 0 ≤ ((r.length - 1 : Nat) : Int) * S ∧ ((r.length - 1 : Nat) : Int) * S ≤ 60 * 200 := by
    constructor
    · exact Int.mul_nonneg (by omega) hS.1
    · exact Int.mul_le_mul (by omega) hS.2 hS.1 (by omega)
  unfold s_iRow_length
  rw [len_ix (by omega) (by omega), IntWalk.i64_in (((r.length - 1 : Nat) : Int) * S) (by omega)]
  unfold f_iRow_length_run3
  refine run_listI (step := fun x => f_iRow_length_n3 x.1 x.2.1 x.2.2.1 x.2.2.2) (0 : Int) r (fun i (s : Int) => (s, ((r.length : Nat) : Int), (i : Int), r)) (· + ·) (fun i s => 0 ≤ s ∧ s ≤ 12000 + 200 * i) _ (((r.length - 1 : Nat) : Int) * S) (by omega) (by omega) ?_ ?_
  · intro i s hi hm2 hs
    have hx := h.w _ hm2
    refine ⟨?_, by omega⟩
    show f_iRow_length_n3 s ((r.length : Nat) : Int) i r = _
    unfold f_iRow_length_n3
    rw [lt_true hi, inB_nat hi, toNat_nat, IntWalk.i64_in (r.getD i 0) (by omega), IntWalk.i64_in (s + r.getD i 0) (by omega), succ64 (by omega)]
    rfl
  · intro _
    show f_iRow_length_n3 (rlen r S) ((r.length : Nat) : Int) ((r.length : Nat) : Int) r = _
    unfold f_iRow_length_n3
    rw [lt_neg, cond_false]
theorem ok_len {n : Nat} (h1 : 1 ≤ n) (h2 : n ≤ 60) : decide (1 ≤ n ∧ n ≤ 60) = true := decide_eq_true ⟨h1, h2⟩
theorem valid_ok {r : List Int} (h : OKR r) : s_iValidRow r = some true := by
  have := h.l
  rw [valid_eq h.w (by omega)]
  unfold okR
  rw [ok_len h.p h.l]
theorem sok_ok {r : List Int} (h : OKR r) : s_sl05Ok r = some true := by
  have := h.l
  rw [ok_eq h.w (by omega)]
  unfold okR
  rw [ok_len h.p h.l]
theorem lengthOf_ok {r : List Int} {S : Int} (h : OKR r) (hS : 0 ≤ S ∧ S ≤ 200) : s_iLengthOf r S = some (rlen r S, 0) := by
  unfold s_iLengthOf
  rw [valid_ok h, seam_ok hS, len_i h hS]
  rfl
theorem foldl_toI : ∀ (l : List Nat) (s : Int), (toI l).foldl (· + ·) s = s + ((l.sum : Nat) : Int)
  | [], s => by simp [toI]
  | x :: l, s => by
    show (toI l).foldl (· + ·) (s + (x : Int)) = _
    rw [foldl_toI l, List.sum_cons]
    omega
theorem wids_sum {L S W F : Nat} (hW : 1 ≤ W) : (wids L S W F).sum + ((wids L S W F).length - 1) * S = L := by
  unfold wids
  generalize hf : min F L = f
  generalize hD : L - f = D
  generalize hk : D / (S + W) = k
  generalize hm : D % (S + W) = m
  have h1 : k * (S + W) + m = D := by
    rw [← hk, ← hm, Nat.mul_comm]; exact Nat.div_add_mod D (S + W)
  have hfL : f ≤ L := by omega
  rw [Nat.mul_add] at h1
  split
  · simp only [List.sum_cons, List.sum_append, List.sum_nil, List.length_cons, List.length_append, List.length_replicate, List.length_nil, List.sum_replicate_nat]
    rw [show k + (0 + 1) + 1 - 1 = k + 1 by omega, Nat.succ_mul]
    omega
  · split
    · rename_i h0 hk0
      subst hk0
      simp
      omega
    · simp only [List.sum_cons, List.sum_append, List.sum_nil, List.length_cons, List.length_append, List.length_replicate, List.length_nil, List.sum_replicate_nat]
      obtain ⟨k', rfl⟩ : ∃ k', k = k' + 1 := ⟨k - 1, by omega⟩
      rw [show k' + 1 - 1 + (0 + 1) + 1 - 1 = k' + 1 by omega, show k' + 1 - 1 = k' by omega]
      rw [Nat.succ_mul, Nat.succ_mul] at h1
      rw [Nat.succ_mul]
      omega
theorem wids_ne (L S W F : Nat) : 1 ≤ (wids L S W F).length := by
  unfold wids
  split
  · simp
  · split <;> simp
theorem brk_facts {L S W F : Nat} (hL : 1 ≤ L) (hW : 1 ≤ W) (hF : 1 ≤ F) (h : (brk L S W F).2 = true) : (brk L S W F).1 = toI (wids L S W F) ∧ OKR (toI (wids L S W F)) ∧ rlen (toI (wids L S W F)) (S : Int) = (L : Int) := by
  unfold brk at h ⊢
  cases hb : brkOk L S W F
  · rw [hb] at h; cases h
  · rw [hb] at h
    unfold brkOk at hb
    rw [Bool.and_eq_true, decide_eq_true_eq, List.all_eq_true] at hb
    refine ⟨rfl, ⟨fun x hx => ?_, by rw [toI_len]; exact wids_ne L S W F, by rw [toI_len]; exact hb.1⟩, ?_⟩
    · obtain ⟨n, hn, rfl⟩ := List.mem_map.1 hx
      have h1 := wids_pos (S := S) hL hW hF n hn
      have h2 := hb.2 n hn
      rw [decide_eq_true_eq] at h2
      omega
    · unfold rlen
      rw [foldl_toI, toI_len]
      have := wids_sum (L := L) (S := S) (W := W) (F := F) hW
      have e : (((wids L S W F).length - 1 : Nat) : Int) * (S : Int) = ((((wids L S W F).length - 1) * S : Nat) : Int) := by rw [Int.natCast_mul]
      rw [e]
      omega
/-- A row that is longer than one stone begins with the first width. -/
theorem brk_first {L S W F : Nat} (hFL : F < L) (h : 1 < (wids L S W F).length) : (toI (wids L S W F)).getD 0 0 = (F : Int) := by
  rw [toI_get]
  unfold wids at h ⊢
  rw [show min F L = F by omega] at h ⊢
  split
  · rfl
  · rename_i h1
    rw [if_neg h1] at h
    split
    · rename_i h2
      rw [if_pos h2] at h
      simp at h
    · rfl
theorem brk_mid {L S W F : Nat} {i : Nat} (h1 : 1 ≤ i) (h2 : i + 2 < (wids L S W F).length) : (toI (wids L S W F)).getD i 0 = (W : Int) := by
  rw [toI_get]
  obtain ⟨j, rfl⟩ : ∃ j, i = j + 1 := ⟨i - 1, by omega⟩
  have key : ∀ (k : Nat) (y : Nat), j < k → (List.replicate k W ++ [y]).getD j 0 = W := by
    intro k y hj
    rw [List.getD_eq_getElem?_getD, List.getElem?_append_left (by simpa using hj), List.getElem?_replicate, if_pos hj]; rfl
  unfold wids at h2 ⊢
  split
  · rename_i h3
    rw [if_pos h3] at h2
    simp at h2
    rw [List.getD_cons_succ, key _ _ (by omega)]
  · rename_i h3
    rw [if_neg h3] at h2
    split
    · rename_i h4
      rw [if_pos h4] at h2
      simp at h2
    · rename_i h4
      rw [if_neg h4] at h2
      simp at h2
      rw [List.getD_cons_succ, key _ _ (by omega)]

/-! ### The least distance -/
def V (ja jb : List JT) : List Int := ja.flatMap fun x => jb.map (ap x)
theorem V_fold {α : Type} (m : α → Int → α) (jb : List JT) : ∀ (ja : List JT) (s : α), ja.foldl (fun acc x => jb.foldl (fun acc y => m acc (ap x y)) acc) s = (V ja jb).foldl m s
  | [], s => rfl
  | x :: ja, s => by
    rw [List.foldl_cons, V_fold m jb ja]
    unfold V
    rw [List.flatMap_cons, List.foldl_append, List.foldl_map]
theorem V_idx {α : Type} (m : α → Int → α) (ja jb : List JT) (s : α) : (List.range' 0 ja.length).foldl (fun acc i => (List.range' 0 jb.length).foldl (fun acc k => m acc (ap (gJ ja i) (gJ jb k))) acc) s = (V ja jb).foldl m s := by
  rw [← V_fold, ← foldl_getD ((0, 0) : Int × Int) (fun acc x => jb.foldl (fun acc y => m acc (ap x y)) acc) ja s]
  congr 1
  funext acc i
  exact foldl_getD ((0, 0) : Int × Int) (fun acc y => m acc (ap (gJ ja i) y)) jb acc
def mI (acc : Int × Bool) (v : Int) : Int × Bool := cond (!acc.2) (v, true) (cond (decide (v < acc.1)) (v, true) acc)
def leastV : List Int → Int × Int
  | [] => (0, 6)
  | v :: vs => (vs.foldl min v, 0)
theorem mI_fold : ∀ (vs : List Int) (l : Int), vs.foldl mI (l, true) = (vs.foldl min l, true)
  | [], _ => rfl
  | v :: vs, l => by
    rw [List.foldl_cons, List.foldl_cons]
    have : mI (l, true) v = (min l v, true) := by
      unfold mI
      by_cases h : v < l
      · rw [decide_eq_true h, show min l v = v by omega]; rfl
      · rw [decide_eq_false h, show min l v = l by omega]; rfl
    rw [this, mI_fold vs]
theorem least_lt (near : Int) : ∀ (vs : List Int) (l : Int), vs.foldl min l < near ↔ l < near ∨ ∃ v ∈ vs, v < near
  | [], l => by simp
  | v :: vs, l => by
    rw [List.foldl_cons, least_lt near vs]
    constructor
    · rintro (h | ⟨u, hu, h⟩)
      · by_cases hv : v < near
        · exact .inr ⟨v, by simp, hv⟩
        · exact .inl (by omega)
      · exact .inr ⟨u, by simp [hu], h⟩
    · rintro (h | ⟨u, hu, h⟩)
      · exact .inl (by omega)
      · rcases List.mem_cons.1 hu with rfl | hu
        · exact .inl (by omega)
        · exact .inr ⟨u, hu, h⟩
theorem least_i {a b : List Int} {S : Int} (ha : OKR a) (hb : OKR b) (hS : 0 ≤ S ∧ S ≤ 200) : s_iLeastApart a b S = some (leastV (V (J a S) (J b S))) := by
  obtain ⟨la, ra⟩ := J_facts ha hS
  obtain ⟨lb, rb⟩ := J_facts hb hS
  have h1 := ha.l
  have h2 := hb.l
  unfold s_iLeastApart
  rw [valid_ok ha, valid_ok hb, seam_ok hS, J_i ha hS]
  show f_iLeastApart_run6 (S, 0, false, (((J a S).length : Nat) : Int), 0, b, J a S) = _
  have inner : ∀ (i : Nat) (acc : Int × Bool), i < (J a S).length → f_iLeastApart_run9 (S, acc.1, acc.2, (((J a S).length : Nat) : Int), (i : Int), (((J b S).length : Nat) : Int), 0, b, (gJ (J a S) i).1, (gJ (J a S) i).2, J a S, J b S) =
      some (.inl (S, ((List.range' 0 (J b S).length).foldl (fun acc k => mI acc (ap (gJ (J a S) i) (gJ (J b S) k))) acc).1, ((List.range' 0 (J b S).length).foldl (fun acc k => mI acc (ap (gJ (J a S) i) (gJ (J b S) k))) acc).2, (((J a S).length : Nat) : Int), ((i + 1 : Nat) : Int), b, J a S)) := by
    intro i acc hi
    unfold f_iLeastApart_run9
    refine run_count (step := fun x => f_iLeastApart_n9 x.1 x.2.1 x.2.2.1 x.2.2.2.1 x.2.2.2.2.1 x.2.2.2.2.2.1 x.2.2.2.2.2.2.1 x.2.2.2.2.2.2.2.1 x.2.2.2.2.2.2.2.2.1 x.2.2.2.2.2.2.2.2.2.1 x.2.2.2.2.2.2.2.2.2.2.1 x.2.2.2.2.2.2.2.2.2.2.2) (J b S).length (fun k (acc : Int × Bool) => (S, acc.1, acc.2, (((J a S).length : Nat) : Int), (i : Int), (((J b S).length : Nat) : Int), (k : Int), b, (gJ (J a S) i).1, (gJ (J a S) i).2, J a S, J b S)) (fun acc k => mI acc (ap (gJ (J a S) i) (gJ (J b S) k))) _ acc (by omega) ?_ ?_
    · intro k acc hk
      show f_iLeastApart_n9 S acc.1 acc.2 (((J a S).length : Nat) : Int) i (((J b S).length : Nat) : Int) k b (gJ (J a S) i).1 (gJ (J a S) i).2 (J a S) (J b S) = _
      have h1 := ra _ (getD_mem' (d := ((0, 0) : Int × Int)) hi)
      have h2 := rb _ (getD_mem' (d := ((0, 0) : Int × Int)) hk)
      unfold f_iLeastApart_n9
      rw [lt_true hk, inB_nat hk, toNat_nat, ap_i h1 h2, succ64 (by omega)]
      obtain ⟨l, f⟩ := acc
      unfold mI
      cases f
      · rfl
      · cases decide (ap (gJ (J a S) i) (gJ (J b S) k) < l) <;> rfl
    · show f_iLeastApart_n9 S _ _ (((J a S).length : Nat) : Int) i (((J b S).length : Nat) : Int) ((J b S).length : Nat) b (gJ (J a S) i).1 (gJ (J a S) i).2 (J a S) (J b S) = _
      unfold f_iLeastApart_n9
      rw [lt_neg, cond_false, succ64 (by omega)]
  unfold f_iLeastApart_run6
  refine run_count (step := fun x => f_iLeastApart_n6 x.1 x.2.1 x.2.2.1 x.2.2.2.1 x.2.2.2.2.1 x.2.2.2.2.2.1 x.2.2.2.2.2.2) (J a S).length (fun i (acc : Int × Bool) => (S, acc.1, acc.2, (((J a S).length : Nat) : Int), (i : Int), b, J a S)) (fun acc i => (List.range' 0 (J b S).length).foldl (fun acc k => mI acc (ap (gJ (J a S) i) (gJ (J b S) k))) acc) _ (0, false) (by omega) ?_ ?_
  · intro i acc hi
    show f_iLeastApart_n6 S acc.1 acc.2 (((J a S).length : Nat) : Int) i b (J a S) = _
    unfold f_iLeastApart_n6
    rw [lt_true hi, inB_nat hi, toNat_nat, J_i hb hS]
    exact inner i acc hi
  · rw [V_idx mI]
    show f_iLeastApart_n6 S ((V (J a S) (J b S)).foldl mI (0, false)).1 ((V (J a S) (J b S)).foldl mI (0, false)).2 (((J a S).length : Nat) : Int) ((J a S).length : Nat) b (J a S) = _
    unfold f_iLeastApart_n6
    rw [lt_neg, cond_false]
    cases hV : V (J a S) (J b S) with
    | nil => rfl
    | cons v vs =>
      rw [List.foldl_cons, show mI (0, false) v = (v, true) from rfl, mI_fold]
      rfl
theorem least_s {a b : List Int} {S : Int} (ha : OKR a) (hb : OKR b) (hS : 0 ≤ S ∧ S ≤ 200) : s_sLeastApart a b S = some (leastV (V (J a S) (J b S))) := by
  obtain ⟨la, ra⟩ := J_facts ha hS
  obtain ⟨lb, rb⟩ := J_facts hb hS
  have h1 := ha.l
  have h2 := hb.l
  have hseam : s_sl05Seam S = true := seam_ok hS
  unfold s_sLeastApart s_sl05Both
  rw [sok_ok ha, sok_ok hb, hseam, J_s ha hS, J_s hb hS]
  simp only [Option.bind, Bool.not_true, cond_false, show ((0 : Int) != 0) = false from rfl]
  cases hja : J a S with
  | nil => rfl
  | cons x xs =>
    cases hjb : J b S with
    | nil =>
      have : V (x :: xs) [] = [] := by unfold V; simp
      rw [this]; rfl
    | cons y ys =>
      rw [← hja, ← hjb]
      have hna : 0 < (J a S).length := by rw [hja]; simp
      have hnb : 0 < (J b S).length := by rw [hjb]; simp
      have e0 : ∀ n : Nat, 0 < n → (((n : Nat) : Int) == 0) = false := fun n hn => by
        apply Bool.eq_false_iff.2; intro h; rw [beq_iff_eq] at h; omega
      have hx := ra _ (getD_mem' (d := ((0, 0) : Int × Int)) hna)
      have hy := rb _ (getD_mem' (d := ((0, 0) : Int × Int)) hnb)
      rw [e0 _ hna, e0 _ hnb, show inB 0 (J a S).length = true from inB_nat (i := 0) hna, show inB 0 (J b S).length = true from inB_nat (i := 0) hnb, ap_s hx hy]
      simp only [cond_false, cond_true]
      have inner : ∀ (i : Nat) (l : Int), i < (J a S).length → f_sLeastApart_run13 (l, (i : Int), 0, J a S, J b S) =
          some (.inl ((List.range' 0 (J b S).length).foldl (fun l k => min l (ap (gJ (J a S) i) (gJ (J b S) k))) l, ((i + 1 : Nat) : Int), J a S, J b S)) := by
        intro i l hi
        unfold f_sLeastApart_run13
        refine run_count (step := fun x => f_sLeastApart_n13 x.1 x.2.1 x.2.2.1 x.2.2.2.1 x.2.2.2.2) (J b S).length (fun k (l : Int) => (l, (i : Int), (k : Int), J a S, J b S)) (fun l k => min l (ap (gJ (J a S) i) (gJ (J b S) k))) _ l (by omega) ?_ ?_
        · intro k l hk
          show f_sLeastApart_n13 l i k (J a S) (J b S) = _
          have h1 := ra _ (getD_mem' (d := ((0, 0) : Int × Int)) hi)
          have h2 := rb _ (getD_mem' (d := ((0, 0) : Int × Int)) hk)
          unfold f_sLeastApart_n13
          rw [lt_true hk, inB_nat hk, inB_nat hi, toNat_nat, toNat_nat, ap_s h1 h2, min_if, succ64 (by omega)]
          rfl
        · show f_sLeastApart_n13 _ i ((J b S).length : Nat) (J a S) (J b S) = _
          unfold f_sLeastApart_n13
          rw [lt_neg, cond_false, succ64 (by omega)]
      unfold f_sLeastApart_run10
      refine run_count (step := fun x => f_sLeastApart_n10 x.1 x.2.1 x.2.2.1 x.2.2.2) (J a S).length (fun i (l : Int) => (l, (i : Int), J a S, J b S)) (fun l i => (List.range' 0 (J b S).length).foldl (fun l k => min l (ap (gJ (J a S) i) (gJ (J b S) k))) l) _ _ (by omega) ?_ ?_
      · intro i l hi
        show f_sLeastApart_n10 l i (J a S) (J b S) = _
        unfold f_sLeastApart_n10
        rw [lt_true hi]
        exact inner i l hi
      · rw [V_idx min]
        show f_sLeastApart_n10 ((V (J a S) (J b S)).foldl min (ap (gJ (J a S) 0) (gJ (J b S) 0))) ((J a S).length : Nat) (J a S) (J b S) = _
        unfold f_sLeastApart_n10
        rw [lt_neg, cond_false]
        have eV : V (J a S) (J b S) = ap (gJ (J a S) 0) (gJ (J b S) 0) :: (V (J a S) (J b S)).tail := by
          rw [hja, hjb]; unfold V; simp
        rw [eV]
        show some (Sum.inr ((List.foldl min (min _ _) _), (0 : Int))) = _
        rw [Int.min_self]
        rfl
/-- Whether something clashes, by the least distance. -/
theorem least_any {ja jb : List JT} (near : Int) : anyClash ja jb near = (((leastV (V ja jb)).2 == 0) && decide ((leastV (V ja jb)).1 < near)) := by
  have hV : anyClash ja jb near = (V ja jb).any fun v => decide (v < near) := by
    unfold anyClash V
    rw [List.any_flatMap]
    congr 1
    funext x
    rw [List.any_map]; rfl
  rw [hV]
  cases hv : V ja jb with
  | nil => rfl
  | cons v vs =>
    apply Bool.eq_iff_iff.2
    show _ ↔ ((0 : Int) == 0 && decide (vs.foldl min v < near)) = true
    rw [Bool.and_eq_true, decide_eq_true_eq, least_lt, List.any_eq_true]
    constructor
    · rintro ⟨u, hu, h⟩
      rw [decide_eq_true_eq] at h
      refine ⟨rfl, ?_⟩
      rcases List.mem_cons.1 hu with rfl | hu
      · exact .inl h
      · exact .inr ⟨u, hu, h⟩
    · rintro ⟨_, h | ⟨u, hu, h⟩⟩
      · exact ⟨v, by simp, by rwa [decide_eq_true_eq]⟩
      · exact ⟨u, by simp [hu], by rwa [decide_eq_true_eq]⟩
theorem least_ok {a b : List Int} {S : Int} (ha : OKR a) (hb : OKR b) (hS : 0 ≤ S ∧ S ≤ 200) : ((leastV (V (J a S) (J b S))).2 == 0) = (decide (((a.length : Nat) : Int) > 1) && decide (((b.length : Nat) : Int) > 1)) := by
  obtain ⟨la, ra⟩ := J_facts ha hS
  obtain ⟨lb, rb⟩ := J_facts hb hS
  cases hja : J a S with
  | nil =>
    rw [hja] at la
    simp at la
    rw [decide_eq_false (show ¬ ((a.length : Nat) : Int) > 1 by omega)]; rfl
  | cons x xs =>
    rw [hja] at la
    simp at la
    rw [decide_eq_true (show ((a.length : Nat) : Int) > 1 by omega), Bool.true_and]
    cases hjb : J b S with
    | nil =>
      rw [hjb] at lb
      simp at lb
      have : V (x :: xs) [] = [] := by unfold V; simp
      rw [this, decide_eq_false (show ¬ ((b.length : Nat) : Int) > 1 by omega)]; rfl
    | cons y ys =>
      rw [hjb] at lb
      simp at lb
      rw [decide_eq_true (show ((b.length : Nat) : Int) > 1 by omega)]
      have : V (x :: xs) (y :: ys) = ap x y :: (V (x :: xs) (y :: ys)).tail := by unfold V; simp
      rw [this]; rfl
end Go.RR
