/- The plain law of VoteOf. -/
import Derived.Test.YtkohnhkehedflaaWm
set_option linter.unusedVariables false
set_option linter.unusedSimpArgs false
namespace Go.RR
open Go

noncomputable def cntStep (cnt : Nat → Int) (c : Int) : Nat → Int := upd cnt c.toNat (IntKind.wrap .i64 (cnt c.toNat + 1))
noncomputable def bestStep (a : Nat → Int) (st : Int) (i : Nat) : Int := cond (decide (a i > 0)) (cond (st == 0) (i : Int) (cond (decide (a i > a st.toNat)) (i : Int) st)) st
noncomputable def mostB (a : Nat → Int) : Int := IntKind.wrap .u8 ((List.range' 1 15).foldl (bestStep a) 0)
theorem lt16 {i : Nat} (h : i < 16) : decide ((i : Int) < 16) = true := lt_true (n := 16) h
theorem bestStep_range {a : Nat → Int} {st : Int} {i : Nat} (h : 0 ≤ st ∧ st < 16) (hi : i < 16) : 0 ≤ bestStep a st i ∧ bestStep a st i < 16 := by
  have q : 0 ≤ (i : Int) ∧ (i : Int) < 16 := by omega
  unfold bestStep
  cases decide (a i > 0)
  · exact h
  · cases st == 0
    · cases decide (a i > a st.toNat)
      · exact h
      · exact q
    · exact q
theorem most_eq (a : Nat → Int) : s_sl06Most a = some (mostB a) := by
  unfold s_sl06Most f_sl06Most_run3
  refine iter_countI (fun x => f_sl06Most_n3 x.1 x.2.1 x.2.2) 16 (fun i (st : Int) => (st, (i : Int), a)) (bestStep a) (fun _ st => 0 ≤ st ∧ st < 16) _ ?_ 15 1 FU (by omega) (FU_big (pow_big (by omega))) 0 (by omega) ?_
  · intro i st hi hI
    refine ⟨?_, bestStep_range hI hi⟩
    show f_sl06Most_n3 st i a = _
    unfold f_sl06Most_n3 bestStep
    rw [lt16 hi, inB_nat hi, toNat_nat, inB_of (x := st) (n := 16) (by omega), succ64 (by omega)]
    simp only [cond_true]
    cases decide (a i > 0)
    · rfl
    · cases st == 0
      · cases decide (a i > a st.toNat) <;> rfl
      · rfl
  · intro _
    show f_sl06Most_n3 _ (16 : Nat) a = _
    unfold f_sl06Most_n3
    rfl
theorem imost_eq {l : List Int} (hn : l.length ≤ 12) (hb : ∀ x ∈ l, 0 ≤ x ∧ x < 16) : s_imost l = some (mostB (l.foldl cntStep zF)) := by
  unfold s_imost f_imost_run3
  refine run_list (0 : Int) l (fun i (cnt : Nat → Int) => (0, ((l.length : Nat) : Int), (i : Int), cnt, l)) cntStep _ zF (by omega) ?_ ?_
  · intro i cnt hi hm
    have hx := hb _ hm
    show f_imost_n3 0 (l.length : Nat) i cnt l = _
    unfold f_imost_n3 cntStep
    rw [lt_true hi, inB_nat hi, toNat_nat, inB_of (x := l.getD i 0) (n := 16) (by omega), succ64 (by omega)]
    rfl
  · show f_imost_n3 0 (l.length : Nat) (l.length : Nat) (l.foldl cntStep zF) l = _
    unfold f_imost_n3
    rw [lt_neg, cond_false]
    have e : f_imost_run8 (0, 1, l.foldl cntStep zF) = s_sl06Most (l.foldl cntStep zF) := rfl
    rw [e, most_eq]
    rfl
noncomputable def colsAt (l : List Pic) (k : Nat) : List Int := l.map fun p => p.2.2 k
noncomputable def voteAt (l : List Pic) (k : Nat) : Int := mostB ((colsAt l k).foldl cntStep zF)
theorem cols_get {l : List Pic} {k i : Nat} (h : i < l.length) : (colsAt l k)[i]? = some ((l.getD i pd).2.2 k) := by
  unfold colsAt
  rw [List.getElem?_map, List.getD_eq_getElem?_getD, List.getElem?_eq_getElem h]; rfl
theorem sInner {l : List Pic} {w h : Int} {o : Nat → Int} {k : Nat} (hk : k < 144) (hn : l.length ≤ 12) (hb : ∀ x ∈ l, 0 ≤ x.2.2 k ∧ x.2.2 k < 16) : f_sVoteOf_run12 ((k : Int), 0, l, 0, 0, zF, w, h, o, zF) = some (Sum.inl (((k + 1 : Nat) : Int), l, 0, 0, zF, w, h, upd o k (voteAt l k))) := by
  unfold f_sVoteOf_run12
  refine run_list pd l (fun i (cnt : Nat → Int) => ((k : Int), (i : Int), l, 0, 0, zF, w, h, o, cnt)) (fun cnt p => cntStep cnt (p.2.2 k)) _ zF (by omega) ?_ ?_
  · intro i cnt hi hm
    have hx := hb _ hm
    show f_sVoteOf_n12 k i l 0 0 zF w h o cnt = _
    unfold f_sVoteOf_n12 cntStep
    rw [lt_true hi, inB_nat hi, inB_nat hk, toNat_nat, toNat_nat, inB_of (x := (l.getD i pd).2.2 k) (n := 16) (by omega), succ64 (by omega)]
    rfl
  · have e : l.foldl (fun cnt (p : Pic) => cntStep cnt (p.2.2 k)) zF = (colsAt l k).foldl cntStep zF := by
      unfold colsAt
      rw [List.foldl_map]
    rw [e]
    show f_sVoteOf_n12 k (l.length : Nat) l 0 0 zF w h o _ = _
    unfold f_sVoteOf_n12
    rw [lt_neg, cond_false, most_eq, inB_nat hk, toNat_nat, succ64 (by omega)]
    rfl
theorem iInner {l : List Pic} {w h : Int} {o : Nat → Int} {m : Int} {n k : Nat} {ns : List Int} (hnn : n ≤ 1000) (hk : k < 144) (hn : l.length ≤ 12) (hb : ∀ x ∈ l, 0 ≤ x.2.2 k ∧ x.2.2 k < 16) : f_iVoteOf_run12 ((k : Int), m, (n : Int), ((l.length : Nat) : Int), 0, l, 0, 0, zF, w, h, o, [], ns) = some (Sum.inl (m, ((n + 1 : Nat) : Int), l, 0, 0, zF, w, h, upd o k (voteAt l k), ns)) := by
  unfold f_iVoteOf_run12
  have key := run_count (step := fun x => f_iVoteOf_n12 x.1 x.2.1 x.2.2.1 x.2.2.2.1 x.2.2.2.2.1 x.2.2.2.2.2.1 x.2.2.2.2.2.2.1 x.2.2.2.2.2.2.2.1 x.2.2.2.2.2.2.2.2.1 x.2.2.2.2.2.2.2.2.2.1 x.2.2.2.2.2.2.2.2.2.2.1 x.2.2.2.2.2.2.2.2.2.2.2.1 x.2.2.2.2.2.2.2.2.2.2.2.2.1 x.2.2.2.2.2.2.2.2.2.2.2.2.2) (τ := Unit) l.length (fun i _ => ((k : Int), m, (n : Int), ((l.length : Nat) : Int), (i : Int), l, 0, 0, zF, w, h, o, (colsAt l k).take i, ns)) (fun _ _ => ()) (Sum.inl (m, ((n + 1 : Nat) : Int), l, 0, 0, zF, w, h, upd o k (voteAt l k), ns)) () (by omega) ?_ ?_
  · exact key
  · intro i _ hi
    show f_iVoteOf_n12 k m n (l.length : Nat) i l 0 0 zF w h o ((colsAt l k).take i) ns = _
    unfold f_iVoteOf_n12
    have hlen : ((colsAt l k).take i).length ≤ 12 := by simp [colsAt]; omega
    rw [lt_true hi, inB_nat hi, inB_nat hk, toNat_nat, toNat_nat, fits_small (by simp only [List.length_cons, List.length_nil]; omega), succ64 (i := i) (by omega)]
    simp only [cond_true]
    rw [List.take_add_one, cols_get hi]
    rfl
  · show f_iVoteOf_n12 k m n (l.length : Nat) (l.length : Nat) l 0 0 zF w h o ((colsAt l k).take l.length) ns = _
    have hc : (colsAt l k).take l.length = colsAt l k := List.take_of_length_le (by simp [colsAt])
    have hm : s_imost (colsAt l k) = some (voteAt l k) := imost_eq (by simp [colsAt]; omega) fun x hx => by
      obtain ⟨p, hp, rfl⟩ := List.mem_map.1 hx
      exact hb p hp
    unfold f_iVoteOf_n12
    rw [lt_neg, cond_false, hc, hm, inB_nat hk, toNat_nat, succ64 (by omega)]
    rfl
noncomputable def putS (l : List Pic) (o : Nat → Int) (k : Nat) : Nat → Int := upd o k (voteAt l k)
theorem put_cells {l : List Pic} (ks : List Nat) (o : Nat → Int) : ks.foldl (putS l) o = cellsF zF (voteAt l) ks o := by
  unfold cellsF
  exact foldl_ext' _ _ fun k _ o => rfl
theorem sVote_run {l : List Pic} {w h : Int} (hn : l.length ≤ 12) (hb : ∀ x ∈ l, ∀ k, k < 144 → 0 ≤ x.2.2 k ∧ x.2.2 k < 16) : f_sVoteOf_run8 (0, l, 0, 0, zF, w, h, zF) = some (w, h, cellsF zF (voteAt l) (List.range' 0 144) zF, 0) := by
  unfold f_sVoteOf_run8
  refine run_count 144 (fun k (o : Nat → Int) => ((k : Int), l, 0, 0, zF, w, h, o)) (putS l) _ zF (by decide) ?_ ?_
  · intro k o hk
    show f_sVoteOf_n8 k l 0 0 zF w h o = _
    unfold f_sVoteOf_n8
    rw [lt144 hk, cond_true, sInner hk hn (fun x hx => hb x hx k hk)]
    rfl
  · rw [put_cells]
    unfold f_sVoteOf_n8
    rw [end144, cond_false]
theorem iVote_run {l : List Pic} {w h : Int} (hn : l.length ≤ 12) (hb : ∀ x ∈ l, ∀ k, k < 144 → 0 ≤ x.2.2 k ∧ x.2.2 k < 16) : f_iVoteOf_run8 ((((nums w h).length : Nat) : Int), 0, l, 0, 0, zF, w, h, zF, nums w h) = some (w, h, cellsF zF (voteAt l) (cellsOf w h) zF, 0) := by
  unfold f_iVoteOf_run8
  refine run_list (0 : Int) (nums w h) (fun i (o : Nat → Int) => ((((nums w h).length : Nat) : Int), (i : Int), l, 0, 0, zF, w, h, o, nums w h)) (fun o x => putS l o x.toNat) _ zF (Nat.le_trans (nums_len w h) (by decide)) ?_ ?_
  · intro i o hi hm
    have hl := nums_len w h
    show f_iVoteOf_n8 (((nums w h).length : Nat) : Int) i l 0 0 zF w h o (nums w h) = _
    unfold f_iVoteOf_n8
    obtain ⟨k, _, hk, ek⟩ := mem_nums hm
    rw [lt_true hi, inB_nat hi, toNat_nat, ek, cond_true, cond_true, iInner (by omega) hk hn (fun x hx => hb x hx k hk), toNat_nat]
    rfl
  · have e : (nums w h).foldl (fun (o : Nat → Int) (x : Int) => putS l o x.toNat) zF = cellsF zF (voteAt l) (cellsOf w h) zF := by
      unfold nums
      rw [List.foldl_map]
      exact put_cells (cellsOf w h) zF
    rw [e]
    show f_iVoteOf_n8 (((nums w h).length : Nat) : Int) (((nums w h).length : Nat) : Int) l 0 0 zF w h _ (nums w h) = _
    unfold f_iVoteOf_n8
    rw [lt_neg, cond_false]
theorem cnt_zero : ∀ (cs : List Int) (cnt : Nat → Int), (∀ c ∈ cs, c = 0) → ∀ i, i ≠ 0 → (cs.foldl cntStep cnt) i = cnt i
  | [], cnt, h, i, hi => rfl
  | c :: cs, cnt, h, i, hi => by
    rw [List.foldl_cons, cnt_zero cs _ (fun x hx => h x (by simp [hx])) i hi, h c (by simp)]
    unfold cntStep upd
    rw [show Int.toNat 0 = 0 from rfl, beqF hi]
    rfl
theorem most_zero {a : Nat → Int} (h : ∀ i, i ≠ 0 → a i = 0) : mostB a = 0 := by
  unfold mostB
  have : ∀ ks : List Nat, (∀ k ∈ ks, k ≠ 0) → ks.foldl (bestStep a) 0 = 0 := by
    intro ks
    induction ks with
    | nil => intro _; rfl
    | cons k ks ih =>
      intro hk
      have e : bestStep a 0 k = 0 := by
        unfold bestStep
        rw [h k (hk k (by simp))]
        rfl
      rw [List.foldl_cons, e]
      exact ih fun x hx => hk x (by simp [hx])
  rw [this _ fun k hk => by have := List.mem_range'_1.1 hk; omega]
  rfl
end Go.RR
