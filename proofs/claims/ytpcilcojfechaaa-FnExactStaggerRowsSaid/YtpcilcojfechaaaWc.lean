/- Plain laws of rows: joints, clashes, the least distance. -/
import Derived.Test.YtpcilcojfechaaaWb
set_option linter.unusedVariables false
set_option linter.unusedSimpArgs false
namespace Go.RR
open Go

structure OKR (r : List Int) : Prop where
  w : OKW r
  p : 1 ≤ r.length
  l : r.length ≤ 60
abbrev JT := Int × Int
def jst (r : List Int) (S : Int) (st : Int × List JT) (i : Nat) : Int × List JT := (st.1 + r.getD i 0 + S, st.2 ++ [(st.1 + r.getD i 0, st.1 + r.getD i 0 + S)])
def J (r : List Int) (S : Int) : List JT := ((List.range' 0 (r.length - 1)).foldl (jst r S) (0, [])).2
def InJ (p : JT) : Prop := (0 ≤ p.1 ∧ p.1 ≤ 24000) ∧ 0 ≤ p.2 ∧ p.2 ≤ 24000
def JI (i : Nat) (st : Int × List JT) : Prop := (0 ≤ st.1 ∧ st.1 ≤ 400 * i) ∧ st.2.length = i ∧ ∀ p ∈ st.2, InJ p
theorem JI_step {r : List Int} {S : Int} (h : OKR r) (hS : 0 ≤ S ∧ S ≤ 200) {i : Nat} {st : Int × List JT} (hi : i < r.length - 1) (hI : JI i st) : JI (i + 1) (jst r S st i) := by
  have hx := h.w _ (getD_mem' (d := 0) (show i < r.length by omega))
  have hl := h.l
  obtain ⟨h1, h2, h3⟩ := hI
  refine ⟨by unfold jst; dsimp only; omega, by unfold jst; simp [h2], fun p hp => ?_⟩
  unfold jst at hp
  rcases List.mem_append.1 hp with hp | hp
  · exact h3 p hp
  · simp only [List.mem_singleton] at hp
    subst hp
    unfold InJ
    dsimp only
    omega
theorem J_i {r : List Int} {S : Int} (h : OKR r) (hS : 0 ≤ S ∧ S ≤ 200) : s_iRow_joints r S = some (J r S) := by
  have hp := h.p
  have hl := h.l
  have hlen : (List.take (r.length - 1) r).length = r.length - 1 := by rw [List.length_take]; omega
  unfold s_iRow_joints t_iRow_joints
  try dsimp (config := {proj := false, iota := false, eta := false}) only
  rw [len_ix (by omega) (by omega), toNat_nat, List.drop_zero, hlen]
  have hin : inS 0 ((r.length - 1 : Nat) : Int) r.length = true := by
    unfold inS
    rw [decide_eq_true (show (0 : Int) ≤ 0 by omega), decide_eq_true (show (0 : Int) ≤ ((r.length - 1 : Nat) : Int) by omega), decide_eq_true (show ((r.length - 1 : Nat) : Int) ≤ (r.length : Int) by omega)]; rfl
  rw [hin, cond_true]
  unfold f_iRow_joints_run3
  refine run_countI (step := fun x => f_iRow_joints_n3 x.1 x.2.1 x.2.2.1 x.2.2.2.1 x.2.2.2.2.1 x.2.2.2.2.2) (r.length - 1) (fun i (st : Int × List JT) => (S, st.1, ((r.length - 1 : Nat) : Int), (i : Int), st.2, List.take (r.length - 1) r)) (jst r S) JI _ (0, []) (by omega) ⟨by omega, rfl, fun p hp => nomatch hp⟩ ?_ ?_
  · intro i st hi hI
    refine ⟨?_, JI_step h hS hi hI⟩
    show f_iRow_joints_n3 S st.1 ((r.length - 1 : Nat) : Int) i st.2 (List.take (r.length - 1) r) = _
    have hx := h.w _ (getD_mem' (d := 0) (show i < r.length by omega))
    have hg : (List.take (r.length - 1) r).getD i 0 = r.getD i 0 := by
      rw [List.getD_eq_getElem?_getD, List.getD_eq_getElem?_getD, List.getElem?_take_of_lt hi]
    obtain ⟨h1, h2, h3⟩ := hI
    unfold f_iRow_joints_n3 t_iRow_joints_3
    try dsimp (config := {proj := false, iota := false, eta := false}) only
    rw [lt_true hi, inB_nat (by rw [hlen]; exact hi), toNat_nat, hg, IntWalk.i64_in (r.getD i 0) (by omega), IntWalk.i64_in (st.1 + r.getD i 0) (by omega), IntWalk.i64_in (st.1 + r.getD i 0 + S) (by omega), IntWalk.i16_in (st.1 + r.getD i 0) (by omega), IntWalk.i16_in (st.1 + r.getD i 0 + S) (by omega), fits_small (by simp [h2]; omega), succ64 (by omega)]
    rfl
  · intro hI
    show f_iRow_joints_n3 _ _ ((r.length - 1 : Nat) : Int) ((r.length - 1 : Nat) : Int) _ _ = _
    unfold f_iRow_joints_n3 t_iRow_joints_3
    try dsimp (config := {proj := false, iota := false, eta := false}) only
    rw [lt_neg, cond_false]
    rfl
theorem J_s {r : List Int} {S : Int} (h : OKR r) (hS : 0 ≤ S ∧ S ≤ 200) : s_sl05Joints r S = some (J r S) := by
  have hp := h.p
  have hl := h.l
  unfold s_sl05Joints f_sl05Joints_run4
  refine run_countI (step := fun x => f_sl05Joints_n4 x.1 x.2.1 x.2.2.1 x.2.2.2.1 x.2.2.2.2) (r.length - 1) (fun i (st : Int × List JT) => (S, st.1, (i : Int), r, st.2)) (jst r S) JI _ (0, []) (by omega) ⟨by omega, rfl, fun p hp => nomatch hp⟩ ?_ ?_
  · intro i st hi hI
    refine ⟨?_, JI_step h hS hi hI⟩
    show f_sl05Joints_n4 S st.1 i r st.2 = _
    have hx := h.w _ (getD_mem' (d := 0) (show i < r.length by omega))
    obtain ⟨h1, h2, h3⟩ := hI
    unfold f_sl05Joints_n4
    rw [succ64 (by omega), lt_true (show i + 1 < r.length by omega), inB_nat (show i < r.length by omega), toNat_nat, IntWalk.i64_in (r.getD i 0) (by omega), IntWalk.i64_in (st.1 + r.getD i 0) (by omega), IntWalk.i64_in (st.1 + r.getD i 0 + S) (by omega), IntWalk.i16_in (st.1 + r.getD i 0) (by omega), IntWalk.i16_in (st.1 + r.getD i 0 + S) (by omega), fits_small (by simp [h2]; omega)]
    rfl
  · intro hI
    show f_sl05Joints_n4 _ _ ((r.length - 1 : Nat) : Int) _ _ = _
    unfold f_sl05Joints_n4
    rw [succ64 (by omega), show r.length - 1 + 1 = r.length by omega, lt_neg, cond_false]
    rfl
theorem J_facts {r : List Int} {S : Int} (h : OKR r) (hS : 0 ≤ S ∧ S ≤ 200) : (J r S).length = r.length - 1 ∧ ∀ p ∈ J r S, InJ p := by
  have : ∀ (k i : Nat) st, i + k ≤ r.length - 1 → JI i st → JI (i + k) ((List.range' i k).foldl (jst r S) st) := by
    intro k
    induction k with
    | zero => intro i st _ hI; exact hI
    | succ k ih =>
      intro i st hk hI
      rw [List.range'_succ, List.foldl_cons]
      have := ih (i + 1) _ (by omega) (JI_step h hS (by omega) hI)
      rw [show i + (k + 1) = i + 1 + k by omega]; exact this
  obtain ⟨_, h2, h3⟩ := this (r.length - 1) 0 (0, []) (by omega) ⟨by omega, rfl, fun p hp => nomatch hp⟩
  rw [Nat.zero_add] at h2
  exact ⟨h2, h3⟩

/-! ### Distances -/
def ap (x y : JT) : Int := max x.1 y.1 - min x.2 y.2
theorem ap_i {x y : JT} (hx : InJ x) (hy : InJ y) : s_iapartOf x.1 x.2 y.1 y.2 = ap x y := by
  obtain ⟨h1, h2⟩ := hx
  obtain ⟨h3, h4⟩ := hy
  unfold s_iapartOf ap
  rw [IntWalk.i64_in (max x.1 y.1) (by omega), IntWalk.i64_in (min x.2 y.2) (by omega), IntWalk.i64_in _ (by omega)]
theorem max_if (a b : Int) : s_sl00Max a b = max a b := by
  unfold s_sl00Max
  by_cases h : a > b
  · rw [decide_eq_true h, cond_true]; omega
  · rw [decide_eq_false h, cond_false]; omega
theorem min_if (a b : Int) : s_sl00Min a b = min a b := by
  unfold s_sl00Min
  by_cases h : a < b
  · rw [decide_eq_true h, cond_true]; omega
  · rw [decide_eq_false h, cond_false]; omega
theorem ap_s {x y : JT} (hx : InJ x) (hy : InJ y) : s_sl05Apart x.1 x.2 y.1 y.2 = ap x y := by
  obtain ⟨h1, h2⟩ := hx
  obtain ⟨h3, h4⟩ := hy
  unfold s_sl05Apart ap
  rw [IntWalk.i64_in x.1 (by omega), IntWalk.i64_in y.1 (by omega), IntWalk.i64_in x.2 (by omega), IntWalk.i64_in y.2 (by omega), max_if, min_if, IntWalk.i64_in _ (by omega)]
/-! ### Clashes -/
abbrev gJ (l : List JT) (i : Nat) : JT := l.getD i ((0, 0) : Int × Int)
noncomputable def pr (i k : Nat) : Nat → Int := upd (upd zF 0 (i : Int)) 1 (k : Int)
noncomputable def CLi (ja jb : List JT) (near : Int) (i : Nat) : List (Nat → Int) := ((List.range' 0 jb.length).filter fun k => decide (ap (gJ ja i) (gJ jb k) < near)).map (pr i)
noncomputable def CLs (ja jb : List JT) (near : Int) : List (Nat → Int) := (List.range' 0 ja.length).flatMap (CLi ja jb near)
theorem foldl_filt {α : Type} (p : Nat → Bool) (f : Nat → α) : ∀ (l : List Nat) (s : List α), l.foldl (fun o k => cond (p k) (o ++ [f k]) o) s = s ++ (l.filter p).map f
  | [], s => by simp
  | k :: l, s => by
    rw [List.foldl_cons, foldl_filt p f l, List.filter_cons]
    cases p k <;> simp
theorem foldl_flat {α : Type} (g : Nat → List α) : ∀ (l : List Nat) (s : List α), l.foldl (fun o i => o ++ g i) s = s ++ l.flatMap g
  | [], s => by simp
  | k :: l, s => by rw [List.foldl_cons, foldl_flat g l]; simp
theorem CLi_len (ja jb : List JT) (near : Int) (i : Nat) : (CLi ja jb near i).length ≤ jb.length := by
  unfold CLi
  rw [List.length_map]
  exact Nat.le_trans (List.length_filter_le _ _) (by simp)
theorem in_i {ja jb : List JT} {near : Int} (hj : ∀ p ∈ ja, InJ p) (hk : ∀ p ∈ jb, InJ p) (hb : jb.length ≤ 100) {i n : Nat} (hi : i < ja.length) (hn : i < 100) {out : List (Nat → Int)} (ho : out.length ≤ 100000) :
    f_iclashes_run6 (near, (i : Int), (n : Int), (i : Int), ((jb.length : Nat) : Int), 0, out, jb, (gJ ja i).1, (gJ ja i).2, ja) = some (.inl (near, (n : Int), ((i + 1 : Nat) : Int), out ++ CLi ja jb near i, jb, ja)) := by
  unfold f_iclashes_run6
  refine run_countI (step := fun x => f_iclashes_n6 x.1 x.2.1 x.2.2.1 x.2.2.2.1 x.2.2.2.2.1 x.2.2.2.2.2.1 x.2.2.2.2.2.2.1 x.2.2.2.2.2.2.2.1 x.2.2.2.2.2.2.2.2.1 x.2.2.2.2.2.2.2.2.2.1 x.2.2.2.2.2.2.2.2.2.2) jb.length (fun k (o : List (Nat → Int)) => (near, (i : Int), (n : Int), (i : Int), ((jb.length : Nat) : Int), (k : Int), o, jb, (gJ ja i).1, (gJ ja i).2, ja)) (fun o k => cond (decide (ap (gJ ja i) (gJ jb k) < near)) (o ++ [pr i k]) o) (fun k o => o.length ≤ out.length + k) _ out (by omega) (Nat.le_refl _) ?_ ?_
  · intro k o hkl ho2
    constructor
    · show f_iclashes_n6 near i n i ((jb.length : Nat) : Int) k o jb (gJ ja i).1 (gJ ja i).2 ja = _
      unfold f_iclashes_n6
      have h1 := hj _ (getD_mem' (d := ((0, 0) : Int × Int)) hi)
      have h2 := hk _ (getD_mem' (d := ((0, 0) : Int × Int)) hkl)
      rw [lt_true hkl, inB_nat hkl, toNat_nat, ap_i h1 h2, succ64 (by omega), fits_small (by simp; omega)]
      simp only [cond_true]
      cases decide (ap (gJ ja i) (gJ jb k) < near) <;> rfl
    · cases decide (ap (gJ ja i) (gJ jb k) < near)
      · show o.length ≤ _; omega
      · show (o ++ [_]).length ≤ _; simp; omega
  · intro _
    rw [foldl_filt]
    show f_iclashes_n6 near i n i ((jb.length : Nat) : Int) (jb.length : Nat) (out ++ CLi ja jb near i) jb (gJ ja i).1 (gJ ja i).2 ja = _
    unfold f_iclashes_n6
    rw [lt_neg, cond_false, succ64 (by omega)]
theorem cl_i {a b : List Int} {S near : Int} (ha : OKR a) (hb : OKR b) (hS : 0 ≤ S ∧ S ≤ 200) : s_iclashes a b S near = some (CLs (J a S) (J b S) near) := by
  obtain ⟨la, ra⟩ := J_facts ha hS
  obtain ⟨lb, rb⟩ := J_facts hb hS
  have h1 := ha.l
  have h2 := hb.l
  unfold s_iclashes
  rw [J_i ha hS, J_i hb hS]
  simp only [Option.bind]
  unfold f_iclashes_run3
  refine run_countI (step := fun x => f_iclashes_n3 x.1 x.2.1 x.2.2.1 x.2.2.2.1 x.2.2.2.2.1 x.2.2.2.2.2) (J a S).length (fun i (o : List (Nat → Int)) => (near, (((J a S).length : Nat) : Int), (i : Int), o, J b S, J a S)) (fun o i => o ++ CLi (J a S) (J b S) near i) (fun i o => o.length ≤ 60 * i) _ [] (by omega) (Nat.le_refl _) ?_ ?_
  · intro i o hi ho
    constructor
    · show f_iclashes_n3 near (((J a S).length : Nat) : Int) i o (J b S) (J a S) = _
      unfold f_iclashes_n3
      rw [lt_true hi, inB_nat hi, toNat_nat]
      exact in_i ra rb (by omega) hi (by omega) (by omega)
    · have := CLi_len (J a S) (J b S) near i
      show (o ++ _).length ≤ _
      rw [List.length_append]; omega
  · intro _
    rw [foldl_flat, List.nil_append]
    show f_iclashes_n3 near (((J a S).length : Nat) : Int) ((J a S).length : Nat) (CLs (J a S) (J b S) near) (J b S) (J a S) = _
    unfold f_iclashes_n3
    rw [lt_neg, cond_false]
theorem in_s {ja jb : List JT} {near : Int} (hj : ∀ p ∈ ja, InJ p) (hk : ∀ p ∈ jb, InJ p) (hb : jb.length ≤ 100) {i : Nat} (hi : i < ja.length) (hn : i < 100) {out : List (Nat → Int)} (ho : out.length ≤ 100000) :
    f_sl05Clashes_run8 (near, (i : Int), 0, ja, jb, out) = some (.inl (near, ((i + 1 : Nat) : Int), ja, jb, out ++ CLi ja jb near i)) := by
  unfold f_sl05Clashes_run8
  refine run_countI (step := fun x => f_sl05Clashes_n8 x.1 x.2.1 x.2.2.1 x.2.2.2.1 x.2.2.2.2.1 x.2.2.2.2.2) jb.length (fun k (o : List (Nat → Int)) => (near, (i : Int), (k : Int), ja, jb, o)) (fun o k => cond (decide (ap (gJ ja i) (gJ jb k) < near)) (o ++ [pr i k]) o) (fun k o => o.length ≤ out.length + k) _ out (by omega) (Nat.le_refl _) ?_ ?_
  · intro k o hkl ho2
    constructor
    · show f_sl05Clashes_n8 near i k ja jb o = _
      unfold f_sl05Clashes_n8
      have h1 := hj _ (getD_mem' (d := ((0, 0) : Int × Int)) hi)
      have h2 := hk _ (getD_mem' (d := ((0, 0) : Int × Int)) hkl)
      rw [lt_true hkl, inB_nat hkl, inB_nat hi, toNat_nat, toNat_nat, ap_s h1 h2, succ64 (by omega), fits_small (by simp; omega)]
      simp only [cond_true]
      cases decide (ap (gJ ja i) (gJ jb k) < near) <;> rfl
    · cases decide (ap (gJ ja i) (gJ jb k) < near)
      · show o.length ≤ _; omega
      · show (o ++ [_]).length ≤ _; simp; omega
  · intro _
    rw [foldl_filt]
    show f_sl05Clashes_n8 near i (jb.length : Nat) ja jb (out ++ CLi ja jb near i) = _
    unfold f_sl05Clashes_n8
    rw [lt_neg, cond_false, succ64 (by omega)]
theorem cl_s {a b : List Int} {S near : Int} (ha : OKR a) (hb : OKR b) (hS : 0 ≤ S ∧ S ≤ 200) : s_sl05Clashes a b S near = some (CLs (J a S) (J b S) near) := by
  obtain ⟨la, ra⟩ := J_facts ha hS
  obtain ⟨lb, rb⟩ := J_facts hb hS
  have h1 := ha.l
  have h2 := hb.l
  unfold s_sl05Clashes
  rw [J_s ha hS, J_s hb hS]
  simp only [Option.bind]
  unfold f_sl05Clashes_run5
  refine run_countI (step := fun x => f_sl05Clashes_n5 x.1 x.2.1 x.2.2.1 x.2.2.2.1 x.2.2.2.2) (J a S).length (fun i (o : List (Nat → Int)) => (near, (i : Int), J a S, J b S, o)) (fun o i => o ++ CLi (J a S) (J b S) near i) (fun i o => o.length ≤ 60 * i) _ [] (by omega) (Nat.le_refl _) ?_ ?_
  · intro i o hi ho
    constructor
    · show f_sl05Clashes_n5 near i (J a S) (J b S) o = _
      unfold f_sl05Clashes_n5
      rw [lt_true hi]
      exact in_s ra rb (by omega) hi (by omega) (by omega)
    · have := CLi_len (J a S) (J b S) near i
      show (o ++ _).length ≤ _
      rw [List.length_append]; omega
  · intro _
    rw [foldl_flat, List.nil_append]
    show f_sl05Clashes_n5 near ((J a S).length : Nat) (J a S) (J b S) (CLs (J a S) (J b S) near) = _
    unfold f_sl05Clashes_n5
    rw [lt_neg, cond_false]
def anyClash (ja jb : List JT) (near : Int) : Bool := ja.any fun x => jb.any fun y => decide (ap x y < near)
theorem CLs_any (ja jb : List JT) (near : Int) : decide (0 < (CLs ja jb near).length) = anyClash ja jb near := by
  apply Bool.eq_iff_iff.2
  rw [decide_eq_true_eq, List.length_pos_iff_exists_mem]
  unfold anyClash CLs CLi
  simp only [List.mem_flatMap, List.mem_map, List.mem_filter, List.any_eq_true]
  constructor
  · rintro ⟨_, i, hi, k, ⟨hk, h⟩, _⟩
    rw [List.mem_range'_1] at hi hk
    exact ⟨_, getD_mem' (d := ((0, 0) : Int × Int)) (by omega), _, getD_mem' (d := ((0, 0) : Int × Int)) (by omega), h⟩
  · rintro ⟨x, hx, y, hy, h⟩
    obtain ⟨i, hi, rfl⟩ := List.getElem_of_mem hx
    obtain ⟨k, hk, rfl⟩ := List.getElem_of_mem hy
    refine ⟨_, i, by rw [List.mem_range'_1]; omega, k, ⟨by rw [List.mem_range'_1]; omega, ?_⟩, rfl⟩
    have e1 : gJ ja i = ja[i] := by unfold gJ; rw [List.getD_eq_getElem?_getD, List.getElem?_eq_getElem hi]; rfl
    have e2 : gJ jb k = jb[k] := by unfold gJ; rw [List.getD_eq_getElem?_getD, List.getElem?_eq_getElem hk]; rfl
    rw [e1, e2]; exact h
end Go.RR
