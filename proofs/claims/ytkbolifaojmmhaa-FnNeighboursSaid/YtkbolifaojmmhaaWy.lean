/- The plain law of FnNeighbours. -/
import Derived.Test.YtkbolifaojmmhaaWq
import Derived.Test.YtkbolifaojmmhaaWx
import Derived.Test.YtkbolifaojmmhaaVp
set_option linter.unusedVariables false
set_option linter.unusedSimpArgs false
namespace Go.RR
open Go

theorem countF_rng (f how : Nat → Int) : ∀ (l : List Nat) (n : Int), 0 ≤ n → n + l.length ≤ 100000 → 0 ≤ l.foldl (fun n i => cond (f i != 0) n (cond (how i != 0) (IntKind.wrap .i64 (n + 1)) n)) n ∧ l.foldl (fun n i => cond (f i != 0) n (cond (how i != 0) (IntKind.wrap .i64 (n + 1)) n)) n ≤ n + l.length
  | [], n, h, _ => by simp; exact h
  | i :: l, n, h, hl => by
    simp only [List.length_cons] at hl ⊢
    rw [List.foldl_cons]
    have key : ∀ m, n ≤ m → m ≤ n + 1 → 0 ≤ l.foldl (fun n i => cond (f i != 0) n (cond (how i != 0) (IntKind.wrap .i64 (n + 1)) n)) m ∧ l.foldl (fun n i => cond (f i != 0) n (cond (how i != 0) (IntKind.wrap .i64 (n + 1)) n)) m ≤ n + ((l.length + 1 : Nat) : Int) := by
      intro m h1 h2
      have := countF_rng f how l m (by omega) (by omega)
      omega
    cases f i != 0
    · cases how i != 0
      · exact key n (by omega) (by omega)
      · rw [cond_false, cond_true, IntWalk.i64_in (n + 1) (by omega)]
        exact key _ (by omega) (by omega)
    · exact key n (by omega) (by omega)
theorem roundN_nn (w h : Int) (f : Nat → Int) : 0 ≤ roundN w h f := by
  have := countF_rng f (roundAt w h f) (cellsOf w h) 0 (by omega) (by have := cellsOf_len w h; omega)
  exact this.1
noncomputable def seqF (w h : Int) : Nat → (Nat → Int) → Nat → Int
  | 0, f => f
  | k + 1, f => seqF w h k (roundF w h f)
theorem goB_spec (w h : Int) : ∀ (rem k : Nat) (f : Nat → Int), ∃ m, m ≤ rem ∧ goB w h rem k f = (seqF w h m f, ((k + m : Nat) : Int)) ∧ (m = rem ∨ roundN w h (seqF w h m f) = 0) ∧ ∀ j, j < m → roundN w h (seqF w h j f) ≠ 0
  | 0, k, f => ⟨0, Nat.le_refl _, rfl, .inl rfl, fun j hj => by omega⟩
  | rem + 1, k, f => by
    unfold goB
    by_cases h0 : roundN w h f = 0
    · rw [show (roundN w h f == 0) = true from by simpa using h0]
      exact ⟨0, by omega, rfl, .inr h0, fun j hj => by omega⟩
    · rw [show (roundN w h f == 0) = false from by simpa using h0]
      obtain ⟨m, h1, h2, h3, h4⟩ := goB_spec w h rem (k + 1) (roundF w h f)
      refine ⟨m + 1, by omega, ?_, ?_, fun j hj => ?_⟩
      · rw [cond_false, h2, show k + 1 + m = k + (m + 1) by omega]; rfl
      · rcases h3 with h3 | h3
        · exact .inl (by omega)
        · exact .inr h3
      · cases j with
        | zero => exact h0
        | succ j => exact h4 j (by omega)
theorem seqF_succ (w h : Int) : ∀ (k : Nat) (f : Nat → Int), seqF w h (k + 1) f = roundF w h (seqF w h k f)
  | 0, f => rfl
  | k + 1, f => seqF_succ w h k (roundF w h f)
theorem seqF_rng {w h : Int} : ∀ (k : Nat) (f : Nat → Int), Rng f → Rng (seqF w h k f)
  | 0, f, hf => hf
  | k + 1, f, hf => seqF_rng k _ (round_range hf)
theorem fillN_eq {w h : Int} {f : Nat → Int} {n : Nat} (hs : Siz w h) (hd : Drw w h f) (hn : n ≤ 30) :
    s_sFillByNeighbours w h f (n : Int) = some (w, h, (goB w h n 0 f).1, (goB w h n 0 f).2, 0) ∧ s_iFillByNeighbours w h f (n : Int) = some (w, h, (goB w h n 0 f).1, (goB w h n 0 f).2, 0) := by
  obtain ⟨hw, hh⟩ := hs.i8
  have hv := valid_mk hs hd
  obtain ⟨h1, h2⟩ := hs
  have hb : Rng f := hd.rng
  have hr : s_sl00In (n : Int) 0 30 = true := by
    rw [s57_eq, decide_eq_true (by omega), decide_eq_true (by omega)]; rfl
  have e : s_iwithin (n : Int) 0 30 = s_sl00In n 0 30 := rfl
  unfold s_sFillByNeighbours s_iFillByNeighbours
  rw [valid_eq hw hh, e, hv, hr]
  constructor
  · show f_sFillByNeighbours_run6 ((n : Int), 0, w, h, f, 0, 0, zF) = _
    unfold f_sFillByNeighbours_run6
    refine rounds_run n (fun k (f : Nat → Int) => ((n : Int), (k : Int), w, h, f, 0, 0, zF)) (fun f k => (w, h, f, k, 0)) ?_ ?_ n 0 f FU (by omega) (FU_big (pow_big (by omega))) hb
    · intro k f hk hf
      show f_sFillByNeighbours_n6 n k w h f 0 0 zF = _
      unfold f_sFillByNeighbours_n6
      rw [lt_true hk, sround_eq h1 h2 hf, succ64 (by omega)]
      simp only [cond_true, Option.bind]
      cases roundN w h f == 0 <;> rfl
    · intro f
      show f_sFillByNeighbours_n6 n n w h f 0 0 zF = _
      unfold f_sFillByNeighbours_n6
      rw [lt_neg, cond_false]
  · show f_iFillByNeighbours_run5 ((n : Int), (n : Int), 0, w, h, f, 0, 0, zF) = _
    unfold f_iFillByNeighbours_run5
    refine rounds_run n (fun k (f : Nat → Int) => ((n : Int), (n : Int), (k : Int), w, h, f, 0, 0, zF)) (fun f k => (w, h, f, k, 0)) ?_ ?_ n 0 f FU (by omega) (FU_big (pow_big (by omega))) hb
    · intro k f hk hf
      show f_iFillByNeighbours_n5 n n k w h f 0 0 zF = _
      unfold f_iFillByNeighbours_n5
      rw [lt_true hk, iround_eq h1 h2 hf, succ64 (by omega)]
      simp only [cond_true, Option.bind]
      cases roundN w h f == 0 <;> rfl
    · intro f
      show f_iFillByNeighbours_n5 n n n w h f 0 0 zF = _
      unfold f_iFillByNeighbours_n5
      rw [lt_neg, cond_false]

/-! ### what a round takes -/
theorem cnt_pos : ∀ (l : List Int) (c : Nat → Int) (i : Nat), (∀ j, 0 ≤ c j ∧ c j + l.length ≤ 1000) → 0 < (l.foldl cntStep c) i → 0 < c i ∨ ∃ x ∈ l, x.toNat = i
  | [], c, i, _, h => .inl h
  | x :: l, c, i, hc, h => by
    rw [List.foldl_cons] at h
    have hx := hc x.toNat
    have hstep : ∀ j, cntStep c x j = if j = x.toNat then c x.toNat + 1 else c j := fun j => by
      unfold cntStep
      simp only [List.length_cons] at hx
      rw [IntWalk.i64_in (c x.toNat + 1) (by omega)]
      unfold upd
      by_cases e : j = x.toNat
      · subst e; simp
      · rw [beqF e, if_neg e]; rfl
    rcases cnt_pos l (cntStep c x) i (fun j => by
      rw [hstep]
      have := hc j
      simp only [List.length_cons] at this hx
      split <;> omega) h with h1 | ⟨y, hy, e⟩
    · rw [hstep] at h1
      by_cases e : i = x.toNat
      · exact .inr ⟨x, by simp, e.symm⟩
      · rw [if_neg e] at h1; exact .inl h1
    · exact .inr ⟨y, List.mem_cons_of_mem _ hy, e⟩
theorem best_pos (a : Nat → Int) : ∀ (l : List Nat) (st : Int), (∀ i ∈ l, 1 ≤ i ∧ i < 16) → (st = 0 ∨ (0 < st ∧ st < 16 ∧ 0 < a st.toNat)) → (l.foldl (bestStep a) st = 0 ∨ (0 < l.foldl (bestStep a) st ∧ l.foldl (bestStep a) st < 16 ∧ 0 < a (l.foldl (bestStep a) st).toNat))
  | [], st, _, h => h
  | i :: l, st, hl, h => by
    rw [List.foldl_cons]
    refine best_pos a l _ (fun j hj => hl j (List.mem_cons_of_mem _ hj)) ?_
    have hi := hl i (by simp)
    unfold bestStep
    by_cases h1 : a i > 0
    · rw [decide_eq_true h1, cond_true]
      have key : (i : Int) = 0 ∨ (0 < (i : Int) ∧ (i : Int) < 16 ∧ 0 < a (i : Int).toNat) := .inr ⟨by omega, by omega, h1⟩
      cases st == 0
      · cases decide (a i > a st.toNat)
        · exact h
        · exact key
      · exact key
    · rw [decide_eq_false h1, cond_false]; exact h
theorem most_pos {l : List Int} (hl : l.length ≤ 10) (hr : ∀ x ∈ l, 0 ≤ x) (h : mostB (l.foldl cntStep zF) ≠ 0) : mostB (l.foldl cntStep zF) ∈ l := by
  have hb := best_pos (l.foldl cntStep zF) (List.range' 1 15) 0 (fun i hi => by have := List.mem_range'_1.1 hi; omega) (.inl rfl)
  unfold mostB at h ⊢
  rcases hb with hb | ⟨h1, h2, h3⟩
  · rw [hb] at h; exact absurd rfl h
  · rw [IntWalk.u8_in _ (by omega)]
    rcases cnt_pos l zF _ (fun j => ⟨Int.le_refl 0, by show (0 : Int) + _ ≤ _; omega⟩) h3 with h4 | ⟨x, hx, e⟩
    · exact absurd h4 (by show ¬ (0 : Int) < 0; omega)
    · have := hr x hx
      have : x = (List.range' 1 15).foldl (bestStep (l.foldl cntStep zF)) 0 := by omega
      rw [← this]; exact hx
theorem round_from {w h : Int} {f : Nat → Int} {c : Nat} (hs : Siz w h) (hf : Rng f) (hc : c < 144) (h0 : roundF w h f c ≠ 0) (hz : f c = 0) :
    (12 ≤ c ∧ f (c - 12) = roundF w h f c) ∨ (c < 132 ∧ f (c + 12) = roundF w h f c) ∨ (0 < c % 12 ∧ f (c - 1) = roundF w h f c) ∨ (c % 12 < 11 ∧ f (c + 1) = roundF w h f c) := by
  have e : roundF w h f c = if c ∈ cellsOf w h ∧ f c = 0 then roundAt w h f c else f c := cellsF_at _ _ _
  rw [e] at h0 ⊢
  by_cases hin : c ∈ cellsOf w h ∧ f c = 0
  · rw [if_pos hin] at h0 ⊢
    unfold roundAt at h0 ⊢
    have hl : (besC w h f c).length ≤ 10 := by
      unfold besC
      rw [List.length_map]
      have := bes_len w h c; omega
    have hm := most_pos hl (fun x hx => by
      unfold besC at hx
      obtain ⟨y, hy, rfl⟩ := List.mem_map.1 hx
      obtain ⟨j, hj, rfl⟩ := mem_bes hs.1.2 hs.2.2 hc hy
      exact (hf j hj).1) h0
    generalize mostB ((besC w h f c).foldl cntStep zF) = v at hm
    unfold besC at hm
    obtain ⟨y, hy, rfl⟩ := List.mem_map.1 hm
    have hdm : (c : Int) % 12 = ((c % 12 : Nat) : Int) := by omega
    unfold besB at hy
    simp only [List.mem_append] at hy
    rcases hy with ((hy | hy) | hy) | hy
    · by_cases hp : (c : Int) / 12 > 0
      · rw [decide_eq_true hp] at hy
        simp only [cond_true, List.mem_singleton] at hy
        exact .inl ⟨by omega, by rw [hy, show ((c : Int) - 12).toNat = c - 12 by omega]⟩
      · rw [decide_eq_false hp] at hy; simp at hy
    · by_cases hp : (c : Int) % 12 > 0
      · rw [decide_eq_true hp] at hy
        simp only [cond_true, List.mem_singleton] at hy
        exact .inr (.inr (.inl ⟨by omega, by rw [hy, show ((c : Int) - 1).toNat = c - 1 by omega]⟩))
      · rw [decide_eq_false hp] at hy; simp at hy
    · by_cases hp : (c : Int) % 12 + 1 < w
      · rw [decide_eq_true hp] at hy
        simp only [cond_true, List.mem_singleton] at hy
        have := hs.1.2
        exact .inr (.inr (.inr ⟨by omega, by rw [hy, show ((c : Int) + 1).toNat = c + 1 by omega]⟩))
      · rw [decide_eq_false hp] at hy; simp at hy
    · by_cases hp : (c : Int) / 12 + 1 < h
      · rw [decide_eq_true hp] at hy
        simp only [cond_true, List.mem_singleton] at hy
        have := hs.2.2
        exact .inr (.inl ⟨by omega, by rw [hy, show ((c : Int) + 12).toNat = c + 12 by omega]⟩)
      · rw [decide_eq_false hp] at hy; simp at hy
  · rw [if_neg hin] at h0
    exact absurd hz h0
theorem round_keeps {w h : Int} {f : Nat → Int} {c : Nat} (h0 : f c ≠ 0) : roundF w h f c = f c := by
  have e : roundF w h f c = if c ∈ cellsOf w h ∧ f c = 0 then roundAt w h f c else f c := cellsF_at _ _ _
  rw [e, if_neg fun hh => h0 hh.2]
theorem faEq_refl (n : Nat) (f : Nat → Int) : faEq n f f = true := by
  unfold faEq
  simp

/-! ### the law -/
theorem fillR_eq {w h : Int} {f : Nat → Int} (hs : Siz w h) (hf : Rng f) (hv : s_sl01Ok w h f = true) : s_sFillRound w h f = some (w, h, roundF w h f, roundN w h f, 0) ∧ s_iFillRound w h f = some (w, h, roundF w h f, roundN w h f, 0) := by
  obtain ⟨hw, hh⟩ := hs.i8
  unfold s_sFillRound s_iFillRound
  rw [valid_eq hw hh, hv, sround_eq hs.1 hs.2 hf, iround_eq hs.1 hs.2 hf]
  exact ⟨rfl, rfl⟩
theorem round_drw {w h : Int} {f : Nat → Int} (hs : Siz w h) (hd : Drw w h f) : Drw w h (roundF w h f) := by
  obtain ⟨hw, hh⟩ := hs.i8
  refine ⟨round_range hd.rng, fun j hj h0 => ?_⟩
  have e : roundF w h f j = if j ∈ cellsOf w h ∧ f j = 0 then roundAt w h f j else f j := cellsF_at _ _ _
  by_cases hin : j ∈ cellsOf w h ∧ f j = 0
  · have h1 := (List.mem_filter.1 hin.1).2
    rw [isIn_eq hw hh hj] at h1
    simpa using h1
  · rw [e, if_neg hin] at h0
    exact hd.out j hj h0
theorem seq_drw {w h : Int} (hs : Siz w h) : ∀ (k : Nat) (f : Nat → Int), Drw w h f → Drw w h (seqF w h k f)
  | 0, f, hd => hd
  | k + 1, f, hd => seq_drw hs k _ (round_drw hs hd)
theorem near_step {w h : Int} {f : Nat → Int} (hs : Siz w h) (hf : Rng f) {a1 a2 a3 a4 a5 : Int} {g : Nat → Int} {i : Nat} (hi : i < 144) :
    f_wFnNeighbours_n18 a1 a2 a3 i a4 a5 g w h f w h (roundF w h f) = some (Sum.inl (a1, a2, a3, ((i + 1 : Nat) : Int), a4, a5, g, w, h, f, w, h, roundF w h f)) := by
  unfold f_wFnNeighbours_n18
  rw [lt144 hi, inB_nat hi, toNat_nat, succ64 (by omega)]
  simp only [cond_true]
  by_cases h0 : f i = 0
  · rw [n_eq h0, z_eq h0]
    simp only [cond_true, cond_false]
    by_cases hb : roundF w h f i = 0
    · rw [n_eq hb]; rfl
    · rw [n_ne hb]
      have H := round_from hs hf hi hb h0
      have hm : Int.tmod (i : Int) 12 = ((i % 12 : Nat) : Int) := by rw [col]; omega
      have e1 : 12 ≤ i → inB (IntKind.wrap .i64 ((i : Int) - 12)) 144 = true ∧ Int.toNat (IntKind.wrap .i64 ((i : Int) - 12)) = i - 12 := fun h1 => by
        rw [IntWalk.i64_in ((i : Int) - 12) (by omega)]
        exact ⟨inB_of (by omega), by omega⟩
      have e2 : i < 132 → inB (IntKind.wrap .i64 ((i : Int) + 12)) 144 = true ∧ Int.toNat (IntKind.wrap .i64 ((i : Int) + 12)) = i + 12 := fun h1 => by
        rw [IntWalk.i64_in ((i : Int) + 12) (by omega)]
        exact ⟨inB_of (by omega), by omega⟩
      have e3 : 0 < i % 12 → inB (IntKind.wrap .i64 ((i : Int) - 1)) 144 = true ∧ Int.toNat (IntKind.wrap .i64 ((i : Int) - 1)) = i - 1 := fun h1 => by
        rw [IntWalk.i64_in ((i : Int) - 1) (by omega)]
        exact ⟨inB_of (by omega), by omega⟩
      have e4 : i % 12 < 11 → inB ((i + 1 : Nat) : Int) 144 = true ∧ Int.toNat ((i + 1 : Nat) : Int) = i + 1 := fun h1 => ⟨inB_of (by omega), by omega⟩
      have d1 : decide ((i : Int) ≥ 12) = decide (12 ≤ i) := decide_eq_decide.2 (by omega)
      have d2 : decide ((i : Int) < 132) = decide (i < 132) := decide_eq_decide.2 (by omega)
      have d3 : decide (Int.tmod (i : Int) 12 > 0) = decide (0 < i % 12) := decide_eq_decide.2 (by rw [hm]; omega)
      have d4 : decide (Int.tmod (i : Int) 12 < 11) = decide (i % 12 < 11) := decide_eq_decide.2 (by rw [hm]; omega)
      rw [d1, d2, d3, d4]
      have B : ((decide (12 ≤ i) && (f (i - 12) == roundF w h f i)) || (decide (i < 132) && (f (i + 12) == roundF w h f i)) || (decide (0 < i % 12) && (f (i - 1) == roundF w h f i)) || (decide (i % 12 < 11) && (f (i + 1) == roundF w h f i))) = true := by
        rcases H with ⟨q1, q2⟩ | ⟨q1, q2⟩ | ⟨q1, q2⟩ | ⟨q1, q2⟩ <;> rw [decide_eq_true q1, q2] <;> simp
      by_cases p1 : 12 ≤ i <;> by_cases p2 : i < 132 <;> by_cases p3 : 0 < i % 12 <;> by_cases p4 : i % 12 < 11 <;>
        simp only [p1, p2, p3, p4, decide_true, decide_false, cond_true, cond_false, Bool.true_and, Bool.false_and, Bool.or_false, Bool.false_or, true_implies, false_implies, (e1 ·), not_true, not_false_iff] at B ⊢ <;>
        (try rw [(e1 p1).1, (e1 p1).2]) <;> (try rw [(e2 p2).1, (e2 p2).2]) <;> (try rw [(e3 p3).1, (e3 p3).2]) <;> (try rw [(e4 p4).1, (e4 p4).2]) <;>
        (generalize (f (i - 12) == roundF w h f i) = q1 at B ⊢) <;> (generalize (f (i + 12) == roundF w h f i) = q2 at B ⊢) <;> (generalize (f (i - 1) == roundF w h f i) = q3 at B ⊢) <;> (generalize (f (i + 1) == roundF w h f i) = q4 at B ⊢) <;>
        (cases q1 <;> cases q2 <;> cases q3 <;> cases q4 <;> first | rfl | (simp at B))
  · rw [round_keeps h0, n_ne h0, z_ne h0]
    have : (f i != f i) = false := by simp
    rw [this]; rfl
theorem law_Neighbours {l0 l1 : List Int} (h0 : l0.length ≤ maxLen) (b0 : ∀ x ∈ l0, 0 ≤ x ∧ x ≤ 255) (h1 : l1.length ≤ maxLen) (b1 : ∀ x ∈ l1, 0 ≤ x ∧ x ≤ 255) : s_wFnNeighbours l0 l1 = some true := by
  unfold s_wFnNeighbours s_wf6big
  by_cases q0 : ((l0.length : Nat) : Int) > 4096
  · rw [decide_eq_true q0]; rfl
  by_cases q1 : ((l1.length : Nat) : Int) > 4096
  · rw [decide_eq_true q1, decide_eq_false q0]; rfl
  rw [decide_eq_false q0, decide_eq_false q1, cond_false, cond_false]
  obtain ⟨w, h, f, e1, hs6, hd⟩ := P6Picture_ok (l := l0) ⟨by omega, b0⟩
  have hs : Siz w h := ⟨⟨by omega, by omega⟩, by omega, by omega⟩
  obtain ⟨x, e2, x1, x2⟩ := P6Pick_ok (l := l1) (k := 8) ⟨by omega, b1⟩ (by omega)
  obtain ⟨n, rfl⟩ : ∃ n : Nat, x = (n : Int) := ⟨x.toNat, by omega⟩
  obtain ⟨e3, e4⟩ := fillN_eq (n := n) hs hd (by omega)
  obtain ⟨m, hm, hgo, hend, hnz⟩ := goB_spec w h n 0 f
  rw [Nat.zero_add] at hgo
  rw [hgo] at e3 e4
  rw [e1]; dsimp only [Option.bind]
  rw [e2]; dsimp only
  rw [e4]; dsimp only
  rw [e3]; dsimp only
  have nn : ∀ x : Int, (x != x) = false := fun x => by simp
  have ee : ∀ x : Int, (x == x) = true := fun x => by simp
  simp only [nn, ee, faEq_refl, Bool.and_true, Bool.not_true, cond_false]
  rw [decide_eq_false (show ¬ ((m : Int) > (n : Int)) by omega), decide_eq_false (show ¬ ((m : Int) < 0) by omega), cond_false, cond_false]
  -- the rounds
  have loop : ∀ (k j M : Nat), j + k = m → k < M → iter (fun x => f_wFnNeighbours_n11 x.1 x.2.1 x.2.2.1 x.2.2.2.1 x.2.2.2.2.1 x.2.2.2.2.2.1 x.2.2.2.2.2.2.1 x.2.2.2.2.2.2.2.1 x.2.2.2.2.2.2.2.2) M ((n : Int), (m : Int), (j : Int), w, h, seqF w h m f, w, h, seqF w h j f) = some true := by
    intro k
    induction k with
    | zero =>
      intro j M hj hM
      obtain ⟨M, rfl⟩ : ∃ K, M = K + 1 := ⟨M - 1, by omega⟩
      obtain rfl : j = m := hj
      have hdj := seq_drw hs j f hd
      obtain ⟨_, e6⟩ := fillR_eq hs hdj.rng (valid_mk hs hdj)
      unfold iter
      dsimp only
      unfold f_wFnNeighbours_n11
      rw [lt_neg, cond_false, e6]
      dsimp only [Option.bind]
      simp only [ee, faEq_refl, Bool.and_true, cond_true]
      rcases hend with hend | hend
      · rw [hend, ee]; rfl
      · rw [hend, ee]
        cases ((j : Int) == (n : Int)) <;> rfl
    | succ k ih =>
      intro j M hj hM
      obtain ⟨M, rfl⟩ : ∃ K, M = K + 1 := ⟨M - 1, by omega⟩
      have hdj := seq_drw hs j f hd
      obtain ⟨e5, e6⟩ := fillR_eq hs hdj.rng (valid_mk hs hdj)
      have hpos := roundN_nn w h (seqF w h j f)
      have hne := hnz j (by omega)
      have e : f_wFnNeighbours_n11 n m j w h (seqF w h m f) w h (seqF w h j f) = some (Sum.inl ((n : Int), (m : Int), ((j + 1 : Nat) : Int), w, h, seqF w h m f, w, h, seqF w h (j + 1) f)) := by
       unfold f_wFnNeighbours_n11
       rw [lt_true (show j < m by omega), cond_true, e6]
       dsimp only [Option.bind]
       rw [e5]
       dsimp only
       simp only [nn, ee, faEq_refl, Bool.and_true, Bool.not_true, cond_false]
       rw [decide_eq_false (show ¬ (roundN w h (seqF w h j f) < 1) by omega), cond_false]
       have inner : f_wFnNeighbours_run18 ((n : Int), (m : Int), (j : Int), 0, w, h, seqF w h m f, w, h, seqF w h j f, w, h, roundF w h (seqF w h j f)) = some (Sum.inl ((n : Int), (m : Int), ((j + 1 : Nat) : Int), w, h, seqF w h m f, w, h, seqF w h (j + 1) f)) := by
         unfold f_wFnNeighbours_run18
         refine run_count (step := fun x => f_wFnNeighbours_n18 x.1 x.2.1 x.2.2.1 x.2.2.2.1 x.2.2.2.2.1 x.2.2.2.2.2.1 x.2.2.2.2.2.2.1 x.2.2.2.2.2.2.2.1 x.2.2.2.2.2.2.2.2.1 x.2.2.2.2.2.2.2.2.2.1 x.2.2.2.2.2.2.2.2.2.2.1 x.2.2.2.2.2.2.2.2.2.2.2.1 x.2.2.2.2.2.2.2.2.2.2.2.2) (τ := Unit) 144 (fun i _ => ((n : Int), (m : Int), (j : Int), (i : Int), w, h, seqF w h m f, w, h, seqF w h j f, w, h, roundF w h (seqF w h j f))) (fun _ _ => ()) _ () (by omega) ?_ ?_
         · intro i _ hi
           exact near_step hs hdj.rng hi
         · show f_wFnNeighbours_n18 n m j ((144 : Nat) : Int) w h (seqF w h m f) w h (seqF w h j f) w h (roundF w h (seqF w h j f)) = _
           unfold f_wFnNeighbours_n18
           rw [end144, cond_false, succ64 (by omega), seqF_succ]
       exact inner
      unfold iter
      dsimp only
      rw [e]
      exact ih (j + 1) M (by omega) (by omega)
  exact loop m 0 FU (by omega) (FU_big (pow_big (by omega)))
end Go.RR
