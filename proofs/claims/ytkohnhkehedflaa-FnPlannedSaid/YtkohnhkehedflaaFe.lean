/- Pictures that are filled from their plan: numbers of cells and stones. -/
import Derived.Test.YtkohnhkehedflaaFd
set_option linter.unusedVariables false
set_option linter.unusedSimpArgs false
namespace Go.RR
open Go

theorem faEq_of {n : Nat} {f g : Nat → Int} (h : ∀ j, j < n → f j = g j) : faEq n f g = true := by
  unfold faEq
  rw [List.all_eq_true]
  intro j hj
  exact beq_iff_eq.2 (h j (List.mem_range.1 hj))

/-! ### agreement -/
abbrev agS (f g : Nat → Int) (st : Int × Int) (i : Nat) : Int × Int := cond (f i == 0) st (cond (g i == 0) st (cond (f i == g i) (IntKind.wrap .i64 (st.1 + 1), st.2) (st.1, IntKind.wrap .i64 (st.2 + 1))))
theorem agS_sub {f g : Nat → Int} : ∀ (l : List Nat) (st : Int × Int), (∀ j ∈ l, f j ≠ 0 → g j = f j) → 0 ≤ st.1 → st.1 + l.length ≤ 10000 → l.foldl (agS f g) st = (st.1 + ((l.filter fun i => f i != 0).length : Nat), st.2)
  | [], st, _, _, _ => by simp
  | i :: l, st, h, h1, h2 => by
    simp only [List.length_cons] at h2
    rw [List.foldl_cons]
    by_cases h0 : f i = 0
    · rw [List.filter_cons_of_neg (by simp [h0])]
      have : agS f g st i = st := by unfold agS; rw [z_eq h0]; rfl
      rw [this]
      exact agS_sub l st (fun j hj => h j (List.mem_cons_of_mem _ hj)) h1 (by omega)
    · have hg := h i (List.mem_cons_self ..) h0
      rw [List.filter_cons_of_pos (by simp [h0])]
      have : agS f g st i = (st.1 + 1, st.2) := by
        unfold agS
        rw [z_ne h0, z_ne (by rw [hg]; exact h0), show (f i == g i) = true from beq_iff_eq.2 hg.symm, IntWalk.i64_in (st.1 + 1) (by omega)]; rfl
      rw [this, agS_sub l (st.1 + 1, st.2) (fun j hj => h j (List.mem_cons_of_mem _ hj)) (by show 0 ≤ st.1 + 1; omega) (by show st.1 + 1 + (l.length : Int) ≤ 10000; omega)]
      show (st.1 + 1 + _, st.2) = (st.1 + _, st.2)
      rw [List.length_cons]
      congr 1
      omega
theorem agree_sub {f g : Nat → Int} (h : ∀ j, j < 144 → f j ≠ 0 → g j = f j) : agree f g = (((((List.range' 0 144).filter fun i => f i != 0).length : Nat) : Int), 0) := by
  have e := agS_sub (f := f) (g := g) (List.range' 0 144) (0, 0) (fun j hj => h j (by have := List.mem_range'_1.1 hj; omega)) (Int.le_refl 0) (by simp)
  simp only [Int.zero_add] at e
  exact e
theorem agS_pos {f g : Nat → Int} : ∀ (l : List Nat) (st : Int × Int), 0 ≤ st.2 → st.2 + l.length ≤ 10000 → 0 ≤ (l.foldl (agS f g) st).2
  | [], st, h, _ => h
  | i :: l, st, h, h2 => by
    simp only [List.length_cons] at h2
    rw [List.foldl_cons]
    have h3 : 0 ≤ (agS f g st i).2 ∧ (agS f g st i).2 ≤ st.2 + 1 := by
      unfold agS
      cases f i == 0
      · cases g i == 0
        · cases f i == g i
          · show 0 ≤ IntKind.wrap .i64 (st.2 + 1) ∧ IntKind.wrap .i64 (st.2 + 1) ≤ st.2 + 1
            rw [IntWalk.i64_in (st.2 + 1) (by omega)]
            omega
          · show 0 ≤ st.2 ∧ st.2 ≤ st.2 + 1
            omega
        · show 0 ≤ st.2 ∧ st.2 ≤ st.2 + 1
          omega
      · show 0 ≤ st.2 ∧ st.2 ≤ st.2 + 1
        omega
    exact agS_pos l _ h3.1 (by omega)
theorem agree_pos (f g : Nat → Int) : 0 ≤ (agree f g).2 := agS_pos (List.range' 0 144) (0, 0) (Int.le_refl 0) (by simp)
theorem nearest_self {w h : Int} {f : Nat → Int} {l : List Pic} : nearest ((w, h, f) :: l) f = (0, 0) := by
  have e0 : dist ((w, h, f) :: l) f 0 = 0 := by
    show (agree f f).2 = 0
    rw [agree_sub fun j _ _ => rfl]
  unfold nearest
  rw [e0]
  generalize List.range' 1 _ = ks
  induction ks with
  | nil => rfl
  | cons k ks ih =>
    rw [List.foldl_cons]
    have : near ((w, h, f) :: l) f (0, 0) k = (0, 0) := by
      unfold near
      have := agree_pos (((w, h, f) :: l).getD k pd).2.2 f
      rw [decide_eq_false (show ¬ dist ((w, h, f) :: l) f k < ((0, 0) : Int × Int).2 by unfold dist; show ¬ _ < (0 : Int); omega)]; rfl
    rw [this]; exact ih
theorem fit_agree {f g : Nat → Int} : ∀ (l : List Nat) (st : Int × Int), (∀ j ∈ l, j < 144) → (l.foldl (agS f g) st).1 = l.foldl (fun n (i : Nat) => cond (f i != 0 && (s_sl00In (shX 0 i) 0 11 && (s_sl00In (shY 0 i) 0 11 && (g (Int.toNat (shX 0 i + 12 * shY 0 i)) == f i)))) (IntKind.wrap .i64 (n + 1)) n) st.1
  | [], st, _ => rfl
  | i :: l, st, h => by
    have hi := h i (List.mem_cons_self ..)
    rw [List.foldl_cons, List.foldl_cons, fit_agree l _ fun j hj => h j (List.mem_cons_of_mem _ hj)]
    congr 1
    have e1 : shX 0 i = (i : Int) % 12 := by
      unfold shX
      rw [Int.add_zero, col, IntWalk.i64_in _ (by omega)]
    have e2 : shY 0 i = (i : Int) / 12 := by
      unfold shY
      rw [Int.add_zero, lin (by omega), IntWalk.i64_in _ (by omega)]
    have e3 : Int.toNat ((i : Int) % 12 + 12 * ((i : Int) / 12)) = i := by omega
    rw [e1, e2, e3, s57_eq, s57_eq, decide_eq_true (show 0 ≤ (i : Int) % 12 by omega), decide_eq_true (show (i : Int) % 12 ≤ 11 by omega), decide_eq_true (show 0 ≤ (i : Int) / 12 by omega), decide_eq_true (show (i : Int) / 12 ≤ 11 by omega)]
    unfold agS
    by_cases h0 : f i = 0
    · rw [z_eq h0, n_eq h0]; rfl
    · rw [z_ne h0, n_ne h0]
      by_cases h1 : g i = 0
      · have : (g i == f i) = false := by rw [h1]; simpa using fun q => h0 q.symm
        rw [z_eq h1, this]; rfl
      · rw [z_ne h1]
        by_cases h2 : f i = g i
        · rw [show (f i == g i) = true from beq_iff_eq.2 h2, show (g i == f i) = true from beq_iff_eq.2 h2.symm]; rfl
        · rw [show (f i == g i) = false by simpa using h2, show (g i == f i) = false by simpa using fun q => h2 q.symm]; rfl
theorem fit_zero (f g : Nat → Int) : fitS f g 0 0 = (agree f g).1 :=
  (fit_agree (List.range' 0 144) (0, 0) fun j hj => by have := List.mem_range'_1.1 hj; omega).symm

/-! ### stones that are needed -/
noncomputable def sumN (a : Nat → Int) : Nat → Int
  | 0 => 0
  | n + 1 => sumN a n + a n
theorem sumN_upd (a : Nat → Int) (k : Nat) (v : Int) : ∀ n, sumN (upd a k v) n = sumN a n + if k < n then v - a k else 0
  | 0 => by simp [sumN]
  | n + 1 => by
    unfold sumN
    rw [sumN_upd a k v n, upd_at]
    by_cases h1 : k < n
    · rw [if_pos h1, if_neg (by omega), if_pos (by omega)]; omega
    · by_cases h2 : k = n
      · rw [if_neg h1, if_pos h2.symm, if_pos (by omega), h2]; omega
      · rw [if_neg h1, if_neg (by omega), if_neg (by omega)]; omega
theorem sumN_rng {a : Nat → Int} {m : Int} (h : ∀ c, c < 16 → 0 ≤ a c ∧ a c ≤ m) : ∀ n, n ≤ 16 → 0 ≤ sumN a n ∧ sumN a n ≤ n * m
  | 0, _ => by simp [sumN]
  | n + 1, hn => by
    have h1 := sumN_rng h n (by omega)
    have h2 := h n (by omega)
    unfold sumN
    have e : ((n + 1 : Nat) : Int) * m = (n : Int) * m + m := by rw [show ((n + 1 : Nat) : Int) = (n : Int) + 1 by omega, Int.add_mul, Int.one_mul]
    rw [e]
    omega
abbrev nS (f g : Nat → Int) (st : Nat → Int) (i : Nat) : Nat → Int := cond (g i != 0) (cond (f i == 0) (upd st (Int.toNat (g i)) (IntKind.wrap .i64 (st (Int.toNat (g i)) + 1))) st) st
abbrev isN (f g : Nat → Int) (i : Nat) : Bool := g i != 0 && f i == 0
theorem nS_sum {f g : Nat → Int} : ∀ (l : List Nat) (st : Nat → Int), (∀ j ∈ l, 0 ≤ g j ∧ g j < 16) → (∀ c, c < 16 → 0 ≤ st c ∧ st c + l.length ≤ 1000) →
    sumN (l.foldl (nS f g) st) 16 = sumN st 16 + ((l.filter (isN f g)).length : Nat) ∧ (∀ c, c < 16 → 0 ≤ (l.foldl (nS f g) st) c ∧ (l.foldl (nS f g) st) c ≤ 1000) ∧ (l.foldl (nS f g) st) 0 = st 0
  | [], st, _, h => ⟨by simp, fun c hc => by have h9 := h c hc; simp only [List.length_nil] at h9; show 0 ≤ st c ∧ st c ≤ 1000; omega, rfl⟩
  | i :: l, st, hg, h => by
    have hg' : ∀ j ∈ l, 0 ≤ g j ∧ g j < 16 := fun j hj => hg j (List.mem_cons_of_mem _ hj)
    have h' : ∀ c, c < 16 → 0 ≤ st c ∧ st c + l.length ≤ 1000 := fun c hc => by have := h c hc; simp only [List.length_cons] at this; omega
    rw [List.foldl_cons]
    by_cases h1 : g i = 0
    · have e : nS f g st i = st := by unfold nS; rw [n_eq h1]; rfl
      rw [e, List.filter_cons_of_neg (by simp [isN, h1])]
      exact nS_sum l st hg' h'
    · by_cases h2 : f i = 0
      · have hi := hg i (List.mem_cons_self ..)
        have hc := h (Int.toNat (g i)) (by omega)
        simp only [List.length_cons] at hc
        have e : nS f g st i = upd st (Int.toNat (g i)) (st (Int.toNat (g i)) + 1) := by unfold nS; rw [n_ne h1, z_eq h2, IntWalk.i64_in (st (Int.toNat (g i)) + 1) (by omega)]; rfl
        rw [e, List.filter_cons_of_pos (by simp [isN, h1, h2])]
        obtain ⟨k1, k2, k3⟩ := nS_sum l (upd st (Int.toNat (g i)) (st (Int.toNat (g i)) + 1)) hg' (fun c hc' => by
          have := h c hc'
          simp only [List.length_cons] at this
          rw [upd_at]
          split
          · rename_i q; rw [← q]; omega
          · omega)
        refine ⟨?_, k2, ?_⟩
        · rw [k1, sumN_upd, if_pos (by omega), List.length_cons]; omega
        · rw [k3, upd_at, if_neg (by omega)]
      · have e : nS f g st i = st := by unfold nS; rw [n_ne h1, z_ne h2]; rfl
        rw [e, List.filter_cons_of_neg (by simp [isN, h1, h2])]
        exact nS_sum l st hg' h'
theorem countF_len {f g : Nat → Int} : ∀ (l : List Nat) (n : Int), 0 ≤ n → n + l.length ≤ 10000 → l.foldl (fun n i => cond (f i != 0) n (cond (g i != 0) (IntKind.wrap .i64 (n + 1)) n)) n = n + ((l.filter (isN f g)).length : Nat)
  | [], n, _, _ => by simp
  | i :: l, n, h1, h2 => by
    simp only [List.length_cons] at h2
    rw [List.foldl_cons]
    by_cases h3 : f i = 0
    · by_cases h4 : g i = 0
      · rw [n_eq h3, n_eq h4, List.filter_cons_of_neg (by simp [isN, h4])]
        exact countF_len l n h1 (by omega)
      · rw [n_eq h3, n_ne h4, List.filter_cons_of_pos (by simp [isN, h3, h4]), cond_false, cond_true, IntWalk.i64_in (n + 1) (by omega), countF_len l (n + 1) (by omega) (by omega), List.length_cons]
        omega
    · rw [n_ne h3, List.filter_cons_of_neg (by simp [isN, h3])]
      exact countF_len l n h1 (by omega)
theorem needed_sum {w h : Int} {f g : Nat → Int} (hs : Siz w h) (hg : Drw w h g) : sumN (needed f g) 16 = countF f g (cellsOf w h) ∧ (∀ c, c < 16 → 0 ≤ needed f g c ∧ needed f g c ≤ 1000) ∧ needed f g 0 = 0 := by
  obtain ⟨hw, hh⟩ := hs.i8
  have hr : ∀ j ∈ List.range' 0 144, j < 144 := fun j hj => by have := List.mem_range'_1.1 hj; omega
  obtain ⟨k1, k2, k3⟩ := nS_sum (f := f) (g := g) (List.range' 0 144) zF (fun j hj => hg.rng j (hr j hj)) (fun c _ => by simp [zF])
  refine ⟨?_, k2, k3⟩
  have e1 : countF f g (cellsOf w h) = countF f g (List.range' 0 144) := countF_all fun i hi _ h0 => by
    rw [isIn_eq hw hh hi]
    simp [hg.out i hi h0]
  have e2 : countF f g (List.range' 0 144) = 0 + (((List.range' 0 144).filter (isN f g)).length : Nat) := countF_len _ 0 (Int.le_refl 0) (by simp)
  have e3 : sumN zF 16 = 0 := by decide
  rw [e1, e2]
  rw [e3] at k1
  exact k1

/-! ### numbers of cells -/
theorem filter_two {α : Type} (p : α → Bool) : ∀ l : List α, (l.filter p).length + (l.filter fun x => !p x).length = l.length
  | [] => rfl
  | x :: l => by
    have ih := filter_two p l
    by_cases h : p x = true
    · rw [List.filter_cons_of_pos h, List.filter_cons_of_neg (by simp [h]), List.length_cons, List.length_cons]; omega
    · rw [List.filter_cons_of_neg h, List.filter_cons_of_pos (by simpa using h), List.length_cons, List.length_cons]; omega
theorem cells_nat : ∀ a b : Fin 7, ((List.range' 0 144).filter fun i => Nat.blt (i % 12) a && Nat.blt (i / 12) b).length = a.1 * b.1 := by decide +kernel
theorem cells_num {w h : Int} (hs : (1 ≤ w ∧ w ≤ 6) ∧ (1 ≤ h ∧ h ≤ 6)) : (((cellsOf w h).length : Nat) : Int) = w * h := by
  have e := cells_nat ⟨w.toNat, by omega⟩ ⟨h.toNat, by omega⟩
  have ew : ((w.toNat : Nat) : Int) = w := Int.toNat_of_nonneg (by omega)
  have eh : ((h.toNat : Nat) : Int) = h := Int.toNat_of_nonneg (by omega)
  have e2 : cellsOf w h = (List.range' 0 144).filter fun i => Nat.blt (i % 12) w.toNat && Nat.blt (i / 12) h.toNat := by
    apply List.filter_congr
    intro i hi
    have hi : i < 144 := by have := List.mem_range'_1.1 hi; omega
    rw [isIn_eq (by omega) (by omega) hi]
    congr 1 <;> (rw [Bool.eq_iff_iff, decide_eq_true_eq, Nat.blt_eq]; omega)
  rw [e2, e]
  show ((w.toNat * h.toNat : Nat) : Int) = _
  rw [Int.natCast_mul, ew, eh]
theorem agree_lost {w h : Int} {f : Nat → Int} (hs : Siz w h) (hf : Drw w h f) : (((List.range' 0 144).filter fun i => f i != 0).length) + (lostOf w h f).length = (cellsOf w h).length := by
  obtain ⟨hw, hh⟩ := hs.i8
  have e1 : ((List.range' 0 144).filter fun i => f i != 0) = (cellsOf w h).filter fun i => f i != 0 := by
    unfold cellsOf
    rw [List.filter_filter]
    apply List.filter_congr
    intro i hi
    have hi : i < 144 := by have := List.mem_range'_1.1 hi; omega
    by_cases h0 : f i = 0
    · rw [n_eq h0]; rfl
    · rw [n_ne h0, isIn_eq hw hh hi]
      simp [hf.out i hi h0]
  have e2 := filter_two (fun i => f i != 0) (cellsOf w h)
  have e3 : (fun x => !(fun i => f i != 0) x) = fun i => f i == 0 := by funext i; simp [bne]
  rw [e3] at e2
  unfold lostOf
  rw [List.length_map, e1]
  exact e2

/-! ### votes -/
theorem vote1 : ∀ c : Fin 16, mostB ([(c.1 : Int)].foldl cntStep zF) = c.1 := by decide +kernel
theorem vote4 : ∀ c : Fin 16, mostB ([(c.1 : Int), c.1, c.1, c.1].foldl cntStep zF) = c.1 := by decide +kernel
theorem vote4z : ∀ c : Fin 16, mostB ([0, (c.1 : Int), 0, c.1].foldl cntStep zF) = c.1 := by decide +kernel
theorem fin_of {x : Int} (h : 0 ≤ x ∧ x < 16) : ∃ c : Fin 16, x = (c.1 : Int) := ⟨⟨x.toNat, by omega⟩, (Int.toNat_of_nonneg h.1).symm⟩
theorem voteAt_one {w h : Int} {f : Nat → Int} {j : Nat} (hf : 0 ≤ f j ∧ f j < 16) : voteAt [(w, h, f)] j = f j := by
  show mostB ([f j].foldl cntStep zF) = f j
  obtain ⟨c, e⟩ := fin_of hf
  rw [e]; exact vote1 c
theorem voteAt_four {w h : Int} {f g : Nat → Int} {j : Nat} (hg : 0 ≤ g j ∧ g j < 16) (hfg : f j = g j ∨ f j = 0) : voteAt [(w, h, f), (w, h, g), (w, h, f), (w, h, g)] j = g j := by
  show mostB ([f j, g j, f j, g j].foldl cntStep zF) = g j
  obtain ⟨c, e⟩ := fin_of hg
  rcases hfg with h1 | h1
  · rw [h1, e]; exact vote4 c
  · rw [h1, e]; exact vote4z c

/-! ### filled from the plan -/
theorem wrong_none {f g : Nat → Int} (h : ∀ j, j < 144 → f j ≠ 0 → g j = f j) : wrongOf f g = [] := by
  unfold wrongOf
  have : ((List.range' 0 144).filter fun i => cond (f i != 0) (f i != g i) false) = [] := by
    rw [List.filter_eq_nil_iff]
    intro j hj
    have hj : j < 144 := by have := List.mem_range'_1.1 hj; omega
    by_cases h0 : f j = 0
    · rw [n_eq h0]; simp
    · rw [n_ne h0, h j hj h0]; simp
  rw [this]; rfl
theorem wrong_len (f g : Nat → Int) : (wrongOf f g).length ≤ 144 := by
  unfold wrongOf
  rw [List.length_map]
  exact Nat.le_trans (List.length_filter_le _ _) (by simp)
theorem fill_plan {w h : Int} {f g : Nat → Int} (hs : Siz w h) (hg : Drw w h g) (hfg : ∀ j, j < 144 → f j = g j ∨ f j = 0) {j : Nat} (hj : j < 144) : cellsF f g (cellsOf w h) f j = g j := by
  obtain ⟨hw, hh⟩ := hs.i8
  rw [cellsF_at]
  split
  · rfl
  · rename_i hn
    rcases hfg j hj with h1 | h1
    · exact h1
    · by_cases h2 : g j = 0
      · rw [h1, h2]
      · exfalso
        refine hn ⟨List.mem_filter.2 ⟨List.mem_range'_1.2 ⟨Nat.zero_le j, by omega⟩, ?_⟩, h1⟩
        rw [isIn_eq hw hh hj]
        simp [hg.out j hj h2]
end Go.RR
