/- Plain facts of periods: least ones, pictures that are tiled, conflicts, filling by periods. -/
import Derived.Test.YtkohnhkehedflaaWx
import Derived.Test.YtkohnhkehedflaaWi
import Derived.Test.YtkohnhkehedflaaEd
set_option linter.unusedVariables false
set_option linter.unusedSimpArgs false
namespace Go.RR
open Go

theorem firstN_spec (p : Nat → Bool) : ∀ (k i : Nat), i ≤ firstN p k i ∧ firstN p k i ≤ i + k ∧ (∀ j, i ≤ j → j < firstN p k i → p j = false) ∧ (firstN p k i = i + k ∨ p (firstN p k i) = true)
  | 0, i => ⟨Nat.le_refl _, Nat.le_refl _, fun j h1 h2 => by simp only [firstN] at h2; omega, .inl rfl⟩
  | k + 1, i => by
    simp only [firstN]
    cases hp : p i with
    | true => exact ⟨Nat.le_refl _, by simp only [cond_true]; omega, fun j h1 h2 => by simp only [cond_true] at h2; omega, .inr hp⟩
    | false =>
      simp only [cond_false]
      obtain ⟨h1, h2, h3, h4⟩ := firstN_spec p k (i + 1)
      refine ⟨by omega, by omega, fun j h5 h6 => ?_, h4.imp (fun h => by omega) id⟩
      by_cases e : j = i
      · subst e; exact hp
      · exact h3 j (by omega) h6
noncomputable def perX (w h : Int) (f : Nat → Int) : Nat := firstN (fun e => reps w h f (e : Int) 0) (w.toNat - 1) 1
noncomputable def perY (w h : Int) (f : Nat → Int) : Nat := firstN (fun s => reps w h f 0 (s : Int)) (h.toNat - 1) 1
theorem periods_eq {w h : Int} {f : Nat → Int} (hs : Siz w h) (hv : s_sl01Ok w h f = true) : s_sPeriodsOf w h f = some ((perX w h f : Int), (perY w h f : Int), 0) ∧ s_iPeriodsOf w h f = some ((perX w h f : Int), (perY w h f : Int), 0) := by
  obtain ⟨hw, hh⟩ := hs.i8
  obtain ⟨h1, h2⟩ := hs
  unfold s_sPeriodsOf s_iPeriodsOf perX perY
  rw [valid_eq hw hh, hv]
  have ew : ((w.toNat : Nat) : Int) = w := Int.toNat_of_nonneg (by omega)
  have eh : ((h.toNat : Nat) : Int) = h := Int.toNat_of_nonneg (by omega)
  simp only [Bool.not_true, cond_false]
  have r7 : ∀ e : Int, f_sPeriodsOf_run7 (e, 1, w, h, f) = some (e, ((firstN (fun s => reps w h f 0 (s : Int)) (h.toNat - 1) 1 : Nat) : Int), 0) := by
    intro e
    unfold f_sPeriodsOf_run7
    refine iter_first (fun s => (e, (s : Int), w, h, f)) (fun s => reps w h f 0 (s : Int)) (fun s => (e, (s : Int), 0)) h.toNat ?_ ?_ (h.toNat - 1) 1 FU (by omega) (FU_big (pow_big (by omega)))
    · intro s hs
      show f_sPeriodsOf_n7 e s w h f = _
      unfold f_sPeriodsOf_n7
      rw [s68_eq h1 h2 (by omega) (by omega), succ64 (by omega)]
      simp only [Option.bind]
      cases reps w h f 0 (s : Int) <;> rfl
    · show f_sPeriodsOf_n7 e (h.toNat : Int) w h f = _
      unfold f_sPeriodsOf_n7
      rw [eh, s68_eq h1 h2 (by omega) (by omega), reps_south]
      rfl
  have r6 : ∀ e : Int, f_iPeriodsOf_run6 (e, 1, w, h, f) = some (e, ((firstN (fun s => reps w h f 0 (s : Int)) (h.toNat - 1) 1 : Nat) : Int), 0) := by
    intro e
    unfold f_iPeriodsOf_run6
    refine iter_first (fun s => (e, (s : Int), w, h, f)) (fun s => reps w h f 0 (s : Int)) (fun s => (e, (s : Int), 0)) h.toNat ?_ ?_ (h.toNat - 1) 1 FU (by omega) (FU_big (pow_big (by omega)))
    · intro s hs
      show f_iPeriodsOf_n6 e s w h f = _
      unfold f_iPeriodsOf_n6
      rw [s70_eq h1 h2 (by omega) (by omega), succ64 (by omega)]
      simp only [Option.bind]
      cases reps w h f 0 (s : Int) <;> rfl
    · show f_iPeriodsOf_n6 e (h.toNat : Int) w h f = _
      unfold f_iPeriodsOf_n6
      rw [eh, s70_eq h1 h2 (by omega) (by omega), reps_south]
      rfl
  refine ⟨?_, ?_⟩
  · unfold f_sPeriodsOf_run4
    refine iter_first (fun e => ((e : Int), w, h, f)) (fun e => reps w h f (e : Int) 0) (fun e => ((e : Int), ((firstN (fun s => reps w h f 0 (s : Int)) (h.toNat - 1) 1 : Nat) : Int), (0 : Int))) w.toNat ?_ ?_ (w.toNat - 1) 1 FU (by omega) (FU_big (pow_big (by omega)))
    · intro e he
      show f_sPeriodsOf_n4 e w h f = _
      unfold f_sPeriodsOf_n4
      rw [s68_eq h1 h2 (by omega) (by omega), succ64 (by omega), r7]
      simp only [Option.bind]
      cases reps w h f (e : Int) 0 <;> rfl
    · show f_sPeriodsOf_n4 (w.toNat : Int) w h f = _
      unfold f_sPeriodsOf_n4
      rw [ew, s68_eq h1 h2 (by omega) (by omega), reps_east, r7]
      rfl
  · unfold f_iPeriodsOf_run4
    refine iter_first (fun e => ((e : Int), 1, w, h, f)) (fun e => reps w h f (e : Int) 0) (fun e => ((e : Int), ((firstN (fun s => reps w h f 0 (s : Int)) (h.toNat - 1) 1 : Nat) : Int), (0 : Int))) w.toNat ?_ ?_ (w.toNat - 1) 1 FU (by omega) (FU_big (pow_big (by omega)))
    · intro e he
      show f_iPeriodsOf_n4 e 1 w h f = _
      unfold f_iPeriodsOf_n4
      rw [s70_eq h1 h2 (by omega) (by omega), succ64 (by omega), r6]
      simp only [Option.bind]
      cases reps w h f (e : Int) 0 <;> rfl
    · show f_iPeriodsOf_n4 (w.toNat : Int) 1 w h f = _
      unfold f_iPeriodsOf_n4
      rw [ew, s70_eq h1 h2 (by omega) (by omega), reps_east, r6]
      rfl
theorem perX_spec {w h : Int} {f : Nat → Int} (hs : Siz w h) : 1 ≤ perX w h f ∧ (∀ k : Nat, 1 ≤ k → k < perX w h f → reps w h f (k : Int) 0 = false) ∧ reps w h f (perX w h f : Int) 0 = true := by
  obtain ⟨h1, h2, h3, h4⟩ := firstN_spec (fun e => reps w h f (e : Int) 0) (w.toNat - 1) 1
  refine ⟨h1, h3, ?_⟩
  rcases h4 with h4 | h4
  · have : ((perX w h f : Nat) : Int) = w := by
      unfold perX
      have := hs.1
      omega
    rw [this]; exact reps_east
  · exact h4
theorem perY_spec {w h : Int} {f : Nat → Int} (hs : Siz w h) : 1 ≤ perY w h f ∧ (∀ k : Nat, 1 ≤ k → k < perY w h f → reps w h f 0 (k : Int) = false) ∧ reps w h f 0 (perY w h f : Int) = true := by
  obtain ⟨h1, h2, h3, h4⟩ := firstN_spec (fun s => reps w h f 0 (s : Int)) (h.toNat - 1) 1
  refine ⟨h1, h3, ?_⟩
  rcases h4 with h4 | h4
  · have : ((perY w h f : Nat) : Int) = h := by
      unfold perY
      have := hs.2
      omega
    rw [this]; exact reps_south
  · exact h4
theorem repeats_eq {w h : Int} {f : Nat → Int} {e s : Int} (hs : Siz w h) (hv : s_sl01Ok w h f = true) (he : 0 ≤ e ∧ e ≤ w) (hss : 0 ≤ s ∧ s ≤ h) (hz : e ≠ 0 ∨ s ≠ 0) : s_sRepeatsBy w h f e s = some (reps w h f e s, 0) ∧ s_iRepeatsBy w h f e s = some (reps w h f e s, 0) := by
  obtain ⟨hw, hh⟩ := hs.i8
  obtain ⟨h1, h2⟩ := hs
  unfold s_sRepeatsBy s_iRepeatsBy s_iPicture_size
  simp only
  rw [valid_eq hw hh, hv, s57_eq, s57_eq, s63_eq, s63_eq, w64 hw, w64 hh, decide_eq_true he.1, decide_eq_true he.2, decide_eq_true hss.1, decide_eq_true hss.2, s68_eq h1 h2 (by omega) (by omega), s70_eq h1 h2 (by omega) (by omega)]
  simp only [bne]
  by_cases e0 : e = 0
  · have s0 : ¬ s = 0 := by omega
    rw [z_eq e0, z_ne s0]
    exact ⟨rfl, rfl⟩
  · rw [z_ne e0]
    exact ⟨rfl, rfl⟩

/-! ### tiles -/
def tile (a b : Int) (i : Nat) : Int := 1 + ((i : Int) % 12 % a + 2 * ((i : Int) / 12 % b)) % 5
theorem tile_rng {a b : Int} (ha : 1 ≤ a) (hb : 1 ≤ b) (i : Nat) : 1 ≤ tile a b i ∧ tile a b i ≤ 5 := by
  have h1 : 0 ≤ (i : Int) % 12 % a := Int.emod_nonneg _ (by omega)
  have h2 : 0 ≤ (i : Int) / 12 % b := Int.emod_nonneg _ (by omega)
  unfold tile
  omega
theorem tiled_ok {l : List Int} {a b : Int} (hl : Byt l) (ha : 1 ≤ a ∧ a ≤ 3) (hb : 1 ≤ b ∧ b ≤ 3) : ∃ (w h : Int) (f : Nat → Int), s_sP6Tiled l a b = some (w, h, f) ∧ ((1 ≤ w ∧ w ≤ 6) ∧ (1 ≤ h ∧ h ≤ 6)) ∧ Drw w h f ∧ ∀ j, j < 144 → f j ≠ 0 → f j = tile a b j := by
  unfold s_sP6Tiled
  obtain ⟨w, h, f, m, sd, e1, hs, hd, _, hm⟩ := drawn_ok (n := 0) (sd := 0) hl (by omega)
  have e1 : s_sl01Drawn (s_sl00From l).1 (s_sl00From l).2 l = some (w, h, f, (m : Int), sd) := e1
  rw [e1]
  dsimp only [Option.bind]
  have hw : I8 w := by omega
  have hh : I8 h := by omega
  have lose : ∀ (k M m : Nat) (sd : Int) (f : Nat → Int), k < M → k ≤ 8 → m ≤ 9000 - 4 * k → Drw w h f → (∀ j, j < 144 → f j ≠ 0 → f j = tile a b j) → ∃ f' : Nat → Int, iter (fun x => f_sP6Tiled_n9 x.1 x.2.1 x.2.2.1 x.2.2.2.1 x.2.2.2.2.1 x.2.2.2.2.2.1 x.2.2.2.2.2.2.1 x.2.2.2.2.2.2.2.1 x.2.2.2.2.2.2.2.2.1 x.2.2.2.2.2.2.2.2.2) M ((k : Int), 0, 0, zF, (m : Int), sd, l, w, h, f) = some (w, h, f') ∧ Drw w h f' ∧ ∀ j, j < 144 → f' j ≠ 0 → f' j = tile a b j := by
    intro k
    induction k with
    | zero =>
      intro M m sd f hM _ hm hd ht
      obtain ⟨M, rfl⟩ : ∃ K, M = K + 1 := ⟨M - 1, by omega⟩
      unfold iter
      dsimp only
      unfold f_sP6Tiled_n9
      have : decide (((0 : Nat) : Int) > 0) = false := rfl
      rw [this, cond_false]
      exact ⟨f, rfl, hd, ht⟩
    | succ k ih =>
      intro M m sd f hM hk hm hd ht
      obtain ⟨M, rfl⟩ : ∃ K, M = K + 1 := ⟨M - 1, by omega⟩
      obtain ⟨x3, m3, s3, e3, z3, q3, l3, u3⟩ := pick_ok (n := m) (k := w) (sd := sd) hl (by omega) (by omega)
      obtain ⟨x4, m4, s4, e4, z4, q4, l4, u4⟩ := pick_ok (n := m3) (k := h) (sd := s3) hl (by omega) (by omega)
      have r3 : 0 ≤ x3 ∧ x3 < 6 := by
        by_cases hk : w ≤ 1
        · rw [z3 hk]; omega
        · have := q3 (by omega); omega
      have r4 : 0 ≤ x4 ∧ x4 < 6 := by
        by_cases hk : h ≤ 1
        · rw [z4 hk]; omega
        · have := q4 (by omega); omega
      unfold iter
      dsimp only
      unfold f_sP6Tiled_n9
      rw [decide_eq_true (show ((k + 1 : Nat) : Int) > 0 by omega), cond_true, w64 hw, w64 hh, e3]
      dsimp only [Option.bind]
      rw [e4]
      dsimp only
      obtain ⟨p1, p2⟩ := place_in (x := x3) (y := x4) (by omega) (by omega)
      rw [p1, p2, cond_true, IntWalk.i64_in (((k + 1 : Nat) : Int) - 1) (by omega), show ((k + 1 : Nat) : Int) - 1 = (k : Int) by omega]
      refine ih M m4 s4 _ (by omega) (by omega) (by omega) (drw_set hd (by omega) fun h0 => absurd rfl h0) fun j hj h0 => ?_
      rw [upd_at] at h0 ⊢
      split at h0
      · exact absurd rfl h0
      · rename_i hne
        rw [if_neg hne]
        exact ht j hj h0
  have loop : ∀ (k i M : Nat) (f : Nat → Int), i + k = 144 → k < M → Drw w h f → (∀ j, j < i → f j ≠ 0 → f j = tile a b j) →
      ∃ f' : Nat → Int, iter (fun x => f_sP6Tiled_n4 x.1 x.2.1 x.2.2.1 x.2.2.2.1 x.2.2.2.2.1 x.2.2.2.2.2.1 x.2.2.2.2.2.2.1 x.2.2.2.2.2.2.2.1 x.2.2.2.2.2.2.2.2.1 x.2.2.2.2.2.2.2.2.2.1 x.2.2.2.2.2.2.2.2.2.2.1 x.2.2.2.2.2.2.2.2.2.2.2) M (a, b, (i : Int), 0, 0, zF, (m : Int), sd, l, w, h, f) = some (w, h, f') ∧ Drw w h f' ∧ ∀ j, j < 144 → f' j ≠ 0 → f' j = tile a b j := by
    intro k
    induction k with
    | zero =>
      intro i M f hi hM hd ht
      obtain ⟨M, rfl⟩ : ∃ K, M = K + 1 := ⟨M - 1, by omega⟩
      obtain rfl : i = 144 := hi
      obtain ⟨x2, m2, s2, e2, _, q2, l2, u2⟩ := pick_ok (n := m) (k := 8) (sd := sd) hl (by omega) (by omega)
      have q2 := q2 (by omega)
      unfold iter
      dsimp only
      have hend : decide (((144 : Nat) : Int) < 144) = false := rfl
      unfold f_sP6Tiled_n4
      rw [hend, cond_false, e2]
      dsimp only [Option.bind]
      obtain ⟨k, rfl⟩ : ∃ k : Nat, x2 = (k : Int) := ⟨x2.toNat, by omega⟩
      obtain ⟨f', r1, r2⟩ := lose k FU m2 s2 f (FU_big (pow_big (by omega))) (by omega) (by omega) hd ht
      have r1 : f_sP6Tiled_run9 ((k : Int), 0, 0, zF, (m2 : Int), s2, l, w, h, f) = some (w, h, f') := r1
      rw [r1]
      exact ⟨f', rfl, r2⟩
    | succ k ih =>
      intro i M f hi hM hd ht
      obtain ⟨M, rfl⟩ : ∃ K, M = K + 1 := ⟨M - 1, by omega⟩
      have hi144 : i < 144 := by omega
      unfold iter
      dsimp only
      unfold f_sP6Tiled_n4
      rw [lt144 hi144, cond_true, s81_in hw hh hi144, isIn_eq hw hh hi144, succ64 (by omega)]
      cases hin : (decide ((i : Int) % 12 < w) && decide ((i : Int) / 12 < h)) with
      | false =>
        refine ih (i + 1) M f (by omega) (by omega) hd fun j hj h0 => ?_
        by_cases e : j = i
        · subst e
          obtain ⟨c1, c2⟩ := hd.out j hi144 h0
          rw [decide_eq_true c1, decide_eq_true c2] at hin
          cases hin
        · exact ht j (by omega) h0
      | true =>
        simp only [Bool.and_eq_true, decide_eq_true_eq] at hin
        rw [cond_true, decide_eq_false (show ¬ a = 0 by omega), decide_eq_false (show ¬ b = 0 by omega), inB_nat hi144, toNat_nat]
        simp only [cond_false, cond_true]
        have h1 : 0 ≤ (i : Int) % 12 % a ∧ (i : Int) % 12 % a < a := ⟨Int.emod_nonneg _ (by omega), Int.emod_lt_of_pos _ (by omega)⟩
        have h2 : 0 ≤ (i : Int) / 12 % b ∧ (i : Int) / 12 % b < b := ⟨Int.emod_nonneg _ (by omega), Int.emod_lt_of_pos _ (by omega)⟩
        have ev : IntKind.wrap .u8 (IntKind.wrap .i64 (1 + (Int.tmod (IntKind.wrap .i64 ((Int.tmod (Int.tmod i 12) a) + (IntKind.wrap .i64 (2 * (Int.tmod (IntKind.wrap .i64 (Int.tdiv i 12)) b))))) 5))) = tile a b i := by
          rw [col, lin (by omega), Int.tmod_eq_emod_of_nonneg (show 0 ≤ (i : Int) % 12 by omega), Int.tmod_eq_emod_of_nonneg (show 0 ≤ (i : Int) / 12 by omega), IntWalk.i64_in (2 * _) (by omega), IntWalk.i64_in (_ + 2 * _) (by omega), Int.tmod_eq_emod_of_nonneg (by omega), IntWalk.i64_in _ (by omega), IntWalk.u8_in _ (by omega)]
          rfl
        rw [ev]
        have ht5 := tile_rng (a := a) (b := b) ha.1 hb.1 i
        refine ih (i + 1) M _ (by omega) (by omega) (drw_set hd (by omega) fun _ => hin) fun j hj h0 => ?_
        rw [upd_at] at h0 ⊢
        by_cases e : j = i
        · rw [if_pos e, e]
        · rw [if_neg e] at h0 ⊢
          exact ht j (by omega) h0
  obtain ⟨f', r1, r2⟩ := loop 144 0 FU f (by omega) (FU_big (pow_big (by omega))) hd (fun j hj => by omega)
  exact ⟨w, h, f', r1, hs, r2⟩

/-! ### conflicts -/
theorem pairOf_spec {bad : Nat → Nat → Bool} : ∀ (k i : Nat) (a b : Nat), pairOf bad (List.range' i k) = some (a, b) → i ≤ a ∧ a < b ∧ b < i + k ∧ bad a b = true
  | 0, i, a, b, h => by cases h
  | k + 1, i, a, b, h => by
    rw [List.range'_succ] at h
    simp only [pairOf] at h
    cases hf : (List.range' (i + 1) k).find? (bad i) with
    | some c =>
      rw [hf] at h
      cases h
      have h1 := List.mem_range'_1.1 (List.mem_of_find?_eq_some hf)
      exact ⟨Nat.le_refl _, by omega, by omega, List.find?_some hf⟩
    | none =>
      rw [hf] at h
      obtain ⟨h1, h2, h3, h4⟩ := pairOf_spec k (i + 1) a b h
      exact ⟨by omega, h2, by omega, h4⟩
theorem pairOf_none {bad : Nat → Nat → Bool} : ∀ (k i : Nat), (∀ a b, i ≤ a → a < b → b < i + k → bad a b = false) → pairOf bad (List.range' i k) = none
  | 0, i, h => rfl
  | k + 1, i, h => by
    rw [List.range'_succ]
    simp only [pairOf]
    have : (List.range' (i + 1) k).find? (bad i) = none := by
      rw [List.find?_eq_none]
      intro c hc
      have h1 := List.mem_range'_1.1 hc
      rw [h i c (Nat.le_refl _) (by omega) (by omega)]
      simp
    rw [this]
    exact pairOf_none k (i + 1) fun a b h1 h2 h3 => h a b (by omega) h2 (by omega)
theorem alike_nat {i j : Nat} (hi : i < 144) (hj : j < 144) {e s : Int} (he : 1 ≤ e) (hs : 1 ≤ s) : alikeB i j e s = (decide ((i : Int) % 12 % e = (j : Int) % 12 % e) && decide ((i : Int) / 12 % s = (j : Int) / 12 % s)) := by
  unfold alikeB
  rw [col, col, lin (by omega), lin (by omega), Int.tmod_eq_emod_of_nonneg (show 0 ≤ (i : Int) % 12 by omega), Int.tmod_eq_emod_of_nonneg (show 0 ≤ (j : Int) % 12 by omega), Int.tmod_eq_emod_of_nonneg (show 0 ≤ (i : Int) / 12 by omega), Int.tmod_eq_emod_of_nonneg (show 0 ≤ (j : Int) / 12 by omega)]
  have hee : ∀ x y : Int, (x == y) = decide (x = y) := fun x y => by by_cases h : x = y <;> simp [h]
  rw [hee, hee]
  cases decide ((i : Int) % 12 % e = (j : Int) % 12 % e) <;> rfl
theorem mod_min {x y a w : Int} (hx : 0 ≤ x ∧ x < w) (hy : 0 ≤ y ∧ y < w) (h : x % (min a w) = y % (min a w)) : x % a = y % a := by
  by_cases haw : a ≤ w
  · rw [Int.min_eq_left haw] at h; exact h
  · rw [Int.min_eq_right (by omega), Int.emod_eq_of_lt hx.1 hx.2, Int.emod_eq_of_lt hy.1 hy.2] at h
    rw [h]
theorem tile_same {w h a b : Int} {i j : Nat} (hi : (i : Int) % 12 < w ∧ (i : Int) / 12 < h) (hj : (j : Int) % 12 < w ∧ (j : Int) / 12 < h) (h1 : (i : Int) % 12 % (min a w) = (j : Int) % 12 % (min a w)) (h2 : (i : Int) / 12 % (min b h) = (j : Int) / 12 % (min b h)) : tile a b i = tile a b j := by
  unfold tile
  rw [mod_min (x := (i : Int) % 12) (y := (j : Int) % 12) (by omega) (by omega) h1, mod_min (x := (i : Int) / 12) (y := (j : Int) / 12) (by omega) (by omega) h2]
theorem no_conflict {w h a b : Int} {f : Nat → Int} (hs : Siz w h) (hd : Drw w h f) (ha : 1 ≤ a) (hb : 1 ≤ b) (ht : ∀ j, j < 144 → f j ≠ 0 → f j = tile a b j) : badP f (min a w) (min b h) = none := by
  unfold badP
  refine pairOf_none 144 0 fun i j _ hij hj => ?_
  unfold badN
  by_cases h1 : f i = 0
  · rw [n_eq h1]; rfl
  by_cases h2 : f j = 0
  · rw [n_eq h2, n_ne h1]; rfl
  rw [n_ne h1, n_ne h2, alike_nat (by omega) (by omega) (by have := hs.1; omega) (by have := hs.2; omega)]
  cases hal : (decide ((i : Int) % 12 % min a w = (j : Int) % 12 % min a w) && decide ((i : Int) / 12 % min b h = (j : Int) / 12 % min b h)) with
  | false => cases (f j != f i) <;> rfl
  | true =>
    simp only [Bool.and_eq_true, decide_eq_true_eq] at hal
    have e := tile_same (hd.out i (by omega) h1) (hd.out j (by omega) h2) hal.1 hal.2
    have : (f j != f i) = false := by rw [ht i (by omega) h1, ht j (by omega) h2, e]; simp
    rw [this]; rfl
theorem tile_reps {w h a b : Int} {f : Nat → Int} (hs : Siz w h) (hd : Drw w h f) (ha : 1 ≤ a) (hb : 1 ≤ b) (ht : ∀ j, j < 144 → f j ≠ 0 → f j = tile a b j) : reps w h f (min a w) 0 = true ∧ reps w h f 0 (min b h) = true := by
  obtain ⟨hw, hh⟩ := hs.i8
  have hs1 := hs.1
  have hs2 := hs.2
  constructor
  · unfold reps
    rw [List.all_eq_true]
    intro i hi
    have hi : i < 144 := by have := List.mem_range'_1.1 hi; omega
    cases hin : isIn w h i with
    | false => rfl
    | true =>
      rw [isIn_eq hw hh hi] at hin
      simp only [Bool.and_eq_true, decide_eq_true_eq] at hin
      rw [cond_true]
      unfold okAt
      by_cases hc : (i : Int) % 12 + min a w < w
      · have haw : min a w = a := by omega
        rw [haw] at hc ⊢
        rw [decide_eq_true hc, decide_eq_true (show (i : Int) / 12 + 0 < h by omega)]
        obtain ⟨t, et⟩ : ∃ t : Nat, (i : Int) % 12 + a + 12 * ((i : Int) / 12 + 0) = (t : Int) := ⟨((i : Int) % 12 + a + 12 * ((i : Int) / 12 + 0)).toNat, by omega⟩
        rw [et, toNat_nat]
        have t1 : (t : Int) % 12 = (i : Int) % 12 + a := by omega
        have t2 : (t : Int) / 12 = (i : Int) / 12 := by omega
        by_cases h1 : f i = 0
        · rw [n_eq h1]; rfl
        by_cases h2 : f t = 0
        · rw [n_ne h1, n_eq h2]; rfl
        have e : tile a b i = tile a b t := by
          unfold tile
          rw [t1, t2, Int.add_emod_right]
        rw [n_ne h1, n_ne h2, ht i hi h1, ht t (by omega) h2, e]
        simp
      · rw [decide_eq_false hc]; rfl
  · unfold reps
    rw [List.all_eq_true]
    intro i hi
    have hi : i < 144 := by have := List.mem_range'_1.1 hi; omega
    cases hin : isIn w h i with
    | false => rfl
    | true =>
      rw [isIn_eq hw hh hi] at hin
      simp only [Bool.and_eq_true, decide_eq_true_eq] at hin
      rw [cond_true]
      unfold okAt
      by_cases hc : (i : Int) / 12 + min b h < h
      · have haw : min b h = b := by omega
        rw [haw] at hc ⊢
        rw [decide_eq_true hc, decide_eq_true (show (i : Int) % 12 + 0 < w by omega)]
        obtain ⟨t, et⟩ : ∃ t : Nat, (i : Int) % 12 + 0 + 12 * ((i : Int) / 12 + b) = (t : Int) := ⟨((i : Int) % 12 + 0 + 12 * ((i : Int) / 12 + b)).toNat, by omega⟩
        rw [et, toNat_nat]
        have t1 : (t : Int) % 12 = (i : Int) % 12 := by omega
        have t2 : (t : Int) / 12 = (i : Int) / 12 + b := by omega
        by_cases h1 : f i = 0
        · rw [n_eq h1]; rfl
        by_cases h2 : f t = 0
        · rw [n_ne h1, n_eq h2]; rfl
        have e : tile a b i = tile a b t := by
          unfold tile
          rw [t1, t2, Int.add_emod_right]
        rw [n_ne h1, n_ne h2, ht i hi h1, ht t (by omega) h2, e]
        simp
      · rw [decide_eq_false hc, Bool.and_false]; rfl
end Go.RR
