/- Plain facts of pictures that are drawn: numbers that are picked lie in their range, and the picture is valid. -/
import Derived.Test.YtkohnhkehedflaaWd
import Derived.Test.YtkohnhkehedflaaVo
set_option linter.unusedVariables false
set_option linter.unusedSimpArgs false
namespace Go.RR
open Go

abbrev Byt (l : List Int) : Prop := l.length ≤ 5000 ∧ ∀ x ∈ l, 0 ≤ x ∧ x ≤ 255
theorem and255 (x : Int) : 0 ≤ IntKind.wrap .i64 (bAnd .u64 x 255) ∧ IntKind.wrap .i64 (bAnd .u64 x 255) ≤ 255 := by
  have e : bAnd .u64 x 255 = ((BitVec.ofInt 64 x &&& BitVec.ofInt 64 255).toNat : Int) := by
    have hlt : (BitVec.ofInt 64 x &&& BitVec.ofInt 64 255).toNat < 18446744073709551616 := (BitVec.ofInt 64 x &&& BitVec.ofInt 64 255).isLt
    exact IntWalk.u64_in ((BitVec.ofInt 64 x &&& BitVec.ofInt 64 255).toNat : Int) (by omega)
  have hle : (BitVec.ofInt 64 x &&& BitVec.ofInt 64 255).toNat ≤ 255 := by
    rw [BitVec.toNat_and]
    exact Nat.and_le_right
  rw [e, IntWalk.i64_in _ (by omega)]
  omega
theorem next_ok {n : Nat} {sd : Int} {l : List Int} (hl : Byt l) (hn : n ≤ 100000) : ∃ x sd', s_sl00Src_next (n : Int) sd l = some (x, ((n + 1 : Nat) : Int), sd') ∧ 0 ≤ x ∧ x ≤ 255 := by
  unfold s_sl00Src_next
  rw [succ64 (by omega)]
  have h40 : decide (40 < 0) = false := rfl
  by_cases h : n < l.length
  · have hx := hl.2 _ (getD_mem' (d := 0) h)
    rw [lt_true h, inB_nat h, decide_eq_true (show ((n + 1 : Nat) : Int) ≤ (l.length : Int) by omega), toNat_nat]
    exact ⟨_, _, rfl, by rw [IntWalk.i64_in _ (by omega)]; exact hx⟩
  · rw [decide_eq_false (show ¬ ((n : Int) < (l.length : Int)) by omega), cond_false, decide_eq_false (show ¬ ((n + 1 : Nat) : Int) ≤ (l.length : Int) by omega), cond_false, h40, cond_false]
    exact ⟨_, _, rfl, and255 _⟩
theorem pick_ok {n : Nat} {k sd : Int} {l : List Int} (hl : Byt l) (hn : n ≤ 10000) (hk : k ≤ 60000) : ∃ (x : Int) (m : Nat) (sd' : Int), s_sl00Src_pick k (n : Int) sd l = some (x, (m : Int), sd') ∧ (k ≤ 1 → x = 0) ∧ (1 < k → 0 ≤ x ∧ x < k) ∧ n ≤ m ∧ m ≤ n + 2 := by
  unfold s_sl00Src_pick
  by_cases h : k ≤ 1
  · rw [decide_eq_true h]
    exact ⟨0, n, sd, rfl, fun _ => rfl, fun h' => by omega, Nat.le_refl _, by omega⟩
  · rw [decide_eq_false h, cond_false]
    obtain ⟨x, s1, e1, x1, x2⟩ := next_ok (sd := sd) hl (show n ≤ 100000 by omega)
    have hk0 : decide (k = 0) = false := decide_eq_false (by omega)
    rw [e1]
    dsimp only [Option.bind]
    by_cases h2 : k > 200
    · obtain ⟨y, s2, e2, y1, y2⟩ := next_ok (sd := s1) hl (show n + 1 ≤ 100000 by omega)
      rw [decide_eq_true h2, cond_true, e2]
      dsimp only
      rw [hk0, cond_false, IntWalk.i64_in (x * 256) (by omega), IntWalk.i64_in _ (by omega)]
      refine ⟨_, n + 2, s2, rfl, fun h' => by omega, fun _ => ?_, by omega, by omega⟩
      rw [Int.tmod_eq_emod_of_nonneg (by omega)]
      exact ⟨Int.emod_nonneg _ (by omega), Int.emod_lt_of_pos _ (by omega)⟩
    · rw [decide_eq_false h2, cond_false, hk0, cond_false]
      refine ⟨_, n + 1, s1, rfl, fun h' => by omega, fun _ => ?_, by omega, by omega⟩
      rw [Int.tmod_eq_emod_of_nonneg (by omega)]
      exact ⟨Int.emod_nonneg _ (by omega), Int.emod_lt_of_pos _ (by omega)⟩
theorem P6Pick_ok {k : Int} {l : List Int} (hl : Byt l) (hk : 1 ≤ k ∧ k ≤ 60000) : ∃ x, s_sP6Pick l k = some x ∧ 0 ≤ x ∧ x < k := by
  unfold s_sP6Pick
  obtain ⟨x, m, sd, e, h1, h2, _⟩ := pick_ok (n := 0) (k := k) (sd := 0) hl (by omega) (by omega)
  have e : s_sl00Src_pick k (s_sl00From l).1 (s_sl00From l).2 l = some (x, (m : Int), sd) := e
  rw [e]
  refine ⟨x, rfl, ?_⟩
  by_cases hk1 : k ≤ 1
  · rw [h1 hk1]; omega
  · exact h2 (by omega)

/-! ### valid pictures -/
/-- Cells of a picture that is being drawn. -/
structure Drw (w h : Int) (f : Nat → Int) : Prop where
  rng : ∀ j, j < 144 → 0 ≤ f j ∧ f j < 16
  out : ∀ j, j < 144 → f j ≠ 0 → (j : Int) % 12 < w ∧ (j : Int) / 12 < h
abbrev Siz (w h : Int) : Prop := (1 ≤ w ∧ w ≤ 12) ∧ (1 ≤ h ∧ h ≤ 12)
theorem Siz.i8 {w h : Int} (s : Siz w h) : I8 w ∧ I8 h := ⟨by omega, by omega⟩
theorem valid_mk {w h : Int} {f : Nat → Int} (hs : Siz w h) (hd : Drw w h f) : s_sl01Ok w h f = true := by
  obtain ⟨hw, hh⟩ := hs.i8
  unfold s_sl01Ok
  rw [w64 hw, w64 hh, s57_eq, s57_eq]
  have all : ∀ (k i : Nat), i + k ≤ 144 → allN (p47 w h f) i k = true := by
    intro k
    induction k with
    | zero => intro i _; rfl
    | succ k ih =>
      intro i hi
      simp only [allN, ih (i + 1) (by omega), Bool.and_true]
      unfold p47
      rw [s81_in hw hh (by omega), isIn_eq hw hh (by omega)]
      have h1 := hd.rng i (by omega)
      rw [decide_eq_false (show ¬ f i ≥ 16 by omega)]
      by_cases h0 : f i = 0
      · rw [h0]; simp
      · obtain ⟨h2, h3⟩ := hd.out i (by omega) h0
        rw [decide_eq_true h2, decide_eq_true h3]; rfl
  rw [all 144 0 (by omega), decide_eq_true hs.1.1, decide_eq_true hs.1.2, decide_eq_true hs.2.1, decide_eq_true hs.2.2]; rfl
theorem drw_zero (w h : Int) : Drw w h zF := ⟨fun j _ => ⟨Int.le_refl 0, by show (0 : Int) < 16; omega⟩, fun j _ h0 => absurd rfl h0⟩
theorem upd_at (f : Nat → Int) (i : Nat) (x : Int) (j : Nat) : upd f i x j = if j = i then x else f j := by
  unfold upd
  by_cases e : j = i
  · subst e; simp
  · rw [beqF e, if_neg e]; rfl
theorem drw_set {w h : Int} {f : Nat → Int} (hd : Drw w h f) {i : Nat} {x : Int} (hx : 0 ≤ x ∧ x < 16) (hi : x ≠ 0 → (i : Int) % 12 < w ∧ (i : Int) / 12 < h) : Drw w h (upd f i x) := by
  refine ⟨fun j hj => ?_, fun j hj h0 => ?_⟩
  · rw [upd_at]; split
    · exact hx
    · exact hd.rng j hj
  · rw [upd_at] at h0
    split at h0
    · rename_i e; subst e; exact hi h0
    · exact hd.out j hj h0
theorem drawn_ok {n : Nat} {sd : Int} {l : List Int} (hl : Byt l) (hn : n ≤ 1000) : ∃ (w h : Int) (f : Nat → Int) (m : Nat) (sd' : Int), s_sl01Drawn (n : Int) sd l = some (w, h, f, (m : Int), sd') ∧ ((1 ≤ w ∧ w ≤ 6) ∧ (1 ≤ h ∧ h ≤ 6)) ∧ Drw w h f ∧ n ≤ m ∧ m ≤ n + 1000 := by
  unfold s_sl01Drawn
  obtain ⟨x1, m1, s1, e1, _, q1, l1, u1⟩ := pick_ok (n := n) (k := 6) (sd := sd) hl (by omega) (by omega)
  obtain ⟨x2, m2, s2, e2, _, q2, l2, u2⟩ := pick_ok (n := m1) (k := 6) (sd := s1) hl (by omega) (by omega)
  obtain ⟨x3, m3, s3, e3, _, q3, l3, u3⟩ := pick_ok (n := m2) (k := 4) (sd := s2) hl (by omega) (by omega)
  have q1 := q1 (by omega)
  have q2 := q2 (by omega)
  have q3 := q3 (by omega)
  rw [e1]; dsimp only [Option.bind]
  rw [e2]; dsimp only
  rw [e3]; dsimp only
  rw [IntWalk.i64_in (1 + x3) (by omega), IntWalk.i64_in (1 + x1) (by omega), IntWalk.i64_in (1 + x2) (by omega), IntWalk.i8_in (1 + x1) (by omega), IntWalk.i8_in (1 + x2) (by omega)]
  -- the state of the first loop
  have hsz : Siz (1 + x1) (1 + x2) := ⟨⟨by omega, by omega⟩, by omega, by omega⟩
  obtain ⟨hw, hh⟩ := hsz.i8
  have loop : ∀ (k i M : Nat) (m : Nat) (sd : Int) (f : Nat → Int), i + k = 144 → k < M → m3 ≤ m → m ≤ m3 + 2 * i → Drw (1 + x1) (1 + x2) f →
      ∃ (w h : Int) (f' : Nat → Int) (m' : Nat) (sd' : Int), iter (fun x => f_sl01Drawn_n4 x.1 x.2.1 x.2.2.1 x.2.2.2.1 x.2.2.2.2.1 x.2.2.2.2.2.1 x.2.2.2.2.2.2.1 x.2.2.2.2.2.2.2.1 x.2.2.2.2.2.2.2.2.1 x.2.2.2.2.2.2.2.2.2.1 x.2.2.2.2.2.2.2.2.2.2) M (1 + x3, (i : Int), (m : Int), sd, l, 0, 0, zF, 1 + x1, 1 + x2, f) = some (w, h, f', (m' : Int), sd') ∧ ((1 ≤ w ∧ w ≤ 6) ∧ (1 ≤ h ∧ h ≤ 6)) ∧ Drw w h f' ∧ n ≤ m' ∧ m' ≤ n + 1000 := by
    intro k
    induction k with
    | zero =>
      intro i M m sd f hi hM hm1 hm2 hd
      obtain ⟨M, rfl⟩ : ∃ K, M = K + 1 := ⟨M - 1, by omega⟩
      obtain rfl : i = 144 := hi
      obtain ⟨x5, m5, s5, e5, _, q5, l5, u5⟩ := pick_ok (n := m) (k := 5) (sd := sd) hl (by omega) (by omega)
      have q5 := q5 (by omega)
      unfold iter
      dsimp only
      have hend : decide (((144 : Nat) : Int) < 144) = false := rfl
      unfold f_sl01Drawn_n4
      rw [hend, cond_false, e5]
      dsimp only [Option.bind]
      by_cases h0 : x5 = 0
      · rw [show (x5 == 0) = true from by rw [h0]; rfl, cond_true]
        -- mirrored
        have mir : ∀ (k i : Nat) (f : Nat → Int) (M : Nat), i + k = 144 → k < M → Drw (1 + x1) (1 + x2) f → ∃ f' : Nat → Int, iter (fun x => f_sl01Drawn_n11 x.1 x.2.1 x.2.2.1 x.2.2.2.1 x.2.2.2.2.1 x.2.2.2.2.2.1 x.2.2.2.2.2.2.1 x.2.2.2.2.2.2.2.1 x.2.2.2.2.2.2.2.2.1 x.2.2.2.2.2.2.2.2.2) M ((i : Int), (m5 : Int), s5, l, 0, 0, zF, 1 + x1, 1 + x2, f) = some (1 + x1, 1 + x2, f', (m5 : Int), s5) ∧ Drw (1 + x1) (1 + x2) f' := by
          intro k
          induction k with
          | zero =>
            intro i f M hi hM hd
            obtain ⟨M, rfl⟩ : ∃ K, M = K + 1 := ⟨M - 1, by omega⟩
            obtain rfl : i = 144 := hi
            unfold iter
            dsimp only
            unfold f_sl01Drawn_n11
            rw [hend, cond_false]
            exact ⟨f, rfl, hd⟩
          | succ k ih =>
            intro i f M hi hM hd
            obtain ⟨M, rfl⟩ : ∃ K, M = K + 1 := ⟨M - 1, by omega⟩
            have hi144 : i < 144 := by omega
            unfold iter
            dsimp only
            unfold f_sl01Drawn_n11
            rw [lt144 hi144, cond_true, s81_in hw hh hi144, isIn_eq hw hh hi144, succ64 (by omega)]
            cases hin : (decide ((i : Int) % 12 < 1 + x1) && decide ((i : Int) / 12 < 1 + x2)) with
            | false => exact ih (i + 1) f M (by omega) (by omega) hd
            | true =>
              simp only [Bool.and_eq_true, decide_eq_true_eq] at hin
              have ei : IntKind.wrap .i64 ((IntKind.wrap .i64 ((IntKind.wrap .i64 ((i : Int) - (IntKind.wrap .i64 (2 * (Int.tmod i 12))))) + (IntKind.wrap .i64 (1 + x1)))) - 1) = (i : Int) - 2 * ((i : Int) % 12) + (1 + x1) - 1 := by
                rw [col, IntWalk.i64_in (2 * ((i : Int) % 12)) (by omega), IntWalk.i64_in ((i : Int) - _) (by omega), w64 hw, IntWalk.i64_in (_ + (1 + x1)) (by omega), IntWalk.i64_in _ (by omega)]
              obtain ⟨q, hq⟩ : ∃ q : Nat, (i : Int) - 2 * ((i : Int) % 12) + (1 + x1) - 1 = (q : Int) := ⟨((i : Int) - 2 * ((i : Int) % 12) + (1 + x1) - 1).toNat, by omega⟩
              have hq2 : q < 144 := by omega
              rw [ei, hq, inB_nat hq2, inB_nat hi144, toNat_nat, toNat_nat]
              exact ih (i + 1) (upd f i (f q)) M (by omega) (by omega) (drw_set hd (hd.rng q hq2) fun _ => hin)
        obtain ⟨f', r1, r2⟩ := mir 144 0 f FU (by omega) (FU_big (pow_big (by omega))) hd
        have r1 : f_sl01Drawn_run11 (0, (m5 : Int), s5, l, 0, 0, zF, 1 + x1, 1 + x2, f) = some (1 + x1, 1 + x2, f', (m5 : Int), s5) := r1
        rw [r1]
        exact ⟨_, _, f', m5, s5, rfl, ⟨⟨by omega, by omega⟩, by omega, by omega⟩, r2, by omega, by omega⟩
      · rw [show (x5 == 0) = false from by simpa using h0, cond_false]
        by_cases h1 : x5 = 1
        · rw [show (x5 == 1) = true from by rw [h1]; rfl, cond_true]
          obtain ⟨h', eh, hh1, hh2⟩ : ∃ h', s_sl01Least (1 + x2) (1 + x1) = h' ∧ (1 ≤ h' ∧ h' ≤ 6) ∧ h' ≤ 1 + x2 := by
            unfold s_sl01Least
            by_cases hc : 1 + x2 < 1 + x1
            · rw [decide_eq_true hc]; exact ⟨_, rfl, by show _ ∧ _; constructor <;> (simp only [cond_true]; omega), by simp⟩
            · rw [decide_eq_false hc]; exact ⟨_, rfl, by show _ ∧ _; constructor <;> (simp only [cond_false]; omega), by simp only [cond_false]; omega⟩
          rw [eh]
          have hsz' : Siz (1 + x1) h' := ⟨⟨by omega, by omega⟩, by omega, by omega⟩
          obtain ⟨_, hh'⟩ := hsz'.i8
          have cut : ∀ (k i : Nat) (f : Nat → Int) (M : Nat), i + k = 144 → k < M → (∀ j, j < 144 → 0 ≤ f j ∧ f j < 16) → (∀ j, j < i → f j ≠ 0 → (j : Int) % 12 < 1 + x1 ∧ (j : Int) / 12 < h') → ∃ f' : Nat → Int, iter (fun x => f_sl01Drawn_n18 x.1 x.2.1 x.2.2.1 x.2.2.2.1 x.2.2.2.2.1 x.2.2.2.2.2.1 x.2.2.2.2.2.2.1 x.2.2.2.2.2.2.2.1 x.2.2.2.2.2.2.2.2.1 x.2.2.2.2.2.2.2.2.2) M ((i : Int), (m5 : Int), s5, l, 0, 0, zF, 1 + x1, h', f) = some (1 + x1, h', f', (m5 : Int), s5) ∧ Drw (1 + x1) h' f' := by
            intro k
            induction k with
            | zero =>
              intro i f M hi hM hd1 hd2
              obtain ⟨M, rfl⟩ : ∃ K, M = K + 1 := ⟨M - 1, by omega⟩
              obtain rfl : i = 144 := hi
              unfold iter
              dsimp only
              unfold f_sl01Drawn_n18
              rw [hend, cond_false]
              exact ⟨f, rfl, hd1, hd2⟩
            | succ k ih =>
              intro i f M hi hM hd1 hd2
              obtain ⟨M, rfl⟩ : ∃ K, M = K + 1 := ⟨M - 1, by omega⟩
              have hi144 : i < 144 := by omega
              unfold iter
              dsimp only
              unfold f_sl01Drawn_n18
              rw [lt144 hi144, cond_true, s81_in hw hh' hi144, isIn_eq hw hh' hi144, succ64 (by omega), inB_nat hi144, toNat_nat]
              cases hin : (decide ((i : Int) % 12 < 1 + x1) && decide ((i : Int) / 12 < h')) with
              | true =>
                simp only [Bool.and_eq_true, decide_eq_true_eq] at hin
                refine ih (i + 1) f M (by omega) (by omega) hd1 fun j hj h0 => ?_
                by_cases e : j = i
                · subst e; exact hin
                · exact hd2 j (by omega) h0
              | false =>
                refine ih (i + 1) (upd f i 0) M (by omega) (by omega) (fun j hj => ?_) fun j hj h0 => ?_
                · rw [upd_at]; split
                  · omega
                  · exact hd1 j hj
                · rw [upd_at] at h0
                  split at h0
                  · exact absurd rfl h0
                  · exact hd2 j (by omega) h0
          obtain ⟨f', r1, r2⟩ := cut 144 0 f FU (by omega) (FU_big (pow_big (by omega))) hd.rng (fun j hj => by omega)
          have r1 : f_sl01Drawn_run18 (0, (m5 : Int), s5, l, 0, 0, zF, 1 + x1, h', f) = some (1 + x1, h', f', (m5 : Int), s5) := r1
          rw [r1]
          exact ⟨_, _, f', m5, s5, rfl, ⟨⟨by omega, by omega⟩, by omega, by omega⟩, r2, by omega, by omega⟩
        · rw [show (x5 == 1) = false from by simpa using h1, cond_false]
          exact ⟨_, _, f, m5, s5, rfl, ⟨⟨by omega, by omega⟩, by omega, by omega⟩, hd, by omega, by omega⟩
    | succ k ih =>
      intro i M m sd f hi hM hm1 hm2 hd
      obtain ⟨M, rfl⟩ : ∃ K, M = K + 1 := ⟨M - 1, by omega⟩
      have hi144 : i < 144 := by omega
      unfold iter
      dsimp only
      unfold f_sl01Drawn_n4
      rw [lt144 hi144, cond_true, s81_in hw hh hi144, isIn_eq hw hh hi144, succ64 (by omega)]
      cases hin : (decide ((i : Int) % 12 < 1 + x1) && decide ((i : Int) / 12 < 1 + x2)) with
      | false => exact ih (i + 1) M m sd f (by omega) (by omega) hm1 (by omega) hd
      | true =>
        simp only [Bool.and_eq_true, decide_eq_true_eq] at hin
        obtain ⟨x4, m4, s4, e4, z4, q4, l4, u4⟩ := pick_ok (n := m) (k := 1 + x3) (sd := sd) hl (by omega) (by omega)
        have r4 : 0 ≤ x4 ∧ x4 < 16 := by
          by_cases hk : 1 + x3 ≤ 1
          · rw [z4 hk]; omega
          · have := q4 (by omega); omega
        rw [e4, cond_true]
        dsimp only [Option.bind]
        rw [inB_nat hi144, cond_true, toNat_nat, IntWalk.u8_in x4 (by omega)]
        exact ih (i + 1) M m4 s4 (upd f i x4) (by omega) (by omega) (by omega) (by omega) (drw_set hd r4 fun _ => hin)
  exact loop 144 0 FU m3 s3 zF (by omega) (FU_big (pow_big (by omega))) (Nat.le_refl _) (by omega) (drw_zero _ _)
theorem P6Picture_ok {l : List Int} (hl : Byt l) : ∃ (w h : Int) (f : Nat → Int), s_sP6Picture l = some (w, h, f) ∧ ((1 ≤ w ∧ w ≤ 6) ∧ (1 ≤ h ∧ h ≤ 6)) ∧ Drw w h f := by
  unfold s_sP6Picture
  obtain ⟨w, h, f, m, sd, e1, hs, hd, _, hm⟩ := drawn_ok (n := 0) (sd := 0) hl (by omega)
  have e1 : s_sl01Drawn (s_sl00From l).1 (s_sl00From l).2 l = some (w, h, f, (m : Int), sd) := e1
  rw [e1]
  dsimp only [Option.bind]
  obtain ⟨x2, m2, s2, e2, _, q2, l2, u2⟩ := pick_ok (n := m) (k := 8) (sd := sd) hl (by omega) (by omega)
  have q2 := q2 (by omega)
  rw [e2]
  dsimp only
  have hw : I8 w := by omega
  have hh : I8 h := by omega
  have loop : ∀ (k M m : Nat) (sd : Int) (f : Nat → Int), k < M → k ≤ 8 → m ≤ 9000 - 4 * k → Drw w h f → ∃ f' : Nat → Int, iter (fun x => f_sP6Picture_n4 x.1 x.2.1 x.2.2.1 x.2.2.2.1 x.2.2.2.2.1 x.2.2.2.2.2.1 x.2.2.2.2.2.2.1 x.2.2.2.2.2.2.2.1 x.2.2.2.2.2.2.2.2.1 x.2.2.2.2.2.2.2.2.2) M ((k : Int), 0, 0, zF, (m : Int), sd, l, w, h, f) = some (w, h, f') ∧ Drw w h f' := by
    intro k
    induction k with
    | zero =>
      intro M m sd f hM _ hm hd
      obtain ⟨M, rfl⟩ : ∃ K, M = K + 1 := ⟨M - 1, by omega⟩
      unfold iter
      dsimp only
      unfold f_sP6Picture_n4
      have : decide (((0 : Nat) : Int) > 0) = false := rfl
      rw [this, cond_false]
      exact ⟨f, rfl, hd⟩
    | succ k ih =>
      intro M m sd f hM hk hm hd
      obtain ⟨M, rfl⟩ : ∃ K, M = K + 1 := ⟨M - 1, by omega⟩
      obtain ⟨x3, m3, s3, e3, z3, q3, l3, u3⟩ := pick_ok (n := m) (k := w) (sd := sd) hl (by omega) (by omega)
      obtain ⟨x4, m4, s4, e4, z4, q4, l4, u4⟩ := pick_ok (n := m3) (k := h) (sd := s3) hl (by omega) (by omega)
      have r3 : 0 ≤ x3 ∧ x3 < 6 := by
        by_cases hk : w ≤ 1
        · rw [z3 hk]; omega
        · have := q3 (by omega); omega
      have r4 : 0 ≤ x4 ∧ x4 < 6 := by
        by_cases hk : h ≤ 1
        · rw [z4 hk]; omega
        · have := q4 (by omega); omega
      unfold iter
      dsimp only
      unfold f_sP6Picture_n4
      rw [decide_eq_true (show ((k + 1 : Nat) : Int) > 0 by omega), cond_true, w64 hw, w64 hh, e3]
      dsimp only [Option.bind]
      rw [e4]
      dsimp only
      obtain ⟨p1, p2⟩ := place_in (x := x3) (y := x4) (by omega) (by omega)
      rw [p1, p2, cond_true, IntWalk.i64_in (((k + 1 : Nat) : Int) - 1) (by omega), show ((k + 1 : Nat) : Int) - 1 = (k : Int) by omega]
      exact ih M m4 s4 _ (by omega) (by omega) (by omega) (drw_set hd (by omega) fun h0 => absurd rfl h0)
  obtain ⟨k, rfl⟩ : ∃ k : Nat, x2 = (k : Int) := ⟨x2.toNat, by omega⟩
  obtain ⟨f', r1, r2⟩ := loop k FU m2 s2 f (FU_big (pow_big (by omega))) (by omega) (by omega) hd
  exact ⟨w, h, f', r1, hs, r2⟩
end Go.RR
