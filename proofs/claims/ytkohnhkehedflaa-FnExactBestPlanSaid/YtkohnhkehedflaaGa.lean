/- Plain facts of the search for a plan: what is taken, what is left, the day. -/
import Derived.Test.YtkohnhkehedflaaWu
set_option linter.unusedVariables false
set_option linter.unusedSimpArgs false
namespace Go.RR
open Go

/-! ### Bits -/
abbrev tb (tk : Int) (i : Nat) : Bool := tk.toNat.testBit i
structure TkOK (n : Nat) (tk : Int) : Prop where
  rng : 0 ≤ tk ∧ tk ≤ 65535
  lt : tk.toNat < 2 ^ n
theorem andn_bits {a b : Int} (ha : 0 ≤ a ∧ a ≤ 65535) (hb : 0 ≤ b ∧ b ≤ 65535) : (0 ≤ bAndNot .u16 a b ∧ bAndNot .u16 a b ≤ 65535) ∧ ∀ k, (bAndNot .u16 a b).toNat.testBit k = (a.toNat.testBit k && !b.toNat.testBit k) := by
  have hl : (BitVec.ofInt 16 a &&& ~~~BitVec.ofInt 16 b).toNat < 65536 := (BitVec.ofInt 16 a &&& ~~~BitVec.ofInt 16 b).isLt
  have e : bAndNot .u16 a b = ((BitVec.ofInt 16 a &&& ~~~BitVec.ofInt 16 b).toNat : Int) := by
    unfold bAndNot
    exact IntWalk.u16_in _ (by show (0 : Int) ≤ ((BitVec.ofInt 16 a &&& ~~~BitVec.ofInt 16 b).toNat : Int) ∧ ((BitVec.ofInt 16 a &&& ~~~BitVec.ofInt 16 b).toNat : Int) ≤ 65535; omega)
  rw [e]
  refine ⟨by omega, fun k => ?_⟩
  have ga : ∀ x : Int, 0 ≤ x ∧ x ≤ 65535 → (BitVec.ofInt 16 x).getLsbD k = x.toNat.testBit k := by
    intro x hx
    show (BitVec.ofInt 16 x).toNat.testBit k = _
    rw [BitVec.toNat_ofInt]
    have : (x % ((2 ^ 16 : Nat) : Int)).toNat = x.toNat := by
      have : ((2 ^ 16 : Nat) : Int) = 65536 := rfl
      rw [this]; omega
    rw [this]
  show (BitVec.ofInt 16 a &&& ~~~BitVec.ofInt 16 b).toNat.testBit k = _
  have h1 : (BitVec.ofInt 16 a &&& ~~~BitVec.ofInt 16 b).getLsbD k = ((BitVec.ofInt 16 a).getLsbD k && (decide (k < 16) && !(BitVec.ofInt 16 b).getLsbD k)) := by
    rw [BitVec.getLsbD_and, BitVec.getLsbD_not]
  have h2 : (BitVec.ofInt 16 a &&& ~~~BitVec.ofInt 16 b).toNat.testBit k = (BitVec.ofInt 16 a &&& ~~~BitVec.ofInt 16 b).getLsbD k := rfl
  rw [h2, h1, ga a ha, ga b hb]
  by_cases hk : k < 16
  · rw [decide_eq_true hk, Bool.true_and]
  · have hlt : a.toNat < 2 ^ k := Nat.lt_of_lt_of_le (show a.toNat < 2 ^ 16 by show a.toNat < 65536; omega) (Nat.pow_le_pow_right (by decide) (by omega))
    rw [Nat.testBit_lt_two_pow hlt]; rfl
theorem int_bits {a b : Int} (ha : 0 ≤ a) (hb : 0 ≤ b) (h : ∀ k, a.toNat.testBit k = b.toNat.testBit k) : a = b := by
  have : a.toNat = b.toNat := Nat.eq_of_testBit_eq h
  omega
noncomputable def tkI (tk : Int) (i : Nat) : Int := bOr .u16 tk (bShl .u16 1 (i : Int))
theorem two_rng {i : Nat} (hi : i < 12) : (0 ≤ bShl .u16 1 (i : Int) ∧ bShl .u16 1 (i : Int) ≤ 65535) ∧ ∀ k, (bShl .u16 1 (i : Int)).toNat.testBit k = decide (i = k) := by
  obtain ⟨h1, h2, h3⟩ := shl1 hi
  rw [h1]
  exact ⟨by omega, fun k => by rw [toNat_nat, Nat.testBit_two_pow]⟩
theorem tkI_ok {n : Nat} {tk : Int} (h : TkOK n tk) {i : Nat} (hi : i < n) (hn : n ≤ 12) : TkOK n (tkI tk i) ∧ ∀ k, tb (tkI tk i) k = (tb tk k || decide (i = k)) := by
  obtain ⟨r1, r2⟩ := two_rng (show i < 12 by omega)
  obtain ⟨o1, o2, o3⟩ := or_nat h.rng r1
  unfold tkI
  refine ⟨⟨⟨o2, o3⟩, ?_⟩, fun k => ?_⟩
  · rw [o1]
    refine Nat.or_lt_two_pow h.lt ?_
    rw [(shl1 (show i < 12 by omega)).1, toNat_nat]
    exact Nat.pow_lt_pow_right (by decide) hi
  · show (bOr .u16 tk (bShl .u16 1 (i : Int))).toNat.testBit k = _
    rw [o1, Nat.testBit_or, r2]
theorem tk_back {n : Nat} {tk : Int} (h : TkOK n tk) {i : Nat} (hi : i < n) (hn : n ≤ 12) (hb : tb tk i = false) : bAndNot .u16 (tkI tk i) (bShl .u16 1 (i : Int)) = tk := by
  obtain ⟨r1, r2⟩ := two_rng (show i < 12 by omega)
  obtain ⟨t1, t2⟩ := tkI_ok h hi hn
  obtain ⟨a1, a2⟩ := andn_bits t1.rng r1
  refine int_bits a1.1 h.rng.1 fun k => ?_
  rw [a2, r2]
  have : (tkI tk i).toNat.testBit k = (tb tk k || decide (i = k)) := t2 k
  rw [this]
  by_cases hk : i = k
  · subst hk
    rw [decide_eq_true rfl, hb, show tk.toNat.testBit i = false from hb]; rfl
  · rw [decide_eq_false hk]; simp
theorem ready_bit {l : List Job} {tk : Int} (h0 : 0 ≤ tk) {i : Nat} (hi : i < 16) (hr : ready l tk i = true) : tb tk i = false := by
  unfold ready at hr
  rw [shr_bit h0 hi] at hr
  cases hb : tk.toNat.testBit i
  · exact hb
  · rw [hb] at hr; cases hr

/-! ### Numbers of jobs that are left -/
def cntR (tk : Int) : Nat → Nat → Nat
  | _, 0 => 0
  | a, n + 1 => (cond (tb tk a) 0 1) + cntR tk (a + 1) n
theorem cnt_same {tk tk' : Int} : ∀ (n a : Nat), (∀ k, a ≤ k → k < a + n → tb tk' k = tb tk k) → cntR tk' a n = cntR tk a n
  | 0, _, _ => rfl
  | n + 1, a, h => by
    simp only [cntR]
    rw [h a (Nat.le_refl _) (by omega), cnt_same n (a + 1) fun k h1 h2 => h k (by omega) (by omega)]
theorem cnt_step {tk tk' : Int} {i : Nat} (hb : ∀ k, tb tk' k = (tb tk k || decide (i = k))) (h0 : tb tk i = false) : ∀ (n a : Nat), a ≤ i → i < a + n → cntR tk' a n + 1 = cntR tk a n
  | 0, a, h1, h2 => by omega
  | n + 1, a, h1, h2 => by
    simp only [cntR]
    by_cases ha : i = a
    · subst ha
      have hs := cnt_same (tk := tk) (tk' := tk') n (i + 1) fun k h3 h4 => by rw [hb, decide_eq_false (show ¬ i = k by omega), Bool.or_false]
      rw [hb, h0, decide_eq_true rfl, hs]
      simp only [Bool.false_or, cond_true, cond_false]
      omega
    · have := cnt_step hb h0 n (a + 1) (by omega) (by omega)
      rw [hb a, decide_eq_false ha, Bool.or_false]
      omega
theorem cnt_zero {tk : Int} : ∀ (n a : Nat), cntR tk a n = 0 ↔ ∀ k, a ≤ k → k < a + n → tb tk k = true
  | 0, a => ⟨fun _ k h1 h2 => by omega, fun _ => rfl⟩
  | n + 1, a => by
    simp only [cntR]
    constructor
    · intro h k h1 h2
      cases hb : tb tk a
      · rw [hb] at h; simp only [cond_false] at h; omega
      · rw [hb] at h
        simp only [cond_true] at h
        by_cases hk : k = a
        · subst hk; exact hb
        · exact (cnt_zero n (a + 1)).1 (by omega) k (by omega) (by omega)
    · intro h
      rw [h a (Nat.le_refl _) (by omega), (cnt_zero n (a + 1)).2 fun k h1 h2 => h k (by omega) (by omega)]
      rfl
theorem cnt_le (tk : Int) : ∀ (n a : Nat), cntR tk a n ≤ n
  | 0, _ => Nat.le_refl _
  | n + 1, a => by
    simp only [cntR]
    have := cnt_le tk n (a + 1)
    cases tb tk a
    · simp only [cond_false]; omega
    · simp only [cond_true]; omega
noncomputable def fullB (n : Nat) : Int := IntKind.wrap .u16 (bShl .u16 1 (n : Int) - 1)
theorem full_eq {n : Nat} (hn : n ≤ 12) : fullB n = ((2 ^ n - 1 : Nat) : Int) := by
  have h1 : 2 ^ n ≤ 2 ^ 12 := Nat.pow_le_pow_right (by decide) hn
  have h2 : 0 < 2 ^ n := Nat.pow_pos (by decide)
  have h1 : 2 ^ n ≤ 4096 := h1
  have e : bShl .u16 1 (n : Int) = ((2 ^ n : Nat) : Int) := by
    unfold bShl
    have hm : min (Int.toNat (n : Int)) IntKind.u16.bits = n := by
      rw [toNat_nat]
      exact Nat.min_eq_left (by show n ≤ 16; omega)
    rw [hm, Int.one_mul, show ((2 : Int) ^ n) = ((2 ^ n : Nat) : Int) by rw [Int.natCast_pow]; rfl]
    exact IntWalk.u16_in _ (by omega)
  unfold fullB
  rw [e, IntWalk.u16_in _ (by omega)]
  omega
theorem full_iff {n : Nat} (hn : n ≤ 12) {tk : Int} (h : TkOK n tk) : (tk == fullB n) = decide (cntR tk 0 n = 0) := by
  apply Bool.eq_iff_iff.2
  rw [beq_iff_eq, decide_eq_true_eq, full_eq hn]
  constructor
  · intro e
    rw [cnt_zero]
    intro k _ hk
    show tk.toNat.testBit k = true
    rw [e, toNat_nat, Nat.testBit_two_pow_sub_one, decide_eq_true (show k < n by omega)]
  · intro e
    rw [cnt_zero] at e
    refine int_bits h.rng.1 (by omega) fun k => ?_
    rw [toNat_nat, Nat.testBit_two_pow_sub_one]
    by_cases hk : k < n
    · rw [decide_eq_true hk]; exact e k (Nat.zero_le _) (by omega)
    · rw [decide_eq_false hk]
      exact Nat.testBit_lt_two_pow (Nat.lt_of_lt_of_le h.lt (Nat.pow_le_pow_right (by decide) (by omega)))

/-! ### The day on which what is taken is done -/
def dayF (p : Nat → Bool) (f : Nat → Int) (ks : List Nat) (m : Int) : Int := ks.foldl (fun (m : Int) k => cond (p k) (max m (f k)) m) m
theorem dayF_max (p : Nat → Bool) (f : Nat → Int) (e : Int) : ∀ (ks : List Nat) (m : Int), dayF p f ks (max m e) = max (dayF p f ks m) e
  | [], m => rfl
  | k :: ks, m => by
    show dayF p f ks (cond (p k) (max (max m e) (f k)) (max m e)) = max (dayF p f ks (cond (p k) (max m (f k)) m)) e
    cases p k
    · exact dayF_max p f e ks m
    · rw [cond_true, cond_true, show max (max m e) (f k) = max (max m (f k)) e by omega]
      exact dayF_max p f e ks (max m (f k))
theorem dayF_ge (p : Nat → Bool) (f : Nat → Int) : ∀ (ks : List Nat) (m : Int), m ≤ dayF p f ks m ∧ ∀ k ∈ ks, p k = true → f k ≤ dayF p f ks m
  | [], m => ⟨Int.le_refl _, fun k hk => nomatch hk⟩
  | k :: ks, m => by
    show m ≤ dayF p f ks (cond (p k) (max m (f k)) m) ∧ ∀ k' ∈ k :: ks, p k' = true → f k' ≤ dayF p f ks (cond (p k) (max m (f k)) m)
    obtain ⟨h1, h2⟩ := dayF_ge p f ks (cond (p k) (max m (f k)) m)
    have h3 : m ≤ cond (p k) (max m (f k)) m := by
      cases p k
      · exact Int.le_refl _
      · rw [cond_true]; omega
    refine ⟨Int.le_trans h3 h1, fun k' hk' hp => ?_⟩
    rcases List.mem_cons.1 hk' with rfl | hk'
    · rw [hp, cond_true] at h1 ⊢; omega
    · exact h2 k' hk' hp
theorem dayF_add {p p' : Nat → Bool} {f f' : Nat → Int} {i : Nat} (hp : ∀ k, p' k = (p k || decide (i = k))) (h0 : p i = false) (hf : ∀ k, k ≠ i → f' k = f k) {ks : List Nat} (hi : i ∈ ks) (m : Int) : dayF p' f' ks m = max (dayF p f ks m) (f' i) := by
  have key : ∀ (ks : List Nat) (m : Int), max (dayF p' f' ks m) (f' i) = max (dayF p f ks m) (f' i) := by
    intro ks
    induction ks with
    | nil => intro m; rfl
    | cons k ks ih =>
      intro m
      show max (dayF p' f' ks (cond (p' k) (max m (f' k)) m)) (f' i) = max (dayF p f ks (cond (p k) (max m (f k)) m)) (f' i)
      by_cases hk : i = k
      · subst hk
        rw [hp, h0, decide_eq_true rfl]
        simp only [Bool.false_or, cond_true, cond_false]
        rw [dayF_max, show max (max (dayF p' f' ks m) (f' i)) (f' i) = max (dayF p' f' ks m) (f' i) by omega]
        exact ih m
      · rw [hp, decide_eq_false hk, Bool.or_false, hf k (fun e => hk e.symm)]
        exact ih _
  have h1 := (dayF_ge p' f' ks m).2 i hi (by rw [hp, decide_eq_true rfl, Bool.or_true])
  rw [← key ks m]
  omega
theorem dayF_full {p : Nat → Bool} {f : Nat → Int} : ∀ (ks : List Nat) (m : Int), (∀ k ∈ ks, p k = true) → dayF p f ks m = ks.foldl (fun (m : Int) k => max m (f k)) m
  | [], m, _ => rfl
  | k :: ks, m, h => by
    show dayF p f ks (cond (p k) (max m (f k)) m) = ks.foldl _ (max m (f k))
    rw [h k (by simp), cond_true]
    exact dayF_full ks _ fun k' hk' => h k' (by simp [hk'])
end Go.RR
