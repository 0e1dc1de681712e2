/- Jobs and orders that are drawn. -/
import Derived.Test.YtkohnhkehedflaaHf
import Derived.Test.YtkohnhkehedflaaVy
set_option linter.unusedVariables false
set_option linter.unusedSimpArgs false
namespace Go.RR
open Go
abbrev Byt (l : List Int) : Prop := l.length ≤ 5000 ∧ ∀ x ∈ l, 0 ≤ x ∧ x ≤ 255
theorem and255 (x : Int) : 0 ≤ IntKind.wrap .i64 (bAnd .u64 x 255) ∧ IntKind.wrap .i64 (bAnd .u64 x 255) ≤ 255 := by
 have e : bAnd .u64 x 255 = ((BitVec.ofInt 64 x &&& BitVec.ofInt 64 255).toNat : Int) := by
  have hlt : (BitVec.ofInt 64 x &&& BitVec.ofInt 64 255).toNat < 18446744073709551616 := (BitVec.ofInt 64 x &&& BitVec.ofInt 64 255).isLt
  exact IntWalk.u64_in ((BitVec.ofInt 64 x &&& BitVec.ofInt 64 255).toNat : Int) (by omega)
 have hle : (BitVec.ofInt 64 x &&& BitVec.ofInt 64 255).toNat ≤ 255 := by
  rw [BitVec.toNat_and]
  exact Nat.and_le_right
 rw [e, IntWalk.i64_in _ (by omega)]
 omega
theorem next_ok {n : Nat} {sd : Int} {l : List Int} (hl : Byt l) (hn : n ≤ 100000) : ∃ x sd', s_q0g (n : Int) sd l = some (x, ((n + 1 : Nat) : Int), sd') ∧ 0 ≤ x ∧ x ≤ 255 := by
 unfold s_q0g
 rw [succ64 (by omega)]
 have h40 : decide (40 < 0) = false := rfl
 by_cases h : n < l.length
 ·have hx := hl.2 _ (getD_mem' (d := 0) h)
  rw [lt_true h, inB_nat h, decide_eq_true (show ((n + 1 : Nat) : Int) ≤ (l.length : Int) by omega), toNat_nat]
  exact ⟨_, _, rfl, by rw [IntWalk.i64_in _ (by omega)]; exact hx⟩
 ·rw [decide_eq_false (show ¬ ((n : Int) < (l.length : Int)) by omega), cond_false, decide_eq_false (show ¬ ((n + 1 : Nat) : Int) ≤ (l.length : Int) by omega), cond_false, h40, cond_false]
  exact ⟨_, _, rfl, and255 _⟩
theorem pick_ok {n : Nat} {k sd : Int} {l : List Int} (hl : Byt l) (hn : n ≤ 10000) (hk : k ≤ 60000) : ∃ (x : Int) (m : Nat) (sd' : Int), s_q0h k (n : Int) sd l = some (x, (m : Int), sd') ∧ (k ≤ 1 → x = 0) ∧ (1 < k → 0 ≤ x ∧ x < k) ∧ n ≤ m ∧ m ≤ n + 2 := by
 unfold s_q0h
 by_cases h : k ≤ 1
 ·rw [decide_eq_true h]
  exact ⟨0, n, sd, rfl, fun _ => rfl, fun h' => by omega, Nat.le_refl _, by omega⟩
 ·rw [decide_eq_false h, cond_false]
  obtain ⟨x, s1, e1, x1, x2⟩ := next_ok (sd := sd) hl (show n ≤ 100000 by omega)
  have hk0 : decide (k = 0) = false := decide_eq_false (by omega)
  rw [e1]
  dsimp only [Option.bind]
  by_cases h2 : k > 200
  ·obtain ⟨y, s2, e2, y1, y2⟩ := next_ok (sd := s1) hl (show n + 1 ≤ 100000 by omega)
   rw [decide_eq_true h2, cond_true, e2]
   dsimp only
   rw [hk0, cond_false, IntWalk.i64_in (x * 256) (by omega), IntWalk.i64_in _ (by omega)]
   refine ⟨_, n + 2, s2, rfl, fun h' => by omega, fun _ => ?_, by omega, by omega⟩
   rw [Int.tmod_eq_emod_of_nonneg (by omega)]
   exact ⟨Int.emod_nonneg _ (by omega), Int.emod_lt_of_pos _ (by omega)⟩
  ·rw [decide_eq_false h2, cond_false, hk0, cond_false]
   refine ⟨_, n + 1, s1, rfl, fun h' => by omega, fun _ => ?_, by omega, by omega⟩
   rw [Int.tmod_eq_emod_of_nonneg (by omega)]
   exact ⟨Int.emod_nonneg _ (by omega), Int.emod_lt_of_pos _ (by omega)⟩
theorem one_ok {n : Nat} {k sd : Int} {l : List Int} (hl : Byt l) (hn : n ≤ 10000) (hk : k ≤ 60000) : ∃ (b : Bool) (m : Nat) (sd' : Int), s_q0l k (n : Int) sd l = some (b, (m : Int), sd') ∧ n ≤ m ∧ m ≤ n + 2 := by
 unfold s_q0l
 obtain ⟨x, m, s', e, _, _, h1, h2⟩ := pick_ok (sd := sd) hl hn hk
 rw [e]
 exact ⟨_, m, s', rfl, h1, h2⟩
theorem iter_rest {σ ρ : Type} {step : σ → Option (σ ⊕ ρ)} (I : Nat → σ → Prop) (Z : ρ → Prop) (hs : ∀ k s, I (k + 1) s → ∃ s', step s = some (.inl s') ∧ I k s') (he : ∀ s, I 0 s → ∃ r, step s = some (.inr r) ∧ Z r) : ∀ (k m : Nat) (s : σ), k < m → I k s → ∃ r, iter step m s = some r ∧ Z r
 | 0, m, s, hm, hI => by
  obtain ⟨m, rfl⟩ : ∃ K, m = K + 1 := ⟨m - 1, by omega⟩
  obtain ⟨r, e, z⟩ := he s hI
  unfold iter
  rw [e]
  exact ⟨r, rfl, z⟩
 | k + 1, m, s, hm, hI => by
  obtain ⟨m, rfl⟩ : ∃ K, m = K + 1 := ⟨m - 1, by omega⟩
  obtain ⟨s', e, z⟩ := hs k s hI
  unfold iter
  rw [e]
  exact iter_rest I Z hs he k m s' (by omega) z
theorem ready_of {l : List Job} (hj : JobsOK l) (hn : l.length ≤ 12) {tk : Int} (ht : TkOK l.length tk) {i : Nat} (hi : i < l.length) (hb : tb tk i = false) (hw : ∀ k : Nat, (l.getD i (0, 0)).2.toNat.testBit k = true → tb tk k = true) : ready l tk i = true := by
 unfold ready
 rw [shr_bit ht.rng.1 (by omega), show tk.toNat.testBit i = false from hb]
 have ha := (hj _ (getD_mem' (d := ((0, 0) : Job)) hi)).2
 obtain ⟨b1, b2⟩ := andn_bits ha ht.rng
 have : bAndNot .u16 (l.getD i (0, 0)).2 tk = 0 := int_bits b1.1 (by omega) fun k => by
  rw [b2]
  cases hq : (l.getD i (0, 0)).2.toNat.testBit k with
  | false => simp
  | true =>
   rw [show tk.toNat.testBit k = true from hw k hq]
   simp
 rw [this]
 rfl
structure Early (l : List Job) : Prop where
 len : l.length ≤ 6
 days : ∀ i, i < l.length → 1 ≤ (l.getD i (0, 0)).1 ∧ (l.getD i (0, 0)).1 ≤ 6
 rng : ∀ i, i < l.length → 0 ≤ (l.getD i (0, 0)).2 ∧ (l.getD i (0, 0)).2 ≤ 65535
 bits : ∀ i k, i < l.length → (l.getD i (0, 0)).2.toNat.testBit k = true → k < i
theorem Early.ok {l : List Job} (h : Early l) : JobsOK l := by
 intro x hx
 obtain ⟨i, hi, e⟩ := List.getElem_of_mem hx
 have h1 := h.days i hi
 have h2 := h.rng i hi
 rw [getD_lt (0, 0) hi, e] at h1 h2
 omega
def Flow (l : List Job) : Prop := ∀ tk, TkOK l.length tk → cntR tk 0 l.length ≠ 0 → ∃ i, i < l.length ∧ ready l tk i = true
theorem Early.flow {l : List Job} (h : Early l) : Flow l := by
 intro tk ht hc
 have hl := h.len
 have hex : ∃ i, i < l.length ∧ tb tk i = false := by
  apply Classical.byContradiction
  intro hne
  refine hc ((cnt_zero l.length 0).2 fun k _ hk => ?_)
  cases hq : tb tk k with
  | true => rfl
  | false => exact absurd ⟨k, by omega, hq⟩ hne
 have key : ∀ n i, i ≤ n → i < l.length → tb tk i = false → ∃ i, i < l.length ∧ ready l tk i = true := by
  intro n
  induction n with
  | zero =>
   intro i hi hil hb
   obtain rfl : i = 0 := by omega
   exact ⟨0, hil, ready_of h.ok (by omega) ht hil hb fun k hk => by have := h.bits 0 k hil hk; omega⟩
  | succ n ih =>
   intro i hi hil hb
   by_cases hq : ∃ k, k < i ∧ tb tk k = false
   ·obtain ⟨k, k1, k2⟩ := hq
    exact ih k (by omega) (by omega) k2
   ·refine ⟨i, hil, ready_of h.ok (by omega) ht hil hb fun k hk => ?_⟩
    have := h.bits i k hil hk
    cases hk2 : tb tk k with
    | true => rfl
    | false => exact absurd ⟨k, this, hk2⟩ hq
 obtain ⟨i, i1, i2⟩ := hex
 exact key i i (Nat.le_refl _) i1 i2
theorem flow_ord {l : List Job} (hn : l.length ≤ 12) (hf : Flow l) : ∀ (k : Nat) (tk : Int) (out : List Int), TkOK l.length tk → cntR tk 0 l.length = k → (ordN l k tk out).2 = true
 | 0, tk, out, _, _ => rfl
 | k + 1, tk, out, ht, hc => by
  obtain ⟨i, hi, hr⟩ := hf tk ht (by omega)
  unfold ordN
  cases hp : pick l tk with
  | none =>
   have := List.find?_eq_none.1 hp i (by rw [List.mem_range'_1]; omega)
   exact absurd hr (by simpa using this)
  | some j =>
   have hj := pick_lt hp
   have hrj : ready l tk j = true := by simpa using List.find?_some hp
   have hb := ready_bit ht.rng.1 (show j < 16 by omega) hrj
   have := cnt_step (tkI_ok ht hj hn).2 hb l.length 0 (Nat.zero_le _) (by omega)
   exact flow_ord hn hf k _ _ (tkI_ok ht hj hn).1 (by show cntR (tkI tk j) 0 l.length = k; omega)
theorem tk_zero (n : Nat) : TkOK n 0 := ⟨by omega, Nat.pow_pos (by decide)⟩
theorem Early.valid {l : List Job} (h : Early l) : validB l = true := by
 have hl := h.len
 unfold validB
 rw [decide_eq_true (show l.length ≤ 12 by omega), flow_ord (by omega) h.flow l.length 0 [] (tk_zero _) (cnt_none _ _), Bool.and_true, Bool.true_and, List.all_eq_true]
 intro x hx
 obtain ⟨i, hi, e⟩ := List.getElem_of_mem hx
 have h1 := h.days i hi
 have h2 := h.rng i hi
 have h3 := h.bits i
 rw [getD_lt (0, 0) hi, e] at h1 h2 h3
 unfold jobP s_q25
 rw [IntWalk.i64_in x.1 (by omega), decide_eq_true (show x.1 ≥ 1 by omega), decide_eq_true (show x.1 ≤ 30 by omega)]
 have hz : bShr .u16 x.2 (l.length : Int) = 0 := by
  unfold bShr
  have hm : min (Int.toNat (l.length : Int)) IntKind.u16.bits = l.length := by
   rw [toNat_nat]
   exact Nat.min_eq_left (by show l.length ≤ 16; omega)
  rw [hm]
  have hp : (0 : Int) < 2 ^ l.length := Int.pow_pos (by decide)
  rw [Int.fdiv_eq_ediv_of_nonneg _ (Int.le_of_lt hp)]
  have hlt : x.2.toNat < 2 ^ l.length := by
   refine Nat.lt_pow_two_of_testBit _ fun k hk => ?_
   cases hq : x.2.toNat.testBit k with
   | false => rfl
   | true => have := h3 k hi hq; omega
  refine Int.ediv_eq_zero_of_lt h2.1 ?_
  have : (2 : Int) ^ l.length = ((2 ^ l.length : Nat) : Int) := by rw [Int.natCast_pow]; rfl
  omega
 rw [hz]; rfl
theorem ordN_flow {l : List Job} (hn : l.length ≤ 12) : ∀ (k : Nat) (tk tk' : Int) (out : List Int), TkOK l.length tk → cntR tk 0 l.length = k → (ordN l k tk out).2 = true → JobsOK l → TkOK l.length tk' → (∀ q, tb tk q = true → tb tk' q = true) → cntR tk' 0 l.length ≠ 0 → ∃ i, i < l.length ∧ ready l tk' i = true
 | 0, tk, tk', out, ht, hc, _, hj, ht', hs, hc' => by
  refine absurd ((cnt_zero l.length 0).2 fun k h1 h2 => ?_) hc'
  exact hs k ((cnt_zero l.length 0).1 hc k h1 h2)
 | k + 1, tk, tk', out, ht, hc, ho, hj, ht', hs, hc' => by
  unfold ordN at ho
  cases hp : pick l tk with
  | none => rw [hp] at ho; cases ho
  | some j =>
   rw [hp] at ho
   have hjl := pick_lt hp
   have hrj : ready l tk j = true := by simpa using List.find?_some hp
   have hb := ready_bit ht.rng.1 (show j < 16 by omega) hrj
   have hcs := cnt_step (tkI_ok ht hjl hn).2 hb l.length 0 (Nat.zero_le _) (by omega)
   have hw : ∀ q : Nat, (l.getD j (0, 0)).2.toNat.testBit q = true → tb tk q = true := by
    intro q hq
    unfold ready at hrj
    have hab : bAndNot .u16 (l.getD j (0, 0)).2 tk = 0 := by
     cases hb2 : (bShr .u16 tk j % 2 == 0)
     ·rw [hb2] at hrj; cases hrj
     ·rw [hb2] at hrj
      simpa using hrj
    exact andn_nat (hj _ (getD_mem' hjl)).2 ht.rng hab hq
   cases hq : tb tk' j with
   | false => exact ⟨j, hjl, ready_of hj hn ht' hjl hq fun q h => hs q (hw q h)⟩
   | true =>
    refine ordN_flow hn k (tkI tk j) tk' _ (tkI_ok ht hjl hn).1 (by omega) ho hj ht' (fun q h => ?_) hc'
    rw [(tkI_ok ht hjl hn).2] at h
    by_cases e : j = q
    ·subst e; exact hq
    ·rw [decide_eq_false e, Bool.or_false] at h
     exact hs q h
theorem valid_flow {l : List Job} (hj : JobsOK l) (hv : validB l = true) : Flow l := fun tk ht hc =>
 ordN_flow (valid_ord hv).1 l.length 0 tk [] (tk_zero _) (cnt_none _ _) (valid_ord hv).2 hj ht (fun q h => by rw [tb_zero] at h; cases h) hc
end Go.RR
namespace Go.RR
open Go
theorem app_left {α : Type} {l : List α} {x d : α} {i : Nat} (h : i < l.length) : (l ++ [x]).getD i d = l.getD i d := by
 rw [List.getD_eq_getElem?_getD, List.getElem?_append_left h, List.getD_eq_getElem?_getD]
theorem app_at {α : Type} {l : List α} {x d : α} : (l ++ [x]).getD l.length d = x := by
 rw [List.getD_eq_getElem?_getD, List.getElem?_append_right (Nat.le_refl _)]; simp
theorem Early.add {l : List Job} (h : Early l) (hl : l.length < 6) {d af : Int} (hd : 1 ≤ d ∧ d ≤ 6) (ha : 0 ≤ af ∧ af ≤ 65535) (hb : ∀ k, af.toNat.testBit k = true → k < l.length) : Early (l ++ [(d, af)]) := by
 have cases : ∀ i, i < (l ++ [(d, af)]).length → i < l.length ∨ i = l.length := fun i hi => by simp at hi; omega
 refine ⟨by simp; omega, fun i hi => ?_, fun i hi => ?_, fun i k hi hk => ?_⟩
 ·rcases cases i hi with e | rfl
  ·rw [app_left e]; exact h.days i e
  ·rw [app_at]; exact hd
 ·rcases cases i hi with e | rfl
  ·rw [app_left e]; exact h.rng i e
  ·rw [app_at]; exact ha
 ·rcases cases i hi with e | rfl
  ·rw [app_left e] at hk; exact h.bits i k e hk
  ·rw [app_at] at hk; exact hb k hk
theorem drawn_inner {a : List Int} (ha : Byt a) {l : List Job} (hl : Early l) (hl6 : l.length < 6) {x0 d : Int} (hx : 1 ≤ x0 ∧ x0 ≤ 6) (hd : 1 ≤ d ∧ d ≤ 6) {m0 : Nat} {sd : Int} (hm : m0 ≤ 1000) :
  ∃ r, f_q13_run7 (x0, 0, (m0 : Int), sd, a, l, d, 0) = some r ∧ ∃ (m : Nat) (sd' af : Int), r = .inl (x0 - 1, (m : Int), sd', a, l ++ [(d, af)]) ∧ m ≤ m0 + 20 ∧ Early (l ++ [(d, af)]) := by
 unfold f_q13_run7
 refine iter_rest (step := fun x => f_q13_n7 x.1 x.2.1 x.2.2.1 x.2.2.2.1 x.2.2.2.2.1 x.2.2.2.2.2.1 x.2.2.2.2.2.2.1 x.2.2.2.2.2.2.2) (fun k s => ∃ (i m : Nat) (sd' af : Int), s = (x0, (i : Int), (m : Int), sd', a, l, d, af) ∧ i + k = l.length ∧ m ≤ m0 + 2 * i ∧ (0 ≤ af ∧ af ≤ 65535) ∧ ∀ q, af.toNat.testBit q = true → q < i) _ ?_ ?_ l.length FU (x0, 0, (m0 : Int), sd, a, l, d, 0) (FU_big (pow_big (by omega))) ⟨0, m0, sd, 0, rfl, by omega, by omega, by omega, fun q hq => by rw [show (0 : Int).toNat = 0 from rfl, Nat.zero_testBit] at hq; cases hq⟩
 ·rintro k s ⟨i, m, sd', af, rfl, h1, h2, h3, h4⟩
  obtain ⟨b, m', s'', e, u1, u2⟩ := one_ok (n := m) (k := 4) (sd := sd') ha (by omega) (by omega)
  obtain ⟨t1, t2⟩ := two_rng (show i < 12 by omega)
  obtain ⟨o1, o2, o3⟩ := or_nat h3 t1
  show ∃ s', f_q13_n7 x0 i m sd' a l d af = some (.inl s') ∧ _
  unfold f_q13_n7
  rw [lt_true (show i < l.length by omega), e, u64n (by omega), dlt0, succ64 (by omega)]
  simp only [cond_true, cond_false, Option.bind]
  cases b with
  | false => exact ⟨_, rfl, i + 1, m', s'', af, rfl, by omega, by omega, h3, fun q hq => by have := h4 q hq; omega⟩
  | true =>
   refine ⟨_, rfl, i + 1, m', s'', _, rfl, by omega, by omega, ⟨o2, o3⟩, fun q hq => ?_⟩
   rw [o1, Nat.testBit_or, t2] at hq
   by_cases e2 : i = q
   ·omega
   ·rw [decide_eq_false e2, Bool.or_false] at hq
    have := h4 q hq; omega
 ·rintro s ⟨i, m, sd', af, rfl, h1, h2, h3, h4⟩
  obtain rfl : i = l.length := by omega
  show ∃ r, f_q13_n7 x0 (l.length : Nat) m sd' a l d af = some (.inr r) ∧ _
  unfold f_q13_n7
  rw [lt_neg, cond_false, fits_small (by simp; omega), IntWalk.i64_in (x0 - 1) (by omega)]
  exact ⟨_, rfl, m, sd', af, rfl, by omega, hl.add hl6 hd h3 h4⟩
structure DrawnJ (l : List Job) : Prop where
 ok : JobsOK l
 valid : validB l = true
 len : l.length ≤ 6
theorem jobs_drawn {a : List Int} (ha : Byt a) : ∃ l, s_q1w a = some l ∧ DrawnJ l := by
 unfold s_q1w s_q13
 obtain ⟨x, m, sd, e, _, hx, _, hm⟩ := pick_ok (n := 0) (k := 7) (sd := 0) ha (by omega) (by omega)
 have hx := hx (by omega)
 have e : s_q0h (IntKind.wrap .i64 (6 + 1)) (s_q1h a).1 (s_q1h a).2 a = some (x, (m : Int), sd) := e
 rw [e]
 simp only [Option.bind]
 have key : ∃ r, f_q13_run3 (x, (m : Int), sd, a, []) = some r ∧ DrawnJ r.2.2 := by
  unfold f_q13_run3
  refine iter_rest (step := fun x => f_q13_n3 x.1 x.2.1 x.2.2.1 x.2.2.2.1 x.2.2.2.2) (fun k s => ∃ (m : Nat) (sd : Int) (l : List Job), s = ((k : Int), (m : Int), sd, a, l) ∧ l.length + k ≤ 6 ∧ m ≤ 2 + 30 * l.length ∧ Early l) _ ?_ ?_ x.toNat FU (x, (m : Int), sd, a, []) (FU_big (pow_big (by omega))) ⟨m, sd, [], by rw [Int.toNat_of_nonneg hx.1], by show 0 + x.toNat ≤ 6; omega, by show m ≤ 2 + 30 * 0; omega, ⟨by show 0 ≤ 6; omega, fun i hi => (nomatch hi), fun i hi => (nomatch hi), fun i k hi => (nomatch hi)⟩⟩
  ·rintro k s ⟨m, sd, l, rfl, h1, h2, h3⟩
   obtain ⟨y, m1, sd1, e1, _, hy, _, hm1⟩ := pick_ok (n := m) (k := 6) (sd := sd) ha (by omega) (by omega)
   have hy := hy (by omega)
   show ∃ s', f_q13_n3 ((k + 1 : Nat) : Int) m sd a l = some (.inl s') ∧ _
   unfold f_q13_n3
   rw [decide_eq_true (show ((k + 1 : Nat) : Int) > 0 by omega), e1]
   simp only [cond_true, Option.bind]
   rw [IntWalk.i64_in (1 + y) (by omega), IntWalk.i8_in (1 + y) (by omega)]
   obtain ⟨r, q1, m2, sd2, af, rfl, q2, q3⟩ := drawn_inner ha h3 (by omega) (x0 := ((k + 1 : Nat) : Int)) (d := 1 + y) (by omega) (by omega) (m0 := m1) (sd := sd1) (by omega)
   rw [q1]
   refine ⟨_, rfl, m2, sd2, _, ?_, by simp; omega, by simp; omega, q3⟩
   rw [show ((k + 1 : Nat) : Int) - 1 = (k : Int) by omega]
  ·rintro s ⟨m, sd, l, rfl, h1, h2, h3⟩
   have hz : ∀ (z : Int × Int × List Job), z.2.2 = l → ∃ r, (some (Sum.inr z) : Option ((Int × Int × Int × List Int × List Job) ⊕ (Int × Int × List Job))) = some (.inr r) ∧ DrawnJ r.2.2 := fun z e => ⟨z, rfl, by rw [e]; exact ⟨h3.ok, h3.valid, h3.len⟩⟩
   show ∃ r, f_q13_n3 ((0 : Nat) : Int) m sd a l = some (.inr r) ∧ _
   unfold f_q13_n3
   rw [show decide (((0 : Nat) : Int) > 0) = false from rfl, cond_false]
   by_cases hn : ((l.length : Nat) : Int) > 1
   ·rw [decide_eq_true hn, cond_true]
    obtain ⟨b, m1, sd1, e1, _, u1⟩ := one_ok (n := m) (k := 3) (sd := sd) ha (by omega) (by omega)
    rw [e1]
    simp only [Option.bind]
    cases b with
    | false => exact hz _ rfl
    | true =>
     obtain ⟨y, m2, sd2, e2, _, hy, _, hm2⟩ := pick_ok (n := m1) (k := ((l.length : Nat) : Int)) (sd := sd1) ha (by omega) (by omega)
     have hy := hy (by omega)
     obtain ⟨z, m3, sd3, e3, _, hz2, _, hm3⟩ := pick_ok (n := m2) (k := ((l.length : Nat) : Int)) (sd := sd2) ha (by omega) (by omega)
     have hz2 := hz2 (by omega)
     rw [cond_true, e2]
     dsimp only
     rw [fits_small (by simp; omega), List.nil_append, inB_of hy, e3, cond_true, cond_true]
     dsimp only
     rw [cond_true, IntWalk.u64_in z (by omega), decide_eq_false (show ¬ z < 0 by omega), cond_false]
     have hlen : (l.set y.toNat ((l.getD y.toNat ((0, 0) : Int × Int)).1, bXor .u16 (l.getD y.toNat ((0, 0) : Int × Int)).2 (bShl .u16 1 z))).length = l.length := List.length_set
     rw [sok_eq _ (by rw [hlen]; omega)]
     dsimp only
     cases hv : validB (l.set y.toNat ((l.getD y.toNat ((0, 0) : Int × Int)).1, bXor .u16 (l.getD y.toNat ((0, 0) : Int × Int)).2 (bShl .u16 1 z))) with
     | false => exact hz _ rfl
     | true =>
      refine ⟨_, rfl, ⟨fun x hx => ?_, hv, by show (l.set _ _).length ≤ 6; rw [hlen]; omega⟩⟩
      rcases List.mem_or_eq_of_mem_set hx with hx | rfl
      ·exact h3.ok x hx
      ·have := h3.days y.toNat (by omega)
       refine ⟨by show -128 ≤ (l.getD y.toNat ((0, 0) : Int × Int)).1 ∧ (l.getD y.toNat ((0, 0) : Int × Int)).1 ≤ 127; omega, ?_⟩
       exact wu16 _
   ·rw [decide_eq_false hn]
    exact hz _ rfl
 obtain ⟨r, e1, e2⟩ := key
 rw [e1]
 exact ⟨_, rfl, e2⟩
theorem tmod_ready {l : List Job} {tk : Int} (h0 : 0 ≤ tk) {i : Nat} {α : Type} (a b : α) : cond ((Int.tmod (bShr .u16 tk (i : Int)) 2) == 0) (cond ((bAndNot .u16 (l.getD i ((0, 0) : Int × Int)).2 tk) == 0) a b) b = cond (ready l tk i) a b := by
 rw [Int.tmod_eq_emod_of_nonneg (shr_range h0).1]
 unfold ready
 cases ((bShr .u16 tk (i : Int)) % 2 == 0) <;> rfl
theorem ready_okO {l : List Job} {tk : Int} (h0 : 0 ≤ tk) {j : Nat} (hj : j < l.length) (h : ready l tk j = true) : okO l tk (j : Int) = true := by
 unfold ready at h
 unfold okO s_q25
 rw [decide_eq_true (show (j : Int) ≥ 0 by omega), decide_eq_true (show (j : Int) ≤ ((l.length : Nat) : Int) - 1 by omega), toNat_nat]
 cases hb : (bShr .u16 tk (j : Int) % 2 == 0) with
 | false => rw [hb] at h; cases h
 | true =>
  rw [hb, cond_true] at h
  rw [h]
  have := beq_iff_eq.1 hb
  rw [this]; rfl
theorem order_drawn {a : List Int} (ha : Byt a) {l : List Job} (hj : JobsOK l) (hv : validB l = true) : ∃ o, s_q1g a l = some o ∧ isO l 0 o = true ∧ o.length = l.length := by
 have hn := (valid_ord hv).1
 have hflow := valid_flow hj hv
 unfold s_q1g f_q1g_run4
 refine iter_rest (step := fun x => f_q1g_n4 x.1 x.2.1 x.2.2.1 x.2.2.2.1 x.2.2.2.2.1 x.2.2.2.2.2) (fun k s => ∃ (tk : Int) (m : Nat) (sd : Int) (out : List Int), s = (tk, l, (m : Int), sd, a, out) ∧ TkOK l.length tk ∧ cntR tk 0 l.length = k ∧ out.length + k = l.length ∧ (∀ r, isO l tk r = true → isO l 0 (out ++ r) = true) ∧ m ≤ 2 * out.length) _ ?_ ?_ l.length FU (0, l, (s_q1h a).1, (s_q1h a).2, a, []) (FU_big (pow_big (by omega))) ⟨0, 0, 0, [], rfl, tk_zero _, cnt_none _ _, by simp, fun r h => h, by simp⟩
 ·rintro k s ⟨tk, m, sd, out, rfl, h1, h2, h3, h4, h5⟩
  show ∃ s', f_q1g_n4 tk l m sd a out = some (.inl s') ∧ _
  unfold f_q1g_n4
  rw [lt_true (show out.length < l.length by omega), cond_true]
  have key : ∃ r, f_q1g_run7 (tk, 0, l, (m : Int), sd, a, out, []) = some r ∧ ∃ (m' : Nat) (sd' : Int) (j : Nat), r = .inl (tkI tk j, l, (m' : Int), sd', a, out ++ [(j : Int)]) ∧ j < l.length ∧ ready l tk j = true ∧ m' ≤ m + 2 := by
   unfold f_q1g_run7
   refine iter_rest (step := fun x => f_q1g_n7 x.1 x.2.1 x.2.2.1 x.2.2.2.1 x.2.2.2.2.1 x.2.2.2.2.2.1 x.2.2.2.2.2.2.1 x.2.2.2.2.2.2.2) (fun k s => ∃ (i : Nat) (fr : List Int), s = (tk, (i : Int), l, (m : Int), sd, a, out, fr) ∧ i + k = l.length ∧ fr.length ≤ i ∧ (∀ x ∈ fr, ∃ j : Nat, x = (j : Int) ∧ j < l.length ∧ ready l tk j = true) ∧ ((∃ j, j < i ∧ ready l tk j = true) → 0 < fr.length)) _ ?_ ?_ l.length FU (tk, 0, l, (m : Int), sd, a, out, []) (FU_big (pow_big (by omega))) ⟨0, [], rfl, by omega, by simp, fun x hx => (nomatch hx), fun ⟨j, hj, _⟩ => by omega⟩
   ·rintro k s ⟨i, fr, rfl, g1, g2, g3, g4⟩
    show ∃ s', f_q1g_n7 tk i l m sd a out fr = some (.inl s') ∧ _
    unfold f_q1g_n7
    have hi : i < l.length := by omega
    rw [lt_true hi, u64n (by omega), dlt0, inB_nat hi, toNat_nat, fits_small (by simp; omega), succ64 (by omega)]
    simp only [cond_true, cond_false]
    rw [tmod_ready h1.rng.1]
    cases hr : ready l tk i with
    | false =>
     refine ⟨_, rfl, i + 1, fr, rfl, by omega, by omega, g3, fun ⟨j, j1, j2⟩ => ?_⟩
     by_cases e : j = i
     ·subst e; rw [hr] at j2; cases j2
     ·exact g4 ⟨j, by omega, j2⟩
    | true =>
     refine ⟨_, rfl, i + 1, fr ++ [(i : Int)], rfl, by omega, by simp; omega, fun x hx => ?_, fun _ => by simp⟩
     rcases List.mem_append.1 hx with hx | hx
     ·exact g3 x hx
     ·rw [List.mem_singleton] at hx
      exact ⟨i, hx, hi, hr⟩
   ·rintro s ⟨i, fr, rfl, g1, g2, g3, g4⟩
    obtain rfl : i = l.length := by omega
    have hfr := g4 (hflow tk h1 (by omega))
    obtain ⟨y, m1, sd1, e1, hy0, hy, _, hm1⟩ := pick_ok (n := m) (k := ((fr.length : Nat) : Int)) (sd := sd) ha (by omega) (by omega)
    have hy2 : 0 ≤ y ∧ y < ((fr.length : Nat) : Int) := by
     by_cases e : ((fr.length : Nat) : Int) ≤ 1
     ·rw [hy0 e]; omega
     ·exact hy (by omega)
    obtain ⟨j, j1, j2, j3⟩ := g3 _ (getD_mem' (d := (0 : Int)) (show y.toNat < fr.length by omega))
    show ∃ r, f_q1g_n7 tk (l.length : Nat) l m sd a out fr = some (.inr r) ∧ _
    unfold f_q1g_n7
    rw [lt_neg, cond_false, e1]
    simp only [Option.bind]
    rw [inB_of hy2, j1, fits_small (by simp; omega), u64n (by omega), dlt0]
    exact ⟨_, rfl, m1, sd1, j, rfl, j2, j3, by omega⟩
  obtain ⟨r, e1, m', sd', j, rfl, j1, j2, j3⟩ := key
  rw [e1]
  have hb := ready_bit h1.rng.1 (show j < 16 by omega) j2
  have hcs := cnt_step (tkI_ok h1 j1 hn).2 hb l.length 0 (Nat.zero_le _) (by omega)
  refine ⟨_, rfl, tkI tk j, m', sd', _, rfl, (tkI_ok h1 j1 hn).1, by omega, by simp; omega, fun r hr => ?_, by simp; omega⟩
  have := h4 ((j : Int) :: r) (by
   unfold isO
   rw [ready_okO h1.rng.1 j1 j2, cond_true]
   exact hr)
  rw [List.append_assoc]
  exact this
 ·rintro s ⟨tk, m, sd, out, rfl, h1, h2, h3, h4, h5⟩
  show ∃ r, f_q1g_n4 tk l m sd a out = some (.inr r) ∧ _
  unfold f_q1g_n4
  rw [show out.length = l.length by omega, lt_neg, cond_false]
  have := h4 [] rfl
  rw [List.append_nil] at this
  exact ⟨_, rfl, this, by omega⟩
end Go.RR
