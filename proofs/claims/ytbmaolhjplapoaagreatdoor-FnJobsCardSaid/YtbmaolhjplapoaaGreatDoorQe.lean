/- Jobs and orders that are drawn. -/
import Derived.Test.YtbmaolhjplapoaaGreatDoorGi
import Derived.Test.YtbmaolhjplapoaaGreatDoorVy
import Derived.Test.YtbmaolhjplapoaaGreatDoorVg
import Derived.Test.YtbmaolhjplapoaaGreatDoorRy
set_option linter.unusedVariables false
set_option linter.unusedSimpArgs false
set_option linter.unusedSectionVars false
namespace Go.RR
open Go
abbrev Byt (l : List Int) : Prop := l.length ≤ 5000 ∧ ∀ x ∈ l, 0 ≤ x ∧ x ≤ 255
theorem and255 (x : Int) : 0 ≤ IntKind.wrap .i64 (bAnd .u64 x 255) ∧ IntKind.wrap .i64 (bAnd .u64 x 255) ≤ 255 := by
 have e : bAnd .u64 x 255 = ((BitVec.ofInt 64 x &&& BitVec.ofInt 64 255).toNat : Int) := by
  have hlt : (BitVec.ofInt 64 x &&& BitVec.ofInt 64 255).toNat < 18446744073709551616 := (BitVec.ofInt 64 x &&& BitVec.ofInt 64 255).isLt
  exact IntWalk.u64_in ((BitVec.ofInt 64 x &&& BitVec.ofInt 64 255).toNat : Int) (by omega)
 have hle : (BitVec.ofInt 64 x &&& BitVec.ofInt 64 255).toNat ≤ 255 := by
  rw [BitVec.toNat_and]
  exact Nat.and_le_right
 rw [e, IntWalk.i64_in _ (by omega)]
 omega
theorem next_ok {n : Nat} {sd : Int} {l : List Int} (hl : Byt l) (hn : n ≤ 100000) : ∃ x sd', s_sl00Src_next (n : Int) sd l = some (x, ((n + 1 : Nat) : Int), sd') ∧ 0 ≤ x ∧ x ≤ 255 := by
 unfold s_sl00Src_next t_sl00Src_next
 try dsimp (config := {proj := false, iota := false, eta := false}) only
 rw [succ64 (by omega)]
 have h40 : decide (40 < 0) = false := rfl
 by_cases h : n < l.length
 ·have hx := hl.2 _ (getD_mem' (d := 0) h)
  rw [lt_true h, inB_nat h, decide_eq_true (show ((n + 1 : Nat) : Int) ≤ (l.length : Int) by omega), toNat_nat]
  exact ⟨_, _, rfl, by rw [IntWalk.i64_in _ (by omega)]; exact hx⟩
 ·rw [decide_eq_false (show ¬ ((n : Int) < (l.length : Int)) by omega), cond_false, decide_eq_false (show ¬ ((n + 1 : Nat) : Int) ≤ (l.length : Int) by omega), cond_false, h40, cond_false]
  exact ⟨_, _, rfl, and255 _⟩
theorem pick_ok {n : Nat} {k sd : Int} {l : List Int} (hl : Byt l) (hn : n ≤ 10000) (hk : k ≤ 60000) : ∃ (x : Int) (m : Nat) (sd' : Int), s_sl00Src_pick k (n : Int) sd l = some (x, (m : Int), sd') ∧ (k ≤ 1 → x = 0) ∧ (1 < k → 0 ≤ x ∧ x < k) ∧ n ≤ m ∧ m ≤ n + 2 := by
 unfold s_sl00Src_pick t_sl00Src_pick
 try dsimp (config := {proj := false, iota := false, eta := false}) only
 by_cases h : k ≤ 1
 ·rw [decide_eq_true h]
  exact ⟨0, n, sd, rfl, fun _ => rfl, fun h' => by omega, Nat.le_refl _, by omega⟩
 ·rw [decide_eq_false h, cond_false]
  obtain ⟨x, s1, e1, x1, x2⟩ := next_ok (sd := sd) hl (show n ≤ 100000 by omega)
  have hk0 : decide (k = 0) = false := decide_eq_false (by omega)
  rw [e1]
  dsimp only [Option.bind]
  by_cases h2 : k > 200
  ·obtain ⟨y, s2, e2, y1, y2⟩ := next_ok (sd := s1) hl (show n + 1 ≤ 100000 by omega)
   rw [decide_eq_true h2, cond_true, e2]
   dsimp only
   rw [hk0, cond_false, IntWalk.i64_in (x * 256) (by omega), IntWalk.i64_in _ (by omega)]
   refine ⟨_, n + 2, s2, rfl, fun h' => by omega, fun _ => ?_, by omega, by omega⟩
   rw [Int.tmod_eq_emod_of_nonneg (by omega)]
   exact ⟨Int.emod_nonneg _ (by omega), Int.emod_lt_of_pos _ (by omega)⟩
  ·rw [decide_eq_false h2, cond_false, hk0, cond_false]
   refine ⟨_, n + 1, s1, rfl, fun h' => by omega, fun _ => ?_, by omega, by omega⟩
   rw [Int.tmod_eq_emod_of_nonneg (by omega)]
   exact ⟨Int.emod_nonneg _ (by omega), Int.emod_lt_of_pos _ (by omega)⟩
theorem one_ok {n : Nat} {k sd : Int} {l : List Int} (hl : Byt l) (hn : n ≤ 10000) (hk : k ≤ 60000) : ∃ (b : Bool) (m : Nat) (sd' : Int), s_sl00Src_one k (n : Int) sd l = some (b, (m : Int), sd') ∧ n ≤ m ∧ m ≤ n + 2 := by
 unfold s_sl00Src_one
 obtain ⟨x, m, s', e, _, _, h1, h2⟩ := pick_ok (sd := sd) hl hn hk
 rw [e]
 exact ⟨_, m, s', rfl, h1, h2⟩
theorem iter_rest {σ ρ : Type} {step : σ → Option (σ ⊕ ρ)} (I : Nat → σ → Prop) (Z : ρ → Prop) (hs : ∀ k s, I (k + 1) s → ∃ s', step s = some (.inl s') ∧ I k s') (he : ∀ s, I 0 s → ∃ r, step s = some (.inr r) ∧ Z r) : ∀ (k m : Nat) (s : σ), k < m → I k s → ∃ r, iter step m s = some r ∧ Z r
 | 0, m, s, hm, hI => by
  obtain ⟨m, rfl⟩ : ∃ K, m = K + 1 := ⟨m - 1, by omega⟩
  obtain ⟨r, e, z⟩ := he s hI
  unfold iter
  rw [e]
  exact ⟨r, rfl, z⟩
 | k + 1, m, s, hm, hI => by
  obtain ⟨m, rfl⟩ : ∃ K, m = K + 1 := ⟨m - 1, by omega⟩
  obtain ⟨s', e, z⟩ := hs k s hI
  unfold iter
  rw [e]
  exact iter_rest I Z hs he k m s' (by omega) z
theorem ready_of {l : List Job} (hj : JobsOK l) (hn : l.length ≤ 12) {tk : Int} (ht : TkOK l.length tk) {i : Nat} (hi : i < l.length) (hb : tb tk i = false) (hw : ∀ k : Nat, (l.getD i (0, 0)).2.toNat.testBit k = true → tb tk k = true) : ready l tk i = true := by
 unfold ready
 rw [shr_bit ht.rng.1 (by omega), show tk.toNat.testBit i = false from hb]
 have ha := (hj _ (getD_mem' (d := ((0, 0) : Job)) hi)).2
 obtain ⟨b1, b2⟩ := andn_bits ha ht.rng
 have : bAndNot .u16 (l.getD i (0, 0)).2 tk = 0 := int_bits b1.1 (by omega) fun k => by
  rw [b2]
  cases hq : (l.getD i (0, 0)).2.toNat.testBit k with
  | false => simp
  | true =>
   rw [show tk.toNat.testBit k = true from hw k hq]
   simp
 rw [this]
 rfl
structure Early (l : List Job) : Prop where
 len : l.length ≤ 6
 days : ∀ i, i < l.length → 1 ≤ (l.getD i (0, 0)).1 ∧ (l.getD i (0, 0)).1 ≤ 6
 rng : ∀ i, i < l.length → 0 ≤ (l.getD i (0, 0)).2 ∧ (l.getD i (0, 0)).2 ≤ 65535
 bits : ∀ i k, i < l.length → (l.getD i (0, 0)).2.toNat.testBit k = true → k < i
theorem Early.ok {l : List Job} (h : Early l) : JobsOK l := by
 intro x hx
 obtain ⟨i, hi, e⟩ := List.getElem_of_mem hx
 have h1 := h.days i hi
 have h2 := h.rng i hi
 rw [getD_lt (0, 0) hi, e] at h1 h2
 omega
def Flow (l : List Job) : Prop := ∀ tk, TkOK l.length tk → cntR tk 0 l.length ≠ 0 → ∃ i, i < l.length ∧ ready l tk i = true
theorem Early.flow {l : List Job} (h : Early l) : Flow l := by
 intro tk ht hc
 have hl := h.len
 have hex : ∃ i, i < l.length ∧ tb tk i = false := by
  apply Classical.byContradiction
  intro hne
  refine hc ((cnt_zero l.length 0).2 fun k _ hk => ?_)
  cases hq : tb tk k with
  | true => rfl
  | false => exact absurd ⟨k, by omega, hq⟩ hne
 have key : ∀ n i, i ≤ n → i < l.length → tb tk i = false → ∃ i, i < l.length ∧ ready l tk i = true := by
  intro n
  induction n with
  | zero =>
   intro i hi hil hb
   obtain rfl : i = 0 := by omega
   exact ⟨0, hil, ready_of h.ok (by omega) ht hil hb fun k hk => by have := h.bits 0 k hil hk; omega⟩
  | succ n ih =>
   intro i hi hil hb
   by_cases hq : ∃ k, k < i ∧ tb tk k = false
   ·obtain ⟨k, k1, k2⟩ := hq
    exact ih k (by omega) (by omega) k2
   ·refine ⟨i, hil, ready_of h.ok (by omega) ht hil hb fun k hk => ?_⟩
    have := h.bits i k hil hk
    cases hk2 : tb tk k with
    | true => rfl
    | false => exact absurd ⟨k, this, hk2⟩ hq
 obtain ⟨i, i1, i2⟩ := hex
 exact key i i (Nat.le_refl _) i1 i2
theorem flow_ord {l : List Job} (hn : l.length ≤ 12) (hf : Flow l) : ∀ (k : Nat) (tk : Int) (out : List Int), TkOK l.length tk → cntR tk 0 l.length = k → (ordN l k tk out).2 = true
 | 0, tk, out, _, _ => rfl
 | k + 1, tk, out, ht, hc => by
  obtain ⟨i, hi, hr⟩ := hf tk ht (by omega)
  unfold ordN
  cases hp : pick l tk with
  | none =>
   have := List.find?_eq_none.1 hp i (by rw [List.mem_range'_1]; omega)
   exact absurd hr (by simpa using this)
  | some j =>
   have hj := pick_lt hp
   have hrj : ready l tk j = true := by simpa using List.find?_some hp
   have hb := ready_bit ht.rng.1 (show j < 16 by omega) hrj
   have := cnt_step (tkI_ok ht hj hn).2 hb l.length 0 (Nat.zero_le _) (by omega)
   exact flow_ord hn hf k _ _ (tkI_ok ht hj hn).1 (by show cntR (tkI tk j) 0 l.length = k; omega)
theorem tk_zero (n : Nat) : TkOK n 0 := ⟨by omega, Nat.pow_pos (by decide)⟩
theorem Early.valid {l : List Job} (h : Early l) : validB l = true := by
 have hl := h.len
 unfold validB
 rw [decide_eq_true (show l.length ≤ 12 by omega), flow_ord (by omega) h.flow l.length 0 [] (tk_zero _) (cnt_none _ _), Bool.and_true, Bool.true_and, List.all_eq_true]
 intro x hx
 obtain ⟨i, hi, e⟩ := List.getElem_of_mem hx
 have h1 := h.days i hi
 have h2 := h.rng i hi
 have h3 := h.bits i
 rw [getD_lt (0, 0) hi, e] at h1 h2 h3
 unfold jobP s_q27
 rw [IntWalk.i64_in x.1 (by omega), decide_eq_true (show x.1 ≥ 1 by omega), decide_eq_true (show x.1 ≤ 30 by omega)]
 have hz : bShr .u16 x.2 (l.length : Int) = 0 := by
  unfold bShr
  have hm : min (Int.toNat (l.length : Int)) IntKind.u16.bits = l.length := by
   rw [toNat_nat]
   exact Nat.min_eq_left (by show l.length ≤ 16; omega)
  rw [hm]
  have hp : (0 : Int) < 2 ^ l.length := Int.pow_pos (by decide)
  rw [Int.fdiv_eq_ediv_of_nonneg _ (Int.le_of_lt hp)]
  have hlt : x.2.toNat < 2 ^ l.length := by
   refine Nat.lt_pow_two_of_testBit _ fun k hk => ?_
   cases hq : x.2.toNat.testBit k with
   | false => rfl
   | true => have := h3 k hi hq; omega
  refine Int.ediv_eq_zero_of_lt h2.1 ?_
  have : (2 : Int) ^ l.length = ((2 ^ l.length : Nat) : Int) := by rw [Int.natCast_pow]; rfl
  omega
 rw [hz]; rfl
end Go.RR
namespace Go.RR
open Go
theorem w64 {w : Int} (h : -128 ≤ w ∧ w ≤ 127) : IntKind.wrap .i64 w = w := IntWalk.i64_in _ (by omega)
theorem quo12 {j : Int} (h : 0 ≤ j ∧ j ≤ 9223372036854775807) : IntKind.wrap .i64 (Int.tdiv j 12) = j / 12 := IntWalk.i64_quo _ _ (by omega)
theorem rem12 {j : Int} (h : 0 ≤ j) : Int.tmod j 12 = j % 12 := Int.tmod_eq_emod_of_nonneg h
theorem s63_eq (a b c : Int) : s_q1y a b c = (decide (b ≤ a) && decide (a ≤ c)) := by
 unfold s_q1y; cases decide (b ≤ a) <;> rfl
theorem s57_eq (a b c : Int) : s_q27 a b c = (decide (b ≤ a) && decide (a ≤ c)) := by
 unfold s_q27; show cond (decide (b ≤ a)) _ _ = _; cases decide (b ≤ a) <;> rfl
theorem s83_eq {w h : Int} {f : Nat → Int} {j : Int} (hw : -128 ≤ w ∧ w ≤ 127) (hh : -128 ≤ h ∧ h ≤ 127) (hj : 0 ≤ j ∧ j ≤ 9223372036854775807) :
  s_q0l w h f (Int.tmod j 12) (IntKind.wrap .i64 (Int.tdiv j 12)) = (decide (j % 12 < w) && decide (j / 12 < h)) := by
 unfold s_q0l s_q1w
 rw [w64 hw, w64 hh, quo12 hj, rem12 hj.1, IntWalk.i64_in (w - 1) (by omega), IntWalk.i64_in (h - 1) (by omega), s63_eq, s63_eq]
 have e1 : decide (0 ≤ j % 12) = true := decide_eq_true (by omega)
 have e2 : decide (0 ≤ j / 12) = true := decide_eq_true (by omega)
 have e3 : decide (j % 12 ≤ w - 1) = decide (j % 12 < w) := decide_eq_decide.2 (by omega)
 have e4 : decide (j / 12 ≤ h - 1) = decide (j / 12 < h) := decide_eq_decide.2 (by omega)
 rw [e1, e2, e3, e4]
 cases decide (j % 12 < w) <;> rfl
theorem s81_eq {w h : Int} {f : Nat → Int} {j : Int} (hw : -128 ≤ w ∧ w ≤ 127) (hh : -128 ≤ h ∧ h ≤ 127) :
  s_q28 w h f j = (decide (0 ≤ j) && decide (j ≤ 143) && (decide (j % 12 < w) && decide (j / 12 < h))) := by
 unfold s_q28
 rw [s57_eq]
 by_cases h0 : 0 ≤ j
 ·by_cases h1 : j ≤ 143
  ·rw [w64 hw, w64 hh, quo12 (by omega), rem12 h0, decide_eq_true h0, decide_eq_true h1]
   cases decide (j % 12 < w) <;> cases decide (j / 12 < h) <;> rfl
  ·rw [decide_eq_false h1, Bool.and_false, Bool.false_and]; rfl
 ·rw [decide_eq_false h0, Bool.false_and, Bool.false_and]; rfl
theorem valid_eq {w h : Int} {f : Nat → Int} (hw : -128 ≤ w ∧ w ≤ 127) (hh : -128 ≤ h ∧ h ≤ 127) : s_q0i w h f = s_q29 w h f := by
 unfold s_q0i s_q29
 have e : allN (p53 w h f) 0 144 = allN (p47 w h f) 0 144 := by
  refine allN_congr 144 0 fun j _ hj => ?_
  unfold p53 p47
  rw [s83_eq hw hh (by omega), s81_eq hw hh, decide_eq_true (show (0 : Int) ≤ j by omega), decide_eq_true (show (j : Int) ≤ 143 by omega), Bool.true_and, Bool.true_and, Bool.and_comm]
 rw [e]
 unfold s_q1x
 rw [s63_eq, s63_eq, s57_eq, s57_eq]
 cases (decide ((1 : Int) ≤ IntKind.wrap .i64 w) && decide (IntKind.wrap .i64 w ≤ 12)) <;> rfl
end Go.RR
namespace Go.RR
open Go
abbrev I8 (x : Int) : Prop := -128 ≤ x ∧ x ≤ 127
noncomputable def isIn (w h : Int) (i : Nat) : Bool := s_q1w (Int.tmod i 12) (IntKind.wrap .i64 (Int.tdiv i 12)) w h
theorem lt144 {i : Nat} (h : i < 144) : decide ((i : Int) < 144) = true := lt_true (n := 144) h
theorem isIn_eq {w h : Int} {j : Nat} (hw : I8 w) (hh : I8 h) (hj : j < 144) : isIn w h j = (decide ((j : Int) % 12 < w) && decide ((j : Int) / 12 < h)) :=
 s83_eq (f := zF) hw hh (by omega)
theorem s81_in {w h : Int} {f : Nat → Int} {j : Nat} (hw : I8 w) (hh : I8 h) (hj : j < 144) : s_q28 w h f j = isIn w h j := by
 rw [s81_eq hw hh, isIn_eq hw hh hj, decide_eq_true (show (0 : Int) ≤ j by omega), decide_eq_true (show (j : Int) ≤ 143 by omega)]; rfl
theorem col {i : Nat} : Int.tmod (i : Int) 12 = (i : Int) % 12 := rem12 (Int.natCast_nonneg i)
end Go.RR
namespace Go.RR
open Go
structure Drw (w h : Int) (f : Nat → Int) : Prop where
 rng : ∀ j, j < 144 → 0 ≤ f j ∧ f j < 16
 out : ∀ j, j < 144 → f j ≠ 0 → (j : Int) % 12 < w ∧ (j : Int) / 12 < h
abbrev Siz (w h : Int) : Prop := (1 ≤ w ∧ w ≤ 12) ∧ (1 ≤ h ∧ h ≤ 12)
theorem Siz.i8 {w h : Int} (s : Siz w h) : I8 w ∧ I8 h := ⟨by omega, by omega⟩
theorem valid_mk {w h : Int} {f : Nat → Int} (hs : Siz w h) (hd : Drw w h f) : s_q29 w h f = true := by
 obtain ⟨hw, hh⟩ := hs.i8
 unfold s_q29
 rw [w64 hw, w64 hh, s57_eq, s57_eq]
 have all : ∀ (k i : Nat), i + k ≤ 144 → allN (p47 w h f) i k = true := by
  intro k
  induction k with
  | zero => intro i _; rfl
  | succ k ih =>
   intro i hi
   simp only [allN, ih (i + 1) (by omega), Bool.and_true]
   unfold p47
   rw [s81_in hw hh (by omega), isIn_eq hw hh (by omega)]
   have h1 := hd.rng i (by omega)
   rw [decide_eq_false (show ¬ f i ≥ 16 by omega)]
   by_cases h0 : f i = 0
   ·rw [h0]; simp
   ·obtain ⟨h2, h3⟩ := hd.out i (by omega) h0
    rw [decide_eq_true h2, decide_eq_true h3]; rfl
 rw [all 144 0 (by omega), decide_eq_true hs.1.1, decide_eq_true hs.1.2, decide_eq_true hs.2.1, decide_eq_true hs.2.2]; rfl
theorem drw_zero (w h : Int) : Drw w h zF := ⟨fun j _ => ⟨Int.le_refl 0, by show (0 : Int) < 16; omega⟩, fun j _ h0 => absurd rfl h0⟩
theorem upd_at (f : Nat → Int) (i : Nat) (x : Int) (j : Nat) : upd f i x j = if j = i then x else f j := by
 unfold upd
 by_cases e : j = i
 ·subst e; simp
 ·rw [beqF e, if_neg e]; rfl
theorem drw_set {w h : Int} {f : Nat → Int} (hd : Drw w h f) {i : Nat} {x : Int} (hx : 0 ≤ x ∧ x < 16) (hi : x ≠ 0 → (i : Int) % 12 < w ∧ (i : Int) / 12 < h) : Drw w h (upd f i x) := by
 refine ⟨fun j hj => ?_, fun j hj h0 => ?_⟩
 ·rw [upd_at]; split
  ·exact hx
  ·exact hd.rng j hj
 ·rw [upd_at] at h0
  split at h0
  ·rename_i e; subst e; exact hi h0
  ·exact hd.out j hj h0
theorem drawn_ok {n : Nat} {sd : Int} {l : List Int} (hl : Byt l) (hn : n ≤ 1000) : ∃ (w h : Int) (f : Nat → Int) (m : Nat) (sd' : Int), s_sl01Drawn (n : Int) sd l = some (w, h, f, (m : Int), sd') ∧ ((1 ≤ w ∧ w ≤ 6) ∧ (1 ≤ h ∧ h ≤ 6)) ∧ Drw w h f ∧ n ≤ m ∧ m ≤ n + 1000 := by
 unfold s_sl01Drawn t_sl01Drawn
 try dsimp (config := {proj := false, iota := false, eta := false}) only
 try dsimp (config := {proj := false, iota := false, eta := false}) only
 obtain ⟨x1, m1, s1, e1, _, q1, l1, u1⟩ := pick_ok (n := n) (k := 6) (sd := sd) hl (by omega) (by omega)
 obtain ⟨x2, m2, s2, e2, _, q2, l2, u2⟩ := pick_ok (n := m1) (k := 6) (sd := s1) hl (by omega) (by omega)
 obtain ⟨x3, m3, s3, e3, _, q3, l3, u3⟩ := pick_ok (n := m2) (k := 4) (sd := s2) hl (by omega) (by omega)
 have q1 := q1 (by omega)
 have q2 := q2 (by omega)
 have q3 := q3 (by omega)
 rw [e1]; dsimp only [Option.bind]
 rw [e2]; dsimp only
 rw [e3]; dsimp only
 rw [IntWalk.i64_in (1 + x3) (by omega), IntWalk.i64_in (1 + x1) (by omega), IntWalk.i64_in (1 + x2) (by omega), IntWalk.i8_in (1 + x1) (by omega), IntWalk.i8_in (1 + x2) (by omega)]
 have hsz : Siz (1 + x1) (1 + x2) := ⟨⟨by omega, by omega⟩, by omega, by omega⟩
 obtain ⟨hw, hh⟩ := hsz.i8
 have loop : ∀ (k i M : Nat) (m : Nat) (sd : Int) (f : Nat → Int), i + k = 144 → k < M → m3 ≤ m → m ≤ m3 + 2 * i → Drw (1 + x1) (1 + x2) f →
   ∃ (w h : Int) (f' : Nat → Int) (m' : Nat) (sd' : Int), iter (fun x => f_sl01Drawn_n4 x.1 x.2.1 x.2.2.1 x.2.2.2.1 x.2.2.2.2.1 x.2.2.2.2.2.1 x.2.2.2.2.2.2.1 x.2.2.2.2.2.2.2.1 x.2.2.2.2.2.2.2.2.1 x.2.2.2.2.2.2.2.2.2.1 x.2.2.2.2.2.2.2.2.2.2) M (1 + x3, (i : Int), (m : Int), sd, l, 0, 0, zF, 1 + x1, 1 + x2, f) = some (w, h, f', (m' : Int), sd') ∧ ((1 ≤ w ∧ w ≤ 6) ∧ (1 ≤ h ∧ h ≤ 6)) ∧ Drw w h f' ∧ n ≤ m' ∧ m' ≤ n + 1000 := by
  intro k
  induction k with
  | zero =>
   intro i M m sd f hi hM hm1 hm2 hd
   obtain ⟨M, rfl⟩ : ∃ K, M = K + 1 := ⟨M - 1, by omega⟩
   obtain rfl : i = 144 := hi
   obtain ⟨x5, m5, s5, e5, _, q5, l5, u5⟩ := pick_ok (n := m) (k := 5) (sd := sd) hl (by omega) (by omega)
   have q5 := q5 (by omega)
   unfold iter
   dsimp only
   have hend : decide (((144 : Nat) : Int) < 144) = false := rfl
   unfold f_sl01Drawn_n4 t_sl01Drawn_4
   try dsimp (config := {proj := false, iota := false, eta := false}) only
   try dsimp (config := {proj := false, iota := false, eta := false}) only
   rw [hend, cond_false, e5]
   dsimp only [Option.bind]
   by_cases h0 : x5 = 0
   ·rw [show (x5 == 0) = true from by rw [h0]; rfl, cond_true]
    have mir : ∀ (k i : Nat) (f : Nat → Int) (M : Nat), i + k = 144 → k < M → Drw (1 + x1) (1 + x2) f → ∃ f' : Nat → Int, iter (fun x => f_sl01Drawn_n11 x.1 x.2.1 x.2.2.1 x.2.2.2.1 x.2.2.2.2.1 x.2.2.2.2.2.1 x.2.2.2.2.2.2.1 x.2.2.2.2.2.2.2.1 x.2.2.2.2.2.2.2.2.1 x.2.2.2.2.2.2.2.2.2) M ((i : Int), (m5 : Int), s5, l, 0, 0, zF, 1 + x1, 1 + x2, f) = some (1 + x1, 1 + x2, f', (m5 : Int), s5) ∧ Drw (1 + x1) (1 + x2) f' := by
     intro k
     induction k with
     | zero =>
      intro i f M hi hM hd
      obtain ⟨M, rfl⟩ : ∃ K, M = K + 1 := ⟨M - 1, by omega⟩
      obtain rfl : i = 144 := hi
      unfold iter
      dsimp only
      unfold f_sl01Drawn_n11 t_sl01Drawn_11
      try dsimp (config := {proj := false, iota := false, eta := false}) only
      try dsimp (config := {proj := false, iota := false, eta := false}) only
      rw [hend, cond_false]
      exact ⟨f, rfl, hd⟩
     | succ k ih =>
      intro i f M hi hM hd
      obtain ⟨M, rfl⟩ : ∃ K, M = K + 1 := ⟨M - 1, by omega⟩
      have hi144 : i < 144 := by omega
      unfold iter
      dsimp only
      unfold f_sl01Drawn_n11 t_sl01Drawn_11
      try dsimp (config := {proj := false, iota := false, eta := false}) only
      try dsimp (config := {proj := false, iota := false, eta := false}) only
      rw [lt144 hi144, cond_true, s81_in hw hh hi144, isIn_eq hw hh hi144, succ64 (by omega)]
      cases hin : (decide ((i : Int) % 12 < 1 + x1) && decide ((i : Int) / 12 < 1 + x2)) with
      | false => exact ih (i + 1) f M (by omega) (by omega) hd
      | true =>
       simp only [Bool.and_eq_true, decide_eq_true_eq] at hin
       have ei : IntKind.wrap .i64 ((IntKind.wrap .i64 ((IntKind.wrap .i64 ((i : Int) - (IntKind.wrap .i64 (2 * (Int.tmod i 12))))) + (IntKind.wrap .i64 (1 + x1)))) - 1) = (i : Int) - 2 * ((i : Int) % 12) + (1 + x1) - 1 := by
        rw [col, IntWalk.i64_in (2 * ((i : Int) % 12)) (by omega), IntWalk.i64_in ((i : Int) - _) (by omega), w64 hw, IntWalk.i64_in (_ + (1 + x1)) (by omega), IntWalk.i64_in _ (by omega)]
       obtain ⟨q, hq⟩ : ∃ q : Nat, (i : Int) - 2 * ((i : Int) % 12) + (1 + x1) - 1 = (q : Int) := ⟨((i : Int) - 2 * ((i : Int) % 12) + (1 + x1) - 1).toNat, by omega⟩
       have hq2 : q < 144 := by omega
       rw [ei, hq, inB_nat hq2, inB_nat hi144, toNat_nat, toNat_nat]
       exact ih (i + 1) (upd f i (f q)) M (by omega) (by omega) (drw_set hd (hd.rng q hq2) fun _ => hin)
    obtain ⟨f', r1, r2⟩ := mir 144 0 f FU (by omega) (FU_big (pow_big (by omega))) hd
    have r1 : f_sl01Drawn_run11 (0, (m5 : Int), s5, l, 0, 0, zF, 1 + x1, 1 + x2, f) = some (1 + x1, 1 + x2, f', (m5 : Int), s5) := r1
    rw [r1]
    exact ⟨_, _, f', m5, s5, rfl, ⟨⟨by omega, by omega⟩, by omega, by omega⟩, r2, by omega, by omega⟩
   ·rw [show (x5 == 0) = false from by simpa using h0, cond_false]
    by_cases h1 : x5 = 1
    ·rw [show (x5 == 1) = true from by rw [h1]; rfl, cond_true]
     obtain ⟨h', eh, hh1, hh2⟩ : ∃ h', s_q1f (1 + x2) (1 + x1) = h' ∧ (1 ≤ h' ∧ h' ≤ 6) ∧ h' ≤ 1 + x2 := by
      unfold s_q1f
      by_cases hc : 1 + x2 < 1 + x1
      ·rw [decide_eq_true hc]; exact ⟨_, rfl, by show _ ∧ _; constructor <;> (simp only [cond_true]; omega), by simp⟩
      ·rw [decide_eq_false hc]; exact ⟨_, rfl, by show _ ∧ _; constructor <;> (simp only [cond_false]; omega), by simp only [cond_false]; omega⟩
     rw [eh]
     have hsz' : Siz (1 + x1) h' := ⟨⟨by omega, by omega⟩, by omega, by omega⟩
     obtain ⟨_, hh'⟩ := hsz'.i8
     have cut : ∀ (k i : Nat) (f : Nat → Int) (M : Nat), i + k = 144 → k < M → (∀ j, j < 144 → 0 ≤ f j ∧ f j < 16) → (∀ j, j < i → f j ≠ 0 → (j : Int) % 12 < 1 + x1 ∧ (j : Int) / 12 < h') → ∃ f' : Nat → Int, iter (fun x => f_sl01Drawn_n18 x.1 x.2.1 x.2.2.1 x.2.2.2.1 x.2.2.2.2.1 x.2.2.2.2.2.1 x.2.2.2.2.2.2.1 x.2.2.2.2.2.2.2.1 x.2.2.2.2.2.2.2.2.1 x.2.2.2.2.2.2.2.2.2) M ((i : Int), (m5 : Int), s5, l, 0, 0, zF, 1 + x1, h', f) = some (1 + x1, h', f', (m5 : Int), s5) ∧ Drw (1 + x1) h' f' := by
      intro k
      induction k with
      | zero =>
       intro i f M hi hM hd1 hd2
       obtain ⟨M, rfl⟩ : ∃ K, M = K + 1 := ⟨M - 1, by omega⟩
       obtain rfl : i = 144 := hi
       unfold iter
       dsimp only
       unfold f_sl01Drawn_n18 t_sl01Drawn_18
       try dsimp (config := {proj := false, iota := false, eta := false}) only
       try dsimp (config := {proj := false, iota := false, eta := false}) only
       rw [hend, cond_false]
       exact ⟨f, rfl, hd1, hd2⟩
      | succ k ih =>
       intro i f M hi hM hd1 hd2
       obtain ⟨M, rfl⟩ : ∃ K, M = K + 1 := ⟨M - 1, by omega⟩
       have hi144 : i < 144 := by omega
       unfold iter
       dsimp only
       unfold f_sl01Drawn_n18 t_sl01Drawn_18
       try dsimp (config := {proj := false, iota := false, eta := false}) only
       try dsimp (config := {proj := false, iota := false, eta := false}) only
       rw [lt144 hi144, cond_true, s81_in hw hh' hi144, isIn_eq hw hh' hi144, succ64 (by omega), inB_nat hi144, toNat_nat]
       cases hin : (decide ((i : Int) % 12 < 1 + x1) && decide ((i : Int) / 12 < h')) with
       | true =>
        simp only [Bool.and_eq_true, decide_eq_true_eq] at hin
        refine ih (i + 1) f M (by omega) (by omega) hd1 fun j hj h0 => ?_
        by_cases e : j = i
        ·subst e; exact hin
        ·exact hd2 j (by omega) h0
       | false =>
        refine ih (i + 1) (upd f i 0) M (by omega) (by omega) (fun j hj => ?_) fun j hj h0 => ?_
        ·rw [upd_at]; split
         ·omega
         ·exact hd1 j hj
        ·rw [upd_at] at h0
         split at h0
         ·exact absurd rfl h0
         ·exact hd2 j (by omega) h0
     obtain ⟨f', r1, r2⟩ := cut 144 0 f FU (by omega) (FU_big (pow_big (by omega))) hd.rng (fun j hj => by omega)
     have r1 : f_sl01Drawn_run18 (0, (m5 : Int), s5, l, 0, 0, zF, 1 + x1, h', f) = some (1 + x1, h', f', (m5 : Int), s5) := r1
     rw [r1]
     exact ⟨_, _, f', m5, s5, rfl, ⟨⟨by omega, by omega⟩, by omega, by omega⟩, r2, by omega, by omega⟩
    ·rw [show (x5 == 1) = false from by simpa using h1, cond_false]
     exact ⟨_, _, f, m5, s5, rfl, ⟨⟨by omega, by omega⟩, by omega, by omega⟩, hd, by omega, by omega⟩
  | succ k ih =>
   intro i M m sd f hi hM hm1 hm2 hd
   obtain ⟨M, rfl⟩ : ∃ K, M = K + 1 := ⟨M - 1, by omega⟩
   have hi144 : i < 144 := by omega
   unfold iter
   dsimp only
   unfold f_sl01Drawn_n4 t_sl01Drawn_4
   try dsimp (config := {proj := false, iota := false, eta := false}) only
   try dsimp (config := {proj := false, iota := false, eta := false}) only
   rw [lt144 hi144, cond_true, s81_in hw hh hi144, isIn_eq hw hh hi144, succ64 (by omega)]
   cases hin : (decide ((i : Int) % 12 < 1 + x1) && decide ((i : Int) / 12 < 1 + x2)) with
   | false => exact ih (i + 1) M m sd f (by omega) (by omega) hm1 (by omega) hd
   | true =>
    simp only [Bool.and_eq_true, decide_eq_true_eq] at hin
    obtain ⟨x4, m4, s4, e4, z4, q4, l4, u4⟩ := pick_ok (n := m) (k := 1 + x3) (sd := sd) hl (by omega) (by omega)
    have r4 : 0 ≤ x4 ∧ x4 < 16 := by
     by_cases hk : 1 + x3 ≤ 1
     ·rw [z4 hk]; omega
     ·have := q4 (by omega); omega
    rw [e4, cond_true]
    dsimp only [Option.bind]
    rw [inB_nat hi144, cond_true, toNat_nat, IntWalk.u8_in x4 (by omega)]
    exact ih (i + 1) M m4 s4 (upd f i x4) (by omega) (by omega) (by omega) (by omega) (drw_set hd r4 fun _ => hin)
 exact loop 144 0 FU m3 s3 zF (by omega) (FU_big (pow_big (by omega))) (Nat.le_refl _) (by omega) (drw_zero _ _)
end Go.RR
namespace Go.RR
open Go
section
variable {w h : Nat} (hw : w ≤ 12) (hh : h ≤ 12) {f : Nat → Int}
include hw hh
end
theorem A2Picture_ok {l : List Int} (hl : Byt l) : ∃ (w h : Nat) (f : Nat → Int), s_q13 l = some ((w : Int), (h : Int), f) ∧ ((1 ≤ w ∧ w ≤ 6) ∧ (1 ≤ h ∧ h ≤ 6)) ∧ Drw (w : Int) (h : Int) f := by
 obtain ⟨w, h, f, m, sd, e1, hs, hd, _, hm⟩ := drawn_ok (n := 0) (sd := (s_sl00From l).2) hl (by omega)
 obtain ⟨w, rfl⟩ := Int.eq_ofNat_of_zero_le (show 0 ≤ w by omega)
 obtain ⟨h, rfl⟩ := Int.eq_ofNat_of_zero_le (show 0 ≤ h by omega)
 refine ⟨w, h, f, ?_, by omega, hd⟩
 unfold s_q13
 rw [show (s_sl00From l).1 = ((0 : Nat) : Int) from rfl, e1]; rfl
section
variable {w h : Nat} {f : Nat → Int} {a0 a1 : List Int} {F : List (List Int)}
end
end Go.RR
