/- Jobs and orders that are drawn. -/
import Derived.Test.YtbmaolhjplapoaaGreatHe
import Derived.Test.YtbmaolhjplapoaaGreatVy
import Derived.Test.YtbmaolhjplapoaaGreatVa
import Derived.Test.YtbmaolhjplapoaaGreatRy
import Derived.Test.YtbmaolhjplapoaaGreatTa
import Derived.Test.YtbmaolhjplapoaaGreatVe
set_option linter.unusedVariables false
set_option linter.unusedSimpArgs false
set_option linter.unusedSectionVars false
namespace Go.RR
open Go
open Go.IntKind (wrap)
abbrev Byt (l : List Int) : Prop := l.length ≤ 5000 ∧ ∀ x ∈ l, 0 ≤ x ∧ x ≤ 255
theorem zUl (x : Int) : 0 ≤ wrap .i64 (vY .u64 x 255) ∧ wrap .i64 (vY .u64 x 255) ≤ 255 := by
 have e : vY .u64 x 255 = ((BitVec.ofInt 64 x &&& BitVec.ofInt 64 255).toNat : Int) := by
  have hlt : (BitVec.ofInt 64 x &&& BitVec.ofInt 64 255).toNat < 18446744073709551616 := (BitVec.ofInt 64 x &&& BitVec.ofInt 64 255).isLt
  exact IntWalk.u64_in ((BitVec.ofInt 64 x &&& BitVec.ofInt 64 255).toNat : Int) (by omega)
 have hle : (BitVec.ofInt 64 x &&& BitVec.ofInt 64 255).toNat ≤ 255 := by
  rw [BitVec.toNat_and]
  exact Nat.and_le_right
 rw [e, IntWalk.i64_in _ (by omega)]
 omega
theorem zDM {n : Nat} {sd : Int} {l : List Int} (hl : Byt l) (hn : n ≤ 100000) : ∃ x sd', xq (n : Int) sd l = some (x, ((n + 1 : Nat) : Int), sd') ∧ 0 ≤ x ∧ x ≤ 255 := by
 unfold xq xu
 try dsimp (config := {proj := false, iota := false, eta := false}) only
 rw [zH (by omega)]
 have h40 : decide (40 < 0) = false := rfl
 by_cases h : n < l.length
 ·have hx := hl.2 _ (zR (d := 0) h)
  rw [zD h, zg h, decide_eq_true (show ((n + 1 : Nat) : Int) ≤ (l.length : Int) by omega), zd]
  exact ⟨_, _, rfl, by rw [IntWalk.i64_in _ (by omega)]; exact hx⟩
 ·rw [decide_eq_false (show ¬ ((n : Int) < (l.length : Int)) by omega), cond_false, decide_eq_false (show ¬ ((n + 1 : Nat) : Int) ≤ (l.length : Int) by omega), cond_false, h40, cond_false]
  exact ⟨_, _, rfl, zUl _⟩
theorem y5 {n : Nat} {k sd : Int} {l : List Int} (hl : Byt l) (hn : n ≤ 10000) (hk : k ≤ 60000) : ∃ (x : Int) (m : Nat) (sd' : Int), zm k (n : Int) sd l = some (x, (m : Int), sd') ∧ (k ≤ 1 → x = 0) ∧ (1 < k → 0 ≤ x ∧ x < k) ∧ n ≤ m ∧ m ≤ n + 2 := by
 unfold zm xA
 try dsimp (config := {proj := false, iota := false, eta := false}) only
 by_cases h : k ≤ 1
 ·rw [decide_eq_true h]
  exact ⟨0, n, sd, rfl, fun _ => rfl, fun h' => by omega, Nat.le_refl _, by omega⟩
 ·rw [decide_eq_false h, cond_false]
  obtain ⟨x, s1, e1, x1, x2⟩ := zDM (sd := sd) hl (show n ≤ 100000 by omega)
  have hk0 : decide (k = 0) = false := decide_eq_false (by omega)
  rw [e1]
  dsimp only [Option.bind]
  by_cases h2 : k > 200
  ·obtain ⟨y, s2, e2, y1, y2⟩ := zDM (sd := s1) hl (show n + 1 ≤ 100000 by omega)
   rw [decide_eq_true h2, cond_true, e2]
   dsimp only
   rw [hk0, cond_false, IntWalk.i64_in (x * 256) (by omega), IntWalk.i64_in _ (by omega)]
   refine ⟨_, n + 2, s2, rfl, fun h' => by omega, fun _ => ?_, by omega, by omega⟩
   rw [Int.tmod_eq_emod_of_nonneg (by omega)]
   exact ⟨Int.emod_nonneg _ (by omega), Int.emod_lt_of_pos _ (by omega)⟩
  ·rw [decide_eq_false h2, cond_false, hk0, cond_false]
   refine ⟨_, n + 1, s1, rfl, fun h' => by omega, fun _ => ?_, by omega, by omega⟩
   rw [Int.tmod_eq_emod_of_nonneg (by omega)]
   exact ⟨Int.emod_nonneg _ (by omega), Int.emod_lt_of_pos _ (by omega)⟩
theorem zqX {n : Nat} {k sd : Int} {l : List Int} (hl : Byt l) (hn : n ≤ 10000) (hk : k ≤ 60000) : ∃ (b : Bool) (m : Nat) (sd' : Int), yG k (n : Int) sd l = some (b, (m : Int), sd') ∧ n ≤ m ∧ m ≤ n + 2 := by
 unfold yG
 obtain ⟨x, m, s', e, _, _, h1, h2⟩ := y5 (sd := sd) hl hn hk
 rw [e]
 exact ⟨_, m, s', rfl, h1, h2⟩
theorem Xx {σ ρ : Type} {step : σ → Option (σ ⊕ ρ)} (I : Nat → σ → Prop) (Z : ρ → Prop) (hs : ∀ k s, I (k + 1) s → ∃ s', step s = some (.inl s') ∧ I k s') (he : ∀ s, I 0 s → ∃ r, step s = some (.inr r) ∧ Z r) : ∀ (k m : Nat) (s : σ), k < m → I k s → ∃ r, zI step m s = some r ∧ Z r
 | 0, m, s, hm, hI => by
  obtain ⟨m, rfl⟩ : ∃ K, m = K + 1 := ⟨m - 1, by omega⟩
  obtain ⟨r, e, z⟩ := he s hI
  unfold zI
  rw [e]
  exact ⟨r, rfl, z⟩
 | k + 1, m, s, hm, hI => by
  obtain ⟨m, rfl⟩ : ∃ K, m = K + 1 := ⟨m - 1, by omega⟩
  obtain ⟨s', e, z⟩ := hs k s hI
  unfold zI
  rw [e]
  exact Xx I Z hs he k m s' (by omega) z
theorem zkE {l : List Job} (hj : yh l) (hn : l.length ≤ 12) {tk : Int} (ht : zbZ l.length tk) {i : Nat} (hi : i < l.length) (hb : tb tk i = false) (hw : ∀ k : Nat, (l.getD i (0, 0)).2.toNat.testBit k = true → tb tk k = true) : ready l tk i = true := by
 unfold ready
 rw [zit ht.rng.1 (by omega), show tk.toNat.testBit i = false from hb]
 have ha := (hj _ (zR (d := ((0, 0) : Job)) hi)).2
 obtain ⟨b1, b2⟩ := zpB ha ht.rng
 have : zO .u16 (l.getD i (0, 0)).2 tk = 0 := zju b1.1 (by omega) fun k => by
  rw [b2]
  cases hq : (l.getD i (0, 0)).2.toNat.testBit k with
  | false => simp
  | true =>
   rw [show tk.toNat.testBit k = true from hw k hq]
   simp
 rw [this]
 rfl
structure Ue (l : List Job) : Prop where
 len : l.length ≤ 6
 days : ∀ i, i < l.length → 1 ≤ (l.getD i (0, 0)).1 ∧ (l.getD i (0, 0)).1 ≤ 6
 rng : ∀ i, i < l.length → 0 ≤ (l.getD i (0, 0)).2 ∧ (l.getD i (0, 0)).2 ≤ 65535
 bits : ∀ i k, i < l.length → (l.getD i (0, 0)).2.toNat.testBit k = true → k < i
theorem Ue.ok {l : List Job} (h : Ue l) : yh l := by
 intro x hx
 obtain ⟨i, hi, e⟩ := List.getElem_of_mem hx
 have h1 := h.days i hi
 have h2 := h.rng i hi
 rw [yU (0, 0) hi, e] at h1 h2
 omega
def zUs (l : List Job) : Prop := ∀ tk, zbZ l.length tk → xp tk 0 l.length ≠ 0 → ∃ i, i < l.length ∧ ready l tk i = true
theorem Ue.flow {l : List Job} (h : Ue l) : zUs l := by
 intro tk ht hc
 have hl := h.len
 have hex : ∃ i, i < l.length ∧ tb tk i = false := by
  apply Classical.byContradiction
  intro hne
  refine hc ((ZY l.length 0).2 fun k _ hk => ?_)
  cases hq : tb tk k with
  | true => rfl
  | false => exact absurd ⟨k, by omega, hq⟩ hne
 have key : ∀ n i, i ≤ n → i < l.length → tb tk i = false → ∃ i, i < l.length ∧ ready l tk i = true := by
  intro n
  induction n with
  | zero =>
   intro i hi hil hb
   obtain rfl : i = 0 := by omega
   exact ⟨0, hil, zkE h.ok (by omega) ht hil hb fun k hk => by have := h.bits 0 k hil hk; omega⟩
  | succ n ih =>
   intro i hi hil hb
   by_cases hq : ∃ k, k < i ∧ tb tk k = false
   ·obtain ⟨k, k1, k2⟩ := hq
    exact ih k (by omega) (by omega) k2
   ·refine ⟨i, hil, zkE h.ok (by omega) ht hil hb fun k hk => ?_⟩
    have := h.bits i k hil hk
    cases hk2 : tb tk k with
    | true => rfl
    | false => exact absurd ⟨k, this, hk2⟩ hq
 obtain ⟨i, i1, i2⟩ := hex
 exact key i i (Nat.le_refl _) i1 i2
theorem zvE {l : List Job} (hn : l.length ≤ 12) (hf : zUs l) : ∀ (k : Nat) (tk : Int) (out : List Int), zbZ l.length tk → xp tk 0 l.length = k → (ZE l k tk out).2 = true
 | 0, tk, out, _, _ => rfl
 | k + 1, tk, out, ht, hc => by
  obtain ⟨i, hi, hr⟩ := hf tk ht (by omega)
  unfold ZE
  cases hp : pick l tk with
  | none =>
   have := List.find?_eq_none.1 hp i (by rw [List.mem_range'_1]; omega)
   exact absurd hr (by simpa using this)
  | some j =>
   have hj := zey hp
   have hrj : ready l tk j = true := by simpa using List.find?_some hp
   have hb := xE ht.rng.1 (show j < 16 by omega) hrj
   have := xG (xC ht hj hn).2 hb l.length 0 (Nat.zero_le _) (by omega)
   exact zvE hn hf k _ _ (xC ht hj hn).1 (by show xp (tkI tk j) 0 l.length = k; omega)
theorem zsx (n : Nat) : zbZ n 0 := ⟨by omega, Nat.pow_pos (by decide)⟩
theorem Ue.valid {l : List Job} (h : Ue l) : yI l = true := by
 have hl := h.len
 unfold yI
 rw [decide_eq_true (show l.length ≤ 12 by omega), zvE (by omega) h.flow l.length 0 [] (zsx _) (Xd _ _), Bool.and_true, Bool.true_and, List.all_eq_true]
 intro x hx
 obtain ⟨i, hi, e⟩ := List.getElem_of_mem hx
 have h1 := h.days i hi
 have h2 := h.rng i hi
 have h3 := h.bits i
 rw [yU (0, 0) hi, e] at h1 h2 h3
 unfold zcK zK
 rw [IntWalk.i64_in x.1 (by omega), decide_eq_true (show x.1 ≥ 1 by omega), decide_eq_true (show x.1 ≤ 30 by omega)]
 have hz : yz .u16 x.2 (l.length : Int) = 0 := by
  unfold yz
  have hm : min (Int.toNat (l.length : Int)) IntKind.u16.bits = l.length := by
   rw [zd]
   exact Nat.min_eq_left (by show l.length ≤ 16; omega)
  rw [hm]
  have hp : (0 : Int) < 2 ^ l.length := Int.pow_pos (by decide)
  rw [Int.fdiv_eq_ediv_of_nonneg _ (Int.le_of_lt hp)]
  have hlt : x.2.toNat < 2 ^ l.length := by
   refine Nat.lt_pow_two_of_testBit _ fun k hk => ?_
   cases hq : x.2.toNat.testBit k with
   | false => rfl
   | true => have := h3 k hi hq; omega
  refine Int.ediv_eq_zero_of_lt h2.1 ?_
  have : (2 : Int) ^ l.length = ((2 ^ l.length : Nat) : Int) := by rw [Int.natCast_pow]; rfl
  omega
 rw [hz]; rfl
theorem zoN {l : List Job} (hn : l.length ≤ 12) : ∀ (k : Nat) (tk tk' : Int) (out : List Int), zbZ l.length tk → xp tk 0 l.length = k → (ZE l k tk out).2 = true → yh l → zbZ l.length tk' → (∀ q, tb tk q = true → tb tk' q = true) → xp tk' 0 l.length ≠ 0 → ∃ i, i < l.length ∧ ready l tk' i = true
 | 0, tk, tk', out, ht, hc, _, hj, ht', hs, hc' => by
  refine absurd ((ZY l.length 0).2 fun k h1 h2 => ?_) hc'
  exact hs k ((ZY l.length 0).1 hc k h1 h2)
 | k + 1, tk, tk', out, ht, hc, ho, hj, ht', hs, hc' => by
  unfold ZE at ho
  cases hp : pick l tk with
  | none => rw [hp] at ho; cases ho
  | some j =>
   rw [hp] at ho
   have hjl := zey hp
   have hrj : ready l tk j = true := by simpa using List.find?_some hp
   have hb := xE ht.rng.1 (show j < 16 by omega) hrj
   have hcs := xG (xC ht hjl hn).2 hb l.length 0 (Nat.zero_le _) (by omega)
   have hw : ∀ q : Nat, (l.getD j (0, 0)).2.toNat.testBit q = true → tb tk q = true := by
    intro q hq
    unfold ready at hrj
    have hab : zO .u16 (l.getD j (0, 0)).2 tk = 0 := by
     cases hb2 : (yz .u16 tk j % 2 == 0)
     ·rw [hb2] at hrj; cases hrj
     ·rw [hb2] at hrj
      simpa using hrj
    exact zkR (hj _ (zR hjl)).2 ht.rng hab hq
   cases hq : tb tk' j with
   | false => exact ⟨j, hjl, zkE hj hn ht' hjl hq fun q h => hs q (hw q h)⟩
   | true =>
    refine zoN hn k (tkI tk j) tk' _ (xC ht hjl hn).1 (by omega) ho hj ht' (fun q h => ?_) hc'
    rw [(xC ht hjl hn).2] at h
    by_cases e : j = q
    ·subst e; exact hq
    ·rw [decide_eq_false e, Bool.or_false] at h
     exact hs q h
theorem zA4 {l : List Job} (hj : yh l) (hv : yI l = true) : zUs l := fun tk ht hc =>
 zoN (Yg hv).1 l.length 0 tk [] (zsx _) (Xd _ _) (Yg hv).2 hj ht (fun q h => by rw [zbz] at h; cases h) hc
end Go.RR
namespace Go.RR
open Go
open Go.IntKind (wrap)
theorem w64 {w : Int} (h : -128 ≤ w ∧ w ≤ 127) : wrap .i64 w = w := IntWalk.i64_in _ (by omega)
theorem zTx {j : Int} (h : 0 ≤ j ∧ j ≤ 9223372036854775807) : wrap .i64 (Int.tdiv j 12) = j / 12 := IntWalk.i64_quo _ _ (by omega)
theorem zPD {j : Int} (h : 0 ≤ j) : Int.tmod j 12 = j % 12 := Int.tmod_eq_emod_of_nonneg h
theorem zgK (a b c : Int) : yf a b c = (decide (b ≤ a) && decide (a ≤ c)) := by
 unfold yf; cases decide (b ≤ a) <;> rfl
theorem zdK (a b c : Int) : zK a b c = (decide (b ≤ a) && decide (a ≤ c)) := by
 unfold zK; show cond (decide (b ≤ a)) _ _ = _; cases decide (b ≤ a) <;> rfl
theorem zSf {w h : Int} {f : Nat → Int} {j : Int} (hw : -128 ≤ w ∧ w ≤ 127) (hh : -128 ≤ h ∧ h ≤ 127) (hj : 0 ≤ j ∧ j ≤ 9223372036854775807) :
  vn w h f (Int.tmod j 12) (wrap .i64 (Int.tdiv j 12)) = (decide (j % 12 < w) && decide (j / 12 < h)) := by
 unfold vn wd
 rw [w64 hw, w64 hh, zTx hj, zPD hj.1, IntWalk.i64_in (w - 1) (by omega), IntWalk.i64_in (h - 1) (by omega), zgK, zgK]
 have e1 : decide (0 ≤ j % 12) = true := decide_eq_true (by omega)
 have e2 : decide (0 ≤ j / 12) = true := decide_eq_true (by omega)
 have e3 : decide (j % 12 ≤ w - 1) = decide (j % 12 < w) := decide_eq_decide.2 (by omega)
 have e4 : decide (j / 12 ≤ h - 1) = decide (j / 12 < h) := decide_eq_decide.2 (by omega)
 rw [e1, e2, e3, e4]
 cases decide (j % 12 < w) <;> rfl
theorem zRA {w h : Int} {f : Nat → Int} {j : Int} (hw : -128 ≤ w ∧ w ≤ 127) (hh : -128 ≤ h ∧ h ≤ 127) :
  YP w h f j = (decide (0 ≤ j) && decide (j ≤ 143) && (decide (j % 12 < w) && decide (j / 12 < h))) := by
 unfold YP
 rw [zdK]
 by_cases h0 : 0 ≤ j
 ·by_cases h1 : j ≤ 143
  ·rw [w64 hw, w64 hh, zTx (by omega), zPD h0, decide_eq_true h0, decide_eq_true h1]
   cases decide (j % 12 < w) <;> cases decide (j / 12 < h) <;> rfl
  ·rw [decide_eq_false h1, Bool.and_false, Bool.false_and]; rfl
 ·rw [decide_eq_false h0, Bool.false_and, Bool.false_and]; rfl
theorem zsS {w h : Int} {f : Nat → Int} (hw : -128 ≤ w ∧ w ≤ 127) (hh : -128 ≤ h ∧ h ≤ 127) : Vx w h f = Vk w h f := by
 unfold Vx Vk
 have e : zbW (p53 w h f) 0 144 = zbW (p47 w h f) 0 144 := by
  refine zjL 144 0 fun j _ hj => ?_
  unfold p53 p47
  rw [zSf hw hh (by omega), zRA hw hh, decide_eq_true (show (0 : Int) ≤ j by omega), decide_eq_true (show (j : Int) ≤ 143 by omega), Bool.true_and, Bool.true_and, Bool.and_comm]
 rw [e]
 unfold vr
 rw [zgK, zgK, zdK, zdK]
 cases (decide ((1 : Int) ≤ wrap .i64 w) && decide (wrap .i64 w ≤ 12)) <;> rfl
end Go.RR
namespace Go.RR
open Go
open Go.IntKind (wrap)
abbrev I8 (x : Int) : Prop := -128 ≤ x ∧ x ≤ 127
noncomputable def zVi (w h : Int) (i : Nat) : Bool := wd (Int.tmod i 12) (wrap .i64 (Int.tdiv i 12)) w h
theorem zRQ {i : Nat} (h : i < 144) : decide ((i : Int) < 144) = true := zD (n := 144) h
theorem zer {w h : Int} {j : Nat} (hw : I8 w) (hh : I8 h) (hj : j < 144) : zVi w h j = (decide ((j : Int) % 12 < w) && decide ((j : Int) / 12 < h)) :=
 zSf (f := zF) hw hh (by omega)
theorem zqJ {w h : Int} {f : Nat → Int} {j : Nat} (hw : I8 w) (hh : I8 h) (hj : j < 144) : YP w h f j = zVi w h j := by
 rw [zRA hw hh, zer hw hh hj, decide_eq_true (show (0 : Int) ≤ j by omega), decide_eq_true (show (j : Int) ≤ 143 by omega)]; rfl
theorem col {i : Nat} : Int.tmod (i : Int) 12 = (i : Int) % 12 := zPD (Int.natCast_nonneg i)
end Go.RR
namespace Go.RR
open Go
open Go.IntKind (wrap)
structure Drw (w h : Int) (f : Nat → Int) : Prop where
 rng : ∀ j, j < 144 → 0 ≤ f j ∧ f j < 16
 out : ∀ j, j < 144 → f j ≠ 0 → (j : Int) % 12 < w ∧ (j : Int) / 12 < h
abbrev Siz (w h : Int) : Prop := (1 ≤ w ∧ w ≤ 12) ∧ (1 ≤ h ∧ h ≤ 12)
theorem Siz.i8 {w h : Int} (s : Siz w h) : I8 w ∧ I8 h := ⟨by omega, by omega⟩
theorem ztS {w h : Int} {f : Nat → Int} (hs : Siz w h) (hd : Drw w h f) : Vk w h f = true := by
 obtain ⟨hw, hh⟩ := hs.i8
 unfold Vk
 rw [w64 hw, w64 hh, zdK, zdK]
 have all : ∀ (k i : Nat), i + k ≤ 144 → zbW (p47 w h f) i k = true := by
  intro k
  induction k with
  | zero => intro i _; rfl
  | succ k ih =>
   intro i hi
   simp only [zbW, ih (i + 1) (by omega), Bool.and_true]
   unfold p47
   rw [zqJ hw hh (by omega), zer hw hh (by omega)]
   have h1 := hd.rng i (by omega)
   rw [decide_eq_false (show ¬ f i ≥ 16 by omega)]
   by_cases h0 : f i = 0
   ·rw [h0]; simp
   ·obtain ⟨h2, h3⟩ := hd.out i (by omega) h0
    rw [decide_eq_true h2, decide_eq_true h3]; rfl
 rw [all 144 0 (by omega), decide_eq_true hs.1.1, decide_eq_true hs.1.2, decide_eq_true hs.2.1, decide_eq_true hs.2.2]; rfl
theorem zPu (w h : Int) : Drw w h zF := ⟨fun j _ => ⟨Int.le_refl 0, by show (0 : Int) < 16; omega⟩, fun j _ h0 => absurd rfl h0⟩
theorem uJ (f : Nat → Int) (i : Nat) (x : Int) (j : Nat) : upd f i x j = if j = i then x else f j := by
 unfold upd
 by_cases e : j = i
 ·subst e; simp
 ·rw [xQ e, if_neg e]; rfl
theorem zBS {w h : Int} {f : Nat → Int} (hd : Drw w h f) {i : Nat} {x : Int} (hx : 0 ≤ x ∧ x < 16) (hi : x ≠ 0 → (i : Int) % 12 < w ∧ (i : Int) / 12 < h) : Drw w h (upd f i x) := by
 refine ⟨fun j hj => ?_, fun j hj h0 => ?_⟩
 ·rw [uJ]; split
  ·exact hx
  ·exact hd.rng j hj
 ·rw [uJ] at h0
  split at h0
  ·rename_i e; subst e; exact hi h0
  ·exact hd.out j hj h0
theorem zRp {n : Nat} {sd : Int} {l : List Int} (hl : Byt l) (hn : n ≤ 1000) : ∃ (w h : Int) (f : Nat → Int) (m : Nat) (sd' : Int), Zk (n : Int) sd l = some (w, h, f, (m : Int), sd') ∧ ((1 ≤ w ∧ w ≤ 6) ∧ (1 ≤ h ∧ h ≤ 6)) ∧ Drw w h f ∧ n ≤ m ∧ m ≤ n + 1000 := by
 unfold Zk ZQ
 try dsimp (config := {proj := false, iota := false, eta := false}) only
 obtain ⟨x1, m1, s1, e1, _, q1, l1, u1⟩ := y5 (n := n) (k := 6) (sd := sd) hl (by omega) (by omega)
 obtain ⟨x2, m2, s2, e2, _, q2, l2, u2⟩ := y5 (n := m1) (k := 6) (sd := s1) hl (by omega) (by omega)
 obtain ⟨x3, m3, s3, e3, _, q3, l3, u3⟩ := y5 (n := m2) (k := 4) (sd := s2) hl (by omega) (by omega)
 have q1 := q1 (by omega)
 have q2 := q2 (by omega)
 have q3 := q3 (by omega)
 rw [e1]; dsimp only [Option.bind]
 rw [e2]; dsimp only
 rw [e3]; dsimp only
 rw [IntWalk.i64_in (1 + x3) (by omega), IntWalk.i64_in (1 + x1) (by omega), IntWalk.i64_in (1 + x2) (by omega), IntWalk.i8_in (1 + x1) (by omega), IntWalk.i8_in (1 + x2) (by omega)]
 have hsz : Siz (1 + x1) (1 + x2) := ⟨⟨by omega, by omega⟩, by omega, by omega⟩
 obtain ⟨hw, hh⟩ := hsz.i8
 have loop : ∀ (k i M : Nat) (m : Nat) (sd : Int) (f : Nat → Int), i + k = 144 → k < M → m3 ≤ m → m ≤ m3 + 2 * i → Drw (1 + x1) (1 + x2) f →
   ∃ (w h : Int) (f' : Nat → Int) (m' : Nat) (sd' : Int), zI (fun x => Z1 x.1 x.2.1 x.2.2.1 x.2.2.2.1 x.2.2.2.2.1 x.2.2.2.2.2.1 x.2.2.2.2.2.2.1 x.2.2.2.2.2.2.2.1 x.2.2.2.2.2.2.2.2.1 x.2.2.2.2.2.2.2.2.2.1 x.2.2.2.2.2.2.2.2.2.2) M (1 + x3, (i : Int), (m : Int), sd, l, 0, 0, zF, 1 + x1, 1 + x2, f) = some (w, h, f', (m' : Int), sd') ∧ ((1 ≤ w ∧ w ≤ 6) ∧ (1 ≤ h ∧ h ≤ 6)) ∧ Drw w h f' ∧ n ≤ m' ∧ m' ≤ n + 1000 := by
  intro k
  induction k with
  | zero =>
   intro i M m sd f hi hM hm1 hm2 hd
   obtain ⟨M, rfl⟩ : ∃ K, M = K + 1 := ⟨M - 1, by omega⟩
   obtain rfl : i = 144 := hi
   obtain ⟨x5, m5, s5, e5, _, q5, l5, u5⟩ := y5 (n := m) (k := 5) (sd := sd) hl (by omega) (by omega)
   have q5 := q5 (by omega)
   unfold zI
   dsimp only
   have hend : decide (((144 : Nat) : Int) < 144) = false := rfl
   unfold Z1 xJ
   try dsimp (config := {proj := false, iota := false, eta := false}) only
   rw [hend, cond_false, e5]
   dsimp only [Option.bind]
   by_cases h0 : x5 = 0
   ·rw [show (x5 == 0) = true from by rw [h0]; rfl, cond_true]
    have mir : ∀ (k i : Nat) (f : Nat → Int) (M : Nat), i + k = 144 → k < M → Drw (1 + x1) (1 + x2) f → ∃ f' : Nat → Int, zI (fun x => Zr x.1 x.2.1 x.2.2.1 x.2.2.2.1 x.2.2.2.2.1 x.2.2.2.2.2.1 x.2.2.2.2.2.2.1 x.2.2.2.2.2.2.2.1 x.2.2.2.2.2.2.2.2.1 x.2.2.2.2.2.2.2.2.2) M ((i : Int), (m5 : Int), s5, l, 0, 0, zF, 1 + x1, 1 + x2, f) = some (1 + x1, 1 + x2, f', (m5 : Int), s5) ∧ Drw (1 + x1) (1 + x2) f' := by
     intro k
     induction k with
     | zero =>
      intro i f M hi hM hd
      obtain ⟨M, rfl⟩ : ∃ K, M = K + 1 := ⟨M - 1, by omega⟩
      obtain rfl : i = 144 := hi
      unfold zI
      dsimp only
      unfold Zr xz
      try dsimp (config := {proj := false, iota := false, eta := false}) only
      rw [hend, cond_false]
      exact ⟨f, rfl, hd⟩
     | succ k ih =>
      intro i f M hi hM hd
      obtain ⟨M, rfl⟩ : ∃ K, M = K + 1 := ⟨M - 1, by omega⟩
      have hi144 : i < 144 := by omega
      unfold zI
      dsimp only
      unfold Zr xz
      try dsimp (config := {proj := false, iota := false, eta := false}) only
      rw [zRQ hi144, cond_true, zqJ hw hh hi144, zer hw hh hi144, zH (by omega)]
      cases hin : (decide ((i : Int) % 12 < 1 + x1) && decide ((i : Int) / 12 < 1 + x2)) with
      | false => exact ih (i + 1) f M (by omega) (by omega) hd
      | true =>
       simp only [Bool.and_eq_true, decide_eq_true_eq] at hin
       have ei : wrap .i64 ((wrap .i64 ((wrap .i64 ((i : Int) - (wrap .i64 (2 * (Int.tmod i 12))))) + (wrap .i64 (1 + x1)))) - 1) = (i : Int) - 2 * ((i : Int) % 12) + (1 + x1) - 1 := by
        rw [col, IntWalk.i64_in (2 * ((i : Int) % 12)) (by omega), IntWalk.i64_in ((i : Int) - _) (by omega), w64 hw, IntWalk.i64_in (_ + (1 + x1)) (by omega), IntWalk.i64_in _ (by omega)]
       obtain ⟨q, hq⟩ : ∃ q : Nat, (i : Int) - 2 * ((i : Int) % 12) + (1 + x1) - 1 = (q : Int) := ⟨((i : Int) - 2 * ((i : Int) % 12) + (1 + x1) - 1).toNat, by omega⟩
       have hq2 : q < 144 := by omega
       rw [ei, hq, zg hq2, zg hi144, zd, zd]
       exact ih (i + 1) (upd f i (f q)) M (by omega) (by omega) (zBS hd (hd.rng q hq2) fun _ => hin)
    obtain ⟨f', r1, r2⟩ := mir 144 0 f FU (by omega) (yC (ym (by omega))) hd
    have r1 : Y2 (0, (m5 : Int), s5, l, 0, 0, zF, 1 + x1, 1 + x2, f) = some (1 + x1, 1 + x2, f', (m5 : Int), s5) := r1
    rw [r1]
    exact ⟨_, _, f', m5, s5, rfl, ⟨⟨by omega, by omega⟩, by omega, by omega⟩, r2, by omega, by omega⟩
   ·rw [show (x5 == 0) = false from by simpa using h0, cond_false]
    by_cases h1 : x5 = 1
    ·rw [show (x5 == 1) = true from by rw [h1]; rfl, cond_true]
     obtain ⟨h', eh, hh1, hh2⟩ : ∃ h', zlD (1 + x2) (1 + x1) = h' ∧ (1 ≤ h' ∧ h' ≤ 6) ∧ h' ≤ 1 + x2 := by
      unfold zlD
      by_cases hc : 1 + x2 < 1 + x1
      ·rw [decide_eq_true hc]; exact ⟨_, rfl, by show _ ∧ _; constructor <;> (simp only [cond_true]; omega), by simp⟩
      ·rw [decide_eq_false hc]; exact ⟨_, rfl, by show _ ∧ _; constructor <;> (simp only [cond_false]; omega), by simp only [cond_false]; omega⟩
     rw [eh]
     have hsz' : Siz (1 + x1) h' := ⟨⟨by omega, by omega⟩, by omega, by omega⟩
     obtain ⟨_, hh'⟩ := hsz'.i8
     have cut : ∀ (k i : Nat) (f : Nat → Int) (M : Nat), i + k = 144 → k < M → (∀ j, j < 144 → 0 ≤ f j ∧ f j < 16) → (∀ j, j < i → f j ≠ 0 → (j : Int) % 12 < 1 + x1 ∧ (j : Int) / 12 < h') → ∃ f' : Nat → Int, zI (fun x => Zs x.1 x.2.1 x.2.2.1 x.2.2.2.1 x.2.2.2.2.1 x.2.2.2.2.2.1 x.2.2.2.2.2.2.1 x.2.2.2.2.2.2.2.1 x.2.2.2.2.2.2.2.2.1 x.2.2.2.2.2.2.2.2.2) M ((i : Int), (m5 : Int), s5, l, 0, 0, zF, 1 + x1, h', f) = some (1 + x1, h', f', (m5 : Int), s5) ∧ Drw (1 + x1) h' f' := by
      intro k
      induction k with
      | zero =>
       intro i f M hi hM hd1 hd2
       obtain ⟨M, rfl⟩ : ∃ K, M = K + 1 := ⟨M - 1, by omega⟩
       obtain rfl : i = 144 := hi
       unfold zI
       dsimp only
       unfold Zs xt
       try dsimp (config := {proj := false, iota := false, eta := false}) only
       rw [hend, cond_false]
       exact ⟨f, rfl, hd1, hd2⟩
      | succ k ih =>
       intro i f M hi hM hd1 hd2
       obtain ⟨M, rfl⟩ : ∃ K, M = K + 1 := ⟨M - 1, by omega⟩
       have hi144 : i < 144 := by omega
       unfold zI
       dsimp only
       unfold Zs xt
       try dsimp (config := {proj := false, iota := false, eta := false}) only
       rw [zRQ hi144, cond_true, zqJ hw hh' hi144, zer hw hh' hi144, zH (by omega), zg hi144, zd]
       cases hin : (decide ((i : Int) % 12 < 1 + x1) && decide ((i : Int) / 12 < h')) with
       | true =>
        simp only [Bool.and_eq_true, decide_eq_true_eq] at hin
        refine ih (i + 1) f M (by omega) (by omega) hd1 fun j hj h0 => ?_
        by_cases e : j = i
        ·subst e; exact hin
        ·exact hd2 j (by omega) h0
       | false =>
        refine ih (i + 1) (upd f i 0) M (by omega) (by omega) (fun j hj => ?_) fun j hj h0 => ?_
        ·rw [uJ]; split
         ·omega
         ·exact hd1 j hj
        ·rw [uJ] at h0
         split at h0
         ·exact absurd rfl h0
         ·exact hd2 j (by omega) h0
     obtain ⟨f', r1, r2⟩ := cut 144 0 f FU (by omega) (yC (ym (by omega))) hd.rng (fun j hj => by omega)
     have r1 : Xh (0, (m5 : Int), s5, l, 0, 0, zF, 1 + x1, h', f) = some (1 + x1, h', f', (m5 : Int), s5) := r1
     rw [r1]
     exact ⟨_, _, f', m5, s5, rfl, ⟨⟨by omega, by omega⟩, by omega, by omega⟩, r2, by omega, by omega⟩
    ·rw [show (x5 == 1) = false from by simpa using h1, cond_false]
     exact ⟨_, _, f, m5, s5, rfl, ⟨⟨by omega, by omega⟩, by omega, by omega⟩, hd, by omega, by omega⟩
  | succ k ih =>
   intro i M m sd f hi hM hm1 hm2 hd
   obtain ⟨M, rfl⟩ : ∃ K, M = K + 1 := ⟨M - 1, by omega⟩
   have hi144 : i < 144 := by omega
   unfold zI
   dsimp only
   unfold Z1 xJ
   try dsimp (config := {proj := false, iota := false, eta := false}) only
   rw [zRQ hi144, cond_true, zqJ hw hh hi144, zer hw hh hi144, zH (by omega)]
   cases hin : (decide ((i : Int) % 12 < 1 + x1) && decide ((i : Int) / 12 < 1 + x2)) with
   | false => exact ih (i + 1) M m sd f (by omega) (by omega) hm1 (by omega) hd
   | true =>
    simp only [Bool.and_eq_true, decide_eq_true_eq] at hin
    obtain ⟨x4, m4, s4, e4, z4, q4, l4, u4⟩ := y5 (n := m) (k := 1 + x3) (sd := sd) hl (by omega) (by omega)
    have r4 : 0 ≤ x4 ∧ x4 < 16 := by
     by_cases hk : 1 + x3 ≤ 1
     ·rw [z4 hk]; omega
     ·have := q4 (by omega); omega
    rw [e4, cond_true]
    dsimp only [Option.bind]
    rw [zg hi144, cond_true, zd, IntWalk.u8_in x4 (by omega)]
    exact ih (i + 1) M m4 s4 (upd f i x4) (by omega) (by omega) (by omega) (by omega) (zBS hd r4 fun _ => hin)
 exact loop 144 0 FU m3 s3 zF (by omega) (yC (ym (by omega))) (Nat.le_refl _) (by omega) (zPu _ _)
end Go.RR
namespace Go.RR
open Go
open Go.IntKind (wrap)
def cells (w h : Nat) : List Nat := listed fun k => decide (isC w h k)
theorem YM {w h k : Nat} : k ∈ cells w h ↔ k < 144 ∧ isC w h k := by
 unfold cells
 rw [XH, decide_eq_true_eq]
theorem zpi (w h : Nat) : (cells w h).length ≤ 144 := Ym (Yi _) fun x hx => (XH.1 hx).1
def zn0 (g : Nat → Int) (l : List Nat) (o : Nat → Int) : Nat → Int := fun k => if k ∈ l then g k else o k
theorem ziW (g : Nat → Int) : ∀ (l : List Nat) (o : Nat → Int), l.foldl (fun o k => upd o k (g k)) o = zn0 g l o
 | [], o => by funext k; simp [zn0]
 | a :: l, o => by
  rw [List.foldl_cons, ziW g l]
  funext k
  unfold zn0
  by_cases h1 : k ∈ l
  ·rw [if_pos h1, if_pos (List.mem_cons_of_mem _ h1)]
  ·rw [if_neg h1]
   by_cases h2 : k = a
   ·subst h2
    rw [if_pos (List.mem_cons_self ..), uJ, if_pos rfl]
   ·rw [if_neg (by rw [List.mem_cons]; exact fun q => q.elim h2 h1), uJ, if_neg h2]
theorem zxN (p : Nat → Bool) (g : Nat → Int) (o : Nat → Int) : (List.range' 0 144).foldl (fun o k => cond (p k) (upd o k (g k)) o) o = zn0 g (listed p) o := by
 unfold listed
 rw [← ziW, List.range_eq_range', List.foldl_filter]
 congr 1
 funext o k
 cases p k <;> rfl
theorem zMM {l : List Nat} {i : Nat} (h : i < l.length) : (cst l).getD i 0 = ((l.getD i 0 : Nat) : Int) := by
 unfold cst
 rw [List.getD_eq_getElem?_getD, List.getElem?_map, List.getD_eq_getElem?_getD, List.getElem?_eq_getElem h]
 rfl
structure zMA (w h : Nat) (m : Nat → Nat → Int) : Prop where
 w1 : 1 ≤ w
 w2 : w ≤ 12
 h1 : 1 ≤ h
 h2 : h ≤ 12
 tone : ∀ i, xI (m i)
 out : ∀ i, i < 144 → ¬ isC w h i → W6 3 (m i) zF = true
section
variable {w h : Nat} {m : Nat → Nat → Int} (hm : zMA w h m)
include hm
theorem zpI {i : Nat} (hi : i < 144) : wd (Int.tmod (i : Int) 12) (wrap .i64 (Int.tdiv (i : Int) 12)) (w : Int) (h : Int) = decide (isC w h i) := by
 have := zyO hm.w2 hm.h2 zF hi
 unfold vn at this
 exact this
theorem zo2 {i : Nat} (hi : i < 144) : VH (w : Int) (h : Int) m (i : Int) = decide (isC w h i) := by
 have := zp6 hm.w2 hm.h2 zF hi
 unfold YP at this
 unfold VH
 exact this
theorem zTi : zK (wrap .i64 (w : Int)) 1 12 = true ∧ zK (wrap .i64 (h : Int)) 1 12 = true ∧ vr (wrap .i64 (w : Int)) (wrap .i64 (h : Int)) = true := by
 have h1 := hm.w1; have h2 := hm.w2; have h3 := hm.h1; have h4 := hm.h2
 rw [IntWalk.i64_in (w : Int) (by omega), IntWalk.i64_in (h : Int) (by omega)]
 unfold vr
 rw [zgK, zgK, zdK, zdK, decide_eq_true (show (1 : Int) ≤ (w : Int) by omega), decide_eq_true (show (w : Int) ≤ 12 by omega), decide_eq_true (show (1 : Int) ≤ (h : Int) by omega), decide_eq_true (show (h : Int) ≤ 12 by omega)]
 exact ⟨rfl, rfl, rfl⟩
theorem ziT : zhw (w : Int) (h : Int) m = some true := by
 unfold zhw
 rw [(zTi hm).2.2]
 simp only [Bool.not_true, cond_false]
 unfold zcN
 refine yp (step := fun x => wE x.1 x.2.1 x.2.2.1 x.2.2.2.1 x.2.2.2.2) (τ := {u : Unit // True}) 144 (fun i _ => (m, (i : Int), (w : Int), (h : Int), m)) (fun s _ => s) true ⟨(), trivial⟩ (by omega) (fun i _ hi => ?_) ?_
 ·show wE m i w h m = _
  unfold wE
  rw [decide_eq_true (show (i : Int) < 144 by omega), zg hi, zpI hm hi, zd, zH (by omega)]
  by_cases hc : isC w h i
  ·rw [decide_eq_true hc]; rfl
  ·rw [decide_eq_false hc, hm.out i hi hc]; rfl
 ·show wE m ((144 : Nat) : Int) w h m = _
  unfold wE
  rfl
theorem zAy : zeF (w : Int) (h : Int) m = some true := by
 unfold zeF
 rw [(zTi hm).1, (zTi hm).2.1]
 simp only [Bool.not_true, cond_false]
 unfold zdq
 refine yp (step := fun x => wo x.1 x.2.1 x.2.2.1 x.2.2.2) (τ := {u : Unit // True}) 144 (fun i _ => ((i : Int), (w : Int), (h : Int), m)) (fun s _ => s) true ⟨(), trivial⟩ (by omega) (fun i _ hi => ?_) ?_
 ·show wo i w h m = _
  unfold wo
  rw [decide_eq_true (show (i : Int) < 144 by omega), zg hi, zo2 hm hi, zd, zH (by omega)]
  by_cases hc : isC w h i
  ·rw [decide_eq_true hc]; rfl
  ·rw [decide_eq_false hc, hm.out i hi hc]; rfl
 ·show wo ((144 : Nat) : Int) w h m = _
  unfold wo
  rfl
theorem zow : zhT (w : Int) (h : Int) m = some (cst (cells w h)) := by
 have hf : ∀ (l : List Nat) (st : List Int), l.foldl (fun st i => cond (decide (isC w h i)) (st ++ [(i : Int)]) st) st = st ++ cst (l.filter fun k => decide (isC w h k)) := by
  intro l
  induction l with
  | nil => intro st; simp [cst]
  | cons a l ih =>
   intro st
   rw [List.foldl_cons, ih, List.filter_cons]
   cases decide (isC w h a) <;> simp [cst]
 unfold zhT zc0
 refine (yK (step := fun x => wq x.1 x.2.1 x.2.2.1 x.2.2.2.1 x.2.2.2.2) 144 (fun i st => ((i : Int), (w : Int), (h : Int), m, st)) (fun st i => cond (decide (isC w h i)) (st ++ [(i : Int)]) st) (fun i st => st.length ≤ i) (cst (cells w h)) [] (by omega) (by simp) ?_ ?_).trans rfl
 ·intro i st hi hI
  refine ⟨?_, by cases decide (isC w h i) <;> simp <;> omega⟩
  show wq (i : Int) w h m st = _
  unfold wq
  rw [decide_eq_true (show (i : Int) < 144 by omega), zpI hm hi, zG (by simp; omega), zH (by omega)]
  simp only [cond_true]
  cases decide (isC w h i) <;> rfl
 ·intro _
  rw [hf]
  show wq ((144 : Nat) : Int) w h m _ = _
  unfold wq
  rw [show decide (((144 : Nat) : Int) < 144) = false from rfl, cond_false, List.nil_append]
  unfold cells listed
  rw [List.range_eq_range']
def zbY (m : Nat → Nat → Int) (p : List (Nat → Int)) (k : Nat) : Int := (((Wp p (m k)).1 + 1 : Nat) : Int)
def W5 (w h : Nat) (m : Nat → Nat → Int) (p : List (Nat → Int)) : Nat → Int := zn0 (zbY m p) (cells w h) zF
variable {p : List (Nat → Int)} (hp : zgJ p) (hpb : zbV p = true)
include hp hpb
theorem zry (k : Nat) : 1 ≤ zbY m p k ∧ zbY m p k ≤ ((p.length : Nat) : Int) := by
 have := (zdG ((Zt p).1 hpb).2.1 (m k)).1
 unfold zbY; omega
theorem zLO (k : Nat) : wrap .u8 (zbY m p k) = zbY m p k := by
 have h1 := zry hm hp hpb k
 have h2 := ((Zt p).1 hpb).2.2
 exact IntWalk.u8_in _ (by omega)
theorem zwQ : zpC (w : Int) (h : Int) m p = some ((w : Int), (h : Int), W5 w h m p, 0) := by
 have hl := ((Zt p).1 hpb).2
 unfold zpC zi3
 rw [ziT hm, zk5 hpb, zow hm]
 simp only [Option.bind, Bool.not_true, cond_false]
 unfold zd0
 have hcl := zpi w h
 rw [y6]
 refine yp (step := fun x => Wr x.1 x.2.1 x.2.2.1 x.2.2.2.1 x.2.2.2.2.1 x.2.2.2.2.2.1 x.2.2.2.2.2.2.1 x.2.2.2.2.2.2.2.1 x.2.2.2.2.2.2.2.2.1 x.2.2.2.2.2.2.2.2.2.1 x.2.2.2.2.2.2.2.2.2.2.1 x.2.2.2.2.2.2.2.2.2.2.2.1 x.2.2.2.2.2.2.2.2.2.2.2.2) (cells w h).length
  (fun i (o : Nat → Int) => ((((cells w h).length : Nat) : Int), (i : Int), p, (w : Int), (h : Int), m, (0 : Int), (0 : Int), zF, (w : Int), (h : Int), o, cst (cells w h))) (fun o i => upd o ((cells w h).getD i 0) (zbY m p ((cells w h).getD i 0))) ((w : Int), (h : Int), W5 w h m p, 0) zF (by omega) (fun i o hi => ?_) ?_
 ·show Wr ((cells w h).length : Nat) i p w h m 0 0 zF w h o (cst (cells w h)) = _
  unfold Wr uf
  have hk := (YM.1 (zR (d := 0) hi)).1
  have hcol : wrap .u8 (wrap .i64 ((((Wp p (m ((cells w h).getD i 0))).1 : Nat) : Int) + 1)) = zbY m p ((cells w h).getD i 0) := by
   have h1 := zry hm hp hpb ((cells w h).getD i 0)
   have e : (((Wp p (m ((cells w h).getD i 0))).1 : Nat) : Int) + 1 = zbY m p ((cells w h).getD i 0) := by unfold zbY; omega
   rw [e, IntWalk.i64_in _ (by omega), zLO hm hp hpb]
  rw [zD hi, zg (n := (cst (cells w h)).length) (by rw [y6]; exact hi), zd, zMM hi, zg hk, zd, zMn hl.1 (by omega) hp (hm.tone _), zH (by omega)]
  simp only [cond_true, Option.bind]
  rw [hcol]
 ·have e := YF (0 : Nat) (fun (o : Nat → Int) k => upd o k (zbY m p k)) (cells w h) zF
  rw [ziW] at e
  rw [e]
  show Wr ((cells w h).length : Nat) ((cells w h).length : Nat) p w h m 0 0 zF w h (W5 w h m p) (cst (cells w h)) = _
  unfold Wr uf
  rw [zS, cond_false]
theorem zzu : zj0 (w : Int) (h : Int) m p = some ((w : Int), (h : Int), W5 w h m p, 0) := by
 have hl := ((Zt p).1 hpb).2
 have ha : zfK (w : Int) (h : Int) m p = some 0 := by
  unfold zfK
  rw [zAy hm, zBv hpb]; rfl
 have hq : zfD (w : Int) (h : Int) m p = some ((w : Int), (h : Int), W5 w h m p) := by
  unfold zfD zcJ
  refine yp (step := fun x => Vn x.1 x.2.1 x.2.2.1 x.2.2.2.1 x.2.2.2.2.1 x.2.2.2.2.2.1 x.2.2.2.2.2.2.1 x.2.2.2.2.2.2.2.1 x.2.2.2.2.2.2.2.2.1 x.2.2.2.2.2.2.2.2.2.1 x.2.2.2.2.2.2.2.2.2.2) 144
   (fun i (o : Nat → Int) => ((i : Int), (w : Int), (h : Int), m, p, (0 : Int), (0 : Int), zF, (w : Int), (h : Int), o)) (fun o i => cond (decide (isC w h i)) (upd o i (zbY m p i)) o) ((w : Int), (h : Int), W5 w h m p) zF (by omega) (fun i o hi => ?_) ?_
  ·show Vn i w h m p 0 0 zF w h o = _
   unfold Vn
   rw [decide_eq_true (show (i : Int) < 144 by omega), zo2 hm hi, zg hi, zd, zNn hl.1 (by omega) hp (hm.tone _), zH (by omega)]
   simp only [cond_true, Option.bind]
   rw [show wrap .u8 (((Wp p (m i)).1 + 1 : Nat) : Int) = zbY m p i from zLO hm hp hpb i]
   cases decide (isC w h i) <;> rfl
  ·rw [zxN]
   rfl
 unfold zj0
 rw [ha, hq]; rfl
def WQ (m : Nat → Nat → Int) (p : List (Nat → Int)) (q : Nat → Int) (k : Nat) : Int := far (m k) (tn p ((q k).toNat - 1))
def zi7 (w h : Nat) (m : Nat → Nat → Int) (p : List (Nat → Int)) (q : Nat → Int) : Int := (cells w h).foldl (fun s k => s + WQ m p q k) 0
theorem zt1 {q : Nat → Int} (hq : ∀ k, isC w h k → 1 ≤ q k ∧ q k ≤ ((p.length : Nat) : Int)) (hz : ∀ k, k < 144 → ¬ isC w h k → q k = 0) : zj9 (w : Int) (h : Int) m (w : Int) (h : Int) q p = some (zi7 w h m p q, 0) := by
 have hl := ((Zt p).1 hpb).2
 have h1 := hm.w1; have h2 := hm.w2; have h3 := hm.h1; have h4 := hm.h2
 have hrng : ∀ j, j < 144 → 0 ≤ q j ∧ q j ≤ ((p.length : Nat) : Int) := fun j hj => by
  by_cases hc : isC w h j
  ·have := hq j hc; omega
  ·have := hz j hj hc; omega
 have hd : Drw (w : Int) (h : Int) q := ⟨fun j hj => by have := hrng j hj; omega, fun j hj h0 => by
  by_cases hc : isC w h j
  ·unfold isC at hc; omega
  ·exact absurd (hz j hj hc) h0⟩
 have hv : Vx (w : Int) (h : Int) q = true := by
  rw [zsS (by omega) (by omega)]
  exact ztS ⟨by omega, by omega⟩ hd
 have hc : zkM (w : Int) (h : Int) q p = some true := by
  have hi : ze2 ((List.range 144).map q) p = some (-1) := by
   unfold ze2 zdO
   have e : ((List.range 144).map q).length = 144 := by simp
   rw [e]
   refine yp (step := fun x => wS x.1 x.2.1 x.2.2.1 x.2.2.2) (τ := {u : Unit // True}) 144 (fun i _ => (((144 : Nat) : Int), (i : Int), (List.range 144).map q, p)) (fun s _ => s) (-1) ⟨(), trivial⟩ (by omega) (fun i _ hi => ?_) ?_
   ·show wS ((144 : Nat) : Int) i ((List.range 144).map q) p = _
    unfold wS zj1
    have hg : ((List.range 144).map q).getD i 0 = q i := by
     rw [List.getD_eq_getElem?_getD, List.getElem?_map, List.getElem?_range hi]; rfl
    have := hrng i hi
    rw [zD hi, zg (n := ((List.range 144).map q).length) (by rw [e]; exact hi), zd, hg, IntWalk.i64_in (q i) (by omega), decide_eq_false (by omega), zH (by omega)]
    rfl
   ·show wS ((144 : Nat) : Int) ((144 : Nat) : Int) ((List.range 144).map q) p = _
    unfold wS
    rw [zS, cond_false]
  unfold zkM zk0
  rw [hi]; rfl
 unfold zj9 zma
 rw [ziT hm, hv, zk5 hpb, hc, zow hm]
 have nn : ∀ x : Int, (x != x) = false := fun x => by simp
 simp only [Option.bind, Bool.not_true, cond_false, nn]
 unfold zcH
 have hcl := zpi w h
 rw [y6]
 refine yK (step := fun x => Ww x.1 x.2.1 x.2.2.1 x.2.2.2.1 x.2.2.2.2.1 x.2.2.2.2.2.1 x.2.2.2.2.2.2.1 x.2.2.2.2.2.2.2.1 x.2.2.2.2.2.2.2.2.1 x.2.2.2.2.2.2.2.2.2.1 x.2.2.2.2.2.2.2.2.2.2) (cells w h).length
  (fun i (s : Int) => (s, (((cells w h).length : Nat) : Int), (i : Int), p, (w : Int), (h : Int), m, (w : Int), (h : Int), q, cst (cells w h))) (fun s i => s + WQ m p q ((cells w h).getD i 0)) (fun i s => 0 ≤ s ∧ s ≤ 1000000 * (i : Int)) (zi7 w h m p q, 0) 0 (by omega) (by simp) (fun i s hi hI => ?_) (fun _ => ?_)
 ·have hk := YM.1 (zR (d := 0) hi)
  have hqk := hq _ hk.2
  have hfr : 0 ≤ WQ m p q ((cells w h).getD i 0) ∧ WQ m p q ((cells w h).getD i 0) ≤ 1000000 := zTa (hm.tone _) (hp _)
  refine ⟨?_, by omega⟩
  show Ww s ((cells w h).length : Nat) i p w h m w h q (cst (cells w h)) = _
  unfold Ww uA
  have e1 : wrap .u8 (q ((cells w h).getD i 0) - 1) = (((q ((cells w h).getD i 0)).toNat - 1 : Nat) : Int) := by
   rw [IntWalk.u8_in _ (by omega)]; omega
  rw [zD hi, zg (n := (cst (cells w h)).length) (by rw [y6]; exact hi), zd, zMM hi, zg hk.1, zd, decide_eq_true (show q ((cells w h).getD i 0) > 0 by omega), e1, zg (n := p.length) (by omega), zd, zqo (hm.tone _) (hp _), zH (by omega)]
  simp only [cond_true, Option.bind]
  rw [show far (m ((cells w h).getD i 0)) (tn p ((q ((cells w h).getD i 0)).toNat - 1)) = WQ m p q ((cells w h).getD i 0) from rfl, IntWalk.i64_in (s + _) (by omega)]
 ·have e := YF (0 : Nat) (fun (s : Int) k => s + WQ m p q k) (cells w h) 0
  rw [e]
  show Ww (zi7 w h m p q) ((cells w h).length : Nat) ((cells w h).length : Nat) p w h m w h q (cst (cells w h)) = _
  unfold Ww uA
  rw [zS, cond_false]
theorem zph {k : Nat} (hk : isC w h k) : W5 w h m p k = zbY m p k := by
 unfold W5 zn0
 rw [if_pos (YM.2 ⟨ZC hm.h2 hk, hk⟩)]
theorem zO3 {k : Nat} (hk : ¬ isC w h k) : W5 w h m p k = 0 := by
 unfold W5 zn0
 rw [if_neg (fun q => hk (YM.1 q).2)]; rfl
def UR (w h : Nat) : Nat → Int := zn0 (fun _ => 1) (cells w h) zF
omit hp hpb in
theorem zo0 {k : Nat} (hk : isC w h k) : UR w h k = 1 := by
 unfold UR zn0
 rw [if_pos (YM.2 ⟨ZC hm.h2 hk, hk⟩)]
omit hp hpb hm in
theorem zQU {k : Nat} (hk : ¬ isC w h k) : UR w h k = 0 := by
 unfold UR zn0
 rw [if_neg (fun q => hk (YM.1 q).2)]; rfl
omit hp hpb in
theorem zLD : zo5 (wrap .i64 (w : Int)) (wrap .i64 (h : Int)) 1 = some ((w : Int), (h : Int), UR w h, 0) := by
 have h1 := hm.w1; have h2 := hm.w2; have h3 := hm.h1; have h4 := hm.h2
 have hin := zTi hm
 unfold zo5 znF zpy
 rw [hin.1, hin.2.1, IntWalk.i64_in (w : Int) (by omega), IntWalk.i64_in (h : Int) (by omega), show zK 1 0 15 = true from rfl, IntWalk.i8_in (w : Int) (by omega), IntWalk.i8_in (h : Int) (by omega)]
 simp only [Bool.not_true, cond_false]
 unfold zdg
 refine yp (step := fun x => U2 x.1 x.2.1 x.2.2.1 x.2.2.2.1 x.2.2.2.2.1 x.2.2.2.2.2.1 x.2.2.2.2.2.2.1 x.2.2.2.2.2.2.2) 144 (fun i (o : Nat → Int) => ((1 : Int), (i : Int), (0 : Int), (0 : Int), zF, (w : Int), (h : Int), o)) (fun o i => cond (decide (isC w h i)) (upd o i 1) o) ((w : Int), (h : Int), UR w h, 0) zF (by omega) (fun i o hi => ?_) ?_
 ·show U2 1 i 0 0 zF w h o = _
  unfold U2 zbk
  rw [decide_eq_true (show (i : Int) < 144 by omega), zp6 h2 h4 o hi, zg hi, zd, zH (by omega), show wrap .u8 1 = 1 from rfl]
  simp only [cond_true]
  cases decide (isC w h i) <;> rfl
 ·rw [zxN (fun i => decide (isC w h i)) (fun _ => 1)]
  rfl
theorem zSX : zi7 w h m p (W5 w h m p) ≤ zi7 w h m p (UR w h) := by
 have key : ∀ (l : List Nat) (s t : Int), s ≤ t → (∀ k ∈ l, WQ m p (W5 w h m p) k ≤ WQ m p (UR w h) k) → l.foldl (fun s k => s + WQ m p (W5 w h m p) k) s ≤ l.foldl (fun s k => s + WQ m p (UR w h) k) t := by
  intro l
  induction l with
  | nil => intro s t h _; exact h
  | cons a l ih =>
   intro s t h hl
   rw [List.foldl_cons, List.foldl_cons]
   have := hl a (List.mem_cons_self ..)
   exact ih _ _ (by omega) fun k hk => hl k (List.mem_cons_of_mem _ hk)
 refine key _ 0 0 (Int.le_refl _) fun k hk => ?_
 have hc := (YM.1 hk).2
 have hl := ((Zt p).1 hpb).2
 obtain ⟨f1, f2, f3⟩ := zdG hl.1 (m k)
 unfold WQ
 rw [zph hm hp hpb hc, zo0 hm hc]
 have e : (zbY m p k).toNat - 1 = (Wp p (m k)).1 := by unfold zbY; omega
 rw [e, zCJ, ← f2, show (1 : Int).toNat - 1 = 0 from rfl, zCJ]
 exact f3 0 (by omega)
end
end Go.RR
