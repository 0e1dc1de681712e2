/- Plain facts of the search for a plan: what is taken, what is left, the day. -/
import Derived.Test.YtkohnhkehedflaaWu
set_option linter.unusedVariables false
set_option linter.unusedSimpArgs false
namespace Go.RR
open Go
abbrev tb (tk : Int) (i : Nat) : Bool := tk.toNat.testBit i
structure TkOK (n : Nat) (tk : Int) : Prop where
 rng : 0 ≤ tk ∧ tk ≤ 65535
 lt : tk.toNat < 2 ^ n
theorem andn_bits {a b : Int} (ha : 0 ≤ a ∧ a ≤ 65535) (hb : 0 ≤ b ∧ b ≤ 65535) : (0 ≤ bAndNot .u16 a b ∧ bAndNot .u16 a b ≤ 65535) ∧ ∀ k, (bAndNot .u16 a b).toNat.testBit k = (a.toNat.testBit k && !b.toNat.testBit k) := by
 have hl : (BitVec.ofInt 16 a &&& ~~~BitVec.ofInt 16 b).toNat < 65536 := (BitVec.ofInt 16 a &&& ~~~BitVec.ofInt 16 b).isLt
 have e : bAndNot .u16 a b = ((BitVec.ofInt 16 a &&& ~~~BitVec.ofInt 16 b).toNat : Int) := by
  unfold bAndNot
  exact IntWalk.u16_in _ (by show (0 : Int) ≤ ((BitVec.ofInt 16 a &&& ~~~BitVec.ofInt 16 b).toNat : Int) ∧ ((BitVec.ofInt 16 a &&& ~~~BitVec.ofInt 16 b).toNat : Int) ≤ 65535; omega)
 rw [e]
 refine ⟨by omega, fun k => ?_⟩
 have ga : ∀ x : Int, 0 ≤ x ∧ x ≤ 65535 → (BitVec.ofInt 16 x).getLsbD k = x.toNat.testBit k := by
  intro x hx
  show (BitVec.ofInt 16 x).toNat.testBit k = _
  rw [BitVec.toNat_ofInt]
  have : (x % ((2 ^ 16 : Nat) : Int)).toNat = x.toNat := by
   have : ((2 ^ 16 : Nat) : Int) = 65536 := rfl
   rw [this]; omega
  rw [this]
 show (BitVec.ofInt 16 a &&& ~~~BitVec.ofInt 16 b).toNat.testBit k = _
 have h1 : (BitVec.ofInt 16 a &&& ~~~BitVec.ofInt 16 b).getLsbD k = ((BitVec.ofInt 16 a).getLsbD k && (decide (k < 16) && !(BitVec.ofInt 16 b).getLsbD k)) := by
  rw [BitVec.getLsbD_and, BitVec.getLsbD_not]
 have h2 : (BitVec.ofInt 16 a &&& ~~~BitVec.ofInt 16 b).toNat.testBit k = (BitVec.ofInt 16 a &&& ~~~BitVec.ofInt 16 b).getLsbD k := rfl
 rw [h2, h1, ga a ha, ga b hb]
 by_cases hk : k < 16
 ·rw [decide_eq_true hk, Bool.true_and]
 ·have hlt : a.toNat < 2 ^ k := Nat.lt_of_lt_of_le (show a.toNat < 2 ^ 16 by show a.toNat < 65536; omega) (Nat.pow_le_pow_right (by decide) (by omega))
  rw [Nat.testBit_lt_two_pow hlt]; rfl
theorem int_bits {a b : Int} (ha : 0 ≤ a) (hb : 0 ≤ b) (h : ∀ k, a.toNat.testBit k = b.toNat.testBit k) : a = b := by
 have : a.toNat = b.toNat := Nat.eq_of_testBit_eq h
 omega
noncomputable def tkI (tk : Int) (i : Nat) : Int := bOr .u16 tk (bShl .u16 1 (i : Int))
theorem two_rng {i : Nat} (hi : i < 12) : (0 ≤ bShl .u16 1 (i : Int) ∧ bShl .u16 1 (i : Int) ≤ 65535) ∧ ∀ k, (bShl .u16 1 (i : Int)).toNat.testBit k = decide (i = k) := by
 obtain ⟨h1, h2, h3⟩ := shl1 hi
 rw [h1]
 exact ⟨by omega, fun k => by rw [toNat_nat, Nat.testBit_two_pow]⟩
theorem tkI_ok {n : Nat} {tk : Int} (h : TkOK n tk) {i : Nat} (hi : i < n) (hn : n ≤ 12) : TkOK n (tkI tk i) ∧ ∀ k, tb (tkI tk i) k = (tb tk k || decide (i = k)) := by
 obtain ⟨r1, r2⟩ := two_rng (show i < 12 by omega)
 obtain ⟨o1, o2, o3⟩ := or_nat h.rng r1
 unfold tkI
 refine ⟨⟨⟨o2, o3⟩, ?_⟩, fun k => ?_⟩
 ·rw [o1]
  refine Nat.or_lt_two_pow h.lt ?_
  rw [(shl1 (show i < 12 by omega)).1, toNat_nat]
  exact Nat.pow_lt_pow_right (by decide) hi
 ·show (bOr .u16 tk (bShl .u16 1 (i : Int))).toNat.testBit k = _
  rw [o1, Nat.testBit_or, r2]
theorem tk_back {n : Nat} {tk : Int} (h : TkOK n tk) {i : Nat} (hi : i < n) (hn : n ≤ 12) (hb : tb tk i = false) : bAndNot .u16 (tkI tk i) (bShl .u16 1 (i : Int)) = tk := by
 obtain ⟨r1, r2⟩ := two_rng (show i < 12 by omega)
 obtain ⟨t1, t2⟩ := tkI_ok h hi hn
 obtain ⟨a1, a2⟩ := andn_bits t1.rng r1
 refine int_bits a1.1 h.rng.1 fun k => ?_
 rw [a2, r2]
 have : (tkI tk i).toNat.testBit k = (tb tk k || decide (i = k)) := t2 k
 rw [this]
 by_cases hk : i = k
 ·subst hk
  rw [decide_eq_true rfl, hb, show tk.toNat.testBit i = false from hb]; rfl
 ·rw [decide_eq_false hk]; simp
theorem ready_bit {l : List Job} {tk : Int} (h0 : 0 ≤ tk) {i : Nat} (hi : i < 16) (hr : ready l tk i = true) : tb tk i = false := by
 unfold ready at hr
 rw [shr_bit h0 hi] at hr
 cases hb : tk.toNat.testBit i
 ·exact hb
 ·rw [hb] at hr; cases hr
def cntR (tk : Int) : Nat → Nat → Nat
 | _, 0 => 0
 | a, n + 1 => (cond (tb tk a) 0 1) + cntR tk (a + 1) n
theorem cnt_same {tk tk' : Int} : ∀ (n a : Nat), (∀ k, a ≤ k → k < a + n → tb tk' k = tb tk k) → cntR tk' a n = cntR tk a n
 | 0, _, _ => rfl
 | n + 1, a, h => by
  simp only [cntR]
  rw [h a (Nat.le_refl _) (by omega), cnt_same n (a + 1) fun k h1 h2 => h k (by omega) (by omega)]
theorem cnt_step {tk tk' : Int} {i : Nat} (hb : ∀ k, tb tk' k = (tb tk k || decide (i = k))) (h0 : tb tk i = false) : ∀ (n a : Nat), a ≤ i → i < a + n → cntR tk' a n + 1 = cntR tk a n
 | 0, a, h1, h2 => by omega
 | n + 1, a, h1, h2 => by
  simp only [cntR]
  by_cases ha : i = a
  ·subst ha
   have hs := cnt_same (tk := tk) (tk' := tk') n (i + 1) fun k h3 h4 => by rw [hb, decide_eq_false (show ¬ i = k by omega), Bool.or_false]
   rw [hb, h0, decide_eq_true rfl, hs]
   simp only [Bool.false_or, cond_true, cond_false]
   omega
  ·have := cnt_step hb h0 n (a + 1) (by omega) (by omega)
   rw [hb a, decide_eq_false ha, Bool.or_false]
   omega
theorem cnt_zero {tk : Int} : ∀ (n a : Nat), cntR tk a n = 0 ↔ ∀ k, a ≤ k → k < a + n → tb tk k = true
 | 0, a => ⟨fun _ k h1 h2 => by omega, fun _ => rfl⟩
 | n + 1, a => by
  simp only [cntR]
  constructor
  ·intro h k h1 h2
   cases hb : tb tk a
   ·rw [hb] at h; simp only [cond_false] at h; omega
   ·rw [hb] at h
    simp only [cond_true] at h
    by_cases hk : k = a
    ·subst hk; exact hb
    ·exact (cnt_zero n (a + 1)).1 (by omega) k (by omega) (by omega)
  ·intro h
   rw [h a (Nat.le_refl _) (by omega), (cnt_zero n (a + 1)).2 fun k h1 h2 => h k (by omega) (by omega)]
   rfl
theorem cnt_le (tk : Int) : ∀ (n a : Nat), cntR tk a n ≤ n
 | 0, _ => Nat.le_refl _
 | n + 1, a => by
  simp only [cntR]
  have := cnt_le tk n (a + 1)
  cases tb tk a
  ·simp only [cond_false]; omega
  ·simp only [cond_true]; omega
noncomputable def fullB (n : Nat) : Int := IntKind.wrap .u16 (bShl .u16 1 (n : Int) - 1)
theorem full_eq {n : Nat} (hn : n ≤ 12) : fullB n = ((2 ^ n - 1 : Nat) : Int) := by
 have h1 : 2 ^ n ≤ 2 ^ 12 := Nat.pow_le_pow_right (by decide) hn
 have h2 : 0 < 2 ^ n := Nat.pow_pos (by decide)
 have h1 : 2 ^ n ≤ 4096 := h1
 have e : bShl .u16 1 (n : Int) = ((2 ^ n : Nat) : Int) := by
  unfold bShl
  have hm : min (Int.toNat (n : Int)) IntKind.u16.bits = n := by
   rw [toNat_nat]
   exact Nat.min_eq_left (by show n ≤ 16; omega)
  rw [hm, Int.one_mul, show ((2 : Int) ^ n) = ((2 ^ n : Nat) : Int) by rw [Int.natCast_pow]; rfl]
  exact IntWalk.u16_in _ (by omega)
 unfold fullB
 rw [e, IntWalk.u16_in _ (by omega)]
 omega
theorem full_iff {n : Nat} (hn : n ≤ 12) {tk : Int} (h : TkOK n tk) : (tk == fullB n) = decide (cntR tk 0 n = 0) := by
 apply Bool.eq_iff_iff.2
 rw [beq_iff_eq, decide_eq_true_eq, full_eq hn]
 constructor
 ·intro e
  rw [cnt_zero]
  intro k _ hk
  show tk.toNat.testBit k = true
  rw [e, toNat_nat, Nat.testBit_two_pow_sub_one, decide_eq_true (show k < n by omega)]
 ·intro e
  rw [cnt_zero] at e
  refine int_bits h.rng.1 (by omega) fun k => ?_
  rw [toNat_nat, Nat.testBit_two_pow_sub_one]
  by_cases hk : k < n
  ·rw [decide_eq_true hk]; exact e k (Nat.zero_le _) (by omega)
  ·rw [decide_eq_false hk]
   exact Nat.testBit_lt_two_pow (Nat.lt_of_lt_of_le h.lt (Nat.pow_le_pow_right (by decide) (by omega)))
def dayF (p : Nat → Bool) (f : Nat → Int) (ks : List Nat) (m : Int) : Int := ks.foldl (fun (m : Int) k => cond (p k) (max m (f k)) m) m
theorem dayF_max (p : Nat → Bool) (f : Nat → Int) (e : Int) : ∀ (ks : List Nat) (m : Int), dayF p f ks (max m e) = max (dayF p f ks m) e
 | [], m => rfl
 | k :: ks, m => by
  show dayF p f ks (cond (p k) (max (max m e) (f k)) (max m e)) = max (dayF p f ks (cond (p k) (max m (f k)) m)) e
  cases p k
  ·exact dayF_max p f e ks m
  ·rw [cond_true, cond_true, show max (max m e) (f k) = max (max m (f k)) e by omega]
   exact dayF_max p f e ks (max m (f k))
theorem dayF_ge (p : Nat → Bool) (f : Nat → Int) : ∀ (ks : List Nat) (m : Int), m ≤ dayF p f ks m ∧ ∀ k ∈ ks, p k = true → f k ≤ dayF p f ks m
 | [], m => ⟨Int.le_refl _, fun k hk => nomatch hk⟩
 | k :: ks, m => by
  show m ≤ dayF p f ks (cond (p k) (max m (f k)) m) ∧ ∀ k' ∈ k :: ks, p k' = true → f k' ≤ dayF p f ks (cond (p k) (max m (f k)) m)
  obtain ⟨h1, h2⟩ := dayF_ge p f ks (cond (p k) (max m (f k)) m)
  have h3 : m ≤ cond (p k) (max m (f k)) m := by
   cases p k
   ·exact Int.le_refl _
   ·rw [cond_true]; omega
  refine ⟨Int.le_trans h3 h1, fun k' hk' hp => ?_⟩
  rcases List.mem_cons.1 hk' with rfl | hk'
  ·rw [hp, cond_true] at h1 ⊢; omega
  ·exact h2 k' hk' hp
theorem dayF_add {p p' : Nat → Bool} {f f' : Nat → Int} {i : Nat} (hp : ∀ k, p' k = (p k || decide (i = k))) (h0 : p i = false) (hf : ∀ k, k ≠ i → f' k = f k) {ks : List Nat} (hi : i ∈ ks) (m : Int) : dayF p' f' ks m = max (dayF p f ks m) (f' i) := by
 have key : ∀ (ks : List Nat) (m : Int), max (dayF p' f' ks m) (f' i) = max (dayF p f ks m) (f' i) := by
  intro ks
  induction ks with
  | nil => intro m; rfl
  | cons k ks ih =>
   intro m
   show max (dayF p' f' ks (cond (p' k) (max m (f' k)) m)) (f' i) = max (dayF p f ks (cond (p k) (max m (f k)) m)) (f' i)
   by_cases hk : i = k
   ·subst hk
    rw [hp, h0, decide_eq_true rfl]
    simp only [Bool.false_or, cond_true, cond_false]
    rw [dayF_max, show max (max (dayF p' f' ks m) (f' i)) (f' i) = max (dayF p' f' ks m) (f' i) by omega]
    exact ih m
   ·rw [hp, decide_eq_false hk, Bool.or_false, hf k (fun e => hk e.symm)]
    exact ih _
 have h1 := (dayF_ge p' f' ks m).2 i hi (by rw [hp, decide_eq_true rfl, Bool.or_true])
 rw [← key ks m]
 omega
theorem dayF_full {p : Nat → Bool} {f : Nat → Int} : ∀ (ks : List Nat) (m : Int), (∀ k ∈ ks, p k = true) → dayF p f ks m = ks.foldl (fun (m : Int) k => max m (f k)) m
 | [], m, _ => rfl
 | k :: ks, m, h => by
  show dayF p f ks (cond (p k) (max m (f k)) m) = ks.foldl _ (max m (f k))
  rw [h k (by simp), cond_true]
  exact dayF_full ks _ fun k' hk' => h k' (by simp [hk'])
end Go.RR
namespace Go.RR
open Go
def sm (f : Nat → Int) : Nat → Int
 | 0 => 0
 | n + 1 => sm f n + f n
theorem sm_congr {f g : Nat → Int} : ∀ n, (∀ i, i < n → f i = g i) → sm f n = sm g n
 | 0, _ => rfl
 | n + 1, h => by
  show sm f n + f n = sm g n + g n
  rw [sm_congr n fun i hi => h i (by omega), h n (by omega)]
theorem sm_le {f g : Nat → Int} : ∀ n, (∀ i, i < n → f i ≤ g i) → sm f n ≤ sm g n
 | 0, _ => Int.le_refl _
 | n + 1, h => by
  have := sm_le n fun i hi => h i (by omega)
  have := h n (by omega)
  show sm f n + f n ≤ sm g n + g n
  omega
theorem sm_add (f g : Nat → Int) : ∀ n, sm (fun i => f i + g i) n = sm f n + sm g n
 | 0 => rfl
 | n + 1 => by
  show sm (fun i => f i + g i) n + (f n + g n) = sm f n + f n + (sm g n + g n)
  rw [sm_add f g n]; omega
theorem sm_zero : ∀ n, sm (fun _ => 0) n = 0
 | 0 => rfl
 | n + 1 => by
  show sm (fun _ => 0) n + 0 = 0
  rw [sm_zero n]; rfl
theorem sm_const (c : Int) : ∀ n : Nat, sm (fun _ => c) n = (n : Int) * c
 | 0 => by simp [sm]
 | n + 1 => by
  show sm (fun _ => c) n + c = ((n + 1 : Nat) : Int) * c
  rw [sm_const c n, show ((n + 1 : Nat) : Int) = (n : Int) + 1 by omega, Int.add_mul, Int.one_mul]
theorem sm_swap (f : Nat → Nat → Int) (m : Nat) : ∀ n, sm (fun i => sm (fun k => f i k) m) n = sm (fun k => sm (fun i => f i k) n) m
 | 0 => (sm_zero m).symm
 | n + 1 => by
  show sm (fun i => sm (fun k => f i k) m) n + sm (fun k => f n k) m = sm (fun k => sm (fun i => f i k) n + f n k) m
  rw [sm_swap f m n, sm_add]
theorem sm_upd {f g : Nat → Int} {j : Nat} (h : ∀ i, i ≠ j → g i = f i) : ∀ n, j < n → sm g n = sm f n + (g j - f j)
 | 0, hj => by omega
 | n + 1, hj => by
  show sm g n + g n = sm f n + f n + (g j - f j)
  by_cases hn : j = n
  ·subst hn
   rw [sm_congr j fun i hi => h i (by omega)]; omega
  ·rw [sm_upd h n (by omega), h n (fun e => hn e.symm)]; omega
theorem sm_one (c : Int) {j n : Nat} (hj : j < n) : sm (fun i => cond (j == i) c 0) n = c := by
 have := sm_upd (f := fun _ => 0) (g := fun i => cond (j == i) c 0) (j := j) (fun i hi => by
  show cond (j == i) c 0 = 0
  rw [show (j == i) = false from by simpa using fun e => hi e.symm]; rfl) n hj
 rw [this, sm_zero]
 simp
abbrev dn (l : List Job) (i : Nat) : Int := (l.getD i (0, 0)).1
abbrev stt (p : List Slot) (i : Nat) : Int := (p.getD i (0, 0)).2
abbrev hnd (p : List Slot) (i : Nat) : Int := (p.getD i (0, 0)).1
abbrev en (l : List Job) (p : List Slot) (i : Nat) : Int := stt p i + dn l i
structure VJ (l : List Job) : Prop where
 ok : JobsOK l
 len : l.length ≤ 12
 days : ∀ i, i < l.length → 1 ≤ dn l i ∧ dn l i ≤ 30
 wait : ∀ i k, i < l.length → k < 16 → waitsB l i k = true → k < l.length
noncomputable def sumT (l : List Job) (tk : Int) : Int := sm (fun i => cond (tb tk i) (dn l i) 0) l.length
noncomputable def loadT (l : List Job) (tk : Int) (p : List Slot) (h : Nat) : Int := sm (fun i => cond (tb tk i && (hnd p i == (h : Int))) (dn l i) 0) l.length
theorem sumT_le {l : List Job} (hv : VJ l) (tk : Int) : 0 ≤ sumT l tk ∧ sumT l tk ≤ 360 := by
 have h1 := sm_le (f := fun i => cond (tb tk i) (dn l i) 0) (g := fun _ => 30) l.length fun i hi => by
  have := hv.days i hi
  show cond (tb tk i) (dn l i) 0 ≤ 30
  cases tb tk i
  ·simp
  ·simp only [cond_true]; omega
 have h2 := sm_le (f := fun _ => 0) (g := fun i => cond (tb tk i) (dn l i) 0) l.length fun i hi => by
  have := hv.days i hi
  show 0 ≤ cond (tb tk i) (dn l i) 0
  cases tb tk i
  ·simp
  ·simp only [cond_true]; omega
 rw [sm_const] at h1
 rw [sm_zero] at h2
 have h3 := hv.len
 refine ⟨h2, Int.le_trans h1 ?_⟩
 omega
structure Shop (l : List Job) (H : Nat) (tk : Int) (p : List Slot) (fr : List Int) : Prop where
 tok : TkOK l.length tk
 plen : p.length = l.length
 flen : fr.length = H
 hand : ∀ i, i < l.length → tb tk i = true → ∃ h : Nat, hnd p i = (h : Int) ∧ h < H
 pos : ∀ i, i < l.length → tb tk i = true → 0 ≤ stt p i ∧ en l p i ≤ sumT l tk
 wait : ∀ i k, i < l.length → tb tk i = true → k < l.length → waitsB l i k = true → tb tk k = true ∧ en l p k ≤ stt p i
 top : ∀ i, i < l.length → tb tk i = true → en l p i ≤ fr.getD (hnd p i).toNat 0
 apart : ∀ i k, i < l.length → k < l.length → tb tk i = true → tb tk k = true → i ≠ k → hnd p i = hnd p k → en l p i ≤ stt p k ∨ en l p k ≤ stt p i
 load : ∀ h, h < H → loadT l tk p h ≤ fr.getD h 0
 made : ∀ h, h < H → fr.getD h 0 = 0 ∨ ∃ i, i < l.length ∧ tb tk i = true ∧ fr.getD h 0 = en l p i
theorem done_eq {l : List Job} (hv : VJ l) {p : List Slot} {i : Nat} (hi : i < l.length) (h : 0 ≤ stt p i ∧ stt p i ≤ 1000) : doneB l p i = en l p i := by
 have := hv.days i hi
 unfold doneB
 rw [IntWalk.i64_in (p.getD i (0, 0)).2 (by show -9223372036854775808 ≤ stt p i ∧ stt p i ≤ 9223372036854775807; omega), IntWalk.i64_in (l.getD i (0, 0)).1 (by show -9223372036854775808 ≤ dn l i ∧ dn l i ≤ 9223372036854775807; omega), IntWalk.i64_in _ (by show -9223372036854775808 ≤ stt p i + dn l i ∧ stt p i + dn l i ≤ 9223372036854775807; omega)]
theorem Shop.fr_le {l : List Job} {H : Nat} {tk : Int} {p : List Slot} {fr : List Int} (h : Shop l H tk p fr) (hv : VJ l) {x : Nat} (hx : x < H) : 0 ≤ fr.getD x 0 ∧ fr.getD x 0 ≤ sumT l tk := by
 have hs := sumT_le hv tk
 rcases h.made x hx with e | ⟨i, hi, hb, e⟩
 ·rw [e]; omega
 ·have := h.pos i hi hb
  have := hv.days i hi
  rw [e]; show 0 ≤ stt p i + dn l i ∧ _; omega
theorem Shop.st_le {l : List Job} {H : Nat} {tk : Int} {p : List Slot} {fr : List Int} (h : Shop l H tk p fr) (hv : VJ l) {i : Nat} (hi : i < l.length) (hb : tb tk i = true) : 0 ≤ stt p i ∧ stt p i ≤ 1000 := by
 have hs := sumT_le hv tk
 have := h.pos i hi hb
 have h3 : en l p i = stt p i + dn l i := rfl
 have := hv.days i hi
 omega
theorem rdy_spec {l : List Job} {H : Nat} {tk : Int} {p : List Slot} {fr : List Int} (h : Shop l H tk p fr) (hv : VJ l) {i : Nat} (hi : i < l.length) (hw : ∀ k, k < l.length → waitsB l i k = true → tb tk k = true) :
  (∀ k, k < l.length → waitsB l i k = true → en l p k ≤ rdyB l p i) ∧ 0 ≤ rdyB l p i ∧ rdyB l p i ≤ sumT l tk := by
 have hs := sumT_le hv tk
 have key : ∀ (ks : List Nat) (m : Int), (∀ k ∈ ks, k < l.length) → 0 ≤ m → m ≤ sumT l tk →
   m ≤ dayF (waitsB l i) (doneB l p) ks m ∧ dayF (waitsB l i) (doneB l p) ks m ≤ sumT l tk ∧ ∀ k ∈ ks, waitsB l i k = true → en l p k ≤ dayF (waitsB l i) (doneB l p) ks m := by
  intro ks
  induction ks with
  | nil => intro m _ h0 h1; exact ⟨Int.le_refl _, h1, fun k hk => nomatch hk⟩
  | cons k ks ih =>
   intro m hm h0 h1
   show m ≤ dayF (waitsB l i) (doneB l p) ks (cond (waitsB l i k) (max m (doneB l p k)) m) ∧ dayF (waitsB l i) (doneB l p) ks (cond (waitsB l i k) (max m (doneB l p k)) m) ≤ _ ∧ ∀ k' ∈ k :: ks, waitsB l i k' = true → en l p k' ≤ dayF (waitsB l i) (doneB l p) ks (cond (waitsB l i k) (max m (doneB l p k)) m)
   have hk := hm k (by simp)
   cases hq : waitsB l i k with
   | false =>
    simp only [cond_false]
    obtain ⟨a, b, c⟩ := ih m (fun k' h' => hm k' (by simp [h'])) h0 h1
    refine ⟨a, b, fun k' h' hw' => ?_⟩
    rcases List.mem_cons.1 h' with rfl | h'
    ·rw [hq] at hw'; cases hw'
    ·exact c k' h' hw'
   | true =>
    simp only [cond_true]
    have hb := hw k hk hq
    have h2 := h.pos k hk hb
    have h3 := done_eq hv hk (h.st_le hv hk hb)
    rw [h3]
    obtain ⟨a, b, c⟩ := ih (max m (en l p k)) (fun k' h' => hm k' (by simp [h'])) (by omega) (by omega)
    refine ⟨by omega, b, fun k' h' hw' => ?_⟩
    rcases List.mem_cons.1 h' with rfl | h'
    ·omega
    ·exact c k' h' hw'
 obtain ⟨a, b, c⟩ := key (List.range' 0 l.length) 0 (fun k hk => by rw [List.mem_range'_1] at hk; omega) (Int.le_refl _) hs.1
 have e : rdyB l p i = dayF (waitsB l i) (doneB l p) (List.range' 0 l.length) 0 := rfl
 rw [e]
 exact ⟨fun k hk hq => c k (by rw [List.mem_range'_1]; omega) hq, a, b⟩
theorem getD_set_ne {α : Type} {p : List α} {i k : Nat} {x d : α} (h : i ≠ k) : (p.set i x).getD k d = p.getD k d := by
 rw [List.getD_eq_getElem?_getD, List.getElem?_set_ne h, List.getD_eq_getElem?_getD]
theorem getD_set_eq {α : Type} {p : List α} {i : Nat} {x d : α} (h : i < p.length) : (p.set i x).getD i d = x := by
 rw [List.getD_eq_getElem?_getD, List.getElem?_set_self h]; rfl
end Go.RR
namespace Go.RR
open Go
structure PS where
 tr : Int
 len : Int
 best : Option (List Slot)
noncomputable def endB (l : List Job) (sl : Slot) (i : Nat) : Int := IntKind.wrap .i64 (IntKind.wrap .i64 sl.2 + IntKind.wrap .i64 (l.getD i (0, 0)).1)
section
variable (l : List Job) (Bd Bg : Int)
noncomputable def goStep (rec : Int → List Slot → List Int → Int → PS → PS × Nat) (tk : Int) (plan : List Slot) (free : List Int) (day : Int) (st : PS) (i : Nat) : PS ⊕ (PS × Nat) :=
 cond (ready l tk i) (cond (st.best.isSome && decide (endB l (slotB l plan free i) i ≥ st.len)) (.inl st)
  (cond (decide (st.tr + 1 > Bg)) (.inr (⟨st.tr + 1, st.len, st.best⟩, 2))
   (match rec (tkI tk i) (plan.set i (slotB l plan free i)) (free.set (slotB l plan free i).1.toNat (endB l (slotB l plan free i) i)) (max day (endB l (slotB l plan free i) i)) ⟨st.tr + 1, st.len, st.best⟩ with
    | (st', 0) => .inl st'
    | (st', c + 1) => .inr (st', c + 1)))) (.inl st)
noncomputable def go : Nat → Int → List Slot → List Int → Int → PS → PS × Nat
 | 0, _, _, _, _, st => (st, 0)
 | k + 1, tk, plan, free, day, st => cond (tk == fullB l.length) (⟨st.tr, day, some plan⟩, cond (day == Bd) 1 0)
   (match exitL (goStep l Bg (go k) tk plan free day) st (List.range' 0 l.length) with
    | .inl st' => (st', 0)
    | .inr r => r)
end
structure OKst (n : Nat) (Bg : Int) (st : PS) : Prop where
 tr : 0 ≤ st.tr ∧ st.tr ≤ Bg
 best : ∀ b, st.best = some b → b.length = n
structure OKin (l : List Job) (tk : Int) (plan : List Slot) (free : List Int) : Prop where
 tk : TkOK l.length tk
 plan : plan.length = l.length
 free : 1 ≤ free.length ∧ free.length ≤ 4
theorem OKin.step {l : List Job} {tk : Int} {plan : List Slot} {free : List Int} (h : OKin l tk plan free) (hn : l.length ≤ 12) {i : Nat} (hi : i < l.length) (sl : Slot) (x : Nat) (e : Int) : OKin l (tkI tk i) (plan.set i sl) (free.set x e) :=
 ⟨(tkI_ok h.tk hi hn).1, by rw [List.length_set]; exact h.plan, by rw [List.length_set]; exact h.free⟩
structure Ans where
 ret : Bool
 tk : Int
 len : Int
 bd : Int
 tr : Int
 bg : Int
 ov : Bool
 plan : List Slot
 free : List Int
 best : Option (List Slot)
abbrev TA1 := Bool × Int × Int × Int × Int × Int × Bool × List Slot × List Int
abbrev TA2 := Bool × Int × Int × Int × Int × Int × Bool × List Slot × List Int × List Slot
abbrev TB2 := Bool × Int × Int × Int × Int × Int × Bool × List Slot × List Int × List Slot × List Slot
def ansA : TA1 ⊕ TA2 → Ans
 | .inl r => ⟨r.1, r.2.1, r.2.2.1, r.2.2.2.1, r.2.2.2.2.1, r.2.2.2.2.2.1, r.2.2.2.2.2.2.1, r.2.2.2.2.2.2.2.1, r.2.2.2.2.2.2.2.2, none⟩
 | .inr r => ⟨r.1, r.2.1, r.2.2.1, r.2.2.2.1, r.2.2.2.2.1, r.2.2.2.2.2.1, r.2.2.2.2.2.2.1, r.2.2.2.2.2.2.2.1, r.2.2.2.2.2.2.2.2.1, some r.2.2.2.2.2.2.2.2.2⟩
def ansB : TA2 ⊕ TB2 → Ans
 | .inl r => ⟨r.1, r.2.1, r.2.2.1, r.2.2.2.1, r.2.2.2.2.1, r.2.2.2.2.2.1, r.2.2.2.2.2.2.1, r.2.2.2.2.2.2.2.1, r.2.2.2.2.2.2.2.2.1, some r.2.2.2.2.2.2.2.2.2⟩
 | .inr r => ⟨r.1, r.2.1, r.2.2.1, r.2.2.2.1, r.2.2.2.2.1, r.2.2.2.2.2.1, r.2.2.2.2.2.2.1, r.2.2.2.2.2.2.2.1, r.2.2.2.2.2.2.2.2.1, some r.2.2.2.2.2.2.2.2.2.2⟩
structure IsAns (n : Nat) (Bd Bg : Int) (tk : Int) (plan : List Slot) (free : List Int) (r : PS × Nat) (o : Ans) : Prop where
 ret : o.ret = decide (r.2 ≠ 0)
 len : o.len = r.1.len
 bd : o.bd = Bd
 tr : o.tr = r.1.tr
 bg : o.bg = Bg
 ov : o.ov = decide (r.2 = 2)
 best : o.best = r.1.best
 back : r.2 = 0 → o.tk = tk ∧ o.plan = plan ∧ o.free = free
 ok : r.2 ≠ 2 → OKst n Bg r.1
structure LookOK (l : List Job) (Bd Bg : Int) (k : Nat) (D : D_q0d) : Prop where
 a : ∀ tk plan free day st, OKin l tk plan free → OKst l.length Bg st → cntR tk 0 l.length < k → st.best = none →
  ∃ r, D.a day tk st.len Bd st.tr Bg false l plan free = some r ∧ IsAns l.length Bd Bg tk plan free (go l Bd Bg k tk plan free day st) (ansA r)
 b : ∀ tk plan free day st b, OKin l tk plan free → OKst l.length Bg st → cntR tk 0 l.length < k → st.best = some b →
  ∃ r, D.b day tk st.len Bd st.tr Bg false l plan free b = some r ∧ IsAns l.length Bd Bg tk plan free (go l Bd Bg k tk plan free day st) (ansB r)
end Go.RR
namespace Go.RR
open Go
theorem slot_at {l : List Job} {H : Nat} {tk : Int} {p : List Slot} {fr : List Int} (h : Shop l H tk p fr) (hv : VJ l) (hH : 1 ≤ H ∧ H ≤ 4) {i : Nat} (hi : i < l.length) (hw : ∀ k, k < l.length → waitsB l i k = true → tb tk k = true) :
  ∃ x : Nat, x < H ∧ (slotB l p fr i).1 = (x : Int) ∧ (slotB l p fr i).2 = max (fr.getD x 0) (rdyB l p i) := by
 have hx := atB_lt fr (rdyB l p i) (fr.length - 1)
 have hl := h.flen
 have hx2 : atB fr (rdyB l p i) (fr.length - 1) < H := by omega
 have h1 := h.fr_le hv hx2
 have h2 := (rdy_spec h hv hi hw).2
 have h3 := sumT_le hv tk
 refine ⟨atB fr (rdyB l p i) (fr.length - 1), hx2, ?_, ?_⟩
 ·show IntKind.wrap .i8 _ = _
  exact IntWalk.i8_in _ (by omega)
 ·show IntKind.wrap .i16 _ = _
  exact IntWalk.i16_in _ (by omega)
theorem end_eq {l : List Job} (hv : VJ l) {sl : Slot} {i : Nat} (hi : i < l.length) (h : 0 ≤ sl.2 ∧ sl.2 ≤ 1000) : endB l sl i = sl.2 + dn l i := by
 have := hv.days i hi
 unfold endB
 rw [IntWalk.i64_in sl.2 (by omega), IntWalk.i64_in (l.getD i (0, 0)).1 (by show -9223372036854775808 ≤ dn l i ∧ dn l i ≤ 9223372036854775807; omega), IntWalk.i64_in _ (by show -9223372036854775808 ≤ sl.2 + dn l i ∧ sl.2 + dn l i ≤ 9223372036854775807; omega)]
theorem sumT_step {l : List Job} (hv : VJ l) {tk : Int} (ht : TkOK l.length tk) {i : Nat} (hi : i < l.length) (hb : tb tk i = false) : sumT l (tkI tk i) = sumT l tk + dn l i := by
 have h2 := (tkI_ok ht hi hv.len).2
 unfold sumT
 rw [sm_upd (f := fun k => cond (tb tk k) (dn l k) 0) (g := fun k => cond (tb (tkI tk i) k) (dn l k) 0) (j := i) (fun k hk => by
  show cond (tb (tkI tk i) k) _ _ = cond (tb tk k) _ _
  rw [h2, decide_eq_false (fun e => hk e.symm), Bool.or_false]) _ hi]
 show _ + (cond (tb (tkI tk i) i) (dn l i) 0 - cond (tb tk i) (dn l i) 0) = _
 rw [h2, hb, decide_eq_true rfl]
 simp
theorem Shop.step {l : List Job} {H : Nat} {tk : Int} {p : List Slot} {fr : List Int} (h : Shop l H tk p fr) (hv : VJ l) (hH : 1 ≤ H ∧ H ≤ 4) {i : Nat} (hi : i < l.length) (hb : tb tk i = false) (hw : ∀ k, k < l.length → waitsB l i k = true → tb tk k = true) :
  Shop l H (tkI tk i) (p.set i (slotB l p fr i)) (fr.set (slotB l p fr i).1.toNat (endB l (slotB l p fr i) i)) ∧ (∀ k, k ≠ i → en l (p.set i (slotB l p fr i)) k = en l p k) ∧ endB l (slotB l p fr i) i = en l (p.set i (slotB l p fr i)) i := by
 obtain ⟨x, hx, e1, e2⟩ := slot_at h hv hH hi hw
 obtain ⟨r1, r2, r3⟩ := rdy_spec h hv hi hw
 obtain ⟨t1, t2⟩ := tkI_ok h.tok hi hv.len
 have hfr := h.fr_le hv hx
 have hs := sumT_le hv tk
 have hst := sumT_step hv h.tok hi hb
 have hd := hv.days i hi
 have hend := end_eq hv hi (sl := slotB l p fr i) (by omega)
 have hpi : i < p.length := by rw [h.plen]; exact hi
 have gi : (p.set i (slotB l p fr i)).getD i (0, 0) = slotB l p fr i := getD_set_eq hpi
 have gn : ∀ k, k ≠ i → (p.set i (slotB l p fr i)).getD k (0, 0) = p.getD k (0, 0) := fun k hk => getD_set_ne (fun e => hk e.symm)
 have sti : stt (p.set i (slotB l p fr i)) i = max (fr.getD x 0) (rdyB l p i) := by show ((p.set i (slotB l p fr i)).getD i (0, 0)).2 = _; rw [gi, e2]
 have hdi : hnd (p.set i (slotB l p fr i)) i = (x : Int) := by show ((p.set i (slotB l p fr i)).getD i (0, 0)).1 = _; rw [gi, e1]
 have stn : ∀ k, k ≠ i → stt (p.set i (slotB l p fr i)) k = stt p k := fun k hk => by show ((p.set i (slotB l p fr i)).getD k (0, 0)).2 = _; rw [gn k hk]
 have hdn : ∀ k, k ≠ i → hnd (p.set i (slotB l p fr i)) k = hnd p k := fun k hk => by show ((p.set i (slotB l p fr i)).getD k (0, 0)).1 = _; rw [gn k hk]
 have enn : ∀ k, k ≠ i → en l (p.set i (slotB l p fr i)) k = en l p k := fun k hk => by show stt _ k + _ = stt p k + _; rw [stn k hk]
 have eni : en l (p.set i (slotB l p fr i)) i = max (fr.getD x 0) (rdyB l p i) + dn l i := by show stt _ i + _ = _; rw [sti]
 have tn : ∀ k, k ≠ i → tb (tkI tk i) k = tb tk k := fun k hk => by rw [t2, decide_eq_false (fun e => hk e.symm), Bool.or_false]
 have ti : tb (tkI tk i) i = true := by rw [t2, decide_eq_true rfl, Bool.or_true]
 have hend : endB l (slotB l p fr i) i = max (fr.getD x 0) (rdyB l p i) + dn l i := by rw [hend, e2]
 have hxl : x < fr.length := by rw [h.flen]; exact hx
 rw [e1, toNat_nat, hend]
 have fx : (fr.set x (max (fr.getD x 0) (rdyB l p i) + dn l i)).getD x 0 = max (fr.getD x 0) (rdyB l p i) + dn l i := getD_set_eq hxl
 have fn : ∀ y, y ≠ x → (fr.set x (max (fr.getD x 0) (rdyB l p i) + dn l i)).getD y 0 = fr.getD y 0 := fun y hy => getD_set_ne (fun e => hy e.symm)
 refine ⟨⟨t1, by rw [List.length_set]; exact h.plen, by rw [List.length_set]; exact h.flen, ?_, ?_, ?_, ?_, ?_, ?_, ?_⟩, enn, eni.symm⟩
 ·intro k hk hbk
  by_cases e : k = i
  ·subst e; exact ⟨x, hdi, hx⟩
  ·rw [hdn k e]
   exact h.hand k hk (by rw [← tn k e]; exact hbk)
 ·intro k hk hbk
  by_cases e : k = i
  ·subst e
   rw [sti, eni, hst]; omega
  ·rw [stn k e, enn k e, hst]
   have := h.pos k hk (by rw [← tn k e]; exact hbk)
   omega
 ·intro k q hk hbk hq hwq
  by_cases e : k = i
  ·subst e
   have hbq := hw q hq hwq
   have hne : q ≠ k := fun e => by rw [e, hb] at hbq; cases hbq
   refine ⟨by rw [tn q hne]; exact hbq, ?_⟩
   rw [enn q hne, sti]
   have := r1 q hq hwq
   omega
  ·obtain ⟨a, b⟩ := h.wait k q hk (by rw [← tn k e]; exact hbk) hq hwq
   have hne : q ≠ i := fun e => by rw [e, hb] at a; cases a
   exact ⟨by rw [tn q hne]; exact a, by rw [enn q hne, stn k e]; exact b⟩
 ·intro k hk hbk
  by_cases e : k = i
  ·subst e
   rw [hdi, toNat_nat, fx, eni]; omega
  ·rw [enn k e, hdn k e]
   obtain ⟨y, y1, y2⟩ := h.hand k hk (by rw [← tn k e]; exact hbk)
   have ht := h.top k hk (by rw [← tn k e]; exact hbk)
   rw [y1, toNat_nat] at ht ⊢
   by_cases hy : y = x
   ·subst hy; rw [fx]; omega
   ·rw [fn y hy]; exact ht
 ·intro a b ha hb2 hta htb hab hh
  by_cases e : a = i
  ·subst e
   have hba : b ≠ a := fun e => hab e.symm
   have hbb : tb tk b = true := by rw [← tn b hba]; exact htb
   have ht := h.top b hb2 hbb
   rw [hdi, hdn b hba] at hh
   rw [← hh, toNat_nat] at ht
   right
   rw [enn b hba, sti]; omega
  ·by_cases e2 : b = i
   ·subst e2
    have hba : tb tk a = true := by rw [← tn a e]; exact hta
    have ht := h.top a ha hba
    rw [hdi, hdn a e] at hh
    rw [hh, toNat_nat] at ht
    left
    rw [enn a e, sti]; omega
   ·rw [enn a e, enn b e2, stn a e, stn b e2]
    rw [hdn a e, hdn b e2] at hh
    exact h.apart a b ha hb2 (by rw [← tn a e]; exact hta) (by rw [← tn b e2]; exact htb) hab hh
 ·intro y hy
  have hl : loadT l (tkI tk i) (p.set i (slotB l p fr i)) y = loadT l tk p y + cond (y == x) (dn l i) 0 := by
   unfold loadT
   rw [sm_upd (f := fun k => cond (tb tk k && (hnd p k == (y : Int))) (dn l k) 0) (g := fun k => cond (tb (tkI tk i) k && (hnd (p.set i (slotB l p fr i)) k == (y : Int))) (dn l k) 0) (j := i) (fun k hk => by
    show cond (tb (tkI tk i) k && (hnd (p.set i (slotB l p fr i)) k == (y : Int))) _ _ = cond (tb tk k && (hnd p k == (y : Int))) _ _
    rw [tn k hk, hdn k hk]) _ hi]
   show _ + (cond (tb (tkI tk i) i && (hnd (p.set i (slotB l p fr i)) i == (y : Int))) (dn l i) 0 - cond (tb tk i && (hnd p i == (y : Int))) (dn l i) 0) = _
   rw [ti, hb, hdi]
   have : (((x : Nat) : Int) == ((y : Nat) : Int)) = (y == x) := by
    by_cases e : y = x
    ·subst e; simp
    ·rw [show (y == x) = false from by simpa using e]
     exact beq_eq_false_iff_ne.2 (by omega)
   rw [this]
   simp
  have ho := h.load y hy
  rw [hl]
  by_cases e : y = x
  ·subst e
   rw [fx, show (y == y) = true from by simp, cond_true]; omega
  ·rw [fn y e, show (y == x) = false from by simpa using e, cond_false]; omega
 ·intro y hy
  by_cases e : y = x
  ·subst e
   exact .inr ⟨i, hi, ti, by rw [fx, eni]⟩
  ·rw [fn y e]
   rcases h.made y hy with h0 | ⟨k, k1, k2, k3⟩
   ·exact .inl h0
   ·have hne : k ≠ i := fun e => by rw [e, hb] at k2; cases k2
    exact .inr ⟨k, k1, by rw [tn k hne]; exact k2, by rw [enn k hne]; exact k3⟩
end Go.RR
namespace Go.RR
open Go
structure MadeP (l : List Job) (H : Nat) (p : List Slot) : Prop where
 ex : ∃ tk fr, Shop l H tk p fr ∧ ∀ i, i < l.length → tb tk i = true
noncomputable def sumJ (l : List Job) : Int := sm (dn l) l.length
theorem sumT_full {l : List Job} {tk : Int} (h : ∀ i, i < l.length → tb tk i = true) : sumT l tk = sumJ l :=
 sm_congr _ fun i hi => by rw [h i hi, cond_true]
theorem len_day (l : List Job) (p : List Slot) : lenB l p = dayF (fun _ => true) (doneB l p) (List.range' 0 l.length) 0 := (dayF_full _ _ fun _ _ => rfl).symm
section
variable {l : List Job} {H : Nat} {p : List Slot} (hv : VJ l) (hb : MadeP l H p)
include hv hb
theorem built_st {i : Nat} (hi : i < l.length) : 0 ≤ stt p i ∧ stt p i ≤ 1000 := by
 obtain ⟨tk, fr, h, ht⟩ := hb.ex
 exact h.st_le hv hi (ht i hi)
theorem built_en {i : Nat} (hi : i < l.length) : en l p i ≤ lenB l p ∧ 0 ≤ lenB l p := by
 have e := done_eq hv hi (built_st hv hb hi)
 rw [len_day]
 obtain ⟨h1, h2⟩ := dayF_ge (fun _ => true) (doneB l p) (List.range' 0 l.length) 0
 rw [← e]
 exact ⟨h2 i (by rw [List.mem_range'_1]; omega) rfl, h1⟩
theorem built_len : 0 ≤ lenB l p ∧ lenB l p ≤ sumJ l := by
 obtain ⟨tk, fr, h, ht⟩ := hb.ex
 have hs := sumT_le hv tk
 rw [← sumT_full ht]
 rw [len_day]
 have key : ∀ (ks : List Nat) (m : Int), (∀ k ∈ ks, k < l.length) → 0 ≤ m → m ≤ sumT l tk → 0 ≤ dayF (fun _ => true) (doneB l p) ks m ∧ dayF (fun _ => true) (doneB l p) ks m ≤ sumT l tk := by
  intro ks
  induction ks with
  | nil => intro m _ h0 h1; exact ⟨h0, h1⟩
  | cons k ks ih =>
   intro m hm h0 h1
   have hk := hm k (by simp)
   have h2 := h.pos k hk (ht k hk)
   have h3 := done_eq hv hk (h.st_le hv hk (ht k hk))
   refine ih (max m (doneB l p k)) (fun k' h' => hm k' (by simp [h'])) ?_ ?_
   ·omega
   ·rw [h3]; omega
 exact key _ 0 (fun k hk => by rw [List.mem_range'_1] at hk; omega) (Int.le_refl _) hs.1
theorem built_hand {i : Nat} (hi : i < l.length) : ∃ h : Nat, hnd p i = (h : Int) ∧ h < H := by
 have _ := hv
 obtain ⟨tk, fr, h, ht⟩ := hb.ex
 exact h.hand i hi (ht i hi)
theorem built_load {h : Nat} (hh : h < H) : 0 ≤ sm (fun i => cond (hnd p i == (h : Int)) (dn l i) 0) l.length ∧ sm (fun i => cond (hnd p i == (h : Int)) (dn l i) 0) l.length ≤ lenB l p := by
 obtain ⟨tk, fr, h1, ht⟩ := hb.ex
 have h0 := built_len hv hb
 have e : sm (fun i => cond (hnd p i == (h : Int)) (dn l i) 0) l.length = loadT l tk p h := sm_congr _ fun i hi => by rw [ht i hi, Bool.true_and]
 refine ⟨?_, ?_⟩
 ·have := sm_le (f := fun _ => 0) (g := fun i => cond (hnd p i == (h : Int)) (dn l i) 0) l.length fun i hi => by
   have := hv.days i hi
   show 0 ≤ cond (hnd p i == (h : Int)) (dn l i) 0
   cases hnd p i == (h : Int)
   ·simp
   ·simp only [cond_true]; omega
  rwa [sm_zero] at this
 ·rw [e]
  have := h1.load h hh
  rcases h1.made h hh with e2 | ⟨i, i1, i2, i3⟩
  ·omega
  ·have := (built_en hv hb i1).1
   omega
theorem built_sums : sm (fun h => sm (fun i => cond (hnd p i == (h : Int)) (dn l i) 0) l.length) H = sumJ l := by
 rw [sm_swap (fun h i => cond (hnd p i == (h : Int)) (dn l i) 0) l.length H]
 refine sm_congr _ fun i hi => ?_
 obtain ⟨x, x1, x2⟩ := built_hand hv hb hi
 rw [x1]
 have : (fun h : Nat => cond ((x : Int) == (h : Int)) (dn l i) 0) = fun h : Nat => cond (x == h) (dn l i) 0 := by
  funext h
  by_cases e : x = h
  ·subst e; simp
  ·rw [show (x == h) = false from by simpa using e, show ((x : Int) == (h : Int)) = false from beq_eq_false_iff_ne.2 (by omega)]
 rw [this, sm_one _ x2]
theorem built_sum : sumJ l ≤ (H : Int) * lenB l p := by
 rw [← built_sums hv hb, ← sm_const]
 exact sm_le _ fun h hh => (built_load hv hb hh).2
theorem built_tail : ∀ (xs : List Int), (∀ x ∈ xs, ∃ j : Nat, j < l.length ∧ x = (j : Int)) → ∀ st : List Int, st.length = l.length →
  (∀ k, k < l.length → 0 ≤ st.getD k 0 ∧ (st.getD k 0 = 0 ∨ stt p k + st.getD k 0 ≤ lenB l p)) →
  ∀ k, k < l.length → 0 ≤ (xs.foldl (tailS l) st).getD k 0 ∧ ((xs.foldl (tailS l) st).getD k 0 = 0 ∨ stt p k + (xs.foldl (tailS l) st).getD k 0 ≤ lenB l p) := by
 intro xs
 induction xs with
 | nil => intro _ st _ h; exact h
 | cons x xs ih =>
  intro hx st hst h
  rw [List.foldl_cons]
  obtain ⟨j, hj, rfl⟩ := hx x (by simp)
  refine ih (fun y hy => hx y (by simp [hy])) (tailS l st (j : Int)) (by rw [tailS_len]; exact hst) ?_
  have hlen := built_len hv hb
  have hs : sumJ l ≤ 360 := by
   obtain ⟨tk, fr, h1, ht⟩ := hb.ex
   rw [← sumT_full ht]; exact (sumT_le hv tk).2
  have hdj := hv.days j hj
  have hej := (built_en hv hb hj).1
  have hsj := built_st hv hb hj
  have hm : ∀ (ks : List Nat) (m : Int), (∀ k ∈ ks, k < l.length) → 0 ≤ m → en l p j + m ≤ lenB l p → 0 ≤ mostT l st j ks m ∧ en l p j + mostT l st j ks m ≤ lenB l p := by
   intro ks
   induction ks with
   | nil => intro m _ h0 h1; exact ⟨h0, h1⟩
   | cons k ks ih2 =>
    intro m hk h0 h1
    show 0 ≤ mostT l st j ks (cond (waitsB l k j) (max m (st.getD k 0)) m) ∧ en l p j + mostT l st j ks (cond (waitsB l k j) (max m (st.getD k 0)) m) ≤ _
    have hkl := hk k (by simp)
    refine ih2 _ (fun k' h' => hk k' (by simp [h'])) ?_ ?_
    ·cases waitsB l k j
     ·exact h0
     ·simp only [cond_true]; omega
    ·cases hw : waitsB l k j
     ·exact h1
     ·simp only [cond_true]
      obtain ⟨tk, fr, h2, ht⟩ := hb.ex
      have h3 := (h2.wait k j hkl (ht k hkl) hj hw).2
      obtain ⟨a, b⟩ := h k hkl
      rcases b with b | b
      ·rw [b]; omega
      ·omega
  intro k hk
  unfold tailS
  rw [toNat_nat]
  by_cases e : k = j
  ·subst e
   rw [getD_set_eq (by omega)]
   obtain ⟨a, b⟩ := hm (List.range' 0 l.length) 0 (fun k hk => by rw [List.mem_range'_1] at hk; omega) (Int.le_refl _) (by omega)
   have hen : en l p k = stt p k + dn l k := rfl
   rw [IntWalk.i64_in (l.getD k (0, 0)).1 (by show -9223372036854775808 ≤ dn l k ∧ dn l k ≤ 9223372036854775807; omega), IntWalk.i64_in _ (by show -9223372036854775808 ≤ _ + dn l k ∧ _ + dn l k ≤ 9223372036854775807; omega)]
   show 0 ≤ _ + dn l k ∧ (_ + dn l k = 0 ∨ stt p k + (_ + dn l k) ≤ _)
   omega
  ·rw [getD_set_ne (fun e2 => e e2.symm)]
   exact h k hk
theorem built_long : longB l ≤ lenB l p := by
 have h0 := built_len hv hb
 have ht := built_tail hv hb (ordL l).reverse (fun x hx => ord_mem x (List.mem_reverse.1 hx)) (List.replicate l.length 0) (by simp) fun k hk => by
  rw [getD_lt 0 (by simpa using hk)]
  simp
 unfold longB
 obtain ⟨_, _, h3⟩ := fold_max (tailL l) 0
 rcases h3 with h3 | h3
 ·rw [h3]; exact h0.1
 ·obtain ⟨k, hk, ek⟩ := List.getElem_of_mem h3
  have hk2 : k < l.length := by rw [tailL_len] at hk; exact hk
  have := ht k hk2
  have e : (tailL l).getD k 0 = (tailL l).foldl (fun (m : Int) x => max m x) 0 := by rw [getD_lt 0 hk, ek]
  have hs := (built_st hv hb hk2).1
  have h2 : (List.foldl (tailS l) (List.replicate l.length 0) (ordL l).reverse).getD k 0 = (tailL l).foldl (fun (m : Int) x => max m x) 0 := e
  rw [h2] at this
  omega
theorem built_bound (hH : 1 ≤ H ∧ H ≤ 4) : boundB l (H : Int) ≤ lenB l p := by
 have h0 := built_len hv hb
 have h1 := built_long hv hb
 have h2 := built_sum hv hb
 have hs : 0 ≤ sumJ l ∧ sumJ l ≤ 360 := by
  obtain ⟨tk, fr, h1, ht⟩ := hb.ex
  rw [← sumT_full ht]; exact sumT_le hv tk
 have hd : sumD l = sumJ l := by
  have key : ∀ n, n ≤ l.length → (l.take n).foldl (fun (m : Int) x => IntKind.wrap .i64 (m + IntKind.wrap .i64 x.1)) 0 = sm (dn l) n ∧ 0 ≤ sm (dn l) n ∧ sm (dn l) n ≤ (n : Int) * 30 := by
   intro n
   induction n with
   | zero => intro _; exact ⟨rfl, Int.le_refl _, by simp [sm]⟩
   | succ n ih =>
    intro hn
    obtain ⟨a, b, c⟩ := ih (by omega)
    have hdn := hv.days n (by omega)
    have hl := hv.len
    have e1 : l.take (n + 1) = l.take n ++ [l[n]] := by rw [List.take_succ_eq_append_getElem (by omega)]
    have e2 : l[n].1 = dn l n := by show _ = (l.getD n (0, 0)).1; rw [getD_lt (0, 0) (show n < l.length by omega)]
    have e3 : sm (dn l) (n + 1) = sm (dn l) n + dn l n := rfl
    rw [e1, List.foldl_append, a]
    simp only [List.foldl_cons, List.foldl_nil]
    rw [e2, IntWalk.i64_in (dn l n) (by omega), IntWalk.i64_in _ (by omega), e3]
    exact ⟨rfl, by omega, by omega⟩
  have := (key l.length (Nat.le_refl _)).1
  rw [List.take_length] at this
  exact this
 unfold boundB
 rw [hd, IntWalk.i64_in (sumJ l + (H : Int)) (by omega), IntWalk.i64_in (sumJ l + (H : Int) - 1) (by omega), Int.tdiv_eq_ediv_of_nonneg (by omega)]
 obtain ⟨m1, m2⟩ : 0 ≤ (sumJ l + (H : Int) - 1) / (H : Int) ∧ (sumJ l + (H : Int) - 1) / (H : Int) ≤ lenB l p := by
  obtain rfl | rfl | rfl | rfl : H = 1 ∨ H = 2 ∨ H = 3 ∨ H = 4 := by omega
  all_goals
   constructor <;> omega
 rw [IntWalk.i64_in _ (by omega)]
 omega
end
end Go.RR
