/- Plain facts of chains: greatest sums of days; the plain laws of BoundFor and LatestOf. -/
import Derived.Test.YtkohnhkehedflaaWr
import Derived.Test.YtkohnhkehedflaaVm
set_option linter.unusedVariables false
set_option linter.unusedSimpArgs false
namespace Go.RR
open Go
theorem shl1 {q : Nat} (hq : q < 12) : bShl .u16 1 (q : Int) = ((2 ^ q : Nat) : Int) ∧ 1 ≤ 2 ^ q ∧ 2 ^ q ≤ 4096 := by
 have h1 : 2 ^ q ≤ 2 ^ 12 := Nat.pow_le_pow_right (by decide) (by omega)
 have h2 : 0 < 2 ^ q := Nat.pow_pos (by decide)
 have h1 : 2 ^ q ≤ 4096 := h1
 refine ⟨?_, h2, h1⟩
 unfold bShl
 have hm : min (Int.toNat (q : Int)) IntKind.u16.bits = q := by
  rw [toNat_nat]
  exact Nat.min_eq_left (by show q ≤ 16; omega)
 rw [hm, Int.one_mul, show ((2 : Int) ^ q) = ((2 ^ q : Nat) : Int) by rw [Int.natCast_pow]; rfl]
 exact IntWalk.u16_in _ (by omega)
theorem shr_bit {x : Int} (hx : 0 ≤ x) {k : Nat} (hk : k < 16) : bShr .u16 x k % 2 = cond (x.toNat.testBit k) 1 0 := by
 unfold bShr
 have hm : min (Int.toNat (k : Int)) IntKind.u16.bits = k := by
  rw [toNat_nat]
  exact Nat.min_eq_left (by show k ≤ 16; omega)
 rw [hm]
 obtain ⟨n, rfl⟩ : ∃ n : Nat, x = (n : Int) := ⟨x.toNat, (Int.toNat_of_nonneg hx).symm⟩
 have hp : (0 : Int) < 2 ^ k := Int.pow_pos (by decide)
 rw [Int.fdiv_eq_ediv_of_nonneg _ (Int.le_of_lt hp), toNat_nat, show ((2 : Int) ^ k) = ((2 ^ k : Nat) : Int) by rw [Int.natCast_pow]; rfl]
 have : ((n : Int) / ((2 ^ k : Nat) : Int)) % 2 = ((n / 2 ^ k % 2 : Nat) : Int) := by omega
 rw [this, Nat.testBit_eq_decide_div_mod_eq]
 by_cases h : n / 2 ^ k % 2 = 1
 ·rw [h, decide_eq_true rfl]; rfl
 ·rw [show n / 2 ^ k % 2 = 0 by omega]; rfl
theorem or_nat {a b : Int} (ha : 0 ≤ a ∧ a ≤ 65535) (hb : 0 ≤ b ∧ b ≤ 65535) : (bOr .u16 a b).toNat = a.toNat ||| b.toNat ∧ 0 ≤ bOr .u16 a b ∧ bOr .u16 a b ≤ 65535 := by
 have e : (BitVec.ofInt IntKind.u16.bits a ||| BitVec.ofInt IntKind.u16.bits b).toNat = a.toNat ||| b.toNat := by
  show (BitVec.ofInt 16 a ||| BitVec.ofInt 16 b).toNat = _
  rw [BitVec.toNat_or, BitVec.toNat_ofInt, BitVec.toNat_ofInt]
  have h1 : (a % ((2 ^ 16 : Nat) : Int)).toNat = a.toNat := by
   have : ((2 ^ 16 : Nat) : Int) = 65536 := rfl
   rw [this]; omega
  have h2 : (b % ((2 ^ 16 : Nat) : Int)).toNat = b.toNat := by
   have : ((2 ^ 16 : Nat) : Int) = 65536 := rfl
   rw [this]; omega
  rw [h1, h2]
 have hlt : a.toNat ||| b.toNat < 2 ^ 16 := Nat.or_lt_two_pow (by show a.toNat < 65536; omega) (by show b.toNat < 65536; omega)
 have hlt : a.toNat ||| b.toNat < 65536 := hlt
 have e2 : bOr .u16 a b = ((a.toNat ||| b.toNat : Nat) : Int) := by
  unfold bOr
  rw [e]
  exact IntWalk.u16_in _ (by omega)
 rw [e2]
 exact ⟨rfl, by omega, by omega⟩
theorem andn_nat {a b : Int} (ha : 0 ≤ a ∧ a ≤ 65535) (hb : 0 ≤ b ∧ b ≤ 65535) (h : bAndNot .u16 a b = 0) {k : Nat} (hk : a.toNat.testBit k = true) : b.toNat.testBit k = true := by
 unfold bAndNot at h
 have hk16 : k < 16 := by
  apply Classical.byContradiction
  intro hge
  have hlt : a.toNat < 2 ^ k := Nat.lt_of_lt_of_le (show a.toNat < 2 ^ 16 by show a.toNat < 65536; omega) (Nat.pow_le_pow_right (by decide) (by omega))
  rw [Nat.testBit_lt_two_pow hlt] at hk
  cases hk
 have hl : (BitVec.ofInt IntKind.u16.bits a &&& ~~~BitVec.ofInt IntKind.u16.bits b).toNat < 65536 := (BitVec.ofInt 16 a &&& ~~~BitVec.ofInt 16 b).isLt
 rw [IntWalk.u16_in _ (by omega)] at h
 have h0 : (BitVec.ofInt 16 a &&& ~~~BitVec.ofInt 16 b).toNat = 0 := by
  have : ((BitVec.ofInt 16 a &&& ~~~BitVec.ofInt 16 b).toNat : Int) = 0 := h
  omega
 have hz : BitVec.ofInt 16 a &&& ~~~BitVec.ofInt 16 b = 0#16 := BitVec.eq_of_toNat_eq h0
 have hb1 : (BitVec.ofInt 16 a &&& ~~~BitVec.ofInt 16 b).getLsbD k = false := by rw [hz]; simp
 rw [BitVec.getLsbD_and, BitVec.getLsbD_not] at hb1
 have g1 : (BitVec.ofInt 16 a).getLsbD k = true := by
  show (BitVec.ofInt 16 a).toNat.testBit k = true
  rw [BitVec.toNat_ofInt]
  have : (a % ((2 ^ 16 : Nat) : Int)).toNat = a.toNat := by
   have : ((2 ^ 16 : Nat) : Int) = 65536 := rfl
   rw [this]; omega
  rw [this]; exact hk
 have g2 : (BitVec.ofInt 16 b).getLsbD k = b.toNat.testBit k := by
  show (BitVec.ofInt 16 b).toNat.testBit k = _
  rw [BitVec.toNat_ofInt]
  have : (b % ((2 ^ 16 : Nat) : Int)).toNat = b.toNat := by
   have : ((2 ^ 16 : Nat) : Int) = 65536 := rfl
   rw [this]; omega
  rw [this]
 rw [g1, g2] at hb1
 simpa [hk16] using hb1
theorem waits_bit {l : List Job} (hj : JobsOK l) {i k : Nat} (hi : i < l.length) (hk : k < 16) : waitsB l i k = (l.getD i (0, 0)).2.toNat.testBit k := by
 unfold waitsB
 rw [shr_bit (after_nn hj hi) hk]
 cases (l.getD i (0, 0)).2.toNat.testBit k <;> rfl
structure OrdI (l : List Job) (done : Int) (out : List Int) : Prop where
 rng : 0 ≤ done ∧ done ≤ 65535
 mem : ∀ x ∈ out, ∃ j : Nat, j < l.length ∧ x = (j : Int)
 bit : ∀ j : Nat, j < 16 → (done.toNat.testBit j = true ↔ (j : Int) ∈ out)
 nd : out.Nodup
 top : ∀ (a b : List Int) (i k : Nat), out = a ++ (i : Int) :: b → i < l.length → waitsB l i k = true → k < 16 → (k : Int) ∈ a
theorem ordI_step {l : List Job} (hj : JobsOK l) (hn : l.length ≤ 12) {done : Int} {out : List Int} (h : OrdI l done out) {j : Nat} (hp : pick l done = some j) : OrdI l (bOr .u16 done (bShl .u16 1 j)) (out ++ [(j : Int)]) := by
 have hjl := pick_lt hp
 obtain ⟨s1, s2, s3⟩ := shl1 (q := j) (by omega)
 have hr : ready l done j = true := by
  have := List.find?_some hp
  exact this
 unfold ready at hr
 have hs : 0 ≤ bShl .u16 1 (j : Int) ∧ bShl .u16 1 (j : Int) ≤ 65535 := by rw [s1]; omega
 obtain ⟨o1, o2, o3⟩ := or_nat h.rng hs
 have hbit : ∀ k, (bOr .u16 done (bShl .u16 1 j)).toNat.testBit k = (done.toNat.testBit k || decide (j = k)) := by
  intro k
  rw [o1, Nat.testBit_or, s1, toNat_nat, Nat.testBit_two_pow]
 have hnb : done.toNat.testBit j = false := by
  rw [shr_bit h.rng.1 (by omega)] at hr
  cases hb : done.toNat.testBit j
  ·rfl
  ·rw [hb] at hr; cases hr
 have hab : bAndNot .u16 (l.getD j (0, 0)).2 done = 0 := by
  cases hb : (bShr .u16 done j % 2 == 0)
  ·rw [hb] at hr; cases hr
  ·rw [hb] at hr
   simpa using hr
 have hnot : (j : Int) ∉ out := fun hm => by
  rw [(h.bit j (by omega)).2 hm] at hnb; cases hnb
 refine ⟨⟨o2, o3⟩, fun x hx => ?_, fun k hk => ?_, ?_, fun a b i k he hi hw hk => ?_⟩
 ·rcases List.mem_append.1 hx with hx | hx
  ·exact h.mem x hx
  ·simp at hx; exact ⟨j, hjl, hx⟩
 ·rw [hbit]
  constructor
  ·intro hb
   rcases Bool.or_eq_true _ _ ▸ hb with hb | hb
   ·exact List.mem_append_left _ ((h.bit k hk).1 hb)
   ·rw [of_decide_eq_true hb]; simp
  ·intro hm
   rcases List.mem_append.1 hm with hm | hm
   ·rw [(h.bit k hk).2 hm]; rfl
   ·have : k = j := by simp at hm; omega
    subst this
    simp
 ·rw [List.nodup_append]
  refine ⟨h.nd, by simp, fun x hx y hy => ?_⟩
  simp at hy
  subst hy
  intro hxy
  subst hxy
  exact hnot hx
 ·rcases List.eq_nil_or_concat b with hb | ⟨b', y, hb⟩
  ·subst hb
   have he' : out ++ [(j : Int)] = a ++ [(i : Int)] := he
   have h1 := (List.append_inj' he' rfl)
   have hij : j = i := by have := h1.2; simp at this; omega
   subst hij
   rw [← h1.1]
   refine (h.bit k hk).1 (andn_nat (hj _ (getD_mem' hjl)).2 h.rng hab ?_)
   rw [← waits_bit hj hjl hk]; exact hw
  ·subst hb
   have he' : out ++ [(j : Int)] = (a ++ (i : Int) :: b') ++ [y] := by rw [he]; simp
   have h1 := (List.append_inj' he' rfl)
   exact h.top a b' i k h1.1 hi hw hk
theorem ordI_all {l : List Job} (hj : JobsOK l) (hn : l.length ≤ 12) : ∀ (k : Nat) (done : Int) (out : List Int), OrdI l done out → ∃ done', OrdI l done' (ordN l k done out).1
 | 0, done, out, h => ⟨done, h⟩
 | k + 1, done, out, h => by
  unfold ordN
  cases hp : pick l done with
  | none => exact ⟨done, h⟩
  | some j => exact ordI_all hj hn k _ _ (ordI_step hj hn h hp)
noncomputable def ordL (l : List Job) : List Int := (ordN l l.length 0 []).1
theorem ordL_ok {l : List Job} (hj : JobsOK l) (hn : l.length ≤ 12) : ∃ done, OrdI l done (ordL l) :=
 ordI_all hj hn l.length 0 [] ⟨by omega, fun x hx => by simp at hx, fun j _ => by simp, by simp, fun a b i k he => by simp at he⟩
theorem getD_lt {α : Type} {l : List α} {i : Nat} (d : α) (h : i < l.length) : l.getD i d = l[i] := by
 rw [List.getD_eq_getElem?_getD, List.getElem?_eq_getElem h]; rfl
noncomputable def revAt (l : List Int) (i : Nat) : List Int := (List.range l.length).map fun k => if k < i ∨ l.length - i ≤ k then l.getD (l.length - 1 - k) 0 else l.getD k 0
theorem revAt_len (l : List Int) (i : Nat) : (revAt l i).length = l.length := by simp [revAt]
theorem revAt_get {l : List Int} {i k : Nat} (h : k < l.length) : (revAt l i).getD k 0 = if k < i ∨ l.length - i ≤ k then l.getD (l.length - 1 - k) 0 else l.getD k 0 := by
 rw [getD_lt 0 (by rw [revAt_len]; exact h)]
 simp [revAt]
theorem revAt_zero (l : List Int) : revAt l 0 = l := by
 apply List.ext_getElem (revAt_len l 0)
 intro k h1 h2
 rw [← getD_lt 0 h1, ← getD_lt 0 h2, revAt_get h2, if_neg (by omega)]
theorem revAt_end (l : List Int) : revAt l (l.length / 2) = l.reverse := by
 apply List.ext_getElem (by rw [revAt_len]; simp)
 intro k h1 h2
 have hk : k < l.length := by simpa using h2
 rw [← getD_lt 0 h1, revAt_get hk, List.getElem_reverse]
 split
 ·rw [getD_lt 0 (by omega)]
 ·have : l.length - 1 - k = k := by omega
  rw [getD_lt 0 hk]
  simp only [this]
theorem reverse_eq {l : List Int} (hn : l.length ≤ 1000000) : s_q06 l = some l.reverse := by
 unfold s_q06 f_q06_run1
 rw [IntWalk.i64_in (((l.length : Nat) : Int) - 1) (by omega)]
 have key := run_count (step := fun x => f_q06_n1 x.1 x.2.1 x.2.2) (τ := Unit) (l.length / 2) (fun i _ => ((i : Int), ((l.length : Nat) : Int) - 1 - (i : Int), revAt l i)) (fun _ _ => ()) l.reverse () (by omega) ?_ ?_
 ·have key : iter (fun x => f_q06_n1 x.1 x.2.1 x.2.2) FU (((0 : Nat) : Int), ((l.length : Nat) : Int) - 1 - ((0 : Nat) : Int), revAt l 0) = some l.reverse := key
  rw [revAt_zero] at key
  simpa using key
 ·intro i _ hi
  show f_q06_n1 i (((l.length : Nat) : Int) - 1 - (i : Int)) (revAt l i) = _
  have e1 : ((l.length : Nat) : Int) - 1 - (i : Int) = ((l.length - 1 - i : Nat) : Int) := by omega
  unfold f_q06_n1
  rw [e1, lt_true (show i < l.length - 1 - i by omega), List.length_set, revAt_len, inB_nat (show i < l.length by omega), inB_nat (show l.length - 1 - i < l.length by omega), toNat_nat, toNat_nat, succ64 (by omega), IntWalk.i64_in (((l.length - 1 - i : Nat) : Int) - 1) (by omega)]
  simp only [cond_true]
  have e2 : ((l.length - 1 - i : Nat) : Int) - 1 = ((l.length : Nat) : Int) - 1 - ((i + 1 : Nat) : Int) := by omega
  rw [e2]
  have hA := revAt_get (i := i) (show l.length - 1 - i < l.length by omega)
  have hB := revAt_get (i := i) (show i < l.length by omega)
  rw [if_neg (by omega)] at hA hB
  have e3 : List.set (List.set (revAt l i) i (List.getD (revAt l i) (l.length - 1 - i) 0)) (l.length - 1 - i) (List.getD (revAt l i) i 0) = revAt l (i + 1) := by
   rw [hA, hB]
   apply List.ext_getElem (by rw [List.length_set, List.length_set, revAt_len, revAt_len])
   intro k h1 h2
   have hk : k < l.length := by rw [revAt_len] at h2; exact h2
   rw [List.getElem_set, List.getElem_set, ← getD_lt 0 h2, revAt_get hk]
   by_cases c1 : l.length - 1 - i = k
   ·rw [if_pos c1, if_pos (by omega)]
    congr 1; omega
   ·rw [if_neg c1]
    by_cases c2 : i = k
    ·rw [if_pos c2, if_pos (by omega)]
     congr 1; omega
    ·have hk1 : k < (revAt l i).length := by rw [revAt_len]; exact hk
     rw [if_neg c2, ← getD_lt 0 hk1, revAt_get hk]
     by_cases c3 : k < i ∨ l.length - i ≤ k
     ·rw [if_pos c3, if_pos (by omega)]
     ·rw [if_neg c3, if_neg (by omega)]
  rw [e3]
 ·show f_q06_n1 ((l.length / 2 : Nat) : Int) (((l.length : Nat) : Int) - 1 - ((l.length / 2 : Nat) : Int)) (revAt l (l.length / 2)) = _
  unfold f_q06_n1
  rw [decide_eq_false (by omega), cond_false, revAt_end]
noncomputable def mostT (l : List Job) (st : List Int) (j : Nat) (ks : List Nat) (m : Int) : Int := ks.foldl (fun m k => cond (waitsB l k j) (max m (st.getD k 0)) m) m
noncomputable def tailS (l : List Job) (st : List Int) (x : Int) : List Int := st.set x.toNat (IntKind.wrap .i64 (mostT l st x.toNat (List.range' 0 l.length) 0 + IntKind.wrap .i64 (l.getD x.toNat (0, 0)).1))
noncomputable def tailL (l : List Job) : List Int := (ordL l).reverse.foldl (tailS l) (List.replicate l.length 0)
theorem tailS_len {l : List Job} {st : List Int} {x : Int} : (tailS l st x).length = st.length := by simp [tailS]
theorem foldT_len {l : List Job} : ∀ (xs : List Int) (st : List Int), (xs.foldl (tailS l) st).length = st.length
 | [], st => rfl
 | x :: xs, st => by rw [List.foldl_cons, foldT_len xs, tailS_len]
theorem tailL_len {l : List Job} : (tailL l).length = l.length := by unfold tailL; rw [foldT_len]; simp
theorem stail_inner {l : List Job} (hj : JobsOK l) (hn : l.length ≤ 12) {ord st : List Int} {o : Int} {j : Nat} (hjl : j < l.length) (ho : -1 ≤ o - 1 ∧ o ≤ 1000) (hst : st.length = l.length) :
  f_q17_run9 (o, (j : Int), 0, 0, l, ord, st) = some (Sum.inl (o - 1, l, ord, tailS l st j)) := by
 unfold f_q17_run9
 refine run_count (step := fun x => f_q17_n9 x.1 x.2.1 x.2.2.1 x.2.2.2.1 x.2.2.2.2.1 x.2.2.2.2.2.1 x.2.2.2.2.2.2) l.length (fun k (m : Int) => (o, (j : Int), m, (k : Int), l, ord, st)) (fun m k => cond (waitsB l k j) (max m (st.getD k 0)) m) _ 0 (by omega) ?_ ?_
 ·intro k m hk
  show f_q17_n9 o j m k l ord st = _
  unfold f_q17_n9
  rw [lt_true hk, swaits_eq hj hk (by omega), inB_nat (show k < st.length by omega), toNat_nat, succ64 (by omega), max_eq]
  simp only [cond_true, Option.bind]
  cases waitsB l k j <;> rfl
 ·show f_q17_n9 o j (mostT l st j (List.range' 0 l.length) 0) (l.length : Nat) l ord st = _
  unfold f_q17_n9
  rw [lt_neg, cond_false, inB_nat hjl, inB_nat (show j < st.length by omega), toNat_nat, IntWalk.i64_in (o - 1) (by omega)]
  rfl
theorem stails_eq {l : List Job} (hj : JobsOK l) (hn : l.length ≤ 12) (hv : (ordN l l.length 0 []).2 = true) : s_q17 l = some (tailL l) := by
 unfold s_q17
 rw [sorder_eq hn, hv, cond_true, Option.bind_some]
 rw [mk_ok _ _ (by omega), cond_true, toNat_nat]
 have hol := ord_len (l := l)
 have hor := ord_mem (l := l)
 show f_q17_run4 (IntKind.wrap .i64 ((((ordL l).length : Nat) : Int) - 1), l, ordL l, List.replicate l.length 0) = _
 have hol : (ordL l).length ≤ l.length := hol
 have hor : ∀ x ∈ ordL l, ∃ j : Nat, j < l.length ∧ x = (j : Int) := hor
 rw [IntWalk.i64_in ((((ordL l).length : Nat) : Int) - 1) (by omega)]
 unfold f_q17_run4
 have hrl : (ordL l).reverse.length = (ordL l).length := by simp
 have key := run_listI (step := fun x => f_q17_n4 x.1 x.2.1 x.2.2.1 x.2.2.2) (0 : Int) (ordL l).reverse (fun k (st : List Int) => ((((ordL l).length : Nat) : Int) - 1 - (k : Int), l, ordL l, st)) (tailS l) (fun _ st => st.length = l.length) (tailL l) (List.replicate l.length 0) (by omega) (by simp) ?_ ?_
 ·simpa using key
 ·intro k st hk hm hI
  refine ⟨?_, by rw [tailS_len]; exact hI⟩
  show f_q17_n4 ((((ordL l).length : Nat) : Int) - 1 - (k : Int)) l (ordL l) st = _
  have hk' : k < (ordL l).length := by omega
  have e1 : (((ordL l).length : Nat) : Int) - 1 - (k : Int) = (((ordL l).length - 1 - k : Nat) : Int) := by omega
  have hg : (ordL l).getD ((ordL l).length - 1 - k) 0 = (ordL l).reverse.getD k 0 := by
   rw [getD_lt 0 (by omega), getD_lt 0 hk, List.getElem_reverse]
  obtain ⟨j, hjl, ej⟩ := hor _ (List.mem_reverse.1 hm)
  unfold f_q17_n4
  rw [e1, decide_eq_true (show (((ordL l).length - 1 - k : Nat) : Int) ≥ 0 by omega), inB_nat (show (ordL l).length - 1 - k < (ordL l).length by omega), toNat_nat, hg, ej]
  simp only [cond_true]
  rw [stail_inner hj hn hjl (by omega) hI]
  congr 2
  show ((((ordL l).length - 1 - k : Nat) : Int) - 1, l, ordL l, tailS l st j) = (_, _, _, _)
  congr 1
  omega
 ·intro _
  show f_q17_n4 ((((ordL l).length : Nat) : Int) - 1 - (((ordL l).reverse.length : Nat) : Int)) l (ordL l) _ = _
  unfold f_q17_n4
  rw [decide_eq_false (by omega), cond_false]
  rfl
noncomputable def stepT (l : List Job) (j : Nat) (st : List Int) (k : Nat) : List Int := cond (waitsB l k j) (st.set j (max (st.getD j 0) (st.getD k 0))) st
theorem stepT_len {l : List Job} {j k : Nat} {st : List Int} : (stepT l j st k).length = st.length := by
 unfold stepT; cases waitsB l k j <;> simp
theorem set_get_ne {α : Type} {st : List α} {j k : Nat} {m d : α} (h : j ≠ k) : (st.set j m).getD k d = st.getD k d := by
 rw [List.getD_eq_getElem?_getD, List.getElem?_set_ne h, List.getD_eq_getElem?_getD]
theorem set_get_eq {α : Type} {st : List α} {j : Nat} {m d : α} (h : j < st.length) : (st.set j m).getD j d = m := by
 rw [List.getD_eq_getElem?_getD, List.getElem?_set_self h]; rfl
theorem fold_stepT {l : List Job} {j : Nat} {st : List Int} (hjl : j < st.length) (h0 : st.getD j 0 = 0) : ∀ (ks : List Nat) (m : Int), 0 ≤ m → ks.foldl (stepT l j) (st.set j m) = st.set j (mostT l st j ks m)
 | [], m, hm => rfl
 | k :: ks, m, hm => by
  unfold mostT
  rw [List.foldl_cons, List.foldl_cons]
  cases hw : waitsB l k j
  ·have e : stepT l j (st.set j m) k = st.set j m := by unfold stepT; rw [hw]; rfl
   rw [e]
   exact fold_stepT hjl h0 ks m hm
  ·have e : stepT l j (st.set j m) k = st.set j (max m (st.getD k 0)) := by
    unfold stepT
    rw [hw, cond_true, set_get_eq hjl, List.set_set]
    by_cases hk : j = k
    ·subst hk
     rw [set_get_eq hjl, h0]
     congr 1; omega
    ·rw [set_get_ne hk]
   rw [e]
   exact fold_stepT hjl h0 ks _ (by omega)
theorem set_same0 {st : List Int} {j : Nat} (h : j < st.length) (h0 : st.getD j 0 = 0) : st.set j 0 = st := by
 rw [getD_lt 0 h] at h0
 rw [← h0]
 exact List.set_getElem_self h
theorem itail_inner {l : List Job} (hj : JobsOK l) (hn : l.length ≤ 12) {rev st : List Int} {m : Int} {o j : Nat} (hjl : j < l.length) (ho : o ≤ 1000) (hst : st.length = l.length) (h0 : st.getD j 0 = 0) :
  f_q23_run7 ((j : Int), m, (o : Int), ((l.length : Nat) : Int), 0, l, st, rev) = some (Sum.inl (m, ((o + 1 : Nat) : Int), l, tailS l st j, rev)) := by
 unfold f_q23_run7
 refine run_countI (step := fun x => f_q23_n7 x.1 x.2.1 x.2.2.1 x.2.2.2.1 x.2.2.2.2.1 x.2.2.2.2.2.1 x.2.2.2.2.2.2.1 x.2.2.2.2.2.2.2) l.length (fun k (s : List Int) => ((j : Int), m, (o : Int), ((l.length : Nat) : Int), (k : Int), l, s, rev)) (stepT l j) (fun _ s => s.length = l.length) _ st (by omega) hst ?_ ?_
 ·intro k s hk hI
  refine ⟨?_, by rw [stepT_len]; exact hI⟩
  show f_q23_n7 j m o (l.length : Nat) k l s rev = _
  unfold f_q23_n7
  rw [lt_true hk, inB_nat hk, toNat_nat, iwaits_eq hj hk, inB_nat (show k < s.length by omega), inB_nat (show j < s.length by omega), toNat_nat, succ64 (by omega)]
  simp only [cond_true, Option.bind]
  unfold stepT
  cases waitsB l k j <;> rfl
 ·intro hI
  have e : (List.range' 0 l.length).foldl (stepT l j) st = st.set j (mostT l st j (List.range' 0 l.length) 0) := by
   have := fold_stepT (l := l) (by omega) h0 (List.range' 0 l.length) 0 (by omega)
   rwa [set_same0 (by omega) h0] at this
  rw [e] at hI ⊢
  show f_q23_n7 j m o (l.length : Nat) (l.length : Nat) l (st.set j (mostT l st j (List.range' 0 l.length) 0)) rev = _
  unfold f_q23_n7
  rw [lt_neg, cond_false, inB_nat (show j < (st.set j (mostT l st j (List.range' 0 l.length) 0)).length by omega), inB_nat hjl, toNat_nat, set_get_eq (by omega), List.set_set, succ64 (by omega)]
  rfl
theorem itails_eq {l : List Job} (hj : JobsOK l) (hn : l.length ≤ 12) : s_q23 l = some (tailL l) := by
 unfold s_q23
 rw [mk_ok _ _ (by omega), cond_true, toNat_nat, iorder_eq hn]
 simp only [Option.bind]
 have hol : (ordL l).length ≤ l.length := ord_len
 have hor : ∀ x ∈ ordL l, ∃ j : Nat, j < l.length ∧ x = (j : Int) := ord_mem
 obtain ⟨done, hoi⟩ := ordL_ok hj hn
 have hr : s_q06 (ordN l l.length 0 []).1 = some (ordL l).reverse := reverse_eq (by show (ordL l).length ≤ 1000000; omega)
 rw [hr]
 dsimp only
 unfold f_q23_run4
 have hrl : (ordL l).reverse.length = (ordL l).length := by simp
 refine run_listI (step := fun x => f_q23_n4 x.1 x.2.1 x.2.2.1 x.2.2.2.1 x.2.2.2.2) (0 : Int) (ordL l).reverse (fun k (st : List Int) => ((((ordL l).reverse.length : Nat) : Int), (k : Int), l, st, (ordL l).reverse)) (tailS l) (fun k st => st.length = l.length ∧ ∀ i, k ≤ i → i < (ordL l).reverse.length → st.getD ((ordL l).reverse.getD i 0).toNat 0 = 0) (tailL l) (List.replicate l.length 0) (by omega) ?_ ?_ ?_
 ·refine ⟨by simp, fun i _ hi => ?_⟩
  have hm : (ordL l).reverse.getD i 0 ∈ ordL l := List.mem_reverse.1 (getD_mem' hi)
  obtain ⟨j, hjl, ej⟩ := hor _ hm
  rw [ej, toNat_nat, getD_lt 0 (by simpa using hjl)]
  simp
 ·intro k st hk hm hI
  obtain ⟨j, hjl, ej⟩ := hor _ (List.mem_reverse.1 hm)
  have h0 : st.getD j 0 = 0 := by
   have := hI.2 k (Nat.le_refl k) hk
   rwa [ej, toNat_nat] at this
  refine ⟨?_, by rw [tailS_len]; exact hI.1, fun i h1 h2 => ?_⟩
  ·show f_q23_n4 (((ordL l).reverse.length : Nat) : Int) k l st (ordL l).reverse = _
   unfold f_q23_n4
   rw [lt_true hk, inB_nat hk, toNat_nat, ej]
   simp only [cond_true]
   rw [itail_inner hj hn hjl (by omega) hI.1 h0]
  ·obtain ⟨i', hil, ei⟩ := hor _ (List.mem_reverse.1 (getD_mem' (d := (0 : Int)) h2))
   have hne : j ≠ i' := by
    intro he
    subst he
    have hnd : (ordL l).reverse.Nodup := List.pairwise_reverse.2 (hoi.nd.imp Ne.symm)
    rw [getD_lt 0 hk] at ej
    rw [getD_lt 0 h2] at ei
    have := (List.getElem_inj (h₀ := hk) (h₁ := h2) hnd).1 (ej.trans ei.symm)
    omega
   have hz := hI.2 i (by omega) h2
   rw [ei, toNat_nat] at hz ⊢
   rw [ej]
   unfold tailS
   rw [toNat_nat, set_get_ne hne]
   exact hz
 ·intro _
  show f_q23_n4 (((ordL l).reverse.length : Nat) : Int) (((ordL l).reverse.length : Nat) : Int) l _ (ordL l).reverse = _
  unfold f_q23_n4
  rw [lt_neg, cond_false]
  rfl
noncomputable def longB (l : List Job) : Int := (tailL l).foldl (fun (m : Int) x => max m x) 0
theorem slong_eq {l : List Job} (hj : JobsOK l) (hn : l.length ≤ 12) (hv : (ordN l l.length 0 []).2 = true) : s_q0m l = some (longB l) := by
 unfold s_q0m
 rw [stails_eq hj hn hv]
 simp only [Option.bind]
 have hl := tailL_len (l := l)
 unfold f_q0m_run4
 refine run_list (step := fun x => f_q0m_n4 x.1 x.2.1 x.2.2) (0 : Int) (tailL l) (fun i (m : Int) => (m, (i : Int), tailL l)) (fun m x => max m x) _ 0 (by omega) ?_ ?_
 ·intro i m hi _
  show f_q0m_n4 m i (tailL l) = _
  unfold f_q0m_n4
  rw [lt_true hi, inB_nat hi, toNat_nat, succ64 (by omega), max_eq]
  rfl
 ·show f_q0m_n4 _ ((tailL l).length : Nat) (tailL l) = _
  unfold f_q0m_n4
  rw [lt_neg, cond_false]; rfl
theorem ilong_eq {l : List Job} (hj : JobsOK l) (hn : l.length ≤ 12) : s_q1c l = some (longB l) := by
 unfold s_q1c
 rw [itails_eq hj hn]
 simp only [Option.bind]
 have hl := tailL_len (l := l)
 unfold f_q1c_run3
 refine run_list (step := fun x => f_q1c_n3 x.1 x.2.1 x.2.2.1 x.2.2.2) (0 : Int) (tailL l) (fun i (m : Int) => (m, (((tailL l).length : Nat) : Int), (i : Int), tailL l)) (fun m x => max m x) _ 0 (by omega) ?_ ?_
 ·intro i m hi _
  show f_q1c_n3 m ((tailL l).length : Nat) i (tailL l) = _
  unfold f_q1c_n3
  rw [lt_true hi, inB_nat hi, toNat_nat, succ64 (by omega)]
  rfl
 ·show f_q1c_n3 _ ((tailL l).length : Nat) ((tailL l).length : Nat) (tailL l) = _
  unfold f_q1c_n3
  rw [lt_neg, cond_false]; rfl
noncomputable def sumD (l : List Job) : Int := l.foldl (fun (m : Int) x => IntKind.wrap .i64 (m + IntKind.wrap .i64 x.1)) 0
noncomputable def boundB (l : List Job) (h : Int) : Int := max (longB l) (IntKind.wrap .i64 (Int.tdiv (IntKind.wrap .i64 ((IntKind.wrap .i64 (sumD l + h)) - 1)) h))
theorem sbound_eq {l : List Job} {h : Int} (hj : JobsOK l) (hn : l.length ≤ 12) (hv : (ordN l l.length 0 []).2 = true) (hh : h ≠ 0) : s_q12 l h = some (boundB l h) := by
 unfold s_q12 f_q12_run3
 refine run_list (step := fun x => f_q12_n3 x.1 x.2.1 x.2.2.1 x.2.2.2) ((0, 0) : Job) l (fun i (m : Int) => (h, m, (i : Int), l)) (fun m x => IntKind.wrap .i64 (m + IntKind.wrap .i64 x.1)) _ 0 (by omega) ?_ ?_
 ·intro i m hi _
  show f_q12_n3 h m i l = _
  unfold f_q12_n3
  rw [lt_true hi, inB_nat hi, toNat_nat, succ64 (by omega)]
  rfl
 ·show f_q12_n3 h (sumD l) (l.length : Nat) l = _
  unfold f_q12_n3
  rw [lt_neg, cond_false, slong_eq hj hn hv, decide_eq_false hh]
  simp only [Option.bind, cond_false, max_eq]
  rfl
theorem ibound_eq {l : List Job} {h : Int} (hj : JobsOK l) (hn : l.length ≤ 12) (hh : h ≠ 0) : s_q21 l h = some (boundB l h) := by
 unfold s_q21 f_q21_run3
 refine run_list (step := fun x => f_q21_n3 x.1 x.2.1 x.2.2.1 x.2.2.2.1 x.2.2.2.2) ((0, 0) : Job) l (fun i (m : Int) => (h, m, ((l.length : Nat) : Int), (i : Int), l)) (fun m x => IntKind.wrap .i64 (m + IntKind.wrap .i64 x.1)) _ 0 (by omega) ?_ ?_
 ·intro i m hi _
  show f_q21_n3 h m (l.length : Nat) i l = _
  unfold f_q21_n3
  rw [lt_true hi, inB_nat hi, toNat_nat, succ64 (by omega)]
  rfl
 ·show f_q21_n3 h (sumD l) (l.length : Nat) (l.length : Nat) l = _
  unfold f_q21_n3
  rw [lt_neg, cond_false, ilong_eq hj hn, decide_eq_false hh]
  rfl
theorem fold_max : ∀ (xs : List Int) (m : Int), m ≤ xs.foldl (fun (m : Int) x => max m x) m ∧ (∀ x ∈ xs, x ≤ xs.foldl (fun (m : Int) x => max m x) m) ∧ (xs.foldl (fun (m : Int) x => max m x) m = m ∨ xs.foldl (fun (m : Int) x => max m x) m ∈ xs)
 | [], m => ⟨by simp, by simp, .inl rfl⟩
 | x :: xs, m => by
  obtain ⟨h1, h2, h3⟩ := fold_max xs (max m x)
  rw [List.foldl_cons]
  refine ⟨by omega, fun y hy => ?_, ?_⟩
  ·rcases List.mem_cons.1 hy with rfl | hy
   ·omega
   ·exact h2 y hy
  ·rcases h3 with h3 | h3
   ·by_cases h : m < x
    ·right
     have : max m x = x := by omega
     rw [h3, this]; simp
    ·left
     rw [h3]; omega
   ·right; exact List.mem_cons_of_mem _ h3
end Go.RR
