/- Plain facts of chains: greatest sums of days; the plain laws of BoundFor and LatestOf. -/
import Derived.Test.YtbmaolhjplapoaaGreatDoorWo
set_option linter.unusedVariables false
set_option linter.unusedSimpArgs false
namespace Go.RR
open Go
theorem shr_bit {x : Int} (hx : 0 ≤ x) {k : Nat} (hk : k < 16) : bShr .u16 x k % 2 = cond (x.toNat.testBit k) 1 0 := by
 unfold bShr
 have hm : min (Int.toNat (k : Int)) IntKind.u16.bits = k := by
  rw [toNat_nat]
  exact Nat.min_eq_left (by show k ≤ 16; omega)
 rw [hm]
 obtain ⟨n, rfl⟩ : ∃ n : Nat, x = (n : Int) := ⟨x.toNat, (Int.toNat_of_nonneg hx).symm⟩
 have hp : (0 : Int) < 2 ^ k := Int.pow_pos (by decide)
 rw [Int.fdiv_eq_ediv_of_nonneg _ (Int.le_of_lt hp), toNat_nat, show ((2 : Int) ^ k) = ((2 ^ k : Nat) : Int) by rw [Int.natCast_pow]; rfl]
 have : ((n : Int) / ((2 ^ k : Nat) : Int)) % 2 = ((n / 2 ^ k % 2 : Nat) : Int) := by omega
 rw [this, Nat.testBit_eq_decide_div_mod_eq]
 by_cases h : n / 2 ^ k % 2 = 1
 ·rw [h, decide_eq_true rfl]; rfl
 ·rw [show n / 2 ^ k % 2 = 0 by omega]; rfl
theorem or_nat {a b : Int} (ha : 0 ≤ a ∧ a ≤ 65535) (hb : 0 ≤ b ∧ b ≤ 65535) : (bOr .u16 a b).toNat = a.toNat ||| b.toNat ∧ 0 ≤ bOr .u16 a b ∧ bOr .u16 a b ≤ 65535 := by
 have e : (BitVec.ofInt IntKind.u16.bits a ||| BitVec.ofInt IntKind.u16.bits b).toNat = a.toNat ||| b.toNat := by
  show (BitVec.ofInt 16 a ||| BitVec.ofInt 16 b).toNat = _
  rw [BitVec.toNat_or, BitVec.toNat_ofInt, BitVec.toNat_ofInt]
  have h1 : (a % ((2 ^ 16 : Nat) : Int)).toNat = a.toNat := by
   have : ((2 ^ 16 : Nat) : Int) = 65536 := rfl
   rw [this]; omega
  have h2 : (b % ((2 ^ 16 : Nat) : Int)).toNat = b.toNat := by
   have : ((2 ^ 16 : Nat) : Int) = 65536 := rfl
   rw [this]; omega
  rw [h1, h2]
 have hlt : a.toNat ||| b.toNat < 2 ^ 16 := Nat.or_lt_two_pow (by show a.toNat < 65536; omega) (by show b.toNat < 65536; omega)
 have hlt : a.toNat ||| b.toNat < 65536 := hlt
 have e2 : bOr .u16 a b = ((a.toNat ||| b.toNat : Nat) : Int) := by
  unfold bOr
  rw [e]
  exact IntWalk.u16_in _ (by omega)
 rw [e2]
 exact ⟨rfl, by omega, by omega⟩
theorem andn_nat {a b : Int} (ha : 0 ≤ a ∧ a ≤ 65535) (hb : 0 ≤ b ∧ b ≤ 65535) (h : bAndNot .u16 a b = 0) {k : Nat} (hk : a.toNat.testBit k = true) : b.toNat.testBit k = true := by
 unfold bAndNot at h
 have hk16 : k < 16 := by
  apply Classical.byContradiction
  intro hge
  have hlt : a.toNat < 2 ^ k := Nat.lt_of_lt_of_le (show a.toNat < 2 ^ 16 by show a.toNat < 65536; omega) (Nat.pow_le_pow_right (by decide) (by omega))
  rw [Nat.testBit_lt_two_pow hlt] at hk
  cases hk
 have hl : (BitVec.ofInt IntKind.u16.bits a &&& ~~~BitVec.ofInt IntKind.u16.bits b).toNat < 65536 := (BitVec.ofInt 16 a &&& ~~~BitVec.ofInt 16 b).isLt
 rw [IntWalk.u16_in _ (by omega)] at h
 have h0 : (BitVec.ofInt 16 a &&& ~~~BitVec.ofInt 16 b).toNat = 0 := by
  have : ((BitVec.ofInt 16 a &&& ~~~BitVec.ofInt 16 b).toNat : Int) = 0 := h
  omega
 have hz : BitVec.ofInt 16 a &&& ~~~BitVec.ofInt 16 b = 0#16 := BitVec.eq_of_toNat_eq h0
 have hb1 : (BitVec.ofInt 16 a &&& ~~~BitVec.ofInt 16 b).getLsbD k = false := by rw [hz]; simp
 rw [BitVec.getLsbD_and, BitVec.getLsbD_not] at hb1
 have g1 : (BitVec.ofInt 16 a).getLsbD k = true := by
  show (BitVec.ofInt 16 a).toNat.testBit k = true
  rw [BitVec.toNat_ofInt]
  have : (a % ((2 ^ 16 : Nat) : Int)).toNat = a.toNat := by
   have : ((2 ^ 16 : Nat) : Int) = 65536 := rfl
   rw [this]; omega
  rw [this]; exact hk
 have g2 : (BitVec.ofInt 16 b).getLsbD k = b.toNat.testBit k := by
  show (BitVec.ofInt 16 b).toNat.testBit k = _
  rw [BitVec.toNat_ofInt]
  have : (b % ((2 ^ 16 : Nat) : Int)).toNat = b.toNat := by
   have : ((2 ^ 16 : Nat) : Int) = 65536 := rfl
   rw [this]; omega
  rw [this]
 rw [g1, g2] at hb1
 simpa [hk16] using hb1
theorem waits_bit {l : List Job} (hj : JobsOK l) {i k : Nat} (hi : i < l.length) (hk : k < 16) : waitsB l i k = (l.getD i (0, 0)).2.toNat.testBit k := by
 unfold waitsB
 rw [shr_bit (after_nn hj hi) hk]
 cases (l.getD i (0, 0)).2.toNat.testBit k <;> rfl
structure OrdI (l : List Job) (done : Int) (out : List Int) : Prop where
 rng : 0 ≤ done ∧ done ≤ 65535
 mem : ∀ x ∈ out, ∃ j : Nat, j < l.length ∧ x = (j : Int)
 bit : ∀ j : Nat, j < 16 → (done.toNat.testBit j = true ↔ (j : Int) ∈ out)
 nd : out.Nodup
 top : ∀ (a b : List Int) (i k : Nat), out = a ++ (i : Int) :: b → i < l.length → waitsB l i k = true → k < 16 → (k : Int) ∈ a
theorem ordI_step {l : List Job} (hj : JobsOK l) (hn : l.length ≤ 12) {done : Int} {out : List Int} (h : OrdI l done out) {j : Nat} (hp : pick l done = some j) : OrdI l (bOr .u16 done (bShl .u16 1 j)) (out ++ [(j : Int)]) := by
 have hjl := pick_lt hp
 obtain ⟨s1, s2, s3⟩ := shl1 (q := j) (by omega)
 have hr : ready l done j = true := by
  have := List.find?_some hp
  exact this
 unfold ready at hr
 have hs : 0 ≤ bShl .u16 1 (j : Int) ∧ bShl .u16 1 (j : Int) ≤ 65535 := by rw [s1]; omega
 obtain ⟨o1, o2, o3⟩ := or_nat h.rng hs
 have hbit : ∀ k, (bOr .u16 done (bShl .u16 1 j)).toNat.testBit k = (done.toNat.testBit k || decide (j = k)) := by
  intro k
  rw [o1, Nat.testBit_or, s1, toNat_nat, Nat.testBit_two_pow]
 have hnb : done.toNat.testBit j = false := by
  rw [shr_bit h.rng.1 (by omega)] at hr
  cases hb : done.toNat.testBit j
  ·rfl
  ·rw [hb] at hr; cases hr
 have hab : bAndNot .u16 (l.getD j (0, 0)).2 done = 0 := by
  cases hb : (bShr .u16 done j % 2 == 0)
  ·rw [hb] at hr; cases hr
  ·rw [hb] at hr
   simpa using hr
 have hnot : (j : Int) ∉ out := fun hm => by
  rw [(h.bit j (by omega)).2 hm] at hnb; cases hnb
 refine ⟨⟨o2, o3⟩, fun x hx => ?_, fun k hk => ?_, ?_, fun a b i k he hi hw hk => ?_⟩
 ·rcases List.mem_append.1 hx with hx | hx
  ·exact h.mem x hx
  ·simp at hx; exact ⟨j, hjl, hx⟩
 ·rw [hbit]
  constructor
  ·intro hb
   rcases Bool.or_eq_true _ _ ▸ hb with hb | hb
   ·exact List.mem_append_left _ ((h.bit k hk).1 hb)
   ·rw [of_decide_eq_true hb]; simp
  ·intro hm
   rcases List.mem_append.1 hm with hm | hm
   ·rw [(h.bit k hk).2 hm]; rfl
   ·have : k = j := by simp at hm; omega
    subst this
    simp
 ·rw [List.nodup_append]
  refine ⟨h.nd, by simp, fun x hx y hy => ?_⟩
  simp at hy
  subst hy
  intro hxy
  subst hxy
  exact hnot hx
 ·rcases List.eq_nil_or_concat b with hb | ⟨b', y, hb⟩
  ·subst hb
   have he' : out ++ [(j : Int)] = a ++ [(i : Int)] := he
   have h1 := (List.append_inj' he' rfl)
   have hij : j = i := by have := h1.2; simp at this; omega
   subst hij
   rw [← h1.1]
   refine (h.bit k hk).1 (andn_nat (hj _ (getD_mem' hjl)).2 h.rng hab ?_)
   rw [← waits_bit hj hjl hk]; exact hw
  ·subst hb
   have he' : out ++ [(j : Int)] = (a ++ (i : Int) :: b') ++ [y] := by rw [he]; simp
   have h1 := (List.append_inj' he' rfl)
   exact h.top a b' i k h1.1 hi hw hk
theorem ordI_all {l : List Job} (hj : JobsOK l) (hn : l.length ≤ 12) : ∀ (k : Nat) (done : Int) (out : List Int), OrdI l done out → ∃ done', OrdI l done' (ordN l k done out).1
 | 0, done, out, h => ⟨done, h⟩
 | k + 1, done, out, h => by
  unfold ordN
  cases hp : pick l done with
  | none => exact ⟨done, h⟩
  | some j => exact ordI_all hj hn k _ _ (ordI_step hj hn h hp)
noncomputable def ordL (l : List Job) : List Int := (ordN l l.length 0 []).1
theorem ordL_ok {l : List Job} (hj : JobsOK l) (hn : l.length ≤ 12) : ∃ done, OrdI l done (ordL l) :=
 ordI_all hj hn l.length 0 [] ⟨by omega, fun x hx => by simp at hx, fun j _ => by simp, by simp, fun a b i k he => by simp at he⟩
theorem getD_lt {α : Type} {l : List α} {i : Nat} (d : α) (h : i < l.length) : l.getD i d = l[i] := by
 rw [List.getD_eq_getElem?_getD, List.getElem?_eq_getElem h]; rfl
noncomputable def revAt (l : List Int) (i : Nat) : List Int := (List.range l.length).map fun k => if k < i ∨ l.length - i ≤ k then l.getD (l.length - 1 - k) 0 else l.getD k 0
theorem revAt_len (l : List Int) (i : Nat) : (revAt l i).length = l.length := by simp [revAt]
theorem revAt_get {l : List Int} {i k : Nat} (h : k < l.length) : (revAt l i).getD k 0 = if k < i ∨ l.length - i ≤ k then l.getD (l.length - 1 - k) 0 else l.getD k 0 := by
 rw [getD_lt 0 (by rw [revAt_len]; exact h)]
 simp [revAt]
theorem revAt_zero (l : List Int) : revAt l 0 = l := by
 apply List.ext_getElem (revAt_len l 0)
 intro k h1 h2
 rw [← getD_lt 0 h1, ← getD_lt 0 h2, revAt_get h2, if_neg (by omega)]
theorem revAt_end (l : List Int) : revAt l (l.length / 2) = l.reverse := by
 apply List.ext_getElem (by rw [revAt_len]; simp)
 intro k h1 h2
 have hk : k < l.length := by simpa using h2
 rw [← getD_lt 0 h1, revAt_get hk, List.getElem_reverse]
 split
 ·rw [getD_lt 0 (by omega)]
 ·have : l.length - 1 - k = k := by omega
  rw [getD_lt 0 hk]
  simp only [this]
theorem reverse_eq {l : List Int} (hn : l.length ≤ 1000000) : s_gReverse_int64 l = some l.reverse := by
 unfold s_gReverse_int64 f_gReverse_int64_run1
 rw [IntWalk.i64_in (((l.length : Nat) : Int) - 1) (by omega)]
 have key := run_count (step := fun x => f_gReverse_int64_n1 x.1 x.2.1 x.2.2) (τ := Unit) (l.length / 2) (fun i _ => ((i : Int), ((l.length : Nat) : Int) - 1 - (i : Int), revAt l i)) (fun _ _ => ()) l.reverse () (by omega) ?_ ?_
 ·have key : iter (fun x => f_gReverse_int64_n1 x.1 x.2.1 x.2.2) FU (((0 : Nat) : Int), ((l.length : Nat) : Int) - 1 - ((0 : Nat) : Int), revAt l 0) = some l.reverse := key
  rw [revAt_zero] at key
  simpa using key
 ·intro i _ hi
  show f_gReverse_int64_n1 i (((l.length : Nat) : Int) - 1 - (i : Int)) (revAt l i) = _
  have e1 : ((l.length : Nat) : Int) - 1 - (i : Int) = ((l.length - 1 - i : Nat) : Int) := by omega
  unfold f_gReverse_int64_n1
  rw [e1, lt_true (show i < l.length - 1 - i by omega), List.length_set, revAt_len, inB_nat (show i < l.length by omega), inB_nat (show l.length - 1 - i < l.length by omega), toNat_nat, toNat_nat, succ64 (by omega), IntWalk.i64_in (((l.length - 1 - i : Nat) : Int) - 1) (by omega)]
  simp only [cond_true]
  have e2 : ((l.length - 1 - i : Nat) : Int) - 1 = ((l.length : Nat) : Int) - 1 - ((i + 1 : Nat) : Int) := by omega
  rw [e2]
  have hA := revAt_get (i := i) (show l.length - 1 - i < l.length by omega)
  have hB := revAt_get (i := i) (show i < l.length by omega)
  rw [if_neg (by omega)] at hA hB
  have e3 : List.set (List.set (revAt l i) i (List.getD (revAt l i) (l.length - 1 - i) 0)) (l.length - 1 - i) (List.getD (revAt l i) i 0) = revAt l (i + 1) := by
   rw [hA, hB]
   apply List.ext_getElem (by rw [List.length_set, List.length_set, revAt_len, revAt_len])
   intro k h1 h2
   have hk : k < l.length := by rw [revAt_len] at h2; exact h2
   rw [List.getElem_set, List.getElem_set, ← getD_lt 0 h2, revAt_get hk]
   by_cases c1 : l.length - 1 - i = k
   ·rw [if_pos c1, if_pos (by omega)]
    congr 1; omega
   ·rw [if_neg c1]
    by_cases c2 : i = k
    ·rw [if_pos c2, if_pos (by omega)]
     congr 1; omega
    ·have hk1 : k < (revAt l i).length := by rw [revAt_len]; exact hk
     rw [if_neg c2, ← getD_lt 0 hk1, revAt_get hk]
     by_cases c3 : k < i ∨ l.length - i ≤ k
     ·rw [if_pos c3, if_pos (by omega)]
     ·rw [if_neg c3, if_neg (by omega)]
  rw [e3]
 ·show f_gReverse_int64_n1 ((l.length / 2 : Nat) : Int) (((l.length : Nat) : Int) - 1 - ((l.length / 2 : Nat) : Int)) (revAt l (l.length / 2)) = _
  unfold f_gReverse_int64_n1
  rw [decide_eq_false (by omega), cond_false, revAt_end]
noncomputable def mostT (l : List Job) (st : List Int) (j : Nat) (ks : List Nat) (m : Int) : Int := ks.foldl (fun m k => cond (waitsB l k j) (max m (st.getD k 0)) m) m
noncomputable def tailS (l : List Job) (st : List Int) (x : Int) : List Int := st.set x.toNat (IntKind.wrap .i64 (mostT l st x.toNat (List.range' 0 l.length) 0 + IntKind.wrap .i64 (l.getD x.toNat (0, 0)).1))
noncomputable def tailL (l : List Job) : List Int := (ordL l).reverse.foldl (tailS l) (List.replicate l.length 0)
theorem tailS_len {l : List Job} {st : List Int} {x : Int} : (tailS l st x).length = st.length := by simp [tailS]
theorem foldT_len {l : List Job} : ∀ (xs : List Int) (st : List Int), (xs.foldl (tailS l) st).length = st.length
 | [], st => rfl
 | x :: xs, st => by rw [List.foldl_cons, foldT_len xs, tailS_len]
theorem tailL_len {l : List Job} : (tailL l).length = l.length := by unfold tailL; rw [foldT_len]; simp
theorem stail_inner {l : List Job} (hj : JobsOK l) (hn : l.length ≤ 12) {ord st : List Int} {o : Int} {j : Nat} (hjl : j < l.length) (ho : -1 ≤ o - 1 ∧ o ≤ 1000) (hst : st.length = l.length) :
  f_q1h_run9 (o, (j : Int), 0, 0, l, ord, st) = some (Sum.inl (o - 1, l, ord, tailS l st j)) := by
 unfold f_q1h_run9
 refine run_count (step := fun x => f_q1h_n9 x.1 x.2.1 x.2.2.1 x.2.2.2.1 x.2.2.2.2.1 x.2.2.2.2.2.1 x.2.2.2.2.2.2) l.length (fun k (m : Int) => (o, (j : Int), m, (k : Int), l, ord, st)) (fun m k => cond (waitsB l k j) (max m (st.getD k 0)) m) _ 0 (by omega) ?_ ?_
 ·intro k m hk
  show f_q1h_n9 o j m k l ord st = _
  unfold f_q1h_n9
  rw [lt_true hk, swaits_eq hj hk (by omega), inB_nat (show k < st.length by omega), toNat_nat, succ64 (by omega), max_eq]
  simp only [cond_true, Option.bind]
  cases waitsB l k j <;> rfl
 ·show f_q1h_n9 o j (mostT l st j (List.range' 0 l.length) 0) (l.length : Nat) l ord st = _
  unfold f_q1h_n9
  rw [lt_neg, cond_false, inB_nat hjl, inB_nat (show j < st.length by omega), toNat_nat, IntWalk.i64_in (o - 1) (by omega)]
  rfl
theorem stails_eq {l : List Job} (hj : JobsOK l) (hn : l.length ≤ 12) (hv : (ordN l l.length 0 []).2 = true) : s_q1h l = some (tailL l) := by
 unfold s_q1h
 rw [sorder_eq hn, hv, cond_true, Option.bind_some]
 rw [mk_ok _ _ (by omega), cond_true, toNat_nat]
 have hol := ord_len (l := l)
 have hor := ord_mem (l := l)
 show f_q1h_run4 (IntKind.wrap .i64 ((((ordL l).length : Nat) : Int) - 1), l, ordL l, List.replicate l.length 0) = _
 have hol : (ordL l).length ≤ l.length := hol
 have hor : ∀ x ∈ ordL l, ∃ j : Nat, j < l.length ∧ x = (j : Int) := hor
 rw [IntWalk.i64_in ((((ordL l).length : Nat) : Int) - 1) (by omega)]
 unfold f_q1h_run4
 have hrl : (ordL l).reverse.length = (ordL l).length := by simp
 have key := run_listI (step := fun x => f_q1h_n4 x.1 x.2.1 x.2.2.1 x.2.2.2) (0 : Int) (ordL l).reverse (fun k (st : List Int) => ((((ordL l).length : Nat) : Int) - 1 - (k : Int), l, ordL l, st)) (tailS l) (fun _ st => st.length = l.length) (tailL l) (List.replicate l.length 0) (by omega) (by simp) ?_ ?_
 ·simpa using key
 ·intro k st hk hm hI
  refine ⟨?_, by rw [tailS_len]; exact hI⟩
  show f_q1h_n4 ((((ordL l).length : Nat) : Int) - 1 - (k : Int)) l (ordL l) st = _
  have hk' : k < (ordL l).length := by omega
  have e1 : (((ordL l).length : Nat) : Int) - 1 - (k : Int) = (((ordL l).length - 1 - k : Nat) : Int) := by omega
  have hg : (ordL l).getD ((ordL l).length - 1 - k) 0 = (ordL l).reverse.getD k 0 := by
   rw [getD_lt 0 (by omega), getD_lt 0 hk, List.getElem_reverse]
  obtain ⟨j, hjl, ej⟩ := hor _ (List.mem_reverse.1 hm)
  unfold f_q1h_n4
  rw [e1, decide_eq_true (show (((ordL l).length - 1 - k : Nat) : Int) ≥ 0 by omega), inB_nat (show (ordL l).length - 1 - k < (ordL l).length by omega), toNat_nat, hg, ej]
  simp only [cond_true]
  rw [stail_inner hj hn hjl (by omega) hI]
  congr 2
  show ((((ordL l).length - 1 - k : Nat) : Int) - 1, l, ordL l, tailS l st j) = (_, _, _, _)
  congr 1
  omega
 ·intro _
  show f_q1h_n4 ((((ordL l).length : Nat) : Int) - 1 - (((ordL l).reverse.length : Nat) : Int)) l (ordL l) _ = _
  unfold f_q1h_n4
  rw [decide_eq_false (by omega), cond_false]
  rfl
noncomputable def stepT (l : List Job) (j : Nat) (st : List Int) (k : Nat) : List Int := cond (waitsB l k j) (st.set j (max (st.getD j 0) (st.getD k 0))) st
theorem stepT_len {l : List Job} {j k : Nat} {st : List Int} : (stepT l j st k).length = st.length := by
 unfold stepT; cases waitsB l k j <;> simp
theorem set_get_ne {α : Type} {st : List α} {j k : Nat} {m d : α} (h : j ≠ k) : (st.set j m).getD k d = st.getD k d := by
 rw [List.getD_eq_getElem?_getD, List.getElem?_set_ne h, List.getD_eq_getElem?_getD]
theorem set_get_eq {α : Type} {st : List α} {j : Nat} {m d : α} (h : j < st.length) : (st.set j m).getD j d = m := by
 rw [List.getD_eq_getElem?_getD, List.getElem?_set_self h]; rfl
theorem fold_stepT {l : List Job} {j : Nat} {st : List Int} (hjl : j < st.length) (h0 : st.getD j 0 = 0) : ∀ (ks : List Nat) (m : Int), 0 ≤ m → ks.foldl (stepT l j) (st.set j m) = st.set j (mostT l st j ks m)
 | [], m, hm => rfl
 | k :: ks, m, hm => by
  unfold mostT
  rw [List.foldl_cons, List.foldl_cons]
  cases hw : waitsB l k j
  ·have e : stepT l j (st.set j m) k = st.set j m := by unfold stepT; rw [hw]; rfl
   rw [e]
   exact fold_stepT hjl h0 ks m hm
  ·have e : stepT l j (st.set j m) k = st.set j (max m (st.getD k 0)) := by
    unfold stepT
    rw [hw, cond_true, set_get_eq hjl, List.set_set]
    by_cases hk : j = k
    ·subst hk
     rw [set_get_eq hjl, h0]
     congr 1; omega
    ·rw [set_get_ne hk]
   rw [e]
   exact fold_stepT hjl h0 ks _ (by omega)
theorem set_same0 {st : List Int} {j : Nat} (h : j < st.length) (h0 : st.getD j 0 = 0) : st.set j 0 = st := by
 rw [getD_lt 0 h] at h0
 rw [← h0]
 exact List.set_getElem_self h
theorem itail_inner {l : List Job} (hj : JobsOK l) (hn : l.length ≤ 12) {rev st : List Int} {m : Int} {o j : Nat} (hjl : j < l.length) (ho : o ≤ 1000) (hst : st.length = l.length) (h0 : st.getD j 0 = 0) :
  f_q26_run7 ((j : Int), m, (o : Int), ((l.length : Nat) : Int), 0, l, st, rev) = some (Sum.inl (m, ((o + 1 : Nat) : Int), l, tailS l st j, rev)) := by
 unfold f_q26_run7
 refine run_countI (step := fun x => f_q26_n7 x.1 x.2.1 x.2.2.1 x.2.2.2.1 x.2.2.2.2.1 x.2.2.2.2.2.1 x.2.2.2.2.2.2.1 x.2.2.2.2.2.2.2) l.length (fun k (s : List Int) => ((j : Int), m, (o : Int), ((l.length : Nat) : Int), (k : Int), l, s, rev)) (stepT l j) (fun _ s => s.length = l.length) _ st (by omega) hst ?_ ?_
 ·intro k s hk hI
  refine ⟨?_, by rw [stepT_len]; exact hI⟩
  show f_q26_n7 j m o (l.length : Nat) k l s rev = _
  unfold f_q26_n7 t_q26_7
  try dsimp (config := {proj := false, iota := false, eta := false}) only
  rw [lt_true hk, inB_nat hk, toNat_nat, iwaits_eq hj hk, inB_nat (show k < s.length by omega), inB_nat (show j < s.length by omega), toNat_nat, succ64 (by omega)]
  simp only [cond_true, Option.bind]
  unfold stepT
  cases waitsB l k j <;> rfl
 ·intro hI
  have e : (List.range' 0 l.length).foldl (stepT l j) st = st.set j (mostT l st j (List.range' 0 l.length) 0) := by
   have := fold_stepT (l := l) (by omega) h0 (List.range' 0 l.length) 0 (by omega)
   rwa [set_same0 (by omega) h0] at this
  rw [e] at hI ⊢
  show f_q26_n7 j m o (l.length : Nat) (l.length : Nat) l (st.set j (mostT l st j (List.range' 0 l.length) 0)) rev = _
  unfold f_q26_n7 t_q26_7
  try dsimp (config := {proj := false, iota := false, eta := false}) only
  rw [lt_neg, cond_false, inB_nat (show j < (st.set j (mostT l st j (List.range' 0 l.length) 0)).length by omega), inB_nat hjl, toNat_nat, set_get_eq (by omega), List.set_set, succ64 (by omega)]
  rfl
theorem itails_eq {l : List Job} (hj : JobsOK l) (hn : l.length ≤ 12) : s_q26 l = some (tailL l) := by
 unfold s_q26 t_q26
 try dsimp (config := {proj := false, iota := false, eta := false}) only
 rw [mk_ok _ _ (by omega), cond_true, toNat_nat, iorder_eq hn]
 simp only [Option.bind]
 have hol : (ordL l).length ≤ l.length := ord_len
 have hor : ∀ x ∈ ordL l, ∃ j : Nat, j < l.length ∧ x = (j : Int) := ord_mem
 obtain ⟨done, hoi⟩ := ordL_ok hj hn
 have hr : s_gReverse_int64 (ordN l l.length 0 []).1 = some (ordL l).reverse := reverse_eq (by show (ordL l).length ≤ 1000000; omega)
 rw [hr]
 dsimp only
 unfold f_q26_run4
 have hrl : (ordL l).reverse.length = (ordL l).length := by simp
 refine run_listI (step := fun x => f_q26_n4 x.1 x.2.1 x.2.2.1 x.2.2.2.1 x.2.2.2.2) (0 : Int) (ordL l).reverse (fun k (st : List Int) => ((((ordL l).reverse.length : Nat) : Int), (k : Int), l, st, (ordL l).reverse)) (tailS l) (fun k st => st.length = l.length ∧ ∀ i, k ≤ i → i < (ordL l).reverse.length → st.getD ((ordL l).reverse.getD i 0).toNat 0 = 0) (tailL l) (List.replicate l.length 0) (by omega) ?_ ?_ ?_
 ·refine ⟨by simp, fun i _ hi => ?_⟩
  have hm : (ordL l).reverse.getD i 0 ∈ ordL l := List.mem_reverse.1 (getD_mem' hi)
  obtain ⟨j, hjl, ej⟩ := hor _ hm
  rw [ej, toNat_nat, getD_lt 0 (by simpa using hjl)]
  simp
 ·intro k st hk hm hI
  obtain ⟨j, hjl, ej⟩ := hor _ (List.mem_reverse.1 hm)
  have h0 : st.getD j 0 = 0 := by
   have := hI.2 k (Nat.le_refl k) hk
   rwa [ej, toNat_nat] at this
  refine ⟨?_, by rw [tailS_len]; exact hI.1, fun i h1 h2 => ?_⟩
  ·show f_q26_n4 (((ordL l).reverse.length : Nat) : Int) k l st (ordL l).reverse = _
   unfold f_q26_n4 t_q26_4
   try dsimp (config := {proj := false, iota := false, eta := false}) only
   rw [lt_true hk, inB_nat hk, toNat_nat, ej]
   simp only [cond_true]
   rw [itail_inner hj hn hjl (by omega) hI.1 h0]
  ·obtain ⟨i', hil, ei⟩ := hor _ (List.mem_reverse.1 (getD_mem' (d := (0 : Int)) h2))
   have hne : j ≠ i' := by
    intro he
    subst he
    have hnd : (ordL l).reverse.Nodup := List.pairwise_reverse.2 (hoi.nd.imp Ne.symm)
    rw [getD_lt 0 hk] at ej
    rw [getD_lt 0 h2] at ei
    have := (List.getElem_inj (h₀ := hk) (h₁ := h2) hnd).1 (ej.trans ei.symm)
    omega
   have hz := hI.2 i (by omega) h2
   rw [ei, toNat_nat] at hz ⊢
   rw [ej]
   unfold tailS
   rw [toNat_nat, set_get_ne hne]
   exact hz
 ·intro _
  show f_q26_n4 (((ordL l).reverse.length : Nat) : Int) (((ordL l).reverse.length : Nat) : Int) l _ (ordL l).reverse = _
  unfold f_q26_n4 t_q26_4
  try dsimp (config := {proj := false, iota := false, eta := false}) only
  rw [lt_neg, cond_false]
  rfl
noncomputable def longB (l : List Job) : Int := (tailL l).foldl (fun (m : Int) x => max m x) 0
theorem slong_eq {l : List Job} (hj : JobsOK l) (hn : l.length ≤ 12) (hv : (ordN l l.length 0 []).2 = true) : s_q0u l = some (longB l) := by
 unfold s_q0u
 rw [stails_eq hj hn hv]
 simp only [Option.bind]
 have hl := tailL_len (l := l)
 unfold f_q0u_run4
 refine run_list (step := fun x => f_q0u_n4 x.1 x.2.1 x.2.2) (0 : Int) (tailL l) (fun i (m : Int) => (m, (i : Int), tailL l)) (fun m x => max m x) _ 0 (by omega) ?_ ?_
 ·intro i m hi _
  show f_q0u_n4 m i (tailL l) = _
  unfold f_q0u_n4
  rw [lt_true hi, inB_nat hi, toNat_nat, succ64 (by omega), max_eq]
  rfl
 ·show f_q0u_n4 _ ((tailL l).length : Nat) (tailL l) = _
  unfold f_q0u_n4
  rw [lt_neg, cond_false]; rfl
theorem ilong_eq {l : List Job} (hj : JobsOK l) (hn : l.length ≤ 12) : s_q1o l = some (longB l) := by
 unfold s_q1o
 rw [itails_eq hj hn]
 simp only [Option.bind]
 have hl := tailL_len (l := l)
 unfold f_q1o_run3
 refine run_list (step := fun x => f_q1o_n3 x.1 x.2.1 x.2.2.1 x.2.2.2) (0 : Int) (tailL l) (fun i (m : Int) => (m, (((tailL l).length : Nat) : Int), (i : Int), tailL l)) (fun m x => max m x) _ 0 (by omega) ?_ ?_
 ·intro i m hi _
  show f_q1o_n3 m ((tailL l).length : Nat) i (tailL l) = _
  unfold f_q1o_n3
  rw [lt_true hi, inB_nat hi, toNat_nat, succ64 (by omega)]
  rfl
 ·show f_q1o_n3 _ ((tailL l).length : Nat) ((tailL l).length : Nat) (tailL l) = _
  unfold f_q1o_n3
  rw [lt_neg, cond_false]; rfl
noncomputable def lateL (l : List Job) (d : Int) : List Int := (tailL l).map fun x => IntKind.wrap .i64 (d - x)
theorem late_get {l : List Job} {d : Int} {i : Nat} (h : i < (tailL l).length) : (lateL l d)[i]? = some (IntKind.wrap .i64 (d - (tailL l).getD i 0)) := by
 unfold lateL
 rw [List.getElem?_map, List.getD_eq_getElem?_getD, List.getElem?_eq_getElem h]; rfl
theorem slate_run {l : List Job} {d : Int} (hn : l.length ≤ 12) : ∀ (k i m : Nat), i + k = l.length → k < m →
  iter (fun x => f_q1d_n8 x.1 x.2.1 x.2.2.1 x.2.2.2.1 x.2.2.2.2) m (d, (i : Int), l, tailL l, (lateL l d).take i) = some (cond ((List.range' i k).all fun i => !(decide (d < (tailL l).getD i 0))) (lateL l d, 0) ([], 6))
 | 0, i, m + 1, hk, hm => by
  obtain rfl : i = l.length := by omega
  unfold iter
  have e : f_q1d_n8 d (l.length : Nat) l (tailL l) ((lateL l d).take l.length) = some (Sum.inr (lateL l d, 0)) := by
   unfold f_q1d_n8
   rw [lt_neg, cond_false, List.take_of_length_le (by simp [lateL, tailL_len])]
  rw [e]; rfl
 | k + 1, i, m + 1, hk, hm => by
  have hl := tailL_len (l := l)
  unfold iter
  have e : f_q1d_n8 d i l (tailL l) ((lateL l d).take i) = some (cond (decide (d < (tailL l).getD i 0)) (Sum.inr ([], 6)) (Sum.inl (d, ((i + 1 : Nat) : Int), l, tailL l, (lateL l d).take (i + 1)))) := by
   unfold f_q1d_n8
   rw [lt_true (show i < l.length by omega), inB_nat (show i < (tailL l).length by omega), toNat_nat, fits_small (by simp [lateL]; omega), succ64 (by omega)]
   simp only [cond_true]
   rw [List.take_add_one, late_get (by omega)]
   cases decide (d < (tailL l).getD i 0) <;> rfl
  rw [e, List.range'_succ, List.all_cons]
  cases decide (d < (tailL l).getD i 0)
  ·exact slate_run hn k (i + 1) m (by omega) (by omega)
  ·rfl
 | _, _, 0, _, hm => by omega
theorem fold_max : ∀ (xs : List Int) (m : Int), m ≤ xs.foldl (fun (m : Int) x => max m x) m ∧ (∀ x ∈ xs, x ≤ xs.foldl (fun (m : Int) x => max m x) m) ∧ (xs.foldl (fun (m : Int) x => max m x) m = m ∨ xs.foldl (fun (m : Int) x => max m x) m ∈ xs)
 | [], m => ⟨by simp, by simp, .inl rfl⟩
 | x :: xs, m => by
  obtain ⟨h1, h2, h3⟩ := fold_max xs (max m x)
  rw [List.foldl_cons]
  refine ⟨by omega, fun y hy => ?_, ?_⟩
  ·rcases List.mem_cons.1 hy with rfl | hy
   ·omega
   ·exact h2 y hy
  ·rcases h3 with h3 | h3
   ·by_cases h : m < x
    ·right
     have : max m x = x := by omega
     rw [h3, this]; simp
    ·left
     rw [h3]; omega
   ·right; exact List.mem_cons_of_mem _ h3
theorem late_all {l : List Job} {d : Int} (hd : 0 ≤ d) : (List.range' 0 l.length).all (fun i => !(decide (d < (tailL l).getD i 0))) = !(decide (longB l > d)) := by
 have hl := tailL_len (l := l)
 rw [← hl, all_getD (0 : Int) (tailL l) fun x => !(decide (d < x))]
 obtain ⟨h1, h2, h3⟩ := fold_max (tailL l) 0
 by_cases h : longB l > d
 ·rw [decide_eq_true h]
  rcases h3 with h3 | h3
  ·exfalso
   have : longB l = 0 := h3
   omega
  ·have : (tailL l).all (fun x => !(decide (d < x))) = false := by
    rw [List.all_eq_false]
    refine ⟨longB l, h3, ?_⟩
    simpa using h
   rw [this]; rfl
 ·rw [decide_eq_false h]
  have : (tailL l).all (fun x => !(decide (d < x))) = true := by
   rw [List.all_eq_true]
   intro x hx
   have := h2 x hx
   have : x ≤ longB l := this
   simp; omega
  rw [this]; rfl
theorem ilate_run {l : List Job} {d : Int} (hn : l.length ≤ 12) : f_q1a_run8 (d, (((tailL l).length : Nat) : Int), 0, [], tailL l) = some (lateL l d, 0) := by
 have hl := tailL_len (l := l)
 unfold f_q1a_run8
 have key := run_count (step := fun x => f_q1a_n8 x.1 x.2.1 x.2.2.1 x.2.2.2.1 x.2.2.2.2) (τ := Unit) (tailL l).length (fun i _ => (d, (((tailL l).length : Nat) : Int), (i : Int), (lateL l d).take i, tailL l)) (fun _ _ => ()) (lateL l d, 0) () (by omega) ?_ ?_
 ·exact key
 ·intro i _ hi
  show f_q1a_n8 d ((tailL l).length : Nat) i ((lateL l d).take i) (tailL l) = _
  unfold f_q1a_n8 t_q1a_8
  try dsimp (config := {proj := false, iota := false, eta := false}) only
  rw [lt_true hi, inB_nat hi, toNat_nat, fits_small (by simp [lateL]; omega), succ64 (by omega)]
  simp only [cond_true]
  rw [List.take_add_one, late_get hi]
  rfl
 ·show f_q1a_n8 d ((tailL l).length : Nat) ((tailL l).length : Nat) ((lateL l d).take (tailL l).length) (tailL l) = _
  unfold f_q1a_n8 t_q1a_8
  try dsimp (config := {proj := false, iota := false, eta := false}) only
  rw [lt_neg, cond_false, List.take_of_length_le (by simp [lateL])]
end Go.RR
namespace Go.RR
open Go
theorem run_find {σ ρ : Type} {step : σ → Option (σ ⊕ ρ)} (N : Nat) (emb : Nat → σ) (q : Nat → Bool) (fin : Option Nat → ρ) (hs : ∀ i, i < N → step (emb i) = some (cond (q i) (.inr (fin (some i))) (.inl (emb (i + 1))))) (he : step (emb N) = some (.inr (fin none))) :
  ∀ (k i m : Nat), i + k = N → k < m → iter step m (emb i) = some (fin ((List.range' i k).find? q))
 | 0, i, m + 1, h, hm => by
  obtain rfl : i = N := h
  unfold iter
  rw [he]; rfl
 | k + 1, i, m + 1, h, hm => by
  rw [List.range'_succ, List.find?_cons]
  unfold iter
  rw [hs i (by omega)]
  cases q i
  ·exact run_find N emb q fin hs he k (i + 1) m (by omega) (by omega)
  ·rfl
 | _, _, 0, _, hm => by omega
noncomputable def dayB (l : List Job) (j : Nat) : Int := (l.getD j (0, 0)).1
theorem valid_days {l : List Job} (hj : JobsOK l) (hv : validB l = true) {j : Nat} (hjl : j < l.length) : 1 ≤ dayB l j ∧ dayB l j ≤ 30 := by
 unfold validB at hv
 simp only [Bool.and_eq_true] at hv
 have := List.all_eq_true.1 hv.2.1 _ (getD_mem' (d := ((0, 0) : Job)) hjl)
 unfold jobP at this
 simp only [Bool.and_eq_true] at this
 have h := this.1
 have hr := (hj _ (getD_mem' (d := ((0, 0) : Job)) hjl)).1
 rw [IntWalk.i64_in (l.getD j (0, 0)).1 (by omega)] at h
 unfold s_q27 at h
 unfold dayB
 cases h1 : decide ((l.getD j (0, 0)).1 ≥ 1)
 ·rw [h1] at h; cases h
 ·rw [h1] at h
  have a := of_decide_eq_true h1
  have b := of_decide_eq_true h
  omega
theorem mostT_ok {l : List Job} {st : List Int} {j : Nat} {B : Int} (hB : ∀ k, 0 ≤ st.getD k 0 ∧ st.getD k 0 ≤ B) : ∀ (ks : List Nat) (m : Int), 0 ≤ m ∧ m ≤ B → (m ≤ mostT l st j ks m ∧ mostT l st j ks m ≤ B) ∧ (mostT l st j ks m = m ∨ ∃ k ∈ ks, waitsB l k j = true ∧ st.getD k 0 = mostT l st j ks m)
 | [], m, h => ⟨⟨Int.le_refl _, h.2⟩, .inl rfl⟩
 | k :: ks, m, h => by
  have hk := hB k
  unfold mostT
  rw [List.foldl_cons]
  cases hw : waitsB l k j
  ·obtain ⟨h1, h2⟩ := mostT_ok hB ks m h
   refine ⟨h1, ?_⟩
   rcases h2 with h2 | ⟨x, hx, q⟩
   ·exact .inl h2
   ·exact .inr ⟨x, List.mem_cons_of_mem _ hx, q⟩
  ·obtain ⟨h1, h2⟩ := mostT_ok (l := l) (j := j) hB ks (max m (st.getD k 0)) (by omega)
   unfold mostT at h1 h2
   rw [cond_true]
   refine ⟨by omega, ?_⟩
   rcases h2 with h2 | ⟨x, hx, q⟩
   ·rcases Int.le_total m (st.getD k 0) with hle | hle
    ·right
     exact ⟨k, by simp, hw, by omega⟩
    ·left; omega
   ·exact .inr ⟨x, List.mem_cons_of_mem _ hx, q⟩
theorem mostT_set {l : List Job} {st : List Int} {i j : Nat} {v : Int} (hw : waitsB l i j = false) : ∀ (ks : List Nat) (m : Int), mostT l (st.set i v) j ks m = mostT l st j ks m
 | [], m => rfl
 | k :: ks, m => by
  unfold mostT
  rw [List.foldl_cons, List.foldl_cons]
  by_cases hk : i = k
  ·subst hk
   rw [hw, cond_false, cond_false]
   exact mostT_set hw ks m
  ·rw [set_get_ne hk]
   exact mostT_set hw ks _
structure TailI (l : List Job) (P : List Int) (st : List Int) : Prop where
 len : st.length = l.length
 rng : ∀ k, 0 ≤ st.getD k 0 ∧ st.getD k 0 ≤ 30 * (P.length : Int)
 zero : ∀ k : Nat, (k : Int) ∉ P → st.getD k 0 = 0
 val : ∀ j : Nat, j < l.length → (j : Int) ∈ P → st.getD j 0 = mostT l st j (List.range' 0 l.length) 0 + dayB l j
theorem tailI_step {l : List Job} (hj : JobsOK l) (hv : validB l = true) {P Q : List Int} {st : List Int} {i : Nat} (he : (ordL l).reverse = P ++ (i : Int) :: Q) (hil : i < l.length) (h : TailI l P st) : TailI l (P ++ [(i : Int)]) (tailS l st i) := by
 obtain ⟨hn, _⟩ := valid_ord hv
 obtain ⟨done, hoi⟩ := ordL_ok hj hn
 have ho : ordL l = Q.reverse ++ (i : Int) :: P.reverse := by
  have : (ordL l).reverse.reverse = (P ++ (i : Int) :: Q).reverse := by rw [he]
  simpa using this
 have hnd := hoi.nd
 rw [ho] at hnd
 have hnw : ∀ j : Nat, j < 16 → (j : Int) ∈ P ∨ j = i → waitsB l i j = false := by
  intro j hj16 hor
  cases hw : waitsB l i j
  ·rfl
  ·exfalso
   have hm := hoi.top Q.reverse P.reverse i j ho hil hw hj16
   rw [List.nodup_append] at hnd
   have := hnd.2.2 _ hm (j : Int) (by
    rcases hor with hp | rfl
    ·exact List.mem_cons_of_mem _ (List.mem_reverse.2 hp)
    ·simp)
   exact this rfl
 have hiP : (i : Int) ∉ P := fun hm => by
  rw [List.nodup_append] at hnd
  have := (List.nodup_cons.1 hnd.2.1).1
  exact this (List.mem_reverse.2 hm)
 have hPl : P.length ≤ 12 := by
  have h1 : (ordL l).reverse.length = (P ++ (i : Int) :: Q).length := by rw [he]
  have h2 := ord_len (l := l)
  have h2 : (ordL l).length ≤ l.length := h2
  simp at h1; omega
 have hd := valid_days hj hv hil
 obtain ⟨⟨m1, m2⟩, _⟩ := mostT_ok (l := l) (j := i) h.rng (List.range' 0 l.length) 0 ⟨Int.le_refl _, by omega⟩
 have hval : IntKind.wrap .i64 (mostT l st i (List.range' 0 l.length) 0 + IntKind.wrap .i64 (l.getD i (0, 0)).1) = mostT l st i (List.range' 0 l.length) 0 + dayB l i := by
  unfold dayB at hd ⊢
  rw [IntWalk.i64_in (l.getD i (0, 0)).1 (by omega), IntWalk.i64_in _ (by omega)]
 have hst : tailS l st i = st.set i (mostT l st i (List.range' 0 l.length) 0 + dayB l i) := by
  unfold tailS
  rw [toNat_nat, hval]
 have hlen : ((P ++ [(i : Int)]).length : Int) = (P.length : Int) + 1 := by simp
 refine ⟨by rw [tailS_len]; exact h.len, fun k => ?_, fun k hk => ?_, fun j hjl hm => ?_⟩
 ·rw [hst, hlen]
  have hk := h.rng k
  by_cases hki : i = k
  ·subst hki
   rw [set_get_eq (by rw [h.len]; exact hil)]
   omega
  ·rw [set_get_ne hki]; omega
 ·rw [hst]
  have hki : i ≠ k := fun e => hk (by rw [e]; simp)
  rw [set_get_ne hki]
  exact h.zero k fun hm => hk (List.mem_append_left _ hm)
 ·rw [hst, mostT_set (hnw j (by omega) (by
   rcases List.mem_append.1 hm with hm | hm
   ·exact .inl hm
   ·right; simp at hm; omega))]
  by_cases hji : i = j
  ·subst hji
   rw [set_get_eq (by rw [h.len]; exact hil)]
  ·rw [set_get_ne hji]
   refine h.val j hjl ?_
   rcases List.mem_append.1 hm with hm | hm
   ·exact hm
   ·exfalso; simp at hm; omega
theorem tailI_all {l : List Job} (hj : JobsOK l) (hv : validB l = true) : ∀ (Q P : List Int) (st : List Int), (ordL l).reverse = P ++ Q → TailI l P st → TailI l ((ordL l).reverse) (Q.foldl (tailS l) st)
 | [], P, st, he, h => by
  rw [List.append_nil] at he
  rw [he]; exact h
 | x :: Q, P, st, he, h => by
  obtain ⟨i, hil, rfl⟩ := ord_mem (l := l) x (List.mem_reverse.1 (by show x ∈ (ordL l).reverse; rw [he]; simp))
  rw [List.foldl_cons]
  exact tailI_all hj hv Q (P ++ [(i : Int)]) _ (by rw [he]; simp) (tailI_step hj hv he hil h)
theorem tailL_ok {l : List Job} (hj : JobsOK l) (hv : validB l = true) : TailI l (ordL l).reverse (tailL l) := by
 refine tailI_all hj hv (ordL l).reverse [] _ rfl ⟨by simp, fun k => ?_, fun k _ => ?_, fun j _ hm => by simp at hm⟩
 ·have : (List.replicate l.length (0 : Int)).getD k 0 = 0 := by
   rw [List.getD_eq_getElem?_getD, List.getElem?_replicate]
   split <;> rfl
  rw [this]; simp
 ·rw [List.getD_eq_getElem?_getD, List.getElem?_replicate]
  split <;> rfl
theorem tail_rng {l : List Job} (hj : JobsOK l) (hv : validB l = true) (k : Nat) : 0 ≤ (tailL l).getD k 0 ∧ (tailL l).getD k 0 ≤ 360 := by
 have h := (tailL_ok hj hv).rng k
 obtain ⟨hn, _⟩ := valid_ord hv
 have h2 : (ordL l).length ≤ l.length := ord_len
 rw [List.length_reverse] at h
 omega
noncomputable def leftB (l : List Job) (j : Nat) : Int := mostT l (tailL l) j (List.range' 0 l.length) 0
theorem tail_val {l : List Job} (hj : JobsOK l) (hv : validB l = true) {j : Nat} (hjl : j < l.length) (h0 : (tailL l).getD j 0 ≠ 0) : (tailL l).getD j 0 = leftB l j + dayB l j := by
 have h := tailL_ok hj hv
 refine h.val j hjl ?_
 apply Classical.byContradiction
 intro hm
 exact h0 (h.zero j hm)
theorem left_ok {l : List Job} (hj : JobsOK l) (hv : validB l = true) (j : Nat) : 0 ≤ leftB l j ∧ (0 < leftB l j → ∃ k, k < l.length ∧ waitsB l k j = true ∧ (tailL l).getD k 0 = leftB l j) := by
 obtain ⟨⟨m1, m2⟩, m3⟩ := mostT_ok (l := l) (j := j) (tail_rng hj hv) (List.range' 0 l.length) 0 (by omega)
 refine ⟨m1, fun hp => ?_⟩
 rcases m3 with m3 | ⟨k, hk, q1, q2⟩
 ·exfalso
  have : leftB l j = 0 := m3
  omega
 ·exact ⟨k, by have := List.mem_range'_1.1 hk; omega, q1, q2⟩
theorem long_ok {l : List Job} (hj : JobsOK l) (hv : validB l = true) : (0 ≤ longB l ∧ longB l ≤ 360) ∧ (0 < longB l → ∃ k, k < l.length ∧ (tailL l).getD k 0 = longB l) := by
 obtain ⟨h1, h2, h3⟩ := fold_max (tailL l) 0
 have hl := tailL_len (l := l)
 have key : longB l = 0 ∨ ∃ k, k < l.length ∧ (tailL l).getD k 0 = longB l := by
  rcases h3 with h3 | h3
  ·exact .inl h3
  ·obtain ⟨k, hk, e⟩ := List.getElem_of_mem h3
   exact .inr ⟨k, by omega, by rw [getD_lt 0 hk]; exact e⟩
 rcases key with e | ⟨k, hk, e⟩
 ·exact ⟨by omega, fun h => by omega⟩
 ·have := tail_rng hj hv k
  exact ⟨by omega, fun _ => ⟨k, hk, e⟩⟩
noncomputable def nextQ (l : List Job) (a left : Int) (k : Nat) : Bool := cond ((tailL l).getD k 0 == left) (cond (decide (a < 0)) true (waitsB l k a.toNat)) false
noncomputable def nextK (l : List Job) (a left : Int) : Option Nat := (List.range' 0 l.length).find? (nextQ l a left)
noncomputable def chainB (l : List Job) : Nat → Int → Int → List Int → List Int
 | 0, a, left, out => out
 | n + 1, a, left, out => cond (decide (left > 0)) (match nextK l a left with | some j => chainB l n j (left - dayB l j) (out ++ [(j : Int)]) | none => out) out
structure ChainI (l : List Job) (a left : Int) : Prop where
 rng : 0 ≤ left ∧ left ≤ 360
 at_ : (a = -1 ∧ left = longB l) ∨ ∃ j : Nat, j < l.length ∧ a = (j : Int) ∧ left = leftB l j
theorem chainI_next {l : List Job} (hj : JobsOK l) (hv : validB l = true) {a left : Int} (h : ChainI l a left) (hp : left > 0) : ∃ j, nextK l a left = some j ∧ j < l.length ∧ ChainI l j (left - dayB l j) ∧ 1 ≤ dayB l j := by
 have hex : ∃ k, k < l.length ∧ nextQ l a left k = true := by
  rcases h.at_ with ⟨rfl, rfl⟩ | ⟨j, hjl, rfl, rfl⟩
  ·obtain ⟨k, hk, e⟩ := (long_ok hj hv).2 hp
   refine ⟨k, hk, ?_⟩
   unfold nextQ
   rw [e]; simp
  ·obtain ⟨k, hk, w, e⟩ := (left_ok hj hv j).2 hp
   refine ⟨k, hk, ?_⟩
   unfold nextQ
   rw [e, dlt0, toNat_nat, w]; simp
 obtain ⟨k, hk, hq⟩ := hex
 cases hf : nextK l a left with
 | none =>
  exfalso
  unfold nextK at hf
  have := List.find?_eq_none.1 hf k (List.mem_range'_1.2 ⟨Nat.zero_le _, by omega⟩)
  exact this hq
 | some j =>
  have h1 : nextQ l a left j = true := by
   unfold nextK at hf
   exact List.find?_some hf
  have hjl : j < l.length := by
   unfold nextK at hf
   have := List.mem_range'_1.1 (List.mem_of_find?_eq_some hf)
   omega
  have hFj : (tailL l).getD j 0 = left := by
   unfold nextQ at h1
   cases he : ((tailL l).getD j 0 == left)
   ·rw [he] at h1; cases h1
   ·simpa using he
  have hd := valid_days hj hv hjl
  have hval := tail_val hj hv hjl (by omega)
  have hl := (left_ok hj hv j).1
  have := h.rng
  exact ⟨j, rfl, hjl, ⟨by omega, .inr ⟨j, hjl, rfl, by omega⟩⟩, hd.1⟩
theorem wsub {l : List Job} (hj : JobsOK l) {j : Nat} (hjl : j < l.length) {left : Int} (h : 0 ≤ left ∧ left ≤ 360) : IntKind.wrap .i64 (left - IntKind.wrap .i64 (l.getD j (0, 0)).1) = left - dayB l j := by
 have := (hj _ (getD_mem' (d := ((0, 0) : Job)) hjl)).1
 unfold dayB
 rw [IntWalk.i64_in (l.getD j (0, 0)).1 (by omega), IntWalk.i64_in _ (by omega)]
theorem schain_run {l : List Job} (hj : JobsOK l) (hv : validB l = true) {A : Int} : ∀ (n m : Nat) (a left : Int) (out : List Int), ChainI l a left → left.toNat ≤ n → n < m → out.length + n ≤ 400 →
  iter (fun x => f_q0j_n8 x.1 x.2.1 x.2.2.1 x.2.2.2.1 x.2.2.2.2.1 x.2.2.2.2.2) m (A, a, left, l, tailL l, out) = some (chainB l n a left out, A, 0)
 | n, m + 1, a, left, out, hI, hl, hm, ho => by
  obtain ⟨hn, _⟩ := valid_ord hv
  have htl := tailL_len (l := l)
  unfold iter
  by_cases hp : left > 0
  ·obtain ⟨j, hf, hjl, hI', hd⟩ := chainI_next hj hv hI hp
   have e : f_q0j_n8 A a left l (tailL l) out = some (Sum.inl (A, (j : Int), left - dayB l j, l, tailL l, out ++ [(j : Int)])) := by
    unfold f_q0j_n8
    rw [decide_eq_true hp, cond_true]
    unfold f_q0j_run10
    have key := run_find (step := fun x => f_q0j_n10 x.1 x.2.1 x.2.2.1 x.2.2.2.1 x.2.2.2.2.1 x.2.2.2.2.2.1 x.2.2.2.2.2.2) l.length (fun k => (A, a, left, (k : Int), l, tailL l, out)) (nextQ l a left)
     (fun o => match o with | some j => Sum.inl (A, (j : Int), left - dayB l j, l, tailL l, out ++ [(j : Int)]) | none => Sum.inl (A, a, left, l, tailL l, out)) ?_ ?_ l.length 0 FU (by omega) (FU_big (pow_big (by omega)))
    ·have key : iter (fun x => f_q0j_n10 x.1 x.2.1 x.2.2.1 x.2.2.2.1 x.2.2.2.2.1 x.2.2.2.2.2.1 x.2.2.2.2.2.2) FU (A, a, left, 0, l, tailL l, out) = some (match nextK l a left with | some j => Sum.inl (A, (j : Int), left - dayB l j, l, tailL l, out ++ [(j : Int)]) | none => Sum.inl (A, a, left, l, tailL l, out)) := key
     rw [hf] at key
     exact key
    ·intro k hk
     show f_q0j_n10 A a left k l (tailL l) out = _
     unfold f_q0j_n10 nextQ
     rw [lt_true hk, inB_nat (show k < (tailL l).length by omega), inB_nat hk, toNat_nat, fits_small (by simp; omega), succ64 (by omega), wsub hj hk hI.rng]
     simp only [cond_true]
     cases (tailL l).getD k 0 == left
     ·rfl
     ·rcases hI.at_ with ⟨rfl, _⟩ | ⟨j0, hj0, rfl, _⟩
      ·rfl
      ·rw [dlt0, swaits_eq hj hk (by omega), toNat_nat]
       simp only [cond_true, cond_false, Option.bind]
       cases waitsB l k j0 <;> rfl
    ·show f_q0j_n10 A a left (l.length : Nat) l (tailL l) out = _
     unfold f_q0j_n10
     rw [lt_neg, cond_false]
   rw [e]
   cases n with
   | zero => omega
   | succ n =>
    unfold chainB
    rw [decide_eq_true hp, cond_true, hf]
    have := hI.rng
    exact schain_run hj hv n m j (left - dayB l j) (out ++ [(j : Int)]) hI' (by omega) (by omega) (by simp; omega)
  ·have e : f_q0j_n8 A a left l (tailL l) out = some (Sum.inr (out, A, 0)) := by
    unfold f_q0j_n8
    rw [decide_eq_false hp, cond_false]
   rw [e]
   cases n with
   | zero => rfl
   | succ n =>
    unfold chainB
    rw [decide_eq_false hp]; rfl
theorem ichain_run {l : List Job} (hj : JobsOK l) (hv : validB l = true) {A : Int} : ∀ (n m : Nat) (a left : Int) (out : List Int), ChainI l a left → left.toNat ≤ n → n < m → out.length + n ≤ 400 →
  iter (fun x => f_q0h_n5 x.1 x.2.1 x.2.2.1 x.2.2.2.1 x.2.2.2.2.1 x.2.2.2.2.2) m (A, l, tailL l, out, left, a) = some (chainB l n a left out, A, 0)
 | n, m + 1, a, left, out, hI, hl, hm, ho => by
  obtain ⟨hn, _⟩ := valid_ord hv
  have htl := tailL_len (l := l)
  unfold iter
  by_cases hp : left > 0
  ·obtain ⟨j, hf, hjl, hI', hd⟩ := chainI_next hj hv hI hp
   have hidx : s_q09 ((List.range' 0 l.length).map fun i : Nat => (i : Int)) (tailL l) left a l = some (j : Int) := by
    unfold s_q09 f_q09_run2
    have hlen : ((List.range' 0 l.length).map fun i : Nat => (i : Int)).length = l.length := by simp
    rw [hlen]
    have key := run_find (step := fun x => f_q09_n2 x.1 x.2.1 x.2.2.1 x.2.2.2.1 x.2.2.2.2.1 x.2.2.2.2.2.1 x.2.2.2.2.2.2) l.length (fun k => (((l.length : Nat) : Int), (k : Int), (List.range' 0 l.length).map (fun i : Nat => (i : Int)), tailL l, left, a, l)) (nextQ l a left)
     (fun o => match o with | some j => (j : Int) | none => -1) ?_ ?_ l.length 0 FU (by omega) (FU_big (pow_big (by omega)))
    ·have key : iter (fun x => f_q09_n2 x.1 x.2.1 x.2.2.1 x.2.2.2.1 x.2.2.2.2.1 x.2.2.2.2.2.1 x.2.2.2.2.2.2) FU (((l.length : Nat) : Int), 0, (List.range' 0 l.length).map (fun i : Nat => (i : Int)), tailL l, left, a, l) = some (match nextK l a left with | some j => (j : Int) | none => -1) := key
     rw [hf] at key
     exact key
    ·intro k hk
     show f_q09_n2 (l.length : Nat) k ((List.range' 0 l.length).map (fun i : Nat => (i : Int))) (tailL l) left a l = _
     unfold f_q09_n2
     have hg : ((List.range' 0 l.length).map fun i : Nat => (i : Int)).getD k 0 = (k : Int) := by
      rw [List.getD_eq_getElem?_getD, List.getElem?_map, List.getElem?_range' hk]
      simp
     have hq : s_q0d k (tailL l) left a l = some (nextQ l a left k) := by
      unfold s_q0d t_q0d nextQ
      try dsimp (config := {proj := false, iota := false, eta := false}) only
      rw [inB_nat (show k < (tailL l).length by omega), inB_nat hk, toNat_nat]
      simp only [cond_true]
      cases (tailL l).getD k 0 == left
      ·rfl
      ·rcases hI.at_ with ⟨rfl, _⟩ | ⟨j0, hj0, rfl, _⟩
       ·rfl
       ·rw [dlt0, iwaits_eq hj hk, toNat_nat]
        rfl
     rw [lt_true hk, hlen, inB_nat hk, toNat_nat, hg, hq, succ64 (by omega)]
     simp only [cond_true, Option.bind]
     cases nextQ l a left k <;> rfl
    ·show f_q09_n2 (l.length : Nat) (l.length : Nat) ((List.range' 0 l.length).map (fun i : Nat => (i : Int))) (tailL l) left a l = _
     unfold f_q09_n2
     rw [lt_neg, cond_false]
   have e : f_q0h_n5 A l (tailL l) out left a = some (Sum.inl (A, l, tailL l, out ++ [(j : Int)], left - dayB l j, (j : Int))) := by
    unfold f_q0h_n5
    rw [decide_eq_true hp, cond_true, indices_eq hn, Option.bind_some, hidx, Option.bind_some, fits_small (by simp; omega), inB_nat hjl, toNat_nat, wsub hj hjl hI.rng]
    rfl
   rw [e]
   cases n with
   | zero => omega
   | succ n =>
    unfold chainB
    rw [decide_eq_true hp, cond_true, hf]
    have := hI.rng
    exact ichain_run hj hv n m j (left - dayB l j) (out ++ [(j : Int)]) hI' (by omega) (by omega) (by simp; omega)
  ·have e : f_q0h_n5 A l (tailL l) out left a = some (Sum.inr (out, A, 0)) := by
    unfold f_q0h_n5
    rw [decide_eq_false hp, cond_false]
   rw [e]
   cases n with
   | zero => rfl
   | succ n =>
    unfold chainB
    rw [decide_eq_false hp]; rfl
theorem chainB_len {l : List Job} : ∀ (n : Nat) (a left : Int) (out : List Int), (chainB l n a left out).length ≤ out.length + n
 | 0, a, left, out => by simp [chainB]
 | n + 1, a, left, out => by
  unfold chainB
  cases decide (left > 0)
  ·show out.length ≤ _; omega
  ·rw [cond_true]
   cases nextK l a left with
   | none => show out.length ≤ _; omega
   | some j =>
    have := chainB_len (l := l) n j (left - dayB l j) (out ++ [(j : Int)])
    simp at this
    dsimp only
    omega
end Go.RR
namespace Go.RR
open Go
abbrev tb (tk : Int) (i : Nat) : Bool := tk.toNat.testBit i
structure TkOK (n : Nat) (tk : Int) : Prop where
 rng : 0 ≤ tk ∧ tk ≤ 65535
 lt : tk.toNat < 2 ^ n
theorem andn_bits {a b : Int} (ha : 0 ≤ a ∧ a ≤ 65535) (hb : 0 ≤ b ∧ b ≤ 65535) : (0 ≤ bAndNot .u16 a b ∧ bAndNot .u16 a b ≤ 65535) ∧ ∀ k, (bAndNot .u16 a b).toNat.testBit k = (a.toNat.testBit k && !b.toNat.testBit k) := by
 have hl : (BitVec.ofInt 16 a &&& ~~~BitVec.ofInt 16 b).toNat < 65536 := (BitVec.ofInt 16 a &&& ~~~BitVec.ofInt 16 b).isLt
 have e : bAndNot .u16 a b = ((BitVec.ofInt 16 a &&& ~~~BitVec.ofInt 16 b).toNat : Int) := by
  unfold bAndNot
  exact IntWalk.u16_in _ (by show (0 : Int) ≤ ((BitVec.ofInt 16 a &&& ~~~BitVec.ofInt 16 b).toNat : Int) ∧ ((BitVec.ofInt 16 a &&& ~~~BitVec.ofInt 16 b).toNat : Int) ≤ 65535; omega)
 rw [e]
 refine ⟨by omega, fun k => ?_⟩
 have ga : ∀ x : Int, 0 ≤ x ∧ x ≤ 65535 → (BitVec.ofInt 16 x).getLsbD k = x.toNat.testBit k := by
  intro x hx
  show (BitVec.ofInt 16 x).toNat.testBit k = _
  rw [BitVec.toNat_ofInt]
  have : (x % ((2 ^ 16 : Nat) : Int)).toNat = x.toNat := by
   have : ((2 ^ 16 : Nat) : Int) = 65536 := rfl
   rw [this]; omega
  rw [this]
 show (BitVec.ofInt 16 a &&& ~~~BitVec.ofInt 16 b).toNat.testBit k = _
 have h1 : (BitVec.ofInt 16 a &&& ~~~BitVec.ofInt 16 b).getLsbD k = ((BitVec.ofInt 16 a).getLsbD k && (decide (k < 16) && !(BitVec.ofInt 16 b).getLsbD k)) := by
  rw [BitVec.getLsbD_and, BitVec.getLsbD_not]
 have h2 : (BitVec.ofInt 16 a &&& ~~~BitVec.ofInt 16 b).toNat.testBit k = (BitVec.ofInt 16 a &&& ~~~BitVec.ofInt 16 b).getLsbD k := rfl
 rw [h2, h1, ga a ha, ga b hb]
 by_cases hk : k < 16
 ·rw [decide_eq_true hk, Bool.true_and]
 ·have hlt : a.toNat < 2 ^ k := Nat.lt_of_lt_of_le (show a.toNat < 2 ^ 16 by show a.toNat < 65536; omega) (Nat.pow_le_pow_right (by decide) (by omega))
  rw [Nat.testBit_lt_two_pow hlt]; rfl
theorem int_bits {a b : Int} (ha : 0 ≤ a) (hb : 0 ≤ b) (h : ∀ k, a.toNat.testBit k = b.toNat.testBit k) : a = b := by
 have : a.toNat = b.toNat := Nat.eq_of_testBit_eq h
 omega
noncomputable def tkI (tk : Int) (i : Nat) : Int := bOr .u16 tk (bShl .u16 1 (i : Int))
theorem two_rng {i : Nat} (hi : i < 12) : (0 ≤ bShl .u16 1 (i : Int) ∧ bShl .u16 1 (i : Int) ≤ 65535) ∧ ∀ k, (bShl .u16 1 (i : Int)).toNat.testBit k = decide (i = k) := by
 obtain ⟨h1, h2, h3⟩ := shl1 hi
 rw [h1]
 exact ⟨by omega, fun k => by rw [toNat_nat, Nat.testBit_two_pow]⟩
theorem tkI_ok {n : Nat} {tk : Int} (h : TkOK n tk) {i : Nat} (hi : i < n) (hn : n ≤ 12) : TkOK n (tkI tk i) ∧ ∀ k, tb (tkI tk i) k = (tb tk k || decide (i = k)) := by
 obtain ⟨r1, r2⟩ := two_rng (show i < 12 by omega)
 obtain ⟨o1, o2, o3⟩ := or_nat h.rng r1
 unfold tkI
 refine ⟨⟨⟨o2, o3⟩, ?_⟩, fun k => ?_⟩
 ·rw [o1]
  refine Nat.or_lt_two_pow h.lt ?_
  rw [(shl1 (show i < 12 by omega)).1, toNat_nat]
  exact Nat.pow_lt_pow_right (by decide) hi
 ·show (bOr .u16 tk (bShl .u16 1 (i : Int))).toNat.testBit k = _
  rw [o1, Nat.testBit_or, r2]
theorem ready_bit {l : List Job} {tk : Int} (h0 : 0 ≤ tk) {i : Nat} (hi : i < 16) (hr : ready l tk i = true) : tb tk i = false := by
 unfold ready at hr
 rw [shr_bit h0 hi] at hr
 cases hb : tk.toNat.testBit i
 ·exact hb
 ·rw [hb] at hr; cases hr
def cntR (tk : Int) : Nat → Nat → Nat
 | _, 0 => 0
 | a, n + 1 => (cond (tb tk a) 0 1) + cntR tk (a + 1) n
theorem cnt_same {tk tk' : Int} : ∀ (n a : Nat), (∀ k, a ≤ k → k < a + n → tb tk' k = tb tk k) → cntR tk' a n = cntR tk a n
 | 0, _, _ => rfl
 | n + 1, a, h => by
  simp only [cntR]
  rw [h a (Nat.le_refl _) (by omega), cnt_same n (a + 1) fun k h1 h2 => h k (by omega) (by omega)]
theorem cnt_step {tk tk' : Int} {i : Nat} (hb : ∀ k, tb tk' k = (tb tk k || decide (i = k))) (h0 : tb tk i = false) : ∀ (n a : Nat), a ≤ i → i < a + n → cntR tk' a n + 1 = cntR tk a n
 | 0, a, h1, h2 => by omega
 | n + 1, a, h1, h2 => by
  simp only [cntR]
  by_cases ha : i = a
  ·subst ha
   have hs := cnt_same (tk := tk) (tk' := tk') n (i + 1) fun k h3 h4 => by rw [hb, decide_eq_false (show ¬ i = k by omega), Bool.or_false]
   rw [hb, h0, decide_eq_true rfl, hs]
   simp only [Bool.false_or, cond_true, cond_false]
   omega
  ·have := cnt_step hb h0 n (a + 1) (by omega) (by omega)
   rw [hb a, decide_eq_false ha, Bool.or_false]
   omega
theorem cnt_zero {tk : Int} : ∀ (n a : Nat), cntR tk a n = 0 ↔ ∀ k, a ≤ k → k < a + n → tb tk k = true
 | 0, a => ⟨fun _ k h1 h2 => by omega, fun _ => rfl⟩
 | n + 1, a => by
  simp only [cntR]
  constructor
  ·intro h k h1 h2
   cases hb : tb tk a
   ·rw [hb] at h; simp only [cond_false] at h; omega
   ·rw [hb] at h
    simp only [cond_true] at h
    by_cases hk : k = a
    ·subst hk; exact hb
    ·exact (cnt_zero n (a + 1)).1 (by omega) k (by omega) (by omega)
  ·intro h
   rw [h a (Nat.le_refl _) (by omega), (cnt_zero n (a + 1)).2 fun k h1 h2 => h k (by omega) (by omega)]
   rfl
end Go.RR
namespace Go.RR
open Go
theorem tb_zero (k : Nat) : tb 0 k = false := by
 show (0 : Int).toNat.testBit k = false
 exact Nat.zero_testBit k
theorem cnt_none : ∀ (n a : Nat), cntR 0 a n = n
 | 0, _ => rfl
 | n + 1, a => by
  simp only [cntR]
  rw [tb_zero, cnt_none n (a + 1), cond_false]; omega
section
variable {l : List Job} {Bg : Int} {n : Nat} (hj : JobsOK l) (hn : l.length ≤ 12) (hB : 0 ≤ Bg ∧ Bg ≤ 20000) (hh : 1 ≤ n ∧ n ≤ 4)
include hj hn hB hh
end
end Go.RR
