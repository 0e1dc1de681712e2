/- The law of jobs: its loops, one by one. No condition but validity. -/
import Derived.Test.YtbmaolhjplapoaaGreatDoorJc
import Derived.Test.YtbmaolhjplapoaaGreatDoorVz
import Derived.Test.YtbmaolhjplapoaaGreatDoorQe
import Derived.Test.YtbmaolhjplapoaaGreatDoorPe
set_option linter.unusedVariables false
set_option linter.unusedSimpArgs false
namespace Go.RR
open Go
def RdyL (l : List Job) : Int → List Int → Prop
 | _, [] => True
 | d, x :: xs => ∃ j : Nat, x = (j : Int) ∧ j < l.length ∧ ready l d j = true ∧ RdyL l (bOr .u16 d (bShl .u16 1 (j : Int))) xs
theorem ordN_rdy (l : List Job) : ∀ (k : Nat) (d : Int) (out : List Int), ∃ xs, (ordN l k d out).1 = out ++ xs ∧ RdyL l d xs
 | 0, d, out => ⟨[], by simp [ordN], trivial⟩
 | k + 1, d, out => by
  unfold ordN
  cases hp : pick l d with
  | none => exact ⟨[], by simp, trivial⟩
  | some j =>
   obtain ⟨xs, h1, h2⟩ := ordN_rdy l k (bOr .u16 d (bShl .u16 1 (j : Int))) (out ++ [(j : Int)])
   exact ⟨(j : Int) :: xs, by dsimp only; rw [h1]; simp, j, rfl, pick_lt hp, by simpa using List.find?_some hp, h2⟩
theorem ordL_rdy (l : List Job) : RdyL l 0 (ordL l) := by
 obtain ⟨xs, h1, h2⟩ := ordN_rdy l l.length 0 []
 have : ordL l = xs := h1
 rw [this]; exact h2
theorem ready_two {l : List Job} {d : Int} {j : Nat} (h : ready l d j = true) : (bShr .u16 d (j : Int)) % 2 = 0 ∧ bAndNot .u16 (l.getD j (0, 0)).2 d = 0 := by
 unfold ready at h
 cases hb : (bShr .u16 d (j : Int) % 2 == 0) with
 | false => rw [hb] at h; cases h
 | true =>
  rw [hb, cond_true] at h
  exact ⟨by simpa using hb, by simpa using h⟩
theorem mid_get {P Q : List Int} {x : Int} : (P ++ x :: Q).getD P.length 0 = x := by
 rw [List.getD_eq_getElem?_getD, List.getElem?_append_right (Nat.le_refl _), Nat.sub_self]; rfl
section
variable {l : List Job} {more due all days links last : List Int} {long : Int}
theorem loop19 (hend : f_q23_run26 (long, 0, more, l, all, days, links, last) = some true) (hl : due.length ≤ 1000) (hn : l.length ≤ 12) : ∀ (Q P : List Int) (d : Int) (m : Nat), due = P ++ Q → RdyL l d Q → 0 ≤ d → Q.length < m →
  iter (fun x => f_q23_n19 x.1 x.2.1 x.2.2.1 x.2.2.2.1 x.2.2.2.2.1 x.2.2.2.2.2.1 x.2.2.2.2.2.2.1 x.2.2.2.2.2.2.2.1 x.2.2.2.2.2.2.2.2.1 x.2.2.2.2.2.2.2.2.2) m (long, d, (P.length : Int), more, l, due, all, days, links, last) = some true
 | [], P, d, m + 1, he, _, _, _ => by
  have e : f_q23_n19 long d (P.length : Int) more l due all days links last = some (Sum.inr true) := by
   unfold f_q23_n19 t_q23_19
   try dsimp (config := {proj := false, iota := false, eta := false}) only
   rw [he, List.append_nil, lt_neg, cond_false, hend]; rfl
  unfold iter
  rw [e]
 | x :: Q, P, d, m + 1, he, hR, hd, hm => by
  obtain ⟨j, rfl, hjl, hr, hR2⟩ := hR
  obtain ⟨r1, r2⟩ := ready_two hr
  have hlt : P.length < due.length := by rw [he]; simp
  have hg : due.getD P.length 0 = (j : Int) := by rw [he]; exact mid_get
  have hs := (shr_range (y := (j : Int)) hd).1
  have hm2 : Q.length + 1 < m + 1 := hm
  have e : f_q23_n19 long d (P.length : Int) more l due all days links last = some (Sum.inl (long, bOr .u16 d (bShl .u16 1 (j : Int)), ((P.length + 1 : Nat) : Int), more, l, due, all, days, links, last)) := by
   unfold f_q23_n19 t_q23_19
   try dsimp (config := {proj := false, iota := false, eta := false}) only
   rw [lt_true hlt, inB_nat hlt, toNat_nat, hg, dlt0, decide_eq_false (show ¬ ((j : Int) ≥ ((List.length l : Nat) : Int)) by omega), toNat_nat, inB_nat hjl, succ64 (by omega)]
   rw [u64n (by omega), dlt0, and1 hs, r1, r2]; rfl
  unfold iter
  rw [e]
  have := loop19 hend hl hn Q (P ++ [(j : Int)]) _ m (by rw [he]; simp) hR2 (wu16 _).1 (by omega)
  rw [List.length_append] at this
  exact this
structure GoodL (l : List Job) (long : Int) (all days last : List Int) : Prop where
 n12 : l.length ≤ 12
 la : all.length = l.length
 ld : days.length = l.length
 ll : last.length = l.length
 lg : 0 ≤ long ∧ long ≤ 1000
 day : ∀ i, i < l.length → 1 ≤ dayB l i ∧ dayB l i ≤ 30
 dd : ∀ i, i < l.length → 0 ≤ days.getD i 0 ∧ days.getD i 0 ≤ 1000 ∧ days.getD i 0 ≤ last.getD i 0 ∧ last.getD i 0 ≤ 1000 ∧ days.getD i 0 + dayB l i ≤ long
 al : ∀ i, i < l.length → 0 ≤ all.getD i 0
 af : ∀ i, i < l.length → bAnd .u16 (all.getD i 0) (l.getD i (0, 0)).2 = (l.getD i (0, 0)).2
 se : ∀ i, i < l.length → (bShr .u16 (all.getD i 0) (i : Int)) % 2 = 0
 an : ∀ i, i < l.length → 0 ≤ (l.getD i (0, 0)).2
 wt : ∀ i k, i < l.length → k < l.length → waitsB l i k = true → days.getD k 0 + dayB l k ≤ days.getD i 0 ∧ last.getD k 0 + dayB l k ≤ last.getD i 0 ∧ bAndNot .u16 (all.getD k 0) (all.getD i 0) = 0
theorem day_in {i : Nat} (h : 1 ≤ dayB l i ∧ dayB l i ≤ 30) {x : Int} (hx : 0 ≤ x ∧ x ≤ 100000) : IntKind.wrap .i64 (x + IntKind.wrap .i64 (l.getD i (0, 0)).1) = x + dayB l i := by
 unfold dayB at h ⊢
 rw [IntWalk.i64_in (l.getD i (0, 0)).1 (by omega), IntWalk.i64_in _ (by omega)]
theorem loop31 (hG : GoodL l long all days last) {i : Nat} (hi : i < l.length) : f_q23_run31 (long, (i : Int), 0, more, l, all, days, links, last) = some (Sum.inl (long, ((i + 1 : Nat) : Int), more, l, all, days, links, last)) := by
 have hn := hG.n12
 unfold f_q23_run31
 refine run_count (step := fun x => f_q23_n31 x.1 x.2.1 x.2.2.1 x.2.2.2.1 x.2.2.2.2.1 x.2.2.2.2.2.1 x.2.2.2.2.2.2.1 x.2.2.2.2.2.2.2.1 x.2.2.2.2.2.2.2.2) (τ := Unit) l.length (fun k _ => (long, (i : Int), (k : Int), more, l, all, days, links, last)) (fun _ _ => ()) _ () (by omega) (fun k _ hk => ?_) ?_
 ·show f_q23_n31 long (i : Int) (k : Int) more l all days links last = some (.inl (long, (i : Int), ((k + 1 : Nat) : Int), more, l, all, days, links, last))
  have hs := (shr_range (y := (k : Int)) (hG.an i hi)).1
  have d1 := hG.dd i hi
  have d2 := hG.dd k hk
  unfold f_q23_n31 t_q23_31
  try dsimp (config := {proj := false, iota := false, eta := false}) only
  rw [lt_true hk, inB_nat hi, u64n (by omega), dlt0, toNat_nat, toNat_nat, and1 hs, succ64 (by omega), hG.ld, hG.ll, hG.la, inB_nat hi, inB_nat hk]
  simp only [cond_true, cond_false]
  have hw : ((bShr .u16 (l.getD i (0, 0)).2 (k : Int)) % 2 == 1) = waitsB l i k := rfl
  rw [hw]
  cases hwk : waitsB l i k with
  | false => rfl
  | true =>
   obtain ⟨w1, w2, w3⟩ := hG.wt i k hi hk hwk
   rw [day_in (hG.day k hk) (by omega), day_in (hG.day k hk) (by omega), decide_eq_false (show ¬ (days.getD i 0 < days.getD k 0 + dayB l k) by omega), decide_eq_false (show ¬ (last.getD i 0 < last.getD k 0 + dayB l k) by omega), w3]
   rfl
 ·show f_q23_n31 long (i : Int) (l.length : Nat) more l all days links last = _
  unfold f_q23_n31 t_q23_31
  try dsimp (config := {proj := false, iota := false, eta := false}) only
  rw [lt_neg, cond_false, succ64 (by omega)]
theorem loop26 (hG : GoodL l long all days last) (hend : f_q23_run37 (long, 0, 0, more, l, all, days, links) = some true) : f_q23_run26 (long, 0, more, l, all, days, links, last) = some true := by
 have hn := hG.n12
 unfold f_q23_run26
 refine run_count (step := fun x => f_q23_n26 x.1 x.2.1 x.2.2.1 x.2.2.2.1 x.2.2.2.2.1 x.2.2.2.2.2.1 x.2.2.2.2.2.2.1 x.2.2.2.2.2.2.2) (τ := Unit) l.length (fun i _ => (long, (i : Int), more, l, all, days, links, last)) (fun _ _ => ()) _ () (by omega) (fun i _ hi => ?_) ?_
 ·show f_q23_n26 long (i : Int) more l all days links last = some (.inl (long, ((i + 1 : Nat) : Int), more, l, all, days, links, last))
  have d1 := hG.dd i hi
  have hs := (shr_range (y := (i : Int)) (hG.al i hi)).1
  unfold f_q23_n26 t_q23_26
  try dsimp (config := {proj := false, iota := false, eta := false}) only
  rw [lt_true hi, hG.ld, hG.ll, hG.la, inB_nat hi, toNat_nat, u64n (by omega), dlt0, day_in (hG.day i hi) (by omega), hG.af i hi, and1 hs, hG.se i hi, loop31 hG hi,
   decide_eq_false (show ¬ (days.getD i 0 < 0) by omega), decide_eq_false (show ¬ (last.getD i 0 < days.getD i 0) by omega), decide_eq_false (show ¬ (days.getD i 0 + dayB l i > long) by omega)]
  have : ((l.getD i (0, 0)).2 != (l.getD i (0, 0)).2) = false := by simp
  rw [this]
  rfl
 ·show f_q23_n26 long (l.length : Nat) more l all days links last = _
  unfold f_q23_n26 t_q23_26
  try dsimp (config := {proj := false, iota := false, eta := false}) only
  rw [lt_neg, cond_false, hend]
  rfl
def ChF (l : List Job) (days : List Int) (long : Int) : Int → Int → List Int → Prop
 | _, own, [] => own = long
 | a, own, x :: xs => ∃ j : Nat, x = (j : Int) ∧ j < l.length ∧ (0 ≤ a → waitsB l j a.toNat = true) ∧ days.getD j 0 = own ∧ ChF l days long (j : Int) (own + dayB l j) xs
theorem loop37 (hG : GoodL l long all days last) (hl : links.length ≤ 1000) (hend : f_q23_n37 long long (links.length : Int) more l all days links = some (Sum.inr true)) : ∀ (Q P : List Int) (a own : Int) (m : Nat), links = P ++ Q → ChF l days long a own Q → ((P = [] ∧ a = -1) ∨ (∃ P', P = P' ++ [a]) ∧ 0 ≤ a ∧ a ≤ 1000) → 0 ≤ own → Q.length < m →
  iter (fun x => f_q23_n37 x.1 x.2.1 x.2.2.1 x.2.2.2.1 x.2.2.2.2.1 x.2.2.2.2.2.1 x.2.2.2.2.2.2.1 x.2.2.2.2.2.2.2) m (long, own, (P.length : Int), more, l, all, days, links) = some true
 | [], P, a, own, m + 1, he, hC, _, _, _ => by
  have hC : own = long := hC
  subst hC
  rw [List.append_nil] at he
  subst he
  unfold iter
  rw [hend]
 | x :: Q, P, a, own, m + 1, he, hC, hP, ho, hm => by
  obtain ⟨j, rfl, hjl, hwt, hdj, hC2⟩ := hC
  have hn := hG.n12
  have d1 := hG.dd j hjl
  have hlt : P.length < links.length := by rw [he]; simp
  have hg : links.getD P.length 0 = (j : Int) := by rw [he]; exact mid_get
  have hm2 : Q.length + 1 < m + 1 := hm
  have hday := hG.day j hjl
  have hne : ((days.getD j 0) != own) = false := by rw [hdj]; simp
  have e : f_q23_n37 long own (P.length : Int) more l all days links = some (Sum.inl (long, own + dayB l j, ((P.length + 1 : Nat) : Int), more, l, all, days, links)) := by
   unfold f_q23_n37 t_q23_37
   try dsimp (config := {proj := false, iota := false, eta := false}) only
   rw [lt_true hlt, inB_nat hlt, toNat_nat, hg, dlt0, decide_eq_false (show ¬ ((j : Int) ≥ ((List.length l : Nat) : Int)) by omega), toNat_nat, inB_nat hjl, succ64 (by omega), hG.ld, inB_nat hjl, hne, day_in hday (by omega)]
   rcases hP with ⟨rfl, _⟩ | ⟨⟨P', rfl⟩, ha, ha2⟩
   ·rw [decide_eq_false (show ¬ (((List.length ([] : List Int) : Nat) : Int) > 0) by simp)]
    rfl
   ·obtain ⟨k, rfl⟩ : ∃ k : Nat, a = k := ⟨a.toNat, by omega⟩
    have hpl : (P' ++ [(k : Int)]).length = P'.length + 1 := by simp
    have hpg : links.getD P'.length 0 = (k : Int) := by
     rw [he, List.append_assoc]; exact mid_get
    have hpi : P'.length < links.length := by omega
    have hw1 : IntKind.wrap .i64 (((P' ++ [(k : Int)]).length : Int) - 1) = (P'.length : Int) := by rw [hpl, IntWalk.i64_in _ (by omega)]; omega
    have hs := (shr_range (y := (k : Int)) (hG.an j hjl)).1
    have hw := hwt ha
    rw [toNat_nat] at hw
    have hw2 : (bShr .u16 (l.getD j (0, 0)).2 (k : Int)) % 2 = 1 := by simpa [waitsB] using hw
    rw [decide_eq_true (show (((P' ++ [(k : Int)]).length : Int) > 0) by rw [hpl]; omega), hw1, toNat_nat, inB_nat hpi, hpg, u64n (by omega), dlt0, and1 hs, hw2]
    rfl
  unfold iter
  rw [e]
  have := loop37 hG hl hend Q (P ++ [(j : Int)]) (j : Int) (own + dayB l j) m (by rw [he]; simp) hC2 (.inr ⟨⟨P, rfl⟩, by omega, by omega⟩) (by omega) (by omega)
  rw [List.length_append] at this
  exact this
end
theorem chain_F {l : List Job} (hj : JobsOK l) (hv : validB l = true) : ∀ (n : Nat) (a left : Int) (out : List Int), ChainI l a left → (0 ≤ a → (earl l (ordL l)).getD a.toNat 0 + dayB l a.toNat = longB l - left) → (a < 0 → left = longB l) → left.toNat ≤ n →
  ∃ xs, chainB l n a left out = out ++ xs ∧ ChF l (earl l (ordL l)) (longB l) a (longB l - left) xs
 | 0, a, left, out, hI, h1, h2, hn => by
  have := hI.rng
  exact ⟨[], by simp [chainB], by show longB l - left = longB l; omega⟩
 | n + 1, a, left, out, hI, h1, h2, hn => by
  have hE := earl_ok hj hv
  unfold chainB
  by_cases hp : left > 0
  ·obtain ⟨j, hf, hjl, hI2, hd⟩ := chainI_next hj hv hI hp
   rw [decide_eq_true hp, cond_true, hf]
   have hq : nextQ l a left j = true := by
    unfold nextK at hf
    exact List.find?_some hf
   unfold nextQ at hq
   have hT : (tailL l).getD j 0 = left := by
    cases he : ((tailL l).getD j 0 == left) with
    | false => rw [he] at hq; cases hq
    | true => simpa using he
   rw [hT, show (left == left) = true by simp, cond_true] at hq
   have htop := hE.top j hjl
   have hge := hE.rng j
   have hwa : 0 ≤ a → waitsB l j a.toNat = true := fun ha => by
    rw [decide_eq_false (show ¬ a < 0 by omega), cond_false] at hq; exact hq
   have hday : (earl l (ordL l)).getD j 0 = longB l - left := by
    by_cases ha : 0 ≤ a
    ·have hw := hwa ha
     have hal : a.toNat < l.length := by
      rcases hI.at_ with ⟨rfl, _⟩ | ⟨k, hk, rfl, _⟩
      ·omega
      ·rw [toNat_nat]; exact hk
     have := hE.ge j hjl (ord_full hj hv hjl) a.toNat hal hw
     have := h1 ha
     omega
    ·have := h2 (by omega)
     omega
   obtain ⟨xs, e1, e2⟩ := chain_F hj hv n (j : Int) (left - dayB l j) (out ++ [(j : Int)]) hI2 (fun _ => by rw [toNat_nat, hday]; omega) (fun h => by omega) (by have := hI2.rng; omega)
   refine ⟨(j : Int) :: xs, by dsimp only; rw [e1]; simp, j, rfl, hjl, hwa, hday, ?_⟩
   rw [show longB l - left + dayB l j = longB l - (left - dayB l j) by omega]
   exact e2
  ·rw [decide_eq_false hp, cond_false]
   have := hI.rng
   exact ⟨[], by simp, by show longB l - left = longB l; omega⟩
theorem good_all {l : List Job} (hj : JobsOK l) (hv : validB l = true) : GoodL l (longB l) (befo l (ordL l)) (earl l (ordL l)) (lateL l (longB l)) := by
 have hn := (valid_ord hv).1
 have hE := earl_ok hj hv
 have hB := befo_ok hj hv
 have hr := (long_ok hj hv).1
 have hlate : ∀ i, i < l.length → (lateL l (longB l)).getD i 0 = longB l - (tailL l).getD i 0 := fun i hi => by
  have ht := tail_rng hj hv i
  rw [List.getD_eq_getElem?_getD, late_get (by rw [tailL_len]; exact hi)]
  exact IntWalk.i64_in _ (by omega)
 refine ⟨hn, befo_len _, earl_len _, by simp [lateL, tailL_len], by omega, fun i hi => valid_days hj hv hi, fun i hi => ?_, fun i hi => (hB.rng i).1, fun i hi => ?_, fun i hi => ?_, fun i hi => (hj _ (getD_mem' (d := ((0, 0) : Job)) hi)).2.1, fun i k hi hk hw => ?_⟩
 ·have h1 := hE.rng i
  have h2 := hE.top i hi
  have h3 := tail_day hj hv hi
  have h4 := day_rng hj hv i
  rw [hlate i hi]
  omega
 ·have ha := (hj _ (getD_mem' (d := ((0, 0) : Job)) hi)).2
  have hb := hB.rng i
  have hbits : ∀ k, k < 16 → bt (l.getD i (0, 0)).2 k = true → bt ((befo l (ordL l)).getD i 0) k = true := fun k hk h => by
   refine befo_has hj hv hi hk ?_
   rw [waits_bit hj hi hk]; exact h
  generalize (l.getD i (0, 0)).2 = A at *
  generalize (befo l (ordL l)).getD i 0 = B at *
  obtain ⟨A, rfl⟩ : ∃ n : Nat, A = n := ⟨A.toNat, by omega⟩
  obtain ⟨B, rfl⟩ : ∃ n : Nat, B = n := ⟨B.toNat, by omega⟩
  unfold bAnd
  have e : (BitVec.ofInt IntKind.u16.bits (B : Int) &&& BitVec.ofInt IntKind.u16.bits (A : Int)).toNat = A := by
   show (BitVec.ofInt 16 (B : Int) &&& BitVec.ofInt 16 (A : Int)).toNat = A
   rw [BitVec.toNat_and, BitVec.toNat_ofInt, BitVec.toNat_ofInt]
   have h65 : ((2 ^ 16 : Nat) : Int) = 65536 := rfl
   rw [h65, show ((B : Int) % 65536).toNat = B by omega, show ((A : Int) % 65536).toNat = A by omega]
   refine Nat.eq_of_testBit_eq fun k => ?_
   rw [Nat.testBit_and]
   cases hq : A.testBit k with
   | false => rw [Bool.and_false]
   | true =>
    have hk : k < 16 := bt_lt (x := (A : Int)) ha (by unfold bt; rw [toNat_nat]; exact hq)
    have := hbits k hk (by unfold bt; rw [toNat_nat]; exact hq)
    unfold bt at this
    rw [toNat_nat] at this
    rw [this]; rfl
  rw [e]
  exact IntWalk.u16_in _ (by omega)
 ·rw [shr_bit (hB.rng i).1 (by omega)]
  have := befo_self hj hv hi
  unfold bt at this
  rw [this]; rfl
 ·have h1 := hE.ge i hi (ord_full hj hv hi) k hk hw
  have h2 := tail_wait hj hv hi hk hw
  rw [hlate i hi, hlate k hk]
  refine ⟨h1, by omega, ?_⟩
  obtain ⟨b1, b2⟩ := andn_bits (hB.rng k) (hB.rng i)
  refine int_bits b1.1 (Int.le_refl _) fun b => ?_
  rw [b2]
  cases hq : ((befo l (ordL l)).getD k 0).toNat.testBit b with
  | false => simp
  | true =>
   have := befo_sub hj hv hi hk hw (bt_lt (hB.rng k) hq) hq
   unfold bt at this
   rw [this]; simp
end Go.RR
namespace Go.RR
open Go
theorem app_left {α : Type} {l : List α} {x d : α} {i : Nat} (h : i < l.length) : (l ++ [x]).getD i d = l.getD i d := by
 rw [List.getD_eq_getElem?_getD, List.getElem?_append_left h, List.getD_eq_getElem?_getD]
theorem app_at {α : Type} {l : List α} {x d : α} : (l ++ [x]).getD l.length d = x := by
 rw [List.getD_eq_getElem?_getD, List.getElem?_append_right (Nat.le_refl _)]; simp
theorem Early.add {l : List Job} (h : Early l) (hl : l.length < 6) {d af : Int} (hd : 1 ≤ d ∧ d ≤ 6) (ha : 0 ≤ af ∧ af ≤ 65535) (hb : ∀ k, af.toNat.testBit k = true → k < l.length) : Early (l ++ [(d, af)]) := by
 have cases : ∀ i, i < (l ++ [(d, af)]).length → i < l.length ∨ i = l.length := fun i hi => by simp at hi; omega
 refine ⟨by simp; omega, fun i hi => ?_, fun i hi => ?_, fun i k hi hk => ?_⟩
 ·rcases cases i hi with e | rfl
  ·rw [app_left e]; exact h.days i e
  ·rw [app_at]; exact hd
 ·rcases cases i hi with e | rfl
  ·rw [app_left e]; exact h.rng i e
  ·rw [app_at]; exact ha
 ·rcases cases i hi with e | rfl
  ·rw [app_left e] at hk; exact h.bits i k e hk
  ·rw [app_at] at hk; exact hb k hk
theorem drawn_inner {a : List Int} (ha : Byt a) {l : List Job} (hl : Early l) (hl6 : l.length < 6) {x0 d : Int} (hx : 1 ≤ x0 ∧ x0 ≤ 6) (hd : 1 ≤ d ∧ d ≤ 6) {m0 : Nat} {sd : Int} (hm : m0 ≤ 1000) :
  ∃ r, f_sl07Drawn_run7 (x0, 0, (m0 : Int), sd, a, l, d, 0) = some r ∧ ∃ (m : Nat) (sd' af : Int), r = .inl (x0 - 1, (m : Int), sd', a, l ++ [(d, af)]) ∧ m ≤ m0 + 20 ∧ Early (l ++ [(d, af)]) := by
 unfold f_sl07Drawn_run7
 refine iter_rest (step := fun x => f_sl07Drawn_n7 x.1 x.2.1 x.2.2.1 x.2.2.2.1 x.2.2.2.2.1 x.2.2.2.2.2.1 x.2.2.2.2.2.2.1 x.2.2.2.2.2.2.2) (fun k s => ∃ (i m : Nat) (sd' af : Int), s = (x0, (i : Int), (m : Int), sd', a, l, d, af) ∧ i + k = l.length ∧ m ≤ m0 + 2 * i ∧ (0 ≤ af ∧ af ≤ 65535) ∧ ∀ q, af.toNat.testBit q = true → q < i) _ ?_ ?_ l.length FU (x0, 0, (m0 : Int), sd, a, l, d, 0) (FU_big (pow_big (by omega))) ⟨0, m0, sd, 0, rfl, by omega, by omega, by omega, fun q hq => by rw [show (0 : Int).toNat = 0 from rfl, Nat.zero_testBit] at hq; cases hq⟩
 ·rintro k s ⟨i, m, sd', af, rfl, h1, h2, h3, h4⟩
  obtain ⟨b, m', s'', e, u1, u2⟩ := one_ok (n := m) (k := 4) (sd := sd') ha (by omega) (by omega)
  obtain ⟨t1, t2⟩ := two_rng (show i < 12 by omega)
  obtain ⟨o1, o2, o3⟩ := or_nat h3 t1
  show ∃ s', f_sl07Drawn_n7 x0 i m sd' a l d af = some (.inl s') ∧ _
  unfold f_sl07Drawn_n7 t_sl07Drawn_7
  try dsimp (config := {proj := false, iota := false, eta := false}) only
  rw [lt_true (show i < l.length by omega), e, u64n (by omega), dlt0, succ64 (by omega)]
  simp only [cond_true, cond_false, Option.bind]
  cases b with
  | false => exact ⟨_, rfl, i + 1, m', s'', af, rfl, by omega, by omega, h3, fun q hq => by have := h4 q hq; omega⟩
  | true =>
   refine ⟨_, rfl, i + 1, m', s'', _, rfl, by omega, by omega, ⟨o2, o3⟩, fun q hq => ?_⟩
   rw [o1, Nat.testBit_or, t2] at hq
   by_cases e2 : i = q
   ·omega
   ·rw [decide_eq_false e2, Bool.or_false] at hq
    have := h4 q hq; omega
 ·rintro s ⟨i, m, sd', af, rfl, h1, h2, h3, h4⟩
  obtain rfl : i = l.length := by omega
  show ∃ r, f_sl07Drawn_n7 x0 (l.length : Nat) m sd' a l d af = some (.inr r) ∧ _
  unfold f_sl07Drawn_n7 t_sl07Drawn_7
  try dsimp (config := {proj := false, iota := false, eta := false}) only
  rw [lt_neg, cond_false, fits_small (by simp; omega), IntWalk.i64_in (x0 - 1) (by omega)]
  exact ⟨_, rfl, m, sd', af, rfl, by omega, hl.add hl6 hd h3 h4⟩
structure DrawnJ (l : List Job) : Prop where
 ok : JobsOK l
 valid : validB l = true
 len : l.length ≤ 6
theorem jobs_drawn {a : List Int} (ha : Byt a) : ∃ l, s_q1z a = some l ∧ DrawnJ l := by
 unfold s_q1z s_sl07Drawn t_sl07Drawn
 try dsimp (config := {proj := false, iota := false, eta := false}) only
 obtain ⟨x, m, sd, e, _, hx, _, hm⟩ := pick_ok (n := 0) (k := 7) (sd := 0) ha (by omega) (by omega)
 have hx := hx (by omega)
 have e : s_sl00Src_pick (IntKind.wrap .i64 (6 + 1)) (s_sl00From a).1 (s_sl00From a).2 a = some (x, (m : Int), sd) := e
 rw [e]
 simp only [Option.bind]
 have key : ∃ r, f_sl07Drawn_run3 (x, (m : Int), sd, a, []) = some r ∧ DrawnJ r.2.2 := by
  unfold f_sl07Drawn_run3
  refine iter_rest (step := fun x => f_sl07Drawn_n3 x.1 x.2.1 x.2.2.1 x.2.2.2.1 x.2.2.2.2) (fun k s => ∃ (m : Nat) (sd : Int) (l : List Job), s = ((k : Int), (m : Int), sd, a, l) ∧ l.length + k ≤ 6 ∧ m ≤ 2 + 30 * l.length ∧ Early l) _ ?_ ?_ x.toNat FU (x, (m : Int), sd, a, []) (FU_big (pow_big (by omega))) ⟨m, sd, [], by rw [Int.toNat_of_nonneg hx.1], by show 0 + x.toNat ≤ 6; omega, by show m ≤ 2 + 30 * 0; omega, ⟨by show 0 ≤ 6; omega, fun i hi => (nomatch hi), fun i hi => (nomatch hi), fun i k hi => (nomatch hi)⟩⟩
  ·rintro k s ⟨m, sd, l, rfl, h1, h2, h3⟩
   obtain ⟨y, m1, sd1, e1, _, hy, _, hm1⟩ := pick_ok (n := m) (k := 6) (sd := sd) ha (by omega) (by omega)
   have hy := hy (by omega)
   show ∃ s', f_sl07Drawn_n3 ((k + 1 : Nat) : Int) m sd a l = some (.inl s') ∧ _
   unfold f_sl07Drawn_n3 t_sl07Drawn_3
   try dsimp (config := {proj := false, iota := false, eta := false}) only
   rw [decide_eq_true (show ((k + 1 : Nat) : Int) > 0 by omega), e1]
   simp only [cond_true, Option.bind]
   rw [IntWalk.i64_in (1 + y) (by omega), IntWalk.i8_in (1 + y) (by omega)]
   obtain ⟨r, q1, m2, sd2, af, rfl, q2, q3⟩ := drawn_inner ha h3 (by omega) (x0 := ((k + 1 : Nat) : Int)) (d := 1 + y) (by omega) (by omega) (m0 := m1) (sd := sd1) (by omega)
   rw [q1]
   refine ⟨_, rfl, m2, sd2, _, ?_, by simp; omega, by simp; omega, q3⟩
   rw [show ((k + 1 : Nat) : Int) - 1 = (k : Int) by omega]
  ·rintro s ⟨m, sd, l, rfl, h1, h2, h3⟩
   have hz : ∀ (z : Int × Int × List Job), z.2.2 = l → ∃ r, (some (Sum.inr z) : Option ((Int × Int × Int × List Int × List Job) ⊕ (Int × Int × List Job))) = some (.inr r) ∧ DrawnJ r.2.2 := fun z e => ⟨z, rfl, by rw [e]; exact ⟨h3.ok, h3.valid, h3.len⟩⟩
   show ∃ r, f_sl07Drawn_n3 ((0 : Nat) : Int) m sd a l = some (.inr r) ∧ _
   unfold f_sl07Drawn_n3 t_sl07Drawn_3
   try dsimp (config := {proj := false, iota := false, eta := false}) only
   rw [show decide (((0 : Nat) : Int) > 0) = false from rfl, cond_false]
   by_cases hn : ((l.length : Nat) : Int) > 1
   ·rw [decide_eq_true hn, cond_true]
    obtain ⟨b, m1, sd1, e1, _, u1⟩ := one_ok (n := m) (k := 3) (sd := sd) ha (by omega) (by omega)
    rw [e1]
    simp only [Option.bind]
    cases b with
    | false => exact hz _ rfl
    | true =>
     obtain ⟨y, m2, sd2, e2, _, hy, _, hm2⟩ := pick_ok (n := m1) (k := ((l.length : Nat) : Int)) (sd := sd1) ha (by omega) (by omega)
     have hy := hy (by omega)
     obtain ⟨z, m3, sd3, e3, _, hz2, _, hm3⟩ := pick_ok (n := m2) (k := ((l.length : Nat) : Int)) (sd := sd2) ha (by omega) (by omega)
     have hz2 := hz2 (by omega)
     rw [cond_true, e2]
     dsimp only
     rw [fits_small (by simp; omega), List.nil_append, inB_of hy, e3, cond_true, cond_true]
     dsimp only
     rw [cond_true, IntWalk.u64_in z (by omega), decide_eq_false (show ¬ z < 0 by omega), cond_false]
     have hlen : (l.set y.toNat ((l.getD y.toNat ((0, 0) : Int × Int)).1, bXor .u16 (l.getD y.toNat ((0, 0) : Int × Int)).2 (bShl .u16 1 z))).length = l.length := List.length_set
     rw [sok_eq _ (by rw [hlen]; omega)]
     dsimp only
     cases hv : validB (l.set y.toNat ((l.getD y.toNat ((0, 0) : Int × Int)).1, bXor .u16 (l.getD y.toNat ((0, 0) : Int × Int)).2 (bShl .u16 1 z))) with
     | false => exact hz _ rfl
     | true =>
      refine ⟨_, rfl, ⟨fun x hx => ?_, hv, by show (l.set _ _).length ≤ 6; rw [hlen]; omega⟩⟩
      rcases List.mem_or_eq_of_mem_set hx with hx | rfl
      ·exact h3.ok x hx
      ·have := h3.days y.toNat (by omega)
       refine ⟨by show -128 ≤ (l.getD y.toNat ((0, 0) : Int × Int)).1 ∧ (l.getD y.toNat ((0, 0) : Int × Int)).1 ≤ 127; omega, ?_⟩
       exact wu16 _
   ·rw [decide_eq_false hn]
    exact hz _ rfl
 obtain ⟨r, e1, e2⟩ := key
 rw [e1]
 exact ⟨_, rfl, e2⟩
end Go.RR
namespace Go.RR
open Go
theorem at_ok {a : List Int} (ha : Byt a) {i : Int} (hi : 0 ≤ i) {k : Nat} (hk : 1 ≤ k) (hk2 : k ≤ 1000) : ∃ r : Nat, s_q2b a i (k : Int) = some (r : Int) ∧ r < k := by
 unfold s_q2b
 by_cases h : i ≥ ((a.length : Nat) : Int)
 ·exact ⟨0, by rw [decide_eq_true h]; rfl, by omega⟩
 ·rw [decide_eq_false h, cond_false, decide_eq_false (show ¬ ((k : Int) < 1) by omega), cond_false]
  obtain ⟨j, rfl⟩ : ∃ j : Nat, i = j := ⟨i.toNat, by omega⟩
  rw [inB_nat (by omega), cond_true, decide_eq_false (show ¬ ((k : Int) = 0) by omega), cond_false, toNat_nat]
  have hb := ha.2 _ (getD_mem' (d := (0 : Int)) (show j < a.length by omega))
  obtain ⟨b, e⟩ : ∃ b : Nat, a.getD j 0 = b := ⟨(a.getD j 0).toNat, by omega⟩
  rw [e, IntWalk.i64_in _ (by omega)]
  exact ⟨b % k, rfl, Nat.mod_lt _ (by omega)⟩
structure TailOK (more : List Int) : Prop where
 ok : ∃ (pic : Int × Int × (Nat → Int)) (k : Int) (F : List Job × Int), s_q13 more = some pic ∧ s_q2b more 2 5 = some k ∧ s_q1k pic.1 pic.2.1 pic.2.2 (IntKind.wrap .i64 (1 + k)) = some F ∧ s_q1r pic.1 pic.2.1 pic.2.2 (IntKind.wrap .i64 (1 + k)) = some F ∧ F.1.length ≤ 1000000 ∧ ((F.2 = 0 ∧ validB F.1 = true) ∨ F.2 = 3)
theorem tail_all {more : List Int} (h : TailOK more) {R : Type} (E : Bool → Option R) :
  (Option.bind (s_q13 more) fun r31 => (Option.bind (s_q2b more 2 5) fun r32 => (Option.bind (s_q1k (r31.1) (r31.2.1) (r31.2.2) (IntKind.wrap .i64 (1 + r32))) fun r33 => (Option.bind (s_q1r (r31.1) (r31.2.1) (r31.2.2) (IntKind.wrap .i64 (1 + r32))) fun r34 => (cond (r33.2 != r34.2) (E false) (Option.bind (s_q0s (r33.1) (r34.1)) fun r35 => (cond (!r35) (E false) (cond (r33.2 != 0) (E (r33.2 == 3)) (Option.bind (s_q12 (r34.1)) fun r36 => (E r36)))))))))) = E true := by
 obtain ⟨pic, k, F, h1, h2, h3, h4, h5, h6⟩ := h.ok
 rw [h1, h2]
 simp only [Option.bind_some]
 rw [h3, h4]
 simp only [Option.bind_some]
 rw [same_jobs _ h5]
 have hne : (F.2 != F.2) = false := by simp
 rw [hne]
 simp only [Option.bind_some, Bool.not_true, cond_false]
 rcases h6 with ⟨h6, h7⟩ | h6
 ·rw [h6, iok_eq _ (by omega), h7]; rfl
 ·rw [h6]; rfl
theorem rest37 {l : List Job} (hj : JobsOK l) (hv : validB l = true) {more links : List Int} (hm : Byt more) (hT : TailOK more) : f_q23_n37 (longB l) (longB l) (links.length : Int) more l (befo l (ordL l)) (earl l (ordL l)) links = some (Sum.inr true) := by
 obtain ⟨hn, _⟩ := valid_ord hv
 have hr := (long_ok hj hv).1
 have hne : (longB l != longB l) = false := by simp
 unfold f_q23_n37 t_q23_37
 try dsimp (config := {proj := false, iota := false, eta := false}) only
 rw [lt_neg, cond_false, hne, cond_false]
 by_cases h0 : l.length = 0
 ·rw [h0, decide_eq_false (show ¬ (((0 : Nat) : Int) > 0) by omega), cond_false]
  exact tail_all hT fun v => some (Sum.inr v)
 ·have hl0 : 0 < l.length := by omega
  have hlong : 0 < longB l := by
   have h1 := tail_day hj hv hl0
   have h2 := valid_days hj hv hl0
   omega
  obtain ⟨v, hl1, hl2⟩ := late_no hj hv hlong
  obtain ⟨q, hq1, hq⟩ := at_ok hm (i := 0) (by decide) (k := l.length) hl0 (by omega)
  obtain ⟨p, hp1, hp⟩ := at_ok hm (i := 1) (by decide) (k := l.length) hl0 (by omega)
  obtain ⟨dr1, dr2⟩ := drops_eq hj hv hq
  obtain ⟨ch1, ch2⟩ := chained_eq hj hv hq hp
  obtain ⟨dv1, dv2⟩ := drop_valid hj hv hq
  have dlen := dropL_len' hq
  have hB := befo_ok hj hv
  rw [decide_eq_true (show (((List.length l : Nat) : Int) > 0) by omega), cond_true, IntWalk.i64_in (longB l - 1) (by omega), hl1, hq1, hp1]
  simp only [Option.bind_some]
  rw [dr1, dr2, ch1, ch2]
  simp only [Option.bind_some]
  rw [hl2, show ((6 : Int) != 6) = false from rfl, show ((0 : Int) != 0) = false from rfl, same_jobs _ (by omega), iok_eq _ (by omega), dv2]
  simp only [Option.bind_some, Bool.not_true, cond_false]
  rw [dlen, IntWalk.i64_in (((List.length l : Nat) : Int) - 1) (by omega), show ((((l.length - 1 : Nat) : Int)) != ((l.length : Nat) : Int) - 1) = false by simp; omega, cond_false]
  obtain ⟨C, hC⟩ : ∃ C, cond (validB (chainL l q p)) (chainL l q p, (0 : Int)) ([], 4) = C := ⟨_, rfl⟩
  rw [hC]
  have hCl : C.1.length ≤ 1000000 := by
   rw [← hC]
   have := chain_len (l := l) (q := q) (p := p)
   cases validB (chainL l q p)
   ·simp
   ·show (chainL l q p).length ≤ 1000000; omega
  have hne2 : (C.2 != C.2) = false := by simp
  rw [hne2, same_jobs _ hCl]
  simp only [Option.bind_some, Bool.not_true, cond_false]
  by_cases e : q = p
  ·subst e
   rw [show ((q : Int) != (q : Int)) = false by simp, cond_false]
   rw [chain_no hj hv hq hp (.inl rfl)] at hC
   have hC2 : C.2 = 4 := by rw [← hC]; rfl
   rw [hC2, show (!(((4 : Int) == 0) == false)) = false from rfl, cond_false]
   exact tail_all hT fun v => some (Sum.inr v)
  ·rw [show ((q : Int) != (p : Int)) = true by simp; omega, cond_true, hB.len, inB_nat hq, cond_true, u64n (by omega), dlt0, cond_false, toNat_nat, and1 (shr_range (hB.rng q).1).1, shr_bit (hB.rng q).1 (by omega)]
   cases hb : ((befo l (ordL l)).getD q 0).toNat.testBit p with
   | false =>
    rw [chain_yes hj hv hq hp e hb] at hC
    have hC2 : C.2 = 0 := by rw [← hC]; rfl
    rw [hC2, cond_false, show (!(((0 : Int) == 0) == ((0 : Int) == 0))) = false from rfl, cond_false]
    exact tail_all hT fun v => some (Sum.inr v)
   | true =>
    rw [chain_no hj hv hq hp (.inr hb)] at hC
    have hC2 : C.2 = 4 := by rw [← hC]; rfl
    rw [hC2, cond_true, show (!(((4 : Int) == 0) == ((1 : Int) == 0))) = false from rfl, cond_false]
    exact tail_all hT fun v => some (Sum.inr v)
theorem law_part {a more : List Int} (ha : Byt a) (hm : Byt more) (hT : TailOK more) (hR : ∀ l, s_q1z a = some l → DrawnJ l → ∃ z, s_q19 l = some z ∧ s_q1b z = some (l, 0)) (hL : s_q24 a more = false) : s_q23 a more = some true := by
 obtain ⟨l, hd, hD⟩ := jobs_drawn ha
 obtain ⟨z, hz1, hz2⟩ := hR l hd hD
 have hj := hD.ok
 have hv := hD.valid
 obtain ⟨hn, _⟩ := valid_ord hv
 obtain ⟨o1, o2⟩ := orders_eq hj hv
 obtain ⟨b1, b2⟩ := befores_eq hj hv
 obtain ⟨e1, e2⟩ := early_eq hj hv
 obtain ⟨c1, c2⟩ := chains_eq hj hv
 obtain ⟨t1, t2⟩ := late_eq hj hv
 have hr := (long_ok hj hv).1
 have hcl := chainB_len (l := l) 360 (-1) (longB l) []
 have hol := ordL_len hv
 have hG := good_all hj hv
 obtain ⟨xs, x1, x2⟩ := chain_F hj hv 360 (-1) (longB l) [] ⟨hr, .inl ⟨rfl, rfl⟩⟩ (fun h => by omega) (fun _ => rfl) (by omega)
 have hlinks : (chainB l 360 (-1) (longB l) []).length ≤ 1000 := by simp at hcl; omega
 have hrest := rest37 hj hv (links := chainB l 360 (-1) (longB l) []) hm hT
 have h37 : f_q23_run37 (longB l, 0, 0, more, l, befo l (ordL l), earl l (ordL l), chainB l 360 (-1) (longB l) []) = some true := by
  have := loop37 hG hlinks hrest xs [] (-1) 0 FU (by rw [x1]) (by rw [Int.sub_self] at x2; exact x2) (.inl ⟨rfl, rfl⟩) (Int.le_refl _) (FU_big (pow_big (by rw [x1] at hlinks; simp at hlinks; omega)))
  exact this
 have h26 := loop26 (links := chainB l 360 (-1) (longB l) []) hG h37
 have h19 : f_q23_run19 (longB l, 0, 0, more, l, ordL l, befo l (ordL l), earl l (ordL l), chainB l 360 (-1) (longB l) [], lateL l (longB l)) = some true :=
  loop19 h26 (by omega) hn (ordL l) [] 0 FU rfl (ordL_rdy l) (Int.le_refl _) (FU_big (pow_big (by omega)))
 have q1 := befo_len (l := l) (ordL l)
 have q2 := earl_len (l := l) (ordL l)
 have q3 : (lateL l (longB l)).length = l.length := by simp [lateL, tailL_len]
 unfold s_q23 t_q23
 try dsimp (config := {proj := false, iota := false, eta := false}) only
 rw [hL, cond_false, hd]
 simp only [Option.bind_some]
 rw [hz1, o1, o2, b1, b2, e1, e2, c1, c2]
 simp only [Option.bind_some]
 rw [hz2, t1, t2]
 simp only [Option.bind_some]
 rw [same_jobs _ (by omega), iok_eq _ (by omega), hv, same_ints _ (by omega), same_bits _ (by omega), same_ints _ (by omega), same_ints _ (by omega), same_ints _ (by omega)]
 have z1 : ((0 : Int) != 0) = false := rfl
 have z2 : (longB l != longB l) = false := by simp
 have z3 : (((List.length (ordL l) : Nat) : Int) != ((List.length l : Nat) : Int)) = false := by rw [hol]; simp
 rw [z1, z2, z3]
 simp only [Option.bind_some, Bool.not_true, cond_false]
 exact h19
end Go.RR
namespace Go.RR
open Go
theorem jobsG_get {D M : Nat → Int} : ∀ (k i : Nat) (out : List (Int × Int)), (jobsG D M k i out).2 = 3 ∨ ((jobsG D M k i out).2 = 0 ∧ (jobsG D M k i out).1 = out ++ (List.range' i k).map (fun j => (IntKind.wrap .i8 (D j), M j)) ∧ ∀ j, i ≤ j → j < i + k → D j ≤ 30)
 | 0, i, out => .inr ⟨rfl, by simp [jobsG], fun j h1 h2 => by omega⟩
 | k + 1, i, out => by
  unfold jobsG
  by_cases h : D i > 30
  ·rw [decide_eq_true h]; exact .inl rfl
  ·rw [decide_eq_false h, cond_false]
   rcases jobsG_get (D := D) (M := M) k (i + 1) (out ++ [(IntKind.wrap .i8 (D i), M i)]) with h1 | ⟨h1, h2, h3⟩
   ·exact .inl h1
   ·refine .inr ⟨h1, by rw [h2, List.range'_succ]; simp, fun j q1 q2 => ?_⟩
    by_cases e : j = i
    ·subst e; omega
    ·exact h3 j (by omega) (by omega)
theorem days_pos {n : Nat} {d : Int} (hn : 1 ≤ n) (hn2 : n ≤ 1000) (hd : 1 ≤ d ∧ d ≤ 144) : 1 ≤ daysOf n d ∧ daysOf n d ≤ 2000 := by
 obtain ⟨k, rfl⟩ : ∃ k : Nat, d = k := ⟨d.toNat, by omega⟩
 unfold daysOf
 rw [IntWalk.i64_in ((n : Int) + (k : Int)) (by omega), IntWalk.i64_in ((n : Int) + (k : Int) - 1) (by omega)]
 have e : Int.tdiv ((n : Int) + (k : Int) - 1) (k : Int) = (((n + k - 1) / k : Nat) : Int) := by
  rw [show (n : Int) + (k : Int) - 1 = ((n + k - 1 : Nat) : Int) by omega]; rfl
 rw [e]
 have h1 : 1 ≤ (n + k - 1) / k := by
  rw [Nat.le_div_iff_mul_le (by omega)]; omega
 have h2 : (n + k - 1) / k ≤ n + k - 1 := Nat.div_le_self _ _
 rw [IntWalk.i64_in _ (by omega)]
 omega
theorem jobs_valid {w h : Nat} (hw : w ≤ 12) (hh : h ≤ 12) {f : Nat → Int} (hf : ∀ j, j < 144 → 0 ≤ f j) {fs : List Nat} (hc : ∀ s ∈ fs, isC w h s) {d : Int} (hd : 1 ≤ d ∧ d ≤ 144) : ((jobsR w h f fs d).2 = 0 ∧ validB (jobsR w h f fs d).1 = true) ∨ (jobsR w h f fs d).2 = 3 := by
 unfold jobsR
 by_cases h12 : ((fs.length : Nat) : Int) > 12
 ·rw [decide_eq_true h12]; exact .inr rfl
 ·rw [decide_eq_false h12, cond_false]
  have hn : fs.length ≤ 12 := by omega
  rcases jobsG_get (D := fun i => daysOf (rowLen w h f fs i) d) (M := fun i => ((maskOf w h f fs i : Nat) : Int)) fs.length 0 [] with h1 | ⟨h1, h2, h3⟩
  ·exact .inr h1
  ·refine .inl ⟨h1, ?_⟩
   rw [h2, List.nil_append]
   obtain ⟨l, hl⟩ : ∃ l : List Job, (List.range' 0 fs.length).map (fun j => (IntKind.wrap .i8 (daysOf (rowLen w h f fs j) d), ((maskOf w h f fs j : Nat) : Int))) = l := ⟨_, rfl⟩
   rw [hl]
   have hlen : l.length = fs.length := by rw [← hl]; simp
   have hmask : ∀ i, maskOf w h f fs i < 4096 := fun i => orF_lt _ 0 (by omega) fun k hk => by
    have := List.mem_range'_1.1 (List.mem_filter.1 hk).1
    omega
   have hday : ∀ i, i < fs.length → 1 ≤ daysOf (rowLen w h f fs i) d ∧ daysOf (rowLen w h f fs i) d ≤ 30 := fun i hi => by
    have hs := hc _ (getD_mem' (d := (0 : Nat)) hi)
    have r1 := rowN_pos hw hh (f := f) hs
    have r2 := rowN_len w h f (fs.getD i 0)
    have r3 : rowLen w h f fs i = (rowN w h f (fs.getD i 0)).length := by simp [rowLen, rowZ, cst]
    have := (days_pos (n := rowLen w h f fs i) (by omega) (by omega) hd).1
    exact ⟨this, h3 i (Nat.zero_le _) (by omega)⟩
   have hget : ∀ i, i < fs.length → l.getD i (0, 0) = (daysOf (rowLen w h f fs i) d, ((maskOf w h f fs i : Nat) : Int)) := fun i hi => by
    have hdi := hday i hi
    rw [← hl, List.getD_eq_getElem?_getD, List.getElem?_map, List.getElem?_range' hi]
    simp only [Nat.zero_add, Nat.one_mul, Option.map_some, Option.getD_some]
    rw [IntWalk.i8_in _ (by omega)]
   have hj : JobsOK l := fun x hx => by
    obtain ⟨i, hi, e⟩ := List.getElem_of_mem hx
    have h0 := hget i (by omega)
    rw [getD_lt (0, 0) hi, e] at h0
    have h4 := hday i (by omega)
    have h5 := hmask i
    rw [h0]
    refine ⟨?_, ?_⟩
    ·show -128 ≤ daysOf (rowLen w h f fs i) d ∧ daysOf (rowLen w h f fs i) d ≤ 127
     omega
    ·show 0 ≤ ((maskOf w h f fs i : Nat) : Int) ∧ ((maskOf w h f fs i : Nat) : Int) ≤ 65535
     omega
   refine rank_valid hj (by omega) (fun i hi => ?_) (fun i => (f (fs.getD i 0)).toNat) fun i k hi hk => ?_
   ·unfold dayB
    rw [hget i (by omega)]
    exact hday i (by omega)
   ·unfold aft bt at hk
    rw [hget i (by omega), toNat_nat] at hk
    unfold maskOf at hk
    rw [orF_bit, Nat.zero_testBit, Bool.false_or] at hk
    have hm := List.mem_filter.1 (List.contains_iff_mem.1 hk)
    have hkl := List.mem_range'_1.1 hm.1
    have ha := hm.2
    unfold adjK at ha
    rw [Bool.and_eq_true] at ha
    have hlt := of_decide_eq_true ha.1
    refine ⟨by omega, ?_⟩
    have := hf (fs.getD k 0) (isC_lt hh (hc _ (getD_mem' (d := (0 : Nat)) (show k < fs.length by omega))))
    omega
theorem tail_drawn {more : List Int} (hm : Byt more) : TailOK more := by
 obtain ⟨w, h, f, hp, ⟨⟨w1, w2⟩, h1, h2⟩, hd⟩ := A2Picture_ok hm
 obtain ⟨r, hr, hrl⟩ := at_ok hm (i := 2) (by decide) (k := 5) (by decide) (by decide)
 have hw12 : w ≤ 12 := by omega
 have hh12 : h ≤ 12 := by omega
 have hwr : IntKind.wrap .i64 (1 + (r : Int)) = ((1 + r : Nat) : Int) := by rw [IntWalk.i64_in _ (by omega)]; omega
 have hv : s_q29 (w : Int) (h : Int) f = true := valid_mk ⟨by omega, by omega⟩ hd
 obtain ⟨ss, hP, hs⟩ := parts_ok hw12 hh12 (f := f)
 have h0 : 0 < ss.length := by
  obtain ⟨s, hm, _⟩ := hP.all 0 (by omega) (by unfold isC; omega)
  exact List.length_pos_of_mem hm
 have hc : (s_q1v true true != 0) = false := rfl
 have hbig := hP.len
 have hfl : (fullOf f ss).length ≤ ss.length := List.length_filter_le _ _
 have hdz : ((1 + r : Nat) : Int) ≠ 0 := by omega
 have e1 : s_q1y ((1 + r : Nat) : Int) 1 144 = true := by
  show s_q27 ((1 + r : Nat) : Int) 1 144 = true
  exact in_true (by omega)
 have e2 : s_q27 ((1 + r : Nat) : Int) 1 144 = true := in_true (by omega)
 refine ⟨((w : Int), (h : Int), f), (r : Int), jobsR w h f (fullOf f ss) ((1 + r : Nat) : Int), hp, hr, ?_, ?_, ?_, ?_⟩
 ·rw [hwr]
  show s_q1k (w : Int) (h : Int) f ((1 + r : Nat) : Int) = _
  unfold s_q1k t_q1k
  try dsimp (config := {proj := false, iota := false, eta := false}) only
  rw [valid_eq (by omega) (by omega), hv, e1, ifields_ok hw12 hh12, hs, hc]
  simp only [cond_false, Option.bind]
  rw [del_ok hw12 hh12 hP.cell hbig h0]
  simp only [List.length_map]
  unfold jobsR
  by_cases hn : (((fullOf f ss).length : Nat) : Int) > 12
  ·rw [decide_eq_true hn]; rfl
  ·rw [decide_eq_false hn]
   simp only [cond_false]
   exact i9_ok hw12 hh12 (full_ok hw12 hh12 hP) (by omega) hdz
 ·rw [hwr]
  show s_q1r (w : Int) (h : Int) f ((1 + r : Nat) : Int) = _
  unfold s_q1r t_q1r
  try dsimp (config := {proj := false, iota := false, eta := false}) only
  rw [hv, e2, sfields_ok hw12 hh12, hs]
  simp only [Bool.not_true, cond_false, Option.bind]
  exact s9_ok hw12 hh12 hdz hP
 ·unfold jobsR
  cases decide ((((fullOf f ss).length : Nat) : Int) > 12)
  ·have := jobsG_len (D := fun i => daysOf (rowLen w h f (fullOf f ss) i) ((1 + r : Nat) : Int)) (M := fun i => ((maskOf w h f (fullOf f ss) i : Nat) : Int)) (fullOf f ss).length 0 []
   rw [List.length_nil] at this
   rw [cond_false]; omega
  ·exact Nat.zero_le _
 ·have hcell : ∀ s ∈ fullOf f ss, isC w h s := fun s hs => hP.cell s (List.mem_filter.1 hs).1
  exact jobs_valid hw12 hh12 (fun j hj => (hd.rng j hj).1) hcell (by omega)
end Go.RR
