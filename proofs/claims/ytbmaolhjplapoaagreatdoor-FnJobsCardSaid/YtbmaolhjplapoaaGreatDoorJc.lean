/- Plain facts of valid jobs: the order is whole; earliest days; what is before. No condition. -/
import Derived.Test.YtbmaolhjplapoaaGreatDoorGi
import Derived.Test.YtbmaolhjplapoaaGreatDoorQe
import Derived.Test.YtbmaolhjplapoaaGreatDoorWo
set_option linter.unusedVariables false
set_option linter.unusedSimpArgs false
namespace Go.RR
open Go
theorem nodup_len : ∀ (n : Nat) (xs : List Int), xs.Nodup → (∀ x ∈ xs, ∃ j : Nat, j < n ∧ x = (j : Int)) → xs.length ≤ n
 | 0, xs, _, h => by
  cases xs with
  | nil => exact Nat.le_refl _
  | cons x xs =>
   obtain ⟨j, hj, _⟩ := h x (List.mem_cons_self ..)
   omega
 | n + 1, xs, hd, h => by
  by_cases hm : (n : Int) ∈ xs
  ·have h1 := nodup_len n (xs.erase (n : Int)) (hd.erase _) fun x hx => by
    have hx2 := (List.Nodup.mem_erase_iff hd).1 hx
    obtain ⟨j, hj, e⟩ := h x hx2.2
    refine ⟨j, ?_, e⟩
    have : j ≠ n := fun e2 => hx2.1 (by rw [e, e2])
    omega
   rw [List.length_erase_of_mem hm] at h1
   omega
  ·have h1 := nodup_len n xs hd fun x hx => by
    obtain ⟨j, hj, e⟩ := h x hx
    refine ⟨j, ?_, e⟩
    have : j ≠ n := fun e2 => hm (by rw [← e2, ← e]; exact hx)
    omega
   omega
theorem nodup_full {n : Nat} {xs : List Int} (hd : xs.Nodup) (h : ∀ x ∈ xs, ∃ j : Nat, j < n ∧ x = (j : Int)) (hl : xs.length = n) {j : Nat} (hj : j < n) : (j : Int) ∈ xs := by
 apply Classical.byContradiction
 intro hm
 have := nodup_len n ((j : Int) :: xs) (List.nodup_cons.2 ⟨hm, hd⟩) fun x hx => by
  rcases List.mem_cons.1 hx with rfl | hx
  ·exact ⟨j, hj, rfl⟩
  ·exact h x hx
 simp at this; omega
theorem ordL_len {l : List Job} (hv : validB l = true) : (ordL l).length = l.length := by
 obtain ⟨_, h2⟩ := valid_ord hv
 have h := (ordN_len l l.length 0 []).2
 rw [h2] at h
 have := of_decide_eq_true h
 simpa [ordL] using this
theorem ord_full {l : List Job} (hj : JobsOK l) (hv : validB l = true) {j : Nat} (hjl : j < l.length) : (j : Int) ∈ ordL l := by
 obtain ⟨hn, _⟩ := valid_ord hv
 obtain ⟨done, ho⟩ := ordL_ok hj hn
 exact nodup_full ho.nd ho.mem (ordL_len hv) hjl
structure AtO (l : List Job) (P : List Int) (i : Nat) : Prop where
 lt : i < l.length
 new : (i : Int) ∉ P
 self : waitsB l i i = false
 wait : ∀ k : Nat, k < 16 → waitsB l i k = true → (k : Int) ∈ P
 clo : ∀ j : Nat, j < l.length → (j : Int) ∈ P → ∀ k : Nat, k < 16 → waitsB l j k = true → (k : Int) ∈ P
theorem atO_of {l : List Job} (hj : JobsOK l) (hv : validB l = true) {P Q : List Int} {i : Nat} (he : ordL l = P ++ (i : Int) :: Q) (hil : i < l.length) : AtO l P i := by
 obtain ⟨hn, _⟩ := valid_ord hv
 obtain ⟨done, ho⟩ := ordL_ok hj hn
 have hnd := ho.nd
 rw [he, List.nodup_append] at hnd
 have hnew : (i : Int) ∉ P := fun hm => hnd.2.2 _ hm _ (List.mem_cons_self ..) rfl
 refine ⟨hil, hnew, ?_, fun k hk hw => ho.top P Q i k he hil hw hk, fun j hjl hm k hk hw => ?_⟩
 ·cases hw : waitsB l i i
  ·rfl
  ·exact absurd (ho.top P Q i i he hil hw (by omega)) hnew
 ·obtain ⟨a, b, e⟩ := List.append_of_mem hm
  have := ho.top a (b ++ (i : Int) :: Q) j k (by rw [he, e]; simp) hjl hw hk
  rw [e]; exact List.mem_append_left _ this
theorem ord_fold {l : List Job} (hj : JobsOK l) (hv : validB l = true) {σ : Type} {f : σ → Int → σ} {I : List Int → σ → Prop} (hs : ∀ (P : List Int) (i : Nat) (st : σ), AtO l P i → I P st → I (P ++ [(i : Int)]) (f st (i : Int))) :
  ∀ (Q P : List Int) (st : σ), ordL l = P ++ Q → I P st → I (ordL l) (Q.foldl f st)
 | [], P, st, he, h => by
  rw [List.append_nil] at he
  rw [he]; exact h
 | x :: Q, P, st, he, h => by
  obtain ⟨i, hil, rfl⟩ := ord_mem (l := l) x (by show x ∈ ordL l; rw [he]; simp)
  rw [List.foldl_cons]
  exact ord_fold hj hv hs Q (P ++ [(i : Int)]) _ (by rw [he]; simp) (hs P i st (atO_of hj hv he hil) h)
theorem get_repl (n k : Nat) : (List.replicate n (0 : Int)).getD k 0 = 0 := by
 rw [List.getD_eq_getElem?_getD, List.getElem?_replicate]
 split <;> rfl
noncomputable def mostE (l : List Job) (st : List Int) (i : Nat) (ks : List Nat) (m : Int) : Int := ks.foldl (fun m k => cond (waitsB l i k) (max m (st.getD k 0 + dayB l k)) m) m
theorem mostE_ok {l : List Job} {st : List Int} {i : Nat} : ∀ (ks : List Nat) (m : Int), m ≤ mostE l st i ks m ∧ (∀ k ∈ ks, waitsB l i k = true → st.getD k 0 + dayB l k ≤ mostE l st i ks m) ∧ (mostE l st i ks m = m ∨ ∃ k ∈ ks, waitsB l i k = true ∧ mostE l st i ks m = st.getD k 0 + dayB l k)
 | [], m => ⟨Int.le_refl _, fun k hk => by simp at hk, .inl rfl⟩
 | k :: ks, m => by
  unfold mostE
  rw [List.foldl_cons]
  cases hw : waitsB l i k with
  | false =>
   obtain ⟨h1, h2, h3⟩ := mostE_ok (l := l) (st := st) (i := i) ks m
   refine ⟨h1, fun x hx hwx => ?_, ?_⟩
   ·rcases List.mem_cons.1 hx with rfl | hx
    ·rw [hw] at hwx; cases hwx
    ·exact h2 x hx hwx
   ·rcases h3 with h3 | ⟨x, hx, q⟩
    ·exact .inl h3
    ·exact .inr ⟨x, List.mem_cons_of_mem _ hx, q⟩
  | true =>
   rw [cond_true]
   obtain ⟨h1, h2, h3⟩ := mostE_ok (l := l) (st := st) (i := i) ks (max m (st.getD k 0 + dayB l k))
   unfold mostE at h1 h2 h3
   refine ⟨by omega, fun x hx hwx => ?_, ?_⟩
   ·rcases List.mem_cons.1 hx with rfl | hx
    ·omega
    ·exact h2 x hx hwx
   ·rcases h3 with h3 | ⟨x, hx, q⟩
    ·by_cases hle : m ≤ st.getD k 0 + dayB l k
     ·exact .inr ⟨k, List.mem_cons_self .., hw, by omega⟩
     ·exact .inl (by omega)
    ·exact .inr ⟨x, List.mem_cons_of_mem _ hx, q⟩
theorem day_rng {l : List Job} (hj : JobsOK l) (hv : validB l = true) (k : Nat) : 0 ≤ dayB l k ∧ dayB l k ≤ 30 := by
 by_cases h : k < l.length
 ·have := valid_days hj hv h; omega
 ·unfold dayB
  rw [List.getD_eq_getElem?_getD, List.getElem?_eq_none (by omega)]
  exact ⟨Int.le_refl _, by decide⟩
theorem day_wrap {l : List Job} (hj : JobsOK l) (hv : validB l = true) {st : List Int} {k : Nat} (h : 0 ≤ st.getD k 0 ∧ st.getD k 0 ≤ 100000) : IntKind.wrap .i64 (st.getD k 0 + IntKind.wrap .i64 (l.getD k (0, 0)).1) = st.getD k 0 + dayB l k := by
 have := day_rng hj hv k
 unfold dayB at this ⊢
 rw [IntWalk.i64_in (l.getD k (0, 0)).1 (by omega), IntWalk.i64_in _ (by omega)]
theorem fold_stepE {l : List Job} (hj : JobsOK l) (hv : validB l = true) {st : List Int} {i : Nat} (hi : i < st.length) (hw : waitsB l i i = false) (hr : ∀ k, 0 ≤ st.getD k 0 ∧ st.getD k 0 ≤ 100000) : ∀ (ks : List Nat) (m : Int), ks.foldl (stepE l i) (st.set i m) = st.set i (mostE l st i ks m)
 | [], m => rfl
 | k :: ks, m => by
  unfold mostE
  rw [List.foldl_cons, List.foldl_cons]
  cases hwk : waitsB l i k with
  | false =>
   rw [show stepE l i (st.set i m) k = st.set i m by unfold stepE; rw [hwk]; rfl]
   exact fold_stepE hj hv hi hw hr ks m
  | true =>
   have hki : i ≠ k := fun e => by rw [← e, hw] at hwk; cases hwk
   rw [show stepE l i (st.set i m) k = st.set i (max m (st.getD k 0 + dayB l k)) by
    unfold stepE
    rw [hwk, cond_true, set_get_eq hi, set_get_ne hki, day_wrap hj hv (hr k), List.set_set]]
   exact fold_stepE hj hv hi hw hr ks _
theorem set_self {st : List Int} {i : Nat} (hi : i < st.length) : st.set i (st.getD i 0) = st := by
 rw [getD_lt 0 hi]; exact List.set_getElem_self hi
structure EarlI (l : List Job) (P : List Int) (st : List Int) : Prop where
 len : st.length = l.length
 rng : ∀ k, 0 ≤ st.getD k 0 ∧ st.getD k 0 ≤ 30 * (P.length : Int)
 ge : ∀ i : Nat, i < l.length → (i : Int) ∈ P → ∀ k, k < l.length → waitsB l i k = true → st.getD k 0 + dayB l k ≤ st.getD i 0
 top : ∀ i : Nat, i < l.length → st.getD i 0 + (tailL l).getD i 0 ≤ longB l
 zero : ∀ i : Nat, (i : Int) ∉ P → st.getD i 0 = 0
theorem tail_eq {l : List Job} (hj : JobsOK l) (hv : validB l = true) {j : Nat} (hjl : j < l.length) : (tailL l).getD j 0 = leftB l j + dayB l j :=
 (tailL_ok hj hv).val j hjl (List.mem_reverse.2 (ord_full hj hv hjl))
theorem mostT_ge {l : List Job} {st : List Int} {j : Nat} : ∀ (ks : List Nat) (m : Int), m ≤ mostT l st j ks m ∧ ∀ k ∈ ks, waitsB l k j = true → st.getD k 0 ≤ mostT l st j ks m
 | [], m => ⟨Int.le_refl _, fun k hk => by simp at hk⟩
 | k :: ks, m => by
  unfold mostT
  rw [List.foldl_cons]
  cases hw : waitsB l k j with
  | false =>
   obtain ⟨h1, h2⟩ := mostT_ge (l := l) (st := st) (j := j) ks m
   refine ⟨h1, fun x hx hwx => ?_⟩
   rcases List.mem_cons.1 hx with rfl | hx
   ·rw [hw] at hwx; cases hwx
   ·exact h2 x hx hwx
  | true =>
   rw [cond_true]
   obtain ⟨h1, h2⟩ := mostT_ge (l := l) (st := st) (j := j) ks (max m (st.getD k 0))
   unfold mostT at h1 h2
   refine ⟨by omega, fun x hx hwx => ?_⟩
   rcases List.mem_cons.1 hx with rfl | hx
   ·omega
   ·exact h2 x hx hwx
theorem tail_wait {l : List Job} (hj : JobsOK l) (hv : validB l = true) {i k : Nat} (hi : i < l.length) (hk : k < l.length) (hw : waitsB l i k = true) : (tailL l).getD i 0 + dayB l k ≤ (tailL l).getD k 0 := by
 rw [tail_eq hj hv hk]
 have := (mostT_ge (l := l) (st := tailL l) (j := k) (List.range' 0 l.length) 0).2 i (List.mem_range'_1.2 ⟨Nat.zero_le _, by omega⟩) hw
 unfold leftB
 omega
theorem tail_day {l : List Job} (hj : JobsOK l) (hv : validB l = true) {i : Nat} (hi : i < l.length) : dayB l i ≤ (tailL l).getD i 0 ∧ (tailL l).getD i 0 ≤ longB l := by
 have h1 := (left_ok hj hv i).1
 rw [tail_eq hj hv hi]
 refine ⟨by omega, ?_⟩
 have h2 := (fold_max (tailL l) 0).2.1 ((tailL l).getD i 0) (by
  have hl := tailL_len (l := l)
  rw [getD_lt 0 (show i < (tailL l).length by omega)]
  exact List.getElem_mem _)
 rw [tail_eq hj hv hi] at h2
 exact h2
theorem earlI_step {l : List Job} (hj : JobsOK l) (hv : validB l = true) (P : List Int) (i : Nat) (st : List Int) (hA : AtO l P i) (hPl : P.length ≤ 1000) (h : EarlI l P st) : EarlI l (P ++ [(i : Int)]) ((List.range' 0 l.length).foldl (stepE l (i : Int).toNat) st) := by
 obtain ⟨hn, _⟩ := valid_ord hv
 have hil := hA.lt
 have hisl : i < st.length := by rw [h.len]; exact hil
 have h0 := h.zero i hA.new
 have hst : (List.range' 0 l.length).foldl (stepE l (i : Int).toNat) st = st.set i (mostE l st i (List.range' 0 l.length) 0) := by
  have := fold_stepE hj hv hisl hA.self (fun k => by have := h.rng k; omega) (List.range' 0 l.length) (st.getD i 0)
  rw [set_self hisl] at this
  rw [toNat_nat, this, h0]
 rw [hst]
 obtain ⟨m1, m2, m3⟩ := mostE_ok (l := l) (st := st) (i := i) (List.range' 0 l.length) 0
 have hlen : ((P ++ [(i : Int)]).length : Int) = (P.length : Int) + 1 := by simp
 have hne : ∀ k, k ≠ i → (st.set i (mostE l st i (List.range' 0 l.length) 0)).getD k 0 = st.getD k 0 := fun k hk => set_get_ne fun e => hk e.symm
 have heq : (st.set i (mostE l st i (List.range' 0 l.length) 0)).getD i 0 = mostE l st i (List.range' 0 l.length) 0 := set_get_eq hisl
 have hki : ∀ k, k < l.length → waitsB l i k = true → k ≠ i := fun k hk hw e => by rw [e, hA.self] at hw; cases hw
 refine ⟨by rw [List.length_set]; exact h.len, fun k => ?_, fun j hjl hm k hk hw => ?_, fun j hjl => ?_, fun j hm => ?_⟩
 ·have hk := h.rng k
  by_cases e : k = i
  ·subst e
   rw [heq, hlen]
   rcases m3 with m3 | ⟨x, hx, _, q⟩
   ·omega
   ·have := h.rng x
    have := day_rng hj hv x
    omega
  ·rw [hne k e, hlen]; omega
 ·by_cases e : j = i
  ·subst e
   rw [heq, hne k (hki k hk hw)]
   exact m2 k (List.mem_range'_1.2 ⟨Nat.zero_le _, by omega⟩) hw
  ·have hmP : (j : Int) ∈ P := by
    rcases List.mem_append.1 hm with hm | hm
    ·exact hm
    ·simp at hm; omega
   have hkP := hA.clo j hjl hmP k (by omega) hw
   have hk2 : k ≠ i := fun e2 => hA.new (by rw [← e2]; exact hkP)
   rw [hne j e, hne k hk2]
   exact h.ge j hjl hmP k hk hw
 ·by_cases e : j = i
  ·subst e
   rw [heq]
   rcases m3 with m3 | ⟨x, hx, hw, q⟩
   ·have := (tail_day hj hv hjl).2
    omega
   ·have hxl : x < l.length := by have := List.mem_range'_1.1 hx; omega
    have a1 := h.top x hxl
    have a2 := tail_wait hj hv hjl hxl hw
    omega
  ·rw [hne j e]
   exact h.top j hjl
 ·have hji : j ≠ i := fun e => hm (by rw [e]; simp)
  rw [hne j hji]
  exact h.zero j fun q => hm (List.mem_append_left _ q)
theorem earl_ok {l : List Job} (hj : JobsOK l) (hv : validB l = true) : EarlI l (ordL l) (earl l (ordL l)) := by
 have h := ord_fold hj hv (f := fun st x => (List.range' 0 l.length).foldl (stepE l x.toNat) st) (I := fun P st => P.length ≤ l.length → EarlI l P st) (fun P i st hA hI hl => by
  have h12 := (valid_ord hv).1
  simp only [List.length_append, List.length_cons, List.length_nil] at hl
  exact earlI_step hj hv P i st hA (by omega) (hI (by omega))) (ordL l) [] (List.replicate l.length 0) rfl (fun _ => ⟨by simp, fun k => by rw [get_repl]; simp, fun i _ hm => by simp at hm, fun i hil => by rw [get_repl, Int.zero_add]; exact (tail_day hj hv hil).2, fun i _ => get_repl _ _⟩)
 exact h (Nat.le_of_eq (ordL_len hv))
abbrev bt (x : Int) (b : Nat) : Bool := x.toNat.testBit b
theorem bOr_bt {a b : Int} (ha : 0 ≤ a ∧ a ≤ 65535) (hb : 0 ≤ b ∧ b ≤ 65535) : (0 ≤ bOr .u16 a b ∧ bOr .u16 a b ≤ 65535) ∧ ∀ k, bt (bOr .u16 a b) k = (bt a k || bt b k) := by
 obtain ⟨h1, h2, h3⟩ := or_nat ha hb
 refine ⟨⟨h2, h3⟩, fun k => ?_⟩
 unfold bt
 rw [h1, Nat.testBit_or]
theorem fold_stepB {l : List Job} {st : List Int} {i : Nat} (hi : i < st.length) (hw : waitsB l i i = false) (hr : ∀ k, 0 ≤ st.getD k 0 ∧ st.getD k 0 ≤ 65535) : ∀ (ks : List Nat) (m : Int), 0 ≤ m ∧ m ≤ 65535 →
  ∃ m', ks.foldl (stepB l i) (st.set i m) = st.set i m' ∧ (0 ≤ m' ∧ m' ≤ 65535) ∧ ∀ b, bt m' b = true ↔ (bt m b = true ∨ ∃ k ∈ ks, waitsB l i k = true ∧ bt (st.getD k 0) b = true)
 | [], m, hm => ⟨m, rfl, hm, fun b => ⟨.inl, fun h => by
   rcases h with h | ⟨k, hk, _⟩
   ·exact h
   ·simp at hk⟩⟩
 | k :: ks, m, hm => by
  rw [List.foldl_cons]
  cases hwk : waitsB l i k with
  | false =>
   rw [show stepB l i (st.set i m) k = st.set i m by unfold stepB; rw [hwk]; rfl]
   obtain ⟨m', h1, h2, h3⟩ := fold_stepB hi hw hr ks m hm
   refine ⟨m', h1, h2, fun b => (h3 b).trans ⟨fun h => ?_, fun h => ?_⟩⟩
   ·rcases h with h | ⟨x, hx, q⟩
    ·exact .inl h
    ·exact .inr ⟨x, List.mem_cons_of_mem _ hx, q⟩
   ·rcases h with h | ⟨x, hx, q⟩
    ·exact .inl h
    ·rcases List.mem_cons.1 hx with rfl | hx
     ·rw [hwk] at q; cases q.1
     ·exact .inr ⟨x, hx, q⟩
  | true =>
   have hki : i ≠ k := fun e => by rw [← e, hw] at hwk; cases hwk
   obtain ⟨o1, o2⟩ := bOr_bt hm (hr k)
   rw [show stepB l i (st.set i m) k = st.set i (bOr .u16 m (st.getD k 0)) by
    unfold stepB
    rw [hwk, cond_true, set_get_eq hi, set_get_ne hki, List.set_set]]
   obtain ⟨m', h1, h2, h3⟩ := fold_stepB hi hw hr ks (bOr .u16 m (st.getD k 0)) o1
   refine ⟨m', h1, h2, fun b => (h3 b).trans ⟨fun h => ?_, fun h => ?_⟩⟩
   ·rcases h with h | ⟨x, hx, q⟩
    ·rw [o2, Bool.or_eq_true] at h
     rcases h with h | h
     ·exact .inl h
     ·exact .inr ⟨k, List.mem_cons_self .., hwk, h⟩
    ·exact .inr ⟨x, List.mem_cons_of_mem _ hx, q⟩
   ·rcases h with h | ⟨x, hx, q⟩
    ·exact .inl (by rw [o2, h]; rfl)
    ·rcases List.mem_cons.1 hx with rfl | hx
     ·exact .inl (by rw [o2, q.2, Bool.or_true])
     ·exact .inr ⟨x, hx, q⟩
structure BefoI (l : List Job) (P : List Int) (st : List Int) : Prop where
 len : st.length = l.length
 rng : ∀ k, 0 ≤ st.getD k 0 ∧ st.getD k 0 ≤ 65535
 val : ∀ i : Nat, i < l.length → (i : Int) ∈ P → ∀ b, b < 16 → (bt (st.getD i 0) b = true ↔ (waitsB l i b = true ∨ ∃ k, k < l.length ∧ waitsB l i k = true ∧ bt (st.getD k 0) b = true))
theorem befoI_step {l : List Job} (hj : JobsOK l) (hv : validB l = true) (P : List Int) (i : Nat) (st : List Int) (hA : AtO l P i) (h : BefoI l P st) : BefoI l (P ++ [(i : Int)]) (outB l st (i : Int)) := by
 obtain ⟨hn, _⟩ := valid_ord hv
 have hil := hA.lt
 have hisl : i < st.length := by rw [h.len]; exact hil
 have hAf := (hj _ (getD_mem' (d := ((0, 0) : Job)) hil)).2
 obtain ⟨m', h1, h2, h3⟩ := fold_stepB (l := l) hisl hA.self h.rng (List.range' 0 l.length) (l.getD i (0, 0)).2 hAf
 have hst : outB l st (i : Int) = st.set i m' := by
  unfold outB
  rw [toNat_nat, h1]
 rw [hst]
 have hne : ∀ k, k ≠ i → (st.set i m').getD k 0 = st.getD k 0 := fun k hk => set_get_ne fun e => hk e.symm
 have heq : (st.set i m').getD i 0 = m' := set_get_eq hisl
 have hki : ∀ k, k < l.length → waitsB l i k = true → k ≠ i := fun k hk hw e => by rw [e, hA.self] at hw; cases hw
 refine ⟨by rw [List.length_set]; exact h.len, fun k => ?_, fun j hjl hm b hb => ?_⟩
 ·by_cases e : k = i
  ·subst e; rw [heq]; exact h2
  ·rw [hne k e]; exact h.rng k
 ·by_cases e : j = i
  ·subst e
   rw [heq, waits_bit hj hjl hb]
   refine (h3 b).trans ⟨fun q => ?_, fun q => ?_⟩
   ·rcases q with q | ⟨k, hk, hw, q⟩
    ·exact .inl q
    ·have hkl : k < l.length := by have := List.mem_range'_1.1 hk; omega
     exact .inr ⟨k, hkl, hw, by rw [hne k (hki k hkl hw)]; exact q⟩
   ·rcases q with q | ⟨k, hkl, hw, q⟩
    ·exact .inl q
    ·exact .inr ⟨k, List.mem_range'_1.2 ⟨Nat.zero_le _, by omega⟩, hw, by rw [hne k (hki k hkl hw)] at q; exact q⟩
  ·have hmP : (j : Int) ∈ P := by
    rcases List.mem_append.1 hm with hm | hm
    ·exact hm
    ·simp at hm; omega
   have hk2 : ∀ k, k < l.length → waitsB l j k = true → k ≠ i := fun k hk hw e2 => hA.new (by rw [← e2]; exact hA.clo j hjl hmP k (by omega) hw)
   rw [hne j e]
   refine (h.val j hjl hmP b hb).trans ⟨fun q => ?_, fun q => ?_⟩
   ·rcases q with q | ⟨k, hkl, hw, q⟩
    ·exact .inl q
    ·exact .inr ⟨k, hkl, hw, by rw [hne k (hk2 k hkl hw)]; exact q⟩
   ·rcases q with q | ⟨k, hkl, hw, q⟩
    ·exact .inl q
    ·exact .inr ⟨k, hkl, hw, by rw [hne k (hk2 k hkl hw)] at q; exact q⟩
theorem befo_ok {l : List Job} (hj : JobsOK l) (hv : validB l = true) : BefoI l (ordL l) (befo l (ordL l)) :=
 ord_fold hj hv (f := outB l) (I := BefoI l) (fun P i st hA h => befoI_step hj hv P i st hA h) (ordL l) [] (List.replicate l.length 0) rfl ⟨by simp, fun k => by rw [get_repl]; decide, fun i _ hm => by simp at hm⟩
theorem befo_rel {l : List Job} (hj : JobsOK l) (hv : validB l = true) {R : Nat → Nat → Prop} (ht : ∀ b k i, R b k → R k i → R b i) (hw : ∀ i, i < l.length → ∀ b, b < 16 → waitsB l i b = true → R b i) {i : Nat} (hi : i < l.length) {b : Nat} (hb : b < 16) (h : bt ((befo l (ordL l)).getD i 0) b = true) : R b i := by
 have hB := befo_ok hj hv
 have hn := (valid_ord hv).1
 have key := ord_fold hj hv (f := fun (_ : Unit) (_ : Int) => ()) (I := fun P _ => ∀ i : Nat, i < l.length → (i : Int) ∈ P → ∀ b, b < 16 → bt ((befo l (ordL l)).getD i 0) b = true → R b i) (fun P i _ hA hI j hjl hm b hb q => by
  rcases (hB.val j hjl (ord_full hj hv hjl) b hb).1 q with q | ⟨k, hkl, hwk, q⟩
  ·exact hw j hjl b hb q
  ·have hkP : (k : Int) ∈ P := by
    rcases List.mem_append.1 hm with hm | hm
    ·exact hA.clo j hjl hm k (by omega) hwk
    ·have : j = i := by simp at hm; omega
     subst this
     exact hA.wait k (by omega) hwk
   exact ht b k j (hI k hkl hkP b hb q) (hw j hjl k (by omega) hwk)) (ordL l) [] () rfl (fun i _ hm => by simp at hm)
 exact key i hi (ord_full hj hv hi) b hb h
theorem idx_lt {O a c : List Int} {b i : Int} (hnd : O.Nodup) (he : O = a ++ i :: c) (hb : b ∈ a) : O.idxOf b < O.idxOf i := by
 subst he
 rw [List.nodup_append] at hnd
 have hia : i ∉ a := fun hm => hnd.2.2 _ hm _ (List.mem_cons_self ..) rfl
 rw [List.idxOf_append, if_pos hb, List.idxOf_append, if_neg hia, List.idxOf_cons_self]
 have := List.idxOf_lt_length_of_mem hb
 omega
theorem wait_idx {l : List Job} (hj : JobsOK l) (hv : validB l = true) {i : Nat} (hi : i < l.length) {b : Nat} (hb : b < 16) (hw : waitsB l i b = true) : (ordL l).idxOf (b : Int) < (ordL l).idxOf (i : Int) := by
 obtain ⟨hn, _⟩ := valid_ord hv
 obtain ⟨done, ho⟩ := ordL_ok hj hn
 obtain ⟨a, c, e⟩ := List.append_of_mem (ord_full hj hv hi)
 exact idx_lt ho.nd e (ho.top a c i b e hi hw hb)
theorem wait_lt {l : List Job} (hj : JobsOK l) (hv : validB l = true) {i : Nat} (hi : i < l.length) {b : Nat} (hb : b < 16) (hw : waitsB l i b = true) : b < l.length := by
 obtain ⟨hn, _⟩ := valid_ord hv
 obtain ⟨done, ho⟩ := ordL_ok hj hn
 obtain ⟨a, c, e⟩ := List.append_of_mem (ord_full hj hv hi)
 have hm := ho.top a c i b e hi hw hb
 obtain ⟨j, hj2, e2⟩ := ho.mem (b : Int) (by rw [e]; exact List.mem_append_left _ hm)
 omega
theorem befo_self {l : List Job} (hj : JobsOK l) (hv : validB l = true) {i : Nat} (hi : i < l.length) : bt ((befo l (ordL l)).getD i 0) i = false := by
 cases h : bt ((befo l (ordL l)).getD i 0) i with
 | false => rfl
 | true =>
  have hn := (valid_ord hv).1
  have := befo_rel hj hv (R := fun b i => (ordL l).idxOf (b : Int) < (ordL l).idxOf (i : Int)) (fun _ _ _ => Nat.lt_trans) (fun i hi b hb hw => wait_idx hj hv hi hb hw) hi (b := i) (by omega) h
  omega
theorem befo_has {l : List Job} (hj : JobsOK l) (hv : validB l = true) {i : Nat} (hi : i < l.length) {b : Nat} (hb : b < 16) (hw : waitsB l i b = true) : bt ((befo l (ordL l)).getD i 0) b = true :=
 ((befo_ok hj hv).val i hi (ord_full hj hv hi) b hb).2 (.inl hw)
theorem befo_sub {l : List Job} (hj : JobsOK l) (hv : validB l = true) {i k : Nat} (hi : i < l.length) (hk : k < l.length) (hw : waitsB l i k = true) {b : Nat} (hb : b < 16) (h : bt ((befo l (ordL l)).getD k 0) b = true) : bt ((befo l (ordL l)).getD i 0) b = true :=
 ((befo_ok hj hv).val i hi (ord_full hj hv hi) b hb).2 (.inr ⟨k, hk, hw, h⟩)
end Go.RR
namespace Go.RR
open Go
abbrev aft (l : List Job) (i : Nat) : Int := (l.getD i (0, 0)).2
theorem rank_flow {l : List Job} (hj : JobsOK l) (hn : l.length ≤ 12) (r : Nat → Nat) (hr : ∀ i k, i < l.length → bt (aft l i) k = true → k < l.length ∧ r k < r i) : Flow l := by
 intro tk ht hc
 have hex : ∃ i, i < l.length ∧ tb tk i = false := by
  apply Classical.byContradiction
  intro hne
  refine hc ((cnt_zero l.length 0).2 fun k _ hk => ?_)
  cases hq : tb tk k with
  | true => rfl
  | false => exact absurd ⟨k, by omega, hq⟩ hne
 have key : ∀ n i, r i ≤ n → i < l.length → tb tk i = false → ∃ i, i < l.length ∧ ready l tk i = true := by
  intro n
  induction n with
  | zero =>
   intro i hi hil hb
   exact ⟨i, hil, ready_of hj hn ht hil hb fun k hk => by have := (hr i k hil hk).2; omega⟩
  | succ n ih =>
   intro i hi hil hb
   by_cases hq : ∃ k, k < l.length ∧ r k < r i ∧ tb tk k = false
   ·obtain ⟨k, k0, k1, k2⟩ := hq
    exact ih k (by omega) k0 k2
   ·refine ⟨i, hil, ready_of hj hn ht hil hb fun k hk => ?_⟩
    have := hr i k hil hk
    cases hk2 : tb tk k with
    | true => rfl
    | false => exact absurd ⟨k, this.1, this.2, hk2⟩ hq
 obtain ⟨i, i1, i2⟩ := hex
 exact key (r i) i (Nat.le_refl _) i1 i2
theorem rank_valid {l : List Job} (hj : JobsOK l) (hn : l.length ≤ 12) (hd : ∀ i, i < l.length → 1 ≤ dayB l i ∧ dayB l i ≤ 30) (r : Nat → Nat) (hr : ∀ i k, i < l.length → bt (aft l i) k = true → k < l.length ∧ r k < r i) : validB l = true := by
 unfold validB
 rw [decide_eq_true hn, flow_ord hn (rank_flow hj hn r hr) l.length 0 [] (tk_zero _) (cnt_none _ _), Bool.and_true, Bool.true_and, List.all_eq_true]
 intro x hx
 obtain ⟨i, hi, e⟩ := List.getElem_of_mem hx
 have h1 := hd i hi
 have h2 := (hj x hx).2
 have h3 := hr i
 unfold dayB at h1
 unfold aft at h3
 rw [getD_lt (0, 0) hi, e] at h1 h3
 unfold jobP s_q27
 rw [IntWalk.i64_in x.1 (by omega), decide_eq_true (show x.1 ≥ 1 by omega), decide_eq_true (show x.1 ≤ 30 by omega)]
 have hz : bShr .u16 x.2 (l.length : Int) = 0 := by
  unfold bShr
  have hm : min (Int.toNat (l.length : Int)) IntKind.u16.bits = l.length := by
   rw [toNat_nat]
   exact Nat.min_eq_left (by show l.length ≤ 16; omega)
  rw [hm]
  have hp : (0 : Int) < 2 ^ l.length := Int.pow_pos (by decide)
  rw [Int.fdiv_eq_ediv_of_nonneg _ (Int.le_of_lt hp)]
  have hlt : x.2.toNat < 2 ^ l.length := by
   refine Nat.lt_pow_two_of_testBit _ fun k hk => ?_
   cases hq : x.2.toNat.testBit k with
   | false => rfl
   | true => have := (h3 k hi hq).1; omega
  refine Int.ediv_eq_zero_of_lt h2.1 ?_
  have : (2 : Int) ^ l.length = ((2 ^ l.length : Nat) : Int) := by rw [Int.natCast_pow]; rfl
  omega
 rw [hz]; rfl
theorem aft_rng {l : List Job} (hj : JobsOK l) (i : Nat) : 0 ≤ aft l i ∧ aft l i ≤ 65535 := by
 unfold aft
 by_cases h : i < l.length
 ·exact (hj _ (getD_mem' h)).2
 ·rw [List.getD_eq_getElem?_getD, List.getElem?_eq_none (by omega)]
  exact ⟨Int.le_refl _, by decide⟩
theorem bt_lt {x : Int} (h : 0 ≤ x ∧ x ≤ 65535) {k : Nat} (hb : bt x k = true) : k < 16 := by
 apply Classical.byContradiction
 intro hk
 have hlt : x.toNat < 2 ^ k := Nat.lt_of_lt_of_le (show x.toNat < 2 ^ 16 by show x.toNat < 65536; omega) (Nat.pow_le_pow_right (by decide) (by omega))
 unfold bt at hb
 rw [Nat.testBit_lt_two_pow hlt] at hb
 cases hb
theorem aft_wait {l : List Job} (hj : JobsOK l) {i k : Nat} (hi : i < l.length) (h : bt (aft l i) k = true) : k < 16 ∧ waitsB l i k = true := by
 have hk := bt_lt (aft_rng hj i) h
 exact ⟨hk, by rw [waits_bit hj hi hk]; exact h⟩
theorem chain_len {l : List Job} {q p : Nat} : (chainL l q p).length = l.length := by simp [chainL]
theorem chain_at {l : List Job} {q p : Nat} (hp : p < l.length) : (chainL l q p).getD p (0, 0) = ((l.getD p (0, 0)).1, bOr .u16 (l.getD p (0, 0)).2 (bShl .u16 1 (q : Int))) := by
 unfold chainL
 rw [List.getD_eq_getElem?_getD, List.getElem?_set_self hp]; rfl
theorem chain_ne {l : List Job} {q p i : Nat} (h : i ≠ p) : (chainL l q p).getD i (0, 0) = l.getD i (0, 0) := by
 unfold chainL
 rw [List.getD_eq_getElem?_getD, List.getElem?_set_ne (fun e => h e.symm), ← List.getD_eq_getElem?_getD]
theorem chain_ok {l : List Job} (hj : JobsOK l) {q p : Nat} (hp : p < l.length) : JobsOK (chainL l q p) := by
 intro x hx
 unfold chainL at hx
 rcases List.mem_or_eq_of_mem_set hx with hx | rfl
 ·exact hj x hx
 ·have h1 := hj _ (getD_mem' (d := ((0, 0) : Job)) hp)
  exact ⟨h1.1, wu16 _⟩
theorem chain_bit {l : List Job} (hj : JobsOK l) (hn : l.length ≤ 12) {q p : Nat} (hq : q < l.length) (hp : p < l.length) (k : Nat) : bt (aft (chainL l q p) p) k = (bt (aft l p) k || decide (q = k)) := by
 obtain ⟨s1, s2⟩ := two_rng (i := q) (by omega)
 unfold aft
 rw [chain_at hp]
 have := (bOr_bt (hj _ (getD_mem' (d := ((0, 0) : Job)) hp)).2 s1).2 k
 show bt (bOr .u16 (l.getD p (0, 0)).2 (bShl .u16 1 (q : Int))) k = _
 rw [this]
 show (_ || (bShl .u16 1 (q : Int)).toNat.testBit k) = _
 rw [s2]
theorem chain_day {l : List Job} {q p i : Nat} (hp : p < l.length) : dayB (chainL l q p) i = dayB l i := by
 unfold dayB
 by_cases e : i = p
 ·subst e; rw [chain_at hp]
 ·rw [chain_ne e]
theorem befo_trans {l : List Job} (hj : JobsOK l) (hv : validB l = true) {q i : Nat} (hq : q < l.length) (hi : i < 16) (h : bt ((befo l (ordL l)).getD q 0) i = true) : ∀ c, c < 16 → bt ((befo l (ordL l)).getD i 0) c = true → bt ((befo l (ordL l)).getD q 0) c = true :=
 befo_rel hj hv (R := fun b i => ∀ c, c < 16 → bt ((befo l (ordL l)).getD b 0) c = true → bt ((befo l (ordL l)).getD i 0) c = true) (fun b k i h1 h2 c hc h => h2 c hc (h1 c hc h)) (fun i hi b hb hw c hc h => befo_sub hj hv hi (wait_lt hj hv hi hb hw) hw hc h) hq hi h
theorem chain_yes {l : List Job} (hj : JobsOK l) (hv : validB l = true) {q p : Nat} (hq : q < l.length) (hp : p < l.length) (hne : q ≠ p) (hb : bt ((befo l (ordL l)).getD q 0) p = false) : validB (chainL l q p) = true := by
 have hn := (valid_ord hv).1
 have hA : ∀ i, i < l.length → ∀ k, bt (aft l i) k = true → k < l.length ∧ (ordL l).idxOf (k : Int) < (ordL l).idxOf (i : Int) := fun i hi k hk => by
  obtain ⟨h1, h2⟩ := aft_wait hj hi hk
  exact ⟨wait_lt hj hv hi h1 h2, wait_idx hj hv hi h1 h2⟩
 have hidx : ∀ i, i < l.length → (ordL l).idxOf (i : Int) < l.length := fun i hi => by
  have := List.idxOf_lt_length_of_mem (ord_full hj hv hi)
  rw [ordL_len hv] at this; exact this
 let r : Nat → Nat := fun i => cond (decide (i = q) || bt ((befo l (ordL l)).getD q 0) i) ((ordL l).idxOf (i : Int)) ((ordL l).idxOf (i : Int) + (l.length + 1))
 have hS : ∀ i, i < l.length → (decide (i = q) || bt ((befo l (ordL l)).getD q 0) i) = true → ∀ k, bt (aft l i) k = true → (decide (k = q) || bt ((befo l (ordL l)).getD q 0) k) = true := fun i hi h k hk => by
  obtain ⟨h1, h2⟩ := aft_wait hj hi hk
  rw [Bool.or_eq_true] at h ⊢
  refine .inr ?_
  rcases h with h | h
  ·have e : i = q := of_decide_eq_true h
   subst e
   exact befo_has hj hv hi h1 h2
  ·exact befo_trans hj hv hq (by omega) h k h1 (befo_has hj hv hi h1 h2)
 have hrank : ∀ i, i < l.length → ∀ k, bt (aft l i) k = true → r k < r i := fun i hi k hk => by
  have h1 := hA i hi k hk
  have h2 := hidx k h1.1
  show cond _ _ _ < cond _ _ _
  cases hi2 : (decide (i = q) || bt ((befo l (ordL l)).getD q 0) i) with
  | true => rw [hS i hi hi2 k hk, cond_true, cond_true]; exact h1.2
  | false =>
   rw [cond_false]
   cases (decide (k = q) || bt ((befo l (ordL l)).getD q 0) k)
   ·rw [cond_false]; omega
   ·rw [cond_true]; omega
 refine rank_valid (chain_ok hj hp) (by rw [chain_len]; exact hn) (fun i hi => ?_) r fun i k hi hk => ?_
 ·rw [chain_day hp]
  exact valid_days hj hv (by rw [chain_len] at hi; exact hi)
 ·rw [chain_len] at hi ⊢
  by_cases e : i = p
  ·subst e
   rw [chain_bit hj hn hq hp, Bool.or_eq_true] at hk
   rcases hk with hk | hk
   ·exact ⟨(hA i hi k hk).1, hrank i hi k hk⟩
   ·have e2 : q = k := of_decide_eq_true hk
    subst e2
    refine ⟨hq, ?_⟩
    have h2 := hidx q hq
    show cond _ _ _ < cond _ _ _
    rw [show (decide (q = q) || bt ((befo l (ordL l)).getD q 0) q) = true by simp, cond_true, show (decide (i = q) || bt ((befo l (ordL l)).getD q 0) i) = false by rw [hb, decide_eq_false (fun e => hne e.symm)]; rfl, cond_false]
    omega
  ·unfold aft at hk
   rw [chain_ne e] at hk
   exact ⟨(hA i hi k hk).1, hrank i hi k hk⟩
theorem chain_no {l : List Job} (hj : JobsOK l) (hv : validB l = true) {q p : Nat} (hq : q < l.length) (hp : p < l.length) (h : q = p ∨ bt ((befo l (ordL l)).getD q 0) p = true) : validB (chainL l q p) = false := by
 have hn := (valid_ord hv).1
 cases hc : validB (chainL l q p) with
 | false => rfl
 | true =>
  exfalso
  have hj2 := chain_ok hj (q := q) hp
  have hlen := chain_len (l := l) (q := q) (p := p)
  have hW : ∀ i, i < l.length → ∀ b, b < 16 → waitsB l i b = true → (ordL (chainL l q p)).idxOf (b : Int) < (ordL (chainL l q p)).idxOf (i : Int) := fun i hi b hb hw => by
   refine wait_idx hj2 hc (by rw [hlen]; exact hi) hb ?_
   rw [waits_bit hj2 (by rw [hlen]; exact hi) hb]
   rw [waits_bit hj hi hb] at hw
   by_cases e : i = p
   ·subst e
    have := chain_bit hj hn hq hp b
    show bt (aft (chainL l q i) i) b = true
    rw [this, show bt (aft l i) b = true from hw]; rfl
   ·rw [chain_ne e]; exact hw
  have hpq : (ordL (chainL l q p)).idxOf (q : Int) < (ordL (chainL l q p)).idxOf (p : Int) := by
   refine wait_idx hj2 hc (by rw [hlen]; exact hp) (by omega) ?_
   rw [waits_bit hj2 (by rw [hlen]; exact hp) (by omega)]
   have := chain_bit hj hn hq hp q
   show bt (aft (chainL l q p) p) q = true
   rw [this]; simp
  rcases h with h | h
  ·subst h; omega
  ·have := befo_rel hj hv (R := fun b i => (ordL (chainL l q p)).idxOf (b : Int) < (ordL (chainL l q p)).idxOf (i : Int)) (fun _ _ _ => Nat.lt_trans) hW hq (by omega) h
   omega
def oldI (q m : Nat) : Nat := if m < q then m else m + 1
theorem drop_eq {l : List Job} {q : Nat} (hq : q < l.length) : dropL l q = (List.range' 0 (l.length - 1)).map fun m => newJob l q (oldI q m) := by
 have key : ∀ n, n ≤ l.length → (List.range' 0 n).foldl (dropStep l q) [] = (List.range' 0 (if n ≤ q then n else n - 1)).map fun m => newJob l q (oldI q m) := by
  intro n
  induction n with
  | zero => intro _; simp
  | succ n ih =>
   intro hn
   rw [List.range'_1_concat, List.foldl_append, ih (by omega)]
   show dropStep l q _ (0 + n) = _
   rw [Nat.zero_add]
   unfold dropStep
   by_cases e : n = q
   ·subst e
    rw [show ((n : Int) == (n : Int)) = true by simp, cond_true, if_pos (Nat.le_refl _), if_neg (by omega)]
    rfl
   ·rw [show ((n : Int) == (q : Int)) = false by simp; omega, cond_false]
    by_cases h : n < q
    ·rw [if_pos (by omega), if_pos (by omega), List.range'_1_concat, List.map_append]
     simp [oldI, h]
    ·rw [if_neg (by omega), if_neg (by omega)]
     obtain ⟨m, rfl⟩ : ∃ m, n = m + 1 := ⟨n - 1, by omega⟩
     show _ ++ _ = (List.range' 0 (m + 1)).map _
     rw [Nat.add_sub_cancel, List.range'_1_concat, List.map_append]
     simp [oldI, show ¬ m < q by omega]
 have := key l.length (Nat.le_refl _)
 rw [if_neg (by omega)] at this
 exact this
theorem dropL_len' {l : List Job} {q : Nat} (hq : q < l.length) : (dropL l q).length = l.length - 1 := by rw [drop_eq hq]; simp
theorem drop_get {l : List Job} {q m : Nat} (hq : q < l.length) (hm : m < l.length - 1) : (dropL l q).getD m (0, 0) = newJob l q (oldI q m) := by
 rw [drop_eq hq, List.getD_eq_getElem?_getD, List.getElem?_map, List.getElem?_range' hm]
 simp
theorem bit_drop {X : Int} (hX : 0 ≤ X ∧ X ≤ 65535) {q : Nat} (hq : q < 12) : (0 ≤ bOr .u16 (Int.tmod X (bShl .u16 1 (q : Int))) (bShl .u16 (bShr .u16 X ((q + 1 : Nat) : Int)) (q : Int)) ∧ bOr .u16 (Int.tmod X (bShl .u16 1 (q : Int))) (bShl .u16 (bShr .u16 X ((q + 1 : Nat) : Int)) (q : Int)) ≤ 65535) ∧
  ∀ k, bt (bOr .u16 (Int.tmod X (bShl .u16 1 (q : Int))) (bShl .u16 (bShr .u16 X ((q + 1 : Nat) : Int)) (q : Int))) k = true → bt X (oldI q k) = true := by
 obtain ⟨x, rfl⟩ : ∃ x : Nat, X = x := ⟨X.toNat, by omega⟩
 obtain ⟨s1, s2, s3⟩ := shl1 hq
 have e1 : Int.tmod (x : Int) (bShl .u16 1 (q : Int)) = ((x % 2 ^ q : Nat) : Int) := by rw [s1]; rfl
 have hs : bShr .u16 (x : Int) ((q + 1 : Nat) : Int) = ((x / 2 ^ (q + 1) : Nat) : Int) := by
  unfold bShr
  have hm : min (Int.toNat ((q + 1 : Nat) : Int)) IntKind.u16.bits = q + 1 := by
   rw [toNat_nat]
   exact Nat.min_eq_left (by show q + 1 ≤ 16; omega)
  rw [hm]
  have hp : (0 : Int) < 2 ^ (q + 1) := Int.pow_pos (by decide)
  rw [Int.fdiv_eq_ediv_of_nonneg _ (Int.le_of_lt hp)]
  have : (2 : Int) ^ (q + 1) = ((2 ^ (q + 1) : Nat) : Int) := by rw [Int.natCast_pow]; rfl
  rw [this]; rfl
 have hle : x / 2 ^ (q + 1) * 2 ^ q ≤ x := by
  have h1 := Nat.div_mul_le_self x (2 ^ (q + 1))
  have h2 : x / 2 ^ (q + 1) * 2 ^ q ≤ x / 2 ^ (q + 1) * 2 ^ (q + 1) := Nat.mul_le_mul_left _ (Nat.pow_le_pow_right (by decide) (by omega))
  omega
 have e2 : bShl .u16 (bShr .u16 (x : Int) ((q + 1 : Nat) : Int)) (q : Int) = ((x / 2 ^ (q + 1) * 2 ^ q : Nat) : Int) := by
  rw [hs]
  unfold bShl
  have hm : min (Int.toNat (q : Int)) IntKind.u16.bits = q := by
   rw [toNat_nat]
   exact Nat.min_eq_left (by show q ≤ 16; omega)
  rw [hm]
  have : ((x / 2 ^ (q + 1) : Nat) : Int) * 2 ^ q = ((x / 2 ^ (q + 1) * 2 ^ q : Nat) : Int) := by
   rw [Int.natCast_mul, Int.natCast_pow]; rfl
  rw [this]
  exact IntWalk.u16_in _ (by omega)
 rw [e1, e2]
 have hmod : x % 2 ^ q ≤ x := Nat.mod_le _ _
 obtain ⟨o1, o2⟩ := bOr_bt (a := ((x % 2 ^ q : Nat) : Int)) (b := ((x / 2 ^ (q + 1) * 2 ^ q : Nat) : Int)) (by omega) (by omega)
 refine ⟨o1, fun k hk => ?_⟩
 rw [o2, Bool.or_eq_true] at hk
 unfold bt at hk ⊢
 rw [toNat_nat, toNat_nat] at hk
 rw [toNat_nat]
 unfold oldI
 rcases hk with hk | hk
 ·rw [Nat.testBit_mod_two_pow, Bool.and_eq_true] at hk
  have := of_decide_eq_true hk.1
  rw [if_pos this]; exact hk.2
 ·rw [← Nat.shiftLeft_eq, Nat.testBit_shiftLeft, Bool.and_eq_true] at hk
  have h1 := of_decide_eq_true hk.1
  rw [if_neg (by omega)]
  have h2 := hk.2
  rw [← Nat.shiftRight_eq_div_pow, Nat.testBit_shiftRight] at h2
  rw [show k + 1 = q + 1 + (k - q) by omega]; exact h2
theorem newA_range {l : List Job} (hj : JobsOK l) {q i : Nat} (hi : i < l.length) : 0 ≤ newA l q i ∧ newA l q i ≤ 65535 := by
 unfold newA
 cases waitsB l i q
 ·exact (hj _ (getD_mem' hi)).2
 ·exact wu16 _
theorem drop_valid {l : List Job} (hj : JobsOK l) (hv : validB l = true) {q : Nat} (hq : q < l.length) : JobsOK (dropL l q) ∧ validB (dropL l q) = true := by
 have hn := (valid_ord hv).1
 have hlen := dropL_len' hq
 have hold : ∀ m, m < l.length - 1 → oldI q m < l.length := fun m hm => by unfold oldI; split <;> omega
 have hA : ∀ i, i < l.length → ∀ k, bt (newA l q i) k = true → k < 16 ∧ k < l.length ∧ (ordL l).idxOf (k : Int) < (ordL l).idxOf (i : Int) := fun i hi k hk => by
  have h16 := bt_lt (newA_range hj hi) hk
  unfold newA at hk
  cases hw : waitsB l i q with
  | false =>
   rw [hw, cond_false] at hk
   obtain ⟨h1, h2⟩ := aft_wait hj hi hk
   exact ⟨h1, wait_lt hj hv hi h1 h2, wait_idx hj hv hi h1 h2⟩
  | true =>
   rw [hw, cond_true, (bOr_bt (hj _ (getD_mem' (d := ((0, 0) : Job)) hi)).2 (hj _ (getD_mem' (d := ((0, 0) : Job)) hq)).2).2, Bool.or_eq_true] at hk
   rcases hk with hk | hk
   ·obtain ⟨h1, h2⟩ := aft_wait hj hi hk
    exact ⟨h1, wait_lt hj hv hi h1 h2, wait_idx hj hv hi h1 h2⟩
   ·obtain ⟨h1, h2⟩ := aft_wait hj hq hk
    have a1 := wait_idx hj hv hq h1 h2
    have a2 := wait_idx hj hv hi (show q < 16 by omega) hw
    exact ⟨h1, wait_lt hj hv hq h1 h2, by omega⟩
 have hok : JobsOK (dropL l q) := by
  intro x hx
  rw [drop_eq hq] at hx
  obtain ⟨m, hm, rfl⟩ := List.mem_map.1 hx
  have hm := List.mem_range'_1.1 hm
  have hil := hold m (by omega)
  exact ⟨(hj _ (getD_mem' (d := ((0, 0) : Job)) hil)).1, (bit_drop (newA_range hj hil) (by omega)).1⟩
 refine ⟨hok, rank_valid hok (by omega) (fun m hm => ?_) (fun m => (ordL l).idxOf ((oldI q m : Nat) : Int)) fun m k hm hk => ?_⟩
 ·unfold dayB
  rw [drop_get hq (by omega)]
  exact valid_days hj hv (hold m (by omega))
 ·have hil := hold m (by omega)
  unfold aft at hk
  rw [drop_get hq (by omega)] at hk
  have hb := (bit_drop (newA_range hj hil) (show q < 12 by omega)).2 k hk
  have h := hA _ hil _ hb
  refine ⟨?_, h.2.2⟩
  have h2 := h.2.1
  rw [hlen]
  unfold oldI at h2
  split at h2 <;> omega
end Go.RR
namespace Go.RR
open Go
theorem in_true {a lo hi : Int} (h : lo ≤ a ∧ a ≤ hi) : s_q27 a lo hi = true := by
 unfold s_q27
 rw [decide_eq_true (show a ≥ lo from h.1), decide_eq_true (show a ≤ hi from h.2)]; rfl
section
variable {l : List Job} (hj : JobsOK l) (hv : validB l = true)
include hj hv
theorem orders_eq : s_q1l l = some (ordL l, 0) ∧ s_q1s l = some (ordL l, 0) := by
 obtain ⟨h1, h2⟩ := valid_ord hv
 have _ := hj
 unfold s_q1s s_q1l
 rw [sok_eq l (by omega), iok_eq l (by omega), hv]
 simp only [Option.bind, Bool.not_true, cond_false]
 rw [sorder_eq h1, iorder_eq h1, h2]
 exact ⟨rfl, rfl⟩
theorem befores_eq : s_q0x l = some (befo l (ordL l), 0) ∧ s_q14 l = some (befo l (ordL l), 0) := by
 obtain ⟨h1, h2⟩ := valid_ord hv
 have hol := ord_len (l := l)
 unfold s_q14 t_q14 s_q0x t_q0x
 try dsimp (config := {proj := false, iota := false, eta := false}) only
 rw [sok_eq l (by omega), iok_eq l (by omega), mk_ok l.length 2 (by omega), hv]
 simp only [Option.bind, cond_true, toNat_nat, Bool.not_true, cond_false]
 rw [sorder_eq h1, iorder_eq h1, h2]
 simp only [cond_true, Bool.not_true, cond_false]
 rw [sB_eq hj h1 (by omega) ord_mem, iB_eq hj h1 (by omega) ord_mem]
 exact ⟨rfl, rfl⟩
theorem early_eq : s_q0q l = some (earl l (ordL l), 0) ∧ s_q0t l = some (earl l (ordL l), 0) := by
 obtain ⟨h1, h2⟩ := valid_ord hv
 have hol := ord_len (l := l)
 unfold s_q0t s_q0q
 rw [sok_eq l (by omega), iok_eq l (by omega), hv]
 simp only [Option.bind, Bool.not_true, cond_false]
 unfold s_q0o s_q1c t_q1c
 try dsimp (config := {proj := false, iota := false, eta := false}) only
 rw [sorder_eq h1, iorder_eq h1, h2, mk_ok _ _ (by omega)]
 simp only [Option.bind, cond_true, toNat_nat]
 rw [sE_eq hj h1 (by omega) ord_mem, iE_eq hj h1 (by omega) ord_mem]
 exact ⟨rfl, rfl⟩
theorem chains_eq : s_q0h l = some (chainB l 360 (-1) (longB l) [], longB l, 0) ∧ s_q0j l = some (chainB l 360 (-1) (longB l) [], longB l, 0) := by
 obtain ⟨hn, ho⟩ := valid_ord hv
 have hr := (long_ok hj hv).1
 have hI : ChainI l (-1) (longB l) := ⟨hr, .inl ⟨rfl, rfl⟩⟩
 unfold s_q0j s_q0h
 rw [sok_eq l (by omega), iok_eq l (by omega), hv]
 rw [stails_eq hj hn ho, slong_eq hj hn ho, itails_eq hj hn, ilong_eq hj hn]
 simp only [Option.bind, Bool.not_true, cond_false]
 exact ⟨ichain_run hj hv 360 FU (-1) (longB l) [] hI (by omega) (FU_big (pow_big (by omega))) (by simp), schain_run hj hv 360 FU (-1) (longB l) [] hI (by omega) (FU_big (pow_big (by omega))) (by simp)⟩
theorem late_eq : s_q1a l (longB l) = some (lateL l (longB l), 0) ∧ s_q1d l (longB l) = some (lateL l (longB l), 0) := by
 obtain ⟨hn, ho⟩ := valid_ord hv
 have hr := (long_ok hj hv).1
 have hs := slate_run (d := longB l) hn l.length 0 FU (by omega) (FU_big (pow_big (by omega)))
 have hs : f_q1d_run8 (longB l, 0, l, tailL l, []) = _ := hs
 rw [late_all hr.1, decide_eq_false (show ¬ longB l > longB l by omega)] at hs
 have e : s_q1y (longB l) 0 1000 = s_q27 (longB l) 0 1000 := rfl
 unfold s_q1d s_q1a t_q1a
 try dsimp (config := {proj := false, iota := false, eta := false}) only
 rw [sok_eq l (by omega), iok_eq l (by omega), hv, e, in_true (by omega), stails_eq hj hn ho, itails_eq hj hn, ilong_eq hj hn]
 simp only [Option.bind, hs, ilate_run hn, decide_eq_false (show ¬ longB l > longB l by omega)]
 exact ⟨rfl, rfl⟩
theorem late_no (hp : 0 < longB l) : ∃ v : List Int × Int, s_q1a l (longB l - 1) = some v ∧ v.2 = 6 := by
 obtain ⟨hn, ho⟩ := valid_ord hv
 have hr := (long_ok hj hv).1
 have e : s_q1y (longB l - 1) 0 1000 = s_q27 (longB l - 1) 0 1000 := rfl
 unfold s_q1a t_q1a
 try dsimp (config := {proj := false, iota := false, eta := false}) only
 rw [iok_eq l (by omega), hv, e, in_true (by omega), itails_eq hj hn, ilong_eq hj hn]
 simp only [Option.bind, decide_eq_true (show longB l > longB l - 1 by omega)]
 exact ⟨_, rfl, rfl⟩
theorem drops_eq {q : Nat} (hq : q < l.length) : s_q1j l (q : Int) = some (dropL l q, 0) ∧ s_q1q l (q : Int) = some (dropL l q, 0) := by
 obtain ⟨h1, _⟩ := valid_ord hv
 have e : s_q1y (q : Int) 0 (IntKind.wrap .i64 (((l.length : Nat) : Int) - 1)) = s_q27 (q : Int) 0 (IntKind.wrap .i64 (((l.length : Nat) : Int) - 1)) := rfl
 unfold s_q1q t_q1q s_q1j t_q1j s_q22
 try dsimp (config := {proj := false, iota := false, eta := false}) only
 rw [sok_eq l (by omega), iok_eq l (by omega), hv, e, IntWalk.i64_in (((l.length : Nat) : Int) - 1) (by omega), in_true (by omega)]
 exact ⟨iDrop_run hj h1 hq, sDrop_run hj h1 hq⟩
theorem chained_eq {q p : Nat} (hq : q < l.length) (hp : p < l.length) : s_q0y l (q : Int) (p : Int) = some (cond (validB (chainL l q p)) (chainL l q p, 0) ([], 4)) ∧ s_q15 l (q : Int) (p : Int) = some (cond (validB (chainL l q p)) (chainL l q p, 0) ([], 4)) := by
 obtain ⟨h1, _⟩ := valid_ord hv
 have _ := hj
 have e : ∀ a, s_q1y a 0 (IntKind.wrap .i64 (((l.length : Nat) : Int) - 1)) = s_q27 a 0 (IntKind.wrap .i64 (((l.length : Nat) : Int) - 1)) := fun a => rfl
 have hc : s_q0w l = some l := by
  unfold s_q0w
  rw [blt_true (by omega), fits_small (by simp; omega)]
  rfl
 have hlen : (chainL l q p).length = l.length := by simp [chainL]
 have hw : IntKind.wrap .i64 (((l.length : Nat) : Int) - 1) = ((l.length : Nat) : Int) - 1 := IntWalk.i64_in _ (by omega)
 have r1 : s_q27 (q : Int) 0 (IntKind.wrap .i64 (((l.length : Nat) : Int) - 1)) = true := by rw [hw]; exact in_true (by omega)
 have r2 : s_q27 (p : Int) 0 (IntKind.wrap .i64 (((l.length : Nat) : Int) - 1)) = true := by rw [hw]; exact in_true (by omega)
 unfold s_q15 t_q15 s_q0y t_q0y s_q22
 try dsimp (config := {proj := false, iota := false, eta := false}) only
 rw [sok_eq l (by omega), iok_eq l (by omega), hv, e, e, r1, r2]
 simp only [Option.bind]
 constructor
 ·have hok := iok_eq (chainL l q p) (by omega)
  have hcd : (s_q1v true true != 0) = false := rfl
  unfold chainL at hok ⊢
  simp only [hc, hcd, toNat_nat, inB_nat hp, dlt0, cond_true, cond_false, hok]
  cases validB (l.set p ((l.getD p (0, 0)).1, bOr .u16 (l.getD p (0, 0)).2 (bShl .u16 1 (q : Int)))) <;> rfl
 ·rw [fits_small (by simp; omega)]
  have hok := sok_eq (chainL l q p) (by omega)
  unfold chainL at hok ⊢
  simp only [List.nil_append, toNat_nat, inB_nat hp, u64n (k := q) (by omega), dlt0, cond_true, cond_false, Bool.not_true, hok, show ((0 : Int) == 0) = true from rfl, show ((0 : Int) != 0) = false from rfl]
  cases validB (l.set p ((l.getD p (0, 0)).1, bOr .u16 (l.getD p (0, 0)).2 (bShl .u16 1 (q : Int)))) <;> rfl
end
theorem same_jobs (l : List Job) (hl : l.length ≤ 1000000) : s_q0s l l = some true := by
 unfold s_q0s
 have : (((List.length l : Nat) : Int) != ((List.length l : Nat) : Int)) = false := by simp
 rw [this, cond_false]
 unfold f_q0s_run4
 have h := run_all (step := fun x => f_q0s_n4 x.1 x.2.1 x.2.2) l.length (fun i => ((i : Int), l, l)) (fun i => true) true false (by omega) ?_ ?_
 ·exact h.trans (by simp)
 ·intro i hi
  show f_q0s_n4 i l l = _
  unfold f_q0s_n4
  rw [lt_true hi, inB_nat hi, toNat_nat, succ64 (by omega)]
  have a : ((l.getD i (0, 0)).1 == (l.getD i (0, 0)).1) = true := by simp
  have b : ((l.getD i (0, 0)).2 == (l.getD i (0, 0)).2) = true := by simp
  rw [a, b]; rfl
 ·show f_q0s_n4 (l.length : Nat) l l = _
  unfold f_q0s_n4
  rw [lt_neg, cond_false]
theorem same_ints (l : List Int) (hl : l.length ≤ 1000000) : s_q20 l l = some true := by
 have : s_q1t l l = some true := by
  unfold s_q1t
  have : (((List.length l : Nat) : Int) != ((List.length l : Nat) : Int)) = false := by simp
  rw [this, cond_false]
  unfold f_q1t_run4
  have h := run_all (step := fun x => f_q1t_n4 x.1 x.2.1 x.2.2) l.length (fun i => ((i : Int), l, l)) (fun i => true) true false (by omega) ?_ ?_
  ·exact h.trans (by simp)
  ·intro i hi
   show f_q1t_n4 i l l = _
   unfold f_q1t_n4
   rw [lt_true hi, inB_nat hi, toNat_nat, succ64 (by omega)]
   have : (l.getD i 0 != l.getD i 0) = false := by simp
   rw [this]; rfl
  ·show f_q1t_n4 (l.length : Nat) l l = _
   unfold f_q1t_n4
   rw [lt_neg, cond_false]
 unfold s_q20
 rw [this]; rfl
theorem same_bits (l : List Int) (hl : l.length ≤ 1000000) : s_q0r l l = some true := by
 unfold s_q0r
 have : (((List.length l : Nat) : Int) != ((List.length l : Nat) : Int)) = false := by simp
 rw [this, cond_false]
 unfold f_q0r_run4
 have h := run_all (step := fun x => f_q0r_n4 x.1 x.2.1 x.2.2) l.length (fun i => ((i : Int), l, l)) (fun i => true) true false (by omega) ?_ ?_
 ·exact h.trans (by simp)
 ·intro i hi
  show f_q0r_n4 i l l = _
  unfold f_q0r_n4
  rw [lt_true hi, inB_nat hi, toNat_nat, succ64 (by omega)]
  have : (l.getD i 0 != l.getD i 0) = false := by simp
  rw [this]; rfl
 ·show f_q0r_n4 (l.length : Nat) l l = _
  unfold f_q0r_n4
  rw [lt_neg, cond_false]
end Go.RR
