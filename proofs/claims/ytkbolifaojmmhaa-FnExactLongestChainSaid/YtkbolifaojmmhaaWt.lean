/- The plain law of LongestChain. -/
import Derived.Test.YtkbolifaojmmhaaWs
set_option linter.unusedVariables false
set_option linter.unusedSimpArgs false
namespace Go.RR
open Go

theorem run_find {σ ρ : Type} {step : σ → Option (σ ⊕ ρ)} (N : Nat) (emb : Nat → σ) (q : Nat → Bool) (fin : Option Nat → ρ) (hs : ∀ i, i < N → step (emb i) = some (cond (q i) (.inr (fin (some i))) (.inl (emb (i + 1))))) (he : step (emb N) = some (.inr (fin none))) :
    ∀ (k i m : Nat), i + k = N → k < m → iter step m (emb i) = some (fin ((List.range' i k).find? q))
  | 0, i, m + 1, h, hm => by
    obtain rfl : i = N := h
    unfold iter
    rw [he]; rfl
  | k + 1, i, m + 1, h, hm => by
    rw [List.range'_succ, List.find?_cons]
    unfold iter
    rw [hs i (by omega)]
    cases q i
    · exact run_find N emb q fin hs he k (i + 1) m (by omega) (by omega)
    · rfl
  | _, _, 0, _, hm => by omega

/-! ### what tails are -/
noncomputable def dayB (l : List Job) (j : Nat) : Int := (l.getD j (0, 0)).1
theorem valid_days {l : List Job} (hj : JobsOK l) (hv : validB l = true) {j : Nat} (hjl : j < l.length) : 1 ≤ dayB l j ∧ dayB l j ≤ 30 := by
  unfold validB at hv
  simp only [Bool.and_eq_true] at hv
  have := List.all_eq_true.1 hv.2.1 _ (getD_mem' (d := ((0, 0) : Job)) hjl)
  unfold jobP at this
  simp only [Bool.and_eq_true] at this
  have h := this.1
  have hr := (hj _ (getD_mem' (d := ((0, 0) : Job)) hjl)).1
  rw [IntWalk.i64_in (l.getD j (0, 0)).1 (by omega)] at h
  unfold s_sl00In at h
  unfold dayB
  cases h1 : decide ((l.getD j (0, 0)).1 ≥ 1)
  · rw [h1] at h; cases h
  · rw [h1] at h
    have a := of_decide_eq_true h1
    have b := of_decide_eq_true h
    omega
theorem mostT_ok {l : List Job} {st : List Int} {j : Nat} {B : Int} (hB : ∀ k, 0 ≤ st.getD k 0 ∧ st.getD k 0 ≤ B) : ∀ (ks : List Nat) (m : Int), 0 ≤ m ∧ m ≤ B → (m ≤ mostT l st j ks m ∧ mostT l st j ks m ≤ B) ∧ (mostT l st j ks m = m ∨ ∃ k ∈ ks, waitsB l k j = true ∧ st.getD k 0 = mostT l st j ks m)
  | [], m, h => ⟨⟨Int.le_refl _, h.2⟩, .inl rfl⟩
  | k :: ks, m, h => by
    have hk := hB k
    unfold mostT
    rw [List.foldl_cons]
    cases hw : waitsB l k j
    · obtain ⟨h1, h2⟩ := mostT_ok hB ks m h
      refine ⟨h1, ?_⟩
      rcases h2 with h2 | ⟨x, hx, q⟩
      · exact .inl h2
      · exact .inr ⟨x, List.mem_cons_of_mem _ hx, q⟩
    · obtain ⟨h1, h2⟩ := mostT_ok (l := l) (j := j) hB ks (max m (st.getD k 0)) (by omega)
      unfold mostT at h1 h2
      rw [cond_true]
      refine ⟨by omega, ?_⟩
      rcases h2 with h2 | ⟨x, hx, q⟩
      · rcases Int.le_total m (st.getD k 0) with hle | hle
        · right
          exact ⟨k, by simp, hw, by omega⟩
        · left; omega
      · exact .inr ⟨x, List.mem_cons_of_mem _ hx, q⟩
theorem mostT_set {l : List Job} {st : List Int} {i j : Nat} {v : Int} (hw : waitsB l i j = false) : ∀ (ks : List Nat) (m : Int), mostT l (st.set i v) j ks m = mostT l st j ks m
  | [], m => rfl
  | k :: ks, m => by
    unfold mostT
    rw [List.foldl_cons, List.foldl_cons]
    by_cases hk : i = k
    · subst hk
      rw [hw, cond_false, cond_false]
      exact mostT_set hw ks m
    · rw [set_get_ne hk]
      exact mostT_set hw ks _
/-- What is known of tails that are being made. -/
structure TailI (l : List Job) (P : List Int) (st : List Int) : Prop where
  len : st.length = l.length
  rng : ∀ k, 0 ≤ st.getD k 0 ∧ st.getD k 0 ≤ 30 * (P.length : Int)
  zero : ∀ k : Nat, (k : Int) ∉ P → st.getD k 0 = 0
  val : ∀ j : Nat, j < l.length → (j : Int) ∈ P → st.getD j 0 = mostT l st j (List.range' 0 l.length) 0 + dayB l j
theorem tailI_step {l : List Job} (hj : JobsOK l) (hv : validB l = true) {P Q : List Int} {st : List Int} {i : Nat} (he : (ordL l).reverse = P ++ (i : Int) :: Q) (hil : i < l.length) (h : TailI l P st) : TailI l (P ++ [(i : Int)]) (tailS l st i) := by
  obtain ⟨hn, _⟩ := valid_ord hv
  obtain ⟨done, hoi⟩ := ordL_ok hj hn
  have ho : ordL l = Q.reverse ++ (i : Int) :: P.reverse := by
    have : (ordL l).reverse.reverse = (P ++ (i : Int) :: Q).reverse := by rw [he]
    simpa using this
  have hnd := hoi.nd
  rw [ho] at hnd
  have hnw : ∀ j : Nat, j < 16 → (j : Int) ∈ P ∨ j = i → waitsB l i j = false := by
    intro j hj16 hor
    cases hw : waitsB l i j
    · rfl
    · exfalso
      have hm := hoi.top Q.reverse P.reverse i j ho hil hw hj16
      rw [List.nodup_append] at hnd
      have := hnd.2.2 _ hm (j : Int) (by
        rcases hor with hp | rfl
        · exact List.mem_cons_of_mem _ (List.mem_reverse.2 hp)
        · simp)
      exact this rfl
  have hiP : (i : Int) ∉ P := fun hm => by
    rw [List.nodup_append] at hnd
    have := (List.nodup_cons.1 hnd.2.1).1
    exact this (List.mem_reverse.2 hm)
  have hPl : P.length ≤ 12 := by
    have h1 : (ordL l).reverse.length = (P ++ (i : Int) :: Q).length := by rw [he]
    have h2 := ord_len (l := l)
    have h2 : (ordL l).length ≤ l.length := h2
    simp at h1; omega
  have hd := valid_days hj hv hil
  obtain ⟨⟨m1, m2⟩, _⟩ := mostT_ok (l := l) (j := i) h.rng (List.range' 0 l.length) 0 ⟨Int.le_refl _, by omega⟩
  have hval : IntKind.wrap .i64 (mostT l st i (List.range' 0 l.length) 0 + IntKind.wrap .i64 (l.getD i (0, 0)).1) = mostT l st i (List.range' 0 l.length) 0 + dayB l i := by
    unfold dayB at hd ⊢
    rw [IntWalk.i64_in (l.getD i (0, 0)).1 (by omega), IntWalk.i64_in _ (by omega)]
  have hst : tailS l st i = st.set i (mostT l st i (List.range' 0 l.length) 0 + dayB l i) := by
    unfold tailS
    rw [toNat_nat, hval]
  have hlen : ((P ++ [(i : Int)]).length : Int) = (P.length : Int) + 1 := by simp
  refine ⟨by rw [tailS_len]; exact h.len, fun k => ?_, fun k hk => ?_, fun j hjl hm => ?_⟩
  · rw [hst, hlen]
    have hk := h.rng k
    by_cases hki : i = k
    · subst hki
      rw [set_get_eq (by rw [h.len]; exact hil)]
      omega
    · rw [set_get_ne hki]; omega
  · rw [hst]
    have hki : i ≠ k := fun e => hk (by rw [e]; simp)
    rw [set_get_ne hki]
    exact h.zero k fun hm => hk (List.mem_append_left _ hm)
  · rw [hst, mostT_set (hnw j (by omega) (by
      rcases List.mem_append.1 hm with hm | hm
      · exact .inl hm
      · right; simp at hm; omega))]
    by_cases hji : i = j
    · subst hji
      rw [set_get_eq (by rw [h.len]; exact hil)]
    · rw [set_get_ne hji]
      refine h.val j hjl ?_
      rcases List.mem_append.1 hm with hm | hm
      · exact hm
      · exfalso; simp at hm; omega
theorem tailI_all {l : List Job} (hj : JobsOK l) (hv : validB l = true) : ∀ (Q P : List Int) (st : List Int), (ordL l).reverse = P ++ Q → TailI l P st → TailI l ((ordL l).reverse) (Q.foldl (tailS l) st)
  | [], P, st, he, h => by
    rw [List.append_nil] at he
    rw [he]; exact h
  | x :: Q, P, st, he, h => by
    obtain ⟨i, hil, rfl⟩ := ord_mem (l := l) x (List.mem_reverse.1 (by show x ∈ (ordL l).reverse; rw [he]; simp))
    rw [List.foldl_cons]
    exact tailI_all hj hv Q (P ++ [(i : Int)]) _ (by rw [he]; simp) (tailI_step hj hv he hil h)
theorem tailL_ok {l : List Job} (hj : JobsOK l) (hv : validB l = true) : TailI l (ordL l).reverse (tailL l) := by
  refine tailI_all hj hv (ordL l).reverse [] _ rfl ⟨by simp, fun k => ?_, fun k _ => ?_, fun j _ hm => by simp at hm⟩
  · have : (List.replicate l.length (0 : Int)).getD k 0 = 0 := by
      rw [List.getD_eq_getElem?_getD, List.getElem?_replicate]
      split <;> rfl
    rw [this]; simp
  · rw [List.getD_eq_getElem?_getD, List.getElem?_replicate]
    split <;> rfl
theorem tail_rng {l : List Job} (hj : JobsOK l) (hv : validB l = true) (k : Nat) : 0 ≤ (tailL l).getD k 0 ∧ (tailL l).getD k 0 ≤ 360 := by
  have h := (tailL_ok hj hv).rng k
  obtain ⟨hn, _⟩ := valid_ord hv
  have h2 : (ordL l).length ≤ l.length := ord_len
  rw [List.length_reverse] at h
  omega
noncomputable def leftB (l : List Job) (j : Nat) : Int := mostT l (tailL l) j (List.range' 0 l.length) 0
theorem tail_val {l : List Job} (hj : JobsOK l) (hv : validB l = true) {j : Nat} (hjl : j < l.length) (h0 : (tailL l).getD j 0 ≠ 0) : (tailL l).getD j 0 = leftB l j + dayB l j := by
  have h := tailL_ok hj hv
  refine h.val j hjl ?_
  apply Classical.byContradiction
  intro hm
  exact h0 (h.zero j hm)
theorem left_ok {l : List Job} (hj : JobsOK l) (hv : validB l = true) (j : Nat) : 0 ≤ leftB l j ∧ (0 < leftB l j → ∃ k, k < l.length ∧ waitsB l k j = true ∧ (tailL l).getD k 0 = leftB l j) := by
  obtain ⟨⟨m1, m2⟩, m3⟩ := mostT_ok (l := l) (j := j) (tail_rng hj hv) (List.range' 0 l.length) 0 (by omega)
  refine ⟨m1, fun hp => ?_⟩
  rcases m3 with m3 | ⟨k, hk, q1, q2⟩
  · exfalso
    have : leftB l j = 0 := m3
    omega
  · exact ⟨k, by have := List.mem_range'_1.1 hk; omega, q1, q2⟩
theorem long_ok {l : List Job} (hj : JobsOK l) (hv : validB l = true) : (0 ≤ longB l ∧ longB l ≤ 360) ∧ (0 < longB l → ∃ k, k < l.length ∧ (tailL l).getD k 0 = longB l) := by
  obtain ⟨h1, h2, h3⟩ := fold_max (tailL l) 0
  have hl := tailL_len (l := l)
  have key : longB l = 0 ∨ ∃ k, k < l.length ∧ (tailL l).getD k 0 = longB l := by
    rcases h3 with h3 | h3
    · exact .inl h3
    · obtain ⟨k, hk, e⟩ := List.getElem_of_mem h3
      exact .inr ⟨k, by omega, by rw [getD_lt 0 hk]; exact e⟩
  rcases key with e | ⟨k, hk, e⟩
  · exact ⟨by omega, fun h => by omega⟩
  · have := tail_rng hj hv k
    exact ⟨by omega, fun _ => ⟨k, hk, e⟩⟩

/-! ### the chain -/
noncomputable def nextQ (l : List Job) (a left : Int) (k : Nat) : Bool := cond ((tailL l).getD k 0 == left) (cond (decide (a < 0)) true (waitsB l k a.toNat)) false
noncomputable def nextK (l : List Job) (a left : Int) : Option Nat := (List.range' 0 l.length).find? (nextQ l a left)
noncomputable def chainB (l : List Job) : Nat → Int → Int → List Int → List Int
  | 0, a, left, out => out
  | n + 1, a, left, out => cond (decide (left > 0)) (match nextK l a left with | some j => chainB l n j (left - dayB l j) (out ++ [(j : Int)]) | none => out) out
structure ChainI (l : List Job) (a left : Int) : Prop where
  rng : 0 ≤ left ∧ left ≤ 360
  at_ : (a = -1 ∧ left = longB l) ∨ ∃ j : Nat, j < l.length ∧ a = (j : Int) ∧ left = leftB l j
theorem chainI_next {l : List Job} (hj : JobsOK l) (hv : validB l = true) {a left : Int} (h : ChainI l a left) (hp : left > 0) : ∃ j, nextK l a left = some j ∧ j < l.length ∧ ChainI l j (left - dayB l j) ∧ 1 ≤ dayB l j := by
  have hex : ∃ k, k < l.length ∧ nextQ l a left k = true := by
    rcases h.at_ with ⟨rfl, rfl⟩ | ⟨j, hjl, rfl, rfl⟩
    · obtain ⟨k, hk, e⟩ := (long_ok hj hv).2 hp
      refine ⟨k, hk, ?_⟩
      unfold nextQ
      rw [e]; simp
    · obtain ⟨k, hk, w, e⟩ := (left_ok hj hv j).2 hp
      refine ⟨k, hk, ?_⟩
      unfold nextQ
      rw [e, dlt0, toNat_nat, w]; simp
  obtain ⟨k, hk, hq⟩ := hex
  cases hf : nextK l a left with
  | none =>
    exfalso
    unfold nextK at hf
    have := List.find?_eq_none.1 hf k (List.mem_range'_1.2 ⟨Nat.zero_le _, by omega⟩)
    exact this hq
  | some j =>
    have h1 : nextQ l a left j = true := by
      unfold nextK at hf
      exact List.find?_some hf
    have hjl : j < l.length := by
      unfold nextK at hf
      have := List.mem_range'_1.1 (List.mem_of_find?_eq_some hf)
      omega
    have hFj : (tailL l).getD j 0 = left := by
      unfold nextQ at h1
      cases he : ((tailL l).getD j 0 == left)
      · rw [he] at h1; cases h1
      · simpa using he
    have hd := valid_days hj hv hjl
    have hval := tail_val hj hv hjl (by omega)
    have hl := (left_ok hj hv j).1
    have := h.rng
    exact ⟨j, rfl, hjl, ⟨by omega, .inr ⟨j, hjl, rfl, by omega⟩⟩, hd.1⟩
theorem wsub {l : List Job} (hj : JobsOK l) {j : Nat} (hjl : j < l.length) {left : Int} (h : 0 ≤ left ∧ left ≤ 360) : IntKind.wrap .i64 (left - IntKind.wrap .i64 (l.getD j (0, 0)).1) = left - dayB l j := by
  have := (hj _ (getD_mem' (d := ((0, 0) : Job)) hjl)).1
  unfold dayB
  rw [IntWalk.i64_in (l.getD j (0, 0)).1 (by omega), IntWalk.i64_in _ (by omega)]
theorem schain_run {l : List Job} (hj : JobsOK l) (hv : validB l = true) {A : Int} : ∀ (n m : Nat) (a left : Int) (out : List Int), ChainI l a left → left.toNat ≤ n → n < m → out.length + n ≤ 400 →
    iter (fun x => f_sLongestChain_n8 x.1 x.2.1 x.2.2.1 x.2.2.2.1 x.2.2.2.2.1 x.2.2.2.2.2) m (A, a, left, l, tailL l, out) = some (chainB l n a left out, A, 0)
  | n, m + 1, a, left, out, hI, hl, hm, ho => by
    obtain ⟨hn, _⟩ := valid_ord hv
    have htl := tailL_len (l := l)
    unfold iter
    by_cases hp : left > 0
    · obtain ⟨j, hf, hjl, hI', hd⟩ := chainI_next hj hv hI hp
      have e : f_sLongestChain_n8 A a left l (tailL l) out = some (Sum.inl (A, (j : Int), left - dayB l j, l, tailL l, out ++ [(j : Int)])) := by
        unfold f_sLongestChain_n8
        rw [decide_eq_true hp, cond_true]
        unfold f_sLongestChain_run10
        have key := run_find (step := fun x => f_sLongestChain_n10 x.1 x.2.1 x.2.2.1 x.2.2.2.1 x.2.2.2.2.1 x.2.2.2.2.2.1 x.2.2.2.2.2.2) l.length (fun k => (A, a, left, (k : Int), l, tailL l, out)) (nextQ l a left)
          (fun o => match o with | some j => Sum.inl (A, (j : Int), left - dayB l j, l, tailL l, out ++ [(j : Int)]) | none => Sum.inl (A, a, left, l, tailL l, out)) ?_ ?_ l.length 0 FU (by omega) (FU_big (pow_big (by omega)))
        · have key : iter (fun x => f_sLongestChain_n10 x.1 x.2.1 x.2.2.1 x.2.2.2.1 x.2.2.2.2.1 x.2.2.2.2.2.1 x.2.2.2.2.2.2) FU (A, a, left, 0, l, tailL l, out) = some (match nextK l a left with | some j => Sum.inl (A, (j : Int), left - dayB l j, l, tailL l, out ++ [(j : Int)]) | none => Sum.inl (A, a, left, l, tailL l, out)) := key
          rw [hf] at key
          exact key
        · intro k hk
          show f_sLongestChain_n10 A a left k l (tailL l) out = _
          unfold f_sLongestChain_n10 nextQ
          rw [lt_true hk, inB_nat (show k < (tailL l).length by omega), inB_nat hk, toNat_nat, fits_small (by simp; omega), succ64 (by omega), wsub hj hk hI.rng]
          simp only [cond_true]
          cases (tailL l).getD k 0 == left
          · rfl
          · rcases hI.at_ with ⟨rfl, _⟩ | ⟨j0, hj0, rfl, _⟩
            · rfl
            · rw [dlt0, swaits_eq hj hk (by omega), toNat_nat]
              simp only [cond_true, cond_false, Option.bind]
              cases waitsB l k j0 <;> rfl
        · show f_sLongestChain_n10 A a left (l.length : Nat) l (tailL l) out = _
          unfold f_sLongestChain_n10
          rw [lt_neg, cond_false]
      rw [e]
      cases n with
      | zero => omega
      | succ n =>
        unfold chainB
        rw [decide_eq_true hp, cond_true, hf]
        have := hI.rng
        exact schain_run hj hv n m j (left - dayB l j) (out ++ [(j : Int)]) hI' (by omega) (by omega) (by simp; omega)
    · have e : f_sLongestChain_n8 A a left l (tailL l) out = some (Sum.inr (out, A, 0)) := by
        unfold f_sLongestChain_n8
        rw [decide_eq_false hp, cond_false]
      rw [e]
      cases n with
      | zero => rfl
      | succ n =>
        unfold chainB
        rw [decide_eq_false hp]; rfl
theorem ichain_run {l : List Job} (hj : JobsOK l) (hv : validB l = true) {A : Int} : ∀ (n m : Nat) (a left : Int) (out : List Int), ChainI l a left → left.toNat ≤ n → n < m → out.length + n ≤ 400 →
    iter (fun x => f_iLongestChain_n5 x.1 x.2.1 x.2.2.1 x.2.2.2.1 x.2.2.2.2.1 x.2.2.2.2.2) m (A, l, tailL l, out, left, a) = some (chainB l n a left out, A, 0)
  | n, m + 1, a, left, out, hI, hl, hm, ho => by
    obtain ⟨hn, _⟩ := valid_ord hv
    have htl := tailL_len (l := l)
    unfold iter
    by_cases hp : left > 0
    · obtain ⟨j, hf, hjl, hI', hd⟩ := chainI_next hj hv hI hp
      have hidx : s_gIndexFunc_int_c ((List.range' 0 l.length).map fun i : Nat => (i : Int)) (tailL l) left a l = some (j : Int) := by
        unfold s_gIndexFunc_int_c f_gIndexFunc_int_c_run2
        have hlen : ((List.range' 0 l.length).map fun i : Nat => (i : Int)).length = l.length := by simp
        rw [hlen]
        have key := run_find (step := fun x => f_gIndexFunc_int_c_n2 x.1 x.2.1 x.2.2.1 x.2.2.2.1 x.2.2.2.2.1 x.2.2.2.2.2.1 x.2.2.2.2.2.2) l.length (fun k => (((l.length : Nat) : Int), (k : Int), (List.range' 0 l.length).map (fun i : Nat => (i : Int)), tailL l, left, a, l)) (nextQ l a left)
          (fun o => match o with | some j => (j : Int) | none => -1) ?_ ?_ l.length 0 FU (by omega) (FU_big (pow_big (by omega)))
        · have key : iter (fun x => f_gIndexFunc_int_c_n2 x.1 x.2.1 x.2.2.1 x.2.2.2.1 x.2.2.2.2.1 x.2.2.2.2.2.1 x.2.2.2.2.2.2) FU (((l.length : Nat) : Int), 0, (List.range' 0 l.length).map (fun i : Nat => (i : Int)), tailL l, left, a, l) = some (match nextK l a left with | some j => (j : Int) | none => -1) := key
          rw [hf] at key
          exact key
        · intro k hk
          show f_gIndexFunc_int_c_n2 (l.length : Nat) k ((List.range' 0 l.length).map (fun i : Nat => (i : Int))) (tailL l) left a l = _
          unfold f_gIndexFunc_int_c_n2
          have hg : ((List.range' 0 l.length).map fun i : Nat => (i : Int)).getD k 0 = (k : Int) := by
            rw [List.getD_eq_getElem?_getD, List.getElem?_map, List.getElem?_range' hk]
            simp
          have hq : s_iLongestChain_1 k (tailL l) left a l = some (nextQ l a left k) := by
            unfold s_iLongestChain_1 nextQ
            rw [inB_nat (show k < (tailL l).length by omega), inB_nat hk, toNat_nat]
            simp only [cond_true]
            cases (tailL l).getD k 0 == left
            · rfl
            · rcases hI.at_ with ⟨rfl, _⟩ | ⟨j0, hj0, rfl, _⟩
              · rfl
              · rw [dlt0, iwaits_eq hj hk, toNat_nat]
                rfl
          rw [lt_true hk, hlen, inB_nat hk, toNat_nat, hg, hq, succ64 (by omega)]
          simp only [cond_true, Option.bind]
          cases nextQ l a left k <;> rfl
        · show f_gIndexFunc_int_c_n2 (l.length : Nat) (l.length : Nat) ((List.range' 0 l.length).map (fun i : Nat => (i : Int))) (tailL l) left a l = _
          unfold f_gIndexFunc_int_c_n2
          rw [lt_neg, cond_false]
      have e : f_iLongestChain_n5 A l (tailL l) out left a = some (Sum.inl (A, l, tailL l, out ++ [(j : Int)], left - dayB l j, (j : Int))) := by
        unfold f_iLongestChain_n5
        rw [decide_eq_true hp, cond_true, indices_eq hn, Option.bind_some, hidx, Option.bind_some, fits_small (by simp; omega), inB_nat hjl, toNat_nat, wsub hj hjl hI.rng]
        rfl
      rw [e]
      cases n with
      | zero => omega
      | succ n =>
        unfold chainB
        rw [decide_eq_true hp, cond_true, hf]
        have := hI.rng
        exact ichain_run hj hv n m j (left - dayB l j) (out ++ [(j : Int)]) hI' (by omega) (by omega) (by simp; omega)
    · have e : f_iLongestChain_n5 A l (tailL l) out left a = some (Sum.inr (out, A, 0)) := by
        unfold f_iLongestChain_n5
        rw [decide_eq_false hp, cond_false]
      rw [e]
      cases n with
      | zero => rfl
      | succ n =>
        unfold chainB
        rw [decide_eq_false hp]; rfl
theorem chainB_len {l : List Job} : ∀ (n : Nat) (a left : Int) (out : List Int), (chainB l n a left out).length ≤ out.length + n
  | 0, a, left, out => by simp [chainB]
  | n + 1, a, left, out => by
    unfold chainB
    cases decide (left > 0)
    · show out.length ≤ _; omega
    · rw [cond_true]
      cases nextK l a left with
      | none => show out.length ≤ _; omega
      | some j =>
        have := chainB_len (l := l) n j (left - dayB l j) (out ++ [(j : Int)])
        simp at this
        dsimp only
        omega
theorem law_LongestChain {l : List Job} (hlm : l.length ≤ maxLen) (hj : ∀ x ∈ l, (-128 ≤ x.1 ∧ x.1 ≤ 127) ∧ (0 ≤ x.2 ∧ x.2 ≤ 65535)) : s_wFnExactLongestChain l = some true := by
  unfold s_wFnExactLongestChain
  rcases szJobs hlm with ⟨_, h⟩ | ⟨hl, h⟩
  · rw [h]; rfl
  rw [h, cond_false, toJobs (by omega)]
  have key : ∃ v : List Int × Int × Int, s_sLongestChain l = some v ∧ s_iLongestChain l = some v ∧ v.1.length ≤ 1000 := by
    unfold s_sLongestChain s_iLongestChain
    rw [sok_eq l (by omega), iok_eq l (by omega)]
    cases hv : validB l
    · exact ⟨_, rfl, rfl, by simp⟩
    · obtain ⟨hn, ho⟩ := valid_ord hv
      rw [stails_eq hj hn ho, slong_eq hj hn ho, itails_eq hj hn, ilong_eq hj hn]
      have hr := (long_ok hj hv).1
      have hI : ChainI l (-1) (longB l) := ⟨hr, .inl ⟨rfl, rfl⟩⟩
      refine ⟨(chainB l 360 (-1) (longB l) [], longB l, 0), ?_, ?_, ?_⟩
      · simp only [Option.bind, Bool.not_true, cond_false]
        exact schain_run hj hv 360 FU (-1) (longB l) [] hI (by omega) (FU_big (pow_big (by omega))) (by simp)
      · simp only [Option.bind, Bool.not_true, cond_false]
        exact ichain_run hj hv 360 FU (-1) (longB l) [] hI (by omega) (FU_big (pow_big (by omega))) (by simp)
      · have := chainB_len (l := l) 360 (-1) (longB l) []
        show (chainB l 360 (-1) (longB l) []).length ≤ 1000
        simp at this; omega
  obtain ⟨v, e1, e2, hvl⟩ := key
  obtain ⟨m, e3, e4⟩ := markJobs (l := l) (by omega)
  have e5 : decide (((v.1.length + 1 : Nat) : Int) < 0) = false := decide_eq_false (by omega)
  simp only [Option.bind, e1, e2, e3, e4, eqJobs (l := l) (by omega), s27_same v.1 (by omega), s28_eq v.1 (by omega), s29_eq v.1.length (by omega), e5]
  simp
end Go.RR
