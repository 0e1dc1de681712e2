/- Regions whose order is left open. No condition. -/
import Derived.Test.YtbmaolhjplapoaaGreatDoorRj
set_option linter.unusedVariables false
set_option linter.unusedSimpArgs false
namespace Go.RR
open Go Go.RowKit
theorem mem?_iff : ∀ (l : List Nat) (i : Nat), mem? i l = true ↔ i ∈ l
 | [], i => by simp [mem?]
 | j :: r, i => by
  simp only [mem?, List.mem_cons]
  cases h : Nat.beq i j with
  | true => simp [Nat.eq_of_beq_eq_true h]
  | false =>
   have : i ≠ j := fun e => by subst e; simp at h
   simp [this, mem?_iff r i]
theorem lk_dropS : ∀ (d : Nat) (l : List (Nat × SV)) (i : Nat), lk (dropS d l) i = if i = d then none else lk l i
 | d, [], i => by simp [dropS, lk]
 | d, (j, x) :: r, i => by
  simp only [dropS]
  by_cases hj : j = d
  ·subst hj
   simp only [Nat.beq_refl, cond_true, lk_dropS j r i, lk]
   by_cases h : i = j
   ·simp [h]
   ·simp [h, beqF h]
  ·rw [beqF hj, cond_false]
   simp only [lk, lk_dropS d r i]
   by_cases h : i = j
   ·subst h; simp [hj]
   ·simp [beqF h]
theorem lk_dropSs : ∀ (ds : List Nat) (l : List (Nat × SV)) (i : Nat) (x : SV), lk (dropSs ds l) i = some x → i ∉ ds ∧ lk l i = some x
 | [], l, i, x, h => ⟨by simp, h⟩
 | d :: r, l, i, x, h => by
  obtain ⟨h1, h2⟩ := lk_dropSs r (dropS d l) i x h
  rw [lk_dropS] at h2
  by_cases e : i = d
  ·rw [if_pos e] at h2; cases h2
  ·rw [if_neg e] at h2; exact ⟨by simp [e, h1], h2⟩
theorem lk_dropH : ∀ (d : Nat) (l : List (Nat × Option Blk)) (i : Nat), lk (dropH d l) i = if i = d then none else lk l i
 | d, [], i => by simp [dropH, lk]
 | d, (j, x) :: r, i => by
  simp only [dropH]
  by_cases hj : j = d
  ·subst hj
   simp only [Nat.beq_refl, cond_true, lk_dropH j r i, lk]
   by_cases h : i = j
   ·simp [h]
   ·simp [h, beqF h]
  ·rw [beqF hj, cond_false]
   simp only [lk, lk_dropH d r i]
   by_cases h : i = j
   ·subst h; simp [hj]
   ·simp [beqF h]
theorem lk_dropHs : ∀ (ds : List Nat) (l : List (Nat × Option Blk)) (i : Nat) (x : Option Blk), lk (dropHs ds l) i = some x → i ∉ ds ∧ lk l i = some x
 | [], l, i, x, h => ⟨by simp, h⟩
 | d :: r, l, i, x, h => by
  obtain ⟨h1, h2⟩ := lk_dropHs r (dropH d l) i x h
  rw [lk_dropH] at h2
  by_cases e : i = d
  ·rw [if_pos e] at h2; cases h2
  ·rw [if_neg e] at h2; exact ⟨by simp [e, h1], h2⟩
theorem lk_keepHs (bs : List Nat) : ∀ (l : List (Nat × Option Blk)) (i : Nat) (x : Option Blk), lk (keepHs bs l) i = some x → i ∈ bs ∧ lk l i = some x
 | [], i, x, h => by cases h
 | (j, y) :: r, i, x, h => by
  simp only [keepHs] at h
  cases hm : mem? j bs with
  | false =>
   rw [hm, cond_false] at h
   obtain ⟨h1, h2⟩ := lk_keepHs bs r i x h
   refine ⟨h1, ?_⟩
   simp only [lk]
   by_cases e : i = j
   ·subst e
    rw [(mem?_iff bs i).2 h1] at hm; cases hm
   ·rw [beqF e, cond_false]; exact h2
  | true =>
   rw [hm, cond_true] at h
   simp only [lk] at h ⊢
   by_cases e : i = j
   ·subst e
    simp only [Nat.beq_refl, cond_true] at h ⊢
    exact ⟨(mem?_iff bs i).1 hm, h⟩
   ·rw [beqF e, cond_false] at h ⊢
    exact lk_keepHs bs r i x h
def lastS (L : Nat → Bool) : List (Nat × Eff) → Nat → Option SV
 | [], _ => none
 | (i, e) :: r, x => match L i, e.dst with
  | true, some (d, v) => if x = d then some v else lastS L r x
  | _, _ => lastS L r x
def lastH (L : Nat → Bool) : List (Nat × Eff) → Nat → Option (Option Blk)
 | [], _ => none
 | (i, e) :: r, b => match L i with
  | true => match lk e.hp b with
   | some v => some v
   | none => lastH L r b
  | false => lastH L r b
theorem stL_sl (L : Nat → Bool) (s : AS) : ∀ (E : List (Nat × Eff)) (x : Nat), lk (stL L s E).sl x = match lastS L E x with | some v => some v | none => lk s.sl x
 | [], x => rfl
 | (i, e) :: r, x => by
  simp only [stL, lastS]
  cases L i with
  | false => simpa using stL_sl L s r x
  | true =>
   simp only [cond_true, AS.apply]
   cases e.dst with
   | none => exact stL_sl L s r x
   | some d =>
    obtain ⟨d, v⟩ := d
    simp only [lk]
    by_cases h : x = d
    ·subst h; simp
    ·rw [beqF h, cond_false, if_neg h]; exact stL_sl L s r x
theorem stL_hp (L : Nat → Bool) (s : AS) : ∀ (E : List (Nat × Eff)) (b : Nat), lk (stL L s E).hp b = match lastH L E b with | some v => some v | none => lk s.hp b
 | [], x => rfl
 | (i, e) :: r, x => by
  simp only [stL, lastH]
  cases L i with
  | false => simpa using stL_hp L s r x
  | true =>
   simp only [cond_true, AS.apply, lk_append]
   cases lk e.hp x with
   | none => exact stL_hp L s r x
   | some v => rfl
theorem lastS_append (L : Nat → Bool) : ∀ (E2 E1 : List (Nat × Eff)) (x : Nat), lastS L (E2 ++ E1) x = match lastS L E2 x with | some v => some v | none => lastS L E1 x
 | [], E1, x => rfl
 | (i, e) :: r, E1, x => by
  simp only [List.cons_append, lastS]
  cases L i with
  | false => exact lastS_append L r E1 x
  | true =>
   cases e.dst with
   | none => exact lastS_append L r E1 x
   | some d =>
    obtain ⟨d, v⟩ := d
    dsimp only
    by_cases h : x = d
    ·rw [if_pos h, if_pos h]
    ·rw [if_neg h, if_neg h]; exact lastS_append L r E1 x
theorem lastH_append (L : Nat → Bool) : ∀ (E2 E1 : List (Nat × Eff)) (x : Nat), lastH L (E2 ++ E1) x = match lastH L E2 x with | some v => some v | none => lastH L E1 x
 | [], E1, x => rfl
 | (i, e) :: r, E1, x => by
  simp only [List.cons_append, lastH]
  cases L i with
  | false => exact lastH_append L r E1 x
  | true =>
   dsimp only
   cases lk e.hp x with
   | none => exact lastH_append L r E1 x
   | some v => rfl
theorem lastS_none {L : Nat → Bool} : ∀ (E : List (Nat × Eff)) (x : Nat), (∀ i e v, (i, e) ∈ E → L i = true → e.dst ≠ some (x, v)) → lastS L E x = none
 | [], x, h => rfl
 | (i, e) :: r, x, h => by
  have ih := lastS_none r x fun i' e' v h1 h2 => h i' e' v (List.mem_cons_of_mem _ h1) h2
  simp only [lastS]
  cases hL : L i with
  | false => exact ih
  | true =>
   cases hd : e.dst with
   | none => exact ih
   | some d =>
    obtain ⟨d, v⟩ := d
    dsimp only
    by_cases hx : x = d
    ·subst hx; exact absurd hd (h i e v (by simp) hL)
    ·rw [if_neg hx]; exact ih
theorem lastH_none {L : Nat → Bool} : ∀ (E : List (Nat × Eff)) (b : Nat), (∀ i e, (i, e) ∈ E → L i = true → lk e.hp b = none) → lastH L E b = none
 | [], x, h => rfl
 | (i, e) :: r, x, h => by
  have ih := lastH_none r x fun i' e' h1 h2 => h i' e' (List.mem_cons_of_mem _ h1) h2
  simp only [lastH]
  cases hL : L i with
  | false => exact ih
  | true =>
   dsimp only
   rw [h i e (by simp) hL]; exact ih
theorem lastS_congr {L L' : Nat → Bool} : ∀ (E : List (Nat × Eff)) (x : Nat), (∀ i e v, (i, e) ∈ E → L i ≠ L' i → e.dst ≠ some (x, v)) → lastS L E x = lastS L' E x
 | [], x, h => rfl
 | (i, e) :: r, x, h => by
  have ih := lastS_congr r x fun i' e' v h1 h2 => h i' e' v (List.mem_cons_of_mem _ h1) h2
  simp only [lastS]
  by_cases hL : L i = L' i
  ·rw [hL]
   cases L' i with
   | false => exact ih
   | true =>
    cases e.dst with
    | none => exact ih
    | some d =>
     obtain ⟨d, v⟩ := d
     dsimp only
     by_cases hx : x = d
     ·rw [if_pos hx, if_pos hx]
     ·rw [if_neg hx, if_neg hx]; exact ih
  ·have hd : ∀ d v, e.dst = some (d, v) → x ≠ d := fun d v hd hx => by subst hx; exact h i e v (by simp) hL hd
   cases he : e.dst with
   | none => cases L i <;> cases L' i <;> exact ih
   | some d =>
    obtain ⟨d, v⟩ := d
    have hx := hd d v he
    cases L i <;> cases L' i <;> dsimp only <;> first | exact ih | (simp only [if_neg hx]; exact ih) | (rw [if_neg hx]; exact ih) | (rw [if_neg hx, if_neg hx]; exact ih)
theorem lastH_congr {L L' : Nat → Bool} : ∀ (E : List (Nat × Eff)) (b : Nat), (∀ i e, (i, e) ∈ E → L i ≠ L' i → lk e.hp b = none) → lastH L E b = lastH L' E b
 | [], x, h => rfl
 | (i, e) :: r, x, h => by
  have ih := lastH_congr r x fun i' e' h1 h2 => h i' e' (List.mem_cons_of_mem _ h1) h2
  simp only [lastH]
  by_cases hL : L i = L' i
  ·rw [hL, ih]
  ·have := h i e (by simp) hL
   rw [this, ih]
   cases L i <;> cases L' i <;> rfl
def gSt (s : AS) (ops : List Oper) (o : Oper) : Option Bool := match o.guard with
 | none => some true
 | some (g, w) => wantS s (dstOf ops g) w
def Step (W : SW) (T : Tab) (D : List (List Nat)) (ops : List Oper) (s : AS) (E : List (Nat × Eff)) (j n : Nat) (o : Oper) (e : Eff) : Prop :=
 (gSt (viewD T D ops s E j n o) ops o = some true ∧ OpOK W o (viewD T D ops s E j n o) e) ∨ (gSt (viewD T D ops s E j n o) ops o = some false ∧ e = ⟨dstE o.dst .un, [], n⟩)
def Built (W : SW) (T : Tab) (D : List (List Nat)) (ops : List Oper) (s : AS) : List (Nat × Eff) → Nat → Prop
 | [], n => n = s.n
 | (j, e) :: E, n => j = E.length ∧ n = e.n ∧ ∃ n0 o, Built W T D ops s E n0 ∧ ops[j]? = some o ∧ dstOk W.N o = true ∧ prdOk D o j = true ∧ dstSame o n0 e = true ∧ besideD T D ops s j n0 e E = true ∧ Step W T D ops s E j n0 o e
section
variable {R : Type} {W : SW} {X : Ctx} {T : Tab} {D : List (List Nat)} {ops : List Oper} {s : AS}
theorem splitE_ok {spl : Bool} {e : Eff} {K : Eff → Option R} {r : R} (h : splitE spl e K = some r) : K e = some r := by
 obtain ⟨dst, hp, n⟩ := e
 unfold splitE at h
 split at h
 ·rename_i d b he
  dsimp only at he
  subst he
  cases b <;> exact h
 ·exact h
theorem dops_built (hX : CtxW W X) {K : AS → Option R} {r : R} : ∀ (rest : List Oper) (j n : Nat) (E : List (Nat × Eff)), ops.drop j = rest → j = E.length → rest.all (dstOk W.N) = true → Built W X.T D ops s E n → dops X D ops s K rest j n E = some r →
  ∃ E' n', Built W X.T D ops s E' n' ∧ E'.length = ops.length ∧ K ⟨(stL (fun _ => true) s E').sl, (stL (fun _ => true) s E').hp, n'⟩ = some r
 | [], j, n, E, hr, hj, _, hB, h => by
  refine ⟨E, n, hB, ?_, h⟩
  have h1 := List.drop_eq_nil_iff.1 hr
  have h2 : E.length ≤ ops.length := by
   cases E with
   | nil => exact Nat.zero_le _
   | cons p E =>
    obtain ⟨i, e⟩ := p
    obtain ⟨h3, _, n0, o, _, h4, _⟩ := hB
    have := (List.getElem?_eq_some_iff.1 h4).1
    simp; omega
  omega
 | o :: rest, j, n, E, hr, hj, hd, hB, h => by
  rw [List.all_cons, Bool.and_eq_true] at hd
  have hoj : ops[j]? = some o := by
   have : (ops.drop j)[0]? = some o := by rw [hr]; rfl
   simpa using this
  have hr' : ops.drop (j + 1) = rest := by
   have : (ops.drop j).drop 1 = rest := by rw [hr]; rfl
   simpa [List.drop_drop] using this
  simp only [dops] at h
  obtain ⟨hp, h⟩ := cond_some h
  have h : (match gSt (viewD X.T D ops s E j n o) ops o with
   | some true => aop X (viewD X.T D ops s E j n o) o fun e => splitE (isGuard ops j || isPickCond ops o.dst) e fun e => cond (dstSame o n e && besideD X.T D ops s j n e E) (dops X D ops s K rest (j + 1) e.n ((j, e) :: E)) none
   | some false => cond (dstSame o n ⟨dstE o.dst .un, [], n⟩ && besideD X.T D ops s j n ⟨dstE o.dst .un, [], n⟩ E) (dops X D ops s K rest (j + 1) n ((j, ⟨dstE o.dst .un, [], n⟩) :: E)) none
   | none => none) = some r := h
  cases hgs : gSt (viewD X.T D ops s E j n o) ops o with
  | none => rw [hgs] at h; cases h
  | some b =>
   rw [hgs] at h
   cases b with
   | true =>
    dsimp only at h
    obtain ⟨e, h1, h2⟩ := aop_ok hX hd.1 h
    obtain ⟨h3, h4⟩ := cond_some (splitE_ok h1)
    rw [Bool.and_eq_true] at h3
    exact dops_built hX rest (j + 1) e.n ((j, e) :: E) hr' (by simp [hj]) hd.2 ⟨hj, rfl, n, o, hB, hoj, hd.1, hp, h3.1, h3.2, .inl ⟨hgs, h2⟩⟩ h4
   | false =>
    dsimp only at h
    obtain ⟨h3, h4⟩ := cond_some h
    rw [Bool.and_eq_true] at h3
    exact dops_built hX rest (j + 1) n ((j, ⟨dstE o.dst .un, [], n⟩) :: E) hr' (by simp [hj]) hd.2 ⟨hj, rfl, n, o, hB, hoj, hd.1, hp, h3.1, h3.2, .inr ⟨hgs, rfl⟩⟩ h4
def Beside (T : Tab) (D : List (List Nat)) (ops : List Oper) (s : AS) (E1 : List (Nat × Eff)) (j : Nat) (e : Eff) (i n : Nat) (f : Eff) : Prop :=
 mem? j (getN D i) = true ∨ ((∀ d v d' v', f.dst = some (d, v) → e.dst = some (d', v') → d ≠ d') ∧ ((∀ p ∈ f.hp, e.n ≤ p.1) ∨ ∃ o, ops[j]? = some o ∧ (blind o.op = true ∨ (seeK o.op = true ∧ ∀ p ∈ f.hp, e.n ≤ p.1 ∨ (p.1 < effN s E1 ∧ p.1 ∉ see T (viewS D ops s E1 j) o)))))
theorem besideD_spec : ∀ (E : List (Nat × Eff)) (i n : Nat) (f : Eff), besideD T D ops s i n f E = true → ∀ E2 j e E1, E = E2 ++ (j, e) :: E1 → Beside T D ops s E1 j e i n f
 | [], i, n, f, h, E2, j, e, E1, hm => by simp at hm
 | (k, g) :: E, i, n, f, h, E2, j, e, E1, hm => by
  simp only [besideD, Bool.and_eq_true] at h
  cases E2 with
  | nil =>
   simp only [List.nil_append, List.cons.injEq, Prod.mk.injEq] at hm
   obtain ⟨⟨rfl, rfl⟩, rfl⟩ := hm
   have h1 := h.1
   rw [Bool.or_eq_true, Bool.and_eq_true, Bool.or_eq_true] at h1
   rcases h1 with h1 | ⟨h1, h2⟩
   ·exact .inl h1
   ·refine .inr ⟨fun d v d' v' hd hd' hdd => ?_, h2.imp (fun h2 p hp => Nat.le_of_ble_eq_true (List.all_eq_true.1 h2 p hp)) fun h2 => ?_⟩
    ·rw [hd, hd'] at h1
     subst hdd
     simp at h1
    ·split at h2
     ·rename_i o ho
      refine ⟨o, ho, ?_⟩
      rw [Bool.or_eq_true, Bool.and_eq_true] at h2
      refine h2.imp id fun h2 => ⟨h2.1, fun p hp => ?_⟩
      have h3 := List.all_eq_true.1 h2.2 p hp
      rw [Bool.or_eq_true, Bool.and_eq_true] at h3
      refine h3.imp Nat.le_of_ble_eq_true fun h3 => ⟨by simpa [Nat.blt_eq] using h3.1, fun hmem => ?_⟩
      rw [(mem?_iff _ _).2 hmem] at h3
      simp at h3
     ·cases h2
  | cons q E2 =>
   simp only [List.cons_append, List.cons.injEq] at hm
   exact besideD_spec E i n f h.2 E2 j e E1 hm.2
theorem built_effN {E : List (Nat × Eff)} {n : Nat} (h : Built W T D ops s E n) : effN s E = n := by
 cases E with
 | nil => exact h.symm
 | cons p E =>
  obtain ⟨j, e⟩ := p
  exact h.2.1.symm
theorem built_get : ∀ (E : List (Nat × Eff)) (n : Nat), Built W T D ops s E n → ∀ j, j < E.length → ∃ E2 e E1 n0 o, E = E2 ++ (j, e) :: E1 ∧ j = E1.length ∧ Built W T D ops s E1 n0 ∧ ops[j]? = some o ∧ dstOk W.N o = true ∧ prdOk D o j = true ∧ dstSame o n0 e = true ∧ besideD T D ops s j n0 e E1 = true ∧ Step W T D ops s E1 j n0 o e ∧
  (∀ i f, (i, f) ∈ E2 → j < i ∧ ∃ m, e.n ≤ m ∧ Beside T D ops s E1 j e i m f) ∧ e.n ≤ n
 | [], n, hB, j, hj => by simp at hj
 | (k, g) :: E, n, hB, j, hj => by
  obtain ⟨hk, rfl, n0, o, hB', ho, hdo, hp, hs, hbs, hst⟩ := hB
  have hmono : n0 ≤ g.n := by
   rcases hst with ⟨_, h⟩ | ⟨_, rfl⟩
   ·have := h.1.1
    exact this
   ·exact Nat.le_refl _
  by_cases hjk : j = k
  ·subst hjk
   exact ⟨[], g, E, n0, o, rfl, hk, hB', ho, hdo, hp, hs, hbs, hst, (fun i f h => by cases h), Nat.le_refl _⟩
  ·obtain ⟨E2, e, E1, n1, o1, rfl, q1, q2, q3, q4, q5, q6, q7, q8, q9, q10⟩ := built_get E n0 hB' j (by simp at hj; omega)
   refine ⟨(k, g) :: E2, e, E1, n1, o1, rfl, q1, q2, q3, q4, q5, q6, q7, q8, fun i f h => ?_, by omega⟩
   rcases List.mem_cons.1 h with h | h
   ·cases h
    refine ⟨?_, n0, q10, besideD_spec _ k n0 g hbs E2 j e E1 rfl⟩
    rw [hk]; simp; omega
   ·exact q9 i f h
theorem built_lt : ∀ (E : List (Nat × Eff)) (n : Nat), Fresh s → Built W T D ops s E n → s.n ≤ n ∧ ∀ b, (lk s.hp b).isSome = true ∨ (∃ i f, (i, f) ∈ E ∧ (lk f.hp b).isSome = true) → b < n
 | [], n, hf, hB => by
  obtain rfl : n = s.n := hB
  refine ⟨Nat.le_refl _, fun b hb => ?_⟩
  rcases hb with hb | ⟨i, f, h, _⟩
  ·by_cases h : b < s.n
   ·exact h
   ·rw [hf b (by omega)] at hb; cases hb
  ·cases h
 | (k, g) :: E, n, hf, hB => by
  obtain ⟨hk, rfl, n0, o, hB', ho, hdo, hp, hs, hbs, hst⟩ := hB
  obtain ⟨h1, h2⟩ := built_lt E n0 hf hB'
  have hmono : n0 ≤ g.n := by
   rcases hst with ⟨_, h⟩ | ⟨_, rfl⟩
   ·exact h.1.1
   ·exact Nat.le_refl _
  refine ⟨by omega, fun b hb => ?_⟩
  rcases hb with hb | ⟨i, f, h, hb⟩
  ·have := h2 b (.inl hb); omega
  ·rcases List.mem_cons.1 h with h | h
   ·cases h
    rcases hst with ⟨_, h⟩ | ⟨_, rfl⟩
    ·cases hl : lk g.hp b with
     | none => rw [hl] at hb; cases hb
     | some x =>
      rcases h.1.2 b x (lk_mem _ _ _ hl) with ⟨_, h3⟩ | h3
      ·exact h3
      ·have : b < n0 := by
        apply h2
        have h4 : (lk (stL (fun i => mem? i (getN D k)) s E).hp b).isSome = true := by
         unfold viewD at h3
         dsimp only at h3
         split at h3
         ·cases h3
         ·have key : ∀ l : List (Nat × Option Blk), (l = dropHs (farH D k E) (stL (fun i => mem? i (getN D k)) s E).hp ∨ ∃ bs, l = keepHs bs (dropHs (farH D k E) (stL (fun i => mem? i (getN D k)) s E).hp)) → (lk l b).isSome = true → (lk (stL (fun i => mem? i (getN D k)) s E).hp b).isSome = true := by
           intro l hl h3
           cases hv : lk l b with
           | none => rw [hv] at h3; cases h3
           | some y =>
            rcases hl with rfl | ⟨bs, rfl⟩
            ·rw [(lk_dropHs _ _ _ _ hv).2]; rfl
            ·rw [(lk_dropHs _ _ _ _ (lk_keepHs _ _ _ _ hv).2).2]; rfl
          split at h3
          ·exact key _ (.inr ⟨_, rfl⟩) h3
          ·exact key _ (.inl rfl) h3
        rw [stL_hp] at h4
        cases hlh : lastH (fun i => mem? i (getN D k)) E b with
        | none => rw [hlh] at h4; exact .inl h4
        | some y =>
         refine .inr ?_
         apply Classical.byContradiction
         intro hno
         have : lastH (fun i => mem? i (getN D k)) E b = none := lastH_none E b fun i f hif _ => by
          cases hl2 : lk f.hp b with
          | none => rfl
          | some z => exact absurd ⟨i, f, hif, by rw [hl2]; rfl⟩ hno
         rw [this] at hlh; cases hlh
       omega
    ·cases hb
   ·have := h2 b (.inr ⟨i, f, h, hb⟩); omega
theorem dirs_spec {o : Oper} {d : Nat} : d ∈ dirs o ↔ ∃ e ∈ o.after, Region.binds .any e = true ∧ e.on = d := by
 unfold dirs
 simp only [List.mem_map, List.mem_filter, Array.mem_toList_iff]
 constructor
 ·rintro ⟨e, ⟨h1, h2⟩, h3⟩; exact ⟨e, h1, h2, h3⟩
 ·rintro ⟨e, h1, h2, h3⟩; exact ⟨e, ⟨h1, h2⟩, h3⟩
theorem prdOk_spec {o : Oper} {j : Nat} (h : prdOk D o j = true) : (∀ d ∈ dirs o, d < j) ∧ ∀ k, mem? k (getN D j) = true → k ∈ dirs o ∨ ∃ e ∈ dirs o, mem? k (getN D e) = true := by
 unfold prdOk at h
 rw [Bool.and_eq_true] at h
 refine ⟨fun d hd => Nat.le_of_ble_eq_true (List.all_eq_true.1 h.1 d hd), fun k hk => ?_⟩
 have h2 := List.all_eq_true.1 h.2 k ((mem?_iff _ _).1 hk)
 rw [Bool.or_eq_true] at h2
 refine h2.imp (fun h2 => (mem?_iff _ _).1 h2) fun h2 => ?_
 obtain ⟨e, he, h3⟩ := List.any_eq_true.1 h2
 exact ⟨e, he, h3⟩
theorem closed_all {L : Nat → Bool} (hP : ∀ (i : Nat) (o : Oper), ops[i]? = some o → prdOk D o i = true) (hc : ∀ (i : Nat) (o : Oper), ops[i]? = some o → L i = true → ∀ d ∈ dirs o, L d = true) :
  ∀ (i : Nat) (o : Oper), ops[i]? = some o → (∀ d ∈ dirs o, L d = true) → ∀ k, mem? k (getN D i) = true → L k = true ∧ k < i := by
 intro i
 induction i using Nat.strongRecOn with
 | _ i ih =>
  intro o ho hd k hk
  obtain ⟨h1, h2⟩ := prdOk_spec (hP i o ho)
  rcases h2 k hk with h | ⟨e, he, h⟩
  ·exact ⟨hd k h, h1 k h⟩
  ·have hlt := h1 e he
   have hoe : ∃ oe, ops[e]? = some oe := ⟨_, List.getElem?_eq_getElem (Nat.lt_trans hlt (List.getElem?_eq_some_iff.1 ho).1)⟩
   obtain ⟨oe, hoe⟩ := hoe
   obtain ⟨q1, q2⟩ := ih e hlt oe hoe (hc e oe hoe (hd e he)) k h
   exact ⟨q1, by omega⟩
theorem farS_mem {j d : Nat} : ∀ (r : List Oper) (i0 k : Nat) (o : Oper), r[k]? = some o → i0 + k ≠ j → mem? (i0 + k) (getN D j) = false → mem? j (getN D (i0 + k)) = false → o.dst = some d → d ∈ farS D j r i0
 | [], i0, k, o, h, _, _, _, _ => by cases h
 | p :: r, i0, k, o, h, h1, h2, h3, h4 => by
  cases k with
  | zero =>
   simp only [List.getElem?_cons_zero, Option.some.injEq] at h
   subst h
   rw [Nat.add_zero] at h1 h2 h3
   simp only [farS, beqF h1, h2, h3, h4, Bool.or_self]
   simp
  | succ k =>
   simp only [List.getElem?_cons_succ] at h
   have e : i0 + (k + 1) = i0 + 1 + k := by omega
   rw [e] at h1 h2 h3
   have := farS_mem r (i0 + 1) k o h h1 h2 h3 h4
   simp only [farS]
   split
   ·exact List.mem_cons_of_mem _ this
   ·exact this
theorem farH_mem {j b : Nat} : ∀ (E : List (Nat × Eff)) (i : Nat) (e : Eff), (i, e) ∈ E → mem? i (getN D j) = false → (lk e.hp b).isSome = true → b ∈ farH D j E
 | [], i, e, h, _, _ => by cases h
 | (k, g) :: E, i, e, h, h1, h2 => by
  simp only [farH]
  rcases List.mem_cons.1 h with h | h
  ·cases h
   rw [h1]
   refine List.mem_append_left _ ?_
   cases hl : lk g.hp b with
   | none => rw [hl] at h2; cases h2
   | some x => exact List.mem_map.2 ⟨_, lk_mem _ _ _ hl, rfl⟩
  ·have := farH_mem E i e h h1 h2
   split
   ·exact this
   ·exact List.mem_append_right _ this
theorem dst_of {o : Oper} {n : Nat} {e : Eff} (h : dstSame o n e = true) {d : Nat} {v : SV} (hd : e.dst = some (d, v)) : o.dst = some d := by
 unfold dstSame at h
 rw [Bool.and_eq_true] at h
 rw [hd] at h
 have h1 := h.1
 split at h1
 ·rename_i d1 v1 d2 he ho
  cases he
  rw [ho, Nat.eq_of_beq_eq_true h1]
 ·rename_i he; cases he
 ·cases h1
theorem blind_of {o : Oper} {n : Nat} {e : Eff} (h : dstSame o n e = true) (hb : blind o.op = true) : e.hp = [] ∧ e.n = n := by
 unfold dstSame at h
 rw [Bool.and_eq_true] at h
 have h2 := h.2
 rw [Bool.and_eq_true] at h2
 have h3 := h2.1
 rw [hb] at h3
 simp only [cond_true, Bool.and_eq_true, List.isEmpty_iff] at h3
 exact ⟨h3.1, Nat.eq_of_beq_eq_true h3.2⟩
theorem see_of {o : Oper} {n : Nat} {e : Eff} (h : dstSame o n e = true) (hb : seeK o.op = true) {b : Nat} {x : Option Blk} (hm : (b, x) ∈ e.hp) : n ≤ b := by
 unfold dstSame at h
 rw [Bool.and_eq_true] at h
 have h2 := h.2
 rw [Bool.and_eq_true] at h2
 have h3 := h2.2
 rw [hb] at h3
 simp only [cond_true] at h3
 exact Nat.le_of_ble_eq_true (List.all_eq_true.1 h3 _ hm)
theorem wanted_of {S : Nat → SV} {H : HF} {v : AS} (hs : Sub v S H) {o : Oper} {b : Bool} (h : gSt v ops o = some b) {σ : Nat → Value} {a : Act} {w : World} (hsim : Sim W S H σ a w) : Region.wanted o (yielded ops.toArray a.tmps) = b := by
 unfold gSt at h
 cases hg : o.guard with
 | none =>
  rw [hg] at h
  obtain rfl := Option.some.inj h
  simp only [Region.wanted, hg]
 | some p =>
  obtain ⟨g, want⟩ := p
  rw [hg] at h
  dsimp only at h
  unfold wantS at h
  split at h
  ·cases h
  ·rename_i i hi
   have hd : ∃ o', ops[g]? = some o' ∧ o'.dst = some i := by
    unfold dstOf at hi
    split at hi
    ·rename_i o' ho'; exact ⟨o', ho', hi⟩
    ·cases hi
   obtain ⟨o', h1, h2⟩ := hd
   have hsl := hsim.slot i
   split at h
   ·rename_i v' hv
    rw [hs.slot hv (fun e => by cases e)] at hsl
    obtain rfl := Option.some.inj h
    have hq : a.tmps.getD i undef = .bool v' := hsl.1
    have hy : yielded ops.toArray a.tmps g = some v' := by
     cases ht : a.tmps[i]? with
     | none => simp [Array.getD_eq_getD_getElem?, ht, undef] at hq
     | some u =>
      have : u = .bool v' := by simpa [Array.getD_eq_getD_getElem?, ht] using hq
      subst this
      simp [yielded, h1, h2, ht]
    simp only [Region.wanted, hg, hy]
    cases v' <;> cases want <;> rfl
   ·rename_i hv
    rw [hs.slot hv (fun e => by cases e)] at hsl
    obtain rfl := Option.some.inj h
    have hq : a.tmps.getD i undef = undef := hsl
    have hy : yielded ops.toArray a.tmps g = none := by
     cases ht : a.tmps[i]? with
     | none => simp [yielded, h1, h2, ht]
     | some u =>
      have : u = undef := by simpa [Array.getD_eq_getD_getElem?, ht] using hq
      subst this
      simp [yielded, h1, h2, ht, undef]
    simp only [Region.wanted, hg, hy]
    rfl
   ·cases h
theorem countP_less {p q : Nat → Bool} : ∀ (l : List Nat), (∀ x ∈ l, q x = true → p x = true) → (∃ x ∈ l, p x = true ∧ q x = false) → l.countP q < l.countP p
 | [], _, ⟨x, h, _⟩ => by cases h
 | y :: l, h, ⟨x, hx, h1, h2⟩ => by
  have hle : l.countP q ≤ l.countP p := List.countP_mono_left fun z hz => h z (List.mem_cons_of_mem _ hz)
  simp only [List.countP_cons]
  rcases List.mem_cons.1 hx with rfl | hx
  ·rw [h1, h2]; simp; omega
  ·have := countP_less l (fun z hz => h z (List.mem_cons_of_mem _ hz)) ⟨x, hx, h1, h2⟩
   by_cases hq : q y = true
   ·rw [hq, h y (by simp) hq]; simp; omega
   ·simp only [Bool.not_eq_true] at hq
    rw [hq]; simp; omega
theorem appH_lk (H : HF) : ∀ (h : List (Nat × Option Blk)) (b : Nat), appH H h b = match lk h b with | some x => some x | none => H b
 | [], b => rfl
 | (j, x) :: h, b => by
  show setF (appH H h) j _ b = _
  simp only [lk]
  by_cases e : b = j
  ·subst e; rw [setF_same]; simp
  ·rw [setF_other _ _ e, beqF e, cond_false]; exact appH_lk H h b
theorem built_idx : ∀ (E : List (Nat × Eff)) (n : Nat), Built W T D ops s E n → ∀ i e, (i, e) ∈ E → i < E.length
 | [], n, _, i, e, h => by cases h
 | (k, g) :: E, n, hB, i, e, h => by
  obtain ⟨hk, _, n0, _, hB', _⟩ := hB
  rcases List.mem_cons.1 h with h | h
  ·cases h; simp [hk]
  ·have := built_idx E n0 hB' i e h; simp; omega
theorem any_ok {E : List (Nat × Eff)} {n : Nat} (hf : Fresh s) (hB : Built W T D ops s E n) (hlen : E.length = ops.length) {Q : Exit → Act → World → Prop}
  (hfin : ∀ σ a w, Sim W (SFof (stL (fun _ => true) s E)) (HFof (stL (fun _ => true) s E)) σ a w → Q .normal a w) :
  ∀ (fuel : Nat) (listed : Array Bool) (σ : Nat → Value) (a : Act) (w : World), listed.size = ops.length →
   (∀ (i : Nat) (o : Oper), ops[i]? = some o → listed.getD i false = true → ∀ d ∈ dirs o, listed.getD d false = true) →
   (List.range ops.length).countP (fun i => !listed.getD i false) ≤ fuel →
   Sim W (SFof (stL (fun i => listed.getD i false) s E)) (HFof (stL (fun i => listed.getD i false) s E)) σ a w → wpAny W.P .any ops.toArray Q fuel listed a w := by
 have hP : ∀ (i : Nat) (o : Oper), ops[i]? = some o → prdOk D o i = true := by
  intro i o ho
  obtain ⟨_, _, _, _, o', _, _, _, h1, _, h2, _⟩ := built_get E n hB i (by rw [hlen]; exact (List.getElem?_eq_some_iff.1 ho).1)
  rw [ho] at h1; cases h1; exact h2
 have hidx : ∀ i e, (i, e) ∈ E → i < ops.length := fun i e h => by rw [← hlen]; exact built_idx E n hB i e h
 have hgd : ∀ (listed : Array Bool) i, listed.size = ops.length → i < ops.length → listed.getD i true = listed.getD i false := by
  intro listed i h1 h2
  simp [Array.getD_eq_getD_getElem?, h1, h2]
 have hall : ∀ listed : Array Bool, listed.size = ops.length → Region.ready .any ops.toArray listed = [] → ∀ i, i < ops.length → listed.getD i false = true := by
  intro listed hsz hr i
  induction i using Nat.strongRecOn with
  | _ i ih =>
   intro hi
   cases hl : listed.getD i false with
   | true => rfl
   | false =>
    exfalso
    have : i ∈ Region.ready .any ops.toArray listed := by
     rw [mem_ready]
     refine ⟨by rw [hgd listed i hsz hi]; exact hl, ops[i], by simp [hi], fun e he hb => ?_⟩
     have hd : e.on ∈ dirs ops[i] := dirs_spec.2 ⟨e, he, hb, rfl⟩
     have := (prdOk_spec (hP i ops[i] (List.getElem?_eq_getElem hi))).1 _ hd
     exact ih e.on this (by omega)
    rw [hr] at this; cases this
 have hdone : ∀ (listed : Array Bool) σ a w, listed.size = ops.length → (∀ i, i < ops.length → listed.getD i false = true) → Sim W (SFof (stL (fun i => listed.getD i false) s E)) (HFof (stL (fun i => listed.getD i false) s E)) σ a w → Q .normal a w := by
  intro listed σ a w hsz ha hsim
  refine hfin σ a w ?_
  have e1 : SFof (stL (fun _ => true) s E) = SFof (stL (fun i => listed.getD i false) s E) := by
   funext x
   unfold SFof AS.slot
   rw [stL_sl, stL_sl, lastS_congr E x fun i e v h1 h2 => absurd (ha i (hidx i e h1)).symm h2]
  have e2 : HFof (stL (fun _ => true) s E) = HFof (stL (fun i => listed.getD i false) s E) := by
   funext x
   unfold HFof
   rw [stL_hp, stL_hp, lastH_congr E x fun i e h1 h2 => absurd (ha i (hidx i e h1)).symm h2]
  rw [e1, e2]; exact hsim
 intro fuel
 induction fuel with
 | zero =>
  intro listed σ a w hsz hc hcnt hsim
  have ha : ∀ i, i < ops.length → listed.getD i false = true := by
   intro i hi
   cases hl : listed.getD i false with
   | true => rfl
   | false =>
    have : 0 < (List.range ops.length).countP (fun i => !listed.getD i false) := List.countP_pos_iff.2 ⟨i, List.mem_range.2 hi, by rw [hl]; rfl⟩
    omega
  refine ⟨?_, hdone listed σ a w hsz ha hsim⟩
  refine List.eq_nil_iff_forall_not_mem.2 fun i hi => ?_
  rw [mem_ready] at hi
  obtain ⟨h1, o, h2, _⟩ := hi
  have hlt : i < ops.length := by have := (Array.getElem?_eq_some_iff.1 h2).1; simpa using this
  rw [hgd listed i hsz hlt, ha i hlt] at h1
  cases h1
 | succ fuel ih =>
  intro listed σ a w hsz hc hcnt hsim
  refine ⟨fun hr => hdone listed σ a w hsz (hall listed hsz hr) hsim, fun i hi => ?_⟩
  rw [mem_ready] at hi
  obtain ⟨h1, o, h2, h3⟩ := hi
  have hoi : ops[i]? = some o := by simpa using h2
  have hlt : i < ops.length := (List.getElem?_eq_some_iff.1 hoi).1
  rw [hgd listed i hsz hlt] at h1
  have hdl : ∀ d ∈ dirs o, listed.getD d false = true := by
   intro d hd
   obtain ⟨e, q1, q2, q3⟩ := dirs_spec.1 hd
   rw [← q3]; exact h3 e q1 q2
  obtain ⟨E2, e, E1, n0, o', hE, hj, hB1, ho', hdo, hp, hds, hbs, hst, hlater, _⟩ := built_get E n hB i (by rw [hlen]; exact hlt)
  rw [hoi] at ho'
  obtain rfl := Option.some.inj ho'
  have hD : ∀ k, mem? k (getN D i) = true → listed.getD k false = true ∧ k < i := closed_all (L := fun k => listed.getD k false) hP hc i o hoi hdl
  have hE2 : ∀ k f, (k, f) ∈ E2 → listed.getD k false = true → mem? i (getN D k) = false := by
   intro k f hkf hk
   cases hm : mem? i (getN D k) with
   | false => rfl
   | true =>
    have hkl := hidx k f (by rw [hE]; exact List.mem_append_left _ hkf)
    have hok := List.getElem?_eq_getElem hkl
    have := (closed_all (L := fun k => listed.getD k false) hP hc k _ hok (hc k _ hok hk) i hm).1
    rw [h1] at this; cases this
  have hE1lt : ∀ k f, (k, f) ∈ E1 → k < i := fun k f hkf => by rw [hj]; exact built_idx E1 n0 hB1 k f hkf
  have hdstE : ∀ k f d v, (k, f) ∈ E → f.dst = some (d, v) → ∃ ok, ops[k]? = some ok ∧ ok.dst = some d := by
   intro k f d v hkf hd
   obtain ⟨F2, g, F1, m0, ok, hF, hk, hBk, hok, _, _, hds', _, _, hl', _⟩ := built_get E n hB k (by rw [hlen]; exact hidx k f hkf)
   rw [hF] at hkf
   rcases List.mem_append.1 hkf with h | h
   ·have := (hl' k f h).1; omega
   ·rcases List.mem_cons.1 h with h | h
    ·cases h; exact ⟨ok, hok, dst_of hds' hd⟩
    ·have := built_idx F1 m0 hBk k f h; omega
  have hfar : ∀ k f x v, (k, f) ∈ E → k ≠ i → listed.getD k false = true → mem? k (getN D i) = false → mem? i (getN D k) = false → f.dst = some (x, v) → x ∈ farS D i ops 0 := by
   intro k f x v hkf hki _ hm1 hm2 hd
   obtain ⟨ok, q1, q2⟩ := hdstE k f x v hkf hd
   exact farS_mem ops 0 k ok q1 (by omega) (by rw [Nat.zero_add]; exact hm1) (by rw [Nat.zero_add]; exact hm2) q2
  have hback : ∀ k f, (k, f) ∈ E1 → listed.getD k false = true → mem? i (getN D k) = false := by
   intro k f hkf hk
   cases hm : mem? i (getN D k) with
   | false => rfl
   | true =>
    have hkl := hidx k f (by rw [hE]; exact List.mem_append_right _ (List.mem_cons_of_mem _ hkf))
    have hok := List.getElem?_eq_getElem hkl
    have := (closed_all (L := fun k => listed.getD k false) hP hc k _ hok (hc k _ hok hk) i hm).2
    have := hE1lt k f hkf
    omega
  have hfwd : ∀ k f, (k, f) ∈ E2 → mem? k (getN D i) = false := by
   intro k f hkf
   cases hm : mem? k (getN D i) with
   | false => rfl
   | true =>
    have := (hD k hm).2
    have := (hlater k f hkf).1
    omega
  obtain ⟨hn0, hltE1⟩ := built_lt E1 n0 hf hB1
  have hnote : ∀ k f b, (k, f) ∈ E1 → n0 ≤ b → lk f.hp b = none := by
   intro k f b hkf hb
   cases hl : lk f.hp b with
   | none => rfl
   | some x => have := hltE1 b (.inr ⟨k, f, hkf, by rw [hl]; rfl⟩); omega
  have hlateH : ∀ k f b, (k, f) ∈ E2 → listed.getD k false = true → b < e.n → blind o.op = false → (n0 ≤ b ∨ seeK o.op = false ∨ b ∈ see T (viewS D ops s E1 i) o) → lk f.hp b = none := by
   intro k f b hkf hk hb hbl hsee
   obtain ⟨_, m, hm, hbs'⟩ := hlater k f hkf
   rcases hbs' with h | ⟨_, h | ⟨o2, h4, h5⟩⟩
   ·rw [hE2 k f hkf hk] at h; cases h
   ·cases hl : lk f.hp b with
    | none => rfl
    | some x => have := h _ (lk_mem _ _ _ hl); dsimp only at this; omega
   ·rw [hoi] at h4; cases h4
    rcases h5 with h5 | ⟨h5, h6⟩
    ·rw [hbl] at h5; cases h5
    ·cases hl : lk f.hp b with
     | none => rfl
     | some x =>
      exfalso
      rw [built_effN hB1] at h6
      rcases h6 _ (lk_mem _ _ _ hl) with h6 | ⟨h6, h7⟩
      ·dsimp only at h6; omega
      ·dsimp only at h6 h7
       rcases hsee with hsee | hsee | hsee
       ·omega
       ·rw [h5] at hsee; cases hsee
       ·exact h7 hsee
  have hmono : n0 ≤ e.n := by
   rcases hst with ⟨_, h⟩ | ⟨_, rfl⟩
   ·exact h.1.1
   ·exact Nat.le_refl _
  have hsub : Sub (viewD T D ops s E1 i n0 o) (SFof (stL (fun k => listed.getD k false) s E)) (HFof (stL (fun k => listed.getD k false) s E)) := by
   constructor
   ·intro x v hx
    have hx' : lk (dropSs (farS D i ops 0) (stL (fun k => mem? k (getN D i)) s E1).sl) x = some v := hx
    obtain ⟨q1, q2⟩ := lk_dropSs _ _ _ _ hx'
    rw [stL_sl] at q2
    have e2 : lastS (fun k => listed.getD k false) E2 x = none := lastS_none E2 x fun k f v' hkf hk hd =>
     q1 (hfar k f x v' (by rw [hE]; exact List.mem_append_left _ hkf) (by have := (hlater k f hkf).1; omega) hk (hfwd k f hkf) (hE2 k f hkf hk) hd)
    have e1 : lastS (fun k => listed.getD k false) E1 x = lastS (fun k => mem? k (getN D i)) E1 x := lastS_congr E1 x fun k f v' hkf hne hd => by
     cases hm : mem? k (getN D i) with
     | true => rw [hm, (hD k hm).1] at hne; exact hne rfl
     | false =>
      cases hk : listed.getD k false with
      | false => rw [hm, hk] at hne; exact hne rfl
      | true => exact q1 (hfar k f x v' (by rw [hE]; exact List.mem_append_right _ (List.mem_cons_of_mem _ hkf)) (by have := hE1lt k f hkf; omega) hk hm (hback k f hkf hk) hd)
    unfold SFof AS.slot
    rw [stL_sl, hE, lastS_append, e2]
    simp only [lastS, h1]
    rw [e1, q2]
   ·intro b v hb
    have hb' : lk (match blind o.op with | true => [] | false => match seeK o.op with | true => keepHs (see T (viewS D ops s E1 i) o) (dropHs (farH D i E1) (stL (fun k => mem? k (getN D i)) s E1).hp) | false => dropHs (farH D i E1) (stL (fun k => mem? k (getN D i)) s E1).hp) b = some v := hb
    cases hbl : blind o.op with
    | true => rw [hbl] at hb'; cases hb'
    | false =>
     rw [hbl] at hb'
     have hb2 : (seeK o.op = false ∨ b ∈ see T (viewS D ops s E1 i) o) ∧ lk (dropHs (farH D i E1) (stL (fun k => mem? k (getN D i)) s E1).hp) b = some v := by
      cases hsk : seeK o.op with
      | true =>
       rw [hsk] at hb'
       obtain ⟨r1, r2⟩ := lk_keepHs _ _ _ _ hb'
       exact ⟨.inr r1, r2⟩
      | false =>
       rw [hsk] at hb'
       exact ⟨.inl rfl, hb'⟩
     obtain ⟨q1, q2⟩ := lk_dropHs _ _ _ _ hb2.2
     rw [stL_hp] at q2
     have hbn : b < n0 := by
      cases hlh : lastH (fun k => mem? k (getN D i)) E1 b with
      | none =>
       rw [hlh] at q2
       have q2' : lk s.hp b = some v := q2
       exact hltE1 b (.inl (by rw [q2']; rfl))
      | some y =>
       apply Classical.byContradiction
       intro hge
       have : lastH (fun k => mem? k (getN D i)) E1 b = none := lastH_none E1 b fun k f hkf _ => hnote k f b hkf (by omega)
       rw [this] at hlh; cases hlh
     have e2 : lastH (fun k => listed.getD k false) E2 b = none := lastH_none E2 b fun k f hkf hk => hlateH k f b hkf hk (by omega) hbl (.inr hb2.1)
     have e1 : lastH (fun k => listed.getD k false) E1 b = lastH (fun k => mem? k (getN D i)) E1 b := lastH_congr E1 b fun k f hkf hne => by
      cases hm : mem? k (getN D i) with
      | true => rw [hm, (hD k hm).1] at hne; exact absurd rfl hne
      | false =>
       cases hl : lk f.hp b with
       | none => rfl
       | some y => exact absurd (farH_mem E1 k f hkf hm (by rw [hl]; rfl)) q1
     unfold HFof
     rw [stL_hp, hE, lastH_append, e2]
     simp only [lastH, h1]
     rw [e1]; exact q2
  have hL' : ∀ k, (listed.setIfInBounds i true).getD k false = if k = i then true else listed.getD k false := by
   intro k
   by_cases hk : k = i
   ·subst hk
    rw [if_pos rfl]
    simp [Array.getD_eq_getD_getElem?, hsz, hlt]
   ·rw [if_neg hk, getD_set_ne false (fun h => hk h.symm)]
  have hE2' : ∀ k f, (k, f) ∈ E2 → (listed.setIfInBounds i true).getD k false = listed.getD k false := fun k f hkf => by
   rw [hL', if_neg (by have := (hlater k f hkf).1; omega)]
  have hE1' : ∀ k f, (k, f) ∈ E1 → (listed.setIfInBounds i true).getD k false = listed.getD k false := fun k f hkf => by
   rw [hL', if_neg (by have := hE1lt k f hkf; omega)]
  have hS : SFof (stL (fun k => (listed.setIfInBounds i true).getD k false) s E) = appS (SFof (stL (fun k => listed.getD k false) s E)) e.dst := by
   funext x
   have a2 : lastS (fun k => (listed.setIfInBounds i true).getD k false) E2 x = lastS (fun k => listed.getD k false) E2 x := lastS_congr E2 x fun k f v hkf hne => absurd (hE2' k f hkf) hne
   have a1 : lastS (fun k => (listed.setIfInBounds i true).getD k false) E1 x = lastS (fun k => listed.getD k false) E1 x := lastS_congr E1 x fun k f v hkf hne => absurd (hE1' k f hkf) hne
   have hii : (listed.setIfInBounds i true).getD i false = true := by rw [hL', if_pos rfl]
   have key : ∀ (L : Nat → Bool) (x : Nat), SFof (stL L s E) x = match (match lastS L E x with | some v => some v | none => lk s.sl x) with | some x => x | none => .none := fun L x => by
    unfold SFof AS.slot
    rw [stL_sl]
    rfl
   cases hd : e.dst with
   | none =>
    show SFof _ x = SFof _ x
    rw [key, key, hE, lastS_append, lastS_append, a2]
    simp only [lastS, h1, hii, hd, a1]
   | some p =>
    obtain ⟨d, v⟩ := p
    show SFof _ x = setF (SFof _) d v x
    by_cases hx : x = d
    ·subst hx
     have e2 : lastS (fun k => listed.getD k false) E2 x = none := lastS_none E2 x fun k f v' hkf hk hd' => by
      obtain ⟨_, m, hm, hbs'⟩ := hlater k f hkf
      rcases hbs' with h | ⟨h, _⟩
      ·rw [hE2 k f hkf hk] at h; cases h
      ·exact h x v' x v hd' hd rfl
     rw [setF_same, key, hE, lastS_append, a2, e2]
     simp only [lastS, hii, hd, if_true]
    ·rw [setF_other _ _ hx, key, key, hE, lastS_append, lastS_append, a2]
     simp only [lastS, h1, hii, hd, if_neg hx, a1]
  have hH : HFof (stL (fun k => (listed.setIfInBounds i true).getD k false) s E) = appH (HFof (stL (fun k => listed.getD k false) s E)) e.hp := by
   funext b
   have a2 : lastH (fun k => (listed.setIfInBounds i true).getD k false) E2 b = lastH (fun k => listed.getD k false) E2 b := lastH_congr E2 b fun k f hkf hne => absurd (hE2' k f hkf) hne
   have a1 : lastH (fun k => (listed.setIfInBounds i true).getD k false) E1 b = lastH (fun k => listed.getD k false) E1 b := lastH_congr E1 b fun k f hkf hne => absurd (hE1' k f hkf) hne
   have hii : (listed.setIfInBounds i true).getD i false = true := by rw [hL', if_pos rfl]
   rw [appH_lk]
   unfold HFof
   rw [stL_hp, stL_hp, hE, lastH_append, lastH_append, a2]
   cases hl : lk e.hp b with
   | none => simp only [lastH, h1, hii, hl, a1]
   | some y =>
    have hbl : blind o.op = false := by
     cases hbl : blind o.op with
     | false => rfl
     | true => rw [(blind_of hds hbl).1] at hl; cases hl
    have hbn : b < e.n := by
     have hB2 : Built W T D ops s ((i, e) :: E1) e.n := ⟨hj, rfl, n0, o, hB1, hoi, hdo, hp, hds, hbs, hst⟩
     exact (built_lt _ _ hf hB2).2 b (.inr ⟨i, e, by simp, by rw [hl]; rfl⟩)
    have e2 : lastH (fun k => listed.getD k false) E2 b = none := lastH_none E2 b fun k f hkf hk => hlateH k f b hkf hk hbn hbl (by
     cases hsk : seeK o.op with
     | false => exact .inr (.inl rfl)
     | true => exact .inl (see_of hds hsk (lk_mem _ _ _ hl)))
    rw [e2]
    simp only [lastH, hii, hl]
  have next : ∀ σ' a' w', Sim W (appS (SFof (stL (fun k => listed.getD k false) s E)) e.dst) (appH (HFof (stL (fun k => listed.getD k false) s E)) e.hp) σ' a' w' → wpAny W.P .any ops.toArray Q fuel (listed.setIfInBounds i true) a' w' := by
   intro σ' a' w' hs'
   refine ih _ σ' a' w' (by simp [hsz]) (fun k ok hok hk d hd => ?_) ?_ (by rw [hS, hH]; exact hs')
   ·rw [hL'] at hk
    by_cases hki : k = i
    ·subst hki
     rw [hoi] at hok; cases hok
     exact getD_set_true (hdl d hd)
    ·rw [if_neg hki] at hk
     exact getD_set_true (hc k ok hok hk d hd)
   ·have := countP_less (p := fun k => !listed.getD k false) (q := fun k => !(listed.setIfInBounds i true).getD k false) (List.range ops.length) (fun k _ hk => by
     by_cases hki : k = i
     ·subst hki; rw [h1]; rfl
     ·rw [hL', if_neg hki] at hk; exact hk) ⟨i, List.mem_range.2 hlt, by rw [h1]; rfl, by rw [hL', if_pos rfl]; rfl⟩
    omega
  unfold wpOp
  rw [h2]
  dsimp only
  rcases hst with ⟨hg, hop⟩ | ⟨hg, rfl⟩
  ·rw [wanted_of hsub hg hsim, if_pos rfl]
   refine .inl (hop.2 _ _ σ a w hsub (fun b hb1 hb2 => ?_) hsim _ Q next)
   have hb1 : n0 ≤ b := hb1
   have hbl : blind o.op = false := by
    cases hbl : blind o.op with
    | false => rfl
    | true => have := (blind_of hds hbl).2; omega
   have e2 : lastH (fun k => listed.getD k false) E2 b = none := lastH_none E2 b fun k f hkf hk => hlateH k f b hkf hk hb2 hbl (.inl hb1)
   have e1 : lastH (fun k => listed.getD k false) E1 b = none := lastH_none E1 b fun k f hkf hk => hnote k f b hkf hb1
   unfold HFof
   rw [stL_hp, hE, lastH_append, e2]
   simp only [lastH, h1]
   rw [e1]
   cases hl : lk s.hp b with
   | none => rfl
   | some y => have := hltE1 b (.inl (by rw [hl]; rfl)); omega
  ·rw [wanted_of hsub hg hsim]
   exact next σ _ w (hsim.put (dstOk_spec hdo) rfl)
theorem dops_ok (hX : CtxW W X) (hm : W.P.follows .mixedOrders = true) {R : Type} {K : AS → Option R} {r : R} {Q : Exit → Act → World → Prop} (hK : ∀ s σ a w, K s = some r → St W s σ a w → Q .normal a w)
  {ops : Array Oper} {id : Nat} {D : List (List Nat)} {s : AS} (hd : ops.toList.all (dstOk W.N) = true) (h : dops X D ops.toList s K ops.toList 0 s.n [] = some r) {σ : Nat → Value} {a : Act} {w : World} (hs : St W s σ a w) : (Code.region id ops true).wp W.P Q a w := by
 obtain ⟨E, n, hB, hlen, hk⟩ := dops_built hX ops.toList 0 s.n [] rfl rfl hd rfl h
 refine wp_region_any hm ?_
 have hlt := built_lt E n hs.1 hB
 have := any_ok (W := W) (Q := Q) hs.1 hB hlen (fun σ' a' w' hsim => hK _ σ' a' w' hk ⟨fun b hb => ?_, hsim⟩) ops.size (Array.replicate ops.size false) σ a { w with drawn := w.drawn + 1 } (by simp) (fun i o _ hl => ?_) ?_ ?_
 ·simpa using this
 ·show lk (stL (fun _ => true) s E).hp b = none
  rw [stL_hp]
  have hb : n ≤ b := hb
  have e1 : lastH (fun _ => true) E b = none := lastH_none E b fun k f hkf _ => by
   cases hl : lk f.hp b with
   | none => rfl
   | some y => have := hlt.2 b (.inr ⟨k, f, hkf, by rw [hl]; rfl⟩); omega
  rw [e1]
  exact hs.1 b (by have := hlt.1; omega)
 ·rw [Array.getD_eq_getD_getElem?] at hl
  simp [Array.getElem?_replicate] at hl
  split at hl <;> simp at hl
 ·refine Nat.le_trans List.countP_le_length ?_
  simp
 ·have e : ∀ (E : List (Nat × Eff)), stL (fun i => (Array.replicate ops.size false).getD i false) s E = s := by
   intro E
   induction E with
   | nil => rfl
   | cons p E ih =>
    obtain ⟨i, e⟩ := p
    have : (Array.replicate ops.size false).getD i false = false := by
     simp [Array.getD_eq_getD_getElem?, Array.getElem?_replicate]
     split <;> rfl
    simp only [stL, this, cond_false]; exact ih
  rw [e]
  have hsim := hs.2
  exact ⟨⟨hsim.bel.os, hsim.bel.tape, hsim.bel.output, hsim.bel.size, hsim.bel.block⟩, hsim.defers, hsim.size, hsim.one, hsim.slot, hsim.blk, hsim.sep, hsim.gh⟩
end
end Go.RR
