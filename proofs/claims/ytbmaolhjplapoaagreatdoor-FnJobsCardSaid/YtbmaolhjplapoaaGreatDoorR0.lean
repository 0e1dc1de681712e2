/- Blocks numbered anew: what renaming keeps. No condition. -/
import Derived.Test.YtbmaolhjplapoaaGreatDoorRd
set_option linter.unusedVariables false
set_option linter.unusedSimpArgs false
set_option linter.unusedSectionVars false
namespace Go.RR
open Go Go.RowKit
theorem idx_spec : ∀ (bs : List Nat) (b i : Nat), idx bs b = some i → bs[i]? = some b
 | [], b, i, h => by cases h
 | j :: r, b, i, h => by
  simp only [idx] at h
  cases hb : Nat.beq b j with
  | true =>
   rw [hb] at h
   obtain rfl := Option.some.inj h
   rw [Nat.eq_of_beq_eq_true hb]; rfl
  | false =>
   rw [hb] at h
   simp only [cond_false] at h
   cases hi : idx r b with
   | none => rw [hi] at h; cases h
   | some k =>
    rw [hi] at h
    obtain rfl := Option.some.inj h
    simpa using idx_spec r b k hi
theorem memN_spec : ∀ (bs : List Nat) (b : Nat), b ∈ bs → memN b bs = true
 | [], b, h => by cases h
 | j :: r, b, h => by
  simp only [memN]
  rcases List.mem_cons.1 h with rfl | h
  ·simp
  ·cases Nat.beq b j
   ·exact memN_spec r b h
   ·rfl
theorem nodupN_spec : ∀ bs : List Nat, nodupN bs = true → bs.Nodup
 | [], _ => List.nodup_nil
 | j :: r, h => by
  simp only [nodupN] at h
  cases hm : memN j r with
  | true => rw [hm] at h; cases h
  | false =>
   rw [hm] at h
   exact List.nodup_cons.2 ⟨fun hj => (by rw [memN_spec r j hj] at hm; cases hm), nodupN_spec r h⟩
theorem blksC_spec (s : AS) (bs : List Nat) : ∀ (r : List Nat) (n : Nat) (hp : List (Nat × Option Blk)), blksC s bs n r = some hp → ∀ i, (i < n ∨ n + r.length ≤ i → lk hp i = none) ∧ ∀ b, r[i]? = some b → lk hp (n + i) = renB s bs b ∧ (renB s bs b).isSome = true
 | [], n, hp, h, i => by
  obtain rfl := Option.some.inj h
  exact ⟨fun _ => rfl, fun b hb => by simp at hb⟩
 | b :: r, n, hp, h, i => by
  simp only [blksC] at h
  split at h
  ·rename_i x xs hx hxs
   obtain rfl := Option.some.inj h
   have ih := blksC_spec s bs r (n + 1) xs hxs
   refine ⟨fun hi => ?_, fun b' hb' => ?_⟩
   ·simp only [List.length_cons] at hi
    simp only [lk]
    rw [beqF (by omega)]
    exact (ih i).1 (by omega)
   ·cases i with
    | zero =>
     simp only [List.getElem?_cons_zero, Option.some.injEq] at hb'
     subst hb'
     simp only [lk, Nat.add_zero, Nat.beq_refl, cond_true]
     exact ⟨hx.symm, by rw [hx]; rfl⟩
    | succ i =>
     simp only [List.getElem?_cons_succ] at hb'
     obtain ⟨h1, h2⟩ := (ih i).2 b' hb'
     simp only [lk]
     rw [beqF (by omega)]
     refine ⟨?_, h2⟩
     rw [show n + (i + 1) = n + 1 + i by omega]
     exact h1
  ·cases h
theorem slotsC_spec (s : AS) (bs : List Nat) : ∀ (r : List Nat) (sl : List (Nat × SV)), slotsC s bs r = some sl → ∀ i x, lk sl i = some x → renS bs (s.slot i) = some x
 | [], sl, h, i, x, hx => by
  obtain rfl := Option.some.inj h
  cases hx
 | j :: r, sl, h, i, x, hx => by
  simp only [slotsC] at h
  split at h
  ·rename_i y ys hy hys
   obtain rfl := Option.some.inj h
   simp only [lk] at hx
   cases hb : Nat.beq i j with
   | true =>
    rw [hb] at hx
    obtain rfl := Option.some.inj hx
    rw [Nat.eq_of_beq_eq_true hb]; exact hy
   | false =>
    rw [hb] at hx
    exact slotsC_spec s bs r ys hys i x hx
  ·cases h
mutual
theorem renA_sz (bs : List Nat) : ∀ a x : A, renA bs a = some x → sz x = sz a ∧ isAg x = isAg a
 | .sl b, x, h => by
  simp only [renA] at h
  split at h
  ·obtain rfl := Option.some.inj h; exact ⟨rfl, rfl⟩
  ·cases h
 | .ptr b p off, x, h => by
  simp only [renA] at h
  split at h
  ·obtain rfl := Option.some.inj h; exact ⟨rfl, rfl⟩
  ·cases h
 | .rc fs, x, h => by
  simp only [renA] at h
  split at h
  ·rename_i gs hgs
   obtain rfl := Option.some.inj h
   exact ⟨by simp only [sz]; exact renL_sz bs fs gs hgs, rfl⟩
  ·cases h
 | .clo f cs, x, h => by
  simp only [renA] at h
  split at h
  ·obtain rfl := Option.some.inj h; exact ⟨rfl, rfl⟩
  ·cases h
 | .v _, x, h | .fa .., x, h | .fb .., x, h | .fa2 .., x, h | .nil _, x, h => by
  simp only [renA, Option.some.injEq] at h; subst h; exact ⟨rfl, rfl⟩
 | .lst .., x, h | .ref _, x, h => by simp only [renA] at h; cases h
theorem renL_sz (bs : List Nat) : ∀ as xs : List A, renL bs as = some xs → szL xs = szL as
 | [], xs, h => by simp only [renL, Option.some.injEq] at h; subst h; rfl
 | a :: as, xs, h => by
  simp only [renL] at h
  split at h
  ·rename_i y ys hy hys
   obtain rfl := Option.some.inj h
   simp only [szL, (renA_sz bs a y hy).1, renL_sz bs as ys hys]
  ·cases h
end
theorem renL_get (bs : List Nat) : ∀ as xs : List A, renL bs as = some xs → ∀ i : Nat, (as[i]? = none ∧ xs[i]? = none) ∨ ∃ a x, as[i]? = some a ∧ xs[i]? = some x ∧ renA bs a = some x
 | [], xs, h, i => by simp only [renL, Option.some.injEq] at h; subst h; exact .inl ⟨by simp, by simp⟩
 | a :: as, xs, h, i => by
  simp only [renL] at h
  split at h
  ·rename_i y ys hy hys
   obtain rfl := Option.some.inj h
   cases i with
   | zero => exact .inr ⟨a, y, by simp, by simp, hy⟩
   | succ i => simpa using renL_get bs as ys hys i
  ·cases h
theorem renL_take (bs : List Nat) : ∀ (as xs : List A), renL bs as = some xs → ∀ i, renL bs (as.take i) = some (xs.take i)
 | [], xs, h, i => by simp only [renL, Option.some.injEq] at h; subst h; simp [renL]
 | a :: as, xs, h, i => by
  simp only [renL] at h
  split at h
  ·rename_i y ys hy hys
   obtain rfl := Option.some.inj h
   cases i with
   | zero => simp [renL]
   | succ i => simp only [List.take_succ_cons, renL, hy, renL_take bs as ys hys i]
  ·cases h
theorem renA_off (bs : List Nat) : ∀ (p : List Nat) (a x : A), renA bs a = some x → offA x p = offA a p
 | [], a, x, h => by rw [offA_nil, offA_nil]
 | i :: p, .rc fs, x, h => by
  simp only [renA] at h
  split at h
  ·rename_i gs hgs
   obtain rfl := Option.some.inj h
   simp only [offA]
   rcases renL_get bs fs gs hgs i with ⟨h1, h2⟩ | ⟨a, y, h1, h2, h3⟩
   ·rw [h1, h2]
   ·rw [h1, h2]
    dsimp only
    rw [renA_off bs p a y h3, renL_sz bs _ _ (renL_take bs fs gs hgs i)]
  ·cases h
 | i :: p, .sl b, x, h => by
  simp only [renA] at h
  split at h
  ·obtain rfl := Option.some.inj h; rfl
  ·cases h
 | i :: p, .ptr b q off, x, h => by
  simp only [renA] at h
  split at h
  ·obtain rfl := Option.some.inj h; rfl
  ·cases h
 | i :: p, .clo f cs, x, h => by
  simp only [renA] at h
  split at h
  ·obtain rfl := Option.some.inj h; rfl
  ·cases h
 | i :: p, .v _, x, h | i :: p, .fa .., x, h | i :: p, .fb .., x, h | i :: p, .fa2 .., x, h | i :: p, .nil _, x, h => by
  simp only [renA, Option.some.injEq] at h; subst h; rfl
 | i :: p, .lst .., x, h | i :: p, .ref _, x, h => by simp only [renA] at h; cases h
section
mutual
theorem renA_enc {bs : List Nat} {σ τ : Nat → Value} (hτ : ∀ i b, bs[i]? = some b → τ i = σ b) : ∀ a x : A, renA bs a = some x → enc τ x = enc σ a
 | .sl b, x, h => by
  simp only [renA] at h
  split at h
  ·rename_i i hi
   obtain rfl := Option.some.inj h
   simp only [enc, hτ i b (idx_spec bs b i hi)]
  ·cases h
 | .ptr b p off, x, h => by
  simp only [renA] at h
  split at h
  ·rename_i i hi
   obtain rfl := Option.some.inj h
   simp only [enc, hτ i b (idx_spec bs b i hi)]
  ·cases h
 | .rc fs, x, h => by
  simp only [renA] at h
  split at h
  ·rename_i gs hgs
   obtain rfl := Option.some.inj h
   simp only [enc, renL_enc hτ fs gs hgs]
  ·cases h
 | .clo f cs, x, h => by
  simp only [renA] at h
  split at h
  ·rename_i gs hgs
   obtain rfl := Option.some.inj h
   simp only [enc, renL_enc hτ cs gs hgs]
  ·cases h
 | .v _, x, h | .fa .., x, h | .fb .., x, h | .fa2 .., x, h | .nil _, x, h => by
  simp only [renA, Option.some.injEq] at h; subst h; rfl
 | .lst .., x, h | .ref _, x, h => by simp only [renA] at h; cases h
theorem renL_enc {bs : List Nat} {σ τ : Nat → Value} (hτ : ∀ i b, bs[i]? = some b → τ i = σ b) : ∀ as xs : List A, renL bs as = some xs → encL τ xs = encL σ as
 | [], xs, h => by simp only [renL, Option.some.injEq] at h; subst h; rfl
 | a :: as, xs, h => by
  simp only [renL] at h
  split at h
  ·rename_i y ys hy hys
   obtain rfl := Option.some.inj h
   simp only [encL, renA_enc hτ a y hy, renL_enc hτ as ys hys]
  ·cases h
end
theorem renA_val {bs : List Nat} {σ τ : Nat → Value} (hτ : ∀ i b, bs[i]? = some b → τ i = σ b) {a x : A} (h : renA bs a = some x) : val τ x = val σ a := by
 unfold val
 rw [(renA_sz bs a x h).2, renA_enc hτ a x h]
end
section
mutual
theorem renA_wf {bs : List Nat} {H H' : HF} (hH : ∀ i b, bs[i]? = some b → (H' i).isSome = true ∧ ∀ blk', H' i = some (some blk') → ∃ blk, H b = some (some blk) ∧ ∀ p, offC blk'.con p = offC blk.con p) : ∀ a x : A, renA bs a = some x → WfA H a → WfA H' x
 | .sl b, x, h, hw => by
  simp only [renA] at h
  split at h
  ·rename_i i hi
   obtain rfl := Option.some.inj h
   exact (hH i b (idx_spec bs b i hi)).1
  ·cases h
 | .ptr b p off, x, h, hw => by
  simp only [renA] at h
  split at h
  ·rename_i i hi
   obtain rfl := Option.some.inj h
   obtain ⟨h1, h2⟩ := hH i b (idx_spec bs b i hi)
   refine ⟨h1, fun blk' hb' => ?_⟩
   obtain ⟨blk, h3, h4⟩ := h2 blk' hb'
   rw [h4]; exact hw.2 blk h3
  ·cases h
 | .rc fs, x, h, hw => by
  simp only [renA] at h
  split at h
  ·rename_i gs hgs
   obtain rfl := Option.some.inj h
   exact renL_wf hH fs gs hgs hw
  ·cases h
 | .clo f cs, x, h, hw => by
  simp only [renA] at h
  split at h
  ·rename_i gs hgs
   obtain rfl := Option.some.inj h
   refine ⟨renL_wf hH cs gs hgs hw.1, List.all_eq_true.2 fun y hy => ?_⟩
   obtain ⟨i, hi⟩ := List.getElem?_of_mem hy
   rcases renL_get bs cs gs hgs i with ⟨_, h2⟩ | ⟨a, y', h1, h2, h3⟩
   ·rw [h2] at hi; cases hi
   ·rw [h2] at hi
    obtain rfl := Option.some.inj hi
    rw [(renA_sz bs a y' h3).2]
    exact List.all_eq_true.1 hw.2 a (List.mem_of_getElem? h1)
  ·cases h
 | .v _, x, h, hw | .fa .., x, h, hw | .fb .., x, h, hw | .fa2 .., x, h, hw | .nil _, x, h, hw => by
  simp only [renA, Option.some.injEq] at h; subst h; exact hw
 | .lst .., x, h, hw | .ref _, x, h, hw => by simp only [renA] at h; cases h
theorem renL_wf {bs : List Nat} {H H' : HF} (hH : ∀ i b, bs[i]? = some b → (H' i).isSome = true ∧ ∀ blk', H' i = some (some blk') → ∃ blk, H b = some (some blk) ∧ ∀ p, offC blk'.con p = offC blk.con p) : ∀ as xs : List A, renL bs as = some xs → WfL H as → WfL H' xs
 | [], xs, h, hw => by simp only [renL, Option.some.injEq] at h; subst h; trivial
 | a :: as, xs, h, hw => by
  simp only [renL] at h
  split at h
  ·rename_i y ys hy hys
   obtain rfl := Option.some.inj h
   exact ⟨renA_wf hH a y hy hw.1, renL_wf hH as ys hys hw.2⟩
  ·cases h
end
end
theorem renL_vals {bs : List Nat} {σ τ : Nat → Value} (hτ : ∀ i b, bs[i]? = some b → τ i = σ b) : ∀ as xs : List A, renL bs as = some xs → xs.map (val τ) = as.map (val σ)
 | [], xs, h => by simp only [renL, Option.some.injEq] at h; subst h; rfl
 | a :: as, xs, h => by
  simp only [renL] at h
  split at h
  ·rename_i y ys hy hys
   obtain rfl := Option.some.inj h
   simp only [List.map_cons, renA_val hτ hy, renL_vals hτ as ys hys]
  ·cases h
end Go.RR
