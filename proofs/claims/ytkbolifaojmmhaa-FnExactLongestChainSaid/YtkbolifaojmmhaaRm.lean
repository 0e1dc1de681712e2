/- Loop heads: the slots that live on, blocks numbered anew. No condition; no theorem of the program. -/
import Derived.Test.YtkbolifaojmmhaaRl
set_option linter.unusedVariables false
set_option linter.unusedSimpArgs false
set_option linter.unusedSectionVars false
namespace Go.RR
open Go Go.RowKit

def memN (i : Nat) : List Nat → Bool
  | [] => false
  | j :: r => cond (Nat.beq i j) true (memN i r)
def idx : List Nat → Nat → Option Nat
  | [], _ => none
  | j :: r, b => cond (Nat.beq b j) (some 0) (match idx r b with | some i => some (i + 1) | none => none)
def nodupN : List Nat → Bool
  | [] => true
  | j :: r => cond (memN j r) false (nodupN r)
mutual
def blocksA : A → List Nat
  | .sl b => [b]
  | .ptr b _ _ => [b]
  | .rc fs => blocksL fs
  | .clo _ cs => blocksL cs
  | _ => []
def blocksL : List A → List Nat
  | [] => []
  | a :: as => blocksA a ++ blocksL as
end
def reach (s : AS) : Nat → List Nat → List Nat → List Nat
  | 0, _, acc => acc
  | _ + 1, [], acc => acc
  | f + 1, b :: todo, acc => cond (memN b acc) (reach s f todo acc) (match s.blk b with
    | some ⟨_, .box a⟩ => reach s f (blocksA a ++ todo) (acc ++ [b])
    | _ => reach s f todo (acc ++ [b]))
def rootsS (s : AS) : List Nat → List Nat
  | [] => []
  | i :: r => (match s.slot i with
    | .a x => blocksA x
    | .tup xs => blocksL xs
    | _ => []) ++ rootsS s r
mutual
def renA (bs : List Nat) : A → Option A
  | .sl b => match idx bs b with
    | some i => some (.sl i)
    | none => none
  | .ptr b p off => match idx bs b with
    | some i => some (.ptr i p off)
    | none => none
  | .rc fs => match renL bs fs with
    | some gs => some (.rc gs)
    | none => none
  | .clo f cs => match renL bs cs with
    | some gs => some (.clo f gs)
    | none => none
  | .v x => some (.v x)
  | .fa n k f => some (.fa n k f)
  | .fb n f => some (.fb n f)
  | .fa2 n m k f => some (.fa2 n m k f)
  | .nil e => some (.nil e)
  | .lst .. | .ref _ => none
def renL (bs : List Nat) : List A → Option (List A)
  | [] => some []
  | a :: as => match renA bs a, renL bs as with
    | some x, some xs => some (x :: xs)
    | _, _ => none
end
def renS (bs : List Nat) : SV → Option SV
  | .a x => match renA bs x with
    | some y => some (.a y)
    | none => none
  | .tup xs => match renL bs xs with
    | some ys => some (.tup ys)
    | none => none
  | .un => some .un
  | .none => none
def renB (s : AS) (bs : List Nat) (b : Nat) : Option (Option Blk) := match lk s.hp b with
  | some (some ⟨own, .box a⟩) => match renA bs a with
    | some x => some (some ⟨own, .box x⟩)
    | none => none
  | some (some ⟨own, .arr e l⟩) => some (some ⟨own, .arr e l⟩)
  | some none => some none
  | none => none
def slotsC (s : AS) (bs : List Nat) : List Nat → Option (List (Nat × SV))
  | [] => some []
  | i :: r => match renS bs (s.slot i), slotsC s bs r with
    | some x, some xs => some ((i, x) :: xs)
    | _, _ => none
def blksC (s : AS) (bs : List Nat) (n : Nat) : List Nat → Option (List (Nat × Option Blk))
  | [] => some []
  | b :: r => match renB s bs b, blksC s bs (n + 1) r with
    | some x, some xs => some ((n, x) :: xs)
    | _, _ => none
def canonB (s : AS) (slots bs : List Nat) : Option AS := match slotsC s bs slots, blksC s bs 0 bs with
  | some sl, some hp => cond (nodupN bs) (some ⟨sl, hp, bs.length⟩) none
  | _, _ => none
def canon (slots : List Nat) (s : AS) : Option AS := canonB s slots (reach s 300 (rootsS s slots) [])
/-- Blocks of one's own that are so no longer. -/
def frzO : Option Blk → Option Blk
  | some ⟨_, c⟩ => some ⟨false, c⟩
  | none => none
def frzB (fz : List Nat) : List (Nat × Option Blk) → List (Nat × Option Blk)
  | [] => []
  | (b, x) :: r => (b, cond (memN b fz) (frzO x) x) :: frzB fz r
/-- Slots with nil become slots with an empty block of one's own. -/
def nilS : List Nat → AS → AS
  | [], s => s
  | i :: r, s => match s.slot i with
    | .a (.nil e) => nilS r ⟨(i, .a (.sl s.n)) :: s.sl, (s.n, some ⟨true, .arr e []⟩) :: s.hp, s.n + 1⟩
    | _ => nilS r s
/-- What a loop's head keeps: its slots, the blocks that freeze there, the slots with nil. -/
abbrev Keep := List Nat × List Nat × List Nat
def cnOf (LV : List (Nat × Keep)) : Nat → AS → Option AS := fun id s => match lk LV id with
  | some (slots, fz, nl) => match canon slots (nilS nl s) with
    | some t => some ⟨t.sl, frzB fz t.hp, t.n⟩
    | none => none
  | none => none

theorem idx_spec : ∀ (bs : List Nat) (b i : Nat), idx bs b = some i → bs[i]? = some b
  | [], b, i, h => by cases h
  | j :: r, b, i, h => by
    simp only [idx] at h
    cases hb : Nat.beq b j with
    | true =>
      rw [hb] at h
      obtain rfl := Option.some.inj h
      rw [Nat.eq_of_beq_eq_true hb]; rfl
    | false =>
      rw [hb] at h
      simp only [cond_false] at h
      cases hi : idx r b with
      | none => rw [hi] at h; cases h
      | some k =>
        rw [hi] at h
        obtain rfl := Option.some.inj h
        simpa using idx_spec r b k hi
theorem memN_spec : ∀ (bs : List Nat) (b : Nat), b ∈ bs → memN b bs = true
  | [], b, h => by cases h
  | j :: r, b, h => by
    simp only [memN]
    rcases List.mem_cons.1 h with rfl | h
    · simp
    · cases Nat.beq b j
      · exact memN_spec r b h
      · rfl
theorem nodupN_spec : ∀ bs : List Nat, nodupN bs = true → bs.Nodup
  | [], _ => List.nodup_nil
  | j :: r, h => by
    simp only [nodupN] at h
    cases hm : memN j r with
    | true => rw [hm] at h; cases h
    | false =>
      rw [hm] at h
      exact List.nodup_cons.2 ⟨fun hj => (by rw [memN_spec r j hj] at hm; cases hm), nodupN_spec r h⟩
theorem blksC_spec (s : AS) (bs : List Nat) : ∀ (r : List Nat) (n : Nat) (hp : List (Nat × Option Blk)), blksC s bs n r = some hp → ∀ i, (i < n ∨ n + r.length ≤ i → lk hp i = none) ∧ ∀ b, r[i]? = some b → lk hp (n + i) = renB s bs b ∧ (renB s bs b).isSome = true
  | [], n, hp, h, i => by
    obtain rfl := Option.some.inj h
    exact ⟨fun _ => rfl, fun b hb => by simp at hb⟩
  | b :: r, n, hp, h, i => by
    simp only [blksC] at h
    split at h
    · rename_i x xs hx hxs
      obtain rfl := Option.some.inj h
      have ih := blksC_spec s bs r (n + 1) xs hxs
      refine ⟨fun hi => ?_, fun b' hb' => ?_⟩
      · simp only [List.length_cons] at hi
        simp only [lk]
        rw [beqF (by omega)]
        exact (ih i).1 (by omega)
      · cases i with
        | zero =>
          simp only [List.getElem?_cons_zero, Option.some.injEq] at hb'
          subst hb'
          simp only [lk, Nat.add_zero, Nat.beq_refl, cond_true]
          exact ⟨hx.symm, by rw [hx]; rfl⟩
        | succ i =>
          simp only [List.getElem?_cons_succ] at hb'
          obtain ⟨h1, h2⟩ := (ih i).2 b' hb'
          simp only [lk]
          rw [beqF (by omega)]
          refine ⟨?_, h2⟩
          rw [show n + (i + 1) = n + 1 + i by omega]
          exact h1
    · cases h
theorem slotsC_spec (s : AS) (bs : List Nat) : ∀ (r : List Nat) (sl : List (Nat × SV)), slotsC s bs r = some sl → ∀ i x, lk sl i = some x → renS bs (s.slot i) = some x
  | [], sl, h, i, x, hx => by
    obtain rfl := Option.some.inj h
    cases hx
  | j :: r, sl, h, i, x, hx => by
    simp only [slotsC] at h
    split at h
    · rename_i y ys hy hys
      obtain rfl := Option.some.inj h
      simp only [lk] at hx
      cases hb : Nat.beq i j with
      | true =>
        rw [hb] at hx
        obtain rfl := Option.some.inj hx
        rw [Nat.eq_of_beq_eq_true hb]; exact hy
      | false =>
        rw [hb] at hx
        exact slotsC_spec s bs r ys hys i x hx
    · cases h

mutual
theorem renA_sz (bs : List Nat) : ∀ a x : A, renA bs a = some x → sz x = sz a ∧ isAg x = isAg a
  | .sl b, x, h => by
    simp only [renA] at h
    split at h
    · obtain rfl := Option.some.inj h; exact ⟨rfl, rfl⟩
    · cases h
  | .ptr b p off, x, h => by
    simp only [renA] at h
    split at h
    · obtain rfl := Option.some.inj h; exact ⟨rfl, rfl⟩
    · cases h
  | .rc fs, x, h => by
    simp only [renA] at h
    split at h
    · rename_i gs hgs
      obtain rfl := Option.some.inj h
      exact ⟨by simp only [sz]; exact renL_sz bs fs gs hgs, rfl⟩
    · cases h
  | .clo f cs, x, h => by
    simp only [renA] at h
    split at h
    · obtain rfl := Option.some.inj h; exact ⟨rfl, rfl⟩
    · cases h
  | .v _, x, h | .fa .., x, h | .fb .., x, h | .fa2 .., x, h | .nil _, x, h => by
    simp only [renA, Option.some.injEq] at h; subst h; exact ⟨rfl, rfl⟩
  | .lst .., x, h | .ref _, x, h => by simp only [renA] at h; cases h
theorem renL_sz (bs : List Nat) : ∀ as xs : List A, renL bs as = some xs → szL xs = szL as
  | [], xs, h => by simp only [renL, Option.some.injEq] at h; subst h; rfl
  | a :: as, xs, h => by
    simp only [renL] at h
    split at h
    · rename_i y ys hy hys
      obtain rfl := Option.some.inj h
      simp only [szL, (renA_sz bs a y hy).1, renL_sz bs as ys hys]
    · cases h
end
theorem renL_get (bs : List Nat) : ∀ as xs : List A, renL bs as = some xs → ∀ i : Nat, (as[i]? = none ∧ xs[i]? = none) ∨ ∃ a x, as[i]? = some a ∧ xs[i]? = some x ∧ renA bs a = some x
  | [], xs, h, i => by simp only [renL, Option.some.injEq] at h; subst h; exact .inl ⟨by simp, by simp⟩
  | a :: as, xs, h, i => by
    simp only [renL] at h
    split at h
    · rename_i y ys hy hys
      obtain rfl := Option.some.inj h
      cases i with
      | zero => exact .inr ⟨a, y, by simp, by simp, hy⟩
      | succ i => simpa using renL_get bs as ys hys i
    · cases h
theorem renL_take (bs : List Nat) : ∀ (as xs : List A), renL bs as = some xs → ∀ i, renL bs (as.take i) = some (xs.take i)
  | [], xs, h, i => by simp only [renL, Option.some.injEq] at h; subst h; simp [renL]
  | a :: as, xs, h, i => by
    simp only [renL] at h
    split at h
    · rename_i y ys hy hys
      obtain rfl := Option.some.inj h
      cases i with
      | zero => simp [renL]
      | succ i => simp only [List.take_succ_cons, renL, hy, renL_take bs as ys hys i]
    · cases h
theorem renA_off (bs : List Nat) : ∀ (p : List Nat) (a x : A), renA bs a = some x → offA x p = offA a p
  | [], a, x, h => by rw [offA_nil, offA_nil]
  | i :: p, .rc fs, x, h => by
    simp only [renA] at h
    split at h
    · rename_i gs hgs
      obtain rfl := Option.some.inj h
      simp only [offA]
      rcases renL_get bs fs gs hgs i with ⟨h1, h2⟩ | ⟨a, y, h1, h2, h3⟩
      · rw [h1, h2]
      · rw [h1, h2]
        dsimp only
        rw [renA_off bs p a y h3, renL_sz bs _ _ (renL_take bs fs gs hgs i)]
    · cases h
  | i :: p, .sl b, x, h => by
    simp only [renA] at h
    split at h
    · obtain rfl := Option.some.inj h; rfl
    · cases h
  | i :: p, .ptr b q off, x, h => by
    simp only [renA] at h
    split at h
    · obtain rfl := Option.some.inj h; rfl
    · cases h
  | i :: p, .clo f cs, x, h => by
    simp only [renA] at h
    split at h
    · obtain rfl := Option.some.inj h; rfl
    · cases h
  | i :: p, .v _, x, h | i :: p, .fa .., x, h | i :: p, .fb .., x, h | i :: p, .fa2 .., x, h | i :: p, .nil _, x, h => by
    simp only [renA, Option.some.injEq] at h; subst h; rfl
  | i :: p, .lst .., x, h | i :: p, .ref _, x, h => by simp only [renA] at h; cases h
section
mutual
theorem renA_enc {bs : List Nat} {σ τ : Nat → Value} (hτ : ∀ i b, bs[i]? = some b → τ i = σ b) : ∀ a x : A, renA bs a = some x → enc τ x = enc σ a
  | .sl b, x, h => by
    simp only [renA] at h
    split at h
    · rename_i i hi
      obtain rfl := Option.some.inj h
      simp only [enc, hτ i b (idx_spec bs b i hi)]
    · cases h
  | .ptr b p off, x, h => by
    simp only [renA] at h
    split at h
    · rename_i i hi
      obtain rfl := Option.some.inj h
      simp only [enc, hτ i b (idx_spec bs b i hi)]
    · cases h
  | .rc fs, x, h => by
    simp only [renA] at h
    split at h
    · rename_i gs hgs
      obtain rfl := Option.some.inj h
      simp only [enc, renL_enc hτ fs gs hgs]
    · cases h
  | .clo f cs, x, h => by
    simp only [renA] at h
    split at h
    · rename_i gs hgs
      obtain rfl := Option.some.inj h
      simp only [enc, renL_enc hτ cs gs hgs]
    · cases h
  | .v _, x, h | .fa .., x, h | .fb .., x, h | .fa2 .., x, h | .nil _, x, h => by
    simp only [renA, Option.some.injEq] at h; subst h; rfl
  | .lst .., x, h | .ref _, x, h => by simp only [renA] at h; cases h
theorem renL_enc {bs : List Nat} {σ τ : Nat → Value} (hτ : ∀ i b, bs[i]? = some b → τ i = σ b) : ∀ as xs : List A, renL bs as = some xs → encL τ xs = encL σ as
  | [], xs, h => by simp only [renL, Option.some.injEq] at h; subst h; rfl
  | a :: as, xs, h => by
    simp only [renL] at h
    split at h
    · rename_i y ys hy hys
      obtain rfl := Option.some.inj h
      simp only [encL, renA_enc hτ a y hy, renL_enc hτ as ys hys]
    · cases h
end
theorem renA_val {bs : List Nat} {σ τ : Nat → Value} (hτ : ∀ i b, bs[i]? = some b → τ i = σ b) {a x : A} (h : renA bs a = some x) : val τ x = val σ a := by
  unfold val
  rw [(renA_sz bs a x h).2, renA_enc hτ a x h]
end
section
mutual
theorem renA_wf {bs : List Nat} {H H' : HF} (hH : ∀ i b, bs[i]? = some b → (H' i).isSome = true ∧ ∀ blk', H' i = some (some blk') → ∃ blk, H b = some (some blk) ∧ ∀ p, offC blk'.con p = offC blk.con p) : ∀ a x : A, renA bs a = some x → WfA H a → WfA H' x
  | .sl b, x, h, hw => by
    simp only [renA] at h
    split at h
    · rename_i i hi
      obtain rfl := Option.some.inj h
      exact (hH i b (idx_spec bs b i hi)).1
    · cases h
  | .ptr b p off, x, h, hw => by
    simp only [renA] at h
    split at h
    · rename_i i hi
      obtain rfl := Option.some.inj h
      obtain ⟨h1, h2⟩ := hH i b (idx_spec bs b i hi)
      refine ⟨h1, fun blk' hb' => ?_⟩
      obtain ⟨blk, h3, h4⟩ := h2 blk' hb'
      rw [h4]; exact hw.2 blk h3
    · cases h
  | .rc fs, x, h, hw => by
    simp only [renA] at h
    split at h
    · rename_i gs hgs
      obtain rfl := Option.some.inj h
      exact renL_wf hH fs gs hgs hw
    · cases h
  | .clo f cs, x, h, hw => by
    simp only [renA] at h
    split at h
    · rename_i gs hgs
      obtain rfl := Option.some.inj h
      refine ⟨renL_wf hH cs gs hgs hw.1, List.all_eq_true.2 fun y hy => ?_⟩
      obtain ⟨i, hi⟩ := List.getElem?_of_mem hy
      rcases renL_get bs cs gs hgs i with ⟨_, h2⟩ | ⟨a, y', h1, h2, h3⟩
      · rw [h2] at hi; cases hi
      · rw [h2] at hi
        obtain rfl := Option.some.inj hi
        rw [(renA_sz bs a y' h3).2]
        exact List.all_eq_true.1 hw.2 a (List.mem_of_getElem? h1)
    · cases h
  | .v _, x, h, hw | .fa .., x, h, hw | .fb .., x, h, hw | .fa2 .., x, h, hw | .nil _, x, h, hw => by
    simp only [renA, Option.some.injEq] at h; subst h; exact hw
  | .lst .., x, h, hw | .ref _, x, h, hw => by simp only [renA] at h; cases h
theorem renL_wf {bs : List Nat} {H H' : HF} (hH : ∀ i b, bs[i]? = some b → (H' i).isSome = true ∧ ∀ blk', H' i = some (some blk') → ∃ blk, H b = some (some blk) ∧ ∀ p, offC blk'.con p = offC blk.con p) : ∀ as xs : List A, renL bs as = some xs → WfL H as → WfL H' xs
  | [], xs, h, hw => by simp only [renL, Option.some.injEq] at h; subst h; trivial
  | a :: as, xs, h, hw => by
    simp only [renL] at h
    split at h
    · rename_i y ys hy hys
      obtain rfl := Option.some.inj h
      exact ⟨renA_wf hH a y hy hw.1, renL_wf hH as ys hys hw.2⟩
    · cases h
end
end
theorem renL_vals {bs : List Nat} {σ τ : Nat → Value} (hτ : ∀ i b, bs[i]? = some b → τ i = σ b) : ∀ as xs : List A, renL bs as = some xs → xs.map (val τ) = as.map (val σ)
  | [], xs, h => by simp only [renL, Option.some.injEq] at h; subst h; rfl
  | a :: as, xs, h => by
    simp only [renL] at h
    split at h
    · rename_i y ys hy hys
      obtain rfl := Option.some.inj h
      simp only [List.map_cons, renA_val hτ hy, renL_vals hτ as ys hys]
    · cases h
theorem canonB_ok {W : SW} {s s' : AS} {slots bs : List Nat} (hg0 : W.v0 = none ∨ bs[0]? = some 0) (h : canonB s slots bs = some s') {σ : Nat → Value} {a : Act} {w : World} (hs : St W s σ a w) : ∃ σ', St W s' σ' a w := by
  unfold canonB at h
  split at h
  · rename_i sl hp hsl hhp
    cases hnd : nodupN bs with
    | false => rw [hnd] at h; cases h
    | true =>
      rw [hnd] at h
      obtain rfl := Option.some.inj h
      have nd := nodupN_spec bs hnd
      have hB := blksC_spec s bs bs 0 hp hhp
      have hS := slotsC_spec s bs slots sl hsl
      obtain ⟨hf, hsim⟩ := hs
      let σ' : Nat → Value := fun i => σ (bs.getD i 0)
      have hτ : ∀ i b, bs[i]? = some b → σ' i = σ b := fun i b hb => by
        show σ (bs.getD i 0) = σ b
        rw [List.getD_eq_getElem?_getD, hb]; rfl
      have hHb : ∀ i, (bs[i]? = none ∧ lk hp i = none) ∨ ∃ b, bs[i]? = some b ∧ lk hp i = renB s bs b ∧ (renB s bs b).isSome = true := by
        intro i
        cases hb : bs[i]? with
        | none => exact .inl ⟨rfl, (hB i).1 (.inr (by rw [Nat.zero_add]; exact List.getElem?_eq_none_iff.1 hb))⟩
        | some b =>
          have := (hB i).2 b hb
          rw [Nat.zero_add] at this
          exact .inr ⟨b, rfl, this⟩
      -- a new block and the one it was
      have hblk : ∀ i blk', lk hp i = some (some blk') → ∃ b blk, bs[i]? = some b ∧ lk s.hp b = some (some blk) ∧ blk'.own = blk.own ∧ ((∃ x y, blk.con = .box x ∧ blk'.con = .box y ∧ renA bs x = some y) ∨ ∃ e l, blk.con = .arr e l ∧ blk'.con = .arr e l) := by
        intro i blk' hi
        rcases hHb i with ⟨_, h2⟩ | ⟨b, h1, h2, _⟩
        · rw [h2] at hi; cases hi
        · rw [h2] at hi
          unfold renB at hi
          split at hi
          · rename_i own x hx
            split at hi
            · rename_i y hy
              cases hi
              exact ⟨b, _, h1, hx, rfl, .inl ⟨x, y, rfl, rfl, hy⟩⟩
            · cases hi
          · rename_i own e l hx
            cases hi
            exact ⟨b, _, h1, hx, rfl, .inr ⟨e, l, rfl, rfl⟩⟩
          · cases hi
          · cases hi
      have hH : ∀ i b, bs[i]? = some b → (HFof ⟨sl, hp, bs.length⟩ i).isSome = true ∧ ∀ blk', HFof ⟨sl, hp, bs.length⟩ i = some (some blk') → ∃ blk, HFof s b = some (some blk) ∧ ∀ p, offC blk'.con p = offC blk.con p := by
        intro i b hb
        rcases hHb i with ⟨h1, _⟩ | ⟨b', h1, h2, h3⟩
        · rw [h1] at hb; cases hb
        · rw [hb] at h1
          obtain rfl := Option.some.inj h1
          refine ⟨by show (lk hp i).isSome = true; rw [h2]; exact h3, fun blk' hi => ?_⟩
          obtain ⟨b', blk, q1, q2, _, q3⟩ := hblk i blk' hi
          rw [hb] at q1
          obtain rfl := Option.some.inj q1
          refine ⟨blk, q2, fun p => ?_⟩
          rcases q3 with ⟨x, y, e1, e2, e3⟩ | ⟨e, l, e1, e2⟩
          · rw [e1, e2]; exact renA_off bs p x y e3
          · rw [e1, e2]
      have hO : ∀ g, Owned (HFof ⟨sl, hp, bs.length⟩) σ' g → Owned (HFof s) σ g := by
        rintro g ⟨i, c, h1, h2⟩
        obtain ⟨b, blk, q1, q2, q3, _⟩ := hblk i _ h1
        rw [hτ i b q1] at h2
        obtain ⟨own, con⟩ := blk
        obtain rfl : true = own := q3
        exact ⟨b, con, q2, h2⟩
      refine ⟨σ', fun b hb => ?_, hsim.bel, hsim.defers, hsim.size, fun b => hsim.one _, fun i => ?_, fun i blk' hi => ?_, fun i j c c' h1 h2 hn k hk => ?_, fun v hv => ?_⟩
      · exact (hB b).1 (.inr (by rw [Nat.zero_add]; exact hb))
      · show SlotR _ σ' (match lk sl i with | some x => x | none => .none) _
        cases hl : lk sl i with
        | none => trivial
        | some x' =>
          have h1 := hS i x' hl
          have h2 := hsim.slot i
          unfold SFof at h2
          revert h1 h2
          cases s.slot i with
          | none => intro h1 _; cases h1
          | un => intro h1 h2; cases h1; exact h2
          | a x =>
            intro h1 h2
            simp only [renS] at h1
            split at h1
            · rename_i y hy
              cases h1
              exact ⟨by rw [renA_val hτ hy]; exact h2.1, renA_wf hH x y hy h2.2⟩
            · cases h1
          | tup xs =>
            intro h1 h2
            simp only [renS] at h1
            split at h1
            · rename_i ys hys
              cases h1
              exact ⟨by rw [renL_vals hτ xs ys hys]; exact h2.1, renL_wf hH xs ys hys h2.2⟩
            · cases h1
      · obtain ⟨b, blk, q1, q2, q3, q4⟩ := hblk i blk' hi
        have hr := hsim.blk b blk q2
        rw [hτ i b q1]
        obtain ⟨own, con⟩ := blk
        obtain ⟨own', con'⟩ := blk'
        obtain rfl : own' = own := q3
        rcases q4 with ⟨x, y, e1, e2, e3⟩ | ⟨e, l, e1, e2⟩
        · dsimp only at e1 e2
          subst e1; subst e2
          cases own'
          · obtain ⟨hw, g, o, r1, r2, r3, r4⟩ := hr
            exact ⟨renA_wf hH x y e3 hw, g, o, r1, r2, fun h => r3 (hO g h), by rw [renA_enc hτ x y e3]; exact r4⟩
          · obtain ⟨hw, g, ty, r1, r2, r3⟩ := hr
            exact ⟨renA_wf hH x y e3 hw, g, ty, r1, r2, by rw [renA_enc hτ x y e3]; exact r3⟩
        · dsimp only at e1 e2
          subst e1; subst e2
          have hI : ∀ lo k l v, Innr w (Owned (HFof s) σ) lo k l v → Innr w (Owned (HFof ⟨sl, hp, bs.length⟩) σ') lo k l v := fun lo k l v hv => hv.keep (Nat.le_refl _) fun g _ hg => ⟨rfl, fun h => hg (hO g h)⟩
          cases own'
          · obtain ⟨xs, ao, cap, r1, r2, r3, r4⟩ := hr
            refine ⟨xs, ao, cap, r1.imp (hI 0), r2, r3, fun hne => ?_⟩
            obtain ⟨g, o, t1, t2, t3, t4⟩ := r4 hne
            exact ⟨g, o, t1, t2, fun h => t3 (hO g h), t4⟩
          · obtain ⟨xs, r1, r2⟩ := hr
            exact ⟨xs, r1.imp (hI W.lo), r2⟩
      · obtain ⟨b, blk, q1, q2, q3, _⟩ := hblk i _ h1
        obtain ⟨b', blk', q1', q2', q3', _⟩ := hblk j _ h2
        rw [hτ i b q1] at hk
        rw [hτ j b' q1']
        obtain ⟨own, con⟩ := blk
        obtain ⟨own', con'⟩ := blk'
        obtain rfl : true = own := q3
        obtain rfl : true = own' := q3'
        refine hsim.sep b b' con con' q2 q2' (fun e => hn ?_) k hk
        subst e
        have hil := (List.getElem?_eq_some_iff.1 q1).1
        exact (List.getElem?_inj hil nd).1 (q1.trans q1'.symm)
      · rcases hg0 with hg0 | hg0
        · rw [hg0] at hv; cases hv
        · obtain ⟨g1, g2⟩ := hsim.gh v hv
          exact ⟨(hH 0 0 hg0).1, (hτ 0 0 hg0).trans g2⟩
  · cases h
theorem lk_frzB (fz : List Nat) : ∀ (hp : List (Nat × Option Blk)) (b : Nat), lk (frzB fz hp) b = match lk hp b with | some x => some (cond (memN b fz) (frzO x) x) | none => none
  | [], b => rfl
  | (j, x) :: r, b => by
    simp only [frzB, lk]
    cases hb : Nat.beq b j
    · exact lk_frzB fz r b
    · have := Nat.eq_of_beq_eq_true hb
      subst this; rfl
theorem Sim.freezes {W : SW} {S : Nat → SV} {σ : Nat → Value} {a : Act} {w : World} : ∀ (fz : List Nat) (H : HF), Sim W S H σ a w → Sim W S (fun b => match H b with | some x => some (cond (memN b fz) (frzO x) x) | none => none) σ a w
  | [], H, h => by
    have : (fun b => match H b with | some x => some (cond (memN b []) (frzO x) x) | none => none) = H := by
      funext b
      cases H b <;> rfl
    rw [this]; exact h
  | j :: fz, H, h => by
    have ih := Sim.freezes fz H h
    have one : ∀ H' : HF, Sim W S H' σ a w → Sim W S (setF H' j (match H' j with | some x => some (frzO x) | none => none)) σ a w := by
      intro H' h'
      have same : (match H' j with | some x => some (frzO x) | none => none) = H' j → Sim W S (setF H' j (match H' j with | some x => some (frzO x) | none => none)) σ a w := by
        intro e
        have : setF H' j (match H' j with | some x => some (frzO x) | none => none) = H' := by
          funext b
          by_cases hb : b = j
          · rw [hb, setF_same, e]
          · rw [setF_other _ _ hb]
        rw [this]; exact h'
      cases hj : H' j with
      | none => rw [← hj]; have := same (by rw [hj]); rw [hj] at this ⊢; exact this
      | some x =>
        cases x with
        | none => have := same (by rw [hj]; rfl); rw [hj] at this; exact this
        | some blk =>
          obtain ⟨own, c⟩ := blk
          cases own
          · have := same (by rw [hj]; rfl); rw [hj] at this; exact this
          · exact h'.freeze hj
    have h2 := one _ ih
    refine cast (congrArg (fun F => Sim W S F σ a w) ?_) h2
    funext b
    by_cases hb : b = j
    · subst hb
      rw [setF_same]
      have hm : memN b (b :: fz) = true := by simp [memN]
      rw [hm]
      cases H b with
      | none => rfl
      | some x =>
        simp only [cond_true]
        cases memN b fz <;> cases x <;> rfl
    · rw [setF_other _ _ hb]
      have hm : memN b (j :: fz) = memN b fz := by
        simp only [memN]
        rw [beqF hb]; rfl
      rw [hm]
theorem frz_ok {W : SW} {s : AS} (fz : List Nat) {σ : Nat → Value} {a : Act} {w : World} (h : St W s σ a w) : St W ⟨s.sl, frzB fz s.hp, s.n⟩ σ a w := by
  refine ⟨fun b hb => ?_, ?_⟩
  · rw [lk_frzB, h.1 b hb]
  · have := h.2.freezes fz
    refine cast (congrArg (fun F => Sim W (SFof s) F σ a w) ?_) this
    funext b
    show _ = lk (frzB fz s.hp) b
    rw [lk_frzB]; rfl
theorem nil_ok {W : SW} : ∀ (nl : List Nat) (s : AS) {σ : Nat → Value} {a : Act} {w : World}, St W s σ a w → ∃ σ', St W (nilS nl s) σ' a w
  | [], s, σ, a, w, h => ⟨σ, h⟩
  | i :: nl, s, σ, a, w, h => by
    simp only [nilS]
    split
    · rename_i e hi
      refine nil_ok nl _ (σ := setF σ s.n (.slice none 0 0)) ?_
      obtain ⟨hf, hsim⟩ := h
      have hnew := hf s.n (Nat.le_refl _)
      have h2 := hsim.new (w' := w) (blk := ⟨true, .arr e []⟩) (v := .slice none 0 0) (b := s.n) rfl rfl rfl (Nat.le_refl _) (fun _ _ => rfl) hnew rfl (fun _ g hg => by cases hg) ⟨[], rfl, .inl ⟨rfl, none, rfl⟩⟩
      have hH : HFof ⟨(i, .a (.sl s.n)) :: s.sl, (s.n, some ⟨true, .arr e []⟩) :: s.hp, s.n + 1⟩ = setF (HFof s) s.n (some (some ⟨true, .arr e []⟩)) := by
        funext b
        show lk ((s.n, _) :: s.hp) b = _
        simp only [lk]
        by_cases hb : b = s.n
        · subst hb; rw [setF_same, Nat.beq_refl]; rfl
        · rw [setF_other _ _ hb, beqF hb]; rfl
      have hS : SFof ⟨(i, .a (.sl s.n)) :: s.sl, (s.n, some ⟨true, .arr e []⟩) :: s.hp, s.n + 1⟩ = setF (SFof s) i (.a (.sl s.n)) := by
        funext j
        simp only [SFof, AS.slot, lk]
        by_cases hb : j = i
        · subst hb; rw [setF_same, Nat.beq_refl]; rfl
        · rw [setF_other _ _ hb, beqF hb]; rfl
      refine ⟨fun b hb => ?_, ?_⟩
      · show lk ((s.n, _) :: s.hp) b = none
        have hb : s.n + 1 ≤ b := hb
        simp only [lk]
        rw [beqF (by omega)]
        exact hf b (by omega)
      · rw [hH, hS]
        refine ⟨h2.bel, h2.defers, h2.size, h2.one, fun j => ?_, h2.blk, h2.sep, h2.gh⟩
        by_cases hb : j = i
        · subst hb
          rw [setF_same]
          have q := hsim.slot j
          rw [show SFof s j = .a (.nil e) from hi] at q
          refine ⟨?_, ?_⟩
          · rw [val_sl, setF_same, q.1]; rfl
          · show (setF (HFof s) s.n _ s.n).isSome = true
            rw [setF_same]; rfl
        · rw [setF_other _ _ hb]; exact h2.slot j
    · exact nil_ok nl s h
theorem cn_ok {W : SW} (hv : W.v0 = none) (LV : List (Nat × Keep)) : CnOK W (cnOf LV) := by
  intro id s s' σ a w h hs
  unfold cnOf at h
  split at h
  · rename_i slots fz nl hl
    split at h
    · rename_i t ht
      obtain rfl := Option.some.inj h
      obtain ⟨σ1, h1⟩ := nil_ok nl s hs
      obtain ⟨σ2, h2⟩ := canonB_ok (.inl hv) ht h1
      exact ⟨σ2, frz_ok fz h2⟩
    · cases h
  · cases h
/-- The same where block 0 is the one that is written for the caller: it stays block 0. -/
def cnOfU (LV : List (Nat × Keep)) : Nat → AS → Option AS := fun id s => match lk LV id with
  | some (0 :: slots, fz, nl) => match (nilS nl s).slot 0 with
    | .a (.sl 0) => match canon (0 :: slots) (nilS nl s) with
      | some t => some ⟨t.sl, frzB fz t.hp, t.n⟩
      | none => none
    | _ => none
  | _ => none
theorem reach_head (s : AS) : ∀ (f : Nat) (todo acc : List Nat) (b : Nat), acc[0]? = some b → (reach s f todo acc)[0]? = some b
  | 0, todo, acc, b, h => h
  | f + 1, [], acc, b, h => h
  | f + 1, c :: todo, acc, b, h => by
    have h2 : (acc ++ [c])[0]? = some b := by
      have hl : 0 < acc.length := (List.getElem?_eq_some_iff.1 h).1
      rw [List.getElem?_append_left hl]; exact h
    simp only [reach]
    cases memN c acc
    · simp only [cond_false]
      split
      · exact reach_head s f _ _ b h2
      · exact reach_head s f _ _ b h2
    · exact reach_head s f _ _ b h
theorem cnU_ok {W : SW} (LV : List (Nat × Keep)) : CnOK W (cnOfU LV) := by
  intro id s s' σ a w h hs
  unfold cnOfU at h
  split at h
  · rename_i slots fz nl hl
    split at h
    · rename_i h0
      split at h
      · rename_i t ht
        obtain rfl := Option.some.inj h
        obtain ⟨σ1, h1⟩ := nil_ok nl s hs
        have hb : (reach (nilS nl s) 300 (rootsS (nilS nl s) (0 :: slots)) [])[0]? = some 0 := by
          simp only [rootsS, h0, blocksA, List.singleton_append, reach, memN, cond_false]
          split
          · exact reach_head _ _ _ _ _ rfl
          · exact reach_head _ _ _ _ _ rfl
        obtain ⟨σ2, h2⟩ := canonB_ok (.inr hb) ht h1
        exact ⟨σ2, frz_ok fz h2⟩
      · cases h
    · cases h
  · cases h
end Go.RR
