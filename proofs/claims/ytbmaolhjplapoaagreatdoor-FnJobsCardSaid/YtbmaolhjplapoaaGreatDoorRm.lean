/- Loop heads: the slots that live on, blocks numbered anew. No condition. -/
import Derived.Test.YtbmaolhjplapoaaGreatDoorRl
import Derived.Test.YtbmaolhjplapoaaGreatDoorR0
set_option linter.unusedVariables false
set_option linter.unusedSimpArgs false
set_option linter.unusedSectionVars false
namespace Go.RR
open Go Go.RowKit
def frzO : Option Blk → Option Blk
 | some ⟨_, c⟩ => some ⟨false, c⟩
 | none => none
def frzB (fz : List Nat) : List (Nat × Option Blk) → List (Nat × Option Blk)
 | [] => []
 | (b, x) :: r => (b, cond (memN b fz) (frzO x) x) :: frzB fz r
def nilS : List Nat → AS → AS
 | [], s => s
 | i :: r, s => match s.slot i with
  | .a (.nil e) => nilS r ⟨(i, .a (.sl s.n)) :: s.sl, (s.n, some ⟨true, .arr e []⟩) :: s.hp, s.n + 1⟩
  | _ => nilS r s
abbrev Keep := List Nat × List Nat × List Nat
def cnOf (LV : List (Nat × Keep)) : Nat → AS → Option AS := fun id s => match lk LV id with
 | some (slots, fz, nl) => match canon slots (nilS nl s) with
  | some t => some ⟨t.sl, frzB fz t.hp, t.n⟩
  | none => none
 | none => none
theorem canonB_full {W : SW} {s s' : AS} {slots bs : List Nat} (hg0 : ∀ (i : Nat) (v : Value), W.gl[i]? = some v → bs[i]? = some i) (h : canonB s slots bs = some s') {σ : Nat → Value} {a : Act} {w : World} (hs : St W s σ a w) : ∃ σ', St W s' σ' a w ∧ (∀ (i b : Nat), bs[i]? = some b → σ' i = σ b) ∧ ∀ (i b : Nat), bs[i]? = some b → (HFof s' i).isSome = true ∧ ∀ blk', HFof s' i = some (some blk') → ∃ blk, HFof s b = some (some blk) ∧ ∀ p, offC blk'.con p = offC blk.con p := by
 unfold canonB at h
 split at h
 ·rename_i sl hp hsl hhp
  cases hnd : nodupN bs with
  | false => rw [hnd] at h; cases h
  | true =>
   rw [hnd] at h
   obtain rfl := Option.some.inj h
   have nd := nodupN_spec bs hnd
   have hB := blksC_spec s bs bs 0 hp hhp
   have hS := slotsC_spec s bs slots sl hsl
   obtain ⟨hf, hsim⟩ := hs
   let σ' : Nat → Value := fun i => σ (bs.getD i 0)
   have hτ : ∀ i b, bs[i]? = some b → σ' i = σ b := fun i b hb => by
    show σ (bs.getD i 0) = σ b
    rw [List.getD_eq_getElem?_getD, hb]; rfl
   have hHb : ∀ i, (bs[i]? = none ∧ lk hp i = none) ∨ ∃ b, bs[i]? = some b ∧ lk hp i = renB s bs b ∧ (renB s bs b).isSome = true := by
    intro i
    cases hb : bs[i]? with
    | none => exact .inl ⟨rfl, (hB i).1 (.inr (by rw [Nat.zero_add]; exact List.getElem?_eq_none_iff.1 hb))⟩
    | some b =>
     have := (hB i).2 b hb
     rw [Nat.zero_add] at this
     exact .inr ⟨b, rfl, this⟩
   have hblk : ∀ i blk', lk hp i = some (some blk') → ∃ b blk, bs[i]? = some b ∧ lk s.hp b = some (some blk) ∧ blk'.own = blk.own ∧ ((∃ x y, blk.con = .box x ∧ blk'.con = .box y ∧ renA bs x = some y) ∨ ∃ e l, blk.con = .arr e l ∧ blk'.con = .arr e l) := by
    intro i blk' hi
    rcases hHb i with ⟨_, h2⟩ | ⟨b, h1, h2, _⟩
    ·rw [h2] at hi; cases hi
    ·rw [h2] at hi
     unfold renB at hi
     split at hi
     ·rename_i own x hx
      split at hi
      ·rename_i y hy
       cases hi
       exact ⟨b, _, h1, hx, rfl, .inl ⟨x, y, rfl, rfl, hy⟩⟩
      ·cases hi
     ·rename_i own e l hx
      cases hi
      exact ⟨b, _, h1, hx, rfl, .inr ⟨e, l, rfl, rfl⟩⟩
     ·cases hi
     ·cases hi
   have hH : ∀ i b, bs[i]? = some b → (HFof ⟨sl, hp, bs.length⟩ i).isSome = true ∧ ∀ blk', HFof ⟨sl, hp, bs.length⟩ i = some (some blk') → ∃ blk, HFof s b = some (some blk) ∧ ∀ p, offC blk'.con p = offC blk.con p := by
    intro i b hb
    rcases hHb i with ⟨h1, _⟩ | ⟨b', h1, h2, h3⟩
    ·rw [h1] at hb; cases hb
    ·rw [hb] at h1
     obtain rfl := Option.some.inj h1
     refine ⟨by show (lk hp i).isSome = true; rw [h2]; exact h3, fun blk' hi => ?_⟩
     obtain ⟨b', blk, q1, q2, _, q3⟩ := hblk i blk' hi
     rw [hb] at q1
     obtain rfl := Option.some.inj q1
     refine ⟨blk, q2, fun p => ?_⟩
     rcases q3 with ⟨x, y, e1, e2, e3⟩ | ⟨e, l, e1, e2⟩
     ·rw [e1, e2]; exact renA_off bs p x y e3
     ·rw [e1, e2]
   have hO : ∀ g, Owned (HFof ⟨sl, hp, bs.length⟩) σ' g → Owned (HFof s) σ g := by
    rintro g ⟨i, c, h1, h2⟩
    obtain ⟨b, blk, q1, q2, q3, _⟩ := hblk i _ h1
    rw [hτ i b q1] at h2
    obtain ⟨own, con⟩ := blk
    obtain rfl : true = own := q3
    exact ⟨b, con, q2, h2⟩
   refine ⟨σ', ⟨fun b hb => ?_, hsim.bel, hsim.defers, hsim.size, fun b => hsim.one _, fun i => ?_, fun i blk' hi => ?_, fun i j c c' h1 h2 hn k hk => ?_, fun i v hv => ?_⟩, hτ, hH⟩
   ·exact (hB b).1 (.inr (by rw [Nat.zero_add]; exact hb))
   ·show SlotR _ σ' (match lk sl i with | some x => x | none => .none) _
    cases hl : lk sl i with
    | none => trivial
    | some x' =>
     have h1 := hS i x' hl
     have h2 := hsim.slot i
     unfold SFof at h2
     revert h1 h2
     cases s.slot i with
     | none => intro h1 _; cases h1
     | un => intro h1 h2; cases h1; exact h2
     | a x =>
      intro h1 h2
      simp only [renS] at h1
      split at h1
      ·rename_i y hy
       cases h1
       exact ⟨by rw [renA_val hτ hy]; exact h2.1, renA_wf hH x y hy h2.2⟩
      ·cases h1
     | tup xs =>
      intro h1 h2
      simp only [renS] at h1
      split at h1
      ·rename_i ys hys
       cases h1
       exact ⟨by rw [renL_vals hτ xs ys hys]; exact h2.1, renL_wf hH xs ys hys h2.2⟩
      ·cases h1
   ·obtain ⟨b, blk, q1, q2, q3, q4⟩ := hblk i blk' hi
    have hr := hsim.blk b blk q2
    rw [hτ i b q1]
    obtain ⟨own, con⟩ := blk
    obtain ⟨own', con'⟩ := blk'
    obtain rfl : own' = own := q3
    rcases q4 with ⟨x, y, e1, e2, e3⟩ | ⟨e, l, e1, e2⟩
    ·dsimp only at e1 e2
     subst e1; subst e2
     cases own'
     ·obtain ⟨hw, g, o, r1, r2, r3, r4⟩ := hr
      exact ⟨renA_wf hH x y e3 hw, g, o, r1, r2, fun h => r3 (hO g h), by rw [renA_enc hτ x y e3]; exact r4⟩
     ·obtain ⟨hw, g, ty, r1, r2, r3⟩ := hr
      exact ⟨renA_wf hH x y e3 hw, g, ty, r1, r2, by rw [renA_enc hτ x y e3]; exact r3⟩
    ·dsimp only at e1 e2
     subst e1; subst e2
     have hI : ∀ lo k l v, Innr w (Owned (HFof s) σ) lo k l v → Innr w (Owned (HFof ⟨sl, hp, bs.length⟩) σ') lo k l v := fun lo k l v hv => hv.keep (Nat.le_refl _) fun g _ hg => ⟨rfl, fun h => hg (hO g h)⟩
     cases own'
     ·obtain ⟨xs, ao, cap, r1, r2, r3, r4⟩ := hr
      refine ⟨xs, ao, cap, r1.imp (hI 0), r2, r3, fun hne => ?_⟩
      obtain ⟨g, o, t1, t2, t3, t4⟩ := r4 hne
      exact ⟨g, o, t1, t2, fun h => t3 (hO g h), t4⟩
     ·obtain ⟨xs, r1, r2⟩ := hr
      exact ⟨xs, r1.imp (hI W.lo), r2⟩
   ·obtain ⟨b, blk, q1, q2, q3, _⟩ := hblk i _ h1
    obtain ⟨b', blk', q1', q2', q3', _⟩ := hblk j _ h2
    rw [hτ i b q1] at hk
    rw [hτ j b' q1']
    obtain ⟨own, con⟩ := blk
    obtain ⟨own', con'⟩ := blk'
    obtain rfl : true = own := q3
    obtain rfl : true = own' := q3'
    refine hsim.sep b b' con con' q2 q2' (fun e => hn ?_) k hk
    subst e
    have hil := (List.getElem?_eq_some_iff.1 q1).1
    exact (List.getElem?_inj hil nd).1 (q1.trans q1'.symm)
   ·have hg0 := hg0 i v hv
    obtain ⟨g1, g2⟩ := hsim.gh i v hv
    exact ⟨(hH i i hg0).1, (hτ i i hg0).trans g2⟩
 ·cases h
theorem canonB_ok {W : SW} {s s' : AS} {slots bs : List Nat} (hg0 : ∀ (i : Nat) (v : Value), W.gl[i]? = some v → bs[i]? = some i) (h : canonB s slots bs = some s') {σ : Nat → Value} {a : Act} {w : World} (hs : St W s σ a w) : ∃ σ', St W s' σ' a w := by
 obtain ⟨σ', h1, _⟩ := canonB_full hg0 h hs
 exact ⟨σ', h1⟩
theorem lk_frzB (fz : List Nat) : ∀ (hp : List (Nat × Option Blk)) (b : Nat), lk (frzB fz hp) b = match lk hp b with | some x => some (cond (memN b fz) (frzO x) x) | none => none
 | [], b => rfl
 | (j, x) :: r, b => by
  simp only [frzB, lk]
  cases hb : Nat.beq b j
  ·exact lk_frzB fz r b
  ·have := Nat.eq_of_beq_eq_true hb
   subst this; rfl
theorem Sim.freezes {W : SW} {S : Nat → SV} {σ : Nat → Value} {a : Act} {w : World} : ∀ (fz : List Nat) (H : HF), Sim W S H σ a w → Sim W S (fun b => match H b with | some x => some (cond (memN b fz) (frzO x) x) | none => none) σ a w
 | [], H, h => by
  have : (fun b => match H b with | some x => some (cond (memN b []) (frzO x) x) | none => none) = H := by
   funext b
   cases H b <;> rfl
  rw [this]; exact h
 | j :: fz, H, h => by
  have ih := Sim.freezes fz H h
  have one : ∀ H' : HF, Sim W S H' σ a w → Sim W S (setF H' j (match H' j with | some x => some (frzO x) | none => none)) σ a w := by
   intro H' h'
   have same : (match H' j with | some x => some (frzO x) | none => none) = H' j → Sim W S (setF H' j (match H' j with | some x => some (frzO x) | none => none)) σ a w := by
    intro e
    have : setF H' j (match H' j with | some x => some (frzO x) | none => none) = H' := by
     funext b
     by_cases hb : b = j
     ·rw [hb, setF_same, e]
     ·rw [setF_other _ _ hb]
    rw [this]; exact h'
   cases hj : H' j with
   | none => rw [← hj]; have := same (by rw [hj]); rw [hj] at this ⊢; exact this
   | some x =>
    cases x with
    | none => have := same (by rw [hj]; rfl); rw [hj] at this; exact this
    | some blk =>
     obtain ⟨own, c⟩ := blk
     cases own
     ·have := same (by rw [hj]; rfl); rw [hj] at this; exact this
     ·exact h'.freeze hj
  have h2 := one _ ih
  refine cast (congrArg (fun F => Sim W S F σ a w) ?_) h2
  funext b
  by_cases hb : b = j
  ·subst hb
   rw [setF_same]
   have hm : memN b (b :: fz) = true := by simp [memN]
   rw [hm]
   cases H b with
   | none => rfl
   | some x =>
    simp only [cond_true]
    cases memN b fz <;> cases x <;> rfl
  ·rw [setF_other _ _ hb]
   have hm : memN b (j :: fz) = memN b fz := by
    simp only [memN]
    rw [beqF hb]; rfl
   rw [hm]
theorem frz_ok {W : SW} {s : AS} (fz : List Nat) {σ : Nat → Value} {a : Act} {w : World} (h : St W s σ a w) : St W ⟨s.sl, frzB fz s.hp, s.n⟩ σ a w := by
 refine ⟨fun b hb => ?_, ?_⟩
 ·rw [lk_frzB, h.1 b hb]
 ·have := h.2.freezes fz
  refine cast (congrArg (fun F => Sim W (SFof s) F σ a w) ?_) this
  funext b
  show _ = lk (frzB fz s.hp) b
  rw [lk_frzB]; rfl
theorem nil_ok {W : SW} : ∀ (nl : List Nat) (s : AS) {σ : Nat → Value} {a : Act} {w : World}, St W s σ a w → ∃ σ', St W (nilS nl s) σ' a w
 | [], s, σ, a, w, h => ⟨σ, h⟩
 | i :: nl, s, σ, a, w, h => by
  simp only [nilS]
  split
  ·rename_i e hi
   refine nil_ok nl _ (σ := setF σ s.n (.slice none 0 0)) ?_
   obtain ⟨hf, hsim⟩ := h
   have hnew := hf s.n (Nat.le_refl _)
   have h2 := hsim.new (w' := w) (blk := ⟨true, .arr e []⟩) (v := .slice none 0 0) (b := s.n) rfl rfl rfl (Nat.le_refl _) (fun _ _ => rfl) hnew rfl (fun _ g hg => by cases hg) ⟨[], rfl, .inl ⟨rfl, none, rfl⟩⟩
   have hH : HFof ⟨(i, .a (.sl s.n)) :: s.sl, (s.n, some ⟨true, .arr e []⟩) :: s.hp, s.n + 1⟩ = setF (HFof s) s.n (some (some ⟨true, .arr e []⟩)) := by
    funext b
    show lk ((s.n, _) :: s.hp) b = _
    simp only [lk]
    by_cases hb : b = s.n
    ·subst hb; rw [setF_same, Nat.beq_refl]; rfl
    ·rw [setF_other _ _ hb, beqF hb]; rfl
   have hS : SFof ⟨(i, .a (.sl s.n)) :: s.sl, (s.n, some ⟨true, .arr e []⟩) :: s.hp, s.n + 1⟩ = setF (SFof s) i (.a (.sl s.n)) := by
    funext j
    simp only [SFof, AS.slot, lk]
    by_cases hb : j = i
    ·subst hb; rw [setF_same, Nat.beq_refl]; rfl
    ·rw [setF_other _ _ hb, beqF hb]; rfl
   refine ⟨fun b hb => ?_, ?_⟩
   ·show lk ((s.n, _) :: s.hp) b = none
    have hb : s.n + 1 ≤ b := hb
    simp only [lk]
    rw [beqF (by omega)]
    exact hf b (by omega)
   ·rw [hH, hS]
    refine ⟨h2.bel, h2.defers, h2.size, h2.one, fun j => ?_, h2.blk, h2.sep, h2.gh⟩
    by_cases hb : j = i
    ·subst hb
     rw [setF_same]
     have q := hsim.slot j
     rw [show SFof s j = .a (.nil e) from hi] at q
     refine ⟨?_, ?_⟩
     ·rw [val_sl, setF_same, q.1]; rfl
     ·show (setF (HFof s) s.n _ s.n).isSome = true
      rw [setF_same]; rfl
    ·rw [setF_other _ _ hb]; exact h2.slot j
  ·exact nil_ok nl s h
theorem cn_ok {W : SW} (hv : W.gl = []) (LV : List (Nat × Keep)) : CnOK W (cnOf LV) := by
 intro id s s' σ a w h hs
 unfold cnOf at h
 split at h
 ·rename_i slots fz nl hl
  split at h
  ·rename_i t ht
   obtain rfl := Option.some.inj h
   obtain ⟨σ1, h1⟩ := nil_ok nl s hs
   obtain ⟨σ2, h2⟩ := canonB_ok (fun i v h => by rw [hv] at h; simp at h) ht h1
   exact ⟨σ2, frz_ok fz h2⟩
  ·cases h
 ·cases h
def cnOfU (LV : List (Nat × Keep)) : Nat → AS → Option AS := fun id s => match lk LV id with
 | some (0 :: slots, fz, nl) => match (nilS nl s).slot 0 with
  | .a (.sl 0) => match canon (0 :: slots) (nilS nl s) with
   | some t => some ⟨t.sl, frzB fz t.hp, t.n⟩
   | none => none
  | _ => none
 | _ => none
theorem reach_head (s : AS) : ∀ (f : Nat) (todo acc : List Nat) (i b : Nat), acc[i]? = some b → (reach s f todo acc)[i]? = some b
 | 0, todo, acc, i, b, h => h
 | f + 1, [], acc, i, b, h => h
 | f + 1, c :: todo, acc, i, b, h => by
  have h2 : (acc ++ [c])[i]? = some b := by
   have hl : i < acc.length := (List.getElem?_eq_some_iff.1 h).1
   rw [List.getElem?_append_left hl]; exact h
  simp only [reach]
  cases memN c acc
  ·simp only [cond_false]
   split
   ·exact reach_head s f _ _ i b h2
   ·exact reach_head s f _ _ i b h2
  ·exact reach_head s f _ _ i b h
theorem cnU_ok {W : SW} (hv : ∀ i v, W.gl[i]? = some v → i = 0) (LV : List (Nat × Keep)) : CnOK W (cnOfU LV) := by
 intro id s s' σ a w h hs
 unfold cnOfU at h
 split at h
 ·rename_i slots fz nl hl
  split at h
  ·rename_i h0
   split at h
   ·rename_i t ht
    obtain rfl := Option.some.inj h
    obtain ⟨σ1, h1⟩ := nil_ok nl s hs
    have hb : (reach (nilS nl s) 300 (rootsS (nilS nl s) (0 :: slots)) [])[0]? = some 0 := by
     simp only [rootsS, h0, blocksA, List.singleton_append, reach, memN, cond_false]
     split
     ·exact reach_head _ _ _ _ 0 _ rfl
     ·exact reach_head _ _ _ _ 0 _ rfl
    obtain ⟨σ2, h2⟩ := canonB_ok (fun i v h => by rw [hv i v h]; exact hb) ht h1
    exact ⟨σ2, frz_ok fz h2⟩
   ·cases h
  ·cases h
 ·cases h
def kids (s : AS) (b : Nat) : List Nat := match s.blk b with
 | some ⟨_, .box a⟩ => blocksA a
 | _ => []
def kidsL (s : AS) : List Nat → List Nat
 | [] => []
 | b :: r => kids s b ++ kidsL s r
def cnOfH (m : Nat) (LV : List (Nat × Keep)) : Nat → AS → Option AS := fun id s => match lk LV id with
 | some (slots, fz, nl) => match canonB (nilS nl s) slots (reach (nilS nl s) 300 (kidsL (nilS nl s) (List.range m) ++ rootsS (nilS nl s) slots) (List.range m)) with
  | some t => some ⟨t.sl, frzB fz t.hp, t.n⟩
  | none => none
 | none => none
theorem reach_range (s : AS) (m f : Nat) (todo : List Nat) {i : Nat} (hi : i < m) : (reach s f todo (List.range m))[i]? = some i :=
 reach_head s f todo _ i i (by simp [hi])
theorem cnH_ok {W : SW} {m : Nat} (hv : W.gl.length ≤ m) (LV : List (Nat × Keep)) : CnOK W (cnOfH m LV) := by
 intro id s s' σ a w h hs
 unfold cnOfH at h
 split at h
 ·rename_i slots fz nl hl
  split at h
  ·rename_i t ht
   obtain rfl := Option.some.inj h
   obtain ⟨σ1, h1⟩ := nil_ok nl s hs
   obtain ⟨σ2, h2⟩ := canonB_ok (fun i v h => reach_range _ m _ _ (Nat.lt_of_lt_of_le (List.getElem?_eq_some_iff.1 h).1 hv)) ht h1
   exact ⟨σ2, frz_ok fz h2⟩
  ·cases h
 ·cases h
end Go.RR
