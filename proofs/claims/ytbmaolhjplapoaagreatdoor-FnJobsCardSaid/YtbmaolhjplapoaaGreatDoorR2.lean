/- Calls that get blocks with what leads to them: the caller's side. No condition. -/
import Derived.Test.YtbmaolhjplapoaaGreatDoorRv
import Derived.Test.YtbmaolhjplapoaaGreatDoorR0
set_option linter.unusedVariables false
set_option linter.unusedSimpArgs false
namespace Go.RR
open Go Go.RowKit
theorem appH_lkB (H : HF) : ∀ (h : List (Nat × Option Blk)) (b : Nat), appH H h b = match lk h b with | some x => some x | none => H b
 | [], b => rfl
 | (j, x) :: h, b => by
  show setF (appH H h) j _ b = _
  simp only [lk]
  by_cases e : b = j
  ·subst e; rw [setF_same]; simp
  ·rw [setF_other _ _ e, beqF e, cond_false]; exact appH_lkB H h b
theorem bakN_lt (n : Nat) : ∀ (bs : List Nat) (i b : Nat), bs[i]? = some b → bakN n bs i = b
 | [], i, b, h => by simp at h
 | c :: r, 0, b, h => by simpa [bakN] using h
 | c :: r, i + 1, b, h => by simpa [bakN] using bakN_lt n r i b (by simpa using h)
theorem bakN_ge (n : Nat) : ∀ (bs : List Nat) (i : Nat), bs.length ≤ i → bakN n bs i = n + (i - bs.length)
 | [], i, _ => by simp [bakN]
 | c :: r, 0, h => by simp at h
 | c :: r, i + 1, h => by
  simp only [List.length_cons] at h
  simp only [bakN, List.length_cons]
  rw [bakN_ge n r i (by omega)]
  omega
theorem blksC_len (s : AS) (bs : List Nat) : ∀ (r : List Nat) (n : Nat) (hp : List (Nat × Option Blk)), blksC s bs n r = some hp → hp.length = r.length
 | [], n, hp, h => by obtain rfl := Option.some.inj h; rfl
 | b :: r, n, hp, h => by
  simp only [blksC] at h
  split at h
  ·rename_i x xs hx hxs
   obtain rfl := Option.some.inj h
   simp [blksC_len s bs r (n + 1) xs hxs]
  ·cases h
mutual
theorem mapA_sz (f : Nat → Nat) : ∀ a : A, sz (mapA f a) = sz a ∧ isAg (mapA f a) = isAg a
 | .rc fs => ⟨by simp only [mapA, sz]; exact mapL_sz f fs, rfl⟩
 | .v _ | .fa .. | .fb .. | .fa2 .. | .nil _ | .sl _ | .ptr .. | .clo .. | .lst .. | .ref _ => ⟨rfl, rfl⟩
theorem mapL_sz (f : Nat → Nat) : ∀ as : List A, szL (mapL f as) = szL as
 | [] => rfl
 | a :: as => by simp only [mapL, szL, (mapA_sz f a).1, mapL_sz f as]
end
theorem mapL_map (f : Nat → Nat) : ∀ as : List A, mapL f as = as.map (mapA f)
 | [] => rfl
 | a :: as => by simp only [mapL, List.map_cons, mapL_map f as]
theorem mapA_off (f : Nat → Nat) : ∀ (p : List Nat) (a : A), offA (mapA f a) p = offA a p
 | [], a => by rw [offA_nil, offA_nil]
 | i :: p, a => by
  cases a with
  | rc fs =>
   simp only [mapA, offA, mapL_map, List.getElem?_map]
   cases h : fs[i]? with
   | none => rfl
   | some x =>
    simp only [Option.map_some, mapA_off f p x]
    rw [show (fs.map (mapA f)).take i = (fs.take i).map (mapA f) by rw [List.map_take], ← mapL_map, mapL_sz]
  | _ => rfl
theorem mapB_off (f : Nat → Nat) (blk : Blk) : ∃ blk', mapB f (some blk) = some blk' ∧ blk'.own = blk.own ∧ blk'.con.flat = blk.con.flat ∧ ∀ p, offC blk'.con p = offC blk.con p := by
 obtain ⟨own, con⟩ := blk
 cases con with
 | box a => exact ⟨_, rfl, rfl, rfl, fun p => mapA_off f p a⟩
 | arr e l => exact ⟨_, rfl, rfl, rfl, fun p => rfl⟩
section
variable {f : Nat → Nat} {H' H2 : HF} {σ' σ2 : Nat → Value}
def Maps (f : Nat → Nat) (H' H2 : HF) (σ' σ2 : Nat → Value) : Prop := ∀ i, (H' i).isSome = true → σ2 (f i) = σ' i ∧ (H2 (f i)).isSome = true ∧ ∀ blk2, H2 (f i) = some (some blk2) → ∃ blk', H' i = some (some blk') ∧ ∀ p, offC blk2.con p = offC blk'.con p
mutual
theorem mapA_ok (hm : Maps f H' H2 σ' σ2) : ∀ a : A, WfA H' a → enc σ2 (mapA f a) = enc σ' a ∧ WfA H2 (mapA f a)
 | .v x, h => ⟨rfl, h⟩
 | .fa .., h | .fb .., h | .fa2 .., h | .nil _, h => ⟨rfl, trivial⟩
 | .sl b, h => ⟨by simp only [mapA, enc, (hm b h).1], (hm b h).2.1⟩
 | .ptr b p off, h => by
  obtain ⟨h1, h2, h3⟩ := hm b h.1
  refine ⟨by simp only [mapA, enc, h1], h2, fun blk2 hb => ?_⟩
  obtain ⟨blk', h4, h5⟩ := h3 blk2 hb
  rw [h5]; exact h.2 blk' h4
 | .rc fs, h => by
  obtain ⟨h1, h2⟩ := mapL_ok hm fs h
  exact ⟨by simp only [mapA, enc, h1], h2⟩
 | .clo g cs, h => by
  obtain ⟨h1, h2⟩ := mapL_ok hm cs h.1
  refine ⟨by simp only [mapA, enc, h1], h2, ?_⟩
  rw [mapL_map, List.all_map]
  refine (List.all_eq_true.2 fun y hy => ?_)
  have := List.all_eq_true.1 h.2 y hy
  simpa [mapA_sz f y] using this
 | .lst .., h => h.elim
 | .ref _, h => h.elim
theorem mapL_ok (hm : Maps f H' H2 σ' σ2) : ∀ as : List A, WfL H' as → encL σ2 (mapL f as) = encL σ' as ∧ WfL H2 (mapL f as)
 | [], _ => ⟨rfl, trivial⟩
 | a :: as, h => by
  obtain ⟨h1, h2⟩ := mapA_ok hm a h.1
  obtain ⟨h3, h4⟩ := mapL_ok hm as h.2
  exact ⟨by simp only [mapL, encL, h1, h3], h2, h4⟩
end
theorem mapA_val (hm : Maps f H' H2 σ' σ2) {a : A} (h : WfA H' a) : val σ2 (mapA f a) = val σ' a := by
 unfold val
 rw [(mapA_sz f a).2, (mapA_ok hm a h).1]
theorem mapS_ok (hm : Maps f H' H2 σ' σ2) {sv : SV} {v : Value} (h : SlotR H' σ' sv v) : SlotR H2 σ2 (mapS f sv) v := by
 cases sv with
 | none => trivial
 | un => exact h
 | a x => exact ⟨h.1.trans (mapA_val hm h.2).symm, (mapA_ok hm x h.2).2⟩
 | tup xs =>
  refine ⟨?_, (mapL_ok hm xs h.2).2⟩
  rw [h.1, mapL_map, List.map_map]
  congr 2
  exact List.map_congr_left fun x hx => (mapA_val hm (WfL_mem h.2 x hx)).symm
end
theorem lk_mapH (f : Nat → Nat) : ∀ (l : List (Nat × Option Blk)), (∀ i j x y, lk l i = some x → lk l j = some y → f i = f j → i = j) → (∀ b, (∀ i x, lk l i = some x → f i ≠ b) → lk (mapH f l) b = none) ∧ ∀ i x, lk l i = some x → lk (mapH f l) (f i) = some (mapB f x)
 | l, hinj => by
  have key : ∀ (r : List (Nat × Option Blk)), (∀ p ∈ r, ∃ x, lk l p.1 = some x) → (∀ b, (∀ i x, lk l i = some x → f i ≠ b) → lk (mapH f r) b = none) ∧ ∀ i x, (∃ x', lk l i = some x') → lk r i = some x → lk (mapH f r) (f i) = some (mapB f x) := by
   intro r
   induction r with
   | nil => intro _; exact ⟨fun _ _ => rfl, fun i x _ h => by cases h⟩
   | cons p r ih =>
    intro hr
    obtain ⟨j, y⟩ := p
    obtain ⟨ih1, ih2⟩ := ih fun p hp => hr p (List.mem_cons_of_mem _ hp)
    obtain ⟨xj, hj⟩ := hr (j, y) (by simp)
    refine ⟨fun b hb => ?_, fun i x hi hx => ?_⟩
    ·simp only [mapH, lk]
     rw [beqF (fun e => hb j xj hj e.symm), cond_false]
     exact ih1 b hb
    ·simp only [mapH, lk] at hx ⊢
     by_cases e : i = j
     ·subst e
      simp only [Nat.beq_refl, cond_true, Option.some.injEq] at hx ⊢
      rw [hx]
     ·rw [beqF e, cond_false] at hx
      obtain ⟨xi, hi⟩ := hi
      rw [beqF (fun e' => e (hinj i j xi xj hi hj e')), cond_false]
      exact ih2 i x ⟨xi, hi⟩ hx
  have hmem : ∀ (r : List (Nat × Option Blk)), ∀ p ∈ r, ∃ x, lk r p.1 = some x := by
   intro r
   induction r with
   | nil => intro p hp; cases hp
   | cons q r ih =>
    intro p hp
    obtain ⟨j, y⟩ := q
    simp only [lk]
    rcases List.mem_cons.1 hp with rfl | hp
    ·exact ⟨y, by simp⟩
    ·cases Nat.beq p.1 j
     ·exact ih p hp
     ·exact ⟨y, rfl⟩
  obtain ⟨k1, k2⟩ := key l (hmem l)
  exact ⟨k1, fun i x h => k2 i x ⟨x, h⟩ h⟩
theorem ren_given {W : SW} {S : Nat → SV} {H : HF} {σ : Nat → Value} {a : Act} {w : World} {s : AS} {bs : List Nat} {hp : List (Nat × Option Blk)}
  (hsub : ∀ b x, lk s.hp b = some x → H b = some x) (hsim : Sim W S H σ a w) (hhp : blksC s bs 0 bs = some hp) (nd : bs.Nodup) (hlo : W.lo ≤ w.heap.size) :
  (∀ hJ hO, Given (swH W.P w 0 (lk hp) (fun i => σ (bs.getD i 0)) W.lo hlo [] hJ hO) (lk hp) (fun i => σ (bs.getD i 0)) w) ∧
  (∀ i b, bs[i]? = some b → (lk hp i).isSome = true ∧ (lk s.hp b).isSome = true ∧ ∀ blk', lk hp i = some (some blk') → ∃ blk, H b = some (some blk) ∧ blk'.own = blk.own ∧ ∀ p, offC blk'.con p = offC blk.con p) ∧
  (∀ i, bs.length ≤ i → lk hp i = none) ∧
  (∀ g, Owned (lk hp) (fun i => σ (bs.getD i 0)) g → ∃ (i b : Nat) (c : Con), bs[i]? = some b ∧ H b = some (some ⟨true, c⟩) ∧ ownG (σ b) = some g) := by
 have hB := blksC_spec s bs bs 0 hp hhp
 generalize hσe : (fun i => σ (bs.getD i 0)) = σe
 have hτ : ∀ i b, bs[i]? = some b → σe i = σ b := fun i b hb => by
  rw [← hσe]
  show σ (bs.getD i 0) = σ b
  rw [List.getD_eq_getElem?_getD, hb]; rfl
 have hHb : ∀ i, (bs[i]? = none ∧ lk hp i = none) ∨ ∃ b, bs[i]? = some b ∧ lk hp i = renB s bs b ∧ (renB s bs b).isSome = true := by
  intro i
  cases hb : bs[i]? with
  | none => exact .inl ⟨rfl, (hB i).1 (.inr (by rw [Nat.zero_add]; exact List.getElem?_eq_none_iff.1 hb))⟩
  | some b =>
   have := (hB i).2 b hb
   rw [Nat.zero_add] at this
   exact .inr ⟨b, rfl, this⟩
 have hblk : ∀ i blk', lk hp i = some (some blk') → ∃ b blk, bs[i]? = some b ∧ H b = some (some blk) ∧ blk'.own = blk.own ∧ ((∃ x y, blk.con = .box x ∧ blk'.con = .box y ∧ renA bs x = some y) ∨ ∃ e l, blk.con = .arr e l ∧ blk'.con = .arr e l) := by
  intro i blk' hi
  rcases hHb i with ⟨_, h2⟩ | ⟨b, h1, h2, _⟩
  ·rw [h2] at hi; cases hi
  ·rw [h2] at hi
   unfold renB at hi
   split at hi
   ·rename_i own x hx
    split at hi
    ·rename_i y hy
     cases hi
     exact ⟨b, _, h1, hsub b _ hx, rfl, .inl ⟨x, y, rfl, rfl, hy⟩⟩
    ·cases hi
   ·rename_i own e l hx
    cases hi
    exact ⟨b, _, h1, hsub b _ hx, rfl, .inr ⟨e, l, rfl, rfl⟩⟩
   ·cases hi
   ·cases hi
 have hH2 : ∀ i b, bs[i]? = some b → (lk hp i).isSome = true ∧ (lk s.hp b).isSome = true ∧ ∀ blk', lk hp i = some (some blk') → ∃ blk, H b = some (some blk) ∧ blk'.own = blk.own ∧ ∀ p, offC blk'.con p = offC blk.con p := by
  intro i b hb
  rcases hHb i with ⟨h1, _⟩ | ⟨b', h1, h2, h3⟩
  ·rw [h1] at hb; cases hb
  ·rw [hb] at h1
   obtain rfl := Option.some.inj h1
   refine ⟨by rw [h2]; exact h3, ?_, fun blk' hi => ?_⟩
   ·revert h3
    unfold renB
    cases lk s.hp b with
    | none => intro h; cases h
    | some x => intro _; rfl
   ·obtain ⟨b', blk, q1, q2, q4, q3⟩ := hblk i blk' hi
    rw [hb] at q1
    obtain rfl := Option.some.inj q1
    refine ⟨blk, q2, q4, fun p => ?_⟩
    rcases q3 with ⟨x, y, e1, e2, e3⟩ | ⟨e, l, e1, e2⟩
    ·rw [e1, e2]; exact renA_off bs p x y e3
    ·rw [e1, e2]
 have hH : ∀ i b, bs[i]? = some b → (lk hp i).isSome = true ∧ ∀ blk', lk hp i = some (some blk') → ∃ blk, H b = some (some blk) ∧ ∀ p, offC blk'.con p = offC blk.con p := by
  intro i b hb
  obtain ⟨h1, _, h3⟩ := hH2 i b hb
  exact ⟨h1, fun blk' hi => by obtain ⟨blk, q1, _, q2⟩ := h3 blk' hi; exact ⟨blk, q1, q2⟩⟩
 have hOw : ∀ g, Owned (lk hp) σe g → ∃ (i b : Nat) (c : Con), bs[i]? = some b ∧ H b = some (some ⟨true, c⟩) ∧ ownG (σ b) = some g := by
  rintro g ⟨i, c, h1, h2⟩
  obtain ⟨b, blk, q1, q2, q3, _⟩ := hblk i _ h1
  rw [hτ i b q1] at h2
  obtain ⟨own, con⟩ := blk
  obtain rfl : true = own := q3
  exact ⟨i, b, con, q1, q2, h2⟩
 have hO : ∀ g, Owned (lk hp) σe g → Owned H σ g := by
  intro g hg
  obtain ⟨i, b, c, _, h1, h2⟩ := hOw g hg
  exact ⟨b, c, h1, h2⟩
 refine ⟨fun hJ' hO' => ⟨fun b => by rw [← hσe]; exact hsim.one _, fun i blk' hi => ?_, fun i j c c' h1 h2 hn k hk => ?_⟩, hH2, fun i hi => ?_, hOw⟩
 ·obtain ⟨b, blk, q1, q2, q3, q4⟩ := hblk i blk' hi
  have hr := hsim.blk b blk q2
  have ht := hτ i b q1
  rw [ht]
  obtain ⟨own, con⟩ := blk
  obtain ⟨own', con'⟩ := blk'
  obtain rfl : own' = own := q3
  rcases q4 with ⟨x, y, e1, e2, e3⟩ | ⟨e, l, e1, e2⟩
  ·dsimp only at e1 e2
   subst e1; subst e2
   cases own'
   ·obtain ⟨hw, g, o, r1, r2, r3, r4⟩ := hr
    exact ⟨renA_wf hH x y e3 hw, g, o, r1, r2, fun h => r3 (hO g h), by rw [renA_enc hτ x y e3]; exact r4⟩
   ·obtain ⟨hw, g, ty, r1, r2, r3⟩ := hr
    exact ⟨renA_wf hH x y e3 hw, g, ty, r1, .inr ⟨i, _, hi, by rw [ht, r1]; rfl⟩, by rw [renA_enc hτ x y e3]; exact r3⟩
  ·dsimp only at e1 e2
   subst e1; subst e2
   have hI : ∀ lo k l v, Innr w (Owned H σ) lo k l v → Innr w (Owned (lk hp) σe) lo k l v := fun lo k l v hv => hv.keep (Nat.le_refl _) fun g _ hg => ⟨rfl, fun h => hg (hO g h)⟩
   cases own'
   ·obtain ⟨xs, ao, cap, r1, r2, r3, r4⟩ := hr
    refine ⟨xs, ao, cap, r1.imp (hI 0), r2, r3, fun hne => ?_⟩
    obtain ⟨g, o, t1, t2, t3, t4⟩ := r4 hne
    exact ⟨g, o, t1, t2, fun h => t3 (hO g h), t4⟩
   ·obtain ⟨xs, r1, r2⟩ := hr
    refine ⟨xs, r1.imp (hI W.lo), ?_⟩
    rcases r2 with q | ⟨g, cap, cur, ty, r3, r4, r5⟩
    ·exact .inl q
    ·exact .inr ⟨g, cap, cur, ty, r3, .inr ⟨i, _, hi, by rw [ht, r3]; simp [ownG]; omega⟩, r5⟩
 ·obtain ⟨b, blk, q1, q2, q3, _⟩ := hblk i _ h1
  obtain ⟨b', blk', q1', q2', q3', _⟩ := hblk j _ h2
  rw [hτ i b q1] at hk
  rw [hτ j b' q1']
  obtain ⟨own, con⟩ := blk
  obtain ⟨own', con'⟩ := blk'
  obtain rfl : true = own := q3
  obtain rfl : true = own' := q3'
  refine hsim.sep b b' con con' q2 q2' (fun e => hn ?_) k hk
  subst e
  have hil := (List.getElem?_eq_some_iff.1 q1).1
  exact (List.getElem?_inj hil nd).1 (q1.trans q1'.symm)
 ·rcases hHb i with ⟨_, h2⟩ | ⟨b, h1, _⟩
  ·exact h2
  ·have := (List.getElem?_eq_some_iff.1 h1).1; omega
theorem Back.own_M {P : Program} {w w' : World} {H : HF} {σ σ' : Nat → Value} {lo : Nat} {hlo : lo ≤ w.heap.size} {hJ : JJ P w} {hO : ∀ g, Owned H σ g → ¬ TabBlk P g ∧ lo ≤ g} {m : Nat} {o : HOut} {z : Value} (h : Back (swH P w 0 H σ lo hlo [] hJ hO) H σ m w' o z σ') {b : Nat} {c : Con} (hb : lk o.hp b = some (some ⟨true, c⟩)) {g : Nat} (hg : ownG (σ' b) = some g) :
  g < w'.heap.size ∧ (w.heap.size ≤ g ∨ Owned H σ g) := by
 obtain ⟨_, _, hr⟩ := h.blk b _ hb
 cases c with
 | box a =>
  obtain ⟨_, g', ty, e, hM, hh⟩ := hr
  rw [e] at hg
  obtain rfl := Option.some.inj hg
  exact ⟨(Array.getElem?_eq_some_iff.1 hh).1, hM⟩
 | arr e l =>
  obtain ⟨xs, _, ⟨_, ao, e⟩ | ⟨g', cap, cur, ty, e, hM, hc, hh, _⟩⟩ := hr
  ·rw [e] at hg
   cases ao <;> simp [ownG] at hg
  ·rw [e] at hg
   simp only [ownG] at hg
   split at hg
   ·cases hg
   ·obtain rfl := Option.some.inj hg
    exact ⟨(Array.getElem?_eq_some_iff.1 hh).1, hM⟩
theorem Sim.callH {W : SW} {S : Nat → SV} {H : HF} {σ : Nat → Value} {a : Act} {w w' : World} {s : AS} {bs : List Nat} {hp : List (Nat × Option Blk)}
  (hsub : ∀ b x, lk s.hp b = some x → H b = some x) (hsim : Sim W S H σ a w) (hhp : blksC s bs 0 bs = some hp) (nd : bs.Nodup) (hlo : W.lo ≤ w.heap.size) {o : HOut} {z : Value} {σ' : Nat → Value} {hJ : JJ W.P w} {hO : ∀ g, Owned (lk hp) (fun i => σ (bs.getD i 0)) g → ¬ TabBlk W.P g ∧ W.lo ≤ g}
  (hb : Back (swH W.P w 0 (lk hp) (fun i => σ (bs.getD i 0)) W.lo hlo [] hJ hO) (lk hp) (fun i => σ (bs.getD i 0)) hp.length w' o z σ')
  (hf : ∀ b, s.n ≤ b → b < s.n + (o.n - bs.length) → H b = none) :
  ∃ σ2, Sim W S (appH H (mapH (bakN s.n bs) o.hp)) σ2 a w' ∧ SlotR (appH H (mapH (bakN s.n bs) o.hp)) σ2 (mapS (bakN s.n bs) o.res) z := by
 obtain ⟨hgiv, hH, hout, hOw⟩ := ren_given hsub hsim hhp nd hlo
 have hgiv := hgiv hJ hO
 have hlen : hp.length = bs.length := blksC_len s bs bs 0 hp hhp
 generalize hσe : (fun i => σ (bs.getD i 0)) = σe at hO hb hgiv hOw
 have hτ : ∀ i b, bs[i]? = some b → σe i = σ b := fun i b hb => by
  rw [← hσe]
  show σ (bs.getD i 0) = σ b
  rw [List.getD_eq_getElem?_getD, hb]; rfl
 have hOO : ∀ g, Owned (lk hp) σe g → Owned H σ g := by
  intro g hg
  obtain ⟨i, b, c, _, h1, h2⟩ := hOw g hg
  exact ⟨b, c, h1, h2⟩
 have hbsome : ∀ i b, bs[i]? = some b → (H b).isSome = true := fun i b hb => by
  obtain ⟨_, h2, _⟩ := hH i b hb
  cases hl : lk s.hp b with
  | none => rw [hl] at h2; cases h2
  | some x => rw [hsub b x hl]; rfl
 let V : Nat → Prop := fun i => i < bs.length ∨ (bs.length ≤ i ∧ i < o.n)
 have hV : ∀ i x, lk o.hp i = some x → V i := fun i x hx => by
  rcases hb.ids i x hx with ⟨c, hc⟩ | ⟨h1, h2⟩
  ·left
   by_cases hi : i < bs.length
   ·exact hi
   ·rw [hout i (by omega)] at hc; cases hc
  ·exact .inr ⟨by omega, h2⟩
 have hV' : ∀ i, (appH (lk hp) o.hp i).isSome = true → V i := fun i hi => by
  rw [appH_lkB] at hi
  cases hx : lk o.hp i with
  | some x => exact hV i x hx
  | none =>
   rw [hx] at hi
   left
   by_cases hil : i < bs.length
   ·exact hil
   ·rw [hout i (by omega)] at hi; cases hi
 have hcase : ∀ i, V i → (∃ b, bs[i]? = some b ∧ bakN s.n bs i = b) ∨ (bs.length ≤ i ∧ i < o.n ∧ bakN s.n bs i = s.n + (i - bs.length)) := by
  intro i hi
  rcases hi with hi | hi
  ·exact .inl ⟨bs[i], List.getElem?_eq_getElem hi, bakN_lt _ _ _ _ (List.getElem?_eq_getElem hi)⟩
  ·exact .inr ⟨hi.1, hi.2, bakN_ge _ _ _ hi.1⟩
 have hinj : ∀ i j, V i → V j → bakN s.n bs i = bakN s.n bs j → i = j := by
  intro i j hi hj e
  rcases hcase i hi with ⟨b, q1, q2⟩ | ⟨q1, q2, q3⟩
  ·rcases hcase j hj with ⟨b', r1, r2⟩ | ⟨r1, r2, r3⟩
   ·rw [q2, r2] at e
    subst e
    exact (List.getElem?_inj (List.getElem?_eq_some_iff.1 q1).1 nd).1 (q1.trans r1.symm)
   ·exfalso
    have := hbsome i b q1
    rw [q2, r3] at e
    rw [e, hf _ (by omega) (by omega)] at this
    cases this
  ·rcases hcase j hj with ⟨b', r1, r2⟩ | ⟨r1, r2, r3⟩
   ·exfalso
    have := hbsome j b' r1
    rw [q3, r2] at e
    rw [← e, hf _ (by omega) (by omega)] at this
    cases this
   ·rw [q3, r3] at e; omega
 obtain ⟨hm1, hm2⟩ := lk_mapH (bakN s.n bs) o.hp fun i j x y hx hy e => hinj i j (hV i x hx) (hV j y hy) e
 let σ2 : Nat → Value := fun b => if s.n ≤ b ∧ b < s.n + (o.n - bs.length) then σ' (bs.length + (b - s.n)) else σ b
 have hold : ∀ b, (H b).isSome = true → ¬ (s.n ≤ b ∧ b < s.n + (o.n - bs.length)) := fun b hb' hbb => by rw [hf b hbb.1 hbb.2] at hb'; cases hb'
 have hσ : ∀ b, (H b).isSome = true → σ2 b = σ b := fun b hb' => if_neg (hold b hb')
 have hσf : ∀ i, V i → σ2 (bakN s.n bs i) = σ' i := by
  intro i hi
  rcases hcase i hi with ⟨b, q1, q2⟩ | ⟨q1, q2, q3⟩
  ·rw [q2, hσ b (hbsome i b q1), ← hτ i b q1]
   exact (hb.ltr i (hH i b q1).1).symm
  ·rw [q3]
   show (if _ then _ else _) = _
   rw [if_pos (by omega)]
   congr 1
   omega
 have hH2 : ∀ b, (∃ i x, lk o.hp i = some x ∧ bakN s.n bs i = b ∧ appH H (mapH (bakN s.n bs) o.hp) b = some (mapB (bakN s.n bs) x)) ∨ ((∀ i x, lk o.hp i = some x → bakN s.n bs i ≠ b) ∧ appH H (mapH (bakN s.n bs) o.hp) b = H b) := by
  intro b
  by_cases he : ∃ i x, lk o.hp i = some x ∧ bakN s.n bs i = b
  ·obtain ⟨i, x, h1, h2⟩ := he
   refine .inl ⟨i, x, h1, h2, ?_⟩
   rw [appH_lkB, ← h2, hm2 i x h1]
  ·have he' : ∀ i x, lk o.hp i = some x → bakN s.n bs i ≠ b := fun i x h1 h2 => he ⟨i, x, h1, h2⟩
   refine .inr ⟨he', ?_⟩
   rw [appH_lkB, hm1 b he']
 have hmaps : Maps (bakN s.n bs) (appH (lk hp) o.hp) (appH H (mapH (bakN s.n bs) o.hp)) σ' σ2 := by
  intro i hi
  have hVi := hV' i hi
  refine ⟨hσf i hVi, ?_⟩
  rw [appH_lkB] at hi
  cases hx : lk o.hp i with
  | some x =>
   have e : appH H (mapH (bakN s.n bs) o.hp) (bakN s.n bs i) = some (mapB (bakN s.n bs) x) := by rw [appH_lkB, hm2 i x hx]
   rw [e]
   refine ⟨rfl, fun blk2 h2 => ?_⟩
   have h2 := Option.some.inj h2
   cases x with
   | none => cases h2
   | some blk =>
    obtain ⟨blk', q1, _, _, q2⟩ := mapB_off (bakN s.n bs) blk
    rw [q1] at h2
    obtain rfl := Option.some.inj h2
    exact ⟨blk, by rw [appH_lkB, hx], q2⟩
  | none =>
   rw [hx] at hi
   rcases hcase i hVi with ⟨b, q1, q2⟩ | ⟨q1, _, _⟩
   ·have e : appH H (mapH (bakN s.n bs) o.hp) (bakN s.n bs i) = H b := by
     rw [appH_lkB, hm1 _ (fun j x hj e => ?_), q2]
     have := hinj j i (hV j x hj) hVi e
     subst this
     rw [hx] at hj; cases hj
    rw [e]
    refine ⟨hbsome i b q1, fun blk2 h2 => ?_⟩
    obtain ⟨h3, h4, h5⟩ := hH i b q1
    cases hl : lk hp i with
    | none => rw [hl] at h3; cases h3
    | some y =>
     cases y with
     | none =>
      exfalso
      have hB := (blksC_spec s bs bs 0 hp hhp i).2 b q1
      rw [Nat.zero_add, hl] at hB
      have hr := hB.1.symm
      unfold renB at hr
      split at hr
      ·split at hr <;> cases hr
      ·cases hr
      ·rename_i hsn
       rw [hsub b _ hsn] at h2; cases h2
      ·cases hr
     | some blk' =>
      obtain ⟨blk, r1, _, r2⟩ := h5 blk' hl
      rw [r1] at h2
      cases h2
      exact ⟨blk', by rw [appH_lkB, hx]; exact hl, fun p => (r2 p).symm⟩
   ·rw [hout i q1] at hi; cases hi
 have hsh : Shape H (appH H (mapH (bakN s.n bs) o.hp)) := by
  intro b hbs
  rcases hH2 b with ⟨i, x, h1, h2, h3⟩ | ⟨_, h3⟩
  ·rw [h3]
   refine ⟨rfl, fun blk2 h4 => ?_⟩
   have h4 := Option.some.inj h4
   cases x with
   | none => cases h4
   | some blk =>
    obtain ⟨blk', q1, _, _, q2⟩ := mapB_off (bakN s.n bs) blk
    rw [q1] at h4
    obtain rfl := Option.some.inj h4
    rcases hcase i (hV i _ h1) with ⟨b', r1, r2⟩ | ⟨r1, r2, r3⟩
    ·rw [r2] at h2
     subst h2
     obtain ⟨t1, _, t3⟩ := hH i b' r1
     obtain ⟨t4, t5⟩ := hb.shape i t1
     obtain ⟨blk0, u1, u2⟩ := t5 blk (by rw [appH_lkB, h1])
     obtain ⟨blkH, v1, _, v2⟩ := t3 blk0 u1
     exact ⟨blkH, v1, fun q d hd => by rw [q2]; exact u2 q d (by rw [v2]; exact hd)⟩
    ·exfalso
     rw [← h2, r3, hf _ (by omega) (by omega)] at hbs
     cases hbs
  ·rw [h3]
   exact ⟨hbs, fun blk' e => ⟨blk', e, fun _ _ hd => hd⟩⟩
 have hown : ∀ b c g, appH H (mapH (bakN s.n bs) o.hp) b = some (some ⟨true, c⟩) → ownG (σ2 b) = some g → (∃ i c', V i ∧ bakN s.n bs i = b ∧ σ2 b = σ' i ∧ lk o.hp i = some (some ⟨true, c'⟩) ∧ (w.heap.size ≤ g ∨ Owned (lk hp) σe g)) ∨ ((∀ i x, lk o.hp i = some x → bakN s.n bs i ≠ b) ∧ H b = some (some ⟨true, c⟩) ∧ ownG (σ b) = some g) := by
  intro b c g h1 h2
  rcases hH2 b with ⟨i, x, q1, q2, q3⟩ | ⟨q1, q2⟩
  ·left
   rw [q3] at h1
   have h1 := Option.some.inj h1
   cases x with
   | none => cases h1
   | some blk =>
    obtain ⟨blk', r1, r2, _, _⟩ := mapB_off (bakN s.n bs) blk
    rw [r1] at h1
    obtain rfl := Option.some.inj h1
    obtain ⟨own, con⟩ := blk
    obtain rfl : true = own := r2
    have hs2 : σ2 b = σ' i := by rw [← q2]; exact hσf i (hV i _ q1)
    rw [hs2] at h2
    exact ⟨i, con, hV i _ q1, q2, hs2, q1, (hb.own_M q1 h2).2⟩
  ·right
   rw [q2] at h1
   rw [hσ b (by rw [h1]; rfl)] at h2
   exact ⟨q1, h1, h2⟩
 have howO : ∀ g, g < w.heap.size → Owned (appH H (mapH (bakN s.n bs) o.hp)) σ2 g → Owned H σ g := by
  intro g hg ho
  obtain ⟨b, c, h1, h2⟩ := ho
  rcases hown b c g h1 h2 with ⟨_, _, _, _, _, _, h3⟩ | ⟨_, h3, h4⟩
  ·rcases h3 with h3 | h3
   ·omega
   ·exact hOO g h3
  ·exact ⟨b, c, h3, h4⟩
 refine ⟨σ2, hsim.upd hb.bel.os hb.bel.tape hb.bel.output hb.bel.size (fun b => ?_) hσ hsh (fun g => Owned (lk hp) σe g) (fun g hg hn => hb.bel.block g hg fun hM => ?_) (fun g hg => ⟨hOO g hg, (hsim.owned_lt (hOO g hg)).2⟩) (fun g hg ho => ?_) (fun b blk hbb => ?_) (fun b b' c c' h1 h2 hn k hk => ?_), mapS_ok hmaps hb.res⟩
 ·show (if _ then _ else _ : Value).oneCell' = true
  split
  ·exact hb.one _
  ·exact hsim.one b
 ·rcases hM with hM | hM
  ·have hM : w.heap.size ≤ g := hM
   omega
  ·exact hn hM
 ·obtain ⟨b, c, h1, h2⟩ := ho
  rcases hown b c g h1 h2 with ⟨_, _, _, _, _, _, h3⟩ | ⟨_, h3, h4⟩
  ·rcases h3 with h3 | h3
   ·omega
   ·exact hOO g h3
  ·exact ⟨b, c, h3, h4⟩
 ·rcases hH2 b with ⟨i, x, q1, q2, q3⟩ | ⟨q1, q2⟩
  ·right
   rw [q3] at hbb
   have hbb := Option.some.inj hbb
   cases x with
   | none => cases hbb
   | some blk0 =>
    have hs2 : σ2 b = σ' i := by rw [← q2]; exact hσf i (hV i _ q1)
    rw [hs2]
    obtain ⟨ho, hfl, hr⟩ := hb.blk i blk0 q1
    obtain ⟨own, con⟩ := blk0
    obtain rfl : own = true := ho
    cases con with
    | box x =>
     obtain rfl : (⟨true, .box (mapA (bakN s.n bs) x)⟩ : Blk) = blk := Option.some.inj hbb
     obtain ⟨hw, g, ty, r1, r2, r3⟩ := hr
     obtain ⟨m1, m2⟩ := mapA_ok hmaps x hw
     refine ⟨m2, g, ty, r1, ?_, by rw [m1]; exact r3⟩
     rcases r2 with r2 | r2
     ·exact W.hM g (Nat.le_trans hsim.bel.size r2)
     ·exact (hsim.owned_lt (hOO g r2)).2
    | arr e l =>
     obtain rfl : (⟨true, .arr e l⟩ : Blk) = blk := Option.some.inj hbb
     have back : ∀ xs, OwnArr (swH W.P w 0 (lk hp) σe W.lo hlo [] hJ hO) w' (σ' i) e.sz l.length xs → OwnArr W w' (σ' i) e.sz l.length xs := by
      intro xs r2
      rcases r2 with q | ⟨g, cap, cur, ty, r3, r4, r5⟩
      ·exact .inl q
      ·refine .inr ⟨g, cap, cur, ty, r3, ?_, r5⟩
       rcases r4 with r4 | r4
       ·exact W.hM g (Nat.le_trans hsim.bel.size r4)
       ·exact (hsim.owned_lt (hOO g r4)).2
     rcases hfl with hfl | ⟨b0, e0, l0, l1, xs0, ys, k1, k2, k3, k4, k5, k6⟩
     ·obtain ⟨xs, r1, r2⟩ := hr
      exact ⟨xs, RowsC_flat hfl r1, back xs r2⟩
     ·cases k4
      have hb0 : ∃ b, bs[b0]? = some b ∧ H b = some (some ⟨true, .arr e l0⟩) := by
       by_cases hbl : b0 < bs.length
       ·have hbb0 := List.getElem?_eq_getElem hbl
        refine ⟨bs[b0], hbb0, ?_⟩
        have hB := (blksC_spec s bs bs 0 hp hhp b0).2 _ hbb0
        rw [Nat.zero_add, k1] at hB
        have hr0 := hB.1.symm
        unfold renB at hr0
        split at hr0
        ·split at hr0 <;> cases hr0
        ·rename_i hsn
         cases hr0
         exact hsub _ _ hsn
        ·cases hr0
        ·cases hr0
       ·rw [hout b0 (by omega)] at k1; cases k1
      obtain ⟨bb, hbb1, hbb2⟩ := hb0
      obtain ⟨zs, z1, z2⟩ := hsim.blk bb _ hbb2
      have ez : zs = xs0 := by
       rw [hτ b0 bb hbb1] at k3
       exact z2.uniq k3 z1.len k2
      subst ez
      refine ⟨ys, (k6 _ z1).imp fun k l' v hv => hv.keep (show w.heap.size ≤ w'.heap.size from hb.bel.size) fun g hg hn => ⟨hb.bel.block g hg fun hM => ?_, fun ho => hn (howO g hg ho)⟩, back ys k5⟩
      rcases hM with hM | hM
      ·have hM : w.heap.size ≤ g := hM
       omega
      ·exact hn (hOO g hM)
  ·left
   rw [q2] at hbb
   refine ⟨hbb, fun ho g hg => ?_⟩
   obtain ⟨own, con⟩ := blk
   subst ho
   refine ⟨fun hT => ?_, (hsim.own_lt hbb hg).1⟩
   obtain ⟨i, b', c', r1, r2, r3⟩ := hOw g hT
   by_cases e : b = b'
   ·subst e
    obtain ⟨t1, _, t3⟩ := hH i b r1
    cases hl : lk hp i with
    | none => rw [hl] at t1; cases t1
    | some y =>
     have hB := (blksC_spec s bs bs 0 hp hhp i).2 b r1
     rw [Nat.zero_add, hl] at hB
     have hr := hB.1.symm
     cases y with
     | none =>
      unfold renB at hr
      split at hr
      ·split at hr <;> cases hr
      ·cases hr
      ·rename_i hsn
       rw [hsub b _ hsn] at hbb; cases hbb
      ·cases hr
     | some blk' =>
      obtain ⟨blkH, u1, u2, _⟩ := t3 blk' hl
      rw [u1] at hbb
      cases hbb
      obtain ⟨own', con'⟩ := blk'
      obtain rfl : own' = true := u2
      have := hb.all i con' hl
      cases hx : lk o.hp i with
      | none => rw [hx] at this; cases this
      | some x => exact q1 i x hx (bakN_lt _ _ _ _ r1)
   ·exact hsim.sep b b' con c' hbb r2 e g hg r3
 ·intro hk2
  rcases hown b c k h1 hk with ⟨i, ci, v1, v2, v3, v4, v5⟩ | ⟨v1, v2, v3⟩
  ·rcases hown b' c' k h2 hk2 with ⟨j, cj, u1, u2, u3, u4, u5⟩ | ⟨u1, u2, u3⟩
   ·rw [v3] at hk
    rw [u3] at hk2
    refine hb.sep i j ci cj (by rw [appH_lkB, v4]) (by rw [appH_lkB, u4]) (fun e => hn ?_) k hk hk2
    rw [← v2, ← u2, e]
   ·have hlt := (hsim.own_lt u2 u3).1
    rcases v5 with v5 | v5
    ·omega
    ·obtain ⟨j, b2, c2, r1, r2, r3⟩ := hOw k v5
     by_cases e : b' = b2
     ·subst e
      obtain ⟨t1, _, t3⟩ := hH j b' r1
      cases hl : lk hp j with
      | none => rw [hl] at t1; cases t1
      | some y =>
       have hB := (blksC_spec s bs bs 0 hp hhp j).2 b' r1
       rw [Nat.zero_add, hl] at hB
       have hr := hB.1.symm
       cases y with
       | none =>
        unfold renB at hr
        split at hr
        ·split at hr <;> cases hr
        ·cases hr
        ·rename_i hsn
         rw [hsub b' _ hsn] at r2; cases r2
        ·cases hr
       | some blk' =>
        obtain ⟨blkH, w1, w2, _⟩ := t3 blk' hl
        rw [w1] at r2
        cases r2
        obtain ⟨own', con'⟩ := blk'
        obtain rfl : own' = true := w2
        have := hb.all j con' hl
        cases hx : lk o.hp j with
        | none => rw [hx] at this; cases this
        | some x => exact u1 j x hx (bakN_lt _ _ _ _ r1)
     ·exact hsim.sep b' b2 c' c2 u2 r2 e k u3 r3
  ·rcases hown b' c' k h2 hk2 with ⟨j, cj, u1, u2, u3, u4, u5⟩ | ⟨u1, u2, u3⟩
   ·have hlt := (hsim.own_lt v2 v3).1
    rcases u5 with u5 | u5
    ·omega
    ·obtain ⟨j, b2, c2, r1, r2, r3⟩ := hOw k u5
     by_cases e : b = b2
     ·subst e
      obtain ⟨t1, _, t3⟩ := hH j b r1
      cases hl : lk hp j with
      | none => rw [hl] at t1; cases t1
      | some y =>
       have hB := (blksC_spec s bs bs 0 hp hhp j).2 b r1
       rw [Nat.zero_add, hl] at hB
       have hr := hB.1.symm
       cases y with
       | none =>
        unfold renB at hr
        split at hr
        ·split at hr <;> cases hr
        ·cases hr
        ·rename_i hsn
         rw [hsub b _ hsn] at r2; cases r2
        ·cases hr
       | some blk' =>
        obtain ⟨blkH, w1, w2, _⟩ := t3 blk' hl
        rw [w1] at r2
        cases r2
        obtain ⟨own', con'⟩ := blk'
        obtain rfl : own' = true := w2
        have := hb.all j con' hl
        cases hx : lk o.hp j with
        | none => rw [hx] at this; cases this
        | some x => exact v1 j x hx (bakN_lt _ _ _ _ r1)
     ·exact hsim.sep b b2 c c2 v2 r2 e k v3 r3
   ·exact hsim.sep b b' c c' v2 u2 hn k v3 u3
section
variable {R : Type} {W : SW} {X : Ctx} {s : AS} {o : Oper} {K : Eff → Option R} {r : R}
theorem ansH_some {bs : List Nat} {z : HAns} (h : ansH s o bs K z = some r) : ∃ rv, z.c = some rv ∧ putH s o bs K (z.out rv) = some r := by
 cases z with
 | one α c out =>
  cases c with
  | none => cases h
  | some rv => exact ⟨rv, rfl, h⟩
 | two α β c oa ob =>
  cases c with
  | none => cases h
  | some rv =>
   cases rv with
   | inl x => exact ⟨.inl x, rfl, h⟩
   | inr y => exact ⟨.inr y, rfl, h⟩
theorem aCallH_ok (hX : CtxW W X) (hd : ∀ i, o.dst = some i → i < W.N) {f : Operand} {ts : Array TypeId} {xs : Array Operand} (ho : o.op = .call { callee := .value f, args := xs, argTypes := ts })
  {g : Nat} {as : List A} (hf : opA X.T s 0 f = some (.clo g [])) (has : opsA X.T s ts.toList xs.toList = some as) {γ : HCon} (hγ : X.Ξ g = some γ) (h : aCallH s o γ as K = some r) : ∃ e, K e = some r ∧ OpOK W o s e := by
 unfold aCallH at h
 generalize reach s 300 (blocksL as) [] = bs at h
 dsimp only at h
 split at h
 ·rename_i ys hp hren hhp hnd
  obtain ⟨rv, hrv, h⟩ := ansH_some h
  ·generalize hout : (γ ys hp).out rv = oo at h
   obtain ⟨res, hp', n⟩ := oo
   unfold putH at h
   dsimp only at h
   obtain ⟨hchk, h⟩ := cond_some h
   obtain ⟨hent, hsnd⟩ := hX.hp g γ hγ
   have hs' := hsnd ys hp
   have nd := nodupN_spec bs hnd
   have hlen : hp.length = bs.length := blksC_len s bs bs 0 hp hhp
   refine ⟨_, h, ⟨Nat.le_add_right _ _, fun b x hm => ?_⟩, ?_⟩
   ·have key : ∀ (l : List (Nat × Option Blk)), (l.all fun p => Nat.blt p.1 bs.length || Nat.blt p.1 n) = true → (b, x) ∈ mapH (bakN s.n bs) l → ∃ i, (i < bs.length ∨ i < n) ∧ bakN s.n bs i = b := by
     intro l
     induction l with
     | nil => intro _ hm; cases hm
     | cons p l ih =>
      intro ha hm
      obtain ⟨i, y⟩ := p
      rw [List.all_cons, Bool.and_eq_true] at ha
      simp only [mapH, List.mem_cons, Prod.mk.injEq] at hm
      rcases hm with ⟨e, _⟩ | hm
      ·refine ⟨i, ?_, e.symm⟩
       have := ha.1
       simp only [Bool.or_eq_true, Nat.blt_eq] at this
       exact this
      ·exact ih ha.2 hm
    obtain ⟨i, hi, e⟩ := key hp' hchk hm
    by_cases hil : i < bs.length
    ·right
     have hb := List.getElem?_eq_getElem hil
     rw [bakN_lt _ _ _ _ hb] at e
     have hB := (blksC_spec s bs bs 0 hp hhp i).2 _ hb
     have h3 := hB.2
     rw [← e]
     revert h3
     unfold renB
     cases lk s.hp bs[i] with
     | none => intro h; cases h
     | some x => intro _; rfl
    ·left
     rw [bakN_ge _ _ _ (by omega)] at e
     show s.n ≤ b ∧ b < s.n + (n - bs.length)
     omega
   intro S H σ a w hs hfr hsim next Q hnx
   have hlo : W.lo ≤ w.heap.size := Nat.le_trans W.hlo hsim.bel.size
   obtain ⟨h1, h2⟩ := opA_val hs hsim hf
   obtain ⟨h3, h4⟩ := opsA_vals hs hsim has
   obtain ⟨hgiv, hH, hno, hOw⟩ := ren_given hs.2 hsim hhp nd hlo
   have hτ : ∀ i b, bs[i]? = some b → (fun i => σ (bs.getD i 0)) i = σ b := fun i b hb => by
    show σ (bs.getD i 0) = σ b
    rw [List.getD_eq_getElem?_getD, hb]; rfl
   have hys := renL_vals hτ as ys hren
   have hwf : WfL (lk hp) ys := renL_wf (H := H) (fun i b hb => by
    obtain ⟨q1, _, q3⟩ := hH i b hb
    exact ⟨q1, fun blk' hi => by obtain ⟨blk, t1, _, t2⟩ := q3 blk' hi; exact ⟨blk, t1, t2⟩⟩) as ys hren h4
   have hrun : (execOp a.eval o).run W.P w = .ok (.enter g (as.map (val σ)).toArray) w := by
    have h6 : xs.map a.eval = (as.map (val σ)).toArray := by
     apply Array.toList_inj.1
     rw [Array.toList_map, h3]
    have h7 : a.eval f = .func (.func g) #[] #[] := by rw [h1]; rfl
    have h8 := hent (#[] ++ (as.map (val σ)).toArray ++ #[]) w
    simp only [execOp, ho, Go.resolve, h6, h7, Deferred.ofValue, invoke, Sem.run_bind, Sem.run_pure, Result.andThen_ok, h8]
    congr 2
    simp
   unfold Oper.wp
   rw [hrun]
   show Calls W.P g _ w _
   have hcall := hs' rv hrv w W.lo hlo (fun i => σ (bs.getD i 0)) hsim.jj (fun g hg => by
    obtain ⟨i, b, c, _, q1, q2⟩ := hOw g hg
    exact ⟨W.hT g (hsim.owned_lt ⟨b, c, q1, q2⟩).2, W.hL g (hsim.owned_lt ⟨b, c, q1, q2⟩).2⟩) (fun b => ⟨fun hb => ?_, fun hb => ?_⟩) hwf (hgiv _ _)
   ·rw [hys] at hcall
    refine hcall.mono fun en w' hpost => ?_
    obtain ⟨z, rfl, σ', hback⟩ := hpost
    rw [hout] at hback
    show next (a.put o.dst z) w'
    obtain ⟨σ2, hsim2, hres⟩ := Sim.callH hs.2 hsim hhp nd hlo hback (fun b q1 q2 => hfr b q1 q2)
    exact hnx σ2 _ _ (hsim2.put hd hres)
   ·rw [hlen] at hb
    exact (hH b _ (List.getElem?_eq_getElem hb)).1
   ·by_cases hbl : b < hp.length
    ·exact hbl
    ·rw [hno b (by omega)] at hb; cases hb
 ·cases h
end
end Go.RR
