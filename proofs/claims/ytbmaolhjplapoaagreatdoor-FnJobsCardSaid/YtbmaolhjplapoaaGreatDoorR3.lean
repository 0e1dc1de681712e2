/- Functions that get blocks with what leads to them: entry, exit, contract. No condition. -/
import Derived.Test.YtbmaolhjplapoaaGreatDoorRo
set_option linter.unusedVariables false
set_option linter.unusedSimpArgs false
set_option linter.unusedSectionVars false
namespace Go.RR
open Go Go.RowKit
def enterH (as : List A) (hp : List (Nat × Option Blk)) : AS := ⟨numS 0 as, hp, hp.length⟩
def okC : Con → Con → Bool
 | .box a, .box b => compat a b
 | .arr e _, .arr e' _ => decide (e' = e)
 | _, _ => false
def finH (hp0 : List (Nat × Option Blk)) : List (Nat × Option Blk) → Option (List (Nat × Option Blk))
 | [] => some []
 | (i, x) :: r => match finH hp0 r with
  | none => none
  | some r' => match lk hp0 i, x with
   | some (some ⟨false, c⟩), some ⟨false, c'⟩ => cond (okC c c') (some r') none
   | some (some ⟨true, c⟩), some ⟨true, c'⟩ => cond (okC c c' && c'.flat) (some ((i, some ⟨true, c'⟩) :: r')) none
   | some (some ⟨true, _⟩), _ => some ((i, none) :: r')
   | none, some ⟨true, c'⟩ => cond c'.flat (some ((i, some ⟨true, c'⟩) :: r')) none
   | none, _ => some ((i, none) :: r')
   | _, _ => none
def svOf : List A → SV
 | [y] => .a y
 | ys => .tup ys
def K0H (T : Tab) (rs : List ResultVar) (hp0 : List (Nat × Option Blk)) : Kont HOut := fun e s => match e with
 | .x _ => none
 | _ => match rvals T s rs with
  | some xs => match reach s 300 (kidsL s (List.range hp0.length) ++ blocksL xs) (List.range hp0.length) with
   | bs => match renL bs xs, blksC s bs 0 bs, nodupN bs with
    | some ys, some hp, true => match finH hp0 hp with
     | some out => some ⟨svOf ys, out, bs.length⟩
     | none => none
    | _, _, _ => none
  | none => none
mutual
def skA : A → A
 | .v _ => .v (.bool false)
 | .rc fs => .rc (skL fs)
 | .fa n k _ => .fa n k fun _ => 0
 | .fb n _ => .fb n fun _ => false
 | .fa2 n m k _ => .fa2 n m k fun _ _ => 0
 | .nil e => .nil e
 | .sl b => .sl b
 | .ptr b p off => .ptr b p off
 | .clo f cs => .clo f cs
 | .lst e _ => .lst e []
 | .ref a => .ref a
def skL : List A → List A
 | [] => []
 | a :: as => skA a :: skL as
end
def skC : Con → Con
 | .box a => .box (skA a)
 | .arr e _ => .arr e []
def skH : List (Nat × Option Blk) → List (Nat × Option Blk)
 | [] => []
 | (i, some ⟨own, c⟩) :: r => (i, some ⟨own, skC c⟩) :: skH r
 | (i, none) :: r => (i, none) :: skH r
mutual
theorem compat_sk : ∀ a x : A, compat (skA a) x = compat a x
 | .rc fs, x => by
  cases x <;> first | rfl | skip
  rename_i gs
  simp only [skA, compat]
  exact compatL_sk fs gs
 | .v _, x => by cases x <;> rfl
 | .fa n k f, x => by cases x <;> rfl
 | .fb n f, x => by cases x <;> rfl
 | .fa2 n m k f, x => by cases x <;> rfl
 | .nil _, x => rfl
 | .sl _, x => rfl
 | .ptr .., x => rfl
 | .clo .., x => rfl
 | .lst e l, x => by cases x <;> rfl
 | .ref _, x => rfl
theorem compatL_sk : ∀ as xs : List A, compatL (skL as) xs = compatL as xs
 | [], xs => rfl
 | a :: as, [] => rfl
 | a :: as, x :: xs => by simp only [skL, compatL, compat_sk a x, compatL_sk as xs]
end
theorem okC_sk (c c' : Con) : okC (skC c) c' = okC c c' := by
 cases c <;> cases c' <;> first | rfl | exact compat_sk _ _
theorem lk_skH : ∀ (hp : List (Nat × Option Blk)) (i : Nat), lk (skH hp) i = match lk hp i with
  | some (some ⟨own, c⟩) => some (some ⟨own, skC c⟩)
  | some none => some none
  | none => none
 | [], i => rfl
 | (j, x) :: r, i => by
  cases x with
  | none =>
   simp only [skH, lk]
   cases Nat.beq i j
   ·exact lk_skH r i
   ·rfl
  | some blk =>
   obtain ⟨own, c⟩ := blk
   simp only [skH, lk]
   cases Nat.beq i j
   ·exact lk_skH r i
   ·rfl
theorem skH_len : ∀ hp : List (Nat × Option Blk), (skH hp).length = hp.length
 | [] => rfl
 | (j, none) :: r => by simp only [skH, List.length_cons, skH_len r]
 | (j, some ⟨_, _⟩) :: r => by simp only [skH, List.length_cons, skH_len r]
theorem finH_sk (hp : List (Nat × Option Blk)) : ∀ l, finH (skH hp) l = finH hp l
 | [] => rfl
 | (i, x) :: r => by
  simp only [finH, finH_sk hp r, lk_skH]
  cases finH hp r with
  | none => rfl
  | some r' =>
   dsimp only
   cases lk hp i with
   | none => rfl
   | some y =>
    cases y with
    | none => rfl
    | some blk =>
     obtain ⟨own, c⟩ := blk
     cases own <;> (cases x with
      | none => rfl
      | some b =>
       obtain ⟨own', c'⟩ := b
       cases own' <;> first | rfl | simp only [okC_sk])
theorem K0H_sk (T : Tab) (rs : List ResultVar) (hp : List (Nat × Option Blk)) : K0H T rs (skH hp) = K0H T rs hp := by
 funext e s
 unfold K0H
 simp only [finH_sk, skH_len]
theorem finH_spec (hp0 : List (Nat × Option Blk)) : ∀ (l out : List (Nat × Option Blk)), (l.map (·.1)).Nodup → finH hp0 l = some out →
  (∀ i, lk l i = none → lk out i = none) ∧ ∀ i x, lk l i = some x →
   (∃ c c', lk hp0 i = some (some ⟨false, c⟩) ∧ x = some ⟨false, c'⟩ ∧ okC c c' = true ∧ lk out i = none) ∨
   (∃ c c', lk hp0 i = some (some ⟨true, c⟩) ∧ x = some ⟨true, c'⟩ ∧ okC c c' = true ∧ c'.flat = true ∧ lk out i = some x) ∨
   (∃ c', lk hp0 i = none ∧ x = some ⟨true, c'⟩ ∧ c'.flat = true ∧ lk out i = some x) ∨
   ((lk hp0 i = none ∨ ∃ c, lk hp0 i = some (some ⟨true, c⟩)) ∧ lk out i = some none)
 | [], out, _, h => by
  obtain rfl := Option.some.inj h
  exact ⟨fun _ _ => rfl, fun i x hx => by cases hx⟩
 | (j, y) :: r, out, hnd, h => by
  simp only [List.map_cons, List.nodup_cons] at hnd
  simp only [finH] at h
  cases hr : finH hp0 r with
  | none => rw [hr] at h; cases h
  | some r' =>
   rw [hr] at h
   dsimp only at h
   obtain ⟨ih1, ih2⟩ := finH_spec hp0 r r' hnd.2 hr
   have hj : lk r j = none := by
    have key : ∀ (r : List (Nat × Option Blk)), j ∉ r.map (·.1) → lk r j = none := by
     intro r
     induction r with
     | nil => intro _; rfl
     | cons p r ih =>
      intro hn
      obtain ⟨k, z⟩ := p
      simp only [List.map_cons, List.mem_cons, not_or] at hn
      simp only [lk]
      rw [beqF hn.1, cond_false]
      exact ih hn.2
    exact key r hnd.1
   have skip : out = r' → lk out j = none := fun e => by rw [e]; exact ih1 j hj
   have step : ∀ z : Option Blk, out = (j, z) :: r' → (lk out j = some z) ∧ ∀ i, i ≠ j → lk out i = lk r' i := fun z e => by
    rw [e]
    refine ⟨by simp [lk], fun i hi => ?_⟩
    simp only [lk]
    rw [beqF hi, cond_false]
   have head : (∀ i, i ≠ j → lk out i = lk r' i) ∧ ((∃ c c', lk hp0 j = some (some ⟨false, c⟩) ∧ y = some ⟨false, c'⟩ ∧ okC c c' = true ∧ lk out j = none) ∨
     (∃ c c', lk hp0 j = some (some ⟨true, c⟩) ∧ y = some ⟨true, c'⟩ ∧ okC c c' = true ∧ c'.flat = true ∧ lk out j = some y) ∨
     (∃ c', lk hp0 j = none ∧ y = some ⟨true, c'⟩ ∧ c'.flat = true ∧ lk out j = some y) ∨
     ((lk hp0 j = none ∨ ∃ c, lk hp0 j = some (some ⟨true, c⟩)) ∧ lk out j = some none)) := by
    split at h
    ·rename_i c c' h0
     obtain ⟨hc, h⟩ := cond_some h
     have e := (Option.some.inj h).symm
     exact ⟨fun i _ => by rw [e], .inl ⟨c, c', h0, rfl, hc, skip e⟩⟩
    ·rename_i c c' h0
     obtain ⟨hc, h⟩ := cond_some h
     simp only [Bool.and_eq_true] at hc
     obtain ⟨s1, s2⟩ := step _ (Option.some.inj h).symm
     exact ⟨s2, .inr (.inl ⟨c, c', h0, rfl, hc.1, hc.2, s1⟩)⟩
    ·rename_i h0 hne
     obtain ⟨s1, s2⟩ := step _ (Option.some.inj h).symm
     exact ⟨s2, .inr (.inr (.inr ⟨.inr ⟨_, h0⟩, s1⟩))⟩
    ·rename_i c' h0
     obtain ⟨hc, h⟩ := cond_some h
     obtain ⟨s1, s2⟩ := step _ (Option.some.inj h).symm
     exact ⟨s2, .inr (.inr (.inl ⟨c', h0, rfl, hc, s1⟩))⟩
    ·rename_i h0 hne
     obtain ⟨s1, s2⟩ := step _ (Option.some.inj h).symm
     exact ⟨s2, .inr (.inr (.inr ⟨.inl h0, s1⟩))⟩
    ·cases h
   refine ⟨fun i hi => ?_, fun i x hx => ?_⟩
   ·simp only [lk] at hi
    by_cases e : i = j
    ·subst e; simp at hi
    ·rw [beqF e, cond_false] at hi
     rw [head.1 i e]; exact ih1 i hi
   ·simp only [lk] at hx
    by_cases e : i = j
    ·subst e
     simp only [Nat.beq_refl, cond_true, Option.some.injEq] at hx
     subst hx
     exact head.2
    ·rw [beqF e, cond_false] at hx
     rw [head.1 i e]; exact ih2 i x hx
theorem blksC_keys (s : AS) (bs : List Nat) : ∀ (r : List Nat) (n : Nat) (hp : List (Nat × Option Blk)), blksC s bs n r = some hp → (hp.map (·.1)).Nodup ∧ ∀ k ∈ hp.map (·.1), n ≤ k
 | [], n, hp, h => by obtain rfl := Option.some.inj h; simp
 | b :: r, n, hp, h => by
  simp only [blksC] at h
  split at h
  ·rename_i x xs hx hxs
   obtain rfl := Option.some.inj h
   obtain ⟨h1, h2⟩ := blksC_keys s bs r (n + 1) xs hxs
   simp only [List.map_cons, List.nodup_cons]
   refine ⟨⟨fun hm => by have := h2 n hm; omega, h1⟩, fun k hk => ?_⟩
   rcases List.mem_cons.1 hk with rfl | hk
   ·exact Nat.le_refl _
   ·have := h2 k hk; omega
  ·cases h
theorem off_arr {e : ET} {l l' : List e.den} {I : Inn} {xs : List Value} (hr : RowsC I e l xs) (hl : l'.length = l.length) : ∀ q, offC (.arr e l') q = offC (.arr e l) q := by
 cases hf : e.flat with
 | true => exact off_rows hf hr hl
 | false =>
  intro q
  cases q with
  | nil => rfl
  | cons i p =>
   simp only [offC, hl]
   split
   ·cases e with
    | st ts => cases hf
    | one t =>
     cases t <;> first | (cases hf; done) | skip
     cases p <;> rfl
   ·rfl
theorem rep_len {W W' : SW} {H H' : HF} {σ σ' : Nat → Value} {w w' : World} {v : Value} {o o' : Bool} {e e' : ET} {l : List e.den} {l' : List e'.den} (h : RepB W H σ w v ⟨o, .arr e l⟩) (h' : RepB W' H' σ' w' v ⟨o', .arr e' l'⟩) : l'.length = l.length := by
 have key : ∀ {W : SW} {H : HF} {σ : Nat → Value} {w : World} {o : Bool} {e : ET} {l : List e.den}, RepB W H σ w v ⟨o, .arr e l⟩ → ∃ ao cap, v = .slice ao l.length cap := by
  intro W H σ w o e l h
  cases o
  ·obtain ⟨xs, ao, cap, _, e1, _⟩ := h
   exact ⟨ao, cap, e1⟩
  ·obtain ⟨xs, _, ⟨hn, ao, e1⟩ | ⟨g, cap, cur, ty, e1, _⟩⟩ := h
   ·exact ⟨ao, 0, by rw [hn]; exact e1⟩
   ·exact ⟨_, cap, e1⟩
 obtain ⟨ao, cap, e1⟩ := key h
 obtain ⟨ao', cap', e2⟩ := key h'
 rw [e1] at e2
 simp only [Value.slice.injEq] at e2
 exact e2.2.1.symm
theorem okC_off {W W' : SW} {H H' : HF} {σ σ' : Nat → Value} {w w' : World} {v : Value} {o o' : Bool} {c c' : Con} (hc : okC c c' = true) (h : RepB W H σ w v ⟨o, c⟩) (h' : RepB W' H' σ' w' v ⟨o', c'⟩) : ∀ p, offC c' p = offC c p := by
 cases c with
 | box a =>
  cases c' with
  | box b => exact fun p => compat_off p a b hc
  | arr e l => cases hc
 | arr e l =>
  cases c' with
  | box b => cases hc
  | arr e' l' =>
   have hee := of_decide_eq_true hc
   subst hee
   have hl := rep_len h h'
   cases o
   ·obtain ⟨xs, _, _, hr, _⟩ := h
    exact off_arr hr hl
   ·obtain ⟨xs, hr, _⟩ := h
    exact off_arr hr hl
theorem enterH_ok {P : Program} {w : World} {N lo : Nat} {hlo : lo ≤ w.heap.size} {as : List A} {hp : List (Nat × Option Blk)} {σ : Nat → Value} {hJ : JJ P w} {hO : ∀ g, Owned (lk hp) σ g → ¬ TabBlk P g ∧ lo ≤ g} (hdom : ∀ b, b < hp.length ↔ (lk hp b).isSome = true) (hwf : WfL (lk hp) as) (hg : Given (swH P w 0 (lk hp) σ lo hlo [] hJ hO) (lk hp) σ w) (hN : as.length ≤ N) :
  St (swH P w N (lk hp) σ lo hlo ((List.range hp.length).map σ) hJ hO) (enterH as hp) σ { tmps := (as.map (val σ)).toArray ++ Array.replicate (N - (as.map (val σ)).toArray.size) undef, defers := [] } w := by
 refine ⟨fun b hb => ?_, ⟨rfl, rfl, rfl, Nat.le_refl _, fun _ _ _ => rfl⟩, rfl, ?_, hg.one, fun i => ?_, hg.blk, hg.sep, fun i v hv => ?_⟩
 ·cases hl : lk hp b with
  | none => exact hl
  | some x =>
   have hb : hp.length ≤ b := hb
   have := (hdom b).2 (by rw [hl]; rfl)
   omega
 ·show ((as.map (val σ)).toArray ++ Array.replicate (N - (as.map (val σ)).toArray.size) undef).size = N
  simp; omega
 ·show SlotR _ σ (match lk (numS 0 as) i with | some x => x | none => .none) _
  rw [lk_numS]
  simp only [Nat.zero_le, if_true, Nat.sub_zero]
  cases hx : as[i]? with
  | none => trivial
  | some x =>
   have hlt := (List.getElem?_eq_some_iff.1 hx).1
   refine ⟨?_, WfL_mem hwf x (List.mem_of_getElem? hx)⟩
   simp only [Array.getD_eq_getD_getElem?]
   rw [Array.getElem?_append_left (by simpa using hlt), List.getElem?_toArray, List.getElem?_map, hx]
   rfl
 ·have hv : ((List.range hp.length).map σ)[i]? = some v := hv
  rw [List.getElem?_map] at hv
  by_cases hi : i < hp.length
  ·rw [List.getElem?_range hi] at hv
   exact ⟨(hdom i).1 hi, by simpa using hv⟩
  ·rw [List.getElem?_eq_none (by simpa using hi)] at hv
   cases hv
theorem sound_ofH {P : Program} {X : Ctx} (hX : CtxOK P X) {f : Nat} {fn : Func} {c : Code} (LV : List (Nat × Keep)) {γ : HCon} (np : Nat)
  (hf : P.funcs[f]? = some fn) (hb : fn.body = some c) {rv : List ResultVar} (hrv : fn.results.toList = rv) (hd : slotsOk fn.ntmps c = true) (hn : (loopIds c).Nodup) (hnp : np ≤ fn.ntmps)
  (h : ∀ as hp r, (γ as hp).c = some r → as.length = np ∧ ev X (lpc (cnOfH hp.length LV) (L X (cnOfH hp.length LV) c (K0H X.T rv hp) ((γ as hp).out r))) c (K0H X.T rv hp) (enterH as hp) = some ((γ as hp).out r)) (hwk : X.weak = false) : HSound P f γ := by
 intro as hp r hc w lo hlo σ hJ hO hdom hwf hgiv
 obtain ⟨hlen, h2⟩ := h as hp r hc
 have hst := enterH_ok (N := fn.ntmps) hdom hwf hgiv (by rw [hlen]; exact hnp)
 generalize (γ as hp).out r = oo at h2
 refine calls_of_wp hf hb ?_
 refine top_ok (W := swH P w fn.ntmps (lk hp) σ lo hlo ((List.range hp.length).map σ) hJ hO) ⟨hX, fun h => by rw [hwk] at h; cases h⟩ (cnH_ok (m := hp.length) (by simp [swH]) LV) hd hn (Q0 := bodyPost P fn _) ?_ h2 hst
 intro en s σ' a w' hk hs
 have key : (match rvals X.T s rv with
  | some xs => match reach s 300 (kidsL s (List.range hp.length) ++ blocksL xs) (List.range hp.length) with
   | bs => match renL bs xs, blksC s bs 0 bs, nodupN bs with
    | some ys, some hp', true => match finH hp hp' with
     | some out => some (⟨svOf ys, out, bs.length⟩ : HOut)
     | none => none
    | _, _, _ => none
  | none => none) = some oo → a.defers = [] ∧ ∃ v, (results fn a.tmps).run P w' = .ok v w' ∧ ∃ z, Ending.returned v = .returned z ∧ ∃ σ2, Back (swH P w 0 (lk hp) σ lo hlo [] hJ hO) (lk hp) σ hp.length w' oo z σ2 := by
  intro ho
  cases hrx : rvals X.T s rv with
  | none => rw [hrx] at ho; cases ho
  | some xs =>
   rw [hrx] at ho
   dsimp only at ho
   have hpre : ∀ i, i < hp.length → (reach s 300 (kidsL s (List.range hp.length) ++ blocksL xs) (List.range hp.length))[i]? = some i := fun i hi => reach_range s _ _ _ hi
   generalize reach s 300 (kidsL s (List.range hp.length) ++ blocksL xs) (List.range hp.length) = bs at ho hpre
   split at ho
   ·rename_i ys hpF hren hblk hnd
    split at ho
    ·rename_i out hfin
     obtain rfl := Option.some.inj ho
     have hcan : canonB s [] bs = some ⟨[], hpF, bs.length⟩ := by
      unfold canonB
      rw [hblk]
      simp only [slotsC, hnd, cond_true]
     obtain ⟨σF, hst2, hτ, hH⟩ := canonB_full (W := swH P w fn.ntmps (lk hp) σ lo hlo ((List.range hp.length).map σ) hJ hO) (fun i v hv => hpre i (by have := (List.getElem?_eq_some_iff.1 hv).1; simpa [swH] using this)) hcan hs
     have hsimF := hst2.2
     have hHF : HFof ⟨[], hpF, bs.length⟩ = lk hpF := rfl
     rw [hHF] at hsimF hH
     have hrun := results_run (W := swH P w fn.ntmps (lk hp) σ lo hlo ((List.range hp.length).map σ) hJ hO) hX.tab hs (fn := fn) (by rw [hrv]; exact hrx)
     obtain ⟨_, hwfx⟩ := results_list (W := swH P w fn.ntmps (lk hp) σ lo hlo ((List.range hp.length).map σ) hJ hO) hX.tab hs rv xs hrx
     obtain ⟨fs1, fs2⟩ := finH_spec hp hpF out (blksC_keys s bs bs 0 hpF hblk).1 hfin
     have hltr : ∀ b, (lk hp b).isSome = true → σF b = σ b := fun b hb' => by
      have hbl := (hdom b).2 hb'
      exact (hsimF.gh b (σ b) (by show ((List.range hp.length).map σ)[b]? = some (σ b); rw [List.getElem?_map, List.getElem?_range hbl]; rfl)).2
     have hin : ∀ b, (lk hp b).isSome = true → ∃ x, lk hpF b = some x := fun b hb' => by
      have := (hH b b (hpre b ((hdom b).2 hb'))).1
      cases hl : lk hpF b with
      | none => rw [hl] at this; cases this
      | some x => exact ⟨x, rfl⟩
     have hsh : Shape (lk hpF) (appH (lk hp) out) := by
      intro b hb'
      cases hx : lk hpF b with
      | none => rw [hx] at hb'; cases hb'
      | some x =>
       rw [appH_lkB]
       rcases fs2 b x hx with ⟨c0, c1, q1, rfl, q3, q4⟩ | ⟨c0, c1, q1, rfl, q3, q4, q5⟩ | ⟨c1, q1, rfl, q4, q5⟩ | ⟨q1, q2⟩
       ·rw [q4, q1]
        refine ⟨rfl, fun blk' e => ?_⟩
        obtain rfl := Option.some.inj (Option.some.inj e)
        refine ⟨_, rfl, fun q d hd' => ?_⟩
        rw [← okC_off q3 (hgiv.blk b _ q1) (by have := hsimF.blk b _ hx; rw [hltr b (by rw [q1]; rfl)] at this; exact this)]
        exact hd'
       ·rw [q5]
        refine ⟨rfl, fun blk' e => ?_⟩
        obtain rfl := Option.some.inj (Option.some.inj e)
        exact ⟨_, rfl, fun q d hd' => hd'⟩
       ·rw [q5]
        refine ⟨rfl, fun blk' e => ?_⟩
        obtain rfl := Option.some.inj (Option.some.inj e)
        exact ⟨_, rfl, fun q d hd' => hd'⟩
       ·rw [q2]
        exact ⟨rfl, fun blk' e => by cases e⟩
     refine ⟨hs.2.defers, _, hrun, _, rfl, σF, ⟨hsimF.bel.os, hsimF.bel.tape, hsimF.bel.output, hsimF.bel.size, hsimF.bel.block⟩, hltr, hsimF.one, fun b hb' => ?_, ?_, fun b x hx => ?_, fun b c1 hb' => ?_, fun b blk hb' => ?_, fun b b' c1 c2 h3 h4 hne k hk1 => ?_⟩
     ·obtain ⟨x, hx⟩ := hin b hb'
      dsimp only
      rw [appH_lkB]
      rcases fs2 b x hx with ⟨c0, c1, q1, rfl, q3, q4⟩ | ⟨c0, c1, q1, rfl, q3, q4, q5⟩ | ⟨c1, q1, rfl, q4, q5⟩ | ⟨q1, q2⟩
      ·rw [q4]
       exact ⟨hb', fun blk' e => ⟨blk', e, fun _ _ hd' => hd'⟩⟩
      ·rw [q5]
       refine ⟨rfl, fun blk' e => ?_⟩
       obtain rfl := Option.some.inj (Option.some.inj e)
       refine ⟨_, q1, fun q d hd' => ?_⟩
       rw [okC_off q3 (hgiv.blk b _ q1) (by have := hsimF.blk b _ hx; rw [hltr b hb'] at this; exact this)]
       exact hd'
      ·rw [q1] at hb'; cases hb'
      ·rw [q2]
       exact ⟨rfl, fun blk' e => by cases e⟩
     ·have hval := renL_vals hτ xs ys hren
      have hwfy := WfL_mono hsh ys (renL_wf hH xs ys hren hwfx)
      rw [← hval]
      dsimp only
      revert hwfy
      match ys with
      | [] => intro hwfy; exact ⟨rfl, trivial⟩
      | [y] => intro hwfy; exact ⟨rfl, hwfy.1⟩
      | y :: y' :: ys' => intro hwfy; exact ⟨rfl, hwfy⟩
     ·dsimp only at hx
      cases hl : lk hpF b with
      | none => rw [fs1 b hl] at hx; cases hx
      | some y =>
       have hbl : b < bs.length := by
        by_cases hb2 : b < bs.length
        ·exact hb2
        ·have := hst2.1 b (by show bs.length ≤ b; omega)
         have this : lk hpF b = none := this
         rw [this] at hl; cases hl
       have hnew : lk hp b = none → hp.length ≤ b := fun e => by
        by_cases hb2 : b < hp.length
        ·have := (hdom b).1 hb2; rw [e] at this; cases this
        ·omega
       rcases fs2 b y hl with ⟨c0, c1, q1, rfl, q3, q4⟩ | ⟨c0, c1, q1, rfl, q3, q4, q5⟩ | ⟨c1, q1, rfl, q4, q5⟩ | ⟨q1 | ⟨c0, q1⟩, q2⟩
       ·rw [q4] at hx; cases hx
       ·exact .inl ⟨c0, q1⟩
       ·exact .inr ⟨hnew q1, hbl⟩
       ·exact .inr ⟨hnew q1, hbl⟩
       ·exact .inl ⟨c0, q1⟩
     ·obtain ⟨x, hx⟩ := hin b (by rw [hb']; rfl)
      dsimp only
      rcases fs2 b x hx with ⟨c0, c2, q1, rfl, q3, q4⟩ | ⟨c0, c2, q1, rfl, q3, q4, q5⟩ | ⟨c2, q1, rfl, q4, q5⟩ | ⟨_, q2⟩
      ·rw [q1] at hb'; cases hb'
      ·rw [q5]; rfl
      ·rw [q5]; rfl
      ·rw [q2]; rfl
     ·dsimp only at hb'
      cases hl : lk hpF b with
      | none => rw [fs1 b hl] at hb'; cases hb'
      | some y =>
       have fin : ∀ c1 : Con, y = some ⟨true, c1⟩ → c1.flat = true → lk out b = some y → blk.own = true ∧ (blk.con.flat = true ∨ Kin (swH P w 0 (lk hp) σ lo hlo [] hJ hO) (lk hp) σ w' blk.con (σF b)) ∧ RepB (swH P w 0 (lk hp) σ lo hlo [] hJ hO) (appH (lk hp) out) σF w' (σF b) blk := by
        intro c1 e hfl ho
        rw [ho] at hb'
        subst e
        obtain rfl := Option.some.inj (Option.some.inj hb')
        refine ⟨rfl, .inl hfl, ?_⟩
        have hr := hsimF.blk b _ hl
        cases c1 with
        | box x =>
         obtain ⟨r1, g, ty, r2, r3, r4⟩ := hr
         exact ⟨WfA_mono hsh x r1, g, ty, r2, r3, r4⟩
        | arr e l =>
         obtain ⟨ws, r1, r2⟩ := hr
         exact ⟨ws, RowsC_flat hfl r1, r2⟩
       rcases fs2 b y hl with ⟨c0, c1, q1, e, q3, q4⟩ | ⟨c0, c1, q1, e, q3, q4, q5⟩ | ⟨c1, q1, e, q4, q5⟩ | ⟨_, q2⟩
       ·rw [q4] at hb'; cases hb'
       ·exact fin c1 e q4 q5
       ·exact fin c1 e q4 q5
       ·rw [q2] at hb'; cases hb'
     ·have own : ∀ b c1, appH (lk hp) out b = some (some ⟨true, c1⟩) → ∃ c3, lk hpF b = some (some ⟨true, c3⟩) := by
       intro b c1 h5
       rw [appH_lkB] at h5
       cases hl : lk hpF b with
       | none =>
        rw [fs1 b hl] at h5
        dsimp only at h5
        obtain ⟨x, hx⟩ := hin b (by rw [h5]; rfl)
        rw [hx] at hl; cases hl
       | some y =>
        rcases fs2 b y hl with ⟨c0, c4, q1, rfl, q3, q4⟩ | ⟨c0, c4, q1, rfl, q3, q4, q5⟩ | ⟨c4, q1, rfl, q4, q5⟩ | ⟨_, q2⟩
        ·rw [q4, q1] at h5; cases h5
        ·exact ⟨c4, rfl⟩
        ·exact ⟨c4, rfl⟩
        ·rw [q2] at h5; cases h5
      obtain ⟨c3, h5⟩ := own b c1 h3
      obtain ⟨c4, h6⟩ := own b' c2 h4
      exact hsimF.sep b b' c3 c4 h5 h6 hne k hk1
    ·cases ho
   ·cases ho
 cases en with
 | n => exact key hk
 | r => exact key hk
 | x i => cases hk
def GoodH (X : Ctx) (LV : List (Nat × Keep)) (c : Code) (rv : List ResultVar) (np m : Nat) (hp0 : List (Nat × Option Blk)) (as : List A) (hp : List (Nat × Option Blk)) : HAns → Prop
 | .one _ cc out => ∀ r, cc = some r → as.length = np ∧ (skH hp = hp0 ∧ hp.length = m) ∧ ev X (lpc (cnOfH m LV) (L X (cnOfH m LV) c (K0H X.T rv hp0) (out r))) c (K0H X.T rv hp0) (enterH as hp) = some (out r)
 | .two _ _ cc oa ob => ∀ r, cc = some r → as.length = np ∧ (skH hp = hp0 ∧ hp.length = m) ∧ ev X (lpc (cnOfH m LV) (L X (cnOfH m LV) c (K0H X.T rv hp0) (sumOut oa ob r))) c (K0H X.T rv hp0) (enterH as hp) = some (sumOut oa ob r)
theorem sound_goodH {P : Program} {X : Ctx} (hX : CtxOK P X) {f : Nat} {fn : Func} {c : Code} (LV : List (Nat × Keep)) {γ : HCon} (np m : Nat) (hp0 : List (Nat × Option Blk))
  (hf : P.funcs[f]? = some fn) (hb : fn.body = some c) {rv : List ResultVar} (hrv : fn.results.toList = rv) (hd : slotsOk fn.ntmps c = true) (hn : nodupN (loopIds c) = true) (hnp : Nat.ble np fn.ntmps = true)
  (h : ∀ as hp, GoodH X LV c rv np m hp0 as hp (γ as hp)) (hwk : X.weak = false := by rfl) : HSound P f γ := by
 have key : ∀ as hp (z : HAns), GoodH X LV c rv np m hp0 as hp z → ∀ r, z.c = some r → as.length = np ∧ ev X (lpc (cnOfH hp.length LV) (L X (cnOfH hp.length LV) c (K0H X.T rv hp) (z.out r))) c (K0H X.T rv hp) (enterH as hp) = some (z.out r) := by
  rintro as hp (⟨_, cc, out⟩ | ⟨_, _, cc, oa, ob⟩) hz r hr
  ·obtain ⟨h1, ⟨h2, h3⟩, h4⟩ := hz r hr
   subst h3
   rw [← h2, K0H_sk] at h4
   exact ⟨h1, h4⟩
  ·obtain ⟨h1, ⟨h2, h3⟩, h4⟩ := hz r hr
   subst h3
   rw [← h2, K0H_sk] at h4
   exact ⟨h1, h4⟩
 exact sound_ofH hX LV np hf hb hrv hd (nodupN_spec _ hn) (Nat.le_of_ble_eq_true hnp) (fun as hp r hr => key as hp _ (h as hp) r hr) hwk
def NoneH : HAns → Prop
 | .one _ c _ => c = none
 | .two _ _ c _ _ => c = none
theorem sound_noneH {P : Program} {f : Nat} {γ : HCon} (h : ∀ as hp, NoneH (γ as hp)) : HSound P f γ := by
 intro as hp r hr
 have key : ∀ z : HAns, NoneH z → ∀ r, z.c = some r → False := by
  rintro (⟨α, c, o⟩ | ⟨α, β, c, o, o'⟩) hz r hr
  ·have hz : c = none := hz
   subst hz; cases hr
  ·have hz : c = none := hz
   subst hz; cases hr
 exact (key _ (h as hp) r hr).elim
noncomputable def LqH (m : Nat) (hp0 : List (Nat × Option Blk)) (X : Ctx) (LV : List (Nat × Keep)) (c : Code) (rv : List ResultVar) (r : HOut) : Nat → AS → Option HOut := L X (cnOfH m LV) c (K0H X.T rv hp0) r
noncomputable def TqH (m : Nat) (hp0 : List (Nat × Option Blk)) (X : Ctx) (LV : List (Nat × Keep)) (c : Code) (rv : List ResultVar) (r : HOut) (xs : List A) (hp : List (Nat × Option Blk)) : Option HOut := ev X (lpc (cnOfH m LV) (LqH m hp0 X LV c rv r)) c (K0H X.T rv hp0) (enterH xs hp)
theorem goodH {P : Program} {X : Ctx} (hX : CtxOK P X) {f : Nat} {fn : Func} (LV : List (Nat × Keep)) (c : Code) (rv : List ResultVar) {γ : HCon} (np m : Nat) (hp0 : List (Nat × Option Blk)) (hf : P.funcs[f]? = some fn) (h : ∀ as hp, GoodH X LV c rv np m hp0 as hp (γ as hp))
  (hb : fn.body = some c := by kernel_rfl) (hrv : fn.results.toList = rv := by kernel_rfl) (hd : slotsOk fn.ntmps c = true := by kernel_rfl) (hn : nodupN (loopIds c) = true := by kernel_rfl) (hnp : Nat.ble np fn.ntmps = true := by kernel_rfl) (hwk : X.weak = false := by rfl) : HSound P f γ := sound_goodH hX LV np m hp0 hf hb hrv hd hn hnp h hwk
end Go.RR
