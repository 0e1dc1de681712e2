/- Entry and exit of a function; its contract. No condition. -/
import Derived.Test.YtbmaolhjplapoaaGreatDoorRm
import Derived.Laws.Sem
set_option linter.unusedVariables false
set_option linter.unusedSimpArgs false
set_option linter.unusedSectionVars false
namespace Go.RR
open Go Go.RowKit
mutual
def entA (n : Nat) : A → A × List (Nat × Option Blk) × Nat
 | .lst e l => (.sl n, [(n, some ⟨false, .arr e l⟩)], n + 1)
 | .ref a => match entA n a with
  | (x, h, m) => (.ptr m [] 0, (m, some ⟨false, .box x⟩) :: h, m + 1)
 | .clo f cs => match entL n cs with
  | (xs, h, m) => (.clo f xs, h, m)
 | .rc fs => match entL n fs with
  | (xs, h, m) => (.rc xs, h, m)
 | a => (a, [], n)
def entL (n : Nat) : List A → List A × List (Nat × Option Blk) × Nat
 | [] => ([], [], n)
 | a :: as => match entA n a with
  | (x, h, m) => match entL m as with
   | (xs, h', m') => (x :: xs, h' ++ h, m')
end
def enter (args : List A) : AS := match entL 0 args with
 | (xs, h, m) => ⟨numS 0 xs, h, m⟩
theorem appH_append (H : HF) : ∀ h h' : List (Nat × Option Blk), appH H (h' ++ h) = appH (appH H h) h'
 | h, [] => rfl
 | h, p :: h' => by
  obtain ⟨b, x⟩ := p
  show setF (appH H (h' ++ h)) b _ = setF (appH (appH H h) h') b _
  rw [appH_append H h h']
structure EntOK (W : SW) (w : World) (n : Nat) (H : HF) (σ : Nat → Value) : Prop where
 none : ∀ b, n ≤ b → H b = none
 one : ∀ b, (σ b).oneCell' = true
 blk : ∀ b x, H b = some x → ∃ c, x = some ⟨false, c⟩ ∧ RepB W H σ w (σ b) ⟨false, c⟩
theorem EntOK.no {W : SW} {w : World} {n : Nat} {H : HF} {σ : Nat → Value} (h : EntOK W w n H σ) (g : Nat) : ¬ Owned H σ g := by
 rintro ⟨b, c, h1, _⟩
 obtain ⟨c', h2, _⟩ := h.blk b _ h1
 cases h2
theorem EntOK.add {W : SW} {w : World} {n : Nat} {H : HF} {σ : Nat → Value} (h : EntOK W w n H σ) {c : Con} {v : Value} (hv : v.oneCell' = true)
  (hr : RepB W (setF H n (some (some ⟨false, c⟩))) (setF σ n v) w v ⟨false, c⟩) : EntOK W w (n + 1) (setF H n (some (some ⟨false, c⟩))) (setF σ n v) := by
 have hsome : ∀ b, (H b).isSome = true → b ≠ n := fun b hb e => by rw [e, h.none n (Nat.le_refl _)] at hb; cases hb
 refine ⟨fun b hb => ?_, fun b => ?_, fun b x hb => ?_⟩
 ·rw [setF_other _ _ (by omega)]; exact h.none b (by omega)
 ·by_cases e : b = n
  ·subst e; rw [setF_same]; exact hv
  ·rw [setF_other _ _ e]; exact h.one b
 ·by_cases e : b = n
  ·subst e
   rw [setF_same] at hb
   obtain rfl := Option.some.inj hb
   rw [setF_same]
   exact ⟨c, rfl, hr⟩
  ·rw [setF_other _ _ e] at hb ⊢
   obtain ⟨c', h1, h2⟩ := h.blk b x hb
   refine ⟨c', h1, h2.keep (fun b' hb' => setF_other _ _ (hsome b' hb')) (fun b' hb' => ?_) (Nat.le_refl _) (fun g _ _ => ⟨rfl, ?_⟩) (fun hf => by cases hf)⟩
   ·rw [setF_other _ _ (hsome b' hb')]
    exact ⟨hb', fun blk' q => ⟨blk', q, fun _ _ hd => hd⟩⟩
   ·rintro ⟨b', c2, q1, q2⟩
    by_cases e' : b' = n
    ·subst e'; rw [setF_same] at q1; cases q1
    ·rw [setF_other _ _ e'] at q1
     obtain ⟨c3, q3, _⟩ := h.blk b' _ q1
     cases q3
theorem Innr.free {w : World} {H : HF} {σ : Nat → Value} (hno : ∀ g, ¬ Owned H σ g) {lo : Nat} {k : IntKind} {l : List Int} {v : Value} (h : Innr w (fun _ => False) lo k l v) : Innr w (Owned H σ) lo k l v := by
 obtain ⟨ao, cap, h1, h2, h3⟩ := h
 exact ⟨ao, cap, h1, h2, fun hl => by
  obtain ⟨g, o, e, hlo, hg, _, hr⟩ := h3 hl
  exact ⟨g, o, e, hlo, hg, hno g, hr⟩⟩
def Ext (n : Nat) (H H' : HF) (σ σ' : Nat → Value) : Prop := ∀ b, b < n → H' b = H b ∧ σ' b = σ b
mutual
theorem entA_ok {W : SW} {w : World} : ∀ (a : A) (n : Nat) (H : HF) (σ : Nat → Value) (cs : List Value), EntOK W w n H σ → CellsR w a cs →
  ∀ x h m, entA n a = (x, h, m) → n ≤ m ∧ isAg x = isAg a ∧ ∃ σ', EntOK W w m (appH H h) σ' ∧ Ext n H (appH H h) σ σ' ∧ cs = enc σ' x ∧ WfA (appH H h) x
 | .v v, n, H, σ, cs, he, hc, x, h, m, e => by
  simp only [entA, Prod.mk.injEq] at e; obtain ⟨rfl, rfl, rfl⟩ := e
  exact ⟨Nat.le_refl _, rfl, σ, he, fun _ _ => ⟨rfl, rfl⟩, hc.1, hc.2⟩
 | .fa .., n, H, σ, cs, he, hc, x, h, m, e | .fb .., n, H, σ, cs, he, hc, x, h, m, e | .fa2 .., n, H, σ, cs, he, hc, x, h, m, e => by
  simp only [entA, Prod.mk.injEq] at e; obtain ⟨rfl, rfl, rfl⟩ := e
  exact ⟨Nat.le_refl _, rfl, σ, he, fun _ _ => ⟨rfl, rfl⟩, hc, trivial⟩
 | .nil _, n, H, σ, cs, he, hc, x, h, m, e | .sl _, n, H, σ, cs, he, hc, x, h, m, e | .ptr .., n, H, σ, cs, he, hc, x, h, m, e => hc.elim
 | .lst el l, n, H, σ, cs, he, hc, x, h, m, e => by
  simp only [entA, Prod.mk.injEq] at e; obtain ⟨rfl, rfl, rfl⟩ := e
  obtain ⟨xs, ao, cap, rfl, hle, hr, hl⟩ := hc
  have hno : ∀ g, ¬ Owned (setF H n (some (some ⟨false, .arr el l⟩))) (setF σ n (.slice ao l.length cap)) g := by
   rintro g ⟨b, c2, q1, q2⟩
   by_cases e' : b = n
   ·subst e'; rw [setF_same] at q1; cases q1
   ·rw [setF_other _ _ e'] at q1
    obtain ⟨c3, q3, _⟩ := he.blk b _ q1
    cases q3
  refine ⟨Nat.le_succ n, rfl, setF σ n (.slice ao l.length cap), he.add rfl ⟨xs, ao, cap, hr.imp fun k l v hv => hv.free hno, rfl, hle, fun hne => ?_⟩, fun b hb => ⟨setF_other _ _ (by omega), setF_other _ _ (by omega)⟩, ?_, ?_⟩
  ·obtain ⟨g, o, q1, q2, q3⟩ := hl hne
   exact ⟨g, o, q1, q2, hno g, q3⟩
  ·simp only [enc, setF_same]
  ·show ((setF H n _) n).isSome = true
   rw [setF_same]; rfl
 | .ref a, n, H, σ, cs, he, hc, x, h, m, e => by
  simp only [entA] at e
  generalize hr : entA n a = r at e
  obtain ⟨y, h0, m0⟩ := r
  simp only [Prod.mk.injEq] at e; obtain ⟨rfl, rfl, rfl⟩ := e
  obtain ⟨g, o, ds, rfl, hg, hd, hl⟩ := hc
  obtain ⟨h1, h2, σ1, h3, h4, h5, h6⟩ := entA_ok a n H σ ds he hd y h0 m0 hr
  have hsome : ∀ b, ((appH H h0) b).isSome = true → b ≠ m0 := fun b hb e => by rw [e, h3.none m0 (Nat.le_refl _)] at hb; cases hb
  have hsh : Shape (appH H h0) (setF (appH H h0) m0 (some (some ⟨false, .box y⟩))) := fun b hb => by
   rw [setF_other _ _ (hsome b hb)]
   exact ⟨hb, fun blk' q => ⟨blk', q, fun _ _ hd => hd⟩⟩
  have hcg : ∀ b, ((appH H h0) b).isSome = true → setF σ1 m0 (.pointer (some ⟨g, o, none⟩)) b = σ1 b := fun b hb => setF_other _ _ (hsome b hb)
  have hno : ∀ g', ¬ Owned (setF (appH H h0) m0 (some (some ⟨false, .box y⟩))) (setF σ1 m0 (.pointer (some ⟨g, o, none⟩))) g' := by
   rintro g' ⟨b, c2, q1, q2⟩
   by_cases e' : b = m0
   ·subst e'; rw [setF_same] at q1; cases q1
   ·rw [setF_other _ _ e'] at q1
    obtain ⟨c3, q3, _⟩ := h3.blk b _ q1
    cases q3
  refine ⟨by omega, rfl, setF σ1 m0 (.pointer (some ⟨g, o, none⟩)), h3.add rfl ⟨WfA_mono hsh y h6, g, o, rfl, hg, hno g, ?_⟩, fun b hb => ?_, ?_, ?_⟩
  ·rw [enc_congr hcg y h6, ← h5]; exact hl
  ·show setF (appH H h0) m0 _ b = _ ∧ _
   rw [setF_other _ _ (by omega), setF_other _ _ (by omega)]
   exact h4 b hb
  ·simp only [enc, setF_same]; rfl
  ·refine ⟨?_, fun blk' hb' => ?_⟩
   ·show ((setF (appH H h0) m0 _) m0).isSome = true
    rw [setF_same]; rfl
   ·have hb2 : setF (appH H h0) m0 (some (some ⟨false, .box y⟩)) m0 = some (some blk') := hb'
    rw [setF_same] at hb2
    cases hb2
    exact offA_nil y
 | .clo f xs, n, H, σ, cs, he, hc, x, h, m, e => by
  simp only [entA] at e
  generalize hr : entL n xs = r at e
  obtain ⟨ys, h0, m0⟩ := r
  simp only [Prod.mk.injEq] at e; obtain ⟨rfl, rfl, rfl⟩ := e
  obtain ⟨hag, ds, rfl, hd⟩ := hc
  obtain ⟨h1, h2, σ1, h3, h4, h5, h6⟩ := entL_ok xs n H σ ds he hd ys h0 m0 hr
  refine ⟨h1, rfl, σ1, h3, h4, by simp only [enc, h5], h6, ?_⟩
  have e1 : (ys.all fun c => !isAg c) = (ys.map isAg).all (fun b => !b) := by rw [List.all_map]; rfl
  have e2 : (xs.all fun c => !isAg c) = (xs.map isAg).all (fun b => !b) := by rw [List.all_map]; rfl
  rw [e1, h2, ← e2]; exact hag
 | .rc fs, n, H, σ, cs, he, hc, x, h, m, e => by
  simp only [entA] at e
  generalize hr : entL n fs = r at e
  obtain ⟨ys, h0, m0⟩ := r
  simp only [Prod.mk.injEq] at e; obtain ⟨rfl, rfl, rfl⟩ := e
  obtain ⟨h1, h2, σ1, h3, h4, h5, h6⟩ := entL_ok fs n H σ cs he hc ys h0 m0 hr
  exact ⟨h1, rfl, σ1, h3, h4, h5, h6⟩
theorem entL_ok {W : SW} {w : World} : ∀ (as : List A) (n : Nat) (H : HF) (σ : Nat → Value) (cs : List Value), EntOK W w n H σ → CellsRL w as cs →
  ∀ xs h m, entL n as = (xs, h, m) → n ≤ m ∧ xs.map isAg = as.map isAg ∧ ∃ σ', EntOK W w m (appH H h) σ' ∧ Ext n H (appH H h) σ σ' ∧ cs = encL σ' xs ∧ WfL (appH H h) xs
 | [], n, H, σ, cs, he, hc, xs, h, m, e => by
  simp only [entL, Prod.mk.injEq] at e; obtain ⟨rfl, rfl, rfl⟩ := e
  exact ⟨Nat.le_refl _, rfl, σ, he, fun _ _ => ⟨rfl, rfl⟩, hc, trivial⟩
 | a :: as, n, H, σ, cs, he, hc, xs, h, m, e => by
  simp only [entL] at e
  generalize hr : entA n a = r at e
  obtain ⟨y, h0, m0⟩ := r
  dsimp only at e
  generalize hr' : entL m0 as = r' at e
  obtain ⟨ys, h0', m0'⟩ := r'
  simp only [Prod.mk.injEq] at e; obtain ⟨rfl, rfl, rfl⟩ := e
  obtain ⟨c1, c2, rfl, hc1, hc2⟩ := hc
  obtain ⟨h1, h2, σ1, h3, h4, h5, h6⟩ := entA_ok a n H σ c1 he hc1 y h0 m0 hr
  obtain ⟨q1, q2, σ2, q3, q4, q5, q6⟩ := entL_ok as m0 (appH H h0) σ1 c2 h3 hc2 ys h0' m0' hr'
  rw [appH_append]
  have hin : ∀ b, ((appH H h0) b).isSome = true → b < m0 := fun b hb => by
   by_cases hlt : b < m0
   ·exact hlt
   ·rw [h3.none b (by omega)] at hb; cases hb
  have hsh : Shape (appH H h0) (appH (appH H h0) h0') := fun b hb => by
   rw [(q4 b (hin b hb)).1]
   exact ⟨hb, fun blk' q => ⟨blk', q, fun _ _ hd => hd⟩⟩
  refine ⟨by omega, by simp [h2, q2], σ2, q3, fun b hb => ?_, ?_, WfA_mono hsh y h6, q6⟩
  ·obtain ⟨r1, r2⟩ := q4 b (by omega)
   obtain ⟨r3, r4⟩ := h4 b hb
   exact ⟨r1.trans r3, r2.trans r4⟩
  ·show c1 ++ c2 = enc σ2 y ++ encL σ2 ys
   rw [q5, h5, enc_congr (fun b hb => (q4 b (hin b hb)).2) y h6]
end
theorem lk_numS : ∀ (xs : List A) (k i : Nat), lk (numS k xs) i = if k ≤ i then (match xs[i - k]? with | some x => some (.a x) | none => none) else none
 | [], k, i => by simp [numS, lk]
 | x :: xs, k, i => by
  simp only [numS, lk]
  by_cases h : i = k
  ·subst h; simp
  ·rw [beqF h, cond_false, lk_numS xs (k + 1) i]
   by_cases h1 : k ≤ i
   ·rw [if_pos h1, if_pos (by omega), show i - k = (i - (k + 1)) + 1 by omega, List.getElem?_cons_succ]
   ·rw [if_neg h1, if_neg (by omega)]
theorem entV_ok {W : SW} {w : World} : ∀ (as : List A) (vs : List Value) (n : Nat) (H : HF) (σ : Nat → Value), EntOK W w n H σ → ArgsV w as vs →
  ∀ xs h m, entL n as = (xs, h, m) → n ≤ m ∧ ∃ σ', EntOK W w m (appH H h) σ' ∧ Ext n H (appH H h) σ σ' ∧ vs = xs.map (val σ') ∧ WfL (appH H h) xs
 | [], vs, n, H, σ, he, hv, xs, h, m, e => by
  simp only [entL, Prod.mk.injEq] at e; obtain ⟨rfl, rfl, rfl⟩ := e
  exact ⟨Nat.le_refl _, σ, he, fun _ _ => ⟨rfl, rfl⟩, hv, trivial⟩
 | a :: as, vs, n, H, σ, he, hv, xs, h, m, e => by
  simp only [entL] at e
  generalize hr : entA n a = r at e
  obtain ⟨y, h0, m0⟩ := r
  dsimp only at e
  generalize hr' : entL m0 as = r' at e
  obtain ⟨ys, h0', m0'⟩ := r'
  simp only [Prod.mk.injEq] at e; obtain ⟨rfl, rfl, rfl⟩ := e
  obtain ⟨v, us, rfl, hv1, hv2⟩ := hv
  obtain ⟨cs, hcs, hvv⟩ : ∃ cs, CellsR w a cs ∧ ∀ (x : A) (σ : Nat → Value), isAg x = isAg a → cs = enc σ x → v = val σ x := by
   unfold ArgV at hv1
   cases ha : isAg a with
   | true =>
    rw [ha] at hv1
    obtain ⟨cs, rfl, hc⟩ := hv1
    exact ⟨cs, hc, fun x σ h1 h2 => by unfold val; rw [h1, h2]⟩
   | false =>
    rw [ha] at hv1
    exact ⟨[v], hv1, fun x σ h1 h2 => by unfold val; rw [h1, ← h2]; rfl⟩
  obtain ⟨h1, h2, σ1, h3, h4, h5, h6⟩ := entA_ok a n H σ cs he hcs y h0 m0 hr
  obtain ⟨q1, σ2, q3, q4, q5, q6⟩ := entV_ok as us m0 (appH H h0) σ1 h3 hv2 ys h0' m0' hr'
  rw [appH_append]
  have hin : ∀ b, ((appH H h0) b).isSome = true → b < m0 := fun b hb => by
   by_cases hlt : b < m0
   ·exact hlt
   ·rw [h3.none b (by omega)] at hb; cases hb
  have hsh : Shape (appH H h0) (appH (appH H h0) h0') := fun b hb => by
   rw [(q4 b (hin b hb)).1]
   exact ⟨hb, fun blk' q => ⟨blk', q, fun _ _ hd => hd⟩⟩
  refine ⟨by omega, σ2, q3, fun b hb => ?_, ?_, WfA_mono hsh y h6, q6⟩
  ·obtain ⟨r1, r2⟩ := q4 b (by omega)
   obtain ⟨r3, r4⟩ := h4 b hb
   exact ⟨r1.trans r3, r2.trans r4⟩
  ·show v :: us = val σ2 y :: ys.map (val σ2)
   rw [← q5, hvv y σ1 h2 h5, val_congr (fun b hb => (q4 b (hin b hb)).2) h6]
theorem lk_appH : ∀ (h : List (Nat × Option Blk)) (b : Nat), appH (fun _ => none) h b = lk h b
 | [], b => rfl
 | (j, x) :: h, b => by
  show setF (appH (fun _ => none) h) j _ b = _
  simp only [lk]
  by_cases e : b = j
  ·subst e; rw [setF_same]; simp
  ·rw [setF_other _ _ e, beqF e, cond_false]; exact lk_appH h b
def swOf (P : Program) (w : World) (N : Nat) (hJ : JJ P w) (wk : Bool) : SW := ⟨P, w, fun g => w.heap.size ≤ g, cond wk 0 w.heap.size, N, by cases wk; exact Nat.le_refl _; exact Nat.zero_le _, fun _ h => h, [], hJ, fun g h ht => absurd (JJ_lt hJ ht) (by omega), fun g h => by cases wk; exact h; exact Nat.zero_le _⟩
theorem enter_ok {P : Program} {w : World} {N : Nat} {hJ : JJ P w} {wk : Bool} {rs : List A} {vs : List Value} (ha : ArgsV w rs vs) (hN : vs.length ≤ N) :
  ∃ σ, St (swOf P w N hJ wk) (enter rs) σ { tmps := vs.toArray ++ Array.replicate (N - vs.toArray.size) undef, defers := [] } w := by
 have e0 : EntOK (swOf P w N hJ wk) w 0 (fun _ => none) (fun _ => .bool false) := ⟨fun _ _ => rfl, fun _ => rfl, fun b x hb => by cases hb⟩
 unfold enter
 generalize hr : entL 0 rs = r
 obtain ⟨xs, h, m⟩ := r
 obtain ⟨_, σ, h1, _, h2, h3⟩ := entV_ok rs vs 0 _ _ e0 ha xs h m hr
 have hH : HFof ⟨numS 0 xs, h, m⟩ = appH (fun _ => none) h := by funext b; exact (lk_appH h b).symm
 refine ⟨σ, fun b hb => ?_, ⟨rfl, rfl, rfl, Nat.le_refl _, fun _ _ _ => rfl⟩, rfl, ?_, h1.one, fun i => ?_, fun b blk hb => ?_, fun b b' c c' q1 => ?_, fun i v hv => by have hv : ([] : List Value)[i]? = some v := hv; simp at hv⟩
 ·have := h1.none b hb
  rw [lk_appH] at this; exact this
 ·show (vs.toArray ++ Array.replicate (N - vs.toArray.size) undef).size = N
  simp; omega
 ·rw [hH]
  show SlotR _ σ (match lk (numS 0 xs) i with | some x => x | none => .none) _
  rw [lk_numS]
  simp only [Nat.zero_le, if_true, Nat.sub_zero]
  cases hx : xs[i]? with
  | none => trivial
  | some x =>
   refine ⟨?_, WfL_mem h3 x (List.mem_of_getElem? hx)⟩
   have hlt := (List.getElem?_eq_some_iff.1 hx).1
   have hv : vs[i]? = some (val σ x) := by rw [h2, List.getElem?_map, hx]; rfl
   simp only [Array.getD_eq_getD_getElem?]
   rw [Array.getElem?_append_left (by simp [h2]; exact hlt)]
   simp [hv]
 ·rw [hH] at hb ⊢
  obtain ⟨c, q1, q2⟩ := h1.blk b _ hb
  cases q1
  exact q2
 ·rw [hH] at q1
  obtain ⟨c2, q2, _⟩ := h1.blk b _ q1
  cases q2
mutual
def clsd : A → Bool
 | .v (.int ..) | .v (.bool _) | .v (.string _) | .v (.pointer none) | .v .nilFunc => true
 | .rc fs => clsdL fs
 | .fa .. | .fb .. | .fa2 .. => true
 | _ => false
def clsdL : List A → Bool
 | [] => true
 | a :: as => clsd a && clsdL as
end
def outA (s : AS) : A → Option (A × List (Nat × Option Blk))
 | .nil e => some (.lst e [], [])
 | .sl b => match s.blk b with
  | some ⟨true, .arr e l⟩ => some (.lst e l, [(b, none)])
  | _ => none
 | a => cond (clsd a) (some (a, [])) none
def outs (s : AS) : List A → Option (List A)
 | [] => some []
 | x :: xs => match outA s x with
  | some (y, h) => match outs ⟨s.sl, h ++ s.hp, s.n⟩ xs with
   | some ys => some (y :: ys)
   | none => none
  | none => none
def rvals (T : Tab) (s : AS) : List ResultVar → Option (List A)
 | [] => some []
 | .tmp t :: r => match s.slot t, rvals T s r with
  | .a x, some xs => some (x :: xs)
  | _, _ => none
 | .cell a t :: r => match s.slot a with
  | .a (.ptr b p _) => match s.blk b with
   | some ⟨_, c⟩ => match getC c p, rvals T s r with
    | some y, some xs => cond (okA y && fitT T t y) (some (y :: xs)) none
    | _, _ => none
   | none => none
  | _ => none
def resOf : List A → Res
 | [] => .unit
 | [a] => .one a
 | as => .tup as
def K0 (T : Tab) (rs : List ResultVar) : Kont (List A) := fun e s => match e with
 | .x _ => none
 | _ => match rvals T s rs with
  | some xs => outs s xs
  | none => none
mutual
theorem clsd_wf : ∀ a : A, clsd a = true → (∀ H, WfA H a) ∧ ∀ σ, enc σ a = enc (fun _ => undef) a
 | .v (.int ..), _ | .v (.bool _), _ | .v (.string _), _ | .v (.pointer none), _ | .v .nilFunc, _ => ⟨fun _ => rfl, fun _ => rfl⟩
 | .fa .., _ | .fb .., _ | .fa2 .., _ => ⟨fun _ => trivial, fun _ => rfl⟩
 | .rc fs, h => ⟨fun H => (clsdL_wf fs h).1 H, fun σ => by simp only [enc]; exact (clsdL_wf fs h).2 σ⟩
theorem clsdL_wf : ∀ as : List A, clsdL as = true → (∀ H, WfL H as) ∧ ∀ σ, encL σ as = encL (fun _ => undef) as
 | [], _ => ⟨fun _ => trivial, fun _ => rfl⟩
 | a :: as, h => by
  simp only [clsdL, Bool.and_eq_true] at h
  obtain ⟨h1, h2⟩ := clsd_wf a h.1
  obtain ⟨h3, h4⟩ := clsdL_wf as h.2
  exact ⟨fun H => ⟨h1 H, h3 H⟩, fun σ => by simp only [encL, h2 σ, h4 σ]⟩
end
theorem clsd_own {a : A} (h : clsd a = true) (σ : Nat → Value) : ownG (val σ a) = none := by
 cases a with
 | v x => cases x <;> first | rfl | (simp [clsd] at h; done) | (rename_i p; cases p <;> first | rfl | (simp [clsd] at h))
 | rc _ => rfl
 | fa _ _ _ => rfl
 | fb _ _ => rfl
 | fa2 _ _ _ _ => rfl
 | _ => simp [clsd] at h
def OutR (s : AS) (x a : A) : Option Nat → Prop
 | none => (∃ e, x = .nil e ∧ a = .lst e []) ∨ (clsd x = true ∧ a = x)
 | some b => ∃ e l, x = .sl b ∧ lk s.hp b = some (some ⟨true, .arr e l⟩) ∧ a = .lst e l
theorem outA_ok {s : AS} {x a : A} {h : List (Nat × Option Blk)} (e : outA s x = some (a, h)) : ∃ β, OutR s x a β ∧ h = (match β with | some b => [(b, none)] | none => []) := by
 unfold outA at e
 split at e
 ·cases e; exact ⟨none, .inl ⟨_, rfl, rfl⟩, rfl⟩
 ·rename_i b
  split at e
  ·rename_i el l hb
   cases e
   refine ⟨some b, ⟨el, l, rfl, ?_, rfl⟩, rfl⟩
   unfold AS.blk at hb
   split at hb
   ·rename_i y hy; rw [hy, hb]
   ·cases hb
  ·cases e
 ·cases hc : clsd x with
  | false => rw [hc] at e; cases e
  | true => rw [hc] at e; cases e; exact ⟨none, .inr ⟨hc, rfl⟩, rfl⟩
theorem outs_ok : ∀ (xs : List A) (s : AS) (ys : List A), outs s xs = some ys → ∃ β : Nat → Option Nat, ys.length = xs.length ∧
  (∀ (i : Nat) (a x : A), ys[i]? = some a → xs[i]? = some x → OutR s x a (β i)) ∧ (∀ i, xs.length ≤ i → β i = none) ∧ ∀ i j b, i ≠ j → β i = some b → β j ≠ some b
 | [], s, ys, h => by
  obtain rfl := Option.some.inj h
  exact ⟨fun _ => none, rfl, fun i a t h => by simp at h, fun _ _ => rfl, fun i j b _ h => by cases h⟩
 | x :: xs, s, ys, h => by
  simp only [outs] at h
  split at h
  ·rename_i y hh hy
   split at h
   ·rename_i ys' hys
    obtain rfl := Option.some.inj h
    obtain ⟨β0, h1, h2⟩ := outA_ok hy
    obtain ⟨β, q1, q2, q3, q4⟩ := outs_ok xs _ ys' hys
    have up : ∀ i a x', ys'[i]? = some a → xs[i]? = some x' → ∀ b, β i = some b → β0 ≠ some b ∧ ∃ e l, lk s.hp b = some (some ⟨true, .arr e l⟩) ∧ x' = .sl b ∧ a = .lst e l := by
     intro i a x' hi ht b hb
     have r2 := q2 i a x' hi ht
     rw [hb] at r2
     obtain ⟨e, l, rfl, r3, rfl⟩ := r2
     dsimp only at r3
     subst h2
     cases β0 with
     | none => exact ⟨(fun e => by cases e), e, l, r3, rfl, rfl⟩
     | some b0 =>
      simp only [List.cons_append, List.nil_append, lk] at r3
      cases hbb : Nat.beq b b0 with
      | true => rw [hbb] at r3; cases r3
      | false =>
       rw [hbb] at r3
       refine ⟨fun e => ?_, e, l, r3, rfl, rfl⟩
       cases e; simp at hbb
    refine ⟨fun i => match i with | 0 => β0 | i + 1 => β i, by simp [q1], fun i a x' hi ht => ?_, fun i hi => ?_, fun i j b hij hi hj => ?_⟩
    ·cases i with
     | zero =>
      simp only [List.getElem?_cons_zero, Option.some.injEq] at hi ht
      subst hi; subst ht
      exact h1
     | succ i =>
      simp only [List.getElem?_cons_succ] at hi ht
      have r2 := q2 i a x' hi ht
      show OutR s x' a (β i)
      cases hb : β i with
      | none => rw [hb] at r2; exact r2
      | some b =>
       obtain ⟨_, e, l, r3, rfl, r5⟩ := up i a x' hi ht b hb
       exact ⟨e, l, rfl, r3, r5⟩
    ·cases i with
     | zero => simp at hi
     | succ i => exact q3 i (by simp at hi; omega)
    ·have key : ∀ i, β0 = some b → β i ≠ some b := fun i h0 hi' => by
      have hlt : i < xs.length := by
       by_cases hlt : i < xs.length
       ·exact hlt
       ·rw [q3 i (by omega)] at hi'; cases hi'
      exact (up i _ _ (List.getElem?_eq_getElem (by rw [q1]; exact hlt)) (List.getElem?_eq_getElem hlt) b hi').1 h0
     cases i with
     | zero => cases j with
      | zero => exact hij rfl
      | succ j => exact key j hi hj
     | succ i => cases j with
      | zero => exact key i hj hi
      | succ j => exact q4 i j b (fun e => hij (by rw [e])) hi hj
   ·cases h
  ·cases h
def flatR : A → Bool
 | .lst e _ => e.flat
 | _ => true
def flatRes : Res → Bool
 | .one a => flatR a
 | .tup xs => xs.all flatR
 | .unit => true
theorem outs_res {P : Program} {w : World} {N : Nat} {hJ : JJ P w} {wk : Bool} {s : AS} {xs ys : List A} (h : outs s xs = some ys) (hfl : wk = true → ys.all flatR = true) {σ : Nat → Value} {a : Act} {w' : World} (hs : St (swOf P w N hJ wk) s σ a w') :
  ResVs w w' ys (xs.map (val σ)) ∧ Below w.heap.size w w' := by
 obtain ⟨_, hsim⟩ := hs
 obtain ⟨β, h1, h2, h3, h4⟩ := outs_ok xs s ys h
 have hb := hsim.bel
 refine ⟨⟨by simp [h1], ?_, ?_⟩, ⟨hb.os, hb.tape, hb.output, hb.size, fun k hk => hb.block k hk (by show ¬ w.heap.size ≤ k; omega)⟩⟩
 ·intro i a' v hi hv
  rw [List.getElem?_map] at hv
  cases ht : xs[i]? with
  | none => rw [ht] at hv; cases hv
  | some x =>
   rw [ht] at hv
   obtain rfl := Option.some.inj hv
   have r2 := h2 i a' x hi ht
   cases hβ : β i with
   | none =>
    rw [hβ] at r2
    rcases r2 with ⟨e, rfl, rfl⟩ | ⟨hc, rfl⟩
    ·exact ⟨[], rfl, .inl ⟨rfl, none, rfl⟩⟩
    ·obtain ⟨q1, q2⟩ := clsd_wf a' hc
     have : val σ a' = val (fun _ => undef) a' := by unfold val; rw [q2 σ]
     rw [this]
     cases a' <;> first | exact ⟨q1, rfl⟩ | (simp [clsd] at hc; done)
   | some b =>
    rw [hβ] at r2
    obtain ⟨e, l, rfl, q1, rfl⟩ := r2
    obtain ⟨us, q2, q3⟩ := hsim.blk b _ q1
    have hrow : RowsC (Innr w' (Ow (xs.map (val σ))) w.heap.size) e l us := by
     cases wk with
     | true =>
      have := List.all_eq_true.1 (hfl rfl) _ (List.mem_of_getElem? hi)
      exact RowsC_flat this q2
     | false =>
     refine q2.imp fun k l v hv => ?_
     refine hv.keep (Nat.le_refl _) fun g hg hO => ⟨rfl, ?_⟩
     rintro ⟨u, hu, hug⟩
     obtain ⟨j, hj⟩ := List.getElem?_of_mem hu
     rw [List.getElem?_map] at hj
     cases hxj : xs[j]? with
     | none => rw [hxj] at hj; cases hj
     | some xj =>
      rw [hxj] at hj
      obtain rfl := Option.some.inj hj
      have hlt : j < ys.length := by rw [h1]; exact (List.getElem?_eq_some_iff.1 hxj).1
      have p2 := h2 j _ xj (List.getElem?_eq_getElem hlt) hxj
      cases hβj : β j with
      | none =>
       rw [hβj] at p2
       rcases p2 with ⟨e', rfl, _⟩ | ⟨hc, _⟩
       ·simp [val, enc, isAg, ownG] at hug
       ·rw [clsd_own hc] at hug; cases hug
      | some bj =>
       rw [hβj] at p2
       obtain ⟨e', l', rfl, p3, _⟩ := p2
       exact hO ⟨bj, _, p3, hug⟩
    refine ⟨us, hrow, ?_⟩
    ·rcases q3 with q3 | ⟨g, cap, cur, ty, q3, q4, q5⟩
     ·exact .inl q3
     ·exact .inr ⟨g, cap, cur, ty, q3, q4, q5⟩
 ·intro i j u v hij hu hv k hk hk'
  rw [List.getElem?_map] at hu hv
  cases hti : xs[i]? with
  | none => rw [hti] at hu; cases hu
  | some xi =>
   cases htj : xs[j]? with
   | none => rw [htj] at hv; cases hv
   | some xj =>
    rw [hti] at hu; rw [htj] at hv
    obtain rfl := Option.some.inj hu
    obtain rfl := Option.some.inj hv
    have own : ∀ i x, xs[i]? = some x → ownG (val σ x) = some k → ∃ b e l, β i = some b ∧ lk s.hp b = some (some ⟨true, .arr e l⟩) ∧ ownG (σ b) = some k := by
     intro i x ht hk
     have hlt : i < ys.length := by rw [h1]; exact (List.getElem?_eq_some_iff.1 ht).1
     have p2 := h2 i _ x (List.getElem?_eq_getElem hlt) ht
     cases hβ : β i with
     | none =>
      rw [hβ] at p2
      rcases p2 with ⟨e', rfl, _⟩ | ⟨hc, _⟩
      ·simp [val, enc, isAg, ownG] at hk
      ·rw [clsd_own hc] at hk; cases hk
     | some b =>
      rw [hβ] at p2
      obtain ⟨e', l', rfl, p3, _⟩ := p2
      exact ⟨b, e', l', rfl, p3, hk⟩
    obtain ⟨b, e, l, q1, q2, q3⟩ := own i xi hti hk
    obtain ⟨b', e', l', q1', q2', q3'⟩ := own j xj htj hk'
    have hne : b ≠ b' := fun e => h4 i j b hij q1 (by rw [q1', e])
    exact hsim.sep b b' _ _ q2 q2' hne k q3 q3'
theorem ArgsV_len {w : World} : ∀ (rs : List A) (vs : List Value), ArgsV w rs vs → vs.length = rs.length
 | [], vs, h => by simp only [ArgsV] at h; subst h; rfl
 | a :: as, vs, h => by obtain ⟨v, us, rfl, _, hu⟩ := h; simp [ArgsV_len as us hu]
def resVar (tmps : Array Value) : ResultVar → Sem Value
 | .tmp t => pure (tmps.getD t undef)
 | .cell a t => do loadVar t (← asAddr (tmps.getD a undef))
theorem results_list {W : SW} {T : Tab} (hT : TabOK W.P T) {s : AS} {σ : Nat → Value} {a : Act} {w : World} (hs : St W s σ a w) : ∀ (rs : List ResultVar) (xs : List A), rvals T s rs = some xs →
  Sem.run W.P (rs.mapM (resVar a.tmps)) w = .ok (xs.map (val σ)) w ∧ WfL (HFof s) xs
 | [], xs, h => by
  obtain rfl := Option.some.inj h
  exact ⟨rfl, trivial⟩
 | .tmp t :: rs, xs, h => by
  simp only [rvals] at h
  split at h
  ·rename_i x xs' hx hxs
   obtain rfl := Option.some.inj h
   obtain ⟨ih, ih2⟩ := results_list hT hs rs xs' hxs
   have hsl := hs.2.slot t
   rw [show SFof s t = .a x from hx] at hsl
   refine ⟨?_, hsl.2, ih2⟩
   simp only [List.mapM_cons, resVar, Sem.run_bind, Sem.run_pure, Result.andThen_ok, ih, List.map_cons, hsl.1]
  ·cases h
 | .cell c t :: rs, xs, h => by
  simp only [rvals] at h
  split at h
  ·rename_i b p off hx
   split at h
   ·rename_i own con hb
    split at h
    ·rename_i y xs' hg hxs
     obtain ⟨hfit, h⟩ := cond_some h
     obtain rfl := Option.some.inj h
     simp only [Bool.and_eq_true] at hfit
     obtain ⟨ih, ih2⟩ := results_list hT hs rs xs' hxs
     have hsim := hs.2
     have hsub := sub_of s
     have hsl := hsim.slot c
     rw [show SFof s c = .a (.ptr b p off) from hx] at hsl
     obtain ⟨h1, h2⟩ := hsl
     have hoff := h2.2 _ (hsub.blk hb)
     obtain ⟨g, o', cs, h3, h4, h5⟩ := ptr_place hsim (hsub.blk hb) hoff
     rcases getC_cells hg hoff h4 with ⟨k, l', w', u, v, he, hI, rfl, hu⟩ | ⟨_, u, v, he, hu, _⟩
     ·rw [he] at hfit; cases hfit.1
     ·obtain ⟨ti, ht, hsz, hag⟩ := fitT_spec hfit.2
      have hlie : Lies w g (o' + off) (enc σ y) := by
       intro j v' hv'
       have := h5 (off + j) v' (by
        rw [he, List.append_assoc, List.getElem?_append_right (by omega), hu, Nat.add_sub_cancel_left, List.getElem?_append_left (List.getElem?_eq_some_iff.1 hv').1]
        exact hv')
       rw [Nat.add_assoc]
       exact this
      have hrun := run_loadVar' hT ht (by rw [enc_len, hsz]) hlie
      rw [← hag] at hrun
      rcases hrun with hrun | ⟨hz1, hz2⟩
      ·refine ⟨?_, okA_wf ?_ hg hfit.1, ih2⟩
       ·have hv : (loadVar t ⟨g, o' + off, none⟩).run W.P w = .ok (val σ y) w := hrun
        simp only [List.mapM_cons, resVar, Sem.run_bind, Sem.run_pure, Result.andThen_ok, ih, List.map_cons, h1, val_ptr, h3, asAddr, hv]
       ·have := hsim.blk b _ (hsub.blk hb)
        cases own <;> cases con <;> first | trivial | exact this.1
      ·exfalso
       apply hz2
       rw [← hsz]
       cases y <;> first | rfl | (simp [isAg] at hz1)
    ·cases h
   ·cases h
  ·cases h
theorem results_run {W : SW} {T : Tab} (hT : TabOK W.P T) {s : AS} {σ : Nat → Value} {a : Act} {w : World} (hs : St W s σ a w) {fn : Func} {xs : List A} (h : rvals T s fn.results.toList = some xs) :
  (results fn a.tmps).run W.P w = .ok (match xs.map (val σ) with | [v] => v | vs => .tuple vs.toArray) w := by
 obtain ⟨h1, _⟩ := results_list hT hs fn.results.toList xs h
 have h2 : fn.results.mapM (resVar a.tmps) = List.toArray <$> fn.results.toList.mapM (resVar a.tmps) := Array.mapM_eq_mapM_toList
 have h3 : results fn a.tmps = (fn.results.mapM (resVar a.tmps) >>= fun vs => pure (if h : vs.size = 1 then vs[0] else .tuple vs)) := by
  unfold results
  congr 1
 rw [h3, h2]
 simp only [map_eq_pure_bind, Sem.run_bind, Sem.run_pure, Result.andThen_ok, h1]
 generalize (xs.map (val σ)) = us
 match us with
 | [] => rfl
 | [u] => rfl
 | u :: u' :: us => rw [dif_neg (by simp)]
theorem flat_resOf : ∀ {ys : List A}, flatRes (resOf ys) = true → ys.all flatR = true
 | [], _ => rfl
 | [y], h => by rw [List.all_cons, show flatR y = true from h]; rfl
 | _ :: _ :: _, h => h
theorem sound_of {P : Program} {X : Ctx} (hX : CtxOK P X) {f : Nat} {fn : Func} {c : Code} (LV : List (Nat × Keep)) {Φ : List A → ACall} (np : Nat)
  (hf : P.funcs[f]? = some fn) (hb : fn.body = some c) {rv : List ResultVar} (hrv : fn.results.toList = rv) (hd : slotsOk fn.ntmps c = true) (hn : (loopIds c).Nodup) (hnp : np ≤ fn.ntmps)
  (hlen : ∀ rs r, (Φ rs).c = some r → rs.length = np)
  (h : ∀ rs r, (Φ rs).c = some r → ∃ ys, resOf ys = (Φ rs).res r ∧ ev X (lpc (cnOf LV) (L X (cnOf LV) c (K0 X.T rv) ys)) c (K0 X.T rv) (enter rs) = some ys)
  (hfl : X.weak = true → ∀ rs r, (Φ rs).c = some r → flatRes ((Φ rs).res r) = true) : Sound P f Φ := by
 intro rs r hc w vs hJ ha
 obtain ⟨ys, h1, h2⟩ := h rs r hc
 have hvl := ArgsV_len rs vs ha
 obtain ⟨σ, hst⟩ := enter_ok (P := P) (N := fn.ntmps) ha (by rw [hvl, hlen rs r hc]; exact hnp)
 refine calls_of_wp hf hb ?_
 refine top_ok (W := swOf P w fn.ntmps hJ X.weak) (r := ys) ⟨hX, fun h => by show cond X.weak 0 _ = 0; rw [h]; rfl⟩ (cn_ok rfl LV) hd hn (Q0 := bodyPost P fn _) ?_ h2 hst
 intro e s σ' a w' hk hs
 have key : (match rvals X.T s rv with | some xs => outs s xs | none => none) = some ys → a.defers = [] ∧ ∃ v, (results fn a.tmps).run P w' = .ok v w' ∧ ∃ v', Ending.returned v = .returned v' ∧ ResR w w' ((Φ rs).res r) v' ∧ Below w.heap.size w w' := by
  intro ho
  cases hrx : rvals X.T s rv with
  | none => rw [hrx] at ho; cases ho
  | some xs =>
   rw [hrx] at ho
   dsimp only at ho
   obtain ⟨q1, q2⟩ := outs_res ho (fun h => by have := hfl h rs r hc; rw [← h1] at this; exact flat_resOf this) hs
   refine ⟨hs.2.defers, _, results_run (W := swOf P w fn.ntmps hJ X.weak) hX.tab hs (by rw [hrv]; exact hrx), _, rfl, ?_, q2⟩
   rw [← h1]
   have hl := q1.1
   revert q1 hl
   generalize (xs.map (val σ')) = us
   intro q1 hl
   match ys, us, hl with
   | [], [], _ => rfl
   | [y], [u], _ => exact q1
   | y :: y' :: ys, u :: u' :: us, _ => exact ⟨_, rfl, q1⟩
 cases e with
 | n => exact key hk
 | r => exact key hk
 | x i => cases hk
def swU (P : Program) (w : World) (N : Nat) (v : Value) (hJ : JJ P w) (hv : ∀ k, ownG v = some k → ¬ TabBlk P k) : SW := ⟨P, w, fun g => w.heap.size ≤ g ∨ ownG v = some g, 0, N, Nat.zero_le _, fun _ h => .inl h, [v], hJ, fun g h ht => h.elim (fun h => absurd (JJ_lt hJ ht) (by omega)) fun h => hv g h ht, fun _ _ => Nat.zero_le _⟩
def enterU (e : ET) (l : List e.den) (rest : List A) : AS := ⟨numS 0 (.sl 0 :: rest), [(0, some ⟨true, .arr e l⟩)], 1⟩
theorem vals_of_argsV {σ : Nat → Value} {H : HF} {w : World} : ∀ {rest : List A} {vs : List Value}, rest.all isV = true → ArgsV w rest vs → vs = rest.map (val σ) ∧ WfL H rest
 | [], vs, _, h => ⟨h, trivial⟩
 | a :: rest, vs, hr, h => by
  simp only [List.all_cons, Bool.and_eq_true] at hr
  obtain ⟨v, us, rfl, h1, h2⟩ := h
  obtain ⟨h3, h4⟩ := vals_of_argsV (σ := σ) (H := H) hr.2 h2
  cases a <;> first | (simp [isV] at hr; done) | skip
  rename_i x
  obtain ⟨h5, h6⟩ := h1
  have h5 : v = x := by simpa using h5
  exact ⟨by rw [List.map_cons, h3, h5]; rfl, h6, h4⟩
theorem enterU_ok {P : Program} {w : World} {N : Nat} {e : ET} {l : List e.den} {rest : List A} {v : Value} {hJ : JJ P w} {hv : ∀ k, ownG v = some k → ¬ TabBlk P k} {xs vs : List Value} (hf : e.flat = true) (hr : rest.all isV = true) (ho : OwnV w v e.sz l.length xs) (hx : RowsC noInn e l xs) (ha : ArgsV w rest vs) (hN : vs.length + 1 ≤ N) :
  ∃ σ, St (swU P w N v hJ hv) (enterU e l rest) σ { tmps := (v :: vs).toArray ++ Array.replicate (N - (v :: vs).toArray.size) undef, defers := [] } w := by
 have hone : v.oneCell' = true := by rcases ho with ⟨_, ao, rfl⟩ | ⟨g, cap, cur, ty, rfl, _⟩ <;> rfl
 have h0 : ∀ b, b ≠ 0 → HFof (enterU e l rest) b = none := fun b hb => by
  show lk [(0, some (⟨true, .arr e l⟩ : Blk))] b = none
  simp only [lk]
  rw [beqF hb]; rfl
 have h1 : HFof (enterU e l rest) 0 = some (some ⟨true, .arr e l⟩) := rfl
 obtain ⟨hvs, hwf⟩ := vals_of_argsV (σ := fun _ => v) (H := HFof (enterU e l rest)) hr ha
 refine ⟨fun _ => v, fun b hb => h0 b (by have hb : 1 ≤ b := hb; omega), ⟨rfl, rfl, rfl, Nat.le_refl _, fun _ _ _ => rfl⟩, rfl, ?_, fun _ => hone, fun i => ?_, fun b blk hb => ?_, fun b b' c c' q1 q2 hn => ?_, fun i v' hv' => ?_⟩
 ·show ((v :: vs).toArray ++ Array.replicate (N - (v :: vs).toArray.size) undef).size = N
  simp; omega
 ·show SlotR _ (fun _ => v) (match lk (numS 0 (.sl 0 :: rest)) i with | some x => x | none => .none) _
  rw [lk_numS]
  simp only [Nat.zero_le, if_true, Nat.sub_zero]
  cases hxi : (A.sl 0 :: rest)[i]? with
  | none => trivial
  | some x =>
   have hlt := (List.getElem?_eq_some_iff.1 hxi).1
   have hall : v :: vs = (A.sl 0 :: rest).map (val fun _ => v) := by rw [List.map_cons, hvs]; rfl
   have hv : (v :: vs)[i]? = some (val (fun _ => v) x) := by rw [hall, List.getElem?_map, hxi]; rfl
   refine ⟨?_, ?_⟩
   ·have hlt2 : i < (v :: vs).length := (List.getElem?_eq_some_iff.1 hv).1
    simp only [Array.getD_eq_getD_getElem?]
    rw [Array.getElem?_append_left (by simpa using hlt2), List.getElem?_toArray, hv]
    rfl
   ·cases i with
    | zero =>
     simp only [List.getElem?_cons_zero, Option.some.injEq] at hxi
     subst hxi
     show (HFof (enterU e l rest) 0).isSome = true
     rw [h1]; rfl
    | succ i =>
     simp only [List.getElem?_cons_succ] at hxi
     exact WfL_mem hwf x (List.mem_of_getElem? hxi)
 ·by_cases hb0 : b = 0
  ·subst hb0
   rw [h1] at hb
   cases hb
   refine ⟨xs, RowsC_flat hf hx, ?_⟩
   rcases ho with q | ⟨g, cap, cur, ty, q1, q2, q3⟩
   ·exact .inl q
   ·exact .inr ⟨g, cap, cur, ty, q1, .inr (by rw [q1]; simp only [ownG]; rw [if_neg (by omega)]), q2, q3⟩
  ·rw [h0 b hb0] at hb; cases hb
 ·by_cases hb0 : b = 0
  ·by_cases hb1 : b' = 0
   ·omega
   ·rw [h0 b' hb1] at q2; cases q2
  ·rw [h0 b hb0] at q1; cases q1
 ·have hv' : [v][i]? = some v' := hv'
  cases i with
  | zero => simp only [List.getElem?_cons_zero, Option.some.injEq] at hv'; exact ⟨rfl, hv'⟩
  | succ i => simp at hv'
def K0U (T : Tab) (rs : List ResultVar) : Kont (List A) := fun e s => match e with
 | .x _ => none
 | _ => match rvals T s rs with
  | some [x] => match s.blk 0 with
   | some ⟨true, .arr el l⟩ => cond (clsd x) (some [x, .lst el l]) none
   | _ => none
  | some [] => match s.blk 0 with
   | some ⟨true, .arr el l⟩ => some [.lst el l]
   | _ => none
  | _ => none
theorem sound_ofU {P : Program} {X : Ctx} (hX : CtxOK P X) {f : Nat} {fn : Func} {c : Code} (LV : List (Nat × Keep)) {u : UCon} (np : Nat)
  (hf : P.funcs[f]? = some fn) (hb : fn.body = some c) {rv : List ResultVar} (hrv : fn.results.toList = rv) (hd : slotsOk fn.ntmps c = true) (hn : (loopIds c).Nodup) (hnp : np ≤ fn.ntmps)
  (h : ∀ e l rest r, (u e l rest).c = some r → rest.length + 1 = np ∧ ev X (lpc (cnOfU LV) (L X (cnOfU LV) c (K0U X.T rv) (ansU ((u e l rest).res r) (.lst e ((u e l rest).new r))))) c (K0U X.T rv) (enterU e l rest) = some (ansU ((u e l rest).res r) (.lst e ((u e l rest).new r)))) : USound P f u := by
 intro e l rest r hfl hrest hc w v xs vs hJ hv hown hrows ha
 obtain ⟨hlen, h2⟩ := h e l rest r hc
 have hvl : vs.length = rest.length := by
  have := (vals_of_argsV (σ := fun _ => v) (H := fun _ => none) hrest ha).1
  rw [this]; simp
 obtain ⟨σ, hst⟩ := enterU_ok (P := P) (N := fn.ntmps) hfl hrest hown hrows ha (by rw [hvl, hlen]; exact hnp)
 refine calls_of_wp hf hb ?_
 refine top_ok (W := swU P w fn.ntmps v hJ hv) ⟨hX, fun _ => rfl⟩ (cnU_ok (fun i v' h => by have h : [v][i]? = some v' := h; cases i with | zero => rfl | succ i => simp at h) LV) hd hn (Q0 := bodyPost P fn _) ?_ h2 hst
 intro en s σ' a w' hk hs
 have fin : ∀ (el : ET) (l' : List el.den), s.blk 0 = some ⟨true, .arr el l'⟩ → ∀ h : el = e, ((h ▸ l' : List e.den) = (u e l rest).new r) → ∃ xs', RowsC noInn e ((u e l rest).new r) xs' ∧ OwnV w' v e.sz ((u e l rest).new r).length xs' ∧ But v w w' := by
  intro el l' hb0 he hl
  subst he
  subst hl
  obtain ⟨xs', r1, r2⟩ := hs.2.blk 0 _ ((sub_of s).blk hb0)
  have hg := (hs.2.gh 0 v rfl).2
  rw [hg] at r2
  refine ⟨xs', RowsC_flat hfl r1, ?_, hs.2.bel.os, hs.2.bel.tape, hs.2.bel.output, hs.2.bel.size, fun k hk0 hk1 => hs.2.bel.block k hk0 fun hm => ?_⟩
  ·rcases r2 with q | ⟨g, cap, cur, ty, q1, q2, q3⟩
   ·exact .inl q
   ·exact .inr ⟨g, cap, cur, ty, q1, q3⟩
  ·rcases hm with hm | hm
   ·have hm : w.heap.size ≤ k := hm
    omega
   ·exact hk1 hm
 have key : (match rvals X.T s rv with | some [x] => (match s.blk 0 with | some ⟨true, .arr el l⟩ => cond (clsd x) (some [x, .lst el l]) none | _ => none) | some [] => (match s.blk 0 with | some ⟨true, .arr el l⟩ => some [.lst el l] | _ => none) | _ => none) = some (ansU ((u e l rest).res r) (.lst e ((u e l rest).new r))) →
   a.defers = [] ∧ ∃ z, (results fn a.tmps).run P w' = .ok z w' ∧ ∃ z', Ending.returned z = .returned z' ∧ ResU ((u e l rest).res r) z' ∧ ∃ xs', RowsC noInn e ((u e l rest).new r) xs' ∧ OwnV w' v e.sz ((u e l rest).new r).length xs' ∧ But v w w' := by
  intro ho
  split at ho
  ·rename_i x hrx
   split at ho
   ·rename_i el l' hb0
    obtain ⟨hcl, ho⟩ := cond_some ho
    have hrr := results_run (W := swU P w fn.ntmps v hJ hv) hX.tab hs (by rw [hrv]; exact hrx)
    obtain ⟨hwf, _⟩ := clsd_wf x hcl
    cases hres : (u e l rest).res r with
    | none =>
     rw [hres] at ho
     simp [ansU] at ho
    | some y =>
     rw [hres] at ho
     simp only [ansU, Option.some.injEq, List.cons.injEq, A.lst.injEq, and_true] at ho
     obtain ⟨hx, he, hl⟩ := ho
     subst he
     have hl := eq_of_heq hl
     exact ⟨hs.2.defers, _, hrr, _, rfl, ⟨by rw [← hx]; exact hwf, by rw [← hx]; exact (zero_val' hwf σ').symm⟩, fin _ l' hb0 rfl hl⟩
   ·cases ho
  ·rename_i hrx
   split at ho
   ·rename_i el l' hb0
    have hrr := results_run (W := swU P w fn.ntmps v hJ hv) hX.tab hs (by rw [hrv]; exact hrx)
    cases hres : (u e l rest).res r with
    | some y =>
     rw [hres] at ho
     simp [ansU] at ho
    | none =>
     rw [hres] at ho
     simp only [ansU, Option.some.injEq, List.cons.injEq, A.lst.injEq, and_true] at ho
     obtain ⟨he, hl⟩ := ho
     subst he
     have hl := eq_of_heq hl
     exact ⟨hs.2.defers, _, hrr, _, rfl, rfl, fin _ l' hb0 rfl hl⟩
   ·cases ho
  ·cases ho
 cases en with
 | n => exact key hk
 | r => exact key hk
 | x i => cases hk
end Go.RR
