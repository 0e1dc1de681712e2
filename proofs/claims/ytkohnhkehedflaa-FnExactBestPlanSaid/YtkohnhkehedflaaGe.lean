/- The program's search for a plan answers as the plain recursion does. -/
import Derived.Test.YtkohnhkehedflaaGd
set_option linter.unusedVariables false
set_option linter.unusedSimpArgs false
namespace Go.RR
open Go

theorem iter_in {σ ρ : Type} {step : σ → Option (σ ⊕ ρ)} {x y : σ} {m : Nat} (h : step x = some (.inl y)) : iter step (m + 1) x = iter step m y := by
  rw [iter, h]
theorem iter_out {σ ρ : Type} {step : σ → Option (σ ⊕ ρ)} {x : σ} {r : ρ} {m : Nat} (h : step x = some (.inr r)) : iter step (m + 1) x = some r := by
  rw [iter, h]
theorem clone_ok {p : List Slot} (h : p.length ≤ 1000) : s_gCloneS p = some p := by
  unfold s_gCloneS s_gClone_Slot
  cases p with
  | nil => rfl
  | cons x p =>
    have h1 : Nat.blt 0 (x :: p).length = true := rfl
    rw [h1, fits_small (by simp at h ⊢; omega)]
    rfl
def outG (x : PS ⊕ (PS × Nat)) : PS × Nat := match x with
  | .inl st => (st, 0)
  | .inr r => r
section
variable {l : List Job} {Bd Bg : Int} (hj : JobsOK l) (hn : l.length ≤ 12) (hB : Bg ≤ 20000)
section
variable {k : Nat} {D : D_ifinder_look} (hD : LookOK l Bd Bg k D)
variable {tk : Int} {plan : List Slot} {free : List Int} {day : Int} (hI : OKin l tk plan free) (hc : cntR tk 0 l.length ≤ k)
include hj hn hB hD hI hc
theorem runA : ∀ (cnt i M : Nat) (st : PS), i + cnt = l.length → cnt < M → OKst l.length Bg st →
    ∃ o, iter (@f_ifinder_look_a_st5 ⟨D⟩) M (emA l Bd Bg tk plan free day i st) = some o ∧ IsAns l.length Bd Bg tk plan free (outG (exitL (goStep l Bg (go l Bd Bg k) tk plan free day) st (List.range' i cnt))) (ansA o)
  | 0, i, M + 1, st, hi, hm, hst => by
    obtain rfl : i = l.length := hi
    cases hb : st.best with
    | none =>
      have hem : emA l Bd Bg tk plan free day l.length st = .inl (day, ((l.length : Nat) : Int), ((l.length : Nat) : Int), tk, st.len, Bd, st.tr, Bg, false, l, plan, free) := by unfold emA; rw [hb]
      rw [hem]
      have hs : @f_ifinder_look_a_st5 ⟨D⟩ (.inl (day, ((l.length : Nat) : Int), ((l.length : Nat) : Int), tk, st.len, Bd, st.tr, Bg, false, l, plan, free)) = some (.inr (mkX (false, tk, st.len, Bd, st.tr, Bg, false, plan, free))) := by
        show @f_ifinder_look_a_n5 ⟨D⟩ day ((l.length : Nat) : Int) ((l.length : Nat) : Int) tk st.len Bd st.tr Bg false l plan free = _
        unfold f_ifinder_look_a_n5
        rw [lt_neg, cond_false]
      exact Exists.intro _ (And.intro (iter_out hs) (IsAns.mk rfl rfl rfl rfl rfl rfl hb.symm (fun _ => ⟨rfl, rfl, rfl⟩) (fun _ => hst)))
    | some b =>
      have hem : emA l Bd Bg tk plan free day l.length st = .inr (day, ((l.length : Nat) : Int), ((l.length : Nat) : Int), tk, st.len, Bd, st.tr, Bg, false, l, plan, free, b) := by unfold emA; rw [hb]
      rw [hem]
      have hs : @f_ifinder_look_a_st5 ⟨D⟩ (.inr (day, ((l.length : Nat) : Int), ((l.length : Nat) : Int), tk, st.len, Bd, st.tr, Bg, false, l, plan, free, b)) = some (.inr (mkY (false, tk, st.len, Bd, st.tr, Bg, false, plan, free, b))) := by
        show @f_ifinder_look_a_n5b ⟨D⟩ day ((l.length : Nat) : Int) ((l.length : Nat) : Int) tk st.len Bd st.tr Bg false l plan free b = _
        unfold f_ifinder_look_a_n5b
        rw [lt_neg, cond_false]
      exact Exists.intro _ (And.intro (iter_out hs) (IsAns.mk rfl rfl rfl rfl rfl rfl hb.symm (fun _ => ⟨rfl, rfl, rfl⟩) (fun _ => hst)))
  | cnt + 1, i, M + 1, st, hi, hm, hst => by
    obtain ⟨h1, h2⟩ := stepA hj hn hB hD hI hc (show i < l.length by omega) hst
    rw [List.range'_succ]
    unfold exitL
    cases hg : goStep l Bg (go l Bd Bg k) tk plan free day st i with
    | inl st' =>
      obtain ⟨e1, e2⟩ := h1 st' hg
      rw [iter_in e1]
      exact runA cnt (i + 1) M st' (by omega) (by omega) e2
    | inr r =>
      obtain ⟨o, e1, e2⟩ := h2 r hg
      exact ⟨o, iter_out e1, e2⟩
  | cnt, i, 0, st, hi, hm, hst => by omega
theorem runB : ∀ (cnt i M : Nat) (st : PS) (s : SB ⊕ SC), i + cnt = l.length → cnt < M → OKst l.length Bg st → RepS l Bd Bg tk plan free day i st s →
    ∃ o, iter (@f_ifinder_look_b_st5 ⟨D⟩) M s = some o ∧ IsAns l.length Bd Bg tk plan free (outG (exitL (goStep l Bg (go l Bd Bg k) tk plan free day) st (List.range' i cnt))) (ansB o)
  | 0, i, M + 1, st, s, hi, hm, hst, hs => by
    obtain rfl : i = l.length := hi
    obtain ⟨b, hb, rfl | ⟨old, rfl⟩⟩ := hs
    · have hs : @f_ifinder_look_b_st5 ⟨D⟩ (.inl (day, ((l.length : Nat) : Int), ((l.length : Nat) : Int), tk, st.len, Bd, st.tr, Bg, false, l, plan, free, b)) = some (.inr (mkX (false, tk, st.len, Bd, st.tr, Bg, false, plan, free, b))) := by
        show @f_ifinder_look_b_n5 ⟨D⟩ day ((l.length : Nat) : Int) ((l.length : Nat) : Int) tk st.len Bd st.tr Bg false l plan free b = _
        unfold f_ifinder_look_b_n5
        rw [lt_neg, cond_false]
      exact Exists.intro _ (And.intro (iter_out hs) (IsAns.mk rfl rfl rfl rfl rfl rfl hb.symm (fun _ => ⟨rfl, rfl, rfl⟩) (fun _ => hst)))
    · have hs : @f_ifinder_look_b_st5 ⟨D⟩ (.inr (day, ((l.length : Nat) : Int), ((l.length : Nat) : Int), tk, st.len, Bd, st.tr, Bg, false, l, plan, free, old, b)) = some (.inr (mkY (false, tk, st.len, Bd, st.tr, Bg, false, plan, free, old, b))) := by
        show @f_ifinder_look_b_n5b ⟨D⟩ day ((l.length : Nat) : Int) ((l.length : Nat) : Int) tk st.len Bd st.tr Bg false l plan free old b = _
        unfold f_ifinder_look_b_n5b
        rw [lt_neg, cond_false]
      exact Exists.intro _ (And.intro (iter_out hs) (IsAns.mk rfl rfl rfl rfl rfl rfl hb.symm (fun _ => ⟨rfl, rfl, rfl⟩) (fun _ => hst)))
  | cnt + 1, i, M + 1, st, s, hi, hm, hst, hs => by
    obtain ⟨h1, h2⟩ := stepB hj hn hB hD hI hc (show i < l.length by omega) hst hs
    rw [List.range'_succ]
    unfold exitL
    cases hg : goStep l Bg (go l Bd Bg k) tk plan free day st i with
    | inl st' =>
      obtain ⟨s', e1, e2, e3⟩ := h1 st' hg
      rw [iter_in e1]
      exact runB cnt (i + 1) M st' s' (by omega) (by omega) e3 e2
    | inr r =>
      obtain ⟨o, e1, e2⟩ := h2 r hg
      exact ⟨o, iter_out e1, e2⟩
  | cnt, i, 0, st, s, hi, hm, hst, hs => by omega
end
include hj hn hB
theorem look_ok : ∀ k, LookOK l Bd Bg k (K_ifinder_look k)
  | 0 => ⟨fun _ _ _ _ _ _ _ h => absurd h (Nat.not_lt_zero _), fun _ _ _ _ _ _ _ _ h => absurd h (Nat.not_lt_zero _)⟩
  | k + 1 => by
    have ih := look_ok k
    have hfull : IntKind.wrap .u16 (bShl .u16 1 ((l.length : Nat) : Int) - 1) = fullB l.length := rfl
    have hd0 : decide (((l.length : Nat) : Int) < 0) = false := decide_eq_false (by omega)
    have hgo : ∀ tk plan free day st, go l Bd Bg (k + 1) tk plan free day st = cond (tk == fullB l.length) (⟨st.tr, day, some plan⟩, cond (day == Bd) 1 0) (outG (exitL (goStep l Bg (go l Bd Bg k) tk plan free day) st (List.range' 0 l.length))) := fun _ _ _ _ _ => rfl
    refine ⟨fun tk plan free day st hI hst hc hb => ?_, fun tk plan free day st b hI hst hc hb => ?_⟩
    · show ∃ r, @s_ifinder_look_a ⟨K_ifinder_look k⟩ day tk st.len Bd st.tr Bg false l plan free = some r ∧ _
      unfold s_ifinder_look_a
      rw [hd0, hfull, hgo, clone_ok (by rw [hI.plan]; omega)]
      cases hf : tk == fullB l.length
      · have hr := runA (day := day) hj hn hB ih hI (by omega) l.length 0 FU st (by omega) (FU_big (pow_big (by omega))) hst
        have hem : emA l Bd Bg tk plan free day 0 st = .inl (day, ((l.length : Nat) : Int), 0, tk, st.len, Bd, st.tr, Bg, false, l, plan, free) := by unfold emA; rw [hb]; rfl
        rw [hem] at hr
        exact hr
      · refine ⟨_, rfl, ?_⟩
        cases hd : day == Bd
        · exact IsAns.mk rfl rfl rfl rfl rfl rfl rfl (fun _ => ⟨rfl, rfl, rfl⟩) (fun _ => ⟨hst.tr, fun b e => by cases e; exact hI.plan⟩)
        · exact IsAns.mk rfl rfl rfl rfl rfl rfl rfl (fun _ => ⟨rfl, rfl, rfl⟩) (fun _ => ⟨hst.tr, fun b e => by cases e; exact hI.plan⟩)
    · show ∃ r, @s_ifinder_look_b ⟨K_ifinder_look k⟩ day tk st.len Bd st.tr Bg false l plan free b = some r ∧ _
      unfold s_ifinder_look_b
      rw [hd0, hfull, hgo, clone_ok (by rw [hI.plan]; omega)]
      cases hf : tk == fullB l.length
      · exact runB (day := day) hj hn hB ih hI (by omega) l.length 0 FU st _ (by omega) (FU_big (pow_big (by omega))) hst ⟨b, hb, .inl rfl⟩
      · refine ⟨_, rfl, ?_⟩
        cases hd : day == Bd
        · exact IsAns.mk rfl rfl rfl rfl rfl rfl rfl (fun _ => ⟨rfl, rfl, rfl⟩) (fun _ => ⟨hst.tr, fun b e => by cases e; exact hI.plan⟩)
        · exact IsAns.mk rfl rfl rfl rfl rfl rfl rfl (fun _ => ⟨rfl, rfl, rfl⟩) (fun _ => ⟨hst.tr, fun b e => by cases e; exact hI.plan⟩)
end
end Go.RR
