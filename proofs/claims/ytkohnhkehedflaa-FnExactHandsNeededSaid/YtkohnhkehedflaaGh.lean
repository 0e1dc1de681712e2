/- The reference's search for a plan answers as the plain recursion does. -/
import Derived.Test.YtkohnhkehedflaaGg
set_option linter.unusedVariables false
set_option linter.unusedSimpArgs false
namespace Go.RR
open Go

section
variable {l : List Job} {Bd Bg : Int} (hj : JobsOK l) (hn : l.length ≤ 12) (hB : Bg ≤ 20000)
section
variable {k : Nat} {D : D_sl07Go}
variable {tk : Int} {plan : List Slot} {free : List Int} {day : Int}
theorem endS (st : PS) (hst : OKst l.length Bg st) (c : Nat) (hc : c = 0 ∧ ¬ AB Bd st ∨ c = 1 ∧ AB Bd st) : ∃ o, @f_sl07Go_a_st7 ⟨D⟩ (emS l Bd Bg tk plan free l.length st) = some (.inr o) ∧ IsS l.length Bd Bg (st, c) (ansSA o) := by
  have fin : ∀ o : TS1 ⊕ TS2, (ansSA o) = ⟨true, Bd, Bg, st.tr, st.len, st.best.isSome, st.best⟩ → IsS l.length Bd Bg (st, c) (ansSA o) := by
    intro o e
    rw [e]
    rcases hc with ⟨rfl, h⟩ | ⟨rfl, h⟩
    · exact IsS.mk (show (0 : Nat) ≤ 2 by decide) rfl (fun _ => ⟨rfl, rfl, rfl, rfl, rfl, rfl, hst⟩) (fun _ => h) (fun h => absurd h (show ¬ (0 : Nat) = 1 by decide))
    · exact IsS.mk (show (1 : Nat) ≤ 2 by decide) rfl (fun _ => ⟨rfl, rfl, rfl, rfl, rfl, rfl, hst⟩) (fun h => absurd h (show ¬ (1 : Nat) = 0 by decide)) (fun _ => h)
  cases hb : st.best with
  | none =>
    have hem : emS l Bd Bg tk plan free l.length st = .inl (tk, tkn l tk, ((l.length : Nat) : Int), Bd, Bg, st.tr, st.len, false, l, plan, free) := by unfold emS; rw [hb]
    rw [hem]
    refine ⟨mkX (true, Bd, Bg, st.tr, st.len, false, plan, free), ?_, fin _ (by rw [hb]; rfl)⟩
    show @f_sl07Go_a_n7 ⟨D⟩ tk (tkn l tk) ((l.length : Nat) : Int) Bd Bg st.tr st.len false l plan free = _
    unfold f_sl07Go_a_n7
    rw [lt_neg, cond_false]
  | some b =>
    have hem : emS l Bd Bg tk plan free l.length st = .inr (tk, tkn l tk, ((l.length : Nat) : Int), Bd, Bg, st.tr, st.len, true, l, plan, free, b) := by unfold emS; rw [hb]
    rw [hem]
    refine ⟨mkY (true, Bd, Bg, st.tr, st.len, true, plan, free, b), ?_, fin _ (by rw [hb]; rfl)⟩
    show @f_sl07Go_a_n7b ⟨D⟩ tk (tkn l tk) ((l.length : Nat) : Int) Bd Bg st.tr st.len true l plan free b = _
    unfold f_sl07Go_a_n7b
    rw [lt_neg, cond_false]
theorem skipRunS (hn : l.length ≤ 12) (htk : 0 ≤ tk) : ∀ (cnt i M : Nat) (st : PS), i + cnt = l.length → cnt < M → OKst l.length Bg st → AB Bd st → ∃ o, iter (@f_sl07Go_a_st7 ⟨D⟩) M (emS l Bd Bg tk plan free i st) = some o ∧ IsS l.length Bd Bg (st, 1) (ansSA o)
  | 0, i, M + 1, st, hi, hm, hst, hab => by
    obtain rfl : i = l.length := hi
    obtain ⟨o, e1, e2⟩ := endS (D := D) (tk := tk) (plan := plan) (free := free) st hst 1 (.inr ⟨rfl, hab⟩)
    exact ⟨o, iter_out e1, e2⟩
  | cnt + 1, i, M + 1, st, hi, hm, hst, hab => by
    rw [iter_in (skipS (D := D) (Bg := Bg) (plan := plan) (free := free) (show i < l.length by omega) hn htk hab)]
    exact skipRunS hn htk cnt (i + 1) M st (by omega) (by omega) hst hab
  | cnt, i, 0, st, hi, hm, _, _ => by omega
theorem endU (st : PS) (hst : OKst l.length Bg st) {s : GC ⊕ GD} (hs : RepU l Bd Bg tk plan free l.length st s) (c : Nat) (hc : c = 0 ∧ ¬ AB Bd st ∨ c = 1 ∧ AB Bd st) : ∃ o, @f_sl07Go_b_st7 ⟨D⟩ s = some (.inr o) ∧ IsS l.length Bd Bg (st, c) (ansSB o) := by
  have fin : ∀ o : TT1 ⊕ TT2, (ansSB o) = ⟨true, Bd, Bg, st.tr, st.len, st.best.isSome, st.best⟩ → IsS l.length Bd Bg (st, c) (ansSB o) := by
    intro o e
    rw [e]
    rcases hc with ⟨rfl, h⟩ | ⟨rfl, h⟩
    · exact IsS.mk (show (0 : Nat) ≤ 2 by decide) rfl (fun _ => ⟨rfl, rfl, rfl, rfl, rfl, rfl, hst⟩) (fun _ => h) (fun h => absurd h (show ¬ (0 : Nat) = 1 by decide))
    · exact IsS.mk (show (1 : Nat) ≤ 2 by decide) rfl (fun _ => ⟨rfl, rfl, rfl, rfl, rfl, rfl, hst⟩) (fun h => absurd h (show ¬ (1 : Nat) = 0 by decide)) (fun _ => h)
  obtain ⟨b, hb, rfl | ⟨old, rfl⟩⟩ := hs
  · refine ⟨mkX (true, Bd, Bg, st.tr, st.len, true, b, plan, free), ?_, fin _ (by rw [hb]; rfl)⟩
    show @f_sl07Go_b_n7 ⟨D⟩ tk (tkn l tk) ((l.length : Nat) : Int) Bd Bg st.tr st.len true l b plan free = _
    unfold f_sl07Go_b_n7
    rw [lt_neg, cond_false]
  · refine ⟨mkY (true, Bd, Bg, st.tr, st.len, true, old, plan, free, b), ?_, fin _ (by rw [hb]; rfl)⟩
    show @f_sl07Go_b_n7b ⟨D⟩ tk (tkn l tk) ((l.length : Nat) : Int) Bd Bg st.tr st.len true l old plan free b = _
    unfold f_sl07Go_b_n7b
    rw [lt_neg, cond_false]
theorem skipRunU (hn : l.length ≤ 12) (htk : 0 ≤ tk) : ∀ (cnt i M : Nat) (st : PS) (s : GC ⊕ GD), i + cnt = l.length → cnt < M → OKst l.length Bg st → AB Bd st → RepU l Bd Bg tk plan free i st s → ∃ o, iter (@f_sl07Go_b_st7 ⟨D⟩) M s = some o ∧ IsS l.length Bd Bg (st, 1) (ansSB o)
  | 0, i, M + 1, st, s, hi, hm, hst, hab, hs => by
    obtain rfl : i = l.length := hi
    obtain ⟨o, e1, e2⟩ := endU (D := D) st hst hs 1 (.inr ⟨rfl, hab⟩)
    exact ⟨o, iter_out e1, e2⟩
  | cnt + 1, i, M + 1, st, s, hi, hm, hst, hab, hs => by
    obtain ⟨s', e1, e2⟩ := skipU (D := D) (show i < l.length by omega) hn htk hab hs
    rw [iter_in e1]
    exact skipRunU hn htk cnt (i + 1) M st s' (by omega) (by omega) hst hab e2
  | cnt, i, 0, st, s, hi, hm, _, _, _ => by omega
variable (hD : GoOK l Bd Bg k D) (hI : OKin l tk plan free) (hc : cntR tk 0 l.length ≤ k) (hday : DayI l tk plan day)
include hj hn hB hD hI hc hday
theorem runS : ∀ (cnt i M : Nat) (st : PS), i + cnt = l.length → cnt < M → OKst l.length Bg st → ¬ AB Bd st →
    ∃ o, iter (@f_sl07Go_a_st7 ⟨D⟩) M (emS l Bd Bg tk plan free i st) = some o ∧ IsS l.length Bd Bg (outG (exitL (goStep l Bg (go l Bd Bg k) tk plan free day) st (List.range' i cnt))) (ansSA o)
  | 0, i, M + 1, st, hi, hm, hst, hab => by
    obtain rfl : i = l.length := hi
    obtain ⟨o, e1, e2⟩ := endS (D := D) (tk := tk) (plan := plan) (free := free) st hst 0 (.inl ⟨rfl, hab⟩)
    exact ⟨o, iter_out e1, e2⟩
  | cnt + 1, i, M + 1, st, hi, hm, hst, hab => by
    obtain ⟨h1, h2, h3⟩ := stepS hj hn hB hD hI hc hday (show i < l.length by omega) hst hab
    rw [List.range'_succ]
    unfold exitL
    cases hg : goStep l Bg (go l Bd Bg k) tk plan free day st i with
    | inl st' =>
      obtain ⟨e1, e2, e3⟩ := h1 st' hg
      rw [iter_in e1]
      exact runS cnt (i + 1) M st' (by omega) (by omega) e2 e3
    | inr r =>
      obtain ⟨st', c⟩ := r
      by_cases hc1 : c = 1
      · subst hc1
        obtain ⟨e1, e2, e3⟩ := h2 st' hg
        rw [iter_in e1]
        exact skipRunS hn hI.tk.rng.1 cnt (i + 1) M st' (by omega) (by omega) e2 e3
      · obtain ⟨rfl, o, e1, e2⟩ := h3 st' c hg hc1
        exact ⟨o, iter_out e1, IsS.mk (Nat.le_refl _) e2 (fun h => absurd rfl h) (fun h => absurd h (show ¬ (2 : Nat) = 0 by decide)) (fun h => absurd h (show ¬ (2 : Nat) = 1 by decide))⟩
  | cnt, i, 0, st, hi, hm, hst, _ => by omega
theorem runU : ∀ (cnt i M : Nat) (st : PS) (s : GC ⊕ GD), i + cnt = l.length → cnt < M → OKst l.length Bg st → ¬ AB Bd st → RepU l Bd Bg tk plan free i st s →
    ∃ o, iter (@f_sl07Go_b_st7 ⟨D⟩) M s = some o ∧ IsS l.length Bd Bg (outG (exitL (goStep l Bg (go l Bd Bg k) tk plan free day) st (List.range' i cnt))) (ansSB o)
  | 0, i, M + 1, st, s, hi, hm, hst, hab, hs => by
    obtain rfl : i = l.length := hi
    obtain ⟨o, e1, e2⟩ := endU (D := D) st hst hs 0 (.inl ⟨rfl, hab⟩)
    exact ⟨o, iter_out e1, e2⟩
  | cnt + 1, i, M + 1, st, s, hi, hm, hst, hab, hs => by
    obtain ⟨h1, h2, h3⟩ := stepU hj hn hB hD hI hc hday (show i < l.length by omega) hst hab hs
    rw [List.range'_succ]
    unfold exitL
    cases hg : goStep l Bg (go l Bd Bg k) tk plan free day st i with
    | inl st' =>
      obtain ⟨s', e1, e2, e3, e4⟩ := h1 st' hg
      rw [iter_in e1]
      exact runU cnt (i + 1) M st' s' (by omega) (by omega) e3 e4 e2
    | inr r =>
      obtain ⟨st', c⟩ := r
      by_cases hc1 : c = 1
      · subst hc1
        obtain ⟨s', e1, e2, e3, e4⟩ := h2 st' hg
        rw [iter_in e1]
        exact skipRunU hn hI.tk.rng.1 cnt (i + 1) M st' s' (by omega) (by omega) e3 e4 e2
      · obtain ⟨rfl, o, e1, e2⟩ := h3 st' c hg hc1
        exact ⟨o, iter_out e1, IsS.mk (Nat.le_refl _) e2 (fun h => absurd rfl h) (fun h => absurd h (show ¬ (2 : Nat) = 0 by decide)) (fun h => absurd h (show ¬ (2 : Nat) = 1 by decide))⟩
  | cnt, i, 0, st, s, hi, hm, hst, _, _ => by omega
end
include hj hn hB
theorem go_ok : ∀ k, GoOK l Bd Bg k (K_sl07Go k)
  | 0 => ⟨fun _ _ _ _ _ _ _ _ _ h => absurd h (Nat.not_lt_zero _), fun _ _ _ _ _ _ _ _ _ _ h => absurd h (Nat.not_lt_zero _)⟩
  | k + 1 => by
    have ih := go_ok k
    have hgo : ∀ tk plan free day st, go l Bd Bg (k + 1) tk plan free day st = cond (tk == fullB l.length) (⟨st.tr, day, some plan⟩, cond (day == Bd) 1 0) (outG (exitL (goStep l Bg (go l Bd Bg k) tk plan free day) st (List.range' 0 l.length))) := fun _ _ _ _ _ => rfl
    have hend : ∀ tk plan free, OKin l tk plan free → (tkn l tk == ((l.length : Nat) : Int)) = (tk == fullB l.length) := by
      intro tk plan free hI
      rw [full_iff hn hI.tk]
      have := cnt_le tk l.length 0
      apply Bool.eq_iff_iff.2
      rw [beq_iff_eq, decide_eq_true_eq]
      unfold tkn
      omega
    have hlen : ∀ tk plan free day, OKin l tk plan free → DayI l tk plan day → (tk == fullB l.length) = true → s_sl07Length l plan = some day := by
      intro tk plan free day hI hd hf
      rw [full_iff hn hI.tk, decide_eq_true_eq, cnt_zero] at hf
      rw [slen_eq hn hI.plan]
      unfold DayI at hd
      rw [hd, dayF_full _ _ fun k hk => hf k (Nat.zero_le _) (by rw [List.mem_range'_1] at hk; omega)]
      rfl
    have hfin : ∀ (plan : List Slot) (day : Int) (st : PS) (o : AnsS), plan.length = l.length → OKst l.length Bg st → o = ⟨true, Bd, Bg, st.tr, day, true, some plan⟩ → IsS l.length Bd Bg (⟨st.tr, day, some plan⟩, cond (day == Bd) 1 0) o := by
      intro plan day st o hp hst e
      subst e
      have hok : OKst l.length Bg ⟨st.tr, day, some plan⟩ := ⟨hst.tr, fun b e => by cases e; exact hp⟩
      cases hd : day == Bd
      · exact IsS.mk (show (0 : Nat) ≤ 2 by decide) rfl (fun _ => ⟨rfl, rfl, rfl, rfl, rfl, rfl, hok⟩) (fun _ h => by
          have := h.2
          rw [beq_eq_false_iff_ne] at hd
          exact hd this) (fun h => absurd h (show ¬ (0 : Nat) = 1 by decide))
      · exact IsS.mk (show (1 : Nat) ≤ 2 by decide) rfl (fun _ => ⟨rfl, rfl, rfl, rfl, rfl, rfl, hok⟩) (fun h => absurd h (show ¬ (1 : Nat) = 0 by decide)) (fun _ => ⟨rfl, beq_iff_eq.1 hd⟩)
    refine ⟨fun tk plan free day st hI hst hab hd hc hb => ?_, fun tk plan free day st b hI hst hab hd hc hb => ?_⟩
    · show ∃ r, @s_sl07Go_a ⟨K_sl07Go k⟩ tk (tkn l tk) Bd Bg st.tr st.len false l plan free = some r ∧ _
      have hp := hI.plan
      unfold s_sl07Go_a
      rw [hend tk plan free hI, hgo, fits_small (show (([] : List (Int × Int)).length + plan.length) * 4 ≤ 140737488355328 by simp; omega)]
      cases hf : tk == fullB l.length
      · have hr := runS (day := day) hj hn hB ih hI (by omega) hd l.length 0 FU st (by omega) (FU_big (pow_big (by omega))) hst hab
        have hem : emS l Bd Bg tk plan free 0 st = .inl (tk, tkn l tk, 0, Bd, Bg, st.tr, st.len, false, l, plan, free) := by unfold emS; rw [hb]; rfl
        rw [hem] at hr
        exact hr
      · rw [hlen tk plan free day hI hd hf]
        exact ⟨_, rfl, hfin plan day st _ hp hst rfl⟩
    · show ∃ r, @s_sl07Go_b ⟨K_sl07Go k⟩ tk (tkn l tk) Bd Bg st.tr st.len true l b plan free = some r ∧ _
      have hp := hI.plan
      unfold s_sl07Go_b
      rw [hend tk plan free hI, hgo, fits_small (show (([] : List (Int × Int)).length + plan.length) * 4 ≤ 140737488355328 by simp; omega)]
      cases hf : tk == fullB l.length
      · exact runU (day := day) hj hn hB ih hI (by omega) hd l.length 0 FU st _ (by omega) (FU_big (pow_big (by omega))) hst hab ⟨b, hb, .inl rfl⟩
      · rw [hlen tk plan free day hI hd hf]
        exact ⟨_, rfl, hfin plan day st _ hp hst rfl⟩
end
end Go.RR
