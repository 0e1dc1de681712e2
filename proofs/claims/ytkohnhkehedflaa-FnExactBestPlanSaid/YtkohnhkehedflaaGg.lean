/- The reference's search for a plan: one round, a plan being known. -/
import Derived.Test.YtkohnhkehedflaaGf
set_option linter.unusedVariables false
set_option linter.unusedSimpArgs false
namespace Go.RR
open Go

section
variable {l : List Job} {Bd Bg : Int} (hj : JobsOK l) (hn : l.length ≤ 12) (hB : Bg ≤ 20000) {k : Nat} {D : D_sl07Go} (hD : GoOK l Bd Bg k D)
variable {tk : Int} {plan : List Slot} {free : List Int} {day : Int} (hI : OKin l tk plan free) (hc : cntR tk 0 l.length ≤ k) (hday : DayI l tk plan day)
abbrev GC := Int × Int × Int × Int × Int × Int × Int × Bool × List Job × List Slot × List Slot × List Int
abbrev GD := Int × Int × Int × Int × Int × Int × Int × Bool × List Job × List Slot × List Slot × List Int × List Slot
def RepU (l : List Job) (Bd Bg tk : Int) (plan : List Slot) (free : List Int) (i : Nat) (st : PS) (s : GC ⊕ GD) : Prop :=
  ∃ b, st.best = some b ∧ (s = .inl (tk, tkn l tk, (i : Int), Bd, Bg, st.tr, st.len, true, l, b, plan, free) ∨ ∃ old, s = .inr (tk, tkn l tk, (i : Int), Bd, Bg, st.tr, st.len, true, l, old, plan, free, b))
theorem skipU {i : Nat} (hi : i < l.length) (hn : l.length ≤ 12) (htk : 0 ≤ tk) {st : PS} (hab : AB Bd st) {s : GC ⊕ GD} (hs : RepU l Bd Bg tk plan free i st s) : ∃ s', @f_sl07Go_b_st7 ⟨D⟩ s = some (.inl s') ∧ RepU l Bd Bg tk plan free (i + 1) st s' := by
  obtain ⟨b, hb, rfl | ⟨old, rfl⟩⟩ := hs
  · refine ⟨.inl (tk, tkn l tk, ((i + 1 : Nat) : Int), Bd, Bg, st.tr, st.len, true, l, b, plan, free), ?_, ⟨b, hb, .inl rfl⟩⟩
    show @f_sl07Go_b_n7 ⟨D⟩ tk (tkn l tk) (i : Int) Bd Bg st.tr st.len true l b plan free = _
    unfold f_sl07Go_b_n7
    rw [lt_true hi, u64n (by omega), dlt0, toNat_nat, cond_true, cond_false, bit_condS htk hi, succ64 (by omega), beq_iff_eq.2 hab.2]
    cases ready l tk i <;> rfl
  · refine ⟨.inr (tk, tkn l tk, ((i + 1 : Nat) : Int), Bd, Bg, st.tr, st.len, true, l, old, plan, free, b), ?_, ⟨b, hb, .inr ⟨_, rfl⟩⟩⟩
    show @f_sl07Go_b_n7b ⟨D⟩ tk (tkn l tk) (i : Int) Bd Bg st.tr st.len true l old plan free b = _
    unfold f_sl07Go_b_n7b
    rw [lt_true hi, u64n (by omega), dlt0, toNat_nat, cond_true, cond_false, bit_condS htk hi, succ64 (by omega), beq_iff_eq.2 hab.2]
    cases ready l tk i <;> rfl
include hj hn hB hD hI hc hday
theorem stepU {i : Nat} (hi : i < l.length) {st : PS} (hst : OKst l.length Bg st) (hab : ¬ AB Bd st) {s : GC ⊕ GD} (hs : RepU l Bd Bg tk plan free i st s) :
    (∀ st', goStep l Bg (go l Bd Bg k) tk plan free day st i = .inl st' → ∃ s', @f_sl07Go_b_st7 ⟨D⟩ s = some (.inl s') ∧ RepU l Bd Bg tk plan free (i + 1) st' s' ∧ OKst l.length Bg st' ∧ ¬ AB Bd st') ∧
    (∀ st', goStep l Bg (go l Bd Bg k) tk plan free day st i = .inr (st', 1) → ∃ s', @f_sl07Go_b_st7 ⟨D⟩ s = some (.inl s') ∧ RepU l Bd Bg tk plan free (i + 1) st' s' ∧ OKst l.length Bg st' ∧ AB Bd st') ∧
    (∀ st' c, goStep l Bg (go l Bd Bg k) tk plan free day st i = .inr (st', c) → c ≠ 1 → c = 2 ∧ ∃ o, @f_sl07Go_b_st7 ⟨D⟩ s = some (.inr o) ∧ (ansSB o).ret = false) := by
  have htk := hI.tk.rng
  have hput := sput_eq hj hn hI.plan hi hI.free
  obtain ⟨h, hh1, hh2⟩ := slot_hand (l := l) (p := plan) (fr := free) (i := i) hI.free
  have hinh : inB (slotB l plan free i).1 free.length = true := by rw [hh2]; exact inB_nat hh1
  have hpl : i < plan.length := by rw [hI.plan]; exact hi
  have hpl2 := hI.plan
  have hfr := hI.free
  have htr := hst.tr
  have hov : decide (st.tr + 1 > Bg) = (st.tr == Bg) := by
    apply Bool.eq_iff_iff.2
    rw [decide_eq_true_eq, beq_iff_eq]
    omega
  have hcl := cnt_le tk l.length 0
  obtain ⟨b, hb, rfl | ⟨old, rfl⟩⟩ := hs
  · have hstep : @f_sl07Go_b_st7 ⟨D⟩ (.inl (tk, tkn l tk, (i : Int), Bd, Bg, st.tr, st.len, true, l, b, plan, free)) = @f_sl07Go_b_n7 ⟨D⟩ tk (tkn l tk) (i : Int) Bd Bg st.tr st.len true l b plan free := rfl
    rw [hstep]
    unfold f_sl07Go_b_n7 goStep
    rw [lt_true hi, u64n (by omega), dlt0, toNat_nat, cond_true, cond_false, bit_condS htk.1 hi, succ64 (by omega)]
    cases hr : ready l tk i
    · simp only [cond_false]
      refine ⟨fun st' e => ?_, fun st' e => (nomatch e), fun st' c e => (nomatch e)⟩
      cases e
      exact ⟨_, rfl, ⟨b, hb, .inl rfl⟩, hst, hab⟩
    · simp only [cond_true, cond_false]
      have hlb : (st.len == Bd) = false := by
        apply Bool.eq_false_iff.2
        intro e
        exact hab ⟨by rw [hb]; rfl, beq_iff_eq.1 e⟩
      have hid : IntKind.wrap .i64 (IntKind.wrap .i64 (slotB l plan free i).2 + IntKind.wrap .i64 (l.getD i ((0, 0) : Int × Int)).1) = endB l (slotB l plan free i) i := rfl
      rw [hlb, cond_false, hput, hb, hov]
      simp only [Option.bind, Option.isSome, Bool.true_and, inB_nat hi, cond_true, cond_false, List.nil_append, hid]
      cases hpr : decide (endB l (slotB l plan free i) i ≥ st.len)
      · simp only [cond_false]
        cases hq : st.tr == Bg
        · have hready := ready_bit (l := l) htk.1 (show i < 16 by omega) hr
          rw [fits_small (show (([] : List (Int × Int)).length + plan.length) * 4 ≤ 140737488355328 by simp; omega), fits_small (show (([] : List Int).length + free.length) * 8 ≤ 140737488355328 by simp; omega), inB_nat hpl, hinh, IntWalk.i64_in (st.tr + 1) (by omega)]
          simp only [cond_true, cond_false]
          have hov' : ¬ st.tr + 1 > Bg := of_decide_eq_false (hov.trans hq)
          have hst1 : OKst l.length Bg ⟨st.tr + 1, st.len, some b⟩ := ⟨by show 0 ≤ st.tr + 1 ∧ st.tr + 1 ≤ Bg; omega, fun b' e => by cases e; exact hst.best b hb⟩
          have hab1 : ¬ AB Bd ⟨st.tr + 1, st.len, some b⟩ := fun e => hab ⟨by rw [hb]; rfl, e.2⟩
          have hI1 := hI.step hn hi (slotB l plan free i) (slotB l plan free i).1.toNat (endB l (slotB l plan free i) i)
          have hcs := cnt_step (tkI_ok hI.tk hi hn).2 hready l.length 0 (Nat.zero_le _) (by omega)
          have hc1 : cntR (tkI tk i) 0 l.length < k := by omega
          have hd1 := dayI_step hn hday hI.tk hI.plan hi hready (slotB l plan free i)
          have htn : IntKind.wrap .i64 (tkn l tk + 1) = tkn l (tkI tk i) := by
            unfold tkn
            rw [succ64 (by omega)]
            congr 1
            omega
          obtain ⟨r, e1, e2⟩ := hD.b _ _ _ (max day (endB l (slotB l plan free i) i)) _ b hI1 hst1 hab1 hd1 hc1 rfl
          rw [htn]
          have e1 : D.b (bOr .u16 tk (bShl .u16 1 (i : Int))) (tkn l (tkI tk i)) Bd Bg (st.tr + 1) st.len true l b (plan.set i ((slotB l plan free i).1, (slotB l plan free i).2)) (free.set (slotB l plan free i).1.toNat (endB l (slotB l plan free i) i)) = some r := e1
          rw [e1]
          generalize hg : go l Bd Bg k (tkI tk i) (plan.set i (slotB l plan free i)) (free.set (slotB l plan free i).1.toNat (endB l (slotB l plan free i) i)) (max day (endB l (slotB l plan free i) i)) ⟨st.tr + 1, st.len, some b⟩ = g at e2
          obtain ⟨st2, c⟩ := g
          rcases r with ⟨ret, bd', bg', tr', len', fd', best', plan', free'⟩ | ⟨ret, bd', bg', tr', len', fd', old', plan', free', best'⟩
          · obtain ⟨f1, f2, f3, f4, f5⟩ := e2
            simp only [ansSB] at f1 f2 f3 f4 f5
            match c, f1 with
            | 0, _ =>
              obtain ⟨g1, g2, g3, g4, g5, g6, g7⟩ := f3 (by decide)
              subst g1 g2 g3 g4 g5 f2
              refine ⟨fun st' e => ?_, fun st' e => (nomatch e), fun st' c e => (nomatch e)⟩
              have e : (Sum.inl st2 : PS ⊕ (PS × Nat)) = .inl st' := e
              cases e
              exact ⟨_, rfl, ⟨best', g6.symm, by first | (rw [← g6]; exact .inl rfl) | (rw [← g6]; exact .inr ⟨_, rfl⟩)⟩, g7, f4 rfl⟩
            | 1, _ =>
              obtain ⟨g1, g2, g3, g4, g5, g6, g7⟩ := f3 (by decide)
              subst g1 g2 g3 g4 g5 f2
              refine ⟨fun st' e => (nomatch e), fun st' e => ?_, fun st' c e hc => ?_⟩
              · have e : (Sum.inr (st2, 1) : PS ⊕ (PS × Nat)) = .inr (st', 1) := e
                cases e
                exact ⟨_, rfl, ⟨best', g6.symm, by first | (rw [← g6]; exact .inl rfl) | (rw [← g6]; exact .inr ⟨_, rfl⟩)⟩, g7, f5 rfl⟩
              · have e : (Sum.inr (st2, 1) : PS ⊕ (PS × Nat)) = .inr (st', c) := e
                cases e
                exact absurd rfl hc
            | 2, _ =>
              subst f2
              refine ⟨fun st' e => (nomatch e), fun st' e => ?_, fun st' c e hc => ?_⟩
              · have e : (Sum.inr (st2, 2) : PS ⊕ (PS × Nat)) = .inr (st', 1) := e
                cases e
              · have e : (Sum.inr (st2, 2) : PS ⊕ (PS × Nat)) = .inr (st', c) := e
                cases e
                exact ⟨rfl, _, rfl, rfl⟩
            | c + 3, hc3 => exact absurd hc3 (by omega)
          · obtain ⟨f1, f2, f3, f4, f5⟩ := e2
            simp only [ansSB] at f1 f2 f3 f4 f5
            match c, f1 with
            | 0, _ =>
              obtain ⟨g1, g2, g3, g4, g5, g6, g7⟩ := f3 (by decide)
              subst g1 g2 g3 g4 g5 f2
              refine ⟨fun st' e => ?_, fun st' e => (nomatch e), fun st' c e => (nomatch e)⟩
              have e : (Sum.inl st2 : PS ⊕ (PS × Nat)) = .inl st' := e
              cases e
              exact ⟨_, rfl, ⟨best', g6.symm, by first | (rw [← g6]; exact .inl rfl) | (rw [← g6]; exact .inr ⟨_, rfl⟩)⟩, g7, f4 rfl⟩
            | 1, _ =>
              obtain ⟨g1, g2, g3, g4, g5, g6, g7⟩ := f3 (by decide)
              subst g1 g2 g3 g4 g5 f2
              refine ⟨fun st' e => (nomatch e), fun st' e => ?_, fun st' c e hc => ?_⟩
              · have e : (Sum.inr (st2, 1) : PS ⊕ (PS × Nat)) = .inr (st', 1) := e
                cases e
                exact ⟨_, rfl, ⟨best', g6.symm, by first | (rw [← g6]; exact .inl rfl) | (rw [← g6]; exact .inr ⟨_, rfl⟩)⟩, g7, f5 rfl⟩
              · have e : (Sum.inr (st2, 1) : PS ⊕ (PS × Nat)) = .inr (st', c) := e
                cases e
                exact absurd rfl hc
            | 2, _ =>
              subst f2
              refine ⟨fun st' e => (nomatch e), fun st' e => ?_, fun st' c e hc => ?_⟩
              · have e : (Sum.inr (st2, 2) : PS ⊕ (PS × Nat)) = .inr (st', 1) := e
                cases e
              · have e : (Sum.inr (st2, 2) : PS ⊕ (PS × Nat)) = .inr (st', c) := e
                cases e
                exact ⟨rfl, _, rfl, rfl⟩
            | c + 3, hc3 => exact absurd hc3 (by omega)
        · refine ⟨fun st' e => (nomatch e), fun st' e => (nomatch e), fun st' c e hc => ?_⟩
          cases e
          exact ⟨rfl, _, rfl, rfl⟩
      · simp only [cond_true]
        refine ⟨fun st' e => ?_, fun st' e => (nomatch e), fun st' c e => (nomatch e)⟩
        cases e
        exact ⟨_, rfl, ⟨b, hb, .inl rfl⟩, hst, hab⟩
  · have hstep : @f_sl07Go_b_st7 ⟨D⟩ (.inr (tk, tkn l tk, (i : Int), Bd, Bg, st.tr, st.len, true, l, old, plan, free, b)) = @f_sl07Go_b_n7b ⟨D⟩ tk (tkn l tk) (i : Int) Bd Bg st.tr st.len true l old plan free b := rfl
    rw [hstep]
    unfold f_sl07Go_b_n7b goStep
    rw [lt_true hi, u64n (by omega), dlt0, toNat_nat, cond_true, cond_false, bit_condS htk.1 hi, succ64 (by omega)]
    cases hr : ready l tk i
    · simp only [cond_false]
      refine ⟨fun st' e => ?_, fun st' e => (nomatch e), fun st' c e => (nomatch e)⟩
      cases e
      exact ⟨_, rfl, ⟨b, hb, .inr ⟨_, rfl⟩⟩, hst, hab⟩
    · simp only [cond_true, cond_false]
      have hlb : (st.len == Bd) = false := by
        apply Bool.eq_false_iff.2
        intro e
        exact hab ⟨by rw [hb]; rfl, beq_iff_eq.1 e⟩
      have hid : IntKind.wrap .i64 (IntKind.wrap .i64 (slotB l plan free i).2 + IntKind.wrap .i64 (l.getD i ((0, 0) : Int × Int)).1) = endB l (slotB l plan free i) i := rfl
      rw [hlb, cond_false, hput, hb, hov]
      simp only [Option.bind, Option.isSome, Bool.true_and, inB_nat hi, cond_true, cond_false, List.nil_append, hid]
      cases hpr : decide (endB l (slotB l plan free i) i ≥ st.len)
      · simp only [cond_false]
        cases hq : st.tr == Bg
        · have hready := ready_bit (l := l) htk.1 (show i < 16 by omega) hr
          rw [fits_small (show (([] : List (Int × Int)).length + plan.length) * 4 ≤ 140737488355328 by simp; omega), fits_small (show (([] : List Int).length + free.length) * 8 ≤ 140737488355328 by simp; omega), inB_nat hpl, hinh, IntWalk.i64_in (st.tr + 1) (by omega)]
          simp only [cond_true, cond_false]
          have hov' : ¬ st.tr + 1 > Bg := of_decide_eq_false (hov.trans hq)
          have hst1 : OKst l.length Bg ⟨st.tr + 1, st.len, some b⟩ := ⟨by show 0 ≤ st.tr + 1 ∧ st.tr + 1 ≤ Bg; omega, fun b' e => by cases e; exact hst.best b hb⟩
          have hab1 : ¬ AB Bd ⟨st.tr + 1, st.len, some b⟩ := fun e => hab ⟨by rw [hb]; rfl, e.2⟩
          have hI1 := hI.step hn hi (slotB l plan free i) (slotB l plan free i).1.toNat (endB l (slotB l plan free i) i)
          have hcs := cnt_step (tkI_ok hI.tk hi hn).2 hready l.length 0 (Nat.zero_le _) (by omega)
          have hc1 : cntR (tkI tk i) 0 l.length < k := by omega
          have hd1 := dayI_step hn hday hI.tk hI.plan hi hready (slotB l plan free i)
          have htn : IntKind.wrap .i64 (tkn l tk + 1) = tkn l (tkI tk i) := by
            unfold tkn
            rw [succ64 (by omega)]
            congr 1
            omega
          obtain ⟨r, e1, e2⟩ := hD.b _ _ _ (max day (endB l (slotB l plan free i) i)) _ b hI1 hst1 hab1 hd1 hc1 rfl
          rw [htn]
          have e1 : D.b (bOr .u16 tk (bShl .u16 1 (i : Int))) (tkn l (tkI tk i)) Bd Bg (st.tr + 1) st.len true l b (plan.set i ((slotB l plan free i).1, (slotB l plan free i).2)) (free.set (slotB l plan free i).1.toNat (endB l (slotB l plan free i) i)) = some r := e1
          rw [e1]
          generalize hg : go l Bd Bg k (tkI tk i) (plan.set i (slotB l plan free i)) (free.set (slotB l plan free i).1.toNat (endB l (slotB l plan free i) i)) (max day (endB l (slotB l plan free i) i)) ⟨st.tr + 1, st.len, some b⟩ = g at e2
          obtain ⟨st2, c⟩ := g
          rcases r with ⟨ret, bd', bg', tr', len', fd', best', plan', free'⟩ | ⟨ret, bd', bg', tr', len', fd', old', plan', free', best'⟩
          · obtain ⟨f1, f2, f3, f4, f5⟩ := e2
            simp only [ansSB] at f1 f2 f3 f4 f5
            match c, f1 with
            | 0, _ =>
              obtain ⟨g1, g2, g3, g4, g5, g6, g7⟩ := f3 (by decide)
              subst g1 g2 g3 g4 g5 f2
              refine ⟨fun st' e => ?_, fun st' e => (nomatch e), fun st' c e => (nomatch e)⟩
              have e : (Sum.inl st2 : PS ⊕ (PS × Nat)) = .inl st' := e
              cases e
              exact ⟨_, rfl, ⟨best', g6.symm, by first | (rw [← g6]; exact .inl rfl) | (rw [← g6]; exact .inr ⟨_, rfl⟩)⟩, g7, f4 rfl⟩
            | 1, _ =>
              obtain ⟨g1, g2, g3, g4, g5, g6, g7⟩ := f3 (by decide)
              subst g1 g2 g3 g4 g5 f2
              refine ⟨fun st' e => (nomatch e), fun st' e => ?_, fun st' c e hc => ?_⟩
              · have e : (Sum.inr (st2, 1) : PS ⊕ (PS × Nat)) = .inr (st', 1) := e
                cases e
                exact ⟨_, rfl, ⟨best', g6.symm, by first | (rw [← g6]; exact .inl rfl) | (rw [← g6]; exact .inr ⟨_, rfl⟩)⟩, g7, f5 rfl⟩
              · have e : (Sum.inr (st2, 1) : PS ⊕ (PS × Nat)) = .inr (st', c) := e
                cases e
                exact absurd rfl hc
            | 2, _ =>
              subst f2
              refine ⟨fun st' e => (nomatch e), fun st' e => ?_, fun st' c e hc => ?_⟩
              · have e : (Sum.inr (st2, 2) : PS ⊕ (PS × Nat)) = .inr (st', 1) := e
                cases e
              · have e : (Sum.inr (st2, 2) : PS ⊕ (PS × Nat)) = .inr (st', c) := e
                cases e
                exact ⟨rfl, _, rfl, rfl⟩
            | c + 3, hc3 => exact absurd hc3 (by omega)
          · obtain ⟨f1, f2, f3, f4, f5⟩ := e2
            simp only [ansSB] at f1 f2 f3 f4 f5
            match c, f1 with
            | 0, _ =>
              obtain ⟨g1, g2, g3, g4, g5, g6, g7⟩ := f3 (by decide)
              subst g1 g2 g3 g4 g5 f2
              refine ⟨fun st' e => ?_, fun st' e => (nomatch e), fun st' c e => (nomatch e)⟩
              have e : (Sum.inl st2 : PS ⊕ (PS × Nat)) = .inl st' := e
              cases e
              exact ⟨_, rfl, ⟨best', g6.symm, by first | (rw [← g6]; exact .inl rfl) | (rw [← g6]; exact .inr ⟨_, rfl⟩)⟩, g7, f4 rfl⟩
            | 1, _ =>
              obtain ⟨g1, g2, g3, g4, g5, g6, g7⟩ := f3 (by decide)
              subst g1 g2 g3 g4 g5 f2
              refine ⟨fun st' e => (nomatch e), fun st' e => ?_, fun st' c e hc => ?_⟩
              · have e : (Sum.inr (st2, 1) : PS ⊕ (PS × Nat)) = .inr (st', 1) := e
                cases e
                exact ⟨_, rfl, ⟨best', g6.symm, by first | (rw [← g6]; exact .inl rfl) | (rw [← g6]; exact .inr ⟨_, rfl⟩)⟩, g7, f5 rfl⟩
              · have e : (Sum.inr (st2, 1) : PS ⊕ (PS × Nat)) = .inr (st', c) := e
                cases e
                exact absurd rfl hc
            | 2, _ =>
              subst f2
              refine ⟨fun st' e => (nomatch e), fun st' e => ?_, fun st' c e hc => ?_⟩
              · have e : (Sum.inr (st2, 2) : PS ⊕ (PS × Nat)) = .inr (st', 1) := e
                cases e
              · have e : (Sum.inr (st2, 2) : PS ⊕ (PS × Nat)) = .inr (st', c) := e
                cases e
                exact ⟨rfl, _, rfl, rfl⟩
            | c + 3, hc3 => exact absurd hc3 (by omega)
        · refine ⟨fun st' e => (nomatch e), fun st' e => (nomatch e), fun st' c e hc => ?_⟩
          cases e
          exact ⟨rfl, _, rfl, rfl⟩
      · simp only [cond_true]
        refine ⟨fun st' e => ?_, fun st' e => (nomatch e), fun st' c e => (nomatch e)⟩
        cases e
        exact ⟨_, rfl, ⟨b, hb, .inr ⟨_, rfl⟩⟩, hst, hab⟩
end
end Go.RR
