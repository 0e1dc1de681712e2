/- The reference's search for a plan: one round. -/
import Derived.Test.YtkohnhkehedflaaGe
set_option linter.unusedVariables false
set_option linter.unusedSimpArgs false
namespace Go.RR
open Go

structure AnsS where
  ret : Bool
  bd : Int
  bg : Int
  tr : Int
  len : Int
  fd : Bool
  best : Option (List Slot)
abbrev TS1 := Bool × Int × Int × Int × Int × Bool × List Slot × List Int
abbrev TS2 := Bool × Int × Int × Int × Int × Bool × List Slot × List Int × List Slot
abbrev TT1 := Bool × Int × Int × Int × Int × Bool × List Slot × List Slot × List Int
abbrev TT2 := Bool × Int × Int × Int × Int × Bool × List Slot × List Slot × List Int × List Slot
def ansSA : TS1 ⊕ TS2 → AnsS
  | .inl r => ⟨r.1, r.2.1, r.2.2.1, r.2.2.2.1, r.2.2.2.2.1, r.2.2.2.2.2.1, none⟩
  | .inr r => ⟨r.1, r.2.1, r.2.2.1, r.2.2.2.1, r.2.2.2.2.1, r.2.2.2.2.2.1, some r.2.2.2.2.2.2.2.2⟩
def ansSB : TT1 ⊕ TT2 → AnsS
  | .inl r => ⟨r.1, r.2.1, r.2.2.1, r.2.2.2.1, r.2.2.2.2.1, r.2.2.2.2.2.1, some r.2.2.2.2.2.2.1⟩
  | .inr r => ⟨r.1, r.2.1, r.2.2.1, r.2.2.2.1, r.2.2.2.2.1, r.2.2.2.2.2.1, some r.2.2.2.2.2.2.2.2.2⟩
def AB (Bd : Int) (st : PS) : Prop := st.best.isSome = true ∧ st.len = Bd
structure IsS (n : Nat) (Bd Bg : Int) (r : PS × Nat) (o : AnsS) : Prop where
  le : r.2 ≤ 2
  ret : o.ret = decide (r.2 ≠ 2)
  eq : r.2 ≠ 2 → o.bd = Bd ∧ o.bg = Bg ∧ o.tr = r.1.tr ∧ o.len = r.1.len ∧ o.fd = r.1.best.isSome ∧ o.best = r.1.best ∧ OKst n Bg r.1
  nb : r.2 = 0 → ¬ AB Bd r.1
  ab : r.2 = 1 → AB Bd r.1
def DayI (l : List Job) (tk : Int) (plan : List Slot) (day : Int) : Prop := day = dayF (tb tk) (doneB l plan) (List.range' 0 l.length) 0
abbrev tkn (l : List Job) (tk : Int) : Int := ((l.length - cntR tk 0 l.length : Nat) : Int)
structure GoOK (l : List Job) (Bd Bg : Int) (k : Nat) (D : D_sl07Go) : Prop where
  a : ∀ tk plan free day st, OKin l tk plan free → OKst l.length Bg st → ¬ AB Bd st → DayI l tk plan day → cntR tk 0 l.length < k → st.best = none →
    ∃ r, D.a tk (tkn l tk) Bd Bg st.tr st.len false l plan free = some r ∧ IsS l.length Bd Bg (go l Bd Bg k tk plan free day st) (ansSA r)
  b : ∀ tk plan free day st b, OKin l tk plan free → OKst l.length Bg st → ¬ AB Bd st → DayI l tk plan day → cntR tk 0 l.length < k → st.best = some b →
    ∃ r, D.b tk (tkn l tk) Bd Bg st.tr st.len true l b plan free = some r ∧ IsS l.length Bd Bg (go l Bd Bg k tk plan free day st) (ansSB r)
theorem bit_condS {l : List Job} {tk : Int} (h0 : 0 ≤ tk) {i : Nat} (hi : i < l.length) {α : Type} (a b : Option α) : (cond ((Int.tmod (bShr .u16 tk (i : Int)) 2) == 1) a (cond (inB (i : Int) l.length) (cond ((bAndNot .u16 (l.getD i ((0, 0) : Int × Int)).2 tk) != 0) a b) none)) = cond (ready l tk i) b a := by
  rw [Int.tmod_eq_emod_of_nonneg (shr_range h0).1, inB_nat hi, cond_true]
  have := bit_cond (l := l) h0 (i := i) a b
  rw [and1 (shr_range h0).1] at this
  exact this
theorem dayI_step {l : List Job} (hn : l.length ≤ 12) {tk : Int} {plan : List Slot} {day : Int} (h : DayI l tk plan day) (ht : TkOK l.length tk) (hp : plan.length = l.length) {i : Nat} (hi : i < l.length) (hb : tb tk i = false) (sl : Slot) : DayI l (tkI tk i) (plan.set i sl) (max day (endB l sl i)) := by
  unfold DayI at h ⊢
  have hf : ∀ k, k ≠ i → doneB l (plan.set i sl) k = doneB l plan k := by
    intro k hk
    unfold doneB
    rw [List.getD_eq_getElem?_getD, List.getElem?_set_ne (fun e => hk e.symm), ← List.getD_eq_getElem?_getD]
  have he : doneB l (plan.set i sl) i = endB l sl i := by
    unfold doneB endB
    rw [List.getD_eq_getElem?_getD, List.getElem?_set_self (by omega)]
    rfl
  rw [dayF_add (tkI_ok ht hi hn).2 hb hf (ks := List.range' 0 l.length) (by rw [List.mem_range'_1]; omega) 0, he, ← h]
section
variable {l : List Job} {Bd Bg : Int} (hj : JobsOK l) (hn : l.length ≤ 12) (hB : Bg ≤ 20000) {k : Nat} {D : D_sl07Go} (hD : GoOK l Bd Bg k D)
variable {tk : Int} {plan : List Slot} {free : List Int} {day : Int} (hI : OKin l tk plan free) (hc : cntR tk 0 l.length ≤ k) (hday : DayI l tk plan day)
abbrev GA := Int × Int × Int × Int × Int × Int × Int × Bool × List Job × List Slot × List Int
abbrev GB := Int × Int × Int × Int × Int × Int × Int × Bool × List Job × List Slot × List Int × List Slot
def emS (l : List Job) (Bd Bg tk : Int) (plan : List Slot) (free : List Int) (i : Nat) (st : PS) : GA ⊕ GB := match st.best with
  | none => .inl (tk, tkn l tk, (i : Int), Bd, Bg, st.tr, st.len, false, l, plan, free)
  | some b => .inr (tk, tkn l tk, (i : Int), Bd, Bg, st.tr, st.len, true, l, plan, free, b)
include hj hn hB hD hI hc hday
theorem stepS {i : Nat} (hi : i < l.length) {st : PS} (hst : OKst l.length Bg st) (hab : ¬ AB Bd st) :
    (∀ st', goStep l Bg (go l Bd Bg k) tk plan free day st i = .inl st' → @f_sl07Go_a_st7 ⟨D⟩ (emS l Bd Bg tk plan free i st) = some (.inl (emS l Bd Bg tk plan free (i + 1) st')) ∧ OKst l.length Bg st' ∧ ¬ AB Bd st') ∧
    (∀ st', goStep l Bg (go l Bd Bg k) tk plan free day st i = .inr (st', 1) → @f_sl07Go_a_st7 ⟨D⟩ (emS l Bd Bg tk plan free i st) = some (.inl (emS l Bd Bg tk plan free (i + 1) st')) ∧ OKst l.length Bg st' ∧ AB Bd st') ∧
    (∀ st' c, goStep l Bg (go l Bd Bg k) tk plan free day st i = .inr (st', c) → c ≠ 1 → c = 2 ∧ ∃ o, @f_sl07Go_a_st7 ⟨D⟩ (emS l Bd Bg tk plan free i st) = some (.inr o) ∧ (ansSA o).ret = false) := by
  have htk := hI.tk.rng
  have hput := sput_eq hj hn hI.plan hi hI.free
  obtain ⟨h, hh1, hh2⟩ := slot_hand (l := l) (p := plan) (fr := free) (i := i) hI.free
  have hinh : inB (slotB l plan free i).1 free.length = true := by rw [hh2]; exact inB_nat hh1
  have hpl : i < plan.length := by rw [hI.plan]; exact hi
  have hpl2 := hI.plan
  have hfr := hI.free
  have htr := hst.tr
  have hov : decide (st.tr + 1 > Bg) = (st.tr == Bg) := by
    apply Bool.eq_iff_iff.2
    rw [decide_eq_true_eq, beq_iff_eq]
    omega
  have hcl := cnt_le tk l.length 0
  cases hb : st.best with
  | none =>
    have hem : emS l Bd Bg tk plan free i st = .inl (tk, tkn l tk, (i : Int), Bd, Bg, st.tr, st.len, false, l, plan, free) := by unfold emS; rw [hb]
    have hstep : @f_sl07Go_a_st7 ⟨D⟩ (emS l Bd Bg tk plan free i st) = @f_sl07Go_a_n7 ⟨D⟩ tk (tkn l tk) (i : Int) Bd Bg st.tr st.len false l plan free := by rw [hem]; rfl
    rw [hstep]
    unfold f_sl07Go_a_n7 goStep
    rw [lt_true hi, u64n (by omega), dlt0, toNat_nat, cond_true, cond_false, bit_condS htk.1 hi, succ64 (by omega)]
    cases hr : ready l tk i
    · simp only [cond_false]
      refine ⟨fun st' e => ?_, fun st' e => (nomatch e), fun st' c e => (nomatch e)⟩
      cases e
      refine ⟨?_, hst, hab⟩
      unfold emS; rw [hb]
    · simp only [cond_true, cond_false]
      rw [hput, hb, hov]
      simp only [Option.bind, Option.isSome, Bool.false_and, inB_nat hi, cond_true, cond_false, List.nil_append]
      cases hq : st.tr == Bg
      · have hready := ready_bit (l := l) htk.1 (show i < 16 by omega) hr
        rw [fits_small (show (([] : List (Int × Int)).length + plan.length) * 4 ≤ 140737488355328 by simp; omega), fits_small (show (([] : List Int).length + free.length) * 8 ≤ 140737488355328 by simp; omega), inB_nat hpl, hinh, IntWalk.i64_in (st.tr + 1) (by omega)]
        simp only [cond_true, cond_false]
        have hov' : ¬ st.tr + 1 > Bg := of_decide_eq_false (hov.trans hq)
        have hst1 : OKst l.length Bg ⟨st.tr + 1, st.len, none⟩ := ⟨by show 0 ≤ st.tr + 1 ∧ st.tr + 1 ≤ Bg; omega, fun b e => nomatch e⟩
        have hab1 : ¬ AB Bd ⟨st.tr + 1, st.len, none⟩ := fun e => by cases e.1
        have hI1 := hI.step hn hi (slotB l plan free i) (slotB l plan free i).1.toNat (endB l (slotB l plan free i) i)
        have hcs := cnt_step (tkI_ok hI.tk hi hn).2 hready l.length 0 (Nat.zero_le _) (by omega)
        have hc1 : cntR (tkI tk i) 0 l.length < k := by omega
        have hd1 := dayI_step hn hday hI.tk hI.plan hi hready (slotB l plan free i)
        have htn : IntKind.wrap .i64 (tkn l tk + 1) = tkn l (tkI tk i) := by
          unfold tkn
          rw [succ64 (by omega)]
          congr 1
          omega
        obtain ⟨r, e1, e2⟩ := hD.a _ _ _ (max day (endB l (slotB l plan free i) i)) _ hI1 hst1 hab1 hd1 hc1 rfl
        rw [htn]
        have e1 : D.a (bOr .u16 tk (bShl .u16 1 (i : Int))) (tkn l (tkI tk i)) Bd Bg (st.tr + 1) st.len false l (plan.set i ((slotB l plan free i).1, (slotB l plan free i).2)) (free.set (slotB l plan free i).1.toNat (IntKind.wrap .i64 (IntKind.wrap .i64 (slotB l plan free i).2 + IntKind.wrap .i64 (l.getD i ((0, 0) : Int × Int)).1))) = some r := e1
        rw [e1]
        generalize hg : go l Bd Bg k (tkI tk i) (plan.set i (slotB l plan free i)) (free.set (slotB l plan free i).1.toNat (endB l (slotB l plan free i) i)) (max day (endB l (slotB l plan free i) i)) ⟨st.tr + 1, st.len, none⟩ = g at e2
        obtain ⟨st2, c⟩ := g
        rcases r with ⟨ret, bd', bg', tr', len', fd', plan', free'⟩ | ⟨ret, bd', bg', tr', len', fd', plan', free', best'⟩
        · obtain ⟨f1, f2, f3, f4, f5⟩ := e2
          simp only [ansSA] at f1 f2 f3 f4 f5
          match c, f1 with
          | 0, _ =>
            obtain ⟨g1, g2, g3, g4, g5, g6, g7⟩ := f3 (by decide)
            subst g1 g2 g3 g4 g5 f2
            refine ⟨fun st' e => ?_, fun st' e => (nomatch e), fun st' c e => (nomatch e)⟩
            have e : (Sum.inl st2 : PS ⊕ (PS × Nat)) = .inl st' := e
            cases e
            refine ⟨?_, g7, f4 rfl⟩
            unfold emS
            rw [← g6]; rfl
          | 1, _ =>
            obtain ⟨g1, g2, g3, g4, g5, g6, g7⟩ := f3 (by decide)
            subst g1 g2 g3 g4 g5 f2
            refine ⟨fun st' e => (nomatch e), fun st' e => ?_, fun st' c e hc => ?_⟩
            · have e : (Sum.inr (st2, 1) : PS ⊕ (PS × Nat)) = .inr (st', 1) := e
              cases e
              refine ⟨?_, g7, f5 rfl⟩
              unfold emS
              rw [← g6]; rfl
            · have e : (Sum.inr (st2, 1) : PS ⊕ (PS × Nat)) = .inr (st', c) := e
              cases e
              exact absurd rfl hc
          | 2, _ =>
            subst f2
            refine ⟨fun st' e => (nomatch e), fun st' e => ?_, fun st' c e hc => ?_⟩
            · have e : (Sum.inr (st2, 2) : PS ⊕ (PS × Nat)) = .inr (st', 1) := e
              cases e
            · have e : (Sum.inr (st2, 2) : PS ⊕ (PS × Nat)) = .inr (st', c) := e
              cases e
              exact ⟨rfl, _, rfl, rfl⟩
          | c + 3, hc3 => exact absurd hc3 (by omega)
        · obtain ⟨f1, f2, f3, f4, f5⟩ := e2
          simp only [ansSA] at f1 f2 f3 f4 f5
          match c, f1 with
          | 0, _ =>
            obtain ⟨g1, g2, g3, g4, g5, g6, g7⟩ := f3 (by decide)
            subst g1 g2 g3 g4 g5 f2
            refine ⟨fun st' e => ?_, fun st' e => (nomatch e), fun st' c e => (nomatch e)⟩
            have e : (Sum.inl st2 : PS ⊕ (PS × Nat)) = .inl st' := e
            cases e
            refine ⟨?_, g7, f4 rfl⟩
            unfold emS
            rw [← g6]; rfl
          | 1, _ =>
            obtain ⟨g1, g2, g3, g4, g5, g6, g7⟩ := f3 (by decide)
            subst g1 g2 g3 g4 g5 f2
            refine ⟨fun st' e => (nomatch e), fun st' e => ?_, fun st' c e hc => ?_⟩
            · have e : (Sum.inr (st2, 1) : PS ⊕ (PS × Nat)) = .inr (st', 1) := e
              cases e
              refine ⟨?_, g7, f5 rfl⟩
              unfold emS
              rw [← g6]; rfl
            · have e : (Sum.inr (st2, 1) : PS ⊕ (PS × Nat)) = .inr (st', c) := e
              cases e
              exact absurd rfl hc
          | 2, _ =>
            subst f2
            refine ⟨fun st' e => (nomatch e), fun st' e => ?_, fun st' c e hc => ?_⟩
            · have e : (Sum.inr (st2, 2) : PS ⊕ (PS × Nat)) = .inr (st', 1) := e
              cases e
            · have e : (Sum.inr (st2, 2) : PS ⊕ (PS × Nat)) = .inr (st', c) := e
              cases e
              exact ⟨rfl, _, rfl, rfl⟩
          | c + 3, hc3 => exact absurd hc3 (by omega)
      · refine ⟨fun st' e => (nomatch e), fun st' e => (nomatch e), fun st' c e hc => ?_⟩
        cases e
        exact ⟨rfl, _, rfl, rfl⟩
  | some b =>
    have hem : emS l Bd Bg tk plan free i st = .inr (tk, tkn l tk, (i : Int), Bd, Bg, st.tr, st.len, true, l, plan, free, b) := by unfold emS; rw [hb]
    have hstep : @f_sl07Go_a_st7 ⟨D⟩ (emS l Bd Bg tk plan free i st) = @f_sl07Go_a_n7b ⟨D⟩ tk (tkn l tk) (i : Int) Bd Bg st.tr st.len true l plan free b := by rw [hem]; rfl
    rw [hstep]
    unfold f_sl07Go_a_n7b goStep
    rw [lt_true hi, u64n (by omega), dlt0, toNat_nat, cond_true, cond_false, bit_condS htk.1 hi, succ64 (by omega)]
    cases hr : ready l tk i
    · simp only [cond_false]
      refine ⟨fun st' e => ?_, fun st' e => (nomatch e), fun st' c e => (nomatch e)⟩
      cases e
      refine ⟨?_, hst, hab⟩
      unfold emS; rw [hb]
    · simp only [cond_true, cond_false]
      have hlb : (st.len == Bd) = false := by
        apply Bool.eq_false_iff.2
        intro e
        exact hab ⟨by rw [hb]; rfl, beq_iff_eq.1 e⟩
      have hid : IntKind.wrap .i64 (IntKind.wrap .i64 (slotB l plan free i).2 + IntKind.wrap .i64 (l.getD i ((0, 0) : Int × Int)).1) = endB l (slotB l plan free i) i := rfl
      rw [hlb, cond_false, hput, hb, hov]
      simp only [Option.bind, Option.isSome, Bool.true_and, inB_nat hi, cond_true, cond_false, List.nil_append, hid]
      cases hpr : decide (endB l (slotB l plan free i) i ≥ st.len)
      · simp only [cond_false]
        cases hq : st.tr == Bg
        · have hready := ready_bit (l := l) htk.1 (show i < 16 by omega) hr
          rw [fits_small (show (([] : List (Int × Int)).length + plan.length) * 4 ≤ 140737488355328 by simp; omega), fits_small (show (([] : List Int).length + free.length) * 8 ≤ 140737488355328 by simp; omega), inB_nat hpl, hinh, IntWalk.i64_in (st.tr + 1) (by omega)]
          simp only [cond_true, cond_false]
          have hov' : ¬ st.tr + 1 > Bg := of_decide_eq_false (hov.trans hq)
          have hst1 : OKst l.length Bg ⟨st.tr + 1, st.len, some b⟩ := ⟨by show 0 ≤ st.tr + 1 ∧ st.tr + 1 ≤ Bg; omega, fun b' e => by cases e; exact hst.best b hb⟩
          have hab1 : ¬ AB Bd ⟨st.tr + 1, st.len, some b⟩ := fun e => hab ⟨by rw [hb]; rfl, e.2⟩
          have hI1 := hI.step hn hi (slotB l plan free i) (slotB l plan free i).1.toNat (endB l (slotB l plan free i) i)
          have hcs := cnt_step (tkI_ok hI.tk hi hn).2 hready l.length 0 (Nat.zero_le _) (by omega)
          have hc1 : cntR (tkI tk i) 0 l.length < k := by omega
          have hd1 := dayI_step hn hday hI.tk hI.plan hi hready (slotB l plan free i)
          have htn : IntKind.wrap .i64 (tkn l tk + 1) = tkn l (tkI tk i) := by
            unfold tkn
            rw [succ64 (by omega)]
            congr 1
            omega
          obtain ⟨r, e1, e2⟩ := hD.b _ _ _ (max day (endB l (slotB l plan free i) i)) _ b hI1 hst1 hab1 hd1 hc1 rfl
          rw [htn]
          have e1 : D.b (bOr .u16 tk (bShl .u16 1 (i : Int))) (tkn l (tkI tk i)) Bd Bg (st.tr + 1) st.len true l b (plan.set i ((slotB l plan free i).1, (slotB l plan free i).2)) (free.set (slotB l plan free i).1.toNat (endB l (slotB l plan free i) i)) = some r := e1
          rw [e1]
          generalize hg : go l Bd Bg k (tkI tk i) (plan.set i (slotB l plan free i)) (free.set (slotB l plan free i).1.toNat (endB l (slotB l plan free i) i)) (max day (endB l (slotB l plan free i) i)) ⟨st.tr + 1, st.len, some b⟩ = g at e2
          obtain ⟨st2, c⟩ := g
          rcases r with ⟨ret, bd', bg', tr', len', fd', best', plan', free'⟩ | ⟨ret, bd', bg', tr', len', fd', old', plan', free', best'⟩
          · obtain ⟨f1, f2, f3, f4, f5⟩ := e2
            simp only [ansSB] at f1 f2 f3 f4 f5
            match c, f1 with
            | 0, _ =>
              obtain ⟨g1, g2, g3, g4, g5, g6, g7⟩ := f3 (by decide)
              subst g1 g2 g3 g4 g5 f2
              refine ⟨fun st' e => ?_, fun st' e => (nomatch e), fun st' c e => (nomatch e)⟩
              have e : (Sum.inl st2 : PS ⊕ (PS × Nat)) = .inl st' := e
              cases e
              refine ⟨?_, g7, f4 rfl⟩
              unfold emS
              rw [← g6]; rfl
            | 1, _ =>
              obtain ⟨g1, g2, g3, g4, g5, g6, g7⟩ := f3 (by decide)
              subst g1 g2 g3 g4 g5 f2
              refine ⟨fun st' e => (nomatch e), fun st' e => ?_, fun st' c e hc => ?_⟩
              · have e : (Sum.inr (st2, 1) : PS ⊕ (PS × Nat)) = .inr (st', 1) := e
                cases e
                refine ⟨?_, g7, f5 rfl⟩
                unfold emS
                rw [← g6]; rfl
              · have e : (Sum.inr (st2, 1) : PS ⊕ (PS × Nat)) = .inr (st', c) := e
                cases e
                exact absurd rfl hc
            | 2, _ =>
              subst f2
              refine ⟨fun st' e => (nomatch e), fun st' e => ?_, fun st' c e hc => ?_⟩
              · have e : (Sum.inr (st2, 2) : PS ⊕ (PS × Nat)) = .inr (st', 1) := e
                cases e
              · have e : (Sum.inr (st2, 2) : PS ⊕ (PS × Nat)) = .inr (st', c) := e
                cases e
                exact ⟨rfl, _, rfl, rfl⟩
            | c + 3, hc3 => exact absurd hc3 (by omega)
          · obtain ⟨f1, f2, f3, f4, f5⟩ := e2
            simp only [ansSB] at f1 f2 f3 f4 f5
            match c, f1 with
            | 0, _ =>
              obtain ⟨g1, g2, g3, g4, g5, g6, g7⟩ := f3 (by decide)
              subst g1 g2 g3 g4 g5 f2
              refine ⟨fun st' e => ?_, fun st' e => (nomatch e), fun st' c e => (nomatch e)⟩
              have e : (Sum.inl st2 : PS ⊕ (PS × Nat)) = .inl st' := e
              cases e
              refine ⟨?_, g7, f4 rfl⟩
              unfold emS
              rw [← g6]; rfl
            | 1, _ =>
              obtain ⟨g1, g2, g3, g4, g5, g6, g7⟩ := f3 (by decide)
              subst g1 g2 g3 g4 g5 f2
              refine ⟨fun st' e => (nomatch e), fun st' e => ?_, fun st' c e hc => ?_⟩
              · have e : (Sum.inr (st2, 1) : PS ⊕ (PS × Nat)) = .inr (st', 1) := e
                cases e
                refine ⟨?_, g7, f5 rfl⟩
                unfold emS
                rw [← g6]; rfl
              · have e : (Sum.inr (st2, 1) : PS ⊕ (PS × Nat)) = .inr (st', c) := e
                cases e
                exact absurd rfl hc
            | 2, _ =>
              subst f2
              refine ⟨fun st' e => (nomatch e), fun st' e => ?_, fun st' c e hc => ?_⟩
              · have e : (Sum.inr (st2, 2) : PS ⊕ (PS × Nat)) = .inr (st', 1) := e
                cases e
              · have e : (Sum.inr (st2, 2) : PS ⊕ (PS × Nat)) = .inr (st', c) := e
                cases e
                exact ⟨rfl, _, rfl, rfl⟩
            | c + 3, hc3 => exact absurd hc3 (by omega)
        · refine ⟨fun st' e => (nomatch e), fun st' e => (nomatch e), fun st' c e hc => ?_⟩
          cases e
          exact ⟨rfl, _, rfl, rfl⟩
      · simp only [cond_true]
        refine ⟨fun st' e => ?_, fun st' e => (nomatch e), fun st' c e => (nomatch e)⟩
        cases e
        refine ⟨?_, hst, hab⟩
        unfold emS; rw [hb]
end
theorem skipS {l : List Job} {Bd Bg : Int} {D : D_sl07Go} {tk : Int} {plan : List Slot} {free : List Int} {i : Nat} (hi : i < l.length) (hn : l.length ≤ 12) (htk : 0 ≤ tk) {st : PS} (hab : AB Bd st) : @f_sl07Go_a_st7 ⟨D⟩ (emS l Bd Bg tk plan free i st) = some (.inl (emS l Bd Bg tk plan free (i + 1) st)) := by
  cases hb : st.best with
  | none => rw [AB, hb] at hab; cases hab.1
  | some b =>
    have hem : ∀ i : Nat, emS l Bd Bg tk plan free i st = .inr (tk, tkn l tk, (i : Int), Bd, Bg, st.tr, st.len, true, l, plan, free, b) := fun i => by unfold emS; rw [hb]
    rw [hem, hem]
    show @f_sl07Go_a_n7b ⟨D⟩ tk (tkn l tk) (i : Int) Bd Bg st.tr st.len true l plan free b = _
    unfold f_sl07Go_a_n7b
    rw [lt_true hi, u64n (by omega), dlt0, toNat_nat, cond_true, cond_false, bit_condS htk hi, succ64 (by omega), beq_iff_eq.2 hab.2]
    cases ready l tk i <;> rfl
end Go.RR
