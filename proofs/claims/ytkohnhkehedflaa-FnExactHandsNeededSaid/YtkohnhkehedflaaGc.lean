/- The program's search for a plan: one round. -/
import Derived.Test.YtkohnhkehedflaaGb
set_option linter.unusedVariables false
set_option linter.unusedSimpArgs false
namespace Go.RR
open Go

abbrev SA := Int × Int × Int × Int × Int × Int × Int × Int × Bool × List Job × List Slot × List Int
abbrev SB := Int × Int × Int × Int × Int × Int × Int × Int × Bool × List Job × List Slot × List Int × List Slot
abbrev SC := Int × Int × Int × Int × Int × Int × Int × Int × Bool × List Job × List Slot × List Int × List Slot × List Slot
theorem half {x : Int} : x % 2 = 0 ∨ x % 2 = 1 := by omega
theorem bit_cond {l : List Job} {tk : Int} (h0 : 0 ≤ tk) {i : Nat} {α : Type} (a b : α) : (cond ((bAnd .u16 (bShr .u16 tk (i : Int)) 1) == 1) a (cond ((bAndNot .u16 (l.getD i ((0, 0) : Int × Int)).2 tk) != 0) a b)) = cond (ready l tk i) b a := by
  rw [and1 (shr_range h0).1]
  unfold ready
  rcases half (x := bShr .u16 tk (i : Int)) with h | h
  · rw [h]
    simp only [show ((0 : Int) == 1) = false from rfl, show ((0 : Int) == 0) = true from rfl, cond_false, cond_true]
    by_cases hz : bAndNot .u16 (l.getD i ((0, 0) : Int × Int)).2 tk = 0
    · rw [hz]; rfl
    · have e1 : (bAndNot .u16 (l.getD i ((0, 0) : Int × Int)).2 tk != 0) = true := by simpa using hz
      have e2 : (bAndNot .u16 (l.getD i ((0, 0) : Int × Int)).2 tk == 0) = false := by simpa using hz
      rw [e1, e2]; rfl
  · rw [h]
    rfl
theorem set_back {α : Type} {p : List α} {i : Nat} {x : α} (d : α) (h : i < p.length) : (p.set i x).set i (p.getD i d) = p := by
  rw [List.set_set, List.getD_eq_getElem?_getD, List.getElem?_eq_getElem h]
  exact List.set_getElem_self h
section
variable {l : List Job} {Bd Bg : Int} (hj : JobsOK l) (hn : l.length ≤ 12) (hB : Bg ≤ 20000) {k : Nat} {D : D_ifinder_look} (hD : LookOK l Bd Bg k D)
variable {tk : Int} {plan : List Slot} {free : List Int} {day : Int} (hI : OKin l tk plan free) (hc : cntR tk 0 l.length ≤ k)
def emA (l : List Job) (Bd Bg tk : Int) (plan : List Slot) (free : List Int) (day : Int) (i : Nat) (st : PS) : SA ⊕ SB := match st.best with
  | none => .inl (day, ((l.length : Nat) : Int), (i : Int), tk, st.len, Bd, st.tr, Bg, false, l, plan, free)
  | some b => .inr (day, ((l.length : Nat) : Int), (i : Int), tk, st.len, Bd, st.tr, Bg, false, l, plan, free, b)
include hj hn hB hD hI hc
theorem stepA {i : Nat} (hi : i < l.length) {st : PS} (hst : OKst l.length Bg st) :
    (∀ st', goStep l Bg (go l Bd Bg k) tk plan free day st i = .inl st' → @f_ifinder_look_a_st5 ⟨D⟩ (emA l Bd Bg tk plan free day i st) = some (.inl (emA l Bd Bg tk plan free day (i + 1) st')) ∧ OKst l.length Bg st') ∧
    (∀ r, goStep l Bg (go l Bd Bg k) tk plan free day st i = .inr r → ∃ o, @f_ifinder_look_a_st5 ⟨D⟩ (emA l Bd Bg tk plan free day i st) = some (.inr o) ∧ IsAns l.length Bd Bg tk plan free r (ansA o)) := by
  have htk := hI.tk.rng
  have hd0 : decide ((i : Int) < 0) = false := decide_eq_false (by omega)
  have hslot := islot_eq hj hn hI.plan hi hI.free
  obtain ⟨h, hh1, hh2⟩ := slot_hand (l := l) (p := plan) (fr := free) (i := i) hI.free
  have hinh : inB (slotB l plan free i).1 free.length = true := by rw [hh2]; exact inB_nat hh1
  have hpl : i < plan.length := by rw [hI.plan]; exact hi
  have htr := hst.tr
  cases hb : st.best with
  | none =>
    have hem : emA l Bd Bg tk plan free day i st = .inl (day, ((l.length : Nat) : Int), (i : Int), tk, st.len, Bd, st.tr, Bg, false, l, plan, free) := by unfold emA; rw [hb]
    have hstep : @f_ifinder_look_a_st5 ⟨D⟩ (emA l Bd Bg tk plan free day i st) = @f_ifinder_look_a_n5 ⟨D⟩ day ((l.length : Nat) : Int) (i : Int) tk st.len Bd st.tr Bg false l plan free := by rw [hem]; rfl
    rw [hstep]
    unfold f_ifinder_look_a_n5 goStep
    rw [lt_true hi, inB_nat hi, hd0, toNat_nat, cond_true, cond_true, cond_false, bit_cond htk.1, succ64 (by omega)]
    cases hr : ready l tk i
    · simp only [cond_false]
      refine ⟨fun st' e => ?_, fun r e => nomatch e⟩
      cases e
      refine ⟨?_, hst⟩
      unfold emA; rw [hb]
    · simp only [cond_true]
      rw [hslot, hb, IntWalk.i64_in (st.tr + 1) (by omega)]
      simp only [Option.bind, Option.isSome, Bool.false_and, cond_false, hinh, inB_nat hpl, cond_true]
      cases hov : decide (st.tr + 1 > Bg)
      · simp only [cond_false]
        have hov' := of_decide_eq_false hov
        have hready := ready_bit (l := l) htk.1 (show i < 16 by omega) hr
        have hst1 : OKst l.length Bg ⟨st.tr + 1, st.len, none⟩ := ⟨by show 0 ≤ st.tr + 1 ∧ st.tr + 1 ≤ Bg; omega, fun b e => nomatch e⟩
        have hI1 := hI.step hn hi (slotB l plan free i) (slotB l plan free i).1.toNat (endB l (slotB l plan free i) i)
        have hc1 : cntR (tkI tk i) 0 l.length < k := by
          have := cnt_step (tkI_ok hI.tk hi hn).2 hready l.length 0 (Nat.zero_le _) (by omega)
          omega
        obtain ⟨r, e1, e2⟩ := hD.a _ _ _ (max day (endB l (slotB l plan free i) i)) _ hI1 hst1 hc1 rfl
        have e1 : D.a (max day (s_idone (l.getD i ((0, 0) : Int × Int)).1 (l.getD i ((0, 0) : Int × Int)).2 (slotB l plan free i).1 (slotB l plan free i).2)) (bOr .u16 tk (bShl .u16 1 (i : Int))) st.len Bd (st.tr + 1) Bg false l (plan.set i ((slotB l plan free i).1, (slotB l plan free i).2)) (free.set (slotB l plan free i).1.toNat (s_idone (l.getD i ((0, 0) : Int × Int)).1 (l.getD i ((0, 0) : Int × Int)).2 (slotB l plan free i).1 (slotB l plan free i).2)) = some r := e1
        rw [e1]
        generalize hg : go l Bd Bg k (tkI tk i) (plan.set i (slotB l plan free i)) (free.set (slotB l plan free i).1.toNat (endB l (slotB l plan free i) i)) (max day (endB l (slotB l plan free i) i)) ⟨st.tr + 1, st.len, none⟩ = g at e2
        obtain ⟨st2, c⟩ := g
        rcases r with ⟨ret, tk', len', bd', tr', bg', ov', plan', free'⟩ | ⟨ret, tk', len', bd', tr', bg', ov', plan', free', best'⟩
        · obtain ⟨f1, f2, f3, f4, f5, f6, f7, f8, f9⟩ := e2
          simp only [ansA] at f1 f2 f3 f4 f5 f6 f7 f8
          subst f1 f2 f3 f4 f5 f6
          cases c with
          | zero =>
            obtain ⟨g1, g2, g3⟩ := f8 rfl
            subst g1 g2 g3
            refine ⟨fun st' e => ?_, fun r e => nomatch e⟩
            have e : (Sum.inl st2 : PS ⊕ (PS × Nat)) = .inl st' := e
            cases e
            refine ⟨?_, f9 (by simp)⟩
            simp only [bind2, show decide ((0 : Nat) ≠ 0) = false from rfl, cond_false, List.length_set, inB_nat hpl, hinh, cond_true, hd0]
            rw [tk_back hI.tk hi hn hready, hh2, toNat_nat, set_back (0 : Int) hh1]
            rw [show (plan.set i ((slotB l plan free i))).set i ((plan.getD i ((0, 0) : Int × Int)).1, (plan.getD i ((0, 0) : Int × Int)).2) = plan from set_back ((0, 0) : Int × Int) hpl]
            unfold emA
            rw [← f7]; rfl
          | succ c =>
            refine ⟨fun st' e => (nomatch e), fun r e => ?_⟩
            have e : (Sum.inr (st2, c + 1) : PS ⊕ (PS × Nat)) = .inr r := e
            cases e
            exact Exists.intro _ (And.intro rfl (IsAns.mk rfl rfl rfl rfl rfl rfl f7 (fun h => absurd h (Nat.succ_ne_zero c)) f9))
        · obtain ⟨f1, f2, f3, f4, f5, f6, f7, f8, f9⟩ := e2
          simp only [ansA] at f1 f2 f3 f4 f5 f6 f7 f8
          subst f1 f2 f3 f4 f5 f6
          cases c with
          | zero =>
            obtain ⟨g1, g2, g3⟩ := f8 rfl
            subst g1 g2 g3
            refine ⟨fun st' e => ?_, fun r e => nomatch e⟩
            have e : (Sum.inl st2 : PS ⊕ (PS × Nat)) = .inl st' := e
            cases e
            refine ⟨?_, f9 (by simp)⟩
            simp only [bind2, show decide ((0 : Nat) ≠ 0) = false from rfl, cond_false, List.length_set, inB_nat hpl, hinh, cond_true, hd0]
            rw [tk_back hI.tk hi hn hready, hh2, toNat_nat, set_back (0 : Int) hh1]
            rw [show (plan.set i ((slotB l plan free i))).set i ((plan.getD i ((0, 0) : Int × Int)).1, (plan.getD i ((0, 0) : Int × Int)).2) = plan from set_back ((0, 0) : Int × Int) hpl]
            unfold emA
            rw [← f7]; rfl
          | succ c =>
            refine ⟨fun st' e => (nomatch e), fun r e => ?_⟩
            have e : (Sum.inr (st2, c + 1) : PS ⊕ (PS × Nat)) = .inr r := e
            cases e
            exact Exists.intro _ (And.intro rfl (IsAns.mk rfl rfl rfl rfl rfl rfl f7 (fun h => absurd h (Nat.succ_ne_zero c)) f9))
      · simp only [cond_true]
        refine ⟨fun st' e => (nomatch e), fun r e => ?_⟩
        cases e
        exact Exists.intro _ (And.intro rfl (IsAns.mk rfl rfl rfl rfl rfl rfl rfl (fun h => absurd h (show ¬ (2 : Nat) = 0 by decide)) (fun h => absurd rfl h)))
  | some b =>
    have hem : emA l Bd Bg tk plan free day i st = .inr (day, ((l.length : Nat) : Int), (i : Int), tk, st.len, Bd, st.tr, Bg, false, l, plan, free, b) := by unfold emA; rw [hb]
    have hstep : @f_ifinder_look_a_st5 ⟨D⟩ (emA l Bd Bg tk plan free day i st) = @f_ifinder_look_a_n5b ⟨D⟩ day ((l.length : Nat) : Int) (i : Int) tk st.len Bd st.tr Bg false l plan free b := by rw [hem]; rfl
    rw [hstep]
    unfold f_ifinder_look_a_n5b goStep
    rw [lt_true hi, inB_nat hi, hd0, toNat_nat, cond_true, cond_true, cond_false, bit_cond htk.1, succ64 (by omega)]
    cases hr : ready l tk i
    · simp only [cond_false]
      refine ⟨fun st' e => ?_, fun r e => nomatch e⟩
      cases e
      refine ⟨?_, hst⟩
      unfold emA; rw [hb]
    · simp only [cond_true]
      rw [hslot, hb, IntWalk.i64_in (st.tr + 1) (by omega)]
      have hid : s_idone (l.getD i ((0, 0) : Int × Int)).1 (l.getD i ((0, 0) : Int × Int)).2 (slotB l plan free i).1 (slotB l plan free i).2 = endB l (slotB l plan free i) i := rfl
      have hbl : Nat.blt 0 b.length = true := Nat.ble_eq_true_of_le (by have := hst.best b hb; omega)
      simp only [Option.bind, Option.isSome, Bool.true_and, hid, hbl, hinh, inB_nat hpl, cond_true]
      cases hpr : decide (endB l (slotB l plan free i) i ≥ st.len)
      · simp only [cond_false]
        cases hov : decide (st.tr + 1 > Bg)
        · simp only [cond_false]
          have hov' := of_decide_eq_false hov
          have hready := ready_bit (l := l) htk.1 (show i < 16 by omega) hr
          have hst1 : OKst l.length Bg ⟨st.tr + 1, st.len, some b⟩ := ⟨by show 0 ≤ st.tr + 1 ∧ st.tr + 1 ≤ Bg; omega, fun b' e => by cases e; exact hst.best b hb⟩
          have hI1 := hI.step hn hi (slotB l plan free i) (slotB l plan free i).1.toNat (endB l (slotB l plan free i) i)
          have hc1 : cntR (tkI tk i) 0 l.length < k := by
            have := cnt_step (tkI_ok hI.tk hi hn).2 hready l.length 0 (Nat.zero_le _) (by omega)
            omega
          obtain ⟨r, e1, e2⟩ := hD.b _ _ _ (max day (endB l (slotB l plan free i) i)) _ b hI1 hst1 hc1 rfl
          have e1 : D.b (max day (endB l (slotB l plan free i) i)) (bOr .u16 tk (bShl .u16 1 (i : Int))) st.len Bd (st.tr + 1) Bg false l (plan.set i ((slotB l plan free i).1, (slotB l plan free i).2)) (free.set (slotB l plan free i).1.toNat (endB l (slotB l plan free i) i)) b = some r := e1
          rw [e1]
          generalize hg : go l Bd Bg k (tkI tk i) (plan.set i (slotB l plan free i)) (free.set (slotB l plan free i).1.toNat (endB l (slotB l plan free i) i)) (max day (endB l (slotB l plan free i) i)) ⟨st.tr + 1, st.len, some b⟩ = g at e2
          obtain ⟨st2, c⟩ := g
          rcases r with ⟨ret, tk', len', bd', tr', bg', ov', plan', free', best'⟩ | ⟨ret, tk', len', bd', tr', bg', ov', plan', free', old', best'⟩
          · obtain ⟨f1, f2, f3, f4, f5, f6, f7, f8, f9⟩ := e2
            simp only [ansB] at f1 f2 f3 f4 f5 f6 f7 f8
            subst f1 f2 f3 f4 f5 f6
            cases c with
            | zero =>
              obtain ⟨g1, g2, g3⟩ := f8 rfl
              subst g1 g2 g3
              refine ⟨fun st' e => ?_, fun r e => nomatch e⟩
              have e : (Sum.inl st2 : PS ⊕ (PS × Nat)) = .inl st' := e
              cases e
              refine ⟨?_, f9 (by simp)⟩
              simp only [bind2, show decide ((0 : Nat) ≠ 0) = false from rfl, cond_false, List.length_set, inB_nat hpl, hinh, cond_true, hd0]
              rw [tk_back hI.tk hi hn hready, hh2, toNat_nat, set_back (0 : Int) hh1]
              rw [show (plan.set i ((slotB l plan free i))).set i ((plan.getD i ((0, 0) : Int × Int)).1, (plan.getD i ((0, 0) : Int × Int)).2) = plan from set_back ((0, 0) : Int × Int) hpl]
              unfold emA
              rw [← f7]; rfl
            | succ c =>
              refine ⟨fun st' e => (nomatch e), fun r e => ?_⟩
              have e : (Sum.inr (st2, c + 1) : PS ⊕ (PS × Nat)) = .inr r := e
              cases e
              exact Exists.intro _ (And.intro rfl (IsAns.mk rfl rfl rfl rfl rfl rfl f7 (fun h => absurd h (Nat.succ_ne_zero c)) f9))
          · obtain ⟨f1, f2, f3, f4, f5, f6, f7, f8, f9⟩ := e2
            simp only [ansB] at f1 f2 f3 f4 f5 f6 f7 f8
            subst f1 f2 f3 f4 f5 f6
            cases c with
            | zero =>
              obtain ⟨g1, g2, g3⟩ := f8 rfl
              subst g1 g2 g3
              refine ⟨fun st' e => ?_, fun r e => nomatch e⟩
              have e : (Sum.inl st2 : PS ⊕ (PS × Nat)) = .inl st' := e
              cases e
              refine ⟨?_, f9 (by simp)⟩
              simp only [bind2, show decide ((0 : Nat) ≠ 0) = false from rfl, cond_false, List.length_set, inB_nat hpl, hinh, cond_true, hd0]
              rw [tk_back hI.tk hi hn hready, hh2, toNat_nat, set_back (0 : Int) hh1]
              rw [show (plan.set i ((slotB l plan free i))).set i ((plan.getD i ((0, 0) : Int × Int)).1, (plan.getD i ((0, 0) : Int × Int)).2) = plan from set_back ((0, 0) : Int × Int) hpl]
              unfold emA
              rw [← f7]; rfl
            | succ c =>
              refine ⟨fun st' e => (nomatch e), fun r e => ?_⟩
              have e : (Sum.inr (st2, c + 1) : PS ⊕ (PS × Nat)) = .inr r := e
              cases e
              exact Exists.intro _ (And.intro rfl (IsAns.mk rfl rfl rfl rfl rfl rfl f7 (fun h => absurd h (Nat.succ_ne_zero c)) f9))
        · simp only [cond_true]
          refine ⟨fun st' e => (nomatch e), fun r e => ?_⟩
          cases e
          exact Exists.intro _ (And.intro rfl (IsAns.mk rfl rfl rfl rfl rfl rfl rfl (fun h => absurd h (show ¬ (2 : Nat) = 0 by decide)) (fun h => absurd rfl h)))
      · simp only [cond_true]
        refine ⟨fun st' e => ?_, fun r e => (nomatch e)⟩
        cases e
        refine ⟨?_, hst⟩
        unfold emA; rw [hb]
end
end Go.RR
