/- The search for a plan, as a plain recursion; the program's search answers as it does. -/
import Derived.Test.YtkohnhkehedflaaGa
set_option linter.unusedVariables false
set_option linter.unusedSimpArgs false
namespace Go.RR
open Go

structure PS where
  tr : Int
  len : Int
  best : Option (List Slot)
noncomputable def endB (l : List Job) (sl : Slot) (i : Nat) : Int := IntKind.wrap .i64 (IntKind.wrap .i64 sl.2 + IntKind.wrap .i64 (l.getD i (0, 0)).1)
section
variable (l : List Job) (Bd Bg : Int)
noncomputable def goStep (rec : Int → List Slot → List Int → Int → PS → PS × Nat) (tk : Int) (plan : List Slot) (free : List Int) (day : Int) (st : PS) (i : Nat) : PS ⊕ (PS × Nat) :=
  cond (ready l tk i) (cond (st.best.isSome && decide (endB l (slotB l plan free i) i ≥ st.len)) (.inl st)
    (cond (decide (st.tr + 1 > Bg)) (.inr (⟨st.tr + 1, st.len, st.best⟩, 2))
      (match rec (tkI tk i) (plan.set i (slotB l plan free i)) (free.set (slotB l plan free i).1.toNat (endB l (slotB l plan free i) i)) (max day (endB l (slotB l plan free i) i)) ⟨st.tr + 1, st.len, st.best⟩ with
        | (st', 0) => .inl st'
        | (st', c + 1) => .inr (st', c + 1)))) (.inl st)
noncomputable def go : Nat → Int → List Slot → List Int → Int → PS → PS × Nat
  | 0, _, _, _, _, st => (st, 0)
  | k + 1, tk, plan, free, day, st => cond (tk == fullB l.length) (⟨st.tr, day, some plan⟩, cond (day == Bd) 1 0)
      (match exitL (goStep l Bg (go k) tk plan free day) st (List.range' 0 l.length) with
        | .inl st' => (st', 0)
        | .inr r => r)
end
/-- What is known of a state of the search. -/
structure OKst (n : Nat) (Bg : Int) (st : PS) : Prop where
  tr : 0 ≤ st.tr ∧ st.tr ≤ Bg
  best : ∀ b, st.best = some b → b.length = n
structure OKin (l : List Job) (tk : Int) (plan : List Slot) (free : List Int) : Prop where
  tk : TkOK l.length tk
  plan : plan.length = l.length
  free : 1 ≤ free.length ∧ free.length ≤ 4
theorem OKin.step {l : List Job} {tk : Int} {plan : List Slot} {free : List Int} (h : OKin l tk plan free) (hn : l.length ≤ 12) {i : Nat} (hi : i < l.length) (sl : Slot) (x : Nat) (e : Int) : OKin l (tkI tk i) (plan.set i sl) (free.set x e) :=
  ⟨(tkI_ok h.tk hi hn).1, by rw [List.length_set]; exact h.plan, by rw [List.length_set]; exact h.free⟩

/-! ### Answers -/
structure Ans where
  ret : Bool
  tk : Int
  len : Int
  bd : Int
  tr : Int
  bg : Int
  ov : Bool
  plan : List Slot
  free : List Int
  best : Option (List Slot)
abbrev TA1 := Bool × Int × Int × Int × Int × Int × Bool × List Slot × List Int
abbrev TA2 := Bool × Int × Int × Int × Int × Int × Bool × List Slot × List Int × List Slot
abbrev TB2 := Bool × Int × Int × Int × Int × Int × Bool × List Slot × List Int × List Slot × List Slot
def ansA : TA1 ⊕ TA2 → Ans
  | .inl r => ⟨r.1, r.2.1, r.2.2.1, r.2.2.2.1, r.2.2.2.2.1, r.2.2.2.2.2.1, r.2.2.2.2.2.2.1, r.2.2.2.2.2.2.2.1, r.2.2.2.2.2.2.2.2, none⟩
  | .inr r => ⟨r.1, r.2.1, r.2.2.1, r.2.2.2.1, r.2.2.2.2.1, r.2.2.2.2.2.1, r.2.2.2.2.2.2.1, r.2.2.2.2.2.2.2.1, r.2.2.2.2.2.2.2.2.1, some r.2.2.2.2.2.2.2.2.2⟩
def ansB : TA2 ⊕ TB2 → Ans
  | .inl r => ⟨r.1, r.2.1, r.2.2.1, r.2.2.2.1, r.2.2.2.2.1, r.2.2.2.2.2.1, r.2.2.2.2.2.2.1, r.2.2.2.2.2.2.2.1, r.2.2.2.2.2.2.2.2.1, some r.2.2.2.2.2.2.2.2.2⟩
  | .inr r => ⟨r.1, r.2.1, r.2.2.1, r.2.2.2.1, r.2.2.2.2.1, r.2.2.2.2.2.1, r.2.2.2.2.2.2.1, r.2.2.2.2.2.2.2.1, r.2.2.2.2.2.2.2.2.1, some r.2.2.2.2.2.2.2.2.2.2⟩
/-- The answer is the plain recursion's; what was taken is as it was, if the search goes on. -/
structure IsAns (n : Nat) (Bd Bg : Int) (tk : Int) (plan : List Slot) (free : List Int) (r : PS × Nat) (o : Ans) : Prop where
  ret : o.ret = decide (r.2 ≠ 0)
  len : o.len = r.1.len
  bd : o.bd = Bd
  tr : o.tr = r.1.tr
  bg : o.bg = Bg
  ov : o.ov = decide (r.2 = 2)
  best : o.best = r.1.best
  back : r.2 = 0 → o.tk = tk ∧ o.plan = plan ∧ o.free = free
  ok : r.2 ≠ 2 → OKst n Bg r.1
/-- A search of some depth is answered by the plain recursion. -/
structure LookOK (l : List Job) (Bd Bg : Int) (k : Nat) (D : D_ifinder_look) : Prop where
  a : ∀ tk plan free day st, OKin l tk plan free → OKst l.length Bg st → cntR tk 0 l.length < k → st.best = none →
    ∃ r, D.a day tk st.len Bd st.tr Bg false l plan free = some r ∧ IsAns l.length Bd Bg tk plan free (go l Bd Bg k tk plan free day st) (ansA r)
  b : ∀ tk plan free day st b, OKin l tk plan free → OKst l.length Bg st → cntR tk 0 l.length < k → st.best = some b →
    ∃ r, D.b day tk st.len Bd st.tr Bg false l plan free b = some r ∧ IsAns l.length Bd Bg tk plan free (go l Bd Bg k tk plan free day st) (ansB r)
end Go.RR
