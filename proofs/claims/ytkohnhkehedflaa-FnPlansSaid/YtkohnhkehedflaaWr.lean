/- Plain facts of slots and plans; the plain laws of ValidSlots, FirstWrongSlot, LengthOfPlan and BusyOn. -/
import Derived.Test.YtkohnhkehedflaaWk
import Derived.Test.YtkohnhkehedflaaVq
set_option linter.unusedVariables false
set_option linter.unusedSimpArgs false
namespace Go.RR
open Go
abbrev Slot := Int × Int
abbrev SlotsOK (l : List Slot) : Prop := ∀ x ∈ l, (-128 ≤ x.1 ∧ x.1 ≤ 127) ∧ (-32768 ≤ x.2 ∧ x.2 ≤ 32767)
noncomputable def doneB (l : List Job) (p : List Slot) (k : Nat) : Int := IntKind.wrap .i64 (IntKind.wrap .i64 (p.getD k (0, 0)).2 + IntKind.wrap .i64 (l.getD k (0, 0)).1)
theorem sdone_eq {l : List Job} {p : List Slot} {k : Nat} (hk : k < l.length) (hk2 : k < p.length) : s_q1k l p k = some (doneB l p k) := by
 unfold s_q1k
 rw [inB_nat hk, inB_nat hk2, toNat_nat]; rfl
theorem len_beq (a b : Nat) : (((a : Nat) : Int) == ((b : Nat) : Int)) = decide (a = b) := by
 by_cases h : a = b
 ·subst h; simp
 ·rw [decide_eq_false h]
  exact beq_eq_false_iff_ne.2 (by omega)
theorem len_bne (a b : Nat) : (((a : Nat) : Int) != ((b : Nat) : Int)) = !decide (a = b) := by
 rw [← len_beq]; rfl
noncomputable def lenB (l : List Job) (p : List Slot) : Int := (List.range' 0 l.length).foldl (fun (m : Int) k => max m (doneB l p k)) 0
theorem slen_eq {l : List Job} {p : List Slot} (hn : l.length ≤ 12) (hp : p.length = l.length) : s_q0r l p = some (lenB l p) := by
 unfold s_q0r f_q0r_run3
 refine run_count (step := fun x => f_q0r_n3 x.1 x.2.1 x.2.2.1 x.2.2.2) l.length (fun i (m : Int) => (m, (i : Int), l, p)) (fun m k => max m (doneB l p k)) _ 0 (by omega) ?_ ?_
 ·intro i m hi
  show f_q0r_n3 m i l p = _
  unfold f_q0r_n3
  rw [lt_true hi, sdone_eq hi (by omega), succ64 (by omega), cond_true]
  simp only [Option.bind, max_eq]
 ·show f_q0r_n3 _ (l.length : Nat) l p = _
  unfold f_q0r_n3
  rw [lt_neg, cond_false]; rfl
end Go.RR
