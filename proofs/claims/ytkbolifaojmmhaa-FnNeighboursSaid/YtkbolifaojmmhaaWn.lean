/- The plain law of VoteOf. -/
import Derived.Test.YtkbolifaojmmhaaWf
import Derived.Test.YtkbolifaojmmhaaVi
set_option linter.unusedVariables false
set_option linter.unusedSimpArgs false
namespace Go.RR
open Go

noncomputable def cntStep (cnt : Nat → Int) (c : Int) : Nat → Int := upd cnt c.toNat (IntKind.wrap .i64 (cnt c.toNat + 1))
noncomputable def bestStep (a : Nat → Int) (st : Int) (i : Nat) : Int := cond (decide (a i > 0)) (cond (st == 0) (i : Int) (cond (decide (a i > a st.toNat)) (i : Int) st)) st
noncomputable def mostB (a : Nat → Int) : Int := IntKind.wrap .u8 ((List.range' 1 15).foldl (bestStep a) 0)
theorem lt16 {i : Nat} (h : i < 16) : decide ((i : Int) < 16) = true := lt_true (n := 16) h
theorem bestStep_range {a : Nat → Int} {st : Int} {i : Nat} (h : 0 ≤ st ∧ st < 16) (hi : i < 16) : 0 ≤ bestStep a st i ∧ bestStep a st i < 16 := by
  have q : 0 ≤ (i : Int) ∧ (i : Int) < 16 := by omega
  unfold bestStep
  cases decide (a i > 0)
  · exact h
  · cases st == 0
    · cases decide (a i > a st.toNat)
      · exact h
      · exact q
    · exact q
theorem most_eq (a : Nat → Int) : s_sl06Most a = some (mostB a) := by
  unfold s_sl06Most f_sl06Most_run3
  refine iter_countI (fun x => f_sl06Most_n3 x.1 x.2.1 x.2.2) 16 (fun i (st : Int) => (st, (i : Int), a)) (bestStep a) (fun _ st => 0 ≤ st ∧ st < 16) _ ?_ 15 1 FU (by omega) (FU_big (pow_big (by omega))) 0 (by omega) ?_
  · intro i st hi hI
    refine ⟨?_, bestStep_range hI hi⟩
    show f_sl06Most_n3 st i a = _
    unfold f_sl06Most_n3 bestStep
    rw [lt16 hi, inB_nat hi, toNat_nat, inB_of (x := st) (n := 16) (by omega), succ64 (by omega)]
    simp only [cond_true]
    cases decide (a i > 0)
    · rfl
    · cases st == 0
      · cases decide (a i > a st.toNat) <;> rfl
      · rfl
  · intro _
    show f_sl06Most_n3 _ (16 : Nat) a = _
    unfold f_sl06Most_n3
    rfl
theorem imost_eq {l : List Int} (hn : l.length ≤ 12) (hb : ∀ x ∈ l, 0 ≤ x ∧ x < 16) : s_imost l = some (mostB (l.foldl cntStep zF)) := by
  unfold s_imost f_imost_run3
  refine run_list (0 : Int) l (fun i (cnt : Nat → Int) => (0, ((l.length : Nat) : Int), (i : Int), cnt, l)) cntStep _ zF (by omega) ?_ ?_
  · intro i cnt hi hm
    have hx := hb _ hm
    show f_imost_n3 0 (l.length : Nat) i cnt l = _
    unfold f_imost_n3 cntStep
    rw [lt_true hi, inB_nat hi, toNat_nat, inB_of (x := l.getD i 0) (n := 16) (by omega), succ64 (by omega)]
    rfl
  · show f_imost_n3 0 (l.length : Nat) (l.length : Nat) (l.foldl cntStep zF) l = _
    unfold f_imost_n3
    rw [lt_neg, cond_false]
    have e : f_imost_run8 (0, 1, l.foldl cntStep zF) = s_sl06Most (l.foldl cntStep zF) := rfl
    rw [e, most_eq]
    rfl
end Go.RR
