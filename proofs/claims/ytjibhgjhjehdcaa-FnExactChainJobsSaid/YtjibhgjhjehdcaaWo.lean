/- The plain law of ChainJobs. -/
import Derived.Test.YtjibhgjhjehdcaaWl
import Derived.Test.YtjibhgjhjehdcaaVh
set_option linter.unusedVariables false
set_option linter.unusedSimpArgs false
namespace Go.RR
open Go

theorem in_idx {l : List Job} (hn : l.length ≤ 1000000) {a : Int} (hr : s_sl00In a 0 (IntKind.wrap .i64 (((l.length : Nat) : Int) - 1)) = true) : ∃ q : Nat, a = (q : Int) ∧ q < l.length := by
  unfold s_sl00In at hr
  rw [IntWalk.i64_in (((l.length : Nat) : Int) - 1) (by omega)] at hr
  cases h3 : decide (a ≥ 0)
  · rw [h3] at hr; cases hr
  · rw [h3] at hr
    have a1 := of_decide_eq_true h3
    have a2 := of_decide_eq_true hr
    exact ⟨a.toNat, (Int.toNat_of_nonneg a1).symm, by omega⟩
noncomputable def chainL (l : List Job) (q p : Nat) : List Job := l.set p ((l.getD p (0, 0)).1, bOr .u16 (l.getD p (0, 0)).2 (bShl .u16 1 (q : Int)))
theorem law_ChainJobs {l : List Job} {a b : Int} (hlm : l.length ≤ maxLen) (hj : ∀ x ∈ l, (-128 ≤ x.1 ∧ x.1 ≤ 127) ∧ (0 ≤ x.2 ∧ x.2 ≤ 65535)) (ha : IntKind.i64.min ≤ a ∧ a ≤ IntKind.i64.max) (hb : IntKind.i64.min ≤ b ∧ b ≤ IntKind.i64.max) : s_wFnExactChainJobs l a b = some true := by
  unfold s_wFnExactChainJobs
  rcases szJobs hlm with ⟨_, h⟩ | ⟨hl, h⟩
  · rw [h]; rfl
  rw [h, cond_false, toJobs (by omega)]
  have key : ∃ v : List Job × Int, s_sChainJobs l a b = some v ∧ s_iChainJobs l a b = some v ∧ v.1.length ≤ 1000000 := by
    unfold s_sChainJobs s_iChainJobs s_sl07Job
    rw [sok_eq l (by omega), iok_eq l (by omega)]
    have e : ∀ a, s_iwithin a 0 (IntKind.wrap .i64 (((l.length : Nat) : Int) - 1)) = s_sl00In a 0 (IntKind.wrap .i64 (((l.length : Nat) : Int) - 1)) := fun a => rfl
    rw [e, e]
    simp only [Option.bind]
    cases hv : validB l
    · cases hr : s_sl00In a 0 (IntKind.wrap .i64 (((l.length : Nat) : Int) - 1)) <;>
      exact ⟨([], 1), rfl, rfl, by simp⟩
    · obtain ⟨h1, _⟩ := valid_ord hv
      cases hr : s_sl00In a 0 (IntKind.wrap .i64 (((l.length : Nat) : Int) - 1))
      · exact ⟨([], 2), rfl, rfl, by simp⟩
      · cases hr2 : s_sl00In b 0 (IntKind.wrap .i64 (((l.length : Nat) : Int) - 1))
        · exact ⟨([], 2), rfl, rfl, by simp⟩
        · obtain ⟨q, rfl, hq⟩ := in_idx (by omega) hr
          obtain ⟨p, rfl, hp⟩ := in_idx (by omega) hr2
          have hc : s_gClone_Job l = some l := by
            unfold s_gClone_Job
            rw [blt_true (by omega), fits_small (by simp; omega)]
            rfl
          have hlen : (chainL l q p).length = l.length := by simp [chainL]
          refine ⟨cond (validB (chainL l q p)) (chainL l q p, 0) ([], 4), ?_, ?_, ?_⟩
          · rw [fits_small (by simp; omega)]
            have hok := sok_eq (chainL l q p) (by omega)
            unfold chainL at hok ⊢
            simp only [List.nil_append, toNat_nat, inB_nat hp, u64n (k := q) (by omega), dlt0, cond_true, cond_false, Bool.not_true, hok, show ((0 : Int) == 0) = true from rfl, show ((0 : Int) != 0) = false from rfl]
            cases validB (l.set p ((l.getD p (0, 0)).1, bOr .u16 (l.getD p (0, 0)).2 (bShl .u16 1 (q : Int)))) <;> rfl
          · have hok := iok_eq (chainL l q p) (by omega)
            have hcd : (s_icodeOf true true != 0) = false := rfl
            unfold chainL at hok ⊢
            simp only [hc, hcd, toNat_nat, inB_nat hp, dlt0, cond_true, cond_false, hok]
            cases validB (l.set p ((l.getD p (0, 0)).1, bOr .u16 (l.getD p (0, 0)).2 (bShl .u16 1 (q : Int)))) <;> rfl
          · cases validB (chainL l q p)
            · simp
            · show (chainL l q p).length ≤ 1000000
              omega
  obtain ⟨v, e1, e2, hlv⟩ := key
  obtain ⟨m, e3, e4⟩ := markJobs (l := l) (by omega)
  have e5 : decide (((1 + 2 * v.1.length : Nat) : Int) < 0) = false := decide_eq_false (by omega)
  simp only [Option.bind, e1, e2, e3, e4, eqJobs (l := v.1) (by omega), eqJobs (l := l) (by omega), markJobs_eq (l := v.1) hlv, heldJobs_eq v.1.length hlv, e5]
  simp
end Go.RR
