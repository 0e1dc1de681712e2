/- The plain law of StonesAlong: stones along a path. -/
import Derived.Test.YtpcilcojfechaaaVc
import Derived.Test.YtpcilcojfechaaaFa
set_option linter.unusedVariables false
set_option linter.unusedSimpArgs false
namespace Go.RR
open Go

/-! ### marks in a row -/
/-! ### widths -/
theorem any_width (l : List Int) (hl : l.length ≤ 1000000) : s_gContainsFunc_int64_a l = some (l.any s_iisWidth_1) := by
  unfold s_gContainsFunc_int64_a s_gIndexFunc_int64_a f_gIndexFunc_int64_a_run2
  have hs1 : ∀ i, i < l.length → f_gIndexFunc_int64_a_n2 (l.length : Nat) i l = some (cond (s_iisWidth_1 (l.getD i 0)) (Sum.inr (i : Int)) (Sum.inl (((l.length : Nat) : Int), ((i + 1 : Nat) : Int), l))) := by
    intro i hi
    unfold f_gIndexFunc_int64_a_n2
    rw [lt_true hi, inB_nat hi, toNat_nat, succ64 (by omega)]
    simp only [cond_true]
    cases s_iisWidth_1 (l.getD i 0) <;> rfl
  have he1 : f_gIndexFunc_int64_a_n2 (l.length : Nat) (l.length : Nat) l = some (Sum.inr (-1)) := by
    unfold f_gIndexFunc_int64_a_n2
    rw [lt_neg, cond_false]
  obtain ⟨r, h1, h2, _⟩ := run_idx (step := fun x => f_gIndexFunc_int64_a_n2 x.1 x.2.1 x.2.2) l.length (fun i => (((l.length : Nat) : Int), (i : Int), l)) (fun i => s_iisWidth_1 (l.getD i 0)) hs1 he1 l.length 0 FU (by omega) (FU_big (pow_big (by omega)))
  have h1 : iter (fun x => f_gIndexFunc_int64_a_n2 x.1 x.2.1 x.2.2) FU (((l.length : Nat) : Int), 0, l) = some r := h1
  rw [h1]
  simp only [Option.bind]
  rw [h2, any_getD 0 l s_iisWidth_1]
/-! ### the stones of one part -/
theorem foldl_map' {α β : Type} (f : α → β) : ∀ (l : List α) (s : List β), l.foldl (fun s x => s ++ [f x]) s = s ++ l.map f
  | [], s => by simp
  | x :: l, s => by rw [List.foldl_cons, foldl_map' f l]; simp
/-! ### all parts -/
/-! ### the law -/
end Go.RR
