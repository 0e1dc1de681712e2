/- The plain laws of Agreement and StonesNeeded. -/
import Derived.Test.YtmbjjahfjbhbcaaXc
set_option linter.unusedVariables false
set_option linter.unusedSimpArgs false
namespace Go.RR
open Go

noncomputable def agree (f g : Nat → Int) : Int × Int := (List.range' 0 144).foldl (fun st (i : Nat) => cond (f i == 0) st (cond (g i == 0) st (cond (f i == g i) (IntKind.wrap .i64 (st.1 + 1), st.2) (st.1, IntKind.wrap .i64 (st.2 + 1))))) (0, 0)
theorem s73_eq (w h : Int) (f : Nat → Int) (w2 h2 : Int) (g : Nat → Int) : s73 w h f w2 h2 g = some (agree f g) := by
  unfold s73 f73_run4
  refine run_count 144 (fun i (st : Int × Int) => (st.1, st.2, (i : Int), w, h, f, w2, h2, g)) (fun st (i : Nat) => cond (f i == 0) st (cond (g i == 0) st (cond (f i == g i) (IntKind.wrap .i64 (st.1 + 1), st.2) (st.1, IntKind.wrap .i64 (st.2 + 1))))) (agree f g) (0, 0) (by decide) ?_ ?_
  · intro i st hi
    unfold f73_n4
    rw [lt144 hi, inB_nat hi, succ64 (by omega)]
    simp only [cond_true, toNat_nat]
    cases f i == 0
    · cases g i == 0
      · cases f i == g i <;> rfl
      · rfl
    · rfl
  · unfold f73_n4
    rw [end144, cond_false]
    rfl
theorem s74_eq (w h : Int) (f : Nat → Int) (w2 h2 : Int) (g : Nat → Int) : s74 w h f w2 h2 g = some (agree f g) := by
  unfold s74 f74_run3
  refine run_count 144 (fun i (st : Int × Int) => (st.1, st.2, f, (i : Int), w2, h2, g)) (fun st (i : Nat) => cond (f i == 0) st (cond (g i == 0) st (cond (f i == g i) (IntKind.wrap .i64 (st.1 + 1), st.2) (st.1, IntKind.wrap .i64 (st.2 + 1))))) (agree f g) (0, 0) (by decide) ?_ ?_
  · intro i st hi
    unfold f74_n3
    rw [lt144 hi, inB_nat hi, succ64 (by omega)]
    simp only [cond_true, toNat_nat]
    cases f i == 0
    · cases g i == 0
      · cases f i == g i <;> rfl
      · rfl
    · rfl
  · unfold f74_n3
    rw [end144, cond_false]
    rfl
theorem law10 {w h : Int} {f : Nat → Int} {w2 h2 : Int} {g : Nat → Int} (hw : I8 w) (hh : I8 h) (hf : U8 f) (hw2 : I8 w2) (hh2 : I8 h2) (hg : U8 g) : s10 w h f w2 h2 g = some true := by
  unfold s10 s16 s37 s38
  rw [s71_two, s72_two _ _ ⟨hw, hh⟩ ⟨hw2, hh2⟩, s73_eq, s74_eq]
  simp only [Option.bind]
  cases codeTwo (w, h, s51 f) (w2, h2, s51 g) != 0 <;> simp

noncomputable def needed (f g : Nat → Int) : Nat → Int := (List.range' 0 144).foldl (fun st (i : Nat) => cond (f i == 0) (cond (g i != 0) (upd st (Int.toNat (g i)) (IntKind.wrap .i64 (st (Int.toNat (g i)) + 1))) st) st) zF
theorem s36_same (a : Nat → Int) : s36 a a = some true := by
  unfold s36 f36_run2
  have h := run_all (step := fun x => f36_n2 x.1 x.2.1 x.2.2) 16 (fun i => ((i : Int), a, a)) (fun i => true) true false (by decide) ?_ ?_
  · exact h.trans (by simp)
  · intro i hi
    show f36_n2 i a a = _
    unfold f36_n2
    rw [show decide ((i : Int) < 16) = true from lt_true (n := 16) hi, inB_nat hi, succ64 (by omega)]
    have : (a (Int.toNat i) != a (Int.toNat i)) = false := by simp
    rw [this]; rfl
  · rfl
theorem code_valid {p q : Pic} (h : codeTwo p q = 0) : s47 p.1 p.2.1 p.2.2 = true ∧ s47 q.1 q.2.1 q.2.2 = true := by
  unfold codeTwo at h
  cases h1 : s47 p.1 p.2.1 p.2.2
  · rw [h1] at h; cases h
  · cases h2 : s47 q.1 q.2.1 q.2.2
    · rw [h1, h2] at h; cases h
    · exact ⟨rfl, rfl⟩
theorem law9 {w h : Int} {f : Nat → Int} {w2 h2 : Int} {g : Nat → Int} (hw : I8 w) (hh : I8 h) (hf : U8 f) (hw2 : I8 w2) (hh2 : I8 h2) (hg : U8 g) : s9 w h f w2 h2 g = some true := by
  have key : ∀ f' g' : Nat → Int, U8 f' → U8 g' → ∃ v, s34 w h f' w2 h2 g' = some v ∧ s35 w h f' w2 h2 g' = some v := by
    intro f' g' hf' hg'
    unfold s34 s35
    rw [s71_two, s72_two _ _ ⟨hw, hh⟩ ⟨hw2, hh2⟩]
    simp only [Option.bind]
    by_cases hc : codeTwo (w, h, f') (w2, h2, g') = 0
    · have hv := code_valid hc
      rw [hc]
      refine ⟨(needed f' g', 0), ?_, ?_⟩
      · show f34_run6 _ = _
        unfold f34_run6
        refine run_count 144 (fun i (st : Nat → Int) => ((i : Int), w, h, f', w2, h2, g', zF, st)) (fun st (i : Nat) => cond (f' i == 0) (cond (g' i != 0) (upd st (Int.toNat (g' i)) (IntKind.wrap .i64 (st (Int.toNat (g' i)) + 1))) st) st) _ zF (by decide) ?_ ?_
        · intro i st hi
          have : g' i < 16 := valid_low hv.2 hi
          have := hg' i hi
          unfold f34_n6
          rw [lt144 hi, inB_nat hi, succ64 (by omega), toNat_nat, inB_of (x := g' i) (n := 16) (by omega)]
          simp only [cond_true]
          cases f' i == 0
          · rfl
          · cases g' i != 0 <;> rfl
        · unfold f34_n6
          rw [end144, cond_false]
          rfl
      · show f35_run6 _ = _
        unfold f35_run6
        refine run_count 144 (fun i (st : Nat → Int) => (g', (i : Int), w, h, f', zF, st)) (fun st (i : Nat) => cond (f' i == 0) (cond (g' i != 0) (upd st (Int.toNat (g' i)) (IntKind.wrap .i64 (st (Int.toNat (g' i)) + 1))) st) st) _ zF (by decide) ?_ ?_
        · intro i st hi
          have : g' i < 16 := valid_low hv.2 hi
          have := hg' i hi
          unfold f35_n6
          rw [lt144 hi, inB_nat hi, succ64 (by omega), toNat_nat, inB_of (x := g' i) (n := 16) (by omega)]
          simp only [cond_true]
          cases g' i != 0
          · cases f' i == 0 <;> rfl
          · cases f' i == 0 <;> rfl
        · unfold f35_n6
          rw [end144, cond_false]
          rfl
    · have : (codeTwo (w, h, f') (w2, h2, g') != 0) = true := by simpa using hc
      rw [this]
      exact ⟨_, rfl, rfl⟩
  unfold s9 s16
  obtain ⟨v, h1, h2⟩ := key (s51 f) (s51 g) (u8_51 hf) (u8_51 hg)
  rw [h1, h2]
  simp only [Option.bind, s36_same]
  simp
end Go.RR
