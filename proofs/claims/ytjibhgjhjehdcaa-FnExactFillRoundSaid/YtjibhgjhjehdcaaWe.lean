/- The plain laws of FillFrom and FillByKind. -/
import Derived.Test.YtjibhgjhjehdcaaWd
set_option linter.unusedVariables false
set_option linter.unusedSimpArgs false
namespace Go.RR
open Go

theorem z_eq {x : Int} (h : x = 0) : (x == 0) = true := beq_iff_eq.2 h
theorem z_ne {x : Int} (h : ¬ x = 0) : (x == 0) = false := by simpa using h
theorem n_ne {x : Int} (h : ¬ x = 0) : (x != 0) = true := bne_iff_ne.2 h
theorem n_eq {x : Int} (h : x = 0) : (x != 0) = false := by rw [h]; rfl
/-! ### comparing pictures -/
theorem eqCells {x y : Nat → Int} (h : ∀ j, j < 144 → x j = y j) : s_weqByteA144 x y = some true := by
  unfold s_weqByteA144 f_weqByteA144_run2
  have key := run_all (step := fun z => f_weqByteA144_n2 z.1 z.2.1 z.2.2) 144 (fun i => ((i : Int), x, y)) (fun i => true) true false (by decide) ?_ ?_
  · exact key.trans (by simp)
  · intro i hi
    show f_weqByteA144_n2 i x y = _
    unfold f_weqByteA144_n2
    rw [lt144 hi, inB_nat hi, toNat_nat, succ64 (by omega), h i hi]
    have : (y i != y i) = false := by simp
    rw [this]; rfl
  · rfl
theorem eqPic {w h : Int} {x y : Nat → Int} (hxy : ∀ j, j < 144 → x j = y j) : s_weqPicture w h x w h y = some true := by
  unfold s_weqPicture
  rw [eqCells hxy]
  have a : (w != w) = false := by simp
  have b : (h != h) = false := by simp
  rw [a, b]; rfl
/-- Two answers that agree. -/
def SameFill (a b : Int × Int × (Nat → Int) × Int × Int) : Prop := a.1 = b.1 ∧ a.2.1 = b.2.1 ∧ (∀ j, j < 144 → a.2.2.1 j = b.2.2.1 j) ∧ a.2.2.2.1 = b.2.2.2.1 ∧ a.2.2.2.2 = b.2.2.2.2
theorem sameFill {o1 o2 : Option (Int × Int × (Nat → Int) × Int × Int)} {a b : Int × Int × (Nat → Int) × Int × Int} (h1 : o1 = some a) (h2 : o2 = some b) (hs : SameFill b a) :
    (Option.bind o1 fun r1 => (Option.bind o2 fun r2 => (Option.bind (s_weqPicture (r2.1) (r2.2.1) (r2.2.2.1) (r1.1) (r1.2.1) (r1.2.2.1)) fun r3 => (cond (!r3) (some false) (cond (r2.2.2.2.1 != r1.2.2.2.1) (some false) (cond (r2.2.2.2.2 != r1.2.2.2.2) (some false) (some true))))))) = some true := by
  subst h1; subst h2
  obtain ⟨q1, q2, q3, q4, q5⟩ := hs
  simp only [Option.bind]
  rw [q1, q2, eqPic q3, q4, q5]
  simp

/-! ### filling -/
noncomputable def cellsF (f : Nat → Int) (how : Nat → Int) (l : List Nat) (o : Nat → Int) : Nat → Int := l.foldl (fun o i => cond (f i != 0) o (upd o i (how i))) o
noncomputable def countF (f : Nat → Int) (how : Nat → Int) (l : List Nat) : Int := l.foldl (fun n i => cond (f i != 0) n (cond (how i != 0) (IntKind.wrap .i64 (n + 1)) n)) 0
theorem foldl_two {α σ τ : Type} {F : σ → α → σ} {G : τ → α → τ} : ∀ (l : List α) (a : σ) (b : τ), l.foldl (fun (st : σ × τ) i => (F st.1 i, G st.2 i)) (a, b) = (l.foldl F a, l.foldl G b)
  | [], a, b => rfl
  | x :: l, a, b => by rw [List.foldl_cons, foldl_two l]; rfl
theorem cellsF_at {f how : Nat → Int} : ∀ (l : List Nat) (o : Nat → Int) (j : Nat), cellsF f how l o j = if j ∈ l ∧ f j = 0 then how j else o j
  | [], o, j => by simp [cellsF]
  | i :: l, o, j => by
    have ih := cellsF_at (f := f) (how := how) l
    unfold cellsF at ih ⊢
    rw [List.foldl_cons, ih]
    by_cases hj : j ∈ l ∧ f j = 0
    · rw [if_pos hj, if_pos ⟨by simp [hj.1], hj.2⟩]
    · rw [if_neg hj]
      by_cases h0 : f i = 0
      · have hb : (f i != 0) = false := by simp [h0]
        rw [hb, cond_false]
        unfold upd
        by_cases hji : j = i
        · subst hji
          rw [Nat.beq_refl, cond_true, if_pos ⟨by simp, h0⟩]
        · rw [beqF hji, cond_false, if_neg]
          rintro ⟨h1, h2⟩
          rcases List.mem_cons.1 h1 with h1 | h1
          · exact hji h1
          · exact hj ⟨h1, h2⟩
      · have hb : (f i != 0) = true := by simpa using h0
        rw [hb, cond_true, if_neg]
        rintro ⟨h1, h2⟩
        rcases List.mem_cons.1 h1 with h1 | h1
        · subst h1; exact h0 h2
        · exact hj ⟨h1, h2⟩
theorem countF_congr {f : Nat → Int} {how how' : Nat → Int} {l : List Nat} (h : ∀ i ∈ l, f i = 0 → how i = how' i) : countF f how l = countF f how' l := by
  unfold countF
  refine foldl_ext' _ _ fun i hi n => ?_
  by_cases h0 : f i = 0
  · rw [h i hi h0]
  · have hb : (f i != 0) = true := by simpa using h0
    rw [hb]; rfl
theorem countF_all {w h : Int} {f how : Nat → Int} (hc : ∀ i, i < 144 → f i = 0 → how i ≠ 0 → isIn w h i = true) : countF f how (cellsOf w h) = countF f how (List.range' 0 144) := by
  unfold countF cellsOf
  rw [foldl_filter']
  refine foldl_ext' _ _ fun i hi n => ?_
  have hi : i < 144 := by have := List.mem_range'_1.1 hi; omega
  by_cases h0 : f i = 0
  · by_cases h1 : how i = 0
    · have hb : (how i != 0) = false := by simp [h1]
      rw [hb]
      cases isIn w h i <;> cases f i != 0 <;> rfl
    · rw [hc i hi h0 h1]; rfl
  · have hb : (f i != 0) = true := by simpa using h0
    rw [hb]
    cases isIn w h i <;> rfl
/-- The step of a fill. -/
noncomputable def fillStep (f how : Nat → Int) (st : (Nat → Int) × Int) (i : Nat) : (Nat → Int) × Int := (cond (f i != 0) st.1 (upd st.1 i (how i)), cond (f i != 0) st.2 (cond (how i != 0) (IntKind.wrap .i64 (st.2 + 1)) st.2))
theorem fill_fold (f how : Nat → Int) (l : List Nat) (o : Nat → Int) : l.foldl (fillStep f how) (o, 0) = (cellsF f how l o, countF f how l) :=
  foldl_two (F := fun (o : Nat → Int) i => cond (f i != 0) o (upd o i (how i))) (G := fun (n : Int) i => cond (f i != 0) n (cond (how i != 0) (IntKind.wrap .i64 (n + 1)) n)) l o 0

/-! ### FillFrom -/
theorem filled_a {w h : Int} {f : Nat → Int} {w2 h2 : Int} {g : Nat → Int} : s_ifilled_a w h f w2 h2 g = some (w, h, cellsF f g (cellsOf w h) f, countF f g (cellsOf w h)) := by
  unfold s_ifilled_a
  rw [s67_eq]
  simp only [Option.bind]
  unfold f_ifilled_a_run3
  refine run_list (0 : Int) (nums w h) (fun i (st : (Nat → Int) × Int) => (st.2, (((nums w h).length : Nat) : Int), (i : Int), w2, h2, g, w, h, f, 0, 0, zF, w, h, st.1, nums w h)) (fun st x => fillStep f g st x.toNat) _ (f, 0) (Nat.le_trans (nums_len w h) (by decide)) ?_ ?_
  · intro i st hi hm
    have hl := nums_len w h
    show f_ifilled_a_n3 st.2 (((nums w h).length : Nat) : Int) i w2 h2 g w h f 0 0 zF w h st.1 (nums w h) = _
    unfold f_ifilled_a_n3
    rw [lt_true hi, inB_nat hi, toNat_nat, succ64 (by omega)]
    obtain ⟨j, _, hj, ej⟩ := mem_nums hm
    rw [ej, inB_nat hj, toNat_nat]
    have hw : s_iFillFrom_1 j w2 h2 g = some (g j) := by unfold s_iFillFrom_1; rw [inB_nat hj]; rfl
    rw [hw]
    simp only [cond_true, Option.bind]
    have hu : upd st.1 j (g j) j = g j := by unfold upd; rw [Nat.beq_refl]; rfl
    rw [hu]
    unfold fillStep
    cases f j != 0
    · cases g j != 0 <;> rfl
    · rfl
  · have e : (nums w h).foldl (fun st (x : Int) => fillStep f g st x.toNat) (f, 0) = (cellsF f g (cellsOf w h) f, countF f g (cellsOf w h)) := by
      unfold nums
      rw [List.foldl_map]
      exact fill_fold f g (cellsOf w h) f
    rw [e]
    show f_ifilled_a_n3 _ (((nums w h).length : Nat) : Int) (((nums w h).length : Nat) : Int) w2 h2 g w h f 0 0 zF w h _ (nums w h) = _
    unfold f_ifilled_a_n3
    rw [lt_neg, cond_false]
noncomputable def fromS (f g : Nat → Int) (st : (Nat → Int) × Int) (i : Nat) : (Nat → Int) × Int := cond (f i == 0) (cond (g i != 0) (upd st.1 i (g i), IntKind.wrap .i64 (st.2 + 1)) st) st
theorem fromS_at {f g : Nat → Int} : ∀ (l : List Nat) (st : (Nat → Int) × Int), (∀ j, (l.foldl (fromS f g) st).1 j = if j ∈ l ∧ f j = 0 ∧ g j ≠ 0 then g j else st.1 j) ∧ (l.foldl (fromS f g) st).2 = l.foldl (fun n i => cond (f i != 0) n (cond (g i != 0) (IntKind.wrap .i64 (n + 1)) n)) st.2
  | [], st => ⟨fun j => by simp, rfl⟩
  | i :: l, st => by
    obtain ⟨h1, h2⟩ := fromS_at (f := f) (g := g) l (fromS f g st i)
    rw [List.foldl_cons, List.foldl_cons]
    constructor
    · intro j
      rw [h1]
      by_cases hj : j ∈ l ∧ f j = 0 ∧ g j ≠ 0
      · rw [if_pos hj, if_pos ⟨by simp [hj.1], hj.2⟩]
      · rw [if_neg hj]
        by_cases h0 : f i = 0
        · by_cases hg : g i = 0
          · have e : fromS f g st i = st := by unfold fromS; rw [z_eq h0, n_eq hg]; rfl
            rw [e, if_neg]
            rintro ⟨q1, q2, q3⟩
            rcases List.mem_cons.1 q1 with q1 | q1
            · subst q1; exact q3 hg
            · exact hj ⟨q1, q2, q3⟩
          · have e : (fromS f g st i).1 = upd st.1 i (g i) := by unfold fromS; rw [z_eq h0, n_ne hg]; rfl
            rw [e]
            unfold upd
            by_cases hji : j = i
            · subst hji
              rw [Nat.beq_refl, cond_true, if_pos ⟨by simp, h0, hg⟩]
            · rw [beqF hji, cond_false, if_neg]
              rintro ⟨q1, q2⟩
              rcases List.mem_cons.1 q1 with q1 | q1
              · exact hji q1
              · exact hj ⟨q1, q2⟩
        · have e : fromS f g st i = st := by unfold fromS; rw [z_ne h0]; rfl
          rw [e, if_neg]
          rintro ⟨q1, q2, q3⟩
          rcases List.mem_cons.1 q1 with q1 | q1
          · subst q1; exact h0 q2
          · exact hj ⟨q1, q2, q3⟩
    · rw [h2]
      congr 1
      unfold fromS
      by_cases h0 : f i = 0
      · by_cases hg : g i = 0
        · rw [z_eq h0, n_eq hg, n_eq h0]; rfl
        · rw [z_eq h0, n_ne hg, n_eq h0]; rfl
      · rw [z_ne h0, n_ne h0]; rfl
theorem sFill_run {w h : Int} {f : Nat → Int} {w2 h2 : Int} {g : Nat → Int} : f_sFillFrom_run6 (0, 0, w, h, f, w2, h2, g, 0, 0, zF) = some (w, h, ((List.range' 0 144).foldl (fromS f g) (f, 0)).1, ((List.range' 0 144).foldl (fromS f g) (f, 0)).2, 0) := by
  unfold f_sFillFrom_run6
  refine run_countI 144 (fun i (st : (Nat → Int) × Int) => (st.2, (i : Int), w, h, st.1, w2, h2, g, 0, 0, zF)) (fromS f g) (fun i st => ∀ j, i ≤ j → st.1 j = f j) _ (f, 0) (by decide) (fun _ _ => rfl) ?_ ?_
  · intro i st hi hI
    constructor
    · show f_sFillFrom_n6 st.2 i w h st.1 w2 h2 g 0 0 zF = _
      unfold f_sFillFrom_n6
      rw [lt144 hi, inB_nat hi, toNat_nat, succ64 (by omega), hI i (Nat.le_refl i)]
      simp only [cond_true]
      unfold fromS
      cases f i == 0
      · rfl
      · cases g i != 0 <;> rfl
    · intro j hj
      have hne : j ≠ i := by omega
      unfold fromS
      cases f i == 0
      · exact hI j (by omega)
      · cases g i != 0
        · exact hI j (by omega)
        · show upd st.1 i (g i) j = f j
          unfold upd
          rw [beqF hne, cond_false]
          exact hI j (by omega)
  · intro _
    unfold f_sFillFrom_n6
    rw [end144, cond_false]
theorem codes_same {p q : Pic} (h : codeTwo p q = 0) : (s_sl01Ok p.1 p.2.1 p.2.2 = true ∧ s_sl01Ok q.1 q.2.1 q.2.2 = true) ∧ q.1 = p.1 ∧ q.2.1 = p.2.1 := by
  unfold codeTwo at h
  cases h1 : s_sl01Ok p.1 p.2.1 p.2.2
  · rw [h1] at h; cases h
  · cases h2 : s_sl01Ok q.1 q.2.1 q.2.2
    · rw [h1, h2] at h; cases h
    · rw [h1, h2] at h
      simp only [Bool.not_true, cond_false] at h
      cases h3 : (q.1 != p.1)
      · cases h4 : (q.2.1 != p.2.1)
        · exact ⟨⟨rfl, rfl⟩, by simpa using h3, by simpa using h4⟩
        · rw [h3, h4] at h; cases h
      · rw [h3] at h; cases h
theorem law_FillFrom {w h : Int} {f : Nat → Int} {w2 h2 : Int} {g : Nat → Int} (hw : I8 w) (hh : I8 h) (hf : U8 f) (hw2 : I8 w2) (hh2 : I8 h2) (hg : U8 g) : s_wFnExactFillFrom w h f w2 h2 g = some true := by
  have key : ∀ f' g' : Nat → Int, ∃ a b, s_sFillFrom w h f' w2 h2 g' = some a ∧ s_iFillFrom w h f' w2 h2 g' = some b ∧ SameFill b a := by
    intro f' g'
    unfold s_sFillFrom s_iFillFrom
    rw [s71_two, s72_two _ _ ⟨hw, hh⟩ ⟨hw2, hh2⟩]
    simp only [Option.bind]
    by_cases hc : codeTwo (w, h, f') (w2, h2, g') = 0
    · obtain ⟨⟨hv1, hv2⟩, he1, he2⟩ := codes_same hc
      have he1 : w2 = w := he1
      have he2 : h2 = h := he2
      subst he1; subst he2
      rw [hc, sFill_run, filled_a]
      refine ⟨_, _, rfl, rfl, rfl, rfl, fun j hj => ?_, ?_, rfl⟩
      · dsimp only
        rw [cellsF_at, (fromS_at (List.range' 0 144) (f', 0)).1]
        dsimp only
        have hr : j ∈ List.range' 0 144 := List.mem_range'_1.2 ⟨Nat.zero_le j, by omega⟩
        by_cases h0 : f' j = 0
        · by_cases hgj : g' j = 0
          · have n2 : ¬ (j ∈ List.range' 0 144 ∧ f' j = 0 ∧ g' j ≠ 0) := fun q => q.2.2 hgj
            rw [if_neg n2, h0, hgj]
            split <;> rfl
          · have hcell := valid_cell hw hh hv2 hj hgj
            have hin : j ∈ cellsOf w2 h2 := List.mem_filter.2 ⟨hr, by rw [isIn_eq hw hh hj]; simp [hcell]⟩
            rw [if_pos ⟨hin, h0⟩, if_pos ⟨hr, h0, hgj⟩]
        · have n1 : ¬ (j ∈ cellsOf w2 h2 ∧ f' j = 0) := fun q => h0 q.2
          have n2 : ¬ (j ∈ List.range' 0 144 ∧ f' j = 0 ∧ g' j ≠ 0) := fun q => h0 q.2.1
          rw [if_neg n1, if_neg n2]
      · dsimp only
        rw [(fromS_at (List.range' 0 144) (f', 0)).2]
        refine countF_all fun i hi _ hgi => ?_
        have hcell := valid_cell hw hh hv2 hi hgi
        rw [isIn_eq hw hh hi]
        simp [hcell]
    · have : (codeTwo (w, h, f') (w2, h2, g') != 0) = true := by simpa using hc
      rw [this]
      exact ⟨_, _, rfl, rfl, rfl, rfl, fun _ _ => rfl, rfl, rfl⟩
  unfold s_wFnExactFillFrom s_wtoPicture
  obtain ⟨a, b, e1, e2, hs⟩ := key (s_wtoByteA144 f) (s_wtoByteA144 g)
  exact sameFill e1 e2 hs
end Go.RR
