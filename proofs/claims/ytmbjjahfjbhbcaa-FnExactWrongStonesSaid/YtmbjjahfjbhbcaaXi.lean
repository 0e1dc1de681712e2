/- The plain laws of LostCells and WrongStones. -/
import Derived.Test.YtmbjjahfjbhbcaaXc
import Derived.Test.YtmbjjahfjbhbcaaXh
set_option linter.unusedVariables false
set_option linter.unusedSimpArgs false
namespace Go.RR
open Go

/-! ### marking and holding -/
noncomputable def markL (n : Nat) : List Int := (List.range' 0 n).map fun i : Nat => ((i + 1 : Nat) : Int)
theorem markL_len (n : Nat) : (markL n).length = n := by simp [markL]
theorem markL_get {n i : Nat} (h : i < n) : (markL n)[i]? = some ((i + 1 : Nat) : Int) := by
  unfold markL
  rw [List.getElem?_map, List.getElem?_range' h]
  simp
theorem s28_eq (l : List Int) (hl : l.length ≤ 1000000) : s28 l 1 = some (((l.length + 1 : Nat) : Int), markL l.length) := by
  unfold s28 f28_run2
  have key := run_count (step := fun x => f28_n2 x.1 x.2.1 x.2.2) (τ := Unit) l.length (fun i _ => (((i + 1 : Nat) : Int), (i : Int), (markL l.length).take i ++ l.drop i)) (fun _ _ => ()) (((l.length + 1 : Nat) : Int), markL l.length) () (by omega) ?_ ?_
  · exact key
  · intro i _ hi
    show f28_n2 ((i + 1 : Nat) : Int) i ((markL l.length).take i ++ l.drop i) = _
    have hlen : ((markL l.length).take i ++ l.drop i).length = l.length := by
      simp [markL_len]; omega
    unfold f28_n2
    rw [hlen, lt_true hi, inB_nat hi, succ64 (i := i) (by omega), succ64 (i := i + 1) (by omega), toNat_nat]
    simp only [cond_true]
    have hset : ((markL l.length).take i ++ l.drop i).set i ((i + 1 : Nat) : Int) = (markL l.length).take (i + 1) ++ l.drop (i + 1) := by
      have h1 : ((markL l.length).take i).length = i := by simp [markL_len]; omega
      rw [List.set_append_right _ _ (by omega), h1, Nat.sub_self, List.take_add_one, markL_get hi]
      rw [List.drop_eq_getElem_cons hi, List.set_cons_zero]
      simp
    rw [hset]
  · show f28_n2 ((l.length + 1 : Nat) : Int) (l.length : Nat) ((markL l.length).take l.length ++ l.drop l.length) = _
    have h1 : (markL l.length).take l.length ++ l.drop l.length = markL l.length := by
      rw [List.drop_length, List.append_nil]
      exact List.take_of_length_le (by rw [markL_len]; exact Nat.le_refl _)
    rw [h1]
    unfold f28_n2
    rw [markL_len, lt_neg, cond_false]
theorem s29_eq (n : Nat) (hn : n ≤ 1000000) : s29 (markL n) 1 = some ((n + 1 : Nat) : Int) := by
  unfold s29 f29_run2
  have key := run_count (step := fun x => f29_n2 x.1 x.2.1 x.2.2) (τ := Unit) n (fun i _ => (((i + 1 : Nat) : Int), (i : Int), markL n)) (fun _ _ => ()) ((n + 1 : Nat) : Int) () (by omega) ?_ ?_
  · exact key
  · intro i _ hi
    show f29_n2 ((i + 1 : Nat) : Int) i (markL n) = _
    unfold f29_n2
    have hg : (markL n).getD i 0 = ((i + 1 : Nat) : Int) := by rw [List.getD_eq_getElem?_getD, markL_get hi]; rfl
    rw [markL_len, lt_true hi, inB_nat hi, toNat_nat, hg, succ64 (i := i) (by omega), succ64 (i := i + 1) (by omega)]
    have : (((i + 1 : Nat) : Int) != ((i + 1 : Nat) : Int)) = false := by simp
    rw [this]; rfl
  · show f29_n2 ((n + 1 : Nat) : Int) (n : Nat) (markL n) = _
    unfold f29_n2
    rw [markL_len, lt_neg, cond_false]
theorem s27_same (l : List Int) (hl : l.length ≤ 1000000) : s27 l l = some true := by
  unfold s27
  have : (((List.length l : Nat) : Int) != ((List.length l : Nat) : Int)) = false := by simp
  rw [this, cond_false]
  unfold f27_run4
  have h := run_all (step := fun x => f27_n4 x.1 x.2.1 x.2.2) l.length (fun i => ((i : Int), l, l)) (fun i => true) true false (by omega) ?_ ?_
  · exact h.trans (by simp)
  · intro i hi
    show f27_n4 i l l = _
    unfold f27_n4
    rw [lt_true hi, inB_nat hi, toNat_nat, succ64 (by omega)]
    have : (l.getD i 0 != l.getD i 0) = false := by simp
    rw [this]; rfl
  · show f27_n4 (l.length : Nat) l l = _
    unfold f27_n4
    rw [lt_neg, cond_false]
/-- The end of a law whose answer is a list and a number. -/
theorem marked {o1 o2 : Option (List Int × Int)} {v : List Int × Int} (h1 : o1 = some v) (h2 : o2 = some v) (hl : v.1.length ≤ 1000000) :
    (Option.bind o1 fun r1 => (Option.bind o2 fun r2 => (Option.bind (s27 (r2.1) (r1.1)) fun r3 => (cond (!r3) (some false) (cond (r2.2 != r1.2) (some false) (Option.bind (s28 (r2.1) 1) fun r4 => (Option.bind (s29 (r4.2) 1) fun r5 => (cond (decide (r5 < 0)) (some false) (cond (r5 != r4.1) (some false) (Option.bind o2 fun r6 => (Option.bind (s27 (r6.1) (r1.1)) fun r7 => (cond (!r7) (some false) (cond (r6.2 != r1.2) (some false) (Option.bind (s29 (r4.2) 1) fun r8 => (cond (decide (r8 < 0)) (some false) (cond (r8 != r4.1) (some false) (some true))))))))))))))))) = some true := by
  subst h1; subst h2
  have e3 : decide (((v.1.length + 1 : Nat) : Int) < 0) = false := decide_eq_false (by omega)
  simp only [Option.bind, s27_same _ hl, s28_eq _ hl, s29_eq _ hl, e3]
  simp

/-! ### LostCells -/
noncomputable def lostOf (w h : Int) (f : Nat → Int) : List Int := ((cellsOf w h).filter fun i => f i == 0).map fun i : Nat => (i : Int)
theorem lost_len (w h : Int) (f : Nat → Int) : (lostOf w h f).length ≤ 144 := by
  unfold lostOf
  rw [List.length_map]
  exact Nat.le_trans (List.length_filter_le _ _) (cellsOf_len w h)
theorem s66_eq {w h : Int} {f : Nat → Int} (hw : I8 w) (hh : I8 h) : s66 w h f = some (lostOf w h f) := by
  unfold s66 f66_run3
  refine run_countI 144 (fun i (l : List Int) => ((i : Int), w, h, f, l)) (fun l i => cond (isIn w h i) (cond (f i == 0) (l ++ [(i : Int)]) l) l) (fun i l => l.length ≤ i) _ [] (by decide) (Nat.le_refl _) ?_ ?_
  · intro i l hi hl
    constructor
    · show f66_n3 i w h f l = _
      unfold f66_n3
      rw [lt144 hi, s81_in hw hh hi, inB_nat hi, toNat_nat, succ64 (by omega)]
      cases isIn w h i
      · rfl
      · simp only [cond_true]
        rw [fits_small (by simp; omega)]
        cases f i == 0 <;> rfl
    · show (cond (isIn w h i) (cond (f i == 0) (l ++ [(i : Int)]) l) l).length ≤ i + 1
      cases isIn w h i
      · show l.length ≤ i + 1; omega
      · cases f i == 0
        · show l.length ≤ i + 1; omega
        · simp; omega
  · intro _
    unfold f66_n3
    rw [end144, cond_false]
    have e := foldl_filter' (c := isIn w h) (f := fun (l : List Int) (i : Nat) => cond (f i == 0) (l ++ [(i : Int)]) l) (List.range' 0 144) []
    rw [← e, foldl_push (g := fun i : Nat => (i : Int))]
    rfl
theorem s26_run {w h : Int} {f : Nat → Int} : f26_run5 ((((nums w h).length : Nat) : Int), 0, w, h, f, [], nums w h) = some (lostOf w h f, 0) := by
  unfold f26_run5
  refine run_listI (0 : Int) (nums w h) (fun i (l : List Int) => ((((nums w h).length : Nat) : Int), (i : Int), w, h, f, l, nums w h)) (fun l x => cond (f x.toNat == 0) (l ++ [x]) l) (fun i l => l.length ≤ i) _ [] (Nat.le_trans (nums_len w h) (by decide)) (Nat.le_refl _) ?_ ?_
  · intro i l hi hm hl
    have hl2 := nums_len w h
    constructor
    · show f26_n5 (((nums w h).length : Nat) : Int) i w h f l (nums w h) = _
      unfold f26_n5
      rw [lt_true hi, inB_nat hi, toNat_nat, succ64 (by omega)]
      obtain ⟨j, _, hj, ej⟩ := mem_nums hm
      rw [ej, inB_nat hj, toNat_nat]
      simp only [cond_true]
      rw [fits_small (by simp; omega)]
      cases f j == 0 <;> rfl
    · cases f ((nums w h).getD i 0).toNat == 0
      · show l.length ≤ i + 1; omega
      · simp; omega
  · intro _
    unfold f26_n5
    rw [lt_neg, cond_false]
    have e : (nums w h).foldl (fun (l : List Int) x => cond (f x.toNat == 0) (l ++ [x]) l) [] = lostOf w h f := by
      unfold nums
      rw [List.foldl_map]
      simp only [toNat_nat]
      rw [foldl_push (g := fun i : Nat => (i : Int))]
      rfl
    rw [e]
theorem law6 {w h : Int} {f : Nat → Int} (hw : I8 w) (hh : I8 h) (hf : U8 f) : s6 w h f = some true := by
  have key : ∃ v, s25 w h (s51 f) = some v ∧ s26 w h (s51 f) = some v ∧ v.1.length ≤ 1000000 := by
    unfold s25 s26
    rw [valid_eq hw hh, s66_eq hw hh, s67_eq]
    cases s47 w h (s51 f)
    · exact ⟨([], 1), rfl, rfl, by simp⟩
    · refine ⟨(lostOf w h (s51 f), 0), rfl, s26_run, ?_⟩
      have := lost_len w h (s51 f)
      show (lostOf w h (s51 f)).length ≤ 1000000
      omega
  obtain ⟨v, e1, e2, hl⟩ := key
  exact marked e1 e2 hl

/-! ### WrongStones -/
noncomputable def wrongOf (f g : Nat → Int) : List Int := ((List.range' 0 144).filter fun i => cond (f i != 0) (f i != g i) false).map fun i : Nat => (i : Int)
theorem push_cond {l : List Nat} {c d : Nat → Bool} : l.foldl (fun (s : List Int) (i : Nat) => cond (c i) (cond (d i) (s ++ [(i : Int)]) s) s) [] = (l.filter fun i => cond (c i) (d i) false).map fun i : Nat => (i : Int) := by
  have e : ∀ (s : List Int) (i : Nat), cond (c i) (cond (d i) (s ++ [(i : Int)]) s) s = cond (cond (c i) (d i) false) (s ++ [(i : Int)]) s := by
    intro s i
    cases c i <;> rfl
  simp only [e]
  rw [foldl_push (g := fun i : Nat => (i : Int))]
  rfl
theorem s45_run {w h : Int} {f : Nat → Int} {w2 h2 : Int} {g : Nat → Int} : f45_run6 (0, w, h, f, w2, h2, g, []) = some (wrongOf f g, 0) := by
  unfold f45_run6
  refine run_countI 144 (fun i (l : List Int) => ((i : Int), w, h, f, w2, h2, g, l)) (fun l i => cond (f i != 0) (cond (f i != g i) (l ++ [(i : Int)]) l) l) (fun i l => l.length ≤ i) _ [] (by decide) (Nat.le_refl _) ?_ ?_
  · intro i l hi hl
    constructor
    · show f45_n6 i w h f w2 h2 g l = _
      unfold f45_n6
      rw [lt144 hi, inB_nat hi, toNat_nat, succ64 (by omega)]
      simp only [cond_true]
      rw [fits_small (by simp; omega)]
      cases f i != 0
      · rfl
      · cases f i != g i <;> rfl
    · cases f i != 0
      · show l.length ≤ i + 1; omega
      · cases f i != g i
        · show l.length ≤ i + 1; omega
        · simp; omega
  · intro _
    unfold f45_n6
    rw [end144, cond_false, push_cond]
    rfl
theorem s46_run {w2 h2 : Int} {f g : Nat → Int} {w3 : Int} : f46_run6 (f, 0, w2, h2, g, []) = some (wrongOf f g, 0) := by
  unfold f46_run6
  refine run_countI 144 (fun i (l : List Int) => (f, (i : Int), w2, h2, g, l)) (fun l i => cond (f i != 0) (cond (f i != g i) (l ++ [(i : Int)]) l) l) (fun i l => l.length ≤ i) _ [] (by decide) (Nat.le_refl _) ?_ ?_
  · intro i l hi hl
    constructor
    · show f46_n6 f i w2 h2 g l = _
      unfold f46_n6
      have ec : (g i != f i) = (f i != g i) := by
        by_cases hq : f i = g i
        · rw [hq]
        · have : ¬ g i = f i := fun h => hq h.symm
          rw [bne_iff_ne.2 hq, bne_iff_ne.2 this]
      rw [lt144 hi, inB_nat hi, toNat_nat, succ64 (by omega), ec]
      simp only [cond_true]
      rw [fits_small (by simp; omega)]
      cases f i != 0
      · rfl
      · cases f i != g i <;> rfl
    · cases f i != 0
      · show l.length ≤ i + 1; omega
      · cases f i != g i
        · show l.length ≤ i + 1; omega
        · simp; omega
  · intro _
    unfold f46_n6
    rw [end144, cond_false, push_cond]
    rfl
theorem law14 {w h : Int} {f : Nat → Int} {w2 h2 : Int} {g : Nat → Int} (hw : I8 w) (hh : I8 h) (hf : U8 f) (hw2 : I8 w2) (hh2 : I8 h2) (hg : U8 g) : s14 w h f w2 h2 g = some true := by
  have key : ∃ v, s45 w h (s51 f) w2 h2 (s51 g) = some v ∧ s46 w h (s51 f) w2 h2 (s51 g) = some v ∧ v.1.length ≤ 1000000 := by
    unfold s45 s46
    rw [s71_two, s72_two _ _ ⟨hw, hh⟩ ⟨hw2, hh2⟩]
    simp only [Option.bind]
    cases codeTwo (w, h, s51 f) (w2, h2, s51 g) != 0
    · refine ⟨(wrongOf (s51 f) (s51 g), 0), s45_run, s46_run (w3 := 0), ?_⟩
      show (wrongOf (s51 f) (s51 g)).length ≤ 1000000
      unfold wrongOf
      rw [List.length_map]
      exact Nat.le_trans (List.length_filter_le _ _) (by simp)
    · exact ⟨([], _), rfl, rfl, by simp⟩
  obtain ⟨v, e1, e2, hl⟩ := key
  exact marked e1 e2 hl
end Go.RR
