/- Plain facts of conflicts. -/
import Derived.Test.YtkohnhkehedflaaWd
import Derived.Test.YtkohnhkehedflaaVr
set_option linter.unusedVariables false
set_option linter.unusedSimpArgs false
namespace Go.RR
open Go

section
variable {α σ ρ : Type}
/-- A loop that looks for the first at which something holds, and goes on otherwise. -/
theorem iter_find {step : σ → Option (σ ⊕ ρ)} (N : Nat) (emb : Nat → σ) (p : Nat → Bool) (got : Nat → ρ) (no : ρ) (hs : ∀ i, i < N → step (emb i) = some (cond (p i) (.inr (got i)) (.inl (emb (i + 1))))) (he : step (emb N) = some (.inr no)) :
    ∀ (k i m : Nat), i + k = N → k < m → iter step m (emb i) = some (match (List.range' i k).find? p with | some b => got b | none => no)
  | 0, i, m + 1, h, hm => by
    obtain rfl : i = N := h
    unfold iter
    rw [he]; rfl
  | k + 1, i, m + 1, h, hm => by
    rw [List.range'_succ, List.find?_cons]
    unfold iter
    rw [hs i (by omega)]
    cases p i
    · exact iter_find N emb p got no hs he k (i + 1) m (by omega) (by omega)
    · rfl
  | _, _, 0, _, hm => by omega
theorem iter_pair {step : σ → Option (σ ⊕ ρ)} (N : Nat) (emb : Nat → σ) (bad : Nat → Nat → Bool) (got : Nat → Nat → ρ) (no : ρ)
    (hs : ∀ i, i < N → step (emb i) = some (match (List.range' (i + 1) (N - (i + 1))).find? (bad i) with | some b => .inr (got i b) | none => .inl (emb (i + 1)))) (he : step (emb N) = some (.inr no)) :
    ∀ (k i m : Nat), i + k = N → k < m → iter step m (emb i) = some (match pairOf bad (List.range' i k) with | some (a, b) => got a b | none => no)
  | 0, i, m + 1, h, hm => by
    obtain rfl : i = N := h
    unfold iter
    rw [he]; rfl
  | k + 1, i, m + 1, h, hm => by
    rw [List.range'_succ]
    unfold iter pairOf
    rw [hs i (by omega), show N - (i + 1) = k by omega]
    cases (List.range' (i + 1) k).find? (bad i) with
    | some b => rfl
    | none => exact iter_pair N emb bad got no hs he k (i + 1) m (by omega) (by omega)
  | _, _, 0, _, hm => by omega
theorem drop_cons' (d : α) {l : List α} {n : Nat} (h : n < l.length) : l.drop n = l.getD n d :: l.drop (n + 1) := by
  rw [List.drop_eq_getElem_cons h, List.getD_eq_getElem?_getD, List.getElem?_eq_getElem h]
  rfl
theorem iter_pairL {step : σ → Option (σ ⊕ ρ)} (d : α) (l : List α) (emb : Nat → σ) (bad : α → α → Bool) (got : α → α → ρ) (no : ρ)
    (hs : ∀ i, i < l.length → step (emb i) = some (match (l.drop (i + 1)).find? (bad (l.getD i d)) with | some b => .inr (got (l.getD i d) b) | none => .inl (emb (i + 1)))) (he : step (emb l.length) = some (.inr no)) :
    ∀ (k i m : Nat), i + k = l.length → k < m → iter step m (emb i) = some (match pairOf bad (l.drop i) with | some (a, b) => got a b | none => no)
  | 0, i, m + 1, h, hm => by
    have hi : i = l.length := h
    rw [hi, List.drop_length]
    unfold iter
    rw [he]; rfl
  | k + 1, i, m + 1, h, hm => by
    rw [drop_cons' d (show i < l.length by omega)]
    unfold iter pairOf
    rw [hs i (by omega)]
    cases (l.drop (i + 1)).find? (bad (l.getD i d)) with
    | some b => rfl
    | none => exact iter_pairL d l emb bad got no hs he k (i + 1) m (by omega) (by omega)
  | _, _, 0, _, hm => by omega
/-- The same over a list's rest, place by place. -/
theorem iter_findL {step : σ → Option (σ ⊕ ρ)} (d : α) (l : List α) (emb : Nat → σ) (p : α → Bool) (got : α → ρ) (no : ρ) (hs : ∀ i, i < l.length → l.getD i d ∈ l → step (emb i) = some (cond (p (l.getD i d)) (.inr (got (l.getD i d))) (.inl (emb (i + 1))))) (he : step (emb l.length) = some (.inr no)) :
    ∀ (k i m : Nat), i + k = l.length → k < m → iter step m (emb i) = some (match (l.drop i).find? p with | some b => got b | none => no)
  | 0, i, m + 1, h, hm => by
    have hi : i = l.length := h
    rw [hi, List.drop_length]
    unfold iter
    rw [he]; rfl
  | k + 1, i, m + 1, h, hm => by
    have hlt : i < l.length := by omega
    rw [drop_cons' d hlt, List.find?_cons]
    unfold iter
    rw [hs i hlt (getD_mem' hlt)]
    cases p (l.getD i d)
    · exact iter_findL d l emb p got no hs he k (i + 1) m (by omega) (by omega)
    · rfl
  | _, _, 0, _, hm => by omega
theorem find_map' {β : Type} {g : β → α} {p : α → Bool} : ∀ l : List β, (l.map g).find? p = (l.find? fun x => p (g x)).map g
  | [] => rfl
  | b :: l => by
    rw [List.map_cons, List.find?_cons, List.find?_cons, find_map' l]
    cases p (g b) <;> rfl
theorem pair_map {β : Type} {g : β → α} {bad : α → α → Bool} : ∀ l : List β, pairOf bad (l.map g) = (pairOf (fun a b => bad (g a) (g b)) l).map fun p => (g p.1, g p.2)
  | [] => rfl
  | b :: l => by
    simp only [List.map_cons, pairOf, find_map', pair_map l]
    cases l.find? fun x => bad (g b) (g x) <;> rfl
end
noncomputable def alikeB (a b e s : Int) : Bool := cond ((Int.tmod (Int.tmod a 12) e) == (Int.tmod (Int.tmod b 12) e)) ((Int.tmod (IntKind.wrap .i64 (Int.tdiv a 12)) s) == (Int.tmod (IntKind.wrap .i64 (Int.tdiv b 12)) s)) false
theorem s94_eq {a b e s : Int} (he : 1 ≤ e) (hs : 1 ≤ s) : s_sl06Alike a b e s = some (alikeB a b e s) := by
  unfold s_sl06Alike alikeB
  rw [decide_eq_false (show ¬ e = 0 by omega), decide_eq_false (show ¬ s = 0 by omega)]
  cases (Int.tmod (Int.tmod a 12) e) == (Int.tmod (Int.tmod b 12) e) <;> rfl
noncomputable def badN (f : Nat → Int) (e s : Int) (a b : Nat) : Bool := cond (f a != 0) (cond (f b != 0) (cond (f b != f a) (alikeB a b e s) false) false) false
noncomputable def badP (f : Nat → Int) (e s : Int) : Option (Nat × Nat) := pairOf (badN f e s) (List.range' 0 144)
theorem s78_eq {w h : Int} {f : Nat → Int} {e s : Int} (he : 1 ≤ e) (hs : 1 ≤ s) : s_sl06Conflict w h f e s = some (match badP f e s with | some (a, b) => ((a : Int), (b : Int)) | none => (-1, -1)) := by
  unfold s_sl06Conflict f_sl06Conflict_run2 badP
  refine iter_pair (step := fun x => f_sl06Conflict_n2 x.1 x.2.1 x.2.2.1 x.2.2.2.1 x.2.2.2.2.1 x.2.2.2.2.2) 144 (fun i => (e, s, (i : Int), w, h, f)) (badN f e s) (fun a b => ((a : Int), (b : Int))) (-1, -1) ?_ ?_ 144 0 FU rfl (FU_big (pow_big (by decide)))
  · intro a ha
    show f_sl06Conflict_n2 e s a w h f = _
    unfold f_sl06Conflict_n2
    rw [lt144 ha, succ64 (by omega)]
    simp only [cond_true]
    unfold f_sl06Conflict_run5
    cases h0 : (f a != 0)
    · -- no stone
      have hno : (List.range' (a + 1) (144 - (a + 1))).find? (badN f e s a) = none := by
        rw [List.find?_eq_none]
        intro b _
        unfold badN
        rw [h0]; simp
      rw [hno]
      obtain ⟨k, hk⟩ := FU_steps 1 (by decide)
      rw [hk]
      have e1 : f_sl06Conflict_n5 e s a ((a + 1 : Nat) : Int) w h f = some (Sum.inr (Sum.inl (e, s, ((a + 1 : Nat) : Int), w, h, f))) := by
        unfold f_sl06Conflict_n5
        rw [inB_nat ha, toNat_nat, h0, succ64 (i := a) (by omega)]
        cases decide (((a + 1 : Nat) : Int) < 144) <;> rfl
      simp only [iter, e1]
    · refine (iter_find (step := fun x => f_sl06Conflict_n5 x.1 x.2.1 x.2.2.1 x.2.2.2.1 x.2.2.2.2.1 x.2.2.2.2.2.1 x.2.2.2.2.2.2) 144 (fun b => (e, s, (a : Int), (b : Int), w, h, f)) (badN f e s a) (fun b => Sum.inr ((a : Int), (b : Int))) (Sum.inl (e, s, ((a + 1 : Nat) : Int), w, h, f)) ?_ ?_ (144 - (a + 1)) (a + 1) FU (by omega) (FU_big (pow_big (by omega)))).trans ?_
      · intro b hb
        show f_sl06Conflict_n5 e s a b w h f = _
        unfold f_sl06Conflict_n5
        rw [lt144 hb, inB_nat ha, inB_nat hb, toNat_nat, toNat_nat, h0, s94_eq he hs, succ64 (by omega)]
        simp only [cond_true, Option.bind]
        unfold badN
        rw [h0]
        cases f b != 0
        · rfl
        · cases f b != f a
          · rfl
          · simp only [cond_true]
            cases alikeB a b e s <;> rfl
      · show f_sl06Conflict_n5 e s a (144 : Nat) w h f = _
        unfold f_sl06Conflict_n5
        rw [end144, cond_false, succ64 (by omega)]
      · cases (List.range' (a + 1) (144 - (a + 1))).find? (badN f e s a) <;> rfl
  · rfl
theorem alike_cells {w h : Int} {f : Nat → Int} (hw : I8 w) (hh : I8 h) (hv : s_sl01Ok w h f = true) {e s : Int} : pairOf (badN f e s) (cellsOf w h) = badP f e s := by
  have hw' := valid_size hw hh hv
  unfold cellsOf badP
  have : ∀ a b, cond (Nat.blt a 144 && Nat.blt b 144) (badN f e s a b) false = true → isIn w h a = true ∧ isIn w h b = true := by
    intro a b hab
    have h1 : (Nat.blt a 144 && Nat.blt b 144) = true := by
      cases hq : (Nat.blt a 144 && Nat.blt b 144)
      · rw [hq] at hab; cases hab
      · rfl
    simp only [Bool.and_eq_true] at h1
    have ha : a < 144 := Nat.le_of_ble_eq_true h1.1
    have hb : b < 144 := Nat.le_of_ble_eq_true h1.2
    rw [blt_true ha, blt_true hb] at hab
    have hab : badN f e s a b = true := hab
    unfold badN at hab
    have hfa : f a ≠ 0 := by
      intro h0
      rw [h0] at hab
      cases hab
    have hfb : f b ≠ 0 := by
      intro h0
      rw [h0] at hab
      cases hq : (f a != 0) <;> rw [hq] at hab <;> cases hab
    have qa := valid_cell hw hh hv ha hfa
    have qb := valid_cell hw hh hv hb hfb
    rw [isIn_eq hw hh ha, isIn_eq hw hh hb]
    simp [qa, qb]
  have cg : ∀ l : List Nat, (∀ x ∈ l, x < 144) → pairOf (badN f e s) l = pairOf (fun a b => cond (Nat.blt a 144 && Nat.blt b 144) (badN f e s a b) false) l := by
    intro l
    induction l with
    | nil => intro _; rfl
    | cons a l ih =>
      intro hl
      have ha : a < 144 := hl a (by simp)
      have hfind : ∀ m : List Nat, (∀ x ∈ m, x < 144) → m.find? (badN f e s a) = m.find? fun b => cond (Nat.blt a 144 && Nat.blt b 144) (badN f e s a b) false := by
        intro m
        induction m with
        | nil => intro _; rfl
        | cons b m ihm =>
          intro hm
          rw [List.find?_cons, List.find?_cons, ihm fun x hx => hm x (by simp [hx]), blt_true ha, blt_true (hm b (by simp))]
          rfl
      simp only [pairOf]
      rw [hfind l fun x hx => hl x (by simp [hx]), ih fun x hx => hl x (by simp [hx])]
  have r144 : ∀ x ∈ List.range' 0 144, x < 144 := fun x hx => by have := List.mem_range'_1.1 hx; omega
  rw [cg _ r144, cg _ (fun x hx => r144 x (List.mem_filter.1 hx).1)]
  exact pair_filter this _
theorem s80_eq {w h : Int} {f : Nat → Int} {e s : Int} (he : 1 ≤ e) (hs : 1 ≤ s) : s_iPicture_conflict w h f e s = some (match pairOf (badN f e s) (cellsOf w h) with | some (a, b) => ((a : Int), (b : Int), true) | none => (0, 0, false)) := by
  unfold s_iPicture_conflict
  rw [s67_eq]
  simp only [Option.bind]
  unfold f_iPicture_conflict_run3
  have hl := nums_len w h
  have key := iter_pairL (step := fun x => f_iPicture_conflict_n3 x.1 x.2.1 x.2.2.1 x.2.2.2.1 x.2.2.2.2.1 x.2.2.2.2.2.1 x.2.2.2.2.2.2.1 x.2.2.2.2.2.2.2) (0 : Int) (nums w h) (fun i => (e, s, (((nums w h).length : Nat) : Int), (i : Int), w, h, f, nums w h)) (fun a b => badN f e s a.toNat b.toNat) (fun a b => (a, b, true)) (0, 0, false) ?_ ?_ (nums w h).length 0 FU (by omega) (FU_big (pow_big (by omega)))
  · refine key.trans ?_
    rw [List.drop_zero]
    unfold nums
    rw [pair_map]
    simp only [toNat_nat]
    cases pairOf (badN f e s) (cellsOf w h) with
    | none => rfl
    | some p => rfl
  · intro n hn
    show f_iPicture_conflict_n3 e s (((nums w h).length : Nat) : Int) n w h f (nums w h) = _
    unfold f_iPicture_conflict_n3
    have hin : inS (((n + 1 : Nat) : Nat) : Int) (((nums w h).length : Nat) : Int) (nums w h).length = true := by
      unfold inS
      rw [decide_eq_true (show (0 : Int) ≤ ((n + 1 : Nat) : Int) by omega), decide_eq_true (show ((n + 1 : Nat) : Int) ≤ (((nums w h).length : Nat) : Int) by omega), decide_eq_true (show (((nums w h).length : Nat) : Int) ≤ (((nums w h).length : Nat) : Int) by omega)]; rfl
    rw [lt_true hn, inB_nat hn, succ64 (by omega), hin, toNat_nat, toNat_nat, toNat_nat, List.take_length]
    simp only [cond_true]
    obtain ⟨a, _, ha, ea⟩ := mem_nums (getD_mem' (d := (0 : Int)) hn)
    unfold f_iPicture_conflict_run6
    have hl2 : ((nums w h).drop (n + 1)).length ≤ 144 := by rw [List.length_drop]; omega
    refine (iter_findL (step := fun x => f_iPicture_conflict_n6 x.1 x.2.1 x.2.2.1 x.2.2.2.1 x.2.2.2.2.1 x.2.2.2.2.2.1 x.2.2.2.2.2.2.1 x.2.2.2.2.2.2.2.1 x.2.2.2.2.2.2.2.2.1 x.2.2.2.2.2.2.2.2.2.1 x.2.2.2.2.2.2.2.2.2.2.1 x.2.2.2.2.2.2.2.2.2.2.2) (0 : Int) ((nums w h).drop (n + 1)) (fun i => (e, s, (nums w h).getD n 0, (((nums w h).length : Nat) : Int), (n : Int), ((((nums w h).drop (n + 1)).length : Nat) : Int), (i : Int), w, h, f, nums w h, (nums w h).drop (n + 1)))
      (fun b => badN f e s ((nums w h).getD n 0).toNat b.toNat) (fun b => Sum.inr ((nums w h).getD n 0, b, true)) (Sum.inl (e, s, (((nums w h).length : Nat) : Int), ((n + 1 : Nat) : Int), w, h, f, nums w h)) ?_ ?_ ((nums w h).drop (n + 1)).length 0 FU (by omega) (FU_big (pow_big (by omega)))).trans ?_
    · intro i hi hm
      show f_iPicture_conflict_n6 e s ((nums w h).getD n 0) (((nums w h).length : Nat) : Int) n ((((nums w h).drop (n + 1)).length : Nat) : Int) i w h f (nums w h) ((nums w h).drop (n + 1)) = _
      unfold f_iPicture_conflict_n6
      obtain ⟨b, _, hb, eb⟩ := mem_nums (List.mem_of_mem_drop hm)
      rw [lt_true hi, inB_nat hi, toNat_nat, ea, eb, inB_nat ha, inB_nat hb, toNat_nat, toNat_nat, succ64 (by omega)]
      have e95 : s_ialike a b e s = some (alikeB a b e s) := s94_eq he hs
      rw [e95]
      simp only [cond_true, Option.bind]
      unfold badN
      have ec : (f a != f b) = (f b != f a) := by
        by_cases hq : f a = f b
        · rw [hq]
        · have : ¬ f b = f a := fun h => hq h.symm
          rw [bne_iff_ne.2 hq, bne_iff_ne.2 this]
      rw [ec]
      cases f a != 0
      · rfl
      · cases f b != 0
        · rfl
        · cases f b != f a
          · rfl
          · simp only [cond_true]
            cases alikeB a b e s <;> rfl
    · show f_iPicture_conflict_n6 e s ((nums w h).getD n 0) (((nums w h).length : Nat) : Int) n ((((nums w h).drop (n + 1)).length : Nat) : Int) ((((nums w h).drop (n + 1)).length : Nat) : Int) w h f (nums w h) ((nums w h).drop (n + 1)) = _
      unfold f_iPicture_conflict_n6
      rw [lt_neg, cond_false, succ64 (by omega)]
    · rw [List.drop_zero]

  · show f_iPicture_conflict_n3 e s (((nums w h).length : Nat) : Int) (((nums w h).length : Nat) : Int) w h f (nums w h) = _
    unfold f_iPicture_conflict_n3
    rw [lt_neg, cond_false]
end Go.RR
