/- The plain law of ReadJobs: all words, and the law. -/
import Derived.Test.YtbmaolhjplapoaaDoorWg
set_option linter.unusedVariables false
set_option linter.unusedSimpArgs false
namespace Go.RR
open Go

noncomputable def psOf (w : ByteArray) : List ByteArray := (s_sl01Split w 44).getD []
theorem psOf_eq {w : ByteArray} (hw : w.size ≤ 1100000) : s_sl01Split w 44 = some (psOf w) ∧ s_stringsSplit w (⟨#[44]⟩ : ByteArray) = some (psOf w) ∧ 1 ≤ (psOf w).length ∧ (psOf w).length ≤ 1100001 ∧ ∀ p ∈ psOf w, p.size ≤ 1100000 := by
  obtain ⟨ps, e1, e2, e3⟩ := split_two (z := w) (y := 44) (by omega)
  have e1 : s_sl01Split w 44 = some ps := e1
  have e : psOf w = ps := by unfold psOf; rw [e1]; rfl
  have hzl : w.data.toList.length = w.size := rfl
  obtain ⟨l1, l2⟩ := spl_len 44 w.data.toList
  have hn := spl_ne 44 w.data.toList
  have hlen : ps.length = (spl 44 w.data.toList).length := by rw [← e3, List.length_map]
  rw [e]
  refine ⟨e1, e2, ?_, by omega, fun p hp => ?_⟩
  · have : (spl 44 w.data.toList).length ≠ 0 := fun q => hn (List.length_eq_zero_iff.1 q)
    omega
  · have h1 : p.data.toList ∈ spl 44 w.data.toList := by rw [← e3]; exact List.mem_map.2 ⟨p, hp, rfl⟩
    have h2 := l2 _ h1
    have h3 : p.data.toList.length = p.size := rfl
    omega
noncomputable def day31 (v : Int) : Int := IntKind.wrap .i8 (s_sl00Min v 31)
noncomputable def hd0 (w : ByteArray) : ByteArray := (psOf w).getD 0 (⟨#[]⟩ : ByteArray)
noncomputable def jobS (w : ByteArray) (l : List Job) : List Job ⊕ (List Job × Int) := match restO 0 ((psOf w).drop 1) with
  | some b => cond (numB (hd0 w).data.toList).2 (.inl (l ++ [(day31 (numB (hd0 w).data.toList).1, b)])) (.inr ([], 5))
  | none => .inr ([], 5)
noncomputable def jobI (w : ByteArray) (l : List Job) : List Job ⊕ (List Job × Int) := match restO 0 ((psOf w).drop 1) with
  | some b => (match widG 1 30 (hd0 w) with
    | some d => .inl (l ++ [((d : Int), b)])
    | none => .inr ([], 5))
  | none => .inr ([], 5)
noncomputable def gS (ws : List ByteArray) (l : List Job) (i : Nat) : List Job ⊕ (List Job × Int) := jobS (ws.getD i (⟨#[]⟩ : ByteArray)) l
noncomputable def gI (ws : List ByteArray) (l : List Job) (i : Nat) : List Job ⊕ (List Job × Int) := jobI (ws.getD i (⟨#[]⟩ : ByteArray)) l
noncomputable def finJ (z : ByteArray) (l : List Job) : List Job × Int := cond (validB l) (cond ((textJ l).toList == z.toList) (l, 0) ([], 5)) ([], 5)
theorem min31 (v : Int) : s_sl00Min v 31 = if v < 31 then v else 31 := by
  unfold s_sl00Min
  by_cases h : v < 31
  · rw [decide_eq_true h, if_pos h]; rfl
  · rw [decide_eq_false h, if_neg h]; rfl
abbrev Bad (l : List Job) : Prop := ∃ x ∈ l, x.1 = 0 ∨ x.1 = 31
theorem bad_fin {z : ByteArray} {l : List Job} (h : Bad l) : finJ z l = ([], 5) := by
  unfold finJ
  cases hv : validB l
  · rfl
  · exfalso
    obtain ⟨x, hx, h1⟩ := h
    unfold validB at hv
    simp only [Bool.and_eq_true, decide_eq_true_eq] at hv
    have := jobP_days (by omega) (List.all_eq_true.1 hv.2.1 x hx)
    omega
theorem bad_run {z : ByteArray} {ws : List ByteArray} : ∀ (k i : Nat) (l : List Job), Bad l → endL (finJ z) (exitL (gS ws) l (List.range' i k)) = ([], 5)
  | 0, i, l, h => bad_fin h
  | k + 1, i, l, h => by
    rw [List.range'_succ]
    unfold exitL
    cases hg : gS ws l i with
    | inl l' =>
      refine bad_run k (i + 1) l' ?_
      unfold gS jobS at hg
      split at hg
      · cases hb : (numB (hd0 (ws.getD i (⟨#[]⟩ : ByteArray))).data.toList).2
        · rw [hb] at hg; cases hg
        · rw [hb] at hg
          cases hg
          obtain ⟨x, hx, h1⟩ := h
          exact ⟨x, List.mem_append_left _ hx, h1⟩
      · cases hg
    | inr r =>
      unfold gS jobS at hg
      split at hg
      · cases hb : (numB (hd0 (ws.getD i (⟨#[]⟩ : ByteArray))).data.toList).2
        · rw [hb] at hg; cases hg; rfl
        · rw [hb] at hg; cases hg
      · cases hg; rfl
theorem two_runs {z : ByteArray} {ws : List ByteArray} : ∀ (k i : Nat) (l : List Job), endL (finJ z) (exitL (gS ws) l (List.range' i k)) = endL (finJ z) (exitL (gI ws) l (List.range' i k))
  | 0, i, l => rfl
  | k + 1, i, l => by
    rw [List.range'_succ]
    unfold exitL
    generalize hw : ws.getD i (⟨#[]⟩ : ByteArray) = w
    have eS : gS ws l i = jobS w l := by unfold gS; rw [hw]
    have eI : gI ws l i = jobI w l := by unfold gI; rw [hw]
    rw [eS, eI]
    unfold jobS jobI
    cases restO 0 ((psOf w).drop 1) with
    | none => rfl
    | some b =>
      dsimp only
      cases hd : widG 1 30 (hd0 w) with
      | some d =>
        obtain ⟨⟨h1, h2, _⟩, h3⟩ := widG_some (by decide) hd
        have e : day31 (numB (hd0 w).data.toList).1 = (d : Int) := by
          rw [h3]
          unfold day31
          rw [min31, if_pos (by show (d : Int) < 31; omega), IntWalk.i8_in _ (by show -128 ≤ (d : Int) ∧ (d : Int) ≤ 127; omega)]
        rw [e, h3]
        exact two_runs k (i + 1) _
      | none =>
        cases hb : (numB (hd0 w).data.toList).2
        · rfl
        · have hnn := numL_pos (hd0 w).data.toList
          have hv : (numB (hd0 w).data.toList).1 = 0 ∨ 31 ≤ (numB (hd0 w).data.toList).1 := by
            unfold widG at hd
            split at hd
            · cases hd
            · rename_i hc
              by_cases q : (numB (hd0 w).data.toList).1 = 0
              · exact .inl q
              · exact .inr (Classical.byContradiction fun q2 => hc ⟨hb, by show (1 : Int) ≤ _; omega, by show _ ≤ (30 : Int); omega⟩)
          have hd : day31 (numB (hd0 w).data.toList).1 = 0 ∨ day31 (numB (hd0 w).data.toList).1 = 31 := by
            unfold day31
            rw [min31]
            rcases hv with q | q
            · left; rw [q]; rfl
            · right; rw [if_neg (by omega)]; rfl
          exact bad_run k (i + 1) _ ⟨_, List.mem_append_right _ (List.mem_singleton.2 rfl), hd⟩
end Go.RR
