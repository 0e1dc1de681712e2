/- The plain law of BestPlan. -/
import Derived.Test.YtkohnhkehedflaaGh
import Derived.Test.YtkohnhkehedflaaVs
set_option linter.unusedVariables false
set_option linter.unusedSimpArgs false
namespace Go.RR
open Go

theorem tb_zero (k : Nat) : tb 0 k = false := by
  show (0 : Int).toNat.testBit k = false
  exact Nat.zero_testBit k
theorem cnt_none : ∀ (n a : Nat), cntR 0 a n = n
  | 0, _ => rfl
  | n + 1, a => by
    simp only [cntR]
    rw [tb_zero, cnt_none n (a + 1), cond_false]; omega
theorem dayF_none {p : Nat → Bool} {f : Nat → Int} (h : ∀ k, p k = false) : ∀ (ks : List Nat) (m : Int), dayF p f ks m = m
  | [], _ => rfl
  | k :: ks, m => by
    show dayF p f ks (cond (p k) (max m (f k)) m) = m
    rw [h k, cond_false]
    exact dayF_none h ks m
noncomputable def goB (l : List Job) (n : Nat) (Bg : Int) : PS × Nat := go l (boundB l (n : Int)) Bg 13 0 (List.replicate l.length (0, 0)) (List.replicate n 0) 0 ⟨0, 0, none⟩
theorem goB_in {l : List Job} {Bg : Int} {n : Nat} (hn : l.length ≤ 12) (hB : 0 ≤ Bg ∧ Bg ≤ 20000) (hh : 1 ≤ n ∧ n ≤ 4) : OKin l 0 (List.replicate l.length (0, 0)) (List.replicate n 0) ∧ OKst l.length Bg ⟨0, 0, none⟩ ∧ cntR 0 0 l.length < 13 := by
  refine ⟨⟨⟨by omega, Nat.pow_pos (by decide)⟩, by simp, by simp; omega⟩, ⟨hB.1 |> fun h => ⟨Int.le_refl _, h⟩, fun b e => nomatch e⟩, ?_⟩
  rw [cnt_none]; omega
section
variable {l : List Job} {Bg : Int} {n : Nat} (hj : JobsOK l) (hn : l.length ≤ 12) (hB : 0 ≤ Bg ∧ Bg ≤ 20000) (hh : 1 ≤ n ∧ n ≤ 4)
include hj hn hB hh
theorem ibest_eq : s_ibest l (n : Int) Bg = some ((goB l n Bg).1.best.getD [], (goB l n Bg).1.len, !decide ((goB l n Bg).2 = 2)) := by
  obtain ⟨h1, h2, h3⟩ := goB_in hn hB hh
  obtain ⟨r, e1, e2⟩ := (look_ok (Bd := boundB l (n : Int)) hj hn hB.2 13).a 0 _ _ 0 _ h1 h2 h3 rfl
  have e1 : (C_ifinder_look.c).a 0 0 0 (boundB l (n : Int)) 0 Bg false l (List.replicate l.length (0, 0)) (List.replicate n 0) = some r := e1
  unfold s_ibest s_inewShop
  rw [mk_ok _ _ (by omega), mkh_ok hh.2, ibound_eq hj hn (by omega)]
  simp only [cond_true, Option.bind, toNat_nat]
  rw [e1]
  obtain ⟨f1, f2, f3, f4, f5, f6, f7, f8, f9⟩ := e2
  have hg : goB l n Bg = go l (boundB l (n : Int)) Bg 13 0 (List.replicate l.length (0, 0)) (List.replicate n 0) 0 ⟨0, 0, none⟩ := rfl
  rw [← hg] at f1 f2 f6 f7
  rw [← f2, ← f6, ← f7]
  rcases r with r | r <;> rfl
theorem sgo_eq {α : Type} (F : TS1 → Option α) (G : TS2 → Option α) (z : Option α) (h : ∀ r : TS1 ⊕ TS2, IsS l.length (boundB l (n : Int)) Bg (goB l n Bg) (ansSA r) → (match r with | .inl x => F x | .inr y => G y) = z) :
    bind2 ((C_sl07Go.c).a 0 0 (boundB l (n : Int)) Bg 0 0 false l (List.replicate l.length ((0, 0) : Int × Int)) (List.replicate n 0)) F G = z := by
  obtain ⟨h1, h2, h3⟩ := goB_in hn hB hh
  have hab : ¬ AB (boundB l (n : Int)) ⟨0, 0, none⟩ := fun e => by cases e.1
  have hd : DayI l 0 (List.replicate l.length (0, 0)) 0 := (dayF_none (fun k => tb_zero k) _ _).symm
  obtain ⟨r, e1, e2⟩ := (go_ok (Bd := boundB l (n : Int)) hj hn hB.2 13).a 0 _ _ 0 _ h1 h2 hab hd h3 rfl
  have ht : tkn l 0 = 0 := by unfold tkn; rw [cnt_none, Nat.sub_self]; rfl
  rw [ht] at e1
  have e1 : (C_sl07Go.c).a 0 0 (boundB l (n : Int)) Bg 0 0 false l (List.replicate l.length (0, 0)) (List.replicate n 0) = some r := e1
  rw [e1, ← h r e2]
  cases r <;> rfl
end
noncomputable def bestV (l : List Job) (n : Nat) (Bg : Int) : List Slot × Int × Int := cond (decide ((goB l n Bg).2 = 2)) ([], 0, 7) ((goB l n Bg).1.best.getD [], (goB l n Bg).1.len, 0)
noncomputable def bestP (l : List Job) (h Bg : Int) : List Slot × Int × Int :=
  cond (!(validB l)) ([], 0, 1) (cond (!(s_sl07Hands h)) ([], 0, 2) (cond (!(s_sl00In Bg 0 20000)) ([], 0, 2) (bestV l h.toNat Bg)))
theorem in_bg {Bg : Int} (h : s_sl00In Bg 0 20000 = true) : 0 ≤ Bg ∧ Bg ≤ 20000 := by
  unfold s_sl00In at h
  by_cases h1 : Bg ≥ 0
  · rw [decide_eq_true h1, cond_true] at h
    exact ⟨h1, of_decide_eq_true h⟩
  · rw [decide_eq_false h1] at h; cases h
theorem ibestP {l : List Job} {h Bg : Int} (hj : JobsOK l) (hl : l.length ≤ 100000000) : s_iBestPlan l h Bg = some (bestP l h Bg) := by
  have ew : s_iwithin Bg 0 20000 = s_sl00In Bg 0 20000 := rfl
  have eh : s_iisHands h = s_sl07Hands h := rfl
  unfold s_iBestPlan bestP
  rw [iok_eq l hl, ew, eh]
  cases hv : validB l with
  | false => cases s_sl07Hands h <;> cases s_sl00In Bg 0 20000 <;> rfl
  | true =>
    have hn := (valid_ord hv).1
    cases hh : s_sl07Hands h with
    | false => rfl
    | true =>
      cases hb : s_sl00In Bg 0 20000 with
      | false => rfl
      | true =>
        obtain ⟨n, rfl, h1, h2⟩ := hands_le hh
        simp only [Option.bind, cond_true, Bool.not_true, cond_false, show (s_icodeOf true true != 0) = false from rfl, ibest_eq hj hn (in_bg hb) ⟨h1, h2⟩, toNat_nat]
        unfold bestV
        cases decide ((goB l n Bg).2 = 2) <;> rfl
theorem sbestL {l : List Job} {h Bg : Int} (hj : JobsOK l) (hl : l.length ≤ 100000000) : s_sl07Best l h Bg = some (bestP l h Bg) := by
  unfold s_sl07Best s_sl07Asked bestP
  rw [sok_eq l hl]
  cases hv : validB l with
  | false => cases s_sl00In Bg 0 20000 <;> rfl
  | true =>
    obtain ⟨hn, hord⟩ := valid_ord hv
    cases hh : s_sl07Hands h with
    | false => cases s_sl00In Bg 0 20000 <;> rfl
    | true =>
      cases hb : s_sl00In Bg 0 20000 with
      | false => rfl
      | true =>
        obtain ⟨n, rfl, h1, h2⟩ := hands_le hh
        have key : ∀ z, z = bestV l n Bg → some z = some (bestV l n Bg) := fun z e => by rw [e]
        rw [mk_ok l.length 4 (by omega), mkh_ok h2]
        simp only [Option.bind, Bool.not_true, cond_true, cond_false, show ((0 : Int) == 0) = true from rfl, show ((0 : Int) != 0) = false from rfl, sbound_eq hj hn hord (show (n : Int) ≠ 0 by omega), toNat_nat]
        refine sgo_eq hj hn (in_bg hb) ⟨h1, h2⟩ _ _ _ fun r hr => ?_
        obtain ⟨g1, g2, g3, g4, g5⟩ := hr
        have e2 : (ansSA r).ret = !decide ((goB l n Bg).2 = 2) := by rw [g2]; simp
        unfold bestV
        cases hq : decide ((goB l n Bg).2 = 2)
        · rw [hq] at e2
          obtain ⟨_, _, _, i4, _, i6, _⟩ := g3 (of_decide_eq_false hq)
          rcases r with r | r
          · simp only [ansSA] at e2 i4 i6
            show cond (!r.1) _ _ = _
            rw [e2, ← i6, i4]; rfl
          · simp only [ansSA] at e2 i4 i6
            show cond (!r.1) _ _ = _
            rw [e2, ← i6, i4]; rfl
        · rw [hq] at e2
          rcases r with r | r
          · simp only [ansSA] at e2
            show cond (!r.1) _ _ = _
            rw [e2]; rfl
          · simp only [ansSA] at e2
            show cond (!r.1) _ _ = _
            rw [e2]; rfl
theorem goB_len {l : List Job} {Bg : Int} {n : Nat} (hj : JobsOK l) (hn : l.length ≤ 12) (hB : 0 ≤ Bg ∧ Bg ≤ 20000) (hh : 1 ≤ n ∧ n ≤ 4) (hc : (goB l n Bg).2 ≠ 2) : ((goB l n Bg).1.best.getD []).length ≤ 12 := by
  obtain ⟨h1, h2, h3⟩ := goB_in hn hB hh
  obtain ⟨r, e1, e2⟩ := (look_ok (Bd := boundB l (n : Int)) hj hn hB.2 13).a 0 _ _ 0 _ h1 h2 h3 rfl
  have := (e2.ok hc).best
  have hg : goB l n Bg = go l (boundB l (n : Int)) Bg 13 0 (List.replicate l.length (0, 0)) (List.replicate n 0) 0 ⟨0, 0, none⟩ := rfl
  rw [← hg] at this
  cases hb : (goB l n Bg).1.best with
  | none => exact Nat.zero_le _
  | some b => rw [this b hb |> fun h => (show (Option.getD (some b) []).length = l.length from h)]; exact hn
theorem bestP_len {l : List Job} {h Bg : Int} (hj : JobsOK l) : (bestP l h Bg).1.length ≤ 12 := by
  unfold bestP
  cases hv : validB l with
  | false => exact Nat.zero_le _
  | true =>
    have hn := (valid_ord hv).1
    cases hh : s_sl07Hands h with
    | false => exact Nat.zero_le _
    | true =>
      cases hb : s_sl00In Bg 0 20000 with
      | false => exact Nat.zero_le _
      | true =>
        obtain ⟨n, rfl, h1, h2⟩ := hands_le hh
        simp only [Bool.not_true, cond_false, toNat_nat]
        unfold bestV
        cases hq : decide ((goB l n Bg).2 = 2)
        · exact goB_len hj hn (in_bg hb) ⟨h1, h2⟩ (of_decide_eq_false hq)
        · exact Nat.zero_le _
theorem law_BestPlan {l : List Job} {h Bg : Int} (hlm : l.length ≤ maxLen) (hj : ∀ x ∈ l, (-128 ≤ x.1 ∧ x.1 ≤ 127) ∧ (0 ≤ x.2 ∧ x.2 ≤ 65535)) (hh : IntKind.i64.min ≤ h ∧ h ≤ IntKind.i64.max) (hb : IntKind.i64.min ≤ Bg ∧ Bg ≤ IntKind.i64.max) : s_wFnExactBestPlan l h Bg = some true := by
  unfold s_wFnExactBestPlan
  rcases szJobs hlm with ⟨_, h2⟩ | ⟨h3, h2⟩
  · rw [h2, cond_true]
  rw [h2, cond_false]
  have e1 : s_sBestPlan l h Bg = some (bestP l h Bg) := by
    unfold s_sBestPlan
    rw [sbestL hj (by omega)]; rfl
  have e2 := ibestP (h := h) (l := l) (Bg := Bg) hj (by omega)
  have hv := bestP_len (h := h) (l := l) (Bg := Bg) hj
  generalize bestP l h Bg = v at e1 e2 hv
  obtain ⟨m, e3, e4⟩ := markJobs (l := l) (by omega)
  have e7 : decide (((1 + 2 * v.1.length : Nat) : Int) < 0) = false := decide_eq_false (by omega)
  have nn : ∀ x : Int, (x != x) = false := fun x => by simp
  rw [toJobs (by omega)]
  simp only [Option.bind, e1, e2, e3, e4, eqJobs (l := l) (by omega), eqSlots (l := v.1) (by omega), markP_eq v.1 (by omega), heldP_eq v.1.length (by omega), e7, nn, Bool.not_true, cond_false]

/-! ### Hands that are needed -/
noncomputable def handG (l : List Job) (d Bg : Int) (_ : Unit) (i : Nat) : Unit ⊕ (Int × Int) :=
  cond (decide ((goB l (i + 1) Bg).2 = 2)) (.inr (0, 7)) (cond (decide ((goB l (i + 1) Bg).1.len ≤ d)) (.inr (((i + 1 : Nat) : Int), 0)) (.inl ()))
noncomputable def handR (l : List Job) (d Bg : Int) : Int × Int := match exitL (handG l d Bg) () (List.range' 0 4) with
  | .inl _ => (0, 6)
  | .inr r => r
theorem ihand {l : List Job} {d Bg : Int} (hj : JobsOK l) (hn : l.length ≤ 12) (hB : 0 ≤ Bg ∧ Bg ≤ 20000) : f_iHandsNeeded_run5 (d, Bg, 1, l) = some (handR l d Bg) := by
  unfold f_iHandsNeeded_run5 handR
  refine (run_exit (step := fun x => f_iHandsNeeded_n5 x.1 x.2.1 x.2.2.1 x.2.2.2) 4 (fun i (_ : Unit) => (d, Bg, ((i + 1 : Nat) : Int), l)) (handG l d Bg) (fun _ => (0, 6)) () (by omega) ?_ ?_).trans (by cases exitL (handG l d Bg) () (List.range' 0 4) <;> rfl)
  · intro i u hi
    show f_iHandsNeeded_n5 d Bg ((i + 1 : Nat) : Int) l = _
    unfold f_iHandsNeeded_n5 handG
    rw [decide_eq_true (show ((i + 1 : Nat) : Int) ≤ 4 by omega), ibest_eq hj hn hB (n := i + 1) (by omega), succ64 (by omega)]
    simp only [cond_true, Option.bind, Bool.not_not]
    cases decide ((goB l (i + 1) Bg).2 = 2)
    · cases decide ((goB l (i + 1) Bg).1.len ≤ d) <;> rfl
    · rfl
  · intro u
    show f_iHandsNeeded_n5 d Bg 5 l = _
    rfl
theorem shand {l : List Job} {d Bg : Int} (hj : JobsOK l) (hv : validB l = true) (hB : s_sl00In Bg 0 20000 = true) : f_sHandsNeeded_run6 (d, Bg, 1, l) = some (handR l d Bg) := by
  have hn := (valid_ord hv).1
  unfold f_sHandsNeeded_run6 handR
  refine (run_exit (step := fun x => f_sHandsNeeded_n6 x.1 x.2.1 x.2.2.1 x.2.2.2) 4 (fun i (_ : Unit) => (d, Bg, ((i + 1 : Nat) : Int), l)) (handG l d Bg) (fun _ => (0, 6)) () (by omega) ?_ ?_).trans (by cases exitL (handG l d Bg) () (List.range' 0 4) <;> rfl)
  · intro i u hi
    show f_sHandsNeeded_n6 d Bg ((i + 1 : Nat) : Int) l = _
    have hh : s_sl07Hands ((i + 1 : Nat) : Int) = true := by
      unfold s_sl07Hands s_sl00In
      rw [decide_eq_true (show ((i + 1 : Nat) : Int) ≥ 1 by omega), decide_eq_true (show ((i + 1 : Nat) : Int) ≤ 4 by omega)]; rfl
    have eb : bestP l ((i + 1 : Nat) : Int) Bg = bestV l (i + 1) Bg := by
      unfold bestP
      rw [hv, hh, hB]; rfl
    unfold f_sHandsNeeded_n6 handG
    rw [decide_eq_true (show ((i + 1 : Nat) : Int) ≤ 4 by omega), sbestL hj (by omega), eb, succ64 (by omega)]
    simp only [cond_true, Option.bind]
    unfold bestV
    cases decide ((goB l (i + 1) Bg).2 = 2)
    · simp only [cond_false, show ((0 : Int) != 0) = false from rfl]
      cases decide ((goB l (i + 1) Bg).1.len ≤ d) <;> rfl
    · rfl
  · intro u
    show f_sHandsNeeded_n6 d Bg 5 l = _
    rfl
theorem law_HandsNeeded {l : List Job} {d Bg : Int} (hlm : l.length ≤ maxLen) (hj : ∀ x ∈ l, (-128 ≤ x.1 ∧ x.1 ≤ 127) ∧ (0 ≤ x.2 ∧ x.2 ≤ 65535)) (hd : IntKind.i64.min ≤ d ∧ d ≤ IntKind.i64.max) (hb : IntKind.i64.min ≤ Bg ∧ Bg ≤ IntKind.i64.max) : s_wFnExactHandsNeeded l d Bg = some true := by
  unfold s_wFnExactHandsNeeded
  rcases szJobs hlm with ⟨_, h2⟩ | ⟨h3, h2⟩
  · rw [h2, cond_true]
  rw [h2, cond_false]
  have key : ∃ v : Int × Int, s_sHandsNeeded l d Bg = some v ∧ s_iHandsNeeded l d Bg = some v := by
    have ew : s_iwithin Bg 0 20000 = s_sl00In Bg 0 20000 := rfl
    have ed : s_iwithin d 0 1000 = s_sl00In d 0 1000 := rfl
    unfold s_sHandsNeeded s_iHandsNeeded
    rw [sok_eq l (by omega), iok_eq l (by omega), ew, ed]
    cases hv : validB l with
    | false => cases s_sl00In d 0 1000 <;> cases s_sl00In Bg 0 20000 <;> exact ⟨_, rfl, rfl⟩
    | true =>
      cases hdd : s_sl00In d 0 1000 with
      | false => exact ⟨_, rfl, rfl⟩
      | true =>
        cases hbb : s_sl00In Bg 0 20000 with
        | false => exact ⟨_, rfl, rfl⟩
        | true => exact ⟨_, shand hj hv hbb, ihand hj (valid_ord hv).1 (in_bg hbb)⟩
  obtain ⟨v, e1, e2⟩ := key
  have nn : ∀ x : Int, (x != x) = false := fun x => by simp
  rw [toJobs (by omega)]
  simp only [Option.bind, e1, e2, eqJobs (l := l) (by omega), nn, Bool.not_true, cond_false]
end Go.RR
