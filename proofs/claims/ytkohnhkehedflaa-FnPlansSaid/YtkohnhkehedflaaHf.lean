/- Plain facts of plans: faults, codes, lengths, busy and idle days, orders. -/
import Derived.Test.YtkohnhkehedflaaHc
import Derived.Test.YtkohnhkehedflaaVx
import Derived.Test.YtkohnhkehedflaaVs
set_option linter.unusedVariables false
set_option linter.unusedSimpArgs false
namespace Go.RR
open Go
noncomputable def badB (h : Int) (l : List Job) (p : List Slot) (i k : Nat) : Bool :=
 cond (!(s_q1o h (p.getD k (0, 0)).1 (p.getD k (0, 0)).2)) false
  (cond (cond (waitsB l i k) (decide (IntKind.wrap .i64 (p.getD i (0, 0)).2 < doneB l p k)) false) true
   (cond (decide ((k : Int) < (i : Int))) (cond ((p.getD k (0, 0)).1 == (p.getD i (0, 0)).1) (cond (decide (IntKind.wrap .i64 (p.getD i (0, 0)).2 < doneB l p k)) (decide (IntKind.wrap .i64 (p.getD k (0, 0)).2 < doneB l p i)) false) false) false))
noncomputable def faultB (h : Int) (l : List Job) (p : List Slot) (i : Nat) : Bool :=
 cond (!(s_q1o h (p.getD i (0, 0)).1 (p.getD i (0, 0)).2)) true (!((List.range' 0 l.length).all fun k => !(badB h l p i k)))
noncomputable def faultI (h : Int) (l : List Job) (p : List Slot) : Int := match (List.range' 0 l.length).find? (faultB h l p) with
 | some j => (j : Int)
 | none => -1
theorem sfault_inner {h : Int} {l : List Job} {p : List Slot} (hj : JobsOK l) (hn : l.length ≤ 12) (hp : p.length = l.length) {i : Nat} (hi : i < l.length) :
  f_q14_run7 (h, (i : Int), 0, l, p) = some (cond ((List.range' 0 l.length).all fun k => !(badB h l p i k)) (Sum.inl (h, ((i + 1 : Nat) : Int), l, p)) (Sum.inr (i : Int))) := by
 unfold f_q14_run7
 refine run_all (step := fun x => f_q14_n7 x.1 x.2.1 x.2.2.1 x.2.2.2.1 x.2.2.2.2) l.length (fun k => (h, (i : Int), (k : Int), l, p)) (fun k => !(badB h l p i k)) _ _ (by omega) ?_ ?_
 ·intro k hk
  show f_q14_n7 h i k l p = _
  unfold f_q14_n7
  rw [lt_true hk, inB_nat (show k < p.length by omega), inB_nat (show i < p.length by omega), swaits_eq hj hi (by omega), sdone_eq hk (by omega), sdone_eq hi (by omega), toNat_nat, toNat_nat, succ64 (by omega)]
  unfold badB
  simp only [cond_true, Option.bind]
  cases s_q1o h (p.getD k (0, 0)).1 (p.getD k (0, 0)).2
  ·rfl
  ·cases waitsB l i k <;> cases decide (IntKind.wrap .i64 (p.getD i (0, 0)).2 < doneB l p k) <;> cases decide ((k : Int) < (i : Int)) <;> cases ((p.getD k (0, 0)).1 == (p.getD i (0, 0)).1) <;> cases decide (IntKind.wrap .i64 (p.getD k (0, 0)).2 < doneB l p i) <;> rfl
 ·show f_q14_n7 h i (l.length : Nat) l p = _
  unfold f_q14_n7
  rw [lt_neg, cond_false, succ64 (by omega)]
theorem sfault_eq {h : Int} {l : List Job} {p : List Slot} (hj : JobsOK l) (hn : l.length ≤ 12) (hp : p.length = l.length) : s_q14 l h p = some (faultI h l p) := by
 unfold s_q14 f_q14_run2
 have hs1 : ∀ i, i < l.length → f_q14_n2 h i l p = some (cond (faultB h l p i) (Sum.inr (i : Int)) (Sum.inl (h, ((i + 1 : Nat) : Int), l, p))) := by
  intro i hi
  unfold f_q14_n2
  rw [lt_true hi, inB_nat (show i < p.length by omega), toNat_nat, sfault_inner hj hn hp hi]
  unfold faultB
  cases s_q1o h (p.getD i (0, 0)).1 (p.getD i (0, 0)).2
  ·rfl
  ·cases (List.range' 0 l.length).all fun k => !(badB h l p i k) <;> rfl
 have he1 : f_q14_n2 h (l.length : Nat) l p = some (Sum.inr (-1)) := by
  unfold f_q14_n2
  rw [lt_neg, cond_false]
 obtain ⟨r, h1, _, h3⟩ := run_idx (step := fun x => f_q14_n2 x.1 x.2.1 x.2.2.1 x.2.2.2) l.length (fun i => (h, (i : Int), l, p)) (faultB h l p) hs1 he1 l.length 0 FU (by omega) (FU_big (pow_big (by omega)))
 have h1 : iter (fun x => f_q14_n2 x.1 x.2.1 x.2.2.1 x.2.2.2) FU (h, 0, l, p) = some r := h1
 rw [h1, h3]; rfl
theorem iwrong_1_eq {h : Int} {l : List Job} {p : List Slot} (hj : JobsOK l) (hn : l.length ≤ 12) (hp : p.length = l.length) {i : Nat} (hi : i < l.length) : s_q1f i p h l = some (faultB h l p i) := by
 unfold s_q1f
 rw [inB_nat (show i < p.length by omega), toNat_nat, cond_true]
 have es : ∀ x y : Int, s_q1u x y h = s_q1o h x y := fun x y => rfl
 rw [es]
 have key : f_q1f_run5 ((i : Int), ((p.length : Nat) : Int), 0, h, l, (p.getD i (0, 0)).1, (p.getD i (0, 0)).2, p) = some (cond ((List.range' 0 p.length).all fun k => !(badB h l p i k)) false true) := by
  unfold f_q1f_run5
  refine run_all (step := fun x => f_q1f_n5 x.1 x.2.1 x.2.2.1 x.2.2.2.1 x.2.2.2.2.1 x.2.2.2.2.2.1 x.2.2.2.2.2.2.1 x.2.2.2.2.2.2.2) p.length (fun k => ((i : Int), ((p.length : Nat) : Int), (k : Int), h, l, (p.getD i (0, 0)).1, (p.getD i (0, 0)).2, p)) (fun k => !(badB h l p i k)) _ _ (by omega) ?_ ?_
  ·intro k hk
   show f_q1f_n5 i (p.length : Nat) k h l (p.getD i (0, 0)).1 (p.getD i (0, 0)).2 p = _
   unfold f_q1f_n5
   rw [lt_true hk, inB_nat hk, inB_nat hi, inB_nat (show k < l.length by omega), toNat_nat, toNat_nat, iwaits_eq hj hi, es, succ64 (by omega)]
   have e1 : s_q29 (l.getD k (0, 0)).1 (l.getD k (0, 0)).2 (p.getD k (0, 0)).1 (p.getD k (0, 0)).2 = doneB l p k := rfl
   have e2 : s_q29 (l.getD i (0, 0)).1 (l.getD i (0, 0)).2 (p.getD i (0, 0)).1 (p.getD i (0, 0)).2 = doneB l p i := rfl
   rw [e1, e2]
   unfold badB
   simp only [cond_true, Option.bind]
   cases s_q1o h (p.getD k (0, 0)).1 (p.getD k (0, 0)).2
   ·rfl
   ·cases waitsB l i k <;> cases decide (IntKind.wrap .i64 (p.getD i (0, 0)).2 < doneB l p k) <;> cases decide ((k : Int) < (i : Int)) <;> cases ((p.getD k (0, 0)).1 == (p.getD i (0, 0)).1) <;> cases decide (IntKind.wrap .i64 (p.getD k (0, 0)).2 < doneB l p i) <;> rfl
  ·show f_q1f_n5 i (p.length : Nat) (p.length : Nat) h l (p.getD i (0, 0)).1 (p.getD i (0, 0)).2 p = _
   unfold f_q1f_n5
   rw [lt_neg, cond_false]
 rw [key, hp]
 unfold faultB
 cases s_q1o h (p.getD i (0, 0)).1 (p.getD i (0, 0)).2
 ·rfl
 ·cases (List.range' 0 l.length).all fun k => !(badB h l p i k) <;> rfl
theorem iwrong_eq {h : Int} {l : List Job} {p : List Slot} (hj : JobsOK l) (hn : l.length ≤ 12) (hp : p.length = l.length) : s_q24 l h p = some (faultI h l p) := by
 unfold s_q24
 rw [indices_eq hn]
 simp only [Option.bind]
 unfold s_q03 f_q03_run2
 have hlen : ((List.range' 0 l.length).map fun i : Nat => (i : Int)).length = l.length := by simp
 rw [hlen]
 have hs1 : ∀ i, i < l.length → f_q03_n2 (l.length : Nat) i ((List.range' 0 l.length).map fun i : Nat => (i : Int)) p h l = some (cond (faultB h l p i) (Sum.inr (i : Int)) (Sum.inl (((l.length : Nat) : Int), ((i + 1 : Nat) : Int), (List.range' 0 l.length).map (fun i : Nat => (i : Int)), p, h, l))) := by
  intro i hi
  unfold f_q03_n2
  have hg : ((List.range' 0 l.length).map fun i : Nat => (i : Int)).getD i 0 = (i : Int) := by
   rw [List.getD_eq_getElem?_getD, List.getElem?_map, List.getElem?_range' hi]
   simp
  rw [hlen, lt_true hi, inB_nat hi, toNat_nat, hg, iwrong_1_eq hj hn hp hi, succ64 (by omega)]
  simp only [cond_true, Option.bind]
  cases faultB h l p i <;> rfl
 have he1 : f_q03_n2 (l.length : Nat) (l.length : Nat) ((List.range' 0 l.length).map fun i : Nat => (i : Int)) p h l = some (Sum.inr (-1)) := by
  unfold f_q03_n2
  rw [lt_neg, cond_false]
 obtain ⟨r, h1, _, h3⟩ := run_idx (step := fun x => f_q03_n2 x.1 x.2.1 x.2.2.1 x.2.2.2.1 x.2.2.2.2.1 x.2.2.2.2.2) l.length (fun i => (((l.length : Nat) : Int), (i : Int), (List.range' 0 l.length).map (fun i : Nat => (i : Int)), p, h, l)) (faultB h l p) hs1 he1 l.length 0 FU (by omega) (FU_big (pow_big (by omega)))
 have h1 : iter (fun x => f_q03_n2 x.1 x.2.1 x.2.2.1 x.2.2.2.1 x.2.2.2.2.1 x.2.2.2.2.2) FU (((l.length : Nat) : Int), 0, (List.range' 0 l.length).map (fun i : Nat => (i : Int)), p, h, l) = some r := h1
 rw [h1, h3]; rfl
noncomputable def planB (h : Int) (l : List Job) (p : List Slot) : Bool := decide (p.length = l.length) && decide (faultI h l p < 0)
noncomputable def slotsB (h : Int) (l : List Job) (p : List Slot) : Bool := validB l && (s_q15 h && planB h l p)
theorem splan_eq {h : Int} {l : List Job} {p : List Slot} (hj : JobsOK l) (hn : l.length ≤ 12) : s_q1n l h p = some (planB h l p) := by
 unfold s_q1n planB
 rw [len_beq]
 by_cases hp : p.length = l.length
 ·rw [decide_eq_true hp, sfault_eq hj hn hp]; rfl
 ·rw [decide_eq_false hp]; rfl
theorem ivalid_eq {h : Int} {l : List Job} {p : List Slot} (hj : JobsOK l) (hl : l.length ≤ 100000000) : s_q0j l h p = some (slotsB h l p) := by
 unfold s_q0j slotsB
 have eh : s_q1a h = s_q15 h := rfl
 rw [iok_eq l hl, len_beq, eh]
 cases hv : validB l
 ·rfl
 ·obtain ⟨hn, _⟩ := valid_ord hv
  unfold planB
  by_cases hp : p.length = l.length
  ·rw [decide_eq_true hp, iwrong_eq hj hn hp]
   cases s_q15 h <;> rfl
  ·rw [decide_eq_false hp]
   cases s_q15 h <;> rfl
noncomputable def codeP (h : Int) (l : List Job) (p : List Slot) : Int := cond (!(validB l)) 1 (cond (!(s_q15 h)) 2 (cond (!(planB h l p)) 1 0))
theorem splanned_eq {h : Int} {l : List Job} {p : List Slot} (hj : JobsOK l) (hl : l.length ≤ 100000000) : s_q0n l h p = some (codeP h l p) := by
 unfold s_q0n codeP
 rw [sok_eq l hl]
 cases hv : validB l
 ·rfl
 ·obtain ⟨hn, _⟩ := valid_ord hv
  rw [splan_eq hj hn]
  cases s_q15 h
  ·rfl
  ·cases planB h l p <;> rfl
theorem icode_eq {h : Int} {l : List Job} {p : List Slot} (hj : JobsOK l) (hl : l.length ≤ 100000000) : s_q0w l h p = some (codeP h l p) := by
 unfold s_q0w codeP
 have eh : s_q1a h = s_q15 h := rfl
 rw [iok_eq l hl, eh, ivalid_eq hj hl]
 unfold slotsB
 cases hv : validB l
 ·cases s_q15 h <;> rfl
 ·cases s_q15 h
  ·rfl
  ·cases planB h l p <;> rfl
theorem codeP_ok {h : Int} {l : List Job} {p : List Slot} (hc : codeP h l p = 0) : validB l = true ∧ s_q15 h = true ∧ p.length = l.length ∧ l.length ≤ 12 := by
 unfold codeP at hc
 cases hv : validB l
 ·rw [hv] at hc; cases hc
 ·obtain ⟨hn, _⟩ := valid_ord hv
  rw [hv] at hc
  cases hh : s_q15 h
  ·rw [hh] at hc; cases hc
  ·rw [hh] at hc
   cases hp : planB h l p
   ·rw [hp] at hc; cases hc
   ·unfold planB at hp
    simp only [Bool.and_eq_true, decide_eq_true_eq] at hp
    exact ⟨rfl, rfl, hp.1, hn⟩
theorem ilen_eq {l : List Job} {p : List Slot} (hn : l.length ≤ 12) (hp : p.length = l.length) : s_q0v l p = some (lenB l p) := by
 unfold s_q0v f_q0v_run3
 refine run_count (step := fun x => f_q0v_n3 x.1 x.2.1 x.2.2.1 x.2.2.2.1 x.2.2.2.2) l.length (fun i (m : Int) => (m, ((l.length : Nat) : Int), (i : Int), p, l)) (fun m k => max m (doneB l p k)) _ 0 (by omega) ?_ ?_
 ·intro i m hi
  show f_q0v_n3 m (l.length : Nat) i p l = _
  unfold f_q0v_n3
  rw [lt_true hi, inB_nat hi, inB_nat (show i < p.length by omega), toNat_nat, succ64 (by omega)]
  rfl
 ·show f_q0v_n3 _ (l.length : Nat) (l.length : Nat) p l = _
  unfold f_q0v_n3
  rw [lt_neg, cond_false]; rfl
noncomputable def busyB (l : List Job) (p : List Slot) (d : Int) (k : Nat) : Bool := cond (decide (IntKind.wrap .i64 (p.getD k (0, 0)).2 ≤ d)) (decide (d < doneB l p k)) false
noncomputable def busyL (l : List Job) (p : List Slot) (d : Int) : List Int := (List.range' 0 l.length).foldl (fun st k => cond (busyB l p d k) (st ++ [(k : Int)]) st) []
theorem ibusy_run {l : List Job} {p : List Slot} {d : Int} (hj : JobsOK l) (hs : SlotsOK p) (hn : l.length ≤ 12) (hp : p.length = l.length) : f_q1s_run8 (d, ((l.length : Nat) : Int), 0, p, [], l) = some (busyL l p d, 0) := by
 unfold f_q1s_run8
 refine run_countI (step := fun x => f_q1s_n8 x.1 x.2.1 x.2.2.1 x.2.2.2.1 x.2.2.2.2.1 x.2.2.2.2.2) l.length (fun i (st : List Int) => (d, ((l.length : Nat) : Int), (i : Int), p, st, l)) (fun st k => cond (busyB l p d k) (st ++ [(k : Int)]) st) (fun i st => st.length ≤ i) _ [] (by omega) (Nat.le_refl _) ?_ ?_
 ·intro i st hi hI
  constructor
  ·show f_q1s_n8 d (l.length : Nat) i p st l = _
   unfold f_q1s_n8
   rw [lt_true hi, inB_nat hi, inB_nat (show i < p.length by omega), toNat_nat, fits_small (by simp; omega), succ64 (by omega)]
   have e1 : s_q29 (l.getD i (0, 0)).1 (l.getD i (0, 0)).2 (p.getD i (0, 0)).1 (p.getD i (0, 0)).2 = doneB l p i := rfl
   rw [e1]
   have hwi : s_q1v d (IntKind.wrap .i64 (p.getD i (0, 0)).2) (IntKind.wrap .i64 (doneB l p i - 1)) = busyB l p d i := by
    have q1 := (hj _ (getD_mem' (d := ((0, 0) : Job)) hi)).1
    have q2 := (hs _ (getD_mem' (d := ((0, 0) : Slot)) (show i < p.length by omega))).2
    unfold s_q1v busyB doneB
    rw [IntWalk.i64_in (p.getD i (0, 0)).2 (by omega), IntWalk.i64_in (l.getD i (0, 0)).1 (by omega), IntWalk.i64_in ((p.getD i (0, 0)).2 + (l.getD i (0, 0)).1) (by omega), IntWalk.i64_in ((p.getD i (0, 0)).2 + (l.getD i (0, 0)).1 - 1) (by omega)]
    have a : decide (d ≥ (p.getD i (0, 0)).2) = decide ((p.getD i (0, 0)).2 ≤ d) := rfl
    have b : decide (d ≤ (p.getD i (0, 0)).2 + (l.getD i (0, 0)).1 - 1) = decide (d < (p.getD i (0, 0)).2 + (l.getD i (0, 0)).1) := decide_eq_decide.2 (by omega)
    rw [b]
   rw [hwi]
   simp only [cond_true]
   cases busyB l p d i <;> rfl
  ·cases busyB l p d i
   ·show st.length ≤ i + 1; omega
   ·show (st ++ [(i : Int)]).length ≤ i + 1
    simp; omega
 ·intro _
  show f_q1s_n8 d (l.length : Nat) (l.length : Nat) p _ l = _
  unfold f_q1s_n8
  rw [lt_neg, cond_false]; rfl
noncomputable def okO (l : List Job) (done x : Int) : Bool := s_q25 x 0 (((l.length : Nat) : Int) - 1) && (!(bShr .u16 done x % 2 == 1) && (bAndNot .u16 (l.getD x.toNat (0, 0)).2 done == 0))
noncomputable def isO (l : List Job) : Int → List Int → Bool
 | _, [] => true
 | done, x :: r => cond (okO l done x) (isO l (bOr .u16 done (bShl .u16 1 x)) r) false
noncomputable def stepO (l : List Job) (s : List Slot × List Int) (x : Int) : List Slot × List Int :=
 (s.1.set x.toNat (slotB l s.1 s.2 x.toNat), s.2.set (slotB l s.1 s.2 x.toNat).1.toNat (IntKind.wrap .i64 (IntKind.wrap .i64 (slotB l s.1 s.2 x.toNat).2 + IntKind.wrap .i64 (l.getD x.toNat (0, 0)).1)))
theorem in_nat {l : List Job} {x : Int} (h : s_q25 x 0 (((l.length : Nat) : Int) - 1) = true) : ∃ j : Nat, j < l.length ∧ x = (j : Int) := by
 unfold s_q25 at h
 by_cases h1 : x ≥ 0
 ·rw [decide_eq_true h1, cond_true] at h
  have := of_decide_eq_true h
  exact ⟨x.toNat, by omega, by omega⟩
 ·rw [decide_eq_false h1, cond_false] at h; cases h
theorem isO_eq {l : List Job} {ord : List Int} (hn : l.length ≤ 12) (ho : ord.length ≤ 1100000) : s_q1b l ord = some (isO l 0 ord && decide (ord.length = l.length)) := by
 unfold s_q1b f_q1b_run3
 have key : ∀ (r : List Int) (i m : Nat) (done : Int), ord.drop i = r → i + r.length = ord.length → r.length < m → 0 ≤ done →
   iter (fun x => f_q1b_n3 x.1 x.2.1 x.2.2.1 x.2.2.2.1 x.2.2.2.2) m (done, ((ord.length : Nat) : Int), (i : Int), l, ord) = some (isO l done r && decide (ord.length = l.length)) := by
  intro r
  induction r with
  | nil =>
   intro i m done hd hi hm h0
   obtain ⟨m, rfl⟩ : ∃ k, m = k + 1 := ⟨m - 1, by simp at hm; omega⟩
   unfold iter
   have e : f_q1b_n3 done ((ord.length : Nat) : Int) (i : Int) l ord = some (Sum.inr (decide (ord.length = l.length))) := by
    unfold f_q1b_n3
    simp only [List.length_nil, Nat.add_zero] at hi
    rw [hi, lt_neg, cond_false, len_beq]
   dsimp only
   rw [e]
   simp [isO]
  | cons x r ih =>
   intro i m done hd hi hm h0
   obtain ⟨m, rfl⟩ : ∃ k, m = k + 1 := ⟨m - 1, by simp at hm; omega⟩
   simp only [List.length_cons] at hi hm
   have hil : i < ord.length := by omega
   have hx : ord.getD i 0 = x := by
    have h1 := List.drop_eq_getElem_cons hil
    rw [hd] at h1
    rw [getD_at 0 hil]
    exact (List.cons.inj h1).1.symm
   have hr : ord.drop (i + 1) = r := by
    have h1 := List.drop_eq_getElem_cons hil
    rw [hd] at h1
    exact (List.cons.inj h1).2.symm
   unfold iter
   have e : f_q1b_n3 done ((ord.length : Nat) : Int) (i : Int) l ord = some (cond (okO l done x) (Sum.inl (bOr .u16 done (bShl .u16 1 x), ((ord.length : Nat) : Int), ((i + 1 : Nat) : Int), l, ord)) (Sum.inr false)) := by
    unfold f_q1b_n3
    rw [lt_true hil, inB_nat hil, toNat_nat, hx, IntWalk.i64_in (((l.length : Nat) : Int) - 1) (by omega), within_eq, succ64 (by omega)]
    unfold okO
    cases hin : s_q25 x 0 (((l.length : Nat) : Int) - 1) with
    | false => rfl
    | true =>
     obtain ⟨j, hjl, rfl⟩ := in_nat hin
     rw [dlt0, and1 (shr_range h0).1, inB_nat hjl, toNat_nat]
     rw [show (bAndNot .u16 (l.getD j (0, 0)).2 done != 0) = !(bAndNot .u16 (l.getD j (0, 0)).2 done == 0) from rfl]
     cases (bShr .u16 done (j : Int) % 2 == 1) <;> cases (bAndNot .u16 (l.getD j (0, 0)).2 done == 0) <;> rfl
   dsimp only
   rw [e]
   simp only [isO]
   cases hok : okO l done x
   ·rfl
   ·exact ih (i + 1) m _ hr (by omega) (by omega) (wu16 _).1
 exact key ord 0 FU 0 rfl (by omega) (FU_big (pow_big (by omega))) (by omega)
theorem stepO_len {l : List Job} {s : List Slot × List Int} {x : Int} : (stepO l s x).1.length = s.1.length ∧ (stepO l s x).2.length = s.2.length := by simp [stepO]
theorem iplan_run {l : List Job} {ord : List Int} (hj : JobsOK l) (hn : l.length ≤ 12) (ho : ord.length ≤ 1100000) : ∀ (r : List Int) (i m : Nat) (done : Int) (s : List Slot × List Int), ord.drop i = r → i + r.length = ord.length → r.length < m → isO l done r = true → s.1.length = l.length → (1 ≤ s.2.length ∧ s.2.length ≤ 4) →
  iter (fun x => f_q0b_n8 x.1 x.2.1 x.2.2.1 x.2.2.2.1 x.2.2.2.2.1 x.2.2.2.2.2) m (((ord.length : Nat) : Int), (i : Int), l, s.1, s.2, ord) = some ((r.foldl (stepO l) s).1, 0) := by
 intro r
 induction r with
 | nil =>
  intro i m done s hd hi hm h0 hp hf
  obtain ⟨m, rfl⟩ : ∃ k, m = k + 1 := ⟨m - 1, by simp at hm; omega⟩
  unfold iter
  have e : f_q0b_n8 ((ord.length : Nat) : Int) (i : Int) l s.1 s.2 ord = some (Sum.inr (s.1, 0)) := by
   unfold f_q0b_n8
   simp only [List.length_nil, Nat.add_zero] at hi
   rw [hi, lt_neg, cond_false]
  dsimp only
  rw [e]
  rfl
 | cons x r ih =>
  intro i m done s hd hi hm h0 hp hf
  obtain ⟨m, rfl⟩ : ∃ k, m = k + 1 := ⟨m - 1, by simp at hm; omega⟩
  simp only [List.length_cons] at hi hm
  have hil : i < ord.length := by omega
  have h1 := List.drop_eq_getElem_cons hil
  rw [hd] at h1
  have hx : ord.getD i 0 = x := by rw [getD_at 0 hil]; exact (List.cons.inj h1).1.symm
  have hr : ord.drop (i + 1) = r := (List.cons.inj h1).2.symm
  simp only [isO] at h0
  cases hok : okO l done x with
  | false => rw [hok] at h0; cases h0
  | true =>
   rw [hok, cond_true] at h0
   unfold okO at hok
   simp only [Bool.and_eq_true] at hok
   obtain ⟨j, hjl, rfl⟩ := in_nat hok.1
   obtain ⟨h, hh, eh⟩ := slot_hand (l := l) (p := s.1) (i := j) hf
   unfold iter
   have e : f_q0b_n8 ((ord.length : Nat) : Int) (i : Int) l s.1 s.2 ord = some (Sum.inl (((ord.length : Nat) : Int), ((i + 1 : Nat) : Int), l, (stepO l s (j : Int)).1, (stepO l s (j : Int)).2, ord)) := by
    unfold f_q0b_n8
    rw [lt_true hil, inB_nat hil, toNat_nat, hx, islot_eq hj hn hp hjl hf, succ64 (by omega)]
    have e1 : inB (slotB l s.1 s.2 j).1 s.2.length = true := by rw [eh]; exact inB_nat hh
    simp only [cond_true, Option.bind, e1, inB_nat hjl, inB_nat (show j < s.1.length by omega)]
    rfl
   dsimp only
   rw [e]
   exact ih (i + 1) m _ (stepO l s (j : Int)) hr (by omega) (by omega) h0 (by rw [stepO_len.1]; exact hp) (by rw [stepO_len.2]; exact hf)
theorem splan_run {l : List Job} {ord : List Int} (hj : JobsOK l) (hn : l.length ≤ 12) (ho : ord.length ≤ 1100000) : ∀ (r : List Int) (i m : Nat) (done : Int) (s : List Slot × List Int), ord.drop i = r → i + r.length = ord.length → r.length < m → 0 ≤ done → s.1.length = l.length → (1 ≤ s.2.length ∧ s.2.length ≤ 4) →
  iter (fun x => f_q0f_n10 x.1 x.2.1 x.2.2.1 x.2.2.2.1 x.2.2.2.2.1 x.2.2.2.2.2) m (done, (i : Int), l, ord, s.1, s.2) = some (cond (isO l done r) ((r.foldl (stepO l) s).1, 0) ([], 4)) := by
 intro r
 induction r with
 | nil =>
  intro i m done s hd hi hm h0 hp hf
  obtain ⟨m, rfl⟩ : ∃ k, m = k + 1 := ⟨m - 1, by simp at hm; omega⟩
  unfold iter
  have e : f_q0f_n10 done (i : Int) l ord s.1 s.2 = some (Sum.inr (s.1, 0)) := by
   unfold f_q0f_n10
   simp only [List.length_nil, Nat.add_zero] at hi
   rw [hi, lt_neg, cond_false]
  dsimp only
  rw [e]
  rfl
 | cons x r ih =>
  intro i m done s hd hi hm h0 hp hf
  obtain ⟨m, rfl⟩ : ∃ k, m = k + 1 := ⟨m - 1, by simp at hm; omega⟩
  simp only [List.length_cons] at hi hm
  have hil : i < ord.length := by omega
  have h1 := List.drop_eq_getElem_cons hil
  rw [hd] at h1
  have hx : ord.getD i 0 = x := by rw [getD_at 0 hil]; exact (List.cons.inj h1).1.symm
  have hr : ord.drop (i + 1) = r := (List.cons.inj h1).2.symm
  unfold iter
  have e : f_q0f_n10 done (i : Int) l ord s.1 s.2 = some (cond (okO l done x) (Sum.inl (bOr .u16 done (bShl .u16 1 x), ((i + 1 : Nat) : Int), l, ord, (stepO l s x).1, (stepO l s x).2)) (Sum.inr ([], 4))) := by
   unfold f_q0f_n10
   rw [lt_true hil, inB_nat hil, toNat_nat, hx, IntWalk.i64_in (((l.length : Nat) : Int) - 1) (by omega), succ64 (by omega)]
   unfold okO
   cases hin : s_q25 x 0 (((l.length : Nat) : Int) - 1) with
   | false => rfl
   | true =>
    obtain ⟨j, hjl, rfl⟩ := in_nat hin
    obtain ⟨h, hh, eh⟩ := slot_hand (l := l) (p := s.1) (i := j) hf
    have ht : Int.tmod (bShr .u16 done (j : Int)) 2 = bShr .u16 done (j : Int) % 2 := Int.tmod_eq_emod_of_nonneg (shr_range h0).1
    rw [u64n (by omega), dlt0, ht, inB_nat hjl, toNat_nat]
    rw [show (bAndNot .u16 (l.getD j (0, 0)).2 done != 0) = !(bAndNot .u16 (l.getD j (0, 0)).2 done == 0) from rfl]
    cases (bShr .u16 done (j : Int) % 2 == 1)
    ·cases (bAndNot .u16 (l.getD j (0, 0)).2 done == 0)
     ·rfl
     ·have hjp : j < s.1.length := by omega
      have hd1 := sdone_eq (l := l) (p := s.1.set j (slotB l s.1 s.2 j)) hjl (by simp; omega)
      simp only [Bool.not_true, cond_false, cond_true, sput_eq hj hn hp hjl hf, Option.bind, inB_nat hjp, List.length_set]
      rw [hd1]
      have hg : List.getD (s.1.set j (slotB l s.1 s.2 j)) j (0, 0) = slotB l s.1 s.2 j := by
       rw [List.getD_eq_getElem?_getD, List.getElem?_set_self hjp]; rfl
      have e1 : inB (slotB l s.1 s.2 j).1 s.2.length = true := by rw [eh]; exact inB_nat hh
      simp only [hg, e1, cond_true, doneB]
      rfl
    ·rfl
  dsimp only
  rw [e]
  simp only [isO]
  cases hok : okO l done x
  ·rfl
  ·exact ih (i + 1) m _ (stepO l s x) hr (by omega) (by omega) (wu16 _).1 (by rw [stepO_len.1]; exact hp) (by rw [stepO_len.2]; exact hf)
noncomputable def planO (h : Int) (l : List Job) (ord : List Int) : List Slot × Int :=
 cond (!(validB l)) ([], 1) (cond (!(s_q15 h)) ([], 2) (cond (isO l 0 ord && decide (ord.length = l.length)) ((ord.foldl (stepO l) (List.replicate l.length (0, 0), List.replicate h.toNat 0)).1, 0) ([], 4)))
theorem splanO_eq {h : Int} {l : List Job} {ord : List Int} (hj : JobsOK l) (hl : l.length ≤ 100000000) (ho : ord.length ≤ 1100000) : s_q0f l h ord = some (planO h l ord) := by
 unfold s_q0f s_q11 planO
 rw [sok_eq l hl]
 cases hv : validB l with
 | false => rfl
 | true =>
  have hn := (valid_ord hv).1
  cases hh : s_q15 h with
  | false => rfl
  | true =>
   obtain ⟨n, rfl, h1, h2⟩ := hands_le hh
   rw [len_bne]
   rw [mk_ok _ _ (by omega), mkh_ok h2]
   simp only [Option.bind, Bool.not_true, cond_true, cond_false]
   by_cases hlen : ord.length = l.length
   ·rw [decide_eq_true hlen, Bool.and_true]
    have key := splan_run hj hn ho ord 0 FU 0 (List.replicate l.length (0, 0), List.replicate n 0) rfl (by omega) (FU_big (pow_big (by omega))) (by omega) (by simp) (by simp; omega)
    exact key
   ·rw [decide_eq_false hlen, Bool.and_false]; rfl
theorem iplanO_eq {h : Int} {l : List Job} {ord : List Int} (hj : JobsOK l) (hl : l.length ≤ 100000000) (ho : ord.length ≤ 1100000) : s_q0b l h ord = some (planO h l ord) := by
 unfold s_q0b planO
 rw [iok_eq l hl]
 have e : s_q1a h = s_q15 h := rfl
 rw [e]
 cases hv : validB l with
 | false => rfl
 | true =>
  have hn := (valid_ord hv).1
  cases hh : s_q15 h with
  | false => rfl
  | true =>
   obtain ⟨n, rfl, h1, h2⟩ := hands_le hh
   have e0 : s_q1t true true = 0 := rfl
   simp only [Option.bind, e0, isO_eq hn ho]
   cases hio : (isO l 0 ord && decide (ord.length = l.length)) with
   | false => rfl
   | true =>
    have e1 : s_q1d (n : Int) l = some (List.replicate l.length (0, 0), List.replicate n 0) := by
     unfold s_q1d
     rw [mk_ok _ _ (by omega), mkh_ok h2]; rfl
    rw [e1]
    rw [Bool.and_eq_true] at hio
    have key := iplan_run hj hn ho ord 0 FU 0 (List.replicate l.length (0, 0), List.replicate n 0) rfl (by omega) (FU_big (pow_big (by omega))) hio.1 (by simp) (by simp; omega)
    exact key
theorem hands_in1 {h : Int} (hh : s_q15 h = true) : 1 ≤ h ∧ h ≤ 4 := by
 unfold s_q15 s_q25 at hh
 cases h1 : decide (h ≥ 1)
 ·rw [h1] at hh; cases hh
 ·rw [h1] at hh
  have a := of_decide_eq_true h1
  have b := of_decide_eq_true hh
  omega
theorem hand_ok {l : List Job} {h : Int} {p : List Slot} (hs : SlotsOK p) (hc : codeP h l p = 0) : ∀ i, i < l.length → ∃ k : Nat, (p.getD i (0, 0)).1 = (k : Int) ∧ k < h.toNat := by
 intro i hi
 obtain ⟨_, hh, hpl, hn⟩ := codeP_ok hc
 have h1 := hands_in1 hh
 unfold codeP at hc
 cases hv : validB l with
 | false => rw [hv] at hc; cases hc
 | true =>
  rw [hv, hh] at hc
  cases hp : planB h l p with
  | false => rw [hp] at hc; cases hc
  | true =>
   unfold planB at hp
   obtain ⟨_, hf⟩ := Bool.and_eq_true_iff.1 hp
   have hf := of_decide_eq_true hf
   unfold faultI at hf
   cases hq : (List.range' 0 l.length).find? (faultB h l p) with
   | some j => rw [hq] at hf; exact absurd hf (by show ¬ ((j : Nat) : Int) < 0; omega)
   | none =>
    have := List.find?_eq_none.1 hq i (List.mem_range'_1.2 ⟨Nat.zero_le _, by omega⟩)
    unfold faultB at this
    have q1 := hs _ (getD_mem' (d := ((0, 0) : Slot)) (show i < p.length by omega))
    cases hsl : s_q1o h (p.getD i (0, 0)).1 (p.getD i (0, 0)).2 with
    | false => rw [hsl] at this; exact absurd rfl this
    | true =>
     unfold s_q1o at hsl
     cases h0 : s_q25 (IntKind.wrap .i64 (p.getD i (0, 0)).1) 0 (IntKind.wrap .i64 (h - 1)) with
     | false => rw [h0] at hsl; cases hsl
     | true =>
      unfold s_q25 at h0
      rw [IntWalk.i64_in (p.getD i (0, 0)).1 (by omega), IntWalk.i64_in (h - 1) (by omega)] at h0
      by_cases a : (p.getD i (0, 0)).1 ≥ 0
      ·rw [decide_eq_true a, cond_true] at h0
       have b := of_decide_eq_true h0
       exact ⟨(p.getD i (0, 0)).1.toNat, by omega, by omega⟩
      ·rw [decide_eq_false a] at h0; cases h0
noncomputable def idleS (l : List Job) (p : List Slot) (st : List Int) (i : Nat) : List Int := st.set (p.getD i (0, 0)).1.toNat (IntKind.wrap .i64 (st.getD (p.getD i (0, 0)).1.toNat 0 - IntKind.wrap .i64 (l.getD i (0, 0)).1))
theorem idleS_len {l : List Job} {p : List Slot} {st : List Int} {i : Nat} : (idleS l p st i).length = st.length := by unfold idleS; simp
noncomputable def idleL (l : List Job) (p : List Slot) (h : Int) : List Int := (List.range' 0 l.length).foldl (idleS l p) (List.replicate h.toNat (lenB l p))
theorem foldI_len {l : List Job} {p : List Slot} : ∀ (ks : List Nat) (st : List Int), (ks.foldl (idleS l p) st).length = st.length
 | [], st => rfl
 | k :: ks, st => by rw [List.foldl_cons, foldI_len ks, idleS_len]
theorem idle_len {l : List Job} {p : List Slot} {h : Int} : (idleL l p h).length = h.toNat := by unfold idleL; rw [foldI_len]; simp
section
variable {l : List Job} {h : Int} {p : List Slot} (hn : l.length ≤ 12) (hp : p.length = l.length) (hh : ∀ i, i < l.length → ∃ k : Nat, (p.getD i (0, 0)).1 = (k : Int) ∧ k < h.toNat)
include hn hp hh
theorem sidle_sub : f_q0z_run10 (0, l, p, List.replicate h.toNat (lenB l p)) = some (idleL l p h, 0) := by
 unfold f_q0z_run10
 refine run_countI (step := fun x => f_q0z_n10 x.1 x.2.1 x.2.2.1 x.2.2.2) l.length (fun i (st : List Int) => ((i : Int), l, p, st)) (idleS l p) (fun _ st => st.length = h.toNat) _ (List.replicate h.toNat (lenB l p)) (by omega) (by simp) ?_ ?_
 ·intro i st hi hI
  refine ⟨?_, by rw [idleS_len]; exact hI⟩
  obtain ⟨k, hk, hk2⟩ := hh i hi
  show f_q0z_n10 i l p st = _
  unfold f_q0z_n10 idleS
  rw [lt_true hi, inB_nat (show i < p.length by omega), toNat_nat, hk, inB_nat (show k < st.length by omega), inB_nat hi, succ64 (by omega)]
  rfl
 ·intro _
  show f_q0z_n10 (l.length : Nat) l p (idleL l p h) = _
  unfold f_q0z_n10
  rw [lt_neg, cond_false]
theorem iidle_sub : f_q0u_run6 (((l.length : Nat) : Int), 0, p, List.replicate h.toNat (lenB l p), l) = some (idleL l p h, 0) := by
 unfold f_q0u_run6
 refine run_countI (step := fun x => f_q0u_n6 x.1 x.2.1 x.2.2.1 x.2.2.2.1 x.2.2.2.2) l.length (fun i (st : List Int) => (((l.length : Nat) : Int), (i : Int), p, st, l)) (idleS l p) (fun _ st => st.length = h.toNat) _ (List.replicate h.toNat (lenB l p)) (by omega) (by simp) ?_ ?_
 ·intro i st hi hI
  refine ⟨?_, by rw [idleS_len]; exact hI⟩
  obtain ⟨k, hk, hk2⟩ := hh i hi
  show f_q0u_n6 (l.length : Nat) i p st l = _
  unfold f_q0u_n6 idleS
  rw [lt_true hi, inB_nat (show i < p.length by omega), toNat_nat, hk, inB_nat (show k < st.length by omega), inB_nat hi, succ64 (by omega)]
  rfl
 ·intro _
  show f_q0u_n6 (l.length : Nat) (l.length : Nat) p (idleL l p h) l = _
  unfold f_q0u_n6
  rw [lt_neg, cond_false]
theorem sidle_run (h4 : 1 ≤ h ∧ h ≤ 4) : f_q0z_run6 (h, 0, l, p, []) = some (idleL l p h, 0) := by
 unfold f_q0z_run6
 have hz : h = ((h.toNat : Nat) : Int) := by omega
 refine run_countI (step := fun x => f_q0z_n6 x.1 x.2.1 x.2.2.1 x.2.2.2.1 x.2.2.2.2) h.toNat (fun i (st : List Int) => (h, (i : Int), l, p, st)) (fun st _ => st ++ [lenB l p]) (fun i st => st = List.replicate i (lenB l p)) _ [] (by omega) rfl ?_ ?_
 ·intro i st hi hI
  subst hI
  refine ⟨?_, by rw [← List.replicate_succ']⟩
  show f_q0z_n6 h i l p _ = _
  unfold f_q0z_n6
  rw [decide_eq_true (show (i : Int) < h by omega), slen_eq hn hp]
  simp only [Option.bind, cond_true]
  rw [fits_small (by simp; omega), succ64 (by omega)]
  rfl
 ·intro hI
  rw [hI]
  show f_q0z_n6 h (h.toNat : Nat) l p _ = _
  unfold f_q0z_n6
  rw [decide_eq_false (by omega), sidle_sub hn hp hh]
  rfl
end
end Go.RR
namespace Go.RR
open Go
abbrev SA := Int × Int × Int × Int × Int × Int × Int × Int × Bool × List Job × List Slot × List Int
abbrev SB := Int × Int × Int × Int × Int × Int × Int × Int × Bool × List Job × List Slot × List Int × List Slot
abbrev SC := Int × Int × Int × Int × Int × Int × Int × Int × Bool × List Job × List Slot × List Int × List Slot × List Slot
theorem half {x : Int} : x % 2 = 0 ∨ x % 2 = 1 := by omega
theorem bit_cond {l : List Job} {tk : Int} (h0 : 0 ≤ tk) {i : Nat} {α : Type} (a b : α) : (cond ((bAnd .u16 (bShr .u16 tk (i : Int)) 1) == 1) a (cond ((bAndNot .u16 (l.getD i ((0, 0) : Int × Int)).2 tk) != 0) a b)) = cond (ready l tk i) b a := by
 rw [and1 (shr_range h0).1]
 unfold ready
 rcases half (x := bShr .u16 tk (i : Int)) with h | h
 ·rw [h]
  simp only [show ((0 : Int) == 1) = false from rfl, show ((0 : Int) == 0) = true from rfl, cond_false, cond_true]
  by_cases hz : bAndNot .u16 (l.getD i ((0, 0) : Int × Int)).2 tk = 0
  ·rw [hz]; rfl
  ·have e1 : (bAndNot .u16 (l.getD i ((0, 0) : Int × Int)).2 tk != 0) = true := by simpa using hz
   have e2 : (bAndNot .u16 (l.getD i ((0, 0) : Int × Int)).2 tk == 0) = false := by simpa using hz
   rw [e1, e2]; rfl
 ·rw [h]
  rfl
theorem set_back {α : Type} {p : List α} {i : Nat} {x : α} (d : α) (h : i < p.length) : (p.set i x).set i (p.getD i d) = p := by
 rw [List.set_set, List.getD_eq_getElem?_getD, List.getElem?_eq_getElem h]
 exact List.set_getElem_self h
section
variable {l : List Job} {Bd Bg : Int} (hj : JobsOK l) (hn : l.length ≤ 12) (hB : Bg ≤ 20000) {k : Nat} {D : D_q0d} (hD : LookOK l Bd Bg k D)
variable {tk : Int} {plan : List Slot} {free : List Int} {day : Int} (hI : OKin l tk plan free) (hc : cntR tk 0 l.length ≤ k)
def emA (l : List Job) (Bd Bg tk : Int) (plan : List Slot) (free : List Int) (day : Int) (i : Nat) (st : PS) : SA ⊕ SB := match st.best with
 | none => .inl (day, ((l.length : Nat) : Int), (i : Int), tk, st.len, Bd, st.tr, Bg, false, l, plan, free)
 | some b => .inr (day, ((l.length : Nat) : Int), (i : Int), tk, st.len, Bd, st.tr, Bg, false, l, plan, free, b)
include hj hn hB hD hI hc
theorem stepA {i : Nat} (hi : i < l.length) {st : PS} (hst : OKst l.length Bg st) :
  (∀ st', goStep l Bg (go l Bd Bg k) tk plan free day st i = .inl st' → @f_q07_st5 ⟨D⟩ (emA l Bd Bg tk plan free day i st) = some (.inl (emA l Bd Bg tk plan free day (i + 1) st')) ∧ OKst l.length Bg st') ∧
  (∀ r, goStep l Bg (go l Bd Bg k) tk plan free day st i = .inr r → ∃ o, @f_q07_st5 ⟨D⟩ (emA l Bd Bg tk plan free day i st) = some (.inr o) ∧ IsAns l.length Bd Bg tk plan free r (ansA o)) := by
 have htk := hI.tk.rng
 have hd0 : decide ((i : Int) < 0) = false := decide_eq_false (by omega)
 have hslot := islot_eq hj hn hI.plan hi hI.free
 obtain ⟨h, hh1, hh2⟩ := slot_hand (l := l) (p := plan) (fr := free) (i := i) hI.free
 have hinh : inB (slotB l plan free i).1 free.length = true := by rw [hh2]; exact inB_nat hh1
 have hpl : i < plan.length := by rw [hI.plan]; exact hi
 have htr := hst.tr
 cases hb : st.best with
 | none =>
  have hem : emA l Bd Bg tk plan free day i st = .inl (day, ((l.length : Nat) : Int), (i : Int), tk, st.len, Bd, st.tr, Bg, false, l, plan, free) := by unfold emA; rw [hb]
  have hstep : @f_q07_st5 ⟨D⟩ (emA l Bd Bg tk plan free day i st) = @f_q07_n5 ⟨D⟩ day ((l.length : Nat) : Int) (i : Int) tk st.len Bd st.tr Bg false l plan free := by rw [hem]; rfl
  rw [hstep]
  unfold f_q07_n5 goStep
  rw [lt_true hi, inB_nat hi, hd0, toNat_nat, cond_true, cond_true, cond_false, bit_cond htk.1, succ64 (by omega)]
  cases hr : ready l tk i
  ·simp only [cond_false]
   refine ⟨fun st' e => ?_, fun r e => nomatch e⟩
   cases e
   refine ⟨?_, hst⟩
   unfold emA; rw [hb]
  ·simp only [cond_true]
   rw [hslot, hb, IntWalk.i64_in (st.tr + 1) (by omega)]
   simp only [Option.bind, Option.isSome, Bool.false_and, cond_false, hinh, inB_nat hpl, cond_true]
   cases hov : decide (st.tr + 1 > Bg)
   ·simp only [cond_false]
    have hov' := of_decide_eq_false hov
    have hready := ready_bit (l := l) htk.1 (show i < 16 by omega) hr
    have hst1 : OKst l.length Bg ⟨st.tr + 1, st.len, none⟩ := ⟨by show 0 ≤ st.tr + 1 ∧ st.tr + 1 ≤ Bg; omega, fun b e => nomatch e⟩
    have hI1 := hI.step hn hi (slotB l plan free i) (slotB l plan free i).1.toNat (endB l (slotB l plan free i) i)
    have hc1 : cntR (tkI tk i) 0 l.length < k := by
     have := cnt_step (tkI_ok hI.tk hi hn).2 hready l.length 0 (Nat.zero_le _) (by omega)
     omega
    obtain ⟨r, e1, e2⟩ := hD.a _ _ _ (max day (endB l (slotB l plan free i) i)) _ hI1 hst1 hc1 rfl
    have e1 : D.a (max day (s_q29 (l.getD i ((0, 0) : Int × Int)).1 (l.getD i ((0, 0) : Int × Int)).2 (slotB l plan free i).1 (slotB l plan free i).2)) (bOr .u16 tk (bShl .u16 1 (i : Int))) st.len Bd (st.tr + 1) Bg false l (plan.set i ((slotB l plan free i).1, (slotB l plan free i).2)) (free.set (slotB l plan free i).1.toNat (s_q29 (l.getD i ((0, 0) : Int × Int)).1 (l.getD i ((0, 0) : Int × Int)).2 (slotB l plan free i).1 (slotB l plan free i).2)) = some r := e1
    rw [e1]
    generalize hg : go l Bd Bg k (tkI tk i) (plan.set i (slotB l plan free i)) (free.set (slotB l plan free i).1.toNat (endB l (slotB l plan free i) i)) (max day (endB l (slotB l plan free i) i)) ⟨st.tr + 1, st.len, none⟩ = g at e2
    obtain ⟨st2, c⟩ := g
    rcases r with ⟨ret, tk', len', bd', tr', bg', ov', plan', free'⟩ | ⟨ret, tk', len', bd', tr', bg', ov', plan', free', best'⟩
    ·obtain ⟨f1, f2, f3, f4, f5, f6, f7, f8, f9⟩ := e2
     simp only [ansA] at f1 f2 f3 f4 f5 f6 f7 f8
     subst f1 f2 f3 f4 f5 f6
     cases c with
     | zero =>
      obtain ⟨g1, g2, g3⟩ := f8 rfl
      subst g1 g2 g3
      refine ⟨fun st' e => ?_, fun r e => nomatch e⟩
      have e : (Sum.inl st2 : PS ⊕ (PS × Nat)) = .inl st' := e
      cases e
      refine ⟨?_, f9 (by simp)⟩
      simp only [bind2, show decide ((0 : Nat) ≠ 0) = false from rfl, cond_false, List.length_set, inB_nat hpl, hinh, cond_true, hd0]
      rw [tk_back hI.tk hi hn hready, hh2, toNat_nat, set_back (0 : Int) hh1]
      rw [show (plan.set i ((slotB l plan free i))).set i ((plan.getD i ((0, 0) : Int × Int)).1, (plan.getD i ((0, 0) : Int × Int)).2) = plan from set_back ((0, 0) : Int × Int) hpl]
      unfold emA
      rw [← f7]; rfl
     | succ c =>
      refine ⟨fun st' e => (nomatch e), fun r e => ?_⟩
      have e : (Sum.inr (st2, c + 1) : PS ⊕ (PS × Nat)) = .inr r := e
      cases e
      exact Exists.intro _ (And.intro rfl (IsAns.mk rfl rfl rfl rfl rfl rfl f7 (fun h => absurd h (Nat.succ_ne_zero c)) f9))
    ·obtain ⟨f1, f2, f3, f4, f5, f6, f7, f8, f9⟩ := e2
     simp only [ansA] at f1 f2 f3 f4 f5 f6 f7 f8
     subst f1 f2 f3 f4 f5 f6
     cases c with
     | zero =>
      obtain ⟨g1, g2, g3⟩ := f8 rfl
      subst g1 g2 g3
      refine ⟨fun st' e => ?_, fun r e => nomatch e⟩
      have e : (Sum.inl st2 : PS ⊕ (PS × Nat)) = .inl st' := e
      cases e
      refine ⟨?_, f9 (by simp)⟩
      simp only [bind2, show decide ((0 : Nat) ≠ 0) = false from rfl, cond_false, List.length_set, inB_nat hpl, hinh, cond_true, hd0]
      rw [tk_back hI.tk hi hn hready, hh2, toNat_nat, set_back (0 : Int) hh1]
      rw [show (plan.set i ((slotB l plan free i))).set i ((plan.getD i ((0, 0) : Int × Int)).1, (plan.getD i ((0, 0) : Int × Int)).2) = plan from set_back ((0, 0) : Int × Int) hpl]
      unfold emA
      rw [← f7]; rfl
     | succ c =>
      refine ⟨fun st' e => (nomatch e), fun r e => ?_⟩
      have e : (Sum.inr (st2, c + 1) : PS ⊕ (PS × Nat)) = .inr r := e
      cases e
      exact Exists.intro _ (And.intro rfl (IsAns.mk rfl rfl rfl rfl rfl rfl f7 (fun h => absurd h (Nat.succ_ne_zero c)) f9))
   ·simp only [cond_true]
    refine ⟨fun st' e => (nomatch e), fun r e => ?_⟩
    cases e
    exact Exists.intro _ (And.intro rfl (IsAns.mk rfl rfl rfl rfl rfl rfl rfl (fun h => absurd h (show ¬ (2 : Nat) = 0 by decide)) (fun h => absurd rfl h)))
 | some b =>
  have hem : emA l Bd Bg tk plan free day i st = .inr (day, ((l.length : Nat) : Int), (i : Int), tk, st.len, Bd, st.tr, Bg, false, l, plan, free, b) := by unfold emA; rw [hb]
  have hstep : @f_q07_st5 ⟨D⟩ (emA l Bd Bg tk plan free day i st) = @f_q07_n5b ⟨D⟩ day ((l.length : Nat) : Int) (i : Int) tk st.len Bd st.tr Bg false l plan free b := by rw [hem]; rfl
  rw [hstep]
  unfold f_q07_n5b goStep
  rw [lt_true hi, inB_nat hi, hd0, toNat_nat, cond_true, cond_true, cond_false, bit_cond htk.1, succ64 (by omega)]
  cases hr : ready l tk i
  ·simp only [cond_false]
   refine ⟨fun st' e => ?_, fun r e => nomatch e⟩
   cases e
   refine ⟨?_, hst⟩
   unfold emA; rw [hb]
  ·simp only [cond_true]
   rw [hslot, hb, IntWalk.i64_in (st.tr + 1) (by omega)]
   have hid : s_q29 (l.getD i ((0, 0) : Int × Int)).1 (l.getD i ((0, 0) : Int × Int)).2 (slotB l plan free i).1 (slotB l plan free i).2 = endB l (slotB l plan free i) i := rfl
   have hbl : Nat.blt 0 b.length = true := Nat.ble_eq_true_of_le (by have := hst.best b hb; omega)
   simp only [Option.bind, Option.isSome, Bool.true_and, hid, hbl, hinh, inB_nat hpl, cond_true]
   cases hpr : decide (endB l (slotB l plan free i) i ≥ st.len)
   ·simp only [cond_false]
    cases hov : decide (st.tr + 1 > Bg)
    ·simp only [cond_false]
     have hov' := of_decide_eq_false hov
     have hready := ready_bit (l := l) htk.1 (show i < 16 by omega) hr
     have hst1 : OKst l.length Bg ⟨st.tr + 1, st.len, some b⟩ := ⟨by show 0 ≤ st.tr + 1 ∧ st.tr + 1 ≤ Bg; omega, fun b' e => by cases e; exact hst.best b hb⟩
     have hI1 := hI.step hn hi (slotB l plan free i) (slotB l plan free i).1.toNat (endB l (slotB l plan free i) i)
     have hc1 : cntR (tkI tk i) 0 l.length < k := by
      have := cnt_step (tkI_ok hI.tk hi hn).2 hready l.length 0 (Nat.zero_le _) (by omega)
      omega
     obtain ⟨r, e1, e2⟩ := hD.b _ _ _ (max day (endB l (slotB l plan free i) i)) _ b hI1 hst1 hc1 rfl
     have e1 : D.b (max day (endB l (slotB l plan free i) i)) (bOr .u16 tk (bShl .u16 1 (i : Int))) st.len Bd (st.tr + 1) Bg false l (plan.set i ((slotB l plan free i).1, (slotB l plan free i).2)) (free.set (slotB l plan free i).1.toNat (endB l (slotB l plan free i) i)) b = some r := e1
     rw [e1]
     generalize hg : go l Bd Bg k (tkI tk i) (plan.set i (slotB l plan free i)) (free.set (slotB l plan free i).1.toNat (endB l (slotB l plan free i) i)) (max day (endB l (slotB l plan free i) i)) ⟨st.tr + 1, st.len, some b⟩ = g at e2
     obtain ⟨st2, c⟩ := g
     rcases r with ⟨ret, tk', len', bd', tr', bg', ov', plan', free', best'⟩ | ⟨ret, tk', len', bd', tr', bg', ov', plan', free', old', best'⟩
     ·obtain ⟨f1, f2, f3, f4, f5, f6, f7, f8, f9⟩ := e2
      simp only [ansB] at f1 f2 f3 f4 f5 f6 f7 f8
      subst f1 f2 f3 f4 f5 f6
      cases c with
      | zero =>
       obtain ⟨g1, g2, g3⟩ := f8 rfl
       subst g1 g2 g3
       refine ⟨fun st' e => ?_, fun r e => nomatch e⟩
       have e : (Sum.inl st2 : PS ⊕ (PS × Nat)) = .inl st' := e
       cases e
       refine ⟨?_, f9 (by simp)⟩
       simp only [bind2, show decide ((0 : Nat) ≠ 0) = false from rfl, cond_false, List.length_set, inB_nat hpl, hinh, cond_true, hd0]
       rw [tk_back hI.tk hi hn hready, hh2, toNat_nat, set_back (0 : Int) hh1]
       rw [show (plan.set i ((slotB l plan free i))).set i ((plan.getD i ((0, 0) : Int × Int)).1, (plan.getD i ((0, 0) : Int × Int)).2) = plan from set_back ((0, 0) : Int × Int) hpl]
       unfold emA
       rw [← f7]; rfl
      | succ c =>
       refine ⟨fun st' e => (nomatch e), fun r e => ?_⟩
       have e : (Sum.inr (st2, c + 1) : PS ⊕ (PS × Nat)) = .inr r := e
       cases e
       exact Exists.intro _ (And.intro rfl (IsAns.mk rfl rfl rfl rfl rfl rfl f7 (fun h => absurd h (Nat.succ_ne_zero c)) f9))
     ·obtain ⟨f1, f2, f3, f4, f5, f6, f7, f8, f9⟩ := e2
      simp only [ansB] at f1 f2 f3 f4 f5 f6 f7 f8
      subst f1 f2 f3 f4 f5 f6
      cases c with
      | zero =>
       obtain ⟨g1, g2, g3⟩ := f8 rfl
       subst g1 g2 g3
       refine ⟨fun st' e => ?_, fun r e => nomatch e⟩
       have e : (Sum.inl st2 : PS ⊕ (PS × Nat)) = .inl st' := e
       cases e
       refine ⟨?_, f9 (by simp)⟩
       simp only [bind2, show decide ((0 : Nat) ≠ 0) = false from rfl, cond_false, List.length_set, inB_nat hpl, hinh, cond_true, hd0]
       rw [tk_back hI.tk hi hn hready, hh2, toNat_nat, set_back (0 : Int) hh1]
       rw [show (plan.set i ((slotB l plan free i))).set i ((plan.getD i ((0, 0) : Int × Int)).1, (plan.getD i ((0, 0) : Int × Int)).2) = plan from set_back ((0, 0) : Int × Int) hpl]
       unfold emA
       rw [← f7]; rfl
      | succ c =>
       refine ⟨fun st' e => (nomatch e), fun r e => ?_⟩
       have e : (Sum.inr (st2, c + 1) : PS ⊕ (PS × Nat)) = .inr r := e
       cases e
       exact Exists.intro _ (And.intro rfl (IsAns.mk rfl rfl rfl rfl rfl rfl f7 (fun h => absurd h (Nat.succ_ne_zero c)) f9))
    ·simp only [cond_true]
     refine ⟨fun st' e => (nomatch e), fun r e => ?_⟩
     cases e
     exact Exists.intro _ (And.intro rfl (IsAns.mk rfl rfl rfl rfl rfl rfl rfl (fun h => absurd h (show ¬ (2 : Nat) = 0 by decide)) (fun h => absurd rfl h)))
   ·simp only [cond_true]
    refine ⟨fun st' e => ?_, fun r e => (nomatch e)⟩
    cases e
    refine ⟨?_, hst⟩
    unfold emA; rw [hb]
end
end Go.RR
namespace Go.RR
open Go
section
variable {l : List Job} {Bd Bg : Int} (hj : JobsOK l) (hn : l.length ≤ 12) (hB : Bg ≤ 20000) {k : Nat} {D : D_q0d} (hD : LookOK l Bd Bg k D)
variable {tk : Int} {plan : List Slot} {free : List Int} {day : Int} (hI : OKin l tk plan free) (hc : cntR tk 0 l.length ≤ k)
def RepS (l : List Job) (Bd Bg tk : Int) (plan : List Slot) (free : List Int) (day : Int) (i : Nat) (st : PS) (s : SB ⊕ SC) : Prop :=
 ∃ b, st.best = some b ∧ (s = .inl (day, ((l.length : Nat) : Int), (i : Int), tk, st.len, Bd, st.tr, Bg, false, l, plan, free, b) ∨ ∃ old, s = .inr (day, ((l.length : Nat) : Int), (i : Int), tk, st.len, Bd, st.tr, Bg, false, l, plan, free, old, b))
include hj hn hB hD hI hc
theorem stepB {i : Nat} (hi : i < l.length) {st : PS} (hst : OKst l.length Bg st) {s : SB ⊕ SC} (hs : RepS l Bd Bg tk plan free day i st s) :
  (∀ st', goStep l Bg (go l Bd Bg k) tk plan free day st i = .inl st' → ∃ s', @f_q08_st5 ⟨D⟩ s = some (.inl s') ∧ RepS l Bd Bg tk plan free day (i + 1) st' s' ∧ OKst l.length Bg st') ∧
  (∀ r, goStep l Bg (go l Bd Bg k) tk plan free day st i = .inr r → ∃ o, @f_q08_st5 ⟨D⟩ s = some (.inr o) ∧ IsAns l.length Bd Bg tk plan free r (ansB o)) := by
 have htk := hI.tk.rng
 have hd0 : decide ((i : Int) < 0) = false := decide_eq_false (by omega)
 have hslot := islot_eq hj hn hI.plan hi hI.free
 obtain ⟨h, hh1, hh2⟩ := slot_hand (l := l) (p := plan) (fr := free) (i := i) hI.free
 have hinh : inB (slotB l plan free i).1 free.length = true := by rw [hh2]; exact inB_nat hh1
 have hpl : i < plan.length := by rw [hI.plan]; exact hi
 have htr := hst.tr
 obtain ⟨b, hb, rfl | ⟨old, rfl⟩⟩ := hs
 ·have hstep : @f_q08_st5 ⟨D⟩ (.inl (day, ((l.length : Nat) : Int), (i : Int), tk, st.len, Bd, st.tr, Bg, false, l, plan, free, b)) = @f_q08_n5 ⟨D⟩ day ((l.length : Nat) : Int) (i : Int) tk st.len Bd st.tr Bg false l plan free b := rfl
  rw [hstep]
  unfold f_q08_n5 goStep
  rw [lt_true hi, inB_nat hi, hd0, toNat_nat, cond_true, cond_true, cond_false, bit_cond htk.1, succ64 (by omega)]
  cases hr : ready l tk i
  ·simp only [cond_false]
   refine ⟨fun st' e => ?_, fun r e => nomatch e⟩
   cases e
   exact ⟨_, rfl, ⟨b, hb, .inl rfl⟩, hst⟩
  ·simp only [cond_true]
   rw [hslot, hb, IntWalk.i64_in (st.tr + 1) (by omega)]
   have hid : s_q29 (l.getD i ((0, 0) : Int × Int)).1 (l.getD i ((0, 0) : Int × Int)).2 (slotB l plan free i).1 (slotB l plan free i).2 = endB l (slotB l plan free i) i := rfl
   have hbl : Nat.blt 0 b.length = true := Nat.ble_eq_true_of_le (by have := hst.best b hb; omega)
   simp only [Option.bind, Option.isSome, Bool.true_and, hid, hbl, hinh, inB_nat hpl, cond_true]
   cases hpr : decide (endB l (slotB l plan free i) i ≥ st.len)
   ·simp only [cond_false]
    cases hov : decide (st.tr + 1 > Bg)
    ·simp only [cond_false]
     have hov' := of_decide_eq_false hov
     have hready := ready_bit (l := l) htk.1 (show i < 16 by omega) hr
     have hst1 : OKst l.length Bg ⟨st.tr + 1, st.len, some b⟩ := ⟨by show 0 ≤ st.tr + 1 ∧ st.tr + 1 ≤ Bg; omega, fun b' e => by cases e; exact hst.best b hb⟩
     have hI1 := hI.step hn hi (slotB l plan free i) (slotB l plan free i).1.toNat (endB l (slotB l plan free i) i)
     have hc1 : cntR (tkI tk i) 0 l.length < k := by
      have := cnt_step (tkI_ok hI.tk hi hn).2 hready l.length 0 (Nat.zero_le _) (by omega)
      omega
     obtain ⟨r, e1, e2⟩ := hD.b _ _ _ (max day (endB l (slotB l plan free i) i)) _ b hI1 hst1 hc1 rfl
     have e1 : D.b (max day (endB l (slotB l plan free i) i)) (bOr .u16 tk (bShl .u16 1 (i : Int))) st.len Bd (st.tr + 1) Bg false l (plan.set i ((slotB l plan free i).1, (slotB l plan free i).2)) (free.set (slotB l plan free i).1.toNat (endB l (slotB l plan free i) i)) b = some r := e1
     rw [e1]
     generalize hg : go l Bd Bg k (tkI tk i) (plan.set i (slotB l plan free i)) (free.set (slotB l plan free i).1.toNat (endB l (slotB l plan free i) i)) (max day (endB l (slotB l plan free i) i)) ⟨st.tr + 1, st.len, some b⟩ = g at e2
     obtain ⟨st2, c⟩ := g
     rcases r with ⟨ret, tk', len', bd', tr', bg', ov', plan', free', best'⟩ | ⟨ret, tk', len', bd', tr', bg', ov', plan', free', old', best'⟩
     ·obtain ⟨f1, f2, f3, f4, f5, f6, f7, f8, f9⟩ := e2
      simp only [ansB] at f1 f2 f3 f4 f5 f6 f7 f8
      subst f1 f2 f3 f4 f5 f6
      cases c with
      | zero =>
       obtain ⟨g1, g2, g3⟩ := f8 rfl
       subst g1 g2 g3
       refine ⟨fun st' e => ?_, fun r e => nomatch e⟩
       have e : (Sum.inl st2 : PS ⊕ (PS × Nat)) = .inl st' := e
       cases e
       refine ⟨_, (by
        simp only [bind2, show decide ((0 : Nat) ≠ 0) = false from rfl, cond_false, List.length_set, inB_nat hpl, hinh, cond_true, hd0]
        rw [tk_back hI.tk hi hn hready, hh2, toNat_nat, set_back (0 : Int) hh1]), ⟨best', f7.symm, by
        rw [show (plan.set i ((slotB l plan free i))).set i ((plan.getD i ((0, 0) : Int × Int)).1, (plan.getD i ((0, 0) : Int × Int)).2) = plan from set_back ((0, 0) : Int × Int) hpl]
        first | exact .inl rfl | exact .inr ⟨_, rfl⟩⟩, f9 (by simp)⟩
      | succ c =>
       refine ⟨fun st' e => (nomatch e), fun r e => ?_⟩
       have e : (Sum.inr (st2, c + 1) : PS ⊕ (PS × Nat)) = .inr r := e
       cases e
       exact Exists.intro _ (And.intro rfl (IsAns.mk rfl rfl rfl rfl rfl rfl f7 (fun h => absurd h (Nat.succ_ne_zero c)) f9))
     ·obtain ⟨f1, f2, f3, f4, f5, f6, f7, f8, f9⟩ := e2
      simp only [ansB] at f1 f2 f3 f4 f5 f6 f7 f8
      subst f1 f2 f3 f4 f5 f6
      cases c with
      | zero =>
       obtain ⟨g1, g2, g3⟩ := f8 rfl
       subst g1 g2 g3
       refine ⟨fun st' e => ?_, fun r e => nomatch e⟩
       have e : (Sum.inl st2 : PS ⊕ (PS × Nat)) = .inl st' := e
       cases e
       refine ⟨_, (by
        simp only [bind2, show decide ((0 : Nat) ≠ 0) = false from rfl, cond_false, List.length_set, inB_nat hpl, hinh, cond_true, hd0]
        rw [tk_back hI.tk hi hn hready, hh2, toNat_nat, set_back (0 : Int) hh1]), ⟨best', f7.symm, by
        rw [show (plan.set i ((slotB l plan free i))).set i ((plan.getD i ((0, 0) : Int × Int)).1, (plan.getD i ((0, 0) : Int × Int)).2) = plan from set_back ((0, 0) : Int × Int) hpl]
        first | exact .inl rfl | exact .inr ⟨_, rfl⟩⟩, f9 (by simp)⟩
      | succ c =>
       refine ⟨fun st' e => (nomatch e), fun r e => ?_⟩
       have e : (Sum.inr (st2, c + 1) : PS ⊕ (PS × Nat)) = .inr r := e
       cases e
       exact Exists.intro _ (And.intro rfl (IsAns.mk rfl rfl rfl rfl rfl rfl f7 (fun h => absurd h (Nat.succ_ne_zero c)) f9))
    ·simp only [cond_true]
     refine ⟨fun st' e => (nomatch e), fun r e => ?_⟩
     cases e
     exact Exists.intro _ (And.intro rfl (IsAns.mk rfl rfl rfl rfl rfl rfl rfl (fun h => absurd h (show ¬ (2 : Nat) = 0 by decide)) (fun h => absurd rfl h)))
   ·simp only [cond_true]
    refine ⟨fun st' e => ?_, fun r e => (nomatch e)⟩
    cases e
    exact ⟨_, rfl, ⟨b, hb, .inl rfl⟩, hst⟩
 ·have hstep : @f_q08_st5 ⟨D⟩ (.inr (day, ((l.length : Nat) : Int), (i : Int), tk, st.len, Bd, st.tr, Bg, false, l, plan, free, old, b)) = @f_q08_n5b ⟨D⟩ day ((l.length : Nat) : Int) (i : Int) tk st.len Bd st.tr Bg false l plan free old b := rfl
  rw [hstep]
  unfold f_q08_n5b goStep
  rw [lt_true hi, inB_nat hi, hd0, toNat_nat, cond_true, cond_true, cond_false, bit_cond htk.1, succ64 (by omega)]
  cases hr : ready l tk i
  ·simp only [cond_false]
   refine ⟨fun st' e => ?_, fun r e => nomatch e⟩
   cases e
   exact ⟨_, rfl, ⟨b, hb, .inr ⟨_, rfl⟩⟩, hst⟩
  ·simp only [cond_true]
   rw [hslot, hb, IntWalk.i64_in (st.tr + 1) (by omega)]
   have hid : s_q29 (l.getD i ((0, 0) : Int × Int)).1 (l.getD i ((0, 0) : Int × Int)).2 (slotB l plan free i).1 (slotB l plan free i).2 = endB l (slotB l plan free i) i := rfl
   have hbl : Nat.blt 0 b.length = true := Nat.ble_eq_true_of_le (by have := hst.best b hb; omega)
   simp only [Option.bind, Option.isSome, Bool.true_and, hid, hbl, hinh, inB_nat hpl, cond_true]
   cases hpr : decide (endB l (slotB l plan free i) i ≥ st.len)
   ·simp only [cond_false]
    cases hov : decide (st.tr + 1 > Bg)
    ·simp only [cond_false]
     have hov' := of_decide_eq_false hov
     have hready := ready_bit (l := l) htk.1 (show i < 16 by omega) hr
     have hst1 : OKst l.length Bg ⟨st.tr + 1, st.len, some b⟩ := ⟨by show 0 ≤ st.tr + 1 ∧ st.tr + 1 ≤ Bg; omega, fun b' e => by cases e; exact hst.best b hb⟩
     have hI1 := hI.step hn hi (slotB l plan free i) (slotB l plan free i).1.toNat (endB l (slotB l plan free i) i)
     have hc1 : cntR (tkI tk i) 0 l.length < k := by
      have := cnt_step (tkI_ok hI.tk hi hn).2 hready l.length 0 (Nat.zero_le _) (by omega)
      omega
     obtain ⟨r, e1, e2⟩ := hD.b _ _ _ (max day (endB l (slotB l plan free i) i)) _ b hI1 hst1 hc1 rfl
     have e1 : D.b (max day (endB l (slotB l plan free i) i)) (bOr .u16 tk (bShl .u16 1 (i : Int))) st.len Bd (st.tr + 1) Bg false l (plan.set i ((slotB l plan free i).1, (slotB l plan free i).2)) (free.set (slotB l plan free i).1.toNat (endB l (slotB l plan free i) i)) b = some r := e1
     rw [e1]
     generalize hg : go l Bd Bg k (tkI tk i) (plan.set i (slotB l plan free i)) (free.set (slotB l plan free i).1.toNat (endB l (slotB l plan free i) i)) (max day (endB l (slotB l plan free i) i)) ⟨st.tr + 1, st.len, some b⟩ = g at e2
     obtain ⟨st2, c⟩ := g
     rcases r with ⟨ret, tk', len', bd', tr', bg', ov', plan', free', best'⟩ | ⟨ret, tk', len', bd', tr', bg', ov', plan', free', old', best'⟩
     ·obtain ⟨f1, f2, f3, f4, f5, f6, f7, f8, f9⟩ := e2
      simp only [ansB] at f1 f2 f3 f4 f5 f6 f7 f8
      subst f1 f2 f3 f4 f5 f6
      cases c with
      | zero =>
       obtain ⟨g1, g2, g3⟩ := f8 rfl
       subst g1 g2 g3
       refine ⟨fun st' e => ?_, fun r e => nomatch e⟩
       have e : (Sum.inl st2 : PS ⊕ (PS × Nat)) = .inl st' := e
       cases e
       refine ⟨_, (by
        simp only [bind2, show decide ((0 : Nat) ≠ 0) = false from rfl, cond_false, List.length_set, inB_nat hpl, hinh, cond_true, hd0]
        rw [tk_back hI.tk hi hn hready, hh2, toNat_nat, set_back (0 : Int) hh1]), ⟨best', f7.symm, by
        rw [show (plan.set i ((slotB l plan free i))).set i ((plan.getD i ((0, 0) : Int × Int)).1, (plan.getD i ((0, 0) : Int × Int)).2) = plan from set_back ((0, 0) : Int × Int) hpl]
        first | exact .inl rfl | exact .inr ⟨_, rfl⟩⟩, f9 (by simp)⟩
      | succ c =>
       refine ⟨fun st' e => (nomatch e), fun r e => ?_⟩
       have e : (Sum.inr (st2, c + 1) : PS ⊕ (PS × Nat)) = .inr r := e
       cases e
       exact Exists.intro _ (And.intro rfl (IsAns.mk rfl rfl rfl rfl rfl rfl f7 (fun h => absurd h (Nat.succ_ne_zero c)) f9))
     ·obtain ⟨f1, f2, f3, f4, f5, f6, f7, f8, f9⟩ := e2
      simp only [ansB] at f1 f2 f3 f4 f5 f6 f7 f8
      subst f1 f2 f3 f4 f5 f6
      cases c with
      | zero =>
       obtain ⟨g1, g2, g3⟩ := f8 rfl
       subst g1 g2 g3
       refine ⟨fun st' e => ?_, fun r e => nomatch e⟩
       have e : (Sum.inl st2 : PS ⊕ (PS × Nat)) = .inl st' := e
       cases e
       refine ⟨_, (by
        simp only [bind2, show decide ((0 : Nat) ≠ 0) = false from rfl, cond_false, List.length_set, inB_nat hpl, hinh, cond_true, hd0]
        rw [tk_back hI.tk hi hn hready, hh2, toNat_nat, set_back (0 : Int) hh1]), ⟨best', f7.symm, by
        rw [show (plan.set i ((slotB l plan free i))).set i ((plan.getD i ((0, 0) : Int × Int)).1, (plan.getD i ((0, 0) : Int × Int)).2) = plan from set_back ((0, 0) : Int × Int) hpl]
        first | exact .inl rfl | exact .inr ⟨_, rfl⟩⟩, f9 (by simp)⟩
      | succ c =>
       refine ⟨fun st' e => (nomatch e), fun r e => ?_⟩
       have e : (Sum.inr (st2, c + 1) : PS ⊕ (PS × Nat)) = .inr r := e
       cases e
       exact Exists.intro _ (And.intro rfl (IsAns.mk rfl rfl rfl rfl rfl rfl f7 (fun h => absurd h (Nat.succ_ne_zero c)) f9))
    ·simp only [cond_true]
     refine ⟨fun st' e => (nomatch e), fun r e => ?_⟩
     cases e
     exact Exists.intro _ (And.intro rfl (IsAns.mk rfl rfl rfl rfl rfl rfl rfl (fun h => absurd h (show ¬ (2 : Nat) = 0 by decide)) (fun h => absurd rfl h)))
   ·simp only [cond_true]
    refine ⟨fun st' e => ?_, fun r e => (nomatch e)⟩
    cases e
    exact ⟨_, rfl, ⟨b, hb, .inr ⟨_, rfl⟩⟩, hst⟩
end
end Go.RR
namespace Go.RR
open Go
theorem iter_in {σ ρ : Type} {step : σ → Option (σ ⊕ ρ)} {x y : σ} {m : Nat} (h : step x = some (.inl y)) : iter step (m + 1) x = iter step m y := by
 rw [iter, h]
theorem iter_out {σ ρ : Type} {step : σ → Option (σ ⊕ ρ)} {x : σ} {r : ρ} {m : Nat} (h : step x = some (.inr r)) : iter step (m + 1) x = some r := by
 rw [iter, h]
theorem clone_ok {p : List Slot} (h : p.length ≤ 1000) : s_q1q p = some p := by
 unfold s_q1q s_q0i
 cases p with
 | nil => rfl
 | cons x p =>
  have h1 : Nat.blt 0 (x :: p).length = true := rfl
  rw [h1, fits_small (by simp at h ⊢; omega)]
  rfl
def outG (x : PS ⊕ (PS × Nat)) : PS × Nat := match x with
 | .inl st => (st, 0)
 | .inr r => r
section
variable {l : List Job} {Bd Bg : Int} (hj : JobsOK l) (hn : l.length ≤ 12) (hB : Bg ≤ 20000)
section
variable {k : Nat} {D : D_q0d} (hD : LookOK l Bd Bg k D)
variable {tk : Int} {plan : List Slot} {free : List Int} {day : Int} (hI : OKin l tk plan free) (hc : cntR tk 0 l.length ≤ k)
include hj hn hB hD hI hc
theorem runA : ∀ (cnt i M : Nat) (st : PS), i + cnt = l.length → cnt < M → OKst l.length Bg st →
  ∃ o, iter (@f_q07_st5 ⟨D⟩) M (emA l Bd Bg tk plan free day i st) = some o ∧ IsAns l.length Bd Bg tk plan free (outG (exitL (goStep l Bg (go l Bd Bg k) tk plan free day) st (List.range' i cnt))) (ansA o)
 | 0, i, M + 1, st, hi, hm, hst => by
  obtain rfl : i = l.length := hi
  cases hb : st.best with
  | none =>
   have hem : emA l Bd Bg tk plan free day l.length st = .inl (day, ((l.length : Nat) : Int), ((l.length : Nat) : Int), tk, st.len, Bd, st.tr, Bg, false, l, plan, free) := by unfold emA; rw [hb]
   rw [hem]
   have hs : @f_q07_st5 ⟨D⟩ (.inl (day, ((l.length : Nat) : Int), ((l.length : Nat) : Int), tk, st.len, Bd, st.tr, Bg, false, l, plan, free)) = some (.inr (mkX (false, tk, st.len, Bd, st.tr, Bg, false, plan, free))) := by
    show @f_q07_n5 ⟨D⟩ day ((l.length : Nat) : Int) ((l.length : Nat) : Int) tk st.len Bd st.tr Bg false l plan free = _
    unfold f_q07_n5
    rw [lt_neg, cond_false]
   exact Exists.intro _ (And.intro (iter_out hs) (IsAns.mk rfl rfl rfl rfl rfl rfl hb.symm (fun _ => ⟨rfl, rfl, rfl⟩) (fun _ => hst)))
  | some b =>
   have hem : emA l Bd Bg tk plan free day l.length st = .inr (day, ((l.length : Nat) : Int), ((l.length : Nat) : Int), tk, st.len, Bd, st.tr, Bg, false, l, plan, free, b) := by unfold emA; rw [hb]
   rw [hem]
   have hs : @f_q07_st5 ⟨D⟩ (.inr (day, ((l.length : Nat) : Int), ((l.length : Nat) : Int), tk, st.len, Bd, st.tr, Bg, false, l, plan, free, b)) = some (.inr (mkY (false, tk, st.len, Bd, st.tr, Bg, false, plan, free, b))) := by
    show @f_q07_n5b ⟨D⟩ day ((l.length : Nat) : Int) ((l.length : Nat) : Int) tk st.len Bd st.tr Bg false l plan free b = _
    unfold f_q07_n5b
    rw [lt_neg, cond_false]
   exact Exists.intro _ (And.intro (iter_out hs) (IsAns.mk rfl rfl rfl rfl rfl rfl hb.symm (fun _ => ⟨rfl, rfl, rfl⟩) (fun _ => hst)))
 | cnt + 1, i, M + 1, st, hi, hm, hst => by
  obtain ⟨h1, h2⟩ := stepA hj hn hB hD hI hc (show i < l.length by omega) hst
  rw [List.range'_succ]
  unfold exitL
  cases hg : goStep l Bg (go l Bd Bg k) tk plan free day st i with
  | inl st' =>
   obtain ⟨e1, e2⟩ := h1 st' hg
   rw [iter_in e1]
   exact runA cnt (i + 1) M st' (by omega) (by omega) e2
  | inr r =>
   obtain ⟨o, e1, e2⟩ := h2 r hg
   exact ⟨o, iter_out e1, e2⟩
 | cnt, i, 0, st, hi, hm, hst => by omega
theorem runB : ∀ (cnt i M : Nat) (st : PS) (s : SB ⊕ SC), i + cnt = l.length → cnt < M → OKst l.length Bg st → RepS l Bd Bg tk plan free day i st s →
  ∃ o, iter (@f_q08_st5 ⟨D⟩) M s = some o ∧ IsAns l.length Bd Bg tk plan free (outG (exitL (goStep l Bg (go l Bd Bg k) tk plan free day) st (List.range' i cnt))) (ansB o)
 | 0, i, M + 1, st, s, hi, hm, hst, hs => by
  obtain rfl : i = l.length := hi
  obtain ⟨b, hb, rfl | ⟨old, rfl⟩⟩ := hs
  ·have hs : @f_q08_st5 ⟨D⟩ (.inl (day, ((l.length : Nat) : Int), ((l.length : Nat) : Int), tk, st.len, Bd, st.tr, Bg, false, l, plan, free, b)) = some (.inr (mkX (false, tk, st.len, Bd, st.tr, Bg, false, plan, free, b))) := by
    show @f_q08_n5 ⟨D⟩ day ((l.length : Nat) : Int) ((l.length : Nat) : Int) tk st.len Bd st.tr Bg false l plan free b = _
    unfold f_q08_n5
    rw [lt_neg, cond_false]
   exact Exists.intro _ (And.intro (iter_out hs) (IsAns.mk rfl rfl rfl rfl rfl rfl hb.symm (fun _ => ⟨rfl, rfl, rfl⟩) (fun _ => hst)))
  ·have hs : @f_q08_st5 ⟨D⟩ (.inr (day, ((l.length : Nat) : Int), ((l.length : Nat) : Int), tk, st.len, Bd, st.tr, Bg, false, l, plan, free, old, b)) = some (.inr (mkY (false, tk, st.len, Bd, st.tr, Bg, false, plan, free, old, b))) := by
    show @f_q08_n5b ⟨D⟩ day ((l.length : Nat) : Int) ((l.length : Nat) : Int) tk st.len Bd st.tr Bg false l plan free old b = _
    unfold f_q08_n5b
    rw [lt_neg, cond_false]
   exact Exists.intro _ (And.intro (iter_out hs) (IsAns.mk rfl rfl rfl rfl rfl rfl hb.symm (fun _ => ⟨rfl, rfl, rfl⟩) (fun _ => hst)))
 | cnt + 1, i, M + 1, st, s, hi, hm, hst, hs => by
  obtain ⟨h1, h2⟩ := stepB hj hn hB hD hI hc (show i < l.length by omega) hst hs
  rw [List.range'_succ]
  unfold exitL
  cases hg : goStep l Bg (go l Bd Bg k) tk plan free day st i with
  | inl st' =>
   obtain ⟨s', e1, e2, e3⟩ := h1 st' hg
   rw [iter_in e1]
   exact runB cnt (i + 1) M st' s' (by omega) (by omega) e3 e2
  | inr r =>
   obtain ⟨o, e1, e2⟩ := h2 r hg
   exact ⟨o, iter_out e1, e2⟩
 | cnt, i, 0, st, s, hi, hm, hst, hs => by omega
end
include hj hn hB
theorem look_ok : ∀ k, LookOK l Bd Bg k (K_q0d k)
 | 0 => ⟨fun _ _ _ _ _ _ _ h => absurd h (Nat.not_lt_zero _), fun _ _ _ _ _ _ _ _ h => absurd h (Nat.not_lt_zero _)⟩
 | k + 1 => by
  have ih := look_ok k
  have hfull : IntKind.wrap .u16 (bShl .u16 1 ((l.length : Nat) : Int) - 1) = fullB l.length := rfl
  have hd0 : decide (((l.length : Nat) : Int) < 0) = false := decide_eq_false (by omega)
  have hgo : ∀ tk plan free day st, go l Bd Bg (k + 1) tk plan free day st = cond (tk == fullB l.length) (⟨st.tr, day, some plan⟩, cond (day == Bd) 1 0) (outG (exitL (goStep l Bg (go l Bd Bg k) tk plan free day) st (List.range' 0 l.length))) := fun _ _ _ _ _ => rfl
  refine ⟨fun tk plan free day st hI hst hc hb => ?_, fun tk plan free day st b hI hst hc hb => ?_⟩
  ·show ∃ r, @s_q07 ⟨K_q0d k⟩ day tk st.len Bd st.tr Bg false l plan free = some r ∧ _
   unfold s_q07
   rw [hd0, hfull, hgo, clone_ok (by rw [hI.plan]; omega)]
   cases hf : tk == fullB l.length
   ·have hr := runA (day := day) hj hn hB ih hI (by omega) l.length 0 FU st (by omega) (FU_big (pow_big (by omega))) hst
    have hem : emA l Bd Bg tk plan free day 0 st = .inl (day, ((l.length : Nat) : Int), 0, tk, st.len, Bd, st.tr, Bg, false, l, plan, free) := by unfold emA; rw [hb]; rfl
    rw [hem] at hr
    exact hr
   ·refine ⟨_, rfl, ?_⟩
    cases hd : day == Bd
    ·exact IsAns.mk rfl rfl rfl rfl rfl rfl rfl (fun _ => ⟨rfl, rfl, rfl⟩) (fun _ => ⟨hst.tr, fun b e => by cases e; exact hI.plan⟩)
    ·exact IsAns.mk rfl rfl rfl rfl rfl rfl rfl (fun _ => ⟨rfl, rfl, rfl⟩) (fun _ => ⟨hst.tr, fun b e => by cases e; exact hI.plan⟩)
  ·show ∃ r, @s_q08 ⟨K_q0d k⟩ day tk st.len Bd st.tr Bg false l plan free b = some r ∧ _
   unfold s_q08
   rw [hd0, hfull, hgo, clone_ok (by rw [hI.plan]; omega)]
   cases hf : tk == fullB l.length
   ·exact runB (day := day) hj hn hB ih hI (by omega) l.length 0 FU st _ (by omega) (FU_big (pow_big (by omega))) hst ⟨b, hb, .inl rfl⟩
   ·refine ⟨_, rfl, ?_⟩
    cases hd : day == Bd
    ·exact IsAns.mk rfl rfl rfl rfl rfl rfl rfl (fun _ => ⟨rfl, rfl, rfl⟩) (fun _ => ⟨hst.tr, fun b e => by cases e; exact hI.plan⟩)
    ·exact IsAns.mk rfl rfl rfl rfl rfl rfl rfl (fun _ => ⟨rfl, rfl, rfl⟩) (fun _ => ⟨hst.tr, fun b e => by cases e; exact hI.plan⟩)
end
end Go.RR
namespace Go.RR
open Go
structure AnsS where
 ret : Bool
 bd : Int
 bg : Int
 tr : Int
 len : Int
 fd : Bool
 best : Option (List Slot)
abbrev TS1 := Bool × Int × Int × Int × Int × Bool × List Slot × List Int
abbrev TS2 := Bool × Int × Int × Int × Int × Bool × List Slot × List Int × List Slot
abbrev TT1 := Bool × Int × Int × Int × Int × Bool × List Slot × List Slot × List Int
abbrev TT2 := Bool × Int × Int × Int × Int × Bool × List Slot × List Slot × List Int × List Slot
def ansSA : TS1 ⊕ TS2 → AnsS
 | .inl r => ⟨r.1, r.2.1, r.2.2.1, r.2.2.2.1, r.2.2.2.2.1, r.2.2.2.2.2.1, none⟩
 | .inr r => ⟨r.1, r.2.1, r.2.2.1, r.2.2.2.1, r.2.2.2.2.1, r.2.2.2.2.2.1, some r.2.2.2.2.2.2.2.2⟩
def ansSB : TT1 ⊕ TT2 → AnsS
 | .inl r => ⟨r.1, r.2.1, r.2.2.1, r.2.2.2.1, r.2.2.2.2.1, r.2.2.2.2.2.1, some r.2.2.2.2.2.2.1⟩
 | .inr r => ⟨r.1, r.2.1, r.2.2.1, r.2.2.2.1, r.2.2.2.2.1, r.2.2.2.2.2.1, some r.2.2.2.2.2.2.2.2.2⟩
def AB (Bd : Int) (st : PS) : Prop := st.best.isSome = true ∧ st.len = Bd
structure IsS (n : Nat) (Bd Bg : Int) (r : PS × Nat) (o : AnsS) : Prop where
 le : r.2 ≤ 2
 ret : o.ret = decide (r.2 ≠ 2)
 eq : r.2 ≠ 2 → o.bd = Bd ∧ o.bg = Bg ∧ o.tr = r.1.tr ∧ o.len = r.1.len ∧ o.fd = r.1.best.isSome ∧ o.best = r.1.best ∧ OKst n Bg r.1
 nb : r.2 = 0 → ¬ AB Bd r.1
 ab : r.2 = 1 → AB Bd r.1
def DayI (l : List Job) (tk : Int) (plan : List Slot) (day : Int) : Prop := day = dayF (tb tk) (doneB l plan) (List.range' 0 l.length) 0
abbrev tkn (l : List Job) (tk : Int) : Int := ((l.length - cntR tk 0 l.length : Nat) : Int)
structure GoOK (l : List Job) (Bd Bg : Int) (k : Nat) (D : D_q26) : Prop where
 a : ∀ tk plan free day st, OKin l tk plan free → OKst l.length Bg st → ¬ AB Bd st → DayI l tk plan day → cntR tk 0 l.length < k → st.best = none →
  ∃ r, D.a tk (tkn l tk) Bd Bg st.tr st.len false l plan free = some r ∧ IsS l.length Bd Bg (go l Bd Bg k tk plan free day st) (ansSA r)
 b : ∀ tk plan free day st b, OKin l tk plan free → OKst l.length Bg st → ¬ AB Bd st → DayI l tk plan day → cntR tk 0 l.length < k → st.best = some b →
  ∃ r, D.b tk (tkn l tk) Bd Bg st.tr st.len true l b plan free = some r ∧ IsS l.length Bd Bg (go l Bd Bg k tk plan free day st) (ansSB r)
theorem bit_condS {l : List Job} {tk : Int} (h0 : 0 ≤ tk) {i : Nat} (hi : i < l.length) {α : Type} (a b : Option α) : (cond ((Int.tmod (bShr .u16 tk (i : Int)) 2) == 1) a (cond (inB (i : Int) l.length) (cond ((bAndNot .u16 (l.getD i ((0, 0) : Int × Int)).2 tk) != 0) a b) none)) = cond (ready l tk i) b a := by
 rw [Int.tmod_eq_emod_of_nonneg (shr_range h0).1, inB_nat hi, cond_true]
 have := bit_cond (l := l) h0 (i := i) a b
 rw [and1 (shr_range h0).1] at this
 exact this
theorem dayI_step {l : List Job} (hn : l.length ≤ 12) {tk : Int} {plan : List Slot} {day : Int} (h : DayI l tk plan day) (ht : TkOK l.length tk) (hp : plan.length = l.length) {i : Nat} (hi : i < l.length) (hb : tb tk i = false) (sl : Slot) : DayI l (tkI tk i) (plan.set i sl) (max day (endB l sl i)) := by
 unfold DayI at h ⊢
 have hf : ∀ k, k ≠ i → doneB l (plan.set i sl) k = doneB l plan k := by
  intro k hk
  unfold doneB
  rw [List.getD_eq_getElem?_getD, List.getElem?_set_ne (fun e => hk e.symm), ← List.getD_eq_getElem?_getD]
 have he : doneB l (plan.set i sl) i = endB l sl i := by
  unfold doneB endB
  rw [List.getD_eq_getElem?_getD, List.getElem?_set_self (by omega)]
  rfl
 rw [dayF_add (tkI_ok ht hi hn).2 hb hf (ks := List.range' 0 l.length) (by rw [List.mem_range'_1]; omega) 0, he, ← h]
section
variable {l : List Job} {Bd Bg : Int} (hj : JobsOK l) (hn : l.length ≤ 12) (hB : Bg ≤ 20000) {k : Nat} {D : D_q26} (hD : GoOK l Bd Bg k D)
variable {tk : Int} {plan : List Slot} {free : List Int} {day : Int} (hI : OKin l tk plan free) (hc : cntR tk 0 l.length ≤ k) (hday : DayI l tk plan day)
abbrev GA := Int × Int × Int × Int × Int × Int × Int × Bool × List Job × List Slot × List Int
abbrev GB := Int × Int × Int × Int × Int × Int × Int × Bool × List Job × List Slot × List Int × List Slot
def emS (l : List Job) (Bd Bg tk : Int) (plan : List Slot) (free : List Int) (i : Nat) (st : PS) : GA ⊕ GB := match st.best with
 | none => .inl (tk, tkn l tk, (i : Int), Bd, Bg, st.tr, st.len, false, l, plan, free)
 | some b => .inr (tk, tkn l tk, (i : Int), Bd, Bg, st.tr, st.len, true, l, plan, free, b)
include hj hn hB hD hI hc hday
theorem stepS {i : Nat} (hi : i < l.length) {st : PS} (hst : OKst l.length Bg st) (hab : ¬ AB Bd st) :
  (∀ st', goStep l Bg (go l Bd Bg k) tk plan free day st i = .inl st' → @f_q1l_st7 ⟨D⟩ (emS l Bd Bg tk plan free i st) = some (.inl (emS l Bd Bg tk plan free (i + 1) st')) ∧ OKst l.length Bg st' ∧ ¬ AB Bd st') ∧
  (∀ st', goStep l Bg (go l Bd Bg k) tk plan free day st i = .inr (st', 1) → @f_q1l_st7 ⟨D⟩ (emS l Bd Bg tk plan free i st) = some (.inl (emS l Bd Bg tk plan free (i + 1) st')) ∧ OKst l.length Bg st' ∧ AB Bd st') ∧
  (∀ st' c, goStep l Bg (go l Bd Bg k) tk plan free day st i = .inr (st', c) → c ≠ 1 → c = 2 ∧ ∃ o, @f_q1l_st7 ⟨D⟩ (emS l Bd Bg tk plan free i st) = some (.inr o) ∧ (ansSA o).ret = false) := by
 have htk := hI.tk.rng
 have hput := sput_eq hj hn hI.plan hi hI.free
 obtain ⟨h, hh1, hh2⟩ := slot_hand (l := l) (p := plan) (fr := free) (i := i) hI.free
 have hinh : inB (slotB l plan free i).1 free.length = true := by rw [hh2]; exact inB_nat hh1
 have hpl : i < plan.length := by rw [hI.plan]; exact hi
 have hpl2 := hI.plan
 have hfr := hI.free
 have htr := hst.tr
 have hov : decide (st.tr + 1 > Bg) = (st.tr == Bg) := by
  apply Bool.eq_iff_iff.2
  rw [decide_eq_true_eq, beq_iff_eq]
  omega
 have hcl := cnt_le tk l.length 0
 cases hb : st.best with
 | none =>
  have hem : emS l Bd Bg tk plan free i st = .inl (tk, tkn l tk, (i : Int), Bd, Bg, st.tr, st.len, false, l, plan, free) := by unfold emS; rw [hb]
  have hstep : @f_q1l_st7 ⟨D⟩ (emS l Bd Bg tk plan free i st) = @f_q1l_n7 ⟨D⟩ tk (tkn l tk) (i : Int) Bd Bg st.tr st.len false l plan free := by rw [hem]; rfl
  rw [hstep]
  unfold f_q1l_n7 goStep
  rw [lt_true hi, u64n (by omega), dlt0, toNat_nat, cond_true, cond_false, bit_condS htk.1 hi, succ64 (by omega)]
  cases hr : ready l tk i
  ·simp only [cond_false]
   refine ⟨fun st' e => ?_, fun st' e => (nomatch e), fun st' c e => (nomatch e)⟩
   cases e
   refine ⟨?_, hst, hab⟩
   unfold emS; rw [hb]
  ·simp only [cond_true, cond_false]
   rw [hput, hb, hov]
   simp only [Option.bind, Option.isSome, Bool.false_and, inB_nat hi, cond_true, cond_false, List.nil_append]
   cases hq : st.tr == Bg
   ·have hready := ready_bit (l := l) htk.1 (show i < 16 by omega) hr
    rw [fits_small (show (([] : List (Int × Int)).length + plan.length) * 4 ≤ 140737488355328 by simp; omega), fits_small (show (([] : List Int).length + free.length) * 8 ≤ 140737488355328 by simp; omega), inB_nat hpl, hinh, IntWalk.i64_in (st.tr + 1) (by omega)]
    simp only [cond_true, cond_false]
    have hov' : ¬ st.tr + 1 > Bg := of_decide_eq_false (hov.trans hq)
    have hst1 : OKst l.length Bg ⟨st.tr + 1, st.len, none⟩ := ⟨by show 0 ≤ st.tr + 1 ∧ st.tr + 1 ≤ Bg; omega, fun b e => nomatch e⟩
    have hab1 : ¬ AB Bd ⟨st.tr + 1, st.len, none⟩ := fun e => by cases e.1
    have hI1 := hI.step hn hi (slotB l plan free i) (slotB l plan free i).1.toNat (endB l (slotB l plan free i) i)
    have hcs := cnt_step (tkI_ok hI.tk hi hn).2 hready l.length 0 (Nat.zero_le _) (by omega)
    have hc1 : cntR (tkI tk i) 0 l.length < k := by omega
    have hd1 := dayI_step hn hday hI.tk hI.plan hi hready (slotB l plan free i)
    have htn : IntKind.wrap .i64 (tkn l tk + 1) = tkn l (tkI tk i) := by
     unfold tkn
     rw [succ64 (by omega)]
     congr 1
     omega
    obtain ⟨r, e1, e2⟩ := hD.a _ _ _ (max day (endB l (slotB l plan free i) i)) _ hI1 hst1 hab1 hd1 hc1 rfl
    rw [htn]
    have e1 : D.a (bOr .u16 tk (bShl .u16 1 (i : Int))) (tkn l (tkI tk i)) Bd Bg (st.tr + 1) st.len false l (plan.set i ((slotB l plan free i).1, (slotB l plan free i).2)) (free.set (slotB l plan free i).1.toNat (IntKind.wrap .i64 (IntKind.wrap .i64 (slotB l plan free i).2 + IntKind.wrap .i64 (l.getD i ((0, 0) : Int × Int)).1))) = some r := e1
    rw [e1]
    generalize hg : go l Bd Bg k (tkI tk i) (plan.set i (slotB l plan free i)) (free.set (slotB l plan free i).1.toNat (endB l (slotB l plan free i) i)) (max day (endB l (slotB l plan free i) i)) ⟨st.tr + 1, st.len, none⟩ = g at e2
    obtain ⟨st2, c⟩ := g
    rcases r with ⟨ret, bd', bg', tr', len', fd', plan', free'⟩ | ⟨ret, bd', bg', tr', len', fd', plan', free', best'⟩
    ·obtain ⟨f1, f2, f3, f4, f5⟩ := e2
     simp only [ansSA] at f1 f2 f3 f4 f5
     match c, f1 with
     | 0, _ =>
      obtain ⟨g1, g2, g3, g4, g5, g6, g7⟩ := f3 (by decide)
      subst g1 g2 g3 g4 g5 f2
      refine ⟨fun st' e => ?_, fun st' e => (nomatch e), fun st' c e => (nomatch e)⟩
      have e : (Sum.inl st2 : PS ⊕ (PS × Nat)) = .inl st' := e
      cases e
      refine ⟨?_, g7, f4 rfl⟩
      unfold emS
      rw [← g6]; rfl
     | 1, _ =>
      obtain ⟨g1, g2, g3, g4, g5, g6, g7⟩ := f3 (by decide)
      subst g1 g2 g3 g4 g5 f2
      refine ⟨fun st' e => (nomatch e), fun st' e => ?_, fun st' c e hc => ?_⟩
      ·have e : (Sum.inr (st2, 1) : PS ⊕ (PS × Nat)) = .inr (st', 1) := e
       cases e
       refine ⟨?_, g7, f5 rfl⟩
       unfold emS
       rw [← g6]; rfl
      ·have e : (Sum.inr (st2, 1) : PS ⊕ (PS × Nat)) = .inr (st', c) := e
       cases e
       exact absurd rfl hc
     | 2, _ =>
      subst f2
      refine ⟨fun st' e => (nomatch e), fun st' e => ?_, fun st' c e hc => ?_⟩
      ·have e : (Sum.inr (st2, 2) : PS ⊕ (PS × Nat)) = .inr (st', 1) := e
       cases e
      ·have e : (Sum.inr (st2, 2) : PS ⊕ (PS × Nat)) = .inr (st', c) := e
       cases e
       exact ⟨rfl, _, rfl, rfl⟩
     | c + 3, hc3 => exact absurd hc3 (by omega)
    ·obtain ⟨f1, f2, f3, f4, f5⟩ := e2
     simp only [ansSA] at f1 f2 f3 f4 f5
     match c, f1 with
     | 0, _ =>
      obtain ⟨g1, g2, g3, g4, g5, g6, g7⟩ := f3 (by decide)
      subst g1 g2 g3 g4 g5 f2
      refine ⟨fun st' e => ?_, fun st' e => (nomatch e), fun st' c e => (nomatch e)⟩
      have e : (Sum.inl st2 : PS ⊕ (PS × Nat)) = .inl st' := e
      cases e
      refine ⟨?_, g7, f4 rfl⟩
      unfold emS
      rw [← g6]; rfl
     | 1, _ =>
      obtain ⟨g1, g2, g3, g4, g5, g6, g7⟩ := f3 (by decide)
      subst g1 g2 g3 g4 g5 f2
      refine ⟨fun st' e => (nomatch e), fun st' e => ?_, fun st' c e hc => ?_⟩
      ·have e : (Sum.inr (st2, 1) : PS ⊕ (PS × Nat)) = .inr (st', 1) := e
       cases e
       refine ⟨?_, g7, f5 rfl⟩
       unfold emS
       rw [← g6]; rfl
      ·have e : (Sum.inr (st2, 1) : PS ⊕ (PS × Nat)) = .inr (st', c) := e
       cases e
       exact absurd rfl hc
     | 2, _ =>
      subst f2
      refine ⟨fun st' e => (nomatch e), fun st' e => ?_, fun st' c e hc => ?_⟩
      ·have e : (Sum.inr (st2, 2) : PS ⊕ (PS × Nat)) = .inr (st', 1) := e
       cases e
      ·have e : (Sum.inr (st2, 2) : PS ⊕ (PS × Nat)) = .inr (st', c) := e
       cases e
       exact ⟨rfl, _, rfl, rfl⟩
     | c + 3, hc3 => exact absurd hc3 (by omega)
   ·refine ⟨fun st' e => (nomatch e), fun st' e => (nomatch e), fun st' c e hc => ?_⟩
    cases e
    exact ⟨rfl, _, rfl, rfl⟩
 | some b =>
  have hem : emS l Bd Bg tk plan free i st = .inr (tk, tkn l tk, (i : Int), Bd, Bg, st.tr, st.len, true, l, plan, free, b) := by unfold emS; rw [hb]
  have hstep : @f_q1l_st7 ⟨D⟩ (emS l Bd Bg tk plan free i st) = @f_q1l_n7b ⟨D⟩ tk (tkn l tk) (i : Int) Bd Bg st.tr st.len true l plan free b := by rw [hem]; rfl
  rw [hstep]
  unfold f_q1l_n7b goStep
  rw [lt_true hi, u64n (by omega), dlt0, toNat_nat, cond_true, cond_false, bit_condS htk.1 hi, succ64 (by omega)]
  cases hr : ready l tk i
  ·simp only [cond_false]
   refine ⟨fun st' e => ?_, fun st' e => (nomatch e), fun st' c e => (nomatch e)⟩
   cases e
   refine ⟨?_, hst, hab⟩
   unfold emS; rw [hb]
  ·simp only [cond_true, cond_false]
   have hlb : (st.len == Bd) = false := by
    apply Bool.eq_false_iff.2
    intro e
    exact hab ⟨by rw [hb]; rfl, beq_iff_eq.1 e⟩
   have hid : IntKind.wrap .i64 (IntKind.wrap .i64 (slotB l plan free i).2 + IntKind.wrap .i64 (l.getD i ((0, 0) : Int × Int)).1) = endB l (slotB l plan free i) i := rfl
   rw [hlb, cond_false, hput, hb, hov]
   simp only [Option.bind, Option.isSome, Bool.true_and, inB_nat hi, cond_true, cond_false, List.nil_append, hid]
   cases hpr : decide (endB l (slotB l plan free i) i ≥ st.len)
   ·simp only [cond_false]
    cases hq : st.tr == Bg
    ·have hready := ready_bit (l := l) htk.1 (show i < 16 by omega) hr
     rw [fits_small (show (([] : List (Int × Int)).length + plan.length) * 4 ≤ 140737488355328 by simp; omega), fits_small (show (([] : List Int).length + free.length) * 8 ≤ 140737488355328 by simp; omega), inB_nat hpl, hinh, IntWalk.i64_in (st.tr + 1) (by omega)]
     simp only [cond_true, cond_false]
     have hov' : ¬ st.tr + 1 > Bg := of_decide_eq_false (hov.trans hq)
     have hst1 : OKst l.length Bg ⟨st.tr + 1, st.len, some b⟩ := ⟨by show 0 ≤ st.tr + 1 ∧ st.tr + 1 ≤ Bg; omega, fun b' e => by cases e; exact hst.best b hb⟩
     have hab1 : ¬ AB Bd ⟨st.tr + 1, st.len, some b⟩ := fun e => hab ⟨by rw [hb]; rfl, e.2⟩
     have hI1 := hI.step hn hi (slotB l plan free i) (slotB l plan free i).1.toNat (endB l (slotB l plan free i) i)
     have hcs := cnt_step (tkI_ok hI.tk hi hn).2 hready l.length 0 (Nat.zero_le _) (by omega)
     have hc1 : cntR (tkI tk i) 0 l.length < k := by omega
     have hd1 := dayI_step hn hday hI.tk hI.plan hi hready (slotB l plan free i)
     have htn : IntKind.wrap .i64 (tkn l tk + 1) = tkn l (tkI tk i) := by
      unfold tkn
      rw [succ64 (by omega)]
      congr 1
      omega
     obtain ⟨r, e1, e2⟩ := hD.b _ _ _ (max day (endB l (slotB l plan free i) i)) _ b hI1 hst1 hab1 hd1 hc1 rfl
     rw [htn]
     have e1 : D.b (bOr .u16 tk (bShl .u16 1 (i : Int))) (tkn l (tkI tk i)) Bd Bg (st.tr + 1) st.len true l b (plan.set i ((slotB l plan free i).1, (slotB l plan free i).2)) (free.set (slotB l plan free i).1.toNat (endB l (slotB l plan free i) i)) = some r := e1
     rw [e1]
     generalize hg : go l Bd Bg k (tkI tk i) (plan.set i (slotB l plan free i)) (free.set (slotB l plan free i).1.toNat (endB l (slotB l plan free i) i)) (max day (endB l (slotB l plan free i) i)) ⟨st.tr + 1, st.len, some b⟩ = g at e2
     obtain ⟨st2, c⟩ := g
     rcases r with ⟨ret, bd', bg', tr', len', fd', best', plan', free'⟩ | ⟨ret, bd', bg', tr', len', fd', old', plan', free', best'⟩
     ·obtain ⟨f1, f2, f3, f4, f5⟩ := e2
      simp only [ansSB] at f1 f2 f3 f4 f5
      match c, f1 with
      | 0, _ =>
       obtain ⟨g1, g2, g3, g4, g5, g6, g7⟩ := f3 (by decide)
       subst g1 g2 g3 g4 g5 f2
       refine ⟨fun st' e => ?_, fun st' e => (nomatch e), fun st' c e => (nomatch e)⟩
       have e : (Sum.inl st2 : PS ⊕ (PS × Nat)) = .inl st' := e
       cases e
       refine ⟨?_, g7, f4 rfl⟩
       unfold emS
       rw [← g6]; rfl
      | 1, _ =>
       obtain ⟨g1, g2, g3, g4, g5, g6, g7⟩ := f3 (by decide)
       subst g1 g2 g3 g4 g5 f2
       refine ⟨fun st' e => (nomatch e), fun st' e => ?_, fun st' c e hc => ?_⟩
       ·have e : (Sum.inr (st2, 1) : PS ⊕ (PS × Nat)) = .inr (st', 1) := e
        cases e
        refine ⟨?_, g7, f5 rfl⟩
        unfold emS
        rw [← g6]; rfl
       ·have e : (Sum.inr (st2, 1) : PS ⊕ (PS × Nat)) = .inr (st', c) := e
        cases e
        exact absurd rfl hc
      | 2, _ =>
       subst f2
       refine ⟨fun st' e => (nomatch e), fun st' e => ?_, fun st' c e hc => ?_⟩
       ·have e : (Sum.inr (st2, 2) : PS ⊕ (PS × Nat)) = .inr (st', 1) := e
        cases e
       ·have e : (Sum.inr (st2, 2) : PS ⊕ (PS × Nat)) = .inr (st', c) := e
        cases e
        exact ⟨rfl, _, rfl, rfl⟩
      | c + 3, hc3 => exact absurd hc3 (by omega)
     ·obtain ⟨f1, f2, f3, f4, f5⟩ := e2
      simp only [ansSB] at f1 f2 f3 f4 f5
      match c, f1 with
      | 0, _ =>
       obtain ⟨g1, g2, g3, g4, g5, g6, g7⟩ := f3 (by decide)
       subst g1 g2 g3 g4 g5 f2
       refine ⟨fun st' e => ?_, fun st' e => (nomatch e), fun st' c e => (nomatch e)⟩
       have e : (Sum.inl st2 : PS ⊕ (PS × Nat)) = .inl st' := e
       cases e
       refine ⟨?_, g7, f4 rfl⟩
       unfold emS
       rw [← g6]; rfl
      | 1, _ =>
       obtain ⟨g1, g2, g3, g4, g5, g6, g7⟩ := f3 (by decide)
       subst g1 g2 g3 g4 g5 f2
       refine ⟨fun st' e => (nomatch e), fun st' e => ?_, fun st' c e hc => ?_⟩
       ·have e : (Sum.inr (st2, 1) : PS ⊕ (PS × Nat)) = .inr (st', 1) := e
        cases e
        refine ⟨?_, g7, f5 rfl⟩
        unfold emS
        rw [← g6]; rfl
       ·have e : (Sum.inr (st2, 1) : PS ⊕ (PS × Nat)) = .inr (st', c) := e
        cases e
        exact absurd rfl hc
      | 2, _ =>
       subst f2
       refine ⟨fun st' e => (nomatch e), fun st' e => ?_, fun st' c e hc => ?_⟩
       ·have e : (Sum.inr (st2, 2) : PS ⊕ (PS × Nat)) = .inr (st', 1) := e
        cases e
       ·have e : (Sum.inr (st2, 2) : PS ⊕ (PS × Nat)) = .inr (st', c) := e
        cases e
        exact ⟨rfl, _, rfl, rfl⟩
      | c + 3, hc3 => exact absurd hc3 (by omega)
    ·refine ⟨fun st' e => (nomatch e), fun st' e => (nomatch e), fun st' c e hc => ?_⟩
     cases e
     exact ⟨rfl, _, rfl, rfl⟩
   ·simp only [cond_true]
    refine ⟨fun st' e => ?_, fun st' e => (nomatch e), fun st' c e => (nomatch e)⟩
    cases e
    refine ⟨?_, hst, hab⟩
    unfold emS; rw [hb]
end
theorem skipS {l : List Job} {Bd Bg : Int} {D : D_q26} {tk : Int} {plan : List Slot} {free : List Int} {i : Nat} (hi : i < l.length) (hn : l.length ≤ 12) (htk : 0 ≤ tk) {st : PS} (hab : AB Bd st) : @f_q1l_st7 ⟨D⟩ (emS l Bd Bg tk plan free i st) = some (.inl (emS l Bd Bg tk plan free (i + 1) st)) := by
 cases hb : st.best with
 | none => rw [AB, hb] at hab; cases hab.1
 | some b =>
  have hem : ∀ i : Nat, emS l Bd Bg tk plan free i st = .inr (tk, tkn l tk, (i : Int), Bd, Bg, st.tr, st.len, true, l, plan, free, b) := fun i => by unfold emS; rw [hb]
  rw [hem, hem]
  show @f_q1l_n7b ⟨D⟩ tk (tkn l tk) (i : Int) Bd Bg st.tr st.len true l plan free b = _
  unfold f_q1l_n7b
  rw [lt_true hi, u64n (by omega), dlt0, toNat_nat, cond_true, cond_false, bit_condS htk hi, succ64 (by omega), beq_iff_eq.2 hab.2]
  cases ready l tk i <;> rfl
end Go.RR
namespace Go.RR
open Go
theorem ready_wait {l : List Job} (hv : VJ l) {tk : Int} (ht : TkOK l.length tk) {i : Nat} (hi : i < l.length) (hr : ready l tk i = true) : tb tk i = false ∧ ∀ k, k < l.length → waitsB l i k = true → tb tk k = true := by
 have hn := hv.len
 refine ⟨ready_bit ht.rng.1 (by omega) hr, fun k hk hw => ?_⟩
 unfold ready at hr
 have hab : bAndNot .u16 (l.getD i (0, 0)).2 tk = 0 := by
  cases hb : (bShr .u16 tk i % 2 == 0)
  ·rw [hb] at hr; cases hr
  ·rw [hb] at hr
   simpa using hr
 rw [waits_bit hv.ok hi (by omega)] at hw
 exact andn_nat (hv.ok _ (getD_mem' hi)).2 ht.rng hab hw
theorem okO_ready {l : List Job} {tk : Int} (h0 : 0 ≤ tk) {x : Int} (h : okO l tk x = true) : ∃ j : Nat, j < l.length ∧ x = (j : Int) ∧ ready l tk j = true := by
 unfold okO at h
 obtain ⟨h1, h2⟩ := Bool.and_eq_true_iff.1 h
 obtain ⟨h2, h3⟩ := Bool.and_eq_true_iff.1 h2
 obtain ⟨j, hj, rfl⟩ := in_nat h1
 refine ⟨j, hj, rfl, ?_⟩
 rw [toNat_nat] at h3
 unfold ready
 rw [h3]
 have h4 := (shr_range (y := (j : Int)) h0).1
 have : (bShr .u16 tk (j : Int) % 2 == 0) = true := by
  rw [Bool.not_eq_true'] at h2
  have := beq_eq_false_iff_ne.1 h2
  exact beq_iff_eq.2 (by omega)
 rw [this]; rfl
theorem Shop.fold {l : List Job} {H : Nat} (hv : VJ l) (hH : 1 ≤ H ∧ H ≤ 4) : ∀ (r : List Int) (tk : Int) (p : List Slot) (fr : List Int), Shop l H tk p fr → isO l tk r = true → r.length = cntR tk 0 l.length →
  MadeP l H (r.foldl (stepO l) (p, fr)).1 ∧ ∀ k, k < l.length → tb tk k = true → en l (r.foldl (stepO l) (p, fr)).1 k = en l p k
 | [], tk, p, fr, h, _, hc => ⟨⟨tk, fr, h, fun i hi => (cnt_zero l.length 0).1 hc.symm i (Nat.zero_le _) (by omega)⟩, fun _ _ _ => rfl⟩
 | x :: r, tk, p, fr, h, ho, hc => by
  unfold isO at ho
  cases hx : okO l tk x with
  | false => rw [hx] at ho; cases ho
  | true =>
   rw [hx, cond_true] at ho
   obtain ⟨j, hj, rfl, hr⟩ := okO_ready h.tok.rng.1 hx
   obtain ⟨hb, hw⟩ := ready_wait hv h.tok hj hr
   obtain ⟨s1, s2, s3⟩ := h.step hv hH hj hb hw
   have hcn := cnt_step (tkI_ok h.tok hj hv.len).2 hb l.length 0 (Nat.zero_le _) (by omega)
   have hlen : (((j : Nat) : Int) :: r).length = r.length + 1 := rfl
   obtain ⟨a, b⟩ := Shop.fold hv hH r (tkI tk j) _ _ s1 ho (by omega)
   rw [List.foldl_cons]
   have e : stepO l (p, fr) (j : Int) = (p.set j (slotB l p fr j), fr.set (slotB l p fr j).1.toNat (endB l (slotB l p fr j) j)) := by
    unfold stepO
    rw [toNat_nat]
    rfl
   rw [e]
   refine ⟨a, fun k hk hbk => ?_⟩
   have hne : k ≠ j := fun e => by rw [e, hb] at hbk; cases hbk
   rw [b k hk (by rw [(tkI_ok h.tok hj hv.len).2, hbk, Bool.true_or]), s2 k hne]
theorem stepO_at {l : List Job} {p : List Slot} {fr : List Int} {j : Nat} : stepO l (p, fr) (j : Int) = (p.set j (slotB l p fr j), fr.set (slotB l p fr j).1.toNat (endB l (slotB l p fr j) j)) := by
 unfold stepO
 rw [toNat_nat]
 rfl
theorem dayF_le {p : Nat → Bool} {f : Nat → Int} {L : Int} : ∀ (ks : List Nat) (m : Int), m ≤ L → (∀ k ∈ ks, p k = true → f k ≤ L) → dayF p f ks m ≤ L
 | [], m, hm, _ => hm
 | k :: ks, m, hm, h => by
  show dayF p f ks (cond (p k) (max m (f k)) m) ≤ L
  refine dayF_le ks _ ?_ fun k' hk' => h k' (by simp [hk'])
  cases hp : p k
  ·exact hm
  ·have := h k (by simp) hp
   simp only [cond_true]; omega
theorem day_leaf {l : List Job} {H : Nat} (hv : VJ l) (hH : 1 ≤ H ∧ H ≤ 4) {r : List Int} {tk : Int} {p : List Slot} {fr : List Int} {day : Int} (h : Shop l H tk p fr) (hd : DayI l tk p day) (ho : isO l tk r = true) (hc : r.length = cntR tk 0 l.length) : day ≤ lenB l (r.foldl (stepO l) (p, fr)).1 := by
 obtain ⟨a, b⟩ := h.fold hv hH r tk p fr ho hc
 rw [hd]
 refine dayF_le _ _ (built_len hv a).1 fun k hk hb => ?_
 have hk : k < l.length := by rw [List.mem_range'_1] at hk; omega
 rw [done_eq hv hk (h.st_le hv hk hb), ← b k hk hb]
 exact (built_en hv a hk).1
def FineS (l : List Job) (H : Nat) (st : PS) : Prop := ∀ b, st.best = some b → MadeP l H b ∧ st.len = lenB l b
structure GoS (l : List Job) (H : Nat) (Bd : Int) (tk : Int) (p : List Slot) (fr : List Int) (day : Int) (st : PS) (r : PS × Nat) : Prop where
 good : FineS l H r.1
 mono : st.best.isSome = true → r.1.best.isSome = true ∧ r.1.len ≤ st.len
 day : r.1.best.isSome = true → day ≤ r.1.len
 stop : r.2 ≠ 0 → r.2 ≠ 2 → r.1.best.isSome = true ∧ r.1.len = Bd
 leaf : r.2 ≠ 2 → ∀ o, isO l tk o = true → o.length = cntR tk 0 l.length → r.1.best.isSome = true ∧ r.1.len ≤ lenB l (o.foldl (stepO l) (p, fr)).1
theorem exit_split {σ ρ : Type} {f : σ → Nat → σ ⊕ ρ} (I : Nat → σ → Prop) (Z : ρ → Prop) (n : Nat) (hs : ∀ i s, i < n → I i s → match f s i with | .inl s' => I (i + 1) s' | .inr r => Z r) : ∀ (k i : Nat) (s : σ), i + k = n → I i s → match exitL f s (List.range' i k) with | .inl s' => I n s' | .inr r => Z r
 | 0, i, s, h, hI => by
  obtain rfl : i = n := by omega
  exact hI
 | k + 1, i, s, h, hI => by
  rw [List.range'_succ]
  unfold exitL
  have := hs i s (by omega) hI
  cases hf : f s i with
  | inl s' =>
   rw [hf] at this
   exact exit_split I Z n hs k (i + 1) s' (by omega) this
  | inr r => rw [hf] at this; exact this
theorem go_spec {l : List Job} {H : Nat} {Bd Bg : Int} (hv : VJ l) (hH : 1 ≤ H ∧ H ≤ 4) (hBd : ∀ q, MadeP l H q → Bd ≤ lenB l q) : ∀ (k : Nat) (tk : Int) (p : List Slot) (fr : List Int) (day : Int) (st : PS),
  Shop l H tk p fr → DayI l tk p day → cntR tk 0 l.length < k → FineS l H st → (st.best.isSome = true → day ≤ st.len) → GoS l H Bd tk p fr day st (go l Bd Bg k tk p fr day st)
 | 0, tk, p, fr, day, st, h, hd, hc, hg, hl => by omega
 | k + 1, tk, p, fr, day, st, h, hd, hc, hg, hl => by
  unfold go
  rw [full_iff hv.len h.tok]
  by_cases h0 : cntR tk 0 l.length = 0
  ·rw [decide_eq_true h0, cond_true]
   have hm : MadeP l H p := ⟨tk, fr, h, fun i hi => (cnt_zero l.length 0).1 h0 i (Nat.zero_le _) (by omega)⟩
   have hlen : lenB l p = day := by
    rw [hd, dayF_full]
    ·rfl
    ·intro i hi
     rw [List.mem_range'_1] at hi
     exact (cnt_zero l.length 0).1 h0 i (Nat.zero_le _) (by omega)
   refine ⟨fun b e => ?_, fun hs => ⟨rfl, hl hs⟩, fun _ => Int.le_refl _, fun h1 h2 => ⟨rfl, ?_⟩, fun _ o ho hol => ⟨rfl, ?_⟩⟩
   ·cases e
    exact ⟨hm, hlen.symm⟩
   ·show day = Bd
    by_cases e : day = Bd
    ·exact e
    ·exact absurd (show cond (day == Bd) 1 0 = 0 by rw [beq_eq_false_iff_ne.2 e]; rfl) h1
   ·rw [h0] at hol
    obtain rfl := List.eq_nil_of_length_eq_zero hol
    show day ≤ lenB l p
    omega
  ·rw [decide_eq_false h0, cond_false]
   have key := exit_split (f := goStep l Bg (go l Bd Bg k) tk p fr day) (ρ := PS × Nat)
    (fun i s => FineS l H s ∧ (st.best.isSome = true → s.best.isSome = true ∧ s.len ≤ st.len) ∧ (s.best.isSome = true → day ≤ s.len) ∧ ∀ j : Nat, j < i → j < l.length → ready l tk j = true → ∀ o, isO l (tkI tk j) o = true → o.length + 1 = cntR tk 0 l.length → s.best.isSome = true ∧ s.len ≤ lenB l ((((j : Nat) : Int) :: o).foldl (stepO l) (p, fr)).1)
    (fun r => GoS l H Bd tk p fr day st r) l.length ?_ l.length 0 st (by omega) ⟨hg, fun hs => ⟨hs, Int.le_refl _⟩, hl, fun j hj => by omega⟩
   ·cases he : exitL (goStep l Bg (go l Bd Bg k) tk p fr day) st (List.range' 0 l.length) with
    | inr r => rw [he] at key; exact key
    | inl s =>
     rw [he] at key
     obtain ⟨a, b, c, d⟩ := key
     refine ⟨a, b, c, fun h1 _ => absurd rfl h1, fun _ o ho hol => ?_⟩
     cases o with
     | nil => exact absurd hol.symm (by simpa using h0)
     | cons x o =>
      unfold isO at ho
      cases hx : okO l tk x with
      | false => rw [hx] at ho; cases ho
      | true =>
       rw [hx, cond_true] at ho
       obtain ⟨j, hj, rfl, hr⟩ := okO_ready h.tok.rng.1 hx
       exact d j hj hj hr o ho (by simpa using hol)
   ·intro i s hi ⟨a, b, c, d⟩
    unfold goStep
    ·cases hr : ready l tk i with
     | false =>
      rw [cond_false]
      refine ⟨a, b, c, fun j hj hjl hrj o ho hol => ?_⟩
      by_cases e : j = i
      ·subst e; rw [hr] at hrj; cases hrj
      ·exact d j (by omega) hjl hrj o ho hol
     | true =>
      rw [cond_true]
      obtain ⟨hb, hw⟩ := ready_wait hv h.tok hi hr
      obtain ⟨s1, s2, s3⟩ := h.step hv hH hi hb hw
      have hd' := dayI_step hv.len hd h.tok h.plen hi hb (slotB l p fr i)
      have hcn := cnt_step (tkI_ok h.tok hi hv.len).2 hb l.length 0 (Nat.zero_le _) (by omega)
      have hdl : ∀ o, isO l (tkI tk i) o = true → o.length + 1 = cntR tk 0 l.length → max day (endB l (slotB l p fr i) i) ≤ lenB l ((((i : Nat) : Int) :: o).foldl (stepO l) (p, fr)).1 := by
       intro o ho hol
       rw [List.foldl_cons, stepO_at]
       exact day_leaf hv hH s1 hd' ho (by omega)
      cases hsk : (s.best.isSome && decide (endB l (slotB l p fr i) i ≥ s.len)) with
      | true =>
       rw [cond_true]
       obtain ⟨k1, k2⟩ := Bool.and_eq_true_iff.1 hsk
       have k2 := of_decide_eq_true k2
       refine ⟨a, b, c, fun j hj hjl hrj o ho hol => ?_⟩
       by_cases e : j = i
       ·subst e
        have := hdl o ho hol
        exact ⟨k1, by omega⟩
       ·exact d j (by omega) hjl hrj o ho hol
      | false =>
       rw [cond_false]
       have hle : s.best.isSome = true → max day (endB l (slotB l p fr i) i) ≤ s.len := by
        intro k1
        rw [k1, Bool.true_and] at hsk
        have := of_decide_eq_false hsk
        have := c k1
        omega
       by_cases hbg : s.tr + 1 > Bg
       ·rw [decide_eq_true hbg, cond_true]
        exact ⟨a, b, c, fun _ h2 => absurd rfl h2, fun h2 => absurd rfl h2⟩
       ·rw [decide_eq_false hbg, cond_false]
        have g := go_spec (Bg := Bg) hv hH hBd k (tkI tk i) (p.set i (slotB l p fr i)) (fr.set (slotB l p fr i).1.toNat (endB l (slotB l p fr i) i)) (max day (endB l (slotB l p fr i) i)) ⟨s.tr + 1, s.len, s.best⟩ s1 hd' (by omega) a hle
        have mono : st.best.isSome = true → (go l Bd Bg k (tkI tk i) (p.set i (slotB l p fr i)) (fr.set (slotB l p fr i).1.toNat (endB l (slotB l p fr i) i)) (max day (endB l (slotB l p fr i) i)) ⟨s.tr + 1, s.len, s.best⟩).1.best.isSome = true ∧ (go l Bd Bg k (tkI tk i) (p.set i (slotB l p fr i)) (fr.set (slotB l p fr i).1.toNat (endB l (slotB l p fr i) i)) (max day (endB l (slotB l p fr i) i)) ⟨s.tr + 1, s.len, s.best⟩).1.len ≤ st.len := by
         intro hs
         obtain ⟨q1, q2⟩ := b hs
         obtain ⟨q3, q4⟩ := g.mono q1
         exact ⟨q3, Int.le_trans q4 q2⟩
        revert g mono
        generalize go l Bd Bg k (tkI tk i) (p.set i (slotB l p fr i)) (fr.set (slotB l p fr i).1.toNat (endB l (slotB l p fr i) i)) (max day (endB l (slotB l p fr i) i)) ⟨s.tr + 1, s.len, s.best⟩ = res
        intro g mono
        match res, g, mono with
        | (s', 0), g, mono =>
         refine ⟨g.good, mono, fun k1 => ?_, fun j hj hjl hrj o ho hol => ?_⟩
         ·have := g.day k1
          show day ≤ s'.len
          have : max day (endB l (slotB l p fr i) i) ≤ s'.len := this
          omega
         ·by_cases e : j = i
          ·subst e
           have := g.leaf (show (0 : Nat) ≠ 2 by decide) o ho (by omega)
           rw [List.foldl_cons, stepO_at]
           exact this
          ·obtain ⟨q1, q2⟩ := d j (by omega) hjl hrj o ho hol
           obtain ⟨q3, q4⟩ := g.mono q1
           exact ⟨q3, Int.le_trans q4 q2⟩
        | (s', n + 1), g, mono =>
         refine ⟨g.good, mono, fun k1 => ?_, fun _ h2 => g.stop (by show n + 1 ≠ 0; omega) h2, fun h2 o ho hol => ?_⟩
         ·have := g.day k1
          have : max day (endB l (slotB l p fr i) i) ≤ s'.len := this
          show day ≤ s'.len
          omega
         ·obtain ⟨q1, q2⟩ := g.stop (by show n + 1 ≠ 0; omega) h2
          have := hBd _ (h.fold hv hH o tk p fr ho hol).1
          exact ⟨q1, by rw [q2]; exact this⟩
end Go.RR
namespace Go.RR
open Go
section
variable {l : List Job} {Bd Bg : Int} (hj : JobsOK l) (hn : l.length ≤ 12) (hB : Bg ≤ 20000) {k : Nat} {D : D_q26} (hD : GoOK l Bd Bg k D)
variable {tk : Int} {plan : List Slot} {free : List Int} {day : Int} (hI : OKin l tk plan free) (hc : cntR tk 0 l.length ≤ k) (hday : DayI l tk plan day)
abbrev GC := Int × Int × Int × Int × Int × Int × Int × Bool × List Job × List Slot × List Slot × List Int
abbrev GD := Int × Int × Int × Int × Int × Int × Int × Bool × List Job × List Slot × List Slot × List Int × List Slot
def RepU (l : List Job) (Bd Bg tk : Int) (plan : List Slot) (free : List Int) (i : Nat) (st : PS) (s : GC ⊕ GD) : Prop :=
 ∃ b, st.best = some b ∧ (s = .inl (tk, tkn l tk, (i : Int), Bd, Bg, st.tr, st.len, true, l, b, plan, free) ∨ ∃ old, s = .inr (tk, tkn l tk, (i : Int), Bd, Bg, st.tr, st.len, true, l, old, plan, free, b))
theorem skipU {i : Nat} (hi : i < l.length) (hn : l.length ≤ 12) (htk : 0 ≤ tk) {st : PS} (hab : AB Bd st) {s : GC ⊕ GD} (hs : RepU l Bd Bg tk plan free i st s) : ∃ s', @f_q1m_st7 ⟨D⟩ s = some (.inl s') ∧ RepU l Bd Bg tk plan free (i + 1) st s' := by
 obtain ⟨b, hb, rfl | ⟨old, rfl⟩⟩ := hs
 ·refine ⟨.inl (tk, tkn l tk, ((i + 1 : Nat) : Int), Bd, Bg, st.tr, st.len, true, l, b, plan, free), ?_, ⟨b, hb, .inl rfl⟩⟩
  show @f_q1m_n7 ⟨D⟩ tk (tkn l tk) (i : Int) Bd Bg st.tr st.len true l b plan free = _
  unfold f_q1m_n7
  rw [lt_true hi, u64n (by omega), dlt0, toNat_nat, cond_true, cond_false, bit_condS htk hi, succ64 (by omega), beq_iff_eq.2 hab.2]
  cases ready l tk i <;> rfl
 ·refine ⟨.inr (tk, tkn l tk, ((i + 1 : Nat) : Int), Bd, Bg, st.tr, st.len, true, l, old, plan, free, b), ?_, ⟨b, hb, .inr ⟨_, rfl⟩⟩⟩
  show @f_q1m_n7b ⟨D⟩ tk (tkn l tk) (i : Int) Bd Bg st.tr st.len true l old plan free b = _
  unfold f_q1m_n7b
  rw [lt_true hi, u64n (by omega), dlt0, toNat_nat, cond_true, cond_false, bit_condS htk hi, succ64 (by omega), beq_iff_eq.2 hab.2]
  cases ready l tk i <;> rfl
include hj hn hB hD hI hc hday
theorem stepU {i : Nat} (hi : i < l.length) {st : PS} (hst : OKst l.length Bg st) (hab : ¬ AB Bd st) {s : GC ⊕ GD} (hs : RepU l Bd Bg tk plan free i st s) :
  (∀ st', goStep l Bg (go l Bd Bg k) tk plan free day st i = .inl st' → ∃ s', @f_q1m_st7 ⟨D⟩ s = some (.inl s') ∧ RepU l Bd Bg tk plan free (i + 1) st' s' ∧ OKst l.length Bg st' ∧ ¬ AB Bd st') ∧
  (∀ st', goStep l Bg (go l Bd Bg k) tk plan free day st i = .inr (st', 1) → ∃ s', @f_q1m_st7 ⟨D⟩ s = some (.inl s') ∧ RepU l Bd Bg tk plan free (i + 1) st' s' ∧ OKst l.length Bg st' ∧ AB Bd st') ∧
  (∀ st' c, goStep l Bg (go l Bd Bg k) tk plan free day st i = .inr (st', c) → c ≠ 1 → c = 2 ∧ ∃ o, @f_q1m_st7 ⟨D⟩ s = some (.inr o) ∧ (ansSB o).ret = false) := by
 have htk := hI.tk.rng
 have hput := sput_eq hj hn hI.plan hi hI.free
 obtain ⟨h, hh1, hh2⟩ := slot_hand (l := l) (p := plan) (fr := free) (i := i) hI.free
 have hinh : inB (slotB l plan free i).1 free.length = true := by rw [hh2]; exact inB_nat hh1
 have hpl : i < plan.length := by rw [hI.plan]; exact hi
 have hpl2 := hI.plan
 have hfr := hI.free
 have htr := hst.tr
 have hov : decide (st.tr + 1 > Bg) = (st.tr == Bg) := by
  apply Bool.eq_iff_iff.2
  rw [decide_eq_true_eq, beq_iff_eq]
  omega
 have hcl := cnt_le tk l.length 0
 obtain ⟨b, hb, rfl | ⟨old, rfl⟩⟩ := hs
 ·have hstep : @f_q1m_st7 ⟨D⟩ (.inl (tk, tkn l tk, (i : Int), Bd, Bg, st.tr, st.len, true, l, b, plan, free)) = @f_q1m_n7 ⟨D⟩ tk (tkn l tk) (i : Int) Bd Bg st.tr st.len true l b plan free := rfl
  rw [hstep]
  unfold f_q1m_n7 goStep
  rw [lt_true hi, u64n (by omega), dlt0, toNat_nat, cond_true, cond_false, bit_condS htk.1 hi, succ64 (by omega)]
  cases hr : ready l tk i
  ·simp only [cond_false]
   refine ⟨fun st' e => ?_, fun st' e => (nomatch e), fun st' c e => (nomatch e)⟩
   cases e
   exact ⟨_, rfl, ⟨b, hb, .inl rfl⟩, hst, hab⟩
  ·simp only [cond_true, cond_false]
   have hlb : (st.len == Bd) = false := by
    apply Bool.eq_false_iff.2
    intro e
    exact hab ⟨by rw [hb]; rfl, beq_iff_eq.1 e⟩
   have hid : IntKind.wrap .i64 (IntKind.wrap .i64 (slotB l plan free i).2 + IntKind.wrap .i64 (l.getD i ((0, 0) : Int × Int)).1) = endB l (slotB l plan free i) i := rfl
   rw [hlb, cond_false, hput, hb, hov]
   simp only [Option.bind, Option.isSome, Bool.true_and, inB_nat hi, cond_true, cond_false, List.nil_append, hid]
   cases hpr : decide (endB l (slotB l plan free i) i ≥ st.len)
   ·simp only [cond_false]
    cases hq : st.tr == Bg
    ·have hready := ready_bit (l := l) htk.1 (show i < 16 by omega) hr
     rw [fits_small (show (([] : List (Int × Int)).length + plan.length) * 4 ≤ 140737488355328 by simp; omega), fits_small (show (([] : List Int).length + free.length) * 8 ≤ 140737488355328 by simp; omega), inB_nat hpl, hinh, IntWalk.i64_in (st.tr + 1) (by omega)]
     simp only [cond_true, cond_false]
     have hov' : ¬ st.tr + 1 > Bg := of_decide_eq_false (hov.trans hq)
     have hst1 : OKst l.length Bg ⟨st.tr + 1, st.len, some b⟩ := ⟨by show 0 ≤ st.tr + 1 ∧ st.tr + 1 ≤ Bg; omega, fun b' e => by cases e; exact hst.best b hb⟩
     have hab1 : ¬ AB Bd ⟨st.tr + 1, st.len, some b⟩ := fun e => hab ⟨by rw [hb]; rfl, e.2⟩
     have hI1 := hI.step hn hi (slotB l plan free i) (slotB l plan free i).1.toNat (endB l (slotB l plan free i) i)
     have hcs := cnt_step (tkI_ok hI.tk hi hn).2 hready l.length 0 (Nat.zero_le _) (by omega)
     have hc1 : cntR (tkI tk i) 0 l.length < k := by omega
     have hd1 := dayI_step hn hday hI.tk hI.plan hi hready (slotB l plan free i)
     have htn : IntKind.wrap .i64 (tkn l tk + 1) = tkn l (tkI tk i) := by
      unfold tkn
      rw [succ64 (by omega)]
      congr 1
      omega
     obtain ⟨r, e1, e2⟩ := hD.b _ _ _ (max day (endB l (slotB l plan free i) i)) _ b hI1 hst1 hab1 hd1 hc1 rfl
     rw [htn]
     have e1 : D.b (bOr .u16 tk (bShl .u16 1 (i : Int))) (tkn l (tkI tk i)) Bd Bg (st.tr + 1) st.len true l b (plan.set i ((slotB l plan free i).1, (slotB l plan free i).2)) (free.set (slotB l plan free i).1.toNat (endB l (slotB l plan free i) i)) = some r := e1
     rw [e1]
     generalize hg : go l Bd Bg k (tkI tk i) (plan.set i (slotB l plan free i)) (free.set (slotB l plan free i).1.toNat (endB l (slotB l plan free i) i)) (max day (endB l (slotB l plan free i) i)) ⟨st.tr + 1, st.len, some b⟩ = g at e2
     obtain ⟨st2, c⟩ := g
     rcases r with ⟨ret, bd', bg', tr', len', fd', best', plan', free'⟩ | ⟨ret, bd', bg', tr', len', fd', old', plan', free', best'⟩
     ·obtain ⟨f1, f2, f3, f4, f5⟩ := e2
      simp only [ansSB] at f1 f2 f3 f4 f5
      match c, f1 with
      | 0, _ =>
       obtain ⟨g1, g2, g3, g4, g5, g6, g7⟩ := f3 (by decide)
       subst g1 g2 g3 g4 g5 f2
       refine ⟨fun st' e => ?_, fun st' e => (nomatch e), fun st' c e => (nomatch e)⟩
       have e : (Sum.inl st2 : PS ⊕ (PS × Nat)) = .inl st' := e
       cases e
       exact ⟨_, rfl, ⟨best', g6.symm, by first | (rw [← g6]; exact .inl rfl) | (rw [← g6]; exact .inr ⟨_, rfl⟩)⟩, g7, f4 rfl⟩
      | 1, _ =>
       obtain ⟨g1, g2, g3, g4, g5, g6, g7⟩ := f3 (by decide)
       subst g1 g2 g3 g4 g5 f2
       refine ⟨fun st' e => (nomatch e), fun st' e => ?_, fun st' c e hc => ?_⟩
       ·have e : (Sum.inr (st2, 1) : PS ⊕ (PS × Nat)) = .inr (st', 1) := e
        cases e
        exact ⟨_, rfl, ⟨best', g6.symm, by first | (rw [← g6]; exact .inl rfl) | (rw [← g6]; exact .inr ⟨_, rfl⟩)⟩, g7, f5 rfl⟩
       ·have e : (Sum.inr (st2, 1) : PS ⊕ (PS × Nat)) = .inr (st', c) := e
        cases e
        exact absurd rfl hc
      | 2, _ =>
       subst f2
       refine ⟨fun st' e => (nomatch e), fun st' e => ?_, fun st' c e hc => ?_⟩
       ·have e : (Sum.inr (st2, 2) : PS ⊕ (PS × Nat)) = .inr (st', 1) := e
        cases e
       ·have e : (Sum.inr (st2, 2) : PS ⊕ (PS × Nat)) = .inr (st', c) := e
        cases e
        exact ⟨rfl, _, rfl, rfl⟩
      | c + 3, hc3 => exact absurd hc3 (by omega)
     ·obtain ⟨f1, f2, f3, f4, f5⟩ := e2
      simp only [ansSB] at f1 f2 f3 f4 f5
      match c, f1 with
      | 0, _ =>
       obtain ⟨g1, g2, g3, g4, g5, g6, g7⟩ := f3 (by decide)
       subst g1 g2 g3 g4 g5 f2
       refine ⟨fun st' e => ?_, fun st' e => (nomatch e), fun st' c e => (nomatch e)⟩
       have e : (Sum.inl st2 : PS ⊕ (PS × Nat)) = .inl st' := e
       cases e
       exact ⟨_, rfl, ⟨best', g6.symm, by first | (rw [← g6]; exact .inl rfl) | (rw [← g6]; exact .inr ⟨_, rfl⟩)⟩, g7, f4 rfl⟩
      | 1, _ =>
       obtain ⟨g1, g2, g3, g4, g5, g6, g7⟩ := f3 (by decide)
       subst g1 g2 g3 g4 g5 f2
       refine ⟨fun st' e => (nomatch e), fun st' e => ?_, fun st' c e hc => ?_⟩
       ·have e : (Sum.inr (st2, 1) : PS ⊕ (PS × Nat)) = .inr (st', 1) := e
        cases e
        exact ⟨_, rfl, ⟨best', g6.symm, by first | (rw [← g6]; exact .inl rfl) | (rw [← g6]; exact .inr ⟨_, rfl⟩)⟩, g7, f5 rfl⟩
       ·have e : (Sum.inr (st2, 1) : PS ⊕ (PS × Nat)) = .inr (st', c) := e
        cases e
        exact absurd rfl hc
      | 2, _ =>
       subst f2
       refine ⟨fun st' e => (nomatch e), fun st' e => ?_, fun st' c e hc => ?_⟩
       ·have e : (Sum.inr (st2, 2) : PS ⊕ (PS × Nat)) = .inr (st', 1) := e
        cases e
       ·have e : (Sum.inr (st2, 2) : PS ⊕ (PS × Nat)) = .inr (st', c) := e
        cases e
        exact ⟨rfl, _, rfl, rfl⟩
      | c + 3, hc3 => exact absurd hc3 (by omega)
    ·refine ⟨fun st' e => (nomatch e), fun st' e => (nomatch e), fun st' c e hc => ?_⟩
     cases e
     exact ⟨rfl, _, rfl, rfl⟩
   ·simp only [cond_true]
    refine ⟨fun st' e => ?_, fun st' e => (nomatch e), fun st' c e => (nomatch e)⟩
    cases e
    exact ⟨_, rfl, ⟨b, hb, .inl rfl⟩, hst, hab⟩
 ·have hstep : @f_q1m_st7 ⟨D⟩ (.inr (tk, tkn l tk, (i : Int), Bd, Bg, st.tr, st.len, true, l, old, plan, free, b)) = @f_q1m_n7b ⟨D⟩ tk (tkn l tk) (i : Int) Bd Bg st.tr st.len true l old plan free b := rfl
  rw [hstep]
  unfold f_q1m_n7b goStep
  rw [lt_true hi, u64n (by omega), dlt0, toNat_nat, cond_true, cond_false, bit_condS htk.1 hi, succ64 (by omega)]
  cases hr : ready l tk i
  ·simp only [cond_false]
   refine ⟨fun st' e => ?_, fun st' e => (nomatch e), fun st' c e => (nomatch e)⟩
   cases e
   exact ⟨_, rfl, ⟨b, hb, .inr ⟨_, rfl⟩⟩, hst, hab⟩
  ·simp only [cond_true, cond_false]
   have hlb : (st.len == Bd) = false := by
    apply Bool.eq_false_iff.2
    intro e
    exact hab ⟨by rw [hb]; rfl, beq_iff_eq.1 e⟩
   have hid : IntKind.wrap .i64 (IntKind.wrap .i64 (slotB l plan free i).2 + IntKind.wrap .i64 (l.getD i ((0, 0) : Int × Int)).1) = endB l (slotB l plan free i) i := rfl
   rw [hlb, cond_false, hput, hb, hov]
   simp only [Option.bind, Option.isSome, Bool.true_and, inB_nat hi, cond_true, cond_false, List.nil_append, hid]
   cases hpr : decide (endB l (slotB l plan free i) i ≥ st.len)
   ·simp only [cond_false]
    cases hq : st.tr == Bg
    ·have hready := ready_bit (l := l) htk.1 (show i < 16 by omega) hr
     rw [fits_small (show (([] : List (Int × Int)).length + plan.length) * 4 ≤ 140737488355328 by simp; omega), fits_small (show (([] : List Int).length + free.length) * 8 ≤ 140737488355328 by simp; omega), inB_nat hpl, hinh, IntWalk.i64_in (st.tr + 1) (by omega)]
     simp only [cond_true, cond_false]
     have hov' : ¬ st.tr + 1 > Bg := of_decide_eq_false (hov.trans hq)
     have hst1 : OKst l.length Bg ⟨st.tr + 1, st.len, some b⟩ := ⟨by show 0 ≤ st.tr + 1 ∧ st.tr + 1 ≤ Bg; omega, fun b' e => by cases e; exact hst.best b hb⟩
     have hab1 : ¬ AB Bd ⟨st.tr + 1, st.len, some b⟩ := fun e => hab ⟨by rw [hb]; rfl, e.2⟩
     have hI1 := hI.step hn hi (slotB l plan free i) (slotB l plan free i).1.toNat (endB l (slotB l plan free i) i)
     have hcs := cnt_step (tkI_ok hI.tk hi hn).2 hready l.length 0 (Nat.zero_le _) (by omega)
     have hc1 : cntR (tkI tk i) 0 l.length < k := by omega
     have hd1 := dayI_step hn hday hI.tk hI.plan hi hready (slotB l plan free i)
     have htn : IntKind.wrap .i64 (tkn l tk + 1) = tkn l (tkI tk i) := by
      unfold tkn
      rw [succ64 (by omega)]
      congr 1
      omega
     obtain ⟨r, e1, e2⟩ := hD.b _ _ _ (max day (endB l (slotB l plan free i) i)) _ b hI1 hst1 hab1 hd1 hc1 rfl
     rw [htn]
     have e1 : D.b (bOr .u16 tk (bShl .u16 1 (i : Int))) (tkn l (tkI tk i)) Bd Bg (st.tr + 1) st.len true l b (plan.set i ((slotB l plan free i).1, (slotB l plan free i).2)) (free.set (slotB l plan free i).1.toNat (endB l (slotB l plan free i) i)) = some r := e1
     rw [e1]
     generalize hg : go l Bd Bg k (tkI tk i) (plan.set i (slotB l plan free i)) (free.set (slotB l plan free i).1.toNat (endB l (slotB l plan free i) i)) (max day (endB l (slotB l plan free i) i)) ⟨st.tr + 1, st.len, some b⟩ = g at e2
     obtain ⟨st2, c⟩ := g
     rcases r with ⟨ret, bd', bg', tr', len', fd', best', plan', free'⟩ | ⟨ret, bd', bg', tr', len', fd', old', plan', free', best'⟩
     ·obtain ⟨f1, f2, f3, f4, f5⟩ := e2
      simp only [ansSB] at f1 f2 f3 f4 f5
      match c, f1 with
      | 0, _ =>
       obtain ⟨g1, g2, g3, g4, g5, g6, g7⟩ := f3 (by decide)
       subst g1 g2 g3 g4 g5 f2
       refine ⟨fun st' e => ?_, fun st' e => (nomatch e), fun st' c e => (nomatch e)⟩
       have e : (Sum.inl st2 : PS ⊕ (PS × Nat)) = .inl st' := e
       cases e
       exact ⟨_, rfl, ⟨best', g6.symm, by first | (rw [← g6]; exact .inl rfl) | (rw [← g6]; exact .inr ⟨_, rfl⟩)⟩, g7, f4 rfl⟩
      | 1, _ =>
       obtain ⟨g1, g2, g3, g4, g5, g6, g7⟩ := f3 (by decide)
       subst g1 g2 g3 g4 g5 f2
       refine ⟨fun st' e => (nomatch e), fun st' e => ?_, fun st' c e hc => ?_⟩
       ·have e : (Sum.inr (st2, 1) : PS ⊕ (PS × Nat)) = .inr (st', 1) := e
        cases e
        exact ⟨_, rfl, ⟨best', g6.symm, by first | (rw [← g6]; exact .inl rfl) | (rw [← g6]; exact .inr ⟨_, rfl⟩)⟩, g7, f5 rfl⟩
       ·have e : (Sum.inr (st2, 1) : PS ⊕ (PS × Nat)) = .inr (st', c) := e
        cases e
        exact absurd rfl hc
      | 2, _ =>
       subst f2
       refine ⟨fun st' e => (nomatch e), fun st' e => ?_, fun st' c e hc => ?_⟩
       ·have e : (Sum.inr (st2, 2) : PS ⊕ (PS × Nat)) = .inr (st', 1) := e
        cases e
       ·have e : (Sum.inr (st2, 2) : PS ⊕ (PS × Nat)) = .inr (st', c) := e
        cases e
        exact ⟨rfl, _, rfl, rfl⟩
      | c + 3, hc3 => exact absurd hc3 (by omega)
     ·obtain ⟨f1, f2, f3, f4, f5⟩ := e2
      simp only [ansSB] at f1 f2 f3 f4 f5
      match c, f1 with
      | 0, _ =>
       obtain ⟨g1, g2, g3, g4, g5, g6, g7⟩ := f3 (by decide)
       subst g1 g2 g3 g4 g5 f2
       refine ⟨fun st' e => ?_, fun st' e => (nomatch e), fun st' c e => (nomatch e)⟩
       have e : (Sum.inl st2 : PS ⊕ (PS × Nat)) = .inl st' := e
       cases e
       exact ⟨_, rfl, ⟨best', g6.symm, by first | (rw [← g6]; exact .inl rfl) | (rw [← g6]; exact .inr ⟨_, rfl⟩)⟩, g7, f4 rfl⟩
      | 1, _ =>
       obtain ⟨g1, g2, g3, g4, g5, g6, g7⟩ := f3 (by decide)
       subst g1 g2 g3 g4 g5 f2
       refine ⟨fun st' e => (nomatch e), fun st' e => ?_, fun st' c e hc => ?_⟩
       ·have e : (Sum.inr (st2, 1) : PS ⊕ (PS × Nat)) = .inr (st', 1) := e
        cases e
        exact ⟨_, rfl, ⟨best', g6.symm, by first | (rw [← g6]; exact .inl rfl) | (rw [← g6]; exact .inr ⟨_, rfl⟩)⟩, g7, f5 rfl⟩
       ·have e : (Sum.inr (st2, 1) : PS ⊕ (PS × Nat)) = .inr (st', c) := e
        cases e
        exact absurd rfl hc
      | 2, _ =>
       subst f2
       refine ⟨fun st' e => (nomatch e), fun st' e => ?_, fun st' c e hc => ?_⟩
       ·have e : (Sum.inr (st2, 2) : PS ⊕ (PS × Nat)) = .inr (st', 1) := e
        cases e
       ·have e : (Sum.inr (st2, 2) : PS ⊕ (PS × Nat)) = .inr (st', c) := e
        cases e
        exact ⟨rfl, _, rfl, rfl⟩
      | c + 3, hc3 => exact absurd hc3 (by omega)
    ·refine ⟨fun st' e => (nomatch e), fun st' e => (nomatch e), fun st' c e hc => ?_⟩
     cases e
     exact ⟨rfl, _, rfl, rfl⟩
   ·simp only [cond_true]
    refine ⟨fun st' e => ?_, fun st' e => (nomatch e), fun st' c e => (nomatch e)⟩
    cases e
    exact ⟨_, rfl, ⟨b, hb, .inr ⟨_, rfl⟩⟩, hst, hab⟩
end
end Go.RR
namespace Go.RR
open Go
section
variable {l : List Job} {Bd Bg : Int} (hj : JobsOK l) (hn : l.length ≤ 12) (hB : Bg ≤ 20000)
section
variable {k : Nat} {D : D_q26}
variable {tk : Int} {plan : List Slot} {free : List Int} {day : Int}
theorem endS (st : PS) (hst : OKst l.length Bg st) (c : Nat) (hc : c = 0 ∧ ¬ AB Bd st ∨ c = 1 ∧ AB Bd st) : ∃ o, @f_q1l_st7 ⟨D⟩ (emS l Bd Bg tk plan free l.length st) = some (.inr o) ∧ IsS l.length Bd Bg (st, c) (ansSA o) := by
 have fin : ∀ o : TS1 ⊕ TS2, (ansSA o) = ⟨true, Bd, Bg, st.tr, st.len, st.best.isSome, st.best⟩ → IsS l.length Bd Bg (st, c) (ansSA o) := by
  intro o e
  rw [e]
  rcases hc with ⟨rfl, h⟩ | ⟨rfl, h⟩
  ·exact IsS.mk (show (0 : Nat) ≤ 2 by decide) rfl (fun _ => ⟨rfl, rfl, rfl, rfl, rfl, rfl, hst⟩) (fun _ => h) (fun h => absurd h (show ¬ (0 : Nat) = 1 by decide))
  ·exact IsS.mk (show (1 : Nat) ≤ 2 by decide) rfl (fun _ => ⟨rfl, rfl, rfl, rfl, rfl, rfl, hst⟩) (fun h => absurd h (show ¬ (1 : Nat) = 0 by decide)) (fun _ => h)
 cases hb : st.best with
 | none =>
  have hem : emS l Bd Bg tk plan free l.length st = .inl (tk, tkn l tk, ((l.length : Nat) : Int), Bd, Bg, st.tr, st.len, false, l, plan, free) := by unfold emS; rw [hb]
  rw [hem]
  refine ⟨mkX (true, Bd, Bg, st.tr, st.len, false, plan, free), ?_, fin _ (by rw [hb]; rfl)⟩
  show @f_q1l_n7 ⟨D⟩ tk (tkn l tk) ((l.length : Nat) : Int) Bd Bg st.tr st.len false l plan free = _
  unfold f_q1l_n7
  rw [lt_neg, cond_false]
 | some b =>
  have hem : emS l Bd Bg tk plan free l.length st = .inr (tk, tkn l tk, ((l.length : Nat) : Int), Bd, Bg, st.tr, st.len, true, l, plan, free, b) := by unfold emS; rw [hb]
  rw [hem]
  refine ⟨mkY (true, Bd, Bg, st.tr, st.len, true, plan, free, b), ?_, fin _ (by rw [hb]; rfl)⟩
  show @f_q1l_n7b ⟨D⟩ tk (tkn l tk) ((l.length : Nat) : Int) Bd Bg st.tr st.len true l plan free b = _
  unfold f_q1l_n7b
  rw [lt_neg, cond_false]
theorem skipRunS (hn : l.length ≤ 12) (htk : 0 ≤ tk) : ∀ (cnt i M : Nat) (st : PS), i + cnt = l.length → cnt < M → OKst l.length Bg st → AB Bd st → ∃ o, iter (@f_q1l_st7 ⟨D⟩) M (emS l Bd Bg tk plan free i st) = some o ∧ IsS l.length Bd Bg (st, 1) (ansSA o)
 | 0, i, M + 1, st, hi, hm, hst, hab => by
  obtain rfl : i = l.length := hi
  obtain ⟨o, e1, e2⟩ := endS (D := D) (tk := tk) (plan := plan) (free := free) st hst 1 (.inr ⟨rfl, hab⟩)
  exact ⟨o, iter_out e1, e2⟩
 | cnt + 1, i, M + 1, st, hi, hm, hst, hab => by
  rw [iter_in (skipS (D := D) (Bg := Bg) (plan := plan) (free := free) (show i < l.length by omega) hn htk hab)]
  exact skipRunS hn htk cnt (i + 1) M st (by omega) (by omega) hst hab
 | cnt, i, 0, st, hi, hm, _, _ => by omega
theorem endU (st : PS) (hst : OKst l.length Bg st) {s : GC ⊕ GD} (hs : RepU l Bd Bg tk plan free l.length st s) (c : Nat) (hc : c = 0 ∧ ¬ AB Bd st ∨ c = 1 ∧ AB Bd st) : ∃ o, @f_q1m_st7 ⟨D⟩ s = some (.inr o) ∧ IsS l.length Bd Bg (st, c) (ansSB o) := by
 have fin : ∀ o : TT1 ⊕ TT2, (ansSB o) = ⟨true, Bd, Bg, st.tr, st.len, st.best.isSome, st.best⟩ → IsS l.length Bd Bg (st, c) (ansSB o) := by
  intro o e
  rw [e]
  rcases hc with ⟨rfl, h⟩ | ⟨rfl, h⟩
  ·exact IsS.mk (show (0 : Nat) ≤ 2 by decide) rfl (fun _ => ⟨rfl, rfl, rfl, rfl, rfl, rfl, hst⟩) (fun _ => h) (fun h => absurd h (show ¬ (0 : Nat) = 1 by decide))
  ·exact IsS.mk (show (1 : Nat) ≤ 2 by decide) rfl (fun _ => ⟨rfl, rfl, rfl, rfl, rfl, rfl, hst⟩) (fun h => absurd h (show ¬ (1 : Nat) = 0 by decide)) (fun _ => h)
 obtain ⟨b, hb, rfl | ⟨old, rfl⟩⟩ := hs
 ·refine ⟨mkX (true, Bd, Bg, st.tr, st.len, true, b, plan, free), ?_, fin _ (by rw [hb]; rfl)⟩
  show @f_q1m_n7 ⟨D⟩ tk (tkn l tk) ((l.length : Nat) : Int) Bd Bg st.tr st.len true l b plan free = _
  unfold f_q1m_n7
  rw [lt_neg, cond_false]
 ·refine ⟨mkY (true, Bd, Bg, st.tr, st.len, true, old, plan, free, b), ?_, fin _ (by rw [hb]; rfl)⟩
  show @f_q1m_n7b ⟨D⟩ tk (tkn l tk) ((l.length : Nat) : Int) Bd Bg st.tr st.len true l old plan free b = _
  unfold f_q1m_n7b
  rw [lt_neg, cond_false]
theorem skipRunU (hn : l.length ≤ 12) (htk : 0 ≤ tk) : ∀ (cnt i M : Nat) (st : PS) (s : GC ⊕ GD), i + cnt = l.length → cnt < M → OKst l.length Bg st → AB Bd st → RepU l Bd Bg tk plan free i st s → ∃ o, iter (@f_q1m_st7 ⟨D⟩) M s = some o ∧ IsS l.length Bd Bg (st, 1) (ansSB o)
 | 0, i, M + 1, st, s, hi, hm, hst, hab, hs => by
  obtain rfl : i = l.length := hi
  obtain ⟨o, e1, e2⟩ := endU (D := D) st hst hs 1 (.inr ⟨rfl, hab⟩)
  exact ⟨o, iter_out e1, e2⟩
 | cnt + 1, i, M + 1, st, s, hi, hm, hst, hab, hs => by
  obtain ⟨s', e1, e2⟩ := skipU (D := D) (show i < l.length by omega) hn htk hab hs
  rw [iter_in e1]
  exact skipRunU hn htk cnt (i + 1) M st s' (by omega) (by omega) hst hab e2
 | cnt, i, 0, st, s, hi, hm, _, _, _ => by omega
variable (hD : GoOK l Bd Bg k D) (hI : OKin l tk plan free) (hc : cntR tk 0 l.length ≤ k) (hday : DayI l tk plan day)
include hj hn hB hD hI hc hday
theorem runS : ∀ (cnt i M : Nat) (st : PS), i + cnt = l.length → cnt < M → OKst l.length Bg st → ¬ AB Bd st →
  ∃ o, iter (@f_q1l_st7 ⟨D⟩) M (emS l Bd Bg tk plan free i st) = some o ∧ IsS l.length Bd Bg (outG (exitL (goStep l Bg (go l Bd Bg k) tk plan free day) st (List.range' i cnt))) (ansSA o)
 | 0, i, M + 1, st, hi, hm, hst, hab => by
  obtain rfl : i = l.length := hi
  obtain ⟨o, e1, e2⟩ := endS (D := D) (tk := tk) (plan := plan) (free := free) st hst 0 (.inl ⟨rfl, hab⟩)
  exact ⟨o, iter_out e1, e2⟩
 | cnt + 1, i, M + 1, st, hi, hm, hst, hab => by
  obtain ⟨h1, h2, h3⟩ := stepS hj hn hB hD hI hc hday (show i < l.length by omega) hst hab
  rw [List.range'_succ]
  unfold exitL
  cases hg : goStep l Bg (go l Bd Bg k) tk plan free day st i with
  | inl st' =>
   obtain ⟨e1, e2, e3⟩ := h1 st' hg
   rw [iter_in e1]
   exact runS cnt (i + 1) M st' (by omega) (by omega) e2 e3
  | inr r =>
   obtain ⟨st', c⟩ := r
   by_cases hc1 : c = 1
   ·subst hc1
    obtain ⟨e1, e2, e3⟩ := h2 st' hg
    rw [iter_in e1]
    exact skipRunS hn hI.tk.rng.1 cnt (i + 1) M st' (by omega) (by omega) e2 e3
   ·obtain ⟨rfl, o, e1, e2⟩ := h3 st' c hg hc1
    exact ⟨o, iter_out e1, IsS.mk (Nat.le_refl _) e2 (fun h => absurd rfl h) (fun h => absurd h (show ¬ (2 : Nat) = 0 by decide)) (fun h => absurd h (show ¬ (2 : Nat) = 1 by decide))⟩
 | cnt, i, 0, st, hi, hm, hst, _ => by omega
theorem runU : ∀ (cnt i M : Nat) (st : PS) (s : GC ⊕ GD), i + cnt = l.length → cnt < M → OKst l.length Bg st → ¬ AB Bd st → RepU l Bd Bg tk plan free i st s →
  ∃ o, iter (@f_q1m_st7 ⟨D⟩) M s = some o ∧ IsS l.length Bd Bg (outG (exitL (goStep l Bg (go l Bd Bg k) tk plan free day) st (List.range' i cnt))) (ansSB o)
 | 0, i, M + 1, st, s, hi, hm, hst, hab, hs => by
  obtain rfl : i = l.length := hi
  obtain ⟨o, e1, e2⟩ := endU (D := D) st hst hs 0 (.inl ⟨rfl, hab⟩)
  exact ⟨o, iter_out e1, e2⟩
 | cnt + 1, i, M + 1, st, s, hi, hm, hst, hab, hs => by
  obtain ⟨h1, h2, h3⟩ := stepU hj hn hB hD hI hc hday (show i < l.length by omega) hst hab hs
  rw [List.range'_succ]
  unfold exitL
  cases hg : goStep l Bg (go l Bd Bg k) tk plan free day st i with
  | inl st' =>
   obtain ⟨s', e1, e2, e3, e4⟩ := h1 st' hg
   rw [iter_in e1]
   exact runU cnt (i + 1) M st' s' (by omega) (by omega) e3 e4 e2
  | inr r =>
   obtain ⟨st', c⟩ := r
   by_cases hc1 : c = 1
   ·subst hc1
    obtain ⟨s', e1, e2, e3, e4⟩ := h2 st' hg
    rw [iter_in e1]
    exact skipRunU hn hI.tk.rng.1 cnt (i + 1) M st' s' (by omega) (by omega) e3 e4 e2
   ·obtain ⟨rfl, o, e1, e2⟩ := h3 st' c hg hc1
    exact ⟨o, iter_out e1, IsS.mk (Nat.le_refl _) e2 (fun h => absurd rfl h) (fun h => absurd h (show ¬ (2 : Nat) = 0 by decide)) (fun h => absurd h (show ¬ (2 : Nat) = 1 by decide))⟩
 | cnt, i, 0, st, s, hi, hm, hst, _, _ => by omega
end
include hj hn hB
theorem go_ok : ∀ k, GoOK l Bd Bg k (K_q26 k)
 | 0 => ⟨fun _ _ _ _ _ _ _ _ _ h => absurd h (Nat.not_lt_zero _), fun _ _ _ _ _ _ _ _ _ _ h => absurd h (Nat.not_lt_zero _)⟩
 | k + 1 => by
  have ih := go_ok k
  have hgo : ∀ tk plan free day st, go l Bd Bg (k + 1) tk plan free day st = cond (tk == fullB l.length) (⟨st.tr, day, some plan⟩, cond (day == Bd) 1 0) (outG (exitL (goStep l Bg (go l Bd Bg k) tk plan free day) st (List.range' 0 l.length))) := fun _ _ _ _ _ => rfl
  have hend : ∀ tk plan free, OKin l tk plan free → (tkn l tk == ((l.length : Nat) : Int)) = (tk == fullB l.length) := by
   intro tk plan free hI
   rw [full_iff hn hI.tk]
   have := cnt_le tk l.length 0
   apply Bool.eq_iff_iff.2
   rw [beq_iff_eq, decide_eq_true_eq]
   unfold tkn
   omega
  have hlen : ∀ tk plan free day, OKin l tk plan free → DayI l tk plan day → (tk == fullB l.length) = true → s_q0r l plan = some day := by
   intro tk plan free day hI hd hf
   rw [full_iff hn hI.tk, decide_eq_true_eq, cnt_zero] at hf
   rw [slen_eq hn hI.plan]
   unfold DayI at hd
   rw [hd, dayF_full _ _ fun k hk => hf k (Nat.zero_le _) (by rw [List.mem_range'_1] at hk; omega)]
   rfl
  have hfin : ∀ (plan : List Slot) (day : Int) (st : PS) (o : AnsS), plan.length = l.length → OKst l.length Bg st → o = ⟨true, Bd, Bg, st.tr, day, true, some plan⟩ → IsS l.length Bd Bg (⟨st.tr, day, some plan⟩, cond (day == Bd) 1 0) o := by
   intro plan day st o hp hst e
   subst e
   have hok : OKst l.length Bg ⟨st.tr, day, some plan⟩ := ⟨hst.tr, fun b e => by cases e; exact hp⟩
   cases hd : day == Bd
   ·exact IsS.mk (show (0 : Nat) ≤ 2 by decide) rfl (fun _ => ⟨rfl, rfl, rfl, rfl, rfl, rfl, hok⟩) (fun _ h => by
     have := h.2
     rw [beq_eq_false_iff_ne] at hd
     exact hd this) (fun h => absurd h (show ¬ (0 : Nat) = 1 by decide))
   ·exact IsS.mk (show (1 : Nat) ≤ 2 by decide) rfl (fun _ => ⟨rfl, rfl, rfl, rfl, rfl, rfl, hok⟩) (fun h => absurd h (show ¬ (1 : Nat) = 0 by decide)) (fun _ => ⟨rfl, beq_iff_eq.1 hd⟩)
  refine ⟨fun tk plan free day st hI hst hab hd hc hb => ?_, fun tk plan free day st b hI hst hab hd hc hb => ?_⟩
  ·show ∃ r, @s_q1l ⟨K_q26 k⟩ tk (tkn l tk) Bd Bg st.tr st.len false l plan free = some r ∧ _
   have hp := hI.plan
   unfold s_q1l
   rw [hend tk plan free hI, hgo, fits_small (show (([] : List (Int × Int)).length + plan.length) * 4 ≤ 140737488355328 by simp; omega)]
   cases hf : tk == fullB l.length
   ·have hr := runS (day := day) hj hn hB ih hI (by omega) hd l.length 0 FU st (by omega) (FU_big (pow_big (by omega))) hst hab
    have hem : emS l Bd Bg tk plan free 0 st = .inl (tk, tkn l tk, 0, Bd, Bg, st.tr, st.len, false, l, plan, free) := by unfold emS; rw [hb]; rfl
    rw [hem] at hr
    exact hr
   ·rw [hlen tk plan free day hI hd hf]
    exact ⟨_, rfl, hfin plan day st _ hp hst rfl⟩
  ·show ∃ r, @s_q1m ⟨K_q26 k⟩ tk (tkn l tk) Bd Bg st.tr st.len true l b plan free = some r ∧ _
   have hp := hI.plan
   unfold s_q1m
   rw [hend tk plan free hI, hgo, fits_small (show (([] : List (Int × Int)).length + plan.length) * 4 ≤ 140737488355328 by simp; omega)]
   cases hf : tk == fullB l.length
   ·exact runU (day := day) hj hn hB ih hI (by omega) hd l.length 0 FU st _ (by omega) (FU_big (pow_big (by omega))) hst hab ⟨b, hb, .inl rfl⟩
   ·rw [hlen tk plan free day hI hd hf]
    exact ⟨_, rfl, hfin plan day st _ hp hst rfl⟩
end
end Go.RR
namespace Go.RR
open Go
theorem tb_zero (k : Nat) : tb 0 k = false := by
 show (0 : Int).toNat.testBit k = false
 exact Nat.zero_testBit k
theorem cnt_none : ∀ (n a : Nat), cntR 0 a n = n
 | 0, _ => rfl
 | n + 1, a => by
  simp only [cntR]
  rw [tb_zero, cnt_none n (a + 1), cond_false]; omega
theorem dayF_none {p : Nat → Bool} {f : Nat → Int} (h : ∀ k, p k = false) : ∀ (ks : List Nat) (m : Int), dayF p f ks m = m
 | [], _ => rfl
 | k :: ks, m => by
  show dayF p f ks (cond (p k) (max m (f k)) m) = m
  rw [h k, cond_false]
  exact dayF_none h ks m
noncomputable def goB (l : List Job) (n : Nat) (Bg : Int) : PS × Nat := go l (boundB l (n : Int)) Bg 13 0 (List.replicate l.length (0, 0)) (List.replicate n 0) 0 ⟨0, 0, none⟩
theorem goB_in {l : List Job} {Bg : Int} {n : Nat} (hn : l.length ≤ 12) (hB : 0 ≤ Bg ∧ Bg ≤ 20000) (hh : 1 ≤ n ∧ n ≤ 4) : OKin l 0 (List.replicate l.length (0, 0)) (List.replicate n 0) ∧ OKst l.length Bg ⟨0, 0, none⟩ ∧ cntR 0 0 l.length < 13 := by
 refine ⟨⟨⟨by omega, Nat.pow_pos (by decide)⟩, by simp, by simp; omega⟩, ⟨hB.1 |> fun h => ⟨Int.le_refl _, h⟩, fun b e => nomatch e⟩, ?_⟩
 rw [cnt_none]; omega
section
variable {l : List Job} {Bg : Int} {n : Nat} (hj : JobsOK l) (hn : l.length ≤ 12) (hB : 0 ≤ Bg ∧ Bg ≤ 20000) (hh : 1 ≤ n ∧ n ≤ 4)
include hj hn hB hh
theorem ibest_eq : s_q28 l (n : Int) Bg = some ((goB l n Bg).1.best.getD [], (goB l n Bg).1.len, !decide ((goB l n Bg).2 = 2)) := by
 obtain ⟨h1, h2, h3⟩ := goB_in hn hB hh
 obtain ⟨r, e1, e2⟩ := (look_ok (Bd := boundB l (n : Int)) hj hn hB.2 13).a 0 _ _ 0 _ h1 h2 h3 rfl
 have e1 : (C_q0d.c).a 0 0 0 (boundB l (n : Int)) 0 Bg false l (List.replicate l.length (0, 0)) (List.replicate n 0) = some r := e1
 unfold s_q28 s_q1d
 rw [mk_ok _ _ (by omega), mkh_ok hh.2, ibound_eq hj hn (by omega)]
 simp only [cond_true, Option.bind, toNat_nat]
 rw [e1]
 obtain ⟨f1, f2, f3, f4, f5, f6, f7, f8, f9⟩ := e2
 have hg : goB l n Bg = go l (boundB l (n : Int)) Bg 13 0 (List.replicate l.length (0, 0)) (List.replicate n 0) 0 ⟨0, 0, none⟩ := rfl
 rw [← hg] at f1 f2 f6 f7
 rw [← f2, ← f6, ← f7]
 rcases r with r | r <;> rfl
theorem sgo_eq {α : Type} (F : TS1 → Option α) (G : TS2 → Option α) (z : Option α) (h : ∀ r : TS1 ⊕ TS2, IsS l.length (boundB l (n : Int)) Bg (goB l n Bg) (ansSA r) → (match r with | .inl x => F x | .inr y => G y) = z) :
  bind2 ((C_q26.c).a 0 0 (boundB l (n : Int)) Bg 0 0 false l (List.replicate l.length ((0, 0) : Int × Int)) (List.replicate n 0)) F G = z := by
 obtain ⟨h1, h2, h3⟩ := goB_in hn hB hh
 have hab : ¬ AB (boundB l (n : Int)) ⟨0, 0, none⟩ := fun e => by cases e.1
 have hd : DayI l 0 (List.replicate l.length (0, 0)) 0 := (dayF_none (fun k => tb_zero k) _ _).symm
 obtain ⟨r, e1, e2⟩ := (go_ok (Bd := boundB l (n : Int)) hj hn hB.2 13).a 0 _ _ 0 _ h1 h2 hab hd h3 rfl
 have ht : tkn l 0 = 0 := by unfold tkn; rw [cnt_none, Nat.sub_self]; rfl
 rw [ht] at e1
 have e1 : (C_q26.c).a 0 0 (boundB l (n : Int)) Bg 0 0 false l (List.replicate l.length (0, 0)) (List.replicate n 0) = some r := e1
 rw [e1, ← h r e2]
 cases r <;> rfl
end
noncomputable def bestV (l : List Job) (n : Nat) (Bg : Int) : List Slot × Int × Int := cond (decide ((goB l n Bg).2 = 2)) ([], 0, 7) ((goB l n Bg).1.best.getD [], (goB l n Bg).1.len, 0)
noncomputable def bestP (l : List Job) (h Bg : Int) : List Slot × Int × Int :=
 cond (!(validB l)) ([], 0, 1) (cond (!(s_q15 h)) ([], 0, 2) (cond (!(s_q25 Bg 0 20000)) ([], 0, 2) (bestV l h.toNat Bg)))
theorem in_bg {Bg : Int} (h : s_q25 Bg 0 20000 = true) : 0 ≤ Bg ∧ Bg ≤ 20000 := by
 unfold s_q25 at h
 by_cases h1 : Bg ≥ 0
 ·rw [decide_eq_true h1, cond_true] at h
  exact ⟨h1, of_decide_eq_true h⟩
 ·rw [decide_eq_false h1] at h; cases h
theorem ibestP {l : List Job} {h Bg : Int} (hj : JobsOK l) (hl : l.length ≤ 100000000) : s_q0s l h Bg = some (bestP l h Bg) := by
 have ew : s_q1v Bg 0 20000 = s_q25 Bg 0 20000 := rfl
 have eh : s_q1a h = s_q15 h := rfl
 unfold s_q0s bestP
 rw [iok_eq l hl, ew, eh]
 cases hv : validB l with
 | false => cases s_q15 h <;> cases s_q25 Bg 0 20000 <;> rfl
 | true =>
  have hn := (valid_ord hv).1
  cases hh : s_q15 h with
  | false => rfl
  | true =>
   cases hb : s_q25 Bg 0 20000 with
   | false => rfl
   | true =>
    obtain ⟨n, rfl, h1, h2⟩ := hands_le hh
    simp only [Option.bind, cond_true, Bool.not_true, cond_false, show (s_q1t true true != 0) = false from rfl, ibest_eq hj hn (in_bg hb) ⟨h1, h2⟩, toNat_nat]
    unfold bestV
    cases decide ((goB l n Bg).2 = 2) <;> rfl
theorem sbestL {l : List Job} {h Bg : Int} (hj : JobsOK l) (hl : l.length ≤ 100000000) : s_q1j l h Bg = some (bestP l h Bg) := by
 unfold s_q1j s_q11 bestP
 rw [sok_eq l hl]
 cases hv : validB l with
 | false => cases s_q25 Bg 0 20000 <;> rfl
 | true =>
  obtain ⟨hn, hord⟩ := valid_ord hv
  cases hh : s_q15 h with
  | false => cases s_q25 Bg 0 20000 <;> rfl
  | true =>
   cases hb : s_q25 Bg 0 20000 with
   | false => rfl
   | true =>
    obtain ⟨n, rfl, h1, h2⟩ := hands_le hh
    have key : ∀ z, z = bestV l n Bg → some z = some (bestV l n Bg) := fun z e => by rw [e]
    rw [mk_ok l.length 4 (by omega), mkh_ok h2]
    simp only [Option.bind, Bool.not_true, cond_true, cond_false, show ((0 : Int) == 0) = true from rfl, show ((0 : Int) != 0) = false from rfl, sbound_eq hj hn hord (show (n : Int) ≠ 0 by omega), toNat_nat]
    refine sgo_eq hj hn (in_bg hb) ⟨h1, h2⟩ _ _ _ fun r hr => ?_
    obtain ⟨g1, g2, g3, g4, g5⟩ := hr
    have e2 : (ansSA r).ret = !decide ((goB l n Bg).2 = 2) := by rw [g2]; simp
    unfold bestV
    cases hq : decide ((goB l n Bg).2 = 2)
    ·rw [hq] at e2
     obtain ⟨_, _, _, i4, _, i6, _⟩ := g3 (of_decide_eq_false hq)
     rcases r with r | r
     ·simp only [ansSA] at e2 i4 i6
      show cond (!r.1) _ _ = _
      rw [e2, ← i6, i4]; rfl
     ·simp only [ansSA] at e2 i4 i6
      show cond (!r.1) _ _ = _
      rw [e2, ← i6, i4]; rfl
    ·rw [hq] at e2
     rcases r with r | r
     ·simp only [ansSA] at e2
      show cond (!r.1) _ _ = _
      rw [e2]; rfl
     ·simp only [ansSA] at e2
      show cond (!r.1) _ _ = _
      rw [e2]; rfl
theorem goB_len {l : List Job} {Bg : Int} {n : Nat} (hj : JobsOK l) (hn : l.length ≤ 12) (hB : 0 ≤ Bg ∧ Bg ≤ 20000) (hh : 1 ≤ n ∧ n ≤ 4) (hc : (goB l n Bg).2 ≠ 2) : ((goB l n Bg).1.best.getD []).length ≤ 12 := by
 obtain ⟨h1, h2, h3⟩ := goB_in hn hB hh
 obtain ⟨r, e1, e2⟩ := (look_ok (Bd := boundB l (n : Int)) hj hn hB.2 13).a 0 _ _ 0 _ h1 h2 h3 rfl
 have := (e2.ok hc).best
 have hg : goB l n Bg = go l (boundB l (n : Int)) Bg 13 0 (List.replicate l.length (0, 0)) (List.replicate n 0) 0 ⟨0, 0, none⟩ := rfl
 rw [← hg] at this
 cases hb : (goB l n Bg).1.best with
 | none => exact Nat.zero_le _
 | some b => rw [this b hb |> fun h => (show (Option.getD (some b) []).length = l.length from h)]; exact hn
theorem bestP_len {l : List Job} {h Bg : Int} (hj : JobsOK l) : (bestP l h Bg).1.length ≤ 12 := by
 unfold bestP
 cases hv : validB l with
 | false => exact Nat.zero_le _
 | true =>
  have hn := (valid_ord hv).1
  cases hh : s_q15 h with
  | false => exact Nat.zero_le _
  | true =>
   cases hb : s_q25 Bg 0 20000 with
   | false => exact Nat.zero_le _
   | true =>
    obtain ⟨n, rfl, h1, h2⟩ := hands_le hh
    simp only [Bool.not_true, cond_false, toNat_nat]
    unfold bestV
    cases hq : decide ((goB l n Bg).2 = 2)
    ·exact goB_len hj hn (in_bg hb) ⟨h1, h2⟩ (of_decide_eq_false hq)
    ·exact Nat.zero_le _
noncomputable def handG (l : List Job) (d Bg : Int) (_ : Unit) (i : Nat) : Unit ⊕ (Int × Int) :=
 cond (decide ((goB l (i + 1) Bg).2 = 2)) (.inr (0, 7)) (cond (decide ((goB l (i + 1) Bg).1.len ≤ d)) (.inr (((i + 1 : Nat) : Int), 0)) (.inl ()))
noncomputable def handR (l : List Job) (d Bg : Int) : Int × Int := match exitL (handG l d Bg) () (List.range' 0 4) with
 | .inl _ => (0, 6)
 | .inr r => r
theorem ihand {l : List Job} {d Bg : Int} (hj : JobsOK l) (hn : l.length ≤ 12) (hB : 0 ≤ Bg ∧ Bg ≤ 20000) : f_q0a_run5 (d, Bg, 1, l) = some (handR l d Bg) := by
 unfold f_q0a_run5 handR
 refine (run_exit (step := fun x => f_q0a_n5 x.1 x.2.1 x.2.2.1 x.2.2.2) 4 (fun i (_ : Unit) => (d, Bg, ((i + 1 : Nat) : Int), l)) (handG l d Bg) (fun _ => (0, 6)) () (by omega) ?_ ?_).trans (by cases exitL (handG l d Bg) () (List.range' 0 4) <;> rfl)
 ·intro i u hi
  show f_q0a_n5 d Bg ((i + 1 : Nat) : Int) l = _
  unfold f_q0a_n5 handG
  rw [decide_eq_true (show ((i + 1 : Nat) : Int) ≤ 4 by omega), ibest_eq hj hn hB (n := i + 1) (by omega), succ64 (by omega)]
  simp only [cond_true, Option.bind, Bool.not_not]
  cases decide ((goB l (i + 1) Bg).2 = 2)
  ·cases decide ((goB l (i + 1) Bg).1.len ≤ d) <;> rfl
  ·rfl
 ·intro u
  show f_q0a_n5 d Bg 5 l = _
  rfl
theorem shand {l : List Job} {d Bg : Int} (hj : JobsOK l) (hv : validB l = true) (hB : s_q25 Bg 0 20000 = true) : f_q0e_run6 (d, Bg, 1, l) = some (handR l d Bg) := by
 have hn := (valid_ord hv).1
 unfold f_q0e_run6 handR
 refine (run_exit (step := fun x => f_q0e_n6 x.1 x.2.1 x.2.2.1 x.2.2.2) 4 (fun i (_ : Unit) => (d, Bg, ((i + 1 : Nat) : Int), l)) (handG l d Bg) (fun _ => (0, 6)) () (by omega) ?_ ?_).trans (by cases exitL (handG l d Bg) () (List.range' 0 4) <;> rfl)
 ·intro i u hi
  show f_q0e_n6 d Bg ((i + 1 : Nat) : Int) l = _
  have hh : s_q15 ((i + 1 : Nat) : Int) = true := by
   unfold s_q15 s_q25
   rw [decide_eq_true (show ((i + 1 : Nat) : Int) ≥ 1 by omega), decide_eq_true (show ((i + 1 : Nat) : Int) ≤ 4 by omega)]; rfl
  have eb : bestP l ((i + 1 : Nat) : Int) Bg = bestV l (i + 1) Bg := by
   unfold bestP
   rw [hv, hh, hB]; rfl
  unfold f_q0e_n6 handG
  rw [decide_eq_true (show ((i + 1 : Nat) : Int) ≤ 4 by omega), sbestL hj (by omega), eb, succ64 (by omega)]
  simp only [cond_true, Option.bind]
  unfold bestV
  cases decide ((goB l (i + 1) Bg).2 = 2)
  ·simp only [cond_false, show ((0 : Int) != 0) = false from rfl]
   cases decide ((goB l (i + 1) Bg).1.len ≤ d) <;> rfl
  ·rfl
 ·intro u
  show f_q0e_n6 d Bg 5 l = _
  rfl
end Go.RR
namespace Go.RR
open Go
theorem shop_start (l : List Job) {H : Nat} (hn : l.length ≤ 12) : Shop l H 0 (List.replicate l.length (0, 0)) (List.replicate H 0) := by
 have hz : ∀ i : Nat, tb 0 i = true → False := fun i h => by rw [tb_zero] at h; cases h
 refine ⟨⟨by omega, Nat.pow_pos (by decide)⟩, by simp, by simp, fun i _ h => (hz i h).elim, fun i _ h => (hz i h).elim, fun i k _ h => (hz i h).elim, fun i _ h => (hz i h).elim, fun i k _ _ h => (hz i h).elim, fun h hh => ?_, fun h hh => .inl ?_⟩
 ·have : loadT l 0 (List.replicate l.length (0, 0)) h = 0 := by
   unfold loadT
   rw [sm_congr (g := fun _ => 0) _ fun i hi => by rw [tb_zero]; rfl]
   exact sm_zero _
  rw [this, getD_lt 0 (by simpa using hh)]
  simp
 ·rw [getD_lt 0 (by simpa using hh)]
  simp
noncomputable def ordP (l : List Job) (H : Nat) (ord : List Int) : List Slot := (ord.foldl (stepO l) (List.replicate l.length (0, 0), List.replicate H 0)).1
theorem ord_made {l : List Job} {H : Nat} (hv : VJ l) (hH : 1 ≤ H ∧ H ≤ 4) {ord : List Int} (ho : isO l 0 ord = true) (hl : ord.length = l.length) : MadeP l H (ordP l H ord) :=
 ((shop_start l hv.len).fold hv hH ord 0 _ _ ho (by rw [cnt_none]; exact hl)).1
theorem valid_vj {l : List Job} (hj : JobsOK l) (h : validB l = true) : VJ l := by
 have hn := (valid_ord h).1
 unfold validB at h
 obtain ⟨_, h2⟩ := Bool.and_eq_true_iff.1 h
 obtain ⟨h2, _⟩ := Bool.and_eq_true_iff.1 h2
 have hjob : ∀ i, i < l.length → jobP l.length (l.getD i (0, 0)) = true := fun i hi => List.all_eq_true.1 h2 _ (getD_mem' hi)
 refine ⟨hj, hn, fun i hi => ?_, fun i k hi hk hw => ?_⟩
 ·have := hjob i hi
  unfold jobP s_q25 at this
  obtain ⟨h3, _⟩ := Bool.and_eq_true_iff.1 this
  have hr := (hj _ (getD_mem' (d := ((0, 0) : Job)) hi)).1
  rw [IntWalk.i64_in (l.getD i (0, 0)).1 (by omega)] at h3
  by_cases a : (l.getD i (0, 0)).1 ≥ 1
  ·rw [decide_eq_true a, cond_true] at h3
   have b := of_decide_eq_true h3
   exact ⟨a, b⟩
  ·rw [decide_eq_false a] at h3; cases h3
 ·have := hjob i hi
  unfold jobP at this
  obtain ⟨_, h3⟩ := Bool.and_eq_true_iff.1 this
  have h4 : bShr .u16 (l.getD i (0, 0)).2 (l.length : Int) = 0 := by simpa using h3
  have ha := (hj _ (getD_mem' (d := ((0, 0) : Job)) hi)).2
  rw [waits_bit hj hi hk] at hw
  apply Classical.byContradiction
  intro hge
  unfold bShr at h4
  have hm : min (Int.toNat (l.length : Int)) IntKind.u16.bits = l.length := by
   rw [toNat_nat]
   exact Nat.min_eq_left (by show l.length ≤ 16; omega)
  rw [hm] at h4
  have hp : (0 : Int) < 2 ^ l.length := Int.pow_pos (by decide)
  rw [Int.fdiv_eq_ediv_of_nonneg _ (Int.le_of_lt hp)] at h4
  have hlt : (l.getD i (0, 0)).2 < 2 ^ l.length := by
   have h5 := Int.lt_ediv_add_one_mul_self (l.getD i (0, 0)).2 hp
   rw [h4] at h5
   simpa using h5
  have hlt2 : (l.getD i (0, 0)).2.toNat < 2 ^ l.length := by
   have : (2 : Int) ^ l.length = ((2 ^ l.length : Nat) : Int) := by rw [Int.natCast_pow]; rfl
   rw [this] at hlt
   omega
  have := Nat.testBit_lt_two_pow (Nat.lt_of_lt_of_le hlt2 (Nat.pow_le_pow_right (by decide) (show l.length ≤ k by omega)))
  rw [this] at hw; cases hw
section
variable {l : List Job} {H : Nat} {p : List Slot} (hv : VJ l) (hH : 1 ≤ H ∧ H ≤ 4) (hb : MadeP l H p)
include hv hH hb
theorem made_slot {i : Nat} (hi : i < l.length) : s_q1o (H : Int) (p.getD i (0, 0)).1 (p.getD i (0, 0)).2 = true := by
 obtain ⟨x, x1, x2⟩ := built_hand hv hb hi
 have hs := built_st hv hb hi
 have x1 : (p.getD i (0, 0)).1 = (x : Int) := x1
 have hs : 0 ≤ (p.getD i (0, 0)).2 ∧ (p.getD i (0, 0)).2 ≤ 1000 := hs
 unfold s_q1o s_q25
 rw [x1, IntWalk.i64_in (x : Int) (by omega), IntWalk.i64_in ((H : Int) - 1) (by omega), IntWalk.i64_in (p.getD i (0, 0)).2 (by omega), decide_eq_true (show (x : Int) ≥ 0 by omega), decide_eq_true (show (x : Int) ≤ (H : Int) - 1 by omega), decide_eq_true (show (p.getD i (0, 0)).2 ≥ 0 by omega), decide_eq_true (show (p.getD i (0, 0)).2 ≤ 1000 by omega)]
 rfl
theorem made_len : p.length = l.length := by
 have _ := hv
 have _ := hH
 obtain ⟨tk, fr, h, ht⟩ := hb.ex
 exact h.plen
theorem made_fault {i : Nat} (hi : i < l.length) : faultB (H : Int) l p i = false := by
 unfold faultB
 rw [made_slot hv hH hb hi, Bool.not_true, cond_false, Bool.not_eq_false', List.all_eq_true]
 intro k hk
 have hk : k < l.length := by rw [List.mem_range'_1] at hk; omega
 obtain ⟨tk, fr, h, ht⟩ := hb.ex
 have di := done_eq hv hi (built_st hv hb hi)
 have dk := done_eq hv hk (built_st hv hb hk)
 have si := built_st hv hb hi
 have sk := built_st hv hb hk
 have wi : IntKind.wrap .i64 (p.getD i (0, 0)).2 = stt p i := IntWalk.i64_in _ (by show -9223372036854775808 ≤ stt p i ∧ stt p i ≤ 9223372036854775807; omega)
 have wk : IntKind.wrap .i64 (p.getD k (0, 0)).2 = stt p k := IntWalk.i64_in _ (by show -9223372036854775808 ≤ stt p k ∧ stt p k ≤ 9223372036854775807; omega)
 unfold badB
 rw [made_slot hv hH hb hk, Bool.not_true, cond_false, di, dk, wi, wk]
 have c1 : cond (waitsB l i k) (decide (stt p i < en l p k)) false = false := by
  cases hw : waitsB l i k
  ·rfl
  ·have := (h.wait i k hi (ht i hi) hk hw).2
   rw [cond_true, decide_eq_false (by omega)]
 rw [c1, cond_false]
 by_cases hki : (k : Int) < (i : Int)
 ·rw [decide_eq_true hki, cond_true]
  by_cases e : (p.getD k (0, 0)).1 = (p.getD i (0, 0)).1
  ·rw [beq_iff_eq.2 e, cond_true]
   rcases h.apart i k hi hk (ht i hi) (ht k hk) (by omega) e.symm with q | q
   ·rw [decide_eq_false (show ¬ stt p k < en l p i by omega)]
    cases decide (stt p i < en l p k) <;> rfl
   ·rw [decide_eq_false (show ¬ stt p i < en l p k by omega)]
    rfl
  ·rw [beq_eq_false_iff_ne.2 e]; rfl
 ·rw [decide_eq_false hki]; rfl
theorem made_plan : planB (H : Int) l p = true := by
 unfold planB
 have : faultI (H : Int) l p = -1 := by
  unfold faultI
  have : (List.range' 0 l.length).find? (faultB (H : Int) l p) = none := by
   rw [List.find?_eq_none]
   intro i hi
   rw [made_fault hv hH hb (by rw [List.mem_range'_1] at hi; omega)]
   simp
  rw [this]
 rw [this, decide_eq_true (made_len hv hH hb)]
 rfl
end
theorem hands_ok {H : Nat} (hH : 1 ≤ H ∧ H ≤ 4) : s_q15 (H : Int) = true := by
 unfold s_q15 s_q25
 rw [decide_eq_true (show (H : Int) ≥ 1 by omega), decide_eq_true (show (H : Int) ≤ 4 by omega)]; rfl
theorem goB_spec {l : List Job} {H : Nat} {Bg : Int} (hv : VJ l) (hH : 1 ≤ H ∧ H ≤ 4) {ord : List Int} (ho : isO l 0 ord = true) (hl : ord.length = l.length) (hc : (goB l H Bg).2 ≠ 2) :
  ∃ b, (goB l H Bg).1.best = some b ∧ MadeP l H b ∧ (goB l H Bg).1.len = lenB l b ∧ (goB l H Bg).1.len ≤ lenB l (ordP l H ord) := by
 have hd : DayI l 0 (List.replicate l.length (0, 0)) 0 := (dayF_none (fun k => tb_zero k) _ _).symm
 have g := go_spec (Bd := boundB l (H : Int)) (Bg := Bg) hv hH (fun q hq => built_bound hv hq hH) 13 0 (List.replicate l.length (0, 0)) (List.replicate H 0) 0 ⟨0, 0, none⟩ (shop_start l hv.len) hd (by rw [cnt_none]; have := hv.len; omega) (fun b e => nomatch e) (fun e => nomatch e)
 have e : go l (boundB l (H : Int)) Bg 13 0 (List.replicate l.length (0, 0)) (List.replicate H 0) 0 ⟨0, 0, none⟩ = goB l H Bg := rfl
 rw [e] at g
 obtain ⟨q1, q2⟩ := g.leaf hc ord ho (by rw [cnt_none]; exact hl)
 cases hb : (goB l H Bg).1.best with
 | none => rw [hb] at q1; cases q1
 | some b =>
  obtain ⟨q3, q4⟩ := g.good b hb
  exact ⟨b, rfl, q3, q4, q2⟩
theorem hand_spec {l : List Job} {H : Nat} {Bg : Int} (hv : VJ l) (hH : 1 ≤ H ∧ H ≤ 4) {ord : List Int} (ho : isO l 0 ord = true) (hl : ord.length = l.length) : (handR l (lenB l (ordP l H ord)) Bg).2 = 7 ∨ ((handR l (lenB l (ordP l H ord)) Bg).2 = 0 ∧ (handR l (lenB l (ordP l H ord)) Bg).1 ≤ (H : Int)) := by
 unfold handR
 have key := exit_split (f := handG l (lenB l (ordP l H ord)) Bg) (ρ := Int × Int) (fun i _ => i < H) (fun r => r.2 = 7 ∨ (r.2 = 0 ∧ r.1 ≤ (H : Int))) 4 ?_ 4 0 () (by omega) (by omega)
 ·cases he : exitL (handG l (lenB l (ordP l H ord)) Bg) () (List.range' 0 4) with
  | inr r => rw [he] at key; exact key
  | inl u => rw [he] at key; have : 4 < H := key; omega
 ·intro i u hi hI
  unfold handG
  by_cases hc : (goB l (i + 1) Bg).2 = 2
  ·rw [decide_eq_true hc]
   exact .inl rfl
  ·rw [decide_eq_false hc, cond_false]
   by_cases hd : (goB l (i + 1) Bg).1.len ≤ lenB l (ordP l H ord)
   ·rw [decide_eq_true hd]
    exact .inr ⟨rfl, by show ((i + 1 : Nat) : Int) ≤ _; omega⟩
   ·rw [decide_eq_false hd]
    show i + 1 < H
    apply Classical.byContradiction
    intro hn
    have e : i + 1 = H := by omega
    rw [e] at hd hc
    obtain ⟨b, b1, b2, b3, b4⟩ := goB_spec (Bg := Bg) hv hH ho hl hc
    exact hd b4
end Go.RR
namespace Go.RR
open Go
theorem sm_uniq {q : Nat → Bool} : ∀ n, (∀ i k, i < n → k < n → q i = true → q k = true → i = k) → 0 ≤ sm (fun i => cond (q i) 1 0) n ∧ sm (fun i => cond (q i) 1 0) n ≤ 1
 | 0, _ => ⟨Int.le_refl _, by show (0 : Int) ≤ 1; omega⟩
 | n + 1, h => by
  show 0 ≤ sm (fun i => cond (q i) 1 0) n + cond (q n) 1 0 ∧ sm (fun i => cond (q i) 1 0) n + cond (q n) 1 0 ≤ 1
  obtain ⟨a, b⟩ := sm_uniq n fun i k hi hk => h i k (by omega) (by omega)
  cases hq : q n with
  | false => simp only [cond_false]; omega
  | true =>
   have : sm (fun i => cond (q i) 1 0) n = 0 := by
    rw [sm_congr (g := fun _ => 0) n fun i hi => ?_, sm_zero]
    show cond (q i) 1 0 = 0
    cases hqi : q i with
    | false => rfl
    | true => have := h i n (by omega) (by omega) hqi hq; omega
   rw [this]
   simp only [cond_true]; omega
theorem sm_int {a b : Int} (h0 : 0 ≤ a) (hab : a ≤ b) : ∀ N : Nat, sm (fun d => cond (decide (a ≤ (d : Int)) && decide ((d : Int) < b)) 1 0) N = max 0 (min b (N : Int) - a)
 | 0 => by
  show (0 : Int) = _
  omega
 | N + 1 => by
  show sm (fun d => cond (decide (a ≤ (d : Int)) && decide ((d : Int) < b)) 1 0) N + cond (decide (a ≤ (N : Int)) && decide ((N : Int) < b)) 1 0 = _
  rw [sm_int h0 hab N]
  by_cases h1 : a ≤ (N : Int)
  ·by_cases h2 : (N : Int) < b
   ·rw [decide_eq_true h1, decide_eq_true h2]
    simp only [Bool.and_self, cond_true]; omega
   ·rw [decide_eq_false h2, Bool.and_false, cond_false]; omega
  ·rw [decide_eq_false h1, Bool.false_and, cond_false]; omega
theorem idleS_eq (l : List Job) (p : List Slot) (st : List Int) (i : Nat) : idleS l p st i = st.set (p.getD i (0, 0)).1.toNat (IntKind.wrap .i64 (st.getD (p.getD i (0, 0)).1.toNat 0 - IntKind.wrap .i64 (l.getD i (0, 0)).1)) := rfl
section
variable {l : List Job} {H : Nat} {p : List Slot} (hv : VJ l) (hH : 1 ≤ H ∧ H ≤ 4) (hb : MadeP l H p)
include hv hH hb
theorem made_sum : 0 ≤ sumJ l ∧ sumJ l ≤ 360 := by
 have _ := hH
 obtain ⟨tk, fr, h1, ht⟩ := hb.ex
 rw [← sumT_full ht]; exact sumT_le hv tk
theorem idle_at {y : Nat} (hy : y < H) : (idleL l p (H : Int)).getD y 0 = lenB l p - sm (fun i => cond (hnd p i == (y : Int)) (dn l i) 0) l.length := by
 have hlen := built_len hv hb
 have hs := made_sum hv hH hb
 have hld := fun n (hn : n ≤ l.length) => sm_le (f := fun i => cond (decide (i < n)) (cond (hnd p i == (y : Int)) (dn l i) 0) 0) (g := fun i => cond (hnd p i == (y : Int)) (dn l i) 0) l.length fun i hi => by
  have := hv.days i hi
  show cond (decide (i < n)) (cond (hnd p i == (y : Int)) (dn l i) 0) 0 ≤ cond (hnd p i == (y : Int)) (dn l i) 0
  cases decide (i < n) <;> cases hnd p i == (y : Int) <;> simp <;> omega
 have hpos : ∀ n, 0 ≤ sm (fun i => cond (hnd p i == (y : Int)) (dn l i) 0) n ∨ l.length < n := by
  intro n
  by_cases hn : n ≤ l.length
  ·left
   have := sm_le (f := fun _ => 0) (g := fun i => cond (hnd p i == (y : Int)) (dn l i) 0) n fun i hi => by
    have := hv.days i (by omega)
    show 0 ≤ cond (hnd p i == (y : Int)) (dn l i) 0
    cases hnd p i == (y : Int)
    ·simp
    ·simp only [cond_true]; omega
   rwa [sm_zero] at this
  ·right; omega
 have hmono : ∀ n, n ≤ l.length → sm (fun i => cond (hnd p i == (y : Int)) (dn l i) 0) n ≤ (n : Int) * 30 := by
  intro n hn
  have := sm_le (f := fun i => cond (hnd p i == (y : Int)) (dn l i) 0) (g := fun _ => 30) n fun i hi => by
   have := hv.days i (by omega)
   show cond (hnd p i == (y : Int)) (dn l i) 0 ≤ 30
   cases hnd p i == (y : Int)
   ·simp
   ·simp only [cond_true]; omega
  rwa [sm_const] at this
 have key : ∀ n, n ≤ l.length → ((List.range' 0 n).foldl (idleS l p) (List.replicate H (lenB l p))).length = H ∧ ((List.range' 0 n).foldl (idleS l p) (List.replicate H (lenB l p))).getD y 0 = lenB l p - sm (fun i => cond (hnd p i == (y : Int)) (dn l i) 0) n := by
  intro n
  induction n with
  | zero =>
   intro _
   refine ⟨by simp, ?_⟩
   show (List.replicate H (lenB l p)).getD y 0 = lenB l p - 0
   rw [getD_lt 0 (by simpa using hy)]
   simp
  | succ n ih =>
   intro hn
   obtain ⟨a, b⟩ := ih (by omega)
   obtain ⟨x, x1, x2⟩ := built_hand hv hb (show n < l.length by omega)
   have x1 : (p.getD n (0, 0)).1 = (x : Int) := x1
   have hd := hv.days n (by omega)
   have hp := hpos n
   have hm := hmono n (by omega)
   have hl := hv.len
   have e : List.range' 0 (n + 1) = List.range' 0 n ++ [n] := by rw [List.range'_concat]; simp
   rw [e, List.foldl_append]
   simp only [List.foldl_cons, List.foldl_nil]
   refine ⟨by rw [idleS_len]; exact a, ?_⟩
   rw [idleS_eq, x1, toNat_nat]
   show _ = lenB l p - (sm (fun i => cond (hnd p i == (y : Int)) (dn l i) 0) n + cond (hnd p n == (y : Int)) (dn l n) 0)
   have x1' : hnd p n = (x : Int) := x1
   by_cases hxy : x = y
   ·subst hxy
    rw [getD_set_eq (by omega), b, x1', show ((x : Int) == (x : Int)) = true by simp, cond_true]
    rw [IntWalk.i64_in (l.getD n (0, 0)).1 (by show -9223372036854775808 ≤ dn l n ∧ dn l n ≤ 9223372036854775807; omega)]
    show IntKind.wrap .i64 (lenB l p - _ - dn l n) = _
    rw [IntWalk.i64_in _ (by omega)]
    omega
   ·rw [getD_set_ne hxy, b, x1', beq_eq_false_iff_ne.2 (show (x : Int) ≠ (y : Int) by omega), cond_false]
    omega
 have hz : (idleL l p (H : Int)) = (List.range' 0 l.length).foldl (idleS l p) (List.replicate H (lenB l p)) := rfl
 rw [hz]
 exact (key l.length (Nat.le_refl _)).2
theorem idle_pos {y : Nat} (hy : y < H) : 0 ≤ (idleL l p (H : Int)).getD y 0 ∧ (idleL l p (H : Int)).getD y 0 ≤ 360 := by
 rw [idle_at hv hH hb hy]
 have h1 := built_load hv hb hy
 have h2 := built_len hv hb
 have h3 := made_sum hv hH hb
 omega
theorem idle_sum : sm (fun y => (idleL l p (H : Int)).getD y 0) H + sumJ l = (H : Int) * lenB l p := by
 have e : sm (fun y => (idleL l p (H : Int)).getD y 0) H + sm (fun h => sm (fun i => cond (hnd p i == (h : Int)) (dn l i) 0) l.length) H = sm (fun _ => lenB l p) H := by
  rw [← sm_add]
  exact sm_congr _ fun y hy => by rw [idle_at hv hH hb hy]; omega
 rw [built_sums hv hb, sm_const] at e
 exact e
theorem busy_b {i : Nat} (hi : i < l.length) (d : Int) : busyB l p d i = (decide (stt p i ≤ d) && decide (d < en l p i)) := by
 have _ := hH
 have hs := built_st hv hb hi
 unfold busyB
 rw [done_eq hv hi hs, IntWalk.i64_in (p.getD i (0, 0)).2 (by show -9223372036854775808 ≤ stt p i ∧ stt p i ≤ 9223372036854775807; omega)]
 show cond (decide (stt p i ≤ d)) _ _ = _
 cases decide (stt p i ≤ d) <;> rfl
theorem busy_mem (d : Int) : ∀ x ∈ busyL l p d, ∃ k : Nat, x = (k : Int) ∧ k < l.length ∧ stt p k ≤ d ∧ d < en l p k := by
 have key : ∀ (ks : List Nat) (st : List Int), (∀ k ∈ ks, k < l.length) → (∀ x ∈ st, ∃ k : Nat, x = (k : Int) ∧ k < l.length ∧ stt p k ≤ d ∧ d < en l p k) → ∀ x ∈ ks.foldl (fun st k => cond (busyB l p d k) (st ++ [(k : Int)]) st) st, ∃ k : Nat, x = (k : Int) ∧ k < l.length ∧ stt p k ≤ d ∧ d < en l p k := by
  intro ks
  induction ks with
  | nil => intro st _ h; exact h
  | cons k ks ih =>
   intro st hk h
   rw [List.foldl_cons]
   refine ih _ (fun k' h' => hk k' (by simp [h'])) ?_
   have hkl := hk k (by simp)
   cases hq : busyB l p d k with
   | false => exact h
   | true =>
    rw [busy_b hv hH hb hkl] at hq
    obtain ⟨q1, q2⟩ := Bool.and_eq_true_iff.1 hq
    intro x hx
    rw [cond_true] at hx
    rcases List.mem_append.1 hx with hx | hx
    ·exact h x hx
    ·rw [List.mem_singleton] at hx
     exact ⟨k, hx, hkl, of_decide_eq_true q1, of_decide_eq_true q2⟩
 exact key _ [] (fun k hk => by rw [List.mem_range'_1] at hk; omega) (fun x hx => nomatch hx)
theorem busy_cnt (d : Int) : (((busyL l p d).length : Nat) : Int) = sm (fun i => cond (decide (stt p i ≤ d) && decide (d < en l p i)) 1 0) l.length := by
 have key : ∀ n, n ≤ l.length → ((((List.range' 0 n).foldl (fun st k => cond (busyB l p d k) (st ++ [(k : Int)]) st) ([] : List Int)).length : Nat) : Int) = sm (fun i => cond (decide (stt p i ≤ d) && decide (d < en l p i)) 1 0) n := by
  intro n
  induction n with
  | zero => intro _; rfl
  | succ n ih =>
   intro hn
   have e : List.range' 0 (n + 1) = List.range' 0 n ++ [n] := by rw [List.range'_concat]; simp
   rw [e, List.foldl_append]
   simp only [List.foldl_cons, List.foldl_nil]
   show _ = sm (fun i => cond (decide (stt p i ≤ d) && decide (d < en l p i)) 1 0) n + cond (decide (stt p n ≤ d) && decide (d < en l p n)) 1 0
   rw [← ih (by omega), ← busy_b hv hH hb (show n < l.length by omega)]
   cases busyB l p d n
   ·simp
   ·simp
 exact key l.length (Nat.le_refl _)
theorem busy_hands (d : Int) : (((busyL l p d).length : Nat) : Int) ≤ (H : Int) := by
 rw [busy_cnt hv hH hb]
 have e : sm (fun i => cond (decide (stt p i ≤ d) && decide (d < en l p i)) 1 0) l.length = sm (fun i => sm (fun h : Nat => cond ((decide (stt p i ≤ d) && decide (d < en l p i)) && (hnd p i == (h : Int))) 1 0) H) l.length := by
  refine sm_congr _ fun i hi => ?_
  obtain ⟨x, x1, x2⟩ := built_hand hv hb hi
  rw [x1]
  have : (fun h : Nat => cond ((decide (stt p i ≤ d) && decide (d < en l p i)) && ((x : Int) == (h : Int))) 1 0) = fun h : Nat => cond (x == h) (cond (decide (stt p i ≤ d) && decide (d < en l p i)) 1 0) (0 : Int) := by
   funext h
   by_cases e : x = h
   ·subst e; simp
   ·rw [show (x == h) = false from by simpa using e, show ((x : Int) == (h : Int)) = false from beq_eq_false_iff_ne.2 (by omega), Bool.and_false]; rfl
  rw [this, sm_one _ x2]
 rw [e, sm_swap]
 have h1 := sm_le (f := fun h : Nat => sm (fun i => cond ((decide (stt p i ≤ d) && decide (d < en l p i)) && (hnd p i == (h : Int))) 1 0) l.length) (g := fun _ => 1) H fun h hh => by
  refine (sm_uniq (q := fun i => (decide (stt p i ≤ d) && decide (d < en l p i)) && (hnd p i == (h : Int))) l.length fun i k hi hk hqi hqk => ?_).2
  obtain ⟨a1, a2⟩ := Bool.and_eq_true_iff.1 hqi
  obtain ⟨b1, b2⟩ := Bool.and_eq_true_iff.1 hqk
  obtain ⟨a1, a3⟩ := Bool.and_eq_true_iff.1 a1
  obtain ⟨b1, b3⟩ := Bool.and_eq_true_iff.1 b1
  have a1 := of_decide_eq_true a1
  have a3 := of_decide_eq_true a3
  have b1 := of_decide_eq_true b1
  have b3 := of_decide_eq_true b3
  have a2 := beq_iff_eq.1 a2
  have b2 := beq_iff_eq.1 b2
  apply Classical.byContradiction
  intro hne
  obtain ⟨tk, fr, hs, ht⟩ := hb.ex
  rcases hs.apart i k hi hk (ht i hi) (ht k hk) hne (a2.trans b2.symm) with q | q <;> omega
 rw [sm_const] at h1
 omega
theorem busy_end : (busyL l p (lenB l p)).length = 0 := by
 have := busy_cnt hv hH hb (lenB l p)
 rw [sm_congr (g := fun _ => 0) _ fun i hi => by
  have := (built_en hv hb hi).1
  show cond (decide (stt p i ≤ lenB l p) && decide (lenB l p < en l p i)) 1 0 = 0
  rw [decide_eq_false (show ¬ lenB l p < en l p i by omega), Bool.and_false]; rfl, sm_zero] at this
 omega
theorem busy_all : sm (fun d => (((busyL l p (d : Int)).length : Nat) : Int)) ((lenB l p).toNat + 1) = sumJ l := by
 have hlen := built_len hv hb
 rw [sm_congr (g := fun d : Nat => sm (fun i => cond (decide (stt p i ≤ (d : Int)) && decide ((d : Int) < en l p i)) 1 0) l.length) _ fun d hd => busy_cnt hv hH hb _, sm_swap]
 refine sm_congr _ fun i hi => ?_
 have hs := built_st hv hb hi
 have he := (built_en hv hb hi).1
 have hd := hv.days i hi
 rw [sm_int hs.1 (by show stt p i ≤ stt p i + dn l i; omega)]
 have : en l p i = stt p i + dn l i := rfl
 omega
end
end Go.RR
