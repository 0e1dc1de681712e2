/- The plain law of ReadJobs. -/
import Derived.Test.YtbmaolhjplapoaaDoorWc
import Derived.Test.YtbmaolhjplapoaaDoorFc
set_option linter.unusedVariables false
set_option linter.unusedSimpArgs false
namespace Go.RR
open Go

/-- What stands behind a run that may be left. -/
def endL {τ ρ : Type} (fin : τ → ρ) : τ ⊕ ρ → ρ
  | .inl st => fin st
  | .inr r => r
/-- A run that may be left, with what holds on the way. -/
theorem iter_exitI {α σ τ ρ : Type} {step : σ → Option (σ ⊕ ρ)} (N : Nat) (emb : Nat → τ → σ) (g : τ → Nat → τ ⊕ ρ) (I : Nat → τ → Prop) (fin : τ → ρ)
    (hs : ∀ i st, i < N → I i st → step (emb i st) = some (match g st i with | .inl st' => .inl (emb (i + 1) st') | .inr r => .inr r) ∧ ∀ st', g st i = .inl st' → I (i + 1) st') (he : ∀ st, I N st → step (emb N st) = some (.inr (fin st))) :
    ∀ (k i m : Nat), i + k = N → k < m → ∀ st, I i st → iter step m (emb i st) = some (endL fin (exitL g st (List.range' i k))) ∧ ∀ st', exitL g st (List.range' i k) = .inl st' → I N st'
  | 0, i, m + 1, h, hm, st, hI => by
    obtain rfl : i = N := h
    refine ⟨?_, fun st' e => by cases e; exact hI⟩
    unfold iter
    rw [he st hI]
    rfl
  | k + 1, i, m + 1, h, hm, st, hI => by
    rw [List.range'_succ]
    unfold iter exitL
    obtain ⟨h1, h2⟩ := hs i st (by omega) hI
    rw [h1]
    cases hg : g st i with
    | inl st' => exact iter_exitI (α := α) N emb g I fin hs he k (i + 1) m (by omega) (by omega) st' (h2 st' hg)
    | inr r => exact ⟨rfl, fun st' e => by cases e⟩
  | _, _, 0, _, hm, _, _ => by omega

noncomputable def markJ (i : Nat) : Job := (IntKind.wrap .i8 ((1 + 2 * i : Nat) : Int), IntKind.wrap .u16 ((2 + 2 * i : Nat) : Int))
noncomputable def markJL (n : Nat) : List Job := (List.range' 0 n).map markJ
theorem markJL_len (n : Nat) : (markJL n).length = n := by simp [markJL]
theorem markJL_get {n i : Nat} (h : i < n) : (markJL n)[i]? = some (markJ i) := by
  unfold markJL
  rw [List.getElem?_map, List.getElem?_range' h]
  simp
theorem k2 {i : Nat} (h : i ≤ 2000000) : IntKind.wrap .i64 (((1 + 2 * i : Nat) : Int) + 1) = ((2 + 2 * i : Nat) : Int) ∧ IntKind.wrap .i64 (((2 + 2 * i : Nat) : Int) + 1) = ((1 + 2 * (i + 1) : Nat) : Int) := by
  rw [IntWalk.i64_in (((1 + 2 * i : Nat) : Int) + 1) (by omega), IntWalk.i64_in (((2 + 2 * i : Nat) : Int) + 1) (by omega)]
  omega
theorem markJobs_eq {l : List Job} (hl : l.length ≤ 1000000) : s_wmarkJobS l 1 = some (((1 + 2 * l.length : Nat) : Int), markJL l.length) := by
  unfold s_wmarkJobS f_wmarkJobS_run2
  have key := run_count (step := fun x => f_wmarkJobS_n2 x.1 x.2.1 x.2.2) (τ := Unit) l.length (fun i _ => (((1 + 2 * i : Nat) : Int), (i : Int), (markJL l.length).take i ++ l.drop i)) (fun _ _ => ()) (((1 + 2 * l.length : Nat) : Int), markJL l.length) () (by omega) ?_ ?_
  · exact key
  · intro i _ hi
    show f_wmarkJobS_n2 ((1 + 2 * i : Nat) : Int) i ((markJL l.length).take i ++ l.drop i) = _
    have hlen : ((markJL l.length).take i ++ l.drop i).length = l.length := by simp [markJL_len]; omega
    unfold f_wmarkJobS_n2
    rw [List.length_set, hlen, lt_true hi, inB_nat hi, toNat_nat, succ64 (i := i) (by omega), (k2 (i := i) (by omega)).1, (k2 (i := i) (by omega)).2]
    simp only [cond_true]
    have hg : ∀ v : Job, (List.getD (((markJL l.length).take i ++ l.drop i).set i v) i (0, 0)) = v := fun v => by
      rw [List.getD_eq_getElem?_getD, List.getElem?_set_self (by rw [hlen]; exact hi)]; rfl
    rw [hg, List.set_set]
    have := set_copy (t := markJL l.length) (r := l) (i := i) (x := markJ i) (by rw [markJL_len]) (markJL_get hi)
    show some (Sum.inl (((1 + 2 * (i + 1) : Nat) : Int), ((i + 1 : Nat) : Int), ((markJL l.length).take i ++ l.drop i).set i (markJ i))) = _
    rw [this]
  · show f_wmarkJobS_n2 ((1 + 2 * l.length : Nat) : Int) (l.length : Nat) ((markJL l.length).take l.length ++ l.drop l.length) = _
    have h1 : (markJL l.length).take l.length ++ l.drop l.length = markJL l.length := by
      rw [List.drop_length, List.append_nil]
      exact List.take_of_length_le (by rw [markJL_len]; exact Nat.le_refl _)
    rw [h1]
    unfold f_wmarkJobS_n2
    rw [markJL_len, lt_neg, cond_false]
theorem heldJobs_eq (n : Nat) (hn : n ≤ 1000000) : s_wheldJobS (markJL n) 1 = some ((1 + 2 * n : Nat) : Int) := by
  unfold s_wheldJobS f_wheldJobS_run2
  have key := run_count (step := fun x => f_wheldJobS_n2 x.1 x.2.1 x.2.2) (τ := Unit) n (fun i _ => (((1 + 2 * i : Nat) : Int), (i : Int), markJL n)) (fun _ _ => ()) ((1 + 2 * n : Nat) : Int) () (by omega) ?_ ?_
  · exact key
  · intro i _ hi
    show f_wheldJobS_n2 ((1 + 2 * i : Nat) : Int) i (markJL n) = _
    unfold f_wheldJobS_n2
    have hg : (markJL n).getD i (0, 0) = markJ i := by rw [List.getD_eq_getElem?_getD, markJL_get hi]; rfl
    rw [markJL_len, lt_true hi, inB_nat hi, toNat_nat, hg, succ64 (i := i) (by omega), (k2 (i := i) (by omega)).1, (k2 (i := i) (by omega)).2]
    have a : ((markJ i).1 != IntKind.wrap .i8 ((1 + 2 * i : Nat) : Int)) = false := by simp [markJ]
    have b : ((markJ i).2 != IntKind.wrap .u16 ((2 + 2 * i : Nat) : Int)) = false := by simp [markJ]
    rw [a, b]; rfl
  · show f_wheldJobS_n2 ((1 + 2 * n : Nat) : Int) (n : Nat) (markJL n) = _
    unfold f_wheldJobS_n2
    rw [markJL_len, lt_neg, cond_false]

theorem spl_len (y : UInt8) : ∀ l : List UInt8, (spl y l).length ≤ l.length + 1 ∧ ∀ w ∈ spl y l, w.length ≤ l.length
  | [] => ⟨Nat.le_refl _, fun w hw => by
    have : w = [] := by simpa [spl] using hw
    rw [this]; exact Nat.le_refl _⟩
  | b :: l => by
    obtain ⟨h1, h2⟩ := spl_len y l
    by_cases hb : b = y
    · have es : spl y (b :: l) = [] :: spl y l := by
        show (if b = y then _ else _) = _
        rw [if_pos hb]
      rw [es]
      refine ⟨by simp only [List.length_cons]; omega, fun w hw => ?_⟩
      rcases List.mem_cons.1 hw with rfl | hw
      · exact Nat.zero_le _
      · have := h2 w hw
        simp only [List.length_cons]; omega
    · have es : spl y (b :: l) = match spl y l with
          | w :: ws => (b :: w) :: ws
          | [] => [[b]] := by
        show (if b = y then _ else _) = _
        rw [if_neg hb]
        rfl
      rw [es]
      cases hsp : spl y l with
      | nil => exact absurd hsp (spl_ne y l)
      | cons w ws =>
        rw [hsp] at h1 h2
        dsimp only
        refine ⟨by simp only [List.length_cons] at h1 ⊢; omega, fun u hu => ?_⟩
        rcases List.mem_cons.1 hu with rfl | hu
        · have := h2 w (List.mem_cons_self ..)
          simp only [List.length_cons]; omega
        · have := h2 u (List.mem_cons_of_mem _ hu)
          simp only [List.length_cons]; omega

/-! ### numbers between two bounds -/
def widG (lo hi : Nat) (w : ByteArray) : Option Nat := if (numB w.data.toList).2 = true ∧ (lo : Int) ≤ (numB w.data.toList).1 ∧ (numB w.data.toList).1 ≤ (hi : Int) then some (numB w.data.toList).1.toNat else none
theorem widG_some {w : ByteArray} {lo hi n : Nat} (hh : hi < 1000) (h : widG lo hi w = some n) : IsWid w lo hi n ∧ numB w.data.toList = ((n : Int), true) := by
  unfold widG at h
  split at h
  · rename_i hc
    obtain ⟨h1, h2, h3⟩ := hc
    have h := Option.some.inj h
    have e : numB w.data.toList = ((n : Int), true) := Prod.ext (by show (numB w.data.toList).1 = (n : Int); omega) h1
    exact ⟨⟨by omega, by omega, numB_dl (by omega) e⟩, e⟩
  · cases h
theorem widG_none {w : ByteArray} {lo hi : Nat} (hh : hi < 1000) (h : widG lo hi w = none) : ∀ n, ¬ IsWid w lo hi n := by
  intro n hn
  obtain ⟨h1, h2, h3⟩ := hn
  unfold widG at h
  have e : numB w.data.toList = ((n : Int), true) := by rw [h3]; exact numB_all ⟨n, by omega⟩
  rw [e, if_pos ⟨rfl, by show (lo : Int) ≤ (n : Int); omega, by show (n : Int) ≤ hi; omega⟩] at h
  cases h
theorem read_is {s : ByteArray} {lo hi : Nat} (hs : s.size ≤ 2000000) (hh : hi < 1000) : ∃ v b, s_ireadDecimal s (lo : Int) (hi : Int) = some (v, b) ∧ (match widG lo hi s with | some n => v = (n : Int) ∧ b = true | none => b = false) := by
  cases h : widG lo hi s with
  | some n => exact ⟨_, _, read_yes hs hh (widG_some hh h).1, rfl, rfl⟩
  | none =>
    obtain ⟨v, e⟩ := read_no hs hh (widG_none hh h)
    exact ⟨v, false, e, rfl⟩
theorem numL_pos : ∀ (l : List UInt8), 0 ≤ (numB l).1
  | [] => Int.le_refl 0
  | c :: r => by
    show 0 ≤ (if 10 < (c :: r).length ∨ (c.toNat = 48 ∧ r ≠ []) then ((0, false) : Int × Bool) else numE (numL 0 (c :: r))).1
    split
    · exact Int.le_refl 0
    · cases numL 0 (c :: r) with
      | none => exact Int.le_refl 0
      | some v => show 0 ≤ (v : Int); omega
/-- The bits of the jobs that are waited for. -/
noncomputable def restO : Int → List ByteArray → Option Int
  | a, [] => some a
  | a, p :: r => match widG 0 11 p with
    | some k => restO (bOr .u16 a (bShl .u16 1 (k : Int))) r
    | none => none
theorem getD_cons_drop {ps : List ByteArray} {i : Nat} {p : ByteArray} {r : List ByteArray} (h : ps.drop i = p :: r) : i < ps.length ∧ ps.getD i (⟨#[]⟩ : ByteArray) = p ∧ ps.drop (i + 1) = r := by
  have hi : i < ps.length := by
    rcases Nat.lt_or_ge i ps.length with h1 | h1
    · exact h1
    · rw [List.drop_eq_nil_iff.2 h1] at h; cases h
  rw [List.drop_eq_getElem_cons hi] at h
  obtain ⟨h1, h2⟩ := List.cons.inj h
  refine ⟨hi, ?_, h2⟩
  rw [List.getD_eq_getElem?_getD, List.getElem?_eq_getElem hi, h1]; rfl
theorem u64k {k : Nat} (h : k < 12) : IntKind.wrap .u64 (k : Int) = (k : Int) := IntWalk.u64_in _ (by omega)
theorem sInner {z : ByteArray} {x1 x7 : Int} {ok : Bool} {l : List Job} {ws ps : List ByteArray} (hl : l.length ≤ 2000000) (hx1 : 0 ≤ x1 ∧ x1 ≤ 2000000) (hps : ps.length ≤ 2000000) : ∀ (r : List ByteArray) (i m : Nat) (a : Int), ps.drop i = r → i + r.length = ps.length → r.length < m →
    iter (fun x => f_sReadJobs_n12 x.1 x.2.1 x.2.2.1 x.2.2.2.1 x.2.2.2.2.1 x.2.2.2.2.2.1 x.2.2.2.2.2.2.1 x.2.2.2.2.2.2.2.1 x.2.2.2.2.2.2.2.2) m (z, x1, ok, (i : Int), l, ws, ps, x7, a) = some (match restO a r with
      | some b => cond ok (.inl (z, x1 + 1, l ++ [(x7, b)], ws)) (.inr ([], 5))
      | none => .inr ([], 5))
  | [], i, m + 1, a, h, hn, hm => by
    unfold iter
    dsimp only
    have hi : i = ps.length := by simpa using hn
    subst hi
    have e : f_sReadJobs_n12 z x1 ok ((ps.length : Nat) : Int) l ws ps x7 a = some (.inr (cond ok (.inl (z, x1 + 1, l ++ [(x7, a)], ws)) (.inr ([], 5)))) := by
      unfold f_sReadJobs_n12
      rw [lt_neg, cond_false, fits_small (by simp; omega), IntWalk.i64_in (x1 + 1) (by omega)]
      cases ok <;> rfl
    rw [e]; rfl
  | p :: r, i, m + 1, a, h, hn, hm => by
    obtain ⟨hi, hp, hd⟩ := getD_cons_drop h
    simp only [List.length_cons] at hn hm
    unfold iter restO
    dsimp only
    have e0 : f_sReadJobs_n12 z x1 ok (i : Int) l ws ps x7 a = some (match widG 0 11 p with
        | some k => .inl (z, x1, ok, ((i + 1 : Nat) : Int), l, ws, ps, x7, bOr .u16 a (bShl .u16 1 (k : Int)))
        | none => .inr (.inr ([], 5))) := by
      unfold f_sReadJobs_n12
      rw [lt_true hi, inB_nat hi, toNat_nat, hp, number_eq, succ64 (by omega)]
      simp only [cond_true, Option.bind]
      cases hw : widG 0 11 p with
      | some k =>
        obtain ⟨⟨_, h2, _⟩, h3⟩ := widG_some (by decide) hw
        rw [h3]
        dsimp only
        rw [decide_eq_false (show ¬ (k : Int) ≥ 12 by omega), u64k (by omega), decide_eq_false (show ¬ (k : Int) < 0 by omega)]
        rfl
      | none =>
        unfold widG at hw
        split at hw
        · cases hw
        · rename_i hc
          cases hb : (numB p.data.toList).2
          · rfl
          · have hnn := numL_pos p.data.toList
            rw [decide_eq_true (show (numB p.data.toList).1 ≥ 12 from Classical.byContradiction fun q => hc ⟨hb, by omega, by omega⟩)]
            rfl
    rw [e0]
    cases hw : widG 0 11 p with
    | some k => exact sInner hl hx1 hps r (i + 1) m _ hd (by omega) (by omega)
    | none => rfl
  | [], i, 0, a, _, _, hm => by simp at hm
  | _ :: _, i, 0, a, _, _, hm => by simp at hm
theorem iInner {z : ByteArray} {x2 x3 x7 : Int} {l : List Job} {ws ps : List ByteArray} (hl : l.length ≤ 2000000) (hx3 : 0 ≤ x3 ∧ x3 ≤ 2000000) (hps : ps.length ≤ 2000000) (hsz : ∀ p ∈ ps, p.size ≤ 2000000) : ∀ (r : List ByteArray) (i m : Nat) (ok : Bool) (a : Int), ps.drop i = r → i + r.length = ps.length → r.length < m →
    iter (fun x => f_iReadJobs_n11 x.1 x.2.1 x.2.2.1 x.2.2.2.1 x.2.2.2.2.1 x.2.2.2.2.2.1 x.2.2.2.2.2.2.1 x.2.2.2.2.2.2.2.1 x.2.2.2.2.2.2.2.2.1 x.2.2.2.2.2.2.2.2.2.1 x.2.2.2.2.2.2.2.2.2.2) m (z, ok, x2, x3, ((ps.length : Nat) : Int), (i : Int), l, x7, a, ws, ps) = some (match restO a r with
      | some b => cond ok (.inl (z, x2, x3 + 1, l ++ [(x7, b)], ws)) (.inr ([], 5))
      | none => .inr ([], 5))
  | [], i, m + 1, ok, a, h, hn, hm => by
    unfold iter
    dsimp only
    have hi : i = ps.length := by simpa using hn
    subst hi
    have e : f_iReadJobs_n11 z ok x2 x3 ((ps.length : Nat) : Int) ((ps.length : Nat) : Int) l x7 a ws ps = some (.inr (cond ok (.inl (z, x2, x3 + 1, l ++ [(x7, a)], ws)) (.inr ([], 5)))) := by
      unfold f_iReadJobs_n11
      rw [lt_neg, cond_false, fits_small (by simp; omega), IntWalk.i64_in (x3 + 1) (by omega)]
      cases ok <;> rfl
    rw [e]; rfl
  | p :: r, i, m + 1, ok, a, h, hn, hm => by
    obtain ⟨hi, hp, hd⟩ := getD_cons_drop h
    simp only [List.length_cons] at hn hm
    have hmem : p ∈ ps := List.mem_of_mem_drop (by rw [h]; exact List.mem_cons_self ..)
    unfold iter restO
    dsimp only
    obtain ⟨v, b, e1, e2⟩ := read_is (s := p) (lo := 0) (hi := 11) (hsz p hmem) (by decide)
    have e1 : s_ireadDecimal p 0 11 = some (v, b) := e1
    cases hw : widG 0 11 p with
    | some k =>
      rw [hw] at e2
      obtain ⟨rfl, rfl⟩ := e2
      have e0 : f_iReadJobs_n11 z ok x2 x3 ((ps.length : Nat) : Int) (i : Int) l x7 a ws ps = some (.inl (z, ok, x2, x3, ((ps.length : Nat) : Int), ((i + 1 : Nat) : Int), l, x7, bOr .u16 a (bShl .u16 1 (k : Int)), ws, ps)) := by
        unfold f_iReadJobs_n11
        rw [lt_true hi, inB_nat hi, toNat_nat, hp, e1, succ64 (by omega)]
        simp only [cond_true, Option.bind]
        rw [decide_eq_false (show ¬ (k : Int) < 0 by omega)]
        cases ok <;> rfl
      rw [e0]
      exact iInner hl hx3 hps hsz r (i + 1) m ok _ hd (by omega) (by omega)
    | none =>
      rw [hw] at e2
      obtain rfl := e2
      have e0 : f_iReadJobs_n11 z ok x2 x3 ((ps.length : Nat) : Int) (i : Int) l x7 a ws ps = some (.inl (z, false, x2, x3, ((ps.length : Nat) : Int), ((i + 1 : Nat) : Int), l, x7, a, ws, ps)) := by
        unfold f_iReadJobs_n11
        rw [lt_true hi, inB_nat hi, toNat_nat, hp, e1, succ64 (by omega)]
        cases ok <;> rfl
      rw [e0]
      dsimp only
      rw [iInner hl hx3 hps hsz r (i + 1) m false _ hd (by omega) (by omega)]
      cases restO a r <;> rfl
  | [], i, 0, ok, a, _, _, hm => by simp at hm
  | _ :: _, i, 0, ok, a, _, _, hm => by simp at hm
end Go.RR
