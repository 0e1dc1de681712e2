/- The plain law of TurnsOf: paths and their straight parts. -/
import Derived.Test.YtbmaolhjplapoaaDoorVc
import Derived.Test.YtbmaolhjplapoaaDoorRy
set_option linter.unusedVariables false
set_option linter.unusedSimpArgs false
namespace Go.RR
open Go

/-- What stands behind a run that may be left. -/
def endL {τ ρ : Type} (fin : τ → ρ) : τ ⊕ ρ → ρ
  | .inl st => fin st
  | .inr r => r
/-- A run that may be left, with what holds on the way. -/
theorem iter_exitI {α σ τ ρ : Type} {step : σ → Option (σ ⊕ ρ)} (N : Nat) (emb : Nat → τ → σ) (g : τ → Nat → τ ⊕ ρ) (I : Nat → τ → Prop) (fin : τ → ρ)
    (hs : ∀ i st, i < N → I i st → step (emb i st) = some (match g st i with | .inl st' => .inl (emb (i + 1) st') | .inr r => .inr r) ∧ ∀ st', g st i = .inl st' → I (i + 1) st') (he : ∀ st, I N st → step (emb N st) = some (.inr (fin st))) :
    ∀ (k i m : Nat), i + k = N → k < m → ∀ st, I i st → iter step m (emb i st) = some (endL fin (exitL g st (List.range' i k))) ∧ ∀ st', exitL g st (List.range' i k) = .inl st' → I N st'
  | 0, i, m + 1, h, hm, st, hI => by
    obtain rfl : i = N := h
    refine ⟨?_, fun st' e => by cases e; exact hI⟩
    unfold iter
    rw [he st hI]
    rfl
  | k + 1, i, m + 1, h, hm, st, hI => by
    rw [List.range'_succ]
    unfold iter exitL
    obtain ⟨h1, h2⟩ := hs i st (by omega) hI
    rw [h1]
    cases hg : g st i with
    | inl st' => exact iter_exitI (α := α) N emb g I fin hs he k (i + 1) m (by omega) (by omega) st' (h2 st' hg)
    | inr r => exact ⟨rfl, fun st' e => by cases e⟩
  | _, _, 0, _, hm, _, _ => by omega

/-! ### bytes -/
theorem byte_rng (z : ByteArray) (i : Nat) : 0 ≤ byteAt z i ∧ byteAt z i < 256 := by
  unfold byteAt
  have := (z.data.toList.getD i 0).toNat_lt
  omega
theorem byte_of {x : Int} (h : 0 ≤ x ∧ x < 256) : ∃ c : Fin 256, x = (c.1 : Int) := ⟨⟨x.toNat, by omega⟩, (Int.toNat_of_nonneg h.1).symm⟩
theorem byte_extract {z : ByteArray} {a b i : Nat} (h : i < min b z.size - a) : byteAt (z.extract a b) i = byteAt z (a + i) := by
  have hz : z.data.toList.length = z.size := rfl
  unfold byteAt
  congr 2
  rw [ByteArray.data_extract, Array.toList_extract]
  unfold List.extract
  rw [List.getD_eq_getElem?_getD, List.getD_eq_getElem?_getD, List.getElem?_take, List.getElem?_drop, if_pos (by omega)]
/-- A byte of a path. -/
def good (c : Int) : Bool := c == 110 || c == 101 || c == 115 || c == 119
def NESW : ByteArray := ⟨#[110, 101, 115, 119]⟩
theorem idx_all : ∀ c : Fin 256, decide (s_stringsIndexByte NESW (c.1 : Int) < 0) = !good (c.1 : Int) := by decide +kernel
theorem idx_eq {x : Int} (h : 0 ≤ x ∧ x < 256) : decide (s_stringsIndexByte NESW x < 0) = !good x := by
  obtain ⟨c, e⟩ := byte_of h
  rw [e]; exact idx_all c

/-! ### Trim -/
noncomputable def setQ : Nat → Bool := (List.range' 0 4).foldl (fun st i => updb st (Int.toNat (byteAt NESW i)) true) zB
theorem set_all : ∀ c : Fin 256, setQ c.1 = good (c.1 : Int) := by decide +kernel
theorem make_eq : s_stringsmakeASCIISet NESW = some (setQ, true) := by
  unfold s_stringsmakeASCIISet f_stringsmakeASCIISet_run2
  refine run_count 4 (fun i (st : Nat → Bool) => (NESW, (i : Int), st)) (fun st i => updb st (Int.toNat (byteAt NESW i)) true) _ zB (by decide) ?_ ?_
  · intro i st hi
    show f_stringsmakeASCIISet_n2 NESW i st = _
    unfold f_stringsmakeASCIISet_n2
    have hb : byteAt NESW i < 128 := by
      have : ∀ i : Fin 4, byteAt NESW i.1 < 128 := by decide +kernel
      exact this ⟨i, hi⟩
    have hr := byte_rng NESW i
    rw [show decide ((i : Int) < ((NESW.size : Nat) : Int)) = true from lt_true (n := 4) hi, show inB (i : Int) NESW.size = true from inB_nat (n := 4) hi, toNat_nat, decide_eq_false (by omega), inB_of (by omega), succ64 (by omega)]
    rfl
  · rfl
theorem has_eq {x : Int} (h : 0 ≤ x ∧ x < 256) : s_stringsasciiSet_contains x setQ = some (good x, setQ) := by
  obtain ⟨c, e⟩ := byte_of h
  unfold s_stringsasciiSet_contains
  rw [inB_of (by omega), cond_true, e]
  show some (setQ (Int.toNat (c.1 : Int)), setQ) = _
  rw [toNat_nat, set_all c]
abbrev AllGood (z : ByteArray) : Prop := ∀ i, i < z.size → good (byteAt z i) = true
theorem allgood_extract {z : ByteArray} (h : AllGood z) (a b : Nat) : AllGood (z.extract a b) := by
  intro i hi
  rw [ByteArray.size_extract] at hi
  rw [byte_extract hi]
  exact h _ (by omega)
theorem right_step {z : ByteArray} (hz : z.size ≤ 2000000) : f_stringstrimRightASCII_n1 z setQ = some (if z.size = 0 ∨ good (byteAt z (z.size - 1)) = false then .inr (z, setQ) else .inl (z.extract 0 (z.size - 1), setQ)) := by
  unfold f_stringstrimRightASCII_n1
  by_cases h0 : z.size = 0
  · rw [decide_eq_false (show ¬ ((z.size : Nat) : Int) > 0 by omega), if_pos (.inl h0)]; rfl
  · have e1 : Int.toNat (((z.size : Nat) : Int) - 1) = z.size - 1 := by omega
    rw [decide_eq_true (show ((z.size : Nat) : Int) > 0 by omega), IntWalk.i64_in (((z.size : Nat) : Int) - 1) (by omega), inB_of (by omega), e1, has_eq (byte_rng _ _)]
    simp only [cond_true, Option.bind]
    cases hg : good (byteAt z (z.size - 1))
    · rw [if_pos (.inr rfl)]; rfl
    · have hs : inS 0 (((z.size : Nat) : Int) - 1) z.size = true := by
        unfold inS
        simp only [Bool.and_eq_true, decide_eq_true_eq]
        omega
      rw [hs, if_neg (by simp [h0])]; rfl
theorem left_step {z : ByteArray} (hz : z.size ≤ 2000000) : f_stringstrimLeftASCII_n1 z setQ = some (if z.size = 0 ∨ good (byteAt z 0) = false then .inr (z, setQ) else .inl (z.extract 1 z.size, setQ)) := by
  unfold f_stringstrimLeftASCII_n1
  by_cases h0 : z.size = 0
  · rw [decide_eq_false (show ¬ ((z.size : Nat) : Int) > 0 by omega), if_pos (.inl h0)]; rfl
  · rw [decide_eq_true (show ((z.size : Nat) : Int) > 0 by omega), inB_of (show 0 ≤ (0 : Int) ∧ (0 : Int) < (z.size : Nat) by omega), has_eq (byte_rng _ _)]
    simp only [cond_true, Option.bind]
    cases hg : good (byteAt z 0)
    · rw [if_pos (.inr rfl)]; rfl
    · have hs : inS 1 (z.size : Int) z.size = true := by
        unfold inS
        simp only [Bool.and_eq_true, decide_eq_true_eq]
        omega
      rw [hs, if_neg (by simp [h0])]; rfl
theorem right_ok : ∀ (k m : Nat) (z : ByteArray), z.size ≤ k → k < m → z.size ≤ 2000000 →
    ∃ y, iter (fun x => f_stringstrimRightASCII_n1 x.1 x.2) m (z, setQ) = some (y, setQ) ∧ y.size ≤ z.size ∧ (AllGood z → y.size = 0)
  | k, 0, z, _, hm, _ => by omega
  | k, m + 1, z, hk, hm, hz => by
    unfold iter
    rw [right_step hz]
    by_cases h0 : z.size = 0 ∨ good (byteAt z (z.size - 1)) = false
    · rw [if_pos h0]
      refine ⟨z, rfl, Nat.le_refl _, fun ha => Classical.byContradiction fun hn => ?_⟩
      rcases h0 with h0 | h0
      · exact hn h0
      · rw [ha (z.size - 1) (by omega)] at h0; cases h0
    · rw [if_neg h0]
      have e : (z.extract 0 (z.size - 1)).size = z.size - 1 := by rw [ByteArray.size_extract]; omega
      have hn : z.size ≠ 0 := fun q => h0 (.inl q)
      obtain ⟨y, h1, h2, h3⟩ := right_ok (k - 1) m (z.extract 0 (z.size - 1)) (by omega) (by omega) (by omega)
      exact ⟨y, h1, by omega, fun ha => h3 (allgood_extract ha _ _)⟩
theorem left_ok : ∀ (k m : Nat) (z : ByteArray), z.size ≤ k → k < m → z.size ≤ 2000000 →
    ∃ y, iter (fun x => f_stringstrimLeftASCII_n1 x.1 x.2) m (z, setQ) = some (y, setQ) ∧ y.size ≤ z.size
  | k, 0, z, _, hm, _ => by omega
  | k, m + 1, z, hk, hm, hz => by
    unfold iter
    rw [left_step hz]
    by_cases h0 : z.size = 0 ∨ good (byteAt z 0) = false
    · rw [if_pos h0]
      exact ⟨z, rfl, Nat.le_refl _⟩
    · rw [if_neg h0]
      have e : (z.extract 1 z.size).size = z.size - 1 := by rw [ByteArray.size_extract]; omega
      have hn : z.size ≠ 0 := fun q => h0 (.inl q)
      obtain ⟨y, h1, h2⟩ := left_ok (k - 1) m (z.extract 1 z.size) (by omega) (by omega) (by omega)
      exact ⟨y, h1, by omega⟩
theorem toList_empty (z : ByteArray) : (z.toList == (⟨#[]⟩ : ByteArray).toList) = decide (z.size = 0) := by
  rw [Lib.toList_data, Lib.toList_data]
  have hz : z.data.toList.length = z.size := rfl
  by_cases h : z.size = 0
  · have : z.data.toList = [] := List.length_eq_zero_iff.1 (by omega)
    rw [this, decide_eq_true h]; rfl
  · rw [decide_eq_false h]
    cases hl : z.data.toList with
    | nil => rw [hl] at hz; simp at hz; omega
    | cons a l => rfl
theorem trim_ok {z : ByteArray} (h1 : 1 ≤ z.size) (h2 : z.size ≤ 2000000) : ∃ y, s_stringsTrim z NESW = some y ∧ (AllGood z → y.size = 0) := by
  unfold s_stringsTrim
  rw [toList_empty, toList_empty, decide_eq_false (by omega), show decide (NESW.size = 0) = false from rfl, show (((NESW.size : Nat) : Int) == 1) = false from rfl, make_eq]
  obtain ⟨y, e1, e2, e3⟩ := right_ok z.size FU z (Nat.le_refl _) (FU_big (pow_big (by omega))) h2
  obtain ⟨x, e4, e5⟩ := left_ok y.size FU y (Nat.le_refl _) (FU_big (pow_big (by omega))) (by omega)
  have e1 : s_stringstrimRightASCII z setQ = some (y, setQ) := e1
  have e4 : s_stringstrimLeftASCII y setQ = some (x, setQ) := e4
  simp only [cond_false, Option.bind, cond_true, e1, e4]
  exact ⟨x, rfl, fun ha => by have := e3 ha; omega⟩

/-! ### straight parts -/
def lastUp (l : List Int) : List Int := l.set (l.length - 1) (l.getD (l.length - 1) 0 + 1)
noncomputable def pathS (z : ByteArray) (st : List Int) (i : Nat) : List Int := cond (decide (0 < i)) (cond (byteAt z (i - 1) == byteAt z i) (lastUp st) (st ++ [1])) (st ++ [1])
noncomputable def pathG (z : ByteArray) (st : List Int) (i : Nat) : List Int ⊕ (List Int × Bool) := cond (good (byteAt z i)) (.inl (pathS z st i)) (.inr ([], false))
/-- What holds of the parts on the way. -/
def PathI (i : Nat) (st : List Int) : Prop := (0 < i → 0 < st.length) ∧ st.length ≤ i ∧ ∀ x ∈ st, 1 ≤ x ∧ x ≤ i
theorem pathI_step {z : ByteArray} {st : List Int} {i : Nat} (h : PathI i st) : PathI (i + 1) (pathS z st i) := by
  obtain ⟨h1, h2, h3⟩ := h
  have app : PathI (i + 1) (st ++ [1]) := by
    refine ⟨fun _ => by simp, by simp; omega, fun x hx => ?_⟩
    rcases List.mem_append.1 hx with hx | hx
    · have := h3 x hx; omega
    · have : x = 1 := by simpa using hx
      omega
  unfold pathS
  by_cases h0 : 0 < i
  · rw [decide_eq_true h0, cond_true]
    cases byteAt z (i - 1) == byteAt z i
    · exact app
    · have hl := h1 h0
      refine ⟨fun _ => by show 0 < (lastUp st).length; simp [lastUp]; omega, by show (lastUp st).length ≤ i + 1; simp [lastUp]; omega, fun x hx => ?_⟩
      have hx : x ∈ lastUp st := hx
      rcases List.mem_or_eq_of_mem_set hx with hx | hx
      · have := h3 x hx; omega
      · have hm : st.getD (st.length - 1) 0 ∈ st := getD_mem' (by omega)
        have := h3 _ hm; omega
  · rw [decide_eq_false h0, cond_false]; exact app
/-- One step of either loop, behind the look at the byte. -/
theorem last_ix {st : List Int} (h : 0 < st.length) (h2 : st.length ≤ 2000000) : IntKind.wrap .i64 (((List.length st : Nat) : Int) - 1) = ((st.length - 1 : Nat) : Int) := by
  rw [IntWalk.i64_in _ (by omega)]; omega
theorem prev_ix {i : Nat} (h : 0 < i) (h2 : i ≤ 2000000) : IntKind.wrap .i64 ((i : Int) - 1) = ((i - 1 : Nat) : Int) := by
  rw [IntWalk.i64_in _ (by omega)]; omega
noncomputable def parts (z : ByteArray) : List Int ⊕ (List Int × Bool) := exitL (pathG z) [] (List.range' 0 z.size)
theorem sPath_eq {z : ByteArray} (hz : z.size ≤ 1048576) : s_sl05Path z = some (endL (fun st => (st, s_sl00In ((z.size : Nat) : Int) 1 2000)) (parts z)) ∧ ∀ st, parts z = .inl st → PathI z.size st := by
  unfold s_sl05Path f_sl05Path_run3 parts
  refine iter_exitI (α := Unit) (step := fun x => f_sl05Path_n3 x.1 x.2.1 x.2.2) z.size (fun i st => (z, (i : Int), st)) (pathG z) PathI (fun st => (st, s_sl00In ((z.size : Nat) : Int) 1 2000)) ?_ ?_ z.size 0 FU (by omega) (FU_big (pow_big (by omega))) [] ⟨fun h => absurd h (Nat.lt_irrefl 0), Nat.le_refl _, fun x hx => by cases hx⟩
  · intro i st hi hI
    obtain ⟨i1, i2, i3⟩ := hI
    constructor
    · show f_sl05Path_n3 z i st = _
      unfold f_sl05Path_n3
      rw [lt_true hi, inB_nat hi, toNat_nat, succ64 (by omega), fits_small (show (List.length st + List.length ([1] : List Int)) * 8 ≤ 140737488355328 by simp; omega)]
      unfold pathG good pathS
      have nb : ∀ x y : Int, (x != y) = !(x == y) := fun x y => rfl
      by_cases h0 : 0 < i
      · rw [decide_eq_true (show (i : Int) > 0 by omega), decide_eq_true h0, prev_ix h0 (by omega), inB_nat (show i - 1 < z.size by omega), toNat_nat, last_ix (i1 h0) (by omega), inB_nat (show st.length - 1 < st.length by have := i1 h0; omega), toNat_nat]
        have hm : st.getD (st.length - 1) 0 ∈ st := getD_mem' (by have := i1 h0; omega)
        have hv := i3 _ hm
        rw [IntWalk.i64_in (st.getD (st.length - 1) 0 + 1) (by omega)]
        simp only [nb]
        cases byteAt z i == 110 <;> cases byteAt z i == 101 <;> cases byteAt z i == 115 <;> cases byteAt z i == 119 <;> cases byteAt z (i - 1) == byteAt z i <;> rfl
      · rw [decide_eq_false (show ¬ (i : Int) > 0 by omega), decide_eq_false h0]
        simp only [nb]
        cases byteAt z i == 110 <;> cases byteAt z i == 101 <;> cases byteAt z i == 115 <;> cases byteAt z i == 119 <;> rfl
    · intro st' e
      unfold pathG at e
      cases hg : good (byteAt z i)
      · rw [hg] at e; cases e
      · rw [hg] at e; cases e; exact pathI_step ⟨i1, i2, i3⟩
  · intro st hI
    show f_sl05Path_n3 z (z.size : Nat) st = _
    unfold f_sl05Path_n3
    rw [lt_neg, cond_false]
theorem iPath_run {z : ByteArray} (hz : z.size ≤ 1048576) : f_istraights_run5 (z, ((z.size : Nat) : Int), 0, []) = some (endL (fun st => (st, true)) (parts z)) := by
  unfold f_istraights_run5 parts
  refine (iter_exitI (α := Unit) (step := fun x => f_istraights_n5 x.1 x.2.1 x.2.2.1 x.2.2.2) z.size (fun i st => (z, ((z.size : Nat) : Int), (i : Int), st)) (pathG z) PathI (fun st => (st, true)) ?_ ?_ z.size 0 FU (by omega) (FU_big (pow_big (by omega))) [] ⟨fun h => absurd h (Nat.lt_irrefl 0), Nat.le_refl _, fun x hx => by cases hx⟩).1
  · intro i st hi hI
    obtain ⟨i1, i2, i3⟩ := hI
    constructor
    · show f_istraights_n5 z ((z.size : Nat) : Int) i st = _
      unfold f_istraights_n5
      have hx : decide (s_stringsIndexByte (⟨#[110, 101, 115, 119]⟩ : ByteArray) (byteAt z i) < 0) = !good (byteAt z i) := idx_eq (byte_rng z i)
      rw [lt_true hi, inB_nat hi, toNat_nat, succ64 (by omega), fits_small (show (List.length st + List.length ([1] : List Int)) * 8 ≤ 140737488355328 by simp; omega), hx]
      unfold pathG pathS
      by_cases h0 : 0 < i
      · rw [decide_eq_true (show (i : Int) > 0 by omega), decide_eq_true h0, prev_ix h0 (by omega), inB_nat (show i - 1 < z.size by omega), toNat_nat, last_ix (i1 h0) (by omega), inB_nat (show st.length - 1 < st.length by have := i1 h0; omega), toNat_nat]
        have hm : st.getD (st.length - 1) 0 ∈ st := getD_mem' (by have := i1 h0; omega)
        have hv := i3 _ hm
        rw [IntWalk.i64_in (st.getD (st.length - 1) 0 + 1) (by omega), show (byteAt z i == byteAt z (i - 1)) = (byteAt z (i - 1) == byteAt z i) from by rw [Bool.eq_iff_iff, beq_iff_eq, beq_iff_eq]; exact eq_comm]
        cases good (byteAt z i) <;> cases byteAt z (i - 1) == byteAt z i <;> rfl
      · rw [decide_eq_false (show ¬ (i : Int) > 0 by omega), decide_eq_false h0]
        cases good (byteAt z i) <;> rfl
    · intro st' e
      unfold pathG at e
      cases hg : good (byteAt z i)
      · rw [hg] at e; cases e
      · rw [hg] at e; cases e; exact pathI_step ⟨i1, i2, i3⟩
  · intro st hI
    show f_istraights_n5 z ((z.size : Nat) : Int) (z.size : Nat) st = _
    unfold f_istraights_n5
    rw [lt_neg, cond_false]
theorem exit_good {z : ByteArray} : ∀ (k i : Nat) (st : List Int), (∃ j, i ≤ j ∧ j < i + k ∧ good (byteAt z j) = false) → exitL (pathG z) st (List.range' i k) = .inr ([], false)
  | 0, i, st, ⟨j, h1, h2, _⟩ => by omega
  | k + 1, i, st, ⟨j, h1, h2, h3⟩ => by
    rw [List.range'_succ]
    unfold exitL
    cases hg : good (byteAt z i) with
    | false => have : pathG z st i = .inr ([], false) := by unfold pathG; rw [hg]; rfl
               rw [this]
    | true =>
      have : pathG z st i = .inl (pathS z st i) := by unfold pathG; rw [hg]; rfl
      rw [this]
      exact exit_good k (i + 1) _ ⟨j, by
        by_cases e : i = j
        · rw [← e, hg] at h3; cases h3
        · omega, by omega, h3⟩
theorem parts_bad {z : ByteArray} (h : ¬ AllGood z) : parts z = .inr ([], false) := by
  refine exit_good z.size 0 [] (Classical.byContradiction fun hn => h fun i hi => ?_)
  cases hg : good (byteAt z i) with
  | true => rfl
  | false => exact absurd ⟨i, Nat.zero_le i, by omega, hg⟩ hn
/-- The parts of a path, or none. -/
noncomputable def pathOf (z : ByteArray) : Option (List Int) := cond (s_sl00In ((z.size : Nat) : Int) 1 2000) (match parts z with | .inl st => some st | .inr _ => none) none
theorem parts_inr {z : ByteArray} {r : List Int × Bool} : ∀ (k i : Nat) (st : List Int), exitL (pathG z) st (List.range' i k) = .inr r → r = ([], false)
  | 0, i, st, h => by cases h
  | k + 1, i, st, h => by
    rw [List.range'_succ] at h
    unfold exitL at h
    cases hg : good (byteAt z i) with
    | false =>
      have : pathG z st i = .inr ([], false) := by unfold pathG; rw [hg]; rfl
      rw [this] at h; cases h; rfl
    | true =>
      have : pathG z st i = .inl (pathS z st i) := by unfold pathG; rw [hg]; rfl
      rw [this] at h
      exact parts_inr k (i + 1) _ h
theorem path_two {z : ByteArray} (hz : z.size ≤ 1048576) : ∃ a b, s_sl05Path z = some a ∧ s_istraights z = some b ∧
    (match pathOf z with | some st => a = (st, true) ∧ b = (st, true) ∧ PathI z.size st ∧ 1 ≤ z.size ∧ z.size ≤ 2000 | none => a.2 = false ∧ b.2 = false) := by
  obtain ⟨e1, hI⟩ := sPath_eq hz
  unfold s_istraights
  have hl : s_iisLong ((z.size : Nat) : Int) = s_sl00In ((z.size : Nat) : Int) 1 2000 := by
    unfold s_iisLong s_iwithin s_sl00In; rfl
  rw [hl, e1]
  unfold pathOf
  cases hr : s_sl00In ((z.size : Nat) : Int) 1 2000
  · refine ⟨_, _, rfl, rfl, ?_⟩
    dsimp only [cond_false]
    refine ⟨?_, rfl⟩
    cases hp : parts z with
    | inl st => rfl
    | inr r => rw [parts_inr _ _ _ hp]; rfl
  · have hsz : 1 ≤ z.size ∧ z.size ≤ 2000 := by
      unfold s_sl00In at hr
      by_cases q : ((z.size : Nat) : Int) ≥ 1
      · rw [decide_eq_true q, cond_true] at hr
        have := of_decide_eq_true hr; omega
      · rw [decide_eq_false q] at hr; cases hr
    obtain ⟨y, e2, e3⟩ := trim_ok hsz.1 (by omega)
    have e2 : s_stringsTrim z (⟨#[110, 101, 115, 119]⟩ : ByteArray) = some y := e2
    simp only [Bool.not_true, cond_false, cond_true, e2, Option.bind, toList_empty, iPath_run hz]
    by_cases hg : AllGood z
    · rw [decide_eq_true (e3 hg)]
      refine ⟨_, _, rfl, rfl, ?_⟩
      cases hp : parts z with
      | inl st => exact ⟨rfl, rfl, hI st hp, hsz⟩
      | inr r => rw [parts_inr _ _ _ hp]; exact ⟨rfl, rfl⟩
    · rw [parts_bad hg]
      by_cases hy : y.size = 0
      · rw [decide_eq_true hy]; exact ⟨_, _, rfl, rfl, rfl, rfl⟩
      · rw [decide_eq_false hy]; exact ⟨_, _, rfl, rfl, rfl, rfl⟩

/-! ### the law -/
noncomputable def turns (z : ByteArray) : Int × List Int × Int := match pathOf z with
  | some st => (IntKind.wrap .i64 (((List.length st : Nat) : Int) - 1), st, 0)
  | none => (0, [], 5)
theorem turns_eq {z : ByteArray} (hz : z.size ≤ 1048576) : s_sTurnsOf z = some (turns z) ∧ s_iTurnsOf z = some (turns z) ∧ (turns z).2.1.length ≤ 2000 := by
  obtain ⟨a, b, e1, e2, h⟩ := path_two hz
  unfold s_sTurnsOf s_iTurnsOf turns
  rw [e1, e2]
  cases hp : pathOf z with
  | some st =>
    rw [hp] at h
    obtain ⟨rfl, rfl, hI, _, _⟩ := h
    exact ⟨rfl, rfl, by have := hI.2.1; show st.length ≤ _; omega⟩
  | none =>
    rw [hp] at h
    simp only [Option.bind, h.1, h.2, Bool.not_false, cond_true]
    exact ⟨trivial, trivial, by decide⟩
end Go.RR
