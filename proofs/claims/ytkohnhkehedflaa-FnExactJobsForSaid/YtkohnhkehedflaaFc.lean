/- Plain facts of fields: cells, neighbours, a field by rounds; what belongs to a field. No condition; no theorem of the program. -/
import Derived.Test.YtkohnhkehedflaaRy
set_option linter.unusedVariables false
set_option linter.unusedSimpArgs false
namespace Go.RR
open Go

/-! ### 1. Cells and neighbours -/
def isC (w h k : Nat) : Prop := k % 12 < w ∧ k / 12 < h
instance (w h k : Nat) : Decidable (isC w h k) := by unfold isC; infer_instance
def nb (w h k : Nat) : List Nat := (if 0 < k / 12 then [k - 12] else []) ++ ((if 0 < k % 12 then [k - 1] else []) ++ ((if k % 12 + 1 < w then [k + 1] else []) ++ (if k / 12 + 1 < h then [k + 12] else [])))
theorem nb_mem {w h k n : Nat} : n ∈ nb w h k ↔ (0 < k / 12 ∧ n = k - 12) ∨ (0 < k % 12 ∧ n = k - 1) ∨ (k % 12 + 1 < w ∧ n = k + 1) ∨ (k / 12 + 1 < h ∧ n = k + 12) := by
  unfold nb
  simp only [List.mem_append]
  have e : ∀ (p : Prop) [Decidable p] (m : Nat), n ∈ (if p then [m] else []) ↔ p ∧ n = m := fun p _ m => by
    by_cases hp : p <;> simp [hp]
  rw [e, e, e, e]
theorem nb_cell {w h k n : Nat} (hw : w ≤ 12) (hc : isC w h k) (hn : n ∈ nb w h k) : isC w h n := by
  unfold isC at *
  rcases nb_mem.1 hn with ⟨h1, rfl⟩ | ⟨h1, rfl⟩ | ⟨h1, rfl⟩ | ⟨h1, rfl⟩ <;> omega
theorem nb_sym {w h k n : Nat} (hw : w ≤ 12) (hc : isC w h k) (hn : n ∈ nb w h k) : k ∈ nb w h n := by
  unfold isC at *
  rw [nb_mem]
  rcases nb_mem.1 hn with ⟨h1, rfl⟩ | ⟨h1, rfl⟩ | ⟨h1, rfl⟩ | ⟨h1, rfl⟩ <;> omega
theorem isC_lt {w h k : Nat} (hh : h ≤ 12) (hc : isC w h k) : k < 144 := by unfold isC at hc; omega
theorem nb_len (w h k : Nat) : (nb w h k).length ≤ 4 := by
  unfold nb
  simp only [List.length_append]
  have e : ∀ (p : Prop) [Decidable p] (m : Nat), (if p then [m] else []).length ≤ 1 := fun p _ m => by by_cases hp : p <;> simp [hp]
  have h1 := e (0 < k / 12) (k - 12)
  have h2 := e (0 < k % 12) (k - 1)
  have h3 := e (k % 12 + 1 < w) (k + 1)
  have h4 := e (k / 12 + 1 < h) (k + 12)
  omega

/-! ### 2. Lists without a number twice -/
theorem nodup_len {l : List Nat} {N : Nat} (hn : l.Nodup) (h : ∀ x ∈ l, x < N) : l.length ≤ N := by
  have h2 : ((List.range N).filter fun x => l.contains x).Nodup := (List.filter_sublist).nodup List.nodup_range
  have hp : l.Perm ((List.range N).filter fun x => l.contains x) := (List.perm_ext_iff_of_nodup hn h2).2 fun a => by
    rw [List.mem_filter, List.mem_range]
    exact ⟨fun ha => ⟨h a ha, by simpa using ha⟩, fun ha => by simpa using ha.2⟩
  have := hp.length_eq
  have h3 := List.length_filter_le (fun x => l.contains x) (List.range N)
  rw [List.length_range] at h3
  omega
/-- The numbers below 144 that are in a list. -/
def listed (p : Nat → Bool) : List Nat := (List.range 144).filter p
theorem listed_mem {p : Nat → Bool} {k : Nat} : k ∈ listed p ↔ k < 144 ∧ p k = true := by
  unfold listed
  rw [List.mem_filter, List.mem_range]
theorem listed_nodup (p : Nat → Bool) : (listed p).Nodup := (List.filter_sublist).nodup List.nodup_range
def cst (l : List Nat) : List Int := l.map fun n : Nat => (n : Int)
theorem cst_mem {l : List Nat} {x : Int} : x ∈ cst l ↔ ∃ n ∈ l, x = (n : Int) := by
  unfold cst
  rw [List.mem_map]
  exact ⟨fun ⟨n, h1, h2⟩ => ⟨n, h1, h2.symm⟩, fun ⟨n, h1, h2⟩ => ⟨n, h1, h2.symm⟩⟩
/-- Sorted, a list without a number twice is what is listed. -/
theorem sort_listed {q : List Nat} (hn : q.Nodup) (h : ∀ x ∈ q, x < 144) : (cst q).mergeSort (fun x y => decide (x ≤ y)) = cst (listed fun k => q.contains k) := by
  have hp : q.Perm (listed fun k => q.contains k) := (List.perm_ext_iff_of_nodup hn (listed_nodup _)).2 fun a => by
    rw [listed_mem]
    exact ⟨fun ha => ⟨h a ha, by simpa using ha⟩, fun ha => by simpa using ha.2⟩
  refine List.Perm.eq_of_pairwise (le := fun a b : Int => a ≤ b) (fun a b _ _ h1 h2 => Int.le_antisymm h1 h2) ?_ ?_ ((List.mergeSort_perm _ _).trans (hp.map _))
  · have := List.pairwise_mergeSort (le := fun x y : Int => decide (x ≤ y)) (fun a b c h1 h2 => by
      simp only [decide_eq_true_eq] at *; omega) (fun a b => by
      by_cases hab : a ≤ b
      · simp [hab]
      · simp [show b ≤ a by omega]) (cst q)
    exact this.imp fun h => by simpa using h
  · unfold cst listed
    rw [List.pairwise_map]
    exact (List.pairwise_lt_range.sublist List.filter_sublist).imp fun h => by omega

/-! ### 3. A field by rounds -/
def adF (f : Nat → Int) (c : Int) (q : List Nat) (n : Nat) : List Nat := cond (f n == c) (cond (q.contains n) q (q ++ [n])) q
def roundF (w h : Nat) (f : Nat → Int) (c : Int) (q : List Nat) (i : Nat) : List Nat := (nb w h (q.getD i 0)).foldl (adF f c) q
def bfs (w h : Nat) (f : Nat → Int) (c : Int) : Nat → Nat → List Nat → List Nat
  | 0, _, q => q
  | m + 1, i, q => if i < q.length then bfs w h f c m (i + 1) (roundF w h f c q i) else q
/-- What holds of the list: 's' is the first cell. -/
structure BQ (w h : Nat) (f : Nat → Int) (s : Nat) (q : List Nat) : Prop where
  nd : q.Nodup
  cell : ∀ x ∈ q, isC w h x
  col : ∀ x ∈ q, f x = f s
  head : q.getD 0 0 = s ∧ 0 < q.length
  par : ∀ m, 0 < m → m < q.length → ∃ m', m' < m ∧ q.getD m 0 ∈ nb w h (q.getD m' 0)
theorem getD_app {q : List Nat} {n m : Nat} (h : m < q.length) : (q ++ [n]).getD m 0 = q.getD m 0 := by
  rw [List.getD_eq_getElem?_getD, List.getElem?_append_left h, ← List.getD_eq_getElem?_getD]
theorem getD_new (q : List Nat) (n : Nat) : (q ++ [n]).getD q.length 0 = n := by
  rw [List.getD_eq_getElem?_getD, List.getElem?_append_right (Nat.le_refl _), Nat.sub_self]; rfl
theorem adF_cases (f : Nat → Int) (c : Int) (q : List Nat) (n : Nat) : (adF f c q n = q ∧ (f n = c → n ∈ q)) ∨ (adF f c q n = q ++ [n] ∧ f n = c ∧ n ∉ q) := by
  unfold adF
  by_cases h : f n = c
  · rw [show (f n == c) = true by simp [h], cond_true]
    by_cases hq : n ∈ q
    · left
      rw [show q.contains n = true by simpa using hq]
      exact ⟨rfl, fun _ => hq⟩
    · right
      rw [show q.contains n = false by simpa using hq]
      exact ⟨rfl, h, hq⟩
  · left
    rw [show (f n == c) = false by simp [h]]
    exact ⟨rfl, fun h' => absurd h' h⟩
theorem adF_ok {w h : Nat} (hw : w ≤ 12) {f : Nat → Int} {s : Nat} {q : List Nat} {i n : Nat} (hq : BQ w h f s q) (hi : i < q.length) (hn : n ∈ nb w h (q.getD i 0)) :
    BQ w h f s (adF f (f s) q n) ∧ (∃ t, adF f (f s) q n = q ++ t) ∧ (f n = f s → n ∈ adF f (f s) q n) := by
  rcases adF_cases f (f s) q n with ⟨e, h1⟩ | ⟨e, h1, h2⟩
  · rw [e]; exact ⟨hq, ⟨[], by simp⟩, h1⟩
  · rw [e]
    have hcell := nb_cell hw (hq.cell _ (getD_mem' (d := 0) hi)) hn
    refine ⟨⟨?_, fun x hx => ?_, fun x hx => ?_, ⟨?_, by simp⟩, fun m h0 hm => ?_⟩, ⟨[n], rfl⟩, fun _ => by simp⟩
    · exact List.nodup_append.2 ⟨hq.nd, by simp, fun a ha b hb => by rw [List.mem_singleton] at hb; subst hb; exact fun e => h2 (e ▸ ha)⟩
    · rcases List.mem_append.1 hx with hx | hx
      · exact hq.cell x hx
      · rw [List.mem_singleton] at hx; subst hx; exact hcell
    · rcases List.mem_append.1 hx with hx | hx
      · exact hq.col x hx
      · rw [List.mem_singleton] at hx; subst hx; exact h1
    · rw [getD_app hq.head.2]; exact hq.head.1
    · rw [List.length_append, List.length_singleton] at hm
      by_cases hm2 : m < q.length
      · obtain ⟨m', p1, p2⟩ := hq.par m h0 hm2
        exact ⟨m', p1, by rw [getD_app hm2, getD_app (by omega)]; exact p2⟩
      · obtain rfl : m = q.length := by omega
        exact ⟨i, hi, by rw [getD_new, getD_app hi]; exact hn⟩
theorem fold_ok {w h : Nat} (hw : w ≤ 12) {f : Nat → Int} {s i : Nat} {x : Nat} : ∀ (ns : List Nat) (q : List Nat), BQ w h f s q → i < q.length → q.getD i 0 = x → (∀ n ∈ ns, n ∈ nb w h x) →
    BQ w h f s (ns.foldl (adF f (f s)) q) ∧ (∃ t, ns.foldl (adF f (f s)) q = q ++ t) ∧ ∀ n ∈ ns, f n = f s → n ∈ ns.foldl (adF f (f s)) q
  | [], q, hq, _, _, _ => ⟨hq, ⟨[], by simp⟩, fun n hn => by cases hn⟩
  | a :: ns, q, hq, hi, hx, hns => by
    obtain ⟨h1, ⟨t, ht⟩, h2⟩ := adF_ok hw hq hi (n := a) (by rw [hx]; exact hns a (by simp))
    have hi' : i < (adF f (f s) q a).length := by rw [ht, List.length_append]; omega
    have hx' : (adF f (f s) q a).getD i 0 = x := by
      rw [ht, List.getD_eq_getElem?_getD, List.getElem?_append_left hi, ← List.getD_eq_getElem?_getD]; exact hx
    obtain ⟨k1, ⟨t2, k2⟩, k3⟩ := fold_ok hw ns _ h1 hi' hx' fun n hn => hns n (by simp [hn])
    rw [List.foldl_cons]
    refine ⟨k1, ⟨t ++ t2, by rw [k2, ht, List.append_assoc]⟩, fun n hn hf => ?_⟩
    rcases List.mem_cons.1 hn with rfl | hn
    · rw [k2]; exact List.mem_append.2 (.inl (h2 hf))
    · exact k3 n hn hf
/-- What the cells before a place lead to is in the list. -/
def Closed (w h : Nat) (f : Nat → Int) (s : Nat) (q : List Nat) (i : Nat) : Prop := ∀ m, m < i → m < q.length → ∀ n ∈ nb w h (q.getD m 0), f n = f s → n ∈ q
theorem round_ok {w h : Nat} (hw : w ≤ 12) {f : Nat → Int} {s i : Nat} {q : List Nat} (hq : BQ w h f s q) (hi : i < q.length) (hc : Closed w h f s q i) :
    BQ w h f s (roundF w h f (f s) q i) ∧ Closed w h f s (roundF w h f (f s) q i) (i + 1) ∧ q.length ≤ (roundF w h f (f s) q i).length := by
  obtain ⟨h1, ⟨t, ht⟩, h3⟩ := fold_ok hw (nb w h (q.getD i 0)) q hq hi rfl fun n hn => hn
  unfold roundF
  refine ⟨h1, fun m hm hml n hn hf => ?_, by rw [ht, List.length_append]; omega⟩
  have hmq : m < q.length := by omega
  have e : ((nb w h (q.getD i 0)).foldl (adF f (f s)) q).getD m 0 = q.getD m 0 := by
    rw [ht, List.getD_eq_getElem?_getD, List.getElem?_append_left hmq, ← List.getD_eq_getElem?_getD]
  rw [e] at hn
  by_cases hmi : m = i
  · subst hmi; exact h3 n hn hf
  · rw [ht]; exact List.mem_append.2 (.inl (hc m (by omega) hmq n hn hf))
theorem bfs_ok {w h : Nat} (hw : w ≤ 12) (hh : h ≤ 12) {f : Nat → Int} {s : Nat} : ∀ (m i : Nat) (q : List Nat), BQ w h f s q → i ≤ q.length → 144 < i + m → Closed w h f s q i →
    BQ w h f s (bfs w h f (f s) m i q) ∧ Closed w h f s (bfs w h f (f s) m i q) (bfs w h f (f s) m i q).length
  | 0, i, q, hq, hi, hm, hc => by
    have := nodup_len hq.nd fun x hx => isC_lt hh (hq.cell x hx)
    omega
  | m + 1, i, q, hq, hi, hm, hc => by
    unfold bfs
    by_cases h1 : i < q.length
    · rw [if_pos h1]
      obtain ⟨k1, k2, k3⟩ := round_ok hw hq h1 hc
      exact bfs_ok hw hh m (i + 1) _ k1 (by omega) (by omega) k2
    · rw [if_neg h1]
      obtain rfl : i = q.length := by omega
      exact ⟨hq, hc⟩
/-- The field of a cell, in the order in which it is found. -/
def comp (w h : Nat) (f : Nat → Int) (s : Nat) : List Nat := bfs w h f (f s) 145 0 [s]
theorem first_ok {w h : Nat} {f : Nat → Int} {s : Nat} (hs : isC w h s) : BQ w h f s [s] :=
  ⟨by simp, fun x hx => by rw [List.mem_singleton] at hx; subst hx; exact hs, fun x hx => by rw [List.mem_singleton] at hx; subst hx; rfl, ⟨rfl, by simp⟩, fun m h0 hm => by rw [List.length_singleton] at hm; omega⟩
theorem comp_ok {w h : Nat} (hw : w ≤ 12) (hh : h ≤ 12) {f : Nat → Int} {s : Nat} (hs : isC w h s) : BQ w h f s (comp w h f s) ∧ ∀ x ∈ comp w h f s, ∀ n ∈ nb w h x, f n = f s → n ∈ comp w h f s := by
  obtain ⟨h1, h2⟩ := bfs_ok hw hh 145 0 [s] (first_ok (f := f) hs) (by simp) (by omega) (fun m hm => by omega)
  refine ⟨h1, fun x hx n hn hf => ?_⟩
  obtain ⟨m, hm, rfl⟩ := List.getElem_of_mem hx
  refine h2 m hm hm n ?_ hf
  show n ∈ nb w h ((comp w h f s).getD m 0)
  rw [List.getD_eq_getElem?_getD, List.getElem?_eq_getElem hm]
  exact hn
theorem comp_self {w h : Nat} (hw : w ≤ 12) (hh : h ≤ 12) {f : Nat → Int} {s : Nat} (hs : isC w h s) : s ∈ comp w h f s := by
  have hd := (comp_ok hw hh (f := f) hs).1.head
  have hm := getD_mem' (d := 0) hd.2
  rw [hd.1] at hm
  exact hm
/-- A cell of two fields: the second one's first cell lies in the first one. -/
theorem comp_meet {w h : Nat} (hw : w ≤ 12) (hh : h ≤ 12) {f : Nat → Int} {s t : Nat} (hs : isC w h s) (ht : isC w h t) {k : Nat} (h1 : k ∈ comp w h f s) (h2 : k ∈ comp w h f t) : t ∈ comp w h f s := by
  obtain ⟨b1, c1⟩ := comp_ok hw hh (f := f) hs
  obtain ⟨b2, c2⟩ := comp_ok hw hh (f := f) ht
  have hst : f t = f s := (b2.col k h2).symm.trans (b1.col k h1)
  have key : ∀ (m : Nat), m < (comp w h f t).length → (comp w h f t).getD m 0 ∈ comp w h f s → t ∈ comp w h f s := by
    intro m
    induction m using Nat.strongRecOn with
    | _ m ih =>
      intro hm hmem
      by_cases h0 : m = 0
      · subst h0; rw [b2.head.1] at hmem; exact hmem
      · obtain ⟨m', p1, p2⟩ := b2.par m (by omega) hm
        have hm' : m' < (comp w h f t).length := by omega
        have hx' := getD_mem' (d := 0) hm'
        have hsym := nb_sym hw (b2.cell _ hx') p2
        exact ih m' p1 hm' (c1 _ hmem _ hsym ((b2.col _ hx').trans hst))
  obtain ⟨m, hm, he⟩ := List.getElem_of_mem h2
  refine key m hm ?_
  rw [List.getD_eq_getElem?_getD, List.getElem?_eq_getElem hm]
  show (comp w h f t)[m] ∈ _
  rw [he]; exact h1
end Go.RR
