/- Rows of rows that are one's own, each row in a block of its own: what keeps them. No condition; no theorem of the program. -/
import Derived.Test.YtpcilcojfechaaaRi
import Derived.Test.YtpcilcojfechaaaRy
set_option linter.unusedVariables false
set_option linter.unusedSimpArgs false
namespace Go.RR
open Go Go.RowKit

/-- A row of one's own, its block from 'lo' on. -/
def NRow (w : World) (lo : Nat) (k : IntKind) (r : List Int) (u : Value) : Prop := OwnV w u 1 r.length (r.map (Value.int k)) ∧ ∀ g, ownG u = some g → lo ≤ g ∧ g < w.heap.size
structure Nest (w : World) (lo : Nat) (k : IntKind) (l : List (List Int)) (vs : List Value) : Prop where
  len : vs.length = l.length
  row : ∀ (i : Nat) (u : Value), vs[i]? = some u → NRow w lo k (l.getD i []) u
  sep : ∀ (i j : Nat) (u v : Value), i ≠ j → vs[i]? = some u → vs[j]? = some v → ∀ g, ownG u = some g → ownG v ≠ some g
structure NestV (w : World) (lo : Nat) (k : IntKind) (l : List (List Int)) (v : Value) (vs : List Value) : Prop where
  nest : Nest w lo k l vs
  own : OwnV w v 1 l.length vs
  low : ∀ g, ownG v = some g → lo ≤ g ∧ g < w.heap.size
  apart : ∀ u ∈ vs, ∀ g, ownG u = some g → ownG v ≠ some g

theorem OwnV.keep {w w' : World} {v : Value} {e n : Nat} {xs : List Value} (h : OwnV w v e n xs) (hk : ∀ g, ownG v = some g → w'.heap[g]? = w.heap[g]?) : OwnV w' v e n xs := by
  rcases h with h | ⟨g, cap, cur, ty, rfl, hc, hg, r⟩
  · exact .inl h
  · exact .inr ⟨g, cap, cur, ty, rfl, hc, by rw [hk g (by simp [ownG]; omega)]; exact hg, r⟩
theorem NRow.keep {w w' : World} {lo : Nat} {k : IntKind} {r : List Int} {u : Value} (h : NRow w lo k r u) (hs : w.heap.size ≤ w'.heap.size) (hk : ∀ g, ownG u = some g → w'.heap[g]? = w.heap[g]?) : NRow w' lo k r u :=
  ⟨h.1.keep hk, fun g hg => ⟨(h.2 g hg).1, Nat.lt_of_lt_of_le (h.2 g hg).2 hs⟩⟩
theorem Nest.keep {w w' : World} {lo : Nat} {k : IntKind} {l : List (List Int)} {vs : List Value} (h : Nest w lo k l vs) (hs : w.heap.size ≤ w'.heap.size) (hk : ∀ u ∈ vs, ∀ g, ownG u = some g → w'.heap[g]? = w.heap[g]?) : Nest w' lo k l vs :=
  ⟨h.len, fun i u hu => (h.row i u hu).keep hs (hk u (List.mem_of_getElem? hu)), h.sep⟩
theorem Nest.low {w : World} {lo : Nat} {k : IntKind} {l : List (List Int)} {vs : List Value} (h : Nest w lo k l vs) {u : Value} (hu : u ∈ vs) {g : Nat} (hg : ownG u = some g) : lo ≤ g ∧ g < w.heap.size := by
  obtain ⟨i, hi⟩ := List.mem_iff_getElem?.1 hu
  exact (h.row i u hi).2 g hg
theorem NestV.keep {w w' : World} {lo : Nat} {k : IntKind} {l : List (List Int)} {v : Value} {vs : List Value} (h : NestV w lo k l v vs) (hs : w.heap.size ≤ w'.heap.size) (hk : ∀ g, lo ≤ g → g < w.heap.size → w'.heap[g]? = w.heap[g]?) : NestV w' lo k l v vs :=
  ⟨h.nest.keep hs fun u hu g hg => hk g (h.nest.low hu hg).1 (h.nest.low hu hg).2, h.own.keep fun g hg => hk g (h.low g hg).1 (h.low g hg).2, fun g hg => ⟨(h.low g hg).1, Nat.lt_of_lt_of_le (h.low g hg).2 hs⟩, h.apart⟩
theorem NestV.below {w w' : World} {lo : Nat} {k : IntKind} {l : List (List Int)} {v : Value} {vs : List Value} (h : NestV w lo k l v vs) (hb : Below w.heap.size w w') : NestV w' lo k l v vs := h.keep hb.size fun g _ hg => hb.block g hg
/-- A row may be read. -/
theorem OwnV.innr {w : World} {k : IntKind} {r : List Int} {u : Value} (h : OwnV w u 1 r.length (r.map (Value.int k))) : Innr w (fun _ => False) 0 k r u := by
  rcases h with ⟨h0, ao, rfl⟩ | ⟨g, cap, cur, ty, rfl, hc, hg, h1, h2, h3, h4⟩
  · exact ⟨ao, 0, by rw [h0], by omega, fun hne => absurd (List.eq_nil_of_length_eq_zero h0) hne⟩
  · refine ⟨_, cap, rfl, h1, fun _ => ⟨g, 0, rfl, Nat.zero_le _, (Array.getElem?_eq_some_iff.1 hg).1, fun hf => hf, Lies.of_heap hg h4⟩⟩
theorem Nest.rows {w : World} {lo : Nat} {k : IntKind} : ∀ {l : List (List Int)} {vs : List Value}, Nest w lo k l vs → RowsC (Innr w (fun _ => False) 0) (.one (.ls k)) l vs
  | [], vs, h => List.eq_nil_of_length_eq_zero h.len
  | r :: l, [], h => by have := h.len; simp at this
  | r :: l, u :: vs, h => by
    refine ⟨[u], vs, rfl, ⟨u, rfl, (h.row 0 u rfl).1.innr⟩, Nest.rows (lo := lo) ⟨by simpa using h.len, fun i v hv => h.row (i + 1) v hv, fun i j a b hij ha hb => h.sep (i + 1) (j + 1) a b (by omega) ha hb⟩⟩
theorem OwnV.cells {w : World} {v : Value} {e : ET} {l : List e.den} {xs : List Value} (h : OwnV w v e.sz l.length xs) (hr : RowsC (Innr w (fun _ => False) 0) e l xs) : CellsR w (.lst e l) [v] := by
  rcases h with ⟨h0, ao, rfl⟩ | ⟨g, cap, cur, ty, rfl, hc, hg, h1, h2, h3, h4⟩
  · exact ⟨xs, ao, 0, by rw [h0], by omega, hr, fun hne => absurd (List.eq_nil_of_length_eq_zero h0) hne⟩
  · exact ⟨xs, _, cap, rfl, h1, hr, fun _ => ⟨g, 0, rfl, (Array.getElem?_eq_some_iff.1 hg).1, Lies.of_heap hg h4⟩⟩
theorem NestV.arg {w : World} {lo : Nat} {k : IntKind} {l : List (List Int)} {v : Value} {vs : List Value} (h : NestV w lo k l v vs) : ArgV w (.lst (.one (.ls k)) l) v :=
  OwnV.cells (e := .one (.ls k)) h.own h.nest.rows
/-- A row, as an argument. -/
theorem NRow.arg {w : World} {lo : Nat} {k : IntKind} {r : List Int} {u : Value} (h : NRow w lo k r u) : ArgV w (.lst (.one (.i k)) r) u := by
  refine OwnV.cells (e := .one (.i k)) h.1 ?_
  clear h
  induction r with
  | nil => rfl
  | cons x r ih => exact ⟨[.int k x], r.map (Value.int k), rfl, rfl, ih⟩
theorem rows_int {I : Inn} {k : IntKind} : ∀ {r : List Int} {xs : List Value}, RowsC I (.one (.i k)) r xs ↔ xs = r.map (Value.int k)
  | [], xs => Iff.rfl
  | x :: r, xs => by
    constructor
    · rintro ⟨c1, c2, rfl, h1, h2⟩
      have h1 : c1 = [.int k x] := h1
      rw [h1, rows_int.1 h2]; rfl
    · rintro rfl
      exact ⟨[.int k x], r.map (Value.int k), rfl, rfl, rows_int.2 rfl⟩
/-- A flat result is a row of one's own. -/
theorem res_row {w w' : World} {O : Nat → Prop} {k : IntKind} {r : List Int} {u : Value} (h : ResV1 w w' O (.lst (.one (.i k)) r) u) : NRow w' w.heap.size k r u := by
  obtain ⟨xs, h1, h2⟩ := h
  rw [rows_int] at h1
  subst h1
  rcases h2 with ⟨h0, ao, rfl⟩ | ⟨g, cap, cur, ty, rfl, hlo, hc, hg, h3, h4, h5, h6⟩
  · refine ⟨.inl ⟨h0, ao, rfl⟩, fun g hg => ?_⟩
    exfalso
    cases ao <;> simp [ownG] at hg
  · refine ⟨.inr ⟨g, cap, cur, ty, rfl, hc, hg, h3, h4, h5, h6⟩, fun g' hg' => ?_⟩
    have : g = g' := by
      simp only [ownG] at hg'
      split at hg'
      · cases hg'
      · exact Option.some.inj hg'
    subst this
    exact ⟨hlo, (Array.getElem?_eq_some_iff.1 hg).1⟩
theorem NRow.lower {w : World} {lo lo' : Nat} {k : IntKind} {r : List Int} {u : Value} (h : NRow w lo k r u) (hl : lo' ≤ lo) : NRow w lo' k r u := ⟨h.1, fun g hg => ⟨Nat.le_trans hl (h.2 g hg).1, (h.2 g hg).2⟩⟩
theorem NestV.lower {w : World} {lo lo' : Nat} {k : IntKind} {l : List (List Int)} {v : Value} {vs : List Value} (h : NestV w lo k l v vs) (hl : lo' ≤ lo) : NestV w lo' k l v vs :=
  ⟨⟨h.nest.len, fun i u hu => (h.nest.row i u hu).lower hl, h.nest.sep⟩, h.own, fun g hg => ⟨Nat.le_trans hl (h.low g hg).1, (h.low g hg).2⟩, h.apart⟩
/-- One row more. -/
theorem Nest.snoc {w : World} {lo : Nat} {k : IntKind} {l : List (List Int)} {vs : List Value} (h : Nest w lo k l vs) {r : List Int} {u : Value} (hr : NRow w lo k r u) (hs : ∀ v ∈ vs, ∀ g, ownG u = some g → ownG v ≠ some g) : Nest w lo k (l ++ [r]) (vs ++ [u]) := by
  have hl := h.len
  have at_ : ∀ (i : Nat) (v : Value), (vs ++ [u])[i]? = some v → (i < vs.length ∧ vs[i]? = some v) ∨ (i = vs.length ∧ v = u) := by
    intro i v hv
    rcases Nat.lt_or_ge i vs.length with hi | hi
    · exact .inl ⟨hi, by rw [List.getElem?_append_left hi] at hv; exact hv⟩
    · rw [List.getElem?_append_right hi] at hv
      obtain ⟨q, hq⟩ : ∃ q, i - vs.length = q := ⟨_, rfl⟩
      rw [hq] at hv
      cases q with
      | zero => exact .inr ⟨by omega, (Option.some.inj hv).symm⟩
      | succ q => cases hv
  refine ⟨by simp [hl], fun i v hv => ?_, fun i j a b hij ha hb g hg => ?_⟩
  · rcases at_ i v hv with ⟨hi, h1⟩ | ⟨rfl, rfl⟩
    · rw [show (l ++ [r]).getD i [] = l.getD i [] by rw [List.getD_eq_getElem?_getD, List.getElem?_append_left (by omega), ← List.getD_eq_getElem?_getD]]
      exact h.row i v h1
    · rw [show (l ++ [r]).getD vs.length [] = r by rw [List.getD_eq_getElem?_getD, List.getElem?_append_right (by omega), hl, Nat.sub_self]; rfl]
      exact hr
  · rcases at_ i a ha with ⟨hi, h1⟩ | ⟨rfl, rfl⟩
    · rcases at_ j b hb with ⟨hj, h2⟩ | ⟨rfl, rfl⟩
      · exact h.sep i j a b hij h1 h2 g hg
      · exact fun e => hs a (List.mem_of_getElem? h1) g e hg
    · rcases at_ j b hb with ⟨hj, h2⟩ | ⟨rfl, rfl⟩
      · exact hs b (List.mem_of_getElem? h2) g hg
      · exact absurd rfl hij
theorem Nest.one {w : World} {lo : Nat} {k : IntKind} {r : List Int} {u : Value} (hr : NRow w lo k r u) : Nest w lo k [r] [u] :=
  Nest.snoc (l := []) (vs := []) ⟨rfl, fun i u h => by simp at h, fun i j u v _ h => by simp at h⟩ hr fun v hv => by simp at hv
end Go.RR
