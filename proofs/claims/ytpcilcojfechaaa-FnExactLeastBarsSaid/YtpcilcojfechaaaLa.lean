/- A box of one's own, and rows of rows that are only read: what keeps them. No condition; no theorem of the program. -/
import Derived.Test.YtpcilcojfechaaaKa
import Derived.Deep.QuietTactic
set_option linter.unusedVariables false
set_option linter.unusedSimpArgs false
namespace Go.RR
open Go Go.RowKit

/-- A world that differs from another one in one block alone. -/
structure Only (b : Nat) (w w' : World) : Prop where
  os : w'.os = w.os
  tape : w'.tape = w.tape
  output : w'.output = w.output
  size : w.heap.size ≤ w'.heap.size
  block : ∀ k, k < w.heap.size → k ≠ b → w'.heap[k]? = w.heap[k]?
theorem Only.refl (b : Nat) (w : World) : Only b w w := ⟨rfl, rfl, rfl, Nat.le_refl _, fun _ _ _ => rfl⟩
theorem Only.trans {b : Nat} {u v w : World} (h : Only b u v) (k : Only b v w) : Only b u w :=
  ⟨k.os.trans h.os, k.tape.trans h.tape, k.output.trans h.output, Nat.le_trans h.size k.size, fun i hi hb => (k.block i (Nat.lt_of_lt_of_le hi h.size) hb).trans (h.block i hi hb)⟩
theorem Only.of {b : Nat} {w w' : World} (h : Below w.heap.size w w') : Only b w w' := ⟨h.os, h.tape, h.output, h.size, fun k hk _ => h.block k hk⟩
theorem Only.below {b n : Nat} {w w' : World} (h : Only b w w') (hn : n ≤ b) (hs : n ≤ w.heap.size) : Below n w w' :=
  ⟨h.os, h.tape, h.output, h.size, fun k hk => h.block k (by omega) (by omega)⟩
theorem Only.drew {b : Nat} {u w : World} (h : Only b u w) : Only b u w.drew := ⟨h.os, h.tape, h.output, h.size, h.block⟩
theorem Only.drewN {b : Nat} {u w : World} (h : Only b u w) (n : Nat) : Only b u (w.drewN n) := ⟨h.os, h.tape, h.output, h.size, h.block⟩
theorem Only.set {b i : Nat} {u w : World} (h : Only b u w) (x : Value) : Only b u (w.setCell ⟨b, i, none⟩ x) :=
  h.trans ⟨rfl, rfl, rfl, by simp [World.setCell], fun k _ hb => Below.heap_setCell _ _ _ _ hb⟩
/-- A box, by its cells. -/
def Bx (w : World) (b : Nat) (cs : Array Value) : Prop := ∃ ty, w.heap[b]? = some (.cells cs ty (0, 0))
theorem Bx.cell {w : World} {b : Nat} {cs : Array Value} (h : Bx w b cs) (i : Nat) : w.cell? ⟨b, i, none⟩ = cs[i]? := by
  obtain ⟨ty, h⟩ := h
  simp [World.cell?, h]
theorem Bx.frozen {w : World} {b : Nat} {cs : Array Value} (h : Bx w b cs) (i : Nat) : w.frozen? ⟨b, i, none⟩ = false := by
  obtain ⟨ty, h⟩ := h
  simp [World.frozen?, h]
theorem Bx.lt {w : World} {b : Nat} {cs : Array Value} (h : Bx w b cs) : b < w.heap.size := by
  obtain ⟨ty, h⟩ := h
  exact (Array.getElem?_eq_some_iff.1 h).1
theorem Bx.keep {w w' : World} {b : Nat} {cs : Array Value} (h : Bx w b cs) (hk : w'.heap[b]? = w.heap[b]?) : Bx w' b cs := by
  obtain ⟨ty, h⟩ := h
  exact ⟨ty, hk.trans h⟩
theorem Bx.below {w w' : World} {b : Nat} {cs : Array Value} (h : Bx w b cs) (hb : Below w.heap.size w w') : Bx w' b cs := h.keep (hb.block b h.lt)
theorem Bx.drew {w : World} {b : Nat} {cs : Array Value} (h : Bx w b cs) : Bx w.drew b cs := h
theorem Bx.drewN {w : World} {b : Nat} {cs : Array Value} (h : Bx w b cs) (n : Nat) : Bx (w.drewN n) b cs := h
theorem Bx.set {w : World} {b : Nat} {cs : Array Value} (h : Bx w b cs) (i : Nat) (x : Value) : Bx (w.setCell ⟨b, i, none⟩ x) b (cs.setIfInBounds i x) := by
  obtain ⟨ty, h⟩ := h
  refine ⟨ty, ?_⟩
  simp only [World.setCell, Array.getElem?_modify]
  simp [h]
/-- A row that is only read, in another block than b. -/
abbrev Fl (w : World) (b : Nat) (l : List Int) (v : Value) : Prop := Innr w (fun g => g = b) 0 .i64 l v
theorem Innr.only {w w' : World} {b : Nat} {l : List Int} {v : Value} (h : Fl w b l v) (ho : Only b w w') : Fl w' b l v :=
  h.keep ho.size fun g hg hn => ⟨ho.block g hg hn, hn⟩
theorem ints_rows {I : Inn} {k : IntKind} (r : List Int) : RowsC I (.one (.i k)) r (r.map (Value.int k)) := by
  induction r with
  | nil => rfl
  | cons x r ih => exact ⟨[.int k x], r.map (Value.int k), rfl, rfl, ih⟩
theorem Innr.argL {w : World} {O : Nat → Prop} {lo : Nat} {k : IntKind} {l : List Int} {v : Value} (h : Innr w O lo k l v) : ArgV w (.lst (.one (.i k)) l) v := by
  obtain ⟨ao, cap, rfl, h1, h2⟩ := h
  refine ⟨l.map (Value.int k), ao, cap, rfl, h1, ints_rows l, fun hl => ?_⟩
  obtain ⟨g, o, e, _, hg, _, hr⟩ := h2 hl
  exact ⟨g, o, e, hg, hr⟩
/-- Rows of rows that are only read, in other blocks than b. -/
def Near (w : World) (b : Nat) (l : List (List Int)) (v : Value) : Prop :=
  ∃ xs ao cap, v = .slice ao l.length cap ∧ l.length ≤ cap ∧ RowsC (Innr w (fun g => g = b) 0) (.one (.ls .i64)) l xs ∧ (l ≠ [] → ∃ g o, ao = some ⟨g, o, none⟩ ∧ g < w.heap.size ∧ g ≠ b ∧ Lies w g o xs)
theorem Near.keep {w w' : World} {b : Nat} {l : List (List Int)} {v : Value} (h : Near w b l v) (ho : Only b w w') : Near w' b l v := by
  obtain ⟨xs, ao, cap, h1, h2, h3, h4⟩ := h
  refine ⟨xs, ao, cap, h1, h2, h3.imp fun k l v hv => hv.keep ho.size fun g hg hn => ⟨ho.block g hg hn, hn⟩, fun hne => ?_⟩
  obtain ⟨g, o, h5, h6, h7, h8⟩ := h4 hne
  exact ⟨g, o, h5, Nat.lt_of_lt_of_le h6 ho.size, h7, h8.keep (ho.block g h6 h7)⟩
theorem Near.arg {w : World} {b : Nat} {l : List (List Int)} {v : Value} (h : Near w b l v) : ArgV w (.lst (.one (.ls .i64)) l) v := by
  obtain ⟨xs, ao, cap, rfl, h2, h3, h4⟩ := h
  refine ⟨xs, ao, cap, rfl, h2, h3.imp fun k l v hv => hv.any, fun hl => ?_⟩
  obtain ⟨g, o, e, hg, _, hr⟩ := h4 hl
  exact ⟨g, o, e, hg, hr⟩
theorem Near.slice {w : World} {b : Nat} {l : List (List Int)} {v : Value} (h : Near w b l v) : ∃ ao c, v = .slice ao l.length c := by
  obtain ⟨_, ao, cap, h, _⟩ := h
  exact ⟨ao, cap, h⟩
theorem Near.nil (w : World) (b : Nat) (ao : Option Addr) (cap : Nat) : Near w b [] (.slice ao 0 cap) := ⟨[], ao, cap, rfl, Nat.zero_le _, rfl, fun h => absurd rfl h⟩
/-- What a callee hands back lies in new blocks. -/
theorem near_of_res {w w' : World} {O : Nat → Prop} {b : Nat} {l : List (List Int)} {v : Value} (hb : b < w.heap.size) (h : ResV1 w w' O (.lst (.one (.ls .i64)) l) v) : Near w' b l v := by
  obtain ⟨xs, h1, h2⟩ := h
  have h1' : RowsC (Innr w' (fun g => g = b) 0) (.one (.ls .i64)) l xs := h1.imp fun k r u hu => by
    obtain ⟨ao, cap, e1, e2, e3⟩ := hu
    refine ⟨ao, cap, e1, e2, fun hr => ?_⟩
    obtain ⟨g, o, q1, q2, q3, _, q5⟩ := e3 hr
    exact ⟨g, o, q1, Nat.zero_le _, q3, fun e => by have e : g = b := e; omega, q5⟩
  rcases h2 with ⟨h0, ao, rfl⟩ | ⟨g, cap, cur, ty, rfl, hlo, hc, hg, h3, h4, h5, h6⟩
  · exact ⟨xs, ao, 0, by have h0 : l.length = 0 := h0; rw [h0], by have h0 : l.length = 0 := h0; omega, h1', fun hne => absurd (List.eq_nil_of_length_eq_zero h0) hne⟩
  · exact ⟨xs, _, cap, rfl, h3, h1', fun _ => ⟨g, 0, rfl, (Array.getElem?_eq_some_iff.1 hg).1, by omega, Lies.of_heap hg h6⟩⟩
theorem flat_of_res {w w' : World} {O : Nat → Prop} {b : Nat} {l : List Int} {v : Value} (hb : b ≤ w.heap.size) (h : ResV1 w w' O (.lst (.one (.i .i64)) l) v) : Innr w' (fun _ => False) b .i64 l v := by
  obtain ⟨xs, h1, h2⟩ := h
  rw [rows_int] at h1
  subst h1
  rcases h2 with ⟨h0, ao, rfl⟩ | ⟨g, cap, cur, ty, rfl, hlo, hc, hg, h3, h4, h5, h6⟩
  · exact ⟨ao, 0, by have h0 : l.length = 0 := h0; rw [h0], by have h0 : l.length = 0 := h0; omega, fun hne => absurd (List.eq_nil_of_length_eq_zero h0) hne⟩
  · refine ⟨_, cap, rfl, h3, fun _ => ⟨g, 0, rfl, by omega, (Array.getElem?_eq_some_iff.1 hg).1, fun hf => hf, Lies.of_heap (n := l.length * (ET.one (RT.i .i64)).sz) hg h6⟩⟩
end Go.RR
