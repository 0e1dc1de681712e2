/- The reference's search for the fewest bars, walked: a look. No condition but the ranges. -/
import Derived.Test.YtpcilcojfechaaaLc
import Derived.BigQuiet
import Derived.BigRegion
import Derived.StillTailTactics
set_option linter.unusedVariables false
set_option linter.unusedSimpArgs false
set_option maxRecDepth 100000
namespace Go.RR
open Go Go.Proofs Go.RowKit

def SB (L S : Int) (vP vO : Value) (bud lk : Nat) (ov fd : Bool) (vb : Value) : Array Value := #[.int .i64 L, .int .i64 S, vP, vO, .int .i64 (bud : Int), .int .i64 (lk : Int), .bool ov, .bool fd, vb]
section
variable {L S : Int} {vP vO : Value} {bud lk b : Nat} {fd : Bool} {vb : Value} {w : World}
theorem slook_no (h : Bx w b (SB L S vP vO bud lk false fd vb)) (hl : lk = bud) (hm : bud ≤ 20000) :
    Calls Try.prog 49 #[.pointer (some ⟨b, 0, none⟩)] w fun e w' => e = .returned (.bool false) ∧ Bx w' b (SB L S vP vO bud lk true fd vb) ∧ Only b w w' := by
  have c4 : w.cell? ⟨b, 4, none⟩ = some (.int .i64 (bud : Int)) := h.cell 4
  have c5 : w.cell? ⟨b, 5, none⟩ = some (.int .i64 (lk : Int)) := h.cell 5
  have c6 : w.cell? ⟨b, 6, none⟩ = some (.bool false) := h.cell 6
  have f6 := h.frozen 6
  have hH : Aside (Bx w b (SB L S vP vO bud lk false fd vb)) := h
  have heq : ((lk : Int) == (bud : Int)) = true := by rw [hl]; simp
  clear h hl
  go_enter Try.func49, Try.ntmps49
  go_wp2
  go_quiet (fail)
  go_wp2
  go_ret
  exact ⟨rfl, (hH.out.drewN _).set 6 (.bool true), ((Only.refl b w).drewN _).set _⟩
theorem slook_yes (h : Bx w b (SB L S vP vO bud lk false fd vb)) (hl : lk < bud) (hm : bud ≤ 20000) :
    Calls Try.prog 49 #[.pointer (some ⟨b, 0, none⟩)] w fun e w' => e = .returned (.bool true) ∧ Bx w' b (SB L S vP vO bud (lk + 1) false fd vb) ∧ Only b w w' := by
  have c4 : w.cell? ⟨b, 4, none⟩ = some (.int .i64 (bud : Int)) := h.cell 4
  have c5 : w.cell? ⟨b, 5, none⟩ = some (.int .i64 (lk : Int)) := h.cell 5
  have f5 := h.frozen 5
  have hH : Aside (Bx w b (SB L S vP vO bud lk false fd vb)) := h
  have heq : ((lk : Int) == (bud : Int)) = false := by simp; omega
  have hlz : (lk : Int) + 1 ≤ 9223372036854775807 := by omega
  clear h hl
  go_enter Try.func49, Try.ntmps49
  go_wp2
  go_quiet (fail)
  go_wp2
  go_ret
  exact ⟨rfl, (hH.out.drewN _).set 5 (.int .i64 ((lk + 1 : Nat) : Int)), ((Only.refl b w).drewN _).set _⟩
end
end Go.RR
namespace Go.RR
open Go Go.Proofs Go.RowKit

theorem Innr.at {w : World} {O : Nat → Prop} {lo g o c : Nat} {l : List Int} {n : Nat} (h : Innr w O lo .i64 l (.slice (some ⟨g, o, none⟩) n c)) {i : Nat} (hi : i < l.length) : w.cell? ⟨g, o + i, none⟩ = some (.int .i64 (l.getD i 0)) := by
  obtain ⟨ao, cap, e, h1, h2⟩ := h
  obtain ⟨g', o', e2, _, _, _, hr⟩ := h2 (by rintro rfl; simp at hi)
  simp only [Value.slice.injEq] at e
  obtain ⟨e, _, _⟩ := e
  rw [e2] at e
  cases e
  exact hr i _ (by rw [List.getElem?_map, List.getElem?_eq_getElem hi, List.getD_eq_getElem?_getD, List.getElem?_eq_getElem hi]; rfl)
theorem Innr.open {w : World} {O : Nat → Prop} {lo : Nat} {l : List Int} {v : Value} (h : Innr w O lo .i64 l v) (hl : l ≠ []) : ∃ g o c, v = .slice (some ⟨g, o, none⟩) l.length c := by
  obtain ⟨ao, cap, rfl, h1, h2⟩ := h
  obtain ⟨g, o, rfl, _⟩ := h2 hl
  exact ⟨g, o, cap, rfl⟩
theorem rows_at {I : Inn} : ∀ {l : List (List Int)} {xs : List Value}, RowsC I (.one (.ls .i64)) l xs → ∀ a, a < l.length → ∃ va, xs[a]? = some va ∧ I .i64 (l.getD a []) va
  | [], xs, h, a, ha => by simp at ha
  | r :: l, xs, h, a, ha => by
    obtain ⟨c1, c2, rfl, ⟨v, rfl, h1⟩, h2⟩ := h
    cases a with
    | zero => exact ⟨v, rfl, h1⟩
    | succ a =>
      obtain ⟨va, q1, q2⟩ := rows_at h2 a (by simpa using ha)
      exact ⟨va, by simpa using q1, by simpa using q2⟩
theorem Near.at {w : World} {b g o n c : Nat} {l : List (List Int)} (h : Near w b l (.slice (some ⟨g, o, none⟩) n c)) {a : Nat} (ha : a < l.length) : ∃ va, w.cell? ⟨g, o + a, none⟩ = some va ∧ Fl w b (l.getD a []) va := by
  obtain ⟨xs, ao, cap, e, h1, h2, h3⟩ := h
  obtain ⟨g', o', e2, _, _, hr⟩ := h3 (by rintro rfl; simp at ha)
  simp only [Value.slice.injEq] at e
  obtain ⟨e, _, _⟩ := e
  rw [e2] at e
  cases e
  obtain ⟨va, q1, q2⟩ := rows_at h2 a ha
  exact ⟨va, hr a va q1, q2⟩
theorem Near.open {w : World} {b : Nat} {l : List (List Int)} {v : Value} (h : Near w b l v) (hl : l ≠ []) : ∃ g o c, v = .slice (some ⟨g, o, none⟩) l.length c := by
  obtain ⟨xs, ao, cap, rfl, h1, h2, h3⟩ := h
  obtain ⟨g, o, rfl, _⟩ := h3 hl
  exact ⟨g, o, cap, rfl⟩

/-- Where the search ends. -/
def FPost (L S : Int) (vP vO : Value) (bud b : Nat) (w : World) : Option SSt → Prop
  | some st => st.looks ≤ bud ∧ ∃ vb, Near w b st.best vb ∧ Bx w b (SB L S vP vO bud st.looks false st.found vb)
  | none => ∃ lk fd vb, Bx w b (SB L S vP vO bud lk true fd vb)
theorem put_call {P : List Int} {n : Nat} {bars : List (List Int)} (h : BarsOK P n bars) (hn : n ≤ 14) {a b : Nat} (ha : a ≤ bars.length) (k : Int) {w : World} {v : Value} (hb : b < w.heap.size) (hv : Near w b bars v) :
    Calls Try.prog 50 #[v, .int .i64 (a : Int), .int .i64 k] w fun e w' => ∃ ao m c, e = .returned (.slice ao m c) ∧ Near w' b (if a < bars.length then putB bars a k else bars ++ [[k]]) (.slice ao m c) ∧ Below w.heap.size w w' := by
  refine (f_sl04Put_sound [.lst (.one (.ls .i64)) bars, .v (.int .i64 (a : Int)), .v (.int .i64 k)] _ (put_run h hn ha k) w [v, .int .i64 (a : Int), .int .i64 k] trivial ⟨v, _, rfl, hv.arg, ⟨_, _, rfl, ⟨rfl, rfl⟩, _, _, rfl, ⟨rfl, rfl⟩, rfl⟩⟩).mono ?_
  rintro e w' ⟨u, rfl, ⟨_, hres, _⟩, hB⟩
  have h1 := near_of_res hb (hres 0 _ _ rfl rfl)
  obtain ⟨ao, c, e⟩ := h1.slice
  rw [e] at h1 ⊢
  exact ⟨ao, _, c, rfl, h1, hB⟩
end Go.RR
