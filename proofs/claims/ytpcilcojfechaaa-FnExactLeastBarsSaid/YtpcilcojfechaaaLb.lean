/- How much of a bar is used: the reference's function, walked (it turns nothing). No condition but the ranges. -/
import Derived.Test.YtpcilcojfechaaaLa
import Derived.Test.YtpcilcojfechaaaVe
import Derived.WalkKit
import Derived.ProofKit
import Derived.Lib.SliceRun
import Derived.Deep.LoopGhost
set_option linter.unusedVariables false
set_option linter.unusedSimpArgs false
set_option maxRecDepth 100000
namespace Go.RR
open Go Go.Proofs Go.RowKit

/-- What a bar uses. -/
def useP (P : List Int) (S : Int) : List Int → Int
  | [] => 0
  | x :: l => P.getD x.toNat 0 + (l.map fun y => S + P.getD y.toNat 0).sum
theorem useP_snoc (P : List Int) (S : Int) {l : List Int} (h : l ≠ []) (x : Int) : useP P S (l ++ [x]) = useP P S l + S + P.getD x.toNat 0 := by
  cases l with
  | nil => exact absurd rfl h
  | cons y l => simp [useP]; omega
theorem useP_one (P : List Int) (S x : Int) : useP P S [x] = P.getD x.toNat 0 := by simp [useP]
structure PcOK (P : List Int) (S : Int) : Prop where
  len : P.length ≤ 14
  pc : ∀ x ∈ P, 0 ≤ x ∧ x ≤ 10000
  saw : 0 ≤ S ∧ S ≤ 10000
theorem PcOK.get {P : List Int} {S : Int} (h : PcOK P S) (i : Nat) : 0 ≤ P.getD i 0 ∧ P.getD i 0 ≤ 10000 := by
  rw [List.getD_eq_getElem?_getD]
  cases e : P[i]? with
  | none => simp
  | some x => exact h.pc x (List.mem_of_getElem? e)
theorem useP_range {P : List Int} {S : Int} (h : PcOK P S) (l : List Int) : 0 ≤ useP P S l ∧ useP P S l ≤ 20000 * (l.length : Int) := by
  cases l with
  | nil => simp [useP]
  | cons x l =>
    have h1 := h.get x.toNat
    have h2 : 0 ≤ (l.map fun y => S + P.getD y.toNat 0).sum ∧ (l.map fun y => S + P.getD y.toNat 0).sum ≤ 20000 * (l.length : Int) := by
      induction l with
      | nil => simp
      | cons y l ih =>
        have h3 := h.get y.toNat
        have h4 := h.saw
        simp only [List.map_cons, List.sum_cons, List.length_cons]
        omega
    simp only [useP, List.length_cons]
    omega
def BarOK (P : List Int) (r : List Int) : Prop := r ≠ [] ∧ r.length ≤ 14 ∧ ∀ x ∈ r, 0 ≤ x ∧ x < (P.length : Int)
theorem use_walk {P : List Int} {S : Int} {r : List Int} (hP : PcOK P S) (hr : BarOK P r) {w : World} {O O' : Nat → Prop} {lo lo' : Nat} {vP vr : Value} (h1 : Innr w O lo .i64 P vP) (h2 : Innr w O' lo' .i64 r vr) :
    Calls Try.prog 48 #[vP, .int .i64 S, vr] w fun e w' => e = .returned (.int .i64 (useP P S r)) ∧ w' = w := by
  obtain ⟨aP, cP, rfl, hcP, hP1⟩ := h1
  obtain ⟨ar, cr, rfl, hcr, hr1⟩ := h2
  have hne : P ≠ [] := fun e => by
    obtain ⟨x, l, hx⟩ := List.exists_cons_of_ne_nil hr.1
    have := hr.2.2 x (by rw [hx]; simp)
    rw [e] at this
    simp at this; omega
  obtain ⟨g, o, rfl, _, _, _, hLP⟩ := hP1 hne
  obtain ⟨g2, o2, rfl, _, _, _, hLr⟩ := hr1 hr.1
  have hin : ∀ k, k < r.length → 0 ≤ r.getD k 0 ∧ r.getD k 0 < (P.length : Int) := fun k hk => hr.2.2 _ (getD_mem' hk)
  have hcr2 : ∀ k, k < r.length → w.cell? ⟨g2, o2 + k, none⟩ = some (.int .i64 (r.getD k 0)) := fun k hk => hLr k _ (by rw [List.getElem?_map, List.getElem?_eq_getElem hk, List.getD_eq_getElem?_getD, List.getElem?_eq_getElem hk]; rfl)
  have hcP2 : ∀ k, k < P.length → w.cell? ⟨g, o + k, none⟩ = some (.int .i64 (P.getD k 0)) := fun k hk => hLP k _ (by rw [List.getElem?_map, List.getElem?_eq_getElem hk, List.getD_eq_getElem?_getD, List.getElem?_eq_getElem hk]; rfl)
  have hstep : ∀ k, k < r.length → useP P S (r.take (k + 1)) = (if k = 0 then 0 else useP P S (r.take k) + S) + P.getD (r.getD k 0).toNat 0 := fun k hk => by
    have e1 : r[k]? = some (r.getD k 0) := by rw [List.getD_eq_getElem?_getD, List.getElem?_eq_getElem hk]; rfl
    rw [List.take_add_one, e1]
    by_cases e : k = 0
    · subst e; simp [useP_one]
    · rw [if_neg e]
      exact useP_snoc P S (by intro h; have := congrArg List.length h; rw [List.length_take, List.length_nil] at this; omega) _
  have hrng : ∀ k, k ≤ r.length → 0 ≤ useP P S (r.take k) ∧ useP P S (r.take k) ≤ 280000 := fun k hk => by
    have := useP_range hP (r.take k)
    have h3 := hr.2.1
    rw [List.length_take] at this
    omega
  have hlen := hr.2.1
  have hlP := hP.len
  have hpr := fun k => hP.get k
  have hsaw := hP.saw
  have H1 : Aside (∀ k, k < r.length → useP P S (r.take (k + 1)) = (if k = 0 then 0 else useP P S (r.take k) + S) + P.getD (r.getD k 0).toNat 0) := hstep
  have H2 : Aside (∀ k, k ≤ r.length → 0 ≤ useP P S (r.take k) ∧ useP P S (r.take k) ≤ 280000) := hrng
  have H3 : Aside (∀ k, 0 ≤ P.getD k 0 ∧ P.getD k 0 ≤ 10000) := hpr
  have H4 : Aside (∀ k, k < r.length → 0 ≤ r.getD k 0 ∧ r.getD k 0 < (P.length : Int)) := hin
  have H5 : Aside (∀ k, k < r.length → w.cell? ⟨g2, o2 + k, none⟩ = some (.int .i64 (r.getD k 0))) := hcr2
  have H6 : Aside (∀ k, k < P.length → w.cell? ⟨g, o + k, none⟩ = some (.int .i64 (P.getD k 0))) := hcP2
  clear hstep hrng hpr hin hcr2 hcP2 hLP hLr hP1 hr1 hP hr
  go_enter Try.func48, Try.ntmps48
  go_wp2
  go_loopg [7, 8] r.length (fun gg s7 s8 wr => wr = w ∧ ∃ k : Nat, k ≤ r.length ∧ r.length - k ≤ gg ∧ s7 = .int .i64 (useP P S (r.take k)) ∧ s8 = .int .i64 (k : Int))
  case atStart => exact ⟨rfl, 0, by omega, by omega, rfl, rfl⟩
  case round =>
    obtain ⟨rfl, k, hk, hgg, rfl, rfl⟩ := hrel
    by_cases hlt : k < r.length
    · have q5 := H5.out k hlt
      have q4 := H4.out k hlt
      have q3 := H3.out (r.getD k 0).toNat
      have q2 := H2.out k hk
      have q22 := H2.out (k + 1) hlt
      have q1 := H1.out k hlt
      obtain ⟨x, hx⟩ : ∃ x, r.getD k 0 = x := ⟨_, rfl⟩
      rw [hx] at q5 q4 q3 q1
      obtain ⟨y, rfl⟩ : ∃ y : Nat, x = y := ⟨x.toNat, by omega⟩
      have q6 := H6.out y (by omega)
      rw [Int.toNat_natCast] at q1 q3
      obtain ⟨p, hp⟩ : ∃ p, P.getD y 0 = p := ⟨_, rfl⟩
      rw [hp] at q6 q3 q1
      obtain ⟨u, hu⟩ : ∃ u, useP P S (r.take k) = u := ⟨_, rfl⟩
      rw [hu] at q2 q1 ⊢
      have A1 : Aside (useP P S (r.take (k + 1)) = (if k = 0 then 0 else u + S) + p) := q1
      have hltz : (k : Int) < (r.length : Int) := by omega
      have hyz : (0 : Int) ≤ y ∧ (y : Int) < P.length := by omega
      have A2 : Aside (0 ≤ useP P S (List.take (k + 1) r) ∧ useP P S (List.take (k + 1) r) ≤ 280000) := q22
      clear q1 hx hp q22
      by_cases hk0 : k = 0
      · have hu0 : u = 0 := by rw [← hu, hk0]; simp [useP]
        subst hu0
        have hk1 : ¬ (k : Int) > 0 := by omega
        have B0 : Aside (k = 0) := hk0
        clear hu hk0
        go_wp2
        go_roundg (r.length - (k + 1))
        case measure => omega
        case rel => exact ⟨rfl, k + 1, by omega, by omega, by rw [A1.out, if_pos B0.out]; go_num, by go_num⟩
      · have hk1 : (k : Int) > 0 := by omega
        clear hu
        go_wp2
        go_roundg (r.length - (k + 1))
        case measure => omega
        case rel => exact ⟨rfl, k + 1, by omega, by omega, by rw [A1.out, if_neg hk0], by go_num⟩
    · obtain rfl : k = r.length := by omega
      rw [List.take_length]
      go_wp2
      go_ret
      exact ⟨rfl, rfl⟩
end Go.RR
