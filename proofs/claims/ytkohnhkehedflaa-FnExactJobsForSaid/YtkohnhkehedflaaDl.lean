/- What slices.DeleteFunc does with a row of rows: a walk of its own. No condition. -/
import Derived.Test.YtkohnhkehedflaaVb
import Derived.WalkKit
import Derived.ProofKit
import Derived.Lib.SliceRun
import Derived.Deep.LoopGhost
set_option linter.unusedVariables false
set_option linter.unusedSimpArgs false
set_option maxRecDepth 100000
namespace Go.RR
open Go Go.Proofs Go.RowKit

/-! ### Worlds that differ in one old block -/
structure Near (g : Nat) (w w' : World) : Prop where
  os : w'.os = w.os
  tape : w'.tape = w.tape
  output : w'.output = w.output
  size : w.heap.size ≤ w'.heap.size
  block : ∀ k, k < w.heap.size → k ≠ g → w'.heap[k]? = w.heap[k]?
theorem Near.below {g : Nat} {w w' w2 : World} (h : Near g w w') (hb : Below w'.heap.size w' w2) : Near g w w2 :=
  ⟨hb.os.trans h.os, hb.tape.trans h.tape, hb.output.trans h.output, Nat.le_trans h.size hb.size, fun k hk hne => (hb.block k (Nat.lt_of_lt_of_le hk h.size)).trans (h.block k hk hne)⟩
theorem Near.of_below {g : Nat} {w w2 : World} (hb : Below w.heap.size w w2) : Near g w w2 :=
  ⟨hb.os, hb.tape, hb.output, hb.size, fun k hk _ => hb.block k hk⟩
theorem Near.set {g i : Nat} {w w' : World} {v : Value} (h : Near g w w') : Near g w (w'.setCell ⟨g, i, none⟩ v) :=
  ⟨h.os, h.tape, h.output, by simp only [World.setCell, Array.size_modify]; exact h.size, fun k hk hne => by
    rw [← h.block k hk hne]
    simp only [World.setCell, Array.getElem?_modify]
    rw [if_neg (fun e => hne e.symm)]⟩
theorem heap_set {g i : Nat} {w : World} {v : Value} {xs : List Value} {ty : TypeId} (h : w.heap[g]? = some (.cells xs.toArray ty (0, 0))) : (w.setCell ⟨g, i, none⟩ v).heap[g]? = some (.cells (xs.set i v).toArray ty (0, 0)) := by
  simp only [World.setCell, Array.getElem?_modify, if_pos, h, Option.map_some]
  simp
theorem Near.sets {g : Nat} {w : World} : ∀ (vs : List Value) (i : Nat) (w' : World), Near g w w' → Near g w (w'.setCells g i vs)
  | [], _, _, h => h
  | v :: vs, i, w', h => Near.sets vs (i + 1) _ h.set
theorem heap_sets {g : Nat} {ty : TypeId} : ∀ (vs : List Value) (i : Nat) (w : World) (xs : List Value), w.heap[g]? = some (.cells xs.toArray ty (0, 0)) → ∃ ys : List Value, (w.setCells g i vs).heap[g]? = some (.cells ys.toArray ty (0, 0)) ∧ ys.length = xs.length ∧ ys.take i = xs.take i
  | [], i, w, xs, h => ⟨xs, h, rfl, rfl⟩
  | v :: vs, i, w, xs, h => by
    obtain ⟨ys, h1, h2, h3⟩ := heap_sets vs (i + 1) _ _ (heap_set (v := v) (i := i) h)
    refine ⟨ys, h1, by rw [h2, List.length_set], ?_⟩
    have := congrArg (List.take i) h3
    rw [List.take_take, List.take_take, Nat.min_eq_left (by omega)] at this
    rw [this, List.take_set_of_le (Nat.le_refl _)]
theorem cell_of {g j : Nat} {w : World} {xs : List Value} {ty : TypeId} (h : w.heap[g]? = some (.cells xs.toArray ty (0, 0))) {v : Value} (hv : xs[j]? = some v) : w.cell? ⟨g, j, none⟩ = some v := by
  have := Lies.of_heap (n := xs.length) (xs := xs) h (by simp) j v hv
  simpa using this
theorem thaw_of {g j : Nat} {w : World} {xs : List Value} {ty : TypeId} (h : w.heap[g]? = some (.cells xs.toArray ty (0, 0))) : w.frozen? ⟨g, j, none⟩ = false := by
  unfold World.frozen?
  rw [h]
  simp

/-! ### The row as it is rewritten -/
def keepV (pb : Value → Bool) (vs : List Value) : List Value := vs.filter fun v => !pb v
structure DInv (pb : Value → Bool) (vs xs : List Value) (cap i j : Nat) : Prop where
  lt : i < j
  le : j ≤ vs.length
  len : xs.length = cap
  low : xs.take i = keepV pb (vs.take j)
  high : ∀ m, j ≤ m → m < vs.length → xs[m]? = vs[m]?
theorem take_next {vs : List Value} {j : Nat} {v : Value} (hv : vs[j]? = some v) : vs.take (j + 1) = vs.take j ++ [v] := by
  rw [List.take_add_one, hv]; rfl
theorem keep_all {pb : Value → Bool} {vs : List Value} {j : Nat} (h : ∀ m v, m < j → vs[m]? = some v → pb v = false) : keepV pb (vs.take j) = vs.take j := by
  unfold keepV
  rw [List.filter_eq_self]
  intro v hv
  obtain ⟨m, hm, he⟩ := List.mem_iff_getElem.1 hv
  rw [List.length_take] at hm
  rw [List.getElem_take] at he
  rw [h m v (by omega) (by rw [List.getElem?_eq_getElem (by omega), he])]
  rfl
theorem DInv.start {pb : Value → Bool} {vs xs : List Value} {cap k : Nat} {v : Value} (hx : xs.length = cap) (ht : xs.take vs.length = vs) (hk : vs[k]? = some v) (hv : pb v = true) (hall : ∀ m v, m < k → vs[m]? = some v → pb v = false) : DInv pb vs xs cap k (k + 1) := by
  have hkl := (List.getElem?_eq_some_iff.1 hk).1
  have hxv : ∀ m, m < vs.length → xs[m]? = vs[m]? := fun m hm => by
    conv => rhs; rw [← ht]
    rw [List.getElem?_take, if_pos hm]
  refine ⟨by omega, by omega, hx, ?_, fun m _ hm => hxv m hm⟩
  rw [take_next hk]
  unfold keepV
  rw [List.filter_append, show ([v].filter fun v => !pb v) = [] by simp [hv], List.append_nil]
  refine Eq.trans ?_ (keep_all hall).symm
  conv => rhs; rw [← ht]
  rw [List.take_take, Nat.min_eq_left (by omega)]
theorem DInv.keep {pb : Value → Bool} {vs xs : List Value} {cap i j : Nat} {v : Value} (h : DInv pb vs xs cap i j) (hc : vs.length ≤ cap) (hj : vs[j]? = some v) (hv : pb v = false) : DInv pb vs (xs.set i v) cap (i + 1) (j + 1) := by
  have hjl := (List.getElem?_eq_some_iff.1 hj).1
  have hlt := h.lt
  have hlen := h.len
  refine ⟨by omega, by omega, by rw [List.length_set]; exact hlen, ?_, fun m h1 h2 => ?_⟩
  · rw [take_next hj, List.take_add_one, List.take_set_of_le (Nat.le_refl _), h.low, List.getElem?_set_self (by omega)]
    unfold keepV
    rw [List.filter_append, show ([v].filter fun v => !pb v) = [v] by simp [hv]]
    rfl
  · rw [List.getElem?_set_ne (by omega)]
    exact h.high m (by omega) h2
theorem DInv.skip {pb : Value → Bool} {vs xs : List Value} {cap i j : Nat} {v : Value} (h : DInv pb vs xs cap i j) (hj : vs[j]? = some v) (hv : pb v = true) : DInv pb vs xs cap i (j + 1) := by
  have hjl := (List.getElem?_eq_some_iff.1 hj).1
  have hlt := h.lt
  refine ⟨by omega, by omega, h.len, ?_, fun m h1 h2 => h.high m (by omega) h2⟩
  rw [take_next hj, h.low]
  unfold keepV
  rw [List.filter_append, show ([v].filter fun v => !pb v) = [] by simp [hv], List.append_nil]

/-! ### The walk -/
theorem del_walk (cap g : Nat) (ty : TypeId) (xs vs : List Value) (pb : Value → Bool) (lb : Array Value) (w : World)
    (hg : w.heap[g]? = some (.cells xs.toArray ty (0, 0))) (hx : xs.length = cap) (hn : vs.length ≤ cap) (hcap : cap ≤ maxLen) (ht : xs.take vs.length = vs) (h1 : ∀ v ∈ vs, ∃ ao m c, v = .slice ao m c)
    (k : Int) (hk : (k = -1 ∧ ∀ m v, m < vs.length → vs[m]? = some v → pb v = false) ∨ ∃ (k0 : Nat) (v : Value), k = (k0 : Int) ∧ vs[k0]? = some v ∧ pb v = true ∧ ∀ m v, m < k0 → vs[m]? = some v → pb v = false)
    (hI : Calls Try.prog 187 #[.slice (some ⟨g, 0, none⟩) vs.length cap, .func (.func 143) #[] lb] w fun e w' => e = .returned (.int .i64 k) ∧ Below w.heap.size w w')
    (hC : ∀ v ∈ vs, ∀ w', Near g w w' → Calls Try.prog 143 (#[v] ++ lb) w' fun e w2 => e = .returned (.bool (pb v)) ∧ Below w'.heap.size w' w2) :
    Calls Try.prog 141 #[.slice (some ⟨g, 0, none⟩) vs.length cap, .func (.func 143) #[] lb] w fun e w' => e = .returned (.slice (some ⟨g, 0, none⟩) (keepV pb vs).length cap) ∧ Near g w w' ∧
      ∃ ys : List Value, w'.heap[g]? = some (.cells ys.toArray ty (0, 0)) ∧ ys.length = cap ∧ ys.take (keepV pb vs).length = keepV pb vs := by
  have hgl : g < w.heap.size := (Array.getElem?_eq_some_iff.1 hg).1
  have hm : maxLen = 9223372036854775807 ∨ True := .inr trivial
  have hcap2 : cap ≤ 9223372036854775807 := Nat.le_trans hcap (by simp [maxLen])
  rcases hk with ⟨rfl, hall⟩ | ⟨k0, v0, rfl, hk0, hv0, hall⟩
  · have e : keepV pb vs = vs := by
      have := keep_all (pb := pb) (vs := vs) (j := vs.length) hall
      rwa [List.take_length] at this
    rw [e]
    go_enter Try.func141, Try.ntmps141
    go_wp2_with (go_at_call 187; refine hI.mono ?_; rintro e w' ⟨rfl, hb⟩)
    go_ret
    exact ⟨rfl, Near.of_below hb, xs, (hb.block g hgl).trans hg, hx, ht⟩
  · have hkl := (List.getElem?_eq_some_iff.1 hk0).1
    have hne1 : ((k0 : Int) == -1) = false := beq_eq_false_iff_ne.2 (by omega)
    have I0 := DInv.start hx ht hk0 hv0 hall
    generalize hnn : vs.length = n at *
    go_enter Try.func141, Try.ntmps141
    go_wp2_with (go_at_call 187; refine hI.mono ?_; rintro e w1 ⟨rfl, hb⟩)
    go_loopg [5, 6, 7] n (fun gg s5 s6 _ wr => ∃ (i j : Nat) (ys : List Value), s5 = .int .i64 i ∧ s6 = .int .i64 j ∧ j ≤ n ∧ n - j ≤ gg ∧ i < j ∧ Near g w wr ∧ wr.heap[g]? = some (.cells ys.toArray ty (0, 0)) ∧ DInv pb vs ys cap i j)
    case atStart => exact ⟨k0, k0 + 1, xs, rfl, by go_num, by omega, by omega, by omega, Near.of_below hb, (hb.block g hgl).trans hg, I0⟩
    case round =>
      obtain ⟨i, j, ys, rfl, rfl, hjn, hgg, hij, hN, hh, hD⟩ := hrel
      have D2 : Aside (DInv pb vs ys cap i j) := hD
      have H2 : Aside (wr.heap[g]? = some (.cells ys.toArray ty (0, 0))) := hh
      have N2 : Aside (Near g w wr) := hN
      by_cases hlt : j < n
      · have hltz : (j : Int) < (n : Int) := by omega
        obtain ⟨v, hv⟩ : ∃ v, vs[j]? = some v := ⟨_, List.getElem?_eq_getElem (by omega)⟩
        have hyv : ys[j]? = some v := (hD.high j (Nat.le_refl _) (by omega)).trans hv
        obtain ⟨u, hu⟩ : ∃ u, ys[i]? = some u := ⟨_, List.getElem?_eq_getElem (by rw [hD.len]; omega)⟩
        have cj := cell_of hh hyv
        have ci := cell_of hh hu
        have fi := thaw_of (j := i) hh
        have hcall := hC v (List.mem_of_getElem? hv) wr hN
        have hgr : g < wr.heap.size := (Array.getElem?_eq_some_iff.1 hh).1
        obtain ⟨ao, vm, vc, rfl⟩ := h1 v (List.mem_of_getElem? hv)
        have V1 : Aside (vs[j]? = some (.slice ao vm vc)) := hv
        have U1 : Aside (ys[i]? = some u) := hu
        clear hD hN hv hyv hu hh ci fi
        cases hq : pb (.slice ao vm vc) with
        | false =>
          rw [hq] at hcall
          go_wp2_with (go_at_call 143; refine hcall.mono ?_; rintro e w2 ⟨rfl, hb2⟩; have ci := cell_of ((hb2.block g hgr).trans H2.out) U1.out; have fi := thaw_of (j := i) ((hb2.block g hgr).trans H2.out))
          go_roundg (n - (j + 1))
          case measure => omega
          case rel =>
            refine ⟨i + 1, j + 1, ys.set i (.slice ao vm vc), by go_num, by go_num, by omega, by omega, by omega, (N2.out.below hb2).set, heap_set ((hb2.block g hgr).trans H2.out), D2.out.keep (by omega) V1.out hq⟩
        | true =>
          rw [hq] at hcall
          go_wp2_with (go_at_call 143; refine hcall.mono ?_; rintro e w2 ⟨rfl, hb2⟩)
          go_roundg (n - (j + 1))
          case measure => omega
          case rel =>
            exact ⟨i, j + 1, ys, rfl, by go_num, by omega, by omega, by omega, N2.out.below hb2, (hb2.block g hgr).trans H2.out, D2.out.skip V1.out hq⟩
      · obtain rfl : j = n := by omega
        have hltz : ¬ (j : Int) < (j : Int) := by omega
        have hcl : ∀ ty', (Builtin.clear_ #[61] ty' #[.slice (some ⟨g, i, none⟩) (j - i) (cap - i)]).run Try.prog wr = .ok (.tuple #[]) (wr.setCells g i (List.replicate (j - i) (.slice none 0 0))) :=
          fun ty' => Lib.run_clear_slice wr 61 38 ty' (.slice none 0 0) Try.underlying61 (fun w => Try.zeroValue38 w) rfl rfl g i _ _ (by omega) (fun t ht => by
            rw [cell_of (v := ys[i + t]'(by rw [hD.len]; omega)) hh (List.getElem?_eq_getElem _)]; rfl) (fun t ht => thaw_of hh)
        clear hD hN hh
        go_wp2
        go_ret
        obtain ⟨zs, z1, z2, z3⟩ := heap_sets (List.replicate (j - i) (.slice none 0 0)) i wr ys H2.out
        have hlen : (keepV pb vs).length = i := by
          have := congrArg List.length D2.out.low
          rw [List.length_take, D2.out.len, Nat.min_eq_left (by omega), show vs.take j = vs by rw [← hnn, List.take_length]] at this
          exact this.symm
        rw [hlen]
        refine ⟨rfl, Near.sets _ _ _ N2.out, zs, z1, z2.trans D2.out.len, ?_⟩
        rw [z3, D2.out.low, show vs.take j = vs by rw [← hnn, List.take_length]]
end Go.RR
