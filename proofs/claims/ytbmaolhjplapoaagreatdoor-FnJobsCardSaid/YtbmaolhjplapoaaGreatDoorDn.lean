/- What slices.DeleteFunc does with a row of rows: a walk of its own. No condition. -/
import Derived.Test.YtbmaolhjplapoaaGreatDoorVg
import Derived.WalkKit
import Derived.ProofKit
import Derived.Lib.SliceRun
import Derived.Deep.LoopGhost
import Derived.Test.YtbmaolhjplapoaaGreatDoorRy
import Derived.Test.YtbmaolhjplapoaaGreatDoorR3
set_option linter.unusedVariables false
set_option linter.unusedSimpArgs false
set_option maxRecDepth 100000
namespace Go.RR
open Go Go.Proofs Go.RowKit
structure Near (g : Nat) (w w' : World) : Prop where
 os : w'.os = w.os
 tape : w'.tape = w.tape
 output : w'.output = w.output
 size : w.heap.size ≤ w'.heap.size
 block : ∀ k, k < w.heap.size → k ≠ g → w'.heap[k]? = w.heap[k]?
theorem Near.below {g : Nat} {w w' w2 : World} (h : Near g w w') (hb : Below w'.heap.size w' w2) : Near g w w2 :=
 ⟨hb.os.trans h.os, hb.tape.trans h.tape, hb.output.trans h.output, Nat.le_trans h.size hb.size, fun k hk hne => (hb.block k (Nat.lt_of_lt_of_le hk h.size)).trans (h.block k hk hne)⟩
theorem Near.of_below {g : Nat} {w w2 : World} (hb : Below w.heap.size w w2) : Near g w w2 :=
 ⟨hb.os, hb.tape, hb.output, hb.size, fun k hk _ => hb.block k hk⟩
theorem Near.set {g i : Nat} {w w' : World} {v : Value} (h : Near g w w') : Near g w (w'.setCell ⟨g, i, none⟩ v) :=
 ⟨h.os, h.tape, h.output, by simp only [World.setCell, Array.size_modify]; exact h.size, fun k hk hne => by
  rw [← h.block k hk hne]
  simp only [World.setCell, Array.getElem?_modify]
  rw [if_neg (fun e => hne e.symm)]⟩
theorem heap_set {g i : Nat} {w : World} {v : Value} {xs : List Value} {ty : TypeId} (h : w.heap[g]? = some (.cells xs.toArray ty (0, 0))) : (w.setCell ⟨g, i, none⟩ v).heap[g]? = some (.cells (xs.set i v).toArray ty (0, 0)) := by
 simp only [World.setCell, Array.getElem?_modify, if_pos, h, Option.map_some]
 simp
theorem Near.sets {g : Nat} {w : World} : ∀ (vs : List Value) (i : Nat) (w' : World), Near g w w' → Near g w (w'.setCells g i vs)
 | [], _, _, h => h
 | v :: vs, i, w', h => Near.sets vs (i + 1) _ h.set
theorem heap_sets {g : Nat} {ty : TypeId} : ∀ (vs : List Value) (i : Nat) (w : World) (xs : List Value), w.heap[g]? = some (.cells xs.toArray ty (0, 0)) → ∃ ys : List Value, (w.setCells g i vs).heap[g]? = some (.cells ys.toArray ty (0, 0)) ∧ ys.length = xs.length ∧ ys.take i = xs.take i
 | [], i, w, xs, h => ⟨xs, h, rfl, rfl⟩
 | v :: vs, i, w, xs, h => by
  obtain ⟨ys, h1, h2, h3⟩ := heap_sets vs (i + 1) _ _ (heap_set (v := v) (i := i) h)
  refine ⟨ys, h1, by rw [h2, List.length_set], ?_⟩
  have := congrArg (List.take i) h3
  rw [List.take_take, List.take_take, Nat.min_eq_left (by omega)] at this
  rw [this, List.take_set_of_le (Nat.le_refl _)]
theorem cell_of {g j : Nat} {w : World} {xs : List Value} {ty : TypeId} (h : w.heap[g]? = some (.cells xs.toArray ty (0, 0))) {v : Value} (hv : xs[j]? = some v) : w.cell? ⟨g, j, none⟩ = some v := by
 have := Lies.of_heap (n := xs.length) (xs := xs) h (by simp) j v hv
 simpa using this
theorem thaw_of {g j : Nat} {w : World} {xs : List Value} {ty : TypeId} (h : w.heap[g]? = some (.cells xs.toArray ty (0, 0))) : w.frozen? ⟨g, j, none⟩ = false := by
 unfold World.frozen?
 rw [h]
 simp
def keepV (pb : Value → Bool) (vs : List Value) : List Value := vs.filter fun v => !pb v
structure DInv (pb : Value → Bool) (vs xs : List Value) (cap i j : Nat) : Prop where
 lt : i < j
 le : j ≤ vs.length
 len : xs.length = cap
 low : xs.take i = keepV pb (vs.take j)
 high : ∀ m, j ≤ m → m < vs.length → xs[m]? = vs[m]?
theorem take_next {vs : List Value} {j : Nat} {v : Value} (hv : vs[j]? = some v) : vs.take (j + 1) = vs.take j ++ [v] := by
 rw [List.take_add_one, hv]; rfl
theorem keep_all {pb : Value → Bool} {vs : List Value} {j : Nat} (h : ∀ m v, m < j → vs[m]? = some v → pb v = false) : keepV pb (vs.take j) = vs.take j := by
 unfold keepV
 rw [List.filter_eq_self]
 intro v hv
 obtain ⟨m, hm, he⟩ := List.mem_iff_getElem.1 hv
 rw [List.length_take] at hm
 rw [List.getElem_take] at he
 rw [h m v (by omega) (by rw [List.getElem?_eq_getElem (by omega), he])]
 rfl
theorem DInv.start {pb : Value → Bool} {vs xs : List Value} {cap k : Nat} {v : Value} (hx : xs.length = cap) (ht : xs.take vs.length = vs) (hk : vs[k]? = some v) (hv : pb v = true) (hall : ∀ m v, m < k → vs[m]? = some v → pb v = false) : DInv pb vs xs cap k (k + 1) := by
 have hkl := (List.getElem?_eq_some_iff.1 hk).1
 have hxv : ∀ m, m < vs.length → xs[m]? = vs[m]? := fun m hm => by
  conv => rhs; rw [← ht]
  rw [List.getElem?_take, if_pos hm]
 refine ⟨by omega, by omega, hx, ?_, fun m _ hm => hxv m hm⟩
 rw [take_next hk]
 unfold keepV
 rw [List.filter_append, show ([v].filter fun v => !pb v) = [] by simp [hv], List.append_nil]
 refine Eq.trans ?_ (keep_all hall).symm
 conv => rhs; rw [← ht]
 rw [List.take_take, Nat.min_eq_left (by omega)]
theorem DInv.keep {pb : Value → Bool} {vs xs : List Value} {cap i j : Nat} {v : Value} (h : DInv pb vs xs cap i j) (hc : vs.length ≤ cap) (hj : vs[j]? = some v) (hv : pb v = false) : DInv pb vs (xs.set i v) cap (i + 1) (j + 1) := by
 have hjl := (List.getElem?_eq_some_iff.1 hj).1
 have hlt := h.lt
 have hlen := h.len
 refine ⟨by omega, by omega, by rw [List.length_set]; exact hlen, ?_, fun m h1 h2 => ?_⟩
 ·rw [take_next hj, List.take_add_one, List.take_set_of_le (Nat.le_refl _), h.low, List.getElem?_set_self (by omega)]
  unfold keepV
  rw [List.filter_append, show ([v].filter fun v => !pb v) = [v] by simp [hv]]
  rfl
 ·rw [List.getElem?_set_ne (by omega)]
  exact h.high m (by omega) h2
theorem DInv.skip {pb : Value → Bool} {vs xs : List Value} {cap i j : Nat} {v : Value} (h : DInv pb vs xs cap i j) (hj : vs[j]? = some v) (hv : pb v = true) : DInv pb vs xs cap i (j + 1) := by
 have hjl := (List.getElem?_eq_some_iff.1 hj).1
 have hlt := h.lt
 refine ⟨by omega, by omega, h.len, ?_, fun m h1 h2 => h.high m (by omega) h2⟩
 rw [take_next hj, h.low]
 unfold keepV
 rw [List.filter_append, show ([v].filter fun v => !pb v) = [] by simp [hv], List.append_nil]
theorem del_walk (cap g : Nat) (ty : TypeId) (xs vs : List Value) (pb : Value → Bool) (lb : Array Value) (w : World)
  (hg : w.heap[g]? = some (.cells xs.toArray ty (0, 0))) (hx : xs.length = cap) (hn : vs.length ≤ cap) (hcap : cap ≤ maxLen) (ht : xs.take vs.length = vs) (h1 : ∀ v ∈ vs, ∃ ao m c, v = .slice ao m c)
  (k : Int) (hk : (k = -1 ∧ ∀ m v, m < vs.length → vs[m]? = some v → pb v = false) ∨ ∃ (k0 : Nat) (v : Value), k = (k0 : Int) ∧ vs[k0]? = some v ∧ pb v = true ∧ ∀ m v, m < k0 → vs[m]? = some v → pb v = false)
  (hI : Calls Tryz.prog 108 #[.slice (some ⟨g, 0, none⟩) vs.length cap, .func (.func 150) #[] lb] w fun e w' => e = .returned (.int .i64 k) ∧ Below w.heap.size w w')
  (hC : ∀ v ∈ vs, ∀ w', Near g w w' → Calls Tryz.prog 150 (#[v] ++ lb) w' fun e w2 => e = .returned (.bool (pb v)) ∧ Below w'.heap.size w' w2) :
  Calls Tryz.prog 148 #[.slice (some ⟨g, 0, none⟩) vs.length cap, .func (.func 150) #[] lb] w fun e w' => e = .returned (.slice (some ⟨g, 0, none⟩) (keepV pb vs).length cap) ∧ Near g w w' ∧
   ∃ ys : List Value, w'.heap[g]? = some (.cells ys.toArray ty (0, 0)) ∧ ys.length = cap ∧ ys.take (keepV pb vs).length = keepV pb vs := by
 have hgl : g < w.heap.size := (Array.getElem?_eq_some_iff.1 hg).1
 have hm : maxLen = 9223372036854775807 ∨ True := .inr trivial
 have hcap2 : cap ≤ 9223372036854775807 := Nat.le_trans hcap (by simp [maxLen])
 rcases hk with ⟨rfl, hall⟩ | ⟨k0, v0, rfl, hk0, hv0, hall⟩
 ·have e : keepV pb vs = vs := by
   have := keep_all (pb := pb) (vs := vs) (j := vs.length) hall
   rwa [List.take_length] at this
  rw [e]
  go_enter Tryz.func148, Tryz.ntmps148
  go_wp2_with (go_at_call 108; refine hI.mono ?_; rintro e w' ⟨rfl, hb⟩)
  go_ret
  exact ⟨rfl, Near.of_below hb, xs, (hb.block g hgl).trans hg, hx, ht⟩
 ·have hkl := (List.getElem?_eq_some_iff.1 hk0).1
  have hne1 : ((k0 : Int) == -1) = false := beq_eq_false_iff_ne.2 (by omega)
  have I0 := DInv.start hx ht hk0 hv0 hall
  generalize hnn : vs.length = n at *
  go_enter Tryz.func148, Tryz.ntmps148
  go_wp2_with (go_at_call 108; refine hI.mono ?_; rintro e w1 ⟨rfl, hb⟩)
  go_loopg [5, 6, 7] n (fun gg s5 s6 _ wr => ∃ (i j : Nat) (ys : List Value), s5 = .int .i64 i ∧ s6 = .int .i64 j ∧ j ≤ n ∧ n - j ≤ gg ∧ i < j ∧ Near g w wr ∧ wr.heap[g]? = some (.cells ys.toArray ty (0, 0)) ∧ DInv pb vs ys cap i j)
  case atStart => exact ⟨k0, k0 + 1, xs, rfl, by go_num, by omega, by omega, by omega, Near.of_below hb, (hb.block g hgl).trans hg, I0⟩
  case round =>
   obtain ⟨i, j, ys, rfl, rfl, hjn, hgg, hij, hN, hh, hD⟩ := hrel
   have D2 : Aside (DInv pb vs ys cap i j) := hD
   have H2 : Aside (wr.heap[g]? = some (.cells ys.toArray ty (0, 0))) := hh
   have N2 : Aside (Near g w wr) := hN
   by_cases hlt : j < n
   ·have hltz : (j : Int) < (n : Int) := by omega
    obtain ⟨v, hv⟩ : ∃ v, vs[j]? = some v := ⟨_, List.getElem?_eq_getElem (by omega)⟩
    have hyv : ys[j]? = some v := (hD.high j (Nat.le_refl _) (by omega)).trans hv
    obtain ⟨u, hu⟩ : ∃ u, ys[i]? = some u := ⟨_, List.getElem?_eq_getElem (by rw [hD.len]; omega)⟩
    have cj := cell_of hh hyv
    have ci := cell_of hh hu
    have fi := thaw_of (j := i) hh
    have hcall := hC v (List.mem_of_getElem? hv) wr hN
    have hgr : g < wr.heap.size := (Array.getElem?_eq_some_iff.1 hh).1
    obtain ⟨ao, vm, vc, rfl⟩ := h1 v (List.mem_of_getElem? hv)
    have V1 : Aside (vs[j]? = some (.slice ao vm vc)) := hv
    have U1 : Aside (ys[i]? = some u) := hu
    clear hD hN hv hyv hu hh ci fi
    cases hq : pb (.slice ao vm vc) with
    | false =>
     rw [hq] at hcall
     go_wp2_with (go_at_call 150; refine hcall.mono ?_; rintro e w2 ⟨rfl, hb2⟩; have ci := cell_of ((hb2.block g hgr).trans H2.out) U1.out; have fi := thaw_of (j := i) ((hb2.block g hgr).trans H2.out))
     go_roundg (n - (j + 1))
     case measure => omega
     case rel =>
      refine ⟨i + 1, j + 1, ys.set i (.slice ao vm vc), by go_num, by go_num, by omega, by omega, by omega, (N2.out.below hb2).set, heap_set ((hb2.block g hgr).trans H2.out), D2.out.keep (by omega) V1.out hq⟩
    | true =>
     rw [hq] at hcall
     go_wp2_with (go_at_call 150; refine hcall.mono ?_; rintro e w2 ⟨rfl, hb2⟩)
     go_roundg (n - (j + 1))
     case measure => omega
     case rel =>
      exact ⟨i, j + 1, ys, rfl, by go_num, by omega, by omega, by omega, N2.out.below hb2, (hb2.block g hgr).trans H2.out, D2.out.skip V1.out hq⟩
   ·obtain rfl : j = n := by omega
    have hltz : ¬ (j : Int) < (j : Int) := by omega
    have hcl : ∀ ty', (Builtin.clear_ #[53] ty' #[.slice (some ⟨g, i, none⟩) (j - i) (cap - i)]).run Tryz.prog wr = .ok (.tuple #[]) (wr.setCells g i (List.replicate (j - i) (.slice none 0 0))) :=
     fun ty' => Lib.run_clear_slice wr 53 42 ty' (.slice none 0 0) Tryz.underlying53 (fun w => Tryz.zeroValue42 w) rfl rfl g i _ _ (by omega) (fun t ht => by
      rw [cell_of (v := ys[i + t]'(by rw [hD.len]; omega)) hh (List.getElem?_eq_getElem _)]; rfl) (fun t ht => thaw_of hh)
    clear hD hN hh
    go_wp2
    go_ret
    obtain ⟨zs, z1, z2, z3⟩ := heap_sets (List.replicate (j - i) (.slice none 0 0)) i wr ys H2.out
    have hlen : (keepV pb vs).length = i := by
     have := congrArg List.length D2.out.low
     rw [List.length_take, D2.out.len, Nat.min_eq_left (by omega), show vs.take j = vs by rw [← hnn, List.take_length]] at this
     exact this.symm
    rw [hlen]
    refine ⟨rfl, Near.sets _ _ _ N2.out, zs, z1, z2.trans D2.out.len, ?_⟩
    rw [z3, D2.out.low, show vs.take j = vs by rw [← hnn, List.take_length]]
end Go.RR
namespace Go.RR
open Go Go.Proofs Go.RowKit
abbrev rowsE : ET := .one (.ls .i64)
abbrev picA (a1 a2 : Int) (a3 : Nat → Int) : A := .rc [.v (.int .i8 a1), .v (.int .i8 a2), .fa 144 .u8 a3]
def headOf (r : List Int) : Int := r.getD 0 0
def bareR (f : Nat → Int) (r : List Int) : Bool := f (Int.toNat (headOf r)) == 0
def validR (r : List Int) : Bool := inB 0 r.length && inB (headOf r) 144
def dropR (q : List Int → Bool) (l : List (List Int)) : List (List Int) := l.filter fun r => !q r
noncomputable def s_gDeleteFunc (a0 : List (List Int)) (a1 a2 : Int) (a3 : Nat → Int) : Option (List (List Int) × Int × Int × (Nat → Int)) :=
 cond (Nat.blt 0 a0.length && (Nat.ble a0.length 1000000 && a0.all validR)) (some (dropR (bareR a3) a0, a1, a2, a3)) none
theorem closure_ok {r : List Int} {f : Nat → Int} (a1 a2 : Int) (h : validR r = true) : s_q11 r a1 a2 f = some (bareR f r) := by
 unfold validR at h
 rw [Bool.and_eq_true] at h
 unfold s_q11
 rw [show inB 0 (List.length r) = true from h.1, show inB (List.getD r 0 0) 144 = true from h.2]
 rfl
theorem all_getD' {l : List (List Int)} (h : l.all validR = true) {i : Nat} (hi : i < l.length) : validR (l.getD i []) = true :=
 List.all_eq_true.1 h _ (getD_mem' (d := []) hi)
theorem index_ok {l : List (List Int)} {f : Nat → Int} (a1 a2 : Int) (hl : l.length ≤ 1000000) (h : l.all validR = true) :
  ∃ k : Int, s_q03 l a1 a2 f = some k ∧ ((k = -1 ∧ ∀ m, m < l.length → bareR f (l.getD m []) = false) ∨ ∃ k0 : Nat, k = (k0 : Int) ∧ k0 < l.length ∧ bareR f (l.getD k0 []) = true ∧ ∀ m, m < k0 → bareR f (l.getD m []) = false) := by
 have hs : ∀ i, i < l.length → f_q03_n2 (l.length : Nat) (i : Int) l a1 a2 f = some (cond (bareR f (l.getD i [])) (.inr (i : Int)) (.inl (((l.length : Nat) : Int), ((i + 1 : Nat) : Int), l, a1, a2, f))) := by
  intro i hi
  unfold f_q03_n2
  rw [lt_true hi, inB_nat hi, toNat_nat, closure_ok a1 a2 (all_getD' h hi), IntWalk.i64_in ((i : Int) + 1) (by omega)]
  simp only [cond_true, Option.bind]
  cases bareR f (l.getD i []) <;> rfl
 have he : f_q03_n2 (l.length : Nat) (l.length : Nat) l a1 a2 f = some (.inr (-1)) := by
  unfold f_q03_n2
  rw [lt_neg, cond_false]
 obtain ⟨r, h1, _, h3⟩ := run_idx (step := fun x => f_q03_n2 x.1 x.2.1 x.2.2.1 x.2.2.2.1 x.2.2.2.2.1 x.2.2.2.2.2) l.length (fun i => (((l.length : Nat) : Int), (i : Int), l, a1, a2, f)) (fun i => bareR f (l.getD i [])) hs he l.length 0 FU (by omega) (FU_big (pow_big (by omega)))
 refine ⟨r, h1, ?_⟩
 cases hf : (List.range' 0 l.length).find? (fun i => bareR f (l.getD i [])) with
 | none =>
  rw [hf] at h3
  refine .inl ⟨h3, fun m hm => ?_⟩
  have := List.find?_eq_none.1 hf m (List.mem_range'_1.2 ⟨by omega, by omega⟩)
  simpa using this
 | some k0 =>
  rw [hf] at h3
  have hm := List.mem_of_find?_eq_some hf
  have hp := List.find?_some hf
  refine .inr ⟨k0, h3, by have := List.mem_range'_1.1 hm; omega, hp, fun m hm' => ?_⟩
  obtain ⟨_, us, ts, e, hb⟩ := List.find?_eq_some_iff_append.1 hf
  have hmem : m ∈ us := by
   have e2 : (List.range' 0 l.length).take us.length = us := by rw [e]; simp
   have e3 : (List.range' 0 l.length)[us.length]? = some k0 := by rw [e]; simp
   have hk : us.length = k0 := by
    rw [List.getElem?_range'] at e3
    ·simpa using e3
    ·have := congrArg List.length e
     simp at this
     omega
   have e4 : us[m]? = some m := by
    rw [← e2, List.getElem?_take, if_pos (by omega), List.getElem?_range' (by have := List.mem_range'_1.1 hm; omega)]
    simp
   exact List.mem_of_getElem? e4
  have := hb m hmem
  simpa using this
theorem rows_len {I : Inn} {l : List (List Int)} {xs : List Value} (h : RowsC I rowsE l xs) : xs.length = l.length := by
 have := h.len
 rw [show rowsE.sz = 1 from rfl, Nat.mul_one] at this
 exact this
theorem rows_at {I : Inn} : ∀ {l : List (List Int)} {xs : List Value}, RowsC I rowsE l xs → ∀ (i : Nat) (v : Value), xs[i]? = some v → I .i64 (l.getD i []) v
 | [], xs, h, i, v, hv => by
  have h : xs = [] := h
  subst h; cases hv
 | x :: l, xs, h, i, v, hv => by
  obtain ⟨c1, c2, rfl, ⟨u, rfl, hu⟩, h2⟩ := h
  cases i with
  | zero => cases hv; exact hu
  | succ i => exact rows_at h2 i v hv
theorem rows_filter {pb : Value → Bool} {q : List Int → Bool} : ∀ {l : List (List Int)} {xs : List Value}, xs.length = l.length → (∀ (i : Nat) (v : Value), xs[i]? = some v → pb v = q (l.getD i [])) →
  ((dropR q l).length = (keepV pb xs).length) ∧ ∀ I : Inn, RowsC I rowsE l xs → RowsC I rowsE (dropR q l) (keepV pb xs)
 | [], [], _, _ => ⟨rfl, fun I h => h⟩
 | [], x :: xs, h, _ => by simp at h
 | x :: l, [], h, _ => by simp at h
 | x :: l, v :: xs, h, hq => by
  have hlen : xs.length = l.length := by simpa using h
  obtain ⟨ih1, ih2⟩ := rows_filter hlen fun i u hu => hq (i + 1) u hu
  have h0 : pb v = q x := hq 0 v rfl
  cases hx : q x with
  | true =>
   rw [hx] at h0
   have e1 : dropR q (x :: l) = dropR q l := by simp [dropR, List.filter_cons, hx]
   have e2 : keepV pb (v :: xs) = keepV pb xs := by simp [keepV, List.filter_cons, h0]
   rw [e1, e2]
   exact ⟨ih1, fun I hI => by
    obtain ⟨c1, c2, e, ⟨u, rfl, hu⟩, h2⟩ := hI
    obtain ⟨rfl, rfl⟩ := List.cons.inj e
    exact ih2 I h2⟩
  | false =>
   rw [hx] at h0
   have e1 : dropR q (x :: l) = x :: dropR q l := by simp [dropR, List.filter_cons, hx]
   have e2 : keepV pb (v :: xs) = v :: keepV pb xs := by simp [keepV, List.filter_cons, h0]
   rw [e1, e2]
   exact ⟨by simp only [List.length_cons, ih1], fun I hI => by
    obtain ⟨c1, c2, e, ⟨u, rfl, hu⟩, h2⟩ := hI
    obtain ⟨rfl, rfl⟩ := List.cons.inj e
    exact ⟨[v], keepV pb xs, rfl, ⟨v, rfl, hu⟩, ih2 I h2⟩⟩
noncomputable def h_gDeleteFunc : HCon := fun xs hp => match xs, hp with
 | [.sl 0, .clo 150 [.ptr 1 [] 0]], [(0, some ⟨true, .arr (.one (.ls .i64)) a0⟩), (1, some ⟨true, .box (.rc [.v (.int .i8 a1), .v (.int .i8 a2), .fa 144 .u8 a3])⟩)] => .one (List (List Int) × Int × Int × (Nat → Int)) (s_gDeleteFunc a0 a1 a2 a3) (fun r => ⟨.a (.sl 2), [(0, none), (1, some ⟨true, .box (.rc [.v (.int .i8 r.2.1), .v (.int .i8 r.2.2.1), .fa 144 .u8 r.2.2.2])⟩), (2, some ⟨true, .arr (.one (.ls .i64)) r.1⟩)], 3⟩)
 | _, _ => HAns.fail
def saysV (w : World) (f : Nat → Int) : Value → Bool
 | .slice (some a) _ _ => match w.cell? a with
  | some (.int _ x) => f (Int.toNat x) == 0
  | _ => false
 | _ => false
theorem saysV_ok {w : World} {O : Nat → Prop} {lo : Nat} {f : Nat → Int} {r : List Int} {v : Value} (h : Innr w O lo .i64 r v) (hv : validR r = true) : saysV w f v = bareR f r := by
 obtain ⟨ao, cap, rfl, _, h3⟩ := h
 unfold validR at hv
 rw [Bool.and_eq_true] at hv
 cases r with
 | nil => exact absurd hv.1 (by decide)
 | cons x r =>
  obtain ⟨g, o, rfl, _, _, _, hl⟩ := h3 (by simp)
  have := hl 0 (.int .i64 x) rfl
  rw [Nat.add_zero] at this
  unfold saysV
  simp only [this]
  rfl
theorem cells_pic {w : World} {a1 a2 : Int} {a3 : Nat → Int} {σ : Nat → Value} : CellsR w (picA a1 a2 a3) (enc σ (picA a1 a2 a3)) :=
 ⟨[.int .i8 a1], _, rfl, ⟨rfl, rfl⟩, [.int .i8 a2], _, rfl, ⟨rfl, rfl⟩, _, [], rfl, rfl, rfl⟩
theorem res_bool {w w' : World} {b : Bool} {v : Value} (h : ResR w w' (.one (.v (.bool b))) v) : v = .bool b := (h.2.1 0 _ _ rfl rfl).2
theorem res_int {w w' : World} {k : Int} {v : Value} (h : ResR w w' (.one (.v (.int .i64 k))) v) : v = .int .i64 k := (h.2.1 0 _ _ rfl rfl).2
end Go.RR
namespace Go.RR
open Go Go.Proofs Go.RowKit
noncomputable def delHp (a0 : List (List Int)) (a1 a2 : Int) (a3 : Nat → Int) : List (Nat × Option Blk) := [(0, some ⟨true, .arr (.one (.ls .i64)) a0⟩), (1, some ⟨true, .box (picA a1 a2 a3)⟩)]
noncomputable def delOut (r : List (List Int)) (a1 a2 : Int) (a3 : Nat → Int) : HOut := ⟨.a (.sl 2), [(0, none), (1, some ⟨true, .box (picA a1 a2 a3)⟩), (2, some ⟨true, .arr (.one (.ls .i64)) r⟩)], 3⟩
theorem del_core (a0 : List (List Int)) (a1 a2 : Int) (a3 : Nat → Int) (h0 : 0 < a0.length) (hbig : a0.length ≤ 1000000) (hval : a0.all validR = true)
  (w : World) (lo : Nat) (hlo : lo ≤ w.heap.size) (σ : Nat → Value) (hJ : JJ Tryz.prog w) (hO : ∀ g, Owned (lk (delHp a0 a1 a2 a3)) σ g → ¬ TabBlk Tryz.prog g ∧ lo ≤ g)
  (hgiv : Given (swH Tryz.prog w 0 (lk (delHp a0 a1 a2 a3)) σ lo hlo [] hJ hO) (lk (delHp a0 a1 a2 a3)) σ w) :
  Calls Tryz.prog 148 #[σ 0, .func (.func 150) #[] #[ptrv (σ 1) 0]] w fun en w' => ∃ z, en = .returned z ∧ ∃ σ', Back (swH Tryz.prog w 0 (lk (delHp a0 a1 a2 a3)) σ lo hlo [] hJ hO) (lk (delHp a0 a1 a2 a3)) σ 2 w' (delOut (dropR (bareR a3) a0) a1 a2 a3) z σ' := by
 have l0 : lk (delHp a0 a1 a2 a3) 0 = some (some ⟨true, .arr (.one (.ls .i64)) a0⟩) := rfl
 have l1 : lk (delHp a0 a1 a2 a3) 1 = some (some ⟨true, .box (picA a1 a2 a3)⟩) := rfl
 have l2 : ∀ b, b ≠ 0 → b ≠ 1 → lk (delHp a0 a1 a2 a3) b = none := fun b h1 h2 => by
  unfold delHp
  simp only [lk]
  rw [beqF h1, beqF h2]; rfl
 generalize hH : lk (delHp a0 a1 a2 a3) = H at *
 obtain ⟨xs, hrow, hown⟩ := hgiv.blk 0 _ l0
 obtain ⟨_, g1, ty1, s1, hM1, hh1⟩ := hgiv.blk 1 _ l1
 rcases hown with ⟨hz, _⟩ | ⟨g, cap, cur, ty, s0, hM0, hcap0, hh0, hle, hmax, hsz, htk⟩
 ·have hz : List.length (α := List Int) a0 = 0 := hz
  omega
 have hsz : cur.size = cap := by rw [hsz]; exact Nat.mul_one _
 have htk : cur.toList.take a0.length = xs := by rw [← htk]; congr 1; exact (Nat.mul_one _).symm
 have hxl := rows_len hrow
 have hle' : xs.length ≤ cap := by rw [hxl]; exact hle
 have s0' : σ 0 = .slice (some ⟨g, 0, none⟩) xs.length cap := by rw [s0, hxl]; rfl
 have own0 : ownG (σ 0) = some g := by rw [s0]; simp only [ownG]; rw [if_neg (by omega)]
 have own1 : ownG (σ 1) = some g1 := by rw [s1]; rfl
 have hO0 : Owned H σ g := ⟨0, _, l0, own0⟩
 have hO1 : Owned H σ g1 := ⟨1, _, l1, own1⟩
 have hne : g1 ≠ g := fun e => hgiv.sep 0 1 _ _ l0 l1 (by omega) g own0 (by rw [own1, e])
 have hgl : g < w.heap.size := (Array.getElem?_eq_some_iff.1 hh0).1
 have hg1l : g1 < w.heap.size := (Array.getElem?_eq_some_iff.1 hh1).1
 have hg0 : w.heap[g]? = some (.cells cur.toList.toArray ty (0, 0)) := by rw [hh0]
 have hat := fun i v (hv : xs[i]? = some v) => rows_at hrow i v hv
 have hil : ∀ (i : Nat) (v : Value), xs[i]? = some v → i < a0.length := fun i v hv => by rw [← hxl]; exact (List.getElem?_eq_some_iff.1 hv).1
 have hpb : ∀ (i : Nat) (v : Value), xs[i]? = some v → saysV w a3 v = bareR a3 (a0.getD i []) := fun i v hv => saysV_ok (hat i v hv) (all_getD' hval (hil i v hv))
 have keepI : ∀ w', Near g w w' → ∀ (O : Nat → Prop), (∀ k, k < w.heap.size → ¬ Owned H σ k → ¬ O k) → ∀ (lo' : Nat) (r : List Int) (v : Value), Innr w (Owned H σ) lo' .i64 r v → Innr w' O lo' .i64 r v := fun w' hN O hO' lo' r v hv =>
  hv.keep hN.size fun k hk hn => ⟨hN.block k hk (fun e => hn (e ▸ hO0)), hO' k hk hn⟩
 have picV : ∀ w', Near g w w' → CellsR w' (.ref (picA a1 a2 a3)) [ptrv (σ 1) 0] := fun w' hN => by
  refine ⟨g1, 0, enc σ (picA a1 a2 a3), by rw [s1]; rfl, Nat.lt_of_lt_of_le hg1l hN.size, cells_pic, ?_⟩
  have hh : w'.heap[g1]? = some (.cells (enc σ (picA a1 a2 a3)).toArray ty1 (0, 0)) := (hN.block g1 hg1l hne).trans hh1
  exact Lies.of_heap (n := (enc σ (picA a1 a2 a3)).length) hh (by simp)
 have jj : ∀ w', Near g w w' → JJ Tryz.prog w' := fun w' hN => JJ_keep hJ hN.size fun k hk => hN.block k (JJ_lt hJ hk) fun e => (hO g hO0).1 (e ▸ hk)
 obtain ⟨k, hk1, hk2⟩ := index_ok (f := a3) a1 a2 hbig hval
 have near0 : Near g w w := ⟨rfl, rfl, rfl, Nat.le_refl _, fun _ _ _ => rfl⟩
 have hI : Calls Tryz.prog 108 #[.slice (some ⟨g, 0, none⟩) xs.length cap, .func (.func 150) #[] #[ptrv (σ 1) 0]] w fun e w' => e = .returned (.int .i64 k) ∧ Below w.heap.size w w' := by
  have hs := f_q03_sound [.lst (.one (.ls .i64)) a0, .clo 150 [.ref (picA a1 a2 a3)]] k hk1 w [.slice (some ⟨g, 0, none⟩) xs.length cap, .func (.func 150) #[] #[ptrv (σ 1) 0]] hJ ?_
  ·refine hs.mono ?_
   rintro e w' ⟨v, rfl, hv, hb⟩
   exact ⟨by rw [res_int hv], hb⟩
  ·refine ⟨_, _, rfl, ⟨xs, some ⟨g, 0, none⟩, cap, by rw [hxl]; rfl, hle, hrow.imp fun _ _ _ h => h.any, fun _ => ⟨g, 0, rfl, hgl, Lies.of_heap hh0 htk⟩⟩, _, [], rfl, ?_, rfl⟩
   exact ⟨rfl, [ptrv (σ 1) 0], rfl, [ptrv (σ 1) 0], [], rfl, picV w near0, rfl⟩
 have hC : ∀ v ∈ xs, ∀ w', Near g w w' → Calls Tryz.prog 150 (#[v] ++ #[ptrv (σ 1) 0]) w' fun e w2 => e = .returned (.bool (saysV w a3 v)) ∧ Below w'.heap.size w' w2 := by
  intro v hv w' hN
  obtain ⟨i, hi⟩ := List.getElem?_of_mem hv
  have hr := hat i v hi
  have hvr := all_getD' hval (hil i v hi)
  rw [hpb i v hi]
  generalize a0.getD i [] = r at hr hvr
  obtain ⟨ao, vc, rfl, h2, h3⟩ := keepI w' hN (fun _ => False) (fun _ _ _ h => h) _ r v hr
  have hs := f_q11_sound [.lst (.one (.i .i64)) r, .ref (picA a1 a2 a3)] (bareR a3 r) (closure_ok a1 a2 hvr) w' [.slice ao r.length vc, ptrv (σ 1) 0] (jj w' hN) ?_
  ·refine hs.mono ?_
   rintro e w2 ⟨v, rfl, hv, hb⟩
   exact ⟨by rw [res_bool hv], hb⟩
  ·refine ⟨_, _, rfl, ⟨r.map (Value.int .i64), ao, vc, rfl, h2, rows_i64_of r, fun hne => ?_⟩, _, [], rfl, picV w' hN, rfl⟩
   obtain ⟨gr, o, e, _, hgr, _, hl⟩ := h3 hne
   exact ⟨gr, o, e, hgr, hl⟩
 have hsl : ∀ v ∈ xs, ∃ ao m c, v = .slice ao m c := fun v hv => by
  obtain ⟨i, hi⟩ := List.getElem?_of_mem hv
  obtain ⟨ao, vc, e, _⟩ := hat i v hi
  exact ⟨ao, _, vc, e⟩
 have hk3 : (k = -1 ∧ ∀ m v, m < xs.length → xs[m]? = some v → saysV w a3 v = false) ∨ ∃ (k0 : Nat) (v : Value), k = (k0 : Int) ∧ xs[k0]? = some v ∧ saysV w a3 v = true ∧ ∀ m v, m < k0 → xs[m]? = some v → saysV w a3 v = false := by
  rcases hk2 with ⟨e, ha⟩ | ⟨k0, e, hl, ht, ha⟩
  ·exact .inl ⟨e, fun m v hm hv => by rw [hpb m v hv]; exact ha m (by omega)⟩
  ·have hx := List.getElem?_eq_getElem (l := xs) (i := k0) (by omega)
   exact .inr ⟨k0, _, e, hx, by rw [hpb k0 _ hx]; exact ht, fun m v hm hv => by rw [hpb m v hv]; exact ha m hm⟩
 have hwalk := del_walk cap g ty cur.toList xs (saysV w a3) #[ptrv (σ 1) 0] w hg0 (by simpa using hsz) hle' hmax (by rw [hxl]; exact htk) hsl k hk3 hI hC
 obtain ⟨hfl, hfr⟩ := rows_filter (pb := saysV w a3) (q := bareR a3) hxl hpb
 rw [s0']
 refine hwalk.mono ?_
 rintro en w' ⟨rfl, hN, ys, hy1, hy2, hy3⟩
 have hlen := List.length_filter_le (fun v => !saysV w a3 v) xs
 have hlen : (keepV (saysV w a3) xs).length ≤ xs.length := hlen
 generalize hz : Value.slice (some ⟨g, 0, none⟩) (keepV (saysV w a3) xs).length cap = z
 have ownz : ownG z = some g := by rw [← hz]; simp only [ownG]; rw [if_neg (by omega)]
 refine ⟨z, rfl, setF σ 2 z, ?_⟩
 have hH' : ∀ b, appH H (delOut (dropR (bareR a3) a0) a1 a2 a3).hp b = if b = 0 then some none else if b = 1 then some (some ⟨true, .box (picA a1 a2 a3)⟩) else if b = 2 then some (some ⟨true, .arr (.one (.ls .i64)) (dropR (bareR a3) a0)⟩) else H b := fun b => rfl
 have hl' : ∀ b, lk (delOut (dropR (bareR a3) a0) a1 a2 a3).hp b = if b = 0 then some none else if b = 1 then some (some ⟨true, .box (picA a1 a2 a3)⟩) else if b = 2 then some (some ⟨true, .arr (.one (.ls .i64)) (dropR (bareR a3) a0)⟩) else none := fun b => by
  unfold delOut
  simp only [lk]
  by_cases e0 : b = 0
  ·subst e0; rfl
  ·by_cases e1 : b = 1
   ·subst e1; rfl
   ·by_cases e2 : b = 2
    ·subst e2; rfl
    ·rw [beqF e0, beqF e1, beqF e2, if_neg e0, if_neg e1, if_neg e2]; rfl
 have e2 : setF σ 2 z 2 = z := setF_same _ _ _
 have eo : ∀ b, b ≠ 2 → setF σ 2 z b = σ b := fun b hb => setF_other _ _ hb
 have owned' : ∀ k, Owned (appH H (delOut (dropR (bareR a3) a0) a1 a2 a3).hp) (setF σ 2 z) k → Owned H σ k := by
  rintro k ⟨b, c, q1, q2⟩
  rw [hH'] at q1
  by_cases b0 : b = 0
  ·rw [if_pos b0] at q1; cases q1
  ·rw [if_neg b0] at q1
   by_cases b1 : b = 1
   ·subst b1
    rw [eo 1 (by omega)] at q2
    exact ⟨1, _, l1, q2⟩
   ·rw [if_neg b1] at q1
    by_cases b2 : b = 2
    ·subst b2
     rw [e2, ownz] at q2
     cases q2
     exact hO0
    ·rw [if_neg b2, l2 b b0 b1] at q1; cases q1
 have ownarr : ∀ W : SW, W.M g → OwnArr W w' z 1 (dropR (bareR a3) a0).length (keepV (saysV w a3) xs) := fun W hM =>
  .inr ⟨g, cap, ys.toArray, ty, by rw [← hz, hfl], hM, hcap0, hy1, by omega, hmax, by simpa using hy2, by rw [Nat.mul_one, hfl]; exact hy3⟩
 refine ⟨⟨hN.os, hN.tape, hN.output, hN.size, fun k hk hM => hN.block k hk fun e => hM (.inr (e ▸ hO0))⟩, fun b hb => ?_, fun b => ?_, fun b hb => ?_, ?_, fun b x hb => ?_, fun b c hb => ?_, fun b blk hb => ?_, fun b b' c c' q1 q2 hn k hk => ?_⟩
 ·refine eo b fun e => ?_
  subst e
  rw [l2 2 (by omega) (by omega)] at hb; cases hb
 ·by_cases hb : b = 2
  ·subst hb; rw [e2, ← hz]; rfl
  ·rw [eo b hb]; exact hgiv.one b
 ·rw [hH']
  by_cases b0 : b = 0
  ·rw [if_pos b0]; exact ⟨rfl, fun blk q => by cases q⟩
  ·rw [if_neg b0]
   by_cases b1 : b = 1
   ·subst b1
    rw [if_pos rfl]
    exact ⟨rfl, fun blk q => ⟨blk, by rw [l1]; exact q, fun _ _ hd => hd⟩⟩
   ·rw [l2 b b0 b1] at hb; cases hb
 ·refine ⟨?_, by show (appH H _ 2).isSome = true; rw [hH']; rfl⟩
  show z = val (setF σ 2 z) (.sl 2)
  rw [val_sl, e2]
 ·rw [hl'] at hb
  by_cases b0 : b = 0
  ·subst b0; exact .inl ⟨_, l0⟩
  ·rw [if_neg b0] at hb
   by_cases b1 : b = 1
   ·subst b1; exact .inl ⟨_, l1⟩
   ·rw [if_neg b1] at hb
    by_cases b2 : b = 2
    ·subst b2; exact .inr ⟨Nat.le_refl _, Nat.lt_succ_self _⟩
    ·rw [if_neg b2] at hb; cases hb
 ·rw [hl']
  by_cases b0 : b = 0
  ·rw [if_pos b0]; rfl
  ·rw [if_neg b0]
   by_cases b1 : b = 1
   ·rw [if_pos b1]; rfl
   ·rw [l2 b b0 b1] at hb; cases hb
 ·rw [hl'] at hb
  by_cases b0 : b = 0
  ·rw [if_pos b0] at hb; cases hb
  ·rw [if_neg b0] at hb
   by_cases b1 : b = 1
   ·subst b1
    rw [if_pos rfl] at hb
    cases hb
    refine ⟨rfl, .inl rfl, ⟨⟨rfl, rfl, trivial, trivial⟩, g1, ty1, by rw [eo 1 (by omega)]; exact s1, hM1, (hN.block g1 hg1l hne).trans hh1⟩⟩
   ·rw [if_neg b1] at hb
    by_cases b2 : b = 2
    ·subst b2
     rw [if_pos rfl] at hb
     cases hb
     rw [e2]
     refine ⟨rfl, .inr ⟨0, rowsE, a0, dropR (bareR a3) a0, xs, keepV (saysV w a3) xs, l0, by rw [hxl]; exact (Nat.mul_one _).symm, .inr ⟨g, cap, cur, ty, s0, hM0, hcap0, hh0, hle, hmax, by rw [hsz]; exact (Nat.mul_one _).symm, by rw [← htk]; congr 1; exact Nat.mul_one _⟩, rfl, ownarr _ hM0, hfr⟩, ?_⟩
     refine ⟨keepV (saysV w a3) xs, ?_, ownarr _ hM0⟩
     refine (hfr _ hrow).imp fun kk r v hv => ?_
     exact hv.keep hN.size fun k hk hn => ⟨hN.block k hk (fun e => hn (e ▸ hO0)), fun ho => hn (owned' k ho)⟩
    ·rw [if_neg b2] at hb; cases hb
 ·rw [hH'] at q1 q2
  have cases3 : ∀ b c, (if b = 0 then some none else if b = 1 then some (some (⟨true, .box (picA a1 a2 a3)⟩ : Blk)) else if b = 2 then some (some ⟨true, .arr (.one (.ls .i64)) (dropR (bareR a3) a0)⟩) else H b) = some (some ⟨true, c⟩) → (b = 1 ∨ b = 2) := by
   intro b c q
   by_cases b0 : b = 0
   ·rw [if_pos b0] at q; cases q
   ·by_cases b1 : b = 1
    ·exact .inl b1
    ·by_cases b2 : b = 2
     ·exact .inr b2
     ·rw [if_neg b0, if_neg b1, if_neg b2, l2 b b0 b1] at q; cases q
  rcases cases3 b c q1 with rfl | rfl <;> rcases cases3 b' c' q2 with rfl | rfl
  ·exact absurd rfl hn
  ·rw [eo 1 (by omega), own1] at hk
   rw [e2, ownz]
   cases hk
   exact fun e => hne (Option.some.inj e).symm
  ·rw [e2, ownz] at hk
   rw [eo 1 (by omega), own1]
   cases hk
   exact fun e => hne (Option.some.inj e)
  ·exact absurd rfl hn
theorem del_some {a0 : List (List Int)} {a1 a2 : Int} {a3 : Nat → Int} {r : List (List Int) × Int × Int × (Nat → Int)} (h : s_gDeleteFunc a0 a1 a2 a3 = some r) : (0 < a0.length ∧ a0.length ≤ 1000000 ∧ a0.all validR = true) ∧ r = (dropR (bareR a3) a0, a1, a2, a3) := by
 unfold s_gDeleteFunc at h
 cases hc : Nat.blt 0 a0.length && (Nat.ble a0.length 1000000 && a0.all validR) with
 | false => rw [hc] at h; cases h
 | true =>
  rw [hc] at h
  cases h
  rw [Bool.and_eq_true, Bool.and_eq_true, Nat.ble_eq] at hc
  exact ⟨⟨Nat.le_of_ble_eq_true hc.1, hc.2.1, hc.2.2⟩, rfl⟩
theorem f_gDeleteFunc_sound : HSound Tryz.prog 148 h_gDeleteFunc := by
 intro xs hp
 suffices h : ∀ z, h_gDeleteFunc xs hp = z → ∀ r : z.α, z.c = some r → ∀ (w : World) (lo : Nat) (hlo : lo ≤ w.heap.size) (σ : Nat → Value) (hJ : JJ Tryz.prog w) (hO : ∀ g, Owned (lk hp) σ g → ¬ TabBlk Tryz.prog g ∧ lo ≤ g), (∀ b, b < hp.length ↔ (lk hp b).isSome = true) → WfL (lk hp) xs → Given (swH Tryz.prog w 0 (lk hp) σ lo hlo [] hJ hO) (lk hp) σ w →
   Calls Tryz.prog 148 (xs.map (val σ)).toArray w fun en w' => ∃ q, en = .returned q ∧ ∃ σ', Back (swH Tryz.prog w 0 (lk hp) σ lo hlo [] hJ hO) (lk hp) σ hp.length w' (z.out r) q σ' from h _ rfl
 intro z hz
 unfold h_gDeleteFunc at hz
 split at hz
 ·rename_i a0 a1 a2 a3
  subst hz
  intro r hr w lo hlo σ hJ hO hdom hwf hgiv
  obtain ⟨⟨c1, c2, c3⟩, e⟩ := del_some hr
  have e : r = (dropR (bareR a3) a0, a1, a2, a3) := e
  subst e
  exact del_core a0 a1 a2 a3 c1 c2 c3 w lo hlo σ hJ hO hgiv
 ·subst hz
  intro r hr
  cases hr
end Go.RR
