/- Rows that are made of one number, again and again: a walk of its own. -/
import Derived.Test.YtkohnhkehedflaaVc
import Derived.WalkKit
import Derived.ProofKit
import Derived.WalkSpells
import Derived.Laws.CopyOwn
import Derived.LoopN
set_option linter.unusedVariables false
set_option linter.unusedSimpArgs false
set_option maxRecDepth 100000
set_option maxHeartbeats 400000
namespace Go.RR
open Go Go.Proofs Go.RowKit
theorem mul64_one (c : Int) (h : 0 ≤ c ∧ c ≤ 4) (w : World) : Calls Try.prog 208 #[.int .u64 1, .int .u64 c] w fun e w' => e = .returned (.tuple #[.int .u64 0, .int .u64 c]) ∧ w' = w := by
 obtain rfl | rfl | rfl | rfl | rfl : c = 0 ∨ c = 1 ∨ c = 2 ∨ c = 3 ∨ c = 4 := by omega
 all_goals
  go_enter Try.func208, Try.ntmps208
  go_wp2
  go_ret2
  exact ⟨rfl, rfl⟩
theorem mul_one' (c : Int) (h : 0 ≤ c ∧ c ≤ 4) (w : World) : Calls Try.prog 172 #[.int .u64 1, .int .u64 c] w fun e w' => e = .returned (.tuple #[.int .u64 0, .int .u64 c]) ∧ w' = w := by
 have hm := mul64_one c h
 go_enter Try.func172, Try.ntmps172
 go_wp2_with (go_at_call 208; refine (hm _).mono ?_; rintro e w' ⟨rfl, rfl⟩)
 go_ret2
 exact ⟨rfl, rfl⟩
theorem lies_add {w : World} {g o : Nat} {cs : List Value} (h : Lies w g o cs) : ∀ j v, cs[j]? = some v → w.cell? ((⟨g, o, none⟩ : Addr).add j) = some v := fun j v hj => by
 have := h j v hj
 unfold Addr.add
 split
 ·rename_i e; subst e; exact this
 ·exact this
def Stop (p : Prop) : Prop := p
theorem stop_copy {P : Program} {w : World} {ops : Array Oper} {rest : List Oper} {d : Option Tmp} {ps : String} {ty : TypeId} {af : Array Edge} {xs : Array Operand} {ts : Array TypeId} {gd} {a : Act} {Q : Exit → Act → World → Prop} (h : Stop (wpList P ops Q (⟨d, .call { callee := .builtin .copy, args := xs, argTypes := ts }, ty, ps, af, gd⟩ :: rest) a w)) : wpList P ops Q (⟨d, .call { callee := .builtin .copy, args := xs, argTypes := ts }, ty, ps, af, gd⟩ :: rest) a w := h
theorem made_one (z : Value) (n : Nat) : madeCells #[z] n = (List.replicate n z).toArray := by
 apply Array.ext
 ·simp [madeCells]
 ·intro i h1 h2
  simp [madeCells, Nat.mod_one]
theorem make_i64 (c : Int) (hc : 0 ≤ c ∧ c ≤ 4) (w : World) : (Instr.makeSlice 38 (.int .i64 c) (.int .i64 c)).run Try.prog w = .ok (.slice (some ⟨w.heap.size, 0, none⟩) c.toNat c.toNat) (w.alloc (.cells (List.replicate c.toNat (.int .i64 0 : Value)).toArray 2)) := by
 have := run_make (P := Try.prog) w 38 2 Try.t2 (.int .i64 0) Try.underlying38 (by kernel_rfl) (by kernel_rfl) .i64 .i64 c c (by omega) (by omega) (by show ((8 : Nat) : Int) * c ≤ _; omega) (by omega)
 rw [this, show (Value.int IntKind.i64 0).cells = #[.int .i64 0] from rfl, made_one, show Try.t2.size = 1 from rfl, Nat.mul_one]
theorem repeat1 (x : Int) (g o cap : Nat) (w : World) (hg : g < w.heap.size) (hc : Lies w g o [.int .i64 x]) :
  Calls Try.prog 115 #[.slice (some ⟨g, o, none⟩) 1 cap, .int .i64 1] w fun e w' => ∃ b ty, e = .returned (.slice (some ⟨b, 0, none⟩) 1 1) ∧ w.heap.size ≤ b ∧ w'.heap[b]? = some (.cells ([.int .i64 x] : List Value).toArray ty (0, 0)) ∧ Below w.heap.size w w' := by
 have hm := mul_one' 1 (by omega)
 have hk : ∀ w : World, (Instr.makeSlice 38 (.int .i64 1) (.int .i64 1)).run Try.prog w = .ok (.slice (some ⟨w.heap.size, 0, none⟩) 1 1) (w.alloc (.cells ([.int .i64 0] : List Value).toArray 2)) := make_i64 1 (by omega)
 have hb0 : Below w.heap.size w (w.alloc (.cells ([.int .i64 0] : List Value).toArray 2)) := (Below.refl _ _).alloc (Nat.le_refl _) _
 have hg0 : (w.alloc (.cells ([.int .i64 0] : List Value).toArray 2)).heap[w.heap.size]? = some (.cells ([.int .i64 0] : List Value).toArray 2 (0, 0)) := by unfold World.alloc; exact Array.getElem?_push_size
 have hc0 : Lies (w.alloc (.cells ([.int .i64 0] : List Value).toArray 2)) g o [.int .i64 x] := hc.keep (hb0.block g hg)
 go_enter Try.func115, Try.ntmps115
 go_wp2_with (first
  | (go_at_call 172; refine (hm _).mono ?_; rintro e w1 ⟨rfl, hw⟩; obtain rfl := hw.symm)
  | (with_reducible refine stop_copy ?_))
 unfold Stop
 refine wpList_copy_splice rfl (.tmp 31) (.tmp 32) 38 38 rfl 2 Try.underlying38 (by kernel_rfl) _ _ _ _ _ _ rfl rfl w.heap.size 0 ([.int .i64 0] : List Value) 2 hg0 [.int .i64 x] rfl (fun _ => ⟨rfl, _, rfl, lies_add hc0⟩) (by simp) (by simp [Value.oneCell']) _ _ hb0 (Nat.le_refl _) ?_
 intro w2 hg2 hb2
 have hg2 : w2.heap[w.heap.size]? = some (.cells ([.int .i64 x] : List Value).toArray 2 (0, 0)) := hg2.out
 go_wp2
 refine wp_loop_rounds 1 ?_
 all_goals
  (try simp only [Exit.inBlock, Exit.then])
  rw [rounds_succ]
  go_wp2
  go_ret
  exact ⟨_, 2, rfl, Nat.le_refl _, hg2, hb2⟩
theorem repeat2 (x : Int) (g o cap : Nat) (w : World) (hg : g < w.heap.size) (hc : Lies w g o [.int .i64 x]) :
  Calls Try.prog 115 #[.slice (some ⟨g, o, none⟩) 1 cap, .int .i64 2] w fun e w' => ∃ b ty, e = .returned (.slice (some ⟨b, 0, none⟩) 2 2) ∧ w.heap.size ≤ b ∧ w'.heap[b]? = some (.cells ([.int .i64 x, .int .i64 x] : List Value).toArray ty (0, 0)) ∧ Below w.heap.size w w' := by
 have hm := mul_one' 2 (by omega)
 have hk : ∀ w : World, (Instr.makeSlice 38 (.int .i64 2) (.int .i64 2)).run Try.prog w = .ok (.slice (some ⟨w.heap.size, 0, none⟩) 2 2) (w.alloc (.cells ([.int .i64 0, .int .i64 0] : List Value).toArray 2)) := make_i64 2 (by omega)
 have hb0 : Below w.heap.size w (w.alloc (.cells ([.int .i64 0, .int .i64 0] : List Value).toArray 2)) := (Below.refl _ _).alloc (Nat.le_refl _) _
 have hg0 : (w.alloc (.cells ([.int .i64 0, .int .i64 0] : List Value).toArray 2)).heap[w.heap.size]? = some (.cells ([.int .i64 0, .int .i64 0] : List Value).toArray 2 (0, 0)) := by unfold World.alloc; exact Array.getElem?_push_size
 have hc0 : Lies (w.alloc (.cells ([.int .i64 0, .int .i64 0] : List Value).toArray 2)) g o [.int .i64 x] := hc.keep (hb0.block g hg)
 go_enter Try.func115, Try.ntmps115
 go_wp2_with (first
  | (go_at_call 172; refine (hm _).mono ?_; rintro e w1 ⟨rfl, hw⟩; obtain rfl := hw.symm)
  | (with_reducible refine stop_copy ?_))
 unfold Stop
 refine wpList_copy_splice rfl (.tmp 31) (.tmp 32) 38 38 rfl 2 Try.underlying38 (by kernel_rfl) _ _ _ _ _ _ rfl rfl w.heap.size 0 ([.int .i64 0, .int .i64 0] : List Value) 2 hg0 [.int .i64 x] rfl (fun _ => ⟨rfl, _, rfl, lies_add hc0⟩) (by simp) (by simp [Value.oneCell']) _ _ hb0 (Nat.le_refl _) ?_
 intro w2 hg2 hb2
 have hg2 : w2.heap[w.heap.size]? = some (.cells ([.int .i64 x, .int .i64 0] : List Value).toArray 2 (0, 0)) := hg2.out
 go_wp2
 refine wp_loop_rounds 2 ?_
 all_goals
  (try simp only [Exit.inBlock, Exit.then])
  rw [rounds_succ]
  go_wp2
  have hg2d : (w2.drew).heap[w.heap.size]? = some (.cells ([.int .i64 x, .int .i64 0] : List Value).toArray 2 (0, 0)) := hg2
  have hb2d : Below w.heap.size w w2.drew := ⟨hb2.os, hb2.tape, hb2.output, hb2.size, hb2.block⟩
  have hl0 : Lies w2.drew w.heap.size 0 ([.int .i64 x] : List Value) := Lies.of_heap (n := 1) hg2d rfl
  go_region_law (refine step_copy_splice rfl (.tmp 41) (.tmp 44) 38 38 rfl 2 Try.underlying38 (by kernel_rfl) (some ⟨w.heap.size, 1, none⟩) (some ⟨w.heap.size, 0, none⟩) 1 1 1 2 (by kernel_rfl) (by kernel_rfl) w.heap.size 1 ([.int .i64 x, .int .i64 0] : List Value) 2 hg2d ([.int .i64 x] : List Value) rfl (fun _ => ⟨rfl, _, rfl, lies_add hl0⟩) (by simp) (by simp [Value.oneCell']) _ _ hb2d (Nat.le_refl _) ?_; intro w3 hg3 hb3)
 all_goals
  replace hg3 : w3.heap[w.heap.size]? = some (.cells ([.int .i64 x, .int .i64 x] : List Value).toArray 2 (0, 0)) := hg3.out
 all_goals
  (try simp only [Exit.inBlock, Exit.then])
  rw [rounds_succ]
  go_wp2
  go_ret
  exact ⟨_, 2, rfl, Nat.le_refl _, hg3, hb3⟩
theorem repeat3 (x : Int) (g o cap : Nat) (w : World) (hg : g < w.heap.size) (hc : Lies w g o [.int .i64 x]) :
  Calls Try.prog 115 #[.slice (some ⟨g, o, none⟩) 1 cap, .int .i64 3] w fun e w' => ∃ b ty, e = .returned (.slice (some ⟨b, 0, none⟩) 3 3) ∧ w.heap.size ≤ b ∧ w'.heap[b]? = some (.cells ([.int .i64 x, .int .i64 x, .int .i64 x] : List Value).toArray ty (0, 0)) ∧ Below w.heap.size w w' := by
 have hm := mul_one' 3 (by omega)
 have hk : ∀ w : World, (Instr.makeSlice 38 (.int .i64 3) (.int .i64 3)).run Try.prog w = .ok (.slice (some ⟨w.heap.size, 0, none⟩) 3 3) (w.alloc (.cells ([.int .i64 0, .int .i64 0, .int .i64 0] : List Value).toArray 2)) := make_i64 3 (by omega)
 have hb0 : Below w.heap.size w (w.alloc (.cells ([.int .i64 0, .int .i64 0, .int .i64 0] : List Value).toArray 2)) := (Below.refl _ _).alloc (Nat.le_refl _) _
 have hg0 : (w.alloc (.cells ([.int .i64 0, .int .i64 0, .int .i64 0] : List Value).toArray 2)).heap[w.heap.size]? = some (.cells ([.int .i64 0, .int .i64 0, .int .i64 0] : List Value).toArray 2 (0, 0)) := by unfold World.alloc; exact Array.getElem?_push_size
 have hc0 : Lies (w.alloc (.cells ([.int .i64 0, .int .i64 0, .int .i64 0] : List Value).toArray 2)) g o [.int .i64 x] := hc.keep (hb0.block g hg)
 go_enter Try.func115, Try.ntmps115
 go_wp2_with (first
  | (go_at_call 172; refine (hm _).mono ?_; rintro e w1 ⟨rfl, hw⟩; obtain rfl := hw.symm)
  | (with_reducible refine stop_copy ?_))
 unfold Stop
 refine wpList_copy_splice rfl (.tmp 31) (.tmp 32) 38 38 rfl 2 Try.underlying38 (by kernel_rfl) _ _ _ _ _ _ rfl rfl w.heap.size 0 ([.int .i64 0, .int .i64 0, .int .i64 0] : List Value) 2 hg0 [.int .i64 x] rfl (fun _ => ⟨rfl, _, rfl, lies_add hc0⟩) (by simp) (by simp [Value.oneCell']) _ _ hb0 (Nat.le_refl _) ?_
 intro w2 hg2 hb2
 have hg2 : w2.heap[w.heap.size]? = some (.cells ([.int .i64 x, .int .i64 0, .int .i64 0] : List Value).toArray 2 (0, 0)) := hg2.out
 go_wp2
 refine wp_loop_rounds 3 ?_
 all_goals
  (try simp only [Exit.inBlock, Exit.then])
  rw [rounds_succ]
  go_wp2
  have hg2d : (w2.drew).heap[w.heap.size]? = some (.cells ([.int .i64 x, .int .i64 0, .int .i64 0] : List Value).toArray 2 (0, 0)) := hg2
  have hb2d : Below w.heap.size w w2.drew := ⟨hb2.os, hb2.tape, hb2.output, hb2.size, hb2.block⟩
  have hl0 : Lies w2.drew w.heap.size 0 ([.int .i64 x] : List Value) := Lies.of_heap (n := 1) hg2d rfl
  go_region_law (refine step_copy_splice rfl (.tmp 41) (.tmp 44) 38 38 rfl 2 Try.underlying38 (by kernel_rfl) (some ⟨w.heap.size, 1, none⟩) (some ⟨w.heap.size, 0, none⟩) 2 2 1 3 (by kernel_rfl) (by kernel_rfl) w.heap.size 1 ([.int .i64 x, .int .i64 0, .int .i64 0] : List Value) 2 hg2d ([.int .i64 x] : List Value) rfl (fun _ => ⟨rfl, _, rfl, lies_add hl0⟩) (by simp) (by simp [Value.oneCell']) _ _ hb2d (Nat.le_refl _) ?_; intro w3 hg3 hb3)
 all_goals
  replace hg3 : w3.heap[w.heap.size]? = some (.cells ([.int .i64 x, .int .i64 x, .int .i64 0] : List Value).toArray 2 (0, 0)) := hg3.out
 all_goals
  (try simp only [Exit.inBlock, Exit.then])
  rw [rounds_succ]
  go_wp2
  have hg3d : (w3.drew).heap[w.heap.size]? = some (.cells ([.int .i64 x, .int .i64 x, .int .i64 0] : List Value).toArray 2 (0, 0)) := hg3
  have hb3d : Below w.heap.size w w3.drew := ⟨hb3.os, hb3.tape, hb3.output, hb3.size, hb3.block⟩
  have hl1 : Lies w3.drew w.heap.size 0 ([.int .i64 x] : List Value) := Lies.of_heap (n := 1) hg3d rfl
  go_region_law (refine step_copy_splice rfl (.tmp 41) (.tmp 44) 38 38 rfl 2 Try.underlying38 (by kernel_rfl) (some ⟨w.heap.size, 2, none⟩) (some ⟨w.heap.size, 0, none⟩) 1 1 2 3 (by kernel_rfl) (by kernel_rfl) w.heap.size 2 ([.int .i64 x, .int .i64 x, .int .i64 0] : List Value) 2 hg3d ([.int .i64 x] : List Value) rfl (fun _ => ⟨rfl, _, rfl, lies_add hl1⟩) (by simp) (by simp [Value.oneCell']) _ _ hb3d (Nat.le_refl _) ?_; intro w4 hg4 hb4)
 all_goals
  replace hg4 : w4.heap[w.heap.size]? = some (.cells ([.int .i64 x, .int .i64 x, .int .i64 x] : List Value).toArray 2 (0, 0)) := hg4.out
 all_goals
  (try simp only [Exit.inBlock, Exit.then])
  rw [rounds_succ]
  go_wp2
  go_ret
  exact ⟨_, 2, rfl, Nat.le_refl _, hg4, hb4⟩
theorem repeat4 (x : Int) (g o cap : Nat) (w : World) (hg : g < w.heap.size) (hc : Lies w g o [.int .i64 x]) :
  Calls Try.prog 115 #[.slice (some ⟨g, o, none⟩) 1 cap, .int .i64 4] w fun e w' => ∃ b ty, e = .returned (.slice (some ⟨b, 0, none⟩) 4 4) ∧ w.heap.size ≤ b ∧ w'.heap[b]? = some (.cells ([.int .i64 x, .int .i64 x, .int .i64 x, .int .i64 x] : List Value).toArray ty (0, 0)) ∧ Below w.heap.size w w' := by
 have hm := mul_one' 4 (by omega)
 have hk : ∀ w : World, (Instr.makeSlice 38 (.int .i64 4) (.int .i64 4)).run Try.prog w = .ok (.slice (some ⟨w.heap.size, 0, none⟩) 4 4) (w.alloc (.cells ([.int .i64 0, .int .i64 0, .int .i64 0, .int .i64 0] : List Value).toArray 2)) := make_i64 4 (by omega)
 have hb0 : Below w.heap.size w (w.alloc (.cells ([.int .i64 0, .int .i64 0, .int .i64 0, .int .i64 0] : List Value).toArray 2)) := (Below.refl _ _).alloc (Nat.le_refl _) _
 have hg0 : (w.alloc (.cells ([.int .i64 0, .int .i64 0, .int .i64 0, .int .i64 0] : List Value).toArray 2)).heap[w.heap.size]? = some (.cells ([.int .i64 0, .int .i64 0, .int .i64 0, .int .i64 0] : List Value).toArray 2 (0, 0)) := by unfold World.alloc; exact Array.getElem?_push_size
 have hc0 : Lies (w.alloc (.cells ([.int .i64 0, .int .i64 0, .int .i64 0, .int .i64 0] : List Value).toArray 2)) g o [.int .i64 x] := hc.keep (hb0.block g hg)
 go_enter Try.func115, Try.ntmps115
 go_wp2_with (first
  | (go_at_call 172; refine (hm _).mono ?_; rintro e w1 ⟨rfl, hw⟩; obtain rfl := hw.symm)
  | (with_reducible refine stop_copy ?_))
 unfold Stop
 refine wpList_copy_splice rfl (.tmp 31) (.tmp 32) 38 38 rfl 2 Try.underlying38 (by kernel_rfl) _ _ _ _ _ _ rfl rfl w.heap.size 0 ([.int .i64 0, .int .i64 0, .int .i64 0, .int .i64 0] : List Value) 2 hg0 [.int .i64 x] rfl (fun _ => ⟨rfl, _, rfl, lies_add hc0⟩) (by simp) (by simp [Value.oneCell']) _ _ hb0 (Nat.le_refl _) ?_
 intro w2 hg2 hb2
 have hg2 : w2.heap[w.heap.size]? = some (.cells ([.int .i64 x, .int .i64 0, .int .i64 0, .int .i64 0] : List Value).toArray 2 (0, 0)) := hg2.out
 go_wp2
 refine wp_loop_rounds 3 ?_
 all_goals
  (try simp only [Exit.inBlock, Exit.then])
  rw [rounds_succ]
  go_wp2
  have hg2d : (w2.drew).heap[w.heap.size]? = some (.cells ([.int .i64 x, .int .i64 0, .int .i64 0, .int .i64 0] : List Value).toArray 2 (0, 0)) := hg2
  have hb2d : Below w.heap.size w w2.drew := ⟨hb2.os, hb2.tape, hb2.output, hb2.size, hb2.block⟩
  have hl0 : Lies w2.drew w.heap.size 0 ([.int .i64 x] : List Value) := Lies.of_heap (n := 1) hg2d rfl
  go_region_law (refine step_copy_splice rfl (.tmp 41) (.tmp 44) 38 38 rfl 2 Try.underlying38 (by kernel_rfl) (some ⟨w.heap.size, 1, none⟩) (some ⟨w.heap.size, 0, none⟩) 3 3 1 4 (by kernel_rfl) (by kernel_rfl) w.heap.size 1 ([.int .i64 x, .int .i64 0, .int .i64 0, .int .i64 0] : List Value) 2 hg2d ([.int .i64 x] : List Value) rfl (fun _ => ⟨rfl, _, rfl, lies_add hl0⟩) (by simp) (by simp [Value.oneCell']) _ _ hb2d (Nat.le_refl _) ?_; intro w3 hg3 hb3)
 all_goals
  replace hg3 : w3.heap[w.heap.size]? = some (.cells ([.int .i64 x, .int .i64 x, .int .i64 0, .int .i64 0] : List Value).toArray 2 (0, 0)) := hg3.out
 all_goals
  (try simp only [Exit.inBlock, Exit.then])
  rw [rounds_succ]
  go_wp2
  have hg3d : (w3.drew).heap[w.heap.size]? = some (.cells ([.int .i64 x, .int .i64 x, .int .i64 0, .int .i64 0] : List Value).toArray 2 (0, 0)) := hg3
  have hb3d : Below w.heap.size w w3.drew := ⟨hb3.os, hb3.tape, hb3.output, hb3.size, hb3.block⟩
  have hl1 : Lies w3.drew w.heap.size 0 ([.int .i64 x, .int .i64 x] : List Value) := Lies.of_heap (n := 2) hg3d rfl
  go_region_law (refine step_copy_splice rfl (.tmp 41) (.tmp 44) 38 38 rfl 2 Try.underlying38 (by kernel_rfl) (some ⟨w.heap.size, 2, none⟩) (some ⟨w.heap.size, 0, none⟩) 2 2 2 4 (by kernel_rfl) (by kernel_rfl) w.heap.size 2 ([.int .i64 x, .int .i64 x, .int .i64 0, .int .i64 0] : List Value) 2 hg3d ([.int .i64 x, .int .i64 x] : List Value) rfl (fun _ => ⟨rfl, _, rfl, lies_add hl1⟩) (by simp) (by simp [Value.oneCell']) _ _ hb3d (Nat.le_refl _) ?_; intro w4 hg4 hb4)
 all_goals
  replace hg4 : w4.heap[w.heap.size]? = some (.cells ([.int .i64 x, .int .i64 x, .int .i64 x, .int .i64 x] : List Value).toArray 2 (0, 0)) := hg4.out
 all_goals
  (try simp only [Exit.inBlock, Exit.then])
  rw [rounds_succ]
  go_wp2
  go_ret
  exact ⟨_, 2, rfl, Nat.le_refl _, hg4, hb4⟩
noncomputable def s_q1r (a0 : List Int) (a1 : Int) : Option (List Int) := cond (a0.length == 1 && (decide (1 ≤ a1) && decide (a1 ≤ 4))) (some (List.replicate a1.toNat (a0.getD 0 0))) none
noncomputable def c_q1r : List A → ACall
 | [.lst (.one (.i .i64)) a0, .v (.int .i64 a1)] => ⟨List Int, s_q1r a0 a1, fun r => .one (.lst (.one (.i .i64)) r)⟩
 | _ => ACall.fail
theorem own_one {w w' : World} {b c : Nat} {ty : TypeId} (l : List Int) (hl : l.length = c) (hc : 0 < c) (hm : c ≤ maxLen) (hb : w.heap.size ≤ b) (hw : w'.heap[b]? = some (.cells (l.map (Value.int .i64)).toArray ty (0, 0))) : ResR w w' (.one (.lst (.one (.i .i64)) l)) (.slice (some ⟨b, 0, none⟩) c c) := by
 subst hl
 have hr : ∀ (I : Inn) (l : List Int), RowsC I (.one (.i .i64)) l (l.map (Value.int .i64)) := by
  intro I l
  induction l with
  | nil => exact rfl
  | cons x l ih => exact ⟨[.int .i64 x], _, rfl, rfl, ih⟩
 refine ⟨rfl, fun i a v h1 h2 => ?_, fun i j u v hij h1 h2 => ?_⟩
 ·cases i with
  | succ i => cases h1
  | zero =>
   cases h1; cases h2
   exact ⟨_, hr _ l, .inr ⟨b, l.length, _, ty, rfl, hb, hc, hw, Nat.le_refl _, hm, by simp [ET.sz, RT.sz], by show List.take (l.length * 1) _ = _; rw [Nat.mul_one]; exact List.take_of_length_le (by simp)⟩⟩
 ·cases i with
  | succ i => cases h1
  | zero => cases j with
   | zero => exact absurd rfl hij
   | succ j => cases h2
theorem f_q1r_at (a0 : List Int) (a1 : Int) : SoundAt Try.prog 115 [.lst (.one (.i .i64)) a0, .v (.int .i64 a1)] ⟨List Int, s_q1r a0 a1, fun r => .one (.lst (.one (.i .i64)) r)⟩ := by
 intro r h w vs hJ hv
 have h : s_q1r a0 a1 = some r := h
 unfold s_q1r at h
 cases hq : a0.length == 1 && (decide (1 ≤ a1) && decide (a1 ≤ 4)) with
 | false => rw [hq] at h; cases h
 | true =>
  rw [hq] at h
  obtain ⟨q1, q2⟩ := Bool.and_eq_true_iff.1 hq
  obtain ⟨q2, q3⟩ := Bool.and_eq_true_iff.1 q2
  have q2 := of_decide_eq_true q2
  have q3 := of_decide_eq_true q3
  match a0, q1, h, hv with
  | [x], _, h, hv =>
  have h : some (List.replicate a1.toNat x) = some r := h
  cases h
  obtain ⟨v, us, rfl, ⟨xs, ao, cap, p1, p2, ⟨c1, c2, rfl, p3, p4⟩, p5⟩, v2, us2, rfl, p6, p7⟩ := hv
  obtain ⟨rfl, _⟩ := List.cons.inj p1
  have p3 : c1 = [.int .i64 x] := p3
  have p4 : c2 = [] := p4
  subst p3; subst p4
  have p6 := p6.1
  cases p6
  have p7 : us2 = [] := p7
  subst p7
  obtain ⟨g, o, rfl, hg, hl⟩ := p5 (List.cons_ne_nil x [])
  obtain rfl | rfl | rfl | rfl : a1 = 1 ∨ a1 = 2 ∨ a1 = 3 ∨ a1 = 4 := by omega
  ·refine (repeat1 x g o cap w hg hl).mono ?_
   rintro e w' ⟨b, ty, rfl, hb, hw, hB⟩
   exact ⟨_, rfl, own_one [x] rfl (by decide) (by decide) hb hw, hB⟩
  ·refine (repeat2 x g o cap w hg hl).mono ?_
   rintro e w' ⟨b, ty, rfl, hb, hw, hB⟩
   exact ⟨_, rfl, own_one [x, x] rfl (by decide) (by decide) hb hw, hB⟩
  ·refine (repeat3 x g o cap w hg hl).mono ?_
   rintro e w' ⟨b, ty, rfl, hb, hw, hB⟩
   exact ⟨_, rfl, own_one [x, x, x] rfl (by decide) (by decide) hb hw, hB⟩
  ·refine (repeat4 x g o cap w hg hl).mono ?_
   rintro e w' ⟨b, ty, rfl, hb, hw, hB⟩
   exact ⟨_, rfl, own_one [x, x, x, x] rfl (by decide) (by decide) hb hw, hB⟩
theorem f_q1r_sound : Sound Try.prog 115 c_q1r := by
 refine sound_kit fun rs => ?_
 unfold c_q1r
 split
 ·rename_i a0 a1
  exact f_q1r_at a0 a1
 ·intro r h; cases h
end Go.RR
