/- Rows that are made of one number, again and again: a walk of its own, for any count. -/
import Derived.Test.YtbmaolhjplapoaaGreatDoorTb
import Derived.Test.YtbmaolhjplapoaaGreatDoorSh
import Derived.Test.YtbmaolhjplapoaaGreatDoorVa
import Derived.WalkKit
import Derived.ProofKit
import Derived.WalkSpells
import Derived.Laws.CopyOwn
import Derived.Deep.LoopGhost
set_option linter.unusedVariables false
set_option linter.unusedSimpArgs false
set_option maxRecDepth 100000
set_option maxHeartbeats 400000
namespace Go.RR
open Go Go.Proofs Go.RowKit
theorem lies_add {w : World} {g o : Nat} {cs : List Value} (h : Lies w g o cs) : ∀ j v, cs[j]? = some v → w.cell? ((⟨g, o, none⟩ : Addr).add j) = some v := fun j v hj => by
 have := h j v hj
 unfold Addr.add
 split
 ·rename_i e; subst e; exact this
 ·exact this
def Stop (p : Prop) : Prop := p
theorem stop_copy {P : Program} {w : World} {ops : Array Oper} {rest : List Oper} {d : Option Tmp} {ps : String} {ty : TypeId} {af : Array Edge} {xs : Array Operand} {ts : Array TypeId} {gd} {a : Act} {Q : Exit → Act → World → Prop} (h : Stop (wpList P ops Q (⟨d, .call { callee := .builtin .copy, args := xs, argTypes := ts }, ty, ps, af, gd⟩ :: rest) a w)) : wpList P ops Q (⟨d, .call { callee := .builtin .copy, args := xs, argTypes := ts }, ty, ps, af, gd⟩ :: rest) a w := h
theorem made_one (z : Value) (n : Nat) : madeCells #[z] n = (List.replicate n z).toArray := by
 apply Array.ext
 ·simp [madeCells]
 ·intro i h1 h2
  simp [madeCells, Nat.mod_one]
theorem make_i64 (c : Nat) (hc : 1 ≤ c ∧ c ≤ 4000) (w : World) : (Instr.makeSlice 114 (.int .i64 (c : Int)) (.int .i64 (c : Int))).run Tryz.prog w = .ok (.slice (some ⟨w.heap.size, 0, none⟩) c c) (w.alloc (.cells (List.replicate c (.int .i64 0 : Value)).toArray 3)) := by
 have := run_make (P := Tryz.prog) w 114 3 Tryz.t3 (.int .i64 0) Tryz.underlying114 (by kernel_rfl) (by kernel_rfl) .i64 .i64 (c : Int) (c : Int) (by omega) (by omega) (by show ((8 : Nat) : Int) * (c : Int) ≤ _; omega) (by omega)
 rw [this, show (Value.int IntKind.i64 0).cells = #[.int .i64 0] from rfl, made_one, show Tryz.t3.size = 1 from rfl, Nat.mul_one, Int.toNat_natCast]
def repC (x : Int) (c n : Nat) : List Value := List.replicate n (.int .i64 x) ++ List.replicate (c - n) (.int .i64 0)
theorem repC_len {x : Int} {c n : Nat} (h : n ≤ c) : (repC x c n).length = c := by simp [repC]; omega
theorem repC_splice {x : Int} {c n m : Nat} (h : n + m ≤ c) : splice (repC x c n) n (List.replicate m (.int .i64 x)) = repC x c (n + m) := by
 unfold splice repC
 rw [List.take_left' (by simp), List.length_replicate, List.drop_append, List.length_replicate, show n + m - n = m by omega, List.drop_eq_nil_of_le (by simp), List.nil_append, List.drop_replicate, ← List.append_assoc, List.replicate_append_replicate, show c - n - m = c - (n + m) by omega]
theorem repC_take {x : Int} {c n m : Nat} (h : m ≤ n) : (repC x c n).take m = List.replicate m (.int .i64 x) := by
 unfold repC
 rw [List.take_append_of_le_length (by simp; omega), List.take_replicate, Nat.min_eq_left h]
theorem repC_end (x : Int) (c : Nat) : repC x c c = List.replicate c (.int .i64 x) := by simp [repC]
theorem repC_zero (x : Int) (c : Nat) : repC x c 0 = List.replicate c (.int .i64 0) := by simp [repC]
theorem mul_one' (c : Nat) (hc : 1 ≤ c ∧ c ≤ 4000) (w : World) : Calls Tryz.prog 164 #[.int .u64 1, .int .u64 (c : Int)] w fun e w' => e = .returned (.tuple #[.int .u64 0, .int .u64 (c : Int)]) ∧ w' = w := by
 have h := Tryz.bits_Mul 1 c (by omega) (by omega) w
 rw [Nat.one_mul, Nat.div_eq_of_lt (by omega), Nat.mod_eq_of_lt (by omega)] at h
 exact h
theorem repeatN (x : Int) (c g o cap : Nat) (hc : 1 ≤ c ∧ c ≤ 4000) (w : World) (hg : g < w.heap.size) (hl : Lies w g o [.int .i64 x]) :
  Calls Tryz.prog 89 #[.slice (some ⟨g, o, none⟩) 1 cap, .int .i64 (c : Int)] w fun e w' => ∃ b ty, e = .returned (.slice (some ⟨b, 0, none⟩) c c) ∧ w.heap.size ≤ b ∧ w'.heap[b]? = some (.cells (List.replicate c (.int .i64 x : Value)).toArray ty (0, 0)) ∧ Below w.heap.size w w' := by
 have hm := mul_one' c hc
 have hk := make_i64 c hc
 have hb0 : Below w.heap.size w (w.alloc (.cells (List.replicate c (.int .i64 0 : Value)).toArray 3)) := (Below.refl _ _).alloc (Nat.le_refl _) _
 have hg0 : (w.alloc (.cells (List.replicate c (.int .i64 0 : Value)).toArray 3)).heap[w.heap.size]? = some (.cells (List.replicate c (.int .i64 0 : Value)).toArray 3 (0, 0)) := by unfold World.alloc; exact Array.getElem?_push_size
 have hc0 : Lies (w.alloc (.cells (List.replicate c (.int .i64 0 : Value)).toArray 3)) g o [.int .i64 x] := hl.keep (hb0.block g hg)
 have h1 : ¬ ((c : Int) < 0) := by omega
 have h2 : IntKind.wrap .u64 (c : Int) = (c : Int) := by
  rw [IntWalk.u64_in _ (by omega)]
 have h3 : IntKind.wrap .i64 (c : Int) = (c : Int) := by rw [IntWalk.i64_in _ (by omega)]
 have h4 : ¬ ((c : Int) > 9223372036854775807) := by omega
 go_enter Tryz.func89, Tryz.ntmps89
 go_wp2_with (first
  | (go_at_call 164; refine (hm _).mono ?_; rintro e w1 ⟨rfl, hw⟩; obtain rfl := hw.symm)
  | (with_reducible refine stop_copy ?_))
 unfold Stop
 refine wpList_copy_splice rfl (.tmp 31) (.tmp 32) 114 114 rfl 3 Tryz.underlying114 (by kernel_rfl) _ _ _ _ _ _ rfl rfl w.heap.size 0 (List.replicate c (.int .i64 0 : Value)) 3 hg0 [.int .i64 x] (by show 1 = Nat.min 1 c; exact (Nat.min_eq_left hc.1).symm) (fun _ => ⟨rfl, _, rfl, lies_add hc0⟩) (by simp; omega) (by simp [Value.oneCell']) _ _ hb0 (Nat.le_refl _) ?_
 intro w2 hg2 hb2
 have hg2 : w2.heap[w.heap.size]? = some (.cells (repC x c 1).toArray 3 (0, 0)) := by
  rw [hg2.out, ← repC_zero x c, show [Value.int .i64 x] = List.replicate 1 (Value.int .i64 x) from rfl, repC_splice (by omega)]
 go_wp2
 go_loopw [8] (fun nv wr => ∃ n : Nat, 1 ≤ n ∧ n ≤ c ∧ nv = .int .i64 (n : Int) ∧ wr.heap[w.heap.size]? = some (.cells (repC x c n).toArray 3 (0, 0)) ∧ Below w.heap.size w wr) (fun nv _ => c - (intOf nv).toNat)
 case atStart => exact ⟨1, by omega, by omega, rfl, hg2, hb2⟩
 case round =>
  obtain ⟨n, n1, n2, rfl, hg3, hb3⟩ := hrel
  by_cases hn : n < c
  ·have d1 : (n : Int) < (c : Int) := by omega
   have hg3d : (wr.drew).heap[w.heap.size]? = some (.cells (repC x c n).toArray 3 (0, 0)) := hg3
   have hb3d : Below w.heap.size w wr.drew := ⟨hb3.os, hb3.tape, hb3.output, hb3.size, hb3.block⟩
   obtain ⟨m, hm2⟩ : ∃ m, m = Nat.min n (c - n) := ⟨_, rfl⟩
   have hmn : m ≤ n := by rw [hm2]; exact Nat.min_le_left _ _
   have hmc : m ≤ c - n := by rw [hm2]; exact Nat.min_le_right _ _
   have hm1 : 1 ≤ m := by rw [hm2]; show 1 ≤ min n (c - n); omega
   have hl0 : Lies wr.drew w.heap.size 0 (List.replicate m (Value.int .i64 x)) := Lies.of_heap (n := m) hg3d (by rw [← repC_take (x := x) (c := c) hmn])
   go_wp2
   go_region_law (refine step_copy_splice rfl (.tmp 41) (.tmp 44) 114 114 rfl 3 Tryz.underlying114 (by kernel_rfl) (if c = n then some ⟨w.heap.size, 0, none⟩ else some ⟨w.heap.size, n, none⟩) (some ⟨w.heap.size, 0, none⟩) (c - n) (c - n) n c (by kernel_rfl) (by kernel_rfl) w.heap.size n (repC x c n) 3 hg3d (List.replicate m (Value.int .i64 x)) (by rw [List.length_replicate]; exact hm2) (fun _ => ⟨if_neg (by omega), _, rfl, lies_add hl0⟩) (by rw [List.length_replicate, repC_len n2]; omega) (by simp [Value.oneCell']) _ _ hb3d (by omega) ?_; intro w4 hg4 hb4)
   all_goals
    have hg5 : w4.heap[w.heap.size]? = some (.cells (repC x c (n + m)).toArray 3 (0, 0)) := by rw [hg4.out, repC_splice (by omega)]
    have hw5 : IntKind.wrap .i64 ((n : Int) + ((n.min (c - n) : Nat) : Int)) = ((n + m : Nat) : Int) := by rw [← hm2, IntWalk.i64_in _ (by omega)]; omega
    clear hg4
    (try simp only [Exit.inBlock, Exit.then])
    go_roundw
   case rel =>
    repeat apply Exists.intro
    refine ⟨?_, rfl⟩
    exact ⟨n + m, by omega, by omega, congrArg (Value.int .i64) hw5, hg5, hb4⟩
   case measure =>
    show c - (intOf (Value.int .i64 (IntKind.wrap .i64 ((n : Int) + ((n.min (c - n) : Nat) : Int))))).toNat < _
    rw [hw5]
    simp [intOf]; omega
  ·go_wp2
   have : c = n := by omega
   subst this
   rw [repC_end] at hg3
   go_ret
   exact ⟨_, _, rfl, Nat.le_refl _, hg3, hb3⟩
noncomputable def s_q1i (a0 : List Int) (a1 : Int) : Option (List Int) := cond (a0.length == 1 && (decide (1 ≤ a1) && decide (a1 ≤ 4000))) (some (List.replicate a1.toNat (a0.getD 0 0))) none
noncomputable def c_q1i : List A → ACall
 | [.lst (.one (.i .i64)) a0, .v (.int .i64 a1)] => ⟨List Int, s_q1i a0 a1, fun r => .one (.lst (.one (.i .i64)) r)⟩
 | _ => ACall.fail
theorem own_one {w w' : World} {b c : Nat} {ty : TypeId} (l : List Int) (hl : l.length = c) (hc : 0 < c) (hm : c ≤ maxLen) (hb : w.heap.size ≤ b) (hw : w'.heap[b]? = some (.cells (l.map (Value.int .i64)).toArray ty (0, 0))) : ResR w w' (.one (.lst (.one (.i .i64)) l)) (.slice (some ⟨b, 0, none⟩) c c) := by
 subst hl
 have hr : ∀ (I : Inn) (l : List Int), RowsC I (.one (.i .i64)) l (l.map (Value.int .i64)) := by
  intro I l
  induction l with
  | nil => exact rfl
  | cons x l ih => exact ⟨[.int .i64 x], _, rfl, rfl, ih⟩
 refine ⟨rfl, fun i a v h1 h2 => ?_, fun i j u v hij h1 h2 => ?_⟩
 ·cases i with
  | succ i => cases h1
  | zero =>
   cases h1; cases h2
   exact ⟨_, hr _ l, .inr ⟨b, l.length, _, ty, rfl, hb, hc, hw, Nat.le_refl _, hm, by simp [ET.sz, RT.sz], by show List.take (l.length * 1) _ = _; rw [Nat.mul_one]; exact List.take_of_length_le (by simp)⟩⟩
 ·cases i with
  | succ i => cases h1
  | zero => cases j with
   | zero => exact absurd rfl hij
   | succ j => cases h2
theorem f_q1i_at (a0 : List Int) (a1 : Int) : SoundAt Tryz.prog 89 [.lst (.one (.i .i64)) a0, .v (.int .i64 a1)] ⟨List Int, s_q1i a0 a1, fun r => .one (.lst (.one (.i .i64)) r)⟩ := by
 intro r h w vs hJ hv
 have h : s_q1i a0 a1 = some r := h
 unfold s_q1i at h
 cases hq : a0.length == 1 && (decide (1 ≤ a1) && decide (a1 ≤ 4000)) with
 | false => rw [hq] at h; cases h
 | true =>
  rw [hq] at h
  obtain ⟨q1, q2⟩ := Bool.and_eq_true_iff.1 hq
  obtain ⟨q2, q3⟩ := Bool.and_eq_true_iff.1 q2
  have q2 := of_decide_eq_true q2
  have q3 := of_decide_eq_true q3
  match a0, q1, h, hv with
  | [x], _, h, hv =>
  have h : some (List.replicate a1.toNat x) = some r := h
  cases h
  obtain ⟨v, us, rfl, ⟨xs, ao, cap, p1, p2, ⟨c1, c2, rfl, p3, p4⟩, p5⟩, v2, us2, rfl, p6, p7⟩ := hv
  obtain ⟨rfl, _⟩ := List.cons.inj p1
  have p3 : c1 = [.int .i64 x] := p3
  have p4 : c2 = [] := p4
  subst p3; subst p4
  have p6 := p6.1
  cases p6
  have p7 : us2 = [] := p7
  subst p7
  obtain ⟨g, o, rfl, hg, hl⟩ := p5 (List.cons_ne_nil x [])
  obtain ⟨c, rfl⟩ : ∃ c : Nat, a1 = (c : Int) := ⟨a1.toNat, by omega⟩
  refine (repeatN x c g o cap (by omega) w hg hl).mono ?_
  rintro e w' ⟨b, ty, rfl, hb, hw, hB⟩
  refine ⟨_, rfl, own_one (ty := ty) (List.replicate c x) (by simp) (by omega) (by unfold maxLen; omega) hb ?_, hB⟩
  rw [hw, List.map_replicate]
theorem f_q1i_sound : Sound Tryz.prog 89 c_q1i := by
 refine sound_kit fun rs => ?_
 unfold c_q1i
 split
 ·rename_i a0 a1
  exact f_q1i_at a0 a1
 ·intro r h; cases h
end Go.RR
