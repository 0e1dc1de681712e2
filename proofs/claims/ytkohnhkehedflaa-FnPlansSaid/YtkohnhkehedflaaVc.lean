/- Copies of slots. -/
import Derived.Test.YtkohnhkehedflaaVm
import Derived.Test.YtkohnhkehedflaaRi
import Derived.WalkKit
import Derived.ProofKit
import Derived.WalkSpells
set_option linter.unusedVariables false
set_option linter.unusedSimpArgs false
set_option linter.unusedSectionVars false
set_option maxRecDepth 100000
namespace Go.RR
open Go Go.Proofs
noncomputable def f_q0i_c : Code := match Try.f206.body with | some c => c | none => .skip
noncomputable def f_q0i_X : Ctx := ⟨TT, phiOf [], noPsi, noXi⟩
def f_q0i_LV : List (Nat × Keep) := []
def f_q0i_rv : List ResultVar := [.tmp 2]
noncomputable def f_q0i_L (r : List A) : Nat → AS → Option (List A) := L f_q0i_X (cnOf f_q0i_LV) f_q0i_c (K0 TT f_q0i_rv) r
theorem f_q0i_ctx : CtxOK Try.prog f_q0i_X := ctx_of tab mix trivial
noncomputable def s_q0i (a0 : List (Int × Int)) : Option (List (Int × Int)) := (cond (Nat.blt 0 (List.length a0)) (cond (fits ((List.length ([] : List (Int × Int)) + List.length (a0 : List (Int × Int))) * 4)) (some ([] ++ a0)) none) none)
theorem f_q0i_top (a0 : List (Int × Int)) (r : List A) : ev f_q0i_X (lpc (cnOf f_q0i_LV) (f_q0i_L r)) f_q0i_c (K0 TT f_q0i_rv) (enter [.lst (.st [(.i .i8), (.i .i16)]) a0]) = (cond (Nat.blt 0 (List.length a0)) (cond (fits ((List.length ([] : List (Int × Int)) + List.length (a0 : List (Int × Int))) * 4)) (some [.lst (.st [(.i .i8), (.i .i16)]) ([] ++ a0)]) none) none) := by kernel_rfl
noncomputable def l_q0i (r : List (Int × Int)) : List A := [.lst (.st [(.i .i8), (.i .i16)]) r]
theorem s_q0i_ok (a0 v : List (Int × Int)) (h : s_q0i a0 = some v) : (cond (Nat.blt 0 (List.length a0)) (cond (fits ((List.length ([] : List (Int × Int)) + List.length (a0 : List (Int × Int))) * 4)) (some [.lst (.st [(.i .i8), (.i .i16)]) ([] ++ a0)]) none) none) = some (l_q0i v) := by
 have e : (cond (Nat.blt 0 (List.length a0)) (cond (fits ((List.length ([] : List (Int × Int)) + List.length (a0 : List (Int × Int))) * 4)) (some [.lst (.st [(.i .i8), (.i .i16)]) ([] ++ a0)]) none) none) = Option.map l_q0i (s_q0i a0) := by
  unfold s_q0i
  exact (cond_app (Option.map l_q0i) (cond_app (Option.map l_q0i) rfl rfl) rfl)
 rw [e, h]; rfl
noncomputable def c_q0i : List A → ACall
 | [.lst (.st [(.i .i8), (.i .i16)]) a0] => ⟨(List (Int × Int)), s_q0i a0, fun r => .one (.lst (.st [(.i .i8), (.i .i16)]) r)⟩
 | _ => ACall.fail
theorem f_q0i_sound : Sound Try.prog 206 c_q0i := by
 refine sound_good f_q0i_ctx f_q0i_LV 1 Try.func206 (c := f_q0i_c) (by kernel_rfl) (rv := f_q0i_rv) (by kernel_rfl) (by kernel_rfl) (by kernel_rfl) (by kernel_rfl) fun rs => ?_
 unfold c_q0i
 split
 ·rename_i a0; intro v h; exact ⟨rfl, l_q0i v, rfl, (f_q0i_top a0 _).trans (s_q0i_ok a0 v h)⟩
 ·intro v h; cases h
def SoundAt (P : Program) (f : Nat) (rs : List A) (C : ACall) : Prop :=
 ∀ r, C.c = some r → ∀ w vs, JJ P w → ArgsV w rs vs → Calls P f vs.toArray w fun e w' => ∃ v, e = .returned v ∧ ResR w w' (C.res r) v ∧ RowKit.Below w.heap.size w w'
theorem sound_kit {P : Program} {f : Nat} {Φ : List A → ACall} (h : ∀ rs, SoundAt P f rs (Φ rs)) : Sound P f Φ := fun rs r e w vs hJ hv => h rs r e w vs hJ hv
theorem clone_none (ao : Option Addr) (cap : Nat) (w : World) : Calls Try.prog 206 #[.slice ao 0 cap] w fun e w' => ∃ bo v, e = .returned v ∧ v = .slice bo 0 0 ∧ RowKit.Below w.heap.size w w' := by
 have hq : ∀ (a : Option Addr) (n c : Nat) (w : World), (binOp .eql 53 (.slice a n c) (.slice none 0 0)).run Try.prog w = .ok (.bool a.isNone) w := by
  intro a n c w
  simp only [binOp]
  simp [Op.equal, Op.maxDepth, Lib.run_equalIn_slice_nil w 9999 53 _ a n c 0 0 Try.underlying53]
 obtain ⟨f, hf, _⟩ := (tab 103 _ (show lk TT 103 = some _ from rfl)).inf
 have ha : ∀ (a b : Option Addr) (c : Nat) (ty : TypeId) (w : World), (Builtin.append_ #[53, 53] ty #[.slice a 0 0, .slice b 0 c]).run Try.prog w = .ok (.slice a 0 0) w := fun a b c ty w => app_none w 53 ty _ _ Try.underlying53 hf a b 0 0 c (Nat.le_refl _)
 cases ao with
 | none =>
  go_enter Try.func206, Try.ntmps206
  go_wp2
  go_ret
  exact ⟨none, _, rfl, rfl, RowKit.Below.refl _ _⟩
 | some a =>
  go_enter Try.func206, Try.ntmps206
  go_wp2
  go_ret
  exact ⟨_, _, rfl, rfl, (RowKit.Below.refl _ w).alloc (Nat.le_refl _) _⟩
noncomputable def s_q1q (a0 : List (Int × Int)) : Option (List (Int × Int)) := cond (Nat.blt 0 a0.length) (s_q0i a0) (some [])
noncomputable def c_q1q : List A → ACall
 | [.lst (.st [(.i .i8), (.i .i16)]) a0] => ⟨List (Int × Int), s_q1q a0, fun r => .one (.lst (.st [(.i .i8), (.i .i16)]) r)⟩
 | _ => ACall.fail
theorem f_q1q_at (a0 : List (Int × Int)) : SoundAt Try.prog 206 [.lst (.st [(.i .i8), (.i .i16)]) a0] ⟨List (Int × Int), s_q1q a0, fun r => .one (.lst (.st [(.i .i8), (.i .i16)]) r)⟩ := by
 intro r h w vs hJ hv
 have h : s_q1q a0 = some r := h
 unfold s_q1q at h
 cases a0 with
 | cons x l => exact f_q0i_sound [.lst (.st [(.i .i8), (.i .i16)]) (x :: l)] r h w vs hJ hv
 | nil =>
  have h : some ([] : List (Int × Int)) = some r := h
  cases h
  obtain ⟨v, us, rfl, ⟨xs, ao, cap, q1, _, _, _⟩, rfl⟩ := hv
  obtain ⟨rfl, _⟩ := List.cons.inj q1
  refine (clone_none ao cap w).mono ?_
  rintro e w' ⟨bo, v, rfl, rfl, hb⟩
  refine ⟨_, rfl, ⟨rfl, fun i a v h1 h2 => ?_, fun i j u v hij h1 h2 => ?_⟩, hb⟩
  ·cases i with
   | succ i => cases h1
   | zero =>
    cases h1; cases h2
    exact ⟨[], rfl, .inl ⟨rfl, _, rfl⟩⟩
  ·cases i with
   | succ i => cases h1
   | zero => cases j with
    | zero => exact absurd rfl hij
    | succ j => cases h2
theorem f_q1q_sound : Sound Try.prog 206 c_q1q := by
 refine sound_kit fun rs => ?_
 unfold c_q1q
 split
 ·rename_i a0
  exact f_q1q_at a0
 ·intro r h; cases h
end Go.RR
