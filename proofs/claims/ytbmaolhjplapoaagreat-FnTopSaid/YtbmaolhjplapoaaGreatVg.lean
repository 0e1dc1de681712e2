/- Copies of slots. -/
import Derived.Test.YtbmaolhjplapoaaGreatVm
import Derived.Test.YtbmaolhjplapoaaGreatVe
import Derived.Test.YtbmaolhjplapoaaGreatRi
import Derived.WalkKit
import Derived.ProofKit
import Derived.WalkSpells
set_option linter.unusedVariables false
set_option linter.unusedSimpArgs false
set_option linter.unusedSectionVars false
set_option maxRecDepth 100000
namespace Go.RR
open Go Go.Proofs
noncomputable def zCz := zu Tryz.f131
noncomputable def zCP : Ctx := ⟨TT, zr [], zw, zU⟩
def zyJ : List (Nat × zE) := []
def zvJ : List ResultVar := [.tmp 2]
theorem zFo : zq Tryz.prog zCP := zo tab mix trivial
noncomputable def zpH (a0 : List (Int × Int)) : Option (List (Int × Int)) := (cond (Nat.blt 0 a0.length) (cond (zW ((List.length ([] : List (Int × Int)) + List.length (a0 : List (Int × Int))) * 4)) (some ([] ++ a0)) none) none)
theorem zHp (a0 : List (Int × Int)) (r : List A) : Tq zCP zyJ zCz zvJ r [.lst (.st [(.i .i8), (.i .i16)]) a0] = (cond (Nat.blt 0 a0.length) (cond (zW ((List.length ([] : List (Int × Int)) + List.length (a0 : List (Int × Int))) * 4)) (some [.lst (.st [(.i .i8), (.i .i16)]) ([] ++ a0)]) none) none) := by kernel_rfl
noncomputable def zy3 (r : List (Int × Int)) : List A := [.lst (.st [(.i .i8), (.i .i16)]) r]
theorem zQY (a0 v : List (Int × Int)) (h : zpH a0 = some v) : (cond (Nat.blt 0 a0.length) (cond (zW ((List.length ([] : List (Int × Int)) + List.length (a0 : List (Int × Int))) * 4)) (some [.lst (.st [(.i .i8), (.i .i16)]) ([] ++ a0)]) none) none) = some (zy3 v) := by
 refine Eq.trans (b := Option.map zy3 (zpH a0)) ?_ (by rw [h]; rfl)
 unfold zpH
 exact (zM (Option.map zy3) (zM (Option.map zy3) rfl rfl) rfl)
noncomputable def zTH : List A → ze
 | [.lst (.st [(.i .i8), (.i .i16)]) a0] => ⟨(List (Int × Int)), zpH a0, fun r => .one (.lst (.st [(.i .i8), (.i .i16)]) r)⟩
 | _ => ze.fail
theorem ztg : zC Tryz.prog 131 zTH := by
 refine good zFo zyJ zCz zvJ 1 Tryz.func131 fun rs => ?_
 unfold zTH
 split
 ·rename_i a0; intro v h; exact ⟨rfl, zy3 v, rfl, (zHp a0 _).trans (zQY a0 v h)⟩
 ·intro v h; cases h
theorem zAY (ao : Option Addr) (cap : Nat) (w : World) : Calls Tryz.prog 131 #[.slice ao 0 cap] w fun e w' => ∃ bo v, e = .returned v ∧ v = .slice bo 0 0 ∧ RowKit.Below w.heap.size w w' := by
 have hq : ∀ (a : Option Addr) (n c : Nat) (w : World), (binOp .eql 57 (.slice a n c) (.slice none 0 0)).run Tryz.prog w = .ok (.bool a.isNone) w := by
  intro a n c w
  simp only [binOp]
  simp [Op.equal, Op.maxDepth, Lib.run_equalIn_slice_nil w 9999 57 _ a n c 0 0 Tryz.underlying57]
 obtain ⟨f, hf, _⟩ := (tab 110 _ (show lk TT 110 = some _ from rfl)).inf
 have ha : ∀ (a b : Option Addr) (c : Nat) (ty : TypeId) (w : World), (Builtin.append_ #[57, 57] ty #[.slice a 0 0, .slice b 0 c]).run Tryz.prog w = .ok (.slice a 0 0) w := fun a b c ty w => zx9 w 57 ty _ _ Tryz.underlying57 hf a b 0 0 c (Nat.le_refl _)
 cases ao with
 | none =>
  go_enter Tryz.func131, Tryz.ntmps131
  go_wp2
  go_ret
  exact ⟨none, _, rfl, rfl, RowKit.Below.refl _ _⟩
 | some a =>
  go_enter Tryz.func131, Tryz.ntmps131
  go_wp2
  go_ret
  exact ⟨_, _, rfl, rfl, (RowKit.Below.refl _ w).alloc (Nat.le_refl _) _⟩
noncomputable def zg7 (a0 : List (Int × Int)) : Option (List (Int × Int)) := cond (Nat.blt 0 a0.length) (zpH a0) (some [])
noncomputable def zoZ : List A → ze
 | [.lst (.st [(.i .i8), (.i .i16)]) a0] => ⟨List (Int × Int), zg7 a0, fun r => .one (.lst (.st [(.i .i8), (.i .i16)]) r)⟩
 | _ => ze.fail
theorem zPT (a0 : List (Int × Int)) : zrE Tryz.prog 131 [.lst (.st [(.i .i8), (.i .i16)]) a0] ⟨List (Int × Int), zg7 a0, fun r => .one (.lst (.st [(.i .i8), (.i .i16)]) r)⟩ := by
 intro r h w vs hJ hv
 have h : zg7 a0 = some r := h
 unfold zg7 at h
 cases a0 with
 | cons x l => exact ztg [.lst (.st [(.i .i8), (.i .i16)]) (x :: l)] r h w vs hJ hv
 | nil =>
  have h : some ([] : List (Int × Int)) = some r := h
  cases h
  obtain ⟨v, us, rfl, ⟨xs, ao, cap, q1, _, _, _⟩, rfl⟩ := hv
  obtain ⟨rfl, _⟩ := List.cons.inj q1
  refine (zAY ao cap w).mono ?_
  rintro e w' ⟨bo, v, rfl, rfl, hb⟩
  refine ⟨_, rfl, ⟨rfl, fun i a v h1 h2 => ?_, fun i j u v hij h1 h2 => ?_⟩, hb⟩
  ·cases i with
   | succ i => cases h1
   | zero =>
    cases h1; cases h2
    exact ⟨[], rfl, .inl ⟨rfl, _, rfl⟩⟩
  ·cases i with
   | succ i => cases h1
   | zero => cases j with
    | zero => exact absurd rfl hij
    | succ j => cases h2
theorem zh0 : zC Tryz.prog 131 zoZ := by
 refine zoA fun rs => ?_
 unfold zoZ
 split
 ·rename_i a0
  exact zPT a0
 ·intro r h; cases h
end Go.RR
