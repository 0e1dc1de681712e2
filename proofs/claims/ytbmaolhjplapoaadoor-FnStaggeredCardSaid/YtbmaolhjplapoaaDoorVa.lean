/- Bytes in a text. -/
import Derived.Test.YtbmaolhjplapoaaDoorTb
import Derived.Test.YtbmaolhjplapoaaDoorRw
import Derived.Test.YtbmaolhjplapoaaDoorSh
set_option linter.unusedVariables false
set_option linter.unusedSimpArgs false
set_option linter.unusedSectionVars false
set_option maxRecDepth 100000
namespace Go.RR
open Go Go.Proofs
def SoundAt (P : Program) (f : Nat) (rs : List A) (C : ACall) : Prop :=
  ∀ r, C.c = some r → ∀ w vs, JJ P w → ArgsV w rs vs → Calls P f vs.toArray w fun e w' => ∃ v, e = .returned v ∧ ResR w w' (C.res r) v ∧ RowKit.Below w.heap.size w w'
theorem sound_kit {P : Program} {f : Nat} {Φ : List A → ACall} (h : ∀ rs, SoundAt P f rs (Φ rs)) : Sound P f Φ := fun rs r e w vs hJ hv => h rs r e w vs hJ hv
theorem one_plain {w w' : World} {x v : Value} (h : ∀ H, WfA H (.v x)) (hv : v = x) : ResR w w' (.one (.v x)) v := by
  subst hv
  refine ⟨rfl, fun i a v h1 h2 => ?_, fun i j u v hij h1 h2 => ?_⟩
  · cases i with
    | zero => cases h1; cases h2; exact ⟨h, rfl⟩
    | succ i => cases h1
  · cases i with
    | succ i => cases h1
    | zero => cases j with
      | zero => exact absurd rfl hij
      | succ j => cases h2
noncomputable def s_stringsIndexByte (a0 : ByteArray) (a1 : Int) : Int := Lib.indexByte a0.data.toList a1.toNat.toUInt8
noncomputable def c_stringsIndexByte : List A → ACall
  | [.v (.string a0), .v (.int .u8 a1)] => ⟨Int, some (s_stringsIndexByte a0 a1), fun r => .one (.v (.int .i64 r))⟩
  | _ => ACall.fail
theorem f_stringsIndexByte_sound : Sound Tryd.prog 93 c_stringsIndexByte := by
  refine sound_kit fun rs => ?_
  unfold c_stringsIndexByte
  split
  · rename_i a0 a1
    intro r h w vs hJ hv
    cases h
    obtain ⟨v, us, rfl, h1, v2, us2, rfl, h2, rfl⟩ := hv
    have h1 : v = .string a0 := (by simpa [ArgV, isAg, CellsR] using h1 : v = .string a0 ∧ _).1
    have h2 : v2 = .int .u8 a1 := (by simpa [ArgV, isAg, CellsR] using h2 : v2 = .int .u8 a1 ∧ _).1
    subst h1 h2
    refine (Tryd.strings_IndexByte a0 a1 w).mono ?_
    rintro e w' ⟨rfl, rfl⟩
    exact ⟨_, rfl, one_plain (fun _ => rfl) rfl, ⟨rfl, rfl, rfl, Nat.le_refl _, fun _ _ => rfl⟩⟩
  · intro r h; cases h
end Go.RR
