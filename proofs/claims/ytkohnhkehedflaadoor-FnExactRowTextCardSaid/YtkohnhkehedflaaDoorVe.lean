/- Numbers as texts. -/
import Derived.Test.YtkohnhkehedflaaDoorVd
set_option linter.unusedVariables false
set_option linter.unusedSimpArgs false
set_option maxRecDepth 100000
namespace Go.RR
open Go Go.Proofs
theorem argv_int {w : World} {k : IntKind} {n : Int} {v : Value} (h : ArgV w (.v (.int k n)) v) : v = .int k n := (by simpa [ArgV, isAg, CellsR] using h : v = .int k n ∧ _).1
theorem argv_str {w : World} {z : ByteArray} {v : Value} (h : ArgV w (.v (.string z)) v) : v = .string z := (by simpa [ArgV, isAg, CellsR] using h : v = .string z ∧ _).1
noncomputable def s_strconvFormatInt (a0 a1 : Int) : Option ByteArray := cond (decide (a1 = 10) && (decide (-9223372036854775808 ≤ a0) && decide (a0 ≤ 9223372036854775807))) (some (⟨(Lib.itoa a0).toArray⟩ : ByteArray)) none
noncomputable def c_strconvFormatInt : List A → ACall
  | [.v (.int .i64 a0), .v (.int .i64 a1)] => ⟨ByteArray, s_strconvFormatInt a0 a1, fun r => .one (.v (.string r))⟩
  | _ => ACall.fail
theorem f_strconvFormatInt_sound : Sound Tryd.prog 50 c_strconvFormatInt := by
  refine sound_kit fun rs => ?_
  unfold c_strconvFormatInt
  split
  · rename_i a0 a1
    intro r h w vs hJ hv
    have h : s_strconvFormatInt a0 a1 = some r := h
    unfold s_strconvFormatInt at h
    cases hc : (decide (a1 = 10) && (decide (-9223372036854775808 ≤ a0) && decide (a0 ≤ 9223372036854775807)))
    · rw [hc] at h; cases h
    · rw [hc] at h
      simp only [Bool.and_eq_true, decide_eq_true_eq] at hc
      obtain ⟨rfl, h0, h9⟩ := hc
      cases h
      obtain ⟨v, us, rfl, h1, v2, us2, rfl, h2, rfl⟩ := hv
      obtain rfl := argv_int h1
      obtain rfl := argv_int h2
      refine (Tryd.strconv_FormatInt_10 a0 h0 h9 w hJ).mono ?_
      rintro e w' ⟨rfl, k, os, rfl⟩
      exact ⟨_, rfl, one_plain (fun _ => rfl) rfl, Lib.below_grow _ w (Nat.le_refl _) k os⟩
  · intro r h; cases h

/-! ### function 46: loop.example/g01322/spec.Decimal -/
noncomputable def f_sDecimal_x_c : Code := match Tryd.f46.body with | some c => c | none => .skip
noncomputable def f_sDecimal_x_X : Ctx := ⟨TT, phiOf [], noPsi, noXi⟩
def f_sDecimal_x_LV : List (Nat × Keep) := []
def f_sDecimal_x_rv : List ResultVar := [.tmp 2]
noncomputable def f_sDecimal_x_L (r : List A) : Nat → AS → Option (List A) := L f_sDecimal_x_X (cnOf f_sDecimal_x_LV) f_sDecimal_x_c (K0 TT f_sDecimal_x_rv) r
theorem f_sDecimal_x_ctx : CtxOK Tryd.prog f_sDecimal_x_X := ctx_of tab mix trivial
noncomputable def s_sDecimal_x (a0 : Int) : Option ByteArray := (cond (decide (a0 < 10)) (some (strB [(IntKind.wrap .u8 (IntKind.wrap .i64 (48 + (Int.tmod a0 10))))])) none)
theorem f_sDecimal_x_top (a0 : Int) (r : List A) : ev f_sDecimal_x_X (lpc (cnOf f_sDecimal_x_LV) (f_sDecimal_x_L r)) f_sDecimal_x_c (K0 TT f_sDecimal_x_rv) (enter [.v (.int .i64 a0)]) = (cond (decide (a0 < 10)) (some [.v (.string (strB [(IntKind.wrap .u8 (IntKind.wrap .i64 (48 + (Int.tmod a0 10))))]))]) none) := by kernel_rfl
noncomputable def l_sDecimal_x (r : ByteArray) : List A := [.v (.string r)]
theorem s_sDecimal_x_ok (a0 : Int) (v : ByteArray) (h : s_sDecimal_x a0 = some v) : (cond (decide (a0 < 10)) (some [.v (.string (strB [(IntKind.wrap .u8 (IntKind.wrap .i64 (48 + (Int.tmod a0 10))))]))]) none) = some (l_sDecimal_x v) := by
  have e : (cond (decide (a0 < 10)) (some [.v (.string (strB [(IntKind.wrap .u8 (IntKind.wrap .i64 (48 + (Int.tmod a0 10))))]))]) none) = Option.map l_sDecimal_x (s_sDecimal_x a0) := by
    unfold s_sDecimal_x
    exact (cond_app (Option.map l_sDecimal_x) rfl rfl)
  rw [e, h]; rfl
noncomputable def c_sDecimal_x : List A → ACall
  | [.v (.int .i64 a0)] => ⟨ByteArray, s_sDecimal_x a0, fun r => .one (.v (.string r))⟩
  | _ => ACall.fail
theorem f_sDecimal_x_sound : Sound Tryd.prog 46 c_sDecimal_x := by
  refine sound_good f_sDecimal_x_ctx f_sDecimal_x_LV 1 Tryd.func46 (c := f_sDecimal_x_c) (by kernel_rfl) (rv := f_sDecimal_x_rv) (by kernel_rfl) (by kernel_rfl) (by kernel_rfl) (by kernel_rfl) fun rs => ?_
  unfold c_sDecimal_x
  split
  · rename_i a0; intro v h; exact ⟨rfl, l_sDecimal_x v, rfl, (f_sDecimal_x_top a0 _).trans (s_sDecimal_x_ok a0 v h)⟩
  · intro v h; cases h
def m_sDecimal_x : List A → Bool
  | [_] => true
  | _ => false

/-! ### function 46: loop.example/g01322/spec.Decimal -/
noncomputable def f_sDecimal_y_c : Code := match Tryd.f46.body with | some c => c | none => .skip
noncomputable def f_sDecimal_y_X : Ctx := ⟨TT, phiOf [(46, c_sDecimal_x)], noPsi, noXi⟩
def f_sDecimal_y_LV : List (Nat × Keep) := []
def f_sDecimal_y_rv : List ResultVar := [.tmp 2]
noncomputable def f_sDecimal_y_L (r : List A) : Nat → AS → Option (List A) := L f_sDecimal_y_X (cnOf f_sDecimal_y_LV) f_sDecimal_y_c (K0 TT f_sDecimal_y_rv) r
theorem f_sDecimal_y_ctx : CtxOK Tryd.prog f_sDecimal_y_X := ctx_of tab mix ⟨⟨Tryd.call46, f_sDecimal_x_sound⟩, trivial⟩
noncomputable def s_sDecimal_y (a0 : Int) : Option ByteArray := (cond (decide (a0 < 10)) (some (strB [(IntKind.wrap .u8 (IntKind.wrap .i64 (48 + (Int.tmod a0 10))))])) (Option.bind (s_sDecimal_x (IntKind.wrap .i64 (Int.tdiv a0 10))) fun r1 => (cond (fits (r1.size + (strB [(IntKind.wrap .u8 (IntKind.wrap .i64 (48 + (Int.tmod a0 10))))]).size)) (some (r1 ++ (strB [(IntKind.wrap .u8 (IntKind.wrap .i64 (48 + (Int.tmod a0 10))))]))) none)))
theorem f_sDecimal_y_top (a0 : Int) (r : List A) : ev f_sDecimal_y_X (lpc (cnOf f_sDecimal_y_LV) (f_sDecimal_y_L r)) f_sDecimal_y_c (K0 TT f_sDecimal_y_rv) (enter [.v (.int .i64 a0)]) = (cond (decide (a0 < 10)) (some [.v (.string (strB [(IntKind.wrap .u8 (IntKind.wrap .i64 (48 + (Int.tmod a0 10))))]))]) (Option.bind (s_sDecimal_x (IntKind.wrap .i64 (Int.tdiv a0 10))) fun r1 => (cond (fits (r1.size + (strB [(IntKind.wrap .u8 (IntKind.wrap .i64 (48 + (Int.tmod a0 10))))]).size)) (some [.v (.string (r1 ++ (strB [(IntKind.wrap .u8 (IntKind.wrap .i64 (48 + (Int.tmod a0 10))))])))]) none))) := by kernel_rfl
noncomputable def l_sDecimal_y (r : ByteArray) : List A := [.v (.string r)]
theorem s_sDecimal_y_ok (a0 : Int) (v : ByteArray) (h : s_sDecimal_y a0 = some v) : (cond (decide (a0 < 10)) (some [.v (.string (strB [(IntKind.wrap .u8 (IntKind.wrap .i64 (48 + (Int.tmod a0 10))))]))]) (Option.bind (s_sDecimal_x (IntKind.wrap .i64 (Int.tdiv a0 10))) fun r1 => (cond (fits (r1.size + (strB [(IntKind.wrap .u8 (IntKind.wrap .i64 (48 + (Int.tmod a0 10))))]).size)) (some [.v (.string (r1 ++ (strB [(IntKind.wrap .u8 (IntKind.wrap .i64 (48 + (Int.tmod a0 10))))])))]) none))) = some (l_sDecimal_y v) := by
  have e : (cond (decide (a0 < 10)) (some [.v (.string (strB [(IntKind.wrap .u8 (IntKind.wrap .i64 (48 + (Int.tmod a0 10))))]))]) (Option.bind (s_sDecimal_x (IntKind.wrap .i64 (Int.tdiv a0 10))) fun r1 => (cond (fits (r1.size + (strB [(IntKind.wrap .u8 (IntKind.wrap .i64 (48 + (Int.tmod a0 10))))]).size)) (some [.v (.string (r1 ++ (strB [(IntKind.wrap .u8 (IntKind.wrap .i64 (48 + (Int.tmod a0 10))))])))]) none))) = Option.map l_sDecimal_y (s_sDecimal_y a0) := by
    unfold s_sDecimal_y
    exact (cond_app (Option.map l_sDecimal_y) rfl (bind_app fun _ => (cond_app (Option.map l_sDecimal_y) rfl rfl)))
  rw [e, h]; rfl
noncomputable def c_sDecimal_y : List A → ACall
  | [.v (.int .i64 a0)] => ⟨ByteArray, s_sDecimal_y a0, fun r => .one (.v (.string r))⟩
  | _ => ACall.fail
theorem f_sDecimal_y_sound : Sound Tryd.prog 46 c_sDecimal_y := by
  refine sound_good f_sDecimal_y_ctx f_sDecimal_y_LV 1 Tryd.func46 (c := f_sDecimal_y_c) (by kernel_rfl) (rv := f_sDecimal_y_rv) (by kernel_rfl) (by kernel_rfl) (by kernel_rfl) (by kernel_rfl) fun rs => ?_
  unfold c_sDecimal_y
  split
  · rename_i a0; intro v h; exact ⟨rfl, l_sDecimal_y v, rfl, (f_sDecimal_y_top a0 _).trans (s_sDecimal_y_ok a0 v h)⟩
  · intro v h; cases h
def m_sDecimal_y : List A → Bool
  | [_] => true
  | _ => false

/-! ### function 46: loop.example/g01322/spec.Decimal -/
noncomputable def f_sDecimal_z_c : Code := match Tryd.f46.body with | some c => c | none => .skip
noncomputable def f_sDecimal_z_X : Ctx := ⟨TT, phiOf [(46, c_sDecimal_y)], noPsi, noXi⟩
def f_sDecimal_z_LV : List (Nat × Keep) := []
def f_sDecimal_z_rv : List ResultVar := [.tmp 2]
noncomputable def f_sDecimal_z_L (r : List A) : Nat → AS → Option (List A) := L f_sDecimal_z_X (cnOf f_sDecimal_z_LV) f_sDecimal_z_c (K0 TT f_sDecimal_z_rv) r
theorem f_sDecimal_z_ctx : CtxOK Tryd.prog f_sDecimal_z_X := ctx_of tab mix ⟨⟨Tryd.call46, f_sDecimal_y_sound⟩, trivial⟩
noncomputable def s_sDecimal_z (a0 : Int) : Option ByteArray := (cond (decide (a0 < 10)) (some (strB [(IntKind.wrap .u8 (IntKind.wrap .i64 (48 + (Int.tmod a0 10))))])) (Option.bind (s_sDecimal_y (IntKind.wrap .i64 (Int.tdiv a0 10))) fun r1 => (cond (fits (r1.size + (strB [(IntKind.wrap .u8 (IntKind.wrap .i64 (48 + (Int.tmod a0 10))))]).size)) (some (r1 ++ (strB [(IntKind.wrap .u8 (IntKind.wrap .i64 (48 + (Int.tmod a0 10))))]))) none)))
theorem f_sDecimal_z_top (a0 : Int) (r : List A) : ev f_sDecimal_z_X (lpc (cnOf f_sDecimal_z_LV) (f_sDecimal_z_L r)) f_sDecimal_z_c (K0 TT f_sDecimal_z_rv) (enter [.v (.int .i64 a0)]) = (cond (decide (a0 < 10)) (some [.v (.string (strB [(IntKind.wrap .u8 (IntKind.wrap .i64 (48 + (Int.tmod a0 10))))]))]) (Option.bind (s_sDecimal_y (IntKind.wrap .i64 (Int.tdiv a0 10))) fun r1 => (cond (fits (r1.size + (strB [(IntKind.wrap .u8 (IntKind.wrap .i64 (48 + (Int.tmod a0 10))))]).size)) (some [.v (.string (r1 ++ (strB [(IntKind.wrap .u8 (IntKind.wrap .i64 (48 + (Int.tmod a0 10))))])))]) none))) := by kernel_rfl
noncomputable def l_sDecimal_z (r : ByteArray) : List A := [.v (.string r)]
theorem s_sDecimal_z_ok (a0 : Int) (v : ByteArray) (h : s_sDecimal_z a0 = some v) : (cond (decide (a0 < 10)) (some [.v (.string (strB [(IntKind.wrap .u8 (IntKind.wrap .i64 (48 + (Int.tmod a0 10))))]))]) (Option.bind (s_sDecimal_y (IntKind.wrap .i64 (Int.tdiv a0 10))) fun r1 => (cond (fits (r1.size + (strB [(IntKind.wrap .u8 (IntKind.wrap .i64 (48 + (Int.tmod a0 10))))]).size)) (some [.v (.string (r1 ++ (strB [(IntKind.wrap .u8 (IntKind.wrap .i64 (48 + (Int.tmod a0 10))))])))]) none))) = some (l_sDecimal_z v) := by
  have e : (cond (decide (a0 < 10)) (some [.v (.string (strB [(IntKind.wrap .u8 (IntKind.wrap .i64 (48 + (Int.tmod a0 10))))]))]) (Option.bind (s_sDecimal_y (IntKind.wrap .i64 (Int.tdiv a0 10))) fun r1 => (cond (fits (r1.size + (strB [(IntKind.wrap .u8 (IntKind.wrap .i64 (48 + (Int.tmod a0 10))))]).size)) (some [.v (.string (r1 ++ (strB [(IntKind.wrap .u8 (IntKind.wrap .i64 (48 + (Int.tmod a0 10))))])))]) none))) = Option.map l_sDecimal_z (s_sDecimal_z a0) := by
    unfold s_sDecimal_z
    exact (cond_app (Option.map l_sDecimal_z) rfl (bind_app fun _ => (cond_app (Option.map l_sDecimal_z) rfl rfl)))
  rw [e, h]; rfl
noncomputable def c_sDecimal_z : List A → ACall
  | [.v (.int .i64 a0)] => ⟨ByteArray, s_sDecimal_z a0, fun r => .one (.v (.string r))⟩
  | _ => ACall.fail
theorem f_sDecimal_z_sound : Sound Tryd.prog 46 c_sDecimal_z := by
  refine sound_good f_sDecimal_z_ctx f_sDecimal_z_LV 1 Tryd.func46 (c := f_sDecimal_z_c) (by kernel_rfl) (rv := f_sDecimal_z_rv) (by kernel_rfl) (by kernel_rfl) (by kernel_rfl) (by kernel_rfl) fun rs => ?_
  unfold c_sDecimal_z
  split
  · rename_i a0; intro v h; exact ⟨rfl, l_sDecimal_z v, rfl, (f_sDecimal_z_top a0 _).trans (s_sDecimal_z_ok a0 v h)⟩
  · intro v h; cases h
def m_sDecimal_z : List A → Bool
  | [_] => true
  | _ => false
end Go.RR
