/- Jobs of a text: numbers as texts. -/
import Derived.Test.YtbmaolhjplapoaaDoorVc
set_option linter.unusedVariables false
set_option linter.unusedSimpArgs false
set_option maxRecDepth 100000
namespace Go.RR
open Go Go.Proofs
noncomputable def s_strconvFormatInt (a0 a1 : Int) : Option ByteArray := cond (decide (a1 = 10) && (decide (-9223372036854775808 ≤ a0) && decide (a0 ≤ 9223372036854775807))) (some (⟨(Lib.itoa a0).toArray⟩ : ByteArray)) none
noncomputable def c_strconvFormatInt : List A → ACall
  | [.v (.int .i64 a0), .v (.int .i64 a1)] => ⟨ByteArray, s_strconvFormatInt a0 a1, fun r => .one (.v (.string r))⟩
  | _ => ACall.fail
theorem f_strconvFormatInt_sound : Sound Tryd.prog 108 c_strconvFormatInt := by
  refine sound_kit fun rs => ?_
  unfold c_strconvFormatInt
  split
  · rename_i a0 a1
    intro r h w vs hJ hv
    have h : s_strconvFormatInt a0 a1 = some r := h
    unfold s_strconvFormatInt at h
    cases hc : (decide (a1 = 10) && (decide (-9223372036854775808 ≤ a0) && decide (a0 ≤ 9223372036854775807)))
    · rw [hc] at h; cases h
    · rw [hc] at h
      simp only [Bool.and_eq_true, decide_eq_true_eq] at hc
      obtain ⟨rfl, h0, h9⟩ := hc
      cases h
      obtain ⟨v, us, rfl, h1, v2, us2, rfl, h2, rfl⟩ := hv
      obtain rfl := argv_int h1
      obtain rfl := argv_int h2
      refine (Tryd.strconv_FormatInt_10 a0 h0 h9 w hJ.1).mono ?_
      rintro e w' ⟨rfl, k, os, rfl⟩
      exact ⟨_, rfl, one_plain (fun _ => rfl) rfl, Lib.below_grow _ w (Nat.le_refl _) k os⟩
  · intro r h; cases h

/-! ### function 96: loop.example/g01322/spec.Decimal -/
noncomputable def f_sDecimal_x_c : Code := match Tryd.f96.body with | some c => c | none => .skip
noncomputable def f_sDecimal_x_X : Ctx := ⟨TT, phiOf [], noPsi, noXi⟩
def f_sDecimal_x_LV : List (Nat × Keep) := []
def f_sDecimal_x_rv : List ResultVar := [.tmp 2]
noncomputable def f_sDecimal_x_L (r : List A) : Nat → AS → Option (List A) := L f_sDecimal_x_X (cnOf f_sDecimal_x_LV) f_sDecimal_x_c (K0 TT f_sDecimal_x_rv) r
theorem f_sDecimal_x_ctx : CtxOK Tryd.prog f_sDecimal_x_X := ctx_of tab mix trivial
noncomputable def s_sDecimal_x (a0 : Int) : Option ByteArray := (cond (decide (a0 < 10)) (some (strB [(IntKind.wrap .u8 (IntKind.wrap .i64 (48 + (Int.tmod a0 10))))])) none)
theorem f_sDecimal_x_top (a0 : Int) (r : List A) : ev f_sDecimal_x_X (lpc (cnOf f_sDecimal_x_LV) (f_sDecimal_x_L r)) f_sDecimal_x_c (K0 TT f_sDecimal_x_rv) (enter [.v (.int .i64 a0)]) = (cond (decide (a0 < 10)) (some [.v (.string (strB [(IntKind.wrap .u8 (IntKind.wrap .i64 (48 + (Int.tmod a0 10))))]))]) none) := by kernel_rfl
noncomputable def l_sDecimal_x (r : ByteArray) : List A := [.v (.string r)]
theorem s_sDecimal_x_ok (a0 : Int) (v : ByteArray) (h : s_sDecimal_x a0 = some v) : (cond (decide (a0 < 10)) (some [.v (.string (strB [(IntKind.wrap .u8 (IntKind.wrap .i64 (48 + (Int.tmod a0 10))))]))]) none) = some (l_sDecimal_x v) := by
  have e : (cond (decide (a0 < 10)) (some [.v (.string (strB [(IntKind.wrap .u8 (IntKind.wrap .i64 (48 + (Int.tmod a0 10))))]))]) none) = Option.map l_sDecimal_x (s_sDecimal_x a0) := by
    unfold s_sDecimal_x
    exact (cond_app (Option.map l_sDecimal_x) rfl rfl)
  rw [e, h]; rfl
noncomputable def c_sDecimal_x : List A → ACall
  | [.v (.int .i64 a0)] => ⟨ByteArray, s_sDecimal_x a0, fun r => .one (.v (.string r))⟩
  | _ => ACall.fail
theorem f_sDecimal_x_sound : Sound Tryd.prog 96 c_sDecimal_x := by
  refine sound_good f_sDecimal_x_ctx f_sDecimal_x_LV 1 Tryd.func96 (c := f_sDecimal_x_c) (by kernel_rfl) (rv := f_sDecimal_x_rv) (by kernel_rfl) (by kernel_rfl) (by kernel_rfl) (by kernel_rfl) fun rs => ?_
  unfold c_sDecimal_x
  split
  · rename_i a0; intro v h; exact ⟨rfl, l_sDecimal_x v, rfl, (f_sDecimal_x_top a0 _).trans (s_sDecimal_x_ok a0 v h)⟩
  · intro v h; cases h
def m_sDecimal_x : List A → Bool
  | [_] => true
  | _ => false

/-! ### function 96: loop.example/g01322/spec.Decimal -/
noncomputable def f_sDecimal_y_c : Code := match Tryd.f96.body with | some c => c | none => .skip
noncomputable def f_sDecimal_y_X : Ctx := ⟨TT, phiOf [(96, c_sDecimal_x)], noPsi, noXi⟩
def f_sDecimal_y_LV : List (Nat × Keep) := []
def f_sDecimal_y_rv : List ResultVar := [.tmp 2]
noncomputable def f_sDecimal_y_L (r : List A) : Nat → AS → Option (List A) := L f_sDecimal_y_X (cnOf f_sDecimal_y_LV) f_sDecimal_y_c (K0 TT f_sDecimal_y_rv) r
theorem f_sDecimal_y_ctx : CtxOK Tryd.prog f_sDecimal_y_X := ctx_of tab mix ⟨⟨Tryd.call96, f_sDecimal_x_sound⟩, trivial⟩
noncomputable def s_sDecimal_y (a0 : Int) : Option ByteArray := (cond (decide (a0 < 10)) (some (strB [(IntKind.wrap .u8 (IntKind.wrap .i64 (48 + (Int.tmod a0 10))))])) (Option.bind (s_sDecimal_x (IntKind.wrap .i64 (Int.tdiv a0 10))) fun r1 => (cond (fits (r1.size + (strB [(IntKind.wrap .u8 (IntKind.wrap .i64 (48 + (Int.tmod a0 10))))]).size)) (some (r1 ++ (strB [(IntKind.wrap .u8 (IntKind.wrap .i64 (48 + (Int.tmod a0 10))))]))) none)))
theorem f_sDecimal_y_top (a0 : Int) (r : List A) : ev f_sDecimal_y_X (lpc (cnOf f_sDecimal_y_LV) (f_sDecimal_y_L r)) f_sDecimal_y_c (K0 TT f_sDecimal_y_rv) (enter [.v (.int .i64 a0)]) = (cond (decide (a0 < 10)) (some [.v (.string (strB [(IntKind.wrap .u8 (IntKind.wrap .i64 (48 + (Int.tmod a0 10))))]))]) (Option.bind (s_sDecimal_x (IntKind.wrap .i64 (Int.tdiv a0 10))) fun r1 => (cond (fits (r1.size + (strB [(IntKind.wrap .u8 (IntKind.wrap .i64 (48 + (Int.tmod a0 10))))]).size)) (some [.v (.string (r1 ++ (strB [(IntKind.wrap .u8 (IntKind.wrap .i64 (48 + (Int.tmod a0 10))))])))]) none))) := by kernel_rfl
noncomputable def l_sDecimal_y (r : ByteArray) : List A := [.v (.string r)]
theorem s_sDecimal_y_ok (a0 : Int) (v : ByteArray) (h : s_sDecimal_y a0 = some v) : (cond (decide (a0 < 10)) (some [.v (.string (strB [(IntKind.wrap .u8 (IntKind.wrap .i64 (48 + (Int.tmod a0 10))))]))]) (Option.bind (s_sDecimal_x (IntKind.wrap .i64 (Int.tdiv a0 10))) fun r1 => (cond (fits (r1.size + (strB [(IntKind.wrap .u8 (IntKind.wrap .i64 (48 + (Int.tmod a0 10))))]).size)) (some [.v (.string (r1 ++ (strB [(IntKind.wrap .u8 (IntKind.wrap .i64 (48 + (Int.tmod a0 10))))])))]) none))) = some (l_sDecimal_y v) := by
  have e : (cond (decide (a0 < 10)) (some [.v (.string (strB [(IntKind.wrap .u8 (IntKind.wrap .i64 (48 + (Int.tmod a0 10))))]))]) (Option.bind (s_sDecimal_x (IntKind.wrap .i64 (Int.tdiv a0 10))) fun r1 => (cond (fits (r1.size + (strB [(IntKind.wrap .u8 (IntKind.wrap .i64 (48 + (Int.tmod a0 10))))]).size)) (some [.v (.string (r1 ++ (strB [(IntKind.wrap .u8 (IntKind.wrap .i64 (48 + (Int.tmod a0 10))))])))]) none))) = Option.map l_sDecimal_y (s_sDecimal_y a0) := by
    unfold s_sDecimal_y
    exact (cond_app (Option.map l_sDecimal_y) rfl (bind_app fun _ => (cond_app (Option.map l_sDecimal_y) rfl rfl)))
  rw [e, h]; rfl
noncomputable def c_sDecimal_y : List A → ACall
  | [.v (.int .i64 a0)] => ⟨ByteArray, s_sDecimal_y a0, fun r => .one (.v (.string r))⟩
  | _ => ACall.fail
theorem f_sDecimal_y_sound : Sound Tryd.prog 96 c_sDecimal_y := by
  refine sound_good f_sDecimal_y_ctx f_sDecimal_y_LV 1 Tryd.func96 (c := f_sDecimal_y_c) (by kernel_rfl) (rv := f_sDecimal_y_rv) (by kernel_rfl) (by kernel_rfl) (by kernel_rfl) (by kernel_rfl) fun rs => ?_
  unfold c_sDecimal_y
  split
  · rename_i a0; intro v h; exact ⟨rfl, l_sDecimal_y v, rfl, (f_sDecimal_y_top a0 _).trans (s_sDecimal_y_ok a0 v h)⟩
  · intro v h; cases h
def m_sDecimal_y : List A → Bool
  | [_] => true
  | _ => false

/-! ### function 96: loop.example/g01322/spec.Decimal -/
noncomputable def f_sDecimal_z_c : Code := match Tryd.f96.body with | some c => c | none => .skip
noncomputable def f_sDecimal_z_X : Ctx := ⟨TT, phiOf [(96, c_sDecimal_y)], noPsi, noXi⟩
def f_sDecimal_z_LV : List (Nat × Keep) := []
def f_sDecimal_z_rv : List ResultVar := [.tmp 2]
noncomputable def f_sDecimal_z_L (r : List A) : Nat → AS → Option (List A) := L f_sDecimal_z_X (cnOf f_sDecimal_z_LV) f_sDecimal_z_c (K0 TT f_sDecimal_z_rv) r
theorem f_sDecimal_z_ctx : CtxOK Tryd.prog f_sDecimal_z_X := ctx_of tab mix ⟨⟨Tryd.call96, f_sDecimal_y_sound⟩, trivial⟩
noncomputable def s_sDecimal_z (a0 : Int) : Option ByteArray := (cond (decide (a0 < 10)) (some (strB [(IntKind.wrap .u8 (IntKind.wrap .i64 (48 + (Int.tmod a0 10))))])) (Option.bind (s_sDecimal_y (IntKind.wrap .i64 (Int.tdiv a0 10))) fun r1 => (cond (fits (r1.size + (strB [(IntKind.wrap .u8 (IntKind.wrap .i64 (48 + (Int.tmod a0 10))))]).size)) (some (r1 ++ (strB [(IntKind.wrap .u8 (IntKind.wrap .i64 (48 + (Int.tmod a0 10))))]))) none)))
theorem f_sDecimal_z_top (a0 : Int) (r : List A) : ev f_sDecimal_z_X (lpc (cnOf f_sDecimal_z_LV) (f_sDecimal_z_L r)) f_sDecimal_z_c (K0 TT f_sDecimal_z_rv) (enter [.v (.int .i64 a0)]) = (cond (decide (a0 < 10)) (some [.v (.string (strB [(IntKind.wrap .u8 (IntKind.wrap .i64 (48 + (Int.tmod a0 10))))]))]) (Option.bind (s_sDecimal_y (IntKind.wrap .i64 (Int.tdiv a0 10))) fun r1 => (cond (fits (r1.size + (strB [(IntKind.wrap .u8 (IntKind.wrap .i64 (48 + (Int.tmod a0 10))))]).size)) (some [.v (.string (r1 ++ (strB [(IntKind.wrap .u8 (IntKind.wrap .i64 (48 + (Int.tmod a0 10))))])))]) none))) := by kernel_rfl
noncomputable def l_sDecimal_z (r : ByteArray) : List A := [.v (.string r)]
theorem s_sDecimal_z_ok (a0 : Int) (v : ByteArray) (h : s_sDecimal_z a0 = some v) : (cond (decide (a0 < 10)) (some [.v (.string (strB [(IntKind.wrap .u8 (IntKind.wrap .i64 (48 + (Int.tmod a0 10))))]))]) (Option.bind (s_sDecimal_y (IntKind.wrap .i64 (Int.tdiv a0 10))) fun r1 => (cond (fits (r1.size + (strB [(IntKind.wrap .u8 (IntKind.wrap .i64 (48 + (Int.tmod a0 10))))]).size)) (some [.v (.string (r1 ++ (strB [(IntKind.wrap .u8 (IntKind.wrap .i64 (48 + (Int.tmod a0 10))))])))]) none))) = some (l_sDecimal_z v) := by
  have e : (cond (decide (a0 < 10)) (some [.v (.string (strB [(IntKind.wrap .u8 (IntKind.wrap .i64 (48 + (Int.tmod a0 10))))]))]) (Option.bind (s_sDecimal_y (IntKind.wrap .i64 (Int.tdiv a0 10))) fun r1 => (cond (fits (r1.size + (strB [(IntKind.wrap .u8 (IntKind.wrap .i64 (48 + (Int.tmod a0 10))))]).size)) (some [.v (.string (r1 ++ (strB [(IntKind.wrap .u8 (IntKind.wrap .i64 (48 + (Int.tmod a0 10))))])))]) none))) = Option.map l_sDecimal_z (s_sDecimal_z a0) := by
    unfold s_sDecimal_z
    exact (cond_app (Option.map l_sDecimal_z) rfl (bind_app fun _ => (cond_app (Option.map l_sDecimal_z) rfl rfl)))
  rw [e, h]; rfl
noncomputable def c_sDecimal_z : List A → ACall
  | [.v (.int .i64 a0)] => ⟨ByteArray, s_sDecimal_z a0, fun r => .one (.v (.string r))⟩
  | _ => ACall.fail
theorem f_sDecimal_z_sound : Sound Tryd.prog 96 c_sDecimal_z := by
  refine sound_good f_sDecimal_z_ctx f_sDecimal_z_LV 1 Tryd.func96 (c := f_sDecimal_z_c) (by kernel_rfl) (rv := f_sDecimal_z_rv) (by kernel_rfl) (by kernel_rfl) (by kernel_rfl) (by kernel_rfl) fun rs => ?_
  unfold c_sDecimal_z
  split
  · rename_i a0; intro v h; exact ⟨rfl, l_sDecimal_z v, rfl, (f_sDecimal_z_top a0 _).trans (s_sDecimal_z_ok a0 v h)⟩
  · intro v h; cases h
def m_sDecimal_z : List A → Bool
  | [_] => true
  | _ => false
noncomputable def s_stringsJoin (a0 : List ByteArray) (a1 : ByteArray) : Option ByteArray := cond (Nat.ble a0.length 1000000 && Nat.ble (Lib.join (a0.map (·.data.toList)) a1.data.toList).length 140737488355328) (some (⟨(Lib.join (a0.map (·.data.toList)) a1.data.toList).toArray⟩ : ByteArray)) none
noncomputable def c_stringsJoin : List A → ACall
  | [.lst (.one .s) a0, .v (.string a1)] => ⟨ByteArray, s_stringsJoin a0 a1, fun r => .one (.v (.string r))⟩
  | _ => ACall.fail
theorem f_stringsJoin_at (a0 : List ByteArray) (a1 : ByteArray) : SoundAt Tryd.prog 102 [.lst (.one .s) a0, .v (.string a1)] ⟨ByteArray, s_stringsJoin a0 a1, fun r => .one (.v (.string r))⟩ := by
  intro r h w vs hJ hv
  have h : s_stringsJoin a0 a1 = some r := h
  unfold s_stringsJoin at h
  cases hc : (Nat.ble a0.length 1000000 && Nat.ble (Lib.join (a0.map (·.data.toList)) a1.data.toList).length 140737488355328)
  · rw [hc] at h; cases h
  · rw [hc] at h
    rw [Bool.and_eq_true, Nat.ble_eq, Nat.ble_eq] at hc
    cases h
    obtain ⟨v, us, rfl, h1, v2, us2, rfl, h2, rfl⟩ := hv
    obtain ⟨ao, cap, rfl, hcap, h3⟩ := argv_strs h1
    obtain rfl := argv_str h2
    cases a0 with
    | nil =>
      refine (Tryd.strings_Join_none ao cap a1 w).mono ?_
      rintro e w' ⟨rfl, rfl⟩
      exact ⟨_, rfl, one_plain (fun _ => rfl) rfl, ⟨rfl, rfl, rfl, Nat.le_refl _, fun _ _ => rfl⟩⟩
    | cons x a0 =>
      obtain ⟨g, o, rfl, hg, h4⟩ := h3 (fun q => nomatch q)
      refine (Tryd.strings_Join g o cap (x :: a0) a1 w h4 hg (by omega) hcap hc.2).mono ?_
      rintro e w' ⟨rfl, hb⟩
      exact ⟨_, rfl, one_plain (fun _ => rfl) rfl, hb⟩
theorem f_stringsJoin_sound : Sound Tryd.prog 102 c_stringsJoin := by
  refine sound_kit fun rs => ?_
  unfold c_stringsJoin
  split
  · rename_i a0 a1
    exact f_stringsJoin_at a0 a1
  · intro r h; cases h
end Go.RR
