/- The functions of PartnerOf. -/
import Derived.Test.YtmbjjahfjbhbcaaTa
set_option linter.unusedVariables false
set_option linter.unusedSimpArgs false
set_option maxRecDepth 100000
namespace Go.RR
open Go Go.Proofs

/-! ### function 57: loop.example/g01322/spec.l00In -/
noncomputable def f57_c : Code := match Try.f57.body with | some c => c | none => .skip
noncomputable def f57_X : Ctx := ⟨TT, phiOf [], noPsi⟩
def f57_LV : List (Nat × Keep) := []
def f57_rv : List ResultVar := [.tmp 6]
noncomputable def f57_L (r : List A) : Nat → AS → Option (List A) := L f57_X (cnOf f57_LV) f57_c (K0 TT f57_rv) r
theorem f57_ctx : CtxOK Try.prog f57_X := ctx_of tab mix trivial
noncomputable def s57 (a0 : Int) (a1 : Int) (a2 : Int) : Bool := (cond (decide (a0 ≥ a1)) (decide (a0 ≤ a2)) false)
theorem f57_top (a0 : Int) (a1 : Int) (a2 : Int) (r : List A) : ev f57_X (lpc (cnOf f57_LV) (f57_L r)) f57_c (K0 TT f57_rv) (enter [.v (.int .i64 a0), .v (.int .i64 a1), .v (.int .i64 a2)]) = (cond (decide (a0 ≥ a1)) (some [.v (.bool (decide (a0 ≤ a2)))]) (some [.v (.bool false)])) := by kernel_rfl
noncomputable def l57 (r : Bool) : List A := [.v (.bool r)]
theorem s57_ok (a0 : Int) (a1 : Int) (a2 : Int) : (cond (decide (a0 ≥ a1)) (some [.v (.bool (decide (a0 ≤ a2)))]) (some [.v (.bool false)])) = some (l57 (s57 a0 a1 a2)) := by
  unfold s57
  exact (cond_app (fun x => some (l57 x)) rfl rfl)
noncomputable def c57 : List A → ACall
  | [.v (.int .i64 a0), .v (.int .i64 a1), .v (.int .i64 a2)] => ⟨Bool, some (s57 a0 a1 a2), fun r => .one (.v (.bool r))⟩
  | _ => ACall.fail
theorem f57_sound : Sound Try.prog 57 c57 := by
  refine sound_good f57_ctx f57_LV 3 Try.func57 (c := f57_c) (by kernel_rfl) (rv := f57_rv) (by kernel_rfl) (by kernel_rfl) (by kernel_rfl) (by kernel_rfl) fun rs => ?_
  unfold c57
  split
  · rename_i a0 a1 a2; intro v h; cases h; exact ⟨rfl, l57 (s57 a0 a1 a2), rfl, (f57_top a0 a1 a2 _).trans (s57_ok a0 a1 a2)⟩
  · intro v h; cases h

/-! ### function 63: loop.example/g01322/impl.within -/
noncomputable def f63_c : Code := match Try.f63.body with | some c => c | none => .skip
noncomputable def f63_X : Ctx := ⟨TT, phiOf [], noPsi⟩
def f63_LV : List (Nat × Keep) := []
def f63_rv : List ResultVar := [.tmp 6]
noncomputable def f63_L (r : List A) : Nat → AS → Option (List A) := L f63_X (cnOf f63_LV) f63_c (K0 TT f63_rv) r
theorem f63_ctx : CtxOK Try.prog f63_X := ctx_of tab mix trivial
noncomputable def s63 (a0 : Int) (a1 : Int) (a2 : Int) : Bool := (cond (decide (a1 ≤ a0)) (decide (a0 ≤ a2)) false)
theorem f63_top (a0 : Int) (a1 : Int) (a2 : Int) (r : List A) : ev f63_X (lpc (cnOf f63_LV) (f63_L r)) f63_c (K0 TT f63_rv) (enter [.v (.int .i64 a0), .v (.int .i64 a1), .v (.int .i64 a2)]) = (cond (decide (a1 ≤ a0)) (some [.v (.bool (decide (a0 ≤ a2)))]) (some [.v (.bool false)])) := by kernel_rfl
noncomputable def l63 (r : Bool) : List A := [.v (.bool r)]
theorem s63_ok (a0 : Int) (a1 : Int) (a2 : Int) : (cond (decide (a1 ≤ a0)) (some [.v (.bool (decide (a0 ≤ a2)))]) (some [.v (.bool false)])) = some (l63 (s63 a0 a1 a2)) := by
  unfold s63
  exact (cond_app (fun x => some (l63 x)) rfl rfl)
noncomputable def c63 : List A → ACall
  | [.v (.int .i64 a0), .v (.int .i64 a1), .v (.int .i64 a2)] => ⟨Bool, some (s63 a0 a1 a2), fun r => .one (.v (.bool r))⟩
  | _ => ACall.fail
theorem f63_sound : Sound Try.prog 63 c63 := by
  refine sound_good f63_ctx f63_LV 3 Try.func63 (c := f63_c) (by kernel_rfl) (rv := f63_rv) (by kernel_rfl) (by kernel_rfl) (by kernel_rfl) (by kernel_rfl) fun rs => ?_
  unfold c63
  split
  · rename_i a0 a1 a2; intro v h; cases h; exact ⟨rfl, l63 (s63 a0 a1 a2), rfl, (f63_top a0 a1 a2 _).trans (s63_ok a0 a1 a2)⟩
  · intro v h; cases h

/-! ### function 82: loop.example/g01322/impl.isSize -/
noncomputable def f82_c : Code := match Try.f82.body with | some c => c | none => .skip
noncomputable def f82_X : Ctx := ⟨TT, phiOf [(63, c63)], noPsi⟩
def f82_LV : List (Nat × Keep) := []
def f82_rv : List ResultVar := [.tmp 4]
noncomputable def f82_L (r : List A) : Nat → AS → Option (List A) := L f82_X (cnOf f82_LV) f82_c (K0 TT f82_rv) r
theorem f82_ctx : CtxOK Try.prog f82_X := ctx_of tab mix ⟨⟨Try.call63, f63_sound⟩, trivial⟩
noncomputable def s82 (a0 : Int) (a1 : Int) : Bool := (cond (s63 a0 1 12) (s63 a1 1 12) false)
theorem f82_top (a0 : Int) (a1 : Int) (r : List A) : ev f82_X (lpc (cnOf f82_LV) (f82_L r)) f82_c (K0 TT f82_rv) (enter [.v (.int .i64 a0), .v (.int .i64 a1)]) = (cond (s63 a0 1 12) (some [.v (.bool (s63 a1 1 12))]) (some [.v (.bool false)])) := by kernel_rfl
noncomputable def l82 (r : Bool) : List A := [.v (.bool r)]
theorem s82_ok (a0 : Int) (a1 : Int) : (cond (s63 a0 1 12) (some [.v (.bool (s63 a1 1 12))]) (some [.v (.bool false)])) = some (l82 (s82 a0 a1)) := by
  unfold s82
  exact (cond_app (fun x => some (l82 x)) rfl rfl)
noncomputable def c82 : List A → ACall
  | [.v (.int .i64 a0), .v (.int .i64 a1)] => ⟨Bool, some (s82 a0 a1), fun r => .one (.v (.bool r))⟩
  | _ => ACall.fail
theorem f82_sound : Sound Try.prog 82 c82 := by
  refine sound_good f82_ctx f82_LV 2 Try.func82 (c := f82_c) (by kernel_rfl) (rv := f82_rv) (by kernel_rfl) (by kernel_rfl) (by kernel_rfl) (by kernel_rfl) fun rs => ?_
  unfold c82
  split
  · rename_i a0 a1; intro v h; cases h; exact ⟨rfl, l82 (s82 a0 a1), rfl, (f82_top a0 a1 _).trans (s82_ok a0 a1)⟩
  · intro v h; cases h

/-! ### function 96: loop.example/g01322/impl.isCell -/
noncomputable def f96_c : Code := match Try.f96.body with | some c => c | none => .skip
noncomputable def f96_X : Ctx := ⟨TT, phiOf [(63, c63)], noPsi⟩
def f96_LV : List (Nat × Keep) := []
def f96_rv : List ResultVar := [.tmp 8]
noncomputable def f96_L (r : List A) : Nat → AS → Option (List A) := L f96_X (cnOf f96_LV) f96_c (K0 TT f96_rv) r
theorem f96_ctx : CtxOK Try.prog f96_X := ctx_of tab mix ⟨⟨Try.call63, f63_sound⟩, trivial⟩
noncomputable def s96 (a0 : Int) (a1 : Int) (a2 : Int) (a3 : Int) : Bool := (cond (s63 a0 0 (IntKind.wrap .i64 ((IntKind.wrap .i64 a2) - 1))) (s63 a1 0 (IntKind.wrap .i64 ((IntKind.wrap .i64 a3) - 1))) false)
theorem f96_top (a0 : Int) (a1 : Int) (a2 : Int) (a3 : Int) (r : List A) : ev f96_X (lpc (cnOf f96_LV) (f96_L r)) f96_c (K0 TT f96_rv) (enter [.v (.int .i64 a0), .v (.int .i64 a1), .v (.int .i8 a2), .v (.int .i8 a3)]) = (cond (s63 a0 0 (IntKind.wrap .i64 ((IntKind.wrap .i64 a2) - 1))) (some [.v (.bool (s63 a1 0 (IntKind.wrap .i64 ((IntKind.wrap .i64 a3) - 1))))]) (some [.v (.bool false)])) := by kernel_rfl
noncomputable def l96 (r : Bool) : List A := [.v (.bool r)]
theorem s96_ok (a0 : Int) (a1 : Int) (a2 : Int) (a3 : Int) : (cond (s63 a0 0 (IntKind.wrap .i64 ((IntKind.wrap .i64 a2) - 1))) (some [.v (.bool (s63 a1 0 (IntKind.wrap .i64 ((IntKind.wrap .i64 a3) - 1))))]) (some [.v (.bool false)])) = some (l96 (s96 a0 a1 a2 a3)) := by
  unfold s96
  exact (cond_app (fun x => some (l96 x)) rfl rfl)
noncomputable def c96 : List A → ACall
  | [.v (.int .i64 a0), .v (.int .i64 a1), .v (.int .i8 a2), .v (.int .i8 a3)] => ⟨Bool, some (s96 a0 a1 a2 a3), fun r => .one (.v (.bool r))⟩
  | _ => ACall.fail
theorem f96_sound : Sound Try.prog 96 c96 := by
  refine sound_good f96_ctx f96_LV 4 Try.func96 (c := f96_c) (by kernel_rfl) (rv := f96_rv) (by kernel_rfl) (by kernel_rfl) (by kernel_rfl) (by kernel_rfl) fun rs => ?_
  unfold c96
  split
  · rename_i a0 a1 a2 a3; intro v h; cases h; exact ⟨rfl, l96 (s96 a0 a1 a2 a3), rfl, (f96_top a0 a1 a2 a3 _).trans (s96_ok a0 a1 a2 a3)⟩
  · intro v h; cases h

/-! ### function 83: (loop.example/g01322/impl.Picture).has -/
noncomputable def f83_c : Code := match Try.f83.body with | some c => c | none => .skip
noncomputable def f83_X : Ctx := ⟨TT, phiOf [(96, c96)], noPsi⟩
def f83_LV : List (Nat × Keep) := []
def f83_rv : List ResultVar := [.tmp 6]
noncomputable def f83_L (r : List A) : Nat → AS → Option (List A) := L f83_X (cnOf f83_LV) f83_c (K0 TT f83_rv) r
theorem f83_ctx : CtxOK Try.prog f83_X := ctx_of tab mix ⟨⟨Try.call96, f96_sound⟩, trivial⟩
noncomputable def s83 (a0 : Int) (a1 : Int) (a2 : (Nat → Int)) (a3 : Int) (a4 : Int) : Bool := (s96 a3 a4 a0 a1)
theorem f83_top (a0 : Int) (a1 : Int) (a2 : (Nat → Int)) (a3 : Int) (a4 : Int) (r : List A) : ev f83_X (lpc (cnOf f83_LV) (f83_L r)) f83_c (K0 TT f83_rv) (enter [.rc [.v (.int .i8 a0), .v (.int .i8 a1), .fa 144 .u8 a2], .v (.int .i64 a3), .v (.int .i64 a4)]) = (some [.v (.bool (s96 a3 a4 a0 a1))]) := by kernel_rfl
noncomputable def l83 (r : Bool) : List A := [.v (.bool r)]
theorem s83_ok (a0 : Int) (a1 : Int) (a2 : (Nat → Int)) (a3 : Int) (a4 : Int) : (some [.v (.bool (s96 a3 a4 a0 a1))]) = some (l83 (s83 a0 a1 a2 a3 a4)) := by
  unfold s83
  exact rfl
noncomputable def c83 : List A → ACall
  | [.rc [.v (.int .i8 a0), .v (.int .i8 a1), .fa 144 .u8 a2], .v (.int .i64 a3), .v (.int .i64 a4)] => ⟨Bool, some (s83 a0 a1 a2 a3 a4), fun r => .one (.v (.bool r))⟩
  | _ => ACall.fail
theorem f83_sound : Sound Try.prog 83 c83 := by
  refine sound_good f83_ctx f83_LV 3 Try.func83 (c := f83_c) (by kernel_rfl) (rv := f83_rv) (by kernel_rfl) (by kernel_rfl) (by kernel_rfl) (by kernel_rfl) fun rs => ?_
  unfold c83
  split
  · rename_i a0 a1 a2 a3 a4; intro v h; cases h; exact ⟨rfl, l83 (s83 a0 a1 a2 a3 a4), rfl, (f83_top a0 a1 a2 a3 a4 _).trans (s83_ok a0 a1 a2 a3 a4)⟩
  · intro v h; cases h

/-! ### function 52: loop.example/g01322/impl.codeOf -/
noncomputable def f52_c : Code := match Try.f52.body with | some c => c | none => .skip
noncomputable def f52_X : Ctx := ⟨TT, phiOf [], noPsi⟩
def f52_LV : List (Nat × Keep) := []
def f52_rv : List ResultVar := [.tmp 4]
noncomputable def f52_L (r : List A) : Nat → AS → Option (List A) := L f52_X (cnOf f52_LV) f52_c (K0 TT f52_rv) r
theorem f52_ctx : CtxOK Try.prog f52_X := ctx_of tab mix trivial
noncomputable def s52 (a0 : Bool) (a1 : Bool) : Int := (cond (!a0) 1 (cond (!a1) 2 0))
theorem f52_top (a0 : Bool) (a1 : Bool) (r : List A) : ev f52_X (lpc (cnOf f52_LV) (f52_L r)) f52_c (K0 TT f52_rv) (enter [.v (.bool a0), .v (.bool a1)]) = (cond (!a0) (some [.v (.int .i64 1)]) (cond (!a1) (some [.v (.int .i64 2)]) (some [.v (.int .i64 0)]))) := by kernel_rfl
noncomputable def l52 (r : Int) : List A := [.v (.int .i64 r)]
theorem s52_ok (a0 : Bool) (a1 : Bool) : (cond (!a0) (some [.v (.int .i64 1)]) (cond (!a1) (some [.v (.int .i64 2)]) (some [.v (.int .i64 0)]))) = some (l52 (s52 a0 a1)) := by
  unfold s52
  exact (cond_app (fun x => some (l52 x)) rfl (cond_app (fun x => some (l52 x)) rfl rfl))
noncomputable def c52 : List A → ACall
  | [.v (.bool a0), .v (.bool a1)] => ⟨Int, some (s52 a0 a1), fun r => .one (.v (.int .i64 r))⟩
  | _ => ACall.fail
theorem f52_sound : Sound Try.prog 52 c52 := by
  refine sound_good f52_ctx f52_LV 2 Try.func52 (c := f52_c) (by kernel_rfl) (rv := f52_rv) (by kernel_rfl) (by kernel_rfl) (by kernel_rfl) (by kernel_rfl) fun rs => ?_
  unfold c52
  split
  · rename_i a0 a1; intro v h; cases h; exact ⟨rfl, l52 (s52 a0 a1), rfl, (f52_top a0 a1 _).trans (s52_ok a0 a1)⟩
  · intro v h; cases h

/-! ### function 54: loop.example/g01322/impl.isKind -/
noncomputable def f54_c : Code := match Try.f54.body with | some c => c | none => .skip
noncomputable def f54_X : Ctx := ⟨TT, phiOf [(63, c63)], noPsi⟩
def f54_LV : List (Nat × Keep) := []
def f54_rv : List ResultVar := [.tmp 2]
noncomputable def f54_L (r : List A) : Nat → AS → Option (List A) := L f54_X (cnOf f54_LV) f54_c (K0 TT f54_rv) r
theorem f54_ctx : CtxOK Try.prog f54_X := ctx_of tab mix ⟨⟨Try.call63, f63_sound⟩, trivial⟩
noncomputable def s54 (a0 : Int) : Bool := (s63 a0 0 2)
theorem f54_top (a0 : Int) (r : List A) : ev f54_X (lpc (cnOf f54_LV) (f54_L r)) f54_c (K0 TT f54_rv) (enter [.v (.int .i64 a0)]) = (some [.v (.bool (s63 a0 0 2))]) := by kernel_rfl
noncomputable def l54 (r : Bool) : List A := [.v (.bool r)]
theorem s54_ok (a0 : Int) : (some [.v (.bool (s63 a0 0 2))]) = some (l54 (s54 a0)) := by
  unfold s54
  exact rfl
noncomputable def c54 : List A → ACall
  | [.v (.int .i64 a0)] => ⟨Bool, some (s54 a0), fun r => .one (.v (.bool r))⟩
  | _ => ACall.fail
theorem f54_sound : Sound Try.prog 54 c54 := by
  refine sound_good f54_ctx f54_LV 1 Try.func54 (c := f54_c) (by kernel_rfl) (rv := f54_rv) (by kernel_rfl) (by kernel_rfl) (by kernel_rfl) (by kernel_rfl) fun rs => ?_
  unfold c54
  split
  · rename_i a0; intro v h; cases h; exact ⟨rfl, l54 (s54 a0), rfl, (f54_top a0 _).trans (s54_ok a0)⟩
  · intro v h; cases h

/-! ### function 55: (loop.example/g01322/impl.Picture).hasNumber -/
noncomputable def f55_c : Code := match Try.f55.body with | some c => c | none => .skip
noncomputable def f55_X : Ctx := ⟨TT, phiOf [(83, c83)], noPsi⟩
def f55_LV : List (Nat × Keep) := []
def f55_rv : List ResultVar := [.tmp 4]
noncomputable def f55_L (r : List A) : Nat → AS → Option (List A) := L f55_X (cnOf f55_LV) f55_c (K0 TT f55_rv) r
theorem f55_ctx : CtxOK Try.prog f55_X := ctx_of tab mix ⟨⟨Try.call83, f83_sound⟩, trivial⟩
noncomputable def s55 (a0 : Int) (a1 : Int) (a2 : (Nat → Int)) (a3 : Int) : Bool := (cond (decide (a3 ≥ 0)) (s83 a0 a1 a2 (Int.tmod a3 12) (IntKind.wrap .i64 (Int.tdiv a3 12))) false)
theorem f55_top (a0 : Int) (a1 : Int) (a2 : (Nat → Int)) (a3 : Int) (r : List A) : ev f55_X (lpc (cnOf f55_LV) (f55_L r)) f55_c (K0 TT f55_rv) (enter [.rc [.v (.int .i8 a0), .v (.int .i8 a1), .fa 144 .u8 a2], .v (.int .i64 a3)]) = (cond (decide (a3 ≥ 0)) (some [.v (.bool (s83 a0 a1 a2 (Int.tmod a3 12) (IntKind.wrap .i64 (Int.tdiv a3 12))))]) (some [.v (.bool false)])) := by kernel_rfl
noncomputable def l55 (r : Bool) : List A := [.v (.bool r)]
theorem s55_ok (a0 : Int) (a1 : Int) (a2 : (Nat → Int)) (a3 : Int) : (cond (decide (a3 ≥ 0)) (some [.v (.bool (s83 a0 a1 a2 (Int.tmod a3 12) (IntKind.wrap .i64 (Int.tdiv a3 12))))]) (some [.v (.bool false)])) = some (l55 (s55 a0 a1 a2 a3)) := by
  unfold s55
  exact (cond_app (fun x => some (l55 x)) rfl rfl)
noncomputable def c55 : List A → ACall
  | [.rc [.v (.int .i8 a0), .v (.int .i8 a1), .fa 144 .u8 a2], .v (.int .i64 a3)] => ⟨Bool, some (s55 a0 a1 a2 a3), fun r => .one (.v (.bool r))⟩
  | _ => ACall.fail
theorem f55_sound : Sound Try.prog 55 c55 := by
  refine sound_good f55_ctx f55_LV 2 Try.func55 (c := f55_c) (by kernel_rfl) (rv := f55_rv) (by kernel_rfl) (by kernel_rfl) (by kernel_rfl) (by kernel_rfl) fun rs => ?_
  unfold c55
  split
  · rename_i a0 a1 a2 a3; intro v h; cases h; exact ⟨rfl, l55 (s55 a0 a1 a2 a3), rfl, (f55_top a0 a1 a2 a3 _).trans (s55_ok a0 a1 a2 a3)⟩
  · intro v h; cases h

/-! ### function 48: loop.example/g01322/spec.l06Kind -/
noncomputable def f48_c : Code := match Try.f48.body with | some c => c | none => .skip
noncomputable def f48_X : Ctx := ⟨TT, phiOf [(57, c57)], noPsi⟩
def f48_LV : List (Nat × Keep) := []
def f48_rv : List ResultVar := [.tmp 2]
noncomputable def f48_L (r : List A) : Nat → AS → Option (List A) := L f48_X (cnOf f48_LV) f48_c (K0 TT f48_rv) r
theorem f48_ctx : CtxOK Try.prog f48_X := ctx_of tab mix ⟨⟨Try.call57, f57_sound⟩, trivial⟩
noncomputable def s48 (a0 : Int) : Bool := (s57 a0 0 2)
theorem f48_top (a0 : Int) (r : List A) : ev f48_X (lpc (cnOf f48_LV) (f48_L r)) f48_c (K0 TT f48_rv) (enter [.v (.int .i64 a0)]) = (some [.v (.bool (s57 a0 0 2))]) := by kernel_rfl
noncomputable def l48 (r : Bool) : List A := [.v (.bool r)]
theorem s48_ok (a0 : Int) : (some [.v (.bool (s57 a0 0 2))]) = some (l48 (s48 a0)) := by
  unfold s48
  exact rfl
noncomputable def c48 : List A → ACall
  | [.v (.int .i64 a0)] => ⟨Bool, some (s48 a0), fun r => .one (.v (.bool r))⟩
  | _ => ACall.fail
theorem f48_sound : Sound Try.prog 48 c48 := by
  refine sound_good f48_ctx f48_LV 1 Try.func48 (c := f48_c) (by kernel_rfl) (rv := f48_rv) (by kernel_rfl) (by kernel_rfl) (by kernel_rfl) (by kernel_rfl) fun rs => ?_
  unfold c48
  split
  · rename_i a0; intro v h; cases h; exact ⟨rfl, l48 (s48 a0), rfl, (f48_top a0 _).trans (s48_ok a0)⟩
  · intro v h; cases h

/-! ### function 81: loop.example/g01322/spec.l01Is -/
noncomputable def f81_c : Code := match Try.f81.body with | some c => c | none => .skip
noncomputable def f81_X : Ctx := ⟨TT, phiOf [(57, c57)], noPsi⟩
def f81_LV : List (Nat × Keep) := []
def f81_rv : List ResultVar := [.tmp 4]
noncomputable def f81_L (r : List A) : Nat → AS → Option (List A) := L f81_X (cnOf f81_LV) f81_c (K0 TT f81_rv) r
theorem f81_ctx : CtxOK Try.prog f81_X := ctx_of tab mix ⟨⟨Try.call57, f57_sound⟩, trivial⟩
noncomputable def s81 (a0 : Int) (a1 : Int) (a2 : (Nat → Int)) (a3 : Int) : Bool := (cond (s57 a3 0 143) (cond (decide ((Int.tmod a3 12) < (IntKind.wrap .i64 a0))) (decide ((IntKind.wrap .i64 (Int.tdiv a3 12)) < (IntKind.wrap .i64 a1))) false) false)
theorem f81_top (a0 : Int) (a1 : Int) (a2 : (Nat → Int)) (a3 : Int) (r : List A) : ev f81_X (lpc (cnOf f81_LV) (f81_L r)) f81_c (K0 TT f81_rv) (enter [.ref (.rc [.v (.int .i8 a0), .v (.int .i8 a1), .fa 144 .u8 a2]), .v (.int .i64 a3)]) = (cond (s57 a3 0 143) (cond (decide ((Int.tmod a3 12) < (IntKind.wrap .i64 a0))) (some [.v (.bool (decide ((IntKind.wrap .i64 (Int.tdiv a3 12)) < (IntKind.wrap .i64 a1))))]) (some [.v (.bool false)])) (some [.v (.bool false)])) := by kernel_rfl
noncomputable def l81 (r : Bool) : List A := [.v (.bool r)]
theorem s81_ok (a0 : Int) (a1 : Int) (a2 : (Nat → Int)) (a3 : Int) : (cond (s57 a3 0 143) (cond (decide ((Int.tmod a3 12) < (IntKind.wrap .i64 a0))) (some [.v (.bool (decide ((IntKind.wrap .i64 (Int.tdiv a3 12)) < (IntKind.wrap .i64 a1))))]) (some [.v (.bool false)])) (some [.v (.bool false)])) = some (l81 (s81 a0 a1 a2 a3)) := by
  unfold s81
  exact (cond_app (fun x => some (l81 x)) (cond_app (fun x => some (l81 x)) rfl rfl) rfl)
noncomputable def c81 : List A → ACall
  | [.ref (.rc [.v (.int .i8 a0), .v (.int .i8 a1), .fa 144 .u8 a2]), .v (.int .i64 a3)] => ⟨Bool, some (s81 a0 a1 a2 a3), fun r => .one (.v (.bool r))⟩
  | _ => ACall.fail
theorem f81_sound : Sound Try.prog 81 c81 := by
  refine sound_good f81_ctx f81_LV 2 Try.func81 (c := f81_c) (by kernel_rfl) (rv := f81_rv) (by kernel_rfl) (by kernel_rfl) (by kernel_rfl) (by kernel_rfl) fun rs => ?_
  unfold c81
  split
  · rename_i a0 a1 a2 a3; intro v h; cases h; exact ⟨rfl, l81 (s81 a0 a1 a2 a3), rfl, (f81_top a0 a1 a2 a3 _).trans (s81_ok a0 a1 a2 a3)⟩
  · intro v h; cases h

/-! ### function 49: loop.example/g01322/spec.l06Cell -/
noncomputable def f49_c : Code := match Try.f49.body with | some c => c | none => .skip
noncomputable def f49_X : Ctx := ⟨TT, phiOf [(57, c57), (81, c81)], noPsi⟩
def f49_LV : List (Nat × Keep) := []
def f49_rv : List ResultVar := [.tmp 4]
noncomputable def f49_L (r : List A) : Nat → AS → Option (List A) := L f49_X (cnOf f49_LV) f49_c (K0 TT f49_rv) r
theorem f49_ctx : CtxOK Try.prog f49_X := ctx_of tab mix ⟨⟨Try.call57, f57_sound⟩, ⟨Try.call81, f81_sound⟩, trivial⟩
noncomputable def s49 (a0 : Int) (a1 : Int) (a2 : (Nat → Int)) (a3 : Int) : Bool := (cond (s57 a3 0 143) (s81 a0 a1 a2 a3) false)
theorem f49_top (a0 : Int) (a1 : Int) (a2 : (Nat → Int)) (a3 : Int) (r : List A) : ev f49_X (lpc (cnOf f49_LV) (f49_L r)) f49_c (K0 TT f49_rv) (enter [.ref (.rc [.v (.int .i8 a0), .v (.int .i8 a1), .fa 144 .u8 a2]), .v (.int .i64 a3)]) = (cond (s57 a3 0 143) (some [.v (.bool (s81 a0 a1 a2 a3))]) (some [.v (.bool false)])) := by kernel_rfl
noncomputable def l49 (r : Bool) : List A := [.v (.bool r)]
theorem s49_ok (a0 : Int) (a1 : Int) (a2 : (Nat → Int)) (a3 : Int) : (cond (s57 a3 0 143) (some [.v (.bool (s81 a0 a1 a2 a3))]) (some [.v (.bool false)])) = some (l49 (s49 a0 a1 a2 a3)) := by
  unfold s49
  exact (cond_app (fun x => some (l49 x)) rfl rfl)
noncomputable def c49 : List A → ACall
  | [.ref (.rc [.v (.int .i8 a0), .v (.int .i8 a1), .fa 144 .u8 a2]), .v (.int .i64 a3)] => ⟨Bool, some (s49 a0 a1 a2 a3), fun r => .one (.v (.bool r))⟩
  | _ => ACall.fail
theorem f49_sound : Sound Try.prog 49 c49 := by
  refine sound_good f49_ctx f49_LV 2 Try.func49 (c := f49_c) (by kernel_rfl) (rv := f49_rv) (by kernel_rfl) (by kernel_rfl) (by kernel_rfl) (by kernel_rfl) fun rs => ?_
  unfold c49
  split
  · rename_i a0 a1 a2 a3; intro v h; cases h; exact ⟨rfl, l49 (s49 a0 a1 a2 a3), rfl, (f49_top a0 a1 a2 a3 _).trans (s49_ok a0 a1 a2 a3)⟩
  · intro v h; cases h

/-! ### function 50: loop.example/g01322/spec.l06Partner -/
noncomputable def f50_c : Code := match Try.f50.body with | some c => c | none => .skip
noncomputable def f50_X : Ctx := ⟨TT, phiOf [], noPsi⟩
def f50_LV : List (Nat × Keep) := []
def f50_rv : List ResultVar := [.tmp 6]
noncomputable def f50_L (r : List A) : Nat → AS → Option (List A) := L f50_X (cnOf f50_LV) f50_c (K0 TT f50_rv) r
theorem f50_ctx : CtxOK Try.prog f50_X := ctx_of tab mix trivial
noncomputable def s50 (a0 : Int) (a1 : Int) (a2 : (Nat → Int)) (a3 : Int) (a4 : Int) : Int := (cond (a3 != 1) (cond (a3 != 0) (IntKind.wrap .i64 ((IntKind.wrap .i64 ((IntKind.wrap .i64 ((IntKind.wrap .i64 a0) - 1)) - (Int.tmod a4 12))) + (IntKind.wrap .i64 (12 * (IntKind.wrap .i64 ((IntKind.wrap .i64 ((IntKind.wrap .i64 a1) - 1)) - (IntKind.wrap .i64 (Int.tdiv a4 12)))))))) (IntKind.wrap .i64 ((IntKind.wrap .i64 ((IntKind.wrap .i64 ((IntKind.wrap .i64 a0) - 1)) - (Int.tmod a4 12))) + (IntKind.wrap .i64 (12 * (IntKind.wrap .i64 (Int.tdiv a4 12))))))) (cond (a3 != 0) (IntKind.wrap .i64 ((Int.tmod a4 12) + (IntKind.wrap .i64 (12 * (IntKind.wrap .i64 ((IntKind.wrap .i64 ((IntKind.wrap .i64 a1) - 1)) - (IntKind.wrap .i64 (Int.tdiv a4 12)))))))) (IntKind.wrap .i64 ((Int.tmod a4 12) + (IntKind.wrap .i64 (12 * (IntKind.wrap .i64 (Int.tdiv a4 12))))))))
theorem f50_top (a0 : Int) (a1 : Int) (a2 : (Nat → Int)) (a3 : Int) (a4 : Int) (r : List A) : ev f50_X (lpc (cnOf f50_LV) (f50_L r)) f50_c (K0 TT f50_rv) (enter [.ref (.rc [.v (.int .i8 a0), .v (.int .i8 a1), .fa 144 .u8 a2]), .v (.int .i64 a3), .v (.int .i64 a4)]) = (cond (a3 != 1) (cond (a3 != 0) (some [.v (.int .i64 (IntKind.wrap .i64 ((IntKind.wrap .i64 ((IntKind.wrap .i64 ((IntKind.wrap .i64 a0) - 1)) - (Int.tmod a4 12))) + (IntKind.wrap .i64 (12 * (IntKind.wrap .i64 ((IntKind.wrap .i64 ((IntKind.wrap .i64 a1) - 1)) - (IntKind.wrap .i64 (Int.tdiv a4 12)))))))))]) (some [.v (.int .i64 (IntKind.wrap .i64 ((IntKind.wrap .i64 ((IntKind.wrap .i64 ((IntKind.wrap .i64 a0) - 1)) - (Int.tmod a4 12))) + (IntKind.wrap .i64 (12 * (IntKind.wrap .i64 (Int.tdiv a4 12)))))))])) (cond (a3 != 0) (some [.v (.int .i64 (IntKind.wrap .i64 ((Int.tmod a4 12) + (IntKind.wrap .i64 (12 * (IntKind.wrap .i64 ((IntKind.wrap .i64 ((IntKind.wrap .i64 a1) - 1)) - (IntKind.wrap .i64 (Int.tdiv a4 12)))))))))]) (some [.v (.int .i64 (IntKind.wrap .i64 ((Int.tmod a4 12) + (IntKind.wrap .i64 (12 * (IntKind.wrap .i64 (Int.tdiv a4 12)))))))]))) := by kernel_rfl
noncomputable def l50 (r : Int) : List A := [.v (.int .i64 r)]
theorem s50_ok (a0 : Int) (a1 : Int) (a2 : (Nat → Int)) (a3 : Int) (a4 : Int) : (cond (a3 != 1) (cond (a3 != 0) (some [.v (.int .i64 (IntKind.wrap .i64 ((IntKind.wrap .i64 ((IntKind.wrap .i64 ((IntKind.wrap .i64 a0) - 1)) - (Int.tmod a4 12))) + (IntKind.wrap .i64 (12 * (IntKind.wrap .i64 ((IntKind.wrap .i64 ((IntKind.wrap .i64 a1) - 1)) - (IntKind.wrap .i64 (Int.tdiv a4 12)))))))))]) (some [.v (.int .i64 (IntKind.wrap .i64 ((IntKind.wrap .i64 ((IntKind.wrap .i64 ((IntKind.wrap .i64 a0) - 1)) - (Int.tmod a4 12))) + (IntKind.wrap .i64 (12 * (IntKind.wrap .i64 (Int.tdiv a4 12)))))))])) (cond (a3 != 0) (some [.v (.int .i64 (IntKind.wrap .i64 ((Int.tmod a4 12) + (IntKind.wrap .i64 (12 * (IntKind.wrap .i64 ((IntKind.wrap .i64 ((IntKind.wrap .i64 a1) - 1)) - (IntKind.wrap .i64 (Int.tdiv a4 12)))))))))]) (some [.v (.int .i64 (IntKind.wrap .i64 ((Int.tmod a4 12) + (IntKind.wrap .i64 (12 * (IntKind.wrap .i64 (Int.tdiv a4 12)))))))]))) = some (l50 (s50 a0 a1 a2 a3 a4)) := by
  unfold s50
  exact (cond_app (fun x => some (l50 x)) (cond_app (fun x => some (l50 x)) rfl rfl) (cond_app (fun x => some (l50 x)) rfl rfl))
noncomputable def c50 : List A → ACall
  | [.ref (.rc [.v (.int .i8 a0), .v (.int .i8 a1), .fa 144 .u8 a2]), .v (.int .i64 a3), .v (.int .i64 a4)] => ⟨Int, some (s50 a0 a1 a2 a3 a4), fun r => .one (.v (.int .i64 r))⟩
  | _ => ACall.fail
theorem f50_sound : Sound Try.prog 50 c50 := by
  refine sound_good f50_ctx f50_LV 3 Try.func50 (c := f50_c) (by kernel_rfl) (rv := f50_rv) (by kernel_rfl) (by kernel_rfl) (by kernel_rfl) (by kernel_rfl) fun rs => ?_
  unfold c50
  split
  · rename_i a0 a1 a2 a3 a4; intro v h; cases h; exact ⟨rfl, l50 (s50 a0 a1 a2 a3 a4), rfl, (f50_top a0 a1 a2 a3 a4 _).trans (s50_ok a0 a1 a2 a3 a4)⟩
  · intro v h; cases h

/-! ### function 56: (loop.example/g01322/impl.Picture).partner -/
noncomputable def f56_c : Code := match Try.f56.body with | some c => c | none => .skip
noncomputable def f56_X : Ctx := ⟨TT, phiOf [], noPsi⟩
def f56_LV : List (Nat × Keep) := []
def f56_rv : List ResultVar := [.tmp 6]
noncomputable def f56_L (r : List A) : Nat → AS → Option (List A) := L f56_X (cnOf f56_LV) f56_c (K0 TT f56_rv) r
theorem f56_ctx : CtxOK Try.prog f56_X := ctx_of tab mix trivial
noncomputable def s56 (a0 : Int) (a1 : Int) (a2 : (Nat → Int)) (a3 : Int) (a4 : Int) : Int := (cond (a3 != 1) (cond (a3 != 0) (IntKind.wrap .i64 ((IntKind.wrap .i64 ((IntKind.wrap .i64 ((IntKind.wrap .i64 a0) - 1)) - (Int.tmod a4 12))) + (IntKind.wrap .i64 (12 * (IntKind.wrap .i64 ((IntKind.wrap .i64 ((IntKind.wrap .i64 a1) - 1)) - (IntKind.wrap .i64 (Int.tdiv a4 12)))))))) (IntKind.wrap .i64 ((IntKind.wrap .i64 ((IntKind.wrap .i64 ((IntKind.wrap .i64 a0) - 1)) - (Int.tmod a4 12))) + (IntKind.wrap .i64 (12 * (IntKind.wrap .i64 (Int.tdiv a4 12))))))) (cond (a3 != 0) (IntKind.wrap .i64 ((Int.tmod a4 12) + (IntKind.wrap .i64 (12 * (IntKind.wrap .i64 ((IntKind.wrap .i64 ((IntKind.wrap .i64 a1) - 1)) - (IntKind.wrap .i64 (Int.tdiv a4 12)))))))) (IntKind.wrap .i64 ((Int.tmod a4 12) + (IntKind.wrap .i64 (12 * (IntKind.wrap .i64 (Int.tdiv a4 12))))))))
theorem f56_top (a0 : Int) (a1 : Int) (a2 : (Nat → Int)) (a3 : Int) (a4 : Int) (r : List A) : ev f56_X (lpc (cnOf f56_LV) (f56_L r)) f56_c (K0 TT f56_rv) (enter [.rc [.v (.int .i8 a0), .v (.int .i8 a1), .fa 144 .u8 a2], .v (.int .i64 a3), .v (.int .i64 a4)]) = (cond (a3 != 1) (cond (a3 != 0) (some [.v (.int .i64 (IntKind.wrap .i64 ((IntKind.wrap .i64 ((IntKind.wrap .i64 ((IntKind.wrap .i64 a0) - 1)) - (Int.tmod a4 12))) + (IntKind.wrap .i64 (12 * (IntKind.wrap .i64 ((IntKind.wrap .i64 ((IntKind.wrap .i64 a1) - 1)) - (IntKind.wrap .i64 (Int.tdiv a4 12)))))))))]) (some [.v (.int .i64 (IntKind.wrap .i64 ((IntKind.wrap .i64 ((IntKind.wrap .i64 ((IntKind.wrap .i64 a0) - 1)) - (Int.tmod a4 12))) + (IntKind.wrap .i64 (12 * (IntKind.wrap .i64 (Int.tdiv a4 12)))))))])) (cond (a3 != 0) (some [.v (.int .i64 (IntKind.wrap .i64 ((Int.tmod a4 12) + (IntKind.wrap .i64 (12 * (IntKind.wrap .i64 ((IntKind.wrap .i64 ((IntKind.wrap .i64 a1) - 1)) - (IntKind.wrap .i64 (Int.tdiv a4 12)))))))))]) (some [.v (.int .i64 (IntKind.wrap .i64 ((Int.tmod a4 12) + (IntKind.wrap .i64 (12 * (IntKind.wrap .i64 (Int.tdiv a4 12)))))))]))) := by kernel_rfl
noncomputable def l56 (r : Int) : List A := [.v (.int .i64 r)]
theorem s56_ok (a0 : Int) (a1 : Int) (a2 : (Nat → Int)) (a3 : Int) (a4 : Int) : (cond (a3 != 1) (cond (a3 != 0) (some [.v (.int .i64 (IntKind.wrap .i64 ((IntKind.wrap .i64 ((IntKind.wrap .i64 ((IntKind.wrap .i64 a0) - 1)) - (Int.tmod a4 12))) + (IntKind.wrap .i64 (12 * (IntKind.wrap .i64 ((IntKind.wrap .i64 ((IntKind.wrap .i64 a1) - 1)) - (IntKind.wrap .i64 (Int.tdiv a4 12)))))))))]) (some [.v (.int .i64 (IntKind.wrap .i64 ((IntKind.wrap .i64 ((IntKind.wrap .i64 ((IntKind.wrap .i64 a0) - 1)) - (Int.tmod a4 12))) + (IntKind.wrap .i64 (12 * (IntKind.wrap .i64 (Int.tdiv a4 12)))))))])) (cond (a3 != 0) (some [.v (.int .i64 (IntKind.wrap .i64 ((Int.tmod a4 12) + (IntKind.wrap .i64 (12 * (IntKind.wrap .i64 ((IntKind.wrap .i64 ((IntKind.wrap .i64 a1) - 1)) - (IntKind.wrap .i64 (Int.tdiv a4 12)))))))))]) (some [.v (.int .i64 (IntKind.wrap .i64 ((Int.tmod a4 12) + (IntKind.wrap .i64 (12 * (IntKind.wrap .i64 (Int.tdiv a4 12)))))))]))) = some (l56 (s56 a0 a1 a2 a3 a4)) := by
  unfold s56
  exact (cond_app (fun x => some (l56 x)) (cond_app (fun x => some (l56 x)) rfl rfl) (cond_app (fun x => some (l56 x)) rfl rfl))
noncomputable def c56 : List A → ACall
  | [.rc [.v (.int .i8 a0), .v (.int .i8 a1), .fa 144 .u8 a2], .v (.int .i64 a3), .v (.int .i64 a4)] => ⟨Int, some (s56 a0 a1 a2 a3 a4), fun r => .one (.v (.int .i64 r))⟩
  | _ => ACall.fail
theorem f56_sound : Sound Try.prog 56 c56 := by
  refine sound_good f56_ctx f56_LV 3 Try.func56 (c := f56_c) (by kernel_rfl) (rv := f56_rv) (by kernel_rfl) (by kernel_rfl) (by kernel_rfl) (by kernel_rfl) fun rs => ?_
  unfold c56
  split
  · rename_i a0 a1 a2 a3 a4; intro v h; cases h; exact ⟨rfl, l56 (s56 a0 a1 a2 a3 a4), rfl, (f56_top a0 a1 a2 a3 a4 _).trans (s56_ok a0 a1 a2 a3 a4)⟩
  · intro v h; cases h
end Go.RR
