/- Plans that are valid. -/
import Derived.Test.YtkbolifaojmmhaaVk
import Derived.Test.YtkbolifaojmmhaaRw
set_option linter.unusedVariables false
set_option linter.unusedSimpArgs false
set_option maxRecDepth 100000
namespace Go.RR
open Go Go.Proofs

/-! ### function 86: loop.example/g01322/spec.l07Hands -/
noncomputable def f_sl07Hands_c : Code := match Try.f86.body with | some c => c | none => .skip
noncomputable def f_sl07Hands_X : Ctx := ⟨TT, phiOf [(70, c_sl00In)], noPsi, noXi⟩
def f_sl07Hands_LV : List (Nat × Keep) := []
def f_sl07Hands_rv : List ResultVar := [.tmp 2]
noncomputable def f_sl07Hands_L (r : List A) : Nat → AS → Option (List A) := L f_sl07Hands_X (cnOf f_sl07Hands_LV) f_sl07Hands_c (K0 TT f_sl07Hands_rv) r
theorem f_sl07Hands_ctx : CtxOK Try.prog f_sl07Hands_X := ctx_of tab mix ⟨⟨Try.call70, f_sl00In_sound⟩, trivial⟩
noncomputable def s_sl07Hands (a0 : Int) : Bool := (s_sl00In a0 1 4)
theorem f_sl07Hands_top (a0 : Int) (r : List A) : ev f_sl07Hands_X (lpc (cnOf f_sl07Hands_LV) (f_sl07Hands_L r)) f_sl07Hands_c (K0 TT f_sl07Hands_rv) (enter [.v (.int .i64 a0)]) = (some [.v (.bool (s_sl00In a0 1 4))]) := by kernel_rfl
noncomputable def l_sl07Hands (r : Bool) : List A := [.v (.bool r)]
theorem s_sl07Hands_ok (a0 : Int) : (some [.v (.bool (s_sl00In a0 1 4))]) = some (l_sl07Hands (s_sl07Hands a0)) := by
  unfold s_sl07Hands
  exact rfl
noncomputable def c_sl07Hands : List A → ACall
  | [.v (.int .i64 a0)] => ⟨Bool, some (s_sl07Hands a0), fun r => .one (.v (.bool r))⟩
  | _ => ACall.fail
theorem f_sl07Hands_sound : Sound Try.prog 86 c_sl07Hands := by
  refine sound_good f_sl07Hands_ctx f_sl07Hands_LV 1 Try.func86 (c := f_sl07Hands_c) (by kernel_rfl) (rv := f_sl07Hands_rv) (by kernel_rfl) (by kernel_rfl) (by kernel_rfl) (by kernel_rfl) fun rs => ?_
  unfold c_sl07Hands
  split
  · rename_i a0; intro v h; cases h; exact ⟨rfl, l_sl07Hands (s_sl07Hands a0), rfl, (f_sl07Hands_top a0 _).trans (s_sl07Hands_ok a0)⟩
  · intro v h; cases h

/-! ### function 164: loop.example/g01322/spec.l07Slot -/
noncomputable def f_sl07Slot_c : Code := match Try.f164.body with | some c => c | none => .skip
noncomputable def f_sl07Slot_X : Ctx := ⟨TT, phiOf [(70, c_sl00In)], noPsi, noXi⟩
def f_sl07Slot_LV : List (Nat × Keep) := []
def f_sl07Slot_rv : List ResultVar := [.tmp 4]
noncomputable def f_sl07Slot_L (r : List A) : Nat → AS → Option (List A) := L f_sl07Slot_X (cnOf f_sl07Slot_LV) f_sl07Slot_c (K0 TT f_sl07Slot_rv) r
theorem f_sl07Slot_ctx : CtxOK Try.prog f_sl07Slot_X := ctx_of tab mix ⟨⟨Try.call70, f_sl00In_sound⟩, trivial⟩
noncomputable def s_sl07Slot (a0 : Int) (a1 : Int) (a2 : Int) : Bool := (cond (s_sl00In (IntKind.wrap .i64 a1) 0 (IntKind.wrap .i64 (a0 - 1))) (s_sl00In (IntKind.wrap .i64 a2) 0 1000) false)
theorem f_sl07Slot_top (a0 : Int) (a1 : Int) (a2 : Int) (r : List A) : ev f_sl07Slot_X (lpc (cnOf f_sl07Slot_LV) (f_sl07Slot_L r)) f_sl07Slot_c (K0 TT f_sl07Slot_rv) (enter [.v (.int .i64 a0), .rc [.v (.int .i8 a1), .v (.int .i16 a2)]]) = (cond (s_sl00In (IntKind.wrap .i64 a1) 0 (IntKind.wrap .i64 (a0 - 1))) (some [.v (.bool (s_sl00In (IntKind.wrap .i64 a2) 0 1000))]) (some [.v (.bool false)])) := by kernel_rfl
noncomputable def l_sl07Slot (r : Bool) : List A := [.v (.bool r)]
theorem s_sl07Slot_ok (a0 : Int) (a1 : Int) (a2 : Int) : (cond (s_sl00In (IntKind.wrap .i64 a1) 0 (IntKind.wrap .i64 (a0 - 1))) (some [.v (.bool (s_sl00In (IntKind.wrap .i64 a2) 0 1000))]) (some [.v (.bool false)])) = some (l_sl07Slot (s_sl07Slot a0 a1 a2)) := by
  unfold s_sl07Slot
  exact (cond_app (fun x => some (l_sl07Slot x)) rfl rfl)
noncomputable def c_sl07Slot : List A → ACall
  | [.v (.int .i64 a0), .rc [.v (.int .i8 a1), .v (.int .i16 a2)]] => ⟨Bool, some (s_sl07Slot a0 a1 a2), fun r => .one (.v (.bool r))⟩
  | _ => ACall.fail
theorem f_sl07Slot_sound : Sound Try.prog 164 c_sl07Slot := by
  refine sound_good f_sl07Slot_ctx f_sl07Slot_LV 2 Try.func164 (c := f_sl07Slot_c) (by kernel_rfl) (rv := f_sl07Slot_rv) (by kernel_rfl) (by kernel_rfl) (by kernel_rfl) (by kernel_rfl) fun rs => ?_
  unfold c_sl07Slot
  split
  · rename_i a0 a1 a2; intro v h; cases h; exact ⟨rfl, l_sl07Slot (s_sl07Slot a0 a1 a2), rfl, (f_sl07Slot_top a0 a1 a2 _).trans (s_sl07Slot_ok a0 a1 a2)⟩
  · intro v h; cases h

/-! ### function 122: loop.example/g01322/spec.l07Done -/
noncomputable def f_sl07Done_c : Code := match Try.f122.body with | some c => c | none => .skip
noncomputable def f_sl07Done_X : Ctx := ⟨TT, phiOf [], noPsi, noXi⟩
def f_sl07Done_LV : List (Nat × Keep) := []
def f_sl07Done_rv : List ResultVar := [.tmp 6]
noncomputable def f_sl07Done_L (r : List A) : Nat → AS → Option (List A) := L f_sl07Done_X (cnOf f_sl07Done_LV) f_sl07Done_c (K0 TT f_sl07Done_rv) r
theorem f_sl07Done_ctx : CtxOK Try.prog f_sl07Done_X := ctx_of tab mix trivial
noncomputable def s_sl07Done (a0 : (List (Int × Int))) (a1 : (List (Int × Int))) (a2 : Int) : Option Int := (cond (inB a2 (List.length a1)) (cond (inB a2 (List.length a0)) (some (IntKind.wrap .i64 ((IntKind.wrap .i64 (List.getD a1 (Int.toNat a2) ((0, 0) : (Int × Int))).2) + (IntKind.wrap .i64 (List.getD a0 (Int.toNat a2) ((0, 0) : (Int × Int))).1)))) none) none)
theorem f_sl07Done_top (a0 : (List (Int × Int))) (a1 : (List (Int × Int))) (a2 : Int) (r : List A) : ev f_sl07Done_X (lpc (cnOf f_sl07Done_LV) (f_sl07Done_L r)) f_sl07Done_c (K0 TT f_sl07Done_rv) (enter [.lst (.st [(.i .i8), (.i .u16)]) a0, .lst (.st [(.i .i8), (.i .i16)]) a1, .v (.int .i64 a2)]) = (cond (inB a2 (List.length a1)) (cond (inB a2 (List.length a0)) (some [.v (.int .i64 (IntKind.wrap .i64 ((IntKind.wrap .i64 (List.getD a1 (Int.toNat a2) ((0, 0) : (Int × Int))).2) + (IntKind.wrap .i64 (List.getD a0 (Int.toNat a2) ((0, 0) : (Int × Int))).1))))]) none) none) := by kernel_rfl
noncomputable def l_sl07Done (r : Int) : List A := [.v (.int .i64 r)]
theorem s_sl07Done_ok (a0 : (List (Int × Int))) (a1 : (List (Int × Int))) (a2 : Int) (v : Int) (h : s_sl07Done a0 a1 a2 = some v) : (cond (inB a2 (List.length a1)) (cond (inB a2 (List.length a0)) (some [.v (.int .i64 (IntKind.wrap .i64 ((IntKind.wrap .i64 (List.getD a1 (Int.toNat a2) ((0, 0) : (Int × Int))).2) + (IntKind.wrap .i64 (List.getD a0 (Int.toNat a2) ((0, 0) : (Int × Int))).1))))]) none) none) = some (l_sl07Done v) := by
  have e : (cond (inB a2 (List.length a1)) (cond (inB a2 (List.length a0)) (some [.v (.int .i64 (IntKind.wrap .i64 ((IntKind.wrap .i64 (List.getD a1 (Int.toNat a2) ((0, 0) : (Int × Int))).2) + (IntKind.wrap .i64 (List.getD a0 (Int.toNat a2) ((0, 0) : (Int × Int))).1))))]) none) none) = Option.map l_sl07Done (s_sl07Done a0 a1 a2) := by
    unfold s_sl07Done
    exact (cond_app (Option.map l_sl07Done) (cond_app (Option.map l_sl07Done) rfl rfl) rfl)
  rw [e, h]; rfl
noncomputable def c_sl07Done : List A → ACall
  | [.lst (.st [(.i .i8), (.i .u16)]) a0, .lst (.st [(.i .i8), (.i .i16)]) a1, .v (.int .i64 a2)] => ⟨Int, s_sl07Done a0 a1 a2, fun r => .one (.v (.int .i64 r))⟩
  | _ => ACall.fail
theorem f_sl07Done_sound : Sound Try.prog 122 c_sl07Done := by
  refine sound_good f_sl07Done_ctx f_sl07Done_LV 3 Try.func122 (c := f_sl07Done_c) (by kernel_rfl) (rv := f_sl07Done_rv) (by kernel_rfl) (by kernel_rfl) (by kernel_rfl) (by kernel_rfl) fun rs => ?_
  unfold c_sl07Done
  split
  · rename_i a0 a1 a2; intro v h; exact ⟨rfl, l_sl07Done v, rfl, (f_sl07Done_top a0 a1 a2 _).trans (s_sl07Done_ok a0 a1 a2 v h)⟩
  · intro v h; cases h

/-! ### function 113: loop.example/g01322/spec.l07Fault -/
noncomputable def f_sl07Fault_c : Code := match Try.f113.body with | some c => c | none => .skip
noncomputable def f_sl07Fault_X : Ctx := ⟨TT, phiOf [(122, c_sl07Done), (164, c_sl07Slot), (95, c_sl07Waits)], noPsi, noXi⟩
def f_sl07Fault_LV : List (Nat × Keep) := [(2, ([0, 1, 2, 7], [], [])), (7, ([0, 1, 2, 7, 8], [], []))]
def f_sl07Fault_rv : List ResultVar := [.tmp 6]
noncomputable def f_sl07Fault_L (r : List A) : Nat → AS → Option (List A) := L f_sl07Fault_X (cnOf f_sl07Fault_LV) f_sl07Fault_c (K0 TT f_sl07Fault_rv) r
theorem f_sl07Fault_ctx : CtxOK Try.prog f_sl07Fault_X := ctx_of tab mix ⟨⟨Try.call122, f_sl07Done_sound⟩, ⟨Try.call164, f_sl07Slot_sound⟩, ⟨Try.call95, f_sl07Waits_sound⟩, trivial⟩
noncomputable def f_sl07Fault_s2 (x0 : Int) (x1 : Int) (x2 : (List (Int × Int))) (x3 : (List (Int × Int))) : AS := ⟨[(0, .a (.sl 0)), (1, .a (.v (.int .i64 x0))), (2, .a (.sl 1)), (7, .a (.v (.int .i64 x1)))], [(0, some ⟨false, .arr (.st [(.i .i8), (.i .u16)]) x2⟩), (1, some ⟨false, .arr (.st [(.i .i8), (.i .i16)]) x3⟩)], 2⟩
noncomputable def f_sl07Fault_s7 (x0 : Int) (x1 : Int) (x2 : Int) (x3 : (List (Int × Int))) (x4 : (List (Int × Int))) : AS := ⟨[(0, .a (.sl 0)), (1, .a (.v (.int .i64 x0))), (2, .a (.sl 1)), (7, .a (.v (.int .i64 x1))), (8, .a (.v (.int .i64 x2)))], [(0, some ⟨false, .arr (.st [(.i .i8), (.i .u16)]) x3⟩), (1, some ⟨false, .arr (.st [(.i .i8), (.i .i16)]) x4⟩)], 2⟩
noncomputable def l_sl07Fault (r : Int) : List A := [.v (.int .i64 r)]
theorem f_sl07Fault_step7 (x0 : Int) (x1 : Int) (x2 : Int) (x3 : (List (Int × Int))) (x4 : (List (Int × Int))) (r : List A) (h : (cond (decide (x2 < ((List.length x3 : Nat) : Int))) (cond (inB x2 (List.length x4)) (cond (!(s_sl07Slot x0 (List.getD x4 (Int.toNat x2) ((0, 0) : (Int × Int))).1 (List.getD x4 (Int.toNat x2) ((0, 0) : (Int × Int))).2)) (f_sl07Fault_L r 7 (f_sl07Fault_s7 x0 x1 (IntKind.wrap .i64 (x2 + 1)) x3 x4)) (Option.bind (s_sl07Waits x3 x1 x2) fun r1 => (cond r1 (cond (inB x1 (List.length x4)) (Option.bind (s_sl07Done x3 x4 x2) fun r2 => (cond (decide ((IntKind.wrap .i64 (List.getD x4 (Int.toNat x1) ((0, 0) : (Int × Int))).2) < r2)) (some [.v (.int .i64 x1)]) (cond (decide (x2 < x1)) (cond (inB x2 (List.length x4)) (cond (inB x1 (List.length x4)) (cond ((List.getD x4 (Int.toNat x2) ((0, 0) : (Int × Int))).1 == (List.getD x4 (Int.toNat x1) ((0, 0) : (Int × Int))).1) (cond (inB x1 (List.length x4)) (Option.bind (s_sl07Done x3 x4 x2) fun r3 => (cond (decide ((IntKind.wrap .i64 (List.getD x4 (Int.toNat x1) ((0, 0) : (Int × Int))).2) < r3)) (cond (inB x2 (List.length x4)) (Option.bind (s_sl07Done x3 x4 x1) fun r4 => (cond (decide ((IntKind.wrap .i64 (List.getD x4 (Int.toNat x2) ((0, 0) : (Int × Int))).2) < r4)) (some [.v (.int .i64 x1)]) (f_sl07Fault_L r 7 (f_sl07Fault_s7 x0 x1 (IntKind.wrap .i64 (x2 + 1)) x3 x4)))) none) (f_sl07Fault_L r 7 (f_sl07Fault_s7 x0 x1 (IntKind.wrap .i64 (x2 + 1)) x3 x4)))) none) (f_sl07Fault_L r 7 (f_sl07Fault_s7 x0 x1 (IntKind.wrap .i64 (x2 + 1)) x3 x4))) none) none) (f_sl07Fault_L r 7 (f_sl07Fault_s7 x0 x1 (IntKind.wrap .i64 (x2 + 1)) x3 x4))))) none) (cond (decide (x2 < x1)) (cond (inB x2 (List.length x4)) (cond (inB x1 (List.length x4)) (cond ((List.getD x4 (Int.toNat x2) ((0, 0) : (Int × Int))).1 == (List.getD x4 (Int.toNat x1) ((0, 0) : (Int × Int))).1) (cond (inB x1 (List.length x4)) (Option.bind (s_sl07Done x3 x4 x2) fun r5 => (cond (decide ((IntKind.wrap .i64 (List.getD x4 (Int.toNat x1) ((0, 0) : (Int × Int))).2) < r5)) (cond (inB x2 (List.length x4)) (Option.bind (s_sl07Done x3 x4 x1) fun r6 => (cond (decide ((IntKind.wrap .i64 (List.getD x4 (Int.toNat x2) ((0, 0) : (Int × Int))).2) < r6)) (some [.v (.int .i64 x1)]) (f_sl07Fault_L r 7 (f_sl07Fault_s7 x0 x1 (IntKind.wrap .i64 (x2 + 1)) x3 x4)))) none) (f_sl07Fault_L r 7 (f_sl07Fault_s7 x0 x1 (IntKind.wrap .i64 (x2 + 1)) x3 x4)))) none) (f_sl07Fault_L r 7 (f_sl07Fault_s7 x0 x1 (IntKind.wrap .i64 (x2 + 1)) x3 x4))) none) none) (f_sl07Fault_L r 7 (f_sl07Fault_s7 x0 x1 (IntKind.wrap .i64 (x2 + 1)) x3 x4)))))) none) (f_sl07Fault_L r 2 (f_sl07Fault_s2 x0 (IntKind.wrap .i64 (x1 + 1)) x3 x4))) = some r) : f_sl07Fault_L r 7 (f_sl07Fault_s7 x0 x1 x2 x3 x4) = some r :=
  step_of' h (by kernel_rfl)
noncomputable def f_sl07Fault_n7 (x0 : Int) (x1 : Int) (x2 : Int) (x3 : (List (Int × Int))) (x4 : (List (Int × Int))) : Option ((Int × Int × Int × (List (Int × Int)) × (List (Int × Int))) ⊕ ((Int × Int × (List (Int × Int)) × (List (Int × Int))) ⊕ Int)) := (cond (decide (x2 < ((List.length x3 : Nat) : Int))) (cond (inB x2 (List.length x4)) (cond (!(s_sl07Slot x0 (List.getD x4 (Int.toNat x2) ((0, 0) : (Int × Int))).1 (List.getD x4 (Int.toNat x2) ((0, 0) : (Int × Int))).2)) (some (Sum.inl (x0, x1, (IntKind.wrap .i64 (x2 + 1)), x3, x4))) (Option.bind (s_sl07Waits x3 x1 x2) fun r1 => (cond r1 (cond (inB x1 (List.length x4)) (Option.bind (s_sl07Done x3 x4 x2) fun r2 => (cond (decide ((IntKind.wrap .i64 (List.getD x4 (Int.toNat x1) ((0, 0) : (Int × Int))).2) < r2)) (some (Sum.inr (Sum.inr x1))) (cond (decide (x2 < x1)) (cond (inB x2 (List.length x4)) (cond (inB x1 (List.length x4)) (cond ((List.getD x4 (Int.toNat x2) ((0, 0) : (Int × Int))).1 == (List.getD x4 (Int.toNat x1) ((0, 0) : (Int × Int))).1) (cond (inB x1 (List.length x4)) (Option.bind (s_sl07Done x3 x4 x2) fun r3 => (cond (decide ((IntKind.wrap .i64 (List.getD x4 (Int.toNat x1) ((0, 0) : (Int × Int))).2) < r3)) (cond (inB x2 (List.length x4)) (Option.bind (s_sl07Done x3 x4 x1) fun r4 => (cond (decide ((IntKind.wrap .i64 (List.getD x4 (Int.toNat x2) ((0, 0) : (Int × Int))).2) < r4)) (some (Sum.inr (Sum.inr x1))) (some (Sum.inl (x0, x1, (IntKind.wrap .i64 (x2 + 1)), x3, x4))))) none) (some (Sum.inl (x0, x1, (IntKind.wrap .i64 (x2 + 1)), x3, x4))))) none) (some (Sum.inl (x0, x1, (IntKind.wrap .i64 (x2 + 1)), x3, x4)))) none) none) (some (Sum.inl (x0, x1, (IntKind.wrap .i64 (x2 + 1)), x3, x4)))))) none) (cond (decide (x2 < x1)) (cond (inB x2 (List.length x4)) (cond (inB x1 (List.length x4)) (cond ((List.getD x4 (Int.toNat x2) ((0, 0) : (Int × Int))).1 == (List.getD x4 (Int.toNat x1) ((0, 0) : (Int × Int))).1) (cond (inB x1 (List.length x4)) (Option.bind (s_sl07Done x3 x4 x2) fun r5 => (cond (decide ((IntKind.wrap .i64 (List.getD x4 (Int.toNat x1) ((0, 0) : (Int × Int))).2) < r5)) (cond (inB x2 (List.length x4)) (Option.bind (s_sl07Done x3 x4 x1) fun r6 => (cond (decide ((IntKind.wrap .i64 (List.getD x4 (Int.toNat x2) ((0, 0) : (Int × Int))).2) < r6)) (some (Sum.inr (Sum.inr x1))) (some (Sum.inl (x0, x1, (IntKind.wrap .i64 (x2 + 1)), x3, x4))))) none) (some (Sum.inl (x0, x1, (IntKind.wrap .i64 (x2 + 1)), x3, x4))))) none) (some (Sum.inl (x0, x1, (IntKind.wrap .i64 (x2 + 1)), x3, x4)))) none) none) (some (Sum.inl (x0, x1, (IntKind.wrap .i64 (x2 + 1)), x3, x4))))))) none) (some (Sum.inr (Sum.inl (x0, (IntKind.wrap .i64 (x1 + 1)), x3, x4)))))
noncomputable def f_sl07Fault_run7 (x : (Int × Int × Int × (List (Int × Int)) × (List (Int × Int)))) : Option ((Int × Int × (List (Int × Int)) × (List (Int × Int))) ⊕ Int) := iter (fun x => f_sl07Fault_n7 x.1 x.2.1 x.2.2.1 x.2.2.2.1 x.2.2.2.2) FU x
noncomputable def f_sl07Fault_G7 (r : List A) (x : (Int × Int × Int × (List (Int × Int)) × (List (Int × Int)))) : Prop := f_sl07Fault_L r 7 (f_sl07Fault_s7 x.1 x.2.1 x.2.2.1 x.2.2.2.1 x.2.2.2.2) = some r
theorem f_sl07Fault_step2 (x0 : Int) (x1 : Int) (x2 : (List (Int × Int))) (x3 : (List (Int × Int))) (r : List A) (h : (cond (decide (x1 < ((List.length x2 : Nat) : Int))) (cond (inB x1 (List.length x3)) (cond (!(s_sl07Slot x0 (List.getD x3 (Int.toNat x1) ((0, 0) : (Int × Int))).1 (List.getD x3 (Int.toNat x1) ((0, 0) : (Int × Int))).2)) (some [.v (.int .i64 x1)]) (f_sl07Fault_L r 7 (f_sl07Fault_s7 x0 x1 0 x2 x3))) none) (some [.v (.int .i64 (-1))])) = some r) : f_sl07Fault_L r 2 (f_sl07Fault_s2 x0 x1 x2 x3) = some r :=
  step_of' h (by kernel_rfl)
noncomputable def f_sl07Fault_n2 (x0 : Int) (x1 : Int) (x2 : (List (Int × Int))) (x3 : (List (Int × Int))) : Option ((Int × Int × (List (Int × Int)) × (List (Int × Int))) ⊕ Int) := (cond (decide (x1 < ((List.length x2 : Nat) : Int))) (cond (inB x1 (List.length x3)) (cond (!(s_sl07Slot x0 (List.getD x3 (Int.toNat x1) ((0, 0) : (Int × Int))).1 (List.getD x3 (Int.toNat x1) ((0, 0) : (Int × Int))).2)) (some (Sum.inr x1)) (f_sl07Fault_run7 (x0, x1, 0, x2, x3))) none) (some (Sum.inr (-1))))
noncomputable def f_sl07Fault_run2 (x : (Int × Int × (List (Int × Int)) × (List (Int × Int)))) : Option Int := iter (fun x => f_sl07Fault_n2 x.1 x.2.1 x.2.2.1 x.2.2.2) FU x
noncomputable def f_sl07Fault_G2 (r : List A) (x : (Int × Int × (List (Int × Int)) × (List (Int × Int)))) : Prop := f_sl07Fault_L r 2 (f_sl07Fault_s2 x.1 x.2.1 x.2.2.1 x.2.2.2) = some r
noncomputable def f_sl07Fault_S2 (r : List A) : Int → Prop := fun v => r = l_sl07Fault v
noncomputable def f_sl07Fault_S7 (r : List A) : ((Int × Int × (List (Int × Int)) × (List (Int × Int))) ⊕ Int) → Prop := goesOn (f_sl07Fault_G2 r) (f_sl07Fault_S2 r)
theorem f_sl07Fault_go7 (r : List A) : ∀ x, sem (f_sl07Fault_S7 r) (f_sl07Fault_run7 x) → f_sl07Fault_G7 r x :=
  fun x => iter_sound (step := fun x => f_sl07Fault_n7 x.1 x.2.1 x.2.2.1 x.2.2.2.1 x.2.2.2.2) (fun x h => by
    unfold f_sl07Fault_n7 at h
    exact f_sl07Fault_step7 x.1 x.2.1 x.2.2.1 x.2.2.2.1 x.2.2.2.2 r ((sem_cond h (fun h => (sem_cond h (fun h => (sem_cond h (fun h => sem_got h fun q => q) (fun h => (sem_bind h fun r1 h => (sem_cond h (fun h => (sem_cond h (fun h => (sem_bind h fun r2 h => (sem_cond h (fun h => sem_got h fun q => some_eq q) (fun h => (sem_cond h (fun h => (sem_cond h (fun h => (sem_cond h (fun h => (sem_cond h (fun h => (sem_cond h (fun h => (sem_bind h fun r3 h => (sem_cond h (fun h => (sem_cond h (fun h => (sem_bind h fun r4 h => (sem_cond h (fun h => sem_got h fun q => some_eq q) (fun h => sem_got h fun q => q)))) (fun h => sem_none h))) (fun h => sem_got h fun q => q)))) (fun h => sem_none h))) (fun h => sem_got h fun q => q))) (fun h => sem_none h))) (fun h => sem_none h))) (fun h => sem_got h fun q => q)))))) (fun h => sem_none h))) (fun h => (sem_cond h (fun h => (sem_cond h (fun h => (sem_cond h (fun h => (sem_cond h (fun h => (sem_cond h (fun h => (sem_bind h fun r5 h => (sem_cond h (fun h => (sem_cond h (fun h => (sem_bind h fun r6 h => (sem_cond h (fun h => sem_got h fun q => some_eq q) (fun h => sem_got h fun q => q)))) (fun h => sem_none h))) (fun h => sem_got h fun q => q)))) (fun h => sem_none h))) (fun h => sem_got h fun q => q))) (fun h => sem_none h))) (fun h => sem_none h))) (fun h => sem_got h fun q => q)))))))) (fun h => sem_none h))) (fun h => sem_got h fun q => q)))) FU x
theorem f_sl07Fault_go2 (r : List A) : ∀ x, sem (f_sl07Fault_S2 r) (f_sl07Fault_run2 x) → f_sl07Fault_G2 r x :=
  fun x => iter_sound (step := fun x => f_sl07Fault_n2 x.1 x.2.1 x.2.2.1 x.2.2.2) (fun x h => by
    unfold f_sl07Fault_n2 at h
    exact f_sl07Fault_step2 x.1 x.2.1 x.2.2.1 x.2.2.2 r ((sem_cond h (fun h => (sem_cond h (fun h => (sem_cond h (fun h => sem_got h fun q => some_eq q) (fun h => f_sl07Fault_go7 r _ h))) (fun h => sem_none h))) (fun h => sem_got h fun q => some_eq q)))) FU x
noncomputable def s_sl07Fault (a0 : (List (Int × Int))) (a1 : Int) (a2 : (List (Int × Int))) : Option Int := (f_sl07Fault_run2 (a1, 0, a0, a2))
theorem f_sl07Fault_top (a0 : (List (Int × Int))) (a1 : Int) (a2 : (List (Int × Int))) (r : List A) : ev f_sl07Fault_X (lpc (cnOf f_sl07Fault_LV) (f_sl07Fault_L r)) f_sl07Fault_c (K0 TT f_sl07Fault_rv) (enter [.lst (.st [(.i .i8), (.i .u16)]) a0, .v (.int .i64 a1), .lst (.st [(.i .i8), (.i .i16)]) a2]) = (f_sl07Fault_L r 2 (f_sl07Fault_s2 a1 0 a0 a2)) := by kernel_rfl
theorem s_sl07Fault_ok (a0 : (List (Int × Int))) (a1 : Int) (a2 : (List (Int × Int))) (v : Int) (h : s_sl07Fault a0 a1 a2 = some v) : (f_sl07Fault_L (l_sl07Fault v) 2 (f_sl07Fault_s2 a1 0 a0 a2)) = some (l_sl07Fault v) := by
  unfold s_sl07Fault at h
  have go : ∀ r, sem (fun v => r = l_sl07Fault v) ((f_sl07Fault_run2 (a1, 0, a0, a2))) → (f_sl07Fault_L r 2 (f_sl07Fault_s2 a1 0 a0 a2)) = some r := fun r h => f_sl07Fault_go2 r _ h
  exact go (l_sl07Fault v) ⟨v, h, rfl⟩
noncomputable def c_sl07Fault : List A → ACall
  | [.lst (.st [(.i .i8), (.i .u16)]) a0, .v (.int .i64 a1), .lst (.st [(.i .i8), (.i .i16)]) a2] => ⟨Int, s_sl07Fault a0 a1 a2, fun r => .one (.v (.int .i64 r))⟩
  | _ => ACall.fail
theorem f_sl07Fault_sound : Sound Try.prog 113 c_sl07Fault := by
  refine sound_good f_sl07Fault_ctx f_sl07Fault_LV 3 Try.func113 (c := f_sl07Fault_c) (by kernel_rfl) (rv := f_sl07Fault_rv) (by kernel_rfl) (by kernel_rfl) (by kernel_rfl) (by kernel_rfl) fun rs => ?_
  unfold c_sl07Fault
  split
  · rename_i a0 a1 a2; intro v h; exact ⟨rfl, l_sl07Fault v, rfl, (f_sl07Fault_top a0 a1 a2 _).trans (s_sl07Fault_ok a0 a1 a2 v h)⟩
  · intro v h; cases h

/-! ### function 87: loop.example/g01322/spec.l07Plan -/
noncomputable def f_sl07Plan_c : Code := match Try.f87.body with | some c => c | none => .skip
noncomputable def f_sl07Plan_X : Ctx := ⟨TT, phiOf [(113, c_sl07Fault)], noPsi, noXi⟩
def f_sl07Plan_LV : List (Nat × Keep) := []
def f_sl07Plan_rv : List ResultVar := [.tmp 6]
noncomputable def f_sl07Plan_L (r : List A) : Nat → AS → Option (List A) := L f_sl07Plan_X (cnOf f_sl07Plan_LV) f_sl07Plan_c (K0 TT f_sl07Plan_rv) r
theorem f_sl07Plan_ctx : CtxOK Try.prog f_sl07Plan_X := ctx_of tab mix ⟨⟨Try.call113, f_sl07Fault_sound⟩, trivial⟩
noncomputable def s_sl07Plan (a0 : (List (Int × Int))) (a1 : Int) (a2 : (List (Int × Int))) : Option Bool := (cond (((List.length a2 : Nat) : Int) == ((List.length a0 : Nat) : Int)) (Option.bind (s_sl07Fault a0 a1 a2) fun r1 => (some (decide (r1 < 0)))) (some false))
theorem f_sl07Plan_top (a0 : (List (Int × Int))) (a1 : Int) (a2 : (List (Int × Int))) (r : List A) : ev f_sl07Plan_X (lpc (cnOf f_sl07Plan_LV) (f_sl07Plan_L r)) f_sl07Plan_c (K0 TT f_sl07Plan_rv) (enter [.lst (.st [(.i .i8), (.i .u16)]) a0, .v (.int .i64 a1), .lst (.st [(.i .i8), (.i .i16)]) a2]) = (cond (((List.length a2 : Nat) : Int) == ((List.length a0 : Nat) : Int)) (Option.bind (s_sl07Fault a0 a1 a2) fun r1 => (some [.v (.bool (decide (r1 < 0)))])) (some [.v (.bool false)])) := by kernel_rfl
noncomputable def l_sl07Plan (r : Bool) : List A := [.v (.bool r)]
theorem s_sl07Plan_ok (a0 : (List (Int × Int))) (a1 : Int) (a2 : (List (Int × Int))) (v : Bool) (h : s_sl07Plan a0 a1 a2 = some v) : (cond (((List.length a2 : Nat) : Int) == ((List.length a0 : Nat) : Int)) (Option.bind (s_sl07Fault a0 a1 a2) fun r1 => (some [.v (.bool (decide (r1 < 0)))])) (some [.v (.bool false)])) = some (l_sl07Plan v) := by
  have e : (cond (((List.length a2 : Nat) : Int) == ((List.length a0 : Nat) : Int)) (Option.bind (s_sl07Fault a0 a1 a2) fun r1 => (some [.v (.bool (decide (r1 < 0)))])) (some [.v (.bool false)])) = Option.map l_sl07Plan (s_sl07Plan a0 a1 a2) := by
    unfold s_sl07Plan
    exact (cond_app (Option.map l_sl07Plan) (bind_app fun _ => rfl) rfl)
  rw [e, h]; rfl
noncomputable def c_sl07Plan : List A → ACall
  | [.lst (.st [(.i .i8), (.i .u16)]) a0, .v (.int .i64 a1), .lst (.st [(.i .i8), (.i .i16)]) a2] => ⟨Bool, s_sl07Plan a0 a1 a2, fun r => .one (.v (.bool r))⟩
  | _ => ACall.fail
theorem f_sl07Plan_sound : Sound Try.prog 87 c_sl07Plan := by
  refine sound_good f_sl07Plan_ctx f_sl07Plan_LV 3 Try.func87 (c := f_sl07Plan_c) (by kernel_rfl) (rv := f_sl07Plan_rv) (by kernel_rfl) (by kernel_rfl) (by kernel_rfl) (by kernel_rfl) fun rs => ?_
  unfold c_sl07Plan
  split
  · rename_i a0 a1 a2; intro v h; exact ⟨rfl, l_sl07Plan v, rfl, (f_sl07Plan_top a0 a1 a2 _).trans (s_sl07Plan_ok a0 a1 a2 v h)⟩
  · intro v h; cases h

/-! ### function 25: loop.example/g01322/spec.ValidSlots -/
noncomputable def f_sValidSlots_c : Code := match Try.f25.body with | some c => c | none => .skip
noncomputable def f_sValidSlots_X : Ctx := ⟨TT, phiOf [(85, c_sl07Ok), (86, c_sl07Hands), (87, c_sl07Plan)], noPsi, noXi⟩
def f_sValidSlots_LV : List (Nat × Keep) := []
def f_sValidSlots_rv : List ResultVar := [.tmp 6]
noncomputable def f_sValidSlots_L (r : List A) : Nat → AS → Option (List A) := L f_sValidSlots_X (cnOf f_sValidSlots_LV) f_sValidSlots_c (K0 TT f_sValidSlots_rv) r
theorem f_sValidSlots_ctx : CtxOK Try.prog f_sValidSlots_X := ctx_of tab mix ⟨⟨Try.call85, f_sl07Ok_sound⟩, ⟨Try.call86, f_sl07Hands_sound⟩, ⟨Try.call87, f_sl07Plan_sound⟩, trivial⟩
noncomputable def s_sValidSlots (a0 : (List (Int × Int))) (a1 : Int) (a2 : (List (Int × Int))) : Option Bool := (Option.bind (s_sl07Ok a0) fun r1 => (cond r1 (cond (s_sl07Hands a1) (Option.bind (s_sl07Plan a0 a1 a2) fun r2 => (some r2)) (some false)) (some false)))
theorem f_sValidSlots_top (a0 : (List (Int × Int))) (a1 : Int) (a2 : (List (Int × Int))) (r : List A) : ev f_sValidSlots_X (lpc (cnOf f_sValidSlots_LV) (f_sValidSlots_L r)) f_sValidSlots_c (K0 TT f_sValidSlots_rv) (enter [.lst (.st [(.i .i8), (.i .u16)]) a0, .v (.int .i64 a1), .lst (.st [(.i .i8), (.i .i16)]) a2]) = (Option.bind (s_sl07Ok a0) fun r1 => (cond r1 (cond (s_sl07Hands a1) (Option.bind (s_sl07Plan a0 a1 a2) fun r2 => (some [.v (.bool r2)])) (some [.v (.bool false)])) (some [.v (.bool false)]))) := by kernel_rfl
noncomputable def l_sValidSlots (r : Bool) : List A := [.v (.bool r)]
theorem s_sValidSlots_ok (a0 : (List (Int × Int))) (a1 : Int) (a2 : (List (Int × Int))) (v : Bool) (h : s_sValidSlots a0 a1 a2 = some v) : (Option.bind (s_sl07Ok a0) fun r1 => (cond r1 (cond (s_sl07Hands a1) (Option.bind (s_sl07Plan a0 a1 a2) fun r2 => (some [.v (.bool r2)])) (some [.v (.bool false)])) (some [.v (.bool false)]))) = some (l_sValidSlots v) := by
  have e : (Option.bind (s_sl07Ok a0) fun r1 => (cond r1 (cond (s_sl07Hands a1) (Option.bind (s_sl07Plan a0 a1 a2) fun r2 => (some [.v (.bool r2)])) (some [.v (.bool false)])) (some [.v (.bool false)]))) = Option.map l_sValidSlots (s_sValidSlots a0 a1 a2) := by
    unfold s_sValidSlots
    exact (bind_app fun _ => (cond_app (Option.map l_sValidSlots) (cond_app (Option.map l_sValidSlots) (bind_app fun _ => rfl) rfl) rfl))
  rw [e, h]; rfl
noncomputable def c_sValidSlots : List A → ACall
  | [.lst (.st [(.i .i8), (.i .u16)]) a0, .v (.int .i64 a1), .lst (.st [(.i .i8), (.i .i16)]) a2] => ⟨Bool, s_sValidSlots a0 a1 a2, fun r => .one (.v (.bool r))⟩
  | _ => ACall.fail
theorem f_sValidSlots_sound : Sound Try.prog 25 c_sValidSlots := by
  refine sound_good f_sValidSlots_ctx f_sValidSlots_LV 3 Try.func25 (c := f_sValidSlots_c) (by kernel_rfl) (rv := f_sValidSlots_rv) (by kernel_rfl) (by kernel_rfl) (by kernel_rfl) (by kernel_rfl) fun rs => ?_
  unfold c_sValidSlots
  split
  · rename_i a0 a1 a2; intro v h; exact ⟨rfl, l_sValidSlots v, rfl, (f_sValidSlots_top a0 a1 a2 _).trans (s_sValidSlots_ok a0 a1 a2 v h)⟩
  · intro v h; cases h

/-! ### function 82: loop.example/g01322/impl.isHands -/
noncomputable def f_iisHands_c : Code := match Try.f82.body with | some c => c | none => .skip
noncomputable def f_iisHands_X : Ctx := ⟨TT, phiOf [(75, c_iwithin)], noPsi, noXi⟩
def f_iisHands_LV : List (Nat × Keep) := []
def f_iisHands_rv : List ResultVar := [.tmp 2]
noncomputable def f_iisHands_L (r : List A) : Nat → AS → Option (List A) := L f_iisHands_X (cnOf f_iisHands_LV) f_iisHands_c (K0 TT f_iisHands_rv) r
theorem f_iisHands_ctx : CtxOK Try.prog f_iisHands_X := ctx_of tab mix ⟨⟨Try.call75, f_iwithin_sound⟩, trivial⟩
noncomputable def s_iisHands (a0 : Int) : Bool := (s_iwithin a0 1 4)
theorem f_iisHands_top (a0 : Int) (r : List A) : ev f_iisHands_X (lpc (cnOf f_iisHands_LV) (f_iisHands_L r)) f_iisHands_c (K0 TT f_iisHands_rv) (enter [.v (.int .i64 a0)]) = (some [.v (.bool (s_iwithin a0 1 4))]) := by kernel_rfl
noncomputable def l_iisHands (r : Bool) : List A := [.v (.bool r)]
theorem s_iisHands_ok (a0 : Int) : (some [.v (.bool (s_iwithin a0 1 4))]) = some (l_iisHands (s_iisHands a0)) := by
  unfold s_iisHands
  exact rfl
noncomputable def c_iisHands : List A → ACall
  | [.v (.int .i64 a0)] => ⟨Bool, some (s_iisHands a0), fun r => .one (.v (.bool r))⟩
  | _ => ACall.fail
theorem f_iisHands_sound : Sound Try.prog 82 c_iisHands := by
  refine sound_good f_iisHands_ctx f_iisHands_LV 1 Try.func82 (c := f_iisHands_c) (by kernel_rfl) (rv := f_iisHands_rv) (by kernel_rfl) (by kernel_rfl) (by kernel_rfl) (by kernel_rfl) fun rs => ?_
  unfold c_iisHands
  split
  · rename_i a0; intro v h; cases h; exact ⟨rfl, l_iisHands (s_iisHands a0), rfl, (f_iisHands_top a0 _).trans (s_iisHands_ok a0)⟩
  · intro v h; cases h

/-! ### function 155: loop.example/g01322/impl.isSlot -/
noncomputable def f_iisSlot_c : Code := match Try.f155.body with | some c => c | none => .skip
noncomputable def f_iisSlot_X : Ctx := ⟨TT, phiOf [(75, c_iwithin)], noPsi, noXi⟩
def f_iisSlot_LV : List (Nat × Keep) := []
def f_iisSlot_rv : List ResultVar := [.tmp 4]
noncomputable def f_iisSlot_L (r : List A) : Nat → AS → Option (List A) := L f_iisSlot_X (cnOf f_iisSlot_LV) f_iisSlot_c (K0 TT f_iisSlot_rv) r
theorem f_iisSlot_ctx : CtxOK Try.prog f_iisSlot_X := ctx_of tab mix ⟨⟨Try.call75, f_iwithin_sound⟩, trivial⟩
noncomputable def s_iisSlot (a0 : Int) (a1 : Int) (a2 : Int) : Bool := (cond (s_iwithin (IntKind.wrap .i64 a0) 0 (IntKind.wrap .i64 (a2 - 1))) (s_iwithin (IntKind.wrap .i64 a1) 0 1000) false)
theorem f_iisSlot_top (a0 : Int) (a1 : Int) (a2 : Int) (r : List A) : ev f_iisSlot_X (lpc (cnOf f_iisSlot_LV) (f_iisSlot_L r)) f_iisSlot_c (K0 TT f_iisSlot_rv) (enter [.rc [.v (.int .i8 a0), .v (.int .i16 a1)], .v (.int .i64 a2)]) = (cond (s_iwithin (IntKind.wrap .i64 a0) 0 (IntKind.wrap .i64 (a2 - 1))) (some [.v (.bool (s_iwithin (IntKind.wrap .i64 a1) 0 1000))]) (some [.v (.bool false)])) := by kernel_rfl
noncomputable def l_iisSlot (r : Bool) : List A := [.v (.bool r)]
theorem s_iisSlot_ok (a0 : Int) (a1 : Int) (a2 : Int) : (cond (s_iwithin (IntKind.wrap .i64 a0) 0 (IntKind.wrap .i64 (a2 - 1))) (some [.v (.bool (s_iwithin (IntKind.wrap .i64 a1) 0 1000))]) (some [.v (.bool false)])) = some (l_iisSlot (s_iisSlot a0 a1 a2)) := by
  unfold s_iisSlot
  exact (cond_app (fun x => some (l_iisSlot x)) rfl rfl)
noncomputable def c_iisSlot : List A → ACall
  | [.rc [.v (.int .i8 a0), .v (.int .i16 a1)], .v (.int .i64 a2)] => ⟨Bool, some (s_iisSlot a0 a1 a2), fun r => .one (.v (.bool r))⟩
  | _ => ACall.fail
theorem f_iisSlot_sound : Sound Try.prog 155 c_iisSlot := by
  refine sound_good f_iisSlot_ctx f_iisSlot_LV 2 Try.func155 (c := f_iisSlot_c) (by kernel_rfl) (rv := f_iisSlot_rv) (by kernel_rfl) (by kernel_rfl) (by kernel_rfl) (by kernel_rfl) fun rs => ?_
  unfold c_iisSlot
  split
  · rename_i a0 a1 a2; intro v h; cases h; exact ⟨rfl, l_iisSlot (s_iisSlot a0 a1 a2), rfl, (f_iisSlot_top a0 a1 a2 _).trans (s_iisSlot_ok a0 a1 a2)⟩
  · intro v h; cases h

/-! ### function 126: loop.example/g01322/impl.done -/
noncomputable def f_idone_c : Code := match Try.f126.body with | some c => c | none => .skip
noncomputable def f_idone_X : Ctx := ⟨TT, phiOf [], noPsi, noXi⟩
def f_idone_LV : List (Nat × Keep) := []
def f_idone_rv : List ResultVar := [.tmp 4]
noncomputable def f_idone_L (r : List A) : Nat → AS → Option (List A) := L f_idone_X (cnOf f_idone_LV) f_idone_c (K0 TT f_idone_rv) r
theorem f_idone_ctx : CtxOK Try.prog f_idone_X := ctx_of tab mix trivial
noncomputable def s_idone (a0 : Int) (a1 : Int) (a2 : Int) (a3 : Int) : Int := (IntKind.wrap .i64 ((IntKind.wrap .i64 a3) + (IntKind.wrap .i64 a0)))
theorem f_idone_top (a0 : Int) (a1 : Int) (a2 : Int) (a3 : Int) (r : List A) : ev f_idone_X (lpc (cnOf f_idone_LV) (f_idone_L r)) f_idone_c (K0 TT f_idone_rv) (enter [.rc [.v (.int .i8 a0), .v (.int .u16 a1)], .rc [.v (.int .i8 a2), .v (.int .i16 a3)]]) = (some [.v (.int .i64 (IntKind.wrap .i64 ((IntKind.wrap .i64 a3) + (IntKind.wrap .i64 a0))))]) := by kernel_rfl
noncomputable def l_idone (r : Int) : List A := [.v (.int .i64 r)]
theorem s_idone_ok (a0 : Int) (a1 : Int) (a2 : Int) (a3 : Int) : (some [.v (.int .i64 (IntKind.wrap .i64 ((IntKind.wrap .i64 a3) + (IntKind.wrap .i64 a0))))]) = some (l_idone (s_idone a0 a1 a2 a3)) := by
  unfold s_idone
  exact rfl
noncomputable def c_idone : List A → ACall
  | [.rc [.v (.int .i8 a0), .v (.int .u16 a1)], .rc [.v (.int .i8 a2), .v (.int .i16 a3)]] => ⟨Int, some (s_idone a0 a1 a2 a3), fun r => .one (.v (.int .i64 r))⟩
  | _ => ACall.fail
theorem f_idone_sound : Sound Try.prog 126 c_idone := by
  refine sound_good f_idone_ctx f_idone_LV 2 Try.func126 (c := f_idone_c) (by kernel_rfl) (rv := f_idone_rv) (by kernel_rfl) (by kernel_rfl) (by kernel_rfl) (by kernel_rfl) fun rs => ?_
  unfold c_idone
  split
  · rename_i a0 a1 a2 a3; intro v h; cases h; exact ⟨rfl, l_idone (s_idone a0 a1 a2 a3), rfl, (f_idone_top a0 a1 a2 a3 _).trans (s_idone_ok a0 a1 a2 a3)⟩
  · intro v h; cases h

/-! ### function 154: loop.example/g01322/impl.wrong$1 -/
noncomputable def f_iwrong_1_c : Code := match Try.f154.body with | some c => c | none => .skip
noncomputable def f_iwrong_1_X : Ctx := ⟨TT, phiOf [(126, c_idone), (155, c_iisSlot), (99, c_iJob_waits)], noPsi, noXi⟩
def f_iwrong_1_LV : List (Nat × Keep) := [(5, ([0, 2, 3, 6, 17, 18, 19], [], []))]
def f_iwrong_1_rv : List ResultVar := [.tmp 5]
noncomputable def f_iwrong_1_L (r : List A) : Nat → AS → Option (List A) := L f_iwrong_1_X (cnOf f_iwrong_1_LV) f_iwrong_1_c (K0 TT f_iwrong_1_rv) r
theorem f_iwrong_1_ctx : CtxOK Try.prog f_iwrong_1_X := ctx_of tab mix ⟨⟨Try.call126, f_idone_sound⟩, ⟨Try.call155, f_iisSlot_sound⟩, ⟨Try.call99, f_iJob_waits_sound⟩, trivial⟩
noncomputable def f_iwrong_1_s5 (x0 : Int) (x1 : Int) (x2 : Int) (x3 : Int) (x4 : (List (Int × Int))) (x5 : Int) (x6 : Int) (x7 : (List (Int × Int))) : AS := ⟨[(0, .a (.v (.int .i64 x0))), (2, .a (.ptr 0 [] (0))), (3, .a (.ptr 1 [] (0))), (6, .a (.ptr 3 [] (0))), (17, .a (.sl 4)), (18, .a (.v (.int .i64 x1))), (19, .a (.v (.int .i64 x2)))], [(0, some ⟨false, .box (.v (.int .i64 x3))⟩), (1, some ⟨false, .box (.sl 2)⟩), (2, some ⟨false, .arr (.st [(.i .i8), (.i .u16)]) x4⟩), (3, some ⟨true, .box (.rc [.v (.int .i8 x5), .v (.int .i16 x6)])⟩), (4, some ⟨false, .arr (.st [(.i .i8), (.i .i16)]) x7⟩)], 5⟩
noncomputable def l_iwrong_1 (r : Bool) : List A := [.v (.bool r)]
theorem f_iwrong_1_step5 (x0 : Int) (x1 : Int) (x2 : Int) (x3 : Int) (x4 : (List (Int × Int))) (x5 : Int) (x6 : Int) (x7 : (List (Int × Int))) (r : List A) (h : (cond (decide (x2 < x1)) (cond (inB x2 (List.length x7)) (cond (!(s_iisSlot (List.getD x7 (Int.toNat x2) ((0, 0) : (Int × Int))).1 (List.getD x7 (Int.toNat x2) ((0, 0) : (Int × Int))).2 x3)) (f_iwrong_1_L r 5 (f_iwrong_1_s5 x0 x1 (IntKind.wrap .i64 (x2 + 1)) x3 x4 x5 x6 x7)) (cond (inB x0 (List.length x4)) (Option.bind (s_iJob_waits (List.getD x4 (Int.toNat x0) ((0, 0) : (Int × Int))).1 (List.getD x4 (Int.toNat x0) ((0, 0) : (Int × Int))).2 x2) fun r1 => (cond r1 (cond (inB x2 (List.length x4)) (cond (decide ((IntKind.wrap .i64 x6) < (s_idone (List.getD x4 (Int.toNat x2) ((0, 0) : (Int × Int))).1 (List.getD x4 (Int.toNat x2) ((0, 0) : (Int × Int))).2 (List.getD x7 (Int.toNat x2) ((0, 0) : (Int × Int))).1 (List.getD x7 (Int.toNat x2) ((0, 0) : (Int × Int))).2))) (some [.v (.bool true)]) (cond (decide (x2 < x0)) (cond ((List.getD x7 (Int.toNat x2) ((0, 0) : (Int × Int))).1 == x5) (cond (inB x2 (List.length x4)) (cond (decide ((IntKind.wrap .i64 x6) < (s_idone (List.getD x4 (Int.toNat x2) ((0, 0) : (Int × Int))).1 (List.getD x4 (Int.toNat x2) ((0, 0) : (Int × Int))).2 (List.getD x7 (Int.toNat x2) ((0, 0) : (Int × Int))).1 (List.getD x7 (Int.toNat x2) ((0, 0) : (Int × Int))).2))) (cond (inB x0 (List.length x4)) (cond (decide ((IntKind.wrap .i64 (List.getD x7 (Int.toNat x2) ((0, 0) : (Int × Int))).2) < (s_idone (List.getD x4 (Int.toNat x0) ((0, 0) : (Int × Int))).1 (List.getD x4 (Int.toNat x0) ((0, 0) : (Int × Int))).2 x5 x6))) (some [.v (.bool true)]) (f_iwrong_1_L r 5 (f_iwrong_1_s5 x0 x1 (IntKind.wrap .i64 (x2 + 1)) x3 x4 x5 x6 x7))) none) (f_iwrong_1_L r 5 (f_iwrong_1_s5 x0 x1 (IntKind.wrap .i64 (x2 + 1)) x3 x4 x5 x6 x7))) none) (f_iwrong_1_L r 5 (f_iwrong_1_s5 x0 x1 (IntKind.wrap .i64 (x2 + 1)) x3 x4 x5 x6 x7))) (f_iwrong_1_L r 5 (f_iwrong_1_s5 x0 x1 (IntKind.wrap .i64 (x2 + 1)) x3 x4 x5 x6 x7)))) none) (cond (decide (x2 < x0)) (cond ((List.getD x7 (Int.toNat x2) ((0, 0) : (Int × Int))).1 == x5) (cond (inB x2 (List.length x4)) (cond (decide ((IntKind.wrap .i64 x6) < (s_idone (List.getD x4 (Int.toNat x2) ((0, 0) : (Int × Int))).1 (List.getD x4 (Int.toNat x2) ((0, 0) : (Int × Int))).2 (List.getD x7 (Int.toNat x2) ((0, 0) : (Int × Int))).1 (List.getD x7 (Int.toNat x2) ((0, 0) : (Int × Int))).2))) (cond (inB x0 (List.length x4)) (cond (decide ((IntKind.wrap .i64 (List.getD x7 (Int.toNat x2) ((0, 0) : (Int × Int))).2) < (s_idone (List.getD x4 (Int.toNat x0) ((0, 0) : (Int × Int))).1 (List.getD x4 (Int.toNat x0) ((0, 0) : (Int × Int))).2 x5 x6))) (some [.v (.bool true)]) (f_iwrong_1_L r 5 (f_iwrong_1_s5 x0 x1 (IntKind.wrap .i64 (x2 + 1)) x3 x4 x5 x6 x7))) none) (f_iwrong_1_L r 5 (f_iwrong_1_s5 x0 x1 (IntKind.wrap .i64 (x2 + 1)) x3 x4 x5 x6 x7))) none) (f_iwrong_1_L r 5 (f_iwrong_1_s5 x0 x1 (IntKind.wrap .i64 (x2 + 1)) x3 x4 x5 x6 x7))) (f_iwrong_1_L r 5 (f_iwrong_1_s5 x0 x1 (IntKind.wrap .i64 (x2 + 1)) x3 x4 x5 x6 x7))))) none)) none) (some [.v (.bool false)])) = some r) : f_iwrong_1_L r 5 (f_iwrong_1_s5 x0 x1 x2 x3 x4 x5 x6 x7) = some r :=
  step_of' h (by kernel_rfl)
noncomputable def f_iwrong_1_n5 (x0 : Int) (x1 : Int) (x2 : Int) (x3 : Int) (x4 : (List (Int × Int))) (x5 : Int) (x6 : Int) (x7 : (List (Int × Int))) : Option ((Int × Int × Int × Int × (List (Int × Int)) × Int × Int × (List (Int × Int))) ⊕ Bool) := (cond (decide (x2 < x1)) (cond (inB x2 (List.length x7)) (cond (!(s_iisSlot (List.getD x7 (Int.toNat x2) ((0, 0) : (Int × Int))).1 (List.getD x7 (Int.toNat x2) ((0, 0) : (Int × Int))).2 x3)) (some (Sum.inl (x0, x1, (IntKind.wrap .i64 (x2 + 1)), x3, x4, x5, x6, x7))) (cond (inB x0 (List.length x4)) (Option.bind (s_iJob_waits (List.getD x4 (Int.toNat x0) ((0, 0) : (Int × Int))).1 (List.getD x4 (Int.toNat x0) ((0, 0) : (Int × Int))).2 x2) fun r1 => (cond r1 (cond (inB x2 (List.length x4)) (cond (decide ((IntKind.wrap .i64 x6) < (s_idone (List.getD x4 (Int.toNat x2) ((0, 0) : (Int × Int))).1 (List.getD x4 (Int.toNat x2) ((0, 0) : (Int × Int))).2 (List.getD x7 (Int.toNat x2) ((0, 0) : (Int × Int))).1 (List.getD x7 (Int.toNat x2) ((0, 0) : (Int × Int))).2))) (some (Sum.inr true)) (cond (decide (x2 < x0)) (cond ((List.getD x7 (Int.toNat x2) ((0, 0) : (Int × Int))).1 == x5) (cond (inB x2 (List.length x4)) (cond (decide ((IntKind.wrap .i64 x6) < (s_idone (List.getD x4 (Int.toNat x2) ((0, 0) : (Int × Int))).1 (List.getD x4 (Int.toNat x2) ((0, 0) : (Int × Int))).2 (List.getD x7 (Int.toNat x2) ((0, 0) : (Int × Int))).1 (List.getD x7 (Int.toNat x2) ((0, 0) : (Int × Int))).2))) (cond (inB x0 (List.length x4)) (cond (decide ((IntKind.wrap .i64 (List.getD x7 (Int.toNat x2) ((0, 0) : (Int × Int))).2) < (s_idone (List.getD x4 (Int.toNat x0) ((0, 0) : (Int × Int))).1 (List.getD x4 (Int.toNat x0) ((0, 0) : (Int × Int))).2 x5 x6))) (some (Sum.inr true)) (some (Sum.inl (x0, x1, (IntKind.wrap .i64 (x2 + 1)), x3, x4, x5, x6, x7)))) none) (some (Sum.inl (x0, x1, (IntKind.wrap .i64 (x2 + 1)), x3, x4, x5, x6, x7)))) none) (some (Sum.inl (x0, x1, (IntKind.wrap .i64 (x2 + 1)), x3, x4, x5, x6, x7)))) (some (Sum.inl (x0, x1, (IntKind.wrap .i64 (x2 + 1)), x3, x4, x5, x6, x7))))) none) (cond (decide (x2 < x0)) (cond ((List.getD x7 (Int.toNat x2) ((0, 0) : (Int × Int))).1 == x5) (cond (inB x2 (List.length x4)) (cond (decide ((IntKind.wrap .i64 x6) < (s_idone (List.getD x4 (Int.toNat x2) ((0, 0) : (Int × Int))).1 (List.getD x4 (Int.toNat x2) ((0, 0) : (Int × Int))).2 (List.getD x7 (Int.toNat x2) ((0, 0) : (Int × Int))).1 (List.getD x7 (Int.toNat x2) ((0, 0) : (Int × Int))).2))) (cond (inB x0 (List.length x4)) (cond (decide ((IntKind.wrap .i64 (List.getD x7 (Int.toNat x2) ((0, 0) : (Int × Int))).2) < (s_idone (List.getD x4 (Int.toNat x0) ((0, 0) : (Int × Int))).1 (List.getD x4 (Int.toNat x0) ((0, 0) : (Int × Int))).2 x5 x6))) (some (Sum.inr true)) (some (Sum.inl (x0, x1, (IntKind.wrap .i64 (x2 + 1)), x3, x4, x5, x6, x7)))) none) (some (Sum.inl (x0, x1, (IntKind.wrap .i64 (x2 + 1)), x3, x4, x5, x6, x7)))) none) (some (Sum.inl (x0, x1, (IntKind.wrap .i64 (x2 + 1)), x3, x4, x5, x6, x7)))) (some (Sum.inl (x0, x1, (IntKind.wrap .i64 (x2 + 1)), x3, x4, x5, x6, x7)))))) none)) none) (some (Sum.inr false)))
noncomputable def f_iwrong_1_run5 (x : (Int × Int × Int × Int × (List (Int × Int)) × Int × Int × (List (Int × Int)))) : Option Bool := iter (fun x => f_iwrong_1_n5 x.1 x.2.1 x.2.2.1 x.2.2.2.1 x.2.2.2.2.1 x.2.2.2.2.2.1 x.2.2.2.2.2.2.1 x.2.2.2.2.2.2.2) FU x
noncomputable def f_iwrong_1_G5 (r : List A) (x : (Int × Int × Int × Int × (List (Int × Int)) × Int × Int × (List (Int × Int)))) : Prop := f_iwrong_1_L r 5 (f_iwrong_1_s5 x.1 x.2.1 x.2.2.1 x.2.2.2.1 x.2.2.2.2.1 x.2.2.2.2.2.1 x.2.2.2.2.2.2.1 x.2.2.2.2.2.2.2) = some r
noncomputable def f_iwrong_1_S5 (r : List A) : Bool → Prop := fun v => r = l_iwrong_1 v
theorem f_iwrong_1_go5 (r : List A) : ∀ x, sem (f_iwrong_1_S5 r) (f_iwrong_1_run5 x) → f_iwrong_1_G5 r x :=
  fun x => iter_sound (step := fun x => f_iwrong_1_n5 x.1 x.2.1 x.2.2.1 x.2.2.2.1 x.2.2.2.2.1 x.2.2.2.2.2.1 x.2.2.2.2.2.2.1 x.2.2.2.2.2.2.2) (fun x h => by
    unfold f_iwrong_1_n5 at h
    exact f_iwrong_1_step5 x.1 x.2.1 x.2.2.1 x.2.2.2.1 x.2.2.2.2.1 x.2.2.2.2.2.1 x.2.2.2.2.2.2.1 x.2.2.2.2.2.2.2 r ((sem_cond h (fun h => (sem_cond h (fun h => (sem_cond h (fun h => sem_got h fun q => q) (fun h => (sem_cond h (fun h => (sem_bind h fun r1 h => (sem_cond h (fun h => (sem_cond h (fun h => (sem_cond h (fun h => sem_got h fun q => some_eq q) (fun h => (sem_cond h (fun h => (sem_cond h (fun h => (sem_cond h (fun h => (sem_cond h (fun h => (sem_cond h (fun h => (sem_cond h (fun h => sem_got h fun q => some_eq q) (fun h => sem_got h fun q => q))) (fun h => sem_none h))) (fun h => sem_got h fun q => q))) (fun h => sem_none h))) (fun h => sem_got h fun q => q))) (fun h => sem_got h fun q => q))))) (fun h => sem_none h))) (fun h => (sem_cond h (fun h => (sem_cond h (fun h => (sem_cond h (fun h => (sem_cond h (fun h => (sem_cond h (fun h => (sem_cond h (fun h => sem_got h fun q => some_eq q) (fun h => sem_got h fun q => q))) (fun h => sem_none h))) (fun h => sem_got h fun q => q))) (fun h => sem_none h))) (fun h => sem_got h fun q => q))) (fun h => sem_got h fun q => q)))))) (fun h => sem_none h))))) (fun h => sem_none h))) (fun h => sem_got h fun q => some_eq q)))) FU x
noncomputable def s_iwrong_1 (a0 : Int) (a1 : (List (Int × Int))) (a2 : Int) (a3 : (List (Int × Int))) : Option Bool := (cond (inB a0 (List.length a1)) (cond (!(s_iisSlot (List.getD a1 (Int.toNat a0) ((0, 0) : (Int × Int))).1 (List.getD a1 (Int.toNat a0) ((0, 0) : (Int × Int))).2 a2)) (some true) (f_iwrong_1_run5 (a0, ((List.length a1 : Nat) : Int), 0, a2, a3, (List.getD a1 (Int.toNat a0) ((0, 0) : (Int × Int))).1, (List.getD a1 (Int.toNat a0) ((0, 0) : (Int × Int))).2, a1))) none)
theorem f_iwrong_1_top (a0 : Int) (a1 : (List (Int × Int))) (a2 : Int) (a3 : (List (Int × Int))) (r : List A) : ev f_iwrong_1_X (lpc (cnOf f_iwrong_1_LV) (f_iwrong_1_L r)) f_iwrong_1_c (K0 TT f_iwrong_1_rv) (enter [.v (.int .i64 a0), .ref (.lst (.st [(.i .i8), (.i .i16)]) a1), .ref (.v (.int .i64 a2)), .ref (.lst (.st [(.i .i8), (.i .u16)]) a3)]) = (cond (inB a0 (List.length a1)) (cond (!(s_iisSlot (List.getD a1 (Int.toNat a0) ((0, 0) : (Int × Int))).1 (List.getD a1 (Int.toNat a0) ((0, 0) : (Int × Int))).2 a2)) (some [.v (.bool true)]) (f_iwrong_1_L r 5 (f_iwrong_1_s5 a0 ((List.length a1 : Nat) : Int) 0 a2 a3 (List.getD a1 (Int.toNat a0) ((0, 0) : (Int × Int))).1 (List.getD a1 (Int.toNat a0) ((0, 0) : (Int × Int))).2 a1))) none) := by kernel_rfl
theorem s_iwrong_1_ok (a0 : Int) (a1 : (List (Int × Int))) (a2 : Int) (a3 : (List (Int × Int))) (v : Bool) (h : s_iwrong_1 a0 a1 a2 a3 = some v) : (cond (inB a0 (List.length a1)) (cond (!(s_iisSlot (List.getD a1 (Int.toNat a0) ((0, 0) : (Int × Int))).1 (List.getD a1 (Int.toNat a0) ((0, 0) : (Int × Int))).2 a2)) (some [.v (.bool true)]) (f_iwrong_1_L (l_iwrong_1 v) 5 (f_iwrong_1_s5 a0 ((List.length a1 : Nat) : Int) 0 a2 a3 (List.getD a1 (Int.toNat a0) ((0, 0) : (Int × Int))).1 (List.getD a1 (Int.toNat a0) ((0, 0) : (Int × Int))).2 a1))) none) = some (l_iwrong_1 v) := by
  unfold s_iwrong_1 at h
  have go : ∀ r, sem (fun v => r = l_iwrong_1 v) ((cond (inB a0 (List.length a1)) (cond (!(s_iisSlot (List.getD a1 (Int.toNat a0) ((0, 0) : (Int × Int))).1 (List.getD a1 (Int.toNat a0) ((0, 0) : (Int × Int))).2 a2)) (some true) (f_iwrong_1_run5 (a0, ((List.length a1 : Nat) : Int), 0, a2, a3, (List.getD a1 (Int.toNat a0) ((0, 0) : (Int × Int))).1, (List.getD a1 (Int.toNat a0) ((0, 0) : (Int × Int))).2, a1))) none)) → (cond (inB a0 (List.length a1)) (cond (!(s_iisSlot (List.getD a1 (Int.toNat a0) ((0, 0) : (Int × Int))).1 (List.getD a1 (Int.toNat a0) ((0, 0) : (Int × Int))).2 a2)) (some [.v (.bool true)]) (f_iwrong_1_L r 5 (f_iwrong_1_s5 a0 ((List.length a1 : Nat) : Int) 0 a2 a3 (List.getD a1 (Int.toNat a0) ((0, 0) : (Int × Int))).1 (List.getD a1 (Int.toNat a0) ((0, 0) : (Int × Int))).2 a1))) none) = some r := fun r h => (sem_cond h (fun h => (sem_cond h (fun h => sem_got h fun q => some_eq q) (fun h => f_iwrong_1_go5 r _ h))) (fun h => sem_none h))
  exact go (l_iwrong_1 v) ⟨v, h, rfl⟩
noncomputable def c_iwrong_1 : List A → ACall
  | [.v (.int .i64 a0), .ref (.lst (.st [(.i .i8), (.i .i16)]) a1), .ref (.v (.int .i64 a2)), .ref (.lst (.st [(.i .i8), (.i .u16)]) a3)] => ⟨Bool, s_iwrong_1 a0 a1 a2 a3, fun r => .one (.v (.bool r))⟩
  | _ => ACall.fail
theorem f_iwrong_1_sound : Sound Try.prog 154 c_iwrong_1 := by
  refine sound_good f_iwrong_1_ctx f_iwrong_1_LV 4 Try.func154 (c := f_iwrong_1_c) (by kernel_rfl) (rv := f_iwrong_1_rv) (by kernel_rfl) (by kernel_rfl) (by kernel_rfl) (by kernel_rfl) fun rs => ?_
  unfold c_iwrong_1
  split
  · rename_i a0 a1 a2 a3; intro v h; exact ⟨rfl, l_iwrong_1 v, rfl, (f_iwrong_1_top a0 a1 a2 a3 _).trans (s_iwrong_1_ok a0 a1 a2 a3 v h)⟩
  · intro v h; cases h

/-! ### function 96: slices.IndexFunc[[]int,int] -/
noncomputable def f_gIndexFunc_int_b_c : Code := match Try.f96.body with | some c => c | none => .skip
noncomputable def f_gIndexFunc_int_b_X : Ctx := ⟨TT, phiOf [(154, c_iwrong_1)], noPsi, noXi⟩
def f_gIndexFunc_int_b_LV : List (Nat × Keep) := [(2, ([0, 1, 7, 8], [], []))]
def f_gIndexFunc_int_b_rv : List ResultVar := [.tmp 4]
noncomputable def f_gIndexFunc_int_b_L (r : List A) : Nat → AS → Option (List A) := L f_gIndexFunc_int_b_X (cnOf f_gIndexFunc_int_b_LV) f_gIndexFunc_int_b_c (K0 TT f_gIndexFunc_int_b_rv) r
theorem f_gIndexFunc_int_b_ctx : CtxOK Try.prog f_gIndexFunc_int_b_X := ctx_of tab mix ⟨⟨Try.call154, f_iwrong_1_sound⟩, trivial⟩
noncomputable def f_gIndexFunc_int_b_s2 (x0 : Int) (x1 : Int) (x2 : (List Int)) (x3 : (List (Int × Int))) (x4 : Int) (x5 : (List (Int × Int))) : AS := ⟨[(0, .a (.sl 0)), (1, .a (.clo 154 [.ptr 1 [] (0), .ptr 3 [] (0), .ptr 4 [] (0)])), (7, .a (.v (.int .i64 x0))), (8, .a (.v (.int .i64 x1)))], [(0, some ⟨false, .arr (.one (.i .i64)) x2⟩), (1, some ⟨false, .box (.sl 2)⟩), (2, some ⟨false, .arr (.st [(.i .i8), (.i .i16)]) x3⟩), (3, some ⟨false, .box (.v (.int .i64 x4))⟩), (4, some ⟨false, .box (.sl 5)⟩), (5, some ⟨false, .arr (.st [(.i .i8), (.i .u16)]) x5⟩)], 6⟩
noncomputable def l_gIndexFunc_int_b (r : Int) : List A := [.v (.int .i64 r)]
theorem f_gIndexFunc_int_b_step2 (x0 : Int) (x1 : Int) (x2 : (List Int)) (x3 : (List (Int × Int))) (x4 : Int) (x5 : (List (Int × Int))) (r : List A) (h : (cond (decide (x1 < x0)) (cond (inB x1 (List.length x2)) (Option.bind (s_iwrong_1 (List.getD x2 (Int.toNat x1) 0) x3 x4 x5) fun r1 => (cond r1 (some [.v (.int .i64 x1)]) (f_gIndexFunc_int_b_L r 2 (f_gIndexFunc_int_b_s2 x0 (IntKind.wrap .i64 (x1 + 1)) x2 x3 x4 x5)))) none) (some [.v (.int .i64 (-1))])) = some r) : f_gIndexFunc_int_b_L r 2 (f_gIndexFunc_int_b_s2 x0 x1 x2 x3 x4 x5) = some r :=
  step_of' h (by kernel_rfl)
noncomputable def f_gIndexFunc_int_b_n2 (x0 : Int) (x1 : Int) (x2 : (List Int)) (x3 : (List (Int × Int))) (x4 : Int) (x5 : (List (Int × Int))) : Option ((Int × Int × (List Int) × (List (Int × Int)) × Int × (List (Int × Int))) ⊕ Int) := (cond (decide (x1 < x0)) (cond (inB x1 (List.length x2)) (Option.bind (s_iwrong_1 (List.getD x2 (Int.toNat x1) 0) x3 x4 x5) fun r1 => (cond r1 (some (Sum.inr x1)) (some (Sum.inl (x0, (IntKind.wrap .i64 (x1 + 1)), x2, x3, x4, x5))))) none) (some (Sum.inr (-1))))
noncomputable def f_gIndexFunc_int_b_run2 (x : (Int × Int × (List Int) × (List (Int × Int)) × Int × (List (Int × Int)))) : Option Int := iter (fun x => f_gIndexFunc_int_b_n2 x.1 x.2.1 x.2.2.1 x.2.2.2.1 x.2.2.2.2.1 x.2.2.2.2.2) FU x
noncomputable def f_gIndexFunc_int_b_G2 (r : List A) (x : (Int × Int × (List Int) × (List (Int × Int)) × Int × (List (Int × Int)))) : Prop := f_gIndexFunc_int_b_L r 2 (f_gIndexFunc_int_b_s2 x.1 x.2.1 x.2.2.1 x.2.2.2.1 x.2.2.2.2.1 x.2.2.2.2.2) = some r
noncomputable def f_gIndexFunc_int_b_S2 (r : List A) : Int → Prop := fun v => r = l_gIndexFunc_int_b v
theorem f_gIndexFunc_int_b_go2 (r : List A) : ∀ x, sem (f_gIndexFunc_int_b_S2 r) (f_gIndexFunc_int_b_run2 x) → f_gIndexFunc_int_b_G2 r x :=
  fun x => iter_sound (step := fun x => f_gIndexFunc_int_b_n2 x.1 x.2.1 x.2.2.1 x.2.2.2.1 x.2.2.2.2.1 x.2.2.2.2.2) (fun x h => by
    unfold f_gIndexFunc_int_b_n2 at h
    exact f_gIndexFunc_int_b_step2 x.1 x.2.1 x.2.2.1 x.2.2.2.1 x.2.2.2.2.1 x.2.2.2.2.2 r ((sem_cond h (fun h => (sem_cond h (fun h => (sem_bind h fun r1 h => (sem_cond h (fun h => sem_got h fun q => some_eq q) (fun h => sem_got h fun q => q)))) (fun h => sem_none h))) (fun h => sem_got h fun q => some_eq q)))) FU x
noncomputable def s_gIndexFunc_int_b (a0 : (List Int)) (a1 : (List (Int × Int))) (a2 : Int) (a3 : (List (Int × Int))) : Option Int := (f_gIndexFunc_int_b_run2 (((List.length a0 : Nat) : Int), 0, a0, a1, a2, a3))
theorem f_gIndexFunc_int_b_top (a0 : (List Int)) (a1 : (List (Int × Int))) (a2 : Int) (a3 : (List (Int × Int))) (r : List A) : ev f_gIndexFunc_int_b_X (lpc (cnOf f_gIndexFunc_int_b_LV) (f_gIndexFunc_int_b_L r)) f_gIndexFunc_int_b_c (K0 TT f_gIndexFunc_int_b_rv) (enter [.lst (.one (.i .i64)) a0, .clo 154 [.ref (.lst (.st [(.i .i8), (.i .i16)]) a1), .ref (.v (.int .i64 a2)), .ref (.lst (.st [(.i .i8), (.i .u16)]) a3)]]) = (f_gIndexFunc_int_b_L r 2 (f_gIndexFunc_int_b_s2 ((List.length a0 : Nat) : Int) 0 a0 a1 a2 a3)) := by kernel_rfl
theorem s_gIndexFunc_int_b_ok (a0 : (List Int)) (a1 : (List (Int × Int))) (a2 : Int) (a3 : (List (Int × Int))) (v : Int) (h : s_gIndexFunc_int_b a0 a1 a2 a3 = some v) : (f_gIndexFunc_int_b_L (l_gIndexFunc_int_b v) 2 (f_gIndexFunc_int_b_s2 ((List.length a0 : Nat) : Int) 0 a0 a1 a2 a3)) = some (l_gIndexFunc_int_b v) := by
  unfold s_gIndexFunc_int_b at h
  have go : ∀ r, sem (fun v => r = l_gIndexFunc_int_b v) ((f_gIndexFunc_int_b_run2 (((List.length a0 : Nat) : Int), 0, a0, a1, a2, a3))) → (f_gIndexFunc_int_b_L r 2 (f_gIndexFunc_int_b_s2 ((List.length a0 : Nat) : Int) 0 a0 a1 a2 a3)) = some r := fun r h => f_gIndexFunc_int_b_go2 r _ h
  exact go (l_gIndexFunc_int_b v) ⟨v, h, rfl⟩
noncomputable def c_gIndexFunc_int_b : List A → ACall
  | [.lst (.one (.i .i64)) a0, .clo 154 [.ref (.lst (.st [(.i .i8), (.i .i16)]) a1), .ref (.v (.int .i64 a2)), .ref (.lst (.st [(.i .i8), (.i .u16)]) a3)]] => ⟨Int, s_gIndexFunc_int_b a0 a1 a2 a3, fun r => .one (.v (.int .i64 r))⟩
  | _ => ACall.fail
theorem f_gIndexFunc_int_b_sound : Sound Try.prog 96 c_gIndexFunc_int_b := by
  refine sound_good f_gIndexFunc_int_b_ctx f_gIndexFunc_int_b_LV 2 Try.func96 (c := f_gIndexFunc_int_b_c) (by kernel_rfl) (rv := f_gIndexFunc_int_b_rv) (by kernel_rfl) (by kernel_rfl) (by kernel_rfl) (by kernel_rfl) fun rs => ?_
  unfold c_gIndexFunc_int_b
  split
  · rename_i a0 a1 a2 a3; intro v h; exact ⟨rfl, l_gIndexFunc_int_b v, rfl, (f_gIndexFunc_int_b_top a0 a1 a2 a3 _).trans (s_gIndexFunc_int_b_ok a0 a1 a2 a3 v h)⟩
  · intro v h; cases h
def m_gIndexFunc_int_b : List A → Bool
  | [_, .clo 154 _] => true
  | _ => false

/-! ### function 89: loop.example/g01322/impl.wrong -/
noncomputable def f_iwrong_c : Code := match Try.f89.body with | some c => c | none => .skip
noncomputable def f_iwrong_X : Ctx := ⟨TT, phiOf [(96, c_gIndexFunc_int_b), (97, c_iindices)], noPsi, noXi⟩
def f_iwrong_LV : List (Nat × Keep) := []
def f_iwrong_rv : List ResultVar := [.tmp 6]
noncomputable def f_iwrong_L (r : List A) : Nat → AS → Option (List A) := L f_iwrong_X (cnOf f_iwrong_LV) f_iwrong_c (K0 TT f_iwrong_rv) r
theorem f_iwrong_ctx : CtxOK Try.prog f_iwrong_X := ctx_of tab mix ⟨⟨Try.call96, f_gIndexFunc_int_b_sound⟩, ⟨Try.call97, f_iindices_sound⟩, trivial⟩
noncomputable def s_iwrong (a0 : (List (Int × Int))) (a1 : Int) (a2 : (List (Int × Int))) : Option Int := (Option.bind (s_iindices a0) fun r1 => (Option.bind (s_gIndexFunc_int_b r1 a2 a1 a0) fun r2 => (some r2)))
theorem f_iwrong_top (a0 : (List (Int × Int))) (a1 : Int) (a2 : (List (Int × Int))) (r : List A) : ev f_iwrong_X (lpc (cnOf f_iwrong_LV) (f_iwrong_L r)) f_iwrong_c (K0 TT f_iwrong_rv) (enter [.lst (.st [(.i .i8), (.i .u16)]) a0, .v (.int .i64 a1), .lst (.st [(.i .i8), (.i .i16)]) a2]) = (Option.bind (s_iindices a0) fun r1 => (Option.bind (s_gIndexFunc_int_b r1 a2 a1 a0) fun r2 => (some [.v (.int .i64 r2)]))) := by kernel_rfl
noncomputable def l_iwrong (r : Int) : List A := [.v (.int .i64 r)]
theorem s_iwrong_ok (a0 : (List (Int × Int))) (a1 : Int) (a2 : (List (Int × Int))) (v : Int) (h : s_iwrong a0 a1 a2 = some v) : (Option.bind (s_iindices a0) fun r1 => (Option.bind (s_gIndexFunc_int_b r1 a2 a1 a0) fun r2 => (some [.v (.int .i64 r2)]))) = some (l_iwrong v) := by
  have e : (Option.bind (s_iindices a0) fun r1 => (Option.bind (s_gIndexFunc_int_b r1 a2 a1 a0) fun r2 => (some [.v (.int .i64 r2)]))) = Option.map l_iwrong (s_iwrong a0 a1 a2) := by
    unfold s_iwrong
    exact (bind_app fun _ => (bind_app fun _ => rfl))
  rw [e, h]; rfl
noncomputable def c_iwrong : List A → ACall
  | [.lst (.st [(.i .i8), (.i .u16)]) a0, .v (.int .i64 a1), .lst (.st [(.i .i8), (.i .i16)]) a2] => ⟨Int, s_iwrong a0 a1 a2, fun r => .one (.v (.int .i64 r))⟩
  | _ => ACall.fail
theorem f_iwrong_sound : Sound Try.prog 89 c_iwrong := by
  refine sound_good f_iwrong_ctx f_iwrong_LV 3 Try.func89 (c := f_iwrong_c) (by kernel_rfl) (rv := f_iwrong_rv) (by kernel_rfl) (by kernel_rfl) (by kernel_rfl) (by kernel_rfl) fun rs => ?_
  unfold c_iwrong
  split
  · rename_i a0 a1 a2; intro v h; exact ⟨rfl, l_iwrong v, rfl, (f_iwrong_top a0 a1 a2 _).trans (s_iwrong_ok a0 a1 a2 v h)⟩
  · intro v h; cases h

/-! ### function 27: loop.example/g01322/impl.ValidSlots -/
noncomputable def f_iValidSlots_c : Code := match Try.f27.body with | some c => c | none => .skip
noncomputable def f_iValidSlots_X : Ctx := ⟨TT, phiOf [(81, c_iValidJobs), (82, c_iisHands), (89, c_iwrong)], noPsi, noXi⟩
def f_iValidSlots_LV : List (Nat × Keep) := []
def f_iValidSlots_rv : List ResultVar := [.tmp 6]
noncomputable def f_iValidSlots_L (r : List A) : Nat → AS → Option (List A) := L f_iValidSlots_X (cnOf f_iValidSlots_LV) f_iValidSlots_c (K0 TT f_iValidSlots_rv) r
theorem f_iValidSlots_ctx : CtxOK Try.prog f_iValidSlots_X := ctx_of tab mix ⟨⟨Try.call81, f_iValidJobs_sound⟩, ⟨Try.call82, f_iisHands_sound⟩, ⟨Try.call89, f_iwrong_sound⟩, trivial⟩
noncomputable def s_iValidSlots (a0 : (List (Int × Int))) (a1 : Int) (a2 : (List (Int × Int))) : Option Bool := (Option.bind (s_iValidJobs a0) fun r1 => (cond r1 (cond (s_iisHands a1) (cond (((List.length a2 : Nat) : Int) == ((List.length a0 : Nat) : Int)) (Option.bind (s_iwrong a0 a1 a2) fun r2 => (some (decide (r2 < 0)))) (some false)) (some false)) (some false)))
theorem f_iValidSlots_top (a0 : (List (Int × Int))) (a1 : Int) (a2 : (List (Int × Int))) (r : List A) : ev f_iValidSlots_X (lpc (cnOf f_iValidSlots_LV) (f_iValidSlots_L r)) f_iValidSlots_c (K0 TT f_iValidSlots_rv) (enter [.lst (.st [(.i .i8), (.i .u16)]) a0, .v (.int .i64 a1), .lst (.st [(.i .i8), (.i .i16)]) a2]) = (Option.bind (s_iValidJobs a0) fun r1 => (cond r1 (cond (s_iisHands a1) (cond (((List.length a2 : Nat) : Int) == ((List.length a0 : Nat) : Int)) (Option.bind (s_iwrong a0 a1 a2) fun r2 => (some [.v (.bool (decide (r2 < 0)))])) (some [.v (.bool false)])) (some [.v (.bool false)])) (some [.v (.bool false)]))) := by kernel_rfl
noncomputable def l_iValidSlots (r : Bool) : List A := [.v (.bool r)]
theorem s_iValidSlots_ok (a0 : (List (Int × Int))) (a1 : Int) (a2 : (List (Int × Int))) (v : Bool) (h : s_iValidSlots a0 a1 a2 = some v) : (Option.bind (s_iValidJobs a0) fun r1 => (cond r1 (cond (s_iisHands a1) (cond (((List.length a2 : Nat) : Int) == ((List.length a0 : Nat) : Int)) (Option.bind (s_iwrong a0 a1 a2) fun r2 => (some [.v (.bool (decide (r2 < 0)))])) (some [.v (.bool false)])) (some [.v (.bool false)])) (some [.v (.bool false)]))) = some (l_iValidSlots v) := by
  have e : (Option.bind (s_iValidJobs a0) fun r1 => (cond r1 (cond (s_iisHands a1) (cond (((List.length a2 : Nat) : Int) == ((List.length a0 : Nat) : Int)) (Option.bind (s_iwrong a0 a1 a2) fun r2 => (some [.v (.bool (decide (r2 < 0)))])) (some [.v (.bool false)])) (some [.v (.bool false)])) (some [.v (.bool false)]))) = Option.map l_iValidSlots (s_iValidSlots a0 a1 a2) := by
    unfold s_iValidSlots
    exact (bind_app fun _ => (cond_app (Option.map l_iValidSlots) (cond_app (Option.map l_iValidSlots) (cond_app (Option.map l_iValidSlots) (bind_app fun _ => rfl) rfl) rfl) rfl))
  rw [e, h]; rfl
noncomputable def c_iValidSlots : List A → ACall
  | [.lst (.st [(.i .i8), (.i .u16)]) a0, .v (.int .i64 a1), .lst (.st [(.i .i8), (.i .i16)]) a2] => ⟨Bool, s_iValidSlots a0 a1 a2, fun r => .one (.v (.bool r))⟩
  | _ => ACall.fail
theorem f_iValidSlots_sound : Sound Try.prog 27 c_iValidSlots := by
  refine sound_good f_iValidSlots_ctx f_iValidSlots_LV 3 Try.func27 (c := f_iValidSlots_c) (by kernel_rfl) (rv := f_iValidSlots_rv) (by kernel_rfl) (by kernel_rfl) (by kernel_rfl) (by kernel_rfl) fun rs => ?_
  unfold c_iValidSlots
  split
  · rename_i a0 a1 a2; intro v h; exact ⟨rfl, l_iValidSlots v, rfl, (f_iValidSlots_top a0 a1 a2 _).trans (s_iValidSlots_ok a0 a1 a2 v h)⟩
  · intro v h; cases h

/-! ### function 5: loop.example/g01322/laws.FnExactValidSlots -/
noncomputable def f_wFnExactValidSlots_c : Code := match Try.f5.body with | some c => c | none => .skip
noncomputable def f_wFnExactValidSlots_X : Ctx := ⟨TT, phiOf [(19, c_wszJobS), (21, c_wtoJobS), (23, c_weqJobS), (24, c_wszSlotS), (25, c_sValidSlots), (26, c_wtoSlotS), (27, c_iValidSlots), (28, c_weqSlotS)], noPsi, noXi⟩
def f_wFnExactValidSlots_LV : List (Nat × Keep) := []
def f_wFnExactValidSlots_rv : List ResultVar := [.tmp 6]
noncomputable def f_wFnExactValidSlots_L (r : List A) : Nat → AS → Option (List A) := L f_wFnExactValidSlots_X (cnOf f_wFnExactValidSlots_LV) f_wFnExactValidSlots_c (K0 TT f_wFnExactValidSlots_rv) r
theorem f_wFnExactValidSlots_ctx : CtxOK Try.prog f_wFnExactValidSlots_X := ctx_of tab mix ⟨⟨Try.call19, f_wszJobS_sound⟩, ⟨Try.call21, f_wtoJobS_sound⟩, ⟨Try.call23, f_weqJobS_sound⟩, ⟨Try.call24, f_wszSlotS_sound⟩, ⟨Try.call25, f_sValidSlots_sound⟩, ⟨Try.call26, f_wtoSlotS_sound⟩, ⟨Try.call27, f_iValidSlots_sound⟩, ⟨Try.call28, f_weqSlotS_sound⟩, trivial⟩
noncomputable def s_wFnExactValidSlots (a0 : (List (Int × Int))) (a1 : Int) (a2 : (List (Int × Int))) : Option Bool := (cond (decide ((s_wszJobS a0 1048576) < 0)) (some true) (cond (decide ((s_wszSlotS a2 (s_wszJobS a0 1048576)) < 0)) (some true) (Option.bind (s_wtoJobS a0) fun r1 => (Option.bind (s_wtoSlotS a2) fun r2 => (Option.bind (s_sValidSlots r1 a1 r2) fun r3 => (Option.bind (s_wtoJobS a0) fun r4 => (Option.bind (s_wtoSlotS a2) fun r5 => (Option.bind (s_iValidSlots r4 a1 r5) fun r6 => (cond (!(r6 == r3)) (some false) (Option.bind (s_wtoJobS a0) fun r7 => (Option.bind (s_weqJobS r4 r7) fun r8 => (cond (!r8) (some false) (Option.bind (s_wtoSlotS a2) fun r9 => (Option.bind (s_weqSlotS r5 r9) fun r10 => (cond (!r10) (some false) (some true))))))))))))))))
theorem f_wFnExactValidSlots_top (a0 : (List (Int × Int))) (a1 : Int) (a2 : (List (Int × Int))) (r : List A) : ev f_wFnExactValidSlots_X (lpc (cnOf f_wFnExactValidSlots_LV) (f_wFnExactValidSlots_L r)) f_wFnExactValidSlots_c (K0 TT f_wFnExactValidSlots_rv) (enter [.lst (.st [(.i .i8), (.i .u16)]) a0, .v (.int .i64 a1), .lst (.st [(.i .i8), (.i .i16)]) a2]) = (cond (decide ((s_wszJobS a0 1048576) < 0)) (some [.v (.bool true)]) (cond (decide ((s_wszSlotS a2 (s_wszJobS a0 1048576)) < 0)) (some [.v (.bool true)]) (Option.bind (s_wtoJobS a0) fun r1 => (Option.bind (s_wtoSlotS a2) fun r2 => (Option.bind (s_sValidSlots r1 a1 r2) fun r3 => (Option.bind (s_wtoJobS a0) fun r4 => (Option.bind (s_wtoSlotS a2) fun r5 => (Option.bind (s_iValidSlots r4 a1 r5) fun r6 => (cond (!(r6 == r3)) (some [.v (.bool false)]) (Option.bind (s_wtoJobS a0) fun r7 => (Option.bind (s_weqJobS r4 r7) fun r8 => (cond (!r8) (some [.v (.bool false)]) (Option.bind (s_wtoSlotS a2) fun r9 => (Option.bind (s_weqSlotS r5 r9) fun r10 => (cond (!r10) (some [.v (.bool false)]) (some [.v (.bool true)])))))))))))))))) := by kernel_rfl
noncomputable def l_wFnExactValidSlots (r : Bool) : List A := [.v (.bool r)]
theorem s_wFnExactValidSlots_ok (a0 : (List (Int × Int))) (a1 : Int) (a2 : (List (Int × Int))) (v : Bool) (h : s_wFnExactValidSlots a0 a1 a2 = some v) : (cond (decide ((s_wszJobS a0 1048576) < 0)) (some [.v (.bool true)]) (cond (decide ((s_wszSlotS a2 (s_wszJobS a0 1048576)) < 0)) (some [.v (.bool true)]) (Option.bind (s_wtoJobS a0) fun r1 => (Option.bind (s_wtoSlotS a2) fun r2 => (Option.bind (s_sValidSlots r1 a1 r2) fun r3 => (Option.bind (s_wtoJobS a0) fun r4 => (Option.bind (s_wtoSlotS a2) fun r5 => (Option.bind (s_iValidSlots r4 a1 r5) fun r6 => (cond (!(r6 == r3)) (some [.v (.bool false)]) (Option.bind (s_wtoJobS a0) fun r7 => (Option.bind (s_weqJobS r4 r7) fun r8 => (cond (!r8) (some [.v (.bool false)]) (Option.bind (s_wtoSlotS a2) fun r9 => (Option.bind (s_weqSlotS r5 r9) fun r10 => (cond (!r10) (some [.v (.bool false)]) (some [.v (.bool true)])))))))))))))))) = some (l_wFnExactValidSlots v) := by
  have e : (cond (decide ((s_wszJobS a0 1048576) < 0)) (some [.v (.bool true)]) (cond (decide ((s_wszSlotS a2 (s_wszJobS a0 1048576)) < 0)) (some [.v (.bool true)]) (Option.bind (s_wtoJobS a0) fun r1 => (Option.bind (s_wtoSlotS a2) fun r2 => (Option.bind (s_sValidSlots r1 a1 r2) fun r3 => (Option.bind (s_wtoJobS a0) fun r4 => (Option.bind (s_wtoSlotS a2) fun r5 => (Option.bind (s_iValidSlots r4 a1 r5) fun r6 => (cond (!(r6 == r3)) (some [.v (.bool false)]) (Option.bind (s_wtoJobS a0) fun r7 => (Option.bind (s_weqJobS r4 r7) fun r8 => (cond (!r8) (some [.v (.bool false)]) (Option.bind (s_wtoSlotS a2) fun r9 => (Option.bind (s_weqSlotS r5 r9) fun r10 => (cond (!r10) (some [.v (.bool false)]) (some [.v (.bool true)])))))))))))))))) = Option.map l_wFnExactValidSlots (s_wFnExactValidSlots a0 a1 a2) := by
    unfold s_wFnExactValidSlots
    exact (cond_app (Option.map l_wFnExactValidSlots) rfl (cond_app (Option.map l_wFnExactValidSlots) rfl (bind_app fun _ => (bind_app fun _ => (bind_app fun _ => (bind_app fun _ => (bind_app fun _ => (bind_app fun _ => (cond_app (Option.map l_wFnExactValidSlots) rfl (bind_app fun _ => (bind_app fun _ => (cond_app (Option.map l_wFnExactValidSlots) rfl (bind_app fun _ => (bind_app fun _ => (cond_app (Option.map l_wFnExactValidSlots) rfl rfl)))))))))))))))
  rw [e, h]; rfl
noncomputable def c_wFnExactValidSlots : List A → ACall
  | [.lst (.st [(.i .i8), (.i .u16)]) a0, .v (.int .i64 a1), .lst (.st [(.i .i8), (.i .i16)]) a2] => ⟨Bool, s_wFnExactValidSlots a0 a1 a2, fun r => .one (.v (.bool r))⟩
  | _ => ACall.fail
theorem f_wFnExactValidSlots_sound : Sound Try.prog 5 c_wFnExactValidSlots := by
  refine sound_good f_wFnExactValidSlots_ctx f_wFnExactValidSlots_LV 3 Try.func5 (c := f_wFnExactValidSlots_c) (by kernel_rfl) (rv := f_wFnExactValidSlots_rv) (by kernel_rfl) (by kernel_rfl) (by kernel_rfl) (by kernel_rfl) fun rs => ?_
  unfold c_wFnExactValidSlots
  split
  · rename_i a0 a1 a2; intro v h; exact ⟨rfl, l_wFnExactValidSlots v, rfl, (f_wFnExactValidSlots_top a0 a1 a2 _).trans (s_wFnExactValidSlots_ok a0 a1 a2 v h)⟩
  · intro v h; cases h

/-! ### function 78: loop.example/g01322/spec.l07Asked -/
noncomputable def f_sl07Asked_c : Code := match Try.f78.body with | some c => c | none => .skip
noncomputable def f_sl07Asked_X : Ctx := ⟨TT, phiOf [(85, c_sl07Ok), (86, c_sl07Hands)], noPsi, noXi⟩
def f_sl07Asked_LV : List (Nat × Keep) := []
def f_sl07Asked_rv : List ResultVar := [.tmp 4]
noncomputable def f_sl07Asked_L (r : List A) : Nat → AS → Option (List A) := L f_sl07Asked_X (cnOf f_sl07Asked_LV) f_sl07Asked_c (K0 TT f_sl07Asked_rv) r
theorem f_sl07Asked_ctx : CtxOK Try.prog f_sl07Asked_X := ctx_of tab mix ⟨⟨Try.call85, f_sl07Ok_sound⟩, ⟨Try.call86, f_sl07Hands_sound⟩, trivial⟩
noncomputable def s_sl07Asked (a0 : (List (Int × Int))) (a1 : Int) : Option Int := (Option.bind (s_sl07Ok a0) fun r1 => (cond (!r1) (some 1) (cond (!(s_sl07Hands a1)) (some 2) (some 0))))
theorem f_sl07Asked_top (a0 : (List (Int × Int))) (a1 : Int) (r : List A) : ev f_sl07Asked_X (lpc (cnOf f_sl07Asked_LV) (f_sl07Asked_L r)) f_sl07Asked_c (K0 TT f_sl07Asked_rv) (enter [.lst (.st [(.i .i8), (.i .u16)]) a0, .v (.int .i64 a1)]) = (Option.bind (s_sl07Ok a0) fun r1 => (cond (!r1) (some [.v (.int .i64 1)]) (cond (!(s_sl07Hands a1)) (some [.v (.int .i64 2)]) (some [.v (.int .i64 0)])))) := by kernel_rfl
noncomputable def l_sl07Asked (r : Int) : List A := [.v (.int .i64 r)]
theorem s_sl07Asked_ok (a0 : (List (Int × Int))) (a1 : Int) (v : Int) (h : s_sl07Asked a0 a1 = some v) : (Option.bind (s_sl07Ok a0) fun r1 => (cond (!r1) (some [.v (.int .i64 1)]) (cond (!(s_sl07Hands a1)) (some [.v (.int .i64 2)]) (some [.v (.int .i64 0)])))) = some (l_sl07Asked v) := by
  have e : (Option.bind (s_sl07Ok a0) fun r1 => (cond (!r1) (some [.v (.int .i64 1)]) (cond (!(s_sl07Hands a1)) (some [.v (.int .i64 2)]) (some [.v (.int .i64 0)])))) = Option.map l_sl07Asked (s_sl07Asked a0 a1) := by
    unfold s_sl07Asked
    exact (bind_app fun _ => (cond_app (Option.map l_sl07Asked) rfl (cond_app (Option.map l_sl07Asked) rfl rfl)))
  rw [e, h]; rfl
noncomputable def c_sl07Asked : List A → ACall
  | [.lst (.st [(.i .i8), (.i .u16)]) a0, .v (.int .i64 a1)] => ⟨Int, s_sl07Asked a0 a1, fun r => .one (.v (.int .i64 r))⟩
  | _ => ACall.fail
theorem f_sl07Asked_sound : Sound Try.prog 78 c_sl07Asked := by
  refine sound_good f_sl07Asked_ctx f_sl07Asked_LV 2 Try.func78 (c := f_sl07Asked_c) (by kernel_rfl) (rv := f_sl07Asked_rv) (by kernel_rfl) (by kernel_rfl) (by kernel_rfl) (by kernel_rfl) fun rs => ?_
  unfold c_sl07Asked
  split
  · rename_i a0 a1; intro v h; exact ⟨rfl, l_sl07Asked v, rfl, (f_sl07Asked_top a0 a1 _).trans (s_sl07Asked_ok a0 a1 v h)⟩
  · intro v h; cases h

/-! ### function 42: loop.example/g01322/spec.FirstWrongSlot -/
noncomputable def f_sFirstWrongSlot_c : Code := match Try.f42.body with | some c => c | none => .skip
noncomputable def f_sFirstWrongSlot_X : Ctx := ⟨TT, phiOf [(113, c_sl07Fault), (78, c_sl07Asked)], noPsi, noXi⟩
def f_sFirstWrongSlot_LV : List (Nat × Keep) := []
def f_sFirstWrongSlot_rv : List ResultVar := [.tmp 6, .tmp 7]
noncomputable def f_sFirstWrongSlot_L (r : List A) : Nat → AS → Option (List A) := L f_sFirstWrongSlot_X (cnOf f_sFirstWrongSlot_LV) f_sFirstWrongSlot_c (K0 TT f_sFirstWrongSlot_rv) r
theorem f_sFirstWrongSlot_ctx : CtxOK Try.prog f_sFirstWrongSlot_X := ctx_of tab mix ⟨⟨Try.call113, f_sl07Fault_sound⟩, ⟨Try.call78, f_sl07Asked_sound⟩, trivial⟩
noncomputable def s_sFirstWrongSlot (a0 : (List (Int × Int))) (a1 : Int) (a2 : (List (Int × Int))) : Option (Int × Int) := (Option.bind (s_sl07Asked a0 a1) fun r1 => (cond (r1 == 0) (cond (((List.length a2 : Nat) : Int) != ((List.length a0 : Nat) : Int)) (cond (4 != 0) (some (0, 4)) (Option.bind (s_sl07Fault a0 a1 a2) fun r2 => (cond (decide (r2 < 0)) (some (0, 6)) (some (r2, 0))))) (cond (r1 != 0) (some (0, r1)) (Option.bind (s_sl07Fault a0 a1 a2) fun r3 => (cond (decide (r3 < 0)) (some (0, 6)) (some (r3, 0)))))) (cond (r1 != 0) (some (0, r1)) (Option.bind (s_sl07Fault a0 a1 a2) fun r4 => (cond (decide (r4 < 0)) (some (0, 6)) (some (r4, 0)))))))
theorem f_sFirstWrongSlot_top (a0 : (List (Int × Int))) (a1 : Int) (a2 : (List (Int × Int))) (r : List A) : ev f_sFirstWrongSlot_X (lpc (cnOf f_sFirstWrongSlot_LV) (f_sFirstWrongSlot_L r)) f_sFirstWrongSlot_c (K0 TT f_sFirstWrongSlot_rv) (enter [.lst (.st [(.i .i8), (.i .u16)]) a0, .v (.int .i64 a1), .lst (.st [(.i .i8), (.i .i16)]) a2]) = (Option.bind (s_sl07Asked a0 a1) fun r1 => (cond (r1 == 0) (cond (((List.length a2 : Nat) : Int) != ((List.length a0 : Nat) : Int)) (cond (4 != 0) (some [.v (.int .i64 0), .v (.int .i64 4)]) (Option.bind (s_sl07Fault a0 a1 a2) fun r2 => (cond (decide (r2 < 0)) (some [.v (.int .i64 0), .v (.int .i64 6)]) (some [.v (.int .i64 r2), .v (.int .i64 0)])))) (cond (r1 != 0) (some [.v (.int .i64 0), .v (.int .i64 r1)]) (Option.bind (s_sl07Fault a0 a1 a2) fun r3 => (cond (decide (r3 < 0)) (some [.v (.int .i64 0), .v (.int .i64 6)]) (some [.v (.int .i64 r3), .v (.int .i64 0)]))))) (cond (r1 != 0) (some [.v (.int .i64 0), .v (.int .i64 r1)]) (Option.bind (s_sl07Fault a0 a1 a2) fun r4 => (cond (decide (r4 < 0)) (some [.v (.int .i64 0), .v (.int .i64 6)]) (some [.v (.int .i64 r4), .v (.int .i64 0)])))))) := by kernel_rfl
noncomputable def l_sFirstWrongSlot (r : (Int × Int)) : List A := [.v (.int .i64 r.1), .v (.int .i64 r.2)]
theorem s_sFirstWrongSlot_ok (a0 : (List (Int × Int))) (a1 : Int) (a2 : (List (Int × Int))) (v : (Int × Int)) (h : s_sFirstWrongSlot a0 a1 a2 = some v) : (Option.bind (s_sl07Asked a0 a1) fun r1 => (cond (r1 == 0) (cond (((List.length a2 : Nat) : Int) != ((List.length a0 : Nat) : Int)) (cond (4 != 0) (some [.v (.int .i64 0), .v (.int .i64 4)]) (Option.bind (s_sl07Fault a0 a1 a2) fun r2 => (cond (decide (r2 < 0)) (some [.v (.int .i64 0), .v (.int .i64 6)]) (some [.v (.int .i64 r2), .v (.int .i64 0)])))) (cond (r1 != 0) (some [.v (.int .i64 0), .v (.int .i64 r1)]) (Option.bind (s_sl07Fault a0 a1 a2) fun r3 => (cond (decide (r3 < 0)) (some [.v (.int .i64 0), .v (.int .i64 6)]) (some [.v (.int .i64 r3), .v (.int .i64 0)]))))) (cond (r1 != 0) (some [.v (.int .i64 0), .v (.int .i64 r1)]) (Option.bind (s_sl07Fault a0 a1 a2) fun r4 => (cond (decide (r4 < 0)) (some [.v (.int .i64 0), .v (.int .i64 6)]) (some [.v (.int .i64 r4), .v (.int .i64 0)])))))) = some (l_sFirstWrongSlot v) := by
  have e : (Option.bind (s_sl07Asked a0 a1) fun r1 => (cond (r1 == 0) (cond (((List.length a2 : Nat) : Int) != ((List.length a0 : Nat) : Int)) (cond (4 != 0) (some [.v (.int .i64 0), .v (.int .i64 4)]) (Option.bind (s_sl07Fault a0 a1 a2) fun r2 => (cond (decide (r2 < 0)) (some [.v (.int .i64 0), .v (.int .i64 6)]) (some [.v (.int .i64 r2), .v (.int .i64 0)])))) (cond (r1 != 0) (some [.v (.int .i64 0), .v (.int .i64 r1)]) (Option.bind (s_sl07Fault a0 a1 a2) fun r3 => (cond (decide (r3 < 0)) (some [.v (.int .i64 0), .v (.int .i64 6)]) (some [.v (.int .i64 r3), .v (.int .i64 0)]))))) (cond (r1 != 0) (some [.v (.int .i64 0), .v (.int .i64 r1)]) (Option.bind (s_sl07Fault a0 a1 a2) fun r4 => (cond (decide (r4 < 0)) (some [.v (.int .i64 0), .v (.int .i64 6)]) (some [.v (.int .i64 r4), .v (.int .i64 0)])))))) = Option.map l_sFirstWrongSlot (s_sFirstWrongSlot a0 a1 a2) := by
    unfold s_sFirstWrongSlot
    exact (bind_app fun _ => (cond_app (Option.map l_sFirstWrongSlot) (cond_app (Option.map l_sFirstWrongSlot) (cond_app (Option.map l_sFirstWrongSlot) rfl (bind_app fun _ => (cond_app (Option.map l_sFirstWrongSlot) rfl rfl))) (cond_app (Option.map l_sFirstWrongSlot) rfl (bind_app fun _ => (cond_app (Option.map l_sFirstWrongSlot) rfl rfl)))) (cond_app (Option.map l_sFirstWrongSlot) rfl (bind_app fun _ => (cond_app (Option.map l_sFirstWrongSlot) rfl rfl)))))
  rw [e, h]; rfl
noncomputable def c_sFirstWrongSlot : List A → ACall
  | [.lst (.st [(.i .i8), (.i .u16)]) a0, .v (.int .i64 a1), .lst (.st [(.i .i8), (.i .i16)]) a2] => ⟨(Int × Int), s_sFirstWrongSlot a0 a1 a2, fun r => .tup [.v (.int .i64 r.1), .v (.int .i64 r.2)]⟩
  | _ => ACall.fail
theorem f_sFirstWrongSlot_sound : Sound Try.prog 42 c_sFirstWrongSlot := by
  refine sound_good f_sFirstWrongSlot_ctx f_sFirstWrongSlot_LV 3 Try.func42 (c := f_sFirstWrongSlot_c) (by kernel_rfl) (rv := f_sFirstWrongSlot_rv) (by kernel_rfl) (by kernel_rfl) (by kernel_rfl) (by kernel_rfl) fun rs => ?_
  unfold c_sFirstWrongSlot
  split
  · rename_i a0 a1 a2; intro v h; exact ⟨rfl, l_sFirstWrongSlot v, rfl, (f_sFirstWrongSlot_top a0 a1 a2 _).trans (s_sFirstWrongSlot_ok a0 a1 a2 v h)⟩
  · intro v h; cases h

/-! ### function 43: loop.example/g01322/impl.FirstWrongSlot -/
noncomputable def f_iFirstWrongSlot_c : Code := match Try.f43.body with | some c => c | none => .skip
noncomputable def f_iFirstWrongSlot_X : Ctx := ⟨TT, phiOf [(73, c_icodeOf), (81, c_iValidJobs), (82, c_iisHands), (89, c_iwrong)], noPsi, noXi⟩
def f_iFirstWrongSlot_LV : List (Nat × Keep) := []
def f_iFirstWrongSlot_rv : List ResultVar := [.tmp 6, .tmp 7]
noncomputable def f_iFirstWrongSlot_L (r : List A) : Nat → AS → Option (List A) := L f_iFirstWrongSlot_X (cnOf f_iFirstWrongSlot_LV) f_iFirstWrongSlot_c (K0 TT f_iFirstWrongSlot_rv) r
theorem f_iFirstWrongSlot_ctx : CtxOK Try.prog f_iFirstWrongSlot_X := ctx_of tab mix ⟨⟨Try.call73, f_icodeOf_sound⟩, ⟨Try.call81, f_iValidJobs_sound⟩, ⟨Try.call82, f_iisHands_sound⟩, ⟨Try.call89, f_iwrong_sound⟩, trivial⟩
noncomputable def s_iFirstWrongSlot (a0 : (List (Int × Int))) (a1 : Int) (a2 : (List (Int × Int))) : Option (Int × Int) := (Option.bind (s_iValidJobs a0) fun r1 => (cond ((s_icodeOf r1 (s_iisHands a1)) != 0) (some (0, (s_icodeOf r1 (s_iisHands a1)))) (cond (((List.length a2 : Nat) : Int) != ((List.length a0 : Nat) : Int)) (some (0, 4)) (Option.bind (s_iwrong a0 a1 a2) fun r2 => (cond (decide (r2 < 0)) (some (0, 6)) (some (r2, 0)))))))
theorem f_iFirstWrongSlot_top (a0 : (List (Int × Int))) (a1 : Int) (a2 : (List (Int × Int))) (r : List A) : ev f_iFirstWrongSlot_X (lpc (cnOf f_iFirstWrongSlot_LV) (f_iFirstWrongSlot_L r)) f_iFirstWrongSlot_c (K0 TT f_iFirstWrongSlot_rv) (enter [.lst (.st [(.i .i8), (.i .u16)]) a0, .v (.int .i64 a1), .lst (.st [(.i .i8), (.i .i16)]) a2]) = (Option.bind (s_iValidJobs a0) fun r1 => (cond ((s_icodeOf r1 (s_iisHands a1)) != 0) (some [.v (.int .i64 0), .v (.int .i64 (s_icodeOf r1 (s_iisHands a1)))]) (cond (((List.length a2 : Nat) : Int) != ((List.length a0 : Nat) : Int)) (some [.v (.int .i64 0), .v (.int .i64 4)]) (Option.bind (s_iwrong a0 a1 a2) fun r2 => (cond (decide (r2 < 0)) (some [.v (.int .i64 0), .v (.int .i64 6)]) (some [.v (.int .i64 r2), .v (.int .i64 0)])))))) := by kernel_rfl
noncomputable def l_iFirstWrongSlot (r : (Int × Int)) : List A := [.v (.int .i64 r.1), .v (.int .i64 r.2)]
theorem s_iFirstWrongSlot_ok (a0 : (List (Int × Int))) (a1 : Int) (a2 : (List (Int × Int))) (v : (Int × Int)) (h : s_iFirstWrongSlot a0 a1 a2 = some v) : (Option.bind (s_iValidJobs a0) fun r1 => (cond ((s_icodeOf r1 (s_iisHands a1)) != 0) (some [.v (.int .i64 0), .v (.int .i64 (s_icodeOf r1 (s_iisHands a1)))]) (cond (((List.length a2 : Nat) : Int) != ((List.length a0 : Nat) : Int)) (some [.v (.int .i64 0), .v (.int .i64 4)]) (Option.bind (s_iwrong a0 a1 a2) fun r2 => (cond (decide (r2 < 0)) (some [.v (.int .i64 0), .v (.int .i64 6)]) (some [.v (.int .i64 r2), .v (.int .i64 0)])))))) = some (l_iFirstWrongSlot v) := by
  have e : (Option.bind (s_iValidJobs a0) fun r1 => (cond ((s_icodeOf r1 (s_iisHands a1)) != 0) (some [.v (.int .i64 0), .v (.int .i64 (s_icodeOf r1 (s_iisHands a1)))]) (cond (((List.length a2 : Nat) : Int) != ((List.length a0 : Nat) : Int)) (some [.v (.int .i64 0), .v (.int .i64 4)]) (Option.bind (s_iwrong a0 a1 a2) fun r2 => (cond (decide (r2 < 0)) (some [.v (.int .i64 0), .v (.int .i64 6)]) (some [.v (.int .i64 r2), .v (.int .i64 0)])))))) = Option.map l_iFirstWrongSlot (s_iFirstWrongSlot a0 a1 a2) := by
    unfold s_iFirstWrongSlot
    exact (bind_app fun _ => (cond_app (Option.map l_iFirstWrongSlot) rfl (cond_app (Option.map l_iFirstWrongSlot) rfl (bind_app fun _ => (cond_app (Option.map l_iFirstWrongSlot) rfl rfl)))))
  rw [e, h]; rfl
noncomputable def c_iFirstWrongSlot : List A → ACall
  | [.lst (.st [(.i .i8), (.i .u16)]) a0, .v (.int .i64 a1), .lst (.st [(.i .i8), (.i .i16)]) a2] => ⟨(Int × Int), s_iFirstWrongSlot a0 a1 a2, fun r => .tup [.v (.int .i64 r.1), .v (.int .i64 r.2)]⟩
  | _ => ACall.fail
theorem f_iFirstWrongSlot_sound : Sound Try.prog 43 c_iFirstWrongSlot := by
  refine sound_good f_iFirstWrongSlot_ctx f_iFirstWrongSlot_LV 3 Try.func43 (c := f_iFirstWrongSlot_c) (by kernel_rfl) (rv := f_iFirstWrongSlot_rv) (by kernel_rfl) (by kernel_rfl) (by kernel_rfl) (by kernel_rfl) fun rs => ?_
  unfold c_iFirstWrongSlot
  split
  · rename_i a0 a1 a2; intro v h; exact ⟨rfl, l_iFirstWrongSlot v, rfl, (f_iFirstWrongSlot_top a0 a1 a2 _).trans (s_iFirstWrongSlot_ok a0 a1 a2 v h)⟩
  · intro v h; cases h

/-! ### function 9: loop.example/g01322/laws.FnExactFirstWrongSlot -/
noncomputable def f_wFnExactFirstWrongSlot_c : Code := match Try.f9.body with | some c => c | none => .skip
noncomputable def f_wFnExactFirstWrongSlot_X : Ctx := ⟨TT, phiOf [(19, c_wszJobS), (21, c_wtoJobS), (23, c_weqJobS), (24, c_wszSlotS), (26, c_wtoSlotS), (28, c_weqSlotS), (42, c_sFirstWrongSlot), (43, c_iFirstWrongSlot)], noPsi, noXi⟩
def f_wFnExactFirstWrongSlot_LV : List (Nat × Keep) := []
def f_wFnExactFirstWrongSlot_rv : List ResultVar := [.tmp 6]
noncomputable def f_wFnExactFirstWrongSlot_L (r : List A) : Nat → AS → Option (List A) := L f_wFnExactFirstWrongSlot_X (cnOf f_wFnExactFirstWrongSlot_LV) f_wFnExactFirstWrongSlot_c (K0 TT f_wFnExactFirstWrongSlot_rv) r
theorem f_wFnExactFirstWrongSlot_ctx : CtxOK Try.prog f_wFnExactFirstWrongSlot_X := ctx_of tab mix ⟨⟨Try.call19, f_wszJobS_sound⟩, ⟨Try.call21, f_wtoJobS_sound⟩, ⟨Try.call23, f_weqJobS_sound⟩, ⟨Try.call24, f_wszSlotS_sound⟩, ⟨Try.call26, f_wtoSlotS_sound⟩, ⟨Try.call28, f_weqSlotS_sound⟩, ⟨Try.call42, f_sFirstWrongSlot_sound⟩, ⟨Try.call43, f_iFirstWrongSlot_sound⟩, trivial⟩
noncomputable def s_wFnExactFirstWrongSlot (a0 : (List (Int × Int))) (a1 : Int) (a2 : (List (Int × Int))) : Option Bool := (cond (decide ((s_wszJobS a0 1048576) < 0)) (some true) (cond (decide ((s_wszSlotS a2 (s_wszJobS a0 1048576)) < 0)) (some true) (Option.bind (s_wtoJobS a0) fun r1 => (Option.bind (s_wtoSlotS a2) fun r2 => (Option.bind (s_sFirstWrongSlot r1 a1 r2) fun r3 => (Option.bind (s_wtoJobS a0) fun r4 => (Option.bind (s_wtoSlotS a2) fun r5 => (Option.bind (s_iFirstWrongSlot r4 a1 r5) fun r6 => (cond (r6.1 != r3.1) (some false) (cond (r6.2 != r3.2) (some false) (Option.bind (s_wtoJobS a0) fun r7 => (Option.bind (s_weqJobS r4 r7) fun r8 => (cond (!r8) (some false) (Option.bind (s_wtoSlotS a2) fun r9 => (Option.bind (s_weqSlotS r5 r9) fun r10 => (cond (!r10) (some false) (some true)))))))))))))))))
theorem f_wFnExactFirstWrongSlot_top (a0 : (List (Int × Int))) (a1 : Int) (a2 : (List (Int × Int))) (r : List A) : ev f_wFnExactFirstWrongSlot_X (lpc (cnOf f_wFnExactFirstWrongSlot_LV) (f_wFnExactFirstWrongSlot_L r)) f_wFnExactFirstWrongSlot_c (K0 TT f_wFnExactFirstWrongSlot_rv) (enter [.lst (.st [(.i .i8), (.i .u16)]) a0, .v (.int .i64 a1), .lst (.st [(.i .i8), (.i .i16)]) a2]) = (cond (decide ((s_wszJobS a0 1048576) < 0)) (some [.v (.bool true)]) (cond (decide ((s_wszSlotS a2 (s_wszJobS a0 1048576)) < 0)) (some [.v (.bool true)]) (Option.bind (s_wtoJobS a0) fun r1 => (Option.bind (s_wtoSlotS a2) fun r2 => (Option.bind (s_sFirstWrongSlot r1 a1 r2) fun r3 => (Option.bind (s_wtoJobS a0) fun r4 => (Option.bind (s_wtoSlotS a2) fun r5 => (Option.bind (s_iFirstWrongSlot r4 a1 r5) fun r6 => (cond (r6.1 != r3.1) (some [.v (.bool false)]) (cond (r6.2 != r3.2) (some [.v (.bool false)]) (Option.bind (s_wtoJobS a0) fun r7 => (Option.bind (s_weqJobS r4 r7) fun r8 => (cond (!r8) (some [.v (.bool false)]) (Option.bind (s_wtoSlotS a2) fun r9 => (Option.bind (s_weqSlotS r5 r9) fun r10 => (cond (!r10) (some [.v (.bool false)]) (some [.v (.bool true)]))))))))))))))))) := by kernel_rfl
noncomputable def l_wFnExactFirstWrongSlot (r : Bool) : List A := [.v (.bool r)]
theorem s_wFnExactFirstWrongSlot_ok (a0 : (List (Int × Int))) (a1 : Int) (a2 : (List (Int × Int))) (v : Bool) (h : s_wFnExactFirstWrongSlot a0 a1 a2 = some v) : (cond (decide ((s_wszJobS a0 1048576) < 0)) (some [.v (.bool true)]) (cond (decide ((s_wszSlotS a2 (s_wszJobS a0 1048576)) < 0)) (some [.v (.bool true)]) (Option.bind (s_wtoJobS a0) fun r1 => (Option.bind (s_wtoSlotS a2) fun r2 => (Option.bind (s_sFirstWrongSlot r1 a1 r2) fun r3 => (Option.bind (s_wtoJobS a0) fun r4 => (Option.bind (s_wtoSlotS a2) fun r5 => (Option.bind (s_iFirstWrongSlot r4 a1 r5) fun r6 => (cond (r6.1 != r3.1) (some [.v (.bool false)]) (cond (r6.2 != r3.2) (some [.v (.bool false)]) (Option.bind (s_wtoJobS a0) fun r7 => (Option.bind (s_weqJobS r4 r7) fun r8 => (cond (!r8) (some [.v (.bool false)]) (Option.bind (s_wtoSlotS a2) fun r9 => (Option.bind (s_weqSlotS r5 r9) fun r10 => (cond (!r10) (some [.v (.bool false)]) (some [.v (.bool true)]))))))))))))))))) = some (l_wFnExactFirstWrongSlot v) := by
  have e : (cond (decide ((s_wszJobS a0 1048576) < 0)) (some [.v (.bool true)]) (cond (decide ((s_wszSlotS a2 (s_wszJobS a0 1048576)) < 0)) (some [.v (.bool true)]) (Option.bind (s_wtoJobS a0) fun r1 => (Option.bind (s_wtoSlotS a2) fun r2 => (Option.bind (s_sFirstWrongSlot r1 a1 r2) fun r3 => (Option.bind (s_wtoJobS a0) fun r4 => (Option.bind (s_wtoSlotS a2) fun r5 => (Option.bind (s_iFirstWrongSlot r4 a1 r5) fun r6 => (cond (r6.1 != r3.1) (some [.v (.bool false)]) (cond (r6.2 != r3.2) (some [.v (.bool false)]) (Option.bind (s_wtoJobS a0) fun r7 => (Option.bind (s_weqJobS r4 r7) fun r8 => (cond (!r8) (some [.v (.bool false)]) (Option.bind (s_wtoSlotS a2) fun r9 => (Option.bind (s_weqSlotS r5 r9) fun r10 => (cond (!r10) (some [.v (.bool false)]) (some [.v (.bool true)]))))))))))))))))) = Option.map l_wFnExactFirstWrongSlot (s_wFnExactFirstWrongSlot a0 a1 a2) := by
    unfold s_wFnExactFirstWrongSlot
    exact (cond_app (Option.map l_wFnExactFirstWrongSlot) rfl (cond_app (Option.map l_wFnExactFirstWrongSlot) rfl (bind_app fun _ => (bind_app fun _ => (bind_app fun _ => (bind_app fun _ => (bind_app fun _ => (bind_app fun _ => (cond_app (Option.map l_wFnExactFirstWrongSlot) rfl (cond_app (Option.map l_wFnExactFirstWrongSlot) rfl (bind_app fun _ => (bind_app fun _ => (cond_app (Option.map l_wFnExactFirstWrongSlot) rfl (bind_app fun _ => (bind_app fun _ => (cond_app (Option.map l_wFnExactFirstWrongSlot) rfl rfl))))))))))))))))
  rw [e, h]; rfl
noncomputable def c_wFnExactFirstWrongSlot : List A → ACall
  | [.lst (.st [(.i .i8), (.i .u16)]) a0, .v (.int .i64 a1), .lst (.st [(.i .i8), (.i .i16)]) a2] => ⟨Bool, s_wFnExactFirstWrongSlot a0 a1 a2, fun r => .one (.v (.bool r))⟩
  | _ => ACall.fail
theorem f_wFnExactFirstWrongSlot_sound : Sound Try.prog 9 c_wFnExactFirstWrongSlot := by
  refine sound_good f_wFnExactFirstWrongSlot_ctx f_wFnExactFirstWrongSlot_LV 3 Try.func9 (c := f_wFnExactFirstWrongSlot_c) (by kernel_rfl) (rv := f_wFnExactFirstWrongSlot_rv) (by kernel_rfl) (by kernel_rfl) (by kernel_rfl) (by kernel_rfl) fun rs => ?_
  unfold c_wFnExactFirstWrongSlot
  split
  · rename_i a0 a1 a2; intro v h; exact ⟨rfl, l_wFnExactFirstWrongSlot v, rfl, (f_wFnExactFirstWrongSlot_top a0 a1 a2 _).trans (s_wFnExactFirstWrongSlot_ok a0 a1 a2 v h)⟩
  · intro v h; cases h

/-! ### function 117: loop.example/g01322/spec.l07Planned -/
noncomputable def f_sl07Planned_c : Code := match Try.f117.body with | some c => c | none => .skip
noncomputable def f_sl07Planned_X : Ctx := ⟨TT, phiOf [(85, c_sl07Ok), (86, c_sl07Hands), (87, c_sl07Plan)], noPsi, noXi⟩
def f_sl07Planned_LV : List (Nat × Keep) := []
def f_sl07Planned_rv : List ResultVar := [.tmp 6]
noncomputable def f_sl07Planned_L (r : List A) : Nat → AS → Option (List A) := L f_sl07Planned_X (cnOf f_sl07Planned_LV) f_sl07Planned_c (K0 TT f_sl07Planned_rv) r
theorem f_sl07Planned_ctx : CtxOK Try.prog f_sl07Planned_X := ctx_of tab mix ⟨⟨Try.call85, f_sl07Ok_sound⟩, ⟨Try.call86, f_sl07Hands_sound⟩, ⟨Try.call87, f_sl07Plan_sound⟩, trivial⟩
noncomputable def s_sl07Planned (a0 : (List (Int × Int))) (a1 : Int) (a2 : (List (Int × Int))) : Option Int := (Option.bind (s_sl07Ok a0) fun r1 => (cond (!r1) (some 1) (cond (!(s_sl07Hands a1)) (some 2) (Option.bind (s_sl07Plan a0 a1 a2) fun r2 => (cond (!r2) (some 1) (some 0))))))
theorem f_sl07Planned_top (a0 : (List (Int × Int))) (a1 : Int) (a2 : (List (Int × Int))) (r : List A) : ev f_sl07Planned_X (lpc (cnOf f_sl07Planned_LV) (f_sl07Planned_L r)) f_sl07Planned_c (K0 TT f_sl07Planned_rv) (enter [.lst (.st [(.i .i8), (.i .u16)]) a0, .v (.int .i64 a1), .lst (.st [(.i .i8), (.i .i16)]) a2]) = (Option.bind (s_sl07Ok a0) fun r1 => (cond (!r1) (some [.v (.int .i64 1)]) (cond (!(s_sl07Hands a1)) (some [.v (.int .i64 2)]) (Option.bind (s_sl07Plan a0 a1 a2) fun r2 => (cond (!r2) (some [.v (.int .i64 1)]) (some [.v (.int .i64 0)])))))) := by kernel_rfl
noncomputable def l_sl07Planned (r : Int) : List A := [.v (.int .i64 r)]
theorem s_sl07Planned_ok (a0 : (List (Int × Int))) (a1 : Int) (a2 : (List (Int × Int))) (v : Int) (h : s_sl07Planned a0 a1 a2 = some v) : (Option.bind (s_sl07Ok a0) fun r1 => (cond (!r1) (some [.v (.int .i64 1)]) (cond (!(s_sl07Hands a1)) (some [.v (.int .i64 2)]) (Option.bind (s_sl07Plan a0 a1 a2) fun r2 => (cond (!r2) (some [.v (.int .i64 1)]) (some [.v (.int .i64 0)])))))) = some (l_sl07Planned v) := by
  have e : (Option.bind (s_sl07Ok a0) fun r1 => (cond (!r1) (some [.v (.int .i64 1)]) (cond (!(s_sl07Hands a1)) (some [.v (.int .i64 2)]) (Option.bind (s_sl07Plan a0 a1 a2) fun r2 => (cond (!r2) (some [.v (.int .i64 1)]) (some [.v (.int .i64 0)])))))) = Option.map l_sl07Planned (s_sl07Planned a0 a1 a2) := by
    unfold s_sl07Planned
    exact (bind_app fun _ => (cond_app (Option.map l_sl07Planned) rfl (cond_app (Option.map l_sl07Planned) rfl (bind_app fun _ => (cond_app (Option.map l_sl07Planned) rfl rfl)))))
  rw [e, h]; rfl
noncomputable def c_sl07Planned : List A → ACall
  | [.lst (.st [(.i .i8), (.i .u16)]) a0, .v (.int .i64 a1), .lst (.st [(.i .i8), (.i .i16)]) a2] => ⟨Int, s_sl07Planned a0 a1 a2, fun r => .one (.v (.int .i64 r))⟩
  | _ => ACall.fail
theorem f_sl07Planned_sound : Sound Try.prog 117 c_sl07Planned := by
  refine sound_good f_sl07Planned_ctx f_sl07Planned_LV 3 Try.func117 (c := f_sl07Planned_c) (by kernel_rfl) (rv := f_sl07Planned_rv) (by kernel_rfl) (by kernel_rfl) (by kernel_rfl) (by kernel_rfl) fun rs => ?_
  unfold c_sl07Planned
  split
  · rename_i a0 a1 a2; intro v h; exact ⟨rfl, l_sl07Planned v, rfl, (f_sl07Planned_top a0 a1 a2 _).trans (s_sl07Planned_ok a0 a1 a2 v h)⟩
  · intro v h; cases h

/-! ### function 149: loop.example/g01322/spec.l00Max -/
noncomputable def f_sl00Max_c : Code := match Try.f149.body with | some c => c | none => .skip
noncomputable def f_sl00Max_X : Ctx := ⟨TT, phiOf [], noPsi, noXi⟩
def f_sl00Max_LV : List (Nat × Keep) := []
def f_sl00Max_rv : List ResultVar := [.tmp 4]
noncomputable def f_sl00Max_L (r : List A) : Nat → AS → Option (List A) := L f_sl00Max_X (cnOf f_sl00Max_LV) f_sl00Max_c (K0 TT f_sl00Max_rv) r
theorem f_sl00Max_ctx : CtxOK Try.prog f_sl00Max_X := ctx_of tab mix trivial
noncomputable def s_sl00Max (a0 : Int) (a1 : Int) : Int := (cond (decide (a0 > a1)) a0 a1)
theorem f_sl00Max_top (a0 : Int) (a1 : Int) (r : List A) : ev f_sl00Max_X (lpc (cnOf f_sl00Max_LV) (f_sl00Max_L r)) f_sl00Max_c (K0 TT f_sl00Max_rv) (enter [.v (.int .i64 a0), .v (.int .i64 a1)]) = (cond (decide (a0 > a1)) (some [.v (.int .i64 a0)]) (some [.v (.int .i64 a1)])) := by kernel_rfl
noncomputable def l_sl00Max (r : Int) : List A := [.v (.int .i64 r)]
theorem s_sl00Max_ok (a0 : Int) (a1 : Int) : (cond (decide (a0 > a1)) (some [.v (.int .i64 a0)]) (some [.v (.int .i64 a1)])) = some (l_sl00Max (s_sl00Max a0 a1)) := by
  unfold s_sl00Max
  exact (cond_app (fun x => some (l_sl00Max x)) rfl rfl)
noncomputable def c_sl00Max : List A → ACall
  | [.v (.int .i64 a0), .v (.int .i64 a1)] => ⟨Int, some (s_sl00Max a0 a1), fun r => .one (.v (.int .i64 r))⟩
  | _ => ACall.fail
theorem f_sl00Max_sound : Sound Try.prog 149 c_sl00Max := by
  refine sound_good f_sl00Max_ctx f_sl00Max_LV 2 Try.func149 (c := f_sl00Max_c) (by kernel_rfl) (rv := f_sl00Max_rv) (by kernel_rfl) (by kernel_rfl) (by kernel_rfl) (by kernel_rfl) fun rs => ?_
  unfold c_sl00Max
  split
  · rename_i a0 a1; intro v h; cases h; exact ⟨rfl, l_sl00Max (s_sl00Max a0 a1), rfl, (f_sl00Max_top a0 a1 _).trans (s_sl00Max_ok a0 a1)⟩
  · intro v h; cases h

/-! ### function 118: loop.example/g01322/spec.l07Length -/
noncomputable def f_sl07Length_c : Code := match Try.f118.body with | some c => c | none => .skip
noncomputable def f_sl07Length_X : Ctx := ⟨TT, phiOf [(122, c_sl07Done), (149, c_sl00Max)], noPsi, noXi⟩
def f_sl07Length_LV : List (Nat × Keep) := [(3, ([0, 1, 5, 6], [], []))]
def f_sl07Length_rv : List ResultVar := [.tmp 4]
noncomputable def f_sl07Length_L (r : List A) : Nat → AS → Option (List A) := L f_sl07Length_X (cnOf f_sl07Length_LV) f_sl07Length_c (K0 TT f_sl07Length_rv) r
theorem f_sl07Length_ctx : CtxOK Try.prog f_sl07Length_X := ctx_of tab mix ⟨⟨Try.call122, f_sl07Done_sound⟩, ⟨Try.call149, f_sl00Max_sound⟩, trivial⟩
noncomputable def f_sl07Length_s3 (x0 : Int) (x1 : Int) (x2 : (List (Int × Int))) (x3 : (List (Int × Int))) : AS := ⟨[(0, .a (.sl 0)), (1, .a (.sl 1)), (5, .a (.v (.int .i64 x0))), (6, .a (.v (.int .i64 x1)))], [(0, some ⟨false, .arr (.st [(.i .i8), (.i .u16)]) x2⟩), (1, some ⟨false, .arr (.st [(.i .i8), (.i .i16)]) x3⟩)], 2⟩
noncomputable def l_sl07Length (r : Int) : List A := [.v (.int .i64 r)]
theorem f_sl07Length_step3 (x0 : Int) (x1 : Int) (x2 : (List (Int × Int))) (x3 : (List (Int × Int))) (r : List A) (h : (cond (decide (x1 < ((List.length x2 : Nat) : Int))) (Option.bind (s_sl07Done x2 x3 x1) fun r1 => (f_sl07Length_L r 3 (f_sl07Length_s3 (s_sl00Max x0 r1) (IntKind.wrap .i64 (x1 + 1)) x2 x3))) (some [.v (.int .i64 x0)])) = some r) : f_sl07Length_L r 3 (f_sl07Length_s3 x0 x1 x2 x3) = some r :=
  step_of' h (by kernel_rfl)
noncomputable def f_sl07Length_n3 (x0 : Int) (x1 : Int) (x2 : (List (Int × Int))) (x3 : (List (Int × Int))) : Option ((Int × Int × (List (Int × Int)) × (List (Int × Int))) ⊕ Int) := (cond (decide (x1 < ((List.length x2 : Nat) : Int))) (Option.bind (s_sl07Done x2 x3 x1) fun r1 => (some (Sum.inl ((s_sl00Max x0 r1), (IntKind.wrap .i64 (x1 + 1)), x2, x3)))) (some (Sum.inr x0)))
noncomputable def f_sl07Length_run3 (x : (Int × Int × (List (Int × Int)) × (List (Int × Int)))) : Option Int := iter (fun x => f_sl07Length_n3 x.1 x.2.1 x.2.2.1 x.2.2.2) FU x
noncomputable def f_sl07Length_G3 (r : List A) (x : (Int × Int × (List (Int × Int)) × (List (Int × Int)))) : Prop := f_sl07Length_L r 3 (f_sl07Length_s3 x.1 x.2.1 x.2.2.1 x.2.2.2) = some r
noncomputable def f_sl07Length_S3 (r : List A) : Int → Prop := fun v => r = l_sl07Length v
theorem f_sl07Length_go3 (r : List A) : ∀ x, sem (f_sl07Length_S3 r) (f_sl07Length_run3 x) → f_sl07Length_G3 r x :=
  fun x => iter_sound (step := fun x => f_sl07Length_n3 x.1 x.2.1 x.2.2.1 x.2.2.2) (fun x h => by
    unfold f_sl07Length_n3 at h
    exact f_sl07Length_step3 x.1 x.2.1 x.2.2.1 x.2.2.2 r ((sem_cond h (fun h => (sem_bind h fun r1 h => sem_got h fun q => q)) (fun h => sem_got h fun q => some_eq q)))) FU x
noncomputable def s_sl07Length (a0 : (List (Int × Int))) (a1 : (List (Int × Int))) : Option Int := (f_sl07Length_run3 (0, 0, a0, a1))
theorem f_sl07Length_top (a0 : (List (Int × Int))) (a1 : (List (Int × Int))) (r : List A) : ev f_sl07Length_X (lpc (cnOf f_sl07Length_LV) (f_sl07Length_L r)) f_sl07Length_c (K0 TT f_sl07Length_rv) (enter [.lst (.st [(.i .i8), (.i .u16)]) a0, .lst (.st [(.i .i8), (.i .i16)]) a1]) = (f_sl07Length_L r 3 (f_sl07Length_s3 0 0 a0 a1)) := by kernel_rfl
theorem s_sl07Length_ok (a0 : (List (Int × Int))) (a1 : (List (Int × Int))) (v : Int) (h : s_sl07Length a0 a1 = some v) : (f_sl07Length_L (l_sl07Length v) 3 (f_sl07Length_s3 0 0 a0 a1)) = some (l_sl07Length v) := by
  unfold s_sl07Length at h
  have go : ∀ r, sem (fun v => r = l_sl07Length v) ((f_sl07Length_run3 (0, 0, a0, a1))) → (f_sl07Length_L r 3 (f_sl07Length_s3 0 0 a0 a1)) = some r := fun r h => f_sl07Length_go3 r _ h
  exact go (l_sl07Length v) ⟨v, h, rfl⟩
noncomputable def c_sl07Length : List A → ACall
  | [.lst (.st [(.i .i8), (.i .u16)]) a0, .lst (.st [(.i .i8), (.i .i16)]) a1] => ⟨Int, s_sl07Length a0 a1, fun r => .one (.v (.int .i64 r))⟩
  | _ => ACall.fail
theorem f_sl07Length_sound : Sound Try.prog 118 c_sl07Length := by
  refine sound_good f_sl07Length_ctx f_sl07Length_LV 2 Try.func118 (c := f_sl07Length_c) (by kernel_rfl) (rv := f_sl07Length_rv) (by kernel_rfl) (by kernel_rfl) (by kernel_rfl) (by kernel_rfl) fun rs => ?_
  unfold c_sl07Length
  split
  · rename_i a0 a1; intro v h; exact ⟨rfl, l_sl07Length v, rfl, (f_sl07Length_top a0 a1 _).trans (s_sl07Length_ok a0 a1 v h)⟩
  · intro v h; cases h

/-! ### function 49: loop.example/g01322/spec.LengthOfPlan -/
noncomputable def f_sLengthOfPlan_c : Code := match Try.f49.body with | some c => c | none => .skip
noncomputable def f_sLengthOfPlan_X : Ctx := ⟨TT, phiOf [(117, c_sl07Planned), (118, c_sl07Length)], noPsi, noXi⟩
def f_sLengthOfPlan_LV : List (Nat × Keep) := []
def f_sLengthOfPlan_rv : List ResultVar := [.tmp 6, .tmp 7]
noncomputable def f_sLengthOfPlan_L (r : List A) : Nat → AS → Option (List A) := L f_sLengthOfPlan_X (cnOf f_sLengthOfPlan_LV) f_sLengthOfPlan_c (K0 TT f_sLengthOfPlan_rv) r
theorem f_sLengthOfPlan_ctx : CtxOK Try.prog f_sLengthOfPlan_X := ctx_of tab mix ⟨⟨Try.call117, f_sl07Planned_sound⟩, ⟨Try.call118, f_sl07Length_sound⟩, trivial⟩
noncomputable def s_sLengthOfPlan (a0 : (List (Int × Int))) (a1 : Int) (a2 : (List (Int × Int))) : Option (Int × Int) := (Option.bind (s_sl07Planned a0 a1 a2) fun r1 => (cond (r1 != 0) (some (0, r1)) (Option.bind (s_sl07Length a0 a2) fun r2 => (some (r2, 0)))))
theorem f_sLengthOfPlan_top (a0 : (List (Int × Int))) (a1 : Int) (a2 : (List (Int × Int))) (r : List A) : ev f_sLengthOfPlan_X (lpc (cnOf f_sLengthOfPlan_LV) (f_sLengthOfPlan_L r)) f_sLengthOfPlan_c (K0 TT f_sLengthOfPlan_rv) (enter [.lst (.st [(.i .i8), (.i .u16)]) a0, .v (.int .i64 a1), .lst (.st [(.i .i8), (.i .i16)]) a2]) = (Option.bind (s_sl07Planned a0 a1 a2) fun r1 => (cond (r1 != 0) (some [.v (.int .i64 0), .v (.int .i64 r1)]) (Option.bind (s_sl07Length a0 a2) fun r2 => (some [.v (.int .i64 r2), .v (.int .i64 0)])))) := by kernel_rfl
noncomputable def l_sLengthOfPlan (r : (Int × Int)) : List A := [.v (.int .i64 r.1), .v (.int .i64 r.2)]
theorem s_sLengthOfPlan_ok (a0 : (List (Int × Int))) (a1 : Int) (a2 : (List (Int × Int))) (v : (Int × Int)) (h : s_sLengthOfPlan a0 a1 a2 = some v) : (Option.bind (s_sl07Planned a0 a1 a2) fun r1 => (cond (r1 != 0) (some [.v (.int .i64 0), .v (.int .i64 r1)]) (Option.bind (s_sl07Length a0 a2) fun r2 => (some [.v (.int .i64 r2), .v (.int .i64 0)])))) = some (l_sLengthOfPlan v) := by
  have e : (Option.bind (s_sl07Planned a0 a1 a2) fun r1 => (cond (r1 != 0) (some [.v (.int .i64 0), .v (.int .i64 r1)]) (Option.bind (s_sl07Length a0 a2) fun r2 => (some [.v (.int .i64 r2), .v (.int .i64 0)])))) = Option.map l_sLengthOfPlan (s_sLengthOfPlan a0 a1 a2) := by
    unfold s_sLengthOfPlan
    exact (bind_app fun _ => (cond_app (Option.map l_sLengthOfPlan) rfl (bind_app fun _ => rfl)))
  rw [e, h]; rfl
noncomputable def c_sLengthOfPlan : List A → ACall
  | [.lst (.st [(.i .i8), (.i .u16)]) a0, .v (.int .i64 a1), .lst (.st [(.i .i8), (.i .i16)]) a2] => ⟨(Int × Int), s_sLengthOfPlan a0 a1 a2, fun r => .tup [.v (.int .i64 r.1), .v (.int .i64 r.2)]⟩
  | _ => ACall.fail
theorem f_sLengthOfPlan_sound : Sound Try.prog 49 c_sLengthOfPlan := by
  refine sound_good f_sLengthOfPlan_ctx f_sLengthOfPlan_LV 3 Try.func49 (c := f_sLengthOfPlan_c) (by kernel_rfl) (rv := f_sLengthOfPlan_rv) (by kernel_rfl) (by kernel_rfl) (by kernel_rfl) (by kernel_rfl) fun rs => ?_
  unfold c_sLengthOfPlan
  split
  · rename_i a0 a1 a2; intro v h; exact ⟨rfl, l_sLengthOfPlan v, rfl, (f_sLengthOfPlan_top a0 a1 a2 _).trans (s_sLengthOfPlan_ok a0 a1 a2 v h)⟩
  · intro v h; cases h

/-! ### function 119: loop.example/g01322/impl.planCode -/
noncomputable def f_iplanCode_c : Code := match Try.f119.body with | some c => c | none => .skip
noncomputable def f_iplanCode_X : Ctx := ⟨TT, phiOf [(27, c_iValidSlots), (73, c_icodeOf), (81, c_iValidJobs), (82, c_iisHands)], noPsi, noXi⟩
def f_iplanCode_LV : List (Nat × Keep) := []
def f_iplanCode_rv : List ResultVar := [.tmp 6]
noncomputable def f_iplanCode_L (r : List A) : Nat → AS → Option (List A) := L f_iplanCode_X (cnOf f_iplanCode_LV) f_iplanCode_c (K0 TT f_iplanCode_rv) r
theorem f_iplanCode_ctx : CtxOK Try.prog f_iplanCode_X := ctx_of tab mix ⟨⟨Try.call27, f_iValidSlots_sound⟩, ⟨Try.call73, f_icodeOf_sound⟩, ⟨Try.call81, f_iValidJobs_sound⟩, ⟨Try.call82, f_iisHands_sound⟩, trivial⟩
noncomputable def s_iplanCode (a0 : (List (Int × Int))) (a1 : Int) (a2 : (List (Int × Int))) : Option Int := (Option.bind (s_iValidJobs a0) fun r1 => (cond ((s_icodeOf r1 (s_iisHands a1)) != 0) (some (s_icodeOf r1 (s_iisHands a1))) (Option.bind (s_iValidSlots a0 a1 a2) fun r2 => (some (s_icodeOf r2 true)))))
theorem f_iplanCode_top (a0 : (List (Int × Int))) (a1 : Int) (a2 : (List (Int × Int))) (r : List A) : ev f_iplanCode_X (lpc (cnOf f_iplanCode_LV) (f_iplanCode_L r)) f_iplanCode_c (K0 TT f_iplanCode_rv) (enter [.lst (.st [(.i .i8), (.i .u16)]) a0, .v (.int .i64 a1), .lst (.st [(.i .i8), (.i .i16)]) a2]) = (Option.bind (s_iValidJobs a0) fun r1 => (cond ((s_icodeOf r1 (s_iisHands a1)) != 0) (some [.v (.int .i64 (s_icodeOf r1 (s_iisHands a1)))]) (Option.bind (s_iValidSlots a0 a1 a2) fun r2 => (some [.v (.int .i64 (s_icodeOf r2 true))])))) := by kernel_rfl
noncomputable def l_iplanCode (r : Int) : List A := [.v (.int .i64 r)]
theorem s_iplanCode_ok (a0 : (List (Int × Int))) (a1 : Int) (a2 : (List (Int × Int))) (v : Int) (h : s_iplanCode a0 a1 a2 = some v) : (Option.bind (s_iValidJobs a0) fun r1 => (cond ((s_icodeOf r1 (s_iisHands a1)) != 0) (some [.v (.int .i64 (s_icodeOf r1 (s_iisHands a1)))]) (Option.bind (s_iValidSlots a0 a1 a2) fun r2 => (some [.v (.int .i64 (s_icodeOf r2 true))])))) = some (l_iplanCode v) := by
  have e : (Option.bind (s_iValidJobs a0) fun r1 => (cond ((s_icodeOf r1 (s_iisHands a1)) != 0) (some [.v (.int .i64 (s_icodeOf r1 (s_iisHands a1)))]) (Option.bind (s_iValidSlots a0 a1 a2) fun r2 => (some [.v (.int .i64 (s_icodeOf r2 true))])))) = Option.map l_iplanCode (s_iplanCode a0 a1 a2) := by
    unfold s_iplanCode
    exact (bind_app fun _ => (cond_app (Option.map l_iplanCode) rfl (bind_app fun _ => rfl)))
  rw [e, h]; rfl
noncomputable def c_iplanCode : List A → ACall
  | [.lst (.st [(.i .i8), (.i .u16)]) a0, .v (.int .i64 a1), .lst (.st [(.i .i8), (.i .i16)]) a2] => ⟨Int, s_iplanCode a0 a1 a2, fun r => .one (.v (.int .i64 r))⟩
  | _ => ACall.fail
theorem f_iplanCode_sound : Sound Try.prog 119 c_iplanCode := by
  refine sound_good f_iplanCode_ctx f_iplanCode_LV 3 Try.func119 (c := f_iplanCode_c) (by kernel_rfl) (rv := f_iplanCode_rv) (by kernel_rfl) (by kernel_rfl) (by kernel_rfl) (by kernel_rfl) fun rs => ?_
  unfold c_iplanCode
  split
  · rename_i a0 a1 a2; intro v h; exact ⟨rfl, l_iplanCode v, rfl, (f_iplanCode_top a0 a1 a2 _).trans (s_iplanCode_ok a0 a1 a2 v h)⟩
  · intro v h; cases h

/-! ### function 120: loop.example/g01322/impl.lengthOf -/
noncomputable def f_ilengthOf_c : Code := match Try.f120.body with | some c => c | none => .skip
noncomputable def f_ilengthOf_X : Ctx := ⟨TT, phiOf [(126, c_idone)], noPsi, noXi⟩
def f_ilengthOf_LV : List (Nat × Keep) := [(3, ([1, 5, 8, 9, 10], [], []))]
def f_ilengthOf_rv : List ResultVar := [.tmp 4]
noncomputable def f_ilengthOf_L (r : List A) : Nat → AS → Option (List A) := L f_ilengthOf_X (cnOf f_ilengthOf_LV) f_ilengthOf_c (K0 TT f_ilengthOf_rv) r
theorem f_ilengthOf_ctx : CtxOK Try.prog f_ilengthOf_X := ctx_of tab mix ⟨⟨Try.call126, f_idone_sound⟩, trivial⟩
noncomputable def f_ilengthOf_s3 (x0 : Int) (x1 : Int) (x2 : Int) (x3 : (List (Int × Int))) (x4 : (List (Int × Int))) : AS := ⟨[(1, .a (.sl 0)), (5, .a (.v (.int .i64 x0))), (8, .a (.sl 1)), (9, .a (.v (.int .i64 x1))), (10, .a (.v (.int .i64 x2)))], [(0, some ⟨false, .arr (.st [(.i .i8), (.i .i16)]) x3⟩), (1, some ⟨false, .arr (.st [(.i .i8), (.i .u16)]) x4⟩)], 2⟩
noncomputable def l_ilengthOf (r : Int) : List A := [.v (.int .i64 r)]
theorem f_ilengthOf_step3 (x0 : Int) (x1 : Int) (x2 : Int) (x3 : (List (Int × Int))) (x4 : (List (Int × Int))) (r : List A) (h : (cond (decide (x2 < x1)) (cond (inB x2 (List.length x4)) (cond (inB x2 (List.length x3)) (f_ilengthOf_L r 3 (f_ilengthOf_s3 (max x0 (s_idone (List.getD x4 (Int.toNat x2) ((0, 0) : (Int × Int))).1 (List.getD x4 (Int.toNat x2) ((0, 0) : (Int × Int))).2 (List.getD x3 (Int.toNat x2) ((0, 0) : (Int × Int))).1 (List.getD x3 (Int.toNat x2) ((0, 0) : (Int × Int))).2)) x1 (IntKind.wrap .i64 (x2 + 1)) x3 x4)) none) none) (some [.v (.int .i64 x0)])) = some r) : f_ilengthOf_L r 3 (f_ilengthOf_s3 x0 x1 x2 x3 x4) = some r :=
  step_of' h (by kernel_rfl)
noncomputable def f_ilengthOf_n3 (x0 : Int) (x1 : Int) (x2 : Int) (x3 : (List (Int × Int))) (x4 : (List (Int × Int))) : Option ((Int × Int × Int × (List (Int × Int)) × (List (Int × Int))) ⊕ Int) := (cond (decide (x2 < x1)) (cond (inB x2 (List.length x4)) (cond (inB x2 (List.length x3)) (some (Sum.inl ((max x0 (s_idone (List.getD x4 (Int.toNat x2) ((0, 0) : (Int × Int))).1 (List.getD x4 (Int.toNat x2) ((0, 0) : (Int × Int))).2 (List.getD x3 (Int.toNat x2) ((0, 0) : (Int × Int))).1 (List.getD x3 (Int.toNat x2) ((0, 0) : (Int × Int))).2)), x1, (IntKind.wrap .i64 (x2 + 1)), x3, x4))) none) none) (some (Sum.inr x0)))
noncomputable def f_ilengthOf_run3 (x : (Int × Int × Int × (List (Int × Int)) × (List (Int × Int)))) : Option Int := iter (fun x => f_ilengthOf_n3 x.1 x.2.1 x.2.2.1 x.2.2.2.1 x.2.2.2.2) FU x
noncomputable def f_ilengthOf_G3 (r : List A) (x : (Int × Int × Int × (List (Int × Int)) × (List (Int × Int)))) : Prop := f_ilengthOf_L r 3 (f_ilengthOf_s3 x.1 x.2.1 x.2.2.1 x.2.2.2.1 x.2.2.2.2) = some r
noncomputable def f_ilengthOf_S3 (r : List A) : Int → Prop := fun v => r = l_ilengthOf v
theorem f_ilengthOf_go3 (r : List A) : ∀ x, sem (f_ilengthOf_S3 r) (f_ilengthOf_run3 x) → f_ilengthOf_G3 r x :=
  fun x => iter_sound (step := fun x => f_ilengthOf_n3 x.1 x.2.1 x.2.2.1 x.2.2.2.1 x.2.2.2.2) (fun x h => by
    unfold f_ilengthOf_n3 at h
    exact f_ilengthOf_step3 x.1 x.2.1 x.2.2.1 x.2.2.2.1 x.2.2.2.2 r ((sem_cond h (fun h => (sem_cond h (fun h => (sem_cond h (fun h => sem_got h fun q => q) (fun h => sem_none h))) (fun h => sem_none h))) (fun h => sem_got h fun q => some_eq q)))) FU x
noncomputable def s_ilengthOf (a0 : (List (Int × Int))) (a1 : (List (Int × Int))) : Option Int := (f_ilengthOf_run3 (0, ((List.length a0 : Nat) : Int), 0, a1, a0))
theorem f_ilengthOf_top (a0 : (List (Int × Int))) (a1 : (List (Int × Int))) (r : List A) : ev f_ilengthOf_X (lpc (cnOf f_ilengthOf_LV) (f_ilengthOf_L r)) f_ilengthOf_c (K0 TT f_ilengthOf_rv) (enter [.lst (.st [(.i .i8), (.i .u16)]) a0, .lst (.st [(.i .i8), (.i .i16)]) a1]) = (f_ilengthOf_L r 3 (f_ilengthOf_s3 0 ((List.length a0 : Nat) : Int) 0 a1 a0)) := by kernel_rfl
theorem s_ilengthOf_ok (a0 : (List (Int × Int))) (a1 : (List (Int × Int))) (v : Int) (h : s_ilengthOf a0 a1 = some v) : (f_ilengthOf_L (l_ilengthOf v) 3 (f_ilengthOf_s3 0 ((List.length a0 : Nat) : Int) 0 a1 a0)) = some (l_ilengthOf v) := by
  unfold s_ilengthOf at h
  have go : ∀ r, sem (fun v => r = l_ilengthOf v) ((f_ilengthOf_run3 (0, ((List.length a0 : Nat) : Int), 0, a1, a0))) → (f_ilengthOf_L r 3 (f_ilengthOf_s3 0 ((List.length a0 : Nat) : Int) 0 a1 a0)) = some r := fun r h => f_ilengthOf_go3 r _ h
  exact go (l_ilengthOf v) ⟨v, h, rfl⟩
noncomputable def c_ilengthOf : List A → ACall
  | [.lst (.st [(.i .i8), (.i .u16)]) a0, .lst (.st [(.i .i8), (.i .i16)]) a1] => ⟨Int, s_ilengthOf a0 a1, fun r => .one (.v (.int .i64 r))⟩
  | _ => ACall.fail
theorem f_ilengthOf_sound : Sound Try.prog 120 c_ilengthOf := by
  refine sound_good f_ilengthOf_ctx f_ilengthOf_LV 2 Try.func120 (c := f_ilengthOf_c) (by kernel_rfl) (rv := f_ilengthOf_rv) (by kernel_rfl) (by kernel_rfl) (by kernel_rfl) (by kernel_rfl) fun rs => ?_
  unfold c_ilengthOf
  split
  · rename_i a0 a1; intro v h; exact ⟨rfl, l_ilengthOf v, rfl, (f_ilengthOf_top a0 a1 _).trans (s_ilengthOf_ok a0 a1 v h)⟩
  · intro v h; cases h

/-! ### function 50: loop.example/g01322/impl.LengthOfPlan -/
noncomputable def f_iLengthOfPlan_c : Code := match Try.f50.body with | some c => c | none => .skip
noncomputable def f_iLengthOfPlan_X : Ctx := ⟨TT, phiOf [(119, c_iplanCode), (120, c_ilengthOf)], noPsi, noXi⟩
def f_iLengthOfPlan_LV : List (Nat × Keep) := []
def f_iLengthOfPlan_rv : List ResultVar := [.tmp 6, .tmp 7]
noncomputable def f_iLengthOfPlan_L (r : List A) : Nat → AS → Option (List A) := L f_iLengthOfPlan_X (cnOf f_iLengthOfPlan_LV) f_iLengthOfPlan_c (K0 TT f_iLengthOfPlan_rv) r
theorem f_iLengthOfPlan_ctx : CtxOK Try.prog f_iLengthOfPlan_X := ctx_of tab mix ⟨⟨Try.call119, f_iplanCode_sound⟩, ⟨Try.call120, f_ilengthOf_sound⟩, trivial⟩
noncomputable def s_iLengthOfPlan (a0 : (List (Int × Int))) (a1 : Int) (a2 : (List (Int × Int))) : Option (Int × Int) := (Option.bind (s_iplanCode a0 a1 a2) fun r1 => (cond (r1 != 0) (some (0, r1)) (Option.bind (s_ilengthOf a0 a2) fun r2 => (some (r2, 0)))))
theorem f_iLengthOfPlan_top (a0 : (List (Int × Int))) (a1 : Int) (a2 : (List (Int × Int))) (r : List A) : ev f_iLengthOfPlan_X (lpc (cnOf f_iLengthOfPlan_LV) (f_iLengthOfPlan_L r)) f_iLengthOfPlan_c (K0 TT f_iLengthOfPlan_rv) (enter [.lst (.st [(.i .i8), (.i .u16)]) a0, .v (.int .i64 a1), .lst (.st [(.i .i8), (.i .i16)]) a2]) = (Option.bind (s_iplanCode a0 a1 a2) fun r1 => (cond (r1 != 0) (some [.v (.int .i64 0), .v (.int .i64 r1)]) (Option.bind (s_ilengthOf a0 a2) fun r2 => (some [.v (.int .i64 r2), .v (.int .i64 0)])))) := by kernel_rfl
noncomputable def l_iLengthOfPlan (r : (Int × Int)) : List A := [.v (.int .i64 r.1), .v (.int .i64 r.2)]
theorem s_iLengthOfPlan_ok (a0 : (List (Int × Int))) (a1 : Int) (a2 : (List (Int × Int))) (v : (Int × Int)) (h : s_iLengthOfPlan a0 a1 a2 = some v) : (Option.bind (s_iplanCode a0 a1 a2) fun r1 => (cond (r1 != 0) (some [.v (.int .i64 0), .v (.int .i64 r1)]) (Option.bind (s_ilengthOf a0 a2) fun r2 => (some [.v (.int .i64 r2), .v (.int .i64 0)])))) = some (l_iLengthOfPlan v) := by
  have e : (Option.bind (s_iplanCode a0 a1 a2) fun r1 => (cond (r1 != 0) (some [.v (.int .i64 0), .v (.int .i64 r1)]) (Option.bind (s_ilengthOf a0 a2) fun r2 => (some [.v (.int .i64 r2), .v (.int .i64 0)])))) = Option.map l_iLengthOfPlan (s_iLengthOfPlan a0 a1 a2) := by
    unfold s_iLengthOfPlan
    exact (bind_app fun _ => (cond_app (Option.map l_iLengthOfPlan) rfl (bind_app fun _ => rfl)))
  rw [e, h]; rfl
noncomputable def c_iLengthOfPlan : List A → ACall
  | [.lst (.st [(.i .i8), (.i .u16)]) a0, .v (.int .i64 a1), .lst (.st [(.i .i8), (.i .i16)]) a2] => ⟨(Int × Int), s_iLengthOfPlan a0 a1 a2, fun r => .tup [.v (.int .i64 r.1), .v (.int .i64 r.2)]⟩
  | _ => ACall.fail
theorem f_iLengthOfPlan_sound : Sound Try.prog 50 c_iLengthOfPlan := by
  refine sound_good f_iLengthOfPlan_ctx f_iLengthOfPlan_LV 3 Try.func50 (c := f_iLengthOfPlan_c) (by kernel_rfl) (rv := f_iLengthOfPlan_rv) (by kernel_rfl) (by kernel_rfl) (by kernel_rfl) (by kernel_rfl) fun rs => ?_
  unfold c_iLengthOfPlan
  split
  · rename_i a0 a1 a2; intro v h; exact ⟨rfl, l_iLengthOfPlan v, rfl, (f_iLengthOfPlan_top a0 a1 a2 _).trans (s_iLengthOfPlan_ok a0 a1 a2 v h)⟩
  · intro v h; cases h

/-! ### function 11: loop.example/g01322/laws.FnExactLengthOfPlan -/
noncomputable def f_wFnExactLengthOfPlan_c : Code := match Try.f11.body with | some c => c | none => .skip
noncomputable def f_wFnExactLengthOfPlan_X : Ctx := ⟨TT, phiOf [(19, c_wszJobS), (21, c_wtoJobS), (23, c_weqJobS), (24, c_wszSlotS), (26, c_wtoSlotS), (28, c_weqSlotS), (49, c_sLengthOfPlan), (50, c_iLengthOfPlan)], noPsi, noXi⟩
def f_wFnExactLengthOfPlan_LV : List (Nat × Keep) := []
def f_wFnExactLengthOfPlan_rv : List ResultVar := [.tmp 6]
noncomputable def f_wFnExactLengthOfPlan_L (r : List A) : Nat → AS → Option (List A) := L f_wFnExactLengthOfPlan_X (cnOf f_wFnExactLengthOfPlan_LV) f_wFnExactLengthOfPlan_c (K0 TT f_wFnExactLengthOfPlan_rv) r
theorem f_wFnExactLengthOfPlan_ctx : CtxOK Try.prog f_wFnExactLengthOfPlan_X := ctx_of tab mix ⟨⟨Try.call19, f_wszJobS_sound⟩, ⟨Try.call21, f_wtoJobS_sound⟩, ⟨Try.call23, f_weqJobS_sound⟩, ⟨Try.call24, f_wszSlotS_sound⟩, ⟨Try.call26, f_wtoSlotS_sound⟩, ⟨Try.call28, f_weqSlotS_sound⟩, ⟨Try.call49, f_sLengthOfPlan_sound⟩, ⟨Try.call50, f_iLengthOfPlan_sound⟩, trivial⟩
noncomputable def s_wFnExactLengthOfPlan (a0 : (List (Int × Int))) (a1 : Int) (a2 : (List (Int × Int))) : Option Bool := (cond (decide ((s_wszJobS a0 1048576) < 0)) (some true) (cond (decide ((s_wszSlotS a2 (s_wszJobS a0 1048576)) < 0)) (some true) (Option.bind (s_wtoJobS a0) fun r1 => (Option.bind (s_wtoSlotS a2) fun r2 => (Option.bind (s_sLengthOfPlan r1 a1 r2) fun r3 => (Option.bind (s_wtoJobS a0) fun r4 => (Option.bind (s_wtoSlotS a2) fun r5 => (Option.bind (s_iLengthOfPlan r4 a1 r5) fun r6 => (cond (r6.1 != r3.1) (some false) (cond (r6.2 != r3.2) (some false) (Option.bind (s_wtoJobS a0) fun r7 => (Option.bind (s_weqJobS r4 r7) fun r8 => (cond (!r8) (some false) (Option.bind (s_wtoSlotS a2) fun r9 => (Option.bind (s_weqSlotS r5 r9) fun r10 => (cond (!r10) (some false) (some true)))))))))))))))))
theorem f_wFnExactLengthOfPlan_top (a0 : (List (Int × Int))) (a1 : Int) (a2 : (List (Int × Int))) (r : List A) : ev f_wFnExactLengthOfPlan_X (lpc (cnOf f_wFnExactLengthOfPlan_LV) (f_wFnExactLengthOfPlan_L r)) f_wFnExactLengthOfPlan_c (K0 TT f_wFnExactLengthOfPlan_rv) (enter [.lst (.st [(.i .i8), (.i .u16)]) a0, .v (.int .i64 a1), .lst (.st [(.i .i8), (.i .i16)]) a2]) = (cond (decide ((s_wszJobS a0 1048576) < 0)) (some [.v (.bool true)]) (cond (decide ((s_wszSlotS a2 (s_wszJobS a0 1048576)) < 0)) (some [.v (.bool true)]) (Option.bind (s_wtoJobS a0) fun r1 => (Option.bind (s_wtoSlotS a2) fun r2 => (Option.bind (s_sLengthOfPlan r1 a1 r2) fun r3 => (Option.bind (s_wtoJobS a0) fun r4 => (Option.bind (s_wtoSlotS a2) fun r5 => (Option.bind (s_iLengthOfPlan r4 a1 r5) fun r6 => (cond (r6.1 != r3.1) (some [.v (.bool false)]) (cond (r6.2 != r3.2) (some [.v (.bool false)]) (Option.bind (s_wtoJobS a0) fun r7 => (Option.bind (s_weqJobS r4 r7) fun r8 => (cond (!r8) (some [.v (.bool false)]) (Option.bind (s_wtoSlotS a2) fun r9 => (Option.bind (s_weqSlotS r5 r9) fun r10 => (cond (!r10) (some [.v (.bool false)]) (some [.v (.bool true)]))))))))))))))))) := by kernel_rfl
noncomputable def l_wFnExactLengthOfPlan (r : Bool) : List A := [.v (.bool r)]
theorem s_wFnExactLengthOfPlan_ok (a0 : (List (Int × Int))) (a1 : Int) (a2 : (List (Int × Int))) (v : Bool) (h : s_wFnExactLengthOfPlan a0 a1 a2 = some v) : (cond (decide ((s_wszJobS a0 1048576) < 0)) (some [.v (.bool true)]) (cond (decide ((s_wszSlotS a2 (s_wszJobS a0 1048576)) < 0)) (some [.v (.bool true)]) (Option.bind (s_wtoJobS a0) fun r1 => (Option.bind (s_wtoSlotS a2) fun r2 => (Option.bind (s_sLengthOfPlan r1 a1 r2) fun r3 => (Option.bind (s_wtoJobS a0) fun r4 => (Option.bind (s_wtoSlotS a2) fun r5 => (Option.bind (s_iLengthOfPlan r4 a1 r5) fun r6 => (cond (r6.1 != r3.1) (some [.v (.bool false)]) (cond (r6.2 != r3.2) (some [.v (.bool false)]) (Option.bind (s_wtoJobS a0) fun r7 => (Option.bind (s_weqJobS r4 r7) fun r8 => (cond (!r8) (some [.v (.bool false)]) (Option.bind (s_wtoSlotS a2) fun r9 => (Option.bind (s_weqSlotS r5 r9) fun r10 => (cond (!r10) (some [.v (.bool false)]) (some [.v (.bool true)]))))))))))))))))) = some (l_wFnExactLengthOfPlan v) := by
  have e : (cond (decide ((s_wszJobS a0 1048576) < 0)) (some [.v (.bool true)]) (cond (decide ((s_wszSlotS a2 (s_wszJobS a0 1048576)) < 0)) (some [.v (.bool true)]) (Option.bind (s_wtoJobS a0) fun r1 => (Option.bind (s_wtoSlotS a2) fun r2 => (Option.bind (s_sLengthOfPlan r1 a1 r2) fun r3 => (Option.bind (s_wtoJobS a0) fun r4 => (Option.bind (s_wtoSlotS a2) fun r5 => (Option.bind (s_iLengthOfPlan r4 a1 r5) fun r6 => (cond (r6.1 != r3.1) (some [.v (.bool false)]) (cond (r6.2 != r3.2) (some [.v (.bool false)]) (Option.bind (s_wtoJobS a0) fun r7 => (Option.bind (s_weqJobS r4 r7) fun r8 => (cond (!r8) (some [.v (.bool false)]) (Option.bind (s_wtoSlotS a2) fun r9 => (Option.bind (s_weqSlotS r5 r9) fun r10 => (cond (!r10) (some [.v (.bool false)]) (some [.v (.bool true)]))))))))))))))))) = Option.map l_wFnExactLengthOfPlan (s_wFnExactLengthOfPlan a0 a1 a2) := by
    unfold s_wFnExactLengthOfPlan
    exact (cond_app (Option.map l_wFnExactLengthOfPlan) rfl (cond_app (Option.map l_wFnExactLengthOfPlan) rfl (bind_app fun _ => (bind_app fun _ => (bind_app fun _ => (bind_app fun _ => (bind_app fun _ => (bind_app fun _ => (cond_app (Option.map l_wFnExactLengthOfPlan) rfl (cond_app (Option.map l_wFnExactLengthOfPlan) rfl (bind_app fun _ => (bind_app fun _ => (cond_app (Option.map l_wFnExactLengthOfPlan) rfl (bind_app fun _ => (bind_app fun _ => (cond_app (Option.map l_wFnExactLengthOfPlan) rfl rfl))))))))))))))))
  rw [e, h]; rfl
noncomputable def c_wFnExactLengthOfPlan : List A → ACall
  | [.lst (.st [(.i .i8), (.i .u16)]) a0, .v (.int .i64 a1), .lst (.st [(.i .i8), (.i .i16)]) a2] => ⟨Bool, s_wFnExactLengthOfPlan a0 a1 a2, fun r => .one (.v (.bool r))⟩
  | _ => ACall.fail
theorem f_wFnExactLengthOfPlan_sound : Sound Try.prog 11 c_wFnExactLengthOfPlan := by
  refine sound_good f_wFnExactLengthOfPlan_ctx f_wFnExactLengthOfPlan_LV 3 Try.func11 (c := f_wFnExactLengthOfPlan_c) (by kernel_rfl) (rv := f_wFnExactLengthOfPlan_rv) (by kernel_rfl) (by kernel_rfl) (by kernel_rfl) (by kernel_rfl) fun rs => ?_
  unfold c_wFnExactLengthOfPlan
  split
  · rename_i a0 a1 a2; intro v h; exact ⟨rfl, l_wFnExactLengthOfPlan v, rfl, (f_wFnExactLengthOfPlan_top a0 a1 a2 _).trans (s_wFnExactLengthOfPlan_ok a0 a1 a2 v h)⟩
  · intro v h; cases h

/-! ### function 67: loop.example/g01322/spec.BusyOn -/
noncomputable def f_sBusyOn_c : Code := match Try.f67.body with | some c => c | none => .skip
noncomputable def f_sBusyOn_X : Ctx := ⟨TT, phiOf [(117, c_sl07Planned), (122, c_sl07Done), (70, c_sl00In)], noPsi, noXi⟩
def f_sBusyOn_LV : List (Nat × Keep) := [(8, ([0, 2, 3, 11, 12], [], []))]
def f_sBusyOn_rv : List ResultVar := [.tmp 8, .tmp 9]
noncomputable def f_sBusyOn_L (r : List A) : Nat → AS → Option (List A) := L f_sBusyOn_X (cnOf f_sBusyOn_LV) f_sBusyOn_c (K0 TT f_sBusyOn_rv) r
theorem f_sBusyOn_ctx : CtxOK Try.prog f_sBusyOn_X := ctx_of tab mix ⟨⟨Try.call117, f_sl07Planned_sound⟩, ⟨Try.call122, f_sl07Done_sound⟩, ⟨Try.call70, f_sl00In_sound⟩, trivial⟩
noncomputable def f_sBusyOn_s8 (x0 : Int) (x1 : Int) (x2 : (List (Int × Int))) (x3 : (List (Int × Int))) (x4 : (List Int)) : AS := ⟨[(0, .a (.sl 0)), (2, .a (.sl 1)), (3, .a (.v (.int .i64 x0))), (11, .a (.sl 2)), (12, .a (.v (.int .i64 x1)))], [(0, some ⟨false, .arr (.st [(.i .i8), (.i .u16)]) x2⟩), (1, some ⟨false, .arr (.st [(.i .i8), (.i .i16)]) x3⟩), (2, some ⟨true, .arr (.one (.i .i64)) x4⟩)], 3⟩
noncomputable def l_sBusyOn (r : ((List Int) × Int)) : List A := [.lst (.one (.i .i64)) r.1, .v (.int .i64 r.2)]
theorem f_sBusyOn_step8 (x0 : Int) (x1 : Int) (x2 : (List (Int × Int))) (x3 : (List (Int × Int))) (x4 : (List Int)) (r : List A) (h : (cond (decide (x1 < ((List.length x2 : Nat) : Int))) (cond (inB x1 (List.length x3)) (cond (decide ((IntKind.wrap .i64 (List.getD x3 (Int.toNat x1) ((0, 0) : (Int × Int))).2) ≤ x0)) (Option.bind (s_sl07Done x2 x3 x1) fun r2 => (cond (decide (x0 < r2)) (cond (fits ((List.length (x4 : List Int) + List.length ([x1] : List Int)) * 8)) (f_sBusyOn_L r 8 (f_sBusyOn_s8 x0 (IntKind.wrap .i64 (x1 + 1)) x2 x3 (x4 ++ [x1]))) none) (f_sBusyOn_L r 8 (f_sBusyOn_s8 x0 (IntKind.wrap .i64 (x1 + 1)) x2 x3 x4)))) (f_sBusyOn_L r 8 (f_sBusyOn_s8 x0 (IntKind.wrap .i64 (x1 + 1)) x2 x3 x4))) none) (some [.lst (.one (.i .i64)) x4, .v (.int .i64 0)])) = some r) : f_sBusyOn_L r 8 (f_sBusyOn_s8 x0 x1 x2 x3 x4) = some r :=
  step_of' h (by kernel_rfl)
noncomputable def f_sBusyOn_n8 (x0 : Int) (x1 : Int) (x2 : (List (Int × Int))) (x3 : (List (Int × Int))) (x4 : (List Int)) : Option ((Int × Int × (List (Int × Int)) × (List (Int × Int)) × (List Int)) ⊕ ((List Int) × Int)) := (cond (decide (x1 < ((List.length x2 : Nat) : Int))) (cond (inB x1 (List.length x3)) (cond (decide ((IntKind.wrap .i64 (List.getD x3 (Int.toNat x1) ((0, 0) : (Int × Int))).2) ≤ x0)) (Option.bind (s_sl07Done x2 x3 x1) fun r2 => (cond (decide (x0 < r2)) (cond (fits ((List.length (x4 : List Int) + List.length ([x1] : List Int)) * 8)) (some (Sum.inl (x0, (IntKind.wrap .i64 (x1 + 1)), x2, x3, (x4 ++ [x1])))) none) (some (Sum.inl (x0, (IntKind.wrap .i64 (x1 + 1)), x2, x3, x4))))) (some (Sum.inl (x0, (IntKind.wrap .i64 (x1 + 1)), x2, x3, x4)))) none) (some (Sum.inr (x4, 0))))
noncomputable def f_sBusyOn_run8 (x : (Int × Int × (List (Int × Int)) × (List (Int × Int)) × (List Int))) : Option ((List Int) × Int) := iter (fun x => f_sBusyOn_n8 x.1 x.2.1 x.2.2.1 x.2.2.2.1 x.2.2.2.2) FU x
noncomputable def f_sBusyOn_G8 (r : List A) (x : (Int × Int × (List (Int × Int)) × (List (Int × Int)) × (List Int))) : Prop := f_sBusyOn_L r 8 (f_sBusyOn_s8 x.1 x.2.1 x.2.2.1 x.2.2.2.1 x.2.2.2.2) = some r
noncomputable def f_sBusyOn_S8 (r : List A) : ((List Int) × Int) → Prop := fun v => r = l_sBusyOn v
theorem f_sBusyOn_go8 (r : List A) : ∀ x, sem (f_sBusyOn_S8 r) (f_sBusyOn_run8 x) → f_sBusyOn_G8 r x :=
  fun x => iter_sound (step := fun x => f_sBusyOn_n8 x.1 x.2.1 x.2.2.1 x.2.2.2.1 x.2.2.2.2) (fun x h => by
    unfold f_sBusyOn_n8 at h
    exact f_sBusyOn_step8 x.1 x.2.1 x.2.2.1 x.2.2.2.1 x.2.2.2.2 r ((sem_cond h (fun h => (sem_cond h (fun h => (sem_cond h (fun h => (sem_bind h fun r2 h => (sem_cond h (fun h => (sem_cond h (fun h => sem_got h fun q => q) (fun h => sem_none h))) (fun h => sem_got h fun q => q)))) (fun h => sem_got h fun q => q))) (fun h => sem_none h))) (fun h => sem_got h fun q => some_eq q)))) FU x
noncomputable def s_sBusyOn (a0 : (List (Int × Int))) (a1 : Int) (a2 : (List (Int × Int))) (a3 : Int) : Option ((List Int) × Int) := (Option.bind (s_sl07Planned a0 a1 a2) fun r1 => (cond (r1 == 0) (cond (!(s_sl00In a3 0 2000)) (cond (2 != 0) (some ([], 2)) (f_sBusyOn_run8 (a3, 0, a0, a2, []))) (cond (r1 != 0) (some ([], r1)) (f_sBusyOn_run8 (a3, 0, a0, a2, [])))) (cond (r1 != 0) (some ([], r1)) (f_sBusyOn_run8 (a3, 0, a0, a2, [])))))
theorem f_sBusyOn_top (a0 : (List (Int × Int))) (a1 : Int) (a2 : (List (Int × Int))) (a3 : Int) (r : List A) : ev f_sBusyOn_X (lpc (cnOf f_sBusyOn_LV) (f_sBusyOn_L r)) f_sBusyOn_c (K0 TT f_sBusyOn_rv) (enter [.lst (.st [(.i .i8), (.i .u16)]) a0, .v (.int .i64 a1), .lst (.st [(.i .i8), (.i .i16)]) a2, .v (.int .i64 a3)]) = (Option.bind (s_sl07Planned a0 a1 a2) fun r1 => (cond (r1 == 0) (cond (!(s_sl00In a3 0 2000)) (cond (2 != 0) (some [.lst (.one (.i .i64)) [], .v (.int .i64 2)]) (f_sBusyOn_L r 8 (f_sBusyOn_s8 a3 0 a0 a2 []))) (cond (r1 != 0) (some [.lst (.one (.i .i64)) [], .v (.int .i64 r1)]) (f_sBusyOn_L r 8 (f_sBusyOn_s8 a3 0 a0 a2 [])))) (cond (r1 != 0) (some [.lst (.one (.i .i64)) [], .v (.int .i64 r1)]) (f_sBusyOn_L r 8 (f_sBusyOn_s8 a3 0 a0 a2 []))))) := by kernel_rfl
theorem s_sBusyOn_ok (a0 : (List (Int × Int))) (a1 : Int) (a2 : (List (Int × Int))) (a3 : Int) (v : ((List Int) × Int)) (h : s_sBusyOn a0 a1 a2 a3 = some v) : (Option.bind (s_sl07Planned a0 a1 a2) fun r1 => (cond (r1 == 0) (cond (!(s_sl00In a3 0 2000)) (cond (2 != 0) (some [.lst (.one (.i .i64)) [], .v (.int .i64 2)]) (f_sBusyOn_L (l_sBusyOn v) 8 (f_sBusyOn_s8 a3 0 a0 a2 []))) (cond (r1 != 0) (some [.lst (.one (.i .i64)) [], .v (.int .i64 r1)]) (f_sBusyOn_L (l_sBusyOn v) 8 (f_sBusyOn_s8 a3 0 a0 a2 [])))) (cond (r1 != 0) (some [.lst (.one (.i .i64)) [], .v (.int .i64 r1)]) (f_sBusyOn_L (l_sBusyOn v) 8 (f_sBusyOn_s8 a3 0 a0 a2 []))))) = some (l_sBusyOn v) := by
  unfold s_sBusyOn at h
  have go : ∀ r, sem (fun v => r = l_sBusyOn v) ((Option.bind (s_sl07Planned a0 a1 a2) fun r1 => (cond (r1 == 0) (cond (!(s_sl00In a3 0 2000)) (cond (2 != 0) (some ([], 2)) (f_sBusyOn_run8 (a3, 0, a0, a2, []))) (cond (r1 != 0) (some ([], r1)) (f_sBusyOn_run8 (a3, 0, a0, a2, [])))) (cond (r1 != 0) (some ([], r1)) (f_sBusyOn_run8 (a3, 0, a0, a2, [])))))) → (Option.bind (s_sl07Planned a0 a1 a2) fun r1 => (cond (r1 == 0) (cond (!(s_sl00In a3 0 2000)) (cond (2 != 0) (some [.lst (.one (.i .i64)) [], .v (.int .i64 2)]) (f_sBusyOn_L r 8 (f_sBusyOn_s8 a3 0 a0 a2 []))) (cond (r1 != 0) (some [.lst (.one (.i .i64)) [], .v (.int .i64 r1)]) (f_sBusyOn_L r 8 (f_sBusyOn_s8 a3 0 a0 a2 [])))) (cond (r1 != 0) (some [.lst (.one (.i .i64)) [], .v (.int .i64 r1)]) (f_sBusyOn_L r 8 (f_sBusyOn_s8 a3 0 a0 a2 []))))) = some r := fun r h => (sem_bind h fun r1 h => (sem_cond h (fun h => (sem_cond h (fun h => (sem_cond h (fun h => sem_got h fun q => some_eq q) (fun h => f_sBusyOn_go8 r _ h))) (fun h => (sem_cond h (fun h => sem_got h fun q => some_eq q) (fun h => f_sBusyOn_go8 r _ h))))) (fun h => (sem_cond h (fun h => sem_got h fun q => some_eq q) (fun h => f_sBusyOn_go8 r _ h)))))
  exact go (l_sBusyOn v) ⟨v, h, rfl⟩
noncomputable def c_sBusyOn : List A → ACall
  | [.lst (.st [(.i .i8), (.i .u16)]) a0, .v (.int .i64 a1), .lst (.st [(.i .i8), (.i .i16)]) a2, .v (.int .i64 a3)] => ⟨((List Int) × Int), s_sBusyOn a0 a1 a2 a3, fun r => .tup [.lst (.one (.i .i64)) r.1, .v (.int .i64 r.2)]⟩
  | _ => ACall.fail
theorem f_sBusyOn_sound : Sound Try.prog 67 c_sBusyOn := by
  refine sound_good f_sBusyOn_ctx f_sBusyOn_LV 4 Try.func67 (c := f_sBusyOn_c) (by kernel_rfl) (rv := f_sBusyOn_rv) (by kernel_rfl) (by kernel_rfl) (by kernel_rfl) (by kernel_rfl) fun rs => ?_
  unfold c_sBusyOn
  split
  · rename_i a0 a1 a2 a3; intro v h; exact ⟨rfl, l_sBusyOn v, rfl, (f_sBusyOn_top a0 a1 a2 a3 _).trans (s_sBusyOn_ok a0 a1 a2 a3 v h)⟩
  · intro v h; cases h

/-! ### function 68: loop.example/g01322/impl.BusyOn -/
noncomputable def f_iBusyOn_c : Code := match Try.f68.body with | some c => c | none => .skip
noncomputable def f_iBusyOn_X : Ctx := ⟨TT, phiOf [(119, c_iplanCode), (126, c_idone), (75, c_iwithin)], noPsi, noXi⟩
def f_iBusyOn_LV : List (Nat × Keep) := [(8, ([2, 3, 11, 25, 26, 27], [], []))]
def f_iBusyOn_rv : List ResultVar := [.tmp 8, .tmp 9]
noncomputable def f_iBusyOn_L (r : List A) : Nat → AS → Option (List A) := L f_iBusyOn_X (cnOf f_iBusyOn_LV) f_iBusyOn_c (K0 TT f_iBusyOn_rv) r
theorem f_iBusyOn_ctx : CtxOK Try.prog f_iBusyOn_X := ctx_of tab mix ⟨⟨Try.call119, f_iplanCode_sound⟩, ⟨Try.call126, f_idone_sound⟩, ⟨Try.call75, f_iwithin_sound⟩, trivial⟩
noncomputable def f_iBusyOn_s8 (x0 : Int) (x1 : Int) (x2 : Int) (x3 : (List (Int × Int))) (x4 : (List Int)) (x5 : (List (Int × Int))) : AS := ⟨[(2, .a (.sl 0)), (3, .a (.v (.int .i64 x0))), (11, .a (.sl 1)), (25, .a (.sl 2)), (26, .a (.v (.int .i64 x1))), (27, .a (.v (.int .i64 x2)))], [(0, some ⟨false, .arr (.st [(.i .i8), (.i .i16)]) x3⟩), (1, some ⟨true, .arr (.one (.i .i64)) x4⟩), (2, some ⟨false, .arr (.st [(.i .i8), (.i .u16)]) x5⟩)], 3⟩
noncomputable def l_iBusyOn (r : ((List Int) × Int)) : List A := [.lst (.one (.i .i64)) r.1, .v (.int .i64 r.2)]
theorem f_iBusyOn_step8 (x0 : Int) (x1 : Int) (x2 : Int) (x3 : (List (Int × Int))) (x4 : (List Int)) (x5 : (List (Int × Int))) (r : List A) (h : (cond (decide (x2 < x1)) (cond (inB x2 (List.length x5)) (cond (inB x2 (List.length x3)) (cond (inB x2 (List.length x3)) (cond (s_iwithin x0 (IntKind.wrap .i64 (List.getD x3 (Int.toNat x2) ((0, 0) : (Int × Int))).2) (IntKind.wrap .i64 ((s_idone (List.getD x5 (Int.toNat x2) ((0, 0) : (Int × Int))).1 (List.getD x5 (Int.toNat x2) ((0, 0) : (Int × Int))).2 (List.getD x3 (Int.toNat x2) ((0, 0) : (Int × Int))).1 (List.getD x3 (Int.toNat x2) ((0, 0) : (Int × Int))).2) - 1))) (cond (fits ((List.length (x4 : List Int) + List.length ([x2] : List Int)) * 8)) (f_iBusyOn_L r 8 (f_iBusyOn_s8 x0 x1 (IntKind.wrap .i64 (x2 + 1)) x3 (x4 ++ [x2]) x5)) none) (f_iBusyOn_L r 8 (f_iBusyOn_s8 x0 x1 (IntKind.wrap .i64 (x2 + 1)) x3 x4 x5))) none) none) none) (some [.lst (.one (.i .i64)) x4, .v (.int .i64 0)])) = some r) : f_iBusyOn_L r 8 (f_iBusyOn_s8 x0 x1 x2 x3 x4 x5) = some r :=
  step_of' h (by kernel_rfl)
noncomputable def f_iBusyOn_n8 (x0 : Int) (x1 : Int) (x2 : Int) (x3 : (List (Int × Int))) (x4 : (List Int)) (x5 : (List (Int × Int))) : Option ((Int × Int × Int × (List (Int × Int)) × (List Int) × (List (Int × Int))) ⊕ ((List Int) × Int)) := (cond (decide (x2 < x1)) (cond (inB x2 (List.length x5)) (cond (inB x2 (List.length x3)) (cond (inB x2 (List.length x3)) (cond (s_iwithin x0 (IntKind.wrap .i64 (List.getD x3 (Int.toNat x2) ((0, 0) : (Int × Int))).2) (IntKind.wrap .i64 ((s_idone (List.getD x5 (Int.toNat x2) ((0, 0) : (Int × Int))).1 (List.getD x5 (Int.toNat x2) ((0, 0) : (Int × Int))).2 (List.getD x3 (Int.toNat x2) ((0, 0) : (Int × Int))).1 (List.getD x3 (Int.toNat x2) ((0, 0) : (Int × Int))).2) - 1))) (cond (fits ((List.length (x4 : List Int) + List.length ([x2] : List Int)) * 8)) (some (Sum.inl (x0, x1, (IntKind.wrap .i64 (x2 + 1)), x3, (x4 ++ [x2]), x5))) none) (some (Sum.inl (x0, x1, (IntKind.wrap .i64 (x2 + 1)), x3, x4, x5)))) none) none) none) (some (Sum.inr (x4, 0))))
noncomputable def f_iBusyOn_run8 (x : (Int × Int × Int × (List (Int × Int)) × (List Int) × (List (Int × Int)))) : Option ((List Int) × Int) := iter (fun x => f_iBusyOn_n8 x.1 x.2.1 x.2.2.1 x.2.2.2.1 x.2.2.2.2.1 x.2.2.2.2.2) FU x
noncomputable def f_iBusyOn_G8 (r : List A) (x : (Int × Int × Int × (List (Int × Int)) × (List Int) × (List (Int × Int)))) : Prop := f_iBusyOn_L r 8 (f_iBusyOn_s8 x.1 x.2.1 x.2.2.1 x.2.2.2.1 x.2.2.2.2.1 x.2.2.2.2.2) = some r
noncomputable def f_iBusyOn_S8 (r : List A) : ((List Int) × Int) → Prop := fun v => r = l_iBusyOn v
theorem f_iBusyOn_go8 (r : List A) : ∀ x, sem (f_iBusyOn_S8 r) (f_iBusyOn_run8 x) → f_iBusyOn_G8 r x :=
  fun x => iter_sound (step := fun x => f_iBusyOn_n8 x.1 x.2.1 x.2.2.1 x.2.2.2.1 x.2.2.2.2.1 x.2.2.2.2.2) (fun x h => by
    unfold f_iBusyOn_n8 at h
    exact f_iBusyOn_step8 x.1 x.2.1 x.2.2.1 x.2.2.2.1 x.2.2.2.2.1 x.2.2.2.2.2 r ((sem_cond h (fun h => (sem_cond h (fun h => (sem_cond h (fun h => (sem_cond h (fun h => (sem_cond h (fun h => (sem_cond h (fun h => sem_got h fun q => q) (fun h => sem_none h))) (fun h => sem_got h fun q => q))) (fun h => sem_none h))) (fun h => sem_none h))) (fun h => sem_none h))) (fun h => sem_got h fun q => some_eq q)))) FU x
noncomputable def s_iBusyOn (a0 : (List (Int × Int))) (a1 : Int) (a2 : (List (Int × Int))) (a3 : Int) : Option ((List Int) × Int) := (Option.bind (s_iplanCode a0 a1 a2) fun r1 => (cond (r1 != 0) (some ([], r1)) (cond (!(s_iwithin a3 0 2000)) (some ([], 2)) (f_iBusyOn_run8 (a3, ((List.length a0 : Nat) : Int), 0, a2, [], a0)))))
theorem f_iBusyOn_top (a0 : (List (Int × Int))) (a1 : Int) (a2 : (List (Int × Int))) (a3 : Int) (r : List A) : ev f_iBusyOn_X (lpc (cnOf f_iBusyOn_LV) (f_iBusyOn_L r)) f_iBusyOn_c (K0 TT f_iBusyOn_rv) (enter [.lst (.st [(.i .i8), (.i .u16)]) a0, .v (.int .i64 a1), .lst (.st [(.i .i8), (.i .i16)]) a2, .v (.int .i64 a3)]) = (Option.bind (s_iplanCode a0 a1 a2) fun r1 => (cond (r1 != 0) (some [.lst (.one (.i .i64)) [], .v (.int .i64 r1)]) (cond (!(s_iwithin a3 0 2000)) (some [.lst (.one (.i .i64)) [], .v (.int .i64 2)]) (f_iBusyOn_L r 8 (f_iBusyOn_s8 a3 ((List.length a0 : Nat) : Int) 0 a2 [] a0))))) := by kernel_rfl
theorem s_iBusyOn_ok (a0 : (List (Int × Int))) (a1 : Int) (a2 : (List (Int × Int))) (a3 : Int) (v : ((List Int) × Int)) (h : s_iBusyOn a0 a1 a2 a3 = some v) : (Option.bind (s_iplanCode a0 a1 a2) fun r1 => (cond (r1 != 0) (some [.lst (.one (.i .i64)) [], .v (.int .i64 r1)]) (cond (!(s_iwithin a3 0 2000)) (some [.lst (.one (.i .i64)) [], .v (.int .i64 2)]) (f_iBusyOn_L (l_iBusyOn v) 8 (f_iBusyOn_s8 a3 ((List.length a0 : Nat) : Int) 0 a2 [] a0))))) = some (l_iBusyOn v) := by
  unfold s_iBusyOn at h
  have go : ∀ r, sem (fun v => r = l_iBusyOn v) ((Option.bind (s_iplanCode a0 a1 a2) fun r1 => (cond (r1 != 0) (some ([], r1)) (cond (!(s_iwithin a3 0 2000)) (some ([], 2)) (f_iBusyOn_run8 (a3, ((List.length a0 : Nat) : Int), 0, a2, [], a0)))))) → (Option.bind (s_iplanCode a0 a1 a2) fun r1 => (cond (r1 != 0) (some [.lst (.one (.i .i64)) [], .v (.int .i64 r1)]) (cond (!(s_iwithin a3 0 2000)) (some [.lst (.one (.i .i64)) [], .v (.int .i64 2)]) (f_iBusyOn_L r 8 (f_iBusyOn_s8 a3 ((List.length a0 : Nat) : Int) 0 a2 [] a0))))) = some r := fun r h => (sem_bind h fun r1 h => (sem_cond h (fun h => sem_got h fun q => some_eq q) (fun h => (sem_cond h (fun h => sem_got h fun q => some_eq q) (fun h => f_iBusyOn_go8 r _ h)))))
  exact go (l_iBusyOn v) ⟨v, h, rfl⟩
noncomputable def c_iBusyOn : List A → ACall
  | [.lst (.st [(.i .i8), (.i .u16)]) a0, .v (.int .i64 a1), .lst (.st [(.i .i8), (.i .i16)]) a2, .v (.int .i64 a3)] => ⟨((List Int) × Int), s_iBusyOn a0 a1 a2 a3, fun r => .tup [.lst (.one (.i .i64)) r.1, .v (.int .i64 r.2)]⟩
  | _ => ACall.fail
theorem f_iBusyOn_sound : Sound Try.prog 68 c_iBusyOn := by
  refine sound_good f_iBusyOn_ctx f_iBusyOn_LV 4 Try.func68 (c := f_iBusyOn_c) (by kernel_rfl) (rv := f_iBusyOn_rv) (by kernel_rfl) (by kernel_rfl) (by kernel_rfl) (by kernel_rfl) fun rs => ?_
  unfold c_iBusyOn
  split
  · rename_i a0 a1 a2 a3; intro v h; exact ⟨rfl, l_iBusyOn v, rfl, (f_iBusyOn_top a0 a1 a2 a3 _).trans (s_iBusyOn_ok a0 a1 a2 a3 v h)⟩
  · intro v h; cases h

/-! ### function 14: loop.example/g01322/laws.FnExactBusyOn -/
noncomputable def f_wFnExactBusyOn_c : Code := match Try.f14.body with | some c => c | none => .skip
noncomputable def f_wFnExactBusyOn_X : Ctx := ⟨TT, phiOf [(19, c_wszJobS), (21, c_wtoJobS), (23, c_weqJobS), (24, c_wszSlotS), (26, c_wtoSlotS), (28, c_weqSlotS), (31, c_weqInt64S), (34, c_wheldInt64S), (67, c_sBusyOn), (68, c_iBusyOn)], (psiOf [(32, u_wmarkJobS), (33, u_wmarkInt64S), (54, u_wmarkSlotS)]), noXi⟩
def f_wFnExactBusyOn_LV : List (Nat × Keep) := []
def f_wFnExactBusyOn_rv : List ResultVar := [.tmp 8]
noncomputable def f_wFnExactBusyOn_L (r : List A) : Nat → AS → Option (List A) := L f_wFnExactBusyOn_X (cnOf f_wFnExactBusyOn_LV) f_wFnExactBusyOn_c (K0 TT f_wFnExactBusyOn_rv) r
theorem f_wFnExactBusyOn_ctx : CtxOK Try.prog f_wFnExactBusyOn_X := ctx_ofH tab mix (l := [(19, c_wszJobS), (21, c_wtoJobS), (23, c_weqJobS), (24, c_wszSlotS), (26, c_wtoSlotS), (28, c_weqSlotS), (31, c_weqInt64S), (34, c_wheldInt64S), (67, c_sBusyOn), (68, c_iBusyOn)]) ⟨⟨Try.call19, f_wszJobS_sound⟩, ⟨Try.call21, f_wtoJobS_sound⟩, ⟨Try.call23, f_weqJobS_sound⟩, ⟨Try.call24, f_wszSlotS_sound⟩, ⟨Try.call26, f_wtoSlotS_sound⟩, ⟨Try.call28, f_weqSlotS_sound⟩, ⟨Try.call31, f_weqInt64S_sound⟩, ⟨Try.call34, f_wheldInt64S_sound⟩, ⟨Try.call67, f_sBusyOn_sound⟩, ⟨Try.call68, f_iBusyOn_sound⟩, trivial⟩ (psi_ok (l := [(32, u_wmarkJobS), (33, u_wmarkInt64S), (54, u_wmarkSlotS)]) ⟨⟨Try.call32, f_wmarkJobS_sound⟩, ⟨Try.call33, f_wmarkInt64S_sound⟩, ⟨Try.call54, f_wmarkSlotS_sound⟩, trivial⟩) xi_no
noncomputable def s_wFnExactBusyOn (a0 : (List (Int × Int))) (a1 : Int) (a2 : (List (Int × Int))) (a3 : Int) : Option Bool := (cond (decide ((s_wszJobS a0 1048576) < 0)) (some true) (cond (decide ((s_wszSlotS a2 (s_wszJobS a0 1048576)) < 0)) (some true) (Option.bind (s_wtoJobS a0) fun r1 => (Option.bind (s_wtoSlotS a2) fun r2 => (Option.bind (s_sBusyOn r1 a1 r2 a3) fun r3 => (Option.bind (s_wtoJobS a0) fun r4 => (Option.bind (s_wtoSlotS a2) fun r5 => (Option.bind (s_iBusyOn r4 a1 r5 a3) fun r6 => (Option.bind (s_weqInt64S (r6.1) (r3.1)) fun r7 => (cond (!r7) (some false) (cond (r6.2 != r3.2) (some false) (Option.bind (s_wtoJobS a0) fun r8 => (Option.bind (s_weqJobS r4 r8) fun r9 => (cond (!r9) (some false) (Option.bind (s_wtoSlotS a2) fun r10 => (Option.bind (s_weqSlotS r5 r10) fun r11 => (cond (!r11) (some false) (Option.bind (s_wmarkJobS r4 1) fun r12 => (Option.bind (s_wmarkSlotS r5 (r12.1)) fun r13 => (cond (decide (r13.1 < 0)) (some false) (Option.bind (s_weqInt64S (r6.1) (r3.1)) fun r14 => (cond (!r14) (some false) (cond (r6.2 != r3.2) (some false) (Option.bind (s_wmarkInt64S (r6.1) 1) fun r15 => (Option.bind (s_wheldInt64S (r15.2) 1) fun r16 => (cond (decide (r16 < 0)) (some false) (cond (r16 != r15.1) (some false) (Option.bind (s_wtoJobS a0) fun r17 => (Option.bind (s_wtoSlotS a2) fun r18 => (Option.bind (s_iBusyOn r17 a1 r18 a3) fun r19 => (Option.bind (s_weqInt64S (r19.1) (r3.1)) fun r20 => (cond (!r20) (some false) (cond (r19.2 != r3.2) (some false) (Option.bind (s_wheldInt64S (r15.2) 1) fun r21 => (cond (decide (r21 < 0)) (some false) (cond (r21 != r15.1) (some false) (some true)))))))))))))))))))))))))))))))))))))
theorem f_wFnExactBusyOn_top (a0 : (List (Int × Int))) (a1 : Int) (a2 : (List (Int × Int))) (a3 : Int) (r : List A) : ev f_wFnExactBusyOn_X (lpc (cnOf f_wFnExactBusyOn_LV) (f_wFnExactBusyOn_L r)) f_wFnExactBusyOn_c (K0 TT f_wFnExactBusyOn_rv) (enter [.lst (.st [(.i .i8), (.i .u16)]) a0, .v (.int .i64 a1), .lst (.st [(.i .i8), (.i .i16)]) a2, .v (.int .i64 a3)]) = (cond (decide ((s_wszJobS a0 1048576) < 0)) (some [.v (.bool true)]) (cond (decide ((s_wszSlotS a2 (s_wszJobS a0 1048576)) < 0)) (some [.v (.bool true)]) (Option.bind (s_wtoJobS a0) fun r1 => (Option.bind (s_wtoSlotS a2) fun r2 => (Option.bind (s_sBusyOn r1 a1 r2 a3) fun r3 => (Option.bind (s_wtoJobS a0) fun r4 => (Option.bind (s_wtoSlotS a2) fun r5 => (Option.bind (s_iBusyOn r4 a1 r5 a3) fun r6 => (Option.bind (s_weqInt64S (r6.1) (r3.1)) fun r7 => (cond (!r7) (some [.v (.bool false)]) (cond (r6.2 != r3.2) (some [.v (.bool false)]) (Option.bind (s_wtoJobS a0) fun r8 => (Option.bind (s_weqJobS r4 r8) fun r9 => (cond (!r9) (some [.v (.bool false)]) (Option.bind (s_wtoSlotS a2) fun r10 => (Option.bind (s_weqSlotS r5 r10) fun r11 => (cond (!r11) (some [.v (.bool false)]) (Option.bind (s_wmarkJobS r4 1) fun r12 => (Option.bind (s_wmarkSlotS r5 (r12.1)) fun r13 => (cond (decide (r13.1 < 0)) (some [.v (.bool false)]) (Option.bind (s_weqInt64S (r6.1) (r3.1)) fun r14 => (cond (!r14) (some [.v (.bool false)]) (cond (r6.2 != r3.2) (some [.v (.bool false)]) (Option.bind (s_wmarkInt64S (r6.1) 1) fun r15 => (Option.bind (s_wheldInt64S (r15.2) 1) fun r16 => (cond (decide (r16 < 0)) (some [.v (.bool false)]) (cond (r16 != r15.1) (some [.v (.bool false)]) (Option.bind (s_wtoJobS a0) fun r17 => (Option.bind (s_wtoSlotS a2) fun r18 => (Option.bind (s_iBusyOn r17 a1 r18 a3) fun r19 => (Option.bind (s_weqInt64S (r19.1) (r3.1)) fun r20 => (cond (!r20) (some [.v (.bool false)]) (cond (r19.2 != r3.2) (some [.v (.bool false)]) (Option.bind (s_wheldInt64S (r15.2) 1) fun r21 => (cond (decide (r21 < 0)) (some [.v (.bool false)]) (cond (r21 != r15.1) (some [.v (.bool false)]) (some [.v (.bool true)]))))))))))))))))))))))))))))))))))))) := by kernel_rfl
noncomputable def l_wFnExactBusyOn (r : Bool) : List A := [.v (.bool r)]
theorem s_wFnExactBusyOn_ok (a0 : (List (Int × Int))) (a1 : Int) (a2 : (List (Int × Int))) (a3 : Int) (v : Bool) (h : s_wFnExactBusyOn a0 a1 a2 a3 = some v) : (cond (decide ((s_wszJobS a0 1048576) < 0)) (some [.v (.bool true)]) (cond (decide ((s_wszSlotS a2 (s_wszJobS a0 1048576)) < 0)) (some [.v (.bool true)]) (Option.bind (s_wtoJobS a0) fun r1 => (Option.bind (s_wtoSlotS a2) fun r2 => (Option.bind (s_sBusyOn r1 a1 r2 a3) fun r3 => (Option.bind (s_wtoJobS a0) fun r4 => (Option.bind (s_wtoSlotS a2) fun r5 => (Option.bind (s_iBusyOn r4 a1 r5 a3) fun r6 => (Option.bind (s_weqInt64S (r6.1) (r3.1)) fun r7 => (cond (!r7) (some [.v (.bool false)]) (cond (r6.2 != r3.2) (some [.v (.bool false)]) (Option.bind (s_wtoJobS a0) fun r8 => (Option.bind (s_weqJobS r4 r8) fun r9 => (cond (!r9) (some [.v (.bool false)]) (Option.bind (s_wtoSlotS a2) fun r10 => (Option.bind (s_weqSlotS r5 r10) fun r11 => (cond (!r11) (some [.v (.bool false)]) (Option.bind (s_wmarkJobS r4 1) fun r12 => (Option.bind (s_wmarkSlotS r5 (r12.1)) fun r13 => (cond (decide (r13.1 < 0)) (some [.v (.bool false)]) (Option.bind (s_weqInt64S (r6.1) (r3.1)) fun r14 => (cond (!r14) (some [.v (.bool false)]) (cond (r6.2 != r3.2) (some [.v (.bool false)]) (Option.bind (s_wmarkInt64S (r6.1) 1) fun r15 => (Option.bind (s_wheldInt64S (r15.2) 1) fun r16 => (cond (decide (r16 < 0)) (some [.v (.bool false)]) (cond (r16 != r15.1) (some [.v (.bool false)]) (Option.bind (s_wtoJobS a0) fun r17 => (Option.bind (s_wtoSlotS a2) fun r18 => (Option.bind (s_iBusyOn r17 a1 r18 a3) fun r19 => (Option.bind (s_weqInt64S (r19.1) (r3.1)) fun r20 => (cond (!r20) (some [.v (.bool false)]) (cond (r19.2 != r3.2) (some [.v (.bool false)]) (Option.bind (s_wheldInt64S (r15.2) 1) fun r21 => (cond (decide (r21 < 0)) (some [.v (.bool false)]) (cond (r21 != r15.1) (some [.v (.bool false)]) (some [.v (.bool true)]))))))))))))))))))))))))))))))))))))) = some (l_wFnExactBusyOn v) := by
  have e : (cond (decide ((s_wszJobS a0 1048576) < 0)) (some [.v (.bool true)]) (cond (decide ((s_wszSlotS a2 (s_wszJobS a0 1048576)) < 0)) (some [.v (.bool true)]) (Option.bind (s_wtoJobS a0) fun r1 => (Option.bind (s_wtoSlotS a2) fun r2 => (Option.bind (s_sBusyOn r1 a1 r2 a3) fun r3 => (Option.bind (s_wtoJobS a0) fun r4 => (Option.bind (s_wtoSlotS a2) fun r5 => (Option.bind (s_iBusyOn r4 a1 r5 a3) fun r6 => (Option.bind (s_weqInt64S (r6.1) (r3.1)) fun r7 => (cond (!r7) (some [.v (.bool false)]) (cond (r6.2 != r3.2) (some [.v (.bool false)]) (Option.bind (s_wtoJobS a0) fun r8 => (Option.bind (s_weqJobS r4 r8) fun r9 => (cond (!r9) (some [.v (.bool false)]) (Option.bind (s_wtoSlotS a2) fun r10 => (Option.bind (s_weqSlotS r5 r10) fun r11 => (cond (!r11) (some [.v (.bool false)]) (Option.bind (s_wmarkJobS r4 1) fun r12 => (Option.bind (s_wmarkSlotS r5 (r12.1)) fun r13 => (cond (decide (r13.1 < 0)) (some [.v (.bool false)]) (Option.bind (s_weqInt64S (r6.1) (r3.1)) fun r14 => (cond (!r14) (some [.v (.bool false)]) (cond (r6.2 != r3.2) (some [.v (.bool false)]) (Option.bind (s_wmarkInt64S (r6.1) 1) fun r15 => (Option.bind (s_wheldInt64S (r15.2) 1) fun r16 => (cond (decide (r16 < 0)) (some [.v (.bool false)]) (cond (r16 != r15.1) (some [.v (.bool false)]) (Option.bind (s_wtoJobS a0) fun r17 => (Option.bind (s_wtoSlotS a2) fun r18 => (Option.bind (s_iBusyOn r17 a1 r18 a3) fun r19 => (Option.bind (s_weqInt64S (r19.1) (r3.1)) fun r20 => (cond (!r20) (some [.v (.bool false)]) (cond (r19.2 != r3.2) (some [.v (.bool false)]) (Option.bind (s_wheldInt64S (r15.2) 1) fun r21 => (cond (decide (r21 < 0)) (some [.v (.bool false)]) (cond (r21 != r15.1) (some [.v (.bool false)]) (some [.v (.bool true)]))))))))))))))))))))))))))))))))))))) = Option.map l_wFnExactBusyOn (s_wFnExactBusyOn a0 a1 a2 a3) := by
    unfold s_wFnExactBusyOn
    exact (cond_app (Option.map l_wFnExactBusyOn) rfl (cond_app (Option.map l_wFnExactBusyOn) rfl (bind_app fun _ => (bind_app fun _ => (bind_app fun _ => (bind_app fun _ => (bind_app fun _ => (bind_app fun _ => (bind_app fun _ => (cond_app (Option.map l_wFnExactBusyOn) rfl (cond_app (Option.map l_wFnExactBusyOn) rfl (bind_app fun _ => (bind_app fun _ => (cond_app (Option.map l_wFnExactBusyOn) rfl (bind_app fun _ => (bind_app fun _ => (cond_app (Option.map l_wFnExactBusyOn) rfl (bind_app fun _ => (bind_app fun _ => (cond_app (Option.map l_wFnExactBusyOn) rfl (bind_app fun _ => (cond_app (Option.map l_wFnExactBusyOn) rfl (cond_app (Option.map l_wFnExactBusyOn) rfl (bind_app fun _ => (bind_app fun _ => (cond_app (Option.map l_wFnExactBusyOn) rfl (cond_app (Option.map l_wFnExactBusyOn) rfl (bind_app fun _ => (bind_app fun _ => (bind_app fun _ => (bind_app fun _ => (cond_app (Option.map l_wFnExactBusyOn) rfl (cond_app (Option.map l_wFnExactBusyOn) rfl (bind_app fun _ => (cond_app (Option.map l_wFnExactBusyOn) rfl (cond_app (Option.map l_wFnExactBusyOn) rfl rfl))))))))))))))))))))))))))))))))))))
  rw [e, h]; rfl
noncomputable def c_wFnExactBusyOn : List A → ACall
  | [.lst (.st [(.i .i8), (.i .u16)]) a0, .v (.int .i64 a1), .lst (.st [(.i .i8), (.i .i16)]) a2, .v (.int .i64 a3)] => ⟨Bool, s_wFnExactBusyOn a0 a1 a2 a3, fun r => .one (.v (.bool r))⟩
  | _ => ACall.fail
theorem f_wFnExactBusyOn_sound : Sound Try.prog 14 c_wFnExactBusyOn := by
  refine sound_good f_wFnExactBusyOn_ctx f_wFnExactBusyOn_LV 4 Try.func14 (c := f_wFnExactBusyOn_c) (by kernel_rfl) (rv := f_wFnExactBusyOn_rv) (by kernel_rfl) (by kernel_rfl) (by kernel_rfl) (by kernel_rfl) fun rs => ?_
  unfold c_wFnExactBusyOn
  split
  · rename_i a0 a1 a2 a3; intro v h; exact ⟨rfl, l_wFnExactBusyOn v, rfl, (f_wFnExactBusyOn_top a0 a1 a2 a3 _).trans (s_wFnExactBusyOn_ok a0 a1 a2 a3 v h)⟩
  · intro v h; cases h
end Go.RR
