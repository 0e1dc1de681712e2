/- Idle days: the law. -/
import Derived.Test.YtkohnhkehedflaaVw
set_option linter.unusedVariables false
set_option linter.unusedSimpArgs false
set_option linter.unusedSectionVars false
set_option maxRecDepth 100000
namespace Go.RR
open Go Go.Proofs

/-! ### function 169: loop.example/g01322/spec.l07Hands -/
noncomputable def f_sl07Hands_c : Code := match Try.f169.body with | some c => c | none => .skip
noncomputable def f_sl07Hands_X : Ctx := ⟨TT, phiOf [(93, c_sl00In)], noPsi, noXi⟩
def f_sl07Hands_LV : List (Nat × Keep) := []
def f_sl07Hands_rv : List ResultVar := [.tmp 2]
noncomputable def f_sl07Hands_L (r : List A) : Nat → AS → Option (List A) := L f_sl07Hands_X (cnOf f_sl07Hands_LV) f_sl07Hands_c (K0 TT f_sl07Hands_rv) r
theorem f_sl07Hands_ctx : CtxOK Try.prog f_sl07Hands_X := ctx_of tab mix ⟨⟨Try.call93, f_sl00In_sound⟩, trivial⟩
noncomputable def s_sl07Hands (a0 : Int) : Bool := (s_sl00In a0 1 4)
theorem f_sl07Hands_top (a0 : Int) (r : List A) : ev f_sl07Hands_X (lpc (cnOf f_sl07Hands_LV) (f_sl07Hands_L r)) f_sl07Hands_c (K0 TT f_sl07Hands_rv) (enter [.v (.int .i64 a0)]) = (some [.v (.bool (s_sl00In a0 1 4))]) := by kernel_rfl
noncomputable def l_sl07Hands (r : Bool) : List A := [.v (.bool r)]
theorem s_sl07Hands_ok (a0 : Int) : (some [.v (.bool (s_sl00In a0 1 4))]) = some (l_sl07Hands (s_sl07Hands a0)) := by
  unfold s_sl07Hands
  exact rfl
noncomputable def c_sl07Hands : List A → ACall
  | [.v (.int .i64 a0)] => ⟨Bool, some (s_sl07Hands a0), fun r => .one (.v (.bool r))⟩
  | _ => ACall.fail
theorem f_sl07Hands_sound : Sound Try.prog 169 c_sl07Hands := by
  refine sound_good f_sl07Hands_ctx f_sl07Hands_LV 1 Try.func169 (c := f_sl07Hands_c) (by kernel_rfl) (rv := f_sl07Hands_rv) (by kernel_rfl) (by kernel_rfl) (by kernel_rfl) (by kernel_rfl) fun rs => ?_
  unfold c_sl07Hands
  split
  · rename_i a0; intro v h; cases h; exact ⟨rfl, l_sl07Hands (s_sl07Hands a0), rfl, (f_sl07Hands_top a0 _).trans (s_sl07Hands_ok a0)⟩
  · intro v h; cases h

/-! ### function 202: loop.example/g01322/spec.l07Slot -/
noncomputable def f_sl07Slot_c : Code := match Try.f202.body with | some c => c | none => .skip
noncomputable def f_sl07Slot_X : Ctx := ⟨TT, phiOf [(93, c_sl00In)], noPsi, noXi⟩
def f_sl07Slot_LV : List (Nat × Keep) := []
def f_sl07Slot_rv : List ResultVar := [.tmp 4]
noncomputable def f_sl07Slot_L (r : List A) : Nat → AS → Option (List A) := L f_sl07Slot_X (cnOf f_sl07Slot_LV) f_sl07Slot_c (K0 TT f_sl07Slot_rv) r
theorem f_sl07Slot_ctx : CtxOK Try.prog f_sl07Slot_X := ctx_of tab mix ⟨⟨Try.call93, f_sl00In_sound⟩, trivial⟩
noncomputable def s_sl07Slot (a0 : Int) (a1 : Int) (a2 : Int) : Bool := (cond (s_sl00In (IntKind.wrap .i64 a1) 0 (IntKind.wrap .i64 (a0 - 1))) (s_sl00In (IntKind.wrap .i64 a2) 0 1000) false)
theorem f_sl07Slot_top (a0 : Int) (a1 : Int) (a2 : Int) (r : List A) : ev f_sl07Slot_X (lpc (cnOf f_sl07Slot_LV) (f_sl07Slot_L r)) f_sl07Slot_c (K0 TT f_sl07Slot_rv) (enter [.v (.int .i64 a0), .rc [.v (.int .i8 a1), .v (.int .i16 a2)]]) = (cond (s_sl00In (IntKind.wrap .i64 a1) 0 (IntKind.wrap .i64 (a0 - 1))) (some [.v (.bool (s_sl00In (IntKind.wrap .i64 a2) 0 1000))]) (some [.v (.bool false)])) := by kernel_rfl
noncomputable def l_sl07Slot (r : Bool) : List A := [.v (.bool r)]
theorem s_sl07Slot_ok (a0 : Int) (a1 : Int) (a2 : Int) : (cond (s_sl00In (IntKind.wrap .i64 a1) 0 (IntKind.wrap .i64 (a0 - 1))) (some [.v (.bool (s_sl00In (IntKind.wrap .i64 a2) 0 1000))]) (some [.v (.bool false)])) = some (l_sl07Slot (s_sl07Slot a0 a1 a2)) := by
  unfold s_sl07Slot
  exact (cond_app (fun x => some (l_sl07Slot x)) rfl rfl)
noncomputable def c_sl07Slot : List A → ACall
  | [.v (.int .i64 a0), .rc [.v (.int .i8 a1), .v (.int .i16 a2)]] => ⟨Bool, some (s_sl07Slot a0 a1 a2), fun r => .one (.v (.bool r))⟩
  | _ => ACall.fail
theorem f_sl07Slot_sound : Sound Try.prog 202 c_sl07Slot := by
  refine sound_good f_sl07Slot_ctx f_sl07Slot_LV 2 Try.func202 (c := f_sl07Slot_c) (by kernel_rfl) (rv := f_sl07Slot_rv) (by kernel_rfl) (by kernel_rfl) (by kernel_rfl) (by kernel_rfl) fun rs => ?_
  unfold c_sl07Slot
  split
  · rename_i a0 a1 a2; intro v h; cases h; exact ⟨rfl, l_sl07Slot (s_sl07Slot a0 a1 a2), rfl, (f_sl07Slot_top a0 a1 a2 _).trans (s_sl07Slot_ok a0 a1 a2)⟩
  · intro v h; cases h

/-! ### function 152: loop.example/g01322/spec.l07Done -/
noncomputable def f_sl07Done_c : Code := match Try.f152.body with | some c => c | none => .skip
noncomputable def f_sl07Done_X : Ctx := ⟨TT, phiOf [], noPsi, noXi⟩
def f_sl07Done_LV : List (Nat × Keep) := []
def f_sl07Done_rv : List ResultVar := [.tmp 6]
noncomputable def f_sl07Done_L (r : List A) : Nat → AS → Option (List A) := L f_sl07Done_X (cnOf f_sl07Done_LV) f_sl07Done_c (K0 TT f_sl07Done_rv) r
theorem f_sl07Done_ctx : CtxOK Try.prog f_sl07Done_X := ctx_of tab mix trivial
noncomputable def s_sl07Done (a0 : (List (Int × Int))) (a1 : (List (Int × Int))) (a2 : Int) : Option Int := (cond (inB a2 (List.length a1)) (cond (inB a2 (List.length a0)) (some (IntKind.wrap .i64 ((IntKind.wrap .i64 (List.getD a1 (Int.toNat a2) ((0, 0) : (Int × Int))).2) + (IntKind.wrap .i64 (List.getD a0 (Int.toNat a2) ((0, 0) : (Int × Int))).1)))) none) none)
theorem f_sl07Done_top (a0 : (List (Int × Int))) (a1 : (List (Int × Int))) (a2 : Int) (r : List A) : ev f_sl07Done_X (lpc (cnOf f_sl07Done_LV) (f_sl07Done_L r)) f_sl07Done_c (K0 TT f_sl07Done_rv) (enter [.lst (.st [(.i .i8), (.i .u16)]) a0, .lst (.st [(.i .i8), (.i .i16)]) a1, .v (.int .i64 a2)]) = (cond (inB a2 (List.length a1)) (cond (inB a2 (List.length a0)) (some [.v (.int .i64 (IntKind.wrap .i64 ((IntKind.wrap .i64 (List.getD a1 (Int.toNat a2) ((0, 0) : (Int × Int))).2) + (IntKind.wrap .i64 (List.getD a0 (Int.toNat a2) ((0, 0) : (Int × Int))).1))))]) none) none) := by kernel_rfl
noncomputable def l_sl07Done (r : Int) : List A := [.v (.int .i64 r)]
theorem s_sl07Done_ok (a0 : (List (Int × Int))) (a1 : (List (Int × Int))) (a2 : Int) (v : Int) (h : s_sl07Done a0 a1 a2 = some v) : (cond (inB a2 (List.length a1)) (cond (inB a2 (List.length a0)) (some [.v (.int .i64 (IntKind.wrap .i64 ((IntKind.wrap .i64 (List.getD a1 (Int.toNat a2) ((0, 0) : (Int × Int))).2) + (IntKind.wrap .i64 (List.getD a0 (Int.toNat a2) ((0, 0) : (Int × Int))).1))))]) none) none) = some (l_sl07Done v) := by
  have e : (cond (inB a2 (List.length a1)) (cond (inB a2 (List.length a0)) (some [.v (.int .i64 (IntKind.wrap .i64 ((IntKind.wrap .i64 (List.getD a1 (Int.toNat a2) ((0, 0) : (Int × Int))).2) + (IntKind.wrap .i64 (List.getD a0 (Int.toNat a2) ((0, 0) : (Int × Int))).1))))]) none) none) = Option.map l_sl07Done (s_sl07Done a0 a1 a2) := by
    unfold s_sl07Done
    exact (cond_app (Option.map l_sl07Done) (cond_app (Option.map l_sl07Done) rfl rfl) rfl)
  rw [e, h]; rfl
noncomputable def c_sl07Done : List A → ACall
  | [.lst (.st [(.i .i8), (.i .u16)]) a0, .lst (.st [(.i .i8), (.i .i16)]) a1, .v (.int .i64 a2)] => ⟨Int, s_sl07Done a0 a1 a2, fun r => .one (.v (.int .i64 r))⟩
  | _ => ACall.fail
theorem f_sl07Done_sound : Sound Try.prog 152 c_sl07Done := by
  refine sound_good f_sl07Done_ctx f_sl07Done_LV 3 Try.func152 (c := f_sl07Done_c) (by kernel_rfl) (rv := f_sl07Done_rv) (by kernel_rfl) (by kernel_rfl) (by kernel_rfl) (by kernel_rfl) fun rs => ?_
  unfold c_sl07Done
  split
  · rename_i a0 a1 a2; intro v h; exact ⟨rfl, l_sl07Done v, rfl, (f_sl07Done_top a0 a1 a2 _).trans (s_sl07Done_ok a0 a1 a2 v h)⟩
  · intro v h; cases h

/-! ### function 156: loop.example/g01322/spec.l07Fault -/
noncomputable def f_sl07Fault_c : Code := match Try.f156.body with | some c => c | none => .skip
noncomputable def f_sl07Fault_X : Ctx := ⟨TT, phiOf [(152, c_sl07Done), (195, c_sl07Waits), (202, c_sl07Slot)], noPsi, noXi⟩
def f_sl07Fault_LV : List (Nat × Keep) := [(2, ([0, 1, 2, 7], [], [])), (7, ([0, 1, 2, 7, 8], [], []))]
def f_sl07Fault_rv : List ResultVar := [.tmp 6]
noncomputable def f_sl07Fault_L (r : List A) : Nat → AS → Option (List A) := L f_sl07Fault_X (cnOf f_sl07Fault_LV) f_sl07Fault_c (K0 TT f_sl07Fault_rv) r
theorem f_sl07Fault_ctx : CtxOK Try.prog f_sl07Fault_X := ctx_of tab mix ⟨⟨Try.call152, f_sl07Done_sound⟩, ⟨Try.call195, f_sl07Waits_sound⟩, ⟨Try.call202, f_sl07Slot_sound⟩, trivial⟩
noncomputable def f_sl07Fault_s2 (x0 : Int) (x1 : Int) (x2 : (List (Int × Int))) (x3 : (List (Int × Int))) : AS := ⟨[(0, .a (.sl 0)), (1, .a (.v (.int .i64 x0))), (2, .a (.sl 1)), (7, .a (.v (.int .i64 x1)))], [(0, some ⟨false, .arr (.st [(.i .i8), (.i .u16)]) x2⟩), (1, some ⟨false, .arr (.st [(.i .i8), (.i .i16)]) x3⟩)], 2⟩
noncomputable def f_sl07Fault_s7 (x0 : Int) (x1 : Int) (x2 : Int) (x3 : (List (Int × Int))) (x4 : (List (Int × Int))) : AS := ⟨[(0, .a (.sl 0)), (1, .a (.v (.int .i64 x0))), (2, .a (.sl 1)), (7, .a (.v (.int .i64 x1))), (8, .a (.v (.int .i64 x2)))], [(0, some ⟨false, .arr (.st [(.i .i8), (.i .u16)]) x3⟩), (1, some ⟨false, .arr (.st [(.i .i8), (.i .i16)]) x4⟩)], 2⟩
noncomputable def l_sl07Fault (r : Int) : List A := [.v (.int .i64 r)]
theorem f_sl07Fault_step7 (x0 : Int) (x1 : Int) (x2 : Int) (x3 : (List (Int × Int))) (x4 : (List (Int × Int))) (r : List A) (h : (cond (decide (x2 < ((List.length x3 : Nat) : Int))) (cond (inB x2 (List.length x4)) (cond (!(s_sl07Slot x0 (List.getD x4 (Int.toNat x2) ((0, 0) : (Int × Int))).1 (List.getD x4 (Int.toNat x2) ((0, 0) : (Int × Int))).2)) (f_sl07Fault_L r 7 (f_sl07Fault_s7 x0 x1 (IntKind.wrap .i64 (x2 + 1)) x3 x4)) (Option.bind (s_sl07Waits x3 x1 x2) fun r1 => (cond r1 (cond (inB x1 (List.length x4)) (Option.bind (s_sl07Done x3 x4 x2) fun r2 => (cond (decide ((IntKind.wrap .i64 (List.getD x4 (Int.toNat x1) ((0, 0) : (Int × Int))).2) < r2)) (some [.v (.int .i64 x1)]) (cond (decide (x2 < x1)) (cond (inB x2 (List.length x4)) (cond (inB x1 (List.length x4)) (cond ((List.getD x4 (Int.toNat x2) ((0, 0) : (Int × Int))).1 == (List.getD x4 (Int.toNat x1) ((0, 0) : (Int × Int))).1) (cond (inB x1 (List.length x4)) (Option.bind (s_sl07Done x3 x4 x2) fun r3 => (cond (decide ((IntKind.wrap .i64 (List.getD x4 (Int.toNat x1) ((0, 0) : (Int × Int))).2) < r3)) (cond (inB x2 (List.length x4)) (Option.bind (s_sl07Done x3 x4 x1) fun r4 => (cond (decide ((IntKind.wrap .i64 (List.getD x4 (Int.toNat x2) ((0, 0) : (Int × Int))).2) < r4)) (some [.v (.int .i64 x1)]) (f_sl07Fault_L r 7 (f_sl07Fault_s7 x0 x1 (IntKind.wrap .i64 (x2 + 1)) x3 x4)))) none) (f_sl07Fault_L r 7 (f_sl07Fault_s7 x0 x1 (IntKind.wrap .i64 (x2 + 1)) x3 x4)))) none) (f_sl07Fault_L r 7 (f_sl07Fault_s7 x0 x1 (IntKind.wrap .i64 (x2 + 1)) x3 x4))) none) none) (f_sl07Fault_L r 7 (f_sl07Fault_s7 x0 x1 (IntKind.wrap .i64 (x2 + 1)) x3 x4))))) none) (cond (decide (x2 < x1)) (cond (inB x2 (List.length x4)) (cond (inB x1 (List.length x4)) (cond ((List.getD x4 (Int.toNat x2) ((0, 0) : (Int × Int))).1 == (List.getD x4 (Int.toNat x1) ((0, 0) : (Int × Int))).1) (cond (inB x1 (List.length x4)) (Option.bind (s_sl07Done x3 x4 x2) fun r5 => (cond (decide ((IntKind.wrap .i64 (List.getD x4 (Int.toNat x1) ((0, 0) : (Int × Int))).2) < r5)) (cond (inB x2 (List.length x4)) (Option.bind (s_sl07Done x3 x4 x1) fun r6 => (cond (decide ((IntKind.wrap .i64 (List.getD x4 (Int.toNat x2) ((0, 0) : (Int × Int))).2) < r6)) (some [.v (.int .i64 x1)]) (f_sl07Fault_L r 7 (f_sl07Fault_s7 x0 x1 (IntKind.wrap .i64 (x2 + 1)) x3 x4)))) none) (f_sl07Fault_L r 7 (f_sl07Fault_s7 x0 x1 (IntKind.wrap .i64 (x2 + 1)) x3 x4)))) none) (f_sl07Fault_L r 7 (f_sl07Fault_s7 x0 x1 (IntKind.wrap .i64 (x2 + 1)) x3 x4))) none) none) (f_sl07Fault_L r 7 (f_sl07Fault_s7 x0 x1 (IntKind.wrap .i64 (x2 + 1)) x3 x4)))))) none) (f_sl07Fault_L r 2 (f_sl07Fault_s2 x0 (IntKind.wrap .i64 (x1 + 1)) x3 x4))) = some r) : f_sl07Fault_L r 7 (f_sl07Fault_s7 x0 x1 x2 x3 x4) = some r :=
  step_of' h (by kernel_rfl)
noncomputable def f_sl07Fault_n7 (x0 : Int) (x1 : Int) (x2 : Int) (x3 : (List (Int × Int))) (x4 : (List (Int × Int))) : Option ((Int × Int × Int × (List (Int × Int)) × (List (Int × Int))) ⊕ ((Int × Int × (List (Int × Int)) × (List (Int × Int))) ⊕ Int)) := (cond (decide (x2 < ((List.length x3 : Nat) : Int))) (cond (inB x2 (List.length x4)) (cond (!(s_sl07Slot x0 (List.getD x4 (Int.toNat x2) ((0, 0) : (Int × Int))).1 (List.getD x4 (Int.toNat x2) ((0, 0) : (Int × Int))).2)) (some (Sum.inl (x0, x1, (IntKind.wrap .i64 (x2 + 1)), x3, x4))) (Option.bind (s_sl07Waits x3 x1 x2) fun r1 => (cond r1 (cond (inB x1 (List.length x4)) (Option.bind (s_sl07Done x3 x4 x2) fun r2 => (cond (decide ((IntKind.wrap .i64 (List.getD x4 (Int.toNat x1) ((0, 0) : (Int × Int))).2) < r2)) (some (Sum.inr (Sum.inr x1))) (cond (decide (x2 < x1)) (cond (inB x2 (List.length x4)) (cond (inB x1 (List.length x4)) (cond ((List.getD x4 (Int.toNat x2) ((0, 0) : (Int × Int))).1 == (List.getD x4 (Int.toNat x1) ((0, 0) : (Int × Int))).1) (cond (inB x1 (List.length x4)) (Option.bind (s_sl07Done x3 x4 x2) fun r3 => (cond (decide ((IntKind.wrap .i64 (List.getD x4 (Int.toNat x1) ((0, 0) : (Int × Int))).2) < r3)) (cond (inB x2 (List.length x4)) (Option.bind (s_sl07Done x3 x4 x1) fun r4 => (cond (decide ((IntKind.wrap .i64 (List.getD x4 (Int.toNat x2) ((0, 0) : (Int × Int))).2) < r4)) (some (Sum.inr (Sum.inr x1))) (some (Sum.inl (x0, x1, (IntKind.wrap .i64 (x2 + 1)), x3, x4))))) none) (some (Sum.inl (x0, x1, (IntKind.wrap .i64 (x2 + 1)), x3, x4))))) none) (some (Sum.inl (x0, x1, (IntKind.wrap .i64 (x2 + 1)), x3, x4)))) none) none) (some (Sum.inl (x0, x1, (IntKind.wrap .i64 (x2 + 1)), x3, x4)))))) none) (cond (decide (x2 < x1)) (cond (inB x2 (List.length x4)) (cond (inB x1 (List.length x4)) (cond ((List.getD x4 (Int.toNat x2) ((0, 0) : (Int × Int))).1 == (List.getD x4 (Int.toNat x1) ((0, 0) : (Int × Int))).1) (cond (inB x1 (List.length x4)) (Option.bind (s_sl07Done x3 x4 x2) fun r5 => (cond (decide ((IntKind.wrap .i64 (List.getD x4 (Int.toNat x1) ((0, 0) : (Int × Int))).2) < r5)) (cond (inB x2 (List.length x4)) (Option.bind (s_sl07Done x3 x4 x1) fun r6 => (cond (decide ((IntKind.wrap .i64 (List.getD x4 (Int.toNat x2) ((0, 0) : (Int × Int))).2) < r6)) (some (Sum.inr (Sum.inr x1))) (some (Sum.inl (x0, x1, (IntKind.wrap .i64 (x2 + 1)), x3, x4))))) none) (some (Sum.inl (x0, x1, (IntKind.wrap .i64 (x2 + 1)), x3, x4))))) none) (some (Sum.inl (x0, x1, (IntKind.wrap .i64 (x2 + 1)), x3, x4)))) none) none) (some (Sum.inl (x0, x1, (IntKind.wrap .i64 (x2 + 1)), x3, x4))))))) none) (some (Sum.inr (Sum.inl (x0, (IntKind.wrap .i64 (x1 + 1)), x3, x4)))))
noncomputable def f_sl07Fault_run7 (x : (Int × Int × Int × (List (Int × Int)) × (List (Int × Int)))) : Option ((Int × Int × (List (Int × Int)) × (List (Int × Int))) ⊕ Int) := iter (fun x => f_sl07Fault_n7 x.1 x.2.1 x.2.2.1 x.2.2.2.1 x.2.2.2.2) FU x
noncomputable def f_sl07Fault_G7 (r : List A) (x : (Int × Int × Int × (List (Int × Int)) × (List (Int × Int)))) : Prop := f_sl07Fault_L r 7 (f_sl07Fault_s7 x.1 x.2.1 x.2.2.1 x.2.2.2.1 x.2.2.2.2) = some r
theorem f_sl07Fault_step2 (x0 : Int) (x1 : Int) (x2 : (List (Int × Int))) (x3 : (List (Int × Int))) (r : List A) (h : (cond (decide (x1 < ((List.length x2 : Nat) : Int))) (cond (inB x1 (List.length x3)) (cond (!(s_sl07Slot x0 (List.getD x3 (Int.toNat x1) ((0, 0) : (Int × Int))).1 (List.getD x3 (Int.toNat x1) ((0, 0) : (Int × Int))).2)) (some [.v (.int .i64 x1)]) (f_sl07Fault_L r 7 (f_sl07Fault_s7 x0 x1 0 x2 x3))) none) (some [.v (.int .i64 (-1))])) = some r) : f_sl07Fault_L r 2 (f_sl07Fault_s2 x0 x1 x2 x3) = some r :=
  step_of' h (by kernel_rfl)
noncomputable def f_sl07Fault_n2 (x0 : Int) (x1 : Int) (x2 : (List (Int × Int))) (x3 : (List (Int × Int))) : Option ((Int × Int × (List (Int × Int)) × (List (Int × Int))) ⊕ Int) := (cond (decide (x1 < ((List.length x2 : Nat) : Int))) (cond (inB x1 (List.length x3)) (cond (!(s_sl07Slot x0 (List.getD x3 (Int.toNat x1) ((0, 0) : (Int × Int))).1 (List.getD x3 (Int.toNat x1) ((0, 0) : (Int × Int))).2)) (some (Sum.inr x1)) (f_sl07Fault_run7 (x0, x1, 0, x2, x3))) none) (some (Sum.inr (-1))))
noncomputable def f_sl07Fault_run2 (x : (Int × Int × (List (Int × Int)) × (List (Int × Int)))) : Option Int := iter (fun x => f_sl07Fault_n2 x.1 x.2.1 x.2.2.1 x.2.2.2) FU x
noncomputable def f_sl07Fault_G2 (r : List A) (x : (Int × Int × (List (Int × Int)) × (List (Int × Int)))) : Prop := f_sl07Fault_L r 2 (f_sl07Fault_s2 x.1 x.2.1 x.2.2.1 x.2.2.2) = some r
noncomputable def f_sl07Fault_S2 (r : List A) : Int → Prop := fun v => r = l_sl07Fault v
noncomputable def f_sl07Fault_S7 (r : List A) : ((Int × Int × (List (Int × Int)) × (List (Int × Int))) ⊕ Int) → Prop := goesOn (f_sl07Fault_G2 r) (f_sl07Fault_S2 r)
theorem f_sl07Fault_go7 (r : List A) : ∀ x, sem (f_sl07Fault_S7 r) (f_sl07Fault_run7 x) → f_sl07Fault_G7 r x :=
  fun x => iter_sound (step := fun x => f_sl07Fault_n7 x.1 x.2.1 x.2.2.1 x.2.2.2.1 x.2.2.2.2) (fun x h => by
    unfold f_sl07Fault_n7 at h
    exact f_sl07Fault_step7 x.1 x.2.1 x.2.2.1 x.2.2.2.1 x.2.2.2.2 r ((sem_cond h (fun h => (sem_cond h (fun h => (sem_cond h (fun h => sem_got h fun q => q) (fun h => (sem_bind h fun r1 h => (sem_cond h (fun h => (sem_cond h (fun h => (sem_bind h fun r2 h => (sem_cond h (fun h => sem_got h fun q => some_eq q) (fun h => (sem_cond h (fun h => (sem_cond h (fun h => (sem_cond h (fun h => (sem_cond h (fun h => (sem_cond h (fun h => (sem_bind h fun r3 h => (sem_cond h (fun h => (sem_cond h (fun h => (sem_bind h fun r4 h => (sem_cond h (fun h => sem_got h fun q => some_eq q) (fun h => sem_got h fun q => q)))) (fun h => sem_none h))) (fun h => sem_got h fun q => q)))) (fun h => sem_none h))) (fun h => sem_got h fun q => q))) (fun h => sem_none h))) (fun h => sem_none h))) (fun h => sem_got h fun q => q)))))) (fun h => sem_none h))) (fun h => (sem_cond h (fun h => (sem_cond h (fun h => (sem_cond h (fun h => (sem_cond h (fun h => (sem_cond h (fun h => (sem_bind h fun r5 h => (sem_cond h (fun h => (sem_cond h (fun h => (sem_bind h fun r6 h => (sem_cond h (fun h => sem_got h fun q => some_eq q) (fun h => sem_got h fun q => q)))) (fun h => sem_none h))) (fun h => sem_got h fun q => q)))) (fun h => sem_none h))) (fun h => sem_got h fun q => q))) (fun h => sem_none h))) (fun h => sem_none h))) (fun h => sem_got h fun q => q)))))))) (fun h => sem_none h))) (fun h => sem_got h fun q => q)))) FU x
theorem f_sl07Fault_go2 (r : List A) : ∀ x, sem (f_sl07Fault_S2 r) (f_sl07Fault_run2 x) → f_sl07Fault_G2 r x :=
  fun x => iter_sound (step := fun x => f_sl07Fault_n2 x.1 x.2.1 x.2.2.1 x.2.2.2) (fun x h => by
    unfold f_sl07Fault_n2 at h
    exact f_sl07Fault_step2 x.1 x.2.1 x.2.2.1 x.2.2.2 r ((sem_cond h (fun h => (sem_cond h (fun h => (sem_cond h (fun h => sem_got h fun q => some_eq q) (fun h => f_sl07Fault_go7 r _ h))) (fun h => sem_none h))) (fun h => sem_got h fun q => some_eq q)))) FU x
noncomputable def s_sl07Fault (a0 : (List (Int × Int))) (a1 : Int) (a2 : (List (Int × Int))) : Option Int := (f_sl07Fault_run2 (a1, 0, a0, a2))
theorem f_sl07Fault_top (a0 : (List (Int × Int))) (a1 : Int) (a2 : (List (Int × Int))) (r : List A) : ev f_sl07Fault_X (lpc (cnOf f_sl07Fault_LV) (f_sl07Fault_L r)) f_sl07Fault_c (K0 TT f_sl07Fault_rv) (enter [.lst (.st [(.i .i8), (.i .u16)]) a0, .v (.int .i64 a1), .lst (.st [(.i .i8), (.i .i16)]) a2]) = (f_sl07Fault_L r 2 (f_sl07Fault_s2 a1 0 a0 a2)) := by kernel_rfl
theorem s_sl07Fault_ok (a0 : (List (Int × Int))) (a1 : Int) (a2 : (List (Int × Int))) (v : Int) (h : s_sl07Fault a0 a1 a2 = some v) : (f_sl07Fault_L (l_sl07Fault v) 2 (f_sl07Fault_s2 a1 0 a0 a2)) = some (l_sl07Fault v) := by
  unfold s_sl07Fault at h
  have go : ∀ r, sem (fun v => r = l_sl07Fault v) ((f_sl07Fault_run2 (a1, 0, a0, a2))) → (f_sl07Fault_L r 2 (f_sl07Fault_s2 a1 0 a0 a2)) = some r := fun r h => f_sl07Fault_go2 r _ h
  exact go (l_sl07Fault v) ⟨v, h, rfl⟩
noncomputable def c_sl07Fault : List A → ACall
  | [.lst (.st [(.i .i8), (.i .u16)]) a0, .v (.int .i64 a1), .lst (.st [(.i .i8), (.i .i16)]) a2] => ⟨Int, s_sl07Fault a0 a1 a2, fun r => .one (.v (.int .i64 r))⟩
  | _ => ACall.fail
theorem f_sl07Fault_sound : Sound Try.prog 156 c_sl07Fault := by
  refine sound_good f_sl07Fault_ctx f_sl07Fault_LV 3 Try.func156 (c := f_sl07Fault_c) (by kernel_rfl) (rv := f_sl07Fault_rv) (by kernel_rfl) (by kernel_rfl) (by kernel_rfl) (by kernel_rfl) fun rs => ?_
  unfold c_sl07Fault
  split
  · rename_i a0 a1 a2; intro v h; exact ⟨rfl, l_sl07Fault v, rfl, (f_sl07Fault_top a0 a1 a2 _).trans (s_sl07Fault_ok a0 a1 a2 v h)⟩
  · intro v h; cases h

/-! ### function 170: loop.example/g01322/spec.l07Plan -/
noncomputable def f_sl07Plan_c : Code := match Try.f170.body with | some c => c | none => .skip
noncomputable def f_sl07Plan_X : Ctx := ⟨TT, phiOf [(156, c_sl07Fault)], noPsi, noXi⟩
def f_sl07Plan_LV : List (Nat × Keep) := []
def f_sl07Plan_rv : List ResultVar := [.tmp 6]
noncomputable def f_sl07Plan_L (r : List A) : Nat → AS → Option (List A) := L f_sl07Plan_X (cnOf f_sl07Plan_LV) f_sl07Plan_c (K0 TT f_sl07Plan_rv) r
theorem f_sl07Plan_ctx : CtxOK Try.prog f_sl07Plan_X := ctx_of tab mix ⟨⟨Try.call156, f_sl07Fault_sound⟩, trivial⟩
noncomputable def s_sl07Plan (a0 : (List (Int × Int))) (a1 : Int) (a2 : (List (Int × Int))) : Option Bool := (cond (((List.length a2 : Nat) : Int) == ((List.length a0 : Nat) : Int)) (Option.bind (s_sl07Fault a0 a1 a2) fun r1 => (some (decide (r1 < 0)))) (some false))
theorem f_sl07Plan_top (a0 : (List (Int × Int))) (a1 : Int) (a2 : (List (Int × Int))) (r : List A) : ev f_sl07Plan_X (lpc (cnOf f_sl07Plan_LV) (f_sl07Plan_L r)) f_sl07Plan_c (K0 TT f_sl07Plan_rv) (enter [.lst (.st [(.i .i8), (.i .u16)]) a0, .v (.int .i64 a1), .lst (.st [(.i .i8), (.i .i16)]) a2]) = (cond (((List.length a2 : Nat) : Int) == ((List.length a0 : Nat) : Int)) (Option.bind (s_sl07Fault a0 a1 a2) fun r1 => (some [.v (.bool (decide (r1 < 0)))])) (some [.v (.bool false)])) := by kernel_rfl
noncomputable def l_sl07Plan (r : Bool) : List A := [.v (.bool r)]
theorem s_sl07Plan_ok (a0 : (List (Int × Int))) (a1 : Int) (a2 : (List (Int × Int))) (v : Bool) (h : s_sl07Plan a0 a1 a2 = some v) : (cond (((List.length a2 : Nat) : Int) == ((List.length a0 : Nat) : Int)) (Option.bind (s_sl07Fault a0 a1 a2) fun r1 => (some [.v (.bool (decide (r1 < 0)))])) (some [.v (.bool false)])) = some (l_sl07Plan v) := by
  have e : (cond (((List.length a2 : Nat) : Int) == ((List.length a0 : Nat) : Int)) (Option.bind (s_sl07Fault a0 a1 a2) fun r1 => (some [.v (.bool (decide (r1 < 0)))])) (some [.v (.bool false)])) = Option.map l_sl07Plan (s_sl07Plan a0 a1 a2) := by
    unfold s_sl07Plan
    exact (cond_app (Option.map l_sl07Plan) (bind_app fun _ => rfl) rfl)
  rw [e, h]; rfl
noncomputable def c_sl07Plan : List A → ACall
  | [.lst (.st [(.i .i8), (.i .u16)]) a0, .v (.int .i64 a1), .lst (.st [(.i .i8), (.i .i16)]) a2] => ⟨Bool, s_sl07Plan a0 a1 a2, fun r => .one (.v (.bool r))⟩
  | _ => ACall.fail
theorem f_sl07Plan_sound : Sound Try.prog 170 c_sl07Plan := by
  refine sound_good f_sl07Plan_ctx f_sl07Plan_LV 3 Try.func170 (c := f_sl07Plan_c) (by kernel_rfl) (rv := f_sl07Plan_rv) (by kernel_rfl) (by kernel_rfl) (by kernel_rfl) (by kernel_rfl) fun rs => ?_
  unfold c_sl07Plan
  split
  · rename_i a0 a1 a2; intro v h; exact ⟨rfl, l_sl07Plan v, rfl, (f_sl07Plan_top a0 a1 a2 _).trans (s_sl07Plan_ok a0 a1 a2 v h)⟩
  · intro v h; cases h

/-! ### function 111: loop.example/g01322/spec.l07Planned -/
noncomputable def f_sl07Planned_c : Code := match Try.f111.body with | some c => c | none => .skip
noncomputable def f_sl07Planned_X : Ctx := ⟨TT, phiOf [(105, c_sl07Ok), (169, c_sl07Hands), (170, c_sl07Plan)], noPsi, noXi⟩
def f_sl07Planned_LV : List (Nat × Keep) := []
def f_sl07Planned_rv : List ResultVar := [.tmp 6]
noncomputable def f_sl07Planned_L (r : List A) : Nat → AS → Option (List A) := L f_sl07Planned_X (cnOf f_sl07Planned_LV) f_sl07Planned_c (K0 TT f_sl07Planned_rv) r
theorem f_sl07Planned_ctx : CtxOK Try.prog f_sl07Planned_X := ctx_of tab mix ⟨⟨Try.call105, f_sl07Ok_sound⟩, ⟨Try.call169, f_sl07Hands_sound⟩, ⟨Try.call170, f_sl07Plan_sound⟩, trivial⟩
noncomputable def s_sl07Planned (a0 : (List (Int × Int))) (a1 : Int) (a2 : (List (Int × Int))) : Option Int := (Option.bind (s_sl07Ok a0) fun r1 => (cond (!r1) (some 1) (cond (!(s_sl07Hands a1)) (some 2) (Option.bind (s_sl07Plan a0 a1 a2) fun r2 => (cond (!r2) (some 1) (some 0))))))
theorem f_sl07Planned_top (a0 : (List (Int × Int))) (a1 : Int) (a2 : (List (Int × Int))) (r : List A) : ev f_sl07Planned_X (lpc (cnOf f_sl07Planned_LV) (f_sl07Planned_L r)) f_sl07Planned_c (K0 TT f_sl07Planned_rv) (enter [.lst (.st [(.i .i8), (.i .u16)]) a0, .v (.int .i64 a1), .lst (.st [(.i .i8), (.i .i16)]) a2]) = (Option.bind (s_sl07Ok a0) fun r1 => (cond (!r1) (some [.v (.int .i64 1)]) (cond (!(s_sl07Hands a1)) (some [.v (.int .i64 2)]) (Option.bind (s_sl07Plan a0 a1 a2) fun r2 => (cond (!r2) (some [.v (.int .i64 1)]) (some [.v (.int .i64 0)])))))) := by kernel_rfl
noncomputable def l_sl07Planned (r : Int) : List A := [.v (.int .i64 r)]
theorem s_sl07Planned_ok (a0 : (List (Int × Int))) (a1 : Int) (a2 : (List (Int × Int))) (v : Int) (h : s_sl07Planned a0 a1 a2 = some v) : (Option.bind (s_sl07Ok a0) fun r1 => (cond (!r1) (some [.v (.int .i64 1)]) (cond (!(s_sl07Hands a1)) (some [.v (.int .i64 2)]) (Option.bind (s_sl07Plan a0 a1 a2) fun r2 => (cond (!r2) (some [.v (.int .i64 1)]) (some [.v (.int .i64 0)])))))) = some (l_sl07Planned v) := by
  have e : (Option.bind (s_sl07Ok a0) fun r1 => (cond (!r1) (some [.v (.int .i64 1)]) (cond (!(s_sl07Hands a1)) (some [.v (.int .i64 2)]) (Option.bind (s_sl07Plan a0 a1 a2) fun r2 => (cond (!r2) (some [.v (.int .i64 1)]) (some [.v (.int .i64 0)])))))) = Option.map l_sl07Planned (s_sl07Planned a0 a1 a2) := by
    unfold s_sl07Planned
    exact (bind_app fun _ => (cond_app (Option.map l_sl07Planned) rfl (cond_app (Option.map l_sl07Planned) rfl (bind_app fun _ => (cond_app (Option.map l_sl07Planned) rfl rfl)))))
  rw [e, h]; rfl
noncomputable def c_sl07Planned : List A → ACall
  | [.lst (.st [(.i .i8), (.i .u16)]) a0, .v (.int .i64 a1), .lst (.st [(.i .i8), (.i .i16)]) a2] => ⟨Int, s_sl07Planned a0 a1 a2, fun r => .one (.v (.int .i64 r))⟩
  | _ => ACall.fail
theorem f_sl07Planned_sound : Sound Try.prog 111 c_sl07Planned := by
  refine sound_good f_sl07Planned_ctx f_sl07Planned_LV 3 Try.func111 (c := f_sl07Planned_c) (by kernel_rfl) (rv := f_sl07Planned_rv) (by kernel_rfl) (by kernel_rfl) (by kernel_rfl) (by kernel_rfl) fun rs => ?_
  unfold c_sl07Planned
  split
  · rename_i a0 a1 a2; intro v h; exact ⟨rfl, l_sl07Planned v, rfl, (f_sl07Planned_top a0 a1 a2 _).trans (s_sl07Planned_ok a0 a1 a2 v h)⟩
  · intro v h; cases h

/-! ### function 112: loop.example/g01322/spec.l07Length -/
noncomputable def f_sl07Length_c : Code := match Try.f112.body with | some c => c | none => .skip
noncomputable def f_sl07Length_X : Ctx := ⟨TT, phiOf [(152, c_sl07Done), (171, c_sl00Max)], noPsi, noXi⟩
def f_sl07Length_LV : List (Nat × Keep) := [(3, ([0, 1, 5, 6], [], []))]
def f_sl07Length_rv : List ResultVar := [.tmp 4]
noncomputable def f_sl07Length_L (r : List A) : Nat → AS → Option (List A) := L f_sl07Length_X (cnOf f_sl07Length_LV) f_sl07Length_c (K0 TT f_sl07Length_rv) r
theorem f_sl07Length_ctx : CtxOK Try.prog f_sl07Length_X := ctx_of tab mix ⟨⟨Try.call152, f_sl07Done_sound⟩, ⟨Try.call171, f_sl00Max_sound⟩, trivial⟩
noncomputable def f_sl07Length_s3 (x0 : Int) (x1 : Int) (x2 : (List (Int × Int))) (x3 : (List (Int × Int))) : AS := ⟨[(0, .a (.sl 0)), (1, .a (.sl 1)), (5, .a (.v (.int .i64 x0))), (6, .a (.v (.int .i64 x1)))], [(0, some ⟨false, .arr (.st [(.i .i8), (.i .u16)]) x2⟩), (1, some ⟨false, .arr (.st [(.i .i8), (.i .i16)]) x3⟩)], 2⟩
noncomputable def l_sl07Length (r : Int) : List A := [.v (.int .i64 r)]
theorem f_sl07Length_step3 (x0 : Int) (x1 : Int) (x2 : (List (Int × Int))) (x3 : (List (Int × Int))) (r : List A) (h : (cond (decide (x1 < ((List.length x2 : Nat) : Int))) (Option.bind (s_sl07Done x2 x3 x1) fun r1 => (f_sl07Length_L r 3 (f_sl07Length_s3 (s_sl00Max x0 r1) (IntKind.wrap .i64 (x1 + 1)) x2 x3))) (some [.v (.int .i64 x0)])) = some r) : f_sl07Length_L r 3 (f_sl07Length_s3 x0 x1 x2 x3) = some r :=
  step_of' h (by kernel_rfl)
noncomputable def f_sl07Length_n3 (x0 : Int) (x1 : Int) (x2 : (List (Int × Int))) (x3 : (List (Int × Int))) : Option ((Int × Int × (List (Int × Int)) × (List (Int × Int))) ⊕ Int) := (cond (decide (x1 < ((List.length x2 : Nat) : Int))) (Option.bind (s_sl07Done x2 x3 x1) fun r1 => (some (Sum.inl ((s_sl00Max x0 r1), (IntKind.wrap .i64 (x1 + 1)), x2, x3)))) (some (Sum.inr x0)))
noncomputable def f_sl07Length_run3 (x : (Int × Int × (List (Int × Int)) × (List (Int × Int)))) : Option Int := iter (fun x => f_sl07Length_n3 x.1 x.2.1 x.2.2.1 x.2.2.2) FU x
noncomputable def f_sl07Length_G3 (r : List A) (x : (Int × Int × (List (Int × Int)) × (List (Int × Int)))) : Prop := f_sl07Length_L r 3 (f_sl07Length_s3 x.1 x.2.1 x.2.2.1 x.2.2.2) = some r
noncomputable def f_sl07Length_S3 (r : List A) : Int → Prop := fun v => r = l_sl07Length v
theorem f_sl07Length_go3 (r : List A) : ∀ x, sem (f_sl07Length_S3 r) (f_sl07Length_run3 x) → f_sl07Length_G3 r x :=
  fun x => iter_sound (step := fun x => f_sl07Length_n3 x.1 x.2.1 x.2.2.1 x.2.2.2) (fun x h => by
    unfold f_sl07Length_n3 at h
    exact f_sl07Length_step3 x.1 x.2.1 x.2.2.1 x.2.2.2 r ((sem_cond h (fun h => (sem_bind h fun r1 h => sem_got h fun q => q)) (fun h => sem_got h fun q => some_eq q)))) FU x
noncomputable def s_sl07Length (a0 : (List (Int × Int))) (a1 : (List (Int × Int))) : Option Int := (f_sl07Length_run3 (0, 0, a0, a1))
theorem f_sl07Length_top (a0 : (List (Int × Int))) (a1 : (List (Int × Int))) (r : List A) : ev f_sl07Length_X (lpc (cnOf f_sl07Length_LV) (f_sl07Length_L r)) f_sl07Length_c (K0 TT f_sl07Length_rv) (enter [.lst (.st [(.i .i8), (.i .u16)]) a0, .lst (.st [(.i .i8), (.i .i16)]) a1]) = (f_sl07Length_L r 3 (f_sl07Length_s3 0 0 a0 a1)) := by kernel_rfl
theorem s_sl07Length_ok (a0 : (List (Int × Int))) (a1 : (List (Int × Int))) (v : Int) (h : s_sl07Length a0 a1 = some v) : (f_sl07Length_L (l_sl07Length v) 3 (f_sl07Length_s3 0 0 a0 a1)) = some (l_sl07Length v) := by
  unfold s_sl07Length at h
  have go : ∀ r, sem (fun v => r = l_sl07Length v) ((f_sl07Length_run3 (0, 0, a0, a1))) → (f_sl07Length_L r 3 (f_sl07Length_s3 0 0 a0 a1)) = some r := fun r h => f_sl07Length_go3 r _ h
  exact go (l_sl07Length v) ⟨v, h, rfl⟩
noncomputable def c_sl07Length : List A → ACall
  | [.lst (.st [(.i .i8), (.i .u16)]) a0, .lst (.st [(.i .i8), (.i .i16)]) a1] => ⟨Int, s_sl07Length a0 a1, fun r => .one (.v (.int .i64 r))⟩
  | _ => ACall.fail
theorem f_sl07Length_sound : Sound Try.prog 112 c_sl07Length := by
  refine sound_good f_sl07Length_ctx f_sl07Length_LV 2 Try.func112 (c := f_sl07Length_c) (by kernel_rfl) (rv := f_sl07Length_rv) (by kernel_rfl) (by kernel_rfl) (by kernel_rfl) (by kernel_rfl) fun rs => ?_
  unfold c_sl07Length
  split
  · rename_i a0 a1; intro v h; exact ⟨rfl, l_sl07Length v, rfl, (f_sl07Length_top a0 a1 _).trans (s_sl07Length_ok a0 a1 v h)⟩
  · intro v h; cases h

/-! ### function 31: loop.example/g01322/spec.IdleDays -/
noncomputable def f_sIdleDays_c : Code := match Try.f31.body with | some c => c | none => .skip
noncomputable def f_sIdleDays_X : Ctx := ⟨TT, phiOf [(111, c_sl07Planned), (112, c_sl07Length)], noPsi, noXi⟩
def f_sIdleDays_LV : List (Nat × Keep) := [(6, ([0, 1, 2, 9, 10], [], [])), (10, ([0, 2, 9, 11], [], []))]
def f_sIdleDays_rv : List ResultVar := [.tmp 6, .tmp 7]
noncomputable def f_sIdleDays_L (r : List A) : Nat → AS → Option (List A) := L f_sIdleDays_X (cnOf f_sIdleDays_LV) f_sIdleDays_c (K0 TT f_sIdleDays_rv) r
theorem f_sIdleDays_ctx : CtxOK Try.prog f_sIdleDays_X := ctx_of tab mix ⟨⟨Try.call111, f_sl07Planned_sound⟩, ⟨Try.call112, f_sl07Length_sound⟩, trivial⟩
noncomputable def f_sIdleDays_s6 (x0 : Int) (x1 : Int) (x2 : (List (Int × Int))) (x3 : (List (Int × Int))) (x4 : (List Int)) : AS := ⟨[(0, .a (.sl 0)), (1, .a (.v (.int .i64 x0))), (2, .a (.sl 1)), (9, .a (.sl 2)), (10, .a (.v (.int .i64 x1)))], [(0, some ⟨false, .arr (.st [(.i .i8), (.i .u16)]) x2⟩), (1, some ⟨false, .arr (.st [(.i .i8), (.i .i16)]) x3⟩), (2, some ⟨true, .arr (.one (.i .i64)) x4⟩)], 3⟩
noncomputable def f_sIdleDays_s10 (x0 : Int) (x1 : (List (Int × Int))) (x2 : (List (Int × Int))) (x3 : (List Int)) : AS := ⟨[(0, .a (.sl 0)), (2, .a (.sl 1)), (9, .a (.sl 2)), (11, .a (.v (.int .i64 x0)))], [(0, some ⟨false, .arr (.st [(.i .i8), (.i .u16)]) x1⟩), (1, some ⟨false, .arr (.st [(.i .i8), (.i .i16)]) x2⟩), (2, some ⟨true, .arr (.one (.i .i64)) x3⟩)], 3⟩
noncomputable def l_sIdleDays (r : ((List Int) × Int)) : List A := [.lst (.one (.i .i64)) r.1, .v (.int .i64 r.2)]
theorem f_sIdleDays_step10 (x0 : Int) (x1 : (List (Int × Int))) (x2 : (List (Int × Int))) (x3 : (List Int)) (r : List A) (h : (cond (decide (x0 < ((List.length x1 : Nat) : Int))) (cond (inB x0 (List.length x2)) (cond (inB (List.getD x2 (Int.toNat x0) ((0, 0) : (Int × Int))).1 (List.length x3)) (cond (inB x0 (List.length x1)) (cond (inB (List.getD x2 (Int.toNat x0) ((0, 0) : (Int × Int))).1 (List.length x3)) (f_sIdleDays_L r 10 (f_sIdleDays_s10 (IntKind.wrap .i64 (x0 + 1)) x1 x2 (List.set x3 (Int.toNat (List.getD x2 (Int.toNat x0) ((0, 0) : (Int × Int))).1) (IntKind.wrap .i64 ((List.getD x3 (Int.toNat (List.getD x2 (Int.toNat x0) ((0, 0) : (Int × Int))).1) 0) - (IntKind.wrap .i64 (List.getD x1 (Int.toNat x0) ((0, 0) : (Int × Int))).1)))))) none) none) none) none) (some [.lst (.one (.i .i64)) x3, .v (.int .i64 0)])) = some r) : f_sIdleDays_L r 10 (f_sIdleDays_s10 x0 x1 x2 x3) = some r :=
  step_of' h (by kernel_rfl)
noncomputable def f_sIdleDays_n10 (x0 : Int) (x1 : (List (Int × Int))) (x2 : (List (Int × Int))) (x3 : (List Int)) : Option ((Int × (List (Int × Int)) × (List (Int × Int)) × (List Int)) ⊕ ((List Int) × Int)) := (cond (decide (x0 < ((List.length x1 : Nat) : Int))) (cond (inB x0 (List.length x2)) (cond (inB (List.getD x2 (Int.toNat x0) ((0, 0) : (Int × Int))).1 (List.length x3)) (cond (inB x0 (List.length x1)) (cond (inB (List.getD x2 (Int.toNat x0) ((0, 0) : (Int × Int))).1 (List.length x3)) (some (Sum.inl ((IntKind.wrap .i64 (x0 + 1)), x1, x2, (List.set x3 (Int.toNat (List.getD x2 (Int.toNat x0) ((0, 0) : (Int × Int))).1) (IntKind.wrap .i64 ((List.getD x3 (Int.toNat (List.getD x2 (Int.toNat x0) ((0, 0) : (Int × Int))).1) 0) - (IntKind.wrap .i64 (List.getD x1 (Int.toNat x0) ((0, 0) : (Int × Int))).1))))))) none) none) none) none) (some (Sum.inr (x3, 0))))
noncomputable def f_sIdleDays_run10 (x : (Int × (List (Int × Int)) × (List (Int × Int)) × (List Int))) : Option ((List Int) × Int) := iter (fun x => f_sIdleDays_n10 x.1 x.2.1 x.2.2.1 x.2.2.2) FU x
noncomputable def f_sIdleDays_G10 (r : List A) (x : (Int × (List (Int × Int)) × (List (Int × Int)) × (List Int))) : Prop := f_sIdleDays_L r 10 (f_sIdleDays_s10 x.1 x.2.1 x.2.2.1 x.2.2.2) = some r
theorem f_sIdleDays_step6 (x0 : Int) (x1 : Int) (x2 : (List (Int × Int))) (x3 : (List (Int × Int))) (x4 : (List Int)) (r : List A) (h : (cond (decide (x1 < x0)) (Option.bind (s_sl07Length x2 x3) fun r2 => (cond (fits ((List.length (x4 : List Int) + List.length ([r2] : List Int)) * 8)) (f_sIdleDays_L r 6 (f_sIdleDays_s6 x0 (IntKind.wrap .i64 (x1 + 1)) x2 x3 (x4 ++ [r2]))) none)) (f_sIdleDays_L r 10 (f_sIdleDays_s10 0 x2 x3 x4))) = some r) : f_sIdleDays_L r 6 (f_sIdleDays_s6 x0 x1 x2 x3 x4) = some r :=
  step_of' h (by kernel_rfl)
noncomputable def f_sIdleDays_n6 (x0 : Int) (x1 : Int) (x2 : (List (Int × Int))) (x3 : (List (Int × Int))) (x4 : (List Int)) : Option ((Int × Int × (List (Int × Int)) × (List (Int × Int)) × (List Int)) ⊕ ((List Int) × Int)) := (cond (decide (x1 < x0)) (Option.bind (s_sl07Length x2 x3) fun r2 => (cond (fits ((List.length (x4 : List Int) + List.length ([r2] : List Int)) * 8)) (some (Sum.inl (x0, (IntKind.wrap .i64 (x1 + 1)), x2, x3, (x4 ++ [r2])))) none)) (Option.map (fun x => (Sum.inr x)) (f_sIdleDays_run10 (0, x2, x3, x4))))
noncomputable def f_sIdleDays_run6 (x : (Int × Int × (List (Int × Int)) × (List (Int × Int)) × (List Int))) : Option ((List Int) × Int) := iter (fun x => f_sIdleDays_n6 x.1 x.2.1 x.2.2.1 x.2.2.2.1 x.2.2.2.2) FU x
noncomputable def f_sIdleDays_G6 (r : List A) (x : (Int × Int × (List (Int × Int)) × (List (Int × Int)) × (List Int))) : Prop := f_sIdleDays_L r 6 (f_sIdleDays_s6 x.1 x.2.1 x.2.2.1 x.2.2.2.1 x.2.2.2.2) = some r
noncomputable def f_sIdleDays_S10 (r : List A) : ((List Int) × Int) → Prop := fun v => r = l_sIdleDays v
noncomputable def f_sIdleDays_S6 (r : List A) : ((List Int) × Int) → Prop := fun v => r = l_sIdleDays v
theorem f_sIdleDays_go10 (r : List A) : ∀ x, sem (f_sIdleDays_S10 r) (f_sIdleDays_run10 x) → f_sIdleDays_G10 r x :=
  fun x => iter_sound (step := fun x => f_sIdleDays_n10 x.1 x.2.1 x.2.2.1 x.2.2.2) (fun x h => by
    unfold f_sIdleDays_n10 at h
    exact f_sIdleDays_step10 x.1 x.2.1 x.2.2.1 x.2.2.2 r ((sem_cond h (fun h => (sem_cond h (fun h => (sem_cond h (fun h => (sem_cond h (fun h => (sem_cond h (fun h => sem_got h fun q => q) (fun h => sem_none h))) (fun h => sem_none h))) (fun h => sem_none h))) (fun h => sem_none h))) (fun h => sem_got h fun q => some_eq q)))) FU x
theorem f_sIdleDays_go6 (r : List A) : ∀ x, sem (f_sIdleDays_S6 r) (f_sIdleDays_run6 x) → f_sIdleDays_G6 r x :=
  fun x => iter_sound (step := fun x => f_sIdleDays_n6 x.1 x.2.1 x.2.2.1 x.2.2.2.1 x.2.2.2.2) (fun x h => by
    unfold f_sIdleDays_n6 at h
    exact f_sIdleDays_step6 x.1 x.2.1 x.2.2.1 x.2.2.2.1 x.2.2.2.2 r ((sem_cond h (fun h => (sem_bind h fun r2 h => (sem_cond h (fun h => sem_got h fun q => q) (fun h => sem_none h)))) (fun h => f_sIdleDays_go10 r _ (sem_mapk h fun _ q => q))))) FU x
noncomputable def s_sIdleDays (a0 : (List (Int × Int))) (a1 : Int) (a2 : (List (Int × Int))) : Option ((List Int) × Int) := (Option.bind (s_sl07Planned a0 a1 a2) fun r1 => (cond (r1 != 0) (some ([], r1)) (f_sIdleDays_run6 (a1, 0, a0, a2, []))))
theorem f_sIdleDays_top (a0 : (List (Int × Int))) (a1 : Int) (a2 : (List (Int × Int))) (r : List A) : ev f_sIdleDays_X (lpc (cnOf f_sIdleDays_LV) (f_sIdleDays_L r)) f_sIdleDays_c (K0 TT f_sIdleDays_rv) (enter [.lst (.st [(.i .i8), (.i .u16)]) a0, .v (.int .i64 a1), .lst (.st [(.i .i8), (.i .i16)]) a2]) = (Option.bind (s_sl07Planned a0 a1 a2) fun r1 => (cond (r1 != 0) (some [.lst (.one (.i .i64)) [], .v (.int .i64 r1)]) (f_sIdleDays_L r 6 (f_sIdleDays_s6 a1 0 a0 a2 [])))) := by kernel_rfl
theorem s_sIdleDays_ok (a0 : (List (Int × Int))) (a1 : Int) (a2 : (List (Int × Int))) (v : ((List Int) × Int)) (h : s_sIdleDays a0 a1 a2 = some v) : (Option.bind (s_sl07Planned a0 a1 a2) fun r1 => (cond (r1 != 0) (some [.lst (.one (.i .i64)) [], .v (.int .i64 r1)]) (f_sIdleDays_L (l_sIdleDays v) 6 (f_sIdleDays_s6 a1 0 a0 a2 [])))) = some (l_sIdleDays v) := by
  unfold s_sIdleDays at h
  have go : ∀ r, sem (fun v => r = l_sIdleDays v) ((Option.bind (s_sl07Planned a0 a1 a2) fun r1 => (cond (r1 != 0) (some ([], r1)) (f_sIdleDays_run6 (a1, 0, a0, a2, []))))) → (Option.bind (s_sl07Planned a0 a1 a2) fun r1 => (cond (r1 != 0) (some [.lst (.one (.i .i64)) [], .v (.int .i64 r1)]) (f_sIdleDays_L r 6 (f_sIdleDays_s6 a1 0 a0 a2 [])))) = some r := fun r h => (sem_bind h fun r1 h => (sem_cond h (fun h => sem_got h fun q => some_eq q) (fun h => f_sIdleDays_go6 r _ h)))
  exact go (l_sIdleDays v) ⟨v, h, rfl⟩
noncomputable def c_sIdleDays : List A → ACall
  | [.lst (.st [(.i .i8), (.i .u16)]) a0, .v (.int .i64 a1), .lst (.st [(.i .i8), (.i .i16)]) a2] => ⟨((List Int) × Int), s_sIdleDays a0 a1 a2, fun r => .tup [.lst (.one (.i .i64)) r.1, .v (.int .i64 r.2)]⟩
  | _ => ACall.fail
theorem f_sIdleDays_sound : Sound Try.prog 31 c_sIdleDays := by
  refine sound_good f_sIdleDays_ctx f_sIdleDays_LV 3 Try.func31 (c := f_sIdleDays_c) (by kernel_rfl) (rv := f_sIdleDays_rv) (by kernel_rfl) (by kernel_rfl) (by kernel_rfl) (by kernel_rfl) fun rs => ?_
  unfold c_sIdleDays
  split
  · rename_i a0 a1 a2; intro v h; exact ⟨rfl, l_sIdleDays v, rfl, (f_sIdleDays_top a0 a1 a2 _).trans (s_sIdleDays_ok a0 a1 a2 v h)⟩
  · intro v h; cases h

/-! ### function 124: loop.example/g01322/impl.isHands -/
noncomputable def f_iisHands_c : Code := match Try.f124.body with | some c => c | none => .skip
noncomputable def f_iisHands_X : Ctx := ⟨TT, phiOf [(92, c_iwithin)], noPsi, noXi⟩
def f_iisHands_LV : List (Nat × Keep) := []
def f_iisHands_rv : List ResultVar := [.tmp 2]
noncomputable def f_iisHands_L (r : List A) : Nat → AS → Option (List A) := L f_iisHands_X (cnOf f_iisHands_LV) f_iisHands_c (K0 TT f_iisHands_rv) r
theorem f_iisHands_ctx : CtxOK Try.prog f_iisHands_X := ctx_of tab mix ⟨⟨Try.call92, f_iwithin_sound⟩, trivial⟩
noncomputable def s_iisHands (a0 : Int) : Bool := (s_iwithin a0 1 4)
theorem f_iisHands_top (a0 : Int) (r : List A) : ev f_iisHands_X (lpc (cnOf f_iisHands_LV) (f_iisHands_L r)) f_iisHands_c (K0 TT f_iisHands_rv) (enter [.v (.int .i64 a0)]) = (some [.v (.bool (s_iwithin a0 1 4))]) := by kernel_rfl
noncomputable def l_iisHands (r : Bool) : List A := [.v (.bool r)]
theorem s_iisHands_ok (a0 : Int) : (some [.v (.bool (s_iwithin a0 1 4))]) = some (l_iisHands (s_iisHands a0)) := by
  unfold s_iisHands
  exact rfl
noncomputable def c_iisHands : List A → ACall
  | [.v (.int .i64 a0)] => ⟨Bool, some (s_iisHands a0), fun r => .one (.v (.bool r))⟩
  | _ => ACall.fail
theorem f_iisHands_sound : Sound Try.prog 124 c_iisHands := by
  refine sound_good f_iisHands_ctx f_iisHands_LV 1 Try.func124 (c := f_iisHands_c) (by kernel_rfl) (rv := f_iisHands_rv) (by kernel_rfl) (by kernel_rfl) (by kernel_rfl) (by kernel_rfl) fun rs => ?_
  unfold c_iisHands
  split
  · rename_i a0; intro v h; cases h; exact ⟨rfl, l_iisHands (s_iisHands a0), rfl, (f_iisHands_top a0 _).trans (s_iisHands_ok a0)⟩
  · intro v h; cases h

/-! ### function 201: loop.example/g01322/impl.isSlot -/
noncomputable def f_iisSlot_c : Code := match Try.f201.body with | some c => c | none => .skip
noncomputable def f_iisSlot_X : Ctx := ⟨TT, phiOf [(92, c_iwithin)], noPsi, noXi⟩
def f_iisSlot_LV : List (Nat × Keep) := []
def f_iisSlot_rv : List ResultVar := [.tmp 4]
noncomputable def f_iisSlot_L (r : List A) : Nat → AS → Option (List A) := L f_iisSlot_X (cnOf f_iisSlot_LV) f_iisSlot_c (K0 TT f_iisSlot_rv) r
theorem f_iisSlot_ctx : CtxOK Try.prog f_iisSlot_X := ctx_of tab mix ⟨⟨Try.call92, f_iwithin_sound⟩, trivial⟩
noncomputable def s_iisSlot (a0 : Int) (a1 : Int) (a2 : Int) : Bool := (cond (s_iwithin (IntKind.wrap .i64 a0) 0 (IntKind.wrap .i64 (a2 - 1))) (s_iwithin (IntKind.wrap .i64 a1) 0 1000) false)
theorem f_iisSlot_top (a0 : Int) (a1 : Int) (a2 : Int) (r : List A) : ev f_iisSlot_X (lpc (cnOf f_iisSlot_LV) (f_iisSlot_L r)) f_iisSlot_c (K0 TT f_iisSlot_rv) (enter [.rc [.v (.int .i8 a0), .v (.int .i16 a1)], .v (.int .i64 a2)]) = (cond (s_iwithin (IntKind.wrap .i64 a0) 0 (IntKind.wrap .i64 (a2 - 1))) (some [.v (.bool (s_iwithin (IntKind.wrap .i64 a1) 0 1000))]) (some [.v (.bool false)])) := by kernel_rfl
noncomputable def l_iisSlot (r : Bool) : List A := [.v (.bool r)]
theorem s_iisSlot_ok (a0 : Int) (a1 : Int) (a2 : Int) : (cond (s_iwithin (IntKind.wrap .i64 a0) 0 (IntKind.wrap .i64 (a2 - 1))) (some [.v (.bool (s_iwithin (IntKind.wrap .i64 a1) 0 1000))]) (some [.v (.bool false)])) = some (l_iisSlot (s_iisSlot a0 a1 a2)) := by
  unfold s_iisSlot
  exact (cond_app (fun x => some (l_iisSlot x)) rfl rfl)
noncomputable def c_iisSlot : List A → ACall
  | [.rc [.v (.int .i8 a0), .v (.int .i16 a1)], .v (.int .i64 a2)] => ⟨Bool, some (s_iisSlot a0 a1 a2), fun r => .one (.v (.bool r))⟩
  | _ => ACall.fail
theorem f_iisSlot_sound : Sound Try.prog 201 c_iisSlot := by
  refine sound_good f_iisSlot_ctx f_iisSlot_LV 2 Try.func201 (c := f_iisSlot_c) (by kernel_rfl) (rv := f_iisSlot_rv) (by kernel_rfl) (by kernel_rfl) (by kernel_rfl) (by kernel_rfl) fun rs => ?_
  unfold c_iisSlot
  split
  · rename_i a0 a1 a2; intro v h; cases h; exact ⟨rfl, l_iisSlot (s_iisSlot a0 a1 a2), rfl, (f_iisSlot_top a0 a1 a2 _).trans (s_iisSlot_ok a0 a1 a2)⟩
  · intro v h; cases h

/-! ### function 149: loop.example/g01322/impl.done -/
noncomputable def f_idone_c : Code := match Try.f149.body with | some c => c | none => .skip
noncomputable def f_idone_X : Ctx := ⟨TT, phiOf [], noPsi, noXi⟩
def f_idone_LV : List (Nat × Keep) := []
def f_idone_rv : List ResultVar := [.tmp 4]
noncomputable def f_idone_L (r : List A) : Nat → AS → Option (List A) := L f_idone_X (cnOf f_idone_LV) f_idone_c (K0 TT f_idone_rv) r
theorem f_idone_ctx : CtxOK Try.prog f_idone_X := ctx_of tab mix trivial
noncomputable def s_idone (a0 : Int) (a1 : Int) (a2 : Int) (a3 : Int) : Int := (IntKind.wrap .i64 ((IntKind.wrap .i64 a3) + (IntKind.wrap .i64 a0)))
theorem f_idone_top (a0 : Int) (a1 : Int) (a2 : Int) (a3 : Int) (r : List A) : ev f_idone_X (lpc (cnOf f_idone_LV) (f_idone_L r)) f_idone_c (K0 TT f_idone_rv) (enter [.rc [.v (.int .i8 a0), .v (.int .u16 a1)], .rc [.v (.int .i8 a2), .v (.int .i16 a3)]]) = (some [.v (.int .i64 (IntKind.wrap .i64 ((IntKind.wrap .i64 a3) + (IntKind.wrap .i64 a0))))]) := by kernel_rfl
noncomputable def l_idone (r : Int) : List A := [.v (.int .i64 r)]
theorem s_idone_ok (a0 : Int) (a1 : Int) (a2 : Int) (a3 : Int) : (some [.v (.int .i64 (IntKind.wrap .i64 ((IntKind.wrap .i64 a3) + (IntKind.wrap .i64 a0))))]) = some (l_idone (s_idone a0 a1 a2 a3)) := by
  unfold s_idone
  exact rfl
noncomputable def c_idone : List A → ACall
  | [.rc [.v (.int .i8 a0), .v (.int .u16 a1)], .rc [.v (.int .i8 a2), .v (.int .i16 a3)]] => ⟨Int, some (s_idone a0 a1 a2 a3), fun r => .one (.v (.int .i64 r))⟩
  | _ => ACall.fail
theorem f_idone_sound : Sound Try.prog 149 c_idone := by
  refine sound_good f_idone_ctx f_idone_LV 2 Try.func149 (c := f_idone_c) (by kernel_rfl) (rv := f_idone_rv) (by kernel_rfl) (by kernel_rfl) (by kernel_rfl) (by kernel_rfl) fun rs => ?_
  unfold c_idone
  split
  · rename_i a0 a1 a2 a3; intro v h; cases h; exact ⟨rfl, l_idone (s_idone a0 a1 a2 a3), rfl, (f_idone_top a0 a1 a2 a3 _).trans (s_idone_ok a0 a1 a2 a3)⟩
  · intro v h; cases h

/-! ### function 200: loop.example/g01322/impl.wrong$1 -/
noncomputable def f_iwrong_1_c : Code := match Try.f200.body with | some c => c | none => .skip
noncomputable def f_iwrong_1_X : Ctx := ⟨TT, phiOf [(149, c_idone), (194, c_iJob_waits), (201, c_iisSlot)], noPsi, noXi⟩
def f_iwrong_1_LV : List (Nat × Keep) := [(5, ([0, 2, 3, 6, 17, 18, 19], [], []))]
def f_iwrong_1_rv : List ResultVar := [.tmp 5]
noncomputable def f_iwrong_1_L (r : List A) : Nat → AS → Option (List A) := L f_iwrong_1_X (cnOf f_iwrong_1_LV) f_iwrong_1_c (K0 TT f_iwrong_1_rv) r
theorem f_iwrong_1_ctx : CtxOK Try.prog f_iwrong_1_X := ctx_of tab mix ⟨⟨Try.call149, f_idone_sound⟩, ⟨Try.call194, f_iJob_waits_sound⟩, ⟨Try.call201, f_iisSlot_sound⟩, trivial⟩
noncomputable def f_iwrong_1_s5 (x0 : Int) (x1 : Int) (x2 : Int) (x3 : Int) (x4 : (List (Int × Int))) (x5 : Int) (x6 : Int) (x7 : (List (Int × Int))) : AS := ⟨[(0, .a (.v (.int .i64 x0))), (2, .a (.ptr 0 [] (0))), (3, .a (.ptr 1 [] (0))), (6, .a (.ptr 3 [] (0))), (17, .a (.sl 4)), (18, .a (.v (.int .i64 x1))), (19, .a (.v (.int .i64 x2)))], [(0, some ⟨false, .box (.v (.int .i64 x3))⟩), (1, some ⟨false, .box (.sl 2)⟩), (2, some ⟨false, .arr (.st [(.i .i8), (.i .u16)]) x4⟩), (3, some ⟨true, .box (.rc [.v (.int .i8 x5), .v (.int .i16 x6)])⟩), (4, some ⟨false, .arr (.st [(.i .i8), (.i .i16)]) x7⟩)], 5⟩
noncomputable def l_iwrong_1 (r : Bool) : List A := [.v (.bool r)]
theorem f_iwrong_1_step5 (x0 : Int) (x1 : Int) (x2 : Int) (x3 : Int) (x4 : (List (Int × Int))) (x5 : Int) (x6 : Int) (x7 : (List (Int × Int))) (r : List A) (h : (cond (decide (x2 < x1)) (cond (inB x2 (List.length x7)) (cond (!(s_iisSlot (List.getD x7 (Int.toNat x2) ((0, 0) : (Int × Int))).1 (List.getD x7 (Int.toNat x2) ((0, 0) : (Int × Int))).2 x3)) (f_iwrong_1_L r 5 (f_iwrong_1_s5 x0 x1 (IntKind.wrap .i64 (x2 + 1)) x3 x4 x5 x6 x7)) (cond (inB x0 (List.length x4)) (Option.bind (s_iJob_waits (List.getD x4 (Int.toNat x0) ((0, 0) : (Int × Int))).1 (List.getD x4 (Int.toNat x0) ((0, 0) : (Int × Int))).2 x2) fun r1 => (cond r1 (cond (inB x2 (List.length x4)) (cond (decide ((IntKind.wrap .i64 x6) < (s_idone (List.getD x4 (Int.toNat x2) ((0, 0) : (Int × Int))).1 (List.getD x4 (Int.toNat x2) ((0, 0) : (Int × Int))).2 (List.getD x7 (Int.toNat x2) ((0, 0) : (Int × Int))).1 (List.getD x7 (Int.toNat x2) ((0, 0) : (Int × Int))).2))) (some [.v (.bool true)]) (cond (decide (x2 < x0)) (cond ((List.getD x7 (Int.toNat x2) ((0, 0) : (Int × Int))).1 == x5) (cond (inB x2 (List.length x4)) (cond (decide ((IntKind.wrap .i64 x6) < (s_idone (List.getD x4 (Int.toNat x2) ((0, 0) : (Int × Int))).1 (List.getD x4 (Int.toNat x2) ((0, 0) : (Int × Int))).2 (List.getD x7 (Int.toNat x2) ((0, 0) : (Int × Int))).1 (List.getD x7 (Int.toNat x2) ((0, 0) : (Int × Int))).2))) (cond (inB x0 (List.length x4)) (cond (decide ((IntKind.wrap .i64 (List.getD x7 (Int.toNat x2) ((0, 0) : (Int × Int))).2) < (s_idone (List.getD x4 (Int.toNat x0) ((0, 0) : (Int × Int))).1 (List.getD x4 (Int.toNat x0) ((0, 0) : (Int × Int))).2 x5 x6))) (some [.v (.bool true)]) (f_iwrong_1_L r 5 (f_iwrong_1_s5 x0 x1 (IntKind.wrap .i64 (x2 + 1)) x3 x4 x5 x6 x7))) none) (f_iwrong_1_L r 5 (f_iwrong_1_s5 x0 x1 (IntKind.wrap .i64 (x2 + 1)) x3 x4 x5 x6 x7))) none) (f_iwrong_1_L r 5 (f_iwrong_1_s5 x0 x1 (IntKind.wrap .i64 (x2 + 1)) x3 x4 x5 x6 x7))) (f_iwrong_1_L r 5 (f_iwrong_1_s5 x0 x1 (IntKind.wrap .i64 (x2 + 1)) x3 x4 x5 x6 x7)))) none) (cond (decide (x2 < x0)) (cond ((List.getD x7 (Int.toNat x2) ((0, 0) : (Int × Int))).1 == x5) (cond (inB x2 (List.length x4)) (cond (decide ((IntKind.wrap .i64 x6) < (s_idone (List.getD x4 (Int.toNat x2) ((0, 0) : (Int × Int))).1 (List.getD x4 (Int.toNat x2) ((0, 0) : (Int × Int))).2 (List.getD x7 (Int.toNat x2) ((0, 0) : (Int × Int))).1 (List.getD x7 (Int.toNat x2) ((0, 0) : (Int × Int))).2))) (cond (inB x0 (List.length x4)) (cond (decide ((IntKind.wrap .i64 (List.getD x7 (Int.toNat x2) ((0, 0) : (Int × Int))).2) < (s_idone (List.getD x4 (Int.toNat x0) ((0, 0) : (Int × Int))).1 (List.getD x4 (Int.toNat x0) ((0, 0) : (Int × Int))).2 x5 x6))) (some [.v (.bool true)]) (f_iwrong_1_L r 5 (f_iwrong_1_s5 x0 x1 (IntKind.wrap .i64 (x2 + 1)) x3 x4 x5 x6 x7))) none) (f_iwrong_1_L r 5 (f_iwrong_1_s5 x0 x1 (IntKind.wrap .i64 (x2 + 1)) x3 x4 x5 x6 x7))) none) (f_iwrong_1_L r 5 (f_iwrong_1_s5 x0 x1 (IntKind.wrap .i64 (x2 + 1)) x3 x4 x5 x6 x7))) (f_iwrong_1_L r 5 (f_iwrong_1_s5 x0 x1 (IntKind.wrap .i64 (x2 + 1)) x3 x4 x5 x6 x7))))) none)) none) (some [.v (.bool false)])) = some r) : f_iwrong_1_L r 5 (f_iwrong_1_s5 x0 x1 x2 x3 x4 x5 x6 x7) = some r :=
  step_of' h (by kernel_rfl)
noncomputable def f_iwrong_1_n5 (x0 : Int) (x1 : Int) (x2 : Int) (x3 : Int) (x4 : (List (Int × Int))) (x5 : Int) (x6 : Int) (x7 : (List (Int × Int))) : Option ((Int × Int × Int × Int × (List (Int × Int)) × Int × Int × (List (Int × Int))) ⊕ Bool) := (cond (decide (x2 < x1)) (cond (inB x2 (List.length x7)) (cond (!(s_iisSlot (List.getD x7 (Int.toNat x2) ((0, 0) : (Int × Int))).1 (List.getD x7 (Int.toNat x2) ((0, 0) : (Int × Int))).2 x3)) (some (Sum.inl (x0, x1, (IntKind.wrap .i64 (x2 + 1)), x3, x4, x5, x6, x7))) (cond (inB x0 (List.length x4)) (Option.bind (s_iJob_waits (List.getD x4 (Int.toNat x0) ((0, 0) : (Int × Int))).1 (List.getD x4 (Int.toNat x0) ((0, 0) : (Int × Int))).2 x2) fun r1 => (cond r1 (cond (inB x2 (List.length x4)) (cond (decide ((IntKind.wrap .i64 x6) < (s_idone (List.getD x4 (Int.toNat x2) ((0, 0) : (Int × Int))).1 (List.getD x4 (Int.toNat x2) ((0, 0) : (Int × Int))).2 (List.getD x7 (Int.toNat x2) ((0, 0) : (Int × Int))).1 (List.getD x7 (Int.toNat x2) ((0, 0) : (Int × Int))).2))) (some (Sum.inr true)) (cond (decide (x2 < x0)) (cond ((List.getD x7 (Int.toNat x2) ((0, 0) : (Int × Int))).1 == x5) (cond (inB x2 (List.length x4)) (cond (decide ((IntKind.wrap .i64 x6) < (s_idone (List.getD x4 (Int.toNat x2) ((0, 0) : (Int × Int))).1 (List.getD x4 (Int.toNat x2) ((0, 0) : (Int × Int))).2 (List.getD x7 (Int.toNat x2) ((0, 0) : (Int × Int))).1 (List.getD x7 (Int.toNat x2) ((0, 0) : (Int × Int))).2))) (cond (inB x0 (List.length x4)) (cond (decide ((IntKind.wrap .i64 (List.getD x7 (Int.toNat x2) ((0, 0) : (Int × Int))).2) < (s_idone (List.getD x4 (Int.toNat x0) ((0, 0) : (Int × Int))).1 (List.getD x4 (Int.toNat x0) ((0, 0) : (Int × Int))).2 x5 x6))) (some (Sum.inr true)) (some (Sum.inl (x0, x1, (IntKind.wrap .i64 (x2 + 1)), x3, x4, x5, x6, x7)))) none) (some (Sum.inl (x0, x1, (IntKind.wrap .i64 (x2 + 1)), x3, x4, x5, x6, x7)))) none) (some (Sum.inl (x0, x1, (IntKind.wrap .i64 (x2 + 1)), x3, x4, x5, x6, x7)))) (some (Sum.inl (x0, x1, (IntKind.wrap .i64 (x2 + 1)), x3, x4, x5, x6, x7))))) none) (cond (decide (x2 < x0)) (cond ((List.getD x7 (Int.toNat x2) ((0, 0) : (Int × Int))).1 == x5) (cond (inB x2 (List.length x4)) (cond (decide ((IntKind.wrap .i64 x6) < (s_idone (List.getD x4 (Int.toNat x2) ((0, 0) : (Int × Int))).1 (List.getD x4 (Int.toNat x2) ((0, 0) : (Int × Int))).2 (List.getD x7 (Int.toNat x2) ((0, 0) : (Int × Int))).1 (List.getD x7 (Int.toNat x2) ((0, 0) : (Int × Int))).2))) (cond (inB x0 (List.length x4)) (cond (decide ((IntKind.wrap .i64 (List.getD x7 (Int.toNat x2) ((0, 0) : (Int × Int))).2) < (s_idone (List.getD x4 (Int.toNat x0) ((0, 0) : (Int × Int))).1 (List.getD x4 (Int.toNat x0) ((0, 0) : (Int × Int))).2 x5 x6))) (some (Sum.inr true)) (some (Sum.inl (x0, x1, (IntKind.wrap .i64 (x2 + 1)), x3, x4, x5, x6, x7)))) none) (some (Sum.inl (x0, x1, (IntKind.wrap .i64 (x2 + 1)), x3, x4, x5, x6, x7)))) none) (some (Sum.inl (x0, x1, (IntKind.wrap .i64 (x2 + 1)), x3, x4, x5, x6, x7)))) (some (Sum.inl (x0, x1, (IntKind.wrap .i64 (x2 + 1)), x3, x4, x5, x6, x7)))))) none)) none) (some (Sum.inr false)))
noncomputable def f_iwrong_1_run5 (x : (Int × Int × Int × Int × (List (Int × Int)) × Int × Int × (List (Int × Int)))) : Option Bool := iter (fun x => f_iwrong_1_n5 x.1 x.2.1 x.2.2.1 x.2.2.2.1 x.2.2.2.2.1 x.2.2.2.2.2.1 x.2.2.2.2.2.2.1 x.2.2.2.2.2.2.2) FU x
noncomputable def f_iwrong_1_G5 (r : List A) (x : (Int × Int × Int × Int × (List (Int × Int)) × Int × Int × (List (Int × Int)))) : Prop := f_iwrong_1_L r 5 (f_iwrong_1_s5 x.1 x.2.1 x.2.2.1 x.2.2.2.1 x.2.2.2.2.1 x.2.2.2.2.2.1 x.2.2.2.2.2.2.1 x.2.2.2.2.2.2.2) = some r
noncomputable def f_iwrong_1_S5 (r : List A) : Bool → Prop := fun v => r = l_iwrong_1 v
theorem f_iwrong_1_go5 (r : List A) : ∀ x, sem (f_iwrong_1_S5 r) (f_iwrong_1_run5 x) → f_iwrong_1_G5 r x :=
  fun x => iter_sound (step := fun x => f_iwrong_1_n5 x.1 x.2.1 x.2.2.1 x.2.2.2.1 x.2.2.2.2.1 x.2.2.2.2.2.1 x.2.2.2.2.2.2.1 x.2.2.2.2.2.2.2) (fun x h => by
    unfold f_iwrong_1_n5 at h
    exact f_iwrong_1_step5 x.1 x.2.1 x.2.2.1 x.2.2.2.1 x.2.2.2.2.1 x.2.2.2.2.2.1 x.2.2.2.2.2.2.1 x.2.2.2.2.2.2.2 r ((sem_cond h (fun h => (sem_cond h (fun h => (sem_cond h (fun h => sem_got h fun q => q) (fun h => (sem_cond h (fun h => (sem_bind h fun r1 h => (sem_cond h (fun h => (sem_cond h (fun h => (sem_cond h (fun h => sem_got h fun q => some_eq q) (fun h => (sem_cond h (fun h => (sem_cond h (fun h => (sem_cond h (fun h => (sem_cond h (fun h => (sem_cond h (fun h => (sem_cond h (fun h => sem_got h fun q => some_eq q) (fun h => sem_got h fun q => q))) (fun h => sem_none h))) (fun h => sem_got h fun q => q))) (fun h => sem_none h))) (fun h => sem_got h fun q => q))) (fun h => sem_got h fun q => q))))) (fun h => sem_none h))) (fun h => (sem_cond h (fun h => (sem_cond h (fun h => (sem_cond h (fun h => (sem_cond h (fun h => (sem_cond h (fun h => (sem_cond h (fun h => sem_got h fun q => some_eq q) (fun h => sem_got h fun q => q))) (fun h => sem_none h))) (fun h => sem_got h fun q => q))) (fun h => sem_none h))) (fun h => sem_got h fun q => q))) (fun h => sem_got h fun q => q)))))) (fun h => sem_none h))))) (fun h => sem_none h))) (fun h => sem_got h fun q => some_eq q)))) FU x
noncomputable def s_iwrong_1 (a0 : Int) (a1 : (List (Int × Int))) (a2 : Int) (a3 : (List (Int × Int))) : Option Bool := (cond (inB a0 (List.length a1)) (cond (!(s_iisSlot (List.getD a1 (Int.toNat a0) ((0, 0) : (Int × Int))).1 (List.getD a1 (Int.toNat a0) ((0, 0) : (Int × Int))).2 a2)) (some true) (f_iwrong_1_run5 (a0, ((List.length a1 : Nat) : Int), 0, a2, a3, (List.getD a1 (Int.toNat a0) ((0, 0) : (Int × Int))).1, (List.getD a1 (Int.toNat a0) ((0, 0) : (Int × Int))).2, a1))) none)
theorem f_iwrong_1_top (a0 : Int) (a1 : (List (Int × Int))) (a2 : Int) (a3 : (List (Int × Int))) (r : List A) : ev f_iwrong_1_X (lpc (cnOf f_iwrong_1_LV) (f_iwrong_1_L r)) f_iwrong_1_c (K0 TT f_iwrong_1_rv) (enter [.v (.int .i64 a0), .ref (.lst (.st [(.i .i8), (.i .i16)]) a1), .ref (.v (.int .i64 a2)), .ref (.lst (.st [(.i .i8), (.i .u16)]) a3)]) = (cond (inB a0 (List.length a1)) (cond (!(s_iisSlot (List.getD a1 (Int.toNat a0) ((0, 0) : (Int × Int))).1 (List.getD a1 (Int.toNat a0) ((0, 0) : (Int × Int))).2 a2)) (some [.v (.bool true)]) (f_iwrong_1_L r 5 (f_iwrong_1_s5 a0 ((List.length a1 : Nat) : Int) 0 a2 a3 (List.getD a1 (Int.toNat a0) ((0, 0) : (Int × Int))).1 (List.getD a1 (Int.toNat a0) ((0, 0) : (Int × Int))).2 a1))) none) := by kernel_rfl
theorem s_iwrong_1_ok (a0 : Int) (a1 : (List (Int × Int))) (a2 : Int) (a3 : (List (Int × Int))) (v : Bool) (h : s_iwrong_1 a0 a1 a2 a3 = some v) : (cond (inB a0 (List.length a1)) (cond (!(s_iisSlot (List.getD a1 (Int.toNat a0) ((0, 0) : (Int × Int))).1 (List.getD a1 (Int.toNat a0) ((0, 0) : (Int × Int))).2 a2)) (some [.v (.bool true)]) (f_iwrong_1_L (l_iwrong_1 v) 5 (f_iwrong_1_s5 a0 ((List.length a1 : Nat) : Int) 0 a2 a3 (List.getD a1 (Int.toNat a0) ((0, 0) : (Int × Int))).1 (List.getD a1 (Int.toNat a0) ((0, 0) : (Int × Int))).2 a1))) none) = some (l_iwrong_1 v) := by
  unfold s_iwrong_1 at h
  have go : ∀ r, sem (fun v => r = l_iwrong_1 v) ((cond (inB a0 (List.length a1)) (cond (!(s_iisSlot (List.getD a1 (Int.toNat a0) ((0, 0) : (Int × Int))).1 (List.getD a1 (Int.toNat a0) ((0, 0) : (Int × Int))).2 a2)) (some true) (f_iwrong_1_run5 (a0, ((List.length a1 : Nat) : Int), 0, a2, a3, (List.getD a1 (Int.toNat a0) ((0, 0) : (Int × Int))).1, (List.getD a1 (Int.toNat a0) ((0, 0) : (Int × Int))).2, a1))) none)) → (cond (inB a0 (List.length a1)) (cond (!(s_iisSlot (List.getD a1 (Int.toNat a0) ((0, 0) : (Int × Int))).1 (List.getD a1 (Int.toNat a0) ((0, 0) : (Int × Int))).2 a2)) (some [.v (.bool true)]) (f_iwrong_1_L r 5 (f_iwrong_1_s5 a0 ((List.length a1 : Nat) : Int) 0 a2 a3 (List.getD a1 (Int.toNat a0) ((0, 0) : (Int × Int))).1 (List.getD a1 (Int.toNat a0) ((0, 0) : (Int × Int))).2 a1))) none) = some r := fun r h => (sem_cond h (fun h => (sem_cond h (fun h => sem_got h fun q => some_eq q) (fun h => f_iwrong_1_go5 r _ h))) (fun h => sem_none h))
  exact go (l_iwrong_1 v) ⟨v, h, rfl⟩
noncomputable def c_iwrong_1 : List A → ACall
  | [.v (.int .i64 a0), .ref (.lst (.st [(.i .i8), (.i .i16)]) a1), .ref (.v (.int .i64 a2)), .ref (.lst (.st [(.i .i8), (.i .u16)]) a3)] => ⟨Bool, s_iwrong_1 a0 a1 a2 a3, fun r => .one (.v (.bool r))⟩
  | _ => ACall.fail
theorem f_iwrong_1_sound : Sound Try.prog 200 c_iwrong_1 := by
  refine sound_good f_iwrong_1_ctx f_iwrong_1_LV 4 Try.func200 (c := f_iwrong_1_c) (by kernel_rfl) (rv := f_iwrong_1_rv) (by kernel_rfl) (by kernel_rfl) (by kernel_rfl) (by kernel_rfl) fun rs => ?_
  unfold c_iwrong_1
  split
  · rename_i a0 a1 a2 a3; intro v h; exact ⟨rfl, l_iwrong_1 v, rfl, (f_iwrong_1_top a0 a1 a2 a3 _).trans (s_iwrong_1_ok a0 a1 a2 a3 v h)⟩
  · intro v h; cases h

/-! ### function 198: slices.IndexFunc[[]int,int] -/
noncomputable def f_gIndexFunc_int_b_c : Code := match Try.f198.body with | some c => c | none => .skip
noncomputable def f_gIndexFunc_int_b_X : Ctx := ⟨TT, phiOf [(200, c_iwrong_1)], noPsi, noXi⟩
def f_gIndexFunc_int_b_LV : List (Nat × Keep) := [(2, ([0, 1, 7, 8], [], []))]
def f_gIndexFunc_int_b_rv : List ResultVar := [.tmp 4]
noncomputable def f_gIndexFunc_int_b_L (r : List A) : Nat → AS → Option (List A) := L f_gIndexFunc_int_b_X (cnOf f_gIndexFunc_int_b_LV) f_gIndexFunc_int_b_c (K0 TT f_gIndexFunc_int_b_rv) r
theorem f_gIndexFunc_int_b_ctx : CtxOK Try.prog f_gIndexFunc_int_b_X := ctx_of tab mix ⟨⟨Try.call200, f_iwrong_1_sound⟩, trivial⟩
noncomputable def f_gIndexFunc_int_b_s2 (x0 : Int) (x1 : Int) (x2 : (List Int)) (x3 : (List (Int × Int))) (x4 : Int) (x5 : (List (Int × Int))) : AS := ⟨[(0, .a (.sl 0)), (1, .a (.clo 200 [.ptr 1 [] (0), .ptr 3 [] (0), .ptr 4 [] (0)])), (7, .a (.v (.int .i64 x0))), (8, .a (.v (.int .i64 x1)))], [(0, some ⟨false, .arr (.one (.i .i64)) x2⟩), (1, some ⟨false, .box (.sl 2)⟩), (2, some ⟨false, .arr (.st [(.i .i8), (.i .i16)]) x3⟩), (3, some ⟨false, .box (.v (.int .i64 x4))⟩), (4, some ⟨false, .box (.sl 5)⟩), (5, some ⟨false, .arr (.st [(.i .i8), (.i .u16)]) x5⟩)], 6⟩
noncomputable def l_gIndexFunc_int_b (r : Int) : List A := [.v (.int .i64 r)]
theorem f_gIndexFunc_int_b_step2 (x0 : Int) (x1 : Int) (x2 : (List Int)) (x3 : (List (Int × Int))) (x4 : Int) (x5 : (List (Int × Int))) (r : List A) (h : (cond (decide (x1 < x0)) (cond (inB x1 (List.length x2)) (Option.bind (s_iwrong_1 (List.getD x2 (Int.toNat x1) 0) x3 x4 x5) fun r1 => (cond r1 (some [.v (.int .i64 x1)]) (f_gIndexFunc_int_b_L r 2 (f_gIndexFunc_int_b_s2 x0 (IntKind.wrap .i64 (x1 + 1)) x2 x3 x4 x5)))) none) (some [.v (.int .i64 (-1))])) = some r) : f_gIndexFunc_int_b_L r 2 (f_gIndexFunc_int_b_s2 x0 x1 x2 x3 x4 x5) = some r :=
  step_of' h (by kernel_rfl)
noncomputable def f_gIndexFunc_int_b_n2 (x0 : Int) (x1 : Int) (x2 : (List Int)) (x3 : (List (Int × Int))) (x4 : Int) (x5 : (List (Int × Int))) : Option ((Int × Int × (List Int) × (List (Int × Int)) × Int × (List (Int × Int))) ⊕ Int) := (cond (decide (x1 < x0)) (cond (inB x1 (List.length x2)) (Option.bind (s_iwrong_1 (List.getD x2 (Int.toNat x1) 0) x3 x4 x5) fun r1 => (cond r1 (some (Sum.inr x1)) (some (Sum.inl (x0, (IntKind.wrap .i64 (x1 + 1)), x2, x3, x4, x5))))) none) (some (Sum.inr (-1))))
noncomputable def f_gIndexFunc_int_b_run2 (x : (Int × Int × (List Int) × (List (Int × Int)) × Int × (List (Int × Int)))) : Option Int := iter (fun x => f_gIndexFunc_int_b_n2 x.1 x.2.1 x.2.2.1 x.2.2.2.1 x.2.2.2.2.1 x.2.2.2.2.2) FU x
noncomputable def f_gIndexFunc_int_b_G2 (r : List A) (x : (Int × Int × (List Int) × (List (Int × Int)) × Int × (List (Int × Int)))) : Prop := f_gIndexFunc_int_b_L r 2 (f_gIndexFunc_int_b_s2 x.1 x.2.1 x.2.2.1 x.2.2.2.1 x.2.2.2.2.1 x.2.2.2.2.2) = some r
noncomputable def f_gIndexFunc_int_b_S2 (r : List A) : Int → Prop := fun v => r = l_gIndexFunc_int_b v
theorem f_gIndexFunc_int_b_go2 (r : List A) : ∀ x, sem (f_gIndexFunc_int_b_S2 r) (f_gIndexFunc_int_b_run2 x) → f_gIndexFunc_int_b_G2 r x :=
  fun x => iter_sound (step := fun x => f_gIndexFunc_int_b_n2 x.1 x.2.1 x.2.2.1 x.2.2.2.1 x.2.2.2.2.1 x.2.2.2.2.2) (fun x h => by
    unfold f_gIndexFunc_int_b_n2 at h
    exact f_gIndexFunc_int_b_step2 x.1 x.2.1 x.2.2.1 x.2.2.2.1 x.2.2.2.2.1 x.2.2.2.2.2 r ((sem_cond h (fun h => (sem_cond h (fun h => (sem_bind h fun r1 h => (sem_cond h (fun h => sem_got h fun q => some_eq q) (fun h => sem_got h fun q => q)))) (fun h => sem_none h))) (fun h => sem_got h fun q => some_eq q)))) FU x
noncomputable def s_gIndexFunc_int_b (a0 : (List Int)) (a1 : (List (Int × Int))) (a2 : Int) (a3 : (List (Int × Int))) : Option Int := (f_gIndexFunc_int_b_run2 (((List.length a0 : Nat) : Int), 0, a0, a1, a2, a3))
theorem f_gIndexFunc_int_b_top (a0 : (List Int)) (a1 : (List (Int × Int))) (a2 : Int) (a3 : (List (Int × Int))) (r : List A) : ev f_gIndexFunc_int_b_X (lpc (cnOf f_gIndexFunc_int_b_LV) (f_gIndexFunc_int_b_L r)) f_gIndexFunc_int_b_c (K0 TT f_gIndexFunc_int_b_rv) (enter [.lst (.one (.i .i64)) a0, .clo 200 [.ref (.lst (.st [(.i .i8), (.i .i16)]) a1), .ref (.v (.int .i64 a2)), .ref (.lst (.st [(.i .i8), (.i .u16)]) a3)]]) = (f_gIndexFunc_int_b_L r 2 (f_gIndexFunc_int_b_s2 ((List.length a0 : Nat) : Int) 0 a0 a1 a2 a3)) := by kernel_rfl
theorem s_gIndexFunc_int_b_ok (a0 : (List Int)) (a1 : (List (Int × Int))) (a2 : Int) (a3 : (List (Int × Int))) (v : Int) (h : s_gIndexFunc_int_b a0 a1 a2 a3 = some v) : (f_gIndexFunc_int_b_L (l_gIndexFunc_int_b v) 2 (f_gIndexFunc_int_b_s2 ((List.length a0 : Nat) : Int) 0 a0 a1 a2 a3)) = some (l_gIndexFunc_int_b v) := by
  unfold s_gIndexFunc_int_b at h
  have go : ∀ r, sem (fun v => r = l_gIndexFunc_int_b v) ((f_gIndexFunc_int_b_run2 (((List.length a0 : Nat) : Int), 0, a0, a1, a2, a3))) → (f_gIndexFunc_int_b_L r 2 (f_gIndexFunc_int_b_s2 ((List.length a0 : Nat) : Int) 0 a0 a1 a2 a3)) = some r := fun r h => f_gIndexFunc_int_b_go2 r _ h
  exact go (l_gIndexFunc_int_b v) ⟨v, h, rfl⟩
noncomputable def c_gIndexFunc_int_b : List A → ACall
  | [.lst (.one (.i .i64)) a0, .clo 200 [.ref (.lst (.st [(.i .i8), (.i .i16)]) a1), .ref (.v (.int .i64 a2)), .ref (.lst (.st [(.i .i8), (.i .u16)]) a3)]] => ⟨Int, s_gIndexFunc_int_b a0 a1 a2 a3, fun r => .one (.v (.int .i64 r))⟩
  | _ => ACall.fail
theorem f_gIndexFunc_int_b_sound : Sound Try.prog 198 c_gIndexFunc_int_b := by
  refine sound_good f_gIndexFunc_int_b_ctx f_gIndexFunc_int_b_LV 2 Try.func198 (c := f_gIndexFunc_int_b_c) (by kernel_rfl) (rv := f_gIndexFunc_int_b_rv) (by kernel_rfl) (by kernel_rfl) (by kernel_rfl) (by kernel_rfl) fun rs => ?_
  unfold c_gIndexFunc_int_b
  split
  · rename_i a0 a1 a2 a3; intro v h; exact ⟨rfl, l_gIndexFunc_int_b v, rfl, (f_gIndexFunc_int_b_top a0 a1 a2 a3 _).trans (s_gIndexFunc_int_b_ok a0 a1 a2 a3 v h)⟩
  · intro v h; cases h
def m_gIndexFunc_int_b : List A → Bool
  | [_, .clo 200 _] => true
  | _ => false

/-! ### function 155: loop.example/g01322/impl.wrong -/
noncomputable def f_iwrong_c : Code := match Try.f155.body with | some c => c | none => .skip
noncomputable def f_iwrong_X : Ctx := ⟨TT, phiOf [(198, c_gIndexFunc_int_b), (199, c_iindices)], noPsi, noXi⟩
def f_iwrong_LV : List (Nat × Keep) := []
def f_iwrong_rv : List ResultVar := [.tmp 6]
noncomputable def f_iwrong_L (r : List A) : Nat → AS → Option (List A) := L f_iwrong_X (cnOf f_iwrong_LV) f_iwrong_c (K0 TT f_iwrong_rv) r
theorem f_iwrong_ctx : CtxOK Try.prog f_iwrong_X := ctx_of tab mix ⟨⟨Try.call198, f_gIndexFunc_int_b_sound⟩, ⟨Try.call199, f_iindices_sound⟩, trivial⟩
noncomputable def s_iwrong (a0 : (List (Int × Int))) (a1 : Int) (a2 : (List (Int × Int))) : Option Int := (Option.bind (s_iindices a0) fun r1 => (Option.bind (s_gIndexFunc_int_b r1 a2 a1 a0) fun r2 => (some r2)))
theorem f_iwrong_top (a0 : (List (Int × Int))) (a1 : Int) (a2 : (List (Int × Int))) (r : List A) : ev f_iwrong_X (lpc (cnOf f_iwrong_LV) (f_iwrong_L r)) f_iwrong_c (K0 TT f_iwrong_rv) (enter [.lst (.st [(.i .i8), (.i .u16)]) a0, .v (.int .i64 a1), .lst (.st [(.i .i8), (.i .i16)]) a2]) = (Option.bind (s_iindices a0) fun r1 => (Option.bind (s_gIndexFunc_int_b r1 a2 a1 a0) fun r2 => (some [.v (.int .i64 r2)]))) := by kernel_rfl
noncomputable def l_iwrong (r : Int) : List A := [.v (.int .i64 r)]
theorem s_iwrong_ok (a0 : (List (Int × Int))) (a1 : Int) (a2 : (List (Int × Int))) (v : Int) (h : s_iwrong a0 a1 a2 = some v) : (Option.bind (s_iindices a0) fun r1 => (Option.bind (s_gIndexFunc_int_b r1 a2 a1 a0) fun r2 => (some [.v (.int .i64 r2)]))) = some (l_iwrong v) := by
  have e : (Option.bind (s_iindices a0) fun r1 => (Option.bind (s_gIndexFunc_int_b r1 a2 a1 a0) fun r2 => (some [.v (.int .i64 r2)]))) = Option.map l_iwrong (s_iwrong a0 a1 a2) := by
    unfold s_iwrong
    exact (bind_app fun _ => (bind_app fun _ => rfl))
  rw [e, h]; rfl
noncomputable def c_iwrong : List A → ACall
  | [.lst (.st [(.i .i8), (.i .u16)]) a0, .v (.int .i64 a1), .lst (.st [(.i .i8), (.i .i16)]) a2] => ⟨Int, s_iwrong a0 a1 a2, fun r => .one (.v (.int .i64 r))⟩
  | _ => ACall.fail
theorem f_iwrong_sound : Sound Try.prog 155 c_iwrong := by
  refine sound_good f_iwrong_ctx f_iwrong_LV 3 Try.func155 (c := f_iwrong_c) (by kernel_rfl) (rv := f_iwrong_rv) (by kernel_rfl) (by kernel_rfl) (by kernel_rfl) (by kernel_rfl) fun rs => ?_
  unfold c_iwrong
  split
  · rename_i a0 a1 a2; intro v h; exact ⟨rfl, l_iwrong v, rfl, (f_iwrong_top a0 a1 a2 _).trans (s_iwrong_ok a0 a1 a2 v h)⟩
  · intro v h; cases h

/-! ### function 79: loop.example/g01322/impl.ValidSlots -/
noncomputable def f_iValidSlots_c : Code := match Try.f79.body with | some c => c | none => .skip
noncomputable def f_iValidSlots_X : Ctx := ⟨TT, phiOf [(108, c_iValidJobs), (124, c_iisHands), (155, c_iwrong)], noPsi, noXi⟩
def f_iValidSlots_LV : List (Nat × Keep) := []
def f_iValidSlots_rv : List ResultVar := [.tmp 6]
noncomputable def f_iValidSlots_L (r : List A) : Nat → AS → Option (List A) := L f_iValidSlots_X (cnOf f_iValidSlots_LV) f_iValidSlots_c (K0 TT f_iValidSlots_rv) r
theorem f_iValidSlots_ctx : CtxOK Try.prog f_iValidSlots_X := ctx_of tab mix ⟨⟨Try.call108, f_iValidJobs_sound⟩, ⟨Try.call124, f_iisHands_sound⟩, ⟨Try.call155, f_iwrong_sound⟩, trivial⟩
noncomputable def s_iValidSlots (a0 : (List (Int × Int))) (a1 : Int) (a2 : (List (Int × Int))) : Option Bool := (Option.bind (s_iValidJobs a0) fun r1 => (cond r1 (cond (s_iisHands a1) (cond (((List.length a2 : Nat) : Int) == ((List.length a0 : Nat) : Int)) (Option.bind (s_iwrong a0 a1 a2) fun r2 => (some (decide (r2 < 0)))) (some false)) (some false)) (some false)))
theorem f_iValidSlots_top (a0 : (List (Int × Int))) (a1 : Int) (a2 : (List (Int × Int))) (r : List A) : ev f_iValidSlots_X (lpc (cnOf f_iValidSlots_LV) (f_iValidSlots_L r)) f_iValidSlots_c (K0 TT f_iValidSlots_rv) (enter [.lst (.st [(.i .i8), (.i .u16)]) a0, .v (.int .i64 a1), .lst (.st [(.i .i8), (.i .i16)]) a2]) = (Option.bind (s_iValidJobs a0) fun r1 => (cond r1 (cond (s_iisHands a1) (cond (((List.length a2 : Nat) : Int) == ((List.length a0 : Nat) : Int)) (Option.bind (s_iwrong a0 a1 a2) fun r2 => (some [.v (.bool (decide (r2 < 0)))])) (some [.v (.bool false)])) (some [.v (.bool false)])) (some [.v (.bool false)]))) := by kernel_rfl
noncomputable def l_iValidSlots (r : Bool) : List A := [.v (.bool r)]
theorem s_iValidSlots_ok (a0 : (List (Int × Int))) (a1 : Int) (a2 : (List (Int × Int))) (v : Bool) (h : s_iValidSlots a0 a1 a2 = some v) : (Option.bind (s_iValidJobs a0) fun r1 => (cond r1 (cond (s_iisHands a1) (cond (((List.length a2 : Nat) : Int) == ((List.length a0 : Nat) : Int)) (Option.bind (s_iwrong a0 a1 a2) fun r2 => (some [.v (.bool (decide (r2 < 0)))])) (some [.v (.bool false)])) (some [.v (.bool false)])) (some [.v (.bool false)]))) = some (l_iValidSlots v) := by
  have e : (Option.bind (s_iValidJobs a0) fun r1 => (cond r1 (cond (s_iisHands a1) (cond (((List.length a2 : Nat) : Int) == ((List.length a0 : Nat) : Int)) (Option.bind (s_iwrong a0 a1 a2) fun r2 => (some [.v (.bool (decide (r2 < 0)))])) (some [.v (.bool false)])) (some [.v (.bool false)])) (some [.v (.bool false)]))) = Option.map l_iValidSlots (s_iValidSlots a0 a1 a2) := by
    unfold s_iValidSlots
    exact (bind_app fun _ => (cond_app (Option.map l_iValidSlots) (cond_app (Option.map l_iValidSlots) (cond_app (Option.map l_iValidSlots) (bind_app fun _ => rfl) rfl) rfl) rfl))
  rw [e, h]; rfl
noncomputable def c_iValidSlots : List A → ACall
  | [.lst (.st [(.i .i8), (.i .u16)]) a0, .v (.int .i64 a1), .lst (.st [(.i .i8), (.i .i16)]) a2] => ⟨Bool, s_iValidSlots a0 a1 a2, fun r => .one (.v (.bool r))⟩
  | _ => ACall.fail
theorem f_iValidSlots_sound : Sound Try.prog 79 c_iValidSlots := by
  refine sound_good f_iValidSlots_ctx f_iValidSlots_LV 3 Try.func79 (c := f_iValidSlots_c) (by kernel_rfl) (rv := f_iValidSlots_rv) (by kernel_rfl) (by kernel_rfl) (by kernel_rfl) (by kernel_rfl) fun rs => ?_
  unfold c_iValidSlots
  split
  · rename_i a0 a1 a2; intro v h; exact ⟨rfl, l_iValidSlots v, rfl, (f_iValidSlots_top a0 a1 a2 _).trans (s_iValidSlots_ok a0 a1 a2 v h)⟩
  · intro v h; cases h

/-! ### function 114: loop.example/g01322/impl.planCode -/
noncomputable def f_iplanCode_c : Code := match Try.f114.body with | some c => c | none => .skip
noncomputable def f_iplanCode_X : Ctx := ⟨TT, phiOf [(108, c_iValidJobs), (124, c_iisHands), (79, c_iValidSlots), (91, c_icodeOf)], noPsi, noXi⟩
def f_iplanCode_LV : List (Nat × Keep) := []
def f_iplanCode_rv : List ResultVar := [.tmp 6]
noncomputable def f_iplanCode_L (r : List A) : Nat → AS → Option (List A) := L f_iplanCode_X (cnOf f_iplanCode_LV) f_iplanCode_c (K0 TT f_iplanCode_rv) r
theorem f_iplanCode_ctx : CtxOK Try.prog f_iplanCode_X := ctx_of tab mix ⟨⟨Try.call108, f_iValidJobs_sound⟩, ⟨Try.call124, f_iisHands_sound⟩, ⟨Try.call79, f_iValidSlots_sound⟩, ⟨Try.call91, f_icodeOf_sound⟩, trivial⟩
noncomputable def s_iplanCode (a0 : (List (Int × Int))) (a1 : Int) (a2 : (List (Int × Int))) : Option Int := (Option.bind (s_iValidJobs a0) fun r1 => (cond ((s_icodeOf r1 (s_iisHands a1)) != 0) (some (s_icodeOf r1 (s_iisHands a1))) (Option.bind (s_iValidSlots a0 a1 a2) fun r2 => (some (s_icodeOf r2 true)))))
theorem f_iplanCode_top (a0 : (List (Int × Int))) (a1 : Int) (a2 : (List (Int × Int))) (r : List A) : ev f_iplanCode_X (lpc (cnOf f_iplanCode_LV) (f_iplanCode_L r)) f_iplanCode_c (K0 TT f_iplanCode_rv) (enter [.lst (.st [(.i .i8), (.i .u16)]) a0, .v (.int .i64 a1), .lst (.st [(.i .i8), (.i .i16)]) a2]) = (Option.bind (s_iValidJobs a0) fun r1 => (cond ((s_icodeOf r1 (s_iisHands a1)) != 0) (some [.v (.int .i64 (s_icodeOf r1 (s_iisHands a1)))]) (Option.bind (s_iValidSlots a0 a1 a2) fun r2 => (some [.v (.int .i64 (s_icodeOf r2 true))])))) := by kernel_rfl
noncomputable def l_iplanCode (r : Int) : List A := [.v (.int .i64 r)]
theorem s_iplanCode_ok (a0 : (List (Int × Int))) (a1 : Int) (a2 : (List (Int × Int))) (v : Int) (h : s_iplanCode a0 a1 a2 = some v) : (Option.bind (s_iValidJobs a0) fun r1 => (cond ((s_icodeOf r1 (s_iisHands a1)) != 0) (some [.v (.int .i64 (s_icodeOf r1 (s_iisHands a1)))]) (Option.bind (s_iValidSlots a0 a1 a2) fun r2 => (some [.v (.int .i64 (s_icodeOf r2 true))])))) = some (l_iplanCode v) := by
  have e : (Option.bind (s_iValidJobs a0) fun r1 => (cond ((s_icodeOf r1 (s_iisHands a1)) != 0) (some [.v (.int .i64 (s_icodeOf r1 (s_iisHands a1)))]) (Option.bind (s_iValidSlots a0 a1 a2) fun r2 => (some [.v (.int .i64 (s_icodeOf r2 true))])))) = Option.map l_iplanCode (s_iplanCode a0 a1 a2) := by
    unfold s_iplanCode
    exact (bind_app fun _ => (cond_app (Option.map l_iplanCode) rfl (bind_app fun _ => rfl)))
  rw [e, h]; rfl
noncomputable def c_iplanCode : List A → ACall
  | [.lst (.st [(.i .i8), (.i .u16)]) a0, .v (.int .i64 a1), .lst (.st [(.i .i8), (.i .i16)]) a2] => ⟨Int, s_iplanCode a0 a1 a2, fun r => .one (.v (.int .i64 r))⟩
  | _ => ACall.fail
theorem f_iplanCode_sound : Sound Try.prog 114 c_iplanCode := by
  refine sound_good f_iplanCode_ctx f_iplanCode_LV 3 Try.func114 (c := f_iplanCode_c) (by kernel_rfl) (rv := f_iplanCode_rv) (by kernel_rfl) (by kernel_rfl) (by kernel_rfl) (by kernel_rfl) fun rs => ?_
  unfold c_iplanCode
  split
  · rename_i a0 a1 a2; intro v h; exact ⟨rfl, l_iplanCode v, rfl, (f_iplanCode_top a0 a1 a2 _).trans (s_iplanCode_ok a0 a1 a2 v h)⟩
  · intro v h; cases h

/-! ### function 116: loop.example/g01322/impl.lengthOf -/
noncomputable def f_ilengthOf_c : Code := match Try.f116.body with | some c => c | none => .skip
noncomputable def f_ilengthOf_X : Ctx := ⟨TT, phiOf [(149, c_idone)], noPsi, noXi⟩
def f_ilengthOf_LV : List (Nat × Keep) := [(3, ([1, 5, 8, 9, 10], [], []))]
def f_ilengthOf_rv : List ResultVar := [.tmp 4]
noncomputable def f_ilengthOf_L (r : List A) : Nat → AS → Option (List A) := L f_ilengthOf_X (cnOf f_ilengthOf_LV) f_ilengthOf_c (K0 TT f_ilengthOf_rv) r
theorem f_ilengthOf_ctx : CtxOK Try.prog f_ilengthOf_X := ctx_of tab mix ⟨⟨Try.call149, f_idone_sound⟩, trivial⟩
noncomputable def f_ilengthOf_s3 (x0 : Int) (x1 : Int) (x2 : Int) (x3 : (List (Int × Int))) (x4 : (List (Int × Int))) : AS := ⟨[(1, .a (.sl 0)), (5, .a (.v (.int .i64 x0))), (8, .a (.sl 1)), (9, .a (.v (.int .i64 x1))), (10, .a (.v (.int .i64 x2)))], [(0, some ⟨false, .arr (.st [(.i .i8), (.i .i16)]) x3⟩), (1, some ⟨false, .arr (.st [(.i .i8), (.i .u16)]) x4⟩)], 2⟩
noncomputable def l_ilengthOf (r : Int) : List A := [.v (.int .i64 r)]
theorem f_ilengthOf_step3 (x0 : Int) (x1 : Int) (x2 : Int) (x3 : (List (Int × Int))) (x4 : (List (Int × Int))) (r : List A) (h : (cond (decide (x2 < x1)) (cond (inB x2 (List.length x4)) (cond (inB x2 (List.length x3)) (f_ilengthOf_L r 3 (f_ilengthOf_s3 (max x0 (s_idone (List.getD x4 (Int.toNat x2) ((0, 0) : (Int × Int))).1 (List.getD x4 (Int.toNat x2) ((0, 0) : (Int × Int))).2 (List.getD x3 (Int.toNat x2) ((0, 0) : (Int × Int))).1 (List.getD x3 (Int.toNat x2) ((0, 0) : (Int × Int))).2)) x1 (IntKind.wrap .i64 (x2 + 1)) x3 x4)) none) none) (some [.v (.int .i64 x0)])) = some r) : f_ilengthOf_L r 3 (f_ilengthOf_s3 x0 x1 x2 x3 x4) = some r :=
  step_of' h (by kernel_rfl)
noncomputable def f_ilengthOf_n3 (x0 : Int) (x1 : Int) (x2 : Int) (x3 : (List (Int × Int))) (x4 : (List (Int × Int))) : Option ((Int × Int × Int × (List (Int × Int)) × (List (Int × Int))) ⊕ Int) := (cond (decide (x2 < x1)) (cond (inB x2 (List.length x4)) (cond (inB x2 (List.length x3)) (some (Sum.inl ((max x0 (s_idone (List.getD x4 (Int.toNat x2) ((0, 0) : (Int × Int))).1 (List.getD x4 (Int.toNat x2) ((0, 0) : (Int × Int))).2 (List.getD x3 (Int.toNat x2) ((0, 0) : (Int × Int))).1 (List.getD x3 (Int.toNat x2) ((0, 0) : (Int × Int))).2)), x1, (IntKind.wrap .i64 (x2 + 1)), x3, x4))) none) none) (some (Sum.inr x0)))
noncomputable def f_ilengthOf_run3 (x : (Int × Int × Int × (List (Int × Int)) × (List (Int × Int)))) : Option Int := iter (fun x => f_ilengthOf_n3 x.1 x.2.1 x.2.2.1 x.2.2.2.1 x.2.2.2.2) FU x
noncomputable def f_ilengthOf_G3 (r : List A) (x : (Int × Int × Int × (List (Int × Int)) × (List (Int × Int)))) : Prop := f_ilengthOf_L r 3 (f_ilengthOf_s3 x.1 x.2.1 x.2.2.1 x.2.2.2.1 x.2.2.2.2) = some r
noncomputable def f_ilengthOf_S3 (r : List A) : Int → Prop := fun v => r = l_ilengthOf v
theorem f_ilengthOf_go3 (r : List A) : ∀ x, sem (f_ilengthOf_S3 r) (f_ilengthOf_run3 x) → f_ilengthOf_G3 r x :=
  fun x => iter_sound (step := fun x => f_ilengthOf_n3 x.1 x.2.1 x.2.2.1 x.2.2.2.1 x.2.2.2.2) (fun x h => by
    unfold f_ilengthOf_n3 at h
    exact f_ilengthOf_step3 x.1 x.2.1 x.2.2.1 x.2.2.2.1 x.2.2.2.2 r ((sem_cond h (fun h => (sem_cond h (fun h => (sem_cond h (fun h => sem_got h fun q => q) (fun h => sem_none h))) (fun h => sem_none h))) (fun h => sem_got h fun q => some_eq q)))) FU x
noncomputable def s_ilengthOf (a0 : (List (Int × Int))) (a1 : (List (Int × Int))) : Option Int := (f_ilengthOf_run3 (0, ((List.length a0 : Nat) : Int), 0, a1, a0))
theorem f_ilengthOf_top (a0 : (List (Int × Int))) (a1 : (List (Int × Int))) (r : List A) : ev f_ilengthOf_X (lpc (cnOf f_ilengthOf_LV) (f_ilengthOf_L r)) f_ilengthOf_c (K0 TT f_ilengthOf_rv) (enter [.lst (.st [(.i .i8), (.i .u16)]) a0, .lst (.st [(.i .i8), (.i .i16)]) a1]) = (f_ilengthOf_L r 3 (f_ilengthOf_s3 0 ((List.length a0 : Nat) : Int) 0 a1 a0)) := by kernel_rfl
theorem s_ilengthOf_ok (a0 : (List (Int × Int))) (a1 : (List (Int × Int))) (v : Int) (h : s_ilengthOf a0 a1 = some v) : (f_ilengthOf_L (l_ilengthOf v) 3 (f_ilengthOf_s3 0 ((List.length a0 : Nat) : Int) 0 a1 a0)) = some (l_ilengthOf v) := by
  unfold s_ilengthOf at h
  have go : ∀ r, sem (fun v => r = l_ilengthOf v) ((f_ilengthOf_run3 (0, ((List.length a0 : Nat) : Int), 0, a1, a0))) → (f_ilengthOf_L r 3 (f_ilengthOf_s3 0 ((List.length a0 : Nat) : Int) 0 a1 a0)) = some r := fun r h => f_ilengthOf_go3 r _ h
  exact go (l_ilengthOf v) ⟨v, h, rfl⟩
noncomputable def c_ilengthOf : List A → ACall
  | [.lst (.st [(.i .i8), (.i .u16)]) a0, .lst (.st [(.i .i8), (.i .i16)]) a1] => ⟨Int, s_ilengthOf a0 a1, fun r => .one (.v (.int .i64 r))⟩
  | _ => ACall.fail
theorem f_ilengthOf_sound : Sound Try.prog 116 c_ilengthOf := by
  refine sound_good f_ilengthOf_ctx f_ilengthOf_LV 2 Try.func116 (c := f_ilengthOf_c) (by kernel_rfl) (rv := f_ilengthOf_rv) (by kernel_rfl) (by kernel_rfl) (by kernel_rfl) (by kernel_rfl) fun rs => ?_
  unfold c_ilengthOf
  split
  · rename_i a0 a1; intro v h; exact ⟨rfl, l_ilengthOf v, rfl, (f_ilengthOf_top a0 a1 _).trans (s_ilengthOf_ok a0 a1 v h)⟩
  · intro v h; cases h

/-! ### function 33: loop.example/g01322/impl.IdleDays -/
noncomputable def f_iIdleDays_c : Code := match Try.f33.body with | some c => c | none => .skip
noncomputable def f_iIdleDays_X : Ctx := ⟨TT, phiOf [(114, c_iplanCode), (115, c_gRepeat), (116, c_ilengthOf)], noPsi, noXi⟩
def f_iIdleDays_LV : List (Nat × Keep) := [(6, ([2, 9, 25, 26, 27], [], []))]
def f_iIdleDays_rv : List ResultVar := [.tmp 6, .tmp 7]
noncomputable def f_iIdleDays_L (r : List A) : Nat → AS → Option (List A) := L f_iIdleDays_X (cnOf f_iIdleDays_LV) f_iIdleDays_c (K0 TT f_iIdleDays_rv) r
theorem f_iIdleDays_ctx : CtxOK Try.prog f_iIdleDays_X := ctx_of tab mix ⟨⟨Try.call114, f_iplanCode_sound⟩, ⟨Try.call115, f_gRepeat_sound⟩, ⟨Try.call116, f_ilengthOf_sound⟩, trivial⟩
noncomputable def f_iIdleDays_s6 (x0 : Int) (x1 : Int) (x2 : (List (Int × Int))) (x3 : (List Int)) (x4 : (List (Int × Int))) : AS := ⟨[(2, .a (.sl 0)), (9, .a (.sl 1)), (25, .a (.sl 2)), (26, .a (.v (.int .i64 x0))), (27, .a (.v (.int .i64 x1)))], [(0, some ⟨false, .arr (.st [(.i .i8), (.i .i16)]) x2⟩), (1, some ⟨true, .arr (.one (.i .i64)) x3⟩), (2, some ⟨false, .arr (.st [(.i .i8), (.i .u16)]) x4⟩)], 3⟩
noncomputable def l_iIdleDays (r : ((List Int) × Int)) : List A := [.lst (.one (.i .i64)) r.1, .v (.int .i64 r.2)]
theorem f_iIdleDays_step6 (x0 : Int) (x1 : Int) (x2 : (List (Int × Int))) (x3 : (List Int)) (x4 : (List (Int × Int))) (r : List A) (h : (cond (decide (x1 < x0)) (cond (inB x1 (List.length x4)) (cond (inB x1 (List.length x2)) (cond (inB (List.getD x2 (Int.toNat x1) ((0, 0) : (Int × Int))).1 (List.length x3)) (cond (inB (List.getD x2 (Int.toNat x1) ((0, 0) : (Int × Int))).1 (List.length x3)) (f_iIdleDays_L r 6 (f_iIdleDays_s6 x0 (IntKind.wrap .i64 (x1 + 1)) x2 (List.set x3 (Int.toNat (List.getD x2 (Int.toNat x1) ((0, 0) : (Int × Int))).1) (IntKind.wrap .i64 ((List.getD x3 (Int.toNat (List.getD x2 (Int.toNat x1) ((0, 0) : (Int × Int))).1) 0) - (IntKind.wrap .i64 (List.getD x4 (Int.toNat x1) ((0, 0) : (Int × Int))).1)))) x4)) none) none) none) none) (some [.lst (.one (.i .i64)) x3, .v (.int .i64 0)])) = some r) : f_iIdleDays_L r 6 (f_iIdleDays_s6 x0 x1 x2 x3 x4) = some r :=
  step_of' h (by kernel_rfl)
noncomputable def f_iIdleDays_n6 (x0 : Int) (x1 : Int) (x2 : (List (Int × Int))) (x3 : (List Int)) (x4 : (List (Int × Int))) : Option ((Int × Int × (List (Int × Int)) × (List Int) × (List (Int × Int))) ⊕ ((List Int) × Int)) := (cond (decide (x1 < x0)) (cond (inB x1 (List.length x4)) (cond (inB x1 (List.length x2)) (cond (inB (List.getD x2 (Int.toNat x1) ((0, 0) : (Int × Int))).1 (List.length x3)) (cond (inB (List.getD x2 (Int.toNat x1) ((0, 0) : (Int × Int))).1 (List.length x3)) (some (Sum.inl (x0, (IntKind.wrap .i64 (x1 + 1)), x2, (List.set x3 (Int.toNat (List.getD x2 (Int.toNat x1) ((0, 0) : (Int × Int))).1) (IntKind.wrap .i64 ((List.getD x3 (Int.toNat (List.getD x2 (Int.toNat x1) ((0, 0) : (Int × Int))).1) 0) - (IntKind.wrap .i64 (List.getD x4 (Int.toNat x1) ((0, 0) : (Int × Int))).1)))), x4))) none) none) none) none) (some (Sum.inr (x3, 0))))
noncomputable def f_iIdleDays_run6 (x : (Int × Int × (List (Int × Int)) × (List Int) × (List (Int × Int)))) : Option ((List Int) × Int) := iter (fun x => f_iIdleDays_n6 x.1 x.2.1 x.2.2.1 x.2.2.2.1 x.2.2.2.2) FU x
noncomputable def f_iIdleDays_G6 (r : List A) (x : (Int × Int × (List (Int × Int)) × (List Int) × (List (Int × Int)))) : Prop := f_iIdleDays_L r 6 (f_iIdleDays_s6 x.1 x.2.1 x.2.2.1 x.2.2.2.1 x.2.2.2.2) = some r
noncomputable def f_iIdleDays_S6 (r : List A) : ((List Int) × Int) → Prop := fun v => r = l_iIdleDays v
theorem f_iIdleDays_go6 (r : List A) : ∀ x, sem (f_iIdleDays_S6 r) (f_iIdleDays_run6 x) → f_iIdleDays_G6 r x :=
  fun x => iter_sound (step := fun x => f_iIdleDays_n6 x.1 x.2.1 x.2.2.1 x.2.2.2.1 x.2.2.2.2) (fun x h => by
    unfold f_iIdleDays_n6 at h
    exact f_iIdleDays_step6 x.1 x.2.1 x.2.2.1 x.2.2.2.1 x.2.2.2.2 r ((sem_cond h (fun h => (sem_cond h (fun h => (sem_cond h (fun h => (sem_cond h (fun h => (sem_cond h (fun h => sem_got h fun q => q) (fun h => sem_none h))) (fun h => sem_none h))) (fun h => sem_none h))) (fun h => sem_none h))) (fun h => sem_got h fun q => some_eq q)))) FU x
noncomputable def s_iIdleDays (a0 : (List (Int × Int))) (a1 : Int) (a2 : (List (Int × Int))) : Option ((List Int) × Int) := (Option.bind (s_iplanCode a0 a1 a2) fun r1 => (cond (r1 != 0) (some ([], r1)) (Option.bind (s_ilengthOf a0 a2) fun r2 => (Option.bind (s_gRepeat [r2] a1) fun r3 => (f_iIdleDays_run6 (((List.length a0 : Nat) : Int), 0, a2, r3, a0))))))
theorem f_iIdleDays_top (a0 : (List (Int × Int))) (a1 : Int) (a2 : (List (Int × Int))) (r : List A) : ev f_iIdleDays_X (lpc (cnOf f_iIdleDays_LV) (f_iIdleDays_L r)) f_iIdleDays_c (K0 TT f_iIdleDays_rv) (enter [.lst (.st [(.i .i8), (.i .u16)]) a0, .v (.int .i64 a1), .lst (.st [(.i .i8), (.i .i16)]) a2]) = (Option.bind (s_iplanCode a0 a1 a2) fun r1 => (cond (r1 != 0) (some [.lst (.one (.i .i64)) [], .v (.int .i64 r1)]) (Option.bind (s_ilengthOf a0 a2) fun r2 => (Option.bind (s_gRepeat [r2] a1) fun r3 => (f_iIdleDays_L r 6 (f_iIdleDays_s6 ((List.length a0 : Nat) : Int) 0 a2 r3 a0)))))) := by kernel_rfl
theorem s_iIdleDays_ok (a0 : (List (Int × Int))) (a1 : Int) (a2 : (List (Int × Int))) (v : ((List Int) × Int)) (h : s_iIdleDays a0 a1 a2 = some v) : (Option.bind (s_iplanCode a0 a1 a2) fun r1 => (cond (r1 != 0) (some [.lst (.one (.i .i64)) [], .v (.int .i64 r1)]) (Option.bind (s_ilengthOf a0 a2) fun r2 => (Option.bind (s_gRepeat [r2] a1) fun r3 => (f_iIdleDays_L (l_iIdleDays v) 6 (f_iIdleDays_s6 ((List.length a0 : Nat) : Int) 0 a2 r3 a0)))))) = some (l_iIdleDays v) := by
  unfold s_iIdleDays at h
  have go : ∀ r, sem (fun v => r = l_iIdleDays v) ((Option.bind (s_iplanCode a0 a1 a2) fun r1 => (cond (r1 != 0) (some ([], r1)) (Option.bind (s_ilengthOf a0 a2) fun r2 => (Option.bind (s_gRepeat [r2] a1) fun r3 => (f_iIdleDays_run6 (((List.length a0 : Nat) : Int), 0, a2, r3, a0))))))) → (Option.bind (s_iplanCode a0 a1 a2) fun r1 => (cond (r1 != 0) (some [.lst (.one (.i .i64)) [], .v (.int .i64 r1)]) (Option.bind (s_ilengthOf a0 a2) fun r2 => (Option.bind (s_gRepeat [r2] a1) fun r3 => (f_iIdleDays_L r 6 (f_iIdleDays_s6 ((List.length a0 : Nat) : Int) 0 a2 r3 a0)))))) = some r := fun r h => (sem_bind h fun r1 h => (sem_cond h (fun h => sem_got h fun q => some_eq q) (fun h => (sem_bind h fun r2 h => (sem_bind h fun r3 h => f_iIdleDays_go6 r _ h)))))
  exact go (l_iIdleDays v) ⟨v, h, rfl⟩
noncomputable def c_iIdleDays : List A → ACall
  | [.lst (.st [(.i .i8), (.i .u16)]) a0, .v (.int .i64 a1), .lst (.st [(.i .i8), (.i .i16)]) a2] => ⟨((List Int) × Int), s_iIdleDays a0 a1 a2, fun r => .tup [.lst (.one (.i .i64)) r.1, .v (.int .i64 r.2)]⟩
  | _ => ACall.fail
theorem f_iIdleDays_sound : Sound Try.prog 33 c_iIdleDays := by
  refine sound_good f_iIdleDays_ctx f_iIdleDays_LV 3 Try.func33 (c := f_iIdleDays_c) (by kernel_rfl) (rv := f_iIdleDays_rv) (by kernel_rfl) (by kernel_rfl) (by kernel_rfl) (by kernel_rfl) fun rs => ?_
  unfold c_iIdleDays
  split
  · rename_i a0 a1 a2; intro v h; exact ⟨rfl, l_iIdleDays v, rfl, (f_iIdleDays_top a0 a1 a2 _).trans (s_iIdleDays_ok a0 a1 a2 v h)⟩
  · intro v h; cases h

/-! ### function 5: loop.example/g01322/laws.FnExactIdleDays -/
noncomputable def f_wFnExactIdleDays_c : Code := match Try.f5.body with | some c => c | none => .skip
noncomputable def f_wFnExactIdleDays_X : Ctx := ⟨TT, phiOf [(25, c_wszJobS), (27, c_wtoJobS), (29, c_weqJobS), (30, c_wszSlotS), (31, c_sIdleDays), (32, c_wtoSlotS), (33, c_iIdleDays), (34, c_weqInt64S), (35, c_weqSlotS), (39, c_wheldInt64S)], (psiOf [(36, u_wmarkJobS), (37, u_wmarkSlotS), (38, u_wmarkInt64S)]), noXi⟩
def f_wFnExactIdleDays_LV : List (Nat × Keep) := []
def f_wFnExactIdleDays_rv : List ResultVar := [.tmp 6]
noncomputable def f_wFnExactIdleDays_L (r : List A) : Nat → AS → Option (List A) := L f_wFnExactIdleDays_X (cnOf f_wFnExactIdleDays_LV) f_wFnExactIdleDays_c (K0 TT f_wFnExactIdleDays_rv) r
theorem f_wFnExactIdleDays_ctx : CtxOK Try.prog f_wFnExactIdleDays_X := ctx_ofH tab mix (l := [(25, c_wszJobS), (27, c_wtoJobS), (29, c_weqJobS), (30, c_wszSlotS), (31, c_sIdleDays), (32, c_wtoSlotS), (33, c_iIdleDays), (34, c_weqInt64S), (35, c_weqSlotS), (39, c_wheldInt64S)]) ⟨⟨Try.call25, f_wszJobS_sound⟩, ⟨Try.call27, f_wtoJobS_sound⟩, ⟨Try.call29, f_weqJobS_sound⟩, ⟨Try.call30, f_wszSlotS_sound⟩, ⟨Try.call31, f_sIdleDays_sound⟩, ⟨Try.call32, f_wtoSlotS_sound⟩, ⟨Try.call33, f_iIdleDays_sound⟩, ⟨Try.call34, f_weqInt64S_sound⟩, ⟨Try.call35, f_weqSlotS_sound⟩, ⟨Try.call39, f_wheldInt64S_sound⟩, trivial⟩ (psi_ok (l := [(36, u_wmarkJobS), (37, u_wmarkSlotS), (38, u_wmarkInt64S)]) ⟨⟨Try.call36, f_wmarkJobS_sound⟩, ⟨Try.call37, f_wmarkSlotS_sound⟩, ⟨Try.call38, f_wmarkInt64S_sound⟩, trivial⟩) xi_no
noncomputable def s_wFnExactIdleDays (a0 : (List (Int × Int))) (a1 : Int) (a2 : (List (Int × Int))) : Option Bool := (cond (decide ((s_wszJobS a0 1048576) < 0)) (some true) (cond (decide ((s_wszSlotS a2 (s_wszJobS a0 1048576)) < 0)) (some true) (Option.bind (s_wtoJobS a0) fun r1 => (Option.bind (s_wtoSlotS a2) fun r2 => (Option.bind (s_sIdleDays r1 a1 r2) fun r3 => (Option.bind (s_wtoJobS a0) fun r4 => (Option.bind (s_wtoSlotS a2) fun r5 => (Option.bind (s_iIdleDays r4 a1 r5) fun r6 => (Option.bind (s_weqInt64S (r6.1) (r3.1)) fun r7 => (cond (!r7) (some false) (cond (r6.2 != r3.2) (some false) (Option.bind (s_wtoJobS a0) fun r8 => (Option.bind (s_weqJobS r4 r8) fun r9 => (cond (!r9) (some false) (Option.bind (s_wtoSlotS a2) fun r10 => (Option.bind (s_weqSlotS r5 r10) fun r11 => (cond (!r11) (some false) (Option.bind (s_wmarkJobS r4 1) fun r12 => (Option.bind (s_wmarkSlotS r5 (r12.1)) fun r13 => (cond (decide (r13.1 < 0)) (some false) (Option.bind (s_weqInt64S (r6.1) (r3.1)) fun r14 => (cond (!r14) (some false) (cond (r6.2 != r3.2) (some false) (Option.bind (s_wmarkInt64S (r6.1) 1) fun r15 => (Option.bind (s_wheldInt64S (r15.2) 1) fun r16 => (cond (decide (r16 < 0)) (some false) (cond (r16 != r15.1) (some false) (Option.bind (s_wtoJobS a0) fun r17 => (Option.bind (s_wtoSlotS a2) fun r18 => (Option.bind (s_iIdleDays r17 a1 r18) fun r19 => (Option.bind (s_weqInt64S (r19.1) (r3.1)) fun r20 => (cond (!r20) (some false) (cond (r19.2 != r3.2) (some false) (Option.bind (s_wheldInt64S (r15.2) 1) fun r21 => (cond (decide (r21 < 0)) (some false) (cond (r21 != r15.1) (some false) (some true)))))))))))))))))))))))))))))))))))))
theorem f_wFnExactIdleDays_top (a0 : (List (Int × Int))) (a1 : Int) (a2 : (List (Int × Int))) (r : List A) : ev f_wFnExactIdleDays_X (lpc (cnOf f_wFnExactIdleDays_LV) (f_wFnExactIdleDays_L r)) f_wFnExactIdleDays_c (K0 TT f_wFnExactIdleDays_rv) (enter [.lst (.st [(.i .i8), (.i .u16)]) a0, .v (.int .i64 a1), .lst (.st [(.i .i8), (.i .i16)]) a2]) = (cond (decide ((s_wszJobS a0 1048576) < 0)) (some [.v (.bool true)]) (cond (decide ((s_wszSlotS a2 (s_wszJobS a0 1048576)) < 0)) (some [.v (.bool true)]) (Option.bind (s_wtoJobS a0) fun r1 => (Option.bind (s_wtoSlotS a2) fun r2 => (Option.bind (s_sIdleDays r1 a1 r2) fun r3 => (Option.bind (s_wtoJobS a0) fun r4 => (Option.bind (s_wtoSlotS a2) fun r5 => (Option.bind (s_iIdleDays r4 a1 r5) fun r6 => (Option.bind (s_weqInt64S (r6.1) (r3.1)) fun r7 => (cond (!r7) (some [.v (.bool false)]) (cond (r6.2 != r3.2) (some [.v (.bool false)]) (Option.bind (s_wtoJobS a0) fun r8 => (Option.bind (s_weqJobS r4 r8) fun r9 => (cond (!r9) (some [.v (.bool false)]) (Option.bind (s_wtoSlotS a2) fun r10 => (Option.bind (s_weqSlotS r5 r10) fun r11 => (cond (!r11) (some [.v (.bool false)]) (Option.bind (s_wmarkJobS r4 1) fun r12 => (Option.bind (s_wmarkSlotS r5 (r12.1)) fun r13 => (cond (decide (r13.1 < 0)) (some [.v (.bool false)]) (Option.bind (s_weqInt64S (r6.1) (r3.1)) fun r14 => (cond (!r14) (some [.v (.bool false)]) (cond (r6.2 != r3.2) (some [.v (.bool false)]) (Option.bind (s_wmarkInt64S (r6.1) 1) fun r15 => (Option.bind (s_wheldInt64S (r15.2) 1) fun r16 => (cond (decide (r16 < 0)) (some [.v (.bool false)]) (cond (r16 != r15.1) (some [.v (.bool false)]) (Option.bind (s_wtoJobS a0) fun r17 => (Option.bind (s_wtoSlotS a2) fun r18 => (Option.bind (s_iIdleDays r17 a1 r18) fun r19 => (Option.bind (s_weqInt64S (r19.1) (r3.1)) fun r20 => (cond (!r20) (some [.v (.bool false)]) (cond (r19.2 != r3.2) (some [.v (.bool false)]) (Option.bind (s_wheldInt64S (r15.2) 1) fun r21 => (cond (decide (r21 < 0)) (some [.v (.bool false)]) (cond (r21 != r15.1) (some [.v (.bool false)]) (some [.v (.bool true)]))))))))))))))))))))))))))))))))))))) := by kernel_rfl
noncomputable def l_wFnExactIdleDays (r : Bool) : List A := [.v (.bool r)]
theorem s_wFnExactIdleDays_ok (a0 : (List (Int × Int))) (a1 : Int) (a2 : (List (Int × Int))) (v : Bool) (h : s_wFnExactIdleDays a0 a1 a2 = some v) : (cond (decide ((s_wszJobS a0 1048576) < 0)) (some [.v (.bool true)]) (cond (decide ((s_wszSlotS a2 (s_wszJobS a0 1048576)) < 0)) (some [.v (.bool true)]) (Option.bind (s_wtoJobS a0) fun r1 => (Option.bind (s_wtoSlotS a2) fun r2 => (Option.bind (s_sIdleDays r1 a1 r2) fun r3 => (Option.bind (s_wtoJobS a0) fun r4 => (Option.bind (s_wtoSlotS a2) fun r5 => (Option.bind (s_iIdleDays r4 a1 r5) fun r6 => (Option.bind (s_weqInt64S (r6.1) (r3.1)) fun r7 => (cond (!r7) (some [.v (.bool false)]) (cond (r6.2 != r3.2) (some [.v (.bool false)]) (Option.bind (s_wtoJobS a0) fun r8 => (Option.bind (s_weqJobS r4 r8) fun r9 => (cond (!r9) (some [.v (.bool false)]) (Option.bind (s_wtoSlotS a2) fun r10 => (Option.bind (s_weqSlotS r5 r10) fun r11 => (cond (!r11) (some [.v (.bool false)]) (Option.bind (s_wmarkJobS r4 1) fun r12 => (Option.bind (s_wmarkSlotS r5 (r12.1)) fun r13 => (cond (decide (r13.1 < 0)) (some [.v (.bool false)]) (Option.bind (s_weqInt64S (r6.1) (r3.1)) fun r14 => (cond (!r14) (some [.v (.bool false)]) (cond (r6.2 != r3.2) (some [.v (.bool false)]) (Option.bind (s_wmarkInt64S (r6.1) 1) fun r15 => (Option.bind (s_wheldInt64S (r15.2) 1) fun r16 => (cond (decide (r16 < 0)) (some [.v (.bool false)]) (cond (r16 != r15.1) (some [.v (.bool false)]) (Option.bind (s_wtoJobS a0) fun r17 => (Option.bind (s_wtoSlotS a2) fun r18 => (Option.bind (s_iIdleDays r17 a1 r18) fun r19 => (Option.bind (s_weqInt64S (r19.1) (r3.1)) fun r20 => (cond (!r20) (some [.v (.bool false)]) (cond (r19.2 != r3.2) (some [.v (.bool false)]) (Option.bind (s_wheldInt64S (r15.2) 1) fun r21 => (cond (decide (r21 < 0)) (some [.v (.bool false)]) (cond (r21 != r15.1) (some [.v (.bool false)]) (some [.v (.bool true)]))))))))))))))))))))))))))))))))))))) = some (l_wFnExactIdleDays v) := by
  have e : (cond (decide ((s_wszJobS a0 1048576) < 0)) (some [.v (.bool true)]) (cond (decide ((s_wszSlotS a2 (s_wszJobS a0 1048576)) < 0)) (some [.v (.bool true)]) (Option.bind (s_wtoJobS a0) fun r1 => (Option.bind (s_wtoSlotS a2) fun r2 => (Option.bind (s_sIdleDays r1 a1 r2) fun r3 => (Option.bind (s_wtoJobS a0) fun r4 => (Option.bind (s_wtoSlotS a2) fun r5 => (Option.bind (s_iIdleDays r4 a1 r5) fun r6 => (Option.bind (s_weqInt64S (r6.1) (r3.1)) fun r7 => (cond (!r7) (some [.v (.bool false)]) (cond (r6.2 != r3.2) (some [.v (.bool false)]) (Option.bind (s_wtoJobS a0) fun r8 => (Option.bind (s_weqJobS r4 r8) fun r9 => (cond (!r9) (some [.v (.bool false)]) (Option.bind (s_wtoSlotS a2) fun r10 => (Option.bind (s_weqSlotS r5 r10) fun r11 => (cond (!r11) (some [.v (.bool false)]) (Option.bind (s_wmarkJobS r4 1) fun r12 => (Option.bind (s_wmarkSlotS r5 (r12.1)) fun r13 => (cond (decide (r13.1 < 0)) (some [.v (.bool false)]) (Option.bind (s_weqInt64S (r6.1) (r3.1)) fun r14 => (cond (!r14) (some [.v (.bool false)]) (cond (r6.2 != r3.2) (some [.v (.bool false)]) (Option.bind (s_wmarkInt64S (r6.1) 1) fun r15 => (Option.bind (s_wheldInt64S (r15.2) 1) fun r16 => (cond (decide (r16 < 0)) (some [.v (.bool false)]) (cond (r16 != r15.1) (some [.v (.bool false)]) (Option.bind (s_wtoJobS a0) fun r17 => (Option.bind (s_wtoSlotS a2) fun r18 => (Option.bind (s_iIdleDays r17 a1 r18) fun r19 => (Option.bind (s_weqInt64S (r19.1) (r3.1)) fun r20 => (cond (!r20) (some [.v (.bool false)]) (cond (r19.2 != r3.2) (some [.v (.bool false)]) (Option.bind (s_wheldInt64S (r15.2) 1) fun r21 => (cond (decide (r21 < 0)) (some [.v (.bool false)]) (cond (r21 != r15.1) (some [.v (.bool false)]) (some [.v (.bool true)]))))))))))))))))))))))))))))))))))))) = Option.map l_wFnExactIdleDays (s_wFnExactIdleDays a0 a1 a2) := by
    unfold s_wFnExactIdleDays
    exact (cond_app (Option.map l_wFnExactIdleDays) rfl (cond_app (Option.map l_wFnExactIdleDays) rfl (bind_app fun _ => (bind_app fun _ => (bind_app fun _ => (bind_app fun _ => (bind_app fun _ => (bind_app fun _ => (bind_app fun _ => (cond_app (Option.map l_wFnExactIdleDays) rfl (cond_app (Option.map l_wFnExactIdleDays) rfl (bind_app fun _ => (bind_app fun _ => (cond_app (Option.map l_wFnExactIdleDays) rfl (bind_app fun _ => (bind_app fun _ => (cond_app (Option.map l_wFnExactIdleDays) rfl (bind_app fun _ => (bind_app fun _ => (cond_app (Option.map l_wFnExactIdleDays) rfl (bind_app fun _ => (cond_app (Option.map l_wFnExactIdleDays) rfl (cond_app (Option.map l_wFnExactIdleDays) rfl (bind_app fun _ => (bind_app fun _ => (cond_app (Option.map l_wFnExactIdleDays) rfl (cond_app (Option.map l_wFnExactIdleDays) rfl (bind_app fun _ => (bind_app fun _ => (bind_app fun _ => (bind_app fun _ => (cond_app (Option.map l_wFnExactIdleDays) rfl (cond_app (Option.map l_wFnExactIdleDays) rfl (bind_app fun _ => (cond_app (Option.map l_wFnExactIdleDays) rfl (cond_app (Option.map l_wFnExactIdleDays) rfl rfl))))))))))))))))))))))))))))))))))))
  rw [e, h]; rfl
noncomputable def c_wFnExactIdleDays : List A → ACall
  | [.lst (.st [(.i .i8), (.i .u16)]) a0, .v (.int .i64 a1), .lst (.st [(.i .i8), (.i .i16)]) a2] => ⟨Bool, s_wFnExactIdleDays a0 a1 a2, fun r => .one (.v (.bool r))⟩
  | _ => ACall.fail
theorem f_wFnExactIdleDays_sound : Sound Try.prog 5 c_wFnExactIdleDays := by
  refine sound_good f_wFnExactIdleDays_ctx f_wFnExactIdleDays_LV 3 Try.func5 (c := f_wFnExactIdleDays_c) (by kernel_rfl) (rv := f_wFnExactIdleDays_rv) (by kernel_rfl) (by kernel_rfl) (by kernel_rfl) (by kernel_rfl) fun rs => ?_
  unfold c_wFnExactIdleDays
  split
  · rename_i a0 a1 a2; intro v h; exact ⟨rfl, l_wFnExactIdleDays v, rfl, (f_wFnExactIdleDays_top a0 a1 a2 _).trans (s_wFnExactIdleDays_ok a0 a1 a2 v h)⟩
  · intro v h; cases h
end Go.RR
