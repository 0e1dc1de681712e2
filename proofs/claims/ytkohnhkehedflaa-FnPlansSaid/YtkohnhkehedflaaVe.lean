/- Jobs: order. -/
import Derived.Test.YtkohnhkehedflaaTb
import Derived.Test.YtkohnhkehedflaaRw
set_option linter.unusedVariables false
set_option linter.unusedSimpArgs false
set_option linter.unusedSectionVars false
set_option maxRecDepth 100000
namespace Go.RR
open Go Go.Proofs
noncomputable def f_q1v_c : Code := match Try.f92.body with | some c => c | none => .skip
noncomputable def f_q1v_X : Ctx := ⟨TT, phiOf [], noPsi, noXi⟩
def f_q1v_LV : List (Nat × Keep) := []
def f_q1v_rv : List ResultVar := [.tmp 6]
noncomputable def f_q1v_L (r : List A) : Nat → AS → Option (List A) := L f_q1v_X (cnOf f_q1v_LV) f_q1v_c (K0 TT f_q1v_rv) r
theorem f_q1v_ctx : CtxOK Try.prog f_q1v_X := ctx_of tab mix trivial
noncomputable def s_q1v (a0 a1 a2 : Int) : Bool := (cond (decide (a1 ≤ a0)) (decide (a0 ≤ a2)) false)
theorem f_q1v_top (a0 a1 a2 : Int) (r : List A) : ev f_q1v_X (lpc (cnOf f_q1v_LV) (f_q1v_L r)) f_q1v_c (K0 TT f_q1v_rv) (enter [.v (.int .i64 a0), .v (.int .i64 a1), .v (.int .i64 a2)]) = (cond (decide (a1 ≤ a0)) (some [.v (.bool (decide (a0 ≤ a2)))]) (some [.v (.bool false)])) := by kernel_rfl
noncomputable def l_q1v (r : Bool) : List A := [.v (.bool r)]
theorem s_q1v_ok (a0 a1 a2 : Int) : (cond (decide (a1 ≤ a0)) (some [.v (.bool (decide (a0 ≤ a2)))]) (some [.v (.bool false)])) = some (l_q1v (s_q1v a0 a1 a2)) := by
 unfold s_q1v
 exact (cond_app (fun x => some (l_q1v x)) rfl rfl)
noncomputable def c_q1v : List A → ACall
 | [.v (.int .i64 a0), .v (.int .i64 a1), .v (.int .i64 a2)] => ⟨Bool, some (s_q1v a0 a1 a2), fun r => .one (.v (.bool r))⟩
 | _ => ACall.fail
theorem f_q1v_sound : Sound Try.prog 92 c_q1v := by
 refine sound_good f_q1v_ctx f_q1v_LV 3 Try.func92 (c := f_q1v_c) (by kernel_rfl) (rv := f_q1v_rv) (by kernel_rfl) (by kernel_rfl) (by kernel_rfl) (by kernel_rfl) fun rs => ?_
 unfold c_q1v
 split
 ·rename_i a0 a1 a2; intro v h; cases h; exact ⟨rfl, l_q1v (s_q1v a0 a1 a2), rfl, (f_q1v_top a0 a1 a2 _).trans (s_q1v_ok a0 a1 a2)⟩
 ·intro v h; cases h
noncomputable def f_q1t_c : Code := match Try.f91.body with | some c => c | none => .skip
noncomputable def f_q1t_X : Ctx := ⟨TT, phiOf [], noPsi, noXi⟩
def f_q1t_LV : List (Nat × Keep) := []
def f_q1t_rv : List ResultVar := [.tmp 4]
noncomputable def f_q1t_L (r : List A) : Nat → AS → Option (List A) := L f_q1t_X (cnOf f_q1t_LV) f_q1t_c (K0 TT f_q1t_rv) r
theorem f_q1t_ctx : CtxOK Try.prog f_q1t_X := ctx_of tab mix trivial
noncomputable def s_q1t (a0 a1 : Bool) : Int := (cond (!a0) 1 (cond (!a1) 2 0))
theorem f_q1t_top (a0 a1 : Bool) (r : List A) : ev f_q1t_X (lpc (cnOf f_q1t_LV) (f_q1t_L r)) f_q1t_c (K0 TT f_q1t_rv) (enter [.v (.bool a0), .v (.bool a1)]) = (cond (!a0) (some [.v (.int .i64 1)]) (cond (!a1) (some [.v (.int .i64 2)]) (some [.v (.int .i64 0)]))) := by kernel_rfl
noncomputable def l_q1t (r : Int) : List A := [.v (.int .i64 r)]
theorem s_q1t_ok (a0 a1 : Bool) : (cond (!a0) (some [.v (.int .i64 1)]) (cond (!a1) (some [.v (.int .i64 2)]) (some [.v (.int .i64 0)]))) = some (l_q1t (s_q1t a0 a1)) := by
 unfold s_q1t
 exact (cond_app (fun x => some (l_q1t x)) rfl (cond_app (fun x => some (l_q1t x)) rfl rfl))
noncomputable def c_q1t : List A → ACall
 | [.v (.bool a0), .v (.bool a1)] => ⟨Int, some (s_q1t a0 a1), fun r => .one (.v (.int .i64 r))⟩
 | _ => ACall.fail
theorem f_q1t_sound : Sound Try.prog 91 c_q1t := by
 refine sound_good f_q1t_ctx f_q1t_LV 2 Try.func91 (c := f_q1t_c) (by kernel_rfl) (rv := f_q1t_rv) (by kernel_rfl) (by kernel_rfl) (by kernel_rfl) (by kernel_rfl) fun rs => ?_
 unfold c_q1t
 split
 ·rename_i a0 a1; intro v h; cases h; exact ⟨rfl, l_q1t (s_q1t a0 a1), rfl, (f_q1t_top a0 a1 _).trans (s_q1t_ok a0 a1)⟩
 ·intro v h; cases h
noncomputable def f_q25_c : Code := match Try.f93.body with | some c => c | none => .skip
noncomputable def f_q25_X : Ctx := ⟨TT, phiOf [], noPsi, noXi⟩
def f_q25_LV : List (Nat × Keep) := []
def f_q25_rv : List ResultVar := [.tmp 6]
noncomputable def f_q25_L (r : List A) : Nat → AS → Option (List A) := L f_q25_X (cnOf f_q25_LV) f_q25_c (K0 TT f_q25_rv) r
theorem f_q25_ctx : CtxOK Try.prog f_q25_X := ctx_of tab mix trivial
noncomputable def s_q25 (a0 a1 a2 : Int) : Bool := (cond (decide (a0 ≥ a1)) (decide (a0 ≤ a2)) false)
theorem f_q25_top (a0 a1 a2 : Int) (r : List A) : ev f_q25_X (lpc (cnOf f_q25_LV) (f_q25_L r)) f_q25_c (K0 TT f_q25_rv) (enter [.v (.int .i64 a0), .v (.int .i64 a1), .v (.int .i64 a2)]) = (cond (decide (a0 ≥ a1)) (some [.v (.bool (decide (a0 ≤ a2)))]) (some [.v (.bool false)])) := by kernel_rfl
noncomputable def l_q25 (r : Bool) : List A := [.v (.bool r)]
theorem s_q25_ok (a0 a1 a2 : Int) : (cond (decide (a0 ≥ a1)) (some [.v (.bool (decide (a0 ≤ a2)))]) (some [.v (.bool false)])) = some (l_q25 (s_q25 a0 a1 a2)) := by
 unfold s_q25
 exact (cond_app (fun x => some (l_q25 x)) rfl rfl)
noncomputable def c_q25 : List A → ACall
 | [.v (.int .i64 a0), .v (.int .i64 a1), .v (.int .i64 a2)] => ⟨Bool, some (s_q25 a0 a1 a2), fun r => .one (.v (.bool r))⟩
 | _ => ACall.fail
theorem f_q25_sound : Sound Try.prog 93 c_q25 := by
 refine sound_good f_q25_ctx f_q25_LV 3 Try.func93 (c := f_q25_c) (by kernel_rfl) (rv := f_q25_rv) (by kernel_rfl) (by kernel_rfl) (by kernel_rfl) (by kernel_rfl) fun rs => ?_
 unfold c_q25
 split
 ·rename_i a0 a1 a2; intro v h; cases h; exact ⟨rfl, l_q25 (s_q25 a0 a1 a2), rfl, (f_q25_top a0 a1 a2 _).trans (s_q25_ok a0 a1 a2)⟩
 ·intro v h; cases h
noncomputable def f_q16_c : Code := match Try.f163.body with | some c => c | none => .skip
noncomputable def f_q16_X : Ctx := ⟨TT, phiOf [], noPsi, noXi⟩
def f_q16_LV : List (Nat × Keep) := [(3, ([0, 4, 5], [], [])), (6, ([0, 4, 5, 6, 7], [], []))]
def f_q16_rv : List ResultVar := [.tmp 2, .tmp 3]
noncomputable def f_q16_L (r : List A) : Nat → AS → Option (List A) := L f_q16_X (cnOf f_q16_LV) f_q16_c (K0 TT f_q16_rv) r
theorem f_q16_ctx : CtxOK Try.prog f_q16_X := ctx_of tab mix trivial
noncomputable def f_q16_s3 (x0 : Int) (x1 : List (Int × Int)) (x2 : List Int) : AS := ⟨[(0, .a (.sl 0)), (4, .a (.sl 1)), (5, .a (.v (.int .u16 x0)))], [(0, some ⟨false, .arr (.st [(.i .i8), (.i .u16)]) x1⟩), (1, some ⟨true, .arr (.one (.i .i64)) x2⟩)], 2⟩
noncomputable def f_q16_s6 (x0 x1 x2 : Int) (x3 : List (Int × Int)) (x4 : List Int) : AS := ⟨[(0, .a (.sl 0)), (4, .a (.sl 1)), (5, .a (.v (.int .u16 x0))), (6, .a (.v (.int .i64 x1))), (7, .a (.v (.int .i64 x2)))], [(0, some ⟨false, .arr (.st [(.i .i8), (.i .u16)]) x3⟩), (1, some ⟨true, .arr (.one (.i .i64)) x4⟩)], 2⟩
noncomputable def l_q16 (r : ((List Int) × Bool)) : List A := [.lst (.one (.i .i64)) r.1, .v (.bool r.2)]
theorem f_q16_step6 (x0 x1 x2 : Int) (x3 : List (Int × Int)) (x4 : List Int) (r : List A) (h : (cond (decide (x2 ≥ 0)) (cond (decide ((IntKind.wrap .u64 x2) < 0)) none (cond ((Int.tmod (bShr .u16 x0 (IntKind.wrap .u64 x2)) 2) == 0) (cond (inB x2 (List.length x3)) (cond ((bAndNot .u16 (List.getD x3 (Int.toNat x2) ((0, 0) : (Int × Int))).2 x0) == 0) (f_q16_L r 6 (f_q16_s6 x0 x2 (IntKind.wrap .i64 (x2 - 1)) x3 x4)) (f_q16_L r 6 (f_q16_s6 x0 x1 (IntKind.wrap .i64 (x2 - 1)) x3 x4))) none) (f_q16_L r 6 (f_q16_s6 x0 x1 (IntKind.wrap .i64 (x2 - 1)) x3 x4)))) (cond (decide (x1 < 0)) (some [.lst (.one (.i .i64)) [], .v (.bool false)]) (cond (fits ((List.length (x4 : List Int) + List.length ([x1] : List Int)) * 8)) (cond (decide ((IntKind.wrap .u64 x1) < 0)) none (f_q16_L r 3 (f_q16_s3 (bOr .u16 x0 (bShl .u16 1 (IntKind.wrap .u64 x1))) x3 (x4 ++ [x1])))) none))) = some r) : f_q16_L r 6 (f_q16_s6 x0 x1 x2 x3 x4) = some r :=
 step_of' h (by kernel_rfl)
noncomputable def f_q16_n6 (x0 x1 x2 : Int) (x3 : List (Int × Int)) (x4 : List Int) : Option ((Int × Int × Int × (List (Int × Int)) × (List Int)) ⊕ ((Int × (List (Int × Int)) × (List Int)) ⊕ ((List Int) × Bool))) := (cond (decide (x2 ≥ 0)) (cond (decide ((IntKind.wrap .u64 x2) < 0)) none (cond ((Int.tmod (bShr .u16 x0 (IntKind.wrap .u64 x2)) 2) == 0) (cond (inB x2 (List.length x3)) (cond ((bAndNot .u16 (List.getD x3 (Int.toNat x2) ((0, 0) : (Int × Int))).2 x0) == 0) (some (Sum.inl (x0, x2, (IntKind.wrap .i64 (x2 - 1)), x3, x4))) (some (Sum.inl (x0, x1, (IntKind.wrap .i64 (x2 - 1)), x3, x4)))) none) (some (Sum.inl (x0, x1, (IntKind.wrap .i64 (x2 - 1)), x3, x4))))) (cond (decide (x1 < 0)) (some (Sum.inr (Sum.inr ([], false)))) (cond (fits ((List.length (x4 : List Int) + List.length ([x1] : List Int)) * 8)) (cond (decide ((IntKind.wrap .u64 x1) < 0)) none (some (Sum.inr (Sum.inl ((bOr .u16 x0 (bShl .u16 1 (IntKind.wrap .u64 x1))), x3, (x4 ++ [x1])))))) none)))
noncomputable def f_q16_run6 (x : (Int × Int × Int × (List (Int × Int)) × (List Int))) : Option ((Int × (List (Int × Int)) × (List Int)) ⊕ ((List Int) × Bool)) := iter (fun x => f_q16_n6 x.1 x.2.1 x.2.2.1 x.2.2.2.1 x.2.2.2.2) FU x
noncomputable def f_q16_G6 (r : List A) (x : (Int × Int × Int × (List (Int × Int)) × (List Int))) : Prop := f_q16_L r 6 (f_q16_s6 x.1 x.2.1 x.2.2.1 x.2.2.2.1 x.2.2.2.2) = some r
theorem f_q16_step3 (x0 : Int) (x1 : List (Int × Int)) (x2 : List Int) (r : List A) (h : (cond (decide (((List.length x2 : Nat) : Int) < ((List.length x1 : Nat) : Int))) (f_q16_L r 6 (f_q16_s6 x0 (-1) (IntKind.wrap .i64 (((List.length x1 : Nat) : Int) - 1)) x1 x2)) (some [.lst (.one (.i .i64)) x2, .v (.bool true)])) = some r) : f_q16_L r 3 (f_q16_s3 x0 x1 x2) = some r :=
 step_of' h (by kernel_rfl)
noncomputable def f_q16_n3 (x0 : Int) (x1 : List (Int × Int)) (x2 : List Int) : Option ((Int × (List (Int × Int)) × (List Int)) ⊕ ((List Int) × Bool)) := (cond (decide (((List.length x2 : Nat) : Int) < ((List.length x1 : Nat) : Int))) (f_q16_run6 (x0, (-1), (IntKind.wrap .i64 (((List.length x1 : Nat) : Int) - 1)), x1, x2)) (some (Sum.inr (x2, true))))
noncomputable def f_q16_run3 (x : (Int × (List (Int × Int)) × (List Int))) : Option ((List Int) × Bool) := iter (fun x => f_q16_n3 x.1 x.2.1 x.2.2) FU x
noncomputable def f_q16_G3 (r : List A) (x : (Int × (List (Int × Int)) × (List Int))) : Prop := f_q16_L r 3 (f_q16_s3 x.1 x.2.1 x.2.2) = some r
noncomputable def f_q16_S3 (r : List A) : ((List Int) × Bool) → Prop := fun v => r = l_q16 v
noncomputable def f_q16_S6 (r : List A) : ((Int × (List (Int × Int)) × (List Int)) ⊕ ((List Int) × Bool)) → Prop := goesOn (f_q16_G3 r) (f_q16_S3 r)
theorem f_q16_go6 (r : List A) : ∀ x, sem (f_q16_S6 r) (f_q16_run6 x) → f_q16_G6 r x :=
 fun x => iter_sound (step := fun x => f_q16_n6 x.1 x.2.1 x.2.2.1 x.2.2.2.1 x.2.2.2.2) (fun x h => by
  unfold f_q16_n6 at h
  exact f_q16_step6 x.1 x.2.1 x.2.2.1 x.2.2.2.1 x.2.2.2.2 r ((sem_cond h (fun h => (sem_cond h (fun h => sem_none h) (fun h => (sem_cond h (fun h => (sem_cond h (fun h => (sem_cond h (fun h => sem_got h fun q => q) (fun h => sem_got h fun q => q))) (fun h => sem_none h))) (fun h => sem_got h fun q => q))))) (fun h => (sem_cond h (fun h => sem_got h fun q => some_eq q) (fun h => (sem_cond h (fun h => (sem_cond h (fun h => sem_none h) (fun h => sem_got h fun q => q))) (fun h => sem_none h)))))))) FU x
theorem f_q16_go3 (r : List A) : ∀ x, sem (f_q16_S3 r) (f_q16_run3 x) → f_q16_G3 r x :=
 fun x => iter_sound (step := fun x => f_q16_n3 x.1 x.2.1 x.2.2) (fun x h => by
  unfold f_q16_n3 at h
  exact f_q16_step3 x.1 x.2.1 x.2.2 r ((sem_cond h (fun h => f_q16_go6 r _ h) (fun h => sem_got h fun q => some_eq q)))) FU x
noncomputable def s_q16 (a0 : List (Int × Int)) : Option ((List Int) × Bool) := (f_q16_run3 (0, a0, []))
theorem f_q16_top (a0 : List (Int × Int)) (r : List A) : ev f_q16_X (lpc (cnOf f_q16_LV) (f_q16_L r)) f_q16_c (K0 TT f_q16_rv) (enter [.lst (.st [(.i .i8), (.i .u16)]) a0]) = (f_q16_L r 3 (f_q16_s3 0 a0 [])) := by kernel_rfl
theorem s_q16_ok (a0 : List (Int × Int)) (v : ((List Int) × Bool)) (h : s_q16 a0 = some v) : (f_q16_L (l_q16 v) 3 (f_q16_s3 0 a0 [])) = some (l_q16 v) := by
 unfold s_q16 at h
 have go : ∀ r, sem (fun v => r = l_q16 v) ((f_q16_run3 (0, a0, []))) → (f_q16_L r 3 (f_q16_s3 0 a0 [])) = some r := fun r h => f_q16_go3 r _ h
 exact go (l_q16 v) ⟨v, h, rfl⟩
noncomputable def c_q16 : List A → ACall
 | [.lst (.st [(.i .i8), (.i .u16)]) a0] => ⟨((List Int) × Bool), s_q16 a0, fun r => .tup [.lst (.one (.i .i64)) r.1, .v (.bool r.2)]⟩
 | _ => ACall.fail
theorem f_q16_sound : Sound Try.prog 163 c_q16 := by
 refine sound_good f_q16_ctx f_q16_LV 1 Try.func163 (c := f_q16_c) (by kernel_rfl) (rv := f_q16_rv) (by kernel_rfl) (by kernel_rfl) (by kernel_rfl) (by kernel_rfl) fun rs => ?_
 unfold c_q16
 split
 ·rename_i a0; intro v h; exact ⟨rfl, l_q16 v, rfl, (f_q16_top a0 _).trans (s_q16_ok a0 v h)⟩
 ·intro v h; cases h
noncomputable def f_q27_c : Code := match Try.f105.body with | some c => c | none => .skip
noncomputable def f_q27_X : Ctx := ⟨TT, phiOf [(163, c_q16), (93, c_q25)], noPsi, noXi⟩
def f_q27_LV : List (Nat × Keep) := [(4, ([0, 3], [], []))]
def f_q27_rv : List ResultVar := [.tmp 2]
noncomputable def f_q27_L (r : List A) : Nat → AS → Option (List A) := L f_q27_X (cnOf f_q27_LV) f_q27_c (K0 TT f_q27_rv) r
theorem f_q27_ctx : CtxOK Try.prog f_q27_X := ctx_of tab mix ⟨⟨Try.call163, f_q16_sound⟩, ⟨Try.call93, f_q25_sound⟩, trivial⟩
noncomputable def f_q27_s4 (x0 : Int) (x1 : List (Int × Int)) : AS := ⟨[(0, .a (.sl 0)), (3, .a (.v (.int .i64 x0)))], [(0, some ⟨false, .arr (.st [(.i .i8), (.i .u16)]) x1⟩)], 1⟩
noncomputable def l_q27 (r : Bool) : List A := [.v (.bool r)]
theorem f_q27_step4 (x0 : Int) (x1 : List (Int × Int)) (r : List A) (h : (cond (decide (x0 < ((List.length x1 : Nat) : Int))) (cond (inB x0 (List.length x1)) (cond (!(s_q25 (IntKind.wrap .i64 (List.getD x1 (Int.toNat x0) ((0, 0) : (Int × Int))).1) 1 30)) (some [.v (.bool false)]) (cond (inB x0 (List.length x1)) (cond (decide ((IntKind.wrap .u64 ((List.length x1 : Nat) : Int)) < 0)) none (cond ((bShr .u16 (List.getD x1 (Int.toNat x0) ((0, 0) : (Int × Int))).2 (IntKind.wrap .u64 ((List.length x1 : Nat) : Int))) != 0) (some [.v (.bool false)]) (f_q27_L r 4 (f_q27_s4 (IntKind.wrap .i64 (x0 + 1)) x1)))) none)) none) (Option.bind (s_q16 x1) fun r1 => (some [.v (.bool r1.2)]))) = some r) : f_q27_L r 4 (f_q27_s4 x0 x1) = some r :=
 step_of' h (by kernel_rfl)
noncomputable def f_q27_n4 (x0 : Int) (x1 : List (Int × Int)) : Option ((Int × (List (Int × Int))) ⊕ Bool) := (cond (decide (x0 < ((List.length x1 : Nat) : Int))) (cond (inB x0 (List.length x1)) (cond (!(s_q25 (IntKind.wrap .i64 (List.getD x1 (Int.toNat x0) ((0, 0) : (Int × Int))).1) 1 30)) (some (Sum.inr false)) (cond (inB x0 (List.length x1)) (cond (decide ((IntKind.wrap .u64 ((List.length x1 : Nat) : Int)) < 0)) none (cond ((bShr .u16 (List.getD x1 (Int.toNat x0) ((0, 0) : (Int × Int))).2 (IntKind.wrap .u64 ((List.length x1 : Nat) : Int))) != 0) (some (Sum.inr false)) (some (Sum.inl ((IntKind.wrap .i64 (x0 + 1)), x1))))) none)) none) (Option.bind (s_q16 x1) fun r1 => (some (Sum.inr (r1.2)))))
noncomputable def f_q27_run4 (x : (Int × (List (Int × Int)))) : Option Bool := iter (fun x => f_q27_n4 x.1 x.2) FU x
noncomputable def f_q27_G4 (r : List A) (x : (Int × (List (Int × Int)))) : Prop := f_q27_L r 4 (f_q27_s4 x.1 x.2) = some r
noncomputable def f_q27_S4 (r : List A) : Bool → Prop := fun v => r = l_q27 v
theorem f_q27_go4 (r : List A) : ∀ x, sem (f_q27_S4 r) (f_q27_run4 x) → f_q27_G4 r x :=
 fun x => iter_sound (step := fun x => f_q27_n4 x.1 x.2) (fun x h => by
  unfold f_q27_n4 at h
  exact f_q27_step4 x.1 x.2 r ((sem_cond h (fun h => (sem_cond h (fun h => (sem_cond h (fun h => sem_got h fun q => some_eq q) (fun h => (sem_cond h (fun h => (sem_cond h (fun h => sem_none h) (fun h => (sem_cond h (fun h => sem_got h fun q => some_eq q) (fun h => sem_got h fun q => q))))) (fun h => sem_none h))))) (fun h => sem_none h))) (fun h => (sem_bind h fun r1 h => sem_got h fun q => some_eq q))))) FU x
noncomputable def s_q27 (a0 : List (Int × Int)) : Option Bool := (cond (decide (((List.length a0 : Nat) : Int) > 12)) (some false) (f_q27_run4 (0, a0)))
theorem f_q27_top (a0 : List (Int × Int)) (r : List A) : ev f_q27_X (lpc (cnOf f_q27_LV) (f_q27_L r)) f_q27_c (K0 TT f_q27_rv) (enter [.lst (.st [(.i .i8), (.i .u16)]) a0]) = (cond (decide (((List.length a0 : Nat) : Int) > 12)) (some [.v (.bool false)]) (f_q27_L r 4 (f_q27_s4 0 a0))) := by kernel_rfl
theorem s_q27_ok (a0 : List (Int × Int)) (v : Bool) (h : s_q27 a0 = some v) : (cond (decide (((List.length a0 : Nat) : Int) > 12)) (some [.v (.bool false)]) (f_q27_L (l_q27 v) 4 (f_q27_s4 0 a0))) = some (l_q27 v) := by
 unfold s_q27 at h
 have go : ∀ r, sem (fun v => r = l_q27 v) ((cond (decide (((List.length a0 : Nat) : Int) > 12)) (some false) (f_q27_run4 (0, a0)))) → (cond (decide (((List.length a0 : Nat) : Int) > 12)) (some [.v (.bool false)]) (f_q27_L r 4 (f_q27_s4 0 a0))) = some r := fun r h => (sem_cond h (fun h => sem_got h fun q => some_eq q) (fun h => f_q27_go4 r _ h))
 exact go (l_q27 v) ⟨v, h, rfl⟩
noncomputable def c_q27 : List A → ACall
 | [.lst (.st [(.i .i8), (.i .u16)]) a0] => ⟨Bool, s_q27 a0, fun r => .one (.v (.bool r))⟩
 | _ => ACall.fail
theorem f_q27_sound : Sound Try.prog 105 c_q27 := by
 refine sound_good f_q27_ctx f_q27_LV 1 Try.func105 (c := f_q27_c) (by kernel_rfl) (rv := f_q27_rv) (by kernel_rfl) (by kernel_rfl) (by kernel_rfl) (by kernel_rfl) fun rs => ?_
 unfold c_q27
 split
 ·rename_i a0; intro v h; exact ⟨rfl, l_q27 v, rfl, (f_q27_top a0 _).trans (s_q27_ok a0 v h)⟩
 ·intro v h; cases h
noncomputable def f_q19_c : Code := match Try.f199.body with | some c => c | none => .skip
noncomputable def f_q19_X : Ctx := ⟨TT, phiOf [], noPsi, noXi⟩
def f_q19_LV : List (Nat × Keep) := [(3, ([3, 7, 8], [], []))]
def f_q19_rv : List ResultVar := [.tmp 2]
noncomputable def f_q19_L (r : List A) : Nat → AS → Option (List A) := L f_q19_X (cnOf f_q19_LV) f_q19_c (K0 TT f_q19_rv) r
theorem f_q19_ctx : CtxOK Try.prog f_q19_X := ctx_of tab mix trivial
noncomputable def f_q19_s3 (x0 x1 : Int) (x2 : List Int) : AS := ⟨[(3, .a (.sl 0)), (7, .a (.v (.int .i64 x0))), (8, .a (.v (.int .i64 x1)))], [(0, some ⟨true, .arr (.one (.i .i64)) x2⟩)], 1⟩
noncomputable def l_q19 (r : List Int) : List A := [.lst (.one (.i .i64)) r]
theorem f_q19_step3 (x0 x1 : Int) (x2 : List Int) (r : List A) (h : (cond (decide (x1 < x0)) (cond (fits ((List.length (x2 : List Int) + List.length ([x1] : List Int)) * 8)) (f_q19_L r 3 (f_q19_s3 x0 (IntKind.wrap .i64 (x1 + 1)) (x2 ++ [x1]))) none) (some [.lst (.one (.i .i64)) x2])) = some r) : f_q19_L r 3 (f_q19_s3 x0 x1 x2) = some r :=
 step_of' h (by kernel_rfl)
noncomputable def f_q19_n3 (x0 x1 : Int) (x2 : List Int) : Option ((Int × Int × (List Int)) ⊕ (List Int)) := (cond (decide (x1 < x0)) (cond (fits ((List.length (x2 : List Int) + List.length ([x1] : List Int)) * 8)) (some (Sum.inl (x0, (IntKind.wrap .i64 (x1 + 1)), (x2 ++ [x1])))) none) (some (Sum.inr x2)))
noncomputable def f_q19_run3 (x : (Int × Int × (List Int))) : Option (List Int) := iter (fun x => f_q19_n3 x.1 x.2.1 x.2.2) FU x
noncomputable def f_q19_G3 (r : List A) (x : (Int × Int × (List Int))) : Prop := f_q19_L r 3 (f_q19_s3 x.1 x.2.1 x.2.2) = some r
noncomputable def f_q19_S3 (r : List A) : (List Int) → Prop := fun v => r = l_q19 v
theorem f_q19_go3 (r : List A) : ∀ x, sem (f_q19_S3 r) (f_q19_run3 x) → f_q19_G3 r x :=
 fun x => iter_sound (step := fun x => f_q19_n3 x.1 x.2.1 x.2.2) (fun x h => by
  unfold f_q19_n3 at h
  exact f_q19_step3 x.1 x.2.1 x.2.2 r ((sem_cond h (fun h => (sem_cond h (fun h => sem_got h fun q => q) (fun h => sem_none h))) (fun h => sem_got h fun q => some_eq q)))) FU x
noncomputable def s_q19 (a0 : List (Int × Int)) : Option (List Int) := (f_q19_run3 (((List.length a0 : Nat) : Int), 0, []))
theorem f_q19_top (a0 : List (Int × Int)) (r : List A) : ev f_q19_X (lpc (cnOf f_q19_LV) (f_q19_L r)) f_q19_c (K0 TT f_q19_rv) (enter [.lst (.st [(.i .i8), (.i .u16)]) a0]) = (f_q19_L r 3 (f_q19_s3 ((List.length a0 : Nat) : Int) 0 [])) := by kernel_rfl
theorem s_q19_ok (a0 : List (Int × Int)) (v : List Int) (h : s_q19 a0 = some v) : (f_q19_L (l_q19 v) 3 (f_q19_s3 ((List.length a0 : Nat) : Int) 0 [])) = some (l_q19 v) := by
 unfold s_q19 at h
 have go : ∀ r, sem (fun v => r = l_q19 v) ((f_q19_run3 (((List.length a0 : Nat) : Int), 0, []))) → (f_q19_L r 3 (f_q19_s3 ((List.length a0 : Nat) : Int) 0 [])) = some r := fun r h => f_q19_go3 r _ h
 exact go (l_q19 v) ⟨v, h, rfl⟩
noncomputable def c_q19 : List A → ACall
 | [.lst (.st [(.i .i8), (.i .u16)]) a0] => ⟨(List Int), s_q19 a0, fun r => .one (.lst (.one (.i .i64)) r)⟩
 | _ => ACall.fail
theorem f_q19_sound : Sound Try.prog 199 c_q19 := by
 refine sound_good f_q19_ctx f_q19_LV 1 Try.func199 (c := f_q19_c) (by kernel_rfl) (rv := f_q19_rv) (by kernel_rfl) (by kernel_rfl) (by kernel_rfl) (by kernel_rfl) fun rs => ?_
 unfold c_q19
 split
 ·rename_i a0; intro v h; exact ⟨rfl, l_q19 v, rfl, (f_q19_top a0 _).trans (s_q19_ok a0 v h)⟩
 ·intro v h; cases h
noncomputable def f_q1e_c : Code := match Try.f205.body with | some c => c | none => .skip
noncomputable def f_q1e_X : Ctx := ⟨TT, phiOf [], noPsi, noXi⟩
def f_q1e_LV : List (Nat × Keep) := []
def f_q1e_rv : List ResultVar := [.tmp 4]
noncomputable def f_q1e_L (r : List A) : Nat → AS → Option (List A) := L f_q1e_X (cnOf f_q1e_LV) f_q1e_c (K0 TT f_q1e_rv) r
theorem f_q1e_ctx : CtxOK Try.prog f_q1e_X := ctx_of tab mix trivial
noncomputable def s_q1e (a0 a1 : Int) (a2 : List (Int × Int)) : Option Bool := (cond (decide (a0 < 0)) none (cond ((bAnd .u16 (bShr .u16 a1 a0) 1) == 0) (cond (inB a0 (List.length a2)) (some ((bAndNot .u16 (List.getD a2 (Int.toNat a0) ((0, 0) : (Int × Int))).2 a1) == 0)) none) (some false)))
theorem f_q1e_top (a0 a1 : Int) (a2 : List (Int × Int)) (r : List A) : ev f_q1e_X (lpc (cnOf f_q1e_LV) (f_q1e_L r)) f_q1e_c (K0 TT f_q1e_rv) (enter [.v (.int .i64 a0), .ref (.v (.int .u16 a1)), .ref (.lst (.st [(.i .i8), (.i .u16)]) a2)]) = (cond (decide (a0 < 0)) none (cond ((bAnd .u16 (bShr .u16 a1 a0) 1) == 0) (cond (inB a0 (List.length a2)) (some [.v (.bool ((bAndNot .u16 (List.getD a2 (Int.toNat a0) ((0, 0) : (Int × Int))).2 a1) == 0))]) none) (some [.v (.bool false)]))) := by kernel_rfl
noncomputable def l_q1e (r : Bool) : List A := [.v (.bool r)]
theorem s_q1e_ok (a0 a1 : Int) (a2 : List (Int × Int)) (v : Bool) (h : s_q1e a0 a1 a2 = some v) : (cond (decide (a0 < 0)) none (cond ((bAnd .u16 (bShr .u16 a1 a0) 1) == 0) (cond (inB a0 (List.length a2)) (some [.v (.bool ((bAndNot .u16 (List.getD a2 (Int.toNat a0) ((0, 0) : (Int × Int))).2 a1) == 0))]) none) (some [.v (.bool false)]))) = some (l_q1e v) := by
 have e : (cond (decide (a0 < 0)) none (cond ((bAnd .u16 (bShr .u16 a1 a0) 1) == 0) (cond (inB a0 (List.length a2)) (some [.v (.bool ((bAndNot .u16 (List.getD a2 (Int.toNat a0) ((0, 0) : (Int × Int))).2 a1) == 0))]) none) (some [.v (.bool false)]))) = Option.map l_q1e (s_q1e a0 a1 a2) := by
  unfold s_q1e
  exact (cond_app (Option.map l_q1e) rfl (cond_app (Option.map l_q1e) (cond_app (Option.map l_q1e) rfl rfl) rfl))
 rw [e, h]; rfl
noncomputable def c_q1e : List A → ACall
 | [.v (.int .i64 a0), .ref (.v (.int .u16 a1)), .ref (.lst (.st [(.i .i8), (.i .u16)]) a2)] => ⟨Bool, s_q1e a0 a1 a2, fun r => .one (.v (.bool r))⟩
 | _ => ACall.fail
theorem f_q1e_sound : Sound Try.prog 205 c_q1e := by
 refine sound_good f_q1e_ctx f_q1e_LV 3 Try.func205 (c := f_q1e_c) (by kernel_rfl) (rv := f_q1e_rv) (by kernel_rfl) (by kernel_rfl) (by kernel_rfl) (by kernel_rfl) fun rs => ?_
 unfold c_q1e
 split
 ·rename_i a0 a1 a2; intro v h; exact ⟨rfl, l_q1e v, rfl, (f_q1e_top a0 a1 a2 _).trans (s_q1e_ok a0 a1 a2 v h)⟩
 ·intro v h; cases h
noncomputable def f_q02_c : Code := match Try.f198.body with | some c => c | none => .skip
noncomputable def f_q02_X : Ctx := ⟨TT, phiOf [(205, c_q1e)], noPsi, noXi⟩
def f_q02_LV : List (Nat × Keep) := [(2, ([0, 1, 7, 8], [], []))]
def f_q02_rv : List ResultVar := [.tmp 4]
noncomputable def f_q02_L (r : List A) : Nat → AS → Option (List A) := L f_q02_X (cnOf f_q02_LV) f_q02_c (K0 TT f_q02_rv) r
theorem f_q02_ctx : CtxOK Try.prog f_q02_X := ctx_of tab mix ⟨⟨Try.call205, f_q1e_sound⟩, trivial⟩
noncomputable def f_q02_s2 (x0 x1 : Int) (x2 : List Int) (x3 : Int) (x4 : List (Int × Int)) : AS := ⟨[(0, .a (.sl 0)), (1, .a (.clo 205 [.ptr 1 [] (0), .ptr 2 [] (0)])), (7, .a (.v (.int .i64 x0))), (8, .a (.v (.int .i64 x1)))], [(0, some ⟨false, .arr (.one (.i .i64)) x2⟩), (1, some ⟨false, .box (.v (.int .u16 x3))⟩), (2, some ⟨false, .box (.sl 3)⟩), (3, some ⟨false, .arr (.st [(.i .i8), (.i .u16)]) x4⟩)], 4⟩
noncomputable def l_q02 (r : Int) : List A := [.v (.int .i64 r)]
theorem f_q02_step2 (x0 x1 : Int) (x2 : List Int) (x3 : Int) (x4 : List (Int × Int)) (r : List A) (h : (cond (decide (x1 < x0)) (cond (inB x1 (List.length x2)) (Option.bind (s_q1e (List.getD x2 (Int.toNat x1) 0) x3 x4) fun r1 => (cond r1 (some [.v (.int .i64 x1)]) (f_q02_L r 2 (f_q02_s2 x0 (IntKind.wrap .i64 (x1 + 1)) x2 x3 x4)))) none) (some [.v (.int .i64 (-1))])) = some r) : f_q02_L r 2 (f_q02_s2 x0 x1 x2 x3 x4) = some r :=
 step_of' h (by kernel_rfl)
noncomputable def f_q02_n2 (x0 x1 : Int) (x2 : List Int) (x3 : Int) (x4 : List (Int × Int)) : Option ((Int × Int × (List Int) × Int × (List (Int × Int))) ⊕ Int) := (cond (decide (x1 < x0)) (cond (inB x1 (List.length x2)) (Option.bind (s_q1e (List.getD x2 (Int.toNat x1) 0) x3 x4) fun r1 => (cond r1 (some (Sum.inr x1)) (some (Sum.inl (x0, (IntKind.wrap .i64 (x1 + 1)), x2, x3, x4))))) none) (some (Sum.inr (-1))))
noncomputable def f_q02_run2 (x : (Int × Int × (List Int) × Int × (List (Int × Int)))) : Option Int := iter (fun x => f_q02_n2 x.1 x.2.1 x.2.2.1 x.2.2.2.1 x.2.2.2.2) FU x
noncomputable def f_q02_G2 (r : List A) (x : (Int × Int × (List Int) × Int × (List (Int × Int)))) : Prop := f_q02_L r 2 (f_q02_s2 x.1 x.2.1 x.2.2.1 x.2.2.2.1 x.2.2.2.2) = some r
noncomputable def f_q02_S2 (r : List A) : Int → Prop := fun v => r = l_q02 v
theorem f_q02_go2 (r : List A) : ∀ x, sem (f_q02_S2 r) (f_q02_run2 x) → f_q02_G2 r x :=
 fun x => iter_sound (step := fun x => f_q02_n2 x.1 x.2.1 x.2.2.1 x.2.2.2.1 x.2.2.2.2) (fun x h => by
  unfold f_q02_n2 at h
  exact f_q02_step2 x.1 x.2.1 x.2.2.1 x.2.2.2.1 x.2.2.2.2 r ((sem_cond h (fun h => (sem_cond h (fun h => (sem_bind h fun r1 h => (sem_cond h (fun h => sem_got h fun q => some_eq q) (fun h => sem_got h fun q => q)))) (fun h => sem_none h))) (fun h => sem_got h fun q => some_eq q)))) FU x
noncomputable def s_q02 (a0 : List Int) (a1 : Int) (a2 : List (Int × Int)) : Option Int := (f_q02_run2 (((List.length a0 : Nat) : Int), 0, a0, a1, a2))
theorem f_q02_top (a0 : List Int) (a1 : Int) (a2 : List (Int × Int)) (r : List A) : ev f_q02_X (lpc (cnOf f_q02_LV) (f_q02_L r)) f_q02_c (K0 TT f_q02_rv) (enter [.lst (.one (.i .i64)) a0, .clo 205 [.ref (.v (.int .u16 a1)), .ref (.lst (.st [(.i .i8), (.i .u16)]) a2)]]) = (f_q02_L r 2 (f_q02_s2 ((List.length a0 : Nat) : Int) 0 a0 a1 a2)) := by kernel_rfl
theorem s_q02_ok (a0 : List Int) (a1 : Int) (a2 : List (Int × Int)) (v : Int) (h : s_q02 a0 a1 a2 = some v) : (f_q02_L (l_q02 v) 2 (f_q02_s2 ((List.length a0 : Nat) : Int) 0 a0 a1 a2)) = some (l_q02 v) := by
 unfold s_q02 at h
 have go : ∀ r, sem (fun v => r = l_q02 v) ((f_q02_run2 (((List.length a0 : Nat) : Int), 0, a0, a1, a2))) → (f_q02_L r 2 (f_q02_s2 ((List.length a0 : Nat) : Int) 0 a0 a1 a2)) = some r := fun r h => f_q02_go2 r _ h
 exact go (l_q02 v) ⟨v, h, rfl⟩
noncomputable def c_q02 : List A → ACall
 | [.lst (.one (.i .i64)) a0, .clo 205 [.ref (.v (.int .u16 a1)), .ref (.lst (.st [(.i .i8), (.i .u16)]) a2)]] => ⟨Int, s_q02 a0 a1 a2, fun r => .one (.v (.int .i64 r))⟩
 | _ => ACall.fail
theorem f_q02_sound : Sound Try.prog 198 c_q02 := by
 refine sound_good f_q02_ctx f_q02_LV 2 Try.func198 (c := f_q02_c) (by kernel_rfl) (rv := f_q02_rv) (by kernel_rfl) (by kernel_rfl) (by kernel_rfl) (by kernel_rfl) fun rs => ?_
 unfold c_q02
 split
 ·rename_i a0 a1 a2; intro v h; exact ⟨rfl, l_q02 v, rfl, (f_q02_top a0 a1 a2 _).trans (s_q02_ok a0 a1 a2 v h)⟩
 ·intro v h; cases h
noncomputable def f_q22_c : Code := match Try.f167.body with | some c => c | none => .skip
noncomputable def f_q22_X : Ctx := ⟨TT, phiOf [(198, c_q02), (199, c_q19)], noPsi, noXi⟩
def f_q22_LV : List (Nat × Keep) := [(3, ([1, 3, 4, 8, 9], [], []))]
def f_q22_rv : List ResultVar := [.tmp 2]
noncomputable def f_q22_L (r : List A) : Nat → AS → Option (List A) := L f_q22_X (cnOf f_q22_LV) f_q22_c (K0 TT f_q22_rv) r
theorem f_q22_ctx : CtxOK Try.prog f_q22_X := ctx_of tab mix ⟨⟨Try.call198, f_q02_sound⟩, ⟨Try.call199, f_q19_sound⟩, trivial⟩
noncomputable def f_q22_s3 (x0 x1 : Int) (x2 : List (Int × Int)) (x3 : List Int) (x4 : Int) : AS := ⟨[(1, .a (.ptr 0 [] (0))), (3, .a (.sl 2)), (4, .a (.ptr 3 [] (0))), (8, .a (.v (.int .i64 x0))), (9, .a (.v (.int .i64 x1)))], [(0, some ⟨true, .box (.sl 1)⟩), (1, some ⟨false, .arr (.st [(.i .i8), (.i .u16)]) x2⟩), (2, some ⟨true, .arr (.one (.i .i64)) x3⟩), (3, some ⟨true, .box (.v (.int .u16 x4))⟩)], 4⟩
noncomputable def l_q22 (r : List Int) : List A := [.lst (.one (.i .i64)) r]
theorem f_q22_step3 (x0 x1 : Int) (x2 : List (Int × Int)) (x3 : List Int) (x4 : Int) (r : List A) (h : (cond (decide (x1 < x0)) (Option.bind (s_q19 x2) fun r1 => (Option.bind (s_q02 r1 x4 x2) fun r2 => (cond (decide (r2 < 0)) (some [.lst (.one (.i .i64)) x3]) (cond (fits ((List.length (x3 : List Int) + List.length ([r2] : List Int)) * 8)) (cond (decide (r2 < 0)) none (f_q22_L r 3 (f_q22_s3 x0 (IntKind.wrap .i64 (x1 + 1)) x2 (x3 ++ [r2]) (bOr .u16 x4 (bShl .u16 1 r2))))) none)))) (some [.lst (.one (.i .i64)) x3])) = some r) : f_q22_L r 3 (f_q22_s3 x0 x1 x2 x3 x4) = some r :=
 step_of' h (by kernel_rfl)
noncomputable def f_q22_n3 (x0 x1 : Int) (x2 : List (Int × Int)) (x3 : List Int) (x4 : Int) : Option ((Int × Int × (List (Int × Int)) × (List Int) × Int) ⊕ (List Int)) := (cond (decide (x1 < x0)) (Option.bind (s_q19 x2) fun r1 => (Option.bind (s_q02 r1 x4 x2) fun r2 => (cond (decide (r2 < 0)) (some (Sum.inr x3)) (cond (fits ((List.length (x3 : List Int) + List.length ([r2] : List Int)) * 8)) (cond (decide (r2 < 0)) none (some (Sum.inl (x0, (IntKind.wrap .i64 (x1 + 1)), x2, (x3 ++ [r2]), (bOr .u16 x4 (bShl .u16 1 r2)))))) none)))) (some (Sum.inr x3)))
noncomputable def f_q22_run3 (x : (Int × Int × (List (Int × Int)) × (List Int) × Int)) : Option (List Int) := iter (fun x => f_q22_n3 x.1 x.2.1 x.2.2.1 x.2.2.2.1 x.2.2.2.2) FU x
noncomputable def f_q22_G3 (r : List A) (x : (Int × Int × (List (Int × Int)) × (List Int) × Int)) : Prop := f_q22_L r 3 (f_q22_s3 x.1 x.2.1 x.2.2.1 x.2.2.2.1 x.2.2.2.2) = some r
noncomputable def f_q22_S3 (r : List A) : (List Int) → Prop := fun v => r = l_q22 v
theorem f_q22_go3 (r : List A) : ∀ x, sem (f_q22_S3 r) (f_q22_run3 x) → f_q22_G3 r x :=
 fun x => iter_sound (step := fun x => f_q22_n3 x.1 x.2.1 x.2.2.1 x.2.2.2.1 x.2.2.2.2) (fun x h => by
  unfold f_q22_n3 at h
  exact f_q22_step3 x.1 x.2.1 x.2.2.1 x.2.2.2.1 x.2.2.2.2 r ((sem_cond h (fun h => (sem_bind h fun r1 h => (sem_bind h fun r2 h => (sem_cond h (fun h => sem_got h fun q => some_eq q) (fun h => (sem_cond h (fun h => (sem_cond h (fun h => sem_none h) (fun h => sem_got h fun q => q))) (fun h => sem_none h))))))) (fun h => sem_got h fun q => some_eq q)))) FU x
noncomputable def s_q22 (a0 : List (Int × Int)) : Option (List Int) := (f_q22_run3 (((List.length a0 : Nat) : Int), 0, a0, [], 0))
theorem f_q22_top (a0 : List (Int × Int)) (r : List A) : ev f_q22_X (lpc (cnOf f_q22_LV) (f_q22_L r)) f_q22_c (K0 TT f_q22_rv) (enter [.lst (.st [(.i .i8), (.i .u16)]) a0]) = (f_q22_L r 3 (f_q22_s3 ((List.length a0 : Nat) : Int) 0 a0 [] 0)) := by kernel_rfl
theorem s_q22_ok (a0 : List (Int × Int)) (v : List Int) (h : s_q22 a0 = some v) : (f_q22_L (l_q22 v) 3 (f_q22_s3 ((List.length a0 : Nat) : Int) 0 a0 [] 0)) = some (l_q22 v) := by
 unfold s_q22 at h
 have go : ∀ r, sem (fun v => r = l_q22 v) ((f_q22_run3 (((List.length a0 : Nat) : Int), 0, a0, [], 0))) → (f_q22_L r 3 (f_q22_s3 ((List.length a0 : Nat) : Int) 0 a0 [] 0)) = some r := fun r h => f_q22_go3 r _ h
 exact go (l_q22 v) ⟨v, h, rfl⟩
noncomputable def c_q22 : List A → ACall
 | [.lst (.st [(.i .i8), (.i .u16)]) a0] => ⟨(List Int), s_q22 a0, fun r => .one (.lst (.one (.i .i64)) r)⟩
 | _ => ACall.fail
theorem f_q22_sound : Sound Try.prog 167 c_q22 := by
 refine sound_good f_q22_ctx f_q22_LV 1 Try.func167 (c := f_q22_c) (by kernel_rfl) (rv := f_q22_rv) (by kernel_rfl) (by kernel_rfl) (by kernel_rfl) (by kernel_rfl) fun rs => ?_
 unfold c_q22
 split
 ·rename_i a0; intro v h; exact ⟨rfl, l_q22 v, rfl, (f_q22_top a0 _).trans (s_q22_ok a0 v h)⟩
 ·intro v h; cases h
noncomputable def f_q0c_c : Code := match Try.f166.body with | some c => c | none => .skip
noncomputable def f_q0c_X : Ctx := ⟨TT, phiOf [(92, c_q1v)], noPsi, noXi⟩
def f_q0c_LV : List (Nat × Keep) := []
def f_q0c_rv : List ResultVar := [.tmp 3]
noncomputable def f_q0c_L (r : List A) : Nat → AS → Option (List A) := L f_q0c_X (cnOf f_q0c_LV) f_q0c_c (K0 TT f_q0c_rv) r
theorem f_q0c_ctx : CtxOK Try.prog f_q0c_X := ctx_of tab mix ⟨⟨Try.call92, f_q1v_sound⟩, trivial⟩
noncomputable def s_q0c (a0 a1 a2 : Int) : Option Bool := (cond (!(s_q1v (IntKind.wrap .i64 a0) 1 30)) (some true) (cond (decide (a2 < 0)) none (some ((bShr .u16 a1 a2) != 0))))
theorem f_q0c_top (a0 a1 a2 : Int) (r : List A) : ev f_q0c_X (lpc (cnOf f_q0c_LV) (f_q0c_L r)) f_q0c_c (K0 TT f_q0c_rv) (enter [.rc [.v (.int .i8 a0), .v (.int .u16 a1)], .ref (.v (.int .i64 a2))]) = (cond (!(s_q1v (IntKind.wrap .i64 a0) 1 30)) (some [.v (.bool true)]) (cond (decide (a2 < 0)) none (some [.v (.bool ((bShr .u16 a1 a2) != 0))]))) := by kernel_rfl
noncomputable def l_q0c (r : Bool) : List A := [.v (.bool r)]
theorem s_q0c_ok (a0 a1 a2 : Int) (v : Bool) (h : s_q0c a0 a1 a2 = some v) : (cond (!(s_q1v (IntKind.wrap .i64 a0) 1 30)) (some [.v (.bool true)]) (cond (decide (a2 < 0)) none (some [.v (.bool ((bShr .u16 a1 a2) != 0))]))) = some (l_q0c v) := by
 have e : (cond (!(s_q1v (IntKind.wrap .i64 a0) 1 30)) (some [.v (.bool true)]) (cond (decide (a2 < 0)) none (some [.v (.bool ((bShr .u16 a1 a2) != 0))]))) = Option.map l_q0c (s_q0c a0 a1 a2) := by
  unfold s_q0c
  exact (cond_app (Option.map l_q0c) rfl (cond_app (Option.map l_q0c) rfl rfl))
 rw [e, h]; rfl
noncomputable def c_q0c : List A → ACall
 | [.rc [.v (.int .i8 a0), .v (.int .u16 a1)], .ref (.v (.int .i64 a2))] => ⟨Bool, s_q0c a0 a1 a2, fun r => .one (.v (.bool r))⟩
 | _ => ACall.fail
theorem f_q0c_sound : Sound Try.prog 166 c_q0c := by
 refine sound_good f_q0c_ctx f_q0c_LV 2 Try.func166 (c := f_q0c_c) (by kernel_rfl) (rv := f_q0c_rv) (by kernel_rfl) (by kernel_rfl) (by kernel_rfl) (by kernel_rfl) fun rs => ?_
 unfold c_q0c
 split
 ·rename_i a0 a1 a2; intro v h; exact ⟨rfl, l_q0c v, rfl, (f_q0c_top a0 a1 a2 _).trans (s_q0c_ok a0 a1 a2 v h)⟩
 ·intro v h; cases h
noncomputable def f_q01_c : Code := match Try.f204.body with | some c => c | none => .skip
noncomputable def f_q01_X : Ctx := ⟨TT, phiOf [(166, c_q0c)], noPsi, noXi⟩
def f_q01_LV : List (Nat × Keep) := [(2, ([0, 1, 7, 8], [], []))]
def f_q01_rv : List ResultVar := [.tmp 4]
noncomputable def f_q01_L (r : List A) : Nat → AS → Option (List A) := L f_q01_X (cnOf f_q01_LV) f_q01_c (K0 TT f_q01_rv) r
theorem f_q01_ctx : CtxOK Try.prog f_q01_X := ctx_of tab mix ⟨⟨Try.call166, f_q0c_sound⟩, trivial⟩
noncomputable def f_q01_s2 (x0 x1 : Int) (x2 : List (Int × Int)) (x3 : Int) : AS := ⟨[(0, .a (.sl 0)), (1, .a (.clo 166 [.ptr 1 [] (0)])), (7, .a (.v (.int .i64 x0))), (8, .a (.v (.int .i64 x1)))], [(0, some ⟨false, .arr (.st [(.i .i8), (.i .u16)]) x2⟩), (1, some ⟨false, .box (.v (.int .i64 x3))⟩)], 2⟩
noncomputable def l_q01 (r : Int) : List A := [.v (.int .i64 r)]
theorem f_q01_step2 (x0 x1 : Int) (x2 : List (Int × Int)) (x3 : Int) (r : List A) (h : (cond (decide (x1 < x0)) (cond (inB x1 (List.length x2)) (Option.bind (s_q0c (List.getD x2 (Int.toNat x1) ((0, 0) : (Int × Int))).1 (List.getD x2 (Int.toNat x1) ((0, 0) : (Int × Int))).2 x3) fun r1 => (cond r1 (some [.v (.int .i64 x1)]) (f_q01_L r 2 (f_q01_s2 x0 (IntKind.wrap .i64 (x1 + 1)) x2 x3)))) none) (some [.v (.int .i64 (-1))])) = some r) : f_q01_L r 2 (f_q01_s2 x0 x1 x2 x3) = some r :=
 step_of' h (by kernel_rfl)
noncomputable def f_q01_n2 (x0 x1 : Int) (x2 : List (Int × Int)) (x3 : Int) : Option ((Int × Int × (List (Int × Int)) × Int) ⊕ Int) := (cond (decide (x1 < x0)) (cond (inB x1 (List.length x2)) (Option.bind (s_q0c (List.getD x2 (Int.toNat x1) ((0, 0) : (Int × Int))).1 (List.getD x2 (Int.toNat x1) ((0, 0) : (Int × Int))).2 x3) fun r1 => (cond r1 (some (Sum.inr x1)) (some (Sum.inl (x0, (IntKind.wrap .i64 (x1 + 1)), x2, x3))))) none) (some (Sum.inr (-1))))
noncomputable def f_q01_run2 (x : (Int × Int × (List (Int × Int)) × Int)) : Option Int := iter (fun x => f_q01_n2 x.1 x.2.1 x.2.2.1 x.2.2.2) FU x
noncomputable def f_q01_G2 (r : List A) (x : (Int × Int × (List (Int × Int)) × Int)) : Prop := f_q01_L r 2 (f_q01_s2 x.1 x.2.1 x.2.2.1 x.2.2.2) = some r
noncomputable def f_q01_S2 (r : List A) : Int → Prop := fun v => r = l_q01 v
theorem f_q01_go2 (r : List A) : ∀ x, sem (f_q01_S2 r) (f_q01_run2 x) → f_q01_G2 r x :=
 fun x => iter_sound (step := fun x => f_q01_n2 x.1 x.2.1 x.2.2.1 x.2.2.2) (fun x h => by
  unfold f_q01_n2 at h
  exact f_q01_step2 x.1 x.2.1 x.2.2.1 x.2.2.2 r ((sem_cond h (fun h => (sem_cond h (fun h => (sem_bind h fun r1 h => (sem_cond h (fun h => sem_got h fun q => some_eq q) (fun h => sem_got h fun q => q)))) (fun h => sem_none h))) (fun h => sem_got h fun q => some_eq q)))) FU x
noncomputable def s_q01 (a0 : List (Int × Int)) (a1 : Int) : Option Int := (f_q01_run2 (((List.length a0 : Nat) : Int), 0, a0, a1))
theorem f_q01_top (a0 : List (Int × Int)) (a1 : Int) (r : List A) : ev f_q01_X (lpc (cnOf f_q01_LV) (f_q01_L r)) f_q01_c (K0 TT f_q01_rv) (enter [.lst (.st [(.i .i8), (.i .u16)]) a0, .clo 166 [.ref (.v (.int .i64 a1))]]) = (f_q01_L r 2 (f_q01_s2 ((List.length a0 : Nat) : Int) 0 a0 a1)) := by kernel_rfl
theorem s_q01_ok (a0 : List (Int × Int)) (a1 v : Int) (h : s_q01 a0 a1 = some v) : (f_q01_L (l_q01 v) 2 (f_q01_s2 ((List.length a0 : Nat) : Int) 0 a0 a1)) = some (l_q01 v) := by
 unfold s_q01 at h
 have go : ∀ r, sem (fun v => r = l_q01 v) ((f_q01_run2 (((List.length a0 : Nat) : Int), 0, a0, a1))) → (f_q01_L r 2 (f_q01_s2 ((List.length a0 : Nat) : Int) 0 a0 a1)) = some r := fun r h => f_q01_go2 r _ h
 exact go (l_q01 v) ⟨v, h, rfl⟩
noncomputable def c_q01 : List A → ACall
 | [.lst (.st [(.i .i8), (.i .u16)]) a0, .clo 166 [.ref (.v (.int .i64 a1))]] => ⟨Int, s_q01 a0 a1, fun r => .one (.v (.int .i64 r))⟩
 | _ => ACall.fail
theorem f_q01_sound : Sound Try.prog 204 c_q01 := by
 refine sound_good f_q01_ctx f_q01_LV 2 Try.func204 (c := f_q01_c) (by kernel_rfl) (rv := f_q01_rv) (by kernel_rfl) (by kernel_rfl) (by kernel_rfl) (by kernel_rfl) fun rs => ?_
 unfold c_q01
 split
 ·rename_i a0 a1; intro v h; exact ⟨rfl, l_q01 v, rfl, (f_q01_top a0 a1 _).trans (s_q01_ok a0 a1 v h)⟩
 ·intro v h; cases h
noncomputable def f_q00_c : Code := match Try.f165.body with | some c => c | none => .skip
noncomputable def f_q00_X : Ctx := ⟨TT, phiOf [(204, c_q01)], noPsi, noXi⟩
def f_q00_LV : List (Nat × Keep) := []
def f_q00_rv : List ResultVar := [.tmp 4]
noncomputable def f_q00_L (r : List A) : Nat → AS → Option (List A) := L f_q00_X (cnOf f_q00_LV) f_q00_c (K0 TT f_q00_rv) r
theorem f_q00_ctx : CtxOK Try.prog f_q00_X := ctx_of tab mix ⟨⟨Try.call204, f_q01_sound⟩, trivial⟩
noncomputable def s_q00 (a0 : List (Int × Int)) (a1 : Int) : Option Bool := (Option.bind (s_q01 a0 a1) fun r1 => (some (decide (r1 ≥ 0))))
theorem f_q00_top (a0 : List (Int × Int)) (a1 : Int) (r : List A) : ev f_q00_X (lpc (cnOf f_q00_LV) (f_q00_L r)) f_q00_c (K0 TT f_q00_rv) (enter [.lst (.st [(.i .i8), (.i .u16)]) a0, .clo 166 [.ref (.v (.int .i64 a1))]]) = (Option.bind (s_q01 a0 a1) fun r1 => (some [.v (.bool (decide (r1 ≥ 0)))])) := by kernel_rfl
noncomputable def l_q00 (r : Bool) : List A := [.v (.bool r)]
theorem s_q00_ok (a0 : List (Int × Int)) (a1 : Int) (v : Bool) (h : s_q00 a0 a1 = some v) : (Option.bind (s_q01 a0 a1) fun r1 => (some [.v (.bool (decide (r1 ≥ 0)))])) = some (l_q00 v) := by
 have e : (Option.bind (s_q01 a0 a1) fun r1 => (some [.v (.bool (decide (r1 ≥ 0)))])) = Option.map l_q00 (s_q00 a0 a1) := by
  unfold s_q00
  exact (bind_app fun _ => rfl)
 rw [e, h]; rfl
noncomputable def c_q00 : List A → ACall
 | [.lst (.st [(.i .i8), (.i .u16)]) a0, .clo 166 [.ref (.v (.int .i64 a1))]] => ⟨Bool, s_q00 a0 a1, fun r => .one (.v (.bool r))⟩
 | _ => ACall.fail
theorem f_q00_sound : Sound Try.prog 165 c_q00 := by
 refine sound_good f_q00_ctx f_q00_LV 2 Try.func165 (c := f_q00_c) (by kernel_rfl) (rv := f_q00_rv) (by kernel_rfl) (by kernel_rfl) (by kernel_rfl) (by kernel_rfl) fun rs => ?_
 unfold c_q00
 split
 ·rename_i a0 a1; intro v h; exact ⟨rfl, l_q00 v, rfl, (f_q00_top a0 a1 _).trans (s_q00_ok a0 a1 v h)⟩
 ·intro v h; cases h
noncomputable def f_q0p_c : Code := match Try.f108.body with | some c => c | none => .skip
noncomputable def f_q0p_X : Ctx := ⟨TT, phiOf [(165, c_q00), (167, c_q22)], noPsi, noXi⟩
def f_q0p_LV : List (Nat × Keep) := []
def f_q0p_rv : List ResultVar := [.tmp 2]
noncomputable def f_q0p_L (r : List A) : Nat → AS → Option (List A) := L f_q0p_X (cnOf f_q0p_LV) f_q0p_c (K0 TT f_q0p_rv) r
theorem f_q0p_ctx : CtxOK Try.prog f_q0p_X := ctx_of tab mix ⟨⟨Try.call165, f_q00_sound⟩, ⟨Try.call167, f_q22_sound⟩, trivial⟩
noncomputable def s_q0p (a0 : List (Int × Int)) : Option Bool := (cond (decide (((List.length a0 : Nat) : Int) ≤ 12)) (Option.bind (s_q00 a0 ((List.length a0 : Nat) : Int)) fun r1 => (cond (!r1) (Option.bind (s_q22 a0) fun r2 => (some (((List.length r2 : Nat) : Int) == ((List.length a0 : Nat) : Int)))) (some false))) (some false))
theorem f_q0p_top (a0 : List (Int × Int)) (r : List A) : ev f_q0p_X (lpc (cnOf f_q0p_LV) (f_q0p_L r)) f_q0p_c (K0 TT f_q0p_rv) (enter [.lst (.st [(.i .i8), (.i .u16)]) a0]) = (cond (decide (((List.length a0 : Nat) : Int) ≤ 12)) (Option.bind (s_q00 a0 ((List.length a0 : Nat) : Int)) fun r1 => (cond (!r1) (Option.bind (s_q22 a0) fun r2 => (some [.v (.bool (((List.length r2 : Nat) : Int) == ((List.length a0 : Nat) : Int)))])) (some [.v (.bool false)]))) (some [.v (.bool false)])) := by kernel_rfl
noncomputable def l_q0p (r : Bool) : List A := [.v (.bool r)]
theorem s_q0p_ok (a0 : List (Int × Int)) (v : Bool) (h : s_q0p a0 = some v) : (cond (decide (((List.length a0 : Nat) : Int) ≤ 12)) (Option.bind (s_q00 a0 ((List.length a0 : Nat) : Int)) fun r1 => (cond (!r1) (Option.bind (s_q22 a0) fun r2 => (some [.v (.bool (((List.length r2 : Nat) : Int) == ((List.length a0 : Nat) : Int)))])) (some [.v (.bool false)]))) (some [.v (.bool false)])) = some (l_q0p v) := by
 have e : (cond (decide (((List.length a0 : Nat) : Int) ≤ 12)) (Option.bind (s_q00 a0 ((List.length a0 : Nat) : Int)) fun r1 => (cond (!r1) (Option.bind (s_q22 a0) fun r2 => (some [.v (.bool (((List.length r2 : Nat) : Int) == ((List.length a0 : Nat) : Int)))])) (some [.v (.bool false)]))) (some [.v (.bool false)])) = Option.map l_q0p (s_q0p a0) := by
  unfold s_q0p
  exact (cond_app (Option.map l_q0p) (bind_app fun _ => (cond_app (Option.map l_q0p) (bind_app fun _ => rfl) rfl)) rfl)
 rw [e, h]; rfl
noncomputable def c_q0p : List A → ACall
 | [.lst (.st [(.i .i8), (.i .u16)]) a0] => ⟨Bool, s_q0p a0, fun r => .one (.v (.bool r))⟩
 | _ => ACall.fail
theorem f_q0p_sound : Sound Try.prog 108 c_q0p := by
 refine sound_good f_q0p_ctx f_q0p_LV 1 Try.func108 (c := f_q0p_c) (by kernel_rfl) (rv := f_q0p_rv) (by kernel_rfl) (by kernel_rfl) (by kernel_rfl) (by kernel_rfl) fun rs => ?_
 unfold c_q0p
 split
 ·rename_i a0; intro v h; exact ⟨rfl, l_q0p v, rfl, (f_q0p_top a0 _).trans (s_q0p_ok a0 v h)⟩
 ·intro v h; cases h
noncomputable def f_q18_c : Code := match Try.f195.body with | some c => c | none => .skip
noncomputable def f_q18_X : Ctx := ⟨TT, phiOf [], noPsi, noXi⟩
def f_q18_LV : List (Nat × Keep) := []
def f_q18_rv : List ResultVar := [.tmp 6]
noncomputable def f_q18_L (r : List A) : Nat → AS → Option (List A) := L f_q18_X (cnOf f_q18_LV) f_q18_c (K0 TT f_q18_rv) r
theorem f_q18_ctx : CtxOK Try.prog f_q18_X := ctx_of tab mix trivial
noncomputable def s_q18 (a0 : List (Int × Int)) (a1 a2 : Int) : Option Bool := (cond (inB a1 (List.length a0)) (cond (decide ((IntKind.wrap .u64 a2) < 0)) none (some ((Int.tmod (bShr .u16 (List.getD a0 (Int.toNat a1) ((0, 0) : (Int × Int))).2 (IntKind.wrap .u64 a2)) 2) == 1))) none)
theorem f_q18_top (a0 : List (Int × Int)) (a1 a2 : Int) (r : List A) : ev f_q18_X (lpc (cnOf f_q18_LV) (f_q18_L r)) f_q18_c (K0 TT f_q18_rv) (enter [.lst (.st [(.i .i8), (.i .u16)]) a0, .v (.int .i64 a1), .v (.int .i64 a2)]) = (cond (inB a1 (List.length a0)) (cond (decide ((IntKind.wrap .u64 a2) < 0)) none (some [.v (.bool ((Int.tmod (bShr .u16 (List.getD a0 (Int.toNat a1) ((0, 0) : (Int × Int))).2 (IntKind.wrap .u64 a2)) 2) == 1))])) none) := by kernel_rfl
noncomputable def l_q18 (r : Bool) : List A := [.v (.bool r)]
theorem s_q18_ok (a0 : List (Int × Int)) (a1 a2 : Int) (v : Bool) (h : s_q18 a0 a1 a2 = some v) : (cond (inB a1 (List.length a0)) (cond (decide ((IntKind.wrap .u64 a2) < 0)) none (some [.v (.bool ((Int.tmod (bShr .u16 (List.getD a0 (Int.toNat a1) ((0, 0) : (Int × Int))).2 (IntKind.wrap .u64 a2)) 2) == 1))])) none) = some (l_q18 v) := by
 have e : (cond (inB a1 (List.length a0)) (cond (decide ((IntKind.wrap .u64 a2) < 0)) none (some [.v (.bool ((Int.tmod (bShr .u16 (List.getD a0 (Int.toNat a1) ((0, 0) : (Int × Int))).2 (IntKind.wrap .u64 a2)) 2) == 1))])) none) = Option.map l_q18 (s_q18 a0 a1 a2) := by
  unfold s_q18
  exact (cond_app (Option.map l_q18) (cond_app (Option.map l_q18) rfl rfl) rfl)
 rw [e, h]; rfl
noncomputable def c_q18 : List A → ACall
 | [.lst (.st [(.i .i8), (.i .u16)]) a0, .v (.int .i64 a1), .v (.int .i64 a2)] => ⟨Bool, s_q18 a0 a1 a2, fun r => .one (.v (.bool r))⟩
 | _ => ACall.fail
theorem f_q18_sound : Sound Try.prog 195 c_q18 := by
 refine sound_good f_q18_ctx f_q18_LV 3 Try.func195 (c := f_q18_c) (by kernel_rfl) (rv := f_q18_rv) (by kernel_rfl) (by kernel_rfl) (by kernel_rfl) (by kernel_rfl) fun rs => ?_
 unfold c_q18
 split
 ·rename_i a0 a1 a2; intro v h; exact ⟨rfl, l_q18 v, rfl, (f_q18_top a0 a1 a2 _).trans (s_q18_ok a0 a1 a2 v h)⟩
 ·intro v h; cases h
noncomputable def f_q0o_c : Code := match Try.f194.body with | some c => c | none => .skip
noncomputable def f_q0o_X : Ctx := ⟨TT, phiOf [], noPsi, noXi⟩
def f_q0o_LV : List (Nat × Keep) := []
def f_q0o_rv : List ResultVar := [.tmp 4]
noncomputable def f_q0o_L (r : List A) : Nat → AS → Option (List A) := L f_q0o_X (cnOf f_q0o_LV) f_q0o_c (K0 TT f_q0o_rv) r
theorem f_q0o_ctx : CtxOK Try.prog f_q0o_X := ctx_of tab mix trivial
noncomputable def s_q0o (a0 a1 a2 : Int) : Option Bool := (cond (decide (a2 < 0)) none (some ((bAnd .u16 (bShr .u16 a1 a2) 1) == 1)))
theorem f_q0o_top (a0 a1 a2 : Int) (r : List A) : ev f_q0o_X (lpc (cnOf f_q0o_LV) (f_q0o_L r)) f_q0o_c (K0 TT f_q0o_rv) (enter [.rc [.v (.int .i8 a0), .v (.int .u16 a1)], .v (.int .i64 a2)]) = (cond (decide (a2 < 0)) none (some [.v (.bool ((bAnd .u16 (bShr .u16 a1 a2) 1) == 1))])) := by kernel_rfl
noncomputable def l_q0o (r : Bool) : List A := [.v (.bool r)]
theorem s_q0o_ok (a0 a1 a2 : Int) (v : Bool) (h : s_q0o a0 a1 a2 = some v) : (cond (decide (a2 < 0)) none (some [.v (.bool ((bAnd .u16 (bShr .u16 a1 a2) 1) == 1))])) = some (l_q0o v) := by
 have e : (cond (decide (a2 < 0)) none (some [.v (.bool ((bAnd .u16 (bShr .u16 a1 a2) 1) == 1))])) = Option.map l_q0o (s_q0o a0 a1 a2) := by
  unfold s_q0o
  exact (cond_app (Option.map l_q0o) rfl rfl)
 rw [e, h]; rfl
noncomputable def c_q0o : List A → ACall
 | [.rc [.v (.int .i8 a0), .v (.int .u16 a1)], .v (.int .i64 a2)] => ⟨Bool, s_q0o a0 a1 a2, fun r => .one (.v (.bool r))⟩
 | _ => ACall.fail
theorem f_q0o_sound : Sound Try.prog 194 c_q0o := by
 refine sound_good f_q0o_ctx f_q0o_LV 2 Try.func194 (c := f_q0o_c) (by kernel_rfl) (rv := f_q0o_rv) (by kernel_rfl) (by kernel_rfl) (by kernel_rfl) (by kernel_rfl) fun rs => ?_
 unfold c_q0o
 split
 ·rename_i a0 a1 a2; intro v h; exact ⟨rfl, l_q0o v, rfl, (f_q0o_top a0 a1 a2 _).trans (s_q0o_ok a0 a1 a2 v h)⟩
 ·intro v h; cases h
end Go.RR
