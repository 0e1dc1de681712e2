/- Jobs of a text, jobs as texts. -/
import Derived.Test.YtbmaolhjplapoaaGreatDoorVa
import Derived.Test.YtbmaolhjplapoaaGreatDoorRw
set_option linter.unusedVariables false
set_option linter.unusedSimpArgs false
set_option linter.unusedSectionVars false
set_option maxRecDepth 100000
namespace Go.RR
open Go Go.Proofs
noncomputable def f_q1n_c := codeC Tryz.f138
noncomputable def f_q1n_X : Ctx := ⟨TT, phiOf [], noPsi, noXi⟩
def f_q1n_LV : List (Nat × Keep) := [(3, ([3, 7, 8], [], []))]
def f_q1n_rv : List ResultVar := [.tmp 2]
noncomputable def f_q1n_L := Lq f_q1n_X f_q1n_LV f_q1n_c f_q1n_rv
theorem f_q1n_ctx : CtxOK Tryz.prog f_q1n_X := ctx_of tab mix trivial
noncomputable def f_q1n_s3 (x0 x1 : Int) (x2 : List Int) : AS := ⟨[(3, .a (.sl 0)), (7, .a (.v (.int .i64 x0))), (8, .a (.v (.int .i64 x1)))], [(0, some ⟨true, .arr (.one (.i .i64)) x2⟩)], 1⟩
noncomputable def l_q1n (r : List Int) : List A := [.lst (.one (.i .i64)) r]
theorem f_q1n_step3 (x0 x1 : Int) (x2 : List Int) (r : List A) (h : (cond (decide (x1 < x0)) (cond (fits ((List.length (x2 : List Int) + List.length ([x1] : List Int)) * 8)) (f_q1n_L r 3 (f_q1n_s3 x0 (IntKind.wrap .i64 (x1 + 1)) (x2 ++ [x1]))) none) (some [.lst (.one (.i .i64)) x2])) = some r) : f_q1n_L r 3 (f_q1n_s3 x0 x1 x2) = some r :=
 step_of' h (by kernel_rfl)
noncomputable def f_q1n_n3 (x0 x1 : Int) (x2 : List Int) : Option ((Int × Int × (List Int)) ⊕ (List Int)) := (cond (decide (x1 < x0)) (cond (fits ((List.length (x2 : List Int) + List.length ([x1] : List Int)) * 8)) (some (Sum.inl (x0, (IntKind.wrap .i64 (x1 + 1)), (x2 ++ [x1])))) none) (some (Sum.inr x2)))
noncomputable def f_q1n_run3 (x : (Int × Int × (List Int))) : Option (List Int) := iter (fun x => f_q1n_n3 x.1 x.2.1 x.2.2) FU x
noncomputable def f_q1n_G3 (r : List A) (x : (Int × Int × (List Int))) : Prop := f_q1n_L r 3 (f_q1n_s3 x.1 x.2.1 x.2.2) = some r
noncomputable def f_q1n_S3 (r : List A) : (List Int) → Prop := fun v => r = l_q1n v
theorem f_q1n_go3 (r : List A) : ∀ x, sem (f_q1n_S3 r) (f_q1n_run3 x) → f_q1n_G3 r x :=
 fun x => iter_sound (step := fun x => f_q1n_n3 x.1 x.2.1 x.2.2) (fun x h => by
  unfold f_q1n_n3 at h
  exact f_q1n_step3 x.1 x.2.1 x.2.2 r ((sem_cond h (fun h => (sem_cond h (fun h => sem_got h fun q => q) (fun h => sem_none h))) (fun h => sem_got h fun q => some_eq q)))) FU x
noncomputable def s_q1n (a0 : List (Int × Int)) : Option (List Int) := (f_q1n_run3 (((List.length a0 : Nat) : Int), 0, []))
theorem f_q1n_top (a0 : List (Int × Int)) (r : List A) : Tq f_q1n_X f_q1n_LV f_q1n_c f_q1n_rv r [.lst (.st [(.i .i8), (.i .u16)]) a0] = (f_q1n_L r 3 (f_q1n_s3 ((List.length a0 : Nat) : Int) 0 [])) := by kernel_rfl
theorem s_q1n_ok (a0 : List (Int × Int)) (v : List Int) (h : s_q1n a0 = some v) : (f_q1n_L (l_q1n v) 3 (f_q1n_s3 ((List.length a0 : Nat) : Int) 0 [])) = some (l_q1n v) := by
 replace h : sem (fun w => l_q1n v = l_q1n w) (s_q1n a0) := ⟨v, h, rfl⟩
 unfold s_q1n at h
 exact f_q1n_go3 (l_q1n v) _ h
noncomputable def c_q1n : List A → ACall
 | [.lst (.st [(.i .i8), (.i .u16)]) a0] => ⟨(List Int), s_q1n a0, fun r => .one (.lst (.one (.i .i64)) r)⟩
 | _ => ACall.fail
theorem f_q1n_sound : Sound Tryz.prog 138 c_q1n := by
 refine good f_q1n_ctx f_q1n_LV f_q1n_c f_q1n_rv 1 Tryz.func138 fun rs => ?_
 unfold c_q1n
 split
 ·rename_i a0; intro v h; exact ⟨rfl, l_q1n v, rfl, (f_q1n_top a0 _).trans (s_q1n_ok a0 v h)⟩
 ·intro v h; cases h
noncomputable def f_q1p_c := codeC Tryz.f178
noncomputable def f_q1p_X : Ctx := ⟨TT, phiOf [], noPsi, noXi⟩
def f_q1p_LV : List (Nat × Keep) := []
def f_q1p_rv : List ResultVar := [.tmp 4]
theorem f_q1p_ctx : CtxOK Tryz.prog f_q1p_X := ctx_of tab mix trivial
noncomputable def s_q1p (a0 a1 : Int) (a2 : List (Int × Int)) : Option Bool := (cond (decide (a0 < 0)) none (cond ((bAnd .u16 (bShr .u16 a1 a0) 1) == 0) (cond (inB a0 (List.length a2)) (some ((bAndNot .u16 (List.getD a2 (Int.toNat a0) ((0, 0) : (Int × Int))).2 a1) == 0)) none) (some false)))
theorem f_q1p_top (a0 a1 : Int) (a2 : List (Int × Int)) (r : List A) : Tq f_q1p_X f_q1p_LV f_q1p_c f_q1p_rv r [.v (.int .i64 a0), .ref (.v (.int .u16 a1)), .ref (.lst (.st [(.i .i8), (.i .u16)]) a2)] = (cond (decide (a0 < 0)) none (cond ((bAnd .u16 (bShr .u16 a1 a0) 1) == 0) (cond (inB a0 (List.length a2)) (some [.v (.bool ((bAndNot .u16 (List.getD a2 (Int.toNat a0) ((0, 0) : (Int × Int))).2 a1) == 0))]) none) (some [.v (.bool false)]))) := by kernel_rfl
noncomputable def l_q1p (r : Bool) : List A := [.v (.bool r)]
theorem s_q1p_ok (a0 a1 : Int) (a2 : List (Int × Int)) (v : Bool) (h : s_q1p a0 a1 a2 = some v) : (cond (decide (a0 < 0)) none (cond ((bAnd .u16 (bShr .u16 a1 a0) 1) == 0) (cond (inB a0 (List.length a2)) (some [.v (.bool ((bAndNot .u16 (List.getD a2 (Int.toNat a0) ((0, 0) : (Int × Int))).2 a1) == 0))]) none) (some [.v (.bool false)]))) = some (l_q1p v) := by
 refine Eq.trans (b := Option.map l_q1p (s_q1p a0 a1 a2)) ?_ (by rw [h]; rfl)
 unfold s_q1p
 exact (cond_app (Option.map l_q1p) rfl (cond_app (Option.map l_q1p) (cond_app (Option.map l_q1p) rfl rfl) rfl))
noncomputable def c_q1p : List A → ACall
 | [.v (.int .i64 a0), .ref (.v (.int .u16 a1)), .ref (.lst (.st [(.i .i8), (.i .u16)]) a2)] => ⟨Bool, s_q1p a0 a1 a2, fun r => .one (.v (.bool r))⟩
 | _ => ACall.fail
theorem f_q1p_sound : Sound Tryz.prog 178 c_q1p := by
 refine good f_q1p_ctx f_q1p_LV f_q1p_c f_q1p_rv 3 Tryz.func178 fun rs => ?_
 unfold c_q1p
 split
 ·rename_i a0 a1 a2; intro v h; exact ⟨rfl, l_q1p v, rfl, (f_q1p_top a0 a1 a2 _).trans (s_q1p_ok a0 a1 a2 v h)⟩
 ·intro v h; cases h
noncomputable def f_q08_c := codeC Tryz.f137
noncomputable def f_q08_X : Ctx := ⟨TT, phiOf [(178, c_q1p)], noPsi, noXi⟩
def f_q08_LV : List (Nat × Keep) := [(2, ([0, 1, 7, 8], [], []))]
def f_q08_rv : List ResultVar := [.tmp 4]
noncomputable def f_q08_L := Lq f_q08_X f_q08_LV f_q08_c f_q08_rv
theorem f_q08_ctx : CtxOK Tryz.prog f_q08_X := ctx_of tab mix ⟨⟨Tryz.call178, f_q1p_sound⟩, trivial⟩
noncomputable def f_q08_s2 (x0 x1 : Int) (x2 : List Int) (x3 : Int) (x4 : List (Int × Int)) : AS := ⟨[(0, .a (.sl 0)), (1, .a (.clo 178 [.ptr 1 [] (0), .ptr 2 [] (0)])), (7, .a (.v (.int .i64 x0))), (8, .a (.v (.int .i64 x1)))], [(0, some ⟨false, .arr (.one (.i .i64)) x2⟩), (1, some ⟨false, .box (.v (.int .u16 x3))⟩), (2, some ⟨false, .box (.sl 3)⟩), (3, some ⟨false, .arr (.st [(.i .i8), (.i .u16)]) x4⟩)], 4⟩
noncomputable def l_q08 (r : Int) : List A := [.v (.int .i64 r)]
theorem f_q08_step2 (x0 x1 : Int) (x2 : List Int) (x3 : Int) (x4 : List (Int × Int)) (r : List A) (h : (cond (decide (x1 < x0)) (cond (inB x1 (List.length x2)) (Option.bind (s_q1p (List.getD x2 (Int.toNat x1) 0) x3 x4) fun r1 => (cond r1 (some [.v (.int .i64 x1)]) (f_q08_L r 2 (f_q08_s2 x0 (IntKind.wrap .i64 (x1 + 1)) x2 x3 x4)))) none) (some [.v (.int .i64 (-1))])) = some r) : f_q08_L r 2 (f_q08_s2 x0 x1 x2 x3 x4) = some r :=
 step_of' h (by kernel_rfl)
noncomputable def f_q08_n2 (x0 x1 : Int) (x2 : List Int) (x3 : Int) (x4 : List (Int × Int)) : Option ((Int × Int × (List Int) × Int × (List (Int × Int))) ⊕ Int) := (cond (decide (x1 < x0)) (cond (inB x1 (List.length x2)) (Option.bind (s_q1p (List.getD x2 (Int.toNat x1) 0) x3 x4) fun r1 => (cond r1 (some (Sum.inr x1)) (some (Sum.inl (x0, (IntKind.wrap .i64 (x1 + 1)), x2, x3, x4))))) none) (some (Sum.inr (-1))))
noncomputable def f_q08_run2 (x : (Int × Int × (List Int) × Int × (List (Int × Int)))) : Option Int := iter (fun x => f_q08_n2 x.1 x.2.1 x.2.2.1 x.2.2.2.1 x.2.2.2.2) FU x
noncomputable def f_q08_G2 (r : List A) (x : (Int × Int × (List Int) × Int × (List (Int × Int)))) : Prop := f_q08_L r 2 (f_q08_s2 x.1 x.2.1 x.2.2.1 x.2.2.2.1 x.2.2.2.2) = some r
noncomputable def f_q08_S2 (r : List A) : Int → Prop := fun v => r = l_q08 v
theorem f_q08_go2 (r : List A) : ∀ x, sem (f_q08_S2 r) (f_q08_run2 x) → f_q08_G2 r x :=
 fun x => iter_sound (step := fun x => f_q08_n2 x.1 x.2.1 x.2.2.1 x.2.2.2.1 x.2.2.2.2) (fun x h => by
  unfold f_q08_n2 at h
  exact f_q08_step2 x.1 x.2.1 x.2.2.1 x.2.2.2.1 x.2.2.2.2 r ((sem_cond h (fun h => (sem_cond h (fun h => (sem_bind h fun r1 h => (sem_cond h (fun h => sem_got h fun q => some_eq q) (fun h => sem_got h fun q => q)))) (fun h => sem_none h))) (fun h => sem_got h fun q => some_eq q)))) FU x
noncomputable def s_q08 (a0 : List Int) (a1 : Int) (a2 : List (Int × Int)) : Option Int := (f_q08_run2 (((List.length a0 : Nat) : Int), 0, a0, a1, a2))
theorem f_q08_top (a0 : List Int) (a1 : Int) (a2 : List (Int × Int)) (r : List A) : Tq f_q08_X f_q08_LV f_q08_c f_q08_rv r [.lst (.one (.i .i64)) a0, .clo 178 [.ref (.v (.int .u16 a1)), .ref (.lst (.st [(.i .i8), (.i .u16)]) a2)]] = (f_q08_L r 2 (f_q08_s2 ((List.length a0 : Nat) : Int) 0 a0 a1 a2)) := by kernel_rfl
theorem s_q08_ok (a0 : List Int) (a1 : Int) (a2 : List (Int × Int)) (v : Int) (h : s_q08 a0 a1 a2 = some v) : (f_q08_L (l_q08 v) 2 (f_q08_s2 ((List.length a0 : Nat) : Int) 0 a0 a1 a2)) = some (l_q08 v) := by
 replace h : sem (fun w => l_q08 v = l_q08 w) (s_q08 a0 a1 a2) := ⟨v, h, rfl⟩
 unfold s_q08 at h
 exact f_q08_go2 (l_q08 v) _ h
noncomputable def c_q08 : List A → ACall
 | [.lst (.one (.i .i64)) a0, .clo 178 [.ref (.v (.int .u16 a1)), .ref (.lst (.st [(.i .i8), (.i .u16)]) a2)]] => ⟨Int, s_q08 a0 a1 a2, fun r => .one (.v (.int .i64 r))⟩
 | _ => ACall.fail
theorem f_q08_sound : Sound Tryz.prog 137 c_q08 := by
 refine good f_q08_ctx f_q08_LV f_q08_c f_q08_rv 2 Tryz.func137 fun rs => ?_
 unfold c_q08
 split
 ·rename_i a0 a1 a2; intro v h; exact ⟨rfl, l_q08 v, rfl, (f_q08_top a0 a1 a2 _).trans (s_q08_ok a0 a1 a2 v h)⟩
 ·intro v h; cases h
noncomputable def f_q25_c := codeC Tryz.f129
noncomputable def f_q25_X : Ctx := ⟨TT, phiOf [(137, c_q08), (138, c_q1n)], noPsi, noXi⟩
def f_q25_LV : List (Nat × Keep) := [(3, ([1, 3, 4, 8, 9], [], []))]
def f_q25_rv : List ResultVar := [.tmp 2]
noncomputable def f_q25_L := Lq f_q25_X f_q25_LV f_q25_c f_q25_rv
theorem f_q25_ctx : CtxOK Tryz.prog f_q25_X := ctx_of tab mix ⟨⟨Tryz.call137, f_q08_sound⟩, ⟨Tryz.call138, f_q1n_sound⟩, trivial⟩
noncomputable def f_q25_s3 (x0 x1 : Int) (x2 : List (Int × Int)) (x3 : List Int) (x4 : Int) : AS := ⟨[(1, .a (.ptr 0 [] (0))), (3, .a (.sl 2)), (4, .a (.ptr 3 [] (0))), (8, .a (.v (.int .i64 x0))), (9, .a (.v (.int .i64 x1)))], [(0, some ⟨true, .box (.sl 1)⟩), (1, some ⟨false, .arr (.st [(.i .i8), (.i .u16)]) x2⟩), (2, some ⟨true, .arr (.one (.i .i64)) x3⟩), (3, some ⟨true, .box (.v (.int .u16 x4))⟩)], 4⟩
noncomputable def l_q25 (r : List Int) : List A := [.lst (.one (.i .i64)) r]
theorem f_q25_step3 (x0 x1 : Int) (x2 : List (Int × Int)) (x3 : List Int) (x4 : Int) (r : List A) (h : (cond (decide (x1 < x0)) (Option.bind (s_q1n x2) fun r1 => (Option.bind (s_q08 r1 x4 x2) fun r2 => (cond (decide (r2 < 0)) (some [.lst (.one (.i .i64)) x3]) (cond (fits ((List.length (x3 : List Int) + List.length ([r2] : List Int)) * 8)) (cond (decide (r2 < 0)) none (f_q25_L r 3 (f_q25_s3 x0 (IntKind.wrap .i64 (x1 + 1)) x2 (x3 ++ [r2]) (bOr .u16 x4 (bShl .u16 1 r2))))) none)))) (some [.lst (.one (.i .i64)) x3])) = some r) : f_q25_L r 3 (f_q25_s3 x0 x1 x2 x3 x4) = some r :=
 step_of' h (by kernel_rfl)
noncomputable def f_q25_n3 (x0 x1 : Int) (x2 : List (Int × Int)) (x3 : List Int) (x4 : Int) : Option ((Int × Int × (List (Int × Int)) × (List Int) × Int) ⊕ (List Int)) := (cond (decide (x1 < x0)) (Option.bind (s_q1n x2) fun r1 => (Option.bind (s_q08 r1 x4 x2) fun r2 => (cond (decide (r2 < 0)) (some (Sum.inr x3)) (cond (fits ((List.length (x3 : List Int) + List.length ([r2] : List Int)) * 8)) (cond (decide (r2 < 0)) none (some (Sum.inl (x0, (IntKind.wrap .i64 (x1 + 1)), x2, (x3 ++ [r2]), (bOr .u16 x4 (bShl .u16 1 r2)))))) none)))) (some (Sum.inr x3)))
noncomputable def f_q25_run3 (x : (Int × Int × (List (Int × Int)) × (List Int) × Int)) : Option (List Int) := iter (fun x => f_q25_n3 x.1 x.2.1 x.2.2.1 x.2.2.2.1 x.2.2.2.2) FU x
noncomputable def f_q25_G3 (r : List A) (x : (Int × Int × (List (Int × Int)) × (List Int) × Int)) : Prop := f_q25_L r 3 (f_q25_s3 x.1 x.2.1 x.2.2.1 x.2.2.2.1 x.2.2.2.2) = some r
noncomputable def f_q25_S3 (r : List A) : (List Int) → Prop := fun v => r = l_q25 v
theorem f_q25_go3 (r : List A) : ∀ x, sem (f_q25_S3 r) (f_q25_run3 x) → f_q25_G3 r x :=
 fun x => iter_sound (step := fun x => f_q25_n3 x.1 x.2.1 x.2.2.1 x.2.2.2.1 x.2.2.2.2) (fun x h => by
  unfold f_q25_n3 at h
  exact f_q25_step3 x.1 x.2.1 x.2.2.1 x.2.2.2.1 x.2.2.2.2 r ((sem_cond h (fun h => (sem_bind h fun r1 h => (sem_bind h fun r2 h => (sem_cond h (fun h => sem_got h fun q => some_eq q) (fun h => (sem_cond h (fun h => (sem_cond h (fun h => sem_none h) (fun h => sem_got h fun q => q))) (fun h => sem_none h))))))) (fun h => sem_got h fun q => some_eq q)))) FU x
noncomputable def s_q25 (a0 : List (Int × Int)) : Option (List Int) := (f_q25_run3 (((List.length a0 : Nat) : Int), 0, a0, [], 0))
theorem f_q25_top (a0 : List (Int × Int)) (r : List A) : Tq f_q25_X f_q25_LV f_q25_c f_q25_rv r [.lst (.st [(.i .i8), (.i .u16)]) a0] = (f_q25_L r 3 (f_q25_s3 ((List.length a0 : Nat) : Int) 0 a0 [] 0)) := by kernel_rfl
theorem s_q25_ok (a0 : List (Int × Int)) (v : List Int) (h : s_q25 a0 = some v) : (f_q25_L (l_q25 v) 3 (f_q25_s3 ((List.length a0 : Nat) : Int) 0 a0 [] 0)) = some (l_q25 v) := by
 replace h : sem (fun w => l_q25 v = l_q25 w) (s_q25 a0) := ⟨v, h, rfl⟩
 unfold s_q25 at h
 exact f_q25_go3 (l_q25 v) _ h
noncomputable def c_q25 : List A → ACall
 | [.lst (.st [(.i .i8), (.i .u16)]) a0] => ⟨(List Int), s_q25 a0, fun r => .one (.lst (.one (.i .i64)) r)⟩
 | _ => ACall.fail
theorem f_q25_sound : Sound Tryz.prog 129 c_q25 := by
 refine good f_q25_ctx f_q25_LV f_q25_c f_q25_rv 1 Tryz.func129 fun rs => ?_
 unfold c_q25
 split
 ·rename_i a0; intro v h; exact ⟨rfl, l_q25 v, rfl, (f_q25_top a0 _).trans (s_q25_ok a0 v h)⟩
 ·intro v h; cases h
noncomputable def f_q1y_c := codeC Tryz.f84
noncomputable def f_q1y_X : Ctx := ⟨TT, phiOf [], noPsi, noXi⟩
def f_q1y_LV : List (Nat × Keep) := []
def f_q1y_rv : List ResultVar := [.tmp 6]
theorem f_q1y_ctx : CtxOK Tryz.prog f_q1y_X := ctx_of tab mix trivial
noncomputable def s_q1y (a0 a1 a2 : Int) : Bool := (cond (decide (a1 ≤ a0)) (decide (a0 ≤ a2)) false)
theorem f_q1y_top (a0 a1 a2 : Int) (r : List A) : Tq f_q1y_X f_q1y_LV f_q1y_c f_q1y_rv r [.v (.int .i64 a0), .v (.int .i64 a1), .v (.int .i64 a2)] = (cond (decide (a1 ≤ a0)) (some [.v (.bool (decide (a0 ≤ a2)))]) (some [.v (.bool false)])) := by kernel_rfl
noncomputable def l_q1y (r : Bool) : List A := [.v (.bool r)]
theorem s_q1y_ok (a0 a1 a2 : Int) : (cond (decide (a1 ≤ a0)) (some [.v (.bool (decide (a0 ≤ a2)))]) (some [.v (.bool false)])) = some (l_q1y (s_q1y a0 a1 a2)) := by
 unfold s_q1y
 exact (cond_app (fun x => some (l_q1y x)) rfl rfl)
noncomputable def c_q1y : List A → ACall
 | [.v (.int .i64 a0), .v (.int .i64 a1), .v (.int .i64 a2)] => ⟨Bool, some (s_q1y a0 a1 a2), fun r => .one (.v (.bool r))⟩
 | _ => ACall.fail
theorem f_q1y_sound : Sound Tryz.prog 84 c_q1y := by
 refine good f_q1y_ctx f_q1y_LV f_q1y_c f_q1y_rv 3 Tryz.func84 fun rs => ?_
 unfold c_q1y
 split
 ·rename_i a0 a1 a2; intro v h; cases h; exact ⟨rfl, l_q1y (s_q1y a0 a1 a2), rfl, (f_q1y_top a0 a1 a2 _).trans (s_q1y_ok a0 a1 a2)⟩
 ·intro v h; cases h
noncomputable def f_q0m_c := codeC Tryz.f143
noncomputable def f_q0m_X : Ctx := ⟨TT, phiOf [(84, c_q1y)], noPsi, noXi⟩
def f_q0m_LV : List (Nat × Keep) := []
def f_q0m_rv : List ResultVar := [.tmp 3]
theorem f_q0m_ctx : CtxOK Tryz.prog f_q0m_X := ctx_of tab mix ⟨⟨Tryz.call84, f_q1y_sound⟩, trivial⟩
noncomputable def s_q0m (a0 a1 a2 : Int) : Option Bool := (cond (!(s_q1y (IntKind.wrap .i64 a0) 1 30)) (some true) (cond (decide (a2 < 0)) none (some ((bShr .u16 a1 a2) != 0))))
theorem f_q0m_top (a0 a1 a2 : Int) (r : List A) : Tq f_q0m_X f_q0m_LV f_q0m_c f_q0m_rv r [.rc [.v (.int .i8 a0), .v (.int .u16 a1)], .ref (.v (.int .i64 a2))] = (cond (!(s_q1y (IntKind.wrap .i64 a0) 1 30)) (some [.v (.bool true)]) (cond (decide (a2 < 0)) none (some [.v (.bool ((bShr .u16 a1 a2) != 0))]))) := by kernel_rfl
noncomputable def l_q0m (r : Bool) : List A := [.v (.bool r)]
theorem s_q0m_ok (a0 a1 a2 : Int) (v : Bool) (h : s_q0m a0 a1 a2 = some v) : (cond (!(s_q1y (IntKind.wrap .i64 a0) 1 30)) (some [.v (.bool true)]) (cond (decide (a2 < 0)) none (some [.v (.bool ((bShr .u16 a1 a2) != 0))]))) = some (l_q0m v) := by
 refine Eq.trans (b := Option.map l_q0m (s_q0m a0 a1 a2)) ?_ (by rw [h]; rfl)
 unfold s_q0m
 exact (cond_app (Option.map l_q0m) rfl (cond_app (Option.map l_q0m) rfl rfl))
noncomputable def c_q0m : List A → ACall
 | [.rc [.v (.int .i8 a0), .v (.int .u16 a1)], .ref (.v (.int .i64 a2))] => ⟨Bool, s_q0m a0 a1 a2, fun r => .one (.v (.bool r))⟩
 | _ => ACall.fail
theorem f_q0m_sound : Sound Tryz.prog 143 c_q0m := by
 refine good f_q0m_ctx f_q0m_LV f_q0m_c f_q0m_rv 2 Tryz.func143 fun rs => ?_
 unfold c_q0m
 split
 ·rename_i a0 a1 a2; intro v h; exact ⟨rfl, l_q0m v, rfl, (f_q0m_top a0 a1 a2 _).trans (s_q0m_ok a0 a1 a2 v h)⟩
 ·intro v h; cases h
noncomputable def f_q07_c := codeC Tryz.f180
noncomputable def f_q07_X : Ctx := ⟨TT, phiOf [(143, c_q0m)], noPsi, noXi⟩
def f_q07_LV : List (Nat × Keep) := [(2, ([0, 1, 7, 8], [], []))]
def f_q07_rv : List ResultVar := [.tmp 4]
noncomputable def f_q07_L := Lq f_q07_X f_q07_LV f_q07_c f_q07_rv
theorem f_q07_ctx : CtxOK Tryz.prog f_q07_X := ctx_of tab mix ⟨⟨Tryz.call143, f_q0m_sound⟩, trivial⟩
noncomputable def f_q07_s2 (x0 x1 : Int) (x2 : List (Int × Int)) (x3 : Int) : AS := ⟨[(0, .a (.sl 0)), (1, .a (.clo 143 [.ptr 1 [] (0)])), (7, .a (.v (.int .i64 x0))), (8, .a (.v (.int .i64 x1)))], [(0, some ⟨false, .arr (.st [(.i .i8), (.i .u16)]) x2⟩), (1, some ⟨false, .box (.v (.int .i64 x3))⟩)], 2⟩
noncomputable def l_q07 (r : Int) : List A := [.v (.int .i64 r)]
theorem f_q07_step2 (x0 x1 : Int) (x2 : List (Int × Int)) (x3 : Int) (r : List A) (h : (cond (decide (x1 < x0)) (cond (inB x1 (List.length x2)) (Option.bind (s_q0m (List.getD x2 (Int.toNat x1) ((0, 0) : (Int × Int))).1 (List.getD x2 (Int.toNat x1) ((0, 0) : (Int × Int))).2 x3) fun r1 => (cond r1 (some [.v (.int .i64 x1)]) (f_q07_L r 2 (f_q07_s2 x0 (IntKind.wrap .i64 (x1 + 1)) x2 x3)))) none) (some [.v (.int .i64 (-1))])) = some r) : f_q07_L r 2 (f_q07_s2 x0 x1 x2 x3) = some r :=
 step_of' h (by kernel_rfl)
noncomputable def f_q07_n2 (x0 x1 : Int) (x2 : List (Int × Int)) (x3 : Int) : Option ((Int × Int × (List (Int × Int)) × Int) ⊕ Int) := (cond (decide (x1 < x0)) (cond (inB x1 (List.length x2)) (Option.bind (s_q0m (List.getD x2 (Int.toNat x1) ((0, 0) : (Int × Int))).1 (List.getD x2 (Int.toNat x1) ((0, 0) : (Int × Int))).2 x3) fun r1 => (cond r1 (some (Sum.inr x1)) (some (Sum.inl (x0, (IntKind.wrap .i64 (x1 + 1)), x2, x3))))) none) (some (Sum.inr (-1))))
noncomputable def f_q07_run2 (x : (Int × Int × (List (Int × Int)) × Int)) : Option Int := iter (fun x => f_q07_n2 x.1 x.2.1 x.2.2.1 x.2.2.2) FU x
noncomputable def f_q07_G2 (r : List A) (x : (Int × Int × (List (Int × Int)) × Int)) : Prop := f_q07_L r 2 (f_q07_s2 x.1 x.2.1 x.2.2.1 x.2.2.2) = some r
noncomputable def f_q07_S2 (r : List A) : Int → Prop := fun v => r = l_q07 v
theorem f_q07_go2 (r : List A) : ∀ x, sem (f_q07_S2 r) (f_q07_run2 x) → f_q07_G2 r x :=
 fun x => iter_sound (step := fun x => f_q07_n2 x.1 x.2.1 x.2.2.1 x.2.2.2) (fun x h => by
  unfold f_q07_n2 at h
  exact f_q07_step2 x.1 x.2.1 x.2.2.1 x.2.2.2 r ((sem_cond h (fun h => (sem_cond h (fun h => (sem_bind h fun r1 h => (sem_cond h (fun h => sem_got h fun q => some_eq q) (fun h => sem_got h fun q => q)))) (fun h => sem_none h))) (fun h => sem_got h fun q => some_eq q)))) FU x
noncomputable def s_q07 (a0 : List (Int × Int)) (a1 : Int) : Option Int := (f_q07_run2 (((List.length a0 : Nat) : Int), 0, a0, a1))
theorem f_q07_top (a0 : List (Int × Int)) (a1 : Int) (r : List A) : Tq f_q07_X f_q07_LV f_q07_c f_q07_rv r [.lst (.st [(.i .i8), (.i .u16)]) a0, .clo 143 [.ref (.v (.int .i64 a1))]] = (f_q07_L r 2 (f_q07_s2 ((List.length a0 : Nat) : Int) 0 a0 a1)) := by kernel_rfl
theorem s_q07_ok (a0 : List (Int × Int)) (a1 v : Int) (h : s_q07 a0 a1 = some v) : (f_q07_L (l_q07 v) 2 (f_q07_s2 ((List.length a0 : Nat) : Int) 0 a0 a1)) = some (l_q07 v) := by
 replace h : sem (fun w => l_q07 v = l_q07 w) (s_q07 a0 a1) := ⟨v, h, rfl⟩
 unfold s_q07 at h
 exact f_q07_go2 (l_q07 v) _ h
noncomputable def c_q07 : List A → ACall
 | [.lst (.st [(.i .i8), (.i .u16)]) a0, .clo 143 [.ref (.v (.int .i64 a1))]] => ⟨Int, s_q07 a0 a1, fun r => .one (.v (.int .i64 r))⟩
 | _ => ACall.fail
theorem f_q07_sound : Sound Tryz.prog 180 c_q07 := by
 refine good f_q07_ctx f_q07_LV f_q07_c f_q07_rv 2 Tryz.func180 fun rs => ?_
 unfold c_q07
 split
 ·rename_i a0 a1; intro v h; exact ⟨rfl, l_q07 v, rfl, (f_q07_top a0 a1 _).trans (s_q07_ok a0 a1 v h)⟩
 ·intro v h; cases h
noncomputable def f_q02_c := codeC Tryz.f142
noncomputable def f_q02_X : Ctx := ⟨TT, phiOf [(180, c_q07)], noPsi, noXi⟩
def f_q02_LV : List (Nat × Keep) := []
def f_q02_rv : List ResultVar := [.tmp 4]
theorem f_q02_ctx : CtxOK Tryz.prog f_q02_X := ctx_of tab mix ⟨⟨Tryz.call180, f_q07_sound⟩, trivial⟩
noncomputable def s_q02 (a0 : List (Int × Int)) (a1 : Int) : Option Bool := (Option.bind (s_q07 a0 a1) fun r1 => (some (decide (r1 ≥ 0))))
theorem f_q02_top (a0 : List (Int × Int)) (a1 : Int) (r : List A) : Tq f_q02_X f_q02_LV f_q02_c f_q02_rv r [.lst (.st [(.i .i8), (.i .u16)]) a0, .clo 143 [.ref (.v (.int .i64 a1))]] = (Option.bind (s_q07 a0 a1) fun r1 => (some [.v (.bool (decide (r1 ≥ 0)))])) := by kernel_rfl
noncomputable def l_q02 (r : Bool) : List A := [.v (.bool r)]
theorem s_q02_ok (a0 : List (Int × Int)) (a1 : Int) (v : Bool) (h : s_q02 a0 a1 = some v) : (Option.bind (s_q07 a0 a1) fun r1 => (some [.v (.bool (decide (r1 ≥ 0)))])) = some (l_q02 v) := by
 refine Eq.trans (b := Option.map l_q02 (s_q02 a0 a1)) ?_ (by rw [h]; rfl)
 unfold s_q02
 exact (bind_app fun _ => rfl)
noncomputable def c_q02 : List A → ACall
 | [.lst (.st [(.i .i8), (.i .u16)]) a0, .clo 143 [.ref (.v (.int .i64 a1))]] => ⟨Bool, s_q02 a0 a1, fun r => .one (.v (.bool r))⟩
 | _ => ACall.fail
theorem f_q02_sound : Sound Tryz.prog 142 c_q02 := by
 refine good f_q02_ctx f_q02_LV f_q02_c f_q02_rv 2 Tryz.func142 fun rs => ?_
 unfold c_q02
 split
 ·rename_i a0 a1; intro v h; exact ⟨rfl, l_q02 v, rfl, (f_q02_top a0 a1 _).trans (s_q02_ok a0 a1 v h)⟩
 ·intro v h; cases h
noncomputable def f_q12_c := codeC Tryz.f60
noncomputable def f_q12_X : Ctx := ⟨TT, phiOf [(142, c_q02), (129, c_q25)], noPsi, noXi⟩
def f_q12_LV : List (Nat × Keep) := []
def f_q12_rv : List ResultVar := [.tmp 2]
theorem f_q12_ctx : CtxOK Tryz.prog f_q12_X := ctx_of tab mix ⟨⟨Tryz.call142, f_q02_sound⟩, ⟨Tryz.call129, f_q25_sound⟩, trivial⟩
abbrev A_q12 := Bool
noncomputable def l_q12 (r : Bool) : List A := [.v (.bool r)]
section
variable {R R' : Type} {S : R → Prop} {r : R'} (E : A_q12 → Option R) (E' : A_q12 → Option R')
noncomputable def t_q12 (a0 : List (Int × Int)) : Option R := (cond (decide (((List.length a0 : Nat) : Int) ≤ 12)) (Option.bind (s_q02 a0 ((List.length a0 : Nat) : Int)) fun r1 => (cond (!r1) (Option.bind (s_q25 a0) fun r2 => (E (((List.length r2 : Nat) : Int) == ((List.length a0 : Nat) : Int)))) (E false))) (E false))
theorem t_q12_sem (a0 : List (Int × Int)) (h : sem S (t_q12 E a0)) (hE : Leads S r E E') : t_q12 E' a0 = some r := by
 revert h
 unfold t_q12
 repeat' first | refine sem_condK ?_ ?_ | refine sem_bindK fun _ => ?_ | exact sem_noneK | exact hE _ | refine sem_bind2K (fun _ => ?_) (fun _ => ?_)
end
noncomputable def s_q12 (a0 : List (Int × Int)) : Option Bool := t_q12 some a0
theorem f_q12_top (a0 : List (Int × Int)) (r : List A) : Tq f_q12_X f_q12_LV f_q12_c f_q12_rv r [.lst (.st [(.i .i8), (.i .u16)]) a0] = t_q12 (fun v => some (l_q12 v)) a0 := by kernel_rfl
theorem s_q12_ok (a0 : List (Int × Int)) (v : Bool) (h : s_q12 a0 = some v) : t_q12 (fun v => some (l_q12 v)) a0 = some (l_q12 v) :=
 t_q12_sem _ _ a0 (show sem (fun w => l_q12 v = l_q12 w) (s_q12 a0) from ⟨v, h, rfl⟩) (fun _ h => sem_got h fun q => some_eq q)
noncomputable def c_q12 : List A → ACall
 | [.lst (.st [(.i .i8), (.i .u16)]) a0] => ⟨Bool, s_q12 a0, fun r => .one (.v (.bool r))⟩
 | _ => ACall.fail
theorem f_q12_sound : Sound Tryz.prog 60 c_q12 := by
 refine good f_q12_ctx f_q12_LV f_q12_c f_q12_rv 1 Tryz.func60 fun rs => ?_
 unfold c_q12
 split
 ·rename_i a0; intro v h; exact ⟨rfl, l_q12 v, rfl, (f_q12_top a0 _).trans (s_q12_ok a0 v h)⟩
 ·intro v h; cases h
noncomputable def f_q1m_c := codeC Tryz.f74
noncomputable def f_q1m_X : Ctx := ⟨TT, phiOf [(157, c_q0b)], noPsi, noXi⟩
def f_q1m_LV : List (Nat × Keep) := []
def f_q1m_rv : List ResultVar := [.tmp 2]
theorem f_q1m_ctx : CtxOK Tryz.prog f_q1m_X := ctx_of tab mix ⟨⟨Tryz.call157, f_q0b_sound⟩, trivial⟩
noncomputable def s_q1m (a0 : Int) : Option ByteArray := (Option.bind (s_q0b a0 10) fun r1 => (some r1))
theorem f_q1m_top (a0 : Int) (r : List A) : Tq f_q1m_X f_q1m_LV f_q1m_c f_q1m_rv r [.v (.int .i64 a0)] = (Option.bind (s_q0b a0 10) fun r1 => (some [.v (.string r1)])) := by kernel_rfl
noncomputable def l_q1m (r : ByteArray) : List A := [.v (.string r)]
theorem s_q1m_ok (a0 : Int) (v : ByteArray) (h : s_q1m a0 = some v) : (Option.bind (s_q0b a0 10) fun r1 => (some [.v (.string r1)])) = some (l_q1m v) := by
 refine Eq.trans (b := Option.map l_q1m (s_q1m a0)) ?_ (by rw [h]; rfl)
 unfold s_q1m
 exact (bind_app fun _ => rfl)
noncomputable def c_q1m : List A → ACall
 | [.v (.int .i64 a0)] => ⟨ByteArray, s_q1m a0, fun r => .one (.v (.string r))⟩
 | _ => ACall.fail
theorem f_q1m_sound : Sound Tryz.prog 74 c_q1m := by
 refine good f_q1m_ctx f_q1m_LV f_q1m_c f_q1m_rv 1 Tryz.func74 fun rs => ?_
 unfold c_q1m
 split
 ·rename_i a0; intro v h; exact ⟨rfl, l_q1m v, rfl, (f_q1m_top a0 _).trans (s_q1m_ok a0 v h)⟩
 ·intro v h; cases h
noncomputable def f_q0z_c := codeC Tryz.f128
noncomputable def f_q0z_X : Ctx := ⟨TT, phiOf [], noPsi, noXi⟩
def f_q0z_LV : List (Nat × Keep) := []
def f_q0z_rv : List ResultVar := [.tmp 4]
theorem f_q0z_ctx : CtxOK Tryz.prog f_q0z_X := ctx_of tab mix trivial
noncomputable def s_q0z (a0 a1 a2 : Int) : Option Bool := (cond (decide (a2 < 0)) none (some ((bAnd .u16 (bShr .u16 a1 a2) 1) == 1)))
theorem f_q0z_top (a0 a1 a2 : Int) (r : List A) : Tq f_q0z_X f_q0z_LV f_q0z_c f_q0z_rv r [.rc [.v (.int .i8 a0), .v (.int .u16 a1)], .v (.int .i64 a2)] = (cond (decide (a2 < 0)) none (some [.v (.bool ((bAnd .u16 (bShr .u16 a1 a2) 1) == 1))])) := by kernel_rfl
noncomputable def l_q0z (r : Bool) : List A := [.v (.bool r)]
theorem s_q0z_ok (a0 a1 a2 : Int) (v : Bool) (h : s_q0z a0 a1 a2 = some v) : (cond (decide (a2 < 0)) none (some [.v (.bool ((bAnd .u16 (bShr .u16 a1 a2) 1) == 1))])) = some (l_q0z v) := by
 refine Eq.trans (b := Option.map l_q0z (s_q0z a0 a1 a2)) ?_ (by rw [h]; rfl)
 unfold s_q0z
 exact (cond_app (Option.map l_q0z) rfl rfl)
noncomputable def c_q0z : List A → ACall
 | [.rc [.v (.int .i8 a0), .v (.int .u16 a1)], .v (.int .i64 a2)] => ⟨Bool, s_q0z a0 a1 a2, fun r => .one (.v (.bool r))⟩
 | _ => ACall.fail
theorem f_q0z_sound : Sound Tryz.prog 128 c_q0z := by
 refine good f_q0z_ctx f_q0z_LV f_q0z_c f_q0z_rv 2 Tryz.func128 fun rs => ?_
 unfold c_q0z
 split
 ·rename_i a0 a1 a2; intro v h; exact ⟨rfl, l_q0z v, rfl, (f_q0z_top a0 a1 a2 _).trans (s_q0z_ok a0 a1 a2 v h)⟩
 ·intro v h; cases h
noncomputable def f_q19_c := codeC Tryz.f48
noncomputable def f_q19_X : Ctx := ⟨TT, phiOf [(128, c_q0z), (60, c_q12), (74, c_q1m), (75, c_q0v)], noPsi, noXi⟩
def f_q19_LV : List (Nat × Keep) := [(5, ([0, 3, 12, 13, 14], [], [])), (9, ([0, 3, 5, 6, 12, 13, 14, 23, 24], [], []))]
def f_q19_rv : List ResultVar := [.tmp 2]
noncomputable def f_q19_L := Lq f_q19_X f_q19_LV f_q19_c f_q19_rv
theorem f_q19_ctx : CtxOK Tryz.prog f_q19_X := ctx_of tab mix ⟨⟨Tryz.call128, f_q0z_sound⟩, ⟨Tryz.call60, f_q12_sound⟩, ⟨Tryz.call74, f_q1m_sound⟩, ⟨Tryz.call75, f_q0v_sound⟩, trivial⟩
noncomputable def f_q19_s5 (x0 x1 : Int) (x2 : List (Int × Int)) (x3 : (List ByteArray)) : AS := ⟨[(0, .a (.sl 0)), (3, .a (.sl 1)), (12, .a (.sl 0)), (13, .a (.v (.int .i64 x0))), (14, .a (.v (.int .i64 x1)))], [(0, some ⟨false, .arr (.st [(.i .i8), (.i .u16)]) x2⟩), (1, some ⟨true, .arr (.one .s) x3⟩)], 2⟩
noncomputable def f_q19_s9 (x0 : ByteArray) (x1 x2 x3 x4 : Int) (x5 : List (Int × Int)) (x6 : (List ByteArray)) (x7 x8 : Int) : AS := ⟨[(0, .a (.sl 0)), (3, .a (.sl 1)), (5, .a (.ptr 2 [] (0))), (6, .a (.v (.string x0))), (12, .a (.sl 0)), (13, .a (.v (.int .i64 x1))), (14, .a (.v (.int .i64 x2))), (23, .a (.v (.int .i64 x3))), (24, .a (.v (.int .i64 x4)))], [(0, some ⟨false, .arr (.st [(.i .i8), (.i .u16)]) x5⟩), (1, some ⟨true, .arr (.one .s) x6⟩), (2, some ⟨true, .box (.rc [.v (.int .i8 x7), .v (.int .u16 x8)])⟩)], 3⟩
noncomputable def l_q19 (r : ByteArray) : List A := [.v (.string r)]
theorem f_q19_step9 (x0 : ByteArray) (x1 x2 x3 x4 : Int) (x5 : List (Int × Int)) (x6 : (List ByteArray)) (x7 x8 : Int) (r : List A) (h : (cond (decide (x4 < x3)) (Option.bind (s_q0z x7 x8 x4) fun r4 => (cond r4 (Option.bind (s_q1m x4) fun r5 => (cond (fits ((⟨#[44]⟩ : ByteArray).size + r5.size)) (cond (fits (x0.size + ((⟨#[44]⟩ : ByteArray) ++ r5).size)) (f_q19_L r 9 (f_q19_s9 (x0 ++ ((⟨#[44]⟩ : ByteArray) ++ r5)) x1 x2 x3 (IntKind.wrap .i64 (x4 + 1)) x5 x6 x7 x8)) none) none)) (f_q19_L r 9 (f_q19_s9 x0 x1 x2 x3 (IntKind.wrap .i64 (x4 + 1)) x5 x6 x7 x8)))) (cond (fits ((List.length (x6 : List ByteArray) + List.length ([x0] : List ByteArray)) * 16)) (f_q19_L r 5 (f_q19_s5 x1 (IntKind.wrap .i64 (x2 + 1)) x5 (x6 ++ [x0]))) none)) = some r) : f_q19_L r 9 (f_q19_s9 x0 x1 x2 x3 x4 x5 x6 x7 x8) = some r :=
 step_of' h (by kernel_rfl)
noncomputable def f_q19_n9 (x0 : ByteArray) (x1 x2 x3 x4 : Int) (x5 : List (Int × Int)) (x6 : (List ByteArray)) (x7 x8 : Int) : Option ((ByteArray × Int × Int × Int × Int × (List (Int × Int)) × (List ByteArray) × Int × Int) ⊕ ((Int × Int × (List (Int × Int)) × (List ByteArray)) ⊕ ByteArray)) := (cond (decide (x4 < x3)) (Option.bind (s_q0z x7 x8 x4) fun r4 => (cond r4 (Option.bind (s_q1m x4) fun r5 => (cond (fits ((⟨#[44]⟩ : ByteArray).size + r5.size)) (cond (fits (x0.size + ((⟨#[44]⟩ : ByteArray) ++ r5).size)) (some (Sum.inl ((x0 ++ ((⟨#[44]⟩ : ByteArray) ++ r5)), x1, x2, x3, (IntKind.wrap .i64 (x4 + 1)), x5, x6, x7, x8))) none) none)) (some (Sum.inl (x0, x1, x2, x3, (IntKind.wrap .i64 (x4 + 1)), x5, x6, x7, x8))))) (cond (fits ((List.length (x6 : List ByteArray) + List.length ([x0] : List ByteArray)) * 16)) (some (Sum.inr (Sum.inl (x1, (IntKind.wrap .i64 (x2 + 1)), x5, (x6 ++ [x0]))))) none))
noncomputable def f_q19_run9 (x : (ByteArray × Int × Int × Int × Int × (List (Int × Int)) × (List ByteArray) × Int × Int)) : Option ((Int × Int × (List (Int × Int)) × (List ByteArray)) ⊕ ByteArray) := iter (fun x => f_q19_n9 x.1 x.2.1 x.2.2.1 x.2.2.2.1 x.2.2.2.2.1 x.2.2.2.2.2.1 x.2.2.2.2.2.2.1 x.2.2.2.2.2.2.2.1 x.2.2.2.2.2.2.2.2) FU x
noncomputable def f_q19_G9 (r : List A) (x : (ByteArray × Int × Int × Int × Int × (List (Int × Int)) × (List ByteArray) × Int × Int)) : Prop := f_q19_L r 9 (f_q19_s9 x.1 x.2.1 x.2.2.1 x.2.2.2.1 x.2.2.2.2.1 x.2.2.2.2.2.1 x.2.2.2.2.2.2.1 x.2.2.2.2.2.2.2.1 x.2.2.2.2.2.2.2.2) = some r
theorem f_q19_step5 (x0 x1 : Int) (x2 : List (Int × Int)) (x3 : (List ByteArray)) (r : List A) (h : (cond (decide (x1 < x0)) (cond (inB x1 (List.length x2)) (Option.bind (s_q1m (IntKind.wrap .i64 (List.getD x2 (Int.toNat x1) ((0, 0) : (Int × Int))).1)) fun r2 => (f_q19_L r 9 (f_q19_s9 r2 x0 x1 ((List.length x2 : Nat) : Int) 0 x2 x3 (List.getD x2 (Int.toNat x1) ((0, 0) : (Int × Int))).1 (List.getD x2 (Int.toNat x1) ((0, 0) : (Int × Int))).2))) none) (Option.bind (s_q0v x3 (⟨#[32]⟩ : ByteArray)) fun r3 => (some [.v (.string r3)]))) = some r) : f_q19_L r 5 (f_q19_s5 x0 x1 x2 x3) = some r :=
 step_of' h (by kernel_rfl)
noncomputable def f_q19_n5 (x0 x1 : Int) (x2 : List (Int × Int)) (x3 : (List ByteArray)) : Option ((Int × Int × (List (Int × Int)) × (List ByteArray)) ⊕ ByteArray) := (cond (decide (x1 < x0)) (cond (inB x1 (List.length x2)) (Option.bind (s_q1m (IntKind.wrap .i64 (List.getD x2 (Int.toNat x1) ((0, 0) : (Int × Int))).1)) fun r2 => (f_q19_run9 (r2, x0, x1, ((List.length x2 : Nat) : Int), 0, x2, x3, (List.getD x2 (Int.toNat x1) ((0, 0) : (Int × Int))).1, (List.getD x2 (Int.toNat x1) ((0, 0) : (Int × Int))).2))) none) (Option.bind (s_q0v x3 (⟨#[32]⟩ : ByteArray)) fun r3 => (some (Sum.inr r3))))
noncomputable def f_q19_run5 (x : (Int × Int × (List (Int × Int)) × (List ByteArray))) : Option ByteArray := iter (fun x => f_q19_n5 x.1 x.2.1 x.2.2.1 x.2.2.2) FU x
noncomputable def f_q19_G5 (r : List A) (x : (Int × Int × (List (Int × Int)) × (List ByteArray))) : Prop := f_q19_L r 5 (f_q19_s5 x.1 x.2.1 x.2.2.1 x.2.2.2) = some r
noncomputable def f_q19_S5 (r : List A) : ByteArray → Prop := fun v => r = l_q19 v
noncomputable def f_q19_S9 (r : List A) : ((Int × Int × (List (Int × Int)) × (List ByteArray)) ⊕ ByteArray) → Prop := goesOn (f_q19_G5 r) (f_q19_S5 r)
theorem f_q19_go9 (r : List A) : ∀ x, sem (f_q19_S9 r) (f_q19_run9 x) → f_q19_G9 r x :=
 fun x => iter_sound (step := fun x => f_q19_n9 x.1 x.2.1 x.2.2.1 x.2.2.2.1 x.2.2.2.2.1 x.2.2.2.2.2.1 x.2.2.2.2.2.2.1 x.2.2.2.2.2.2.2.1 x.2.2.2.2.2.2.2.2) (fun x h => by
  unfold f_q19_n9 at h
  exact f_q19_step9 x.1 x.2.1 x.2.2.1 x.2.2.2.1 x.2.2.2.2.1 x.2.2.2.2.2.1 x.2.2.2.2.2.2.1 x.2.2.2.2.2.2.2.1 x.2.2.2.2.2.2.2.2 r ((sem_cond h (fun h => (sem_bind h fun r4 h => (sem_cond h (fun h => (sem_bind h fun r5 h => (sem_cond h (fun h => (sem_cond h (fun h => sem_got h fun q => q) (fun h => sem_none h))) (fun h => sem_none h)))) (fun h => sem_got h fun q => q)))) (fun h => (sem_cond h (fun h => sem_got h fun q => q) (fun h => sem_none h)))))) FU x
theorem f_q19_go5 (r : List A) : ∀ x, sem (f_q19_S5 r) (f_q19_run5 x) → f_q19_G5 r x :=
 fun x => iter_sound (step := fun x => f_q19_n5 x.1 x.2.1 x.2.2.1 x.2.2.2) (fun x h => by
  unfold f_q19_n5 at h
  exact f_q19_step5 x.1 x.2.1 x.2.2.1 x.2.2.2 r ((sem_cond h (fun h => (sem_cond h (fun h => (sem_bind h fun r2 h => f_q19_go9 r _ h)) (fun h => sem_none h))) (fun h => (sem_bind h fun r3 h => sem_got h fun q => some_eq q))))) FU x
noncomputable def s_q19 (a0 : List (Int × Int)) : Option ByteArray := (Option.bind (s_q12 a0) fun r1 => (cond (!r1) (some (⟨#[]⟩ : ByteArray)) (f_q19_run5 (((List.length a0 : Nat) : Int), 0, a0, []))))
theorem f_q19_top (a0 : List (Int × Int)) (r : List A) : Tq f_q19_X f_q19_LV f_q19_c f_q19_rv r [.lst (.st [(.i .i8), (.i .u16)]) a0] = (Option.bind (s_q12 a0) fun r1 => (cond (!r1) (some [.v (.string (⟨#[]⟩ : ByteArray))]) (f_q19_L r 5 (f_q19_s5 ((List.length a0 : Nat) : Int) 0 a0 [])))) := by kernel_rfl
theorem s_q19_ok (a0 : List (Int × Int)) (v : ByteArray) (h : s_q19 a0 = some v) : (Option.bind (s_q12 a0) fun r1 => (cond (!r1) (some [.v (.string (⟨#[]⟩ : ByteArray))]) (f_q19_L (l_q19 v) 5 (f_q19_s5 ((List.length a0 : Nat) : Int) 0 a0 [])))) = some (l_q19 v) := by
 replace h : sem (fun w => l_q19 v = l_q19 w) (s_q19 a0) := ⟨v, h, rfl⟩
 unfold s_q19 at h
 exact (sem_bind h fun r1 h => (sem_cond h (fun h => sem_got h fun q => some_eq q) (fun h => f_q19_go5 (l_q19 v) _ h)))
noncomputable def c_q19 : List A → ACall
 | [.lst (.st [(.i .i8), (.i .u16)]) a0] => ⟨ByteArray, s_q19 a0, fun r => .one (.v (.string r))⟩
 | _ => ACall.fail
theorem f_q19_sound : Sound Tryz.prog 48 c_q19 := by
 refine good f_q19_ctx f_q19_LV f_q19_c f_q19_rv 1 Tryz.func48 fun rs => ?_
 unfold c_q19
 split
 ·rename_i a0; intro v h; exact ⟨rfl, l_q19 v, rfl, (f_q19_top a0 _).trans (s_q19_ok a0 v h)⟩
 ·intro v h; cases h
noncomputable def f_q1b_c := codeC Tryz.f47
noncomputable def f_q1b_X : Ctx := ⟨TT, phiOf [(48, c_q19), (60, c_q12), (72, c_q0p), (73, c_q0n)], noPsi, noXi⟩
def f_q1b_LV : List (Nat × Keep) := [(5, ([0, 4, 20, 21, 22], [], [])), (11, ([0, 4, 9, 10, 20, 21, 22, 39, 40, 41], [], []))]
def f_q1b_rv : List ResultVar := [.tmp 2, .tmp 3]
noncomputable def f_q1b_L := Lq f_q1b_X f_q1b_LV f_q1b_c f_q1b_rv
theorem f_q1b_ctx : CtxOK Tryz.prog f_q1b_X := ctx_of tab mix ⟨⟨Tryz.call48, f_q19_sound⟩, ⟨Tryz.call60, f_q12_sound⟩, ⟨Tryz.call72, f_q0p_sound⟩, ⟨Tryz.call73, f_q0n_sound⟩, trivial⟩
noncomputable def f_q1b_s5 (x0 : ByteArray) (x1 x2 : Int) (x3 : List (Int × Int)) (x4 : (List ByteArray)) : AS := ⟨[(0, .a (.v (.string x0))), (4, .a (.sl 0)), (20, .a (.sl 1)), (21, .a (.v (.int .i64 x1))), (22, .a (.v (.int .i64 x2)))], [(0, some ⟨true, .arr (.st [(.i .i8), (.i .u16)]) x3⟩), (1, some ⟨true, .arr (.one .s) x4⟩)], 2⟩
noncomputable def f_q1b_s11 (x0 : ByteArray) (x1 : Bool) (x2 x3 x4 x5 : Int) (x6 : List (Int × Int)) (x7 x8 : Int) (x9 : (List ByteArray)) (x10 : (List ByteArray)) : AS := ⟨[(0, .a (.v (.string x0))), (4, .a (.sl 0)), (9, .a (.v (.bool x1))), (10, .a (.ptr 1 [] (0))), (20, .a (.sl 2)), (21, .a (.v (.int .i64 x2))), (22, .a (.v (.int .i64 x3))), (39, .a (.sl 3)), (40, .a (.v (.int .i64 x4))), (41, .a (.v (.int .i64 x5)))], [(0, some ⟨true, .arr (.st [(.i .i8), (.i .u16)]) x6⟩), (1, some ⟨true, .box (.rc [.v (.int .i8 x7), .v (.int .u16 x8)])⟩), (2, some ⟨true, .arr (.one .s) x9⟩), (3, some ⟨false, .arr (.one .s) x10⟩)], 4⟩
abbrev A_q1b := ((List (Int × Int)) × Int)
noncomputable def l_q1b (r : ((List (Int × Int)) × Int)) : List A := [.lst (.st [(.i .i8), (.i .u16)]) r.1, .v (.int .i64 r.2)]
abbrev Z_q1b_5 := (ByteArray × Int × Int × (List (Int × Int)) × (List ByteArray))
abbrev Y_q1b_5 := A_q1b
abbrev Z_q1b_11 := (ByteArray × Bool × Int × Int × Int × Int × (List (Int × Int)) × Int × Int × (List ByteArray) × (List ByteArray))
abbrev Y_q1b_11 := (Z_q1b_5 ⊕ Y_q1b_5)
section
variable {R R' : Type} {S : R → Prop} {r : R'} (E : A_q1b → Option R) (E' : A_q1b → Option R') (G5 : Z_q1b_5 → Option R) (G5' : Z_q1b_5 → Option R') (G11 : Z_q1b_11 → Option R) (G11' : Z_q1b_11 → Option R')
noncomputable def t_q1b_5 (x0 : ByteArray) (x1 x2 : Int) (x3 : List (Int × Int)) (x4 : (List ByteArray)) : Option R := (cond (decide (x2 < x1)) (cond (inB x2 (List.length x4)) (Option.bind (s_q0p (List.getD x4 (Int.toNat x2) (⟨#[]⟩ : ByteArray)) (⟨#[44]⟩ : ByteArray)) fun r2 => (cond (inB 0 (List.length r2)) (Option.bind (s_q0n (List.getD r2 0 (⟨#[]⟩ : ByteArray)) 1 30) fun r3 => (cond (inS 1 ((List.length r2 : Nat) : Int) (List.length r2)) (G11 (x0, r3.2, x1, x2, ((List.length (List.drop 1 (List.take (Int.toNat ((List.length r2 : Nat) : Int)) r2)) : Nat) : Int), 0, x3, (IntKind.wrap .i8 r3.1), 0, x4, (List.drop 1 (List.take (Int.toNat ((List.length r2 : Nat) : Int)) r2)))) none)) none)) none) (Option.bind (s_q12 x3) fun r4 => (cond (!r4) (E ([], 5)) (Option.bind (s_q19 x3) fun r5 => (cond (!(r5.toList == x0.toList)) (E ([], 5)) (E (x3, 0)))))))
theorem t_q1b_5_sem (x0 : ByteArray) (x1 x2 : Int) (x3 : List (Int × Int)) (x4 : (List ByteArray)) (h : sem S (t_q1b_5 E G11 x0 x1 x2 x3 x4)) (hE : Leads S r E E') (h11 : Leads S r G11 G11') : t_q1b_5 E' G11' x0 x1 x2 x3 x4 = some r := by
 revert h
 unfold t_q1b_5
 repeat' first | refine sem_condK ?_ ?_ | refine sem_bindK fun _ => ?_ | exact sem_noneK | exact hE _ | exact h11 _ | refine sem_bind2K (fun _ => ?_) (fun _ => ?_)
noncomputable def t_q1b_11 (x0 : ByteArray) (x1 : Bool) (x2 x3 x4 x5 : Int) (x6 : List (Int × Int)) (x7 x8 : Int) (x9 x10 : (List ByteArray)) : Option R := (cond (decide (x5 < x4)) (cond (inB x5 (List.length x10)) (Option.bind (s_q0n (List.getD x10 (Int.toNat x5) (⟨#[]⟩ : ByteArray)) 0 11) fun r6 => (cond x1 (cond r6.2 (cond (decide (r6.1 < 0)) none (G11 (x0, r6.2, x2, x3, x4, (IntKind.wrap .i64 (x5 + 1)), x6, x7, (bOr .u16 x8 (bShl .u16 1 r6.1)), x9, x10))) (G11 (x0, r6.2, x2, x3, x4, (IntKind.wrap .i64 (x5 + 1)), x6, x7, x8, x9, x10))) (cond r6.2 (cond (decide (r6.1 < 0)) none (G11 (x0, false, x2, x3, x4, (IntKind.wrap .i64 (x5 + 1)), x6, x7, (bOr .u16 x8 (bShl .u16 1 r6.1)), x9, x10))) (G11 (x0, false, x2, x3, x4, (IntKind.wrap .i64 (x5 + 1)), x6, x7, x8, x9, x10))))) none) (cond (!x1) (E ([], 5)) (cond (fits ((List.length (x6 : List (Int × Int)) + List.length ([(x7, x8)] : List (Int × Int))) * 4)) (G5 (x0, x2, (IntKind.wrap .i64 (x3 + 1)), (x6 ++ [(x7, x8)]), x9)) none)))
theorem t_q1b_11_sem (x0 : ByteArray) (x1 : Bool) (x2 x3 x4 x5 : Int) (x6 : List (Int × Int)) (x7 x8 : Int) (x9 x10 : (List ByteArray)) (h : sem S (t_q1b_11 E G5 G11 x0 x1 x2 x3 x4 x5 x6 x7 x8 x9 x10)) (hE : Leads S r E E') (h5 : Leads S r G5 G5') (h11 : Leads S r G11 G11') : t_q1b_11 E' G5' G11' x0 x1 x2 x3 x4 x5 x6 x7 x8 x9 x10 = some r := by
 revert h
 unfold t_q1b_11
 repeat' first | refine sem_condK ?_ ?_ | refine sem_bindK fun _ => ?_ | exact sem_noneK | exact hE _ | exact h5 _ | exact h11 _ | refine sem_bind2K (fun _ => ?_) (fun _ => ?_)
noncomputable def t_q1b (a0 : ByteArray) : Option R := (cond (a0.toList == (⟨#[]⟩ : ByteArray).toList) (E ([], 0)) (Option.bind (s_q0p a0 (⟨#[32]⟩ : ByteArray)) fun r1 => (G5 (a0, ((List.length r1 : Nat) : Int), 0, [], r1))))
theorem t_q1b_sem (a0 : ByteArray) (h : sem S (t_q1b E G5 a0)) (hE : Leads S r E E') (h5 : Leads S r G5 G5') : t_q1b E' G5' a0 = some r := by
 revert h
 unfold t_q1b
 repeat' first | refine sem_condK ?_ ?_ | refine sem_bindK fun _ => ?_ | exact sem_noneK | exact hE _ | exact h5 _ | refine sem_bind2K (fun _ => ?_) (fun _ => ?_)
end
noncomputable def f_q1b_K5 (r : List A) (x : Z_q1b_5) : Option (List A) := f_q1b_L r 5 (f_q1b_s5 x.1 x.2.1 x.2.2.1 x.2.2.2.1 x.2.2.2.2)
noncomputable def f_q1b_K11 (r : List A) (x : Z_q1b_11) : Option (List A) := f_q1b_L r 11 (f_q1b_s11 x.1 x.2.1 x.2.2.1 x.2.2.2.1 x.2.2.2.2.1 x.2.2.2.2.2.1 x.2.2.2.2.2.2.1 x.2.2.2.2.2.2.2.1 x.2.2.2.2.2.2.2.2.1 x.2.2.2.2.2.2.2.2.2.1 x.2.2.2.2.2.2.2.2.2.2)
theorem f_q1b_step11 (x0 : ByteArray) (x1 : Bool) (x2 x3 x4 x5 : Int) (x6 : List (Int × Int)) (x7 x8 : Int) (x9 x10 : (List ByteArray)) (r : List A) (h : t_q1b_11 (fun v => some (l_q1b v)) (f_q1b_K5 r) (f_q1b_K11 r) x0 x1 x2 x3 x4 x5 x6 x7 x8 x9 x10 = some r) : f_q1b_L r 11 (f_q1b_s11 x0 x1 x2 x3 x4 x5 x6 x7 x8 x9 x10) = some r :=
 step_of' h (by kernel_rfl)
noncomputable def f_q1b_n11 (x0 : ByteArray) (x1 : Bool) (x2 x3 x4 x5 : Int) (x6 : List (Int × Int)) (x7 x8 : Int) (x9 x10 : (List ByteArray)) : Option (Z_q1b_11 ⊕ Y_q1b_11) := t_q1b_11 (fun v => some (Sum.inr (Sum.inr v))) (fun x => some (Sum.inr (Sum.inl x))) (fun x => some (Sum.inl x)) x0 x1 x2 x3 x4 x5 x6 x7 x8 x9 x10
noncomputable def f_q1b_run11 (x : Z_q1b_11) : Option Y_q1b_11 := iter (fun x => f_q1b_n11 x.1 x.2.1 x.2.2.1 x.2.2.2.1 x.2.2.2.2.1 x.2.2.2.2.2.1 x.2.2.2.2.2.2.1 x.2.2.2.2.2.2.2.1 x.2.2.2.2.2.2.2.2.1 x.2.2.2.2.2.2.2.2.2.1 x.2.2.2.2.2.2.2.2.2.2) FU x
noncomputable def f_q1b_G11 (r : List A) (x : Z_q1b_11) : Prop := f_q1b_K11 r x = some r
theorem f_q1b_step5 (x0 : ByteArray) (x1 x2 : Int) (x3 : List (Int × Int)) (x4 : (List ByteArray)) (r : List A) (h : t_q1b_5 (fun v => some (l_q1b v)) (f_q1b_K11 r) x0 x1 x2 x3 x4 = some r) : f_q1b_L r 5 (f_q1b_s5 x0 x1 x2 x3 x4) = some r :=
 step_of' h (by kernel_rfl)
noncomputable def f_q1b_n5 (x0 : ByteArray) (x1 x2 : Int) (x3 : List (Int × Int)) (x4 : (List ByteArray)) : Option (Z_q1b_5 ⊕ Y_q1b_5) := t_q1b_5 (fun v => some (Sum.inr v)) f_q1b_run11 x0 x1 x2 x3 x4
noncomputable def f_q1b_run5 (x : Z_q1b_5) : Option Y_q1b_5 := iter (fun x => f_q1b_n5 x.1 x.2.1 x.2.2.1 x.2.2.2.1 x.2.2.2.2) FU x
noncomputable def f_q1b_G5 (r : List A) (x : Z_q1b_5) : Prop := f_q1b_K5 r x = some r
noncomputable def f_q1b_S5 (r : List A) : Y_q1b_5 → Prop := fun v => r = l_q1b v
noncomputable def f_q1b_S11 (r : List A) : Y_q1b_11 → Prop := goesOn (f_q1b_G5 r) (f_q1b_S5 r)
theorem f_q1b_go11 (r : List A) : ∀ x, sem (f_q1b_S11 r) (f_q1b_run11 x) → f_q1b_G11 r x :=
 fun x => iter_sound (G := f_q1b_G11 r) (E := f_q1b_S11 r) (step := fun x => f_q1b_n11 x.1 x.2.1 x.2.2.1 x.2.2.2.1 x.2.2.2.2.1 x.2.2.2.2.2.1 x.2.2.2.2.2.2.1 x.2.2.2.2.2.2.2.1 x.2.2.2.2.2.2.2.2.1 x.2.2.2.2.2.2.2.2.2.1 x.2.2.2.2.2.2.2.2.2.2) (fun x h => f_q1b_step11 x.1 x.2.1 x.2.2.1 x.2.2.2.1 x.2.2.2.2.1 x.2.2.2.2.2.1 x.2.2.2.2.2.2.1 x.2.2.2.2.2.2.2.1 x.2.2.2.2.2.2.2.2.1 x.2.2.2.2.2.2.2.2.2.1 x.2.2.2.2.2.2.2.2.2.2 r (t_q1b_11_sem _ _ _ _ _ _ x.1 x.2.1 x.2.2.1 x.2.2.2.1 x.2.2.2.2.1 x.2.2.2.2.2.1 x.2.2.2.2.2.2.1 x.2.2.2.2.2.2.2.1 x.2.2.2.2.2.2.2.2.1 x.2.2.2.2.2.2.2.2.2.1 x.2.2.2.2.2.2.2.2.2.2 h (fun _ h => sem_got h fun q => some_eq q) (fun _ h => sem_got h fun q => q) (fun _ h => sem_got h fun q => q))) FU x
theorem f_q1b_go5 (r : List A) : ∀ x, sem (f_q1b_S5 r) (f_q1b_run5 x) → f_q1b_G5 r x :=
 fun x => iter_sound (G := f_q1b_G5 r) (E := f_q1b_S5 r) (step := fun x => f_q1b_n5 x.1 x.2.1 x.2.2.1 x.2.2.2.1 x.2.2.2.2) (fun x h => f_q1b_step5 x.1 x.2.1 x.2.2.1 x.2.2.2.1 x.2.2.2.2 r (t_q1b_5_sem _ _ _ _ x.1 x.2.1 x.2.2.1 x.2.2.2.1 x.2.2.2.2 h (fun _ h => sem_got h fun q => some_eq q) (f_q1b_go11 r))) FU x
noncomputable def s_q1b (a0 : ByteArray) : Option ((List (Int × Int)) × Int) := t_q1b some f_q1b_run5 a0
theorem f_q1b_top (a0 : ByteArray) (r : List A) : Tq f_q1b_X f_q1b_LV f_q1b_c f_q1b_rv r [.v (.string a0)] = t_q1b (fun v => some (l_q1b v)) (f_q1b_K5 r) a0 := by kernel_rfl
theorem s_q1b_ok (a0 : ByteArray) (v : ((List (Int × Int)) × Int)) (h : s_q1b a0 = some v) : t_q1b (fun v => some (l_q1b v)) (f_q1b_K5 (l_q1b v)) a0 = some (l_q1b v) :=
 t_q1b_sem _ _ _ _ a0 (show sem (fun w => l_q1b v = l_q1b w) (s_q1b a0) from ⟨v, h, rfl⟩) (fun _ h => sem_got h fun q => some_eq q) (f_q1b_go5 (l_q1b v))
noncomputable def c_q1b : List A → ACall
 | [.v (.string a0)] => ⟨((List (Int × Int)) × Int), s_q1b a0, fun r => .tup [.lst (.st [(.i .i8), (.i .u16)]) r.1, .v (.int .i64 r.2)]⟩
 | _ => ACall.fail
theorem f_q1b_sound : Sound Tryz.prog 47 c_q1b := by
 refine good f_q1b_ctx f_q1b_LV f_q1b_c f_q1b_rv 1 Tryz.func47 fun rs => ?_
 unfold c_q1b
 split
 ·rename_i a0; intro v h; exact ⟨rfl, l_q1b v, rfl, (f_q1b_top a0 _).trans (s_q1b_ok a0 v h)⟩
 ·intro v h; cases h
end Go.RR
namespace Go.RR
open Go Go.Proofs
noncomputable def f_q1l_c := codeC Tryz.f49
noncomputable def f_q1l_X : Ctx := ⟨TT, phiOf [(129, c_q25), (60, c_q12)], noPsi, noXi⟩
def f_q1l_LV : List (Nat × Keep) := []
def f_q1l_rv : List ResultVar := [.tmp 2, .tmp 3]
theorem f_q1l_ctx : CtxOK Tryz.prog f_q1l_X := ctx_of tab mix ⟨⟨Tryz.call129, f_q25_sound⟩, ⟨Tryz.call60, f_q12_sound⟩, trivial⟩
noncomputable def s_q1l (a0 : List (Int × Int)) : Option ((List Int) × Int) := (Option.bind (s_q12 a0) fun r1 => (cond (!r1) (some ([], 1)) (Option.bind (s_q25 a0) fun r2 => (some (r2, 0)))))
theorem f_q1l_top (a0 : List (Int × Int)) (r : List A) : Tq f_q1l_X f_q1l_LV f_q1l_c f_q1l_rv r [.lst (.st [(.i .i8), (.i .u16)]) a0] = (Option.bind (s_q12 a0) fun r1 => (cond (!r1) (some [.lst (.one (.i .i64)) [], .v (.int .i64 1)]) (Option.bind (s_q25 a0) fun r2 => (some [.lst (.one (.i .i64)) r2, .v (.int .i64 0)])))) := by kernel_rfl
noncomputable def l_q1l (r : ((List Int) × Int)) : List A := [.lst (.one (.i .i64)) r.1, .v (.int .i64 r.2)]
theorem s_q1l_ok (a0 : List (Int × Int)) (v : ((List Int) × Int)) (h : s_q1l a0 = some v) : (Option.bind (s_q12 a0) fun r1 => (cond (!r1) (some [.lst (.one (.i .i64)) [], .v (.int .i64 1)]) (Option.bind (s_q25 a0) fun r2 => (some [.lst (.one (.i .i64)) r2, .v (.int .i64 0)])))) = some (l_q1l v) := by
 refine Eq.trans (b := Option.map l_q1l (s_q1l a0)) ?_ (by rw [h]; rfl)
 unfold s_q1l
 exact (bind_app fun _ => (cond_app (Option.map l_q1l) rfl (bind_app fun _ => rfl)))
noncomputable def c_q1l : List A → ACall
 | [.lst (.st [(.i .i8), (.i .u16)]) a0] => ⟨((List Int) × Int), s_q1l a0, fun r => .tup [.lst (.one (.i .i64)) r.1, .v (.int .i64 r.2)]⟩
 | _ => ACall.fail
theorem f_q1l_sound : Sound Tryz.prog 49 c_q1l := by
 refine good f_q1l_ctx f_q1l_LV f_q1l_c f_q1l_rv 1 Tryz.func49 fun rs => ?_
 unfold c_q1l
 split
 ·rename_i a0; intro v h; exact ⟨rfl, l_q1l v, rfl, (f_q1l_top a0 _).trans (s_q1l_ok a0 v h)⟩
 ·intro v h; cases h
noncomputable def f_q27_c := codeC Tryz.f101
noncomputable def f_q27_X : Ctx := ⟨TT, phiOf [], noPsi, noXi⟩
def f_q27_LV : List (Nat × Keep) := []
def f_q27_rv : List ResultVar := [.tmp 6]
theorem f_q27_ctx : CtxOK Tryz.prog f_q27_X := ctx_of tab mix trivial
noncomputable def s_q27 (a0 a1 a2 : Int) : Bool := (cond (decide (a0 ≥ a1)) (decide (a0 ≤ a2)) false)
theorem f_q27_top (a0 a1 a2 : Int) (r : List A) : Tq f_q27_X f_q27_LV f_q27_c f_q27_rv r [.v (.int .i64 a0), .v (.int .i64 a1), .v (.int .i64 a2)] = (cond (decide (a0 ≥ a1)) (some [.v (.bool (decide (a0 ≤ a2)))]) (some [.v (.bool false)])) := by kernel_rfl
noncomputable def l_q27 (r : Bool) : List A := [.v (.bool r)]
theorem s_q27_ok (a0 a1 a2 : Int) : (cond (decide (a0 ≥ a1)) (some [.v (.bool (decide (a0 ≤ a2)))]) (some [.v (.bool false)])) = some (l_q27 (s_q27 a0 a1 a2)) := by
 unfold s_q27
 exact (cond_app (fun x => some (l_q27 x)) rfl rfl)
noncomputable def c_q27 : List A → ACall
 | [.v (.int .i64 a0), .v (.int .i64 a1), .v (.int .i64 a2)] => ⟨Bool, some (s_q27 a0 a1 a2), fun r => .one (.v (.bool r))⟩
 | _ => ACall.fail
theorem f_q27_sound : Sound Tryz.prog 101 c_q27 := by
 refine good f_q27_ctx f_q27_LV f_q27_c f_q27_rv 3 Tryz.func101 fun rs => ?_
 unfold c_q27
 split
 ·rename_i a0 a1 a2; intro v h; cases h; exact ⟨rfl, l_q27 (s_q27 a0 a1 a2), rfl, (f_q27_top a0 a1 a2 _).trans (s_q27_ok a0 a1 a2)⟩
 ·intro v h; cases h
noncomputable def f_q1g_c := codeC Tryz.f131
noncomputable def f_q1g_X : Ctx := ⟨TT, phiOf [], noPsi, noXi⟩
def f_q1g_LV : List (Nat × Keep) := [(3, ([0, 4, 5], [], [])), (6, ([0, 4, 5, 6, 7], [], []))]
def f_q1g_rv : List ResultVar := [.tmp 2, .tmp 3]
noncomputable def f_q1g_L := Lq f_q1g_X f_q1g_LV f_q1g_c f_q1g_rv
theorem f_q1g_ctx : CtxOK Tryz.prog f_q1g_X := ctx_of tab mix trivial
noncomputable def f_q1g_s3 (x0 : Int) (x1 : List (Int × Int)) (x2 : List Int) : AS := ⟨[(0, .a (.sl 0)), (4, .a (.sl 1)), (5, .a (.v (.int .u16 x0)))], [(0, some ⟨false, .arr (.st [(.i .i8), (.i .u16)]) x1⟩), (1, some ⟨true, .arr (.one (.i .i64)) x2⟩)], 2⟩
noncomputable def f_q1g_s6 (x0 x1 x2 : Int) (x3 : List (Int × Int)) (x4 : List Int) : AS := ⟨[(0, .a (.sl 0)), (4, .a (.sl 1)), (5, .a (.v (.int .u16 x0))), (6, .a (.v (.int .i64 x1))), (7, .a (.v (.int .i64 x2)))], [(0, some ⟨false, .arr (.st [(.i .i8), (.i .u16)]) x3⟩), (1, some ⟨true, .arr (.one (.i .i64)) x4⟩)], 2⟩
noncomputable def l_q1g (r : ((List Int) × Bool)) : List A := [.lst (.one (.i .i64)) r.1, .v (.bool r.2)]
theorem f_q1g_step6 (x0 x1 x2 : Int) (x3 : List (Int × Int)) (x4 : List Int) (r : List A) (h : (cond (decide (x2 ≥ 0)) (cond (decide ((IntKind.wrap .u64 x2) < 0)) none (cond ((Int.tmod (bShr .u16 x0 (IntKind.wrap .u64 x2)) 2) == 0) (cond (inB x2 (List.length x3)) (cond ((bAndNot .u16 (List.getD x3 (Int.toNat x2) ((0, 0) : (Int × Int))).2 x0) == 0) (f_q1g_L r 6 (f_q1g_s6 x0 x2 (IntKind.wrap .i64 (x2 - 1)) x3 x4)) (f_q1g_L r 6 (f_q1g_s6 x0 x1 (IntKind.wrap .i64 (x2 - 1)) x3 x4))) none) (f_q1g_L r 6 (f_q1g_s6 x0 x1 (IntKind.wrap .i64 (x2 - 1)) x3 x4)))) (cond (decide (x1 < 0)) (some [.lst (.one (.i .i64)) [], .v (.bool false)]) (cond (fits ((List.length (x4 : List Int) + List.length ([x1] : List Int)) * 8)) (cond (decide ((IntKind.wrap .u64 x1) < 0)) none (f_q1g_L r 3 (f_q1g_s3 (bOr .u16 x0 (bShl .u16 1 (IntKind.wrap .u64 x1))) x3 (x4 ++ [x1])))) none))) = some r) : f_q1g_L r 6 (f_q1g_s6 x0 x1 x2 x3 x4) = some r :=
 step_of' h (by kernel_rfl)
noncomputable def f_q1g_n6 (x0 x1 x2 : Int) (x3 : List (Int × Int)) (x4 : List Int) : Option ((Int × Int × Int × (List (Int × Int)) × (List Int)) ⊕ ((Int × (List (Int × Int)) × (List Int)) ⊕ ((List Int) × Bool))) := (cond (decide (x2 ≥ 0)) (cond (decide ((IntKind.wrap .u64 x2) < 0)) none (cond ((Int.tmod (bShr .u16 x0 (IntKind.wrap .u64 x2)) 2) == 0) (cond (inB x2 (List.length x3)) (cond ((bAndNot .u16 (List.getD x3 (Int.toNat x2) ((0, 0) : (Int × Int))).2 x0) == 0) (some (Sum.inl (x0, x2, (IntKind.wrap .i64 (x2 - 1)), x3, x4))) (some (Sum.inl (x0, x1, (IntKind.wrap .i64 (x2 - 1)), x3, x4)))) none) (some (Sum.inl (x0, x1, (IntKind.wrap .i64 (x2 - 1)), x3, x4))))) (cond (decide (x1 < 0)) (some (Sum.inr (Sum.inr ([], false)))) (cond (fits ((List.length (x4 : List Int) + List.length ([x1] : List Int)) * 8)) (cond (decide ((IntKind.wrap .u64 x1) < 0)) none (some (Sum.inr (Sum.inl ((bOr .u16 x0 (bShl .u16 1 (IntKind.wrap .u64 x1))), x3, (x4 ++ [x1])))))) none)))
noncomputable def f_q1g_run6 (x : (Int × Int × Int × (List (Int × Int)) × (List Int))) : Option ((Int × (List (Int × Int)) × (List Int)) ⊕ ((List Int) × Bool)) := iter (fun x => f_q1g_n6 x.1 x.2.1 x.2.2.1 x.2.2.2.1 x.2.2.2.2) FU x
noncomputable def f_q1g_G6 (r : List A) (x : (Int × Int × Int × (List (Int × Int)) × (List Int))) : Prop := f_q1g_L r 6 (f_q1g_s6 x.1 x.2.1 x.2.2.1 x.2.2.2.1 x.2.2.2.2) = some r
theorem f_q1g_step3 (x0 : Int) (x1 : List (Int × Int)) (x2 : List Int) (r : List A) (h : (cond (decide (((List.length x2 : Nat) : Int) < ((List.length x1 : Nat) : Int))) (f_q1g_L r 6 (f_q1g_s6 x0 (-1) (IntKind.wrap .i64 (((List.length x1 : Nat) : Int) - 1)) x1 x2)) (some [.lst (.one (.i .i64)) x2, .v (.bool true)])) = some r) : f_q1g_L r 3 (f_q1g_s3 x0 x1 x2) = some r :=
 step_of' h (by kernel_rfl)
noncomputable def f_q1g_n3 (x0 : Int) (x1 : List (Int × Int)) (x2 : List Int) : Option ((Int × (List (Int × Int)) × (List Int)) ⊕ ((List Int) × Bool)) := (cond (decide (((List.length x2 : Nat) : Int) < ((List.length x1 : Nat) : Int))) (f_q1g_run6 (x0, (-1), (IntKind.wrap .i64 (((List.length x1 : Nat) : Int) - 1)), x1, x2)) (some (Sum.inr (x2, true))))
noncomputable def f_q1g_run3 (x : (Int × (List (Int × Int)) × (List Int))) : Option ((List Int) × Bool) := iter (fun x => f_q1g_n3 x.1 x.2.1 x.2.2) FU x
noncomputable def f_q1g_G3 (r : List A) (x : (Int × (List (Int × Int)) × (List Int))) : Prop := f_q1g_L r 3 (f_q1g_s3 x.1 x.2.1 x.2.2) = some r
noncomputable def f_q1g_S3 (r : List A) : ((List Int) × Bool) → Prop := fun v => r = l_q1g v
noncomputable def f_q1g_S6 (r : List A) : ((Int × (List (Int × Int)) × (List Int)) ⊕ ((List Int) × Bool)) → Prop := goesOn (f_q1g_G3 r) (f_q1g_S3 r)
theorem f_q1g_go6 (r : List A) : ∀ x, sem (f_q1g_S6 r) (f_q1g_run6 x) → f_q1g_G6 r x :=
 fun x => iter_sound (step := fun x => f_q1g_n6 x.1 x.2.1 x.2.2.1 x.2.2.2.1 x.2.2.2.2) (fun x h => by
  unfold f_q1g_n6 at h
  exact f_q1g_step6 x.1 x.2.1 x.2.2.1 x.2.2.2.1 x.2.2.2.2 r ((sem_cond h (fun h => (sem_cond h (fun h => sem_none h) (fun h => (sem_cond h (fun h => (sem_cond h (fun h => (sem_cond h (fun h => sem_got h fun q => q) (fun h => sem_got h fun q => q))) (fun h => sem_none h))) (fun h => sem_got h fun q => q))))) (fun h => (sem_cond h (fun h => sem_got h fun q => some_eq q) (fun h => (sem_cond h (fun h => (sem_cond h (fun h => sem_none h) (fun h => sem_got h fun q => q))) (fun h => sem_none h)))))))) FU x
theorem f_q1g_go3 (r : List A) : ∀ x, sem (f_q1g_S3 r) (f_q1g_run3 x) → f_q1g_G3 r x :=
 fun x => iter_sound (step := fun x => f_q1g_n3 x.1 x.2.1 x.2.2) (fun x h => by
  unfold f_q1g_n3 at h
  exact f_q1g_step3 x.1 x.2.1 x.2.2 r ((sem_cond h (fun h => f_q1g_go6 r _ h) (fun h => sem_got h fun q => some_eq q)))) FU x
noncomputable def s_q1g (a0 : List (Int × Int)) : Option ((List Int) × Bool) := (f_q1g_run3 (0, a0, []))
theorem f_q1g_top (a0 : List (Int × Int)) (r : List A) : Tq f_q1g_X f_q1g_LV f_q1g_c f_q1g_rv r [.lst (.st [(.i .i8), (.i .u16)]) a0] = (f_q1g_L r 3 (f_q1g_s3 0 a0 [])) := by kernel_rfl
theorem s_q1g_ok (a0 : List (Int × Int)) (v : ((List Int) × Bool)) (h : s_q1g a0 = some v) : (f_q1g_L (l_q1g v) 3 (f_q1g_s3 0 a0 [])) = some (l_q1g v) := by
 replace h : sem (fun w => l_q1g v = l_q1g w) (s_q1g a0) := ⟨v, h, rfl⟩
 unfold s_q1g at h
 exact f_q1g_go3 (l_q1g v) _ h
noncomputable def c_q1g : List A → ACall
 | [.lst (.st [(.i .i8), (.i .u16)]) a0] => ⟨((List Int) × Bool), s_q1g a0, fun r => .tup [.lst (.one (.i .i64)) r.1, .v (.bool r.2)]⟩
 | _ => ACall.fail
theorem f_q1g_sound : Sound Tryz.prog 131 c_q1g := by
 refine good f_q1g_ctx f_q1g_LV f_q1g_c f_q1g_rv 1 Tryz.func131 fun rs => ?_
 unfold c_q1g
 split
 ·rename_i a0; intro v h; exact ⟨rfl, l_q1g v, rfl, (f_q1g_top a0 _).trans (s_q1g_ok a0 v h)⟩
 ·intro v h; cases h
noncomputable def f_q2a_c := codeC Tryz.f130
noncomputable def f_q2a_X : Ctx := ⟨TT, phiOf [(101, c_q27), (131, c_q1g)], noPsi, noXi⟩
def f_q2a_LV : List (Nat × Keep) := [(4, ([0, 3], [], []))]
def f_q2a_rv : List ResultVar := [.tmp 2]
noncomputable def f_q2a_L := Lq f_q2a_X f_q2a_LV f_q2a_c f_q2a_rv
theorem f_q2a_ctx : CtxOK Tryz.prog f_q2a_X := ctx_of tab mix ⟨⟨Tryz.call101, f_q27_sound⟩, ⟨Tryz.call131, f_q1g_sound⟩, trivial⟩
noncomputable def f_q2a_s4 (x0 : Int) (x1 : List (Int × Int)) : AS := ⟨[(0, .a (.sl 0)), (3, .a (.v (.int .i64 x0)))], [(0, some ⟨false, .arr (.st [(.i .i8), (.i .u16)]) x1⟩)], 1⟩
noncomputable def l_q2a (r : Bool) : List A := [.v (.bool r)]
theorem f_q2a_step4 (x0 : Int) (x1 : List (Int × Int)) (r : List A) (h : (cond (decide (x0 < ((List.length x1 : Nat) : Int))) (cond (inB x0 (List.length x1)) (cond (!(s_q27 (IntKind.wrap .i64 (List.getD x1 (Int.toNat x0) ((0, 0) : (Int × Int))).1) 1 30)) (some [.v (.bool false)]) (cond (inB x0 (List.length x1)) (cond (decide ((IntKind.wrap .u64 ((List.length x1 : Nat) : Int)) < 0)) none (cond ((bShr .u16 (List.getD x1 (Int.toNat x0) ((0, 0) : (Int × Int))).2 (IntKind.wrap .u64 ((List.length x1 : Nat) : Int))) != 0) (some [.v (.bool false)]) (f_q2a_L r 4 (f_q2a_s4 (IntKind.wrap .i64 (x0 + 1)) x1)))) none)) none) (Option.bind (s_q1g x1) fun r1 => (some [.v (.bool r1.2)]))) = some r) : f_q2a_L r 4 (f_q2a_s4 x0 x1) = some r :=
 step_of' h (by kernel_rfl)
noncomputable def f_q2a_n4 (x0 : Int) (x1 : List (Int × Int)) : Option ((Int × (List (Int × Int))) ⊕ Bool) := (cond (decide (x0 < ((List.length x1 : Nat) : Int))) (cond (inB x0 (List.length x1)) (cond (!(s_q27 (IntKind.wrap .i64 (List.getD x1 (Int.toNat x0) ((0, 0) : (Int × Int))).1) 1 30)) (some (Sum.inr false)) (cond (inB x0 (List.length x1)) (cond (decide ((IntKind.wrap .u64 ((List.length x1 : Nat) : Int)) < 0)) none (cond ((bShr .u16 (List.getD x1 (Int.toNat x0) ((0, 0) : (Int × Int))).2 (IntKind.wrap .u64 ((List.length x1 : Nat) : Int))) != 0) (some (Sum.inr false)) (some (Sum.inl ((IntKind.wrap .i64 (x0 + 1)), x1))))) none)) none) (Option.bind (s_q1g x1) fun r1 => (some (Sum.inr (r1.2)))))
noncomputable def f_q2a_run4 (x : (Int × (List (Int × Int)))) : Option Bool := iter (fun x => f_q2a_n4 x.1 x.2) FU x
noncomputable def f_q2a_G4 (r : List A) (x : (Int × (List (Int × Int)))) : Prop := f_q2a_L r 4 (f_q2a_s4 x.1 x.2) = some r
noncomputable def f_q2a_S4 (r : List A) : Bool → Prop := fun v => r = l_q2a v
theorem f_q2a_go4 (r : List A) : ∀ x, sem (f_q2a_S4 r) (f_q2a_run4 x) → f_q2a_G4 r x :=
 fun x => iter_sound (step := fun x => f_q2a_n4 x.1 x.2) (fun x h => by
  unfold f_q2a_n4 at h
  exact f_q2a_step4 x.1 x.2 r ((sem_cond h (fun h => (sem_cond h (fun h => (sem_cond h (fun h => sem_got h fun q => some_eq q) (fun h => (sem_cond h (fun h => (sem_cond h (fun h => sem_none h) (fun h => (sem_cond h (fun h => sem_got h fun q => some_eq q) (fun h => sem_got h fun q => q))))) (fun h => sem_none h))))) (fun h => sem_none h))) (fun h => (sem_bind h fun r1 h => sem_got h fun q => some_eq q))))) FU x
noncomputable def s_q2a (a0 : List (Int × Int)) : Option Bool := (cond (decide (((List.length a0 : Nat) : Int) > 12)) (some false) (f_q2a_run4 (0, a0)))
theorem f_q2a_top (a0 : List (Int × Int)) (r : List A) : Tq f_q2a_X f_q2a_LV f_q2a_c f_q2a_rv r [.lst (.st [(.i .i8), (.i .u16)]) a0] = (cond (decide (((List.length a0 : Nat) : Int) > 12)) (some [.v (.bool false)]) (f_q2a_L r 4 (f_q2a_s4 0 a0))) := by kernel_rfl
theorem s_q2a_ok (a0 : List (Int × Int)) (v : Bool) (h : s_q2a a0 = some v) : (cond (decide (((List.length a0 : Nat) : Int) > 12)) (some [.v (.bool false)]) (f_q2a_L (l_q2a v) 4 (f_q2a_s4 0 a0))) = some (l_q2a v) := by
 replace h : sem (fun w => l_q2a v = l_q2a w) (s_q2a a0) := ⟨v, h, rfl⟩
 unfold s_q2a at h
 exact (sem_cond h (fun h => sem_got h fun q => some_eq q) (fun h => f_q2a_go4 (l_q2a v) _ h))
noncomputable def c_q2a : List A → ACall
 | [.lst (.st [(.i .i8), (.i .u16)]) a0] => ⟨Bool, s_q2a a0, fun r => .one (.v (.bool r))⟩
 | _ => ACall.fail
theorem f_q2a_sound : Sound Tryz.prog 130 c_q2a := by
 refine good f_q2a_ctx f_q2a_LV f_q2a_c f_q2a_rv 1 Tryz.func130 fun rs => ?_
 unfold c_q2a
 split
 ·rename_i a0; intro v h; exact ⟨rfl, l_q2a v, rfl, (f_q2a_top a0 _).trans (s_q2a_ok a0 v h)⟩
 ·intro v h; cases h
noncomputable def f_q1s_c := codeC Tryz.f50
noncomputable def f_q1s_X : Ctx := ⟨TT, phiOf [(130, c_q2a), (131, c_q1g)], noPsi, noXi⟩
def f_q1s_LV : List (Nat × Keep) := []
def f_q1s_rv : List ResultVar := [.tmp 2, .tmp 3]
theorem f_q1s_ctx : CtxOK Tryz.prog f_q1s_X := ctx_of tab mix ⟨⟨Tryz.call130, f_q2a_sound⟩, ⟨Tryz.call131, f_q1g_sound⟩, trivial⟩
noncomputable def s_q1s (a0 : List (Int × Int)) : Option ((List Int) × Int) := (Option.bind (s_q2a a0) fun r1 => (cond (!r1) (some ([], 1)) (Option.bind (s_q1g a0) fun r2 => (some ((r2.1), 0)))))
theorem f_q1s_top (a0 : List (Int × Int)) (r : List A) : Tq f_q1s_X f_q1s_LV f_q1s_c f_q1s_rv r [.lst (.st [(.i .i8), (.i .u16)]) a0] = (Option.bind (s_q2a a0) fun r1 => (cond (!r1) (some [.lst (.one (.i .i64)) [], .v (.int .i64 1)]) (Option.bind (s_q1g a0) fun r2 => (some [.lst (.one (.i .i64)) r2.1, .v (.int .i64 0)])))) := by kernel_rfl
noncomputable def l_q1s (r : ((List Int) × Int)) : List A := [.lst (.one (.i .i64)) r.1, .v (.int .i64 r.2)]
theorem s_q1s_ok (a0 : List (Int × Int)) (v : ((List Int) × Int)) (h : s_q1s a0 = some v) : (Option.bind (s_q2a a0) fun r1 => (cond (!r1) (some [.lst (.one (.i .i64)) [], .v (.int .i64 1)]) (Option.bind (s_q1g a0) fun r2 => (some [.lst (.one (.i .i64)) r2.1, .v (.int .i64 0)])))) = some (l_q1s v) := by
 refine Eq.trans (b := Option.map l_q1s (s_q1s a0)) ?_ (by rw [h]; rfl)
 unfold s_q1s
 exact (bind_app fun _ => (cond_app (Option.map l_q1s) rfl (bind_app fun _ => rfl)))
noncomputable def c_q1s : List A → ACall
 | [.lst (.st [(.i .i8), (.i .u16)]) a0] => ⟨((List Int) × Int), s_q1s a0, fun r => .tup [.lst (.one (.i .i64)) r.1, .v (.int .i64 r.2)]⟩
 | _ => ACall.fail
theorem f_q1s_sound : Sound Tryz.prog 50 c_q1s := by
 refine good f_q1s_ctx f_q1s_LV f_q1s_c f_q1s_rv 1 Tryz.func50 fun rs => ?_
 unfold c_q1s
 split
 ·rename_i a0; intro v h; exact ⟨rfl, l_q1s v, rfl, (f_q1s_top a0 _).trans (s_q1s_ok a0 v h)⟩
 ·intro v h; cases h
noncomputable def f_q0x_c := codeC Tryz.f51
noncomputable def f_q0x_X : Ctx := ⟨TT, phiOf [(128, c_q0z), (129, c_q25), (60, c_q12)], noPsi, noXi⟩
def f_q0x_LV : List (Nat × Keep) := [(5, ([0, 4, 15, 16, 17], [], [])), (9, ([0, 4, 6, 15, 16, 17, 30, 31], [], []))]
def f_q0x_rv : List ResultVar := [.tmp 2, .tmp 3]
noncomputable def f_q0x_L := Lq f_q0x_X f_q0x_LV f_q0x_c f_q0x_rv
theorem f_q0x_ctx : CtxOK Tryz.prog f_q0x_X := ctx_of tab mix ⟨⟨Tryz.call128, f_q0z_sound⟩, ⟨Tryz.call129, f_q25_sound⟩, ⟨Tryz.call60, f_q12_sound⟩, trivial⟩
noncomputable def f_q0x_s5 (x0 x1 : Int) (x2 : List (Int × Int)) (x3 x4 : List Int) : AS := ⟨[(0, .a (.sl 0)), (4, .a (.sl 1)), (15, .a (.sl 2)), (16, .a (.v (.int .i64 x0))), (17, .a (.v (.int .i64 x1)))], [(0, some ⟨false, .arr (.st [(.i .i8), (.i .u16)]) x2⟩), (1, some ⟨true, .arr (.one (.i .u16)) x3⟩), (2, some ⟨true, .arr (.one (.i .i64)) x4⟩)], 3⟩
noncomputable def f_q0x_s9 (x0 x1 x2 x3 x4 : Int) (x5 : List (Int × Int)) (x6 x7 : List Int) : AS := ⟨[(0, .a (.sl 0)), (4, .a (.sl 1)), (6, .a (.v (.int .i64 x0))), (15, .a (.sl 2)), (16, .a (.v (.int .i64 x1))), (17, .a (.v (.int .i64 x2))), (30, .a (.v (.int .i64 x3))), (31, .a (.v (.int .i64 x4)))], [(0, some ⟨false, .arr (.st [(.i .i8), (.i .u16)]) x5⟩), (1, some ⟨true, .arr (.one (.i .u16)) x6⟩), (2, some ⟨true, .arr (.one (.i .i64)) x7⟩)], 3⟩
abbrev A_q0x := ((List Int) × Int)
noncomputable def l_q0x (r : ((List Int) × Int)) : List A := [.lst (.one (.i .u16)) r.1, .v (.int .i64 r.2)]
abbrev Z_q0x_5 := (Int × Int × (List (Int × Int)) × (List Int) × (List Int))
abbrev Y_q0x_5 := A_q0x
abbrev Z_q0x_9 := (Int × Int × Int × Int × Int × (List (Int × Int)) × (List Int) × (List Int))
abbrev Y_q0x_9 := (Z_q0x_5 ⊕ Y_q0x_5)
section
variable {R R' : Type} {S : R → Prop} {r : R'} (E : A_q0x → Option R) (E' : A_q0x → Option R') (G5 : Z_q0x_5 → Option R) (G5' : Z_q0x_5 → Option R') (G9 : Z_q0x_9 → Option R) (G9' : Z_q0x_9 → Option R')
noncomputable def t_q0x_5 (x0 x1 : Int) (x2 : List (Int × Int)) (x3 x4 : List Int) : Option R := (cond (decide (x1 < x0)) (cond (inB x1 (List.length x4)) (cond (inB (List.getD x4 (Int.toNat x1) 0) (List.length x2)) (cond (inB (List.getD x4 (Int.toNat x1) 0) (List.length x3)) (G9 ((List.getD x4 (Int.toNat x1) 0), x0, x1, ((List.length x2 : Nat) : Int), 0, x2, (List.set x3 (Int.toNat (List.getD x4 (Int.toNat x1) 0)) (List.getD x2 (Int.toNat (List.getD x4 (Int.toNat x1) 0)) ((0, 0) : (Int × Int))).2), x4)) none) none) none) (E (x3, 0)))
theorem t_q0x_5_sem (x0 x1 : Int) (x2 : List (Int × Int)) (x3 x4 : List Int) (h : sem S (t_q0x_5 E G9 x0 x1 x2 x3 x4)) (hE : Leads S r E E') (h9 : Leads S r G9 G9') : t_q0x_5 E' G9' x0 x1 x2 x3 x4 = some r := by
 revert h
 unfold t_q0x_5
 repeat' first | refine sem_condK ?_ ?_ | refine sem_bindK fun _ => ?_ | exact sem_noneK | exact hE _ | exact h9 _ | refine sem_bind2K (fun _ => ?_) (fun _ => ?_)
noncomputable def t_q0x_9 (x0 x1 x2 x3 x4 : Int) (x5 : List (Int × Int)) (x6 x7 : List Int) : Option R := (cond (decide (x4 < x3)) (cond (inB x0 (List.length x5)) (Option.bind (s_q0z (List.getD x5 (Int.toNat x0) ((0, 0) : (Int × Int))).1 (List.getD x5 (Int.toNat x0) ((0, 0) : (Int × Int))).2 x4) fun r3 => (cond r3 (cond (inB x0 (List.length x6)) (cond (inB x4 (List.length x6)) (cond (inB x0 (List.length x6)) (G9 (x0, x1, x2, x3, (IntKind.wrap .i64 (x4 + 1)), x5, (List.set x6 (Int.toNat x0) (bOr .u16 (List.getD x6 (Int.toNat x0) 0) (List.getD x6 (Int.toNat x4) 0))), x7)) none) none) none) (G9 (x0, x1, x2, x3, (IntKind.wrap .i64 (x4 + 1)), x5, x6, x7)))) none) (G5 (x1, (IntKind.wrap .i64 (x2 + 1)), x5, x6, x7)))
theorem t_q0x_9_sem (x0 x1 x2 x3 x4 : Int) (x5 : List (Int × Int)) (x6 x7 : List Int) (h : sem S (t_q0x_9 G5 G9 x0 x1 x2 x3 x4 x5 x6 x7)) (h5 : Leads S r G5 G5') (h9 : Leads S r G9 G9') : t_q0x_9 G5' G9' x0 x1 x2 x3 x4 x5 x6 x7 = some r := by
 revert h
 unfold t_q0x_9
 repeat' first | refine sem_condK ?_ ?_ | refine sem_bindK fun _ => ?_ | exact sem_noneK | exact h5 _ | exact h9 _ | refine sem_bind2K (fun _ => ?_) (fun _ => ?_)
noncomputable def t_q0x (a0 : List (Int × Int)) : Option R := (Option.bind (s_q12 a0) fun r1 => (cond (!r1) (E ([], 1)) (cond (decide (0 ≤ ((List.length a0 : Nat) : Int)) && decide (((List.length a0 : Nat) : Int) = ((List.length a0 : Nat) : Int)) && fits ((Int.toNat ((List.length a0 : Nat) : Int)) * 2)) (Option.bind (s_q25 a0) fun r2 => (G5 (((List.length r2 : Nat) : Int), 0, a0, (List.replicate (Int.toNat ((List.length a0 : Nat) : Int)) (0 : Int)), r2))) none)))
theorem t_q0x_sem (a0 : List (Int × Int)) (h : sem S (t_q0x E G5 a0)) (hE : Leads S r E E') (h5 : Leads S r G5 G5') : t_q0x E' G5' a0 = some r := by
 revert h
 unfold t_q0x
 repeat' first | refine sem_condK ?_ ?_ | refine sem_bindK fun _ => ?_ | exact sem_noneK | exact hE _ | exact h5 _ | refine sem_bind2K (fun _ => ?_) (fun _ => ?_)
end
noncomputable def f_q0x_K5 (r : List A) (x : Z_q0x_5) : Option (List A) := f_q0x_L r 5 (f_q0x_s5 x.1 x.2.1 x.2.2.1 x.2.2.2.1 x.2.2.2.2)
noncomputable def f_q0x_K9 (r : List A) (x : Z_q0x_9) : Option (List A) := f_q0x_L r 9 (f_q0x_s9 x.1 x.2.1 x.2.2.1 x.2.2.2.1 x.2.2.2.2.1 x.2.2.2.2.2.1 x.2.2.2.2.2.2.1 x.2.2.2.2.2.2.2)
theorem f_q0x_step9 (x0 x1 x2 x3 x4 : Int) (x5 : List (Int × Int)) (x6 x7 : List Int) (r : List A) (h : t_q0x_9 (f_q0x_K5 r) (f_q0x_K9 r) x0 x1 x2 x3 x4 x5 x6 x7 = some r) : f_q0x_L r 9 (f_q0x_s9 x0 x1 x2 x3 x4 x5 x6 x7) = some r :=
 step_of' h (by kernel_rfl)
noncomputable def f_q0x_n9 (x0 x1 x2 x3 x4 : Int) (x5 : List (Int × Int)) (x6 x7 : List Int) : Option (Z_q0x_9 ⊕ Y_q0x_9) := t_q0x_9 (fun x => some (Sum.inr (Sum.inl x))) (fun x => some (Sum.inl x)) x0 x1 x2 x3 x4 x5 x6 x7
noncomputable def f_q0x_run9 (x : Z_q0x_9) : Option Y_q0x_9 := iter (fun x => f_q0x_n9 x.1 x.2.1 x.2.2.1 x.2.2.2.1 x.2.2.2.2.1 x.2.2.2.2.2.1 x.2.2.2.2.2.2.1 x.2.2.2.2.2.2.2) FU x
noncomputable def f_q0x_G9 (r : List A) (x : Z_q0x_9) : Prop := f_q0x_K9 r x = some r
theorem f_q0x_step5 (x0 x1 : Int) (x2 : List (Int × Int)) (x3 x4 : List Int) (r : List A) (h : t_q0x_5 (fun v => some (l_q0x v)) (f_q0x_K9 r) x0 x1 x2 x3 x4 = some r) : f_q0x_L r 5 (f_q0x_s5 x0 x1 x2 x3 x4) = some r :=
 step_of' h (by kernel_rfl)
noncomputable def f_q0x_n5 (x0 x1 : Int) (x2 : List (Int × Int)) (x3 x4 : List Int) : Option (Z_q0x_5 ⊕ Y_q0x_5) := t_q0x_5 (fun v => some (Sum.inr v)) f_q0x_run9 x0 x1 x2 x3 x4
noncomputable def f_q0x_run5 (x : Z_q0x_5) : Option Y_q0x_5 := iter (fun x => f_q0x_n5 x.1 x.2.1 x.2.2.1 x.2.2.2.1 x.2.2.2.2) FU x
noncomputable def f_q0x_G5 (r : List A) (x : Z_q0x_5) : Prop := f_q0x_K5 r x = some r
noncomputable def f_q0x_S5 (r : List A) : Y_q0x_5 → Prop := fun v => r = l_q0x v
noncomputable def f_q0x_S9 (r : List A) : Y_q0x_9 → Prop := goesOn (f_q0x_G5 r) (f_q0x_S5 r)
theorem f_q0x_go9 (r : List A) : ∀ x, sem (f_q0x_S9 r) (f_q0x_run9 x) → f_q0x_G9 r x :=
 fun x => iter_sound (G := f_q0x_G9 r) (E := f_q0x_S9 r) (step := fun x => f_q0x_n9 x.1 x.2.1 x.2.2.1 x.2.2.2.1 x.2.2.2.2.1 x.2.2.2.2.2.1 x.2.2.2.2.2.2.1 x.2.2.2.2.2.2.2) (fun x h => f_q0x_step9 x.1 x.2.1 x.2.2.1 x.2.2.2.1 x.2.2.2.2.1 x.2.2.2.2.2.1 x.2.2.2.2.2.2.1 x.2.2.2.2.2.2.2 r (t_q0x_9_sem _ _ _ _ x.1 x.2.1 x.2.2.1 x.2.2.2.1 x.2.2.2.2.1 x.2.2.2.2.2.1 x.2.2.2.2.2.2.1 x.2.2.2.2.2.2.2 h (fun _ h => sem_got h fun q => q) (fun _ h => sem_got h fun q => q))) FU x
theorem f_q0x_go5 (r : List A) : ∀ x, sem (f_q0x_S5 r) (f_q0x_run5 x) → f_q0x_G5 r x :=
 fun x => iter_sound (G := f_q0x_G5 r) (E := f_q0x_S5 r) (step := fun x => f_q0x_n5 x.1 x.2.1 x.2.2.1 x.2.2.2.1 x.2.2.2.2) (fun x h => f_q0x_step5 x.1 x.2.1 x.2.2.1 x.2.2.2.1 x.2.2.2.2 r (t_q0x_5_sem _ _ _ _ x.1 x.2.1 x.2.2.1 x.2.2.2.1 x.2.2.2.2 h (fun _ h => sem_got h fun q => some_eq q) (f_q0x_go9 r))) FU x
noncomputable def s_q0x (a0 : List (Int × Int)) : Option ((List Int) × Int) := t_q0x some f_q0x_run5 a0
theorem f_q0x_top (a0 : List (Int × Int)) (r : List A) : Tq f_q0x_X f_q0x_LV f_q0x_c f_q0x_rv r [.lst (.st [(.i .i8), (.i .u16)]) a0] = t_q0x (fun v => some (l_q0x v)) (f_q0x_K5 r) a0 := by kernel_rfl
theorem s_q0x_ok (a0 : List (Int × Int)) (v : ((List Int) × Int)) (h : s_q0x a0 = some v) : t_q0x (fun v => some (l_q0x v)) (f_q0x_K5 (l_q0x v)) a0 = some (l_q0x v) :=
 t_q0x_sem _ _ _ _ a0 (show sem (fun w => l_q0x v = l_q0x w) (s_q0x a0) from ⟨v, h, rfl⟩) (fun _ h => sem_got h fun q => some_eq q) (f_q0x_go5 (l_q0x v))
noncomputable def c_q0x : List A → ACall
 | [.lst (.st [(.i .i8), (.i .u16)]) a0] => ⟨((List Int) × Int), s_q0x a0, fun r => .tup [.lst (.one (.i .u16)) r.1, .v (.int .i64 r.2)]⟩
 | _ => ACall.fail
theorem f_q0x_sound : Sound Tryz.prog 51 c_q0x := by
 refine good f_q0x_ctx f_q0x_LV f_q0x_c f_q0x_rv 1 Tryz.func51 fun rs => ?_
 unfold c_q0x
 split
 ·rename_i a0; intro v h; exact ⟨rfl, l_q0x v, rfl, (f_q0x_top a0 _).trans (s_q0x_ok a0 v h)⟩
 ·intro v h; cases h
noncomputable def f_q1i_c := codeC Tryz.f132
noncomputable def f_q1i_X : Ctx := ⟨TT, phiOf [], noPsi, noXi⟩
def f_q1i_LV : List (Nat × Keep) := []
def f_q1i_rv : List ResultVar := [.tmp 6]
theorem f_q1i_ctx : CtxOK Tryz.prog f_q1i_X := ctx_of tab mix trivial
noncomputable def s_q1i (a0 : List (Int × Int)) (a1 a2 : Int) : Option Bool := (cond (inB a1 (List.length a0)) (cond (decide ((IntKind.wrap .u64 a2) < 0)) none (some ((Int.tmod (bShr .u16 (List.getD a0 (Int.toNat a1) ((0, 0) : (Int × Int))).2 (IntKind.wrap .u64 a2)) 2) == 1))) none)
theorem f_q1i_top (a0 : List (Int × Int)) (a1 a2 : Int) (r : List A) : Tq f_q1i_X f_q1i_LV f_q1i_c f_q1i_rv r [.lst (.st [(.i .i8), (.i .u16)]) a0, .v (.int .i64 a1), .v (.int .i64 a2)] = (cond (inB a1 (List.length a0)) (cond (decide ((IntKind.wrap .u64 a2) < 0)) none (some [.v (.bool ((Int.tmod (bShr .u16 (List.getD a0 (Int.toNat a1) ((0, 0) : (Int × Int))).2 (IntKind.wrap .u64 a2)) 2) == 1))])) none) := by kernel_rfl
noncomputable def l_q1i (r : Bool) : List A := [.v (.bool r)]
theorem s_q1i_ok (a0 : List (Int × Int)) (a1 a2 : Int) (v : Bool) (h : s_q1i a0 a1 a2 = some v) : (cond (inB a1 (List.length a0)) (cond (decide ((IntKind.wrap .u64 a2) < 0)) none (some [.v (.bool ((Int.tmod (bShr .u16 (List.getD a0 (Int.toNat a1) ((0, 0) : (Int × Int))).2 (IntKind.wrap .u64 a2)) 2) == 1))])) none) = some (l_q1i v) := by
 refine Eq.trans (b := Option.map l_q1i (s_q1i a0 a1 a2)) ?_ (by rw [h]; rfl)
 unfold s_q1i
 exact (cond_app (Option.map l_q1i) (cond_app (Option.map l_q1i) rfl rfl) rfl)
noncomputable def c_q1i : List A → ACall
 | [.lst (.st [(.i .i8), (.i .u16)]) a0, .v (.int .i64 a1), .v (.int .i64 a2)] => ⟨Bool, s_q1i a0 a1 a2, fun r => .one (.v (.bool r))⟩
 | _ => ACall.fail
theorem f_q1i_sound : Sound Tryz.prog 132 c_q1i := by
 refine good f_q1i_ctx f_q1i_LV f_q1i_c f_q1i_rv 3 Tryz.func132 fun rs => ?_
 unfold c_q1i
 split
 ·rename_i a0 a1 a2; intro v h; exact ⟨rfl, l_q1i v, rfl, (f_q1i_top a0 a1 a2 _).trans (s_q1i_ok a0 a1 a2 v h)⟩
 ·intro v h; cases h
noncomputable def f_q14_c := codeC Tryz.f52
noncomputable def f_q14_X : Ctx := ⟨TT, phiOf [(130, c_q2a), (131, c_q1g), (132, c_q1i)], noPsi, noXi⟩
def f_q14_LV : List (Nat × Keep) := [(6, ([0, 4, 6, 7], [], [])), (11, ([0, 4, 6, 7, 8, 9], [], []))]
def f_q14_rv : List ResultVar := [.tmp 2, .tmp 3]
noncomputable def f_q14_L := Lq f_q14_X f_q14_LV f_q14_c f_q14_rv
theorem f_q14_ctx : CtxOK Tryz.prog f_q14_X := ctx_of tab mix ⟨⟨Tryz.call130, f_q2a_sound⟩, ⟨Tryz.call131, f_q1g_sound⟩, ⟨Tryz.call132, f_q1i_sound⟩, trivial⟩
noncomputable def f_q14_s6 (x0 : Int) (x1 : List (Int × Int)) (x2 x3 : List Int) : AS := ⟨[(0, .a (.sl 0)), (4, .a (.sl 1)), (6, .a (.sl 2)), (7, .a (.v (.int .i64 x0)))], [(0, some ⟨false, .arr (.st [(.i .i8), (.i .u16)]) x1⟩), (1, some ⟨true, .arr (.one (.i .i64)) x2⟩), (2, some ⟨true, .arr (.one (.i .u16)) x3⟩)], 3⟩
noncomputable def f_q14_s11 (x0 x1 x2 : Int) (x3 : List (Int × Int)) (x4 x5 : List Int) : AS := ⟨[(0, .a (.sl 0)), (4, .a (.sl 1)), (6, .a (.sl 2)), (7, .a (.v (.int .i64 x0))), (8, .a (.v (.int .i64 x1))), (9, .a (.v (.int .i64 x2)))], [(0, some ⟨false, .arr (.st [(.i .i8), (.i .u16)]) x3⟩), (1, some ⟨true, .arr (.one (.i .i64)) x4⟩), (2, some ⟨true, .arr (.one (.i .u16)) x5⟩)], 3⟩
abbrev A_q14 := ((List Int) × Int)
noncomputable def l_q14 (r : ((List Int) × Int)) : List A := [.lst (.one (.i .u16)) r.1, .v (.int .i64 r.2)]
abbrev Z_q14_6 := (Int × (List (Int × Int)) × (List Int) × (List Int))
abbrev Y_q14_6 := A_q14
abbrev Z_q14_11 := (Int × Int × Int × (List (Int × Int)) × (List Int) × (List Int))
abbrev Y_q14_11 := (Z_q14_6 ⊕ Y_q14_6)
section
variable {R R' : Type} {S : R → Prop} {r : R'} (E : A_q14 → Option R) (E' : A_q14 → Option R') (G6 : Z_q14_6 → Option R) (G6' : Z_q14_6 → Option R') (G11 : Z_q14_11 → Option R) (G11' : Z_q14_11 → Option R')
noncomputable def t_q14_6 (x0 : Int) (x1 : List (Int × Int)) (x2 x3 : List Int) : Option R := (cond (decide (x0 < ((List.length x2 : Nat) : Int))) (cond (inB x0 (List.length x2)) (cond (inB (List.getD x2 (Int.toNat x0) 0) (List.length x1)) (cond (inB (List.getD x2 (Int.toNat x0) 0) (List.length x3)) (G11 (x0, (List.getD x2 (Int.toNat x0) 0), 0, x1, x2, (List.set x3 (Int.toNat (List.getD x2 (Int.toNat x0) 0)) (List.getD x1 (Int.toNat (List.getD x2 (Int.toNat x0) 0)) ((0, 0) : (Int × Int))).2))) none) none) none) (E (x3, 0)))
theorem t_q14_6_sem (x0 : Int) (x1 : List (Int × Int)) (x2 x3 : List Int) (h : sem S (t_q14_6 E G11 x0 x1 x2 x3)) (hE : Leads S r E E') (h11 : Leads S r G11 G11') : t_q14_6 E' G11' x0 x1 x2 x3 = some r := by
 revert h
 unfold t_q14_6
 repeat' first | refine sem_condK ?_ ?_ | refine sem_bindK fun _ => ?_ | exact sem_noneK | exact hE _ | exact h11 _ | refine sem_bind2K (fun _ => ?_) (fun _ => ?_)
noncomputable def t_q14_11 (x0 x1 x2 : Int) (x3 : List (Int × Int)) (x4 x5 : List Int) : Option R := (cond (decide (x2 < ((List.length x3 : Nat) : Int))) (Option.bind (s_q1i x3 x1 x2) fun r3 => (cond r3 (cond (inB x1 (List.length x5)) (cond (inB x2 (List.length x5)) (cond (inB x1 (List.length x5)) (G11 (x0, x1, (IntKind.wrap .i64 (x2 + 1)), x3, x4, (List.set x5 (Int.toNat x1) (bOr .u16 (List.getD x5 (Int.toNat x1) 0) (List.getD x5 (Int.toNat x2) 0))))) none) none) none) (G11 (x0, x1, (IntKind.wrap .i64 (x2 + 1)), x3, x4, x5)))) (G6 ((IntKind.wrap .i64 (x0 + 1)), x3, x4, x5)))
theorem t_q14_11_sem (x0 x1 x2 : Int) (x3 : List (Int × Int)) (x4 x5 : List Int) (h : sem S (t_q14_11 G6 G11 x0 x1 x2 x3 x4 x5)) (h6 : Leads S r G6 G6') (h11 : Leads S r G11 G11') : t_q14_11 G6' G11' x0 x1 x2 x3 x4 x5 = some r := by
 revert h
 unfold t_q14_11
 repeat' first | refine sem_condK ?_ ?_ | refine sem_bindK fun _ => ?_ | exact sem_noneK | exact h6 _ | exact h11 _ | refine sem_bind2K (fun _ => ?_) (fun _ => ?_)
noncomputable def t_q14 (a0 : List (Int × Int)) : Option R := (Option.bind (s_q2a a0) fun r1 => (cond (!r1) (E ([], 1)) (Option.bind (s_q1g a0) fun r2 => (cond (decide (0 ≤ ((List.length a0 : Nat) : Int)) && decide (((List.length a0 : Nat) : Int) = ((List.length a0 : Nat) : Int)) && fits ((Int.toNat ((List.length a0 : Nat) : Int)) * 2)) (G6 (0, a0, r2.1, (List.replicate (Int.toNat ((List.length a0 : Nat) : Int)) (0 : Int)))) none))))
theorem t_q14_sem (a0 : List (Int × Int)) (h : sem S (t_q14 E G6 a0)) (hE : Leads S r E E') (h6 : Leads S r G6 G6') : t_q14 E' G6' a0 = some r := by
 revert h
 unfold t_q14
 repeat' first | refine sem_condK ?_ ?_ | refine sem_bindK fun _ => ?_ | exact sem_noneK | exact hE _ | exact h6 _ | refine sem_bind2K (fun _ => ?_) (fun _ => ?_)
end
noncomputable def f_q14_K6 (r : List A) (x : Z_q14_6) : Option (List A) := f_q14_L r 6 (f_q14_s6 x.1 x.2.1 x.2.2.1 x.2.2.2)
noncomputable def f_q14_K11 (r : List A) (x : Z_q14_11) : Option (List A) := f_q14_L r 11 (f_q14_s11 x.1 x.2.1 x.2.2.1 x.2.2.2.1 x.2.2.2.2.1 x.2.2.2.2.2)
theorem f_q14_step11 (x0 x1 x2 : Int) (x3 : List (Int × Int)) (x4 x5 : List Int) (r : List A) (h : t_q14_11 (f_q14_K6 r) (f_q14_K11 r) x0 x1 x2 x3 x4 x5 = some r) : f_q14_L r 11 (f_q14_s11 x0 x1 x2 x3 x4 x5) = some r :=
 step_of' h (by kernel_rfl)
noncomputable def f_q14_n11 (x0 x1 x2 : Int) (x3 : List (Int × Int)) (x4 x5 : List Int) : Option (Z_q14_11 ⊕ Y_q14_11) := t_q14_11 (fun x => some (Sum.inr (Sum.inl x))) (fun x => some (Sum.inl x)) x0 x1 x2 x3 x4 x5
noncomputable def f_q14_run11 (x : Z_q14_11) : Option Y_q14_11 := iter (fun x => f_q14_n11 x.1 x.2.1 x.2.2.1 x.2.2.2.1 x.2.2.2.2.1 x.2.2.2.2.2) FU x
noncomputable def f_q14_G11 (r : List A) (x : Z_q14_11) : Prop := f_q14_K11 r x = some r
theorem f_q14_step6 (x0 : Int) (x1 : List (Int × Int)) (x2 x3 : List Int) (r : List A) (h : t_q14_6 (fun v => some (l_q14 v)) (f_q14_K11 r) x0 x1 x2 x3 = some r) : f_q14_L r 6 (f_q14_s6 x0 x1 x2 x3) = some r :=
 step_of' h (by kernel_rfl)
noncomputable def f_q14_n6 (x0 : Int) (x1 : List (Int × Int)) (x2 x3 : List Int) : Option (Z_q14_6 ⊕ Y_q14_6) := t_q14_6 (fun v => some (Sum.inr v)) f_q14_run11 x0 x1 x2 x3
noncomputable def f_q14_run6 (x : Z_q14_6) : Option Y_q14_6 := iter (fun x => f_q14_n6 x.1 x.2.1 x.2.2.1 x.2.2.2) FU x
noncomputable def f_q14_G6 (r : List A) (x : Z_q14_6) : Prop := f_q14_K6 r x = some r
noncomputable def f_q14_S6 (r : List A) : Y_q14_6 → Prop := fun v => r = l_q14 v
noncomputable def f_q14_S11 (r : List A) : Y_q14_11 → Prop := goesOn (f_q14_G6 r) (f_q14_S6 r)
theorem f_q14_go11 (r : List A) : ∀ x, sem (f_q14_S11 r) (f_q14_run11 x) → f_q14_G11 r x :=
 fun x => iter_sound (G := f_q14_G11 r) (E := f_q14_S11 r) (step := fun x => f_q14_n11 x.1 x.2.1 x.2.2.1 x.2.2.2.1 x.2.2.2.2.1 x.2.2.2.2.2) (fun x h => f_q14_step11 x.1 x.2.1 x.2.2.1 x.2.2.2.1 x.2.2.2.2.1 x.2.2.2.2.2 r (t_q14_11_sem _ _ _ _ x.1 x.2.1 x.2.2.1 x.2.2.2.1 x.2.2.2.2.1 x.2.2.2.2.2 h (fun _ h => sem_got h fun q => q) (fun _ h => sem_got h fun q => q))) FU x
theorem f_q14_go6 (r : List A) : ∀ x, sem (f_q14_S6 r) (f_q14_run6 x) → f_q14_G6 r x :=
 fun x => iter_sound (G := f_q14_G6 r) (E := f_q14_S6 r) (step := fun x => f_q14_n6 x.1 x.2.1 x.2.2.1 x.2.2.2) (fun x h => f_q14_step6 x.1 x.2.1 x.2.2.1 x.2.2.2 r (t_q14_6_sem _ _ _ _ x.1 x.2.1 x.2.2.1 x.2.2.2 h (fun _ h => sem_got h fun q => some_eq q) (f_q14_go11 r))) FU x
noncomputable def s_q14 (a0 : List (Int × Int)) : Option ((List Int) × Int) := t_q14 some f_q14_run6 a0
theorem f_q14_top (a0 : List (Int × Int)) (r : List A) : Tq f_q14_X f_q14_LV f_q14_c f_q14_rv r [.lst (.st [(.i .i8), (.i .u16)]) a0] = t_q14 (fun v => some (l_q14 v)) (f_q14_K6 r) a0 := by kernel_rfl
theorem s_q14_ok (a0 : List (Int × Int)) (v : ((List Int) × Int)) (h : s_q14 a0 = some v) : t_q14 (fun v => some (l_q14 v)) (f_q14_K6 (l_q14 v)) a0 = some (l_q14 v) :=
 t_q14_sem _ _ _ _ a0 (show sem (fun w => l_q14 v = l_q14 w) (s_q14 a0) from ⟨v, h, rfl⟩) (fun _ h => sem_got h fun q => some_eq q) (f_q14_go6 (l_q14 v))
noncomputable def c_q14 : List A → ACall
 | [.lst (.st [(.i .i8), (.i .u16)]) a0] => ⟨((List Int) × Int), s_q14 a0, fun r => .tup [.lst (.one (.i .u16)) r.1, .v (.int .i64 r.2)]⟩
 | _ => ACall.fail
theorem f_q14_sound : Sound Tryz.prog 52 c_q14 := by
 refine good f_q14_ctx f_q14_LV f_q14_c f_q14_rv 1 Tryz.func52 fun rs => ?_
 unfold c_q14
 split
 ·rename_i a0; intro v h; exact ⟨rfl, l_q14 v, rfl, (f_q14_top a0 _).trans (s_q14_ok a0 v h)⟩
 ·intro v h; cases h
noncomputable def f_q1c_c := codeC Tryz.f133
noncomputable def f_q1c_X : Ctx := ⟨TT, phiOf [(128, c_q0z), (129, c_q25)], noPsi, noXi⟩
def f_q1c_LV : List (Nat × Keep) := [(3, ([0, 3, 11, 12, 13], [], [])), (6, ([0, 3, 5, 11, 12, 13, 18, 19], [], []))]
def f_q1c_rv : List ResultVar := [.tmp 2]
noncomputable def f_q1c_L := Lq f_q1c_X f_q1c_LV f_q1c_c f_q1c_rv
theorem f_q1c_ctx : CtxOK Tryz.prog f_q1c_X := ctx_of tab mix ⟨⟨Tryz.call128, f_q0z_sound⟩, ⟨Tryz.call129, f_q25_sound⟩, trivial⟩
noncomputable def f_q1c_s3 (x0 x1 : Int) (x2 : List (Int × Int)) (x3 x4 : List Int) : AS := ⟨[(0, .a (.sl 0)), (3, .a (.sl 1)), (11, .a (.sl 2)), (12, .a (.v (.int .i64 x0))), (13, .a (.v (.int .i64 x1)))], [(0, some ⟨false, .arr (.st [(.i .i8), (.i .u16)]) x2⟩), (1, some ⟨true, .arr (.one (.i .i64)) x3⟩), (2, some ⟨true, .arr (.one (.i .i64)) x4⟩)], 3⟩
noncomputable def f_q1c_s6 (x0 x1 x2 x3 x4 : Int) (x5 : List (Int × Int)) (x6 x7 : List Int) : AS := ⟨[(0, .a (.sl 0)), (3, .a (.sl 1)), (5, .a (.v (.int .i64 x0))), (11, .a (.sl 2)), (12, .a (.v (.int .i64 x1))), (13, .a (.v (.int .i64 x2))), (18, .a (.v (.int .i64 x3))), (19, .a (.v (.int .i64 x4)))], [(0, some ⟨false, .arr (.st [(.i .i8), (.i .u16)]) x5⟩), (1, some ⟨true, .arr (.one (.i .i64)) x6⟩), (2, some ⟨true, .arr (.one (.i .i64)) x7⟩)], 3⟩
abbrev A_q1c := (List Int)
noncomputable def l_q1c (r : List Int) : List A := [.lst (.one (.i .i64)) r]
abbrev Z_q1c_3 := (Int × Int × (List (Int × Int)) × (List Int) × (List Int))
abbrev Y_q1c_3 := A_q1c
abbrev Z_q1c_6 := (Int × Int × Int × Int × Int × (List (Int × Int)) × (List Int) × (List Int))
abbrev Y_q1c_6 := (Z_q1c_3 ⊕ Y_q1c_3)
section
variable {R R' : Type} {S : R → Prop} {r : R'} (E : A_q1c → Option R) (E' : A_q1c → Option R') (G3 : Z_q1c_3 → Option R) (G3' : Z_q1c_3 → Option R') (G6 : Z_q1c_6 → Option R) (G6' : Z_q1c_6 → Option R')
noncomputable def t_q1c_3 (x0 x1 : Int) (x2 : List (Int × Int)) (x3 x4 : List Int) : Option R := (cond (decide (x1 < x0)) (cond (inB x1 (List.length x4)) (G6 ((List.getD x4 (Int.toNat x1) 0), x0, x1, ((List.length x2 : Nat) : Int), 0, x2, x3, x4)) none) (E x3))
theorem t_q1c_3_sem (x0 x1 : Int) (x2 : List (Int × Int)) (x3 x4 : List Int) (h : sem S (t_q1c_3 E G6 x0 x1 x2 x3 x4)) (hE : Leads S r E E') (h6 : Leads S r G6 G6') : t_q1c_3 E' G6' x0 x1 x2 x3 x4 = some r := by
 revert h
 unfold t_q1c_3
 repeat' first | refine sem_condK ?_ ?_ | refine sem_bindK fun _ => ?_ | exact sem_noneK | exact hE _ | exact h6 _ | refine sem_bind2K (fun _ => ?_) (fun _ => ?_)
noncomputable def t_q1c_6 (x0 x1 x2 x3 x4 : Int) (x5 : List (Int × Int)) (x6 x7 : List Int) : Option R := (cond (decide (x4 < x3)) (cond (inB x0 (List.length x5)) (Option.bind (s_q0z (List.getD x5 (Int.toNat x0) ((0, 0) : (Int × Int))).1 (List.getD x5 (Int.toNat x0) ((0, 0) : (Int × Int))).2 x4) fun r2 => (cond r2 (cond (inB x0 (List.length x6)) (cond (inB x4 (List.length x6)) (cond (inB x4 (List.length x5)) (cond (inB x0 (List.length x6)) (G6 (x0, x1, x2, x3, (IntKind.wrap .i64 (x4 + 1)), x5, (List.set x6 (Int.toNat x0) (max (List.getD x6 (Int.toNat x0) 0) (IntKind.wrap .i64 ((List.getD x6 (Int.toNat x4) 0) + (IntKind.wrap .i64 (List.getD x5 (Int.toNat x4) ((0, 0) : (Int × Int))).1))))), x7)) none) none) none) none) (G6 (x0, x1, x2, x3, (IntKind.wrap .i64 (x4 + 1)), x5, x6, x7)))) none) (G3 (x1, (IntKind.wrap .i64 (x2 + 1)), x5, x6, x7)))
theorem t_q1c_6_sem (x0 x1 x2 x3 x4 : Int) (x5 : List (Int × Int)) (x6 x7 : List Int) (h : sem S (t_q1c_6 G3 G6 x0 x1 x2 x3 x4 x5 x6 x7)) (h3 : Leads S r G3 G3') (h6 : Leads S r G6 G6') : t_q1c_6 G3' G6' x0 x1 x2 x3 x4 x5 x6 x7 = some r := by
 revert h
 unfold t_q1c_6
 repeat' first | refine sem_condK ?_ ?_ | refine sem_bindK fun _ => ?_ | exact sem_noneK | exact h3 _ | exact h6 _ | refine sem_bind2K (fun _ => ?_) (fun _ => ?_)
noncomputable def t_q1c (a0 : List (Int × Int)) : Option R := (cond (decide (0 ≤ ((List.length a0 : Nat) : Int)) && decide (((List.length a0 : Nat) : Int) = ((List.length a0 : Nat) : Int)) && fits ((Int.toNat ((List.length a0 : Nat) : Int)) * 8)) (Option.bind (s_q25 a0) fun r1 => (G3 (((List.length r1 : Nat) : Int), 0, a0, (List.replicate (Int.toNat ((List.length a0 : Nat) : Int)) (0 : Int)), r1))) none)
theorem t_q1c_sem (a0 : List (Int × Int)) (h : sem S (t_q1c G3 a0)) (h3 : Leads S r G3 G3') : t_q1c G3' a0 = some r := by
 revert h
 unfold t_q1c
 repeat' first | refine sem_condK ?_ ?_ | refine sem_bindK fun _ => ?_ | exact sem_noneK | exact h3 _ | refine sem_bind2K (fun _ => ?_) (fun _ => ?_)
end
noncomputable def f_q1c_K3 (r : List A) (x : Z_q1c_3) : Option (List A) := f_q1c_L r 3 (f_q1c_s3 x.1 x.2.1 x.2.2.1 x.2.2.2.1 x.2.2.2.2)
noncomputable def f_q1c_K6 (r : List A) (x : Z_q1c_6) : Option (List A) := f_q1c_L r 6 (f_q1c_s6 x.1 x.2.1 x.2.2.1 x.2.2.2.1 x.2.2.2.2.1 x.2.2.2.2.2.1 x.2.2.2.2.2.2.1 x.2.2.2.2.2.2.2)
theorem f_q1c_step6 (x0 x1 x2 x3 x4 : Int) (x5 : List (Int × Int)) (x6 x7 : List Int) (r : List A) (h : t_q1c_6 (f_q1c_K3 r) (f_q1c_K6 r) x0 x1 x2 x3 x4 x5 x6 x7 = some r) : f_q1c_L r 6 (f_q1c_s6 x0 x1 x2 x3 x4 x5 x6 x7) = some r :=
 step_of' h (by kernel_rfl)
noncomputable def f_q1c_n6 (x0 x1 x2 x3 x4 : Int) (x5 : List (Int × Int)) (x6 x7 : List Int) : Option (Z_q1c_6 ⊕ Y_q1c_6) := t_q1c_6 (fun x => some (Sum.inr (Sum.inl x))) (fun x => some (Sum.inl x)) x0 x1 x2 x3 x4 x5 x6 x7
noncomputable def f_q1c_run6 (x : Z_q1c_6) : Option Y_q1c_6 := iter (fun x => f_q1c_n6 x.1 x.2.1 x.2.2.1 x.2.2.2.1 x.2.2.2.2.1 x.2.2.2.2.2.1 x.2.2.2.2.2.2.1 x.2.2.2.2.2.2.2) FU x
noncomputable def f_q1c_G6 (r : List A) (x : Z_q1c_6) : Prop := f_q1c_K6 r x = some r
theorem f_q1c_step3 (x0 x1 : Int) (x2 : List (Int × Int)) (x3 x4 : List Int) (r : List A) (h : t_q1c_3 (fun v => some (l_q1c v)) (f_q1c_K6 r) x0 x1 x2 x3 x4 = some r) : f_q1c_L r 3 (f_q1c_s3 x0 x1 x2 x3 x4) = some r :=
 step_of' h (by kernel_rfl)
noncomputable def f_q1c_n3 (x0 x1 : Int) (x2 : List (Int × Int)) (x3 x4 : List Int) : Option (Z_q1c_3 ⊕ Y_q1c_3) := t_q1c_3 (fun v => some (Sum.inr v)) f_q1c_run6 x0 x1 x2 x3 x4
noncomputable def f_q1c_run3 (x : Z_q1c_3) : Option Y_q1c_3 := iter (fun x => f_q1c_n3 x.1 x.2.1 x.2.2.1 x.2.2.2.1 x.2.2.2.2) FU x
noncomputable def f_q1c_G3 (r : List A) (x : Z_q1c_3) : Prop := f_q1c_K3 r x = some r
noncomputable def f_q1c_S3 (r : List A) : Y_q1c_3 → Prop := fun v => r = l_q1c v
noncomputable def f_q1c_S6 (r : List A) : Y_q1c_6 → Prop := goesOn (f_q1c_G3 r) (f_q1c_S3 r)
theorem f_q1c_go6 (r : List A) : ∀ x, sem (f_q1c_S6 r) (f_q1c_run6 x) → f_q1c_G6 r x :=
 fun x => iter_sound (G := f_q1c_G6 r) (E := f_q1c_S6 r) (step := fun x => f_q1c_n6 x.1 x.2.1 x.2.2.1 x.2.2.2.1 x.2.2.2.2.1 x.2.2.2.2.2.1 x.2.2.2.2.2.2.1 x.2.2.2.2.2.2.2) (fun x h => f_q1c_step6 x.1 x.2.1 x.2.2.1 x.2.2.2.1 x.2.2.2.2.1 x.2.2.2.2.2.1 x.2.2.2.2.2.2.1 x.2.2.2.2.2.2.2 r (t_q1c_6_sem _ _ _ _ x.1 x.2.1 x.2.2.1 x.2.2.2.1 x.2.2.2.2.1 x.2.2.2.2.2.1 x.2.2.2.2.2.2.1 x.2.2.2.2.2.2.2 h (fun _ h => sem_got h fun q => q) (fun _ h => sem_got h fun q => q))) FU x
theorem f_q1c_go3 (r : List A) : ∀ x, sem (f_q1c_S3 r) (f_q1c_run3 x) → f_q1c_G3 r x :=
 fun x => iter_sound (G := f_q1c_G3 r) (E := f_q1c_S3 r) (step := fun x => f_q1c_n3 x.1 x.2.1 x.2.2.1 x.2.2.2.1 x.2.2.2.2) (fun x h => f_q1c_step3 x.1 x.2.1 x.2.2.1 x.2.2.2.1 x.2.2.2.2 r (t_q1c_3_sem _ _ _ _ x.1 x.2.1 x.2.2.1 x.2.2.2.1 x.2.2.2.2 h (fun _ h => sem_got h fun q => some_eq q) (f_q1c_go6 r))) FU x
noncomputable def s_q1c (a0 : List (Int × Int)) : Option (List Int) := t_q1c f_q1c_run3 a0
theorem f_q1c_top (a0 : List (Int × Int)) (r : List A) : Tq f_q1c_X f_q1c_LV f_q1c_c f_q1c_rv r [.lst (.st [(.i .i8), (.i .u16)]) a0] = t_q1c (f_q1c_K3 r) a0 := by kernel_rfl
theorem s_q1c_ok (a0 : List (Int × Int)) (v : List Int) (h : s_q1c a0 = some v) : t_q1c (f_q1c_K3 (l_q1c v)) a0 = some (l_q1c v) :=
 t_q1c_sem _ _ a0 (show sem (fun w => l_q1c v = l_q1c w) (s_q1c a0) from ⟨v, h, rfl⟩) (f_q1c_go3 (l_q1c v))
noncomputable def c_q1c : List A → ACall
 | [.lst (.st [(.i .i8), (.i .u16)]) a0] => ⟨(List Int), s_q1c a0, fun r => .one (.lst (.one (.i .i64)) r)⟩
 | _ => ACall.fail
theorem f_q1c_sound : Sound Tryz.prog 133 c_q1c := by
 refine good f_q1c_ctx f_q1c_LV f_q1c_c f_q1c_rv 1 Tryz.func133 fun rs => ?_
 unfold c_q1c
 split
 ·rename_i a0; intro v h; exact ⟨rfl, l_q1c v, rfl, (f_q1c_top a0 _).trans (s_q1c_ok a0 v h)⟩
 ·intro v h; cases h
noncomputable def f_q0q_c := codeC Tryz.f53
noncomputable def f_q0q_X : Ctx := ⟨TT, phiOf [(133, c_q1c), (60, c_q12)], noPsi, noXi⟩
def f_q0q_LV : List (Nat × Keep) := []
def f_q0q_rv : List ResultVar := [.tmp 2, .tmp 3]
theorem f_q0q_ctx : CtxOK Tryz.prog f_q0q_X := ctx_of tab mix ⟨⟨Tryz.call133, f_q1c_sound⟩, ⟨Tryz.call60, f_q12_sound⟩, trivial⟩
noncomputable def s_q0q (a0 : List (Int × Int)) : Option ((List Int) × Int) := (Option.bind (s_q12 a0) fun r1 => (cond (!r1) (some ([], 1)) (Option.bind (s_q1c a0) fun r2 => (some (r2, 0)))))
theorem f_q0q_top (a0 : List (Int × Int)) (r : List A) : Tq f_q0q_X f_q0q_LV f_q0q_c f_q0q_rv r [.lst (.st [(.i .i8), (.i .u16)]) a0] = (Option.bind (s_q12 a0) fun r1 => (cond (!r1) (some [.lst (.one (.i .i64)) [], .v (.int .i64 1)]) (Option.bind (s_q1c a0) fun r2 => (some [.lst (.one (.i .i64)) r2, .v (.int .i64 0)])))) := by kernel_rfl
noncomputable def l_q0q (r : ((List Int) × Int)) : List A := [.lst (.one (.i .i64)) r.1, .v (.int .i64 r.2)]
theorem s_q0q_ok (a0 : List (Int × Int)) (v : ((List Int) × Int)) (h : s_q0q a0 = some v) : (Option.bind (s_q12 a0) fun r1 => (cond (!r1) (some [.lst (.one (.i .i64)) [], .v (.int .i64 1)]) (Option.bind (s_q1c a0) fun r2 => (some [.lst (.one (.i .i64)) r2, .v (.int .i64 0)])))) = some (l_q0q v) := by
 refine Eq.trans (b := Option.map l_q0q (s_q0q a0)) ?_ (by rw [h]; rfl)
 unfold s_q0q
 exact (bind_app fun _ => (cond_app (Option.map l_q0q) rfl (bind_app fun _ => rfl)))
noncomputable def c_q0q : List A → ACall
 | [.lst (.st [(.i .i8), (.i .u16)]) a0] => ⟨((List Int) × Int), s_q0q a0, fun r => .tup [.lst (.one (.i .i64)) r.1, .v (.int .i64 r.2)]⟩
 | _ => ACall.fail
theorem f_q0q_sound : Sound Tryz.prog 53 c_q0q := by
 refine good f_q0q_ctx f_q0q_LV f_q0q_c f_q0q_rv 1 Tryz.func53 fun rs => ?_
 unfold c_q0q
 split
 ·rename_i a0; intro v h; exact ⟨rfl, l_q0q v, rfl, (f_q0q_top a0 _).trans (s_q0q_ok a0 v h)⟩
 ·intro v h; cases h
noncomputable def f_q21_c := codeC Tryz.f99
noncomputable def f_q21_X : Ctx := ⟨TT, phiOf [], noPsi, noXi⟩
def f_q21_LV : List (Nat × Keep) := []
def f_q21_rv : List ResultVar := [.tmp 4]
theorem f_q21_ctx : CtxOK Tryz.prog f_q21_X := ctx_of tab mix trivial
noncomputable def s_q21 (a0 a1 : Int) : Int := (cond (decide (a0 > a1)) a0 a1)
theorem f_q21_top (a0 a1 : Int) (r : List A) : Tq f_q21_X f_q21_LV f_q21_c f_q21_rv r [.v (.int .i64 a0), .v (.int .i64 a1)] = (cond (decide (a0 > a1)) (some [.v (.int .i64 a0)]) (some [.v (.int .i64 a1)])) := by kernel_rfl
noncomputable def l_q21 (r : Int) : List A := [.v (.int .i64 r)]
theorem s_q21_ok (a0 a1 : Int) : (cond (decide (a0 > a1)) (some [.v (.int .i64 a0)]) (some [.v (.int .i64 a1)])) = some (l_q21 (s_q21 a0 a1)) := by
 unfold s_q21
 exact (cond_app (fun x => some (l_q21 x)) rfl rfl)
noncomputable def c_q21 : List A → ACall
 | [.v (.int .i64 a0), .v (.int .i64 a1)] => ⟨Int, some (s_q21 a0 a1), fun r => .one (.v (.int .i64 r))⟩
 | _ => ACall.fail
theorem f_q21_sound : Sound Tryz.prog 99 c_q21 := by
 refine good f_q21_ctx f_q21_LV f_q21_c f_q21_rv 2 Tryz.func99 fun rs => ?_
 unfold c_q21
 split
 ·rename_i a0 a1; intro v h; cases h; exact ⟨rfl, l_q21 (s_q21 a0 a1), rfl, (f_q21_top a0 a1 _).trans (s_q21_ok a0 a1)⟩
 ·intro v h; cases h
noncomputable def f_q0o_c := codeC Tryz.f134
noncomputable def f_q0o_X : Ctx := ⟨TT, phiOf [(131, c_q1g), (132, c_q1i), (99, c_q21)], noPsi, noXi⟩
def f_q0o_LV : List (Nat × Keep) := [(4, ([0, 3, 5, 6], [], [])), (8, ([0, 3, 5, 6, 7, 8], [], []))]
def f_q0o_rv : List ResultVar := [.tmp 2]
noncomputable def f_q0o_L := Lq f_q0o_X f_q0o_LV f_q0o_c f_q0o_rv
theorem f_q0o_ctx : CtxOK Tryz.prog f_q0o_X := ctx_of tab mix ⟨⟨Tryz.call131, f_q1g_sound⟩, ⟨Tryz.call132, f_q1i_sound⟩, ⟨Tryz.call99, f_q21_sound⟩, trivial⟩
noncomputable def f_q0o_s4 (x0 : Int) (x1 : List (Int × Int)) (x2 x3 : List Int) : AS := ⟨[(0, .a (.sl 0)), (3, .a (.sl 1)), (5, .a (.sl 2)), (6, .a (.v (.int .i64 x0)))], [(0, some ⟨false, .arr (.st [(.i .i8), (.i .u16)]) x1⟩), (1, some ⟨true, .arr (.one (.i .i64)) x2⟩), (2, some ⟨true, .arr (.one (.i .i64)) x3⟩)], 3⟩
noncomputable def f_q0o_s8 (x0 x1 x2 : Int) (x3 : List (Int × Int)) (x4 x5 : List Int) : AS := ⟨[(0, .a (.sl 0)), (3, .a (.sl 1)), (5, .a (.sl 2)), (6, .a (.v (.int .i64 x0))), (7, .a (.v (.int .i64 x1))), (8, .a (.v (.int .i64 x2)))], [(0, some ⟨false, .arr (.st [(.i .i8), (.i .u16)]) x3⟩), (1, some ⟨true, .arr (.one (.i .i64)) x4⟩), (2, some ⟨true, .arr (.one (.i .i64)) x5⟩)], 3⟩
noncomputable def l_q0o (r : List Int) : List A := [.lst (.one (.i .i64)) r]
theorem f_q0o_step8 (x0 x1 x2 : Int) (x3 : List (Int × Int)) (x4 x5 : List Int) (r : List A) (h : (cond (decide (x2 < ((List.length x3 : Nat) : Int))) (Option.bind (s_q1i x3 x1 x2) fun r2 => (cond r2 (cond (inB x1 (List.length x5)) (cond (inB x2 (List.length x5)) (cond (inB x2 (List.length x3)) (cond (inB x1 (List.length x5)) (f_q0o_L r 8 (f_q0o_s8 x0 x1 (IntKind.wrap .i64 (x2 + 1)) x3 x4 (List.set x5 (Int.toNat x1) (s_q21 (List.getD x5 (Int.toNat x1) 0) (IntKind.wrap .i64 ((List.getD x5 (Int.toNat x2) 0) + (IntKind.wrap .i64 (List.getD x3 (Int.toNat x2) ((0, 0) : (Int × Int))).1))))))) none) none) none) none) (f_q0o_L r 8 (f_q0o_s8 x0 x1 (IntKind.wrap .i64 (x2 + 1)) x3 x4 x5)))) (f_q0o_L r 4 (f_q0o_s4 (IntKind.wrap .i64 (x0 + 1)) x3 x4 x5))) = some r) : f_q0o_L r 8 (f_q0o_s8 x0 x1 x2 x3 x4 x5) = some r :=
 step_of' h (by kernel_rfl)
noncomputable def f_q0o_n8 (x0 x1 x2 : Int) (x3 : List (Int × Int)) (x4 x5 : List Int) : Option ((Int × Int × Int × (List (Int × Int)) × (List Int) × (List Int)) ⊕ ((Int × (List (Int × Int)) × (List Int) × (List Int)) ⊕ (List Int))) := (cond (decide (x2 < ((List.length x3 : Nat) : Int))) (Option.bind (s_q1i x3 x1 x2) fun r2 => (cond r2 (cond (inB x1 (List.length x5)) (cond (inB x2 (List.length x5)) (cond (inB x2 (List.length x3)) (cond (inB x1 (List.length x5)) (some (Sum.inl (x0, x1, (IntKind.wrap .i64 (x2 + 1)), x3, x4, (List.set x5 (Int.toNat x1) (s_q21 (List.getD x5 (Int.toNat x1) 0) (IntKind.wrap .i64 ((List.getD x5 (Int.toNat x2) 0) + (IntKind.wrap .i64 (List.getD x3 (Int.toNat x2) ((0, 0) : (Int × Int))).1)))))))) none) none) none) none) (some (Sum.inl (x0, x1, (IntKind.wrap .i64 (x2 + 1)), x3, x4, x5))))) (some (Sum.inr (Sum.inl ((IntKind.wrap .i64 (x0 + 1)), x3, x4, x5)))))
noncomputable def f_q0o_run8 (x : (Int × Int × Int × (List (Int × Int)) × (List Int) × (List Int))) : Option ((Int × (List (Int × Int)) × (List Int) × (List Int)) ⊕ (List Int)) := iter (fun x => f_q0o_n8 x.1 x.2.1 x.2.2.1 x.2.2.2.1 x.2.2.2.2.1 x.2.2.2.2.2) FU x
noncomputable def f_q0o_G8 (r : List A) (x : (Int × Int × Int × (List (Int × Int)) × (List Int) × (List Int))) : Prop := f_q0o_L r 8 (f_q0o_s8 x.1 x.2.1 x.2.2.1 x.2.2.2.1 x.2.2.2.2.1 x.2.2.2.2.2) = some r
theorem f_q0o_step4 (x0 : Int) (x1 : List (Int × Int)) (x2 x3 : List Int) (r : List A) (h : (cond (decide (x0 < ((List.length x2 : Nat) : Int))) (cond (inB x0 (List.length x2)) (f_q0o_L r 8 (f_q0o_s8 x0 (List.getD x2 (Int.toNat x0) 0) 0 x1 x2 x3)) none) (some [.lst (.one (.i .i64)) x3])) = some r) : f_q0o_L r 4 (f_q0o_s4 x0 x1 x2 x3) = some r :=
 step_of' h (by kernel_rfl)
noncomputable def f_q0o_n4 (x0 : Int) (x1 : List (Int × Int)) (x2 x3 : List Int) : Option ((Int × (List (Int × Int)) × (List Int) × (List Int)) ⊕ (List Int)) := (cond (decide (x0 < ((List.length x2 : Nat) : Int))) (cond (inB x0 (List.length x2)) (f_q0o_run8 (x0, (List.getD x2 (Int.toNat x0) 0), 0, x1, x2, x3)) none) (some (Sum.inr x3)))
noncomputable def f_q0o_run4 (x : (Int × (List (Int × Int)) × (List Int) × (List Int))) : Option (List Int) := iter (fun x => f_q0o_n4 x.1 x.2.1 x.2.2.1 x.2.2.2) FU x
noncomputable def f_q0o_G4 (r : List A) (x : (Int × (List (Int × Int)) × (List Int) × (List Int))) : Prop := f_q0o_L r 4 (f_q0o_s4 x.1 x.2.1 x.2.2.1 x.2.2.2) = some r
noncomputable def f_q0o_S4 (r : List A) : (List Int) → Prop := fun v => r = l_q0o v
noncomputable def f_q0o_S8 (r : List A) : ((Int × (List (Int × Int)) × (List Int) × (List Int)) ⊕ (List Int)) → Prop := goesOn (f_q0o_G4 r) (f_q0o_S4 r)
theorem f_q0o_go8 (r : List A) : ∀ x, sem (f_q0o_S8 r) (f_q0o_run8 x) → f_q0o_G8 r x :=
 fun x => iter_sound (step := fun x => f_q0o_n8 x.1 x.2.1 x.2.2.1 x.2.2.2.1 x.2.2.2.2.1 x.2.2.2.2.2) (fun x h => by
  unfold f_q0o_n8 at h
  exact f_q0o_step8 x.1 x.2.1 x.2.2.1 x.2.2.2.1 x.2.2.2.2.1 x.2.2.2.2.2 r ((sem_cond h (fun h => (sem_bind h fun r2 h => (sem_cond h (fun h => (sem_cond h (fun h => (sem_cond h (fun h => (sem_cond h (fun h => (sem_cond h (fun h => sem_got h fun q => q) (fun h => sem_none h))) (fun h => sem_none h))) (fun h => sem_none h))) (fun h => sem_none h))) (fun h => sem_got h fun q => q)))) (fun h => sem_got h fun q => q)))) FU x
theorem f_q0o_go4 (r : List A) : ∀ x, sem (f_q0o_S4 r) (f_q0o_run4 x) → f_q0o_G4 r x :=
 fun x => iter_sound (step := fun x => f_q0o_n4 x.1 x.2.1 x.2.2.1 x.2.2.2) (fun x h => by
  unfold f_q0o_n4 at h
  exact f_q0o_step4 x.1 x.2.1 x.2.2.1 x.2.2.2 r ((sem_cond h (fun h => (sem_cond h (fun h => f_q0o_go8 r _ h) (fun h => sem_none h))) (fun h => sem_got h fun q => some_eq q)))) FU x
noncomputable def s_q0o (a0 : List (Int × Int)) : Option (List Int) := (Option.bind (s_q1g a0) fun r1 => (cond (decide (0 ≤ ((List.length a0 : Nat) : Int)) && decide (((List.length a0 : Nat) : Int) = ((List.length a0 : Nat) : Int)) && fits ((Int.toNat ((List.length a0 : Nat) : Int)) * 8)) (f_q0o_run4 (0, a0, r1.1, (List.replicate (Int.toNat ((List.length a0 : Nat) : Int)) (0 : Int)))) none))
theorem f_q0o_top (a0 : List (Int × Int)) (r : List A) : Tq f_q0o_X f_q0o_LV f_q0o_c f_q0o_rv r [.lst (.st [(.i .i8), (.i .u16)]) a0] = (Option.bind (s_q1g a0) fun r1 => (cond (decide (0 ≤ ((List.length a0 : Nat) : Int)) && decide (((List.length a0 : Nat) : Int) = ((List.length a0 : Nat) : Int)) && fits ((Int.toNat ((List.length a0 : Nat) : Int)) * 8)) (f_q0o_L r 4 (f_q0o_s4 0 a0 r1.1 (List.replicate (Int.toNat ((List.length a0 : Nat) : Int)) (0 : Int)))) none)) := by kernel_rfl
theorem s_q0o_ok (a0 : List (Int × Int)) (v : List Int) (h : s_q0o a0 = some v) : (Option.bind (s_q1g a0) fun r1 => (cond (decide (0 ≤ ((List.length a0 : Nat) : Int)) && decide (((List.length a0 : Nat) : Int) = ((List.length a0 : Nat) : Int)) && fits ((Int.toNat ((List.length a0 : Nat) : Int)) * 8)) (f_q0o_L (l_q0o v) 4 (f_q0o_s4 0 a0 r1.1 (List.replicate (Int.toNat ((List.length a0 : Nat) : Int)) (0 : Int)))) none)) = some (l_q0o v) := by
 replace h : sem (fun w => l_q0o v = l_q0o w) (s_q0o a0) := ⟨v, h, rfl⟩
 unfold s_q0o at h
 exact (sem_bind h fun r1 h => (sem_cond h (fun h => f_q0o_go4 (l_q0o v) _ h) (fun h => sem_none h)))
noncomputable def c_q0o : List A → ACall
 | [.lst (.st [(.i .i8), (.i .u16)]) a0] => ⟨(List Int), s_q0o a0, fun r => .one (.lst (.one (.i .i64)) r)⟩
 | _ => ACall.fail
theorem f_q0o_sound : Sound Tryz.prog 134 c_q0o := by
 refine good f_q0o_ctx f_q0o_LV f_q0o_c f_q0o_rv 1 Tryz.func134 fun rs => ?_
 unfold c_q0o
 split
 ·rename_i a0; intro v h; exact ⟨rfl, l_q0o v, rfl, (f_q0o_top a0 _).trans (s_q0o_ok a0 v h)⟩
 ·intro v h; cases h
noncomputable def f_q0t_c := codeC Tryz.f54
noncomputable def f_q0t_X : Ctx := ⟨TT, phiOf [(130, c_q2a), (134, c_q0o)], noPsi, noXi⟩
def f_q0t_LV : List (Nat × Keep) := []
def f_q0t_rv : List ResultVar := [.tmp 2, .tmp 3]
theorem f_q0t_ctx : CtxOK Tryz.prog f_q0t_X := ctx_of tab mix ⟨⟨Tryz.call130, f_q2a_sound⟩, ⟨Tryz.call134, f_q0o_sound⟩, trivial⟩
noncomputable def s_q0t (a0 : List (Int × Int)) : Option ((List Int) × Int) := (Option.bind (s_q2a a0) fun r1 => (cond (!r1) (some ([], 1)) (Option.bind (s_q0o a0) fun r2 => (some (r2, 0)))))
theorem f_q0t_top (a0 : List (Int × Int)) (r : List A) : Tq f_q0t_X f_q0t_LV f_q0t_c f_q0t_rv r [.lst (.st [(.i .i8), (.i .u16)]) a0] = (Option.bind (s_q2a a0) fun r1 => (cond (!r1) (some [.lst (.one (.i .i64)) [], .v (.int .i64 1)]) (Option.bind (s_q0o a0) fun r2 => (some [.lst (.one (.i .i64)) r2, .v (.int .i64 0)])))) := by kernel_rfl
noncomputable def l_q0t (r : ((List Int) × Int)) : List A := [.lst (.one (.i .i64)) r.1, .v (.int .i64 r.2)]
theorem s_q0t_ok (a0 : List (Int × Int)) (v : ((List Int) × Int)) (h : s_q0t a0 = some v) : (Option.bind (s_q2a a0) fun r1 => (cond (!r1) (some [.lst (.one (.i .i64)) [], .v (.int .i64 1)]) (Option.bind (s_q0o a0) fun r2 => (some [.lst (.one (.i .i64)) r2, .v (.int .i64 0)])))) = some (l_q0t v) := by
 refine Eq.trans (b := Option.map l_q0t (s_q0t a0)) ?_ (by rw [h]; rfl)
 unfold s_q0t
 exact (bind_app fun _ => (cond_app (Option.map l_q0t) rfl (bind_app fun _ => rfl)))
noncomputable def c_q0t : List A → ACall
 | [.lst (.st [(.i .i8), (.i .u16)]) a0] => ⟨((List Int) × Int), s_q0t a0, fun r => .tup [.lst (.one (.i .i64)) r.1, .v (.int .i64 r.2)]⟩
 | _ => ACall.fail
theorem f_q0t_sound : Sound Tryz.prog 54 c_q0t := by
 refine good f_q0t_ctx f_q0t_LV f_q0t_c f_q0t_rv 1 Tryz.func54 fun rs => ?_
 unfold c_q0t
 split
 ·rename_i a0; intro v h; exact ⟨rfl, l_q0t v, rfl, (f_q0t_top a0 _).trans (s_q0t_ok a0 v h)⟩
 ·intro v h; cases h
end Go.RR
