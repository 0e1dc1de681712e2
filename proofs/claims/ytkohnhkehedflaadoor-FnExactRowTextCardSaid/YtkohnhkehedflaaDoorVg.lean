/- Jobs as a text: the law. -/
import Derived.Test.YtkohnhkehedflaaDoorVf
set_option linter.unusedVariables false
set_option linter.unusedSimpArgs false
set_option maxRecDepth 100000
namespace Go.RR
open Go Go.Proofs

/-! ### function 20: loop.example/g01322/laws.szJobS -/
noncomputable def f_wszJobS_c : Code := match Tryd.f20.body with | some c => c | none => .skip
noncomputable def f_wszJobS_X : Ctx := ⟨TT, phiOf [], noPsi, noXi⟩
def f_wszJobS_LV : List (Nat × Keep) := []
def f_wszJobS_rv : List ResultVar := [.tmp 4]
noncomputable def f_wszJobS_L (r : List A) : Nat → AS → Option (List A) := L f_wszJobS_X (cnOf f_wszJobS_LV) f_wszJobS_c (K0 TT f_wszJobS_rv) r
theorem f_wszJobS_ctx : CtxOK Tryd.prog f_wszJobS_X := ctx_of tab mix trivial
noncomputable def s_wszJobS (a0 : (List (Int × Int))) (a1 : Int) : Int := (cond (decide ((IntKind.wrap .i64 (a1 - ((List.length a0 : Nat) : Int))) < 0)) (-1) (IntKind.wrap .i64 (a1 - ((List.length a0 : Nat) : Int))))
theorem f_wszJobS_top (a0 : (List (Int × Int))) (a1 : Int) (r : List A) : ev f_wszJobS_X (lpc (cnOf f_wszJobS_LV) (f_wszJobS_L r)) f_wszJobS_c (K0 TT f_wszJobS_rv) (enter [.lst (.st [(.i .i8), (.i .u16)]) a0, .v (.int .i64 a1)]) = (cond (decide ((IntKind.wrap .i64 (a1 - ((List.length a0 : Nat) : Int))) < 0)) (some [.v (.int .i64 (-1))]) (some [.v (.int .i64 (IntKind.wrap .i64 (a1 - ((List.length a0 : Nat) : Int))))])) := by kernel_rfl
noncomputable def l_wszJobS (r : Int) : List A := [.v (.int .i64 r)]
theorem s_wszJobS_ok (a0 : (List (Int × Int))) (a1 : Int) : (cond (decide ((IntKind.wrap .i64 (a1 - ((List.length a0 : Nat) : Int))) < 0)) (some [.v (.int .i64 (-1))]) (some [.v (.int .i64 (IntKind.wrap .i64 (a1 - ((List.length a0 : Nat) : Int))))])) = some (l_wszJobS (s_wszJobS a0 a1)) := by
  unfold s_wszJobS
  exact (cond_app (fun x => some (l_wszJobS x)) rfl rfl)
noncomputable def c_wszJobS : List A → ACall
  | [.lst (.st [(.i .i8), (.i .u16)]) a0, .v (.int .i64 a1)] => ⟨Int, some (s_wszJobS a0 a1), fun r => .one (.v (.int .i64 r))⟩
  | _ => ACall.fail
theorem f_wszJobS_sound : Sound Tryd.prog 20 c_wszJobS := by
  refine sound_good f_wszJobS_ctx f_wszJobS_LV 2 Tryd.func20 (c := f_wszJobS_c) (by kernel_rfl) (rv := f_wszJobS_rv) (by kernel_rfl) (by kernel_rfl) (by kernel_rfl) (by kernel_rfl) fun rs => ?_
  unfold c_wszJobS
  split
  · rename_i a0 a1; intro v h; cases h; exact ⟨rfl, l_wszJobS (s_wszJobS a0 a1), rfl, (f_wszJobS_top a0 a1 _).trans (s_wszJobS_ok a0 a1)⟩
  · intro v h; cases h

/-! ### function 38: loop.example/g01322/laws.toJob -/
noncomputable def f_wtoJob_c : Code := match Tryd.f38.body with | some c => c | none => .skip
noncomputable def f_wtoJob_X : Ctx := ⟨TT, phiOf [], noPsi, noXi⟩
def f_wtoJob_LV : List (Nat × Keep) := []
def f_wtoJob_rv : List ResultVar := [.cell 2 61]
noncomputable def f_wtoJob_L (r : List A) : Nat → AS → Option (List A) := L f_wtoJob_X (cnOf f_wtoJob_LV) f_wtoJob_c (K0 TT f_wtoJob_rv) r
theorem f_wtoJob_ctx : CtxOK Tryd.prog f_wtoJob_X := ctx_of tab mix trivial
noncomputable def s_wtoJob (a0 : Int) (a1 : Int) : (Int × Int) := (a0, a1)
theorem f_wtoJob_top (a0 : Int) (a1 : Int) (r : List A) : ev f_wtoJob_X (lpc (cnOf f_wtoJob_LV) (f_wtoJob_L r)) f_wtoJob_c (K0 TT f_wtoJob_rv) (enter [.rc [.v (.int .i8 a0), .v (.int .u16 a1)]]) = (some [.rc [.v (.int .i8 a0), .v (.int .u16 a1)]]) := by kernel_rfl
noncomputable def l_wtoJob (r : (Int × Int)) : List A := [.rc [.v (.int .i8 r.1), .v (.int .u16 r.2)]]
theorem s_wtoJob_ok (a0 : Int) (a1 : Int) : (some [.rc [.v (.int .i8 a0), .v (.int .u16 a1)]]) = some (l_wtoJob (s_wtoJob a0 a1)) := by
  unfold s_wtoJob
  exact rfl
noncomputable def c_wtoJob : List A → ACall
  | [.rc [.v (.int .i8 a0), .v (.int .u16 a1)]] => ⟨(Int × Int), some (s_wtoJob a0 a1), fun r => .one (.rc [.v (.int .i8 r.1), .v (.int .u16 r.2)])⟩
  | _ => ACall.fail
theorem f_wtoJob_sound : Sound Tryd.prog 38 c_wtoJob := by
  refine sound_good f_wtoJob_ctx f_wtoJob_LV 1 Tryd.func38 (c := f_wtoJob_c) (by kernel_rfl) (rv := f_wtoJob_rv) (by kernel_rfl) (by kernel_rfl) (by kernel_rfl) (by kernel_rfl) fun rs => ?_
  unfold c_wtoJob
  split
  · rename_i a0 a1; intro v h; cases h; exact ⟨rfl, l_wtoJob (s_wtoJob a0 a1), rfl, (f_wtoJob_top a0 a1 _).trans (s_wtoJob_ok a0 a1)⟩
  · intro v h; cases h

/-! ### function 22: loop.example/g01322/laws.toJobS -/
noncomputable def f_wtoJobS_c : Code := match Tryd.f22.body with | some c => c | none => .skip
noncomputable def f_wtoJobS_X : Ctx := ⟨TT, phiOf [(38, c_wtoJob)], noPsi, noXi⟩
def f_wtoJobS_LV : List (Nat × Keep) := [(3, ([0, 3, 4], [], []))]
def f_wtoJobS_rv : List ResultVar := [.tmp 2]
noncomputable def f_wtoJobS_L (r : List A) : Nat → AS → Option (List A) := L f_wtoJobS_X (cnOf f_wtoJobS_LV) f_wtoJobS_c (K0 TT f_wtoJobS_rv) r
theorem f_wtoJobS_ctx : CtxOK Tryd.prog f_wtoJobS_X := ctx_of tab mix ⟨⟨Tryd.call38, f_wtoJob_sound⟩, trivial⟩
noncomputable def f_wtoJobS_s3 (x0 : Int) (x1 : (List (Int × Int))) (x2 : (List (Int × Int))) : AS := ⟨[(0, .a (.sl 0)), (3, .a (.sl 1)), (4, .a (.v (.int .i64 x0)))], [(0, some ⟨false, .arr (.st [(.i .i8), (.i .u16)]) x1⟩), (1, some ⟨true, .arr (.st [(.i .i8), (.i .u16)]) x2⟩)], 2⟩
noncomputable def l_wtoJobS (r : (List (Int × Int))) : List A := [.lst (.st [(.i .i8), (.i .u16)]) r]
theorem f_wtoJobS_step3 (x0 : Int) (x1 : (List (Int × Int))) (x2 : (List (Int × Int))) (r : List A) (h : (cond (decide (x0 < ((List.length x1 : Nat) : Int))) (cond (inB x0 (List.length x1)) (cond (inB x0 (List.length x2)) (f_wtoJobS_L r 3 (f_wtoJobS_s3 (IntKind.wrap .i64 (x0 + 1)) x1 (List.set x2 (Int.toNat x0) ((s_wtoJob (List.getD x1 (Int.toNat x0) ((0, 0) : (Int × Int))).1 (List.getD x1 (Int.toNat x0) ((0, 0) : (Int × Int))).2).1, (s_wtoJob (List.getD x1 (Int.toNat x0) ((0, 0) : (Int × Int))).1 (List.getD x1 (Int.toNat x0) ((0, 0) : (Int × Int))).2).2)))) none) none) (some [.lst (.st [(.i .i8), (.i .u16)]) x2])) = some r) : f_wtoJobS_L r 3 (f_wtoJobS_s3 x0 x1 x2) = some r :=
  step_of' h (by kernel_rfl)
noncomputable def f_wtoJobS_n3 (x0 : Int) (x1 : (List (Int × Int))) (x2 : (List (Int × Int))) : Option ((Int × (List (Int × Int)) × (List (Int × Int))) ⊕ (List (Int × Int))) := (cond (decide (x0 < ((List.length x1 : Nat) : Int))) (cond (inB x0 (List.length x1)) (cond (inB x0 (List.length x2)) (some (Sum.inl ((IntKind.wrap .i64 (x0 + 1)), x1, (List.set x2 (Int.toNat x0) ((s_wtoJob (List.getD x1 (Int.toNat x0) ((0, 0) : (Int × Int))).1 (List.getD x1 (Int.toNat x0) ((0, 0) : (Int × Int))).2).1, (s_wtoJob (List.getD x1 (Int.toNat x0) ((0, 0) : (Int × Int))).1 (List.getD x1 (Int.toNat x0) ((0, 0) : (Int × Int))).2).2))))) none) none) (some (Sum.inr x2)))
noncomputable def f_wtoJobS_run3 (x : (Int × (List (Int × Int)) × (List (Int × Int)))) : Option (List (Int × Int)) := iter (fun x => f_wtoJobS_n3 x.1 x.2.1 x.2.2) FU x
noncomputable def f_wtoJobS_G3 (r : List A) (x : (Int × (List (Int × Int)) × (List (Int × Int)))) : Prop := f_wtoJobS_L r 3 (f_wtoJobS_s3 x.1 x.2.1 x.2.2) = some r
noncomputable def f_wtoJobS_S3 (r : List A) : (List (Int × Int)) → Prop := fun v => r = l_wtoJobS v
theorem f_wtoJobS_go3 (r : List A) : ∀ x, sem (f_wtoJobS_S3 r) (f_wtoJobS_run3 x) → f_wtoJobS_G3 r x :=
  fun x => iter_sound (step := fun x => f_wtoJobS_n3 x.1 x.2.1 x.2.2) (fun x h => by
    unfold f_wtoJobS_n3 at h
    exact f_wtoJobS_step3 x.1 x.2.1 x.2.2 r ((sem_cond h (fun h => (sem_cond h (fun h => (sem_cond h (fun h => sem_got h fun q => q) (fun h => sem_none h))) (fun h => sem_none h))) (fun h => sem_got h fun q => some_eq q)))) FU x
noncomputable def s_wtoJobS (a0 : (List (Int × Int))) : Option (List (Int × Int)) := (cond (decide (0 ≤ ((List.length a0 : Nat) : Int)) && decide (((List.length a0 : Nat) : Int) = ((List.length a0 : Nat) : Int)) && fits ((Int.toNat ((List.length a0 : Nat) : Int)) * 4)) (f_wtoJobS_run3 (0, a0, (List.replicate (Int.toNat ((List.length a0 : Nat) : Int)) ((0, 0) : (Int × Int))))) none)
theorem f_wtoJobS_top (a0 : (List (Int × Int))) (r : List A) : ev f_wtoJobS_X (lpc (cnOf f_wtoJobS_LV) (f_wtoJobS_L r)) f_wtoJobS_c (K0 TT f_wtoJobS_rv) (enter [.lst (.st [(.i .i8), (.i .u16)]) a0]) = (cond (decide (0 ≤ ((List.length a0 : Nat) : Int)) && decide (((List.length a0 : Nat) : Int) = ((List.length a0 : Nat) : Int)) && fits ((Int.toNat ((List.length a0 : Nat) : Int)) * 4)) (f_wtoJobS_L r 3 (f_wtoJobS_s3 0 a0 (List.replicate (Int.toNat ((List.length a0 : Nat) : Int)) ((0, 0) : (Int × Int))))) none) := by kernel_rfl
theorem s_wtoJobS_ok (a0 : (List (Int × Int))) (v : (List (Int × Int))) (h : s_wtoJobS a0 = some v) : (cond (decide (0 ≤ ((List.length a0 : Nat) : Int)) && decide (((List.length a0 : Nat) : Int) = ((List.length a0 : Nat) : Int)) && fits ((Int.toNat ((List.length a0 : Nat) : Int)) * 4)) (f_wtoJobS_L (l_wtoJobS v) 3 (f_wtoJobS_s3 0 a0 (List.replicate (Int.toNat ((List.length a0 : Nat) : Int)) ((0, 0) : (Int × Int))))) none) = some (l_wtoJobS v) := by
  unfold s_wtoJobS at h
  have go : ∀ r, sem (fun v => r = l_wtoJobS v) ((cond (decide (0 ≤ ((List.length a0 : Nat) : Int)) && decide (((List.length a0 : Nat) : Int) = ((List.length a0 : Nat) : Int)) && fits ((Int.toNat ((List.length a0 : Nat) : Int)) * 4)) (f_wtoJobS_run3 (0, a0, (List.replicate (Int.toNat ((List.length a0 : Nat) : Int)) ((0, 0) : (Int × Int))))) none)) → (cond (decide (0 ≤ ((List.length a0 : Nat) : Int)) && decide (((List.length a0 : Nat) : Int) = ((List.length a0 : Nat) : Int)) && fits ((Int.toNat ((List.length a0 : Nat) : Int)) * 4)) (f_wtoJobS_L r 3 (f_wtoJobS_s3 0 a0 (List.replicate (Int.toNat ((List.length a0 : Nat) : Int)) ((0, 0) : (Int × Int))))) none) = some r := fun r h => (sem_cond h (fun h => f_wtoJobS_go3 r _ h) (fun h => sem_none h))
  exact go (l_wtoJobS v) ⟨v, h, rfl⟩
noncomputable def c_wtoJobS : List A → ACall
  | [.lst (.st [(.i .i8), (.i .u16)]) a0] => ⟨(List (Int × Int)), s_wtoJobS a0, fun r => .one (.lst (.st [(.i .i8), (.i .u16)]) r)⟩
  | _ => ACall.fail
theorem f_wtoJobS_sound : Sound Tryd.prog 22 c_wtoJobS := by
  refine sound_good f_wtoJobS_ctx f_wtoJobS_LV 1 Tryd.func22 (c := f_wtoJobS_c) (by kernel_rfl) (rv := f_wtoJobS_rv) (by kernel_rfl) (by kernel_rfl) (by kernel_rfl) (by kernel_rfl) fun rs => ?_
  unfold c_wtoJobS
  split
  · rename_i a0; intro v h; exact ⟨rfl, l_wtoJobS v, rfl, (f_wtoJobS_top a0 _).trans (s_wtoJobS_ok a0 v h)⟩
  · intro v h; cases h

/-! ### function 57: loop.example/g01322/spec.l07Order -/
noncomputable def f_sl07Order_c : Code := match Tryd.f57.body with | some c => c | none => .skip
noncomputable def f_sl07Order_X : Ctx := ⟨TT, phiOf [], noPsi, noXi⟩
def f_sl07Order_LV : List (Nat × Keep) := [(3, ([0, 4, 5], [], [])), (6, ([0, 4, 5, 6, 7], [], []))]
def f_sl07Order_rv : List ResultVar := [.tmp 2, .tmp 3]
noncomputable def f_sl07Order_L (r : List A) : Nat → AS → Option (List A) := L f_sl07Order_X (cnOf f_sl07Order_LV) f_sl07Order_c (K0 TT f_sl07Order_rv) r
theorem f_sl07Order_ctx : CtxOK Tryd.prog f_sl07Order_X := ctx_of tab mix trivial
noncomputable def f_sl07Order_s3 (x0 : Int) (x1 : (List (Int × Int))) (x2 : (List Int)) : AS := ⟨[(0, .a (.sl 0)), (4, .a (.sl 1)), (5, .a (.v (.int .u16 x0)))], [(0, some ⟨false, .arr (.st [(.i .i8), (.i .u16)]) x1⟩), (1, some ⟨true, .arr (.one (.i .i64)) x2⟩)], 2⟩
noncomputable def f_sl07Order_s6 (x0 : Int) (x1 : Int) (x2 : Int) (x3 : (List (Int × Int))) (x4 : (List Int)) : AS := ⟨[(0, .a (.sl 0)), (4, .a (.sl 1)), (5, .a (.v (.int .u16 x0))), (6, .a (.v (.int .i64 x1))), (7, .a (.v (.int .i64 x2)))], [(0, some ⟨false, .arr (.st [(.i .i8), (.i .u16)]) x3⟩), (1, some ⟨true, .arr (.one (.i .i64)) x4⟩)], 2⟩
noncomputable def l_sl07Order (r : ((List Int) × Bool)) : List A := [.lst (.one (.i .i64)) r.1, .v (.bool r.2)]
theorem f_sl07Order_step6 (x0 : Int) (x1 : Int) (x2 : Int) (x3 : (List (Int × Int))) (x4 : (List Int)) (r : List A) (h : (cond (decide (x2 ≥ 0)) (cond (decide ((IntKind.wrap .u64 x2) < 0)) none (cond ((Int.tmod (bShr .u16 x0 (IntKind.wrap .u64 x2)) 2) == 0) (cond (inB x2 (List.length x3)) (cond ((bAndNot .u16 (List.getD x3 (Int.toNat x2) ((0, 0) : (Int × Int))).2 x0) == 0) (f_sl07Order_L r 6 (f_sl07Order_s6 x0 x2 (IntKind.wrap .i64 (x2 - 1)) x3 x4)) (f_sl07Order_L r 6 (f_sl07Order_s6 x0 x1 (IntKind.wrap .i64 (x2 - 1)) x3 x4))) none) (f_sl07Order_L r 6 (f_sl07Order_s6 x0 x1 (IntKind.wrap .i64 (x2 - 1)) x3 x4)))) (cond (decide (x1 < 0)) (some [.lst (.one (.i .i64)) [], .v (.bool false)]) (cond (fits ((List.length (x4 : List Int) + List.length ([x1] : List Int)) * 8)) (cond (decide ((IntKind.wrap .u64 x1) < 0)) none (f_sl07Order_L r 3 (f_sl07Order_s3 (bOr .u16 x0 (bShl .u16 1 (IntKind.wrap .u64 x1))) x3 (x4 ++ [x1])))) none))) = some r) : f_sl07Order_L r 6 (f_sl07Order_s6 x0 x1 x2 x3 x4) = some r :=
  step_of' h (by kernel_rfl)
noncomputable def f_sl07Order_n6 (x0 : Int) (x1 : Int) (x2 : Int) (x3 : (List (Int × Int))) (x4 : (List Int)) : Option ((Int × Int × Int × (List (Int × Int)) × (List Int)) ⊕ ((Int × (List (Int × Int)) × (List Int)) ⊕ ((List Int) × Bool))) := (cond (decide (x2 ≥ 0)) (cond (decide ((IntKind.wrap .u64 x2) < 0)) none (cond ((Int.tmod (bShr .u16 x0 (IntKind.wrap .u64 x2)) 2) == 0) (cond (inB x2 (List.length x3)) (cond ((bAndNot .u16 (List.getD x3 (Int.toNat x2) ((0, 0) : (Int × Int))).2 x0) == 0) (some (Sum.inl (x0, x2, (IntKind.wrap .i64 (x2 - 1)), x3, x4))) (some (Sum.inl (x0, x1, (IntKind.wrap .i64 (x2 - 1)), x3, x4)))) none) (some (Sum.inl (x0, x1, (IntKind.wrap .i64 (x2 - 1)), x3, x4))))) (cond (decide (x1 < 0)) (some (Sum.inr (Sum.inr ([], false)))) (cond (fits ((List.length (x4 : List Int) + List.length ([x1] : List Int)) * 8)) (cond (decide ((IntKind.wrap .u64 x1) < 0)) none (some (Sum.inr (Sum.inl ((bOr .u16 x0 (bShl .u16 1 (IntKind.wrap .u64 x1))), x3, (x4 ++ [x1])))))) none)))
noncomputable def f_sl07Order_run6 (x : (Int × Int × Int × (List (Int × Int)) × (List Int))) : Option ((Int × (List (Int × Int)) × (List Int)) ⊕ ((List Int) × Bool)) := iter (fun x => f_sl07Order_n6 x.1 x.2.1 x.2.2.1 x.2.2.2.1 x.2.2.2.2) FU x
noncomputable def f_sl07Order_G6 (r : List A) (x : (Int × Int × Int × (List (Int × Int)) × (List Int))) : Prop := f_sl07Order_L r 6 (f_sl07Order_s6 x.1 x.2.1 x.2.2.1 x.2.2.2.1 x.2.2.2.2) = some r
theorem f_sl07Order_step3 (x0 : Int) (x1 : (List (Int × Int))) (x2 : (List Int)) (r : List A) (h : (cond (decide (((List.length x2 : Nat) : Int) < ((List.length x1 : Nat) : Int))) (f_sl07Order_L r 6 (f_sl07Order_s6 x0 (-1) (IntKind.wrap .i64 (((List.length x1 : Nat) : Int) - 1)) x1 x2)) (some [.lst (.one (.i .i64)) x2, .v (.bool true)])) = some r) : f_sl07Order_L r 3 (f_sl07Order_s3 x0 x1 x2) = some r :=
  step_of' h (by kernel_rfl)
noncomputable def f_sl07Order_n3 (x0 : Int) (x1 : (List (Int × Int))) (x2 : (List Int)) : Option ((Int × (List (Int × Int)) × (List Int)) ⊕ ((List Int) × Bool)) := (cond (decide (((List.length x2 : Nat) : Int) < ((List.length x1 : Nat) : Int))) (f_sl07Order_run6 (x0, (-1), (IntKind.wrap .i64 (((List.length x1 : Nat) : Int) - 1)), x1, x2)) (some (Sum.inr (x2, true))))
noncomputable def f_sl07Order_run3 (x : (Int × (List (Int × Int)) × (List Int))) : Option ((List Int) × Bool) := iter (fun x => f_sl07Order_n3 x.1 x.2.1 x.2.2) FU x
noncomputable def f_sl07Order_G3 (r : List A) (x : (Int × (List (Int × Int)) × (List Int))) : Prop := f_sl07Order_L r 3 (f_sl07Order_s3 x.1 x.2.1 x.2.2) = some r
noncomputable def f_sl07Order_S3 (r : List A) : ((List Int) × Bool) → Prop := fun v => r = l_sl07Order v
noncomputable def f_sl07Order_S6 (r : List A) : ((Int × (List (Int × Int)) × (List Int)) ⊕ ((List Int) × Bool)) → Prop := goesOn (f_sl07Order_G3 r) (f_sl07Order_S3 r)
theorem f_sl07Order_go6 (r : List A) : ∀ x, sem (f_sl07Order_S6 r) (f_sl07Order_run6 x) → f_sl07Order_G6 r x :=
  fun x => iter_sound (step := fun x => f_sl07Order_n6 x.1 x.2.1 x.2.2.1 x.2.2.2.1 x.2.2.2.2) (fun x h => by
    unfold f_sl07Order_n6 at h
    exact f_sl07Order_step6 x.1 x.2.1 x.2.2.1 x.2.2.2.1 x.2.2.2.2 r ((sem_cond h (fun h => (sem_cond h (fun h => sem_none h) (fun h => (sem_cond h (fun h => (sem_cond h (fun h => (sem_cond h (fun h => sem_got h fun q => q) (fun h => sem_got h fun q => q))) (fun h => sem_none h))) (fun h => sem_got h fun q => q))))) (fun h => (sem_cond h (fun h => sem_got h fun q => some_eq q) (fun h => (sem_cond h (fun h => (sem_cond h (fun h => sem_none h) (fun h => sem_got h fun q => q))) (fun h => sem_none h)))))))) FU x
theorem f_sl07Order_go3 (r : List A) : ∀ x, sem (f_sl07Order_S3 r) (f_sl07Order_run3 x) → f_sl07Order_G3 r x :=
  fun x => iter_sound (step := fun x => f_sl07Order_n3 x.1 x.2.1 x.2.2) (fun x h => by
    unfold f_sl07Order_n3 at h
    exact f_sl07Order_step3 x.1 x.2.1 x.2.2 r ((sem_cond h (fun h => f_sl07Order_go6 r _ h) (fun h => sem_got h fun q => some_eq q)))) FU x
noncomputable def s_sl07Order (a0 : (List (Int × Int))) : Option ((List Int) × Bool) := (f_sl07Order_run3 (0, a0, []))
theorem f_sl07Order_top (a0 : (List (Int × Int))) (r : List A) : ev f_sl07Order_X (lpc (cnOf f_sl07Order_LV) (f_sl07Order_L r)) f_sl07Order_c (K0 TT f_sl07Order_rv) (enter [.lst (.st [(.i .i8), (.i .u16)]) a0]) = (f_sl07Order_L r 3 (f_sl07Order_s3 0 a0 [])) := by kernel_rfl
theorem s_sl07Order_ok (a0 : (List (Int × Int))) (v : ((List Int) × Bool)) (h : s_sl07Order a0 = some v) : (f_sl07Order_L (l_sl07Order v) 3 (f_sl07Order_s3 0 a0 [])) = some (l_sl07Order v) := by
  unfold s_sl07Order at h
  have go : ∀ r, sem (fun v => r = l_sl07Order v) ((f_sl07Order_run3 (0, a0, []))) → (f_sl07Order_L r 3 (f_sl07Order_s3 0 a0 [])) = some r := fun r h => f_sl07Order_go3 r _ h
  exact go (l_sl07Order v) ⟨v, h, rfl⟩
noncomputable def c_sl07Order : List A → ACall
  | [.lst (.st [(.i .i8), (.i .u16)]) a0] => ⟨((List Int) × Bool), s_sl07Order a0, fun r => .tup [.lst (.one (.i .i64)) r.1, .v (.bool r.2)]⟩
  | _ => ACall.fail
theorem f_sl07Order_sound : Sound Tryd.prog 57 c_sl07Order := by
  refine sound_good f_sl07Order_ctx f_sl07Order_LV 1 Tryd.func57 (c := f_sl07Order_c) (by kernel_rfl) (rv := f_sl07Order_rv) (by kernel_rfl) (by kernel_rfl) (by kernel_rfl) (by kernel_rfl) fun rs => ?_
  unfold c_sl07Order
  split
  · rename_i a0; intro v h; exact ⟨rfl, l_sl07Order v, rfl, (f_sl07Order_top a0 _).trans (s_sl07Order_ok a0 v h)⟩
  · intro v h; cases h

/-! ### function 36: loop.example/g01322/spec.l07Ok -/
noncomputable def f_sl07Ok_c : Code := match Tryd.f36.body with | some c => c | none => .skip
noncomputable def f_sl07Ok_X : Ctx := ⟨TT, phiOf [(42, c_sl00In), (57, c_sl07Order)], noPsi, noXi⟩
def f_sl07Ok_LV : List (Nat × Keep) := [(4, ([0, 3], [], []))]
def f_sl07Ok_rv : List ResultVar := [.tmp 2]
noncomputable def f_sl07Ok_L (r : List A) : Nat → AS → Option (List A) := L f_sl07Ok_X (cnOf f_sl07Ok_LV) f_sl07Ok_c (K0 TT f_sl07Ok_rv) r
theorem f_sl07Ok_ctx : CtxOK Tryd.prog f_sl07Ok_X := ctx_of tab mix ⟨⟨Tryd.call42, f_sl00In_sound⟩, ⟨Tryd.call57, f_sl07Order_sound⟩, trivial⟩
noncomputable def f_sl07Ok_s4 (x0 : Int) (x1 : (List (Int × Int))) : AS := ⟨[(0, .a (.sl 0)), (3, .a (.v (.int .i64 x0)))], [(0, some ⟨false, .arr (.st [(.i .i8), (.i .u16)]) x1⟩)], 1⟩
noncomputable def l_sl07Ok (r : Bool) : List A := [.v (.bool r)]
theorem f_sl07Ok_step4 (x0 : Int) (x1 : (List (Int × Int))) (r : List A) (h : (cond (decide (x0 < ((List.length x1 : Nat) : Int))) (cond (inB x0 (List.length x1)) (cond (!(s_sl00In (IntKind.wrap .i64 (List.getD x1 (Int.toNat x0) ((0, 0) : (Int × Int))).1) 1 30)) (some [.v (.bool false)]) (cond (inB x0 (List.length x1)) (cond (decide ((IntKind.wrap .u64 ((List.length x1 : Nat) : Int)) < 0)) none (cond ((bShr .u16 (List.getD x1 (Int.toNat x0) ((0, 0) : (Int × Int))).2 (IntKind.wrap .u64 ((List.length x1 : Nat) : Int))) != 0) (some [.v (.bool false)]) (f_sl07Ok_L r 4 (f_sl07Ok_s4 (IntKind.wrap .i64 (x0 + 1)) x1)))) none)) none) (Option.bind (s_sl07Order x1) fun r1 => (some [.v (.bool r1.2)]))) = some r) : f_sl07Ok_L r 4 (f_sl07Ok_s4 x0 x1) = some r :=
  step_of' h (by kernel_rfl)
noncomputable def f_sl07Ok_n4 (x0 : Int) (x1 : (List (Int × Int))) : Option ((Int × (List (Int × Int))) ⊕ Bool) := (cond (decide (x0 < ((List.length x1 : Nat) : Int))) (cond (inB x0 (List.length x1)) (cond (!(s_sl00In (IntKind.wrap .i64 (List.getD x1 (Int.toNat x0) ((0, 0) : (Int × Int))).1) 1 30)) (some (Sum.inr false)) (cond (inB x0 (List.length x1)) (cond (decide ((IntKind.wrap .u64 ((List.length x1 : Nat) : Int)) < 0)) none (cond ((bShr .u16 (List.getD x1 (Int.toNat x0) ((0, 0) : (Int × Int))).2 (IntKind.wrap .u64 ((List.length x1 : Nat) : Int))) != 0) (some (Sum.inr false)) (some (Sum.inl ((IntKind.wrap .i64 (x0 + 1)), x1))))) none)) none) (Option.bind (s_sl07Order x1) fun r1 => (some (Sum.inr (r1.2)))))
noncomputable def f_sl07Ok_run4 (x : (Int × (List (Int × Int)))) : Option Bool := iter (fun x => f_sl07Ok_n4 x.1 x.2) FU x
noncomputable def f_sl07Ok_G4 (r : List A) (x : (Int × (List (Int × Int)))) : Prop := f_sl07Ok_L r 4 (f_sl07Ok_s4 x.1 x.2) = some r
noncomputable def f_sl07Ok_S4 (r : List A) : Bool → Prop := fun v => r = l_sl07Ok v
theorem f_sl07Ok_go4 (r : List A) : ∀ x, sem (f_sl07Ok_S4 r) (f_sl07Ok_run4 x) → f_sl07Ok_G4 r x :=
  fun x => iter_sound (step := fun x => f_sl07Ok_n4 x.1 x.2) (fun x h => by
    unfold f_sl07Ok_n4 at h
    exact f_sl07Ok_step4 x.1 x.2 r ((sem_cond h (fun h => (sem_cond h (fun h => (sem_cond h (fun h => sem_got h fun q => some_eq q) (fun h => (sem_cond h (fun h => (sem_cond h (fun h => sem_none h) (fun h => (sem_cond h (fun h => sem_got h fun q => some_eq q) (fun h => sem_got h fun q => q))))) (fun h => sem_none h))))) (fun h => sem_none h))) (fun h => (sem_bind h fun r1 h => sem_got h fun q => some_eq q))))) FU x
noncomputable def s_sl07Ok (a0 : (List (Int × Int))) : Option Bool := (cond (decide (((List.length a0 : Nat) : Int) > 12)) (some false) (f_sl07Ok_run4 (0, a0)))
theorem f_sl07Ok_top (a0 : (List (Int × Int))) (r : List A) : ev f_sl07Ok_X (lpc (cnOf f_sl07Ok_LV) (f_sl07Ok_L r)) f_sl07Ok_c (K0 TT f_sl07Ok_rv) (enter [.lst (.st [(.i .i8), (.i .u16)]) a0]) = (cond (decide (((List.length a0 : Nat) : Int) > 12)) (some [.v (.bool false)]) (f_sl07Ok_L r 4 (f_sl07Ok_s4 0 a0))) := by kernel_rfl
theorem s_sl07Ok_ok (a0 : (List (Int × Int))) (v : Bool) (h : s_sl07Ok a0 = some v) : (cond (decide (((List.length a0 : Nat) : Int) > 12)) (some [.v (.bool false)]) (f_sl07Ok_L (l_sl07Ok v) 4 (f_sl07Ok_s4 0 a0))) = some (l_sl07Ok v) := by
  unfold s_sl07Ok at h
  have go : ∀ r, sem (fun v => r = l_sl07Ok v) ((cond (decide (((List.length a0 : Nat) : Int) > 12)) (some false) (f_sl07Ok_run4 (0, a0)))) → (cond (decide (((List.length a0 : Nat) : Int) > 12)) (some [.v (.bool false)]) (f_sl07Ok_L r 4 (f_sl07Ok_s4 0 a0))) = some r := fun r h => (sem_cond h (fun h => sem_got h fun q => some_eq q) (fun h => f_sl07Ok_go4 r _ h))
  exact go (l_sl07Ok v) ⟨v, h, rfl⟩
noncomputable def c_sl07Ok : List A → ACall
  | [.lst (.st [(.i .i8), (.i .u16)]) a0] => ⟨Bool, s_sl07Ok a0, fun r => .one (.v (.bool r))⟩
  | _ => ACall.fail
theorem f_sl07Ok_sound : Sound Tryd.prog 36 c_sl07Ok := by
  refine sound_good f_sl07Ok_ctx f_sl07Ok_LV 1 Tryd.func36 (c := f_sl07Ok_c) (by kernel_rfl) (rv := f_sl07Ok_rv) (by kernel_rfl) (by kernel_rfl) (by kernel_rfl) (by kernel_rfl) fun rs => ?_
  unfold c_sl07Ok
  split
  · rename_i a0; intro v h; exact ⟨rfl, l_sl07Ok v, rfl, (f_sl07Ok_top a0 _).trans (s_sl07Ok_ok a0 v h)⟩
  · intro v h; cases h

/-! ### function 58: loop.example/g01322/spec.l07Waits -/
noncomputable def f_sl07Waits_c : Code := match Tryd.f58.body with | some c => c | none => .skip
noncomputable def f_sl07Waits_X : Ctx := ⟨TT, phiOf [], noPsi, noXi⟩
def f_sl07Waits_LV : List (Nat × Keep) := []
def f_sl07Waits_rv : List ResultVar := [.tmp 6]
noncomputable def f_sl07Waits_L (r : List A) : Nat → AS → Option (List A) := L f_sl07Waits_X (cnOf f_sl07Waits_LV) f_sl07Waits_c (K0 TT f_sl07Waits_rv) r
theorem f_sl07Waits_ctx : CtxOK Tryd.prog f_sl07Waits_X := ctx_of tab mix trivial
noncomputable def s_sl07Waits (a0 : (List (Int × Int))) (a1 : Int) (a2 : Int) : Option Bool := (cond (inB a1 (List.length a0)) (cond (decide ((IntKind.wrap .u64 a2) < 0)) none (some ((Int.tmod (bShr .u16 (List.getD a0 (Int.toNat a1) ((0, 0) : (Int × Int))).2 (IntKind.wrap .u64 a2)) 2) == 1))) none)
theorem f_sl07Waits_top (a0 : (List (Int × Int))) (a1 : Int) (a2 : Int) (r : List A) : ev f_sl07Waits_X (lpc (cnOf f_sl07Waits_LV) (f_sl07Waits_L r)) f_sl07Waits_c (K0 TT f_sl07Waits_rv) (enter [.lst (.st [(.i .i8), (.i .u16)]) a0, .v (.int .i64 a1), .v (.int .i64 a2)]) = (cond (inB a1 (List.length a0)) (cond (decide ((IntKind.wrap .u64 a2) < 0)) none (some [.v (.bool ((Int.tmod (bShr .u16 (List.getD a0 (Int.toNat a1) ((0, 0) : (Int × Int))).2 (IntKind.wrap .u64 a2)) 2) == 1))])) none) := by kernel_rfl
noncomputable def l_sl07Waits (r : Bool) : List A := [.v (.bool r)]
theorem s_sl07Waits_ok (a0 : (List (Int × Int))) (a1 : Int) (a2 : Int) (v : Bool) (h : s_sl07Waits a0 a1 a2 = some v) : (cond (inB a1 (List.length a0)) (cond (decide ((IntKind.wrap .u64 a2) < 0)) none (some [.v (.bool ((Int.tmod (bShr .u16 (List.getD a0 (Int.toNat a1) ((0, 0) : (Int × Int))).2 (IntKind.wrap .u64 a2)) 2) == 1))])) none) = some (l_sl07Waits v) := by
  have e : (cond (inB a1 (List.length a0)) (cond (decide ((IntKind.wrap .u64 a2) < 0)) none (some [.v (.bool ((Int.tmod (bShr .u16 (List.getD a0 (Int.toNat a1) ((0, 0) : (Int × Int))).2 (IntKind.wrap .u64 a2)) 2) == 1))])) none) = Option.map l_sl07Waits (s_sl07Waits a0 a1 a2) := by
    unfold s_sl07Waits
    exact (cond_app (Option.map l_sl07Waits) (cond_app (Option.map l_sl07Waits) rfl rfl) rfl)
  rw [e, h]; rfl
noncomputable def c_sl07Waits : List A → ACall
  | [.lst (.st [(.i .i8), (.i .u16)]) a0, .v (.int .i64 a1), .v (.int .i64 a2)] => ⟨Bool, s_sl07Waits a0 a1 a2, fun r => .one (.v (.bool r))⟩
  | _ => ACall.fail
theorem f_sl07Waits_sound : Sound Tryd.prog 58 c_sl07Waits := by
  refine sound_good f_sl07Waits_ctx f_sl07Waits_LV 3 Tryd.func58 (c := f_sl07Waits_c) (by kernel_rfl) (rv := f_sl07Waits_rv) (by kernel_rfl) (by kernel_rfl) (by kernel_rfl) (by kernel_rfl) fun rs => ?_
  unfold c_sl07Waits
  split
  · rename_i a0 a1 a2; intro v h; exact ⟨rfl, l_sl07Waits v, rfl, (f_sl07Waits_top a0 a1 a2 _).trans (s_sl07Waits_ok a0 a1 a2 v h)⟩
  · intro v h; cases h

/-! ### function 37: loop.example/g01322/spec.l07Text -/
noncomputable def f_sl07Text_c : Code := match Tryd.f37.body with | some c => c | none => .skip
noncomputable def f_sl07Text_X : Ctx := ⟨TT, phiOf [(46, c_sDecimal_z), (58, c_sl07Waits)], noPsi, noXi⟩
def f_sl07Text_LV : List (Nat × Keep) := [(3, ([0, 3, 4], [], [])), (9, ([0, 3, 4, 5], [], []))]
def f_sl07Text_rv : List ResultVar := [.tmp 2]
noncomputable def f_sl07Text_L (r : List A) : Nat → AS → Option (List A) := L f_sl07Text_X (cnOf f_sl07Text_LV) f_sl07Text_c (K0 TT f_sl07Text_rv) r
theorem f_sl07Text_ctx : CtxOK Tryd.prog f_sl07Text_X := ctx_of tab mix ⟨⟨Tryd.call46, f_sDecimal_z_sound⟩, ⟨Tryd.call58, f_sl07Waits_sound⟩, trivial⟩
noncomputable def f_sl07Text_s3 (x0 : ByteArray) (x1 : Int) (x2 : (List (Int × Int))) : AS := ⟨[(0, .a (.sl 0)), (3, .a (.v (.string x0))), (4, .a (.v (.int .i64 x1)))], [(0, some ⟨false, .arr (.st [(.i .i8), (.i .u16)]) x2⟩)], 1⟩
noncomputable def f_sl07Text_s9 (x0 : ByteArray) (x1 : Int) (x2 : Int) (x3 : (List (Int × Int))) : AS := ⟨[(0, .a (.sl 0)), (3, .a (.v (.string x0))), (4, .a (.v (.int .i64 x1))), (5, .a (.v (.int .i64 x2)))], [(0, some ⟨false, .arr (.st [(.i .i8), (.i .u16)]) x3⟩)], 1⟩
noncomputable def l_sl07Text (r : ByteArray) : List A := [.v (.string r)]
theorem f_sl07Text_step9 (x0 : ByteArray) (x1 : Int) (x2 : Int) (x3 : (List (Int × Int))) (r : List A) (h : (cond (decide (x2 < ((List.length x3 : Nat) : Int))) (Option.bind (s_sl07Waits x3 x1 x2) fun r3 => (cond r3 (Option.bind (s_sDecimal_z x2) fun r4 => (cond (fits ((⟨#[44]⟩ : ByteArray).size + r4.size)) (cond (fits (x0.size + ((⟨#[44]⟩ : ByteArray) ++ r4).size)) (f_sl07Text_L r 9 (f_sl07Text_s9 (x0 ++ ((⟨#[44]⟩ : ByteArray) ++ r4)) x1 (IntKind.wrap .i64 (x2 + 1)) x3)) none) none)) (f_sl07Text_L r 9 (f_sl07Text_s9 x0 x1 (IntKind.wrap .i64 (x2 + 1)) x3)))) (f_sl07Text_L r 3 (f_sl07Text_s3 x0 (IntKind.wrap .i64 (x1 + 1)) x3))) = some r) : f_sl07Text_L r 9 (f_sl07Text_s9 x0 x1 x2 x3) = some r :=
  step_of' h (by kernel_rfl)
noncomputable def f_sl07Text_n9 (x0 : ByteArray) (x1 : Int) (x2 : Int) (x3 : (List (Int × Int))) : Option ((ByteArray × Int × Int × (List (Int × Int))) ⊕ ((ByteArray × Int × (List (Int × Int))) ⊕ ByteArray)) := (cond (decide (x2 < ((List.length x3 : Nat) : Int))) (Option.bind (s_sl07Waits x3 x1 x2) fun r3 => (cond r3 (Option.bind (s_sDecimal_z x2) fun r4 => (cond (fits ((⟨#[44]⟩ : ByteArray).size + r4.size)) (cond (fits (x0.size + ((⟨#[44]⟩ : ByteArray) ++ r4).size)) (some (Sum.inl ((x0 ++ ((⟨#[44]⟩ : ByteArray) ++ r4)), x1, (IntKind.wrap .i64 (x2 + 1)), x3))) none) none)) (some (Sum.inl (x0, x1, (IntKind.wrap .i64 (x2 + 1)), x3))))) (some (Sum.inr (Sum.inl (x0, (IntKind.wrap .i64 (x1 + 1)), x3)))))
noncomputable def f_sl07Text_run9 (x : (ByteArray × Int × Int × (List (Int × Int)))) : Option ((ByteArray × Int × (List (Int × Int))) ⊕ ByteArray) := iter (fun x => f_sl07Text_n9 x.1 x.2.1 x.2.2.1 x.2.2.2) FU x
noncomputable def f_sl07Text_G9 (r : List A) (x : (ByteArray × Int × Int × (List (Int × Int)))) : Prop := f_sl07Text_L r 9 (f_sl07Text_s9 x.1 x.2.1 x.2.2.1 x.2.2.2) = some r
theorem f_sl07Text_step3 (x0 : ByteArray) (x1 : Int) (x2 : (List (Int × Int))) (r : List A) (h : (cond (decide (x1 < ((List.length x2 : Nat) : Int))) (cond (decide (x1 > 0)) (cond (fits (x0.size + (⟨#[32]⟩ : ByteArray).size)) (cond (inB x1 (List.length x2)) (Option.bind (s_sDecimal_z (IntKind.wrap .i64 (List.getD x2 (Int.toNat x1) ((0, 0) : (Int × Int))).1)) fun r1 => (cond (fits ((x0 ++ (⟨#[32]⟩ : ByteArray)).size + r1.size)) (f_sl07Text_L r 9 (f_sl07Text_s9 ((x0 ++ (⟨#[32]⟩ : ByteArray)) ++ r1) x1 0 x2)) none)) none) none) (cond (inB x1 (List.length x2)) (Option.bind (s_sDecimal_z (IntKind.wrap .i64 (List.getD x2 (Int.toNat x1) ((0, 0) : (Int × Int))).1)) fun r2 => (cond (fits (x0.size + r2.size)) (f_sl07Text_L r 9 (f_sl07Text_s9 (x0 ++ r2) x1 0 x2)) none)) none)) (some [.v (.string x0)])) = some r) : f_sl07Text_L r 3 (f_sl07Text_s3 x0 x1 x2) = some r :=
  step_of' h (by kernel_rfl)
noncomputable def f_sl07Text_n3 (x0 : ByteArray) (x1 : Int) (x2 : (List (Int × Int))) : Option ((ByteArray × Int × (List (Int × Int))) ⊕ ByteArray) := (cond (decide (x1 < ((List.length x2 : Nat) : Int))) (cond (decide (x1 > 0)) (cond (fits (x0.size + (⟨#[32]⟩ : ByteArray).size)) (cond (inB x1 (List.length x2)) (Option.bind (s_sDecimal_z (IntKind.wrap .i64 (List.getD x2 (Int.toNat x1) ((0, 0) : (Int × Int))).1)) fun r1 => (cond (fits ((x0 ++ (⟨#[32]⟩ : ByteArray)).size + r1.size)) (f_sl07Text_run9 (((x0 ++ (⟨#[32]⟩ : ByteArray)) ++ r1), x1, 0, x2)) none)) none) none) (cond (inB x1 (List.length x2)) (Option.bind (s_sDecimal_z (IntKind.wrap .i64 (List.getD x2 (Int.toNat x1) ((0, 0) : (Int × Int))).1)) fun r2 => (cond (fits (x0.size + r2.size)) (f_sl07Text_run9 ((x0 ++ r2), x1, 0, x2)) none)) none)) (some (Sum.inr x0)))
noncomputable def f_sl07Text_run3 (x : (ByteArray × Int × (List (Int × Int)))) : Option ByteArray := iter (fun x => f_sl07Text_n3 x.1 x.2.1 x.2.2) FU x
noncomputable def f_sl07Text_G3 (r : List A) (x : (ByteArray × Int × (List (Int × Int)))) : Prop := f_sl07Text_L r 3 (f_sl07Text_s3 x.1 x.2.1 x.2.2) = some r
noncomputable def f_sl07Text_S3 (r : List A) : ByteArray → Prop := fun v => r = l_sl07Text v
noncomputable def f_sl07Text_S9 (r : List A) : ((ByteArray × Int × (List (Int × Int))) ⊕ ByteArray) → Prop := goesOn (f_sl07Text_G3 r) (f_sl07Text_S3 r)
theorem f_sl07Text_go9 (r : List A) : ∀ x, sem (f_sl07Text_S9 r) (f_sl07Text_run9 x) → f_sl07Text_G9 r x :=
  fun x => iter_sound (step := fun x => f_sl07Text_n9 x.1 x.2.1 x.2.2.1 x.2.2.2) (fun x h => by
    unfold f_sl07Text_n9 at h
    exact f_sl07Text_step9 x.1 x.2.1 x.2.2.1 x.2.2.2 r ((sem_cond h (fun h => (sem_bind h fun r3 h => (sem_cond h (fun h => (sem_bind h fun r4 h => (sem_cond h (fun h => (sem_cond h (fun h => sem_got h fun q => q) (fun h => sem_none h))) (fun h => sem_none h)))) (fun h => sem_got h fun q => q)))) (fun h => sem_got h fun q => q)))) FU x
theorem f_sl07Text_go3 (r : List A) : ∀ x, sem (f_sl07Text_S3 r) (f_sl07Text_run3 x) → f_sl07Text_G3 r x :=
  fun x => iter_sound (step := fun x => f_sl07Text_n3 x.1 x.2.1 x.2.2) (fun x h => by
    unfold f_sl07Text_n3 at h
    exact f_sl07Text_step3 x.1 x.2.1 x.2.2 r ((sem_cond h (fun h => (sem_cond h (fun h => (sem_cond h (fun h => (sem_cond h (fun h => (sem_bind h fun r1 h => (sem_cond h (fun h => f_sl07Text_go9 r _ h) (fun h => sem_none h)))) (fun h => sem_none h))) (fun h => sem_none h))) (fun h => (sem_cond h (fun h => (sem_bind h fun r2 h => (sem_cond h (fun h => f_sl07Text_go9 r _ h) (fun h => sem_none h)))) (fun h => sem_none h))))) (fun h => sem_got h fun q => some_eq q)))) FU x
noncomputable def s_sl07Text (a0 : (List (Int × Int))) : Option ByteArray := (f_sl07Text_run3 ((⟨#[]⟩ : ByteArray), 0, a0))
theorem f_sl07Text_top (a0 : (List (Int × Int))) (r : List A) : ev f_sl07Text_X (lpc (cnOf f_sl07Text_LV) (f_sl07Text_L r)) f_sl07Text_c (K0 TT f_sl07Text_rv) (enter [.lst (.st [(.i .i8), (.i .u16)]) a0]) = (f_sl07Text_L r 3 (f_sl07Text_s3 (⟨#[]⟩ : ByteArray) 0 a0)) := by kernel_rfl
theorem s_sl07Text_ok (a0 : (List (Int × Int))) (v : ByteArray) (h : s_sl07Text a0 = some v) : (f_sl07Text_L (l_sl07Text v) 3 (f_sl07Text_s3 (⟨#[]⟩ : ByteArray) 0 a0)) = some (l_sl07Text v) := by
  unfold s_sl07Text at h
  have go : ∀ r, sem (fun v => r = l_sl07Text v) ((f_sl07Text_run3 ((⟨#[]⟩ : ByteArray), 0, a0))) → (f_sl07Text_L r 3 (f_sl07Text_s3 (⟨#[]⟩ : ByteArray) 0 a0)) = some r := fun r h => f_sl07Text_go3 r _ h
  exact go (l_sl07Text v) ⟨v, h, rfl⟩
noncomputable def c_sl07Text : List A → ACall
  | [.lst (.st [(.i .i8), (.i .u16)]) a0] => ⟨ByteArray, s_sl07Text a0, fun r => .one (.v (.string r))⟩
  | _ => ACall.fail
theorem f_sl07Text_sound : Sound Tryd.prog 37 c_sl07Text := by
  refine sound_good f_sl07Text_ctx f_sl07Text_LV 1 Tryd.func37 (c := f_sl07Text_c) (by kernel_rfl) (rv := f_sl07Text_rv) (by kernel_rfl) (by kernel_rfl) (by kernel_rfl) (by kernel_rfl) fun rs => ?_
  unfold c_sl07Text
  split
  · rename_i a0; intro v h; exact ⟨rfl, l_sl07Text v, rfl, (f_sl07Text_top a0 _).trans (s_sl07Text_ok a0 v h)⟩
  · intro v h; cases h

/-! ### function 21: loop.example/g01322/spec.JobsText -/
noncomputable def f_sJobsText_c : Code := match Tryd.f21.body with | some c => c | none => .skip
noncomputable def f_sJobsText_X : Ctx := ⟨TT, phiOf [(36, c_sl07Ok), (37, c_sl07Text)], noPsi, noXi⟩
def f_sJobsText_LV : List (Nat × Keep) := []
def f_sJobsText_rv : List ResultVar := [.tmp 2]
noncomputable def f_sJobsText_L (r : List A) : Nat → AS → Option (List A) := L f_sJobsText_X (cnOf f_sJobsText_LV) f_sJobsText_c (K0 TT f_sJobsText_rv) r
theorem f_sJobsText_ctx : CtxOK Tryd.prog f_sJobsText_X := ctx_of tab mix ⟨⟨Tryd.call36, f_sl07Ok_sound⟩, ⟨Tryd.call37, f_sl07Text_sound⟩, trivial⟩
noncomputable def s_sJobsText (a0 : (List (Int × Int))) : Option ByteArray := (Option.bind (s_sl07Ok a0) fun r1 => (cond (!r1) (some (⟨#[]⟩ : ByteArray)) (Option.bind (s_sl07Text a0) fun r2 => (some r2))))
theorem f_sJobsText_top (a0 : (List (Int × Int))) (r : List A) : ev f_sJobsText_X (lpc (cnOf f_sJobsText_LV) (f_sJobsText_L r)) f_sJobsText_c (K0 TT f_sJobsText_rv) (enter [.lst (.st [(.i .i8), (.i .u16)]) a0]) = (Option.bind (s_sl07Ok a0) fun r1 => (cond (!r1) (some [.v (.string (⟨#[]⟩ : ByteArray))]) (Option.bind (s_sl07Text a0) fun r2 => (some [.v (.string r2)])))) := by kernel_rfl
noncomputable def l_sJobsText (r : ByteArray) : List A := [.v (.string r)]
theorem s_sJobsText_ok (a0 : (List (Int × Int))) (v : ByteArray) (h : s_sJobsText a0 = some v) : (Option.bind (s_sl07Ok a0) fun r1 => (cond (!r1) (some [.v (.string (⟨#[]⟩ : ByteArray))]) (Option.bind (s_sl07Text a0) fun r2 => (some [.v (.string r2)])))) = some (l_sJobsText v) := by
  have e : (Option.bind (s_sl07Ok a0) fun r1 => (cond (!r1) (some [.v (.string (⟨#[]⟩ : ByteArray))]) (Option.bind (s_sl07Text a0) fun r2 => (some [.v (.string r2)])))) = Option.map l_sJobsText (s_sJobsText a0) := by
    unfold s_sJobsText
    exact (bind_app fun _ => (cond_app (Option.map l_sJobsText) rfl (bind_app fun _ => rfl)))
  rw [e, h]; rfl
noncomputable def c_sJobsText : List A → ACall
  | [.lst (.st [(.i .i8), (.i .u16)]) a0] => ⟨ByteArray, s_sJobsText a0, fun r => .one (.v (.string r))⟩
  | _ => ACall.fail
theorem f_sJobsText_sound : Sound Tryd.prog 21 c_sJobsText := by
  refine sound_good f_sJobsText_ctx f_sJobsText_LV 1 Tryd.func21 (c := f_sJobsText_c) (by kernel_rfl) (rv := f_sJobsText_rv) (by kernel_rfl) (by kernel_rfl) (by kernel_rfl) (by kernel_rfl) fun rs => ?_
  unfold c_sJobsText
  split
  · rename_i a0; intro v h; exact ⟨rfl, l_sJobsText v, rfl, (f_sJobsText_top a0 _).trans (s_sJobsText_ok a0 v h)⟩
  · intro v h; cases h

/-! ### function 77: loop.example/g01322/impl.indices -/
noncomputable def f_iindices_c : Code := match Tryd.f77.body with | some c => c | none => .skip
noncomputable def f_iindices_X : Ctx := ⟨TT, phiOf [], noPsi, noXi⟩
def f_iindices_LV : List (Nat × Keep) := [(3, ([3, 7, 8], [], []))]
def f_iindices_rv : List ResultVar := [.tmp 2]
noncomputable def f_iindices_L (r : List A) : Nat → AS → Option (List A) := L f_iindices_X (cnOf f_iindices_LV) f_iindices_c (K0 TT f_iindices_rv) r
theorem f_iindices_ctx : CtxOK Tryd.prog f_iindices_X := ctx_of tab mix trivial
noncomputable def f_iindices_s3 (x0 : Int) (x1 : Int) (x2 : (List Int)) : AS := ⟨[(3, .a (.sl 0)), (7, .a (.v (.int .i64 x0))), (8, .a (.v (.int .i64 x1)))], [(0, some ⟨true, .arr (.one (.i .i64)) x2⟩)], 1⟩
noncomputable def l_iindices (r : (List Int)) : List A := [.lst (.one (.i .i64)) r]
theorem f_iindices_step3 (x0 : Int) (x1 : Int) (x2 : (List Int)) (r : List A) (h : (cond (decide (x1 < x0)) (cond (fits ((List.length (x2 : List Int) + List.length ([x1] : List Int)) * 8)) (f_iindices_L r 3 (f_iindices_s3 x0 (IntKind.wrap .i64 (x1 + 1)) (x2 ++ [x1]))) none) (some [.lst (.one (.i .i64)) x2])) = some r) : f_iindices_L r 3 (f_iindices_s3 x0 x1 x2) = some r :=
  step_of' h (by kernel_rfl)
noncomputable def f_iindices_n3 (x0 : Int) (x1 : Int) (x2 : (List Int)) : Option ((Int × Int × (List Int)) ⊕ (List Int)) := (cond (decide (x1 < x0)) (cond (fits ((List.length (x2 : List Int) + List.length ([x1] : List Int)) * 8)) (some (Sum.inl (x0, (IntKind.wrap .i64 (x1 + 1)), (x2 ++ [x1])))) none) (some (Sum.inr x2)))
noncomputable def f_iindices_run3 (x : (Int × Int × (List Int))) : Option (List Int) := iter (fun x => f_iindices_n3 x.1 x.2.1 x.2.2) FU x
noncomputable def f_iindices_G3 (r : List A) (x : (Int × Int × (List Int))) : Prop := f_iindices_L r 3 (f_iindices_s3 x.1 x.2.1 x.2.2) = some r
noncomputable def f_iindices_S3 (r : List A) : (List Int) → Prop := fun v => r = l_iindices v
theorem f_iindices_go3 (r : List A) : ∀ x, sem (f_iindices_S3 r) (f_iindices_run3 x) → f_iindices_G3 r x :=
  fun x => iter_sound (step := fun x => f_iindices_n3 x.1 x.2.1 x.2.2) (fun x h => by
    unfold f_iindices_n3 at h
    exact f_iindices_step3 x.1 x.2.1 x.2.2 r ((sem_cond h (fun h => (sem_cond h (fun h => sem_got h fun q => q) (fun h => sem_none h))) (fun h => sem_got h fun q => some_eq q)))) FU x
noncomputable def s_iindices (a0 : (List (Int × Int))) : Option (List Int) := (f_iindices_run3 (((List.length a0 : Nat) : Int), 0, []))
theorem f_iindices_top (a0 : (List (Int × Int))) (r : List A) : ev f_iindices_X (lpc (cnOf f_iindices_LV) (f_iindices_L r)) f_iindices_c (K0 TT f_iindices_rv) (enter [.lst (.st [(.i .i8), (.i .u16)]) a0]) = (f_iindices_L r 3 (f_iindices_s3 ((List.length a0 : Nat) : Int) 0 [])) := by kernel_rfl
theorem s_iindices_ok (a0 : (List (Int × Int))) (v : (List Int)) (h : s_iindices a0 = some v) : (f_iindices_L (l_iindices v) 3 (f_iindices_s3 ((List.length a0 : Nat) : Int) 0 [])) = some (l_iindices v) := by
  unfold s_iindices at h
  have go : ∀ r, sem (fun v => r = l_iindices v) ((f_iindices_run3 (((List.length a0 : Nat) : Int), 0, []))) → (f_iindices_L r 3 (f_iindices_s3 ((List.length a0 : Nat) : Int) 0 [])) = some r := fun r h => f_iindices_go3 r _ h
  exact go (l_iindices v) ⟨v, h, rfl⟩
noncomputable def c_iindices : List A → ACall
  | [.lst (.st [(.i .i8), (.i .u16)]) a0] => ⟨(List Int), s_iindices a0, fun r => .one (.lst (.one (.i .i64)) r)⟩
  | _ => ACall.fail
theorem f_iindices_sound : Sound Tryd.prog 77 c_iindices := by
  refine sound_good f_iindices_ctx f_iindices_LV 1 Tryd.func77 (c := f_iindices_c) (by kernel_rfl) (rv := f_iindices_rv) (by kernel_rfl) (by kernel_rfl) (by kernel_rfl) (by kernel_rfl) fun rs => ?_
  unfold c_iindices
  split
  · rename_i a0; intro v h; exact ⟨rfl, l_iindices v, rfl, (f_iindices_top a0 _).trans (s_iindices_ok a0 v h)⟩
  · intro v h; cases h

/-! ### function 78: loop.example/g01322/impl.order$1 -/
noncomputable def f_iorder_1_c : Code := match Tryd.f78.body with | some c => c | none => .skip
noncomputable def f_iorder_1_X : Ctx := ⟨TT, phiOf [], noPsi, noXi⟩
def f_iorder_1_LV : List (Nat × Keep) := []
def f_iorder_1_rv : List ResultVar := [.tmp 4]
noncomputable def f_iorder_1_L (r : List A) : Nat → AS → Option (List A) := L f_iorder_1_X (cnOf f_iorder_1_LV) f_iorder_1_c (K0 TT f_iorder_1_rv) r
theorem f_iorder_1_ctx : CtxOK Tryd.prog f_iorder_1_X := ctx_of tab mix trivial
noncomputable def s_iorder_1 (a0 : Int) (a1 : Int) (a2 : (List (Int × Int))) : Option Bool := (cond (decide (a0 < 0)) none (cond ((bAnd .u16 (bShr .u16 a1 a0) 1) == 0) (cond (inB a0 (List.length a2)) (some ((bAndNot .u16 (List.getD a2 (Int.toNat a0) ((0, 0) : (Int × Int))).2 a1) == 0)) none) (some false)))
theorem f_iorder_1_top (a0 : Int) (a1 : Int) (a2 : (List (Int × Int))) (r : List A) : ev f_iorder_1_X (lpc (cnOf f_iorder_1_LV) (f_iorder_1_L r)) f_iorder_1_c (K0 TT f_iorder_1_rv) (enter [.v (.int .i64 a0), .ref (.v (.int .u16 a1)), .ref (.lst (.st [(.i .i8), (.i .u16)]) a2)]) = (cond (decide (a0 < 0)) none (cond ((bAnd .u16 (bShr .u16 a1 a0) 1) == 0) (cond (inB a0 (List.length a2)) (some [.v (.bool ((bAndNot .u16 (List.getD a2 (Int.toNat a0) ((0, 0) : (Int × Int))).2 a1) == 0))]) none) (some [.v (.bool false)]))) := by kernel_rfl
noncomputable def l_iorder_1 (r : Bool) : List A := [.v (.bool r)]
theorem s_iorder_1_ok (a0 : Int) (a1 : Int) (a2 : (List (Int × Int))) (v : Bool) (h : s_iorder_1 a0 a1 a2 = some v) : (cond (decide (a0 < 0)) none (cond ((bAnd .u16 (bShr .u16 a1 a0) 1) == 0) (cond (inB a0 (List.length a2)) (some [.v (.bool ((bAndNot .u16 (List.getD a2 (Int.toNat a0) ((0, 0) : (Int × Int))).2 a1) == 0))]) none) (some [.v (.bool false)]))) = some (l_iorder_1 v) := by
  have e : (cond (decide (a0 < 0)) none (cond ((bAnd .u16 (bShr .u16 a1 a0) 1) == 0) (cond (inB a0 (List.length a2)) (some [.v (.bool ((bAndNot .u16 (List.getD a2 (Int.toNat a0) ((0, 0) : (Int × Int))).2 a1) == 0))]) none) (some [.v (.bool false)]))) = Option.map l_iorder_1 (s_iorder_1 a0 a1 a2) := by
    unfold s_iorder_1
    exact (cond_app (Option.map l_iorder_1) rfl (cond_app (Option.map l_iorder_1) (cond_app (Option.map l_iorder_1) rfl rfl) rfl))
  rw [e, h]; rfl
noncomputable def c_iorder_1 : List A → ACall
  | [.v (.int .i64 a0), .ref (.v (.int .u16 a1)), .ref (.lst (.st [(.i .i8), (.i .u16)]) a2)] => ⟨Bool, s_iorder_1 a0 a1 a2, fun r => .one (.v (.bool r))⟩
  | _ => ACall.fail
theorem f_iorder_1_sound : Sound Tryd.prog 78 c_iorder_1 := by
  refine sound_good f_iorder_1_ctx f_iorder_1_LV 3 Tryd.func78 (c := f_iorder_1_c) (by kernel_rfl) (rv := f_iorder_1_rv) (by kernel_rfl) (by kernel_rfl) (by kernel_rfl) (by kernel_rfl) fun rs => ?_
  unfold c_iorder_1
  split
  · rename_i a0 a1 a2; intro v h; exact ⟨rfl, l_iorder_1 v, rfl, (f_iorder_1_top a0 a1 a2 _).trans (s_iorder_1_ok a0 a1 a2 v h)⟩
  · intro v h; cases h

/-! ### function 76: slices.IndexFunc[[]int,int] -/
noncomputable def f_gIndexFunc_int_a_c : Code := match Tryd.f76.body with | some c => c | none => .skip
noncomputable def f_gIndexFunc_int_a_X : Ctx := ⟨TT, phiOf [(78, c_iorder_1)], noPsi, noXi⟩
def f_gIndexFunc_int_a_LV : List (Nat × Keep) := [(2, ([0, 1, 7, 8], [], []))]
def f_gIndexFunc_int_a_rv : List ResultVar := [.tmp 4]
noncomputable def f_gIndexFunc_int_a_L (r : List A) : Nat → AS → Option (List A) := L f_gIndexFunc_int_a_X (cnOf f_gIndexFunc_int_a_LV) f_gIndexFunc_int_a_c (K0 TT f_gIndexFunc_int_a_rv) r
theorem f_gIndexFunc_int_a_ctx : CtxOK Tryd.prog f_gIndexFunc_int_a_X := ctx_of tab mix ⟨⟨Tryd.call78, f_iorder_1_sound⟩, trivial⟩
noncomputable def f_gIndexFunc_int_a_s2 (x0 : Int) (x1 : Int) (x2 : (List Int)) (x3 : Int) (x4 : (List (Int × Int))) : AS := ⟨[(0, .a (.sl 0)), (1, .a (.clo 78 [.ptr 1 [] (0), .ptr 2 [] (0)])), (7, .a (.v (.int .i64 x0))), (8, .a (.v (.int .i64 x1)))], [(0, some ⟨false, .arr (.one (.i .i64)) x2⟩), (1, some ⟨false, .box (.v (.int .u16 x3))⟩), (2, some ⟨false, .box (.sl 3)⟩), (3, some ⟨false, .arr (.st [(.i .i8), (.i .u16)]) x4⟩)], 4⟩
noncomputable def l_gIndexFunc_int_a (r : Int) : List A := [.v (.int .i64 r)]
theorem f_gIndexFunc_int_a_step2 (x0 : Int) (x1 : Int) (x2 : (List Int)) (x3 : Int) (x4 : (List (Int × Int))) (r : List A) (h : (cond (decide (x1 < x0)) (cond (inB x1 (List.length x2)) (Option.bind (s_iorder_1 (List.getD x2 (Int.toNat x1) 0) x3 x4) fun r1 => (cond r1 (some [.v (.int .i64 x1)]) (f_gIndexFunc_int_a_L r 2 (f_gIndexFunc_int_a_s2 x0 (IntKind.wrap .i64 (x1 + 1)) x2 x3 x4)))) none) (some [.v (.int .i64 (-1))])) = some r) : f_gIndexFunc_int_a_L r 2 (f_gIndexFunc_int_a_s2 x0 x1 x2 x3 x4) = some r :=
  step_of' h (by kernel_rfl)
noncomputable def f_gIndexFunc_int_a_n2 (x0 : Int) (x1 : Int) (x2 : (List Int)) (x3 : Int) (x4 : (List (Int × Int))) : Option ((Int × Int × (List Int) × Int × (List (Int × Int))) ⊕ Int) := (cond (decide (x1 < x0)) (cond (inB x1 (List.length x2)) (Option.bind (s_iorder_1 (List.getD x2 (Int.toNat x1) 0) x3 x4) fun r1 => (cond r1 (some (Sum.inr x1)) (some (Sum.inl (x0, (IntKind.wrap .i64 (x1 + 1)), x2, x3, x4))))) none) (some (Sum.inr (-1))))
noncomputable def f_gIndexFunc_int_a_run2 (x : (Int × Int × (List Int) × Int × (List (Int × Int)))) : Option Int := iter (fun x => f_gIndexFunc_int_a_n2 x.1 x.2.1 x.2.2.1 x.2.2.2.1 x.2.2.2.2) FU x
noncomputable def f_gIndexFunc_int_a_G2 (r : List A) (x : (Int × Int × (List Int) × Int × (List (Int × Int)))) : Prop := f_gIndexFunc_int_a_L r 2 (f_gIndexFunc_int_a_s2 x.1 x.2.1 x.2.2.1 x.2.2.2.1 x.2.2.2.2) = some r
noncomputable def f_gIndexFunc_int_a_S2 (r : List A) : Int → Prop := fun v => r = l_gIndexFunc_int_a v
theorem f_gIndexFunc_int_a_go2 (r : List A) : ∀ x, sem (f_gIndexFunc_int_a_S2 r) (f_gIndexFunc_int_a_run2 x) → f_gIndexFunc_int_a_G2 r x :=
  fun x => iter_sound (step := fun x => f_gIndexFunc_int_a_n2 x.1 x.2.1 x.2.2.1 x.2.2.2.1 x.2.2.2.2) (fun x h => by
    unfold f_gIndexFunc_int_a_n2 at h
    exact f_gIndexFunc_int_a_step2 x.1 x.2.1 x.2.2.1 x.2.2.2.1 x.2.2.2.2 r ((sem_cond h (fun h => (sem_cond h (fun h => (sem_bind h fun r1 h => (sem_cond h (fun h => sem_got h fun q => some_eq q) (fun h => sem_got h fun q => q)))) (fun h => sem_none h))) (fun h => sem_got h fun q => some_eq q)))) FU x
noncomputable def s_gIndexFunc_int_a (a0 : (List Int)) (a1 : Int) (a2 : (List (Int × Int))) : Option Int := (f_gIndexFunc_int_a_run2 (((List.length a0 : Nat) : Int), 0, a0, a1, a2))
theorem f_gIndexFunc_int_a_top (a0 : (List Int)) (a1 : Int) (a2 : (List (Int × Int))) (r : List A) : ev f_gIndexFunc_int_a_X (lpc (cnOf f_gIndexFunc_int_a_LV) (f_gIndexFunc_int_a_L r)) f_gIndexFunc_int_a_c (K0 TT f_gIndexFunc_int_a_rv) (enter [.lst (.one (.i .i64)) a0, .clo 78 [.ref (.v (.int .u16 a1)), .ref (.lst (.st [(.i .i8), (.i .u16)]) a2)]]) = (f_gIndexFunc_int_a_L r 2 (f_gIndexFunc_int_a_s2 ((List.length a0 : Nat) : Int) 0 a0 a1 a2)) := by kernel_rfl
theorem s_gIndexFunc_int_a_ok (a0 : (List Int)) (a1 : Int) (a2 : (List (Int × Int))) (v : Int) (h : s_gIndexFunc_int_a a0 a1 a2 = some v) : (f_gIndexFunc_int_a_L (l_gIndexFunc_int_a v) 2 (f_gIndexFunc_int_a_s2 ((List.length a0 : Nat) : Int) 0 a0 a1 a2)) = some (l_gIndexFunc_int_a v) := by
  unfold s_gIndexFunc_int_a at h
  have go : ∀ r, sem (fun v => r = l_gIndexFunc_int_a v) ((f_gIndexFunc_int_a_run2 (((List.length a0 : Nat) : Int), 0, a0, a1, a2))) → (f_gIndexFunc_int_a_L r 2 (f_gIndexFunc_int_a_s2 ((List.length a0 : Nat) : Int) 0 a0 a1 a2)) = some r := fun r h => f_gIndexFunc_int_a_go2 r _ h
  exact go (l_gIndexFunc_int_a v) ⟨v, h, rfl⟩
noncomputable def c_gIndexFunc_int_a : List A → ACall
  | [.lst (.one (.i .i64)) a0, .clo 78 [.ref (.v (.int .u16 a1)), .ref (.lst (.st [(.i .i8), (.i .u16)]) a2)]] => ⟨Int, s_gIndexFunc_int_a a0 a1 a2, fun r => .one (.v (.int .i64 r))⟩
  | _ => ACall.fail
theorem f_gIndexFunc_int_a_sound : Sound Tryd.prog 76 c_gIndexFunc_int_a := by
  refine sound_good f_gIndexFunc_int_a_ctx f_gIndexFunc_int_a_LV 2 Tryd.func76 (c := f_gIndexFunc_int_a_c) (by kernel_rfl) (rv := f_gIndexFunc_int_a_rv) (by kernel_rfl) (by kernel_rfl) (by kernel_rfl) (by kernel_rfl) fun rs => ?_
  unfold c_gIndexFunc_int_a
  split
  · rename_i a0 a1 a2; intro v h; exact ⟨rfl, l_gIndexFunc_int_a v, rfl, (f_gIndexFunc_int_a_top a0 a1 a2 _).trans (s_gIndexFunc_int_a_ok a0 a1 a2 v h)⟩
  · intro v h; cases h
def m_gIndexFunc_int_a : List A → Bool
  | [_, .clo 78 _] => true
  | _ => false

/-! ### function 61: loop.example/g01322/impl.order -/
noncomputable def f_iorder_c : Code := match Tryd.f61.body with | some c => c | none => .skip
noncomputable def f_iorder_X : Ctx := ⟨TT, phiOf [(76, c_gIndexFunc_int_a), (77, c_iindices)], noPsi, noXi⟩
def f_iorder_LV : List (Nat × Keep) := [(3, ([1, 3, 4, 8, 9], [], []))]
def f_iorder_rv : List ResultVar := [.tmp 2]
noncomputable def f_iorder_L (r : List A) : Nat → AS → Option (List A) := L f_iorder_X (cnOf f_iorder_LV) f_iorder_c (K0 TT f_iorder_rv) r
theorem f_iorder_ctx : CtxOK Tryd.prog f_iorder_X := ctx_of tab mix ⟨⟨Tryd.call76, f_gIndexFunc_int_a_sound⟩, ⟨Tryd.call77, f_iindices_sound⟩, trivial⟩
noncomputable def f_iorder_s3 (x0 : Int) (x1 : Int) (x2 : (List (Int × Int))) (x3 : (List Int)) (x4 : Int) : AS := ⟨[(1, .a (.ptr 0 [] (0))), (3, .a (.sl 2)), (4, .a (.ptr 3 [] (0))), (8, .a (.v (.int .i64 x0))), (9, .a (.v (.int .i64 x1)))], [(0, some ⟨true, .box (.sl 1)⟩), (1, some ⟨false, .arr (.st [(.i .i8), (.i .u16)]) x2⟩), (2, some ⟨true, .arr (.one (.i .i64)) x3⟩), (3, some ⟨true, .box (.v (.int .u16 x4))⟩)], 4⟩
noncomputable def l_iorder (r : (List Int)) : List A := [.lst (.one (.i .i64)) r]
theorem f_iorder_step3 (x0 : Int) (x1 : Int) (x2 : (List (Int × Int))) (x3 : (List Int)) (x4 : Int) (r : List A) (h : (cond (decide (x1 < x0)) (Option.bind (s_iindices x2) fun r1 => (Option.bind (s_gIndexFunc_int_a r1 x4 x2) fun r2 => (cond (decide (r2 < 0)) (some [.lst (.one (.i .i64)) x3]) (cond (fits ((List.length (x3 : List Int) + List.length ([r2] : List Int)) * 8)) (cond (decide (r2 < 0)) none (f_iorder_L r 3 (f_iorder_s3 x0 (IntKind.wrap .i64 (x1 + 1)) x2 (x3 ++ [r2]) (bOr .u16 x4 (bShl .u16 1 r2))))) none)))) (some [.lst (.one (.i .i64)) x3])) = some r) : f_iorder_L r 3 (f_iorder_s3 x0 x1 x2 x3 x4) = some r :=
  step_of' h (by kernel_rfl)
noncomputable def f_iorder_n3 (x0 : Int) (x1 : Int) (x2 : (List (Int × Int))) (x3 : (List Int)) (x4 : Int) : Option ((Int × Int × (List (Int × Int)) × (List Int) × Int) ⊕ (List Int)) := (cond (decide (x1 < x0)) (Option.bind (s_iindices x2) fun r1 => (Option.bind (s_gIndexFunc_int_a r1 x4 x2) fun r2 => (cond (decide (r2 < 0)) (some (Sum.inr x3)) (cond (fits ((List.length (x3 : List Int) + List.length ([r2] : List Int)) * 8)) (cond (decide (r2 < 0)) none (some (Sum.inl (x0, (IntKind.wrap .i64 (x1 + 1)), x2, (x3 ++ [r2]), (bOr .u16 x4 (bShl .u16 1 r2)))))) none)))) (some (Sum.inr x3)))
noncomputable def f_iorder_run3 (x : (Int × Int × (List (Int × Int)) × (List Int) × Int)) : Option (List Int) := iter (fun x => f_iorder_n3 x.1 x.2.1 x.2.2.1 x.2.2.2.1 x.2.2.2.2) FU x
noncomputable def f_iorder_G3 (r : List A) (x : (Int × Int × (List (Int × Int)) × (List Int) × Int)) : Prop := f_iorder_L r 3 (f_iorder_s3 x.1 x.2.1 x.2.2.1 x.2.2.2.1 x.2.2.2.2) = some r
noncomputable def f_iorder_S3 (r : List A) : (List Int) → Prop := fun v => r = l_iorder v
theorem f_iorder_go3 (r : List A) : ∀ x, sem (f_iorder_S3 r) (f_iorder_run3 x) → f_iorder_G3 r x :=
  fun x => iter_sound (step := fun x => f_iorder_n3 x.1 x.2.1 x.2.2.1 x.2.2.2.1 x.2.2.2.2) (fun x h => by
    unfold f_iorder_n3 at h
    exact f_iorder_step3 x.1 x.2.1 x.2.2.1 x.2.2.2.1 x.2.2.2.2 r ((sem_cond h (fun h => (sem_bind h fun r1 h => (sem_bind h fun r2 h => (sem_cond h (fun h => sem_got h fun q => some_eq q) (fun h => (sem_cond h (fun h => (sem_cond h (fun h => sem_none h) (fun h => sem_got h fun q => q))) (fun h => sem_none h))))))) (fun h => sem_got h fun q => some_eq q)))) FU x
noncomputable def s_iorder (a0 : (List (Int × Int))) : Option (List Int) := (f_iorder_run3 (((List.length a0 : Nat) : Int), 0, a0, [], 0))
theorem f_iorder_top (a0 : (List (Int × Int))) (r : List A) : ev f_iorder_X (lpc (cnOf f_iorder_LV) (f_iorder_L r)) f_iorder_c (K0 TT f_iorder_rv) (enter [.lst (.st [(.i .i8), (.i .u16)]) a0]) = (f_iorder_L r 3 (f_iorder_s3 ((List.length a0 : Nat) : Int) 0 a0 [] 0)) := by kernel_rfl
theorem s_iorder_ok (a0 : (List (Int × Int))) (v : (List Int)) (h : s_iorder a0 = some v) : (f_iorder_L (l_iorder v) 3 (f_iorder_s3 ((List.length a0 : Nat) : Int) 0 a0 [] 0)) = some (l_iorder v) := by
  unfold s_iorder at h
  have go : ∀ r, sem (fun v => r = l_iorder v) ((f_iorder_run3 (((List.length a0 : Nat) : Int), 0, a0, [], 0))) → (f_iorder_L r 3 (f_iorder_s3 ((List.length a0 : Nat) : Int) 0 a0 [] 0)) = some r := fun r h => f_iorder_go3 r _ h
  exact go (l_iorder v) ⟨v, h, rfl⟩
noncomputable def c_iorder : List A → ACall
  | [.lst (.st [(.i .i8), (.i .u16)]) a0] => ⟨(List Int), s_iorder a0, fun r => .one (.lst (.one (.i .i64)) r)⟩
  | _ => ACall.fail
theorem f_iorder_sound : Sound Tryd.prog 61 c_iorder := by
  refine sound_good f_iorder_ctx f_iorder_LV 1 Tryd.func61 (c := f_iorder_c) (by kernel_rfl) (rv := f_iorder_rv) (by kernel_rfl) (by kernel_rfl) (by kernel_rfl) (by kernel_rfl) fun rs => ?_
  unfold c_iorder
  split
  · rename_i a0; intro v h; exact ⟨rfl, l_iorder v, rfl, (f_iorder_top a0 _).trans (s_iorder_ok a0 v h)⟩
  · intro v h; cases h

/-! ### function 60: loop.example/g01322/impl.ValidJobs$1 -/
noncomputable def f_iValidJobs_1_c : Code := match Tryd.f60.body with | some c => c | none => .skip
noncomputable def f_iValidJobs_1_X : Ctx := ⟨TT, phiOf [(47, c_iwithin)], noPsi, noXi⟩
def f_iValidJobs_1_LV : List (Nat × Keep) := []
def f_iValidJobs_1_rv : List ResultVar := [.tmp 3]
noncomputable def f_iValidJobs_1_L (r : List A) : Nat → AS → Option (List A) := L f_iValidJobs_1_X (cnOf f_iValidJobs_1_LV) f_iValidJobs_1_c (K0 TT f_iValidJobs_1_rv) r
theorem f_iValidJobs_1_ctx : CtxOK Tryd.prog f_iValidJobs_1_X := ctx_of tab mix ⟨⟨Tryd.call47, f_iwithin_sound⟩, trivial⟩
noncomputable def s_iValidJobs_1 (a0 : Int) (a1 : Int) (a2 : Int) : Option Bool := (cond (!(s_iwithin (IntKind.wrap .i64 a0) 1 30)) (some true) (cond (decide (a2 < 0)) none (some ((bShr .u16 a1 a2) != 0))))
theorem f_iValidJobs_1_top (a0 : Int) (a1 : Int) (a2 : Int) (r : List A) : ev f_iValidJobs_1_X (lpc (cnOf f_iValidJobs_1_LV) (f_iValidJobs_1_L r)) f_iValidJobs_1_c (K0 TT f_iValidJobs_1_rv) (enter [.rc [.v (.int .i8 a0), .v (.int .u16 a1)], .ref (.v (.int .i64 a2))]) = (cond (!(s_iwithin (IntKind.wrap .i64 a0) 1 30)) (some [.v (.bool true)]) (cond (decide (a2 < 0)) none (some [.v (.bool ((bShr .u16 a1 a2) != 0))]))) := by kernel_rfl
noncomputable def l_iValidJobs_1 (r : Bool) : List A := [.v (.bool r)]
theorem s_iValidJobs_1_ok (a0 : Int) (a1 : Int) (a2 : Int) (v : Bool) (h : s_iValidJobs_1 a0 a1 a2 = some v) : (cond (!(s_iwithin (IntKind.wrap .i64 a0) 1 30)) (some [.v (.bool true)]) (cond (decide (a2 < 0)) none (some [.v (.bool ((bShr .u16 a1 a2) != 0))]))) = some (l_iValidJobs_1 v) := by
  have e : (cond (!(s_iwithin (IntKind.wrap .i64 a0) 1 30)) (some [.v (.bool true)]) (cond (decide (a2 < 0)) none (some [.v (.bool ((bShr .u16 a1 a2) != 0))]))) = Option.map l_iValidJobs_1 (s_iValidJobs_1 a0 a1 a2) := by
    unfold s_iValidJobs_1
    exact (cond_app (Option.map l_iValidJobs_1) rfl (cond_app (Option.map l_iValidJobs_1) rfl rfl))
  rw [e, h]; rfl
noncomputable def c_iValidJobs_1 : List A → ACall
  | [.rc [.v (.int .i8 a0), .v (.int .u16 a1)], .ref (.v (.int .i64 a2))] => ⟨Bool, s_iValidJobs_1 a0 a1 a2, fun r => .one (.v (.bool r))⟩
  | _ => ACall.fail
theorem f_iValidJobs_1_sound : Sound Tryd.prog 60 c_iValidJobs_1 := by
  refine sound_good f_iValidJobs_1_ctx f_iValidJobs_1_LV 2 Tryd.func60 (c := f_iValidJobs_1_c) (by kernel_rfl) (rv := f_iValidJobs_1_rv) (by kernel_rfl) (by kernel_rfl) (by kernel_rfl) (by kernel_rfl) fun rs => ?_
  unfold c_iValidJobs_1
  split
  · rename_i a0 a1 a2; intro v h; exact ⟨rfl, l_iValidJobs_1 v, rfl, (f_iValidJobs_1_top a0 a1 a2 _).trans (s_iValidJobs_1_ok a0 a1 a2 v h)⟩
  · intro v h; cases h

/-! ### function 75: slices.IndexFunc[[]loop.example/g01322/impl.Job,loop.example/g01322/impl.Job] -/
noncomputable def f_gIndexFunc_Job_a_c : Code := match Tryd.f75.body with | some c => c | none => .skip
noncomputable def f_gIndexFunc_Job_a_X : Ctx := ⟨TT, phiOf [(60, c_iValidJobs_1)], noPsi, noXi⟩
def f_gIndexFunc_Job_a_LV : List (Nat × Keep) := [(2, ([0, 1, 7, 8], [], []))]
def f_gIndexFunc_Job_a_rv : List ResultVar := [.tmp 4]
noncomputable def f_gIndexFunc_Job_a_L (r : List A) : Nat → AS → Option (List A) := L f_gIndexFunc_Job_a_X (cnOf f_gIndexFunc_Job_a_LV) f_gIndexFunc_Job_a_c (K0 TT f_gIndexFunc_Job_a_rv) r
theorem f_gIndexFunc_Job_a_ctx : CtxOK Tryd.prog f_gIndexFunc_Job_a_X := ctx_of tab mix ⟨⟨Tryd.call60, f_iValidJobs_1_sound⟩, trivial⟩
noncomputable def f_gIndexFunc_Job_a_s2 (x0 : Int) (x1 : Int) (x2 : (List (Int × Int))) (x3 : Int) : AS := ⟨[(0, .a (.sl 0)), (1, .a (.clo 60 [.ptr 1 [] (0)])), (7, .a (.v (.int .i64 x0))), (8, .a (.v (.int .i64 x1)))], [(0, some ⟨false, .arr (.st [(.i .i8), (.i .u16)]) x2⟩), (1, some ⟨false, .box (.v (.int .i64 x3))⟩)], 2⟩
noncomputable def l_gIndexFunc_Job_a (r : Int) : List A := [.v (.int .i64 r)]
theorem f_gIndexFunc_Job_a_step2 (x0 : Int) (x1 : Int) (x2 : (List (Int × Int))) (x3 : Int) (r : List A) (h : (cond (decide (x1 < x0)) (cond (inB x1 (List.length x2)) (Option.bind (s_iValidJobs_1 (List.getD x2 (Int.toNat x1) ((0, 0) : (Int × Int))).1 (List.getD x2 (Int.toNat x1) ((0, 0) : (Int × Int))).2 x3) fun r1 => (cond r1 (some [.v (.int .i64 x1)]) (f_gIndexFunc_Job_a_L r 2 (f_gIndexFunc_Job_a_s2 x0 (IntKind.wrap .i64 (x1 + 1)) x2 x3)))) none) (some [.v (.int .i64 (-1))])) = some r) : f_gIndexFunc_Job_a_L r 2 (f_gIndexFunc_Job_a_s2 x0 x1 x2 x3) = some r :=
  step_of' h (by kernel_rfl)
noncomputable def f_gIndexFunc_Job_a_n2 (x0 : Int) (x1 : Int) (x2 : (List (Int × Int))) (x3 : Int) : Option ((Int × Int × (List (Int × Int)) × Int) ⊕ Int) := (cond (decide (x1 < x0)) (cond (inB x1 (List.length x2)) (Option.bind (s_iValidJobs_1 (List.getD x2 (Int.toNat x1) ((0, 0) : (Int × Int))).1 (List.getD x2 (Int.toNat x1) ((0, 0) : (Int × Int))).2 x3) fun r1 => (cond r1 (some (Sum.inr x1)) (some (Sum.inl (x0, (IntKind.wrap .i64 (x1 + 1)), x2, x3))))) none) (some (Sum.inr (-1))))
noncomputable def f_gIndexFunc_Job_a_run2 (x : (Int × Int × (List (Int × Int)) × Int)) : Option Int := iter (fun x => f_gIndexFunc_Job_a_n2 x.1 x.2.1 x.2.2.1 x.2.2.2) FU x
noncomputable def f_gIndexFunc_Job_a_G2 (r : List A) (x : (Int × Int × (List (Int × Int)) × Int)) : Prop := f_gIndexFunc_Job_a_L r 2 (f_gIndexFunc_Job_a_s2 x.1 x.2.1 x.2.2.1 x.2.2.2) = some r
noncomputable def f_gIndexFunc_Job_a_S2 (r : List A) : Int → Prop := fun v => r = l_gIndexFunc_Job_a v
theorem f_gIndexFunc_Job_a_go2 (r : List A) : ∀ x, sem (f_gIndexFunc_Job_a_S2 r) (f_gIndexFunc_Job_a_run2 x) → f_gIndexFunc_Job_a_G2 r x :=
  fun x => iter_sound (step := fun x => f_gIndexFunc_Job_a_n2 x.1 x.2.1 x.2.2.1 x.2.2.2) (fun x h => by
    unfold f_gIndexFunc_Job_a_n2 at h
    exact f_gIndexFunc_Job_a_step2 x.1 x.2.1 x.2.2.1 x.2.2.2 r ((sem_cond h (fun h => (sem_cond h (fun h => (sem_bind h fun r1 h => (sem_cond h (fun h => sem_got h fun q => some_eq q) (fun h => sem_got h fun q => q)))) (fun h => sem_none h))) (fun h => sem_got h fun q => some_eq q)))) FU x
noncomputable def s_gIndexFunc_Job_a (a0 : (List (Int × Int))) (a1 : Int) : Option Int := (f_gIndexFunc_Job_a_run2 (((List.length a0 : Nat) : Int), 0, a0, a1))
theorem f_gIndexFunc_Job_a_top (a0 : (List (Int × Int))) (a1 : Int) (r : List A) : ev f_gIndexFunc_Job_a_X (lpc (cnOf f_gIndexFunc_Job_a_LV) (f_gIndexFunc_Job_a_L r)) f_gIndexFunc_Job_a_c (K0 TT f_gIndexFunc_Job_a_rv) (enter [.lst (.st [(.i .i8), (.i .u16)]) a0, .clo 60 [.ref (.v (.int .i64 a1))]]) = (f_gIndexFunc_Job_a_L r 2 (f_gIndexFunc_Job_a_s2 ((List.length a0 : Nat) : Int) 0 a0 a1)) := by kernel_rfl
theorem s_gIndexFunc_Job_a_ok (a0 : (List (Int × Int))) (a1 : Int) (v : Int) (h : s_gIndexFunc_Job_a a0 a1 = some v) : (f_gIndexFunc_Job_a_L (l_gIndexFunc_Job_a v) 2 (f_gIndexFunc_Job_a_s2 ((List.length a0 : Nat) : Int) 0 a0 a1)) = some (l_gIndexFunc_Job_a v) := by
  unfold s_gIndexFunc_Job_a at h
  have go : ∀ r, sem (fun v => r = l_gIndexFunc_Job_a v) ((f_gIndexFunc_Job_a_run2 (((List.length a0 : Nat) : Int), 0, a0, a1))) → (f_gIndexFunc_Job_a_L r 2 (f_gIndexFunc_Job_a_s2 ((List.length a0 : Nat) : Int) 0 a0 a1)) = some r := fun r h => f_gIndexFunc_Job_a_go2 r _ h
  exact go (l_gIndexFunc_Job_a v) ⟨v, h, rfl⟩
noncomputable def c_gIndexFunc_Job_a : List A → ACall
  | [.lst (.st [(.i .i8), (.i .u16)]) a0, .clo 60 [.ref (.v (.int .i64 a1))]] => ⟨Int, s_gIndexFunc_Job_a a0 a1, fun r => .one (.v (.int .i64 r))⟩
  | _ => ACall.fail
theorem f_gIndexFunc_Job_a_sound : Sound Tryd.prog 75 c_gIndexFunc_Job_a := by
  refine sound_good f_gIndexFunc_Job_a_ctx f_gIndexFunc_Job_a_LV 2 Tryd.func75 (c := f_gIndexFunc_Job_a_c) (by kernel_rfl) (rv := f_gIndexFunc_Job_a_rv) (by kernel_rfl) (by kernel_rfl) (by kernel_rfl) (by kernel_rfl) fun rs => ?_
  unfold c_gIndexFunc_Job_a
  split
  · rename_i a0 a1; intro v h; exact ⟨rfl, l_gIndexFunc_Job_a v, rfl, (f_gIndexFunc_Job_a_top a0 a1 _).trans (s_gIndexFunc_Job_a_ok a0 a1 v h)⟩
  · intro v h; cases h
def m_gIndexFunc_Job_a : List A → Bool
  | [_, .clo 60 _] => true
  | _ => false

/-! ### function 59: slices.ContainsFunc[[]loop.example/g01322/impl.Job,loop.example/g01322/impl.Job] -/
noncomputable def f_gContainsFunc_Job_a_c : Code := match Tryd.f59.body with | some c => c | none => .skip
noncomputable def f_gContainsFunc_Job_a_X : Ctx := ⟨TT, phiOf [(75, c_gIndexFunc_Job_a)], noPsi, noXi⟩
def f_gContainsFunc_Job_a_LV : List (Nat × Keep) := []
def f_gContainsFunc_Job_a_rv : List ResultVar := [.tmp 4]
noncomputable def f_gContainsFunc_Job_a_L (r : List A) : Nat → AS → Option (List A) := L f_gContainsFunc_Job_a_X (cnOf f_gContainsFunc_Job_a_LV) f_gContainsFunc_Job_a_c (K0 TT f_gContainsFunc_Job_a_rv) r
theorem f_gContainsFunc_Job_a_ctx : CtxOK Tryd.prog f_gContainsFunc_Job_a_X := ctx_of tab mix ⟨⟨Tryd.call75, f_gIndexFunc_Job_a_sound⟩, trivial⟩
noncomputable def s_gContainsFunc_Job_a (a0 : (List (Int × Int))) (a1 : Int) : Option Bool := (Option.bind (s_gIndexFunc_Job_a a0 a1) fun r1 => (some (decide (r1 ≥ 0))))
theorem f_gContainsFunc_Job_a_top (a0 : (List (Int × Int))) (a1 : Int) (r : List A) : ev f_gContainsFunc_Job_a_X (lpc (cnOf f_gContainsFunc_Job_a_LV) (f_gContainsFunc_Job_a_L r)) f_gContainsFunc_Job_a_c (K0 TT f_gContainsFunc_Job_a_rv) (enter [.lst (.st [(.i .i8), (.i .u16)]) a0, .clo 60 [.ref (.v (.int .i64 a1))]]) = (Option.bind (s_gIndexFunc_Job_a a0 a1) fun r1 => (some [.v (.bool (decide (r1 ≥ 0)))])) := by kernel_rfl
noncomputable def l_gContainsFunc_Job_a (r : Bool) : List A := [.v (.bool r)]
theorem s_gContainsFunc_Job_a_ok (a0 : (List (Int × Int))) (a1 : Int) (v : Bool) (h : s_gContainsFunc_Job_a a0 a1 = some v) : (Option.bind (s_gIndexFunc_Job_a a0 a1) fun r1 => (some [.v (.bool (decide (r1 ≥ 0)))])) = some (l_gContainsFunc_Job_a v) := by
  have e : (Option.bind (s_gIndexFunc_Job_a a0 a1) fun r1 => (some [.v (.bool (decide (r1 ≥ 0)))])) = Option.map l_gContainsFunc_Job_a (s_gContainsFunc_Job_a a0 a1) := by
    unfold s_gContainsFunc_Job_a
    exact (bind_app fun _ => rfl)
  rw [e, h]; rfl
noncomputable def c_gContainsFunc_Job_a : List A → ACall
  | [.lst (.st [(.i .i8), (.i .u16)]) a0, .clo 60 [.ref (.v (.int .i64 a1))]] => ⟨Bool, s_gContainsFunc_Job_a a0 a1, fun r => .one (.v (.bool r))⟩
  | _ => ACall.fail
theorem f_gContainsFunc_Job_a_sound : Sound Tryd.prog 59 c_gContainsFunc_Job_a := by
  refine sound_good f_gContainsFunc_Job_a_ctx f_gContainsFunc_Job_a_LV 2 Tryd.func59 (c := f_gContainsFunc_Job_a_c) (by kernel_rfl) (rv := f_gContainsFunc_Job_a_rv) (by kernel_rfl) (by kernel_rfl) (by kernel_rfl) (by kernel_rfl) fun rs => ?_
  unfold c_gContainsFunc_Job_a
  split
  · rename_i a0 a1; intro v h; exact ⟨rfl, l_gContainsFunc_Job_a v, rfl, (f_gContainsFunc_Job_a_top a0 a1 _).trans (s_gContainsFunc_Job_a_ok a0 a1 v h)⟩
  · intro v h; cases h
def m_gContainsFunc_Job_a : List A → Bool
  | [_, .clo 60 _] => true
  | _ => false

/-! ### function 39: loop.example/g01322/impl.ValidJobs -/
noncomputable def f_iValidJobs_c : Code := match Tryd.f39.body with | some c => c | none => .skip
noncomputable def f_iValidJobs_X : Ctx := ⟨TT, phiOf [(59, c_gContainsFunc_Job_a), (61, c_iorder)], noPsi, noXi⟩
def f_iValidJobs_LV : List (Nat × Keep) := []
def f_iValidJobs_rv : List ResultVar := [.tmp 2]
noncomputable def f_iValidJobs_L (r : List A) : Nat → AS → Option (List A) := L f_iValidJobs_X (cnOf f_iValidJobs_LV) f_iValidJobs_c (K0 TT f_iValidJobs_rv) r
theorem f_iValidJobs_ctx : CtxOK Tryd.prog f_iValidJobs_X := ctx_of tab mix ⟨⟨Tryd.call59, f_gContainsFunc_Job_a_sound⟩, ⟨Tryd.call61, f_iorder_sound⟩, trivial⟩
noncomputable def s_iValidJobs (a0 : (List (Int × Int))) : Option Bool := (cond (decide (((List.length a0 : Nat) : Int) ≤ 12)) (Option.bind (s_gContainsFunc_Job_a a0 ((List.length a0 : Nat) : Int)) fun r1 => (cond (!r1) (Option.bind (s_iorder a0) fun r2 => (some (((List.length r2 : Nat) : Int) == ((List.length a0 : Nat) : Int)))) (some false))) (some false))
theorem f_iValidJobs_top (a0 : (List (Int × Int))) (r : List A) : ev f_iValidJobs_X (lpc (cnOf f_iValidJobs_LV) (f_iValidJobs_L r)) f_iValidJobs_c (K0 TT f_iValidJobs_rv) (enter [.lst (.st [(.i .i8), (.i .u16)]) a0]) = (cond (decide (((List.length a0 : Nat) : Int) ≤ 12)) (Option.bind (s_gContainsFunc_Job_a a0 ((List.length a0 : Nat) : Int)) fun r1 => (cond (!r1) (Option.bind (s_iorder a0) fun r2 => (some [.v (.bool (((List.length r2 : Nat) : Int) == ((List.length a0 : Nat) : Int)))])) (some [.v (.bool false)]))) (some [.v (.bool false)])) := by kernel_rfl
noncomputable def l_iValidJobs (r : Bool) : List A := [.v (.bool r)]
theorem s_iValidJobs_ok (a0 : (List (Int × Int))) (v : Bool) (h : s_iValidJobs a0 = some v) : (cond (decide (((List.length a0 : Nat) : Int) ≤ 12)) (Option.bind (s_gContainsFunc_Job_a a0 ((List.length a0 : Nat) : Int)) fun r1 => (cond (!r1) (Option.bind (s_iorder a0) fun r2 => (some [.v (.bool (((List.length r2 : Nat) : Int) == ((List.length a0 : Nat) : Int)))])) (some [.v (.bool false)]))) (some [.v (.bool false)])) = some (l_iValidJobs v) := by
  have e : (cond (decide (((List.length a0 : Nat) : Int) ≤ 12)) (Option.bind (s_gContainsFunc_Job_a a0 ((List.length a0 : Nat) : Int)) fun r1 => (cond (!r1) (Option.bind (s_iorder a0) fun r2 => (some [.v (.bool (((List.length r2 : Nat) : Int) == ((List.length a0 : Nat) : Int)))])) (some [.v (.bool false)]))) (some [.v (.bool false)])) = Option.map l_iValidJobs (s_iValidJobs a0) := by
    unfold s_iValidJobs
    exact (cond_app (Option.map l_iValidJobs) (bind_app fun _ => (cond_app (Option.map l_iValidJobs) (bind_app fun _ => rfl) rfl)) rfl)
  rw [e, h]; rfl
noncomputable def c_iValidJobs : List A → ACall
  | [.lst (.st [(.i .i8), (.i .u16)]) a0] => ⟨Bool, s_iValidJobs a0, fun r => .one (.v (.bool r))⟩
  | _ => ACall.fail
theorem f_iValidJobs_sound : Sound Tryd.prog 39 c_iValidJobs := by
  refine sound_good f_iValidJobs_ctx f_iValidJobs_LV 1 Tryd.func39 (c := f_iValidJobs_c) (by kernel_rfl) (rv := f_iValidJobs_rv) (by kernel_rfl) (by kernel_rfl) (by kernel_rfl) (by kernel_rfl) fun rs => ?_
  unfold c_iValidJobs
  split
  · rename_i a0; intro v h; exact ⟨rfl, l_iValidJobs v, rfl, (f_iValidJobs_top a0 _).trans (s_iValidJobs_ok a0 v h)⟩
  · intro v h; cases h

/-! ### function 30: loop.example/g01322/impl.decimal -/
noncomputable def f_idecimal_c : Code := match Tryd.f30.body with | some c => c | none => .skip
noncomputable def f_idecimal_X : Ctx := ⟨TT, phiOf [(50, c_strconvFormatInt)], noPsi, noXi⟩
def f_idecimal_LV : List (Nat × Keep) := []
def f_idecimal_rv : List ResultVar := [.tmp 2]
noncomputable def f_idecimal_L (r : List A) : Nat → AS → Option (List A) := L f_idecimal_X (cnOf f_idecimal_LV) f_idecimal_c (K0 TT f_idecimal_rv) r
theorem f_idecimal_ctx : CtxOK Tryd.prog f_idecimal_X := ctx_of tab mix ⟨⟨Tryd.call50, f_strconvFormatInt_sound⟩, trivial⟩
noncomputable def s_idecimal (a0 : Int) : Option ByteArray := (Option.bind (s_strconvFormatInt a0 10) fun r1 => (some r1))
theorem f_idecimal_top (a0 : Int) (r : List A) : ev f_idecimal_X (lpc (cnOf f_idecimal_LV) (f_idecimal_L r)) f_idecimal_c (K0 TT f_idecimal_rv) (enter [.v (.int .i64 a0)]) = (Option.bind (s_strconvFormatInt a0 10) fun r1 => (some [.v (.string r1)])) := by kernel_rfl
noncomputable def l_idecimal (r : ByteArray) : List A := [.v (.string r)]
theorem s_idecimal_ok (a0 : Int) (v : ByteArray) (h : s_idecimal a0 = some v) : (Option.bind (s_strconvFormatInt a0 10) fun r1 => (some [.v (.string r1)])) = some (l_idecimal v) := by
  have e : (Option.bind (s_strconvFormatInt a0 10) fun r1 => (some [.v (.string r1)])) = Option.map l_idecimal (s_idecimal a0) := by
    unfold s_idecimal
    exact (bind_app fun _ => rfl)
  rw [e, h]; rfl
noncomputable def c_idecimal : List A → ACall
  | [.v (.int .i64 a0)] => ⟨ByteArray, s_idecimal a0, fun r => .one (.v (.string r))⟩
  | _ => ACall.fail
theorem f_idecimal_sound : Sound Tryd.prog 30 c_idecimal := by
  refine sound_good f_idecimal_ctx f_idecimal_LV 1 Tryd.func30 (c := f_idecimal_c) (by kernel_rfl) (rv := f_idecimal_rv) (by kernel_rfl) (by kernel_rfl) (by kernel_rfl) (by kernel_rfl) fun rs => ?_
  unfold c_idecimal
  split
  · rename_i a0; intro v h; exact ⟨rfl, l_idecimal v, rfl, (f_idecimal_top a0 _).trans (s_idecimal_ok a0 v h)⟩
  · intro v h; cases h

/-! ### function 40: (loop.example/g01322/impl.Job).waits -/
noncomputable def f_iJob_waits_c : Code := match Tryd.f40.body with | some c => c | none => .skip
noncomputable def f_iJob_waits_X : Ctx := ⟨TT, phiOf [], noPsi, noXi⟩
def f_iJob_waits_LV : List (Nat × Keep) := []
def f_iJob_waits_rv : List ResultVar := [.tmp 4]
noncomputable def f_iJob_waits_L (r : List A) : Nat → AS → Option (List A) := L f_iJob_waits_X (cnOf f_iJob_waits_LV) f_iJob_waits_c (K0 TT f_iJob_waits_rv) r
theorem f_iJob_waits_ctx : CtxOK Tryd.prog f_iJob_waits_X := ctx_of tab mix trivial
noncomputable def s_iJob_waits (a0 : Int) (a1 : Int) (a2 : Int) : Option Bool := (cond (decide (a2 < 0)) none (some ((bAnd .u16 (bShr .u16 a1 a2) 1) == 1)))
theorem f_iJob_waits_top (a0 : Int) (a1 : Int) (a2 : Int) (r : List A) : ev f_iJob_waits_X (lpc (cnOf f_iJob_waits_LV) (f_iJob_waits_L r)) f_iJob_waits_c (K0 TT f_iJob_waits_rv) (enter [.rc [.v (.int .i8 a0), .v (.int .u16 a1)], .v (.int .i64 a2)]) = (cond (decide (a2 < 0)) none (some [.v (.bool ((bAnd .u16 (bShr .u16 a1 a2) 1) == 1))])) := by kernel_rfl
noncomputable def l_iJob_waits (r : Bool) : List A := [.v (.bool r)]
theorem s_iJob_waits_ok (a0 : Int) (a1 : Int) (a2 : Int) (v : Bool) (h : s_iJob_waits a0 a1 a2 = some v) : (cond (decide (a2 < 0)) none (some [.v (.bool ((bAnd .u16 (bShr .u16 a1 a2) 1) == 1))])) = some (l_iJob_waits v) := by
  have e : (cond (decide (a2 < 0)) none (some [.v (.bool ((bAnd .u16 (bShr .u16 a1 a2) 1) == 1))])) = Option.map l_iJob_waits (s_iJob_waits a0 a1 a2) := by
    unfold s_iJob_waits
    exact (cond_app (Option.map l_iJob_waits) rfl rfl)
  rw [e, h]; rfl
noncomputable def c_iJob_waits : List A → ACall
  | [.rc [.v (.int .i8 a0), .v (.int .u16 a1)], .v (.int .i64 a2)] => ⟨Bool, s_iJob_waits a0 a1 a2, fun r => .one (.v (.bool r))⟩
  | _ => ACall.fail
theorem f_iJob_waits_sound : Sound Tryd.prog 40 c_iJob_waits := by
  refine sound_good f_iJob_waits_ctx f_iJob_waits_LV 2 Tryd.func40 (c := f_iJob_waits_c) (by kernel_rfl) (rv := f_iJob_waits_rv) (by kernel_rfl) (by kernel_rfl) (by kernel_rfl) (by kernel_rfl) fun rs => ?_
  unfold c_iJob_waits
  split
  · rename_i a0 a1 a2; intro v h; exact ⟨rfl, l_iJob_waits v, rfl, (f_iJob_waits_top a0 a1 a2 _).trans (s_iJob_waits_ok a0 a1 a2 v h)⟩
  · intro v h; cases h

/-! ### function 23: loop.example/g01322/impl.JobsText -/
noncomputable def f_iJobsText_c : Code := match Tryd.f23.body with | some c => c | none => .skip
noncomputable def f_iJobsText_X : Ctx := ⟨TT, phiOf [(30, c_idecimal), (31, c_stringsJoin), (39, c_iValidJobs), (40, c_iJob_waits)], noPsi, noXi⟩
def f_iJobsText_LV : List (Nat × Keep) := [(5, ([0, 3, 12, 13, 14], [], [])), (9, ([0, 3, 5, 6, 12, 13, 14, 23, 24], [], []))]
def f_iJobsText_rv : List ResultVar := [.tmp 2]
noncomputable def f_iJobsText_L (r : List A) : Nat → AS → Option (List A) := L f_iJobsText_X (cnOf f_iJobsText_LV) f_iJobsText_c (K0 TT f_iJobsText_rv) r
theorem f_iJobsText_ctx : CtxOK Tryd.prog f_iJobsText_X := ctx_of tab mix ⟨⟨Tryd.call30, f_idecimal_sound⟩, ⟨Tryd.call31, f_stringsJoin_sound⟩, ⟨Tryd.call39, f_iValidJobs_sound⟩, ⟨Tryd.call40, f_iJob_waits_sound⟩, trivial⟩
noncomputable def f_iJobsText_s5 (x0 : Int) (x1 : Int) (x2 : (List (Int × Int))) (x3 : (List ByteArray)) : AS := ⟨[(0, .a (.sl 0)), (3, .a (.sl 1)), (12, .a (.sl 0)), (13, .a (.v (.int .i64 x0))), (14, .a (.v (.int .i64 x1)))], [(0, some ⟨false, .arr (.st [(.i .i8), (.i .u16)]) x2⟩), (1, some ⟨true, .arr (.one .s) x3⟩)], 2⟩
noncomputable def f_iJobsText_s9 (x0 : ByteArray) (x1 : Int) (x2 : Int) (x3 : Int) (x4 : Int) (x5 : (List (Int × Int))) (x6 : (List ByteArray)) (x7 : Int) (x8 : Int) : AS := ⟨[(0, .a (.sl 0)), (3, .a (.sl 1)), (5, .a (.ptr 2 [] (0))), (6, .a (.v (.string x0))), (12, .a (.sl 0)), (13, .a (.v (.int .i64 x1))), (14, .a (.v (.int .i64 x2))), (23, .a (.v (.int .i64 x3))), (24, .a (.v (.int .i64 x4)))], [(0, some ⟨false, .arr (.st [(.i .i8), (.i .u16)]) x5⟩), (1, some ⟨true, .arr (.one .s) x6⟩), (2, some ⟨true, .box (.rc [.v (.int .i8 x7), .v (.int .u16 x8)])⟩)], 3⟩
noncomputable def l_iJobsText (r : ByteArray) : List A := [.v (.string r)]
theorem f_iJobsText_step9 (x0 : ByteArray) (x1 : Int) (x2 : Int) (x3 : Int) (x4 : Int) (x5 : (List (Int × Int))) (x6 : (List ByteArray)) (x7 : Int) (x8 : Int) (r : List A) (h : (cond (decide (x4 < x3)) (Option.bind (s_iJob_waits x7 x8 x4) fun r4 => (cond r4 (Option.bind (s_idecimal x4) fun r5 => (cond (fits ((⟨#[44]⟩ : ByteArray).size + r5.size)) (cond (fits (x0.size + ((⟨#[44]⟩ : ByteArray) ++ r5).size)) (f_iJobsText_L r 9 (f_iJobsText_s9 (x0 ++ ((⟨#[44]⟩ : ByteArray) ++ r5)) x1 x2 x3 (IntKind.wrap .i64 (x4 + 1)) x5 x6 x7 x8)) none) none)) (f_iJobsText_L r 9 (f_iJobsText_s9 x0 x1 x2 x3 (IntKind.wrap .i64 (x4 + 1)) x5 x6 x7 x8)))) (cond (fits ((List.length (x6 : List ByteArray) + List.length ([x0] : List ByteArray)) * 16)) (f_iJobsText_L r 5 (f_iJobsText_s5 x1 (IntKind.wrap .i64 (x2 + 1)) x5 (x6 ++ [x0]))) none)) = some r) : f_iJobsText_L r 9 (f_iJobsText_s9 x0 x1 x2 x3 x4 x5 x6 x7 x8) = some r :=
  step_of' h (by kernel_rfl)
noncomputable def f_iJobsText_n9 (x0 : ByteArray) (x1 : Int) (x2 : Int) (x3 : Int) (x4 : Int) (x5 : (List (Int × Int))) (x6 : (List ByteArray)) (x7 : Int) (x8 : Int) : Option ((ByteArray × Int × Int × Int × Int × (List (Int × Int)) × (List ByteArray) × Int × Int) ⊕ ((Int × Int × (List (Int × Int)) × (List ByteArray)) ⊕ ByteArray)) := (cond (decide (x4 < x3)) (Option.bind (s_iJob_waits x7 x8 x4) fun r4 => (cond r4 (Option.bind (s_idecimal x4) fun r5 => (cond (fits ((⟨#[44]⟩ : ByteArray).size + r5.size)) (cond (fits (x0.size + ((⟨#[44]⟩ : ByteArray) ++ r5).size)) (some (Sum.inl ((x0 ++ ((⟨#[44]⟩ : ByteArray) ++ r5)), x1, x2, x3, (IntKind.wrap .i64 (x4 + 1)), x5, x6, x7, x8))) none) none)) (some (Sum.inl (x0, x1, x2, x3, (IntKind.wrap .i64 (x4 + 1)), x5, x6, x7, x8))))) (cond (fits ((List.length (x6 : List ByteArray) + List.length ([x0] : List ByteArray)) * 16)) (some (Sum.inr (Sum.inl (x1, (IntKind.wrap .i64 (x2 + 1)), x5, (x6 ++ [x0]))))) none))
noncomputable def f_iJobsText_run9 (x : (ByteArray × Int × Int × Int × Int × (List (Int × Int)) × (List ByteArray) × Int × Int)) : Option ((Int × Int × (List (Int × Int)) × (List ByteArray)) ⊕ ByteArray) := iter (fun x => f_iJobsText_n9 x.1 x.2.1 x.2.2.1 x.2.2.2.1 x.2.2.2.2.1 x.2.2.2.2.2.1 x.2.2.2.2.2.2.1 x.2.2.2.2.2.2.2.1 x.2.2.2.2.2.2.2.2) FU x
noncomputable def f_iJobsText_G9 (r : List A) (x : (ByteArray × Int × Int × Int × Int × (List (Int × Int)) × (List ByteArray) × Int × Int)) : Prop := f_iJobsText_L r 9 (f_iJobsText_s9 x.1 x.2.1 x.2.2.1 x.2.2.2.1 x.2.2.2.2.1 x.2.2.2.2.2.1 x.2.2.2.2.2.2.1 x.2.2.2.2.2.2.2.1 x.2.2.2.2.2.2.2.2) = some r
theorem f_iJobsText_step5 (x0 : Int) (x1 : Int) (x2 : (List (Int × Int))) (x3 : (List ByteArray)) (r : List A) (h : (cond (decide (x1 < x0)) (cond (inB x1 (List.length x2)) (Option.bind (s_idecimal (IntKind.wrap .i64 (List.getD x2 (Int.toNat x1) ((0, 0) : (Int × Int))).1)) fun r2 => (f_iJobsText_L r 9 (f_iJobsText_s9 r2 x0 x1 ((List.length x2 : Nat) : Int) 0 x2 x3 (List.getD x2 (Int.toNat x1) ((0, 0) : (Int × Int))).1 (List.getD x2 (Int.toNat x1) ((0, 0) : (Int × Int))).2))) none) (Option.bind (s_stringsJoin x3 (⟨#[32]⟩ : ByteArray)) fun r3 => (some [.v (.string r3)]))) = some r) : f_iJobsText_L r 5 (f_iJobsText_s5 x0 x1 x2 x3) = some r :=
  step_of' h (by kernel_rfl)
noncomputable def f_iJobsText_n5 (x0 : Int) (x1 : Int) (x2 : (List (Int × Int))) (x3 : (List ByteArray)) : Option ((Int × Int × (List (Int × Int)) × (List ByteArray)) ⊕ ByteArray) := (cond (decide (x1 < x0)) (cond (inB x1 (List.length x2)) (Option.bind (s_idecimal (IntKind.wrap .i64 (List.getD x2 (Int.toNat x1) ((0, 0) : (Int × Int))).1)) fun r2 => (f_iJobsText_run9 (r2, x0, x1, ((List.length x2 : Nat) : Int), 0, x2, x3, (List.getD x2 (Int.toNat x1) ((0, 0) : (Int × Int))).1, (List.getD x2 (Int.toNat x1) ((0, 0) : (Int × Int))).2))) none) (Option.bind (s_stringsJoin x3 (⟨#[32]⟩ : ByteArray)) fun r3 => (some (Sum.inr r3))))
noncomputable def f_iJobsText_run5 (x : (Int × Int × (List (Int × Int)) × (List ByteArray))) : Option ByteArray := iter (fun x => f_iJobsText_n5 x.1 x.2.1 x.2.2.1 x.2.2.2) FU x
noncomputable def f_iJobsText_G5 (r : List A) (x : (Int × Int × (List (Int × Int)) × (List ByteArray))) : Prop := f_iJobsText_L r 5 (f_iJobsText_s5 x.1 x.2.1 x.2.2.1 x.2.2.2) = some r
noncomputable def f_iJobsText_S5 (r : List A) : ByteArray → Prop := fun v => r = l_iJobsText v
noncomputable def f_iJobsText_S9 (r : List A) : ((Int × Int × (List (Int × Int)) × (List ByteArray)) ⊕ ByteArray) → Prop := goesOn (f_iJobsText_G5 r) (f_iJobsText_S5 r)
theorem f_iJobsText_go9 (r : List A) : ∀ x, sem (f_iJobsText_S9 r) (f_iJobsText_run9 x) → f_iJobsText_G9 r x :=
  fun x => iter_sound (step := fun x => f_iJobsText_n9 x.1 x.2.1 x.2.2.1 x.2.2.2.1 x.2.2.2.2.1 x.2.2.2.2.2.1 x.2.2.2.2.2.2.1 x.2.2.2.2.2.2.2.1 x.2.2.2.2.2.2.2.2) (fun x h => by
    unfold f_iJobsText_n9 at h
    exact f_iJobsText_step9 x.1 x.2.1 x.2.2.1 x.2.2.2.1 x.2.2.2.2.1 x.2.2.2.2.2.1 x.2.2.2.2.2.2.1 x.2.2.2.2.2.2.2.1 x.2.2.2.2.2.2.2.2 r ((sem_cond h (fun h => (sem_bind h fun r4 h => (sem_cond h (fun h => (sem_bind h fun r5 h => (sem_cond h (fun h => (sem_cond h (fun h => sem_got h fun q => q) (fun h => sem_none h))) (fun h => sem_none h)))) (fun h => sem_got h fun q => q)))) (fun h => (sem_cond h (fun h => sem_got h fun q => q) (fun h => sem_none h)))))) FU x
theorem f_iJobsText_go5 (r : List A) : ∀ x, sem (f_iJobsText_S5 r) (f_iJobsText_run5 x) → f_iJobsText_G5 r x :=
  fun x => iter_sound (step := fun x => f_iJobsText_n5 x.1 x.2.1 x.2.2.1 x.2.2.2) (fun x h => by
    unfold f_iJobsText_n5 at h
    exact f_iJobsText_step5 x.1 x.2.1 x.2.2.1 x.2.2.2 r ((sem_cond h (fun h => (sem_cond h (fun h => (sem_bind h fun r2 h => f_iJobsText_go9 r _ h)) (fun h => sem_none h))) (fun h => (sem_bind h fun r3 h => sem_got h fun q => some_eq q))))) FU x
noncomputable def s_iJobsText (a0 : (List (Int × Int))) : Option ByteArray := (Option.bind (s_iValidJobs a0) fun r1 => (cond (!r1) (some (⟨#[]⟩ : ByteArray)) (f_iJobsText_run5 (((List.length a0 : Nat) : Int), 0, a0, []))))
theorem f_iJobsText_top (a0 : (List (Int × Int))) (r : List A) : ev f_iJobsText_X (lpc (cnOf f_iJobsText_LV) (f_iJobsText_L r)) f_iJobsText_c (K0 TT f_iJobsText_rv) (enter [.lst (.st [(.i .i8), (.i .u16)]) a0]) = (Option.bind (s_iValidJobs a0) fun r1 => (cond (!r1) (some [.v (.string (⟨#[]⟩ : ByteArray))]) (f_iJobsText_L r 5 (f_iJobsText_s5 ((List.length a0 : Nat) : Int) 0 a0 [])))) := by kernel_rfl
theorem s_iJobsText_ok (a0 : (List (Int × Int))) (v : ByteArray) (h : s_iJobsText a0 = some v) : (Option.bind (s_iValidJobs a0) fun r1 => (cond (!r1) (some [.v (.string (⟨#[]⟩ : ByteArray))]) (f_iJobsText_L (l_iJobsText v) 5 (f_iJobsText_s5 ((List.length a0 : Nat) : Int) 0 a0 [])))) = some (l_iJobsText v) := by
  unfold s_iJobsText at h
  have go : ∀ r, sem (fun v => r = l_iJobsText v) ((Option.bind (s_iValidJobs a0) fun r1 => (cond (!r1) (some (⟨#[]⟩ : ByteArray)) (f_iJobsText_run5 (((List.length a0 : Nat) : Int), 0, a0, []))))) → (Option.bind (s_iValidJobs a0) fun r1 => (cond (!r1) (some [.v (.string (⟨#[]⟩ : ByteArray))]) (f_iJobsText_L r 5 (f_iJobsText_s5 ((List.length a0 : Nat) : Int) 0 a0 [])))) = some r := fun r h => (sem_bind h fun r1 h => (sem_cond h (fun h => sem_got h fun q => some_eq q) (fun h => f_iJobsText_go5 r _ h)))
  exact go (l_iJobsText v) ⟨v, h, rfl⟩
noncomputable def c_iJobsText : List A → ACall
  | [.lst (.st [(.i .i8), (.i .u16)]) a0] => ⟨ByteArray, s_iJobsText a0, fun r => .one (.v (.string r))⟩
  | _ => ACall.fail
theorem f_iJobsText_sound : Sound Tryd.prog 23 c_iJobsText := by
  refine sound_good f_iJobsText_ctx f_iJobsText_LV 1 Tryd.func23 (c := f_iJobsText_c) (by kernel_rfl) (rv := f_iJobsText_rv) (by kernel_rfl) (by kernel_rfl) (by kernel_rfl) (by kernel_rfl) fun rs => ?_
  unfold c_iJobsText
  split
  · rename_i a0; intro v h; exact ⟨rfl, l_iJobsText v, rfl, (f_iJobsText_top a0 _).trans (s_iJobsText_ok a0 v h)⟩
  · intro v h; cases h

/-! ### function 41: loop.example/g01322/laws.eqJob -/
noncomputable def f_weqJob_c : Code := match Tryd.f41.body with | some c => c | none => .skip
noncomputable def f_weqJob_X : Ctx := ⟨TT, phiOf [], noPsi, noXi⟩
def f_weqJob_LV : List (Nat × Keep) := []
def f_weqJob_rv : List ResultVar := [.tmp 4]
noncomputable def f_weqJob_L (r : List A) : Nat → AS → Option (List A) := L f_weqJob_X (cnOf f_weqJob_LV) f_weqJob_c (K0 TT f_weqJob_rv) r
theorem f_weqJob_ctx : CtxOK Tryd.prog f_weqJob_X := ctx_of tab mix trivial
noncomputable def s_weqJob (a0 : Int) (a1 : Int) (a2 : Int) (a3 : Int) : Bool := (cond (a0 != a2) false (cond (a1 != a3) false true))
theorem f_weqJob_top (a0 : Int) (a1 : Int) (a2 : Int) (a3 : Int) (r : List A) : ev f_weqJob_X (lpc (cnOf f_weqJob_LV) (f_weqJob_L r)) f_weqJob_c (K0 TT f_weqJob_rv) (enter [.rc [.v (.int .i8 a0), .v (.int .u16 a1)], .rc [.v (.int .i8 a2), .v (.int .u16 a3)]]) = (cond (a0 != a2) (some [.v (.bool false)]) (cond (a1 != a3) (some [.v (.bool false)]) (some [.v (.bool true)]))) := by kernel_rfl
noncomputable def l_weqJob (r : Bool) : List A := [.v (.bool r)]
theorem s_weqJob_ok (a0 : Int) (a1 : Int) (a2 : Int) (a3 : Int) : (cond (a0 != a2) (some [.v (.bool false)]) (cond (a1 != a3) (some [.v (.bool false)]) (some [.v (.bool true)]))) = some (l_weqJob (s_weqJob a0 a1 a2 a3)) := by
  unfold s_weqJob
  exact (cond_app (fun x => some (l_weqJob x)) rfl (cond_app (fun x => some (l_weqJob x)) rfl rfl))
noncomputable def c_weqJob : List A → ACall
  | [.rc [.v (.int .i8 a0), .v (.int .u16 a1)], .rc [.v (.int .i8 a2), .v (.int .u16 a3)]] => ⟨Bool, some (s_weqJob a0 a1 a2 a3), fun r => .one (.v (.bool r))⟩
  | _ => ACall.fail
theorem f_weqJob_sound : Sound Tryd.prog 41 c_weqJob := by
  refine sound_good f_weqJob_ctx f_weqJob_LV 2 Tryd.func41 (c := f_weqJob_c) (by kernel_rfl) (rv := f_weqJob_rv) (by kernel_rfl) (by kernel_rfl) (by kernel_rfl) (by kernel_rfl) fun rs => ?_
  unfold c_weqJob
  split
  · rename_i a0 a1 a2 a3; intro v h; cases h; exact ⟨rfl, l_weqJob (s_weqJob a0 a1 a2 a3), rfl, (f_weqJob_top a0 a1 a2 a3 _).trans (s_weqJob_ok a0 a1 a2 a3)⟩
  · intro v h; cases h

/-! ### function 24: loop.example/g01322/laws.eqJobS -/
noncomputable def f_weqJobS_c : Code := match Tryd.f24.body with | some c => c | none => .skip
noncomputable def f_weqJobS_X : Ctx := ⟨TT, phiOf [(41, c_weqJob)], noPsi, noXi⟩
def f_weqJobS_LV : List (Nat × Keep) := [(4, ([0, 1, 5], [], []))]
def f_weqJobS_rv : List ResultVar := [.tmp 4]
noncomputable def f_weqJobS_L (r : List A) : Nat → AS → Option (List A) := L f_weqJobS_X (cnOf f_weqJobS_LV) f_weqJobS_c (K0 TT f_weqJobS_rv) r
theorem f_weqJobS_ctx : CtxOK Tryd.prog f_weqJobS_X := ctx_of tab mix ⟨⟨Tryd.call41, f_weqJob_sound⟩, trivial⟩
noncomputable def f_weqJobS_s4 (x0 : Int) (x1 : (List (Int × Int))) (x2 : (List (Int × Int))) : AS := ⟨[(0, .a (.sl 0)), (1, .a (.sl 1)), (5, .a (.v (.int .i64 x0)))], [(0, some ⟨false, .arr (.st [(.i .i8), (.i .u16)]) x1⟩), (1, some ⟨false, .arr (.st [(.i .i8), (.i .u16)]) x2⟩)], 2⟩
noncomputable def l_weqJobS (r : Bool) : List A := [.v (.bool r)]
theorem f_weqJobS_step4 (x0 : Int) (x1 : (List (Int × Int))) (x2 : (List (Int × Int))) (r : List A) (h : (cond (decide (x0 < ((List.length x1 : Nat) : Int))) (cond (inB x0 (List.length x1)) (cond (inB x0 (List.length x2)) (cond (!(s_weqJob (List.getD x1 (Int.toNat x0) ((0, 0) : (Int × Int))).1 (List.getD x1 (Int.toNat x0) ((0, 0) : (Int × Int))).2 (List.getD x2 (Int.toNat x0) ((0, 0) : (Int × Int))).1 (List.getD x2 (Int.toNat x0) ((0, 0) : (Int × Int))).2)) (some [.v (.bool false)]) (f_weqJobS_L r 4 (f_weqJobS_s4 (IntKind.wrap .i64 (x0 + 1)) x1 x2))) none) none) (some [.v (.bool true)])) = some r) : f_weqJobS_L r 4 (f_weqJobS_s4 x0 x1 x2) = some r :=
  step_of' h (by kernel_rfl)
noncomputable def f_weqJobS_n4 (x0 : Int) (x1 : (List (Int × Int))) (x2 : (List (Int × Int))) : Option ((Int × (List (Int × Int)) × (List (Int × Int))) ⊕ Bool) := (cond (decide (x0 < ((List.length x1 : Nat) : Int))) (cond (inB x0 (List.length x1)) (cond (inB x0 (List.length x2)) (cond (!(s_weqJob (List.getD x1 (Int.toNat x0) ((0, 0) : (Int × Int))).1 (List.getD x1 (Int.toNat x0) ((0, 0) : (Int × Int))).2 (List.getD x2 (Int.toNat x0) ((0, 0) : (Int × Int))).1 (List.getD x2 (Int.toNat x0) ((0, 0) : (Int × Int))).2)) (some (Sum.inr false)) (some (Sum.inl ((IntKind.wrap .i64 (x0 + 1)), x1, x2)))) none) none) (some (Sum.inr true)))
noncomputable def f_weqJobS_run4 (x : (Int × (List (Int × Int)) × (List (Int × Int)))) : Option Bool := iter (fun x => f_weqJobS_n4 x.1 x.2.1 x.2.2) FU x
noncomputable def f_weqJobS_G4 (r : List A) (x : (Int × (List (Int × Int)) × (List (Int × Int)))) : Prop := f_weqJobS_L r 4 (f_weqJobS_s4 x.1 x.2.1 x.2.2) = some r
noncomputable def f_weqJobS_S4 (r : List A) : Bool → Prop := fun v => r = l_weqJobS v
theorem f_weqJobS_go4 (r : List A) : ∀ x, sem (f_weqJobS_S4 r) (f_weqJobS_run4 x) → f_weqJobS_G4 r x :=
  fun x => iter_sound (step := fun x => f_weqJobS_n4 x.1 x.2.1 x.2.2) (fun x h => by
    unfold f_weqJobS_n4 at h
    exact f_weqJobS_step4 x.1 x.2.1 x.2.2 r ((sem_cond h (fun h => (sem_cond h (fun h => (sem_cond h (fun h => (sem_cond h (fun h => sem_got h fun q => some_eq q) (fun h => sem_got h fun q => q))) (fun h => sem_none h))) (fun h => sem_none h))) (fun h => sem_got h fun q => some_eq q)))) FU x
noncomputable def s_weqJobS (a0 : (List (Int × Int))) (a1 : (List (Int × Int))) : Option Bool := (cond (((List.length a0 : Nat) : Int) != ((List.length a1 : Nat) : Int)) (some false) (f_weqJobS_run4 (0, a0, a1)))
theorem f_weqJobS_top (a0 : (List (Int × Int))) (a1 : (List (Int × Int))) (r : List A) : ev f_weqJobS_X (lpc (cnOf f_weqJobS_LV) (f_weqJobS_L r)) f_weqJobS_c (K0 TT f_weqJobS_rv) (enter [.lst (.st [(.i .i8), (.i .u16)]) a0, .lst (.st [(.i .i8), (.i .u16)]) a1]) = (cond (((List.length a0 : Nat) : Int) != ((List.length a1 : Nat) : Int)) (some [.v (.bool false)]) (f_weqJobS_L r 4 (f_weqJobS_s4 0 a0 a1))) := by kernel_rfl
theorem s_weqJobS_ok (a0 : (List (Int × Int))) (a1 : (List (Int × Int))) (v : Bool) (h : s_weqJobS a0 a1 = some v) : (cond (((List.length a0 : Nat) : Int) != ((List.length a1 : Nat) : Int)) (some [.v (.bool false)]) (f_weqJobS_L (l_weqJobS v) 4 (f_weqJobS_s4 0 a0 a1))) = some (l_weqJobS v) := by
  unfold s_weqJobS at h
  have go : ∀ r, sem (fun v => r = l_weqJobS v) ((cond (((List.length a0 : Nat) : Int) != ((List.length a1 : Nat) : Int)) (some false) (f_weqJobS_run4 (0, a0, a1)))) → (cond (((List.length a0 : Nat) : Int) != ((List.length a1 : Nat) : Int)) (some [.v (.bool false)]) (f_weqJobS_L r 4 (f_weqJobS_s4 0 a0 a1))) = some r := fun r h => (sem_cond h (fun h => sem_got h fun q => some_eq q) (fun h => f_weqJobS_go4 r _ h))
  exact go (l_weqJobS v) ⟨v, h, rfl⟩
noncomputable def c_weqJobS : List A → ACall
  | [.lst (.st [(.i .i8), (.i .u16)]) a0, .lst (.st [(.i .i8), (.i .u16)]) a1] => ⟨Bool, s_weqJobS a0 a1, fun r => .one (.v (.bool r))⟩
  | _ => ACall.fail
theorem f_weqJobS_sound : Sound Tryd.prog 24 c_weqJobS := by
  refine sound_good f_weqJobS_ctx f_weqJobS_LV 2 Tryd.func24 (c := f_weqJobS_c) (by kernel_rfl) (rv := f_weqJobS_rv) (by kernel_rfl) (by kernel_rfl) (by kernel_rfl) (by kernel_rfl) fun rs => ?_
  unfold c_weqJobS
  split
  · rename_i a0 a1; intro v h; exact ⟨rfl, l_weqJobS v, rfl, (f_weqJobS_top a0 a1 _).trans (s_weqJobS_ok a0 a1 v h)⟩
  · intro v h; cases h

/-! ### function 6: loop.example/g01322/laws.FnExactJobsText -/
noncomputable def f_wFnExactJobsText_c : Code := match Tryd.f6.body with | some c => c | none => .skip
noncomputable def f_wFnExactJobsText_X : Ctx := ⟨TT, phiOf [(20, c_wszJobS), (21, c_sJobsText), (22, c_wtoJobS), (23, c_iJobsText), (24, c_weqJobS)], noPsi, noXi⟩
def f_wFnExactJobsText_LV : List (Nat × Keep) := []
def f_wFnExactJobsText_rv : List ResultVar := [.tmp 2]
noncomputable def f_wFnExactJobsText_L (r : List A) : Nat → AS → Option (List A) := L f_wFnExactJobsText_X (cnOf f_wFnExactJobsText_LV) f_wFnExactJobsText_c (K0 TT f_wFnExactJobsText_rv) r
theorem f_wFnExactJobsText_ctx : CtxOK Tryd.prog f_wFnExactJobsText_X := ctx_of tab mix ⟨⟨Tryd.call20, f_wszJobS_sound⟩, ⟨Tryd.call21, f_sJobsText_sound⟩, ⟨Tryd.call22, f_wtoJobS_sound⟩, ⟨Tryd.call23, f_iJobsText_sound⟩, ⟨Tryd.call24, f_weqJobS_sound⟩, trivial⟩
noncomputable def s_wFnExactJobsText (a0 : (List (Int × Int))) : Option Bool := (cond (decide ((s_wszJobS a0 1048576) < 0)) (some true) (Option.bind (s_wtoJobS a0) fun r1 => (Option.bind (s_sJobsText r1) fun r2 => (Option.bind (s_wtoJobS a0) fun r3 => (Option.bind (s_iJobsText r3) fun r4 => (cond (!(r4.toList == r2.toList)) (some false) (Option.bind (s_wtoJobS a0) fun r5 => (Option.bind (s_weqJobS r3 r5) fun r6 => (cond (!r6) (some false) (some true))))))))))
theorem f_wFnExactJobsText_top (a0 : (List (Int × Int))) (r : List A) : ev f_wFnExactJobsText_X (lpc (cnOf f_wFnExactJobsText_LV) (f_wFnExactJobsText_L r)) f_wFnExactJobsText_c (K0 TT f_wFnExactJobsText_rv) (enter [.lst (.st [(.i .i8), (.i .u16)]) a0]) = (cond (decide ((s_wszJobS a0 1048576) < 0)) (some [.v (.bool true)]) (Option.bind (s_wtoJobS a0) fun r1 => (Option.bind (s_sJobsText r1) fun r2 => (Option.bind (s_wtoJobS a0) fun r3 => (Option.bind (s_iJobsText r3) fun r4 => (cond (!(r4.toList == r2.toList)) (some [.v (.bool false)]) (Option.bind (s_wtoJobS a0) fun r5 => (Option.bind (s_weqJobS r3 r5) fun r6 => (cond (!r6) (some [.v (.bool false)]) (some [.v (.bool true)])))))))))) := by kernel_rfl
noncomputable def l_wFnExactJobsText (r : Bool) : List A := [.v (.bool r)]
theorem s_wFnExactJobsText_ok (a0 : (List (Int × Int))) (v : Bool) (h : s_wFnExactJobsText a0 = some v) : (cond (decide ((s_wszJobS a0 1048576) < 0)) (some [.v (.bool true)]) (Option.bind (s_wtoJobS a0) fun r1 => (Option.bind (s_sJobsText r1) fun r2 => (Option.bind (s_wtoJobS a0) fun r3 => (Option.bind (s_iJobsText r3) fun r4 => (cond (!(r4.toList == r2.toList)) (some [.v (.bool false)]) (Option.bind (s_wtoJobS a0) fun r5 => (Option.bind (s_weqJobS r3 r5) fun r6 => (cond (!r6) (some [.v (.bool false)]) (some [.v (.bool true)])))))))))) = some (l_wFnExactJobsText v) := by
  have e : (cond (decide ((s_wszJobS a0 1048576) < 0)) (some [.v (.bool true)]) (Option.bind (s_wtoJobS a0) fun r1 => (Option.bind (s_sJobsText r1) fun r2 => (Option.bind (s_wtoJobS a0) fun r3 => (Option.bind (s_iJobsText r3) fun r4 => (cond (!(r4.toList == r2.toList)) (some [.v (.bool false)]) (Option.bind (s_wtoJobS a0) fun r5 => (Option.bind (s_weqJobS r3 r5) fun r6 => (cond (!r6) (some [.v (.bool false)]) (some [.v (.bool true)])))))))))) = Option.map l_wFnExactJobsText (s_wFnExactJobsText a0) := by
    unfold s_wFnExactJobsText
    exact (cond_app (Option.map l_wFnExactJobsText) rfl (bind_app fun _ => (bind_app fun _ => (bind_app fun _ => (bind_app fun _ => (cond_app (Option.map l_wFnExactJobsText) rfl (bind_app fun _ => (bind_app fun _ => (cond_app (Option.map l_wFnExactJobsText) rfl rfl)))))))))
  rw [e, h]; rfl
noncomputable def c_wFnExactJobsText : List A → ACall
  | [.lst (.st [(.i .i8), (.i .u16)]) a0] => ⟨Bool, s_wFnExactJobsText a0, fun r => .one (.v (.bool r))⟩
  | _ => ACall.fail
theorem f_wFnExactJobsText_sound : Sound Tryd.prog 6 c_wFnExactJobsText := by
  refine sound_good f_wFnExactJobsText_ctx f_wFnExactJobsText_LV 1 Tryd.func6 (c := f_wFnExactJobsText_c) (by kernel_rfl) (rv := f_wFnExactJobsText_rv) (by kernel_rfl) (by kernel_rfl) (by kernel_rfl) (by kernel_rfl) fun rs => ?_
  unfold c_wFnExactJobsText
  split
  · rename_i a0; intro v h; exact ⟨rfl, l_wFnExactJobsText v, rfl, (f_wFnExactJobsText_top a0 _).trans (s_wFnExactJobsText_ok a0 v h)⟩
  · intro v h; cases h
end Go.RR
