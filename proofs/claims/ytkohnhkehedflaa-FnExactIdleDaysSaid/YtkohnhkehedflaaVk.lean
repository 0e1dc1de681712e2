/- Slots. -/
import Derived.Test.YtkohnhkehedflaaVe
import Derived.Test.YtkohnhkehedflaaRw
set_option linter.unusedVariables false
set_option linter.unusedSimpArgs false
set_option linter.unusedSectionVars false
set_option maxRecDepth 100000
namespace Go.RR
open Go Go.Proofs

/-! ### function 37: loop.example/g01322/laws.markSlotS -/
noncomputable def f_wmarkSlotS_c : Code := match Try.f37.body with | some c => c | none => .skip
noncomputable def f_wmarkSlotS_X : Ctx := ⟨TT, phiOf [], noPsi, noXi⟩
def f_wmarkSlotS_LV : List (Nat × Keep) := [(2, ([0, 1, 5], [], []))]
def f_wmarkSlotS_rv : List ResultVar := [.tmp 4]
noncomputable def f_wmarkSlotS_L (r : List A) : Nat → AS → Option (List A) := L f_wmarkSlotS_X (cnOfU f_wmarkSlotS_LV) f_wmarkSlotS_c (K0U TT f_wmarkSlotS_rv) r
theorem f_wmarkSlotS_ctx : CtxOK Try.prog f_wmarkSlotS_X := ctx_of tab mix trivial
noncomputable def f_wmarkSlotS_s2 (x0 : Int) (x1 : Int) (x2 : (List (Int × Int))) : AS := ⟨[(0, .a (.sl 0)), (1, .a (.v (.int .i64 x0))), (5, .a (.v (.int .i64 x1)))], [(0, some ⟨true, .arr (.st [(.i .i8), (.i .i16)]) x2⟩)], 1⟩
noncomputable def l_wmarkSlotS (r : (Int × (List (Int × Int)))) : List A := [.v (.int .i64 r.1), .lst (.st [(.i .i8), (.i .i16)]) r.2]
theorem f_wmarkSlotS_step2 (x0 : Int) (x1 : Int) (x2 : (List (Int × Int))) (r : List A) (h : (cond (decide (x1 < ((List.length x2 : Nat) : Int))) (cond (inB x1 (List.length x2)) (cond (inB x1 (List.length (List.set x2 (Int.toNat x1) ((IntKind.wrap .i8 x0), (List.getD x2 (Int.toNat x1) ((0, 0) : (Int × Int))).2)))) (f_wmarkSlotS_L r 2 (f_wmarkSlotS_s2 (IntKind.wrap .i64 ((IntKind.wrap .i64 (x0 + 1)) + 1)) (IntKind.wrap .i64 (x1 + 1)) (List.set (List.set x2 (Int.toNat x1) ((IntKind.wrap .i8 x0), (List.getD x2 (Int.toNat x1) ((0, 0) : (Int × Int))).2)) (Int.toNat x1) ((List.getD (List.set x2 (Int.toNat x1) ((IntKind.wrap .i8 x0), (List.getD x2 (Int.toNat x1) ((0, 0) : (Int × Int))).2)) (Int.toNat x1) ((0, 0) : (Int × Int))).1, (IntKind.wrap .i16 (IntKind.wrap .i64 (x0 + 1))))))) none) none) (some [.v (.int .i64 x0), .lst (.st [(.i .i8), (.i .i16)]) x2])) = some r) : f_wmarkSlotS_L r 2 (f_wmarkSlotS_s2 x0 x1 x2) = some r :=
  step_of' h (by kernel_rfl)
noncomputable def f_wmarkSlotS_n2 (x0 : Int) (x1 : Int) (x2 : (List (Int × Int))) : Option ((Int × Int × (List (Int × Int))) ⊕ (Int × (List (Int × Int)))) := (cond (decide (x1 < ((List.length x2 : Nat) : Int))) (cond (inB x1 (List.length x2)) (cond (inB x1 (List.length (List.set x2 (Int.toNat x1) ((IntKind.wrap .i8 x0), (List.getD x2 (Int.toNat x1) ((0, 0) : (Int × Int))).2)))) (some (Sum.inl ((IntKind.wrap .i64 ((IntKind.wrap .i64 (x0 + 1)) + 1)), (IntKind.wrap .i64 (x1 + 1)), (List.set (List.set x2 (Int.toNat x1) ((IntKind.wrap .i8 x0), (List.getD x2 (Int.toNat x1) ((0, 0) : (Int × Int))).2)) (Int.toNat x1) ((List.getD (List.set x2 (Int.toNat x1) ((IntKind.wrap .i8 x0), (List.getD x2 (Int.toNat x1) ((0, 0) : (Int × Int))).2)) (Int.toNat x1) ((0, 0) : (Int × Int))).1, (IntKind.wrap .i16 (IntKind.wrap .i64 (x0 + 1)))))))) none) none) (some (Sum.inr (x0, x2))))
noncomputable def f_wmarkSlotS_run2 (x : (Int × Int × (List (Int × Int)))) : Option (Int × (List (Int × Int))) := iter (fun x => f_wmarkSlotS_n2 x.1 x.2.1 x.2.2) FU x
noncomputable def f_wmarkSlotS_G2 (r : List A) (x : (Int × Int × (List (Int × Int)))) : Prop := f_wmarkSlotS_L r 2 (f_wmarkSlotS_s2 x.1 x.2.1 x.2.2) = some r
noncomputable def f_wmarkSlotS_S2 (r : List A) : (Int × (List (Int × Int))) → Prop := fun v => r = l_wmarkSlotS v
theorem f_wmarkSlotS_go2 (r : List A) : ∀ x, sem (f_wmarkSlotS_S2 r) (f_wmarkSlotS_run2 x) → f_wmarkSlotS_G2 r x :=
  fun x => iter_sound (step := fun x => f_wmarkSlotS_n2 x.1 x.2.1 x.2.2) (fun x h => by
    unfold f_wmarkSlotS_n2 at h
    exact f_wmarkSlotS_step2 x.1 x.2.1 x.2.2 r ((sem_cond h (fun h => (sem_cond h (fun h => (sem_cond h (fun h => sem_got h fun q => q) (fun h => sem_none h))) (fun h => sem_none h))) (fun h => sem_got h fun q => some_eq q)))) FU x
noncomputable def s_wmarkSlotS (a0 : (List (Int × Int))) (a1 : Int) : Option (Int × (List (Int × Int))) := (f_wmarkSlotS_run2 (a1, 0, a0))
theorem f_wmarkSlotS_top (a0 : (List (Int × Int))) (a1 : Int) (r : List A) : ev f_wmarkSlotS_X (lpc (cnOfU f_wmarkSlotS_LV) (f_wmarkSlotS_L r)) f_wmarkSlotS_c (K0U TT f_wmarkSlotS_rv) (enterU (.st [(.i .i8), (.i .i16)]) a0 [.v (.int .i64 a1)]) = (f_wmarkSlotS_L r 2 (f_wmarkSlotS_s2 a1 0 a0)) := by kernel_rfl
theorem s_wmarkSlotS_ok (a0 : (List (Int × Int))) (a1 : Int) (v : (Int × (List (Int × Int)))) (h : s_wmarkSlotS a0 a1 = some v) : (f_wmarkSlotS_L (l_wmarkSlotS v) 2 (f_wmarkSlotS_s2 a1 0 a0)) = some (l_wmarkSlotS v) := by
  unfold s_wmarkSlotS at h
  have go : ∀ r, sem (fun v => r = l_wmarkSlotS v) ((f_wmarkSlotS_run2 (a1, 0, a0))) → (f_wmarkSlotS_L r 2 (f_wmarkSlotS_s2 a1 0 a0)) = some r := fun r h => f_wmarkSlotS_go2 r _ h
  exact go (l_wmarkSlotS v) ⟨v, h, rfl⟩
noncomputable def u_wmarkSlotS : UCon := fun e l rest => match e, l, rest with
  | (.st [(.i .i8), (.i .i16)]), a0, [.v (.int .i64 a1)] => ⟨(Int × (List (Int × Int))), s_wmarkSlotS a0 a1, fun r => some (.v (.int .i64 r.1)), fun r => r.2⟩
  | _, _, _ => UCall.fail
theorem f_wmarkSlotS_sound : USound Try.prog 37 u_wmarkSlotS := by
  refine sound_goodU f_wmarkSlotS_ctx f_wmarkSlotS_LV 2 Try.func37 (c := f_wmarkSlotS_c) (by kernel_rfl) (rv := f_wmarkSlotS_rv) (by kernel_rfl) (by kernel_rfl) (by kernel_rfl) (by kernel_rfl) fun e l rest => ?_
  unfold u_wmarkSlotS
  split
  · rename_i a0 a1; intro v h; exact ⟨rfl, (f_wmarkSlotS_top a0 a1 _).trans (s_wmarkSlotS_ok a0 a1 v h)⟩
  · intro v h; cases h

/-! ### function 30: loop.example/g01322/laws.szSlotS -/
noncomputable def f_wszSlotS_c : Code := match Try.f30.body with | some c => c | none => .skip
noncomputable def f_wszSlotS_X : Ctx := ⟨TT, phiOf [], noPsi, noXi⟩
def f_wszSlotS_LV : List (Nat × Keep) := []
def f_wszSlotS_rv : List ResultVar := [.tmp 4]
noncomputable def f_wszSlotS_L (r : List A) : Nat → AS → Option (List A) := L f_wszSlotS_X (cnOf f_wszSlotS_LV) f_wszSlotS_c (K0 TT f_wszSlotS_rv) r
theorem f_wszSlotS_ctx : CtxOK Try.prog f_wszSlotS_X := ctx_of tab mix trivial
noncomputable def s_wszSlotS (a0 : (List (Int × Int))) (a1 : Int) : Int := (cond (decide ((IntKind.wrap .i64 (a1 - ((List.length a0 : Nat) : Int))) < 0)) (-1) (IntKind.wrap .i64 (a1 - ((List.length a0 : Nat) : Int))))
theorem f_wszSlotS_top (a0 : (List (Int × Int))) (a1 : Int) (r : List A) : ev f_wszSlotS_X (lpc (cnOf f_wszSlotS_LV) (f_wszSlotS_L r)) f_wszSlotS_c (K0 TT f_wszSlotS_rv) (enter [.lst (.st [(.i .i8), (.i .i16)]) a0, .v (.int .i64 a1)]) = (cond (decide ((IntKind.wrap .i64 (a1 - ((List.length a0 : Nat) : Int))) < 0)) (some [.v (.int .i64 (-1))]) (some [.v (.int .i64 (IntKind.wrap .i64 (a1 - ((List.length a0 : Nat) : Int))))])) := by kernel_rfl
noncomputable def l_wszSlotS (r : Int) : List A := [.v (.int .i64 r)]
theorem s_wszSlotS_ok (a0 : (List (Int × Int))) (a1 : Int) : (cond (decide ((IntKind.wrap .i64 (a1 - ((List.length a0 : Nat) : Int))) < 0)) (some [.v (.int .i64 (-1))]) (some [.v (.int .i64 (IntKind.wrap .i64 (a1 - ((List.length a0 : Nat) : Int))))])) = some (l_wszSlotS (s_wszSlotS a0 a1)) := by
  unfold s_wszSlotS
  exact (cond_app (fun x => some (l_wszSlotS x)) rfl rfl)
noncomputable def c_wszSlotS : List A → ACall
  | [.lst (.st [(.i .i8), (.i .i16)]) a0, .v (.int .i64 a1)] => ⟨Int, some (s_wszSlotS a0 a1), fun r => .one (.v (.int .i64 r))⟩
  | _ => ACall.fail
theorem f_wszSlotS_sound : Sound Try.prog 30 c_wszSlotS := by
  refine sound_good f_wszSlotS_ctx f_wszSlotS_LV 2 Try.func30 (c := f_wszSlotS_c) (by kernel_rfl) (rv := f_wszSlotS_rv) (by kernel_rfl) (by kernel_rfl) (by kernel_rfl) (by kernel_rfl) fun rs => ?_
  unfold c_wszSlotS
  split
  · rename_i a0 a1; intro v h; cases h; exact ⟨rfl, l_wszSlotS (s_wszSlotS a0 a1), rfl, (f_wszSlotS_top a0 a1 _).trans (s_wszSlotS_ok a0 a1)⟩
  · intro v h; cases h

/-! ### function 113: loop.example/g01322/laws.toSlot -/
noncomputable def f_wtoSlot_c : Code := match Try.f113.body with | some c => c | none => .skip
noncomputable def f_wtoSlot_X : Ctx := ⟨TT, phiOf [], noPsi, noXi⟩
def f_wtoSlot_LV : List (Nat × Keep) := []
def f_wtoSlot_rv : List ResultVar := [.cell 2 103]
noncomputable def f_wtoSlot_L (r : List A) : Nat → AS → Option (List A) := L f_wtoSlot_X (cnOf f_wtoSlot_LV) f_wtoSlot_c (K0 TT f_wtoSlot_rv) r
theorem f_wtoSlot_ctx : CtxOK Try.prog f_wtoSlot_X := ctx_of tab mix trivial
noncomputable def s_wtoSlot (a0 : Int) (a1 : Int) : (Int × Int) := (a0, a1)
theorem f_wtoSlot_top (a0 : Int) (a1 : Int) (r : List A) : ev f_wtoSlot_X (lpc (cnOf f_wtoSlot_LV) (f_wtoSlot_L r)) f_wtoSlot_c (K0 TT f_wtoSlot_rv) (enter [.rc [.v (.int .i8 a0), .v (.int .i16 a1)]]) = (some [.rc [.v (.int .i8 a0), .v (.int .i16 a1)]]) := by kernel_rfl
noncomputable def l_wtoSlot (r : (Int × Int)) : List A := [.rc [.v (.int .i8 r.1), .v (.int .i16 r.2)]]
theorem s_wtoSlot_ok (a0 : Int) (a1 : Int) : (some [.rc [.v (.int .i8 a0), .v (.int .i16 a1)]]) = some (l_wtoSlot (s_wtoSlot a0 a1)) := by
  unfold s_wtoSlot
  exact rfl
noncomputable def c_wtoSlot : List A → ACall
  | [.rc [.v (.int .i8 a0), .v (.int .i16 a1)]] => ⟨(Int × Int), some (s_wtoSlot a0 a1), fun r => .one (.rc [.v (.int .i8 r.1), .v (.int .i16 r.2)])⟩
  | _ => ACall.fail
theorem f_wtoSlot_sound : Sound Try.prog 113 c_wtoSlot := by
  refine sound_good f_wtoSlot_ctx f_wtoSlot_LV 1 Try.func113 (c := f_wtoSlot_c) (by kernel_rfl) (rv := f_wtoSlot_rv) (by kernel_rfl) (by kernel_rfl) (by kernel_rfl) (by kernel_rfl) fun rs => ?_
  unfold c_wtoSlot
  split
  · rename_i a0 a1; intro v h; cases h; exact ⟨rfl, l_wtoSlot (s_wtoSlot a0 a1), rfl, (f_wtoSlot_top a0 a1 _).trans (s_wtoSlot_ok a0 a1)⟩
  · intro v h; cases h

/-! ### function 32: loop.example/g01322/laws.toSlotS -/
noncomputable def f_wtoSlotS_c : Code := match Try.f32.body with | some c => c | none => .skip
noncomputable def f_wtoSlotS_X : Ctx := ⟨TT, phiOf [(113, c_wtoSlot)], noPsi, noXi⟩
def f_wtoSlotS_LV : List (Nat × Keep) := [(3, ([0, 3, 4], [], []))]
def f_wtoSlotS_rv : List ResultVar := [.tmp 2]
noncomputable def f_wtoSlotS_L (r : List A) : Nat → AS → Option (List A) := L f_wtoSlotS_X (cnOf f_wtoSlotS_LV) f_wtoSlotS_c (K0 TT f_wtoSlotS_rv) r
theorem f_wtoSlotS_ctx : CtxOK Try.prog f_wtoSlotS_X := ctx_of tab mix ⟨⟨Try.call113, f_wtoSlot_sound⟩, trivial⟩
noncomputable def f_wtoSlotS_s3 (x0 : Int) (x1 : (List (Int × Int))) (x2 : (List (Int × Int))) : AS := ⟨[(0, .a (.sl 0)), (3, .a (.sl 1)), (4, .a (.v (.int .i64 x0)))], [(0, some ⟨false, .arr (.st [(.i .i8), (.i .i16)]) x1⟩), (1, some ⟨true, .arr (.st [(.i .i8), (.i .i16)]) x2⟩)], 2⟩
noncomputable def l_wtoSlotS (r : (List (Int × Int))) : List A := [.lst (.st [(.i .i8), (.i .i16)]) r]
theorem f_wtoSlotS_step3 (x0 : Int) (x1 : (List (Int × Int))) (x2 : (List (Int × Int))) (r : List A) (h : (cond (decide (x0 < ((List.length x1 : Nat) : Int))) (cond (inB x0 (List.length x1)) (cond (inB x0 (List.length x2)) (f_wtoSlotS_L r 3 (f_wtoSlotS_s3 (IntKind.wrap .i64 (x0 + 1)) x1 (List.set x2 (Int.toNat x0) ((s_wtoSlot (List.getD x1 (Int.toNat x0) ((0, 0) : (Int × Int))).1 (List.getD x1 (Int.toNat x0) ((0, 0) : (Int × Int))).2).1, (s_wtoSlot (List.getD x1 (Int.toNat x0) ((0, 0) : (Int × Int))).1 (List.getD x1 (Int.toNat x0) ((0, 0) : (Int × Int))).2).2)))) none) none) (some [.lst (.st [(.i .i8), (.i .i16)]) x2])) = some r) : f_wtoSlotS_L r 3 (f_wtoSlotS_s3 x0 x1 x2) = some r :=
  step_of' h (by kernel_rfl)
noncomputable def f_wtoSlotS_n3 (x0 : Int) (x1 : (List (Int × Int))) (x2 : (List (Int × Int))) : Option ((Int × (List (Int × Int)) × (List (Int × Int))) ⊕ (List (Int × Int))) := (cond (decide (x0 < ((List.length x1 : Nat) : Int))) (cond (inB x0 (List.length x1)) (cond (inB x0 (List.length x2)) (some (Sum.inl ((IntKind.wrap .i64 (x0 + 1)), x1, (List.set x2 (Int.toNat x0) ((s_wtoSlot (List.getD x1 (Int.toNat x0) ((0, 0) : (Int × Int))).1 (List.getD x1 (Int.toNat x0) ((0, 0) : (Int × Int))).2).1, (s_wtoSlot (List.getD x1 (Int.toNat x0) ((0, 0) : (Int × Int))).1 (List.getD x1 (Int.toNat x0) ((0, 0) : (Int × Int))).2).2))))) none) none) (some (Sum.inr x2)))
noncomputable def f_wtoSlotS_run3 (x : (Int × (List (Int × Int)) × (List (Int × Int)))) : Option (List (Int × Int)) := iter (fun x => f_wtoSlotS_n3 x.1 x.2.1 x.2.2) FU x
noncomputable def f_wtoSlotS_G3 (r : List A) (x : (Int × (List (Int × Int)) × (List (Int × Int)))) : Prop := f_wtoSlotS_L r 3 (f_wtoSlotS_s3 x.1 x.2.1 x.2.2) = some r
noncomputable def f_wtoSlotS_S3 (r : List A) : (List (Int × Int)) → Prop := fun v => r = l_wtoSlotS v
theorem f_wtoSlotS_go3 (r : List A) : ∀ x, sem (f_wtoSlotS_S3 r) (f_wtoSlotS_run3 x) → f_wtoSlotS_G3 r x :=
  fun x => iter_sound (step := fun x => f_wtoSlotS_n3 x.1 x.2.1 x.2.2) (fun x h => by
    unfold f_wtoSlotS_n3 at h
    exact f_wtoSlotS_step3 x.1 x.2.1 x.2.2 r ((sem_cond h (fun h => (sem_cond h (fun h => (sem_cond h (fun h => sem_got h fun q => q) (fun h => sem_none h))) (fun h => sem_none h))) (fun h => sem_got h fun q => some_eq q)))) FU x
noncomputable def s_wtoSlotS (a0 : (List (Int × Int))) : Option (List (Int × Int)) := (cond (decide (0 ≤ ((List.length a0 : Nat) : Int)) && decide (((List.length a0 : Nat) : Int) = ((List.length a0 : Nat) : Int)) && fits ((Int.toNat ((List.length a0 : Nat) : Int)) * 4)) (f_wtoSlotS_run3 (0, a0, (List.replicate (Int.toNat ((List.length a0 : Nat) : Int)) ((0, 0) : (Int × Int))))) none)
theorem f_wtoSlotS_top (a0 : (List (Int × Int))) (r : List A) : ev f_wtoSlotS_X (lpc (cnOf f_wtoSlotS_LV) (f_wtoSlotS_L r)) f_wtoSlotS_c (K0 TT f_wtoSlotS_rv) (enter [.lst (.st [(.i .i8), (.i .i16)]) a0]) = (cond (decide (0 ≤ ((List.length a0 : Nat) : Int)) && decide (((List.length a0 : Nat) : Int) = ((List.length a0 : Nat) : Int)) && fits ((Int.toNat ((List.length a0 : Nat) : Int)) * 4)) (f_wtoSlotS_L r 3 (f_wtoSlotS_s3 0 a0 (List.replicate (Int.toNat ((List.length a0 : Nat) : Int)) ((0, 0) : (Int × Int))))) none) := by kernel_rfl
theorem s_wtoSlotS_ok (a0 : (List (Int × Int))) (v : (List (Int × Int))) (h : s_wtoSlotS a0 = some v) : (cond (decide (0 ≤ ((List.length a0 : Nat) : Int)) && decide (((List.length a0 : Nat) : Int) = ((List.length a0 : Nat) : Int)) && fits ((Int.toNat ((List.length a0 : Nat) : Int)) * 4)) (f_wtoSlotS_L (l_wtoSlotS v) 3 (f_wtoSlotS_s3 0 a0 (List.replicate (Int.toNat ((List.length a0 : Nat) : Int)) ((0, 0) : (Int × Int))))) none) = some (l_wtoSlotS v) := by
  unfold s_wtoSlotS at h
  have go : ∀ r, sem (fun v => r = l_wtoSlotS v) ((cond (decide (0 ≤ ((List.length a0 : Nat) : Int)) && decide (((List.length a0 : Nat) : Int) = ((List.length a0 : Nat) : Int)) && fits ((Int.toNat ((List.length a0 : Nat) : Int)) * 4)) (f_wtoSlotS_run3 (0, a0, (List.replicate (Int.toNat ((List.length a0 : Nat) : Int)) ((0, 0) : (Int × Int))))) none)) → (cond (decide (0 ≤ ((List.length a0 : Nat) : Int)) && decide (((List.length a0 : Nat) : Int) = ((List.length a0 : Nat) : Int)) && fits ((Int.toNat ((List.length a0 : Nat) : Int)) * 4)) (f_wtoSlotS_L r 3 (f_wtoSlotS_s3 0 a0 (List.replicate (Int.toNat ((List.length a0 : Nat) : Int)) ((0, 0) : (Int × Int))))) none) = some r := fun r h => (sem_cond h (fun h => f_wtoSlotS_go3 r _ h) (fun h => sem_none h))
  exact go (l_wtoSlotS v) ⟨v, h, rfl⟩
noncomputable def c_wtoSlotS : List A → ACall
  | [.lst (.st [(.i .i8), (.i .i16)]) a0] => ⟨(List (Int × Int)), s_wtoSlotS a0, fun r => .one (.lst (.st [(.i .i8), (.i .i16)]) r)⟩
  | _ => ACall.fail
theorem f_wtoSlotS_sound : Sound Try.prog 32 c_wtoSlotS := by
  refine sound_good f_wtoSlotS_ctx f_wtoSlotS_LV 1 Try.func32 (c := f_wtoSlotS_c) (by kernel_rfl) (rv := f_wtoSlotS_rv) (by kernel_rfl) (by kernel_rfl) (by kernel_rfl) (by kernel_rfl) fun rs => ?_
  unfold c_wtoSlotS
  split
  · rename_i a0; intro v h; exact ⟨rfl, l_wtoSlotS v, rfl, (f_wtoSlotS_top a0 _).trans (s_wtoSlotS_ok a0 v h)⟩
  · intro v h; cases h

/-! ### function 117: loop.example/g01322/laws.eqSlot -/
noncomputable def f_weqSlot_c : Code := match Try.f117.body with | some c => c | none => .skip
noncomputable def f_weqSlot_X : Ctx := ⟨TT, phiOf [], noPsi, noXi⟩
def f_weqSlot_LV : List (Nat × Keep) := []
def f_weqSlot_rv : List ResultVar := [.tmp 4]
noncomputable def f_weqSlot_L (r : List A) : Nat → AS → Option (List A) := L f_weqSlot_X (cnOf f_weqSlot_LV) f_weqSlot_c (K0 TT f_weqSlot_rv) r
theorem f_weqSlot_ctx : CtxOK Try.prog f_weqSlot_X := ctx_of tab mix trivial
noncomputable def s_weqSlot (a0 : Int) (a1 : Int) (a2 : Int) (a3 : Int) : Bool := (cond (a0 != a2) false (cond (a1 != a3) false true))
theorem f_weqSlot_top (a0 : Int) (a1 : Int) (a2 : Int) (a3 : Int) (r : List A) : ev f_weqSlot_X (lpc (cnOf f_weqSlot_LV) (f_weqSlot_L r)) f_weqSlot_c (K0 TT f_weqSlot_rv) (enter [.rc [.v (.int .i8 a0), .v (.int .i16 a1)], .rc [.v (.int .i8 a2), .v (.int .i16 a3)]]) = (cond (a0 != a2) (some [.v (.bool false)]) (cond (a1 != a3) (some [.v (.bool false)]) (some [.v (.bool true)]))) := by kernel_rfl
noncomputable def l_weqSlot (r : Bool) : List A := [.v (.bool r)]
theorem s_weqSlot_ok (a0 : Int) (a1 : Int) (a2 : Int) (a3 : Int) : (cond (a0 != a2) (some [.v (.bool false)]) (cond (a1 != a3) (some [.v (.bool false)]) (some [.v (.bool true)]))) = some (l_weqSlot (s_weqSlot a0 a1 a2 a3)) := by
  unfold s_weqSlot
  exact (cond_app (fun x => some (l_weqSlot x)) rfl (cond_app (fun x => some (l_weqSlot x)) rfl rfl))
noncomputable def c_weqSlot : List A → ACall
  | [.rc [.v (.int .i8 a0), .v (.int .i16 a1)], .rc [.v (.int .i8 a2), .v (.int .i16 a3)]] => ⟨Bool, some (s_weqSlot a0 a1 a2 a3), fun r => .one (.v (.bool r))⟩
  | _ => ACall.fail
theorem f_weqSlot_sound : Sound Try.prog 117 c_weqSlot := by
  refine sound_good f_weqSlot_ctx f_weqSlot_LV 2 Try.func117 (c := f_weqSlot_c) (by kernel_rfl) (rv := f_weqSlot_rv) (by kernel_rfl) (by kernel_rfl) (by kernel_rfl) (by kernel_rfl) fun rs => ?_
  unfold c_weqSlot
  split
  · rename_i a0 a1 a2 a3; intro v h; cases h; exact ⟨rfl, l_weqSlot (s_weqSlot a0 a1 a2 a3), rfl, (f_weqSlot_top a0 a1 a2 a3 _).trans (s_weqSlot_ok a0 a1 a2 a3)⟩
  · intro v h; cases h

/-! ### function 35: loop.example/g01322/laws.eqSlotS -/
noncomputable def f_weqSlotS_c : Code := match Try.f35.body with | some c => c | none => .skip
noncomputable def f_weqSlotS_X : Ctx := ⟨TT, phiOf [(117, c_weqSlot)], noPsi, noXi⟩
def f_weqSlotS_LV : List (Nat × Keep) := [(4, ([0, 1, 5], [], []))]
def f_weqSlotS_rv : List ResultVar := [.tmp 4]
noncomputable def f_weqSlotS_L (r : List A) : Nat → AS → Option (List A) := L f_weqSlotS_X (cnOf f_weqSlotS_LV) f_weqSlotS_c (K0 TT f_weqSlotS_rv) r
theorem f_weqSlotS_ctx : CtxOK Try.prog f_weqSlotS_X := ctx_of tab mix ⟨⟨Try.call117, f_weqSlot_sound⟩, trivial⟩
noncomputable def f_weqSlotS_s4 (x0 : Int) (x1 : (List (Int × Int))) (x2 : (List (Int × Int))) : AS := ⟨[(0, .a (.sl 0)), (1, .a (.sl 1)), (5, .a (.v (.int .i64 x0)))], [(0, some ⟨false, .arr (.st [(.i .i8), (.i .i16)]) x1⟩), (1, some ⟨false, .arr (.st [(.i .i8), (.i .i16)]) x2⟩)], 2⟩
noncomputable def l_weqSlotS (r : Bool) : List A := [.v (.bool r)]
theorem f_weqSlotS_step4 (x0 : Int) (x1 : (List (Int × Int))) (x2 : (List (Int × Int))) (r : List A) (h : (cond (decide (x0 < ((List.length x1 : Nat) : Int))) (cond (inB x0 (List.length x1)) (cond (inB x0 (List.length x2)) (cond (!(s_weqSlot (List.getD x1 (Int.toNat x0) ((0, 0) : (Int × Int))).1 (List.getD x1 (Int.toNat x0) ((0, 0) : (Int × Int))).2 (List.getD x2 (Int.toNat x0) ((0, 0) : (Int × Int))).1 (List.getD x2 (Int.toNat x0) ((0, 0) : (Int × Int))).2)) (some [.v (.bool false)]) (f_weqSlotS_L r 4 (f_weqSlotS_s4 (IntKind.wrap .i64 (x0 + 1)) x1 x2))) none) none) (some [.v (.bool true)])) = some r) : f_weqSlotS_L r 4 (f_weqSlotS_s4 x0 x1 x2) = some r :=
  step_of' h (by kernel_rfl)
noncomputable def f_weqSlotS_n4 (x0 : Int) (x1 : (List (Int × Int))) (x2 : (List (Int × Int))) : Option ((Int × (List (Int × Int)) × (List (Int × Int))) ⊕ Bool) := (cond (decide (x0 < ((List.length x1 : Nat) : Int))) (cond (inB x0 (List.length x1)) (cond (inB x0 (List.length x2)) (cond (!(s_weqSlot (List.getD x1 (Int.toNat x0) ((0, 0) : (Int × Int))).1 (List.getD x1 (Int.toNat x0) ((0, 0) : (Int × Int))).2 (List.getD x2 (Int.toNat x0) ((0, 0) : (Int × Int))).1 (List.getD x2 (Int.toNat x0) ((0, 0) : (Int × Int))).2)) (some (Sum.inr false)) (some (Sum.inl ((IntKind.wrap .i64 (x0 + 1)), x1, x2)))) none) none) (some (Sum.inr true)))
noncomputable def f_weqSlotS_run4 (x : (Int × (List (Int × Int)) × (List (Int × Int)))) : Option Bool := iter (fun x => f_weqSlotS_n4 x.1 x.2.1 x.2.2) FU x
noncomputable def f_weqSlotS_G4 (r : List A) (x : (Int × (List (Int × Int)) × (List (Int × Int)))) : Prop := f_weqSlotS_L r 4 (f_weqSlotS_s4 x.1 x.2.1 x.2.2) = some r
noncomputable def f_weqSlotS_S4 (r : List A) : Bool → Prop := fun v => r = l_weqSlotS v
theorem f_weqSlotS_go4 (r : List A) : ∀ x, sem (f_weqSlotS_S4 r) (f_weqSlotS_run4 x) → f_weqSlotS_G4 r x :=
  fun x => iter_sound (step := fun x => f_weqSlotS_n4 x.1 x.2.1 x.2.2) (fun x h => by
    unfold f_weqSlotS_n4 at h
    exact f_weqSlotS_step4 x.1 x.2.1 x.2.2 r ((sem_cond h (fun h => (sem_cond h (fun h => (sem_cond h (fun h => (sem_cond h (fun h => sem_got h fun q => some_eq q) (fun h => sem_got h fun q => q))) (fun h => sem_none h))) (fun h => sem_none h))) (fun h => sem_got h fun q => some_eq q)))) FU x
noncomputable def s_weqSlotS (a0 : (List (Int × Int))) (a1 : (List (Int × Int))) : Option Bool := (cond (((List.length a0 : Nat) : Int) != ((List.length a1 : Nat) : Int)) (some false) (f_weqSlotS_run4 (0, a0, a1)))
theorem f_weqSlotS_top (a0 : (List (Int × Int))) (a1 : (List (Int × Int))) (r : List A) : ev f_weqSlotS_X (lpc (cnOf f_weqSlotS_LV) (f_weqSlotS_L r)) f_weqSlotS_c (K0 TT f_weqSlotS_rv) (enter [.lst (.st [(.i .i8), (.i .i16)]) a0, .lst (.st [(.i .i8), (.i .i16)]) a1]) = (cond (((List.length a0 : Nat) : Int) != ((List.length a1 : Nat) : Int)) (some [.v (.bool false)]) (f_weqSlotS_L r 4 (f_weqSlotS_s4 0 a0 a1))) := by kernel_rfl
theorem s_weqSlotS_ok (a0 : (List (Int × Int))) (a1 : (List (Int × Int))) (v : Bool) (h : s_weqSlotS a0 a1 = some v) : (cond (((List.length a0 : Nat) : Int) != ((List.length a1 : Nat) : Int)) (some [.v (.bool false)]) (f_weqSlotS_L (l_weqSlotS v) 4 (f_weqSlotS_s4 0 a0 a1))) = some (l_weqSlotS v) := by
  unfold s_weqSlotS at h
  have go : ∀ r, sem (fun v => r = l_weqSlotS v) ((cond (((List.length a0 : Nat) : Int) != ((List.length a1 : Nat) : Int)) (some false) (f_weqSlotS_run4 (0, a0, a1)))) → (cond (((List.length a0 : Nat) : Int) != ((List.length a1 : Nat) : Int)) (some [.v (.bool false)]) (f_weqSlotS_L r 4 (f_weqSlotS_s4 0 a0 a1))) = some r := fun r h => (sem_cond h (fun h => sem_got h fun q => some_eq q) (fun h => f_weqSlotS_go4 r _ h))
  exact go (l_weqSlotS v) ⟨v, h, rfl⟩
noncomputable def c_weqSlotS : List A → ACall
  | [.lst (.st [(.i .i8), (.i .i16)]) a0, .lst (.st [(.i .i8), (.i .i16)]) a1] => ⟨Bool, s_weqSlotS a0 a1, fun r => .one (.v (.bool r))⟩
  | _ => ACall.fail
theorem f_weqSlotS_sound : Sound Try.prog 35 c_weqSlotS := by
  refine sound_good f_weqSlotS_ctx f_weqSlotS_LV 2 Try.func35 (c := f_weqSlotS_c) (by kernel_rfl) (rv := f_weqSlotS_rv) (by kernel_rfl) (by kernel_rfl) (by kernel_rfl) (by kernel_rfl) fun rs => ?_
  unfold c_weqSlotS
  split
  · rename_i a0 a1; intro v h; exact ⟨rfl, l_weqSlotS v, rfl, (f_weqSlotS_top a0 a1 _).trans (s_weqSlotS_ok a0 a1 v h)⟩
  · intro v h; cases h
end Go.RR
