/- Jobs of a text: the law. -/
import Derived.Test.YtbmaolhjplapoaaDoorVe
set_option linter.unusedVariables false
set_option linter.unusedSimpArgs false
set_option maxRecDepth 100000
namespace Go.RR
open Go Go.Proofs

/-! ### function 68: loop.example/g01322/spec.l00Min -/
noncomputable def f_sl00Min_c : Code := match Tryd.f68.body with | some c => c | none => .skip
noncomputable def f_sl00Min_X : Ctx := ⟨TT, phiOf [], noPsi, noXi⟩
def f_sl00Min_LV : List (Nat × Keep) := []
def f_sl00Min_rv : List ResultVar := [.tmp 4]
noncomputable def f_sl00Min_L (r : List A) : Nat → AS → Option (List A) := L f_sl00Min_X (cnOf f_sl00Min_LV) f_sl00Min_c (K0 TT f_sl00Min_rv) r
theorem f_sl00Min_ctx : CtxOK Tryd.prog f_sl00Min_X := ctx_of tab mix trivial
noncomputable def s_sl00Min (a0 : Int) (a1 : Int) : Int := (cond (decide (a0 < a1)) a0 a1)
theorem f_sl00Min_top (a0 : Int) (a1 : Int) (r : List A) : ev f_sl00Min_X (lpc (cnOf f_sl00Min_LV) (f_sl00Min_L r)) f_sl00Min_c (K0 TT f_sl00Min_rv) (enter [.v (.int .i64 a0), .v (.int .i64 a1)]) = (cond (decide (a0 < a1)) (some [.v (.int .i64 a0)]) (some [.v (.int .i64 a1)])) := by kernel_rfl
noncomputable def l_sl00Min (r : Int) : List A := [.v (.int .i64 r)]
theorem s_sl00Min_ok (a0 : Int) (a1 : Int) : (cond (decide (a0 < a1)) (some [.v (.int .i64 a0)]) (some [.v (.int .i64 a1)])) = some (l_sl00Min (s_sl00Min a0 a1)) := by
  unfold s_sl00Min
  exact (cond_app (fun x => some (l_sl00Min x)) rfl rfl)
noncomputable def c_sl00Min : List A → ACall
  | [.v (.int .i64 a0), .v (.int .i64 a1)] => ⟨Int, some (s_sl00Min a0 a1), fun r => .one (.v (.int .i64 r))⟩
  | _ => ACall.fail
theorem f_sl00Min_sound : Sound Tryd.prog 68 c_sl00Min := by
  refine sound_good f_sl00Min_ctx f_sl00Min_LV 2 Tryd.func68 (c := f_sl00Min_c) (by kernel_rfl) (rv := f_sl00Min_rv) (by kernel_rfl) (by kernel_rfl) (by kernel_rfl) (by kernel_rfl) fun rs => ?_
  unfold c_sl00Min
  split
  · rename_i a0 a1; intro v h; cases h; exact ⟨rfl, l_sl00Min (s_sl00Min a0 a1), rfl, (f_sl00Min_top a0 a1 _).trans (s_sl00Min_ok a0 a1)⟩
  · intro v h; cases h

/-! ### function 95: loop.example/g01322/spec.l07Order -/
noncomputable def f_sl07Order_c : Code := match Tryd.f95.body with | some c => c | none => .skip
noncomputable def f_sl07Order_X : Ctx := ⟨TT, phiOf [], noPsi, noXi⟩
def f_sl07Order_LV : List (Nat × Keep) := [(3, ([0, 4, 5], [], [])), (6, ([0, 4, 5, 6, 7], [], []))]
def f_sl07Order_rv : List ResultVar := [.tmp 2, .tmp 3]
noncomputable def f_sl07Order_L (r : List A) : Nat → AS → Option (List A) := L f_sl07Order_X (cnOf f_sl07Order_LV) f_sl07Order_c (K0 TT f_sl07Order_rv) r
theorem f_sl07Order_ctx : CtxOK Tryd.prog f_sl07Order_X := ctx_of tab mix trivial
noncomputable def f_sl07Order_s3 (x0 : Int) (x1 : (List (Int × Int))) (x2 : (List Int)) : AS := ⟨[(0, .a (.sl 0)), (4, .a (.sl 1)), (5, .a (.v (.int .u16 x0)))], [(0, some ⟨false, .arr (.st [(.i .i8), (.i .u16)]) x1⟩), (1, some ⟨true, .arr (.one (.i .i64)) x2⟩)], 2⟩
noncomputable def f_sl07Order_s6 (x0 : Int) (x1 : Int) (x2 : Int) (x3 : (List (Int × Int))) (x4 : (List Int)) : AS := ⟨[(0, .a (.sl 0)), (4, .a (.sl 1)), (5, .a (.v (.int .u16 x0))), (6, .a (.v (.int .i64 x1))), (7, .a (.v (.int .i64 x2)))], [(0, some ⟨false, .arr (.st [(.i .i8), (.i .u16)]) x3⟩), (1, some ⟨true, .arr (.one (.i .i64)) x4⟩)], 2⟩
noncomputable def l_sl07Order (r : ((List Int) × Bool)) : List A := [.lst (.one (.i .i64)) r.1, .v (.bool r.2)]
theorem f_sl07Order_step6 (x0 : Int) (x1 : Int) (x2 : Int) (x3 : (List (Int × Int))) (x4 : (List Int)) (r : List A) (h : (cond (decide (x2 ≥ 0)) (cond (decide ((IntKind.wrap .u64 x2) < 0)) none (cond ((Int.tmod (bShr .u16 x0 (IntKind.wrap .u64 x2)) 2) == 0) (cond (inB x2 (List.length x3)) (cond ((bAndNot .u16 (List.getD x3 (Int.toNat x2) ((0, 0) : (Int × Int))).2 x0) == 0) (f_sl07Order_L r 6 (f_sl07Order_s6 x0 x2 (IntKind.wrap .i64 (x2 - 1)) x3 x4)) (f_sl07Order_L r 6 (f_sl07Order_s6 x0 x1 (IntKind.wrap .i64 (x2 - 1)) x3 x4))) none) (f_sl07Order_L r 6 (f_sl07Order_s6 x0 x1 (IntKind.wrap .i64 (x2 - 1)) x3 x4)))) (cond (decide (x1 < 0)) (some [.lst (.one (.i .i64)) [], .v (.bool false)]) (cond (fits ((List.length (x4 : List Int) + List.length ([x1] : List Int)) * 8)) (cond (decide ((IntKind.wrap .u64 x1) < 0)) none (f_sl07Order_L r 3 (f_sl07Order_s3 (bOr .u16 x0 (bShl .u16 1 (IntKind.wrap .u64 x1))) x3 (x4 ++ [x1])))) none))) = some r) : f_sl07Order_L r 6 (f_sl07Order_s6 x0 x1 x2 x3 x4) = some r :=
  step_of' h (by kernel_rfl)
noncomputable def f_sl07Order_n6 (x0 : Int) (x1 : Int) (x2 : Int) (x3 : (List (Int × Int))) (x4 : (List Int)) : Option ((Int × Int × Int × (List (Int × Int)) × (List Int)) ⊕ ((Int × (List (Int × Int)) × (List Int)) ⊕ ((List Int) × Bool))) := (cond (decide (x2 ≥ 0)) (cond (decide ((IntKind.wrap .u64 x2) < 0)) none (cond ((Int.tmod (bShr .u16 x0 (IntKind.wrap .u64 x2)) 2) == 0) (cond (inB x2 (List.length x3)) (cond ((bAndNot .u16 (List.getD x3 (Int.toNat x2) ((0, 0) : (Int × Int))).2 x0) == 0) (some (Sum.inl (x0, x2, (IntKind.wrap .i64 (x2 - 1)), x3, x4))) (some (Sum.inl (x0, x1, (IntKind.wrap .i64 (x2 - 1)), x3, x4)))) none) (some (Sum.inl (x0, x1, (IntKind.wrap .i64 (x2 - 1)), x3, x4))))) (cond (decide (x1 < 0)) (some (Sum.inr (Sum.inr ([], false)))) (cond (fits ((List.length (x4 : List Int) + List.length ([x1] : List Int)) * 8)) (cond (decide ((IntKind.wrap .u64 x1) < 0)) none (some (Sum.inr (Sum.inl ((bOr .u16 x0 (bShl .u16 1 (IntKind.wrap .u64 x1))), x3, (x4 ++ [x1])))))) none)))
noncomputable def f_sl07Order_run6 (x : (Int × Int × Int × (List (Int × Int)) × (List Int))) : Option ((Int × (List (Int × Int)) × (List Int)) ⊕ ((List Int) × Bool)) := iter (fun x => f_sl07Order_n6 x.1 x.2.1 x.2.2.1 x.2.2.2.1 x.2.2.2.2) FU x
noncomputable def f_sl07Order_G6 (r : List A) (x : (Int × Int × Int × (List (Int × Int)) × (List Int))) : Prop := f_sl07Order_L r 6 (f_sl07Order_s6 x.1 x.2.1 x.2.2.1 x.2.2.2.1 x.2.2.2.2) = some r
theorem f_sl07Order_step3 (x0 : Int) (x1 : (List (Int × Int))) (x2 : (List Int)) (r : List A) (h : (cond (decide (((List.length x2 : Nat) : Int) < ((List.length x1 : Nat) : Int))) (f_sl07Order_L r 6 (f_sl07Order_s6 x0 (-1) (IntKind.wrap .i64 (((List.length x1 : Nat) : Int) - 1)) x1 x2)) (some [.lst (.one (.i .i64)) x2, .v (.bool true)])) = some r) : f_sl07Order_L r 3 (f_sl07Order_s3 x0 x1 x2) = some r :=
  step_of' h (by kernel_rfl)
noncomputable def f_sl07Order_n3 (x0 : Int) (x1 : (List (Int × Int))) (x2 : (List Int)) : Option ((Int × (List (Int × Int)) × (List Int)) ⊕ ((List Int) × Bool)) := (cond (decide (((List.length x2 : Nat) : Int) < ((List.length x1 : Nat) : Int))) (f_sl07Order_run6 (x0, (-1), (IntKind.wrap .i64 (((List.length x1 : Nat) : Int) - 1)), x1, x2)) (some (Sum.inr (x2, true))))
noncomputable def f_sl07Order_run3 (x : (Int × (List (Int × Int)) × (List Int))) : Option ((List Int) × Bool) := iter (fun x => f_sl07Order_n3 x.1 x.2.1 x.2.2) FU x
noncomputable def f_sl07Order_G3 (r : List A) (x : (Int × (List (Int × Int)) × (List Int))) : Prop := f_sl07Order_L r 3 (f_sl07Order_s3 x.1 x.2.1 x.2.2) = some r
noncomputable def f_sl07Order_S3 (r : List A) : ((List Int) × Bool) → Prop := fun v => r = l_sl07Order v
noncomputable def f_sl07Order_S6 (r : List A) : ((Int × (List (Int × Int)) × (List Int)) ⊕ ((List Int) × Bool)) → Prop := goesOn (f_sl07Order_G3 r) (f_sl07Order_S3 r)
theorem f_sl07Order_go6 (r : List A) : ∀ x, sem (f_sl07Order_S6 r) (f_sl07Order_run6 x) → f_sl07Order_G6 r x :=
  fun x => iter_sound (step := fun x => f_sl07Order_n6 x.1 x.2.1 x.2.2.1 x.2.2.2.1 x.2.2.2.2) (fun x h => by
    unfold f_sl07Order_n6 at h
    exact f_sl07Order_step6 x.1 x.2.1 x.2.2.1 x.2.2.2.1 x.2.2.2.2 r ((sem_cond h (fun h => (sem_cond h (fun h => sem_none h) (fun h => (sem_cond h (fun h => (sem_cond h (fun h => (sem_cond h (fun h => sem_got h fun q => q) (fun h => sem_got h fun q => q))) (fun h => sem_none h))) (fun h => sem_got h fun q => q))))) (fun h => (sem_cond h (fun h => sem_got h fun q => some_eq q) (fun h => (sem_cond h (fun h => (sem_cond h (fun h => sem_none h) (fun h => sem_got h fun q => q))) (fun h => sem_none h)))))))) FU x
theorem f_sl07Order_go3 (r : List A) : ∀ x, sem (f_sl07Order_S3 r) (f_sl07Order_run3 x) → f_sl07Order_G3 r x :=
  fun x => iter_sound (step := fun x => f_sl07Order_n3 x.1 x.2.1 x.2.2) (fun x h => by
    unfold f_sl07Order_n3 at h
    exact f_sl07Order_step3 x.1 x.2.1 x.2.2 r ((sem_cond h (fun h => f_sl07Order_go6 r _ h) (fun h => sem_got h fun q => some_eq q)))) FU x
noncomputable def s_sl07Order (a0 : (List (Int × Int))) : Option ((List Int) × Bool) := (f_sl07Order_run3 (0, a0, []))
theorem f_sl07Order_top (a0 : (List (Int × Int))) (r : List A) : ev f_sl07Order_X (lpc (cnOf f_sl07Order_LV) (f_sl07Order_L r)) f_sl07Order_c (K0 TT f_sl07Order_rv) (enter [.lst (.st [(.i .i8), (.i .u16)]) a0]) = (f_sl07Order_L r 3 (f_sl07Order_s3 0 a0 [])) := by kernel_rfl
theorem s_sl07Order_ok (a0 : (List (Int × Int))) (v : ((List Int) × Bool)) (h : s_sl07Order a0 = some v) : (f_sl07Order_L (l_sl07Order v) 3 (f_sl07Order_s3 0 a0 [])) = some (l_sl07Order v) := by
  unfold s_sl07Order at h
  have go : ∀ r, sem (fun v => r = l_sl07Order v) ((f_sl07Order_run3 (0, a0, []))) → (f_sl07Order_L r 3 (f_sl07Order_s3 0 a0 [])) = some r := fun r h => f_sl07Order_go3 r _ h
  exact go (l_sl07Order v) ⟨v, h, rfl⟩
noncomputable def c_sl07Order : List A → ACall
  | [.lst (.st [(.i .i8), (.i .u16)]) a0] => ⟨((List Int) × Bool), s_sl07Order a0, fun r => .tup [.lst (.one (.i .i64)) r.1, .v (.bool r.2)]⟩
  | _ => ACall.fail
theorem f_sl07Order_sound : Sound Tryd.prog 95 c_sl07Order := by
  refine sound_good f_sl07Order_ctx f_sl07Order_LV 1 Tryd.func95 (c := f_sl07Order_c) (by kernel_rfl) (rv := f_sl07Order_rv) (by kernel_rfl) (by kernel_rfl) (by kernel_rfl) (by kernel_rfl) fun rs => ?_
  unfold c_sl07Order
  split
  · rename_i a0; intro v h; exact ⟨rfl, l_sl07Order v, rfl, (f_sl07Order_top a0 _).trans (s_sl07Order_ok a0 v h)⟩
  · intro v h; cases h

/-! ### function 76: loop.example/g01322/spec.l07Ok -/
noncomputable def f_sl07Ok_c : Code := match Tryd.f76.body with | some c => c | none => .skip
noncomputable def f_sl07Ok_X : Ctx := ⟨TT, phiOf [(57, c_sl00In), (95, c_sl07Order)], noPsi, noXi⟩
def f_sl07Ok_LV : List (Nat × Keep) := [(4, ([0, 3], [], []))]
def f_sl07Ok_rv : List ResultVar := [.tmp 2]
noncomputable def f_sl07Ok_L (r : List A) : Nat → AS → Option (List A) := L f_sl07Ok_X (cnOf f_sl07Ok_LV) f_sl07Ok_c (K0 TT f_sl07Ok_rv) r
theorem f_sl07Ok_ctx : CtxOK Tryd.prog f_sl07Ok_X := ctx_of tab mix ⟨⟨Tryd.call57, f_sl00In_sound⟩, ⟨Tryd.call95, f_sl07Order_sound⟩, trivial⟩
noncomputable def f_sl07Ok_s4 (x0 : Int) (x1 : (List (Int × Int))) : AS := ⟨[(0, .a (.sl 0)), (3, .a (.v (.int .i64 x0)))], [(0, some ⟨false, .arr (.st [(.i .i8), (.i .u16)]) x1⟩)], 1⟩
noncomputable def l_sl07Ok (r : Bool) : List A := [.v (.bool r)]
theorem f_sl07Ok_step4 (x0 : Int) (x1 : (List (Int × Int))) (r : List A) (h : (cond (decide (x0 < ((List.length x1 : Nat) : Int))) (cond (inB x0 (List.length x1)) (cond (!(s_sl00In (IntKind.wrap .i64 (List.getD x1 (Int.toNat x0) ((0, 0) : (Int × Int))).1) 1 30)) (some [.v (.bool false)]) (cond (inB x0 (List.length x1)) (cond (decide ((IntKind.wrap .u64 ((List.length x1 : Nat) : Int)) < 0)) none (cond ((bShr .u16 (List.getD x1 (Int.toNat x0) ((0, 0) : (Int × Int))).2 (IntKind.wrap .u64 ((List.length x1 : Nat) : Int))) != 0) (some [.v (.bool false)]) (f_sl07Ok_L r 4 (f_sl07Ok_s4 (IntKind.wrap .i64 (x0 + 1)) x1)))) none)) none) (Option.bind (s_sl07Order x1) fun r1 => (some [.v (.bool r1.2)]))) = some r) : f_sl07Ok_L r 4 (f_sl07Ok_s4 x0 x1) = some r :=
  step_of' h (by kernel_rfl)
noncomputable def f_sl07Ok_n4 (x0 : Int) (x1 : (List (Int × Int))) : Option ((Int × (List (Int × Int))) ⊕ Bool) := (cond (decide (x0 < ((List.length x1 : Nat) : Int))) (cond (inB x0 (List.length x1)) (cond (!(s_sl00In (IntKind.wrap .i64 (List.getD x1 (Int.toNat x0) ((0, 0) : (Int × Int))).1) 1 30)) (some (Sum.inr false)) (cond (inB x0 (List.length x1)) (cond (decide ((IntKind.wrap .u64 ((List.length x1 : Nat) : Int)) < 0)) none (cond ((bShr .u16 (List.getD x1 (Int.toNat x0) ((0, 0) : (Int × Int))).2 (IntKind.wrap .u64 ((List.length x1 : Nat) : Int))) != 0) (some (Sum.inr false)) (some (Sum.inl ((IntKind.wrap .i64 (x0 + 1)), x1))))) none)) none) (Option.bind (s_sl07Order x1) fun r1 => (some (Sum.inr (r1.2)))))
noncomputable def f_sl07Ok_run4 (x : (Int × (List (Int × Int)))) : Option Bool := iter (fun x => f_sl07Ok_n4 x.1 x.2) FU x
noncomputable def f_sl07Ok_G4 (r : List A) (x : (Int × (List (Int × Int)))) : Prop := f_sl07Ok_L r 4 (f_sl07Ok_s4 x.1 x.2) = some r
noncomputable def f_sl07Ok_S4 (r : List A) : Bool → Prop := fun v => r = l_sl07Ok v
theorem f_sl07Ok_go4 (r : List A) : ∀ x, sem (f_sl07Ok_S4 r) (f_sl07Ok_run4 x) → f_sl07Ok_G4 r x :=
  fun x => iter_sound (step := fun x => f_sl07Ok_n4 x.1 x.2) (fun x h => by
    unfold f_sl07Ok_n4 at h
    exact f_sl07Ok_step4 x.1 x.2 r ((sem_cond h (fun h => (sem_cond h (fun h => (sem_cond h (fun h => sem_got h fun q => some_eq q) (fun h => (sem_cond h (fun h => (sem_cond h (fun h => sem_none h) (fun h => (sem_cond h (fun h => sem_got h fun q => some_eq q) (fun h => sem_got h fun q => q))))) (fun h => sem_none h))))) (fun h => sem_none h))) (fun h => (sem_bind h fun r1 h => sem_got h fun q => some_eq q))))) FU x
noncomputable def s_sl07Ok (a0 : (List (Int × Int))) : Option Bool := (cond (decide (((List.length a0 : Nat) : Int) > 12)) (some false) (f_sl07Ok_run4 (0, a0)))
theorem f_sl07Ok_top (a0 : (List (Int × Int))) (r : List A) : ev f_sl07Ok_X (lpc (cnOf f_sl07Ok_LV) (f_sl07Ok_L r)) f_sl07Ok_c (K0 TT f_sl07Ok_rv) (enter [.lst (.st [(.i .i8), (.i .u16)]) a0]) = (cond (decide (((List.length a0 : Nat) : Int) > 12)) (some [.v (.bool false)]) (f_sl07Ok_L r 4 (f_sl07Ok_s4 0 a0))) := by kernel_rfl
theorem s_sl07Ok_ok (a0 : (List (Int × Int))) (v : Bool) (h : s_sl07Ok a0 = some v) : (cond (decide (((List.length a0 : Nat) : Int) > 12)) (some [.v (.bool false)]) (f_sl07Ok_L (l_sl07Ok v) 4 (f_sl07Ok_s4 0 a0))) = some (l_sl07Ok v) := by
  unfold s_sl07Ok at h
  have go : ∀ r, sem (fun v => r = l_sl07Ok v) ((cond (decide (((List.length a0 : Nat) : Int) > 12)) (some false) (f_sl07Ok_run4 (0, a0)))) → (cond (decide (((List.length a0 : Nat) : Int) > 12)) (some [.v (.bool false)]) (f_sl07Ok_L r 4 (f_sl07Ok_s4 0 a0))) = some r := fun r h => (sem_cond h (fun h => sem_got h fun q => some_eq q) (fun h => f_sl07Ok_go4 r _ h))
  exact go (l_sl07Ok v) ⟨v, h, rfl⟩
noncomputable def c_sl07Ok : List A → ACall
  | [.lst (.st [(.i .i8), (.i .u16)]) a0] => ⟨Bool, s_sl07Ok a0, fun r => .one (.v (.bool r))⟩
  | _ => ACall.fail
theorem f_sl07Ok_sound : Sound Tryd.prog 76 c_sl07Ok := by
  refine sound_good f_sl07Ok_ctx f_sl07Ok_LV 1 Tryd.func76 (c := f_sl07Ok_c) (by kernel_rfl) (rv := f_sl07Ok_rv) (by kernel_rfl) (by kernel_rfl) (by kernel_rfl) (by kernel_rfl) fun rs => ?_
  unfold c_sl07Ok
  split
  · rename_i a0; intro v h; exact ⟨rfl, l_sl07Ok v, rfl, (f_sl07Ok_top a0 _).trans (s_sl07Ok_ok a0 v h)⟩
  · intro v h; cases h

/-! ### function 97: loop.example/g01322/spec.l07Waits -/
noncomputable def f_sl07Waits_c : Code := match Tryd.f97.body with | some c => c | none => .skip
noncomputable def f_sl07Waits_X : Ctx := ⟨TT, phiOf [], noPsi, noXi⟩
def f_sl07Waits_LV : List (Nat × Keep) := []
def f_sl07Waits_rv : List ResultVar := [.tmp 6]
noncomputable def f_sl07Waits_L (r : List A) : Nat → AS → Option (List A) := L f_sl07Waits_X (cnOf f_sl07Waits_LV) f_sl07Waits_c (K0 TT f_sl07Waits_rv) r
theorem f_sl07Waits_ctx : CtxOK Tryd.prog f_sl07Waits_X := ctx_of tab mix trivial
noncomputable def s_sl07Waits (a0 : (List (Int × Int))) (a1 : Int) (a2 : Int) : Option Bool := (cond (inB a1 (List.length a0)) (cond (decide ((IntKind.wrap .u64 a2) < 0)) none (some ((Int.tmod (bShr .u16 (List.getD a0 (Int.toNat a1) ((0, 0) : (Int × Int))).2 (IntKind.wrap .u64 a2)) 2) == 1))) none)
theorem f_sl07Waits_top (a0 : (List (Int × Int))) (a1 : Int) (a2 : Int) (r : List A) : ev f_sl07Waits_X (lpc (cnOf f_sl07Waits_LV) (f_sl07Waits_L r)) f_sl07Waits_c (K0 TT f_sl07Waits_rv) (enter [.lst (.st [(.i .i8), (.i .u16)]) a0, .v (.int .i64 a1), .v (.int .i64 a2)]) = (cond (inB a1 (List.length a0)) (cond (decide ((IntKind.wrap .u64 a2) < 0)) none (some [.v (.bool ((Int.tmod (bShr .u16 (List.getD a0 (Int.toNat a1) ((0, 0) : (Int × Int))).2 (IntKind.wrap .u64 a2)) 2) == 1))])) none) := by kernel_rfl
noncomputable def l_sl07Waits (r : Bool) : List A := [.v (.bool r)]
theorem s_sl07Waits_ok (a0 : (List (Int × Int))) (a1 : Int) (a2 : Int) (v : Bool) (h : s_sl07Waits a0 a1 a2 = some v) : (cond (inB a1 (List.length a0)) (cond (decide ((IntKind.wrap .u64 a2) < 0)) none (some [.v (.bool ((Int.tmod (bShr .u16 (List.getD a0 (Int.toNat a1) ((0, 0) : (Int × Int))).2 (IntKind.wrap .u64 a2)) 2) == 1))])) none) = some (l_sl07Waits v) := by
  have e : (cond (inB a1 (List.length a0)) (cond (decide ((IntKind.wrap .u64 a2) < 0)) none (some [.v (.bool ((Int.tmod (bShr .u16 (List.getD a0 (Int.toNat a1) ((0, 0) : (Int × Int))).2 (IntKind.wrap .u64 a2)) 2) == 1))])) none) = Option.map l_sl07Waits (s_sl07Waits a0 a1 a2) := by
    unfold s_sl07Waits
    exact (cond_app (Option.map l_sl07Waits) (cond_app (Option.map l_sl07Waits) rfl rfl) rfl)
  rw [e, h]; rfl
noncomputable def c_sl07Waits : List A → ACall
  | [.lst (.st [(.i .i8), (.i .u16)]) a0, .v (.int .i64 a1), .v (.int .i64 a2)] => ⟨Bool, s_sl07Waits a0 a1 a2, fun r => .one (.v (.bool r))⟩
  | _ => ACall.fail
theorem f_sl07Waits_sound : Sound Tryd.prog 97 c_sl07Waits := by
  refine sound_good f_sl07Waits_ctx f_sl07Waits_LV 3 Tryd.func97 (c := f_sl07Waits_c) (by kernel_rfl) (rv := f_sl07Waits_rv) (by kernel_rfl) (by kernel_rfl) (by kernel_rfl) (by kernel_rfl) fun rs => ?_
  unfold c_sl07Waits
  split
  · rename_i a0 a1 a2; intro v h; exact ⟨rfl, l_sl07Waits v, rfl, (f_sl07Waits_top a0 a1 a2 _).trans (s_sl07Waits_ok a0 a1 a2 v h)⟩
  · intro v h; cases h

/-! ### function 77: loop.example/g01322/spec.l07Text -/
noncomputable def f_sl07Text_c : Code := match Tryd.f77.body with | some c => c | none => .skip
noncomputable def f_sl07Text_X : Ctx := ⟨TT, phiOf [(96, c_sDecimal_z), (97, c_sl07Waits)], noPsi, noXi⟩
def f_sl07Text_LV : List (Nat × Keep) := [(3, ([0, 3, 4], [], [])), (9, ([0, 3, 4, 5], [], []))]
def f_sl07Text_rv : List ResultVar := [.tmp 2]
noncomputable def f_sl07Text_L (r : List A) : Nat → AS → Option (List A) := L f_sl07Text_X (cnOf f_sl07Text_LV) f_sl07Text_c (K0 TT f_sl07Text_rv) r
theorem f_sl07Text_ctx : CtxOK Tryd.prog f_sl07Text_X := ctx_of tab mix ⟨⟨Tryd.call96, f_sDecimal_z_sound⟩, ⟨Tryd.call97, f_sl07Waits_sound⟩, trivial⟩
noncomputable def f_sl07Text_s3 (x0 : ByteArray) (x1 : Int) (x2 : (List (Int × Int))) : AS := ⟨[(0, .a (.sl 0)), (3, .a (.v (.string x0))), (4, .a (.v (.int .i64 x1)))], [(0, some ⟨false, .arr (.st [(.i .i8), (.i .u16)]) x2⟩)], 1⟩
noncomputable def f_sl07Text_s9 (x0 : ByteArray) (x1 : Int) (x2 : Int) (x3 : (List (Int × Int))) : AS := ⟨[(0, .a (.sl 0)), (3, .a (.v (.string x0))), (4, .a (.v (.int .i64 x1))), (5, .a (.v (.int .i64 x2)))], [(0, some ⟨false, .arr (.st [(.i .i8), (.i .u16)]) x3⟩)], 1⟩
noncomputable def l_sl07Text (r : ByteArray) : List A := [.v (.string r)]
theorem f_sl07Text_step9 (x0 : ByteArray) (x1 : Int) (x2 : Int) (x3 : (List (Int × Int))) (r : List A) (h : (cond (decide (x2 < ((List.length x3 : Nat) : Int))) (Option.bind (s_sl07Waits x3 x1 x2) fun r3 => (cond r3 (Option.bind (s_sDecimal_z x2) fun r4 => (cond (fits ((⟨#[44]⟩ : ByteArray).size + r4.size)) (cond (fits (x0.size + ((⟨#[44]⟩ : ByteArray) ++ r4).size)) (f_sl07Text_L r 9 (f_sl07Text_s9 (x0 ++ ((⟨#[44]⟩ : ByteArray) ++ r4)) x1 (IntKind.wrap .i64 (x2 + 1)) x3)) none) none)) (f_sl07Text_L r 9 (f_sl07Text_s9 x0 x1 (IntKind.wrap .i64 (x2 + 1)) x3)))) (f_sl07Text_L r 3 (f_sl07Text_s3 x0 (IntKind.wrap .i64 (x1 + 1)) x3))) = some r) : f_sl07Text_L r 9 (f_sl07Text_s9 x0 x1 x2 x3) = some r :=
  step_of' h (by kernel_rfl)
noncomputable def f_sl07Text_n9 (x0 : ByteArray) (x1 : Int) (x2 : Int) (x3 : (List (Int × Int))) : Option ((ByteArray × Int × Int × (List (Int × Int))) ⊕ ((ByteArray × Int × (List (Int × Int))) ⊕ ByteArray)) := (cond (decide (x2 < ((List.length x3 : Nat) : Int))) (Option.bind (s_sl07Waits x3 x1 x2) fun r3 => (cond r3 (Option.bind (s_sDecimal_z x2) fun r4 => (cond (fits ((⟨#[44]⟩ : ByteArray).size + r4.size)) (cond (fits (x0.size + ((⟨#[44]⟩ : ByteArray) ++ r4).size)) (some (Sum.inl ((x0 ++ ((⟨#[44]⟩ : ByteArray) ++ r4)), x1, (IntKind.wrap .i64 (x2 + 1)), x3))) none) none)) (some (Sum.inl (x0, x1, (IntKind.wrap .i64 (x2 + 1)), x3))))) (some (Sum.inr (Sum.inl (x0, (IntKind.wrap .i64 (x1 + 1)), x3)))))
noncomputable def f_sl07Text_run9 (x : (ByteArray × Int × Int × (List (Int × Int)))) : Option ((ByteArray × Int × (List (Int × Int))) ⊕ ByteArray) := iter (fun x => f_sl07Text_n9 x.1 x.2.1 x.2.2.1 x.2.2.2) FU x
noncomputable def f_sl07Text_G9 (r : List A) (x : (ByteArray × Int × Int × (List (Int × Int)))) : Prop := f_sl07Text_L r 9 (f_sl07Text_s9 x.1 x.2.1 x.2.2.1 x.2.2.2) = some r
theorem f_sl07Text_step3 (x0 : ByteArray) (x1 : Int) (x2 : (List (Int × Int))) (r : List A) (h : (cond (decide (x1 < ((List.length x2 : Nat) : Int))) (cond (decide (x1 > 0)) (cond (fits (x0.size + (⟨#[32]⟩ : ByteArray).size)) (cond (inB x1 (List.length x2)) (Option.bind (s_sDecimal_z (IntKind.wrap .i64 (List.getD x2 (Int.toNat x1) ((0, 0) : (Int × Int))).1)) fun r1 => (cond (fits ((x0 ++ (⟨#[32]⟩ : ByteArray)).size + r1.size)) (f_sl07Text_L r 9 (f_sl07Text_s9 ((x0 ++ (⟨#[32]⟩ : ByteArray)) ++ r1) x1 0 x2)) none)) none) none) (cond (inB x1 (List.length x2)) (Option.bind (s_sDecimal_z (IntKind.wrap .i64 (List.getD x2 (Int.toNat x1) ((0, 0) : (Int × Int))).1)) fun r2 => (cond (fits (x0.size + r2.size)) (f_sl07Text_L r 9 (f_sl07Text_s9 (x0 ++ r2) x1 0 x2)) none)) none)) (some [.v (.string x0)])) = some r) : f_sl07Text_L r 3 (f_sl07Text_s3 x0 x1 x2) = some r :=
  step_of' h (by kernel_rfl)
noncomputable def f_sl07Text_n3 (x0 : ByteArray) (x1 : Int) (x2 : (List (Int × Int))) : Option ((ByteArray × Int × (List (Int × Int))) ⊕ ByteArray) := (cond (decide (x1 < ((List.length x2 : Nat) : Int))) (cond (decide (x1 > 0)) (cond (fits (x0.size + (⟨#[32]⟩ : ByteArray).size)) (cond (inB x1 (List.length x2)) (Option.bind (s_sDecimal_z (IntKind.wrap .i64 (List.getD x2 (Int.toNat x1) ((0, 0) : (Int × Int))).1)) fun r1 => (cond (fits ((x0 ++ (⟨#[32]⟩ : ByteArray)).size + r1.size)) (f_sl07Text_run9 (((x0 ++ (⟨#[32]⟩ : ByteArray)) ++ r1), x1, 0, x2)) none)) none) none) (cond (inB x1 (List.length x2)) (Option.bind (s_sDecimal_z (IntKind.wrap .i64 (List.getD x2 (Int.toNat x1) ((0, 0) : (Int × Int))).1)) fun r2 => (cond (fits (x0.size + r2.size)) (f_sl07Text_run9 ((x0 ++ r2), x1, 0, x2)) none)) none)) (some (Sum.inr x0)))
noncomputable def f_sl07Text_run3 (x : (ByteArray × Int × (List (Int × Int)))) : Option ByteArray := iter (fun x => f_sl07Text_n3 x.1 x.2.1 x.2.2) FU x
noncomputable def f_sl07Text_G3 (r : List A) (x : (ByteArray × Int × (List (Int × Int)))) : Prop := f_sl07Text_L r 3 (f_sl07Text_s3 x.1 x.2.1 x.2.2) = some r
noncomputable def f_sl07Text_S3 (r : List A) : ByteArray → Prop := fun v => r = l_sl07Text v
noncomputable def f_sl07Text_S9 (r : List A) : ((ByteArray × Int × (List (Int × Int))) ⊕ ByteArray) → Prop := goesOn (f_sl07Text_G3 r) (f_sl07Text_S3 r)
theorem f_sl07Text_go9 (r : List A) : ∀ x, sem (f_sl07Text_S9 r) (f_sl07Text_run9 x) → f_sl07Text_G9 r x :=
  fun x => iter_sound (step := fun x => f_sl07Text_n9 x.1 x.2.1 x.2.2.1 x.2.2.2) (fun x h => by
    unfold f_sl07Text_n9 at h
    exact f_sl07Text_step9 x.1 x.2.1 x.2.2.1 x.2.2.2 r ((sem_cond h (fun h => (sem_bind h fun r3 h => (sem_cond h (fun h => (sem_bind h fun r4 h => (sem_cond h (fun h => (sem_cond h (fun h => sem_got h fun q => q) (fun h => sem_none h))) (fun h => sem_none h)))) (fun h => sem_got h fun q => q)))) (fun h => sem_got h fun q => q)))) FU x
theorem f_sl07Text_go3 (r : List A) : ∀ x, sem (f_sl07Text_S3 r) (f_sl07Text_run3 x) → f_sl07Text_G3 r x :=
  fun x => iter_sound (step := fun x => f_sl07Text_n3 x.1 x.2.1 x.2.2) (fun x h => by
    unfold f_sl07Text_n3 at h
    exact f_sl07Text_step3 x.1 x.2.1 x.2.2 r ((sem_cond h (fun h => (sem_cond h (fun h => (sem_cond h (fun h => (sem_cond h (fun h => (sem_bind h fun r1 h => (sem_cond h (fun h => f_sl07Text_go9 r _ h) (fun h => sem_none h)))) (fun h => sem_none h))) (fun h => sem_none h))) (fun h => (sem_cond h (fun h => (sem_bind h fun r2 h => (sem_cond h (fun h => f_sl07Text_go9 r _ h) (fun h => sem_none h)))) (fun h => sem_none h))))) (fun h => sem_got h fun q => some_eq q)))) FU x
noncomputable def s_sl07Text (a0 : (List (Int × Int))) : Option ByteArray := (f_sl07Text_run3 ((⟨#[]⟩ : ByteArray), 0, a0))
theorem f_sl07Text_top (a0 : (List (Int × Int))) (r : List A) : ev f_sl07Text_X (lpc (cnOf f_sl07Text_LV) (f_sl07Text_L r)) f_sl07Text_c (K0 TT f_sl07Text_rv) (enter [.lst (.st [(.i .i8), (.i .u16)]) a0]) = (f_sl07Text_L r 3 (f_sl07Text_s3 (⟨#[]⟩ : ByteArray) 0 a0)) := by kernel_rfl
theorem s_sl07Text_ok (a0 : (List (Int × Int))) (v : ByteArray) (h : s_sl07Text a0 = some v) : (f_sl07Text_L (l_sl07Text v) 3 (f_sl07Text_s3 (⟨#[]⟩ : ByteArray) 0 a0)) = some (l_sl07Text v) := by
  unfold s_sl07Text at h
  have go : ∀ r, sem (fun v => r = l_sl07Text v) ((f_sl07Text_run3 ((⟨#[]⟩ : ByteArray), 0, a0))) → (f_sl07Text_L r 3 (f_sl07Text_s3 (⟨#[]⟩ : ByteArray) 0 a0)) = some r := fun r h => f_sl07Text_go3 r _ h
  exact go (l_sl07Text v) ⟨v, h, rfl⟩
noncomputable def c_sl07Text : List A → ACall
  | [.lst (.st [(.i .i8), (.i .u16)]) a0] => ⟨ByteArray, s_sl07Text a0, fun r => .one (.v (.string r))⟩
  | _ => ACall.fail
theorem f_sl07Text_sound : Sound Tryd.prog 77 c_sl07Text := by
  refine sound_good f_sl07Text_ctx f_sl07Text_LV 1 Tryd.func77 (c := f_sl07Text_c) (by kernel_rfl) (rv := f_sl07Text_rv) (by kernel_rfl) (by kernel_rfl) (by kernel_rfl) (by kernel_rfl) fun rs => ?_
  unfold c_sl07Text
  split
  · rename_i a0; intro v h; exact ⟨rfl, l_sl07Text v, rfl, (f_sl07Text_top a0 _).trans (s_sl07Text_ok a0 v h)⟩
  · intro v h; cases h

/-! ### function 33: loop.example/g01322/spec.ReadJobs -/
noncomputable def f_sReadJobs_c : Code := match Tryd.f33.body with | some c => c | none => .skip
noncomputable def f_sReadJobs_X : Ctx := ⟨TT, phiOf [(38, c_sl01Split), (39, c_sl01Number), (68, c_sl00Min), (76, c_sl07Ok), (77, c_sl07Text)], noPsi, noXi⟩
def f_sReadJobs_LV : List (Nat × Keep) := [(6, ([0, 4, 5, 6], [], [])), (12, ([0, 4, 5, 6, 7, 9, 10, 11], [], []))]
def f_sReadJobs_rv : List ResultVar := [.tmp 2, .tmp 3]
noncomputable def f_sReadJobs_L (r : List A) : Nat → AS → Option (List A) := L f_sReadJobs_X (cnOf f_sReadJobs_LV) f_sReadJobs_c (K0 TT f_sReadJobs_rv) r
theorem f_sReadJobs_ctx : CtxOK Tryd.prog f_sReadJobs_X := ctx_of tab mix ⟨⟨Tryd.call38, f_sl01Split_sound⟩, ⟨Tryd.call39, f_sl01Number_sound⟩, ⟨Tryd.call68, f_sl00Min_sound⟩, ⟨Tryd.call76, f_sl07Ok_sound⟩, ⟨Tryd.call77, f_sl07Text_sound⟩, trivial⟩
noncomputable def f_sReadJobs_s6 (x0 : ByteArray) (x1 : Int) (x2 : (List (Int × Int))) (x3 : (List ByteArray)) : AS := ⟨[(0, .a (.v (.string x0))), (4, .a (.sl 0)), (5, .a (.sl 1)), (6, .a (.v (.int .i64 x1)))], [(0, some ⟨true, .arr (.st [(.i .i8), (.i .u16)]) x2⟩), (1, some ⟨true, .arr (.one .s) x3⟩)], 2⟩
noncomputable def f_sReadJobs_s12 (x0 : ByteArray) (x1 : Int) (x2 : Bool) (x3 : Int) (x4 : (List (Int × Int))) (x5 : (List ByteArray)) (x6 : (List ByteArray)) (x7 : Int) (x8 : Int) : AS := ⟨[(0, .a (.v (.string x0))), (4, .a (.sl 0)), (5, .a (.sl 1)), (6, .a (.v (.int .i64 x1))), (7, .a (.sl 2)), (9, .a (.v (.bool x2))), (10, .a (.ptr 3 [] (0))), (11, .a (.v (.int .i64 x3)))], [(0, some ⟨true, .arr (.st [(.i .i8), (.i .u16)]) x4⟩), (1, some ⟨true, .arr (.one .s) x5⟩), (2, some ⟨true, .arr (.one .s) x6⟩), (3, some ⟨true, .box (.rc [.v (.int .i8 x7), .v (.int .u16 x8)])⟩)], 4⟩
noncomputable def l_sReadJobs (r : ((List (Int × Int)) × Int)) : List A := [.lst (.st [(.i .i8), (.i .u16)]) r.1, .v (.int .i64 r.2)]
theorem f_sReadJobs_step12 (x0 : ByteArray) (x1 : Int) (x2 : Bool) (x3 : Int) (x4 : (List (Int × Int))) (x5 : (List ByteArray)) (x6 : (List ByteArray)) (x7 : Int) (x8 : Int) (r : List A) (h : (cond (decide (x3 < ((List.length x6 : Nat) : Int))) (cond (inB x3 (List.length x6)) (Option.bind (s_sl01Number (List.getD x6 (Int.toNat x3) (⟨#[]⟩ : ByteArray))) fun r6 => (cond (!r6.2) (some [.lst (.st [(.i .i8), (.i .u16)]) [], .v (.int .i64 5)]) (cond (decide (r6.1 ≥ 12)) (some [.lst (.st [(.i .i8), (.i .u16)]) [], .v (.int .i64 5)]) (cond (decide ((IntKind.wrap .u64 r6.1) < 0)) none (f_sReadJobs_L r 12 (f_sReadJobs_s12 x0 x1 x2 (IntKind.wrap .i64 (x3 + 1)) x4 x5 x6 x7 (bOr .u16 x8 (bShl .u16 1 (IntKind.wrap .u64 r6.1))))))))) none) (cond (!x2) (some [.lst (.st [(.i .i8), (.i .u16)]) [], .v (.int .i64 5)]) (cond (fits ((List.length (x4 : List (Int × Int)) + List.length ([(x7, x8)] : List (Int × Int))) * 4)) (f_sReadJobs_L r 6 (f_sReadJobs_s6 x0 (IntKind.wrap .i64 (x1 + 1)) (x4 ++ [(x7, x8)]) x5)) none))) = some r) : f_sReadJobs_L r 12 (f_sReadJobs_s12 x0 x1 x2 x3 x4 x5 x6 x7 x8) = some r :=
  step_of' h (by kernel_rfl)
noncomputable def f_sReadJobs_n12 (x0 : ByteArray) (x1 : Int) (x2 : Bool) (x3 : Int) (x4 : (List (Int × Int))) (x5 : (List ByteArray)) (x6 : (List ByteArray)) (x7 : Int) (x8 : Int) : Option ((ByteArray × Int × Bool × Int × (List (Int × Int)) × (List ByteArray) × (List ByteArray) × Int × Int) ⊕ ((ByteArray × Int × (List (Int × Int)) × (List ByteArray)) ⊕ ((List (Int × Int)) × Int))) := (cond (decide (x3 < ((List.length x6 : Nat) : Int))) (cond (inB x3 (List.length x6)) (Option.bind (s_sl01Number (List.getD x6 (Int.toNat x3) (⟨#[]⟩ : ByteArray))) fun r6 => (cond (!r6.2) (some (Sum.inr (Sum.inr ([], 5)))) (cond (decide (r6.1 ≥ 12)) (some (Sum.inr (Sum.inr ([], 5)))) (cond (decide ((IntKind.wrap .u64 r6.1) < 0)) none (some (Sum.inl (x0, x1, x2, (IntKind.wrap .i64 (x3 + 1)), x4, x5, x6, x7, (bOr .u16 x8 (bShl .u16 1 (IntKind.wrap .u64 r6.1)))))))))) none) (cond (!x2) (some (Sum.inr (Sum.inr ([], 5)))) (cond (fits ((List.length (x4 : List (Int × Int)) + List.length ([(x7, x8)] : List (Int × Int))) * 4)) (some (Sum.inr (Sum.inl (x0, (IntKind.wrap .i64 (x1 + 1)), (x4 ++ [(x7, x8)]), x5)))) none)))
noncomputable def f_sReadJobs_run12 (x : (ByteArray × Int × Bool × Int × (List (Int × Int)) × (List ByteArray) × (List ByteArray) × Int × Int)) : Option ((ByteArray × Int × (List (Int × Int)) × (List ByteArray)) ⊕ ((List (Int × Int)) × Int)) := iter (fun x => f_sReadJobs_n12 x.1 x.2.1 x.2.2.1 x.2.2.2.1 x.2.2.2.2.1 x.2.2.2.2.2.1 x.2.2.2.2.2.2.1 x.2.2.2.2.2.2.2.1 x.2.2.2.2.2.2.2.2) FU x
noncomputable def f_sReadJobs_G12 (r : List A) (x : (ByteArray × Int × Bool × Int × (List (Int × Int)) × (List ByteArray) × (List ByteArray) × Int × Int)) : Prop := f_sReadJobs_L r 12 (f_sReadJobs_s12 x.1 x.2.1 x.2.2.1 x.2.2.2.1 x.2.2.2.2.1 x.2.2.2.2.2.1 x.2.2.2.2.2.2.1 x.2.2.2.2.2.2.2.1 x.2.2.2.2.2.2.2.2) = some r
theorem f_sReadJobs_step6 (x0 : ByteArray) (x1 : Int) (x2 : (List (Int × Int))) (x3 : (List ByteArray)) (r : List A) (h : (cond (decide (x1 < ((List.length x3 : Nat) : Int))) (cond (inB x1 (List.length x3)) (Option.bind (s_sl01Split (List.getD x3 (Int.toNat x1) (⟨#[]⟩ : ByteArray)) 44) fun r2 => (cond (inB 0 (List.length r2)) (Option.bind (s_sl01Number (List.getD r2 0 (⟨#[]⟩ : ByteArray))) fun r3 => (f_sReadJobs_L r 12 (f_sReadJobs_s12 x0 x1 r3.2 1 x2 x3 r2 (IntKind.wrap .i8 (s_sl00Min (r3.1) 31)) 0))) none)) none) (Option.bind (s_sl07Ok x2) fun r4 => (cond (!r4) (some [.lst (.st [(.i .i8), (.i .u16)]) [], .v (.int .i64 5)]) (Option.bind (s_sl07Text x2) fun r5 => (cond (!(r5.toList == x0.toList)) (some [.lst (.st [(.i .i8), (.i .u16)]) [], .v (.int .i64 5)]) (some [.lst (.st [(.i .i8), (.i .u16)]) x2, .v (.int .i64 0)])))))) = some r) : f_sReadJobs_L r 6 (f_sReadJobs_s6 x0 x1 x2 x3) = some r :=
  step_of' h (by kernel_rfl)
noncomputable def f_sReadJobs_n6 (x0 : ByteArray) (x1 : Int) (x2 : (List (Int × Int))) (x3 : (List ByteArray)) : Option ((ByteArray × Int × (List (Int × Int)) × (List ByteArray)) ⊕ ((List (Int × Int)) × Int)) := (cond (decide (x1 < ((List.length x3 : Nat) : Int))) (cond (inB x1 (List.length x3)) (Option.bind (s_sl01Split (List.getD x3 (Int.toNat x1) (⟨#[]⟩ : ByteArray)) 44) fun r2 => (cond (inB 0 (List.length r2)) (Option.bind (s_sl01Number (List.getD r2 0 (⟨#[]⟩ : ByteArray))) fun r3 => (f_sReadJobs_run12 (x0, x1, r3.2, 1, x2, x3, r2, (IntKind.wrap .i8 (s_sl00Min (r3.1) 31)), 0))) none)) none) (Option.bind (s_sl07Ok x2) fun r4 => (cond (!r4) (some (Sum.inr ([], 5))) (Option.bind (s_sl07Text x2) fun r5 => (cond (!(r5.toList == x0.toList)) (some (Sum.inr ([], 5))) (some (Sum.inr (x2, 0))))))))
noncomputable def f_sReadJobs_run6 (x : (ByteArray × Int × (List (Int × Int)) × (List ByteArray))) : Option ((List (Int × Int)) × Int) := iter (fun x => f_sReadJobs_n6 x.1 x.2.1 x.2.2.1 x.2.2.2) FU x
noncomputable def f_sReadJobs_G6 (r : List A) (x : (ByteArray × Int × (List (Int × Int)) × (List ByteArray))) : Prop := f_sReadJobs_L r 6 (f_sReadJobs_s6 x.1 x.2.1 x.2.2.1 x.2.2.2) = some r
noncomputable def f_sReadJobs_S6 (r : List A) : ((List (Int × Int)) × Int) → Prop := fun v => r = l_sReadJobs v
noncomputable def f_sReadJobs_S12 (r : List A) : ((ByteArray × Int × (List (Int × Int)) × (List ByteArray)) ⊕ ((List (Int × Int)) × Int)) → Prop := goesOn (f_sReadJobs_G6 r) (f_sReadJobs_S6 r)
theorem f_sReadJobs_go12 (r : List A) : ∀ x, sem (f_sReadJobs_S12 r) (f_sReadJobs_run12 x) → f_sReadJobs_G12 r x :=
  fun x => iter_sound (step := fun x => f_sReadJobs_n12 x.1 x.2.1 x.2.2.1 x.2.2.2.1 x.2.2.2.2.1 x.2.2.2.2.2.1 x.2.2.2.2.2.2.1 x.2.2.2.2.2.2.2.1 x.2.2.2.2.2.2.2.2) (fun x h => by
    unfold f_sReadJobs_n12 at h
    exact f_sReadJobs_step12 x.1 x.2.1 x.2.2.1 x.2.2.2.1 x.2.2.2.2.1 x.2.2.2.2.2.1 x.2.2.2.2.2.2.1 x.2.2.2.2.2.2.2.1 x.2.2.2.2.2.2.2.2 r ((sem_cond h (fun h => (sem_cond h (fun h => (sem_bind h fun r6 h => (sem_cond h (fun h => sem_got h fun q => some_eq q) (fun h => (sem_cond h (fun h => sem_got h fun q => some_eq q) (fun h => (sem_cond h (fun h => sem_none h) (fun h => sem_got h fun q => q)))))))) (fun h => sem_none h))) (fun h => (sem_cond h (fun h => sem_got h fun q => some_eq q) (fun h => (sem_cond h (fun h => sem_got h fun q => q) (fun h => sem_none h)))))))) FU x
theorem f_sReadJobs_go6 (r : List A) : ∀ x, sem (f_sReadJobs_S6 r) (f_sReadJobs_run6 x) → f_sReadJobs_G6 r x :=
  fun x => iter_sound (step := fun x => f_sReadJobs_n6 x.1 x.2.1 x.2.2.1 x.2.2.2) (fun x h => by
    unfold f_sReadJobs_n6 at h
    exact f_sReadJobs_step6 x.1 x.2.1 x.2.2.1 x.2.2.2 r ((sem_cond h (fun h => (sem_cond h (fun h => (sem_bind h fun r2 h => (sem_cond h (fun h => (sem_bind h fun r3 h => f_sReadJobs_go12 r _ h)) (fun h => sem_none h)))) (fun h => sem_none h))) (fun h => (sem_bind h fun r4 h => (sem_cond h (fun h => sem_got h fun q => some_eq q) (fun h => (sem_bind h fun r5 h => (sem_cond h (fun h => sem_got h fun q => some_eq q) (fun h => sem_got h fun q => some_eq q)))))))))) FU x
noncomputable def s_sReadJobs (a0 : ByteArray) : Option ((List (Int × Int)) × Int) := (cond (a0.toList == (⟨#[]⟩ : ByteArray).toList) (some ([], 0)) (Option.bind (s_sl01Split a0 32) fun r1 => (f_sReadJobs_run6 (a0, 0, [], r1))))
theorem f_sReadJobs_top (a0 : ByteArray) (r : List A) : ev f_sReadJobs_X (lpc (cnOf f_sReadJobs_LV) (f_sReadJobs_L r)) f_sReadJobs_c (K0 TT f_sReadJobs_rv) (enter [.v (.string a0)]) = (cond (a0.toList == (⟨#[]⟩ : ByteArray).toList) (some [.lst (.st [(.i .i8), (.i .u16)]) [], .v (.int .i64 0)]) (Option.bind (s_sl01Split a0 32) fun r1 => (f_sReadJobs_L r 6 (f_sReadJobs_s6 a0 0 [] r1)))) := by kernel_rfl
theorem s_sReadJobs_ok (a0 : ByteArray) (v : ((List (Int × Int)) × Int)) (h : s_sReadJobs a0 = some v) : (cond (a0.toList == (⟨#[]⟩ : ByteArray).toList) (some [.lst (.st [(.i .i8), (.i .u16)]) [], .v (.int .i64 0)]) (Option.bind (s_sl01Split a0 32) fun r1 => (f_sReadJobs_L (l_sReadJobs v) 6 (f_sReadJobs_s6 a0 0 [] r1)))) = some (l_sReadJobs v) := by
  unfold s_sReadJobs at h
  have go : ∀ r, sem (fun v => r = l_sReadJobs v) ((cond (a0.toList == (⟨#[]⟩ : ByteArray).toList) (some ([], 0)) (Option.bind (s_sl01Split a0 32) fun r1 => (f_sReadJobs_run6 (a0, 0, [], r1))))) → (cond (a0.toList == (⟨#[]⟩ : ByteArray).toList) (some [.lst (.st [(.i .i8), (.i .u16)]) [], .v (.int .i64 0)]) (Option.bind (s_sl01Split a0 32) fun r1 => (f_sReadJobs_L r 6 (f_sReadJobs_s6 a0 0 [] r1)))) = some r := fun r h => (sem_cond h (fun h => sem_got h fun q => some_eq q) (fun h => (sem_bind h fun r1 h => f_sReadJobs_go6 r _ h)))
  exact go (l_sReadJobs v) ⟨v, h, rfl⟩
noncomputable def c_sReadJobs : List A → ACall
  | [.v (.string a0)] => ⟨((List (Int × Int)) × Int), s_sReadJobs a0, fun r => .tup [.lst (.st [(.i .i8), (.i .u16)]) r.1, .v (.int .i64 r.2)]⟩
  | _ => ACall.fail
theorem f_sReadJobs_sound : Sound Tryd.prog 33 c_sReadJobs := by
  refine sound_good f_sReadJobs_ctx f_sReadJobs_LV 1 Tryd.func33 (c := f_sReadJobs_c) (by kernel_rfl) (rv := f_sReadJobs_rv) (by kernel_rfl) (by kernel_rfl) (by kernel_rfl) (by kernel_rfl) fun rs => ?_
  unfold c_sReadJobs
  split
  · rename_i a0; intro v h; exact ⟨rfl, l_sReadJobs v, rfl, (f_sReadJobs_top a0 _).trans (s_sReadJobs_ok a0 v h)⟩
  · intro v h; cases h

/-! ### function 121: loop.example/g01322/impl.indices -/
noncomputable def f_iindices_c : Code := match Tryd.f121.body with | some c => c | none => .skip
noncomputable def f_iindices_X : Ctx := ⟨TT, phiOf [], noPsi, noXi⟩
def f_iindices_LV : List (Nat × Keep) := [(3, ([3, 7, 8], [], []))]
def f_iindices_rv : List ResultVar := [.tmp 2]
noncomputable def f_iindices_L (r : List A) : Nat → AS → Option (List A) := L f_iindices_X (cnOf f_iindices_LV) f_iindices_c (K0 TT f_iindices_rv) r
theorem f_iindices_ctx : CtxOK Tryd.prog f_iindices_X := ctx_of tab mix trivial
noncomputable def f_iindices_s3 (x0 : Int) (x1 : Int) (x2 : (List Int)) : AS := ⟨[(3, .a (.sl 0)), (7, .a (.v (.int .i64 x0))), (8, .a (.v (.int .i64 x1)))], [(0, some ⟨true, .arr (.one (.i .i64)) x2⟩)], 1⟩
noncomputable def l_iindices (r : (List Int)) : List A := [.lst (.one (.i .i64)) r]
theorem f_iindices_step3 (x0 : Int) (x1 : Int) (x2 : (List Int)) (r : List A) (h : (cond (decide (x1 < x0)) (cond (fits ((List.length (x2 : List Int) + List.length ([x1] : List Int)) * 8)) (f_iindices_L r 3 (f_iindices_s3 x0 (IntKind.wrap .i64 (x1 + 1)) (x2 ++ [x1]))) none) (some [.lst (.one (.i .i64)) x2])) = some r) : f_iindices_L r 3 (f_iindices_s3 x0 x1 x2) = some r :=
  step_of' h (by kernel_rfl)
noncomputable def f_iindices_n3 (x0 : Int) (x1 : Int) (x2 : (List Int)) : Option ((Int × Int × (List Int)) ⊕ (List Int)) := (cond (decide (x1 < x0)) (cond (fits ((List.length (x2 : List Int) + List.length ([x1] : List Int)) * 8)) (some (Sum.inl (x0, (IntKind.wrap .i64 (x1 + 1)), (x2 ++ [x1])))) none) (some (Sum.inr x2)))
noncomputable def f_iindices_run3 (x : (Int × Int × (List Int))) : Option (List Int) := iter (fun x => f_iindices_n3 x.1 x.2.1 x.2.2) FU x
noncomputable def f_iindices_G3 (r : List A) (x : (Int × Int × (List Int))) : Prop := f_iindices_L r 3 (f_iindices_s3 x.1 x.2.1 x.2.2) = some r
noncomputable def f_iindices_S3 (r : List A) : (List Int) → Prop := fun v => r = l_iindices v
theorem f_iindices_go3 (r : List A) : ∀ x, sem (f_iindices_S3 r) (f_iindices_run3 x) → f_iindices_G3 r x :=
  fun x => iter_sound (step := fun x => f_iindices_n3 x.1 x.2.1 x.2.2) (fun x h => by
    unfold f_iindices_n3 at h
    exact f_iindices_step3 x.1 x.2.1 x.2.2 r ((sem_cond h (fun h => (sem_cond h (fun h => sem_got h fun q => q) (fun h => sem_none h))) (fun h => sem_got h fun q => some_eq q)))) FU x
noncomputable def s_iindices (a0 : (List (Int × Int))) : Option (List Int) := (f_iindices_run3 (((List.length a0 : Nat) : Int), 0, []))
theorem f_iindices_top (a0 : (List (Int × Int))) (r : List A) : ev f_iindices_X (lpc (cnOf f_iindices_LV) (f_iindices_L r)) f_iindices_c (K0 TT f_iindices_rv) (enter [.lst (.st [(.i .i8), (.i .u16)]) a0]) = (f_iindices_L r 3 (f_iindices_s3 ((List.length a0 : Nat) : Int) 0 [])) := by kernel_rfl
theorem s_iindices_ok (a0 : (List (Int × Int))) (v : (List Int)) (h : s_iindices a0 = some v) : (f_iindices_L (l_iindices v) 3 (f_iindices_s3 ((List.length a0 : Nat) : Int) 0 [])) = some (l_iindices v) := by
  unfold s_iindices at h
  have go : ∀ r, sem (fun v => r = l_iindices v) ((f_iindices_run3 (((List.length a0 : Nat) : Int), 0, []))) → (f_iindices_L r 3 (f_iindices_s3 ((List.length a0 : Nat) : Int) 0 [])) = some r := fun r h => f_iindices_go3 r _ h
  exact go (l_iindices v) ⟨v, h, rfl⟩
noncomputable def c_iindices : List A → ACall
  | [.lst (.st [(.i .i8), (.i .u16)]) a0] => ⟨(List Int), s_iindices a0, fun r => .one (.lst (.one (.i .i64)) r)⟩
  | _ => ACall.fail
theorem f_iindices_sound : Sound Tryd.prog 121 c_iindices := by
  refine sound_good f_iindices_ctx f_iindices_LV 1 Tryd.func121 (c := f_iindices_c) (by kernel_rfl) (rv := f_iindices_rv) (by kernel_rfl) (by kernel_rfl) (by kernel_rfl) (by kernel_rfl) fun rs => ?_
  unfold c_iindices
  split
  · rename_i a0; intro v h; exact ⟨rfl, l_iindices v, rfl, (f_iindices_top a0 _).trans (s_iindices_ok a0 v h)⟩
  · intro v h; cases h

/-! ### function 122: loop.example/g01322/impl.order$1 -/
noncomputable def f_iorder_1_c : Code := match Tryd.f122.body with | some c => c | none => .skip
noncomputable def f_iorder_1_X : Ctx := ⟨TT, phiOf [], noPsi, noXi⟩
def f_iorder_1_LV : List (Nat × Keep) := []
def f_iorder_1_rv : List ResultVar := [.tmp 4]
noncomputable def f_iorder_1_L (r : List A) : Nat → AS → Option (List A) := L f_iorder_1_X (cnOf f_iorder_1_LV) f_iorder_1_c (K0 TT f_iorder_1_rv) r
theorem f_iorder_1_ctx : CtxOK Tryd.prog f_iorder_1_X := ctx_of tab mix trivial
noncomputable def s_iorder_1 (a0 : Int) (a1 : Int) (a2 : (List (Int × Int))) : Option Bool := (cond (decide (a0 < 0)) none (cond ((bAnd .u16 (bShr .u16 a1 a0) 1) == 0) (cond (inB a0 (List.length a2)) (some ((bAndNot .u16 (List.getD a2 (Int.toNat a0) ((0, 0) : (Int × Int))).2 a1) == 0)) none) (some false)))
theorem f_iorder_1_top (a0 : Int) (a1 : Int) (a2 : (List (Int × Int))) (r : List A) : ev f_iorder_1_X (lpc (cnOf f_iorder_1_LV) (f_iorder_1_L r)) f_iorder_1_c (K0 TT f_iorder_1_rv) (enter [.v (.int .i64 a0), .ref (.v (.int .u16 a1)), .ref (.lst (.st [(.i .i8), (.i .u16)]) a2)]) = (cond (decide (a0 < 0)) none (cond ((bAnd .u16 (bShr .u16 a1 a0) 1) == 0) (cond (inB a0 (List.length a2)) (some [.v (.bool ((bAndNot .u16 (List.getD a2 (Int.toNat a0) ((0, 0) : (Int × Int))).2 a1) == 0))]) none) (some [.v (.bool false)]))) := by kernel_rfl
noncomputable def l_iorder_1 (r : Bool) : List A := [.v (.bool r)]
theorem s_iorder_1_ok (a0 : Int) (a1 : Int) (a2 : (List (Int × Int))) (v : Bool) (h : s_iorder_1 a0 a1 a2 = some v) : (cond (decide (a0 < 0)) none (cond ((bAnd .u16 (bShr .u16 a1 a0) 1) == 0) (cond (inB a0 (List.length a2)) (some [.v (.bool ((bAndNot .u16 (List.getD a2 (Int.toNat a0) ((0, 0) : (Int × Int))).2 a1) == 0))]) none) (some [.v (.bool false)]))) = some (l_iorder_1 v) := by
  have e : (cond (decide (a0 < 0)) none (cond ((bAnd .u16 (bShr .u16 a1 a0) 1) == 0) (cond (inB a0 (List.length a2)) (some [.v (.bool ((bAndNot .u16 (List.getD a2 (Int.toNat a0) ((0, 0) : (Int × Int))).2 a1) == 0))]) none) (some [.v (.bool false)]))) = Option.map l_iorder_1 (s_iorder_1 a0 a1 a2) := by
    unfold s_iorder_1
    exact (cond_app (Option.map l_iorder_1) rfl (cond_app (Option.map l_iorder_1) (cond_app (Option.map l_iorder_1) rfl rfl) rfl))
  rw [e, h]; rfl
noncomputable def c_iorder_1 : List A → ACall
  | [.v (.int .i64 a0), .ref (.v (.int .u16 a1)), .ref (.lst (.st [(.i .i8), (.i .u16)]) a2)] => ⟨Bool, s_iorder_1 a0 a1 a2, fun r => .one (.v (.bool r))⟩
  | _ => ACall.fail
theorem f_iorder_1_sound : Sound Tryd.prog 122 c_iorder_1 := by
  refine sound_good f_iorder_1_ctx f_iorder_1_LV 3 Tryd.func122 (c := f_iorder_1_c) (by kernel_rfl) (rv := f_iorder_1_rv) (by kernel_rfl) (by kernel_rfl) (by kernel_rfl) (by kernel_rfl) fun rs => ?_
  unfold c_iorder_1
  split
  · rename_i a0 a1 a2; intro v h; exact ⟨rfl, l_iorder_1 v, rfl, (f_iorder_1_top a0 a1 a2 _).trans (s_iorder_1_ok a0 a1 a2 v h)⟩
  · intro v h; cases h

/-! ### function 120: slices.IndexFunc[[]int,int] -/
noncomputable def f_gIndexFunc_int_a_c : Code := match Tryd.f120.body with | some c => c | none => .skip
noncomputable def f_gIndexFunc_int_a_X : Ctx := ⟨TT, phiOf [(122, c_iorder_1)], noPsi, noXi⟩
def f_gIndexFunc_int_a_LV : List (Nat × Keep) := [(2, ([0, 1, 7, 8], [], []))]
def f_gIndexFunc_int_a_rv : List ResultVar := [.tmp 4]
noncomputable def f_gIndexFunc_int_a_L (r : List A) : Nat → AS → Option (List A) := L f_gIndexFunc_int_a_X (cnOf f_gIndexFunc_int_a_LV) f_gIndexFunc_int_a_c (K0 TT f_gIndexFunc_int_a_rv) r
theorem f_gIndexFunc_int_a_ctx : CtxOK Tryd.prog f_gIndexFunc_int_a_X := ctx_of tab mix ⟨⟨Tryd.call122, f_iorder_1_sound⟩, trivial⟩
noncomputable def f_gIndexFunc_int_a_s2 (x0 : Int) (x1 : Int) (x2 : (List Int)) (x3 : Int) (x4 : (List (Int × Int))) : AS := ⟨[(0, .a (.sl 0)), (1, .a (.clo 122 [.ptr 1 [] (0), .ptr 2 [] (0)])), (7, .a (.v (.int .i64 x0))), (8, .a (.v (.int .i64 x1)))], [(0, some ⟨false, .arr (.one (.i .i64)) x2⟩), (1, some ⟨false, .box (.v (.int .u16 x3))⟩), (2, some ⟨false, .box (.sl 3)⟩), (3, some ⟨false, .arr (.st [(.i .i8), (.i .u16)]) x4⟩)], 4⟩
noncomputable def l_gIndexFunc_int_a (r : Int) : List A := [.v (.int .i64 r)]
theorem f_gIndexFunc_int_a_step2 (x0 : Int) (x1 : Int) (x2 : (List Int)) (x3 : Int) (x4 : (List (Int × Int))) (r : List A) (h : (cond (decide (x1 < x0)) (cond (inB x1 (List.length x2)) (Option.bind (s_iorder_1 (List.getD x2 (Int.toNat x1) 0) x3 x4) fun r1 => (cond r1 (some [.v (.int .i64 x1)]) (f_gIndexFunc_int_a_L r 2 (f_gIndexFunc_int_a_s2 x0 (IntKind.wrap .i64 (x1 + 1)) x2 x3 x4)))) none) (some [.v (.int .i64 (-1))])) = some r) : f_gIndexFunc_int_a_L r 2 (f_gIndexFunc_int_a_s2 x0 x1 x2 x3 x4) = some r :=
  step_of' h (by kernel_rfl)
noncomputable def f_gIndexFunc_int_a_n2 (x0 : Int) (x1 : Int) (x2 : (List Int)) (x3 : Int) (x4 : (List (Int × Int))) : Option ((Int × Int × (List Int) × Int × (List (Int × Int))) ⊕ Int) := (cond (decide (x1 < x0)) (cond (inB x1 (List.length x2)) (Option.bind (s_iorder_1 (List.getD x2 (Int.toNat x1) 0) x3 x4) fun r1 => (cond r1 (some (Sum.inr x1)) (some (Sum.inl (x0, (IntKind.wrap .i64 (x1 + 1)), x2, x3, x4))))) none) (some (Sum.inr (-1))))
noncomputable def f_gIndexFunc_int_a_run2 (x : (Int × Int × (List Int) × Int × (List (Int × Int)))) : Option Int := iter (fun x => f_gIndexFunc_int_a_n2 x.1 x.2.1 x.2.2.1 x.2.2.2.1 x.2.2.2.2) FU x
noncomputable def f_gIndexFunc_int_a_G2 (r : List A) (x : (Int × Int × (List Int) × Int × (List (Int × Int)))) : Prop := f_gIndexFunc_int_a_L r 2 (f_gIndexFunc_int_a_s2 x.1 x.2.1 x.2.2.1 x.2.2.2.1 x.2.2.2.2) = some r
noncomputable def f_gIndexFunc_int_a_S2 (r : List A) : Int → Prop := fun v => r = l_gIndexFunc_int_a v
theorem f_gIndexFunc_int_a_go2 (r : List A) : ∀ x, sem (f_gIndexFunc_int_a_S2 r) (f_gIndexFunc_int_a_run2 x) → f_gIndexFunc_int_a_G2 r x :=
  fun x => iter_sound (step := fun x => f_gIndexFunc_int_a_n2 x.1 x.2.1 x.2.2.1 x.2.2.2.1 x.2.2.2.2) (fun x h => by
    unfold f_gIndexFunc_int_a_n2 at h
    exact f_gIndexFunc_int_a_step2 x.1 x.2.1 x.2.2.1 x.2.2.2.1 x.2.2.2.2 r ((sem_cond h (fun h => (sem_cond h (fun h => (sem_bind h fun r1 h => (sem_cond h (fun h => sem_got h fun q => some_eq q) (fun h => sem_got h fun q => q)))) (fun h => sem_none h))) (fun h => sem_got h fun q => some_eq q)))) FU x
noncomputable def s_gIndexFunc_int_a (a0 : (List Int)) (a1 : Int) (a2 : (List (Int × Int))) : Option Int := (f_gIndexFunc_int_a_run2 (((List.length a0 : Nat) : Int), 0, a0, a1, a2))
theorem f_gIndexFunc_int_a_top (a0 : (List Int)) (a1 : Int) (a2 : (List (Int × Int))) (r : List A) : ev f_gIndexFunc_int_a_X (lpc (cnOf f_gIndexFunc_int_a_LV) (f_gIndexFunc_int_a_L r)) f_gIndexFunc_int_a_c (K0 TT f_gIndexFunc_int_a_rv) (enter [.lst (.one (.i .i64)) a0, .clo 122 [.ref (.v (.int .u16 a1)), .ref (.lst (.st [(.i .i8), (.i .u16)]) a2)]]) = (f_gIndexFunc_int_a_L r 2 (f_gIndexFunc_int_a_s2 ((List.length a0 : Nat) : Int) 0 a0 a1 a2)) := by kernel_rfl
theorem s_gIndexFunc_int_a_ok (a0 : (List Int)) (a1 : Int) (a2 : (List (Int × Int))) (v : Int) (h : s_gIndexFunc_int_a a0 a1 a2 = some v) : (f_gIndexFunc_int_a_L (l_gIndexFunc_int_a v) 2 (f_gIndexFunc_int_a_s2 ((List.length a0 : Nat) : Int) 0 a0 a1 a2)) = some (l_gIndexFunc_int_a v) := by
  unfold s_gIndexFunc_int_a at h
  have go : ∀ r, sem (fun v => r = l_gIndexFunc_int_a v) ((f_gIndexFunc_int_a_run2 (((List.length a0 : Nat) : Int), 0, a0, a1, a2))) → (f_gIndexFunc_int_a_L r 2 (f_gIndexFunc_int_a_s2 ((List.length a0 : Nat) : Int) 0 a0 a1 a2)) = some r := fun r h => f_gIndexFunc_int_a_go2 r _ h
  exact go (l_gIndexFunc_int_a v) ⟨v, h, rfl⟩
noncomputable def c_gIndexFunc_int_a : List A → ACall
  | [.lst (.one (.i .i64)) a0, .clo 122 [.ref (.v (.int .u16 a1)), .ref (.lst (.st [(.i .i8), (.i .u16)]) a2)]] => ⟨Int, s_gIndexFunc_int_a a0 a1 a2, fun r => .one (.v (.int .i64 r))⟩
  | _ => ACall.fail
theorem f_gIndexFunc_int_a_sound : Sound Tryd.prog 120 c_gIndexFunc_int_a := by
  refine sound_good f_gIndexFunc_int_a_ctx f_gIndexFunc_int_a_LV 2 Tryd.func120 (c := f_gIndexFunc_int_a_c) (by kernel_rfl) (rv := f_gIndexFunc_int_a_rv) (by kernel_rfl) (by kernel_rfl) (by kernel_rfl) (by kernel_rfl) fun rs => ?_
  unfold c_gIndexFunc_int_a
  split
  · rename_i a0 a1 a2; intro v h; exact ⟨rfl, l_gIndexFunc_int_a v, rfl, (f_gIndexFunc_int_a_top a0 a1 a2 _).trans (s_gIndexFunc_int_a_ok a0 a1 a2 v h)⟩
  · intro v h; cases h
def m_gIndexFunc_int_a : List A → Bool
  | [_, .clo 122 _] => true
  | _ => false

/-! ### function 100: loop.example/g01322/impl.order -/
noncomputable def f_iorder_c : Code := match Tryd.f100.body with | some c => c | none => .skip
noncomputable def f_iorder_X : Ctx := ⟨TT, phiOf [(120, c_gIndexFunc_int_a), (121, c_iindices)], noPsi, noXi⟩
def f_iorder_LV : List (Nat × Keep) := [(3, ([1, 3, 4, 8, 9], [], []))]
def f_iorder_rv : List ResultVar := [.tmp 2]
noncomputable def f_iorder_L (r : List A) : Nat → AS → Option (List A) := L f_iorder_X (cnOf f_iorder_LV) f_iorder_c (K0 TT f_iorder_rv) r
theorem f_iorder_ctx : CtxOK Tryd.prog f_iorder_X := ctx_of tab mix ⟨⟨Tryd.call120, f_gIndexFunc_int_a_sound⟩, ⟨Tryd.call121, f_iindices_sound⟩, trivial⟩
noncomputable def f_iorder_s3 (x0 : Int) (x1 : Int) (x2 : (List (Int × Int))) (x3 : (List Int)) (x4 : Int) : AS := ⟨[(1, .a (.ptr 0 [] (0))), (3, .a (.sl 2)), (4, .a (.ptr 3 [] (0))), (8, .a (.v (.int .i64 x0))), (9, .a (.v (.int .i64 x1)))], [(0, some ⟨true, .box (.sl 1)⟩), (1, some ⟨false, .arr (.st [(.i .i8), (.i .u16)]) x2⟩), (2, some ⟨true, .arr (.one (.i .i64)) x3⟩), (3, some ⟨true, .box (.v (.int .u16 x4))⟩)], 4⟩
noncomputable def l_iorder (r : (List Int)) : List A := [.lst (.one (.i .i64)) r]
theorem f_iorder_step3 (x0 : Int) (x1 : Int) (x2 : (List (Int × Int))) (x3 : (List Int)) (x4 : Int) (r : List A) (h : (cond (decide (x1 < x0)) (Option.bind (s_iindices x2) fun r1 => (Option.bind (s_gIndexFunc_int_a r1 x4 x2) fun r2 => (cond (decide (r2 < 0)) (some [.lst (.one (.i .i64)) x3]) (cond (fits ((List.length (x3 : List Int) + List.length ([r2] : List Int)) * 8)) (cond (decide (r2 < 0)) none (f_iorder_L r 3 (f_iorder_s3 x0 (IntKind.wrap .i64 (x1 + 1)) x2 (x3 ++ [r2]) (bOr .u16 x4 (bShl .u16 1 r2))))) none)))) (some [.lst (.one (.i .i64)) x3])) = some r) : f_iorder_L r 3 (f_iorder_s3 x0 x1 x2 x3 x4) = some r :=
  step_of' h (by kernel_rfl)
noncomputable def f_iorder_n3 (x0 : Int) (x1 : Int) (x2 : (List (Int × Int))) (x3 : (List Int)) (x4 : Int) : Option ((Int × Int × (List (Int × Int)) × (List Int) × Int) ⊕ (List Int)) := (cond (decide (x1 < x0)) (Option.bind (s_iindices x2) fun r1 => (Option.bind (s_gIndexFunc_int_a r1 x4 x2) fun r2 => (cond (decide (r2 < 0)) (some (Sum.inr x3)) (cond (fits ((List.length (x3 : List Int) + List.length ([r2] : List Int)) * 8)) (cond (decide (r2 < 0)) none (some (Sum.inl (x0, (IntKind.wrap .i64 (x1 + 1)), x2, (x3 ++ [r2]), (bOr .u16 x4 (bShl .u16 1 r2)))))) none)))) (some (Sum.inr x3)))
noncomputable def f_iorder_run3 (x : (Int × Int × (List (Int × Int)) × (List Int) × Int)) : Option (List Int) := iter (fun x => f_iorder_n3 x.1 x.2.1 x.2.2.1 x.2.2.2.1 x.2.2.2.2) FU x
noncomputable def f_iorder_G3 (r : List A) (x : (Int × Int × (List (Int × Int)) × (List Int) × Int)) : Prop := f_iorder_L r 3 (f_iorder_s3 x.1 x.2.1 x.2.2.1 x.2.2.2.1 x.2.2.2.2) = some r
noncomputable def f_iorder_S3 (r : List A) : (List Int) → Prop := fun v => r = l_iorder v
theorem f_iorder_go3 (r : List A) : ∀ x, sem (f_iorder_S3 r) (f_iorder_run3 x) → f_iorder_G3 r x :=
  fun x => iter_sound (step := fun x => f_iorder_n3 x.1 x.2.1 x.2.2.1 x.2.2.2.1 x.2.2.2.2) (fun x h => by
    unfold f_iorder_n3 at h
    exact f_iorder_step3 x.1 x.2.1 x.2.2.1 x.2.2.2.1 x.2.2.2.2 r ((sem_cond h (fun h => (sem_bind h fun r1 h => (sem_bind h fun r2 h => (sem_cond h (fun h => sem_got h fun q => some_eq q) (fun h => (sem_cond h (fun h => (sem_cond h (fun h => sem_none h) (fun h => sem_got h fun q => q))) (fun h => sem_none h))))))) (fun h => sem_got h fun q => some_eq q)))) FU x
noncomputable def s_iorder (a0 : (List (Int × Int))) : Option (List Int) := (f_iorder_run3 (((List.length a0 : Nat) : Int), 0, a0, [], 0))
theorem f_iorder_top (a0 : (List (Int × Int))) (r : List A) : ev f_iorder_X (lpc (cnOf f_iorder_LV) (f_iorder_L r)) f_iorder_c (K0 TT f_iorder_rv) (enter [.lst (.st [(.i .i8), (.i .u16)]) a0]) = (f_iorder_L r 3 (f_iorder_s3 ((List.length a0 : Nat) : Int) 0 a0 [] 0)) := by kernel_rfl
theorem s_iorder_ok (a0 : (List (Int × Int))) (v : (List Int)) (h : s_iorder a0 = some v) : (f_iorder_L (l_iorder v) 3 (f_iorder_s3 ((List.length a0 : Nat) : Int) 0 a0 [] 0)) = some (l_iorder v) := by
  unfold s_iorder at h
  have go : ∀ r, sem (fun v => r = l_iorder v) ((f_iorder_run3 (((List.length a0 : Nat) : Int), 0, a0, [], 0))) → (f_iorder_L r 3 (f_iorder_s3 ((List.length a0 : Nat) : Int) 0 a0 [] 0)) = some r := fun r h => f_iorder_go3 r _ h
  exact go (l_iorder v) ⟨v, h, rfl⟩
noncomputable def c_iorder : List A → ACall
  | [.lst (.st [(.i .i8), (.i .u16)]) a0] => ⟨(List Int), s_iorder a0, fun r => .one (.lst (.one (.i .i64)) r)⟩
  | _ => ACall.fail
theorem f_iorder_sound : Sound Tryd.prog 100 c_iorder := by
  refine sound_good f_iorder_ctx f_iorder_LV 1 Tryd.func100 (c := f_iorder_c) (by kernel_rfl) (rv := f_iorder_rv) (by kernel_rfl) (by kernel_rfl) (by kernel_rfl) (by kernel_rfl) fun rs => ?_
  unfold c_iorder
  split
  · rename_i a0; intro v h; exact ⟨rfl, l_iorder v, rfl, (f_iorder_top a0 _).trans (s_iorder_ok a0 v h)⟩
  · intro v h; cases h

/-! ### function 99: loop.example/g01322/impl.ValidJobs$1 -/
noncomputable def f_iValidJobs_1_c : Code := match Tryd.f99.body with | some c => c | none => .skip
noncomputable def f_iValidJobs_1_X : Ctx := ⟨TT, phiOf [(54, c_iwithin)], noPsi, noXi⟩
def f_iValidJobs_1_LV : List (Nat × Keep) := []
def f_iValidJobs_1_rv : List ResultVar := [.tmp 3]
noncomputable def f_iValidJobs_1_L (r : List A) : Nat → AS → Option (List A) := L f_iValidJobs_1_X (cnOf f_iValidJobs_1_LV) f_iValidJobs_1_c (K0 TT f_iValidJobs_1_rv) r
theorem f_iValidJobs_1_ctx : CtxOK Tryd.prog f_iValidJobs_1_X := ctx_of tab mix ⟨⟨Tryd.call54, f_iwithin_sound⟩, trivial⟩
noncomputable def s_iValidJobs_1 (a0 : Int) (a1 : Int) (a2 : Int) : Option Bool := (cond (!(s_iwithin (IntKind.wrap .i64 a0) 1 30)) (some true) (cond (decide (a2 < 0)) none (some ((bShr .u16 a1 a2) != 0))))
theorem f_iValidJobs_1_top (a0 : Int) (a1 : Int) (a2 : Int) (r : List A) : ev f_iValidJobs_1_X (lpc (cnOf f_iValidJobs_1_LV) (f_iValidJobs_1_L r)) f_iValidJobs_1_c (K0 TT f_iValidJobs_1_rv) (enter [.rc [.v (.int .i8 a0), .v (.int .u16 a1)], .ref (.v (.int .i64 a2))]) = (cond (!(s_iwithin (IntKind.wrap .i64 a0) 1 30)) (some [.v (.bool true)]) (cond (decide (a2 < 0)) none (some [.v (.bool ((bShr .u16 a1 a2) != 0))]))) := by kernel_rfl
noncomputable def l_iValidJobs_1 (r : Bool) : List A := [.v (.bool r)]
theorem s_iValidJobs_1_ok (a0 : Int) (a1 : Int) (a2 : Int) (v : Bool) (h : s_iValidJobs_1 a0 a1 a2 = some v) : (cond (!(s_iwithin (IntKind.wrap .i64 a0) 1 30)) (some [.v (.bool true)]) (cond (decide (a2 < 0)) none (some [.v (.bool ((bShr .u16 a1 a2) != 0))]))) = some (l_iValidJobs_1 v) := by
  have e : (cond (!(s_iwithin (IntKind.wrap .i64 a0) 1 30)) (some [.v (.bool true)]) (cond (decide (a2 < 0)) none (some [.v (.bool ((bShr .u16 a1 a2) != 0))]))) = Option.map l_iValidJobs_1 (s_iValidJobs_1 a0 a1 a2) := by
    unfold s_iValidJobs_1
    exact (cond_app (Option.map l_iValidJobs_1) rfl (cond_app (Option.map l_iValidJobs_1) rfl rfl))
  rw [e, h]; rfl
noncomputable def c_iValidJobs_1 : List A → ACall
  | [.rc [.v (.int .i8 a0), .v (.int .u16 a1)], .ref (.v (.int .i64 a2))] => ⟨Bool, s_iValidJobs_1 a0 a1 a2, fun r => .one (.v (.bool r))⟩
  | _ => ACall.fail
theorem f_iValidJobs_1_sound : Sound Tryd.prog 99 c_iValidJobs_1 := by
  refine sound_good f_iValidJobs_1_ctx f_iValidJobs_1_LV 2 Tryd.func99 (c := f_iValidJobs_1_c) (by kernel_rfl) (rv := f_iValidJobs_1_rv) (by kernel_rfl) (by kernel_rfl) (by kernel_rfl) (by kernel_rfl) fun rs => ?_
  unfold c_iValidJobs_1
  split
  · rename_i a0 a1 a2; intro v h; exact ⟨rfl, l_iValidJobs_1 v, rfl, (f_iValidJobs_1_top a0 a1 a2 _).trans (s_iValidJobs_1_ok a0 a1 a2 v h)⟩
  · intro v h; cases h

/-! ### function 119: slices.IndexFunc[[]loop.example/g01322/impl.Job,loop.example/g01322/impl.Job] -/
noncomputable def f_gIndexFunc_Job_a_c : Code := match Tryd.f119.body with | some c => c | none => .skip
noncomputable def f_gIndexFunc_Job_a_X : Ctx := ⟨TT, phiOf [(99, c_iValidJobs_1)], noPsi, noXi⟩
def f_gIndexFunc_Job_a_LV : List (Nat × Keep) := [(2, ([0, 1, 7, 8], [], []))]
def f_gIndexFunc_Job_a_rv : List ResultVar := [.tmp 4]
noncomputable def f_gIndexFunc_Job_a_L (r : List A) : Nat → AS → Option (List A) := L f_gIndexFunc_Job_a_X (cnOf f_gIndexFunc_Job_a_LV) f_gIndexFunc_Job_a_c (K0 TT f_gIndexFunc_Job_a_rv) r
theorem f_gIndexFunc_Job_a_ctx : CtxOK Tryd.prog f_gIndexFunc_Job_a_X := ctx_of tab mix ⟨⟨Tryd.call99, f_iValidJobs_1_sound⟩, trivial⟩
noncomputable def f_gIndexFunc_Job_a_s2 (x0 : Int) (x1 : Int) (x2 : (List (Int × Int))) (x3 : Int) : AS := ⟨[(0, .a (.sl 0)), (1, .a (.clo 99 [.ptr 1 [] (0)])), (7, .a (.v (.int .i64 x0))), (8, .a (.v (.int .i64 x1)))], [(0, some ⟨false, .arr (.st [(.i .i8), (.i .u16)]) x2⟩), (1, some ⟨false, .box (.v (.int .i64 x3))⟩)], 2⟩
noncomputable def l_gIndexFunc_Job_a (r : Int) : List A := [.v (.int .i64 r)]
theorem f_gIndexFunc_Job_a_step2 (x0 : Int) (x1 : Int) (x2 : (List (Int × Int))) (x3 : Int) (r : List A) (h : (cond (decide (x1 < x0)) (cond (inB x1 (List.length x2)) (Option.bind (s_iValidJobs_1 (List.getD x2 (Int.toNat x1) ((0, 0) : (Int × Int))).1 (List.getD x2 (Int.toNat x1) ((0, 0) : (Int × Int))).2 x3) fun r1 => (cond r1 (some [.v (.int .i64 x1)]) (f_gIndexFunc_Job_a_L r 2 (f_gIndexFunc_Job_a_s2 x0 (IntKind.wrap .i64 (x1 + 1)) x2 x3)))) none) (some [.v (.int .i64 (-1))])) = some r) : f_gIndexFunc_Job_a_L r 2 (f_gIndexFunc_Job_a_s2 x0 x1 x2 x3) = some r :=
  step_of' h (by kernel_rfl)
noncomputable def f_gIndexFunc_Job_a_n2 (x0 : Int) (x1 : Int) (x2 : (List (Int × Int))) (x3 : Int) : Option ((Int × Int × (List (Int × Int)) × Int) ⊕ Int) := (cond (decide (x1 < x0)) (cond (inB x1 (List.length x2)) (Option.bind (s_iValidJobs_1 (List.getD x2 (Int.toNat x1) ((0, 0) : (Int × Int))).1 (List.getD x2 (Int.toNat x1) ((0, 0) : (Int × Int))).2 x3) fun r1 => (cond r1 (some (Sum.inr x1)) (some (Sum.inl (x0, (IntKind.wrap .i64 (x1 + 1)), x2, x3))))) none) (some (Sum.inr (-1))))
noncomputable def f_gIndexFunc_Job_a_run2 (x : (Int × Int × (List (Int × Int)) × Int)) : Option Int := iter (fun x => f_gIndexFunc_Job_a_n2 x.1 x.2.1 x.2.2.1 x.2.2.2) FU x
noncomputable def f_gIndexFunc_Job_a_G2 (r : List A) (x : (Int × Int × (List (Int × Int)) × Int)) : Prop := f_gIndexFunc_Job_a_L r 2 (f_gIndexFunc_Job_a_s2 x.1 x.2.1 x.2.2.1 x.2.2.2) = some r
noncomputable def f_gIndexFunc_Job_a_S2 (r : List A) : Int → Prop := fun v => r = l_gIndexFunc_Job_a v
theorem f_gIndexFunc_Job_a_go2 (r : List A) : ∀ x, sem (f_gIndexFunc_Job_a_S2 r) (f_gIndexFunc_Job_a_run2 x) → f_gIndexFunc_Job_a_G2 r x :=
  fun x => iter_sound (step := fun x => f_gIndexFunc_Job_a_n2 x.1 x.2.1 x.2.2.1 x.2.2.2) (fun x h => by
    unfold f_gIndexFunc_Job_a_n2 at h
    exact f_gIndexFunc_Job_a_step2 x.1 x.2.1 x.2.2.1 x.2.2.2 r ((sem_cond h (fun h => (sem_cond h (fun h => (sem_bind h fun r1 h => (sem_cond h (fun h => sem_got h fun q => some_eq q) (fun h => sem_got h fun q => q)))) (fun h => sem_none h))) (fun h => sem_got h fun q => some_eq q)))) FU x
noncomputable def s_gIndexFunc_Job_a (a0 : (List (Int × Int))) (a1 : Int) : Option Int := (f_gIndexFunc_Job_a_run2 (((List.length a0 : Nat) : Int), 0, a0, a1))
theorem f_gIndexFunc_Job_a_top (a0 : (List (Int × Int))) (a1 : Int) (r : List A) : ev f_gIndexFunc_Job_a_X (lpc (cnOf f_gIndexFunc_Job_a_LV) (f_gIndexFunc_Job_a_L r)) f_gIndexFunc_Job_a_c (K0 TT f_gIndexFunc_Job_a_rv) (enter [.lst (.st [(.i .i8), (.i .u16)]) a0, .clo 99 [.ref (.v (.int .i64 a1))]]) = (f_gIndexFunc_Job_a_L r 2 (f_gIndexFunc_Job_a_s2 ((List.length a0 : Nat) : Int) 0 a0 a1)) := by kernel_rfl
theorem s_gIndexFunc_Job_a_ok (a0 : (List (Int × Int))) (a1 : Int) (v : Int) (h : s_gIndexFunc_Job_a a0 a1 = some v) : (f_gIndexFunc_Job_a_L (l_gIndexFunc_Job_a v) 2 (f_gIndexFunc_Job_a_s2 ((List.length a0 : Nat) : Int) 0 a0 a1)) = some (l_gIndexFunc_Job_a v) := by
  unfold s_gIndexFunc_Job_a at h
  have go : ∀ r, sem (fun v => r = l_gIndexFunc_Job_a v) ((f_gIndexFunc_Job_a_run2 (((List.length a0 : Nat) : Int), 0, a0, a1))) → (f_gIndexFunc_Job_a_L r 2 (f_gIndexFunc_Job_a_s2 ((List.length a0 : Nat) : Int) 0 a0 a1)) = some r := fun r h => f_gIndexFunc_Job_a_go2 r _ h
  exact go (l_gIndexFunc_Job_a v) ⟨v, h, rfl⟩
noncomputable def c_gIndexFunc_Job_a : List A → ACall
  | [.lst (.st [(.i .i8), (.i .u16)]) a0, .clo 99 [.ref (.v (.int .i64 a1))]] => ⟨Int, s_gIndexFunc_Job_a a0 a1, fun r => .one (.v (.int .i64 r))⟩
  | _ => ACall.fail
theorem f_gIndexFunc_Job_a_sound : Sound Tryd.prog 119 c_gIndexFunc_Job_a := by
  refine sound_good f_gIndexFunc_Job_a_ctx f_gIndexFunc_Job_a_LV 2 Tryd.func119 (c := f_gIndexFunc_Job_a_c) (by kernel_rfl) (rv := f_gIndexFunc_Job_a_rv) (by kernel_rfl) (by kernel_rfl) (by kernel_rfl) (by kernel_rfl) fun rs => ?_
  unfold c_gIndexFunc_Job_a
  split
  · rename_i a0 a1; intro v h; exact ⟨rfl, l_gIndexFunc_Job_a v, rfl, (f_gIndexFunc_Job_a_top a0 a1 _).trans (s_gIndexFunc_Job_a_ok a0 a1 v h)⟩
  · intro v h; cases h
def m_gIndexFunc_Job_a : List A → Bool
  | [_, .clo 99 _] => true
  | _ => false

/-! ### function 98: slices.ContainsFunc[[]loop.example/g01322/impl.Job,loop.example/g01322/impl.Job] -/
noncomputable def f_gContainsFunc_Job_a_c : Code := match Tryd.f98.body with | some c => c | none => .skip
noncomputable def f_gContainsFunc_Job_a_X : Ctx := ⟨TT, phiOf [(119, c_gIndexFunc_Job_a)], noPsi, noXi⟩
def f_gContainsFunc_Job_a_LV : List (Nat × Keep) := []
def f_gContainsFunc_Job_a_rv : List ResultVar := [.tmp 4]
noncomputable def f_gContainsFunc_Job_a_L (r : List A) : Nat → AS → Option (List A) := L f_gContainsFunc_Job_a_X (cnOf f_gContainsFunc_Job_a_LV) f_gContainsFunc_Job_a_c (K0 TT f_gContainsFunc_Job_a_rv) r
theorem f_gContainsFunc_Job_a_ctx : CtxOK Tryd.prog f_gContainsFunc_Job_a_X := ctx_of tab mix ⟨⟨Tryd.call119, f_gIndexFunc_Job_a_sound⟩, trivial⟩
noncomputable def s_gContainsFunc_Job_a (a0 : (List (Int × Int))) (a1 : Int) : Option Bool := (Option.bind (s_gIndexFunc_Job_a a0 a1) fun r1 => (some (decide (r1 ≥ 0))))
theorem f_gContainsFunc_Job_a_top (a0 : (List (Int × Int))) (a1 : Int) (r : List A) : ev f_gContainsFunc_Job_a_X (lpc (cnOf f_gContainsFunc_Job_a_LV) (f_gContainsFunc_Job_a_L r)) f_gContainsFunc_Job_a_c (K0 TT f_gContainsFunc_Job_a_rv) (enter [.lst (.st [(.i .i8), (.i .u16)]) a0, .clo 99 [.ref (.v (.int .i64 a1))]]) = (Option.bind (s_gIndexFunc_Job_a a0 a1) fun r1 => (some [.v (.bool (decide (r1 ≥ 0)))])) := by kernel_rfl
noncomputable def l_gContainsFunc_Job_a (r : Bool) : List A := [.v (.bool r)]
theorem s_gContainsFunc_Job_a_ok (a0 : (List (Int × Int))) (a1 : Int) (v : Bool) (h : s_gContainsFunc_Job_a a0 a1 = some v) : (Option.bind (s_gIndexFunc_Job_a a0 a1) fun r1 => (some [.v (.bool (decide (r1 ≥ 0)))])) = some (l_gContainsFunc_Job_a v) := by
  have e : (Option.bind (s_gIndexFunc_Job_a a0 a1) fun r1 => (some [.v (.bool (decide (r1 ≥ 0)))])) = Option.map l_gContainsFunc_Job_a (s_gContainsFunc_Job_a a0 a1) := by
    unfold s_gContainsFunc_Job_a
    exact (bind_app fun _ => rfl)
  rw [e, h]; rfl
noncomputable def c_gContainsFunc_Job_a : List A → ACall
  | [.lst (.st [(.i .i8), (.i .u16)]) a0, .clo 99 [.ref (.v (.int .i64 a1))]] => ⟨Bool, s_gContainsFunc_Job_a a0 a1, fun r => .one (.v (.bool r))⟩
  | _ => ACall.fail
theorem f_gContainsFunc_Job_a_sound : Sound Tryd.prog 98 c_gContainsFunc_Job_a := by
  refine sound_good f_gContainsFunc_Job_a_ctx f_gContainsFunc_Job_a_LV 2 Tryd.func98 (c := f_gContainsFunc_Job_a_c) (by kernel_rfl) (rv := f_gContainsFunc_Job_a_rv) (by kernel_rfl) (by kernel_rfl) (by kernel_rfl) (by kernel_rfl) fun rs => ?_
  unfold c_gContainsFunc_Job_a
  split
  · rename_i a0 a1; intro v h; exact ⟨rfl, l_gContainsFunc_Job_a v, rfl, (f_gContainsFunc_Job_a_top a0 a1 _).trans (s_gContainsFunc_Job_a_ok a0 a1 v h)⟩
  · intro v h; cases h
def m_gContainsFunc_Job_a : List A → Bool
  | [_, .clo 99 _] => true
  | _ => false

/-! ### function 78: loop.example/g01322/impl.ValidJobs -/
noncomputable def f_iValidJobs_c : Code := match Tryd.f78.body with | some c => c | none => .skip
noncomputable def f_iValidJobs_X : Ctx := ⟨TT, phiOf [(98, c_gContainsFunc_Job_a), (100, c_iorder)], noPsi, noXi⟩
def f_iValidJobs_LV : List (Nat × Keep) := []
def f_iValidJobs_rv : List ResultVar := [.tmp 2]
noncomputable def f_iValidJobs_L (r : List A) : Nat → AS → Option (List A) := L f_iValidJobs_X (cnOf f_iValidJobs_LV) f_iValidJobs_c (K0 TT f_iValidJobs_rv) r
theorem f_iValidJobs_ctx : CtxOK Tryd.prog f_iValidJobs_X := ctx_of tab mix ⟨⟨Tryd.call98, f_gContainsFunc_Job_a_sound⟩, ⟨Tryd.call100, f_iorder_sound⟩, trivial⟩
noncomputable def s_iValidJobs (a0 : (List (Int × Int))) : Option Bool := (cond (decide (((List.length a0 : Nat) : Int) ≤ 12)) (Option.bind (s_gContainsFunc_Job_a a0 ((List.length a0 : Nat) : Int)) fun r1 => (cond (!r1) (Option.bind (s_iorder a0) fun r2 => (some (((List.length r2 : Nat) : Int) == ((List.length a0 : Nat) : Int)))) (some false))) (some false))
theorem f_iValidJobs_top (a0 : (List (Int × Int))) (r : List A) : ev f_iValidJobs_X (lpc (cnOf f_iValidJobs_LV) (f_iValidJobs_L r)) f_iValidJobs_c (K0 TT f_iValidJobs_rv) (enter [.lst (.st [(.i .i8), (.i .u16)]) a0]) = (cond (decide (((List.length a0 : Nat) : Int) ≤ 12)) (Option.bind (s_gContainsFunc_Job_a a0 ((List.length a0 : Nat) : Int)) fun r1 => (cond (!r1) (Option.bind (s_iorder a0) fun r2 => (some [.v (.bool (((List.length r2 : Nat) : Int) == ((List.length a0 : Nat) : Int)))])) (some [.v (.bool false)]))) (some [.v (.bool false)])) := by kernel_rfl
noncomputable def l_iValidJobs (r : Bool) : List A := [.v (.bool r)]
theorem s_iValidJobs_ok (a0 : (List (Int × Int))) (v : Bool) (h : s_iValidJobs a0 = some v) : (cond (decide (((List.length a0 : Nat) : Int) ≤ 12)) (Option.bind (s_gContainsFunc_Job_a a0 ((List.length a0 : Nat) : Int)) fun r1 => (cond (!r1) (Option.bind (s_iorder a0) fun r2 => (some [.v (.bool (((List.length r2 : Nat) : Int) == ((List.length a0 : Nat) : Int)))])) (some [.v (.bool false)]))) (some [.v (.bool false)])) = some (l_iValidJobs v) := by
  have e : (cond (decide (((List.length a0 : Nat) : Int) ≤ 12)) (Option.bind (s_gContainsFunc_Job_a a0 ((List.length a0 : Nat) : Int)) fun r1 => (cond (!r1) (Option.bind (s_iorder a0) fun r2 => (some [.v (.bool (((List.length r2 : Nat) : Int) == ((List.length a0 : Nat) : Int)))])) (some [.v (.bool false)]))) (some [.v (.bool false)])) = Option.map l_iValidJobs (s_iValidJobs a0) := by
    unfold s_iValidJobs
    exact (cond_app (Option.map l_iValidJobs) (bind_app fun _ => (cond_app (Option.map l_iValidJobs) (bind_app fun _ => rfl) rfl)) rfl)
  rw [e, h]; rfl
noncomputable def c_iValidJobs : List A → ACall
  | [.lst (.st [(.i .i8), (.i .u16)]) a0] => ⟨Bool, s_iValidJobs a0, fun r => .one (.v (.bool r))⟩
  | _ => ACall.fail
theorem f_iValidJobs_sound : Sound Tryd.prog 78 c_iValidJobs := by
  refine sound_good f_iValidJobs_ctx f_iValidJobs_LV 1 Tryd.func78 (c := f_iValidJobs_c) (by kernel_rfl) (rv := f_iValidJobs_rv) (by kernel_rfl) (by kernel_rfl) (by kernel_rfl) (by kernel_rfl) fun rs => ?_
  unfold c_iValidJobs
  split
  · rename_i a0; intro v h; exact ⟨rfl, l_iValidJobs v, rfl, (f_iValidJobs_top a0 _).trans (s_iValidJobs_ok a0 v h)⟩
  · intro v h; cases h

/-! ### function 83: loop.example/g01322/impl.decimal -/
noncomputable def f_idecimal_c : Code := match Tryd.f83.body with | some c => c | none => .skip
noncomputable def f_idecimal_X : Ctx := ⟨TT, phiOf [(108, c_strconvFormatInt)], noPsi, noXi⟩
def f_idecimal_LV : List (Nat × Keep) := []
def f_idecimal_rv : List ResultVar := [.tmp 2]
noncomputable def f_idecimal_L (r : List A) : Nat → AS → Option (List A) := L f_idecimal_X (cnOf f_idecimal_LV) f_idecimal_c (K0 TT f_idecimal_rv) r
theorem f_idecimal_ctx : CtxOK Tryd.prog f_idecimal_X := ctx_of tab mix ⟨⟨Tryd.call108, f_strconvFormatInt_sound⟩, trivial⟩
noncomputable def s_idecimal (a0 : Int) : Option ByteArray := (Option.bind (s_strconvFormatInt a0 10) fun r1 => (some r1))
theorem f_idecimal_top (a0 : Int) (r : List A) : ev f_idecimal_X (lpc (cnOf f_idecimal_LV) (f_idecimal_L r)) f_idecimal_c (K0 TT f_idecimal_rv) (enter [.v (.int .i64 a0)]) = (Option.bind (s_strconvFormatInt a0 10) fun r1 => (some [.v (.string r1)])) := by kernel_rfl
noncomputable def l_idecimal (r : ByteArray) : List A := [.v (.string r)]
theorem s_idecimal_ok (a0 : Int) (v : ByteArray) (h : s_idecimal a0 = some v) : (Option.bind (s_strconvFormatInt a0 10) fun r1 => (some [.v (.string r1)])) = some (l_idecimal v) := by
  have e : (Option.bind (s_strconvFormatInt a0 10) fun r1 => (some [.v (.string r1)])) = Option.map l_idecimal (s_idecimal a0) := by
    unfold s_idecimal
    exact (bind_app fun _ => rfl)
  rw [e, h]; rfl
noncomputable def c_idecimal : List A → ACall
  | [.v (.int .i64 a0)] => ⟨ByteArray, s_idecimal a0, fun r => .one (.v (.string r))⟩
  | _ => ACall.fail
theorem f_idecimal_sound : Sound Tryd.prog 83 c_idecimal := by
  refine sound_good f_idecimal_ctx f_idecimal_LV 1 Tryd.func83 (c := f_idecimal_c) (by kernel_rfl) (rv := f_idecimal_rv) (by kernel_rfl) (by kernel_rfl) (by kernel_rfl) (by kernel_rfl) fun rs => ?_
  unfold c_idecimal
  split
  · rename_i a0; intro v h; exact ⟨rfl, l_idecimal v, rfl, (f_idecimal_top a0 _).trans (s_idecimal_ok a0 v h)⟩
  · intro v h; cases h

/-! ### function 101: (loop.example/g01322/impl.Job).waits -/
noncomputable def f_iJob_waits_c : Code := match Tryd.f101.body with | some c => c | none => .skip
noncomputable def f_iJob_waits_X : Ctx := ⟨TT, phiOf [], noPsi, noXi⟩
def f_iJob_waits_LV : List (Nat × Keep) := []
def f_iJob_waits_rv : List ResultVar := [.tmp 4]
noncomputable def f_iJob_waits_L (r : List A) : Nat → AS → Option (List A) := L f_iJob_waits_X (cnOf f_iJob_waits_LV) f_iJob_waits_c (K0 TT f_iJob_waits_rv) r
theorem f_iJob_waits_ctx : CtxOK Tryd.prog f_iJob_waits_X := ctx_of tab mix trivial
noncomputable def s_iJob_waits (a0 : Int) (a1 : Int) (a2 : Int) : Option Bool := (cond (decide (a2 < 0)) none (some ((bAnd .u16 (bShr .u16 a1 a2) 1) == 1)))
theorem f_iJob_waits_top (a0 : Int) (a1 : Int) (a2 : Int) (r : List A) : ev f_iJob_waits_X (lpc (cnOf f_iJob_waits_LV) (f_iJob_waits_L r)) f_iJob_waits_c (K0 TT f_iJob_waits_rv) (enter [.rc [.v (.int .i8 a0), .v (.int .u16 a1)], .v (.int .i64 a2)]) = (cond (decide (a2 < 0)) none (some [.v (.bool ((bAnd .u16 (bShr .u16 a1 a2) 1) == 1))])) := by kernel_rfl
noncomputable def l_iJob_waits (r : Bool) : List A := [.v (.bool r)]
theorem s_iJob_waits_ok (a0 : Int) (a1 : Int) (a2 : Int) (v : Bool) (h : s_iJob_waits a0 a1 a2 = some v) : (cond (decide (a2 < 0)) none (some [.v (.bool ((bAnd .u16 (bShr .u16 a1 a2) 1) == 1))])) = some (l_iJob_waits v) := by
  have e : (cond (decide (a2 < 0)) none (some [.v (.bool ((bAnd .u16 (bShr .u16 a1 a2) 1) == 1))])) = Option.map l_iJob_waits (s_iJob_waits a0 a1 a2) := by
    unfold s_iJob_waits
    exact (cond_app (Option.map l_iJob_waits) rfl rfl)
  rw [e, h]; rfl
noncomputable def c_iJob_waits : List A → ACall
  | [.rc [.v (.int .i8 a0), .v (.int .u16 a1)], .v (.int .i64 a2)] => ⟨Bool, s_iJob_waits a0 a1 a2, fun r => .one (.v (.bool r))⟩
  | _ => ACall.fail
theorem f_iJob_waits_sound : Sound Tryd.prog 101 c_iJob_waits := by
  refine sound_good f_iJob_waits_ctx f_iJob_waits_LV 2 Tryd.func101 (c := f_iJob_waits_c) (by kernel_rfl) (rv := f_iJob_waits_rv) (by kernel_rfl) (by kernel_rfl) (by kernel_rfl) (by kernel_rfl) fun rs => ?_
  unfold c_iJob_waits
  split
  · rename_i a0 a1 a2; intro v h; exact ⟨rfl, l_iJob_waits v, rfl, (f_iJob_waits_top a0 a1 a2 _).trans (s_iJob_waits_ok a0 a1 a2 v h)⟩
  · intro v h; cases h

/-! ### function 79: loop.example/g01322/impl.JobsText -/
noncomputable def f_iJobsText_c : Code := match Tryd.f79.body with | some c => c | none => .skip
noncomputable def f_iJobsText_X : Ctx := ⟨TT, phiOf [(101, c_iJob_waits), (102, c_stringsJoin), (78, c_iValidJobs), (83, c_idecimal)], noPsi, noXi⟩
def f_iJobsText_LV : List (Nat × Keep) := [(5, ([0, 3, 12, 13, 14], [], [])), (9, ([0, 3, 5, 6, 12, 13, 14, 23, 24], [], []))]
def f_iJobsText_rv : List ResultVar := [.tmp 2]
noncomputable def f_iJobsText_L (r : List A) : Nat → AS → Option (List A) := L f_iJobsText_X (cnOf f_iJobsText_LV) f_iJobsText_c (K0 TT f_iJobsText_rv) r
theorem f_iJobsText_ctx : CtxOK Tryd.prog f_iJobsText_X := ctx_of tab mix ⟨⟨Tryd.call101, f_iJob_waits_sound⟩, ⟨Tryd.call102, f_stringsJoin_sound⟩, ⟨Tryd.call78, f_iValidJobs_sound⟩, ⟨Tryd.call83, f_idecimal_sound⟩, trivial⟩
noncomputable def f_iJobsText_s5 (x0 : Int) (x1 : Int) (x2 : (List (Int × Int))) (x3 : (List ByteArray)) : AS := ⟨[(0, .a (.sl 0)), (3, .a (.sl 1)), (12, .a (.sl 0)), (13, .a (.v (.int .i64 x0))), (14, .a (.v (.int .i64 x1)))], [(0, some ⟨false, .arr (.st [(.i .i8), (.i .u16)]) x2⟩), (1, some ⟨true, .arr (.one .s) x3⟩)], 2⟩
noncomputable def f_iJobsText_s9 (x0 : ByteArray) (x1 : Int) (x2 : Int) (x3 : Int) (x4 : Int) (x5 : (List (Int × Int))) (x6 : (List ByteArray)) (x7 : Int) (x8 : Int) : AS := ⟨[(0, .a (.sl 0)), (3, .a (.sl 1)), (5, .a (.ptr 2 [] (0))), (6, .a (.v (.string x0))), (12, .a (.sl 0)), (13, .a (.v (.int .i64 x1))), (14, .a (.v (.int .i64 x2))), (23, .a (.v (.int .i64 x3))), (24, .a (.v (.int .i64 x4)))], [(0, some ⟨false, .arr (.st [(.i .i8), (.i .u16)]) x5⟩), (1, some ⟨true, .arr (.one .s) x6⟩), (2, some ⟨true, .box (.rc [.v (.int .i8 x7), .v (.int .u16 x8)])⟩)], 3⟩
noncomputable def l_iJobsText (r : ByteArray) : List A := [.v (.string r)]
theorem f_iJobsText_step9 (x0 : ByteArray) (x1 : Int) (x2 : Int) (x3 : Int) (x4 : Int) (x5 : (List (Int × Int))) (x6 : (List ByteArray)) (x7 : Int) (x8 : Int) (r : List A) (h : (cond (decide (x4 < x3)) (Option.bind (s_iJob_waits x7 x8 x4) fun r4 => (cond r4 (Option.bind (s_idecimal x4) fun r5 => (cond (fits ((⟨#[44]⟩ : ByteArray).size + r5.size)) (cond (fits (x0.size + ((⟨#[44]⟩ : ByteArray) ++ r5).size)) (f_iJobsText_L r 9 (f_iJobsText_s9 (x0 ++ ((⟨#[44]⟩ : ByteArray) ++ r5)) x1 x2 x3 (IntKind.wrap .i64 (x4 + 1)) x5 x6 x7 x8)) none) none)) (f_iJobsText_L r 9 (f_iJobsText_s9 x0 x1 x2 x3 (IntKind.wrap .i64 (x4 + 1)) x5 x6 x7 x8)))) (cond (fits ((List.length (x6 : List ByteArray) + List.length ([x0] : List ByteArray)) * 16)) (f_iJobsText_L r 5 (f_iJobsText_s5 x1 (IntKind.wrap .i64 (x2 + 1)) x5 (x6 ++ [x0]))) none)) = some r) : f_iJobsText_L r 9 (f_iJobsText_s9 x0 x1 x2 x3 x4 x5 x6 x7 x8) = some r :=
  step_of' h (by kernel_rfl)
noncomputable def f_iJobsText_n9 (x0 : ByteArray) (x1 : Int) (x2 : Int) (x3 : Int) (x4 : Int) (x5 : (List (Int × Int))) (x6 : (List ByteArray)) (x7 : Int) (x8 : Int) : Option ((ByteArray × Int × Int × Int × Int × (List (Int × Int)) × (List ByteArray) × Int × Int) ⊕ ((Int × Int × (List (Int × Int)) × (List ByteArray)) ⊕ ByteArray)) := (cond (decide (x4 < x3)) (Option.bind (s_iJob_waits x7 x8 x4) fun r4 => (cond r4 (Option.bind (s_idecimal x4) fun r5 => (cond (fits ((⟨#[44]⟩ : ByteArray).size + r5.size)) (cond (fits (x0.size + ((⟨#[44]⟩ : ByteArray) ++ r5).size)) (some (Sum.inl ((x0 ++ ((⟨#[44]⟩ : ByteArray) ++ r5)), x1, x2, x3, (IntKind.wrap .i64 (x4 + 1)), x5, x6, x7, x8))) none) none)) (some (Sum.inl (x0, x1, x2, x3, (IntKind.wrap .i64 (x4 + 1)), x5, x6, x7, x8))))) (cond (fits ((List.length (x6 : List ByteArray) + List.length ([x0] : List ByteArray)) * 16)) (some (Sum.inr (Sum.inl (x1, (IntKind.wrap .i64 (x2 + 1)), x5, (x6 ++ [x0]))))) none))
noncomputable def f_iJobsText_run9 (x : (ByteArray × Int × Int × Int × Int × (List (Int × Int)) × (List ByteArray) × Int × Int)) : Option ((Int × Int × (List (Int × Int)) × (List ByteArray)) ⊕ ByteArray) := iter (fun x => f_iJobsText_n9 x.1 x.2.1 x.2.2.1 x.2.2.2.1 x.2.2.2.2.1 x.2.2.2.2.2.1 x.2.2.2.2.2.2.1 x.2.2.2.2.2.2.2.1 x.2.2.2.2.2.2.2.2) FU x
noncomputable def f_iJobsText_G9 (r : List A) (x : (ByteArray × Int × Int × Int × Int × (List (Int × Int)) × (List ByteArray) × Int × Int)) : Prop := f_iJobsText_L r 9 (f_iJobsText_s9 x.1 x.2.1 x.2.2.1 x.2.2.2.1 x.2.2.2.2.1 x.2.2.2.2.2.1 x.2.2.2.2.2.2.1 x.2.2.2.2.2.2.2.1 x.2.2.2.2.2.2.2.2) = some r
theorem f_iJobsText_step5 (x0 : Int) (x1 : Int) (x2 : (List (Int × Int))) (x3 : (List ByteArray)) (r : List A) (h : (cond (decide (x1 < x0)) (cond (inB x1 (List.length x2)) (Option.bind (s_idecimal (IntKind.wrap .i64 (List.getD x2 (Int.toNat x1) ((0, 0) : (Int × Int))).1)) fun r2 => (f_iJobsText_L r 9 (f_iJobsText_s9 r2 x0 x1 ((List.length x2 : Nat) : Int) 0 x2 x3 (List.getD x2 (Int.toNat x1) ((0, 0) : (Int × Int))).1 (List.getD x2 (Int.toNat x1) ((0, 0) : (Int × Int))).2))) none) (Option.bind (s_stringsJoin x3 (⟨#[32]⟩ : ByteArray)) fun r3 => (some [.v (.string r3)]))) = some r) : f_iJobsText_L r 5 (f_iJobsText_s5 x0 x1 x2 x3) = some r :=
  step_of' h (by kernel_rfl)
noncomputable def f_iJobsText_n5 (x0 : Int) (x1 : Int) (x2 : (List (Int × Int))) (x3 : (List ByteArray)) : Option ((Int × Int × (List (Int × Int)) × (List ByteArray)) ⊕ ByteArray) := (cond (decide (x1 < x0)) (cond (inB x1 (List.length x2)) (Option.bind (s_idecimal (IntKind.wrap .i64 (List.getD x2 (Int.toNat x1) ((0, 0) : (Int × Int))).1)) fun r2 => (f_iJobsText_run9 (r2, x0, x1, ((List.length x2 : Nat) : Int), 0, x2, x3, (List.getD x2 (Int.toNat x1) ((0, 0) : (Int × Int))).1, (List.getD x2 (Int.toNat x1) ((0, 0) : (Int × Int))).2))) none) (Option.bind (s_stringsJoin x3 (⟨#[32]⟩ : ByteArray)) fun r3 => (some (Sum.inr r3))))
noncomputable def f_iJobsText_run5 (x : (Int × Int × (List (Int × Int)) × (List ByteArray))) : Option ByteArray := iter (fun x => f_iJobsText_n5 x.1 x.2.1 x.2.2.1 x.2.2.2) FU x
noncomputable def f_iJobsText_G5 (r : List A) (x : (Int × Int × (List (Int × Int)) × (List ByteArray))) : Prop := f_iJobsText_L r 5 (f_iJobsText_s5 x.1 x.2.1 x.2.2.1 x.2.2.2) = some r
noncomputable def f_iJobsText_S5 (r : List A) : ByteArray → Prop := fun v => r = l_iJobsText v
noncomputable def f_iJobsText_S9 (r : List A) : ((Int × Int × (List (Int × Int)) × (List ByteArray)) ⊕ ByteArray) → Prop := goesOn (f_iJobsText_G5 r) (f_iJobsText_S5 r)
theorem f_iJobsText_go9 (r : List A) : ∀ x, sem (f_iJobsText_S9 r) (f_iJobsText_run9 x) → f_iJobsText_G9 r x :=
  fun x => iter_sound (step := fun x => f_iJobsText_n9 x.1 x.2.1 x.2.2.1 x.2.2.2.1 x.2.2.2.2.1 x.2.2.2.2.2.1 x.2.2.2.2.2.2.1 x.2.2.2.2.2.2.2.1 x.2.2.2.2.2.2.2.2) (fun x h => by
    unfold f_iJobsText_n9 at h
    exact f_iJobsText_step9 x.1 x.2.1 x.2.2.1 x.2.2.2.1 x.2.2.2.2.1 x.2.2.2.2.2.1 x.2.2.2.2.2.2.1 x.2.2.2.2.2.2.2.1 x.2.2.2.2.2.2.2.2 r ((sem_cond h (fun h => (sem_bind h fun r4 h => (sem_cond h (fun h => (sem_bind h fun r5 h => (sem_cond h (fun h => (sem_cond h (fun h => sem_got h fun q => q) (fun h => sem_none h))) (fun h => sem_none h)))) (fun h => sem_got h fun q => q)))) (fun h => (sem_cond h (fun h => sem_got h fun q => q) (fun h => sem_none h)))))) FU x
theorem f_iJobsText_go5 (r : List A) : ∀ x, sem (f_iJobsText_S5 r) (f_iJobsText_run5 x) → f_iJobsText_G5 r x :=
  fun x => iter_sound (step := fun x => f_iJobsText_n5 x.1 x.2.1 x.2.2.1 x.2.2.2) (fun x h => by
    unfold f_iJobsText_n5 at h
    exact f_iJobsText_step5 x.1 x.2.1 x.2.2.1 x.2.2.2 r ((sem_cond h (fun h => (sem_cond h (fun h => (sem_bind h fun r2 h => f_iJobsText_go9 r _ h)) (fun h => sem_none h))) (fun h => (sem_bind h fun r3 h => sem_got h fun q => some_eq q))))) FU x
noncomputable def s_iJobsText (a0 : (List (Int × Int))) : Option ByteArray := (Option.bind (s_iValidJobs a0) fun r1 => (cond (!r1) (some (⟨#[]⟩ : ByteArray)) (f_iJobsText_run5 (((List.length a0 : Nat) : Int), 0, a0, []))))
theorem f_iJobsText_top (a0 : (List (Int × Int))) (r : List A) : ev f_iJobsText_X (lpc (cnOf f_iJobsText_LV) (f_iJobsText_L r)) f_iJobsText_c (K0 TT f_iJobsText_rv) (enter [.lst (.st [(.i .i8), (.i .u16)]) a0]) = (Option.bind (s_iValidJobs a0) fun r1 => (cond (!r1) (some [.v (.string (⟨#[]⟩ : ByteArray))]) (f_iJobsText_L r 5 (f_iJobsText_s5 ((List.length a0 : Nat) : Int) 0 a0 [])))) := by kernel_rfl
theorem s_iJobsText_ok (a0 : (List (Int × Int))) (v : ByteArray) (h : s_iJobsText a0 = some v) : (Option.bind (s_iValidJobs a0) fun r1 => (cond (!r1) (some [.v (.string (⟨#[]⟩ : ByteArray))]) (f_iJobsText_L (l_iJobsText v) 5 (f_iJobsText_s5 ((List.length a0 : Nat) : Int) 0 a0 [])))) = some (l_iJobsText v) := by
  unfold s_iJobsText at h
  have go : ∀ r, sem (fun v => r = l_iJobsText v) ((Option.bind (s_iValidJobs a0) fun r1 => (cond (!r1) (some (⟨#[]⟩ : ByteArray)) (f_iJobsText_run5 (((List.length a0 : Nat) : Int), 0, a0, []))))) → (Option.bind (s_iValidJobs a0) fun r1 => (cond (!r1) (some [.v (.string (⟨#[]⟩ : ByteArray))]) (f_iJobsText_L r 5 (f_iJobsText_s5 ((List.length a0 : Nat) : Int) 0 a0 [])))) = some r := fun r h => (sem_bind h fun r1 h => (sem_cond h (fun h => sem_got h fun q => some_eq q) (fun h => f_iJobsText_go5 r _ h)))
  exact go (l_iJobsText v) ⟨v, h, rfl⟩
noncomputable def c_iJobsText : List A → ACall
  | [.lst (.st [(.i .i8), (.i .u16)]) a0] => ⟨ByteArray, s_iJobsText a0, fun r => .one (.v (.string r))⟩
  | _ => ACall.fail
theorem f_iJobsText_sound : Sound Tryd.prog 79 c_iJobsText := by
  refine sound_good f_iJobsText_ctx f_iJobsText_LV 1 Tryd.func79 (c := f_iJobsText_c) (by kernel_rfl) (rv := f_iJobsText_rv) (by kernel_rfl) (by kernel_rfl) (by kernel_rfl) (by kernel_rfl) fun rs => ?_
  unfold c_iJobsText
  split
  · rename_i a0; intro v h; exact ⟨rfl, l_iJobsText v, rfl, (f_iJobsText_top a0 _).trans (s_iJobsText_ok a0 v h)⟩
  · intro v h; cases h

/-! ### function 34: loop.example/g01322/impl.ReadJobs -/
noncomputable def f_iReadJobs_c : Code := match Tryd.f34.body with | some c => c | none => .skip
noncomputable def f_iReadJobs_X : Ctx := ⟨TT, phiOf [(42, c_stringsSplit), (43, c_ireadDecimal), (78, c_iValidJobs), (79, c_iJobsText)], noPsi, noXi⟩
def f_iReadJobs_LV : List (Nat × Keep) := [(5, ([0, 4, 20, 21, 22], [], [])), (11, ([0, 4, 9, 10, 20, 21, 22, 39, 40, 41], [], []))]
def f_iReadJobs_rv : List ResultVar := [.tmp 2, .tmp 3]
noncomputable def f_iReadJobs_L (r : List A) : Nat → AS → Option (List A) := L f_iReadJobs_X (cnOf f_iReadJobs_LV) f_iReadJobs_c (K0 TT f_iReadJobs_rv) r
theorem f_iReadJobs_ctx : CtxOK Tryd.prog f_iReadJobs_X := ctx_of tab mix ⟨⟨Tryd.call42, f_stringsSplit_sound⟩, ⟨Tryd.call43, f_ireadDecimal_sound⟩, ⟨Tryd.call78, f_iValidJobs_sound⟩, ⟨Tryd.call79, f_iJobsText_sound⟩, trivial⟩
noncomputable def f_iReadJobs_s5 (x0 : ByteArray) (x1 : Int) (x2 : Int) (x3 : (List (Int × Int))) (x4 : (List ByteArray)) : AS := ⟨[(0, .a (.v (.string x0))), (4, .a (.sl 0)), (20, .a (.sl 1)), (21, .a (.v (.int .i64 x1))), (22, .a (.v (.int .i64 x2)))], [(0, some ⟨true, .arr (.st [(.i .i8), (.i .u16)]) x3⟩), (1, some ⟨true, .arr (.one .s) x4⟩)], 2⟩
noncomputable def f_iReadJobs_s11 (x0 : ByteArray) (x1 : Bool) (x2 : Int) (x3 : Int) (x4 : Int) (x5 : Int) (x6 : (List (Int × Int))) (x7 : Int) (x8 : Int) (x9 : (List ByteArray)) (x10 : (List ByteArray)) : AS := ⟨[(0, .a (.v (.string x0))), (4, .a (.sl 0)), (9, .a (.v (.bool x1))), (10, .a (.ptr 1 [] (0))), (20, .a (.sl 2)), (21, .a (.v (.int .i64 x2))), (22, .a (.v (.int .i64 x3))), (39, .a (.sl 3)), (40, .a (.v (.int .i64 x4))), (41, .a (.v (.int .i64 x5)))], [(0, some ⟨true, .arr (.st [(.i .i8), (.i .u16)]) x6⟩), (1, some ⟨true, .box (.rc [.v (.int .i8 x7), .v (.int .u16 x8)])⟩), (2, some ⟨true, .arr (.one .s) x9⟩), (3, some ⟨false, .arr (.one .s) x10⟩)], 4⟩
noncomputable def l_iReadJobs (r : ((List (Int × Int)) × Int)) : List A := [.lst (.st [(.i .i8), (.i .u16)]) r.1, .v (.int .i64 r.2)]
theorem f_iReadJobs_step11 (x0 : ByteArray) (x1 : Bool) (x2 : Int) (x3 : Int) (x4 : Int) (x5 : Int) (x6 : (List (Int × Int))) (x7 : Int) (x8 : Int) (x9 : (List ByteArray)) (x10 : (List ByteArray)) (r : List A) (h : (cond (decide (x5 < x4)) (cond (inB x5 (List.length x10)) (Option.bind (s_ireadDecimal (List.getD x10 (Int.toNat x5) (⟨#[]⟩ : ByteArray)) 0 11) fun r6 => (cond x1 (cond r6.2 (cond (decide (r6.1 < 0)) none (f_iReadJobs_L r 11 (f_iReadJobs_s11 x0 r6.2 x2 x3 x4 (IntKind.wrap .i64 (x5 + 1)) x6 x7 (bOr .u16 x8 (bShl .u16 1 r6.1)) x9 x10))) (f_iReadJobs_L r 11 (f_iReadJobs_s11 x0 r6.2 x2 x3 x4 (IntKind.wrap .i64 (x5 + 1)) x6 x7 x8 x9 x10))) (cond r6.2 (cond (decide (r6.1 < 0)) none (f_iReadJobs_L r 11 (f_iReadJobs_s11 x0 false x2 x3 x4 (IntKind.wrap .i64 (x5 + 1)) x6 x7 (bOr .u16 x8 (bShl .u16 1 r6.1)) x9 x10))) (f_iReadJobs_L r 11 (f_iReadJobs_s11 x0 false x2 x3 x4 (IntKind.wrap .i64 (x5 + 1)) x6 x7 x8 x9 x10))))) none) (cond (!x1) (some [.lst (.st [(.i .i8), (.i .u16)]) [], .v (.int .i64 5)]) (cond (fits ((List.length (x6 : List (Int × Int)) + List.length ([(x7, x8)] : List (Int × Int))) * 4)) (f_iReadJobs_L r 5 (f_iReadJobs_s5 x0 x2 (IntKind.wrap .i64 (x3 + 1)) (x6 ++ [(x7, x8)]) x9)) none))) = some r) : f_iReadJobs_L r 11 (f_iReadJobs_s11 x0 x1 x2 x3 x4 x5 x6 x7 x8 x9 x10) = some r :=
  step_of' h (by kernel_rfl)
noncomputable def f_iReadJobs_n11 (x0 : ByteArray) (x1 : Bool) (x2 : Int) (x3 : Int) (x4 : Int) (x5 : Int) (x6 : (List (Int × Int))) (x7 : Int) (x8 : Int) (x9 : (List ByteArray)) (x10 : (List ByteArray)) : Option ((ByteArray × Bool × Int × Int × Int × Int × (List (Int × Int)) × Int × Int × (List ByteArray) × (List ByteArray)) ⊕ ((ByteArray × Int × Int × (List (Int × Int)) × (List ByteArray)) ⊕ ((List (Int × Int)) × Int))) := (cond (decide (x5 < x4)) (cond (inB x5 (List.length x10)) (Option.bind (s_ireadDecimal (List.getD x10 (Int.toNat x5) (⟨#[]⟩ : ByteArray)) 0 11) fun r6 => (cond x1 (cond r6.2 (cond (decide (r6.1 < 0)) none (some (Sum.inl (x0, r6.2, x2, x3, x4, (IntKind.wrap .i64 (x5 + 1)), x6, x7, (bOr .u16 x8 (bShl .u16 1 r6.1)), x9, x10)))) (some (Sum.inl (x0, r6.2, x2, x3, x4, (IntKind.wrap .i64 (x5 + 1)), x6, x7, x8, x9, x10)))) (cond r6.2 (cond (decide (r6.1 < 0)) none (some (Sum.inl (x0, false, x2, x3, x4, (IntKind.wrap .i64 (x5 + 1)), x6, x7, (bOr .u16 x8 (bShl .u16 1 r6.1)), x9, x10)))) (some (Sum.inl (x0, false, x2, x3, x4, (IntKind.wrap .i64 (x5 + 1)), x6, x7, x8, x9, x10)))))) none) (cond (!x1) (some (Sum.inr (Sum.inr ([], 5)))) (cond (fits ((List.length (x6 : List (Int × Int)) + List.length ([(x7, x8)] : List (Int × Int))) * 4)) (some (Sum.inr (Sum.inl (x0, x2, (IntKind.wrap .i64 (x3 + 1)), (x6 ++ [(x7, x8)]), x9)))) none)))
noncomputable def f_iReadJobs_run11 (x : (ByteArray × Bool × Int × Int × Int × Int × (List (Int × Int)) × Int × Int × (List ByteArray) × (List ByteArray))) : Option ((ByteArray × Int × Int × (List (Int × Int)) × (List ByteArray)) ⊕ ((List (Int × Int)) × Int)) := iter (fun x => f_iReadJobs_n11 x.1 x.2.1 x.2.2.1 x.2.2.2.1 x.2.2.2.2.1 x.2.2.2.2.2.1 x.2.2.2.2.2.2.1 x.2.2.2.2.2.2.2.1 x.2.2.2.2.2.2.2.2.1 x.2.2.2.2.2.2.2.2.2.1 x.2.2.2.2.2.2.2.2.2.2) FU x
noncomputable def f_iReadJobs_G11 (r : List A) (x : (ByteArray × Bool × Int × Int × Int × Int × (List (Int × Int)) × Int × Int × (List ByteArray) × (List ByteArray))) : Prop := f_iReadJobs_L r 11 (f_iReadJobs_s11 x.1 x.2.1 x.2.2.1 x.2.2.2.1 x.2.2.2.2.1 x.2.2.2.2.2.1 x.2.2.2.2.2.2.1 x.2.2.2.2.2.2.2.1 x.2.2.2.2.2.2.2.2.1 x.2.2.2.2.2.2.2.2.2.1 x.2.2.2.2.2.2.2.2.2.2) = some r
theorem f_iReadJobs_step5 (x0 : ByteArray) (x1 : Int) (x2 : Int) (x3 : (List (Int × Int))) (x4 : (List ByteArray)) (r : List A) (h : (cond (decide (x2 < x1)) (cond (inB x2 (List.length x4)) (Option.bind (s_stringsSplit (List.getD x4 (Int.toNat x2) (⟨#[]⟩ : ByteArray)) (⟨#[44]⟩ : ByteArray)) fun r2 => (cond (inB 0 (List.length r2)) (Option.bind (s_ireadDecimal (List.getD r2 0 (⟨#[]⟩ : ByteArray)) 1 30) fun r3 => (cond (inS 1 ((List.length r2 : Nat) : Int) (List.length r2)) (f_iReadJobs_L r 11 (f_iReadJobs_s11 x0 r3.2 x1 x2 ((List.length (List.drop 1 (List.take (Int.toNat ((List.length r2 : Nat) : Int)) r2)) : Nat) : Int) 0 x3 (IntKind.wrap .i8 r3.1) 0 x4 (List.drop 1 (List.take (Int.toNat ((List.length r2 : Nat) : Int)) r2)))) none)) none)) none) (Option.bind (s_iValidJobs x3) fun r4 => (cond (!r4) (some [.lst (.st [(.i .i8), (.i .u16)]) [], .v (.int .i64 5)]) (Option.bind (s_iJobsText x3) fun r5 => (cond (!(r5.toList == x0.toList)) (some [.lst (.st [(.i .i8), (.i .u16)]) [], .v (.int .i64 5)]) (some [.lst (.st [(.i .i8), (.i .u16)]) x3, .v (.int .i64 0)])))))) = some r) : f_iReadJobs_L r 5 (f_iReadJobs_s5 x0 x1 x2 x3 x4) = some r :=
  step_of' h (by kernel_rfl)
noncomputable def f_iReadJobs_n5 (x0 : ByteArray) (x1 : Int) (x2 : Int) (x3 : (List (Int × Int))) (x4 : (List ByteArray)) : Option ((ByteArray × Int × Int × (List (Int × Int)) × (List ByteArray)) ⊕ ((List (Int × Int)) × Int)) := (cond (decide (x2 < x1)) (cond (inB x2 (List.length x4)) (Option.bind (s_stringsSplit (List.getD x4 (Int.toNat x2) (⟨#[]⟩ : ByteArray)) (⟨#[44]⟩ : ByteArray)) fun r2 => (cond (inB 0 (List.length r2)) (Option.bind (s_ireadDecimal (List.getD r2 0 (⟨#[]⟩ : ByteArray)) 1 30) fun r3 => (cond (inS 1 ((List.length r2 : Nat) : Int) (List.length r2)) (f_iReadJobs_run11 (x0, r3.2, x1, x2, ((List.length (List.drop 1 (List.take (Int.toNat ((List.length r2 : Nat) : Int)) r2)) : Nat) : Int), 0, x3, (IntKind.wrap .i8 r3.1), 0, x4, (List.drop 1 (List.take (Int.toNat ((List.length r2 : Nat) : Int)) r2)))) none)) none)) none) (Option.bind (s_iValidJobs x3) fun r4 => (cond (!r4) (some (Sum.inr ([], 5))) (Option.bind (s_iJobsText x3) fun r5 => (cond (!(r5.toList == x0.toList)) (some (Sum.inr ([], 5))) (some (Sum.inr (x3, 0))))))))
noncomputable def f_iReadJobs_run5 (x : (ByteArray × Int × Int × (List (Int × Int)) × (List ByteArray))) : Option ((List (Int × Int)) × Int) := iter (fun x => f_iReadJobs_n5 x.1 x.2.1 x.2.2.1 x.2.2.2.1 x.2.2.2.2) FU x
noncomputable def f_iReadJobs_G5 (r : List A) (x : (ByteArray × Int × Int × (List (Int × Int)) × (List ByteArray))) : Prop := f_iReadJobs_L r 5 (f_iReadJobs_s5 x.1 x.2.1 x.2.2.1 x.2.2.2.1 x.2.2.2.2) = some r
noncomputable def f_iReadJobs_S5 (r : List A) : ((List (Int × Int)) × Int) → Prop := fun v => r = l_iReadJobs v
noncomputable def f_iReadJobs_S11 (r : List A) : ((ByteArray × Int × Int × (List (Int × Int)) × (List ByteArray)) ⊕ ((List (Int × Int)) × Int)) → Prop := goesOn (f_iReadJobs_G5 r) (f_iReadJobs_S5 r)
theorem f_iReadJobs_go11 (r : List A) : ∀ x, sem (f_iReadJobs_S11 r) (f_iReadJobs_run11 x) → f_iReadJobs_G11 r x :=
  fun x => iter_sound (step := fun x => f_iReadJobs_n11 x.1 x.2.1 x.2.2.1 x.2.2.2.1 x.2.2.2.2.1 x.2.2.2.2.2.1 x.2.2.2.2.2.2.1 x.2.2.2.2.2.2.2.1 x.2.2.2.2.2.2.2.2.1 x.2.2.2.2.2.2.2.2.2.1 x.2.2.2.2.2.2.2.2.2.2) (fun x h => by
    unfold f_iReadJobs_n11 at h
    exact f_iReadJobs_step11 x.1 x.2.1 x.2.2.1 x.2.2.2.1 x.2.2.2.2.1 x.2.2.2.2.2.1 x.2.2.2.2.2.2.1 x.2.2.2.2.2.2.2.1 x.2.2.2.2.2.2.2.2.1 x.2.2.2.2.2.2.2.2.2.1 x.2.2.2.2.2.2.2.2.2.2 r ((sem_cond h (fun h => (sem_cond h (fun h => (sem_bind h fun r6 h => (sem_cond h (fun h => (sem_cond h (fun h => (sem_cond h (fun h => sem_none h) (fun h => sem_got h fun q => q))) (fun h => sem_got h fun q => q))) (fun h => (sem_cond h (fun h => (sem_cond h (fun h => sem_none h) (fun h => sem_got h fun q => q))) (fun h => sem_got h fun q => q)))))) (fun h => sem_none h))) (fun h => (sem_cond h (fun h => sem_got h fun q => some_eq q) (fun h => (sem_cond h (fun h => sem_got h fun q => q) (fun h => sem_none h)))))))) FU x
theorem f_iReadJobs_go5 (r : List A) : ∀ x, sem (f_iReadJobs_S5 r) (f_iReadJobs_run5 x) → f_iReadJobs_G5 r x :=
  fun x => iter_sound (step := fun x => f_iReadJobs_n5 x.1 x.2.1 x.2.2.1 x.2.2.2.1 x.2.2.2.2) (fun x h => by
    unfold f_iReadJobs_n5 at h
    exact f_iReadJobs_step5 x.1 x.2.1 x.2.2.1 x.2.2.2.1 x.2.2.2.2 r ((sem_cond h (fun h => (sem_cond h (fun h => (sem_bind h fun r2 h => (sem_cond h (fun h => (sem_bind h fun r3 h => (sem_cond h (fun h => f_iReadJobs_go11 r _ h) (fun h => sem_none h)))) (fun h => sem_none h)))) (fun h => sem_none h))) (fun h => (sem_bind h fun r4 h => (sem_cond h (fun h => sem_got h fun q => some_eq q) (fun h => (sem_bind h fun r5 h => (sem_cond h (fun h => sem_got h fun q => some_eq q) (fun h => sem_got h fun q => some_eq q)))))))))) FU x
noncomputable def s_iReadJobs (a0 : ByteArray) : Option ((List (Int × Int)) × Int) := (cond (a0.toList == (⟨#[]⟩ : ByteArray).toList) (some ([], 0)) (Option.bind (s_stringsSplit a0 (⟨#[32]⟩ : ByteArray)) fun r1 => (f_iReadJobs_run5 (a0, ((List.length r1 : Nat) : Int), 0, [], r1))))
theorem f_iReadJobs_top (a0 : ByteArray) (r : List A) : ev f_iReadJobs_X (lpc (cnOf f_iReadJobs_LV) (f_iReadJobs_L r)) f_iReadJobs_c (K0 TT f_iReadJobs_rv) (enter [.v (.string a0)]) = (cond (a0.toList == (⟨#[]⟩ : ByteArray).toList) (some [.lst (.st [(.i .i8), (.i .u16)]) [], .v (.int .i64 0)]) (Option.bind (s_stringsSplit a0 (⟨#[32]⟩ : ByteArray)) fun r1 => (f_iReadJobs_L r 5 (f_iReadJobs_s5 a0 ((List.length r1 : Nat) : Int) 0 [] r1)))) := by kernel_rfl
theorem s_iReadJobs_ok (a0 : ByteArray) (v : ((List (Int × Int)) × Int)) (h : s_iReadJobs a0 = some v) : (cond (a0.toList == (⟨#[]⟩ : ByteArray).toList) (some [.lst (.st [(.i .i8), (.i .u16)]) [], .v (.int .i64 0)]) (Option.bind (s_stringsSplit a0 (⟨#[32]⟩ : ByteArray)) fun r1 => (f_iReadJobs_L (l_iReadJobs v) 5 (f_iReadJobs_s5 a0 ((List.length r1 : Nat) : Int) 0 [] r1)))) = some (l_iReadJobs v) := by
  unfold s_iReadJobs at h
  have go : ∀ r, sem (fun v => r = l_iReadJobs v) ((cond (a0.toList == (⟨#[]⟩ : ByteArray).toList) (some ([], 0)) (Option.bind (s_stringsSplit a0 (⟨#[32]⟩ : ByteArray)) fun r1 => (f_iReadJobs_run5 (a0, ((List.length r1 : Nat) : Int), 0, [], r1))))) → (cond (a0.toList == (⟨#[]⟩ : ByteArray).toList) (some [.lst (.st [(.i .i8), (.i .u16)]) [], .v (.int .i64 0)]) (Option.bind (s_stringsSplit a0 (⟨#[32]⟩ : ByteArray)) fun r1 => (f_iReadJobs_L r 5 (f_iReadJobs_s5 a0 ((List.length r1 : Nat) : Int) 0 [] r1)))) = some r := fun r h => (sem_cond h (fun h => sem_got h fun q => some_eq q) (fun h => (sem_bind h fun r1 h => f_iReadJobs_go5 r _ h)))
  exact go (l_iReadJobs v) ⟨v, h, rfl⟩
noncomputable def c_iReadJobs : List A → ACall
  | [.v (.string a0)] => ⟨((List (Int × Int)) × Int), s_iReadJobs a0, fun r => .tup [.lst (.st [(.i .i8), (.i .u16)]) r.1, .v (.int .i64 r.2)]⟩
  | _ => ACall.fail
theorem f_iReadJobs_sound : Sound Tryd.prog 34 c_iReadJobs := by
  refine sound_good f_iReadJobs_ctx f_iReadJobs_LV 1 Tryd.func34 (c := f_iReadJobs_c) (by kernel_rfl) (rv := f_iReadJobs_rv) (by kernel_rfl) (by kernel_rfl) (by kernel_rfl) (by kernel_rfl) fun rs => ?_
  unfold c_iReadJobs
  split
  · rename_i a0; intro v h; exact ⟨rfl, l_iReadJobs v, rfl, (f_iReadJobs_top a0 _).trans (s_iReadJobs_ok a0 v h)⟩
  · intro v h; cases h

/-! ### function 80: loop.example/g01322/laws.eqJob -/
noncomputable def f_weqJob_c : Code := match Tryd.f80.body with | some c => c | none => .skip
noncomputable def f_weqJob_X : Ctx := ⟨TT, phiOf [], noPsi, noXi⟩
def f_weqJob_LV : List (Nat × Keep) := []
def f_weqJob_rv : List ResultVar := [.tmp 4]
noncomputable def f_weqJob_L (r : List A) : Nat → AS → Option (List A) := L f_weqJob_X (cnOf f_weqJob_LV) f_weqJob_c (K0 TT f_weqJob_rv) r
theorem f_weqJob_ctx : CtxOK Tryd.prog f_weqJob_X := ctx_of tab mix trivial
noncomputable def s_weqJob (a0 : Int) (a1 : Int) (a2 : Int) (a3 : Int) : Bool := (cond (a0 != a2) false (cond (a1 != a3) false true))
theorem f_weqJob_top (a0 : Int) (a1 : Int) (a2 : Int) (a3 : Int) (r : List A) : ev f_weqJob_X (lpc (cnOf f_weqJob_LV) (f_weqJob_L r)) f_weqJob_c (K0 TT f_weqJob_rv) (enter [.rc [.v (.int .i8 a0), .v (.int .u16 a1)], .rc [.v (.int .i8 a2), .v (.int .u16 a3)]]) = (cond (a0 != a2) (some [.v (.bool false)]) (cond (a1 != a3) (some [.v (.bool false)]) (some [.v (.bool true)]))) := by kernel_rfl
noncomputable def l_weqJob (r : Bool) : List A := [.v (.bool r)]
theorem s_weqJob_ok (a0 : Int) (a1 : Int) (a2 : Int) (a3 : Int) : (cond (a0 != a2) (some [.v (.bool false)]) (cond (a1 != a3) (some [.v (.bool false)]) (some [.v (.bool true)]))) = some (l_weqJob (s_weqJob a0 a1 a2 a3)) := by
  unfold s_weqJob
  exact (cond_app (fun x => some (l_weqJob x)) rfl (cond_app (fun x => some (l_weqJob x)) rfl rfl))
noncomputable def c_weqJob : List A → ACall
  | [.rc [.v (.int .i8 a0), .v (.int .u16 a1)], .rc [.v (.int .i8 a2), .v (.int .u16 a3)]] => ⟨Bool, some (s_weqJob a0 a1 a2 a3), fun r => .one (.v (.bool r))⟩
  | _ => ACall.fail
theorem f_weqJob_sound : Sound Tryd.prog 80 c_weqJob := by
  refine sound_good f_weqJob_ctx f_weqJob_LV 2 Tryd.func80 (c := f_weqJob_c) (by kernel_rfl) (rv := f_weqJob_rv) (by kernel_rfl) (by kernel_rfl) (by kernel_rfl) (by kernel_rfl) fun rs => ?_
  unfold c_weqJob
  split
  · rename_i a0 a1 a2 a3; intro v h; cases h; exact ⟨rfl, l_weqJob (s_weqJob a0 a1 a2 a3), rfl, (f_weqJob_top a0 a1 a2 a3 _).trans (s_weqJob_ok a0 a1 a2 a3)⟩
  · intro v h; cases h

/-! ### function 35: loop.example/g01322/laws.eqJobS -/
noncomputable def f_weqJobS_c : Code := match Tryd.f35.body with | some c => c | none => .skip
noncomputable def f_weqJobS_X : Ctx := ⟨TT, phiOf [(80, c_weqJob)], noPsi, noXi⟩
def f_weqJobS_LV : List (Nat × Keep) := [(4, ([0, 1, 5], [], []))]
def f_weqJobS_rv : List ResultVar := [.tmp 4]
noncomputable def f_weqJobS_L (r : List A) : Nat → AS → Option (List A) := L f_weqJobS_X (cnOf f_weqJobS_LV) f_weqJobS_c (K0 TT f_weqJobS_rv) r
theorem f_weqJobS_ctx : CtxOK Tryd.prog f_weqJobS_X := ctx_of tab mix ⟨⟨Tryd.call80, f_weqJob_sound⟩, trivial⟩
noncomputable def f_weqJobS_s4 (x0 : Int) (x1 : (List (Int × Int))) (x2 : (List (Int × Int))) : AS := ⟨[(0, .a (.sl 0)), (1, .a (.sl 1)), (5, .a (.v (.int .i64 x0)))], [(0, some ⟨false, .arr (.st [(.i .i8), (.i .u16)]) x1⟩), (1, some ⟨false, .arr (.st [(.i .i8), (.i .u16)]) x2⟩)], 2⟩
noncomputable def l_weqJobS (r : Bool) : List A := [.v (.bool r)]
theorem f_weqJobS_step4 (x0 : Int) (x1 : (List (Int × Int))) (x2 : (List (Int × Int))) (r : List A) (h : (cond (decide (x0 < ((List.length x1 : Nat) : Int))) (cond (inB x0 (List.length x1)) (cond (inB x0 (List.length x2)) (cond (!(s_weqJob (List.getD x1 (Int.toNat x0) ((0, 0) : (Int × Int))).1 (List.getD x1 (Int.toNat x0) ((0, 0) : (Int × Int))).2 (List.getD x2 (Int.toNat x0) ((0, 0) : (Int × Int))).1 (List.getD x2 (Int.toNat x0) ((0, 0) : (Int × Int))).2)) (some [.v (.bool false)]) (f_weqJobS_L r 4 (f_weqJobS_s4 (IntKind.wrap .i64 (x0 + 1)) x1 x2))) none) none) (some [.v (.bool true)])) = some r) : f_weqJobS_L r 4 (f_weqJobS_s4 x0 x1 x2) = some r :=
  step_of' h (by kernel_rfl)
noncomputable def f_weqJobS_n4 (x0 : Int) (x1 : (List (Int × Int))) (x2 : (List (Int × Int))) : Option ((Int × (List (Int × Int)) × (List (Int × Int))) ⊕ Bool) := (cond (decide (x0 < ((List.length x1 : Nat) : Int))) (cond (inB x0 (List.length x1)) (cond (inB x0 (List.length x2)) (cond (!(s_weqJob (List.getD x1 (Int.toNat x0) ((0, 0) : (Int × Int))).1 (List.getD x1 (Int.toNat x0) ((0, 0) : (Int × Int))).2 (List.getD x2 (Int.toNat x0) ((0, 0) : (Int × Int))).1 (List.getD x2 (Int.toNat x0) ((0, 0) : (Int × Int))).2)) (some (Sum.inr false)) (some (Sum.inl ((IntKind.wrap .i64 (x0 + 1)), x1, x2)))) none) none) (some (Sum.inr true)))
noncomputable def f_weqJobS_run4 (x : (Int × (List (Int × Int)) × (List (Int × Int)))) : Option Bool := iter (fun x => f_weqJobS_n4 x.1 x.2.1 x.2.2) FU x
noncomputable def f_weqJobS_G4 (r : List A) (x : (Int × (List (Int × Int)) × (List (Int × Int)))) : Prop := f_weqJobS_L r 4 (f_weqJobS_s4 x.1 x.2.1 x.2.2) = some r
noncomputable def f_weqJobS_S4 (r : List A) : Bool → Prop := fun v => r = l_weqJobS v
theorem f_weqJobS_go4 (r : List A) : ∀ x, sem (f_weqJobS_S4 r) (f_weqJobS_run4 x) → f_weqJobS_G4 r x :=
  fun x => iter_sound (step := fun x => f_weqJobS_n4 x.1 x.2.1 x.2.2) (fun x h => by
    unfold f_weqJobS_n4 at h
    exact f_weqJobS_step4 x.1 x.2.1 x.2.2 r ((sem_cond h (fun h => (sem_cond h (fun h => (sem_cond h (fun h => (sem_cond h (fun h => sem_got h fun q => some_eq q) (fun h => sem_got h fun q => q))) (fun h => sem_none h))) (fun h => sem_none h))) (fun h => sem_got h fun q => some_eq q)))) FU x
noncomputable def s_weqJobS (a0 : (List (Int × Int))) (a1 : (List (Int × Int))) : Option Bool := (cond (((List.length a0 : Nat) : Int) != ((List.length a1 : Nat) : Int)) (some false) (f_weqJobS_run4 (0, a0, a1)))
theorem f_weqJobS_top (a0 : (List (Int × Int))) (a1 : (List (Int × Int))) (r : List A) : ev f_weqJobS_X (lpc (cnOf f_weqJobS_LV) (f_weqJobS_L r)) f_weqJobS_c (K0 TT f_weqJobS_rv) (enter [.lst (.st [(.i .i8), (.i .u16)]) a0, .lst (.st [(.i .i8), (.i .u16)]) a1]) = (cond (((List.length a0 : Nat) : Int) != ((List.length a1 : Nat) : Int)) (some [.v (.bool false)]) (f_weqJobS_L r 4 (f_weqJobS_s4 0 a0 a1))) := by kernel_rfl
theorem s_weqJobS_ok (a0 : (List (Int × Int))) (a1 : (List (Int × Int))) (v : Bool) (h : s_weqJobS a0 a1 = some v) : (cond (((List.length a0 : Nat) : Int) != ((List.length a1 : Nat) : Int)) (some [.v (.bool false)]) (f_weqJobS_L (l_weqJobS v) 4 (f_weqJobS_s4 0 a0 a1))) = some (l_weqJobS v) := by
  unfold s_weqJobS at h
  have go : ∀ r, sem (fun v => r = l_weqJobS v) ((cond (((List.length a0 : Nat) : Int) != ((List.length a1 : Nat) : Int)) (some false) (f_weqJobS_run4 (0, a0, a1)))) → (cond (((List.length a0 : Nat) : Int) != ((List.length a1 : Nat) : Int)) (some [.v (.bool false)]) (f_weqJobS_L r 4 (f_weqJobS_s4 0 a0 a1))) = some r := fun r h => (sem_cond h (fun h => sem_got h fun q => some_eq q) (fun h => f_weqJobS_go4 r _ h))
  exact go (l_weqJobS v) ⟨v, h, rfl⟩
noncomputable def c_weqJobS : List A → ACall
  | [.lst (.st [(.i .i8), (.i .u16)]) a0, .lst (.st [(.i .i8), (.i .u16)]) a1] => ⟨Bool, s_weqJobS a0 a1, fun r => .one (.v (.bool r))⟩
  | _ => ACall.fail
theorem f_weqJobS_sound : Sound Tryd.prog 35 c_weqJobS := by
  refine sound_good f_weqJobS_ctx f_weqJobS_LV 2 Tryd.func35 (c := f_weqJobS_c) (by kernel_rfl) (rv := f_weqJobS_rv) (by kernel_rfl) (by kernel_rfl) (by kernel_rfl) (by kernel_rfl) fun rs => ?_
  unfold c_weqJobS
  split
  · rename_i a0 a1; intro v h; exact ⟨rfl, l_weqJobS v, rfl, (f_weqJobS_top a0 a1 _).trans (s_weqJobS_ok a0 a1 v h)⟩
  · intro v h; cases h

/-! ### function 37: loop.example/g01322/laws.heldJobS -/
noncomputable def f_wheldJobS_c : Code := match Tryd.f37.body with | some c => c | none => .skip
noncomputable def f_wheldJobS_X : Ctx := ⟨TT, phiOf [], noPsi, noXi⟩
def f_wheldJobS_LV : List (Nat × Keep) := [(2, ([0, 1, 5], [], []))]
def f_wheldJobS_rv : List ResultVar := [.tmp 4]
noncomputable def f_wheldJobS_L (r : List A) : Nat → AS → Option (List A) := L f_wheldJobS_X (cnOf f_wheldJobS_LV) f_wheldJobS_c (K0 TT f_wheldJobS_rv) r
theorem f_wheldJobS_ctx : CtxOK Tryd.prog f_wheldJobS_X := ctx_of tab mix trivial
noncomputable def f_wheldJobS_s2 (x0 : Int) (x1 : Int) (x2 : (List (Int × Int))) : AS := ⟨[(0, .a (.sl 0)), (1, .a (.v (.int .i64 x0))), (5, .a (.v (.int .i64 x1)))], [(0, some ⟨false, .arr (.st [(.i .i8), (.i .u16)]) x2⟩)], 1⟩
noncomputable def l_wheldJobS (r : Int) : List A := [.v (.int .i64 r)]
theorem f_wheldJobS_step2 (x0 : Int) (x1 : Int) (x2 : (List (Int × Int))) (r : List A) (h : (cond (decide (x1 < ((List.length x2 : Nat) : Int))) (cond (inB x1 (List.length x2)) (cond ((List.getD x2 (Int.toNat x1) ((0, 0) : (Int × Int))).1 != (IntKind.wrap .i8 x0)) (some [.v (.int .i64 (-1))]) (cond (inB x1 (List.length x2)) (cond ((List.getD x2 (Int.toNat x1) ((0, 0) : (Int × Int))).2 != (IntKind.wrap .u16 (IntKind.wrap .i64 (x0 + 1)))) (some [.v (.int .i64 (-1))]) (f_wheldJobS_L r 2 (f_wheldJobS_s2 (IntKind.wrap .i64 ((IntKind.wrap .i64 (x0 + 1)) + 1)) (IntKind.wrap .i64 (x1 + 1)) x2))) none)) none) (some [.v (.int .i64 x0)])) = some r) : f_wheldJobS_L r 2 (f_wheldJobS_s2 x0 x1 x2) = some r :=
  step_of' h (by kernel_rfl)
noncomputable def f_wheldJobS_n2 (x0 : Int) (x1 : Int) (x2 : (List (Int × Int))) : Option ((Int × Int × (List (Int × Int))) ⊕ Int) := (cond (decide (x1 < ((List.length x2 : Nat) : Int))) (cond (inB x1 (List.length x2)) (cond ((List.getD x2 (Int.toNat x1) ((0, 0) : (Int × Int))).1 != (IntKind.wrap .i8 x0)) (some (Sum.inr (-1))) (cond (inB x1 (List.length x2)) (cond ((List.getD x2 (Int.toNat x1) ((0, 0) : (Int × Int))).2 != (IntKind.wrap .u16 (IntKind.wrap .i64 (x0 + 1)))) (some (Sum.inr (-1))) (some (Sum.inl ((IntKind.wrap .i64 ((IntKind.wrap .i64 (x0 + 1)) + 1)), (IntKind.wrap .i64 (x1 + 1)), x2)))) none)) none) (some (Sum.inr x0)))
noncomputable def f_wheldJobS_run2 (x : (Int × Int × (List (Int × Int)))) : Option Int := iter (fun x => f_wheldJobS_n2 x.1 x.2.1 x.2.2) FU x
noncomputable def f_wheldJobS_G2 (r : List A) (x : (Int × Int × (List (Int × Int)))) : Prop := f_wheldJobS_L r 2 (f_wheldJobS_s2 x.1 x.2.1 x.2.2) = some r
noncomputable def f_wheldJobS_S2 (r : List A) : Int → Prop := fun v => r = l_wheldJobS v
theorem f_wheldJobS_go2 (r : List A) : ∀ x, sem (f_wheldJobS_S2 r) (f_wheldJobS_run2 x) → f_wheldJobS_G2 r x :=
  fun x => iter_sound (step := fun x => f_wheldJobS_n2 x.1 x.2.1 x.2.2) (fun x h => by
    unfold f_wheldJobS_n2 at h
    exact f_wheldJobS_step2 x.1 x.2.1 x.2.2 r ((sem_cond h (fun h => (sem_cond h (fun h => (sem_cond h (fun h => sem_got h fun q => some_eq q) (fun h => (sem_cond h (fun h => (sem_cond h (fun h => sem_got h fun q => some_eq q) (fun h => sem_got h fun q => q))) (fun h => sem_none h))))) (fun h => sem_none h))) (fun h => sem_got h fun q => some_eq q)))) FU x
noncomputable def s_wheldJobS (a0 : (List (Int × Int))) (a1 : Int) : Option Int := (f_wheldJobS_run2 (a1, 0, a0))
theorem f_wheldJobS_top (a0 : (List (Int × Int))) (a1 : Int) (r : List A) : ev f_wheldJobS_X (lpc (cnOf f_wheldJobS_LV) (f_wheldJobS_L r)) f_wheldJobS_c (K0 TT f_wheldJobS_rv) (enter [.lst (.st [(.i .i8), (.i .u16)]) a0, .v (.int .i64 a1)]) = (f_wheldJobS_L r 2 (f_wheldJobS_s2 a1 0 a0)) := by kernel_rfl
theorem s_wheldJobS_ok (a0 : (List (Int × Int))) (a1 : Int) (v : Int) (h : s_wheldJobS a0 a1 = some v) : (f_wheldJobS_L (l_wheldJobS v) 2 (f_wheldJobS_s2 a1 0 a0)) = some (l_wheldJobS v) := by
  unfold s_wheldJobS at h
  have go : ∀ r, sem (fun v => r = l_wheldJobS v) ((f_wheldJobS_run2 (a1, 0, a0))) → (f_wheldJobS_L r 2 (f_wheldJobS_s2 a1 0 a0)) = some r := fun r h => f_wheldJobS_go2 r _ h
  exact go (l_wheldJobS v) ⟨v, h, rfl⟩
noncomputable def c_wheldJobS : List A → ACall
  | [.lst (.st [(.i .i8), (.i .u16)]) a0, .v (.int .i64 a1)] => ⟨Int, s_wheldJobS a0 a1, fun r => .one (.v (.int .i64 r))⟩
  | _ => ACall.fail
theorem f_wheldJobS_sound : Sound Tryd.prog 37 c_wheldJobS := by
  refine sound_good f_wheldJobS_ctx f_wheldJobS_LV 2 Tryd.func37 (c := f_wheldJobS_c) (by kernel_rfl) (rv := f_wheldJobS_rv) (by kernel_rfl) (by kernel_rfl) (by kernel_rfl) (by kernel_rfl) fun rs => ?_
  unfold c_wheldJobS
  split
  · rename_i a0 a1; intro v h; exact ⟨rfl, l_wheldJobS v, rfl, (f_wheldJobS_top a0 a1 _).trans (s_wheldJobS_ok a0 a1 v h)⟩
  · intro v h; cases h

/-! ### function 5: loop.example/g01322/laws.FnExactReadJobs -/
noncomputable def f_wFnExactReadJobs_c : Code := match Tryd.f5.body with | some c => c | none => .skip
noncomputable def f_wFnExactReadJobs_X : Ctx := ⟨TT, phiOf [(33, c_sReadJobs), (34, c_iReadJobs), (35, c_weqJobS), (37, c_wheldJobS)], (psiOf [(36, u_wmarkJobS)]), noXi⟩
def f_wFnExactReadJobs_LV : List (Nat × Keep) := []
def f_wFnExactReadJobs_rv : List ResultVar := [.tmp 2]
noncomputable def f_wFnExactReadJobs_L (r : List A) : Nat → AS → Option (List A) := L f_wFnExactReadJobs_X (cnOf f_wFnExactReadJobs_LV) f_wFnExactReadJobs_c (K0 TT f_wFnExactReadJobs_rv) r
theorem f_wFnExactReadJobs_ctx : CtxOK Tryd.prog f_wFnExactReadJobs_X := ctx_ofH tab mix (l := [(33, c_sReadJobs), (34, c_iReadJobs), (35, c_weqJobS), (37, c_wheldJobS)]) ⟨⟨Tryd.call33, f_sReadJobs_sound⟩, ⟨Tryd.call34, f_iReadJobs_sound⟩, ⟨Tryd.call35, f_weqJobS_sound⟩, ⟨Tryd.call37, f_wheldJobS_sound⟩, trivial⟩ (psi_ok (l := [(36, u_wmarkJobS)]) ⟨⟨Tryd.call36, f_wmarkJobS_sound⟩, trivial⟩) xi_no
noncomputable def s_wFnExactReadJobs (a0 : ByteArray) : Option Bool := (cond (decide (((a0.size : Nat) : Int) > 1048576)) (some true) (Option.bind (s_sReadJobs a0) fun r1 => (Option.bind (s_iReadJobs a0) fun r2 => (Option.bind (s_weqJobS (r2.1) (r1.1)) fun r3 => (cond (!r3) (some false) (cond (r2.2 != r1.2) (some false) (Option.bind (s_wmarkJobS (r2.1) 1) fun r4 => (Option.bind (s_wheldJobS (r4.2) 1) fun r5 => (cond (decide (r5 < 0)) (some false) (cond (r5 != r4.1) (some false) (Option.bind (s_iReadJobs a0) fun r6 => (Option.bind (s_weqJobS (r6.1) (r1.1)) fun r7 => (cond (!r7) (some false) (cond (r6.2 != r1.2) (some false) (Option.bind (s_wheldJobS (r4.2) 1) fun r8 => (cond (decide (r8 < 0)) (some false) (cond (r8 != r4.1) (some false) (some true))))))))))))))))))
theorem f_wFnExactReadJobs_top (a0 : ByteArray) (r : List A) : ev f_wFnExactReadJobs_X (lpc (cnOf f_wFnExactReadJobs_LV) (f_wFnExactReadJobs_L r)) f_wFnExactReadJobs_c (K0 TT f_wFnExactReadJobs_rv) (enter [.v (.string a0)]) = (cond (decide (((a0.size : Nat) : Int) > 1048576)) (some [.v (.bool true)]) (Option.bind (s_sReadJobs a0) fun r1 => (Option.bind (s_iReadJobs a0) fun r2 => (Option.bind (s_weqJobS (r2.1) (r1.1)) fun r3 => (cond (!r3) (some [.v (.bool false)]) (cond (r2.2 != r1.2) (some [.v (.bool false)]) (Option.bind (s_wmarkJobS (r2.1) 1) fun r4 => (Option.bind (s_wheldJobS (r4.2) 1) fun r5 => (cond (decide (r5 < 0)) (some [.v (.bool false)]) (cond (r5 != r4.1) (some [.v (.bool false)]) (Option.bind (s_iReadJobs a0) fun r6 => (Option.bind (s_weqJobS (r6.1) (r1.1)) fun r7 => (cond (!r7) (some [.v (.bool false)]) (cond (r6.2 != r1.2) (some [.v (.bool false)]) (Option.bind (s_wheldJobS (r4.2) 1) fun r8 => (cond (decide (r8 < 0)) (some [.v (.bool false)]) (cond (r8 != r4.1) (some [.v (.bool false)]) (some [.v (.bool true)])))))))))))))))))) := by kernel_rfl
noncomputable def l_wFnExactReadJobs (r : Bool) : List A := [.v (.bool r)]
theorem s_wFnExactReadJobs_ok (a0 : ByteArray) (v : Bool) (h : s_wFnExactReadJobs a0 = some v) : (cond (decide (((a0.size : Nat) : Int) > 1048576)) (some [.v (.bool true)]) (Option.bind (s_sReadJobs a0) fun r1 => (Option.bind (s_iReadJobs a0) fun r2 => (Option.bind (s_weqJobS (r2.1) (r1.1)) fun r3 => (cond (!r3) (some [.v (.bool false)]) (cond (r2.2 != r1.2) (some [.v (.bool false)]) (Option.bind (s_wmarkJobS (r2.1) 1) fun r4 => (Option.bind (s_wheldJobS (r4.2) 1) fun r5 => (cond (decide (r5 < 0)) (some [.v (.bool false)]) (cond (r5 != r4.1) (some [.v (.bool false)]) (Option.bind (s_iReadJobs a0) fun r6 => (Option.bind (s_weqJobS (r6.1) (r1.1)) fun r7 => (cond (!r7) (some [.v (.bool false)]) (cond (r6.2 != r1.2) (some [.v (.bool false)]) (Option.bind (s_wheldJobS (r4.2) 1) fun r8 => (cond (decide (r8 < 0)) (some [.v (.bool false)]) (cond (r8 != r4.1) (some [.v (.bool false)]) (some [.v (.bool true)])))))))))))))))))) = some (l_wFnExactReadJobs v) := by
  have e : (cond (decide (((a0.size : Nat) : Int) > 1048576)) (some [.v (.bool true)]) (Option.bind (s_sReadJobs a0) fun r1 => (Option.bind (s_iReadJobs a0) fun r2 => (Option.bind (s_weqJobS (r2.1) (r1.1)) fun r3 => (cond (!r3) (some [.v (.bool false)]) (cond (r2.2 != r1.2) (some [.v (.bool false)]) (Option.bind (s_wmarkJobS (r2.1) 1) fun r4 => (Option.bind (s_wheldJobS (r4.2) 1) fun r5 => (cond (decide (r5 < 0)) (some [.v (.bool false)]) (cond (r5 != r4.1) (some [.v (.bool false)]) (Option.bind (s_iReadJobs a0) fun r6 => (Option.bind (s_weqJobS (r6.1) (r1.1)) fun r7 => (cond (!r7) (some [.v (.bool false)]) (cond (r6.2 != r1.2) (some [.v (.bool false)]) (Option.bind (s_wheldJobS (r4.2) 1) fun r8 => (cond (decide (r8 < 0)) (some [.v (.bool false)]) (cond (r8 != r4.1) (some [.v (.bool false)]) (some [.v (.bool true)])))))))))))))))))) = Option.map l_wFnExactReadJobs (s_wFnExactReadJobs a0) := by
    unfold s_wFnExactReadJobs
    exact (cond_app (Option.map l_wFnExactReadJobs) rfl (bind_app fun _ => (bind_app fun _ => (bind_app fun _ => (cond_app (Option.map l_wFnExactReadJobs) rfl (cond_app (Option.map l_wFnExactReadJobs) rfl (bind_app fun _ => (bind_app fun _ => (cond_app (Option.map l_wFnExactReadJobs) rfl (cond_app (Option.map l_wFnExactReadJobs) rfl (bind_app fun _ => (bind_app fun _ => (cond_app (Option.map l_wFnExactReadJobs) rfl (cond_app (Option.map l_wFnExactReadJobs) rfl (bind_app fun _ => (cond_app (Option.map l_wFnExactReadJobs) rfl (cond_app (Option.map l_wFnExactReadJobs) rfl rfl)))))))))))))))))
  rw [e, h]; rfl
noncomputable def c_wFnExactReadJobs : List A → ACall
  | [.v (.string a0)] => ⟨Bool, s_wFnExactReadJobs a0, fun r => .one (.v (.bool r))⟩
  | _ => ACall.fail
theorem f_wFnExactReadJobs_sound : Sound Tryd.prog 5 c_wFnExactReadJobs := by
  refine sound_good f_wFnExactReadJobs_ctx f_wFnExactReadJobs_LV 1 Tryd.func5 (c := f_wFnExactReadJobs_c) (by kernel_rfl) (rv := f_wFnExactReadJobs_rv) (by kernel_rfl) (by kernel_rfl) (by kernel_rfl) (by kernel_rfl) fun rs => ?_
  unfold c_wFnExactReadJobs
  split
  · rename_i a0; intro v h; exact ⟨rfl, l_wFnExactReadJobs v, rfl, (f_wFnExactReadJobs_top a0 _).trans (s_wFnExactReadJobs_ok a0 v h)⟩
  · intro v h; cases h
end Go.RR
