/- Longest chains. -/
import Derived.Test.YtkohnhkehedflaaVk
import Derived.Test.YtkohnhkehedflaaRw
set_option linter.unusedVariables false
set_option linter.unusedSimpArgs false
set_option linter.unusedSectionVars false
set_option maxRecDepth 100000
namespace Go.RR
open Go Go.Proofs

/-! ### function 220: slices.Reverse[[]int64,int64] -/
noncomputable def f_gReverse_int64_c : Code := match Try.f220.body with | some c => c | none => .skip
noncomputable def f_gReverse_int64_X : Ctx := ⟨TT, phiOf [], noPsi, noXi⟩
def f_gReverse_int64_LV : List (Nat × Keep) := [(1, ([0, 2, 3], [], []))]
def f_gReverse_int64_rv : List ResultVar := []
noncomputable def f_gReverse_int64_L (r : List A) : Nat → AS → Option (List A) := L f_gReverse_int64_X (cnOfU f_gReverse_int64_LV) f_gReverse_int64_c (K0U TT f_gReverse_int64_rv) r
theorem f_gReverse_int64_ctx : CtxOK Try.prog f_gReverse_int64_X := ctx_of tab mix trivial
noncomputable def f_gReverse_int64_s1 (x0 : Int) (x1 : Int) (x2 : (List Int)) : AS := ⟨[(0, .a (.sl 0)), (2, .a (.v (.int .i64 x0))), (3, .a (.v (.int .i64 x1)))], [(0, some ⟨true, .arr (.one (.i .i64)) x2⟩)], 1⟩
noncomputable def l_gReverse_int64 (r : (List Int)) : List A := [.lst (.one (.i .i64)) r]
theorem f_gReverse_int64_step1 (x0 : Int) (x1 : Int) (x2 : (List Int)) (r : List A) (h : (cond (decide (x0 < x1)) (cond (inB x1 (List.length x2)) (cond (inB x0 (List.length x2)) (cond (inB x0 (List.length x2)) (cond (inB x1 (List.length (List.set x2 (Int.toNat x0) (List.getD x2 (Int.toNat x1) 0)))) (f_gReverse_int64_L r 1 (f_gReverse_int64_s1 (IntKind.wrap .i64 (x0 + 1)) (IntKind.wrap .i64 (x1 - 1)) (List.set (List.set x2 (Int.toNat x0) (List.getD x2 (Int.toNat x1) 0)) (Int.toNat x1) (List.getD x2 (Int.toNat x0) 0)))) none) none) none) none) (some [.lst (.one (.i .i64)) x2])) = some r) : f_gReverse_int64_L r 1 (f_gReverse_int64_s1 x0 x1 x2) = some r :=
  step_of' h (by kernel_rfl)
noncomputable def f_gReverse_int64_n1 (x0 : Int) (x1 : Int) (x2 : (List Int)) : Option ((Int × Int × (List Int)) ⊕ (List Int)) := (cond (decide (x0 < x1)) (cond (inB x1 (List.length x2)) (cond (inB x0 (List.length x2)) (cond (inB x0 (List.length x2)) (cond (inB x1 (List.length (List.set x2 (Int.toNat x0) (List.getD x2 (Int.toNat x1) 0)))) (some (Sum.inl ((IntKind.wrap .i64 (x0 + 1)), (IntKind.wrap .i64 (x1 - 1)), (List.set (List.set x2 (Int.toNat x0) (List.getD x2 (Int.toNat x1) 0)) (Int.toNat x1) (List.getD x2 (Int.toNat x0) 0))))) none) none) none) none) (some (Sum.inr x2)))
noncomputable def f_gReverse_int64_run1 (x : (Int × Int × (List Int))) : Option (List Int) := iter (fun x => f_gReverse_int64_n1 x.1 x.2.1 x.2.2) FU x
noncomputable def f_gReverse_int64_G1 (r : List A) (x : (Int × Int × (List Int))) : Prop := f_gReverse_int64_L r 1 (f_gReverse_int64_s1 x.1 x.2.1 x.2.2) = some r
noncomputable def f_gReverse_int64_S1 (r : List A) : (List Int) → Prop := fun v => r = l_gReverse_int64 v
theorem f_gReverse_int64_go1 (r : List A) : ∀ x, sem (f_gReverse_int64_S1 r) (f_gReverse_int64_run1 x) → f_gReverse_int64_G1 r x :=
  fun x => iter_sound (step := fun x => f_gReverse_int64_n1 x.1 x.2.1 x.2.2) (fun x h => by
    unfold f_gReverse_int64_n1 at h
    exact f_gReverse_int64_step1 x.1 x.2.1 x.2.2 r ((sem_cond h (fun h => (sem_cond h (fun h => (sem_cond h (fun h => (sem_cond h (fun h => (sem_cond h (fun h => sem_got h fun q => q) (fun h => sem_none h))) (fun h => sem_none h))) (fun h => sem_none h))) (fun h => sem_none h))) (fun h => sem_got h fun q => some_eq q)))) FU x
noncomputable def s_gReverse_int64 (a0 : (List Int)) : Option (List Int) := (f_gReverse_int64_run1 (0, (IntKind.wrap .i64 (((List.length a0 : Nat) : Int) - 1)), a0))
theorem f_gReverse_int64_top (a0 : (List Int)) (r : List A) : ev f_gReverse_int64_X (lpc (cnOfU f_gReverse_int64_LV) (f_gReverse_int64_L r)) f_gReverse_int64_c (K0U TT f_gReverse_int64_rv) (enterU (.one (.i .i64)) a0 []) = (f_gReverse_int64_L r 1 (f_gReverse_int64_s1 0 (IntKind.wrap .i64 (((List.length a0 : Nat) : Int) - 1)) a0)) := by kernel_rfl
theorem s_gReverse_int64_ok (a0 : (List Int)) (v : (List Int)) (h : s_gReverse_int64 a0 = some v) : (f_gReverse_int64_L (l_gReverse_int64 v) 1 (f_gReverse_int64_s1 0 (IntKind.wrap .i64 (((List.length a0 : Nat) : Int) - 1)) a0)) = some (l_gReverse_int64 v) := by
  unfold s_gReverse_int64 at h
  have go : ∀ r, sem (fun v => r = l_gReverse_int64 v) ((f_gReverse_int64_run1 (0, (IntKind.wrap .i64 (((List.length a0 : Nat) : Int) - 1)), a0))) → (f_gReverse_int64_L r 1 (f_gReverse_int64_s1 0 (IntKind.wrap .i64 (((List.length a0 : Nat) : Int) - 1)) a0)) = some r := fun r h => f_gReverse_int64_go1 r _ h
  exact go (l_gReverse_int64 v) ⟨v, h, rfl⟩
noncomputable def u_gReverse_int64 : UCon := fun e l rest => match e, l, rest with
  | (.one (.i .i64)), a0, [] => ⟨(List Int), s_gReverse_int64 a0, fun r => none, fun r => r⟩
  | _, _, _ => UCall.fail
theorem f_gReverse_int64_sound : USound Try.prog 220 u_gReverse_int64 := by
  refine sound_goodU f_gReverse_int64_ctx f_gReverse_int64_LV 1 Try.func220 (c := f_gReverse_int64_c) (by kernel_rfl) (rv := f_gReverse_int64_rv) (by kernel_rfl) (by kernel_rfl) (by kernel_rfl) (by kernel_rfl) fun e l rest => ?_
  unfold u_gReverse_int64
  split
  · rename_i a0; intro v h; exact ⟨rfl, (f_gReverse_int64_top a0 _).trans (s_gReverse_int64_ok a0 v h)⟩
  · intro v h; cases h

/-! ### function 214: loop.example/g01322/impl.tails -/
noncomputable def f_itails_c : Code := match Try.f214.body with | some c => c | none => .skip
noncomputable def f_itails_X : Ctx := ⟨TT, phiOf [(167, c_iorder), (194, c_iJob_waits)], (psiOf [(220, u_gReverse_int64)]), noXi⟩
def f_itails_LV : List (Nat × Keep) := [(4, ([0, 3, 15, 16, 17], [], [])), (7, ([0, 3, 6, 15, 16, 17, 22, 23], [], []))]
def f_itails_rv : List ResultVar := [.tmp 2]
noncomputable def f_itails_L (r : List A) : Nat → AS → Option (List A) := L f_itails_X (cnOf f_itails_LV) f_itails_c (K0 TT f_itails_rv) r
theorem f_itails_ctx : CtxOK Try.prog f_itails_X := ctx_ofH tab mix (l := [(167, c_iorder), (194, c_iJob_waits)]) ⟨⟨Try.call167, f_iorder_sound⟩, ⟨Try.call194, f_iJob_waits_sound⟩, trivial⟩ (psi_ok (l := [(220, u_gReverse_int64)]) ⟨⟨Try.call220, f_gReverse_int64_sound⟩, trivial⟩) xi_no
noncomputable def f_itails_s4 (x0 : Int) (x1 : Int) (x2 : (List (Int × Int))) (x3 : (List Int)) (x4 : (List Int)) : AS := ⟨[(0, .a (.sl 0)), (3, .a (.sl 1)), (15, .a (.sl 2)), (16, .a (.v (.int .i64 x0))), (17, .a (.v (.int .i64 x1)))], [(0, some ⟨false, .arr (.st [(.i .i8), (.i .u16)]) x2⟩), (1, some ⟨true, .arr (.one (.i .i64)) x3⟩), (2, some ⟨true, .arr (.one (.i .i64)) x4⟩)], 3⟩
noncomputable def f_itails_s7 (x0 : Int) (x1 : Int) (x2 : Int) (x3 : Int) (x4 : Int) (x5 : (List (Int × Int))) (x6 : (List Int)) (x7 : (List Int)) : AS := ⟨[(0, .a (.sl 0)), (3, .a (.sl 1)), (6, .a (.v (.int .i64 x0))), (15, .a (.sl 2)), (16, .a (.v (.int .i64 x1))), (17, .a (.v (.int .i64 x2))), (22, .a (.v (.int .i64 x3))), (23, .a (.v (.int .i64 x4)))], [(0, some ⟨false, .arr (.st [(.i .i8), (.i .u16)]) x5⟩), (1, some ⟨true, .arr (.one (.i .i64)) x6⟩), (2, some ⟨true, .arr (.one (.i .i64)) x7⟩)], 3⟩
noncomputable def l_itails (r : (List Int)) : List A := [.lst (.one (.i .i64)) r]
theorem f_itails_step7 (x0 : Int) (x1 : Int) (x2 : Int) (x3 : Int) (x4 : Int) (x5 : (List (Int × Int))) (x6 : (List Int)) (x7 : (List Int)) (r : List A) (h : (cond (decide (x4 < x3)) (cond (inB x4 (List.length x5)) (Option.bind (s_iJob_waits (List.getD x5 (Int.toNat x4) ((0, 0) : (Int × Int))).1 (List.getD x5 (Int.toNat x4) ((0, 0) : (Int × Int))).2 x0) fun r3 => (cond r3 (cond (inB x0 (List.length x6)) (cond (inB x4 (List.length x6)) (cond (inB x0 (List.length x6)) (f_itails_L r 7 (f_itails_s7 x0 x1 x2 x3 (IntKind.wrap .i64 (x4 + 1)) x5 (List.set x6 (Int.toNat x0) (max (List.getD x6 (Int.toNat x0) 0) (List.getD x6 (Int.toNat x4) 0))) x7)) none) none) none) (f_itails_L r 7 (f_itails_s7 x0 x1 x2 x3 (IntKind.wrap .i64 (x4 + 1)) x5 x6 x7)))) none) (cond (inB x0 (List.length x6)) (cond (inB x0 (List.length x5)) (cond (inB x0 (List.length x6)) (f_itails_L r 4 (f_itails_s4 x1 (IntKind.wrap .i64 (x2 + 1)) x5 (List.set x6 (Int.toNat x0) (IntKind.wrap .i64 ((List.getD x6 (Int.toNat x0) 0) + (IntKind.wrap .i64 (List.getD x5 (Int.toNat x0) ((0, 0) : (Int × Int))).1)))) x7)) none) none) none)) = some r) : f_itails_L r 7 (f_itails_s7 x0 x1 x2 x3 x4 x5 x6 x7) = some r :=
  step_of' h (by kernel_rfl)
noncomputable def f_itails_n7 (x0 : Int) (x1 : Int) (x2 : Int) (x3 : Int) (x4 : Int) (x5 : (List (Int × Int))) (x6 : (List Int)) (x7 : (List Int)) : Option ((Int × Int × Int × Int × Int × (List (Int × Int)) × (List Int) × (List Int)) ⊕ ((Int × Int × (List (Int × Int)) × (List Int) × (List Int)) ⊕ (List Int))) := (cond (decide (x4 < x3)) (cond (inB x4 (List.length x5)) (Option.bind (s_iJob_waits (List.getD x5 (Int.toNat x4) ((0, 0) : (Int × Int))).1 (List.getD x5 (Int.toNat x4) ((0, 0) : (Int × Int))).2 x0) fun r3 => (cond r3 (cond (inB x0 (List.length x6)) (cond (inB x4 (List.length x6)) (cond (inB x0 (List.length x6)) (some (Sum.inl (x0, x1, x2, x3, (IntKind.wrap .i64 (x4 + 1)), x5, (List.set x6 (Int.toNat x0) (max (List.getD x6 (Int.toNat x0) 0) (List.getD x6 (Int.toNat x4) 0))), x7))) none) none) none) (some (Sum.inl (x0, x1, x2, x3, (IntKind.wrap .i64 (x4 + 1)), x5, x6, x7))))) none) (cond (inB x0 (List.length x6)) (cond (inB x0 (List.length x5)) (cond (inB x0 (List.length x6)) (some (Sum.inr (Sum.inl (x1, (IntKind.wrap .i64 (x2 + 1)), x5, (List.set x6 (Int.toNat x0) (IntKind.wrap .i64 ((List.getD x6 (Int.toNat x0) 0) + (IntKind.wrap .i64 (List.getD x5 (Int.toNat x0) ((0, 0) : (Int × Int))).1)))), x7)))) none) none) none))
noncomputable def f_itails_run7 (x : (Int × Int × Int × Int × Int × (List (Int × Int)) × (List Int) × (List Int))) : Option ((Int × Int × (List (Int × Int)) × (List Int) × (List Int)) ⊕ (List Int)) := iter (fun x => f_itails_n7 x.1 x.2.1 x.2.2.1 x.2.2.2.1 x.2.2.2.2.1 x.2.2.2.2.2.1 x.2.2.2.2.2.2.1 x.2.2.2.2.2.2.2) FU x
noncomputable def f_itails_G7 (r : List A) (x : (Int × Int × Int × Int × Int × (List (Int × Int)) × (List Int) × (List Int))) : Prop := f_itails_L r 7 (f_itails_s7 x.1 x.2.1 x.2.2.1 x.2.2.2.1 x.2.2.2.2.1 x.2.2.2.2.2.1 x.2.2.2.2.2.2.1 x.2.2.2.2.2.2.2) = some r
theorem f_itails_step4 (x0 : Int) (x1 : Int) (x2 : (List (Int × Int))) (x3 : (List Int)) (x4 : (List Int)) (r : List A) (h : (cond (decide (x1 < x0)) (cond (inB x1 (List.length x4)) (f_itails_L r 7 (f_itails_s7 (List.getD x4 (Int.toNat x1) 0) x0 x1 ((List.length x2 : Nat) : Int) 0 x2 x3 x4)) none) (some [.lst (.one (.i .i64)) x3])) = some r) : f_itails_L r 4 (f_itails_s4 x0 x1 x2 x3 x4) = some r :=
  step_of' h (by kernel_rfl)
noncomputable def f_itails_n4 (x0 : Int) (x1 : Int) (x2 : (List (Int × Int))) (x3 : (List Int)) (x4 : (List Int)) : Option ((Int × Int × (List (Int × Int)) × (List Int) × (List Int)) ⊕ (List Int)) := (cond (decide (x1 < x0)) (cond (inB x1 (List.length x4)) (f_itails_run7 ((List.getD x4 (Int.toNat x1) 0), x0, x1, ((List.length x2 : Nat) : Int), 0, x2, x3, x4)) none) (some (Sum.inr x3)))
noncomputable def f_itails_run4 (x : (Int × Int × (List (Int × Int)) × (List Int) × (List Int))) : Option (List Int) := iter (fun x => f_itails_n4 x.1 x.2.1 x.2.2.1 x.2.2.2.1 x.2.2.2.2) FU x
noncomputable def f_itails_G4 (r : List A) (x : (Int × Int × (List (Int × Int)) × (List Int) × (List Int))) : Prop := f_itails_L r 4 (f_itails_s4 x.1 x.2.1 x.2.2.1 x.2.2.2.1 x.2.2.2.2) = some r
noncomputable def f_itails_S4 (r : List A) : (List Int) → Prop := fun v => r = l_itails v
noncomputable def f_itails_S7 (r : List A) : ((Int × Int × (List (Int × Int)) × (List Int) × (List Int)) ⊕ (List Int)) → Prop := goesOn (f_itails_G4 r) (f_itails_S4 r)
theorem f_itails_go7 (r : List A) : ∀ x, sem (f_itails_S7 r) (f_itails_run7 x) → f_itails_G7 r x :=
  fun x => iter_sound (step := fun x => f_itails_n7 x.1 x.2.1 x.2.2.1 x.2.2.2.1 x.2.2.2.2.1 x.2.2.2.2.2.1 x.2.2.2.2.2.2.1 x.2.2.2.2.2.2.2) (fun x h => by
    unfold f_itails_n7 at h
    exact f_itails_step7 x.1 x.2.1 x.2.2.1 x.2.2.2.1 x.2.2.2.2.1 x.2.2.2.2.2.1 x.2.2.2.2.2.2.1 x.2.2.2.2.2.2.2 r ((sem_cond h (fun h => (sem_cond h (fun h => (sem_bind h fun r3 h => (sem_cond h (fun h => (sem_cond h (fun h => (sem_cond h (fun h => (sem_cond h (fun h => sem_got h fun q => q) (fun h => sem_none h))) (fun h => sem_none h))) (fun h => sem_none h))) (fun h => sem_got h fun q => q)))) (fun h => sem_none h))) (fun h => (sem_cond h (fun h => (sem_cond h (fun h => (sem_cond h (fun h => sem_got h fun q => q) (fun h => sem_none h))) (fun h => sem_none h))) (fun h => sem_none h)))))) FU x
theorem f_itails_go4 (r : List A) : ∀ x, sem (f_itails_S4 r) (f_itails_run4 x) → f_itails_G4 r x :=
  fun x => iter_sound (step := fun x => f_itails_n4 x.1 x.2.1 x.2.2.1 x.2.2.2.1 x.2.2.2.2) (fun x h => by
    unfold f_itails_n4 at h
    exact f_itails_step4 x.1 x.2.1 x.2.2.1 x.2.2.2.1 x.2.2.2.2 r ((sem_cond h (fun h => (sem_cond h (fun h => f_itails_go7 r _ h) (fun h => sem_none h))) (fun h => sem_got h fun q => some_eq q)))) FU x
noncomputable def s_itails (a0 : (List (Int × Int))) : Option (List Int) := (cond (decide (0 ≤ ((List.length a0 : Nat) : Int)) && decide (((List.length a0 : Nat) : Int) = ((List.length a0 : Nat) : Int)) && fits ((Int.toNat ((List.length a0 : Nat) : Int)) * 8)) (Option.bind (s_iorder a0) fun r1 => (Option.bind (s_gReverse_int64 r1) fun r2 => (f_itails_run4 (((List.length (r2) : Nat) : Int), 0, a0, (List.replicate (Int.toNat ((List.length a0 : Nat) : Int)) 0), (r2))))) none)
theorem f_itails_top (a0 : (List (Int × Int))) (r : List A) : ev f_itails_X (lpc (cnOf f_itails_LV) (f_itails_L r)) f_itails_c (K0 TT f_itails_rv) (enter [.lst (.st [(.i .i8), (.i .u16)]) a0]) = (cond (decide (0 ≤ ((List.length a0 : Nat) : Int)) && decide (((List.length a0 : Nat) : Int) = ((List.length a0 : Nat) : Int)) && fits ((Int.toNat ((List.length a0 : Nat) : Int)) * 8)) (Option.bind (s_iorder a0) fun r1 => (Option.bind (s_gReverse_int64 r1) fun r2 => (f_itails_L r 4 (f_itails_s4 ((List.length (r2) : Nat) : Int) 0 a0 (List.replicate (Int.toNat ((List.length a0 : Nat) : Int)) 0) (r2))))) none) := by kernel_rfl
theorem s_itails_ok (a0 : (List (Int × Int))) (v : (List Int)) (h : s_itails a0 = some v) : (cond (decide (0 ≤ ((List.length a0 : Nat) : Int)) && decide (((List.length a0 : Nat) : Int) = ((List.length a0 : Nat) : Int)) && fits ((Int.toNat ((List.length a0 : Nat) : Int)) * 8)) (Option.bind (s_iorder a0) fun r1 => (Option.bind (s_gReverse_int64 r1) fun r2 => (f_itails_L (l_itails v) 4 (f_itails_s4 ((List.length (r2) : Nat) : Int) 0 a0 (List.replicate (Int.toNat ((List.length a0 : Nat) : Int)) 0) (r2))))) none) = some (l_itails v) := by
  unfold s_itails at h
  have go : ∀ r, sem (fun v => r = l_itails v) ((cond (decide (0 ≤ ((List.length a0 : Nat) : Int)) && decide (((List.length a0 : Nat) : Int) = ((List.length a0 : Nat) : Int)) && fits ((Int.toNat ((List.length a0 : Nat) : Int)) * 8)) (Option.bind (s_iorder a0) fun r1 => (Option.bind (s_gReverse_int64 r1) fun r2 => (f_itails_run4 (((List.length (r2) : Nat) : Int), 0, a0, (List.replicate (Int.toNat ((List.length a0 : Nat) : Int)) 0), (r2))))) none)) → (cond (decide (0 ≤ ((List.length a0 : Nat) : Int)) && decide (((List.length a0 : Nat) : Int) = ((List.length a0 : Nat) : Int)) && fits ((Int.toNat ((List.length a0 : Nat) : Int)) * 8)) (Option.bind (s_iorder a0) fun r1 => (Option.bind (s_gReverse_int64 r1) fun r2 => (f_itails_L r 4 (f_itails_s4 ((List.length (r2) : Nat) : Int) 0 a0 (List.replicate (Int.toNat ((List.length a0 : Nat) : Int)) 0) (r2))))) none) = some r := fun r h => (sem_cond h (fun h => (sem_bind h fun r1 h => (sem_bind h fun r2 h => f_itails_go4 r _ h))) (fun h => sem_none h))
  exact go (l_itails v) ⟨v, h, rfl⟩
noncomputable def c_itails : List A → ACall
  | [.lst (.st [(.i .i8), (.i .u16)]) a0] => ⟨(List Int), s_itails a0, fun r => .one (.lst (.one (.i .i64)) r)⟩
  | _ => ACall.fail
theorem f_itails_sound : Sound Try.prog 214 c_itails := by
  refine sound_good f_itails_ctx f_itails_LV 1 Try.func214 (c := f_itails_c) (by kernel_rfl) (rv := f_itails_rv) (by kernel_rfl) (by kernel_rfl) (by kernel_rfl) (by kernel_rfl) fun rs => ?_
  unfold c_itails
  split
  · rename_i a0; intro v h; exact ⟨rfl, l_itails v, rfl, (f_itails_top a0 _).trans (s_itails_ok a0 v h)⟩
  · intro v h; cases h

/-! ### function 196: loop.example/g01322/impl.longest -/
noncomputable def f_ilongest_c : Code := match Try.f196.body with | some c => c | none => .skip
noncomputable def f_ilongest_X : Ctx := ⟨TT, phiOf [(214, c_itails)], noPsi, noXi⟩
def f_ilongest_LV : List (Nat × Keep) := [(3, ([3, 7, 8, 9], [], []))]
def f_ilongest_rv : List ResultVar := [.tmp 2]
noncomputable def f_ilongest_L (r : List A) : Nat → AS → Option (List A) := L f_ilongest_X (cnOf f_ilongest_LV) f_ilongest_c (K0 TT f_ilongest_rv) r
theorem f_ilongest_ctx : CtxOK Try.prog f_ilongest_X := ctx_of tab mix ⟨⟨Try.call214, f_itails_sound⟩, trivial⟩
noncomputable def f_ilongest_s3 (x0 : Int) (x1 : Int) (x2 : Int) (x3 : (List Int)) : AS := ⟨[(3, .a (.v (.int .i64 x0))), (7, .a (.sl 0)), (8, .a (.v (.int .i64 x1))), (9, .a (.v (.int .i64 x2)))], [(0, some ⟨true, .arr (.one (.i .i64)) x3⟩)], 1⟩
noncomputable def l_ilongest (r : Int) : List A := [.v (.int .i64 r)]
theorem f_ilongest_step3 (x0 : Int) (x1 : Int) (x2 : Int) (x3 : (List Int)) (r : List A) (h : (cond (decide (x2 < x1)) (cond (inB x2 (List.length x3)) (f_ilongest_L r 3 (f_ilongest_s3 (max x0 (List.getD x3 (Int.toNat x2) 0)) x1 (IntKind.wrap .i64 (x2 + 1)) x3)) none) (some [.v (.int .i64 x0)])) = some r) : f_ilongest_L r 3 (f_ilongest_s3 x0 x1 x2 x3) = some r :=
  step_of' h (by kernel_rfl)
noncomputable def f_ilongest_n3 (x0 : Int) (x1 : Int) (x2 : Int) (x3 : (List Int)) : Option ((Int × Int × Int × (List Int)) ⊕ Int) := (cond (decide (x2 < x1)) (cond (inB x2 (List.length x3)) (some (Sum.inl ((max x0 (List.getD x3 (Int.toNat x2) 0)), x1, (IntKind.wrap .i64 (x2 + 1)), x3))) none) (some (Sum.inr x0)))
noncomputable def f_ilongest_run3 (x : (Int × Int × Int × (List Int))) : Option Int := iter (fun x => f_ilongest_n3 x.1 x.2.1 x.2.2.1 x.2.2.2) FU x
noncomputable def f_ilongest_G3 (r : List A) (x : (Int × Int × Int × (List Int))) : Prop := f_ilongest_L r 3 (f_ilongest_s3 x.1 x.2.1 x.2.2.1 x.2.2.2) = some r
noncomputable def f_ilongest_S3 (r : List A) : Int → Prop := fun v => r = l_ilongest v
theorem f_ilongest_go3 (r : List A) : ∀ x, sem (f_ilongest_S3 r) (f_ilongest_run3 x) → f_ilongest_G3 r x :=
  fun x => iter_sound (step := fun x => f_ilongest_n3 x.1 x.2.1 x.2.2.1 x.2.2.2) (fun x h => by
    unfold f_ilongest_n3 at h
    exact f_ilongest_step3 x.1 x.2.1 x.2.2.1 x.2.2.2 r ((sem_cond h (fun h => (sem_cond h (fun h => sem_got h fun q => q) (fun h => sem_none h))) (fun h => sem_got h fun q => some_eq q)))) FU x
noncomputable def s_ilongest (a0 : (List (Int × Int))) : Option Int := (Option.bind (s_itails a0) fun r1 => (f_ilongest_run3 (0, ((List.length r1 : Nat) : Int), 0, r1)))
theorem f_ilongest_top (a0 : (List (Int × Int))) (r : List A) : ev f_ilongest_X (lpc (cnOf f_ilongest_LV) (f_ilongest_L r)) f_ilongest_c (K0 TT f_ilongest_rv) (enter [.lst (.st [(.i .i8), (.i .u16)]) a0]) = (Option.bind (s_itails a0) fun r1 => (f_ilongest_L r 3 (f_ilongest_s3 0 ((List.length r1 : Nat) : Int) 0 r1))) := by kernel_rfl
theorem s_ilongest_ok (a0 : (List (Int × Int))) (v : Int) (h : s_ilongest a0 = some v) : (Option.bind (s_itails a0) fun r1 => (f_ilongest_L (l_ilongest v) 3 (f_ilongest_s3 0 ((List.length r1 : Nat) : Int) 0 r1))) = some (l_ilongest v) := by
  unfold s_ilongest at h
  have go : ∀ r, sem (fun v => r = l_ilongest v) ((Option.bind (s_itails a0) fun r1 => (f_ilongest_run3 (0, ((List.length r1 : Nat) : Int), 0, r1)))) → (Option.bind (s_itails a0) fun r1 => (f_ilongest_L r 3 (f_ilongest_s3 0 ((List.length r1 : Nat) : Int) 0 r1))) = some r := fun r h => (sem_bind h fun r1 h => f_ilongest_go3 r _ h)
  exact go (l_ilongest v) ⟨v, h, rfl⟩
noncomputable def c_ilongest : List A → ACall
  | [.lst (.st [(.i .i8), (.i .u16)]) a0] => ⟨Int, s_ilongest a0, fun r => .one (.v (.int .i64 r))⟩
  | _ => ACall.fail
theorem f_ilongest_sound : Sound Try.prog 196 c_ilongest := by
  refine sound_good f_ilongest_ctx f_ilongest_LV 1 Try.func196 (c := f_ilongest_c) (by kernel_rfl) (rv := f_ilongest_rv) (by kernel_rfl) (by kernel_rfl) (by kernel_rfl) (by kernel_rfl) fun rs => ?_
  unfold c_ilongest
  split
  · rename_i a0; intro v h; exact ⟨rfl, l_ilongest v, rfl, (f_ilongest_top a0 _).trans (s_ilongest_ok a0 v h)⟩
  · intro v h; cases h

/-! ### function 153: loop.example/g01322/impl.bound -/
noncomputable def f_ibound_c : Code := match Try.f153.body with | some c => c | none => .skip
noncomputable def f_ibound_X : Ctx := ⟨TT, phiOf [(196, c_ilongest)], noPsi, noXi⟩
def f_ibound_LV : List (Nat × Keep) := [(3, ([0, 1, 5, 8, 9, 10], [], []))]
def f_ibound_rv : List ResultVar := [.tmp 4]
noncomputable def f_ibound_L (r : List A) : Nat → AS → Option (List A) := L f_ibound_X (cnOf f_ibound_LV) f_ibound_c (K0 TT f_ibound_rv) r
theorem f_ibound_ctx : CtxOK Try.prog f_ibound_X := ctx_of tab mix ⟨⟨Try.call196, f_ilongest_sound⟩, trivial⟩
noncomputable def f_ibound_s3 (x0 : Int) (x1 : Int) (x2 : Int) (x3 : Int) (x4 : (List (Int × Int))) : AS := ⟨[(0, .a (.sl 0)), (1, .a (.v (.int .i64 x0))), (5, .a (.v (.int .i64 x1))), (8, .a (.sl 0)), (9, .a (.v (.int .i64 x2))), (10, .a (.v (.int .i64 x3)))], [(0, some ⟨false, .arr (.st [(.i .i8), (.i .u16)]) x4⟩)], 1⟩
noncomputable def l_ibound (r : Int) : List A := [.v (.int .i64 r)]
theorem f_ibound_step3 (x0 : Int) (x1 : Int) (x2 : Int) (x3 : Int) (x4 : (List (Int × Int))) (r : List A) (h : (cond (decide (x3 < x2)) (cond (inB x3 (List.length x4)) (f_ibound_L r 3 (f_ibound_s3 x0 (IntKind.wrap .i64 (x1 + (IntKind.wrap .i64 (List.getD x4 (Int.toNat x3) ((0, 0) : (Int × Int))).1))) x2 (IntKind.wrap .i64 (x3 + 1)) x4)) none) (Option.bind (s_ilongest x4) fun r1 => (cond (decide (x0 = 0)) none (some [.v (.int .i64 (max r1 (IntKind.wrap .i64 (Int.tdiv (IntKind.wrap .i64 ((IntKind.wrap .i64 (x1 + x0)) - 1)) x0))))])))) = some r) : f_ibound_L r 3 (f_ibound_s3 x0 x1 x2 x3 x4) = some r :=
  step_of' h (by kernel_rfl)
noncomputable def f_ibound_n3 (x0 : Int) (x1 : Int) (x2 : Int) (x3 : Int) (x4 : (List (Int × Int))) : Option ((Int × Int × Int × Int × (List (Int × Int))) ⊕ Int) := (cond (decide (x3 < x2)) (cond (inB x3 (List.length x4)) (some (Sum.inl (x0, (IntKind.wrap .i64 (x1 + (IntKind.wrap .i64 (List.getD x4 (Int.toNat x3) ((0, 0) : (Int × Int))).1))), x2, (IntKind.wrap .i64 (x3 + 1)), x4))) none) (Option.bind (s_ilongest x4) fun r1 => (cond (decide (x0 = 0)) none (some (Sum.inr (max r1 (IntKind.wrap .i64 (Int.tdiv (IntKind.wrap .i64 ((IntKind.wrap .i64 (x1 + x0)) - 1)) x0))))))))
noncomputable def f_ibound_run3 (x : (Int × Int × Int × Int × (List (Int × Int)))) : Option Int := iter (fun x => f_ibound_n3 x.1 x.2.1 x.2.2.1 x.2.2.2.1 x.2.2.2.2) FU x
noncomputable def f_ibound_G3 (r : List A) (x : (Int × Int × Int × Int × (List (Int × Int)))) : Prop := f_ibound_L r 3 (f_ibound_s3 x.1 x.2.1 x.2.2.1 x.2.2.2.1 x.2.2.2.2) = some r
noncomputable def f_ibound_S3 (r : List A) : Int → Prop := fun v => r = l_ibound v
theorem f_ibound_go3 (r : List A) : ∀ x, sem (f_ibound_S3 r) (f_ibound_run3 x) → f_ibound_G3 r x :=
  fun x => iter_sound (step := fun x => f_ibound_n3 x.1 x.2.1 x.2.2.1 x.2.2.2.1 x.2.2.2.2) (fun x h => by
    unfold f_ibound_n3 at h
    exact f_ibound_step3 x.1 x.2.1 x.2.2.1 x.2.2.2.1 x.2.2.2.2 r ((sem_cond h (fun h => (sem_cond h (fun h => sem_got h fun q => q) (fun h => sem_none h))) (fun h => (sem_bind h fun r1 h => (sem_cond h (fun h => sem_none h) (fun h => sem_got h fun q => some_eq q))))))) FU x
noncomputable def s_ibound (a0 : (List (Int × Int))) (a1 : Int) : Option Int := (f_ibound_run3 (a1, 0, ((List.length a0 : Nat) : Int), 0, a0))
theorem f_ibound_top (a0 : (List (Int × Int))) (a1 : Int) (r : List A) : ev f_ibound_X (lpc (cnOf f_ibound_LV) (f_ibound_L r)) f_ibound_c (K0 TT f_ibound_rv) (enter [.lst (.st [(.i .i8), (.i .u16)]) a0, .v (.int .i64 a1)]) = (f_ibound_L r 3 (f_ibound_s3 a1 0 ((List.length a0 : Nat) : Int) 0 a0)) := by kernel_rfl
theorem s_ibound_ok (a0 : (List (Int × Int))) (a1 : Int) (v : Int) (h : s_ibound a0 a1 = some v) : (f_ibound_L (l_ibound v) 3 (f_ibound_s3 a1 0 ((List.length a0 : Nat) : Int) 0 a0)) = some (l_ibound v) := by
  unfold s_ibound at h
  have go : ∀ r, sem (fun v => r = l_ibound v) ((f_ibound_run3 (a1, 0, ((List.length a0 : Nat) : Int), 0, a0))) → (f_ibound_L r 3 (f_ibound_s3 a1 0 ((List.length a0 : Nat) : Int) 0 a0)) = some r := fun r h => f_ibound_go3 r _ h
  exact go (l_ibound v) ⟨v, h, rfl⟩
noncomputable def c_ibound : List A → ACall
  | [.lst (.st [(.i .i8), (.i .u16)]) a0, .v (.int .i64 a1)] => ⟨Int, s_ibound a0 a1, fun r => .one (.v (.int .i64 r))⟩
  | _ => ACall.fail
theorem f_ibound_sound : Sound Try.prog 153 c_ibound := by
  refine sound_good f_ibound_ctx f_ibound_LV 2 Try.func153 (c := f_ibound_c) (by kernel_rfl) (rv := f_ibound_rv) (by kernel_rfl) (by kernel_rfl) (by kernel_rfl) (by kernel_rfl) fun rs => ?_
  unfold c_ibound
  split
  · rename_i a0 a1; intro v h; exact ⟨rfl, l_ibound v, rfl, (f_ibound_top a0 a1 _).trans (s_ibound_ok a0 a1 v h)⟩
  · intro v h; cases h

/-! ### function 171: loop.example/g01322/spec.l00Max -/
noncomputable def f_sl00Max_c : Code := match Try.f171.body with | some c => c | none => .skip
noncomputable def f_sl00Max_X : Ctx := ⟨TT, phiOf [], noPsi, noXi⟩
def f_sl00Max_LV : List (Nat × Keep) := []
def f_sl00Max_rv : List ResultVar := [.tmp 4]
noncomputable def f_sl00Max_L (r : List A) : Nat → AS → Option (List A) := L f_sl00Max_X (cnOf f_sl00Max_LV) f_sl00Max_c (K0 TT f_sl00Max_rv) r
theorem f_sl00Max_ctx : CtxOK Try.prog f_sl00Max_X := ctx_of tab mix trivial
noncomputable def s_sl00Max (a0 : Int) (a1 : Int) : Int := (cond (decide (a0 > a1)) a0 a1)
theorem f_sl00Max_top (a0 : Int) (a1 : Int) (r : List A) : ev f_sl00Max_X (lpc (cnOf f_sl00Max_LV) (f_sl00Max_L r)) f_sl00Max_c (K0 TT f_sl00Max_rv) (enter [.v (.int .i64 a0), .v (.int .i64 a1)]) = (cond (decide (a0 > a1)) (some [.v (.int .i64 a0)]) (some [.v (.int .i64 a1)])) := by kernel_rfl
noncomputable def l_sl00Max (r : Int) : List A := [.v (.int .i64 r)]
theorem s_sl00Max_ok (a0 : Int) (a1 : Int) : (cond (decide (a0 > a1)) (some [.v (.int .i64 a0)]) (some [.v (.int .i64 a1)])) = some (l_sl00Max (s_sl00Max a0 a1)) := by
  unfold s_sl00Max
  exact (cond_app (fun x => some (l_sl00Max x)) rfl rfl)
noncomputable def c_sl00Max : List A → ACall
  | [.v (.int .i64 a0), .v (.int .i64 a1)] => ⟨Int, some (s_sl00Max a0 a1), fun r => .one (.v (.int .i64 r))⟩
  | _ => ACall.fail
theorem f_sl00Max_sound : Sound Try.prog 171 c_sl00Max := by
  refine sound_good f_sl00Max_ctx f_sl00Max_LV 2 Try.func171 (c := f_sl00Max_c) (by kernel_rfl) (rv := f_sl00Max_rv) (by kernel_rfl) (by kernel_rfl) (by kernel_rfl) (by kernel_rfl) fun rs => ?_
  unfold c_sl00Max
  split
  · rename_i a0 a1; intro v h; cases h; exact ⟨rfl, l_sl00Max (s_sl00Max a0 a1), rfl, (f_sl00Max_top a0 a1 _).trans (s_sl00Max_ok a0 a1)⟩
  · intro v h; cases h

/-! ### function 215: loop.example/g01322/spec.l07Tails -/
noncomputable def f_sl07Tails_c : Code := match Try.f215.body with | some c => c | none => .skip
noncomputable def f_sl07Tails_X : Ctx := ⟨TT, phiOf [(163, c_sl07Order), (171, c_sl00Max), (195, c_sl07Waits)], noPsi, noXi⟩
def f_sl07Tails_LV : List (Nat × Keep) := [(4, ([0, 3, 5, 6], [], [])), (9, ([0, 3, 5, 6, 7, 8, 9], [], []))]
def f_sl07Tails_rv : List ResultVar := [.tmp 2]
noncomputable def f_sl07Tails_L (r : List A) : Nat → AS → Option (List A) := L f_sl07Tails_X (cnOf f_sl07Tails_LV) f_sl07Tails_c (K0 TT f_sl07Tails_rv) r
theorem f_sl07Tails_ctx : CtxOK Try.prog f_sl07Tails_X := ctx_of tab mix ⟨⟨Try.call163, f_sl07Order_sound⟩, ⟨Try.call171, f_sl00Max_sound⟩, ⟨Try.call195, f_sl07Waits_sound⟩, trivial⟩
noncomputable def f_sl07Tails_s4 (x0 : Int) (x1 : (List (Int × Int))) (x2 : (List Int)) (x3 : (List Int)) : AS := ⟨[(0, .a (.sl 0)), (3, .a (.sl 1)), (5, .a (.sl 2)), (6, .a (.v (.int .i64 x0)))], [(0, some ⟨false, .arr (.st [(.i .i8), (.i .u16)]) x1⟩), (1, some ⟨true, .arr (.one (.i .i64)) x2⟩), (2, some ⟨true, .arr (.one (.i .i64)) x3⟩)], 3⟩
noncomputable def f_sl07Tails_s9 (x0 : Int) (x1 : Int) (x2 : Int) (x3 : Int) (x4 : (List (Int × Int))) (x5 : (List Int)) (x6 : (List Int)) : AS := ⟨[(0, .a (.sl 0)), (3, .a (.sl 1)), (5, .a (.sl 2)), (6, .a (.v (.int .i64 x0))), (7, .a (.v (.int .i64 x1))), (8, .a (.v (.int .i64 x2))), (9, .a (.v (.int .i64 x3)))], [(0, some ⟨false, .arr (.st [(.i .i8), (.i .u16)]) x4⟩), (1, some ⟨true, .arr (.one (.i .i64)) x5⟩), (2, some ⟨true, .arr (.one (.i .i64)) x6⟩)], 3⟩
noncomputable def l_sl07Tails (r : (List Int)) : List A := [.lst (.one (.i .i64)) r]
theorem f_sl07Tails_step9 (x0 : Int) (x1 : Int) (x2 : Int) (x3 : Int) (x4 : (List (Int × Int))) (x5 : (List Int)) (x6 : (List Int)) (r : List A) (h : (cond (decide (x3 < ((List.length x4 : Nat) : Int))) (Option.bind (s_sl07Waits x4 x3 x1) fun r2 => (cond r2 (cond (inB x3 (List.length x6)) (f_sl07Tails_L r 9 (f_sl07Tails_s9 x0 x1 (s_sl00Max x2 (List.getD x6 (Int.toNat x3) 0)) (IntKind.wrap .i64 (x3 + 1)) x4 x5 x6)) none) (f_sl07Tails_L r 9 (f_sl07Tails_s9 x0 x1 x2 (IntKind.wrap .i64 (x3 + 1)) x4 x5 x6)))) (cond (inB x1 (List.length x4)) (cond (inB x1 (List.length x6)) (f_sl07Tails_L r 4 (f_sl07Tails_s4 (IntKind.wrap .i64 (x0 - 1)) x4 x5 (List.set x6 (Int.toNat x1) (IntKind.wrap .i64 (x2 + (IntKind.wrap .i64 (List.getD x4 (Int.toNat x1) ((0, 0) : (Int × Int))).1)))))) none) none)) = some r) : f_sl07Tails_L r 9 (f_sl07Tails_s9 x0 x1 x2 x3 x4 x5 x6) = some r :=
  step_of' h (by kernel_rfl)
noncomputable def f_sl07Tails_n9 (x0 : Int) (x1 : Int) (x2 : Int) (x3 : Int) (x4 : (List (Int × Int))) (x5 : (List Int)) (x6 : (List Int)) : Option ((Int × Int × Int × Int × (List (Int × Int)) × (List Int) × (List Int)) ⊕ ((Int × (List (Int × Int)) × (List Int) × (List Int)) ⊕ (List Int))) := (cond (decide (x3 < ((List.length x4 : Nat) : Int))) (Option.bind (s_sl07Waits x4 x3 x1) fun r2 => (cond r2 (cond (inB x3 (List.length x6)) (some (Sum.inl (x0, x1, (s_sl00Max x2 (List.getD x6 (Int.toNat x3) 0)), (IntKind.wrap .i64 (x3 + 1)), x4, x5, x6))) none) (some (Sum.inl (x0, x1, x2, (IntKind.wrap .i64 (x3 + 1)), x4, x5, x6))))) (cond (inB x1 (List.length x4)) (cond (inB x1 (List.length x6)) (some (Sum.inr (Sum.inl ((IntKind.wrap .i64 (x0 - 1)), x4, x5, (List.set x6 (Int.toNat x1) (IntKind.wrap .i64 (x2 + (IntKind.wrap .i64 (List.getD x4 (Int.toNat x1) ((0, 0) : (Int × Int))).1)))))))) none) none))
noncomputable def f_sl07Tails_run9 (x : (Int × Int × Int × Int × (List (Int × Int)) × (List Int) × (List Int))) : Option ((Int × (List (Int × Int)) × (List Int) × (List Int)) ⊕ (List Int)) := iter (fun x => f_sl07Tails_n9 x.1 x.2.1 x.2.2.1 x.2.2.2.1 x.2.2.2.2.1 x.2.2.2.2.2.1 x.2.2.2.2.2.2) FU x
noncomputable def f_sl07Tails_G9 (r : List A) (x : (Int × Int × Int × Int × (List (Int × Int)) × (List Int) × (List Int))) : Prop := f_sl07Tails_L r 9 (f_sl07Tails_s9 x.1 x.2.1 x.2.2.1 x.2.2.2.1 x.2.2.2.2.1 x.2.2.2.2.2.1 x.2.2.2.2.2.2) = some r
theorem f_sl07Tails_step4 (x0 : Int) (x1 : (List (Int × Int))) (x2 : (List Int)) (x3 : (List Int)) (r : List A) (h : (cond (decide (x0 ≥ 0)) (cond (inB x0 (List.length x2)) (f_sl07Tails_L r 9 (f_sl07Tails_s9 x0 (List.getD x2 (Int.toNat x0) 0) 0 0 x1 x2 x3)) none) (some [.lst (.one (.i .i64)) x3])) = some r) : f_sl07Tails_L r 4 (f_sl07Tails_s4 x0 x1 x2 x3) = some r :=
  step_of' h (by kernel_rfl)
noncomputable def f_sl07Tails_n4 (x0 : Int) (x1 : (List (Int × Int))) (x2 : (List Int)) (x3 : (List Int)) : Option ((Int × (List (Int × Int)) × (List Int) × (List Int)) ⊕ (List Int)) := (cond (decide (x0 ≥ 0)) (cond (inB x0 (List.length x2)) (f_sl07Tails_run9 (x0, (List.getD x2 (Int.toNat x0) 0), 0, 0, x1, x2, x3)) none) (some (Sum.inr x3)))
noncomputable def f_sl07Tails_run4 (x : (Int × (List (Int × Int)) × (List Int) × (List Int))) : Option (List Int) := iter (fun x => f_sl07Tails_n4 x.1 x.2.1 x.2.2.1 x.2.2.2) FU x
noncomputable def f_sl07Tails_G4 (r : List A) (x : (Int × (List (Int × Int)) × (List Int) × (List Int))) : Prop := f_sl07Tails_L r 4 (f_sl07Tails_s4 x.1 x.2.1 x.2.2.1 x.2.2.2) = some r
noncomputable def f_sl07Tails_S4 (r : List A) : (List Int) → Prop := fun v => r = l_sl07Tails v
noncomputable def f_sl07Tails_S9 (r : List A) : ((Int × (List (Int × Int)) × (List Int) × (List Int)) ⊕ (List Int)) → Prop := goesOn (f_sl07Tails_G4 r) (f_sl07Tails_S4 r)
theorem f_sl07Tails_go9 (r : List A) : ∀ x, sem (f_sl07Tails_S9 r) (f_sl07Tails_run9 x) → f_sl07Tails_G9 r x :=
  fun x => iter_sound (step := fun x => f_sl07Tails_n9 x.1 x.2.1 x.2.2.1 x.2.2.2.1 x.2.2.2.2.1 x.2.2.2.2.2.1 x.2.2.2.2.2.2) (fun x h => by
    unfold f_sl07Tails_n9 at h
    exact f_sl07Tails_step9 x.1 x.2.1 x.2.2.1 x.2.2.2.1 x.2.2.2.2.1 x.2.2.2.2.2.1 x.2.2.2.2.2.2 r ((sem_cond h (fun h => (sem_bind h fun r2 h => (sem_cond h (fun h => (sem_cond h (fun h => sem_got h fun q => q) (fun h => sem_none h))) (fun h => sem_got h fun q => q)))) (fun h => (sem_cond h (fun h => (sem_cond h (fun h => sem_got h fun q => q) (fun h => sem_none h))) (fun h => sem_none h)))))) FU x
theorem f_sl07Tails_go4 (r : List A) : ∀ x, sem (f_sl07Tails_S4 r) (f_sl07Tails_run4 x) → f_sl07Tails_G4 r x :=
  fun x => iter_sound (step := fun x => f_sl07Tails_n4 x.1 x.2.1 x.2.2.1 x.2.2.2) (fun x h => by
    unfold f_sl07Tails_n4 at h
    exact f_sl07Tails_step4 x.1 x.2.1 x.2.2.1 x.2.2.2 r ((sem_cond h (fun h => (sem_cond h (fun h => f_sl07Tails_go9 r _ h) (fun h => sem_none h))) (fun h => sem_got h fun q => some_eq q)))) FU x
noncomputable def s_sl07Tails (a0 : (List (Int × Int))) : Option (List Int) := (Option.bind (s_sl07Order a0) fun r1 => (cond (decide (0 ≤ ((List.length a0 : Nat) : Int)) && decide (((List.length a0 : Nat) : Int) = ((List.length a0 : Nat) : Int)) && fits ((Int.toNat ((List.length a0 : Nat) : Int)) * 8)) (f_sl07Tails_run4 ((IntKind.wrap .i64 (((List.length r1.1 : Nat) : Int) - 1)), a0, r1.1, (List.replicate (Int.toNat ((List.length a0 : Nat) : Int)) 0))) none))
theorem f_sl07Tails_top (a0 : (List (Int × Int))) (r : List A) : ev f_sl07Tails_X (lpc (cnOf f_sl07Tails_LV) (f_sl07Tails_L r)) f_sl07Tails_c (K0 TT f_sl07Tails_rv) (enter [.lst (.st [(.i .i8), (.i .u16)]) a0]) = (Option.bind (s_sl07Order a0) fun r1 => (cond (decide (0 ≤ ((List.length a0 : Nat) : Int)) && decide (((List.length a0 : Nat) : Int) = ((List.length a0 : Nat) : Int)) && fits ((Int.toNat ((List.length a0 : Nat) : Int)) * 8)) (f_sl07Tails_L r 4 (f_sl07Tails_s4 (IntKind.wrap .i64 (((List.length r1.1 : Nat) : Int) - 1)) a0 r1.1 (List.replicate (Int.toNat ((List.length a0 : Nat) : Int)) 0))) none)) := by kernel_rfl
theorem s_sl07Tails_ok (a0 : (List (Int × Int))) (v : (List Int)) (h : s_sl07Tails a0 = some v) : (Option.bind (s_sl07Order a0) fun r1 => (cond (decide (0 ≤ ((List.length a0 : Nat) : Int)) && decide (((List.length a0 : Nat) : Int) = ((List.length a0 : Nat) : Int)) && fits ((Int.toNat ((List.length a0 : Nat) : Int)) * 8)) (f_sl07Tails_L (l_sl07Tails v) 4 (f_sl07Tails_s4 (IntKind.wrap .i64 (((List.length r1.1 : Nat) : Int) - 1)) a0 r1.1 (List.replicate (Int.toNat ((List.length a0 : Nat) : Int)) 0))) none)) = some (l_sl07Tails v) := by
  unfold s_sl07Tails at h
  have go : ∀ r, sem (fun v => r = l_sl07Tails v) ((Option.bind (s_sl07Order a0) fun r1 => (cond (decide (0 ≤ ((List.length a0 : Nat) : Int)) && decide (((List.length a0 : Nat) : Int) = ((List.length a0 : Nat) : Int)) && fits ((Int.toNat ((List.length a0 : Nat) : Int)) * 8)) (f_sl07Tails_run4 ((IntKind.wrap .i64 (((List.length r1.1 : Nat) : Int) - 1)), a0, r1.1, (List.replicate (Int.toNat ((List.length a0 : Nat) : Int)) 0))) none))) → (Option.bind (s_sl07Order a0) fun r1 => (cond (decide (0 ≤ ((List.length a0 : Nat) : Int)) && decide (((List.length a0 : Nat) : Int) = ((List.length a0 : Nat) : Int)) && fits ((Int.toNat ((List.length a0 : Nat) : Int)) * 8)) (f_sl07Tails_L r 4 (f_sl07Tails_s4 (IntKind.wrap .i64 (((List.length r1.1 : Nat) : Int) - 1)) a0 r1.1 (List.replicate (Int.toNat ((List.length a0 : Nat) : Int)) 0))) none)) = some r := fun r h => (sem_bind h fun r1 h => (sem_cond h (fun h => f_sl07Tails_go4 r _ h) (fun h => sem_none h)))
  exact go (l_sl07Tails v) ⟨v, h, rfl⟩
noncomputable def c_sl07Tails : List A → ACall
  | [.lst (.st [(.i .i8), (.i .u16)]) a0] => ⟨(List Int), s_sl07Tails a0, fun r => .one (.lst (.one (.i .i64)) r)⟩
  | _ => ACall.fail
theorem f_sl07Tails_sound : Sound Try.prog 215 c_sl07Tails := by
  refine sound_good f_sl07Tails_ctx f_sl07Tails_LV 1 Try.func215 (c := f_sl07Tails_c) (by kernel_rfl) (rv := f_sl07Tails_rv) (by kernel_rfl) (by kernel_rfl) (by kernel_rfl) (by kernel_rfl) fun rs => ?_
  unfold c_sl07Tails
  split
  · rename_i a0; intro v h; exact ⟨rfl, l_sl07Tails v, rfl, (f_sl07Tails_top a0 _).trans (s_sl07Tails_ok a0 v h)⟩
  · intro v h; cases h

/-! ### function 197: loop.example/g01322/spec.l07Longest -/
noncomputable def f_sl07Longest_c : Code := match Try.f197.body with | some c => c | none => .skip
noncomputable def f_sl07Longest_X : Ctx := ⟨TT, phiOf [(171, c_sl00Max), (215, c_sl07Tails)], noPsi, noXi⟩
def f_sl07Longest_LV : List (Nat × Keep) := [(4, ([3, 4, 5], [], []))]
def f_sl07Longest_rv : List ResultVar := [.tmp 2]
noncomputable def f_sl07Longest_L (r : List A) : Nat → AS → Option (List A) := L f_sl07Longest_X (cnOf f_sl07Longest_LV) f_sl07Longest_c (K0 TT f_sl07Longest_rv) r
theorem f_sl07Longest_ctx : CtxOK Try.prog f_sl07Longest_X := ctx_of tab mix ⟨⟨Try.call171, f_sl00Max_sound⟩, ⟨Try.call215, f_sl07Tails_sound⟩, trivial⟩
noncomputable def f_sl07Longest_s4 (x0 : Int) (x1 : Int) (x2 : (List Int)) : AS := ⟨[(3, .a (.sl 0)), (4, .a (.v (.int .i64 x0))), (5, .a (.v (.int .i64 x1)))], [(0, some ⟨true, .arr (.one (.i .i64)) x2⟩)], 1⟩
noncomputable def l_sl07Longest (r : Int) : List A := [.v (.int .i64 r)]
theorem f_sl07Longest_step4 (x0 : Int) (x1 : Int) (x2 : (List Int)) (r : List A) (h : (cond (decide (x1 < ((List.length x2 : Nat) : Int))) (cond (inB x1 (List.length x2)) (f_sl07Longest_L r 4 (f_sl07Longest_s4 (s_sl00Max x0 (List.getD x2 (Int.toNat x1) 0)) (IntKind.wrap .i64 (x1 + 1)) x2)) none) (some [.v (.int .i64 x0)])) = some r) : f_sl07Longest_L r 4 (f_sl07Longest_s4 x0 x1 x2) = some r :=
  step_of' h (by kernel_rfl)
noncomputable def f_sl07Longest_n4 (x0 : Int) (x1 : Int) (x2 : (List Int)) : Option ((Int × Int × (List Int)) ⊕ Int) := (cond (decide (x1 < ((List.length x2 : Nat) : Int))) (cond (inB x1 (List.length x2)) (some (Sum.inl ((s_sl00Max x0 (List.getD x2 (Int.toNat x1) 0)), (IntKind.wrap .i64 (x1 + 1)), x2))) none) (some (Sum.inr x0)))
noncomputable def f_sl07Longest_run4 (x : (Int × Int × (List Int))) : Option Int := iter (fun x => f_sl07Longest_n4 x.1 x.2.1 x.2.2) FU x
noncomputable def f_sl07Longest_G4 (r : List A) (x : (Int × Int × (List Int))) : Prop := f_sl07Longest_L r 4 (f_sl07Longest_s4 x.1 x.2.1 x.2.2) = some r
noncomputable def f_sl07Longest_S4 (r : List A) : Int → Prop := fun v => r = l_sl07Longest v
theorem f_sl07Longest_go4 (r : List A) : ∀ x, sem (f_sl07Longest_S4 r) (f_sl07Longest_run4 x) → f_sl07Longest_G4 r x :=
  fun x => iter_sound (step := fun x => f_sl07Longest_n4 x.1 x.2.1 x.2.2) (fun x h => by
    unfold f_sl07Longest_n4 at h
    exact f_sl07Longest_step4 x.1 x.2.1 x.2.2 r ((sem_cond h (fun h => (sem_cond h (fun h => sem_got h fun q => q) (fun h => sem_none h))) (fun h => sem_got h fun q => some_eq q)))) FU x
noncomputable def s_sl07Longest (a0 : (List (Int × Int))) : Option Int := (Option.bind (s_sl07Tails a0) fun r1 => (f_sl07Longest_run4 (0, 0, r1)))
theorem f_sl07Longest_top (a0 : (List (Int × Int))) (r : List A) : ev f_sl07Longest_X (lpc (cnOf f_sl07Longest_LV) (f_sl07Longest_L r)) f_sl07Longest_c (K0 TT f_sl07Longest_rv) (enter [.lst (.st [(.i .i8), (.i .u16)]) a0]) = (Option.bind (s_sl07Tails a0) fun r1 => (f_sl07Longest_L r 4 (f_sl07Longest_s4 0 0 r1))) := by kernel_rfl
theorem s_sl07Longest_ok (a0 : (List (Int × Int))) (v : Int) (h : s_sl07Longest a0 = some v) : (Option.bind (s_sl07Tails a0) fun r1 => (f_sl07Longest_L (l_sl07Longest v) 4 (f_sl07Longest_s4 0 0 r1))) = some (l_sl07Longest v) := by
  unfold s_sl07Longest at h
  have go : ∀ r, sem (fun v => r = l_sl07Longest v) ((Option.bind (s_sl07Tails a0) fun r1 => (f_sl07Longest_run4 (0, 0, r1)))) → (Option.bind (s_sl07Tails a0) fun r1 => (f_sl07Longest_L r 4 (f_sl07Longest_s4 0 0 r1))) = some r := fun r h => (sem_bind h fun r1 h => f_sl07Longest_go4 r _ h)
  exact go (l_sl07Longest v) ⟨v, h, rfl⟩
noncomputable def c_sl07Longest : List A → ACall
  | [.lst (.st [(.i .i8), (.i .u16)]) a0] => ⟨Int, s_sl07Longest a0, fun r => .one (.v (.int .i64 r))⟩
  | _ => ACall.fail
theorem f_sl07Longest_sound : Sound Try.prog 197 c_sl07Longest := by
  refine sound_good f_sl07Longest_ctx f_sl07Longest_LV 1 Try.func197 (c := f_sl07Longest_c) (by kernel_rfl) (rv := f_sl07Longest_rv) (by kernel_rfl) (by kernel_rfl) (by kernel_rfl) (by kernel_rfl) fun rs => ?_
  unfold c_sl07Longest
  split
  · rename_i a0; intro v h; exact ⟨rfl, l_sl07Longest v, rfl, (f_sl07Longest_top a0 _).trans (s_sl07Longest_ok a0 v h)⟩
  · intro v h; cases h

/-! ### function 154: loop.example/g01322/spec.l07Bound -/
noncomputable def f_sl07Bound_c : Code := match Try.f154.body with | some c => c | none => .skip
noncomputable def f_sl07Bound_X : Ctx := ⟨TT, phiOf [(171, c_sl00Max), (197, c_sl07Longest)], noPsi, noXi⟩
def f_sl07Bound_LV : List (Nat × Keep) := [(3, ([0, 1, 5, 6], [], []))]
def f_sl07Bound_rv : List ResultVar := [.tmp 4]
noncomputable def f_sl07Bound_L (r : List A) : Nat → AS → Option (List A) := L f_sl07Bound_X (cnOf f_sl07Bound_LV) f_sl07Bound_c (K0 TT f_sl07Bound_rv) r
theorem f_sl07Bound_ctx : CtxOK Try.prog f_sl07Bound_X := ctx_of tab mix ⟨⟨Try.call171, f_sl00Max_sound⟩, ⟨Try.call197, f_sl07Longest_sound⟩, trivial⟩
noncomputable def f_sl07Bound_s3 (x0 : Int) (x1 : Int) (x2 : Int) (x3 : (List (Int × Int))) : AS := ⟨[(0, .a (.sl 0)), (1, .a (.v (.int .i64 x0))), (5, .a (.v (.int .i64 x1))), (6, .a (.v (.int .i64 x2)))], [(0, some ⟨false, .arr (.st [(.i .i8), (.i .u16)]) x3⟩)], 1⟩
noncomputable def l_sl07Bound (r : Int) : List A := [.v (.int .i64 r)]
theorem f_sl07Bound_step3 (x0 : Int) (x1 : Int) (x2 : Int) (x3 : (List (Int × Int))) (r : List A) (h : (cond (decide (x2 < ((List.length x3 : Nat) : Int))) (cond (inB x2 (List.length x3)) (f_sl07Bound_L r 3 (f_sl07Bound_s3 x0 (IntKind.wrap .i64 (x1 + (IntKind.wrap .i64 (List.getD x3 (Int.toNat x2) ((0, 0) : (Int × Int))).1))) (IntKind.wrap .i64 (x2 + 1)) x3)) none) (Option.bind (s_sl07Longest x3) fun r1 => (cond (decide (x0 = 0)) none (some [.v (.int .i64 (s_sl00Max r1 (IntKind.wrap .i64 (Int.tdiv (IntKind.wrap .i64 ((IntKind.wrap .i64 (x1 + x0)) - 1)) x0))))])))) = some r) : f_sl07Bound_L r 3 (f_sl07Bound_s3 x0 x1 x2 x3) = some r :=
  step_of' h (by kernel_rfl)
noncomputable def f_sl07Bound_n3 (x0 : Int) (x1 : Int) (x2 : Int) (x3 : (List (Int × Int))) : Option ((Int × Int × Int × (List (Int × Int))) ⊕ Int) := (cond (decide (x2 < ((List.length x3 : Nat) : Int))) (cond (inB x2 (List.length x3)) (some (Sum.inl (x0, (IntKind.wrap .i64 (x1 + (IntKind.wrap .i64 (List.getD x3 (Int.toNat x2) ((0, 0) : (Int × Int))).1))), (IntKind.wrap .i64 (x2 + 1)), x3))) none) (Option.bind (s_sl07Longest x3) fun r1 => (cond (decide (x0 = 0)) none (some (Sum.inr (s_sl00Max r1 (IntKind.wrap .i64 (Int.tdiv (IntKind.wrap .i64 ((IntKind.wrap .i64 (x1 + x0)) - 1)) x0))))))))
noncomputable def f_sl07Bound_run3 (x : (Int × Int × Int × (List (Int × Int)))) : Option Int := iter (fun x => f_sl07Bound_n3 x.1 x.2.1 x.2.2.1 x.2.2.2) FU x
noncomputable def f_sl07Bound_G3 (r : List A) (x : (Int × Int × Int × (List (Int × Int)))) : Prop := f_sl07Bound_L r 3 (f_sl07Bound_s3 x.1 x.2.1 x.2.2.1 x.2.2.2) = some r
noncomputable def f_sl07Bound_S3 (r : List A) : Int → Prop := fun v => r = l_sl07Bound v
theorem f_sl07Bound_go3 (r : List A) : ∀ x, sem (f_sl07Bound_S3 r) (f_sl07Bound_run3 x) → f_sl07Bound_G3 r x :=
  fun x => iter_sound (step := fun x => f_sl07Bound_n3 x.1 x.2.1 x.2.2.1 x.2.2.2) (fun x h => by
    unfold f_sl07Bound_n3 at h
    exact f_sl07Bound_step3 x.1 x.2.1 x.2.2.1 x.2.2.2 r ((sem_cond h (fun h => (sem_cond h (fun h => sem_got h fun q => q) (fun h => sem_none h))) (fun h => (sem_bind h fun r1 h => (sem_cond h (fun h => sem_none h) (fun h => sem_got h fun q => some_eq q))))))) FU x
noncomputable def s_sl07Bound (a0 : (List (Int × Int))) (a1 : Int) : Option Int := (f_sl07Bound_run3 (a1, 0, 0, a0))
theorem f_sl07Bound_top (a0 : (List (Int × Int))) (a1 : Int) (r : List A) : ev f_sl07Bound_X (lpc (cnOf f_sl07Bound_LV) (f_sl07Bound_L r)) f_sl07Bound_c (K0 TT f_sl07Bound_rv) (enter [.lst (.st [(.i .i8), (.i .u16)]) a0, .v (.int .i64 a1)]) = (f_sl07Bound_L r 3 (f_sl07Bound_s3 a1 0 0 a0)) := by kernel_rfl
theorem s_sl07Bound_ok (a0 : (List (Int × Int))) (a1 : Int) (v : Int) (h : s_sl07Bound a0 a1 = some v) : (f_sl07Bound_L (l_sl07Bound v) 3 (f_sl07Bound_s3 a1 0 0 a0)) = some (l_sl07Bound v) := by
  unfold s_sl07Bound at h
  have go : ∀ r, sem (fun v => r = l_sl07Bound v) ((f_sl07Bound_run3 (a1, 0, 0, a0))) → (f_sl07Bound_L r 3 (f_sl07Bound_s3 a1 0 0 a0)) = some r := fun r h => f_sl07Bound_go3 r _ h
  exact go (l_sl07Bound v) ⟨v, h, rfl⟩
noncomputable def c_sl07Bound : List A → ACall
  | [.lst (.st [(.i .i8), (.i .u16)]) a0, .v (.int .i64 a1)] => ⟨Int, s_sl07Bound a0 a1, fun r => .one (.v (.int .i64 r))⟩
  | _ => ACall.fail
theorem f_sl07Bound_sound : Sound Try.prog 154 c_sl07Bound := by
  refine sound_good f_sl07Bound_ctx f_sl07Bound_LV 2 Try.func154 (c := f_sl07Bound_c) (by kernel_rfl) (rv := f_sl07Bound_rv) (by kernel_rfl) (by kernel_rfl) (by kernel_rfl) (by kernel_rfl) fun rs => ?_
  unfold c_sl07Bound
  split
  · rename_i a0 a1; intro v h; exact ⟨rfl, l_sl07Bound v, rfl, (f_sl07Bound_top a0 a1 _).trans (s_sl07Bound_ok a0 a1 v h)⟩
  · intro v h; cases h
end Go.RR
