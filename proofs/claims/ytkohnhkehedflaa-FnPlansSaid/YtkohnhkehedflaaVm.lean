/- Longest chains. -/
import Derived.Test.YtkohnhkehedflaaVk
import Derived.Test.YtkohnhkehedflaaRw
set_option linter.unusedVariables false
set_option linter.unusedSimpArgs false
set_option linter.unusedSectionVars false
set_option maxRecDepth 100000
namespace Go.RR
open Go Go.Proofs
noncomputable def f_q06_c : Code := match Try.f220.body with | some c => c | none => .skip
noncomputable def f_q06_X : Ctx := ⟨TT, phiOf [], noPsi, noXi⟩
def f_q06_LV : List (Nat × Keep) := [(1, ([0, 2, 3], [], []))]
def f_q06_rv : List ResultVar := []
noncomputable def f_q06_L (r : List A) : Nat → AS → Option (List A) := L f_q06_X (cnOfU f_q06_LV) f_q06_c (K0U TT f_q06_rv) r
theorem f_q06_ctx : CtxOK Try.prog f_q06_X := ctx_of tab mix trivial
noncomputable def f_q06_s1 (x0 x1 : Int) (x2 : List Int) : AS := ⟨[(0, .a (.sl 0)), (2, .a (.v (.int .i64 x0))), (3, .a (.v (.int .i64 x1)))], [(0, some ⟨true, .arr (.one (.i .i64)) x2⟩)], 1⟩
noncomputable def l_q06 (r : List Int) : List A := [.lst (.one (.i .i64)) r]
theorem f_q06_step1 (x0 x1 : Int) (x2 : List Int) (r : List A) (h : (cond (decide (x0 < x1)) (cond (inB x1 (List.length x2)) (cond (inB x0 (List.length x2)) (cond (inB x0 (List.length x2)) (cond (inB x1 (List.length (List.set x2 (Int.toNat x0) (List.getD x2 (Int.toNat x1) 0)))) (f_q06_L r 1 (f_q06_s1 (IntKind.wrap .i64 (x0 + 1)) (IntKind.wrap .i64 (x1 - 1)) (List.set (List.set x2 (Int.toNat x0) (List.getD x2 (Int.toNat x1) 0)) (Int.toNat x1) (List.getD x2 (Int.toNat x0) 0)))) none) none) none) none) (some [.lst (.one (.i .i64)) x2])) = some r) : f_q06_L r 1 (f_q06_s1 x0 x1 x2) = some r :=
 step_of' h (by kernel_rfl)
noncomputable def f_q06_n1 (x0 x1 : Int) (x2 : List Int) : Option ((Int × Int × (List Int)) ⊕ (List Int)) := (cond (decide (x0 < x1)) (cond (inB x1 (List.length x2)) (cond (inB x0 (List.length x2)) (cond (inB x0 (List.length x2)) (cond (inB x1 (List.length (List.set x2 (Int.toNat x0) (List.getD x2 (Int.toNat x1) 0)))) (some (Sum.inl ((IntKind.wrap .i64 (x0 + 1)), (IntKind.wrap .i64 (x1 - 1)), (List.set (List.set x2 (Int.toNat x0) (List.getD x2 (Int.toNat x1) 0)) (Int.toNat x1) (List.getD x2 (Int.toNat x0) 0))))) none) none) none) none) (some (Sum.inr x2)))
noncomputable def f_q06_run1 (x : (Int × Int × (List Int))) : Option (List Int) := iter (fun x => f_q06_n1 x.1 x.2.1 x.2.2) FU x
noncomputable def f_q06_G1 (r : List A) (x : (Int × Int × (List Int))) : Prop := f_q06_L r 1 (f_q06_s1 x.1 x.2.1 x.2.2) = some r
noncomputable def f_q06_S1 (r : List A) : (List Int) → Prop := fun v => r = l_q06 v
theorem f_q06_go1 (r : List A) : ∀ x, sem (f_q06_S1 r) (f_q06_run1 x) → f_q06_G1 r x :=
 fun x => iter_sound (step := fun x => f_q06_n1 x.1 x.2.1 x.2.2) (fun x h => by
  unfold f_q06_n1 at h
  exact f_q06_step1 x.1 x.2.1 x.2.2 r ((sem_cond h (fun h => (sem_cond h (fun h => (sem_cond h (fun h => (sem_cond h (fun h => (sem_cond h (fun h => sem_got h fun q => q) (fun h => sem_none h))) (fun h => sem_none h))) (fun h => sem_none h))) (fun h => sem_none h))) (fun h => sem_got h fun q => some_eq q)))) FU x
noncomputable def s_q06 (a0 : List Int) : Option (List Int) := (f_q06_run1 (0, (IntKind.wrap .i64 (((List.length a0 : Nat) : Int) - 1)), a0))
theorem f_q06_top (a0 : List Int) (r : List A) : ev f_q06_X (lpc (cnOfU f_q06_LV) (f_q06_L r)) f_q06_c (K0U TT f_q06_rv) (enterU (.one (.i .i64)) a0 []) = (f_q06_L r 1 (f_q06_s1 0 (IntKind.wrap .i64 (((List.length a0 : Nat) : Int) - 1)) a0)) := by kernel_rfl
theorem s_q06_ok (a0 v : List Int) (h : s_q06 a0 = some v) : (f_q06_L (l_q06 v) 1 (f_q06_s1 0 (IntKind.wrap .i64 (((List.length a0 : Nat) : Int) - 1)) a0)) = some (l_q06 v) := by
 unfold s_q06 at h
 have go : ∀ r, sem (fun v => r = l_q06 v) ((f_q06_run1 (0, (IntKind.wrap .i64 (((List.length a0 : Nat) : Int) - 1)), a0))) → (f_q06_L r 1 (f_q06_s1 0 (IntKind.wrap .i64 (((List.length a0 : Nat) : Int) - 1)) a0)) = some r := fun r h => f_q06_go1 r _ h
 exact go (l_q06 v) ⟨v, h, rfl⟩
noncomputable def u_q06 : UCon := fun e l rest => match e, l, rest with
 | (.one (.i .i64)), a0, [] => ⟨(List Int), s_q06 a0, fun r => none, fun r => r⟩
 | _, _, _ => UCall.fail
theorem f_q06_sound : USound Try.prog 220 u_q06 := by
 refine sound_goodU f_q06_ctx f_q06_LV 1 Try.func220 (c := f_q06_c) (by kernel_rfl) (rv := f_q06_rv) (by kernel_rfl) (by kernel_rfl) (by kernel_rfl) (by kernel_rfl) fun e l rest => ?_
 unfold u_q06
 split
 ·rename_i a0; intro v h; exact ⟨rfl, (f_q06_top a0 _).trans (s_q06_ok a0 v h)⟩
 ·intro v h; cases h
noncomputable def f_q23_c : Code := match Try.f214.body with | some c => c | none => .skip
noncomputable def f_q23_X : Ctx := ⟨TT, phiOf [(167, c_q22), (194, c_q0o)], (psiOf [(220, u_q06)]), noXi⟩
def f_q23_LV : List (Nat × Keep) := [(4, ([0, 3, 15, 16, 17], [], [])), (7, ([0, 3, 6, 15, 16, 17, 22, 23], [], []))]
def f_q23_rv : List ResultVar := [.tmp 2]
noncomputable def f_q23_L (r : List A) : Nat → AS → Option (List A) := L f_q23_X (cnOf f_q23_LV) f_q23_c (K0 TT f_q23_rv) r
theorem f_q23_ctx : CtxOK Try.prog f_q23_X := ctx_ofH tab mix (l := [(167, c_q22), (194, c_q0o)]) ⟨⟨Try.call167, f_q22_sound⟩, ⟨Try.call194, f_q0o_sound⟩, trivial⟩ (psi_ok (l := [(220, u_q06)]) ⟨⟨Try.call220, f_q06_sound⟩, trivial⟩) xi_no
noncomputable def f_q23_s4 (x0 x1 : Int) (x2 : List (Int × Int)) (x3 x4 : List Int) : AS := ⟨[(0, .a (.sl 0)), (3, .a (.sl 1)), (15, .a (.sl 2)), (16, .a (.v (.int .i64 x0))), (17, .a (.v (.int .i64 x1)))], [(0, some ⟨false, .arr (.st [(.i .i8), (.i .u16)]) x2⟩), (1, some ⟨true, .arr (.one (.i .i64)) x3⟩), (2, some ⟨true, .arr (.one (.i .i64)) x4⟩)], 3⟩
noncomputable def f_q23_s7 (x0 x1 x2 x3 x4 : Int) (x5 : List (Int × Int)) (x6 x7 : List Int) : AS := ⟨[(0, .a (.sl 0)), (3, .a (.sl 1)), (6, .a (.v (.int .i64 x0))), (15, .a (.sl 2)), (16, .a (.v (.int .i64 x1))), (17, .a (.v (.int .i64 x2))), (22, .a (.v (.int .i64 x3))), (23, .a (.v (.int .i64 x4)))], [(0, some ⟨false, .arr (.st [(.i .i8), (.i .u16)]) x5⟩), (1, some ⟨true, .arr (.one (.i .i64)) x6⟩), (2, some ⟨true, .arr (.one (.i .i64)) x7⟩)], 3⟩
noncomputable def l_q23 (r : List Int) : List A := [.lst (.one (.i .i64)) r]
theorem f_q23_step7 (x0 x1 x2 x3 x4 : Int) (x5 : List (Int × Int)) (x6 x7 : List Int) (r : List A) (h : (cond (decide (x4 < x3)) (cond (inB x4 (List.length x5)) (Option.bind (s_q0o (List.getD x5 (Int.toNat x4) ((0, 0) : (Int × Int))).1 (List.getD x5 (Int.toNat x4) ((0, 0) : (Int × Int))).2 x0) fun r3 => (cond r3 (cond (inB x0 (List.length x6)) (cond (inB x4 (List.length x6)) (cond (inB x0 (List.length x6)) (f_q23_L r 7 (f_q23_s7 x0 x1 x2 x3 (IntKind.wrap .i64 (x4 + 1)) x5 (List.set x6 (Int.toNat x0) (max (List.getD x6 (Int.toNat x0) 0) (List.getD x6 (Int.toNat x4) 0))) x7)) none) none) none) (f_q23_L r 7 (f_q23_s7 x0 x1 x2 x3 (IntKind.wrap .i64 (x4 + 1)) x5 x6 x7)))) none) (cond (inB x0 (List.length x6)) (cond (inB x0 (List.length x5)) (cond (inB x0 (List.length x6)) (f_q23_L r 4 (f_q23_s4 x1 (IntKind.wrap .i64 (x2 + 1)) x5 (List.set x6 (Int.toNat x0) (IntKind.wrap .i64 ((List.getD x6 (Int.toNat x0) 0) + (IntKind.wrap .i64 (List.getD x5 (Int.toNat x0) ((0, 0) : (Int × Int))).1)))) x7)) none) none) none)) = some r) : f_q23_L r 7 (f_q23_s7 x0 x1 x2 x3 x4 x5 x6 x7) = some r :=
 step_of' h (by kernel_rfl)
noncomputable def f_q23_n7 (x0 x1 x2 x3 x4 : Int) (x5 : List (Int × Int)) (x6 x7 : List Int) : Option ((Int × Int × Int × Int × Int × (List (Int × Int)) × (List Int) × (List Int)) ⊕ ((Int × Int × (List (Int × Int)) × (List Int) × (List Int)) ⊕ (List Int))) := (cond (decide (x4 < x3)) (cond (inB x4 (List.length x5)) (Option.bind (s_q0o (List.getD x5 (Int.toNat x4) ((0, 0) : (Int × Int))).1 (List.getD x5 (Int.toNat x4) ((0, 0) : (Int × Int))).2 x0) fun r3 => (cond r3 (cond (inB x0 (List.length x6)) (cond (inB x4 (List.length x6)) (cond (inB x0 (List.length x6)) (some (Sum.inl (x0, x1, x2, x3, (IntKind.wrap .i64 (x4 + 1)), x5, (List.set x6 (Int.toNat x0) (max (List.getD x6 (Int.toNat x0) 0) (List.getD x6 (Int.toNat x4) 0))), x7))) none) none) none) (some (Sum.inl (x0, x1, x2, x3, (IntKind.wrap .i64 (x4 + 1)), x5, x6, x7))))) none) (cond (inB x0 (List.length x6)) (cond (inB x0 (List.length x5)) (cond (inB x0 (List.length x6)) (some (Sum.inr (Sum.inl (x1, (IntKind.wrap .i64 (x2 + 1)), x5, (List.set x6 (Int.toNat x0) (IntKind.wrap .i64 ((List.getD x6 (Int.toNat x0) 0) + (IntKind.wrap .i64 (List.getD x5 (Int.toNat x0) ((0, 0) : (Int × Int))).1)))), x7)))) none) none) none))
noncomputable def f_q23_run7 (x : (Int × Int × Int × Int × Int × (List (Int × Int)) × (List Int) × (List Int))) : Option ((Int × Int × (List (Int × Int)) × (List Int) × (List Int)) ⊕ (List Int)) := iter (fun x => f_q23_n7 x.1 x.2.1 x.2.2.1 x.2.2.2.1 x.2.2.2.2.1 x.2.2.2.2.2.1 x.2.2.2.2.2.2.1 x.2.2.2.2.2.2.2) FU x
noncomputable def f_q23_G7 (r : List A) (x : (Int × Int × Int × Int × Int × (List (Int × Int)) × (List Int) × (List Int))) : Prop := f_q23_L r 7 (f_q23_s7 x.1 x.2.1 x.2.2.1 x.2.2.2.1 x.2.2.2.2.1 x.2.2.2.2.2.1 x.2.2.2.2.2.2.1 x.2.2.2.2.2.2.2) = some r
theorem f_q23_step4 (x0 x1 : Int) (x2 : List (Int × Int)) (x3 x4 : List Int) (r : List A) (h : (cond (decide (x1 < x0)) (cond (inB x1 (List.length x4)) (f_q23_L r 7 (f_q23_s7 (List.getD x4 (Int.toNat x1) 0) x0 x1 ((List.length x2 : Nat) : Int) 0 x2 x3 x4)) none) (some [.lst (.one (.i .i64)) x3])) = some r) : f_q23_L r 4 (f_q23_s4 x0 x1 x2 x3 x4) = some r :=
 step_of' h (by kernel_rfl)
noncomputable def f_q23_n4 (x0 x1 : Int) (x2 : List (Int × Int)) (x3 x4 : List Int) : Option ((Int × Int × (List (Int × Int)) × (List Int) × (List Int)) ⊕ (List Int)) := (cond (decide (x1 < x0)) (cond (inB x1 (List.length x4)) (f_q23_run7 ((List.getD x4 (Int.toNat x1) 0), x0, x1, ((List.length x2 : Nat) : Int), 0, x2, x3, x4)) none) (some (Sum.inr x3)))
noncomputable def f_q23_run4 (x : (Int × Int × (List (Int × Int)) × (List Int) × (List Int))) : Option (List Int) := iter (fun x => f_q23_n4 x.1 x.2.1 x.2.2.1 x.2.2.2.1 x.2.2.2.2) FU x
noncomputable def f_q23_G4 (r : List A) (x : (Int × Int × (List (Int × Int)) × (List Int) × (List Int))) : Prop := f_q23_L r 4 (f_q23_s4 x.1 x.2.1 x.2.2.1 x.2.2.2.1 x.2.2.2.2) = some r
noncomputable def f_q23_S4 (r : List A) : (List Int) → Prop := fun v => r = l_q23 v
noncomputable def f_q23_S7 (r : List A) : ((Int × Int × (List (Int × Int)) × (List Int) × (List Int)) ⊕ (List Int)) → Prop := goesOn (f_q23_G4 r) (f_q23_S4 r)
theorem f_q23_go7 (r : List A) : ∀ x, sem (f_q23_S7 r) (f_q23_run7 x) → f_q23_G7 r x :=
 fun x => iter_sound (step := fun x => f_q23_n7 x.1 x.2.1 x.2.2.1 x.2.2.2.1 x.2.2.2.2.1 x.2.2.2.2.2.1 x.2.2.2.2.2.2.1 x.2.2.2.2.2.2.2) (fun x h => by
  unfold f_q23_n7 at h
  exact f_q23_step7 x.1 x.2.1 x.2.2.1 x.2.2.2.1 x.2.2.2.2.1 x.2.2.2.2.2.1 x.2.2.2.2.2.2.1 x.2.2.2.2.2.2.2 r ((sem_cond h (fun h => (sem_cond h (fun h => (sem_bind h fun r3 h => (sem_cond h (fun h => (sem_cond h (fun h => (sem_cond h (fun h => (sem_cond h (fun h => sem_got h fun q => q) (fun h => sem_none h))) (fun h => sem_none h))) (fun h => sem_none h))) (fun h => sem_got h fun q => q)))) (fun h => sem_none h))) (fun h => (sem_cond h (fun h => (sem_cond h (fun h => (sem_cond h (fun h => sem_got h fun q => q) (fun h => sem_none h))) (fun h => sem_none h))) (fun h => sem_none h)))))) FU x
theorem f_q23_go4 (r : List A) : ∀ x, sem (f_q23_S4 r) (f_q23_run4 x) → f_q23_G4 r x :=
 fun x => iter_sound (step := fun x => f_q23_n4 x.1 x.2.1 x.2.2.1 x.2.2.2.1 x.2.2.2.2) (fun x h => by
  unfold f_q23_n4 at h
  exact f_q23_step4 x.1 x.2.1 x.2.2.1 x.2.2.2.1 x.2.2.2.2 r ((sem_cond h (fun h => (sem_cond h (fun h => f_q23_go7 r _ h) (fun h => sem_none h))) (fun h => sem_got h fun q => some_eq q)))) FU x
noncomputable def s_q23 (a0 : List (Int × Int)) : Option (List Int) := (cond (decide (0 ≤ ((List.length a0 : Nat) : Int)) && decide (((List.length a0 : Nat) : Int) = ((List.length a0 : Nat) : Int)) && fits ((Int.toNat ((List.length a0 : Nat) : Int)) * 8)) (Option.bind (s_q22 a0) fun r1 => (Option.bind (s_q06 r1) fun r2 => (f_q23_run4 (((List.length (r2) : Nat) : Int), 0, a0, (List.replicate (Int.toNat ((List.length a0 : Nat) : Int)) 0), (r2))))) none)
theorem f_q23_top (a0 : List (Int × Int)) (r : List A) : ev f_q23_X (lpc (cnOf f_q23_LV) (f_q23_L r)) f_q23_c (K0 TT f_q23_rv) (enter [.lst (.st [(.i .i8), (.i .u16)]) a0]) = (cond (decide (0 ≤ ((List.length a0 : Nat) : Int)) && decide (((List.length a0 : Nat) : Int) = ((List.length a0 : Nat) : Int)) && fits ((Int.toNat ((List.length a0 : Nat) : Int)) * 8)) (Option.bind (s_q22 a0) fun r1 => (Option.bind (s_q06 r1) fun r2 => (f_q23_L r 4 (f_q23_s4 ((List.length (r2) : Nat) : Int) 0 a0 (List.replicate (Int.toNat ((List.length a0 : Nat) : Int)) 0) (r2))))) none) := by kernel_rfl
theorem s_q23_ok (a0 : List (Int × Int)) (v : List Int) (h : s_q23 a0 = some v) : (cond (decide (0 ≤ ((List.length a0 : Nat) : Int)) && decide (((List.length a0 : Nat) : Int) = ((List.length a0 : Nat) : Int)) && fits ((Int.toNat ((List.length a0 : Nat) : Int)) * 8)) (Option.bind (s_q22 a0) fun r1 => (Option.bind (s_q06 r1) fun r2 => (f_q23_L (l_q23 v) 4 (f_q23_s4 ((List.length (r2) : Nat) : Int) 0 a0 (List.replicate (Int.toNat ((List.length a0 : Nat) : Int)) 0) (r2))))) none) = some (l_q23 v) := by
 unfold s_q23 at h
 have go : ∀ r, sem (fun v => r = l_q23 v) ((cond (decide (0 ≤ ((List.length a0 : Nat) : Int)) && decide (((List.length a0 : Nat) : Int) = ((List.length a0 : Nat) : Int)) && fits ((Int.toNat ((List.length a0 : Nat) : Int)) * 8)) (Option.bind (s_q22 a0) fun r1 => (Option.bind (s_q06 r1) fun r2 => (f_q23_run4 (((List.length (r2) : Nat) : Int), 0, a0, (List.replicate (Int.toNat ((List.length a0 : Nat) : Int)) 0), (r2))))) none)) → (cond (decide (0 ≤ ((List.length a0 : Nat) : Int)) && decide (((List.length a0 : Nat) : Int) = ((List.length a0 : Nat) : Int)) && fits ((Int.toNat ((List.length a0 : Nat) : Int)) * 8)) (Option.bind (s_q22 a0) fun r1 => (Option.bind (s_q06 r1) fun r2 => (f_q23_L r 4 (f_q23_s4 ((List.length (r2) : Nat) : Int) 0 a0 (List.replicate (Int.toNat ((List.length a0 : Nat) : Int)) 0) (r2))))) none) = some r := fun r h => (sem_cond h (fun h => (sem_bind h fun r1 h => (sem_bind h fun r2 h => f_q23_go4 r _ h))) (fun h => sem_none h))
 exact go (l_q23 v) ⟨v, h, rfl⟩
noncomputable def c_q23 : List A → ACall
 | [.lst (.st [(.i .i8), (.i .u16)]) a0] => ⟨(List Int), s_q23 a0, fun r => .one (.lst (.one (.i .i64)) r)⟩
 | _ => ACall.fail
theorem f_q23_sound : Sound Try.prog 214 c_q23 := by
 refine sound_good f_q23_ctx f_q23_LV 1 Try.func214 (c := f_q23_c) (by kernel_rfl) (rv := f_q23_rv) (by kernel_rfl) (by kernel_rfl) (by kernel_rfl) (by kernel_rfl) fun rs => ?_
 unfold c_q23
 split
 ·rename_i a0; intro v h; exact ⟨rfl, l_q23 v, rfl, (f_q23_top a0 _).trans (s_q23_ok a0 v h)⟩
 ·intro v h; cases h
noncomputable def f_q1c_c : Code := match Try.f196.body with | some c => c | none => .skip
noncomputable def f_q1c_X : Ctx := ⟨TT, phiOf [(214, c_q23)], noPsi, noXi⟩
def f_q1c_LV : List (Nat × Keep) := [(3, ([3, 7, 8, 9], [], []))]
def f_q1c_rv : List ResultVar := [.tmp 2]
noncomputable def f_q1c_L (r : List A) : Nat → AS → Option (List A) := L f_q1c_X (cnOf f_q1c_LV) f_q1c_c (K0 TT f_q1c_rv) r
theorem f_q1c_ctx : CtxOK Try.prog f_q1c_X := ctx_of tab mix ⟨⟨Try.call214, f_q23_sound⟩, trivial⟩
noncomputable def f_q1c_s3 (x0 x1 x2 : Int) (x3 : List Int) : AS := ⟨[(3, .a (.v (.int .i64 x0))), (7, .a (.sl 0)), (8, .a (.v (.int .i64 x1))), (9, .a (.v (.int .i64 x2)))], [(0, some ⟨true, .arr (.one (.i .i64)) x3⟩)], 1⟩
noncomputable def l_q1c (r : Int) : List A := [.v (.int .i64 r)]
theorem f_q1c_step3 (x0 x1 x2 : Int) (x3 : List Int) (r : List A) (h : (cond (decide (x2 < x1)) (cond (inB x2 (List.length x3)) (f_q1c_L r 3 (f_q1c_s3 (max x0 (List.getD x3 (Int.toNat x2) 0)) x1 (IntKind.wrap .i64 (x2 + 1)) x3)) none) (some [.v (.int .i64 x0)])) = some r) : f_q1c_L r 3 (f_q1c_s3 x0 x1 x2 x3) = some r :=
 step_of' h (by kernel_rfl)
noncomputable def f_q1c_n3 (x0 x1 x2 : Int) (x3 : List Int) : Option ((Int × Int × Int × (List Int)) ⊕ Int) := (cond (decide (x2 < x1)) (cond (inB x2 (List.length x3)) (some (Sum.inl ((max x0 (List.getD x3 (Int.toNat x2) 0)), x1, (IntKind.wrap .i64 (x2 + 1)), x3))) none) (some (Sum.inr x0)))
noncomputable def f_q1c_run3 (x : (Int × Int × Int × (List Int))) : Option Int := iter (fun x => f_q1c_n3 x.1 x.2.1 x.2.2.1 x.2.2.2) FU x
noncomputable def f_q1c_G3 (r : List A) (x : (Int × Int × Int × (List Int))) : Prop := f_q1c_L r 3 (f_q1c_s3 x.1 x.2.1 x.2.2.1 x.2.2.2) = some r
noncomputable def f_q1c_S3 (r : List A) : Int → Prop := fun v => r = l_q1c v
theorem f_q1c_go3 (r : List A) : ∀ x, sem (f_q1c_S3 r) (f_q1c_run3 x) → f_q1c_G3 r x :=
 fun x => iter_sound (step := fun x => f_q1c_n3 x.1 x.2.1 x.2.2.1 x.2.2.2) (fun x h => by
  unfold f_q1c_n3 at h
  exact f_q1c_step3 x.1 x.2.1 x.2.2.1 x.2.2.2 r ((sem_cond h (fun h => (sem_cond h (fun h => sem_got h fun q => q) (fun h => sem_none h))) (fun h => sem_got h fun q => some_eq q)))) FU x
noncomputable def s_q1c (a0 : List (Int × Int)) : Option Int := (Option.bind (s_q23 a0) fun r1 => (f_q1c_run3 (0, ((List.length r1 : Nat) : Int), 0, r1)))
theorem f_q1c_top (a0 : List (Int × Int)) (r : List A) : ev f_q1c_X (lpc (cnOf f_q1c_LV) (f_q1c_L r)) f_q1c_c (K0 TT f_q1c_rv) (enter [.lst (.st [(.i .i8), (.i .u16)]) a0]) = (Option.bind (s_q23 a0) fun r1 => (f_q1c_L r 3 (f_q1c_s3 0 ((List.length r1 : Nat) : Int) 0 r1))) := by kernel_rfl
theorem s_q1c_ok (a0 : List (Int × Int)) (v : Int) (h : s_q1c a0 = some v) : (Option.bind (s_q23 a0) fun r1 => (f_q1c_L (l_q1c v) 3 (f_q1c_s3 0 ((List.length r1 : Nat) : Int) 0 r1))) = some (l_q1c v) := by
 unfold s_q1c at h
 have go : ∀ r, sem (fun v => r = l_q1c v) ((Option.bind (s_q23 a0) fun r1 => (f_q1c_run3 (0, ((List.length r1 : Nat) : Int), 0, r1)))) → (Option.bind (s_q23 a0) fun r1 => (f_q1c_L r 3 (f_q1c_s3 0 ((List.length r1 : Nat) : Int) 0 r1))) = some r := fun r h => (sem_bind h fun r1 h => f_q1c_go3 r _ h)
 exact go (l_q1c v) ⟨v, h, rfl⟩
noncomputable def c_q1c : List A → ACall
 | [.lst (.st [(.i .i8), (.i .u16)]) a0] => ⟨Int, s_q1c a0, fun r => .one (.v (.int .i64 r))⟩
 | _ => ACall.fail
theorem f_q1c_sound : Sound Try.prog 196 c_q1c := by
 refine sound_good f_q1c_ctx f_q1c_LV 1 Try.func196 (c := f_q1c_c) (by kernel_rfl) (rv := f_q1c_rv) (by kernel_rfl) (by kernel_rfl) (by kernel_rfl) (by kernel_rfl) fun rs => ?_
 unfold c_q1c
 split
 ·rename_i a0; intro v h; exact ⟨rfl, l_q1c v, rfl, (f_q1c_top a0 _).trans (s_q1c_ok a0 v h)⟩
 ·intro v h; cases h
noncomputable def f_q21_c : Code := match Try.f153.body with | some c => c | none => .skip
noncomputable def f_q21_X : Ctx := ⟨TT, phiOf [(196, c_q1c)], noPsi, noXi⟩
def f_q21_LV : List (Nat × Keep) := [(3, ([0, 1, 5, 8, 9, 10], [], []))]
def f_q21_rv : List ResultVar := [.tmp 4]
noncomputable def f_q21_L (r : List A) : Nat → AS → Option (List A) := L f_q21_X (cnOf f_q21_LV) f_q21_c (K0 TT f_q21_rv) r
theorem f_q21_ctx : CtxOK Try.prog f_q21_X := ctx_of tab mix ⟨⟨Try.call196, f_q1c_sound⟩, trivial⟩
noncomputable def f_q21_s3 (x0 x1 x2 x3 : Int) (x4 : List (Int × Int)) : AS := ⟨[(0, .a (.sl 0)), (1, .a (.v (.int .i64 x0))), (5, .a (.v (.int .i64 x1))), (8, .a (.sl 0)), (9, .a (.v (.int .i64 x2))), (10, .a (.v (.int .i64 x3)))], [(0, some ⟨false, .arr (.st [(.i .i8), (.i .u16)]) x4⟩)], 1⟩
noncomputable def l_q21 (r : Int) : List A := [.v (.int .i64 r)]
theorem f_q21_step3 (x0 x1 x2 x3 : Int) (x4 : List (Int × Int)) (r : List A) (h : (cond (decide (x3 < x2)) (cond (inB x3 (List.length x4)) (f_q21_L r 3 (f_q21_s3 x0 (IntKind.wrap .i64 (x1 + (IntKind.wrap .i64 (List.getD x4 (Int.toNat x3) ((0, 0) : (Int × Int))).1))) x2 (IntKind.wrap .i64 (x3 + 1)) x4)) none) (Option.bind (s_q1c x4) fun r1 => (cond (decide (x0 = 0)) none (some [.v (.int .i64 (max r1 (IntKind.wrap .i64 (Int.tdiv (IntKind.wrap .i64 ((IntKind.wrap .i64 (x1 + x0)) - 1)) x0))))])))) = some r) : f_q21_L r 3 (f_q21_s3 x0 x1 x2 x3 x4) = some r :=
 step_of' h (by kernel_rfl)
noncomputable def f_q21_n3 (x0 x1 x2 x3 : Int) (x4 : List (Int × Int)) : Option ((Int × Int × Int × Int × (List (Int × Int))) ⊕ Int) := (cond (decide (x3 < x2)) (cond (inB x3 (List.length x4)) (some (Sum.inl (x0, (IntKind.wrap .i64 (x1 + (IntKind.wrap .i64 (List.getD x4 (Int.toNat x3) ((0, 0) : (Int × Int))).1))), x2, (IntKind.wrap .i64 (x3 + 1)), x4))) none) (Option.bind (s_q1c x4) fun r1 => (cond (decide (x0 = 0)) none (some (Sum.inr (max r1 (IntKind.wrap .i64 (Int.tdiv (IntKind.wrap .i64 ((IntKind.wrap .i64 (x1 + x0)) - 1)) x0))))))))
noncomputable def f_q21_run3 (x : (Int × Int × Int × Int × (List (Int × Int)))) : Option Int := iter (fun x => f_q21_n3 x.1 x.2.1 x.2.2.1 x.2.2.2.1 x.2.2.2.2) FU x
noncomputable def f_q21_G3 (r : List A) (x : (Int × Int × Int × Int × (List (Int × Int)))) : Prop := f_q21_L r 3 (f_q21_s3 x.1 x.2.1 x.2.2.1 x.2.2.2.1 x.2.2.2.2) = some r
noncomputable def f_q21_S3 (r : List A) : Int → Prop := fun v => r = l_q21 v
theorem f_q21_go3 (r : List A) : ∀ x, sem (f_q21_S3 r) (f_q21_run3 x) → f_q21_G3 r x :=
 fun x => iter_sound (step := fun x => f_q21_n3 x.1 x.2.1 x.2.2.1 x.2.2.2.1 x.2.2.2.2) (fun x h => by
  unfold f_q21_n3 at h
  exact f_q21_step3 x.1 x.2.1 x.2.2.1 x.2.2.2.1 x.2.2.2.2 r ((sem_cond h (fun h => (sem_cond h (fun h => sem_got h fun q => q) (fun h => sem_none h))) (fun h => (sem_bind h fun r1 h => (sem_cond h (fun h => sem_none h) (fun h => sem_got h fun q => some_eq q))))))) FU x
noncomputable def s_q21 (a0 : List (Int × Int)) (a1 : Int) : Option Int := (f_q21_run3 (a1, 0, ((List.length a0 : Nat) : Int), 0, a0))
theorem f_q21_top (a0 : List (Int × Int)) (a1 : Int) (r : List A) : ev f_q21_X (lpc (cnOf f_q21_LV) (f_q21_L r)) f_q21_c (K0 TT f_q21_rv) (enter [.lst (.st [(.i .i8), (.i .u16)]) a0, .v (.int .i64 a1)]) = (f_q21_L r 3 (f_q21_s3 a1 0 ((List.length a0 : Nat) : Int) 0 a0)) := by kernel_rfl
theorem s_q21_ok (a0 : List (Int × Int)) (a1 v : Int) (h : s_q21 a0 a1 = some v) : (f_q21_L (l_q21 v) 3 (f_q21_s3 a1 0 ((List.length a0 : Nat) : Int) 0 a0)) = some (l_q21 v) := by
 unfold s_q21 at h
 have go : ∀ r, sem (fun v => r = l_q21 v) ((f_q21_run3 (a1, 0, ((List.length a0 : Nat) : Int), 0, a0))) → (f_q21_L r 3 (f_q21_s3 a1 0 ((List.length a0 : Nat) : Int) 0 a0)) = some r := fun r h => f_q21_go3 r _ h
 exact go (l_q21 v) ⟨v, h, rfl⟩
noncomputable def c_q21 : List A → ACall
 | [.lst (.st [(.i .i8), (.i .u16)]) a0, .v (.int .i64 a1)] => ⟨Int, s_q21 a0 a1, fun r => .one (.v (.int .i64 r))⟩
 | _ => ACall.fail
theorem f_q21_sound : Sound Try.prog 153 c_q21 := by
 refine sound_good f_q21_ctx f_q21_LV 2 Try.func153 (c := f_q21_c) (by kernel_rfl) (rv := f_q21_rv) (by kernel_rfl) (by kernel_rfl) (by kernel_rfl) (by kernel_rfl) fun rs => ?_
 unfold c_q21
 split
 ·rename_i a0 a1; intro v h; exact ⟨rfl, l_q21 v, rfl, (f_q21_top a0 a1 _).trans (s_q21_ok a0 a1 v h)⟩
 ·intro v h; cases h
noncomputable def f_q1y_c : Code := match Try.f171.body with | some c => c | none => .skip
noncomputable def f_q1y_X : Ctx := ⟨TT, phiOf [], noPsi, noXi⟩
def f_q1y_LV : List (Nat × Keep) := []
def f_q1y_rv : List ResultVar := [.tmp 4]
noncomputable def f_q1y_L (r : List A) : Nat → AS → Option (List A) := L f_q1y_X (cnOf f_q1y_LV) f_q1y_c (K0 TT f_q1y_rv) r
theorem f_q1y_ctx : CtxOK Try.prog f_q1y_X := ctx_of tab mix trivial
noncomputable def s_q1y (a0 a1 : Int) : Int := (cond (decide (a0 > a1)) a0 a1)
theorem f_q1y_top (a0 a1 : Int) (r : List A) : ev f_q1y_X (lpc (cnOf f_q1y_LV) (f_q1y_L r)) f_q1y_c (K0 TT f_q1y_rv) (enter [.v (.int .i64 a0), .v (.int .i64 a1)]) = (cond (decide (a0 > a1)) (some [.v (.int .i64 a0)]) (some [.v (.int .i64 a1)])) := by kernel_rfl
noncomputable def l_q1y (r : Int) : List A := [.v (.int .i64 r)]
theorem s_q1y_ok (a0 a1 : Int) : (cond (decide (a0 > a1)) (some [.v (.int .i64 a0)]) (some [.v (.int .i64 a1)])) = some (l_q1y (s_q1y a0 a1)) := by
 unfold s_q1y
 exact (cond_app (fun x => some (l_q1y x)) rfl rfl)
noncomputable def c_q1y : List A → ACall
 | [.v (.int .i64 a0), .v (.int .i64 a1)] => ⟨Int, some (s_q1y a0 a1), fun r => .one (.v (.int .i64 r))⟩
 | _ => ACall.fail
theorem f_q1y_sound : Sound Try.prog 171 c_q1y := by
 refine sound_good f_q1y_ctx f_q1y_LV 2 Try.func171 (c := f_q1y_c) (by kernel_rfl) (rv := f_q1y_rv) (by kernel_rfl) (by kernel_rfl) (by kernel_rfl) (by kernel_rfl) fun rs => ?_
 unfold c_q1y
 split
 ·rename_i a0 a1; intro v h; cases h; exact ⟨rfl, l_q1y (s_q1y a0 a1), rfl, (f_q1y_top a0 a1 _).trans (s_q1y_ok a0 a1)⟩
 ·intro v h; cases h
noncomputable def f_q17_c : Code := match Try.f215.body with | some c => c | none => .skip
noncomputable def f_q17_X : Ctx := ⟨TT, phiOf [(163, c_q16), (171, c_q1y), (195, c_q18)], noPsi, noXi⟩
def f_q17_LV : List (Nat × Keep) := [(4, ([0, 3, 5, 6], [], [])), (9, ([0, 3, 5, 6, 7, 8, 9], [], []))]
def f_q17_rv : List ResultVar := [.tmp 2]
noncomputable def f_q17_L (r : List A) : Nat → AS → Option (List A) := L f_q17_X (cnOf f_q17_LV) f_q17_c (K0 TT f_q17_rv) r
theorem f_q17_ctx : CtxOK Try.prog f_q17_X := ctx_of tab mix ⟨⟨Try.call163, f_q16_sound⟩, ⟨Try.call171, f_q1y_sound⟩, ⟨Try.call195, f_q18_sound⟩, trivial⟩
noncomputable def f_q17_s4 (x0 : Int) (x1 : List (Int × Int)) (x2 x3 : List Int) : AS := ⟨[(0, .a (.sl 0)), (3, .a (.sl 1)), (5, .a (.sl 2)), (6, .a (.v (.int .i64 x0)))], [(0, some ⟨false, .arr (.st [(.i .i8), (.i .u16)]) x1⟩), (1, some ⟨true, .arr (.one (.i .i64)) x2⟩), (2, some ⟨true, .arr (.one (.i .i64)) x3⟩)], 3⟩
noncomputable def f_q17_s9 (x0 x1 x2 x3 : Int) (x4 : List (Int × Int)) (x5 x6 : List Int) : AS := ⟨[(0, .a (.sl 0)), (3, .a (.sl 1)), (5, .a (.sl 2)), (6, .a (.v (.int .i64 x0))), (7, .a (.v (.int .i64 x1))), (8, .a (.v (.int .i64 x2))), (9, .a (.v (.int .i64 x3)))], [(0, some ⟨false, .arr (.st [(.i .i8), (.i .u16)]) x4⟩), (1, some ⟨true, .arr (.one (.i .i64)) x5⟩), (2, some ⟨true, .arr (.one (.i .i64)) x6⟩)], 3⟩
noncomputable def l_q17 (r : List Int) : List A := [.lst (.one (.i .i64)) r]
theorem f_q17_step9 (x0 x1 x2 x3 : Int) (x4 : List (Int × Int)) (x5 x6 : List Int) (r : List A) (h : (cond (decide (x3 < ((List.length x4 : Nat) : Int))) (Option.bind (s_q18 x4 x3 x1) fun r2 => (cond r2 (cond (inB x3 (List.length x6)) (f_q17_L r 9 (f_q17_s9 x0 x1 (s_q1y x2 (List.getD x6 (Int.toNat x3) 0)) (IntKind.wrap .i64 (x3 + 1)) x4 x5 x6)) none) (f_q17_L r 9 (f_q17_s9 x0 x1 x2 (IntKind.wrap .i64 (x3 + 1)) x4 x5 x6)))) (cond (inB x1 (List.length x4)) (cond (inB x1 (List.length x6)) (f_q17_L r 4 (f_q17_s4 (IntKind.wrap .i64 (x0 - 1)) x4 x5 (List.set x6 (Int.toNat x1) (IntKind.wrap .i64 (x2 + (IntKind.wrap .i64 (List.getD x4 (Int.toNat x1) ((0, 0) : (Int × Int))).1)))))) none) none)) = some r) : f_q17_L r 9 (f_q17_s9 x0 x1 x2 x3 x4 x5 x6) = some r :=
 step_of' h (by kernel_rfl)
noncomputable def f_q17_n9 (x0 x1 x2 x3 : Int) (x4 : List (Int × Int)) (x5 x6 : List Int) : Option ((Int × Int × Int × Int × (List (Int × Int)) × (List Int) × (List Int)) ⊕ ((Int × (List (Int × Int)) × (List Int) × (List Int)) ⊕ (List Int))) := (cond (decide (x3 < ((List.length x4 : Nat) : Int))) (Option.bind (s_q18 x4 x3 x1) fun r2 => (cond r2 (cond (inB x3 (List.length x6)) (some (Sum.inl (x0, x1, (s_q1y x2 (List.getD x6 (Int.toNat x3) 0)), (IntKind.wrap .i64 (x3 + 1)), x4, x5, x6))) none) (some (Sum.inl (x0, x1, x2, (IntKind.wrap .i64 (x3 + 1)), x4, x5, x6))))) (cond (inB x1 (List.length x4)) (cond (inB x1 (List.length x6)) (some (Sum.inr (Sum.inl ((IntKind.wrap .i64 (x0 - 1)), x4, x5, (List.set x6 (Int.toNat x1) (IntKind.wrap .i64 (x2 + (IntKind.wrap .i64 (List.getD x4 (Int.toNat x1) ((0, 0) : (Int × Int))).1)))))))) none) none))
noncomputable def f_q17_run9 (x : (Int × Int × Int × Int × (List (Int × Int)) × (List Int) × (List Int))) : Option ((Int × (List (Int × Int)) × (List Int) × (List Int)) ⊕ (List Int)) := iter (fun x => f_q17_n9 x.1 x.2.1 x.2.2.1 x.2.2.2.1 x.2.2.2.2.1 x.2.2.2.2.2.1 x.2.2.2.2.2.2) FU x
noncomputable def f_q17_G9 (r : List A) (x : (Int × Int × Int × Int × (List (Int × Int)) × (List Int) × (List Int))) : Prop := f_q17_L r 9 (f_q17_s9 x.1 x.2.1 x.2.2.1 x.2.2.2.1 x.2.2.2.2.1 x.2.2.2.2.2.1 x.2.2.2.2.2.2) = some r
theorem f_q17_step4 (x0 : Int) (x1 : List (Int × Int)) (x2 x3 : List Int) (r : List A) (h : (cond (decide (x0 ≥ 0)) (cond (inB x0 (List.length x2)) (f_q17_L r 9 (f_q17_s9 x0 (List.getD x2 (Int.toNat x0) 0) 0 0 x1 x2 x3)) none) (some [.lst (.one (.i .i64)) x3])) = some r) : f_q17_L r 4 (f_q17_s4 x0 x1 x2 x3) = some r :=
 step_of' h (by kernel_rfl)
noncomputable def f_q17_n4 (x0 : Int) (x1 : List (Int × Int)) (x2 x3 : List Int) : Option ((Int × (List (Int × Int)) × (List Int) × (List Int)) ⊕ (List Int)) := (cond (decide (x0 ≥ 0)) (cond (inB x0 (List.length x2)) (f_q17_run9 (x0, (List.getD x2 (Int.toNat x0) 0), 0, 0, x1, x2, x3)) none) (some (Sum.inr x3)))
noncomputable def f_q17_run4 (x : (Int × (List (Int × Int)) × (List Int) × (List Int))) : Option (List Int) := iter (fun x => f_q17_n4 x.1 x.2.1 x.2.2.1 x.2.2.2) FU x
noncomputable def f_q17_G4 (r : List A) (x : (Int × (List (Int × Int)) × (List Int) × (List Int))) : Prop := f_q17_L r 4 (f_q17_s4 x.1 x.2.1 x.2.2.1 x.2.2.2) = some r
noncomputable def f_q17_S4 (r : List A) : (List Int) → Prop := fun v => r = l_q17 v
noncomputable def f_q17_S9 (r : List A) : ((Int × (List (Int × Int)) × (List Int) × (List Int)) ⊕ (List Int)) → Prop := goesOn (f_q17_G4 r) (f_q17_S4 r)
theorem f_q17_go9 (r : List A) : ∀ x, sem (f_q17_S9 r) (f_q17_run9 x) → f_q17_G9 r x :=
 fun x => iter_sound (step := fun x => f_q17_n9 x.1 x.2.1 x.2.2.1 x.2.2.2.1 x.2.2.2.2.1 x.2.2.2.2.2.1 x.2.2.2.2.2.2) (fun x h => by
  unfold f_q17_n9 at h
  exact f_q17_step9 x.1 x.2.1 x.2.2.1 x.2.2.2.1 x.2.2.2.2.1 x.2.2.2.2.2.1 x.2.2.2.2.2.2 r ((sem_cond h (fun h => (sem_bind h fun r2 h => (sem_cond h (fun h => (sem_cond h (fun h => sem_got h fun q => q) (fun h => sem_none h))) (fun h => sem_got h fun q => q)))) (fun h => (sem_cond h (fun h => (sem_cond h (fun h => sem_got h fun q => q) (fun h => sem_none h))) (fun h => sem_none h)))))) FU x
theorem f_q17_go4 (r : List A) : ∀ x, sem (f_q17_S4 r) (f_q17_run4 x) → f_q17_G4 r x :=
 fun x => iter_sound (step := fun x => f_q17_n4 x.1 x.2.1 x.2.2.1 x.2.2.2) (fun x h => by
  unfold f_q17_n4 at h
  exact f_q17_step4 x.1 x.2.1 x.2.2.1 x.2.2.2 r ((sem_cond h (fun h => (sem_cond h (fun h => f_q17_go9 r _ h) (fun h => sem_none h))) (fun h => sem_got h fun q => some_eq q)))) FU x
noncomputable def s_q17 (a0 : List (Int × Int)) : Option (List Int) := (Option.bind (s_q16 a0) fun r1 => (cond (decide (0 ≤ ((List.length a0 : Nat) : Int)) && decide (((List.length a0 : Nat) : Int) = ((List.length a0 : Nat) : Int)) && fits ((Int.toNat ((List.length a0 : Nat) : Int)) * 8)) (f_q17_run4 ((IntKind.wrap .i64 (((List.length r1.1 : Nat) : Int) - 1)), a0, r1.1, (List.replicate (Int.toNat ((List.length a0 : Nat) : Int)) 0))) none))
theorem f_q17_top (a0 : List (Int × Int)) (r : List A) : ev f_q17_X (lpc (cnOf f_q17_LV) (f_q17_L r)) f_q17_c (K0 TT f_q17_rv) (enter [.lst (.st [(.i .i8), (.i .u16)]) a0]) = (Option.bind (s_q16 a0) fun r1 => (cond (decide (0 ≤ ((List.length a0 : Nat) : Int)) && decide (((List.length a0 : Nat) : Int) = ((List.length a0 : Nat) : Int)) && fits ((Int.toNat ((List.length a0 : Nat) : Int)) * 8)) (f_q17_L r 4 (f_q17_s4 (IntKind.wrap .i64 (((List.length r1.1 : Nat) : Int) - 1)) a0 r1.1 (List.replicate (Int.toNat ((List.length a0 : Nat) : Int)) 0))) none)) := by kernel_rfl
theorem s_q17_ok (a0 : List (Int × Int)) (v : List Int) (h : s_q17 a0 = some v) : (Option.bind (s_q16 a0) fun r1 => (cond (decide (0 ≤ ((List.length a0 : Nat) : Int)) && decide (((List.length a0 : Nat) : Int) = ((List.length a0 : Nat) : Int)) && fits ((Int.toNat ((List.length a0 : Nat) : Int)) * 8)) (f_q17_L (l_q17 v) 4 (f_q17_s4 (IntKind.wrap .i64 (((List.length r1.1 : Nat) : Int) - 1)) a0 r1.1 (List.replicate (Int.toNat ((List.length a0 : Nat) : Int)) 0))) none)) = some (l_q17 v) := by
 unfold s_q17 at h
 have go : ∀ r, sem (fun v => r = l_q17 v) ((Option.bind (s_q16 a0) fun r1 => (cond (decide (0 ≤ ((List.length a0 : Nat) : Int)) && decide (((List.length a0 : Nat) : Int) = ((List.length a0 : Nat) : Int)) && fits ((Int.toNat ((List.length a0 : Nat) : Int)) * 8)) (f_q17_run4 ((IntKind.wrap .i64 (((List.length r1.1 : Nat) : Int) - 1)), a0, r1.1, (List.replicate (Int.toNat ((List.length a0 : Nat) : Int)) 0))) none))) → (Option.bind (s_q16 a0) fun r1 => (cond (decide (0 ≤ ((List.length a0 : Nat) : Int)) && decide (((List.length a0 : Nat) : Int) = ((List.length a0 : Nat) : Int)) && fits ((Int.toNat ((List.length a0 : Nat) : Int)) * 8)) (f_q17_L r 4 (f_q17_s4 (IntKind.wrap .i64 (((List.length r1.1 : Nat) : Int) - 1)) a0 r1.1 (List.replicate (Int.toNat ((List.length a0 : Nat) : Int)) 0))) none)) = some r := fun r h => (sem_bind h fun r1 h => (sem_cond h (fun h => f_q17_go4 r _ h) (fun h => sem_none h)))
 exact go (l_q17 v) ⟨v, h, rfl⟩
noncomputable def c_q17 : List A → ACall
 | [.lst (.st [(.i .i8), (.i .u16)]) a0] => ⟨(List Int), s_q17 a0, fun r => .one (.lst (.one (.i .i64)) r)⟩
 | _ => ACall.fail
theorem f_q17_sound : Sound Try.prog 215 c_q17 := by
 refine sound_good f_q17_ctx f_q17_LV 1 Try.func215 (c := f_q17_c) (by kernel_rfl) (rv := f_q17_rv) (by kernel_rfl) (by kernel_rfl) (by kernel_rfl) (by kernel_rfl) fun rs => ?_
 unfold c_q17
 split
 ·rename_i a0; intro v h; exact ⟨rfl, l_q17 v, rfl, (f_q17_top a0 _).trans (s_q17_ok a0 v h)⟩
 ·intro v h; cases h
noncomputable def f_q0m_c : Code := match Try.f197.body with | some c => c | none => .skip
noncomputable def f_q0m_X : Ctx := ⟨TT, phiOf [(171, c_q1y), (215, c_q17)], noPsi, noXi⟩
def f_q0m_LV : List (Nat × Keep) := [(4, ([3, 4, 5], [], []))]
def f_q0m_rv : List ResultVar := [.tmp 2]
noncomputable def f_q0m_L (r : List A) : Nat → AS → Option (List A) := L f_q0m_X (cnOf f_q0m_LV) f_q0m_c (K0 TT f_q0m_rv) r
theorem f_q0m_ctx : CtxOK Try.prog f_q0m_X := ctx_of tab mix ⟨⟨Try.call171, f_q1y_sound⟩, ⟨Try.call215, f_q17_sound⟩, trivial⟩
noncomputable def f_q0m_s4 (x0 x1 : Int) (x2 : List Int) : AS := ⟨[(3, .a (.sl 0)), (4, .a (.v (.int .i64 x0))), (5, .a (.v (.int .i64 x1)))], [(0, some ⟨true, .arr (.one (.i .i64)) x2⟩)], 1⟩
noncomputable def l_q0m (r : Int) : List A := [.v (.int .i64 r)]
theorem f_q0m_step4 (x0 x1 : Int) (x2 : List Int) (r : List A) (h : (cond (decide (x1 < ((List.length x2 : Nat) : Int))) (cond (inB x1 (List.length x2)) (f_q0m_L r 4 (f_q0m_s4 (s_q1y x0 (List.getD x2 (Int.toNat x1) 0)) (IntKind.wrap .i64 (x1 + 1)) x2)) none) (some [.v (.int .i64 x0)])) = some r) : f_q0m_L r 4 (f_q0m_s4 x0 x1 x2) = some r :=
 step_of' h (by kernel_rfl)
noncomputable def f_q0m_n4 (x0 x1 : Int) (x2 : List Int) : Option ((Int × Int × (List Int)) ⊕ Int) := (cond (decide (x1 < ((List.length x2 : Nat) : Int))) (cond (inB x1 (List.length x2)) (some (Sum.inl ((s_q1y x0 (List.getD x2 (Int.toNat x1) 0)), (IntKind.wrap .i64 (x1 + 1)), x2))) none) (some (Sum.inr x0)))
noncomputable def f_q0m_run4 (x : (Int × Int × (List Int))) : Option Int := iter (fun x => f_q0m_n4 x.1 x.2.1 x.2.2) FU x
noncomputable def f_q0m_G4 (r : List A) (x : (Int × Int × (List Int))) : Prop := f_q0m_L r 4 (f_q0m_s4 x.1 x.2.1 x.2.2) = some r
noncomputable def f_q0m_S4 (r : List A) : Int → Prop := fun v => r = l_q0m v
theorem f_q0m_go4 (r : List A) : ∀ x, sem (f_q0m_S4 r) (f_q0m_run4 x) → f_q0m_G4 r x :=
 fun x => iter_sound (step := fun x => f_q0m_n4 x.1 x.2.1 x.2.2) (fun x h => by
  unfold f_q0m_n4 at h
  exact f_q0m_step4 x.1 x.2.1 x.2.2 r ((sem_cond h (fun h => (sem_cond h (fun h => sem_got h fun q => q) (fun h => sem_none h))) (fun h => sem_got h fun q => some_eq q)))) FU x
noncomputable def s_q0m (a0 : List (Int × Int)) : Option Int := (Option.bind (s_q17 a0) fun r1 => (f_q0m_run4 (0, 0, r1)))
theorem f_q0m_top (a0 : List (Int × Int)) (r : List A) : ev f_q0m_X (lpc (cnOf f_q0m_LV) (f_q0m_L r)) f_q0m_c (K0 TT f_q0m_rv) (enter [.lst (.st [(.i .i8), (.i .u16)]) a0]) = (Option.bind (s_q17 a0) fun r1 => (f_q0m_L r 4 (f_q0m_s4 0 0 r1))) := by kernel_rfl
theorem s_q0m_ok (a0 : List (Int × Int)) (v : Int) (h : s_q0m a0 = some v) : (Option.bind (s_q17 a0) fun r1 => (f_q0m_L (l_q0m v) 4 (f_q0m_s4 0 0 r1))) = some (l_q0m v) := by
 unfold s_q0m at h
 have go : ∀ r, sem (fun v => r = l_q0m v) ((Option.bind (s_q17 a0) fun r1 => (f_q0m_run4 (0, 0, r1)))) → (Option.bind (s_q17 a0) fun r1 => (f_q0m_L r 4 (f_q0m_s4 0 0 r1))) = some r := fun r h => (sem_bind h fun r1 h => f_q0m_go4 r _ h)
 exact go (l_q0m v) ⟨v, h, rfl⟩
noncomputable def c_q0m : List A → ACall
 | [.lst (.st [(.i .i8), (.i .u16)]) a0] => ⟨Int, s_q0m a0, fun r => .one (.v (.int .i64 r))⟩
 | _ => ACall.fail
theorem f_q0m_sound : Sound Try.prog 197 c_q0m := by
 refine sound_good f_q0m_ctx f_q0m_LV 1 Try.func197 (c := f_q0m_c) (by kernel_rfl) (rv := f_q0m_rv) (by kernel_rfl) (by kernel_rfl) (by kernel_rfl) (by kernel_rfl) fun rs => ?_
 unfold c_q0m
 split
 ·rename_i a0; intro v h; exact ⟨rfl, l_q0m v, rfl, (f_q0m_top a0 _).trans (s_q0m_ok a0 v h)⟩
 ·intro v h; cases h
noncomputable def f_q12_c : Code := match Try.f154.body with | some c => c | none => .skip
noncomputable def f_q12_X : Ctx := ⟨TT, phiOf [(171, c_q1y), (197, c_q0m)], noPsi, noXi⟩
def f_q12_LV : List (Nat × Keep) := [(3, ([0, 1, 5, 6], [], []))]
def f_q12_rv : List ResultVar := [.tmp 4]
noncomputable def f_q12_L (r : List A) : Nat → AS → Option (List A) := L f_q12_X (cnOf f_q12_LV) f_q12_c (K0 TT f_q12_rv) r
theorem f_q12_ctx : CtxOK Try.prog f_q12_X := ctx_of tab mix ⟨⟨Try.call171, f_q1y_sound⟩, ⟨Try.call197, f_q0m_sound⟩, trivial⟩
noncomputable def f_q12_s3 (x0 x1 x2 : Int) (x3 : List (Int × Int)) : AS := ⟨[(0, .a (.sl 0)), (1, .a (.v (.int .i64 x0))), (5, .a (.v (.int .i64 x1))), (6, .a (.v (.int .i64 x2)))], [(0, some ⟨false, .arr (.st [(.i .i8), (.i .u16)]) x3⟩)], 1⟩
noncomputable def l_q12 (r : Int) : List A := [.v (.int .i64 r)]
theorem f_q12_step3 (x0 x1 x2 : Int) (x3 : List (Int × Int)) (r : List A) (h : (cond (decide (x2 < ((List.length x3 : Nat) : Int))) (cond (inB x2 (List.length x3)) (f_q12_L r 3 (f_q12_s3 x0 (IntKind.wrap .i64 (x1 + (IntKind.wrap .i64 (List.getD x3 (Int.toNat x2) ((0, 0) : (Int × Int))).1))) (IntKind.wrap .i64 (x2 + 1)) x3)) none) (Option.bind (s_q0m x3) fun r1 => (cond (decide (x0 = 0)) none (some [.v (.int .i64 (s_q1y r1 (IntKind.wrap .i64 (Int.tdiv (IntKind.wrap .i64 ((IntKind.wrap .i64 (x1 + x0)) - 1)) x0))))])))) = some r) : f_q12_L r 3 (f_q12_s3 x0 x1 x2 x3) = some r :=
 step_of' h (by kernel_rfl)
noncomputable def f_q12_n3 (x0 x1 x2 : Int) (x3 : List (Int × Int)) : Option ((Int × Int × Int × (List (Int × Int))) ⊕ Int) := (cond (decide (x2 < ((List.length x3 : Nat) : Int))) (cond (inB x2 (List.length x3)) (some (Sum.inl (x0, (IntKind.wrap .i64 (x1 + (IntKind.wrap .i64 (List.getD x3 (Int.toNat x2) ((0, 0) : (Int × Int))).1))), (IntKind.wrap .i64 (x2 + 1)), x3))) none) (Option.bind (s_q0m x3) fun r1 => (cond (decide (x0 = 0)) none (some (Sum.inr (s_q1y r1 (IntKind.wrap .i64 (Int.tdiv (IntKind.wrap .i64 ((IntKind.wrap .i64 (x1 + x0)) - 1)) x0))))))))
noncomputable def f_q12_run3 (x : (Int × Int × Int × (List (Int × Int)))) : Option Int := iter (fun x => f_q12_n3 x.1 x.2.1 x.2.2.1 x.2.2.2) FU x
noncomputable def f_q12_G3 (r : List A) (x : (Int × Int × Int × (List (Int × Int)))) : Prop := f_q12_L r 3 (f_q12_s3 x.1 x.2.1 x.2.2.1 x.2.2.2) = some r
noncomputable def f_q12_S3 (r : List A) : Int → Prop := fun v => r = l_q12 v
theorem f_q12_go3 (r : List A) : ∀ x, sem (f_q12_S3 r) (f_q12_run3 x) → f_q12_G3 r x :=
 fun x => iter_sound (step := fun x => f_q12_n3 x.1 x.2.1 x.2.2.1 x.2.2.2) (fun x h => by
  unfold f_q12_n3 at h
  exact f_q12_step3 x.1 x.2.1 x.2.2.1 x.2.2.2 r ((sem_cond h (fun h => (sem_cond h (fun h => sem_got h fun q => q) (fun h => sem_none h))) (fun h => (sem_bind h fun r1 h => (sem_cond h (fun h => sem_none h) (fun h => sem_got h fun q => some_eq q))))))) FU x
noncomputable def s_q12 (a0 : List (Int × Int)) (a1 : Int) : Option Int := (f_q12_run3 (a1, 0, 0, a0))
theorem f_q12_top (a0 : List (Int × Int)) (a1 : Int) (r : List A) : ev f_q12_X (lpc (cnOf f_q12_LV) (f_q12_L r)) f_q12_c (K0 TT f_q12_rv) (enter [.lst (.st [(.i .i8), (.i .u16)]) a0, .v (.int .i64 a1)]) = (f_q12_L r 3 (f_q12_s3 a1 0 0 a0)) := by kernel_rfl
theorem s_q12_ok (a0 : List (Int × Int)) (a1 v : Int) (h : s_q12 a0 a1 = some v) : (f_q12_L (l_q12 v) 3 (f_q12_s3 a1 0 0 a0)) = some (l_q12 v) := by
 unfold s_q12 at h
 have go : ∀ r, sem (fun v => r = l_q12 v) ((f_q12_run3 (a1, 0, 0, a0))) → (f_q12_L r 3 (f_q12_s3 a1 0 0 a0)) = some r := fun r h => f_q12_go3 r _ h
 exact go (l_q12 v) ⟨v, h, rfl⟩
noncomputable def c_q12 : List A → ACall
 | [.lst (.st [(.i .i8), (.i .u16)]) a0, .v (.int .i64 a1)] => ⟨Int, s_q12 a0 a1, fun r => .one (.v (.int .i64 r))⟩
 | _ => ACall.fail
theorem f_q12_sound : Sound Try.prog 154 c_q12 := by
 refine sound_good f_q12_ctx f_q12_LV 2 Try.func154 (c := f_q12_c) (by kernel_rfl) (rv := f_q12_rv) (by kernel_rfl) (by kernel_rfl) (by kernel_rfl) (by kernel_rfl) fun rs => ?_
 unfold c_q12
 split
 ·rename_i a0 a1; intro v h; exact ⟨rfl, l_q12 v, rfl, (f_q12_top a0 a1 _).trans (s_q12_ok a0 a1 v h)⟩
 ·intro v h; cases h
end Go.RR
