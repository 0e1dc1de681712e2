/- Longest chains. -/
import Derived.Test.YtkbolifaojmmhaaVl
import Derived.Test.YtkbolifaojmmhaaRw
set_option linter.unusedVariables false
set_option linter.unusedSimpArgs false
set_option maxRecDepth 100000
namespace Go.RR
open Go Go.Proofs

/-! ### function 156: slices.Reverse[[]int64,int64] -/
noncomputable def f_gReverse_int64_c : Code := match Try.f156.body with | some c => c | none => .skip
noncomputable def f_gReverse_int64_X : Ctx := ⟨TT, phiOf [], noPsi⟩
def f_gReverse_int64_LV : List (Nat × Keep) := [(1, ([0, 2, 3], [], []))]
def f_gReverse_int64_rv : List ResultVar := []
noncomputable def f_gReverse_int64_L (r : List A) : Nat → AS → Option (List A) := L f_gReverse_int64_X (cnOfU f_gReverse_int64_LV) f_gReverse_int64_c (K0U TT f_gReverse_int64_rv) r
theorem f_gReverse_int64_ctx : CtxOK Try.prog f_gReverse_int64_X := ctx_of tab mix trivial
noncomputable def f_gReverse_int64_s1 (x0 : Int) (x1 : Int) (x2 : (List Int)) : AS := ⟨[(0, .a (.sl 0)), (2, .a (.v (.int .i64 x0))), (3, .a (.v (.int .i64 x1)))], [(0, some ⟨true, .arr (.one (.i .i64)) x2⟩)], 1⟩
noncomputable def l_gReverse_int64 (r : (List Int)) : List A := [.lst (.one (.i .i64)) r]
theorem f_gReverse_int64_step1 (x0 : Int) (x1 : Int) (x2 : (List Int)) (r : List A) (h : (cond (decide (x0 < x1)) (cond (inB x1 (List.length x2)) (cond (inB x0 (List.length x2)) (cond (inB x0 (List.length x2)) (cond (inB x1 (List.length (List.set x2 (Int.toNat x0) (List.getD x2 (Int.toNat x1) 0)))) (f_gReverse_int64_L r 1 (f_gReverse_int64_s1 (IntKind.wrap .i64 (x0 + 1)) (IntKind.wrap .i64 (x1 - 1)) (List.set (List.set x2 (Int.toNat x0) (List.getD x2 (Int.toNat x1) 0)) (Int.toNat x1) (List.getD x2 (Int.toNat x0) 0)))) none) none) none) none) (some [.lst (.one (.i .i64)) x2])) = some r) : f_gReverse_int64_L r 1 (f_gReverse_int64_s1 x0 x1 x2) = some r :=
  step_of' h (by kernel_rfl)
noncomputable def f_gReverse_int64_n1 (x0 : Int) (x1 : Int) (x2 : (List Int)) : Option ((Int × Int × (List Int)) ⊕ (List Int)) := (cond (decide (x0 < x1)) (cond (inB x1 (List.length x2)) (cond (inB x0 (List.length x2)) (cond (inB x0 (List.length x2)) (cond (inB x1 (List.length (List.set x2 (Int.toNat x0) (List.getD x2 (Int.toNat x1) 0)))) (some (Sum.inl ((IntKind.wrap .i64 (x0 + 1)), (IntKind.wrap .i64 (x1 - 1)), (List.set (List.set x2 (Int.toNat x0) (List.getD x2 (Int.toNat x1) 0)) (Int.toNat x1) (List.getD x2 (Int.toNat x0) 0))))) none) none) none) none) (some (Sum.inr x2)))
noncomputable def f_gReverse_int64_run1 (x : (Int × Int × (List Int))) : Option (List Int) := iter (fun x => f_gReverse_int64_n1 x.1 x.2.1 x.2.2) FU x
noncomputable def f_gReverse_int64_G1 (r : List A) (x : (Int × Int × (List Int))) : Prop := f_gReverse_int64_L r 1 (f_gReverse_int64_s1 x.1 x.2.1 x.2.2) = some r
noncomputable def f_gReverse_int64_S1 (r : List A) : (List Int) → Prop := fun v => r = l_gReverse_int64 v
theorem f_gReverse_int64_go1 (r : List A) : ∀ x, sem (f_gReverse_int64_S1 r) (f_gReverse_int64_run1 x) → f_gReverse_int64_G1 r x :=
  fun x => iter_sound (step := fun x => f_gReverse_int64_n1 x.1 x.2.1 x.2.2) (fun x h => by
    unfold f_gReverse_int64_n1 at h
    exact f_gReverse_int64_step1 x.1 x.2.1 x.2.2 r ((sem_cond h (fun h => (sem_cond h (fun h => (sem_cond h (fun h => (sem_cond h (fun h => (sem_cond h (fun h => sem_got h fun q => q) (fun h => sem_none h))) (fun h => sem_none h))) (fun h => sem_none h))) (fun h => sem_none h))) (fun h => sem_got h fun q => some_eq q)))) FU x
noncomputable def s_gReverse_int64 (a0 : (List Int)) : Option (List Int) := (f_gReverse_int64_run1 (0, (IntKind.wrap .i64 (((List.length a0 : Nat) : Int) - 1)), a0))
theorem f_gReverse_int64_top (a0 : (List Int)) (r : List A) : ev f_gReverse_int64_X (lpc (cnOfU f_gReverse_int64_LV) (f_gReverse_int64_L r)) f_gReverse_int64_c (K0U TT f_gReverse_int64_rv) (enterU (.one (.i .i64)) a0 []) = (f_gReverse_int64_L r 1 (f_gReverse_int64_s1 0 (IntKind.wrap .i64 (((List.length a0 : Nat) : Int) - 1)) a0)) := by kernel_rfl
theorem s_gReverse_int64_ok (a0 : (List Int)) (v : (List Int)) (h : s_gReverse_int64 a0 = some v) : (f_gReverse_int64_L (l_gReverse_int64 v) 1 (f_gReverse_int64_s1 0 (IntKind.wrap .i64 (((List.length a0 : Nat) : Int) - 1)) a0)) = some (l_gReverse_int64 v) := by
  unfold s_gReverse_int64 at h
  have go : ∀ r, sem (fun v => r = l_gReverse_int64 v) ((f_gReverse_int64_run1 (0, (IntKind.wrap .i64 (((List.length a0 : Nat) : Int) - 1)), a0))) → (f_gReverse_int64_L r 1 (f_gReverse_int64_s1 0 (IntKind.wrap .i64 (((List.length a0 : Nat) : Int) - 1)) a0)) = some r := fun r h => f_gReverse_int64_go1 r _ h
  exact go (l_gReverse_int64 v) ⟨v, h, rfl⟩
noncomputable def u_gReverse_int64 : UCon := fun e l rest => match e, l, rest with
  | (.one (.i .i64)), a0, [] => ⟨(List Int), s_gReverse_int64 a0, fun r => none, fun r => r⟩
  | _, _, _ => UCall.fail
theorem f_gReverse_int64_sound : USound Try.prog 156 u_gReverse_int64 := by
  refine sound_goodU f_gReverse_int64_ctx f_gReverse_int64_LV 1 Try.func156 (c := f_gReverse_int64_c) (by kernel_rfl) (rv := f_gReverse_int64_rv) (by kernel_rfl) (by kernel_rfl) (by kernel_rfl) (by kernel_rfl) fun e l rest => ?_
  unfold u_gReverse_int64
  split
  · rename_i a0; intro v h; exact ⟨rfl, (f_gReverse_int64_top a0 _).trans (s_gReverse_int64_ok a0 v h)⟩
  · intro v h; cases h

/-! ### function 91: loop.example/g01322/spec.l07Tails -/
noncomputable def f_sl07Tails_c : Code := match Try.f91.body with | some c => c | none => .skip
noncomputable def f_sl07Tails_X : Ctx := ⟨TT, phiOf [(149, c_sl00Max), (153, c_sl07Order), (95, c_sl07Waits)], noPsi⟩
def f_sl07Tails_LV : List (Nat × Keep) := [(4, ([0, 3, 5, 6], [], [])), (9, ([0, 3, 5, 6, 7, 8, 9], [], []))]
def f_sl07Tails_rv : List ResultVar := [.tmp 2]
noncomputable def f_sl07Tails_L (r : List A) : Nat → AS → Option (List A) := L f_sl07Tails_X (cnOf f_sl07Tails_LV) f_sl07Tails_c (K0 TT f_sl07Tails_rv) r
theorem f_sl07Tails_ctx : CtxOK Try.prog f_sl07Tails_X := ctx_of tab mix ⟨⟨Try.call149, f_sl00Max_sound⟩, ⟨Try.call153, f_sl07Order_sound⟩, ⟨Try.call95, f_sl07Waits_sound⟩, trivial⟩
noncomputable def f_sl07Tails_s4 (x0 : Int) (x1 : (List (Int × Int))) (x2 : (List Int)) (x3 : (List Int)) : AS := ⟨[(0, .a (.sl 0)), (3, .a (.sl 1)), (5, .a (.sl 2)), (6, .a (.v (.int .i64 x0)))], [(0, some ⟨false, .arr (.st [(.i .i8), (.i .u16)]) x1⟩), (1, some ⟨true, .arr (.one (.i .i64)) x2⟩), (2, some ⟨true, .arr (.one (.i .i64)) x3⟩)], 3⟩
noncomputable def f_sl07Tails_s9 (x0 : Int) (x1 : Int) (x2 : Int) (x3 : Int) (x4 : (List (Int × Int))) (x5 : (List Int)) (x6 : (List Int)) : AS := ⟨[(0, .a (.sl 0)), (3, .a (.sl 1)), (5, .a (.sl 2)), (6, .a (.v (.int .i64 x0))), (7, .a (.v (.int .i64 x1))), (8, .a (.v (.int .i64 x2))), (9, .a (.v (.int .i64 x3)))], [(0, some ⟨false, .arr (.st [(.i .i8), (.i .u16)]) x4⟩), (1, some ⟨true, .arr (.one (.i .i64)) x5⟩), (2, some ⟨true, .arr (.one (.i .i64)) x6⟩)], 3⟩
noncomputable def l_sl07Tails (r : (List Int)) : List A := [.lst (.one (.i .i64)) r]
theorem f_sl07Tails_step9 (x0 : Int) (x1 : Int) (x2 : Int) (x3 : Int) (x4 : (List (Int × Int))) (x5 : (List Int)) (x6 : (List Int)) (r : List A) (h : (cond (decide (x3 < ((List.length x4 : Nat) : Int))) (Option.bind (s_sl07Waits x4 x3 x1) fun r2 => (cond r2 (cond (inB x3 (List.length x6)) (f_sl07Tails_L r 9 (f_sl07Tails_s9 x0 x1 (s_sl00Max x2 (List.getD x6 (Int.toNat x3) 0)) (IntKind.wrap .i64 (x3 + 1)) x4 x5 x6)) none) (f_sl07Tails_L r 9 (f_sl07Tails_s9 x0 x1 x2 (IntKind.wrap .i64 (x3 + 1)) x4 x5 x6)))) (cond (inB x1 (List.length x4)) (cond (inB x1 (List.length x6)) (f_sl07Tails_L r 4 (f_sl07Tails_s4 (IntKind.wrap .i64 (x0 - 1)) x4 x5 (List.set x6 (Int.toNat x1) (IntKind.wrap .i64 (x2 + (IntKind.wrap .i64 (List.getD x4 (Int.toNat x1) ((0, 0) : (Int × Int))).1)))))) none) none)) = some r) : f_sl07Tails_L r 9 (f_sl07Tails_s9 x0 x1 x2 x3 x4 x5 x6) = some r :=
  step_of' h (by kernel_rfl)
noncomputable def f_sl07Tails_n9 (x0 : Int) (x1 : Int) (x2 : Int) (x3 : Int) (x4 : (List (Int × Int))) (x5 : (List Int)) (x6 : (List Int)) : Option ((Int × Int × Int × Int × (List (Int × Int)) × (List Int) × (List Int)) ⊕ ((Int × (List (Int × Int)) × (List Int) × (List Int)) ⊕ (List Int))) := (cond (decide (x3 < ((List.length x4 : Nat) : Int))) (Option.bind (s_sl07Waits x4 x3 x1) fun r2 => (cond r2 (cond (inB x3 (List.length x6)) (some (Sum.inl (x0, x1, (s_sl00Max x2 (List.getD x6 (Int.toNat x3) 0)), (IntKind.wrap .i64 (x3 + 1)), x4, x5, x6))) none) (some (Sum.inl (x0, x1, x2, (IntKind.wrap .i64 (x3 + 1)), x4, x5, x6))))) (cond (inB x1 (List.length x4)) (cond (inB x1 (List.length x6)) (some (Sum.inr (Sum.inl ((IntKind.wrap .i64 (x0 - 1)), x4, x5, (List.set x6 (Int.toNat x1) (IntKind.wrap .i64 (x2 + (IntKind.wrap .i64 (List.getD x4 (Int.toNat x1) ((0, 0) : (Int × Int))).1)))))))) none) none))
noncomputable def f_sl07Tails_run9 (x : (Int × Int × Int × Int × (List (Int × Int)) × (List Int) × (List Int))) : Option ((Int × (List (Int × Int)) × (List Int) × (List Int)) ⊕ (List Int)) := iter (fun x => f_sl07Tails_n9 x.1 x.2.1 x.2.2.1 x.2.2.2.1 x.2.2.2.2.1 x.2.2.2.2.2.1 x.2.2.2.2.2.2) FU x
noncomputable def f_sl07Tails_G9 (r : List A) (x : (Int × Int × Int × Int × (List (Int × Int)) × (List Int) × (List Int))) : Prop := f_sl07Tails_L r 9 (f_sl07Tails_s9 x.1 x.2.1 x.2.2.1 x.2.2.2.1 x.2.2.2.2.1 x.2.2.2.2.2.1 x.2.2.2.2.2.2) = some r
theorem f_sl07Tails_step4 (x0 : Int) (x1 : (List (Int × Int))) (x2 : (List Int)) (x3 : (List Int)) (r : List A) (h : (cond (decide (x0 ≥ 0)) (cond (inB x0 (List.length x2)) (f_sl07Tails_L r 9 (f_sl07Tails_s9 x0 (List.getD x2 (Int.toNat x0) 0) 0 0 x1 x2 x3)) none) (some [.lst (.one (.i .i64)) x3])) = some r) : f_sl07Tails_L r 4 (f_sl07Tails_s4 x0 x1 x2 x3) = some r :=
  step_of' h (by kernel_rfl)
noncomputable def f_sl07Tails_n4 (x0 : Int) (x1 : (List (Int × Int))) (x2 : (List Int)) (x3 : (List Int)) : Option ((Int × (List (Int × Int)) × (List Int) × (List Int)) ⊕ (List Int)) := (cond (decide (x0 ≥ 0)) (cond (inB x0 (List.length x2)) (f_sl07Tails_run9 (x0, (List.getD x2 (Int.toNat x0) 0), 0, 0, x1, x2, x3)) none) (some (Sum.inr x3)))
noncomputable def f_sl07Tails_run4 (x : (Int × (List (Int × Int)) × (List Int) × (List Int))) : Option (List Int) := iter (fun x => f_sl07Tails_n4 x.1 x.2.1 x.2.2.1 x.2.2.2) FU x
noncomputable def f_sl07Tails_G4 (r : List A) (x : (Int × (List (Int × Int)) × (List Int) × (List Int))) : Prop := f_sl07Tails_L r 4 (f_sl07Tails_s4 x.1 x.2.1 x.2.2.1 x.2.2.2) = some r
noncomputable def f_sl07Tails_S4 (r : List A) : (List Int) → Prop := fun v => r = l_sl07Tails v
noncomputable def f_sl07Tails_S9 (r : List A) : ((Int × (List (Int × Int)) × (List Int) × (List Int)) ⊕ (List Int)) → Prop := goesOn (f_sl07Tails_G4 r) (f_sl07Tails_S4 r)
theorem f_sl07Tails_go9 (r : List A) : ∀ x, sem (f_sl07Tails_S9 r) (f_sl07Tails_run9 x) → f_sl07Tails_G9 r x :=
  fun x => iter_sound (step := fun x => f_sl07Tails_n9 x.1 x.2.1 x.2.2.1 x.2.2.2.1 x.2.2.2.2.1 x.2.2.2.2.2.1 x.2.2.2.2.2.2) (fun x h => by
    unfold f_sl07Tails_n9 at h
    exact f_sl07Tails_step9 x.1 x.2.1 x.2.2.1 x.2.2.2.1 x.2.2.2.2.1 x.2.2.2.2.2.1 x.2.2.2.2.2.2 r ((sem_cond h (fun h => (sem_bind h fun r2 h => (sem_cond h (fun h => (sem_cond h (fun h => sem_got h fun q => q) (fun h => sem_none h))) (fun h => sem_got h fun q => q)))) (fun h => (sem_cond h (fun h => (sem_cond h (fun h => sem_got h fun q => q) (fun h => sem_none h))) (fun h => sem_none h)))))) FU x
theorem f_sl07Tails_go4 (r : List A) : ∀ x, sem (f_sl07Tails_S4 r) (f_sl07Tails_run4 x) → f_sl07Tails_G4 r x :=
  fun x => iter_sound (step := fun x => f_sl07Tails_n4 x.1 x.2.1 x.2.2.1 x.2.2.2) (fun x h => by
    unfold f_sl07Tails_n4 at h
    exact f_sl07Tails_step4 x.1 x.2.1 x.2.2.1 x.2.2.2 r ((sem_cond h (fun h => (sem_cond h (fun h => f_sl07Tails_go9 r _ h) (fun h => sem_none h))) (fun h => sem_got h fun q => some_eq q)))) FU x
noncomputable def s_sl07Tails (a0 : (List (Int × Int))) : Option (List Int) := (Option.bind (s_sl07Order a0) fun r1 => (cond (decide (0 ≤ ((List.length a0 : Nat) : Int)) && decide (((List.length a0 : Nat) : Int) = ((List.length a0 : Nat) : Int)) && fits ((Int.toNat ((List.length a0 : Nat) : Int)) * 8)) (f_sl07Tails_run4 ((IntKind.wrap .i64 (((List.length r1.1 : Nat) : Int) - 1)), a0, r1.1, (List.replicate (Int.toNat ((List.length a0 : Nat) : Int)) 0))) none))
theorem f_sl07Tails_top (a0 : (List (Int × Int))) (r : List A) : ev f_sl07Tails_X (lpc (cnOf f_sl07Tails_LV) (f_sl07Tails_L r)) f_sl07Tails_c (K0 TT f_sl07Tails_rv) (enter [.lst (.st [(.i .i8), (.i .u16)]) a0]) = (Option.bind (s_sl07Order a0) fun r1 => (cond (decide (0 ≤ ((List.length a0 : Nat) : Int)) && decide (((List.length a0 : Nat) : Int) = ((List.length a0 : Nat) : Int)) && fits ((Int.toNat ((List.length a0 : Nat) : Int)) * 8)) (f_sl07Tails_L r 4 (f_sl07Tails_s4 (IntKind.wrap .i64 (((List.length r1.1 : Nat) : Int) - 1)) a0 r1.1 (List.replicate (Int.toNat ((List.length a0 : Nat) : Int)) 0))) none)) := by kernel_rfl
theorem s_sl07Tails_ok (a0 : (List (Int × Int))) (v : (List Int)) (h : s_sl07Tails a0 = some v) : (Option.bind (s_sl07Order a0) fun r1 => (cond (decide (0 ≤ ((List.length a0 : Nat) : Int)) && decide (((List.length a0 : Nat) : Int) = ((List.length a0 : Nat) : Int)) && fits ((Int.toNat ((List.length a0 : Nat) : Int)) * 8)) (f_sl07Tails_L (l_sl07Tails v) 4 (f_sl07Tails_s4 (IntKind.wrap .i64 (((List.length r1.1 : Nat) : Int) - 1)) a0 r1.1 (List.replicate (Int.toNat ((List.length a0 : Nat) : Int)) 0))) none)) = some (l_sl07Tails v) := by
  unfold s_sl07Tails at h
  have go : ∀ r, sem (fun v => r = l_sl07Tails v) ((Option.bind (s_sl07Order a0) fun r1 => (cond (decide (0 ≤ ((List.length a0 : Nat) : Int)) && decide (((List.length a0 : Nat) : Int) = ((List.length a0 : Nat) : Int)) && fits ((Int.toNat ((List.length a0 : Nat) : Int)) * 8)) (f_sl07Tails_run4 ((IntKind.wrap .i64 (((List.length r1.1 : Nat) : Int) - 1)), a0, r1.1, (List.replicate (Int.toNat ((List.length a0 : Nat) : Int)) 0))) none))) → (Option.bind (s_sl07Order a0) fun r1 => (cond (decide (0 ≤ ((List.length a0 : Nat) : Int)) && decide (((List.length a0 : Nat) : Int) = ((List.length a0 : Nat) : Int)) && fits ((Int.toNat ((List.length a0 : Nat) : Int)) * 8)) (f_sl07Tails_L r 4 (f_sl07Tails_s4 (IntKind.wrap .i64 (((List.length r1.1 : Nat) : Int) - 1)) a0 r1.1 (List.replicate (Int.toNat ((List.length a0 : Nat) : Int)) 0))) none)) = some r := fun r h => (sem_bind h fun r1 h => (sem_cond h (fun h => f_sl07Tails_go4 r _ h) (fun h => sem_none h)))
  exact go (l_sl07Tails v) ⟨v, h, rfl⟩
noncomputable def c_sl07Tails : List A → ACall
  | [.lst (.st [(.i .i8), (.i .u16)]) a0] => ⟨(List Int), s_sl07Tails a0, fun r => .one (.lst (.one (.i .i64)) r)⟩
  | _ => ACall.fail
theorem f_sl07Tails_sound : Sound Try.prog 91 c_sl07Tails := by
  refine sound_good f_sl07Tails_ctx f_sl07Tails_LV 1 Try.func91 (c := f_sl07Tails_c) (by kernel_rfl) (rv := f_sl07Tails_rv) (by kernel_rfl) (by kernel_rfl) (by kernel_rfl) (by kernel_rfl) fun rs => ?_
  unfold c_sl07Tails
  split
  · rename_i a0; intro v h; exact ⟨rfl, l_sl07Tails v, rfl, (f_sl07Tails_top a0 _).trans (s_sl07Tails_ok a0 v h)⟩
  · intro v h; cases h

/-! ### function 94: loop.example/g01322/spec.l07Longest -/
noncomputable def f_sl07Longest_c : Code := match Try.f94.body with | some c => c | none => .skip
noncomputable def f_sl07Longest_X : Ctx := ⟨TT, phiOf [(149, c_sl00Max), (91, c_sl07Tails)], noPsi⟩
def f_sl07Longest_LV : List (Nat × Keep) := [(4, ([3, 4, 5], [], []))]
def f_sl07Longest_rv : List ResultVar := [.tmp 2]
noncomputable def f_sl07Longest_L (r : List A) : Nat → AS → Option (List A) := L f_sl07Longest_X (cnOf f_sl07Longest_LV) f_sl07Longest_c (K0 TT f_sl07Longest_rv) r
theorem f_sl07Longest_ctx : CtxOK Try.prog f_sl07Longest_X := ctx_of tab mix ⟨⟨Try.call149, f_sl00Max_sound⟩, ⟨Try.call91, f_sl07Tails_sound⟩, trivial⟩
noncomputable def f_sl07Longest_s4 (x0 : Int) (x1 : Int) (x2 : (List Int)) : AS := ⟨[(3, .a (.sl 0)), (4, .a (.v (.int .i64 x0))), (5, .a (.v (.int .i64 x1)))], [(0, some ⟨true, .arr (.one (.i .i64)) x2⟩)], 1⟩
noncomputable def l_sl07Longest (r : Int) : List A := [.v (.int .i64 r)]
theorem f_sl07Longest_step4 (x0 : Int) (x1 : Int) (x2 : (List Int)) (r : List A) (h : (cond (decide (x1 < ((List.length x2 : Nat) : Int))) (cond (inB x1 (List.length x2)) (f_sl07Longest_L r 4 (f_sl07Longest_s4 (s_sl00Max x0 (List.getD x2 (Int.toNat x1) 0)) (IntKind.wrap .i64 (x1 + 1)) x2)) none) (some [.v (.int .i64 x0)])) = some r) : f_sl07Longest_L r 4 (f_sl07Longest_s4 x0 x1 x2) = some r :=
  step_of' h (by kernel_rfl)
noncomputable def f_sl07Longest_n4 (x0 : Int) (x1 : Int) (x2 : (List Int)) : Option ((Int × Int × (List Int)) ⊕ Int) := (cond (decide (x1 < ((List.length x2 : Nat) : Int))) (cond (inB x1 (List.length x2)) (some (Sum.inl ((s_sl00Max x0 (List.getD x2 (Int.toNat x1) 0)), (IntKind.wrap .i64 (x1 + 1)), x2))) none) (some (Sum.inr x0)))
noncomputable def f_sl07Longest_run4 (x : (Int × Int × (List Int))) : Option Int := iter (fun x => f_sl07Longest_n4 x.1 x.2.1 x.2.2) FU x
noncomputable def f_sl07Longest_G4 (r : List A) (x : (Int × Int × (List Int))) : Prop := f_sl07Longest_L r 4 (f_sl07Longest_s4 x.1 x.2.1 x.2.2) = some r
noncomputable def f_sl07Longest_S4 (r : List A) : Int → Prop := fun v => r = l_sl07Longest v
theorem f_sl07Longest_go4 (r : List A) : ∀ x, sem (f_sl07Longest_S4 r) (f_sl07Longest_run4 x) → f_sl07Longest_G4 r x :=
  fun x => iter_sound (step := fun x => f_sl07Longest_n4 x.1 x.2.1 x.2.2) (fun x h => by
    unfold f_sl07Longest_n4 at h
    exact f_sl07Longest_step4 x.1 x.2.1 x.2.2 r ((sem_cond h (fun h => (sem_cond h (fun h => sem_got h fun q => q) (fun h => sem_none h))) (fun h => sem_got h fun q => some_eq q)))) FU x
noncomputable def s_sl07Longest (a0 : (List (Int × Int))) : Option Int := (Option.bind (s_sl07Tails a0) fun r1 => (f_sl07Longest_run4 (0, 0, r1)))
theorem f_sl07Longest_top (a0 : (List (Int × Int))) (r : List A) : ev f_sl07Longest_X (lpc (cnOf f_sl07Longest_LV) (f_sl07Longest_L r)) f_sl07Longest_c (K0 TT f_sl07Longest_rv) (enter [.lst (.st [(.i .i8), (.i .u16)]) a0]) = (Option.bind (s_sl07Tails a0) fun r1 => (f_sl07Longest_L r 4 (f_sl07Longest_s4 0 0 r1))) := by kernel_rfl
theorem s_sl07Longest_ok (a0 : (List (Int × Int))) (v : Int) (h : s_sl07Longest a0 = some v) : (Option.bind (s_sl07Tails a0) fun r1 => (f_sl07Longest_L (l_sl07Longest v) 4 (f_sl07Longest_s4 0 0 r1))) = some (l_sl07Longest v) := by
  unfold s_sl07Longest at h
  have go : ∀ r, sem (fun v => r = l_sl07Longest v) ((Option.bind (s_sl07Tails a0) fun r1 => (f_sl07Longest_run4 (0, 0, r1)))) → (Option.bind (s_sl07Tails a0) fun r1 => (f_sl07Longest_L r 4 (f_sl07Longest_s4 0 0 r1))) = some r := fun r h => (sem_bind h fun r1 h => f_sl07Longest_go4 r _ h)
  exact go (l_sl07Longest v) ⟨v, h, rfl⟩
noncomputable def c_sl07Longest : List A → ACall
  | [.lst (.st [(.i .i8), (.i .u16)]) a0] => ⟨Int, s_sl07Longest a0, fun r => .one (.v (.int .i64 r))⟩
  | _ => ACall.fail
theorem f_sl07Longest_sound : Sound Try.prog 94 c_sl07Longest := by
  refine sound_good f_sl07Longest_ctx f_sl07Longest_LV 1 Try.func94 (c := f_sl07Longest_c) (by kernel_rfl) (rv := f_sl07Longest_rv) (by kernel_rfl) (by kernel_rfl) (by kernel_rfl) (by kernel_rfl) fun rs => ?_
  unfold c_sl07Longest
  split
  · rename_i a0; intro v h; exact ⟨rfl, l_sl07Longest v, rfl, (f_sl07Longest_top a0 _).trans (s_sl07Longest_ok a0 v h)⟩
  · intro v h; cases h

/-! ### function 79: loop.example/g01322/spec.l07Bound -/
noncomputable def f_sl07Bound_c : Code := match Try.f79.body with | some c => c | none => .skip
noncomputable def f_sl07Bound_X : Ctx := ⟨TT, phiOf [(149, c_sl00Max), (94, c_sl07Longest)], noPsi⟩
def f_sl07Bound_LV : List (Nat × Keep) := [(3, ([0, 1, 5, 6], [], []))]
def f_sl07Bound_rv : List ResultVar := [.tmp 4]
noncomputable def f_sl07Bound_L (r : List A) : Nat → AS → Option (List A) := L f_sl07Bound_X (cnOf f_sl07Bound_LV) f_sl07Bound_c (K0 TT f_sl07Bound_rv) r
theorem f_sl07Bound_ctx : CtxOK Try.prog f_sl07Bound_X := ctx_of tab mix ⟨⟨Try.call149, f_sl00Max_sound⟩, ⟨Try.call94, f_sl07Longest_sound⟩, trivial⟩
noncomputable def f_sl07Bound_s3 (x0 : Int) (x1 : Int) (x2 : Int) (x3 : (List (Int × Int))) : AS := ⟨[(0, .a (.sl 0)), (1, .a (.v (.int .i64 x0))), (5, .a (.v (.int .i64 x1))), (6, .a (.v (.int .i64 x2)))], [(0, some ⟨false, .arr (.st [(.i .i8), (.i .u16)]) x3⟩)], 1⟩
noncomputable def l_sl07Bound (r : Int) : List A := [.v (.int .i64 r)]
theorem f_sl07Bound_step3 (x0 : Int) (x1 : Int) (x2 : Int) (x3 : (List (Int × Int))) (r : List A) (h : (cond (decide (x2 < ((List.length x3 : Nat) : Int))) (cond (inB x2 (List.length x3)) (f_sl07Bound_L r 3 (f_sl07Bound_s3 x0 (IntKind.wrap .i64 (x1 + (IntKind.wrap .i64 (List.getD x3 (Int.toNat x2) ((0, 0) : (Int × Int))).1))) (IntKind.wrap .i64 (x2 + 1)) x3)) none) (Option.bind (s_sl07Longest x3) fun r1 => (cond (decide (x0 = 0)) none (some [.v (.int .i64 (s_sl00Max r1 (IntKind.wrap .i64 (Int.tdiv (IntKind.wrap .i64 ((IntKind.wrap .i64 (x1 + x0)) - 1)) x0))))])))) = some r) : f_sl07Bound_L r 3 (f_sl07Bound_s3 x0 x1 x2 x3) = some r :=
  step_of' h (by kernel_rfl)
noncomputable def f_sl07Bound_n3 (x0 : Int) (x1 : Int) (x2 : Int) (x3 : (List (Int × Int))) : Option ((Int × Int × Int × (List (Int × Int))) ⊕ Int) := (cond (decide (x2 < ((List.length x3 : Nat) : Int))) (cond (inB x2 (List.length x3)) (some (Sum.inl (x0, (IntKind.wrap .i64 (x1 + (IntKind.wrap .i64 (List.getD x3 (Int.toNat x2) ((0, 0) : (Int × Int))).1))), (IntKind.wrap .i64 (x2 + 1)), x3))) none) (Option.bind (s_sl07Longest x3) fun r1 => (cond (decide (x0 = 0)) none (some (Sum.inr (s_sl00Max r1 (IntKind.wrap .i64 (Int.tdiv (IntKind.wrap .i64 ((IntKind.wrap .i64 (x1 + x0)) - 1)) x0))))))))
noncomputable def f_sl07Bound_run3 (x : (Int × Int × Int × (List (Int × Int)))) : Option Int := iter (fun x => f_sl07Bound_n3 x.1 x.2.1 x.2.2.1 x.2.2.2) FU x
noncomputable def f_sl07Bound_G3 (r : List A) (x : (Int × Int × Int × (List (Int × Int)))) : Prop := f_sl07Bound_L r 3 (f_sl07Bound_s3 x.1 x.2.1 x.2.2.1 x.2.2.2) = some r
noncomputable def f_sl07Bound_S3 (r : List A) : Int → Prop := fun v => r = l_sl07Bound v
theorem f_sl07Bound_go3 (r : List A) : ∀ x, sem (f_sl07Bound_S3 r) (f_sl07Bound_run3 x) → f_sl07Bound_G3 r x :=
  fun x => iter_sound (step := fun x => f_sl07Bound_n3 x.1 x.2.1 x.2.2.1 x.2.2.2) (fun x h => by
    unfold f_sl07Bound_n3 at h
    exact f_sl07Bound_step3 x.1 x.2.1 x.2.2.1 x.2.2.2 r ((sem_cond h (fun h => (sem_cond h (fun h => sem_got h fun q => q) (fun h => sem_none h))) (fun h => (sem_bind h fun r1 h => (sem_cond h (fun h => sem_none h) (fun h => sem_got h fun q => some_eq q))))))) FU x
noncomputable def s_sl07Bound (a0 : (List (Int × Int))) (a1 : Int) : Option Int := (f_sl07Bound_run3 (a1, 0, 0, a0))
theorem f_sl07Bound_top (a0 : (List (Int × Int))) (a1 : Int) (r : List A) : ev f_sl07Bound_X (lpc (cnOf f_sl07Bound_LV) (f_sl07Bound_L r)) f_sl07Bound_c (K0 TT f_sl07Bound_rv) (enter [.lst (.st [(.i .i8), (.i .u16)]) a0, .v (.int .i64 a1)]) = (f_sl07Bound_L r 3 (f_sl07Bound_s3 a1 0 0 a0)) := by kernel_rfl
theorem s_sl07Bound_ok (a0 : (List (Int × Int))) (a1 : Int) (v : Int) (h : s_sl07Bound a0 a1 = some v) : (f_sl07Bound_L (l_sl07Bound v) 3 (f_sl07Bound_s3 a1 0 0 a0)) = some (l_sl07Bound v) := by
  unfold s_sl07Bound at h
  have go : ∀ r, sem (fun v => r = l_sl07Bound v) ((f_sl07Bound_run3 (a1, 0, 0, a0))) → (f_sl07Bound_L r 3 (f_sl07Bound_s3 a1 0 0 a0)) = some r := fun r h => f_sl07Bound_go3 r _ h
  exact go (l_sl07Bound v) ⟨v, h, rfl⟩
noncomputable def c_sl07Bound : List A → ACall
  | [.lst (.st [(.i .i8), (.i .u16)]) a0, .v (.int .i64 a1)] => ⟨Int, s_sl07Bound a0 a1, fun r => .one (.v (.int .i64 r))⟩
  | _ => ACall.fail
theorem f_sl07Bound_sound : Sound Try.prog 79 c_sl07Bound := by
  refine sound_good f_sl07Bound_ctx f_sl07Bound_LV 2 Try.func79 (c := f_sl07Bound_c) (by kernel_rfl) (rv := f_sl07Bound_rv) (by kernel_rfl) (by kernel_rfl) (by kernel_rfl) (by kernel_rfl) fun rs => ?_
  unfold c_sl07Bound
  split
  · rename_i a0 a1; intro v h; exact ⟨rfl, l_sl07Bound v, rfl, (f_sl07Bound_top a0 a1 _).trans (s_sl07Bound_ok a0 a1 v h)⟩
  · intro v h; cases h

/-! ### function 20: loop.example/g01322/spec.BoundFor -/
noncomputable def f_sBoundFor_c : Code := match Try.f20.body with | some c => c | none => .skip
noncomputable def f_sBoundFor_X : Ctx := ⟨TT, phiOf [(78, c_sl07Asked), (79, c_sl07Bound)], noPsi⟩
def f_sBoundFor_LV : List (Nat × Keep) := []
def f_sBoundFor_rv : List ResultVar := [.tmp 4, .tmp 5]
noncomputable def f_sBoundFor_L (r : List A) : Nat → AS → Option (List A) := L f_sBoundFor_X (cnOf f_sBoundFor_LV) f_sBoundFor_c (K0 TT f_sBoundFor_rv) r
theorem f_sBoundFor_ctx : CtxOK Try.prog f_sBoundFor_X := ctx_of tab mix ⟨⟨Try.call78, f_sl07Asked_sound⟩, ⟨Try.call79, f_sl07Bound_sound⟩, trivial⟩
noncomputable def s_sBoundFor (a0 : (List (Int × Int))) (a1 : Int) : Option (Int × Int) := (Option.bind (s_sl07Asked a0 a1) fun r1 => (cond (r1 != 0) (some (0, r1)) (Option.bind (s_sl07Bound a0 a1) fun r2 => (some (r2, 0)))))
theorem f_sBoundFor_top (a0 : (List (Int × Int))) (a1 : Int) (r : List A) : ev f_sBoundFor_X (lpc (cnOf f_sBoundFor_LV) (f_sBoundFor_L r)) f_sBoundFor_c (K0 TT f_sBoundFor_rv) (enter [.lst (.st [(.i .i8), (.i .u16)]) a0, .v (.int .i64 a1)]) = (Option.bind (s_sl07Asked a0 a1) fun r1 => (cond (r1 != 0) (some [.v (.int .i64 0), .v (.int .i64 r1)]) (Option.bind (s_sl07Bound a0 a1) fun r2 => (some [.v (.int .i64 r2), .v (.int .i64 0)])))) := by kernel_rfl
noncomputable def l_sBoundFor (r : (Int × Int)) : List A := [.v (.int .i64 r.1), .v (.int .i64 r.2)]
theorem s_sBoundFor_ok (a0 : (List (Int × Int))) (a1 : Int) (v : (Int × Int)) (h : s_sBoundFor a0 a1 = some v) : (Option.bind (s_sl07Asked a0 a1) fun r1 => (cond (r1 != 0) (some [.v (.int .i64 0), .v (.int .i64 r1)]) (Option.bind (s_sl07Bound a0 a1) fun r2 => (some [.v (.int .i64 r2), .v (.int .i64 0)])))) = some (l_sBoundFor v) := by
  have e : (Option.bind (s_sl07Asked a0 a1) fun r1 => (cond (r1 != 0) (some [.v (.int .i64 0), .v (.int .i64 r1)]) (Option.bind (s_sl07Bound a0 a1) fun r2 => (some [.v (.int .i64 r2), .v (.int .i64 0)])))) = Option.map l_sBoundFor (s_sBoundFor a0 a1) := by
    unfold s_sBoundFor
    exact (bind_app fun _ => (cond_app (Option.map l_sBoundFor) rfl (bind_app fun _ => rfl)))
  rw [e, h]; rfl
noncomputable def c_sBoundFor : List A → ACall
  | [.lst (.st [(.i .i8), (.i .u16)]) a0, .v (.int .i64 a1)] => ⟨(Int × Int), s_sBoundFor a0 a1, fun r => .tup [.v (.int .i64 r.1), .v (.int .i64 r.2)]⟩
  | _ => ACall.fail
theorem f_sBoundFor_sound : Sound Try.prog 20 c_sBoundFor := by
  refine sound_good f_sBoundFor_ctx f_sBoundFor_LV 2 Try.func20 (c := f_sBoundFor_c) (by kernel_rfl) (rv := f_sBoundFor_rv) (by kernel_rfl) (by kernel_rfl) (by kernel_rfl) (by kernel_rfl) fun rs => ?_
  unfold c_sBoundFor
  split
  · rename_i a0 a1; intro v h; exact ⟨rfl, l_sBoundFor v, rfl, (f_sBoundFor_top a0 a1 _).trans (s_sBoundFor_ok a0 a1 v h)⟩
  · intro v h; cases h

/-! ### function 93: loop.example/g01322/impl.tails -/
noncomputable def f_itails_c : Code := match Try.f93.body with | some c => c | none => .skip
noncomputable def f_itails_X : Ctx := ⟨TT, phiOf [(152, c_iorder), (99, c_iJob_waits)], (psiOf [(156, u_gReverse_int64)])⟩
def f_itails_LV : List (Nat × Keep) := [(4, ([0, 3, 15, 16, 17], [], [])), (7, ([0, 3, 6, 15, 16, 17, 22, 23], [], []))]
def f_itails_rv : List ResultVar := [.tmp 2]
noncomputable def f_itails_L (r : List A) : Nat → AS → Option (List A) := L f_itails_X (cnOf f_itails_LV) f_itails_c (K0 TT f_itails_rv) r
theorem f_itails_ctx : CtxOK Try.prog f_itails_X := ctx_ofU tab mix (l := [(152, c_iorder), (99, c_iJob_waits)]) ⟨⟨Try.call152, f_iorder_sound⟩, ⟨Try.call99, f_iJob_waits_sound⟩, trivial⟩ (psi_ok (l := [(156, u_gReverse_int64)]) ⟨⟨Try.call156, f_gReverse_int64_sound⟩, trivial⟩)
noncomputable def f_itails_s4 (x0 : Int) (x1 : Int) (x2 : (List (Int × Int))) (x3 : (List Int)) (x4 : (List Int)) : AS := ⟨[(0, .a (.sl 0)), (3, .a (.sl 1)), (15, .a (.sl 2)), (16, .a (.v (.int .i64 x0))), (17, .a (.v (.int .i64 x1)))], [(0, some ⟨false, .arr (.st [(.i .i8), (.i .u16)]) x2⟩), (1, some ⟨true, .arr (.one (.i .i64)) x3⟩), (2, some ⟨true, .arr (.one (.i .i64)) x4⟩)], 3⟩
noncomputable def f_itails_s7 (x0 : Int) (x1 : Int) (x2 : Int) (x3 : Int) (x4 : Int) (x5 : (List (Int × Int))) (x6 : (List Int)) (x7 : (List Int)) : AS := ⟨[(0, .a (.sl 0)), (3, .a (.sl 1)), (6, .a (.v (.int .i64 x0))), (15, .a (.sl 2)), (16, .a (.v (.int .i64 x1))), (17, .a (.v (.int .i64 x2))), (22, .a (.v (.int .i64 x3))), (23, .a (.v (.int .i64 x4)))], [(0, some ⟨false, .arr (.st [(.i .i8), (.i .u16)]) x5⟩), (1, some ⟨true, .arr (.one (.i .i64)) x6⟩), (2, some ⟨true, .arr (.one (.i .i64)) x7⟩)], 3⟩
noncomputable def l_itails (r : (List Int)) : List A := [.lst (.one (.i .i64)) r]
theorem f_itails_step7 (x0 : Int) (x1 : Int) (x2 : Int) (x3 : Int) (x4 : Int) (x5 : (List (Int × Int))) (x6 : (List Int)) (x7 : (List Int)) (r : List A) (h : (cond (decide (x4 < x3)) (cond (inB x4 (List.length x5)) (Option.bind (s_iJob_waits (List.getD x5 (Int.toNat x4) ((0, 0) : (Int × Int))).1 (List.getD x5 (Int.toNat x4) ((0, 0) : (Int × Int))).2 x0) fun r3 => (cond r3 (cond (inB x0 (List.length x6)) (cond (inB x4 (List.length x6)) (cond (inB x0 (List.length x6)) (f_itails_L r 7 (f_itails_s7 x0 x1 x2 x3 (IntKind.wrap .i64 (x4 + 1)) x5 (List.set x6 (Int.toNat x0) (max (List.getD x6 (Int.toNat x0) 0) (List.getD x6 (Int.toNat x4) 0))) x7)) none) none) none) (f_itails_L r 7 (f_itails_s7 x0 x1 x2 x3 (IntKind.wrap .i64 (x4 + 1)) x5 x6 x7)))) none) (cond (inB x0 (List.length x6)) (cond (inB x0 (List.length x5)) (cond (inB x0 (List.length x6)) (f_itails_L r 4 (f_itails_s4 x1 (IntKind.wrap .i64 (x2 + 1)) x5 (List.set x6 (Int.toNat x0) (IntKind.wrap .i64 ((List.getD x6 (Int.toNat x0) 0) + (IntKind.wrap .i64 (List.getD x5 (Int.toNat x0) ((0, 0) : (Int × Int))).1)))) x7)) none) none) none)) = some r) : f_itails_L r 7 (f_itails_s7 x0 x1 x2 x3 x4 x5 x6 x7) = some r :=
  step_of' h (by kernel_rfl)
noncomputable def f_itails_n7 (x0 : Int) (x1 : Int) (x2 : Int) (x3 : Int) (x4 : Int) (x5 : (List (Int × Int))) (x6 : (List Int)) (x7 : (List Int)) : Option ((Int × Int × Int × Int × Int × (List (Int × Int)) × (List Int) × (List Int)) ⊕ ((Int × Int × (List (Int × Int)) × (List Int) × (List Int)) ⊕ (List Int))) := (cond (decide (x4 < x3)) (cond (inB x4 (List.length x5)) (Option.bind (s_iJob_waits (List.getD x5 (Int.toNat x4) ((0, 0) : (Int × Int))).1 (List.getD x5 (Int.toNat x4) ((0, 0) : (Int × Int))).2 x0) fun r3 => (cond r3 (cond (inB x0 (List.length x6)) (cond (inB x4 (List.length x6)) (cond (inB x0 (List.length x6)) (some (Sum.inl (x0, x1, x2, x3, (IntKind.wrap .i64 (x4 + 1)), x5, (List.set x6 (Int.toNat x0) (max (List.getD x6 (Int.toNat x0) 0) (List.getD x6 (Int.toNat x4) 0))), x7))) none) none) none) (some (Sum.inl (x0, x1, x2, x3, (IntKind.wrap .i64 (x4 + 1)), x5, x6, x7))))) none) (cond (inB x0 (List.length x6)) (cond (inB x0 (List.length x5)) (cond (inB x0 (List.length x6)) (some (Sum.inr (Sum.inl (x1, (IntKind.wrap .i64 (x2 + 1)), x5, (List.set x6 (Int.toNat x0) (IntKind.wrap .i64 ((List.getD x6 (Int.toNat x0) 0) + (IntKind.wrap .i64 (List.getD x5 (Int.toNat x0) ((0, 0) : (Int × Int))).1)))), x7)))) none) none) none))
noncomputable def f_itails_run7 (x : (Int × Int × Int × Int × Int × (List (Int × Int)) × (List Int) × (List Int))) : Option ((Int × Int × (List (Int × Int)) × (List Int) × (List Int)) ⊕ (List Int)) := iter (fun x => f_itails_n7 x.1 x.2.1 x.2.2.1 x.2.2.2.1 x.2.2.2.2.1 x.2.2.2.2.2.1 x.2.2.2.2.2.2.1 x.2.2.2.2.2.2.2) FU x
noncomputable def f_itails_G7 (r : List A) (x : (Int × Int × Int × Int × Int × (List (Int × Int)) × (List Int) × (List Int))) : Prop := f_itails_L r 7 (f_itails_s7 x.1 x.2.1 x.2.2.1 x.2.2.2.1 x.2.2.2.2.1 x.2.2.2.2.2.1 x.2.2.2.2.2.2.1 x.2.2.2.2.2.2.2) = some r
theorem f_itails_step4 (x0 : Int) (x1 : Int) (x2 : (List (Int × Int))) (x3 : (List Int)) (x4 : (List Int)) (r : List A) (h : (cond (decide (x1 < x0)) (cond (inB x1 (List.length x4)) (f_itails_L r 7 (f_itails_s7 (List.getD x4 (Int.toNat x1) 0) x0 x1 ((List.length x2 : Nat) : Int) 0 x2 x3 x4)) none) (some [.lst (.one (.i .i64)) x3])) = some r) : f_itails_L r 4 (f_itails_s4 x0 x1 x2 x3 x4) = some r :=
  step_of' h (by kernel_rfl)
noncomputable def f_itails_n4 (x0 : Int) (x1 : Int) (x2 : (List (Int × Int))) (x3 : (List Int)) (x4 : (List Int)) : Option ((Int × Int × (List (Int × Int)) × (List Int) × (List Int)) ⊕ (List Int)) := (cond (decide (x1 < x0)) (cond (inB x1 (List.length x4)) (f_itails_run7 ((List.getD x4 (Int.toNat x1) 0), x0, x1, ((List.length x2 : Nat) : Int), 0, x2, x3, x4)) none) (some (Sum.inr x3)))
noncomputable def f_itails_run4 (x : (Int × Int × (List (Int × Int)) × (List Int) × (List Int))) : Option (List Int) := iter (fun x => f_itails_n4 x.1 x.2.1 x.2.2.1 x.2.2.2.1 x.2.2.2.2) FU x
noncomputable def f_itails_G4 (r : List A) (x : (Int × Int × (List (Int × Int)) × (List Int) × (List Int))) : Prop := f_itails_L r 4 (f_itails_s4 x.1 x.2.1 x.2.2.1 x.2.2.2.1 x.2.2.2.2) = some r
noncomputable def f_itails_S4 (r : List A) : (List Int) → Prop := fun v => r = l_itails v
noncomputable def f_itails_S7 (r : List A) : ((Int × Int × (List (Int × Int)) × (List Int) × (List Int)) ⊕ (List Int)) → Prop := goesOn (f_itails_G4 r) (f_itails_S4 r)
theorem f_itails_go7 (r : List A) : ∀ x, sem (f_itails_S7 r) (f_itails_run7 x) → f_itails_G7 r x :=
  fun x => iter_sound (step := fun x => f_itails_n7 x.1 x.2.1 x.2.2.1 x.2.2.2.1 x.2.2.2.2.1 x.2.2.2.2.2.1 x.2.2.2.2.2.2.1 x.2.2.2.2.2.2.2) (fun x h => by
    unfold f_itails_n7 at h
    exact f_itails_step7 x.1 x.2.1 x.2.2.1 x.2.2.2.1 x.2.2.2.2.1 x.2.2.2.2.2.1 x.2.2.2.2.2.2.1 x.2.2.2.2.2.2.2 r ((sem_cond h (fun h => (sem_cond h (fun h => (sem_bind h fun r3 h => (sem_cond h (fun h => (sem_cond h (fun h => (sem_cond h (fun h => (sem_cond h (fun h => sem_got h fun q => q) (fun h => sem_none h))) (fun h => sem_none h))) (fun h => sem_none h))) (fun h => sem_got h fun q => q)))) (fun h => sem_none h))) (fun h => (sem_cond h (fun h => (sem_cond h (fun h => (sem_cond h (fun h => sem_got h fun q => q) (fun h => sem_none h))) (fun h => sem_none h))) (fun h => sem_none h)))))) FU x
theorem f_itails_go4 (r : List A) : ∀ x, sem (f_itails_S4 r) (f_itails_run4 x) → f_itails_G4 r x :=
  fun x => iter_sound (step := fun x => f_itails_n4 x.1 x.2.1 x.2.2.1 x.2.2.2.1 x.2.2.2.2) (fun x h => by
    unfold f_itails_n4 at h
    exact f_itails_step4 x.1 x.2.1 x.2.2.1 x.2.2.2.1 x.2.2.2.2 r ((sem_cond h (fun h => (sem_cond h (fun h => f_itails_go7 r _ h) (fun h => sem_none h))) (fun h => sem_got h fun q => some_eq q)))) FU x
noncomputable def s_itails (a0 : (List (Int × Int))) : Option (List Int) := (cond (decide (0 ≤ ((List.length a0 : Nat) : Int)) && decide (((List.length a0 : Nat) : Int) = ((List.length a0 : Nat) : Int)) && fits ((Int.toNat ((List.length a0 : Nat) : Int)) * 8)) (Option.bind (s_iorder a0) fun r1 => (Option.bind (s_gReverse_int64 r1) fun r2 => (f_itails_run4 (((List.length (r2) : Nat) : Int), 0, a0, (List.replicate (Int.toNat ((List.length a0 : Nat) : Int)) 0), (r2))))) none)
theorem f_itails_top (a0 : (List (Int × Int))) (r : List A) : ev f_itails_X (lpc (cnOf f_itails_LV) (f_itails_L r)) f_itails_c (K0 TT f_itails_rv) (enter [.lst (.st [(.i .i8), (.i .u16)]) a0]) = (cond (decide (0 ≤ ((List.length a0 : Nat) : Int)) && decide (((List.length a0 : Nat) : Int) = ((List.length a0 : Nat) : Int)) && fits ((Int.toNat ((List.length a0 : Nat) : Int)) * 8)) (Option.bind (s_iorder a0) fun r1 => (Option.bind (s_gReverse_int64 r1) fun r2 => (f_itails_L r 4 (f_itails_s4 ((List.length (r2) : Nat) : Int) 0 a0 (List.replicate (Int.toNat ((List.length a0 : Nat) : Int)) 0) (r2))))) none) := by kernel_rfl
theorem s_itails_ok (a0 : (List (Int × Int))) (v : (List Int)) (h : s_itails a0 = some v) : (cond (decide (0 ≤ ((List.length a0 : Nat) : Int)) && decide (((List.length a0 : Nat) : Int) = ((List.length a0 : Nat) : Int)) && fits ((Int.toNat ((List.length a0 : Nat) : Int)) * 8)) (Option.bind (s_iorder a0) fun r1 => (Option.bind (s_gReverse_int64 r1) fun r2 => (f_itails_L (l_itails v) 4 (f_itails_s4 ((List.length (r2) : Nat) : Int) 0 a0 (List.replicate (Int.toNat ((List.length a0 : Nat) : Int)) 0) (r2))))) none) = some (l_itails v) := by
  unfold s_itails at h
  have go : ∀ r, sem (fun v => r = l_itails v) ((cond (decide (0 ≤ ((List.length a0 : Nat) : Int)) && decide (((List.length a0 : Nat) : Int) = ((List.length a0 : Nat) : Int)) && fits ((Int.toNat ((List.length a0 : Nat) : Int)) * 8)) (Option.bind (s_iorder a0) fun r1 => (Option.bind (s_gReverse_int64 r1) fun r2 => (f_itails_run4 (((List.length (r2) : Nat) : Int), 0, a0, (List.replicate (Int.toNat ((List.length a0 : Nat) : Int)) 0), (r2))))) none)) → (cond (decide (0 ≤ ((List.length a0 : Nat) : Int)) && decide (((List.length a0 : Nat) : Int) = ((List.length a0 : Nat) : Int)) && fits ((Int.toNat ((List.length a0 : Nat) : Int)) * 8)) (Option.bind (s_iorder a0) fun r1 => (Option.bind (s_gReverse_int64 r1) fun r2 => (f_itails_L r 4 (f_itails_s4 ((List.length (r2) : Nat) : Int) 0 a0 (List.replicate (Int.toNat ((List.length a0 : Nat) : Int)) 0) (r2))))) none) = some r := fun r h => (sem_cond h (fun h => (sem_bind h fun r1 h => (sem_bind h fun r2 h => f_itails_go4 r _ h))) (fun h => sem_none h))
  exact go (l_itails v) ⟨v, h, rfl⟩
noncomputable def c_itails : List A → ACall
  | [.lst (.st [(.i .i8), (.i .u16)]) a0] => ⟨(List Int), s_itails a0, fun r => .one (.lst (.one (.i .i64)) r)⟩
  | _ => ACall.fail
theorem f_itails_sound : Sound Try.prog 93 c_itails := by
  refine sound_good f_itails_ctx f_itails_LV 1 Try.func93 (c := f_itails_c) (by kernel_rfl) (rv := f_itails_rv) (by kernel_rfl) (by kernel_rfl) (by kernel_rfl) (by kernel_rfl) fun rs => ?_
  unfold c_itails
  split
  · rename_i a0; intro v h; exact ⟨rfl, l_itails v, rfl, (f_itails_top a0 _).trans (s_itails_ok a0 v h)⟩
  · intro v h; cases h

/-! ### function 92: loop.example/g01322/impl.longest -/
noncomputable def f_ilongest_c : Code := match Try.f92.body with | some c => c | none => .skip
noncomputable def f_ilongest_X : Ctx := ⟨TT, phiOf [(93, c_itails)], noPsi⟩
def f_ilongest_LV : List (Nat × Keep) := [(3, ([3, 7, 8, 9], [], []))]
def f_ilongest_rv : List ResultVar := [.tmp 2]
noncomputable def f_ilongest_L (r : List A) : Nat → AS → Option (List A) := L f_ilongest_X (cnOf f_ilongest_LV) f_ilongest_c (K0 TT f_ilongest_rv) r
theorem f_ilongest_ctx : CtxOK Try.prog f_ilongest_X := ctx_of tab mix ⟨⟨Try.call93, f_itails_sound⟩, trivial⟩
noncomputable def f_ilongest_s3 (x0 : Int) (x1 : Int) (x2 : Int) (x3 : (List Int)) : AS := ⟨[(3, .a (.v (.int .i64 x0))), (7, .a (.sl 0)), (8, .a (.v (.int .i64 x1))), (9, .a (.v (.int .i64 x2)))], [(0, some ⟨true, .arr (.one (.i .i64)) x3⟩)], 1⟩
noncomputable def l_ilongest (r : Int) : List A := [.v (.int .i64 r)]
theorem f_ilongest_step3 (x0 : Int) (x1 : Int) (x2 : Int) (x3 : (List Int)) (r : List A) (h : (cond (decide (x2 < x1)) (cond (inB x2 (List.length x3)) (f_ilongest_L r 3 (f_ilongest_s3 (max x0 (List.getD x3 (Int.toNat x2) 0)) x1 (IntKind.wrap .i64 (x2 + 1)) x3)) none) (some [.v (.int .i64 x0)])) = some r) : f_ilongest_L r 3 (f_ilongest_s3 x0 x1 x2 x3) = some r :=
  step_of' h (by kernel_rfl)
noncomputable def f_ilongest_n3 (x0 : Int) (x1 : Int) (x2 : Int) (x3 : (List Int)) : Option ((Int × Int × Int × (List Int)) ⊕ Int) := (cond (decide (x2 < x1)) (cond (inB x2 (List.length x3)) (some (Sum.inl ((max x0 (List.getD x3 (Int.toNat x2) 0)), x1, (IntKind.wrap .i64 (x2 + 1)), x3))) none) (some (Sum.inr x0)))
noncomputable def f_ilongest_run3 (x : (Int × Int × Int × (List Int))) : Option Int := iter (fun x => f_ilongest_n3 x.1 x.2.1 x.2.2.1 x.2.2.2) FU x
noncomputable def f_ilongest_G3 (r : List A) (x : (Int × Int × Int × (List Int))) : Prop := f_ilongest_L r 3 (f_ilongest_s3 x.1 x.2.1 x.2.2.1 x.2.2.2) = some r
noncomputable def f_ilongest_S3 (r : List A) : Int → Prop := fun v => r = l_ilongest v
theorem f_ilongest_go3 (r : List A) : ∀ x, sem (f_ilongest_S3 r) (f_ilongest_run3 x) → f_ilongest_G3 r x :=
  fun x => iter_sound (step := fun x => f_ilongest_n3 x.1 x.2.1 x.2.2.1 x.2.2.2) (fun x h => by
    unfold f_ilongest_n3 at h
    exact f_ilongest_step3 x.1 x.2.1 x.2.2.1 x.2.2.2 r ((sem_cond h (fun h => (sem_cond h (fun h => sem_got h fun q => q) (fun h => sem_none h))) (fun h => sem_got h fun q => some_eq q)))) FU x
noncomputable def s_ilongest (a0 : (List (Int × Int))) : Option Int := (Option.bind (s_itails a0) fun r1 => (f_ilongest_run3 (0, ((List.length r1 : Nat) : Int), 0, r1)))
theorem f_ilongest_top (a0 : (List (Int × Int))) (r : List A) : ev f_ilongest_X (lpc (cnOf f_ilongest_LV) (f_ilongest_L r)) f_ilongest_c (K0 TT f_ilongest_rv) (enter [.lst (.st [(.i .i8), (.i .u16)]) a0]) = (Option.bind (s_itails a0) fun r1 => (f_ilongest_L r 3 (f_ilongest_s3 0 ((List.length r1 : Nat) : Int) 0 r1))) := by kernel_rfl
theorem s_ilongest_ok (a0 : (List (Int × Int))) (v : Int) (h : s_ilongest a0 = some v) : (Option.bind (s_itails a0) fun r1 => (f_ilongest_L (l_ilongest v) 3 (f_ilongest_s3 0 ((List.length r1 : Nat) : Int) 0 r1))) = some (l_ilongest v) := by
  unfold s_ilongest at h
  have go : ∀ r, sem (fun v => r = l_ilongest v) ((Option.bind (s_itails a0) fun r1 => (f_ilongest_run3 (0, ((List.length r1 : Nat) : Int), 0, r1)))) → (Option.bind (s_itails a0) fun r1 => (f_ilongest_L r 3 (f_ilongest_s3 0 ((List.length r1 : Nat) : Int) 0 r1))) = some r := fun r h => (sem_bind h fun r1 h => f_ilongest_go3 r _ h)
  exact go (l_ilongest v) ⟨v, h, rfl⟩
noncomputable def c_ilongest : List A → ACall
  | [.lst (.st [(.i .i8), (.i .u16)]) a0] => ⟨Int, s_ilongest a0, fun r => .one (.v (.int .i64 r))⟩
  | _ => ACall.fail
theorem f_ilongest_sound : Sound Try.prog 92 c_ilongest := by
  refine sound_good f_ilongest_ctx f_ilongest_LV 1 Try.func92 (c := f_ilongest_c) (by kernel_rfl) (rv := f_ilongest_rv) (by kernel_rfl) (by kernel_rfl) (by kernel_rfl) (by kernel_rfl) fun rs => ?_
  unfold c_ilongest
  split
  · rename_i a0; intro v h; exact ⟨rfl, l_ilongest v, rfl, (f_ilongest_top a0 _).trans (s_ilongest_ok a0 v h)⟩
  · intro v h; cases h

/-! ### function 83: loop.example/g01322/impl.bound -/
noncomputable def f_ibound_c : Code := match Try.f83.body with | some c => c | none => .skip
noncomputable def f_ibound_X : Ctx := ⟨TT, phiOf [(92, c_ilongest)], noPsi⟩
def f_ibound_LV : List (Nat × Keep) := [(3, ([0, 1, 5, 8, 9, 10], [], []))]
def f_ibound_rv : List ResultVar := [.tmp 4]
noncomputable def f_ibound_L (r : List A) : Nat → AS → Option (List A) := L f_ibound_X (cnOf f_ibound_LV) f_ibound_c (K0 TT f_ibound_rv) r
theorem f_ibound_ctx : CtxOK Try.prog f_ibound_X := ctx_of tab mix ⟨⟨Try.call92, f_ilongest_sound⟩, trivial⟩
noncomputable def f_ibound_s3 (x0 : Int) (x1 : Int) (x2 : Int) (x3 : Int) (x4 : (List (Int × Int))) : AS := ⟨[(0, .a (.sl 0)), (1, .a (.v (.int .i64 x0))), (5, .a (.v (.int .i64 x1))), (8, .a (.sl 0)), (9, .a (.v (.int .i64 x2))), (10, .a (.v (.int .i64 x3)))], [(0, some ⟨false, .arr (.st [(.i .i8), (.i .u16)]) x4⟩)], 1⟩
noncomputable def l_ibound (r : Int) : List A := [.v (.int .i64 r)]
theorem f_ibound_step3 (x0 : Int) (x1 : Int) (x2 : Int) (x3 : Int) (x4 : (List (Int × Int))) (r : List A) (h : (cond (decide (x3 < x2)) (cond (inB x3 (List.length x4)) (f_ibound_L r 3 (f_ibound_s3 x0 (IntKind.wrap .i64 (x1 + (IntKind.wrap .i64 (List.getD x4 (Int.toNat x3) ((0, 0) : (Int × Int))).1))) x2 (IntKind.wrap .i64 (x3 + 1)) x4)) none) (Option.bind (s_ilongest x4) fun r1 => (cond (decide (x0 = 0)) none (some [.v (.int .i64 (max r1 (IntKind.wrap .i64 (Int.tdiv (IntKind.wrap .i64 ((IntKind.wrap .i64 (x1 + x0)) - 1)) x0))))])))) = some r) : f_ibound_L r 3 (f_ibound_s3 x0 x1 x2 x3 x4) = some r :=
  step_of' h (by kernel_rfl)
noncomputable def f_ibound_n3 (x0 : Int) (x1 : Int) (x2 : Int) (x3 : Int) (x4 : (List (Int × Int))) : Option ((Int × Int × Int × Int × (List (Int × Int))) ⊕ Int) := (cond (decide (x3 < x2)) (cond (inB x3 (List.length x4)) (some (Sum.inl (x0, (IntKind.wrap .i64 (x1 + (IntKind.wrap .i64 (List.getD x4 (Int.toNat x3) ((0, 0) : (Int × Int))).1))), x2, (IntKind.wrap .i64 (x3 + 1)), x4))) none) (Option.bind (s_ilongest x4) fun r1 => (cond (decide (x0 = 0)) none (some (Sum.inr (max r1 (IntKind.wrap .i64 (Int.tdiv (IntKind.wrap .i64 ((IntKind.wrap .i64 (x1 + x0)) - 1)) x0))))))))
noncomputable def f_ibound_run3 (x : (Int × Int × Int × Int × (List (Int × Int)))) : Option Int := iter (fun x => f_ibound_n3 x.1 x.2.1 x.2.2.1 x.2.2.2.1 x.2.2.2.2) FU x
noncomputable def f_ibound_G3 (r : List A) (x : (Int × Int × Int × Int × (List (Int × Int)))) : Prop := f_ibound_L r 3 (f_ibound_s3 x.1 x.2.1 x.2.2.1 x.2.2.2.1 x.2.2.2.2) = some r
noncomputable def f_ibound_S3 (r : List A) : Int → Prop := fun v => r = l_ibound v
theorem f_ibound_go3 (r : List A) : ∀ x, sem (f_ibound_S3 r) (f_ibound_run3 x) → f_ibound_G3 r x :=
  fun x => iter_sound (step := fun x => f_ibound_n3 x.1 x.2.1 x.2.2.1 x.2.2.2.1 x.2.2.2.2) (fun x h => by
    unfold f_ibound_n3 at h
    exact f_ibound_step3 x.1 x.2.1 x.2.2.1 x.2.2.2.1 x.2.2.2.2 r ((sem_cond h (fun h => (sem_cond h (fun h => sem_got h fun q => q) (fun h => sem_none h))) (fun h => (sem_bind h fun r1 h => (sem_cond h (fun h => sem_none h) (fun h => sem_got h fun q => some_eq q))))))) FU x
noncomputable def s_ibound (a0 : (List (Int × Int))) (a1 : Int) : Option Int := (f_ibound_run3 (a1, 0, ((List.length a0 : Nat) : Int), 0, a0))
theorem f_ibound_top (a0 : (List (Int × Int))) (a1 : Int) (r : List A) : ev f_ibound_X (lpc (cnOf f_ibound_LV) (f_ibound_L r)) f_ibound_c (K0 TT f_ibound_rv) (enter [.lst (.st [(.i .i8), (.i .u16)]) a0, .v (.int .i64 a1)]) = (f_ibound_L r 3 (f_ibound_s3 a1 0 ((List.length a0 : Nat) : Int) 0 a0)) := by kernel_rfl
theorem s_ibound_ok (a0 : (List (Int × Int))) (a1 : Int) (v : Int) (h : s_ibound a0 a1 = some v) : (f_ibound_L (l_ibound v) 3 (f_ibound_s3 a1 0 ((List.length a0 : Nat) : Int) 0 a0)) = some (l_ibound v) := by
  unfold s_ibound at h
  have go : ∀ r, sem (fun v => r = l_ibound v) ((f_ibound_run3 (a1, 0, ((List.length a0 : Nat) : Int), 0, a0))) → (f_ibound_L r 3 (f_ibound_s3 a1 0 ((List.length a0 : Nat) : Int) 0 a0)) = some r := fun r h => f_ibound_go3 r _ h
  exact go (l_ibound v) ⟨v, h, rfl⟩
noncomputable def c_ibound : List A → ACall
  | [.lst (.st [(.i .i8), (.i .u16)]) a0, .v (.int .i64 a1)] => ⟨Int, s_ibound a0 a1, fun r => .one (.v (.int .i64 r))⟩
  | _ => ACall.fail
theorem f_ibound_sound : Sound Try.prog 83 c_ibound := by
  refine sound_good f_ibound_ctx f_ibound_LV 2 Try.func83 (c := f_ibound_c) (by kernel_rfl) (rv := f_ibound_rv) (by kernel_rfl) (by kernel_rfl) (by kernel_rfl) (by kernel_rfl) fun rs => ?_
  unfold c_ibound
  split
  · rename_i a0 a1; intro v h; exact ⟨rfl, l_ibound v, rfl, (f_ibound_top a0 a1 _).trans (s_ibound_ok a0 a1 v h)⟩
  · intro v h; cases h

/-! ### function 22: loop.example/g01322/impl.BoundFor -/
noncomputable def f_iBoundFor_c : Code := match Try.f22.body with | some c => c | none => .skip
noncomputable def f_iBoundFor_X : Ctx := ⟨TT, phiOf [(73, c_icodeOf), (81, c_iValidJobs), (82, c_iisHands), (83, c_ibound)], noPsi⟩
def f_iBoundFor_LV : List (Nat × Keep) := []
def f_iBoundFor_rv : List ResultVar := [.tmp 4, .tmp 5]
noncomputable def f_iBoundFor_L (r : List A) : Nat → AS → Option (List A) := L f_iBoundFor_X (cnOf f_iBoundFor_LV) f_iBoundFor_c (K0 TT f_iBoundFor_rv) r
theorem f_iBoundFor_ctx : CtxOK Try.prog f_iBoundFor_X := ctx_of tab mix ⟨⟨Try.call73, f_icodeOf_sound⟩, ⟨Try.call81, f_iValidJobs_sound⟩, ⟨Try.call82, f_iisHands_sound⟩, ⟨Try.call83, f_ibound_sound⟩, trivial⟩
noncomputable def s_iBoundFor (a0 : (List (Int × Int))) (a1 : Int) : Option (Int × Int) := (Option.bind (s_iValidJobs a0) fun r1 => (cond ((s_icodeOf r1 (s_iisHands a1)) != 0) (some (0, (s_icodeOf r1 (s_iisHands a1)))) (Option.bind (s_ibound a0 a1) fun r2 => (some (r2, 0)))))
theorem f_iBoundFor_top (a0 : (List (Int × Int))) (a1 : Int) (r : List A) : ev f_iBoundFor_X (lpc (cnOf f_iBoundFor_LV) (f_iBoundFor_L r)) f_iBoundFor_c (K0 TT f_iBoundFor_rv) (enter [.lst (.st [(.i .i8), (.i .u16)]) a0, .v (.int .i64 a1)]) = (Option.bind (s_iValidJobs a0) fun r1 => (cond ((s_icodeOf r1 (s_iisHands a1)) != 0) (some [.v (.int .i64 0), .v (.int .i64 (s_icodeOf r1 (s_iisHands a1)))]) (Option.bind (s_ibound a0 a1) fun r2 => (some [.v (.int .i64 r2), .v (.int .i64 0)])))) := by kernel_rfl
noncomputable def l_iBoundFor (r : (Int × Int)) : List A := [.v (.int .i64 r.1), .v (.int .i64 r.2)]
theorem s_iBoundFor_ok (a0 : (List (Int × Int))) (a1 : Int) (v : (Int × Int)) (h : s_iBoundFor a0 a1 = some v) : (Option.bind (s_iValidJobs a0) fun r1 => (cond ((s_icodeOf r1 (s_iisHands a1)) != 0) (some [.v (.int .i64 0), .v (.int .i64 (s_icodeOf r1 (s_iisHands a1)))]) (Option.bind (s_ibound a0 a1) fun r2 => (some [.v (.int .i64 r2), .v (.int .i64 0)])))) = some (l_iBoundFor v) := by
  have e : (Option.bind (s_iValidJobs a0) fun r1 => (cond ((s_icodeOf r1 (s_iisHands a1)) != 0) (some [.v (.int .i64 0), .v (.int .i64 (s_icodeOf r1 (s_iisHands a1)))]) (Option.bind (s_ibound a0 a1) fun r2 => (some [.v (.int .i64 r2), .v (.int .i64 0)])))) = Option.map l_iBoundFor (s_iBoundFor a0 a1) := by
    unfold s_iBoundFor
    exact (bind_app fun _ => (cond_app (Option.map l_iBoundFor) rfl (bind_app fun _ => rfl)))
  rw [e, h]; rfl
noncomputable def c_iBoundFor : List A → ACall
  | [.lst (.st [(.i .i8), (.i .u16)]) a0, .v (.int .i64 a1)] => ⟨(Int × Int), s_iBoundFor a0 a1, fun r => .tup [.v (.int .i64 r.1), .v (.int .i64 r.2)]⟩
  | _ => ACall.fail
theorem f_iBoundFor_sound : Sound Try.prog 22 c_iBoundFor := by
  refine sound_good f_iBoundFor_ctx f_iBoundFor_LV 2 Try.func22 (c := f_iBoundFor_c) (by kernel_rfl) (rv := f_iBoundFor_rv) (by kernel_rfl) (by kernel_rfl) (by kernel_rfl) (by kernel_rfl) fun rs => ?_
  unfold c_iBoundFor
  split
  · rename_i a0 a1; intro v h; exact ⟨rfl, l_iBoundFor v, rfl, (f_iBoundFor_top a0 a1 _).trans (s_iBoundFor_ok a0 a1 v h)⟩
  · intro v h; cases h

/-! ### function 4: loop.example/g01322/laws.FnExactBoundFor -/
noncomputable def f_wFnExactBoundFor_c : Code := match Try.f4.body with | some c => c | none => .skip
noncomputable def f_wFnExactBoundFor_X : Ctx := ⟨TT, phiOf [(19, c_wszJobS), (20, c_sBoundFor), (21, c_wtoJobS), (22, c_iBoundFor), (23, c_weqJobS)], noPsi⟩
def f_wFnExactBoundFor_LV : List (Nat × Keep) := []
def f_wFnExactBoundFor_rv : List ResultVar := [.tmp 4]
noncomputable def f_wFnExactBoundFor_L (r : List A) : Nat → AS → Option (List A) := L f_wFnExactBoundFor_X (cnOf f_wFnExactBoundFor_LV) f_wFnExactBoundFor_c (K0 TT f_wFnExactBoundFor_rv) r
theorem f_wFnExactBoundFor_ctx : CtxOK Try.prog f_wFnExactBoundFor_X := ctx_of tab mix ⟨⟨Try.call19, f_wszJobS_sound⟩, ⟨Try.call20, f_sBoundFor_sound⟩, ⟨Try.call21, f_wtoJobS_sound⟩, ⟨Try.call22, f_iBoundFor_sound⟩, ⟨Try.call23, f_weqJobS_sound⟩, trivial⟩
noncomputable def s_wFnExactBoundFor (a0 : (List (Int × Int))) (a1 : Int) : Option Bool := (cond (decide ((s_wszJobS a0 1048576) < 0)) (some true) (Option.bind (s_wtoJobS a0) fun r1 => (Option.bind (s_sBoundFor r1 a1) fun r2 => (Option.bind (s_wtoJobS a0) fun r3 => (Option.bind (s_iBoundFor r3 a1) fun r4 => (cond (r4.1 != r2.1) (some false) (cond (r4.2 != r2.2) (some false) (Option.bind (s_wtoJobS a0) fun r5 => (Option.bind (s_weqJobS r3 r5) fun r6 => (cond (!r6) (some false) (some true)))))))))))
theorem f_wFnExactBoundFor_top (a0 : (List (Int × Int))) (a1 : Int) (r : List A) : ev f_wFnExactBoundFor_X (lpc (cnOf f_wFnExactBoundFor_LV) (f_wFnExactBoundFor_L r)) f_wFnExactBoundFor_c (K0 TT f_wFnExactBoundFor_rv) (enter [.lst (.st [(.i .i8), (.i .u16)]) a0, .v (.int .i64 a1)]) = (cond (decide ((s_wszJobS a0 1048576) < 0)) (some [.v (.bool true)]) (Option.bind (s_wtoJobS a0) fun r1 => (Option.bind (s_sBoundFor r1 a1) fun r2 => (Option.bind (s_wtoJobS a0) fun r3 => (Option.bind (s_iBoundFor r3 a1) fun r4 => (cond (r4.1 != r2.1) (some [.v (.bool false)]) (cond (r4.2 != r2.2) (some [.v (.bool false)]) (Option.bind (s_wtoJobS a0) fun r5 => (Option.bind (s_weqJobS r3 r5) fun r6 => (cond (!r6) (some [.v (.bool false)]) (some [.v (.bool true)]))))))))))) := by kernel_rfl
noncomputable def l_wFnExactBoundFor (r : Bool) : List A := [.v (.bool r)]
theorem s_wFnExactBoundFor_ok (a0 : (List (Int × Int))) (a1 : Int) (v : Bool) (h : s_wFnExactBoundFor a0 a1 = some v) : (cond (decide ((s_wszJobS a0 1048576) < 0)) (some [.v (.bool true)]) (Option.bind (s_wtoJobS a0) fun r1 => (Option.bind (s_sBoundFor r1 a1) fun r2 => (Option.bind (s_wtoJobS a0) fun r3 => (Option.bind (s_iBoundFor r3 a1) fun r4 => (cond (r4.1 != r2.1) (some [.v (.bool false)]) (cond (r4.2 != r2.2) (some [.v (.bool false)]) (Option.bind (s_wtoJobS a0) fun r5 => (Option.bind (s_weqJobS r3 r5) fun r6 => (cond (!r6) (some [.v (.bool false)]) (some [.v (.bool true)]))))))))))) = some (l_wFnExactBoundFor v) := by
  have e : (cond (decide ((s_wszJobS a0 1048576) < 0)) (some [.v (.bool true)]) (Option.bind (s_wtoJobS a0) fun r1 => (Option.bind (s_sBoundFor r1 a1) fun r2 => (Option.bind (s_wtoJobS a0) fun r3 => (Option.bind (s_iBoundFor r3 a1) fun r4 => (cond (r4.1 != r2.1) (some [.v (.bool false)]) (cond (r4.2 != r2.2) (some [.v (.bool false)]) (Option.bind (s_wtoJobS a0) fun r5 => (Option.bind (s_weqJobS r3 r5) fun r6 => (cond (!r6) (some [.v (.bool false)]) (some [.v (.bool true)]))))))))))) = Option.map l_wFnExactBoundFor (s_wFnExactBoundFor a0 a1) := by
    unfold s_wFnExactBoundFor
    exact (cond_app (Option.map l_wFnExactBoundFor) rfl (bind_app fun _ => (bind_app fun _ => (bind_app fun _ => (bind_app fun _ => (cond_app (Option.map l_wFnExactBoundFor) rfl (cond_app (Option.map l_wFnExactBoundFor) rfl (bind_app fun _ => (bind_app fun _ => (cond_app (Option.map l_wFnExactBoundFor) rfl rfl))))))))))
  rw [e, h]; rfl
noncomputable def c_wFnExactBoundFor : List A → ACall
  | [.lst (.st [(.i .i8), (.i .u16)]) a0, .v (.int .i64 a1)] => ⟨Bool, s_wFnExactBoundFor a0 a1, fun r => .one (.v (.bool r))⟩
  | _ => ACall.fail
theorem f_wFnExactBoundFor_sound : Sound Try.prog 4 c_wFnExactBoundFor := by
  refine sound_good f_wFnExactBoundFor_ctx f_wFnExactBoundFor_LV 2 Try.func4 (c := f_wFnExactBoundFor_c) (by kernel_rfl) (rv := f_wFnExactBoundFor_rv) (by kernel_rfl) (by kernel_rfl) (by kernel_rfl) (by kernel_rfl) fun rs => ?_
  unfold c_wFnExactBoundFor
  split
  · rename_i a0 a1; intro v h; exact ⟨rfl, l_wFnExactBoundFor v, rfl, (f_wFnExactBoundFor_top a0 a1 _).trans (s_wFnExactBoundFor_ok a0 a1 v h)⟩
  · intro v h; cases h

/-! ### function 29: loop.example/g01322/spec.LatestOf -/
noncomputable def f_sLatestOf_c : Code := match Try.f29.body with | some c => c | none => .skip
noncomputable def f_sLatestOf_X : Ctx := ⟨TT, phiOf [(70, c_sl00In), (85, c_sl07Ok), (91, c_sl07Tails)], noPsi⟩
def f_sLatestOf_LV : List (Nat × Keep) := [(8, ([0, 1, 6, 7, 8], [], []))]
def f_sLatestOf_rv : List ResultVar := [.tmp 4, .tmp 5]
noncomputable def f_sLatestOf_L (r : List A) : Nat → AS → Option (List A) := L f_sLatestOf_X (cnOf f_sLatestOf_LV) f_sLatestOf_c (K0 TT f_sLatestOf_rv) r
theorem f_sLatestOf_ctx : CtxOK Try.prog f_sLatestOf_X := ctx_of tab mix ⟨⟨Try.call70, f_sl00In_sound⟩, ⟨Try.call85, f_sl07Ok_sound⟩, ⟨Try.call91, f_sl07Tails_sound⟩, trivial⟩
noncomputable def f_sLatestOf_s8 (x0 : Int) (x1 : Int) (x2 : (List (Int × Int))) (x3 : (List Int)) (x4 : (List Int)) : AS := ⟨[(0, .a (.sl 0)), (1, .a (.v (.int .i64 x0))), (6, .a (.sl 1)), (7, .a (.sl 2)), (8, .a (.v (.int .i64 x1)))], [(0, some ⟨false, .arr (.st [(.i .i8), (.i .u16)]) x2⟩), (1, some ⟨true, .arr (.one (.i .i64)) x3⟩), (2, some ⟨true, .arr (.one (.i .i64)) x4⟩)], 3⟩
noncomputable def l_sLatestOf (r : ((List Int) × Int)) : List A := [.lst (.one (.i .i64)) r.1, .v (.int .i64 r.2)]
theorem f_sLatestOf_step8 (x0 : Int) (x1 : Int) (x2 : (List (Int × Int))) (x3 : (List Int)) (x4 : (List Int)) (r : List A) (h : (cond (decide (x1 < ((List.length x2 : Nat) : Int))) (cond (inB x1 (List.length x3)) (cond (decide (x0 < (List.getD x3 (Int.toNat x1) 0))) (some [.lst (.one (.i .i64)) [], .v (.int .i64 6)]) (cond (inB x1 (List.length x3)) (cond (fits ((List.length (x4 : List Int) + List.length ([(IntKind.wrap .i64 (x0 - (List.getD x3 (Int.toNat x1) 0)))] : List Int)) * 8)) (f_sLatestOf_L r 8 (f_sLatestOf_s8 x0 (IntKind.wrap .i64 (x1 + 1)) x2 x3 (x4 ++ [(IntKind.wrap .i64 (x0 - (List.getD x3 (Int.toNat x1) 0)))]))) none) none)) none) (some [.lst (.one (.i .i64)) x4, .v (.int .i64 0)])) = some r) : f_sLatestOf_L r 8 (f_sLatestOf_s8 x0 x1 x2 x3 x4) = some r :=
  step_of' h (by kernel_rfl)
noncomputable def f_sLatestOf_n8 (x0 : Int) (x1 : Int) (x2 : (List (Int × Int))) (x3 : (List Int)) (x4 : (List Int)) : Option ((Int × Int × (List (Int × Int)) × (List Int) × (List Int)) ⊕ ((List Int) × Int)) := (cond (decide (x1 < ((List.length x2 : Nat) : Int))) (cond (inB x1 (List.length x3)) (cond (decide (x0 < (List.getD x3 (Int.toNat x1) 0))) (some (Sum.inr ([], 6))) (cond (inB x1 (List.length x3)) (cond (fits ((List.length (x4 : List Int) + List.length ([(IntKind.wrap .i64 (x0 - (List.getD x3 (Int.toNat x1) 0)))] : List Int)) * 8)) (some (Sum.inl (x0, (IntKind.wrap .i64 (x1 + 1)), x2, x3, (x4 ++ [(IntKind.wrap .i64 (x0 - (List.getD x3 (Int.toNat x1) 0)))])))) none) none)) none) (some (Sum.inr (x4, 0))))
noncomputable def f_sLatestOf_run8 (x : (Int × Int × (List (Int × Int)) × (List Int) × (List Int))) : Option ((List Int) × Int) := iter (fun x => f_sLatestOf_n8 x.1 x.2.1 x.2.2.1 x.2.2.2.1 x.2.2.2.2) FU x
noncomputable def f_sLatestOf_G8 (r : List A) (x : (Int × Int × (List (Int × Int)) × (List Int) × (List Int))) : Prop := f_sLatestOf_L r 8 (f_sLatestOf_s8 x.1 x.2.1 x.2.2.1 x.2.2.2.1 x.2.2.2.2) = some r
noncomputable def f_sLatestOf_S8 (r : List A) : ((List Int) × Int) → Prop := fun v => r = l_sLatestOf v
theorem f_sLatestOf_go8 (r : List A) : ∀ x, sem (f_sLatestOf_S8 r) (f_sLatestOf_run8 x) → f_sLatestOf_G8 r x :=
  fun x => iter_sound (step := fun x => f_sLatestOf_n8 x.1 x.2.1 x.2.2.1 x.2.2.2.1 x.2.2.2.2) (fun x h => by
    unfold f_sLatestOf_n8 at h
    exact f_sLatestOf_step8 x.1 x.2.1 x.2.2.1 x.2.2.2.1 x.2.2.2.2 r ((sem_cond h (fun h => (sem_cond h (fun h => (sem_cond h (fun h => sem_got h fun q => some_eq q) (fun h => (sem_cond h (fun h => (sem_cond h (fun h => sem_got h fun q => q) (fun h => sem_none h))) (fun h => sem_none h))))) (fun h => sem_none h))) (fun h => sem_got h fun q => some_eq q)))) FU x
noncomputable def s_sLatestOf (a0 : (List (Int × Int))) (a1 : Int) : Option ((List Int) × Int) := (Option.bind (s_sl07Ok a0) fun r1 => (cond (!r1) (some ([], 1)) (cond (!(s_sl00In a1 0 1000)) (some ([], 2)) (Option.bind (s_sl07Tails a0) fun r2 => (f_sLatestOf_run8 (a1, 0, a0, r2, []))))))
theorem f_sLatestOf_top (a0 : (List (Int × Int))) (a1 : Int) (r : List A) : ev f_sLatestOf_X (lpc (cnOf f_sLatestOf_LV) (f_sLatestOf_L r)) f_sLatestOf_c (K0 TT f_sLatestOf_rv) (enter [.lst (.st [(.i .i8), (.i .u16)]) a0, .v (.int .i64 a1)]) = (Option.bind (s_sl07Ok a0) fun r1 => (cond (!r1) (some [.lst (.one (.i .i64)) [], .v (.int .i64 1)]) (cond (!(s_sl00In a1 0 1000)) (some [.lst (.one (.i .i64)) [], .v (.int .i64 2)]) (Option.bind (s_sl07Tails a0) fun r2 => (f_sLatestOf_L r 8 (f_sLatestOf_s8 a1 0 a0 r2 [])))))) := by kernel_rfl
theorem s_sLatestOf_ok (a0 : (List (Int × Int))) (a1 : Int) (v : ((List Int) × Int)) (h : s_sLatestOf a0 a1 = some v) : (Option.bind (s_sl07Ok a0) fun r1 => (cond (!r1) (some [.lst (.one (.i .i64)) [], .v (.int .i64 1)]) (cond (!(s_sl00In a1 0 1000)) (some [.lst (.one (.i .i64)) [], .v (.int .i64 2)]) (Option.bind (s_sl07Tails a0) fun r2 => (f_sLatestOf_L (l_sLatestOf v) 8 (f_sLatestOf_s8 a1 0 a0 r2 [])))))) = some (l_sLatestOf v) := by
  unfold s_sLatestOf at h
  have go : ∀ r, sem (fun v => r = l_sLatestOf v) ((Option.bind (s_sl07Ok a0) fun r1 => (cond (!r1) (some ([], 1)) (cond (!(s_sl00In a1 0 1000)) (some ([], 2)) (Option.bind (s_sl07Tails a0) fun r2 => (f_sLatestOf_run8 (a1, 0, a0, r2, []))))))) → (Option.bind (s_sl07Ok a0) fun r1 => (cond (!r1) (some [.lst (.one (.i .i64)) [], .v (.int .i64 1)]) (cond (!(s_sl00In a1 0 1000)) (some [.lst (.one (.i .i64)) [], .v (.int .i64 2)]) (Option.bind (s_sl07Tails a0) fun r2 => (f_sLatestOf_L r 8 (f_sLatestOf_s8 a1 0 a0 r2 [])))))) = some r := fun r h => (sem_bind h fun r1 h => (sem_cond h (fun h => sem_got h fun q => some_eq q) (fun h => (sem_cond h (fun h => sem_got h fun q => some_eq q) (fun h => (sem_bind h fun r2 h => f_sLatestOf_go8 r _ h))))))
  exact go (l_sLatestOf v) ⟨v, h, rfl⟩
noncomputable def c_sLatestOf : List A → ACall
  | [.lst (.st [(.i .i8), (.i .u16)]) a0, .v (.int .i64 a1)] => ⟨((List Int) × Int), s_sLatestOf a0 a1, fun r => .tup [.lst (.one (.i .i64)) r.1, .v (.int .i64 r.2)]⟩
  | _ => ACall.fail
theorem f_sLatestOf_sound : Sound Try.prog 29 c_sLatestOf := by
  refine sound_good f_sLatestOf_ctx f_sLatestOf_LV 2 Try.func29 (c := f_sLatestOf_c) (by kernel_rfl) (rv := f_sLatestOf_rv) (by kernel_rfl) (by kernel_rfl) (by kernel_rfl) (by kernel_rfl) fun rs => ?_
  unfold c_sLatestOf
  split
  · rename_i a0 a1; intro v h; exact ⟨rfl, l_sLatestOf v, rfl, (f_sLatestOf_top a0 a1 _).trans (s_sLatestOf_ok a0 a1 v h)⟩
  · intro v h; cases h

/-! ### function 30: loop.example/g01322/impl.LatestOf -/
noncomputable def f_iLatestOf_c : Code := match Try.f30.body with | some c => c | none => .skip
noncomputable def f_iLatestOf_X : Ctx := ⟨TT, phiOf [(73, c_icodeOf), (75, c_iwithin), (81, c_iValidJobs), (92, c_ilongest), (93, c_itails)], noPsi⟩
def f_iLatestOf_LV : List (Nat × Keep) := [(8, ([1, 7, 24, 25, 26], [], []))]
def f_iLatestOf_rv : List ResultVar := [.tmp 4, .tmp 5]
noncomputable def f_iLatestOf_L (r : List A) : Nat → AS → Option (List A) := L f_iLatestOf_X (cnOf f_iLatestOf_LV) f_iLatestOf_c (K0 TT f_iLatestOf_rv) r
theorem f_iLatestOf_ctx : CtxOK Try.prog f_iLatestOf_X := ctx_of tab mix ⟨⟨Try.call73, f_icodeOf_sound⟩, ⟨Try.call75, f_iwithin_sound⟩, ⟨Try.call81, f_iValidJobs_sound⟩, ⟨Try.call92, f_ilongest_sound⟩, ⟨Try.call93, f_itails_sound⟩, trivial⟩
noncomputable def f_iLatestOf_s8 (x0 : Int) (x1 : Int) (x2 : Int) (x3 : (List Int)) (x4 : (List Int)) : AS := ⟨[(1, .a (.v (.int .i64 x0))), (7, .a (.sl 0)), (24, .a (.sl 1)), (25, .a (.v (.int .i64 x1))), (26, .a (.v (.int .i64 x2)))], [(0, some ⟨true, .arr (.one (.i .i64)) x3⟩), (1, some ⟨true, .arr (.one (.i .i64)) x4⟩)], 2⟩
noncomputable def l_iLatestOf (r : ((List Int) × Int)) : List A := [.lst (.one (.i .i64)) r.1, .v (.int .i64 r.2)]
theorem f_iLatestOf_step8 (x0 : Int) (x1 : Int) (x2 : Int) (x3 : (List Int)) (x4 : (List Int)) (r : List A) (h : (cond (decide (x2 < x1)) (cond (inB x2 (List.length x4)) (cond (fits ((List.length (x3 : List Int) + List.length ([(IntKind.wrap .i64 (x0 - (List.getD x4 (Int.toNat x2) 0)))] : List Int)) * 8)) (f_iLatestOf_L r 8 (f_iLatestOf_s8 x0 x1 (IntKind.wrap .i64 (x2 + 1)) (x3 ++ [(IntKind.wrap .i64 (x0 - (List.getD x4 (Int.toNat x2) 0)))]) x4)) none) none) (some [.lst (.one (.i .i64)) x3, .v (.int .i64 0)])) = some r) : f_iLatestOf_L r 8 (f_iLatestOf_s8 x0 x1 x2 x3 x4) = some r :=
  step_of' h (by kernel_rfl)
noncomputable def f_iLatestOf_n8 (x0 : Int) (x1 : Int) (x2 : Int) (x3 : (List Int)) (x4 : (List Int)) : Option ((Int × Int × Int × (List Int) × (List Int)) ⊕ ((List Int) × Int)) := (cond (decide (x2 < x1)) (cond (inB x2 (List.length x4)) (cond (fits ((List.length (x3 : List Int) + List.length ([(IntKind.wrap .i64 (x0 - (List.getD x4 (Int.toNat x2) 0)))] : List Int)) * 8)) (some (Sum.inl (x0, x1, (IntKind.wrap .i64 (x2 + 1)), (x3 ++ [(IntKind.wrap .i64 (x0 - (List.getD x4 (Int.toNat x2) 0)))]), x4))) none) none) (some (Sum.inr (x3, 0))))
noncomputable def f_iLatestOf_run8 (x : (Int × Int × Int × (List Int) × (List Int))) : Option ((List Int) × Int) := iter (fun x => f_iLatestOf_n8 x.1 x.2.1 x.2.2.1 x.2.2.2.1 x.2.2.2.2) FU x
noncomputable def f_iLatestOf_G8 (r : List A) (x : (Int × Int × Int × (List Int) × (List Int))) : Prop := f_iLatestOf_L r 8 (f_iLatestOf_s8 x.1 x.2.1 x.2.2.1 x.2.2.2.1 x.2.2.2.2) = some r
noncomputable def f_iLatestOf_S8 (r : List A) : ((List Int) × Int) → Prop := fun v => r = l_iLatestOf v
theorem f_iLatestOf_go8 (r : List A) : ∀ x, sem (f_iLatestOf_S8 r) (f_iLatestOf_run8 x) → f_iLatestOf_G8 r x :=
  fun x => iter_sound (step := fun x => f_iLatestOf_n8 x.1 x.2.1 x.2.2.1 x.2.2.2.1 x.2.2.2.2) (fun x h => by
    unfold f_iLatestOf_n8 at h
    exact f_iLatestOf_step8 x.1 x.2.1 x.2.2.1 x.2.2.2.1 x.2.2.2.2 r ((sem_cond h (fun h => (sem_cond h (fun h => (sem_cond h (fun h => sem_got h fun q => q) (fun h => sem_none h))) (fun h => sem_none h))) (fun h => sem_got h fun q => some_eq q)))) FU x
noncomputable def s_iLatestOf (a0 : (List (Int × Int))) (a1 : Int) : Option ((List Int) × Int) := (Option.bind (s_iValidJobs a0) fun r1 => (cond ((s_icodeOf r1 (s_iwithin a1 0 1000)) != 0) (some ([], (s_icodeOf r1 (s_iwithin a1 0 1000)))) (Option.bind (s_ilongest a0) fun r2 => (cond (decide (r2 > a1)) (some ([], 6)) (Option.bind (s_itails a0) fun r3 => (f_iLatestOf_run8 (a1, ((List.length r3 : Nat) : Int), 0, [], r3)))))))
theorem f_iLatestOf_top (a0 : (List (Int × Int))) (a1 : Int) (r : List A) : ev f_iLatestOf_X (lpc (cnOf f_iLatestOf_LV) (f_iLatestOf_L r)) f_iLatestOf_c (K0 TT f_iLatestOf_rv) (enter [.lst (.st [(.i .i8), (.i .u16)]) a0, .v (.int .i64 a1)]) = (Option.bind (s_iValidJobs a0) fun r1 => (cond ((s_icodeOf r1 (s_iwithin a1 0 1000)) != 0) (some [.lst (.one (.i .i64)) [], .v (.int .i64 (s_icodeOf r1 (s_iwithin a1 0 1000)))]) (Option.bind (s_ilongest a0) fun r2 => (cond (decide (r2 > a1)) (some [.lst (.one (.i .i64)) [], .v (.int .i64 6)]) (Option.bind (s_itails a0) fun r3 => (f_iLatestOf_L r 8 (f_iLatestOf_s8 a1 ((List.length r3 : Nat) : Int) 0 [] r3))))))) := by kernel_rfl
theorem s_iLatestOf_ok (a0 : (List (Int × Int))) (a1 : Int) (v : ((List Int) × Int)) (h : s_iLatestOf a0 a1 = some v) : (Option.bind (s_iValidJobs a0) fun r1 => (cond ((s_icodeOf r1 (s_iwithin a1 0 1000)) != 0) (some [.lst (.one (.i .i64)) [], .v (.int .i64 (s_icodeOf r1 (s_iwithin a1 0 1000)))]) (Option.bind (s_ilongest a0) fun r2 => (cond (decide (r2 > a1)) (some [.lst (.one (.i .i64)) [], .v (.int .i64 6)]) (Option.bind (s_itails a0) fun r3 => (f_iLatestOf_L (l_iLatestOf v) 8 (f_iLatestOf_s8 a1 ((List.length r3 : Nat) : Int) 0 [] r3))))))) = some (l_iLatestOf v) := by
  unfold s_iLatestOf at h
  have go : ∀ r, sem (fun v => r = l_iLatestOf v) ((Option.bind (s_iValidJobs a0) fun r1 => (cond ((s_icodeOf r1 (s_iwithin a1 0 1000)) != 0) (some ([], (s_icodeOf r1 (s_iwithin a1 0 1000)))) (Option.bind (s_ilongest a0) fun r2 => (cond (decide (r2 > a1)) (some ([], 6)) (Option.bind (s_itails a0) fun r3 => (f_iLatestOf_run8 (a1, ((List.length r3 : Nat) : Int), 0, [], r3)))))))) → (Option.bind (s_iValidJobs a0) fun r1 => (cond ((s_icodeOf r1 (s_iwithin a1 0 1000)) != 0) (some [.lst (.one (.i .i64)) [], .v (.int .i64 (s_icodeOf r1 (s_iwithin a1 0 1000)))]) (Option.bind (s_ilongest a0) fun r2 => (cond (decide (r2 > a1)) (some [.lst (.one (.i .i64)) [], .v (.int .i64 6)]) (Option.bind (s_itails a0) fun r3 => (f_iLatestOf_L r 8 (f_iLatestOf_s8 a1 ((List.length r3 : Nat) : Int) 0 [] r3))))))) = some r := fun r h => (sem_bind h fun r1 h => (sem_cond h (fun h => sem_got h fun q => some_eq q) (fun h => (sem_bind h fun r2 h => (sem_cond h (fun h => sem_got h fun q => some_eq q) (fun h => (sem_bind h fun r3 h => f_iLatestOf_go8 r _ h)))))))
  exact go (l_iLatestOf v) ⟨v, h, rfl⟩
noncomputable def c_iLatestOf : List A → ACall
  | [.lst (.st [(.i .i8), (.i .u16)]) a0, .v (.int .i64 a1)] => ⟨((List Int) × Int), s_iLatestOf a0 a1, fun r => .tup [.lst (.one (.i .i64)) r.1, .v (.int .i64 r.2)]⟩
  | _ => ACall.fail
theorem f_iLatestOf_sound : Sound Try.prog 30 c_iLatestOf := by
  refine sound_good f_iLatestOf_ctx f_iLatestOf_LV 2 Try.func30 (c := f_iLatestOf_c) (by kernel_rfl) (rv := f_iLatestOf_rv) (by kernel_rfl) (by kernel_rfl) (by kernel_rfl) (by kernel_rfl) fun rs => ?_
  unfold c_iLatestOf
  split
  · rename_i a0 a1; intro v h; exact ⟨rfl, l_iLatestOf v, rfl, (f_iLatestOf_top a0 a1 _).trans (s_iLatestOf_ok a0 a1 v h)⟩
  · intro v h; cases h

/-! ### function 6: loop.example/g01322/laws.FnExactLatestOf -/
noncomputable def f_wFnExactLatestOf_c : Code := match Try.f6.body with | some c => c | none => .skip
noncomputable def f_wFnExactLatestOf_X : Ctx := ⟨TT, phiOf [(19, c_wszJobS), (21, c_wtoJobS), (23, c_weqJobS), (29, c_sLatestOf), (30, c_iLatestOf), (31, c_weqInt64S), (34, c_wheldInt64S)], (psiOf [(32, u_wmarkJobS), (33, u_wmarkInt64S)])⟩
def f_wFnExactLatestOf_LV : List (Nat × Keep) := []
def f_wFnExactLatestOf_rv : List ResultVar := [.tmp 4]
noncomputable def f_wFnExactLatestOf_L (r : List A) : Nat → AS → Option (List A) := L f_wFnExactLatestOf_X (cnOf f_wFnExactLatestOf_LV) f_wFnExactLatestOf_c (K0 TT f_wFnExactLatestOf_rv) r
theorem f_wFnExactLatestOf_ctx : CtxOK Try.prog f_wFnExactLatestOf_X := ctx_ofU tab mix (l := [(19, c_wszJobS), (21, c_wtoJobS), (23, c_weqJobS), (29, c_sLatestOf), (30, c_iLatestOf), (31, c_weqInt64S), (34, c_wheldInt64S)]) ⟨⟨Try.call19, f_wszJobS_sound⟩, ⟨Try.call21, f_wtoJobS_sound⟩, ⟨Try.call23, f_weqJobS_sound⟩, ⟨Try.call29, f_sLatestOf_sound⟩, ⟨Try.call30, f_iLatestOf_sound⟩, ⟨Try.call31, f_weqInt64S_sound⟩, ⟨Try.call34, f_wheldInt64S_sound⟩, trivial⟩ (psi_ok (l := [(32, u_wmarkJobS), (33, u_wmarkInt64S)]) ⟨⟨Try.call32, f_wmarkJobS_sound⟩, ⟨Try.call33, f_wmarkInt64S_sound⟩, trivial⟩)
noncomputable def s_wFnExactLatestOf (a0 : (List (Int × Int))) (a1 : Int) : Option Bool := (cond (decide ((s_wszJobS a0 1048576) < 0)) (some true) (Option.bind (s_wtoJobS a0) fun r1 => (Option.bind (s_sLatestOf r1 a1) fun r2 => (Option.bind (s_wtoJobS a0) fun r3 => (Option.bind (s_iLatestOf r3 a1) fun r4 => (Option.bind (s_weqInt64S (r4.1) (r2.1)) fun r5 => (cond (!r5) (some false) (cond (r4.2 != r2.2) (some false) (Option.bind (s_wtoJobS a0) fun r6 => (Option.bind (s_weqJobS r3 r6) fun r7 => (cond (!r7) (some false) (Option.bind (s_wmarkJobS r3 1) fun r8 => (cond (decide (r8.1 < 0)) (some false) (Option.bind (s_weqInt64S (r4.1) (r2.1)) fun r9 => (cond (!r9) (some false) (cond (r4.2 != r2.2) (some false) (Option.bind (s_wmarkInt64S (r4.1) 1) fun r10 => (Option.bind (s_wheldInt64S (r10.2) 1) fun r11 => (cond (decide (r11 < 0)) (some false) (cond (r11 != r10.1) (some false) (Option.bind (s_wtoJobS a0) fun r12 => (Option.bind (s_iLatestOf r12 a1) fun r13 => (Option.bind (s_weqInt64S (r13.1) (r2.1)) fun r14 => (cond (!r14) (some false) (cond (r13.2 != r2.2) (some false) (Option.bind (s_wheldInt64S (r10.2) 1) fun r15 => (cond (decide (r15 < 0)) (some false) (cond (r15 != r10.1) (some false) (some true)))))))))))))))))))))))))))))
theorem f_wFnExactLatestOf_top (a0 : (List (Int × Int))) (a1 : Int) (r : List A) : ev f_wFnExactLatestOf_X (lpc (cnOf f_wFnExactLatestOf_LV) (f_wFnExactLatestOf_L r)) f_wFnExactLatestOf_c (K0 TT f_wFnExactLatestOf_rv) (enter [.lst (.st [(.i .i8), (.i .u16)]) a0, .v (.int .i64 a1)]) = (cond (decide ((s_wszJobS a0 1048576) < 0)) (some [.v (.bool true)]) (Option.bind (s_wtoJobS a0) fun r1 => (Option.bind (s_sLatestOf r1 a1) fun r2 => (Option.bind (s_wtoJobS a0) fun r3 => (Option.bind (s_iLatestOf r3 a1) fun r4 => (Option.bind (s_weqInt64S (r4.1) (r2.1)) fun r5 => (cond (!r5) (some [.v (.bool false)]) (cond (r4.2 != r2.2) (some [.v (.bool false)]) (Option.bind (s_wtoJobS a0) fun r6 => (Option.bind (s_weqJobS r3 r6) fun r7 => (cond (!r7) (some [.v (.bool false)]) (Option.bind (s_wmarkJobS r3 1) fun r8 => (cond (decide (r8.1 < 0)) (some [.v (.bool false)]) (Option.bind (s_weqInt64S (r4.1) (r2.1)) fun r9 => (cond (!r9) (some [.v (.bool false)]) (cond (r4.2 != r2.2) (some [.v (.bool false)]) (Option.bind (s_wmarkInt64S (r4.1) 1) fun r10 => (Option.bind (s_wheldInt64S (r10.2) 1) fun r11 => (cond (decide (r11 < 0)) (some [.v (.bool false)]) (cond (r11 != r10.1) (some [.v (.bool false)]) (Option.bind (s_wtoJobS a0) fun r12 => (Option.bind (s_iLatestOf r12 a1) fun r13 => (Option.bind (s_weqInt64S (r13.1) (r2.1)) fun r14 => (cond (!r14) (some [.v (.bool false)]) (cond (r13.2 != r2.2) (some [.v (.bool false)]) (Option.bind (s_wheldInt64S (r10.2) 1) fun r15 => (cond (decide (r15 < 0)) (some [.v (.bool false)]) (cond (r15 != r10.1) (some [.v (.bool false)]) (some [.v (.bool true)]))))))))))))))))))))))))))))) := by kernel_rfl
noncomputable def l_wFnExactLatestOf (r : Bool) : List A := [.v (.bool r)]
theorem s_wFnExactLatestOf_ok (a0 : (List (Int × Int))) (a1 : Int) (v : Bool) (h : s_wFnExactLatestOf a0 a1 = some v) : (cond (decide ((s_wszJobS a0 1048576) < 0)) (some [.v (.bool true)]) (Option.bind (s_wtoJobS a0) fun r1 => (Option.bind (s_sLatestOf r1 a1) fun r2 => (Option.bind (s_wtoJobS a0) fun r3 => (Option.bind (s_iLatestOf r3 a1) fun r4 => (Option.bind (s_weqInt64S (r4.1) (r2.1)) fun r5 => (cond (!r5) (some [.v (.bool false)]) (cond (r4.2 != r2.2) (some [.v (.bool false)]) (Option.bind (s_wtoJobS a0) fun r6 => (Option.bind (s_weqJobS r3 r6) fun r7 => (cond (!r7) (some [.v (.bool false)]) (Option.bind (s_wmarkJobS r3 1) fun r8 => (cond (decide (r8.1 < 0)) (some [.v (.bool false)]) (Option.bind (s_weqInt64S (r4.1) (r2.1)) fun r9 => (cond (!r9) (some [.v (.bool false)]) (cond (r4.2 != r2.2) (some [.v (.bool false)]) (Option.bind (s_wmarkInt64S (r4.1) 1) fun r10 => (Option.bind (s_wheldInt64S (r10.2) 1) fun r11 => (cond (decide (r11 < 0)) (some [.v (.bool false)]) (cond (r11 != r10.1) (some [.v (.bool false)]) (Option.bind (s_wtoJobS a0) fun r12 => (Option.bind (s_iLatestOf r12 a1) fun r13 => (Option.bind (s_weqInt64S (r13.1) (r2.1)) fun r14 => (cond (!r14) (some [.v (.bool false)]) (cond (r13.2 != r2.2) (some [.v (.bool false)]) (Option.bind (s_wheldInt64S (r10.2) 1) fun r15 => (cond (decide (r15 < 0)) (some [.v (.bool false)]) (cond (r15 != r10.1) (some [.v (.bool false)]) (some [.v (.bool true)]))))))))))))))))))))))))))))) = some (l_wFnExactLatestOf v) := by
  have e : (cond (decide ((s_wszJobS a0 1048576) < 0)) (some [.v (.bool true)]) (Option.bind (s_wtoJobS a0) fun r1 => (Option.bind (s_sLatestOf r1 a1) fun r2 => (Option.bind (s_wtoJobS a0) fun r3 => (Option.bind (s_iLatestOf r3 a1) fun r4 => (Option.bind (s_weqInt64S (r4.1) (r2.1)) fun r5 => (cond (!r5) (some [.v (.bool false)]) (cond (r4.2 != r2.2) (some [.v (.bool false)]) (Option.bind (s_wtoJobS a0) fun r6 => (Option.bind (s_weqJobS r3 r6) fun r7 => (cond (!r7) (some [.v (.bool false)]) (Option.bind (s_wmarkJobS r3 1) fun r8 => (cond (decide (r8.1 < 0)) (some [.v (.bool false)]) (Option.bind (s_weqInt64S (r4.1) (r2.1)) fun r9 => (cond (!r9) (some [.v (.bool false)]) (cond (r4.2 != r2.2) (some [.v (.bool false)]) (Option.bind (s_wmarkInt64S (r4.1) 1) fun r10 => (Option.bind (s_wheldInt64S (r10.2) 1) fun r11 => (cond (decide (r11 < 0)) (some [.v (.bool false)]) (cond (r11 != r10.1) (some [.v (.bool false)]) (Option.bind (s_wtoJobS a0) fun r12 => (Option.bind (s_iLatestOf r12 a1) fun r13 => (Option.bind (s_weqInt64S (r13.1) (r2.1)) fun r14 => (cond (!r14) (some [.v (.bool false)]) (cond (r13.2 != r2.2) (some [.v (.bool false)]) (Option.bind (s_wheldInt64S (r10.2) 1) fun r15 => (cond (decide (r15 < 0)) (some [.v (.bool false)]) (cond (r15 != r10.1) (some [.v (.bool false)]) (some [.v (.bool true)]))))))))))))))))))))))))))))) = Option.map l_wFnExactLatestOf (s_wFnExactLatestOf a0 a1) := by
    unfold s_wFnExactLatestOf
    exact (cond_app (Option.map l_wFnExactLatestOf) rfl (bind_app fun _ => (bind_app fun _ => (bind_app fun _ => (bind_app fun _ => (bind_app fun _ => (cond_app (Option.map l_wFnExactLatestOf) rfl (cond_app (Option.map l_wFnExactLatestOf) rfl (bind_app fun _ => (bind_app fun _ => (cond_app (Option.map l_wFnExactLatestOf) rfl (bind_app fun _ => (cond_app (Option.map l_wFnExactLatestOf) rfl (bind_app fun _ => (cond_app (Option.map l_wFnExactLatestOf) rfl (cond_app (Option.map l_wFnExactLatestOf) rfl (bind_app fun _ => (bind_app fun _ => (cond_app (Option.map l_wFnExactLatestOf) rfl (cond_app (Option.map l_wFnExactLatestOf) rfl (bind_app fun _ => (bind_app fun _ => (bind_app fun _ => (cond_app (Option.map l_wFnExactLatestOf) rfl (cond_app (Option.map l_wFnExactLatestOf) rfl (bind_app fun _ => (cond_app (Option.map l_wFnExactLatestOf) rfl (cond_app (Option.map l_wFnExactLatestOf) rfl rfl))))))))))))))))))))))))))))
  rw [e, h]; rfl
noncomputable def c_wFnExactLatestOf : List A → ACall
  | [.lst (.st [(.i .i8), (.i .u16)]) a0, .v (.int .i64 a1)] => ⟨Bool, s_wFnExactLatestOf a0 a1, fun r => .one (.v (.bool r))⟩
  | _ => ACall.fail
theorem f_wFnExactLatestOf_sound : Sound Try.prog 6 c_wFnExactLatestOf := by
  refine sound_good f_wFnExactLatestOf_ctx f_wFnExactLatestOf_LV 2 Try.func6 (c := f_wFnExactLatestOf_c) (by kernel_rfl) (rv := f_wFnExactLatestOf_rv) (by kernel_rfl) (by kernel_rfl) (by kernel_rfl) (by kernel_rfl) fun rs => ?_
  unfold c_wFnExactLatestOf
  split
  · rename_i a0 a1; intro v h; exact ⟨rfl, l_wFnExactLatestOf v, rfl, (f_wFnExactLatestOf_top a0 a1 _).trans (s_wFnExactLatestOf_ok a0 a1 v h)⟩
  · intro v h; cases h

/-! ### function 35: loop.example/g01322/spec.LongestChain -/
noncomputable def f_sLongestChain_c : Code := match Try.f35.body with | some c => c | none => .skip
noncomputable def f_sLongestChain_X : Ctx := ⟨TT, phiOf [(85, c_sl07Ok), (91, c_sl07Tails), (94, c_sl07Longest), (95, c_sl07Waits)], noPsi⟩
def f_sLongestChain_LV : List (Nat × Keep) := [(8, ([0, 5, 6, 7, 8, 9], [], [])), (10, ([0, 5, 6, 7, 8, 9, 10], [], []))]
def f_sLongestChain_rv : List ResultVar := [.tmp 2, .tmp 3, .tmp 4]
noncomputable def f_sLongestChain_L (r : List A) : Nat → AS → Option (List A) := L f_sLongestChain_X (cnOf f_sLongestChain_LV) f_sLongestChain_c (K0 TT f_sLongestChain_rv) r
theorem f_sLongestChain_ctx : CtxOK Try.prog f_sLongestChain_X := ctx_of tab mix ⟨⟨Try.call85, f_sl07Ok_sound⟩, ⟨Try.call91, f_sl07Tails_sound⟩, ⟨Try.call94, f_sl07Longest_sound⟩, ⟨Try.call95, f_sl07Waits_sound⟩, trivial⟩
noncomputable def f_sLongestChain_s8 (x0 : Int) (x1 : Int) (x2 : Int) (x3 : (List (Int × Int))) (x4 : (List Int)) (x5 : (List Int)) : AS := ⟨[(0, .a (.sl 0)), (5, .a (.sl 1)), (6, .a (.v (.int .i64 x0))), (7, .a (.sl 2)), (8, .a (.v (.int .i64 x1))), (9, .a (.v (.int .i64 x2)))], [(0, some ⟨false, .arr (.st [(.i .i8), (.i .u16)]) x3⟩), (1, some ⟨true, .arr (.one (.i .i64)) x4⟩), (2, some ⟨true, .arr (.one (.i .i64)) x5⟩)], 3⟩
noncomputable def f_sLongestChain_s10 (x0 : Int) (x1 : Int) (x2 : Int) (x3 : Int) (x4 : (List (Int × Int))) (x5 : (List Int)) (x6 : (List Int)) : AS := ⟨[(0, .a (.sl 0)), (5, .a (.sl 1)), (6, .a (.v (.int .i64 x0))), (7, .a (.sl 2)), (8, .a (.v (.int .i64 x1))), (9, .a (.v (.int .i64 x2))), (10, .a (.v (.int .i64 x3)))], [(0, some ⟨false, .arr (.st [(.i .i8), (.i .u16)]) x4⟩), (1, some ⟨true, .arr (.one (.i .i64)) x5⟩), (2, some ⟨true, .arr (.one (.i .i64)) x6⟩)], 3⟩
noncomputable def l_sLongestChain (r : ((List Int) × Int × Int)) : List A := [.lst (.one (.i .i64)) r.1, .v (.int .i64 r.2.1), .v (.int .i64 r.2.2)]
theorem f_sLongestChain_step10 (x0 : Int) (x1 : Int) (x2 : Int) (x3 : Int) (x4 : (List (Int × Int))) (x5 : (List Int)) (x6 : (List Int)) (r : List A) (h : (cond (decide (x3 < ((List.length x4 : Nat) : Int))) (cond (inB x3 (List.length x5)) (cond ((List.getD x5 (Int.toNat x3) 0) == x2) (cond (decide (x1 < 0)) (cond (fits ((List.length (x6 : List Int) + List.length ([x3] : List Int)) * 8)) (cond (inB x3 (List.length x4)) (f_sLongestChain_L r 8 (f_sLongestChain_s8 x0 x3 (IntKind.wrap .i64 (x2 - (IntKind.wrap .i64 (List.getD x4 (Int.toNat x3) ((0, 0) : (Int × Int))).1))) x4 x5 (x6 ++ [x3]))) none) none) (Option.bind (s_sl07Waits x4 x3 x1) fun r4 => (cond r4 (cond (fits ((List.length (x6 : List Int) + List.length ([x3] : List Int)) * 8)) (cond (inB x3 (List.length x4)) (f_sLongestChain_L r 8 (f_sLongestChain_s8 x0 x3 (IntKind.wrap .i64 (x2 - (IntKind.wrap .i64 (List.getD x4 (Int.toNat x3) ((0, 0) : (Int × Int))).1))) x4 x5 (x6 ++ [x3]))) none) none) (f_sLongestChain_L r 10 (f_sLongestChain_s10 x0 x1 x2 (IntKind.wrap .i64 (x3 + 1)) x4 x5 x6))))) (f_sLongestChain_L r 10 (f_sLongestChain_s10 x0 x1 x2 (IntKind.wrap .i64 (x3 + 1)) x4 x5 x6))) none) (f_sLongestChain_L r 8 (f_sLongestChain_s8 x0 x1 x2 x4 x5 x6))) = some r) : f_sLongestChain_L r 10 (f_sLongestChain_s10 x0 x1 x2 x3 x4 x5 x6) = some r :=
  step_of' h (by kernel_rfl)
noncomputable def f_sLongestChain_n10 (x0 : Int) (x1 : Int) (x2 : Int) (x3 : Int) (x4 : (List (Int × Int))) (x5 : (List Int)) (x6 : (List Int)) : Option ((Int × Int × Int × Int × (List (Int × Int)) × (List Int) × (List Int)) ⊕ ((Int × Int × Int × (List (Int × Int)) × (List Int) × (List Int)) ⊕ ((List Int) × Int × Int))) := (cond (decide (x3 < ((List.length x4 : Nat) : Int))) (cond (inB x3 (List.length x5)) (cond ((List.getD x5 (Int.toNat x3) 0) == x2) (cond (decide (x1 < 0)) (cond (fits ((List.length (x6 : List Int) + List.length ([x3] : List Int)) * 8)) (cond (inB x3 (List.length x4)) (some (Sum.inr (Sum.inl (x0, x3, (IntKind.wrap .i64 (x2 - (IntKind.wrap .i64 (List.getD x4 (Int.toNat x3) ((0, 0) : (Int × Int))).1))), x4, x5, (x6 ++ [x3]))))) none) none) (Option.bind (s_sl07Waits x4 x3 x1) fun r4 => (cond r4 (cond (fits ((List.length (x6 : List Int) + List.length ([x3] : List Int)) * 8)) (cond (inB x3 (List.length x4)) (some (Sum.inr (Sum.inl (x0, x3, (IntKind.wrap .i64 (x2 - (IntKind.wrap .i64 (List.getD x4 (Int.toNat x3) ((0, 0) : (Int × Int))).1))), x4, x5, (x6 ++ [x3]))))) none) none) (some (Sum.inl (x0, x1, x2, (IntKind.wrap .i64 (x3 + 1)), x4, x5, x6)))))) (some (Sum.inl (x0, x1, x2, (IntKind.wrap .i64 (x3 + 1)), x4, x5, x6)))) none) (some (Sum.inr (Sum.inl (x0, x1, x2, x4, x5, x6)))))
noncomputable def f_sLongestChain_run10 (x : (Int × Int × Int × Int × (List (Int × Int)) × (List Int) × (List Int))) : Option ((Int × Int × Int × (List (Int × Int)) × (List Int) × (List Int)) ⊕ ((List Int) × Int × Int)) := iter (fun x => f_sLongestChain_n10 x.1 x.2.1 x.2.2.1 x.2.2.2.1 x.2.2.2.2.1 x.2.2.2.2.2.1 x.2.2.2.2.2.2) FU x
noncomputable def f_sLongestChain_G10 (r : List A) (x : (Int × Int × Int × Int × (List (Int × Int)) × (List Int) × (List Int))) : Prop := f_sLongestChain_L r 10 (f_sLongestChain_s10 x.1 x.2.1 x.2.2.1 x.2.2.2.1 x.2.2.2.2.1 x.2.2.2.2.2.1 x.2.2.2.2.2.2) = some r
theorem f_sLongestChain_step8 (x0 : Int) (x1 : Int) (x2 : Int) (x3 : (List (Int × Int))) (x4 : (List Int)) (x5 : (List Int)) (r : List A) (h : (cond (decide (x2 > 0)) (f_sLongestChain_L r 10 (f_sLongestChain_s10 x0 x1 x2 0 x3 x4 x5)) (some [.lst (.one (.i .i64)) x5, .v (.int .i64 x0), .v (.int .i64 0)])) = some r) : f_sLongestChain_L r 8 (f_sLongestChain_s8 x0 x1 x2 x3 x4 x5) = some r :=
  step_of' h (by kernel_rfl)
noncomputable def f_sLongestChain_n8 (x0 : Int) (x1 : Int) (x2 : Int) (x3 : (List (Int × Int))) (x4 : (List Int)) (x5 : (List Int)) : Option ((Int × Int × Int × (List (Int × Int)) × (List Int) × (List Int)) ⊕ ((List Int) × Int × Int)) := (cond (decide (x2 > 0)) (f_sLongestChain_run10 (x0, x1, x2, 0, x3, x4, x5)) (some (Sum.inr (x5, x0, 0))))
noncomputable def f_sLongestChain_run8 (x : (Int × Int × Int × (List (Int × Int)) × (List Int) × (List Int))) : Option ((List Int) × Int × Int) := iter (fun x => f_sLongestChain_n8 x.1 x.2.1 x.2.2.1 x.2.2.2.1 x.2.2.2.2.1 x.2.2.2.2.2) FU x
noncomputable def f_sLongestChain_G8 (r : List A) (x : (Int × Int × Int × (List (Int × Int)) × (List Int) × (List Int))) : Prop := f_sLongestChain_L r 8 (f_sLongestChain_s8 x.1 x.2.1 x.2.2.1 x.2.2.2.1 x.2.2.2.2.1 x.2.2.2.2.2) = some r
noncomputable def f_sLongestChain_S8 (r : List A) : ((List Int) × Int × Int) → Prop := fun v => r = l_sLongestChain v
noncomputable def f_sLongestChain_S10 (r : List A) : ((Int × Int × Int × (List (Int × Int)) × (List Int) × (List Int)) ⊕ ((List Int) × Int × Int)) → Prop := goesOn (f_sLongestChain_G8 r) (f_sLongestChain_S8 r)
theorem f_sLongestChain_go10 (r : List A) : ∀ x, sem (f_sLongestChain_S10 r) (f_sLongestChain_run10 x) → f_sLongestChain_G10 r x :=
  fun x => iter_sound (step := fun x => f_sLongestChain_n10 x.1 x.2.1 x.2.2.1 x.2.2.2.1 x.2.2.2.2.1 x.2.2.2.2.2.1 x.2.2.2.2.2.2) (fun x h => by
    unfold f_sLongestChain_n10 at h
    exact f_sLongestChain_step10 x.1 x.2.1 x.2.2.1 x.2.2.2.1 x.2.2.2.2.1 x.2.2.2.2.2.1 x.2.2.2.2.2.2 r ((sem_cond h (fun h => (sem_cond h (fun h => (sem_cond h (fun h => (sem_cond h (fun h => (sem_cond h (fun h => (sem_cond h (fun h => sem_got h fun q => q) (fun h => sem_none h))) (fun h => sem_none h))) (fun h => (sem_bind h fun r4 h => (sem_cond h (fun h => (sem_cond h (fun h => (sem_cond h (fun h => sem_got h fun q => q) (fun h => sem_none h))) (fun h => sem_none h))) (fun h => sem_got h fun q => q)))))) (fun h => sem_got h fun q => q))) (fun h => sem_none h))) (fun h => sem_got h fun q => q)))) FU x
theorem f_sLongestChain_go8 (r : List A) : ∀ x, sem (f_sLongestChain_S8 r) (f_sLongestChain_run8 x) → f_sLongestChain_G8 r x :=
  fun x => iter_sound (step := fun x => f_sLongestChain_n8 x.1 x.2.1 x.2.2.1 x.2.2.2.1 x.2.2.2.2.1 x.2.2.2.2.2) (fun x h => by
    unfold f_sLongestChain_n8 at h
    exact f_sLongestChain_step8 x.1 x.2.1 x.2.2.1 x.2.2.2.1 x.2.2.2.2.1 x.2.2.2.2.2 r ((sem_cond h (fun h => f_sLongestChain_go10 r _ h) (fun h => sem_got h fun q => some_eq q)))) FU x
noncomputable def s_sLongestChain (a0 : (List (Int × Int))) : Option ((List Int) × Int × Int) := (Option.bind (s_sl07Ok a0) fun r1 => (cond (!r1) (some ([], 0, 1)) (Option.bind (s_sl07Tails a0) fun r2 => (Option.bind (s_sl07Longest a0) fun r3 => (f_sLongestChain_run8 (r3, (-1), r3, a0, r2, []))))))
theorem f_sLongestChain_top (a0 : (List (Int × Int))) (r : List A) : ev f_sLongestChain_X (lpc (cnOf f_sLongestChain_LV) (f_sLongestChain_L r)) f_sLongestChain_c (K0 TT f_sLongestChain_rv) (enter [.lst (.st [(.i .i8), (.i .u16)]) a0]) = (Option.bind (s_sl07Ok a0) fun r1 => (cond (!r1) (some [.lst (.one (.i .i64)) [], .v (.int .i64 0), .v (.int .i64 1)]) (Option.bind (s_sl07Tails a0) fun r2 => (Option.bind (s_sl07Longest a0) fun r3 => (f_sLongestChain_L r 8 (f_sLongestChain_s8 r3 (-1) r3 a0 r2 [])))))) := by kernel_rfl
theorem s_sLongestChain_ok (a0 : (List (Int × Int))) (v : ((List Int) × Int × Int)) (h : s_sLongestChain a0 = some v) : (Option.bind (s_sl07Ok a0) fun r1 => (cond (!r1) (some [.lst (.one (.i .i64)) [], .v (.int .i64 0), .v (.int .i64 1)]) (Option.bind (s_sl07Tails a0) fun r2 => (Option.bind (s_sl07Longest a0) fun r3 => (f_sLongestChain_L (l_sLongestChain v) 8 (f_sLongestChain_s8 r3 (-1) r3 a0 r2 [])))))) = some (l_sLongestChain v) := by
  unfold s_sLongestChain at h
  have go : ∀ r, sem (fun v => r = l_sLongestChain v) ((Option.bind (s_sl07Ok a0) fun r1 => (cond (!r1) (some ([], 0, 1)) (Option.bind (s_sl07Tails a0) fun r2 => (Option.bind (s_sl07Longest a0) fun r3 => (f_sLongestChain_run8 (r3, (-1), r3, a0, r2, []))))))) → (Option.bind (s_sl07Ok a0) fun r1 => (cond (!r1) (some [.lst (.one (.i .i64)) [], .v (.int .i64 0), .v (.int .i64 1)]) (Option.bind (s_sl07Tails a0) fun r2 => (Option.bind (s_sl07Longest a0) fun r3 => (f_sLongestChain_L r 8 (f_sLongestChain_s8 r3 (-1) r3 a0 r2 [])))))) = some r := fun r h => (sem_bind h fun r1 h => (sem_cond h (fun h => sem_got h fun q => some_eq q) (fun h => (sem_bind h fun r2 h => (sem_bind h fun r3 h => f_sLongestChain_go8 r _ h)))))
  exact go (l_sLongestChain v) ⟨v, h, rfl⟩
noncomputable def c_sLongestChain : List A → ACall
  | [.lst (.st [(.i .i8), (.i .u16)]) a0] => ⟨((List Int) × Int × Int), s_sLongestChain a0, fun r => .tup [.lst (.one (.i .i64)) r.1, .v (.int .i64 r.2.1), .v (.int .i64 r.2.2)]⟩
  | _ => ACall.fail
theorem f_sLongestChain_sound : Sound Try.prog 35 c_sLongestChain := by
  refine sound_good f_sLongestChain_ctx f_sLongestChain_LV 1 Try.func35 (c := f_sLongestChain_c) (by kernel_rfl) (rv := f_sLongestChain_rv) (by kernel_rfl) (by kernel_rfl) (by kernel_rfl) (by kernel_rfl) fun rs => ?_
  unfold c_sLongestChain
  split
  · rename_i a0; intro v h; exact ⟨rfl, l_sLongestChain v, rfl, (f_sLongestChain_top a0 _).trans (s_sLongestChain_ok a0 v h)⟩
  · intro v h; cases h

/-! ### function 98: loop.example/g01322/impl.LongestChain$1 -/
noncomputable def f_iLongestChain_1_c : Code := match Try.f98.body with | some c => c | none => .skip
noncomputable def f_iLongestChain_1_X : Ctx := ⟨TT, phiOf [(99, c_iJob_waits)], noPsi⟩
def f_iLongestChain_1_LV : List (Nat × Keep) := []
def f_iLongestChain_1_rv : List ResultVar := [.tmp 6]
noncomputable def f_iLongestChain_1_L (r : List A) : Nat → AS → Option (List A) := L f_iLongestChain_1_X (cnOf f_iLongestChain_1_LV) f_iLongestChain_1_c (K0 TT f_iLongestChain_1_rv) r
theorem f_iLongestChain_1_ctx : CtxOK Try.prog f_iLongestChain_1_X := ctx_of tab mix ⟨⟨Try.call99, f_iJob_waits_sound⟩, trivial⟩
noncomputable def s_iLongestChain_1 (a0 : Int) (a1 : (List Int)) (a2 : Int) (a3 : Int) (a4 : (List (Int × Int))) : Option Bool := (cond (inB a0 (List.length a1)) (cond ((List.getD a1 (Int.toNat a0) 0) == a2) (cond (decide (a3 < 0)) (some true) (cond (inB a0 (List.length a4)) (Option.bind (s_iJob_waits (List.getD a4 (Int.toNat a0) ((0, 0) : (Int × Int))).1 (List.getD a4 (Int.toNat a0) ((0, 0) : (Int × Int))).2 a3) fun r1 => (some r1)) none)) (some false)) none)
theorem f_iLongestChain_1_top (a0 : Int) (a1 : (List Int)) (a2 : Int) (a3 : Int) (a4 : (List (Int × Int))) (r : List A) : ev f_iLongestChain_1_X (lpc (cnOf f_iLongestChain_1_LV) (f_iLongestChain_1_L r)) f_iLongestChain_1_c (K0 TT f_iLongestChain_1_rv) (enter [.v (.int .i64 a0), .ref (.lst (.one (.i .i64)) a1), .ref (.v (.int .i64 a2)), .ref (.v (.int .i64 a3)), .ref (.lst (.st [(.i .i8), (.i .u16)]) a4)]) = (cond (inB a0 (List.length a1)) (cond ((List.getD a1 (Int.toNat a0) 0) == a2) (cond (decide (a3 < 0)) (some [.v (.bool true)]) (cond (inB a0 (List.length a4)) (Option.bind (s_iJob_waits (List.getD a4 (Int.toNat a0) ((0, 0) : (Int × Int))).1 (List.getD a4 (Int.toNat a0) ((0, 0) : (Int × Int))).2 a3) fun r1 => (some [.v (.bool r1)])) none)) (some [.v (.bool false)])) none) := by kernel_rfl
noncomputable def l_iLongestChain_1 (r : Bool) : List A := [.v (.bool r)]
theorem s_iLongestChain_1_ok (a0 : Int) (a1 : (List Int)) (a2 : Int) (a3 : Int) (a4 : (List (Int × Int))) (v : Bool) (h : s_iLongestChain_1 a0 a1 a2 a3 a4 = some v) : (cond (inB a0 (List.length a1)) (cond ((List.getD a1 (Int.toNat a0) 0) == a2) (cond (decide (a3 < 0)) (some [.v (.bool true)]) (cond (inB a0 (List.length a4)) (Option.bind (s_iJob_waits (List.getD a4 (Int.toNat a0) ((0, 0) : (Int × Int))).1 (List.getD a4 (Int.toNat a0) ((0, 0) : (Int × Int))).2 a3) fun r1 => (some [.v (.bool r1)])) none)) (some [.v (.bool false)])) none) = some (l_iLongestChain_1 v) := by
  have e : (cond (inB a0 (List.length a1)) (cond ((List.getD a1 (Int.toNat a0) 0) == a2) (cond (decide (a3 < 0)) (some [.v (.bool true)]) (cond (inB a0 (List.length a4)) (Option.bind (s_iJob_waits (List.getD a4 (Int.toNat a0) ((0, 0) : (Int × Int))).1 (List.getD a4 (Int.toNat a0) ((0, 0) : (Int × Int))).2 a3) fun r1 => (some [.v (.bool r1)])) none)) (some [.v (.bool false)])) none) = Option.map l_iLongestChain_1 (s_iLongestChain_1 a0 a1 a2 a3 a4) := by
    unfold s_iLongestChain_1
    exact (cond_app (Option.map l_iLongestChain_1) (cond_app (Option.map l_iLongestChain_1) (cond_app (Option.map l_iLongestChain_1) rfl (cond_app (Option.map l_iLongestChain_1) (bind_app fun _ => rfl) rfl)) rfl) rfl)
  rw [e, h]; rfl
noncomputable def c_iLongestChain_1 : List A → ACall
  | [.v (.int .i64 a0), .ref (.lst (.one (.i .i64)) a1), .ref (.v (.int .i64 a2)), .ref (.v (.int .i64 a3)), .ref (.lst (.st [(.i .i8), (.i .u16)]) a4)] => ⟨Bool, s_iLongestChain_1 a0 a1 a2 a3 a4, fun r => .one (.v (.bool r))⟩
  | _ => ACall.fail
theorem f_iLongestChain_1_sound : Sound Try.prog 98 c_iLongestChain_1 := by
  refine sound_good f_iLongestChain_1_ctx f_iLongestChain_1_LV 5 Try.func98 (c := f_iLongestChain_1_c) (by kernel_rfl) (rv := f_iLongestChain_1_rv) (by kernel_rfl) (by kernel_rfl) (by kernel_rfl) (by kernel_rfl) fun rs => ?_
  unfold c_iLongestChain_1
  split
  · rename_i a0 a1 a2 a3 a4; intro v h; exact ⟨rfl, l_iLongestChain_1 v, rfl, (f_iLongestChain_1_top a0 a1 a2 a3 a4 _).trans (s_iLongestChain_1_ok a0 a1 a2 a3 a4 v h)⟩
  · intro v h; cases h

/-! ### function 96: slices.IndexFunc[[]int,int] -/
noncomputable def f_gIndexFunc_int_c_c : Code := match Try.f96.body with | some c => c | none => .skip
noncomputable def f_gIndexFunc_int_c_X : Ctx := ⟨TT, phiOf [(98, c_iLongestChain_1)], noPsi⟩
def f_gIndexFunc_int_c_LV : List (Nat × Keep) := [(2, ([0, 1, 7, 8], [], []))]
def f_gIndexFunc_int_c_rv : List ResultVar := [.tmp 4]
noncomputable def f_gIndexFunc_int_c_L (r : List A) : Nat → AS → Option (List A) := L f_gIndexFunc_int_c_X (cnOf f_gIndexFunc_int_c_LV) f_gIndexFunc_int_c_c (K0 TT f_gIndexFunc_int_c_rv) r
theorem f_gIndexFunc_int_c_ctx : CtxOK Try.prog f_gIndexFunc_int_c_X := ctx_of tab mix ⟨⟨Try.call98, f_iLongestChain_1_sound⟩, trivial⟩
noncomputable def f_gIndexFunc_int_c_s2 (x0 : Int) (x1 : Int) (x2 : (List Int)) (x3 : (List Int)) (x4 : Int) (x5 : Int) (x6 : (List (Int × Int))) : AS := ⟨[(0, .a (.sl 0)), (1, .a (.clo 98 [.ptr 1 [] (0), .ptr 3 [] (0), .ptr 4 [] (0), .ptr 5 [] (0)])), (7, .a (.v (.int .i64 x0))), (8, .a (.v (.int .i64 x1)))], [(0, some ⟨false, .arr (.one (.i .i64)) x2⟩), (1, some ⟨false, .box (.sl 2)⟩), (2, some ⟨false, .arr (.one (.i .i64)) x3⟩), (3, some ⟨false, .box (.v (.int .i64 x4))⟩), (4, some ⟨false, .box (.v (.int .i64 x5))⟩), (5, some ⟨false, .box (.sl 6)⟩), (6, some ⟨false, .arr (.st [(.i .i8), (.i .u16)]) x6⟩)], 7⟩
noncomputable def l_gIndexFunc_int_c (r : Int) : List A := [.v (.int .i64 r)]
theorem f_gIndexFunc_int_c_step2 (x0 : Int) (x1 : Int) (x2 : (List Int)) (x3 : (List Int)) (x4 : Int) (x5 : Int) (x6 : (List (Int × Int))) (r : List A) (h : (cond (decide (x1 < x0)) (cond (inB x1 (List.length x2)) (Option.bind (s_iLongestChain_1 (List.getD x2 (Int.toNat x1) 0) x3 x4 x5 x6) fun r1 => (cond r1 (some [.v (.int .i64 x1)]) (f_gIndexFunc_int_c_L r 2 (f_gIndexFunc_int_c_s2 x0 (IntKind.wrap .i64 (x1 + 1)) x2 x3 x4 x5 x6)))) none) (some [.v (.int .i64 (-1))])) = some r) : f_gIndexFunc_int_c_L r 2 (f_gIndexFunc_int_c_s2 x0 x1 x2 x3 x4 x5 x6) = some r :=
  step_of' h (by kernel_rfl)
noncomputable def f_gIndexFunc_int_c_n2 (x0 : Int) (x1 : Int) (x2 : (List Int)) (x3 : (List Int)) (x4 : Int) (x5 : Int) (x6 : (List (Int × Int))) : Option ((Int × Int × (List Int) × (List Int) × Int × Int × (List (Int × Int))) ⊕ Int) := (cond (decide (x1 < x0)) (cond (inB x1 (List.length x2)) (Option.bind (s_iLongestChain_1 (List.getD x2 (Int.toNat x1) 0) x3 x4 x5 x6) fun r1 => (cond r1 (some (Sum.inr x1)) (some (Sum.inl (x0, (IntKind.wrap .i64 (x1 + 1)), x2, x3, x4, x5, x6))))) none) (some (Sum.inr (-1))))
noncomputable def f_gIndexFunc_int_c_run2 (x : (Int × Int × (List Int) × (List Int) × Int × Int × (List (Int × Int)))) : Option Int := iter (fun x => f_gIndexFunc_int_c_n2 x.1 x.2.1 x.2.2.1 x.2.2.2.1 x.2.2.2.2.1 x.2.2.2.2.2.1 x.2.2.2.2.2.2) FU x
noncomputable def f_gIndexFunc_int_c_G2 (r : List A) (x : (Int × Int × (List Int) × (List Int) × Int × Int × (List (Int × Int)))) : Prop := f_gIndexFunc_int_c_L r 2 (f_gIndexFunc_int_c_s2 x.1 x.2.1 x.2.2.1 x.2.2.2.1 x.2.2.2.2.1 x.2.2.2.2.2.1 x.2.2.2.2.2.2) = some r
noncomputable def f_gIndexFunc_int_c_S2 (r : List A) : Int → Prop := fun v => r = l_gIndexFunc_int_c v
theorem f_gIndexFunc_int_c_go2 (r : List A) : ∀ x, sem (f_gIndexFunc_int_c_S2 r) (f_gIndexFunc_int_c_run2 x) → f_gIndexFunc_int_c_G2 r x :=
  fun x => iter_sound (step := fun x => f_gIndexFunc_int_c_n2 x.1 x.2.1 x.2.2.1 x.2.2.2.1 x.2.2.2.2.1 x.2.2.2.2.2.1 x.2.2.2.2.2.2) (fun x h => by
    unfold f_gIndexFunc_int_c_n2 at h
    exact f_gIndexFunc_int_c_step2 x.1 x.2.1 x.2.2.1 x.2.2.2.1 x.2.2.2.2.1 x.2.2.2.2.2.1 x.2.2.2.2.2.2 r ((sem_cond h (fun h => (sem_cond h (fun h => (sem_bind h fun r1 h => (sem_cond h (fun h => sem_got h fun q => some_eq q) (fun h => sem_got h fun q => q)))) (fun h => sem_none h))) (fun h => sem_got h fun q => some_eq q)))) FU x
noncomputable def s_gIndexFunc_int_c (a0 : (List Int)) (a1 : (List Int)) (a2 : Int) (a3 : Int) (a4 : (List (Int × Int))) : Option Int := (f_gIndexFunc_int_c_run2 (((List.length a0 : Nat) : Int), 0, a0, a1, a2, a3, a4))
theorem f_gIndexFunc_int_c_top (a0 : (List Int)) (a1 : (List Int)) (a2 : Int) (a3 : Int) (a4 : (List (Int × Int))) (r : List A) : ev f_gIndexFunc_int_c_X (lpc (cnOf f_gIndexFunc_int_c_LV) (f_gIndexFunc_int_c_L r)) f_gIndexFunc_int_c_c (K0 TT f_gIndexFunc_int_c_rv) (enter [.lst (.one (.i .i64)) a0, .clo 98 [.ref (.lst (.one (.i .i64)) a1), .ref (.v (.int .i64 a2)), .ref (.v (.int .i64 a3)), .ref (.lst (.st [(.i .i8), (.i .u16)]) a4)]]) = (f_gIndexFunc_int_c_L r 2 (f_gIndexFunc_int_c_s2 ((List.length a0 : Nat) : Int) 0 a0 a1 a2 a3 a4)) := by kernel_rfl
theorem s_gIndexFunc_int_c_ok (a0 : (List Int)) (a1 : (List Int)) (a2 : Int) (a3 : Int) (a4 : (List (Int × Int))) (v : Int) (h : s_gIndexFunc_int_c a0 a1 a2 a3 a4 = some v) : (f_gIndexFunc_int_c_L (l_gIndexFunc_int_c v) 2 (f_gIndexFunc_int_c_s2 ((List.length a0 : Nat) : Int) 0 a0 a1 a2 a3 a4)) = some (l_gIndexFunc_int_c v) := by
  unfold s_gIndexFunc_int_c at h
  have go : ∀ r, sem (fun v => r = l_gIndexFunc_int_c v) ((f_gIndexFunc_int_c_run2 (((List.length a0 : Nat) : Int), 0, a0, a1, a2, a3, a4))) → (f_gIndexFunc_int_c_L r 2 (f_gIndexFunc_int_c_s2 ((List.length a0 : Nat) : Int) 0 a0 a1 a2 a3 a4)) = some r := fun r h => f_gIndexFunc_int_c_go2 r _ h
  exact go (l_gIndexFunc_int_c v) ⟨v, h, rfl⟩
noncomputable def c_gIndexFunc_int_c : List A → ACall
  | [.lst (.one (.i .i64)) a0, .clo 98 [.ref (.lst (.one (.i .i64)) a1), .ref (.v (.int .i64 a2)), .ref (.v (.int .i64 a3)), .ref (.lst (.st [(.i .i8), (.i .u16)]) a4)]] => ⟨Int, s_gIndexFunc_int_c a0 a1 a2 a3 a4, fun r => .one (.v (.int .i64 r))⟩
  | _ => ACall.fail
theorem f_gIndexFunc_int_c_sound : Sound Try.prog 96 c_gIndexFunc_int_c := by
  refine sound_good f_gIndexFunc_int_c_ctx f_gIndexFunc_int_c_LV 2 Try.func96 (c := f_gIndexFunc_int_c_c) (by kernel_rfl) (rv := f_gIndexFunc_int_c_rv) (by kernel_rfl) (by kernel_rfl) (by kernel_rfl) (by kernel_rfl) fun rs => ?_
  unfold c_gIndexFunc_int_c
  split
  · rename_i a0 a1 a2 a3 a4; intro v h; exact ⟨rfl, l_gIndexFunc_int_c v, rfl, (f_gIndexFunc_int_c_top a0 a1 a2 a3 a4 _).trans (s_gIndexFunc_int_c_ok a0 a1 a2 a3 a4 v h)⟩
  · intro v h; cases h
def m_gIndexFunc_int_c : List A → Bool
  | [_, .clo 98 _] => true
  | _ => false

/-! ### function 36: loop.example/g01322/impl.LongestChain -/
noncomputable def f_iLongestChain_c : Code := match Try.f36.body with | some c => c | none => .skip
noncomputable def f_iLongestChain_X : Ctx := ⟨TT, phiOf [(96, c_gIndexFunc_int_c), (81, c_iValidJobs), (92, c_ilongest), (93, c_itails), (97, c_iindices)], noPsi⟩
def f_iLongestChain_LV : List (Nat × Keep) := [(5, ([1, 5, 6, 7, 8, 9], [], []))]
def f_iLongestChain_rv : List ResultVar := [.tmp 2, .tmp 3, .tmp 4]
noncomputable def f_iLongestChain_L (r : List A) : Nat → AS → Option (List A) := L f_iLongestChain_X (cnOf f_iLongestChain_LV) f_iLongestChain_c (K0 TT f_iLongestChain_rv) r
theorem f_iLongestChain_ctx : CtxOK Try.prog f_iLongestChain_X := ctx_of tab mix ⟨⟨Try.call96, f_gIndexFunc_int_c_sound⟩, ⟨Try.call81, f_iValidJobs_sound⟩, ⟨Try.call92, f_ilongest_sound⟩, ⟨Try.call93, f_itails_sound⟩, ⟨Try.call97, f_iindices_sound⟩, trivial⟩
noncomputable def f_iLongestChain_s5 (x0 : Int) (x1 : (List (Int × Int))) (x2 : (List Int)) (x3 : (List Int)) (x4 : Int) (x5 : Int) : AS := ⟨[(1, .a (.ptr 0 [] (0))), (5, .a (.ptr 2 [] (0))), (6, .a (.v (.int .i64 x0))), (7, .a (.sl 4)), (8, .a (.ptr 5 [] (0))), (9, .a (.ptr 6 [] (0)))], [(0, some ⟨true, .box (.sl 1)⟩), (1, some ⟨false, .arr (.st [(.i .i8), (.i .u16)]) x1⟩), (2, some ⟨true, .box (.sl 3)⟩), (3, some ⟨true, .arr (.one (.i .i64)) x2⟩), (4, some ⟨true, .arr (.one (.i .i64)) x3⟩), (5, some ⟨true, .box (.v (.int .i64 x4))⟩), (6, some ⟨true, .box (.v (.int .i64 x5))⟩)], 7⟩
noncomputable def l_iLongestChain (r : ((List Int) × Int × Int)) : List A := [.lst (.one (.i .i64)) r.1, .v (.int .i64 r.2.1), .v (.int .i64 r.2.2)]
theorem f_iLongestChain_step5 (x0 : Int) (x1 : (List (Int × Int))) (x2 : (List Int)) (x3 : (List Int)) (x4 : Int) (x5 : Int) (r : List A) (h : (cond (decide (x4 > 0)) (Option.bind (s_iindices x1) fun r4 => (Option.bind (s_gIndexFunc_int_c r4 x2 x4 x5 x1) fun r5 => (cond (fits ((List.length (x3 : List Int) + List.length ([r5] : List Int)) * 8)) (cond (inB r5 (List.length x1)) (f_iLongestChain_L r 5 (f_iLongestChain_s5 x0 x1 x2 (x3 ++ [r5]) (IntKind.wrap .i64 (x4 - (IntKind.wrap .i64 (List.getD x1 (Int.toNat r5) ((0, 0) : (Int × Int))).1))) r5)) none) none))) (some [.lst (.one (.i .i64)) x3, .v (.int .i64 x0), .v (.int .i64 0)])) = some r) : f_iLongestChain_L r 5 (f_iLongestChain_s5 x0 x1 x2 x3 x4 x5) = some r :=
  step_of' h (by kernel_rfl)
noncomputable def f_iLongestChain_n5 (x0 : Int) (x1 : (List (Int × Int))) (x2 : (List Int)) (x3 : (List Int)) (x4 : Int) (x5 : Int) : Option ((Int × (List (Int × Int)) × (List Int) × (List Int) × Int × Int) ⊕ ((List Int) × Int × Int)) := (cond (decide (x4 > 0)) (Option.bind (s_iindices x1) fun r4 => (Option.bind (s_gIndexFunc_int_c r4 x2 x4 x5 x1) fun r5 => (cond (fits ((List.length (x3 : List Int) + List.length ([r5] : List Int)) * 8)) (cond (inB r5 (List.length x1)) (some (Sum.inl (x0, x1, x2, (x3 ++ [r5]), (IntKind.wrap .i64 (x4 - (IntKind.wrap .i64 (List.getD x1 (Int.toNat r5) ((0, 0) : (Int × Int))).1))), r5))) none) none))) (some (Sum.inr (x3, x0, 0))))
noncomputable def f_iLongestChain_run5 (x : (Int × (List (Int × Int)) × (List Int) × (List Int) × Int × Int)) : Option ((List Int) × Int × Int) := iter (fun x => f_iLongestChain_n5 x.1 x.2.1 x.2.2.1 x.2.2.2.1 x.2.2.2.2.1 x.2.2.2.2.2) FU x
noncomputable def f_iLongestChain_G5 (r : List A) (x : (Int × (List (Int × Int)) × (List Int) × (List Int) × Int × Int)) : Prop := f_iLongestChain_L r 5 (f_iLongestChain_s5 x.1 x.2.1 x.2.2.1 x.2.2.2.1 x.2.2.2.2.1 x.2.2.2.2.2) = some r
noncomputable def f_iLongestChain_S5 (r : List A) : ((List Int) × Int × Int) → Prop := fun v => r = l_iLongestChain v
theorem f_iLongestChain_go5 (r : List A) : ∀ x, sem (f_iLongestChain_S5 r) (f_iLongestChain_run5 x) → f_iLongestChain_G5 r x :=
  fun x => iter_sound (step := fun x => f_iLongestChain_n5 x.1 x.2.1 x.2.2.1 x.2.2.2.1 x.2.2.2.2.1 x.2.2.2.2.2) (fun x h => by
    unfold f_iLongestChain_n5 at h
    exact f_iLongestChain_step5 x.1 x.2.1 x.2.2.1 x.2.2.2.1 x.2.2.2.2.1 x.2.2.2.2.2 r ((sem_cond h (fun h => (sem_bind h fun r4 h => (sem_bind h fun r5 h => (sem_cond h (fun h => (sem_cond h (fun h => sem_got h fun q => q) (fun h => sem_none h))) (fun h => sem_none h))))) (fun h => sem_got h fun q => some_eq q)))) FU x
noncomputable def s_iLongestChain (a0 : (List (Int × Int))) : Option ((List Int) × Int × Int) := (Option.bind (s_iValidJobs a0) fun r1 => (cond (!r1) (some ([], 0, 1)) (Option.bind (s_itails a0) fun r2 => (Option.bind (s_ilongest a0) fun r3 => (f_iLongestChain_run5 (r3, a0, r2, [], r3, (-1)))))))
theorem f_iLongestChain_top (a0 : (List (Int × Int))) (r : List A) : ev f_iLongestChain_X (lpc (cnOf f_iLongestChain_LV) (f_iLongestChain_L r)) f_iLongestChain_c (K0 TT f_iLongestChain_rv) (enter [.lst (.st [(.i .i8), (.i .u16)]) a0]) = (Option.bind (s_iValidJobs a0) fun r1 => (cond (!r1) (some [.lst (.one (.i .i64)) [], .v (.int .i64 0), .v (.int .i64 1)]) (Option.bind (s_itails a0) fun r2 => (Option.bind (s_ilongest a0) fun r3 => (f_iLongestChain_L r 5 (f_iLongestChain_s5 r3 a0 r2 [] r3 (-1))))))) := by kernel_rfl
theorem s_iLongestChain_ok (a0 : (List (Int × Int))) (v : ((List Int) × Int × Int)) (h : s_iLongestChain a0 = some v) : (Option.bind (s_iValidJobs a0) fun r1 => (cond (!r1) (some [.lst (.one (.i .i64)) [], .v (.int .i64 0), .v (.int .i64 1)]) (Option.bind (s_itails a0) fun r2 => (Option.bind (s_ilongest a0) fun r3 => (f_iLongestChain_L (l_iLongestChain v) 5 (f_iLongestChain_s5 r3 a0 r2 [] r3 (-1))))))) = some (l_iLongestChain v) := by
  unfold s_iLongestChain at h
  have go : ∀ r, sem (fun v => r = l_iLongestChain v) ((Option.bind (s_iValidJobs a0) fun r1 => (cond (!r1) (some ([], 0, 1)) (Option.bind (s_itails a0) fun r2 => (Option.bind (s_ilongest a0) fun r3 => (f_iLongestChain_run5 (r3, a0, r2, [], r3, (-1)))))))) → (Option.bind (s_iValidJobs a0) fun r1 => (cond (!r1) (some [.lst (.one (.i .i64)) [], .v (.int .i64 0), .v (.int .i64 1)]) (Option.bind (s_itails a0) fun r2 => (Option.bind (s_ilongest a0) fun r3 => (f_iLongestChain_L r 5 (f_iLongestChain_s5 r3 a0 r2 [] r3 (-1))))))) = some r := fun r h => (sem_bind h fun r1 h => (sem_cond h (fun h => sem_got h fun q => some_eq q) (fun h => (sem_bind h fun r2 h => (sem_bind h fun r3 h => f_iLongestChain_go5 r _ h)))))
  exact go (l_iLongestChain v) ⟨v, h, rfl⟩
noncomputable def c_iLongestChain : List A → ACall
  | [.lst (.st [(.i .i8), (.i .u16)]) a0] => ⟨((List Int) × Int × Int), s_iLongestChain a0, fun r => .tup [.lst (.one (.i .i64)) r.1, .v (.int .i64 r.2.1), .v (.int .i64 r.2.2)]⟩
  | _ => ACall.fail
theorem f_iLongestChain_sound : Sound Try.prog 36 c_iLongestChain := by
  refine sound_good f_iLongestChain_ctx f_iLongestChain_LV 1 Try.func36 (c := f_iLongestChain_c) (by kernel_rfl) (rv := f_iLongestChain_rv) (by kernel_rfl) (by kernel_rfl) (by kernel_rfl) (by kernel_rfl) fun rs => ?_
  unfold c_iLongestChain
  split
  · rename_i a0; intro v h; exact ⟨rfl, l_iLongestChain v, rfl, (f_iLongestChain_top a0 _).trans (s_iLongestChain_ok a0 v h)⟩
  · intro v h; cases h

/-! ### function 7: loop.example/g01322/laws.FnExactLongestChain -/
noncomputable def f_wFnExactLongestChain_c : Code := match Try.f7.body with | some c => c | none => .skip
noncomputable def f_wFnExactLongestChain_X : Ctx := ⟨TT, phiOf [(19, c_wszJobS), (21, c_wtoJobS), (23, c_weqJobS), (31, c_weqInt64S), (34, c_wheldInt64S), (35, c_sLongestChain), (36, c_iLongestChain)], (psiOf [(32, u_wmarkJobS), (33, u_wmarkInt64S)])⟩
def f_wFnExactLongestChain_LV : List (Nat × Keep) := []
def f_wFnExactLongestChain_rv : List ResultVar := [.tmp 2]
noncomputable def f_wFnExactLongestChain_L (r : List A) : Nat → AS → Option (List A) := L f_wFnExactLongestChain_X (cnOf f_wFnExactLongestChain_LV) f_wFnExactLongestChain_c (K0 TT f_wFnExactLongestChain_rv) r
theorem f_wFnExactLongestChain_ctx : CtxOK Try.prog f_wFnExactLongestChain_X := ctx_ofU tab mix (l := [(19, c_wszJobS), (21, c_wtoJobS), (23, c_weqJobS), (31, c_weqInt64S), (34, c_wheldInt64S), (35, c_sLongestChain), (36, c_iLongestChain)]) ⟨⟨Try.call19, f_wszJobS_sound⟩, ⟨Try.call21, f_wtoJobS_sound⟩, ⟨Try.call23, f_weqJobS_sound⟩, ⟨Try.call31, f_weqInt64S_sound⟩, ⟨Try.call34, f_wheldInt64S_sound⟩, ⟨Try.call35, f_sLongestChain_sound⟩, ⟨Try.call36, f_iLongestChain_sound⟩, trivial⟩ (psi_ok (l := [(32, u_wmarkJobS), (33, u_wmarkInt64S)]) ⟨⟨Try.call32, f_wmarkJobS_sound⟩, ⟨Try.call33, f_wmarkInt64S_sound⟩, trivial⟩)
noncomputable def s_wFnExactLongestChain (a0 : (List (Int × Int))) : Option Bool := (cond (decide ((s_wszJobS a0 1048576) < 0)) (some true) (Option.bind (s_wtoJobS a0) fun r1 => (Option.bind (s_sLongestChain r1) fun r2 => (Option.bind (s_wtoJobS a0) fun r3 => (Option.bind (s_iLongestChain r3) fun r4 => (Option.bind (s_weqInt64S (r4.1) (r2.1)) fun r5 => (cond (!r5) (some false) (cond (r4.2.1 != r2.2.1) (some false) (cond (r4.2.2 != r2.2.2) (some false) (Option.bind (s_wtoJobS a0) fun r6 => (Option.bind (s_weqJobS r3 r6) fun r7 => (cond (!r7) (some false) (Option.bind (s_wmarkJobS r3 1) fun r8 => (cond (decide (r8.1 < 0)) (some false) (Option.bind (s_weqInt64S (r4.1) (r2.1)) fun r9 => (cond (!r9) (some false) (cond (r4.2.1 != r2.2.1) (some false) (cond (r4.2.2 != r2.2.2) (some false) (Option.bind (s_wmarkInt64S (r4.1) 1) fun r10 => (Option.bind (s_wheldInt64S (r10.2) 1) fun r11 => (cond (decide (r11 < 0)) (some false) (cond (r11 != r10.1) (some false) (Option.bind (s_wtoJobS a0) fun r12 => (Option.bind (s_iLongestChain r12) fun r13 => (Option.bind (s_weqInt64S (r13.1) (r2.1)) fun r14 => (cond (!r14) (some false) (cond (r13.2.1 != r2.2.1) (some false) (cond (r13.2.2 != r2.2.2) (some false) (Option.bind (s_wheldInt64S (r10.2) 1) fun r15 => (cond (decide (r15 < 0)) (some false) (cond (r15 != r10.1) (some false) (some true))))))))))))))))))))))))))))))))
theorem f_wFnExactLongestChain_top (a0 : (List (Int × Int))) (r : List A) : ev f_wFnExactLongestChain_X (lpc (cnOf f_wFnExactLongestChain_LV) (f_wFnExactLongestChain_L r)) f_wFnExactLongestChain_c (K0 TT f_wFnExactLongestChain_rv) (enter [.lst (.st [(.i .i8), (.i .u16)]) a0]) = (cond (decide ((s_wszJobS a0 1048576) < 0)) (some [.v (.bool true)]) (Option.bind (s_wtoJobS a0) fun r1 => (Option.bind (s_sLongestChain r1) fun r2 => (Option.bind (s_wtoJobS a0) fun r3 => (Option.bind (s_iLongestChain r3) fun r4 => (Option.bind (s_weqInt64S (r4.1) (r2.1)) fun r5 => (cond (!r5) (some [.v (.bool false)]) (cond (r4.2.1 != r2.2.1) (some [.v (.bool false)]) (cond (r4.2.2 != r2.2.2) (some [.v (.bool false)]) (Option.bind (s_wtoJobS a0) fun r6 => (Option.bind (s_weqJobS r3 r6) fun r7 => (cond (!r7) (some [.v (.bool false)]) (Option.bind (s_wmarkJobS r3 1) fun r8 => (cond (decide (r8.1 < 0)) (some [.v (.bool false)]) (Option.bind (s_weqInt64S (r4.1) (r2.1)) fun r9 => (cond (!r9) (some [.v (.bool false)]) (cond (r4.2.1 != r2.2.1) (some [.v (.bool false)]) (cond (r4.2.2 != r2.2.2) (some [.v (.bool false)]) (Option.bind (s_wmarkInt64S (r4.1) 1) fun r10 => (Option.bind (s_wheldInt64S (r10.2) 1) fun r11 => (cond (decide (r11 < 0)) (some [.v (.bool false)]) (cond (r11 != r10.1) (some [.v (.bool false)]) (Option.bind (s_wtoJobS a0) fun r12 => (Option.bind (s_iLongestChain r12) fun r13 => (Option.bind (s_weqInt64S (r13.1) (r2.1)) fun r14 => (cond (!r14) (some [.v (.bool false)]) (cond (r13.2.1 != r2.2.1) (some [.v (.bool false)]) (cond (r13.2.2 != r2.2.2) (some [.v (.bool false)]) (Option.bind (s_wheldInt64S (r10.2) 1) fun r15 => (cond (decide (r15 < 0)) (some [.v (.bool false)]) (cond (r15 != r10.1) (some [.v (.bool false)]) (some [.v (.bool true)])))))))))))))))))))))))))))))))) := by kernel_rfl
noncomputable def l_wFnExactLongestChain (r : Bool) : List A := [.v (.bool r)]
theorem s_wFnExactLongestChain_ok (a0 : (List (Int × Int))) (v : Bool) (h : s_wFnExactLongestChain a0 = some v) : (cond (decide ((s_wszJobS a0 1048576) < 0)) (some [.v (.bool true)]) (Option.bind (s_wtoJobS a0) fun r1 => (Option.bind (s_sLongestChain r1) fun r2 => (Option.bind (s_wtoJobS a0) fun r3 => (Option.bind (s_iLongestChain r3) fun r4 => (Option.bind (s_weqInt64S (r4.1) (r2.1)) fun r5 => (cond (!r5) (some [.v (.bool false)]) (cond (r4.2.1 != r2.2.1) (some [.v (.bool false)]) (cond (r4.2.2 != r2.2.2) (some [.v (.bool false)]) (Option.bind (s_wtoJobS a0) fun r6 => (Option.bind (s_weqJobS r3 r6) fun r7 => (cond (!r7) (some [.v (.bool false)]) (Option.bind (s_wmarkJobS r3 1) fun r8 => (cond (decide (r8.1 < 0)) (some [.v (.bool false)]) (Option.bind (s_weqInt64S (r4.1) (r2.1)) fun r9 => (cond (!r9) (some [.v (.bool false)]) (cond (r4.2.1 != r2.2.1) (some [.v (.bool false)]) (cond (r4.2.2 != r2.2.2) (some [.v (.bool false)]) (Option.bind (s_wmarkInt64S (r4.1) 1) fun r10 => (Option.bind (s_wheldInt64S (r10.2) 1) fun r11 => (cond (decide (r11 < 0)) (some [.v (.bool false)]) (cond (r11 != r10.1) (some [.v (.bool false)]) (Option.bind (s_wtoJobS a0) fun r12 => (Option.bind (s_iLongestChain r12) fun r13 => (Option.bind (s_weqInt64S (r13.1) (r2.1)) fun r14 => (cond (!r14) (some [.v (.bool false)]) (cond (r13.2.1 != r2.2.1) (some [.v (.bool false)]) (cond (r13.2.2 != r2.2.2) (some [.v (.bool false)]) (Option.bind (s_wheldInt64S (r10.2) 1) fun r15 => (cond (decide (r15 < 0)) (some [.v (.bool false)]) (cond (r15 != r10.1) (some [.v (.bool false)]) (some [.v (.bool true)])))))))))))))))))))))))))))))))) = some (l_wFnExactLongestChain v) := by
  have e : (cond (decide ((s_wszJobS a0 1048576) < 0)) (some [.v (.bool true)]) (Option.bind (s_wtoJobS a0) fun r1 => (Option.bind (s_sLongestChain r1) fun r2 => (Option.bind (s_wtoJobS a0) fun r3 => (Option.bind (s_iLongestChain r3) fun r4 => (Option.bind (s_weqInt64S (r4.1) (r2.1)) fun r5 => (cond (!r5) (some [.v (.bool false)]) (cond (r4.2.1 != r2.2.1) (some [.v (.bool false)]) (cond (r4.2.2 != r2.2.2) (some [.v (.bool false)]) (Option.bind (s_wtoJobS a0) fun r6 => (Option.bind (s_weqJobS r3 r6) fun r7 => (cond (!r7) (some [.v (.bool false)]) (Option.bind (s_wmarkJobS r3 1) fun r8 => (cond (decide (r8.1 < 0)) (some [.v (.bool false)]) (Option.bind (s_weqInt64S (r4.1) (r2.1)) fun r9 => (cond (!r9) (some [.v (.bool false)]) (cond (r4.2.1 != r2.2.1) (some [.v (.bool false)]) (cond (r4.2.2 != r2.2.2) (some [.v (.bool false)]) (Option.bind (s_wmarkInt64S (r4.1) 1) fun r10 => (Option.bind (s_wheldInt64S (r10.2) 1) fun r11 => (cond (decide (r11 < 0)) (some [.v (.bool false)]) (cond (r11 != r10.1) (some [.v (.bool false)]) (Option.bind (s_wtoJobS a0) fun r12 => (Option.bind (s_iLongestChain r12) fun r13 => (Option.bind (s_weqInt64S (r13.1) (r2.1)) fun r14 => (cond (!r14) (some [.v (.bool false)]) (cond (r13.2.1 != r2.2.1) (some [.v (.bool false)]) (cond (r13.2.2 != r2.2.2) (some [.v (.bool false)]) (Option.bind (s_wheldInt64S (r10.2) 1) fun r15 => (cond (decide (r15 < 0)) (some [.v (.bool false)]) (cond (r15 != r10.1) (some [.v (.bool false)]) (some [.v (.bool true)])))))))))))))))))))))))))))))))) = Option.map l_wFnExactLongestChain (s_wFnExactLongestChain a0) := by
    unfold s_wFnExactLongestChain
    exact (cond_app (Option.map l_wFnExactLongestChain) rfl (bind_app fun _ => (bind_app fun _ => (bind_app fun _ => (bind_app fun _ => (bind_app fun _ => (cond_app (Option.map l_wFnExactLongestChain) rfl (cond_app (Option.map l_wFnExactLongestChain) rfl (cond_app (Option.map l_wFnExactLongestChain) rfl (bind_app fun _ => (bind_app fun _ => (cond_app (Option.map l_wFnExactLongestChain) rfl (bind_app fun _ => (cond_app (Option.map l_wFnExactLongestChain) rfl (bind_app fun _ => (cond_app (Option.map l_wFnExactLongestChain) rfl (cond_app (Option.map l_wFnExactLongestChain) rfl (cond_app (Option.map l_wFnExactLongestChain) rfl (bind_app fun _ => (bind_app fun _ => (cond_app (Option.map l_wFnExactLongestChain) rfl (cond_app (Option.map l_wFnExactLongestChain) rfl (bind_app fun _ => (bind_app fun _ => (bind_app fun _ => (cond_app (Option.map l_wFnExactLongestChain) rfl (cond_app (Option.map l_wFnExactLongestChain) rfl (cond_app (Option.map l_wFnExactLongestChain) rfl (bind_app fun _ => (cond_app (Option.map l_wFnExactLongestChain) rfl (cond_app (Option.map l_wFnExactLongestChain) rfl rfl)))))))))))))))))))))))))))))))
  rw [e, h]; rfl
noncomputable def c_wFnExactLongestChain : List A → ACall
  | [.lst (.st [(.i .i8), (.i .u16)]) a0] => ⟨Bool, s_wFnExactLongestChain a0, fun r => .one (.v (.bool r))⟩
  | _ => ACall.fail
theorem f_wFnExactLongestChain_sound : Sound Try.prog 7 c_wFnExactLongestChain := by
  refine sound_good f_wFnExactLongestChain_ctx f_wFnExactLongestChain_LV 1 Try.func7 (c := f_wFnExactLongestChain_c) (by kernel_rfl) (rv := f_wFnExactLongestChain_rv) (by kernel_rfl) (by kernel_rfl) (by kernel_rfl) (by kernel_rfl) fun rs => ?_
  unfold c_wFnExactLongestChain
  split
  · rename_i a0; intro v h; exact ⟨rfl, l_wFnExactLongestChain v, rfl, (f_wFnExactLongestChain_top a0 _).trans (s_wFnExactLongestChain_ok a0 v h)⟩
  · intro v h; cases h
end Go.RR
