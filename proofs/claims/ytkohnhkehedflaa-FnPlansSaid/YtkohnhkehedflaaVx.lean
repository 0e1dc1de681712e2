/- Plans: idle days, busy days, orders. -/
import Derived.Test.YtkohnhkehedflaaVs
import Derived.Test.YtkohnhkehedflaaVw
set_option linter.unusedVariables false
set_option linter.unusedSimpArgs false
set_option linter.unusedSectionVars false
set_option maxRecDepth 100000
namespace Go.RR
open Go Go.Proofs
noncomputable def f_q1u_c : Code := match Try.f201.body with | some c => c | none => .skip
noncomputable def f_q1u_X : Ctx := ⟨TT, phiOf [(92, c_q1v)], noPsi, noXi⟩
def f_q1u_LV : List (Nat × Keep) := []
def f_q1u_rv : List ResultVar := [.tmp 4]
noncomputable def f_q1u_L (r : List A) : Nat → AS → Option (List A) := L f_q1u_X (cnOf f_q1u_LV) f_q1u_c (K0 TT f_q1u_rv) r
theorem f_q1u_ctx : CtxOK Try.prog f_q1u_X := ctx_of tab mix ⟨⟨Try.call92, f_q1v_sound⟩, trivial⟩
noncomputable def s_q1u (a0 a1 a2 : Int) : Bool := (cond (s_q1v (IntKind.wrap .i64 a0) 0 (IntKind.wrap .i64 (a2 - 1))) (s_q1v (IntKind.wrap .i64 a1) 0 1000) false)
theorem f_q1u_top (a0 a1 a2 : Int) (r : List A) : ev f_q1u_X (lpc (cnOf f_q1u_LV) (f_q1u_L r)) f_q1u_c (K0 TT f_q1u_rv) (enter [.rc [.v (.int .i8 a0), .v (.int .i16 a1)], .v (.int .i64 a2)]) = (cond (s_q1v (IntKind.wrap .i64 a0) 0 (IntKind.wrap .i64 (a2 - 1))) (some [.v (.bool (s_q1v (IntKind.wrap .i64 a1) 0 1000))]) (some [.v (.bool false)])) := by kernel_rfl
noncomputable def l_q1u (r : Bool) : List A := [.v (.bool r)]
theorem s_q1u_ok (a0 a1 a2 : Int) : (cond (s_q1v (IntKind.wrap .i64 a0) 0 (IntKind.wrap .i64 (a2 - 1))) (some [.v (.bool (s_q1v (IntKind.wrap .i64 a1) 0 1000))]) (some [.v (.bool false)])) = some (l_q1u (s_q1u a0 a1 a2)) := by
 unfold s_q1u
 exact (cond_app (fun x => some (l_q1u x)) rfl rfl)
noncomputable def c_q1u : List A → ACall
 | [.rc [.v (.int .i8 a0), .v (.int .i16 a1)], .v (.int .i64 a2)] => ⟨Bool, some (s_q1u a0 a1 a2), fun r => .one (.v (.bool r))⟩
 | _ => ACall.fail
theorem f_q1u_sound : Sound Try.prog 201 c_q1u := by
 refine sound_good f_q1u_ctx f_q1u_LV 2 Try.func201 (c := f_q1u_c) (by kernel_rfl) (rv := f_q1u_rv) (by kernel_rfl) (by kernel_rfl) (by kernel_rfl) (by kernel_rfl) fun rs => ?_
 unfold c_q1u
 split
 ·rename_i a0 a1 a2; intro v h; cases h; exact ⟨rfl, l_q1u (s_q1u a0 a1 a2), rfl, (f_q1u_top a0 a1 a2 _).trans (s_q1u_ok a0 a1 a2)⟩
 ·intro v h; cases h
noncomputable def f_q1f_c : Code := match Try.f200.body with | some c => c | none => .skip
noncomputable def f_q1f_X : Ctx := ⟨TT, phiOf [(149, c_q29), (194, c_q0o), (201, c_q1u)], noPsi, noXi⟩
def f_q1f_LV : List (Nat × Keep) := [(5, ([0, 2, 3, 6, 17, 18, 19], [], []))]
def f_q1f_rv : List ResultVar := [.tmp 5]
noncomputable def f_q1f_L (r : List A) : Nat → AS → Option (List A) := L f_q1f_X (cnOf f_q1f_LV) f_q1f_c (K0 TT f_q1f_rv) r
theorem f_q1f_ctx : CtxOK Try.prog f_q1f_X := ctx_of tab mix ⟨⟨Try.call149, f_q29_sound⟩, ⟨Try.call194, f_q0o_sound⟩, ⟨Try.call201, f_q1u_sound⟩, trivial⟩
noncomputable def f_q1f_s5 (x0 x1 x2 x3 : Int) (x4 : List (Int × Int)) (x5 x6 : Int) (x7 : List (Int × Int)) : AS := ⟨[(0, .a (.v (.int .i64 x0))), (2, .a (.ptr 0 [] (0))), (3, .a (.ptr 1 [] (0))), (6, .a (.ptr 3 [] (0))), (17, .a (.sl 4)), (18, .a (.v (.int .i64 x1))), (19, .a (.v (.int .i64 x2)))], [(0, some ⟨false, .box (.v (.int .i64 x3))⟩), (1, some ⟨false, .box (.sl 2)⟩), (2, some ⟨false, .arr (.st [(.i .i8), (.i .u16)]) x4⟩), (3, some ⟨true, .box (.rc [.v (.int .i8 x5), .v (.int .i16 x6)])⟩), (4, some ⟨false, .arr (.st [(.i .i8), (.i .i16)]) x7⟩)], 5⟩
noncomputable def l_q1f (r : Bool) : List A := [.v (.bool r)]
theorem f_q1f_step5 (x0 x1 x2 x3 : Int) (x4 : List (Int × Int)) (x5 x6 : Int) (x7 : List (Int × Int)) (r : List A) (h : (cond (decide (x2 < x1)) (cond (inB x2 (List.length x7)) (cond (!(s_q1u (List.getD x7 (Int.toNat x2) ((0, 0) : (Int × Int))).1 (List.getD x7 (Int.toNat x2) ((0, 0) : (Int × Int))).2 x3)) (f_q1f_L r 5 (f_q1f_s5 x0 x1 (IntKind.wrap .i64 (x2 + 1)) x3 x4 x5 x6 x7)) (cond (inB x0 (List.length x4)) (Option.bind (s_q0o (List.getD x4 (Int.toNat x0) ((0, 0) : (Int × Int))).1 (List.getD x4 (Int.toNat x0) ((0, 0) : (Int × Int))).2 x2) fun r1 => (cond r1 (cond (inB x2 (List.length x4)) (cond (decide ((IntKind.wrap .i64 x6) < (s_q29 (List.getD x4 (Int.toNat x2) ((0, 0) : (Int × Int))).1 (List.getD x4 (Int.toNat x2) ((0, 0) : (Int × Int))).2 (List.getD x7 (Int.toNat x2) ((0, 0) : (Int × Int))).1 (List.getD x7 (Int.toNat x2) ((0, 0) : (Int × Int))).2))) (some [.v (.bool true)]) (cond (decide (x2 < x0)) (cond ((List.getD x7 (Int.toNat x2) ((0, 0) : (Int × Int))).1 == x5) (cond (inB x2 (List.length x4)) (cond (decide ((IntKind.wrap .i64 x6) < (s_q29 (List.getD x4 (Int.toNat x2) ((0, 0) : (Int × Int))).1 (List.getD x4 (Int.toNat x2) ((0, 0) : (Int × Int))).2 (List.getD x7 (Int.toNat x2) ((0, 0) : (Int × Int))).1 (List.getD x7 (Int.toNat x2) ((0, 0) : (Int × Int))).2))) (cond (inB x0 (List.length x4)) (cond (decide ((IntKind.wrap .i64 (List.getD x7 (Int.toNat x2) ((0, 0) : (Int × Int))).2) < (s_q29 (List.getD x4 (Int.toNat x0) ((0, 0) : (Int × Int))).1 (List.getD x4 (Int.toNat x0) ((0, 0) : (Int × Int))).2 x5 x6))) (some [.v (.bool true)]) (f_q1f_L r 5 (f_q1f_s5 x0 x1 (IntKind.wrap .i64 (x2 + 1)) x3 x4 x5 x6 x7))) none) (f_q1f_L r 5 (f_q1f_s5 x0 x1 (IntKind.wrap .i64 (x2 + 1)) x3 x4 x5 x6 x7))) none) (f_q1f_L r 5 (f_q1f_s5 x0 x1 (IntKind.wrap .i64 (x2 + 1)) x3 x4 x5 x6 x7))) (f_q1f_L r 5 (f_q1f_s5 x0 x1 (IntKind.wrap .i64 (x2 + 1)) x3 x4 x5 x6 x7)))) none) (cond (decide (x2 < x0)) (cond ((List.getD x7 (Int.toNat x2) ((0, 0) : (Int × Int))).1 == x5) (cond (inB x2 (List.length x4)) (cond (decide ((IntKind.wrap .i64 x6) < (s_q29 (List.getD x4 (Int.toNat x2) ((0, 0) : (Int × Int))).1 (List.getD x4 (Int.toNat x2) ((0, 0) : (Int × Int))).2 (List.getD x7 (Int.toNat x2) ((0, 0) : (Int × Int))).1 (List.getD x7 (Int.toNat x2) ((0, 0) : (Int × Int))).2))) (cond (inB x0 (List.length x4)) (cond (decide ((IntKind.wrap .i64 (List.getD x7 (Int.toNat x2) ((0, 0) : (Int × Int))).2) < (s_q29 (List.getD x4 (Int.toNat x0) ((0, 0) : (Int × Int))).1 (List.getD x4 (Int.toNat x0) ((0, 0) : (Int × Int))).2 x5 x6))) (some [.v (.bool true)]) (f_q1f_L r 5 (f_q1f_s5 x0 x1 (IntKind.wrap .i64 (x2 + 1)) x3 x4 x5 x6 x7))) none) (f_q1f_L r 5 (f_q1f_s5 x0 x1 (IntKind.wrap .i64 (x2 + 1)) x3 x4 x5 x6 x7))) none) (f_q1f_L r 5 (f_q1f_s5 x0 x1 (IntKind.wrap .i64 (x2 + 1)) x3 x4 x5 x6 x7))) (f_q1f_L r 5 (f_q1f_s5 x0 x1 (IntKind.wrap .i64 (x2 + 1)) x3 x4 x5 x6 x7))))) none)) none) (some [.v (.bool false)])) = some r) : f_q1f_L r 5 (f_q1f_s5 x0 x1 x2 x3 x4 x5 x6 x7) = some r :=
 step_of' h (by kernel_rfl)
noncomputable def f_q1f_n5 (x0 x1 x2 x3 : Int) (x4 : List (Int × Int)) (x5 x6 : Int) (x7 : List (Int × Int)) : Option ((Int × Int × Int × Int × (List (Int × Int)) × Int × Int × (List (Int × Int))) ⊕ Bool) := (cond (decide (x2 < x1)) (cond (inB x2 (List.length x7)) (cond (!(s_q1u (List.getD x7 (Int.toNat x2) ((0, 0) : (Int × Int))).1 (List.getD x7 (Int.toNat x2) ((0, 0) : (Int × Int))).2 x3)) (some (Sum.inl (x0, x1, (IntKind.wrap .i64 (x2 + 1)), x3, x4, x5, x6, x7))) (cond (inB x0 (List.length x4)) (Option.bind (s_q0o (List.getD x4 (Int.toNat x0) ((0, 0) : (Int × Int))).1 (List.getD x4 (Int.toNat x0) ((0, 0) : (Int × Int))).2 x2) fun r1 => (cond r1 (cond (inB x2 (List.length x4)) (cond (decide ((IntKind.wrap .i64 x6) < (s_q29 (List.getD x4 (Int.toNat x2) ((0, 0) : (Int × Int))).1 (List.getD x4 (Int.toNat x2) ((0, 0) : (Int × Int))).2 (List.getD x7 (Int.toNat x2) ((0, 0) : (Int × Int))).1 (List.getD x7 (Int.toNat x2) ((0, 0) : (Int × Int))).2))) (some (Sum.inr true)) (cond (decide (x2 < x0)) (cond ((List.getD x7 (Int.toNat x2) ((0, 0) : (Int × Int))).1 == x5) (cond (inB x2 (List.length x4)) (cond (decide ((IntKind.wrap .i64 x6) < (s_q29 (List.getD x4 (Int.toNat x2) ((0, 0) : (Int × Int))).1 (List.getD x4 (Int.toNat x2) ((0, 0) : (Int × Int))).2 (List.getD x7 (Int.toNat x2) ((0, 0) : (Int × Int))).1 (List.getD x7 (Int.toNat x2) ((0, 0) : (Int × Int))).2))) (cond (inB x0 (List.length x4)) (cond (decide ((IntKind.wrap .i64 (List.getD x7 (Int.toNat x2) ((0, 0) : (Int × Int))).2) < (s_q29 (List.getD x4 (Int.toNat x0) ((0, 0) : (Int × Int))).1 (List.getD x4 (Int.toNat x0) ((0, 0) : (Int × Int))).2 x5 x6))) (some (Sum.inr true)) (some (Sum.inl (x0, x1, (IntKind.wrap .i64 (x2 + 1)), x3, x4, x5, x6, x7)))) none) (some (Sum.inl (x0, x1, (IntKind.wrap .i64 (x2 + 1)), x3, x4, x5, x6, x7)))) none) (some (Sum.inl (x0, x1, (IntKind.wrap .i64 (x2 + 1)), x3, x4, x5, x6, x7)))) (some (Sum.inl (x0, x1, (IntKind.wrap .i64 (x2 + 1)), x3, x4, x5, x6, x7))))) none) (cond (decide (x2 < x0)) (cond ((List.getD x7 (Int.toNat x2) ((0, 0) : (Int × Int))).1 == x5) (cond (inB x2 (List.length x4)) (cond (decide ((IntKind.wrap .i64 x6) < (s_q29 (List.getD x4 (Int.toNat x2) ((0, 0) : (Int × Int))).1 (List.getD x4 (Int.toNat x2) ((0, 0) : (Int × Int))).2 (List.getD x7 (Int.toNat x2) ((0, 0) : (Int × Int))).1 (List.getD x7 (Int.toNat x2) ((0, 0) : (Int × Int))).2))) (cond (inB x0 (List.length x4)) (cond (decide ((IntKind.wrap .i64 (List.getD x7 (Int.toNat x2) ((0, 0) : (Int × Int))).2) < (s_q29 (List.getD x4 (Int.toNat x0) ((0, 0) : (Int × Int))).1 (List.getD x4 (Int.toNat x0) ((0, 0) : (Int × Int))).2 x5 x6))) (some (Sum.inr true)) (some (Sum.inl (x0, x1, (IntKind.wrap .i64 (x2 + 1)), x3, x4, x5, x6, x7)))) none) (some (Sum.inl (x0, x1, (IntKind.wrap .i64 (x2 + 1)), x3, x4, x5, x6, x7)))) none) (some (Sum.inl (x0, x1, (IntKind.wrap .i64 (x2 + 1)), x3, x4, x5, x6, x7)))) (some (Sum.inl (x0, x1, (IntKind.wrap .i64 (x2 + 1)), x3, x4, x5, x6, x7)))))) none)) none) (some (Sum.inr false)))
noncomputable def f_q1f_run5 (x : (Int × Int × Int × Int × (List (Int × Int)) × Int × Int × (List (Int × Int)))) : Option Bool := iter (fun x => f_q1f_n5 x.1 x.2.1 x.2.2.1 x.2.2.2.1 x.2.2.2.2.1 x.2.2.2.2.2.1 x.2.2.2.2.2.2.1 x.2.2.2.2.2.2.2) FU x
noncomputable def f_q1f_G5 (r : List A) (x : (Int × Int × Int × Int × (List (Int × Int)) × Int × Int × (List (Int × Int)))) : Prop := f_q1f_L r 5 (f_q1f_s5 x.1 x.2.1 x.2.2.1 x.2.2.2.1 x.2.2.2.2.1 x.2.2.2.2.2.1 x.2.2.2.2.2.2.1 x.2.2.2.2.2.2.2) = some r
noncomputable def f_q1f_S5 (r : List A) : Bool → Prop := fun v => r = l_q1f v
theorem f_q1f_go5 (r : List A) : ∀ x, sem (f_q1f_S5 r) (f_q1f_run5 x) → f_q1f_G5 r x :=
 fun x => iter_sound (step := fun x => f_q1f_n5 x.1 x.2.1 x.2.2.1 x.2.2.2.1 x.2.2.2.2.1 x.2.2.2.2.2.1 x.2.2.2.2.2.2.1 x.2.2.2.2.2.2.2) (fun x h => by
  unfold f_q1f_n5 at h
  exact f_q1f_step5 x.1 x.2.1 x.2.2.1 x.2.2.2.1 x.2.2.2.2.1 x.2.2.2.2.2.1 x.2.2.2.2.2.2.1 x.2.2.2.2.2.2.2 r ((sem_cond h (fun h => (sem_cond h (fun h => (sem_cond h (fun h => sem_got h fun q => q) (fun h => (sem_cond h (fun h => (sem_bind h fun r1 h => (sem_cond h (fun h => (sem_cond h (fun h => (sem_cond h (fun h => sem_got h fun q => some_eq q) (fun h => (sem_cond h (fun h => (sem_cond h (fun h => (sem_cond h (fun h => (sem_cond h (fun h => (sem_cond h (fun h => (sem_cond h (fun h => sem_got h fun q => some_eq q) (fun h => sem_got h fun q => q))) (fun h => sem_none h))) (fun h => sem_got h fun q => q))) (fun h => sem_none h))) (fun h => sem_got h fun q => q))) (fun h => sem_got h fun q => q))))) (fun h => sem_none h))) (fun h => (sem_cond h (fun h => (sem_cond h (fun h => (sem_cond h (fun h => (sem_cond h (fun h => (sem_cond h (fun h => (sem_cond h (fun h => sem_got h fun q => some_eq q) (fun h => sem_got h fun q => q))) (fun h => sem_none h))) (fun h => sem_got h fun q => q))) (fun h => sem_none h))) (fun h => sem_got h fun q => q))) (fun h => sem_got h fun q => q)))))) (fun h => sem_none h))))) (fun h => sem_none h))) (fun h => sem_got h fun q => some_eq q)))) FU x
noncomputable def s_q1f (a0 : Int) (a1 : List (Int × Int)) (a2 : Int) (a3 : List (Int × Int)) : Option Bool := (cond (inB a0 (List.length a1)) (cond (!(s_q1u (List.getD a1 (Int.toNat a0) ((0, 0) : (Int × Int))).1 (List.getD a1 (Int.toNat a0) ((0, 0) : (Int × Int))).2 a2)) (some true) (f_q1f_run5 (a0, ((List.length a1 : Nat) : Int), 0, a2, a3, (List.getD a1 (Int.toNat a0) ((0, 0) : (Int × Int))).1, (List.getD a1 (Int.toNat a0) ((0, 0) : (Int × Int))).2, a1))) none)
theorem f_q1f_top (a0 : Int) (a1 : List (Int × Int)) (a2 : Int) (a3 : List (Int × Int)) (r : List A) : ev f_q1f_X (lpc (cnOf f_q1f_LV) (f_q1f_L r)) f_q1f_c (K0 TT f_q1f_rv) (enter [.v (.int .i64 a0), .ref (.lst (.st [(.i .i8), (.i .i16)]) a1), .ref (.v (.int .i64 a2)), .ref (.lst (.st [(.i .i8), (.i .u16)]) a3)]) = (cond (inB a0 (List.length a1)) (cond (!(s_q1u (List.getD a1 (Int.toNat a0) ((0, 0) : (Int × Int))).1 (List.getD a1 (Int.toNat a0) ((0, 0) : (Int × Int))).2 a2)) (some [.v (.bool true)]) (f_q1f_L r 5 (f_q1f_s5 a0 ((List.length a1 : Nat) : Int) 0 a2 a3 (List.getD a1 (Int.toNat a0) ((0, 0) : (Int × Int))).1 (List.getD a1 (Int.toNat a0) ((0, 0) : (Int × Int))).2 a1))) none) := by kernel_rfl
theorem s_q1f_ok (a0 : Int) (a1 : List (Int × Int)) (a2 : Int) (a3 : List (Int × Int)) (v : Bool) (h : s_q1f a0 a1 a2 a3 = some v) : (cond (inB a0 (List.length a1)) (cond (!(s_q1u (List.getD a1 (Int.toNat a0) ((0, 0) : (Int × Int))).1 (List.getD a1 (Int.toNat a0) ((0, 0) : (Int × Int))).2 a2)) (some [.v (.bool true)]) (f_q1f_L (l_q1f v) 5 (f_q1f_s5 a0 ((List.length a1 : Nat) : Int) 0 a2 a3 (List.getD a1 (Int.toNat a0) ((0, 0) : (Int × Int))).1 (List.getD a1 (Int.toNat a0) ((0, 0) : (Int × Int))).2 a1))) none) = some (l_q1f v) := by
 unfold s_q1f at h
 have go : ∀ r, sem (fun v => r = l_q1f v) ((cond (inB a0 (List.length a1)) (cond (!(s_q1u (List.getD a1 (Int.toNat a0) ((0, 0) : (Int × Int))).1 (List.getD a1 (Int.toNat a0) ((0, 0) : (Int × Int))).2 a2)) (some true) (f_q1f_run5 (a0, ((List.length a1 : Nat) : Int), 0, a2, a3, (List.getD a1 (Int.toNat a0) ((0, 0) : (Int × Int))).1, (List.getD a1 (Int.toNat a0) ((0, 0) : (Int × Int))).2, a1))) none)) → (cond (inB a0 (List.length a1)) (cond (!(s_q1u (List.getD a1 (Int.toNat a0) ((0, 0) : (Int × Int))).1 (List.getD a1 (Int.toNat a0) ((0, 0) : (Int × Int))).2 a2)) (some [.v (.bool true)]) (f_q1f_L r 5 (f_q1f_s5 a0 ((List.length a1 : Nat) : Int) 0 a2 a3 (List.getD a1 (Int.toNat a0) ((0, 0) : (Int × Int))).1 (List.getD a1 (Int.toNat a0) ((0, 0) : (Int × Int))).2 a1))) none) = some r := fun r h => (sem_cond h (fun h => (sem_cond h (fun h => sem_got h fun q => some_eq q) (fun h => f_q1f_go5 r _ h))) (fun h => sem_none h))
 exact go (l_q1f v) ⟨v, h, rfl⟩
noncomputable def c_q1f : List A → ACall
 | [.v (.int .i64 a0), .ref (.lst (.st [(.i .i8), (.i .i16)]) a1), .ref (.v (.int .i64 a2)), .ref (.lst (.st [(.i .i8), (.i .u16)]) a3)] => ⟨Bool, s_q1f a0 a1 a2 a3, fun r => .one (.v (.bool r))⟩
 | _ => ACall.fail
theorem f_q1f_sound : Sound Try.prog 200 c_q1f := by
 refine sound_good f_q1f_ctx f_q1f_LV 4 Try.func200 (c := f_q1f_c) (by kernel_rfl) (rv := f_q1f_rv) (by kernel_rfl) (by kernel_rfl) (by kernel_rfl) (by kernel_rfl) fun rs => ?_
 unfold c_q1f
 split
 ·rename_i a0 a1 a2 a3; intro v h; exact ⟨rfl, l_q1f v, rfl, (f_q1f_top a0 a1 a2 a3 _).trans (s_q1f_ok a0 a1 a2 a3 v h)⟩
 ·intro v h; cases h
noncomputable def f_q03_c : Code := match Try.f198.body with | some c => c | none => .skip
noncomputable def f_q03_X : Ctx := ⟨TT, phiOf [(200, c_q1f)], noPsi, noXi⟩
def f_q03_LV : List (Nat × Keep) := [(2, ([0, 1, 7, 8], [], []))]
def f_q03_rv : List ResultVar := [.tmp 4]
noncomputable def f_q03_L (r : List A) : Nat → AS → Option (List A) := L f_q03_X (cnOf f_q03_LV) f_q03_c (K0 TT f_q03_rv) r
theorem f_q03_ctx : CtxOK Try.prog f_q03_X := ctx_of tab mix ⟨⟨Try.call200, f_q1f_sound⟩, trivial⟩
noncomputable def f_q03_s2 (x0 x1 : Int) (x2 : List Int) (x3 : List (Int × Int)) (x4 : Int) (x5 : List (Int × Int)) : AS := ⟨[(0, .a (.sl 0)), (1, .a (.clo 200 [.ptr 1 [] (0), .ptr 3 [] (0), .ptr 4 [] (0)])), (7, .a (.v (.int .i64 x0))), (8, .a (.v (.int .i64 x1)))], [(0, some ⟨false, .arr (.one (.i .i64)) x2⟩), (1, some ⟨false, .box (.sl 2)⟩), (2, some ⟨false, .arr (.st [(.i .i8), (.i .i16)]) x3⟩), (3, some ⟨false, .box (.v (.int .i64 x4))⟩), (4, some ⟨false, .box (.sl 5)⟩), (5, some ⟨false, .arr (.st [(.i .i8), (.i .u16)]) x5⟩)], 6⟩
noncomputable def l_q03 (r : Int) : List A := [.v (.int .i64 r)]
theorem f_q03_step2 (x0 x1 : Int) (x2 : List Int) (x3 : List (Int × Int)) (x4 : Int) (x5 : List (Int × Int)) (r : List A) (h : (cond (decide (x1 < x0)) (cond (inB x1 (List.length x2)) (Option.bind (s_q1f (List.getD x2 (Int.toNat x1) 0) x3 x4 x5) fun r1 => (cond r1 (some [.v (.int .i64 x1)]) (f_q03_L r 2 (f_q03_s2 x0 (IntKind.wrap .i64 (x1 + 1)) x2 x3 x4 x5)))) none) (some [.v (.int .i64 (-1))])) = some r) : f_q03_L r 2 (f_q03_s2 x0 x1 x2 x3 x4 x5) = some r :=
 step_of' h (by kernel_rfl)
noncomputable def f_q03_n2 (x0 x1 : Int) (x2 : List Int) (x3 : List (Int × Int)) (x4 : Int) (x5 : List (Int × Int)) : Option ((Int × Int × (List Int) × (List (Int × Int)) × Int × (List (Int × Int))) ⊕ Int) := (cond (decide (x1 < x0)) (cond (inB x1 (List.length x2)) (Option.bind (s_q1f (List.getD x2 (Int.toNat x1) 0) x3 x4 x5) fun r1 => (cond r1 (some (Sum.inr x1)) (some (Sum.inl (x0, (IntKind.wrap .i64 (x1 + 1)), x2, x3, x4, x5))))) none) (some (Sum.inr (-1))))
noncomputable def f_q03_run2 (x : (Int × Int × (List Int) × (List (Int × Int)) × Int × (List (Int × Int)))) : Option Int := iter (fun x => f_q03_n2 x.1 x.2.1 x.2.2.1 x.2.2.2.1 x.2.2.2.2.1 x.2.2.2.2.2) FU x
noncomputable def f_q03_G2 (r : List A) (x : (Int × Int × (List Int) × (List (Int × Int)) × Int × (List (Int × Int)))) : Prop := f_q03_L r 2 (f_q03_s2 x.1 x.2.1 x.2.2.1 x.2.2.2.1 x.2.2.2.2.1 x.2.2.2.2.2) = some r
noncomputable def f_q03_S2 (r : List A) : Int → Prop := fun v => r = l_q03 v
theorem f_q03_go2 (r : List A) : ∀ x, sem (f_q03_S2 r) (f_q03_run2 x) → f_q03_G2 r x :=
 fun x => iter_sound (step := fun x => f_q03_n2 x.1 x.2.1 x.2.2.1 x.2.2.2.1 x.2.2.2.2.1 x.2.2.2.2.2) (fun x h => by
  unfold f_q03_n2 at h
  exact f_q03_step2 x.1 x.2.1 x.2.2.1 x.2.2.2.1 x.2.2.2.2.1 x.2.2.2.2.2 r ((sem_cond h (fun h => (sem_cond h (fun h => (sem_bind h fun r1 h => (sem_cond h (fun h => sem_got h fun q => some_eq q) (fun h => sem_got h fun q => q)))) (fun h => sem_none h))) (fun h => sem_got h fun q => some_eq q)))) FU x
noncomputable def s_q03 (a0 : List Int) (a1 : List (Int × Int)) (a2 : Int) (a3 : List (Int × Int)) : Option Int := (f_q03_run2 (((List.length a0 : Nat) : Int), 0, a0, a1, a2, a3))
theorem f_q03_top (a0 : List Int) (a1 : List (Int × Int)) (a2 : Int) (a3 : List (Int × Int)) (r : List A) : ev f_q03_X (lpc (cnOf f_q03_LV) (f_q03_L r)) f_q03_c (K0 TT f_q03_rv) (enter [.lst (.one (.i .i64)) a0, .clo 200 [.ref (.lst (.st [(.i .i8), (.i .i16)]) a1), .ref (.v (.int .i64 a2)), .ref (.lst (.st [(.i .i8), (.i .u16)]) a3)]]) = (f_q03_L r 2 (f_q03_s2 ((List.length a0 : Nat) : Int) 0 a0 a1 a2 a3)) := by kernel_rfl
theorem s_q03_ok (a0 : List Int) (a1 : List (Int × Int)) (a2 : Int) (a3 : List (Int × Int)) (v : Int) (h : s_q03 a0 a1 a2 a3 = some v) : (f_q03_L (l_q03 v) 2 (f_q03_s2 ((List.length a0 : Nat) : Int) 0 a0 a1 a2 a3)) = some (l_q03 v) := by
 unfold s_q03 at h
 have go : ∀ r, sem (fun v => r = l_q03 v) ((f_q03_run2 (((List.length a0 : Nat) : Int), 0, a0, a1, a2, a3))) → (f_q03_L r 2 (f_q03_s2 ((List.length a0 : Nat) : Int) 0 a0 a1 a2 a3)) = some r := fun r h => f_q03_go2 r _ h
 exact go (l_q03 v) ⟨v, h, rfl⟩
noncomputable def c_q03 : List A → ACall
 | [.lst (.one (.i .i64)) a0, .clo 200 [.ref (.lst (.st [(.i .i8), (.i .i16)]) a1), .ref (.v (.int .i64 a2)), .ref (.lst (.st [(.i .i8), (.i .u16)]) a3)]] => ⟨Int, s_q03 a0 a1 a2 a3, fun r => .one (.v (.int .i64 r))⟩
 | _ => ACall.fail
theorem f_q03_sound : Sound Try.prog 198 c_q03 := by
 refine sound_good f_q03_ctx f_q03_LV 2 Try.func198 (c := f_q03_c) (by kernel_rfl) (rv := f_q03_rv) (by kernel_rfl) (by kernel_rfl) (by kernel_rfl) (by kernel_rfl) fun rs => ?_
 unfold c_q03
 split
 ·rename_i a0 a1 a2 a3; intro v h; exact ⟨rfl, l_q03 v, rfl, (f_q03_top a0 a1 a2 a3 _).trans (s_q03_ok a0 a1 a2 a3 v h)⟩
 ·intro v h; cases h
noncomputable def f_q24_c : Code := match Try.f155.body with | some c => c | none => .skip
noncomputable def f_q24_X : Ctx := ⟨TT, phiOf [(198, c_q03), (199, c_q19)], noPsi, noXi⟩
def f_q24_LV : List (Nat × Keep) := []
def f_q24_rv : List ResultVar := [.tmp 6]
noncomputable def f_q24_L (r : List A) : Nat → AS → Option (List A) := L f_q24_X (cnOf f_q24_LV) f_q24_c (K0 TT f_q24_rv) r
theorem f_q24_ctx : CtxOK Try.prog f_q24_X := ctx_of tab mix ⟨⟨Try.call198, f_q03_sound⟩, ⟨Try.call199, f_q19_sound⟩, trivial⟩
noncomputable def s_q24 (a0 : List (Int × Int)) (a1 : Int) (a2 : List (Int × Int)) : Option Int := (Option.bind (s_q19 a0) fun r1 => (Option.bind (s_q03 r1 a2 a1 a0) fun r2 => (some r2)))
theorem f_q24_top (a0 : List (Int × Int)) (a1 : Int) (a2 : List (Int × Int)) (r : List A) : ev f_q24_X (lpc (cnOf f_q24_LV) (f_q24_L r)) f_q24_c (K0 TT f_q24_rv) (enter [.lst (.st [(.i .i8), (.i .u16)]) a0, .v (.int .i64 a1), .lst (.st [(.i .i8), (.i .i16)]) a2]) = (Option.bind (s_q19 a0) fun r1 => (Option.bind (s_q03 r1 a2 a1 a0) fun r2 => (some [.v (.int .i64 r2)]))) := by kernel_rfl
noncomputable def l_q24 (r : Int) : List A := [.v (.int .i64 r)]
theorem s_q24_ok (a0 : List (Int × Int)) (a1 : Int) (a2 : List (Int × Int)) (v : Int) (h : s_q24 a0 a1 a2 = some v) : (Option.bind (s_q19 a0) fun r1 => (Option.bind (s_q03 r1 a2 a1 a0) fun r2 => (some [.v (.int .i64 r2)]))) = some (l_q24 v) := by
 have e : (Option.bind (s_q19 a0) fun r1 => (Option.bind (s_q03 r1 a2 a1 a0) fun r2 => (some [.v (.int .i64 r2)]))) = Option.map l_q24 (s_q24 a0 a1 a2) := by
  unfold s_q24
  exact (bind_app fun _ => (bind_app fun _ => rfl))
 rw [e, h]; rfl
noncomputable def c_q24 : List A → ACall
 | [.lst (.st [(.i .i8), (.i .u16)]) a0, .v (.int .i64 a1), .lst (.st [(.i .i8), (.i .i16)]) a2] => ⟨Int, s_q24 a0 a1 a2, fun r => .one (.v (.int .i64 r))⟩
 | _ => ACall.fail
theorem f_q24_sound : Sound Try.prog 155 c_q24 := by
 refine sound_good f_q24_ctx f_q24_LV 3 Try.func155 (c := f_q24_c) (by kernel_rfl) (rv := f_q24_rv) (by kernel_rfl) (by kernel_rfl) (by kernel_rfl) (by kernel_rfl) fun rs => ?_
 unfold c_q24
 split
 ·rename_i a0 a1 a2; intro v h; exact ⟨rfl, l_q24 v, rfl, (f_q24_top a0 a1 a2 _).trans (s_q24_ok a0 a1 a2 v h)⟩
 ·intro v h; cases h
noncomputable def f_q0j_c : Code := match Try.f79.body with | some c => c | none => .skip
noncomputable def f_q0j_X : Ctx := ⟨TT, phiOf [(108, c_q0p), (124, c_q1a), (155, c_q24)], noPsi, noXi⟩
def f_q0j_LV : List (Nat × Keep) := []
def f_q0j_rv : List ResultVar := [.tmp 6]
noncomputable def f_q0j_L (r : List A) : Nat → AS → Option (List A) := L f_q0j_X (cnOf f_q0j_LV) f_q0j_c (K0 TT f_q0j_rv) r
theorem f_q0j_ctx : CtxOK Try.prog f_q0j_X := ctx_of tab mix ⟨⟨Try.call108, f_q0p_sound⟩, ⟨Try.call124, f_q1a_sound⟩, ⟨Try.call155, f_q24_sound⟩, trivial⟩
noncomputable def s_q0j (a0 : List (Int × Int)) (a1 : Int) (a2 : List (Int × Int)) : Option Bool := (Option.bind (s_q0p a0) fun r1 => (cond r1 (cond (s_q1a a1) (cond (((List.length a2 : Nat) : Int) == ((List.length a0 : Nat) : Int)) (Option.bind (s_q24 a0 a1 a2) fun r2 => (some (decide (r2 < 0)))) (some false)) (some false)) (some false)))
theorem f_q0j_top (a0 : List (Int × Int)) (a1 : Int) (a2 : List (Int × Int)) (r : List A) : ev f_q0j_X (lpc (cnOf f_q0j_LV) (f_q0j_L r)) f_q0j_c (K0 TT f_q0j_rv) (enter [.lst (.st [(.i .i8), (.i .u16)]) a0, .v (.int .i64 a1), .lst (.st [(.i .i8), (.i .i16)]) a2]) = (Option.bind (s_q0p a0) fun r1 => (cond r1 (cond (s_q1a a1) (cond (((List.length a2 : Nat) : Int) == ((List.length a0 : Nat) : Int)) (Option.bind (s_q24 a0 a1 a2) fun r2 => (some [.v (.bool (decide (r2 < 0)))])) (some [.v (.bool false)])) (some [.v (.bool false)])) (some [.v (.bool false)]))) := by kernel_rfl
noncomputable def l_q0j (r : Bool) : List A := [.v (.bool r)]
theorem s_q0j_ok (a0 : List (Int × Int)) (a1 : Int) (a2 : List (Int × Int)) (v : Bool) (h : s_q0j a0 a1 a2 = some v) : (Option.bind (s_q0p a0) fun r1 => (cond r1 (cond (s_q1a a1) (cond (((List.length a2 : Nat) : Int) == ((List.length a0 : Nat) : Int)) (Option.bind (s_q24 a0 a1 a2) fun r2 => (some [.v (.bool (decide (r2 < 0)))])) (some [.v (.bool false)])) (some [.v (.bool false)])) (some [.v (.bool false)]))) = some (l_q0j v) := by
 have e : (Option.bind (s_q0p a0) fun r1 => (cond r1 (cond (s_q1a a1) (cond (((List.length a2 : Nat) : Int) == ((List.length a0 : Nat) : Int)) (Option.bind (s_q24 a0 a1 a2) fun r2 => (some [.v (.bool (decide (r2 < 0)))])) (some [.v (.bool false)])) (some [.v (.bool false)])) (some [.v (.bool false)]))) = Option.map l_q0j (s_q0j a0 a1 a2) := by
  unfold s_q0j
  exact (bind_app fun _ => (cond_app (Option.map l_q0j) (cond_app (Option.map l_q0j) (cond_app (Option.map l_q0j) (bind_app fun _ => rfl) rfl) rfl) rfl))
 rw [e, h]; rfl
noncomputable def c_q0j : List A → ACall
 | [.lst (.st [(.i .i8), (.i .u16)]) a0, .v (.int .i64 a1), .lst (.st [(.i .i8), (.i .i16)]) a2] => ⟨Bool, s_q0j a0 a1 a2, fun r => .one (.v (.bool r))⟩
 | _ => ACall.fail
theorem f_q0j_sound : Sound Try.prog 79 c_q0j := by
 refine sound_good f_q0j_ctx f_q0j_LV 3 Try.func79 (c := f_q0j_c) (by kernel_rfl) (rv := f_q0j_rv) (by kernel_rfl) (by kernel_rfl) (by kernel_rfl) (by kernel_rfl) fun rs => ?_
 unfold c_q0j
 split
 ·rename_i a0 a1 a2; intro v h; exact ⟨rfl, l_q0j v, rfl, (f_q0j_top a0 a1 a2 _).trans (s_q0j_ok a0 a1 a2 v h)⟩
 ·intro v h; cases h
noncomputable def f_q0w_c : Code := match Try.f114.body with | some c => c | none => .skip
noncomputable def f_q0w_X : Ctx := ⟨TT, phiOf [(108, c_q0p), (124, c_q1a), (79, c_q0j), (91, c_q1t)], noPsi, noXi⟩
def f_q0w_LV : List (Nat × Keep) := []
def f_q0w_rv : List ResultVar := [.tmp 6]
noncomputable def f_q0w_L (r : List A) : Nat → AS → Option (List A) := L f_q0w_X (cnOf f_q0w_LV) f_q0w_c (K0 TT f_q0w_rv) r
theorem f_q0w_ctx : CtxOK Try.prog f_q0w_X := ctx_of tab mix ⟨⟨Try.call108, f_q0p_sound⟩, ⟨Try.call124, f_q1a_sound⟩, ⟨Try.call79, f_q0j_sound⟩, ⟨Try.call91, f_q1t_sound⟩, trivial⟩
noncomputable def s_q0w (a0 : List (Int × Int)) (a1 : Int) (a2 : List (Int × Int)) : Option Int := (Option.bind (s_q0p a0) fun r1 => (cond ((s_q1t r1 (s_q1a a1)) != 0) (some (s_q1t r1 (s_q1a a1))) (Option.bind (s_q0j a0 a1 a2) fun r2 => (some (s_q1t r2 true)))))
theorem f_q0w_top (a0 : List (Int × Int)) (a1 : Int) (a2 : List (Int × Int)) (r : List A) : ev f_q0w_X (lpc (cnOf f_q0w_LV) (f_q0w_L r)) f_q0w_c (K0 TT f_q0w_rv) (enter [.lst (.st [(.i .i8), (.i .u16)]) a0, .v (.int .i64 a1), .lst (.st [(.i .i8), (.i .i16)]) a2]) = (Option.bind (s_q0p a0) fun r1 => (cond ((s_q1t r1 (s_q1a a1)) != 0) (some [.v (.int .i64 (s_q1t r1 (s_q1a a1)))]) (Option.bind (s_q0j a0 a1 a2) fun r2 => (some [.v (.int .i64 (s_q1t r2 true))])))) := by kernel_rfl
noncomputable def l_q0w (r : Int) : List A := [.v (.int .i64 r)]
theorem s_q0w_ok (a0 : List (Int × Int)) (a1 : Int) (a2 : List (Int × Int)) (v : Int) (h : s_q0w a0 a1 a2 = some v) : (Option.bind (s_q0p a0) fun r1 => (cond ((s_q1t r1 (s_q1a a1)) != 0) (some [.v (.int .i64 (s_q1t r1 (s_q1a a1)))]) (Option.bind (s_q0j a0 a1 a2) fun r2 => (some [.v (.int .i64 (s_q1t r2 true))])))) = some (l_q0w v) := by
 have e : (Option.bind (s_q0p a0) fun r1 => (cond ((s_q1t r1 (s_q1a a1)) != 0) (some [.v (.int .i64 (s_q1t r1 (s_q1a a1)))]) (Option.bind (s_q0j a0 a1 a2) fun r2 => (some [.v (.int .i64 (s_q1t r2 true))])))) = Option.map l_q0w (s_q0w a0 a1 a2) := by
  unfold s_q0w
  exact (bind_app fun _ => (cond_app (Option.map l_q0w) rfl (bind_app fun _ => rfl)))
 rw [e, h]; rfl
noncomputable def c_q0w : List A → ACall
 | [.lst (.st [(.i .i8), (.i .u16)]) a0, .v (.int .i64 a1), .lst (.st [(.i .i8), (.i .i16)]) a2] => ⟨Int, s_q0w a0 a1 a2, fun r => .one (.v (.int .i64 r))⟩
 | _ => ACall.fail
theorem f_q0w_sound : Sound Try.prog 114 c_q0w := by
 refine sound_good f_q0w_ctx f_q0w_LV 3 Try.func114 (c := f_q0w_c) (by kernel_rfl) (rv := f_q0w_rv) (by kernel_rfl) (by kernel_rfl) (by kernel_rfl) (by kernel_rfl) fun rs => ?_
 unfold c_q0w
 split
 ·rename_i a0 a1 a2; intro v h; exact ⟨rfl, l_q0w v, rfl, (f_q0w_top a0 a1 a2 _).trans (s_q0w_ok a0 a1 a2 v h)⟩
 ·intro v h; cases h
noncomputable def f_q0v_c : Code := match Try.f116.body with | some c => c | none => .skip
noncomputable def f_q0v_X : Ctx := ⟨TT, phiOf [(149, c_q29)], noPsi, noXi⟩
def f_q0v_LV : List (Nat × Keep) := [(3, ([1, 5, 8, 9, 10], [], []))]
def f_q0v_rv : List ResultVar := [.tmp 4]
noncomputable def f_q0v_L (r : List A) : Nat → AS → Option (List A) := L f_q0v_X (cnOf f_q0v_LV) f_q0v_c (K0 TT f_q0v_rv) r
theorem f_q0v_ctx : CtxOK Try.prog f_q0v_X := ctx_of tab mix ⟨⟨Try.call149, f_q29_sound⟩, trivial⟩
noncomputable def f_q0v_s3 (x0 x1 x2 : Int) (x3 x4 : List (Int × Int)) : AS := ⟨[(1, .a (.sl 0)), (5, .a (.v (.int .i64 x0))), (8, .a (.sl 1)), (9, .a (.v (.int .i64 x1))), (10, .a (.v (.int .i64 x2)))], [(0, some ⟨false, .arr (.st [(.i .i8), (.i .i16)]) x3⟩), (1, some ⟨false, .arr (.st [(.i .i8), (.i .u16)]) x4⟩)], 2⟩
noncomputable def l_q0v (r : Int) : List A := [.v (.int .i64 r)]
theorem f_q0v_step3 (x0 x1 x2 : Int) (x3 x4 : List (Int × Int)) (r : List A) (h : (cond (decide (x2 < x1)) (cond (inB x2 (List.length x4)) (cond (inB x2 (List.length x3)) (f_q0v_L r 3 (f_q0v_s3 (max x0 (s_q29 (List.getD x4 (Int.toNat x2) ((0, 0) : (Int × Int))).1 (List.getD x4 (Int.toNat x2) ((0, 0) : (Int × Int))).2 (List.getD x3 (Int.toNat x2) ((0, 0) : (Int × Int))).1 (List.getD x3 (Int.toNat x2) ((0, 0) : (Int × Int))).2)) x1 (IntKind.wrap .i64 (x2 + 1)) x3 x4)) none) none) (some [.v (.int .i64 x0)])) = some r) : f_q0v_L r 3 (f_q0v_s3 x0 x1 x2 x3 x4) = some r :=
 step_of' h (by kernel_rfl)
noncomputable def f_q0v_n3 (x0 x1 x2 : Int) (x3 x4 : List (Int × Int)) : Option ((Int × Int × Int × (List (Int × Int)) × (List (Int × Int))) ⊕ Int) := (cond (decide (x2 < x1)) (cond (inB x2 (List.length x4)) (cond (inB x2 (List.length x3)) (some (Sum.inl ((max x0 (s_q29 (List.getD x4 (Int.toNat x2) ((0, 0) : (Int × Int))).1 (List.getD x4 (Int.toNat x2) ((0, 0) : (Int × Int))).2 (List.getD x3 (Int.toNat x2) ((0, 0) : (Int × Int))).1 (List.getD x3 (Int.toNat x2) ((0, 0) : (Int × Int))).2)), x1, (IntKind.wrap .i64 (x2 + 1)), x3, x4))) none) none) (some (Sum.inr x0)))
noncomputable def f_q0v_run3 (x : (Int × Int × Int × (List (Int × Int)) × (List (Int × Int)))) : Option Int := iter (fun x => f_q0v_n3 x.1 x.2.1 x.2.2.1 x.2.2.2.1 x.2.2.2.2) FU x
noncomputable def f_q0v_G3 (r : List A) (x : (Int × Int × Int × (List (Int × Int)) × (List (Int × Int)))) : Prop := f_q0v_L r 3 (f_q0v_s3 x.1 x.2.1 x.2.2.1 x.2.2.2.1 x.2.2.2.2) = some r
noncomputable def f_q0v_S3 (r : List A) : Int → Prop := fun v => r = l_q0v v
theorem f_q0v_go3 (r : List A) : ∀ x, sem (f_q0v_S3 r) (f_q0v_run3 x) → f_q0v_G3 r x :=
 fun x => iter_sound (step := fun x => f_q0v_n3 x.1 x.2.1 x.2.2.1 x.2.2.2.1 x.2.2.2.2) (fun x h => by
  unfold f_q0v_n3 at h
  exact f_q0v_step3 x.1 x.2.1 x.2.2.1 x.2.2.2.1 x.2.2.2.2 r ((sem_cond h (fun h => (sem_cond h (fun h => (sem_cond h (fun h => sem_got h fun q => q) (fun h => sem_none h))) (fun h => sem_none h))) (fun h => sem_got h fun q => some_eq q)))) FU x
noncomputable def s_q0v (a0 a1 : List (Int × Int)) : Option Int := (f_q0v_run3 (0, ((List.length a0 : Nat) : Int), 0, a1, a0))
theorem f_q0v_top (a0 a1 : List (Int × Int)) (r : List A) : ev f_q0v_X (lpc (cnOf f_q0v_LV) (f_q0v_L r)) f_q0v_c (K0 TT f_q0v_rv) (enter [.lst (.st [(.i .i8), (.i .u16)]) a0, .lst (.st [(.i .i8), (.i .i16)]) a1]) = (f_q0v_L r 3 (f_q0v_s3 0 ((List.length a0 : Nat) : Int) 0 a1 a0)) := by kernel_rfl
theorem s_q0v_ok (a0 a1 : List (Int × Int)) (v : Int) (h : s_q0v a0 a1 = some v) : (f_q0v_L (l_q0v v) 3 (f_q0v_s3 0 ((List.length a0 : Nat) : Int) 0 a1 a0)) = some (l_q0v v) := by
 unfold s_q0v at h
 have go : ∀ r, sem (fun v => r = l_q0v v) ((f_q0v_run3 (0, ((List.length a0 : Nat) : Int), 0, a1, a0))) → (f_q0v_L r 3 (f_q0v_s3 0 ((List.length a0 : Nat) : Int) 0 a1 a0)) = some r := fun r h => f_q0v_go3 r _ h
 exact go (l_q0v v) ⟨v, h, rfl⟩
noncomputable def c_q0v : List A → ACall
 | [.lst (.st [(.i .i8), (.i .u16)]) a0, .lst (.st [(.i .i8), (.i .i16)]) a1] => ⟨Int, s_q0v a0 a1, fun r => .one (.v (.int .i64 r))⟩
 | _ => ACall.fail
theorem f_q0v_sound : Sound Try.prog 116 c_q0v := by
 refine sound_good f_q0v_ctx f_q0v_LV 2 Try.func116 (c := f_q0v_c) (by kernel_rfl) (rv := f_q0v_rv) (by kernel_rfl) (by kernel_rfl) (by kernel_rfl) (by kernel_rfl) fun rs => ?_
 unfold c_q0v
 split
 ·rename_i a0 a1; intro v h; exact ⟨rfl, l_q0v v, rfl, (f_q0v_top a0 a1 _).trans (s_q0v_ok a0 a1 v h)⟩
 ·intro v h; cases h
noncomputable def f_q0u_c : Code := match Try.f33.body with | some c => c | none => .skip
noncomputable def f_q0u_X : Ctx := ⟨TT, phiOf [(114, c_q0w), (115, c_q1r), (116, c_q0v)], noPsi, noXi⟩
def f_q0u_LV : List (Nat × Keep) := [(6, ([2, 9, 25, 26, 27], [], []))]
def f_q0u_rv : List ResultVar := [.tmp 6, .tmp 7]
noncomputable def f_q0u_L (r : List A) : Nat → AS → Option (List A) := L f_q0u_X (cnOf f_q0u_LV) f_q0u_c (K0 TT f_q0u_rv) r
theorem f_q0u_ctx : CtxOK Try.prog f_q0u_X := ctx_of tab mix ⟨⟨Try.call114, f_q0w_sound⟩, ⟨Try.call115, f_q1r_sound⟩, ⟨Try.call116, f_q0v_sound⟩, trivial⟩
noncomputable def f_q0u_s6 (x0 x1 : Int) (x2 : List (Int × Int)) (x3 : List Int) (x4 : List (Int × Int)) : AS := ⟨[(2, .a (.sl 0)), (9, .a (.sl 1)), (25, .a (.sl 2)), (26, .a (.v (.int .i64 x0))), (27, .a (.v (.int .i64 x1)))], [(0, some ⟨false, .arr (.st [(.i .i8), (.i .i16)]) x2⟩), (1, some ⟨true, .arr (.one (.i .i64)) x3⟩), (2, some ⟨false, .arr (.st [(.i .i8), (.i .u16)]) x4⟩)], 3⟩
noncomputable def l_q0u (r : ((List Int) × Int)) : List A := [.lst (.one (.i .i64)) r.1, .v (.int .i64 r.2)]
theorem f_q0u_step6 (x0 x1 : Int) (x2 : List (Int × Int)) (x3 : List Int) (x4 : List (Int × Int)) (r : List A) (h : (cond (decide (x1 < x0)) (cond (inB x1 (List.length x4)) (cond (inB x1 (List.length x2)) (cond (inB (List.getD x2 (Int.toNat x1) ((0, 0) : (Int × Int))).1 (List.length x3)) (cond (inB (List.getD x2 (Int.toNat x1) ((0, 0) : (Int × Int))).1 (List.length x3)) (f_q0u_L r 6 (f_q0u_s6 x0 (IntKind.wrap .i64 (x1 + 1)) x2 (List.set x3 (Int.toNat (List.getD x2 (Int.toNat x1) ((0, 0) : (Int × Int))).1) (IntKind.wrap .i64 ((List.getD x3 (Int.toNat (List.getD x2 (Int.toNat x1) ((0, 0) : (Int × Int))).1) 0) - (IntKind.wrap .i64 (List.getD x4 (Int.toNat x1) ((0, 0) : (Int × Int))).1)))) x4)) none) none) none) none) (some [.lst (.one (.i .i64)) x3, .v (.int .i64 0)])) = some r) : f_q0u_L r 6 (f_q0u_s6 x0 x1 x2 x3 x4) = some r :=
 step_of' h (by kernel_rfl)
noncomputable def f_q0u_n6 (x0 x1 : Int) (x2 : List (Int × Int)) (x3 : List Int) (x4 : List (Int × Int)) : Option ((Int × Int × (List (Int × Int)) × (List Int) × (List (Int × Int))) ⊕ ((List Int) × Int)) := (cond (decide (x1 < x0)) (cond (inB x1 (List.length x4)) (cond (inB x1 (List.length x2)) (cond (inB (List.getD x2 (Int.toNat x1) ((0, 0) : (Int × Int))).1 (List.length x3)) (cond (inB (List.getD x2 (Int.toNat x1) ((0, 0) : (Int × Int))).1 (List.length x3)) (some (Sum.inl (x0, (IntKind.wrap .i64 (x1 + 1)), x2, (List.set x3 (Int.toNat (List.getD x2 (Int.toNat x1) ((0, 0) : (Int × Int))).1) (IntKind.wrap .i64 ((List.getD x3 (Int.toNat (List.getD x2 (Int.toNat x1) ((0, 0) : (Int × Int))).1) 0) - (IntKind.wrap .i64 (List.getD x4 (Int.toNat x1) ((0, 0) : (Int × Int))).1)))), x4))) none) none) none) none) (some (Sum.inr (x3, 0))))
noncomputable def f_q0u_run6 (x : (Int × Int × (List (Int × Int)) × (List Int) × (List (Int × Int)))) : Option ((List Int) × Int) := iter (fun x => f_q0u_n6 x.1 x.2.1 x.2.2.1 x.2.2.2.1 x.2.2.2.2) FU x
noncomputable def f_q0u_G6 (r : List A) (x : (Int × Int × (List (Int × Int)) × (List Int) × (List (Int × Int)))) : Prop := f_q0u_L r 6 (f_q0u_s6 x.1 x.2.1 x.2.2.1 x.2.2.2.1 x.2.2.2.2) = some r
noncomputable def f_q0u_S6 (r : List A) : ((List Int) × Int) → Prop := fun v => r = l_q0u v
theorem f_q0u_go6 (r : List A) : ∀ x, sem (f_q0u_S6 r) (f_q0u_run6 x) → f_q0u_G6 r x :=
 fun x => iter_sound (step := fun x => f_q0u_n6 x.1 x.2.1 x.2.2.1 x.2.2.2.1 x.2.2.2.2) (fun x h => by
  unfold f_q0u_n6 at h
  exact f_q0u_step6 x.1 x.2.1 x.2.2.1 x.2.2.2.1 x.2.2.2.2 r ((sem_cond h (fun h => (sem_cond h (fun h => (sem_cond h (fun h => (sem_cond h (fun h => (sem_cond h (fun h => sem_got h fun q => q) (fun h => sem_none h))) (fun h => sem_none h))) (fun h => sem_none h))) (fun h => sem_none h))) (fun h => sem_got h fun q => some_eq q)))) FU x
noncomputable def s_q0u (a0 : List (Int × Int)) (a1 : Int) (a2 : List (Int × Int)) : Option ((List Int) × Int) := (Option.bind (s_q0w a0 a1 a2) fun r1 => (cond (r1 != 0) (some ([], r1)) (Option.bind (s_q0v a0 a2) fun r2 => (Option.bind (s_q1r [r2] a1) fun r3 => (f_q0u_run6 (((List.length a0 : Nat) : Int), 0, a2, r3, a0))))))
theorem f_q0u_top (a0 : List (Int × Int)) (a1 : Int) (a2 : List (Int × Int)) (r : List A) : ev f_q0u_X (lpc (cnOf f_q0u_LV) (f_q0u_L r)) f_q0u_c (K0 TT f_q0u_rv) (enter [.lst (.st [(.i .i8), (.i .u16)]) a0, .v (.int .i64 a1), .lst (.st [(.i .i8), (.i .i16)]) a2]) = (Option.bind (s_q0w a0 a1 a2) fun r1 => (cond (r1 != 0) (some [.lst (.one (.i .i64)) [], .v (.int .i64 r1)]) (Option.bind (s_q0v a0 a2) fun r2 => (Option.bind (s_q1r [r2] a1) fun r3 => (f_q0u_L r 6 (f_q0u_s6 ((List.length a0 : Nat) : Int) 0 a2 r3 a0)))))) := by kernel_rfl
theorem s_q0u_ok (a0 : List (Int × Int)) (a1 : Int) (a2 : List (Int × Int)) (v : ((List Int) × Int)) (h : s_q0u a0 a1 a2 = some v) : (Option.bind (s_q0w a0 a1 a2) fun r1 => (cond (r1 != 0) (some [.lst (.one (.i .i64)) [], .v (.int .i64 r1)]) (Option.bind (s_q0v a0 a2) fun r2 => (Option.bind (s_q1r [r2] a1) fun r3 => (f_q0u_L (l_q0u v) 6 (f_q0u_s6 ((List.length a0 : Nat) : Int) 0 a2 r3 a0)))))) = some (l_q0u v) := by
 unfold s_q0u at h
 have go : ∀ r, sem (fun v => r = l_q0u v) ((Option.bind (s_q0w a0 a1 a2) fun r1 => (cond (r1 != 0) (some ([], r1)) (Option.bind (s_q0v a0 a2) fun r2 => (Option.bind (s_q1r [r2] a1) fun r3 => (f_q0u_run6 (((List.length a0 : Nat) : Int), 0, a2, r3, a0))))))) → (Option.bind (s_q0w a0 a1 a2) fun r1 => (cond (r1 != 0) (some [.lst (.one (.i .i64)) [], .v (.int .i64 r1)]) (Option.bind (s_q0v a0 a2) fun r2 => (Option.bind (s_q1r [r2] a1) fun r3 => (f_q0u_L r 6 (f_q0u_s6 ((List.length a0 : Nat) : Int) 0 a2 r3 a0)))))) = some r := fun r h => (sem_bind h fun r1 h => (sem_cond h (fun h => sem_got h fun q => some_eq q) (fun h => (sem_bind h fun r2 h => (sem_bind h fun r3 h => f_q0u_go6 r _ h)))))
 exact go (l_q0u v) ⟨v, h, rfl⟩
noncomputable def c_q0u : List A → ACall
 | [.lst (.st [(.i .i8), (.i .u16)]) a0, .v (.int .i64 a1), .lst (.st [(.i .i8), (.i .i16)]) a2] => ⟨((List Int) × Int), s_q0u a0 a1 a2, fun r => .tup [.lst (.one (.i .i64)) r.1, .v (.int .i64 r.2)]⟩
 | _ => ACall.fail
theorem f_q0u_sound : Sound Try.prog 33 c_q0u := by
 refine sound_good f_q0u_ctx f_q0u_LV 3 Try.func33 (c := f_q0u_c) (by kernel_rfl) (rv := f_q0u_rv) (by kernel_rfl) (by kernel_rfl) (by kernel_rfl) (by kernel_rfl) fun rs => ?_
 unfold c_q0u
 split
 ·rename_i a0 a1 a2; intro v h; exact ⟨rfl, l_q0u v, rfl, (f_q0u_top a0 a1 a2 _).trans (s_q0u_ok a0 a1 a2 v h)⟩
 ·intro v h; cases h
noncomputable def f_q1o_c : Code := match Try.f202.body with | some c => c | none => .skip
noncomputable def f_q1o_X : Ctx := ⟨TT, phiOf [(93, c_q25)], noPsi, noXi⟩
def f_q1o_LV : List (Nat × Keep) := []
def f_q1o_rv : List ResultVar := [.tmp 4]
noncomputable def f_q1o_L (r : List A) : Nat → AS → Option (List A) := L f_q1o_X (cnOf f_q1o_LV) f_q1o_c (K0 TT f_q1o_rv) r
theorem f_q1o_ctx : CtxOK Try.prog f_q1o_X := ctx_of tab mix ⟨⟨Try.call93, f_q25_sound⟩, trivial⟩
noncomputable def s_q1o (a0 a1 a2 : Int) : Bool := (cond (s_q25 (IntKind.wrap .i64 a1) 0 (IntKind.wrap .i64 (a0 - 1))) (s_q25 (IntKind.wrap .i64 a2) 0 1000) false)
theorem f_q1o_top (a0 a1 a2 : Int) (r : List A) : ev f_q1o_X (lpc (cnOf f_q1o_LV) (f_q1o_L r)) f_q1o_c (K0 TT f_q1o_rv) (enter [.v (.int .i64 a0), .rc [.v (.int .i8 a1), .v (.int .i16 a2)]]) = (cond (s_q25 (IntKind.wrap .i64 a1) 0 (IntKind.wrap .i64 (a0 - 1))) (some [.v (.bool (s_q25 (IntKind.wrap .i64 a2) 0 1000))]) (some [.v (.bool false)])) := by kernel_rfl
noncomputable def l_q1o (r : Bool) : List A := [.v (.bool r)]
theorem s_q1o_ok (a0 a1 a2 : Int) : (cond (s_q25 (IntKind.wrap .i64 a1) 0 (IntKind.wrap .i64 (a0 - 1))) (some [.v (.bool (s_q25 (IntKind.wrap .i64 a2) 0 1000))]) (some [.v (.bool false)])) = some (l_q1o (s_q1o a0 a1 a2)) := by
 unfold s_q1o
 exact (cond_app (fun x => some (l_q1o x)) rfl rfl)
noncomputable def c_q1o : List A → ACall
 | [.v (.int .i64 a0), .rc [.v (.int .i8 a1), .v (.int .i16 a2)]] => ⟨Bool, some (s_q1o a0 a1 a2), fun r => .one (.v (.bool r))⟩
 | _ => ACall.fail
theorem f_q1o_sound : Sound Try.prog 202 c_q1o := by
 refine sound_good f_q1o_ctx f_q1o_LV 2 Try.func202 (c := f_q1o_c) (by kernel_rfl) (rv := f_q1o_rv) (by kernel_rfl) (by kernel_rfl) (by kernel_rfl) (by kernel_rfl) fun rs => ?_
 unfold c_q1o
 split
 ·rename_i a0 a1 a2; intro v h; cases h; exact ⟨rfl, l_q1o (s_q1o a0 a1 a2), rfl, (f_q1o_top a0 a1 a2 _).trans (s_q1o_ok a0 a1 a2)⟩
 ·intro v h; cases h
noncomputable def f_q14_c : Code := match Try.f156.body with | some c => c | none => .skip
noncomputable def f_q14_X : Ctx := ⟨TT, phiOf [(152, c_q1k), (195, c_q18), (202, c_q1o)], noPsi, noXi⟩
def f_q14_LV : List (Nat × Keep) := [(2, ([0, 1, 2, 7], [], [])), (7, ([0, 1, 2, 7, 8], [], []))]
def f_q14_rv : List ResultVar := [.tmp 6]
noncomputable def f_q14_L (r : List A) : Nat → AS → Option (List A) := L f_q14_X (cnOf f_q14_LV) f_q14_c (K0 TT f_q14_rv) r
theorem f_q14_ctx : CtxOK Try.prog f_q14_X := ctx_of tab mix ⟨⟨Try.call152, f_q1k_sound⟩, ⟨Try.call195, f_q18_sound⟩, ⟨Try.call202, f_q1o_sound⟩, trivial⟩
noncomputable def f_q14_s2 (x0 x1 : Int) (x2 x3 : List (Int × Int)) : AS := ⟨[(0, .a (.sl 0)), (1, .a (.v (.int .i64 x0))), (2, .a (.sl 1)), (7, .a (.v (.int .i64 x1)))], [(0, some ⟨false, .arr (.st [(.i .i8), (.i .u16)]) x2⟩), (1, some ⟨false, .arr (.st [(.i .i8), (.i .i16)]) x3⟩)], 2⟩
noncomputable def f_q14_s7 (x0 x1 x2 : Int) (x3 x4 : List (Int × Int)) : AS := ⟨[(0, .a (.sl 0)), (1, .a (.v (.int .i64 x0))), (2, .a (.sl 1)), (7, .a (.v (.int .i64 x1))), (8, .a (.v (.int .i64 x2)))], [(0, some ⟨false, .arr (.st [(.i .i8), (.i .u16)]) x3⟩), (1, some ⟨false, .arr (.st [(.i .i8), (.i .i16)]) x4⟩)], 2⟩
noncomputable def l_q14 (r : Int) : List A := [.v (.int .i64 r)]
theorem f_q14_step7 (x0 x1 x2 : Int) (x3 x4 : List (Int × Int)) (r : List A) (h : (cond (decide (x2 < ((List.length x3 : Nat) : Int))) (cond (inB x2 (List.length x4)) (cond (!(s_q1o x0 (List.getD x4 (Int.toNat x2) ((0, 0) : (Int × Int))).1 (List.getD x4 (Int.toNat x2) ((0, 0) : (Int × Int))).2)) (f_q14_L r 7 (f_q14_s7 x0 x1 (IntKind.wrap .i64 (x2 + 1)) x3 x4)) (Option.bind (s_q18 x3 x1 x2) fun r1 => (cond r1 (cond (inB x1 (List.length x4)) (Option.bind (s_q1k x3 x4 x2) fun r2 => (cond (decide ((IntKind.wrap .i64 (List.getD x4 (Int.toNat x1) ((0, 0) : (Int × Int))).2) < r2)) (some [.v (.int .i64 x1)]) (cond (decide (x2 < x1)) (cond (inB x2 (List.length x4)) (cond (inB x1 (List.length x4)) (cond ((List.getD x4 (Int.toNat x2) ((0, 0) : (Int × Int))).1 == (List.getD x4 (Int.toNat x1) ((0, 0) : (Int × Int))).1) (cond (inB x1 (List.length x4)) (Option.bind (s_q1k x3 x4 x2) fun r3 => (cond (decide ((IntKind.wrap .i64 (List.getD x4 (Int.toNat x1) ((0, 0) : (Int × Int))).2) < r3)) (cond (inB x2 (List.length x4)) (Option.bind (s_q1k x3 x4 x1) fun r4 => (cond (decide ((IntKind.wrap .i64 (List.getD x4 (Int.toNat x2) ((0, 0) : (Int × Int))).2) < r4)) (some [.v (.int .i64 x1)]) (f_q14_L r 7 (f_q14_s7 x0 x1 (IntKind.wrap .i64 (x2 + 1)) x3 x4)))) none) (f_q14_L r 7 (f_q14_s7 x0 x1 (IntKind.wrap .i64 (x2 + 1)) x3 x4)))) none) (f_q14_L r 7 (f_q14_s7 x0 x1 (IntKind.wrap .i64 (x2 + 1)) x3 x4))) none) none) (f_q14_L r 7 (f_q14_s7 x0 x1 (IntKind.wrap .i64 (x2 + 1)) x3 x4))))) none) (cond (decide (x2 < x1)) (cond (inB x2 (List.length x4)) (cond (inB x1 (List.length x4)) (cond ((List.getD x4 (Int.toNat x2) ((0, 0) : (Int × Int))).1 == (List.getD x4 (Int.toNat x1) ((0, 0) : (Int × Int))).1) (cond (inB x1 (List.length x4)) (Option.bind (s_q1k x3 x4 x2) fun r5 => (cond (decide ((IntKind.wrap .i64 (List.getD x4 (Int.toNat x1) ((0, 0) : (Int × Int))).2) < r5)) (cond (inB x2 (List.length x4)) (Option.bind (s_q1k x3 x4 x1) fun r6 => (cond (decide ((IntKind.wrap .i64 (List.getD x4 (Int.toNat x2) ((0, 0) : (Int × Int))).2) < r6)) (some [.v (.int .i64 x1)]) (f_q14_L r 7 (f_q14_s7 x0 x1 (IntKind.wrap .i64 (x2 + 1)) x3 x4)))) none) (f_q14_L r 7 (f_q14_s7 x0 x1 (IntKind.wrap .i64 (x2 + 1)) x3 x4)))) none) (f_q14_L r 7 (f_q14_s7 x0 x1 (IntKind.wrap .i64 (x2 + 1)) x3 x4))) none) none) (f_q14_L r 7 (f_q14_s7 x0 x1 (IntKind.wrap .i64 (x2 + 1)) x3 x4)))))) none) (f_q14_L r 2 (f_q14_s2 x0 (IntKind.wrap .i64 (x1 + 1)) x3 x4))) = some r) : f_q14_L r 7 (f_q14_s7 x0 x1 x2 x3 x4) = some r :=
 step_of' h (by kernel_rfl)
noncomputable def f_q14_n7 (x0 x1 x2 : Int) (x3 x4 : List (Int × Int)) : Option ((Int × Int × Int × (List (Int × Int)) × (List (Int × Int))) ⊕ ((Int × Int × (List (Int × Int)) × (List (Int × Int))) ⊕ Int)) := (cond (decide (x2 < ((List.length x3 : Nat) : Int))) (cond (inB x2 (List.length x4)) (cond (!(s_q1o x0 (List.getD x4 (Int.toNat x2) ((0, 0) : (Int × Int))).1 (List.getD x4 (Int.toNat x2) ((0, 0) : (Int × Int))).2)) (some (Sum.inl (x0, x1, (IntKind.wrap .i64 (x2 + 1)), x3, x4))) (Option.bind (s_q18 x3 x1 x2) fun r1 => (cond r1 (cond (inB x1 (List.length x4)) (Option.bind (s_q1k x3 x4 x2) fun r2 => (cond (decide ((IntKind.wrap .i64 (List.getD x4 (Int.toNat x1) ((0, 0) : (Int × Int))).2) < r2)) (some (Sum.inr (Sum.inr x1))) (cond (decide (x2 < x1)) (cond (inB x2 (List.length x4)) (cond (inB x1 (List.length x4)) (cond ((List.getD x4 (Int.toNat x2) ((0, 0) : (Int × Int))).1 == (List.getD x4 (Int.toNat x1) ((0, 0) : (Int × Int))).1) (cond (inB x1 (List.length x4)) (Option.bind (s_q1k x3 x4 x2) fun r3 => (cond (decide ((IntKind.wrap .i64 (List.getD x4 (Int.toNat x1) ((0, 0) : (Int × Int))).2) < r3)) (cond (inB x2 (List.length x4)) (Option.bind (s_q1k x3 x4 x1) fun r4 => (cond (decide ((IntKind.wrap .i64 (List.getD x4 (Int.toNat x2) ((0, 0) : (Int × Int))).2) < r4)) (some (Sum.inr (Sum.inr x1))) (some (Sum.inl (x0, x1, (IntKind.wrap .i64 (x2 + 1)), x3, x4))))) none) (some (Sum.inl (x0, x1, (IntKind.wrap .i64 (x2 + 1)), x3, x4))))) none) (some (Sum.inl (x0, x1, (IntKind.wrap .i64 (x2 + 1)), x3, x4)))) none) none) (some (Sum.inl (x0, x1, (IntKind.wrap .i64 (x2 + 1)), x3, x4)))))) none) (cond (decide (x2 < x1)) (cond (inB x2 (List.length x4)) (cond (inB x1 (List.length x4)) (cond ((List.getD x4 (Int.toNat x2) ((0, 0) : (Int × Int))).1 == (List.getD x4 (Int.toNat x1) ((0, 0) : (Int × Int))).1) (cond (inB x1 (List.length x4)) (Option.bind (s_q1k x3 x4 x2) fun r5 => (cond (decide ((IntKind.wrap .i64 (List.getD x4 (Int.toNat x1) ((0, 0) : (Int × Int))).2) < r5)) (cond (inB x2 (List.length x4)) (Option.bind (s_q1k x3 x4 x1) fun r6 => (cond (decide ((IntKind.wrap .i64 (List.getD x4 (Int.toNat x2) ((0, 0) : (Int × Int))).2) < r6)) (some (Sum.inr (Sum.inr x1))) (some (Sum.inl (x0, x1, (IntKind.wrap .i64 (x2 + 1)), x3, x4))))) none) (some (Sum.inl (x0, x1, (IntKind.wrap .i64 (x2 + 1)), x3, x4))))) none) (some (Sum.inl (x0, x1, (IntKind.wrap .i64 (x2 + 1)), x3, x4)))) none) none) (some (Sum.inl (x0, x1, (IntKind.wrap .i64 (x2 + 1)), x3, x4))))))) none) (some (Sum.inr (Sum.inl (x0, (IntKind.wrap .i64 (x1 + 1)), x3, x4)))))
noncomputable def f_q14_run7 (x : (Int × Int × Int × (List (Int × Int)) × (List (Int × Int)))) : Option ((Int × Int × (List (Int × Int)) × (List (Int × Int))) ⊕ Int) := iter (fun x => f_q14_n7 x.1 x.2.1 x.2.2.1 x.2.2.2.1 x.2.2.2.2) FU x
noncomputable def f_q14_G7 (r : List A) (x : (Int × Int × Int × (List (Int × Int)) × (List (Int × Int)))) : Prop := f_q14_L r 7 (f_q14_s7 x.1 x.2.1 x.2.2.1 x.2.2.2.1 x.2.2.2.2) = some r
theorem f_q14_step2 (x0 x1 : Int) (x2 x3 : List (Int × Int)) (r : List A) (h : (cond (decide (x1 < ((List.length x2 : Nat) : Int))) (cond (inB x1 (List.length x3)) (cond (!(s_q1o x0 (List.getD x3 (Int.toNat x1) ((0, 0) : (Int × Int))).1 (List.getD x3 (Int.toNat x1) ((0, 0) : (Int × Int))).2)) (some [.v (.int .i64 x1)]) (f_q14_L r 7 (f_q14_s7 x0 x1 0 x2 x3))) none) (some [.v (.int .i64 (-1))])) = some r) : f_q14_L r 2 (f_q14_s2 x0 x1 x2 x3) = some r :=
 step_of' h (by kernel_rfl)
noncomputable def f_q14_n2 (x0 x1 : Int) (x2 x3 : List (Int × Int)) : Option ((Int × Int × (List (Int × Int)) × (List (Int × Int))) ⊕ Int) := (cond (decide (x1 < ((List.length x2 : Nat) : Int))) (cond (inB x1 (List.length x3)) (cond (!(s_q1o x0 (List.getD x3 (Int.toNat x1) ((0, 0) : (Int × Int))).1 (List.getD x3 (Int.toNat x1) ((0, 0) : (Int × Int))).2)) (some (Sum.inr x1)) (f_q14_run7 (x0, x1, 0, x2, x3))) none) (some (Sum.inr (-1))))
noncomputable def f_q14_run2 (x : (Int × Int × (List (Int × Int)) × (List (Int × Int)))) : Option Int := iter (fun x => f_q14_n2 x.1 x.2.1 x.2.2.1 x.2.2.2) FU x
noncomputable def f_q14_G2 (r : List A) (x : (Int × Int × (List (Int × Int)) × (List (Int × Int)))) : Prop := f_q14_L r 2 (f_q14_s2 x.1 x.2.1 x.2.2.1 x.2.2.2) = some r
noncomputable def f_q14_S2 (r : List A) : Int → Prop := fun v => r = l_q14 v
noncomputable def f_q14_S7 (r : List A) : ((Int × Int × (List (Int × Int)) × (List (Int × Int))) ⊕ Int) → Prop := goesOn (f_q14_G2 r) (f_q14_S2 r)
theorem f_q14_go7 (r : List A) : ∀ x, sem (f_q14_S7 r) (f_q14_run7 x) → f_q14_G7 r x :=
 fun x => iter_sound (step := fun x => f_q14_n7 x.1 x.2.1 x.2.2.1 x.2.2.2.1 x.2.2.2.2) (fun x h => by
  unfold f_q14_n7 at h
  exact f_q14_step7 x.1 x.2.1 x.2.2.1 x.2.2.2.1 x.2.2.2.2 r ((sem_cond h (fun h => (sem_cond h (fun h => (sem_cond h (fun h => sem_got h fun q => q) (fun h => (sem_bind h fun r1 h => (sem_cond h (fun h => (sem_cond h (fun h => (sem_bind h fun r2 h => (sem_cond h (fun h => sem_got h fun q => some_eq q) (fun h => (sem_cond h (fun h => (sem_cond h (fun h => (sem_cond h (fun h => (sem_cond h (fun h => (sem_cond h (fun h => (sem_bind h fun r3 h => (sem_cond h (fun h => (sem_cond h (fun h => (sem_bind h fun r4 h => (sem_cond h (fun h => sem_got h fun q => some_eq q) (fun h => sem_got h fun q => q)))) (fun h => sem_none h))) (fun h => sem_got h fun q => q)))) (fun h => sem_none h))) (fun h => sem_got h fun q => q))) (fun h => sem_none h))) (fun h => sem_none h))) (fun h => sem_got h fun q => q)))))) (fun h => sem_none h))) (fun h => (sem_cond h (fun h => (sem_cond h (fun h => (sem_cond h (fun h => (sem_cond h (fun h => (sem_cond h (fun h => (sem_bind h fun r5 h => (sem_cond h (fun h => (sem_cond h (fun h => (sem_bind h fun r6 h => (sem_cond h (fun h => sem_got h fun q => some_eq q) (fun h => sem_got h fun q => q)))) (fun h => sem_none h))) (fun h => sem_got h fun q => q)))) (fun h => sem_none h))) (fun h => sem_got h fun q => q))) (fun h => sem_none h))) (fun h => sem_none h))) (fun h => sem_got h fun q => q)))))))) (fun h => sem_none h))) (fun h => sem_got h fun q => q)))) FU x
theorem f_q14_go2 (r : List A) : ∀ x, sem (f_q14_S2 r) (f_q14_run2 x) → f_q14_G2 r x :=
 fun x => iter_sound (step := fun x => f_q14_n2 x.1 x.2.1 x.2.2.1 x.2.2.2) (fun x h => by
  unfold f_q14_n2 at h
  exact f_q14_step2 x.1 x.2.1 x.2.2.1 x.2.2.2 r ((sem_cond h (fun h => (sem_cond h (fun h => (sem_cond h (fun h => sem_got h fun q => some_eq q) (fun h => f_q14_go7 r _ h))) (fun h => sem_none h))) (fun h => sem_got h fun q => some_eq q)))) FU x
noncomputable def s_q14 (a0 : List (Int × Int)) (a1 : Int) (a2 : List (Int × Int)) : Option Int := (f_q14_run2 (a1, 0, a0, a2))
theorem f_q14_top (a0 : List (Int × Int)) (a1 : Int) (a2 : List (Int × Int)) (r : List A) : ev f_q14_X (lpc (cnOf f_q14_LV) (f_q14_L r)) f_q14_c (K0 TT f_q14_rv) (enter [.lst (.st [(.i .i8), (.i .u16)]) a0, .v (.int .i64 a1), .lst (.st [(.i .i8), (.i .i16)]) a2]) = (f_q14_L r 2 (f_q14_s2 a1 0 a0 a2)) := by kernel_rfl
theorem s_q14_ok (a0 : List (Int × Int)) (a1 : Int) (a2 : List (Int × Int)) (v : Int) (h : s_q14 a0 a1 a2 = some v) : (f_q14_L (l_q14 v) 2 (f_q14_s2 a1 0 a0 a2)) = some (l_q14 v) := by
 unfold s_q14 at h
 have go : ∀ r, sem (fun v => r = l_q14 v) ((f_q14_run2 (a1, 0, a0, a2))) → (f_q14_L r 2 (f_q14_s2 a1 0 a0 a2)) = some r := fun r h => f_q14_go2 r _ h
 exact go (l_q14 v) ⟨v, h, rfl⟩
noncomputable def c_q14 : List A → ACall
 | [.lst (.st [(.i .i8), (.i .u16)]) a0, .v (.int .i64 a1), .lst (.st [(.i .i8), (.i .i16)]) a2] => ⟨Int, s_q14 a0 a1 a2, fun r => .one (.v (.int .i64 r))⟩
 | _ => ACall.fail
theorem f_q14_sound : Sound Try.prog 156 c_q14 := by
 refine sound_good f_q14_ctx f_q14_LV 3 Try.func156 (c := f_q14_c) (by kernel_rfl) (rv := f_q14_rv) (by kernel_rfl) (by kernel_rfl) (by kernel_rfl) (by kernel_rfl) fun rs => ?_
 unfold c_q14
 split
 ·rename_i a0 a1 a2; intro v h; exact ⟨rfl, l_q14 v, rfl, (f_q14_top a0 a1 a2 _).trans (s_q14_ok a0 a1 a2 v h)⟩
 ·intro v h; cases h
noncomputable def f_q1n_c : Code := match Try.f170.body with | some c => c | none => .skip
noncomputable def f_q1n_X : Ctx := ⟨TT, phiOf [(156, c_q14)], noPsi, noXi⟩
def f_q1n_LV : List (Nat × Keep) := []
def f_q1n_rv : List ResultVar := [.tmp 6]
noncomputable def f_q1n_L (r : List A) : Nat → AS → Option (List A) := L f_q1n_X (cnOf f_q1n_LV) f_q1n_c (K0 TT f_q1n_rv) r
theorem f_q1n_ctx : CtxOK Try.prog f_q1n_X := ctx_of tab mix ⟨⟨Try.call156, f_q14_sound⟩, trivial⟩
noncomputable def s_q1n (a0 : List (Int × Int)) (a1 : Int) (a2 : List (Int × Int)) : Option Bool := (cond (((List.length a2 : Nat) : Int) == ((List.length a0 : Nat) : Int)) (Option.bind (s_q14 a0 a1 a2) fun r1 => (some (decide (r1 < 0)))) (some false))
theorem f_q1n_top (a0 : List (Int × Int)) (a1 : Int) (a2 : List (Int × Int)) (r : List A) : ev f_q1n_X (lpc (cnOf f_q1n_LV) (f_q1n_L r)) f_q1n_c (K0 TT f_q1n_rv) (enter [.lst (.st [(.i .i8), (.i .u16)]) a0, .v (.int .i64 a1), .lst (.st [(.i .i8), (.i .i16)]) a2]) = (cond (((List.length a2 : Nat) : Int) == ((List.length a0 : Nat) : Int)) (Option.bind (s_q14 a0 a1 a2) fun r1 => (some [.v (.bool (decide (r1 < 0)))])) (some [.v (.bool false)])) := by kernel_rfl
noncomputable def l_q1n (r : Bool) : List A := [.v (.bool r)]
theorem s_q1n_ok (a0 : List (Int × Int)) (a1 : Int) (a2 : List (Int × Int)) (v : Bool) (h : s_q1n a0 a1 a2 = some v) : (cond (((List.length a2 : Nat) : Int) == ((List.length a0 : Nat) : Int)) (Option.bind (s_q14 a0 a1 a2) fun r1 => (some [.v (.bool (decide (r1 < 0)))])) (some [.v (.bool false)])) = some (l_q1n v) := by
 have e : (cond (((List.length a2 : Nat) : Int) == ((List.length a0 : Nat) : Int)) (Option.bind (s_q14 a0 a1 a2) fun r1 => (some [.v (.bool (decide (r1 < 0)))])) (some [.v (.bool false)])) = Option.map l_q1n (s_q1n a0 a1 a2) := by
  unfold s_q1n
  exact (cond_app (Option.map l_q1n) (bind_app fun _ => rfl) rfl)
 rw [e, h]; rfl
noncomputable def c_q1n : List A → ACall
 | [.lst (.st [(.i .i8), (.i .u16)]) a0, .v (.int .i64 a1), .lst (.st [(.i .i8), (.i .i16)]) a2] => ⟨Bool, s_q1n a0 a1 a2, fun r => .one (.v (.bool r))⟩
 | _ => ACall.fail
theorem f_q1n_sound : Sound Try.prog 170 c_q1n := by
 refine sound_good f_q1n_ctx f_q1n_LV 3 Try.func170 (c := f_q1n_c) (by kernel_rfl) (rv := f_q1n_rv) (by kernel_rfl) (by kernel_rfl) (by kernel_rfl) (by kernel_rfl) fun rs => ?_
 unfold c_q1n
 split
 ·rename_i a0 a1 a2; intro v h; exact ⟨rfl, l_q1n v, rfl, (f_q1n_top a0 a1 a2 _).trans (s_q1n_ok a0 a1 a2 v h)⟩
 ·intro v h; cases h
noncomputable def f_q0n_c : Code := match Try.f111.body with | some c => c | none => .skip
noncomputable def f_q0n_X : Ctx := ⟨TT, phiOf [(105, c_q27), (169, c_q15), (170, c_q1n)], noPsi, noXi⟩
def f_q0n_LV : List (Nat × Keep) := []
def f_q0n_rv : List ResultVar := [.tmp 6]
noncomputable def f_q0n_L (r : List A) : Nat → AS → Option (List A) := L f_q0n_X (cnOf f_q0n_LV) f_q0n_c (K0 TT f_q0n_rv) r
theorem f_q0n_ctx : CtxOK Try.prog f_q0n_X := ctx_of tab mix ⟨⟨Try.call105, f_q27_sound⟩, ⟨Try.call169, f_q15_sound⟩, ⟨Try.call170, f_q1n_sound⟩, trivial⟩
noncomputable def s_q0n (a0 : List (Int × Int)) (a1 : Int) (a2 : List (Int × Int)) : Option Int := (Option.bind (s_q27 a0) fun r1 => (cond (!r1) (some 1) (cond (!(s_q15 a1)) (some 2) (Option.bind (s_q1n a0 a1 a2) fun r2 => (cond (!r2) (some 1) (some 0))))))
theorem f_q0n_top (a0 : List (Int × Int)) (a1 : Int) (a2 : List (Int × Int)) (r : List A) : ev f_q0n_X (lpc (cnOf f_q0n_LV) (f_q0n_L r)) f_q0n_c (K0 TT f_q0n_rv) (enter [.lst (.st [(.i .i8), (.i .u16)]) a0, .v (.int .i64 a1), .lst (.st [(.i .i8), (.i .i16)]) a2]) = (Option.bind (s_q27 a0) fun r1 => (cond (!r1) (some [.v (.int .i64 1)]) (cond (!(s_q15 a1)) (some [.v (.int .i64 2)]) (Option.bind (s_q1n a0 a1 a2) fun r2 => (cond (!r2) (some [.v (.int .i64 1)]) (some [.v (.int .i64 0)])))))) := by kernel_rfl
noncomputable def l_q0n (r : Int) : List A := [.v (.int .i64 r)]
theorem s_q0n_ok (a0 : List (Int × Int)) (a1 : Int) (a2 : List (Int × Int)) (v : Int) (h : s_q0n a0 a1 a2 = some v) : (Option.bind (s_q27 a0) fun r1 => (cond (!r1) (some [.v (.int .i64 1)]) (cond (!(s_q15 a1)) (some [.v (.int .i64 2)]) (Option.bind (s_q1n a0 a1 a2) fun r2 => (cond (!r2) (some [.v (.int .i64 1)]) (some [.v (.int .i64 0)])))))) = some (l_q0n v) := by
 have e : (Option.bind (s_q27 a0) fun r1 => (cond (!r1) (some [.v (.int .i64 1)]) (cond (!(s_q15 a1)) (some [.v (.int .i64 2)]) (Option.bind (s_q1n a0 a1 a2) fun r2 => (cond (!r2) (some [.v (.int .i64 1)]) (some [.v (.int .i64 0)])))))) = Option.map l_q0n (s_q0n a0 a1 a2) := by
  unfold s_q0n
  exact (bind_app fun _ => (cond_app (Option.map l_q0n) rfl (cond_app (Option.map l_q0n) rfl (bind_app fun _ => (cond_app (Option.map l_q0n) rfl rfl)))))
 rw [e, h]; rfl
noncomputable def c_q0n : List A → ACall
 | [.lst (.st [(.i .i8), (.i .u16)]) a0, .v (.int .i64 a1), .lst (.st [(.i .i8), (.i .i16)]) a2] => ⟨Int, s_q0n a0 a1 a2, fun r => .one (.v (.int .i64 r))⟩
 | _ => ACall.fail
theorem f_q0n_sound : Sound Try.prog 111 c_q0n := by
 refine sound_good f_q0n_ctx f_q0n_LV 3 Try.func111 (c := f_q0n_c) (by kernel_rfl) (rv := f_q0n_rv) (by kernel_rfl) (by kernel_rfl) (by kernel_rfl) (by kernel_rfl) fun rs => ?_
 unfold c_q0n
 split
 ·rename_i a0 a1 a2; intro v h; exact ⟨rfl, l_q0n v, rfl, (f_q0n_top a0 a1 a2 _).trans (s_q0n_ok a0 a1 a2 v h)⟩
 ·intro v h; cases h
noncomputable def f_q0z_c : Code := match Try.f31.body with | some c => c | none => .skip
noncomputable def f_q0z_X : Ctx := ⟨TT, phiOf [(111, c_q0n), (112, c_q0r)], noPsi, noXi⟩
def f_q0z_LV : List (Nat × Keep) := [(6, ([0, 1, 2, 9, 10], [], [])), (10, ([0, 2, 9, 11], [], []))]
def f_q0z_rv : List ResultVar := [.tmp 6, .tmp 7]
noncomputable def f_q0z_L (r : List A) : Nat → AS → Option (List A) := L f_q0z_X (cnOf f_q0z_LV) f_q0z_c (K0 TT f_q0z_rv) r
theorem f_q0z_ctx : CtxOK Try.prog f_q0z_X := ctx_of tab mix ⟨⟨Try.call111, f_q0n_sound⟩, ⟨Try.call112, f_q0r_sound⟩, trivial⟩
noncomputable def f_q0z_s6 (x0 x1 : Int) (x2 x3 : List (Int × Int)) (x4 : List Int) : AS := ⟨[(0, .a (.sl 0)), (1, .a (.v (.int .i64 x0))), (2, .a (.sl 1)), (9, .a (.sl 2)), (10, .a (.v (.int .i64 x1)))], [(0, some ⟨false, .arr (.st [(.i .i8), (.i .u16)]) x2⟩), (1, some ⟨false, .arr (.st [(.i .i8), (.i .i16)]) x3⟩), (2, some ⟨true, .arr (.one (.i .i64)) x4⟩)], 3⟩
noncomputable def f_q0z_s10 (x0 : Int) (x1 x2 : List (Int × Int)) (x3 : List Int) : AS := ⟨[(0, .a (.sl 0)), (2, .a (.sl 1)), (9, .a (.sl 2)), (11, .a (.v (.int .i64 x0)))], [(0, some ⟨false, .arr (.st [(.i .i8), (.i .u16)]) x1⟩), (1, some ⟨false, .arr (.st [(.i .i8), (.i .i16)]) x2⟩), (2, some ⟨true, .arr (.one (.i .i64)) x3⟩)], 3⟩
noncomputable def l_q0z (r : ((List Int) × Int)) : List A := [.lst (.one (.i .i64)) r.1, .v (.int .i64 r.2)]
theorem f_q0z_step10 (x0 : Int) (x1 x2 : List (Int × Int)) (x3 : List Int) (r : List A) (h : (cond (decide (x0 < ((List.length x1 : Nat) : Int))) (cond (inB x0 (List.length x2)) (cond (inB (List.getD x2 (Int.toNat x0) ((0, 0) : (Int × Int))).1 (List.length x3)) (cond (inB x0 (List.length x1)) (cond (inB (List.getD x2 (Int.toNat x0) ((0, 0) : (Int × Int))).1 (List.length x3)) (f_q0z_L r 10 (f_q0z_s10 (IntKind.wrap .i64 (x0 + 1)) x1 x2 (List.set x3 (Int.toNat (List.getD x2 (Int.toNat x0) ((0, 0) : (Int × Int))).1) (IntKind.wrap .i64 ((List.getD x3 (Int.toNat (List.getD x2 (Int.toNat x0) ((0, 0) : (Int × Int))).1) 0) - (IntKind.wrap .i64 (List.getD x1 (Int.toNat x0) ((0, 0) : (Int × Int))).1)))))) none) none) none) none) (some [.lst (.one (.i .i64)) x3, .v (.int .i64 0)])) = some r) : f_q0z_L r 10 (f_q0z_s10 x0 x1 x2 x3) = some r :=
 step_of' h (by kernel_rfl)
noncomputable def f_q0z_n10 (x0 : Int) (x1 x2 : List (Int × Int)) (x3 : List Int) : Option ((Int × (List (Int × Int)) × (List (Int × Int)) × (List Int)) ⊕ ((List Int) × Int)) := (cond (decide (x0 < ((List.length x1 : Nat) : Int))) (cond (inB x0 (List.length x2)) (cond (inB (List.getD x2 (Int.toNat x0) ((0, 0) : (Int × Int))).1 (List.length x3)) (cond (inB x0 (List.length x1)) (cond (inB (List.getD x2 (Int.toNat x0) ((0, 0) : (Int × Int))).1 (List.length x3)) (some (Sum.inl ((IntKind.wrap .i64 (x0 + 1)), x1, x2, (List.set x3 (Int.toNat (List.getD x2 (Int.toNat x0) ((0, 0) : (Int × Int))).1) (IntKind.wrap .i64 ((List.getD x3 (Int.toNat (List.getD x2 (Int.toNat x0) ((0, 0) : (Int × Int))).1) 0) - (IntKind.wrap .i64 (List.getD x1 (Int.toNat x0) ((0, 0) : (Int × Int))).1))))))) none) none) none) none) (some (Sum.inr (x3, 0))))
noncomputable def f_q0z_run10 (x : (Int × (List (Int × Int)) × (List (Int × Int)) × (List Int))) : Option ((List Int) × Int) := iter (fun x => f_q0z_n10 x.1 x.2.1 x.2.2.1 x.2.2.2) FU x
noncomputable def f_q0z_G10 (r : List A) (x : (Int × (List (Int × Int)) × (List (Int × Int)) × (List Int))) : Prop := f_q0z_L r 10 (f_q0z_s10 x.1 x.2.1 x.2.2.1 x.2.2.2) = some r
theorem f_q0z_step6 (x0 x1 : Int) (x2 x3 : List (Int × Int)) (x4 : List Int) (r : List A) (h : (cond (decide (x1 < x0)) (Option.bind (s_q0r x2 x3) fun r2 => (cond (fits ((List.length (x4 : List Int) + List.length ([r2] : List Int)) * 8)) (f_q0z_L r 6 (f_q0z_s6 x0 (IntKind.wrap .i64 (x1 + 1)) x2 x3 (x4 ++ [r2]))) none)) (f_q0z_L r 10 (f_q0z_s10 0 x2 x3 x4))) = some r) : f_q0z_L r 6 (f_q0z_s6 x0 x1 x2 x3 x4) = some r :=
 step_of' h (by kernel_rfl)
noncomputable def f_q0z_n6 (x0 x1 : Int) (x2 x3 : List (Int × Int)) (x4 : List Int) : Option ((Int × Int × (List (Int × Int)) × (List (Int × Int)) × (List Int)) ⊕ ((List Int) × Int)) := (cond (decide (x1 < x0)) (Option.bind (s_q0r x2 x3) fun r2 => (cond (fits ((List.length (x4 : List Int) + List.length ([r2] : List Int)) * 8)) (some (Sum.inl (x0, (IntKind.wrap .i64 (x1 + 1)), x2, x3, (x4 ++ [r2])))) none)) (Option.map (fun x => (Sum.inr x)) (f_q0z_run10 (0, x2, x3, x4))))
noncomputable def f_q0z_run6 (x : (Int × Int × (List (Int × Int)) × (List (Int × Int)) × (List Int))) : Option ((List Int) × Int) := iter (fun x => f_q0z_n6 x.1 x.2.1 x.2.2.1 x.2.2.2.1 x.2.2.2.2) FU x
noncomputable def f_q0z_G6 (r : List A) (x : (Int × Int × (List (Int × Int)) × (List (Int × Int)) × (List Int))) : Prop := f_q0z_L r 6 (f_q0z_s6 x.1 x.2.1 x.2.2.1 x.2.2.2.1 x.2.2.2.2) = some r
noncomputable def f_q0z_S10 (r : List A) : ((List Int) × Int) → Prop := fun v => r = l_q0z v
noncomputable def f_q0z_S6 (r : List A) : ((List Int) × Int) → Prop := fun v => r = l_q0z v
theorem f_q0z_go10 (r : List A) : ∀ x, sem (f_q0z_S10 r) (f_q0z_run10 x) → f_q0z_G10 r x :=
 fun x => iter_sound (step := fun x => f_q0z_n10 x.1 x.2.1 x.2.2.1 x.2.2.2) (fun x h => by
  unfold f_q0z_n10 at h
  exact f_q0z_step10 x.1 x.2.1 x.2.2.1 x.2.2.2 r ((sem_cond h (fun h => (sem_cond h (fun h => (sem_cond h (fun h => (sem_cond h (fun h => (sem_cond h (fun h => sem_got h fun q => q) (fun h => sem_none h))) (fun h => sem_none h))) (fun h => sem_none h))) (fun h => sem_none h))) (fun h => sem_got h fun q => some_eq q)))) FU x
theorem f_q0z_go6 (r : List A) : ∀ x, sem (f_q0z_S6 r) (f_q0z_run6 x) → f_q0z_G6 r x :=
 fun x => iter_sound (step := fun x => f_q0z_n6 x.1 x.2.1 x.2.2.1 x.2.2.2.1 x.2.2.2.2) (fun x h => by
  unfold f_q0z_n6 at h
  exact f_q0z_step6 x.1 x.2.1 x.2.2.1 x.2.2.2.1 x.2.2.2.2 r ((sem_cond h (fun h => (sem_bind h fun r2 h => (sem_cond h (fun h => sem_got h fun q => q) (fun h => sem_none h)))) (fun h => f_q0z_go10 r _ (sem_mapk h fun _ q => q))))) FU x
noncomputable def s_q0z (a0 : List (Int × Int)) (a1 : Int) (a2 : List (Int × Int)) : Option ((List Int) × Int) := (Option.bind (s_q0n a0 a1 a2) fun r1 => (cond (r1 != 0) (some ([], r1)) (f_q0z_run6 (a1, 0, a0, a2, []))))
theorem f_q0z_top (a0 : List (Int × Int)) (a1 : Int) (a2 : List (Int × Int)) (r : List A) : ev f_q0z_X (lpc (cnOf f_q0z_LV) (f_q0z_L r)) f_q0z_c (K0 TT f_q0z_rv) (enter [.lst (.st [(.i .i8), (.i .u16)]) a0, .v (.int .i64 a1), .lst (.st [(.i .i8), (.i .i16)]) a2]) = (Option.bind (s_q0n a0 a1 a2) fun r1 => (cond (r1 != 0) (some [.lst (.one (.i .i64)) [], .v (.int .i64 r1)]) (f_q0z_L r 6 (f_q0z_s6 a1 0 a0 a2 [])))) := by kernel_rfl
theorem s_q0z_ok (a0 : List (Int × Int)) (a1 : Int) (a2 : List (Int × Int)) (v : ((List Int) × Int)) (h : s_q0z a0 a1 a2 = some v) : (Option.bind (s_q0n a0 a1 a2) fun r1 => (cond (r1 != 0) (some [.lst (.one (.i .i64)) [], .v (.int .i64 r1)]) (f_q0z_L (l_q0z v) 6 (f_q0z_s6 a1 0 a0 a2 [])))) = some (l_q0z v) := by
 unfold s_q0z at h
 have go : ∀ r, sem (fun v => r = l_q0z v) ((Option.bind (s_q0n a0 a1 a2) fun r1 => (cond (r1 != 0) (some ([], r1)) (f_q0z_run6 (a1, 0, a0, a2, []))))) → (Option.bind (s_q0n a0 a1 a2) fun r1 => (cond (r1 != 0) (some [.lst (.one (.i .i64)) [], .v (.int .i64 r1)]) (f_q0z_L r 6 (f_q0z_s6 a1 0 a0 a2 [])))) = some r := fun r h => (sem_bind h fun r1 h => (sem_cond h (fun h => sem_got h fun q => some_eq q) (fun h => f_q0z_go6 r _ h)))
 exact go (l_q0z v) ⟨v, h, rfl⟩
noncomputable def c_q0z : List A → ACall
 | [.lst (.st [(.i .i8), (.i .u16)]) a0, .v (.int .i64 a1), .lst (.st [(.i .i8), (.i .i16)]) a2] => ⟨((List Int) × Int), s_q0z a0 a1 a2, fun r => .tup [.lst (.one (.i .i64)) r.1, .v (.int .i64 r.2)]⟩
 | _ => ACall.fail
theorem f_q0z_sound : Sound Try.prog 31 c_q0z := by
 refine sound_good f_q0z_ctx f_q0z_LV 3 Try.func31 (c := f_q0z_c) (by kernel_rfl) (rv := f_q0z_rv) (by kernel_rfl) (by kernel_rfl) (by kernel_rfl) (by kernel_rfl) fun rs => ?_
 unfold c_q0z
 split
 ·rename_i a0 a1 a2; intro v h; exact ⟨rfl, l_q0z v, rfl, (f_q0z_top a0 a1 a2 _).trans (s_q0z_ok a0 a1 a2 v h)⟩
 ·intro v h; cases h
noncomputable def f_q09_c : Code := match Try.f76.body with | some c => c | none => .skip
noncomputable def f_q09_X : Ctx := ⟨TT, phiOf [(114, c_q0w), (116, c_q0v)], noPsi, noXi⟩
def f_q09_LV : List (Nat × Keep) := []
def f_q09_rv : List ResultVar := [.tmp 6, .tmp 7]
noncomputable def f_q09_L (r : List A) : Nat → AS → Option (List A) := L f_q09_X (cnOf f_q09_LV) f_q09_c (K0 TT f_q09_rv) r
theorem f_q09_ctx : CtxOK Try.prog f_q09_X := ctx_of tab mix ⟨⟨Try.call114, f_q0w_sound⟩, ⟨Try.call116, f_q0v_sound⟩, trivial⟩
noncomputable def s_q09 (a0 : List (Int × Int)) (a1 : Int) (a2 : List (Int × Int)) : Option (Int × Int) := (Option.bind (s_q0w a0 a1 a2) fun r1 => (cond (r1 != 0) (some (0, r1)) (Option.bind (s_q0v a0 a2) fun r2 => (some (r2, 0)))))
theorem f_q09_top (a0 : List (Int × Int)) (a1 : Int) (a2 : List (Int × Int)) (r : List A) : ev f_q09_X (lpc (cnOf f_q09_LV) (f_q09_L r)) f_q09_c (K0 TT f_q09_rv) (enter [.lst (.st [(.i .i8), (.i .u16)]) a0, .v (.int .i64 a1), .lst (.st [(.i .i8), (.i .i16)]) a2]) = (Option.bind (s_q0w a0 a1 a2) fun r1 => (cond (r1 != 0) (some [.v (.int .i64 0), .v (.int .i64 r1)]) (Option.bind (s_q0v a0 a2) fun r2 => (some [.v (.int .i64 r2), .v (.int .i64 0)])))) := by kernel_rfl
noncomputable def l_q09 (r : (Int × Int)) : List A := [.v (.int .i64 r.1), .v (.int .i64 r.2)]
theorem s_q09_ok (a0 : List (Int × Int)) (a1 : Int) (a2 : List (Int × Int)) (v : (Int × Int)) (h : s_q09 a0 a1 a2 = some v) : (Option.bind (s_q0w a0 a1 a2) fun r1 => (cond (r1 != 0) (some [.v (.int .i64 0), .v (.int .i64 r1)]) (Option.bind (s_q0v a0 a2) fun r2 => (some [.v (.int .i64 r2), .v (.int .i64 0)])))) = some (l_q09 v) := by
 have e : (Option.bind (s_q0w a0 a1 a2) fun r1 => (cond (r1 != 0) (some [.v (.int .i64 0), .v (.int .i64 r1)]) (Option.bind (s_q0v a0 a2) fun r2 => (some [.v (.int .i64 r2), .v (.int .i64 0)])))) = Option.map l_q09 (s_q09 a0 a1 a2) := by
  unfold s_q09
  exact (bind_app fun _ => (cond_app (Option.map l_q09) rfl (bind_app fun _ => rfl)))
 rw [e, h]; rfl
noncomputable def c_q09 : List A → ACall
 | [.lst (.st [(.i .i8), (.i .u16)]) a0, .v (.int .i64 a1), .lst (.st [(.i .i8), (.i .i16)]) a2] => ⟨(Int × Int), s_q09 a0 a1 a2, fun r => .tup [.v (.int .i64 r.1), .v (.int .i64 r.2)]⟩
 | _ => ACall.fail
theorem f_q09_sound : Sound Try.prog 76 c_q09 := by
 refine sound_good f_q09_ctx f_q09_LV 3 Try.func76 (c := f_q09_c) (by kernel_rfl) (rv := f_q09_rv) (by kernel_rfl) (by kernel_rfl) (by kernel_rfl) (by kernel_rfl) fun rs => ?_
 unfold c_q09
 split
 ·rename_i a0 a1 a2; intro v h; exact ⟨rfl, l_q09 v, rfl, (f_q09_top a0 a1 a2 _).trans (s_q09_ok a0 a1 a2 v h)⟩
 ·intro v h; cases h
noncomputable def f_q04_c : Code := match Try.f77.body with | some c => c | none => .skip
noncomputable def f_q04_X : Ctx := ⟨TT, phiOf [(108, c_q0p), (124, c_q1a), (155, c_q24), (91, c_q1t)], noPsi, noXi⟩
def f_q04_LV : List (Nat × Keep) := []
def f_q04_rv : List ResultVar := [.tmp 6, .tmp 7]
noncomputable def f_q04_L (r : List A) : Nat → AS → Option (List A) := L f_q04_X (cnOf f_q04_LV) f_q04_c (K0 TT f_q04_rv) r
theorem f_q04_ctx : CtxOK Try.prog f_q04_X := ctx_of tab mix ⟨⟨Try.call108, f_q0p_sound⟩, ⟨Try.call124, f_q1a_sound⟩, ⟨Try.call155, f_q24_sound⟩, ⟨Try.call91, f_q1t_sound⟩, trivial⟩
noncomputable def s_q04 (a0 : List (Int × Int)) (a1 : Int) (a2 : List (Int × Int)) : Option (Int × Int) := (Option.bind (s_q0p a0) fun r1 => (cond ((s_q1t r1 (s_q1a a1)) != 0) (some (0, (s_q1t r1 (s_q1a a1)))) (cond (((List.length a2 : Nat) : Int) != ((List.length a0 : Nat) : Int)) (some (0, 4)) (Option.bind (s_q24 a0 a1 a2) fun r2 => (cond (decide (r2 < 0)) (some (0, 6)) (some (r2, 0)))))))
theorem f_q04_top (a0 : List (Int × Int)) (a1 : Int) (a2 : List (Int × Int)) (r : List A) : ev f_q04_X (lpc (cnOf f_q04_LV) (f_q04_L r)) f_q04_c (K0 TT f_q04_rv) (enter [.lst (.st [(.i .i8), (.i .u16)]) a0, .v (.int .i64 a1), .lst (.st [(.i .i8), (.i .i16)]) a2]) = (Option.bind (s_q0p a0) fun r1 => (cond ((s_q1t r1 (s_q1a a1)) != 0) (some [.v (.int .i64 0), .v (.int .i64 (s_q1t r1 (s_q1a a1)))]) (cond (((List.length a2 : Nat) : Int) != ((List.length a0 : Nat) : Int)) (some [.v (.int .i64 0), .v (.int .i64 4)]) (Option.bind (s_q24 a0 a1 a2) fun r2 => (cond (decide (r2 < 0)) (some [.v (.int .i64 0), .v (.int .i64 6)]) (some [.v (.int .i64 r2), .v (.int .i64 0)])))))) := by kernel_rfl
noncomputable def l_q04 (r : (Int × Int)) : List A := [.v (.int .i64 r.1), .v (.int .i64 r.2)]
theorem s_q04_ok (a0 : List (Int × Int)) (a1 : Int) (a2 : List (Int × Int)) (v : (Int × Int)) (h : s_q04 a0 a1 a2 = some v) : (Option.bind (s_q0p a0) fun r1 => (cond ((s_q1t r1 (s_q1a a1)) != 0) (some [.v (.int .i64 0), .v (.int .i64 (s_q1t r1 (s_q1a a1)))]) (cond (((List.length a2 : Nat) : Int) != ((List.length a0 : Nat) : Int)) (some [.v (.int .i64 0), .v (.int .i64 4)]) (Option.bind (s_q24 a0 a1 a2) fun r2 => (cond (decide (r2 < 0)) (some [.v (.int .i64 0), .v (.int .i64 6)]) (some [.v (.int .i64 r2), .v (.int .i64 0)])))))) = some (l_q04 v) := by
 have e : (Option.bind (s_q0p a0) fun r1 => (cond ((s_q1t r1 (s_q1a a1)) != 0) (some [.v (.int .i64 0), .v (.int .i64 (s_q1t r1 (s_q1a a1)))]) (cond (((List.length a2 : Nat) : Int) != ((List.length a0 : Nat) : Int)) (some [.v (.int .i64 0), .v (.int .i64 4)]) (Option.bind (s_q24 a0 a1 a2) fun r2 => (cond (decide (r2 < 0)) (some [.v (.int .i64 0), .v (.int .i64 6)]) (some [.v (.int .i64 r2), .v (.int .i64 0)])))))) = Option.map l_q04 (s_q04 a0 a1 a2) := by
  unfold s_q04
  exact (bind_app fun _ => (cond_app (Option.map l_q04) rfl (cond_app (Option.map l_q04) rfl (bind_app fun _ => (cond_app (Option.map l_q04) rfl rfl)))))
 rw [e, h]; rfl
noncomputable def c_q04 : List A → ACall
 | [.lst (.st [(.i .i8), (.i .u16)]) a0, .v (.int .i64 a1), .lst (.st [(.i .i8), (.i .i16)]) a2] => ⟨(Int × Int), s_q04 a0 a1 a2, fun r => .tup [.v (.int .i64 r.1), .v (.int .i64 r.2)]⟩
 | _ => ACall.fail
theorem f_q04_sound : Sound Try.prog 77 c_q04 := by
 refine sound_good f_q04_ctx f_q04_LV 3 Try.func77 (c := f_q04_c) (by kernel_rfl) (rv := f_q04_rv) (by kernel_rfl) (by kernel_rfl) (by kernel_rfl) (by kernel_rfl) fun rs => ?_
 unfold c_q04
 split
 ·rename_i a0 a1 a2; intro v h; exact ⟨rfl, l_q04 v, rfl, (f_q04_top a0 a1 a2 _).trans (s_q04_ok a0 a1 a2 v h)⟩
 ·intro v h; cases h
noncomputable def f_q05_c : Code := match Try.f82.body with | some c => c | none => .skip
noncomputable def f_q05_X : Ctx := ⟨TT, phiOf [(150, c_q11), (156, c_q14)], noPsi, noXi⟩
def f_q05_LV : List (Nat × Keep) := []
def f_q05_rv : List ResultVar := [.tmp 6, .tmp 7]
noncomputable def f_q05_L (r : List A) : Nat → AS → Option (List A) := L f_q05_X (cnOf f_q05_LV) f_q05_c (K0 TT f_q05_rv) r
theorem f_q05_ctx : CtxOK Try.prog f_q05_X := ctx_of tab mix ⟨⟨Try.call150, f_q11_sound⟩, ⟨Try.call156, f_q14_sound⟩, trivial⟩
noncomputable def s_q05 (a0 : List (Int × Int)) (a1 : Int) (a2 : List (Int × Int)) : Option (Int × Int) := (Option.bind (s_q11 a0 a1) fun r1 => (cond (r1 == 0) (cond (((List.length a2 : Nat) : Int) != ((List.length a0 : Nat) : Int)) (cond (4 != 0) (some (0, 4)) (Option.bind (s_q14 a0 a1 a2) fun r2 => (cond (decide (r2 < 0)) (some (0, 6)) (some (r2, 0))))) (cond (r1 != 0) (some (0, r1)) (Option.bind (s_q14 a0 a1 a2) fun r3 => (cond (decide (r3 < 0)) (some (0, 6)) (some (r3, 0)))))) (cond (r1 != 0) (some (0, r1)) (Option.bind (s_q14 a0 a1 a2) fun r4 => (cond (decide (r4 < 0)) (some (0, 6)) (some (r4, 0)))))))
theorem f_q05_top (a0 : List (Int × Int)) (a1 : Int) (a2 : List (Int × Int)) (r : List A) : ev f_q05_X (lpc (cnOf f_q05_LV) (f_q05_L r)) f_q05_c (K0 TT f_q05_rv) (enter [.lst (.st [(.i .i8), (.i .u16)]) a0, .v (.int .i64 a1), .lst (.st [(.i .i8), (.i .i16)]) a2]) = (Option.bind (s_q11 a0 a1) fun r1 => (cond (r1 == 0) (cond (((List.length a2 : Nat) : Int) != ((List.length a0 : Nat) : Int)) (cond (4 != 0) (some [.v (.int .i64 0), .v (.int .i64 4)]) (Option.bind (s_q14 a0 a1 a2) fun r2 => (cond (decide (r2 < 0)) (some [.v (.int .i64 0), .v (.int .i64 6)]) (some [.v (.int .i64 r2), .v (.int .i64 0)])))) (cond (r1 != 0) (some [.v (.int .i64 0), .v (.int .i64 r1)]) (Option.bind (s_q14 a0 a1 a2) fun r3 => (cond (decide (r3 < 0)) (some [.v (.int .i64 0), .v (.int .i64 6)]) (some [.v (.int .i64 r3), .v (.int .i64 0)]))))) (cond (r1 != 0) (some [.v (.int .i64 0), .v (.int .i64 r1)]) (Option.bind (s_q14 a0 a1 a2) fun r4 => (cond (decide (r4 < 0)) (some [.v (.int .i64 0), .v (.int .i64 6)]) (some [.v (.int .i64 r4), .v (.int .i64 0)])))))) := by kernel_rfl
noncomputable def l_q05 (r : (Int × Int)) : List A := [.v (.int .i64 r.1), .v (.int .i64 r.2)]
theorem s_q05_ok (a0 : List (Int × Int)) (a1 : Int) (a2 : List (Int × Int)) (v : (Int × Int)) (h : s_q05 a0 a1 a2 = some v) : (Option.bind (s_q11 a0 a1) fun r1 => (cond (r1 == 0) (cond (((List.length a2 : Nat) : Int) != ((List.length a0 : Nat) : Int)) (cond (4 != 0) (some [.v (.int .i64 0), .v (.int .i64 4)]) (Option.bind (s_q14 a0 a1 a2) fun r2 => (cond (decide (r2 < 0)) (some [.v (.int .i64 0), .v (.int .i64 6)]) (some [.v (.int .i64 r2), .v (.int .i64 0)])))) (cond (r1 != 0) (some [.v (.int .i64 0), .v (.int .i64 r1)]) (Option.bind (s_q14 a0 a1 a2) fun r3 => (cond (decide (r3 < 0)) (some [.v (.int .i64 0), .v (.int .i64 6)]) (some [.v (.int .i64 r3), .v (.int .i64 0)]))))) (cond (r1 != 0) (some [.v (.int .i64 0), .v (.int .i64 r1)]) (Option.bind (s_q14 a0 a1 a2) fun r4 => (cond (decide (r4 < 0)) (some [.v (.int .i64 0), .v (.int .i64 6)]) (some [.v (.int .i64 r4), .v (.int .i64 0)])))))) = some (l_q05 v) := by
 have e : (Option.bind (s_q11 a0 a1) fun r1 => (cond (r1 == 0) (cond (((List.length a2 : Nat) : Int) != ((List.length a0 : Nat) : Int)) (cond (4 != 0) (some [.v (.int .i64 0), .v (.int .i64 4)]) (Option.bind (s_q14 a0 a1 a2) fun r2 => (cond (decide (r2 < 0)) (some [.v (.int .i64 0), .v (.int .i64 6)]) (some [.v (.int .i64 r2), .v (.int .i64 0)])))) (cond (r1 != 0) (some [.v (.int .i64 0), .v (.int .i64 r1)]) (Option.bind (s_q14 a0 a1 a2) fun r3 => (cond (decide (r3 < 0)) (some [.v (.int .i64 0), .v (.int .i64 6)]) (some [.v (.int .i64 r3), .v (.int .i64 0)]))))) (cond (r1 != 0) (some [.v (.int .i64 0), .v (.int .i64 r1)]) (Option.bind (s_q14 a0 a1 a2) fun r4 => (cond (decide (r4 < 0)) (some [.v (.int .i64 0), .v (.int .i64 6)]) (some [.v (.int .i64 r4), .v (.int .i64 0)])))))) = Option.map l_q05 (s_q05 a0 a1 a2) := by
  unfold s_q05
  exact (bind_app fun _ => (cond_app (Option.map l_q05) (cond_app (Option.map l_q05) (cond_app (Option.map l_q05) rfl (bind_app fun _ => (cond_app (Option.map l_q05) rfl rfl))) (cond_app (Option.map l_q05) rfl (bind_app fun _ => (cond_app (Option.map l_q05) rfl rfl)))) (cond_app (Option.map l_q05) rfl (bind_app fun _ => (cond_app (Option.map l_q05) rfl rfl)))))
 rw [e, h]; rfl
noncomputable def c_q05 : List A → ACall
 | [.lst (.st [(.i .i8), (.i .u16)]) a0, .v (.int .i64 a1), .lst (.st [(.i .i8), (.i .i16)]) a2] => ⟨(Int × Int), s_q05 a0 a1 a2, fun r => .tup [.v (.int .i64 r.1), .v (.int .i64 r.2)]⟩
 | _ => ACall.fail
theorem f_q05_sound : Sound Try.prog 82 c_q05 := by
 refine sound_good f_q05_ctx f_q05_LV 3 Try.func82 (c := f_q05_c) (by kernel_rfl) (rv := f_q05_rv) (by kernel_rfl) (by kernel_rfl) (by kernel_rfl) (by kernel_rfl) fun rs => ?_
 unfold c_q05
 split
 ·rename_i a0 a1 a2; intro v h; exact ⟨rfl, l_q05 v, rfl, (f_q05_top a0 a1 a2 _).trans (s_q05_ok a0 a1 a2 v h)⟩
 ·intro v h; cases h
noncomputable def f_q1s_c : Code := match Try.f81.body with | some c => c | none => .skip
noncomputable def f_q1s_X : Ctx := ⟨TT, phiOf [(114, c_q0w), (149, c_q29), (92, c_q1v)], noPsi, noXi⟩
def f_q1s_LV : List (Nat × Keep) := [(8, ([2, 3, 11, 25, 26, 27], [], []))]
def f_q1s_rv : List ResultVar := [.tmp 8, .tmp 9]
noncomputable def f_q1s_L (r : List A) : Nat → AS → Option (List A) := L f_q1s_X (cnOf f_q1s_LV) f_q1s_c (K0 TT f_q1s_rv) r
theorem f_q1s_ctx : CtxOK Try.prog f_q1s_X := ctx_of tab mix ⟨⟨Try.call114, f_q0w_sound⟩, ⟨Try.call149, f_q29_sound⟩, ⟨Try.call92, f_q1v_sound⟩, trivial⟩
noncomputable def f_q1s_s8 (x0 x1 x2 : Int) (x3 : List (Int × Int)) (x4 : List Int) (x5 : List (Int × Int)) : AS := ⟨[(2, .a (.sl 0)), (3, .a (.v (.int .i64 x0))), (11, .a (.sl 1)), (25, .a (.sl 2)), (26, .a (.v (.int .i64 x1))), (27, .a (.v (.int .i64 x2)))], [(0, some ⟨false, .arr (.st [(.i .i8), (.i .i16)]) x3⟩), (1, some ⟨true, .arr (.one (.i .i64)) x4⟩), (2, some ⟨false, .arr (.st [(.i .i8), (.i .u16)]) x5⟩)], 3⟩
noncomputable def l_q1s (r : ((List Int) × Int)) : List A := [.lst (.one (.i .i64)) r.1, .v (.int .i64 r.2)]
theorem f_q1s_step8 (x0 x1 x2 : Int) (x3 : List (Int × Int)) (x4 : List Int) (x5 : List (Int × Int)) (r : List A) (h : (cond (decide (x2 < x1)) (cond (inB x2 (List.length x5)) (cond (inB x2 (List.length x3)) (cond (inB x2 (List.length x3)) (cond (s_q1v x0 (IntKind.wrap .i64 (List.getD x3 (Int.toNat x2) ((0, 0) : (Int × Int))).2) (IntKind.wrap .i64 ((s_q29 (List.getD x5 (Int.toNat x2) ((0, 0) : (Int × Int))).1 (List.getD x5 (Int.toNat x2) ((0, 0) : (Int × Int))).2 (List.getD x3 (Int.toNat x2) ((0, 0) : (Int × Int))).1 (List.getD x3 (Int.toNat x2) ((0, 0) : (Int × Int))).2) - 1))) (cond (fits ((List.length (x4 : List Int) + List.length ([x2] : List Int)) * 8)) (f_q1s_L r 8 (f_q1s_s8 x0 x1 (IntKind.wrap .i64 (x2 + 1)) x3 (x4 ++ [x2]) x5)) none) (f_q1s_L r 8 (f_q1s_s8 x0 x1 (IntKind.wrap .i64 (x2 + 1)) x3 x4 x5))) none) none) none) (some [.lst (.one (.i .i64)) x4, .v (.int .i64 0)])) = some r) : f_q1s_L r 8 (f_q1s_s8 x0 x1 x2 x3 x4 x5) = some r :=
 step_of' h (by kernel_rfl)
noncomputable def f_q1s_n8 (x0 x1 x2 : Int) (x3 : List (Int × Int)) (x4 : List Int) (x5 : List (Int × Int)) : Option ((Int × Int × Int × (List (Int × Int)) × (List Int) × (List (Int × Int))) ⊕ ((List Int) × Int)) := (cond (decide (x2 < x1)) (cond (inB x2 (List.length x5)) (cond (inB x2 (List.length x3)) (cond (inB x2 (List.length x3)) (cond (s_q1v x0 (IntKind.wrap .i64 (List.getD x3 (Int.toNat x2) ((0, 0) : (Int × Int))).2) (IntKind.wrap .i64 ((s_q29 (List.getD x5 (Int.toNat x2) ((0, 0) : (Int × Int))).1 (List.getD x5 (Int.toNat x2) ((0, 0) : (Int × Int))).2 (List.getD x3 (Int.toNat x2) ((0, 0) : (Int × Int))).1 (List.getD x3 (Int.toNat x2) ((0, 0) : (Int × Int))).2) - 1))) (cond (fits ((List.length (x4 : List Int) + List.length ([x2] : List Int)) * 8)) (some (Sum.inl (x0, x1, (IntKind.wrap .i64 (x2 + 1)), x3, (x4 ++ [x2]), x5))) none) (some (Sum.inl (x0, x1, (IntKind.wrap .i64 (x2 + 1)), x3, x4, x5)))) none) none) none) (some (Sum.inr (x4, 0))))
noncomputable def f_q1s_run8 (x : (Int × Int × Int × (List (Int × Int)) × (List Int) × (List (Int × Int)))) : Option ((List Int) × Int) := iter (fun x => f_q1s_n8 x.1 x.2.1 x.2.2.1 x.2.2.2.1 x.2.2.2.2.1 x.2.2.2.2.2) FU x
noncomputable def f_q1s_G8 (r : List A) (x : (Int × Int × Int × (List (Int × Int)) × (List Int) × (List (Int × Int)))) : Prop := f_q1s_L r 8 (f_q1s_s8 x.1 x.2.1 x.2.2.1 x.2.2.2.1 x.2.2.2.2.1 x.2.2.2.2.2) = some r
noncomputable def f_q1s_S8 (r : List A) : ((List Int) × Int) → Prop := fun v => r = l_q1s v
theorem f_q1s_go8 (r : List A) : ∀ x, sem (f_q1s_S8 r) (f_q1s_run8 x) → f_q1s_G8 r x :=
 fun x => iter_sound (step := fun x => f_q1s_n8 x.1 x.2.1 x.2.2.1 x.2.2.2.1 x.2.2.2.2.1 x.2.2.2.2.2) (fun x h => by
  unfold f_q1s_n8 at h
  exact f_q1s_step8 x.1 x.2.1 x.2.2.1 x.2.2.2.1 x.2.2.2.2.1 x.2.2.2.2.2 r ((sem_cond h (fun h => (sem_cond h (fun h => (sem_cond h (fun h => (sem_cond h (fun h => (sem_cond h (fun h => (sem_cond h (fun h => sem_got h fun q => q) (fun h => sem_none h))) (fun h => sem_got h fun q => q))) (fun h => sem_none h))) (fun h => sem_none h))) (fun h => sem_none h))) (fun h => sem_got h fun q => some_eq q)))) FU x
noncomputable def s_q1s (a0 : List (Int × Int)) (a1 : Int) (a2 : List (Int × Int)) (a3 : Int) : Option ((List Int) × Int) := (Option.bind (s_q0w a0 a1 a2) fun r1 => (cond (r1 != 0) (some ([], r1)) (cond (!(s_q1v a3 0 2000)) (some ([], 2)) (f_q1s_run8 (a3, ((List.length a0 : Nat) : Int), 0, a2, [], a0)))))
theorem f_q1s_top (a0 : List (Int × Int)) (a1 : Int) (a2 : List (Int × Int)) (a3 : Int) (r : List A) : ev f_q1s_X (lpc (cnOf f_q1s_LV) (f_q1s_L r)) f_q1s_c (K0 TT f_q1s_rv) (enter [.lst (.st [(.i .i8), (.i .u16)]) a0, .v (.int .i64 a1), .lst (.st [(.i .i8), (.i .i16)]) a2, .v (.int .i64 a3)]) = (Option.bind (s_q0w a0 a1 a2) fun r1 => (cond (r1 != 0) (some [.lst (.one (.i .i64)) [], .v (.int .i64 r1)]) (cond (!(s_q1v a3 0 2000)) (some [.lst (.one (.i .i64)) [], .v (.int .i64 2)]) (f_q1s_L r 8 (f_q1s_s8 a3 ((List.length a0 : Nat) : Int) 0 a2 [] a0))))) := by kernel_rfl
theorem s_q1s_ok (a0 : List (Int × Int)) (a1 : Int) (a2 : List (Int × Int)) (a3 : Int) (v : ((List Int) × Int)) (h : s_q1s a0 a1 a2 a3 = some v) : (Option.bind (s_q0w a0 a1 a2) fun r1 => (cond (r1 != 0) (some [.lst (.one (.i .i64)) [], .v (.int .i64 r1)]) (cond (!(s_q1v a3 0 2000)) (some [.lst (.one (.i .i64)) [], .v (.int .i64 2)]) (f_q1s_L (l_q1s v) 8 (f_q1s_s8 a3 ((List.length a0 : Nat) : Int) 0 a2 [] a0))))) = some (l_q1s v) := by
 unfold s_q1s at h
 have go : ∀ r, sem (fun v => r = l_q1s v) ((Option.bind (s_q0w a0 a1 a2) fun r1 => (cond (r1 != 0) (some ([], r1)) (cond (!(s_q1v a3 0 2000)) (some ([], 2)) (f_q1s_run8 (a3, ((List.length a0 : Nat) : Int), 0, a2, [], a0)))))) → (Option.bind (s_q0w a0 a1 a2) fun r1 => (cond (r1 != 0) (some [.lst (.one (.i .i64)) [], .v (.int .i64 r1)]) (cond (!(s_q1v a3 0 2000)) (some [.lst (.one (.i .i64)) [], .v (.int .i64 2)]) (f_q1s_L r 8 (f_q1s_s8 a3 ((List.length a0 : Nat) : Int) 0 a2 [] a0))))) = some r := fun r h => (sem_bind h fun r1 h => (sem_cond h (fun h => sem_got h fun q => some_eq q) (fun h => (sem_cond h (fun h => sem_got h fun q => some_eq q) (fun h => f_q1s_go8 r _ h)))))
 exact go (l_q1s v) ⟨v, h, rfl⟩
noncomputable def c_q1s : List A → ACall
 | [.lst (.st [(.i .i8), (.i .u16)]) a0, .v (.int .i64 a1), .lst (.st [(.i .i8), (.i .i16)]) a2, .v (.int .i64 a3)] => ⟨((List Int) × Int), s_q1s a0 a1 a2 a3, fun r => .tup [.lst (.one (.i .i64)) r.1, .v (.int .i64 r.2)]⟩
 | _ => ACall.fail
theorem f_q1s_sound : Sound Try.prog 81 c_q1s := by
 refine sound_good f_q1s_ctx f_q1s_LV 4 Try.func81 (c := f_q1s_c) (by kernel_rfl) (rv := f_q1s_rv) (by kernel_rfl) (by kernel_rfl) (by kernel_rfl) (by kernel_rfl) fun rs => ?_
 unfold c_q1s
 split
 ·rename_i a0 a1 a2 a3; intro v h; exact ⟨rfl, l_q1s v, rfl, (f_q1s_top a0 a1 a2 a3 _).trans (s_q1s_ok a0 a1 a2 a3 v h)⟩
 ·intro v h; cases h
noncomputable def f_q1b_c : Code := match Try.f146.body with | some c => c | none => .skip
noncomputable def f_q1b_X : Ctx := ⟨TT, phiOf [(92, c_q1v)], noPsi, noXi⟩
def f_q1b_LV : List (Nat × Keep) := [(3, ([0, 1, 5, 8, 9, 10], [], []))]
def f_q1b_rv : List ResultVar := [.tmp 4]
noncomputable def f_q1b_L (r : List A) : Nat → AS → Option (List A) := L f_q1b_X (cnOf f_q1b_LV) f_q1b_c (K0 TT f_q1b_rv) r
theorem f_q1b_ctx : CtxOK Try.prog f_q1b_X := ctx_of tab mix ⟨⟨Try.call92, f_q1v_sound⟩, trivial⟩
noncomputable def f_q1b_s3 (x0 x1 x2 : Int) (x3 : List (Int × Int)) (x4 : List Int) : AS := ⟨[(0, .a (.sl 0)), (1, .a (.sl 1)), (5, .a (.v (.int .u16 x0))), (8, .a (.sl 1)), (9, .a (.v (.int .i64 x1))), (10, .a (.v (.int .i64 x2)))], [(0, some ⟨false, .arr (.st [(.i .i8), (.i .u16)]) x3⟩), (1, some ⟨false, .arr (.one (.i .i64)) x4⟩)], 2⟩
noncomputable def l_q1b (r : Bool) : List A := [.v (.bool r)]
theorem f_q1b_step3 (x0 x1 x2 : Int) (x3 : List (Int × Int)) (x4 : List Int) (r : List A) (h : (cond (decide (x2 < x1)) (cond (inB x2 (List.length x4)) (cond (!(s_q1v (List.getD x4 (Int.toNat x2) 0) 0 (IntKind.wrap .i64 (((List.length x3 : Nat) : Int) - 1)))) (some [.v (.bool false)]) (cond (decide ((List.getD x4 (Int.toNat x2) 0) < 0)) none (cond ((bAnd .u16 (bShr .u16 x0 (List.getD x4 (Int.toNat x2) 0)) 1) == 1) (some [.v (.bool false)]) (cond (inB (List.getD x4 (Int.toNat x2) 0) (List.length x3)) (cond ((bAndNot .u16 (List.getD x3 (Int.toNat (List.getD x4 (Int.toNat x2) 0)) ((0, 0) : (Int × Int))).2 x0) != 0) (some [.v (.bool false)]) (cond (decide ((List.getD x4 (Int.toNat x2) 0) < 0)) none (f_q1b_L r 3 (f_q1b_s3 (bOr .u16 x0 (bShl .u16 1 (List.getD x4 (Int.toNat x2) 0))) x1 (IntKind.wrap .i64 (x2 + 1)) x3 x4)))) none)))) none) (some [.v (.bool (((List.length x4 : Nat) : Int) == ((List.length x3 : Nat) : Int)))])) = some r) : f_q1b_L r 3 (f_q1b_s3 x0 x1 x2 x3 x4) = some r :=
 step_of' h (by kernel_rfl)
noncomputable def f_q1b_n3 (x0 x1 x2 : Int) (x3 : List (Int × Int)) (x4 : List Int) : Option ((Int × Int × Int × (List (Int × Int)) × (List Int)) ⊕ Bool) := (cond (decide (x2 < x1)) (cond (inB x2 (List.length x4)) (cond (!(s_q1v (List.getD x4 (Int.toNat x2) 0) 0 (IntKind.wrap .i64 (((List.length x3 : Nat) : Int) - 1)))) (some (Sum.inr false)) (cond (decide ((List.getD x4 (Int.toNat x2) 0) < 0)) none (cond ((bAnd .u16 (bShr .u16 x0 (List.getD x4 (Int.toNat x2) 0)) 1) == 1) (some (Sum.inr false)) (cond (inB (List.getD x4 (Int.toNat x2) 0) (List.length x3)) (cond ((bAndNot .u16 (List.getD x3 (Int.toNat (List.getD x4 (Int.toNat x2) 0)) ((0, 0) : (Int × Int))).2 x0) != 0) (some (Sum.inr false)) (cond (decide ((List.getD x4 (Int.toNat x2) 0) < 0)) none (some (Sum.inl ((bOr .u16 x0 (bShl .u16 1 (List.getD x4 (Int.toNat x2) 0))), x1, (IntKind.wrap .i64 (x2 + 1)), x3, x4))))) none)))) none) (some (Sum.inr (((List.length x4 : Nat) : Int) == ((List.length x3 : Nat) : Int)))))
noncomputable def f_q1b_run3 (x : (Int × Int × Int × (List (Int × Int)) × (List Int))) : Option Bool := iter (fun x => f_q1b_n3 x.1 x.2.1 x.2.2.1 x.2.2.2.1 x.2.2.2.2) FU x
noncomputable def f_q1b_G3 (r : List A) (x : (Int × Int × Int × (List (Int × Int)) × (List Int))) : Prop := f_q1b_L r 3 (f_q1b_s3 x.1 x.2.1 x.2.2.1 x.2.2.2.1 x.2.2.2.2) = some r
noncomputable def f_q1b_S3 (r : List A) : Bool → Prop := fun v => r = l_q1b v
theorem f_q1b_go3 (r : List A) : ∀ x, sem (f_q1b_S3 r) (f_q1b_run3 x) → f_q1b_G3 r x :=
 fun x => iter_sound (step := fun x => f_q1b_n3 x.1 x.2.1 x.2.2.1 x.2.2.2.1 x.2.2.2.2) (fun x h => by
  unfold f_q1b_n3 at h
  exact f_q1b_step3 x.1 x.2.1 x.2.2.1 x.2.2.2.1 x.2.2.2.2 r ((sem_cond h (fun h => (sem_cond h (fun h => (sem_cond h (fun h => sem_got h fun q => some_eq q) (fun h => (sem_cond h (fun h => sem_none h) (fun h => (sem_cond h (fun h => sem_got h fun q => some_eq q) (fun h => (sem_cond h (fun h => (sem_cond h (fun h => sem_got h fun q => some_eq q) (fun h => (sem_cond h (fun h => sem_none h) (fun h => sem_got h fun q => q))))) (fun h => sem_none h))))))))) (fun h => sem_none h))) (fun h => sem_got h fun q => some_eq q)))) FU x
noncomputable def s_q1b (a0 : List (Int × Int)) (a1 : List Int) : Option Bool := (f_q1b_run3 (0, ((List.length a1 : Nat) : Int), 0, a0, a1))
theorem f_q1b_top (a0 : List (Int × Int)) (a1 : List Int) (r : List A) : ev f_q1b_X (lpc (cnOf f_q1b_LV) (f_q1b_L r)) f_q1b_c (K0 TT f_q1b_rv) (enter [.lst (.st [(.i .i8), (.i .u16)]) a0, .lst (.one (.i .i64)) a1]) = (f_q1b_L r 3 (f_q1b_s3 0 ((List.length a1 : Nat) : Int) 0 a0 a1)) := by kernel_rfl
theorem s_q1b_ok (a0 : List (Int × Int)) (a1 : List Int) (v : Bool) (h : s_q1b a0 a1 = some v) : (f_q1b_L (l_q1b v) 3 (f_q1b_s3 0 ((List.length a1 : Nat) : Int) 0 a0 a1)) = some (l_q1b v) := by
 unfold s_q1b at h
 have go : ∀ r, sem (fun v => r = l_q1b v) ((f_q1b_run3 (0, ((List.length a1 : Nat) : Int), 0, a0, a1))) → (f_q1b_L r 3 (f_q1b_s3 0 ((List.length a1 : Nat) : Int) 0 a0 a1)) = some r := fun r h => f_q1b_go3 r _ h
 exact go (l_q1b v) ⟨v, h, rfl⟩
noncomputable def c_q1b : List A → ACall
 | [.lst (.st [(.i .i8), (.i .u16)]) a0, .lst (.one (.i .i64)) a1] => ⟨Bool, s_q1b a0 a1, fun r => .one (.v (.bool r))⟩
 | _ => ACall.fail
theorem f_q1b_sound : Sound Try.prog 146 c_q1b := by
 refine sound_good f_q1b_ctx f_q1b_LV 2 Try.func146 (c := f_q1b_c) (by kernel_rfl) (rv := f_q1b_rv) (by kernel_rfl) (by kernel_rfl) (by kernel_rfl) (by kernel_rfl) fun rs => ?_
 unfold c_q1b
 split
 ·rename_i a0 a1; intro v h; exact ⟨rfl, l_q1b v, rfl, (f_q1b_top a0 a1 _).trans (s_q1b_ok a0 a1 v h)⟩
 ·intro v h; cases h
noncomputable def f_q0b_c : Code := match Try.f72.body with | some c => c | none => .skip
noncomputable def f_q0b_X : Ctx := ⟨TT, phiOf [(108, c_q0p), (124, c_q1a), (146, c_q1b), (148, c_q0q), (149, c_q29), (91, c_q1t)], noPsi, (xiOf [(147, h_q1d)])⟩
def f_q0b_LV : List (Nat × Keep) := [(8, ([0, 9, 28, 29, 30], [], []))]
def f_q0b_rv : List ResultVar := [.tmp 6, .tmp 7]
noncomputable def f_q0b_L (r : List A) : Nat → AS → Option (List A) := L f_q0b_X (cnOf f_q0b_LV) f_q0b_c (K0 TT f_q0b_rv) r
theorem f_q0b_ctx : CtxOK Try.prog f_q0b_X := ctx_ofH tab mix (l := [(108, c_q0p), (124, c_q1a), (146, c_q1b), (148, c_q0q), (149, c_q29), (91, c_q1t)]) ⟨⟨Try.call108, f_q0p_sound⟩, ⟨Try.call124, f_q1a_sound⟩, ⟨Try.call146, f_q1b_sound⟩, ⟨Try.call148, f_q0q_sound⟩, ⟨Try.call149, f_q29_sound⟩, ⟨Try.call91, f_q1t_sound⟩, trivial⟩ psi_no (xi_ok (l := [(147, h_q1d)]) ⟨⟨Try.call147, f_q1d_sound⟩, trivial⟩)
noncomputable def f_q0b_s8 (x0 x1 : Int) (x2 x3 : List (Int × Int)) (x4 x5 : List Int) : AS := ⟨[(0, .a (.sl 0)), (9, .a (.ptr 1 [] (0))), (28, .a (.sl 4)), (29, .a (.v (.int .i64 x0))), (30, .a (.v (.int .i64 x1)))], [(0, some ⟨false, .arr (.st [(.i .i8), (.i .u16)]) x2⟩), (1, some ⟨true, .box (.rc [.sl 0, .sl 2, .sl 3])⟩), (2, some ⟨true, .arr (.st [(.i .i8), (.i .i16)]) x3⟩), (3, some ⟨true, .arr (.one (.i .i64)) x4⟩), (4, some ⟨false, .arr (.one (.i .i64)) x5⟩)], 5⟩
noncomputable def l_q0b (r : ((List (Int × Int)) × Int)) : List A := [.lst (.st [(.i .i8), (.i .i16)]) r.1, .v (.int .i64 r.2)]
theorem f_q0b_step8 (x0 x1 : Int) (x2 x3 : List (Int × Int)) (x4 x5 : List Int) (r : List A) (h : (cond (decide (x1 < x0)) (cond (inB x1 (List.length x5)) (Option.bind (s_q0q x2 x3 x4 (List.getD x5 (Int.toNat x1) 0)) fun r4 => (cond (inB (List.getD x5 (Int.toNat x1) 0) (List.length x2)) (cond (inB (List.getD x5 (Int.toNat x1) 0) (List.length x3)) (cond (inB r4.1 (List.length x4)) (f_q0b_L r 8 (f_q0b_s8 x0 (IntKind.wrap .i64 (x1 + 1)) x2 (List.set x3 (Int.toNat (List.getD x5 (Int.toNat x1) 0)) (r4.1, r4.2)) (List.set x4 (Int.toNat r4.1) (s_q29 (List.getD x2 (Int.toNat (List.getD x5 (Int.toNat x1) 0)) ((0, 0) : (Int × Int))).1 (List.getD x2 (Int.toNat (List.getD x5 (Int.toNat x1) 0)) ((0, 0) : (Int × Int))).2 (r4.1) (r4.2))) x5)) none) none) none)) none) (some [.lst (.st [(.i .i8), (.i .i16)]) x3, .v (.int .i64 0)])) = some r) : f_q0b_L r 8 (f_q0b_s8 x0 x1 x2 x3 x4 x5) = some r :=
 step_of' h (by kernel_rfl)
noncomputable def f_q0b_n8 (x0 x1 : Int) (x2 x3 : List (Int × Int)) (x4 x5 : List Int) : Option ((Int × Int × (List (Int × Int)) × (List (Int × Int)) × (List Int) × (List Int)) ⊕ ((List (Int × Int)) × Int)) := (cond (decide (x1 < x0)) (cond (inB x1 (List.length x5)) (Option.bind (s_q0q x2 x3 x4 (List.getD x5 (Int.toNat x1) 0)) fun r4 => (cond (inB (List.getD x5 (Int.toNat x1) 0) (List.length x2)) (cond (inB (List.getD x5 (Int.toNat x1) 0) (List.length x3)) (cond (inB r4.1 (List.length x4)) (some (Sum.inl (x0, (IntKind.wrap .i64 (x1 + 1)), x2, (List.set x3 (Int.toNat (List.getD x5 (Int.toNat x1) 0)) (r4.1, r4.2)), (List.set x4 (Int.toNat r4.1) (s_q29 (List.getD x2 (Int.toNat (List.getD x5 (Int.toNat x1) 0)) ((0, 0) : (Int × Int))).1 (List.getD x2 (Int.toNat (List.getD x5 (Int.toNat x1) 0)) ((0, 0) : (Int × Int))).2 (r4.1) (r4.2))), x5))) none) none) none)) none) (some (Sum.inr (x3, 0))))
noncomputable def f_q0b_run8 (x : (Int × Int × (List (Int × Int)) × (List (Int × Int)) × (List Int) × (List Int))) : Option ((List (Int × Int)) × Int) := iter (fun x => f_q0b_n8 x.1 x.2.1 x.2.2.1 x.2.2.2.1 x.2.2.2.2.1 x.2.2.2.2.2) FU x
noncomputable def f_q0b_G8 (r : List A) (x : (Int × Int × (List (Int × Int)) × (List (Int × Int)) × (List Int) × (List Int))) : Prop := f_q0b_L r 8 (f_q0b_s8 x.1 x.2.1 x.2.2.1 x.2.2.2.1 x.2.2.2.2.1 x.2.2.2.2.2) = some r
noncomputable def f_q0b_S8 (r : List A) : ((List (Int × Int)) × Int) → Prop := fun v => r = l_q0b v
theorem f_q0b_go8 (r : List A) : ∀ x, sem (f_q0b_S8 r) (f_q0b_run8 x) → f_q0b_G8 r x :=
 fun x => iter_sound (step := fun x => f_q0b_n8 x.1 x.2.1 x.2.2.1 x.2.2.2.1 x.2.2.2.2.1 x.2.2.2.2.2) (fun x h => by
  unfold f_q0b_n8 at h
  exact f_q0b_step8 x.1 x.2.1 x.2.2.1 x.2.2.2.1 x.2.2.2.2.1 x.2.2.2.2.2 r ((sem_cond h (fun h => (sem_cond h (fun h => (sem_bind h fun r4 h => (sem_cond h (fun h => (sem_cond h (fun h => (sem_cond h (fun h => sem_got h fun q => q) (fun h => sem_none h))) (fun h => sem_none h))) (fun h => sem_none h)))) (fun h => sem_none h))) (fun h => sem_got h fun q => some_eq q)))) FU x
noncomputable def s_q0b (a0 : List (Int × Int)) (a1 : Int) (a2 : List Int) : Option ((List (Int × Int)) × Int) := (Option.bind (s_q0p a0) fun r1 => (cond ((s_q1t r1 (s_q1a a1)) != 0) (some ([], (s_q1t r1 (s_q1a a1)))) (Option.bind (s_q1b a0 a2) fun r2 => (cond (!r2) (some ([], 4)) (Option.bind (s_q1d a1 a0) fun r3 => (f_q0b_run8 (((List.length a2 : Nat) : Int), 0, a0, r3.1, r3.2, a2)))))))
theorem f_q0b_top (a0 : List (Int × Int)) (a1 : Int) (a2 : List Int) (r : List A) : ev f_q0b_X (lpc (cnOf f_q0b_LV) (f_q0b_L r)) f_q0b_c (K0 TT f_q0b_rv) (enter [.lst (.st [(.i .i8), (.i .u16)]) a0, .v (.int .i64 a1), .lst (.one (.i .i64)) a2]) = (Option.bind (s_q0p a0) fun r1 => (cond ((s_q1t r1 (s_q1a a1)) != 0) (some [.lst (.st [(.i .i8), (.i .i16)]) [], .v (.int .i64 (s_q1t r1 (s_q1a a1)))]) (Option.bind (s_q1b a0 a2) fun r2 => (cond (!r2) (some [.lst (.st [(.i .i8), (.i .i16)]) [], .v (.int .i64 4)]) (Option.bind (s_q1d a1 a0) fun r3 => (f_q0b_L r 8 (f_q0b_s8 ((List.length a2 : Nat) : Int) 0 a0 r3.1 r3.2 a2))))))) := by kernel_rfl
theorem s_q0b_ok (a0 : List (Int × Int)) (a1 : Int) (a2 : List Int) (v : ((List (Int × Int)) × Int)) (h : s_q0b a0 a1 a2 = some v) : (Option.bind (s_q0p a0) fun r1 => (cond ((s_q1t r1 (s_q1a a1)) != 0) (some [.lst (.st [(.i .i8), (.i .i16)]) [], .v (.int .i64 (s_q1t r1 (s_q1a a1)))]) (Option.bind (s_q1b a0 a2) fun r2 => (cond (!r2) (some [.lst (.st [(.i .i8), (.i .i16)]) [], .v (.int .i64 4)]) (Option.bind (s_q1d a1 a0) fun r3 => (f_q0b_L (l_q0b v) 8 (f_q0b_s8 ((List.length a2 : Nat) : Int) 0 a0 r3.1 r3.2 a2))))))) = some (l_q0b v) := by
 unfold s_q0b at h
 have go : ∀ r, sem (fun v => r = l_q0b v) ((Option.bind (s_q0p a0) fun r1 => (cond ((s_q1t r1 (s_q1a a1)) != 0) (some ([], (s_q1t r1 (s_q1a a1)))) (Option.bind (s_q1b a0 a2) fun r2 => (cond (!r2) (some ([], 4)) (Option.bind (s_q1d a1 a0) fun r3 => (f_q0b_run8 (((List.length a2 : Nat) : Int), 0, a0, r3.1, r3.2, a2)))))))) → (Option.bind (s_q0p a0) fun r1 => (cond ((s_q1t r1 (s_q1a a1)) != 0) (some [.lst (.st [(.i .i8), (.i .i16)]) [], .v (.int .i64 (s_q1t r1 (s_q1a a1)))]) (Option.bind (s_q1b a0 a2) fun r2 => (cond (!r2) (some [.lst (.st [(.i .i8), (.i .i16)]) [], .v (.int .i64 4)]) (Option.bind (s_q1d a1 a0) fun r3 => (f_q0b_L r 8 (f_q0b_s8 ((List.length a2 : Nat) : Int) 0 a0 r3.1 r3.2 a2))))))) = some r := fun r h => (sem_bind h fun r1 h => (sem_cond h (fun h => sem_got h fun q => some_eq q) (fun h => (sem_bind h fun r2 h => (sem_cond h (fun h => sem_got h fun q => some_eq q) (fun h => (sem_bind h fun r3 h => f_q0b_go8 r _ h)))))))
 exact go (l_q0b v) ⟨v, h, rfl⟩
noncomputable def c_q0b : List A → ACall
 | [.lst (.st [(.i .i8), (.i .u16)]) a0, .v (.int .i64 a1), .lst (.one (.i .i64)) a2] => ⟨((List (Int × Int)) × Int), s_q0b a0 a1 a2, fun r => .tup [.lst (.st [(.i .i8), (.i .i16)]) r.1, .v (.int .i64 r.2)]⟩
 | _ => ACall.fail
theorem f_q0b_sound : Sound Try.prog 72 c_q0b := by
 refine sound_good f_q0b_ctx f_q0b_LV 3 Try.func72 (c := f_q0b_c) (by kernel_rfl) (rv := f_q0b_rv) (by kernel_rfl) (by kernel_rfl) (by kernel_rfl) (by kernel_rfl) fun rs => ?_
 unfold c_q0b
 split
 ·rename_i a0 a1 a2; intro v h; exact ⟨rfl, l_q0b v, rfl, (f_q0b_top a0 a1 a2 _).trans (s_q0b_ok a0 a1 a2 v h)⟩
 ·intro v h; cases h
noncomputable def f_q0f_c : Code := match Try.f73.body with | some c => c | none => .skip
noncomputable def f_q0f_X : Ctx := ⟨TT, phiOf [(150, c_q11), (151, c_q1z), (152, c_q1k), (93, c_q25)], noPsi, noXi⟩
def f_q0f_LV : List (Nat × Keep) := [(10, ([0, 2, 9, 10, 11, 12], [], []))]
def f_q0f_rv : List ResultVar := [.tmp 6, .tmp 7]
noncomputable def f_q0f_L (r : List A) : Nat → AS → Option (List A) := L f_q0f_X (cnOf f_q0f_LV) f_q0f_c (K0 TT f_q0f_rv) r
theorem f_q0f_ctx : CtxOK Try.prog f_q0f_X := ctx_of tab mix ⟨⟨Try.call150, f_q11_sound⟩, ⟨Try.call151, f_q1z_sound⟩, ⟨Try.call152, f_q1k_sound⟩, ⟨Try.call93, f_q25_sound⟩, trivial⟩
noncomputable def f_q0f_s10 (x0 x1 : Int) (x2 : List (Int × Int)) (x3 : List Int) (x4 : List (Int × Int)) (x5 : List Int) : AS := ⟨[(0, .a (.sl 0)), (2, .a (.sl 1)), (9, .a (.sl 2)), (10, .a (.sl 3)), (11, .a (.v (.int .u16 x0))), (12, .a (.v (.int .i64 x1)))], [(0, some ⟨false, .arr (.st [(.i .i8), (.i .u16)]) x2⟩), (1, some ⟨false, .arr (.one (.i .i64)) x3⟩), (2, some ⟨true, .arr (.st [(.i .i8), (.i .i16)]) x4⟩), (3, some ⟨true, .arr (.one (.i .i64)) x5⟩)], 4⟩
noncomputable def l_q0f (r : ((List (Int × Int)) × Int)) : List A := [.lst (.st [(.i .i8), (.i .i16)]) r.1, .v (.int .i64 r.2)]
theorem f_q0f_step10 (x0 x1 : Int) (x2 : List (Int × Int)) (x3 : List Int) (x4 : List (Int × Int)) (x5 : List Int) (r : List A) (h : (cond (decide (x1 < ((List.length x3 : Nat) : Int))) (cond (inB x1 (List.length x3)) (cond (!(s_q25 (List.getD x3 (Int.toNat x1) 0) 0 (IntKind.wrap .i64 (((List.length x2 : Nat) : Int) - 1)))) (some [.lst (.st [(.i .i8), (.i .i16)]) [], .v (.int .i64 4)]) (cond (inB x1 (List.length x3)) (cond (decide ((IntKind.wrap .u64 (List.getD x3 (Int.toNat x1) 0)) < 0)) none (cond ((Int.tmod (bShr .u16 x0 (IntKind.wrap .u64 (List.getD x3 (Int.toNat x1) 0))) 2) == 1) (some [.lst (.st [(.i .i8), (.i .i16)]) [], .v (.int .i64 4)]) (cond (inB x1 (List.length x3)) (cond (inB (List.getD x3 (Int.toNat x1) 0) (List.length x2)) (cond ((bAndNot .u16 (List.getD x2 (Int.toNat (List.getD x3 (Int.toNat x1) 0)) ((0, 0) : (Int × Int))).2 x0) != 0) (some [.lst (.st [(.i .i8), (.i .i16)]) [], .v (.int .i64 4)]) (cond (inB x1 (List.length x3)) (Option.bind (s_q1z x2 x4 x5 (List.getD x3 (Int.toNat x1) 0)) fun r2 => (cond (inB (List.getD x3 (Int.toNat x1) 0) (List.length x4)) (cond (inB (List.getD x3 (Int.toNat x1) 0) (List.length (List.set x4 (Int.toNat (List.getD x3 (Int.toNat x1) 0)) (r2.1, r2.2)))) (Option.bind (s_q1k x2 (List.set x4 (Int.toNat (List.getD x3 (Int.toNat x1) 0)) (r2.1, r2.2)) (List.getD x3 (Int.toNat x1) 0)) fun r3 => (cond (inB (List.getD (List.set x4 (Int.toNat (List.getD x3 (Int.toNat x1) 0)) (r2.1, r2.2)) (Int.toNat (List.getD x3 (Int.toNat x1) 0)) ((0, 0) : (Int × Int))).1 (List.length x5)) (cond (decide ((IntKind.wrap .u64 (List.getD x3 (Int.toNat x1) 0)) < 0)) none (f_q0f_L r 10 (f_q0f_s10 (bOr .u16 x0 (bShl .u16 1 (IntKind.wrap .u64 (List.getD x3 (Int.toNat x1) 0)))) (IntKind.wrap .i64 (x1 + 1)) x2 x3 (List.set x4 (Int.toNat (List.getD x3 (Int.toNat x1) 0)) (r2.1, r2.2)) (List.set x5 (Int.toNat (List.getD (List.set x4 (Int.toNat (List.getD x3 (Int.toNat x1) 0)) (r2.1, r2.2)) (Int.toNat (List.getD x3 (Int.toNat x1) 0)) ((0, 0) : (Int × Int))).1) r3)))) none)) none) none)) none)) none) none))) none)) none) (some [.lst (.st [(.i .i8), (.i .i16)]) x4, .v (.int .i64 0)])) = some r) : f_q0f_L r 10 (f_q0f_s10 x0 x1 x2 x3 x4 x5) = some r :=
 step_of' h (by kernel_rfl)
noncomputable def f_q0f_n10 (x0 x1 : Int) (x2 : List (Int × Int)) (x3 : List Int) (x4 : List (Int × Int)) (x5 : List Int) : Option ((Int × Int × (List (Int × Int)) × (List Int) × (List (Int × Int)) × (List Int)) ⊕ ((List (Int × Int)) × Int)) := (cond (decide (x1 < ((List.length x3 : Nat) : Int))) (cond (inB x1 (List.length x3)) (cond (!(s_q25 (List.getD x3 (Int.toNat x1) 0) 0 (IntKind.wrap .i64 (((List.length x2 : Nat) : Int) - 1)))) (some (Sum.inr ([], 4))) (cond (inB x1 (List.length x3)) (cond (decide ((IntKind.wrap .u64 (List.getD x3 (Int.toNat x1) 0)) < 0)) none (cond ((Int.tmod (bShr .u16 x0 (IntKind.wrap .u64 (List.getD x3 (Int.toNat x1) 0))) 2) == 1) (some (Sum.inr ([], 4))) (cond (inB x1 (List.length x3)) (cond (inB (List.getD x3 (Int.toNat x1) 0) (List.length x2)) (cond ((bAndNot .u16 (List.getD x2 (Int.toNat (List.getD x3 (Int.toNat x1) 0)) ((0, 0) : (Int × Int))).2 x0) != 0) (some (Sum.inr ([], 4))) (cond (inB x1 (List.length x3)) (Option.bind (s_q1z x2 x4 x5 (List.getD x3 (Int.toNat x1) 0)) fun r2 => (cond (inB (List.getD x3 (Int.toNat x1) 0) (List.length x4)) (cond (inB (List.getD x3 (Int.toNat x1) 0) (List.length (List.set x4 (Int.toNat (List.getD x3 (Int.toNat x1) 0)) (r2.1, r2.2)))) (Option.bind (s_q1k x2 (List.set x4 (Int.toNat (List.getD x3 (Int.toNat x1) 0)) (r2.1, r2.2)) (List.getD x3 (Int.toNat x1) 0)) fun r3 => (cond (inB (List.getD (List.set x4 (Int.toNat (List.getD x3 (Int.toNat x1) 0)) (r2.1, r2.2)) (Int.toNat (List.getD x3 (Int.toNat x1) 0)) ((0, 0) : (Int × Int))).1 (List.length x5)) (cond (decide ((IntKind.wrap .u64 (List.getD x3 (Int.toNat x1) 0)) < 0)) none (some (Sum.inl ((bOr .u16 x0 (bShl .u16 1 (IntKind.wrap .u64 (List.getD x3 (Int.toNat x1) 0)))), (IntKind.wrap .i64 (x1 + 1)), x2, x3, (List.set x4 (Int.toNat (List.getD x3 (Int.toNat x1) 0)) (r2.1, r2.2)), (List.set x5 (Int.toNat (List.getD (List.set x4 (Int.toNat (List.getD x3 (Int.toNat x1) 0)) (r2.1, r2.2)) (Int.toNat (List.getD x3 (Int.toNat x1) 0)) ((0, 0) : (Int × Int))).1) r3))))) none)) none) none)) none)) none) none))) none)) none) (some (Sum.inr (x4, 0))))
noncomputable def f_q0f_run10 (x : (Int × Int × (List (Int × Int)) × (List Int) × (List (Int × Int)) × (List Int))) : Option ((List (Int × Int)) × Int) := iter (fun x => f_q0f_n10 x.1 x.2.1 x.2.2.1 x.2.2.2.1 x.2.2.2.2.1 x.2.2.2.2.2) FU x
noncomputable def f_q0f_G10 (r : List A) (x : (Int × Int × (List (Int × Int)) × (List Int) × (List (Int × Int)) × (List Int))) : Prop := f_q0f_L r 10 (f_q0f_s10 x.1 x.2.1 x.2.2.1 x.2.2.2.1 x.2.2.2.2.1 x.2.2.2.2.2) = some r
noncomputable def f_q0f_S10 (r : List A) : ((List (Int × Int)) × Int) → Prop := fun v => r = l_q0f v
theorem f_q0f_go10 (r : List A) : ∀ x, sem (f_q0f_S10 r) (f_q0f_run10 x) → f_q0f_G10 r x :=
 fun x => iter_sound (step := fun x => f_q0f_n10 x.1 x.2.1 x.2.2.1 x.2.2.2.1 x.2.2.2.2.1 x.2.2.2.2.2) (fun x h => by
  unfold f_q0f_n10 at h
  exact f_q0f_step10 x.1 x.2.1 x.2.2.1 x.2.2.2.1 x.2.2.2.2.1 x.2.2.2.2.2 r ((sem_cond h (fun h => (sem_cond h (fun h => (sem_cond h (fun h => sem_got h fun q => some_eq q) (fun h => (sem_cond h (fun h => (sem_cond h (fun h => sem_none h) (fun h => (sem_cond h (fun h => sem_got h fun q => some_eq q) (fun h => (sem_cond h (fun h => (sem_cond h (fun h => (sem_cond h (fun h => sem_got h fun q => some_eq q) (fun h => (sem_cond h (fun h => (sem_bind h fun r2 h => (sem_cond h (fun h => (sem_cond h (fun h => (sem_bind h fun r3 h => (sem_cond h (fun h => (sem_cond h (fun h => sem_none h) (fun h => sem_got h fun q => q))) (fun h => sem_none h)))) (fun h => sem_none h))) (fun h => sem_none h)))) (fun h => sem_none h))))) (fun h => sem_none h))) (fun h => sem_none h))))))) (fun h => sem_none h))))) (fun h => sem_none h))) (fun h => sem_got h fun q => some_eq q)))) FU x
noncomputable def s_q0f (a0 : List (Int × Int)) (a1 : Int) (a2 : List Int) : Option ((List (Int × Int)) × Int) := (Option.bind (s_q11 a0 a1) fun r1 => (cond (r1 != 0) (some ([], r1)) (cond (((List.length a2 : Nat) : Int) != ((List.length a0 : Nat) : Int)) (some ([], 4)) (cond (decide (0 ≤ ((List.length a0 : Nat) : Int)) && decide (((List.length a0 : Nat) : Int) = ((List.length a0 : Nat) : Int)) && fits ((Int.toNat ((List.length a0 : Nat) : Int)) * 4)) (cond (decide (0 ≤ a1) && decide (a1 = a1) && fits ((Int.toNat a1) * 8)) (f_q0f_run10 (0, 0, a0, a2, (List.replicate (Int.toNat ((List.length a0 : Nat) : Int)) ((0, 0) : (Int × Int))), (List.replicate (Int.toNat a1) 0))) none) none))))
theorem f_q0f_top (a0 : List (Int × Int)) (a1 : Int) (a2 : List Int) (r : List A) : ev f_q0f_X (lpc (cnOf f_q0f_LV) (f_q0f_L r)) f_q0f_c (K0 TT f_q0f_rv) (enter [.lst (.st [(.i .i8), (.i .u16)]) a0, .v (.int .i64 a1), .lst (.one (.i .i64)) a2]) = (Option.bind (s_q11 a0 a1) fun r1 => (cond (r1 != 0) (some [.lst (.st [(.i .i8), (.i .i16)]) [], .v (.int .i64 r1)]) (cond (((List.length a2 : Nat) : Int) != ((List.length a0 : Nat) : Int)) (some [.lst (.st [(.i .i8), (.i .i16)]) [], .v (.int .i64 4)]) (cond (decide (0 ≤ ((List.length a0 : Nat) : Int)) && decide (((List.length a0 : Nat) : Int) = ((List.length a0 : Nat) : Int)) && fits ((Int.toNat ((List.length a0 : Nat) : Int)) * 4)) (cond (decide (0 ≤ a1) && decide (a1 = a1) && fits ((Int.toNat a1) * 8)) (f_q0f_L r 10 (f_q0f_s10 0 0 a0 a2 (List.replicate (Int.toNat ((List.length a0 : Nat) : Int)) ((0, 0) : (Int × Int))) (List.replicate (Int.toNat a1) 0))) none) none)))) := by kernel_rfl
theorem s_q0f_ok (a0 : List (Int × Int)) (a1 : Int) (a2 : List Int) (v : ((List (Int × Int)) × Int)) (h : s_q0f a0 a1 a2 = some v) : (Option.bind (s_q11 a0 a1) fun r1 => (cond (r1 != 0) (some [.lst (.st [(.i .i8), (.i .i16)]) [], .v (.int .i64 r1)]) (cond (((List.length a2 : Nat) : Int) != ((List.length a0 : Nat) : Int)) (some [.lst (.st [(.i .i8), (.i .i16)]) [], .v (.int .i64 4)]) (cond (decide (0 ≤ ((List.length a0 : Nat) : Int)) && decide (((List.length a0 : Nat) : Int) = ((List.length a0 : Nat) : Int)) && fits ((Int.toNat ((List.length a0 : Nat) : Int)) * 4)) (cond (decide (0 ≤ a1) && decide (a1 = a1) && fits ((Int.toNat a1) * 8)) (f_q0f_L (l_q0f v) 10 (f_q0f_s10 0 0 a0 a2 (List.replicate (Int.toNat ((List.length a0 : Nat) : Int)) ((0, 0) : (Int × Int))) (List.replicate (Int.toNat a1) 0))) none) none)))) = some (l_q0f v) := by
 unfold s_q0f at h
 have go : ∀ r, sem (fun v => r = l_q0f v) ((Option.bind (s_q11 a0 a1) fun r1 => (cond (r1 != 0) (some ([], r1)) (cond (((List.length a2 : Nat) : Int) != ((List.length a0 : Nat) : Int)) (some ([], 4)) (cond (decide (0 ≤ ((List.length a0 : Nat) : Int)) && decide (((List.length a0 : Nat) : Int) = ((List.length a0 : Nat) : Int)) && fits ((Int.toNat ((List.length a0 : Nat) : Int)) * 4)) (cond (decide (0 ≤ a1) && decide (a1 = a1) && fits ((Int.toNat a1) * 8)) (f_q0f_run10 (0, 0, a0, a2, (List.replicate (Int.toNat ((List.length a0 : Nat) : Int)) ((0, 0) : (Int × Int))), (List.replicate (Int.toNat a1) 0))) none) none))))) → (Option.bind (s_q11 a0 a1) fun r1 => (cond (r1 != 0) (some [.lst (.st [(.i .i8), (.i .i16)]) [], .v (.int .i64 r1)]) (cond (((List.length a2 : Nat) : Int) != ((List.length a0 : Nat) : Int)) (some [.lst (.st [(.i .i8), (.i .i16)]) [], .v (.int .i64 4)]) (cond (decide (0 ≤ ((List.length a0 : Nat) : Int)) && decide (((List.length a0 : Nat) : Int) = ((List.length a0 : Nat) : Int)) && fits ((Int.toNat ((List.length a0 : Nat) : Int)) * 4)) (cond (decide (0 ≤ a1) && decide (a1 = a1) && fits ((Int.toNat a1) * 8)) (f_q0f_L r 10 (f_q0f_s10 0 0 a0 a2 (List.replicate (Int.toNat ((List.length a0 : Nat) : Int)) ((0, 0) : (Int × Int))) (List.replicate (Int.toNat a1) 0))) none) none)))) = some r := fun r h => (sem_bind h fun r1 h => (sem_cond h (fun h => sem_got h fun q => some_eq q) (fun h => (sem_cond h (fun h => sem_got h fun q => some_eq q) (fun h => (sem_cond h (fun h => (sem_cond h (fun h => f_q0f_go10 r _ h) (fun h => sem_none h))) (fun h => sem_none h)))))))
 exact go (l_q0f v) ⟨v, h, rfl⟩
noncomputable def c_q0f : List A → ACall
 | [.lst (.st [(.i .i8), (.i .u16)]) a0, .v (.int .i64 a1), .lst (.one (.i .i64)) a2] => ⟨((List (Int × Int)) × Int), s_q0f a0 a1 a2, fun r => .tup [.lst (.st [(.i .i8), (.i .i16)]) r.1, .v (.int .i64 r.2)]⟩
 | _ => ACall.fail
theorem f_q0f_sound : Sound Try.prog 73 c_q0f := by
 refine sound_good f_q0f_ctx f_q0f_LV 3 Try.func73 (c := f_q0f_c) (by kernel_rfl) (rv := f_q0f_rv) (by kernel_rfl) (by kernel_rfl) (by kernel_rfl) (by kernel_rfl) fun rs => ?_
 unfold c_q0f
 split
 ·rename_i a0 a1 a2; intro v h; exact ⟨rfl, l_q0f v, rfl, (f_q0f_top a0 a1 a2 _).trans (s_q0f_ok a0 a1 a2 v h)⟩
 ·intro v h; cases h
noncomputable def f_q0t_c : Code := match Try.f74.body with | some c => c | none => .skip
noncomputable def f_q0t_X : Ctx := ⟨TT, phiOf [(108, c_q0p), (124, c_q1a), (153, c_q21), (91, c_q1t)], noPsi, noXi⟩
def f_q0t_LV : List (Nat × Keep) := []
def f_q0t_rv : List ResultVar := [.tmp 4, .tmp 5]
noncomputable def f_q0t_L (r : List A) : Nat → AS → Option (List A) := L f_q0t_X (cnOf f_q0t_LV) f_q0t_c (K0 TT f_q0t_rv) r
theorem f_q0t_ctx : CtxOK Try.prog f_q0t_X := ctx_of tab mix ⟨⟨Try.call108, f_q0p_sound⟩, ⟨Try.call124, f_q1a_sound⟩, ⟨Try.call153, f_q21_sound⟩, ⟨Try.call91, f_q1t_sound⟩, trivial⟩
noncomputable def s_q0t (a0 : List (Int × Int)) (a1 : Int) : Option (Int × Int) := (Option.bind (s_q0p a0) fun r1 => (cond ((s_q1t r1 (s_q1a a1)) != 0) (some (0, (s_q1t r1 (s_q1a a1)))) (Option.bind (s_q21 a0 a1) fun r2 => (some (r2, 0)))))
theorem f_q0t_top (a0 : List (Int × Int)) (a1 : Int) (r : List A) : ev f_q0t_X (lpc (cnOf f_q0t_LV) (f_q0t_L r)) f_q0t_c (K0 TT f_q0t_rv) (enter [.lst (.st [(.i .i8), (.i .u16)]) a0, .v (.int .i64 a1)]) = (Option.bind (s_q0p a0) fun r1 => (cond ((s_q1t r1 (s_q1a a1)) != 0) (some [.v (.int .i64 0), .v (.int .i64 (s_q1t r1 (s_q1a a1)))]) (Option.bind (s_q21 a0 a1) fun r2 => (some [.v (.int .i64 r2), .v (.int .i64 0)])))) := by kernel_rfl
noncomputable def l_q0t (r : (Int × Int)) : List A := [.v (.int .i64 r.1), .v (.int .i64 r.2)]
theorem s_q0t_ok (a0 : List (Int × Int)) (a1 : Int) (v : (Int × Int)) (h : s_q0t a0 a1 = some v) : (Option.bind (s_q0p a0) fun r1 => (cond ((s_q1t r1 (s_q1a a1)) != 0) (some [.v (.int .i64 0), .v (.int .i64 (s_q1t r1 (s_q1a a1)))]) (Option.bind (s_q21 a0 a1) fun r2 => (some [.v (.int .i64 r2), .v (.int .i64 0)])))) = some (l_q0t v) := by
 have e : (Option.bind (s_q0p a0) fun r1 => (cond ((s_q1t r1 (s_q1a a1)) != 0) (some [.v (.int .i64 0), .v (.int .i64 (s_q1t r1 (s_q1a a1)))]) (Option.bind (s_q21 a0 a1) fun r2 => (some [.v (.int .i64 r2), .v (.int .i64 0)])))) = Option.map l_q0t (s_q0t a0 a1) := by
  unfold s_q0t
  exact (bind_app fun _ => (cond_app (Option.map l_q0t) rfl (bind_app fun _ => rfl)))
 rw [e, h]; rfl
noncomputable def c_q0t : List A → ACall
 | [.lst (.st [(.i .i8), (.i .u16)]) a0, .v (.int .i64 a1)] => ⟨(Int × Int), s_q0t a0 a1, fun r => .tup [.v (.int .i64 r.1), .v (.int .i64 r.2)]⟩
 | _ => ACall.fail
theorem f_q0t_sound : Sound Try.prog 74 c_q0t := by
 refine sound_good f_q0t_ctx f_q0t_LV 2 Try.func74 (c := f_q0t_c) (by kernel_rfl) (rv := f_q0t_rv) (by kernel_rfl) (by kernel_rfl) (by kernel_rfl) (by kernel_rfl) fun rs => ?_
 unfold c_q0t
 split
 ·rename_i a0 a1; intro v h; exact ⟨rfl, l_q0t v, rfl, (f_q0t_top a0 a1 _).trans (s_q0t_ok a0 a1 v h)⟩
 ·intro v h; cases h
noncomputable def f_q0y_c : Code := match Try.f75.body with | some c => c | none => .skip
noncomputable def f_q0y_X : Ctx := ⟨TT, phiOf [(150, c_q11), (154, c_q12)], noPsi, noXi⟩
def f_q0y_LV : List (Nat × Keep) := []
def f_q0y_rv : List ResultVar := [.tmp 4, .tmp 5]
noncomputable def f_q0y_L (r : List A) : Nat → AS → Option (List A) := L f_q0y_X (cnOf f_q0y_LV) f_q0y_c (K0 TT f_q0y_rv) r
theorem f_q0y_ctx : CtxOK Try.prog f_q0y_X := ctx_of tab mix ⟨⟨Try.call150, f_q11_sound⟩, ⟨Try.call154, f_q12_sound⟩, trivial⟩
noncomputable def s_q0y (a0 : List (Int × Int)) (a1 : Int) : Option (Int × Int) := (Option.bind (s_q11 a0 a1) fun r1 => (cond (r1 != 0) (some (0, r1)) (Option.bind (s_q12 a0 a1) fun r2 => (some (r2, 0)))))
theorem f_q0y_top (a0 : List (Int × Int)) (a1 : Int) (r : List A) : ev f_q0y_X (lpc (cnOf f_q0y_LV) (f_q0y_L r)) f_q0y_c (K0 TT f_q0y_rv) (enter [.lst (.st [(.i .i8), (.i .u16)]) a0, .v (.int .i64 a1)]) = (Option.bind (s_q11 a0 a1) fun r1 => (cond (r1 != 0) (some [.v (.int .i64 0), .v (.int .i64 r1)]) (Option.bind (s_q12 a0 a1) fun r2 => (some [.v (.int .i64 r2), .v (.int .i64 0)])))) := by kernel_rfl
noncomputable def l_q0y (r : (Int × Int)) : List A := [.v (.int .i64 r.1), .v (.int .i64 r.2)]
theorem s_q0y_ok (a0 : List (Int × Int)) (a1 : Int) (v : (Int × Int)) (h : s_q0y a0 a1 = some v) : (Option.bind (s_q11 a0 a1) fun r1 => (cond (r1 != 0) (some [.v (.int .i64 0), .v (.int .i64 r1)]) (Option.bind (s_q12 a0 a1) fun r2 => (some [.v (.int .i64 r2), .v (.int .i64 0)])))) = some (l_q0y v) := by
 have e : (Option.bind (s_q11 a0 a1) fun r1 => (cond (r1 != 0) (some [.v (.int .i64 0), .v (.int .i64 r1)]) (Option.bind (s_q12 a0 a1) fun r2 => (some [.v (.int .i64 r2), .v (.int .i64 0)])))) = Option.map l_q0y (s_q0y a0 a1) := by
  unfold s_q0y
  exact (bind_app fun _ => (cond_app (Option.map l_q0y) rfl (bind_app fun _ => rfl)))
 rw [e, h]; rfl
noncomputable def c_q0y : List A → ACall
 | [.lst (.st [(.i .i8), (.i .u16)]) a0, .v (.int .i64 a1)] => ⟨(Int × Int), s_q0y a0 a1, fun r => .tup [.v (.int .i64 r.1), .v (.int .i64 r.2)]⟩
 | _ => ACall.fail
theorem f_q0y_sound : Sound Try.prog 75 c_q0y := by
 refine sound_good f_q0y_ctx f_q0y_LV 2 Try.func75 (c := f_q0y_c) (by kernel_rfl) (rv := f_q0y_rv) (by kernel_rfl) (by kernel_rfl) (by kernel_rfl) (by kernel_rfl) fun rs => ?_
 unfold c_q0y
 split
 ·rename_i a0 a1; intro v h; exact ⟨rfl, l_q0y v, rfl, (f_q0y_top a0 a1 _).trans (s_q0y_ok a0 a1 v h)⟩
 ·intro v h; cases h
end Go.RR
