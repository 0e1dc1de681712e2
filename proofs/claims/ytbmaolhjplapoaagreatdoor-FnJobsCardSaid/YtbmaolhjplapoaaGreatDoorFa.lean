/- Jobs: chains, latest days. -/
import Derived.Test.YtbmaolhjplapoaaGreatDoorVc
import Derived.Test.YtbmaolhjplapoaaGreatDoorRz
set_option linter.unusedVariables false
set_option linter.unusedSimpArgs false
set_option linter.unusedSectionVars false
set_option maxRecDepth 100000
namespace Go.RR
open Go Go.Proofs
noncomputable def f_gReverse_int64_c := codeC Tryz.f179
noncomputable def f_gReverse_int64_X : Ctx := ⟨TT, phiOf [], noPsi, noXi⟩
def f_gReverse_int64_LV : List (Nat × Keep) := [(1, ([0, 2, 3], [], []))]
def f_gReverse_int64_rv : List ResultVar := []
noncomputable def f_gReverse_int64_L := LqU f_gReverse_int64_X f_gReverse_int64_LV f_gReverse_int64_c f_gReverse_int64_rv
theorem f_gReverse_int64_ctx : CtxOK Tryz.prog f_gReverse_int64_X := ctx_of tab mix trivial
noncomputable def f_gReverse_int64_s1 (x0 x1 : Int) (x2 : List Int) : AS := ⟨[(0, .a (.sl 0)), (2, .a (.v (.int .i64 x0))), (3, .a (.v (.int .i64 x1)))], [(0, some ⟨true, .arr (.one (.i .i64)) x2⟩)], 1⟩
noncomputable def l_gReverse_int64 (r : List Int) : List A := [.lst (.one (.i .i64)) r]
theorem f_gReverse_int64_step1 (x0 x1 : Int) (x2 : List Int) (r : List A) (h : (cond (decide (x0 < x1)) (cond (inB x1 (List.length x2)) (cond (inB x0 (List.length x2)) (cond (inB x0 (List.length x2)) (cond (inB x1 (List.length (List.set x2 (Int.toNat x0) (List.getD x2 (Int.toNat x1) 0)))) (f_gReverse_int64_L r 1 (f_gReverse_int64_s1 (IntKind.wrap .i64 (x0 + 1)) (IntKind.wrap .i64 (x1 - 1)) (List.set (List.set x2 (Int.toNat x0) (List.getD x2 (Int.toNat x1) 0)) (Int.toNat x1) (List.getD x2 (Int.toNat x0) 0)))) none) none) none) none) (some [.lst (.one (.i .i64)) x2])) = some r) : f_gReverse_int64_L r 1 (f_gReverse_int64_s1 x0 x1 x2) = some r :=
 step_of' h (by kernel_rfl)
noncomputable def f_gReverse_int64_n1 (x0 x1 : Int) (x2 : List Int) : Option ((Int × Int × (List Int)) ⊕ (List Int)) := (cond (decide (x0 < x1)) (cond (inB x1 (List.length x2)) (cond (inB x0 (List.length x2)) (cond (inB x0 (List.length x2)) (cond (inB x1 (List.length (List.set x2 (Int.toNat x0) (List.getD x2 (Int.toNat x1) 0)))) (some (Sum.inl ((IntKind.wrap .i64 (x0 + 1)), (IntKind.wrap .i64 (x1 - 1)), (List.set (List.set x2 (Int.toNat x0) (List.getD x2 (Int.toNat x1) 0)) (Int.toNat x1) (List.getD x2 (Int.toNat x0) 0))))) none) none) none) none) (some (Sum.inr x2)))
noncomputable def f_gReverse_int64_run1 (x : (Int × Int × (List Int))) : Option (List Int) := iter (fun x => f_gReverse_int64_n1 x.1 x.2.1 x.2.2) FU x
noncomputable def f_gReverse_int64_G1 (r : List A) (x : (Int × Int × (List Int))) : Prop := f_gReverse_int64_L r 1 (f_gReverse_int64_s1 x.1 x.2.1 x.2.2) = some r
noncomputable def f_gReverse_int64_S1 (r : List A) : (List Int) → Prop := fun v => r = l_gReverse_int64 v
theorem f_gReverse_int64_go1 (r : List A) : ∀ x, sem (f_gReverse_int64_S1 r) (f_gReverse_int64_run1 x) → f_gReverse_int64_G1 r x :=
 fun x => iter_sound (step := fun x => f_gReverse_int64_n1 x.1 x.2.1 x.2.2) (fun x h => by
  unfold f_gReverse_int64_n1 at h
  exact f_gReverse_int64_step1 x.1 x.2.1 x.2.2 r ((sem_cond h (fun h => (sem_cond h (fun h => (sem_cond h (fun h => (sem_cond h (fun h => (sem_cond h (fun h => sem_got h fun q => q) (fun h => sem_none h))) (fun h => sem_none h))) (fun h => sem_none h))) (fun h => sem_none h))) (fun h => sem_got h fun q => some_eq q)))) FU x
noncomputable def s_gReverse_int64 (a0 : List Int) : Option (List Int) := (f_gReverse_int64_run1 (0, (IntKind.wrap .i64 (((List.length a0 : Nat) : Int) - 1)), a0))
theorem f_gReverse_int64_top (a0 : List Int) (r : List A) : TqU f_gReverse_int64_X f_gReverse_int64_LV f_gReverse_int64_c f_gReverse_int64_rv r (.one (.i .i64)) a0 [] = (f_gReverse_int64_L r 1 (f_gReverse_int64_s1 0 (IntKind.wrap .i64 (((List.length a0 : Nat) : Int) - 1)) a0)) := by kernel_rfl
theorem s_gReverse_int64_ok (a0 v : List Int) (h : s_gReverse_int64 a0 = some v) : (f_gReverse_int64_L (l_gReverse_int64 v) 1 (f_gReverse_int64_s1 0 (IntKind.wrap .i64 (((List.length a0 : Nat) : Int) - 1)) a0)) = some (l_gReverse_int64 v) := by
 replace h : sem (fun w => l_gReverse_int64 v = l_gReverse_int64 w) (s_gReverse_int64 a0) := ⟨v, h, rfl⟩
 unfold s_gReverse_int64 at h
 exact f_gReverse_int64_go1 (l_gReverse_int64 v) _ h
noncomputable def u_gReverse_int64 : UCon := fun e l rest => match e, l, rest with
 | (.one (.i .i64)), a0, [] => ⟨(List Int), s_gReverse_int64 a0, fun r => none, fun r => r⟩
 | _, _, _ => UCall.fail
theorem f_gReverse_int64_sound : USound Tryz.prog 179 u_gReverse_int64 := by
 refine goodU f_gReverse_int64_ctx f_gReverse_int64_LV f_gReverse_int64_c f_gReverse_int64_rv 1 Tryz.func179 fun e l rest => ?_
 unfold u_gReverse_int64
 split
 ·rename_i a0; intro v h; exact ⟨rfl, (f_gReverse_int64_top a0 _).trans (s_gReverse_int64_ok a0 v h)⟩
 ·intro v h; cases h
noncomputable def f_q1v_c := codeC Tryz.f76
noncomputable def f_q1v_X : Ctx := ⟨TT, phiOf [], noPsi, noXi⟩
def f_q1v_LV : List (Nat × Keep) := []
def f_q1v_rv : List ResultVar := [.tmp 4]
theorem f_q1v_ctx : CtxOK Tryz.prog f_q1v_X := ctx_of tab mix trivial
noncomputable def s_q1v (a0 a1 : Bool) : Int := (cond (!a0) 1 (cond (!a1) 2 0))
theorem f_q1v_top (a0 a1 : Bool) (r : List A) : Tq f_q1v_X f_q1v_LV f_q1v_c f_q1v_rv r [.v (.bool a0), .v (.bool a1)] = (cond (!a0) (some [.v (.int .i64 1)]) (cond (!a1) (some [.v (.int .i64 2)]) (some [.v (.int .i64 0)]))) := by kernel_rfl
noncomputable def l_q1v (r : Int) : List A := [.v (.int .i64 r)]
theorem s_q1v_ok (a0 a1 : Bool) : (cond (!a0) (some [.v (.int .i64 1)]) (cond (!a1) (some [.v (.int .i64 2)]) (some [.v (.int .i64 0)]))) = some (l_q1v (s_q1v a0 a1)) := by
 unfold s_q1v
 exact (cond_app (fun x => some (l_q1v x)) rfl (cond_app (fun x => some (l_q1v x)) rfl rfl))
noncomputable def c_q1v : List A → ACall
 | [.v (.bool a0), .v (.bool a1)] => ⟨Int, some (s_q1v a0 a1), fun r => .one (.v (.int .i64 r))⟩
 | _ => ACall.fail
theorem f_q1v_sound : Sound Tryz.prog 76 c_q1v := by
 refine good f_q1v_ctx f_q1v_LV f_q1v_c f_q1v_rv 2 Tryz.func76 fun rs => ?_
 unfold c_q1v
 split
 ·rename_i a0 a1; intro v h; cases h; exact ⟨rfl, l_q1v (s_q1v a0 a1), rfl, (f_q1v_top a0 a1 _).trans (s_q1v_ok a0 a1)⟩
 ·intro v h; cases h
noncomputable def f_q26_c := codeC Tryz.f135
noncomputable def f_q26_X : Ctx := ⟨TT, phiOf [(128, c_q0z), (129, c_q25)], (psiOf [(179, u_gReverse_int64)]), noXi⟩
def f_q26_LV : List (Nat × Keep) := [(4, ([0, 3, 15, 16, 17], [], [])), (7, ([0, 3, 6, 15, 16, 17, 22, 23], [], []))]
def f_q26_rv : List ResultVar := [.tmp 2]
noncomputable def f_q26_L := Lq f_q26_X f_q26_LV f_q26_c f_q26_rv
theorem f_q26_ctx : CtxOK Tryz.prog f_q26_X := ctx_ofH tab mix (l := [(128, c_q0z), (129, c_q25)]) ⟨⟨Tryz.call128, f_q0z_sound⟩, ⟨Tryz.call129, f_q25_sound⟩, trivial⟩ (psi_ok (l := [(179, u_gReverse_int64)]) ⟨⟨Tryz.call179, f_gReverse_int64_sound⟩, trivial⟩) xi_no
noncomputable def f_q26_s4 (x0 x1 : Int) (x2 : List (Int × Int)) (x3 x4 : List Int) : AS := ⟨[(0, .a (.sl 0)), (3, .a (.sl 1)), (15, .a (.sl 2)), (16, .a (.v (.int .i64 x0))), (17, .a (.v (.int .i64 x1)))], [(0, some ⟨false, .arr (.st [(.i .i8), (.i .u16)]) x2⟩), (1, some ⟨true, .arr (.one (.i .i64)) x3⟩), (2, some ⟨true, .arr (.one (.i .i64)) x4⟩)], 3⟩
noncomputable def f_q26_s7 (x0 x1 x2 x3 x4 : Int) (x5 : List (Int × Int)) (x6 x7 : List Int) : AS := ⟨[(0, .a (.sl 0)), (3, .a (.sl 1)), (6, .a (.v (.int .i64 x0))), (15, .a (.sl 2)), (16, .a (.v (.int .i64 x1))), (17, .a (.v (.int .i64 x2))), (22, .a (.v (.int .i64 x3))), (23, .a (.v (.int .i64 x4)))], [(0, some ⟨false, .arr (.st [(.i .i8), (.i .u16)]) x5⟩), (1, some ⟨true, .arr (.one (.i .i64)) x6⟩), (2, some ⟨true, .arr (.one (.i .i64)) x7⟩)], 3⟩
abbrev A_q26 := (List Int)
noncomputable def l_q26 (r : List Int) : List A := [.lst (.one (.i .i64)) r]
abbrev Z_q26_4 := (Int × Int × (List (Int × Int)) × (List Int) × (List Int))
abbrev Y_q26_4 := A_q26
abbrev Z_q26_7 := (Int × Int × Int × Int × Int × (List (Int × Int)) × (List Int) × (List Int))
abbrev Y_q26_7 := (Z_q26_4 ⊕ Y_q26_4)
section
variable {R R' : Type} {S : R → Prop} {r : R'} (E : A_q26 → Option R) (E' : A_q26 → Option R') (G4 : Z_q26_4 → Option R) (G4' : Z_q26_4 → Option R') (G7 : Z_q26_7 → Option R) (G7' : Z_q26_7 → Option R')
noncomputable def t_q26_4 (x0 x1 : Int) (x2 : List (Int × Int)) (x3 x4 : List Int) : Option R := (cond (decide (x1 < x0)) (cond (inB x1 (List.length x4)) (G7 ((List.getD x4 (Int.toNat x1) 0), x0, x1, ((List.length x2 : Nat) : Int), 0, x2, x3, x4)) none) (E x3))
theorem t_q26_4_sem (x0 x1 : Int) (x2 : List (Int × Int)) (x3 x4 : List Int) (h : sem S (t_q26_4 E G7 x0 x1 x2 x3 x4)) (hE : Leads S r E E') (h7 : Leads S r G7 G7') : t_q26_4 E' G7' x0 x1 x2 x3 x4 = some r := by
 revert h
 unfold t_q26_4
 repeat' first | refine sem_condK ?_ ?_ | refine sem_bindK fun _ => ?_ | exact sem_noneK | exact hE _ | exact h7 _ | refine sem_bind2K (fun _ => ?_) (fun _ => ?_)
noncomputable def t_q26_7 (x0 x1 x2 x3 x4 : Int) (x5 : List (Int × Int)) (x6 x7 : List Int) : Option R := (cond (decide (x4 < x3)) (cond (inB x4 (List.length x5)) (Option.bind (s_q0z (List.getD x5 (Int.toNat x4) ((0, 0) : (Int × Int))).1 (List.getD x5 (Int.toNat x4) ((0, 0) : (Int × Int))).2 x0) fun r3 => (cond r3 (cond (inB x0 (List.length x6)) (cond (inB x4 (List.length x6)) (cond (inB x0 (List.length x6)) (G7 (x0, x1, x2, x3, (IntKind.wrap .i64 (x4 + 1)), x5, (List.set x6 (Int.toNat x0) (max (List.getD x6 (Int.toNat x0) 0) (List.getD x6 (Int.toNat x4) 0))), x7)) none) none) none) (G7 (x0, x1, x2, x3, (IntKind.wrap .i64 (x4 + 1)), x5, x6, x7)))) none) (cond (inB x0 (List.length x6)) (cond (inB x0 (List.length x5)) (cond (inB x0 (List.length x6)) (G4 (x1, (IntKind.wrap .i64 (x2 + 1)), x5, (List.set x6 (Int.toNat x0) (IntKind.wrap .i64 ((List.getD x6 (Int.toNat x0) 0) + (IntKind.wrap .i64 (List.getD x5 (Int.toNat x0) ((0, 0) : (Int × Int))).1)))), x7)) none) none) none))
theorem t_q26_7_sem (x0 x1 x2 x3 x4 : Int) (x5 : List (Int × Int)) (x6 x7 : List Int) (h : sem S (t_q26_7 G4 G7 x0 x1 x2 x3 x4 x5 x6 x7)) (h4 : Leads S r G4 G4') (h7 : Leads S r G7 G7') : t_q26_7 G4' G7' x0 x1 x2 x3 x4 x5 x6 x7 = some r := by
 revert h
 unfold t_q26_7
 repeat' first | refine sem_condK ?_ ?_ | refine sem_bindK fun _ => ?_ | exact sem_noneK | exact h4 _ | exact h7 _ | refine sem_bind2K (fun _ => ?_) (fun _ => ?_)
noncomputable def t_q26 (a0 : List (Int × Int)) : Option R := (cond (decide (0 ≤ ((List.length a0 : Nat) : Int)) && decide (((List.length a0 : Nat) : Int) = ((List.length a0 : Nat) : Int)) && fits ((Int.toNat ((List.length a0 : Nat) : Int)) * 8)) (Option.bind (s_q25 a0) fun r1 => (Option.bind (s_gReverse_int64 r1) fun r2 => (G4 (((List.length (r2) : Nat) : Int), 0, a0, (List.replicate (Int.toNat ((List.length a0 : Nat) : Int)) (0 : Int)), (r2))))) none)
theorem t_q26_sem (a0 : List (Int × Int)) (h : sem S (t_q26 G4 a0)) (h4 : Leads S r G4 G4') : t_q26 G4' a0 = some r := by
 revert h
 unfold t_q26
 repeat' first | refine sem_condK ?_ ?_ | refine sem_bindK fun _ => ?_ | exact sem_noneK | exact h4 _ | refine sem_bind2K (fun _ => ?_) (fun _ => ?_)
end
noncomputable def f_q26_K4 (r : List A) (x : Z_q26_4) : Option (List A) := f_q26_L r 4 (f_q26_s4 x.1 x.2.1 x.2.2.1 x.2.2.2.1 x.2.2.2.2)
noncomputable def f_q26_K7 (r : List A) (x : Z_q26_7) : Option (List A) := f_q26_L r 7 (f_q26_s7 x.1 x.2.1 x.2.2.1 x.2.2.2.1 x.2.2.2.2.1 x.2.2.2.2.2.1 x.2.2.2.2.2.2.1 x.2.2.2.2.2.2.2)
theorem f_q26_step7 (x0 x1 x2 x3 x4 : Int) (x5 : List (Int × Int)) (x6 x7 : List Int) (r : List A) (h : t_q26_7 (f_q26_K4 r) (f_q26_K7 r) x0 x1 x2 x3 x4 x5 x6 x7 = some r) : f_q26_L r 7 (f_q26_s7 x0 x1 x2 x3 x4 x5 x6 x7) = some r :=
 step_of' h (by kernel_rfl)
noncomputable def f_q26_n7 (x0 x1 x2 x3 x4 : Int) (x5 : List (Int × Int)) (x6 x7 : List Int) : Option (Z_q26_7 ⊕ Y_q26_7) := t_q26_7 (fun x => some (Sum.inr (Sum.inl x))) (fun x => some (Sum.inl x)) x0 x1 x2 x3 x4 x5 x6 x7
noncomputable def f_q26_run7 (x : Z_q26_7) : Option Y_q26_7 := iter (fun x => f_q26_n7 x.1 x.2.1 x.2.2.1 x.2.2.2.1 x.2.2.2.2.1 x.2.2.2.2.2.1 x.2.2.2.2.2.2.1 x.2.2.2.2.2.2.2) FU x
noncomputable def f_q26_G7 (r : List A) (x : Z_q26_7) : Prop := f_q26_K7 r x = some r
theorem f_q26_step4 (x0 x1 : Int) (x2 : List (Int × Int)) (x3 x4 : List Int) (r : List A) (h : t_q26_4 (fun v => some (l_q26 v)) (f_q26_K7 r) x0 x1 x2 x3 x4 = some r) : f_q26_L r 4 (f_q26_s4 x0 x1 x2 x3 x4) = some r :=
 step_of' h (by kernel_rfl)
noncomputable def f_q26_n4 (x0 x1 : Int) (x2 : List (Int × Int)) (x3 x4 : List Int) : Option (Z_q26_4 ⊕ Y_q26_4) := t_q26_4 (fun v => some (Sum.inr v)) f_q26_run7 x0 x1 x2 x3 x4
noncomputable def f_q26_run4 (x : Z_q26_4) : Option Y_q26_4 := iter (fun x => f_q26_n4 x.1 x.2.1 x.2.2.1 x.2.2.2.1 x.2.2.2.2) FU x
noncomputable def f_q26_G4 (r : List A) (x : Z_q26_4) : Prop := f_q26_K4 r x = some r
noncomputable def f_q26_S4 (r : List A) : Y_q26_4 → Prop := fun v => r = l_q26 v
noncomputable def f_q26_S7 (r : List A) : Y_q26_7 → Prop := goesOn (f_q26_G4 r) (f_q26_S4 r)
theorem f_q26_go7 (r : List A) : ∀ x, sem (f_q26_S7 r) (f_q26_run7 x) → f_q26_G7 r x :=
 fun x => iter_sound (G := f_q26_G7 r) (E := f_q26_S7 r) (step := fun x => f_q26_n7 x.1 x.2.1 x.2.2.1 x.2.2.2.1 x.2.2.2.2.1 x.2.2.2.2.2.1 x.2.2.2.2.2.2.1 x.2.2.2.2.2.2.2) (fun x h => f_q26_step7 x.1 x.2.1 x.2.2.1 x.2.2.2.1 x.2.2.2.2.1 x.2.2.2.2.2.1 x.2.2.2.2.2.2.1 x.2.2.2.2.2.2.2 r (t_q26_7_sem _ _ _ _ x.1 x.2.1 x.2.2.1 x.2.2.2.1 x.2.2.2.2.1 x.2.2.2.2.2.1 x.2.2.2.2.2.2.1 x.2.2.2.2.2.2.2 h (fun _ h => sem_got h fun q => q) (fun _ h => sem_got h fun q => q))) FU x
theorem f_q26_go4 (r : List A) : ∀ x, sem (f_q26_S4 r) (f_q26_run4 x) → f_q26_G4 r x :=
 fun x => iter_sound (G := f_q26_G4 r) (E := f_q26_S4 r) (step := fun x => f_q26_n4 x.1 x.2.1 x.2.2.1 x.2.2.2.1 x.2.2.2.2) (fun x h => f_q26_step4 x.1 x.2.1 x.2.2.1 x.2.2.2.1 x.2.2.2.2 r (t_q26_4_sem _ _ _ _ x.1 x.2.1 x.2.2.1 x.2.2.2.1 x.2.2.2.2 h (fun _ h => sem_got h fun q => some_eq q) (f_q26_go7 r))) FU x
noncomputable def s_q26 (a0 : List (Int × Int)) : Option (List Int) := t_q26 f_q26_run4 a0
theorem f_q26_top (a0 : List (Int × Int)) (r : List A) : Tq f_q26_X f_q26_LV f_q26_c f_q26_rv r [.lst (.st [(.i .i8), (.i .u16)]) a0] = t_q26 (f_q26_K4 r) a0 := by kernel_rfl
theorem s_q26_ok (a0 : List (Int × Int)) (v : List Int) (h : s_q26 a0 = some v) : t_q26 (f_q26_K4 (l_q26 v)) a0 = some (l_q26 v) :=
 t_q26_sem _ _ a0 (show sem (fun w => l_q26 v = l_q26 w) (s_q26 a0) from ⟨v, h, rfl⟩) (f_q26_go4 (l_q26 v))
noncomputable def c_q26 : List A → ACall
 | [.lst (.st [(.i .i8), (.i .u16)]) a0] => ⟨(List Int), s_q26 a0, fun r => .one (.lst (.one (.i .i64)) r)⟩
 | _ => ACall.fail
theorem f_q26_sound : Sound Tryz.prog 135 c_q26 := by
 refine good f_q26_ctx f_q26_LV f_q26_c f_q26_rv 1 Tryz.func135 fun rs => ?_
 unfold c_q26
 split
 ·rename_i a0; intro v h; exact ⟨rfl, l_q26 v, rfl, (f_q26_top a0 _).trans (s_q26_ok a0 v h)⟩
 ·intro v h; cases h
noncomputable def f_q1o_c := codeC Tryz.f136
noncomputable def f_q1o_X : Ctx := ⟨TT, phiOf [(135, c_q26)], noPsi, noXi⟩
def f_q1o_LV : List (Nat × Keep) := [(3, ([3, 7, 8, 9], [], []))]
def f_q1o_rv : List ResultVar := [.tmp 2]
noncomputable def f_q1o_L := Lq f_q1o_X f_q1o_LV f_q1o_c f_q1o_rv
theorem f_q1o_ctx : CtxOK Tryz.prog f_q1o_X := ctx_of tab mix ⟨⟨Tryz.call135, f_q26_sound⟩, trivial⟩
noncomputable def f_q1o_s3 (x0 x1 x2 : Int) (x3 : List Int) : AS := ⟨[(3, .a (.v (.int .i64 x0))), (7, .a (.sl 0)), (8, .a (.v (.int .i64 x1))), (9, .a (.v (.int .i64 x2)))], [(0, some ⟨true, .arr (.one (.i .i64)) x3⟩)], 1⟩
noncomputable def l_q1o (r : Int) : List A := [.v (.int .i64 r)]
theorem f_q1o_step3 (x0 x1 x2 : Int) (x3 : List Int) (r : List A) (h : (cond (decide (x2 < x1)) (cond (inB x2 (List.length x3)) (f_q1o_L r 3 (f_q1o_s3 (max x0 (List.getD x3 (Int.toNat x2) 0)) x1 (IntKind.wrap .i64 (x2 + 1)) x3)) none) (some [.v (.int .i64 x0)])) = some r) : f_q1o_L r 3 (f_q1o_s3 x0 x1 x2 x3) = some r :=
 step_of' h (by kernel_rfl)
noncomputable def f_q1o_n3 (x0 x1 x2 : Int) (x3 : List Int) : Option ((Int × Int × Int × (List Int)) ⊕ Int) := (cond (decide (x2 < x1)) (cond (inB x2 (List.length x3)) (some (Sum.inl ((max x0 (List.getD x3 (Int.toNat x2) 0)), x1, (IntKind.wrap .i64 (x2 + 1)), x3))) none) (some (Sum.inr x0)))
noncomputable def f_q1o_run3 (x : (Int × Int × Int × (List Int))) : Option Int := iter (fun x => f_q1o_n3 x.1 x.2.1 x.2.2.1 x.2.2.2) FU x
noncomputable def f_q1o_G3 (r : List A) (x : (Int × Int × Int × (List Int))) : Prop := f_q1o_L r 3 (f_q1o_s3 x.1 x.2.1 x.2.2.1 x.2.2.2) = some r
noncomputable def f_q1o_S3 (r : List A) : Int → Prop := fun v => r = l_q1o v
theorem f_q1o_go3 (r : List A) : ∀ x, sem (f_q1o_S3 r) (f_q1o_run3 x) → f_q1o_G3 r x :=
 fun x => iter_sound (step := fun x => f_q1o_n3 x.1 x.2.1 x.2.2.1 x.2.2.2) (fun x h => by
  unfold f_q1o_n3 at h
  exact f_q1o_step3 x.1 x.2.1 x.2.2.1 x.2.2.2 r ((sem_cond h (fun h => (sem_cond h (fun h => sem_got h fun q => q) (fun h => sem_none h))) (fun h => sem_got h fun q => some_eq q)))) FU x
noncomputable def s_q1o (a0 : List (Int × Int)) : Option Int := (Option.bind (s_q26 a0) fun r1 => (f_q1o_run3 (0, ((List.length r1 : Nat) : Int), 0, r1)))
theorem f_q1o_top (a0 : List (Int × Int)) (r : List A) : Tq f_q1o_X f_q1o_LV f_q1o_c f_q1o_rv r [.lst (.st [(.i .i8), (.i .u16)]) a0] = (Option.bind (s_q26 a0) fun r1 => (f_q1o_L r 3 (f_q1o_s3 0 ((List.length r1 : Nat) : Int) 0 r1))) := by kernel_rfl
theorem s_q1o_ok (a0 : List (Int × Int)) (v : Int) (h : s_q1o a0 = some v) : (Option.bind (s_q26 a0) fun r1 => (f_q1o_L (l_q1o v) 3 (f_q1o_s3 0 ((List.length r1 : Nat) : Int) 0 r1))) = some (l_q1o v) := by
 replace h : sem (fun w => l_q1o v = l_q1o w) (s_q1o a0) := ⟨v, h, rfl⟩
 unfold s_q1o at h
 exact (sem_bind h fun r1 h => f_q1o_go3 (l_q1o v) _ h)
noncomputable def c_q1o : List A → ACall
 | [.lst (.st [(.i .i8), (.i .u16)]) a0] => ⟨Int, s_q1o a0, fun r => .one (.v (.int .i64 r))⟩
 | _ => ACall.fail
theorem f_q1o_sound : Sound Tryz.prog 136 c_q1o := by
 refine good f_q1o_ctx f_q1o_LV f_q1o_c f_q1o_rv 1 Tryz.func136 fun rs => ?_
 unfold c_q1o
 split
 ·rename_i a0; intro v h; exact ⟨rfl, l_q1o v, rfl, (f_q1o_top a0 _).trans (s_q1o_ok a0 v h)⟩
 ·intro v h; cases h
noncomputable def f_q1a_c := codeC Tryz.f57
noncomputable def f_q1a_X : Ctx := ⟨TT, phiOf [(135, c_q26), (136, c_q1o), (60, c_q12), (76, c_q1v), (84, c_q1y)], noPsi, noXi⟩
def f_q1a_LV : List (Nat × Keep) := [(8, ([1, 7, 24, 25, 26], [], []))]
def f_q1a_rv : List ResultVar := [.tmp 4, .tmp 5]
noncomputable def f_q1a_L := Lq f_q1a_X f_q1a_LV f_q1a_c f_q1a_rv
theorem f_q1a_ctx : CtxOK Tryz.prog f_q1a_X := ctx_of tab mix ⟨⟨Tryz.call135, f_q26_sound⟩, ⟨Tryz.call136, f_q1o_sound⟩, ⟨Tryz.call60, f_q12_sound⟩, ⟨Tryz.call76, f_q1v_sound⟩, ⟨Tryz.call84, f_q1y_sound⟩, trivial⟩
noncomputable def f_q1a_s8 (x0 x1 x2 : Int) (x3 x4 : List Int) : AS := ⟨[(1, .a (.v (.int .i64 x0))), (7, .a (.sl 0)), (24, .a (.sl 1)), (25, .a (.v (.int .i64 x1))), (26, .a (.v (.int .i64 x2)))], [(0, some ⟨true, .arr (.one (.i .i64)) x3⟩), (1, some ⟨true, .arr (.one (.i .i64)) x4⟩)], 2⟩
abbrev A_q1a := ((List Int) × Int)
noncomputable def l_q1a (r : ((List Int) × Int)) : List A := [.lst (.one (.i .i64)) r.1, .v (.int .i64 r.2)]
abbrev Z_q1a_8 := (Int × Int × Int × (List Int) × (List Int))
abbrev Y_q1a_8 := A_q1a
section
variable {R R' : Type} {S : R → Prop} {r : R'} (E : A_q1a → Option R) (E' : A_q1a → Option R') (G8 : Z_q1a_8 → Option R) (G8' : Z_q1a_8 → Option R')
noncomputable def t_q1a_8 (x0 x1 x2 : Int) (x3 x4 : List Int) : Option R := (cond (decide (x2 < x1)) (cond (inB x2 (List.length x4)) (cond (fits ((List.length (x3 : List Int) + List.length ([(IntKind.wrap .i64 (x0 - (List.getD x4 (Int.toNat x2) 0)))] : List Int)) * 8)) (G8 (x0, x1, (IntKind.wrap .i64 (x2 + 1)), (x3 ++ [(IntKind.wrap .i64 (x0 - (List.getD x4 (Int.toNat x2) 0)))]), x4)) none) none) (E (x3, 0)))
theorem t_q1a_8_sem (x0 x1 x2 : Int) (x3 x4 : List Int) (h : sem S (t_q1a_8 E G8 x0 x1 x2 x3 x4)) (hE : Leads S r E E') (h8 : Leads S r G8 G8') : t_q1a_8 E' G8' x0 x1 x2 x3 x4 = some r := by
 revert h
 unfold t_q1a_8
 repeat' first | refine sem_condK ?_ ?_ | refine sem_bindK fun _ => ?_ | exact sem_noneK | exact hE _ | exact h8 _ | refine sem_bind2K (fun _ => ?_) (fun _ => ?_)
noncomputable def t_q1a (a0 : List (Int × Int)) (a1 : Int) : Option R := (Option.bind (s_q12 a0) fun r1 => (cond ((s_q1v r1 (s_q1y a1 0 1000)) != 0) (E ([], (s_q1v r1 (s_q1y a1 0 1000)))) (Option.bind (s_q1o a0) fun r2 => (cond (decide (r2 > a1)) (E ([], 6)) (Option.bind (s_q26 a0) fun r3 => (G8 (a1, ((List.length r3 : Nat) : Int), 0, [], r3)))))))
theorem t_q1a_sem (a0 : List (Int × Int)) (a1 : Int) (h : sem S (t_q1a E G8 a0 a1)) (hE : Leads S r E E') (h8 : Leads S r G8 G8') : t_q1a E' G8' a0 a1 = some r := by
 revert h
 unfold t_q1a
 repeat' first | refine sem_condK ?_ ?_ | refine sem_bindK fun _ => ?_ | exact sem_noneK | exact hE _ | exact h8 _ | refine sem_bind2K (fun _ => ?_) (fun _ => ?_)
end
noncomputable def f_q1a_K8 (r : List A) (x : Z_q1a_8) : Option (List A) := f_q1a_L r 8 (f_q1a_s8 x.1 x.2.1 x.2.2.1 x.2.2.2.1 x.2.2.2.2)
theorem f_q1a_step8 (x0 x1 x2 : Int) (x3 x4 : List Int) (r : List A) (h : t_q1a_8 (fun v => some (l_q1a v)) (f_q1a_K8 r) x0 x1 x2 x3 x4 = some r) : f_q1a_L r 8 (f_q1a_s8 x0 x1 x2 x3 x4) = some r :=
 step_of' h (by kernel_rfl)
noncomputable def f_q1a_n8 (x0 x1 x2 : Int) (x3 x4 : List Int) : Option (Z_q1a_8 ⊕ Y_q1a_8) := t_q1a_8 (fun v => some (Sum.inr v)) (fun x => some (Sum.inl x)) x0 x1 x2 x3 x4
noncomputable def f_q1a_run8 (x : Z_q1a_8) : Option Y_q1a_8 := iter (fun x => f_q1a_n8 x.1 x.2.1 x.2.2.1 x.2.2.2.1 x.2.2.2.2) FU x
noncomputable def f_q1a_G8 (r : List A) (x : Z_q1a_8) : Prop := f_q1a_K8 r x = some r
noncomputable def f_q1a_S8 (r : List A) : Y_q1a_8 → Prop := fun v => r = l_q1a v
theorem f_q1a_go8 (r : List A) : ∀ x, sem (f_q1a_S8 r) (f_q1a_run8 x) → f_q1a_G8 r x :=
 fun x => iter_sound (G := f_q1a_G8 r) (E := f_q1a_S8 r) (step := fun x => f_q1a_n8 x.1 x.2.1 x.2.2.1 x.2.2.2.1 x.2.2.2.2) (fun x h => f_q1a_step8 x.1 x.2.1 x.2.2.1 x.2.2.2.1 x.2.2.2.2 r (t_q1a_8_sem _ _ _ _ x.1 x.2.1 x.2.2.1 x.2.2.2.1 x.2.2.2.2 h (fun _ h => sem_got h fun q => some_eq q) (fun _ h => sem_got h fun q => q))) FU x
noncomputable def s_q1a (a0 : List (Int × Int)) (a1 : Int) : Option ((List Int) × Int) := t_q1a some f_q1a_run8 a0 a1
theorem f_q1a_top (a0 : List (Int × Int)) (a1 : Int) (r : List A) : Tq f_q1a_X f_q1a_LV f_q1a_c f_q1a_rv r [.lst (.st [(.i .i8), (.i .u16)]) a0, .v (.int .i64 a1)] = t_q1a (fun v => some (l_q1a v)) (f_q1a_K8 r) a0 a1 := by kernel_rfl
theorem s_q1a_ok (a0 : List (Int × Int)) (a1 : Int) (v : ((List Int) × Int)) (h : s_q1a a0 a1 = some v) : t_q1a (fun v => some (l_q1a v)) (f_q1a_K8 (l_q1a v)) a0 a1 = some (l_q1a v) :=
 t_q1a_sem _ _ _ _ a0 a1 (show sem (fun w => l_q1a v = l_q1a w) (s_q1a a0 a1) from ⟨v, h, rfl⟩) (fun _ h => sem_got h fun q => some_eq q) (f_q1a_go8 (l_q1a v))
noncomputable def c_q1a : List A → ACall
 | [.lst (.st [(.i .i8), (.i .u16)]) a0, .v (.int .i64 a1)] => ⟨((List Int) × Int), s_q1a a0 a1, fun r => .tup [.lst (.one (.i .i64)) r.1, .v (.int .i64 r.2)]⟩
 | _ => ACall.fail
theorem f_q1a_sound : Sound Tryz.prog 57 c_q1a := by
 refine good f_q1a_ctx f_q1a_LV f_q1a_c f_q1a_rv 2 Tryz.func57 fun rs => ?_
 unfold c_q1a
 split
 ·rename_i a0 a1; intro v h; exact ⟨rfl, l_q1a v, rfl, (f_q1a_top a0 a1 _).trans (s_q1a_ok a0 a1 v h)⟩
 ·intro v h; cases h
noncomputable def f_q1h_c := codeC Tryz.f140
noncomputable def f_q1h_X : Ctx := ⟨TT, phiOf [(131, c_q1g), (132, c_q1i), (99, c_q21)], noPsi, noXi⟩
def f_q1h_LV : List (Nat × Keep) := [(4, ([0, 3, 5, 6], [], [])), (9, ([0, 3, 5, 6, 7, 8, 9], [], []))]
def f_q1h_rv : List ResultVar := [.tmp 2]
noncomputable def f_q1h_L := Lq f_q1h_X f_q1h_LV f_q1h_c f_q1h_rv
theorem f_q1h_ctx : CtxOK Tryz.prog f_q1h_X := ctx_of tab mix ⟨⟨Tryz.call131, f_q1g_sound⟩, ⟨Tryz.call132, f_q1i_sound⟩, ⟨Tryz.call99, f_q21_sound⟩, trivial⟩
noncomputable def f_q1h_s4 (x0 : Int) (x1 : List (Int × Int)) (x2 x3 : List Int) : AS := ⟨[(0, .a (.sl 0)), (3, .a (.sl 1)), (5, .a (.sl 2)), (6, .a (.v (.int .i64 x0)))], [(0, some ⟨false, .arr (.st [(.i .i8), (.i .u16)]) x1⟩), (1, some ⟨true, .arr (.one (.i .i64)) x2⟩), (2, some ⟨true, .arr (.one (.i .i64)) x3⟩)], 3⟩
noncomputable def f_q1h_s9 (x0 x1 x2 x3 : Int) (x4 : List (Int × Int)) (x5 x6 : List Int) : AS := ⟨[(0, .a (.sl 0)), (3, .a (.sl 1)), (5, .a (.sl 2)), (6, .a (.v (.int .i64 x0))), (7, .a (.v (.int .i64 x1))), (8, .a (.v (.int .i64 x2))), (9, .a (.v (.int .i64 x3)))], [(0, some ⟨false, .arr (.st [(.i .i8), (.i .u16)]) x4⟩), (1, some ⟨true, .arr (.one (.i .i64)) x5⟩), (2, some ⟨true, .arr (.one (.i .i64)) x6⟩)], 3⟩
noncomputable def l_q1h (r : List Int) : List A := [.lst (.one (.i .i64)) r]
theorem f_q1h_step9 (x0 x1 x2 x3 : Int) (x4 : List (Int × Int)) (x5 x6 : List Int) (r : List A) (h : (cond (decide (x3 < ((List.length x4 : Nat) : Int))) (Option.bind (s_q1i x4 x3 x1) fun r2 => (cond r2 (cond (inB x3 (List.length x6)) (f_q1h_L r 9 (f_q1h_s9 x0 x1 (s_q21 x2 (List.getD x6 (Int.toNat x3) 0)) (IntKind.wrap .i64 (x3 + 1)) x4 x5 x6)) none) (f_q1h_L r 9 (f_q1h_s9 x0 x1 x2 (IntKind.wrap .i64 (x3 + 1)) x4 x5 x6)))) (cond (inB x1 (List.length x4)) (cond (inB x1 (List.length x6)) (f_q1h_L r 4 (f_q1h_s4 (IntKind.wrap .i64 (x0 - 1)) x4 x5 (List.set x6 (Int.toNat x1) (IntKind.wrap .i64 (x2 + (IntKind.wrap .i64 (List.getD x4 (Int.toNat x1) ((0, 0) : (Int × Int))).1)))))) none) none)) = some r) : f_q1h_L r 9 (f_q1h_s9 x0 x1 x2 x3 x4 x5 x6) = some r :=
 step_of' h (by kernel_rfl)
noncomputable def f_q1h_n9 (x0 x1 x2 x3 : Int) (x4 : List (Int × Int)) (x5 x6 : List Int) : Option ((Int × Int × Int × Int × (List (Int × Int)) × (List Int) × (List Int)) ⊕ ((Int × (List (Int × Int)) × (List Int) × (List Int)) ⊕ (List Int))) := (cond (decide (x3 < ((List.length x4 : Nat) : Int))) (Option.bind (s_q1i x4 x3 x1) fun r2 => (cond r2 (cond (inB x3 (List.length x6)) (some (Sum.inl (x0, x1, (s_q21 x2 (List.getD x6 (Int.toNat x3) 0)), (IntKind.wrap .i64 (x3 + 1)), x4, x5, x6))) none) (some (Sum.inl (x0, x1, x2, (IntKind.wrap .i64 (x3 + 1)), x4, x5, x6))))) (cond (inB x1 (List.length x4)) (cond (inB x1 (List.length x6)) (some (Sum.inr (Sum.inl ((IntKind.wrap .i64 (x0 - 1)), x4, x5, (List.set x6 (Int.toNat x1) (IntKind.wrap .i64 (x2 + (IntKind.wrap .i64 (List.getD x4 (Int.toNat x1) ((0, 0) : (Int × Int))).1)))))))) none) none))
noncomputable def f_q1h_run9 (x : (Int × Int × Int × Int × (List (Int × Int)) × (List Int) × (List Int))) : Option ((Int × (List (Int × Int)) × (List Int) × (List Int)) ⊕ (List Int)) := iter (fun x => f_q1h_n9 x.1 x.2.1 x.2.2.1 x.2.2.2.1 x.2.2.2.2.1 x.2.2.2.2.2.1 x.2.2.2.2.2.2) FU x
noncomputable def f_q1h_G9 (r : List A) (x : (Int × Int × Int × Int × (List (Int × Int)) × (List Int) × (List Int))) : Prop := f_q1h_L r 9 (f_q1h_s9 x.1 x.2.1 x.2.2.1 x.2.2.2.1 x.2.2.2.2.1 x.2.2.2.2.2.1 x.2.2.2.2.2.2) = some r
theorem f_q1h_step4 (x0 : Int) (x1 : List (Int × Int)) (x2 x3 : List Int) (r : List A) (h : (cond (decide (x0 ≥ 0)) (cond (inB x0 (List.length x2)) (f_q1h_L r 9 (f_q1h_s9 x0 (List.getD x2 (Int.toNat x0) 0) 0 0 x1 x2 x3)) none) (some [.lst (.one (.i .i64)) x3])) = some r) : f_q1h_L r 4 (f_q1h_s4 x0 x1 x2 x3) = some r :=
 step_of' h (by kernel_rfl)
noncomputable def f_q1h_n4 (x0 : Int) (x1 : List (Int × Int)) (x2 x3 : List Int) : Option ((Int × (List (Int × Int)) × (List Int) × (List Int)) ⊕ (List Int)) := (cond (decide (x0 ≥ 0)) (cond (inB x0 (List.length x2)) (f_q1h_run9 (x0, (List.getD x2 (Int.toNat x0) 0), 0, 0, x1, x2, x3)) none) (some (Sum.inr x3)))
noncomputable def f_q1h_run4 (x : (Int × (List (Int × Int)) × (List Int) × (List Int))) : Option (List Int) := iter (fun x => f_q1h_n4 x.1 x.2.1 x.2.2.1 x.2.2.2) FU x
noncomputable def f_q1h_G4 (r : List A) (x : (Int × (List (Int × Int)) × (List Int) × (List Int))) : Prop := f_q1h_L r 4 (f_q1h_s4 x.1 x.2.1 x.2.2.1 x.2.2.2) = some r
noncomputable def f_q1h_S4 (r : List A) : (List Int) → Prop := fun v => r = l_q1h v
noncomputable def f_q1h_S9 (r : List A) : ((Int × (List (Int × Int)) × (List Int) × (List Int)) ⊕ (List Int)) → Prop := goesOn (f_q1h_G4 r) (f_q1h_S4 r)
theorem f_q1h_go9 (r : List A) : ∀ x, sem (f_q1h_S9 r) (f_q1h_run9 x) → f_q1h_G9 r x :=
 fun x => iter_sound (step := fun x => f_q1h_n9 x.1 x.2.1 x.2.2.1 x.2.2.2.1 x.2.2.2.2.1 x.2.2.2.2.2.1 x.2.2.2.2.2.2) (fun x h => by
  unfold f_q1h_n9 at h
  exact f_q1h_step9 x.1 x.2.1 x.2.2.1 x.2.2.2.1 x.2.2.2.2.1 x.2.2.2.2.2.1 x.2.2.2.2.2.2 r ((sem_cond h (fun h => (sem_bind h fun r2 h => (sem_cond h (fun h => (sem_cond h (fun h => sem_got h fun q => q) (fun h => sem_none h))) (fun h => sem_got h fun q => q)))) (fun h => (sem_cond h (fun h => (sem_cond h (fun h => sem_got h fun q => q) (fun h => sem_none h))) (fun h => sem_none h)))))) FU x
theorem f_q1h_go4 (r : List A) : ∀ x, sem (f_q1h_S4 r) (f_q1h_run4 x) → f_q1h_G4 r x :=
 fun x => iter_sound (step := fun x => f_q1h_n4 x.1 x.2.1 x.2.2.1 x.2.2.2) (fun x h => by
  unfold f_q1h_n4 at h
  exact f_q1h_step4 x.1 x.2.1 x.2.2.1 x.2.2.2 r ((sem_cond h (fun h => (sem_cond h (fun h => f_q1h_go9 r _ h) (fun h => sem_none h))) (fun h => sem_got h fun q => some_eq q)))) FU x
noncomputable def s_q1h (a0 : List (Int × Int)) : Option (List Int) := (Option.bind (s_q1g a0) fun r1 => (cond (decide (0 ≤ ((List.length a0 : Nat) : Int)) && decide (((List.length a0 : Nat) : Int) = ((List.length a0 : Nat) : Int)) && fits ((Int.toNat ((List.length a0 : Nat) : Int)) * 8)) (f_q1h_run4 ((IntKind.wrap .i64 (((List.length r1.1 : Nat) : Int) - 1)), a0, r1.1, (List.replicate (Int.toNat ((List.length a0 : Nat) : Int)) (0 : Int)))) none))
theorem f_q1h_top (a0 : List (Int × Int)) (r : List A) : Tq f_q1h_X f_q1h_LV f_q1h_c f_q1h_rv r [.lst (.st [(.i .i8), (.i .u16)]) a0] = (Option.bind (s_q1g a0) fun r1 => (cond (decide (0 ≤ ((List.length a0 : Nat) : Int)) && decide (((List.length a0 : Nat) : Int) = ((List.length a0 : Nat) : Int)) && fits ((Int.toNat ((List.length a0 : Nat) : Int)) * 8)) (f_q1h_L r 4 (f_q1h_s4 (IntKind.wrap .i64 (((List.length r1.1 : Nat) : Int) - 1)) a0 r1.1 (List.replicate (Int.toNat ((List.length a0 : Nat) : Int)) (0 : Int)))) none)) := by kernel_rfl
theorem s_q1h_ok (a0 : List (Int × Int)) (v : List Int) (h : s_q1h a0 = some v) : (Option.bind (s_q1g a0) fun r1 => (cond (decide (0 ≤ ((List.length a0 : Nat) : Int)) && decide (((List.length a0 : Nat) : Int) = ((List.length a0 : Nat) : Int)) && fits ((Int.toNat ((List.length a0 : Nat) : Int)) * 8)) (f_q1h_L (l_q1h v) 4 (f_q1h_s4 (IntKind.wrap .i64 (((List.length r1.1 : Nat) : Int) - 1)) a0 r1.1 (List.replicate (Int.toNat ((List.length a0 : Nat) : Int)) (0 : Int)))) none)) = some (l_q1h v) := by
 replace h : sem (fun w => l_q1h v = l_q1h w) (s_q1h a0) := ⟨v, h, rfl⟩
 unfold s_q1h at h
 exact (sem_bind h fun r1 h => (sem_cond h (fun h => f_q1h_go4 (l_q1h v) _ h) (fun h => sem_none h)))
noncomputable def c_q1h : List A → ACall
 | [.lst (.st [(.i .i8), (.i .u16)]) a0] => ⟨(List Int), s_q1h a0, fun r => .one (.lst (.one (.i .i64)) r)⟩
 | _ => ACall.fail
theorem f_q1h_sound : Sound Tryz.prog 140 c_q1h := by
 refine good f_q1h_ctx f_q1h_LV f_q1h_c f_q1h_rv 1 Tryz.func140 fun rs => ?_
 unfold c_q1h
 split
 ·rename_i a0; intro v h; exact ⟨rfl, l_q1h v, rfl, (f_q1h_top a0 _).trans (s_q1h_ok a0 v h)⟩
 ·intro v h; cases h
noncomputable def f_q1d_c := codeC Tryz.f58
noncomputable def f_q1d_X : Ctx := ⟨TT, phiOf [(101, c_q27), (130, c_q2a), (140, c_q1h)], noPsi, noXi⟩
def f_q1d_LV : List (Nat × Keep) := [(8, ([0, 1, 6, 7, 8], [], []))]
def f_q1d_rv : List ResultVar := [.tmp 4, .tmp 5]
noncomputable def f_q1d_L := Lq f_q1d_X f_q1d_LV f_q1d_c f_q1d_rv
theorem f_q1d_ctx : CtxOK Tryz.prog f_q1d_X := ctx_of tab mix ⟨⟨Tryz.call101, f_q27_sound⟩, ⟨Tryz.call130, f_q2a_sound⟩, ⟨Tryz.call140, f_q1h_sound⟩, trivial⟩
noncomputable def f_q1d_s8 (x0 x1 : Int) (x2 : List (Int × Int)) (x3 x4 : List Int) : AS := ⟨[(0, .a (.sl 0)), (1, .a (.v (.int .i64 x0))), (6, .a (.sl 1)), (7, .a (.sl 2)), (8, .a (.v (.int .i64 x1)))], [(0, some ⟨false, .arr (.st [(.i .i8), (.i .u16)]) x2⟩), (1, some ⟨true, .arr (.one (.i .i64)) x3⟩), (2, some ⟨true, .arr (.one (.i .i64)) x4⟩)], 3⟩
noncomputable def l_q1d (r : ((List Int) × Int)) : List A := [.lst (.one (.i .i64)) r.1, .v (.int .i64 r.2)]
theorem f_q1d_step8 (x0 x1 : Int) (x2 : List (Int × Int)) (x3 x4 : List Int) (r : List A) (h : (cond (decide (x1 < ((List.length x2 : Nat) : Int))) (cond (inB x1 (List.length x3)) (cond (decide (x0 < (List.getD x3 (Int.toNat x1) 0))) (some [.lst (.one (.i .i64)) [], .v (.int .i64 6)]) (cond (inB x1 (List.length x3)) (cond (fits ((List.length (x4 : List Int) + List.length ([(IntKind.wrap .i64 (x0 - (List.getD x3 (Int.toNat x1) 0)))] : List Int)) * 8)) (f_q1d_L r 8 (f_q1d_s8 x0 (IntKind.wrap .i64 (x1 + 1)) x2 x3 (x4 ++ [(IntKind.wrap .i64 (x0 - (List.getD x3 (Int.toNat x1) 0)))]))) none) none)) none) (some [.lst (.one (.i .i64)) x4, .v (.int .i64 0)])) = some r) : f_q1d_L r 8 (f_q1d_s8 x0 x1 x2 x3 x4) = some r :=
 step_of' h (by kernel_rfl)
noncomputable def f_q1d_n8 (x0 x1 : Int) (x2 : List (Int × Int)) (x3 x4 : List Int) : Option ((Int × Int × (List (Int × Int)) × (List Int) × (List Int)) ⊕ ((List Int) × Int)) := (cond (decide (x1 < ((List.length x2 : Nat) : Int))) (cond (inB x1 (List.length x3)) (cond (decide (x0 < (List.getD x3 (Int.toNat x1) 0))) (some (Sum.inr ([], 6))) (cond (inB x1 (List.length x3)) (cond (fits ((List.length (x4 : List Int) + List.length ([(IntKind.wrap .i64 (x0 - (List.getD x3 (Int.toNat x1) 0)))] : List Int)) * 8)) (some (Sum.inl (x0, (IntKind.wrap .i64 (x1 + 1)), x2, x3, (x4 ++ [(IntKind.wrap .i64 (x0 - (List.getD x3 (Int.toNat x1) 0)))])))) none) none)) none) (some (Sum.inr (x4, 0))))
noncomputable def f_q1d_run8 (x : (Int × Int × (List (Int × Int)) × (List Int) × (List Int))) : Option ((List Int) × Int) := iter (fun x => f_q1d_n8 x.1 x.2.1 x.2.2.1 x.2.2.2.1 x.2.2.2.2) FU x
noncomputable def f_q1d_G8 (r : List A) (x : (Int × Int × (List (Int × Int)) × (List Int) × (List Int))) : Prop := f_q1d_L r 8 (f_q1d_s8 x.1 x.2.1 x.2.2.1 x.2.2.2.1 x.2.2.2.2) = some r
noncomputable def f_q1d_S8 (r : List A) : ((List Int) × Int) → Prop := fun v => r = l_q1d v
theorem f_q1d_go8 (r : List A) : ∀ x, sem (f_q1d_S8 r) (f_q1d_run8 x) → f_q1d_G8 r x :=
 fun x => iter_sound (step := fun x => f_q1d_n8 x.1 x.2.1 x.2.2.1 x.2.2.2.1 x.2.2.2.2) (fun x h => by
  unfold f_q1d_n8 at h
  exact f_q1d_step8 x.1 x.2.1 x.2.2.1 x.2.2.2.1 x.2.2.2.2 r ((sem_cond h (fun h => (sem_cond h (fun h => (sem_cond h (fun h => sem_got h fun q => some_eq q) (fun h => (sem_cond h (fun h => (sem_cond h (fun h => sem_got h fun q => q) (fun h => sem_none h))) (fun h => sem_none h))))) (fun h => sem_none h))) (fun h => sem_got h fun q => some_eq q)))) FU x
noncomputable def s_q1d (a0 : List (Int × Int)) (a1 : Int) : Option ((List Int) × Int) := (Option.bind (s_q2a a0) fun r1 => (cond (!r1) (some ([], 1)) (cond (!(s_q27 a1 0 1000)) (some ([], 2)) (Option.bind (s_q1h a0) fun r2 => (f_q1d_run8 (a1, 0, a0, r2, []))))))
theorem f_q1d_top (a0 : List (Int × Int)) (a1 : Int) (r : List A) : Tq f_q1d_X f_q1d_LV f_q1d_c f_q1d_rv r [.lst (.st [(.i .i8), (.i .u16)]) a0, .v (.int .i64 a1)] = (Option.bind (s_q2a a0) fun r1 => (cond (!r1) (some [.lst (.one (.i .i64)) [], .v (.int .i64 1)]) (cond (!(s_q27 a1 0 1000)) (some [.lst (.one (.i .i64)) [], .v (.int .i64 2)]) (Option.bind (s_q1h a0) fun r2 => (f_q1d_L r 8 (f_q1d_s8 a1 0 a0 r2 [])))))) := by kernel_rfl
theorem s_q1d_ok (a0 : List (Int × Int)) (a1 : Int) (v : ((List Int) × Int)) (h : s_q1d a0 a1 = some v) : (Option.bind (s_q2a a0) fun r1 => (cond (!r1) (some [.lst (.one (.i .i64)) [], .v (.int .i64 1)]) (cond (!(s_q27 a1 0 1000)) (some [.lst (.one (.i .i64)) [], .v (.int .i64 2)]) (Option.bind (s_q1h a0) fun r2 => (f_q1d_L (l_q1d v) 8 (f_q1d_s8 a1 0 a0 r2 [])))))) = some (l_q1d v) := by
 replace h : sem (fun w => l_q1d v = l_q1d w) (s_q1d a0 a1) := ⟨v, h, rfl⟩
 unfold s_q1d at h
 exact (sem_bind h fun r1 h => (sem_cond h (fun h => sem_got h fun q => some_eq q) (fun h => (sem_cond h (fun h => sem_got h fun q => some_eq q) (fun h => (sem_bind h fun r2 h => f_q1d_go8 (l_q1d v) _ h))))))
noncomputable def c_q1d : List A → ACall
 | [.lst (.st [(.i .i8), (.i .u16)]) a0, .v (.int .i64 a1)] => ⟨((List Int) × Int), s_q1d a0 a1, fun r => .tup [.lst (.one (.i .i64)) r.1, .v (.int .i64 r.2)]⟩
 | _ => ACall.fail
theorem f_q1d_sound : Sound Tryz.prog 58 c_q1d := by
 refine good f_q1d_ctx f_q1d_LV f_q1d_c f_q1d_rv 2 Tryz.func58 fun rs => ?_
 unfold c_q1d
 split
 ·rename_i a0 a1; intro v h; exact ⟨rfl, l_q1d v, rfl, (f_q1d_top a0 a1 _).trans (s_q1d_ok a0 a1 v h)⟩
 ·intro v h; cases h
noncomputable def f_q0d_c := codeC Tryz.f139
noncomputable def f_q0d_X : Ctx := ⟨TT, phiOf [(128, c_q0z)], noPsi, noXi⟩
def f_q0d_LV : List (Nat × Keep) := []
def f_q0d_rv : List ResultVar := [.tmp 6]
theorem f_q0d_ctx : CtxOK Tryz.prog f_q0d_X := ctx_of tab mix ⟨⟨Tryz.call128, f_q0z_sound⟩, trivial⟩
abbrev A_q0d := Bool
noncomputable def l_q0d (r : Bool) : List A := [.v (.bool r)]
section
variable {R R' : Type} {S : R → Prop} {r : R'} (E : A_q0d → Option R) (E' : A_q0d → Option R')
noncomputable def t_q0d (a0 : Int) (a1 : List Int) (a2 a3 : Int) (a4 : List (Int × Int)) : Option R := (cond (inB a0 (List.length a1)) (cond ((List.getD a1 (Int.toNat a0) 0) == a2) (cond (decide (a3 < 0)) (E true) (cond (inB a0 (List.length a4)) (Option.bind (s_q0z (List.getD a4 (Int.toNat a0) ((0, 0) : (Int × Int))).1 (List.getD a4 (Int.toNat a0) ((0, 0) : (Int × Int))).2 a3) fun r1 => (E r1)) none)) (E false)) none)
theorem t_q0d_sem (a0 : Int) (a1 : List Int) (a2 a3 : Int) (a4 : List (Int × Int)) (h : sem S (t_q0d E a0 a1 a2 a3 a4)) (hE : Leads S r E E') : t_q0d E' a0 a1 a2 a3 a4 = some r := by
 revert h
 unfold t_q0d
 repeat' first | refine sem_condK ?_ ?_ | refine sem_bindK fun _ => ?_ | exact sem_noneK | exact hE _ | refine sem_bind2K (fun _ => ?_) (fun _ => ?_)
end
noncomputable def s_q0d (a0 : Int) (a1 : List Int) (a2 a3 : Int) (a4 : List (Int × Int)) : Option Bool := t_q0d some a0 a1 a2 a3 a4
theorem f_q0d_top (a0 : Int) (a1 : List Int) (a2 a3 : Int) (a4 : List (Int × Int)) (r : List A) : Tq f_q0d_X f_q0d_LV f_q0d_c f_q0d_rv r [.v (.int .i64 a0), .ref (.lst (.one (.i .i64)) a1), .ref (.v (.int .i64 a2)), .ref (.v (.int .i64 a3)), .ref (.lst (.st [(.i .i8), (.i .u16)]) a4)] = t_q0d (fun v => some (l_q0d v)) a0 a1 a2 a3 a4 := by kernel_rfl
theorem s_q0d_ok (a0 : Int) (a1 : List Int) (a2 a3 : Int) (a4 : List (Int × Int)) (v : Bool) (h : s_q0d a0 a1 a2 a3 a4 = some v) : t_q0d (fun v => some (l_q0d v)) a0 a1 a2 a3 a4 = some (l_q0d v) :=
 t_q0d_sem _ _ a0 a1 a2 a3 a4 (show sem (fun w => l_q0d v = l_q0d w) (s_q0d a0 a1 a2 a3 a4) from ⟨v, h, rfl⟩) (fun _ h => sem_got h fun q => some_eq q)
noncomputable def c_q0d : List A → ACall
 | [.v (.int .i64 a0), .ref (.lst (.one (.i .i64)) a1), .ref (.v (.int .i64 a2)), .ref (.v (.int .i64 a3)), .ref (.lst (.st [(.i .i8), (.i .u16)]) a4)] => ⟨Bool, s_q0d a0 a1 a2 a3 a4, fun r => .one (.v (.bool r))⟩
 | _ => ACall.fail
theorem f_q0d_sound : Sound Tryz.prog 139 c_q0d := by
 refine good f_q0d_ctx f_q0d_LV f_q0d_c f_q0d_rv 5 Tryz.func139 fun rs => ?_
 unfold c_q0d
 split
 ·rename_i a0 a1 a2 a3 a4; intro v h; exact ⟨rfl, l_q0d v, rfl, (f_q0d_top a0 a1 a2 a3 a4 _).trans (s_q0d_ok a0 a1 a2 a3 a4 v h)⟩
 ·intro v h; cases h
noncomputable def f_q09_c := codeC Tryz.f137
noncomputable def f_q09_X : Ctx := ⟨TT, phiOf [(139, c_q0d)], noPsi, noXi⟩
def f_q09_LV : List (Nat × Keep) := [(2, ([0, 1, 7, 8], [], []))]
def f_q09_rv : List ResultVar := [.tmp 4]
noncomputable def f_q09_L := Lq f_q09_X f_q09_LV f_q09_c f_q09_rv
theorem f_q09_ctx : CtxOK Tryz.prog f_q09_X := ctx_of tab mix ⟨⟨Tryz.call139, f_q0d_sound⟩, trivial⟩
noncomputable def f_q09_s2 (x0 x1 : Int) (x2 x3 : List Int) (x4 x5 : Int) (x6 : List (Int × Int)) : AS := ⟨[(0, .a (.sl 0)), (1, .a (.clo 139 [.ptr 1 [] (0), .ptr 3 [] (0), .ptr 4 [] (0), .ptr 5 [] (0)])), (7, .a (.v (.int .i64 x0))), (8, .a (.v (.int .i64 x1)))], [(0, some ⟨false, .arr (.one (.i .i64)) x2⟩), (1, some ⟨false, .box (.sl 2)⟩), (2, some ⟨false, .arr (.one (.i .i64)) x3⟩), (3, some ⟨false, .box (.v (.int .i64 x4))⟩), (4, some ⟨false, .box (.v (.int .i64 x5))⟩), (5, some ⟨false, .box (.sl 6)⟩), (6, some ⟨false, .arr (.st [(.i .i8), (.i .u16)]) x6⟩)], 7⟩
noncomputable def l_q09 (r : Int) : List A := [.v (.int .i64 r)]
theorem f_q09_step2 (x0 x1 : Int) (x2 x3 : List Int) (x4 x5 : Int) (x6 : List (Int × Int)) (r : List A) (h : (cond (decide (x1 < x0)) (cond (inB x1 (List.length x2)) (Option.bind (s_q0d (List.getD x2 (Int.toNat x1) 0) x3 x4 x5 x6) fun r1 => (cond r1 (some [.v (.int .i64 x1)]) (f_q09_L r 2 (f_q09_s2 x0 (IntKind.wrap .i64 (x1 + 1)) x2 x3 x4 x5 x6)))) none) (some [.v (.int .i64 (-1))])) = some r) : f_q09_L r 2 (f_q09_s2 x0 x1 x2 x3 x4 x5 x6) = some r :=
 step_of' h (by kernel_rfl)
noncomputable def f_q09_n2 (x0 x1 : Int) (x2 x3 : List Int) (x4 x5 : Int) (x6 : List (Int × Int)) : Option ((Int × Int × (List Int) × (List Int) × Int × Int × (List (Int × Int))) ⊕ Int) := (cond (decide (x1 < x0)) (cond (inB x1 (List.length x2)) (Option.bind (s_q0d (List.getD x2 (Int.toNat x1) 0) x3 x4 x5 x6) fun r1 => (cond r1 (some (Sum.inr x1)) (some (Sum.inl (x0, (IntKind.wrap .i64 (x1 + 1)), x2, x3, x4, x5, x6))))) none) (some (Sum.inr (-1))))
noncomputable def f_q09_run2 (x : (Int × Int × (List Int) × (List Int) × Int × Int × (List (Int × Int)))) : Option Int := iter (fun x => f_q09_n2 x.1 x.2.1 x.2.2.1 x.2.2.2.1 x.2.2.2.2.1 x.2.2.2.2.2.1 x.2.2.2.2.2.2) FU x
noncomputable def f_q09_G2 (r : List A) (x : (Int × Int × (List Int) × (List Int) × Int × Int × (List (Int × Int)))) : Prop := f_q09_L r 2 (f_q09_s2 x.1 x.2.1 x.2.2.1 x.2.2.2.1 x.2.2.2.2.1 x.2.2.2.2.2.1 x.2.2.2.2.2.2) = some r
noncomputable def f_q09_S2 (r : List A) : Int → Prop := fun v => r = l_q09 v
theorem f_q09_go2 (r : List A) : ∀ x, sem (f_q09_S2 r) (f_q09_run2 x) → f_q09_G2 r x :=
 fun x => iter_sound (step := fun x => f_q09_n2 x.1 x.2.1 x.2.2.1 x.2.2.2.1 x.2.2.2.2.1 x.2.2.2.2.2.1 x.2.2.2.2.2.2) (fun x h => by
  unfold f_q09_n2 at h
  exact f_q09_step2 x.1 x.2.1 x.2.2.1 x.2.2.2.1 x.2.2.2.2.1 x.2.2.2.2.2.1 x.2.2.2.2.2.2 r ((sem_cond h (fun h => (sem_cond h (fun h => (sem_bind h fun r1 h => (sem_cond h (fun h => sem_got h fun q => some_eq q) (fun h => sem_got h fun q => q)))) (fun h => sem_none h))) (fun h => sem_got h fun q => some_eq q)))) FU x
noncomputable def s_q09 (a0 a1 : List Int) (a2 a3 : Int) (a4 : List (Int × Int)) : Option Int := (f_q09_run2 (((List.length a0 : Nat) : Int), 0, a0, a1, a2, a3, a4))
theorem f_q09_top (a0 a1 : List Int) (a2 a3 : Int) (a4 : List (Int × Int)) (r : List A) : Tq f_q09_X f_q09_LV f_q09_c f_q09_rv r [.lst (.one (.i .i64)) a0, .clo 139 [.ref (.lst (.one (.i .i64)) a1), .ref (.v (.int .i64 a2)), .ref (.v (.int .i64 a3)), .ref (.lst (.st [(.i .i8), (.i .u16)]) a4)]] = (f_q09_L r 2 (f_q09_s2 ((List.length a0 : Nat) : Int) 0 a0 a1 a2 a3 a4)) := by kernel_rfl
theorem s_q09_ok (a0 a1 : List Int) (a2 a3 : Int) (a4 : List (Int × Int)) (v : Int) (h : s_q09 a0 a1 a2 a3 a4 = some v) : (f_q09_L (l_q09 v) 2 (f_q09_s2 ((List.length a0 : Nat) : Int) 0 a0 a1 a2 a3 a4)) = some (l_q09 v) := by
 replace h : sem (fun w => l_q09 v = l_q09 w) (s_q09 a0 a1 a2 a3 a4) := ⟨v, h, rfl⟩
 unfold s_q09 at h
 exact f_q09_go2 (l_q09 v) _ h
noncomputable def c_q09 : List A → ACall
 | [.lst (.one (.i .i64)) a0, .clo 139 [.ref (.lst (.one (.i .i64)) a1), .ref (.v (.int .i64 a2)), .ref (.v (.int .i64 a3)), .ref (.lst (.st [(.i .i8), (.i .u16)]) a4)]] => ⟨Int, s_q09 a0 a1 a2 a3 a4, fun r => .one (.v (.int .i64 r))⟩
 | _ => ACall.fail
theorem f_q09_sound : Sound Tryz.prog 137 c_q09 := by
 refine good f_q09_ctx f_q09_LV f_q09_c f_q09_rv 2 Tryz.func137 fun rs => ?_
 unfold c_q09
 split
 ·rename_i a0 a1 a2 a3 a4; intro v h; exact ⟨rfl, l_q09 v, rfl, (f_q09_top a0 a1 a2 a3 a4 _).trans (s_q09_ok a0 a1 a2 a3 a4 v h)⟩
 ·intro v h; cases h
noncomputable def f_q0h_c := codeC Tryz.f55
noncomputable def f_q0h_X : Ctx := ⟨TT, phiOf [(137, c_q09), (135, c_q26), (136, c_q1o), (138, c_q1n), (60, c_q12)], noPsi, noXi⟩
def f_q0h_LV : List (Nat × Keep) := [(5, ([1, 5, 6, 7, 8, 9], [], []))]
def f_q0h_rv : List ResultVar := [.tmp 2, .tmp 3, .tmp 4]
noncomputable def f_q0h_L := Lq f_q0h_X f_q0h_LV f_q0h_c f_q0h_rv
theorem f_q0h_ctx : CtxOK Tryz.prog f_q0h_X := ctx_of tab mix ⟨⟨Tryz.call137, f_q09_sound⟩, ⟨Tryz.call135, f_q26_sound⟩, ⟨Tryz.call136, f_q1o_sound⟩, ⟨Tryz.call138, f_q1n_sound⟩, ⟨Tryz.call60, f_q12_sound⟩, trivial⟩
noncomputable def f_q0h_s5 (x0 : Int) (x1 : List (Int × Int)) (x2 x3 : List Int) (x4 x5 : Int) : AS := ⟨[(1, .a (.ptr 0 [] (0))), (5, .a (.ptr 2 [] (0))), (6, .a (.v (.int .i64 x0))), (7, .a (.sl 4)), (8, .a (.ptr 5 [] (0))), (9, .a (.ptr 6 [] (0)))], [(0, some ⟨true, .box (.sl 1)⟩), (1, some ⟨false, .arr (.st [(.i .i8), (.i .u16)]) x1⟩), (2, some ⟨true, .box (.sl 3)⟩), (3, some ⟨true, .arr (.one (.i .i64)) x2⟩), (4, some ⟨true, .arr (.one (.i .i64)) x3⟩), (5, some ⟨true, .box (.v (.int .i64 x4))⟩), (6, some ⟨true, .box (.v (.int .i64 x5))⟩)], 7⟩
noncomputable def l_q0h (r : ((List Int) × Int × Int)) : List A := [.lst (.one (.i .i64)) r.1, .v (.int .i64 r.2.1), .v (.int .i64 r.2.2)]
theorem f_q0h_step5 (x0 : Int) (x1 : List (Int × Int)) (x2 x3 : List Int) (x4 x5 : Int) (r : List A) (h : (cond (decide (x4 > 0)) (Option.bind (s_q1n x1) fun r4 => (Option.bind (s_q09 r4 x2 x4 x5 x1) fun r5 => (cond (fits ((List.length (x3 : List Int) + List.length ([r5] : List Int)) * 8)) (cond (inB r5 (List.length x1)) (f_q0h_L r 5 (f_q0h_s5 x0 x1 x2 (x3 ++ [r5]) (IntKind.wrap .i64 (x4 - (IntKind.wrap .i64 (List.getD x1 (Int.toNat r5) ((0, 0) : (Int × Int))).1))) r5)) none) none))) (some [.lst (.one (.i .i64)) x3, .v (.int .i64 x0), .v (.int .i64 0)])) = some r) : f_q0h_L r 5 (f_q0h_s5 x0 x1 x2 x3 x4 x5) = some r :=
 step_of' h (by kernel_rfl)
noncomputable def f_q0h_n5 (x0 : Int) (x1 : List (Int × Int)) (x2 x3 : List Int) (x4 x5 : Int) : Option ((Int × (List (Int × Int)) × (List Int) × (List Int) × Int × Int) ⊕ ((List Int) × Int × Int)) := (cond (decide (x4 > 0)) (Option.bind (s_q1n x1) fun r4 => (Option.bind (s_q09 r4 x2 x4 x5 x1) fun r5 => (cond (fits ((List.length (x3 : List Int) + List.length ([r5] : List Int)) * 8)) (cond (inB r5 (List.length x1)) (some (Sum.inl (x0, x1, x2, (x3 ++ [r5]), (IntKind.wrap .i64 (x4 - (IntKind.wrap .i64 (List.getD x1 (Int.toNat r5) ((0, 0) : (Int × Int))).1))), r5))) none) none))) (some (Sum.inr (x3, x0, 0))))
noncomputable def f_q0h_run5 (x : (Int × (List (Int × Int)) × (List Int) × (List Int) × Int × Int)) : Option ((List Int) × Int × Int) := iter (fun x => f_q0h_n5 x.1 x.2.1 x.2.2.1 x.2.2.2.1 x.2.2.2.2.1 x.2.2.2.2.2) FU x
noncomputable def f_q0h_G5 (r : List A) (x : (Int × (List (Int × Int)) × (List Int) × (List Int) × Int × Int)) : Prop := f_q0h_L r 5 (f_q0h_s5 x.1 x.2.1 x.2.2.1 x.2.2.2.1 x.2.2.2.2.1 x.2.2.2.2.2) = some r
noncomputable def f_q0h_S5 (r : List A) : ((List Int) × Int × Int) → Prop := fun v => r = l_q0h v
theorem f_q0h_go5 (r : List A) : ∀ x, sem (f_q0h_S5 r) (f_q0h_run5 x) → f_q0h_G5 r x :=
 fun x => iter_sound (step := fun x => f_q0h_n5 x.1 x.2.1 x.2.2.1 x.2.2.2.1 x.2.2.2.2.1 x.2.2.2.2.2) (fun x h => by
  unfold f_q0h_n5 at h
  exact f_q0h_step5 x.1 x.2.1 x.2.2.1 x.2.2.2.1 x.2.2.2.2.1 x.2.2.2.2.2 r ((sem_cond h (fun h => (sem_bind h fun r4 h => (sem_bind h fun r5 h => (sem_cond h (fun h => (sem_cond h (fun h => sem_got h fun q => q) (fun h => sem_none h))) (fun h => sem_none h))))) (fun h => sem_got h fun q => some_eq q)))) FU x
noncomputable def s_q0h (a0 : List (Int × Int)) : Option ((List Int) × Int × Int) := (Option.bind (s_q12 a0) fun r1 => (cond (!r1) (some ([], 0, 1)) (Option.bind (s_q26 a0) fun r2 => (Option.bind (s_q1o a0) fun r3 => (f_q0h_run5 (r3, a0, r2, [], r3, (-1)))))))
theorem f_q0h_top (a0 : List (Int × Int)) (r : List A) : Tq f_q0h_X f_q0h_LV f_q0h_c f_q0h_rv r [.lst (.st [(.i .i8), (.i .u16)]) a0] = (Option.bind (s_q12 a0) fun r1 => (cond (!r1) (some [.lst (.one (.i .i64)) [], .v (.int .i64 0), .v (.int .i64 1)]) (Option.bind (s_q26 a0) fun r2 => (Option.bind (s_q1o a0) fun r3 => (f_q0h_L r 5 (f_q0h_s5 r3 a0 r2 [] r3 (-1))))))) := by kernel_rfl
theorem s_q0h_ok (a0 : List (Int × Int)) (v : ((List Int) × Int × Int)) (h : s_q0h a0 = some v) : (Option.bind (s_q12 a0) fun r1 => (cond (!r1) (some [.lst (.one (.i .i64)) [], .v (.int .i64 0), .v (.int .i64 1)]) (Option.bind (s_q26 a0) fun r2 => (Option.bind (s_q1o a0) fun r3 => (f_q0h_L (l_q0h v) 5 (f_q0h_s5 r3 a0 r2 [] r3 (-1))))))) = some (l_q0h v) := by
 replace h : sem (fun w => l_q0h v = l_q0h w) (s_q0h a0) := ⟨v, h, rfl⟩
 unfold s_q0h at h
 exact (sem_bind h fun r1 h => (sem_cond h (fun h => sem_got h fun q => some_eq q) (fun h => (sem_bind h fun r2 h => (sem_bind h fun r3 h => f_q0h_go5 (l_q0h v) _ h)))))
noncomputable def c_q0h : List A → ACall
 | [.lst (.st [(.i .i8), (.i .u16)]) a0] => ⟨((List Int) × Int × Int), s_q0h a0, fun r => .tup [.lst (.one (.i .i64)) r.1, .v (.int .i64 r.2.1), .v (.int .i64 r.2.2)]⟩
 | _ => ACall.fail
theorem f_q0h_sound : Sound Tryz.prog 55 c_q0h := by
 refine good f_q0h_ctx f_q0h_LV f_q0h_c f_q0h_rv 1 Tryz.func55 fun rs => ?_
 unfold c_q0h
 split
 ·rename_i a0; intro v h; exact ⟨rfl, l_q0h v, rfl, (f_q0h_top a0 _).trans (s_q0h_ok a0 v h)⟩
 ·intro v h; cases h
noncomputable def f_q0u_c := codeC Tryz.f141
noncomputable def f_q0u_X : Ctx := ⟨TT, phiOf [(140, c_q1h), (99, c_q21)], noPsi, noXi⟩
def f_q0u_LV : List (Nat × Keep) := [(4, ([3, 4, 5], [], []))]
def f_q0u_rv : List ResultVar := [.tmp 2]
noncomputable def f_q0u_L := Lq f_q0u_X f_q0u_LV f_q0u_c f_q0u_rv
theorem f_q0u_ctx : CtxOK Tryz.prog f_q0u_X := ctx_of tab mix ⟨⟨Tryz.call140, f_q1h_sound⟩, ⟨Tryz.call99, f_q21_sound⟩, trivial⟩
noncomputable def f_q0u_s4 (x0 x1 : Int) (x2 : List Int) : AS := ⟨[(3, .a (.sl 0)), (4, .a (.v (.int .i64 x0))), (5, .a (.v (.int .i64 x1)))], [(0, some ⟨true, .arr (.one (.i .i64)) x2⟩)], 1⟩
noncomputable def l_q0u (r : Int) : List A := [.v (.int .i64 r)]
theorem f_q0u_step4 (x0 x1 : Int) (x2 : List Int) (r : List A) (h : (cond (decide (x1 < ((List.length x2 : Nat) : Int))) (cond (inB x1 (List.length x2)) (f_q0u_L r 4 (f_q0u_s4 (s_q21 x0 (List.getD x2 (Int.toNat x1) 0)) (IntKind.wrap .i64 (x1 + 1)) x2)) none) (some [.v (.int .i64 x0)])) = some r) : f_q0u_L r 4 (f_q0u_s4 x0 x1 x2) = some r :=
 step_of' h (by kernel_rfl)
noncomputable def f_q0u_n4 (x0 x1 : Int) (x2 : List Int) : Option ((Int × Int × (List Int)) ⊕ Int) := (cond (decide (x1 < ((List.length x2 : Nat) : Int))) (cond (inB x1 (List.length x2)) (some (Sum.inl ((s_q21 x0 (List.getD x2 (Int.toNat x1) 0)), (IntKind.wrap .i64 (x1 + 1)), x2))) none) (some (Sum.inr x0)))
noncomputable def f_q0u_run4 (x : (Int × Int × (List Int))) : Option Int := iter (fun x => f_q0u_n4 x.1 x.2.1 x.2.2) FU x
noncomputable def f_q0u_G4 (r : List A) (x : (Int × Int × (List Int))) : Prop := f_q0u_L r 4 (f_q0u_s4 x.1 x.2.1 x.2.2) = some r
noncomputable def f_q0u_S4 (r : List A) : Int → Prop := fun v => r = l_q0u v
theorem f_q0u_go4 (r : List A) : ∀ x, sem (f_q0u_S4 r) (f_q0u_run4 x) → f_q0u_G4 r x :=
 fun x => iter_sound (step := fun x => f_q0u_n4 x.1 x.2.1 x.2.2) (fun x h => by
  unfold f_q0u_n4 at h
  exact f_q0u_step4 x.1 x.2.1 x.2.2 r ((sem_cond h (fun h => (sem_cond h (fun h => sem_got h fun q => q) (fun h => sem_none h))) (fun h => sem_got h fun q => some_eq q)))) FU x
noncomputable def s_q0u (a0 : List (Int × Int)) : Option Int := (Option.bind (s_q1h a0) fun r1 => (f_q0u_run4 (0, 0, r1)))
theorem f_q0u_top (a0 : List (Int × Int)) (r : List A) : Tq f_q0u_X f_q0u_LV f_q0u_c f_q0u_rv r [.lst (.st [(.i .i8), (.i .u16)]) a0] = (Option.bind (s_q1h a0) fun r1 => (f_q0u_L r 4 (f_q0u_s4 0 0 r1))) := by kernel_rfl
theorem s_q0u_ok (a0 : List (Int × Int)) (v : Int) (h : s_q0u a0 = some v) : (Option.bind (s_q1h a0) fun r1 => (f_q0u_L (l_q0u v) 4 (f_q0u_s4 0 0 r1))) = some (l_q0u v) := by
 replace h : sem (fun w => l_q0u v = l_q0u w) (s_q0u a0) := ⟨v, h, rfl⟩
 unfold s_q0u at h
 exact (sem_bind h fun r1 h => f_q0u_go4 (l_q0u v) _ h)
noncomputable def c_q0u : List A → ACall
 | [.lst (.st [(.i .i8), (.i .u16)]) a0] => ⟨Int, s_q0u a0, fun r => .one (.v (.int .i64 r))⟩
 | _ => ACall.fail
theorem f_q0u_sound : Sound Tryz.prog 141 c_q0u := by
 refine good f_q0u_ctx f_q0u_LV f_q0u_c f_q0u_rv 1 Tryz.func141 fun rs => ?_
 unfold c_q0u
 split
 ·rename_i a0; intro v h; exact ⟨rfl, l_q0u v, rfl, (f_q0u_top a0 _).trans (s_q0u_ok a0 v h)⟩
 ·intro v h; cases h
noncomputable def f_q0j_c := codeC Tryz.f56
noncomputable def f_q0j_X : Ctx := ⟨TT, phiOf [(130, c_q2a), (132, c_q1i), (140, c_q1h), (141, c_q0u)], noPsi, noXi⟩
def f_q0j_LV : List (Nat × Keep) := [(8, ([0, 5, 6, 7, 8, 9], [], [])), (10, ([0, 5, 6, 7, 8, 9, 10], [], []))]
def f_q0j_rv : List ResultVar := [.tmp 2, .tmp 3, .tmp 4]
noncomputable def f_q0j_L := Lq f_q0j_X f_q0j_LV f_q0j_c f_q0j_rv
theorem f_q0j_ctx : CtxOK Tryz.prog f_q0j_X := ctx_of tab mix ⟨⟨Tryz.call130, f_q2a_sound⟩, ⟨Tryz.call132, f_q1i_sound⟩, ⟨Tryz.call140, f_q1h_sound⟩, ⟨Tryz.call141, f_q0u_sound⟩, trivial⟩
noncomputable def f_q0j_s8 (x0 x1 x2 : Int) (x3 : List (Int × Int)) (x4 x5 : List Int) : AS := ⟨[(0, .a (.sl 0)), (5, .a (.sl 1)), (6, .a (.v (.int .i64 x0))), (7, .a (.sl 2)), (8, .a (.v (.int .i64 x1))), (9, .a (.v (.int .i64 x2)))], [(0, some ⟨false, .arr (.st [(.i .i8), (.i .u16)]) x3⟩), (1, some ⟨true, .arr (.one (.i .i64)) x4⟩), (2, some ⟨true, .arr (.one (.i .i64)) x5⟩)], 3⟩
noncomputable def f_q0j_s10 (x0 x1 x2 x3 : Int) (x4 : List (Int × Int)) (x5 x6 : List Int) : AS := ⟨[(0, .a (.sl 0)), (5, .a (.sl 1)), (6, .a (.v (.int .i64 x0))), (7, .a (.sl 2)), (8, .a (.v (.int .i64 x1))), (9, .a (.v (.int .i64 x2))), (10, .a (.v (.int .i64 x3)))], [(0, some ⟨false, .arr (.st [(.i .i8), (.i .u16)]) x4⟩), (1, some ⟨true, .arr (.one (.i .i64)) x5⟩), (2, some ⟨true, .arr (.one (.i .i64)) x6⟩)], 3⟩
noncomputable def l_q0j (r : ((List Int) × Int × Int)) : List A := [.lst (.one (.i .i64)) r.1, .v (.int .i64 r.2.1), .v (.int .i64 r.2.2)]
theorem f_q0j_step10 (x0 x1 x2 x3 : Int) (x4 : List (Int × Int)) (x5 x6 : List Int) (r : List A) (h : (cond (decide (x3 < ((List.length x4 : Nat) : Int))) (cond (inB x3 (List.length x5)) (cond ((List.getD x5 (Int.toNat x3) 0) == x2) (cond (decide (x1 < 0)) (cond (fits ((List.length (x6 : List Int) + List.length ([x3] : List Int)) * 8)) (cond (inB x3 (List.length x4)) (f_q0j_L r 8 (f_q0j_s8 x0 x3 (IntKind.wrap .i64 (x2 - (IntKind.wrap .i64 (List.getD x4 (Int.toNat x3) ((0, 0) : (Int × Int))).1))) x4 x5 (x6 ++ [x3]))) none) none) (Option.bind (s_q1i x4 x3 x1) fun r4 => (cond r4 (cond (fits ((List.length (x6 : List Int) + List.length ([x3] : List Int)) * 8)) (cond (inB x3 (List.length x4)) (f_q0j_L r 8 (f_q0j_s8 x0 x3 (IntKind.wrap .i64 (x2 - (IntKind.wrap .i64 (List.getD x4 (Int.toNat x3) ((0, 0) : (Int × Int))).1))) x4 x5 (x6 ++ [x3]))) none) none) (f_q0j_L r 10 (f_q0j_s10 x0 x1 x2 (IntKind.wrap .i64 (x3 + 1)) x4 x5 x6))))) (f_q0j_L r 10 (f_q0j_s10 x0 x1 x2 (IntKind.wrap .i64 (x3 + 1)) x4 x5 x6))) none) (f_q0j_L r 8 (f_q0j_s8 x0 x1 x2 x4 x5 x6))) = some r) : f_q0j_L r 10 (f_q0j_s10 x0 x1 x2 x3 x4 x5 x6) = some r :=
 step_of' h (by kernel_rfl)
noncomputable def f_q0j_n10 (x0 x1 x2 x3 : Int) (x4 : List (Int × Int)) (x5 x6 : List Int) : Option ((Int × Int × Int × Int × (List (Int × Int)) × (List Int) × (List Int)) ⊕ ((Int × Int × Int × (List (Int × Int)) × (List Int) × (List Int)) ⊕ ((List Int) × Int × Int))) := (cond (decide (x3 < ((List.length x4 : Nat) : Int))) (cond (inB x3 (List.length x5)) (cond ((List.getD x5 (Int.toNat x3) 0) == x2) (cond (decide (x1 < 0)) (cond (fits ((List.length (x6 : List Int) + List.length ([x3] : List Int)) * 8)) (cond (inB x3 (List.length x4)) (some (Sum.inr (Sum.inl (x0, x3, (IntKind.wrap .i64 (x2 - (IntKind.wrap .i64 (List.getD x4 (Int.toNat x3) ((0, 0) : (Int × Int))).1))), x4, x5, (x6 ++ [x3]))))) none) none) (Option.bind (s_q1i x4 x3 x1) fun r4 => (cond r4 (cond (fits ((List.length (x6 : List Int) + List.length ([x3] : List Int)) * 8)) (cond (inB x3 (List.length x4)) (some (Sum.inr (Sum.inl (x0, x3, (IntKind.wrap .i64 (x2 - (IntKind.wrap .i64 (List.getD x4 (Int.toNat x3) ((0, 0) : (Int × Int))).1))), x4, x5, (x6 ++ [x3]))))) none) none) (some (Sum.inl (x0, x1, x2, (IntKind.wrap .i64 (x3 + 1)), x4, x5, x6)))))) (some (Sum.inl (x0, x1, x2, (IntKind.wrap .i64 (x3 + 1)), x4, x5, x6)))) none) (some (Sum.inr (Sum.inl (x0, x1, x2, x4, x5, x6)))))
noncomputable def f_q0j_run10 (x : (Int × Int × Int × Int × (List (Int × Int)) × (List Int) × (List Int))) : Option ((Int × Int × Int × (List (Int × Int)) × (List Int) × (List Int)) ⊕ ((List Int) × Int × Int)) := iter (fun x => f_q0j_n10 x.1 x.2.1 x.2.2.1 x.2.2.2.1 x.2.2.2.2.1 x.2.2.2.2.2.1 x.2.2.2.2.2.2) FU x
noncomputable def f_q0j_G10 (r : List A) (x : (Int × Int × Int × Int × (List (Int × Int)) × (List Int) × (List Int))) : Prop := f_q0j_L r 10 (f_q0j_s10 x.1 x.2.1 x.2.2.1 x.2.2.2.1 x.2.2.2.2.1 x.2.2.2.2.2.1 x.2.2.2.2.2.2) = some r
theorem f_q0j_step8 (x0 x1 x2 : Int) (x3 : List (Int × Int)) (x4 x5 : List Int) (r : List A) (h : (cond (decide (x2 > 0)) (f_q0j_L r 10 (f_q0j_s10 x0 x1 x2 0 x3 x4 x5)) (some [.lst (.one (.i .i64)) x5, .v (.int .i64 x0), .v (.int .i64 0)])) = some r) : f_q0j_L r 8 (f_q0j_s8 x0 x1 x2 x3 x4 x5) = some r :=
 step_of' h (by kernel_rfl)
noncomputable def f_q0j_n8 (x0 x1 x2 : Int) (x3 : List (Int × Int)) (x4 x5 : List Int) : Option ((Int × Int × Int × (List (Int × Int)) × (List Int) × (List Int)) ⊕ ((List Int) × Int × Int)) := (cond (decide (x2 > 0)) (f_q0j_run10 (x0, x1, x2, 0, x3, x4, x5)) (some (Sum.inr (x5, x0, 0))))
noncomputable def f_q0j_run8 (x : (Int × Int × Int × (List (Int × Int)) × (List Int) × (List Int))) : Option ((List Int) × Int × Int) := iter (fun x => f_q0j_n8 x.1 x.2.1 x.2.2.1 x.2.2.2.1 x.2.2.2.2.1 x.2.2.2.2.2) FU x
noncomputable def f_q0j_G8 (r : List A) (x : (Int × Int × Int × (List (Int × Int)) × (List Int) × (List Int))) : Prop := f_q0j_L r 8 (f_q0j_s8 x.1 x.2.1 x.2.2.1 x.2.2.2.1 x.2.2.2.2.1 x.2.2.2.2.2) = some r
noncomputable def f_q0j_S8 (r : List A) : ((List Int) × Int × Int) → Prop := fun v => r = l_q0j v
noncomputable def f_q0j_S10 (r : List A) : ((Int × Int × Int × (List (Int × Int)) × (List Int) × (List Int)) ⊕ ((List Int) × Int × Int)) → Prop := goesOn (f_q0j_G8 r) (f_q0j_S8 r)
theorem f_q0j_go10 (r : List A) : ∀ x, sem (f_q0j_S10 r) (f_q0j_run10 x) → f_q0j_G10 r x :=
 fun x => iter_sound (step := fun x => f_q0j_n10 x.1 x.2.1 x.2.2.1 x.2.2.2.1 x.2.2.2.2.1 x.2.2.2.2.2.1 x.2.2.2.2.2.2) (fun x h => by
  unfold f_q0j_n10 at h
  exact f_q0j_step10 x.1 x.2.1 x.2.2.1 x.2.2.2.1 x.2.2.2.2.1 x.2.2.2.2.2.1 x.2.2.2.2.2.2 r ((sem_cond h (fun h => (sem_cond h (fun h => (sem_cond h (fun h => (sem_cond h (fun h => (sem_cond h (fun h => (sem_cond h (fun h => sem_got h fun q => q) (fun h => sem_none h))) (fun h => sem_none h))) (fun h => (sem_bind h fun r4 h => (sem_cond h (fun h => (sem_cond h (fun h => (sem_cond h (fun h => sem_got h fun q => q) (fun h => sem_none h))) (fun h => sem_none h))) (fun h => sem_got h fun q => q)))))) (fun h => sem_got h fun q => q))) (fun h => sem_none h))) (fun h => sem_got h fun q => q)))) FU x
theorem f_q0j_go8 (r : List A) : ∀ x, sem (f_q0j_S8 r) (f_q0j_run8 x) → f_q0j_G8 r x :=
 fun x => iter_sound (step := fun x => f_q0j_n8 x.1 x.2.1 x.2.2.1 x.2.2.2.1 x.2.2.2.2.1 x.2.2.2.2.2) (fun x h => by
  unfold f_q0j_n8 at h
  exact f_q0j_step8 x.1 x.2.1 x.2.2.1 x.2.2.2.1 x.2.2.2.2.1 x.2.2.2.2.2 r ((sem_cond h (fun h => f_q0j_go10 r _ h) (fun h => sem_got h fun q => some_eq q)))) FU x
noncomputable def s_q0j (a0 : List (Int × Int)) : Option ((List Int) × Int × Int) := (Option.bind (s_q2a a0) fun r1 => (cond (!r1) (some ([], 0, 1)) (Option.bind (s_q1h a0) fun r2 => (Option.bind (s_q0u a0) fun r3 => (f_q0j_run8 (r3, (-1), r3, a0, r2, []))))))
theorem f_q0j_top (a0 : List (Int × Int)) (r : List A) : Tq f_q0j_X f_q0j_LV f_q0j_c f_q0j_rv r [.lst (.st [(.i .i8), (.i .u16)]) a0] = (Option.bind (s_q2a a0) fun r1 => (cond (!r1) (some [.lst (.one (.i .i64)) [], .v (.int .i64 0), .v (.int .i64 1)]) (Option.bind (s_q1h a0) fun r2 => (Option.bind (s_q0u a0) fun r3 => (f_q0j_L r 8 (f_q0j_s8 r3 (-1) r3 a0 r2 [])))))) := by kernel_rfl
theorem s_q0j_ok (a0 : List (Int × Int)) (v : ((List Int) × Int × Int)) (h : s_q0j a0 = some v) : (Option.bind (s_q2a a0) fun r1 => (cond (!r1) (some [.lst (.one (.i .i64)) [], .v (.int .i64 0), .v (.int .i64 1)]) (Option.bind (s_q1h a0) fun r2 => (Option.bind (s_q0u a0) fun r3 => (f_q0j_L (l_q0j v) 8 (f_q0j_s8 r3 (-1) r3 a0 r2 [])))))) = some (l_q0j v) := by
 replace h : sem (fun w => l_q0j v = l_q0j w) (s_q0j a0) := ⟨v, h, rfl⟩
 unfold s_q0j at h
 exact (sem_bind h fun r1 h => (sem_cond h (fun h => sem_got h fun q => some_eq q) (fun h => (sem_bind h fun r2 h => (sem_bind h fun r3 h => f_q0j_go8 (l_q0j v) _ h)))))
noncomputable def c_q0j : List A → ACall
 | [.lst (.st [(.i .i8), (.i .u16)]) a0] => ⟨((List Int) × Int × Int), s_q0j a0, fun r => .tup [.lst (.one (.i .i64)) r.1, .v (.int .i64 r.2.1), .v (.int .i64 r.2.2)]⟩
 | _ => ACall.fail
theorem f_q0j_sound : Sound Tryz.prog 56 c_q0j := by
 refine good f_q0j_ctx f_q0j_LV f_q0j_c f_q0j_rv 1 Tryz.func56 fun rs => ?_
 unfold c_q0j
 split
 ·rename_i a0; intro v h; exact ⟨rfl, l_q0j v, rfl, (f_q0j_top a0 _).trans (s_q0j_ok a0 v h)⟩
 ·intro v h; cases h
end Go.RR
namespace Go.RR
open Go Go.Proofs
noncomputable def f_q1j_c := codeC Tryz.f63
noncomputable def f_q1j_X : Ctx := ⟨TT, phiOf [(128, c_q0z), (60, c_q12), (76, c_q1v), (84, c_q1y)], noPsi, noXi⟩
def f_q1j_LV : List (Nat × Keep) := [(6, ([0, 1, 7, 23, 24, 25], [], []))]
def f_q1j_rv : List ResultVar := [.tmp 4, .tmp 5]
noncomputable def f_q1j_L := Lq f_q1j_X f_q1j_LV f_q1j_c f_q1j_rv
theorem f_q1j_ctx : CtxOK Tryz.prog f_q1j_X := ctx_of tab mix ⟨⟨Tryz.call128, f_q0z_sound⟩, ⟨Tryz.call60, f_q12_sound⟩, ⟨Tryz.call76, f_q1v_sound⟩, ⟨Tryz.call84, f_q1y_sound⟩, trivial⟩
noncomputable def f_q1j_s6 (x0 x1 x2 : Int) (x3 x4 : List (Int × Int)) : AS := ⟨[(0, .a (.sl 0)), (1, .a (.v (.int .i64 x0))), (7, .a (.sl 1)), (23, .a (.sl 0)), (24, .a (.v (.int .i64 x1))), (25, .a (.v (.int .i64 x2)))], [(0, some ⟨false, .arr (.st [(.i .i8), (.i .u16)]) x3⟩), (1, some ⟨true, .arr (.st [(.i .i8), (.i .u16)]) x4⟩)], 2⟩
abbrev A_q1j := ((List (Int × Int)) × Int)
noncomputable def l_q1j (r : ((List (Int × Int)) × Int)) : List A := [.lst (.st [(.i .i8), (.i .u16)]) r.1, .v (.int .i64 r.2)]
abbrev Z_q1j_6 := (Int × Int × Int × (List (Int × Int)) × (List (Int × Int)))
abbrev Y_q1j_6 := A_q1j
section
variable {R R' : Type} {S : R → Prop} {r : R'} (E : A_q1j → Option R) (E' : A_q1j → Option R') (G6 : Z_q1j_6 → Option R) (G6' : Z_q1j_6 → Option R')
noncomputable def t_q1j_6 (x0 x1 x2 : Int) (x3 x4 : List (Int × Int)) : Option R := (cond (decide (x2 < x1)) (cond (inB x2 (List.length x3)) (cond (x2 == x0) (G6 (x0, x1, (IntKind.wrap .i64 (x2 + 1)), x3, x4)) (Option.bind (s_q0z (List.getD x3 (Int.toNat x2) ((0, 0) : (Int × Int))).1 (List.getD x3 (Int.toNat x2) ((0, 0) : (Int × Int))).2 x0) fun r2 => (cond r2 (cond (inB x0 (List.length x3)) (cond (decide (x0 < 0)) none (cond (decide ((IntKind.wrap .i64 (x0 + 1)) < 0)) none (cond (decide (x0 < 0)) none (cond (fits ((List.length (x4 : List (Int × Int)) + List.length ([((List.getD x3 (Int.toNat x2) ((0, 0) : (Int × Int))).1, (bOr .u16 (bAnd .u16 (bOr .u16 (List.getD x3 (Int.toNat x2) ((0, 0) : (Int × Int))).2 (List.getD x3 (Int.toNat x0) ((0, 0) : (Int × Int))).2) (IntKind.wrap .u16 ((bShl .u16 1 x0) - 1))) (bShl .u16 (bShr .u16 (bOr .u16 (List.getD x3 (Int.toNat x2) ((0, 0) : (Int × Int))).2 (List.getD x3 (Int.toNat x0) ((0, 0) : (Int × Int))).2) (IntKind.wrap .i64 (x0 + 1))) x0)))] : List (Int × Int))) * 4)) (G6 (x0, x1, (IntKind.wrap .i64 (x2 + 1)), x3, (x4 ++ [((List.getD x3 (Int.toNat x2) ((0, 0) : (Int × Int))).1, (bOr .u16 (bAnd .u16 (bOr .u16 (List.getD x3 (Int.toNat x2) ((0, 0) : (Int × Int))).2 (List.getD x3 (Int.toNat x0) ((0, 0) : (Int × Int))).2) (IntKind.wrap .u16 ((bShl .u16 1 x0) - 1))) (bShl .u16 (bShr .u16 (bOr .u16 (List.getD x3 (Int.toNat x2) ((0, 0) : (Int × Int))).2 (List.getD x3 (Int.toNat x0) ((0, 0) : (Int × Int))).2) (IntKind.wrap .i64 (x0 + 1))) x0)))]))) none)))) none) (cond (decide (x0 < 0)) none (cond (decide ((IntKind.wrap .i64 (x0 + 1)) < 0)) none (cond (decide (x0 < 0)) none (cond (fits ((List.length (x4 : List (Int × Int)) + List.length ([((List.getD x3 (Int.toNat x2) ((0, 0) : (Int × Int))).1, (bOr .u16 (bAnd .u16 (List.getD x3 (Int.toNat x2) ((0, 0) : (Int × Int))).2 (IntKind.wrap .u16 ((bShl .u16 1 x0) - 1))) (bShl .u16 (bShr .u16 (List.getD x3 (Int.toNat x2) ((0, 0) : (Int × Int))).2 (IntKind.wrap .i64 (x0 + 1))) x0)))] : List (Int × Int))) * 4)) (G6 (x0, x1, (IntKind.wrap .i64 (x2 + 1)), x3, (x4 ++ [((List.getD x3 (Int.toNat x2) ((0, 0) : (Int × Int))).1, (bOr .u16 (bAnd .u16 (List.getD x3 (Int.toNat x2) ((0, 0) : (Int × Int))).2 (IntKind.wrap .u16 ((bShl .u16 1 x0) - 1))) (bShl .u16 (bShr .u16 (List.getD x3 (Int.toNat x2) ((0, 0) : (Int × Int))).2 (IntKind.wrap .i64 (x0 + 1))) x0)))]))) none))))))) none) (E (x4, 0)))
theorem t_q1j_6_sem (x0 x1 x2 : Int) (x3 x4 : List (Int × Int)) (h : sem S (t_q1j_6 E G6 x0 x1 x2 x3 x4)) (hE : Leads S r E E') (h6 : Leads S r G6 G6') : t_q1j_6 E' G6' x0 x1 x2 x3 x4 = some r := by
 revert h
 unfold t_q1j_6
 repeat' first | refine sem_condK ?_ ?_ | refine sem_bindK fun _ => ?_ | exact sem_noneK | exact hE _ | exact h6 _ | refine sem_bind2K (fun _ => ?_) (fun _ => ?_)
noncomputable def t_q1j (a0 : List (Int × Int)) (a1 : Int) : Option R := (Option.bind (s_q12 a0) fun r1 => (cond ((s_q1v r1 (s_q1y a1 0 (IntKind.wrap .i64 (((List.length a0 : Nat) : Int) - 1)))) != 0) (E ([], (s_q1v r1 (s_q1y a1 0 (IntKind.wrap .i64 (((List.length a0 : Nat) : Int) - 1)))))) (G6 (a1, ((List.length a0 : Nat) : Int), 0, a0, []))))
theorem t_q1j_sem (a0 : List (Int × Int)) (a1 : Int) (h : sem S (t_q1j E G6 a0 a1)) (hE : Leads S r E E') (h6 : Leads S r G6 G6') : t_q1j E' G6' a0 a1 = some r := by
 revert h
 unfold t_q1j
 repeat' first | refine sem_condK ?_ ?_ | refine sem_bindK fun _ => ?_ | exact sem_noneK | exact hE _ | exact h6 _ | refine sem_bind2K (fun _ => ?_) (fun _ => ?_)
end
noncomputable def f_q1j_K6 (r : List A) (x : Z_q1j_6) : Option (List A) := f_q1j_L r 6 (f_q1j_s6 x.1 x.2.1 x.2.2.1 x.2.2.2.1 x.2.2.2.2)
theorem f_q1j_step6 (x0 x1 x2 : Int) (x3 x4 : List (Int × Int)) (r : List A) (h : t_q1j_6 (fun v => some (l_q1j v)) (f_q1j_K6 r) x0 x1 x2 x3 x4 = some r) : f_q1j_L r 6 (f_q1j_s6 x0 x1 x2 x3 x4) = some r :=
 step_of' h (by kernel_rfl)
noncomputable def f_q1j_n6 (x0 x1 x2 : Int) (x3 x4 : List (Int × Int)) : Option (Z_q1j_6 ⊕ Y_q1j_6) := t_q1j_6 (fun v => some (Sum.inr v)) (fun x => some (Sum.inl x)) x0 x1 x2 x3 x4
noncomputable def f_q1j_run6 (x : Z_q1j_6) : Option Y_q1j_6 := iter (fun x => f_q1j_n6 x.1 x.2.1 x.2.2.1 x.2.2.2.1 x.2.2.2.2) FU x
noncomputable def f_q1j_G6 (r : List A) (x : Z_q1j_6) : Prop := f_q1j_K6 r x = some r
noncomputable def f_q1j_S6 (r : List A) : Y_q1j_6 → Prop := fun v => r = l_q1j v
theorem f_q1j_go6 (r : List A) : ∀ x, sem (f_q1j_S6 r) (f_q1j_run6 x) → f_q1j_G6 r x :=
 fun x => iter_sound (G := f_q1j_G6 r) (E := f_q1j_S6 r) (step := fun x => f_q1j_n6 x.1 x.2.1 x.2.2.1 x.2.2.2.1 x.2.2.2.2) (fun x h => f_q1j_step6 x.1 x.2.1 x.2.2.1 x.2.2.2.1 x.2.2.2.2 r (t_q1j_6_sem _ _ _ _ x.1 x.2.1 x.2.2.1 x.2.2.2.1 x.2.2.2.2 h (fun _ h => sem_got h fun q => some_eq q) (fun _ h => sem_got h fun q => q))) FU x
noncomputable def s_q1j (a0 : List (Int × Int)) (a1 : Int) : Option ((List (Int × Int)) × Int) := t_q1j some f_q1j_run6 a0 a1
theorem f_q1j_top (a0 : List (Int × Int)) (a1 : Int) (r : List A) : Tq f_q1j_X f_q1j_LV f_q1j_c f_q1j_rv r [.lst (.st [(.i .i8), (.i .u16)]) a0, .v (.int .i64 a1)] = t_q1j (fun v => some (l_q1j v)) (f_q1j_K6 r) a0 a1 := by kernel_rfl
theorem s_q1j_ok (a0 : List (Int × Int)) (a1 : Int) (v : ((List (Int × Int)) × Int)) (h : s_q1j a0 a1 = some v) : t_q1j (fun v => some (l_q1j v)) (f_q1j_K6 (l_q1j v)) a0 a1 = some (l_q1j v) :=
 t_q1j_sem _ _ _ _ a0 a1 (show sem (fun w => l_q1j v = l_q1j w) (s_q1j a0 a1) from ⟨v, h, rfl⟩) (fun _ h => sem_got h fun q => some_eq q) (f_q1j_go6 (l_q1j v))
noncomputable def c_q1j : List A → ACall
 | [.lst (.st [(.i .i8), (.i .u16)]) a0, .v (.int .i64 a1)] => ⟨((List (Int × Int)) × Int), s_q1j a0 a1, fun r => .tup [.lst (.st [(.i .i8), (.i .u16)]) r.1, .v (.int .i64 r.2)]⟩
 | _ => ACall.fail
theorem f_q1j_sound : Sound Tryz.prog 63 c_q1j := by
 refine good f_q1j_ctx f_q1j_LV f_q1j_c f_q1j_rv 2 Tryz.func63 fun rs => ?_
 unfold c_q1j
 split
 ·rename_i a0 a1; intro v h; exact ⟨rfl, l_q1j v, rfl, (f_q1j_top a0 a1 _).trans (s_q1j_ok a0 a1 v h)⟩
 ·intro v h; cases h
noncomputable def f_q22_c := codeC Tryz.f144
noncomputable def f_q22_X : Ctx := ⟨TT, phiOf [(101, c_q27), (130, c_q2a)], noPsi, noXi⟩
def f_q22_LV : List (Nat × Keep) := []
def f_q22_rv : List ResultVar := [.tmp 4]
theorem f_q22_ctx : CtxOK Tryz.prog f_q22_X := ctx_of tab mix ⟨⟨Tryz.call101, f_q27_sound⟩, ⟨Tryz.call130, f_q2a_sound⟩, trivial⟩
noncomputable def s_q22 (a0 : List (Int × Int)) (a1 : Int) : Option Int := (Option.bind (s_q2a a0) fun r1 => (cond (!r1) (some 1) (cond (!(s_q27 a1 0 (IntKind.wrap .i64 (((List.length a0 : Nat) : Int) - 1)))) (some 2) (some 0))))
theorem f_q22_top (a0 : List (Int × Int)) (a1 : Int) (r : List A) : Tq f_q22_X f_q22_LV f_q22_c f_q22_rv r [.lst (.st [(.i .i8), (.i .u16)]) a0, .v (.int .i64 a1)] = (Option.bind (s_q2a a0) fun r1 => (cond (!r1) (some [.v (.int .i64 1)]) (cond (!(s_q27 a1 0 (IntKind.wrap .i64 (((List.length a0 : Nat) : Int) - 1)))) (some [.v (.int .i64 2)]) (some [.v (.int .i64 0)])))) := by kernel_rfl
noncomputable def l_q22 (r : Int) : List A := [.v (.int .i64 r)]
theorem s_q22_ok (a0 : List (Int × Int)) (a1 v : Int) (h : s_q22 a0 a1 = some v) : (Option.bind (s_q2a a0) fun r1 => (cond (!r1) (some [.v (.int .i64 1)]) (cond (!(s_q27 a1 0 (IntKind.wrap .i64 (((List.length a0 : Nat) : Int) - 1)))) (some [.v (.int .i64 2)]) (some [.v (.int .i64 0)])))) = some (l_q22 v) := by
 refine Eq.trans (b := Option.map l_q22 (s_q22 a0 a1)) ?_ (by rw [h]; rfl)
 unfold s_q22
 exact (bind_app fun _ => (cond_app (Option.map l_q22) rfl (cond_app (Option.map l_q22) rfl rfl)))
noncomputable def c_q22 : List A → ACall
 | [.lst (.st [(.i .i8), (.i .u16)]) a0, .v (.int .i64 a1)] => ⟨Int, s_q22 a0 a1, fun r => .one (.v (.int .i64 r))⟩
 | _ => ACall.fail
theorem f_q22_sound : Sound Tryz.prog 144 c_q22 := by
 refine good f_q22_ctx f_q22_LV f_q22_c f_q22_rv 2 Tryz.func144 fun rs => ?_
 unfold c_q22
 split
 ·rename_i a0 a1; intro v h; exact ⟨rfl, l_q22 v, rfl, (f_q22_top a0 a1 _).trans (s_q22_ok a0 a1 v h)⟩
 ·intro v h; cases h
noncomputable def f_q1q_c := codeC Tryz.f64
noncomputable def f_q1q_X : Ctx := ⟨TT, phiOf [(132, c_q1i), (144, c_q22)], noPsi, noXi⟩
def f_q1q_LV : List (Nat × Keep) := [(6, ([0, 1, 7, 8], [], []))]
def f_q1q_rv : List ResultVar := [.tmp 4, .tmp 5]
noncomputable def f_q1q_L := Lq f_q1q_X f_q1q_LV f_q1q_c f_q1q_rv
theorem f_q1q_ctx : CtxOK Tryz.prog f_q1q_X := ctx_of tab mix ⟨⟨Tryz.call132, f_q1i_sound⟩, ⟨Tryz.call144, f_q22_sound⟩, trivial⟩
noncomputable def f_q1q_s6 (x0 x1 : Int) (x2 x3 : List (Int × Int)) : AS := ⟨[(0, .a (.sl 0)), (1, .a (.v (.int .i64 x0))), (7, .a (.sl 1)), (8, .a (.v (.int .i64 x1)))], [(0, some ⟨false, .arr (.st [(.i .i8), (.i .u16)]) x2⟩), (1, some ⟨true, .arr (.st [(.i .i8), (.i .u16)]) x3⟩)], 2⟩
abbrev A_q1q := ((List (Int × Int)) × Int)
noncomputable def l_q1q (r : ((List (Int × Int)) × Int)) : List A := [.lst (.st [(.i .i8), (.i .u16)]) r.1, .v (.int .i64 r.2)]
abbrev Z_q1q_6 := (Int × Int × (List (Int × Int)) × (List (Int × Int)))
abbrev Y_q1q_6 := A_q1q
section
variable {R R' : Type} {S : R → Prop} {r : R'} (E : A_q1q → Option R) (E' : A_q1q → Option R') (G6 : Z_q1q_6 → Option R) (G6' : Z_q1q_6 → Option R')
noncomputable def t_q1q_6 (x0 x1 : Int) (x2 x3 : List (Int × Int)) : Option R := (cond (decide (x1 < ((List.length x2 : Nat) : Int))) (cond (x1 == x0) (G6 (x0, (IntKind.wrap .i64 (x1 + 1)), x2, x3)) (cond (inB x1 (List.length x2)) (Option.bind (s_q1i x2 x1 x0) fun r2 => (cond r2 (cond (inB x0 (List.length x2)) (cond (decide ((IntKind.wrap .u64 x0) < 0)) none (cond (decide ((bShl .u16 1 (IntKind.wrap .u64 x0)) = 0)) none (cond (decide ((IntKind.wrap .u64 (IntKind.wrap .i64 (x0 + 1))) < 0)) none (cond (decide ((IntKind.wrap .u64 x0) < 0)) none (cond (inB x1 (List.length x2)) (cond (fits ((List.length (x3 : List (Int × Int)) + List.length ([((List.getD x2 (Int.toNat x1) ((0, 0) : (Int × Int))).1, (bOr .u16 (Int.tmod (bOr .u16 (List.getD x2 (Int.toNat x1) ((0, 0) : (Int × Int))).2 (List.getD x2 (Int.toNat x0) ((0, 0) : (Int × Int))).2) (bShl .u16 1 (IntKind.wrap .u64 x0))) (bShl .u16 (bShr .u16 (bOr .u16 (List.getD x2 (Int.toNat x1) ((0, 0) : (Int × Int))).2 (List.getD x2 (Int.toNat x0) ((0, 0) : (Int × Int))).2) (IntKind.wrap .u64 (IntKind.wrap .i64 (x0 + 1)))) (IntKind.wrap .u64 x0))))] : List (Int × Int))) * 4)) (G6 (x0, (IntKind.wrap .i64 (x1 + 1)), x2, (x3 ++ [((List.getD x2 (Int.toNat x1) ((0, 0) : (Int × Int))).1, (bOr .u16 (Int.tmod (bOr .u16 (List.getD x2 (Int.toNat x1) ((0, 0) : (Int × Int))).2 (List.getD x2 (Int.toNat x0) ((0, 0) : (Int × Int))).2) (bShl .u16 1 (IntKind.wrap .u64 x0))) (bShl .u16 (bShr .u16 (bOr .u16 (List.getD x2 (Int.toNat x1) ((0, 0) : (Int × Int))).2 (List.getD x2 (Int.toNat x0) ((0, 0) : (Int × Int))).2) (IntKind.wrap .u64 (IntKind.wrap .i64 (x0 + 1)))) (IntKind.wrap .u64 x0))))]))) none) none))))) none) (cond (decide ((IntKind.wrap .u64 x0) < 0)) none (cond (decide ((bShl .u16 1 (IntKind.wrap .u64 x0)) = 0)) none (cond (decide ((IntKind.wrap .u64 (IntKind.wrap .i64 (x0 + 1))) < 0)) none (cond (decide ((IntKind.wrap .u64 x0) < 0)) none (cond (inB x1 (List.length x2)) (cond (fits ((List.length (x3 : List (Int × Int)) + List.length ([((List.getD x2 (Int.toNat x1) ((0, 0) : (Int × Int))).1, (bOr .u16 (Int.tmod (List.getD x2 (Int.toNat x1) ((0, 0) : (Int × Int))).2 (bShl .u16 1 (IntKind.wrap .u64 x0))) (bShl .u16 (bShr .u16 (List.getD x2 (Int.toNat x1) ((0, 0) : (Int × Int))).2 (IntKind.wrap .u64 (IntKind.wrap .i64 (x0 + 1)))) (IntKind.wrap .u64 x0))))] : List (Int × Int))) * 4)) (G6 (x0, (IntKind.wrap .i64 (x1 + 1)), x2, (x3 ++ [((List.getD x2 (Int.toNat x1) ((0, 0) : (Int × Int))).1, (bOr .u16 (Int.tmod (List.getD x2 (Int.toNat x1) ((0, 0) : (Int × Int))).2 (bShl .u16 1 (IntKind.wrap .u64 x0))) (bShl .u16 (bShr .u16 (List.getD x2 (Int.toNat x1) ((0, 0) : (Int × Int))).2 (IntKind.wrap .u64 (IntKind.wrap .i64 (x0 + 1)))) (IntKind.wrap .u64 x0))))]))) none) none))))))) none)) (E (x3, 0)))
theorem t_q1q_6_sem (x0 x1 : Int) (x2 x3 : List (Int × Int)) (h : sem S (t_q1q_6 E G6 x0 x1 x2 x3)) (hE : Leads S r E E') (h6 : Leads S r G6 G6') : t_q1q_6 E' G6' x0 x1 x2 x3 = some r := by
 revert h
 unfold t_q1q_6
 repeat' first | refine sem_condK ?_ ?_ | refine sem_bindK fun _ => ?_ | exact sem_noneK | exact hE _ | exact h6 _ | refine sem_bind2K (fun _ => ?_) (fun _ => ?_)
noncomputable def t_q1q (a0 : List (Int × Int)) (a1 : Int) : Option R := (Option.bind (s_q22 a0 a1) fun r1 => (cond (r1 != 0) (E ([], r1)) (G6 (a1, 0, a0, []))))
theorem t_q1q_sem (a0 : List (Int × Int)) (a1 : Int) (h : sem S (t_q1q E G6 a0 a1)) (hE : Leads S r E E') (h6 : Leads S r G6 G6') : t_q1q E' G6' a0 a1 = some r := by
 revert h
 unfold t_q1q
 repeat' first | refine sem_condK ?_ ?_ | refine sem_bindK fun _ => ?_ | exact sem_noneK | exact hE _ | exact h6 _ | refine sem_bind2K (fun _ => ?_) (fun _ => ?_)
end
noncomputable def f_q1q_K6 (r : List A) (x : Z_q1q_6) : Option (List A) := f_q1q_L r 6 (f_q1q_s6 x.1 x.2.1 x.2.2.1 x.2.2.2)
theorem f_q1q_step6 (x0 x1 : Int) (x2 x3 : List (Int × Int)) (r : List A) (h : t_q1q_6 (fun v => some (l_q1q v)) (f_q1q_K6 r) x0 x1 x2 x3 = some r) : f_q1q_L r 6 (f_q1q_s6 x0 x1 x2 x3) = some r :=
 step_of' h (by kernel_rfl)
noncomputable def f_q1q_n6 (x0 x1 : Int) (x2 x3 : List (Int × Int)) : Option (Z_q1q_6 ⊕ Y_q1q_6) := t_q1q_6 (fun v => some (Sum.inr v)) (fun x => some (Sum.inl x)) x0 x1 x2 x3
noncomputable def f_q1q_run6 (x : Z_q1q_6) : Option Y_q1q_6 := iter (fun x => f_q1q_n6 x.1 x.2.1 x.2.2.1 x.2.2.2) FU x
noncomputable def f_q1q_G6 (r : List A) (x : Z_q1q_6) : Prop := f_q1q_K6 r x = some r
noncomputable def f_q1q_S6 (r : List A) : Y_q1q_6 → Prop := fun v => r = l_q1q v
theorem f_q1q_go6 (r : List A) : ∀ x, sem (f_q1q_S6 r) (f_q1q_run6 x) → f_q1q_G6 r x :=
 fun x => iter_sound (G := f_q1q_G6 r) (E := f_q1q_S6 r) (step := fun x => f_q1q_n6 x.1 x.2.1 x.2.2.1 x.2.2.2) (fun x h => f_q1q_step6 x.1 x.2.1 x.2.2.1 x.2.2.2 r (t_q1q_6_sem _ _ _ _ x.1 x.2.1 x.2.2.1 x.2.2.2 h (fun _ h => sem_got h fun q => some_eq q) (fun _ h => sem_got h fun q => q))) FU x
noncomputable def s_q1q (a0 : List (Int × Int)) (a1 : Int) : Option ((List (Int × Int)) × Int) := t_q1q some f_q1q_run6 a0 a1
theorem f_q1q_top (a0 : List (Int × Int)) (a1 : Int) (r : List A) : Tq f_q1q_X f_q1q_LV f_q1q_c f_q1q_rv r [.lst (.st [(.i .i8), (.i .u16)]) a0, .v (.int .i64 a1)] = t_q1q (fun v => some (l_q1q v)) (f_q1q_K6 r) a0 a1 := by kernel_rfl
theorem s_q1q_ok (a0 : List (Int × Int)) (a1 : Int) (v : ((List (Int × Int)) × Int)) (h : s_q1q a0 a1 = some v) : t_q1q (fun v => some (l_q1q v)) (f_q1q_K6 (l_q1q v)) a0 a1 = some (l_q1q v) :=
 t_q1q_sem _ _ _ _ a0 a1 (show sem (fun w => l_q1q v = l_q1q w) (s_q1q a0 a1) from ⟨v, h, rfl⟩) (fun _ h => sem_got h fun q => some_eq q) (f_q1q_go6 (l_q1q v))
noncomputable def c_q1q : List A → ACall
 | [.lst (.st [(.i .i8), (.i .u16)]) a0, .v (.int .i64 a1)] => ⟨((List (Int × Int)) × Int), s_q1q a0 a1, fun r => .tup [.lst (.st [(.i .i8), (.i .u16)]) r.1, .v (.int .i64 r.2)]⟩
 | _ => ACall.fail
theorem f_q1q_sound : Sound Tryz.prog 64 c_q1q := by
 refine good f_q1q_ctx f_q1q_LV f_q1q_c f_q1q_rv 2 Tryz.func64 fun rs => ?_
 unfold c_q1q
 split
 ·rename_i a0 a1; intro v h; exact ⟨rfl, l_q1q v, rfl, (f_q1q_top a0 a1 _).trans (s_q1q_ok a0 a1 v h)⟩
 ·intro v h; cases h
noncomputable def f_q0w_c := codeC Tryz.f145
noncomputable def f_q0w_X : Ctx := ⟨TT, phiOf [], noPsi, noXi⟩
def f_q0w_LV : List (Nat × Keep) := []
def f_q0w_rv : List ResultVar := [.tmp 2]
theorem f_q0w_ctx : CtxOK Tryz.prog f_q0w_X := ctx_of tab mix trivial
noncomputable def s_q0w (a0 : List (Int × Int)) : Option (List (Int × Int)) := (cond (Nat.blt 0 (List.length a0)) (cond (fits ((List.length ([] : List (Int × Int)) + List.length (a0 : List (Int × Int))) * 4)) (some ([] ++ a0)) none) none)
theorem f_q0w_top (a0 : List (Int × Int)) (r : List A) : Tq f_q0w_X f_q0w_LV f_q0w_c f_q0w_rv r [.lst (.st [(.i .i8), (.i .u16)]) a0] = (cond (Nat.blt 0 (List.length a0)) (cond (fits ((List.length ([] : List (Int × Int)) + List.length (a0 : List (Int × Int))) * 4)) (some [.lst (.st [(.i .i8), (.i .u16)]) ([] ++ a0)]) none) none) := by kernel_rfl
noncomputable def l_q0w (r : List (Int × Int)) : List A := [.lst (.st [(.i .i8), (.i .u16)]) r]
theorem s_q0w_ok (a0 v : List (Int × Int)) (h : s_q0w a0 = some v) : (cond (Nat.blt 0 (List.length a0)) (cond (fits ((List.length ([] : List (Int × Int)) + List.length (a0 : List (Int × Int))) * 4)) (some [.lst (.st [(.i .i8), (.i .u16)]) ([] ++ a0)]) none) none) = some (l_q0w v) := by
 refine Eq.trans (b := Option.map l_q0w (s_q0w a0)) ?_ (by rw [h]; rfl)
 unfold s_q0w
 exact (cond_app (Option.map l_q0w) (cond_app (Option.map l_q0w) rfl rfl) rfl)
noncomputable def c_q0w : List A → ACall
 | [.lst (.st [(.i .i8), (.i .u16)]) a0] => ⟨(List (Int × Int)), s_q0w a0, fun r => .one (.lst (.st [(.i .i8), (.i .u16)]) r)⟩
 | _ => ACall.fail
theorem f_q0w_sound : Sound Tryz.prog 145 c_q0w := by
 refine good f_q0w_ctx f_q0w_LV f_q0w_c f_q0w_rv 1 Tryz.func145 fun rs => ?_
 unfold c_q0w
 split
 ·rename_i a0; intro v h; exact ⟨rfl, l_q0w v, rfl, (f_q0w_top a0 _).trans (s_q0w_ok a0 v h)⟩
 ·intro v h; cases h
noncomputable def f_q0y_c := codeC Tryz.f65
noncomputable def f_q0y_X : Ctx := ⟨TT, phiOf [(145, c_q0w), (60, c_q12), (76, c_q1v), (84, c_q1y)], noPsi, noXi⟩
def f_q0y_LV : List (Nat × Keep) := []
def f_q0y_rv : List ResultVar := [.tmp 6, .tmp 7]
theorem f_q0y_ctx : CtxOK Tryz.prog f_q0y_X := ctx_of tab mix ⟨⟨Tryz.call145, f_q0w_sound⟩, ⟨Tryz.call60, f_q12_sound⟩, ⟨Tryz.call76, f_q1v_sound⟩, ⟨Tryz.call84, f_q1y_sound⟩, trivial⟩
abbrev A_q0y := ((List (Int × Int)) × Int)
noncomputable def l_q0y (r : ((List (Int × Int)) × Int)) : List A := [.lst (.st [(.i .i8), (.i .u16)]) r.1, .v (.int .i64 r.2)]
section
variable {R R' : Type} {S : R → Prop} {r : R'} (E : A_q0y → Option R) (E' : A_q0y → Option R')
noncomputable def t_q0y (a0 : List (Int × Int)) (a1 a2 : Int) : Option R := (Option.bind (s_q12 a0) fun r1 => (cond (s_q1y a1 0 (IntKind.wrap .i64 (((List.length a0 : Nat) : Int) - 1))) (cond ((s_q1v r1 (s_q1y a2 0 (IntKind.wrap .i64 (((List.length a0 : Nat) : Int) - 1)))) != 0) (E ([], (s_q1v r1 (s_q1y a2 0 (IntKind.wrap .i64 (((List.length a0 : Nat) : Int) - 1)))))) (Option.bind (s_q0w a0) fun r2 => (cond (inB a2 (List.length r2)) (cond (decide (a1 < 0)) none (cond (inB a2 (List.length r2)) (Option.bind (s_q12 (List.set r2 (Int.toNat a2) ((List.getD r2 (Int.toNat a2) ((0, 0) : (Int × Int))).1, (bOr .u16 (List.getD r2 (Int.toNat a2) ((0, 0) : (Int × Int))).2 (bShl .u16 1 a1))))) fun r3 => (cond (!r3) (E ([], 4)) (E ((List.set r2 (Int.toNat a2) ((List.getD r2 (Int.toNat a2) ((0, 0) : (Int × Int))).1, (bOr .u16 (List.getD r2 (Int.toNat a2) ((0, 0) : (Int × Int))).2 (bShl .u16 1 a1)))), 0)))) none)) none))) (cond ((s_q1v r1 false) != 0) (E ([], (s_q1v r1 false))) (Option.bind (s_q0w a0) fun r4 => (cond (inB a2 (List.length r4)) (cond (decide (a1 < 0)) none (cond (inB a2 (List.length r4)) (Option.bind (s_q12 (List.set r4 (Int.toNat a2) ((List.getD r4 (Int.toNat a2) ((0, 0) : (Int × Int))).1, (bOr .u16 (List.getD r4 (Int.toNat a2) ((0, 0) : (Int × Int))).2 (bShl .u16 1 a1))))) fun r5 => (cond (!r5) (E ([], 4)) (E ((List.set r4 (Int.toNat a2) ((List.getD r4 (Int.toNat a2) ((0, 0) : (Int × Int))).1, (bOr .u16 (List.getD r4 (Int.toNat a2) ((0, 0) : (Int × Int))).2 (bShl .u16 1 a1)))), 0)))) none)) none)))))
theorem t_q0y_sem (a0 : List (Int × Int)) (a1 a2 : Int) (h : sem S (t_q0y E a0 a1 a2)) (hE : Leads S r E E') : t_q0y E' a0 a1 a2 = some r := by
 revert h
 unfold t_q0y
 repeat' first | refine sem_condK ?_ ?_ | refine sem_bindK fun _ => ?_ | exact sem_noneK | exact hE _ | refine sem_bind2K (fun _ => ?_) (fun _ => ?_)
end
noncomputable def s_q0y (a0 : List (Int × Int)) (a1 a2 : Int) : Option ((List (Int × Int)) × Int) := t_q0y some a0 a1 a2
theorem f_q0y_top (a0 : List (Int × Int)) (a1 a2 : Int) (r : List A) : Tq f_q0y_X f_q0y_LV f_q0y_c f_q0y_rv r [.lst (.st [(.i .i8), (.i .u16)]) a0, .v (.int .i64 a1), .v (.int .i64 a2)] = t_q0y (fun v => some (l_q0y v)) a0 a1 a2 := by kernel_rfl
theorem s_q0y_ok (a0 : List (Int × Int)) (a1 a2 : Int) (v : ((List (Int × Int)) × Int)) (h : s_q0y a0 a1 a2 = some v) : t_q0y (fun v => some (l_q0y v)) a0 a1 a2 = some (l_q0y v) :=
 t_q0y_sem _ _ a0 a1 a2 (show sem (fun w => l_q0y v = l_q0y w) (s_q0y a0 a1 a2) from ⟨v, h, rfl⟩) (fun _ h => sem_got h fun q => some_eq q)
noncomputable def c_q0y : List A → ACall
 | [.lst (.st [(.i .i8), (.i .u16)]) a0, .v (.int .i64 a1), .v (.int .i64 a2)] => ⟨((List (Int × Int)) × Int), s_q0y a0 a1 a2, fun r => .tup [.lst (.st [(.i .i8), (.i .u16)]) r.1, .v (.int .i64 r.2)]⟩
 | _ => ACall.fail
theorem f_q0y_sound : Sound Tryz.prog 65 c_q0y := by
 refine good f_q0y_ctx f_q0y_LV f_q0y_c f_q0y_rv 3 Tryz.func65 fun rs => ?_
 unfold c_q0y
 split
 ·rename_i a0 a1 a2; intro v h; exact ⟨rfl, l_q0y v, rfl, (f_q0y_top a0 a1 a2 _).trans (s_q0y_ok a0 a1 a2 v h)⟩
 ·intro v h; cases h
noncomputable def f_q15_c := codeC Tryz.f66
noncomputable def f_q15_X : Ctx := ⟨TT, phiOf [(130, c_q2a), (144, c_q22)], noPsi, noXi⟩
def f_q15_LV : List (Nat × Keep) := []
def f_q15_rv : List ResultVar := [.tmp 6, .tmp 7]
theorem f_q15_ctx : CtxOK Tryz.prog f_q15_X := ctx_of tab mix ⟨⟨Tryz.call130, f_q2a_sound⟩, ⟨Tryz.call144, f_q22_sound⟩, trivial⟩
abbrev A_q15 := ((List (Int × Int)) × Int)
noncomputable def l_q15 (r : ((List (Int × Int)) × Int)) : List A := [.lst (.st [(.i .i8), (.i .u16)]) r.1, .v (.int .i64 r.2)]
section
variable {R R' : Type} {S : R → Prop} {r : R'} (E : A_q15 → Option R) (E' : A_q15 → Option R')
noncomputable def t_q15 (a0 : List (Int × Int)) (a1 a2 : Int) : Option R := (Option.bind (s_q22 a0 a1) fun r1 => (cond (r1 == 0) (Option.bind (s_q22 a0 a2) fun r2 => (cond (r2 != 0) (E ([], r2)) (cond (fits ((List.length ([] : List (Int × Int)) + List.length (a0 : List (Int × Int))) * 4)) (cond (inB a2 (List.length ([] ++ a0))) (cond (decide ((IntKind.wrap .u64 a1) < 0)) none (cond (inB a2 (List.length ([] ++ a0))) (Option.bind (s_q2a (List.set ([] ++ a0) (Int.toNat a2) ((List.getD ([] ++ a0) (Int.toNat a2) ((0, 0) : (Int × Int))).1, (bOr .u16 (List.getD ([] ++ a0) (Int.toNat a2) ((0, 0) : (Int × Int))).2 (bShl .u16 1 (IntKind.wrap .u64 a1)))))) fun r3 => (cond (!r3) (E ([], 4)) (E ((List.set ([] ++ a0) (Int.toNat a2) ((List.getD ([] ++ a0) (Int.toNat a2) ((0, 0) : (Int × Int))).1, (bOr .u16 (List.getD ([] ++ a0) (Int.toNat a2) ((0, 0) : (Int × Int))).2 (bShl .u16 1 (IntKind.wrap .u64 a1))))), 0)))) none)) none) none))) (cond (r1 != 0) (E ([], r1)) (cond (fits ((List.length ([] : List (Int × Int)) + List.length (a0 : List (Int × Int))) * 4)) (cond (inB a2 (List.length ([] ++ a0))) (cond (decide ((IntKind.wrap .u64 a1) < 0)) none (cond (inB a2 (List.length ([] ++ a0))) (Option.bind (s_q2a (List.set ([] ++ a0) (Int.toNat a2) ((List.getD ([] ++ a0) (Int.toNat a2) ((0, 0) : (Int × Int))).1, (bOr .u16 (List.getD ([] ++ a0) (Int.toNat a2) ((0, 0) : (Int × Int))).2 (bShl .u16 1 (IntKind.wrap .u64 a1)))))) fun r4 => (cond (!r4) (E ([], 4)) (E ((List.set ([] ++ a0) (Int.toNat a2) ((List.getD ([] ++ a0) (Int.toNat a2) ((0, 0) : (Int × Int))).1, (bOr .u16 (List.getD ([] ++ a0) (Int.toNat a2) ((0, 0) : (Int × Int))).2 (bShl .u16 1 (IntKind.wrap .u64 a1))))), 0)))) none)) none) none))))
theorem t_q15_sem (a0 : List (Int × Int)) (a1 a2 : Int) (h : sem S (t_q15 E a0 a1 a2)) (hE : Leads S r E E') : t_q15 E' a0 a1 a2 = some r := by
 revert h
 unfold t_q15
 repeat' first | refine sem_condK ?_ ?_ | refine sem_bindK fun _ => ?_ | exact sem_noneK | exact hE _ | refine sem_bind2K (fun _ => ?_) (fun _ => ?_)
end
noncomputable def s_q15 (a0 : List (Int × Int)) (a1 a2 : Int) : Option ((List (Int × Int)) × Int) := t_q15 some a0 a1 a2
theorem f_q15_top (a0 : List (Int × Int)) (a1 a2 : Int) (r : List A) : Tq f_q15_X f_q15_LV f_q15_c f_q15_rv r [.lst (.st [(.i .i8), (.i .u16)]) a0, .v (.int .i64 a1), .v (.int .i64 a2)] = t_q15 (fun v => some (l_q15 v)) a0 a1 a2 := by kernel_rfl
theorem s_q15_ok (a0 : List (Int × Int)) (a1 a2 : Int) (v : ((List (Int × Int)) × Int)) (h : s_q15 a0 a1 a2 = some v) : t_q15 (fun v => some (l_q15 v)) a0 a1 a2 = some (l_q15 v) :=
 t_q15_sem _ _ a0 a1 a2 (show sem (fun w => l_q15 v = l_q15 w) (s_q15 a0 a1 a2) from ⟨v, h, rfl⟩) (fun _ h => sem_got h fun q => some_eq q)
noncomputable def c_q15 : List A → ACall
 | [.lst (.st [(.i .i8), (.i .u16)]) a0, .v (.int .i64 a1), .v (.int .i64 a2)] => ⟨((List (Int × Int)) × Int), s_q15 a0 a1 a2, fun r => .tup [.lst (.st [(.i .i8), (.i .u16)]) r.1, .v (.int .i64 r.2)]⟩
 | _ => ACall.fail
theorem f_q15_sound : Sound Tryz.prog 66 c_q15 := by
 refine good f_q15_ctx f_q15_LV f_q15_c f_q15_rv 3 Tryz.func66 fun rs => ?_
 unfold c_q15
 split
 ·rename_i a0 a1 a2; intro v h; exact ⟨rfl, l_q15 v, rfl, (f_q15_top a0 a1 a2 _).trans (s_q15_ok a0 a1 a2 v h)⟩
 ·intro v h; cases h
noncomputable def f_q0s_c := codeC Tryz.f59
noncomputable def f_q0s_X : Ctx := ⟨TT, phiOf [], noPsi, noXi⟩
def f_q0s_LV : List (Nat × Keep) := [(4, ([0, 1, 5], [], []))]
def f_q0s_rv : List ResultVar := [.tmp 4]
noncomputable def f_q0s_L := Lq f_q0s_X f_q0s_LV f_q0s_c f_q0s_rv
theorem f_q0s_ctx : CtxOK Tryz.prog f_q0s_X := ctx_of tab mix trivial
noncomputable def f_q0s_s4 (x0 : Int) (x1 x2 : List (Int × Int)) : AS := ⟨[(0, .a (.sl 0)), (1, .a (.sl 1)), (5, .a (.v (.int .i64 x0)))], [(0, some ⟨false, .arr (.st [(.i .i8), (.i .u16)]) x1⟩), (1, some ⟨false, .arr (.st [(.i .i8), (.i .u16)]) x2⟩)], 2⟩
noncomputable def l_q0s (r : Bool) : List A := [.v (.bool r)]
theorem f_q0s_step4 (x0 : Int) (x1 x2 : List (Int × Int)) (r : List A) (h : (cond (decide (x0 < ((List.length x1 : Nat) : Int))) (cond (inB x0 (List.length x1)) (cond (inB x0 (List.length x2)) (cond (!(((List.getD x1 (Int.toNat x0) ((0, 0) : (Int × Int))).1 == (List.getD x2 (Int.toNat x0) ((0, 0) : (Int × Int))).1) && (((List.getD x1 (Int.toNat x0) ((0, 0) : (Int × Int))).2 == (List.getD x2 (Int.toNat x0) ((0, 0) : (Int × Int))).2) && true))) (some [.v (.bool false)]) (f_q0s_L r 4 (f_q0s_s4 (IntKind.wrap .i64 (x0 + 1)) x1 x2))) none) none) (some [.v (.bool true)])) = some r) : f_q0s_L r 4 (f_q0s_s4 x0 x1 x2) = some r :=
 step_of' h (by kernel_rfl)
noncomputable def f_q0s_n4 (x0 : Int) (x1 x2 : List (Int × Int)) : Option ((Int × (List (Int × Int)) × (List (Int × Int))) ⊕ Bool) := (cond (decide (x0 < ((List.length x1 : Nat) : Int))) (cond (inB x0 (List.length x1)) (cond (inB x0 (List.length x2)) (cond (!(((List.getD x1 (Int.toNat x0) ((0, 0) : (Int × Int))).1 == (List.getD x2 (Int.toNat x0) ((0, 0) : (Int × Int))).1) && (((List.getD x1 (Int.toNat x0) ((0, 0) : (Int × Int))).2 == (List.getD x2 (Int.toNat x0) ((0, 0) : (Int × Int))).2) && true))) (some (Sum.inr false)) (some (Sum.inl ((IntKind.wrap .i64 (x0 + 1)), x1, x2)))) none) none) (some (Sum.inr true)))
noncomputable def f_q0s_run4 (x : (Int × (List (Int × Int)) × (List (Int × Int)))) : Option Bool := iter (fun x => f_q0s_n4 x.1 x.2.1 x.2.2) FU x
noncomputable def f_q0s_G4 (r : List A) (x : (Int × (List (Int × Int)) × (List (Int × Int)))) : Prop := f_q0s_L r 4 (f_q0s_s4 x.1 x.2.1 x.2.2) = some r
noncomputable def f_q0s_S4 (r : List A) : Bool → Prop := fun v => r = l_q0s v
theorem f_q0s_go4 (r : List A) : ∀ x, sem (f_q0s_S4 r) (f_q0s_run4 x) → f_q0s_G4 r x :=
 fun x => iter_sound (step := fun x => f_q0s_n4 x.1 x.2.1 x.2.2) (fun x h => by
  unfold f_q0s_n4 at h
  exact f_q0s_step4 x.1 x.2.1 x.2.2 r ((sem_cond h (fun h => (sem_cond h (fun h => (sem_cond h (fun h => (sem_cond h (fun h => sem_got h fun q => some_eq q) (fun h => sem_got h fun q => q))) (fun h => sem_none h))) (fun h => sem_none h))) (fun h => sem_got h fun q => some_eq q)))) FU x
noncomputable def s_q0s (a0 a1 : List (Int × Int)) : Option Bool := (cond (((List.length a0 : Nat) : Int) != ((List.length a1 : Nat) : Int)) (some false) (f_q0s_run4 (0, a0, a1)))
theorem f_q0s_top (a0 a1 : List (Int × Int)) (r : List A) : Tq f_q0s_X f_q0s_LV f_q0s_c f_q0s_rv r [.lst (.st [(.i .i8), (.i .u16)]) a0, .lst (.st [(.i .i8), (.i .u16)]) a1] = (cond (((List.length a0 : Nat) : Int) != ((List.length a1 : Nat) : Int)) (some [.v (.bool false)]) (f_q0s_L r 4 (f_q0s_s4 0 a0 a1))) := by kernel_rfl
theorem s_q0s_ok (a0 a1 : List (Int × Int)) (v : Bool) (h : s_q0s a0 a1 = some v) : (cond (((List.length a0 : Nat) : Int) != ((List.length a1 : Nat) : Int)) (some [.v (.bool false)]) (f_q0s_L (l_q0s v) 4 (f_q0s_s4 0 a0 a1))) = some (l_q0s v) := by
 replace h : sem (fun w => l_q0s v = l_q0s w) (s_q0s a0 a1) := ⟨v, h, rfl⟩
 unfold s_q0s at h
 exact (sem_cond h (fun h => sem_got h fun q => some_eq q) (fun h => f_q0s_go4 (l_q0s v) _ h))
noncomputable def c_q0s : List A → ACall
 | [.lst (.st [(.i .i8), (.i .u16)]) a0, .lst (.st [(.i .i8), (.i .u16)]) a1] => ⟨Bool, s_q0s a0 a1, fun r => .one (.v (.bool r))⟩
 | _ => ACall.fail
theorem f_q0s_sound : Sound Tryz.prog 59 c_q0s := by
 refine good f_q0s_ctx f_q0s_LV f_q0s_c f_q0s_rv 2 Tryz.func59 fun rs => ?_
 unfold c_q0s
 split
 ·rename_i a0 a1; intro v h; exact ⟨rfl, l_q0s v, rfl, (f_q0s_top a0 a1 _).trans (s_q0s_ok a0 a1 v h)⟩
 ·intro v h; cases h
noncomputable def f_q1t_c := codeC Tryz.f122
noncomputable def f_q1t_X : Ctx := ⟨TT, phiOf [], noPsi, noXi⟩
def f_q1t_LV : List (Nat × Keep) := [(4, ([0, 1, 5], [], []))]
def f_q1t_rv : List ResultVar := [.tmp 4]
noncomputable def f_q1t_L := Lq f_q1t_X f_q1t_LV f_q1t_c f_q1t_rv
theorem f_q1t_ctx : CtxOK Tryz.prog f_q1t_X := ctx_of tab mix trivial
noncomputable def f_q1t_s4 (x0 : Int) (x1 x2 : List Int) : AS := ⟨[(0, .a (.sl 0)), (1, .a (.sl 1)), (5, .a (.v (.int .i64 x0)))], [(0, some ⟨false, .arr (.one (.i .i64)) x1⟩), (1, some ⟨false, .arr (.one (.i .i64)) x2⟩)], 2⟩
noncomputable def l_q1t (r : Bool) : List A := [.v (.bool r)]
theorem f_q1t_step4 (x0 : Int) (x1 x2 : List Int) (r : List A) (h : (cond (decide (x0 < ((List.length x1 : Nat) : Int))) (cond (inB x0 (List.length x1)) (cond (inB x0 (List.length x2)) (cond ((List.getD x1 (Int.toNat x0) 0) != (List.getD x2 (Int.toNat x0) 0)) (some [.v (.bool false)]) (f_q1t_L r 4 (f_q1t_s4 (IntKind.wrap .i64 (x0 + 1)) x1 x2))) none) none) (some [.v (.bool true)])) = some r) : f_q1t_L r 4 (f_q1t_s4 x0 x1 x2) = some r :=
 step_of' h (by kernel_rfl)
noncomputable def f_q1t_n4 (x0 : Int) (x1 x2 : List Int) : Option ((Int × (List Int) × (List Int)) ⊕ Bool) := (cond (decide (x0 < ((List.length x1 : Nat) : Int))) (cond (inB x0 (List.length x1)) (cond (inB x0 (List.length x2)) (cond ((List.getD x1 (Int.toNat x0) 0) != (List.getD x2 (Int.toNat x0) 0)) (some (Sum.inr false)) (some (Sum.inl ((IntKind.wrap .i64 (x0 + 1)), x1, x2)))) none) none) (some (Sum.inr true)))
noncomputable def f_q1t_run4 (x : (Int × (List Int) × (List Int))) : Option Bool := iter (fun x => f_q1t_n4 x.1 x.2.1 x.2.2) FU x
noncomputable def f_q1t_G4 (r : List A) (x : (Int × (List Int) × (List Int))) : Prop := f_q1t_L r 4 (f_q1t_s4 x.1 x.2.1 x.2.2) = some r
noncomputable def f_q1t_S4 (r : List A) : Bool → Prop := fun v => r = l_q1t v
theorem f_q1t_go4 (r : List A) : ∀ x, sem (f_q1t_S4 r) (f_q1t_run4 x) → f_q1t_G4 r x :=
 fun x => iter_sound (step := fun x => f_q1t_n4 x.1 x.2.1 x.2.2) (fun x h => by
  unfold f_q1t_n4 at h
  exact f_q1t_step4 x.1 x.2.1 x.2.2 r ((sem_cond h (fun h => (sem_cond h (fun h => (sem_cond h (fun h => (sem_cond h (fun h => sem_got h fun q => some_eq q) (fun h => sem_got h fun q => q))) (fun h => sem_none h))) (fun h => sem_none h))) (fun h => sem_got h fun q => some_eq q)))) FU x
noncomputable def s_q1t (a0 a1 : List Int) : Option Bool := (cond (((List.length a0 : Nat) : Int) != ((List.length a1 : Nat) : Int)) (some false) (f_q1t_run4 (0, a0, a1)))
theorem f_q1t_top (a0 a1 : List Int) (r : List A) : Tq f_q1t_X f_q1t_LV f_q1t_c f_q1t_rv r [.lst (.one (.i .i64)) a0, .lst (.one (.i .i64)) a1] = (cond (((List.length a0 : Nat) : Int) != ((List.length a1 : Nat) : Int)) (some [.v (.bool false)]) (f_q1t_L r 4 (f_q1t_s4 0 a0 a1))) := by kernel_rfl
theorem s_q1t_ok (a0 a1 : List Int) (v : Bool) (h : s_q1t a0 a1 = some v) : (cond (((List.length a0 : Nat) : Int) != ((List.length a1 : Nat) : Int)) (some [.v (.bool false)]) (f_q1t_L (l_q1t v) 4 (f_q1t_s4 0 a0 a1))) = some (l_q1t v) := by
 replace h : sem (fun w => l_q1t v = l_q1t w) (s_q1t a0 a1) := ⟨v, h, rfl⟩
 unfold s_q1t at h
 exact (sem_cond h (fun h => sem_got h fun q => some_eq q) (fun h => f_q1t_go4 (l_q1t v) _ h))
noncomputable def c_q1t : List A → ACall
 | [.lst (.one (.i .i64)) a0, .lst (.one (.i .i64)) a1] => ⟨Bool, s_q1t a0 a1, fun r => .one (.v (.bool r))⟩
 | _ => ACall.fail
theorem f_q1t_sound : Sound Tryz.prog 122 c_q1t := by
 refine good f_q1t_ctx f_q1t_LV f_q1t_c f_q1t_rv 2 Tryz.func122 fun rs => ?_
 unfold c_q1t
 split
 ·rename_i a0 a1; intro v h; exact ⟨rfl, l_q1t v, rfl, (f_q1t_top a0 a1 _).trans (s_q1t_ok a0 a1 v h)⟩
 ·intro v h; cases h
noncomputable def f_q20_c := codeC Tryz.f61
noncomputable def f_q20_X : Ctx := ⟨TT, phiOf [(122, c_q1t)], noPsi, noXi⟩
def f_q20_LV : List (Nat × Keep) := []
def f_q20_rv : List ResultVar := [.tmp 4]
theorem f_q20_ctx : CtxOK Tryz.prog f_q20_X := ctx_of tab mix ⟨⟨Tryz.call122, f_q1t_sound⟩, trivial⟩
noncomputable def s_q20 (a0 a1 : List Int) : Option Bool := (Option.bind (s_q1t a0 a1) fun r1 => (some r1))
theorem f_q20_top (a0 a1 : List Int) (r : List A) : Tq f_q20_X f_q20_LV f_q20_c f_q20_rv r [.lst (.one (.i .i64)) a0, .lst (.one (.i .i64)) a1] = (Option.bind (s_q1t a0 a1) fun r1 => (some [.v (.bool r1)])) := by kernel_rfl
noncomputable def l_q20 (r : Bool) : List A := [.v (.bool r)]
theorem s_q20_ok (a0 a1 : List Int) (v : Bool) (h : s_q20 a0 a1 = some v) : (Option.bind (s_q1t a0 a1) fun r1 => (some [.v (.bool r1)])) = some (l_q20 v) := by
 refine Eq.trans (b := Option.map l_q20 (s_q20 a0 a1)) ?_ (by rw [h]; rfl)
 unfold s_q20
 exact (bind_app fun _ => rfl)
noncomputable def c_q20 : List A → ACall
 | [.lst (.one (.i .i64)) a0, .lst (.one (.i .i64)) a1] => ⟨Bool, s_q20 a0 a1, fun r => .one (.v (.bool r))⟩
 | _ => ACall.fail
theorem f_q20_sound : Sound Tryz.prog 61 c_q20 := by
 refine good f_q20_ctx f_q20_LV f_q20_c f_q20_rv 2 Tryz.func61 fun rs => ?_
 unfold c_q20
 split
 ·rename_i a0 a1; intro v h; exact ⟨rfl, l_q20 v, rfl, (f_q20_top a0 a1 _).trans (s_q20_ok a0 a1 v h)⟩
 ·intro v h; cases h
noncomputable def f_q0r_c := codeC Tryz.f62
noncomputable def f_q0r_X : Ctx := ⟨TT, phiOf [], noPsi, noXi⟩
def f_q0r_LV : List (Nat × Keep) := [(4, ([0, 1, 5], [], []))]
def f_q0r_rv : List ResultVar := [.tmp 4]
noncomputable def f_q0r_L := Lq f_q0r_X f_q0r_LV f_q0r_c f_q0r_rv
theorem f_q0r_ctx : CtxOK Tryz.prog f_q0r_X := ctx_of tab mix trivial
noncomputable def f_q0r_s4 (x0 : Int) (x1 x2 : List Int) : AS := ⟨[(0, .a (.sl 0)), (1, .a (.sl 1)), (5, .a (.v (.int .i64 x0)))], [(0, some ⟨false, .arr (.one (.i .u16)) x1⟩), (1, some ⟨false, .arr (.one (.i .u16)) x2⟩)], 2⟩
noncomputable def l_q0r (r : Bool) : List A := [.v (.bool r)]
theorem f_q0r_step4 (x0 : Int) (x1 x2 : List Int) (r : List A) (h : (cond (decide (x0 < ((List.length x1 : Nat) : Int))) (cond (inB x0 (List.length x1)) (cond (inB x0 (List.length x2)) (cond ((List.getD x1 (Int.toNat x0) 0) != (List.getD x2 (Int.toNat x0) 0)) (some [.v (.bool false)]) (f_q0r_L r 4 (f_q0r_s4 (IntKind.wrap .i64 (x0 + 1)) x1 x2))) none) none) (some [.v (.bool true)])) = some r) : f_q0r_L r 4 (f_q0r_s4 x0 x1 x2) = some r :=
 step_of' h (by kernel_rfl)
noncomputable def f_q0r_n4 (x0 : Int) (x1 x2 : List Int) : Option ((Int × (List Int) × (List Int)) ⊕ Bool) := (cond (decide (x0 < ((List.length x1 : Nat) : Int))) (cond (inB x0 (List.length x1)) (cond (inB x0 (List.length x2)) (cond ((List.getD x1 (Int.toNat x0) 0) != (List.getD x2 (Int.toNat x0) 0)) (some (Sum.inr false)) (some (Sum.inl ((IntKind.wrap .i64 (x0 + 1)), x1, x2)))) none) none) (some (Sum.inr true)))
noncomputable def f_q0r_run4 (x : (Int × (List Int) × (List Int))) : Option Bool := iter (fun x => f_q0r_n4 x.1 x.2.1 x.2.2) FU x
noncomputable def f_q0r_G4 (r : List A) (x : (Int × (List Int) × (List Int))) : Prop := f_q0r_L r 4 (f_q0r_s4 x.1 x.2.1 x.2.2) = some r
noncomputable def f_q0r_S4 (r : List A) : Bool → Prop := fun v => r = l_q0r v
theorem f_q0r_go4 (r : List A) : ∀ x, sem (f_q0r_S4 r) (f_q0r_run4 x) → f_q0r_G4 r x :=
 fun x => iter_sound (step := fun x => f_q0r_n4 x.1 x.2.1 x.2.2) (fun x h => by
  unfold f_q0r_n4 at h
  exact f_q0r_step4 x.1 x.2.1 x.2.2 r ((sem_cond h (fun h => (sem_cond h (fun h => (sem_cond h (fun h => (sem_cond h (fun h => sem_got h fun q => some_eq q) (fun h => sem_got h fun q => q))) (fun h => sem_none h))) (fun h => sem_none h))) (fun h => sem_got h fun q => some_eq q)))) FU x
noncomputable def s_q0r (a0 a1 : List Int) : Option Bool := (cond (((List.length a0 : Nat) : Int) != ((List.length a1 : Nat) : Int)) (some false) (f_q0r_run4 (0, a0, a1)))
theorem f_q0r_top (a0 a1 : List Int) (r : List A) : Tq f_q0r_X f_q0r_LV f_q0r_c f_q0r_rv r [.lst (.one (.i .u16)) a0, .lst (.one (.i .u16)) a1] = (cond (((List.length a0 : Nat) : Int) != ((List.length a1 : Nat) : Int)) (some [.v (.bool false)]) (f_q0r_L r 4 (f_q0r_s4 0 a0 a1))) := by kernel_rfl
theorem s_q0r_ok (a0 a1 : List Int) (v : Bool) (h : s_q0r a0 a1 = some v) : (cond (((List.length a0 : Nat) : Int) != ((List.length a1 : Nat) : Int)) (some [.v (.bool false)]) (f_q0r_L (l_q0r v) 4 (f_q0r_s4 0 a0 a1))) = some (l_q0r v) := by
 replace h : sem (fun w => l_q0r v = l_q0r w) (s_q0r a0 a1) := ⟨v, h, rfl⟩
 unfold s_q0r at h
 exact (sem_cond h (fun h => sem_got h fun q => some_eq q) (fun h => f_q0r_go4 (l_q0r v) _ h))
noncomputable def c_q0r : List A → ACall
 | [.lst (.one (.i .u16)) a0, .lst (.one (.i .u16)) a1] => ⟨Bool, s_q0r a0 a1, fun r => .one (.v (.bool r))⟩
 | _ => ACall.fail
theorem f_q0r_sound : Sound Tryz.prog 62 c_q0r := by
 refine good f_q0r_ctx f_q0r_LV f_q0r_c f_q0r_rv 2 Tryz.func62 fun rs => ?_
 unfold c_q0r
 split
 ·rename_i a0 a1; intro v h; exact ⟨rfl, l_q0r v, rfl, (f_q0r_top a0 a1 _).trans (s_q0r_ok a0 a1 v h)⟩
 ·intro v h; cases h
end Go.RR
namespace Go.RR
open Go Go.Proofs
noncomputable def f_q1w_c := codeC Tryz.f206
noncomputable def f_q1w_X : Ctx := ⟨TT, phiOf [(84, c_q1y)], noPsi, noXi⟩
def f_q1w_LV : List (Nat × Keep) := []
def f_q1w_rv : List ResultVar := [.tmp 8]
theorem f_q1w_ctx : CtxOK Tryz.prog f_q1w_X := ctx_of tab mix ⟨⟨Tryz.call84, f_q1y_sound⟩, trivial⟩
noncomputable def s_q1w (a0 a1 a2 a3 : Int) : Bool := (cond (s_q1y a0 0 (IntKind.wrap .i64 ((IntKind.wrap .i64 a2) - 1))) (s_q1y a1 0 (IntKind.wrap .i64 ((IntKind.wrap .i64 a3) - 1))) false)
theorem f_q1w_top (a0 a1 a2 a3 : Int) (r : List A) : Tq f_q1w_X f_q1w_LV f_q1w_c f_q1w_rv r [.v (.int .i64 a0), .v (.int .i64 a1), .v (.int .i8 a2), .v (.int .i8 a3)] = (cond (s_q1y a0 0 (IntKind.wrap .i64 ((IntKind.wrap .i64 a2) - 1))) (some [.v (.bool (s_q1y a1 0 (IntKind.wrap .i64 ((IntKind.wrap .i64 a3) - 1))))]) (some [.v (.bool false)])) := by kernel_rfl
noncomputable def l_q1w (r : Bool) : List A := [.v (.bool r)]
theorem s_q1w_ok (a0 a1 a2 a3 : Int) : (cond (s_q1y a0 0 (IntKind.wrap .i64 ((IntKind.wrap .i64 a2) - 1))) (some [.v (.bool (s_q1y a1 0 (IntKind.wrap .i64 ((IntKind.wrap .i64 a3) - 1))))]) (some [.v (.bool false)])) = some (l_q1w (s_q1w a0 a1 a2 a3)) := by
 unfold s_q1w
 exact (cond_app (fun x => some (l_q1w x)) rfl rfl)
noncomputable def c_q1w : List A → ACall
 | [.v (.int .i64 a0), .v (.int .i64 a1), .v (.int .i8 a2), .v (.int .i8 a3)] => ⟨Bool, some (s_q1w a0 a1 a2 a3), fun r => .one (.v (.bool r))⟩
 | _ => ACall.fail
theorem f_q1w_sound : Sound Tryz.prog 206 c_q1w := by
 refine good f_q1w_ctx f_q1w_LV f_q1w_c f_q1w_rv 4 Tryz.func206 fun rs => ?_
 unfold c_q1w
 split
 ·rename_i a0 a1 a2 a3; intro v h; cases h; exact ⟨rfl, l_q1w (s_q1w a0 a1 a2 a3), rfl, (f_q1w_top a0 a1 a2 a3 _).trans (s_q1w_ok a0 a1 a2 a3)⟩
 ·intro v h; cases h
noncomputable def f_q1u_c := codeC Tryz.f187
noncomputable def f_q1u_X : Ctx := ⟨TT, phiOf [(206, c_q1w)], noPsi, noXi⟩
def f_q1u_LV : List (Nat × Keep) := [(3, ([0, 1, 2, 7, 17, 18], [], []))]
def f_q1u_rv : List ResultVar := [.tmp 6]
noncomputable def f_q1u_L := Lq f_q1u_X f_q1u_LV f_q1u_c f_q1u_rv
theorem f_q1u_ctx : CtxOK Tryz.prog f_q1u_X := ctx_of tab mix ⟨⟨Tryz.call206, f_q1w_sound⟩, trivial⟩
noncomputable def f_q1u_s3 (x0 x1 x2 : Int) (x3 : (Nat → Nat → Int)) (x4 : Int) (x5 : List Int) : AS := ⟨[(0, .a (.v (.int .i64 x0))), (1, .a (.v (.int .i8 x1))), (2, .a (.v (.int .i8 x2))), (7, .a (.sl 0)), (17, .a (.fa2 4 2 .i64 x3)), (18, .a (.v (.int .i64 x4)))], [(0, some ⟨true, .arr (.one (.i .i64)) x5⟩)], 1⟩
abbrev A_q1u := (List Int)
noncomputable def l_q1u (r : List Int) : List A := [.lst (.one (.i .i64)) r]
abbrev Z_q1u_3 := (Int × Int × Int × (Nat → Nat → Int) × Int × (List Int))
abbrev Y_q1u_3 := A_q1u
section
variable {R R' : Type} {S : R → Prop} {r : R'} (E : A_q1u → Option R) (E' : A_q1u → Option R') (G3 : Z_q1u_3 → Option R) (G3' : Z_q1u_3 → Option R')
noncomputable def t_q1u_3 (x0 x1 x2 : Int) (x3 : (Nat → Nat → Int)) (x4 : Int) (x5 : List Int) : Option R := (cond (decide (x4 < 4)) (cond (inB x4 4) (cond (inB 0 2) (cond (inB 1 2) (cond (s_q1w (IntKind.wrap .i64 ((Int.tmod x0 12) + ((x3 (Int.toNat x4)) 0))) (IntKind.wrap .i64 ((IntKind.wrap .i64 (Int.tdiv x0 12)) + ((x3 (Int.toNat x4)) 1))) x1 x2) (cond (fits ((List.length (x5 : List Int) + List.length ([(IntKind.wrap .i64 ((IntKind.wrap .i64 ((Int.tmod x0 12) + ((x3 (Int.toNat x4)) 0))) + (IntKind.wrap .i64 (12 * (IntKind.wrap .i64 ((IntKind.wrap .i64 (Int.tdiv x0 12)) + ((x3 (Int.toNat x4)) 1)))))))] : List Int)) * 8)) (G3 (x0, x1, x2, x3, (IntKind.wrap .i64 (x4 + 1)), (x5 ++ [(IntKind.wrap .i64 ((IntKind.wrap .i64 ((Int.tmod x0 12) + ((x3 (Int.toNat x4)) 0))) + (IntKind.wrap .i64 (12 * (IntKind.wrap .i64 ((IntKind.wrap .i64 (Int.tdiv x0 12)) + ((x3 (Int.toNat x4)) 1)))))))]))) none) (G3 (x0, x1, x2, x3, (IntKind.wrap .i64 (x4 + 1)), x5))) none) none) none) (E x5))
theorem t_q1u_3_sem (x0 x1 x2 : Int) (x3 : (Nat → Nat → Int)) (x4 : Int) (x5 : List Int) (h : sem S (t_q1u_3 E G3 x0 x1 x2 x3 x4 x5)) (hE : Leads S r E E') (h3 : Leads S r G3 G3') : t_q1u_3 E' G3' x0 x1 x2 x3 x4 x5 = some r := by
 revert h
 unfold t_q1u_3
 repeat' first | refine sem_condK ?_ ?_ | refine sem_bindK fun _ => ?_ | exact sem_noneK | exact hE _ | exact h3 _ | refine sem_bind2K (fun _ => ?_) (fun _ => ?_)
noncomputable def t_q1u (a0 a1 a2 : Int) : Option R := (G3 (a0, a1, a2, (updR (updR (updR (updR zF2 0 (upd (upd zF 0 0) 1 (-1))) 1 (upd (upd zF 0 (-1)) 1 0)) 2 (upd (upd zF 0 1) 1 0)) 3 (upd (upd zF 0 0) 1 1)), 0, []))
theorem t_q1u_sem (a0 a1 a2 : Int) (h : sem S (t_q1u G3 a0 a1 a2)) (h3 : Leads S r G3 G3') : t_q1u G3' a0 a1 a2 = some r := by
 revert h
 unfold t_q1u
 repeat' first | refine sem_condK ?_ ?_ | refine sem_bindK fun _ => ?_ | exact sem_noneK | exact h3 _ | refine sem_bind2K (fun _ => ?_) (fun _ => ?_)
end
noncomputable def f_q1u_K3 (r : List A) (x : Z_q1u_3) : Option (List A) := f_q1u_L r 3 (f_q1u_s3 x.1 x.2.1 x.2.2.1 x.2.2.2.1 x.2.2.2.2.1 x.2.2.2.2.2)
theorem f_q1u_step3 (x0 x1 x2 : Int) (x3 : (Nat → Nat → Int)) (x4 : Int) (x5 : List Int) (r : List A) (h : t_q1u_3 (fun v => some (l_q1u v)) (f_q1u_K3 r) x0 x1 x2 x3 x4 x5 = some r) : f_q1u_L r 3 (f_q1u_s3 x0 x1 x2 x3 x4 x5) = some r :=
 step_of' h (by kernel_rfl)
noncomputable def f_q1u_n3 (x0 x1 x2 : Int) (x3 : (Nat → Nat → Int)) (x4 : Int) (x5 : List Int) : Option (Z_q1u_3 ⊕ Y_q1u_3) := t_q1u_3 (fun v => some (Sum.inr v)) (fun x => some (Sum.inl x)) x0 x1 x2 x3 x4 x5
noncomputable def f_q1u_run3 (x : Z_q1u_3) : Option Y_q1u_3 := iter (fun x => f_q1u_n3 x.1 x.2.1 x.2.2.1 x.2.2.2.1 x.2.2.2.2.1 x.2.2.2.2.2) FU x
noncomputable def f_q1u_G3 (r : List A) (x : Z_q1u_3) : Prop := f_q1u_K3 r x = some r
noncomputable def f_q1u_S3 (r : List A) : Y_q1u_3 → Prop := fun v => r = l_q1u v
theorem f_q1u_go3 (r : List A) : ∀ x, sem (f_q1u_S3 r) (f_q1u_run3 x) → f_q1u_G3 r x :=
 fun x => iter_sound (G := f_q1u_G3 r) (E := f_q1u_S3 r) (step := fun x => f_q1u_n3 x.1 x.2.1 x.2.2.1 x.2.2.2.1 x.2.2.2.2.1 x.2.2.2.2.2) (fun x h => f_q1u_step3 x.1 x.2.1 x.2.2.1 x.2.2.2.1 x.2.2.2.2.1 x.2.2.2.2.2 r (t_q1u_3_sem _ _ _ _ x.1 x.2.1 x.2.2.1 x.2.2.2.1 x.2.2.2.2.1 x.2.2.2.2.2 h (fun _ h => sem_got h fun q => some_eq q) (fun _ h => sem_got h fun q => q))) FU x
noncomputable def s_q1u (a0 a1 a2 : Int) : Option (List Int) := t_q1u f_q1u_run3 a0 a1 a2
theorem f_q1u_top (a0 a1 a2 : Int) (r : List A) : Tq f_q1u_X f_q1u_LV f_q1u_c f_q1u_rv r [.v (.int .i64 a0), .v (.int .i8 a1), .v (.int .i8 a2)] = t_q1u (f_q1u_K3 r) a0 a1 a2 := by kernel_rfl
theorem s_q1u_ok (a0 a1 a2 : Int) (v : List Int) (h : s_q1u a0 a1 a2 = some v) : t_q1u (f_q1u_K3 (l_q1u v)) a0 a1 a2 = some (l_q1u v) :=
 t_q1u_sem _ _ a0 a1 a2 (show sem (fun w => l_q1u v = l_q1u w) (s_q1u a0 a1 a2) from ⟨v, h, rfl⟩) (f_q1u_go3 (l_q1u v))
noncomputable def c_q1u : List A → ACall
 | [.v (.int .i64 a0), .v (.int .i8 a1), .v (.int .i8 a2)] => ⟨(List Int), s_q1u a0 a1 a2, fun r => .one (.lst (.one (.i .i64)) r)⟩
 | _ => ACall.fail
theorem f_q1u_sound : Sound Tryz.prog 187 c_q1u := by
 refine good f_q1u_ctx f_q1u_LV f_q1u_c f_q1u_rv 3 Tryz.func187 fun rs => ?_
 unfold c_q1u
 split
 ·rename_i a0 a1 a2; intro v h; exact ⟨rfl, l_q1u v, rfl, (f_q1u_top a0 a1 a2 _).trans (s_q1u_ok a0 a1 a2 v h)⟩
 ·intro v h; cases h
noncomputable def f_q0l_c := codeC Tryz.f184
noncomputable def f_q0l_X : Ctx := ⟨TT, phiOf [(206, c_q1w)], noPsi, noXi⟩
def f_q0l_LV : List (Nat × Keep) := []
def f_q0l_rv : List ResultVar := [.tmp 6]
theorem f_q0l_ctx : CtxOK Tryz.prog f_q0l_X := ctx_of tab mix ⟨⟨Tryz.call206, f_q1w_sound⟩, trivial⟩
noncomputable def s_q0l (a0 a1 : Int) (a2 : Nat → Int) (a3 a4 : Int) : Bool := (s_q1w a3 a4 a0 a1)
theorem f_q0l_top (a0 a1 : Int) (a2 : Nat → Int) (a3 a4 : Int) (r : List A) : Tq f_q0l_X f_q0l_LV f_q0l_c f_q0l_rv r [.rc [.v (.int .i8 a0), .v (.int .i8 a1), .fa 144 .u8 a2], .v (.int .i64 a3), .v (.int .i64 a4)] = (some [.v (.bool (s_q1w a3 a4 a0 a1))]) := by kernel_rfl
noncomputable def l_q0l (r : Bool) : List A := [.v (.bool r)]
theorem s_q0l_ok (a0 a1 : Int) (a2 : Nat → Int) (a3 a4 : Int) : (some [.v (.bool (s_q1w a3 a4 a0 a1))]) = some (l_q0l (s_q0l a0 a1 a2 a3 a4)) := by
 unfold s_q0l
 exact rfl
noncomputable def c_q0l : List A → ACall
 | [.rc [.v (.int .i8 a0), .v (.int .i8 a1), .fa 144 .u8 a2], .v (.int .i64 a3), .v (.int .i64 a4)] => ⟨Bool, some (s_q0l a0 a1 a2 a3 a4), fun r => .one (.v (.bool r))⟩
 | _ => ACall.fail
theorem f_q0l_sound : Sound Tryz.prog 184 c_q0l := by
 refine good f_q0l_ctx f_q0l_LV f_q0l_c f_q0l_rv 3 Tryz.func184 fun rs => ?_
 unfold c_q0l
 split
 ·rename_i a0 a1 a2 a3 a4; intro v h; cases h; exact ⟨rfl, l_q0l (s_q0l a0 a1 a2 a3 a4), rfl, (f_q0l_top a0 a1 a2 a3 a4 _).trans (s_q0l_ok a0 a1 a2 a3 a4)⟩
 ·intro v h; cases h
noncomputable def f_q28_c := codeC Tryz.f181
noncomputable def f_q28_X : Ctx := ⟨TT, phiOf [(101, c_q27)], noPsi, noXi⟩
def f_q28_LV : List (Nat × Keep) := []
def f_q28_rv : List ResultVar := [.tmp 4]
theorem f_q28_ctx : CtxOK Tryz.prog f_q28_X := ctx_of tab mix ⟨⟨Tryz.call101, f_q27_sound⟩, trivial⟩
noncomputable def s_q28 (a0 a1 : Int) (a2 : Nat → Int) (a3 : Int) : Bool := (cond (s_q27 a3 0 143) (cond (decide ((Int.tmod a3 12) < (IntKind.wrap .i64 a0))) (decide ((IntKind.wrap .i64 (Int.tdiv a3 12)) < (IntKind.wrap .i64 a1))) false) false)
theorem f_q28_top (a0 a1 : Int) (a2 : Nat → Int) (a3 : Int) (r : List A) : Tq f_q28_X f_q28_LV f_q28_c f_q28_rv r [.ref (.rc [.v (.int .i8 a0), .v (.int .i8 a1), .fa 144 .u8 a2]), .v (.int .i64 a3)] = (cond (s_q27 a3 0 143) (cond (decide ((Int.tmod a3 12) < (IntKind.wrap .i64 a0))) (some [.v (.bool (decide ((IntKind.wrap .i64 (Int.tdiv a3 12)) < (IntKind.wrap .i64 a1))))]) (some [.v (.bool false)])) (some [.v (.bool false)])) := by kernel_rfl
noncomputable def l_q28 (r : Bool) : List A := [.v (.bool r)]
theorem s_q28_ok (a0 a1 : Int) (a2 : Nat → Int) (a3 : Int) : (cond (s_q27 a3 0 143) (cond (decide ((Int.tmod a3 12) < (IntKind.wrap .i64 a0))) (some [.v (.bool (decide ((IntKind.wrap .i64 (Int.tdiv a3 12)) < (IntKind.wrap .i64 a1))))]) (some [.v (.bool false)])) (some [.v (.bool false)])) = some (l_q28 (s_q28 a0 a1 a2 a3)) := by
 unfold s_q28
 exact (cond_app (fun x => some (l_q28 x)) (cond_app (fun x => some (l_q28 x)) rfl rfl) rfl)
noncomputable def c_q28 : List A → ACall
 | [.ref (.rc [.v (.int .i8 a0), .v (.int .i8 a1), .fa 144 .u8 a2]), .v (.int .i64 a3)] => ⟨Bool, some (s_q28 a0 a1 a2 a3), fun r => .one (.v (.bool r))⟩
 | _ => ACall.fail
theorem f_q28_sound : Sound Tryz.prog 181 c_q28 := by
 refine good f_q28_ctx f_q28_LV f_q28_c f_q28_rv 2 Tryz.func181 fun rs => ?_
 unfold c_q28
 split
 ·rename_i a0 a1 a2 a3; intro v h; cases h; exact ⟨rfl, l_q28 (s_q28 a0 a1 a2 a3), rfl, (f_q28_top a0 a1 a2 a3 _).trans (s_q28_ok a0 a1 a2 a3)⟩
 ·intro v h; cases h
noncomputable def f_q16_c := codeC Tryz.f154
noncomputable def f_q16_X : Ctx := ⟨TT, phiOf [], noPsi, noXi⟩
def f_q16_LV : List (Nat × Keep) := []
def f_q16_rv : List ResultVar := [.tmp 4]
theorem f_q16_ctx : CtxOK Tryz.prog f_q16_X := ctx_of tab mix trivial
abbrev A_q16 := (List Int)
noncomputable def l_q16 (r : List Int) : List A := [.lst (.one (.i .i64)) r]
section
variable {R R' : Type} {S : R → Prop} {r : R'} (E : A_q16 → Option R) (E' : A_q16 → Option R')
noncomputable def t_q16 (a0 a1 : Int) (a2 : Nat → Int) (a3 : Int) : Option R := (cond (decide ((IntKind.wrap .i64 (Int.tdiv a3 12)) > 0)) (cond (fits ((List.length ([] : List Int) + List.length ([(IntKind.wrap .i64 (a3 - 12))] : List Int)) * 8)) (cond (decide ((Int.tmod a3 12) > 0)) (cond (fits ((List.length (([] ++ [(IntKind.wrap .i64 (a3 - 12))]) : List Int) + List.length ([(IntKind.wrap .i64 (a3 - 1))] : List Int)) * 8)) (cond (decide ((IntKind.wrap .i64 ((Int.tmod a3 12) + 1)) < (IntKind.wrap .i64 a0))) (cond (fits ((List.length ((([] ++ [(IntKind.wrap .i64 (a3 - 12))]) ++ [(IntKind.wrap .i64 (a3 - 1))]) : List Int) + List.length ([(IntKind.wrap .i64 (a3 + 1))] : List Int)) * 8)) (cond (decide ((IntKind.wrap .i64 ((IntKind.wrap .i64 (Int.tdiv a3 12)) + 1)) < (IntKind.wrap .i64 a1))) (cond (fits ((List.length (((([] ++ [(IntKind.wrap .i64 (a3 - 12))]) ++ [(IntKind.wrap .i64 (a3 - 1))]) ++ [(IntKind.wrap .i64 (a3 + 1))]) : List Int) + List.length ([(IntKind.wrap .i64 (a3 + 12))] : List Int)) * 8)) (E (((([] ++ [(IntKind.wrap .i64 (a3 - 12))]) ++ [(IntKind.wrap .i64 (a3 - 1))]) ++ [(IntKind.wrap .i64 (a3 + 1))]) ++ [(IntKind.wrap .i64 (a3 + 12))])) none) (E ((([] ++ [(IntKind.wrap .i64 (a3 - 12))]) ++ [(IntKind.wrap .i64 (a3 - 1))]) ++ [(IntKind.wrap .i64 (a3 + 1))]))) none) (cond (decide ((IntKind.wrap .i64 ((IntKind.wrap .i64 (Int.tdiv a3 12)) + 1)) < (IntKind.wrap .i64 a1))) (cond (fits ((List.length ((([] ++ [(IntKind.wrap .i64 (a3 - 12))]) ++ [(IntKind.wrap .i64 (a3 - 1))]) : List Int) + List.length ([(IntKind.wrap .i64 (a3 + 12))] : List Int)) * 8)) (E ((([] ++ [(IntKind.wrap .i64 (a3 - 12))]) ++ [(IntKind.wrap .i64 (a3 - 1))]) ++ [(IntKind.wrap .i64 (a3 + 12))])) none) (E (([] ++ [(IntKind.wrap .i64 (a3 - 12))]) ++ [(IntKind.wrap .i64 (a3 - 1))])))) none) (cond (decide ((IntKind.wrap .i64 ((Int.tmod a3 12) + 1)) < (IntKind.wrap .i64 a0))) (cond (fits ((List.length (([] ++ [(IntKind.wrap .i64 (a3 - 12))]) : List Int) + List.length ([(IntKind.wrap .i64 (a3 + 1))] : List Int)) * 8)) (cond (decide ((IntKind.wrap .i64 ((IntKind.wrap .i64 (Int.tdiv a3 12)) + 1)) < (IntKind.wrap .i64 a1))) (cond (fits ((List.length ((([] ++ [(IntKind.wrap .i64 (a3 - 12))]) ++ [(IntKind.wrap .i64 (a3 + 1))]) : List Int) + List.length ([(IntKind.wrap .i64 (a3 + 12))] : List Int)) * 8)) (E ((([] ++ [(IntKind.wrap .i64 (a3 - 12))]) ++ [(IntKind.wrap .i64 (a3 + 1))]) ++ [(IntKind.wrap .i64 (a3 + 12))])) none) (E (([] ++ [(IntKind.wrap .i64 (a3 - 12))]) ++ [(IntKind.wrap .i64 (a3 + 1))]))) none) (cond (decide ((IntKind.wrap .i64 ((IntKind.wrap .i64 (Int.tdiv a3 12)) + 1)) < (IntKind.wrap .i64 a1))) (cond (fits ((List.length (([] ++ [(IntKind.wrap .i64 (a3 - 12))]) : List Int) + List.length ([(IntKind.wrap .i64 (a3 + 12))] : List Int)) * 8)) (E (([] ++ [(IntKind.wrap .i64 (a3 - 12))]) ++ [(IntKind.wrap .i64 (a3 + 12))])) none) (E ([] ++ [(IntKind.wrap .i64 (a3 - 12))]))))) none) (cond (decide ((Int.tmod a3 12) > 0)) (cond (fits ((List.length ([] : List Int) + List.length ([(IntKind.wrap .i64 (a3 - 1))] : List Int)) * 8)) (cond (decide ((IntKind.wrap .i64 ((Int.tmod a3 12) + 1)) < (IntKind.wrap .i64 a0))) (cond (fits ((List.length (([] ++ [(IntKind.wrap .i64 (a3 - 1))]) : List Int) + List.length ([(IntKind.wrap .i64 (a3 + 1))] : List Int)) * 8)) (cond (decide ((IntKind.wrap .i64 ((IntKind.wrap .i64 (Int.tdiv a3 12)) + 1)) < (IntKind.wrap .i64 a1))) (cond (fits ((List.length ((([] ++ [(IntKind.wrap .i64 (a3 - 1))]) ++ [(IntKind.wrap .i64 (a3 + 1))]) : List Int) + List.length ([(IntKind.wrap .i64 (a3 + 12))] : List Int)) * 8)) (E ((([] ++ [(IntKind.wrap .i64 (a3 - 1))]) ++ [(IntKind.wrap .i64 (a3 + 1))]) ++ [(IntKind.wrap .i64 (a3 + 12))])) none) (E (([] ++ [(IntKind.wrap .i64 (a3 - 1))]) ++ [(IntKind.wrap .i64 (a3 + 1))]))) none) (cond (decide ((IntKind.wrap .i64 ((IntKind.wrap .i64 (Int.tdiv a3 12)) + 1)) < (IntKind.wrap .i64 a1))) (cond (fits ((List.length (([] ++ [(IntKind.wrap .i64 (a3 - 1))]) : List Int) + List.length ([(IntKind.wrap .i64 (a3 + 12))] : List Int)) * 8)) (E (([] ++ [(IntKind.wrap .i64 (a3 - 1))]) ++ [(IntKind.wrap .i64 (a3 + 12))])) none) (E ([] ++ [(IntKind.wrap .i64 (a3 - 1))])))) none) (cond (decide ((IntKind.wrap .i64 ((Int.tmod a3 12) + 1)) < (IntKind.wrap .i64 a0))) (cond (fits ((List.length ([] : List Int) + List.length ([(IntKind.wrap .i64 (a3 + 1))] : List Int)) * 8)) (cond (decide ((IntKind.wrap .i64 ((IntKind.wrap .i64 (Int.tdiv a3 12)) + 1)) < (IntKind.wrap .i64 a1))) (cond (fits ((List.length (([] ++ [(IntKind.wrap .i64 (a3 + 1))]) : List Int) + List.length ([(IntKind.wrap .i64 (a3 + 12))] : List Int)) * 8)) (E (([] ++ [(IntKind.wrap .i64 (a3 + 1))]) ++ [(IntKind.wrap .i64 (a3 + 12))])) none) (E ([] ++ [(IntKind.wrap .i64 (a3 + 1))]))) none) (cond (decide ((IntKind.wrap .i64 ((IntKind.wrap .i64 (Int.tdiv a3 12)) + 1)) < (IntKind.wrap .i64 a1))) (cond (fits ((List.length ([] : List Int) + List.length ([(IntKind.wrap .i64 (a3 + 12))] : List Int)) * 8)) (E ([] ++ [(IntKind.wrap .i64 (a3 + 12))])) none) (E [])))))
theorem t_q16_sem (a0 a1 : Int) (a2 : Nat → Int) (a3 : Int) (h : sem S (t_q16 E a0 a1 a2 a3)) (hE : Leads S r E E') : t_q16 E' a0 a1 a2 a3 = some r := by
 revert h
 unfold t_q16
 repeat' first | refine sem_condK ?_ ?_ | refine sem_bindK fun _ => ?_ | exact sem_noneK | exact hE _ | refine sem_bind2K (fun _ => ?_) (fun _ => ?_)
end
noncomputable def s_q16 (a0 a1 : Int) (a2 : Nat → Int) (a3 : Int) : Option (List Int) := t_q16 some a0 a1 a2 a3
theorem f_q16_top (a0 a1 : Int) (a2 : Nat → Int) (a3 : Int) (r : List A) : Tq f_q16_X f_q16_LV f_q16_c f_q16_rv r [.ref (.rc [.v (.int .i8 a0), .v (.int .i8 a1), .fa 144 .u8 a2]), .v (.int .i64 a3)] = t_q16 (fun v => some (l_q16 v)) a0 a1 a2 a3 := by kernel_rfl
theorem s_q16_ok (a0 a1 : Int) (a2 : Nat → Int) (a3 : Int) (v : List Int) (h : s_q16 a0 a1 a2 a3 = some v) : t_q16 (fun v => some (l_q16 v)) a0 a1 a2 a3 = some (l_q16 v) :=
 t_q16_sem _ _ a0 a1 a2 a3 (show sem (fun w => l_q16 v = l_q16 w) (s_q16 a0 a1 a2 a3) from ⟨v, h, rfl⟩) (fun _ h => sem_got h fun q => some_eq q)
noncomputable def c_q16 : List A → ACall
 | [.ref (.rc [.v (.int .i8 a0), .v (.int .i8 a1), .fa 144 .u8 a2]), .v (.int .i64 a3)] => ⟨(List Int), s_q16 a0 a1 a2 a3, fun r => .one (.lst (.one (.i .i64)) r)⟩
 | _ => ACall.fail
theorem f_q16_sound : Sound Tryz.prog 154 c_q16 := by
 refine good f_q16_ctx f_q16_LV f_q16_c f_q16_rv 2 Tryz.func154 fun rs => ?_
 unfold c_q16
 split
 ·rename_i a0 a1 a2 a3; intro v h; exact ⟨rfl, l_q16 v, rfl, (f_q16_top a0 a1 a2 a3 _).trans (s_q16_ok a0 a1 a2 a3 v h)⟩
 ·intro v h; cases h
noncomputable def f_q18_c := codeC Tryz.f190
noncomputable def f_q18_X : Ctx := ⟨TT, phiOf [], noPsi, noXi⟩
def f_q18_LV : List (Nat × Keep) := [(3, ([0, 3, 4], [], []))]
def f_q18_rv : List ResultVar := [.tmp 2]
noncomputable def f_q18_L := Lq f_q18_X f_q18_LV f_q18_c f_q18_rv
theorem f_q18_ctx : CtxOK Tryz.prog f_q18_X := ctx_of tab mix trivial
noncomputable def f_q18_s3 (x0 : Int) (x1 : (Nat → Bool)) (x2 : List Int) : AS := ⟨[(0, .a (.ptr 0 [] (0))), (3, .a (.sl 1)), (4, .a (.v (.int .i64 x0)))], [(0, some ⟨false, .box (.fb 144 x1)⟩), (1, some ⟨true, .arr (.one (.i .i64)) x2⟩)], 2⟩
noncomputable def l_q18 (r : List Int) : List A := [.lst (.one (.i .i64)) r]
theorem f_q18_step3 (x0 : Int) (x1 : (Nat → Bool)) (x2 : List Int) (r : List A) (h : (cond (decide (x0 < 144)) (cond (inB x0 144) (cond (x1 (Int.toNat x0)) (cond (fits ((List.length (x2 : List Int) + List.length ([x0] : List Int)) * 8)) (f_q18_L r 3 (f_q18_s3 (IntKind.wrap .i64 (x0 + 1)) x1 (x2 ++ [x0]))) none) (f_q18_L r 3 (f_q18_s3 (IntKind.wrap .i64 (x0 + 1)) x1 x2))) none) (some [.lst (.one (.i .i64)) x2])) = some r) : f_q18_L r 3 (f_q18_s3 x0 x1 x2) = some r :=
 step_of' h (by kernel_rfl)
noncomputable def f_q18_n3 (x0 : Int) (x1 : (Nat → Bool)) (x2 : List Int) : Option ((Int × (Nat → Bool) × (List Int)) ⊕ (List Int)) := (cond (decide (x0 < 144)) (cond (inB x0 144) (cond (x1 (Int.toNat x0)) (cond (fits ((List.length (x2 : List Int) + List.length ([x0] : List Int)) * 8)) (some (Sum.inl ((IntKind.wrap .i64 (x0 + 1)), x1, (x2 ++ [x0])))) none) (some (Sum.inl ((IntKind.wrap .i64 (x0 + 1)), x1, x2)))) none) (some (Sum.inr x2)))
noncomputable def f_q18_run3 (x : (Int × (Nat → Bool) × (List Int))) : Option (List Int) := iter (fun x => f_q18_n3 x.1 x.2.1 x.2.2) FU x
noncomputable def f_q18_G3 (r : List A) (x : (Int × (Nat → Bool) × (List Int))) : Prop := f_q18_L r 3 (f_q18_s3 x.1 x.2.1 x.2.2) = some r
noncomputable def f_q18_S3 (r : List A) : (List Int) → Prop := fun v => r = l_q18 v
theorem f_q18_go3 (r : List A) : ∀ x, sem (f_q18_S3 r) (f_q18_run3 x) → f_q18_G3 r x :=
 fun x => iter_sound (step := fun x => f_q18_n3 x.1 x.2.1 x.2.2) (fun x h => by
  unfold f_q18_n3 at h
  exact f_q18_step3 x.1 x.2.1 x.2.2 r ((sem_cond h (fun h => (sem_cond h (fun h => (sem_cond h (fun h => (sem_cond h (fun h => sem_got h fun q => q) (fun h => sem_none h))) (fun h => sem_got h fun q => q))) (fun h => sem_none h))) (fun h => sem_got h fun q => some_eq q)))) FU x
noncomputable def s_q18 (a0 : (Nat → Bool)) : Option (List Int) := (f_q18_run3 (0, a0, []))
theorem f_q18_top (a0 : (Nat → Bool)) (r : List A) : Tq f_q18_X f_q18_LV f_q18_c f_q18_rv r [.ref (.fb 144 a0)] = (f_q18_L r 3 (f_q18_s3 0 a0 [])) := by kernel_rfl
theorem s_q18_ok (a0 : (Nat → Bool)) (v : List Int) (h : s_q18 a0 = some v) : (f_q18_L (l_q18 v) 3 (f_q18_s3 0 a0 [])) = some (l_q18 v) := by
 replace h : sem (fun w => l_q18 v = l_q18 w) (s_q18 a0) := ⟨v, h, rfl⟩
 unfold s_q18 at h
 exact f_q18_go3 (l_q18 v) _ h
noncomputable def c_q18 : List A → ACall
 | [.ref (.fb 144 a0)] => ⟨(List Int), s_q18 a0, fun r => .one (.lst (.one (.i .i64)) r)⟩
 | _ => ACall.fail
theorem f_q18_sound : Sound Tryz.prog 190 c_q18 := by
 refine good f_q18_ctx f_q18_LV f_q18_c f_q18_rv 1 Tryz.func190 fun rs => ?_
 unfold c_q18
 split
 ·rename_i a0; intro v h; exact ⟨rfl, l_q18 v, rfl, (f_q18_top a0 _).trans (s_q18_ok a0 v h)⟩
 ·intro v h; cases h
end Go.RR
