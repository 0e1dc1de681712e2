/- Jobs for fields. -/
import Derived.Test.YtbmaolhjplapoaaGreatDoorVg
import Derived.Test.YtbmaolhjplapoaaGreatDoorDn
set_option linter.unusedVariables false
set_option linter.unusedSimpArgs false
set_option linter.unusedSectionVars false
set_option maxRecDepth 100000
namespace Go.RR
open Go Go.Proofs
noncomputable def hWeak : HCon := fun _ _ => HAns.fail
theorem fWeak_sound : HSound Tryz.prog 3 hWeak := sound_noneH fun _ _ => rfl
noncomputable def f_q1r_c := codeC Tryz.f69
noncomputable def f_q1r_X : Ctx := ⟨TT, phiOf [(101, c_q27), (152, c_q29), (153, c_q17), (154, c_q16)], noPsi, (xiOf [(3, hWeak)])⟩
def f_q1r_LV : List (Nat × Keep) := [(9, ([1, 2, 6, 7, 8, 9], [], [])), (13, ([1, 2, 6, 7, 8, 9, 10], [], [])), (21, ([1, 2, 7, 8, 11, 12], [], [])), (28, ([1, 2, 7, 8, 11, 12, 14, 15], [], [])), (32, ([1, 2, 7, 8, 11, 12, 14, 15, 16, 17], [], []))]
def f_q1r_rv : List ResultVar := [.tmp 4, .tmp 5]
noncomputable def f_q1r_L := Lq f_q1r_X f_q1r_LV f_q1r_c f_q1r_rv
theorem f_q1r_ctx : CtxOK Tryz.prog f_q1r_X := ctx_ofH tab mix (l := [(101, c_q27), (152, c_q29), (153, c_q17), (154, c_q16)]) ⟨⟨Tryz.call101, f_q27_sound⟩, ⟨Tryz.call152, f_q29_sound⟩, ⟨Tryz.call153, f_q17_sound⟩, ⟨Tryz.call154, f_q16_sound⟩, trivial⟩ psi_no (xi_ok (l := [(3, hWeak)]) ⟨⟨Tryz.call3, fWeak_sound⟩, trivial⟩)
noncomputable def f_q1r_s9 (x0 x1 x2 x3 : Int) (x4 : Nat → Int) (x5 : (List (List Int))) (x6 : (List (List Int))) (x7 : Nat → Int) : AS := ⟨[(1, .a (.v (.int .i64 x0))), (2, .a (.ptr 0 [] (0))), (6, .a (.sl 1)), (7, .a (.sl 2)), (8, .a (.ptr 3 [] (0))), (9, .a (.v (.int .i64 x1)))], [(0, some ⟨true, .box (.rc [.v (.int .i8 x2), .v (.int .i8 x3), .fa 144 .u8 x4])⟩), (1, some ⟨true, .arr (.one (.ls .i64)) x5⟩), (2, some ⟨true, .arr (.one (.ls .i64)) x6⟩), (3, some ⟨true, .box (.fa 144 .i64 x7)⟩)], 4⟩
noncomputable def f_q1r_s13 (x0 x1 x2 x3 x4 : Int) (x5 : Nat → Int) (x6 : (List (List Int))) (x7 : (List (List Int))) (x8 : Nat → Int) : AS := ⟨[(1, .a (.v (.int .i64 x0))), (2, .a (.ptr 0 [] (0))), (6, .a (.sl 1)), (7, .a (.sl 2)), (8, .a (.ptr 3 [] (0))), (9, .a (.v (.int .i64 x1))), (10, .a (.v (.int .i64 x2)))], [(0, some ⟨true, .box (.rc [.v (.int .i8 x3), .v (.int .i8 x4), .fa 144 .u8 x5])⟩), (1, some ⟨true, .arr (.one (.ls .i64)) x6⟩), (2, some ⟨true, .arr (.one (.ls .i64)) x7⟩), (3, some ⟨true, .box (.fa 144 .i64 x8)⟩)], 4⟩
noncomputable def f_q1r_s21 (x0 x1 x2 x3 : Int) (x4 : Nat → Int) (x5 : (List (List Int))) (x6 : Nat → Int) (x7 : List (Int × Int)) : AS := ⟨[(1, .a (.v (.int .i64 x0))), (2, .a (.ptr 0 [] (0))), (7, .a (.sl 1)), (8, .a (.ptr 2 [] (0))), (11, .a (.sl 3)), (12, .a (.v (.int .i64 x1)))], [(0, some ⟨true, .box (.rc [.v (.int .i8 x2), .v (.int .i8 x3), .fa 144 .u8 x4])⟩), (1, some ⟨true, .arr (.one (.ls .i64)) x5⟩), (2, some ⟨true, .box (.fa 144 .i64 x6)⟩), (3, some ⟨true, .arr (.st [(.i .i8), (.i .u16)]) x7⟩)], 4⟩
noncomputable def f_q1r_s28 (x0 x1 x2 x3 x4 : Int) (x5 : Nat → Int) (x6 : (List (List Int))) (x7 : Nat → Int) (x8 : List (Int × Int)) (x9 x10 : Int) : AS := ⟨[(1, .a (.v (.int .i64 x0))), (2, .a (.ptr 0 [] (0))), (7, .a (.sl 1)), (8, .a (.ptr 2 [] (0))), (11, .a (.sl 3)), (12, .a (.v (.int .i64 x1))), (14, .a (.ptr 4 [] (0))), (15, .a (.v (.int .i64 x2)))], [(0, some ⟨true, .box (.rc [.v (.int .i8 x3), .v (.int .i8 x4), .fa 144 .u8 x5])⟩), (1, some ⟨true, .arr (.one (.ls .i64)) x6⟩), (2, some ⟨true, .box (.fa 144 .i64 x7)⟩), (3, some ⟨true, .arr (.st [(.i .i8), (.i .u16)]) x8⟩), (4, some ⟨true, .box (.rc [.v (.int .i8 x9), .v (.int .u16 x10)])⟩)], 5⟩
noncomputable def f_q1r_s32 (x0 x1 x2 x3 x4 x5 : Int) (x6 : Nat → Int) (x7 : (List (List Int))) (x8 : Nat → Int) (x9 : List (Int × Int)) (x10 x11 : Int) (x12 : List Int) : AS := ⟨[(1, .a (.v (.int .i64 x0))), (2, .a (.ptr 0 [] (0))), (7, .a (.sl 1)), (8, .a (.ptr 2 [] (0))), (11, .a (.sl 3)), (12, .a (.v (.int .i64 x1))), (14, .a (.ptr 4 [] (0))), (15, .a (.v (.int .i64 x2))), (16, .a (.sl 5)), (17, .a (.v (.int .i64 x3)))], [(0, some ⟨true, .box (.rc [.v (.int .i8 x4), .v (.int .i8 x5), .fa 144 .u8 x6])⟩), (1, some ⟨true, .arr (.one (.ls .i64)) x7⟩), (2, some ⟨true, .box (.fa 144 .i64 x8)⟩), (3, some ⟨true, .arr (.st [(.i .i8), (.i .u16)]) x9⟩), (4, some ⟨true, .box (.rc [.v (.int .i8 x10), .v (.int .u16 x11)])⟩), (5, some ⟨true, .arr (.one (.i .i64)) x12⟩)], 6⟩
abbrev A_q1r := ((List (Int × Int)) × Int)
noncomputable def l_q1r (r : ((List (Int × Int)) × Int)) : List A := [.lst (.st [(.i .i8), (.i .u16)]) r.1, .v (.int .i64 r.2)]
abbrev Z_q1r_9 := (Int × Int × Int × Int × (Nat → Int) × (List (List Int)) × (List (List Int)) × (Nat → Int))
abbrev Y_q1r_9 := A_q1r
abbrev Z_q1r_21 := (Int × Int × Int × Int × (Nat → Int) × (List (List Int)) × (Nat → Int) × (List (Int × Int)))
abbrev Y_q1r_21 := A_q1r
abbrev Z_q1r_13 := (Int × Int × Int × Int × Int × (Nat → Int) × (List (List Int)) × (List (List Int)) × (Nat → Int))
abbrev Y_q1r_13 := (Z_q1r_9 ⊕ Y_q1r_9)
abbrev Z_q1r_28 := (Int × Int × Int × Int × Int × (Nat → Int) × (List (List Int)) × (Nat → Int) × (List (Int × Int)) × Int × Int)
abbrev Y_q1r_28 := (Z_q1r_21 ⊕ Y_q1r_21)
abbrev Z_q1r_32 := (Int × Int × Int × Int × Int × Int × (Nat → Int) × (List (List Int)) × (Nat → Int) × (List (Int × Int)) × Int × Int × (List Int))
abbrev Y_q1r_32 := (Z_q1r_28 ⊕ Y_q1r_28)
section
variable {R R' : Type} {S : R → Prop} {r : R'} (E : A_q1r → Option R) (E' : A_q1r → Option R') (G9 : Z_q1r_9 → Option R) (G9' : Z_q1r_9 → Option R') (G13 : Z_q1r_13 → Option R) (G13' : Z_q1r_13 → Option R') (G21 : Z_q1r_21 → Option R) (G21' : Z_q1r_21 → Option R') (G28 : Z_q1r_28 → Option R) (G28' : Z_q1r_28 → Option R') (G32 : Z_q1r_32 → Option R) (G32' : Z_q1r_32 → Option R')
noncomputable def t_q1r_9 (x0 x1 x2 x3 : Int) (x4 : Nat → Int) (x5 x6 : (List (List Int))) (x7 : Nat → Int) : Option R := (cond (decide (x1 < ((List.length x5 : Nat) : Int))) (cond (inB x1 (List.length x5)) (cond (inB 0 (List.length (List.getD x5 (Int.toNat x1) ([] : List Int)))) (cond (inB (List.getD (List.getD x5 (Int.toNat x1) ([] : List Int)) 0 0) 144) (cond ((x4 (Int.toNat (List.getD (List.getD x5 (Int.toNat x1) ([] : List Int)) 0 0))) == 0) (G9 (x0, (IntKind.wrap .i64 (x1 + 1)), x2, x3, x4, x5, x6, x7)) (G13 (x0, x1, 0, x2, x3, x4, x5, x6, x7))) none) none) none) (cond (decide (((List.length x6 : Nat) : Int) > 12)) (E ([], 3)) (G21 (x0, 0, x2, x3, x4, x6, x7, []))))
theorem t_q1r_9_sem (x0 x1 x2 x3 : Int) (x4 : Nat → Int) (x5 x6 : (List (List Int))) (x7 : Nat → Int) (h : sem S (t_q1r_9 E G9 G13 G21 x0 x1 x2 x3 x4 x5 x6 x7)) (hE : Leads S r E E') (h9 : Leads S r G9 G9') (h13 : Leads S r G13 G13') (h21 : Leads S r G21 G21') : t_q1r_9 E' G9' G13' G21' x0 x1 x2 x3 x4 x5 x6 x7 = some r := by
 revert h
 unfold t_q1r_9
 repeat' first | refine sem_condK ?_ ?_ | refine sem_bindK fun _ => ?_ | exact sem_noneK | exact hE _ | exact h9 _ | exact h13 _ | exact h21 _ | refine sem_bind2K (fun _ => ?_) (fun _ => ?_)
noncomputable def t_q1r_13 (x0 x1 x2 x3 x4 : Int) (x5 : Nat → Int) (x6 x7 : (List (List Int))) (x8 : Nat → Int) : Option R := (cond (inB x1 (List.length x6)) (cond (decide (x2 < ((List.length (List.getD x6 (Int.toNat x1) ([] : List Int)) : Nat) : Int))) (cond (inB x1 (List.length x6)) (cond (inB x2 (List.length (List.getD x6 (Int.toNat x1) ([] : List Int)))) (cond (inB (List.getD (List.getD x6 (Int.toNat x1) ([] : List Int)) (Int.toNat x2) 0) 144) (G13 (x0, x1, (IntKind.wrap .i64 (x2 + 1)), x3, x4, x5, x6, x7, (upd x8 (Int.toNat (List.getD (List.getD x6 (Int.toNat x1) ([] : List Int)) (Int.toNat x2) 0)) ((List.length x7 : Nat) : Int)))) none) none) none) (cond (inB x1 (List.length x6)) (cond (fits ((List.length (x7 : List (List Int)) + List.length ([(List.getD x6 (Int.toNat x1) ([] : List Int))] : List (List Int))) * 24)) (G9 (x0, (IntKind.wrap .i64 (x1 + 1)), x3, x4, x5, x6, (x7 ++ [(List.getD x6 (Int.toNat x1) ([] : List Int))]), x8)) none) none)) none)
theorem t_q1r_13_sem (x0 x1 x2 x3 x4 : Int) (x5 : Nat → Int) (x6 x7 : (List (List Int))) (x8 : Nat → Int) (h : sem S (t_q1r_13 G9 G13 x0 x1 x2 x3 x4 x5 x6 x7 x8)) (h9 : Leads S r G9 G9') (h13 : Leads S r G13 G13') : t_q1r_13 G9' G13' x0 x1 x2 x3 x4 x5 x6 x7 x8 = some r := by
 revert h
 unfold t_q1r_13
 repeat' first | refine sem_condK ?_ ?_ | refine sem_bindK fun _ => ?_ | exact sem_noneK | exact h9 _ | exact h13 _ | refine sem_bind2K (fun _ => ?_) (fun _ => ?_)
noncomputable def t_q1r_21 (x0 x1 x2 x3 : Int) (x4 : Nat → Int) (x5 : (List (List Int))) (x6 : Nat → Int) (x7 : List (Int × Int)) : Option R := (cond (decide (x1 < ((List.length x5 : Nat) : Int))) (cond (inB x1 (List.length x5)) (cond (decide (x0 = 0)) none (cond (decide ((IntKind.wrap .i64 (Int.tdiv (IntKind.wrap .i64 ((IntKind.wrap .i64 (((List.length (List.getD x5 (Int.toNat x1) ([] : List Int)) : Nat) : Int) + x0)) - 1)) x0)) > 30)) (E ([], 3)) (G28 (x0, x1, 0, x2, x3, x4, x5, x6, x7, (IntKind.wrap .i8 (IntKind.wrap .i64 (Int.tdiv (IntKind.wrap .i64 ((IntKind.wrap .i64 (((List.length (List.getD x5 (Int.toNat x1) ([] : List Int)) : Nat) : Int) + x0)) - 1)) x0))), 0)))) none) (E (x7, 0)))
theorem t_q1r_21_sem (x0 x1 x2 x3 : Int) (x4 : Nat → Int) (x5 : (List (List Int))) (x6 : Nat → Int) (x7 : List (Int × Int)) (h : sem S (t_q1r_21 E G28 x0 x1 x2 x3 x4 x5 x6 x7)) (hE : Leads S r E E') (h28 : Leads S r G28 G28') : t_q1r_21 E' G28' x0 x1 x2 x3 x4 x5 x6 x7 = some r := by
 revert h
 unfold t_q1r_21
 repeat' first | refine sem_condK ?_ ?_ | refine sem_bindK fun _ => ?_ | exact sem_noneK | exact hE _ | exact h28 _ | refine sem_bind2K (fun _ => ?_) (fun _ => ?_)
noncomputable def t_q1r_28 (x0 x1 x2 x3 x4 : Int) (x5 : Nat → Int) (x6 : (List (List Int))) (x7 : Nat → Int) (x8 : List (Int × Int)) (x9 x10 : Int) : Option R := (cond (inB x1 (List.length x6)) (cond (decide (x2 < ((List.length (List.getD x6 (Int.toNat x1) ([] : List Int)) : Nat) : Int))) (cond (inB x1 (List.length x6)) (cond (inB x2 (List.length (List.getD x6 (Int.toNat x1) ([] : List Int)))) (Option.bind (s_q16 x3 x4 x5 (List.getD (List.getD x6 (Int.toNat x1) ([] : List Int)) (Int.toNat x2) 0)) fun r2 => (G32 (x0, x1, x2, 0, x3, x4, x5, x6, x7, x8, x9, x10, r2))) none) none) (cond (fits ((List.length (x8 : List (Int × Int)) + List.length ([(x9, x10)] : List (Int × Int))) * 4)) (G21 (x0, (IntKind.wrap .i64 (x1 + 1)), x3, x4, x5, x6, x7, (x8 ++ [(x9, x10)]))) none)) none)
theorem t_q1r_28_sem (x0 x1 x2 x3 x4 : Int) (x5 : Nat → Int) (x6 : (List (List Int))) (x7 : Nat → Int) (x8 : List (Int × Int)) (x9 x10 : Int) (h : sem S (t_q1r_28 G21 G32 x0 x1 x2 x3 x4 x5 x6 x7 x8 x9 x10)) (h21 : Leads S r G21 G21') (h32 : Leads S r G32 G32') : t_q1r_28 G21' G32' x0 x1 x2 x3 x4 x5 x6 x7 x8 x9 x10 = some r := by
 revert h
 unfold t_q1r_28
 repeat' first | refine sem_condK ?_ ?_ | refine sem_bindK fun _ => ?_ | exact sem_noneK | exact h21 _ | exact h32 _ | refine sem_bind2K (fun _ => ?_) (fun _ => ?_)
noncomputable def t_q1r_32 (x0 x1 x2 x3 x4 x5 : Int) (x6 : Nat → Int) (x7 : (List (List Int))) (x8 : Nat → Int) (x9 : List (Int × Int)) (x10 x11 : Int) (x12 : List Int) : Option R := (cond (decide (x3 < ((List.length x12 : Nat) : Int))) (cond (inB x3 (List.length x12)) (cond (inB (List.getD x12 (Int.toNat x3) 0) 144) (cond ((x6 (Int.toNat (List.getD x12 (Int.toNat x3) 0))) != 0) (cond (inB x1 (List.length x7)) (cond (inB x2 (List.length (List.getD x7 (Int.toNat x1) ([] : List Int)))) (cond (inB (List.getD (List.getD x7 (Int.toNat x1) ([] : List Int)) (Int.toNat x2) 0) 144) (cond (decide ((x6 (Int.toNat (List.getD x12 (Int.toNat x3) 0))) < (x6 (Int.toNat (List.getD (List.getD x7 (Int.toNat x1) ([] : List Int)) (Int.toNat x2) 0))))) (cond (inB x3 (List.length x12)) (cond (inB (List.getD x12 (Int.toNat x3) 0) 144) (cond (decide ((IntKind.wrap .u64 (x8 (Int.toNat (List.getD x12 (Int.toNat x3) 0)))) < 0)) none (G32 (x0, x1, x2, (IntKind.wrap .i64 (x3 + 1)), x4, x5, x6, x7, x8, x9, x10, (bOr .u16 x11 (bShl .u16 1 (IntKind.wrap .u64 (x8 (Int.toNat (List.getD x12 (Int.toNat x3) 0)))))), x12))) none) none) (G32 (x0, x1, x2, (IntKind.wrap .i64 (x3 + 1)), x4, x5, x6, x7, x8, x9, x10, x11, x12))) none) none) none) (G32 (x0, x1, x2, (IntKind.wrap .i64 (x3 + 1)), x4, x5, x6, x7, x8, x9, x10, x11, x12))) none) none) (G28 (x0, x1, (IntKind.wrap .i64 (x2 + 1)), x4, x5, x6, x7, x8, x9, x10, x11)))
theorem t_q1r_32_sem (x0 x1 x2 x3 x4 x5 : Int) (x6 : Nat → Int) (x7 : (List (List Int))) (x8 : Nat → Int) (x9 : List (Int × Int)) (x10 x11 : Int) (x12 : List Int) (h : sem S (t_q1r_32 G28 G32 x0 x1 x2 x3 x4 x5 x6 x7 x8 x9 x10 x11 x12)) (h28 : Leads S r G28 G28') (h32 : Leads S r G32 G32') : t_q1r_32 G28' G32' x0 x1 x2 x3 x4 x5 x6 x7 x8 x9 x10 x11 x12 = some r := by
 revert h
 unfold t_q1r_32
 repeat' first | refine sem_condK ?_ ?_ | refine sem_bindK fun _ => ?_ | exact sem_noneK | exact h28 _ | exact h32 _ | refine sem_bind2K (fun _ => ?_) (fun _ => ?_)
noncomputable def t_q1r (a0 a1 : Int) (a2 : Nat → Int) (a3 : Int) : Option R := (cond (!(s_q29 a0 a1 a2)) (E ([], 1)) (cond (!(s_q27 a3 1 144)) (E ([], 2)) (Option.bind (s_q17 a0 a1 a2) fun r1 => (G9 (a3, 0, a0, a1, a2, r1, [], zF)))))
theorem t_q1r_sem (a0 a1 : Int) (a2 : Nat → Int) (a3 : Int) (h : sem S (t_q1r E G9 a0 a1 a2 a3)) (hE : Leads S r E E') (h9 : Leads S r G9 G9') : t_q1r E' G9' a0 a1 a2 a3 = some r := by
 revert h
 unfold t_q1r
 repeat' first | refine sem_condK ?_ ?_ | refine sem_bindK fun _ => ?_ | exact sem_noneK | exact hE _ | exact h9 _ | refine sem_bind2K (fun _ => ?_) (fun _ => ?_)
end
noncomputable def f_q1r_K9 (r : List A) (x : Z_q1r_9) : Option (List A) := f_q1r_L r 9 (f_q1r_s9 x.1 x.2.1 x.2.2.1 x.2.2.2.1 x.2.2.2.2.1 x.2.2.2.2.2.1 x.2.2.2.2.2.2.1 x.2.2.2.2.2.2.2)
noncomputable def f_q1r_K13 (r : List A) (x : Z_q1r_13) : Option (List A) := f_q1r_L r 13 (f_q1r_s13 x.1 x.2.1 x.2.2.1 x.2.2.2.1 x.2.2.2.2.1 x.2.2.2.2.2.1 x.2.2.2.2.2.2.1 x.2.2.2.2.2.2.2.1 x.2.2.2.2.2.2.2.2)
noncomputable def f_q1r_K21 (r : List A) (x : Z_q1r_21) : Option (List A) := f_q1r_L r 21 (f_q1r_s21 x.1 x.2.1 x.2.2.1 x.2.2.2.1 x.2.2.2.2.1 x.2.2.2.2.2.1 x.2.2.2.2.2.2.1 x.2.2.2.2.2.2.2)
noncomputable def f_q1r_K28 (r : List A) (x : Z_q1r_28) : Option (List A) := f_q1r_L r 28 (f_q1r_s28 x.1 x.2.1 x.2.2.1 x.2.2.2.1 x.2.2.2.2.1 x.2.2.2.2.2.1 x.2.2.2.2.2.2.1 x.2.2.2.2.2.2.2.1 x.2.2.2.2.2.2.2.2.1 x.2.2.2.2.2.2.2.2.2.1 x.2.2.2.2.2.2.2.2.2.2)
noncomputable def f_q1r_K32 (r : List A) (x : Z_q1r_32) : Option (List A) := f_q1r_L r 32 (f_q1r_s32 x.1 x.2.1 x.2.2.1 x.2.2.2.1 x.2.2.2.2.1 x.2.2.2.2.2.1 x.2.2.2.2.2.2.1 x.2.2.2.2.2.2.2.1 x.2.2.2.2.2.2.2.2.1 x.2.2.2.2.2.2.2.2.2.1 x.2.2.2.2.2.2.2.2.2.2.1 x.2.2.2.2.2.2.2.2.2.2.2.1 x.2.2.2.2.2.2.2.2.2.2.2.2)
theorem f_q1r_step13 (x0 x1 x2 x3 x4 : Int) (x5 : Nat → Int) (x6 x7 : (List (List Int))) (x8 : Nat → Int) (r : List A) (h : t_q1r_13 (f_q1r_K9 r) (f_q1r_K13 r) x0 x1 x2 x3 x4 x5 x6 x7 x8 = some r) : f_q1r_L r 13 (f_q1r_s13 x0 x1 x2 x3 x4 x5 x6 x7 x8) = some r :=
 step_of' h (by kernel_rfl)
noncomputable def f_q1r_n13 (x0 x1 x2 x3 x4 : Int) (x5 : Nat → Int) (x6 x7 : (List (List Int))) (x8 : Nat → Int) : Option (Z_q1r_13 ⊕ Y_q1r_13) := t_q1r_13 (fun x => some (Sum.inr (Sum.inl x))) (fun x => some (Sum.inl x)) x0 x1 x2 x3 x4 x5 x6 x7 x8
noncomputable def f_q1r_run13 (x : Z_q1r_13) : Option Y_q1r_13 := iter (fun x => f_q1r_n13 x.1 x.2.1 x.2.2.1 x.2.2.2.1 x.2.2.2.2.1 x.2.2.2.2.2.1 x.2.2.2.2.2.2.1 x.2.2.2.2.2.2.2.1 x.2.2.2.2.2.2.2.2) FU x
noncomputable def f_q1r_G13 (r : List A) (x : Z_q1r_13) : Prop := f_q1r_K13 r x = some r
theorem f_q1r_step32 (x0 x1 x2 x3 x4 x5 : Int) (x6 : Nat → Int) (x7 : (List (List Int))) (x8 : Nat → Int) (x9 : List (Int × Int)) (x10 x11 : Int) (x12 : List Int) (r : List A) (h : t_q1r_32 (f_q1r_K28 r) (f_q1r_K32 r) x0 x1 x2 x3 x4 x5 x6 x7 x8 x9 x10 x11 x12 = some r) : f_q1r_L r 32 (f_q1r_s32 x0 x1 x2 x3 x4 x5 x6 x7 x8 x9 x10 x11 x12) = some r :=
 step_of' h (by kernel_rfl)
noncomputable def f_q1r_n32 (x0 x1 x2 x3 x4 x5 : Int) (x6 : Nat → Int) (x7 : (List (List Int))) (x8 : Nat → Int) (x9 : List (Int × Int)) (x10 x11 : Int) (x12 : List Int) : Option (Z_q1r_32 ⊕ Y_q1r_32) := t_q1r_32 (fun x => some (Sum.inr (Sum.inl x))) (fun x => some (Sum.inl x)) x0 x1 x2 x3 x4 x5 x6 x7 x8 x9 x10 x11 x12
noncomputable def f_q1r_run32 (x : Z_q1r_32) : Option Y_q1r_32 := iter (fun x => f_q1r_n32 x.1 x.2.1 x.2.2.1 x.2.2.2.1 x.2.2.2.2.1 x.2.2.2.2.2.1 x.2.2.2.2.2.2.1 x.2.2.2.2.2.2.2.1 x.2.2.2.2.2.2.2.2.1 x.2.2.2.2.2.2.2.2.2.1 x.2.2.2.2.2.2.2.2.2.2.1 x.2.2.2.2.2.2.2.2.2.2.2.1 x.2.2.2.2.2.2.2.2.2.2.2.2) FU x
noncomputable def f_q1r_G32 (r : List A) (x : Z_q1r_32) : Prop := f_q1r_K32 r x = some r
theorem f_q1r_step28 (x0 x1 x2 x3 x4 : Int) (x5 : Nat → Int) (x6 : (List (List Int))) (x7 : Nat → Int) (x8 : List (Int × Int)) (x9 x10 : Int) (r : List A) (h : t_q1r_28 (f_q1r_K21 r) (f_q1r_K32 r) x0 x1 x2 x3 x4 x5 x6 x7 x8 x9 x10 = some r) : f_q1r_L r 28 (f_q1r_s28 x0 x1 x2 x3 x4 x5 x6 x7 x8 x9 x10) = some r :=
 step_of' h (by kernel_rfl)
noncomputable def f_q1r_n28 (x0 x1 x2 x3 x4 : Int) (x5 : Nat → Int) (x6 : (List (List Int))) (x7 : Nat → Int) (x8 : List (Int × Int)) (x9 x10 : Int) : Option (Z_q1r_28 ⊕ Y_q1r_28) := t_q1r_28 (fun x => some (Sum.inr (Sum.inl x))) f_q1r_run32 x0 x1 x2 x3 x4 x5 x6 x7 x8 x9 x10
noncomputable def f_q1r_run28 (x : Z_q1r_28) : Option Y_q1r_28 := iter (fun x => f_q1r_n28 x.1 x.2.1 x.2.2.1 x.2.2.2.1 x.2.2.2.2.1 x.2.2.2.2.2.1 x.2.2.2.2.2.2.1 x.2.2.2.2.2.2.2.1 x.2.2.2.2.2.2.2.2.1 x.2.2.2.2.2.2.2.2.2.1 x.2.2.2.2.2.2.2.2.2.2) FU x
noncomputable def f_q1r_G28 (r : List A) (x : Z_q1r_28) : Prop := f_q1r_K28 r x = some r
theorem f_q1r_step21 (x0 x1 x2 x3 : Int) (x4 : Nat → Int) (x5 : (List (List Int))) (x6 : Nat → Int) (x7 : List (Int × Int)) (r : List A) (h : t_q1r_21 (fun v => some (l_q1r v)) (f_q1r_K28 r) x0 x1 x2 x3 x4 x5 x6 x7 = some r) : f_q1r_L r 21 (f_q1r_s21 x0 x1 x2 x3 x4 x5 x6 x7) = some r :=
 step_of' h (by kernel_rfl)
noncomputable def f_q1r_n21 (x0 x1 x2 x3 : Int) (x4 : Nat → Int) (x5 : (List (List Int))) (x6 : Nat → Int) (x7 : List (Int × Int)) : Option (Z_q1r_21 ⊕ Y_q1r_21) := t_q1r_21 (fun v => some (Sum.inr v)) f_q1r_run28 x0 x1 x2 x3 x4 x5 x6 x7
noncomputable def f_q1r_run21 (x : Z_q1r_21) : Option Y_q1r_21 := iter (fun x => f_q1r_n21 x.1 x.2.1 x.2.2.1 x.2.2.2.1 x.2.2.2.2.1 x.2.2.2.2.2.1 x.2.2.2.2.2.2.1 x.2.2.2.2.2.2.2) FU x
noncomputable def f_q1r_G21 (r : List A) (x : Z_q1r_21) : Prop := f_q1r_K21 r x = some r
theorem f_q1r_step9 (x0 x1 x2 x3 : Int) (x4 : Nat → Int) (x5 x6 : (List (List Int))) (x7 : Nat → Int) (r : List A) (h : t_q1r_9 (fun v => some (l_q1r v)) (f_q1r_K9 r) (f_q1r_K13 r) (f_q1r_K21 r) x0 x1 x2 x3 x4 x5 x6 x7 = some r) : f_q1r_L r 9 (f_q1r_s9 x0 x1 x2 x3 x4 x5 x6 x7) = some r :=
 step_of' h (by kernel_rfl)
noncomputable def f_q1r_n9 (x0 x1 x2 x3 : Int) (x4 : Nat → Int) (x5 x6 : (List (List Int))) (x7 : Nat → Int) : Option (Z_q1r_9 ⊕ Y_q1r_9) := t_q1r_9 (fun v => some (Sum.inr v)) (fun x => some (Sum.inl x)) f_q1r_run13 (fun x => Option.map (fun x => (Sum.inr x)) (f_q1r_run21 x)) x0 x1 x2 x3 x4 x5 x6 x7
noncomputable def f_q1r_run9 (x : Z_q1r_9) : Option Y_q1r_9 := iter (fun x => f_q1r_n9 x.1 x.2.1 x.2.2.1 x.2.2.2.1 x.2.2.2.2.1 x.2.2.2.2.2.1 x.2.2.2.2.2.2.1 x.2.2.2.2.2.2.2) FU x
noncomputable def f_q1r_G9 (r : List A) (x : Z_q1r_9) : Prop := f_q1r_K9 r x = some r
noncomputable def f_q1r_S9 (r : List A) : Y_q1r_9 → Prop := fun v => r = l_q1r v
noncomputable def f_q1r_S13 (r : List A) : Y_q1r_13 → Prop := goesOn (f_q1r_G9 r) (f_q1r_S9 r)
noncomputable def f_q1r_S21 (r : List A) : Y_q1r_21 → Prop := fun v => r = l_q1r v
noncomputable def f_q1r_S28 (r : List A) : Y_q1r_28 → Prop := goesOn (f_q1r_G21 r) (f_q1r_S21 r)
noncomputable def f_q1r_S32 (r : List A) : Y_q1r_32 → Prop := goesOn (f_q1r_G28 r) (f_q1r_S28 r)
theorem f_q1r_go13 (r : List A) : ∀ x, sem (f_q1r_S13 r) (f_q1r_run13 x) → f_q1r_G13 r x :=
 fun x => iter_sound (G := f_q1r_G13 r) (E := f_q1r_S13 r) (step := fun x => f_q1r_n13 x.1 x.2.1 x.2.2.1 x.2.2.2.1 x.2.2.2.2.1 x.2.2.2.2.2.1 x.2.2.2.2.2.2.1 x.2.2.2.2.2.2.2.1 x.2.2.2.2.2.2.2.2) (fun x h => f_q1r_step13 x.1 x.2.1 x.2.2.1 x.2.2.2.1 x.2.2.2.2.1 x.2.2.2.2.2.1 x.2.2.2.2.2.2.1 x.2.2.2.2.2.2.2.1 x.2.2.2.2.2.2.2.2 r (t_q1r_13_sem _ _ _ _ x.1 x.2.1 x.2.2.1 x.2.2.2.1 x.2.2.2.2.1 x.2.2.2.2.2.1 x.2.2.2.2.2.2.1 x.2.2.2.2.2.2.2.1 x.2.2.2.2.2.2.2.2 h (fun _ h => sem_got h fun q => q) (fun _ h => sem_got h fun q => q))) FU x
theorem f_q1r_go32 (r : List A) : ∀ x, sem (f_q1r_S32 r) (f_q1r_run32 x) → f_q1r_G32 r x :=
 fun x => iter_sound (G := f_q1r_G32 r) (E := f_q1r_S32 r) (step := fun x => f_q1r_n32 x.1 x.2.1 x.2.2.1 x.2.2.2.1 x.2.2.2.2.1 x.2.2.2.2.2.1 x.2.2.2.2.2.2.1 x.2.2.2.2.2.2.2.1 x.2.2.2.2.2.2.2.2.1 x.2.2.2.2.2.2.2.2.2.1 x.2.2.2.2.2.2.2.2.2.2.1 x.2.2.2.2.2.2.2.2.2.2.2.1 x.2.2.2.2.2.2.2.2.2.2.2.2) (fun x h => f_q1r_step32 x.1 x.2.1 x.2.2.1 x.2.2.2.1 x.2.2.2.2.1 x.2.2.2.2.2.1 x.2.2.2.2.2.2.1 x.2.2.2.2.2.2.2.1 x.2.2.2.2.2.2.2.2.1 x.2.2.2.2.2.2.2.2.2.1 x.2.2.2.2.2.2.2.2.2.2.1 x.2.2.2.2.2.2.2.2.2.2.2.1 x.2.2.2.2.2.2.2.2.2.2.2.2 r (t_q1r_32_sem _ _ _ _ x.1 x.2.1 x.2.2.1 x.2.2.2.1 x.2.2.2.2.1 x.2.2.2.2.2.1 x.2.2.2.2.2.2.1 x.2.2.2.2.2.2.2.1 x.2.2.2.2.2.2.2.2.1 x.2.2.2.2.2.2.2.2.2.1 x.2.2.2.2.2.2.2.2.2.2.1 x.2.2.2.2.2.2.2.2.2.2.2.1 x.2.2.2.2.2.2.2.2.2.2.2.2 h (fun _ h => sem_got h fun q => q) (fun _ h => sem_got h fun q => q))) FU x
theorem f_q1r_go28 (r : List A) : ∀ x, sem (f_q1r_S28 r) (f_q1r_run28 x) → f_q1r_G28 r x :=
 fun x => iter_sound (G := f_q1r_G28 r) (E := f_q1r_S28 r) (step := fun x => f_q1r_n28 x.1 x.2.1 x.2.2.1 x.2.2.2.1 x.2.2.2.2.1 x.2.2.2.2.2.1 x.2.2.2.2.2.2.1 x.2.2.2.2.2.2.2.1 x.2.2.2.2.2.2.2.2.1 x.2.2.2.2.2.2.2.2.2.1 x.2.2.2.2.2.2.2.2.2.2) (fun x h => f_q1r_step28 x.1 x.2.1 x.2.2.1 x.2.2.2.1 x.2.2.2.2.1 x.2.2.2.2.2.1 x.2.2.2.2.2.2.1 x.2.2.2.2.2.2.2.1 x.2.2.2.2.2.2.2.2.1 x.2.2.2.2.2.2.2.2.2.1 x.2.2.2.2.2.2.2.2.2.2 r (t_q1r_28_sem _ _ _ _ x.1 x.2.1 x.2.2.1 x.2.2.2.1 x.2.2.2.2.1 x.2.2.2.2.2.1 x.2.2.2.2.2.2.1 x.2.2.2.2.2.2.2.1 x.2.2.2.2.2.2.2.2.1 x.2.2.2.2.2.2.2.2.2.1 x.2.2.2.2.2.2.2.2.2.2 h (fun _ h => sem_got h fun q => q) (f_q1r_go32 r))) FU x
theorem f_q1r_go21 (r : List A) : ∀ x, sem (f_q1r_S21 r) (f_q1r_run21 x) → f_q1r_G21 r x :=
 fun x => iter_sound (G := f_q1r_G21 r) (E := f_q1r_S21 r) (step := fun x => f_q1r_n21 x.1 x.2.1 x.2.2.1 x.2.2.2.1 x.2.2.2.2.1 x.2.2.2.2.2.1 x.2.2.2.2.2.2.1 x.2.2.2.2.2.2.2) (fun x h => f_q1r_step21 x.1 x.2.1 x.2.2.1 x.2.2.2.1 x.2.2.2.2.1 x.2.2.2.2.2.1 x.2.2.2.2.2.2.1 x.2.2.2.2.2.2.2 r (t_q1r_21_sem _ _ _ _ x.1 x.2.1 x.2.2.1 x.2.2.2.1 x.2.2.2.2.1 x.2.2.2.2.2.1 x.2.2.2.2.2.2.1 x.2.2.2.2.2.2.2 h (fun _ h => sem_got h fun q => some_eq q) (f_q1r_go28 r))) FU x
theorem f_q1r_go9 (r : List A) : ∀ x, sem (f_q1r_S9 r) (f_q1r_run9 x) → f_q1r_G9 r x :=
 fun x => iter_sound (G := f_q1r_G9 r) (E := f_q1r_S9 r) (step := fun x => f_q1r_n9 x.1 x.2.1 x.2.2.1 x.2.2.2.1 x.2.2.2.2.1 x.2.2.2.2.2.1 x.2.2.2.2.2.2.1 x.2.2.2.2.2.2.2) (fun x h => f_q1r_step9 x.1 x.2.1 x.2.2.1 x.2.2.2.1 x.2.2.2.2.1 x.2.2.2.2.2.1 x.2.2.2.2.2.2.1 x.2.2.2.2.2.2.2 r (t_q1r_9_sem _ _ _ _ _ _ _ _ x.1 x.2.1 x.2.2.1 x.2.2.2.1 x.2.2.2.2.1 x.2.2.2.2.2.1 x.2.2.2.2.2.2.1 x.2.2.2.2.2.2.2 h (fun _ h => sem_got h fun q => some_eq q) (fun _ h => sem_got h fun q => q) (f_q1r_go13 r) (fun x h => f_q1r_go21 r x (sem_mapk h fun _ q => q)))) FU x
noncomputable def s_q1r (a0 a1 : Int) (a2 : Nat → Int) (a3 : Int) : Option ((List (Int × Int)) × Int) := t_q1r some f_q1r_run9 a0 a1 a2 a3
theorem f_q1r_top (a0 a1 : Int) (a2 : Nat → Int) (a3 : Int) (r : List A) : Tq f_q1r_X f_q1r_LV f_q1r_c f_q1r_rv r [.rc [.v (.int .i8 a0), .v (.int .i8 a1), .fa 144 .u8 a2], .v (.int .i64 a3)] = t_q1r (fun v => some (l_q1r v)) (f_q1r_K9 r) a0 a1 a2 a3 := by kernel_rfl
theorem s_q1r_ok (a0 a1 : Int) (a2 : Nat → Int) (a3 : Int) (v : ((List (Int × Int)) × Int)) (h : s_q1r a0 a1 a2 a3 = some v) : t_q1r (fun v => some (l_q1r v)) (f_q1r_K9 (l_q1r v)) a0 a1 a2 a3 = some (l_q1r v) :=
 t_q1r_sem _ _ _ _ a0 a1 a2 a3 (show sem (fun w => l_q1r v = l_q1r w) (s_q1r a0 a1 a2 a3) from ⟨v, h, rfl⟩) (fun _ h => sem_got h fun q => some_eq q) (f_q1r_go9 (l_q1r v))
noncomputable def c_q1r : List A → ACall
 | [.rc [.v (.int .i8 a0), .v (.int .i8 a1), .fa 144 .u8 a2], .v (.int .i64 a3)] => ⟨((List (Int × Int)) × Int), s_q1r a0 a1 a2 a3, fun r => .tup [.lst (.st [(.i .i8), (.i .u16)]) r.1, .v (.int .i64 r.2)]⟩
 | _ => ACall.fail
theorem flatC__sJobsFor (rs : List A) : FlatC (c_q1r rs) := by
 unfold c_q1r
 split <;> exact fun _ => rfl
theorem f_q1r_sound : Sound Tryz.prog 69 c_q1r := by
 refine sound_goodW f_q1r_ctx f_q1r_LV 2 Tryz.func69 (c := f_q1r_c) (by kernel_rfl) (rv := f_q1r_rv) (by kernel_rfl) (by kernel_rfl) (by kernel_rfl) (by kernel_rfl) (flatC__sJobsFor) fun rs => ?_
 unfold c_q1r
 split
 ·rename_i a0 a1 a2 a3; intro v h; exact ⟨rfl, l_q1r v, rfl, (f_q1r_top a0 a1 a2 a3 _).trans (s_q1r_ok a0 a1 a2 a3 v h)⟩
 ·intro v h; cases h
noncomputable def f_q06_c := codeC Tryz.f188
noncomputable def f_q06_X : Ctx := ⟨TT, phiOf [(176, c_q0c)], noPsi, noXi⟩
def f_q06_LV : List (Nat × Keep) := []
def f_q06_rv : List ResultVar := [.tmp 3]
theorem f_q06_ctx : CtxOK Tryz.prog f_q06_X := ctx_of tab mix ⟨⟨Tryz.call176, f_q0c_sound⟩, trivial⟩
noncomputable def s_q06 (a0 : Int) (a1 : List Int) : Option Bool := (Option.bind (s_q0c a1 a0) fun r1 => (some r1))
theorem f_q06_top (a0 : Int) (a1 : List Int) (r : List A) : Tq f_q06_X f_q06_LV f_q06_c f_q06_rv r [.v (.int .i64 a0), .ref (.lst (.one (.i .i64)) a1)] = (Option.bind (s_q0c a1 a0) fun r1 => (some [.v (.bool r1)])) := by kernel_rfl
noncomputable def l_q06 (r : Bool) : List A := [.v (.bool r)]
theorem s_q06_ok (a0 : Int) (a1 : List Int) (v : Bool) (h : s_q06 a0 a1 = some v) : (Option.bind (s_q0c a1 a0) fun r1 => (some [.v (.bool r1)])) = some (l_q06 v) := by
 refine Eq.trans (b := Option.map l_q06 (s_q06 a0 a1)) ?_ (by rw [h]; rfl)
 unfold s_q06
 exact (bind_app fun _ => rfl)
noncomputable def c_q06 : List A → ACall
 | [.v (.int .i64 a0), .ref (.lst (.one (.i .i64)) a1)] => ⟨Bool, s_q06 a0 a1, fun r => .one (.v (.bool r))⟩
 | _ => ACall.fail
theorem f_q06_sound : Sound Tryz.prog 188 c_q06 := by
 refine good f_q06_ctx f_q06_LV f_q06_c f_q06_rv 2 Tryz.func188 fun rs => ?_
 unfold c_q06
 split
 ·rename_i a0 a1; intro v h; exact ⟨rfl, l_q06 v, rfl, (f_q06_top a0 a1 _).trans (s_q06_ok a0 a1 v h)⟩
 ·intro v h; cases h
noncomputable def f_q05_c := codeC Tryz.f90
noncomputable def f_q05_X : Ctx := ⟨TT, phiOf [(188, c_q06)], noPsi, noXi⟩
def f_q05_LV : List (Nat × Keep) := [(2, ([0, 1, 7, 8], [], []))]
def f_q05_rv : List ResultVar := [.tmp 4]
noncomputable def f_q05_L := Lq f_q05_X f_q05_LV f_q05_c f_q05_rv
theorem f_q05_ctx : CtxOK Tryz.prog f_q05_X := ctx_of tab mix ⟨⟨Tryz.call188, f_q06_sound⟩, trivial⟩
noncomputable def f_q05_s2 (x0 x1 : Int) (x2 x3 : List Int) : AS := ⟨[(0, .a (.sl 0)), (1, .a (.clo 188 [.ptr 1 [] (0)])), (7, .a (.v (.int .i64 x0))), (8, .a (.v (.int .i64 x1)))], [(0, some ⟨false, .arr (.one (.i .i64)) x2⟩), (1, some ⟨false, .box (.sl 2)⟩), (2, some ⟨false, .arr (.one (.i .i64)) x3⟩)], 3⟩
noncomputable def l_q05 (r : Int) : List A := [.v (.int .i64 r)]
theorem f_q05_step2 (x0 x1 : Int) (x2 x3 : List Int) (r : List A) (h : (cond (decide (x1 < x0)) (cond (inB x1 (List.length x2)) (Option.bind (s_q06 (List.getD x2 (Int.toNat x1) 0) x3) fun r1 => (cond r1 (some [.v (.int .i64 x1)]) (f_q05_L r 2 (f_q05_s2 x0 (IntKind.wrap .i64 (x1 + 1)) x2 x3)))) none) (some [.v (.int .i64 (-1))])) = some r) : f_q05_L r 2 (f_q05_s2 x0 x1 x2 x3) = some r :=
 step_of' h (by kernel_rfl)
noncomputable def f_q05_n2 (x0 x1 : Int) (x2 x3 : List Int) : Option ((Int × Int × (List Int) × (List Int)) ⊕ Int) := (cond (decide (x1 < x0)) (cond (inB x1 (List.length x2)) (Option.bind (s_q06 (List.getD x2 (Int.toNat x1) 0) x3) fun r1 => (cond r1 (some (Sum.inr x1)) (some (Sum.inl (x0, (IntKind.wrap .i64 (x1 + 1)), x2, x3))))) none) (some (Sum.inr (-1))))
noncomputable def f_q05_run2 (x : (Int × Int × (List Int) × (List Int))) : Option Int := iter (fun x => f_q05_n2 x.1 x.2.1 x.2.2.1 x.2.2.2) FU x
noncomputable def f_q05_G2 (r : List A) (x : (Int × Int × (List Int) × (List Int))) : Prop := f_q05_L r 2 (f_q05_s2 x.1 x.2.1 x.2.2.1 x.2.2.2) = some r
noncomputable def f_q05_S2 (r : List A) : Int → Prop := fun v => r = l_q05 v
theorem f_q05_go2 (r : List A) : ∀ x, sem (f_q05_S2 r) (f_q05_run2 x) → f_q05_G2 r x :=
 fun x => iter_sound (step := fun x => f_q05_n2 x.1 x.2.1 x.2.2.1 x.2.2.2) (fun x h => by
  unfold f_q05_n2 at h
  exact f_q05_step2 x.1 x.2.1 x.2.2.1 x.2.2.2 r ((sem_cond h (fun h => (sem_cond h (fun h => (sem_bind h fun r1 h => (sem_cond h (fun h => sem_got h fun q => some_eq q) (fun h => sem_got h fun q => q)))) (fun h => sem_none h))) (fun h => sem_got h fun q => some_eq q)))) FU x
noncomputable def s_q05 (a0 a1 : List Int) : Option Int := (f_q05_run2 (((List.length a0 : Nat) : Int), 0, a0, a1))
theorem f_q05_top (a0 a1 : List Int) (r : List A) : Tq f_q05_X f_q05_LV f_q05_c f_q05_rv r [.lst (.one (.i .i64)) a0, .clo 188 [.ref (.lst (.one (.i .i64)) a1)]] = (f_q05_L r 2 (f_q05_s2 ((List.length a0 : Nat) : Int) 0 a0 a1)) := by kernel_rfl
theorem s_q05_ok (a0 a1 : List Int) (v : Int) (h : s_q05 a0 a1 = some v) : (f_q05_L (l_q05 v) 2 (f_q05_s2 ((List.length a0 : Nat) : Int) 0 a0 a1)) = some (l_q05 v) := by
 replace h : sem (fun w => l_q05 v = l_q05 w) (s_q05 a0 a1) := ⟨v, h, rfl⟩
 unfold s_q05 at h
 exact f_q05_go2 (l_q05 v) _ h
noncomputable def c_q05 : List A → ACall
 | [.lst (.one (.i .i64)) a0, .clo 188 [.ref (.lst (.one (.i .i64)) a1)]] => ⟨Int, s_q05 a0 a1, fun r => .one (.v (.int .i64 r))⟩
 | _ => ACall.fail
theorem f_q05_sound : Sound Tryz.prog 90 c_q05 := by
 refine good f_q05_ctx f_q05_LV f_q05_c f_q05_rv 2 Tryz.func90 fun rs => ?_
 unfold c_q05
 split
 ·rename_i a0 a1; intro v h; exact ⟨rfl, l_q05 v, rfl, (f_q05_top a0 a1 _).trans (s_q05_ok a0 a1 v h)⟩
 ·intro v h; cases h
noncomputable def f_q01_c := codeC Tryz.f162
noncomputable def f_q01_X : Ctx := ⟨TT, phiOf [(90, c_q05)], noPsi, noXi⟩
def f_q01_LV : List (Nat × Keep) := []
def f_q01_rv : List ResultVar := [.tmp 4]
theorem f_q01_ctx : CtxOK Tryz.prog f_q01_X := ctx_of tab mix ⟨⟨Tryz.call90, f_q05_sound⟩, trivial⟩
noncomputable def s_q01 (a0 a1 : List Int) : Option Bool := (Option.bind (s_q05 a0 a1) fun r1 => (some (decide (r1 ≥ 0))))
theorem f_q01_top (a0 a1 : List Int) (r : List A) : Tq f_q01_X f_q01_LV f_q01_c f_q01_rv r [.lst (.one (.i .i64)) a0, .clo 188 [.ref (.lst (.one (.i .i64)) a1)]] = (Option.bind (s_q05 a0 a1) fun r1 => (some [.v (.bool (decide (r1 ≥ 0)))])) := by kernel_rfl
noncomputable def l_q01 (r : Bool) : List A := [.v (.bool r)]
theorem s_q01_ok (a0 a1 : List Int) (v : Bool) (h : s_q01 a0 a1 = some v) : (Option.bind (s_q05 a0 a1) fun r1 => (some [.v (.bool (decide (r1 ≥ 0)))])) = some (l_q01 v) := by
 refine Eq.trans (b := Option.map l_q01 (s_q01 a0 a1)) ?_ (by rw [h]; rfl)
 unfold s_q01
 exact (bind_app fun _ => rfl)
noncomputable def c_q01 : List A → ACall
 | [.lst (.one (.i .i64)) a0, .clo 188 [.ref (.lst (.one (.i .i64)) a1)]] => ⟨Bool, s_q01 a0 a1, fun r => .one (.v (.bool r))⟩
 | _ => ACall.fail
theorem f_q01_sound : Sound Tryz.prog 162 c_q01 := by
 refine good f_q01_ctx f_q01_LV f_q01_c f_q01_rv 2 Tryz.func162 fun rs => ?_
 unfold c_q01
 split
 ·rename_i a0 a1; intro v h; exact ⟨rfl, l_q01 v, rfl, (f_q01_top a0 a1 _).trans (s_q01_ok a0 a1 v h)⟩
 ·intro v h; cases h
noncomputable def f_q0a_c := codeC Tryz.f186
noncomputable def f_q0a_X : Ctx := ⟨TT, phiOf [(162, c_q01), (187, c_q1u)], noPsi, noXi⟩
def f_q0a_LV : List (Nat × Keep) := []
def f_q0a_rv : List ResultVar := [.tmp 4]
theorem f_q0a_ctx : CtxOK Tryz.prog f_q0a_X := ctx_of tab mix ⟨⟨Tryz.call162, f_q01_sound⟩, ⟨Tryz.call187, f_q1u_sound⟩, trivial⟩
noncomputable def s_q0a (a0 a1 a2 : Int) (a3 : Nat → Int) (a4 : List Int) : Option Bool := (Option.bind (s_q1u a0 a1 a2) fun r1 => (Option.bind (s_q01 r1 a4) fun r2 => (some r2)))
theorem f_q0a_top (a0 a1 a2 : Int) (a3 : Nat → Int) (a4 : List Int) (r : List A) : Tq f_q0a_X f_q0a_LV f_q0a_c f_q0a_rv r [.v (.int .i64 a0), .ref (.rc [.v (.int .i8 a1), .v (.int .i8 a2), .fa 144 .u8 a3]), .ref (.lst (.one (.i .i64)) a4)] = (Option.bind (s_q1u a0 a1 a2) fun r1 => (Option.bind (s_q01 r1 a4) fun r2 => (some [.v (.bool r2)]))) := by kernel_rfl
noncomputable def l_q0a (r : Bool) : List A := [.v (.bool r)]
theorem s_q0a_ok (a0 a1 a2 : Int) (a3 : Nat → Int) (a4 : List Int) (v : Bool) (h : s_q0a a0 a1 a2 a3 a4 = some v) : (Option.bind (s_q1u a0 a1 a2) fun r1 => (Option.bind (s_q01 r1 a4) fun r2 => (some [.v (.bool r2)]))) = some (l_q0a v) := by
 refine Eq.trans (b := Option.map l_q0a (s_q0a a0 a1 a2 a3 a4)) ?_ (by rw [h]; rfl)
 unfold s_q0a
 exact (bind_app fun _ => (bind_app fun _ => rfl))
noncomputable def c_q0a : List A → ACall
 | [.v (.int .i64 a0), .ref (.rc [.v (.int .i8 a1), .v (.int .i8 a2), .fa 144 .u8 a3]), .ref (.lst (.one (.i .i64)) a4)] => ⟨Bool, s_q0a a0 a1 a2 a3 a4, fun r => .one (.v (.bool r))⟩
 | _ => ACall.fail
theorem f_q0a_sound : Sound Tryz.prog 186 c_q0a := by
 refine good f_q0a_ctx f_q0a_LV f_q0a_c f_q0a_rv 3 Tryz.func186 fun rs => ?_
 unfold c_q0a
 split
 ·rename_i a0 a1 a2 a3 a4; intro v h; exact ⟨rfl, l_q0a v, rfl, (f_q0a_top a0 a1 a2 a3 a4 _).trans (s_q0a_ok a0 a1 a2 a3 a4 v h)⟩
 ·intro v h; cases h
noncomputable def f_q04_c := codeC Tryz.f90
noncomputable def f_q04_X : Ctx := ⟨TT, phiOf [(186, c_q0a)], noPsi, noXi⟩
def f_q04_LV : List (Nat × Keep) := [(2, ([0, 1, 7, 8], [], []))]
def f_q04_rv : List ResultVar := [.tmp 4]
noncomputable def f_q04_L := Lq f_q04_X f_q04_LV f_q04_c f_q04_rv
theorem f_q04_ctx : CtxOK Tryz.prog f_q04_X := ctx_of tab mix ⟨⟨Tryz.call186, f_q0a_sound⟩, trivial⟩
noncomputable def f_q04_s2 (x0 x1 : Int) (x2 : List Int) (x3 x4 : Int) (x5 : Nat → Int) (x6 : List Int) : AS := ⟨[(0, .a (.sl 0)), (1, .a (.clo 186 [.ptr 1 [] (0), .ptr 2 [] (0)])), (7, .a (.v (.int .i64 x0))), (8, .a (.v (.int .i64 x1)))], [(0, some ⟨false, .arr (.one (.i .i64)) x2⟩), (1, some ⟨false, .box (.rc [.v (.int .i8 x3), .v (.int .i8 x4), .fa 144 .u8 x5])⟩), (2, some ⟨false, .box (.sl 3)⟩), (3, some ⟨false, .arr (.one (.i .i64)) x6⟩)], 4⟩
noncomputable def l_q04 (r : Int) : List A := [.v (.int .i64 r)]
theorem f_q04_step2 (x0 x1 : Int) (x2 : List Int) (x3 x4 : Int) (x5 : Nat → Int) (x6 : List Int) (r : List A) (h : (cond (decide (x1 < x0)) (cond (inB x1 (List.length x2)) (Option.bind (s_q0a (List.getD x2 (Int.toNat x1) 0) x3 x4 x5 x6) fun r1 => (cond r1 (some [.v (.int .i64 x1)]) (f_q04_L r 2 (f_q04_s2 x0 (IntKind.wrap .i64 (x1 + 1)) x2 x3 x4 x5 x6)))) none) (some [.v (.int .i64 (-1))])) = some r) : f_q04_L r 2 (f_q04_s2 x0 x1 x2 x3 x4 x5 x6) = some r :=
 step_of' h (by kernel_rfl)
noncomputable def f_q04_n2 (x0 x1 : Int) (x2 : List Int) (x3 x4 : Int) (x5 : Nat → Int) (x6 : List Int) : Option ((Int × Int × (List Int) × Int × Int × (Nat → Int) × (List Int)) ⊕ Int) := (cond (decide (x1 < x0)) (cond (inB x1 (List.length x2)) (Option.bind (s_q0a (List.getD x2 (Int.toNat x1) 0) x3 x4 x5 x6) fun r1 => (cond r1 (some (Sum.inr x1)) (some (Sum.inl (x0, (IntKind.wrap .i64 (x1 + 1)), x2, x3, x4, x5, x6))))) none) (some (Sum.inr (-1))))
noncomputable def f_q04_run2 (x : (Int × Int × (List Int) × Int × Int × (Nat → Int) × (List Int))) : Option Int := iter (fun x => f_q04_n2 x.1 x.2.1 x.2.2.1 x.2.2.2.1 x.2.2.2.2.1 x.2.2.2.2.2.1 x.2.2.2.2.2.2) FU x
noncomputable def f_q04_G2 (r : List A) (x : (Int × Int × (List Int) × Int × Int × (Nat → Int) × (List Int))) : Prop := f_q04_L r 2 (f_q04_s2 x.1 x.2.1 x.2.2.1 x.2.2.2.1 x.2.2.2.2.1 x.2.2.2.2.2.1 x.2.2.2.2.2.2) = some r
noncomputable def f_q04_S2 (r : List A) : Int → Prop := fun v => r = l_q04 v
theorem f_q04_go2 (r : List A) : ∀ x, sem (f_q04_S2 r) (f_q04_run2 x) → f_q04_G2 r x :=
 fun x => iter_sound (step := fun x => f_q04_n2 x.1 x.2.1 x.2.2.1 x.2.2.2.1 x.2.2.2.2.1 x.2.2.2.2.2.1 x.2.2.2.2.2.2) (fun x h => by
  unfold f_q04_n2 at h
  exact f_q04_step2 x.1 x.2.1 x.2.2.1 x.2.2.2.1 x.2.2.2.2.1 x.2.2.2.2.2.1 x.2.2.2.2.2.2 r ((sem_cond h (fun h => (sem_cond h (fun h => (sem_bind h fun r1 h => (sem_cond h (fun h => sem_got h fun q => some_eq q) (fun h => sem_got h fun q => q)))) (fun h => sem_none h))) (fun h => sem_got h fun q => some_eq q)))) FU x
noncomputable def s_q04 (a0 : List Int) (a1 a2 : Int) (a3 : Nat → Int) (a4 : List Int) : Option Int := (f_q04_run2 (((List.length a0 : Nat) : Int), 0, a0, a1, a2, a3, a4))
theorem f_q04_top (a0 : List Int) (a1 a2 : Int) (a3 : Nat → Int) (a4 : List Int) (r : List A) : Tq f_q04_X f_q04_LV f_q04_c f_q04_rv r [.lst (.one (.i .i64)) a0, .clo 186 [.ref (.rc [.v (.int .i8 a1), .v (.int .i8 a2), .fa 144 .u8 a3]), .ref (.lst (.one (.i .i64)) a4)]] = (f_q04_L r 2 (f_q04_s2 ((List.length a0 : Nat) : Int) 0 a0 a1 a2 a3 a4)) := by kernel_rfl
theorem s_q04_ok (a0 : List Int) (a1 a2 : Int) (a3 : Nat → Int) (a4 : List Int) (v : Int) (h : s_q04 a0 a1 a2 a3 a4 = some v) : (f_q04_L (l_q04 v) 2 (f_q04_s2 ((List.length a0 : Nat) : Int) 0 a0 a1 a2 a3 a4)) = some (l_q04 v) := by
 replace h : sem (fun w => l_q04 v = l_q04 w) (s_q04 a0 a1 a2 a3 a4) := ⟨v, h, rfl⟩
 unfold s_q04 at h
 exact f_q04_go2 (l_q04 v) _ h
noncomputable def c_q04 : List A → ACall
 | [.lst (.one (.i .i64)) a0, .clo 186 [.ref (.rc [.v (.int .i8 a1), .v (.int .i8 a2), .fa 144 .u8 a3]), .ref (.lst (.one (.i .i64)) a4)]] => ⟨Int, s_q04 a0 a1 a2 a3 a4, fun r => .one (.v (.int .i64 r))⟩
 | _ => ACall.fail
theorem f_q04_sound : Sound Tryz.prog 90 c_q04 := by
 refine good f_q04_ctx f_q04_LV f_q04_c f_q04_rv 2 Tryz.func90 fun rs => ?_
 unfold c_q04
 split
 ·rename_i a0 a1 a2 a3 a4; intro v h; exact ⟨rfl, l_q04 v, rfl, (f_q04_top a0 a1 a2 a3 a4 _).trans (s_q04_ok a0 a1 a2 a3 a4 v h)⟩
 ·intro v h; cases h
noncomputable def f_q00_c := codeC Tryz.f162
noncomputable def f_q00_X : Ctx := ⟨TT, phiOf [(90, c_q04)], noPsi, noXi⟩
def f_q00_LV : List (Nat × Keep) := []
def f_q00_rv : List ResultVar := [.tmp 4]
theorem f_q00_ctx : CtxOK Tryz.prog f_q00_X := ctx_of tab mix ⟨⟨Tryz.call90, f_q04_sound⟩, trivial⟩
noncomputable def s_q00 (a0 : List Int) (a1 a2 : Int) (a3 : Nat → Int) (a4 : List Int) : Option Bool := (Option.bind (s_q04 a0 a1 a2 a3 a4) fun r1 => (some (decide (r1 ≥ 0))))
theorem f_q00_top (a0 : List Int) (a1 a2 : Int) (a3 : Nat → Int) (a4 : List Int) (r : List A) : Tq f_q00_X f_q00_LV f_q00_c f_q00_rv r [.lst (.one (.i .i64)) a0, .clo 186 [.ref (.rc [.v (.int .i8 a1), .v (.int .i8 a2), .fa 144 .u8 a3]), .ref (.lst (.one (.i .i64)) a4)]] = (Option.bind (s_q04 a0 a1 a2 a3 a4) fun r1 => (some [.v (.bool (decide (r1 ≥ 0)))])) := by kernel_rfl
noncomputable def l_q00 (r : Bool) : List A := [.v (.bool r)]
theorem s_q00_ok (a0 : List Int) (a1 a2 : Int) (a3 : Nat → Int) (a4 : List Int) (v : Bool) (h : s_q00 a0 a1 a2 a3 a4 = some v) : (Option.bind (s_q04 a0 a1 a2 a3 a4) fun r1 => (some [.v (.bool (decide (r1 ≥ 0)))])) = some (l_q00 v) := by
 refine Eq.trans (b := Option.map l_q00 (s_q00 a0 a1 a2 a3 a4)) ?_ (by rw [h]; rfl)
 unfold s_q00
 exact (bind_app fun _ => rfl)
noncomputable def c_q00 : List A → ACall
 | [.lst (.one (.i .i64)) a0, .clo 186 [.ref (.rc [.v (.int .i8 a1), .v (.int .i8 a2), .fa 144 .u8 a3]), .ref (.lst (.one (.i .i64)) a4)]] => ⟨Bool, s_q00 a0 a1 a2 a3 a4, fun r => .one (.v (.bool r))⟩
 | _ => ACall.fail
theorem f_q00_sound : Sound Tryz.prog 162 c_q00 := by
 refine good f_q00_ctx f_q00_LV f_q00_c f_q00_rv 2 Tryz.func162 fun rs => ?_
 unfold c_q00
 split
 ·rename_i a0 a1 a2 a3 a4; intro v h; exact ⟨rfl, l_q00 v, rfl, (f_q00_top a0 a1 a2 a3 a4 _).trans (s_q00_ok a0 a1 a2 a3 a4 v h)⟩
 ·intro v h; cases h
noncomputable def f_q0g_c := codeC Tryz.f151
noncomputable def f_q0g_X : Ctx := ⟨TT, phiOf [(162, c_q00)], noPsi, noXi⟩
def f_q0g_LV : List (Nat × Keep) := []
def f_q0g_rv : List ResultVar := [.tmp 6]
theorem f_q0g_ctx : CtxOK Tryz.prog f_q0g_X := ctx_of tab mix ⟨⟨Tryz.call162, f_q00_sound⟩, trivial⟩
noncomputable def s_q0g (a0 a1 : Int) (a2 : Nat → Int) (a3 a4 : List Int) : Option Bool := (Option.bind (s_q00 a3 a0 a1 a2 a4) fun r1 => (some r1))
theorem f_q0g_top (a0 a1 : Int) (a2 : Nat → Int) (a3 a4 : List Int) (r : List A) : Tq f_q0g_X f_q0g_LV f_q0g_c f_q0g_rv r [.rc [.v (.int .i8 a0), .v (.int .i8 a1), .fa 144 .u8 a2], .lst (.one (.i .i64)) a3, .lst (.one (.i .i64)) a4] = (Option.bind (s_q00 a3 a0 a1 a2 a4) fun r1 => (some [.v (.bool r1)])) := by kernel_rfl
noncomputable def l_q0g (r : Bool) : List A := [.v (.bool r)]
theorem s_q0g_ok (a0 a1 : Int) (a2 : Nat → Int) (a3 a4 : List Int) (v : Bool) (h : s_q0g a0 a1 a2 a3 a4 = some v) : (Option.bind (s_q00 a3 a0 a1 a2 a4) fun r1 => (some [.v (.bool r1)])) = some (l_q0g v) := by
 refine Eq.trans (b := Option.map l_q0g (s_q0g a0 a1 a2 a3 a4)) ?_ (by rw [h]; rfl)
 unfold s_q0g
 exact (bind_app fun _ => rfl)
noncomputable def c_q0g : List A → ACall
 | [.rc [.v (.int .i8 a0), .v (.int .i8 a1), .fa 144 .u8 a2], .lst (.one (.i .i64)) a3, .lst (.one (.i .i64)) a4] => ⟨Bool, s_q0g a0 a1 a2 a3 a4, fun r => .one (.v (.bool r))⟩
 | _ => ACall.fail
theorem f_q0g_sound : Sound Tryz.prog 151 c_q0g := by
 refine good f_q0g_ctx f_q0g_LV f_q0g_c f_q0g_rv 3 Tryz.func151 fun rs => ?_
 unfold c_q0g
 split
 ·rename_i a0 a1 a2 a3 a4; intro v h; exact ⟨rfl, l_q0g v, rfl, (f_q0g_top a0 a1 a2 a3 a4 _).trans (s_q0g_ok a0 a1 a2 a3 a4 v h)⟩
 ·intro v h; cases h
noncomputable def f_q1k_c := codeC Tryz.f68
noncomputable def f_q1k_X : Ctx := ⟨TT, phiOf [(147, c_q0i), (149, c_q0e), (151, c_q0g), (76, c_q1v), (84, c_q1y)], noPsi, (xiOf [(148, h_gDeleteFunc)])⟩
def f_q1k_LV : List (Nat × Keep) := [(9, ([1, 2, 7, 8, 31, 32, 33], [], [])), (16, ([1, 2, 7, 8, 10, 12, 31, 32, 33, 49, 50, 51], [], []))]
def f_q1k_rv : List ResultVar := [.tmp 4, .tmp 5]
noncomputable def f_q1k_L := Lq f_q1k_X f_q1k_LV f_q1k_c f_q1k_rv
theorem f_q1k_ctx : CtxOK Tryz.prog f_q1k_X := ctx_ofH tab mix (l := [(147, c_q0i), (149, c_q0e), (151, c_q0g), (76, c_q1v), (84, c_q1y)]) ⟨⟨Tryz.call147, f_q0i_sound⟩, ⟨Tryz.call149, f_q0e_sound⟩, ⟨Tryz.call151, f_q0g_sound⟩, ⟨Tryz.call76, f_q1v_sound⟩, ⟨Tryz.call84, f_q1y_sound⟩, trivial⟩ psi_no (xi_ok (l := [(148, h_gDeleteFunc)]) ⟨⟨Tryz.call148, f_gDeleteFunc_sound⟩, trivial⟩)
noncomputable def f_q1k_s9 (x0 x1 x2 x3 x4 : Int) (x5 : Nat → Int) (x6 : (List (List Int))) (x7 : List (Int × Int)) : AS := ⟨[(1, .a (.v (.int .i64 x0))), (2, .a (.ptr 0 [] (0))), (7, .a (.sl 1)), (8, .a (.sl 2)), (31, .a (.sl 1)), (32, .a (.v (.int .i64 x1))), (33, .a (.v (.int .i64 x2)))], [(0, some ⟨true, .box (.rc [.v (.int .i8 x3), .v (.int .i8 x4), .fa 144 .u8 x5])⟩), (1, some ⟨true, .arr (.one (.ls .i64)) x6⟩), (2, some ⟨true, .arr (.st [(.i .i8), (.i .u16)]) x7⟩)], 3⟩
noncomputable def f_q1k_s16 (x0 x1 x2 x3 x4 x5 x6 : Int) (x7 : Nat → Int) (x8 : (List (List Int))) (x9 : List (Int × Int)) (x10 : List Int) (x11 x12 : Int) : AS := ⟨[(1, .a (.v (.int .i64 x0))), (2, .a (.ptr 0 [] (0))), (7, .a (.sl 1)), (8, .a (.sl 2)), (10, .a (.sl 3)), (12, .a (.ptr 4 [] (0))), (31, .a (.sl 1)), (32, .a (.v (.int .i64 x1))), (33, .a (.v (.int .i64 x2))), (49, .a (.sl 1)), (50, .a (.v (.int .i64 x3))), (51, .a (.v (.int .i64 x4)))], [(0, some ⟨true, .box (.rc [.v (.int .i8 x5), .v (.int .i8 x6), .fa 144 .u8 x7])⟩), (1, some ⟨true, .arr (.one (.ls .i64)) x8⟩), (2, some ⟨true, .arr (.st [(.i .i8), (.i .u16)]) x9⟩), (3, some ⟨false, .arr (.one (.i .i64)) x10⟩), (4, some ⟨true, .box (.rc [.v (.int .i8 x11), .v (.int .u16 x12)])⟩)], 5⟩
abbrev A_q1k := ((List (Int × Int)) × Int)
noncomputable def l_q1k (r : ((List (Int × Int)) × Int)) : List A := [.lst (.st [(.i .i8), (.i .u16)]) r.1, .v (.int .i64 r.2)]
abbrev Z_q1k_9 := (Int × Int × Int × Int × Int × (Nat → Int) × (List (List Int)) × (List (Int × Int)))
abbrev Y_q1k_9 := A_q1k
abbrev Z_q1k_16 := (Int × Int × Int × Int × Int × Int × Int × (Nat → Int) × (List (List Int)) × (List (Int × Int)) × (List Int) × Int × Int)
abbrev Y_q1k_16 := (Z_q1k_9 ⊕ Y_q1k_9)
section
variable {R R' : Type} {S : R → Prop} {r : R'} (E : A_q1k → Option R) (E' : A_q1k → Option R') (G9 : Z_q1k_9 → Option R) (G9' : Z_q1k_9 → Option R') (G16 : Z_q1k_16 → Option R) (G16' : Z_q1k_16 → Option R')
noncomputable def t_q1k_9 (x0 x1 x2 x3 x4 : Int) (x5 : Nat → Int) (x6 : (List (List Int))) (x7 : List (Int × Int)) : Option R := (cond (decide (x2 < x1)) (cond (inB x2 (List.length x6)) (cond (decide (x0 = 0)) none (cond (decide ((IntKind.wrap .i64 (Int.tdiv (IntKind.wrap .i64 ((IntKind.wrap .i64 (((List.length (List.getD x6 (Int.toNat x2) ([] : List Int)) : Nat) : Int) + x0)) - 1)) x0)) > 30)) (E ([], 3)) (G16 (x0, x1, x2, ((List.length x6 : Nat) : Int), 0, x3, x4, x5, x6, x7, (List.getD x6 (Int.toNat x2) ([] : List Int)), (IntKind.wrap .i8 (IntKind.wrap .i64 (Int.tdiv (IntKind.wrap .i64 ((IntKind.wrap .i64 (((List.length (List.getD x6 (Int.toNat x2) ([] : List Int)) : Nat) : Int) + x0)) - 1)) x0))), 0)))) none) (E (x7, 0)))
theorem t_q1k_9_sem (x0 x1 x2 x3 x4 : Int) (x5 : Nat → Int) (x6 : (List (List Int))) (x7 : List (Int × Int)) (h : sem S (t_q1k_9 E G16 x0 x1 x2 x3 x4 x5 x6 x7)) (hE : Leads S r E E') (h16 : Leads S r G16 G16') : t_q1k_9 E' G16' x0 x1 x2 x3 x4 x5 x6 x7 = some r := by
 revert h
 unfold t_q1k_9
 repeat' first | refine sem_condK ?_ ?_ | refine sem_bindK fun _ => ?_ | exact sem_noneK | exact hE _ | exact h16 _ | refine sem_bind2K (fun _ => ?_) (fun _ => ?_)
noncomputable def t_q1k_16 (x0 x1 x2 x3 x4 x5 x6 : Int) (x7 : Nat → Int) (x8 : (List (List Int))) (x9 : List (Int × Int)) (x10 : List Int) (x11 x12 : Int) : Option R := (cond (decide (x4 < x3)) (cond (inB x4 (List.length x8)) (cond (inB 0 (List.length (List.getD x8 (Int.toNat x4) ([] : List Int)))) (cond (inB (List.getD (List.getD x8 (Int.toNat x4) ([] : List Int)) 0 0) 144) (cond (inB 0 (List.length x10)) (cond (inB (List.getD x10 0 0) 144) (cond (decide ((x7 (Int.toNat (List.getD (List.getD x8 (Int.toNat x4) ([] : List Int)) 0 0))) < (x7 (Int.toNat (List.getD x10 0 0))))) (Option.bind (s_q0g x5 x6 x7 x10 (List.getD x8 (Int.toNat x4) ([] : List Int))) fun r3 => (cond r3 (cond (decide (x4 < 0)) none (G16 (x0, x1, x2, x3, (IntKind.wrap .i64 (x4 + 1)), x5, x6, x7, x8, x9, x10, x11, (bOr .u16 x12 (bShl .u16 1 x4))))) (G16 (x0, x1, x2, x3, (IntKind.wrap .i64 (x4 + 1)), x5, x6, x7, x8, x9, x10, x11, x12)))) (G16 (x0, x1, x2, x3, (IntKind.wrap .i64 (x4 + 1)), x5, x6, x7, x8, x9, x10, x11, x12))) none) none) none) none) none) (cond (fits ((List.length (x9 : List (Int × Int)) + List.length ([(x11, x12)] : List (Int × Int))) * 4)) (G9 (x0, x1, (IntKind.wrap .i64 (x2 + 1)), x5, x6, x7, x8, (x9 ++ [(x11, x12)]))) none))
theorem t_q1k_16_sem (x0 x1 x2 x3 x4 x5 x6 : Int) (x7 : Nat → Int) (x8 : (List (List Int))) (x9 : List (Int × Int)) (x10 : List Int) (x11 x12 : Int) (h : sem S (t_q1k_16 G9 G16 x0 x1 x2 x3 x4 x5 x6 x7 x8 x9 x10 x11 x12)) (h9 : Leads S r G9 G9') (h16 : Leads S r G16 G16') : t_q1k_16 G9' G16' x0 x1 x2 x3 x4 x5 x6 x7 x8 x9 x10 x11 x12 = some r := by
 revert h
 unfold t_q1k_16
 repeat' first | refine sem_condK ?_ ?_ | refine sem_bindK fun _ => ?_ | exact sem_noneK | exact h9 _ | exact h16 _ | refine sem_bind2K (fun _ => ?_) (fun _ => ?_)
noncomputable def t_q1k (a0 a1 : Int) (a2 : Nat → Int) (a3 : Int) : Option R := (cond ((s_q1v (s_q0i a0 a1 a2) (s_q1y a3 1 144)) != 0) (E ([], (s_q1v (s_q0i a0 a1 a2) (s_q1y a3 1 144)))) (Option.bind (s_q0e a0 a1 a2) fun r1 => (Option.bind (s_gDeleteFunc r1 a0 a1 a2) fun r2 => (cond (decide (((List.length r2.1 : Nat) : Int) > 12)) (E ([], 3)) (G9 (a3, ((List.length r2.1 : Nat) : Int), 0, r2.2.1, r2.2.2.1, r2.2.2.2, r2.1, []))))))
theorem t_q1k_sem (a0 a1 : Int) (a2 : Nat → Int) (a3 : Int) (h : sem S (t_q1k E G9 a0 a1 a2 a3)) (hE : Leads S r E E') (h9 : Leads S r G9 G9') : t_q1k E' G9' a0 a1 a2 a3 = some r := by
 revert h
 unfold t_q1k
 repeat' first | refine sem_condK ?_ ?_ | refine sem_bindK fun _ => ?_ | exact sem_noneK | exact hE _ | exact h9 _ | refine sem_bind2K (fun _ => ?_) (fun _ => ?_)
end
noncomputable def f_q1k_K9 (r : List A) (x : Z_q1k_9) : Option (List A) := f_q1k_L r 9 (f_q1k_s9 x.1 x.2.1 x.2.2.1 x.2.2.2.1 x.2.2.2.2.1 x.2.2.2.2.2.1 x.2.2.2.2.2.2.1 x.2.2.2.2.2.2.2)
noncomputable def f_q1k_K16 (r : List A) (x : Z_q1k_16) : Option (List A) := f_q1k_L r 16 (f_q1k_s16 x.1 x.2.1 x.2.2.1 x.2.2.2.1 x.2.2.2.2.1 x.2.2.2.2.2.1 x.2.2.2.2.2.2.1 x.2.2.2.2.2.2.2.1 x.2.2.2.2.2.2.2.2.1 x.2.2.2.2.2.2.2.2.2.1 x.2.2.2.2.2.2.2.2.2.2.1 x.2.2.2.2.2.2.2.2.2.2.2.1 x.2.2.2.2.2.2.2.2.2.2.2.2)
theorem f_q1k_step16 (x0 x1 x2 x3 x4 x5 x6 : Int) (x7 : Nat → Int) (x8 : (List (List Int))) (x9 : List (Int × Int)) (x10 : List Int) (x11 x12 : Int) (r : List A) (h : t_q1k_16 (f_q1k_K9 r) (f_q1k_K16 r) x0 x1 x2 x3 x4 x5 x6 x7 x8 x9 x10 x11 x12 = some r) : f_q1k_L r 16 (f_q1k_s16 x0 x1 x2 x3 x4 x5 x6 x7 x8 x9 x10 x11 x12) = some r :=
 step_of' h (by kernel_rfl)
noncomputable def f_q1k_n16 (x0 x1 x2 x3 x4 x5 x6 : Int) (x7 : Nat → Int) (x8 : (List (List Int))) (x9 : List (Int × Int)) (x10 : List Int) (x11 x12 : Int) : Option (Z_q1k_16 ⊕ Y_q1k_16) := t_q1k_16 (fun x => some (Sum.inr (Sum.inl x))) (fun x => some (Sum.inl x)) x0 x1 x2 x3 x4 x5 x6 x7 x8 x9 x10 x11 x12
noncomputable def f_q1k_run16 (x : Z_q1k_16) : Option Y_q1k_16 := iter (fun x => f_q1k_n16 x.1 x.2.1 x.2.2.1 x.2.2.2.1 x.2.2.2.2.1 x.2.2.2.2.2.1 x.2.2.2.2.2.2.1 x.2.2.2.2.2.2.2.1 x.2.2.2.2.2.2.2.2.1 x.2.2.2.2.2.2.2.2.2.1 x.2.2.2.2.2.2.2.2.2.2.1 x.2.2.2.2.2.2.2.2.2.2.2.1 x.2.2.2.2.2.2.2.2.2.2.2.2) FU x
noncomputable def f_q1k_G16 (r : List A) (x : Z_q1k_16) : Prop := f_q1k_K16 r x = some r
theorem f_q1k_step9 (x0 x1 x2 x3 x4 : Int) (x5 : Nat → Int) (x6 : (List (List Int))) (x7 : List (Int × Int)) (r : List A) (h : t_q1k_9 (fun v => some (l_q1k v)) (f_q1k_K16 r) x0 x1 x2 x3 x4 x5 x6 x7 = some r) : f_q1k_L r 9 (f_q1k_s9 x0 x1 x2 x3 x4 x5 x6 x7) = some r :=
 step_of' h (by kernel_rfl)
noncomputable def f_q1k_n9 (x0 x1 x2 x3 x4 : Int) (x5 : Nat → Int) (x6 : (List (List Int))) (x7 : List (Int × Int)) : Option (Z_q1k_9 ⊕ Y_q1k_9) := t_q1k_9 (fun v => some (Sum.inr v)) f_q1k_run16 x0 x1 x2 x3 x4 x5 x6 x7
noncomputable def f_q1k_run9 (x : Z_q1k_9) : Option Y_q1k_9 := iter (fun x => f_q1k_n9 x.1 x.2.1 x.2.2.1 x.2.2.2.1 x.2.2.2.2.1 x.2.2.2.2.2.1 x.2.2.2.2.2.2.1 x.2.2.2.2.2.2.2) FU x
noncomputable def f_q1k_G9 (r : List A) (x : Z_q1k_9) : Prop := f_q1k_K9 r x = some r
noncomputable def f_q1k_S9 (r : List A) : Y_q1k_9 → Prop := fun v => r = l_q1k v
noncomputable def f_q1k_S16 (r : List A) : Y_q1k_16 → Prop := goesOn (f_q1k_G9 r) (f_q1k_S9 r)
theorem f_q1k_go16 (r : List A) : ∀ x, sem (f_q1k_S16 r) (f_q1k_run16 x) → f_q1k_G16 r x :=
 fun x => iter_sound (G := f_q1k_G16 r) (E := f_q1k_S16 r) (step := fun x => f_q1k_n16 x.1 x.2.1 x.2.2.1 x.2.2.2.1 x.2.2.2.2.1 x.2.2.2.2.2.1 x.2.2.2.2.2.2.1 x.2.2.2.2.2.2.2.1 x.2.2.2.2.2.2.2.2.1 x.2.2.2.2.2.2.2.2.2.1 x.2.2.2.2.2.2.2.2.2.2.1 x.2.2.2.2.2.2.2.2.2.2.2.1 x.2.2.2.2.2.2.2.2.2.2.2.2) (fun x h => f_q1k_step16 x.1 x.2.1 x.2.2.1 x.2.2.2.1 x.2.2.2.2.1 x.2.2.2.2.2.1 x.2.2.2.2.2.2.1 x.2.2.2.2.2.2.2.1 x.2.2.2.2.2.2.2.2.1 x.2.2.2.2.2.2.2.2.2.1 x.2.2.2.2.2.2.2.2.2.2.1 x.2.2.2.2.2.2.2.2.2.2.2.1 x.2.2.2.2.2.2.2.2.2.2.2.2 r (t_q1k_16_sem _ _ _ _ x.1 x.2.1 x.2.2.1 x.2.2.2.1 x.2.2.2.2.1 x.2.2.2.2.2.1 x.2.2.2.2.2.2.1 x.2.2.2.2.2.2.2.1 x.2.2.2.2.2.2.2.2.1 x.2.2.2.2.2.2.2.2.2.1 x.2.2.2.2.2.2.2.2.2.2.1 x.2.2.2.2.2.2.2.2.2.2.2.1 x.2.2.2.2.2.2.2.2.2.2.2.2 h (fun _ h => sem_got h fun q => q) (fun _ h => sem_got h fun q => q))) FU x
theorem f_q1k_go9 (r : List A) : ∀ x, sem (f_q1k_S9 r) (f_q1k_run9 x) → f_q1k_G9 r x :=
 fun x => iter_sound (G := f_q1k_G9 r) (E := f_q1k_S9 r) (step := fun x => f_q1k_n9 x.1 x.2.1 x.2.2.1 x.2.2.2.1 x.2.2.2.2.1 x.2.2.2.2.2.1 x.2.2.2.2.2.2.1 x.2.2.2.2.2.2.2) (fun x h => f_q1k_step9 x.1 x.2.1 x.2.2.1 x.2.2.2.1 x.2.2.2.2.1 x.2.2.2.2.2.1 x.2.2.2.2.2.2.1 x.2.2.2.2.2.2.2 r (t_q1k_9_sem _ _ _ _ x.1 x.2.1 x.2.2.1 x.2.2.2.1 x.2.2.2.2.1 x.2.2.2.2.2.1 x.2.2.2.2.2.2.1 x.2.2.2.2.2.2.2 h (fun _ h => sem_got h fun q => some_eq q) (f_q1k_go16 r))) FU x
noncomputable def s_q1k (a0 a1 : Int) (a2 : Nat → Int) (a3 : Int) : Option ((List (Int × Int)) × Int) := t_q1k some f_q1k_run9 a0 a1 a2 a3
theorem f_q1k_top (a0 a1 : Int) (a2 : Nat → Int) (a3 : Int) (r : List A) : Tq f_q1k_X f_q1k_LV f_q1k_c f_q1k_rv r [.rc [.v (.int .i8 a0), .v (.int .i8 a1), .fa 144 .u8 a2], .v (.int .i64 a3)] = t_q1k (fun v => some (l_q1k v)) (f_q1k_K9 r) a0 a1 a2 a3 := by kernel_rfl
theorem s_q1k_ok (a0 a1 : Int) (a2 : Nat → Int) (a3 : Int) (v : ((List (Int × Int)) × Int)) (h : s_q1k a0 a1 a2 a3 = some v) : t_q1k (fun v => some (l_q1k v)) (f_q1k_K9 (l_q1k v)) a0 a1 a2 a3 = some (l_q1k v) :=
 t_q1k_sem _ _ _ _ a0 a1 a2 a3 (show sem (fun w => l_q1k v = l_q1k w) (s_q1k a0 a1 a2 a3) from ⟨v, h, rfl⟩) (fun _ h => sem_got h fun q => some_eq q) (f_q1k_go9 (l_q1k v))
noncomputable def c_q1k : List A → ACall
 | [.rc [.v (.int .i8 a0), .v (.int .i8 a1), .fa 144 .u8 a2], .v (.int .i64 a3)] => ⟨((List (Int × Int)) × Int), s_q1k a0 a1 a2 a3, fun r => .tup [.lst (.st [(.i .i8), (.i .u16)]) r.1, .v (.int .i64 r.2)]⟩
 | _ => ACall.fail
theorem f_q1k_sound : Sound Tryz.prog 68 c_q1k := by
 refine good f_q1k_ctx f_q1k_LV f_q1k_c f_q1k_rv 2 Tryz.func68 fun rs => ?_
 unfold c_q1k
 split
 ·rename_i a0 a1 a2 a3; intro v h; exact ⟨rfl, l_q1k v, rfl, (f_q1k_top a0 a1 a2 a3 _).trans (s_q1k_ok a0 a1 a2 a3 v h)⟩
 ·intro v h; cases h
end Go.RR
