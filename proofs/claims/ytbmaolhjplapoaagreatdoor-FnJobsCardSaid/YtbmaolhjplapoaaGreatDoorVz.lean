/- The law. -/
import Derived.Test.YtbmaolhjplapoaaGreatDoorVy
set_option linter.unusedVariables false
set_option linter.unusedSimpArgs false
set_option linter.unusedSectionVars false
set_option maxRecDepth 100000
namespace Go.RR
open Go Go.Proofs
noncomputable def f_q24_c := codeC Tryz.f6
noncomputable def f_q24_X : Ctx := ⟨TT, phiOf [], noPsi, noXi⟩
def f_q24_LV : List (Nat × Keep) := []
def f_q24_rv : List ResultVar := [.tmp 4]
theorem f_q24_ctx : CtxOK Tryz.prog f_q24_X := ctx_of tab mix trivial
noncomputable def s_q24 (a0 a1 : List Int) : Bool := (cond (decide (((List.length a0 : Nat) : Int) > 3000)) true (decide (((List.length a1 : Nat) : Int) > 3000)))
theorem f_q24_top (a0 a1 : List Int) (r : List A) : Tq f_q24_X f_q24_LV f_q24_c f_q24_rv r [.lst (.one (.i .u8)) a0, .lst (.one (.i .u8)) a1] = (cond (decide (((List.length a0 : Nat) : Int) > 3000)) (some [.v (.bool true)]) (some [.v (.bool (decide (((List.length a1 : Nat) : Int) > 3000)))])) := by kernel_rfl
noncomputable def l_q24 (r : Bool) : List A := [.v (.bool r)]
theorem s_q24_ok (a0 a1 : List Int) : (cond (decide (((List.length a0 : Nat) : Int) > 3000)) (some [.v (.bool true)]) (some [.v (.bool (decide (((List.length a1 : Nat) : Int) > 3000)))])) = some (l_q24 (s_q24 a0 a1)) := by
 unfold s_q24
 exact (cond_app (fun x => some (l_q24 x)) rfl rfl)
noncomputable def c_q24 : List A → ACall
 | [.lst (.one (.i .u8)) a0, .lst (.one (.i .u8)) a1] => ⟨Bool, some (s_q24 a0 a1), fun r => .one (.v (.bool r))⟩
 | _ => ACall.fail
theorem f_q24_sound : Sound Tryz.prog 6 c_q24 := by
 refine good f_q24_ctx f_q24_LV f_q24_c f_q24_rv 2 Tryz.func6 fun rs => ?_
 unfold c_q24
 split
 ·rename_i a0 a1; intro v h; cases h; exact ⟨rfl, l_q24 (s_q24 a0 a1), rfl, (f_q24_top a0 a1 _).trans (s_q24_ok a0 a1)⟩
 ·intro v h; cases h
noncomputable def f_q2b_c := codeC Tryz.f8
noncomputable def f_q2b_X : Ctx := ⟨TT, phiOf [], noPsi, noXi⟩
def f_q2b_LV : List (Nat × Keep) := []
def f_q2b_rv : List ResultVar := [.tmp 6]
theorem f_q2b_ctx : CtxOK Tryz.prog f_q2b_X := ctx_of tab mix trivial
noncomputable def s_q2b (a0 : List Int) (a1 a2 : Int) : Option Int := (cond (decide (a1 ≥ ((List.length a0 : Nat) : Int))) (some 0) (cond (decide (a2 < 1)) (some 0) (cond (inB a1 (List.length a0)) (cond (decide (a2 = 0)) none (some (Int.tmod (IntKind.wrap .i64 (List.getD a0 (Int.toNat a1) 0)) a2))) none)))
theorem f_q2b_top (a0 : List Int) (a1 a2 : Int) (r : List A) : Tq f_q2b_X f_q2b_LV f_q2b_c f_q2b_rv r [.lst (.one (.i .u8)) a0, .v (.int .i64 a1), .v (.int .i64 a2)] = (cond (decide (a1 ≥ ((List.length a0 : Nat) : Int))) (some [.v (.int .i64 0)]) (cond (decide (a2 < 1)) (some [.v (.int .i64 0)]) (cond (inB a1 (List.length a0)) (cond (decide (a2 = 0)) none (some [.v (.int .i64 (Int.tmod (IntKind.wrap .i64 (List.getD a0 (Int.toNat a1) 0)) a2))])) none))) := by kernel_rfl
noncomputable def l_q2b (r : Int) : List A := [.v (.int .i64 r)]
theorem s_q2b_ok (a0 : List Int) (a1 a2 v : Int) (h : s_q2b a0 a1 a2 = some v) : (cond (decide (a1 ≥ ((List.length a0 : Nat) : Int))) (some [.v (.int .i64 0)]) (cond (decide (a2 < 1)) (some [.v (.int .i64 0)]) (cond (inB a1 (List.length a0)) (cond (decide (a2 = 0)) none (some [.v (.int .i64 (Int.tmod (IntKind.wrap .i64 (List.getD a0 (Int.toNat a1) 0)) a2))])) none))) = some (l_q2b v) := by
 refine Eq.trans (b := Option.map l_q2b (s_q2b a0 a1 a2)) ?_ (by rw [h]; rfl)
 unfold s_q2b
 exact (cond_app (Option.map l_q2b) rfl (cond_app (Option.map l_q2b) rfl (cond_app (Option.map l_q2b) (cond_app (Option.map l_q2b) rfl rfl) rfl)))
noncomputable def c_q2b : List A → ACall
 | [.lst (.one (.i .u8)) a0, .v (.int .i64 a1), .v (.int .i64 a2)] => ⟨Int, s_q2b a0 a1 a2, fun r => .one (.v (.int .i64 r))⟩
 | _ => ACall.fail
theorem f_q2b_sound : Sound Tryz.prog 8 c_q2b := by
 refine good f_q2b_ctx f_q2b_LV f_q2b_c f_q2b_rv 3 Tryz.func8 fun rs => ?_
 unfold c_q2b
 split
 ·rename_i a0 a1 a2; intro v h; exact ⟨rfl, l_q2b v, rfl, (f_q2b_top a0 a1 a2 _).trans (s_q2b_ok a0 a1 a2 v h)⟩
 ·intro v h; cases h
noncomputable def f_q23_c := codeC Tryz.f5
noncomputable def f_q23_X : Ctx := ⟨TT, phiOf [(46, c_q1z), (47, c_q1b), (48, c_q19), (49, c_q1l), (50, c_q1s), (51, c_q0x), (52, c_q14), (53, c_q0q), (54, c_q0t), (55, c_q0h), (56, c_q0j), (57, c_q1a), (58, c_q1d), (59, c_q0s), (6, c_q24), (60, c_q12), (61, c_q20), (62, c_q0r), (63, c_q1j), (64, c_q1q), (65, c_q0y), (66, c_q15), (67, c_q13), (68, c_q1k), (69, c_q1r), (8, c_q2b)], noPsi, noXi⟩
def f_q23_LV : List (Nat × Keep) := [(19, ([1, 5, 10, 14, 18, 23, 24, 28, 30, 31], [], [])), (26, ([1, 5, 14, 18, 23, 24, 28, 33], [], [])), (31, ([1, 5, 14, 18, 23, 24, 28, 33, 34], [], [])), (37, ([1, 5, 14, 18, 23, 24, 35, 36], [], []))]
def f_q23_rv : List ResultVar := [.tmp 4]
noncomputable def f_q23_L := Lq f_q23_X f_q23_LV f_q23_c f_q23_rv
theorem f_q23_ctx : CtxOK Tryz.prog f_q23_X := ctx_of tab mix ⟨⟨Tryz.call46, f_q1z_sound⟩, ⟨Tryz.call47, f_q1b_sound⟩, ⟨Tryz.call48, f_q19_sound⟩, ⟨Tryz.call49, f_q1l_sound⟩, ⟨Tryz.call50, f_q1s_sound⟩, ⟨Tryz.call51, f_q0x_sound⟩, ⟨Tryz.call52, f_q14_sound⟩, ⟨Tryz.call53, f_q0q_sound⟩, ⟨Tryz.call54, f_q0t_sound⟩, ⟨Tryz.call55, f_q0h_sound⟩, ⟨Tryz.call56, f_q0j_sound⟩, ⟨Tryz.call57, f_q1a_sound⟩, ⟨Tryz.call58, f_q1d_sound⟩, ⟨Tryz.call59, f_q0s_sound⟩, ⟨Tryz.call6, f_q24_sound⟩, ⟨Tryz.call60, f_q12_sound⟩, ⟨Tryz.call61, f_q20_sound⟩, ⟨Tryz.call62, f_q0r_sound⟩, ⟨Tryz.call63, f_q1j_sound⟩, ⟨Tryz.call64, f_q1q_sound⟩, ⟨Tryz.call65, f_q0y_sound⟩, ⟨Tryz.call66, f_q15_sound⟩, ⟨Tryz.call67, f_q13_sound⟩, ⟨Tryz.call68, f_q1k_sound⟩, ⟨Tryz.call69, f_q1r_sound⟩, ⟨Tryz.call8, f_q2b_sound⟩, trivial⟩
noncomputable def f_q23_s19 (x0 x1 x2 : Int) (x3 : List Int) (x4 : List (Int × Int)) (x5 x6 x7 x8 x9 : List Int) : AS := ⟨[(1, .a (.sl 0)), (5, .a (.sl 1)), (10, .a (.sl 2)), (14, .a (.sl 3)), (18, .a (.sl 4)), (23, .a (.sl 5)), (24, .a (.v (.int .i64 x0))), (28, .a (.sl 6)), (30, .a (.v (.int .u16 x1))), (31, .a (.v (.int .i64 x2)))], [(0, some ⟨false, .arr (.one (.i .u8)) x3⟩), (1, some ⟨true, .arr (.st [(.i .i8), (.i .u16)]) x4⟩), (2, some ⟨true, .arr (.one (.i .i64)) x5⟩), (3, some ⟨true, .arr (.one (.i .u16)) x6⟩), (4, some ⟨true, .arr (.one (.i .i64)) x7⟩), (5, some ⟨true, .arr (.one (.i .i64)) x8⟩), (6, some ⟨true, .arr (.one (.i .i64)) x9⟩)], 7⟩
noncomputable def f_q23_s26 (x0 x1 : Int) (x2 : List Int) (x3 : List (Int × Int)) (x4 x5 x6 x7 : List Int) : AS := ⟨[(1, .a (.sl 0)), (5, .a (.sl 1)), (14, .a (.sl 2)), (18, .a (.sl 3)), (23, .a (.sl 4)), (24, .a (.v (.int .i64 x0))), (28, .a (.sl 5)), (33, .a (.v (.int .i64 x1)))], [(0, some ⟨false, .arr (.one (.i .u8)) x2⟩), (1, some ⟨true, .arr (.st [(.i .i8), (.i .u16)]) x3⟩), (2, some ⟨true, .arr (.one (.i .u16)) x4⟩), (3, some ⟨true, .arr (.one (.i .i64)) x5⟩), (4, some ⟨true, .arr (.one (.i .i64)) x6⟩), (5, some ⟨true, .arr (.one (.i .i64)) x7⟩)], 6⟩
noncomputable def f_q23_s31 (x0 x1 x2 : Int) (x3 : List Int) (x4 : List (Int × Int)) (x5 x6 x7 x8 : List Int) : AS := ⟨[(1, .a (.sl 0)), (5, .a (.sl 1)), (14, .a (.sl 2)), (18, .a (.sl 3)), (23, .a (.sl 4)), (24, .a (.v (.int .i64 x0))), (28, .a (.sl 5)), (33, .a (.v (.int .i64 x1))), (34, .a (.v (.int .i64 x2)))], [(0, some ⟨false, .arr (.one (.i .u8)) x3⟩), (1, some ⟨true, .arr (.st [(.i .i8), (.i .u16)]) x4⟩), (2, some ⟨true, .arr (.one (.i .u16)) x5⟩), (3, some ⟨true, .arr (.one (.i .i64)) x6⟩), (4, some ⟨true, .arr (.one (.i .i64)) x7⟩), (5, some ⟨true, .arr (.one (.i .i64)) x8⟩)], 6⟩
noncomputable def f_q23_s37 (x0 x1 x2 : Int) (x3 : List Int) (x4 : List (Int × Int)) (x5 x6 x7 : List Int) : AS := ⟨[(1, .a (.sl 0)), (5, .a (.sl 1)), (14, .a (.sl 2)), (18, .a (.sl 3)), (23, .a (.sl 4)), (24, .a (.v (.int .i64 x0))), (35, .a (.v (.int .i64 x1))), (36, .a (.v (.int .i64 x2)))], [(0, some ⟨false, .arr (.one (.i .u8)) x3⟩), (1, some ⟨true, .arr (.st [(.i .i8), (.i .u16)]) x4⟩), (2, some ⟨true, .arr (.one (.i .u16)) x5⟩), (3, some ⟨true, .arr (.one (.i .i64)) x6⟩), (4, some ⟨true, .arr (.one (.i .i64)) x7⟩)], 5⟩
abbrev A_q23 := Bool
noncomputable def l_q23 (r : Bool) : List A := [.v (.bool r)]
abbrev Z_q23_19 := (Int × Int × Int × (List Int) × (List (Int × Int)) × (List Int) × (List Int) × (List Int) × (List Int) × (List Int))
abbrev Y_q23_19 := A_q23
abbrev Z_q23_26 := (Int × Int × (List Int) × (List (Int × Int)) × (List Int) × (List Int) × (List Int) × (List Int))
abbrev Y_q23_26 := A_q23
abbrev Z_q23_37 := (Int × Int × Int × (List Int) × (List (Int × Int)) × (List Int) × (List Int) × (List Int))
abbrev Y_q23_37 := A_q23
abbrev Z_q23_31 := (Int × Int × Int × (List Int) × (List (Int × Int)) × (List Int) × (List Int) × (List Int) × (List Int))
abbrev Y_q23_31 := (Z_q23_26 ⊕ Y_q23_26)
section
variable {R R' : Type} {S : R → Prop} {r : R'} (E : A_q23 → Option R) (E' : A_q23 → Option R') (G19 : Z_q23_19 → Option R) (G19' : Z_q23_19 → Option R') (G26 : Z_q23_26 → Option R) (G26' : Z_q23_26 → Option R') (G31 : Z_q23_31 → Option R) (G31' : Z_q23_31 → Option R') (G37 : Z_q23_37 → Option R) (G37' : Z_q23_37 → Option R')
noncomputable def t_q23_19 (x0 x1 x2 : Int) (x3 : List Int) (x4 : List (Int × Int)) (x5 x6 x7 x8 x9 : List Int) : Option R := (cond (decide (x2 < ((List.length x5 : Nat) : Int))) (cond (inB x2 (List.length x5)) (cond (decide ((List.getD x5 (Int.toNat x2) 0) < 0)) (E false) (cond (decide ((List.getD x5 (Int.toNat x2) 0) ≥ ((List.length x4 : Nat) : Int))) (E false) (cond (decide ((IntKind.wrap .u64 (List.getD x5 (Int.toNat x2) 0)) < 0)) none (cond ((bAnd .u16 (bShr .u16 x1 (IntKind.wrap .u64 (List.getD x5 (Int.toNat x2) 0))) 1) == 1) (E false) (cond (inB (List.getD x5 (Int.toNat x2) 0) (List.length x4)) (cond ((bAndNot .u16 (List.getD x4 (Int.toNat (List.getD x5 (Int.toNat x2) 0)) ((0, 0) : (Int × Int))).2 x1) != 0) (E false) (cond (decide ((IntKind.wrap .u64 (List.getD x5 (Int.toNat x2) 0)) < 0)) none (G19 (x0, (bOr .u16 x1 (bShl .u16 1 (IntKind.wrap .u64 (List.getD x5 (Int.toNat x2) 0)))), (IntKind.wrap .i64 (x2 + 1)), x3, x4, x5, x6, x7, x8, x9)))) none))))) none) (G26 (x0, 0, x3, x4, x6, x7, x8, x9)))
theorem t_q23_19_sem (x0 x1 x2 : Int) (x3 : List Int) (x4 : List (Int × Int)) (x5 x6 x7 x8 x9 : List Int) (h : sem S (t_q23_19 E G19 G26 x0 x1 x2 x3 x4 x5 x6 x7 x8 x9)) (hE : Leads S r E E') (h19 : Leads S r G19 G19') (h26 : Leads S r G26 G26') : t_q23_19 E' G19' G26' x0 x1 x2 x3 x4 x5 x6 x7 x8 x9 = some r := by
 revert h
 unfold t_q23_19
 repeat' first | refine sem_condK ?_ ?_ | refine sem_bindK fun _ => ?_ | exact sem_noneK | exact hE _ | exact h19 _ | exact h26 _ | refine sem_bind2K (fun _ => ?_) (fun _ => ?_)
noncomputable def t_q23_26 (x0 x1 : Int) (x2 : List Int) (x3 : List (Int × Int)) (x4 x5 x6 x7 : List Int) : Option R := (cond (decide (x1 < ((List.length x3 : Nat) : Int))) (cond (inB x1 (List.length x5)) (cond (decide ((List.getD x5 (Int.toNat x1) 0) < 0)) (E false) (cond (inB x1 (List.length x7)) (cond (inB x1 (List.length x5)) (cond (decide ((List.getD x7 (Int.toNat x1) 0) < (List.getD x5 (Int.toNat x1) 0))) (E false) (cond (inB x1 (List.length x5)) (cond (inB x1 (List.length x3)) (cond (decide ((IntKind.wrap .i64 ((List.getD x5 (Int.toNat x1) 0) + (IntKind.wrap .i64 (List.getD x3 (Int.toNat x1) ((0, 0) : (Int × Int))).1))) > x0)) (E false) (cond (inB x1 (List.length x4)) (cond (inB x1 (List.length x3)) (cond (inB x1 (List.length x3)) (cond ((bAnd .u16 (List.getD x4 (Int.toNat x1) 0) (List.getD x3 (Int.toNat x1) ((0, 0) : (Int × Int))).2) != (List.getD x3 (Int.toNat x1) ((0, 0) : (Int × Int))).2) (E false) (cond (inB x1 (List.length x4)) (cond (decide ((IntKind.wrap .u64 x1) < 0)) none (cond ((bAnd .u16 (bShr .u16 (List.getD x4 (Int.toNat x1) 0) (IntKind.wrap .u64 x1)) 1) == 1) (E false) (G31 (x0, x1, 0, x2, x3, x4, x5, x6, x7)))) none)) none) none) none)) none) none)) none) none)) none) (G37 (x0, 0, 0, x2, x3, x4, x5, x6)))
theorem t_q23_26_sem (x0 x1 : Int) (x2 : List Int) (x3 : List (Int × Int)) (x4 x5 x6 x7 : List Int) (h : sem S (t_q23_26 E G31 G37 x0 x1 x2 x3 x4 x5 x6 x7)) (hE : Leads S r E E') (h31 : Leads S r G31 G31') (h37 : Leads S r G37 G37') : t_q23_26 E' G31' G37' x0 x1 x2 x3 x4 x5 x6 x7 = some r := by
 revert h
 unfold t_q23_26
 repeat' first | refine sem_condK ?_ ?_ | refine sem_bindK fun _ => ?_ | exact sem_noneK | exact hE _ | exact h31 _ | exact h37 _ | refine sem_bind2K (fun _ => ?_) (fun _ => ?_)
noncomputable def t_q23_31 (x0 x1 x2 : Int) (x3 : List Int) (x4 : List (Int × Int)) (x5 x6 x7 x8 : List Int) : Option R := (cond (decide (x2 < ((List.length x4 : Nat) : Int))) (cond (inB x1 (List.length x4)) (cond (decide ((IntKind.wrap .u64 x2) < 0)) none (cond ((bAnd .u16 (bShr .u16 (List.getD x4 (Int.toNat x1) ((0, 0) : (Int × Int))).2 (IntKind.wrap .u64 x2)) 1) == 1) (cond (inB x1 (List.length x6)) (cond (inB x2 (List.length x6)) (cond (inB x2 (List.length x4)) (cond (decide ((List.getD x6 (Int.toNat x1) 0) < (IntKind.wrap .i64 ((List.getD x6 (Int.toNat x2) 0) + (IntKind.wrap .i64 (List.getD x4 (Int.toNat x2) ((0, 0) : (Int × Int))).1))))) (E false) (cond (inB x1 (List.length x8)) (cond (inB x2 (List.length x8)) (cond (inB x2 (List.length x4)) (cond (decide ((List.getD x8 (Int.toNat x1) 0) < (IntKind.wrap .i64 ((List.getD x8 (Int.toNat x2) 0) + (IntKind.wrap .i64 (List.getD x4 (Int.toNat x2) ((0, 0) : (Int × Int))).1))))) (E false) (cond (inB x2 (List.length x5)) (cond (inB x1 (List.length x5)) (cond ((bAndNot .u16 (List.getD x5 (Int.toNat x2) 0) (List.getD x5 (Int.toNat x1) 0)) != 0) (E false) (G31 (x0, x1, (IntKind.wrap .i64 (x2 + 1)), x3, x4, x5, x6, x7, x8))) none) none)) none) none) none)) none) none) none) (G31 (x0, x1, (IntKind.wrap .i64 (x2 + 1)), x3, x4, x5, x6, x7, x8)))) none) (G26 (x0, (IntKind.wrap .i64 (x1 + 1)), x3, x4, x5, x6, x7, x8)))
theorem t_q23_31_sem (x0 x1 x2 : Int) (x3 : List Int) (x4 : List (Int × Int)) (x5 x6 x7 x8 : List Int) (h : sem S (t_q23_31 E G26 G31 x0 x1 x2 x3 x4 x5 x6 x7 x8)) (hE : Leads S r E E') (h26 : Leads S r G26 G26') (h31 : Leads S r G31 G31') : t_q23_31 E' G26' G31' x0 x1 x2 x3 x4 x5 x6 x7 x8 = some r := by
 revert h
 unfold t_q23_31
 repeat' first | refine sem_condK ?_ ?_ | refine sem_bindK fun _ => ?_ | exact sem_noneK | exact hE _ | exact h26 _ | exact h31 _ | refine sem_bind2K (fun _ => ?_) (fun _ => ?_)
noncomputable def t_q23_37 (x0 x1 x2 : Int) (x3 : List Int) (x4 : List (Int × Int)) (x5 x6 x7 : List Int) : Option R := (cond (decide (x2 < ((List.length x7 : Nat) : Int))) (cond (inB x2 (List.length x7)) (cond (decide ((List.getD x7 (Int.toNat x2) 0) < 0)) (E false) (cond (inB x2 (List.length x7)) (cond (decide ((List.getD x7 (Int.toNat x2) 0) ≥ ((List.length x4 : Nat) : Int))) (E false) (cond (decide (x2 > 0)) (cond (inB x2 (List.length x7)) (cond (inB (List.getD x7 (Int.toNat x2) 0) (List.length x4)) (cond (inB (IntKind.wrap .i64 (x2 - 1)) (List.length x7)) (cond (decide ((IntKind.wrap .u64 (List.getD x7 (Int.toNat (IntKind.wrap .i64 (x2 - 1))) 0)) < 0)) none (cond ((bAnd .u16 (bShr .u16 (List.getD x4 (Int.toNat (List.getD x7 (Int.toNat x2) 0)) ((0, 0) : (Int × Int))).2 (IntKind.wrap .u64 (List.getD x7 (Int.toNat (IntKind.wrap .i64 (x2 - 1))) 0))) 1) == 0) (E false) (cond (inB x2 (List.length x7)) (cond (inB (List.getD x7 (Int.toNat x2) 0) (List.length x6)) (cond ((List.getD x6 (Int.toNat (List.getD x7 (Int.toNat x2) 0)) 0) != x1) (E false) (cond (inB x2 (List.length x7)) (cond (inB (List.getD x7 (Int.toNat x2) 0) (List.length x4)) (G37 (x0, (IntKind.wrap .i64 (x1 + (IntKind.wrap .i64 (List.getD x4 (Int.toNat (List.getD x7 (Int.toNat x2) 0)) ((0, 0) : (Int × Int))).1))), (IntKind.wrap .i64 (x2 + 1)), x3, x4, x5, x6, x7)) none) none)) none) none))) none) none) none) (cond (inB x2 (List.length x7)) (cond (inB (List.getD x7 (Int.toNat x2) 0) (List.length x6)) (cond ((List.getD x6 (Int.toNat (List.getD x7 (Int.toNat x2) 0)) 0) != x1) (E false) (cond (inB x2 (List.length x7)) (cond (inB (List.getD x7 (Int.toNat x2) 0) (List.length x4)) (G37 (x0, (IntKind.wrap .i64 (x1 + (IntKind.wrap .i64 (List.getD x4 (Int.toNat (List.getD x7 (Int.toNat x2) 0)) ((0, 0) : (Int × Int))).1))), (IntKind.wrap .i64 (x2 + 1)), x3, x4, x5, x6, x7)) none) none)) none) none))) none)) none) (cond (x1 != x0) (E false) (cond (decide (((List.length x4 : Nat) : Int) > 0)) (Option.bind (s_q1a x4 (IntKind.wrap .i64 (x0 - 1))) fun r21 => (Option.bind (s_q2b x3 0 ((List.length x4 : Nat) : Int)) fun r22 => (Option.bind (s_q2b x3 1 ((List.length x4 : Nat) : Int)) fun r23 => (Option.bind (s_q1j x4 r22) fun r24 => (Option.bind (s_q1q x4 r22) fun r25 => (Option.bind (s_q0y x4 r22 r23) fun r26 => (Option.bind (s_q15 x4 r22 r23) fun r27 => (cond (r21.2 != 6) (E false) (cond (r24.2 != r25.2) (E false) (cond (r24.2 != 0) (E false) (Option.bind (s_q0s (r24.1) (r25.1)) fun r28 => (cond (!r28) (E false) (Option.bind (s_q12 (r25.1)) fun r29 => (cond (!r29) (E false) (cond (((List.length r25.1 : Nat) : Int) != (IntKind.wrap .i64 (((List.length x4 : Nat) : Int) - 1))) (E false) (cond (r26.2 != r27.2) (E false) (Option.bind (s_q0s (r26.1) (r27.1)) fun r30 => (cond (!r30) (E false) (cond (r22 != r23) (cond (inB r22 (List.length x5)) (cond (decide ((IntKind.wrap .u64 r23) < 0)) none (cond (!((r26.2 == 0) == ((bAnd .u16 (bShr .u16 (List.getD x5 (Int.toNat r22) 0) (IntKind.wrap .u64 r23)) 1) == 0))) (E false) (Option.bind (s_q13 x3) fun r31 => (Option.bind (s_q2b x3 2 5) fun r32 => (Option.bind (s_q1k (r31.1) (r31.2.1) (r31.2.2) (IntKind.wrap .i64 (1 + r32))) fun r33 => (Option.bind (s_q1r (r31.1) (r31.2.1) (r31.2.2) (IntKind.wrap .i64 (1 + r32))) fun r34 => (cond (r33.2 != r34.2) (E false) (Option.bind (s_q0s (r33.1) (r34.1)) fun r35 => (cond (!r35) (E false) (cond (r33.2 != 0) (E (r33.2 == 3)) (Option.bind (s_q12 (r34.1)) fun r36 => (E r36)))))))))))) none) (cond (!((r26.2 == 0) == false)) (E false) (Option.bind (s_q13 x3) fun r37 => (Option.bind (s_q2b x3 2 5) fun r38 => (Option.bind (s_q1k (r37.1) (r37.2.1) (r37.2.2) (IntKind.wrap .i64 (1 + r38))) fun r39 => (Option.bind (s_q1r (r37.1) (r37.2.1) (r37.2.2) (IntKind.wrap .i64 (1 + r38))) fun r40 => (cond (r39.2 != r40.2) (E false) (Option.bind (s_q0s (r39.1) (r40.1)) fun r41 => (cond (!r41) (E false) (cond (r39.2 != 0) (E (r39.2 == 3)) (Option.bind (s_q12 (r40.1)) fun r42 => (E r42)))))))))))))))))))))))))))))) (Option.bind (s_q13 x3) fun r43 => (Option.bind (s_q2b x3 2 5) fun r44 => (Option.bind (s_q1k (r43.1) (r43.2.1) (r43.2.2) (IntKind.wrap .i64 (1 + r44))) fun r45 => (Option.bind (s_q1r (r43.1) (r43.2.1) (r43.2.2) (IntKind.wrap .i64 (1 + r44))) fun r46 => (cond (r45.2 != r46.2) (E false) (Option.bind (s_q0s (r45.1) (r46.1)) fun r47 => (cond (!r47) (E false) (cond (r45.2 != 0) (E (r45.2 == 3)) (Option.bind (s_q12 (r46.1)) fun r48 => (E r48)))))))))))))
theorem t_q23_37_sem (x0 x1 x2 : Int) (x3 : List Int) (x4 : List (Int × Int)) (x5 x6 x7 : List Int) (h : sem S (t_q23_37 E G37 x0 x1 x2 x3 x4 x5 x6 x7)) (hE : Leads S r E E') (h37 : Leads S r G37 G37') : t_q23_37 E' G37' x0 x1 x2 x3 x4 x5 x6 x7 = some r := by
 revert h
 unfold t_q23_37
 repeat' first | refine sem_condK ?_ ?_ | refine sem_bindK fun _ => ?_ | exact sem_noneK | exact hE _ | exact h37 _ | refine sem_bind2K (fun _ => ?_) (fun _ => ?_)
noncomputable def t_q23 (a0 a1 : List Int) : Option R := (cond (s_q24 a0 a1) (E true) (Option.bind (s_q1z a0) fun r1 => (Option.bind (s_q19 r1) fun r2 => (Option.bind (s_q1b r2) fun r3 => (Option.bind (s_q1l r1) fun r4 => (Option.bind (s_q1s r1) fun r5 => (Option.bind (s_q0x r1) fun r6 => (Option.bind (s_q14 r1) fun r7 => (Option.bind (s_q0q r1) fun r8 => (Option.bind (s_q0t r1) fun r9 => (Option.bind (s_q0h r1) fun r10 => (Option.bind (s_q0j r1) fun r11 => (Option.bind (s_q1a r1 (r11.2.1)) fun r12 => (Option.bind (s_q1d r1 (r11.2.1)) fun r13 => (cond (r3.2 != 0) (E false) (Option.bind (s_q0s (r3.1) r1) fun r14 => (cond (!r14) (E false) (Option.bind (s_q12 r1) fun r15 => (cond (!r15) (E false) (cond (r4.2 != r5.2) (E false) (cond (r4.2 != 0) (E false) (Option.bind (s_q20 (r4.1) (r5.1)) fun r16 => (cond (!r16) (E false) (cond (r6.2 != r7.2) (E false) (cond (r6.2 != 0) (E false) (Option.bind (s_q0r (r6.1) (r7.1)) fun r17 => (cond (!r17) (E false) (cond (r8.2 != r9.2) (E false) (cond (r8.2 != 0) (E false) (Option.bind (s_q20 (r8.1) (r9.1)) fun r18 => (cond (!r18) (E false) (cond (r10.2.2 != r11.2.2) (E false) (cond (r10.2.2 != 0) (E false) (Option.bind (s_q20 (r10.1) (r11.1)) fun r19 => (cond (!r19) (E false) (cond (r10.2.1 != r11.2.1) (E false) (cond (r12.2 != r13.2) (E false) (cond (r12.2 != 0) (E false) (Option.bind (s_q20 (r12.1) (r13.1)) fun r20 => (cond (!r20) (E false) (cond (((List.length r5.1 : Nat) : Int) != ((List.length r1 : Nat) : Int)) (E false) (G19 (r11.2.1, 0, 0, a1, r1, r5.1, r7.1, r9.1, r11.1, r13.1)))))))))))))))))))))))))))))))))))))))))))
theorem t_q23_sem (a0 a1 : List Int) (h : sem S (t_q23 E G19 a0 a1)) (hE : Leads S r E E') (h19 : Leads S r G19 G19') : t_q23 E' G19' a0 a1 = some r := by
 revert h
 unfold t_q23
 repeat' first | refine sem_condK ?_ ?_ | refine sem_bindK fun _ => ?_ | exact sem_noneK | exact hE _ | exact h19 _ | refine sem_bind2K (fun _ => ?_) (fun _ => ?_)
end
noncomputable def f_q23_K19 (r : List A) (x : Z_q23_19) : Option (List A) := f_q23_L r 19 (f_q23_s19 x.1 x.2.1 x.2.2.1 x.2.2.2.1 x.2.2.2.2.1 x.2.2.2.2.2.1 x.2.2.2.2.2.2.1 x.2.2.2.2.2.2.2.1 x.2.2.2.2.2.2.2.2.1 x.2.2.2.2.2.2.2.2.2)
noncomputable def f_q23_K26 (r : List A) (x : Z_q23_26) : Option (List A) := f_q23_L r 26 (f_q23_s26 x.1 x.2.1 x.2.2.1 x.2.2.2.1 x.2.2.2.2.1 x.2.2.2.2.2.1 x.2.2.2.2.2.2.1 x.2.2.2.2.2.2.2)
noncomputable def f_q23_K31 (r : List A) (x : Z_q23_31) : Option (List A) := f_q23_L r 31 (f_q23_s31 x.1 x.2.1 x.2.2.1 x.2.2.2.1 x.2.2.2.2.1 x.2.2.2.2.2.1 x.2.2.2.2.2.2.1 x.2.2.2.2.2.2.2.1 x.2.2.2.2.2.2.2.2)
noncomputable def f_q23_K37 (r : List A) (x : Z_q23_37) : Option (List A) := f_q23_L r 37 (f_q23_s37 x.1 x.2.1 x.2.2.1 x.2.2.2.1 x.2.2.2.2.1 x.2.2.2.2.2.1 x.2.2.2.2.2.2.1 x.2.2.2.2.2.2.2)
theorem f_q23_step31 (x0 x1 x2 : Int) (x3 : List Int) (x4 : List (Int × Int)) (x5 x6 x7 x8 : List Int) (r : List A) (h : t_q23_31 (fun v => some (l_q23 v)) (f_q23_K26 r) (f_q23_K31 r) x0 x1 x2 x3 x4 x5 x6 x7 x8 = some r) : f_q23_L r 31 (f_q23_s31 x0 x1 x2 x3 x4 x5 x6 x7 x8) = some r :=
 step_of' h (by kernel_rfl)
noncomputable def f_q23_n31 (x0 x1 x2 : Int) (x3 : List Int) (x4 : List (Int × Int)) (x5 x6 x7 x8 : List Int) : Option (Z_q23_31 ⊕ Y_q23_31) := t_q23_31 (fun v => some (Sum.inr (Sum.inr v))) (fun x => some (Sum.inr (Sum.inl x))) (fun x => some (Sum.inl x)) x0 x1 x2 x3 x4 x5 x6 x7 x8
noncomputable def f_q23_run31 (x : Z_q23_31) : Option Y_q23_31 := iter (fun x => f_q23_n31 x.1 x.2.1 x.2.2.1 x.2.2.2.1 x.2.2.2.2.1 x.2.2.2.2.2.1 x.2.2.2.2.2.2.1 x.2.2.2.2.2.2.2.1 x.2.2.2.2.2.2.2.2) FU x
noncomputable def f_q23_G31 (r : List A) (x : Z_q23_31) : Prop := f_q23_K31 r x = some r
theorem f_q23_step37 (x0 x1 x2 : Int) (x3 : List Int) (x4 : List (Int × Int)) (x5 x6 x7 : List Int) (r : List A) (h : t_q23_37 (fun v => some (l_q23 v)) (f_q23_K37 r) x0 x1 x2 x3 x4 x5 x6 x7 = some r) : f_q23_L r 37 (f_q23_s37 x0 x1 x2 x3 x4 x5 x6 x7) = some r :=
 step_of' h (by kernel_rfl)
noncomputable def f_q23_n37 (x0 x1 x2 : Int) (x3 : List Int) (x4 : List (Int × Int)) (x5 x6 x7 : List Int) : Option (Z_q23_37 ⊕ Y_q23_37) := t_q23_37 (fun v => some (Sum.inr v)) (fun x => some (Sum.inl x)) x0 x1 x2 x3 x4 x5 x6 x7
noncomputable def f_q23_run37 (x : Z_q23_37) : Option Y_q23_37 := iter (fun x => f_q23_n37 x.1 x.2.1 x.2.2.1 x.2.2.2.1 x.2.2.2.2.1 x.2.2.2.2.2.1 x.2.2.2.2.2.2.1 x.2.2.2.2.2.2.2) FU x
noncomputable def f_q23_G37 (r : List A) (x : Z_q23_37) : Prop := f_q23_K37 r x = some r
theorem f_q23_step26 (x0 x1 : Int) (x2 : List Int) (x3 : List (Int × Int)) (x4 x5 x6 x7 : List Int) (r : List A) (h : t_q23_26 (fun v => some (l_q23 v)) (f_q23_K31 r) (f_q23_K37 r) x0 x1 x2 x3 x4 x5 x6 x7 = some r) : f_q23_L r 26 (f_q23_s26 x0 x1 x2 x3 x4 x5 x6 x7) = some r :=
 step_of' h (by kernel_rfl)
noncomputable def f_q23_n26 (x0 x1 : Int) (x2 : List Int) (x3 : List (Int × Int)) (x4 x5 x6 x7 : List Int) : Option (Z_q23_26 ⊕ Y_q23_26) := t_q23_26 (fun v => some (Sum.inr v)) f_q23_run31 (fun x => Option.map (fun x => (Sum.inr x)) (f_q23_run37 x)) x0 x1 x2 x3 x4 x5 x6 x7
noncomputable def f_q23_run26 (x : Z_q23_26) : Option Y_q23_26 := iter (fun x => f_q23_n26 x.1 x.2.1 x.2.2.1 x.2.2.2.1 x.2.2.2.2.1 x.2.2.2.2.2.1 x.2.2.2.2.2.2.1 x.2.2.2.2.2.2.2) FU x
noncomputable def f_q23_G26 (r : List A) (x : Z_q23_26) : Prop := f_q23_K26 r x = some r
theorem f_q23_step19 (x0 x1 x2 : Int) (x3 : List Int) (x4 : List (Int × Int)) (x5 x6 x7 x8 x9 : List Int) (r : List A) (h : t_q23_19 (fun v => some (l_q23 v)) (f_q23_K19 r) (f_q23_K26 r) x0 x1 x2 x3 x4 x5 x6 x7 x8 x9 = some r) : f_q23_L r 19 (f_q23_s19 x0 x1 x2 x3 x4 x5 x6 x7 x8 x9) = some r :=
 step_of' h (by kernel_rfl)
noncomputable def f_q23_n19 (x0 x1 x2 : Int) (x3 : List Int) (x4 : List (Int × Int)) (x5 x6 x7 x8 x9 : List Int) : Option (Z_q23_19 ⊕ Y_q23_19) := t_q23_19 (fun v => some (Sum.inr v)) (fun x => some (Sum.inl x)) (fun x => Option.map (fun x => (Sum.inr x)) (f_q23_run26 x)) x0 x1 x2 x3 x4 x5 x6 x7 x8 x9
noncomputable def f_q23_run19 (x : Z_q23_19) : Option Y_q23_19 := iter (fun x => f_q23_n19 x.1 x.2.1 x.2.2.1 x.2.2.2.1 x.2.2.2.2.1 x.2.2.2.2.2.1 x.2.2.2.2.2.2.1 x.2.2.2.2.2.2.2.1 x.2.2.2.2.2.2.2.2.1 x.2.2.2.2.2.2.2.2.2) FU x
noncomputable def f_q23_G19 (r : List A) (x : Z_q23_19) : Prop := f_q23_K19 r x = some r
noncomputable def f_q23_S26 (r : List A) : Y_q23_26 → Prop := fun v => r = l_q23 v
noncomputable def f_q23_S31 (r : List A) : Y_q23_31 → Prop := goesOn (f_q23_G26 r) (f_q23_S26 r)
noncomputable def f_q23_S37 (r : List A) : Y_q23_37 → Prop := fun v => r = l_q23 v
noncomputable def f_q23_S19 (r : List A) : Y_q23_19 → Prop := fun v => r = l_q23 v
theorem f_q23_go31 (r : List A) : ∀ x, sem (f_q23_S31 r) (f_q23_run31 x) → f_q23_G31 r x :=
 fun x => iter_sound (G := f_q23_G31 r) (E := f_q23_S31 r) (step := fun x => f_q23_n31 x.1 x.2.1 x.2.2.1 x.2.2.2.1 x.2.2.2.2.1 x.2.2.2.2.2.1 x.2.2.2.2.2.2.1 x.2.2.2.2.2.2.2.1 x.2.2.2.2.2.2.2.2) (fun x h => f_q23_step31 x.1 x.2.1 x.2.2.1 x.2.2.2.1 x.2.2.2.2.1 x.2.2.2.2.2.1 x.2.2.2.2.2.2.1 x.2.2.2.2.2.2.2.1 x.2.2.2.2.2.2.2.2 r (t_q23_31_sem _ _ _ _ _ _ x.1 x.2.1 x.2.2.1 x.2.2.2.1 x.2.2.2.2.1 x.2.2.2.2.2.1 x.2.2.2.2.2.2.1 x.2.2.2.2.2.2.2.1 x.2.2.2.2.2.2.2.2 h (fun _ h => sem_got h fun q => some_eq q) (fun _ h => sem_got h fun q => q) (fun _ h => sem_got h fun q => q))) FU x
theorem f_q23_go37 (r : List A) : ∀ x, sem (f_q23_S37 r) (f_q23_run37 x) → f_q23_G37 r x :=
 fun x => iter_sound (G := f_q23_G37 r) (E := f_q23_S37 r) (step := fun x => f_q23_n37 x.1 x.2.1 x.2.2.1 x.2.2.2.1 x.2.2.2.2.1 x.2.2.2.2.2.1 x.2.2.2.2.2.2.1 x.2.2.2.2.2.2.2) (fun x h => f_q23_step37 x.1 x.2.1 x.2.2.1 x.2.2.2.1 x.2.2.2.2.1 x.2.2.2.2.2.1 x.2.2.2.2.2.2.1 x.2.2.2.2.2.2.2 r (t_q23_37_sem _ _ _ _ x.1 x.2.1 x.2.2.1 x.2.2.2.1 x.2.2.2.2.1 x.2.2.2.2.2.1 x.2.2.2.2.2.2.1 x.2.2.2.2.2.2.2 h (fun _ h => sem_got h fun q => some_eq q) (fun _ h => sem_got h fun q => q))) FU x
theorem f_q23_go26 (r : List A) : ∀ x, sem (f_q23_S26 r) (f_q23_run26 x) → f_q23_G26 r x :=
 fun x => iter_sound (G := f_q23_G26 r) (E := f_q23_S26 r) (step := fun x => f_q23_n26 x.1 x.2.1 x.2.2.1 x.2.2.2.1 x.2.2.2.2.1 x.2.2.2.2.2.1 x.2.2.2.2.2.2.1 x.2.2.2.2.2.2.2) (fun x h => f_q23_step26 x.1 x.2.1 x.2.2.1 x.2.2.2.1 x.2.2.2.2.1 x.2.2.2.2.2.1 x.2.2.2.2.2.2.1 x.2.2.2.2.2.2.2 r (t_q23_26_sem _ _ _ _ _ _ x.1 x.2.1 x.2.2.1 x.2.2.2.1 x.2.2.2.2.1 x.2.2.2.2.2.1 x.2.2.2.2.2.2.1 x.2.2.2.2.2.2.2 h (fun _ h => sem_got h fun q => some_eq q) (f_q23_go31 r) (fun x h => f_q23_go37 r x (sem_mapk h fun _ q => q)))) FU x
theorem f_q23_go19 (r : List A) : ∀ x, sem (f_q23_S19 r) (f_q23_run19 x) → f_q23_G19 r x :=
 fun x => iter_sound (G := f_q23_G19 r) (E := f_q23_S19 r) (step := fun x => f_q23_n19 x.1 x.2.1 x.2.2.1 x.2.2.2.1 x.2.2.2.2.1 x.2.2.2.2.2.1 x.2.2.2.2.2.2.1 x.2.2.2.2.2.2.2.1 x.2.2.2.2.2.2.2.2.1 x.2.2.2.2.2.2.2.2.2) (fun x h => f_q23_step19 x.1 x.2.1 x.2.2.1 x.2.2.2.1 x.2.2.2.2.1 x.2.2.2.2.2.1 x.2.2.2.2.2.2.1 x.2.2.2.2.2.2.2.1 x.2.2.2.2.2.2.2.2.1 x.2.2.2.2.2.2.2.2.2 r (t_q23_19_sem _ _ _ _ _ _ x.1 x.2.1 x.2.2.1 x.2.2.2.1 x.2.2.2.2.1 x.2.2.2.2.2.1 x.2.2.2.2.2.2.1 x.2.2.2.2.2.2.2.1 x.2.2.2.2.2.2.2.2.1 x.2.2.2.2.2.2.2.2.2 h (fun _ h => sem_got h fun q => some_eq q) (fun _ h => sem_got h fun q => q) (fun x h => f_q23_go26 r x (sem_mapk h fun _ q => q)))) FU x
noncomputable def s_q23 (a0 a1 : List Int) : Option Bool := t_q23 some f_q23_run19 a0 a1
theorem f_q23_top (a0 a1 : List Int) (r : List A) : Tq f_q23_X f_q23_LV f_q23_c f_q23_rv r [.lst (.one (.i .u8)) a0, .lst (.one (.i .u8)) a1] = t_q23 (fun v => some (l_q23 v)) (f_q23_K19 r) a0 a1 := by kernel_rfl
theorem s_q23_ok (a0 a1 : List Int) (v : Bool) (h : s_q23 a0 a1 = some v) : t_q23 (fun v => some (l_q23 v)) (f_q23_K19 (l_q23 v)) a0 a1 = some (l_q23 v) :=
 t_q23_sem _ _ _ _ a0 a1 (show sem (fun w => l_q23 v = l_q23 w) (s_q23 a0 a1) from ⟨v, h, rfl⟩) (fun _ h => sem_got h fun q => some_eq q) (f_q23_go19 (l_q23 v))
noncomputable def c_q23 : List A → ACall
 | [.lst (.one (.i .u8)) a0, .lst (.one (.i .u8)) a1] => ⟨Bool, s_q23 a0 a1, fun r => .one (.v (.bool r))⟩
 | _ => ACall.fail
theorem f_q23_sound : Sound Tryz.prog 5 c_q23 := by
 refine good f_q23_ctx f_q23_LV f_q23_c f_q23_rv 2 Tryz.func5 fun rs => ?_
 unfold c_q23
 split
 ·rename_i a0 a1; intro v h; exact ⟨rfl, l_q23 v, rfl, (f_q23_top a0 a1 _).trans (s_q23_ok a0 a1 v h)⟩
 ·intro v h; cases h
end Go.RR
