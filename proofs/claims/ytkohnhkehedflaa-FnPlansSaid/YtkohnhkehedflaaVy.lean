/- Jobs and orders that are drawn. -/
import Derived.Test.YtkohnhkehedflaaVx
import Derived.Test.YtkohnhkehedflaaR3
set_option linter.unusedVariables false
set_option linter.unusedSimpArgs false
set_option linter.unusedSectionVars false
set_option maxRecDepth 100000
namespace Go.RR
open Go Go.Proofs
noncomputable def f_q1h_c : Code := match Try.f83.body with | some c => c | none => .skip
noncomputable def f_q1h_X : Ctx := ⟨TT, phiOf [], noPsi, noXi⟩
def f_q1h_LV : List (Nat × Keep) := []
def f_q1h_rv : List ResultVar := [.tmp 2]
noncomputable def f_q1h_hp0 : List (Nat × Option Blk) := [(0, some ⟨false, .arr (.one (.i .u8)) []⟩)]
noncomputable def f_q1h_L (r : HOut) : Nat → AS → Option HOut := L f_q1h_X (cnOfH 1 f_q1h_LV) f_q1h_c (K0H TT f_q1h_rv f_q1h_hp0) r
theorem f_q1h_ctx : CtxOK Try.prog f_q1h_X := ctx_of tab mix trivial
noncomputable def s_q1h (a0 : List Int) : (Int × Int) := (0, 0)
theorem f_q1h_top (a0 : List Int) (r : HOut) : ev f_q1h_X (lpc (cnOfH 1 f_q1h_LV) (f_q1h_L r)) f_q1h_c (K0H TT f_q1h_rv f_q1h_hp0) (enterH [.sl 0] [(0, some ⟨false, .arr (.one (.i .u8)) a0⟩)]) = (some ⟨.a (.ptr 1 [] (0)), [(1, some ⟨true, .box (.rc [.sl 0, .v (.int .i64 0), .v (.int .u64 0)])⟩)], 2⟩) := by kernel_rfl
noncomputable def l_q1h (r : (Int × Int)) : HOut := ⟨.a (.ptr 1 [] (0)), [(1, some ⟨true, .box (.rc [.sl 0, .v (.int .i64 r.1), .v (.int .u64 r.2)])⟩)], 2⟩
theorem s_q1h_ok (a0 : List Int) : (some ⟨.a (.ptr 1 [] (0)), [(1, some ⟨true, .box (.rc [.sl 0, .v (.int .i64 0), .v (.int .u64 0)])⟩)], 2⟩) = some (l_q1h (s_q1h a0)) := by
 unfold s_q1h
 exact rfl
noncomputable def h_q1h : HCon := fun xs hp => match xs, hp with
 | [.sl 0], [(0, some ⟨false, .arr (.one (.i .u8)) a0⟩)] => .one (Int × Int) (some (s_q1h a0)) l_q1h
 | _, _ => HAns.fail
theorem f_q1h_sound : HSound Try.prog 83 h_q1h := by
 refine sound_goodH f_q1h_ctx f_q1h_LV 1 1 f_q1h_hp0 Try.func83 (c := f_q1h_c) (by kernel_rfl) (rv := f_q1h_rv) (by kernel_rfl) (by kernel_rfl) (by kernel_rfl) (by kernel_rfl) fun xs hp => ?_
 unfold h_q1h
 split
 ·rename_i a0; intro v h; cases h; exact ⟨rfl, ⟨rfl, rfl⟩, (f_q1h_top a0 _).trans (s_q1h_ok a0)⟩
 ·intro v h; cases h
noncomputable def f_q0g_c : Code := match Try.f158.body with | some c => c | none => .skip
noncomputable def f_q0g_X : Ctx := ⟨TT, phiOf [], noPsi, noXi⟩
def f_q0g_LV : List (Nat × Keep) := []
def f_q0g_rv : List ResultVar := [.tmp 2]
noncomputable def f_q0g_hp0 : List (Nat × Option Blk) := [(0, some ⟨true, .box (.rc [.sl 1, .v (.bool false), .v (.bool false)])⟩), (1, some ⟨false, .arr (.one (.i .u8)) []⟩)]
noncomputable def f_q0g_L (r : HOut) : Nat → AS → Option HOut := L f_q0g_X (cnOfH 2 f_q0g_LV) f_q0g_c (K0H TT f_q0g_rv f_q0g_hp0) r
theorem f_q0g_ctx : CtxOK Try.prog f_q0g_X := ctx_of tab mix trivial
noncomputable def s_q0g (a0 a1 : Int) (a2 : List Int) : Option (Int × Int × Int) := (cond (decide (a0 < ((List.length a2 : Nat) : Int))) (cond (inB a0 (List.length a2)) (cond (decide ((IntKind.wrap .i64 (a0 + 1)) ≤ ((List.length a2 : Nat) : Int))) (some ((IntKind.wrap .i64 (List.getD a2 (Int.toNat a0) 0)), (IntKind.wrap .i64 (a0 + 1)), (IntKind.wrap .u64 ((IntKind.wrap .u64 ((IntKind.wrap .u64 (a1 * 6364136223846793005)) + (IntKind.wrap .u64 (IntKind.wrap .i64 (List.getD a2 (Int.toNat a0) 0))))) + 1442695040888963407)))) (cond (decide (40 < 0)) none (some ((IntKind.wrap .i64 (bAnd .u64 (bShr .u64 (IntKind.wrap .u64 ((IntKind.wrap .u64 ((IntKind.wrap .u64 (a1 * 6364136223846793005)) + (IntKind.wrap .u64 (IntKind.wrap .i64 (List.getD a2 (Int.toNat a0) 0))))) + 1442695040888963407)) 40) 255)), (IntKind.wrap .i64 (a0 + 1)), (IntKind.wrap .u64 ((IntKind.wrap .u64 ((IntKind.wrap .u64 (a1 * 6364136223846793005)) + (IntKind.wrap .u64 (IntKind.wrap .i64 (List.getD a2 (Int.toNat a0) 0))))) + 1442695040888963407)))))) none) (cond (decide ((IntKind.wrap .i64 (a0 + 1)) ≤ ((List.length a2 : Nat) : Int))) (some (0, (IntKind.wrap .i64 (a0 + 1)), (IntKind.wrap .u64 ((IntKind.wrap .u64 ((IntKind.wrap .u64 (a1 * 6364136223846793005)) + (IntKind.wrap .u64 0))) + 1442695040888963407)))) (cond (decide (40 < 0)) none (some ((IntKind.wrap .i64 (bAnd .u64 (bShr .u64 (IntKind.wrap .u64 ((IntKind.wrap .u64 ((IntKind.wrap .u64 (a1 * 6364136223846793005)) + (IntKind.wrap .u64 0))) + 1442695040888963407)) 40) 255)), (IntKind.wrap .i64 (a0 + 1)), (IntKind.wrap .u64 ((IntKind.wrap .u64 ((IntKind.wrap .u64 (a1 * 6364136223846793005)) + (IntKind.wrap .u64 0))) + 1442695040888963407)))))))
theorem f_q0g_top (a0 a1 : Int) (a2 : List Int) (r : HOut) : ev f_q0g_X (lpc (cnOfH 2 f_q0g_LV) (f_q0g_L r)) f_q0g_c (K0H TT f_q0g_rv f_q0g_hp0) (enterH [.ptr 0 [] (0)] [(0, some ⟨true, .box (.rc [.sl 1, .v (.int .i64 a0), .v (.int .u64 a1)])⟩), (1, some ⟨false, .arr (.one (.i .u8)) a2⟩)]) = (cond (decide (a0 < ((List.length a2 : Nat) : Int))) (cond (inB a0 (List.length a2)) (cond (decide ((IntKind.wrap .i64 (a0 + 1)) ≤ ((List.length a2 : Nat) : Int))) (some ⟨.a (.v (.int .i64 (IntKind.wrap .i64 (List.getD a2 (Int.toNat a0) 0)))), [(0, some ⟨true, .box (.rc [.sl 1, .v (.int .i64 (IntKind.wrap .i64 (a0 + 1))), .v (.int .u64 (IntKind.wrap .u64 ((IntKind.wrap .u64 ((IntKind.wrap .u64 (a1 * 6364136223846793005)) + (IntKind.wrap .u64 (IntKind.wrap .i64 (List.getD a2 (Int.toNat a0) 0))))) + 1442695040888963407)))])⟩)], 2⟩) (cond (decide (40 < 0)) none (some ⟨.a (.v (.int .i64 (IntKind.wrap .i64 (bAnd .u64 (bShr .u64 (IntKind.wrap .u64 ((IntKind.wrap .u64 ((IntKind.wrap .u64 (a1 * 6364136223846793005)) + (IntKind.wrap .u64 (IntKind.wrap .i64 (List.getD a2 (Int.toNat a0) 0))))) + 1442695040888963407)) 40) 255)))), [(0, some ⟨true, .box (.rc [.sl 1, .v (.int .i64 (IntKind.wrap .i64 (a0 + 1))), .v (.int .u64 (IntKind.wrap .u64 ((IntKind.wrap .u64 ((IntKind.wrap .u64 (a1 * 6364136223846793005)) + (IntKind.wrap .u64 (IntKind.wrap .i64 (List.getD a2 (Int.toNat a0) 0))))) + 1442695040888963407)))])⟩)], 2⟩))) none) (cond (decide ((IntKind.wrap .i64 (a0 + 1)) ≤ ((List.length a2 : Nat) : Int))) (some ⟨.a (.v (.int .i64 0)), [(0, some ⟨true, .box (.rc [.sl 1, .v (.int .i64 (IntKind.wrap .i64 (a0 + 1))), .v (.int .u64 (IntKind.wrap .u64 ((IntKind.wrap .u64 ((IntKind.wrap .u64 (a1 * 6364136223846793005)) + (IntKind.wrap .u64 0))) + 1442695040888963407)))])⟩)], 2⟩) (cond (decide (40 < 0)) none (some ⟨.a (.v (.int .i64 (IntKind.wrap .i64 (bAnd .u64 (bShr .u64 (IntKind.wrap .u64 ((IntKind.wrap .u64 ((IntKind.wrap .u64 (a1 * 6364136223846793005)) + (IntKind.wrap .u64 0))) + 1442695040888963407)) 40) 255)))), [(0, some ⟨true, .box (.rc [.sl 1, .v (.int .i64 (IntKind.wrap .i64 (a0 + 1))), .v (.int .u64 (IntKind.wrap .u64 ((IntKind.wrap .u64 ((IntKind.wrap .u64 (a1 * 6364136223846793005)) + (IntKind.wrap .u64 0))) + 1442695040888963407)))])⟩)], 2⟩)))) := by kernel_rfl
noncomputable def l_q0g (r : (Int × Int × Int)) : HOut := ⟨.a (.v (.int .i64 r.1)), [(0, some ⟨true, .box (.rc [.sl 1, .v (.int .i64 r.2.1), .v (.int .u64 r.2.2)])⟩)], 2⟩
theorem s_q0g_ok (a0 a1 : Int) (a2 : List Int) (v : (Int × Int × Int)) (h : s_q0g a0 a1 a2 = some v) : (cond (decide (a0 < ((List.length a2 : Nat) : Int))) (cond (inB a0 (List.length a2)) (cond (decide ((IntKind.wrap .i64 (a0 + 1)) ≤ ((List.length a2 : Nat) : Int))) (some ⟨.a (.v (.int .i64 (IntKind.wrap .i64 (List.getD a2 (Int.toNat a0) 0)))), [(0, some ⟨true, .box (.rc [.sl 1, .v (.int .i64 (IntKind.wrap .i64 (a0 + 1))), .v (.int .u64 (IntKind.wrap .u64 ((IntKind.wrap .u64 ((IntKind.wrap .u64 (a1 * 6364136223846793005)) + (IntKind.wrap .u64 (IntKind.wrap .i64 (List.getD a2 (Int.toNat a0) 0))))) + 1442695040888963407)))])⟩)], 2⟩) (cond (decide (40 < 0)) none (some ⟨.a (.v (.int .i64 (IntKind.wrap .i64 (bAnd .u64 (bShr .u64 (IntKind.wrap .u64 ((IntKind.wrap .u64 ((IntKind.wrap .u64 (a1 * 6364136223846793005)) + (IntKind.wrap .u64 (IntKind.wrap .i64 (List.getD a2 (Int.toNat a0) 0))))) + 1442695040888963407)) 40) 255)))), [(0, some ⟨true, .box (.rc [.sl 1, .v (.int .i64 (IntKind.wrap .i64 (a0 + 1))), .v (.int .u64 (IntKind.wrap .u64 ((IntKind.wrap .u64 ((IntKind.wrap .u64 (a1 * 6364136223846793005)) + (IntKind.wrap .u64 (IntKind.wrap .i64 (List.getD a2 (Int.toNat a0) 0))))) + 1442695040888963407)))])⟩)], 2⟩))) none) (cond (decide ((IntKind.wrap .i64 (a0 + 1)) ≤ ((List.length a2 : Nat) : Int))) (some ⟨.a (.v (.int .i64 0)), [(0, some ⟨true, .box (.rc [.sl 1, .v (.int .i64 (IntKind.wrap .i64 (a0 + 1))), .v (.int .u64 (IntKind.wrap .u64 ((IntKind.wrap .u64 ((IntKind.wrap .u64 (a1 * 6364136223846793005)) + (IntKind.wrap .u64 0))) + 1442695040888963407)))])⟩)], 2⟩) (cond (decide (40 < 0)) none (some ⟨.a (.v (.int .i64 (IntKind.wrap .i64 (bAnd .u64 (bShr .u64 (IntKind.wrap .u64 ((IntKind.wrap .u64 ((IntKind.wrap .u64 (a1 * 6364136223846793005)) + (IntKind.wrap .u64 0))) + 1442695040888963407)) 40) 255)))), [(0, some ⟨true, .box (.rc [.sl 1, .v (.int .i64 (IntKind.wrap .i64 (a0 + 1))), .v (.int .u64 (IntKind.wrap .u64 ((IntKind.wrap .u64 ((IntKind.wrap .u64 (a1 * 6364136223846793005)) + (IntKind.wrap .u64 0))) + 1442695040888963407)))])⟩)], 2⟩)))) = some (l_q0g v) := by
 have e : (cond (decide (a0 < ((List.length a2 : Nat) : Int))) (cond (inB a0 (List.length a2)) (cond (decide ((IntKind.wrap .i64 (a0 + 1)) ≤ ((List.length a2 : Nat) : Int))) (some ⟨.a (.v (.int .i64 (IntKind.wrap .i64 (List.getD a2 (Int.toNat a0) 0)))), [(0, some ⟨true, .box (.rc [.sl 1, .v (.int .i64 (IntKind.wrap .i64 (a0 + 1))), .v (.int .u64 (IntKind.wrap .u64 ((IntKind.wrap .u64 ((IntKind.wrap .u64 (a1 * 6364136223846793005)) + (IntKind.wrap .u64 (IntKind.wrap .i64 (List.getD a2 (Int.toNat a0) 0))))) + 1442695040888963407)))])⟩)], 2⟩) (cond (decide (40 < 0)) none (some ⟨.a (.v (.int .i64 (IntKind.wrap .i64 (bAnd .u64 (bShr .u64 (IntKind.wrap .u64 ((IntKind.wrap .u64 ((IntKind.wrap .u64 (a1 * 6364136223846793005)) + (IntKind.wrap .u64 (IntKind.wrap .i64 (List.getD a2 (Int.toNat a0) 0))))) + 1442695040888963407)) 40) 255)))), [(0, some ⟨true, .box (.rc [.sl 1, .v (.int .i64 (IntKind.wrap .i64 (a0 + 1))), .v (.int .u64 (IntKind.wrap .u64 ((IntKind.wrap .u64 ((IntKind.wrap .u64 (a1 * 6364136223846793005)) + (IntKind.wrap .u64 (IntKind.wrap .i64 (List.getD a2 (Int.toNat a0) 0))))) + 1442695040888963407)))])⟩)], 2⟩))) none) (cond (decide ((IntKind.wrap .i64 (a0 + 1)) ≤ ((List.length a2 : Nat) : Int))) (some ⟨.a (.v (.int .i64 0)), [(0, some ⟨true, .box (.rc [.sl 1, .v (.int .i64 (IntKind.wrap .i64 (a0 + 1))), .v (.int .u64 (IntKind.wrap .u64 ((IntKind.wrap .u64 ((IntKind.wrap .u64 (a1 * 6364136223846793005)) + (IntKind.wrap .u64 0))) + 1442695040888963407)))])⟩)], 2⟩) (cond (decide (40 < 0)) none (some ⟨.a (.v (.int .i64 (IntKind.wrap .i64 (bAnd .u64 (bShr .u64 (IntKind.wrap .u64 ((IntKind.wrap .u64 ((IntKind.wrap .u64 (a1 * 6364136223846793005)) + (IntKind.wrap .u64 0))) + 1442695040888963407)) 40) 255)))), [(0, some ⟨true, .box (.rc [.sl 1, .v (.int .i64 (IntKind.wrap .i64 (a0 + 1))), .v (.int .u64 (IntKind.wrap .u64 ((IntKind.wrap .u64 ((IntKind.wrap .u64 (a1 * 6364136223846793005)) + (IntKind.wrap .u64 0))) + 1442695040888963407)))])⟩)], 2⟩)))) = Option.map l_q0g (s_q0g a0 a1 a2) := by
  unfold s_q0g
  exact (cond_app (Option.map l_q0g) (cond_app (Option.map l_q0g) (cond_app (Option.map l_q0g) rfl (cond_app (Option.map l_q0g) rfl rfl)) rfl) (cond_app (Option.map l_q0g) rfl (cond_app (Option.map l_q0g) rfl rfl)))
 rw [e, h]; rfl
noncomputable def h_q0g : HCon := fun xs hp => match xs, hp with
 | [.ptr 0 [] (0)], [(0, some ⟨true, .box (.rc [.sl 1, .v (.int .i64 a0), .v (.int .u64 a1)])⟩), (1, some ⟨false, .arr (.one (.i .u8)) a2⟩)] => .one (Int × Int × Int) (s_q0g a0 a1 a2) l_q0g
 | _, _ => HAns.fail
theorem f_q0g_sound : HSound Try.prog 158 h_q0g := by
 refine sound_goodH f_q0g_ctx f_q0g_LV 1 2 f_q0g_hp0 Try.func158 (c := f_q0g_c) (by kernel_rfl) (rv := f_q0g_rv) (by kernel_rfl) (by kernel_rfl) (by kernel_rfl) (by kernel_rfl) fun xs hp => ?_
 unfold h_q0g
 split
 ·rename_i a0 a1 a2; intro v h; exact ⟨rfl, ⟨rfl, rfl⟩, (f_q0g_top a0 a1 a2 _).trans (s_q0g_ok a0 a1 a2 v h)⟩
 ·intro v h; cases h
noncomputable def f_q0h_c : Code := match Try.f85.body with | some c => c | none => .skip
noncomputable def f_q0h_X : Ctx := ⟨TT, phiOf [], noPsi, (xiOf [(158, h_q0g)])⟩
def f_q0h_LV : List (Nat × Keep) := []
def f_q0h_rv : List ResultVar := [.tmp 4]
noncomputable def f_q0h_hp0 : List (Nat × Option Blk) := [(0, some ⟨true, .box (.rc [.sl 1, .v (.bool false), .v (.bool false)])⟩), (1, some ⟨false, .arr (.one (.i .u8)) []⟩)]
noncomputable def f_q0h_L (r : HOut) : Nat → AS → Option HOut := L f_q0h_X (cnOfH 2 f_q0h_LV) f_q0h_c (K0H TT f_q0h_rv f_q0h_hp0) r
theorem f_q0h_ctx : CtxOK Try.prog f_q0h_X := ctx_ofH tab mix (l := []) trivial psi_no (xi_ok (l := [(158, h_q0g)]) ⟨⟨Try.call158, f_q0g_sound⟩, trivial⟩)
noncomputable def s_q0h (a0 a1 a2 : Int) (a3 : List Int) : Option (Int × Int × Int) := (cond (decide (a0 ≤ 1)) (some (0, a1, a2)) (Option.bind (s_q0g a1 a2 a3) fun r1 => (cond (decide (a0 > 200)) (Option.bind (s_q0g (r1.2.1) (r1.2.2) a3) fun r2 => (cond (decide (a0 = 0)) none (some ((Int.tmod (IntKind.wrap .i64 ((IntKind.wrap .i64 (r1.1 * 256)) + r2.1)) a0), (r2.2.1), (r2.2.2))))) (cond (decide (a0 = 0)) none (some ((Int.tmod r1.1 a0), (r1.2.1), (r1.2.2)))))))
theorem f_q0h_top (a0 a1 a2 : Int) (a3 : List Int) (r : HOut) : ev f_q0h_X (lpc (cnOfH 2 f_q0h_LV) (f_q0h_L r)) f_q0h_c (K0H TT f_q0h_rv f_q0h_hp0) (enterH [.ptr 0 [] (0), .v (.int .i64 a0)] [(0, some ⟨true, .box (.rc [.sl 1, .v (.int .i64 a1), .v (.int .u64 a2)])⟩), (1, some ⟨false, .arr (.one (.i .u8)) a3⟩)]) = (cond (decide (a0 ≤ 1)) (some ⟨.a (.v (.int .i64 0)), [(0, some ⟨true, .box (.rc [.sl 1, .v (.int .i64 a1), .v (.int .u64 a2)])⟩)], 2⟩) (Option.bind (s_q0g a1 a2 a3) fun r1 => (cond (decide (a0 > 200)) (Option.bind (s_q0g (r1.2.1) (r1.2.2) a3) fun r2 => (cond (decide (a0 = 0)) none (some ⟨.a (.v (.int .i64 (Int.tmod (IntKind.wrap .i64 ((IntKind.wrap .i64 (r1.1 * 256)) + r2.1)) a0))), [(0, some ⟨true, .box (.rc [.sl 1, .v (.int .i64 r2.2.1), .v (.int .u64 r2.2.2)])⟩)], 2⟩))) (cond (decide (a0 = 0)) none (some ⟨.a (.v (.int .i64 (Int.tmod r1.1 a0))), [(0, some ⟨true, .box (.rc [.sl 1, .v (.int .i64 r1.2.1), .v (.int .u64 r1.2.2)])⟩)], 2⟩))))) := by kernel_rfl
noncomputable def l_q0h (r : (Int × Int × Int)) : HOut := ⟨.a (.v (.int .i64 r.1)), [(0, some ⟨true, .box (.rc [.sl 1, .v (.int .i64 r.2.1), .v (.int .u64 r.2.2)])⟩)], 2⟩
theorem s_q0h_ok (a0 a1 a2 : Int) (a3 : List Int) (v : (Int × Int × Int)) (h : s_q0h a0 a1 a2 a3 = some v) : (cond (decide (a0 ≤ 1)) (some ⟨.a (.v (.int .i64 0)), [(0, some ⟨true, .box (.rc [.sl 1, .v (.int .i64 a1), .v (.int .u64 a2)])⟩)], 2⟩) (Option.bind (s_q0g a1 a2 a3) fun r1 => (cond (decide (a0 > 200)) (Option.bind (s_q0g (r1.2.1) (r1.2.2) a3) fun r2 => (cond (decide (a0 = 0)) none (some ⟨.a (.v (.int .i64 (Int.tmod (IntKind.wrap .i64 ((IntKind.wrap .i64 (r1.1 * 256)) + r2.1)) a0))), [(0, some ⟨true, .box (.rc [.sl 1, .v (.int .i64 r2.2.1), .v (.int .u64 r2.2.2)])⟩)], 2⟩))) (cond (decide (a0 = 0)) none (some ⟨.a (.v (.int .i64 (Int.tmod r1.1 a0))), [(0, some ⟨true, .box (.rc [.sl 1, .v (.int .i64 r1.2.1), .v (.int .u64 r1.2.2)])⟩)], 2⟩))))) = some (l_q0h v) := by
 have e : (cond (decide (a0 ≤ 1)) (some ⟨.a (.v (.int .i64 0)), [(0, some ⟨true, .box (.rc [.sl 1, .v (.int .i64 a1), .v (.int .u64 a2)])⟩)], 2⟩) (Option.bind (s_q0g a1 a2 a3) fun r1 => (cond (decide (a0 > 200)) (Option.bind (s_q0g (r1.2.1) (r1.2.2) a3) fun r2 => (cond (decide (a0 = 0)) none (some ⟨.a (.v (.int .i64 (Int.tmod (IntKind.wrap .i64 ((IntKind.wrap .i64 (r1.1 * 256)) + r2.1)) a0))), [(0, some ⟨true, .box (.rc [.sl 1, .v (.int .i64 r2.2.1), .v (.int .u64 r2.2.2)])⟩)], 2⟩))) (cond (decide (a0 = 0)) none (some ⟨.a (.v (.int .i64 (Int.tmod r1.1 a0))), [(0, some ⟨true, .box (.rc [.sl 1, .v (.int .i64 r1.2.1), .v (.int .u64 r1.2.2)])⟩)], 2⟩))))) = Option.map l_q0h (s_q0h a0 a1 a2 a3) := by
  unfold s_q0h
  exact (cond_app (Option.map l_q0h) rfl (bind_app fun _ => (cond_app (Option.map l_q0h) (bind_app fun _ => (cond_app (Option.map l_q0h) rfl rfl)) (cond_app (Option.map l_q0h) rfl rfl))))
 rw [e, h]; rfl
noncomputable def h_q0h : HCon := fun xs hp => match xs, hp with
 | [.ptr 0 [] (0), .v (.int .i64 a0)], [(0, some ⟨true, .box (.rc [.sl 1, .v (.int .i64 a1), .v (.int .u64 a2)])⟩), (1, some ⟨false, .arr (.one (.i .u8)) a3⟩)] => .one (Int × Int × Int) (s_q0h a0 a1 a2 a3) l_q0h
 | _, _ => HAns.fail
theorem f_q0h_sound : HSound Try.prog 85 h_q0h := by
 refine sound_goodH f_q0h_ctx f_q0h_LV 2 2 f_q0h_hp0 Try.func85 (c := f_q0h_c) (by kernel_rfl) (rv := f_q0h_rv) (by kernel_rfl) (by kernel_rfl) (by kernel_rfl) (by kernel_rfl) fun xs hp => ?_
 unfold h_q0h
 split
 ·rename_i a0 a1 a2 a3; intro v h; exact ⟨rfl, ⟨rfl, rfl⟩, (f_q0h_top a0 a1 a2 a3 _).trans (s_q0h_ok a0 a1 a2 a3 v h)⟩
 ·intro v h; cases h
noncomputable def f_q0l_c : Code := match Try.f193.body with | some c => c | none => .skip
noncomputable def f_q0l_X : Ctx := ⟨TT, phiOf [], noPsi, (xiOf [(85, h_q0h)])⟩
def f_q0l_LV : List (Nat × Keep) := []
def f_q0l_rv : List ResultVar := [.tmp 4]
noncomputable def f_q0l_hp0 : List (Nat × Option Blk) := [(0, some ⟨true, .box (.rc [.sl 1, .v (.bool false), .v (.bool false)])⟩), (1, some ⟨false, .arr (.one (.i .u8)) []⟩)]
noncomputable def f_q0l_L (r : HOut) : Nat → AS → Option HOut := L f_q0l_X (cnOfH 2 f_q0l_LV) f_q0l_c (K0H TT f_q0l_rv f_q0l_hp0) r
theorem f_q0l_ctx : CtxOK Try.prog f_q0l_X := ctx_ofH tab mix (l := []) trivial psi_no (xi_ok (l := [(85, h_q0h)]) ⟨⟨Try.call85, f_q0h_sound⟩, trivial⟩)
noncomputable def s_q0l (a0 a1 a2 : Int) (a3 : List Int) : Option (Bool × Int × Int) := (Option.bind (s_q0h a0 a1 a2 a3) fun r1 => (some ((r1.1 == 0), (r1.2.1), (r1.2.2))))
theorem f_q0l_top (a0 a1 a2 : Int) (a3 : List Int) (r : HOut) : ev f_q0l_X (lpc (cnOfH 2 f_q0l_LV) (f_q0l_L r)) f_q0l_c (K0H TT f_q0l_rv f_q0l_hp0) (enterH [.ptr 0 [] (0), .v (.int .i64 a0)] [(0, some ⟨true, .box (.rc [.sl 1, .v (.int .i64 a1), .v (.int .u64 a2)])⟩), (1, some ⟨false, .arr (.one (.i .u8)) a3⟩)]) = (Option.bind (s_q0h a0 a1 a2 a3) fun r1 => (some ⟨.a (.v (.bool (r1.1 == 0))), [(0, some ⟨true, .box (.rc [.sl 1, .v (.int .i64 r1.2.1), .v (.int .u64 r1.2.2)])⟩)], 2⟩)) := by kernel_rfl
noncomputable def l_q0l (r : (Bool × Int × Int)) : HOut := ⟨.a (.v (.bool r.1)), [(0, some ⟨true, .box (.rc [.sl 1, .v (.int .i64 r.2.1), .v (.int .u64 r.2.2)])⟩)], 2⟩
theorem s_q0l_ok (a0 a1 a2 : Int) (a3 : List Int) (v : (Bool × Int × Int)) (h : s_q0l a0 a1 a2 a3 = some v) : (Option.bind (s_q0h a0 a1 a2 a3) fun r1 => (some ⟨.a (.v (.bool (r1.1 == 0))), [(0, some ⟨true, .box (.rc [.sl 1, .v (.int .i64 r1.2.1), .v (.int .u64 r1.2.2)])⟩)], 2⟩)) = some (l_q0l v) := by
 have e : (Option.bind (s_q0h a0 a1 a2 a3) fun r1 => (some ⟨.a (.v (.bool (r1.1 == 0))), [(0, some ⟨true, .box (.rc [.sl 1, .v (.int .i64 r1.2.1), .v (.int .u64 r1.2.2)])⟩)], 2⟩)) = Option.map l_q0l (s_q0l a0 a1 a2 a3) := by
  unfold s_q0l
  exact (bind_app fun _ => rfl)
 rw [e, h]; rfl
noncomputable def h_q0l : HCon := fun xs hp => match xs, hp with
 | [.ptr 0 [] (0), .v (.int .i64 a0)], [(0, some ⟨true, .box (.rc [.sl 1, .v (.int .i64 a1), .v (.int .u64 a2)])⟩), (1, some ⟨false, .arr (.one (.i .u8)) a3⟩)] => .one (Bool × Int × Int) (s_q0l a0 a1 a2 a3) l_q0l
 | _, _ => HAns.fail
theorem f_q0l_sound : HSound Try.prog 193 h_q0l := by
 refine sound_goodH f_q0l_ctx f_q0l_LV 2 2 f_q0l_hp0 Try.func193 (c := f_q0l_c) (by kernel_rfl) (rv := f_q0l_rv) (by kernel_rfl) (by kernel_rfl) (by kernel_rfl) (by kernel_rfl) fun xs hp => ?_
 unfold h_q0l
 split
 ·rename_i a0 a1 a2 a3; intro v h; exact ⟨rfl, ⟨rfl, rfl⟩, (f_q0l_top a0 a1 a2 a3 _).trans (s_q0l_ok a0 a1 a2 a3 v h)⟩
 ·intro v h; cases h
noncomputable def f_q13_c : Code := match Try.f145.body with | some c => c | none => .skip
noncomputable def f_q13_X : Ctx := ⟨TT, phiOf [(105, c_q27)], noPsi, (xiOf [(193, h_q0l), (85, h_q0h)])⟩
def f_q13_LV : List (Nat × Keep) := [(3, ([0, 5, 6], [], [])), (7, ([0, 5, 6, 7, 8], [], []))]
def f_q13_rv : List ResultVar := [.tmp 4]
noncomputable def f_q13_hp0 : List (Nat × Option Blk) := [(0, some ⟨true, .box (.rc [.sl 1, .v (.bool false), .v (.bool false)])⟩), (1, some ⟨false, .arr (.one (.i .u8)) []⟩)]
noncomputable def f_q13_L (r : HOut) : Nat → AS → Option HOut := L f_q13_X (cnOfH 2 f_q13_LV) f_q13_c (K0H TT f_q13_rv f_q13_hp0) r
theorem f_q13_ctx : CtxOK Try.prog f_q13_X := ctx_ofH tab mix (l := [(105, c_q27)]) ⟨⟨Try.call105, f_q27_sound⟩, trivial⟩ psi_no (xi_ok (l := [(193, h_q0l), (85, h_q0h)]) ⟨⟨Try.call193, f_q0l_sound⟩, ⟨Try.call85, f_q0h_sound⟩, trivial⟩)
noncomputable def f_q13_s3 (x0 x1 x2 : Int) (x3 : List Int) (x4 : List (Int × Int)) : AS := ⟨[(0, .a (.ptr 0 [] (0))), (5, .a (.sl 2)), (6, .a (.v (.int .i64 x0)))], [(0, some ⟨true, .box (.rc [.sl 1, .v (.int .i64 x1), .v (.int .u64 x2)])⟩), (1, some ⟨false, .arr (.one (.i .u8)) x3⟩), (2, some ⟨true, .arr (.st [(.i .i8), (.i .u16)]) x4⟩)], 3⟩
noncomputable def f_q13_s7 (x0 x1 x2 x3 : Int) (x4 : List Int) (x5 : List (Int × Int)) (x6 x7 : Int) : AS := ⟨[(0, .a (.ptr 0 [] (0))), (5, .a (.sl 2)), (6, .a (.v (.int .i64 x0))), (7, .a (.ptr 3 [] (0))), (8, .a (.v (.int .i64 x1)))], [(0, some ⟨true, .box (.rc [.sl 1, .v (.int .i64 x2), .v (.int .u64 x3)])⟩), (1, some ⟨false, .arr (.one (.i .u8)) x4⟩), (2, some ⟨true, .arr (.st [(.i .i8), (.i .u16)]) x5⟩), (3, some ⟨true, .box (.rc [.v (.int .i8 x6), .v (.int .u16 x7)])⟩)], 4⟩
noncomputable def l_q13 (r : (Int × Int × (List (Int × Int)))) : HOut := ⟨.a (.sl 2), [(0, some ⟨true, .box (.rc [.sl 1, .v (.int .i64 r.1), .v (.int .u64 r.2.1)])⟩), (2, some ⟨true, .arr (.st [(.i .i8), (.i .u16)]) r.2.2⟩)], 3⟩
theorem f_q13_step7 (x0 x1 x2 x3 : Int) (x4 : List Int) (x5 : List (Int × Int)) (x6 x7 : Int) (r : HOut) (h : (cond (decide (x1 < ((List.length x5 : Nat) : Int))) (Option.bind (s_q0l 4 x2 x3 x4) fun r7 => (cond r7.1 (cond (decide ((IntKind.wrap .u64 x1) < 0)) none (f_q13_L r 7 (f_q13_s7 x0 (IntKind.wrap .i64 (x1 + 1)) r7.2.1 r7.2.2 x4 x5 x6 (bOr .u16 x7 (bShl .u16 1 (IntKind.wrap .u64 x1)))))) (f_q13_L r 7 (f_q13_s7 x0 (IntKind.wrap .i64 (x1 + 1)) r7.2.1 r7.2.2 x4 x5 x6 x7)))) (cond (fits ((List.length (x5 : List (Int × Int)) + List.length ([(x6, x7)] : List (Int × Int))) * 4)) (f_q13_L r 3 (f_q13_s3 (IntKind.wrap .i64 (x0 - 1)) x2 x3 x4 (x5 ++ [(x6, x7)]))) none)) = some r) : f_q13_L r 7 (f_q13_s7 x0 x1 x2 x3 x4 x5 x6 x7) = some r :=
 step_of' h (by kernel_rfl)
noncomputable def f_q13_n7 (x0 x1 x2 x3 : Int) (x4 : List Int) (x5 : List (Int × Int)) (x6 x7 : Int) : Option ((Int × Int × Int × Int × (List Int) × (List (Int × Int)) × Int × Int) ⊕ ((Int × Int × Int × (List Int) × (List (Int × Int))) ⊕ (Int × Int × (List (Int × Int))))) := (cond (decide (x1 < ((List.length x5 : Nat) : Int))) (Option.bind (s_q0l 4 x2 x3 x4) fun r7 => (cond r7.1 (cond (decide ((IntKind.wrap .u64 x1) < 0)) none (some (Sum.inl (x0, (IntKind.wrap .i64 (x1 + 1)), r7.2.1, r7.2.2, x4, x5, x6, (bOr .u16 x7 (bShl .u16 1 (IntKind.wrap .u64 x1))))))) (some (Sum.inl (x0, (IntKind.wrap .i64 (x1 + 1)), r7.2.1, r7.2.2, x4, x5, x6, x7))))) (cond (fits ((List.length (x5 : List (Int × Int)) + List.length ([(x6, x7)] : List (Int × Int))) * 4)) (some (Sum.inr (Sum.inl ((IntKind.wrap .i64 (x0 - 1)), x2, x3, x4, (x5 ++ [(x6, x7)]))))) none))
noncomputable def f_q13_run7 (x : (Int × Int × Int × Int × (List Int) × (List (Int × Int)) × Int × Int)) : Option ((Int × Int × Int × (List Int) × (List (Int × Int))) ⊕ (Int × Int × (List (Int × Int)))) := iter (fun x => f_q13_n7 x.1 x.2.1 x.2.2.1 x.2.2.2.1 x.2.2.2.2.1 x.2.2.2.2.2.1 x.2.2.2.2.2.2.1 x.2.2.2.2.2.2.2) FU x
noncomputable def f_q13_G7 (r : HOut) (x : (Int × Int × Int × Int × (List Int) × (List (Int × Int)) × Int × Int)) : Prop := f_q13_L r 7 (f_q13_s7 x.1 x.2.1 x.2.2.1 x.2.2.2.1 x.2.2.2.2.1 x.2.2.2.2.2.1 x.2.2.2.2.2.2.1 x.2.2.2.2.2.2.2) = some r
theorem f_q13_step3 (x0 x1 x2 : Int) (x3 : List Int) (x4 : List (Int × Int)) (r : HOut) (h : (cond (decide (x0 > 0)) (Option.bind (s_q0h 6 x1 x2 x3) fun r2 => (f_q13_L r 7 (f_q13_s7 x0 0 r2.2.1 r2.2.2 x3 x4 (IntKind.wrap .i8 (IntKind.wrap .i64 (1 + r2.1))) 0))) (cond (decide (((List.length x4 : Nat) : Int) > 1)) (Option.bind (s_q0l 3 x1 x2 x3) fun r3 => (cond r3.1 (Option.bind (s_q0h ((List.length x4 : Nat) : Int) (r3.2.1) (r3.2.2) x3) fun r4 => (cond (fits ((List.length ([] : List (Int × Int)) + List.length (x4 : List (Int × Int))) * 4)) (cond (inB r4.1 (List.length ([] ++ x4))) (Option.bind (s_q0h ((List.length x4 : Nat) : Int) (r4.2.1) (r4.2.2) x3) fun r5 => (cond (decide ((IntKind.wrap .u64 r5.1) < 0)) none (cond (inB r4.1 (List.length ([] ++ x4))) (Option.bind (s_q27 (List.set ([] ++ x4) (Int.toNat r4.1) ((List.getD ([] ++ x4) (Int.toNat r4.1) ((0, 0) : (Int × Int))).1, (bXor .u16 (List.getD ([] ++ x4) (Int.toNat r4.1) ((0, 0) : (Int × Int))).2 (bShl .u16 1 (IntKind.wrap .u64 r5.1)))))) fun r6 => (cond r6 (some ⟨.a (.sl 2), [(0, some ⟨true, .box (.rc [.sl 1, .v (.int .i64 r5.2.1), .v (.int .u64 r5.2.2)])⟩), (2, some ⟨true, .arr (.st [(.i .i8), (.i .u16)]) ((List.set ([] ++ x4) (Int.toNat r4.1) ((List.getD ([] ++ x4) (Int.toNat r4.1) ((0, 0) : (Int × Int))).1, (bXor .u16 (List.getD ([] ++ x4) (Int.toNat r4.1) ((0, 0) : (Int × Int))).2 (bShl .u16 1 (IntKind.wrap .u64 r5.1))))) : List (Int × Int))⟩)], 3⟩) (some ⟨.a (.sl 2), [(0, some ⟨true, .box (.rc [.sl 1, .v (.int .i64 r5.2.1), .v (.int .u64 r5.2.2)])⟩), (2, some ⟨true, .arr (.st [(.i .i8), (.i .u16)]) x4⟩)], 3⟩))) none))) none) none)) (some ⟨.a (.sl 2), [(0, some ⟨true, .box (.rc [.sl 1, .v (.int .i64 r3.2.1), .v (.int .u64 r3.2.2)])⟩), (2, some ⟨true, .arr (.st [(.i .i8), (.i .u16)]) x4⟩)], 3⟩))) (some ⟨.a (.sl 2), [(0, some ⟨true, .box (.rc [.sl 1, .v (.int .i64 x1), .v (.int .u64 x2)])⟩), (2, some ⟨true, .arr (.st [(.i .i8), (.i .u16)]) x4⟩)], 3⟩))) = some r) : f_q13_L r 3 (f_q13_s3 x0 x1 x2 x3 x4) = some r :=
 step_of' h (by kernel_rfl)
noncomputable def f_q13_n3 (x0 x1 x2 : Int) (x3 : List Int) (x4 : List (Int × Int)) : Option ((Int × Int × Int × (List Int) × (List (Int × Int))) ⊕ (Int × Int × (List (Int × Int)))) := (cond (decide (x0 > 0)) (Option.bind (s_q0h 6 x1 x2 x3) fun r2 => (f_q13_run7 (x0, 0, r2.2.1, r2.2.2, x3, x4, (IntKind.wrap .i8 (IntKind.wrap .i64 (1 + r2.1))), 0))) (cond (decide (((List.length x4 : Nat) : Int) > 1)) (Option.bind (s_q0l 3 x1 x2 x3) fun r3 => (cond r3.1 (Option.bind (s_q0h ((List.length x4 : Nat) : Int) (r3.2.1) (r3.2.2) x3) fun r4 => (cond (fits ((List.length ([] : List (Int × Int)) + List.length (x4 : List (Int × Int))) * 4)) (cond (inB r4.1 (List.length ([] ++ x4))) (Option.bind (s_q0h ((List.length x4 : Nat) : Int) (r4.2.1) (r4.2.2) x3) fun r5 => (cond (decide ((IntKind.wrap .u64 r5.1) < 0)) none (cond (inB r4.1 (List.length ([] ++ x4))) (Option.bind (s_q27 (List.set ([] ++ x4) (Int.toNat r4.1) ((List.getD ([] ++ x4) (Int.toNat r4.1) ((0, 0) : (Int × Int))).1, (bXor .u16 (List.getD ([] ++ x4) (Int.toNat r4.1) ((0, 0) : (Int × Int))).2 (bShl .u16 1 (IntKind.wrap .u64 r5.1)))))) fun r6 => (cond r6 (some (Sum.inr ((r5.2.1), (r5.2.2), (List.set ([] ++ x4) (Int.toNat r4.1) ((List.getD ([] ++ x4) (Int.toNat r4.1) ((0, 0) : (Int × Int))).1, (bXor .u16 (List.getD ([] ++ x4) (Int.toNat r4.1) ((0, 0) : (Int × Int))).2 (bShl .u16 1 (IntKind.wrap .u64 r5.1)))))))) (some (Sum.inr ((r5.2.1), (r5.2.2), x4))))) none))) none) none)) (some (Sum.inr ((r3.2.1), (r3.2.2), x4))))) (some (Sum.inr (x1, x2, x4)))))
noncomputable def f_q13_run3 (x : (Int × Int × Int × (List Int) × (List (Int × Int)))) : Option (Int × Int × (List (Int × Int))) := iter (fun x => f_q13_n3 x.1 x.2.1 x.2.2.1 x.2.2.2.1 x.2.2.2.2) FU x
noncomputable def f_q13_G3 (r : HOut) (x : (Int × Int × Int × (List Int) × (List (Int × Int)))) : Prop := f_q13_L r 3 (f_q13_s3 x.1 x.2.1 x.2.2.1 x.2.2.2.1 x.2.2.2.2) = some r
noncomputable def f_q13_S3 (r : HOut) : (Int × Int × (List (Int × Int))) → Prop := fun v => r = l_q13 v
noncomputable def f_q13_S7 (r : HOut) : ((Int × Int × Int × (List Int) × (List (Int × Int))) ⊕ (Int × Int × (List (Int × Int)))) → Prop := goesOn (f_q13_G3 r) (f_q13_S3 r)
theorem f_q13_go7 (r : HOut) : ∀ x, sem (f_q13_S7 r) (f_q13_run7 x) → f_q13_G7 r x :=
 fun x => iter_sound (step := fun x => f_q13_n7 x.1 x.2.1 x.2.2.1 x.2.2.2.1 x.2.2.2.2.1 x.2.2.2.2.2.1 x.2.2.2.2.2.2.1 x.2.2.2.2.2.2.2) (fun x h => by
  unfold f_q13_n7 at h
  exact f_q13_step7 x.1 x.2.1 x.2.2.1 x.2.2.2.1 x.2.2.2.2.1 x.2.2.2.2.2.1 x.2.2.2.2.2.2.1 x.2.2.2.2.2.2.2 r ((sem_cond h (fun h => (sem_bind h fun r7 h => (sem_cond h (fun h => (sem_cond h (fun h => sem_none h) (fun h => sem_got h fun q => q))) (fun h => sem_got h fun q => q)))) (fun h => (sem_cond h (fun h => sem_got h fun q => q) (fun h => sem_none h)))))) FU x
theorem f_q13_go3 (r : HOut) : ∀ x, sem (f_q13_S3 r) (f_q13_run3 x) → f_q13_G3 r x :=
 fun x => iter_sound (step := fun x => f_q13_n3 x.1 x.2.1 x.2.2.1 x.2.2.2.1 x.2.2.2.2) (fun x h => by
  unfold f_q13_n3 at h
  exact f_q13_step3 x.1 x.2.1 x.2.2.1 x.2.2.2.1 x.2.2.2.2 r ((sem_cond h (fun h => (sem_bind h fun r2 h => f_q13_go7 r _ h)) (fun h => (sem_cond h (fun h => (sem_bind h fun r3 h => (sem_cond h (fun h => (sem_bind h fun r4 h => (sem_cond h (fun h => (sem_cond h (fun h => (sem_bind h fun r5 h => (sem_cond h (fun h => sem_none h) (fun h => (sem_cond h (fun h => (sem_bind h fun r6 h => (sem_cond h (fun h => sem_got h fun q => some_eq q) (fun h => sem_got h fun q => some_eq q)))) (fun h => sem_none h)))))) (fun h => sem_none h))) (fun h => sem_none h)))) (fun h => sem_got h fun q => some_eq q)))) (fun h => sem_got h fun q => some_eq q)))))) FU x
noncomputable def s_q13 (a0 a1 a2 : Int) (a3 : List Int) : Option (Int × Int × (List (Int × Int))) := (Option.bind (s_q0h (IntKind.wrap .i64 (a0 + 1)) a1 a2 a3) fun r1 => (f_q13_run3 (r1.1, r1.2.1, r1.2.2, a3, [])))
theorem f_q13_top (a0 a1 a2 : Int) (a3 : List Int) (r : HOut) : ev f_q13_X (lpc (cnOfH 2 f_q13_LV) (f_q13_L r)) f_q13_c (K0H TT f_q13_rv f_q13_hp0) (enterH [.ptr 0 [] (0), .v (.int .i64 a0)] [(0, some ⟨true, .box (.rc [.sl 1, .v (.int .i64 a1), .v (.int .u64 a2)])⟩), (1, some ⟨false, .arr (.one (.i .u8)) a3⟩)]) = (Option.bind (s_q0h (IntKind.wrap .i64 (a0 + 1)) a1 a2 a3) fun r1 => (f_q13_L r 3 (f_q13_s3 r1.1 r1.2.1 r1.2.2 a3 []))) := by kernel_rfl
theorem s_q13_ok (a0 a1 a2 : Int) (a3 : List Int) (v : (Int × Int × (List (Int × Int)))) (h : s_q13 a0 a1 a2 a3 = some v) : (Option.bind (s_q0h (IntKind.wrap .i64 (a0 + 1)) a1 a2 a3) fun r1 => (f_q13_L (l_q13 v) 3 (f_q13_s3 r1.1 r1.2.1 r1.2.2 a3 []))) = some (l_q13 v) := by
 unfold s_q13 at h
 have go : ∀ r, sem (fun v => r = l_q13 v) ((Option.bind (s_q0h (IntKind.wrap .i64 (a0 + 1)) a1 a2 a3) fun r1 => (f_q13_run3 (r1.1, r1.2.1, r1.2.2, a3, [])))) → (Option.bind (s_q0h (IntKind.wrap .i64 (a0 + 1)) a1 a2 a3) fun r1 => (f_q13_L r 3 (f_q13_s3 r1.1 r1.2.1 r1.2.2 a3 []))) = some r := fun r h => (sem_bind h fun r1 h => f_q13_go3 r _ h)
 exact go (l_q13 v) ⟨v, h, rfl⟩
noncomputable def h_q13 : HCon := fun xs hp => match xs, hp with
 | [.ptr 0 [] (0), .v (.int .i64 a0)], [(0, some ⟨true, .box (.rc [.sl 1, .v (.int .i64 a1), .v (.int .u64 a2)])⟩), (1, some ⟨false, .arr (.one (.i .u8)) a3⟩)] => .one (Int × Int × (List (Int × Int))) (s_q13 a0 a1 a2 a3) l_q13
 | _, _ => HAns.fail
theorem f_q13_sound : HSound Try.prog 145 h_q13 := by
 refine sound_goodH f_q13_ctx f_q13_LV 2 2 f_q13_hp0 Try.func145 (c := f_q13_c) (by kernel_rfl) (rv := f_q13_rv) (by kernel_rfl) (by kernel_rfl) (by kernel_rfl) (by kernel_rfl) fun xs hp => ?_
 unfold h_q13
 split
 ·rename_i a0 a1 a2 a3; intro v h; exact ⟨rfl, ⟨rfl, rfl⟩, (f_q13_top a0 a1 a2 a3 _).trans (s_q13_ok a0 a1 a2 a3 v h)⟩
 ·intro v h; cases h
noncomputable def f_q1w_c : Code := match Try.f69.body with | some c => c | none => .skip
noncomputable def f_q1w_X : Ctx := ⟨TT, phiOf [], noPsi, (xiOf [(145, h_q13), (83, h_q1h)])⟩
def f_q1w_LV : List (Nat × Keep) := []
def f_q1w_rv : List ResultVar := [.tmp 2]
noncomputable def f_q1w_L (r : List A) : Nat → AS → Option (List A) := L f_q1w_X (cnOf f_q1w_LV) f_q1w_c (K0 TT f_q1w_rv) r
theorem f_q1w_ctx : CtxOK Try.prog f_q1w_X := ctx_ofH tab mix (l := []) trivial psi_no (xi_ok (l := [(145, h_q13), (83, h_q1h)]) ⟨⟨Try.call145, f_q13_sound⟩, ⟨Try.call83, f_q1h_sound⟩, trivial⟩)
noncomputable def s_q1w (a0 : List Int) : Option (List (Int × Int)) := (Option.bind (s_q13 6 (s_q1h a0).1 (s_q1h a0).2 a0) fun r1 => (some (r1.2.2)))
theorem f_q1w_top (a0 : List Int) (r : List A) : ev f_q1w_X (lpc (cnOf f_q1w_LV) (f_q1w_L r)) f_q1w_c (K0 TT f_q1w_rv) (enter [.lst (.one (.i .u8)) a0]) = (Option.bind (s_q13 6 (s_q1h a0).1 (s_q1h a0).2 a0) fun r1 => (some [.lst (.st [(.i .i8), (.i .u16)]) r1.2.2])) := by kernel_rfl
noncomputable def l_q1w (r : List (Int × Int)) : List A := [.lst (.st [(.i .i8), (.i .u16)]) r]
theorem s_q1w_ok (a0 : List Int) (v : List (Int × Int)) (h : s_q1w a0 = some v) : (Option.bind (s_q13 6 (s_q1h a0).1 (s_q1h a0).2 a0) fun r1 => (some [.lst (.st [(.i .i8), (.i .u16)]) r1.2.2])) = some (l_q1w v) := by
 have e : (Option.bind (s_q13 6 (s_q1h a0).1 (s_q1h a0).2 a0) fun r1 => (some [.lst (.st [(.i .i8), (.i .u16)]) r1.2.2])) = Option.map l_q1w (s_q1w a0) := by
  unfold s_q1w
  exact (bind_app fun _ => rfl)
 rw [e, h]; rfl
noncomputable def c_q1w : List A → ACall
 | [.lst (.one (.i .u8)) a0] => ⟨(List (Int × Int)), s_q1w a0, fun r => .one (.lst (.st [(.i .i8), (.i .u16)]) r)⟩
 | _ => ACall.fail
theorem f_q1w_sound : Sound Try.prog 69 c_q1w := by
 refine sound_good f_q1w_ctx f_q1w_LV 1 Try.func69 (c := f_q1w_c) (by kernel_rfl) (rv := f_q1w_rv) (by kernel_rfl) (by kernel_rfl) (by kernel_rfl) (by kernel_rfl) fun rs => ?_
 unfold c_q1w
 split
 ·rename_i a0; intro v h; exact ⟨rfl, l_q1w v, rfl, (f_q1w_top a0 _).trans (s_q1w_ok a0 v h)⟩
 ·intro v h; cases h
noncomputable def f_q1g_c : Code := match Try.f71.body with | some c => c | none => .skip
noncomputable def f_q1g_X : Ctx := ⟨TT, phiOf [], noPsi, (xiOf [(83, h_q1h), (85, h_q0h)])⟩
def f_q1g_LV : List (Nat × Keep) := [(4, ([1, 5, 6, 7], [], [])), (7, ([1, 5, 6, 7, 8, 9], [], []))]
def f_q1g_rv : List ResultVar := [.tmp 4]
noncomputable def f_q1g_L (r : List A) : Nat → AS → Option (List A) := L f_q1g_X (cnOf f_q1g_LV) f_q1g_c (K0 TT f_q1g_rv) r
theorem f_q1g_ctx : CtxOK Try.prog f_q1g_X := ctx_ofH tab mix (l := []) trivial psi_no (xi_ok (l := [(83, h_q1h), (85, h_q0h)]) ⟨⟨Try.call83, f_q1h_sound⟩, ⟨Try.call85, f_q0h_sound⟩, trivial⟩)
noncomputable def f_q1g_s4 (x0 : Int) (x1 : List (Int × Int)) (x2 x3 : Int) (x4 x5 : List Int) : AS := ⟨[(1, .a (.sl 0)), (5, .a (.ptr 1 [] (0))), (6, .a (.sl 3)), (7, .a (.v (.int .u16 x0)))], [(0, some ⟨false, .arr (.st [(.i .i8), (.i .u16)]) x1⟩), (1, some ⟨true, .box (.rc [.sl 2, .v (.int .i64 x2), .v (.int .u64 x3)])⟩), (2, some ⟨false, .arr (.one (.i .u8)) x4⟩), (3, some ⟨true, .arr (.one (.i .i64)) x5⟩)], 4⟩
noncomputable def f_q1g_s7 (x0 x1 : Int) (x2 : List (Int × Int)) (x3 x4 : Int) (x5 x6 x7 : List Int) : AS := ⟨[(1, .a (.sl 0)), (5, .a (.ptr 1 [] (0))), (6, .a (.sl 3)), (7, .a (.v (.int .u16 x0))), (8, .a (.sl 4)), (9, .a (.v (.int .i64 x1)))], [(0, some ⟨false, .arr (.st [(.i .i8), (.i .u16)]) x2⟩), (1, some ⟨true, .box (.rc [.sl 2, .v (.int .i64 x3), .v (.int .u64 x4)])⟩), (2, some ⟨false, .arr (.one (.i .u8)) x5⟩), (3, some ⟨true, .arr (.one (.i .i64)) x6⟩), (4, some ⟨true, .arr (.one (.i .i64)) x7⟩)], 5⟩
noncomputable def l_q1g (r : List Int) : List A := [.lst (.one (.i .i64)) r]
theorem f_q1g_step7 (x0 x1 : Int) (x2 : List (Int × Int)) (x3 x4 : Int) (x5 x6 x7 : List Int) (r : List A) (h : (cond (decide (x1 < ((List.length x2 : Nat) : Int))) (cond (decide ((IntKind.wrap .u64 x1) < 0)) none (cond ((Int.tmod (bShr .u16 x0 (IntKind.wrap .u64 x1)) 2) == 0) (cond (inB x1 (List.length x2)) (cond ((bAndNot .u16 (List.getD x2 (Int.toNat x1) ((0, 0) : (Int × Int))).2 x0) == 0) (cond (fits ((List.length (x7 : List Int) + List.length ([x1] : List Int)) * 8)) (f_q1g_L r 7 (f_q1g_s7 x0 (IntKind.wrap .i64 (x1 + 1)) x2 x3 x4 x5 x6 (x7 ++ [x1]))) none) (f_q1g_L r 7 (f_q1g_s7 x0 (IntKind.wrap .i64 (x1 + 1)) x2 x3 x4 x5 x6 x7))) none) (f_q1g_L r 7 (f_q1g_s7 x0 (IntKind.wrap .i64 (x1 + 1)) x2 x3 x4 x5 x6 x7)))) (Option.bind (s_q0h ((List.length x7 : Nat) : Int) x3 x4 x5) fun r1 => (cond (inB r1.1 (List.length x7)) (cond (fits ((List.length (x6 : List Int) + List.length ([(List.getD x7 (Int.toNat r1.1) 0)] : List Int)) * 8)) (cond (decide ((IntKind.wrap .u64 (List.getD x7 (Int.toNat r1.1) 0)) < 0)) none (f_q1g_L r 4 (f_q1g_s4 (bOr .u16 x0 (bShl .u16 1 (IntKind.wrap .u64 (List.getD x7 (Int.toNat r1.1) 0)))) x2 r1.2.1 r1.2.2 x5 (x6 ++ [(List.getD x7 (Int.toNat r1.1) 0)])))) none) none))) = some r) : f_q1g_L r 7 (f_q1g_s7 x0 x1 x2 x3 x4 x5 x6 x7) = some r :=
 step_of' h (by kernel_rfl)
noncomputable def f_q1g_n7 (x0 x1 : Int) (x2 : List (Int × Int)) (x3 x4 : Int) (x5 x6 x7 : List Int) : Option ((Int × Int × (List (Int × Int)) × Int × Int × (List Int) × (List Int) × (List Int)) ⊕ ((Int × (List (Int × Int)) × Int × Int × (List Int) × (List Int)) ⊕ (List Int))) := (cond (decide (x1 < ((List.length x2 : Nat) : Int))) (cond (decide ((IntKind.wrap .u64 x1) < 0)) none (cond ((Int.tmod (bShr .u16 x0 (IntKind.wrap .u64 x1)) 2) == 0) (cond (inB x1 (List.length x2)) (cond ((bAndNot .u16 (List.getD x2 (Int.toNat x1) ((0, 0) : (Int × Int))).2 x0) == 0) (cond (fits ((List.length (x7 : List Int) + List.length ([x1] : List Int)) * 8)) (some (Sum.inl (x0, (IntKind.wrap .i64 (x1 + 1)), x2, x3, x4, x5, x6, (x7 ++ [x1])))) none) (some (Sum.inl (x0, (IntKind.wrap .i64 (x1 + 1)), x2, x3, x4, x5, x6, x7)))) none) (some (Sum.inl (x0, (IntKind.wrap .i64 (x1 + 1)), x2, x3, x4, x5, x6, x7))))) (Option.bind (s_q0h ((List.length x7 : Nat) : Int) x3 x4 x5) fun r1 => (cond (inB r1.1 (List.length x7)) (cond (fits ((List.length (x6 : List Int) + List.length ([(List.getD x7 (Int.toNat r1.1) 0)] : List Int)) * 8)) (cond (decide ((IntKind.wrap .u64 (List.getD x7 (Int.toNat r1.1) 0)) < 0)) none (some (Sum.inr (Sum.inl ((bOr .u16 x0 (bShl .u16 1 (IntKind.wrap .u64 (List.getD x7 (Int.toNat r1.1) 0)))), x2, r1.2.1, r1.2.2, x5, (x6 ++ [(List.getD x7 (Int.toNat r1.1) 0)])))))) none) none)))
noncomputable def f_q1g_run7 (x : (Int × Int × (List (Int × Int)) × Int × Int × (List Int) × (List Int) × (List Int))) : Option ((Int × (List (Int × Int)) × Int × Int × (List Int) × (List Int)) ⊕ (List Int)) := iter (fun x => f_q1g_n7 x.1 x.2.1 x.2.2.1 x.2.2.2.1 x.2.2.2.2.1 x.2.2.2.2.2.1 x.2.2.2.2.2.2.1 x.2.2.2.2.2.2.2) FU x
noncomputable def f_q1g_G7 (r : List A) (x : (Int × Int × (List (Int × Int)) × Int × Int × (List Int) × (List Int) × (List Int))) : Prop := f_q1g_L r 7 (f_q1g_s7 x.1 x.2.1 x.2.2.1 x.2.2.2.1 x.2.2.2.2.1 x.2.2.2.2.2.1 x.2.2.2.2.2.2.1 x.2.2.2.2.2.2.2) = some r
theorem f_q1g_step4 (x0 : Int) (x1 : List (Int × Int)) (x2 x3 : Int) (x4 x5 : List Int) (r : List A) (h : (cond (decide (((List.length x5 : Nat) : Int) < ((List.length x1 : Nat) : Int))) (f_q1g_L r 7 (f_q1g_s7 x0 0 x1 x2 x3 x4 x5 [])) (some [.lst (.one (.i .i64)) x5])) = some r) : f_q1g_L r 4 (f_q1g_s4 x0 x1 x2 x3 x4 x5) = some r :=
 step_of' h (by kernel_rfl)
noncomputable def f_q1g_n4 (x0 : Int) (x1 : List (Int × Int)) (x2 x3 : Int) (x4 x5 : List Int) : Option ((Int × (List (Int × Int)) × Int × Int × (List Int) × (List Int)) ⊕ (List Int)) := (cond (decide (((List.length x5 : Nat) : Int) < ((List.length x1 : Nat) : Int))) (f_q1g_run7 (x0, 0, x1, x2, x3, x4, x5, [])) (some (Sum.inr x5)))
noncomputable def f_q1g_run4 (x : (Int × (List (Int × Int)) × Int × Int × (List Int) × (List Int))) : Option (List Int) := iter (fun x => f_q1g_n4 x.1 x.2.1 x.2.2.1 x.2.2.2.1 x.2.2.2.2.1 x.2.2.2.2.2) FU x
noncomputable def f_q1g_G4 (r : List A) (x : (Int × (List (Int × Int)) × Int × Int × (List Int) × (List Int))) : Prop := f_q1g_L r 4 (f_q1g_s4 x.1 x.2.1 x.2.2.1 x.2.2.2.1 x.2.2.2.2.1 x.2.2.2.2.2) = some r
noncomputable def f_q1g_S4 (r : List A) : (List Int) → Prop := fun v => r = l_q1g v
noncomputable def f_q1g_S7 (r : List A) : ((Int × (List (Int × Int)) × Int × Int × (List Int) × (List Int)) ⊕ (List Int)) → Prop := goesOn (f_q1g_G4 r) (f_q1g_S4 r)
theorem f_q1g_go7 (r : List A) : ∀ x, sem (f_q1g_S7 r) (f_q1g_run7 x) → f_q1g_G7 r x :=
 fun x => iter_sound (step := fun x => f_q1g_n7 x.1 x.2.1 x.2.2.1 x.2.2.2.1 x.2.2.2.2.1 x.2.2.2.2.2.1 x.2.2.2.2.2.2.1 x.2.2.2.2.2.2.2) (fun x h => by
  unfold f_q1g_n7 at h
  exact f_q1g_step7 x.1 x.2.1 x.2.2.1 x.2.2.2.1 x.2.2.2.2.1 x.2.2.2.2.2.1 x.2.2.2.2.2.2.1 x.2.2.2.2.2.2.2 r ((sem_cond h (fun h => (sem_cond h (fun h => sem_none h) (fun h => (sem_cond h (fun h => (sem_cond h (fun h => (sem_cond h (fun h => (sem_cond h (fun h => sem_got h fun q => q) (fun h => sem_none h))) (fun h => sem_got h fun q => q))) (fun h => sem_none h))) (fun h => sem_got h fun q => q))))) (fun h => (sem_bind h fun r1 h => (sem_cond h (fun h => (sem_cond h (fun h => (sem_cond h (fun h => sem_none h) (fun h => sem_got h fun q => q))) (fun h => sem_none h))) (fun h => sem_none h))))))) FU x
theorem f_q1g_go4 (r : List A) : ∀ x, sem (f_q1g_S4 r) (f_q1g_run4 x) → f_q1g_G4 r x :=
 fun x => iter_sound (step := fun x => f_q1g_n4 x.1 x.2.1 x.2.2.1 x.2.2.2.1 x.2.2.2.2.1 x.2.2.2.2.2) (fun x h => by
  unfold f_q1g_n4 at h
  exact f_q1g_step4 x.1 x.2.1 x.2.2.1 x.2.2.2.1 x.2.2.2.2.1 x.2.2.2.2.2 r ((sem_cond h (fun h => f_q1g_go7 r _ h) (fun h => sem_got h fun q => some_eq q)))) FU x
noncomputable def s_q1g (a0 : List Int) (a1 : List (Int × Int)) : Option (List Int) := (f_q1g_run4 (0, a1, (s_q1h a0).1, (s_q1h a0).2, a0, []))
theorem f_q1g_top (a0 : List Int) (a1 : List (Int × Int)) (r : List A) : ev f_q1g_X (lpc (cnOf f_q1g_LV) (f_q1g_L r)) f_q1g_c (K0 TT f_q1g_rv) (enter [.lst (.one (.i .u8)) a0, .lst (.st [(.i .i8), (.i .u16)]) a1]) = (f_q1g_L r 4 (f_q1g_s4 0 a1 (s_q1h a0).1 (s_q1h a0).2 a0 [])) := by kernel_rfl
theorem s_q1g_ok (a0 : List Int) (a1 : List (Int × Int)) (v : List Int) (h : s_q1g a0 a1 = some v) : (f_q1g_L (l_q1g v) 4 (f_q1g_s4 0 a1 (s_q1h a0).1 (s_q1h a0).2 a0 [])) = some (l_q1g v) := by
 unfold s_q1g at h
 have go : ∀ r, sem (fun v => r = l_q1g v) ((f_q1g_run4 (0, a1, (s_q1h a0).1, (s_q1h a0).2, a0, []))) → (f_q1g_L r 4 (f_q1g_s4 0 a1 (s_q1h a0).1 (s_q1h a0).2 a0 [])) = some r := fun r h => f_q1g_go4 r _ h
 exact go (l_q1g v) ⟨v, h, rfl⟩
noncomputable def c_q1g : List A → ACall
 | [.lst (.one (.i .u8)) a0, .lst (.st [(.i .i8), (.i .u16)]) a1] => ⟨(List Int), s_q1g a0 a1, fun r => .one (.lst (.one (.i .i64)) r)⟩
 | _ => ACall.fail
theorem f_q1g_sound : Sound Try.prog 71 c_q1g := by
 refine sound_good f_q1g_ctx f_q1g_LV 2 Try.func71 (c := f_q1g_c) (by kernel_rfl) (rv := f_q1g_rv) (by kernel_rfl) (by kernel_rfl) (by kernel_rfl) (by kernel_rfl) fun rs => ?_
 unfold c_q1g
 split
 ·rename_i a0 a1; intro v h; exact ⟨rfl, l_q1g v, rfl, (f_q1g_top a0 a1 _).trans (s_q1g_ok a0 a1 v h)⟩
 ·intro v h; cases h
noncomputable def f_q0k_c : Code := match Try.f78.body with | some c => c | none => .skip
noncomputable def f_q0k_X : Ctx := ⟨TT, phiOf [], noPsi, noXi⟩
def f_q0k_LV : List (Nat × Keep) := [(4, ([0, 1, 5], [], []))]
def f_q0k_rv : List ResultVar := [.tmp 4]
noncomputable def f_q0k_L (r : List A) : Nat → AS → Option (List A) := L f_q0k_X (cnOf f_q0k_LV) f_q0k_c (K0 TT f_q0k_rv) r
theorem f_q0k_ctx : CtxOK Try.prog f_q0k_X := ctx_of tab mix trivial
noncomputable def f_q0k_s4 (x0 : Int) (x1 x2 : List (Int × Int)) : AS := ⟨[(0, .a (.sl 0)), (1, .a (.sl 1)), (5, .a (.v (.int .i64 x0)))], [(0, some ⟨false, .arr (.st [(.i .i8), (.i .i16)]) x1⟩), (1, some ⟨false, .arr (.st [(.i .i8), (.i .i16)]) x2⟩)], 2⟩
noncomputable def l_q0k (r : Bool) : List A := [.v (.bool r)]
theorem f_q0k_step4 (x0 : Int) (x1 x2 : List (Int × Int)) (r : List A) (h : (cond (decide (x0 < ((List.length x1 : Nat) : Int))) (cond (inB x0 (List.length x1)) (cond (inB x0 (List.length x2)) (cond (!(((List.getD x1 (Int.toNat x0) ((0, 0) : (Int × Int))).1 == (List.getD x2 (Int.toNat x0) ((0, 0) : (Int × Int))).1) && (((List.getD x1 (Int.toNat x0) ((0, 0) : (Int × Int))).2 == (List.getD x2 (Int.toNat x0) ((0, 0) : (Int × Int))).2) && true))) (some [.v (.bool false)]) (f_q0k_L r 4 (f_q0k_s4 (IntKind.wrap .i64 (x0 + 1)) x1 x2))) none) none) (some [.v (.bool true)])) = some r) : f_q0k_L r 4 (f_q0k_s4 x0 x1 x2) = some r :=
 step_of' h (by kernel_rfl)
noncomputable def f_q0k_n4 (x0 : Int) (x1 x2 : List (Int × Int)) : Option ((Int × (List (Int × Int)) × (List (Int × Int))) ⊕ Bool) := (cond (decide (x0 < ((List.length x1 : Nat) : Int))) (cond (inB x0 (List.length x1)) (cond (inB x0 (List.length x2)) (cond (!(((List.getD x1 (Int.toNat x0) ((0, 0) : (Int × Int))).1 == (List.getD x2 (Int.toNat x0) ((0, 0) : (Int × Int))).1) && (((List.getD x1 (Int.toNat x0) ((0, 0) : (Int × Int))).2 == (List.getD x2 (Int.toNat x0) ((0, 0) : (Int × Int))).2) && true))) (some (Sum.inr false)) (some (Sum.inl ((IntKind.wrap .i64 (x0 + 1)), x1, x2)))) none) none) (some (Sum.inr true)))
noncomputable def f_q0k_run4 (x : (Int × (List (Int × Int)) × (List (Int × Int)))) : Option Bool := iter (fun x => f_q0k_n4 x.1 x.2.1 x.2.2) FU x
noncomputable def f_q0k_G4 (r : List A) (x : (Int × (List (Int × Int)) × (List (Int × Int)))) : Prop := f_q0k_L r 4 (f_q0k_s4 x.1 x.2.1 x.2.2) = some r
noncomputable def f_q0k_S4 (r : List A) : Bool → Prop := fun v => r = l_q0k v
theorem f_q0k_go4 (r : List A) : ∀ x, sem (f_q0k_S4 r) (f_q0k_run4 x) → f_q0k_G4 r x :=
 fun x => iter_sound (step := fun x => f_q0k_n4 x.1 x.2.1 x.2.2) (fun x h => by
  unfold f_q0k_n4 at h
  exact f_q0k_step4 x.1 x.2.1 x.2.2 r ((sem_cond h (fun h => (sem_cond h (fun h => (sem_cond h (fun h => (sem_cond h (fun h => sem_got h fun q => some_eq q) (fun h => sem_got h fun q => q))) (fun h => sem_none h))) (fun h => sem_none h))) (fun h => sem_got h fun q => some_eq q)))) FU x
noncomputable def s_q0k (a0 a1 : List (Int × Int)) : Option Bool := (cond (((List.length a0 : Nat) : Int) != ((List.length a1 : Nat) : Int)) (some false) (f_q0k_run4 (0, a0, a1)))
theorem f_q0k_top (a0 a1 : List (Int × Int)) (r : List A) : ev f_q0k_X (lpc (cnOf f_q0k_LV) (f_q0k_L r)) f_q0k_c (K0 TT f_q0k_rv) (enter [.lst (.st [(.i .i8), (.i .i16)]) a0, .lst (.st [(.i .i8), (.i .i16)]) a1]) = (cond (((List.length a0 : Nat) : Int) != ((List.length a1 : Nat) : Int)) (some [.v (.bool false)]) (f_q0k_L r 4 (f_q0k_s4 0 a0 a1))) := by kernel_rfl
theorem s_q0k_ok (a0 a1 : List (Int × Int)) (v : Bool) (h : s_q0k a0 a1 = some v) : (cond (((List.length a0 : Nat) : Int) != ((List.length a1 : Nat) : Int)) (some [.v (.bool false)]) (f_q0k_L (l_q0k v) 4 (f_q0k_s4 0 a0 a1))) = some (l_q0k v) := by
 unfold s_q0k at h
 have go : ∀ r, sem (fun v => r = l_q0k v) ((cond (((List.length a0 : Nat) : Int) != ((List.length a1 : Nat) : Int)) (some false) (f_q0k_run4 (0, a0, a1)))) → (cond (((List.length a0 : Nat) : Int) != ((List.length a1 : Nat) : Int)) (some [.v (.bool false)]) (f_q0k_L r 4 (f_q0k_s4 0 a0 a1))) = some r := fun r h => (sem_cond h (fun h => sem_got h fun q => some_eq q) (fun h => f_q0k_go4 r _ h))
 exact go (l_q0k v) ⟨v, h, rfl⟩
noncomputable def c_q0k : List A → ACall
 | [.lst (.st [(.i .i8), (.i .i16)]) a0, .lst (.st [(.i .i8), (.i .i16)]) a1] => ⟨Bool, s_q0k a0 a1, fun r => .one (.v (.bool r))⟩
 | _ => ACall.fail
theorem f_q0k_sound : Sound Try.prog 78 c_q0k := by
 refine sound_good f_q0k_ctx f_q0k_LV 2 Try.func78 (c := f_q0k_c) (by kernel_rfl) (rv := f_q0k_rv) (by kernel_rfl) (by kernel_rfl) (by kernel_rfl) (by kernel_rfl) fun rs => ?_
 unfold c_q0k
 split
 ·rename_i a0 a1; intro v h; exact ⟨rfl, l_q0k v, rfl, (f_q0k_top a0 a1 _).trans (s_q0k_ok a0 a1 v h)⟩
 ·intro v h; cases h
noncomputable def f_q1i_c : Code := match Try.f136.body with | some c => c | none => .skip
noncomputable def f_q1i_X : Ctx := ⟨TT, phiOf [], noPsi, noXi⟩
def f_q1i_LV : List (Nat × Keep) := [(4, ([0, 1, 5], [], []))]
def f_q1i_rv : List ResultVar := [.tmp 4]
noncomputable def f_q1i_L (r : List A) : Nat → AS → Option (List A) := L f_q1i_X (cnOf f_q1i_LV) f_q1i_c (K0 TT f_q1i_rv) r
theorem f_q1i_ctx : CtxOK Try.prog f_q1i_X := ctx_of tab mix trivial
noncomputable def f_q1i_s4 (x0 : Int) (x1 x2 : List Int) : AS := ⟨[(0, .a (.sl 0)), (1, .a (.sl 1)), (5, .a (.v (.int .i64 x0)))], [(0, some ⟨false, .arr (.one (.i .i64)) x1⟩), (1, some ⟨false, .arr (.one (.i .i64)) x2⟩)], 2⟩
noncomputable def l_q1i (r : Bool) : List A := [.v (.bool r)]
theorem f_q1i_step4 (x0 : Int) (x1 x2 : List Int) (r : List A) (h : (cond (decide (x0 < ((List.length x1 : Nat) : Int))) (cond (inB x0 (List.length x1)) (cond (inB x0 (List.length x2)) (cond ((List.getD x1 (Int.toNat x0) 0) != (List.getD x2 (Int.toNat x0) 0)) (some [.v (.bool false)]) (f_q1i_L r 4 (f_q1i_s4 (IntKind.wrap .i64 (x0 + 1)) x1 x2))) none) none) (some [.v (.bool true)])) = some r) : f_q1i_L r 4 (f_q1i_s4 x0 x1 x2) = some r :=
 step_of' h (by kernel_rfl)
noncomputable def f_q1i_n4 (x0 : Int) (x1 x2 : List Int) : Option ((Int × (List Int) × (List Int)) ⊕ Bool) := (cond (decide (x0 < ((List.length x1 : Nat) : Int))) (cond (inB x0 (List.length x1)) (cond (inB x0 (List.length x2)) (cond ((List.getD x1 (Int.toNat x0) 0) != (List.getD x2 (Int.toNat x0) 0)) (some (Sum.inr false)) (some (Sum.inl ((IntKind.wrap .i64 (x0 + 1)), x1, x2)))) none) none) (some (Sum.inr true)))
noncomputable def f_q1i_run4 (x : (Int × (List Int) × (List Int))) : Option Bool := iter (fun x => f_q1i_n4 x.1 x.2.1 x.2.2) FU x
noncomputable def f_q1i_G4 (r : List A) (x : (Int × (List Int) × (List Int))) : Prop := f_q1i_L r 4 (f_q1i_s4 x.1 x.2.1 x.2.2) = some r
noncomputable def f_q1i_S4 (r : List A) : Bool → Prop := fun v => r = l_q1i v
theorem f_q1i_go4 (r : List A) : ∀ x, sem (f_q1i_S4 r) (f_q1i_run4 x) → f_q1i_G4 r x :=
 fun x => iter_sound (step := fun x => f_q1i_n4 x.1 x.2.1 x.2.2) (fun x h => by
  unfold f_q1i_n4 at h
  exact f_q1i_step4 x.1 x.2.1 x.2.2 r ((sem_cond h (fun h => (sem_cond h (fun h => (sem_cond h (fun h => (sem_cond h (fun h => sem_got h fun q => some_eq q) (fun h => sem_got h fun q => q))) (fun h => sem_none h))) (fun h => sem_none h))) (fun h => sem_got h fun q => some_eq q)))) FU x
noncomputable def s_q1i (a0 a1 : List Int) : Option Bool := (cond (((List.length a0 : Nat) : Int) != ((List.length a1 : Nat) : Int)) (some false) (f_q1i_run4 (0, a0, a1)))
theorem f_q1i_top (a0 a1 : List Int) (r : List A) : ev f_q1i_X (lpc (cnOf f_q1i_LV) (f_q1i_L r)) f_q1i_c (K0 TT f_q1i_rv) (enter [.lst (.one (.i .i64)) a0, .lst (.one (.i .i64)) a1]) = (cond (((List.length a0 : Nat) : Int) != ((List.length a1 : Nat) : Int)) (some [.v (.bool false)]) (f_q1i_L r 4 (f_q1i_s4 0 a0 a1))) := by kernel_rfl
theorem s_q1i_ok (a0 a1 : List Int) (v : Bool) (h : s_q1i a0 a1 = some v) : (cond (((List.length a0 : Nat) : Int) != ((List.length a1 : Nat) : Int)) (some [.v (.bool false)]) (f_q1i_L (l_q1i v) 4 (f_q1i_s4 0 a0 a1))) = some (l_q1i v) := by
 unfold s_q1i at h
 have go : ∀ r, sem (fun v => r = l_q1i v) ((cond (((List.length a0 : Nat) : Int) != ((List.length a1 : Nat) : Int)) (some false) (f_q1i_run4 (0, a0, a1)))) → (cond (((List.length a0 : Nat) : Int) != ((List.length a1 : Nat) : Int)) (some [.v (.bool false)]) (f_q1i_L r 4 (f_q1i_s4 0 a0 a1))) = some r := fun r h => (sem_cond h (fun h => sem_got h fun q => some_eq q) (fun h => f_q1i_go4 r _ h))
 exact go (l_q1i v) ⟨v, h, rfl⟩
noncomputable def c_q1i : List A → ACall
 | [.lst (.one (.i .i64)) a0, .lst (.one (.i .i64)) a1] => ⟨Bool, s_q1i a0 a1, fun r => .one (.v (.bool r))⟩
 | _ => ACall.fail
theorem f_q1i_sound : Sound Try.prog 136 c_q1i := by
 refine sound_good f_q1i_ctx f_q1i_LV 2 Try.func136 (c := f_q1i_c) (by kernel_rfl) (rv := f_q1i_rv) (by kernel_rfl) (by kernel_rfl) (by kernel_rfl) (by kernel_rfl) fun rs => ?_
 unfold c_q1i
 split
 ·rename_i a0 a1; intro v h; exact ⟨rfl, l_q1i v, rfl, (f_q1i_top a0 a1 _).trans (s_q1i_ok a0 a1 v h)⟩
 ·intro v h; cases h
noncomputable def f_q1x_c : Code := match Try.f80.body with | some c => c | none => .skip
noncomputable def f_q1x_X : Ctx := ⟨TT, phiOf [(136, c_q1i)], noPsi, noXi⟩
def f_q1x_LV : List (Nat × Keep) := []
def f_q1x_rv : List ResultVar := [.tmp 4]
noncomputable def f_q1x_L (r : List A) : Nat → AS → Option (List A) := L f_q1x_X (cnOf f_q1x_LV) f_q1x_c (K0 TT f_q1x_rv) r
theorem f_q1x_ctx : CtxOK Try.prog f_q1x_X := ctx_of tab mix ⟨⟨Try.call136, f_q1i_sound⟩, trivial⟩
noncomputable def s_q1x (a0 a1 : List Int) : Option Bool := (Option.bind (s_q1i a0 a1) fun r1 => (some r1))
theorem f_q1x_top (a0 a1 : List Int) (r : List A) : ev f_q1x_X (lpc (cnOf f_q1x_LV) (f_q1x_L r)) f_q1x_c (K0 TT f_q1x_rv) (enter [.lst (.one (.i .i64)) a0, .lst (.one (.i .i64)) a1]) = (Option.bind (s_q1i a0 a1) fun r1 => (some [.v (.bool r1)])) := by kernel_rfl
noncomputable def l_q1x (r : Bool) : List A := [.v (.bool r)]
theorem s_q1x_ok (a0 a1 : List Int) (v : Bool) (h : s_q1x a0 a1 = some v) : (Option.bind (s_q1i a0 a1) fun r1 => (some [.v (.bool r1)])) = some (l_q1x v) := by
 have e : (Option.bind (s_q1i a0 a1) fun r1 => (some [.v (.bool r1)])) = Option.map l_q1x (s_q1x a0 a1) := by
  unfold s_q1x
  exact (bind_app fun _ => rfl)
 rw [e, h]; rfl
noncomputable def c_q1x : List A → ACall
 | [.lst (.one (.i .i64)) a0, .lst (.one (.i .i64)) a1] => ⟨Bool, s_q1x a0 a1, fun r => .one (.v (.bool r))⟩
 | _ => ACall.fail
theorem f_q1x_sound : Sound Try.prog 80 c_q1x := by
 refine sound_good f_q1x_ctx f_q1x_LV 2 Try.func80 (c := f_q1x_c) (by kernel_rfl) (rv := f_q1x_rv) (by kernel_rfl) (by kernel_rfl) (by kernel_rfl) (by kernel_rfl) fun rs => ?_
 unfold c_q1x
 split
 ·rename_i a0 a1; intro v h; exact ⟨rfl, l_q1x v, rfl, (f_q1x_top a0 a1 _).trans (s_q1x_ok a0 a1 v h)⟩
 ·intro v h; cases h
end Go.RR
