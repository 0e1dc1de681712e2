/- Rows that are drawn. -/
import Derived.Test.YtbmaolhjplapoaaGreatDoorVa
import Derived.Test.YtbmaolhjplapoaaGreatDoorR3
set_option linter.unusedVariables false
set_option linter.unusedSimpArgs false
set_option linter.unusedSectionVars false
set_option maxRecDepth 100000
namespace Go.RR
open Go Go.Proofs
noncomputable def f_q1d_c : Code := match Tryz.f71.body with | some c => c | none => .skip
noncomputable def f_q1d_X : Ctx := ⟨TT, phiOf [], noPsi, noXi⟩
def f_q1d_LV : List (Nat × Keep) := []
def f_q1d_rv : List ResultVar := [.tmp 2]
noncomputable def f_q1d_hp0 : List (Nat × Option Blk) := [(0, some ⟨false, .arr (.one (.i .u8)) []⟩)]
noncomputable def f_q1d_L (r : HOut) : Nat → AS → Option HOut := L f_q1d_X (cnOfH 1 f_q1d_LV) f_q1d_c (K0H TT f_q1d_rv f_q1d_hp0) r
theorem f_q1d_ctx : CtxOK Tryz.prog f_q1d_X := ctx_of tab mix trivial
noncomputable def s_q1d (a0 : List Int) : (Int × Int) := (0, 0)
theorem f_q1d_top (a0 : List Int) (r : HOut) : ev f_q1d_X (lpc (cnOfH 1 f_q1d_LV) (f_q1d_L r)) f_q1d_c (K0H TT f_q1d_rv f_q1d_hp0) (enterH [.sl 0] [(0, some ⟨false, .arr (.one (.i .u8)) a0⟩)]) = (some ⟨.a (.ptr 1 [] (0)), [(1, some ⟨true, .box (.rc [.sl 0, .v (.int .i64 0), .v (.int .u64 0)])⟩)], 2⟩) := by kernel_rfl
noncomputable def l_q1d (r : (Int × Int)) : HOut := ⟨.a (.ptr 1 [] (0)), [(1, some ⟨true, .box (.rc [.sl 0, .v (.int .i64 r.1), .v (.int .u64 r.2)])⟩)], 2⟩
theorem s_q1d_ok (a0 : List Int) : (some ⟨.a (.ptr 1 [] (0)), [(1, some ⟨true, .box (.rc [.sl 0, .v (.int .i64 0), .v (.int .u64 0)])⟩)], 2⟩) = some (l_q1d (s_q1d a0)) := by
 unfold s_q1d
 exact rfl
noncomputable def h_q1d : HCon := fun xs hp => match xs, hp with
 | [.sl 0], [(0, some ⟨false, .arr (.one (.i .u8)) a0⟩)] => .one (Int × Int) (some (s_q1d a0)) l_q1d
 | _, _ => HAns.fail
theorem f_q1d_sound : HSound Tryz.prog 71 h_q1d := by
 refine sound_goodH f_q1d_ctx f_q1d_LV 1 1 f_q1d_hp0 Tryz.func71 (c := f_q1d_c) (by kernel_rfl) (rv := f_q1d_rv) (by kernel_rfl) (by kernel_rfl) (by kernel_rfl) (by kernel_rfl) fun xs hp => ?_
 unfold h_q1d
 split
 ·rename_i a0; intro v h; cases h; exact ⟨rfl, ⟨rfl, rfl⟩, (f_q1d_top a0 _).trans (s_q1d_ok a0)⟩
 ·intro v h; cases h
noncomputable def f_q0g_c : Code := match Tryz.f166.body with | some c => c | none => .skip
noncomputable def f_q0g_X : Ctx := ⟨TT, phiOf [], noPsi, noXi⟩
def f_q0g_LV : List (Nat × Keep) := []
def f_q0g_rv : List ResultVar := [.tmp 2]
noncomputable def f_q0g_hp0 : List (Nat × Option Blk) := [(0, some ⟨true, .box (.rc [.sl 1, .v (.bool false), .v (.bool false)])⟩), (1, some ⟨false, .arr (.one (.i .u8)) []⟩)]
noncomputable def f_q0g_L (r : HOut) : Nat → AS → Option HOut := L f_q0g_X (cnOfH 2 f_q0g_LV) f_q0g_c (K0H TT f_q0g_rv f_q0g_hp0) r
theorem f_q0g_ctx : CtxOK Tryz.prog f_q0g_X := ctx_of tab mix trivial
noncomputable def s_q0g (a0 a1 : Int) (a2 : List Int) : Option (Int × Int × Int) := (cond (decide (a0 < ((List.length a2 : Nat) : Int))) (cond (inB a0 (List.length a2)) (cond (decide ((IntKind.wrap .i64 (a0 + 1)) ≤ ((List.length a2 : Nat) : Int))) (some ((IntKind.wrap .i64 (List.getD a2 (Int.toNat a0) 0)), (IntKind.wrap .i64 (a0 + 1)), (IntKind.wrap .u64 ((IntKind.wrap .u64 ((IntKind.wrap .u64 (a1 * 6364136223846793005)) + (IntKind.wrap .u64 (IntKind.wrap .i64 (List.getD a2 (Int.toNat a0) 0))))) + 1442695040888963407)))) (cond (decide (40 < 0)) none (some ((IntKind.wrap .i64 (bAnd .u64 (bShr .u64 (IntKind.wrap .u64 ((IntKind.wrap .u64 ((IntKind.wrap .u64 (a1 * 6364136223846793005)) + (IntKind.wrap .u64 (IntKind.wrap .i64 (List.getD a2 (Int.toNat a0) 0))))) + 1442695040888963407)) 40) 255)), (IntKind.wrap .i64 (a0 + 1)), (IntKind.wrap .u64 ((IntKind.wrap .u64 ((IntKind.wrap .u64 (a1 * 6364136223846793005)) + (IntKind.wrap .u64 (IntKind.wrap .i64 (List.getD a2 (Int.toNat a0) 0))))) + 1442695040888963407)))))) none) (cond (decide ((IntKind.wrap .i64 (a0 + 1)) ≤ ((List.length a2 : Nat) : Int))) (some (0, (IntKind.wrap .i64 (a0 + 1)), (IntKind.wrap .u64 ((IntKind.wrap .u64 ((IntKind.wrap .u64 (a1 * 6364136223846793005)) + (IntKind.wrap .u64 0))) + 1442695040888963407)))) (cond (decide (40 < 0)) none (some ((IntKind.wrap .i64 (bAnd .u64 (bShr .u64 (IntKind.wrap .u64 ((IntKind.wrap .u64 ((IntKind.wrap .u64 (a1 * 6364136223846793005)) + (IntKind.wrap .u64 0))) + 1442695040888963407)) 40) 255)), (IntKind.wrap .i64 (a0 + 1)), (IntKind.wrap .u64 ((IntKind.wrap .u64 ((IntKind.wrap .u64 (a1 * 6364136223846793005)) + (IntKind.wrap .u64 0))) + 1442695040888963407)))))))
theorem f_q0g_top (a0 a1 : Int) (a2 : List Int) (r : HOut) : ev f_q0g_X (lpc (cnOfH 2 f_q0g_LV) (f_q0g_L r)) f_q0g_c (K0H TT f_q0g_rv f_q0g_hp0) (enterH [.ptr 0 [] (0)] [(0, some ⟨true, .box (.rc [.sl 1, .v (.int .i64 a0), .v (.int .u64 a1)])⟩), (1, some ⟨false, .arr (.one (.i .u8)) a2⟩)]) = (cond (decide (a0 < ((List.length a2 : Nat) : Int))) (cond (inB a0 (List.length a2)) (cond (decide ((IntKind.wrap .i64 (a0 + 1)) ≤ ((List.length a2 : Nat) : Int))) (some ⟨.a (.v (.int .i64 (IntKind.wrap .i64 (List.getD a2 (Int.toNat a0) 0)))), [(0, some ⟨true, .box (.rc [.sl 1, .v (.int .i64 (IntKind.wrap .i64 (a0 + 1))), .v (.int .u64 (IntKind.wrap .u64 ((IntKind.wrap .u64 ((IntKind.wrap .u64 (a1 * 6364136223846793005)) + (IntKind.wrap .u64 (IntKind.wrap .i64 (List.getD a2 (Int.toNat a0) 0))))) + 1442695040888963407)))])⟩)], 2⟩) (cond (decide (40 < 0)) none (some ⟨.a (.v (.int .i64 (IntKind.wrap .i64 (bAnd .u64 (bShr .u64 (IntKind.wrap .u64 ((IntKind.wrap .u64 ((IntKind.wrap .u64 (a1 * 6364136223846793005)) + (IntKind.wrap .u64 (IntKind.wrap .i64 (List.getD a2 (Int.toNat a0) 0))))) + 1442695040888963407)) 40) 255)))), [(0, some ⟨true, .box (.rc [.sl 1, .v (.int .i64 (IntKind.wrap .i64 (a0 + 1))), .v (.int .u64 (IntKind.wrap .u64 ((IntKind.wrap .u64 ((IntKind.wrap .u64 (a1 * 6364136223846793005)) + (IntKind.wrap .u64 (IntKind.wrap .i64 (List.getD a2 (Int.toNat a0) 0))))) + 1442695040888963407)))])⟩)], 2⟩))) none) (cond (decide ((IntKind.wrap .i64 (a0 + 1)) ≤ ((List.length a2 : Nat) : Int))) (some ⟨.a (.v (.int .i64 0)), [(0, some ⟨true, .box (.rc [.sl 1, .v (.int .i64 (IntKind.wrap .i64 (a0 + 1))), .v (.int .u64 (IntKind.wrap .u64 ((IntKind.wrap .u64 ((IntKind.wrap .u64 (a1 * 6364136223846793005)) + (IntKind.wrap .u64 0))) + 1442695040888963407)))])⟩)], 2⟩) (cond (decide (40 < 0)) none (some ⟨.a (.v (.int .i64 (IntKind.wrap .i64 (bAnd .u64 (bShr .u64 (IntKind.wrap .u64 ((IntKind.wrap .u64 ((IntKind.wrap .u64 (a1 * 6364136223846793005)) + (IntKind.wrap .u64 0))) + 1442695040888963407)) 40) 255)))), [(0, some ⟨true, .box (.rc [.sl 1, .v (.int .i64 (IntKind.wrap .i64 (a0 + 1))), .v (.int .u64 (IntKind.wrap .u64 ((IntKind.wrap .u64 ((IntKind.wrap .u64 (a1 * 6364136223846793005)) + (IntKind.wrap .u64 0))) + 1442695040888963407)))])⟩)], 2⟩)))) := by kernel_rfl
noncomputable def l_q0g (r : (Int × Int × Int)) : HOut := ⟨.a (.v (.int .i64 r.1)), [(0, some ⟨true, .box (.rc [.sl 1, .v (.int .i64 r.2.1), .v (.int .u64 r.2.2)])⟩)], 2⟩
theorem s_q0g_ok (a0 a1 : Int) (a2 : List Int) (v : (Int × Int × Int)) (h : s_q0g a0 a1 a2 = some v) : (cond (decide (a0 < ((List.length a2 : Nat) : Int))) (cond (inB a0 (List.length a2)) (cond (decide ((IntKind.wrap .i64 (a0 + 1)) ≤ ((List.length a2 : Nat) : Int))) (some ⟨.a (.v (.int .i64 (IntKind.wrap .i64 (List.getD a2 (Int.toNat a0) 0)))), [(0, some ⟨true, .box (.rc [.sl 1, .v (.int .i64 (IntKind.wrap .i64 (a0 + 1))), .v (.int .u64 (IntKind.wrap .u64 ((IntKind.wrap .u64 ((IntKind.wrap .u64 (a1 * 6364136223846793005)) + (IntKind.wrap .u64 (IntKind.wrap .i64 (List.getD a2 (Int.toNat a0) 0))))) + 1442695040888963407)))])⟩)], 2⟩) (cond (decide (40 < 0)) none (some ⟨.a (.v (.int .i64 (IntKind.wrap .i64 (bAnd .u64 (bShr .u64 (IntKind.wrap .u64 ((IntKind.wrap .u64 ((IntKind.wrap .u64 (a1 * 6364136223846793005)) + (IntKind.wrap .u64 (IntKind.wrap .i64 (List.getD a2 (Int.toNat a0) 0))))) + 1442695040888963407)) 40) 255)))), [(0, some ⟨true, .box (.rc [.sl 1, .v (.int .i64 (IntKind.wrap .i64 (a0 + 1))), .v (.int .u64 (IntKind.wrap .u64 ((IntKind.wrap .u64 ((IntKind.wrap .u64 (a1 * 6364136223846793005)) + (IntKind.wrap .u64 (IntKind.wrap .i64 (List.getD a2 (Int.toNat a0) 0))))) + 1442695040888963407)))])⟩)], 2⟩))) none) (cond (decide ((IntKind.wrap .i64 (a0 + 1)) ≤ ((List.length a2 : Nat) : Int))) (some ⟨.a (.v (.int .i64 0)), [(0, some ⟨true, .box (.rc [.sl 1, .v (.int .i64 (IntKind.wrap .i64 (a0 + 1))), .v (.int .u64 (IntKind.wrap .u64 ((IntKind.wrap .u64 ((IntKind.wrap .u64 (a1 * 6364136223846793005)) + (IntKind.wrap .u64 0))) + 1442695040888963407)))])⟩)], 2⟩) (cond (decide (40 < 0)) none (some ⟨.a (.v (.int .i64 (IntKind.wrap .i64 (bAnd .u64 (bShr .u64 (IntKind.wrap .u64 ((IntKind.wrap .u64 ((IntKind.wrap .u64 (a1 * 6364136223846793005)) + (IntKind.wrap .u64 0))) + 1442695040888963407)) 40) 255)))), [(0, some ⟨true, .box (.rc [.sl 1, .v (.int .i64 (IntKind.wrap .i64 (a0 + 1))), .v (.int .u64 (IntKind.wrap .u64 ((IntKind.wrap .u64 ((IntKind.wrap .u64 (a1 * 6364136223846793005)) + (IntKind.wrap .u64 0))) + 1442695040888963407)))])⟩)], 2⟩)))) = some (l_q0g v) := by
 have e : (cond (decide (a0 < ((List.length a2 : Nat) : Int))) (cond (inB a0 (List.length a2)) (cond (decide ((IntKind.wrap .i64 (a0 + 1)) ≤ ((List.length a2 : Nat) : Int))) (some ⟨.a (.v (.int .i64 (IntKind.wrap .i64 (List.getD a2 (Int.toNat a0) 0)))), [(0, some ⟨true, .box (.rc [.sl 1, .v (.int .i64 (IntKind.wrap .i64 (a0 + 1))), .v (.int .u64 (IntKind.wrap .u64 ((IntKind.wrap .u64 ((IntKind.wrap .u64 (a1 * 6364136223846793005)) + (IntKind.wrap .u64 (IntKind.wrap .i64 (List.getD a2 (Int.toNat a0) 0))))) + 1442695040888963407)))])⟩)], 2⟩) (cond (decide (40 < 0)) none (some ⟨.a (.v (.int .i64 (IntKind.wrap .i64 (bAnd .u64 (bShr .u64 (IntKind.wrap .u64 ((IntKind.wrap .u64 ((IntKind.wrap .u64 (a1 * 6364136223846793005)) + (IntKind.wrap .u64 (IntKind.wrap .i64 (List.getD a2 (Int.toNat a0) 0))))) + 1442695040888963407)) 40) 255)))), [(0, some ⟨true, .box (.rc [.sl 1, .v (.int .i64 (IntKind.wrap .i64 (a0 + 1))), .v (.int .u64 (IntKind.wrap .u64 ((IntKind.wrap .u64 ((IntKind.wrap .u64 (a1 * 6364136223846793005)) + (IntKind.wrap .u64 (IntKind.wrap .i64 (List.getD a2 (Int.toNat a0) 0))))) + 1442695040888963407)))])⟩)], 2⟩))) none) (cond (decide ((IntKind.wrap .i64 (a0 + 1)) ≤ ((List.length a2 : Nat) : Int))) (some ⟨.a (.v (.int .i64 0)), [(0, some ⟨true, .box (.rc [.sl 1, .v (.int .i64 (IntKind.wrap .i64 (a0 + 1))), .v (.int .u64 (IntKind.wrap .u64 ((IntKind.wrap .u64 ((IntKind.wrap .u64 (a1 * 6364136223846793005)) + (IntKind.wrap .u64 0))) + 1442695040888963407)))])⟩)], 2⟩) (cond (decide (40 < 0)) none (some ⟨.a (.v (.int .i64 (IntKind.wrap .i64 (bAnd .u64 (bShr .u64 (IntKind.wrap .u64 ((IntKind.wrap .u64 ((IntKind.wrap .u64 (a1 * 6364136223846793005)) + (IntKind.wrap .u64 0))) + 1442695040888963407)) 40) 255)))), [(0, some ⟨true, .box (.rc [.sl 1, .v (.int .i64 (IntKind.wrap .i64 (a0 + 1))), .v (.int .u64 (IntKind.wrap .u64 ((IntKind.wrap .u64 ((IntKind.wrap .u64 (a1 * 6364136223846793005)) + (IntKind.wrap .u64 0))) + 1442695040888963407)))])⟩)], 2⟩)))) = Option.map l_q0g (s_q0g a0 a1 a2) := by
  unfold s_q0g
  exact (cond_app (Option.map l_q0g) (cond_app (Option.map l_q0g) (cond_app (Option.map l_q0g) rfl (cond_app (Option.map l_q0g) rfl rfl)) rfl) (cond_app (Option.map l_q0g) rfl (cond_app (Option.map l_q0g) rfl rfl)))
 rw [e, h]; rfl
noncomputable def h_q0g : HCon := fun xs hp => match xs, hp with
 | [.ptr 0 [] (0)], [(0, some ⟨true, .box (.rc [.sl 1, .v (.int .i64 a0), .v (.int .u64 a1)])⟩), (1, some ⟨false, .arr (.one (.i .u8)) a2⟩)] => .one (Int × Int × Int) (s_q0g a0 a1 a2) l_q0g
 | _, _ => HAns.fail
theorem f_q0g_sound : HSound Tryz.prog 166 h_q0g := by
 refine sound_goodH f_q0g_ctx f_q0g_LV 1 2 f_q0g_hp0 Tryz.func166 (c := f_q0g_c) (by kernel_rfl) (rv := f_q0g_rv) (by kernel_rfl) (by kernel_rfl) (by kernel_rfl) (by kernel_rfl) fun xs hp => ?_
 unfold h_q0g
 split
 ·rename_i a0 a1 a2; intro v h; exact ⟨rfl, ⟨rfl, rfl⟩, (f_q0g_top a0 a1 a2 _).trans (s_q0g_ok a0 a1 a2 v h)⟩
 ·intro v h; cases h
noncomputable def f_q0h_c : Code := match Tryz.f105.body with | some c => c | none => .skip
noncomputable def f_q0h_X : Ctx := ⟨TT, phiOf [], noPsi, (xiOf [(166, h_q0g)])⟩
def f_q0h_LV : List (Nat × Keep) := []
def f_q0h_rv : List ResultVar := [.tmp 4]
noncomputable def f_q0h_hp0 : List (Nat × Option Blk) := [(0, some ⟨true, .box (.rc [.sl 1, .v (.bool false), .v (.bool false)])⟩), (1, some ⟨false, .arr (.one (.i .u8)) []⟩)]
noncomputable def f_q0h_L (r : HOut) : Nat → AS → Option HOut := L f_q0h_X (cnOfH 2 f_q0h_LV) f_q0h_c (K0H TT f_q0h_rv f_q0h_hp0) r
theorem f_q0h_ctx : CtxOK Tryz.prog f_q0h_X := ctx_ofH tab mix (l := []) trivial psi_no (xi_ok (l := [(166, h_q0g)]) ⟨⟨Tryz.call166, f_q0g_sound⟩, trivial⟩)
noncomputable def s_q0h (a0 a1 a2 : Int) (a3 : List Int) : Option (Int × Int × Int) := (cond (decide (a0 ≤ 1)) (some (0, a1, a2)) (Option.bind (s_q0g a1 a2 a3) fun r1 => (cond (decide (a0 > 200)) (Option.bind (s_q0g (r1.2.1) (r1.2.2) a3) fun r2 => (cond (decide (a0 = 0)) none (some ((Int.tmod (IntKind.wrap .i64 ((IntKind.wrap .i64 (r1.1 * 256)) + r2.1)) a0), (r2.2.1), (r2.2.2))))) (cond (decide (a0 = 0)) none (some ((Int.tmod r1.1 a0), (r1.2.1), (r1.2.2)))))))
theorem f_q0h_top (a0 a1 a2 : Int) (a3 : List Int) (r : HOut) : ev f_q0h_X (lpc (cnOfH 2 f_q0h_LV) (f_q0h_L r)) f_q0h_c (K0H TT f_q0h_rv f_q0h_hp0) (enterH [.ptr 0 [] (0), .v (.int .i64 a0)] [(0, some ⟨true, .box (.rc [.sl 1, .v (.int .i64 a1), .v (.int .u64 a2)])⟩), (1, some ⟨false, .arr (.one (.i .u8)) a3⟩)]) = (cond (decide (a0 ≤ 1)) (some ⟨.a (.v (.int .i64 0)), [(0, some ⟨true, .box (.rc [.sl 1, .v (.int .i64 a1), .v (.int .u64 a2)])⟩)], 2⟩) (Option.bind (s_q0g a1 a2 a3) fun r1 => (cond (decide (a0 > 200)) (Option.bind (s_q0g (r1.2.1) (r1.2.2) a3) fun r2 => (cond (decide (a0 = 0)) none (some ⟨.a (.v (.int .i64 (Int.tmod (IntKind.wrap .i64 ((IntKind.wrap .i64 (r1.1 * 256)) + r2.1)) a0))), [(0, some ⟨true, .box (.rc [.sl 1, .v (.int .i64 r2.2.1), .v (.int .u64 r2.2.2)])⟩)], 2⟩))) (cond (decide (a0 = 0)) none (some ⟨.a (.v (.int .i64 (Int.tmod r1.1 a0))), [(0, some ⟨true, .box (.rc [.sl 1, .v (.int .i64 r1.2.1), .v (.int .u64 r1.2.2)])⟩)], 2⟩))))) := by kernel_rfl
noncomputable def l_q0h (r : (Int × Int × Int)) : HOut := ⟨.a (.v (.int .i64 r.1)), [(0, some ⟨true, .box (.rc [.sl 1, .v (.int .i64 r.2.1), .v (.int .u64 r.2.2)])⟩)], 2⟩
theorem s_q0h_ok (a0 a1 a2 : Int) (a3 : List Int) (v : (Int × Int × Int)) (h : s_q0h a0 a1 a2 a3 = some v) : (cond (decide (a0 ≤ 1)) (some ⟨.a (.v (.int .i64 0)), [(0, some ⟨true, .box (.rc [.sl 1, .v (.int .i64 a1), .v (.int .u64 a2)])⟩)], 2⟩) (Option.bind (s_q0g a1 a2 a3) fun r1 => (cond (decide (a0 > 200)) (Option.bind (s_q0g (r1.2.1) (r1.2.2) a3) fun r2 => (cond (decide (a0 = 0)) none (some ⟨.a (.v (.int .i64 (Int.tmod (IntKind.wrap .i64 ((IntKind.wrap .i64 (r1.1 * 256)) + r2.1)) a0))), [(0, some ⟨true, .box (.rc [.sl 1, .v (.int .i64 r2.2.1), .v (.int .u64 r2.2.2)])⟩)], 2⟩))) (cond (decide (a0 = 0)) none (some ⟨.a (.v (.int .i64 (Int.tmod r1.1 a0))), [(0, some ⟨true, .box (.rc [.sl 1, .v (.int .i64 r1.2.1), .v (.int .u64 r1.2.2)])⟩)], 2⟩))))) = some (l_q0h v) := by
 have e : (cond (decide (a0 ≤ 1)) (some ⟨.a (.v (.int .i64 0)), [(0, some ⟨true, .box (.rc [.sl 1, .v (.int .i64 a1), .v (.int .u64 a2)])⟩)], 2⟩) (Option.bind (s_q0g a1 a2 a3) fun r1 => (cond (decide (a0 > 200)) (Option.bind (s_q0g (r1.2.1) (r1.2.2) a3) fun r2 => (cond (decide (a0 = 0)) none (some ⟨.a (.v (.int .i64 (Int.tmod (IntKind.wrap .i64 ((IntKind.wrap .i64 (r1.1 * 256)) + r2.1)) a0))), [(0, some ⟨true, .box (.rc [.sl 1, .v (.int .i64 r2.2.1), .v (.int .u64 r2.2.2)])⟩)], 2⟩))) (cond (decide (a0 = 0)) none (some ⟨.a (.v (.int .i64 (Int.tmod r1.1 a0))), [(0, some ⟨true, .box (.rc [.sl 1, .v (.int .i64 r1.2.1), .v (.int .u64 r1.2.2)])⟩)], 2⟩))))) = Option.map l_q0h (s_q0h a0 a1 a2 a3) := by
  unfold s_q0h
  exact (cond_app (Option.map l_q0h) rfl (bind_app fun _ => (cond_app (Option.map l_q0h) (bind_app fun _ => (cond_app (Option.map l_q0h) rfl rfl)) (cond_app (Option.map l_q0h) rfl rfl))))
 rw [e, h]; rfl
noncomputable def h_q0h : HCon := fun xs hp => match xs, hp with
 | [.ptr 0 [] (0), .v (.int .i64 a0)], [(0, some ⟨true, .box (.rc [.sl 1, .v (.int .i64 a1), .v (.int .u64 a2)])⟩), (1, some ⟨false, .arr (.one (.i .u8)) a3⟩)] => .one (Int × Int × Int) (s_q0h a0 a1 a2 a3) l_q0h
 | _, _ => HAns.fail
theorem f_q0h_sound : HSound Tryz.prog 105 h_q0h := by
 refine sound_goodH f_q0h_ctx f_q0h_LV 2 2 f_q0h_hp0 Tryz.func105 (c := f_q0h_c) (by kernel_rfl) (rv := f_q0h_rv) (by kernel_rfl) (by kernel_rfl) (by kernel_rfl) (by kernel_rfl) fun xs hp => ?_
 unfold h_q0h
 split
 ·rename_i a0 a1 a2 a3; intro v h; exact ⟨rfl, ⟨rfl, rfl⟩, (f_q0h_top a0 a1 a2 a3 _).trans (s_q0h_ok a0 a1 a2 a3 v h)⟩
 ·intro v h; cases h
noncomputable def f_q12_c : Code := match Tryz.f70.body with | some c => c | none => .skip
noncomputable def f_q12_X : Ctx := ⟨TT, phiOf [], noPsi, (xiOf [(105, h_q0h)])⟩
def f_q12_LV : List (Nat × Keep) := [(3, ([0, 3, 4], [], []))]
def f_q12_rv : List ResultVar := [.tmp 2]
noncomputable def f_q12_hp0 : List (Nat × Option Blk) := [(0, some ⟨true, .box (.rc [.sl 1, .v (.bool false), .v (.bool false)])⟩), (1, some ⟨false, .arr (.one (.i .u8)) []⟩)]
noncomputable def f_q12_L (r : HOut) : Nat → AS → Option HOut := L f_q12_X (cnOfH 2 f_q12_LV) f_q12_c (K0H TT f_q12_rv f_q12_hp0) r
theorem f_q12_ctx : CtxOK Tryz.prog f_q12_X := ctx_ofH tab mix (l := []) trivial psi_no (xi_ok (l := [(105, h_q0h)]) ⟨⟨Tryz.call105, f_q0h_sound⟩, trivial⟩)
noncomputable def f_q12_s3 (x0 x1 x2 : Int) (x3 x4 : List Int) : AS := ⟨[(0, .a (.ptr 0 [] (0))), (3, .a (.sl 2)), (4, .a (.v (.int .i64 x0)))], [(0, some ⟨true, .box (.rc [.sl 1, .v (.int .i64 x1), .v (.int .u64 x2)])⟩), (1, some ⟨false, .arr (.one (.i .u8)) x3⟩), (2, some ⟨true, .arr (.one (.i .i16)) x4⟩)], 3⟩
noncomputable def l_q12 (r : (Int × Int × (List Int))) : HOut := ⟨.a (.sl 2), [(0, some ⟨true, .box (.rc [.sl 1, .v (.int .i64 r.1), .v (.int .u64 r.2.1)])⟩), (2, some ⟨true, .arr (.one (.i .i16)) r.2.2⟩)], 3⟩
theorem f_q12_step3 (x0 x1 x2 : Int) (x3 x4 : List Int) (r : HOut) (h : (cond (decide (x0 > 0)) (Option.bind (s_q0h 9 x1 x2 x3) fun r3 => (cond (fits ((List.length (x4 : List Int) + List.length ([(IntKind.wrap .i16 (IntKind.wrap .i64 (1 + r3.1)))] : List Int)) * 2)) (f_q12_L r 3 (f_q12_s3 (IntKind.wrap .i64 (x0 - 1)) r3.2.1 r3.2.2 x3 (x4 ++ [(IntKind.wrap .i16 (IntKind.wrap .i64 (1 + r3.1)))]))) none)) (some ⟨.a (.sl 2), [(0, some ⟨true, .box (.rc [.sl 1, .v (.int .i64 x1), .v (.int .u64 x2)])⟩), (2, some ⟨true, .arr (.one (.i .i16)) x4⟩)], 3⟩)) = some r) : f_q12_L r 3 (f_q12_s3 x0 x1 x2 x3 x4) = some r :=
 step_of' h (by kernel_rfl)
noncomputable def f_q12_n3 (x0 x1 x2 : Int) (x3 x4 : List Int) : Option ((Int × Int × Int × (List Int) × (List Int)) ⊕ (Int × Int × (List Int))) := (cond (decide (x0 > 0)) (Option.bind (s_q0h 9 x1 x2 x3) fun r3 => (cond (fits ((List.length (x4 : List Int) + List.length ([(IntKind.wrap .i16 (IntKind.wrap .i64 (1 + r3.1)))] : List Int)) * 2)) (some (Sum.inl ((IntKind.wrap .i64 (x0 - 1)), r3.2.1, r3.2.2, x3, (x4 ++ [(IntKind.wrap .i16 (IntKind.wrap .i64 (1 + r3.1)))])))) none)) (some (Sum.inr (x1, x2, x4))))
noncomputable def f_q12_run3 (x : (Int × Int × Int × (List Int) × (List Int))) : Option (Int × Int × (List Int)) := iter (fun x => f_q12_n3 x.1 x.2.1 x.2.2.1 x.2.2.2.1 x.2.2.2.2) FU x
noncomputable def f_q12_G3 (r : HOut) (x : (Int × Int × Int × (List Int) × (List Int))) : Prop := f_q12_L r 3 (f_q12_s3 x.1 x.2.1 x.2.2.1 x.2.2.2.1 x.2.2.2.2) = some r
noncomputable def f_q12_S3 (r : HOut) : (Int × Int × (List Int)) → Prop := fun v => r = l_q12 v
theorem f_q12_go3 (r : HOut) : ∀ x, sem (f_q12_S3 r) (f_q12_run3 x) → f_q12_G3 r x :=
 fun x => iter_sound (step := fun x => f_q12_n3 x.1 x.2.1 x.2.2.1 x.2.2.2.1 x.2.2.2.2) (fun x h => by
  unfold f_q12_n3 at h
  exact f_q12_step3 x.1 x.2.1 x.2.2.1 x.2.2.2.1 x.2.2.2.2 r ((sem_cond h (fun h => (sem_bind h fun r3 h => (sem_cond h (fun h => sem_got h fun q => q) (fun h => sem_none h)))) (fun h => sem_got h fun q => some_eq q)))) FU x
noncomputable def s_q12 (a0 a1 : Int) (a2 : List Int) : Option (Int × Int × (List Int)) := (Option.bind (s_q0h 9 a0 a1 a2) fun r1 => (Option.bind (s_q0h 6 (r1.2.1) (r1.2.2) a2) fun r2 => (f_q12_run3 (r2.1, r2.2.1, r2.2.2, a2, [(IntKind.wrap .i16 (IntKind.wrap .i64 (1 + r1.1)))]))))
theorem f_q12_top (a0 a1 : Int) (a2 : List Int) (r : HOut) : ev f_q12_X (lpc (cnOfH 2 f_q12_LV) (f_q12_L r)) f_q12_c (K0H TT f_q12_rv f_q12_hp0) (enterH [.ptr 0 [] (0)] [(0, some ⟨true, .box (.rc [.sl 1, .v (.int .i64 a0), .v (.int .u64 a1)])⟩), (1, some ⟨false, .arr (.one (.i .u8)) a2⟩)]) = (Option.bind (s_q0h 9 a0 a1 a2) fun r1 => (Option.bind (s_q0h 6 (r1.2.1) (r1.2.2) a2) fun r2 => (f_q12_L r 3 (f_q12_s3 r2.1 r2.2.1 r2.2.2 a2 [(IntKind.wrap .i16 (IntKind.wrap .i64 (1 + r1.1)))])))) := by kernel_rfl
theorem s_q12_ok (a0 a1 : Int) (a2 : List Int) (v : (Int × Int × (List Int))) (h : s_q12 a0 a1 a2 = some v) : (Option.bind (s_q0h 9 a0 a1 a2) fun r1 => (Option.bind (s_q0h 6 (r1.2.1) (r1.2.2) a2) fun r2 => (f_q12_L (l_q12 v) 3 (f_q12_s3 r2.1 r2.2.1 r2.2.2 a2 [(IntKind.wrap .i16 (IntKind.wrap .i64 (1 + r1.1)))])))) = some (l_q12 v) := by
 unfold s_q12 at h
 have go : ∀ r, sem (fun v => r = l_q12 v) ((Option.bind (s_q0h 9 a0 a1 a2) fun r1 => (Option.bind (s_q0h 6 (r1.2.1) (r1.2.2) a2) fun r2 => (f_q12_run3 (r2.1, r2.2.1, r2.2.2, a2, [(IntKind.wrap .i16 (IntKind.wrap .i64 (1 + r1.1)))]))))) → (Option.bind (s_q0h 9 a0 a1 a2) fun r1 => (Option.bind (s_q0h 6 (r1.2.1) (r1.2.2) a2) fun r2 => (f_q12_L r 3 (f_q12_s3 r2.1 r2.2.1 r2.2.2 a2 [(IntKind.wrap .i16 (IntKind.wrap .i64 (1 + r1.1)))])))) = some r := fun r h => (sem_bind h fun r1 h => (sem_bind h fun r2 h => f_q12_go3 r _ h))
 exact go (l_q12 v) ⟨v, h, rfl⟩
noncomputable def h_q12 : HCon := fun xs hp => match xs, hp with
 | [.ptr 0 [] (0)], [(0, some ⟨true, .box (.rc [.sl 1, .v (.int .i64 a0), .v (.int .u64 a1)])⟩), (1, some ⟨false, .arr (.one (.i .u8)) a2⟩)] => .one (Int × Int × (List Int)) (s_q12 a0 a1 a2) l_q12
 | _, _ => HAns.fail
theorem f_q12_sound : HSound Tryz.prog 70 h_q12 := by
 refine sound_goodH f_q12_ctx f_q12_LV 1 2 f_q12_hp0 Tryz.func70 (c := f_q12_c) (by kernel_rfl) (rv := f_q12_rv) (by kernel_rfl) (by kernel_rfl) (by kernel_rfl) (by kernel_rfl) fun xs hp => ?_
 unfold h_q12
 split
 ·rename_i a0 a1 a2; intro v h; exact ⟨rfl, ⟨rfl, rfl⟩, (f_q12_top a0 a1 a2 _).trans (s_q12_ok a0 a1 a2 v h)⟩
 ·intro v h; cases h
noncomputable def f_q1v_c : Code := match Tryz.f7.body with | some c => c | none => .skip
noncomputable def f_q1v_X : Ctx := ⟨TT, phiOf [], noPsi, (xiOf [(70, h_q12), (71, h_q1d)])⟩
def f_q1v_LV : List (Nat × Keep) := []
def f_q1v_rv : List ResultVar := [.tmp 2]
noncomputable def f_q1v_L (r : List A) : Nat → AS → Option (List A) := L f_q1v_X (cnOf f_q1v_LV) f_q1v_c (K0 TT f_q1v_rv) r
theorem f_q1v_ctx : CtxOK Tryz.prog f_q1v_X := ctx_ofH tab mix (l := []) trivial psi_no (xi_ok (l := [(70, h_q12), (71, h_q1d)]) ⟨⟨Tryz.call70, f_q12_sound⟩, ⟨Tryz.call71, f_q1d_sound⟩, trivial⟩)
noncomputable def s_q1v (a0 : List Int) : Option (List Int) := (Option.bind (s_q12 (s_q1d a0).1 (s_q1d a0).2 a0) fun r1 => (some (r1.2.2)))
theorem f_q1v_top (a0 : List Int) (r : List A) : ev f_q1v_X (lpc (cnOf f_q1v_LV) (f_q1v_L r)) f_q1v_c (K0 TT f_q1v_rv) (enter [.lst (.one (.i .u8)) a0]) = (Option.bind (s_q12 (s_q1d a0).1 (s_q1d a0).2 a0) fun r1 => (some [.lst (.one (.i .i16)) r1.2.2])) := by kernel_rfl
noncomputable def l_q1v (r : List Int) : List A := [.lst (.one (.i .i16)) r]
theorem s_q1v_ok (a0 v : List Int) (h : s_q1v a0 = some v) : (Option.bind (s_q12 (s_q1d a0).1 (s_q1d a0).2 a0) fun r1 => (some [.lst (.one (.i .i16)) r1.2.2])) = some (l_q1v v) := by
 have e : (Option.bind (s_q12 (s_q1d a0).1 (s_q1d a0).2 a0) fun r1 => (some [.lst (.one (.i .i16)) r1.2.2])) = Option.map l_q1v (s_q1v a0) := by
  unfold s_q1v
  exact (bind_app fun _ => rfl)
 rw [e, h]; rfl
noncomputable def c_q1v : List A → ACall
 | [.lst (.one (.i .u8)) a0] => ⟨(List Int), s_q1v a0, fun r => .one (.lst (.one (.i .i16)) r)⟩
 | _ => ACall.fail
theorem f_q1v_sound : Sound Tryz.prog 7 c_q1v := by
 refine sound_good f_q1v_ctx f_q1v_LV 1 Tryz.func7 (c := f_q1v_c) (by kernel_rfl) (rv := f_q1v_rv) (by kernel_rfl) (by kernel_rfl) (by kernel_rfl) (by kernel_rfl) fun rs => ?_
 unfold c_q1v
 split
 ·rename_i a0; intro v h; exact ⟨rfl, l_q1v v, rfl, (f_q1v_top a0 _).trans (s_q1v_ok a0 v h)⟩
 ·intro v h; cases h
end Go.RR
