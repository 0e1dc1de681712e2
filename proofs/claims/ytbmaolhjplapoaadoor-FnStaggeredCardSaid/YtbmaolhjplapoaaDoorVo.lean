/- Rows and paths that are drawn. -/
import Derived.Test.YtbmaolhjplapoaaDoorVa
import Derived.Test.YtbmaolhjplapoaaDoorR3
set_option linter.unusedVariables false
set_option linter.unusedSimpArgs false
set_option linter.unusedSectionVars false
set_option maxRecDepth 100000
namespace Go.RR
open Go Go.Proofs

/-! ### function 62: loop.example/g01322/spec.l00From -/
noncomputable def f_sl00From_c : Code := match Tryd.f62.body with | some c => c | none => .skip
noncomputable def f_sl00From_X : Ctx := ⟨TT, phiOf [], noPsi, noXi⟩
def f_sl00From_LV : List (Nat × Keep) := []
def f_sl00From_rv : List ResultVar := [.tmp 2]
noncomputable def f_sl00From_hp0 : List (Nat × Option Blk) := [(0, some ⟨false, .arr (.one (.i .u8)) []⟩)]
noncomputable def f_sl00From_L (r : HOut) : Nat → AS → Option HOut := L f_sl00From_X (cnOfH 1 f_sl00From_LV) f_sl00From_c (K0H TT f_sl00From_rv f_sl00From_hp0) r
theorem f_sl00From_ctx : CtxOK Tryd.prog f_sl00From_X := ctx_of tab mix trivial
noncomputable def s_sl00From (a0 : (List Int)) : (Int × Int) := (0, 0)
theorem f_sl00From_top (a0 : (List Int)) (r : HOut) : ev f_sl00From_X (lpc (cnOfH 1 f_sl00From_LV) (f_sl00From_L r)) f_sl00From_c (K0H TT f_sl00From_rv f_sl00From_hp0) (enterH [.sl 0] [(0, some ⟨false, .arr (.one (.i .u8)) a0⟩)]) = (some ⟨.a (.ptr 1 [] (0)), [(1, some ⟨true, .box (.rc [.sl 0, .v (.int .i64 0), .v (.int .u64 0)])⟩)], 2⟩) := by kernel_rfl
noncomputable def l_sl00From (r : (Int × Int)) : HOut := ⟨.a (.ptr 1 [] (0)), [(1, some ⟨true, .box (.rc [.sl 0, .v (.int .i64 r.1), .v (.int .u64 r.2)])⟩)], 2⟩
theorem s_sl00From_ok (a0 : (List Int)) : (some ⟨.a (.ptr 1 [] (0)), [(1, some ⟨true, .box (.rc [.sl 0, .v (.int .i64 0), .v (.int .u64 0)])⟩)], 2⟩) = some (l_sl00From (s_sl00From a0)) := by
  unfold s_sl00From
  exact rfl
noncomputable def h_sl00From : HCon := fun xs hp => match xs, hp with
  | [.sl 0], [(0, some ⟨false, .arr (.one (.i .u8)) a0⟩)] => .one (Int × Int) (some (s_sl00From a0)) l_sl00From
  | _, _ => HAns.fail
theorem f_sl00From_sound : HSound Tryd.prog 62 h_sl00From := by
  refine sound_goodH f_sl00From_ctx f_sl00From_LV 1 1 f_sl00From_hp0 Tryd.func62 (c := f_sl00From_c) (by kernel_rfl) (rv := f_sl00From_rv) (by kernel_rfl) (by kernel_rfl) (by kernel_rfl) (by kernel_rfl) fun xs hp => ?_
  unfold h_sl00From
  split
  · rename_i a0; intro v h; cases h; exact ⟨rfl, ⟨rfl, rfl⟩, (f_sl00From_top a0 _).trans (s_sl00From_ok a0)⟩
  · intro v h; cases h
noncomputable def m_sl00From : List A → List (Nat × Option Blk) → Bool
  | [.sl 0], [(0, some ⟨false, .arr (.one (.i .u8)) a0⟩)] => true
  | _, _ => false

/-! ### function 91: (*loop.example/g01322/spec.l00Src).next -/
noncomputable def f_sl00Src_next_c : Code := match Tryd.f91.body with | some c => c | none => .skip
noncomputable def f_sl00Src_next_X : Ctx := ⟨TT, phiOf [], noPsi, noXi⟩
def f_sl00Src_next_LV : List (Nat × Keep) := []
def f_sl00Src_next_rv : List ResultVar := [.tmp 2]
noncomputable def f_sl00Src_next_hp0 : List (Nat × Option Blk) := [(0, some ⟨true, .box (.rc [.sl 1, .v (.bool false), .v (.bool false)])⟩), (1, some ⟨false, .arr (.one (.i .u8)) []⟩)]
noncomputable def f_sl00Src_next_L (r : HOut) : Nat → AS → Option HOut := L f_sl00Src_next_X (cnOfH 2 f_sl00Src_next_LV) f_sl00Src_next_c (K0H TT f_sl00Src_next_rv f_sl00Src_next_hp0) r
theorem f_sl00Src_next_ctx : CtxOK Tryd.prog f_sl00Src_next_X := ctx_of tab mix trivial
noncomputable def s_sl00Src_next (a0 : Int) (a1 : Int) (a2 : (List Int)) : Option (Int × Int × Int) := (cond (decide (a0 < ((List.length a2 : Nat) : Int))) (cond (inB a0 (List.length a2)) (cond (decide ((IntKind.wrap .i64 (a0 + 1)) ≤ ((List.length a2 : Nat) : Int))) (some ((IntKind.wrap .i64 (List.getD a2 (Int.toNat a0) 0)), (IntKind.wrap .i64 (a0 + 1)), (IntKind.wrap .u64 ((IntKind.wrap .u64 ((IntKind.wrap .u64 (a1 * 6364136223846793005)) + (IntKind.wrap .u64 (IntKind.wrap .i64 (List.getD a2 (Int.toNat a0) 0))))) + 1442695040888963407)))) (cond (decide (40 < 0)) none (some ((IntKind.wrap .i64 (bAnd .u64 (bShr .u64 (IntKind.wrap .u64 ((IntKind.wrap .u64 ((IntKind.wrap .u64 (a1 * 6364136223846793005)) + (IntKind.wrap .u64 (IntKind.wrap .i64 (List.getD a2 (Int.toNat a0) 0))))) + 1442695040888963407)) 40) 255)), (IntKind.wrap .i64 (a0 + 1)), (IntKind.wrap .u64 ((IntKind.wrap .u64 ((IntKind.wrap .u64 (a1 * 6364136223846793005)) + (IntKind.wrap .u64 (IntKind.wrap .i64 (List.getD a2 (Int.toNat a0) 0))))) + 1442695040888963407)))))) none) (cond (decide ((IntKind.wrap .i64 (a0 + 1)) ≤ ((List.length a2 : Nat) : Int))) (some (0, (IntKind.wrap .i64 (a0 + 1)), (IntKind.wrap .u64 ((IntKind.wrap .u64 ((IntKind.wrap .u64 (a1 * 6364136223846793005)) + (IntKind.wrap .u64 0))) + 1442695040888963407)))) (cond (decide (40 < 0)) none (some ((IntKind.wrap .i64 (bAnd .u64 (bShr .u64 (IntKind.wrap .u64 ((IntKind.wrap .u64 ((IntKind.wrap .u64 (a1 * 6364136223846793005)) + (IntKind.wrap .u64 0))) + 1442695040888963407)) 40) 255)), (IntKind.wrap .i64 (a0 + 1)), (IntKind.wrap .u64 ((IntKind.wrap .u64 ((IntKind.wrap .u64 (a1 * 6364136223846793005)) + (IntKind.wrap .u64 0))) + 1442695040888963407)))))))
theorem f_sl00Src_next_top (a0 : Int) (a1 : Int) (a2 : (List Int)) (r : HOut) : ev f_sl00Src_next_X (lpc (cnOfH 2 f_sl00Src_next_LV) (f_sl00Src_next_L r)) f_sl00Src_next_c (K0H TT f_sl00Src_next_rv f_sl00Src_next_hp0) (enterH [.ptr 0 [] (0)] [(0, some ⟨true, .box (.rc [.sl 1, .v (.int .i64 a0), .v (.int .u64 a1)])⟩), (1, some ⟨false, .arr (.one (.i .u8)) a2⟩)]) = (cond (decide (a0 < ((List.length a2 : Nat) : Int))) (cond (inB a0 (List.length a2)) (cond (decide ((IntKind.wrap .i64 (a0 + 1)) ≤ ((List.length a2 : Nat) : Int))) (some ⟨.a (.v (.int .i64 (IntKind.wrap .i64 (List.getD a2 (Int.toNat a0) 0)))), [(0, some ⟨true, .box (.rc [.sl 1, .v (.int .i64 (IntKind.wrap .i64 (a0 + 1))), .v (.int .u64 (IntKind.wrap .u64 ((IntKind.wrap .u64 ((IntKind.wrap .u64 (a1 * 6364136223846793005)) + (IntKind.wrap .u64 (IntKind.wrap .i64 (List.getD a2 (Int.toNat a0) 0))))) + 1442695040888963407)))])⟩)], 2⟩) (cond (decide (40 < 0)) none (some ⟨.a (.v (.int .i64 (IntKind.wrap .i64 (bAnd .u64 (bShr .u64 (IntKind.wrap .u64 ((IntKind.wrap .u64 ((IntKind.wrap .u64 (a1 * 6364136223846793005)) + (IntKind.wrap .u64 (IntKind.wrap .i64 (List.getD a2 (Int.toNat a0) 0))))) + 1442695040888963407)) 40) 255)))), [(0, some ⟨true, .box (.rc [.sl 1, .v (.int .i64 (IntKind.wrap .i64 (a0 + 1))), .v (.int .u64 (IntKind.wrap .u64 ((IntKind.wrap .u64 ((IntKind.wrap .u64 (a1 * 6364136223846793005)) + (IntKind.wrap .u64 (IntKind.wrap .i64 (List.getD a2 (Int.toNat a0) 0))))) + 1442695040888963407)))])⟩)], 2⟩))) none) (cond (decide ((IntKind.wrap .i64 (a0 + 1)) ≤ ((List.length a2 : Nat) : Int))) (some ⟨.a (.v (.int .i64 0)), [(0, some ⟨true, .box (.rc [.sl 1, .v (.int .i64 (IntKind.wrap .i64 (a0 + 1))), .v (.int .u64 (IntKind.wrap .u64 ((IntKind.wrap .u64 ((IntKind.wrap .u64 (a1 * 6364136223846793005)) + (IntKind.wrap .u64 0))) + 1442695040888963407)))])⟩)], 2⟩) (cond (decide (40 < 0)) none (some ⟨.a (.v (.int .i64 (IntKind.wrap .i64 (bAnd .u64 (bShr .u64 (IntKind.wrap .u64 ((IntKind.wrap .u64 ((IntKind.wrap .u64 (a1 * 6364136223846793005)) + (IntKind.wrap .u64 0))) + 1442695040888963407)) 40) 255)))), [(0, some ⟨true, .box (.rc [.sl 1, .v (.int .i64 (IntKind.wrap .i64 (a0 + 1))), .v (.int .u64 (IntKind.wrap .u64 ((IntKind.wrap .u64 ((IntKind.wrap .u64 (a1 * 6364136223846793005)) + (IntKind.wrap .u64 0))) + 1442695040888963407)))])⟩)], 2⟩)))) := by kernel_rfl
noncomputable def l_sl00Src_next (r : (Int × Int × Int)) : HOut := ⟨.a (.v (.int .i64 r.1)), [(0, some ⟨true, .box (.rc [.sl 1, .v (.int .i64 r.2.1), .v (.int .u64 r.2.2)])⟩)], 2⟩
theorem s_sl00Src_next_ok (a0 : Int) (a1 : Int) (a2 : (List Int)) (v : (Int × Int × Int)) (h : s_sl00Src_next a0 a1 a2 = some v) : (cond (decide (a0 < ((List.length a2 : Nat) : Int))) (cond (inB a0 (List.length a2)) (cond (decide ((IntKind.wrap .i64 (a0 + 1)) ≤ ((List.length a2 : Nat) : Int))) (some ⟨.a (.v (.int .i64 (IntKind.wrap .i64 (List.getD a2 (Int.toNat a0) 0)))), [(0, some ⟨true, .box (.rc [.sl 1, .v (.int .i64 (IntKind.wrap .i64 (a0 + 1))), .v (.int .u64 (IntKind.wrap .u64 ((IntKind.wrap .u64 ((IntKind.wrap .u64 (a1 * 6364136223846793005)) + (IntKind.wrap .u64 (IntKind.wrap .i64 (List.getD a2 (Int.toNat a0) 0))))) + 1442695040888963407)))])⟩)], 2⟩) (cond (decide (40 < 0)) none (some ⟨.a (.v (.int .i64 (IntKind.wrap .i64 (bAnd .u64 (bShr .u64 (IntKind.wrap .u64 ((IntKind.wrap .u64 ((IntKind.wrap .u64 (a1 * 6364136223846793005)) + (IntKind.wrap .u64 (IntKind.wrap .i64 (List.getD a2 (Int.toNat a0) 0))))) + 1442695040888963407)) 40) 255)))), [(0, some ⟨true, .box (.rc [.sl 1, .v (.int .i64 (IntKind.wrap .i64 (a0 + 1))), .v (.int .u64 (IntKind.wrap .u64 ((IntKind.wrap .u64 ((IntKind.wrap .u64 (a1 * 6364136223846793005)) + (IntKind.wrap .u64 (IntKind.wrap .i64 (List.getD a2 (Int.toNat a0) 0))))) + 1442695040888963407)))])⟩)], 2⟩))) none) (cond (decide ((IntKind.wrap .i64 (a0 + 1)) ≤ ((List.length a2 : Nat) : Int))) (some ⟨.a (.v (.int .i64 0)), [(0, some ⟨true, .box (.rc [.sl 1, .v (.int .i64 (IntKind.wrap .i64 (a0 + 1))), .v (.int .u64 (IntKind.wrap .u64 ((IntKind.wrap .u64 ((IntKind.wrap .u64 (a1 * 6364136223846793005)) + (IntKind.wrap .u64 0))) + 1442695040888963407)))])⟩)], 2⟩) (cond (decide (40 < 0)) none (some ⟨.a (.v (.int .i64 (IntKind.wrap .i64 (bAnd .u64 (bShr .u64 (IntKind.wrap .u64 ((IntKind.wrap .u64 ((IntKind.wrap .u64 (a1 * 6364136223846793005)) + (IntKind.wrap .u64 0))) + 1442695040888963407)) 40) 255)))), [(0, some ⟨true, .box (.rc [.sl 1, .v (.int .i64 (IntKind.wrap .i64 (a0 + 1))), .v (.int .u64 (IntKind.wrap .u64 ((IntKind.wrap .u64 ((IntKind.wrap .u64 (a1 * 6364136223846793005)) + (IntKind.wrap .u64 0))) + 1442695040888963407)))])⟩)], 2⟩)))) = some (l_sl00Src_next v) := by
  have e : (cond (decide (a0 < ((List.length a2 : Nat) : Int))) (cond (inB a0 (List.length a2)) (cond (decide ((IntKind.wrap .i64 (a0 + 1)) ≤ ((List.length a2 : Nat) : Int))) (some ⟨.a (.v (.int .i64 (IntKind.wrap .i64 (List.getD a2 (Int.toNat a0) 0)))), [(0, some ⟨true, .box (.rc [.sl 1, .v (.int .i64 (IntKind.wrap .i64 (a0 + 1))), .v (.int .u64 (IntKind.wrap .u64 ((IntKind.wrap .u64 ((IntKind.wrap .u64 (a1 * 6364136223846793005)) + (IntKind.wrap .u64 (IntKind.wrap .i64 (List.getD a2 (Int.toNat a0) 0))))) + 1442695040888963407)))])⟩)], 2⟩) (cond (decide (40 < 0)) none (some ⟨.a (.v (.int .i64 (IntKind.wrap .i64 (bAnd .u64 (bShr .u64 (IntKind.wrap .u64 ((IntKind.wrap .u64 ((IntKind.wrap .u64 (a1 * 6364136223846793005)) + (IntKind.wrap .u64 (IntKind.wrap .i64 (List.getD a2 (Int.toNat a0) 0))))) + 1442695040888963407)) 40) 255)))), [(0, some ⟨true, .box (.rc [.sl 1, .v (.int .i64 (IntKind.wrap .i64 (a0 + 1))), .v (.int .u64 (IntKind.wrap .u64 ((IntKind.wrap .u64 ((IntKind.wrap .u64 (a1 * 6364136223846793005)) + (IntKind.wrap .u64 (IntKind.wrap .i64 (List.getD a2 (Int.toNat a0) 0))))) + 1442695040888963407)))])⟩)], 2⟩))) none) (cond (decide ((IntKind.wrap .i64 (a0 + 1)) ≤ ((List.length a2 : Nat) : Int))) (some ⟨.a (.v (.int .i64 0)), [(0, some ⟨true, .box (.rc [.sl 1, .v (.int .i64 (IntKind.wrap .i64 (a0 + 1))), .v (.int .u64 (IntKind.wrap .u64 ((IntKind.wrap .u64 ((IntKind.wrap .u64 (a1 * 6364136223846793005)) + (IntKind.wrap .u64 0))) + 1442695040888963407)))])⟩)], 2⟩) (cond (decide (40 < 0)) none (some ⟨.a (.v (.int .i64 (IntKind.wrap .i64 (bAnd .u64 (bShr .u64 (IntKind.wrap .u64 ((IntKind.wrap .u64 ((IntKind.wrap .u64 (a1 * 6364136223846793005)) + (IntKind.wrap .u64 0))) + 1442695040888963407)) 40) 255)))), [(0, some ⟨true, .box (.rc [.sl 1, .v (.int .i64 (IntKind.wrap .i64 (a0 + 1))), .v (.int .u64 (IntKind.wrap .u64 ((IntKind.wrap .u64 ((IntKind.wrap .u64 (a1 * 6364136223846793005)) + (IntKind.wrap .u64 0))) + 1442695040888963407)))])⟩)], 2⟩)))) = Option.map l_sl00Src_next (s_sl00Src_next a0 a1 a2) := by
    unfold s_sl00Src_next
    exact (cond_app (Option.map l_sl00Src_next) (cond_app (Option.map l_sl00Src_next) (cond_app (Option.map l_sl00Src_next) rfl (cond_app (Option.map l_sl00Src_next) rfl rfl)) rfl) (cond_app (Option.map l_sl00Src_next) rfl (cond_app (Option.map l_sl00Src_next) rfl rfl)))
  rw [e, h]; rfl
noncomputable def h_sl00Src_next : HCon := fun xs hp => match xs, hp with
  | [.ptr 0 [] (0)], [(0, some ⟨true, .box (.rc [.sl 1, .v (.int .i64 a0), .v (.int .u64 a1)])⟩), (1, some ⟨false, .arr (.one (.i .u8)) a2⟩)] => .one (Int × Int × Int) (s_sl00Src_next a0 a1 a2) l_sl00Src_next
  | _, _ => HAns.fail
theorem f_sl00Src_next_sound : HSound Tryd.prog 91 h_sl00Src_next := by
  refine sound_goodH f_sl00Src_next_ctx f_sl00Src_next_LV 1 2 f_sl00Src_next_hp0 Tryd.func91 (c := f_sl00Src_next_c) (by kernel_rfl) (rv := f_sl00Src_next_rv) (by kernel_rfl) (by kernel_rfl) (by kernel_rfl) (by kernel_rfl) fun xs hp => ?_
  unfold h_sl00Src_next
  split
  · rename_i a0 a1 a2; intro v h; exact ⟨rfl, ⟨rfl, rfl⟩, (f_sl00Src_next_top a0 a1 a2 _).trans (s_sl00Src_next_ok a0 a1 a2 v h)⟩
  · intro v h; cases h
noncomputable def m_sl00Src_next : List A → List (Nat × Option Blk) → Bool
  | [.ptr 0 [] (0)], [(0, some ⟨true, .box (.rc [.sl 1, .v (.int .i64 a0), .v (.int .u64 a1)])⟩), (1, some ⟨false, .arr (.one (.i .u8)) a2⟩)] => true
  | _, _ => false

/-! ### function 69: (*loop.example/g01322/spec.l00Src).pick -/
noncomputable def f_sl00Src_pick_c : Code := match Tryd.f69.body with | some c => c | none => .skip
noncomputable def f_sl00Src_pick_X : Ctx := ⟨TT, phiOf [], noPsi, (xiOf [(91, h_sl00Src_next)])⟩
def f_sl00Src_pick_LV : List (Nat × Keep) := []
def f_sl00Src_pick_rv : List ResultVar := [.tmp 4]
noncomputable def f_sl00Src_pick_hp0 : List (Nat × Option Blk) := [(0, some ⟨true, .box (.rc [.sl 1, .v (.bool false), .v (.bool false)])⟩), (1, some ⟨false, .arr (.one (.i .u8)) []⟩)]
noncomputable def f_sl00Src_pick_L (r : HOut) : Nat → AS → Option HOut := L f_sl00Src_pick_X (cnOfH 2 f_sl00Src_pick_LV) f_sl00Src_pick_c (K0H TT f_sl00Src_pick_rv f_sl00Src_pick_hp0) r
theorem f_sl00Src_pick_ctx : CtxOK Tryd.prog f_sl00Src_pick_X := ctx_ofH tab mix (l := []) trivial psi_no (xi_ok (l := [(91, h_sl00Src_next)]) ⟨⟨Tryd.call91, f_sl00Src_next_sound⟩, trivial⟩)
noncomputable def s_sl00Src_pick (a0 : Int) (a1 : Int) (a2 : Int) (a3 : (List Int)) : Option (Int × Int × Int) := (cond (decide (a0 ≤ 1)) (some (0, a1, a2)) (Option.bind (s_sl00Src_next a1 a2 a3) fun r1 => (cond (decide (a0 > 200)) (Option.bind (s_sl00Src_next (r1.2.1) (r1.2.2) a3) fun r2 => (cond (decide (a0 = 0)) none (some ((Int.tmod (IntKind.wrap .i64 ((IntKind.wrap .i64 (r1.1 * 256)) + r2.1)) a0), (r2.2.1), (r2.2.2))))) (cond (decide (a0 = 0)) none (some ((Int.tmod r1.1 a0), (r1.2.1), (r1.2.2)))))))
theorem f_sl00Src_pick_top (a0 : Int) (a1 : Int) (a2 : Int) (a3 : (List Int)) (r : HOut) : ev f_sl00Src_pick_X (lpc (cnOfH 2 f_sl00Src_pick_LV) (f_sl00Src_pick_L r)) f_sl00Src_pick_c (K0H TT f_sl00Src_pick_rv f_sl00Src_pick_hp0) (enterH [.ptr 0 [] (0), .v (.int .i64 a0)] [(0, some ⟨true, .box (.rc [.sl 1, .v (.int .i64 a1), .v (.int .u64 a2)])⟩), (1, some ⟨false, .arr (.one (.i .u8)) a3⟩)]) = (cond (decide (a0 ≤ 1)) (some ⟨.a (.v (.int .i64 0)), [(0, some ⟨true, .box (.rc [.sl 1, .v (.int .i64 a1), .v (.int .u64 a2)])⟩)], 2⟩) (Option.bind (s_sl00Src_next a1 a2 a3) fun r1 => (cond (decide (a0 > 200)) (Option.bind (s_sl00Src_next (r1.2.1) (r1.2.2) a3) fun r2 => (cond (decide (a0 = 0)) none (some ⟨.a (.v (.int .i64 (Int.tmod (IntKind.wrap .i64 ((IntKind.wrap .i64 (r1.1 * 256)) + r2.1)) a0))), [(0, some ⟨true, .box (.rc [.sl 1, .v (.int .i64 r2.2.1), .v (.int .u64 r2.2.2)])⟩)], 2⟩))) (cond (decide (a0 = 0)) none (some ⟨.a (.v (.int .i64 (Int.tmod r1.1 a0))), [(0, some ⟨true, .box (.rc [.sl 1, .v (.int .i64 r1.2.1), .v (.int .u64 r1.2.2)])⟩)], 2⟩))))) := by kernel_rfl
noncomputable def l_sl00Src_pick (r : (Int × Int × Int)) : HOut := ⟨.a (.v (.int .i64 r.1)), [(0, some ⟨true, .box (.rc [.sl 1, .v (.int .i64 r.2.1), .v (.int .u64 r.2.2)])⟩)], 2⟩
theorem s_sl00Src_pick_ok (a0 : Int) (a1 : Int) (a2 : Int) (a3 : (List Int)) (v : (Int × Int × Int)) (h : s_sl00Src_pick a0 a1 a2 a3 = some v) : (cond (decide (a0 ≤ 1)) (some ⟨.a (.v (.int .i64 0)), [(0, some ⟨true, .box (.rc [.sl 1, .v (.int .i64 a1), .v (.int .u64 a2)])⟩)], 2⟩) (Option.bind (s_sl00Src_next a1 a2 a3) fun r1 => (cond (decide (a0 > 200)) (Option.bind (s_sl00Src_next (r1.2.1) (r1.2.2) a3) fun r2 => (cond (decide (a0 = 0)) none (some ⟨.a (.v (.int .i64 (Int.tmod (IntKind.wrap .i64 ((IntKind.wrap .i64 (r1.1 * 256)) + r2.1)) a0))), [(0, some ⟨true, .box (.rc [.sl 1, .v (.int .i64 r2.2.1), .v (.int .u64 r2.2.2)])⟩)], 2⟩))) (cond (decide (a0 = 0)) none (some ⟨.a (.v (.int .i64 (Int.tmod r1.1 a0))), [(0, some ⟨true, .box (.rc [.sl 1, .v (.int .i64 r1.2.1), .v (.int .u64 r1.2.2)])⟩)], 2⟩))))) = some (l_sl00Src_pick v) := by
  have e : (cond (decide (a0 ≤ 1)) (some ⟨.a (.v (.int .i64 0)), [(0, some ⟨true, .box (.rc [.sl 1, .v (.int .i64 a1), .v (.int .u64 a2)])⟩)], 2⟩) (Option.bind (s_sl00Src_next a1 a2 a3) fun r1 => (cond (decide (a0 > 200)) (Option.bind (s_sl00Src_next (r1.2.1) (r1.2.2) a3) fun r2 => (cond (decide (a0 = 0)) none (some ⟨.a (.v (.int .i64 (Int.tmod (IntKind.wrap .i64 ((IntKind.wrap .i64 (r1.1 * 256)) + r2.1)) a0))), [(0, some ⟨true, .box (.rc [.sl 1, .v (.int .i64 r2.2.1), .v (.int .u64 r2.2.2)])⟩)], 2⟩))) (cond (decide (a0 = 0)) none (some ⟨.a (.v (.int .i64 (Int.tmod r1.1 a0))), [(0, some ⟨true, .box (.rc [.sl 1, .v (.int .i64 r1.2.1), .v (.int .u64 r1.2.2)])⟩)], 2⟩))))) = Option.map l_sl00Src_pick (s_sl00Src_pick a0 a1 a2 a3) := by
    unfold s_sl00Src_pick
    exact (cond_app (Option.map l_sl00Src_pick) rfl (bind_app fun _ => (cond_app (Option.map l_sl00Src_pick) (bind_app fun _ => (cond_app (Option.map l_sl00Src_pick) rfl rfl)) (cond_app (Option.map l_sl00Src_pick) rfl rfl))))
  rw [e, h]; rfl
noncomputable def h_sl00Src_pick : HCon := fun xs hp => match xs, hp with
  | [.ptr 0 [] (0), .v (.int .i64 a0)], [(0, some ⟨true, .box (.rc [.sl 1, .v (.int .i64 a1), .v (.int .u64 a2)])⟩), (1, some ⟨false, .arr (.one (.i .u8)) a3⟩)] => .one (Int × Int × Int) (s_sl00Src_pick a0 a1 a2 a3) l_sl00Src_pick
  | _, _ => HAns.fail
theorem f_sl00Src_pick_sound : HSound Tryd.prog 69 h_sl00Src_pick := by
  refine sound_goodH f_sl00Src_pick_ctx f_sl00Src_pick_LV 2 2 f_sl00Src_pick_hp0 Tryd.func69 (c := f_sl00Src_pick_c) (by kernel_rfl) (rv := f_sl00Src_pick_rv) (by kernel_rfl) (by kernel_rfl) (by kernel_rfl) (by kernel_rfl) fun xs hp => ?_
  unfold h_sl00Src_pick
  split
  · rename_i a0 a1 a2 a3; intro v h; exact ⟨rfl, ⟨rfl, rfl⟩, (f_sl00Src_pick_top a0 a1 a2 a3 _).trans (s_sl00Src_pick_ok a0 a1 a2 a3 v h)⟩
  · intro v h; cases h
noncomputable def m_sl00Src_pick : List A → List (Nat × Option Blk) → Bool
  | [.ptr 0 [] (0), .v (.int .i64 a0)], [(0, some ⟨true, .box (.rc [.sl 1, .v (.int .i64 a1), .v (.int .u64 a2)])⟩), (1, some ⟨false, .arr (.one (.i .u8)) a3⟩)] => true
  | _, _ => false

/-! ### function 61: loop.example/g01322/spec.l05Drawn -/
noncomputable def f_sl05Drawn_c : Code := match Tryd.f61.body with | some c => c | none => .skip
noncomputable def f_sl05Drawn_X : Ctx := ⟨TT, phiOf [], noPsi, (xiOf [(69, h_sl00Src_pick)])⟩
def f_sl05Drawn_LV : List (Nat × Keep) := [(3, ([0, 3, 4], [], []))]
def f_sl05Drawn_rv : List ResultVar := [.tmp 2]
noncomputable def f_sl05Drawn_hp0 : List (Nat × Option Blk) := [(0, some ⟨true, .box (.rc [.sl 1, .v (.bool false), .v (.bool false)])⟩), (1, some ⟨false, .arr (.one (.i .u8)) []⟩)]
noncomputable def f_sl05Drawn_L (r : HOut) : Nat → AS → Option HOut := L f_sl05Drawn_X (cnOfH 2 f_sl05Drawn_LV) f_sl05Drawn_c (K0H TT f_sl05Drawn_rv f_sl05Drawn_hp0) r
theorem f_sl05Drawn_ctx : CtxOK Tryd.prog f_sl05Drawn_X := ctx_ofH tab mix (l := []) trivial psi_no (xi_ok (l := [(69, h_sl00Src_pick)]) ⟨⟨Tryd.call69, f_sl00Src_pick_sound⟩, trivial⟩)
noncomputable def f_sl05Drawn_s3 (x0 : Int) (x1 : Int) (x2 : Int) (x3 : (List Int)) (x4 : (List Int)) : AS := ⟨[(0, .a (.ptr 0 [] (0))), (3, .a (.sl 2)), (4, .a (.v (.int .i64 x0)))], [(0, some ⟨true, .box (.rc [.sl 1, .v (.int .i64 x1), .v (.int .u64 x2)])⟩), (1, some ⟨false, .arr (.one (.i .u8)) x3⟩), (2, some ⟨true, .arr (.one (.i .i16)) x4⟩)], 3⟩
noncomputable def l_sl05Drawn (r : (Int × Int × (List Int))) : HOut := ⟨.a (.sl 2), [(0, some ⟨true, .box (.rc [.sl 1, .v (.int .i64 r.1), .v (.int .u64 r.2.1)])⟩), (2, some ⟨true, .arr (.one (.i .i16)) r.2.2⟩)], 3⟩
theorem f_sl05Drawn_step3 (x0 : Int) (x1 : Int) (x2 : Int) (x3 : (List Int)) (x4 : (List Int)) (r : HOut) (h : (cond (decide (x0 > 0)) (Option.bind (s_sl00Src_pick 9 x1 x2 x3) fun r3 => (cond (fits ((List.length (x4 : List Int) + List.length ([(IntKind.wrap .i16 (IntKind.wrap .i64 (1 + r3.1)))] : List Int)) * 2)) (f_sl05Drawn_L r 3 (f_sl05Drawn_s3 (IntKind.wrap .i64 (x0 - 1)) r3.2.1 r3.2.2 x3 (x4 ++ [(IntKind.wrap .i16 (IntKind.wrap .i64 (1 + r3.1)))]))) none)) (some ⟨.a (.sl 2), [(0, some ⟨true, .box (.rc [.sl 1, .v (.int .i64 x1), .v (.int .u64 x2)])⟩), (2, some ⟨true, .arr (.one (.i .i16)) x4⟩)], 3⟩)) = some r) : f_sl05Drawn_L r 3 (f_sl05Drawn_s3 x0 x1 x2 x3 x4) = some r :=
  step_of' h (by kernel_rfl)
noncomputable def f_sl05Drawn_n3 (x0 : Int) (x1 : Int) (x2 : Int) (x3 : (List Int)) (x4 : (List Int)) : Option ((Int × Int × Int × (List Int) × (List Int)) ⊕ (Int × Int × (List Int))) := (cond (decide (x0 > 0)) (Option.bind (s_sl00Src_pick 9 x1 x2 x3) fun r3 => (cond (fits ((List.length (x4 : List Int) + List.length ([(IntKind.wrap .i16 (IntKind.wrap .i64 (1 + r3.1)))] : List Int)) * 2)) (some (Sum.inl ((IntKind.wrap .i64 (x0 - 1)), r3.2.1, r3.2.2, x3, (x4 ++ [(IntKind.wrap .i16 (IntKind.wrap .i64 (1 + r3.1)))])))) none)) (some (Sum.inr (x1, x2, x4))))
noncomputable def f_sl05Drawn_run3 (x : (Int × Int × Int × (List Int) × (List Int))) : Option (Int × Int × (List Int)) := iter (fun x => f_sl05Drawn_n3 x.1 x.2.1 x.2.2.1 x.2.2.2.1 x.2.2.2.2) FU x
noncomputable def f_sl05Drawn_G3 (r : HOut) (x : (Int × Int × Int × (List Int) × (List Int))) : Prop := f_sl05Drawn_L r 3 (f_sl05Drawn_s3 x.1 x.2.1 x.2.2.1 x.2.2.2.1 x.2.2.2.2) = some r
noncomputable def f_sl05Drawn_S3 (r : HOut) : (Int × Int × (List Int)) → Prop := fun v => r = l_sl05Drawn v
theorem f_sl05Drawn_go3 (r : HOut) : ∀ x, sem (f_sl05Drawn_S3 r) (f_sl05Drawn_run3 x) → f_sl05Drawn_G3 r x :=
  fun x => iter_sound (step := fun x => f_sl05Drawn_n3 x.1 x.2.1 x.2.2.1 x.2.2.2.1 x.2.2.2.2) (fun x h => by
    unfold f_sl05Drawn_n3 at h
    exact f_sl05Drawn_step3 x.1 x.2.1 x.2.2.1 x.2.2.2.1 x.2.2.2.2 r ((sem_cond h (fun h => (sem_bind h fun r3 h => (sem_cond h (fun h => sem_got h fun q => q) (fun h => sem_none h)))) (fun h => sem_got h fun q => some_eq q)))) FU x
noncomputable def s_sl05Drawn (a0 : Int) (a1 : Int) (a2 : (List Int)) : Option (Int × Int × (List Int)) := (Option.bind (s_sl00Src_pick 9 a0 a1 a2) fun r1 => (Option.bind (s_sl00Src_pick 6 (r1.2.1) (r1.2.2) a2) fun r2 => (f_sl05Drawn_run3 (r2.1, r2.2.1, r2.2.2, a2, [(IntKind.wrap .i16 (IntKind.wrap .i64 (1 + r1.1)))]))))
theorem f_sl05Drawn_top (a0 : Int) (a1 : Int) (a2 : (List Int)) (r : HOut) : ev f_sl05Drawn_X (lpc (cnOfH 2 f_sl05Drawn_LV) (f_sl05Drawn_L r)) f_sl05Drawn_c (K0H TT f_sl05Drawn_rv f_sl05Drawn_hp0) (enterH [.ptr 0 [] (0)] [(0, some ⟨true, .box (.rc [.sl 1, .v (.int .i64 a0), .v (.int .u64 a1)])⟩), (1, some ⟨false, .arr (.one (.i .u8)) a2⟩)]) = (Option.bind (s_sl00Src_pick 9 a0 a1 a2) fun r1 => (Option.bind (s_sl00Src_pick 6 (r1.2.1) (r1.2.2) a2) fun r2 => (f_sl05Drawn_L r 3 (f_sl05Drawn_s3 r2.1 r2.2.1 r2.2.2 a2 [(IntKind.wrap .i16 (IntKind.wrap .i64 (1 + r1.1)))])))) := by kernel_rfl
theorem s_sl05Drawn_ok (a0 : Int) (a1 : Int) (a2 : (List Int)) (v : (Int × Int × (List Int))) (h : s_sl05Drawn a0 a1 a2 = some v) : (Option.bind (s_sl00Src_pick 9 a0 a1 a2) fun r1 => (Option.bind (s_sl00Src_pick 6 (r1.2.1) (r1.2.2) a2) fun r2 => (f_sl05Drawn_L (l_sl05Drawn v) 3 (f_sl05Drawn_s3 r2.1 r2.2.1 r2.2.2 a2 [(IntKind.wrap .i16 (IntKind.wrap .i64 (1 + r1.1)))])))) = some (l_sl05Drawn v) := by
  unfold s_sl05Drawn at h
  have go : ∀ r, sem (fun v => r = l_sl05Drawn v) ((Option.bind (s_sl00Src_pick 9 a0 a1 a2) fun r1 => (Option.bind (s_sl00Src_pick 6 (r1.2.1) (r1.2.2) a2) fun r2 => (f_sl05Drawn_run3 (r2.1, r2.2.1, r2.2.2, a2, [(IntKind.wrap .i16 (IntKind.wrap .i64 (1 + r1.1)))]))))) → (Option.bind (s_sl00Src_pick 9 a0 a1 a2) fun r1 => (Option.bind (s_sl00Src_pick 6 (r1.2.1) (r1.2.2) a2) fun r2 => (f_sl05Drawn_L r 3 (f_sl05Drawn_s3 r2.1 r2.2.1 r2.2.2 a2 [(IntKind.wrap .i16 (IntKind.wrap .i64 (1 + r1.1)))])))) = some r := fun r h => (sem_bind h fun r1 h => (sem_bind h fun r2 h => f_sl05Drawn_go3 r _ h))
  exact go (l_sl05Drawn v) ⟨v, h, rfl⟩
noncomputable def h_sl05Drawn : HCon := fun xs hp => match xs, hp with
  | [.ptr 0 [] (0)], [(0, some ⟨true, .box (.rc [.sl 1, .v (.int .i64 a0), .v (.int .u64 a1)])⟩), (1, some ⟨false, .arr (.one (.i .u8)) a2⟩)] => .one (Int × Int × (List Int)) (s_sl05Drawn a0 a1 a2) l_sl05Drawn
  | _, _ => HAns.fail
theorem f_sl05Drawn_sound : HSound Tryd.prog 61 h_sl05Drawn := by
  refine sound_goodH f_sl05Drawn_ctx f_sl05Drawn_LV 1 2 f_sl05Drawn_hp0 Tryd.func61 (c := f_sl05Drawn_c) (by kernel_rfl) (rv := f_sl05Drawn_rv) (by kernel_rfl) (by kernel_rfl) (by kernel_rfl) (by kernel_rfl) fun xs hp => ?_
  unfold h_sl05Drawn
  split
  · rename_i a0 a1 a2; intro v h; exact ⟨rfl, ⟨rfl, rfl⟩, (f_sl05Drawn_top a0 a1 a2 _).trans (s_sl05Drawn_ok a0 a1 a2 v h)⟩
  · intro v h; cases h
noncomputable def m_sl05Drawn : List A → List (Nat × Option Blk) → Bool
  | [.ptr 0 [] (0)], [(0, some ⟨true, .box (.rc [.sl 1, .v (.int .i64 a0), .v (.int .u64 a1)])⟩), (1, some ⟨false, .arr (.one (.i .u8)) a2⟩)] => true
  | _, _ => false

/-! ### function 21: loop.example/g01322/spec.A2Row -/
noncomputable def f_sA2Row_c : Code := match Tryd.f21.body with | some c => c | none => .skip
noncomputable def f_sA2Row_X : Ctx := ⟨TT, phiOf [], noPsi, (xiOf [(61, h_sl05Drawn), (62, h_sl00From)])⟩
def f_sA2Row_LV : List (Nat × Keep) := []
def f_sA2Row_rv : List ResultVar := [.tmp 2]
noncomputable def f_sA2Row_L (r : List A) : Nat → AS → Option (List A) := L f_sA2Row_X (cnOf f_sA2Row_LV) f_sA2Row_c (K0 TT f_sA2Row_rv) r
theorem f_sA2Row_ctx : CtxOK Tryd.prog f_sA2Row_X := ctx_ofH tab mix (l := []) trivial psi_no (xi_ok (l := [(61, h_sl05Drawn), (62, h_sl00From)]) ⟨⟨Tryd.call61, f_sl05Drawn_sound⟩, ⟨Tryd.call62, f_sl00From_sound⟩, trivial⟩)
noncomputable def s_sA2Row (a0 : (List Int)) : Option (List Int) := (Option.bind (s_sl05Drawn (s_sl00From a0).1 (s_sl00From a0).2 a0) fun r1 => (some (r1.2.2)))
theorem f_sA2Row_top (a0 : (List Int)) (r : List A) : ev f_sA2Row_X (lpc (cnOf f_sA2Row_LV) (f_sA2Row_L r)) f_sA2Row_c (K0 TT f_sA2Row_rv) (enter [.lst (.one (.i .u8)) a0]) = (Option.bind (s_sl05Drawn (s_sl00From a0).1 (s_sl00From a0).2 a0) fun r1 => (some [.lst (.one (.i .i16)) r1.2.2])) := by kernel_rfl
noncomputable def l_sA2Row (r : (List Int)) : List A := [.lst (.one (.i .i16)) r]
theorem s_sA2Row_ok (a0 : (List Int)) (v : (List Int)) (h : s_sA2Row a0 = some v) : (Option.bind (s_sl05Drawn (s_sl00From a0).1 (s_sl00From a0).2 a0) fun r1 => (some [.lst (.one (.i .i16)) r1.2.2])) = some (l_sA2Row v) := by
  have e : (Option.bind (s_sl05Drawn (s_sl00From a0).1 (s_sl00From a0).2 a0) fun r1 => (some [.lst (.one (.i .i16)) r1.2.2])) = Option.map l_sA2Row (s_sA2Row a0) := by
    unfold s_sA2Row
    exact (bind_app fun _ => rfl)
  rw [e, h]; rfl
noncomputable def c_sA2Row : List A → ACall
  | [.lst (.one (.i .u8)) a0] => ⟨(List Int), s_sA2Row a0, fun r => .one (.lst (.one (.i .i16)) r)⟩
  | _ => ACall.fail
theorem f_sA2Row_sound : Sound Tryd.prog 21 c_sA2Row := by
  refine sound_good f_sA2Row_ctx f_sA2Row_LV 1 Tryd.func21 (c := f_sA2Row_c) (by kernel_rfl) (rv := f_sA2Row_rv) (by kernel_rfl) (by kernel_rfl) (by kernel_rfl) (by kernel_rfl) fun rs => ?_
  unfold c_sA2Row
  split
  · rename_i a0; intro v h; exact ⟨rfl, l_sA2Row v, rfl, (f_sA2Row_top a0 _).trans (s_sA2Row_ok a0 v h)⟩
  · intro v h; cases h

/-! ### function 70: (*loop.example/g01322/spec.l00Src).text -/
noncomputable def f_sl00Src_text_c : Code := match Tryd.f70.body with | some c => c | none => .skip
noncomputable def f_sl00Src_text_X : Ctx := ⟨TT, phiOf [], noPsi, (xiOf [(69, h_sl00Src_pick)])⟩
def f_sl00Src_text_LV : List (Nat × Keep) := []
def f_sl00Src_text_rv : List ResultVar := [.tmp 4]
noncomputable def f_sl00Src_text_hp0 : List (Nat × Option Blk) := [(0, some ⟨true, .box (.rc [.sl 1, .v (.bool false), .v (.bool false)])⟩), (1, some ⟨false, .arr (.one (.i .u8)) []⟩), (2, some ⟨true, .arr (.one .s) []⟩)]
noncomputable def f_sl00Src_text_L (r : HOut) : Nat → AS → Option HOut := L f_sl00Src_text_X (cnOfH 3 f_sl00Src_text_LV) f_sl00Src_text_c (K0H TT f_sl00Src_text_rv f_sl00Src_text_hp0) r
theorem f_sl00Src_text_ctx : CtxOK Tryd.prog f_sl00Src_text_X := ctx_ofH tab mix (l := []) trivial psi_no (xi_ok (l := [(69, h_sl00Src_pick)]) ⟨⟨Tryd.call69, f_sl00Src_pick_sound⟩, trivial⟩)
noncomputable def s_sl00Src_text (a0 : Int) (a1 : Int) (a2 : (List Int)) (a3 : (List ByteArray)) : Option (ByteArray × Int × Int × (List ByteArray)) := (Option.bind (s_sl00Src_pick ((List.length a3 : Nat) : Int) a0 a1 a2) fun r1 => (cond (inB r1.1 (List.length a3)) (some ((List.getD a3 (Int.toNat r1.1) (⟨#[]⟩ : ByteArray)), (r1.2.1), (r1.2.2), a3)) none))
theorem f_sl00Src_text_top (a0 : Int) (a1 : Int) (a2 : (List Int)) (a3 : (List ByteArray)) (r : HOut) : ev f_sl00Src_text_X (lpc (cnOfH 3 f_sl00Src_text_LV) (f_sl00Src_text_L r)) f_sl00Src_text_c (K0H TT f_sl00Src_text_rv f_sl00Src_text_hp0) (enterH [.ptr 0 [] (0), .sl 2] [(0, some ⟨true, .box (.rc [.sl 1, .v (.int .i64 a0), .v (.int .u64 a1)])⟩), (1, some ⟨false, .arr (.one (.i .u8)) a2⟩), (2, some ⟨true, .arr (.one .s) a3⟩)]) = (Option.bind (s_sl00Src_pick ((List.length a3 : Nat) : Int) a0 a1 a2) fun r1 => (cond (inB r1.1 (List.length a3)) (some ⟨.a (.v (.string (List.getD a3 (Int.toNat r1.1) (⟨#[]⟩ : ByteArray)))), [(0, some ⟨true, .box (.rc [.sl 1, .v (.int .i64 r1.2.1), .v (.int .u64 r1.2.2)])⟩), (2, some ⟨true, .arr (.one .s) a3⟩)], 3⟩) none)) := by kernel_rfl
noncomputable def l_sl00Src_text (r : (ByteArray × Int × Int × (List ByteArray))) : HOut := ⟨.a (.v (.string r.1)), [(0, some ⟨true, .box (.rc [.sl 1, .v (.int .i64 r.2.1), .v (.int .u64 r.2.2.1)])⟩), (2, some ⟨true, .arr (.one .s) r.2.2.2⟩)], 3⟩
theorem s_sl00Src_text_ok (a0 : Int) (a1 : Int) (a2 : (List Int)) (a3 : (List ByteArray)) (v : (ByteArray × Int × Int × (List ByteArray))) (h : s_sl00Src_text a0 a1 a2 a3 = some v) : (Option.bind (s_sl00Src_pick ((List.length a3 : Nat) : Int) a0 a1 a2) fun r1 => (cond (inB r1.1 (List.length a3)) (some ⟨.a (.v (.string (List.getD a3 (Int.toNat r1.1) (⟨#[]⟩ : ByteArray)))), [(0, some ⟨true, .box (.rc [.sl 1, .v (.int .i64 r1.2.1), .v (.int .u64 r1.2.2)])⟩), (2, some ⟨true, .arr (.one .s) a3⟩)], 3⟩) none)) = some (l_sl00Src_text v) := by
  have e : (Option.bind (s_sl00Src_pick ((List.length a3 : Nat) : Int) a0 a1 a2) fun r1 => (cond (inB r1.1 (List.length a3)) (some ⟨.a (.v (.string (List.getD a3 (Int.toNat r1.1) (⟨#[]⟩ : ByteArray)))), [(0, some ⟨true, .box (.rc [.sl 1, .v (.int .i64 r1.2.1), .v (.int .u64 r1.2.2)])⟩), (2, some ⟨true, .arr (.one .s) a3⟩)], 3⟩) none)) = Option.map l_sl00Src_text (s_sl00Src_text a0 a1 a2 a3) := by
    unfold s_sl00Src_text
    exact (bind_app fun _ => (cond_app (Option.map l_sl00Src_text) rfl rfl))
  rw [e, h]; rfl
noncomputable def h_sl00Src_text : HCon := fun xs hp => match xs, hp with
  | [.ptr 0 [] (0), .sl 2], [(0, some ⟨true, .box (.rc [.sl 1, .v (.int .i64 a0), .v (.int .u64 a1)])⟩), (1, some ⟨false, .arr (.one (.i .u8)) a2⟩), (2, some ⟨true, .arr (.one .s) a3⟩)] => .one (ByteArray × Int × Int × (List ByteArray)) (s_sl00Src_text a0 a1 a2 a3) l_sl00Src_text
  | _, _ => HAns.fail
theorem f_sl00Src_text_sound : HSound Tryd.prog 70 h_sl00Src_text := by
  refine sound_goodH f_sl00Src_text_ctx f_sl00Src_text_LV 2 3 f_sl00Src_text_hp0 Tryd.func70 (c := f_sl00Src_text_c) (by kernel_rfl) (rv := f_sl00Src_text_rv) (by kernel_rfl) (by kernel_rfl) (by kernel_rfl) (by kernel_rfl) fun xs hp => ?_
  unfold h_sl00Src_text
  split
  · rename_i a0 a1 a2 a3; intro v h; exact ⟨rfl, ⟨rfl, rfl⟩, (f_sl00Src_text_top a0 a1 a2 a3 _).trans (s_sl00Src_text_ok a0 a1 a2 a3 v h)⟩
  · intro v h; cases h
noncomputable def m_sl00Src_text : List A → List (Nat × Option Blk) → Bool
  | [.ptr 0 [] (0), .sl 2], [(0, some ⟨true, .box (.rc [.sl 1, .v (.int .i64 a0), .v (.int .u64 a1)])⟩), (1, some ⟨false, .arr (.one (.i .u8)) a2⟩), (2, some ⟨true, .arr (.one .s) a3⟩)] => true
  | _, _ => false

/-! ### function 27: loop.example/g01322/spec.A2Path -/
noncomputable def f_sA2Path_c : Code := match Tryd.f27.body with | some c => c | none => .skip
noncomputable def f_sA2Path_X : Ctx := ⟨TT, phiOf [], noPsi, (xiOf [(62, h_sl00From), (69, h_sl00Src_pick), (70, h_sl00Src_text)])⟩
def f_sA2Path_LV : List (Nat × Keep) := [(4, ([3, 4, 5], [], [])), (8, ([3, 4, 5, 6, 7], [], []))]
def f_sA2Path_rv : List ResultVar := [.tmp 2]
noncomputable def f_sA2Path_L (r : List A) : Nat → AS → Option (List A) := L f_sA2Path_X (cnOf f_sA2Path_LV) f_sA2Path_c (K0 TT f_sA2Path_rv) r
theorem f_sA2Path_ctx : CtxOK Tryd.prog f_sA2Path_X := ctx_ofH tab mix (l := []) trivial psi_no (xi_ok (l := [(62, h_sl00From), (69, h_sl00Src_pick), (70, h_sl00Src_text)]) ⟨⟨Tryd.call62, f_sl00From_sound⟩, ⟨Tryd.call69, f_sl00Src_pick_sound⟩, ⟨Tryd.call70, f_sl00Src_text_sound⟩, trivial⟩)
noncomputable def f_sA2Path_s4 (x0 : ByteArray) (x1 : Int) (x2 : Int) (x3 : Int) (x4 : (List Int)) : AS := ⟨[(3, .a (.ptr 0 [] (0))), (4, .a (.v (.string x0))), (5, .a (.v (.int .i64 x1)))], [(0, some ⟨true, .box (.rc [.sl 1, .v (.int .i64 x2), .v (.int .u64 x3)])⟩), (1, some ⟨false, .arr (.one (.i .u8)) x4⟩)], 2⟩
noncomputable def f_sA2Path_s8 (x0 : ByteArray) (x1 : Int) (x2 : ByteArray) (x3 : Int) (x4 : Int) (x5 : Int) (x6 : (List Int)) : AS := ⟨[(3, .a (.ptr 0 [] (0))), (4, .a (.v (.string x0))), (5, .a (.v (.int .i64 x1))), (6, .a (.v (.string x2))), (7, .a (.v (.int .i64 x3)))], [(0, some ⟨true, .box (.rc [.sl 1, .v (.int .i64 x4), .v (.int .u64 x5)])⟩), (1, some ⟨false, .arr (.one (.i .u8)) x6⟩)], 2⟩
noncomputable def l_sA2Path (r : ByteArray) : List A := [.v (.string r)]
theorem f_sA2Path_step8 (x0 : ByteArray) (x1 : Int) (x2 : ByteArray) (x3 : Int) (x4 : Int) (x5 : Int) (x6 : (List Int)) (r : List A) (h : (cond (decide (x3 > 0)) (cond (fits (x0.size + x2.size)) (f_sA2Path_L r 8 (f_sA2Path_s8 (x0 ++ x2) x1 x2 (IntKind.wrap .i64 (x3 - 1)) x4 x5 x6)) none) (f_sA2Path_L r 4 (f_sA2Path_s4 x0 (IntKind.wrap .i64 (x1 - 1)) x4 x5 x6))) = some r) : f_sA2Path_L r 8 (f_sA2Path_s8 x0 x1 x2 x3 x4 x5 x6) = some r :=
  step_of' h (by kernel_rfl)
noncomputable def f_sA2Path_n8 (x0 : ByteArray) (x1 : Int) (x2 : ByteArray) (x3 : Int) (x4 : Int) (x5 : Int) (x6 : (List Int)) : Option ((ByteArray × Int × ByteArray × Int × Int × Int × (List Int)) ⊕ ((ByteArray × Int × Int × Int × (List Int)) ⊕ ByteArray)) := (cond (decide (x3 > 0)) (cond (fits (x0.size + x2.size)) (some (Sum.inl ((x0 ++ x2), x1, x2, (IntKind.wrap .i64 (x3 - 1)), x4, x5, x6))) none) (some (Sum.inr (Sum.inl (x0, (IntKind.wrap .i64 (x1 - 1)), x4, x5, x6)))))
noncomputable def f_sA2Path_run8 (x : (ByteArray × Int × ByteArray × Int × Int × Int × (List Int))) : Option ((ByteArray × Int × Int × Int × (List Int)) ⊕ ByteArray) := iter (fun x => f_sA2Path_n8 x.1 x.2.1 x.2.2.1 x.2.2.2.1 x.2.2.2.2.1 x.2.2.2.2.2.1 x.2.2.2.2.2.2) FU x
noncomputable def f_sA2Path_G8 (r : List A) (x : (ByteArray × Int × ByteArray × Int × Int × Int × (List Int))) : Prop := f_sA2Path_L r 8 (f_sA2Path_s8 x.1 x.2.1 x.2.2.1 x.2.2.2.1 x.2.2.2.2.1 x.2.2.2.2.2.1 x.2.2.2.2.2.2) = some r
theorem f_sA2Path_step4 (x0 : ByteArray) (x1 : Int) (x2 : Int) (x3 : Int) (x4 : (List Int)) (r : List A) (h : (cond (decide (x1 > 0)) (Option.bind (s_sl00Src_text x2 x3 x4 [(⟨#[110]⟩ : ByteArray), (⟨#[101]⟩ : ByteArray), (⟨#[115]⟩ : ByteArray), (⟨#[119]⟩ : ByteArray)]) fun r2 => (Option.bind (s_sl00Src_pick 9 (r2.2.1) (r2.2.2.1) x4) fun r3 => (f_sA2Path_L r 8 (f_sA2Path_s8 x0 x1 r2.1 (IntKind.wrap .i64 (1 + r3.1)) r3.2.1 r3.2.2 x4)))) (some [.v (.string x0)])) = some r) : f_sA2Path_L r 4 (f_sA2Path_s4 x0 x1 x2 x3 x4) = some r :=
  step_of' h (by kernel_rfl)
noncomputable def f_sA2Path_n4 (x0 : ByteArray) (x1 : Int) (x2 : Int) (x3 : Int) (x4 : (List Int)) : Option ((ByteArray × Int × Int × Int × (List Int)) ⊕ ByteArray) := (cond (decide (x1 > 0)) (Option.bind (s_sl00Src_text x2 x3 x4 [(⟨#[110]⟩ : ByteArray), (⟨#[101]⟩ : ByteArray), (⟨#[115]⟩ : ByteArray), (⟨#[119]⟩ : ByteArray)]) fun r2 => (Option.bind (s_sl00Src_pick 9 (r2.2.1) (r2.2.2.1) x4) fun r3 => (f_sA2Path_run8 (x0, x1, r2.1, (IntKind.wrap .i64 (1 + r3.1)), r3.2.1, r3.2.2, x4)))) (some (Sum.inr x0)))
noncomputable def f_sA2Path_run4 (x : (ByteArray × Int × Int × Int × (List Int))) : Option ByteArray := iter (fun x => f_sA2Path_n4 x.1 x.2.1 x.2.2.1 x.2.2.2.1 x.2.2.2.2) FU x
noncomputable def f_sA2Path_G4 (r : List A) (x : (ByteArray × Int × Int × Int × (List Int))) : Prop := f_sA2Path_L r 4 (f_sA2Path_s4 x.1 x.2.1 x.2.2.1 x.2.2.2.1 x.2.2.2.2) = some r
noncomputable def f_sA2Path_S4 (r : List A) : ByteArray → Prop := fun v => r = l_sA2Path v
noncomputable def f_sA2Path_S8 (r : List A) : ((ByteArray × Int × Int × Int × (List Int)) ⊕ ByteArray) → Prop := goesOn (f_sA2Path_G4 r) (f_sA2Path_S4 r)
theorem f_sA2Path_go8 (r : List A) : ∀ x, sem (f_sA2Path_S8 r) (f_sA2Path_run8 x) → f_sA2Path_G8 r x :=
  fun x => iter_sound (step := fun x => f_sA2Path_n8 x.1 x.2.1 x.2.2.1 x.2.2.2.1 x.2.2.2.2.1 x.2.2.2.2.2.1 x.2.2.2.2.2.2) (fun x h => by
    unfold f_sA2Path_n8 at h
    exact f_sA2Path_step8 x.1 x.2.1 x.2.2.1 x.2.2.2.1 x.2.2.2.2.1 x.2.2.2.2.2.1 x.2.2.2.2.2.2 r ((sem_cond h (fun h => (sem_cond h (fun h => sem_got h fun q => q) (fun h => sem_none h))) (fun h => sem_got h fun q => q)))) FU x
theorem f_sA2Path_go4 (r : List A) : ∀ x, sem (f_sA2Path_S4 r) (f_sA2Path_run4 x) → f_sA2Path_G4 r x :=
  fun x => iter_sound (step := fun x => f_sA2Path_n4 x.1 x.2.1 x.2.2.1 x.2.2.2.1 x.2.2.2.2) (fun x h => by
    unfold f_sA2Path_n4 at h
    exact f_sA2Path_step4 x.1 x.2.1 x.2.2.1 x.2.2.2.1 x.2.2.2.2 r ((sem_cond h (fun h => (sem_bind h fun r2 h => (sem_bind h fun r3 h => f_sA2Path_go8 r _ h))) (fun h => sem_got h fun q => some_eq q)))) FU x
noncomputable def s_sA2Path (a0 : (List Int)) : Option ByteArray := (Option.bind (s_sl00Src_pick 6 (s_sl00From a0).1 (s_sl00From a0).2 a0) fun r1 => (f_sA2Path_run4 ((⟨#[]⟩ : ByteArray), (IntKind.wrap .i64 (1 + r1.1)), r1.2.1, r1.2.2, a0)))
theorem f_sA2Path_top (a0 : (List Int)) (r : List A) : ev f_sA2Path_X (lpc (cnOf f_sA2Path_LV) (f_sA2Path_L r)) f_sA2Path_c (K0 TT f_sA2Path_rv) (enter [.lst (.one (.i .u8)) a0]) = (Option.bind (s_sl00Src_pick 6 (s_sl00From a0).1 (s_sl00From a0).2 a0) fun r1 => (f_sA2Path_L r 4 (f_sA2Path_s4 (⟨#[]⟩ : ByteArray) (IntKind.wrap .i64 (1 + r1.1)) r1.2.1 r1.2.2 a0))) := by kernel_rfl
theorem s_sA2Path_ok (a0 : (List Int)) (v : ByteArray) (h : s_sA2Path a0 = some v) : (Option.bind (s_sl00Src_pick 6 (s_sl00From a0).1 (s_sl00From a0).2 a0) fun r1 => (f_sA2Path_L (l_sA2Path v) 4 (f_sA2Path_s4 (⟨#[]⟩ : ByteArray) (IntKind.wrap .i64 (1 + r1.1)) r1.2.1 r1.2.2 a0))) = some (l_sA2Path v) := by
  unfold s_sA2Path at h
  have go : ∀ r, sem (fun v => r = l_sA2Path v) ((Option.bind (s_sl00Src_pick 6 (s_sl00From a0).1 (s_sl00From a0).2 a0) fun r1 => (f_sA2Path_run4 ((⟨#[]⟩ : ByteArray), (IntKind.wrap .i64 (1 + r1.1)), r1.2.1, r1.2.2, a0)))) → (Option.bind (s_sl00Src_pick 6 (s_sl00From a0).1 (s_sl00From a0).2 a0) fun r1 => (f_sA2Path_L r 4 (f_sA2Path_s4 (⟨#[]⟩ : ByteArray) (IntKind.wrap .i64 (1 + r1.1)) r1.2.1 r1.2.2 a0))) = some r := fun r h => (sem_bind h fun r1 h => f_sA2Path_go4 r _ h)
  exact go (l_sA2Path v) ⟨v, h, rfl⟩
noncomputable def c_sA2Path : List A → ACall
  | [.lst (.one (.i .u8)) a0] => ⟨ByteArray, s_sA2Path a0, fun r => .one (.v (.string r))⟩
  | _ => ACall.fail
theorem f_sA2Path_sound : Sound Tryd.prog 27 c_sA2Path := by
  refine sound_good f_sA2Path_ctx f_sA2Path_LV 1 Tryd.func27 (c := f_sA2Path_c) (by kernel_rfl) (rv := f_sA2Path_rv) (by kernel_rfl) (by kernel_rfl) (by kernel_rfl) (by kernel_rfl) fun rs => ?_
  unfold c_sA2Path
  split
  · rename_i a0; intro v h; exact ⟨rfl, l_sA2Path v, rfl, (f_sA2Path_top a0 _).trans (s_sA2Path_ok a0 v h)⟩
  · intro v h; cases h
end Go.RR
