/- Pictures that are drawn. -/
import Derived.Test.YtkohnhkehedflaaVa
import Derived.Test.YtkohnhkehedflaaR3
set_option linter.unusedVariables false
set_option linter.unusedSimpArgs false
set_option maxRecDepth 100000
namespace Go.RR
open Go Go.Proofs

/-! ### function 11: loop.example/g01322/laws.f6big -/
noncomputable def f_wf6big_c : Code := match Try.f11.body with | some c => c | none => .skip
noncomputable def f_wf6big_X : Ctx := ⟨TT, phiOf [], noPsi, noXi⟩
def f_wf6big_LV : List (Nat × Keep) := []
def f_wf6big_rv : List ResultVar := [.tmp 2]
noncomputable def f_wf6big_L (r : List A) : Nat → AS → Option (List A) := L f_wf6big_X (cnOf f_wf6big_LV) f_wf6big_c (K0 TT f_wf6big_rv) r
theorem f_wf6big_ctx : CtxOK Try.prog f_wf6big_X := ctx_of tab mix trivial
noncomputable def s_wf6big (a0 : (List Int)) : Bool := (decide (((List.length a0 : Nat) : Int) > 4096))
theorem f_wf6big_top (a0 : (List Int)) (r : List A) : ev f_wf6big_X (lpc (cnOf f_wf6big_LV) (f_wf6big_L r)) f_wf6big_c (K0 TT f_wf6big_rv) (enter [.lst (.one (.i .u8)) a0]) = (some [.v (.bool (decide (((List.length a0 : Nat) : Int) > 4096)))]) := by kernel_rfl
noncomputable def l_wf6big (r : Bool) : List A := [.v (.bool r)]
theorem s_wf6big_ok (a0 : (List Int)) : (some [.v (.bool (decide (((List.length a0 : Nat) : Int) > 4096)))]) = some (l_wf6big (s_wf6big a0)) := by
  unfold s_wf6big
  exact rfl
noncomputable def c_wf6big : List A → ACall
  | [.lst (.one (.i .u8)) a0] => ⟨Bool, some (s_wf6big a0), fun r => .one (.v (.bool r))⟩
  | _ => ACall.fail
theorem f_wf6big_sound : Sound Try.prog 11 c_wf6big := by
  refine sound_good f_wf6big_ctx f_wf6big_LV 1 Try.func11 (c := f_wf6big_c) (by kernel_rfl) (rv := f_wf6big_rv) (by kernel_rfl) (by kernel_rfl) (by kernel_rfl) (by kernel_rfl) fun rs => ?_
  unfold c_wf6big
  split
  · rename_i a0; intro v h; cases h; exact ⟨rfl, l_wf6big (s_wf6big a0), rfl, (f_wf6big_top a0 _).trans (s_wf6big_ok a0)⟩
  · intro v h; cases h

/-! ### function 83: loop.example/g01322/spec.l00From -/
noncomputable def f_sl00From_c : Code := match Try.f83.body with | some c => c | none => .skip
noncomputable def f_sl00From_X : Ctx := ⟨TT, phiOf [], noPsi, noXi⟩
def f_sl00From_LV : List (Nat × Keep) := []
def f_sl00From_rv : List ResultVar := [.tmp 2]
noncomputable def f_sl00From_hp0 : List (Nat × Option Blk) := [(0, some ⟨false, .arr (.one (.i .u8)) []⟩)]
noncomputable def f_sl00From_L (r : HOut) : Nat → AS → Option HOut := L f_sl00From_X (cnOfH 1 f_sl00From_LV) f_sl00From_c (K0H TT f_sl00From_rv f_sl00From_hp0) r
theorem f_sl00From_ctx : CtxOK Try.prog f_sl00From_X := ctx_of tab mix trivial
noncomputable def s_sl00From (a0 : (List Int)) : (Int × Int) := (0, 0)
theorem f_sl00From_top (a0 : (List Int)) (r : HOut) : ev f_sl00From_X (lpc (cnOfH 1 f_sl00From_LV) (f_sl00From_L r)) f_sl00From_c (K0H TT f_sl00From_rv f_sl00From_hp0) (enterH [.sl 0] [(0, some ⟨false, .arr (.one (.i .u8)) a0⟩)]) = (some ⟨.a (.ptr 1 [] (0)), [(1, some ⟨true, .box (.rc [.sl 0, .v (.int .i64 0), .v (.int .u64 0)])⟩)], 2⟩) := by kernel_rfl
noncomputable def l_sl00From (r : (Int × Int)) : HOut := ⟨.a (.ptr 1 [] (0)), [(1, some ⟨true, .box (.rc [.sl 0, .v (.int .i64 r.1), .v (.int .u64 r.2)])⟩)], 2⟩
theorem s_sl00From_ok (a0 : (List Int)) : (some ⟨.a (.ptr 1 [] (0)), [(1, some ⟨true, .box (.rc [.sl 0, .v (.int .i64 0), .v (.int .u64 0)])⟩)], 2⟩) = some (l_sl00From (s_sl00From a0)) := by
  unfold s_sl00From
  exact rfl
noncomputable def h_sl00From : HCon := fun xs hp => match xs, hp with
  | [.sl 0], [(0, some ⟨false, .arr (.one (.i .u8)) a0⟩)] => ⟨(Int × Int), some (s_sl00From a0), l_sl00From⟩
  | _, _ => HAns.fail
theorem f_sl00From_sound : HSound Try.prog 83 h_sl00From := by
  refine sound_goodH f_sl00From_ctx f_sl00From_LV 1 1 f_sl00From_hp0 Try.func83 (c := f_sl00From_c) (by kernel_rfl) (rv := f_sl00From_rv) (by kernel_rfl) (by kernel_rfl) (by kernel_rfl) (by kernel_rfl) fun xs hp => ?_
  unfold h_sl00From
  split
  · rename_i a0; intro v h; cases h; exact ⟨rfl, ⟨rfl, rfl⟩, (f_sl00From_top a0 _).trans (s_sl00From_ok a0)⟩
  · intro v h; cases h
noncomputable def m_sl00From : List A → List (Nat × Option Blk) → Bool
  | [.sl 0], [(0, some ⟨false, .arr (.one (.i .u8)) a0⟩)] => true
  | _, _ => false

/-! ### function 158: (*loop.example/g01322/spec.l00Src).next -/
noncomputable def f_sl00Src_next_c : Code := match Try.f158.body with | some c => c | none => .skip
noncomputable def f_sl00Src_next_X : Ctx := ⟨TT, phiOf [], noPsi, noXi⟩
def f_sl00Src_next_LV : List (Nat × Keep) := []
def f_sl00Src_next_rv : List ResultVar := [.tmp 2]
noncomputable def f_sl00Src_next_hp0 : List (Nat × Option Blk) := [(0, some ⟨true, .box (.rc [.sl 1, .v (.bool false), .v (.bool false)])⟩), (1, some ⟨false, .arr (.one (.i .u8)) []⟩)]
noncomputable def f_sl00Src_next_L (r : HOut) : Nat → AS → Option HOut := L f_sl00Src_next_X (cnOfH 2 f_sl00Src_next_LV) f_sl00Src_next_c (K0H TT f_sl00Src_next_rv f_sl00Src_next_hp0) r
theorem f_sl00Src_next_ctx : CtxOK Try.prog f_sl00Src_next_X := ctx_of tab mix trivial
noncomputable def s_sl00Src_next (a0 : Int) (a1 : Int) (a2 : (List Int)) : Option (Int × Int × Int) := (cond (decide (a0 < ((List.length a2 : Nat) : Int))) (cond (inB a0 (List.length a2)) (cond (decide ((IntKind.wrap .i64 (a0 + 1)) ≤ ((List.length a2 : Nat) : Int))) (some ((IntKind.wrap .i64 (List.getD a2 (Int.toNat a0) 0)), (IntKind.wrap .i64 (a0 + 1)), (IntKind.wrap .u64 ((IntKind.wrap .u64 ((IntKind.wrap .u64 (a1 * 6364136223846793005)) + (IntKind.wrap .u64 (IntKind.wrap .i64 (List.getD a2 (Int.toNat a0) 0))))) + 1442695040888963407)))) (cond (decide (40 < 0)) none (some ((IntKind.wrap .i64 (bAnd .u64 (bShr .u64 (IntKind.wrap .u64 ((IntKind.wrap .u64 ((IntKind.wrap .u64 (a1 * 6364136223846793005)) + (IntKind.wrap .u64 (IntKind.wrap .i64 (List.getD a2 (Int.toNat a0) 0))))) + 1442695040888963407)) 40) 255)), (IntKind.wrap .i64 (a0 + 1)), (IntKind.wrap .u64 ((IntKind.wrap .u64 ((IntKind.wrap .u64 (a1 * 6364136223846793005)) + (IntKind.wrap .u64 (IntKind.wrap .i64 (List.getD a2 (Int.toNat a0) 0))))) + 1442695040888963407)))))) none) (cond (decide ((IntKind.wrap .i64 (a0 + 1)) ≤ ((List.length a2 : Nat) : Int))) (some (0, (IntKind.wrap .i64 (a0 + 1)), (IntKind.wrap .u64 ((IntKind.wrap .u64 ((IntKind.wrap .u64 (a1 * 6364136223846793005)) + (IntKind.wrap .u64 0))) + 1442695040888963407)))) (cond (decide (40 < 0)) none (some ((IntKind.wrap .i64 (bAnd .u64 (bShr .u64 (IntKind.wrap .u64 ((IntKind.wrap .u64 ((IntKind.wrap .u64 (a1 * 6364136223846793005)) + (IntKind.wrap .u64 0))) + 1442695040888963407)) 40) 255)), (IntKind.wrap .i64 (a0 + 1)), (IntKind.wrap .u64 ((IntKind.wrap .u64 ((IntKind.wrap .u64 (a1 * 6364136223846793005)) + (IntKind.wrap .u64 0))) + 1442695040888963407)))))))
theorem f_sl00Src_next_top (a0 : Int) (a1 : Int) (a2 : (List Int)) (r : HOut) : ev f_sl00Src_next_X (lpc (cnOfH 2 f_sl00Src_next_LV) (f_sl00Src_next_L r)) f_sl00Src_next_c (K0H TT f_sl00Src_next_rv f_sl00Src_next_hp0) (enterH [.ptr 0 [] (0)] [(0, some ⟨true, .box (.rc [.sl 1, .v (.int .i64 a0), .v (.int .u64 a1)])⟩), (1, some ⟨false, .arr (.one (.i .u8)) a2⟩)]) = (cond (decide (a0 < ((List.length a2 : Nat) : Int))) (cond (inB a0 (List.length a2)) (cond (decide ((IntKind.wrap .i64 (a0 + 1)) ≤ ((List.length a2 : Nat) : Int))) (some ⟨.a (.v (.int .i64 (IntKind.wrap .i64 (List.getD a2 (Int.toNat a0) 0)))), [(0, some ⟨true, .box (.rc [.sl 1, .v (.int .i64 (IntKind.wrap .i64 (a0 + 1))), .v (.int .u64 (IntKind.wrap .u64 ((IntKind.wrap .u64 ((IntKind.wrap .u64 (a1 * 6364136223846793005)) + (IntKind.wrap .u64 (IntKind.wrap .i64 (List.getD a2 (Int.toNat a0) 0))))) + 1442695040888963407)))])⟩)], 2⟩) (cond (decide (40 < 0)) none (some ⟨.a (.v (.int .i64 (IntKind.wrap .i64 (bAnd .u64 (bShr .u64 (IntKind.wrap .u64 ((IntKind.wrap .u64 ((IntKind.wrap .u64 (a1 * 6364136223846793005)) + (IntKind.wrap .u64 (IntKind.wrap .i64 (List.getD a2 (Int.toNat a0) 0))))) + 1442695040888963407)) 40) 255)))), [(0, some ⟨true, .box (.rc [.sl 1, .v (.int .i64 (IntKind.wrap .i64 (a0 + 1))), .v (.int .u64 (IntKind.wrap .u64 ((IntKind.wrap .u64 ((IntKind.wrap .u64 (a1 * 6364136223846793005)) + (IntKind.wrap .u64 (IntKind.wrap .i64 (List.getD a2 (Int.toNat a0) 0))))) + 1442695040888963407)))])⟩)], 2⟩))) none) (cond (decide ((IntKind.wrap .i64 (a0 + 1)) ≤ ((List.length a2 : Nat) : Int))) (some ⟨.a (.v (.int .i64 0)), [(0, some ⟨true, .box (.rc [.sl 1, .v (.int .i64 (IntKind.wrap .i64 (a0 + 1))), .v (.int .u64 (IntKind.wrap .u64 ((IntKind.wrap .u64 ((IntKind.wrap .u64 (a1 * 6364136223846793005)) + (IntKind.wrap .u64 0))) + 1442695040888963407)))])⟩)], 2⟩) (cond (decide (40 < 0)) none (some ⟨.a (.v (.int .i64 (IntKind.wrap .i64 (bAnd .u64 (bShr .u64 (IntKind.wrap .u64 ((IntKind.wrap .u64 ((IntKind.wrap .u64 (a1 * 6364136223846793005)) + (IntKind.wrap .u64 0))) + 1442695040888963407)) 40) 255)))), [(0, some ⟨true, .box (.rc [.sl 1, .v (.int .i64 (IntKind.wrap .i64 (a0 + 1))), .v (.int .u64 (IntKind.wrap .u64 ((IntKind.wrap .u64 ((IntKind.wrap .u64 (a1 * 6364136223846793005)) + (IntKind.wrap .u64 0))) + 1442695040888963407)))])⟩)], 2⟩)))) := by kernel_rfl
noncomputable def l_sl00Src_next (r : (Int × Int × Int)) : HOut := ⟨.a (.v (.int .i64 r.1)), [(0, some ⟨true, .box (.rc [.sl 1, .v (.int .i64 r.2.1), .v (.int .u64 r.2.2)])⟩)], 2⟩
theorem s_sl00Src_next_ok (a0 : Int) (a1 : Int) (a2 : (List Int)) (v : (Int × Int × Int)) (h : s_sl00Src_next a0 a1 a2 = some v) : (cond (decide (a0 < ((List.length a2 : Nat) : Int))) (cond (inB a0 (List.length a2)) (cond (decide ((IntKind.wrap .i64 (a0 + 1)) ≤ ((List.length a2 : Nat) : Int))) (some ⟨.a (.v (.int .i64 (IntKind.wrap .i64 (List.getD a2 (Int.toNat a0) 0)))), [(0, some ⟨true, .box (.rc [.sl 1, .v (.int .i64 (IntKind.wrap .i64 (a0 + 1))), .v (.int .u64 (IntKind.wrap .u64 ((IntKind.wrap .u64 ((IntKind.wrap .u64 (a1 * 6364136223846793005)) + (IntKind.wrap .u64 (IntKind.wrap .i64 (List.getD a2 (Int.toNat a0) 0))))) + 1442695040888963407)))])⟩)], 2⟩) (cond (decide (40 < 0)) none (some ⟨.a (.v (.int .i64 (IntKind.wrap .i64 (bAnd .u64 (bShr .u64 (IntKind.wrap .u64 ((IntKind.wrap .u64 ((IntKind.wrap .u64 (a1 * 6364136223846793005)) + (IntKind.wrap .u64 (IntKind.wrap .i64 (List.getD a2 (Int.toNat a0) 0))))) + 1442695040888963407)) 40) 255)))), [(0, some ⟨true, .box (.rc [.sl 1, .v (.int .i64 (IntKind.wrap .i64 (a0 + 1))), .v (.int .u64 (IntKind.wrap .u64 ((IntKind.wrap .u64 ((IntKind.wrap .u64 (a1 * 6364136223846793005)) + (IntKind.wrap .u64 (IntKind.wrap .i64 (List.getD a2 (Int.toNat a0) 0))))) + 1442695040888963407)))])⟩)], 2⟩))) none) (cond (decide ((IntKind.wrap .i64 (a0 + 1)) ≤ ((List.length a2 : Nat) : Int))) (some ⟨.a (.v (.int .i64 0)), [(0, some ⟨true, .box (.rc [.sl 1, .v (.int .i64 (IntKind.wrap .i64 (a0 + 1))), .v (.int .u64 (IntKind.wrap .u64 ((IntKind.wrap .u64 ((IntKind.wrap .u64 (a1 * 6364136223846793005)) + (IntKind.wrap .u64 0))) + 1442695040888963407)))])⟩)], 2⟩) (cond (decide (40 < 0)) none (some ⟨.a (.v (.int .i64 (IntKind.wrap .i64 (bAnd .u64 (bShr .u64 (IntKind.wrap .u64 ((IntKind.wrap .u64 ((IntKind.wrap .u64 (a1 * 6364136223846793005)) + (IntKind.wrap .u64 0))) + 1442695040888963407)) 40) 255)))), [(0, some ⟨true, .box (.rc [.sl 1, .v (.int .i64 (IntKind.wrap .i64 (a0 + 1))), .v (.int .u64 (IntKind.wrap .u64 ((IntKind.wrap .u64 ((IntKind.wrap .u64 (a1 * 6364136223846793005)) + (IntKind.wrap .u64 0))) + 1442695040888963407)))])⟩)], 2⟩)))) = some (l_sl00Src_next v) := by
  have e : (cond (decide (a0 < ((List.length a2 : Nat) : Int))) (cond (inB a0 (List.length a2)) (cond (decide ((IntKind.wrap .i64 (a0 + 1)) ≤ ((List.length a2 : Nat) : Int))) (some ⟨.a (.v (.int .i64 (IntKind.wrap .i64 (List.getD a2 (Int.toNat a0) 0)))), [(0, some ⟨true, .box (.rc [.sl 1, .v (.int .i64 (IntKind.wrap .i64 (a0 + 1))), .v (.int .u64 (IntKind.wrap .u64 ((IntKind.wrap .u64 ((IntKind.wrap .u64 (a1 * 6364136223846793005)) + (IntKind.wrap .u64 (IntKind.wrap .i64 (List.getD a2 (Int.toNat a0) 0))))) + 1442695040888963407)))])⟩)], 2⟩) (cond (decide (40 < 0)) none (some ⟨.a (.v (.int .i64 (IntKind.wrap .i64 (bAnd .u64 (bShr .u64 (IntKind.wrap .u64 ((IntKind.wrap .u64 ((IntKind.wrap .u64 (a1 * 6364136223846793005)) + (IntKind.wrap .u64 (IntKind.wrap .i64 (List.getD a2 (Int.toNat a0) 0))))) + 1442695040888963407)) 40) 255)))), [(0, some ⟨true, .box (.rc [.sl 1, .v (.int .i64 (IntKind.wrap .i64 (a0 + 1))), .v (.int .u64 (IntKind.wrap .u64 ((IntKind.wrap .u64 ((IntKind.wrap .u64 (a1 * 6364136223846793005)) + (IntKind.wrap .u64 (IntKind.wrap .i64 (List.getD a2 (Int.toNat a0) 0))))) + 1442695040888963407)))])⟩)], 2⟩))) none) (cond (decide ((IntKind.wrap .i64 (a0 + 1)) ≤ ((List.length a2 : Nat) : Int))) (some ⟨.a (.v (.int .i64 0)), [(0, some ⟨true, .box (.rc [.sl 1, .v (.int .i64 (IntKind.wrap .i64 (a0 + 1))), .v (.int .u64 (IntKind.wrap .u64 ((IntKind.wrap .u64 ((IntKind.wrap .u64 (a1 * 6364136223846793005)) + (IntKind.wrap .u64 0))) + 1442695040888963407)))])⟩)], 2⟩) (cond (decide (40 < 0)) none (some ⟨.a (.v (.int .i64 (IntKind.wrap .i64 (bAnd .u64 (bShr .u64 (IntKind.wrap .u64 ((IntKind.wrap .u64 ((IntKind.wrap .u64 (a1 * 6364136223846793005)) + (IntKind.wrap .u64 0))) + 1442695040888963407)) 40) 255)))), [(0, some ⟨true, .box (.rc [.sl 1, .v (.int .i64 (IntKind.wrap .i64 (a0 + 1))), .v (.int .u64 (IntKind.wrap .u64 ((IntKind.wrap .u64 ((IntKind.wrap .u64 (a1 * 6364136223846793005)) + (IntKind.wrap .u64 0))) + 1442695040888963407)))])⟩)], 2⟩)))) = Option.map l_sl00Src_next (s_sl00Src_next a0 a1 a2) := by
    unfold s_sl00Src_next
    exact (cond_app (Option.map l_sl00Src_next) (cond_app (Option.map l_sl00Src_next) (cond_app (Option.map l_sl00Src_next) rfl (cond_app (Option.map l_sl00Src_next) rfl rfl)) rfl) (cond_app (Option.map l_sl00Src_next) rfl (cond_app (Option.map l_sl00Src_next) rfl rfl)))
  rw [e, h]; rfl
noncomputable def h_sl00Src_next : HCon := fun xs hp => match xs, hp with
  | [.ptr 0 [] (0)], [(0, some ⟨true, .box (.rc [.sl 1, .v (.int .i64 a0), .v (.int .u64 a1)])⟩), (1, some ⟨false, .arr (.one (.i .u8)) a2⟩)] => ⟨(Int × Int × Int), s_sl00Src_next a0 a1 a2, l_sl00Src_next⟩
  | _, _ => HAns.fail
theorem f_sl00Src_next_sound : HSound Try.prog 158 h_sl00Src_next := by
  refine sound_goodH f_sl00Src_next_ctx f_sl00Src_next_LV 1 2 f_sl00Src_next_hp0 Try.func158 (c := f_sl00Src_next_c) (by kernel_rfl) (rv := f_sl00Src_next_rv) (by kernel_rfl) (by kernel_rfl) (by kernel_rfl) (by kernel_rfl) fun xs hp => ?_
  unfold h_sl00Src_next
  split
  · rename_i a0 a1 a2; intro v h; exact ⟨rfl, ⟨rfl, rfl⟩, (f_sl00Src_next_top a0 a1 a2 _).trans (s_sl00Src_next_ok a0 a1 a2 v h)⟩
  · intro v h; cases h
noncomputable def m_sl00Src_next : List A → List (Nat × Option Blk) → Bool
  | [.ptr 0 [] (0)], [(0, some ⟨true, .box (.rc [.sl 1, .v (.int .i64 a0), .v (.int .u64 a1)])⟩), (1, some ⟨false, .arr (.one (.i .u8)) a2⟩)] => true
  | _, _ => false

/-! ### function 85: (*loop.example/g01322/spec.l00Src).pick -/
noncomputable def f_sl00Src_pick_c : Code := match Try.f85.body with | some c => c | none => .skip
noncomputable def f_sl00Src_pick_X : Ctx := ⟨TT, phiOf [], noPsi, (xiOf [(158, h_sl00Src_next)])⟩
def f_sl00Src_pick_LV : List (Nat × Keep) := []
def f_sl00Src_pick_rv : List ResultVar := [.tmp 4]
noncomputable def f_sl00Src_pick_hp0 : List (Nat × Option Blk) := [(0, some ⟨true, .box (.rc [.sl 1, .v (.bool false), .v (.bool false)])⟩), (1, some ⟨false, .arr (.one (.i .u8)) []⟩)]
noncomputable def f_sl00Src_pick_L (r : HOut) : Nat → AS → Option HOut := L f_sl00Src_pick_X (cnOfH 2 f_sl00Src_pick_LV) f_sl00Src_pick_c (K0H TT f_sl00Src_pick_rv f_sl00Src_pick_hp0) r
theorem f_sl00Src_pick_ctx : CtxOK Try.prog f_sl00Src_pick_X := ctx_ofH tab mix (l := []) trivial psi_no (xi_ok (l := [(158, h_sl00Src_next)]) ⟨⟨Try.call158, f_sl00Src_next_sound⟩, trivial⟩)
noncomputable def s_sl00Src_pick (a0 : Int) (a1 : Int) (a2 : Int) (a3 : (List Int)) : Option (Int × Int × Int) := (cond (decide (a0 ≤ 1)) (some (0, a1, a2)) (Option.bind (s_sl00Src_next a1 a2 a3) fun r1 => (cond (decide (a0 > 200)) (Option.bind (s_sl00Src_next (r1.2.1) (r1.2.2) a3) fun r2 => (cond (decide (a0 = 0)) none (some ((Int.tmod (IntKind.wrap .i64 ((IntKind.wrap .i64 (r1.1 * 256)) + r2.1)) a0), (r2.2.1), (r2.2.2))))) (cond (decide (a0 = 0)) none (some ((Int.tmod r1.1 a0), (r1.2.1), (r1.2.2)))))))
theorem f_sl00Src_pick_top (a0 : Int) (a1 : Int) (a2 : Int) (a3 : (List Int)) (r : HOut) : ev f_sl00Src_pick_X (lpc (cnOfH 2 f_sl00Src_pick_LV) (f_sl00Src_pick_L r)) f_sl00Src_pick_c (K0H TT f_sl00Src_pick_rv f_sl00Src_pick_hp0) (enterH [.ptr 0 [] (0), .v (.int .i64 a0)] [(0, some ⟨true, .box (.rc [.sl 1, .v (.int .i64 a1), .v (.int .u64 a2)])⟩), (1, some ⟨false, .arr (.one (.i .u8)) a3⟩)]) = (cond (decide (a0 ≤ 1)) (some ⟨.a (.v (.int .i64 0)), [(0, some ⟨true, .box (.rc [.sl 1, .v (.int .i64 a1), .v (.int .u64 a2)])⟩)], 2⟩) (Option.bind (s_sl00Src_next a1 a2 a3) fun r1 => (cond (decide (a0 > 200)) (Option.bind (s_sl00Src_next (r1.2.1) (r1.2.2) a3) fun r2 => (cond (decide (a0 = 0)) none (some ⟨.a (.v (.int .i64 (Int.tmod (IntKind.wrap .i64 ((IntKind.wrap .i64 (r1.1 * 256)) + r2.1)) a0))), [(0, some ⟨true, .box (.rc [.sl 1, .v (.int .i64 r2.2.1), .v (.int .u64 r2.2.2)])⟩)], 2⟩))) (cond (decide (a0 = 0)) none (some ⟨.a (.v (.int .i64 (Int.tmod r1.1 a0))), [(0, some ⟨true, .box (.rc [.sl 1, .v (.int .i64 r1.2.1), .v (.int .u64 r1.2.2)])⟩)], 2⟩))))) := by kernel_rfl
noncomputable def l_sl00Src_pick (r : (Int × Int × Int)) : HOut := ⟨.a (.v (.int .i64 r.1)), [(0, some ⟨true, .box (.rc [.sl 1, .v (.int .i64 r.2.1), .v (.int .u64 r.2.2)])⟩)], 2⟩
theorem s_sl00Src_pick_ok (a0 : Int) (a1 : Int) (a2 : Int) (a3 : (List Int)) (v : (Int × Int × Int)) (h : s_sl00Src_pick a0 a1 a2 a3 = some v) : (cond (decide (a0 ≤ 1)) (some ⟨.a (.v (.int .i64 0)), [(0, some ⟨true, .box (.rc [.sl 1, .v (.int .i64 a1), .v (.int .u64 a2)])⟩)], 2⟩) (Option.bind (s_sl00Src_next a1 a2 a3) fun r1 => (cond (decide (a0 > 200)) (Option.bind (s_sl00Src_next (r1.2.1) (r1.2.2) a3) fun r2 => (cond (decide (a0 = 0)) none (some ⟨.a (.v (.int .i64 (Int.tmod (IntKind.wrap .i64 ((IntKind.wrap .i64 (r1.1 * 256)) + r2.1)) a0))), [(0, some ⟨true, .box (.rc [.sl 1, .v (.int .i64 r2.2.1), .v (.int .u64 r2.2.2)])⟩)], 2⟩))) (cond (decide (a0 = 0)) none (some ⟨.a (.v (.int .i64 (Int.tmod r1.1 a0))), [(0, some ⟨true, .box (.rc [.sl 1, .v (.int .i64 r1.2.1), .v (.int .u64 r1.2.2)])⟩)], 2⟩))))) = some (l_sl00Src_pick v) := by
  have e : (cond (decide (a0 ≤ 1)) (some ⟨.a (.v (.int .i64 0)), [(0, some ⟨true, .box (.rc [.sl 1, .v (.int .i64 a1), .v (.int .u64 a2)])⟩)], 2⟩) (Option.bind (s_sl00Src_next a1 a2 a3) fun r1 => (cond (decide (a0 > 200)) (Option.bind (s_sl00Src_next (r1.2.1) (r1.2.2) a3) fun r2 => (cond (decide (a0 = 0)) none (some ⟨.a (.v (.int .i64 (Int.tmod (IntKind.wrap .i64 ((IntKind.wrap .i64 (r1.1 * 256)) + r2.1)) a0))), [(0, some ⟨true, .box (.rc [.sl 1, .v (.int .i64 r2.2.1), .v (.int .u64 r2.2.2)])⟩)], 2⟩))) (cond (decide (a0 = 0)) none (some ⟨.a (.v (.int .i64 (Int.tmod r1.1 a0))), [(0, some ⟨true, .box (.rc [.sl 1, .v (.int .i64 r1.2.1), .v (.int .u64 r1.2.2)])⟩)], 2⟩))))) = Option.map l_sl00Src_pick (s_sl00Src_pick a0 a1 a2 a3) := by
    unfold s_sl00Src_pick
    exact (cond_app (Option.map l_sl00Src_pick) rfl (bind_app fun _ => (cond_app (Option.map l_sl00Src_pick) (bind_app fun _ => (cond_app (Option.map l_sl00Src_pick) rfl rfl)) (cond_app (Option.map l_sl00Src_pick) rfl rfl))))
  rw [e, h]; rfl
noncomputable def h_sl00Src_pick : HCon := fun xs hp => match xs, hp with
  | [.ptr 0 [] (0), .v (.int .i64 a0)], [(0, some ⟨true, .box (.rc [.sl 1, .v (.int .i64 a1), .v (.int .u64 a2)])⟩), (1, some ⟨false, .arr (.one (.i .u8)) a3⟩)] => ⟨(Int × Int × Int), s_sl00Src_pick a0 a1 a2 a3, l_sl00Src_pick⟩
  | _, _ => HAns.fail
theorem f_sl00Src_pick_sound : HSound Try.prog 85 h_sl00Src_pick := by
  refine sound_goodH f_sl00Src_pick_ctx f_sl00Src_pick_LV 2 2 f_sl00Src_pick_hp0 Try.func85 (c := f_sl00Src_pick_c) (by kernel_rfl) (rv := f_sl00Src_pick_rv) (by kernel_rfl) (by kernel_rfl) (by kernel_rfl) (by kernel_rfl) fun xs hp => ?_
  unfold h_sl00Src_pick
  split
  · rename_i a0 a1 a2 a3; intro v h; exact ⟨rfl, ⟨rfl, rfl⟩, (f_sl00Src_pick_top a0 a1 a2 a3 _).trans (s_sl00Src_pick_ok a0 a1 a2 a3 v h)⟩
  · intro v h; cases h
noncomputable def m_sl00Src_pick : List A → List (Nat × Option Blk) → Bool
  | [.ptr 0 [] (0), .v (.int .i64 a0)], [(0, some ⟨true, .box (.rc [.sl 1, .v (.int .i64 a1), .v (.int .u64 a2)])⟩), (1, some ⟨false, .arr (.one (.i .u8)) a3⟩)] => true
  | _, _ => false

/-! ### function 17: loop.example/g01322/spec.P6Pick -/
noncomputable def f_sP6Pick_c : Code := match Try.f17.body with | some c => c | none => .skip
noncomputable def f_sP6Pick_X : Ctx := ⟨TT, phiOf [], noPsi, (xiOf [(83, h_sl00From), (85, h_sl00Src_pick)])⟩
def f_sP6Pick_LV : List (Nat × Keep) := []
def f_sP6Pick_rv : List ResultVar := [.tmp 4]
noncomputable def f_sP6Pick_L (r : List A) : Nat → AS → Option (List A) := L f_sP6Pick_X (cnOf f_sP6Pick_LV) f_sP6Pick_c (K0 TT f_sP6Pick_rv) r
theorem f_sP6Pick_ctx : CtxOK Try.prog f_sP6Pick_X := ctx_ofH tab mix (l := []) trivial psi_no (xi_ok (l := [(83, h_sl00From), (85, h_sl00Src_pick)]) ⟨⟨Try.call83, f_sl00From_sound⟩, ⟨Try.call85, f_sl00Src_pick_sound⟩, trivial⟩)
noncomputable def s_sP6Pick (a0 : (List Int)) (a1 : Int) : Option Int := (Option.bind (s_sl00Src_pick a1 (s_sl00From a0).1 (s_sl00From a0).2 a0) fun r1 => (some (r1.1)))
theorem f_sP6Pick_top (a0 : (List Int)) (a1 : Int) (r : List A) : ev f_sP6Pick_X (lpc (cnOf f_sP6Pick_LV) (f_sP6Pick_L r)) f_sP6Pick_c (K0 TT f_sP6Pick_rv) (enter [.lst (.one (.i .u8)) a0, .v (.int .i64 a1)]) = (Option.bind (s_sl00Src_pick a1 (s_sl00From a0).1 (s_sl00From a0).2 a0) fun r1 => (some [.v (.int .i64 r1.1)])) := by kernel_rfl
noncomputable def l_sP6Pick (r : Int) : List A := [.v (.int .i64 r)]
theorem s_sP6Pick_ok (a0 : (List Int)) (a1 : Int) (v : Int) (h : s_sP6Pick a0 a1 = some v) : (Option.bind (s_sl00Src_pick a1 (s_sl00From a0).1 (s_sl00From a0).2 a0) fun r1 => (some [.v (.int .i64 r1.1)])) = some (l_sP6Pick v) := by
  have e : (Option.bind (s_sl00Src_pick a1 (s_sl00From a0).1 (s_sl00From a0).2 a0) fun r1 => (some [.v (.int .i64 r1.1)])) = Option.map l_sP6Pick (s_sP6Pick a0 a1) := by
    unfold s_sP6Pick
    exact (bind_app fun _ => rfl)
  rw [e, h]; rfl
noncomputable def c_sP6Pick : List A → ACall
  | [.lst (.one (.i .u8)) a0, .v (.int .i64 a1)] => ⟨Int, s_sP6Pick a0 a1, fun r => .one (.v (.int .i64 r))⟩
  | _ => ACall.fail
theorem f_sP6Pick_sound : Sound Try.prog 17 c_sP6Pick := by
  refine sound_good f_sP6Pick_ctx f_sP6Pick_LV 2 Try.func17 (c := f_sP6Pick_c) (by kernel_rfl) (rv := f_sP6Pick_rv) (by kernel_rfl) (by kernel_rfl) (by kernel_rfl) (by kernel_rfl) fun rs => ?_
  unfold c_sP6Pick
  split
  · rename_i a0 a1; intro v h; exact ⟨rfl, l_sP6Pick v, rfl, (f_sP6Pick_top a0 a1 _).trans (s_sP6Pick_ok a0 a1 v h)⟩
  · intro v h; cases h

/-! ### function 157: loop.example/g01322/spec.l01Least -/
noncomputable def f_sl01Least_c : Code := match Try.f157.body with | some c => c | none => .skip
noncomputable def f_sl01Least_X : Ctx := ⟨TT, phiOf [], noPsi, noXi⟩
def f_sl01Least_LV : List (Nat × Keep) := []
def f_sl01Least_rv : List ResultVar := [.tmp 4]
noncomputable def f_sl01Least_L (r : List A) : Nat → AS → Option (List A) := L f_sl01Least_X (cnOf f_sl01Least_LV) f_sl01Least_c (K0 TT f_sl01Least_rv) r
theorem f_sl01Least_ctx : CtxOK Try.prog f_sl01Least_X := ctx_of tab mix trivial
noncomputable def s_sl01Least (a0 : Int) (a1 : Int) : Int := (cond (decide (a0 < a1)) a0 a1)
theorem f_sl01Least_top (a0 : Int) (a1 : Int) (r : List A) : ev f_sl01Least_X (lpc (cnOf f_sl01Least_LV) (f_sl01Least_L r)) f_sl01Least_c (K0 TT f_sl01Least_rv) (enter [.v (.int .i8 a0), .v (.int .i8 a1)]) = (cond (decide (a0 < a1)) (some [.v (.int .i8 a0)]) (some [.v (.int .i8 a1)])) := by kernel_rfl
noncomputable def l_sl01Least (r : Int) : List A := [.v (.int .i8 r)]
theorem s_sl01Least_ok (a0 : Int) (a1 : Int) : (cond (decide (a0 < a1)) (some [.v (.int .i8 a0)]) (some [.v (.int .i8 a1)])) = some (l_sl01Least (s_sl01Least a0 a1)) := by
  unfold s_sl01Least
  exact (cond_app (fun x => some (l_sl01Least x)) rfl rfl)
noncomputable def c_sl01Least : List A → ACall
  | [.v (.int .i8 a0), .v (.int .i8 a1)] => ⟨Int, some (s_sl01Least a0 a1), fun r => .one (.v (.int .i8 r))⟩
  | _ => ACall.fail
theorem f_sl01Least_sound : Sound Try.prog 157 c_sl01Least := by
  refine sound_good f_sl01Least_ctx f_sl01Least_LV 2 Try.func157 (c := f_sl01Least_c) (by kernel_rfl) (rv := f_sl01Least_rv) (by kernel_rfl) (by kernel_rfl) (by kernel_rfl) (by kernel_rfl) fun rs => ?_
  unfold c_sl01Least
  split
  · rename_i a0 a1; intro v h; cases h; exact ⟨rfl, l_sl01Least (s_sl01Least a0 a1), rfl, (f_sl01Least_top a0 a1 _).trans (s_sl01Least_ok a0 a1)⟩
  · intro v h; cases h

/-! ### function 84: loop.example/g01322/spec.l01Drawn -/
noncomputable def f_sl01Drawn_c : Code := match Try.f84.body with | some c => c | none => .skip
noncomputable def f_sl01Drawn_X : Ctx := ⟨TT, phiOf [(157, c_sl01Least), (94, c_sl01Is)], noPsi, (xiOf [(85, h_sl00Src_pick)])⟩
def f_sl01Drawn_LV : List (Nat × Keep) := [(4, ([0, 2, 3, 4, 5], [], [])), (11, ([2, 3, 6], [], [])), (18, ([2, 3, 7], [], []))]
def f_sl01Drawn_rv : List ResultVar := [.cell 2 27]
noncomputable def f_sl01Drawn_hp0 : List (Nat × Option Blk) := [(0, some ⟨true, .box (.rc [.sl 1, .v (.bool false), .v (.bool false)])⟩), (1, some ⟨false, .arr (.one (.i .u8)) []⟩)]
noncomputable def f_sl01Drawn_L (r : HOut) : Nat → AS → Option HOut := L f_sl01Drawn_X (cnOfH 2 f_sl01Drawn_LV) f_sl01Drawn_c (K0H TT f_sl01Drawn_rv f_sl01Drawn_hp0) r
theorem f_sl01Drawn_ctx : CtxOK Try.prog f_sl01Drawn_X := ctx_ofH tab mix (l := [(157, c_sl01Least), (94, c_sl01Is)]) ⟨⟨Try.call157, f_sl01Least_sound⟩, ⟨Try.call94, f_sl01Is_sound⟩, trivial⟩ psi_no (xi_ok (l := [(85, h_sl00Src_pick)]) ⟨⟨Try.call85, f_sl00Src_pick_sound⟩, trivial⟩)
noncomputable def f_sl01Drawn_s4 (x0 : Int) (x1 : Int) (x2 : Int) (x3 : Int) (x4 : (List Int)) (x5 : Int) (x6 : Int) (x7 : (Nat → Int)) (x8 : Int) (x9 : Int) (x10 : (Nat → Int)) : AS := ⟨[(0, .a (.ptr 0 [] (0))), (2, .a (.ptr 2 [] (0))), (3, .a (.ptr 3 [] (0))), (4, .a (.v (.int .i64 x0))), (5, .a (.v (.int .i64 x1)))], [(0, some ⟨true, .box (.rc [.sl 1, .v (.int .i64 x2), .v (.int .u64 x3)])⟩), (1, some ⟨false, .arr (.one (.i .u8)) x4⟩), (2, some ⟨true, .box (.rc [.v (.int .i8 x5), .v (.int .i8 x6), .fa 144 .u8 x7])⟩), (3, some ⟨true, .box (.rc [.v (.int .i8 x8), .v (.int .i8 x9), .fa 144 .u8 x10])⟩)], 4⟩
noncomputable def f_sl01Drawn_s11 (x0 : Int) (x1 : Int) (x2 : Int) (x3 : (List Int)) (x4 : Int) (x5 : Int) (x6 : (Nat → Int)) (x7 : Int) (x8 : Int) (x9 : (Nat → Int)) : AS := ⟨[(2, .a (.ptr 2 [] (0))), (3, .a (.ptr 3 [] (0))), (6, .a (.v (.int .i64 x0)))], [(0, some ⟨true, .box (.rc [.sl 1, .v (.int .i64 x1), .v (.int .u64 x2)])⟩), (1, some ⟨false, .arr (.one (.i .u8)) x3⟩), (2, some ⟨true, .box (.rc [.v (.int .i8 x4), .v (.int .i8 x5), .fa 144 .u8 x6])⟩), (3, some ⟨true, .box (.rc [.v (.int .i8 x7), .v (.int .i8 x8), .fa 144 .u8 x9])⟩)], 4⟩
noncomputable def f_sl01Drawn_s18 (x0 : Int) (x1 : Int) (x2 : Int) (x3 : (List Int)) (x4 : Int) (x5 : Int) (x6 : (Nat → Int)) (x7 : Int) (x8 : Int) (x9 : (Nat → Int)) : AS := ⟨[(2, .a (.ptr 2 [] (0))), (3, .a (.ptr 3 [] (0))), (7, .a (.v (.int .i64 x0)))], [(0, some ⟨true, .box (.rc [.sl 1, .v (.int .i64 x1), .v (.int .u64 x2)])⟩), (1, some ⟨false, .arr (.one (.i .u8)) x3⟩), (2, some ⟨true, .box (.rc [.v (.int .i8 x4), .v (.int .i8 x5), .fa 144 .u8 x6])⟩), (3, some ⟨true, .box (.rc [.v (.int .i8 x7), .v (.int .i8 x8), .fa 144 .u8 x9])⟩)], 4⟩
noncomputable def l_sl01Drawn (r : (Int × Int × (Nat → Int) × Int × Int)) : HOut := ⟨.a (.rc [.v (.int .i8 r.1), .v (.int .i8 r.2.1), .fa 144 .u8 r.2.2.1]), [(0, some ⟨true, .box (.rc [.sl 1, .v (.int .i64 r.2.2.2.1), .v (.int .u64 r.2.2.2.2)])⟩)], 2⟩
theorem f_sl01Drawn_step11 (x0 : Int) (x1 : Int) (x2 : Int) (x3 : (List Int)) (x4 : Int) (x5 : Int) (x6 : (Nat → Int)) (x7 : Int) (x8 : Int) (x9 : (Nat → Int)) (r : HOut) (h : (cond (decide (x0 < 144)) (cond (s_sl01Is x7 x8 x9 x0) (cond (inB (IntKind.wrap .i64 ((IntKind.wrap .i64 ((IntKind.wrap .i64 (x0 - (IntKind.wrap .i64 (2 * (Int.tmod x0 12))))) + (IntKind.wrap .i64 x7))) - 1)) 144) (cond (inB x0 144) (f_sl01Drawn_L r 11 (f_sl01Drawn_s11 (IntKind.wrap .i64 (x0 + 1)) x1 x2 x3 x4 x5 x6 x7 x8 (upd x9 (Int.toNat x0) (x9 (Int.toNat (IntKind.wrap .i64 ((IntKind.wrap .i64 ((IntKind.wrap .i64 (x0 - (IntKind.wrap .i64 (2 * (Int.tmod x0 12))))) + (IntKind.wrap .i64 x7))) - 1))))))) none) none) (f_sl01Drawn_L r 11 (f_sl01Drawn_s11 (IntKind.wrap .i64 (x0 + 1)) x1 x2 x3 x4 x5 x6 x7 x8 x9))) (some ⟨.a (.rc [.v (.int .i8 x7), .v (.int .i8 x8), .fa 144 .u8 x9]), [(0, some ⟨true, .box (.rc [.sl 1, .v (.int .i64 x1), .v (.int .u64 x2)])⟩)], 2⟩)) = some r) : f_sl01Drawn_L r 11 (f_sl01Drawn_s11 x0 x1 x2 x3 x4 x5 x6 x7 x8 x9) = some r :=
  step_of' h (by kernel_rfl)
noncomputable def f_sl01Drawn_n11 (x0 : Int) (x1 : Int) (x2 : Int) (x3 : (List Int)) (x4 : Int) (x5 : Int) (x6 : (Nat → Int)) (x7 : Int) (x8 : Int) (x9 : (Nat → Int)) : Option ((Int × Int × Int × (List Int) × Int × Int × (Nat → Int) × Int × Int × (Nat → Int)) ⊕ (Int × Int × (Nat → Int) × Int × Int)) := (cond (decide (x0 < 144)) (cond (s_sl01Is x7 x8 x9 x0) (cond (inB (IntKind.wrap .i64 ((IntKind.wrap .i64 ((IntKind.wrap .i64 (x0 - (IntKind.wrap .i64 (2 * (Int.tmod x0 12))))) + (IntKind.wrap .i64 x7))) - 1)) 144) (cond (inB x0 144) (some (Sum.inl ((IntKind.wrap .i64 (x0 + 1)), x1, x2, x3, x4, x5, x6, x7, x8, (upd x9 (Int.toNat x0) (x9 (Int.toNat (IntKind.wrap .i64 ((IntKind.wrap .i64 ((IntKind.wrap .i64 (x0 - (IntKind.wrap .i64 (2 * (Int.tmod x0 12))))) + (IntKind.wrap .i64 x7))) - 1)))))))) none) none) (some (Sum.inl ((IntKind.wrap .i64 (x0 + 1)), x1, x2, x3, x4, x5, x6, x7, x8, x9)))) (some (Sum.inr (x7, x8, x9, x1, x2))))
noncomputable def f_sl01Drawn_run11 (x : (Int × Int × Int × (List Int) × Int × Int × (Nat → Int) × Int × Int × (Nat → Int))) : Option (Int × Int × (Nat → Int) × Int × Int) := iter (fun x => f_sl01Drawn_n11 x.1 x.2.1 x.2.2.1 x.2.2.2.1 x.2.2.2.2.1 x.2.2.2.2.2.1 x.2.2.2.2.2.2.1 x.2.2.2.2.2.2.2.1 x.2.2.2.2.2.2.2.2.1 x.2.2.2.2.2.2.2.2.2) FU x
noncomputable def f_sl01Drawn_G11 (r : HOut) (x : (Int × Int × Int × (List Int) × Int × Int × (Nat → Int) × Int × Int × (Nat → Int))) : Prop := f_sl01Drawn_L r 11 (f_sl01Drawn_s11 x.1 x.2.1 x.2.2.1 x.2.2.2.1 x.2.2.2.2.1 x.2.2.2.2.2.1 x.2.2.2.2.2.2.1 x.2.2.2.2.2.2.2.1 x.2.2.2.2.2.2.2.2.1 x.2.2.2.2.2.2.2.2.2) = some r
theorem f_sl01Drawn_step18 (x0 : Int) (x1 : Int) (x2 : Int) (x3 : (List Int)) (x4 : Int) (x5 : Int) (x6 : (Nat → Int)) (x7 : Int) (x8 : Int) (x9 : (Nat → Int)) (r : HOut) (h : (cond (decide (x0 < 144)) (cond (!(s_sl01Is x7 x8 x9 x0)) (cond (inB x0 144) (f_sl01Drawn_L r 18 (f_sl01Drawn_s18 (IntKind.wrap .i64 (x0 + 1)) x1 x2 x3 x4 x5 x6 x7 x8 (upd x9 (Int.toNat x0) 0))) none) (f_sl01Drawn_L r 18 (f_sl01Drawn_s18 (IntKind.wrap .i64 (x0 + 1)) x1 x2 x3 x4 x5 x6 x7 x8 x9))) (some ⟨.a (.rc [.v (.int .i8 x7), .v (.int .i8 x8), .fa 144 .u8 x9]), [(0, some ⟨true, .box (.rc [.sl 1, .v (.int .i64 x1), .v (.int .u64 x2)])⟩)], 2⟩)) = some r) : f_sl01Drawn_L r 18 (f_sl01Drawn_s18 x0 x1 x2 x3 x4 x5 x6 x7 x8 x9) = some r :=
  step_of' h (by kernel_rfl)
noncomputable def f_sl01Drawn_n18 (x0 : Int) (x1 : Int) (x2 : Int) (x3 : (List Int)) (x4 : Int) (x5 : Int) (x6 : (Nat → Int)) (x7 : Int) (x8 : Int) (x9 : (Nat → Int)) : Option ((Int × Int × Int × (List Int) × Int × Int × (Nat → Int) × Int × Int × (Nat → Int)) ⊕ (Int × Int × (Nat → Int) × Int × Int)) := (cond (decide (x0 < 144)) (cond (!(s_sl01Is x7 x8 x9 x0)) (cond (inB x0 144) (some (Sum.inl ((IntKind.wrap .i64 (x0 + 1)), x1, x2, x3, x4, x5, x6, x7, x8, (upd x9 (Int.toNat x0) 0)))) none) (some (Sum.inl ((IntKind.wrap .i64 (x0 + 1)), x1, x2, x3, x4, x5, x6, x7, x8, x9)))) (some (Sum.inr (x7, x8, x9, x1, x2))))
noncomputable def f_sl01Drawn_run18 (x : (Int × Int × Int × (List Int) × Int × Int × (Nat → Int) × Int × Int × (Nat → Int))) : Option (Int × Int × (Nat → Int) × Int × Int) := iter (fun x => f_sl01Drawn_n18 x.1 x.2.1 x.2.2.1 x.2.2.2.1 x.2.2.2.2.1 x.2.2.2.2.2.1 x.2.2.2.2.2.2.1 x.2.2.2.2.2.2.2.1 x.2.2.2.2.2.2.2.2.1 x.2.2.2.2.2.2.2.2.2) FU x
noncomputable def f_sl01Drawn_G18 (r : HOut) (x : (Int × Int × Int × (List Int) × Int × Int × (Nat → Int) × Int × Int × (Nat → Int))) : Prop := f_sl01Drawn_L r 18 (f_sl01Drawn_s18 x.1 x.2.1 x.2.2.1 x.2.2.2.1 x.2.2.2.2.1 x.2.2.2.2.2.1 x.2.2.2.2.2.2.1 x.2.2.2.2.2.2.2.1 x.2.2.2.2.2.2.2.2.1 x.2.2.2.2.2.2.2.2.2) = some r
theorem f_sl01Drawn_step4 (x0 : Int) (x1 : Int) (x2 : Int) (x3 : Int) (x4 : (List Int)) (x5 : Int) (x6 : Int) (x7 : (Nat → Int)) (x8 : Int) (x9 : Int) (x10 : (Nat → Int)) (r : HOut) (h : (cond (decide (x1 < 144)) (cond (s_sl01Is x8 x9 x10 x1) (Option.bind (s_sl00Src_pick x0 x2 x3 x4) fun r4 => (cond (inB x1 144) (f_sl01Drawn_L r 4 (f_sl01Drawn_s4 x0 (IntKind.wrap .i64 (x1 + 1)) r4.2.1 r4.2.2 x4 x5 x6 x7 x8 x9 (upd x10 (Int.toNat x1) (IntKind.wrap .u8 r4.1)))) none)) (f_sl01Drawn_L r 4 (f_sl01Drawn_s4 x0 (IntKind.wrap .i64 (x1 + 1)) x2 x3 x4 x5 x6 x7 x8 x9 x10))) (Option.bind (s_sl00Src_pick 5 x2 x3 x4) fun r5 => (cond (r5.1 == 0) (f_sl01Drawn_L r 11 (f_sl01Drawn_s11 0 r5.2.1 r5.2.2 x4 x5 x6 x7 x8 x9 x10)) (cond (r5.1 == 1) (f_sl01Drawn_L r 18 (f_sl01Drawn_s18 0 r5.2.1 r5.2.2 x4 x5 x6 x7 x8 (s_sl01Least x9 x8) x10)) (some ⟨.a (.rc [.v (.int .i8 x8), .v (.int .i8 x9), .fa 144 .u8 x10]), [(0, some ⟨true, .box (.rc [.sl 1, .v (.int .i64 r5.2.1), .v (.int .u64 r5.2.2)])⟩)], 2⟩))))) = some r) : f_sl01Drawn_L r 4 (f_sl01Drawn_s4 x0 x1 x2 x3 x4 x5 x6 x7 x8 x9 x10) = some r :=
  step_of' h (by kernel_rfl)
noncomputable def f_sl01Drawn_n4 (x0 : Int) (x1 : Int) (x2 : Int) (x3 : Int) (x4 : (List Int)) (x5 : Int) (x6 : Int) (x7 : (Nat → Int)) (x8 : Int) (x9 : Int) (x10 : (Nat → Int)) : Option ((Int × Int × Int × Int × (List Int) × Int × Int × (Nat → Int) × Int × Int × (Nat → Int)) ⊕ (Int × Int × (Nat → Int) × Int × Int)) := (cond (decide (x1 < 144)) (cond (s_sl01Is x8 x9 x10 x1) (Option.bind (s_sl00Src_pick x0 x2 x3 x4) fun r4 => (cond (inB x1 144) (some (Sum.inl (x0, (IntKind.wrap .i64 (x1 + 1)), r4.2.1, r4.2.2, x4, x5, x6, x7, x8, x9, (upd x10 (Int.toNat x1) (IntKind.wrap .u8 r4.1))))) none)) (some (Sum.inl (x0, (IntKind.wrap .i64 (x1 + 1)), x2, x3, x4, x5, x6, x7, x8, x9, x10)))) (Option.bind (s_sl00Src_pick 5 x2 x3 x4) fun r5 => (cond (r5.1 == 0) (Option.map (fun x => (Sum.inr x)) (f_sl01Drawn_run11 (0, r5.2.1, r5.2.2, x4, x5, x6, x7, x8, x9, x10))) (cond (r5.1 == 1) (Option.map (fun x => (Sum.inr x)) (f_sl01Drawn_run18 (0, r5.2.1, r5.2.2, x4, x5, x6, x7, x8, (s_sl01Least x9 x8), x10))) (some (Sum.inr (x8, x9, x10, (r5.2.1), (r5.2.2))))))))
noncomputable def f_sl01Drawn_run4 (x : (Int × Int × Int × Int × (List Int) × Int × Int × (Nat → Int) × Int × Int × (Nat → Int))) : Option (Int × Int × (Nat → Int) × Int × Int) := iter (fun x => f_sl01Drawn_n4 x.1 x.2.1 x.2.2.1 x.2.2.2.1 x.2.2.2.2.1 x.2.2.2.2.2.1 x.2.2.2.2.2.2.1 x.2.2.2.2.2.2.2.1 x.2.2.2.2.2.2.2.2.1 x.2.2.2.2.2.2.2.2.2.1 x.2.2.2.2.2.2.2.2.2.2) FU x
noncomputable def f_sl01Drawn_G4 (r : HOut) (x : (Int × Int × Int × Int × (List Int) × Int × Int × (Nat → Int) × Int × Int × (Nat → Int))) : Prop := f_sl01Drawn_L r 4 (f_sl01Drawn_s4 x.1 x.2.1 x.2.2.1 x.2.2.2.1 x.2.2.2.2.1 x.2.2.2.2.2.1 x.2.2.2.2.2.2.1 x.2.2.2.2.2.2.2.1 x.2.2.2.2.2.2.2.2.1 x.2.2.2.2.2.2.2.2.2.1 x.2.2.2.2.2.2.2.2.2.2) = some r
noncomputable def f_sl01Drawn_S11 (r : HOut) : (Int × Int × (Nat → Int) × Int × Int) → Prop := fun v => r = l_sl01Drawn v
noncomputable def f_sl01Drawn_S18 (r : HOut) : (Int × Int × (Nat → Int) × Int × Int) → Prop := fun v => r = l_sl01Drawn v
noncomputable def f_sl01Drawn_S4 (r : HOut) : (Int × Int × (Nat → Int) × Int × Int) → Prop := fun v => r = l_sl01Drawn v
theorem f_sl01Drawn_go11 (r : HOut) : ∀ x, sem (f_sl01Drawn_S11 r) (f_sl01Drawn_run11 x) → f_sl01Drawn_G11 r x :=
  fun x => iter_sound (step := fun x => f_sl01Drawn_n11 x.1 x.2.1 x.2.2.1 x.2.2.2.1 x.2.2.2.2.1 x.2.2.2.2.2.1 x.2.2.2.2.2.2.1 x.2.2.2.2.2.2.2.1 x.2.2.2.2.2.2.2.2.1 x.2.2.2.2.2.2.2.2.2) (fun x h => by
    unfold f_sl01Drawn_n11 at h
    exact f_sl01Drawn_step11 x.1 x.2.1 x.2.2.1 x.2.2.2.1 x.2.2.2.2.1 x.2.2.2.2.2.1 x.2.2.2.2.2.2.1 x.2.2.2.2.2.2.2.1 x.2.2.2.2.2.2.2.2.1 x.2.2.2.2.2.2.2.2.2 r ((sem_cond h (fun h => (sem_cond h (fun h => (sem_cond h (fun h => (sem_cond h (fun h => sem_got h fun q => q) (fun h => sem_none h))) (fun h => sem_none h))) (fun h => sem_got h fun q => q))) (fun h => sem_got h fun q => some_eq q)))) FU x
theorem f_sl01Drawn_go18 (r : HOut) : ∀ x, sem (f_sl01Drawn_S18 r) (f_sl01Drawn_run18 x) → f_sl01Drawn_G18 r x :=
  fun x => iter_sound (step := fun x => f_sl01Drawn_n18 x.1 x.2.1 x.2.2.1 x.2.2.2.1 x.2.2.2.2.1 x.2.2.2.2.2.1 x.2.2.2.2.2.2.1 x.2.2.2.2.2.2.2.1 x.2.2.2.2.2.2.2.2.1 x.2.2.2.2.2.2.2.2.2) (fun x h => by
    unfold f_sl01Drawn_n18 at h
    exact f_sl01Drawn_step18 x.1 x.2.1 x.2.2.1 x.2.2.2.1 x.2.2.2.2.1 x.2.2.2.2.2.1 x.2.2.2.2.2.2.1 x.2.2.2.2.2.2.2.1 x.2.2.2.2.2.2.2.2.1 x.2.2.2.2.2.2.2.2.2 r ((sem_cond h (fun h => (sem_cond h (fun h => (sem_cond h (fun h => sem_got h fun q => q) (fun h => sem_none h))) (fun h => sem_got h fun q => q))) (fun h => sem_got h fun q => some_eq q)))) FU x
theorem f_sl01Drawn_go4 (r : HOut) : ∀ x, sem (f_sl01Drawn_S4 r) (f_sl01Drawn_run4 x) → f_sl01Drawn_G4 r x :=
  fun x => iter_sound (step := fun x => f_sl01Drawn_n4 x.1 x.2.1 x.2.2.1 x.2.2.2.1 x.2.2.2.2.1 x.2.2.2.2.2.1 x.2.2.2.2.2.2.1 x.2.2.2.2.2.2.2.1 x.2.2.2.2.2.2.2.2.1 x.2.2.2.2.2.2.2.2.2.1 x.2.2.2.2.2.2.2.2.2.2) (fun x h => by
    unfold f_sl01Drawn_n4 at h
    exact f_sl01Drawn_step4 x.1 x.2.1 x.2.2.1 x.2.2.2.1 x.2.2.2.2.1 x.2.2.2.2.2.1 x.2.2.2.2.2.2.1 x.2.2.2.2.2.2.2.1 x.2.2.2.2.2.2.2.2.1 x.2.2.2.2.2.2.2.2.2.1 x.2.2.2.2.2.2.2.2.2.2 r ((sem_cond h (fun h => (sem_cond h (fun h => (sem_bind h fun r4 h => (sem_cond h (fun h => sem_got h fun q => q) (fun h => sem_none h)))) (fun h => sem_got h fun q => q))) (fun h => (sem_bind h fun r5 h => (sem_cond h (fun h => f_sl01Drawn_go11 r _ (sem_mapk h fun _ q => q)) (fun h => (sem_cond h (fun h => f_sl01Drawn_go18 r _ (sem_mapk h fun _ q => q)) (fun h => sem_got h fun q => some_eq q))))))))) FU x
noncomputable def s_sl01Drawn (a0 : Int) (a1 : Int) (a2 : (List Int)) : Option (Int × Int × (Nat → Int) × Int × Int) := (Option.bind (s_sl00Src_pick 6 a0 a1 a2) fun r1 => (Option.bind (s_sl00Src_pick 6 (r1.2.1) (r1.2.2) a2) fun r2 => (Option.bind (s_sl00Src_pick 4 (r2.2.1) (r2.2.2) a2) fun r3 => (f_sl01Drawn_run4 ((IntKind.wrap .i64 (1 + r3.1)), 0, r3.2.1, r3.2.2, a2, 0, 0, zF, (IntKind.wrap .i8 (IntKind.wrap .i64 (1 + r1.1))), (IntKind.wrap .i8 (IntKind.wrap .i64 (1 + r2.1))), zF)))))
theorem f_sl01Drawn_top (a0 : Int) (a1 : Int) (a2 : (List Int)) (r : HOut) : ev f_sl01Drawn_X (lpc (cnOfH 2 f_sl01Drawn_LV) (f_sl01Drawn_L r)) f_sl01Drawn_c (K0H TT f_sl01Drawn_rv f_sl01Drawn_hp0) (enterH [.ptr 0 [] (0)] [(0, some ⟨true, .box (.rc [.sl 1, .v (.int .i64 a0), .v (.int .u64 a1)])⟩), (1, some ⟨false, .arr (.one (.i .u8)) a2⟩)]) = (Option.bind (s_sl00Src_pick 6 a0 a1 a2) fun r1 => (Option.bind (s_sl00Src_pick 6 (r1.2.1) (r1.2.2) a2) fun r2 => (Option.bind (s_sl00Src_pick 4 (r2.2.1) (r2.2.2) a2) fun r3 => (f_sl01Drawn_L r 4 (f_sl01Drawn_s4 (IntKind.wrap .i64 (1 + r3.1)) 0 r3.2.1 r3.2.2 a2 0 0 zF (IntKind.wrap .i8 (IntKind.wrap .i64 (1 + r1.1))) (IntKind.wrap .i8 (IntKind.wrap .i64 (1 + r2.1))) zF))))) := by kernel_rfl
theorem s_sl01Drawn_ok (a0 : Int) (a1 : Int) (a2 : (List Int)) (v : (Int × Int × (Nat → Int) × Int × Int)) (h : s_sl01Drawn a0 a1 a2 = some v) : (Option.bind (s_sl00Src_pick 6 a0 a1 a2) fun r1 => (Option.bind (s_sl00Src_pick 6 (r1.2.1) (r1.2.2) a2) fun r2 => (Option.bind (s_sl00Src_pick 4 (r2.2.1) (r2.2.2) a2) fun r3 => (f_sl01Drawn_L (l_sl01Drawn v) 4 (f_sl01Drawn_s4 (IntKind.wrap .i64 (1 + r3.1)) 0 r3.2.1 r3.2.2 a2 0 0 zF (IntKind.wrap .i8 (IntKind.wrap .i64 (1 + r1.1))) (IntKind.wrap .i8 (IntKind.wrap .i64 (1 + r2.1))) zF))))) = some (l_sl01Drawn v) := by
  unfold s_sl01Drawn at h
  have go : ∀ r, sem (fun v => r = l_sl01Drawn v) ((Option.bind (s_sl00Src_pick 6 a0 a1 a2) fun r1 => (Option.bind (s_sl00Src_pick 6 (r1.2.1) (r1.2.2) a2) fun r2 => (Option.bind (s_sl00Src_pick 4 (r2.2.1) (r2.2.2) a2) fun r3 => (f_sl01Drawn_run4 ((IntKind.wrap .i64 (1 + r3.1)), 0, r3.2.1, r3.2.2, a2, 0, 0, zF, (IntKind.wrap .i8 (IntKind.wrap .i64 (1 + r1.1))), (IntKind.wrap .i8 (IntKind.wrap .i64 (1 + r2.1))), zF)))))) → (Option.bind (s_sl00Src_pick 6 a0 a1 a2) fun r1 => (Option.bind (s_sl00Src_pick 6 (r1.2.1) (r1.2.2) a2) fun r2 => (Option.bind (s_sl00Src_pick 4 (r2.2.1) (r2.2.2) a2) fun r3 => (f_sl01Drawn_L r 4 (f_sl01Drawn_s4 (IntKind.wrap .i64 (1 + r3.1)) 0 r3.2.1 r3.2.2 a2 0 0 zF (IntKind.wrap .i8 (IntKind.wrap .i64 (1 + r1.1))) (IntKind.wrap .i8 (IntKind.wrap .i64 (1 + r2.1))) zF))))) = some r := fun r h => (sem_bind h fun r1 h => (sem_bind h fun r2 h => (sem_bind h fun r3 h => f_sl01Drawn_go4 r _ h)))
  exact go (l_sl01Drawn v) ⟨v, h, rfl⟩
noncomputable def h_sl01Drawn : HCon := fun xs hp => match xs, hp with
  | [.ptr 0 [] (0)], [(0, some ⟨true, .box (.rc [.sl 1, .v (.int .i64 a0), .v (.int .u64 a1)])⟩), (1, some ⟨false, .arr (.one (.i .u8)) a2⟩)] => ⟨(Int × Int × (Nat → Int) × Int × Int), s_sl01Drawn a0 a1 a2, l_sl01Drawn⟩
  | _, _ => HAns.fail
theorem f_sl01Drawn_sound : HSound Try.prog 84 h_sl01Drawn := by
  refine sound_goodH f_sl01Drawn_ctx f_sl01Drawn_LV 1 2 f_sl01Drawn_hp0 Try.func84 (c := f_sl01Drawn_c) (by kernel_rfl) (rv := f_sl01Drawn_rv) (by kernel_rfl) (by kernel_rfl) (by kernel_rfl) (by kernel_rfl) fun xs hp => ?_
  unfold h_sl01Drawn
  split
  · rename_i a0 a1 a2; intro v h; exact ⟨rfl, ⟨rfl, rfl⟩, (f_sl01Drawn_top a0 a1 a2 _).trans (s_sl01Drawn_ok a0 a1 a2 v h)⟩
  · intro v h; cases h
noncomputable def m_sl01Drawn : List A → List (Nat × Option Blk) → Bool
  | [.ptr 0 [] (0)], [(0, some ⟨true, .box (.rc [.sl 1, .v (.int .i64 a0), .v (.int .u64 a1)])⟩), (1, some ⟨false, .arr (.one (.i .u8)) a2⟩)] => true
  | _, _ => false

/-! ### function 12: loop.example/g01322/spec.P6Picture -/
noncomputable def f_sP6Picture_c : Code := match Try.f12.body with | some c => c | none => .skip
noncomputable def f_sP6Picture_X : Ctx := ⟨TT, phiOf [], noPsi, (xiOf [(83, h_sl00From), (84, h_sl01Drawn), (85, h_sl00Src_pick)])⟩
def f_sP6Picture_LV : List (Nat × Keep) := [(4, ([2, 3, 4, 5], [], []))]
def f_sP6Picture_rv : List ResultVar := [.cell 2 27]
noncomputable def f_sP6Picture_L (r : List A) : Nat → AS → Option (List A) := L f_sP6Picture_X (cnOf f_sP6Picture_LV) f_sP6Picture_c (K0 TT f_sP6Picture_rv) r
theorem f_sP6Picture_ctx : CtxOK Try.prog f_sP6Picture_X := ctx_ofH tab mix (l := []) trivial psi_no (xi_ok (l := [(83, h_sl00From), (84, h_sl01Drawn), (85, h_sl00Src_pick)]) ⟨⟨Try.call83, f_sl00From_sound⟩, ⟨Try.call84, f_sl01Drawn_sound⟩, ⟨Try.call85, f_sl00Src_pick_sound⟩, trivial⟩)
noncomputable def f_sP6Picture_s4 (x0 : Int) (x1 : Int) (x2 : Int) (x3 : (Nat → Int)) (x4 : Int) (x5 : Int) (x6 : (List Int)) (x7 : Int) (x8 : Int) (x9 : (Nat → Int)) : AS := ⟨[(2, .a (.ptr 0 [] (0))), (3, .a (.ptr 1 [] (0))), (4, .a (.ptr 3 [] (0))), (5, .a (.v (.int .i64 x0)))], [(0, some ⟨true, .box (.rc [.v (.int .i8 x1), .v (.int .i8 x2), .fa 144 .u8 x3])⟩), (1, some ⟨true, .box (.rc [.sl 2, .v (.int .i64 x4), .v (.int .u64 x5)])⟩), (2, some ⟨false, .arr (.one (.i .u8)) x6⟩), (3, some ⟨true, .box (.rc [.v (.int .i8 x7), .v (.int .i8 x8), .fa 144 .u8 x9])⟩)], 4⟩
noncomputable def l_sP6Picture (r : (Int × Int × (Nat → Int))) : List A := [.rc [.v (.int .i8 r.1), .v (.int .i8 r.2.1), .fa 144 .u8 r.2.2]]
theorem f_sP6Picture_step4 (x0 : Int) (x1 : Int) (x2 : Int) (x3 : (Nat → Int)) (x4 : Int) (x5 : Int) (x6 : (List Int)) (x7 : Int) (x8 : Int) (x9 : (Nat → Int)) (r : List A) (h : (cond (decide (x0 > 0)) (Option.bind (s_sl00Src_pick (IntKind.wrap .i64 x7) x4 x5 x6) fun r3 => (Option.bind (s_sl00Src_pick (IntKind.wrap .i64 x8) (r3.2.1) (r3.2.2) x6) fun r4 => (cond (inB (IntKind.wrap .i64 (r3.1 + (IntKind.wrap .i64 (12 * r4.1)))) 144) (f_sP6Picture_L r 4 (f_sP6Picture_s4 (IntKind.wrap .i64 (x0 - 1)) x1 x2 x3 r4.2.1 r4.2.2 x6 x7 x8 (upd x9 (Int.toNat (IntKind.wrap .i64 (r3.1 + (IntKind.wrap .i64 (12 * r4.1))))) 0))) none))) (some [.rc [.v (.int .i8 x7), .v (.int .i8 x8), .fa 144 .u8 x9]])) = some r) : f_sP6Picture_L r 4 (f_sP6Picture_s4 x0 x1 x2 x3 x4 x5 x6 x7 x8 x9) = some r :=
  step_of' h (by kernel_rfl)
noncomputable def f_sP6Picture_n4 (x0 : Int) (x1 : Int) (x2 : Int) (x3 : (Nat → Int)) (x4 : Int) (x5 : Int) (x6 : (List Int)) (x7 : Int) (x8 : Int) (x9 : (Nat → Int)) : Option ((Int × Int × Int × (Nat → Int) × Int × Int × (List Int) × Int × Int × (Nat → Int)) ⊕ (Int × Int × (Nat → Int))) := (cond (decide (x0 > 0)) (Option.bind (s_sl00Src_pick (IntKind.wrap .i64 x7) x4 x5 x6) fun r3 => (Option.bind (s_sl00Src_pick (IntKind.wrap .i64 x8) (r3.2.1) (r3.2.2) x6) fun r4 => (cond (inB (IntKind.wrap .i64 (r3.1 + (IntKind.wrap .i64 (12 * r4.1)))) 144) (some (Sum.inl ((IntKind.wrap .i64 (x0 - 1)), x1, x2, x3, r4.2.1, r4.2.2, x6, x7, x8, (upd x9 (Int.toNat (IntKind.wrap .i64 (r3.1 + (IntKind.wrap .i64 (12 * r4.1))))) 0)))) none))) (some (Sum.inr (x7, x8, x9))))
noncomputable def f_sP6Picture_run4 (x : (Int × Int × Int × (Nat → Int) × Int × Int × (List Int) × Int × Int × (Nat → Int))) : Option (Int × Int × (Nat → Int)) := iter (fun x => f_sP6Picture_n4 x.1 x.2.1 x.2.2.1 x.2.2.2.1 x.2.2.2.2.1 x.2.2.2.2.2.1 x.2.2.2.2.2.2.1 x.2.2.2.2.2.2.2.1 x.2.2.2.2.2.2.2.2.1 x.2.2.2.2.2.2.2.2.2) FU x
noncomputable def f_sP6Picture_G4 (r : List A) (x : (Int × Int × Int × (Nat → Int) × Int × Int × (List Int) × Int × Int × (Nat → Int))) : Prop := f_sP6Picture_L r 4 (f_sP6Picture_s4 x.1 x.2.1 x.2.2.1 x.2.2.2.1 x.2.2.2.2.1 x.2.2.2.2.2.1 x.2.2.2.2.2.2.1 x.2.2.2.2.2.2.2.1 x.2.2.2.2.2.2.2.2.1 x.2.2.2.2.2.2.2.2.2) = some r
noncomputable def f_sP6Picture_S4 (r : List A) : (Int × Int × (Nat → Int)) → Prop := fun v => r = l_sP6Picture v
theorem f_sP6Picture_go4 (r : List A) : ∀ x, sem (f_sP6Picture_S4 r) (f_sP6Picture_run4 x) → f_sP6Picture_G4 r x :=
  fun x => iter_sound (step := fun x => f_sP6Picture_n4 x.1 x.2.1 x.2.2.1 x.2.2.2.1 x.2.2.2.2.1 x.2.2.2.2.2.1 x.2.2.2.2.2.2.1 x.2.2.2.2.2.2.2.1 x.2.2.2.2.2.2.2.2.1 x.2.2.2.2.2.2.2.2.2) (fun x h => by
    unfold f_sP6Picture_n4 at h
    exact f_sP6Picture_step4 x.1 x.2.1 x.2.2.1 x.2.2.2.1 x.2.2.2.2.1 x.2.2.2.2.2.1 x.2.2.2.2.2.2.1 x.2.2.2.2.2.2.2.1 x.2.2.2.2.2.2.2.2.1 x.2.2.2.2.2.2.2.2.2 r ((sem_cond h (fun h => (sem_bind h fun r3 h => (sem_bind h fun r4 h => (sem_cond h (fun h => sem_got h fun q => q) (fun h => sem_none h))))) (fun h => sem_got h fun q => some_eq q)))) FU x
noncomputable def s_sP6Picture (a0 : (List Int)) : Option (Int × Int × (Nat → Int)) := (Option.bind (s_sl01Drawn (s_sl00From a0).1 (s_sl00From a0).2 a0) fun r1 => (Option.bind (s_sl00Src_pick 8 (r1.2.2.2.1) (r1.2.2.2.2) a0) fun r2 => (f_sP6Picture_run4 (r2.1, 0, 0, zF, r2.2.1, r2.2.2, a0, r1.1, r1.2.1, r1.2.2.1))))
theorem f_sP6Picture_top (a0 : (List Int)) (r : List A) : ev f_sP6Picture_X (lpc (cnOf f_sP6Picture_LV) (f_sP6Picture_L r)) f_sP6Picture_c (K0 TT f_sP6Picture_rv) (enter [.lst (.one (.i .u8)) a0]) = (Option.bind (s_sl01Drawn (s_sl00From a0).1 (s_sl00From a0).2 a0) fun r1 => (Option.bind (s_sl00Src_pick 8 (r1.2.2.2.1) (r1.2.2.2.2) a0) fun r2 => (f_sP6Picture_L r 4 (f_sP6Picture_s4 r2.1 0 0 zF r2.2.1 r2.2.2 a0 r1.1 r1.2.1 r1.2.2.1)))) := by kernel_rfl
theorem s_sP6Picture_ok (a0 : (List Int)) (v : (Int × Int × (Nat → Int))) (h : s_sP6Picture a0 = some v) : (Option.bind (s_sl01Drawn (s_sl00From a0).1 (s_sl00From a0).2 a0) fun r1 => (Option.bind (s_sl00Src_pick 8 (r1.2.2.2.1) (r1.2.2.2.2) a0) fun r2 => (f_sP6Picture_L (l_sP6Picture v) 4 (f_sP6Picture_s4 r2.1 0 0 zF r2.2.1 r2.2.2 a0 r1.1 r1.2.1 r1.2.2.1)))) = some (l_sP6Picture v) := by
  unfold s_sP6Picture at h
  have go : ∀ r, sem (fun v => r = l_sP6Picture v) ((Option.bind (s_sl01Drawn (s_sl00From a0).1 (s_sl00From a0).2 a0) fun r1 => (Option.bind (s_sl00Src_pick 8 (r1.2.2.2.1) (r1.2.2.2.2) a0) fun r2 => (f_sP6Picture_run4 (r2.1, 0, 0, zF, r2.2.1, r2.2.2, a0, r1.1, r1.2.1, r1.2.2.1))))) → (Option.bind (s_sl01Drawn (s_sl00From a0).1 (s_sl00From a0).2 a0) fun r1 => (Option.bind (s_sl00Src_pick 8 (r1.2.2.2.1) (r1.2.2.2.2) a0) fun r2 => (f_sP6Picture_L r 4 (f_sP6Picture_s4 r2.1 0 0 zF r2.2.1 r2.2.2 a0 r1.1 r1.2.1 r1.2.2.1)))) = some r := fun r h => (sem_bind h fun r1 h => (sem_bind h fun r2 h => f_sP6Picture_go4 r _ h))
  exact go (l_sP6Picture v) ⟨v, h, rfl⟩
noncomputable def c_sP6Picture : List A → ACall
  | [.lst (.one (.i .u8)) a0] => ⟨(Int × Int × (Nat → Int)), s_sP6Picture a0, fun r => .one (.rc [.v (.int .i8 r.1), .v (.int .i8 r.2.1), .fa 144 .u8 r.2.2])⟩
  | _ => ACall.fail
theorem f_sP6Picture_sound : Sound Try.prog 12 c_sP6Picture := by
  refine sound_good f_sP6Picture_ctx f_sP6Picture_LV 1 Try.func12 (c := f_sP6Picture_c) (by kernel_rfl) (rv := f_sP6Picture_rv) (by kernel_rfl) (by kernel_rfl) (by kernel_rfl) (by kernel_rfl) fun rs => ?_
  unfold c_sP6Picture
  split
  · rename_i a0; intro v h; exact ⟨rfl, l_sP6Picture v, rfl, (f_sP6Picture_top a0 _).trans (s_sP6Picture_ok a0 v h)⟩
  · intro v h; cases h

/-! ### function 56: loop.example/g01322/spec.P6Is -/
noncomputable def f_sP6Is_c : Code := match Try.f56.body with | some c => c | none => .skip
noncomputable def f_sP6Is_X : Ctx := ⟨TT, phiOf [(94, c_sl01Is)], noPsi, noXi⟩
def f_sP6Is_LV : List (Nat × Keep) := []
def f_sP6Is_rv : List ResultVar := [.tmp 4]
noncomputable def f_sP6Is_L (r : List A) : Nat → AS → Option (List A) := L f_sP6Is_X (cnOf f_sP6Is_LV) f_sP6Is_c (K0 TT f_sP6Is_rv) r
theorem f_sP6Is_ctx : CtxOK Try.prog f_sP6Is_X := ctx_of tab mix ⟨⟨Try.call94, f_sl01Is_sound⟩, trivial⟩
noncomputable def s_sP6Is (a0 : Int) (a1 : Int) (a2 : (Nat → Int)) (a3 : Int) : Bool := (s_sl01Is a0 a1 a2 a3)
theorem f_sP6Is_top (a0 : Int) (a1 : Int) (a2 : (Nat → Int)) (a3 : Int) (r : List A) : ev f_sP6Is_X (lpc (cnOf f_sP6Is_LV) (f_sP6Is_L r)) f_sP6Is_c (K0 TT f_sP6Is_rv) (enter [.rc [.v (.int .i8 a0), .v (.int .i8 a1), .fa 144 .u8 a2], .v (.int .i64 a3)]) = (some [.v (.bool (s_sl01Is a0 a1 a2 a3))]) := by kernel_rfl
noncomputable def l_sP6Is (r : Bool) : List A := [.v (.bool r)]
theorem s_sP6Is_ok (a0 : Int) (a1 : Int) (a2 : (Nat → Int)) (a3 : Int) : (some [.v (.bool (s_sl01Is a0 a1 a2 a3))]) = some (l_sP6Is (s_sP6Is a0 a1 a2 a3)) := by
  unfold s_sP6Is
  exact rfl
noncomputable def c_sP6Is : List A → ACall
  | [.rc [.v (.int .i8 a0), .v (.int .i8 a1), .fa 144 .u8 a2], .v (.int .i64 a3)] => ⟨Bool, some (s_sP6Is a0 a1 a2 a3), fun r => .one (.v (.bool r))⟩
  | _ => ACall.fail
theorem f_sP6Is_sound : Sound Try.prog 56 c_sP6Is := by
  refine sound_good f_sP6Is_ctx f_sP6Is_LV 2 Try.func56 (c := f_sP6Is_c) (by kernel_rfl) (rv := f_sP6Is_rv) (by kernel_rfl) (by kernel_rfl) (by kernel_rfl) (by kernel_rfl) fun rs => ?_
  unfold c_sP6Is
  split
  · rename_i a0 a1 a2 a3; intro v h; cases h; exact ⟨rfl, l_sP6Is (s_sP6Is a0 a1 a2 a3), rfl, (f_sP6Is_top a0 a1 a2 a3 _).trans (s_sP6Is_ok a0 a1 a2 a3)⟩
  · intro v h; cases h
end Go.RR
