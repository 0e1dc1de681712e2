/- Pictures and jobs that are drawn. -/
import Derived.Test.YtbmaolhjplapoaaGreatDoorVh
set_option linter.unusedVariables false
set_option linter.unusedSimpArgs false
set_option linter.unusedSectionVars false
set_option maxRecDepth 100000
namespace Go.RR
open Go Go.Proofs
noncomputable def f_sl00From_c := codeC Tryz.f71
noncomputable def f_sl00From_X : Ctx := ⟨TT, phiOf [], noPsi, noXi⟩
def f_sl00From_LV : List (Nat × Keep) := []
def f_sl00From_rv : List ResultVar := [.tmp 2]
noncomputable def f_sl00From_hp0 : List (Nat × Option Blk) := [(0, some ⟨false, .arr (.one (.i .u8)) []⟩)]
theorem f_sl00From_ctx : CtxOK Tryz.prog f_sl00From_X := ctx_of tab mix trivial
noncomputable def s_sl00From (a0 : List Int) : (Int × Int) := (0, 0)
theorem f_sl00From_top (a0 : List Int) (r : HOut) : TqH 1 f_sl00From_hp0 f_sl00From_X f_sl00From_LV f_sl00From_c f_sl00From_rv r [.sl 0] [(0, some ⟨false, .arr (.one (.i .u8)) a0⟩)] = (some ⟨.a (.ptr 1 [] (0)), [(1, some ⟨true, .box (.rc [.sl 0, .v (.int .i64 0), .v (.int .u64 0)])⟩)], 2⟩) := by kernel_rfl
noncomputable def l_sl00From (r : (Int × Int)) : HOut := ⟨.a (.ptr 1 [] (0)), [(1, some ⟨true, .box (.rc [.sl 0, .v (.int .i64 r.1), .v (.int .u64 r.2)])⟩)], 2⟩
theorem s_sl00From_ok (a0 : List Int) : (some ⟨.a (.ptr 1 [] (0)), [(1, some ⟨true, .box (.rc [.sl 0, .v (.int .i64 0), .v (.int .u64 0)])⟩)], 2⟩) = some (l_sl00From (s_sl00From a0)) := by
 unfold s_sl00From
 exact rfl
noncomputable def h_sl00From : HCon := fun xs hp => match xs, hp with
 | [.sl 0], [(0, some ⟨false, .arr (.one (.i .u8)) a0⟩)] => .one (Int × Int) (some (s_sl00From a0)) l_sl00From
 | _, _ => HAns.fail
theorem f_sl00From_sound : HSound Tryz.prog 71 h_sl00From := by
 refine goodH f_sl00From_ctx f_sl00From_LV f_sl00From_c f_sl00From_rv 1 1 f_sl00From_hp0 Tryz.func71 fun xs hp => ?_
 unfold h_sl00From
 split
 ·rename_i a0; intro v h; cases h; exact ⟨rfl, ⟨rfl, rfl⟩, (f_sl00From_top a0 _).trans (s_sl00From_ok a0)⟩
 ·intro v h; cases h
noncomputable def f_sl00Src_next_c := codeC Tryz.f166
noncomputable def f_sl00Src_next_X : Ctx := ⟨TT, phiOf [], noPsi, noXi⟩
def f_sl00Src_next_LV : List (Nat × Keep) := []
def f_sl00Src_next_rv : List ResultVar := [.tmp 2]
noncomputable def f_sl00Src_next_hp0 : List (Nat × Option Blk) := [(0, some ⟨true, .box (.rc [.sl 1, .v (.bool false), .v (.bool false)])⟩), (1, some ⟨false, .arr (.one (.i .u8)) []⟩)]
theorem f_sl00Src_next_ctx : CtxOK Tryz.prog f_sl00Src_next_X := ctx_of tab mix trivial
abbrev A_sl00Src_next := (Int × Int × Int)
noncomputable def l_sl00Src_next (r : (Int × Int × Int)) : HOut := ⟨.a (.v (.int .i64 r.1)), [(0, some ⟨true, .box (.rc [.sl 1, .v (.int .i64 r.2.1), .v (.int .u64 r.2.2)])⟩)], 2⟩
section
variable {R R' : Type} {S : R → Prop} {r : R'} (E : A_sl00Src_next → Option R) (E' : A_sl00Src_next → Option R')
noncomputable def t_sl00Src_next (a0 a1 : Int) (a2 : List Int) : Option R := (cond (decide (a0 < ((List.length a2 : Nat) : Int))) (cond (inB a0 (List.length a2)) (cond (decide ((IntKind.wrap .i64 (a0 + 1)) ≤ ((List.length a2 : Nat) : Int))) (E ((IntKind.wrap .i64 (List.getD a2 (Int.toNat a0) 0)), (IntKind.wrap .i64 (a0 + 1)), (IntKind.wrap .u64 ((IntKind.wrap .u64 ((IntKind.wrap .u64 (a1 * 6364136223846793005)) + (IntKind.wrap .u64 (IntKind.wrap .i64 (List.getD a2 (Int.toNat a0) 0))))) + 1442695040888963407)))) (cond (decide (40 < 0)) none (E ((IntKind.wrap .i64 (bAnd .u64 (bShr .u64 (IntKind.wrap .u64 ((IntKind.wrap .u64 ((IntKind.wrap .u64 (a1 * 6364136223846793005)) + (IntKind.wrap .u64 (IntKind.wrap .i64 (List.getD a2 (Int.toNat a0) 0))))) + 1442695040888963407)) 40) 255)), (IntKind.wrap .i64 (a0 + 1)), (IntKind.wrap .u64 ((IntKind.wrap .u64 ((IntKind.wrap .u64 (a1 * 6364136223846793005)) + (IntKind.wrap .u64 (IntKind.wrap .i64 (List.getD a2 (Int.toNat a0) 0))))) + 1442695040888963407)))))) none) (cond (decide ((IntKind.wrap .i64 (a0 + 1)) ≤ ((List.length a2 : Nat) : Int))) (E (0, (IntKind.wrap .i64 (a0 + 1)), (IntKind.wrap .u64 ((IntKind.wrap .u64 ((IntKind.wrap .u64 (a1 * 6364136223846793005)) + (IntKind.wrap .u64 0))) + 1442695040888963407)))) (cond (decide (40 < 0)) none (E ((IntKind.wrap .i64 (bAnd .u64 (bShr .u64 (IntKind.wrap .u64 ((IntKind.wrap .u64 ((IntKind.wrap .u64 (a1 * 6364136223846793005)) + (IntKind.wrap .u64 0))) + 1442695040888963407)) 40) 255)), (IntKind.wrap .i64 (a0 + 1)), (IntKind.wrap .u64 ((IntKind.wrap .u64 ((IntKind.wrap .u64 (a1 * 6364136223846793005)) + (IntKind.wrap .u64 0))) + 1442695040888963407)))))))
theorem t_sl00Src_next_sem (a0 a1 : Int) (a2 : List Int) (h : sem S (t_sl00Src_next E a0 a1 a2)) (hE : Leads S r E E') : t_sl00Src_next E' a0 a1 a2 = some r := by
 revert h
 unfold t_sl00Src_next
 repeat' first | refine sem_condK ?_ ?_ | refine sem_bindK fun _ => ?_ | exact sem_noneK | exact hE _ | refine sem_bind2K (fun _ => ?_) (fun _ => ?_)
end
noncomputable def s_sl00Src_next (a0 a1 : Int) (a2 : List Int) : Option (Int × Int × Int) := t_sl00Src_next some a0 a1 a2
theorem f_sl00Src_next_top (a0 a1 : Int) (a2 : List Int) (r : HOut) : TqH 2 f_sl00Src_next_hp0 f_sl00Src_next_X f_sl00Src_next_LV f_sl00Src_next_c f_sl00Src_next_rv r [.ptr 0 [] (0)] [(0, some ⟨true, .box (.rc [.sl 1, .v (.int .i64 a0), .v (.int .u64 a1)])⟩), (1, some ⟨false, .arr (.one (.i .u8)) a2⟩)] = t_sl00Src_next (fun v => some (l_sl00Src_next v)) a0 a1 a2 := by kernel_rfl
theorem s_sl00Src_next_ok (a0 a1 : Int) (a2 : List Int) (v : (Int × Int × Int)) (h : s_sl00Src_next a0 a1 a2 = some v) : t_sl00Src_next (fun v => some (l_sl00Src_next v)) a0 a1 a2 = some (l_sl00Src_next v) :=
 t_sl00Src_next_sem _ _ a0 a1 a2 (show sem (fun w => l_sl00Src_next v = l_sl00Src_next w) (s_sl00Src_next a0 a1 a2) from ⟨v, h, rfl⟩) (fun _ h => sem_got h fun q => some_eq q)
noncomputable def h_sl00Src_next : HCon := fun xs hp => match xs, hp with
 | [.ptr 0 [] (0)], [(0, some ⟨true, .box (.rc [.sl 1, .v (.int .i64 a0), .v (.int .u64 a1)])⟩), (1, some ⟨false, .arr (.one (.i .u8)) a2⟩)] => .one (Int × Int × Int) (s_sl00Src_next a0 a1 a2) l_sl00Src_next
 | _, _ => HAns.fail
theorem f_sl00Src_next_sound : HSound Tryz.prog 166 h_sl00Src_next := by
 refine goodH f_sl00Src_next_ctx f_sl00Src_next_LV f_sl00Src_next_c f_sl00Src_next_rv 1 2 f_sl00Src_next_hp0 Tryz.func166 fun xs hp => ?_
 unfold h_sl00Src_next
 split
 ·rename_i a0 a1 a2; intro v h; exact ⟨rfl, ⟨rfl, rfl⟩, (f_sl00Src_next_top a0 a1 a2 _).trans (s_sl00Src_next_ok a0 a1 a2 v h)⟩
 ·intro v h; cases h
noncomputable def f_sl00Src_pick_c := codeC Tryz.f105
noncomputable def f_sl00Src_pick_X : Ctx := ⟨TT, phiOf [], noPsi, (xiOf [(166, h_sl00Src_next)])⟩
def f_sl00Src_pick_LV : List (Nat × Keep) := []
def f_sl00Src_pick_rv : List ResultVar := [.tmp 4]
noncomputable def f_sl00Src_pick_hp0 : List (Nat × Option Blk) := [(0, some ⟨true, .box (.rc [.sl 1, .v (.bool false), .v (.bool false)])⟩), (1, some ⟨false, .arr (.one (.i .u8)) []⟩)]
theorem f_sl00Src_pick_ctx : CtxOK Tryz.prog f_sl00Src_pick_X := ctx_ofH tab mix (l := []) trivial psi_no (xi_ok (l := [(166, h_sl00Src_next)]) ⟨⟨Tryz.call166, f_sl00Src_next_sound⟩, trivial⟩)
abbrev A_sl00Src_pick := (Int × Int × Int)
noncomputable def l_sl00Src_pick (r : (Int × Int × Int)) : HOut := ⟨.a (.v (.int .i64 r.1)), [(0, some ⟨true, .box (.rc [.sl 1, .v (.int .i64 r.2.1), .v (.int .u64 r.2.2)])⟩)], 2⟩
section
variable {R R' : Type} {S : R → Prop} {r : R'} (E : A_sl00Src_pick → Option R) (E' : A_sl00Src_pick → Option R')
noncomputable def t_sl00Src_pick (a0 a1 a2 : Int) (a3 : List Int) : Option R := (cond (decide (a0 ≤ 1)) (E (0, a1, a2)) (Option.bind (s_sl00Src_next a1 a2 a3) fun r1 => (cond (decide (a0 > 200)) (Option.bind (s_sl00Src_next (r1.2.1) (r1.2.2) a3) fun r2 => (cond (decide (a0 = 0)) none (E ((Int.tmod (IntKind.wrap .i64 ((IntKind.wrap .i64 (r1.1 * 256)) + r2.1)) a0), (r2.2.1), (r2.2.2))))) (cond (decide (a0 = 0)) none (E ((Int.tmod r1.1 a0), (r1.2.1), (r1.2.2)))))))
theorem t_sl00Src_pick_sem (a0 a1 a2 : Int) (a3 : List Int) (h : sem S (t_sl00Src_pick E a0 a1 a2 a3)) (hE : Leads S r E E') : t_sl00Src_pick E' a0 a1 a2 a3 = some r := by
 revert h
 unfold t_sl00Src_pick
 repeat' first | refine sem_condK ?_ ?_ | refine sem_bindK fun _ => ?_ | exact sem_noneK | exact hE _ | refine sem_bind2K (fun _ => ?_) (fun _ => ?_)
end
noncomputable def s_sl00Src_pick (a0 a1 a2 : Int) (a3 : List Int) : Option (Int × Int × Int) := t_sl00Src_pick some a0 a1 a2 a3
theorem f_sl00Src_pick_top (a0 a1 a2 : Int) (a3 : List Int) (r : HOut) : TqH 2 f_sl00Src_pick_hp0 f_sl00Src_pick_X f_sl00Src_pick_LV f_sl00Src_pick_c f_sl00Src_pick_rv r [.ptr 0 [] (0), .v (.int .i64 a0)] [(0, some ⟨true, .box (.rc [.sl 1, .v (.int .i64 a1), .v (.int .u64 a2)])⟩), (1, some ⟨false, .arr (.one (.i .u8)) a3⟩)] = t_sl00Src_pick (fun v => some (l_sl00Src_pick v)) a0 a1 a2 a3 := by kernel_rfl
theorem s_sl00Src_pick_ok (a0 a1 a2 : Int) (a3 : List Int) (v : (Int × Int × Int)) (h : s_sl00Src_pick a0 a1 a2 a3 = some v) : t_sl00Src_pick (fun v => some (l_sl00Src_pick v)) a0 a1 a2 a3 = some (l_sl00Src_pick v) :=
 t_sl00Src_pick_sem _ _ a0 a1 a2 a3 (show sem (fun w => l_sl00Src_pick v = l_sl00Src_pick w) (s_sl00Src_pick a0 a1 a2 a3) from ⟨v, h, rfl⟩) (fun _ h => sem_got h fun q => some_eq q)
noncomputable def h_sl00Src_pick : HCon := fun xs hp => match xs, hp with
 | [.ptr 0 [] (0), .v (.int .i64 a0)], [(0, some ⟨true, .box (.rc [.sl 1, .v (.int .i64 a1), .v (.int .u64 a2)])⟩), (1, some ⟨false, .arr (.one (.i .u8)) a3⟩)] => .one (Int × Int × Int) (s_sl00Src_pick a0 a1 a2 a3) l_sl00Src_pick
 | _, _ => HAns.fail
theorem f_sl00Src_pick_sound : HSound Tryz.prog 105 h_sl00Src_pick := by
 refine goodH f_sl00Src_pick_ctx f_sl00Src_pick_LV f_sl00Src_pick_c f_sl00Src_pick_rv 2 2 f_sl00Src_pick_hp0 Tryz.func105 fun xs hp => ?_
 unfold h_sl00Src_pick
 split
 ·rename_i a0 a1 a2 a3; intro v h; exact ⟨rfl, ⟨rfl, rfl⟩, (f_sl00Src_pick_top a0 a1 a2 a3 _).trans (s_sl00Src_pick_ok a0 a1 a2 a3 v h)⟩
 ·intro v h; cases h
noncomputable def f_sl00Src_one_c := codeC Tryz.f177
noncomputable def f_sl00Src_one_X : Ctx := ⟨TT, phiOf [], noPsi, (xiOf [(105, h_sl00Src_pick)])⟩
def f_sl00Src_one_LV : List (Nat × Keep) := []
def f_sl00Src_one_rv : List ResultVar := [.tmp 4]
noncomputable def f_sl00Src_one_hp0 : List (Nat × Option Blk) := [(0, some ⟨true, .box (.rc [.sl 1, .v (.bool false), .v (.bool false)])⟩), (1, some ⟨false, .arr (.one (.i .u8)) []⟩)]
theorem f_sl00Src_one_ctx : CtxOK Tryz.prog f_sl00Src_one_X := ctx_ofH tab mix (l := []) trivial psi_no (xi_ok (l := [(105, h_sl00Src_pick)]) ⟨⟨Tryz.call105, f_sl00Src_pick_sound⟩, trivial⟩)
noncomputable def s_sl00Src_one (a0 a1 a2 : Int) (a3 : List Int) : Option (Bool × Int × Int) := (Option.bind (s_sl00Src_pick a0 a1 a2 a3) fun r1 => (some ((r1.1 == 0), (r1.2.1), (r1.2.2))))
theorem f_sl00Src_one_top (a0 a1 a2 : Int) (a3 : List Int) (r : HOut) : TqH 2 f_sl00Src_one_hp0 f_sl00Src_one_X f_sl00Src_one_LV f_sl00Src_one_c f_sl00Src_one_rv r [.ptr 0 [] (0), .v (.int .i64 a0)] [(0, some ⟨true, .box (.rc [.sl 1, .v (.int .i64 a1), .v (.int .u64 a2)])⟩), (1, some ⟨false, .arr (.one (.i .u8)) a3⟩)] = (Option.bind (s_sl00Src_pick a0 a1 a2 a3) fun r1 => (some ⟨.a (.v (.bool (r1.1 == 0))), [(0, some ⟨true, .box (.rc [.sl 1, .v (.int .i64 r1.2.1), .v (.int .u64 r1.2.2)])⟩)], 2⟩)) := by kernel_rfl
noncomputable def l_sl00Src_one (r : (Bool × Int × Int)) : HOut := ⟨.a (.v (.bool r.1)), [(0, some ⟨true, .box (.rc [.sl 1, .v (.int .i64 r.2.1), .v (.int .u64 r.2.2)])⟩)], 2⟩
theorem s_sl00Src_one_ok (a0 a1 a2 : Int) (a3 : List Int) (v : (Bool × Int × Int)) (h : s_sl00Src_one a0 a1 a2 a3 = some v) : (Option.bind (s_sl00Src_pick a0 a1 a2 a3) fun r1 => (some ⟨.a (.v (.bool (r1.1 == 0))), [(0, some ⟨true, .box (.rc [.sl 1, .v (.int .i64 r1.2.1), .v (.int .u64 r1.2.2)])⟩)], 2⟩)) = some (l_sl00Src_one v) := by
 refine Eq.trans (b := Option.map l_sl00Src_one (s_sl00Src_one a0 a1 a2 a3)) ?_ (by rw [h]; rfl)
 unfold s_sl00Src_one
 exact (bind_app fun _ => rfl)
noncomputable def h_sl00Src_one : HCon := fun xs hp => match xs, hp with
 | [.ptr 0 [] (0), .v (.int .i64 a0)], [(0, some ⟨true, .box (.rc [.sl 1, .v (.int .i64 a1), .v (.int .u64 a2)])⟩), (1, some ⟨false, .arr (.one (.i .u8)) a3⟩)] => .one (Bool × Int × Int) (s_sl00Src_one a0 a1 a2 a3) l_sl00Src_one
 | _, _ => HAns.fail
theorem f_sl00Src_one_sound : HSound Tryz.prog 177 h_sl00Src_one := by
 refine goodH f_sl00Src_one_ctx f_sl00Src_one_LV f_sl00Src_one_c f_sl00Src_one_rv 2 2 f_sl00Src_one_hp0 Tryz.func177 fun xs hp => ?_
 unfold h_sl00Src_one
 split
 ·rename_i a0 a1 a2 a3; intro v h; exact ⟨rfl, ⟨rfl, rfl⟩, (f_sl00Src_one_top a0 a1 a2 a3 _).trans (s_sl00Src_one_ok a0 a1 a2 a3 v h)⟩
 ·intro v h; cases h
noncomputable def f_sl07Drawn_c := codeC Tryz.f127
noncomputable def f_sl07Drawn_X : Ctx := ⟨TT, phiOf [(130, c_q2a)], noPsi, (xiOf [(105, h_sl00Src_pick), (177, h_sl00Src_one)])⟩
def f_sl07Drawn_LV : List (Nat × Keep) := [(3, ([0, 5, 6], [], [])), (7, ([0, 5, 6, 7, 8], [], []))]
def f_sl07Drawn_rv : List ResultVar := [.tmp 4]
noncomputable def f_sl07Drawn_hp0 : List (Nat × Option Blk) := [(0, some ⟨true, .box (.rc [.sl 1, .v (.bool false), .v (.bool false)])⟩), (1, some ⟨false, .arr (.one (.i .u8)) []⟩)]
noncomputable def f_sl07Drawn_L := LqH 2 f_sl07Drawn_hp0 f_sl07Drawn_X f_sl07Drawn_LV f_sl07Drawn_c f_sl07Drawn_rv
theorem f_sl07Drawn_ctx : CtxOK Tryz.prog f_sl07Drawn_X := ctx_ofH tab mix (l := [(130, c_q2a)]) ⟨⟨Tryz.call130, f_q2a_sound⟩, trivial⟩ psi_no (xi_ok (l := [(105, h_sl00Src_pick), (177, h_sl00Src_one)]) ⟨⟨Tryz.call105, f_sl00Src_pick_sound⟩, ⟨Tryz.call177, f_sl00Src_one_sound⟩, trivial⟩)
noncomputable def f_sl07Drawn_s3 (x0 x1 x2 : Int) (x3 : List Int) (x4 : List (Int × Int)) : AS := ⟨[(0, .a (.ptr 0 [] (0))), (5, .a (.sl 2)), (6, .a (.v (.int .i64 x0)))], [(0, some ⟨true, .box (.rc [.sl 1, .v (.int .i64 x1), .v (.int .u64 x2)])⟩), (1, some ⟨false, .arr (.one (.i .u8)) x3⟩), (2, some ⟨true, .arr (.st [(.i .i8), (.i .u16)]) x4⟩)], 3⟩
noncomputable def f_sl07Drawn_s7 (x0 x1 x2 x3 : Int) (x4 : List Int) (x5 : List (Int × Int)) (x6 x7 : Int) : AS := ⟨[(0, .a (.ptr 0 [] (0))), (5, .a (.sl 2)), (6, .a (.v (.int .i64 x0))), (7, .a (.ptr 3 [] (0))), (8, .a (.v (.int .i64 x1)))], [(0, some ⟨true, .box (.rc [.sl 1, .v (.int .i64 x2), .v (.int .u64 x3)])⟩), (1, some ⟨false, .arr (.one (.i .u8)) x4⟩), (2, some ⟨true, .arr (.st [(.i .i8), (.i .u16)]) x5⟩), (3, some ⟨true, .box (.rc [.v (.int .i8 x6), .v (.int .u16 x7)])⟩)], 4⟩
abbrev A_sl07Drawn := (Int × Int × (List (Int × Int)))
noncomputable def l_sl07Drawn (r : (Int × Int × (List (Int × Int)))) : HOut := ⟨.a (.sl 2), [(0, some ⟨true, .box (.rc [.sl 1, .v (.int .i64 r.1), .v (.int .u64 r.2.1)])⟩), (2, some ⟨true, .arr (.st [(.i .i8), (.i .u16)]) r.2.2⟩)], 3⟩
abbrev Z_sl07Drawn_3 := (Int × Int × Int × (List Int) × (List (Int × Int)))
abbrev Y_sl07Drawn_3 := A_sl07Drawn
abbrev Z_sl07Drawn_7 := (Int × Int × Int × Int × (List Int) × (List (Int × Int)) × Int × Int)
abbrev Y_sl07Drawn_7 := (Z_sl07Drawn_3 ⊕ Y_sl07Drawn_3)
section
variable {R R' : Type} {S : R → Prop} {r : R'} (E : A_sl07Drawn → Option R) (E' : A_sl07Drawn → Option R') (G3 : Z_sl07Drawn_3 → Option R) (G3' : Z_sl07Drawn_3 → Option R') (G7 : Z_sl07Drawn_7 → Option R) (G7' : Z_sl07Drawn_7 → Option R')
noncomputable def t_sl07Drawn_3 (x0 x1 x2 : Int) (x3 : List Int) (x4 : List (Int × Int)) : Option R := (cond (decide (x0 > 0)) (Option.bind (s_sl00Src_pick 6 x1 x2 x3) fun r2 => (G7 (x0, 0, r2.2.1, r2.2.2, x3, x4, (IntKind.wrap .i8 (IntKind.wrap .i64 (1 + r2.1))), 0))) (cond (decide (((List.length x4 : Nat) : Int) > 1)) (Option.bind (s_sl00Src_one 3 x1 x2 x3) fun r3 => (cond r3.1 (Option.bind (s_sl00Src_pick ((List.length x4 : Nat) : Int) (r3.2.1) (r3.2.2) x3) fun r4 => (cond (fits ((List.length ([] : List (Int × Int)) + List.length (x4 : List (Int × Int))) * 4)) (cond (inB r4.1 (List.length ([] ++ x4))) (Option.bind (s_sl00Src_pick ((List.length x4 : Nat) : Int) (r4.2.1) (r4.2.2) x3) fun r5 => (cond (decide ((IntKind.wrap .u64 r5.1) < 0)) none (cond (inB r4.1 (List.length ([] ++ x4))) (Option.bind (s_q2a (List.set ([] ++ x4) (Int.toNat r4.1) ((List.getD ([] ++ x4) (Int.toNat r4.1) ((0, 0) : (Int × Int))).1, (bXor .u16 (List.getD ([] ++ x4) (Int.toNat r4.1) ((0, 0) : (Int × Int))).2 (bShl .u16 1 (IntKind.wrap .u64 r5.1)))))) fun r6 => (cond r6 (E ((r5.2.1), (r5.2.2), (List.set ([] ++ x4) (Int.toNat r4.1) ((List.getD ([] ++ x4) (Int.toNat r4.1) ((0, 0) : (Int × Int))).1, (bXor .u16 (List.getD ([] ++ x4) (Int.toNat r4.1) ((0, 0) : (Int × Int))).2 (bShl .u16 1 (IntKind.wrap .u64 r5.1))))))) (E ((r5.2.1), (r5.2.2), x4)))) none))) none) none)) (E ((r3.2.1), (r3.2.2), x4)))) (E (x1, x2, x4))))
theorem t_sl07Drawn_3_sem (x0 x1 x2 : Int) (x3 : List Int) (x4 : List (Int × Int)) (h : sem S (t_sl07Drawn_3 E G7 x0 x1 x2 x3 x4)) (hE : Leads S r E E') (h7 : Leads S r G7 G7') : t_sl07Drawn_3 E' G7' x0 x1 x2 x3 x4 = some r := by
 revert h
 unfold t_sl07Drawn_3
 repeat' first | refine sem_condK ?_ ?_ | refine sem_bindK fun _ => ?_ | exact sem_noneK | exact hE _ | exact h7 _ | refine sem_bind2K (fun _ => ?_) (fun _ => ?_)
noncomputable def t_sl07Drawn_7 (x0 x1 x2 x3 : Int) (x4 : List Int) (x5 : List (Int × Int)) (x6 x7 : Int) : Option R := (cond (decide (x1 < ((List.length x5 : Nat) : Int))) (Option.bind (s_sl00Src_one 4 x2 x3 x4) fun r7 => (cond r7.1 (cond (decide ((IntKind.wrap .u64 x1) < 0)) none (G7 (x0, (IntKind.wrap .i64 (x1 + 1)), r7.2.1, r7.2.2, x4, x5, x6, (bOr .u16 x7 (bShl .u16 1 (IntKind.wrap .u64 x1)))))) (G7 (x0, (IntKind.wrap .i64 (x1 + 1)), r7.2.1, r7.2.2, x4, x5, x6, x7)))) (cond (fits ((List.length (x5 : List (Int × Int)) + List.length ([(x6, x7)] : List (Int × Int))) * 4)) (G3 ((IntKind.wrap .i64 (x0 - 1)), x2, x3, x4, (x5 ++ [(x6, x7)]))) none))
theorem t_sl07Drawn_7_sem (x0 x1 x2 x3 : Int) (x4 : List Int) (x5 : List (Int × Int)) (x6 x7 : Int) (h : sem S (t_sl07Drawn_7 G3 G7 x0 x1 x2 x3 x4 x5 x6 x7)) (h3 : Leads S r G3 G3') (h7 : Leads S r G7 G7') : t_sl07Drawn_7 G3' G7' x0 x1 x2 x3 x4 x5 x6 x7 = some r := by
 revert h
 unfold t_sl07Drawn_7
 repeat' first | refine sem_condK ?_ ?_ | refine sem_bindK fun _ => ?_ | exact sem_noneK | exact h3 _ | exact h7 _ | refine sem_bind2K (fun _ => ?_) (fun _ => ?_)
noncomputable def t_sl07Drawn (a0 a1 a2 : Int) (a3 : List Int) : Option R := (Option.bind (s_sl00Src_pick (IntKind.wrap .i64 (a0 + 1)) a1 a2 a3) fun r1 => (G3 (r1.1, r1.2.1, r1.2.2, a3, [])))
theorem t_sl07Drawn_sem (a0 a1 a2 : Int) (a3 : List Int) (h : sem S (t_sl07Drawn G3 a0 a1 a2 a3)) (h3 : Leads S r G3 G3') : t_sl07Drawn G3' a0 a1 a2 a3 = some r := by
 revert h
 unfold t_sl07Drawn
 repeat' first | refine sem_condK ?_ ?_ | refine sem_bindK fun _ => ?_ | exact sem_noneK | exact h3 _ | refine sem_bind2K (fun _ => ?_) (fun _ => ?_)
end
noncomputable def f_sl07Drawn_K3 (r : HOut) (x : Z_sl07Drawn_3) : Option HOut := f_sl07Drawn_L r 3 (f_sl07Drawn_s3 x.1 x.2.1 x.2.2.1 x.2.2.2.1 x.2.2.2.2)
noncomputable def f_sl07Drawn_K7 (r : HOut) (x : Z_sl07Drawn_7) : Option HOut := f_sl07Drawn_L r 7 (f_sl07Drawn_s7 x.1 x.2.1 x.2.2.1 x.2.2.2.1 x.2.2.2.2.1 x.2.2.2.2.2.1 x.2.2.2.2.2.2.1 x.2.2.2.2.2.2.2)
theorem f_sl07Drawn_step7 (x0 x1 x2 x3 : Int) (x4 : List Int) (x5 : List (Int × Int)) (x6 x7 : Int) (r : HOut) (h : t_sl07Drawn_7 (f_sl07Drawn_K3 r) (f_sl07Drawn_K7 r) x0 x1 x2 x3 x4 x5 x6 x7 = some r) : f_sl07Drawn_L r 7 (f_sl07Drawn_s7 x0 x1 x2 x3 x4 x5 x6 x7) = some r :=
 step_of' h (by kernel_rfl)
noncomputable def f_sl07Drawn_n7 (x0 x1 x2 x3 : Int) (x4 : List Int) (x5 : List (Int × Int)) (x6 x7 : Int) : Option (Z_sl07Drawn_7 ⊕ Y_sl07Drawn_7) := t_sl07Drawn_7 (fun x => some (Sum.inr (Sum.inl x))) (fun x => some (Sum.inl x)) x0 x1 x2 x3 x4 x5 x6 x7
noncomputable def f_sl07Drawn_run7 (x : Z_sl07Drawn_7) : Option Y_sl07Drawn_7 := iter (fun x => f_sl07Drawn_n7 x.1 x.2.1 x.2.2.1 x.2.2.2.1 x.2.2.2.2.1 x.2.2.2.2.2.1 x.2.2.2.2.2.2.1 x.2.2.2.2.2.2.2) FU x
noncomputable def f_sl07Drawn_G7 (r : HOut) (x : Z_sl07Drawn_7) : Prop := f_sl07Drawn_K7 r x = some r
theorem f_sl07Drawn_step3 (x0 x1 x2 : Int) (x3 : List Int) (x4 : List (Int × Int)) (r : HOut) (h : t_sl07Drawn_3 (fun v => some (l_sl07Drawn v)) (f_sl07Drawn_K7 r) x0 x1 x2 x3 x4 = some r) : f_sl07Drawn_L r 3 (f_sl07Drawn_s3 x0 x1 x2 x3 x4) = some r :=
 step_of' h (by kernel_rfl)
noncomputable def f_sl07Drawn_n3 (x0 x1 x2 : Int) (x3 : List Int) (x4 : List (Int × Int)) : Option (Z_sl07Drawn_3 ⊕ Y_sl07Drawn_3) := t_sl07Drawn_3 (fun v => some (Sum.inr v)) f_sl07Drawn_run7 x0 x1 x2 x3 x4
noncomputable def f_sl07Drawn_run3 (x : Z_sl07Drawn_3) : Option Y_sl07Drawn_3 := iter (fun x => f_sl07Drawn_n3 x.1 x.2.1 x.2.2.1 x.2.2.2.1 x.2.2.2.2) FU x
noncomputable def f_sl07Drawn_G3 (r : HOut) (x : Z_sl07Drawn_3) : Prop := f_sl07Drawn_K3 r x = some r
noncomputable def f_sl07Drawn_S3 (r : HOut) : Y_sl07Drawn_3 → Prop := fun v => r = l_sl07Drawn v
noncomputable def f_sl07Drawn_S7 (r : HOut) : Y_sl07Drawn_7 → Prop := goesOn (f_sl07Drawn_G3 r) (f_sl07Drawn_S3 r)
theorem f_sl07Drawn_go7 (r : HOut) : ∀ x, sem (f_sl07Drawn_S7 r) (f_sl07Drawn_run7 x) → f_sl07Drawn_G7 r x :=
 fun x => iter_sound (G := f_sl07Drawn_G7 r) (E := f_sl07Drawn_S7 r) (step := fun x => f_sl07Drawn_n7 x.1 x.2.1 x.2.2.1 x.2.2.2.1 x.2.2.2.2.1 x.2.2.2.2.2.1 x.2.2.2.2.2.2.1 x.2.2.2.2.2.2.2) (fun x h => f_sl07Drawn_step7 x.1 x.2.1 x.2.2.1 x.2.2.2.1 x.2.2.2.2.1 x.2.2.2.2.2.1 x.2.2.2.2.2.2.1 x.2.2.2.2.2.2.2 r (t_sl07Drawn_7_sem _ _ _ _ x.1 x.2.1 x.2.2.1 x.2.2.2.1 x.2.2.2.2.1 x.2.2.2.2.2.1 x.2.2.2.2.2.2.1 x.2.2.2.2.2.2.2 h (fun _ h => sem_got h fun q => q) (fun _ h => sem_got h fun q => q))) FU x
theorem f_sl07Drawn_go3 (r : HOut) : ∀ x, sem (f_sl07Drawn_S3 r) (f_sl07Drawn_run3 x) → f_sl07Drawn_G3 r x :=
 fun x => iter_sound (G := f_sl07Drawn_G3 r) (E := f_sl07Drawn_S3 r) (step := fun x => f_sl07Drawn_n3 x.1 x.2.1 x.2.2.1 x.2.2.2.1 x.2.2.2.2) (fun x h => f_sl07Drawn_step3 x.1 x.2.1 x.2.2.1 x.2.2.2.1 x.2.2.2.2 r (t_sl07Drawn_3_sem _ _ _ _ x.1 x.2.1 x.2.2.1 x.2.2.2.1 x.2.2.2.2 h (fun _ h => sem_got h fun q => some_eq q) (f_sl07Drawn_go7 r))) FU x
noncomputable def s_sl07Drawn (a0 a1 a2 : Int) (a3 : List Int) : Option (Int × Int × (List (Int × Int))) := t_sl07Drawn f_sl07Drawn_run3 a0 a1 a2 a3
theorem f_sl07Drawn_top (a0 a1 a2 : Int) (a3 : List Int) (r : HOut) : TqH 2 f_sl07Drawn_hp0 f_sl07Drawn_X f_sl07Drawn_LV f_sl07Drawn_c f_sl07Drawn_rv r [.ptr 0 [] (0), .v (.int .i64 a0)] [(0, some ⟨true, .box (.rc [.sl 1, .v (.int .i64 a1), .v (.int .u64 a2)])⟩), (1, some ⟨false, .arr (.one (.i .u8)) a3⟩)] = t_sl07Drawn (f_sl07Drawn_K3 r) a0 a1 a2 a3 := by kernel_rfl
theorem s_sl07Drawn_ok (a0 a1 a2 : Int) (a3 : List Int) (v : (Int × Int × (List (Int × Int)))) (h : s_sl07Drawn a0 a1 a2 a3 = some v) : t_sl07Drawn (f_sl07Drawn_K3 (l_sl07Drawn v)) a0 a1 a2 a3 = some (l_sl07Drawn v) :=
 t_sl07Drawn_sem _ _ a0 a1 a2 a3 (show sem (fun w => l_sl07Drawn v = l_sl07Drawn w) (s_sl07Drawn a0 a1 a2 a3) from ⟨v, h, rfl⟩) (f_sl07Drawn_go3 (l_sl07Drawn v))
noncomputable def h_sl07Drawn : HCon := fun xs hp => match xs, hp with
 | [.ptr 0 [] (0), .v (.int .i64 a0)], [(0, some ⟨true, .box (.rc [.sl 1, .v (.int .i64 a1), .v (.int .u64 a2)])⟩), (1, some ⟨false, .arr (.one (.i .u8)) a3⟩)] => .one (Int × Int × (List (Int × Int))) (s_sl07Drawn a0 a1 a2 a3) l_sl07Drawn
 | _, _ => HAns.fail
theorem f_sl07Drawn_sound : HSound Tryz.prog 127 h_sl07Drawn := by
 refine goodH f_sl07Drawn_ctx f_sl07Drawn_LV f_sl07Drawn_c f_sl07Drawn_rv 2 2 f_sl07Drawn_hp0 Tryz.func127 fun xs hp => ?_
 unfold h_sl07Drawn
 split
 ·rename_i a0 a1 a2 a3; intro v h; exact ⟨rfl, ⟨rfl, rfl⟩, (f_sl07Drawn_top a0 a1 a2 a3 _).trans (s_sl07Drawn_ok a0 a1 a2 a3 v h)⟩
 ·intro v h; cases h
noncomputable def f_q1z_c := codeC Tryz.f46
noncomputable def f_q1z_X : Ctx := ⟨TT, phiOf [], noPsi, (xiOf [(127, h_sl07Drawn), (71, h_sl00From)])⟩
def f_q1z_LV : List (Nat × Keep) := []
def f_q1z_rv : List ResultVar := [.tmp 2]
theorem f_q1z_ctx : CtxOK Tryz.prog f_q1z_X := ctx_ofH tab mix (l := []) trivial psi_no (xi_ok (l := [(127, h_sl07Drawn), (71, h_sl00From)]) ⟨⟨Tryz.call127, f_sl07Drawn_sound⟩, ⟨Tryz.call71, f_sl00From_sound⟩, trivial⟩)
noncomputable def s_q1z (a0 : List Int) : Option (List (Int × Int)) := (Option.bind (s_sl07Drawn 6 (s_sl00From a0).1 (s_sl00From a0).2 a0) fun r1 => (some (r1.2.2)))
theorem f_q1z_top (a0 : List Int) (r : List A) : Tq f_q1z_X f_q1z_LV f_q1z_c f_q1z_rv r [.lst (.one (.i .u8)) a0] = (Option.bind (s_sl07Drawn 6 (s_sl00From a0).1 (s_sl00From a0).2 a0) fun r1 => (some [.lst (.st [(.i .i8), (.i .u16)]) r1.2.2])) := by kernel_rfl
noncomputable def l_q1z (r : List (Int × Int)) : List A := [.lst (.st [(.i .i8), (.i .u16)]) r]
theorem s_q1z_ok (a0 : List Int) (v : List (Int × Int)) (h : s_q1z a0 = some v) : (Option.bind (s_sl07Drawn 6 (s_sl00From a0).1 (s_sl00From a0).2 a0) fun r1 => (some [.lst (.st [(.i .i8), (.i .u16)]) r1.2.2])) = some (l_q1z v) := by
 refine Eq.trans (b := Option.map l_q1z (s_q1z a0)) ?_ (by rw [h]; rfl)
 unfold s_q1z
 exact (bind_app fun _ => rfl)
noncomputable def c_q1z : List A → ACall
 | [.lst (.one (.i .u8)) a0] => ⟨(List (Int × Int)), s_q1z a0, fun r => .one (.lst (.st [(.i .i8), (.i .u16)]) r)⟩
 | _ => ACall.fail
theorem f_q1z_sound : Sound Tryz.prog 46 c_q1z := by
 refine good f_q1z_ctx f_q1z_LV f_q1z_c f_q1z_rv 1 Tryz.func46 fun rs => ?_
 unfold c_q1z
 split
 ·rename_i a0; intro v h; exact ⟨rfl, l_q1z v, rfl, (f_q1z_top a0 _).trans (s_q1z_ok a0 v h)⟩
 ·intro v h; cases h
noncomputable def f_q1f_c := codeC Tryz.f182
noncomputable def f_q1f_X : Ctx := ⟨TT, phiOf [], noPsi, noXi⟩
def f_q1f_LV : List (Nat × Keep) := []
def f_q1f_rv : List ResultVar := [.tmp 4]
theorem f_q1f_ctx : CtxOK Tryz.prog f_q1f_X := ctx_of tab mix trivial
noncomputable def s_q1f (a0 a1 : Int) : Int := (cond (decide (a0 < a1)) a0 a1)
theorem f_q1f_top (a0 a1 : Int) (r : List A) : Tq f_q1f_X f_q1f_LV f_q1f_c f_q1f_rv r [.v (.int .i8 a0), .v (.int .i8 a1)] = (cond (decide (a0 < a1)) (some [.v (.int .i8 a0)]) (some [.v (.int .i8 a1)])) := by kernel_rfl
noncomputable def l_q1f (r : Int) : List A := [.v (.int .i8 r)]
theorem s_q1f_ok (a0 a1 : Int) : (cond (decide (a0 < a1)) (some [.v (.int .i8 a0)]) (some [.v (.int .i8 a1)])) = some (l_q1f (s_q1f a0 a1)) := by
 unfold s_q1f
 exact (cond_app (fun x => some (l_q1f x)) rfl rfl)
noncomputable def c_q1f : List A → ACall
 | [.v (.int .i8 a0), .v (.int .i8 a1)] => ⟨Int, some (s_q1f a0 a1), fun r => .one (.v (.int .i8 r))⟩
 | _ => ACall.fail
theorem f_q1f_sound : Sound Tryz.prog 182 c_q1f := by
 refine good f_q1f_ctx f_q1f_LV f_q1f_c f_q1f_rv 2 Tryz.func182 fun rs => ?_
 unfold c_q1f
 split
 ·rename_i a0 a1; intro v h; cases h; exact ⟨rfl, l_q1f (s_q1f a0 a1), rfl, (f_q1f_top a0 a1 _).trans (s_q1f_ok a0 a1)⟩
 ·intro v h; cases h
noncomputable def f_sl01Drawn_c := codeC Tryz.f146
noncomputable def f_sl01Drawn_X : Ctx := ⟨TT, phiOf [(181, c_q28), (182, c_q1f)], noPsi, (xiOf [(105, h_sl00Src_pick)])⟩
def f_sl01Drawn_LV : List (Nat × Keep) := [(4, ([0, 2, 3, 4, 5], [], [])), (11, ([2, 3, 6], [], [])), (18, ([2, 3, 7], [], []))]
def f_sl01Drawn_rv : List ResultVar := [.cell 2 92]
noncomputable def f_sl01Drawn_hp0 : List (Nat × Option Blk) := [(0, some ⟨true, .box (.rc [.sl 1, .v (.bool false), .v (.bool false)])⟩), (1, some ⟨false, .arr (.one (.i .u8)) []⟩)]
noncomputable def f_sl01Drawn_L := LqH 2 f_sl01Drawn_hp0 f_sl01Drawn_X f_sl01Drawn_LV f_sl01Drawn_c f_sl01Drawn_rv
theorem f_sl01Drawn_ctx : CtxOK Tryz.prog f_sl01Drawn_X := ctx_ofH tab mix (l := [(181, c_q28), (182, c_q1f)]) ⟨⟨Tryz.call181, f_q28_sound⟩, ⟨Tryz.call182, f_q1f_sound⟩, trivial⟩ psi_no (xi_ok (l := [(105, h_sl00Src_pick)]) ⟨⟨Tryz.call105, f_sl00Src_pick_sound⟩, trivial⟩)
noncomputable def f_sl01Drawn_s4 (x0 x1 x2 x3 : Int) (x4 : List Int) (x5 x6 : Int) (x7 : Nat → Int) (x8 x9 : Int) (x10 : Nat → Int) : AS := ⟨[(0, .a (.ptr 0 [] (0))), (2, .a (.ptr 2 [] (0))), (3, .a (.ptr 3 [] (0))), (4, .a (.v (.int .i64 x0))), (5, .a (.v (.int .i64 x1)))], [(0, some ⟨true, .box (.rc [.sl 1, .v (.int .i64 x2), .v (.int .u64 x3)])⟩), (1, some ⟨false, .arr (.one (.i .u8)) x4⟩), (2, some ⟨true, .box (.rc [.v (.int .i8 x5), .v (.int .i8 x6), .fa 144 .u8 x7])⟩), (3, some ⟨true, .box (.rc [.v (.int .i8 x8), .v (.int .i8 x9), .fa 144 .u8 x10])⟩)], 4⟩
noncomputable def f_sl01Drawn_s11 (x0 x1 x2 : Int) (x3 : List Int) (x4 x5 : Int) (x6 : Nat → Int) (x7 x8 : Int) (x9 : Nat → Int) : AS := ⟨[(2, .a (.ptr 2 [] (0))), (3, .a (.ptr 3 [] (0))), (6, .a (.v (.int .i64 x0)))], [(0, some ⟨true, .box (.rc [.sl 1, .v (.int .i64 x1), .v (.int .u64 x2)])⟩), (1, some ⟨false, .arr (.one (.i .u8)) x3⟩), (2, some ⟨true, .box (.rc [.v (.int .i8 x4), .v (.int .i8 x5), .fa 144 .u8 x6])⟩), (3, some ⟨true, .box (.rc [.v (.int .i8 x7), .v (.int .i8 x8), .fa 144 .u8 x9])⟩)], 4⟩
noncomputable def f_sl01Drawn_s18 (x0 x1 x2 : Int) (x3 : List Int) (x4 x5 : Int) (x6 : Nat → Int) (x7 x8 : Int) (x9 : Nat → Int) : AS := ⟨[(2, .a (.ptr 2 [] (0))), (3, .a (.ptr 3 [] (0))), (7, .a (.v (.int .i64 x0)))], [(0, some ⟨true, .box (.rc [.sl 1, .v (.int .i64 x1), .v (.int .u64 x2)])⟩), (1, some ⟨false, .arr (.one (.i .u8)) x3⟩), (2, some ⟨true, .box (.rc [.v (.int .i8 x4), .v (.int .i8 x5), .fa 144 .u8 x6])⟩), (3, some ⟨true, .box (.rc [.v (.int .i8 x7), .v (.int .i8 x8), .fa 144 .u8 x9])⟩)], 4⟩
abbrev A_sl01Drawn := (Int × Int × (Nat → Int) × Int × Int)
noncomputable def l_sl01Drawn (r : (Int × Int × (Nat → Int) × Int × Int)) : HOut := ⟨.a (.rc [.v (.int .i8 r.1), .v (.int .i8 r.2.1), .fa 144 .u8 r.2.2.1]), [(0, some ⟨true, .box (.rc [.sl 1, .v (.int .i64 r.2.2.2.1), .v (.int .u64 r.2.2.2.2)])⟩)], 2⟩
abbrev Z_sl01Drawn_4 := (Int × Int × Int × Int × (List Int) × Int × Int × (Nat → Int) × Int × Int × (Nat → Int))
abbrev Y_sl01Drawn_4 := A_sl01Drawn
abbrev Z_sl01Drawn_11 := (Int × Int × Int × (List Int) × Int × Int × (Nat → Int) × Int × Int × (Nat → Int))
abbrev Y_sl01Drawn_11 := A_sl01Drawn
abbrev Z_sl01Drawn_18 := (Int × Int × Int × (List Int) × Int × Int × (Nat → Int) × Int × Int × (Nat → Int))
abbrev Y_sl01Drawn_18 := A_sl01Drawn
section
variable {R R' : Type} {S : R → Prop} {r : R'} (E : A_sl01Drawn → Option R) (E' : A_sl01Drawn → Option R') (G4 : Z_sl01Drawn_4 → Option R) (G4' : Z_sl01Drawn_4 → Option R') (G11 : Z_sl01Drawn_11 → Option R) (G11' : Z_sl01Drawn_11 → Option R') (G18 : Z_sl01Drawn_18 → Option R) (G18' : Z_sl01Drawn_18 → Option R')
noncomputable def t_sl01Drawn_4 (x0 x1 x2 x3 : Int) (x4 : List Int) (x5 x6 : Int) (x7 : Nat → Int) (x8 x9 : Int) (x10 : Nat → Int) : Option R := (cond (decide (x1 < 144)) (cond (s_q28 x8 x9 x10 x1) (Option.bind (s_sl00Src_pick x0 x2 x3 x4) fun r4 => (cond (inB x1 144) (G4 (x0, (IntKind.wrap .i64 (x1 + 1)), r4.2.1, r4.2.2, x4, x5, x6, x7, x8, x9, (upd x10 (Int.toNat x1) (IntKind.wrap .u8 r4.1)))) none)) (G4 (x0, (IntKind.wrap .i64 (x1 + 1)), x2, x3, x4, x5, x6, x7, x8, x9, x10))) (Option.bind (s_sl00Src_pick 5 x2 x3 x4) fun r5 => (cond (r5.1 == 0) (G11 (0, r5.2.1, r5.2.2, x4, x5, x6, x7, x8, x9, x10)) (cond (r5.1 == 1) (G18 (0, r5.2.1, r5.2.2, x4, x5, x6, x7, x8, (s_q1f x9 x8), x10)) (E (x8, x9, x10, (r5.2.1), (r5.2.2)))))))
theorem t_sl01Drawn_4_sem (x0 x1 x2 x3 : Int) (x4 : List Int) (x5 x6 : Int) (x7 : Nat → Int) (x8 x9 : Int) (x10 : Nat → Int) (h : sem S (t_sl01Drawn_4 E G4 G11 G18 x0 x1 x2 x3 x4 x5 x6 x7 x8 x9 x10)) (hE : Leads S r E E') (h4 : Leads S r G4 G4') (h11 : Leads S r G11 G11') (h18 : Leads S r G18 G18') : t_sl01Drawn_4 E' G4' G11' G18' x0 x1 x2 x3 x4 x5 x6 x7 x8 x9 x10 = some r := by
 revert h
 unfold t_sl01Drawn_4
 repeat' first | refine sem_condK ?_ ?_ | refine sem_bindK fun _ => ?_ | exact sem_noneK | exact hE _ | exact h4 _ | exact h11 _ | exact h18 _ | refine sem_bind2K (fun _ => ?_) (fun _ => ?_)
noncomputable def t_sl01Drawn_11 (x0 x1 x2 : Int) (x3 : List Int) (x4 x5 : Int) (x6 : Nat → Int) (x7 x8 : Int) (x9 : Nat → Int) : Option R := (cond (decide (x0 < 144)) (cond (s_q28 x7 x8 x9 x0) (cond (inB (IntKind.wrap .i64 ((IntKind.wrap .i64 ((IntKind.wrap .i64 (x0 - (IntKind.wrap .i64 (2 * (Int.tmod x0 12))))) + (IntKind.wrap .i64 x7))) - 1)) 144) (cond (inB x0 144) (G11 ((IntKind.wrap .i64 (x0 + 1)), x1, x2, x3, x4, x5, x6, x7, x8, (upd x9 (Int.toNat x0) (x9 (Int.toNat (IntKind.wrap .i64 ((IntKind.wrap .i64 ((IntKind.wrap .i64 (x0 - (IntKind.wrap .i64 (2 * (Int.tmod x0 12))))) + (IntKind.wrap .i64 x7))) - 1))))))) none) none) (G11 ((IntKind.wrap .i64 (x0 + 1)), x1, x2, x3, x4, x5, x6, x7, x8, x9))) (E (x7, x8, x9, x1, x2)))
theorem t_sl01Drawn_11_sem (x0 x1 x2 : Int) (x3 : List Int) (x4 x5 : Int) (x6 : Nat → Int) (x7 x8 : Int) (x9 : Nat → Int) (h : sem S (t_sl01Drawn_11 E G11 x0 x1 x2 x3 x4 x5 x6 x7 x8 x9)) (hE : Leads S r E E') (h11 : Leads S r G11 G11') : t_sl01Drawn_11 E' G11' x0 x1 x2 x3 x4 x5 x6 x7 x8 x9 = some r := by
 revert h
 unfold t_sl01Drawn_11
 repeat' first | refine sem_condK ?_ ?_ | refine sem_bindK fun _ => ?_ | exact sem_noneK | exact hE _ | exact h11 _ | refine sem_bind2K (fun _ => ?_) (fun _ => ?_)
noncomputable def t_sl01Drawn_18 (x0 x1 x2 : Int) (x3 : List Int) (x4 x5 : Int) (x6 : Nat → Int) (x7 x8 : Int) (x9 : Nat → Int) : Option R := (cond (decide (x0 < 144)) (cond (!(s_q28 x7 x8 x9 x0)) (cond (inB x0 144) (G18 ((IntKind.wrap .i64 (x0 + 1)), x1, x2, x3, x4, x5, x6, x7, x8, (upd x9 (Int.toNat x0) 0))) none) (G18 ((IntKind.wrap .i64 (x0 + 1)), x1, x2, x3, x4, x5, x6, x7, x8, x9))) (E (x7, x8, x9, x1, x2)))
theorem t_sl01Drawn_18_sem (x0 x1 x2 : Int) (x3 : List Int) (x4 x5 : Int) (x6 : Nat → Int) (x7 x8 : Int) (x9 : Nat → Int) (h : sem S (t_sl01Drawn_18 E G18 x0 x1 x2 x3 x4 x5 x6 x7 x8 x9)) (hE : Leads S r E E') (h18 : Leads S r G18 G18') : t_sl01Drawn_18 E' G18' x0 x1 x2 x3 x4 x5 x6 x7 x8 x9 = some r := by
 revert h
 unfold t_sl01Drawn_18
 repeat' first | refine sem_condK ?_ ?_ | refine sem_bindK fun _ => ?_ | exact sem_noneK | exact hE _ | exact h18 _ | refine sem_bind2K (fun _ => ?_) (fun _ => ?_)
noncomputable def t_sl01Drawn (a0 a1 : Int) (a2 : List Int) : Option R := (Option.bind (s_sl00Src_pick 6 a0 a1 a2) fun r1 => (Option.bind (s_sl00Src_pick 6 (r1.2.1) (r1.2.2) a2) fun r2 => (Option.bind (s_sl00Src_pick 4 (r2.2.1) (r2.2.2) a2) fun r3 => (G4 ((IntKind.wrap .i64 (1 + r3.1)), 0, r3.2.1, r3.2.2, a2, 0, 0, zF, (IntKind.wrap .i8 (IntKind.wrap .i64 (1 + r1.1))), (IntKind.wrap .i8 (IntKind.wrap .i64 (1 + r2.1))), zF)))))
theorem t_sl01Drawn_sem (a0 a1 : Int) (a2 : List Int) (h : sem S (t_sl01Drawn G4 a0 a1 a2)) (h4 : Leads S r G4 G4') : t_sl01Drawn G4' a0 a1 a2 = some r := by
 revert h
 unfold t_sl01Drawn
 repeat' first | refine sem_condK ?_ ?_ | refine sem_bindK fun _ => ?_ | exact sem_noneK | exact h4 _ | refine sem_bind2K (fun _ => ?_) (fun _ => ?_)
end
noncomputable def f_sl01Drawn_K4 (r : HOut) (x : Z_sl01Drawn_4) : Option HOut := f_sl01Drawn_L r 4 (f_sl01Drawn_s4 x.1 x.2.1 x.2.2.1 x.2.2.2.1 x.2.2.2.2.1 x.2.2.2.2.2.1 x.2.2.2.2.2.2.1 x.2.2.2.2.2.2.2.1 x.2.2.2.2.2.2.2.2.1 x.2.2.2.2.2.2.2.2.2.1 x.2.2.2.2.2.2.2.2.2.2)
noncomputable def f_sl01Drawn_K11 (r : HOut) (x : Z_sl01Drawn_11) : Option HOut := f_sl01Drawn_L r 11 (f_sl01Drawn_s11 x.1 x.2.1 x.2.2.1 x.2.2.2.1 x.2.2.2.2.1 x.2.2.2.2.2.1 x.2.2.2.2.2.2.1 x.2.2.2.2.2.2.2.1 x.2.2.2.2.2.2.2.2.1 x.2.2.2.2.2.2.2.2.2)
noncomputable def f_sl01Drawn_K18 (r : HOut) (x : Z_sl01Drawn_18) : Option HOut := f_sl01Drawn_L r 18 (f_sl01Drawn_s18 x.1 x.2.1 x.2.2.1 x.2.2.2.1 x.2.2.2.2.1 x.2.2.2.2.2.1 x.2.2.2.2.2.2.1 x.2.2.2.2.2.2.2.1 x.2.2.2.2.2.2.2.2.1 x.2.2.2.2.2.2.2.2.2)
theorem f_sl01Drawn_step11 (x0 x1 x2 : Int) (x3 : List Int) (x4 x5 : Int) (x6 : Nat → Int) (x7 x8 : Int) (x9 : Nat → Int) (r : HOut) (h : t_sl01Drawn_11 (fun v => some (l_sl01Drawn v)) (f_sl01Drawn_K11 r) x0 x1 x2 x3 x4 x5 x6 x7 x8 x9 = some r) : f_sl01Drawn_L r 11 (f_sl01Drawn_s11 x0 x1 x2 x3 x4 x5 x6 x7 x8 x9) = some r :=
 step_of' h (by kernel_rfl)
noncomputable def f_sl01Drawn_n11 (x0 x1 x2 : Int) (x3 : List Int) (x4 x5 : Int) (x6 : Nat → Int) (x7 x8 : Int) (x9 : Nat → Int) : Option (Z_sl01Drawn_11 ⊕ Y_sl01Drawn_11) := t_sl01Drawn_11 (fun v => some (Sum.inr v)) (fun x => some (Sum.inl x)) x0 x1 x2 x3 x4 x5 x6 x7 x8 x9
noncomputable def f_sl01Drawn_run11 (x : Z_sl01Drawn_11) : Option Y_sl01Drawn_11 := iter (fun x => f_sl01Drawn_n11 x.1 x.2.1 x.2.2.1 x.2.2.2.1 x.2.2.2.2.1 x.2.2.2.2.2.1 x.2.2.2.2.2.2.1 x.2.2.2.2.2.2.2.1 x.2.2.2.2.2.2.2.2.1 x.2.2.2.2.2.2.2.2.2) FU x
noncomputable def f_sl01Drawn_G11 (r : HOut) (x : Z_sl01Drawn_11) : Prop := f_sl01Drawn_K11 r x = some r
theorem f_sl01Drawn_step18 (x0 x1 x2 : Int) (x3 : List Int) (x4 x5 : Int) (x6 : Nat → Int) (x7 x8 : Int) (x9 : Nat → Int) (r : HOut) (h : t_sl01Drawn_18 (fun v => some (l_sl01Drawn v)) (f_sl01Drawn_K18 r) x0 x1 x2 x3 x4 x5 x6 x7 x8 x9 = some r) : f_sl01Drawn_L r 18 (f_sl01Drawn_s18 x0 x1 x2 x3 x4 x5 x6 x7 x8 x9) = some r :=
 step_of' h (by kernel_rfl)
noncomputable def f_sl01Drawn_n18 (x0 x1 x2 : Int) (x3 : List Int) (x4 x5 : Int) (x6 : Nat → Int) (x7 x8 : Int) (x9 : Nat → Int) : Option (Z_sl01Drawn_18 ⊕ Y_sl01Drawn_18) := t_sl01Drawn_18 (fun v => some (Sum.inr v)) (fun x => some (Sum.inl x)) x0 x1 x2 x3 x4 x5 x6 x7 x8 x9
noncomputable def f_sl01Drawn_run18 (x : Z_sl01Drawn_18) : Option Y_sl01Drawn_18 := iter (fun x => f_sl01Drawn_n18 x.1 x.2.1 x.2.2.1 x.2.2.2.1 x.2.2.2.2.1 x.2.2.2.2.2.1 x.2.2.2.2.2.2.1 x.2.2.2.2.2.2.2.1 x.2.2.2.2.2.2.2.2.1 x.2.2.2.2.2.2.2.2.2) FU x
noncomputable def f_sl01Drawn_G18 (r : HOut) (x : Z_sl01Drawn_18) : Prop := f_sl01Drawn_K18 r x = some r
theorem f_sl01Drawn_step4 (x0 x1 x2 x3 : Int) (x4 : List Int) (x5 x6 : Int) (x7 : Nat → Int) (x8 x9 : Int) (x10 : Nat → Int) (r : HOut) (h : t_sl01Drawn_4 (fun v => some (l_sl01Drawn v)) (f_sl01Drawn_K4 r) (f_sl01Drawn_K11 r) (f_sl01Drawn_K18 r) x0 x1 x2 x3 x4 x5 x6 x7 x8 x9 x10 = some r) : f_sl01Drawn_L r 4 (f_sl01Drawn_s4 x0 x1 x2 x3 x4 x5 x6 x7 x8 x9 x10) = some r :=
 step_of' h (by kernel_rfl)
noncomputable def f_sl01Drawn_n4 (x0 x1 x2 x3 : Int) (x4 : List Int) (x5 x6 : Int) (x7 : Nat → Int) (x8 x9 : Int) (x10 : Nat → Int) : Option (Z_sl01Drawn_4 ⊕ Y_sl01Drawn_4) := t_sl01Drawn_4 (fun v => some (Sum.inr v)) (fun x => some (Sum.inl x)) (fun x => Option.map (fun x => (Sum.inr x)) (f_sl01Drawn_run11 x)) (fun x => Option.map (fun x => (Sum.inr x)) (f_sl01Drawn_run18 x)) x0 x1 x2 x3 x4 x5 x6 x7 x8 x9 x10
noncomputable def f_sl01Drawn_run4 (x : Z_sl01Drawn_4) : Option Y_sl01Drawn_4 := iter (fun x => f_sl01Drawn_n4 x.1 x.2.1 x.2.2.1 x.2.2.2.1 x.2.2.2.2.1 x.2.2.2.2.2.1 x.2.2.2.2.2.2.1 x.2.2.2.2.2.2.2.1 x.2.2.2.2.2.2.2.2.1 x.2.2.2.2.2.2.2.2.2.1 x.2.2.2.2.2.2.2.2.2.2) FU x
noncomputable def f_sl01Drawn_G4 (r : HOut) (x : Z_sl01Drawn_4) : Prop := f_sl01Drawn_K4 r x = some r
noncomputable def f_sl01Drawn_S11 (r : HOut) : Y_sl01Drawn_11 → Prop := fun v => r = l_sl01Drawn v
noncomputable def f_sl01Drawn_S18 (r : HOut) : Y_sl01Drawn_18 → Prop := fun v => r = l_sl01Drawn v
noncomputable def f_sl01Drawn_S4 (r : HOut) : Y_sl01Drawn_4 → Prop := fun v => r = l_sl01Drawn v
theorem f_sl01Drawn_go11 (r : HOut) : ∀ x, sem (f_sl01Drawn_S11 r) (f_sl01Drawn_run11 x) → f_sl01Drawn_G11 r x :=
 fun x => iter_sound (G := f_sl01Drawn_G11 r) (E := f_sl01Drawn_S11 r) (step := fun x => f_sl01Drawn_n11 x.1 x.2.1 x.2.2.1 x.2.2.2.1 x.2.2.2.2.1 x.2.2.2.2.2.1 x.2.2.2.2.2.2.1 x.2.2.2.2.2.2.2.1 x.2.2.2.2.2.2.2.2.1 x.2.2.2.2.2.2.2.2.2) (fun x h => f_sl01Drawn_step11 x.1 x.2.1 x.2.2.1 x.2.2.2.1 x.2.2.2.2.1 x.2.2.2.2.2.1 x.2.2.2.2.2.2.1 x.2.2.2.2.2.2.2.1 x.2.2.2.2.2.2.2.2.1 x.2.2.2.2.2.2.2.2.2 r (t_sl01Drawn_11_sem _ _ _ _ x.1 x.2.1 x.2.2.1 x.2.2.2.1 x.2.2.2.2.1 x.2.2.2.2.2.1 x.2.2.2.2.2.2.1 x.2.2.2.2.2.2.2.1 x.2.2.2.2.2.2.2.2.1 x.2.2.2.2.2.2.2.2.2 h (fun _ h => sem_got h fun q => some_eq q) (fun _ h => sem_got h fun q => q))) FU x
theorem f_sl01Drawn_go18 (r : HOut) : ∀ x, sem (f_sl01Drawn_S18 r) (f_sl01Drawn_run18 x) → f_sl01Drawn_G18 r x :=
 fun x => iter_sound (G := f_sl01Drawn_G18 r) (E := f_sl01Drawn_S18 r) (step := fun x => f_sl01Drawn_n18 x.1 x.2.1 x.2.2.1 x.2.2.2.1 x.2.2.2.2.1 x.2.2.2.2.2.1 x.2.2.2.2.2.2.1 x.2.2.2.2.2.2.2.1 x.2.2.2.2.2.2.2.2.1 x.2.2.2.2.2.2.2.2.2) (fun x h => f_sl01Drawn_step18 x.1 x.2.1 x.2.2.1 x.2.2.2.1 x.2.2.2.2.1 x.2.2.2.2.2.1 x.2.2.2.2.2.2.1 x.2.2.2.2.2.2.2.1 x.2.2.2.2.2.2.2.2.1 x.2.2.2.2.2.2.2.2.2 r (t_sl01Drawn_18_sem _ _ _ _ x.1 x.2.1 x.2.2.1 x.2.2.2.1 x.2.2.2.2.1 x.2.2.2.2.2.1 x.2.2.2.2.2.2.1 x.2.2.2.2.2.2.2.1 x.2.2.2.2.2.2.2.2.1 x.2.2.2.2.2.2.2.2.2 h (fun _ h => sem_got h fun q => some_eq q) (fun _ h => sem_got h fun q => q))) FU x
theorem f_sl01Drawn_go4 (r : HOut) : ∀ x, sem (f_sl01Drawn_S4 r) (f_sl01Drawn_run4 x) → f_sl01Drawn_G4 r x :=
 fun x => iter_sound (G := f_sl01Drawn_G4 r) (E := f_sl01Drawn_S4 r) (step := fun x => f_sl01Drawn_n4 x.1 x.2.1 x.2.2.1 x.2.2.2.1 x.2.2.2.2.1 x.2.2.2.2.2.1 x.2.2.2.2.2.2.1 x.2.2.2.2.2.2.2.1 x.2.2.2.2.2.2.2.2.1 x.2.2.2.2.2.2.2.2.2.1 x.2.2.2.2.2.2.2.2.2.2) (fun x h => f_sl01Drawn_step4 x.1 x.2.1 x.2.2.1 x.2.2.2.1 x.2.2.2.2.1 x.2.2.2.2.2.1 x.2.2.2.2.2.2.1 x.2.2.2.2.2.2.2.1 x.2.2.2.2.2.2.2.2.1 x.2.2.2.2.2.2.2.2.2.1 x.2.2.2.2.2.2.2.2.2.2 r (t_sl01Drawn_4_sem _ _ _ _ _ _ _ _ x.1 x.2.1 x.2.2.1 x.2.2.2.1 x.2.2.2.2.1 x.2.2.2.2.2.1 x.2.2.2.2.2.2.1 x.2.2.2.2.2.2.2.1 x.2.2.2.2.2.2.2.2.1 x.2.2.2.2.2.2.2.2.2.1 x.2.2.2.2.2.2.2.2.2.2 h (fun _ h => sem_got h fun q => some_eq q) (fun _ h => sem_got h fun q => q) (fun x h => f_sl01Drawn_go11 r x (sem_mapk h fun _ q => q)) (fun x h => f_sl01Drawn_go18 r x (sem_mapk h fun _ q => q)))) FU x
noncomputable def s_sl01Drawn (a0 a1 : Int) (a2 : List Int) : Option (Int × Int × (Nat → Int) × Int × Int) := t_sl01Drawn f_sl01Drawn_run4 a0 a1 a2
theorem f_sl01Drawn_top (a0 a1 : Int) (a2 : List Int) (r : HOut) : TqH 2 f_sl01Drawn_hp0 f_sl01Drawn_X f_sl01Drawn_LV f_sl01Drawn_c f_sl01Drawn_rv r [.ptr 0 [] (0)] [(0, some ⟨true, .box (.rc [.sl 1, .v (.int .i64 a0), .v (.int .u64 a1)])⟩), (1, some ⟨false, .arr (.one (.i .u8)) a2⟩)] = t_sl01Drawn (f_sl01Drawn_K4 r) a0 a1 a2 := by kernel_rfl
theorem s_sl01Drawn_ok (a0 a1 : Int) (a2 : List Int) (v : (Int × Int × (Nat → Int) × Int × Int)) (h : s_sl01Drawn a0 a1 a2 = some v) : t_sl01Drawn (f_sl01Drawn_K4 (l_sl01Drawn v)) a0 a1 a2 = some (l_sl01Drawn v) :=
 t_sl01Drawn_sem _ _ a0 a1 a2 (show sem (fun w => l_sl01Drawn v = l_sl01Drawn w) (s_sl01Drawn a0 a1 a2) from ⟨v, h, rfl⟩) (f_sl01Drawn_go4 (l_sl01Drawn v))
noncomputable def h_sl01Drawn : HCon := fun xs hp => match xs, hp with
 | [.ptr 0 [] (0)], [(0, some ⟨true, .box (.rc [.sl 1, .v (.int .i64 a0), .v (.int .u64 a1)])⟩), (1, some ⟨false, .arr (.one (.i .u8)) a2⟩)] => .one (Int × Int × (Nat → Int) × Int × Int) (s_sl01Drawn a0 a1 a2) l_sl01Drawn
 | _, _ => HAns.fail
theorem f_sl01Drawn_sound : HSound Tryz.prog 146 h_sl01Drawn := by
 refine goodH f_sl01Drawn_ctx f_sl01Drawn_LV f_sl01Drawn_c f_sl01Drawn_rv 1 2 f_sl01Drawn_hp0 Tryz.func146 fun xs hp => ?_
 unfold h_sl01Drawn
 split
 ·rename_i a0 a1 a2; intro v h; exact ⟨rfl, ⟨rfl, rfl⟩, (f_sl01Drawn_top a0 a1 a2 _).trans (s_sl01Drawn_ok a0 a1 a2 v h)⟩
 ·intro v h; cases h
noncomputable def f_q13_c := codeC Tryz.f67
noncomputable def f_q13_X : Ctx := ⟨TT, phiOf [], noPsi, (xiOf [(146, h_sl01Drawn), (71, h_sl00From)])⟩
def f_q13_LV : List (Nat × Keep) := []
def f_q13_rv : List ResultVar := [.cell 2 92]
theorem f_q13_ctx : CtxOK Tryz.prog f_q13_X := ctx_ofH tab mix (l := []) trivial psi_no (xi_ok (l := [(146, h_sl01Drawn), (71, h_sl00From)]) ⟨⟨Tryz.call146, f_sl01Drawn_sound⟩, ⟨Tryz.call71, f_sl00From_sound⟩, trivial⟩)
noncomputable def s_q13 (a0 : List Int) : Option (Int × Int × (Nat → Int)) := (Option.bind (s_sl01Drawn (s_sl00From a0).1 (s_sl00From a0).2 a0) fun r1 => (some ((r1.1), (r1.2.1), (r1.2.2.1))))
theorem f_q13_top (a0 : List Int) (r : List A) : Tq f_q13_X f_q13_LV f_q13_c f_q13_rv r [.lst (.one (.i .u8)) a0] = (Option.bind (s_sl01Drawn (s_sl00From a0).1 (s_sl00From a0).2 a0) fun r1 => (some [.rc [.v (.int .i8 r1.1), .v (.int .i8 r1.2.1), .fa 144 .u8 r1.2.2.1]])) := by kernel_rfl
noncomputable def l_q13 (r : (Int × Int × (Nat → Int))) : List A := [.rc [.v (.int .i8 r.1), .v (.int .i8 r.2.1), .fa 144 .u8 r.2.2]]
theorem s_q13_ok (a0 : List Int) (v : (Int × Int × (Nat → Int))) (h : s_q13 a0 = some v) : (Option.bind (s_sl01Drawn (s_sl00From a0).1 (s_sl00From a0).2 a0) fun r1 => (some [.rc [.v (.int .i8 r1.1), .v (.int .i8 r1.2.1), .fa 144 .u8 r1.2.2.1]])) = some (l_q13 v) := by
 refine Eq.trans (b := Option.map l_q13 (s_q13 a0)) ?_ (by rw [h]; rfl)
 unfold s_q13
 exact (bind_app fun _ => rfl)
noncomputable def c_q13 : List A → ACall
 | [.lst (.one (.i .u8)) a0] => ⟨(Int × Int × (Nat → Int)), s_q13 a0, fun r => .one (.rc [.v (.int .i8 r.1), .v (.int .i8 r.2.1), .fa 144 .u8 r.2.2])⟩
 | _ => ACall.fail
theorem f_q13_sound : Sound Tryz.prog 67 c_q13 := by
 refine good f_q13_ctx f_q13_LV f_q13_c f_q13_rv 1 Tryz.func67 fun rs => ?_
 unfold c_q13
 split
 ·rename_i a0; intro v h; exact ⟨rfl, l_q13 v, rfl, (f_q13_top a0 _).trans (s_q13_ok a0 v h)⟩
 ·intro v h; cases h
end Go.RR
