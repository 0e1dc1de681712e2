/- The search for a plan. -/
import Derived.Test.YtbmaolhjplapoaaGreatVg
import Derived.Test.YtbmaolhjplapoaaGreatR3
set_option linter.unusedVariables false
set_option linter.unusedSimpArgs false
set_option linter.unusedSectionVars false
set_option maxRecDepth 100000
namespace Go.RR
open Go Go.Proofs
open Go.IntKind (wrap)
noncomputable def zDT := zu Tryz.f64
noncomputable def zE4 : Ctx := ⟨TT, zr [(54, vy)], zw, zU⟩
def zsR : List (Nat × zE) := []
def ztW : List ResultVar := [.tmp 2]
theorem zG3 : zq Tryz.prog zE4 := zo tab mix ⟨⟨Tryz.call54, yP⟩, trivial⟩
noncomputable def W1 (a0 : Int) : Bool := (yf a0 1 4)
theorem zF1 (a0 : Int) (r : List A) : Tq zE4 zsR zDT ztW r [.v (.int .i64 a0)] = (some [.v (.bool (yf a0 1 4))]) := by kernel_rfl
noncomputable def zTy (r : Bool) : List A := [.v (.bool r)]
theorem zLT (a0 : Int) : (some [.v (.bool (yf a0 1 4))]) = some (zTy (W1 a0)) := by
 unfold W1
 exact rfl
noncomputable def zvV : List A → ze
 | [.v (.int .i64 a0)] => ⟨Bool, some (W1 a0), fun r => .one (.v (.bool r))⟩
 | _ => ze.fail
theorem zak : zC Tryz.prog 64 zvV := by
 refine good zG3 zsR zDT ztW 1 Tryz.func64 fun rs => ?_
 unfold zvV
 split
 ·rename_i a0; intro v h; cases h; exact ⟨rfl, zTy (W1 a0), rfl, (zF1 a0 _).trans (zLT a0)⟩
 ·intro v h; cases h
noncomputable def zec := zu Tryz.f101
noncomputable def zez : Ctx := ⟨TT, zr [], zw, zU⟩
def zcv : List (Nat × zE) := []
def zb9 : List ResultVar := [.tmp 4]
noncomputable def zaU : List (Nat × Option Blk) := [(0, some ⟨false, .arr (.st [(.i .i8), (.i .u16)]) []⟩)]
theorem zj4 : zq Tryz.prog zez := zo tab mix trivial
abbrev zjH := ((List (Int × Int)) × (List Int))
noncomputable def XC (r : (List (Int × Int)) × (List Int)) : zL := ⟨.a (.ptr 1 [] (0)), [(1, some ⟨true, .box (.rc [.sl 0, .sl 2, .sl 3])⟩), (2, some ⟨true, .arr (.st [(.i .i8), (.i .i16)]) r.1⟩), (3, some ⟨true, .arr (.one (.i .i64)) r.2⟩)], 4⟩
section
variable {R R' : Type} {S : R → Prop} {r : R'} (E : zjH → Option R) (E' : zjH → Option R')
noncomputable def YH (a0 : Int) (a1 : List (Int × Int)) : Option R := (cond (decide (0 ≤ (a1.length : Int)) && decide ((a1.length : Int) = (a1.length : Int)) && zW ((Int.toNat (a1.length : Int)) * 4)) (cond (decide (0 ≤ a0) && decide (a0 = a0) && zW ((Int.toNat a0) * 8)) (E ((List.replicate (Int.toNat (a1.length : Int)) (((0, 0) : (Int × Int)) : (Int × Int))), (List.replicate (Int.toNat a0) (0 : Int)))) none) none)
theorem zkS (a0 : Int) (a1 : List (Int × Int)) (h : sem S (YH E a0 a1)) (hE : zJ S r E E') : YH E' a0 a1 = some r := by
 revert h
 unfold YH
 repeat' first | refine zy ?_ ?_ | refine zA fun _ => ?_ | exact zz | exact hE _ | refine zp (fun _ => ?_) (fun _ => ?_)
end
noncomputable def WW (a0 : Int) (a1 : List (Int × Int)) : Option ((List (Int × Int)) × (List Int)) := YH some a0 a1
theorem zlJ (a0 : Int) (a1 : List (Int × Int)) (r : zL) : TqH 1 zaU zez zcv zec zb9 r [.sl 0, .v (.int .i64 a0)] [(0, some ⟨false, .arr (.st [(.i .i8), (.i .u16)]) a1⟩)] = YH (fun v => some (XC v)) a0 a1 := by kernel_rfl
theorem zoi (a0 : Int) (a1 : List (Int × Int)) (v : (List (Int × Int)) × (List Int)) (h : WW a0 a1 = some v) : YH (fun v => some (XC v)) a0 a1 = some (XC v) :=
 zkS _ _ a0 a1 (show sem (fun w => XC v = XC w) (WW a0 a1) from ⟨v, h, rfl⟩) (fun _ h => zb h fun q => zj q)
noncomputable def V3 : Zq := fun xs hp => match xs, hp with
 | [.sl 0, .v (.int .i64 a0)], [(0, some ⟨false, .arr (.st [(.i .i8), (.i .u16)]) a1⟩)] => .one ((List (Int × Int)) × (List Int)) (WW a0 a1) XC
 | _, _ => Z5.fail
theorem zgL : yo Tryz.prog 101 V3 := by
 refine Wb zj4 zcv zec zb9 2 1 zaU Tryz.func101 fun xs hp => ?_
 unfold V3
 split
 ·rename_i a0 a1; intro v h; exact ⟨rfl, ⟨rfl, rfl⟩, (zlJ a0 a1 _).trans (zoi a0 a1 v h)⟩
 ·intro v h; cases h
structure zpg where
 a : Int → Int → Int → Int → Int → Int → Bool → (List (Int × Int)) → (List (Int × Int)) → (List Int) → Option ((Bool × Int × Int × Int × Int × Int × Bool × (List (Int × Int)) × (List Int)) ⊕ (Bool × Int × Int × Int × Int × Int × Bool × (List (Int × Int)) × (List Int) × (List (Int × Int))))
 b : Int → Int → Int → Int → Int → Int → Bool → (List (Int × Int)) → (List (Int × Int)) → (List Int) → (List (Int × Int)) → Option ((Bool × Int × Int × Int × Int × Int × Bool × (List (Int × Int)) × (List Int) × (List (Int × Int))) ⊕ (Bool × Int × Int × Int × Int × Int × Bool × (List (Int × Int)) × (List Int) × (List (Int × Int)) × (List (Int × Int))))
class u0 where
 c : zpg
section
variable [u0]
noncomputable def zBm (r : Bool × Int × Int × Int × Int × Int × Bool × (List (Int × Int)) × (List Int)) : zL := ⟨.a (.v (.bool r.1)), [(0, some ⟨true, .box (.rc [.ptr 1 [] (0), .v (.int .u16 r.2.1), .nil (.st [(.i .i8), (.i .i16)]), .v (.int .i64 r.2.2.1), .v (.int .i64 r.2.2.2.1), .v (.int .i64 r.2.2.2.2.1), .v (.int .i64 r.2.2.2.2.2.1), .v (.bool r.2.2.2.2.2.2.1)])⟩), (1, some ⟨true, .box (.rc [.sl 2, .sl 3, .sl 4])⟩), (3, some ⟨true, .arr (.st [(.i .i8), (.i .i16)]) r.2.2.2.2.2.2.2.1⟩), (4, some ⟨true, .arr (.one (.i .i64)) r.2.2.2.2.2.2.2.2⟩)], 5⟩
noncomputable def zAS (r : Bool × Int × Int × Int × Int × Int × Bool × (List (Int × Int)) × (List Int) × (List (Int × Int))) : zL := ⟨.a (.v (.bool r.1)), [(0, some ⟨true, .box (.rc [.ptr 1 [] (0), .v (.int .u16 r.2.1), .sl 5, .v (.int .i64 r.2.2.1), .v (.int .i64 r.2.2.2.1), .v (.int .i64 r.2.2.2.2.1), .v (.int .i64 r.2.2.2.2.2.1), .v (.bool r.2.2.2.2.2.2.1)])⟩), (1, some ⟨true, .box (.rc [.sl 2, .sl 3, .sl 4])⟩), (3, some ⟨true, .arr (.st [(.i .i8), (.i .i16)]) r.2.2.2.2.2.2.2.1⟩), (4, some ⟨true, .arr (.one (.i .i64)) r.2.2.2.2.2.2.2.2.1⟩), (5, some ⟨true, .arr (.st [(.i .i8), (.i .i16)]) r.2.2.2.2.2.2.2.2.2⟩)], 6⟩
noncomputable def WD : Zq := fun xs hp => match xs, hp with
 | [.ptr 0 [] (0), .v (.int .i64 a0)], [(0, some ⟨true, .box (.rc [.ptr 1 [] (0), .v (.int .u16 a1), .nil (.st [(.i .i8), (.i .i16)]), .v (.int .i64 a2), .v (.int .i64 a3), .v (.int .i64 a4), .v (.int .i64 a5), .v (.bool a6)])⟩), (1, some ⟨true, .box (.rc [.sl 2, .sl 3, .sl 4])⟩), (2, some ⟨false, .arr (.st [(.i .i8), (.i .u16)]) a7⟩), (3, some ⟨true, .arr (.st [(.i .i8), (.i .i16)]) a8⟩), (4, some ⟨true, .arr (.one (.i .i64)) a9⟩)] => .two (Bool × Int × Int × Int × Int × Int × Bool × (List (Int × Int)) × (List Int)) (Bool × Int × Int × Int × Int × Int × Bool × (List (Int × Int)) × (List Int) × (List (Int × Int))) ((u0.c).a a0 a1 a2 a3 a4 a5 a6 a7 a8 a9) zBm zAS
 | _, _ => Z5.fail
noncomputable def zAx : List A → List (Nat × Option Blk) → Bool
 | [.ptr 0 [] (0), .v (.int .i64 a0)], [(0, some ⟨true, .box (.rc [.ptr 1 [] (0), .v (.int .u16 a1), .nil (.st [(.i .i8), (.i .i16)]), .v (.int .i64 a2), .v (.int .i64 a3), .v (.int .i64 a4), .v (.int .i64 a5), .v (.bool a6)])⟩), (1, some ⟨true, .box (.rc [.sl 2, .sl 3, .sl 4])⟩), (2, some ⟨false, .arr (.st [(.i .i8), (.i .u16)]) a7⟩), (3, some ⟨true, .arr (.st [(.i .i8), (.i .i16)]) a8⟩), (4, some ⟨true, .arr (.one (.i .i64)) a9⟩)] => true
 | _, _ => false
noncomputable def zBo (r : Bool × Int × Int × Int × Int × Int × Bool × (List (Int × Int)) × (List Int) × (List (Int × Int))) : zL := ⟨.a (.v (.bool r.1)), [(0, some ⟨true, .box (.rc [.ptr 1 [] (0), .v (.int .u16 r.2.1), .sl 5, .v (.int .i64 r.2.2.1), .v (.int .i64 r.2.2.2.1), .v (.int .i64 r.2.2.2.2.1), .v (.int .i64 r.2.2.2.2.2.1), .v (.bool r.2.2.2.2.2.2.1)])⟩), (1, some ⟨true, .box (.rc [.sl 2, .sl 3, .sl 4])⟩), (3, some ⟨true, .arr (.st [(.i .i8), (.i .i16)]) r.2.2.2.2.2.2.2.1⟩), (4, some ⟨true, .arr (.one (.i .i64)) r.2.2.2.2.2.2.2.2.1⟩), (5, some ⟨true, .arr (.st [(.i .i8), (.i .i16)]) r.2.2.2.2.2.2.2.2.2⟩)], 6⟩
noncomputable def zAR (r : Bool × Int × Int × Int × Int × Int × Bool × (List (Int × Int)) × (List Int) × (List (Int × Int)) × (List (Int × Int))) : zL := ⟨.a (.v (.bool r.1)), [(0, some ⟨true, .box (.rc [.ptr 1 [] (0), .v (.int .u16 r.2.1), .sl 6, .v (.int .i64 r.2.2.1), .v (.int .i64 r.2.2.2.1), .v (.int .i64 r.2.2.2.2.1), .v (.int .i64 r.2.2.2.2.2.1), .v (.bool r.2.2.2.2.2.2.1)])⟩), (1, some ⟨true, .box (.rc [.sl 2, .sl 3, .sl 4])⟩), (3, some ⟨true, .arr (.st [(.i .i8), (.i .i16)]) r.2.2.2.2.2.2.2.1⟩), (4, some ⟨true, .arr (.one (.i .i64)) r.2.2.2.2.2.2.2.2.1⟩), (5, some ⟨true, .arr (.st [(.i .i8), (.i .i16)]) r.2.2.2.2.2.2.2.2.2.1⟩), (6, some ⟨true, .arr (.st [(.i .i8), (.i .i16)]) r.2.2.2.2.2.2.2.2.2.2⟩)], 7⟩
noncomputable def Wn : Zq := fun xs hp => match xs, hp with
 | [.ptr 0 [] (0), .v (.int .i64 a0)], [(0, some ⟨true, .box (.rc [.ptr 1 [] (0), .v (.int .u16 a1), .sl 5, .v (.int .i64 a2), .v (.int .i64 a3), .v (.int .i64 a4), .v (.int .i64 a5), .v (.bool a6)])⟩), (1, some ⟨true, .box (.rc [.sl 2, .sl 3, .sl 4])⟩), (2, some ⟨false, .arr (.st [(.i .i8), (.i .u16)]) a7⟩), (3, some ⟨true, .arr (.st [(.i .i8), (.i .i16)]) a8⟩), (4, some ⟨true, .arr (.one (.i .i64)) a9⟩), (5, some ⟨true, .arr (.st [(.i .i8), (.i .i16)]) a10⟩)] => .two (Bool × Int × Int × Int × Int × Int × Bool × (List (Int × Int)) × (List Int) × (List (Int × Int))) (Bool × Int × Int × Int × Int × Int × Bool × (List (Int × Int)) × (List Int) × (List (Int × Int)) × (List (Int × Int))) ((u0.c).b a0 a1 a2 a3 a4 a5 a6 a7 a8 a9 a10) zBo zAR
 | _, _ => Z5.fail
end
class zjR [u0] : Prop where
 a : yo Tryz.prog 103 WD
 b : yo Tryz.prog 103 Wn
noncomputable def zE9 := zu Tryz.f110
noncomputable def zEe : Ctx := ⟨TT, zr [], zw, zU⟩
def zud : List (Nat × zE) := []
def zyj : List ResultVar := [.tmp 4]
theorem zI4 : zq Tryz.prog zEe := zo tab mix trivial
noncomputable def xB (a0 a1 a2 a3 : Int) : Int := (wrap .i64 ((wrap .i64 a3) + (wrap .i64 a0)))
theorem zFB (a0 a1 a2 a3 : Int) (r : List A) : Tq zEe zud zE9 zyj r [.rc [.v (.int .i8 a0), .v (.int .u16 a1)], .rc [.v (.int .i8 a2), .v (.int .i16 a3)]] = (some [.v (.int .i64 (wrap .i64 ((wrap .i64 a3) + (wrap .i64 a0))))]) := by kernel_rfl
noncomputable def zTF (r : Int) : List A := [.v (.int .i64 r)]
theorem zNK (a0 a1 a2 a3 : Int) : (some [.v (.int .i64 (wrap .i64 ((wrap .i64 a3) + (wrap .i64 a0))))]) = some (zTF (xB a0 a1 a2 a3)) := by
 unfold xB
 exact rfl
noncomputable def zes : List A → ze
 | [.rc [.v (.int .i8 a0), .v (.int .u16 a1)], .rc [.v (.int .i8 a2), .v (.int .i16 a3)]] => ⟨Int, some (xB a0 a1 a2 a3), fun r => .one (.v (.int .i64 r))⟩
 | _ => ze.fail
theorem wz : zC Tryz.prog 110 zes := by
 refine good zI4 zud zE9 zyj 2 Tryz.func110 fun rs => ?_
 unfold zes
 split
 ·rename_i a0 a1 a2 a3; intro v h; cases h; exact ⟨rfl, zTF (xB a0 a1 a2 a3), rfl, (zFB a0 a1 a2 a3 _).trans (zNK a0 a1 a2 a3)⟩
 ·intro v h; cases h
noncomputable def zpT := zu Tryz.f132
noncomputable def zsn : Ctx := ⟨TT, zr [(110, zes), (115, zpt)], zw, zU⟩
def zjp : List (Nat × zE) := [(3, ([0, 1, 4, 5, 16, 17, 18], [], [])), (10, ([4, 5, 8, 9, 47, 48, 49], [], []))]
def zl3 : List ResultVar := [.cell 4 110]
noncomputable def YB := Lq zsn zjp zpT zl3
theorem zHh : zq Tryz.prog zsn := zo tab mix ⟨⟨Tryz.call110, wz⟩, ⟨Tryz.call115, zaB⟩, trivial⟩
noncomputable def VW (x0 x1 x2 x3 : Int) (x4 x5 : List (Int × Int)) (x6 : List Int) (x7 x8 : Int) : AS := ⟨[(0, .a (.ptr 0 [] (0))), (1, .a (.v (.int .i64 x0))), (4, .a (.ptr 4 [] (0))), (5, .a (.v (.int .i64 x1))), (16, .a (.sl 1)), (17, .a (.v (.int .i64 x2))), (18, .a (.v (.int .i64 x3)))], [(0, some ⟨false, .box (.rc [.sl 1, .sl 2, .sl 3])⟩), (1, some ⟨false, .arr (.st [(.i .i8), (.i .u16)]) x4⟩), (2, some ⟨false, .arr (.st [(.i .i8), (.i .i16)]) x5⟩), (3, some ⟨false, .arr (.one (.i .i64)) x6⟩), (4, some ⟨true, .box (.rc [.v (.int .i8 x7), .v (.int .i16 x8)])⟩)], 5⟩
noncomputable def Wj (x0 x1 x2 x3 x4 x5 x6 : Int) (x7 : List Int) : AS := ⟨[(4, .a (.ptr 0 [] (0))), (5, .a (.v (.int .i64 x0))), (8, .a (.v (.int .i64 x1))), (9, .a (.v (.int .i64 x2))), (47, .a (.sl 1)), (48, .a (.v (.int .i64 x3))), (49, .a (.v (.int .i64 x4)))], [(0, some ⟨true, .box (.rc [.v (.int .i8 x5), .v (.int .i16 x6)])⟩), (1, some ⟨false, .arr (.one (.i .i64)) x7⟩)], 2⟩
noncomputable def zhB (r : Int × Int) : List A := [.rc [.v (.int .i8 r.1), .v (.int .i16 r.2)]]
theorem zr8 (x0 x1 x2 x3 x4 x5 x6 : Int) (x7 : List Int) (r : List A) (h : (cond (decide (x4 < x3)) (cond (inB x4 x7.length) (cond (decide (x2 < 0)) (YB r 10 (Wj x0 x4 (max (List.getD x7 (Int.toNat x4) 0) x0) x3 (wrap .i64 (x4 + 1)) x5 x6 x7)) (cond (decide ((max (List.getD x7 (Int.toNat x4) 0) x0) < x2)) (YB r 10 (Wj x0 x4 (max (List.getD x7 (Int.toNat x4) 0) x0) x3 (wrap .i64 (x4 + 1)) x5 x6 x7)) (YB r 10 (Wj x0 x1 x2 x3 (wrap .i64 (x4 + 1)) x5 x6 x7)))) none) (some [.rc [.v (.int .i8 (wrap .i8 x1)), .v (.int .i16 (wrap .i16 x2))]])) = some r) : YB r 10 (Wj x0 x1 x2 x3 x4 x5 x6 x7) = some r :=
 zn h (by kernel_rfl)
noncomputable def YR (x0 x1 x2 x3 x4 x5 x6 : Int) (x7 : List Int) : Option ((Int × Int × Int × Int × Int × Int × Int × (List Int)) ⊕ (Int × Int)) := (cond (decide (x4 < x3)) (cond (inB x4 x7.length) (cond (decide (x2 < 0)) (some (Sum.inl (x0, x4, (max (List.getD x7 (Int.toNat x4) 0) x0), x3, (wrap .i64 (x4 + 1)), x5, x6, x7))) (cond (decide ((max (List.getD x7 (Int.toNat x4) 0) x0) < x2)) (some (Sum.inl (x0, x4, (max (List.getD x7 (Int.toNat x4) 0) x0), x3, (wrap .i64 (x4 + 1)), x5, x6, x7))) (some (Sum.inl (x0, x1, x2, x3, (wrap .i64 (x4 + 1)), x5, x6, x7))))) none) (some (Sum.inr ((wrap .i8 x1), (wrap .i16 x2)))))
noncomputable def vv (x : Int × Int × Int × Int × Int × Int × Int × (List Int)) : Option (Int × Int) := zI (fun x => YR x.1 x.2.1 x.2.2.1 x.2.2.2.1 x.2.2.2.2.1 x.2.2.2.2.2.1 x.2.2.2.2.2.2.1 x.2.2.2.2.2.2.2) FU x
noncomputable def zJW (r : List A) (x : Int × Int × Int × Int × Int × Int × Int × (List Int)) : Prop := YB r 10 (Wj x.1 x.2.1 x.2.2.1 x.2.2.2.1 x.2.2.2.2.1 x.2.2.2.2.2.1 x.2.2.2.2.2.2.1 x.2.2.2.2.2.2.2) = some r
theorem zvf (x0 x1 x2 x3 : Int) (x4 x5 : List (Int × Int)) (x6 : List Int) (x7 x8 : Int) (r : List A) (h : (cond (decide (x3 < x2)) (cond (inB x3 x4.length) (cond (inB x0 x4.length) (Option.bind (zcl (List.getD x4 (Int.toNat x0) ((0, 0) : (Int × Int))).1 (List.getD x4 (Int.toNat x0) ((0, 0) : (Int × Int))).2 x3) fun r1 => (cond r1 (cond (inB x3 x5.length) (YB r 3 (VW x0 (max x1 (xB (List.getD x4 (Int.toNat x3) ((0, 0) : (Int × Int))).1 (List.getD x4 (Int.toNat x3) ((0, 0) : (Int × Int))).2 (List.getD x5 (Int.toNat x3) ((0, 0) : (Int × Int))).1 (List.getD x5 (Int.toNat x3) ((0, 0) : (Int × Int))).2)) x2 (wrap .i64 (x3 + 1)) x4 x5 x6 x7 x8)) none) (YB r 3 (VW x0 x1 x2 (wrap .i64 (x3 + 1)) x4 x5 x6 x7 x8)))) none) none) (YB r 10 (Wj x1 0 (-1) (x6.length : Int) 0 x7 x8 x6))) = some r) : YB r 3 (VW x0 x1 x2 x3 x4 x5 x6 x7 x8) = some r :=
 zn h (by kernel_rfl)
noncomputable def wH (x0 x1 x2 x3 : Int) (x4 x5 : List (Int × Int)) (x6 : List Int) (x7 x8 : Int) : Option ((Int × Int × Int × Int × (List (Int × Int)) × (List (Int × Int)) × (List Int) × Int × Int) ⊕ (Int × Int)) := (cond (decide (x3 < x2)) (cond (inB x3 x4.length) (cond (inB x0 x4.length) (Option.bind (zcl (List.getD x4 (Int.toNat x0) ((0, 0) : (Int × Int))).1 (List.getD x4 (Int.toNat x0) ((0, 0) : (Int × Int))).2 x3) fun r1 => (cond r1 (cond (inB x3 x5.length) (some (Sum.inl (x0, (max x1 (xB (List.getD x4 (Int.toNat x3) ((0, 0) : (Int × Int))).1 (List.getD x4 (Int.toNat x3) ((0, 0) : (Int × Int))).2 (List.getD x5 (Int.toNat x3) ((0, 0) : (Int × Int))).1 (List.getD x5 (Int.toNat x3) ((0, 0) : (Int × Int))).2)), x2, (wrap .i64 (x3 + 1)), x4, x5, x6, x7, x8))) none) (some (Sum.inl (x0, x1, x2, (wrap .i64 (x3 + 1)), x4, x5, x6, x7, x8))))) none) none) (Option.map (fun x => (Sum.inr x)) (vv (x1, 0, (-1), (x6.length : Int), 0, x7, x8, x6))))
noncomputable def zds (x : Int × Int × Int × Int × (List (Int × Int)) × (List (Int × Int)) × (List Int) × Int × Int) : Option (Int × Int) := zI (fun x => wH x.1 x.2.1 x.2.2.1 x.2.2.2.1 x.2.2.2.2.1 x.2.2.2.2.2.1 x.2.2.2.2.2.2.1 x.2.2.2.2.2.2.2.1 x.2.2.2.2.2.2.2.2) FU x
noncomputable def zRl (r : List A) (x : Int × Int × Int × Int × (List (Int × Int)) × (List (Int × Int)) × (List Int) × Int × Int) : Prop := YB r 3 (VW x.1 x.2.1 x.2.2.1 x.2.2.2.1 x.2.2.2.2.1 x.2.2.2.2.2.1 x.2.2.2.2.2.2.1 x.2.2.2.2.2.2.2.1 x.2.2.2.2.2.2.2.2) = some r
noncomputable def zFS (r : List A) : (Int × Int) → Prop := fun v => r = zhB v
noncomputable def zQw (r : List A) : (Int × Int) → Prop := fun v => r = zhB v
theorem zAQ (r : List A) : ∀ x, sem (zFS r) (vv x) → zJW r x :=
 fun x => zi (step := fun x => YR x.1 x.2.1 x.2.2.1 x.2.2.2.1 x.2.2.2.2.1 x.2.2.2.2.2.1 x.2.2.2.2.2.2.1 x.2.2.2.2.2.2.2) (fun x h => by
  unfold YR at h
  exact zr8 x.1 x.2.1 x.2.2.1 x.2.2.2.1 x.2.2.2.2.1 x.2.2.2.2.2.1 x.2.2.2.2.2.2.1 x.2.2.2.2.2.2.2 r ((za h (fun h => (za h (fun h => (za h (fun h => zb h fun q => q) (fun h => (za h (fun h => zb h fun q => q) (fun h => zb h fun q => q))))) (fun h => zf h))) (fun h => zb h fun q => zj q)))) FU x
theorem zJc (r : List A) : ∀ x, sem (zQw r) (zds x) → zRl r x :=
 fun x => zi (step := fun x => wH x.1 x.2.1 x.2.2.1 x.2.2.2.1 x.2.2.2.2.1 x.2.2.2.2.2.1 x.2.2.2.2.2.2.1 x.2.2.2.2.2.2.2.1 x.2.2.2.2.2.2.2.2) (fun x h => by
  unfold wH at h
  exact zvf x.1 x.2.1 x.2.2.1 x.2.2.2.1 x.2.2.2.2.1 x.2.2.2.2.2.1 x.2.2.2.2.2.2.1 x.2.2.2.2.2.2.2.1 x.2.2.2.2.2.2.2.2 r ((za h (fun h => (za h (fun h => (za h (fun h => (zT h fun r1 h => (za h (fun h => (za h (fun h => zb h fun q => q) (fun h => zf h))) (fun h => zb h fun q => q)))) (fun h => zf h))) (fun h => zf h))) (fun h => zAQ r _ (zeg h fun _ q => q))))) FU x
noncomputable def zb8 (a0 a1 : List (Int × Int)) (a2 : List Int) (a3 : Int) : Option (Int × Int) := (zds (a3, 0, (a0.length : Int), 0, a0, a1, a2, 0, 0))
theorem zGy (a0 a1 : List (Int × Int)) (a2 : List Int) (a3 : Int) (r : List A) : Tq zsn zjp zpT zl3 r [.ref (.rc [.lst (.st [(.i .i8), (.i .u16)]) a0, .lst (.st [(.i .i8), (.i .i16)]) a1, .lst (.one (.i .i64)) a2]), .v (.int .i64 a3)] = (YB r 3 (VW a3 0 (a0.length : Int) 0 a0 a1 a2 0 0)) := by kernel_rfl
theorem zRJ (a0 a1 : List (Int × Int)) (a2 : List Int) (a3 : Int) (v : Int × Int) (h : zb8 a0 a1 a2 a3 = some v) : (YB (zhB v) 3 (VW a3 0 (a0.length : Int) 0 a0 a1 a2 0 0)) = some (zhB v) := by
 replace h : sem (fun w => zhB v = zhB w) (zb8 a0 a1 a2 a3) := ⟨v, h, rfl⟩
 unfold zb8 at h
 exact zJc (zhB v) _ h
noncomputable def zpr : List A → ze
 | [.ref (.rc [.lst (.st [(.i .i8), (.i .u16)]) a0, .lst (.st [(.i .i8), (.i .i16)]) a1, .lst (.one (.i .i64)) a2]), .v (.int .i64 a3)] => ⟨(Int × Int), zb8 a0 a1 a2 a3, fun r => .one (.rc [.v (.int .i8 r.1), .v (.int .i16 r.2)])⟩
 | _ => ze.fail
theorem zgR : zC Tryz.prog 132 zpr := by
 refine good zHh zjp zpT zl3 2 Tryz.func132 fun rs => ?_
 unfold zpr
 split
 ·rename_i a0 a1 a2 a3; intro v h; exact ⟨rfl, zhB v, rfl, (zGy a0 a1 a2 a3 _).trans (zRJ a0 a1 a2 a3 v h)⟩
 ·intro v h; cases h
section
variable [u0] [zjR]
theorem UX : yo Tryz.prog 103 WD := zjR.a
theorem zaO : yo Tryz.prog 103 Wn := zjR.b
noncomputable def zgn := zu Tryz.f103
noncomputable def zgM : Ctx := ⟨TT, zr [(110, zes), (131, zoZ), (132, zpr)], zw, (WF [(103, (orH zAx WD Wn))])⟩
def zcM : List (Nat × zE) := [(5, ([0, 1, 53, 54, 55], [], []))]
def zc1 : List ResultVar := [.tmp 4]
noncomputable def Uu : List (Nat × Option Blk) := [(0, some ⟨true, .box (.rc [.ptr 1 [] (0), .v (.bool false), .nil (.st [(.i .i8), (.i .i16)]), .v (.bool false), .v (.bool false), .v (.bool false), .v (.bool false), .v (.bool false)])⟩), (1, some ⟨true, .box (.rc [.sl 2, .sl 3, .sl 4])⟩), (2, some ⟨false, .arr (.st [(.i .i8), (.i .u16)]) []⟩), (3, some ⟨true, .arr (.st [(.i .i8), (.i .i16)]) []⟩), (4, some ⟨true, .arr (.one (.i .i64)) []⟩)]
noncomputable def zbL := LqH 5 Uu zgM zcM zgn zc1
theorem zut : zq Tryz.prog zgM := yF tab mix (l := [(110, zes), (131, zoZ), (132, zpr)]) ⟨⟨Tryz.call110, wz⟩, ⟨Tryz.call131, zh0⟩, ⟨Tryz.call132, zgR⟩, trivial⟩ xD (Yn (l := [(103, (orH zAx WD Wn))]) ⟨⟨Tryz.call103, (zuw UX zaO)⟩, trivial⟩)
noncomputable def zk4 (x0 x1 x2 x3 x4 x5 x6 x7 : Int) (x8 : Bool) (x9 x10 : List (Int × Int)) (x11 : List Int) : AS := ⟨[(0, .a (.ptr 0 [] (0))), (1, .a (.v (.int .i64 x0))), (53, .a (.sl 2)), (54, .a (.v (.int .i64 x1))), (55, .a (.v (.int .i64 x2)))], [(0, some ⟨true, .box (.rc [.ptr 1 [] (0), .v (.int .u16 x3), .nil (.st [(.i .i8), (.i .i16)]), .v (.int .i64 x4), .v (.int .i64 x5), .v (.int .i64 x6), .v (.int .i64 x7), .v (.bool x8)])⟩), (1, some ⟨true, .box (.rc [.sl 2, .sl 3, .sl 4])⟩), (2, some ⟨false, .arr (.st [(.i .i8), (.i .u16)]) x9⟩), (3, some ⟨true, .arr (.st [(.i .i8), (.i .i16)]) x10⟩), (4, some ⟨true, .arr (.one (.i .i64)) x11⟩)], 5⟩
noncomputable def zgV (x0 x1 x2 x3 x4 x5 x6 x7 : Int) (x8 : Bool) (x9 x10 : List (Int × Int)) (x11 : List Int) (x12 : List (Int × Int)) : AS := ⟨[(0, .a (.ptr 0 [] (0))), (1, .a (.v (.int .i64 x0))), (53, .a (.sl 2)), (54, .a (.v (.int .i64 x1))), (55, .a (.v (.int .i64 x2)))], [(0, some ⟨true, .box (.rc [.ptr 1 [] (0), .v (.int .u16 x3), .sl 5, .v (.int .i64 x4), .v (.int .i64 x5), .v (.int .i64 x6), .v (.int .i64 x7), .v (.bool x8)])⟩), (1, some ⟨true, .box (.rc [.sl 2, .sl 3, .sl 4])⟩), (2, some ⟨false, .arr (.st [(.i .i8), (.i .u16)]) x9⟩), (3, some ⟨true, .arr (.st [(.i .i8), (.i .i16)]) x10⟩), (4, some ⟨true, .arr (.one (.i .i64)) x11⟩), (5, some ⟨true, .arr (.st [(.i .i8), (.i .i16)]) x12⟩)], 6⟩
abbrev zqi := ((Bool × Int × Int × Int × Int × Int × Bool × (List (Int × Int)) × (List Int)) ⊕ (Bool × Int × Int × Int × Int × Int × Bool × (List (Int × Int)) × (List Int) × (List (Int × Int))))
noncomputable def zpf (r : Bool × Int × Int × Int × Int × Int × Bool × (List (Int × Int)) × (List Int)) : zL := ⟨.a (.v (.bool r.1)), [(0, some ⟨true, .box (.rc [.ptr 1 [] (0), .v (.int .u16 r.2.1), .nil (.st [(.i .i8), (.i .i16)]), .v (.int .i64 r.2.2.1), .v (.int .i64 r.2.2.2.1), .v (.int .i64 r.2.2.2.2.1), .v (.int .i64 r.2.2.2.2.2.1), .v (.bool r.2.2.2.2.2.2.1)])⟩), (1, some ⟨true, .box (.rc [.sl 2, .sl 3, .sl 4])⟩), (3, some ⟨true, .arr (.st [(.i .i8), (.i .i16)]) r.2.2.2.2.2.2.2.1⟩), (4, some ⟨true, .arr (.one (.i .i64)) r.2.2.2.2.2.2.2.2⟩)], 5⟩
noncomputable def zoP (r : Bool × Int × Int × Int × Int × Int × Bool × (List (Int × Int)) × (List Int) × (List (Int × Int))) : zL := ⟨.a (.v (.bool r.1)), [(0, some ⟨true, .box (.rc [.ptr 1 [] (0), .v (.int .u16 r.2.1), .sl 5, .v (.int .i64 r.2.2.1), .v (.int .i64 r.2.2.2.1), .v (.int .i64 r.2.2.2.2.1), .v (.int .i64 r.2.2.2.2.2.1), .v (.bool r.2.2.2.2.2.2.1)])⟩), (1, some ⟨true, .box (.rc [.sl 2, .sl 3, .sl 4])⟩), (3, some ⟨true, .arr (.st [(.i .i8), (.i .i16)]) r.2.2.2.2.2.2.2.1⟩), (4, some ⟨true, .arr (.one (.i .i64)) r.2.2.2.2.2.2.2.2.1⟩), (5, some ⟨true, .arr (.st [(.i .i8), (.i .i16)]) r.2.2.2.2.2.2.2.2.2⟩)], 6⟩
noncomputable def XX : ((Bool × Int × Int × Int × Int × Int × Bool × (List (Int × Int)) × (List Int)) ⊕ (Bool × Int × Int × Int × Int × Int × Bool × (List (Int × Int)) × (List Int) × (List (Int × Int)))) → zL := zdi zpf zoP
abbrev Yf := ((Int × Int × Int × Int × Int × Int × Int × Int × Bool × (List (Int × Int)) × (List (Int × Int)) × (List Int)) ⊕ (Int × Int × Int × Int × Int × Int × Int × Int × Bool × (List (Int × Int)) × (List (Int × Int)) × (List Int) × (List (Int × Int))))
abbrev Vy := zqi
section
variable {R R' : Type} {S : R → Prop} {r : R'} (E : zqi → Option R) (E' : zqi → Option R') (G5 : Yf → Option R) (G5' : Yf → Option R')
noncomputable def XI (x0 x1 x2 x3 x4 x5 x6 x7 : Int) (x8 : Bool) (x9 x10 : List (Int × Int)) (x11 : List Int) : Option R := (cond (decide (x2 < x1)) (cond (inB x2 x9.length) (cond (decide (x2 < 0)) none (cond ((vY .u16 (yz .u16 x3 x2) 1) == 1) (G5 (Sum.inl (x0, x1, (wrap .i64 (x2 + 1)), x3, x4, x5, x6, x7, x8, x9, x10, x11))) (cond ((zO .u16 (List.getD x9 (Int.toNat x2) ((0, 0) : (Int × Int))).2 x3) != 0) (G5 (Sum.inl (x0, x1, (wrap .i64 (x2 + 1)), x3, x4, x5, x6, x7, x8, x9, x10, x11))) (Option.bind (zb8 x9 x10 x11 x2) fun r2 => (cond (decide ((wrap .i64 (x6 + 1)) > x7)) (E (mkX (true, x3, x4, x5, (wrap .i64 (x6 + 1)), x7, true, x10, x11))) (cond (inB r2.1 x11.length) (cond (inB x2 x10.length) (cond (decide (x2 < 0)) none (cond (inB x2 x10.length) (cond (inB r2.1 x11.length) (yR ((u0.c).a (max x0 (xB (List.getD x9 (Int.toNat x2) ((0, 0) : (Int × Int))).1 (List.getD x9 (Int.toNat x2) ((0, 0) : (Int × Int))).2 (r2.1) (r2.2))) (bOr .u16 x3 (yl .u16 1 x2)) x4 x5 (wrap .i64 (x6 + 1)) x7 x8 x9 (List.set x10 (Int.toNat x2) (r2.1, r2.2)) (List.set x11 (Int.toNat r2.1) (xB (List.getD x9 (Int.toNat x2) ((0, 0) : (Int × Int))).1 (List.getD x9 (Int.toNat x2) ((0, 0) : (Int × Int))).2 (r2.1) (r2.2)))) (fun r3 => (cond r3.1 (E (mkX (true, (r3.2.1), (r3.2.2.1), (r3.2.2.2.1), (r3.2.2.2.2.1), (r3.2.2.2.2.2.1), (r3.2.2.2.2.2.2.1), (r3.2.2.2.2.2.2.2.1), (r3.2.2.2.2.2.2.2.2)))) (cond (decide (x2 < 0)) none (cond (inB x2 (List.length r3.2.2.2.2.2.2.2.1)) (cond (inB r2.1 (List.length r3.2.2.2.2.2.2.2.2)) (G5 (Sum.inl (x0, x1, (wrap .i64 (x2 + 1)), (zO .u16 r3.2.1 (yl .u16 1 x2)), r3.2.2.1, r3.2.2.2.1, r3.2.2.2.2.1, r3.2.2.2.2.2.1, r3.2.2.2.2.2.2.1, x9, (List.set r3.2.2.2.2.2.2.2.1 (Int.toNat x2) ((List.getD x10 (Int.toNat x2) ((0, 0) : (Int × Int))).1, (List.getD x10 (Int.toNat x2) ((0, 0) : (Int × Int))).2)), (List.set r3.2.2.2.2.2.2.2.2 (Int.toNat r2.1) (List.getD x11 (Int.toNat r2.1) 0))))) none) none)))) (fun r4 => (cond r4.1 (E (mkY (true, (r4.2.1), (r4.2.2.1), (r4.2.2.2.1), (r4.2.2.2.2.1), (r4.2.2.2.2.2.1), (r4.2.2.2.2.2.2.1), (r4.2.2.2.2.2.2.2.1), (r4.2.2.2.2.2.2.2.2.1), (r4.2.2.2.2.2.2.2.2.2)))) (cond (decide (x2 < 0)) none (cond (inB x2 (List.length r4.2.2.2.2.2.2.2.1)) (cond (inB r2.1 (List.length r4.2.2.2.2.2.2.2.2.1)) (G5 (Sum.inr (x0, x1, (wrap .i64 (x2 + 1)), (zO .u16 r4.2.1 (yl .u16 1 x2)), r4.2.2.1, r4.2.2.2.1, r4.2.2.2.2.1, r4.2.2.2.2.2.1, r4.2.2.2.2.2.2.1, x9, (List.set r4.2.2.2.2.2.2.2.1 (Int.toNat x2) ((List.getD x10 (Int.toNat x2) ((0, 0) : (Int × Int))).1, (List.getD x10 (Int.toNat x2) ((0, 0) : (Int × Int))).2)), (List.set r4.2.2.2.2.2.2.2.2.1 (Int.toNat r2.1) (List.getD x11 (Int.toNat r2.1) 0)), r4.2.2.2.2.2.2.2.2.2))) none) none))))) none) none)) none) none)))))) none) (E (mkX (false, x3, x4, x5, x6, x7, x8, x10, x11))))
theorem znU (x0 x1 x2 x3 x4 x5 x6 x7 : Int) (x8 : Bool) (x9 x10 : List (Int × Int)) (x11 : List Int) (h : sem S (XI E G5 x0 x1 x2 x3 x4 x5 x6 x7 x8 x9 x10 x11)) (hE : zJ S r E E') (h5 : zJ S r G5 G5') : XI E' G5' x0 x1 x2 x3 x4 x5 x6 x7 x8 x9 x10 x11 = some r := by
 revert h
 unfold XI
 repeat' first | refine zy ?_ ?_ | refine zA fun _ => ?_ | exact zz | exact hE _ | exact h5 _ | refine zp (fun _ => ?_) (fun _ => ?_)
noncomputable def YC (x0 x1 x2 x3 x4 x5 x6 x7 : Int) (x8 : Bool) (x9 x10 : List (Int × Int)) (x11 : List Int) (x12 : List (Int × Int)) : Option R := (cond (decide (x2 < x1)) (cond (inB x2 x9.length) (cond (decide (x2 < 0)) none (cond ((vY .u16 (yz .u16 x3 x2) 1) == 1) (G5 (Sum.inr (x0, x1, (wrap .i64 (x2 + 1)), x3, x4, x5, x6, x7, x8, x9, x10, x11, x12))) (cond ((zO .u16 (List.getD x9 (Int.toNat x2) ((0, 0) : (Int × Int))).2 x3) != 0) (G5 (Sum.inr (x0, x1, (wrap .i64 (x2 + 1)), x3, x4, x5, x6, x7, x8, x9, x10, x11, x12))) (Option.bind (zb8 x9 x10 x11 x2) fun r5 => (cond (Nat.blt 0 x12.length) (cond (decide ((xB (List.getD x9 (Int.toNat x2) ((0, 0) : (Int × Int))).1 (List.getD x9 (Int.toNat x2) ((0, 0) : (Int × Int))).2 (r5.1) (r5.2)) ≥ x4)) (G5 (Sum.inr (x0, x1, (wrap .i64 (x2 + 1)), x3, x4, x5, x6, x7, x8, x9, x10, x11, x12))) (cond (decide ((wrap .i64 (x6 + 1)) > x7)) (E (mkY (true, x3, x4, x5, (wrap .i64 (x6 + 1)), x7, true, x10, x11, x12))) (cond (inB r5.1 x11.length) (cond (inB x2 x10.length) (cond (decide (x2 < 0)) none (cond (inB x2 x10.length) (cond (inB r5.1 x11.length) (yR ((u0.c).b (max x0 (xB (List.getD x9 (Int.toNat x2) ((0, 0) : (Int × Int))).1 (List.getD x9 (Int.toNat x2) ((0, 0) : (Int × Int))).2 (r5.1) (r5.2))) (bOr .u16 x3 (yl .u16 1 x2)) x4 x5 (wrap .i64 (x6 + 1)) x7 x8 x9 (List.set x10 (Int.toNat x2) (r5.1, r5.2)) (List.set x11 (Int.toNat r5.1) (xB (List.getD x9 (Int.toNat x2) ((0, 0) : (Int × Int))).1 (List.getD x9 (Int.toNat x2) ((0, 0) : (Int × Int))).2 (r5.1) (r5.2))) x12) (fun r6 => (cond r6.1 (E (mkY (true, (r6.2.1), (r6.2.2.1), (r6.2.2.2.1), (r6.2.2.2.2.1), (r6.2.2.2.2.2.1), (r6.2.2.2.2.2.2.1), (r6.2.2.2.2.2.2.2.1), (r6.2.2.2.2.2.2.2.2.1), (r6.2.2.2.2.2.2.2.2.2)))) (cond (decide (x2 < 0)) none (cond (inB x2 (List.length r6.2.2.2.2.2.2.2.1)) (cond (inB r5.1 (List.length r6.2.2.2.2.2.2.2.2.1)) (G5 (Sum.inr (x0, x1, (wrap .i64 (x2 + 1)), (zO .u16 r6.2.1 (yl .u16 1 x2)), r6.2.2.1, r6.2.2.2.1, r6.2.2.2.2.1, r6.2.2.2.2.2.1, r6.2.2.2.2.2.2.1, x9, (List.set r6.2.2.2.2.2.2.2.1 (Int.toNat x2) ((List.getD x10 (Int.toNat x2) ((0, 0) : (Int × Int))).1, (List.getD x10 (Int.toNat x2) ((0, 0) : (Int × Int))).2)), (List.set r6.2.2.2.2.2.2.2.2.1 (Int.toNat r5.1) (List.getD x11 (Int.toNat r5.1) 0)), r6.2.2.2.2.2.2.2.2.2))) none) none)))) (fun r7 => (cond r7.1 (E (mkY (true, (r7.2.1), (r7.2.2.1), (r7.2.2.2.1), (r7.2.2.2.2.1), (r7.2.2.2.2.2.1), (r7.2.2.2.2.2.2.1), (r7.2.2.2.2.2.2.2.1), (r7.2.2.2.2.2.2.2.2.1), (r7.2.2.2.2.2.2.2.2.2.2)))) (cond (decide (x2 < 0)) none (cond (inB x2 (List.length r7.2.2.2.2.2.2.2.1)) (cond (inB r5.1 (List.length r7.2.2.2.2.2.2.2.2.1)) (G5 (Sum.inr (x0, x1, (wrap .i64 (x2 + 1)), (zO .u16 r7.2.1 (yl .u16 1 x2)), r7.2.2.1, r7.2.2.2.1, r7.2.2.2.2.1, r7.2.2.2.2.2.1, r7.2.2.2.2.2.2.1, x9, (List.set r7.2.2.2.2.2.2.2.1 (Int.toNat x2) ((List.getD x10 (Int.toNat x2) ((0, 0) : (Int × Int))).1, (List.getD x10 (Int.toNat x2) ((0, 0) : (Int × Int))).2)), (List.set r7.2.2.2.2.2.2.2.2.1 (Int.toNat r5.1) (List.getD x11 (Int.toNat r5.1) 0)), r7.2.2.2.2.2.2.2.2.2.2))) none) none))))) none) none)) none) none))) none))))) none) (E (mkY (false, x3, x4, x5, x6, x7, x8, x10, x11, x12))))
theorem zji (x0 x1 x2 x3 x4 x5 x6 x7 : Int) (x8 : Bool) (x9 x10 : List (Int × Int)) (x11 : List Int) (x12 : List (Int × Int)) (h : sem S (YC E G5 x0 x1 x2 x3 x4 x5 x6 x7 x8 x9 x10 x11 x12)) (hE : zJ S r E E') (h5 : zJ S r G5 G5') : YC E' G5' x0 x1 x2 x3 x4 x5 x6 x7 x8 x9 x10 x11 x12 = some r := by
 revert h
 unfold YC
 repeat' first | refine zy ?_ ?_ | refine zA fun _ => ?_ | exact zz | exact hE _ | exact h5 _ | refine zp (fun _ => ?_) (fun _ => ?_)
noncomputable def uk (a0 a1 a2 a3 a4 a5 : Int) (a6 : Bool) (a7 a8 : List (Int × Int)) (a9 : List Int) : Option R := (cond (decide ((a7.length : Int) < 0)) none (cond (a1 == (wrap .u16 ((yl .u16 1 (a7.length : Int)) - 1))) (Option.bind (zg7 a8) fun r1 => (E (mkY ((a0 == a3), a1, a0, a3, a4, a5, a6, a8, a9, r1)))) (G5 (Sum.inl (a0, (a7.length : Int), 0, a1, a2, a3, a4, a5, a6, a7, a8, a9)))))
theorem zwv (a0 a1 a2 a3 a4 a5 : Int) (a6 : Bool) (a7 a8 : List (Int × Int)) (a9 : List Int) (h : sem S (uk E G5 a0 a1 a2 a3 a4 a5 a6 a7 a8 a9)) (hE : zJ S r E E') (h5 : zJ S r G5 G5') : uk E' G5' a0 a1 a2 a3 a4 a5 a6 a7 a8 a9 = some r := by
 revert h
 unfold uk
 repeat' first | refine zy ?_ ?_ | refine zA fun _ => ?_ | exact zz | exact hE _ | exact h5 _ | refine zp (fun _ => ?_) (fun _ => ?_)
end
noncomputable def WK (r : zL) : Yf → Option zL := Sum.elim (fun x : (Int × Int × Int × Int × Int × Int × Int × Int × Bool × (List (Int × Int)) × (List (Int × Int)) × (List Int)) => zbL r 5 (zk4 x.1 x.2.1 x.2.2.1 x.2.2.2.1 x.2.2.2.2.1 x.2.2.2.2.2.1 x.2.2.2.2.2.2.1 x.2.2.2.2.2.2.2.1 x.2.2.2.2.2.2.2.2.1 x.2.2.2.2.2.2.2.2.2.1 x.2.2.2.2.2.2.2.2.2.2.1 x.2.2.2.2.2.2.2.2.2.2.2)) (fun x : (Int × Int × Int × Int × Int × Int × Int × Int × Bool × (List (Int × Int)) × (List (Int × Int)) × (List Int) × (List (Int × Int))) => zbL r 5 (zgV x.1 x.2.1 x.2.2.1 x.2.2.2.1 x.2.2.2.2.1 x.2.2.2.2.2.1 x.2.2.2.2.2.2.1 x.2.2.2.2.2.2.2.1 x.2.2.2.2.2.2.2.2.1 x.2.2.2.2.2.2.2.2.2.1 x.2.2.2.2.2.2.2.2.2.2.1 x.2.2.2.2.2.2.2.2.2.2.2.1 x.2.2.2.2.2.2.2.2.2.2.2.2))
theorem zoa (x0 x1 x2 x3 x4 x5 x6 x7 : Int) (x8 : Bool) (x9 x10 : List (Int × Int)) (x11 : List Int) (r : zL) (h : XI (fun v => some (XX v)) (WK r) x0 x1 x2 x3 x4 x5 x6 x7 x8 x9 x10 x11 = some r) : zbL r 5 (zk4 x0 x1 x2 x3 x4 x5 x6 x7 x8 x9 x10 x11) = some r :=
 zn h (by kernel_rfl)
noncomputable def XB (x0 x1 x2 x3 x4 x5 x6 x7 : Int) (x8 : Bool) (x9 x10 : List (Int × Int)) (x11 : List Int) : Option (Yf ⊕ Vy) := XI (fun v => some (Sum.inr v)) (fun x => some (Sum.inl x)) x0 x1 x2 x3 x4 x5 x6 x7 x8 x9 x10 x11
theorem zkQ (x0 x1 x2 x3 x4 x5 x6 x7 : Int) (x8 : Bool) (x9 x10 : List (Int × Int)) (x11 : List Int) (x12 : List (Int × Int)) (r : zL) (h : YC (fun v => some (XX v)) (WK r) x0 x1 x2 x3 x4 x5 x6 x7 x8 x9 x10 x11 x12 = some r) : zbL r 5 (zgV x0 x1 x2 x3 x4 x5 x6 x7 x8 x9 x10 x11 x12) = some r :=
 zn h (by kernel_rfl)
noncomputable def YU (x0 x1 x2 x3 x4 x5 x6 x7 : Int) (x8 : Bool) (x9 x10 : List (Int × Int)) (x11 : List Int) (x12 : List (Int × Int)) : Option (Yf ⊕ Vy) := YC (fun v => some (Sum.inr v)) (fun x => some (Sum.inl x)) x0 x1 x2 x3 x4 x5 x6 x7 x8 x9 x10 x11 x12
noncomputable def xF : Yf → Option (Yf ⊕ Vy) := Sum.elim (fun x : (Int × Int × Int × Int × Int × Int × Int × Int × Bool × (List (Int × Int)) × (List (Int × Int)) × (List Int)) => XB x.1 x.2.1 x.2.2.1 x.2.2.2.1 x.2.2.2.2.1 x.2.2.2.2.2.1 x.2.2.2.2.2.2.1 x.2.2.2.2.2.2.2.1 x.2.2.2.2.2.2.2.2.1 x.2.2.2.2.2.2.2.2.2.1 x.2.2.2.2.2.2.2.2.2.2.1 x.2.2.2.2.2.2.2.2.2.2.2) (fun x : (Int × Int × Int × Int × Int × Int × Int × Int × Bool × (List (Int × Int)) × (List (Int × Int)) × (List Int) × (List (Int × Int))) => YU x.1 x.2.1 x.2.2.1 x.2.2.2.1 x.2.2.2.2.1 x.2.2.2.2.2.1 x.2.2.2.2.2.2.1 x.2.2.2.2.2.2.2.1 x.2.2.2.2.2.2.2.2.1 x.2.2.2.2.2.2.2.2.2.1 x.2.2.2.2.2.2.2.2.2.2.1 x.2.2.2.2.2.2.2.2.2.2.2.1 x.2.2.2.2.2.2.2.2.2.2.2.2)
noncomputable def zf0 (x : Yf) : Option Vy := zI xF FU x
noncomputable def ux (r : zL) (x : Yf) : Prop := WK r x = some r
noncomputable def uB (r : zL) : Vy → Prop := fun v => r = XX v
theorem zxr (r : zL) : ∀ x, sem (uB r) (zf0 x) → ux r x :=
 fun x => zi (G := ux r) (E := uB r) (step := xF) (fun x h => by
  cases x with
  | inl x =>
   replace h : sem (Za (ux r) (uB r)) (XB x.1 x.2.1 x.2.2.1 x.2.2.2.1 x.2.2.2.2.1 x.2.2.2.2.2.1 x.2.2.2.2.2.2.1 x.2.2.2.2.2.2.2.1 x.2.2.2.2.2.2.2.2.1 x.2.2.2.2.2.2.2.2.2.1 x.2.2.2.2.2.2.2.2.2.2.1 x.2.2.2.2.2.2.2.2.2.2.2) := h
   exact zoa x.1 x.2.1 x.2.2.1 x.2.2.2.1 x.2.2.2.2.1 x.2.2.2.2.2.1 x.2.2.2.2.2.2.1 x.2.2.2.2.2.2.2.1 x.2.2.2.2.2.2.2.2.1 x.2.2.2.2.2.2.2.2.2.1 x.2.2.2.2.2.2.2.2.2.2.1 x.2.2.2.2.2.2.2.2.2.2.2 r (znU _ _ _ _ x.1 x.2.1 x.2.2.1 x.2.2.2.1 x.2.2.2.2.1 x.2.2.2.2.2.1 x.2.2.2.2.2.2.1 x.2.2.2.2.2.2.2.1 x.2.2.2.2.2.2.2.2.1 x.2.2.2.2.2.2.2.2.2.1 x.2.2.2.2.2.2.2.2.2.2.1 x.2.2.2.2.2.2.2.2.2.2.2 h (fun _ h => zb h fun q => zj q) (fun _ h => zb h fun q => q))
  | inr x =>
   replace h : sem (Za (ux r) (uB r)) (YU x.1 x.2.1 x.2.2.1 x.2.2.2.1 x.2.2.2.2.1 x.2.2.2.2.2.1 x.2.2.2.2.2.2.1 x.2.2.2.2.2.2.2.1 x.2.2.2.2.2.2.2.2.1 x.2.2.2.2.2.2.2.2.2.1 x.2.2.2.2.2.2.2.2.2.2.1 x.2.2.2.2.2.2.2.2.2.2.2.1 x.2.2.2.2.2.2.2.2.2.2.2.2) := h
   exact zkQ x.1 x.2.1 x.2.2.1 x.2.2.2.1 x.2.2.2.2.1 x.2.2.2.2.2.1 x.2.2.2.2.2.2.1 x.2.2.2.2.2.2.2.1 x.2.2.2.2.2.2.2.2.1 x.2.2.2.2.2.2.2.2.2.1 x.2.2.2.2.2.2.2.2.2.2.1 x.2.2.2.2.2.2.2.2.2.2.2.1 x.2.2.2.2.2.2.2.2.2.2.2.2 r (zji _ _ _ _ x.1 x.2.1 x.2.2.1 x.2.2.2.1 x.2.2.2.2.1 x.2.2.2.2.2.1 x.2.2.2.2.2.2.1 x.2.2.2.2.2.2.2.1 x.2.2.2.2.2.2.2.2.1 x.2.2.2.2.2.2.2.2.2.1 x.2.2.2.2.2.2.2.2.2.2.1 x.2.2.2.2.2.2.2.2.2.2.2.1 x.2.2.2.2.2.2.2.2.2.2.2.2 h (fun _ h => zb h fun q => zj q) (fun _ h => zb h fun q => q))) FU x
noncomputable def zbe (a0 a1 a2 a3 a4 a5 : Int) (a6 : Bool) (a7 a8 : List (Int × Int)) (a9 : List Int) : Option ((Bool × Int × Int × Int × Int × Int × Bool × (List (Int × Int)) × (List Int)) ⊕ (Bool × Int × Int × Int × Int × Int × Bool × (List (Int × Int)) × (List Int) × (List (Int × Int)))) := uk some zf0 a0 a1 a2 a3 a4 a5 a6 a7 a8 a9
theorem zyK (a0 a1 a2 a3 a4 a5 : Int) (a6 : Bool) (a7 a8 : List (Int × Int)) (a9 : List Int) (r : zL) : TqH 5 Uu zgM zcM zgn zc1 r [.ptr 0 [] (0), .v (.int .i64 a0)] [(0, some ⟨true, .box (.rc [.ptr 1 [] (0), .v (.int .u16 a1), .nil (.st [(.i .i8), (.i .i16)]), .v (.int .i64 a2), .v (.int .i64 a3), .v (.int .i64 a4), .v (.int .i64 a5), .v (.bool a6)])⟩), (1, some ⟨true, .box (.rc [.sl 2, .sl 3, .sl 4])⟩), (2, some ⟨false, .arr (.st [(.i .i8), (.i .u16)]) a7⟩), (3, some ⟨true, .arr (.st [(.i .i8), (.i .i16)]) a8⟩), (4, some ⟨true, .arr (.one (.i .i64)) a9⟩)] = uk (fun v => some (XX v)) (WK r) a0 a1 a2 a3 a4 a5 a6 a7 a8 a9 := by kernel_rfl
theorem zBi (a0 a1 a2 a3 a4 a5 : Int) (a6 : Bool) (a7 a8 : List (Int × Int)) (a9 : List Int) (v : (Bool × Int × Int × Int × Int × Int × Bool × (List (Int × Int)) × (List Int)) ⊕ (Bool × Int × Int × Int × Int × Int × Bool × (List (Int × Int)) × (List Int) × (List (Int × Int)))) (h : zbe a0 a1 a2 a3 a4 a5 a6 a7 a8 a9 = some v) : uk (fun v => some (XX v)) (WK (XX v)) a0 a1 a2 a3 a4 a5 a6 a7 a8 a9 = some (XX v) :=
 zwv _ _ _ _ a0 a1 a2 a3 a4 a5 a6 a7 a8 a9 (show sem (fun w => XX v = XX w) (zbe a0 a1 a2 a3 a4 a5 a6 a7 a8 a9) from ⟨v, h, rfl⟩) (fun _ h => zb h fun q => zj q) (zxr (XX v))
noncomputable def zBF : Zq := fun xs hp => match xs, hp with
 | [.ptr 0 [] (0), .v (.int .i64 a0)], [(0, some ⟨true, .box (.rc [.ptr 1 [] (0), .v (.int .u16 a1), .nil (.st [(.i .i8), (.i .i16)]), .v (.int .i64 a2), .v (.int .i64 a3), .v (.int .i64 a4), .v (.int .i64 a5), .v (.bool a6)])⟩), (1, some ⟨true, .box (.rc [.sl 2, .sl 3, .sl 4])⟩), (2, some ⟨false, .arr (.st [(.i .i8), (.i .u16)]) a7⟩), (3, some ⟨true, .arr (.st [(.i .i8), (.i .i16)]) a8⟩), (4, some ⟨true, .arr (.one (.i .i64)) a9⟩)] => .two (Bool × Int × Int × Int × Int × Int × Bool × (List (Int × Int)) × (List Int)) (Bool × Int × Int × Int × Int × Int × Bool × (List (Int × Int)) × (List Int) × (List (Int × Int))) (zbe a0 a1 a2 a3 a4 a5 a6 a7 a8 a9) zpf zoP
 | _, _ => Z5.fail
theorem zn8 : yo Tryz.prog 103 zBF := by
 refine Wb zut zcM zgn zc1 2 5 Uu Tryz.func103 fun xs hp => ?_
 unfold zBF
 split
 ·rename_i a0 a1 a2 a3 a4 a5 a6 a7 a8 a9; intro v h; exact ⟨rfl, ⟨rfl, rfl⟩, (zyK a0 a1 a2 a3 a4 a5 a6 a7 a8 a9 _).trans (zBi a0 a1 a2 a3 a4 a5 a6 a7 a8 a9 v h)⟩
 ·intro v h; cases h
noncomputable def zgl := zu Tryz.f103
noncomputable def zf8 : Ctx := ⟨TT, zr [(110, zes), (131, zoZ), (132, zpr)], zw, (WF [(103, Wn)])⟩
def zdk : List (Nat × zE) := [(5, ([0, 1, 53, 54, 55], [], []))]
def zcF : List ResultVar := [.tmp 4]
noncomputable def zaR : List (Nat × Option Blk) := [(0, some ⟨true, .box (.rc [.ptr 1 [] (0), .v (.bool false), .sl 5, .v (.bool false), .v (.bool false), .v (.bool false), .v (.bool false), .v (.bool false)])⟩), (1, some ⟨true, .box (.rc [.sl 2, .sl 3, .sl 4])⟩), (2, some ⟨false, .arr (.st [(.i .i8), (.i .u16)]) []⟩), (3, some ⟨true, .arr (.st [(.i .i8), (.i .i16)]) []⟩), (4, some ⟨true, .arr (.one (.i .i64)) []⟩), (5, some ⟨true, .arr (.st [(.i .i8), (.i .i16)]) []⟩)]
noncomputable def zbK := LqH 6 zaR zf8 zdk zgl zcF
theorem zw8 : zq Tryz.prog zf8 := yF tab mix (l := [(110, zes), (131, zoZ), (132, zpr)]) ⟨⟨Tryz.call110, wz⟩, ⟨Tryz.call131, zh0⟩, ⟨Tryz.call132, zgR⟩, trivial⟩ xD (Yn (l := [(103, Wn)]) ⟨⟨Tryz.call103, zaO⟩, trivial⟩)
noncomputable def zi2 (x0 x1 x2 x3 x4 x5 x6 x7 : Int) (x8 : Bool) (x9 x10 : List (Int × Int)) (x11 : List Int) (x12 : List (Int × Int)) : AS := ⟨[(0, .a (.ptr 0 [] (0))), (1, .a (.v (.int .i64 x0))), (53, .a (.sl 2)), (54, .a (.v (.int .i64 x1))), (55, .a (.v (.int .i64 x2)))], [(0, some ⟨true, .box (.rc [.ptr 1 [] (0), .v (.int .u16 x3), .sl 5, .v (.int .i64 x4), .v (.int .i64 x5), .v (.int .i64 x6), .v (.int .i64 x7), .v (.bool x8)])⟩), (1, some ⟨true, .box (.rc [.sl 2, .sl 3, .sl 4])⟩), (2, some ⟨false, .arr (.st [(.i .i8), (.i .u16)]) x9⟩), (3, some ⟨true, .arr (.st [(.i .i8), (.i .i16)]) x10⟩), (4, some ⟨true, .arr (.one (.i .i64)) x11⟩), (5, some ⟨true, .arr (.st [(.i .i8), (.i .i16)]) x12⟩)], 6⟩
noncomputable def zhI (x0 x1 x2 x3 x4 x5 x6 x7 : Int) (x8 : Bool) (x9 x10 : List (Int × Int)) (x11 : List Int) (x12 x13 : List (Int × Int)) : AS := ⟨[(0, .a (.ptr 0 [] (0))), (1, .a (.v (.int .i64 x0))), (53, .a (.sl 2)), (54, .a (.v (.int .i64 x1))), (55, .a (.v (.int .i64 x2)))], [(0, some ⟨true, .box (.rc [.ptr 1 [] (0), .v (.int .u16 x3), .sl 6, .v (.int .i64 x4), .v (.int .i64 x5), .v (.int .i64 x6), .v (.int .i64 x7), .v (.bool x8)])⟩), (1, some ⟨true, .box (.rc [.sl 2, .sl 3, .sl 4])⟩), (2, some ⟨false, .arr (.st [(.i .i8), (.i .u16)]) x9⟩), (3, some ⟨true, .arr (.st [(.i .i8), (.i .i16)]) x10⟩), (4, some ⟨true, .arr (.one (.i .i64)) x11⟩), (5, some ⟨true, .arr (.st [(.i .i8), (.i .i16)]) x12⟩), (6, some ⟨true, .arr (.st [(.i .i8), (.i .i16)]) x13⟩)], 7⟩
abbrev zqG := ((Bool × Int × Int × Int × Int × Int × Bool × (List (Int × Int)) × (List Int) × (List (Int × Int))) ⊕ (Bool × Int × Int × Int × Int × Int × Bool × (List (Int × Int)) × (List Int) × (List (Int × Int)) × (List (Int × Int))))
noncomputable def zop (r : Bool × Int × Int × Int × Int × Int × Bool × (List (Int × Int)) × (List Int) × (List (Int × Int))) : zL := ⟨.a (.v (.bool r.1)), [(0, some ⟨true, .box (.rc [.ptr 1 [] (0), .v (.int .u16 r.2.1), .sl 5, .v (.int .i64 r.2.2.1), .v (.int .i64 r.2.2.2.1), .v (.int .i64 r.2.2.2.2.1), .v (.int .i64 r.2.2.2.2.2.1), .v (.bool r.2.2.2.2.2.2.1)])⟩), (1, some ⟨true, .box (.rc [.sl 2, .sl 3, .sl 4])⟩), (3, some ⟨true, .arr (.st [(.i .i8), (.i .i16)]) r.2.2.2.2.2.2.2.1⟩), (4, some ⟨true, .arr (.one (.i .i64)) r.2.2.2.2.2.2.2.2.1⟩), (5, some ⟨true, .arr (.st [(.i .i8), (.i .i16)]) r.2.2.2.2.2.2.2.2.2⟩)], 6⟩
noncomputable def zo4 (r : Bool × Int × Int × Int × Int × Int × Bool × (List (Int × Int)) × (List Int) × (List (Int × Int)) × (List (Int × Int))) : zL := ⟨.a (.v (.bool r.1)), [(0, some ⟨true, .box (.rc [.ptr 1 [] (0), .v (.int .u16 r.2.1), .sl 6, .v (.int .i64 r.2.2.1), .v (.int .i64 r.2.2.2.1), .v (.int .i64 r.2.2.2.2.1), .v (.int .i64 r.2.2.2.2.2.1), .v (.bool r.2.2.2.2.2.2.1)])⟩), (1, some ⟨true, .box (.rc [.sl 2, .sl 3, .sl 4])⟩), (3, some ⟨true, .arr (.st [(.i .i8), (.i .i16)]) r.2.2.2.2.2.2.2.1⟩), (4, some ⟨true, .arr (.one (.i .i64)) r.2.2.2.2.2.2.2.2.1⟩), (5, some ⟨true, .arr (.st [(.i .i8), (.i .i16)]) r.2.2.2.2.2.2.2.2.2.1⟩), (6, some ⟨true, .arr (.st [(.i .i8), (.i .i16)]) r.2.2.2.2.2.2.2.2.2.2⟩)], 7⟩
noncomputable def X4 : ((Bool × Int × Int × Int × Int × Int × Bool × (List (Int × Int)) × (List Int) × (List (Int × Int))) ⊕ (Bool × Int × Int × Int × Int × Int × Bool × (List (Int × Int)) × (List Int) × (List (Int × Int)) × (List (Int × Int)))) → zL := zdi zop zo4
abbrev Yc := ((Int × Int × Int × Int × Int × Int × Int × Int × Bool × (List (Int × Int)) × (List (Int × Int)) × (List Int) × (List (Int × Int))) ⊕ (Int × Int × Int × Int × Int × Int × Int × Int × Bool × (List (Int × Int)) × (List (Int × Int)) × (List Int) × (List (Int × Int)) × (List (Int × Int))))
abbrev VR := zqG
section
variable {R R' : Type} {S : R → Prop} {r : R'} (E : zqG → Option R) (E' : zqG → Option R') (G5 : Yc → Option R) (G5' : Yc → Option R')
noncomputable def Xv (x0 x1 x2 x3 x4 x5 x6 x7 : Int) (x8 : Bool) (x9 x10 : List (Int × Int)) (x11 : List Int) (x12 : List (Int × Int)) : Option R := (cond (decide (x2 < x1)) (cond (inB x2 x9.length) (cond (decide (x2 < 0)) none (cond ((vY .u16 (yz .u16 x3 x2) 1) == 1) (G5 (Sum.inl (x0, x1, (wrap .i64 (x2 + 1)), x3, x4, x5, x6, x7, x8, x9, x10, x11, x12))) (cond ((zO .u16 (List.getD x9 (Int.toNat x2) ((0, 0) : (Int × Int))).2 x3) != 0) (G5 (Sum.inl (x0, x1, (wrap .i64 (x2 + 1)), x3, x4, x5, x6, x7, x8, x9, x10, x11, x12))) (Option.bind (zb8 x9 x10 x11 x2) fun r2 => (cond (Nat.blt 0 x12.length) (cond (decide ((xB (List.getD x9 (Int.toNat x2) ((0, 0) : (Int × Int))).1 (List.getD x9 (Int.toNat x2) ((0, 0) : (Int × Int))).2 (r2.1) (r2.2)) ≥ x4)) (G5 (Sum.inl (x0, x1, (wrap .i64 (x2 + 1)), x3, x4, x5, x6, x7, x8, x9, x10, x11, x12))) (cond (decide ((wrap .i64 (x6 + 1)) > x7)) (E (mkX (true, x3, x4, x5, (wrap .i64 (x6 + 1)), x7, true, x10, x11, x12))) (cond (inB r2.1 x11.length) (cond (inB x2 x10.length) (cond (decide (x2 < 0)) none (cond (inB x2 x10.length) (cond (inB r2.1 x11.length) (yR ((u0.c).b (max x0 (xB (List.getD x9 (Int.toNat x2) ((0, 0) : (Int × Int))).1 (List.getD x9 (Int.toNat x2) ((0, 0) : (Int × Int))).2 (r2.1) (r2.2))) (bOr .u16 x3 (yl .u16 1 x2)) x4 x5 (wrap .i64 (x6 + 1)) x7 x8 x9 (List.set x10 (Int.toNat x2) (r2.1, r2.2)) (List.set x11 (Int.toNat r2.1) (xB (List.getD x9 (Int.toNat x2) ((0, 0) : (Int × Int))).1 (List.getD x9 (Int.toNat x2) ((0, 0) : (Int × Int))).2 (r2.1) (r2.2))) x12) (fun r3 => (cond r3.1 (E (mkX (true, (r3.2.1), (r3.2.2.1), (r3.2.2.2.1), (r3.2.2.2.2.1), (r3.2.2.2.2.2.1), (r3.2.2.2.2.2.2.1), (r3.2.2.2.2.2.2.2.1), (r3.2.2.2.2.2.2.2.2.1), (r3.2.2.2.2.2.2.2.2.2)))) (cond (decide (x2 < 0)) none (cond (inB x2 (List.length r3.2.2.2.2.2.2.2.1)) (cond (inB r2.1 (List.length r3.2.2.2.2.2.2.2.2.1)) (G5 (Sum.inl (x0, x1, (wrap .i64 (x2 + 1)), (zO .u16 r3.2.1 (yl .u16 1 x2)), r3.2.2.1, r3.2.2.2.1, r3.2.2.2.2.1, r3.2.2.2.2.2.1, r3.2.2.2.2.2.2.1, x9, (List.set r3.2.2.2.2.2.2.2.1 (Int.toNat x2) ((List.getD x10 (Int.toNat x2) ((0, 0) : (Int × Int))).1, (List.getD x10 (Int.toNat x2) ((0, 0) : (Int × Int))).2)), (List.set r3.2.2.2.2.2.2.2.2.1 (Int.toNat r2.1) (List.getD x11 (Int.toNat r2.1) 0)), r3.2.2.2.2.2.2.2.2.2))) none) none)))) (fun r4 => (cond r4.1 (E (mkY (true, (r4.2.1), (r4.2.2.1), (r4.2.2.2.1), (r4.2.2.2.2.1), (r4.2.2.2.2.2.1), (r4.2.2.2.2.2.2.1), (r4.2.2.2.2.2.2.2.1), (r4.2.2.2.2.2.2.2.2.1), (r4.2.2.2.2.2.2.2.2.2.1), (r4.2.2.2.2.2.2.2.2.2.2)))) (cond (decide (x2 < 0)) none (cond (inB x2 (List.length r4.2.2.2.2.2.2.2.1)) (cond (inB r2.1 (List.length r4.2.2.2.2.2.2.2.2.1)) (G5 (Sum.inr (x0, x1, (wrap .i64 (x2 + 1)), (zO .u16 r4.2.1 (yl .u16 1 x2)), r4.2.2.1, r4.2.2.2.1, r4.2.2.2.2.1, r4.2.2.2.2.2.1, r4.2.2.2.2.2.2.1, x9, (List.set r4.2.2.2.2.2.2.2.1 (Int.toNat x2) ((List.getD x10 (Int.toNat x2) ((0, 0) : (Int × Int))).1, (List.getD x10 (Int.toNat x2) ((0, 0) : (Int × Int))).2)), (List.set r4.2.2.2.2.2.2.2.2.1 (Int.toNat r2.1) (List.getD x11 (Int.toNat r2.1) 0)), r4.2.2.2.2.2.2.2.2.2.1, r4.2.2.2.2.2.2.2.2.2.2))) none) none))))) none) none)) none) none))) none))))) none) (E (mkX (false, x3, x4, x5, x6, x7, x8, x10, x11, x12))))
theorem zn7 (x0 x1 x2 x3 x4 x5 x6 x7 : Int) (x8 : Bool) (x9 x10 : List (Int × Int)) (x11 : List Int) (x12 : List (Int × Int)) (h : sem S (Xv E G5 x0 x1 x2 x3 x4 x5 x6 x7 x8 x9 x10 x11 x12)) (hE : zJ S r E E') (h5 : zJ S r G5 G5') : Xv E' G5' x0 x1 x2 x3 x4 x5 x6 x7 x8 x9 x10 x11 x12 = some r := by
 revert h
 unfold Xv
 repeat' first | refine zy ?_ ?_ | refine zA fun _ => ?_ | exact zz | exact hE _ | exact h5 _ | refine zp (fun _ => ?_) (fun _ => ?_)
noncomputable def YI (x0 x1 x2 x3 x4 x5 x6 x7 : Int) (x8 : Bool) (x9 x10 : List (Int × Int)) (x11 : List Int) (x12 x13 : List (Int × Int)) : Option R := (cond (decide (x2 < x1)) (cond (inB x2 x9.length) (cond (decide (x2 < 0)) none (cond ((vY .u16 (yz .u16 x3 x2) 1) == 1) (G5 (Sum.inr (x0, x1, (wrap .i64 (x2 + 1)), x3, x4, x5, x6, x7, x8, x9, x10, x11, x12, x13))) (cond ((zO .u16 (List.getD x9 (Int.toNat x2) ((0, 0) : (Int × Int))).2 x3) != 0) (G5 (Sum.inr (x0, x1, (wrap .i64 (x2 + 1)), x3, x4, x5, x6, x7, x8, x9, x10, x11, x12, x13))) (Option.bind (zb8 x9 x10 x11 x2) fun r5 => (cond (Nat.blt 0 x13.length) (cond (decide ((xB (List.getD x9 (Int.toNat x2) ((0, 0) : (Int × Int))).1 (List.getD x9 (Int.toNat x2) ((0, 0) : (Int × Int))).2 (r5.1) (r5.2)) ≥ x4)) (G5 (Sum.inr (x0, x1, (wrap .i64 (x2 + 1)), x3, x4, x5, x6, x7, x8, x9, x10, x11, x12, x13))) (cond (decide ((wrap .i64 (x6 + 1)) > x7)) (E (mkY (true, x3, x4, x5, (wrap .i64 (x6 + 1)), x7, true, x10, x11, x12, x13))) (cond (inB r5.1 x11.length) (cond (inB x2 x10.length) (cond (decide (x2 < 0)) none (cond (inB x2 x10.length) (cond (inB r5.1 x11.length) (yR ((u0.c).b (max x0 (xB (List.getD x9 (Int.toNat x2) ((0, 0) : (Int × Int))).1 (List.getD x9 (Int.toNat x2) ((0, 0) : (Int × Int))).2 (r5.1) (r5.2))) (bOr .u16 x3 (yl .u16 1 x2)) x4 x5 (wrap .i64 (x6 + 1)) x7 x8 x9 (List.set x10 (Int.toNat x2) (r5.1, r5.2)) (List.set x11 (Int.toNat r5.1) (xB (List.getD x9 (Int.toNat x2) ((0, 0) : (Int × Int))).1 (List.getD x9 (Int.toNat x2) ((0, 0) : (Int × Int))).2 (r5.1) (r5.2))) x13) (fun r6 => (cond r6.1 (E (mkY (true, (r6.2.1), (r6.2.2.1), (r6.2.2.2.1), (r6.2.2.2.2.1), (r6.2.2.2.2.2.1), (r6.2.2.2.2.2.2.1), (r6.2.2.2.2.2.2.2.1), (r6.2.2.2.2.2.2.2.2.1), x12, (r6.2.2.2.2.2.2.2.2.2)))) (cond (decide (x2 < 0)) none (cond (inB x2 (List.length r6.2.2.2.2.2.2.2.1)) (cond (inB r5.1 (List.length r6.2.2.2.2.2.2.2.2.1)) (G5 (Sum.inr (x0, x1, (wrap .i64 (x2 + 1)), (zO .u16 r6.2.1 (yl .u16 1 x2)), r6.2.2.1, r6.2.2.2.1, r6.2.2.2.2.1, r6.2.2.2.2.2.1, r6.2.2.2.2.2.2.1, x9, (List.set r6.2.2.2.2.2.2.2.1 (Int.toNat x2) ((List.getD x10 (Int.toNat x2) ((0, 0) : (Int × Int))).1, (List.getD x10 (Int.toNat x2) ((0, 0) : (Int × Int))).2)), (List.set r6.2.2.2.2.2.2.2.2.1 (Int.toNat r5.1) (List.getD x11 (Int.toNat r5.1) 0)), x12, r6.2.2.2.2.2.2.2.2.2))) none) none)))) (fun r7 => (cond r7.1 (E (mkY (true, (r7.2.1), (r7.2.2.1), (r7.2.2.2.1), (r7.2.2.2.2.1), (r7.2.2.2.2.2.1), (r7.2.2.2.2.2.2.1), (r7.2.2.2.2.2.2.2.1), (r7.2.2.2.2.2.2.2.2.1), x12, (r7.2.2.2.2.2.2.2.2.2.2)))) (cond (decide (x2 < 0)) none (cond (inB x2 (List.length r7.2.2.2.2.2.2.2.1)) (cond (inB r5.1 (List.length r7.2.2.2.2.2.2.2.2.1)) (G5 (Sum.inr (x0, x1, (wrap .i64 (x2 + 1)), (zO .u16 r7.2.1 (yl .u16 1 x2)), r7.2.2.1, r7.2.2.2.1, r7.2.2.2.2.1, r7.2.2.2.2.2.1, r7.2.2.2.2.2.2.1, x9, (List.set r7.2.2.2.2.2.2.2.1 (Int.toNat x2) ((List.getD x10 (Int.toNat x2) ((0, 0) : (Int × Int))).1, (List.getD x10 (Int.toNat x2) ((0, 0) : (Int × Int))).2)), (List.set r7.2.2.2.2.2.2.2.2.1 (Int.toNat r5.1) (List.getD x11 (Int.toNat r5.1) 0)), x12, r7.2.2.2.2.2.2.2.2.2.2))) none) none))))) none) none)) none) none))) none))))) none) (E (mkY (false, x3, x4, x5, x6, x7, x8, x10, x11, x12, x13))))
theorem zm4 (x0 x1 x2 x3 x4 x5 x6 x7 : Int) (x8 : Bool) (x9 x10 : List (Int × Int)) (x11 : List Int) (x12 x13 : List (Int × Int)) (h : sem S (YI E G5 x0 x1 x2 x3 x4 x5 x6 x7 x8 x9 x10 x11 x12 x13)) (hE : zJ S r E E') (h5 : zJ S r G5 G5') : YI E' G5' x0 x1 x2 x3 x4 x5 x6 x7 x8 x9 x10 x11 x12 x13 = some r := by
 revert h
 unfold YI
 repeat' first | refine zy ?_ ?_ | refine zA fun _ => ?_ | exact zz | exact hE _ | exact h5 _ | refine zp (fun _ => ?_) (fun _ => ?_)
noncomputable def uM (a0 a1 a2 a3 a4 a5 : Int) (a6 : Bool) (a7 a8 : List (Int × Int)) (a9 : List Int) (a10 : List (Int × Int)) : Option R := (cond (decide ((a7.length : Int) < 0)) none (cond (a1 == (wrap .u16 ((yl .u16 1 (a7.length : Int)) - 1))) (Option.bind (zg7 a8) fun r1 => (E (mkY ((a0 == a3), a1, a0, a3, a4, a5, a6, a8, a9, a10, r1)))) (G5 (Sum.inl (a0, (a7.length : Int), 0, a1, a2, a3, a4, a5, a6, a7, a8, a9, a10)))))
theorem zxG (a0 a1 a2 a3 a4 a5 : Int) (a6 : Bool) (a7 a8 : List (Int × Int)) (a9 : List Int) (a10 : List (Int × Int)) (h : sem S (uM E G5 a0 a1 a2 a3 a4 a5 a6 a7 a8 a9 a10)) (hE : zJ S r E E') (h5 : zJ S r G5 G5') : uM E' G5' a0 a1 a2 a3 a4 a5 a6 a7 a8 a9 a10 = some r := by
 revert h
 unfold uM
 repeat' first | refine zy ?_ ?_ | refine zA fun _ => ?_ | exact zz | exact hE _ | exact h5 _ | refine zp (fun _ => ?_) (fun _ => ?_)
end
noncomputable def WA (r : zL) : Yc → Option zL := Sum.elim (fun x : (Int × Int × Int × Int × Int × Int × Int × Int × Bool × (List (Int × Int)) × (List (Int × Int)) × (List Int) × (List (Int × Int))) => zbK r 5 (zi2 x.1 x.2.1 x.2.2.1 x.2.2.2.1 x.2.2.2.2.1 x.2.2.2.2.2.1 x.2.2.2.2.2.2.1 x.2.2.2.2.2.2.2.1 x.2.2.2.2.2.2.2.2.1 x.2.2.2.2.2.2.2.2.2.1 x.2.2.2.2.2.2.2.2.2.2.1 x.2.2.2.2.2.2.2.2.2.2.2.1 x.2.2.2.2.2.2.2.2.2.2.2.2)) (fun x : (Int × Int × Int × Int × Int × Int × Int × Int × Bool × (List (Int × Int)) × (List (Int × Int)) × (List Int) × (List (Int × Int)) × (List (Int × Int))) => zbK r 5 (zhI x.1 x.2.1 x.2.2.1 x.2.2.2.1 x.2.2.2.2.1 x.2.2.2.2.2.1 x.2.2.2.2.2.2.1 x.2.2.2.2.2.2.2.1 x.2.2.2.2.2.2.2.2.1 x.2.2.2.2.2.2.2.2.2.1 x.2.2.2.2.2.2.2.2.2.2.1 x.2.2.2.2.2.2.2.2.2.2.2.1 x.2.2.2.2.2.2.2.2.2.2.2.2.1 x.2.2.2.2.2.2.2.2.2.2.2.2.2))
theorem zn5 (x0 x1 x2 x3 x4 x5 x6 x7 : Int) (x8 : Bool) (x9 x10 : List (Int × Int)) (x11 : List Int) (x12 : List (Int × Int)) (r : zL) (h : Xv (fun v => some (X4 v)) (WA r) x0 x1 x2 x3 x4 x5 x6 x7 x8 x9 x10 x11 x12 = some r) : zbK r 5 (zi2 x0 x1 x2 x3 x4 x5 x6 x7 x8 x9 x10 x11 x12) = some r :=
 zn h (by kernel_rfl)
noncomputable def XO (x0 x1 x2 x3 x4 x5 x6 x7 : Int) (x8 : Bool) (x9 x10 : List (Int × Int)) (x11 : List Int) (x12 : List (Int × Int)) : Option (Yc ⊕ VR) := Xv (fun v => some (Sum.inr v)) (fun x => some (Sum.inl x)) x0 x1 x2 x3 x4 x5 x6 x7 x8 x9 x10 x11 x12
theorem zkU (x0 x1 x2 x3 x4 x5 x6 x7 : Int) (x8 : Bool) (x9 x10 : List (Int × Int)) (x11 : List Int) (x12 x13 : List (Int × Int)) (r : zL) (h : YI (fun v => some (X4 v)) (WA r) x0 x1 x2 x3 x4 x5 x6 x7 x8 x9 x10 x11 x12 x13 = some r) : zbK r 5 (zhI x0 x1 x2 x3 x4 x5 x6 x7 x8 x9 x10 x11 x12 x13) = some r :=
 zn h (by kernel_rfl)
noncomputable def YN (x0 x1 x2 x3 x4 x5 x6 x7 : Int) (x8 : Bool) (x9 x10 : List (Int × Int)) (x11 : List Int) (x12 x13 : List (Int × Int)) : Option (Yc ⊕ VR) := YI (fun v => some (Sum.inr v)) (fun x => some (Sum.inl x)) x0 x1 x2 x3 x4 x5 x6 x7 x8 x9 x10 x11 x12 x13
noncomputable def xH : Yc → Option (Yc ⊕ VR) := Sum.elim (fun x : (Int × Int × Int × Int × Int × Int × Int × Int × Bool × (List (Int × Int)) × (List (Int × Int)) × (List Int) × (List (Int × Int))) => XO x.1 x.2.1 x.2.2.1 x.2.2.2.1 x.2.2.2.2.1 x.2.2.2.2.2.1 x.2.2.2.2.2.2.1 x.2.2.2.2.2.2.2.1 x.2.2.2.2.2.2.2.2.1 x.2.2.2.2.2.2.2.2.2.1 x.2.2.2.2.2.2.2.2.2.2.1 x.2.2.2.2.2.2.2.2.2.2.2.1 x.2.2.2.2.2.2.2.2.2.2.2.2) (fun x : (Int × Int × Int × Int × Int × Int × Int × Int × Bool × (List (Int × Int)) × (List (Int × Int)) × (List Int) × (List (Int × Int)) × (List (Int × Int))) => YN x.1 x.2.1 x.2.2.1 x.2.2.2.1 x.2.2.2.2.1 x.2.2.2.2.2.1 x.2.2.2.2.2.2.1 x.2.2.2.2.2.2.2.1 x.2.2.2.2.2.2.2.2.1 x.2.2.2.2.2.2.2.2.2.1 x.2.2.2.2.2.2.2.2.2.2.1 x.2.2.2.2.2.2.2.2.2.2.2.1 x.2.2.2.2.2.2.2.2.2.2.2.2.1 x.2.2.2.2.2.2.2.2.2.2.2.2.2)
noncomputable def zfT (x : Yc) : Option VR := zI xH FU x
noncomputable def uT (r : zL) (x : Yc) : Prop := WA r x = some r
noncomputable def ua (r : zL) : VR → Prop := fun v => r = X4 v
theorem zwp (r : zL) : ∀ x, sem (ua r) (zfT x) → uT r x :=
 fun x => zi (G := uT r) (E := ua r) (step := xH) (fun x h => by
  cases x with
  | inl x =>
   replace h : sem (Za (uT r) (ua r)) (XO x.1 x.2.1 x.2.2.1 x.2.2.2.1 x.2.2.2.2.1 x.2.2.2.2.2.1 x.2.2.2.2.2.2.1 x.2.2.2.2.2.2.2.1 x.2.2.2.2.2.2.2.2.1 x.2.2.2.2.2.2.2.2.2.1 x.2.2.2.2.2.2.2.2.2.2.1 x.2.2.2.2.2.2.2.2.2.2.2.1 x.2.2.2.2.2.2.2.2.2.2.2.2) := h
   exact zn5 x.1 x.2.1 x.2.2.1 x.2.2.2.1 x.2.2.2.2.1 x.2.2.2.2.2.1 x.2.2.2.2.2.2.1 x.2.2.2.2.2.2.2.1 x.2.2.2.2.2.2.2.2.1 x.2.2.2.2.2.2.2.2.2.1 x.2.2.2.2.2.2.2.2.2.2.1 x.2.2.2.2.2.2.2.2.2.2.2.1 x.2.2.2.2.2.2.2.2.2.2.2.2 r (zn7 _ _ _ _ x.1 x.2.1 x.2.2.1 x.2.2.2.1 x.2.2.2.2.1 x.2.2.2.2.2.1 x.2.2.2.2.2.2.1 x.2.2.2.2.2.2.2.1 x.2.2.2.2.2.2.2.2.1 x.2.2.2.2.2.2.2.2.2.1 x.2.2.2.2.2.2.2.2.2.2.1 x.2.2.2.2.2.2.2.2.2.2.2.1 x.2.2.2.2.2.2.2.2.2.2.2.2 h (fun _ h => zb h fun q => zj q) (fun _ h => zb h fun q => q))
  | inr x =>
   replace h : sem (Za (uT r) (ua r)) (YN x.1 x.2.1 x.2.2.1 x.2.2.2.1 x.2.2.2.2.1 x.2.2.2.2.2.1 x.2.2.2.2.2.2.1 x.2.2.2.2.2.2.2.1 x.2.2.2.2.2.2.2.2.1 x.2.2.2.2.2.2.2.2.2.1 x.2.2.2.2.2.2.2.2.2.2.1 x.2.2.2.2.2.2.2.2.2.2.2.1 x.2.2.2.2.2.2.2.2.2.2.2.2.1 x.2.2.2.2.2.2.2.2.2.2.2.2.2) := h
   exact zkU x.1 x.2.1 x.2.2.1 x.2.2.2.1 x.2.2.2.2.1 x.2.2.2.2.2.1 x.2.2.2.2.2.2.1 x.2.2.2.2.2.2.2.1 x.2.2.2.2.2.2.2.2.1 x.2.2.2.2.2.2.2.2.2.1 x.2.2.2.2.2.2.2.2.2.2.1 x.2.2.2.2.2.2.2.2.2.2.2.1 x.2.2.2.2.2.2.2.2.2.2.2.2.1 x.2.2.2.2.2.2.2.2.2.2.2.2.2 r (zm4 _ _ _ _ x.1 x.2.1 x.2.2.1 x.2.2.2.1 x.2.2.2.2.1 x.2.2.2.2.2.1 x.2.2.2.2.2.2.1 x.2.2.2.2.2.2.2.1 x.2.2.2.2.2.2.2.2.1 x.2.2.2.2.2.2.2.2.2.1 x.2.2.2.2.2.2.2.2.2.2.1 x.2.2.2.2.2.2.2.2.2.2.2.1 x.2.2.2.2.2.2.2.2.2.2.2.2.1 x.2.2.2.2.2.2.2.2.2.2.2.2.2 h (fun _ h => zb h fun q => zj q) (fun _ h => zb h fun q => q))) FU x
noncomputable def zbl (a0 a1 a2 a3 a4 a5 : Int) (a6 : Bool) (a7 a8 : List (Int × Int)) (a9 : List Int) (a10 : List (Int × Int)) : Option ((Bool × Int × Int × Int × Int × Int × Bool × (List (Int × Int)) × (List Int) × (List (Int × Int))) ⊕ (Bool × Int × Int × Int × Int × Int × Bool × (List (Int × Int)) × (List Int) × (List (Int × Int)) × (List (Int × Int)))) := uM some zfT a0 a1 a2 a3 a4 a5 a6 a7 a8 a9 a10
theorem zzR (a0 a1 a2 a3 a4 a5 : Int) (a6 : Bool) (a7 a8 : List (Int × Int)) (a9 : List Int) (a10 : List (Int × Int)) (r : zL) : TqH 6 zaR zf8 zdk zgl zcF r [.ptr 0 [] (0), .v (.int .i64 a0)] [(0, some ⟨true, .box (.rc [.ptr 1 [] (0), .v (.int .u16 a1), .sl 5, .v (.int .i64 a2), .v (.int .i64 a3), .v (.int .i64 a4), .v (.int .i64 a5), .v (.bool a6)])⟩), (1, some ⟨true, .box (.rc [.sl 2, .sl 3, .sl 4])⟩), (2, some ⟨false, .arr (.st [(.i .i8), (.i .u16)]) a7⟩), (3, some ⟨true, .arr (.st [(.i .i8), (.i .i16)]) a8⟩), (4, some ⟨true, .arr (.one (.i .i64)) a9⟩), (5, some ⟨true, .arr (.st [(.i .i8), (.i .i16)]) a10⟩)] = uM (fun v => some (X4 v)) (WA r) a0 a1 a2 a3 a4 a5 a6 a7 a8 a9 a10 := by kernel_rfl
theorem zAE (a0 a1 a2 a3 a4 a5 : Int) (a6 : Bool) (a7 a8 : List (Int × Int)) (a9 : List Int) (a10 : List (Int × Int)) (v : (Bool × Int × Int × Int × Int × Int × Bool × (List (Int × Int)) × (List Int) × (List (Int × Int))) ⊕ (Bool × Int × Int × Int × Int × Int × Bool × (List (Int × Int)) × (List Int) × (List (Int × Int)) × (List (Int × Int)))) (h : zbl a0 a1 a2 a3 a4 a5 a6 a7 a8 a9 a10 = some v) : uM (fun v => some (X4 v)) (WA (X4 v)) a0 a1 a2 a3 a4 a5 a6 a7 a8 a9 a10 = some (X4 v) :=
 zxG _ _ _ _ a0 a1 a2 a3 a4 a5 a6 a7 a8 a9 a10 (show sem (fun w => X4 v = X4 w) (zbl a0 a1 a2 a3 a4 a5 a6 a7 a8 a9 a10) from ⟨v, h, rfl⟩) (fun _ h => zb h fun q => zj q) (zwp (X4 v))
noncomputable def zDK : Zq := fun xs hp => match xs, hp with
 | [.ptr 0 [] (0), .v (.int .i64 a0)], [(0, some ⟨true, .box (.rc [.ptr 1 [] (0), .v (.int .u16 a1), .sl 5, .v (.int .i64 a2), .v (.int .i64 a3), .v (.int .i64 a4), .v (.int .i64 a5), .v (.bool a6)])⟩), (1, some ⟨true, .box (.rc [.sl 2, .sl 3, .sl 4])⟩), (2, some ⟨false, .arr (.st [(.i .i8), (.i .u16)]) a7⟩), (3, some ⟨true, .arr (.st [(.i .i8), (.i .i16)]) a8⟩), (4, some ⟨true, .arr (.one (.i .i64)) a9⟩), (5, some ⟨true, .arr (.st [(.i .i8), (.i .i16)]) a10⟩)] => .two (Bool × Int × Int × Int × Int × Int × Bool × (List (Int × Int)) × (List Int) × (List (Int × Int))) (Bool × Int × Int × Int × Int × Int × Bool × (List (Int × Int)) × (List Int) × (List (Int × Int)) × (List (Int × Int))) (zbl a0 a1 a2 a3 a4 a5 a6 a7 a8 a9 a10) zop zo4
 | _, _ => Z5.fail
theorem zod : yo Tryz.prog 103 zDK := by
 refine Wb zw8 zdk zgl zcF 2 6 zaR Tryz.func103 fun xs hp => ?_
 unfold zDK
 split
 ·rename_i a0 a1 a2 a3 a4 a5 a6 a7 a8 a9 a10; intro v h; exact ⟨rfl, ⟨rfl, rfl⟩, (zzR a0 a1 a2 a3 a4 a5 a6 a7 a8 a9 a10 _).trans (zAE a0 a1 a2 a3 a4 a5 a6 a7 a8 a9 a10 v h)⟩
 ·intro v h; cases h
end
noncomputable def UV : Nat → zpg
 | 0 => ⟨fun _ _ _ _ _ _ _ _ _ _ => none, fun _ _ _ _ _ _ _ _ _ _ _ => none⟩
 | k + 1 => ⟨@zbe ⟨UV k⟩, @zbl ⟨UV k⟩⟩
theorem UL : ∀ k, @zjR ⟨UV k⟩
 | 0 => @zjR.mk ⟨UV 0⟩ (vp fun xs hp => by unfold WD; split <;> rfl) (vp fun xs hp => by unfold Wn; split <;> rfl)
 | k + 1 => @zjR.mk ⟨UV (k + 1)⟩ (@zn8 ⟨UV k⟩ (UL k)) (@zod ⟨UV k⟩ (UL k))
noncomputable instance zV9 : u0 := ⟨UV 13⟩
instance zWb : zjR := UL 13
noncomputable def zBP := zu Tryz.f65
noncomputable def zB9 : Ctx := ⟨TT, zr [(102, zDa)], zw, (WF [(101, V3), (103, WD)])⟩
def ztB : List (Nat × zE) := []
def zxh : List ResultVar := [.tmp 6, .tmp 7, .tmp 8]
theorem zFR : zq Tryz.prog zB9 := yF tab mix (l := [(102, zDa)]) ⟨⟨Tryz.call102, zzM⟩, trivial⟩ xD (Yn (l := [(101, V3), (103, WD)]) ⟨⟨Tryz.call101, zgL⟩, ⟨Tryz.call103, UX⟩, trivial⟩)
abbrev zTG := ((List (Int × Int)) × Int × Bool)
noncomputable def zps (r : (List (Int × Int)) × Int × Bool) : List A := [.lst (.st [(.i .i8), (.i .i16)]) r.1, .v (.int .i64 r.2.1), .v (.bool r.2.2)]
section
variable {R R' : Type} {S : R → Prop} {r : R'} (E : zTG → Option R) (E' : zTG → Option R')
noncomputable def znk (a0 : List (Int × Int)) (a1 a2 : Int) : Option R := (Option.bind (WW a1 a0) fun r1 => (Option.bind (zlz a0 a1) fun r2 => (yR ((u0.c).a 0 0 0 r2 0 a2 false a0 (r1.1) (r1.2)) (fun r3 => (E ([], (r3.2.2.1), (!r3.2.2.2.2.2.2.1)))) (fun r4 => (E ((r4.2.2.2.2.2.2.2.2.2), (r4.2.2.1), (!r4.2.2.2.2.2.2.1)))))))
theorem zFO (a0 : List (Int × Int)) (a1 a2 : Int) (h : sem S (znk E a0 a1 a2)) (hE : zJ S r E E') : znk E' a0 a1 a2 = some r := by
 revert h
 unfold znk
 repeat' first | refine zy ?_ ?_ | refine zA fun _ => ?_ | exact zz | exact hE _ | refine zp (fun _ => ?_) (fun _ => ?_)
end
noncomputable def zlp (a0 : List (Int × Int)) (a1 a2 : Int) : Option ((List (Int × Int)) × Int × Bool) := znk some a0 a1 a2
theorem zKq (a0 : List (Int × Int)) (a1 a2 : Int) (r : List A) : Tq zB9 ztB zBP zxh r [.lst (.st [(.i .i8), (.i .u16)]) a0, .v (.int .i64 a1), .v (.int .i64 a2)] = znk (fun v => some (zps v)) a0 a1 a2 := by kernel_rfl
theorem zRF (a0 : List (Int × Int)) (a1 a2 : Int) (v : (List (Int × Int)) × Int × Bool) (h : zlp a0 a1 a2 = some v) : znk (fun v => some (zps v)) a0 a1 a2 = some (zps v) :=
 zFO _ _ a0 a1 a2 (show sem (fun w => zps v = zps w) (zlp a0 a1 a2) from ⟨v, h, rfl⟩) (fun _ h => zb h fun q => zj q)
noncomputable def zQC : List A → ze
 | [.lst (.st [(.i .i8), (.i .u16)]) a0, .v (.int .i64 a1), .v (.int .i64 a2)] => ⟨((List (Int × Int)) × Int × Bool), zlp a0 a1 a2, fun r => .tup [.lst (.st [(.i .i8), (.i .i16)]) r.1, .v (.int .i64 r.2.1), .v (.bool r.2.2)]⟩
 | _ => ze.fail
theorem zyZ : zC Tryz.prog 65 zQC := by
 refine good zFR ztB zBP zxh 3 Tryz.func65 fun rs => ?_
 unfold zQC
 split
 ·rename_i a0 a1 a2; intro v h; exact ⟨rfl, zps v, rfl, (zKq a0 a1 a2 _).trans (zRF a0 a1 a2 v h)⟩
 ·intro v h; cases h
noncomputable def zC6 := zu Tryz.f22
noncomputable def zEn : Ctx := ⟨TT, zr [(54, vy), (58, zxS), (63, zuB), (64, zvV), (65, zQC)], zw, zU⟩
def zzB : List (Nat × zE) := []
def zAf : List ResultVar := [.tmp 6, .tmp 7, .tmp 8]
theorem zIA : zq Tryz.prog zEn := zo tab mix ⟨⟨Tryz.call54, yP⟩, ⟨Tryz.call58, zan⟩, ⟨Tryz.call63, zaD⟩, ⟨Tryz.call64, zak⟩, ⟨Tryz.call65, zyZ⟩, trivial⟩
abbrev zTS := ((List (Int × Int)) × Int × Int)
noncomputable def zos (r : (List (Int × Int)) × Int × Int) : List A := [.lst (.st [(.i .i8), (.i .i16)]) r.1, .v (.int .i64 r.2.1), .v (.int .i64 r.2.2)]
section
variable {R R' : Type} {S : R → Prop} {r : R'} (E : zTS → Option R) (E' : zTS → Option R')
noncomputable def zlS (a0 : List (Int × Int)) (a1 a2 : Int) : Option R := (Option.bind (zcj a0) fun r1 => (cond (W1 a1) (cond ((ZG r1 (yf a2 0 20000)) != 0) (E ([], 0, (ZG r1 (yf a2 0 20000)))) (Option.bind (zlp a0 a1 a2) fun r2 => (cond (!r2.2.2) (E ([], 0, 7)) (E ((r2.1), (r2.2.1), 0))))) (cond ((ZG r1 false) != 0) (E ([], 0, (ZG r1 false))) (Option.bind (zlp a0 a1 a2) fun r3 => (cond (!r3.2.2) (E ([], 0, 7)) (E ((r3.1), (r3.2.1), 0)))))))
theorem zJF (a0 : List (Int × Int)) (a1 a2 : Int) (h : sem S (zlS E a0 a1 a2)) (hE : zJ S r E E') : zlS E' a0 a1 a2 = some r := by
 revert h
 unfold zlS
 repeat' first | refine zy ?_ ?_ | refine zA fun _ => ?_ | exact zz | exact hE _ | refine zp (fun _ => ?_) (fun _ => ?_)
end
noncomputable def zkw (a0 : List (Int × Int)) (a1 a2 : Int) : Option ((List (Int × Int)) × Int × Int) := zlS some a0 a1 a2
theorem zG9 (a0 : List (Int × Int)) (a1 a2 : Int) (r : List A) : Tq zEn zzB zC6 zAf r [.lst (.st [(.i .i8), (.i .u16)]) a0, .v (.int .i64 a1), .v (.int .i64 a2)] = zlS (fun v => some (zos v)) a0 a1 a2 := by kernel_rfl
theorem zNU (a0 : List (Int × Int)) (a1 a2 : Int) (v : (List (Int × Int)) × Int × Int) (h : zkw a0 a1 a2 = some v) : zlS (fun v => some (zos v)) a0 a1 a2 = some (zos v) :=
 zJF _ _ a0 a1 a2 (show sem (fun w => zos v = zos w) (zkw a0 a1 a2) from ⟨v, h, rfl⟩) (fun _ h => zb h fun q => zj q)
noncomputable def zNx : List A → ze
 | [.lst (.st [(.i .i8), (.i .u16)]) a0, .v (.int .i64 a1), .v (.int .i64 a2)] => ⟨((List (Int × Int)) × Int × Int), zkw a0 a1 a2, fun r => .tup [.lst (.st [(.i .i8), (.i .i16)]) r.1, .v (.int .i64 r.2.1), .v (.int .i64 r.2.2)]⟩
 | _ => ze.fail
theorem zzE : zC Tryz.prog 22 zNx := by
 refine good zIA zzB zC6 zAf 3 Tryz.func22 fun rs => ?_
 unfold zNx
 split
 ·rename_i a0 a1 a2; intro v h; exact ⟨rfl, zos v, rfl, (zG9 a0 a1 a2 _).trans (zNU a0 a1 a2 v h)⟩
 ·intro v h; cases h
end Go.RR
