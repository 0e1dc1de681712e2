/- Images and palettes that are drawn. -/
import Derived.Test.YtbmaolhjplapoaaGreatVy
set_option linter.unusedVariables false
set_option linter.unusedSimpArgs false
set_option linter.unusedSectionVars false
set_option maxRecDepth 100000
namespace Go.RR
open Go Go.Proofs
open Go.IntKind (wrap)
noncomputable def vx := zu Tryz.f120
noncomputable def vm : Ctx := ⟨TT, zr [], zw, (WF [(70, zQ)])⟩
def WO : List (Nat × zE) := []
def W9 : List ResultVar := [.tmp 4]
noncomputable def Wa : List (Nat × Option Blk) := [(0, some ⟨true, .box (.rc [.sl 1, .v (.bool false), .v (.bool false)])⟩), (1, some ⟨false, .arr (.one (.i .u8)) []⟩), (2, some ⟨true, .arr (.one (.i .i64)) []⟩)]
theorem zb1 : zq Tryz.prog vm := yF tab mix (l := []) trivial xD (Yn (l := [(70, zQ)]) ⟨⟨Tryz.call70, ye⟩, trivial⟩)
noncomputable def y8 (a0 a1 : Int) (a2 a3 : List Int) : Option (Int × Int × Int × (List Int)) := (Option.bind (zm (a3.length : Int) a0 a1 a2) fun r1 => (cond (inB r1.1 a3.length) (some ((List.getD a3 (Int.toNat r1.1) 0), (r1.2.1), (r1.2.2), a3)) none))
theorem zb5 (a0 a1 : Int) (a2 a3 : List Int) (r : zL) : TqH 3 Wa vm WO vx W9 r [.ptr 0 [] (0), .sl 2] [(0, some ⟨true, .box (.rc [.sl 1, .v (.int .i64 a0), .v (.int .u64 a1)])⟩), (1, some ⟨false, .arr (.one (.i .u8)) a2⟩), (2, some ⟨true, .arr (.one (.i .i64)) a3⟩)] = (Option.bind (zm (a3.length : Int) a0 a1 a2) fun r1 => (cond (inB r1.1 a3.length) (some ⟨.a (.v (.int .i64 (List.getD a3 (Int.toNat r1.1) 0))), [(0, some ⟨true, .box (.rc [.sl 1, .v (.int .i64 r1.2.1), .v (.int .u64 r1.2.2)])⟩), (2, some ⟨true, .arr (.one (.i .i64)) a3⟩)], 3⟩) none)) := by kernel_rfl
noncomputable def Yz (r : Int × Int × Int × (List Int)) : zL := ⟨.a (.v (.int .i64 r.1)), [(0, some ⟨true, .box (.rc [.sl 1, .v (.int .i64 r.2.1), .v (.int .u64 r.2.2.1)])⟩), (2, some ⟨true, .arr (.one (.i .i64)) r.2.2.2⟩)], 3⟩
theorem zcR (a0 a1 : Int) (a2 a3 : List Int) (v : Int × Int × Int × (List Int)) (h : y8 a0 a1 a2 a3 = some v) : (Option.bind (zm (a3.length : Int) a0 a1 a2) fun r1 => (cond (inB r1.1 a3.length) (some ⟨.a (.v (.int .i64 (List.getD a3 (Int.toNat r1.1) 0))), [(0, some ⟨true, .box (.rc [.sl 1, .v (.int .i64 r1.2.1), .v (.int .u64 r1.2.2)])⟩), (2, some ⟨true, .arr (.one (.i .i64)) a3⟩)], 3⟩) none)) = some (Yz v) := by
 refine Eq.trans (b := Option.map Yz (y8 a0 a1 a2 a3)) ?_ (by rw [h]; rfl)
 unfold y8
 exact (zV fun _ => (zM (Option.map Yz) rfl rfl))
noncomputable def YA : Zq := fun xs hp => match xs, hp with
 | [.ptr 0 [] (0), .sl 2], [(0, some ⟨true, .box (.rc [.sl 1, .v (.int .i64 a0), .v (.int .u64 a1)])⟩), (1, some ⟨false, .arr (.one (.i .u8)) a2⟩), (2, some ⟨true, .arr (.one (.i .i64)) a3⟩)] => .one (Int × Int × Int × (List Int)) (y8 a0 a1 a2 a3) Yz
 | _, _ => Z5.fail
theorem Un : yo Tryz.prog 120 YA := by
 refine Wb zb1 WO vx W9 2 3 Wa Tryz.func120 fun xs hp => ?_
 unfold YA
 split
 ·rename_i a0 a1 a2 a3; intro v h; exact ⟨rfl, ⟨rfl, rfl⟩, (zb5 a0 a1 a2 a3 _).trans (zcR a0 a1 a2 a3 v h)⟩
 ·intro v h; cases h
noncomputable def zeH := zu Tryz.f82
noncomputable def zeI : Ctx := ⟨TT, zr [], zw, (WF [(120, YA), (70, zQ), (80, xl)])⟩
def zcd : List (Nat × zE) := []
def zcy : List ResultVar := [.cell 2 35]
noncomputable def zal : List (Nat × Option Blk) := [(0, some ⟨true, .box (.rc [.sl 1, .v (.bool false), .v (.bool false)])⟩), (1, some ⟨false, .arr (.one (.i .u8)) []⟩)]
theorem zjN : zq Tryz.prog zeI := yF tab mix (l := []) trivial xD (Yn (l := [(120, YA), (70, zQ), (80, xl)]) ⟨⟨Tryz.call120, Un⟩, ⟨Tryz.call70, ye⟩, ⟨Tryz.call80, Yt⟩, trivial⟩)
abbrev znf := ((Nat → Int) × Int × Int)
noncomputable def XN (r : (Nat → Int) × Int × Int) : zL := ⟨.a (.fa 3 .u8 r.1), [(0, some ⟨true, .box (.rc [.sl 1, .v (.int .i64 r.2.1), .v (.int .u64 r.2.2)])⟩)], 2⟩
section
variable {R R' : Type} {S : R → Prop} {r : R'} (E : znf → Option R) (E' : znf → Option R')
noncomputable def YE (a0 a1 : Int) (a2 : List Int) : Option R := (Option.bind (yG 3 a0 a1 a2) fun r1 => (cond r1.1 (Option.bind (y8 (r1.2.1) (r1.2.2) a2 [0, 64, 128, 192, 255]) fun r2 => (E ((upd (upd (upd zF 0 (wrap .u8 r2.1)) 1 (wrap .u8 r2.1)) 2 (wrap .u8 r2.1)), (r2.2.1), (r2.2.2.1)))) (Option.bind (zm 256 (r1.2.1) (r1.2.2) a2) fun r3 => (Option.bind (zm 256 (r3.2.1) (r3.2.2) a2) fun r4 => (Option.bind (zm 256 (r4.2.1) (r4.2.2) a2) fun r5 => (E ((upd (upd (upd zF 0 (wrap .u8 r3.1)) 1 (wrap .u8 r4.1)) 2 (wrap .u8 r5.1)), (r5.2.1), (r5.2.2))))))))
theorem zlR (a0 a1 : Int) (a2 : List Int) (h : sem S (YE E a0 a1 a2)) (hE : zJ S r E E') : YE E' a0 a1 a2 = some r := by
 revert h
 unfold YE
 repeat' first | refine zy ?_ ?_ | refine zA fun _ => ?_ | exact zz | exact hE _ | refine zp (fun _ => ?_) (fun _ => ?_)
end
noncomputable def xv (a0 a1 : Int) (a2 : List Int) : Option ((Nat → Int) × Int × Int) := YE some a0 a1 a2
theorem zlO (a0 a1 : Int) (a2 : List Int) (r : zL) : TqH 2 zal zeI zcd zeH zcy r [.ptr 0 [] (0)] [(0, some ⟨true, .box (.rc [.sl 1, .v (.int .i64 a0), .v (.int .u64 a1)])⟩), (1, some ⟨false, .arr (.one (.i .u8)) a2⟩)] = YE (fun v => some (XN v)) a0 a1 a2 := by kernel_rfl
theorem zn1 (a0 a1 : Int) (a2 : List Int) (v : (Nat → Int) × Int × Int) (h : xv a0 a1 a2 = some v) : YE (fun v => some (XN v)) a0 a1 a2 = some (XN v) :=
 zlR _ _ a0 a1 a2 (show sem (fun w => XN v = XN w) (xv a0 a1 a2) from ⟨v, h, rfl⟩) (fun _ h => zb h fun q => zj q)
noncomputable def XU : Zq := fun xs hp => match xs, hp with
 | [.ptr 0 [] (0)], [(0, some ⟨true, .box (.rc [.sl 1, .v (.int .i64 a0), .v (.int .u64 a1)])⟩), (1, some ⟨false, .arr (.one (.i .u8)) a2⟩)] => .one ((Nat → Int) × Int × Int) (xv a0 a1 a2) XN
 | _, _ => Z5.fail
theorem Vm : yo Tryz.prog 82 XU := by
 refine Wb zjN zcd zeH zcy 1 2 zal Tryz.func82 fun xs hp => ?_
 unfold XU
 split
 ·rename_i a0 a1 a2; intro v h; exact ⟨rfl, ⟨rfl, rfl⟩, (zlO a0 a1 a2 _).trans (zn1 a0 a1 a2 v h)⟩
 ·intro v h; cases h
noncomputable def ZX := zu Tryz.f37
noncomputable def Z3 : Ctx := ⟨TT, zr [(83, zvG)], zw, (WF [(70, zQ), (82, XU)])⟩
def ZA : List (Nat × zE) := [(3, ([0, 5, 6], [], []))]
def ZD : List ResultVar := [.tmp 4]
noncomputable def Zn : List (Nat × Option Blk) := [(0, some ⟨true, .box (.rc [.sl 1, .v (.bool false), .v (.bool false)])⟩), (1, some ⟨false, .arr (.one (.i .u8)) []⟩)]
noncomputable def yE := LqH 2 Zn Z3 ZA ZX ZD
theorem uU : zq Tryz.prog Z3 := yF tab mix (l := [(83, zvG)]) ⟨⟨Tryz.call83, zhq⟩, trivial⟩ xD (Yn (l := [(70, zQ), (82, XU)]) ⟨⟨Tryz.call70, ye⟩, ⟨Tryz.call82, Vm⟩, trivial⟩)
noncomputable def yx (x0 x1 x2 : Int) (x3 : List Int) (x4 : List (Nat → Int)) : AS := ⟨[(0, .a (.ptr 0 [] (0))), (5, .a (.sl 2)), (6, .a (.v (.int .i64 x0)))], [(0, some ⟨true, .box (.rc [.sl 1, .v (.int .i64 x1), .v (.int .u64 x2)])⟩), (1, some ⟨false, .arr (.one (.i .u8)) x3⟩), (2, some ⟨true, .arr (.one (.fa 3 .u8)) x4⟩)], 3⟩
noncomputable def yB (r : Int × Int × (List (Nat → Int))) : zL := ⟨.a (.sl 2), [(0, some ⟨true, .box (.rc [.sl 1, .v (.int .i64 r.1), .v (.int .u64 r.2.1)])⟩), (2, some ⟨true, .arr (.one (.fa 3 .u8)) r.2.2⟩)], 3⟩
theorem vU (x0 x1 x2 : Int) (x3 : List Int) (x4 : List (Nat → Int)) (r : zL) (h : (cond (decide (x0 > 0)) (cond (zW ((List.length ([] : List (Nat → Int)) + List.length (x4 : List (Nat → Int))) * 3)) (Option.bind (xv x1 x2 x3) fun r3 => (cond (zW ((List.length (([] ++ x4) : List (Nat → Int)) + List.length ([r3.1] : List (Nat → Int))) * 3)) (Option.bind (UN (([] ++ x4) ++ [r3.1])) fun r4 => (cond r4 (yE r 3 (yx (wrap .i64 (x0 - 1)) r3.2.1 r3.2.2 x3 (([] ++ x4) ++ [r3.1]))) (yE r 3 (yx (wrap .i64 (x0 - 1)) r3.2.1 r3.2.2 x3 x4)))) none)) none) (some ⟨.a (.sl 2), [(0, some ⟨true, .box (.rc [.sl 1, .v (.int .i64 x1), .v (.int .u64 x2)])⟩), (2, some ⟨true, .arr (.one (.fa 3 .u8)) x4⟩)], 3⟩)) = some r) : yE r 3 (yx x0 x1 x2 x3 x4) = some r :=
 zn h (by kernel_rfl)
noncomputable def zZ (x0 x1 x2 : Int) (x3 : List Int) (x4 : List (Nat → Int)) : Option ((Int × Int × Int × (List Int) × (List (Nat → Int))) ⊕ (Int × Int × (List (Nat → Int)))) := (cond (decide (x0 > 0)) (cond (zW ((List.length ([] : List (Nat → Int)) + List.length (x4 : List (Nat → Int))) * 3)) (Option.bind (xv x1 x2 x3) fun r3 => (cond (zW ((List.length (([] ++ x4) : List (Nat → Int)) + List.length ([r3.1] : List (Nat → Int))) * 3)) (Option.bind (UN (([] ++ x4) ++ [r3.1])) fun r4 => (cond r4 (some (Sum.inl ((wrap .i64 (x0 - 1)), r3.2.1, r3.2.2, x3, (([] ++ x4) ++ [r3.1])))) (some (Sum.inl ((wrap .i64 (x0 - 1)), r3.2.1, r3.2.2, x3, x4))))) none)) none) (some (Sum.inr (x1, x2, x4))))
noncomputable def xX (x : Int × Int × Int × (List Int) × (List (Nat → Int))) : Option (Int × Int × (List (Nat → Int))) := zI (fun x => zZ x.1 x.2.1 x.2.2.1 x.2.2.2.1 x.2.2.2.2) FU x
noncomputable def Um (r : zL) (x : Int × Int × Int × (List Int) × (List (Nat → Int))) : Prop := yE r 3 (yx x.1 x.2.1 x.2.2.1 x.2.2.2.1 x.2.2.2.2) = some r
noncomputable def Uo (r : zL) : (Int × Int × (List (Nat → Int))) → Prop := fun v => r = yB v
theorem V1 (r : zL) : ∀ x, sem (Uo r) (xX x) → Um r x :=
 fun x => zi (step := fun x => zZ x.1 x.2.1 x.2.2.1 x.2.2.2.1 x.2.2.2.2) (fun x h => by
  unfold zZ at h
  exact vU x.1 x.2.1 x.2.2.1 x.2.2.2.1 x.2.2.2.2 r ((za h (fun h => (za h (fun h => (zT h fun r3 h => (za h (fun h => (zT h fun r4 h => (za h (fun h => zb h fun q => q) (fun h => zb h fun q => q)))) (fun h => zf h)))) (fun h => zf h))) (fun h => zb h fun q => zj q)))) FU x
noncomputable def yg (a0 a1 a2 : Int) (a3 : List Int) : Option (Int × Int × (List (Nat → Int))) := (Option.bind (xv a1 a2 a3) fun r1 => (Option.bind (zm a0 (r1.2.1) (r1.2.2) a3) fun r2 => (xX (r2.1, r2.2.1, r2.2.2, a3, [r1.1]))))
theorem V7 (a0 a1 a2 : Int) (a3 : List Int) (r : zL) : TqH 2 Zn Z3 ZA ZX ZD r [.ptr 0 [] (0), .v (.int .i64 a0)] [(0, some ⟨true, .box (.rc [.sl 1, .v (.int .i64 a1), .v (.int .u64 a2)])⟩), (1, some ⟨false, .arr (.one (.i .u8)) a3⟩)] = (Option.bind (xv a1 a2 a3) fun r1 => (Option.bind (zm a0 (r1.2.1) (r1.2.2) a3) fun r2 => (yE r 3 (yx r2.1 r2.2.1 r2.2.2 a3 [r1.1])))) := by kernel_rfl
theorem Uk (a0 a1 a2 : Int) (a3 : List Int) (v : Int × Int × (List (Nat → Int))) (h : yg a0 a1 a2 a3 = some v) : (Option.bind (xv a1 a2 a3) fun r1 => (Option.bind (zm a0 (r1.2.1) (r1.2.2) a3) fun r2 => (yE (yB v) 3 (yx r2.1 r2.2.1 r2.2.2 a3 [r1.1])))) = some (yB v) := by
 replace h : sem (fun w => yB v = yB w) (yg a0 a1 a2 a3) := ⟨v, h, rfl⟩
 unfold yg at h
 exact (zT h fun r1 h => (zT h fun r2 h => V1 (yB v) _ h))
noncomputable def yS : Zq := fun xs hp => match xs, hp with
 | [.ptr 0 [] (0), .v (.int .i64 a0)], [(0, some ⟨true, .box (.rc [.sl 1, .v (.int .i64 a1), .v (.int .u64 a2)])⟩), (1, some ⟨false, .arr (.one (.i .u8)) a3⟩)] => .one (Int × Int × (List (Nat → Int))) (yg a0 a1 a2 a3) yB
 | _, _ => Z5.fail
theorem Yx : yo Tryz.prog 37 yS := by
 refine Wb uU ZA ZX ZD 2 2 Zn Tryz.func37 fun xs hp => ?_
 unfold yS
 split
 ·rename_i a0 a1 a2 a3; intro v h; exact ⟨rfl, ⟨rfl, rfl⟩, (V7 a0 a1 a2 a3 _).trans (Uk a0 a1 a2 a3 v h)⟩
 ·intro v h; cases h
noncomputable def zCV := zu Tryz.f10
noncomputable def zEB : Ctx := ⟨TT, zr [], zw, (WF [(30, yJ), (37, yS)])⟩
def zux : List (Nat × zE) := []
def zuN : List ResultVar := [.tmp 2]
theorem zKe : zq Tryz.prog zEB := yF tab mix (l := []) trivial xD (Yn (l := [(30, yJ), (37, yS)]) ⟨⟨Tryz.call30, xn⟩, ⟨Tryz.call37, Yx⟩, trivial⟩)
noncomputable def znz (a0 : List Int) : Option (List (Nat → Int)) := (Option.bind (yg 5 (zx a0).1 (zx a0).2 a0) fun r1 => (some (r1.2.2)))
theorem zLE (a0 : List Int) (r : List A) : Tq zEB zux zCV zuN r [.lst (.one (.i .u8)) a0] = (Option.bind (yg 5 (zx a0).1 (zx a0).2 a0) fun r1 => (some [.lst (.one (.fa 3 .u8)) r1.2.2])) := by kernel_rfl
noncomputable def zLS (r : List (Nat → Int)) : List A := [.lst (.one (.fa 3 .u8)) r]
theorem zR5 (a0 : List Int) (v : List (Nat → Int)) (h : znz a0 = some v) : (Option.bind (yg 5 (zx a0).1 (zx a0).2 a0) fun r1 => (some [.lst (.one (.fa 3 .u8)) r1.2.2])) = some (zLS v) := by
 refine Eq.trans (b := Option.map zLS (znz a0)) ?_ (by rw [h]; rfl)
 unfold znz
 exact (zV fun _ => rfl)
noncomputable def zOz : List A → ze
 | [.lst (.one (.i .u8)) a0] => ⟨(List (Nat → Int)), znz a0, fun r => .one (.lst (.one (.fa 3 .u8)) r)⟩
 | _ => ze.fail
theorem zw5 : zC Tryz.prog 10 zOz := by
 refine good zKe zux zCV zuN 1 Tryz.func10 fun rs => ?_
 unfold zOz
 split
 ·rename_i a0; intro v h; exact ⟨rfl, zLS v, rfl, (zLE a0 _).trans (zR5 a0 v h)⟩
 ·intro v h; cases h
noncomputable def vL := zu Tryz.f36
noncomputable def vJ : Ctx := ⟨TT, zr [(81, zpw)], zw, (WF [(37, yS), (70, zQ), (80, xl), (82, XU)])⟩
def WC : List (Nat × zE) := [(5, ([0, 2, 3, 4, 5, 6], [], []))]
def WP : List ResultVar := [.cell 2 38]
noncomputable def w0 : List (Nat × Option Blk) := [(0, some ⟨true, .box (.rc [.sl 1, .v (.bool false), .v (.bool false)])⟩), (1, some ⟨false, .arr (.one (.i .u8)) []⟩)]
noncomputable def zcC := LqH 2 w0 vJ WC vL WP
theorem zh8 : zq Tryz.prog vJ := yF tab mix (l := [(81, zpw)]) ⟨⟨Tryz.call81, zag⟩, trivial⟩ xD (Yn (l := [(37, yS), (70, zQ), (80, xl), (82, XU)]) ⟨⟨Tryz.call37, Yx⟩, ⟨Tryz.call70, ye⟩, ⟨Tryz.call80, Yt⟩, ⟨Tryz.call82, Vm⟩, trivial⟩)
noncomputable def Uv (x0 : Bool) (x1 x2 x3 : Int) (x4 : List Int) (x5 x6 : Int) (x7 : Nat → Nat → Int) (x8 x9 : Int) (x10 : Nat → Nat → Int) (x11 : List (Nat → Int)) : AS := ⟨[(0, .a (.ptr 0 [] (0))), (2, .a (.ptr 2 [] (0))), (3, .a (.ptr 3 [] (0))), (4, .a (.sl 4)), (5, .a (.v (.bool x0))), (6, .a (.v (.int .i64 x1)))], [(0, some ⟨true, .box (.rc [.sl 1, .v (.int .i64 x2), .v (.int .u64 x3)])⟩), (1, some ⟨false, .arr (.one (.i .u8)) x4⟩), (2, some ⟨true, .box (.rc [.v (.int .i8 x5), .v (.int .i8 x6), .fa2 144 3 .u8 x7])⟩), (3, some ⟨true, .box (.rc [.v (.int .i8 x8), .v (.int .i8 x9), .fa2 144 3 .u8 x10])⟩), (4, some ⟨true, .arr (.one (.fa 3 .u8)) x11⟩)], 5⟩
abbrev UD := (Int × Int × (Nat → Nat → Int) × Int × Int)
noncomputable def Zl (r : Int × Int × (Nat → Nat → Int) × Int × Int) : zL := ⟨.a (.rc [.v (.int .i8 r.1), .v (.int .i8 r.2.1), .fa2 144 3 .u8 r.2.2.1]), [(0, some ⟨true, .box (.rc [.sl 1, .v (.int .i64 r.2.2.2.1), .v (.int .u64 r.2.2.2.2)])⟩)], 2⟩
abbrev Zv := (Bool × Int × Int × Int × (List Int) × Int × Int × (Nat → Nat → Int) × Int × Int × (Nat → Nat → Int) × (List (Nat → Int)))
abbrev vM := UD
section
variable {R R' : Type} {S : R → Prop} {r : R'} (E : UD → Option R) (E' : UD → Option R') (G5 : Zv → Option R) (G5' : Zv → Option R')
noncomputable def xL (x0 : Bool) (x1 x2 x3 : Int) (x4 : List Int) (x5 x6 : Int) (x7 : Nat → Nat → Int) (x8 x9 : Int) (x10 : Nat → Nat → Int) (x11 : List (Nat → Int)) : Option R := (cond (decide (x1 < 144)) (cond (!(VH x8 x9 x10 x1)) (G5 (x0, (wrap .i64 (x1 + 1)), x2, x3, x4, x5, x6, x7, x8, x9, x10, x11)) (Option.bind (zm (x11.length : Int) x2 x3 x4) fun r5 => (cond (inB r5.1 x11.length) (cond (inB x1 144) (cond x0 (Option.bind (xv (r5.2.1) (r5.2.2) x4) fun r6 => (cond (inB x1 144) (G5 (x0, (wrap .i64 (x1 + 1)), r6.2.1, r6.2.2, x4, x5, x6, x7, x8, x9, (Wg (Wg x10 (Int.toNat x1) (List.getD x11 (Int.toNat r5.1) zF)) (Int.toNat x1) r6.1), x11)) none)) (G5 (x0, (wrap .i64 (x1 + 1)), r5.2.1, r5.2.2, x4, x5, x6, x7, x8, x9, (Wg x10 (Int.toNat x1) (List.getD x11 (Int.toNat r5.1) zF)), x11))) none) none))) (E (x8, x9, x10, x2, x3)))
theorem zep (x0 : Bool) (x1 x2 x3 : Int) (x4 : List Int) (x5 x6 : Int) (x7 : Nat → Nat → Int) (x8 x9 : Int) (x10 : Nat → Nat → Int) (x11 : List (Nat → Int)) (h : sem S (xL E G5 x0 x1 x2 x3 x4 x5 x6 x7 x8 x9 x10 x11)) (hE : zJ S r E E') (h5 : zJ S r G5 G5') : xL E' G5' x0 x1 x2 x3 x4 x5 x6 x7 x8 x9 x10 x11 = some r := by
 revert h
 unfold xL
 repeat' first | refine zy ?_ ?_ | refine zA fun _ => ?_ | exact zz | exact hE _ | exact h5 _ | refine zp (fun _ => ?_) (fun _ => ?_)
noncomputable def ZS (a0 a1 : Int) (a2 : List Int) : Option R := (Option.bind (zm 5 a0 a1 a2) fun r1 => (Option.bind (zm 4 (r1.2.1) (r1.2.2) a2) fun r2 => (Option.bind (yg 5 (r2.2.1) (r2.2.2) a2) fun r3 => (Option.bind (yG 2 (r3.1) (r3.2.1) a2) fun r4 => (G5 (r4.1, 0, r4.2.1, r4.2.2, a2, 0, 0, zF2, (wrap .i8 (wrap .i64 (1 + r1.1))), (wrap .i8 (wrap .i64 (1 + r2.1))), zF2, r3.2.2))))))
theorem zik (a0 a1 : Int) (a2 : List Int) (h : sem S (ZS G5 a0 a1 a2)) (h5 : zJ S r G5 G5') : ZS G5' a0 a1 a2 = some r := by
 revert h
 unfold ZS
 repeat' first | refine zy ?_ ?_ | refine zA fun _ => ?_ | exact zz | exact h5 _ | refine zp (fun _ => ?_) (fun _ => ?_)
end
noncomputable def Xc (r : zL) (x : Zv) : Option zL := zcC r 5 (Uv x.1 x.2.1 x.2.2.1 x.2.2.2.1 x.2.2.2.2.1 x.2.2.2.2.2.1 x.2.2.2.2.2.2.1 x.2.2.2.2.2.2.2.1 x.2.2.2.2.2.2.2.2.1 x.2.2.2.2.2.2.2.2.2.1 x.2.2.2.2.2.2.2.2.2.2.1 x.2.2.2.2.2.2.2.2.2.2.2)
theorem zfA (x0 : Bool) (x1 x2 x3 : Int) (x4 : List Int) (x5 x6 : Int) (x7 : Nat → Nat → Int) (x8 x9 : Int) (x10 : Nat → Nat → Int) (x11 : List (Nat → Int)) (r : zL) (h : xL (fun v => some (Zl v)) (Xc r) x0 x1 x2 x3 x4 x5 x6 x7 x8 x9 x10 x11 = some r) : zcC r 5 (Uv x0 x1 x2 x3 x4 x5 x6 x7 x8 x9 x10 x11) = some r :=
 zn h (by kernel_rfl)
noncomputable def yH (x0 : Bool) (x1 x2 x3 : Int) (x4 : List Int) (x5 x6 : Int) (x7 : Nat → Nat → Int) (x8 x9 : Int) (x10 : Nat → Nat → Int) (x11 : List (Nat → Int)) : Option (Zv ⊕ vM) := xL (fun v => some (Sum.inr v)) (fun x => some (Sum.inl x)) x0 x1 x2 x3 x4 x5 x6 x7 x8 x9 x10 x11
noncomputable def XJ (x : Zv) : Option vM := zI (fun x => yH x.1 x.2.1 x.2.2.1 x.2.2.2.1 x.2.2.2.2.1 x.2.2.2.2.2.1 x.2.2.2.2.2.2.1 x.2.2.2.2.2.2.2.1 x.2.2.2.2.2.2.2.2.1 x.2.2.2.2.2.2.2.2.2.1 x.2.2.2.2.2.2.2.2.2.2.1 x.2.2.2.2.2.2.2.2.2.2.2) FU x
noncomputable def U5 (r : zL) (x : Zv) : Prop := Xc r x = some r
noncomputable def zaq (r : zL) : vM → Prop := fun v => r = Zl v
theorem zh7 (r : zL) : ∀ x, sem (zaq r) (XJ x) → U5 r x :=
 fun x => zi (G := U5 r) (E := zaq r) (step := fun x => yH x.1 x.2.1 x.2.2.1 x.2.2.2.1 x.2.2.2.2.1 x.2.2.2.2.2.1 x.2.2.2.2.2.2.1 x.2.2.2.2.2.2.2.1 x.2.2.2.2.2.2.2.2.1 x.2.2.2.2.2.2.2.2.2.1 x.2.2.2.2.2.2.2.2.2.2.1 x.2.2.2.2.2.2.2.2.2.2.2) (fun x h => zfA x.1 x.2.1 x.2.2.1 x.2.2.2.1 x.2.2.2.2.1 x.2.2.2.2.2.1 x.2.2.2.2.2.2.1 x.2.2.2.2.2.2.2.1 x.2.2.2.2.2.2.2.2.1 x.2.2.2.2.2.2.2.2.2.1 x.2.2.2.2.2.2.2.2.2.2.1 x.2.2.2.2.2.2.2.2.2.2.2 r (zep _ _ _ _ x.1 x.2.1 x.2.2.1 x.2.2.2.1 x.2.2.2.2.1 x.2.2.2.2.2.1 x.2.2.2.2.2.2.1 x.2.2.2.2.2.2.2.1 x.2.2.2.2.2.2.2.2.1 x.2.2.2.2.2.2.2.2.2.1 x.2.2.2.2.2.2.2.2.2.2.1 x.2.2.2.2.2.2.2.2.2.2.2 h (fun _ h => zb h fun q => zj q) (fun _ h => zb h fun q => q))) FU x
noncomputable def ZL (a0 a1 : Int) (a2 : List Int) : Option (Int × Int × (Nat → Nat → Int) × Int × Int) := ZS XJ a0 a1 a2
theorem zid (a0 a1 : Int) (a2 : List Int) (r : zL) : TqH 2 w0 vJ WC vL WP r [.ptr 0 [] (0)] [(0, some ⟨true, .box (.rc [.sl 1, .v (.int .i64 a0), .v (.int .u64 a1)])⟩), (1, some ⟨false, .arr (.one (.i .u8)) a2⟩)] = ZS (Xc r) a0 a1 a2 := by kernel_rfl
theorem znA (a0 a1 : Int) (a2 : List Int) (v : Int × Int × (Nat → Nat → Int) × Int × Int) (h : ZL a0 a1 a2 = some v) : ZS (Xc (Zl v)) a0 a1 a2 = some (Zl v) :=
 zik _ _ a0 a1 a2 (show sem (fun w => Zl v = Zl w) (ZL a0 a1 a2) from ⟨v, h, rfl⟩) (zh7 (Zl v))
noncomputable def vA : Zq := fun xs hp => match xs, hp with
 | [.ptr 0 [] (0)], [(0, some ⟨true, .box (.rc [.sl 1, .v (.int .i64 a0), .v (.int .u64 a1)])⟩), (1, some ⟨false, .arr (.one (.i .u8)) a2⟩)] => .one (Int × Int × (Nat → Nat → Int) × Int × Int) (ZL a0 a1 a2) Zl
 | _, _ => Z5.fail
theorem zeA : yo Tryz.prog 36 vA := by
 refine Wb zh8 WC vL WP 1 2 w0 Tryz.func36 fun xs hp => ?_
 unfold vA
 split
 ·rename_i a0 a1 a2; intro v h; exact ⟨rfl, ⟨rfl, rfl⟩, (zid a0 a1 a2 _).trans (znA a0 a1 a2 v h)⟩
 ·intro v h; cases h
noncomputable def zDO := zu Tryz.f9
noncomputable def zEL : Ctx := ⟨TT, zr [], zw, (WF [(30, yJ), (36, vA)])⟩
def zv2 : List (Nat × zE) := []
def zwO : List ResultVar := [.cell 2 38]
theorem zIB : zq Tryz.prog zEL := yF tab mix (l := []) trivial xD (Yn (l := [(30, yJ), (36, vA)]) ⟨⟨Tryz.call30, xn⟩, ⟨Tryz.call36, zeA⟩, trivial⟩)
noncomputable def zjm (a0 : List Int) : Option (Int × Int × (Nat → Nat → Int)) := (Option.bind (ZL (zx a0).1 (zx a0).2 a0) fun r1 => (some ((r1.1), (r1.2.1), (r1.2.2.1))))
theorem zF4 (a0 : List Int) (r : List A) : Tq zEL zv2 zDO zwO r [.lst (.one (.i .u8)) a0] = (Option.bind (ZL (zx a0).1 (zx a0).2 a0) fun r1 => (some [.rc [.v (.int .i8 r1.1), .v (.int .i8 r1.2.1), .fa2 144 3 .u8 r1.2.2.1]])) := by kernel_rfl
noncomputable def zOT (r : Int × Int × (Nat → Nat → Int)) : List A := [.rc [.v (.int .i8 r.1), .v (.int .i8 r.2.1), .fa2 144 3 .u8 r.2.2]]
theorem zPk (a0 : List Int) (v : Int × Int × (Nat → Nat → Int)) (h : zjm a0 = some v) : (Option.bind (ZL (zx a0).1 (zx a0).2 a0) fun r1 => (some [.rc [.v (.int .i8 r1.1), .v (.int .i8 r1.2.1), .fa2 144 3 .u8 r1.2.2.1]])) = some (zOT v) := by
 refine Eq.trans (b := Option.map zOT (zjm a0)) ?_ (by rw [h]; rfl)
 unfold zjm
 exact (zV fun _ => rfl)
noncomputable def zNY : List A → ze
 | [.lst (.one (.i .u8)) a0] => ⟨(Int × Int × (Nat → Nat → Int)), zjm a0, fun r => .one (.rc [.v (.int .i8 r.1), .v (.int .i8 r.2.1), .fa2 144 3 .u8 r.2.2])⟩
 | _ => ze.fail
theorem zwV : zC Tryz.prog 9 zNY := by
 refine good zIB zv2 zDO zwO 1 Tryz.func9 fun rs => ?_
 unfold zNY
 split
 ·rename_i a0; intro v h; exact ⟨rfl, zOT v, rfl, (zF4 a0 _).trans (zPk a0 v h)⟩
 ·intro v h; cases h
end Go.RR
