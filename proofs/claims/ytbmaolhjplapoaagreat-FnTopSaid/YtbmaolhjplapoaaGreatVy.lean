/- Pictures, images, rows and jobs that are drawn. -/
import Derived.Test.YtbmaolhjplapoaaGreatVr
import Derived.Test.YtbmaolhjplapoaaGreatVx
import Derived.Test.YtbmaolhjplapoaaGreatR3
set_option linter.unusedVariables false
set_option linter.unusedSimpArgs false
set_option linter.unusedSectionVars false
set_option maxRecDepth 100000
namespace Go.RR
open Go Go.Proofs
open Go.IntKind (wrap)
noncomputable def zfd := zu Tryz.f30
noncomputable def zfe : Ctx := ⟨TT, zr [], zw, zU⟩
def zcu : List (Nat × zE) := []
def zce : List ResultVar := [.tmp 2]
noncomputable def Us : List (Nat × Option Blk) := [(0, some ⟨false, .arr (.one (.i .u8)) []⟩)]
theorem zmG : zq Tryz.prog zfe := zo tab mix trivial
noncomputable def zx (a0 : List Int) : (Int × Int) := (0, 0)
theorem zlI (a0 : List Int) (r : zL) : TqH 1 Us zfe zcu zfd zce r [.sl 0] [(0, some ⟨false, .arr (.one (.i .u8)) a0⟩)] = (some ⟨.a (.ptr 1 [] (0)), [(1, some ⟨true, .box (.rc [.sl 0, .v (.int .i64 0), .v (.int .u64 0)])⟩)], 2⟩) := by kernel_rfl
noncomputable def zjc (r : Int × Int) : zL := ⟨.a (.ptr 1 [] (0)), [(1, some ⟨true, .box (.rc [.sl 0, .v (.int .i64 r.1), .v (.int .u64 r.2)])⟩)], 2⟩
theorem zn2 (a0 : List Int) : (some ⟨.a (.ptr 1 [] (0)), [(1, some ⟨true, .box (.rc [.sl 0, .v (.int .i64 0), .v (.int .u64 0)])⟩)], 2⟩) = some (zjc (zx a0)) := by
 unfold zx
 exact rfl
noncomputable def yJ : Zq := fun xs hp => match xs, hp with
 | [.sl 0], [(0, some ⟨false, .arr (.one (.i .u8)) a0⟩)] => .one (Int × Int) (some (zx a0)) zjc
 | _, _ => Z5.fail
theorem xn : yo Tryz.prog 30 yJ := by
 refine Wb zmG zcu zfd zce 1 1 Us Tryz.func30 fun xs hp => ?_
 unfold yJ
 split
 ·rename_i a0; intro v h; cases h; exact ⟨rfl, ⟨rfl, rfl⟩, (zlI a0 _).trans (zn2 a0)⟩
 ·intro v h; cases h
noncomputable def Vz := zu Tryz.f109
noncomputable def Vj : Ctx := ⟨TT, zr [], zw, zU⟩
def vF : List (Nat × zE) := []
def vD : List ResultVar := [.tmp 2]
noncomputable def Wx : List (Nat × Option Blk) := [(0, some ⟨true, .box (.rc [.sl 1, .v (.bool false), .v (.bool false)])⟩), (1, some ⟨false, .arr (.one (.i .u8)) []⟩)]
theorem zdZ : zq Tryz.prog Vj := zo tab mix trivial
abbrev zaW := (Int × Int × Int)
noncomputable def xY (r : Int × Int × Int) : zL := ⟨.a (.v (.int .i64 r.1)), [(0, some ⟨true, .box (.rc [.sl 1, .v (.int .i64 r.2.1), .v (.int .u64 r.2.2)])⟩)], 2⟩
section
variable {R R' : Type} {S : R → Prop} {r : R'} (E : zaW → Option R) (E' : zaW → Option R')
noncomputable def xu (a0 a1 : Int) (a2 : List Int) : Option R := (cond (decide (a0 < (a2.length : Int))) (cond (inB a0 a2.length) (cond (decide ((wrap .i64 (a0 + 1)) ≤ (a2.length : Int))) (E ((wrap .i64 (List.getD a2 (Int.toNat a0) 0)), (wrap .i64 (a0 + 1)), (wrap .u64 ((wrap .u64 ((wrap .u64 (a1 * 6364136223846793005)) + (wrap .u64 (wrap .i64 (List.getD a2 (Int.toNat a0) 0))))) + 1442695040888963407)))) (cond (decide (40 < 0)) none (E ((wrap .i64 (vY .u64 (yz .u64 (wrap .u64 ((wrap .u64 ((wrap .u64 (a1 * 6364136223846793005)) + (wrap .u64 (wrap .i64 (List.getD a2 (Int.toNat a0) 0))))) + 1442695040888963407)) 40) 255)), (wrap .i64 (a0 + 1)), (wrap .u64 ((wrap .u64 ((wrap .u64 (a1 * 6364136223846793005)) + (wrap .u64 (wrap .i64 (List.getD a2 (Int.toNat a0) 0))))) + 1442695040888963407)))))) none) (cond (decide ((wrap .i64 (a0 + 1)) ≤ (a2.length : Int))) (E (0, (wrap .i64 (a0 + 1)), (wrap .u64 ((wrap .u64 ((wrap .u64 (a1 * 6364136223846793005)) + (wrap .u64 0))) + 1442695040888963407)))) (cond (decide (40 < 0)) none (E ((wrap .i64 (vY .u64 (yz .u64 (wrap .u64 ((wrap .u64 ((wrap .u64 (a1 * 6364136223846793005)) + (wrap .u64 0))) + 1442695040888963407)) 40) 255)), (wrap .i64 (a0 + 1)), (wrap .u64 ((wrap .u64 ((wrap .u64 (a1 * 6364136223846793005)) + (wrap .u64 0))) + 1442695040888963407)))))))
theorem zdB (a0 a1 : Int) (a2 : List Int) (h : sem S (xu E a0 a1 a2)) (hE : zJ S r E E') : xu E' a0 a1 a2 = some r := by
 revert h
 unfold xu
 repeat' first | refine zy ?_ ?_ | refine zA fun _ => ?_ | exact zz | exact hE _ | refine zp (fun _ => ?_) (fun _ => ?_)
end
noncomputable def xq (a0 a1 : Int) (a2 : List Int) : Option (Int × Int × Int) := xu some a0 a1 a2
theorem zd7 (a0 a1 : Int) (a2 : List Int) (r : zL) : TqH 2 Wx Vj vF Vz vD r [.ptr 0 [] (0)] [(0, some ⟨true, .box (.rc [.sl 1, .v (.int .i64 a0), .v (.int .u64 a1)])⟩), (1, some ⟨false, .arr (.one (.i .u8)) a2⟩)] = xu (fun v => some (xY v)) a0 a1 a2 := by kernel_rfl
theorem zeL (a0 a1 : Int) (a2 : List Int) (v : Int × Int × Int) (h : xq a0 a1 a2 = some v) : xu (fun v => some (xY v)) a0 a1 a2 = some (xY v) :=
 zdB _ _ a0 a1 a2 (show sem (fun w => xY v = xY w) (xq a0 a1 a2) from ⟨v, h, rfl⟩) (fun _ h => zb h fun q => zj q)
noncomputable def Xr : Zq := fun xs hp => match xs, hp with
 | [.ptr 0 [] (0)], [(0, some ⟨true, .box (.rc [.sl 1, .v (.int .i64 a0), .v (.int .u64 a1)])⟩), (1, some ⟨false, .arr (.one (.i .u8)) a2⟩)] => .one (Int × Int × Int) (xq a0 a1 a2) xY
 | _, _ => Z5.fail
theorem zau : yo Tryz.prog 109 Xr := by
 refine Wb zdZ vF Vz vD 1 2 Wx Tryz.func109 fun xs hp => ?_
 unfold Xr
 split
 ·rename_i a0 a1 a2; intro v h; exact ⟨rfl, ⟨rfl, rfl⟩, (zd7 a0 a1 a2 _).trans (zeL a0 a1 a2 v h)⟩
 ·intro v h; cases h
noncomputable def v7 := zu Tryz.f70
noncomputable def Vh : Ctx := ⟨TT, zr [], zw, (WF [(109, Xr)])⟩
def vw : List (Nat × zE) := []
def vB : List ResultVar := [.tmp 4]
noncomputable def WJ : List (Nat × Option Blk) := [(0, some ⟨true, .box (.rc [.sl 1, .v (.bool false), .v (.bool false)])⟩), (1, some ⟨false, .arr (.one (.i .u8)) []⟩)]
theorem zdC : zq Tryz.prog Vh := yF tab mix (l := []) trivial xD (Yn (l := [(109, Xr)]) ⟨⟨Tryz.call109, zau⟩, trivial⟩)
abbrev UG := (Int × Int × Int)
noncomputable def Zc (r : Int × Int × Int) : zL := ⟨.a (.v (.int .i64 r.1)), [(0, some ⟨true, .box (.rc [.sl 1, .v (.int .i64 r.2.1), .v (.int .u64 r.2.2)])⟩)], 2⟩
section
variable {R R' : Type} {S : R → Prop} {r : R'} (E : UG → Option R) (E' : UG → Option R')
noncomputable def xA (a0 a1 a2 : Int) (a3 : List Int) : Option R := (cond (decide (a0 ≤ 1)) (E (0, a1, a2)) (Option.bind (xq a1 a2 a3) fun r1 => (cond (decide (a0 > 200)) (Option.bind (xq (r1.2.1) (r1.2.2) a3) fun r2 => (cond (decide (a0 = 0)) none (E ((Int.tmod (wrap .i64 ((wrap .i64 (r1.1 * 256)) + r2.1)) a0), (r2.2.1), (r2.2.2))))) (cond (decide (a0 = 0)) none (E ((Int.tmod r1.1 a0), (r1.2.1), (r1.2.2)))))))
theorem zdD (a0 a1 a2 : Int) (a3 : List Int) (h : sem S (xA E a0 a1 a2 a3)) (hE : zJ S r E E') : xA E' a0 a1 a2 a3 = some r := by
 revert h
 unfold xA
 repeat' first | refine zy ?_ ?_ | refine zA fun _ => ?_ | exact zz | exact hE _ | refine zp (fun _ => ?_) (fun _ => ?_)
end
noncomputable def zm (a0 a1 a2 : Int) (a3 : List Int) : Option (Int × Int × Int) := xA some a0 a1 a2 a3
theorem zdS (a0 a1 a2 : Int) (a3 : List Int) (r : zL) : TqH 2 WJ Vh vw v7 vB r [.ptr 0 [] (0), .v (.int .i64 a0)] [(0, some ⟨true, .box (.rc [.sl 1, .v (.int .i64 a1), .v (.int .u64 a2)])⟩), (1, some ⟨false, .arr (.one (.i .u8)) a3⟩)] = xA (fun v => some (Zc v)) a0 a1 a2 a3 := by kernel_rfl
theorem zek (a0 a1 a2 : Int) (a3 : List Int) (v : Int × Int × Int) (h : zm a0 a1 a2 a3 = some v) : xA (fun v => some (Zc v)) a0 a1 a2 a3 = some (Zc v) :=
 zdD _ _ a0 a1 a2 a3 (show sem (fun w => Zc v = Zc w) (zm a0 a1 a2 a3) from ⟨v, h, rfl⟩) (fun _ h => zb h fun q => zj q)
noncomputable def zQ : Zq := fun xs hp => match xs, hp with
 | [.ptr 0 [] (0), .v (.int .i64 a0)], [(0, some ⟨true, .box (.rc [.sl 1, .v (.int .i64 a1), .v (.int .u64 a2)])⟩), (1, some ⟨false, .arr (.one (.i .u8)) a3⟩)] => .one (Int × Int × Int) (zm a0 a1 a2 a3) Zc
 | _, _ => Z5.fail
theorem ye : yo Tryz.prog 70 zQ := by
 refine Wb zdC vw v7 vB 2 2 WJ Tryz.func70 fun xs hp => ?_
 unfold zQ
 split
 ·rename_i a0 a1 a2 a3; intro v h; exact ⟨rfl, ⟨rfl, rfl⟩, (zdS a0 a1 a2 a3 _).trans (zek a0 a1 a2 a3 v h)⟩
 ·intro v h; cases h
noncomputable def u6 := zu Tryz.f80
noncomputable def Uc : Ctx := ⟨TT, zr [], zw, (WF [(70, zQ)])⟩
def VI : List (Nat × zE) := []
def VG : List ResultVar := [.tmp 4]
noncomputable def vC : List (Nat × Option Blk) := [(0, some ⟨true, .box (.rc [.sl 1, .v (.bool false), .v (.bool false)])⟩), (1, some ⟨false, .arr (.one (.i .u8)) []⟩)]
theorem zd8 : zq Tryz.prog Uc := yF tab mix (l := []) trivial xD (Yn (l := [(70, zQ)]) ⟨⟨Tryz.call70, ye⟩, trivial⟩)
noncomputable def yG (a0 a1 a2 : Int) (a3 : List Int) : Option (Bool × Int × Int) := (Option.bind (zm a0 a1 a2 a3) fun r1 => (some ((r1.1 == 0), (r1.2.1), (r1.2.2))))
theorem zew (a0 a1 a2 : Int) (a3 : List Int) (r : zL) : TqH 2 vC Uc VI u6 VG r [.ptr 0 [] (0), .v (.int .i64 a0)] [(0, some ⟨true, .box (.rc [.sl 1, .v (.int .i64 a1), .v (.int .u64 a2)])⟩), (1, some ⟨false, .arr (.one (.i .u8)) a3⟩)] = (Option.bind (zm a0 a1 a2 a3) fun r1 => (some ⟨.a (.v (.bool (r1.1 == 0))), [(0, some ⟨true, .box (.rc [.sl 1, .v (.int .i64 r1.2.1), .v (.int .u64 r1.2.2)])⟩)], 2⟩)) := by kernel_rfl
noncomputable def vS (r : Bool × Int × Int) : zL := ⟨.a (.v (.bool r.1)), [(0, some ⟨true, .box (.rc [.sl 1, .v (.int .i64 r.2.1), .v (.int .u64 r.2.2)])⟩)], 2⟩
theorem zgg (a0 a1 a2 : Int) (a3 : List Int) (v : Bool × Int × Int) (h : yG a0 a1 a2 a3 = some v) : (Option.bind (zm a0 a1 a2 a3) fun r1 => (some ⟨.a (.v (.bool (r1.1 == 0))), [(0, some ⟨true, .box (.rc [.sl 1, .v (.int .i64 r1.2.1), .v (.int .u64 r1.2.2)])⟩)], 2⟩)) = some (vS v) := by
 refine Eq.trans (b := Option.map vS (yG a0 a1 a2 a3)) ?_ (by rw [h]; rfl)
 unfold yG
 exact (zV fun _ => rfl)
noncomputable def xl : Zq := fun xs hp => match xs, hp with
 | [.ptr 0 [] (0), .v (.int .i64 a0)], [(0, some ⟨true, .box (.rc [.sl 1, .v (.int .i64 a1), .v (.int .u64 a2)])⟩), (1, some ⟨false, .arr (.one (.i .u8)) a3⟩)] => .one (Bool × Int × Int) (yG a0 a1 a2 a3) vS
 | _, _ => Z5.fail
theorem Yt : yo Tryz.prog 80 xl := by
 refine Wb zd8 VI u6 VG 2 2 vC Tryz.func80 fun xs hp => ?_
 unfold xl
 split
 ·rename_i a0 a1 a2 a3; intro v h; exact ⟨rfl, ⟨rfl, rfl⟩, (zew a0 a1 a2 a3 _).trans (zgg a0 a1 a2 a3 v h)⟩
 ·intro v h; cases h
noncomputable def vW := zu Tryz.f62
noncomputable def vP : Ctx := ⟨TT, zr [(97, zyi)], zw, (WF [(70, zQ), (80, xl)])⟩
def Wy : List (Nat × zE) := [(3, ([0, 5, 6], [], [])), (7, ([0, 5, 6, 7, 8], [], []))]
def va : List ResultVar := [.tmp 4]
noncomputable def wY : List (Nat × Option Blk) := [(0, some ⟨true, .box (.rc [.sl 1, .v (.bool false), .v (.bool false)])⟩), (1, some ⟨false, .arr (.one (.i .u8)) []⟩)]
noncomputable def X0 := LqH 2 wY vP Wy vW va
theorem zh9 : zq Tryz.prog vP := yF tab mix (l := [(97, zyi)]) ⟨⟨Tryz.call97, zhW⟩, trivial⟩ xD (Yn (l := [(70, zQ), (80, xl)]) ⟨⟨Tryz.call70, ye⟩, ⟨Tryz.call80, Yt⟩, trivial⟩)
noncomputable def zaw (x0 x1 x2 : Int) (x3 : List Int) (x4 : List (Int × Int)) : AS := ⟨[(0, .a (.ptr 0 [] (0))), (5, .a (.sl 2)), (6, .a (.v (.int .i64 x0)))], [(0, some ⟨true, .box (.rc [.sl 1, .v (.int .i64 x1), .v (.int .u64 x2)])⟩), (1, some ⟨false, .arr (.one (.i .u8)) x3⟩), (2, some ⟨true, .arr (.st [(.i .i8), (.i .u16)]) x4⟩)], 3⟩
noncomputable def UB (x0 x1 x2 x3 : Int) (x4 : List Int) (x5 : List (Int × Int)) (x6 x7 : Int) : AS := ⟨[(0, .a (.ptr 0 [] (0))), (5, .a (.sl 2)), (6, .a (.v (.int .i64 x0))), (7, .a (.ptr 3 [] (0))), (8, .a (.v (.int .i64 x1)))], [(0, some ⟨true, .box (.rc [.sl 1, .v (.int .i64 x2), .v (.int .u64 x3)])⟩), (1, some ⟨false, .arr (.one (.i .u8)) x4⟩), (2, some ⟨true, .arr (.st [(.i .i8), (.i .u16)]) x5⟩), (3, some ⟨true, .box (.rc [.v (.int .i8 x6), .v (.int .u16 x7)])⟩)], 4⟩
abbrev zav := (Int × Int × (List (Int × Int)))
noncomputable def Zg (r : Int × Int × (List (Int × Int))) : zL := ⟨.a (.sl 2), [(0, some ⟨true, .box (.rc [.sl 1, .v (.int .i64 r.1), .v (.int .u64 r.2.1)])⟩), (2, some ⟨true, .arr (.st [(.i .i8), (.i .u16)]) r.2.2⟩)], 3⟩
abbrev xN := (Int × Int × Int × (List Int) × (List (Int × Int)))
abbrev X3 := zav
abbrev Zy := (Int × Int × Int × Int × (List Int) × (List (Int × Int)) × Int × Int)
abbrev vH := (xN ⊕ X3)
section
variable {R R' : Type} {S : R → Prop} {r : R'} (E : zav → Option R) (E' : zav → Option R') (G3 : xN → Option R) (G3' : xN → Option R') (G7 : Zy → Option R) (G7' : Zy → Option R')
noncomputable def xO (x0 x1 x2 : Int) (x3 : List Int) (x4 : List (Int × Int)) : Option R := (cond (decide (x0 > 0)) (Option.bind (zm 6 x1 x2 x3) fun r2 => (G7 (x0, 0, r2.2.1, r2.2.2, x3, x4, (wrap .i8 (wrap .i64 (1 + r2.1))), 0))) (cond (decide ((x4.length : Int) > 1)) (Option.bind (yG 3 x1 x2 x3) fun r3 => (cond r3.1 (Option.bind (zm (x4.length : Int) (r3.2.1) (r3.2.2) x3) fun r4 => (cond (zW ((List.length ([] : List (Int × Int)) + List.length (x4 : List (Int × Int))) * 4)) (cond (inB r4.1 (List.length ([] ++ x4))) (Option.bind (zm (x4.length : Int) (r4.2.1) (r4.2.2) x3) fun r5 => (cond (decide ((wrap .u64 r5.1) < 0)) none (cond (inB r4.1 (List.length ([] ++ x4))) (Option.bind (zca (List.set ([] ++ x4) (Int.toNat r4.1) ((List.getD ([] ++ x4) (Int.toNat r4.1) ((0, 0) : (Int × Int))).1, (zG1 .u16 (List.getD ([] ++ x4) (Int.toNat r4.1) ((0, 0) : (Int × Int))).2 (yl .u16 1 (wrap .u64 r5.1)))))) fun r6 => (cond r6 (E ((r5.2.1), (r5.2.2), (List.set ([] ++ x4) (Int.toNat r4.1) ((List.getD ([] ++ x4) (Int.toNat r4.1) ((0, 0) : (Int × Int))).1, (zG1 .u16 (List.getD ([] ++ x4) (Int.toNat r4.1) ((0, 0) : (Int × Int))).2 (yl .u16 1 (wrap .u64 r5.1))))))) (E ((r5.2.1), (r5.2.2), x4)))) none))) none) none)) (E ((r3.2.1), (r3.2.2), x4)))) (E (x1, x2, x4))))
theorem zfa (x0 x1 x2 : Int) (x3 : List Int) (x4 : List (Int × Int)) (h : sem S (xO E G7 x0 x1 x2 x3 x4)) (hE : zJ S r E E') (h7 : zJ S r G7 G7') : xO E' G7' x0 x1 x2 x3 x4 = some r := by
 revert h
 unfold xO
 repeat' first | refine zy ?_ ?_ | refine zA fun _ => ?_ | exact zz | exact hE _ | exact h7 _ | refine zp (fun _ => ?_) (fun _ => ?_)
noncomputable def xM (x0 x1 x2 x3 : Int) (x4 : List Int) (x5 : List (Int × Int)) (x6 x7 : Int) : Option R := (cond (decide (x1 < (x5.length : Int))) (Option.bind (yG 4 x2 x3 x4) fun r7 => (cond r7.1 (cond (decide ((wrap .u64 x1) < 0)) none (G7 (x0, (wrap .i64 (x1 + 1)), r7.2.1, r7.2.2, x4, x5, x6, (bOr .u16 x7 (yl .u16 1 (wrap .u64 x1)))))) (G7 (x0, (wrap .i64 (x1 + 1)), r7.2.1, r7.2.2, x4, x5, x6, x7)))) (cond (zW ((List.length (x5 : List (Int × Int)) + List.length ([(x6, x7)] : List (Int × Int))) * 4)) (G3 ((wrap .i64 (x0 - 1)), x2, x3, x4, (x5 ++ [(x6, x7)]))) none))
theorem zfH (x0 x1 x2 x3 : Int) (x4 : List Int) (x5 : List (Int × Int)) (x6 x7 : Int) (h : sem S (xM G3 G7 x0 x1 x2 x3 x4 x5 x6 x7)) (h3 : zJ S r G3 G3') (h7 : zJ S r G7 G7') : xM G3' G7' x0 x1 x2 x3 x4 x5 x6 x7 = some r := by
 revert h
 unfold xM
 repeat' first | refine zy ?_ ?_ | refine zA fun _ => ?_ | exact zz | exact h3 _ | exact h7 _ | refine zp (fun _ => ?_) (fun _ => ?_)
noncomputable def Z2 (a0 a1 a2 : Int) (a3 : List Int) : Option R := (Option.bind (zm (wrap .i64 (a0 + 1)) a1 a2 a3) fun r1 => (G3 (r1.1, r1.2.1, r1.2.2, a3, [])))
theorem zil (a0 a1 a2 : Int) (a3 : List Int) (h : sem S (Z2 G3 a0 a1 a2 a3)) (h3 : zJ S r G3 G3') : Z2 G3' a0 a1 a2 a3 = some r := by
 revert h
 unfold Z2
 repeat' first | refine zy ?_ ?_ | refine zA fun _ => ?_ | exact zz | exact h3 _ | refine zp (fun _ => ?_) (fun _ => ?_)
end
noncomputable def Xq (r : zL) (x : xN) : Option zL := X0 r 3 (zaw x.1 x.2.1 x.2.2.1 x.2.2.2.1 x.2.2.2.2)
noncomputable def W4 (r : zL) (x : Zy) : Option zL := X0 r 7 (UB x.1 x.2.1 x.2.2.1 x.2.2.2.1 x.2.2.2.2.1 x.2.2.2.2.2.1 x.2.2.2.2.2.2.1 x.2.2.2.2.2.2.2)
theorem zeZ (x0 x1 x2 x3 : Int) (x4 : List Int) (x5 : List (Int × Int)) (x6 x7 : Int) (r : zL) (h : xM (Xq r) (W4 r) x0 x1 x2 x3 x4 x5 x6 x7 = some r) : X0 r 7 (UB x0 x1 x2 x3 x4 x5 x6 x7) = some r :=
 zn h (by kernel_rfl)
noncomputable def xw (x0 x1 x2 x3 : Int) (x4 : List Int) (x5 : List (Int × Int)) (x6 x7 : Int) : Option (Zy ⊕ vH) := xM (fun x => some (Sum.inr (Sum.inl x))) (fun x => some (Sum.inl x)) x0 x1 x2 x3 x4 x5 x6 x7
noncomputable def Ya (x : Zy) : Option vH := zI (fun x => xw x.1 x.2.1 x.2.2.1 x.2.2.2.1 x.2.2.2.2.1 x.2.2.2.2.2.1 x.2.2.2.2.2.2.1 x.2.2.2.2.2.2.2) FU x
noncomputable def zat (r : zL) (x : Zy) : Prop := W4 r x = some r
theorem zfn (x0 x1 x2 : Int) (x3 : List Int) (x4 : List (Int × Int)) (r : zL) (h : xO (fun v => some (Zg v)) (W4 r) x0 x1 x2 x3 x4 = some r) : X0 r 3 (zaw x0 x1 x2 x3 x4) = some r :=
 zn h (by kernel_rfl)
noncomputable def xr (x0 x1 x2 : Int) (x3 : List Int) (x4 : List (Int × Int)) : Option (xN ⊕ X3) := xO (fun v => some (Sum.inr v)) Ya x0 x1 x2 x3 x4
noncomputable def Yb (x : xN) : Option X3 := zI (fun x => xr x.1 x.2.1 x.2.2.1 x.2.2.2.1 x.2.2.2.2) FU x
noncomputable def Wz (r : zL) (x : xN) : Prop := Xq r x = some r
noncomputable def Wl (r : zL) : X3 → Prop := fun v => r = Zg v
noncomputable def U9 (r : zL) : vH → Prop := Za (Wz r) (Wl r)
theorem zie (r : zL) : ∀ x, sem (U9 r) (Ya x) → zat r x :=
 fun x => zi (G := zat r) (E := U9 r) (step := fun x => xw x.1 x.2.1 x.2.2.1 x.2.2.2.1 x.2.2.2.2.1 x.2.2.2.2.2.1 x.2.2.2.2.2.2.1 x.2.2.2.2.2.2.2) (fun x h => zeZ x.1 x.2.1 x.2.2.1 x.2.2.2.1 x.2.2.2.2.1 x.2.2.2.2.2.1 x.2.2.2.2.2.2.1 x.2.2.2.2.2.2.2 r (zfH _ _ _ _ x.1 x.2.1 x.2.2.1 x.2.2.2.1 x.2.2.2.2.1 x.2.2.2.2.2.1 x.2.2.2.2.2.2.1 x.2.2.2.2.2.2.2 h (fun _ h => zb h fun q => q) (fun _ h => zb h fun q => q))) FU x
theorem zip (r : zL) : ∀ x, sem (Wl r) (Yb x) → Wz r x :=
 fun x => zi (G := Wz r) (E := Wl r) (step := fun x => xr x.1 x.2.1 x.2.2.1 x.2.2.2.1 x.2.2.2.2) (fun x h => zfn x.1 x.2.1 x.2.2.1 x.2.2.2.1 x.2.2.2.2 r (zfa _ _ _ _ x.1 x.2.1 x.2.2.1 x.2.2.2.1 x.2.2.2.2 h (fun _ h => zb h fun q => zj q) (zie r))) FU x
noncomputable def ZV (a0 a1 a2 : Int) (a3 : List Int) : Option (Int × Int × (List (Int × Int))) := Z2 Yb a0 a1 a2 a3
theorem zim (a0 a1 a2 : Int) (a3 : List Int) (r : zL) : TqH 2 wY vP Wy vW va r [.ptr 0 [] (0), .v (.int .i64 a0)] [(0, some ⟨true, .box (.rc [.sl 1, .v (.int .i64 a1), .v (.int .u64 a2)])⟩), (1, some ⟨false, .arr (.one (.i .u8)) a3⟩)] = Z2 (Xq r) a0 a1 a2 a3 := by kernel_rfl
theorem zjZ (a0 a1 a2 : Int) (a3 : List Int) (v : Int × Int × (List (Int × Int))) (h : ZV a0 a1 a2 a3 = some v) : Z2 (Xq (Zg v)) a0 a1 a2 a3 = some (Zg v) :=
 zil _ _ a0 a1 a2 a3 (show sem (fun w => Zg v = Zg w) (ZV a0 a1 a2 a3) from ⟨v, h, rfl⟩) (zip (Zg v))
noncomputable def vk : Zq := fun xs hp => match xs, hp with
 | [.ptr 0 [] (0), .v (.int .i64 a0)], [(0, some ⟨true, .box (.rc [.sl 1, .v (.int .i64 a1), .v (.int .u64 a2)])⟩), (1, some ⟨false, .arr (.one (.i .u8)) a3⟩)] => .one (Int × Int × (List (Int × Int))) (ZV a0 a1 a2 a3) Zg
 | _, _ => Z5.fail
theorem zfz : yo Tryz.prog 62 vk := by
 refine Wb zh9 Wy vW va 2 2 wY Tryz.func62 fun xs hp => ?_
 unfold vk
 split
 ·rename_i a0 a1 a2 a3; intro v h; exact ⟨rfl, ⟨rfl, rfl⟩, (zim a0 a1 a2 a3 _).trans (zjZ a0 a1 a2 a3 v h)⟩
 ·intro v h; cases h
noncomputable def zEh := zu Tryz.f21
noncomputable def zEg : Ctx := ⟨TT, zr [], zw, (WF [(30, yJ), (62, vk)])⟩
def zzO : List (Nat × zE) := []
def zu2 : List ResultVar := [.tmp 2]
theorem zFn : zq Tryz.prog zEg := yF tab mix (l := []) trivial xD (Yn (l := [(30, yJ), (62, vk)]) ⟨⟨Tryz.call30, xn⟩, ⟨Tryz.call62, zfz⟩, trivial⟩)
noncomputable def zmg (a0 : List Int) : Option (List (Int × Int)) := (Option.bind (ZV 6 (zx a0).1 (zx a0).2 a0) fun r1 => (some (r1.2.2)))
theorem zK8 (a0 : List Int) (r : List A) : Tq zEg zzO zEh zu2 r [.lst (.one (.i .u8)) a0] = (Option.bind (ZV 6 (zx a0).1 (zx a0).2 a0) fun r1 => (some [.lst (.st [(.i .i8), (.i .u16)]) r1.2.2])) := by kernel_rfl
noncomputable def zQ7 (r : List (Int × Int)) : List A := [.lst (.st [(.i .i8), (.i .u16)]) r]
theorem zRh (a0 : List Int) (v : List (Int × Int)) (h : zmg a0 = some v) : (Option.bind (ZV 6 (zx a0).1 (zx a0).2 a0) fun r1 => (some [.lst (.st [(.i .i8), (.i .u16)]) r1.2.2])) = some (zQ7 v) := by
 refine Eq.trans (b := Option.map zQ7 (zmg a0)) ?_ (by rw [h]; rfl)
 unfold zmg
 exact (zV fun _ => rfl)
noncomputable def zPy : List A → ze
 | [.lst (.one (.i .u8)) a0] => ⟨(List (Int × Int)), zmg a0, fun r => .one (.lst (.st [(.i .i8), (.i .u16)]) r)⟩
 | _ => ze.fail
theorem zvy : zC Tryz.prog 21 zPy := by
 refine good zFn zzO zEh zu2 1 Tryz.func21 fun rs => ?_
 unfold zPy
 split
 ·rename_i a0; intro v h; exact ⟨rfl, zQ7 v, rfl, (zK8 a0 _).trans (zRh a0 v h)⟩
 ·intro v h; cases h
noncomputable def zpR := zu Tryz.f25
noncomputable def zqY : Ctx := ⟨TT, zr [], zw, (WF [(30, yJ), (70, zQ)])⟩
def zlK : List (Nat × zE) := [(4, ([1, 5, 6, 7], [], [])), (7, ([1, 5, 6, 7, 8, 9], [], []))]
def zjw : List ResultVar := [.tmp 4]
noncomputable def Y9 := Lq zqY zlK zpR zjw
theorem zIp : zq Tryz.prog zqY := yF tab mix (l := []) trivial xD (Yn (l := [(30, yJ), (70, zQ)]) ⟨⟨Tryz.call30, xn⟩, ⟨Tryz.call70, ye⟩, trivial⟩)
noncomputable def Up (x0 : Int) (x1 : List (Int × Int)) (x2 x3 : Int) (x4 x5 : List Int) : AS := ⟨[(1, .a (.sl 0)), (5, .a (.ptr 1 [] (0))), (6, .a (.sl 3)), (7, .a (.v (.int .u16 x0)))], [(0, some ⟨false, .arr (.st [(.i .i8), (.i .u16)]) x1⟩), (1, some ⟨true, .box (.rc [.sl 2, .v (.int .i64 x2), .v (.int .u64 x3)])⟩), (2, some ⟨false, .arr (.one (.i .u8)) x4⟩), (3, some ⟨true, .arr (.one (.i .i64)) x5⟩)], 4⟩
noncomputable def Vl (x0 x1 : Int) (x2 : List (Int × Int)) (x3 x4 : Int) (x5 x6 x7 : List Int) : AS := ⟨[(1, .a (.sl 0)), (5, .a (.ptr 1 [] (0))), (6, .a (.sl 3)), (7, .a (.v (.int .u16 x0))), (8, .a (.sl 4)), (9, .a (.v (.int .i64 x1)))], [(0, some ⟨false, .arr (.st [(.i .i8), (.i .u16)]) x2⟩), (1, some ⟨true, .box (.rc [.sl 2, .v (.int .i64 x3), .v (.int .u64 x4)])⟩), (2, some ⟨false, .arr (.one (.i .u8)) x5⟩), (3, some ⟨true, .arr (.one (.i .i64)) x6⟩), (4, some ⟨true, .arr (.one (.i .i64)) x7⟩)], 5⟩
noncomputable def zl7 (r : List Int) : List A := [.lst (.one (.i .i64)) r]
theorem zzi (x0 x1 : Int) (x2 : List (Int × Int)) (x3 x4 : Int) (x5 x6 x7 : List Int) (r : List A) (h : (cond (decide (x1 < (x2.length : Int))) (cond (decide ((wrap .u64 x1) < 0)) none (cond ((Int.tmod (yz .u16 x0 (wrap .u64 x1)) 2) == 0) (cond (inB x1 x2.length) (cond ((zO .u16 (List.getD x2 (Int.toNat x1) ((0, 0) : (Int × Int))).2 x0) == 0) (cond (zW ((List.length (x7 : List Int) + List.length ([x1] : List Int)) * 8)) (Y9 r 7 (Vl x0 (wrap .i64 (x1 + 1)) x2 x3 x4 x5 x6 (x7 ++ [x1]))) none) (Y9 r 7 (Vl x0 (wrap .i64 (x1 + 1)) x2 x3 x4 x5 x6 x7))) none) (Y9 r 7 (Vl x0 (wrap .i64 (x1 + 1)) x2 x3 x4 x5 x6 x7)))) (Option.bind (zm (x7.length : Int) x3 x4 x5) fun r1 => (cond (inB r1.1 x7.length) (cond (zW ((List.length (x6 : List Int) + List.length ([(List.getD x7 (Int.toNat r1.1) 0)] : List Int)) * 8)) (cond (decide ((wrap .u64 (List.getD x7 (Int.toNat r1.1) 0)) < 0)) none (Y9 r 4 (Up (bOr .u16 x0 (yl .u16 1 (wrap .u64 (List.getD x7 (Int.toNat r1.1) 0)))) x2 r1.2.1 r1.2.2 x5 (x6 ++ [(List.getD x7 (Int.toNat r1.1) 0)])))) none) none))) = some r) : Y9 r 7 (Vl x0 x1 x2 x3 x4 x5 x6 x7) = some r :=
 zn h (by kernel_rfl)
noncomputable def X8 (x0 x1 : Int) (x2 : List (Int × Int)) (x3 x4 : Int) (x5 x6 x7 : List Int) : Option ((Int × Int × (List (Int × Int)) × Int × Int × (List Int) × (List Int) × (List Int)) ⊕ ((Int × (List (Int × Int)) × Int × Int × (List Int) × (List Int)) ⊕ (List Int))) := (cond (decide (x1 < (x2.length : Int))) (cond (decide ((wrap .u64 x1) < 0)) none (cond ((Int.tmod (yz .u16 x0 (wrap .u64 x1)) 2) == 0) (cond (inB x1 x2.length) (cond ((zO .u16 (List.getD x2 (Int.toNat x1) ((0, 0) : (Int × Int))).2 x0) == 0) (cond (zW ((List.length (x7 : List Int) + List.length ([x1] : List Int)) * 8)) (some (Sum.inl (x0, (wrap .i64 (x1 + 1)), x2, x3, x4, x5, x6, (x7 ++ [x1])))) none) (some (Sum.inl (x0, (wrap .i64 (x1 + 1)), x2, x3, x4, x5, x6, x7)))) none) (some (Sum.inl (x0, (wrap .i64 (x1 + 1)), x2, x3, x4, x5, x6, x7))))) (Option.bind (zm (x7.length : Int) x3 x4 x5) fun r1 => (cond (inB r1.1 x7.length) (cond (zW ((List.length (x6 : List Int) + List.length ([(List.getD x7 (Int.toNat r1.1) 0)] : List Int)) * 8)) (cond (decide ((wrap .u64 (List.getD x7 (Int.toNat r1.1) 0)) < 0)) none (some (Sum.inr (Sum.inl ((bOr .u16 x0 (yl .u16 1 (wrap .u64 (List.getD x7 (Int.toNat r1.1) 0)))), x2, r1.2.1, r1.2.2, x5, (x6 ++ [(List.getD x7 (Int.toNat r1.1) 0)])))))) none) none)))
noncomputable def ut (x : Int × Int × (List (Int × Int)) × Int × Int × (List Int) × (List Int) × (List Int)) : Option ((Int × (List (Int × Int)) × Int × Int × (List Int) × (List Int)) ⊕ (List Int)) := zI (fun x => X8 x.1 x.2.1 x.2.2.1 x.2.2.2.1 x.2.2.2.2.1 x.2.2.2.2.2.1 x.2.2.2.2.2.2.1 x.2.2.2.2.2.2.2) FU x
noncomputable def zOX (r : List A) (x : Int × Int × (List (Int × Int)) × Int × Int × (List Int) × (List Int) × (List Int)) : Prop := Y9 r 7 (Vl x.1 x.2.1 x.2.2.1 x.2.2.2.1 x.2.2.2.2.1 x.2.2.2.2.2.1 x.2.2.2.2.2.2.1 x.2.2.2.2.2.2.2) = some r
theorem zAn (x0 : Int) (x1 : List (Int × Int)) (x2 x3 : Int) (x4 x5 : List Int) (r : List A) (h : (cond (decide ((x5.length : Int) < (x1.length : Int))) (Y9 r 7 (Vl x0 0 x1 x2 x3 x4 x5 [])) (some [.lst (.one (.i .i64)) x5])) = some r) : Y9 r 4 (Up x0 x1 x2 x3 x4 x5) = some r :=
 zn h (by kernel_rfl)
noncomputable def wn (x0 : Int) (x1 : List (Int × Int)) (x2 x3 : Int) (x4 x5 : List Int) : Option ((Int × (List (Int × Int)) × Int × Int × (List Int) × (List Int)) ⊕ (List Int)) := (cond (decide ((x5.length : Int) < (x1.length : Int))) (ut (x0, 0, x1, x2, x3, x4, x5, [])) (some (Sum.inr x5)))
noncomputable def zdp (x : Int × (List (Int × Int)) × Int × Int × (List Int) × (List Int)) : Option (List Int) := zI (fun x => wn x.1 x.2.1 x.2.2.1 x.2.2.2.1 x.2.2.2.2.1 x.2.2.2.2.2) FU x
noncomputable def zAl (r : List A) (x : Int × (List (Int × Int)) × Int × Int × (List Int) × (List Int)) : Prop := Y9 r 4 (Up x.1 x.2.1 x.2.2.1 x.2.2.2.1 x.2.2.2.2.1 x.2.2.2.2.2) = some r
noncomputable def zui (r : List A) : (List Int) → Prop := fun v => r = zl7 v
noncomputable def zRP (r : List A) : ((Int × (List (Int × Int)) × Int × Int × (List Int) × (List Int)) ⊕ (List Int)) → Prop := Za (zAl r) (zui r)
theorem zKb (r : List A) : ∀ x, sem (zRP r) (ut x) → zOX r x :=
 fun x => zi (step := fun x => X8 x.1 x.2.1 x.2.2.1 x.2.2.2.1 x.2.2.2.2.1 x.2.2.2.2.2.1 x.2.2.2.2.2.2.1 x.2.2.2.2.2.2.2) (fun x h => by
  unfold X8 at h
  exact zzi x.1 x.2.1 x.2.2.1 x.2.2.2.1 x.2.2.2.2.1 x.2.2.2.2.2.1 x.2.2.2.2.2.2.1 x.2.2.2.2.2.2.2 r ((za h (fun h => (za h (fun h => zf h) (fun h => (za h (fun h => (za h (fun h => (za h (fun h => (za h (fun h => zb h fun q => q) (fun h => zf h))) (fun h => zb h fun q => q))) (fun h => zf h))) (fun h => zb h fun q => q))))) (fun h => (zT h fun r1 h => (za h (fun h => (za h (fun h => (za h (fun h => zf h) (fun h => zb h fun q => q))) (fun h => zf h))) (fun h => zf h))))))) FU x
theorem zIw (r : List A) : ∀ x, sem (zui r) (zdp x) → zAl r x :=
 fun x => zi (step := fun x => wn x.1 x.2.1 x.2.2.1 x.2.2.2.1 x.2.2.2.2.1 x.2.2.2.2.2) (fun x h => by
  unfold wn at h
  exact zAn x.1 x.2.1 x.2.2.1 x.2.2.2.1 x.2.2.2.2.1 x.2.2.2.2.2 r ((za h (fun h => zKb r _ h) (fun h => zb h fun q => zj q)))) FU x
noncomputable def zm6 (a0 : List Int) (a1 : List (Int × Int)) : Option (List Int) := (zdp (0, a1, (zx a0).1, (zx a0).2, a0, []))
theorem zJs (a0 : List Int) (a1 : List (Int × Int)) (r : List A) : Tq zqY zlK zpR zjw r [.lst (.one (.i .u8)) a0, .lst (.st [(.i .i8), (.i .u16)]) a1] = (Y9 r 4 (Up 0 a1 (zx a0).1 (zx a0).2 a0 [])) := by kernel_rfl
theorem zNW (a0 : List Int) (a1 : List (Int × Int)) (v : List Int) (h : zm6 a0 a1 = some v) : (Y9 (zl7 v) 4 (Up 0 a1 (zx a0).1 (zx a0).2 a0 [])) = some (zl7 v) := by
 replace h : sem (fun w => zl7 v = zl7 w) (zm6 a0 a1) := ⟨v, h, rfl⟩
 unfold zm6 at h
 exact zIw (zl7 v) _ h
noncomputable def zL9 : List A → ze
 | [.lst (.one (.i .u8)) a0, .lst (.st [(.i .i8), (.i .u16)]) a1] => ⟨(List Int), zm6 a0 a1, fun r => .one (.lst (.one (.i .i64)) r)⟩
 | _ => ze.fail
theorem zy5 : zC Tryz.prog 25 zL9 := by
 refine good zIp zlK zpR zjw 2 Tryz.func25 fun rs => ?_
 unfold zL9
 split
 ·rename_i a0 a1; intro v h; exact ⟨rfl, zl7 v, rfl, (zJs a0 a1 _).trans (zNW a0 a1 v h)⟩
 ·intro v h; cases h
noncomputable def zCa := zu Tryz.f74
noncomputable def zEW : Ctx := ⟨TT, zr [], zw, zU⟩
def zzk : List (Nat × zE) := []
def zyH : List ResultVar := [.tmp 4]
theorem zF6 : zq Tryz.prog zEW := zo tab mix trivial
noncomputable def zlD (a0 a1 : Int) : Int := (cond (decide (a0 < a1)) a0 a1)
theorem zHN (a0 a1 : Int) (r : List A) : Tq zEW zzk zCa zyH r [.v (.int .i8 a0), .v (.int .i8 a1)] = (cond (decide (a0 < a1)) (some [.v (.int .i8 a0)]) (some [.v (.int .i8 a1)])) := by kernel_rfl
noncomputable def zMJ (r : Int) : List A := [.v (.int .i8 r)]
theorem zP6 (a0 a1 : Int) : (cond (decide (a0 < a1)) (some [.v (.int .i8 a0)]) (some [.v (.int .i8 a1)])) = some (zMJ (zlD a0 a1)) := by
 unfold zlD
 exact (zM (fun x => some (zMJ x)) rfl rfl)
noncomputable def zEF : List A → ze
 | [.v (.int .i8 a0), .v (.int .i8 a1)] => ⟨Int, some (zlD a0 a1), fun r => .one (.v (.int .i8 r))⟩
 | _ => ze.fail
theorem ztf : zC Tryz.prog 74 zEF := by
 refine good zF6 zzk zCa zyH 2 Tryz.func74 fun rs => ?_
 unfold zEF
 split
 ·rename_i a0 a1; intro v h; cases h; exact ⟨rfl, zMJ (zlD a0 a1), rfl, (zHN a0 a1 _).trans (zP6 a0 a1)⟩
 ·intro v h; cases h
noncomputable def vI := zu Tryz.f29
noncomputable def vX : Ctx := ⟨TT, zr [(48, zlU), (74, zEF)], zw, (WF [(70, zQ)])⟩
def vc : List (Nat × zE) := [(4, ([0, 2, 3, 4, 5], [], [])), (11, ([2, 3, 6], [], [])), (18, ([2, 3, 7], [], []))]
def WL : List ResultVar := [.cell 2 27]
noncomputable def w6 : List (Nat × Option Blk) := [(0, some ⟨true, .box (.rc [.sl 1, .v (.bool false), .v (.bool false)])⟩), (1, some ⟨false, .arr (.one (.i .u8)) []⟩)]
noncomputable def Zw := LqH 2 w6 vX vc vI WL
theorem zh5 : zq Tryz.prog vX := yF tab mix (l := [(48, zlU), (74, zEF)]) ⟨⟨Tryz.call48, vg⟩, ⟨Tryz.call74, ztf⟩, trivial⟩ xD (Yn (l := [(70, zQ)]) ⟨⟨Tryz.call70, ye⟩, trivial⟩)
noncomputable def zaJ (x0 x1 x2 x3 : Int) (x4 : List Int) (x5 x6 : Int) (x7 : Nat → Int) (x8 x9 : Int) (x10 : Nat → Int) : AS := ⟨[(0, .a (.ptr 0 [] (0))), (2, .a (.ptr 2 [] (0))), (3, .a (.ptr 3 [] (0))), (4, .a (.v (.int .i64 x0))), (5, .a (.v (.int .i64 x1)))], [(0, some ⟨true, .box (.rc [.sl 1, .v (.int .i64 x2), .v (.int .u64 x3)])⟩), (1, some ⟨false, .arr (.one (.i .u8)) x4⟩), (2, some ⟨true, .box (.rc [.v (.int .i8 x5), .v (.int .i8 x6), .fa 144 .u8 x7])⟩), (3, some ⟨true, .box (.rc [.v (.int .i8 x8), .v (.int .i8 x9), .fa 144 .u8 x10])⟩)], 4⟩
noncomputable def Ug (x0 x1 x2 : Int) (x3 : List Int) (x4 x5 : Int) (x6 : Nat → Int) (x7 x8 : Int) (x9 : Nat → Int) : AS := ⟨[(2, .a (.ptr 2 [] (0))), (3, .a (.ptr 3 [] (0))), (6, .a (.v (.int .i64 x0)))], [(0, some ⟨true, .box (.rc [.sl 1, .v (.int .i64 x1), .v (.int .u64 x2)])⟩), (1, some ⟨false, .arr (.one (.i .u8)) x3⟩), (2, some ⟨true, .box (.rc [.v (.int .i8 x4), .v (.int .i8 x5), .fa 144 .u8 x6])⟩), (3, some ⟨true, .box (.rc [.v (.int .i8 x7), .v (.int .i8 x8), .fa 144 .u8 x9])⟩)], 4⟩
noncomputable def Ub (x0 x1 x2 : Int) (x3 : List Int) (x4 x5 : Int) (x6 : Nat → Int) (x7 x8 : Int) (x9 : Nat → Int) : AS := ⟨[(2, .a (.ptr 2 [] (0))), (3, .a (.ptr 3 [] (0))), (7, .a (.v (.int .i64 x0)))], [(0, some ⟨true, .box (.rc [.sl 1, .v (.int .i64 x1), .v (.int .u64 x2)])⟩), (1, some ⟨false, .arr (.one (.i .u8)) x3⟩), (2, some ⟨true, .box (.rc [.v (.int .i8 x4), .v (.int .i8 x5), .fa 144 .u8 x6])⟩), (3, some ⟨true, .box (.rc [.v (.int .i8 x7), .v (.int .i8 x8), .fa 144 .u8 x9])⟩)], 4⟩
abbrev X6 := (Int × Int × (Nat → Int) × Int × Int)
noncomputable def yM (r : Int × Int × (Nat → Int) × Int × Int) : zL := ⟨.a (.rc [.v (.int .i8 r.1), .v (.int .i8 r.2.1), .fa 144 .u8 r.2.2.1]), [(0, some ⟨true, .box (.rc [.sl 1, .v (.int .i64 r.2.2.2.1), .v (.int .u64 r.2.2.2.2)])⟩)], 2⟩
abbrev Zx := (Int × Int × Int × Int × (List Int) × Int × Int × (Nat → Int) × Int × Int × (Nat → Int))
abbrev vO := X6
abbrev xW := (Int × Int × Int × (List Int) × Int × Int × (Nat → Int) × Int × Int × (Nat → Int))
abbrev WT := X6
abbrev xU := (Int × Int × Int × (List Int) × Int × Int × (Nat → Int) × Int × Int × (Nat → Int))
abbrev W7 := X6
section
variable {R R' : Type} {S : R → Prop} {r : R'} (E : X6 → Option R) (E' : X6 → Option R') (G4 : Zx → Option R) (G4' : Zx → Option R') (G11 : xW → Option R) (G11' : xW → Option R') (G18 : xU → Option R) (G18' : xU → Option R')
noncomputable def xJ (x0 x1 x2 x3 : Int) (x4 : List Int) (x5 x6 : Int) (x7 : Nat → Int) (x8 x9 : Int) (x10 : Nat → Int) : Option R := (cond (decide (x1 < 144)) (cond (YP x8 x9 x10 x1) (Option.bind (zm x0 x2 x3 x4) fun r4 => (cond (inB x1 144) (G4 (x0, (wrap .i64 (x1 + 1)), r4.2.1, r4.2.2, x4, x5, x6, x7, x8, x9, (upd x10 (Int.toNat x1) (wrap .u8 r4.1)))) none)) (G4 (x0, (wrap .i64 (x1 + 1)), x2, x3, x4, x5, x6, x7, x8, x9, x10))) (Option.bind (zm 5 x2 x3 x4) fun r5 => (cond (r5.1 == 0) (G11 (0, r5.2.1, r5.2.2, x4, x5, x6, x7, x8, x9, x10)) (cond (r5.1 == 1) (G18 (0, r5.2.1, r5.2.2, x4, x5, x6, x7, x8, (zlD x9 x8), x10)) (E (x8, x9, x10, (r5.2.1), (r5.2.2)))))))
theorem zfw (x0 x1 x2 x3 : Int) (x4 : List Int) (x5 x6 : Int) (x7 : Nat → Int) (x8 x9 : Int) (x10 : Nat → Int) (h : sem S (xJ E G4 G11 G18 x0 x1 x2 x3 x4 x5 x6 x7 x8 x9 x10)) (hE : zJ S r E E') (h4 : zJ S r G4 G4') (h11 : zJ S r G11 G11') (h18 : zJ S r G18 G18') : xJ E' G4' G11' G18' x0 x1 x2 x3 x4 x5 x6 x7 x8 x9 x10 = some r := by
 revert h
 unfold xJ
 repeat' first | refine zy ?_ ?_ | refine zA fun _ => ?_ | exact zz | exact hE _ | exact h4 _ | exact h11 _ | exact h18 _ | refine zp (fun _ => ?_) (fun _ => ?_)
noncomputable def xz (x0 x1 x2 : Int) (x3 : List Int) (x4 x5 : Int) (x6 : Nat → Int) (x7 x8 : Int) (x9 : Nat → Int) : Option R := (cond (decide (x0 < 144)) (cond (YP x7 x8 x9 x0) (cond (inB (wrap .i64 ((wrap .i64 ((wrap .i64 (x0 - (wrap .i64 (2 * (Int.tmod x0 12))))) + (wrap .i64 x7))) - 1)) 144) (cond (inB x0 144) (G11 ((wrap .i64 (x0 + 1)), x1, x2, x3, x4, x5, x6, x7, x8, (upd x9 (Int.toNat x0) (x9 (Int.toNat (wrap .i64 ((wrap .i64 ((wrap .i64 (x0 - (wrap .i64 (2 * (Int.tmod x0 12))))) + (wrap .i64 x7))) - 1))))))) none) none) (G11 ((wrap .i64 (x0 + 1)), x1, x2, x3, x4, x5, x6, x7, x8, x9))) (E (x7, x8, x9, x1, x2)))
theorem zc5 (x0 x1 x2 : Int) (x3 : List Int) (x4 x5 : Int) (x6 : Nat → Int) (x7 x8 : Int) (x9 : Nat → Int) (h : sem S (xz E G11 x0 x1 x2 x3 x4 x5 x6 x7 x8 x9)) (hE : zJ S r E E') (h11 : zJ S r G11 G11') : xz E' G11' x0 x1 x2 x3 x4 x5 x6 x7 x8 x9 = some r := by
 revert h
 unfold xz
 repeat' first | refine zy ?_ ?_ | refine zA fun _ => ?_ | exact zz | exact hE _ | exact h11 _ | refine zp (fun _ => ?_) (fun _ => ?_)
noncomputable def xt (x0 x1 x2 : Int) (x3 : List Int) (x4 x5 : Int) (x6 : Nat → Int) (x7 x8 : Int) (x9 : Nat → Int) : Option R := (cond (decide (x0 < 144)) (cond (!(YP x7 x8 x9 x0)) (cond (inB x0 144) (G18 ((wrap .i64 (x0 + 1)), x1, x2, x3, x4, x5, x6, x7, x8, (upd x9 (Int.toNat x0) 0))) none) (G18 ((wrap .i64 (x0 + 1)), x1, x2, x3, x4, x5, x6, x7, x8, x9))) (E (x7, x8, x9, x1, x2)))
theorem zcS (x0 x1 x2 : Int) (x3 : List Int) (x4 x5 : Int) (x6 : Nat → Int) (x7 x8 : Int) (x9 : Nat → Int) (h : sem S (xt E G18 x0 x1 x2 x3 x4 x5 x6 x7 x8 x9)) (hE : zJ S r E E') (h18 : zJ S r G18 G18') : xt E' G18' x0 x1 x2 x3 x4 x5 x6 x7 x8 x9 = some r := by
 revert h
 unfold xt
 repeat' first | refine zy ?_ ?_ | refine zA fun _ => ?_ | exact zz | exact hE _ | exact h18 _ | refine zp (fun _ => ?_) (fun _ => ?_)
noncomputable def ZQ (a0 a1 : Int) (a2 : List Int) : Option R := (Option.bind (zm 6 a0 a1 a2) fun r1 => (Option.bind (zm 6 (r1.2.1) (r1.2.2) a2) fun r2 => (Option.bind (zm 4 (r2.2.1) (r2.2.2) a2) fun r3 => (G4 ((wrap .i64 (1 + r3.1)), 0, r3.2.1, r3.2.2, a2, 0, 0, zF, (wrap .i8 (wrap .i64 (1 + r1.1))), (wrap .i8 (wrap .i64 (1 + r2.1))), zF)))))
theorem zij (a0 a1 : Int) (a2 : List Int) (h : sem S (ZQ G4 a0 a1 a2)) (h4 : zJ S r G4 G4') : ZQ G4' a0 a1 a2 = some r := by
 revert h
 unfold ZQ
 repeat' first | refine zy ?_ ?_ | refine zA fun _ => ?_ | exact zz | exact h4 _ | refine zp (fun _ => ?_) (fun _ => ?_)
end
noncomputable def Y4 (r : zL) (x : Zx) : Option zL := Zw r 4 (zaJ x.1 x.2.1 x.2.2.1 x.2.2.2.1 x.2.2.2.2.1 x.2.2.2.2.2.1 x.2.2.2.2.2.2.1 x.2.2.2.2.2.2.2.1 x.2.2.2.2.2.2.2.2.1 x.2.2.2.2.2.2.2.2.2.1 x.2.2.2.2.2.2.2.2.2.2)
noncomputable def w3 (r : zL) (x : xW) : Option zL := Zw r 11 (Ug x.1 x.2.1 x.2.2.1 x.2.2.2.1 x.2.2.2.2.1 x.2.2.2.2.2.1 x.2.2.2.2.2.2.1 x.2.2.2.2.2.2.2.1 x.2.2.2.2.2.2.2.2.1 x.2.2.2.2.2.2.2.2.2)
noncomputable def w5 (r : zL) (x : xU) : Option zL := Zw r 18 (Ub x.1 x.2.1 x.2.2.1 x.2.2.2.1 x.2.2.2.2.1 x.2.2.2.2.2.1 x.2.2.2.2.2.2.1 x.2.2.2.2.2.2.2.1 x.2.2.2.2.2.2.2.2.1 x.2.2.2.2.2.2.2.2.2)
theorem zcZ (x0 x1 x2 : Int) (x3 : List Int) (x4 x5 : Int) (x6 : Nat → Int) (x7 x8 : Int) (x9 : Nat → Int) (r : zL) (h : xz (fun v => some (yM v)) (w3 r) x0 x1 x2 x3 x4 x5 x6 x7 x8 x9 = some r) : Zw r 11 (Ug x0 x1 x2 x3 x4 x5 x6 x7 x8 x9) = some r :=
 zn h (by kernel_rfl)
noncomputable def Zr (x0 x1 x2 : Int) (x3 : List Int) (x4 x5 : Int) (x6 : Nat → Int) (x7 x8 : Int) (x9 : Nat → Int) : Option (xW ⊕ WT) := xz (fun v => some (Sum.inr v)) (fun x => some (Sum.inl x)) x0 x1 x2 x3 x4 x5 x6 x7 x8 x9
noncomputable def Y2 (x : xW) : Option WT := zI (fun x => Zr x.1 x.2.1 x.2.2.1 x.2.2.2.1 x.2.2.2.2.1 x.2.2.2.2.2.1 x.2.2.2.2.2.2.1 x.2.2.2.2.2.2.2.1 x.2.2.2.2.2.2.2.2.1 x.2.2.2.2.2.2.2.2.2) FU x
noncomputable def Uf (r : zL) (x : xW) : Prop := w3 r x = some r
theorem zdH (x0 x1 x2 : Int) (x3 : List Int) (x4 x5 : Int) (x6 : Nat → Int) (x7 x8 : Int) (x9 : Nat → Int) (r : zL) (h : xt (fun v => some (yM v)) (w5 r) x0 x1 x2 x3 x4 x5 x6 x7 x8 x9 = some r) : Zw r 18 (Ub x0 x1 x2 x3 x4 x5 x6 x7 x8 x9) = some r :=
 zn h (by kernel_rfl)
noncomputable def Zs (x0 x1 x2 : Int) (x3 : List Int) (x4 x5 : Int) (x6 : Nat → Int) (x7 x8 : Int) (x9 : Nat → Int) : Option (xU ⊕ W7) := xt (fun v => some (Sum.inr v)) (fun x => some (Sum.inl x)) x0 x1 x2 x3 x4 x5 x6 x7 x8 x9
noncomputable def Xh (x : xU) : Option W7 := zI (fun x => Zs x.1 x.2.1 x.2.2.1 x.2.2.2.1 x.2.2.2.2.1 x.2.2.2.2.2.1 x.2.2.2.2.2.2.1 x.2.2.2.2.2.2.2.1 x.2.2.2.2.2.2.2.2.1 x.2.2.2.2.2.2.2.2.2) FU x
noncomputable def uZ (r : zL) (x : xU) : Prop := w5 r x = some r
theorem zet (x0 x1 x2 x3 : Int) (x4 : List Int) (x5 x6 : Int) (x7 : Nat → Int) (x8 x9 : Int) (x10 : Nat → Int) (r : zL) (h : xJ (fun v => some (yM v)) (Y4 r) (w3 r) (w5 r) x0 x1 x2 x3 x4 x5 x6 x7 x8 x9 x10 = some r) : Zw r 4 (zaJ x0 x1 x2 x3 x4 x5 x6 x7 x8 x9 x10) = some r :=
 zn h (by kernel_rfl)
noncomputable def Z1 (x0 x1 x2 x3 : Int) (x4 : List Int) (x5 x6 : Int) (x7 : Nat → Int) (x8 x9 : Int) (x10 : Nat → Int) : Option (Zx ⊕ vO) := xJ (fun v => some (Sum.inr v)) (fun x => some (Sum.inl x)) (fun x => Option.map (fun x => (Sum.inr x)) (Y2 x)) (fun x => Option.map (fun x => (Sum.inr x)) (Xh x)) x0 x1 x2 x3 x4 x5 x6 x7 x8 x9 x10
noncomputable def Vr (x : Zx) : Option vO := zI (fun x => Z1 x.1 x.2.1 x.2.2.1 x.2.2.2.1 x.2.2.2.2.1 x.2.2.2.2.2.1 x.2.2.2.2.2.2.1 x.2.2.2.2.2.2.2.1 x.2.2.2.2.2.2.2.2.1 x.2.2.2.2.2.2.2.2.2.1 x.2.2.2.2.2.2.2.2.2.2) FU x
noncomputable def Ur (r : zL) (x : Zx) : Prop := Y4 r x = some r
noncomputable def Ud (r : zL) : WT → Prop := fun v => r = yM v
noncomputable def u9 (r : zL) : W7 → Prop := fun v => r = yM v
noncomputable def UJ (r : zL) : vO → Prop := fun v => r = yM v
theorem zgH (r : zL) : ∀ x, sem (Ud r) (Y2 x) → Uf r x :=
 fun x => zi (G := Uf r) (E := Ud r) (step := fun x => Zr x.1 x.2.1 x.2.2.1 x.2.2.2.1 x.2.2.2.2.1 x.2.2.2.2.2.1 x.2.2.2.2.2.2.1 x.2.2.2.2.2.2.2.1 x.2.2.2.2.2.2.2.2.1 x.2.2.2.2.2.2.2.2.2) (fun x h => zcZ x.1 x.2.1 x.2.2.1 x.2.2.2.1 x.2.2.2.2.1 x.2.2.2.2.2.1 x.2.2.2.2.2.2.1 x.2.2.2.2.2.2.2.1 x.2.2.2.2.2.2.2.2.1 x.2.2.2.2.2.2.2.2.2 r (zc5 _ _ _ _ x.1 x.2.1 x.2.2.1 x.2.2.2.1 x.2.2.2.2.1 x.2.2.2.2.2.1 x.2.2.2.2.2.2.1 x.2.2.2.2.2.2.2.1 x.2.2.2.2.2.2.2.2.1 x.2.2.2.2.2.2.2.2.2 h (fun _ h => zb h fun q => zj q) (fun _ h => zb h fun q => q))) FU x
theorem zgw (r : zL) : ∀ x, sem (u9 r) (Xh x) → uZ r x :=
 fun x => zi (G := uZ r) (E := u9 r) (step := fun x => Zs x.1 x.2.1 x.2.2.1 x.2.2.2.1 x.2.2.2.2.1 x.2.2.2.2.2.1 x.2.2.2.2.2.2.1 x.2.2.2.2.2.2.2.1 x.2.2.2.2.2.2.2.2.1 x.2.2.2.2.2.2.2.2.2) (fun x h => zdH x.1 x.2.1 x.2.2.1 x.2.2.2.1 x.2.2.2.2.1 x.2.2.2.2.2.1 x.2.2.2.2.2.2.1 x.2.2.2.2.2.2.2.1 x.2.2.2.2.2.2.2.2.1 x.2.2.2.2.2.2.2.2.2 r (zcS _ _ _ _ x.1 x.2.1 x.2.2.1 x.2.2.2.1 x.2.2.2.2.1 x.2.2.2.2.2.1 x.2.2.2.2.2.2.1 x.2.2.2.2.2.2.2.1 x.2.2.2.2.2.2.2.2.1 x.2.2.2.2.2.2.2.2.2 h (fun _ h => zb h fun q => zj q) (fun _ h => zb h fun q => q))) FU x
theorem zin (r : zL) : ∀ x, sem (UJ r) (Vr x) → Ur r x :=
 fun x => zi (G := Ur r) (E := UJ r) (step := fun x => Z1 x.1 x.2.1 x.2.2.1 x.2.2.2.1 x.2.2.2.2.1 x.2.2.2.2.2.1 x.2.2.2.2.2.2.1 x.2.2.2.2.2.2.2.1 x.2.2.2.2.2.2.2.2.1 x.2.2.2.2.2.2.2.2.2.1 x.2.2.2.2.2.2.2.2.2.2) (fun x h => zet x.1 x.2.1 x.2.2.1 x.2.2.2.1 x.2.2.2.2.1 x.2.2.2.2.2.1 x.2.2.2.2.2.2.1 x.2.2.2.2.2.2.2.1 x.2.2.2.2.2.2.2.2.1 x.2.2.2.2.2.2.2.2.2.1 x.2.2.2.2.2.2.2.2.2.2 r (zfw _ _ _ _ _ _ _ _ x.1 x.2.1 x.2.2.1 x.2.2.2.1 x.2.2.2.2.1 x.2.2.2.2.2.1 x.2.2.2.2.2.2.1 x.2.2.2.2.2.2.2.1 x.2.2.2.2.2.2.2.2.1 x.2.2.2.2.2.2.2.2.2.1 x.2.2.2.2.2.2.2.2.2.2 h (fun _ h => zb h fun q => zj q) (fun _ h => zb h fun q => q) (fun x h => zgH r x (zeg h fun _ q => q)) (fun x h => zgw r x (zeg h fun _ q => q)))) FU x
noncomputable def Zk (a0 a1 : Int) (a2 : List Int) : Option (Int × Int × (Nat → Int) × Int × Int) := ZQ Vr a0 a1 a2
theorem zic (a0 a1 : Int) (a2 : List Int) (r : zL) : TqH 2 w6 vX vc vI WL r [.ptr 0 [] (0)] [(0, some ⟨true, .box (.rc [.sl 1, .v (.int .i64 a0), .v (.int .u64 a1)])⟩), (1, some ⟨false, .arr (.one (.i .u8)) a2⟩)] = ZQ (Y4 r) a0 a1 a2 := by kernel_rfl
theorem zmJ (a0 a1 : Int) (a2 : List Int) (v : Int × Int × (Nat → Int) × Int × Int) (h : Zk a0 a1 a2 = some v) : ZQ (Y4 (yM v)) a0 a1 a2 = some (yM v) :=
 zij _ _ a0 a1 a2 (show sem (fun w => yM v = yM w) (Zk a0 a1 a2) from ⟨v, h, rfl⟩) (zin (yM v))
noncomputable def vu : Zq := fun xs hp => match xs, hp with
 | [.ptr 0 [] (0)], [(0, some ⟨true, .box (.rc [.sl 1, .v (.int .i64 a0), .v (.int .u64 a1)])⟩), (1, some ⟨false, .arr (.one (.i .u8)) a2⟩)] => .one (Int × Int × (Nat → Int) × Int × Int) (Zk a0 a1 a2) yM
 | _, _ => Z5.fail
theorem zfY : yo Tryz.prog 29 vu := by
 refine Wb zh5 vc vI WL 1 2 w6 Tryz.func29 fun xs hp => ?_
 unfold vu
 split
 ·rename_i a0 a1 a2; intro v h; exact ⟨rfl, ⟨rfl, rfl⟩, (zic a0 a1 a2 _).trans (zmJ a0 a1 a2 v h)⟩
 ·intro v h; cases h
noncomputable def zDU := zu Tryz.f5
noncomputable def zEu : Ctx := ⟨TT, zr [], zw, (WF [(29, vu), (30, yJ)])⟩
def ztq : List (Nat × zE) := []
def zwz : List ResultVar := [.cell 2 27]
theorem zGt : zq Tryz.prog zEu := yF tab mix (l := []) trivial xD (Yn (l := [(29, vu), (30, yJ)]) ⟨⟨Tryz.call29, zfY⟩, ⟨Tryz.call30, xn⟩, trivial⟩)
noncomputable def zmW (a0 : List Int) : Option (Int × Int × (Nat → Int)) := (Option.bind (Zk (zx a0).1 (zx a0).2 a0) fun r1 => (some ((r1.1), (r1.2.1), (r1.2.2.1))))
theorem zFv (a0 : List Int) (r : List A) : Tq zEu ztq zDU zwz r [.lst (.one (.i .u8)) a0] = (Option.bind (Zk (zx a0).1 (zx a0).2 a0) fun r1 => (some [.rc [.v (.int .i8 r1.1), .v (.int .i8 r1.2.1), .fa 144 .u8 r1.2.2.1]])) := by kernel_rfl
noncomputable def zQb (r : Int × Int × (Nat → Int)) : List A := [.rc [.v (.int .i8 r.1), .v (.int .i8 r.2.1), .fa 144 .u8 r.2.2]]
theorem zPz (a0 : List Int) (v : Int × Int × (Nat → Int)) (h : zmW a0 = some v) : (Option.bind (Zk (zx a0).1 (zx a0).2 a0) fun r1 => (some [.rc [.v (.int .i8 r1.1), .v (.int .i8 r1.2.1), .fa 144 .u8 r1.2.2.1]])) = some (zQb v) := by
 refine Eq.trans (b := Option.map zQb (zmW a0)) ?_ (by rw [h]; rfl)
 unfold zmW
 exact (zV fun _ => rfl)
noncomputable def zP7 : List A → ze
 | [.lst (.one (.i .u8)) a0] => ⟨(Int × Int × (Nat → Int)), zmW a0, fun r => .one (.rc [.v (.int .i8 r.1), .v (.int .i8 r.2.1), .fa 144 .u8 r.2.2])⟩
 | _ => ze.fail
theorem ztK : zC Tryz.prog 5 zP7 := by
 refine good zGt ztq zDU zwz 1 Tryz.func5 fun rs => ?_
 unfold zP7
 split
 ·rename_i a0; intro v h; exact ⟨rfl, zQb v, rfl, (zFv a0 _).trans (zPz a0 v h)⟩
 ·intro v h; cases h
noncomputable def vT := zu Tryz.f49
noncomputable def vR : Ctx := ⟨TT, zr [], zw, (WF [(70, zQ)])⟩
def Wk : List (Nat × zE) := [(3, ([0, 3, 4], [], []))]
def W8 : List ResultVar := [.tmp 2]
noncomputable def wZ : List (Nat × Option Blk) := [(0, some ⟨true, .box (.rc [.sl 1, .v (.bool false), .v (.bool false)])⟩), (1, some ⟨false, .arr (.one (.i .u8)) []⟩)]
noncomputable def Yv := LqH 2 wZ vR Wk vT W8
theorem zig : zq Tryz.prog vR := yF tab mix (l := []) trivial xD (Yn (l := [(70, zQ)]) ⟨⟨Tryz.call70, ye⟩, trivial⟩)
noncomputable def Z4 (x0 x1 x2 : Int) (x3 x4 : List Int) : AS := ⟨[(0, .a (.ptr 0 [] (0))), (3, .a (.sl 2)), (4, .a (.v (.int .i64 x0)))], [(0, some ⟨true, .box (.rc [.sl 1, .v (.int .i64 x1), .v (.int .u64 x2)])⟩), (1, some ⟨false, .arr (.one (.i .u8)) x3⟩), (2, some ⟨true, .arr (.one (.i .i16)) x4⟩)], 3⟩
noncomputable def Z0 (r : Int × Int × (List Int)) : zL := ⟨.a (.sl 2), [(0, some ⟨true, .box (.rc [.sl 1, .v (.int .i64 r.1), .v (.int .u64 r.2.1)])⟩), (2, some ⟨true, .arr (.one (.i .i16)) r.2.2⟩)], 3⟩
theorem zfC (x0 x1 x2 : Int) (x3 x4 : List Int) (r : zL) (h : (cond (decide (x0 > 0)) (Option.bind (zm 9 x1 x2 x3) fun r3 => (cond (zW ((List.length (x4 : List Int) + List.length ([(wrap .i16 (wrap .i64 (1 + r3.1)))] : List Int)) * 2)) (Yv r 3 (Z4 (wrap .i64 (x0 - 1)) r3.2.1 r3.2.2 x3 (x4 ++ [(wrap .i16 (wrap .i64 (1 + r3.1)))]))) none)) (some ⟨.a (.sl 2), [(0, some ⟨true, .box (.rc [.sl 1, .v (.int .i64 x1), .v (.int .u64 x2)])⟩), (2, some ⟨true, .arr (.one (.i .i16)) x4⟩)], 3⟩)) = some r) : Yv r 3 (Z4 x0 x1 x2 x3 x4) = some r :=
 zn h (by kernel_rfl)
noncomputable def yL (x0 x1 x2 : Int) (x3 x4 : List Int) : Option ((Int × Int × Int × (List Int) × (List Int)) ⊕ (Int × Int × (List Int))) := (cond (decide (x0 > 0)) (Option.bind (zm 9 x1 x2 x3) fun r3 => (cond (zW ((List.length (x4 : List Int) + List.length ([(wrap .i16 (wrap .i64 (1 + r3.1)))] : List Int)) * 2)) (some (Sum.inl ((wrap .i64 (x0 - 1)), r3.2.1, r3.2.2, x3, (x4 ++ [(wrap .i16 (wrap .i64 (1 + r3.1)))])))) none)) (some (Sum.inr (x1, x2, x4))))
noncomputable def XR (x : Int × Int × Int × (List Int) × (List Int)) : Option (Int × Int × (List Int)) := zI (fun x => yL x.1 x.2.1 x.2.2.1 x.2.2.2.1 x.2.2.2.2) FU x
noncomputable def zlX (r : zL) (x : Int × Int × Int × (List Int) × (List Int)) : Prop := Yv r 3 (Z4 x.1 x.2.1 x.2.2.1 x.2.2.2.1 x.2.2.2.2) = some r
noncomputable def zjG (r : zL) : (Int × Int × (List Int)) → Prop := fun v => r = Z0 v
theorem zio (r : zL) : ∀ x, sem (zjG r) (XR x) → zlX r x :=
 fun x => zi (step := fun x => yL x.1 x.2.1 x.2.2.1 x.2.2.2.1 x.2.2.2.2) (fun x h => by
  unfold yL at h
  exact zfC x.1 x.2.1 x.2.2.1 x.2.2.2.1 x.2.2.2.2 r ((za h (fun h => (zT h fun r3 h => (za h (fun h => zb h fun q => q) (fun h => zf h)))) (fun h => zb h fun q => zj q)))) FU x
noncomputable def Zi (a0 a1 : Int) (a2 : List Int) : Option (Int × Int × (List Int)) := (Option.bind (zm 9 a0 a1 a2) fun r1 => (Option.bind (zm 6 (r1.2.1) (r1.2.2) a2) fun r2 => (XR (r2.1, r2.2.1, r2.2.2, a2, [(wrap .i16 (wrap .i64 (1 + r1.1)))]))))
theorem zii (a0 a1 : Int) (a2 : List Int) (r : zL) : TqH 2 wZ vR Wk vT W8 r [.ptr 0 [] (0)] [(0, some ⟨true, .box (.rc [.sl 1, .v (.int .i64 a0), .v (.int .u64 a1)])⟩), (1, some ⟨false, .arr (.one (.i .u8)) a2⟩)] = (Option.bind (zm 9 a0 a1 a2) fun r1 => (Option.bind (zm 6 (r1.2.1) (r1.2.2) a2) fun r2 => (Yv r 3 (Z4 r2.1 r2.2.1 r2.2.2 a2 [(wrap .i16 (wrap .i64 (1 + r1.1)))])))) := by kernel_rfl
theorem zjj (a0 a1 : Int) (a2 : List Int) (v : Int × Int × (List Int)) (h : Zi a0 a1 a2 = some v) : (Option.bind (zm 9 a0 a1 a2) fun r1 => (Option.bind (zm 6 (r1.2.1) (r1.2.2) a2) fun r2 => (Yv (Z0 v) 3 (Z4 r2.1 r2.2.1 r2.2.2 a2 [(wrap .i16 (wrap .i64 (1 + r1.1)))])))) = some (Z0 v) := by
 replace h : sem (fun w => Z0 v = Z0 w) (Zi a0 a1 a2) := ⟨v, h, rfl⟩
 unfold Zi at h
 exact (zT h fun r1 h => (zT h fun r2 h => zio (Z0 v) _ h))
noncomputable def vt : Zq := fun xs hp => match xs, hp with
 | [.ptr 0 [] (0)], [(0, some ⟨true, .box (.rc [.sl 1, .v (.int .i64 a0), .v (.int .u64 a1)])⟩), (1, some ⟨false, .arr (.one (.i .u8)) a2⟩)] => .one (Int × Int × (List Int)) (Zi a0 a1 a2) Z0
 | _, _ => Z5.fail
theorem ze3 : yo Tryz.prog 49 vt := by
 refine Wb zig Wk vT W8 1 2 wZ Tryz.func49 fun xs hp => ?_
 unfold vt
 split
 ·rename_i a0 a1 a2; intro v h; exact ⟨rfl, ⟨rfl, rfl⟩, (zii a0 a1 a2 _).trans (zjj a0 a1 a2 v h)⟩
 ·intro v h; cases h
noncomputable def zEo := zu Tryz.f15
noncomputable def zDg : Ctx := ⟨TT, zr [], zw, (WF [(30, yJ), (49, vt)])⟩
def zyN : List (Nat × zE) := []
def zwY : List ResultVar := [.tmp 2]
theorem zJR : zq Tryz.prog zDg := yF tab mix (l := []) trivial xD (Yn (l := [(30, yJ), (49, vt)]) ⟨⟨Tryz.call30, xn⟩, ⟨Tryz.call49, ze3⟩, trivial⟩)
noncomputable def zlP (a0 : List Int) : Option (List Int) := (Option.bind (Zi (zx a0).1 (zx a0).2 a0) fun r1 => (some (r1.2.2)))
theorem zIx (a0 : List Int) (r : List A) : Tq zDg zyN zEo zwY r [.lst (.one (.i .u8)) a0] = (Option.bind (Zi (zx a0).1 (zx a0).2 a0) fun r1 => (some [.lst (.one (.i .i16)) r1.2.2])) := by kernel_rfl
noncomputable def zQS (r : List Int) : List A := [.lst (.one (.i .i16)) r]
theorem zOn (a0 v : List Int) (h : zlP a0 = some v) : (Option.bind (Zi (zx a0).1 (zx a0).2 a0) fun r1 => (some [.lst (.one (.i .i16)) r1.2.2])) = some (zQS v) := by
 refine Eq.trans (b := Option.map zQS (zlP a0)) ?_ (by rw [h]; rfl)
 unfold zlP
 exact (zV fun _ => rfl)
noncomputable def zQh : List A → ze
 | [.lst (.one (.i .u8)) a0] => ⟨(List Int), zlP a0, fun r => .one (.lst (.one (.i .i16)) r)⟩
 | _ => ze.fail
theorem zAk : zC Tryz.prog 15 zQh := by
 refine good zJR zyN zEo zwY 1 Tryz.func15 fun rs => ?_
 unfold zQh
 split
 ·rename_i a0; intro v h; exact ⟨rfl, zQS v, rfl, (zIx a0 _).trans (zOn a0 v h)⟩
 ·intro v h; cases h
end Go.RR
