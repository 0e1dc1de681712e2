/- Jobs. -/
import Derived.Test.YtbmaolhjplapoaaGreatVa
set_option linter.unusedVariables false
set_option linter.unusedSimpArgs false
set_option linter.unusedSectionVars false
set_option maxRecDepth 100000
namespace Go.RR
open Go Go.Proofs
open Go.IntKind (wrap)
noncomputable def YD := zu Tryz.f152
noncomputable def YJ : Ctx := ⟨TT, zr [], zw, zU⟩
def Yq : List (Nat × zE) := [(1, ([0, 2, 3], [], []))]
def Ys : List ResultVar := []
noncomputable def xy := LqU YJ Yq YD Ys
theorem zao : zq Tryz.prog YJ := zo tab mix trivial
noncomputable def xc (x0 x1 : Int) (x2 : List Int) : AS := ⟨[(0, .a (.sl 0)), (2, .a (.v (.int .i64 x0))), (3, .a (.v (.int .i64 x1)))], [(0, some ⟨true, .arr (.one (.i .i64)) x2⟩)], 1⟩
noncomputable def xo (r : List Int) : List A := [.lst (.one (.i .i64)) r]
theorem V4 (x0 x1 : Int) (x2 : List Int) (r : List A) (h : (cond (decide (x0 < x1)) (cond (inB x1 x2.length) (cond (inB x0 x2.length) (cond (inB x0 x2.length) (cond (inB x1 (List.length (List.set x2 (Int.toNat x0) (List.getD x2 (Int.toNat x1) 0)))) (xy r 1 (xc (wrap .i64 (x0 + 1)) (wrap .i64 (x1 - 1)) (List.set (List.set x2 (Int.toNat x0) (List.getD x2 (Int.toNat x1) 0)) (Int.toNat x1) (List.getD x2 (Int.toNat x0) 0)))) none) none) none) none) (some [.lst (.one (.i .i64)) x2])) = some r) : xy r 1 (xc x0 x1 x2) = some r :=
 zn h (by kernel_rfl)
noncomputable def yi (x0 x1 : Int) (x2 : List Int) : Option ((Int × Int × (List Int)) ⊕ (List Int)) := (cond (decide (x0 < x1)) (cond (inB x1 x2.length) (cond (inB x0 x2.length) (cond (inB x0 x2.length) (cond (inB x1 (List.length (List.set x2 (Int.toNat x0) (List.getD x2 (Int.toNat x1) 0)))) (some (Sum.inl ((wrap .i64 (x0 + 1)), (wrap .i64 (x1 - 1)), (List.set (List.set x2 (Int.toNat x0) (List.getD x2 (Int.toNat x1) 0)) (Int.toNat x1) (List.getD x2 (Int.toNat x0) 0))))) none) none) none) none) (some (Sum.inr x2)))
noncomputable def ZB (x : Int × Int × (List Int)) : Option (List Int) := zI (fun x => yi x.1 x.2.1 x.2.2) FU x
noncomputable def zb0 (r : List A) (x : Int × Int × (List Int)) : Prop := xy r 1 (xc x.1 x.2.1 x.2.2) = some r
noncomputable def zb7 (r : List A) : (List Int) → Prop := fun v => r = xo v
theorem za2 (r : List A) : ∀ x, sem (zb7 r) (ZB x) → zb0 r x :=
 fun x => zi (step := fun x => yi x.1 x.2.1 x.2.2) (fun x h => by
  unfold yi at h
  exact V4 x.1 x.2.1 x.2.2 r ((za h (fun h => (za h (fun h => (za h (fun h => (za h (fun h => (za h (fun h => zb h fun q => q) (fun h => zf h))) (fun h => zf h))) (fun h => zf h))) (fun h => zf h))) (fun h => zb h fun q => zj q)))) FU x
noncomputable def yD (a0 : List Int) : Option (List Int) := (ZB (0, (wrap .i64 ((a0.length : Int) - 1)), a0))
theorem UM (a0 : List Int) (r : List A) : TqU YJ Yq YD Ys r (.one (.i .i64)) a0 [] = (xy r 1 (xc 0 (wrap .i64 ((a0.length : Int) - 1)) a0)) := by kernel_rfl
theorem zb2 (a0 v : List Int) (h : yD a0 = some v) : (xy (xo v) 1 (xc 0 (wrap .i64 ((a0.length : Int) - 1)) a0)) = some (xo v) := by
 replace h : sem (fun w => xo v = xo w) (yD a0) := ⟨v, h, rfl⟩
 unfold yD at h
 exact za2 (xo v) _ h
noncomputable def Yj : zb6 := fun e l rest => match e, l, rest with
 | (.one (.i .i64)), a0, [] => ⟨(List Int), yD a0, fun r => none, fun r => r⟩
 | _, _, _ => zg1.fail
theorem ue : vN Tryz.prog 152 Yj := by
 refine zVh zao Yq YD Ys 1 Tryz.func152 fun e l rest => ?_
 unfold Yj
 split
 ·rename_i a0; intro v h; exact ⟨rfl, (UM a0 _).trans (zb2 a0 v h)⟩
 ·intro v h; cases h
noncomputable def zq9 := zu Tryz.f112
noncomputable def zqL : Ctx := ⟨TT, zr [], zw, zU⟩
def zkx : List (Nat × zE) := [(3, ([3, 7, 8], [], []))]
def znb : List ResultVar := [.tmp 2]
noncomputable def zeQ := Lq zqL zkx zq9 znb
theorem zGm : zq Tryz.prog zqL := zo tab mix trivial
noncomputable def zaL (x0 x1 : Int) (x2 : List Int) : AS := ⟨[(3, .a (.sl 0)), (7, .a (.v (.int .i64 x0))), (8, .a (.v (.int .i64 x1)))], [(0, some ⟨true, .arr (.one (.i .i64)) x2⟩)], 1⟩
noncomputable def zjz (r : List Int) : List A := [.lst (.one (.i .i64)) r]
theorem zvh (x0 x1 : Int) (x2 : List Int) (r : List A) (h : (cond (decide (x1 < x0)) (cond (zW ((List.length (x2 : List Int) + List.length ([x1] : List Int)) * 8)) (zeQ r 3 (zaL x0 (wrap .i64 (x1 + 1)) (x2 ++ [x1]))) none) (some [.lst (.one (.i .i64)) x2])) = some r) : zeQ r 3 (zaL x0 x1 x2) = some r :=
 zn h (by kernel_rfl)
noncomputable def wL (x0 x1 : Int) (x2 : List Int) : Option ((Int × Int × (List Int)) ⊕ (List Int)) := (cond (decide (x1 < x0)) (cond (zW ((List.length (x2 : List Int) + List.length ([x1] : List Int)) * 8)) (some (Sum.inl (x0, (wrap .i64 (x1 + 1)), (x2 ++ [x1])))) none) (some (Sum.inr x2)))
noncomputable def zcW (x : Int × Int × (List Int)) : Option (List Int) := zI (fun x => wL x.1 x.2.1 x.2.2) FU x
noncomputable def zQ8 (r : List A) (x : Int × Int × (List Int)) : Prop := zeQ r 3 (zaL x.1 x.2.1 x.2.2) = some r
noncomputable def zO1 (r : List A) : (List Int) → Prop := fun v => r = zjz v
theorem zIr (r : List A) : ∀ x, sem (zO1 r) (zcW x) → zQ8 r x :=
 fun x => zi (step := fun x => wL x.1 x.2.1 x.2.2) (fun x h => by
  unfold wL at h
  exact zvh x.1 x.2.1 x.2.2 r ((za h (fun h => (za h (fun h => zb h fun q => q) (fun h => zf h))) (fun h => zb h fun q => zj q)))) FU x
noncomputable def zaN (a0 : List (Int × Int)) : Option (List Int) := (zcW ((a0.length : Int), 0, []))
theorem zFj (a0 : List (Int × Int)) (r : List A) : Tq zqL zkx zq9 znb r [.lst (.st [(.i .i8), (.i .u16)]) a0] = (zeQ r 3 (zaL (a0.length : Int) 0 [])) := by kernel_rfl
theorem zQ2 (a0 : List (Int × Int)) (v : List Int) (h : zaN a0 = some v) : (zeQ (zjz v) 3 (zaL (a0.length : Int) 0 [])) = some (zjz v) := by
 replace h : sem (fun w => zjz v = zjz w) (zaN a0) := ⟨v, h, rfl⟩
 unfold zaN at h
 exact zIr (zjz v) _ h
noncomputable def zEm : List A → ze
 | [.lst (.st [(.i .i8), (.i .u16)]) a0] => ⟨(List Int), zaN a0, fun r => .one (.lst (.one (.i .i64)) r)⟩
 | _ => ze.fail
theorem zg2 : zC Tryz.prog 112 zEm := by
 refine good zGm zkx zq9 znb 1 Tryz.func112 fun rs => ?_
 unfold zEm
 split
 ·rename_i a0; intro v h; exact ⟨rfl, zjz v, rfl, (zFj a0 _).trans (zQ2 a0 v h)⟩
 ·intro v h; cases h
noncomputable def zFd := zu Tryz.f129
noncomputable def zEI : Ctx := ⟨TT, zr [], zw, zU⟩
def zvZ : List (Nat × zE) := []
def zvj : List ResultVar := [.tmp 4]
theorem zIi : zq Tryz.prog zEI := zo tab mix trivial
noncomputable def zhY (a0 a1 : Int) (a2 : List (Int × Int)) : Option Bool := (cond (decide (a0 < 0)) none (cond ((vY .u16 (yz .u16 a1 a0) 1) == 0) (cond (inB a0 a2.length) (some ((zO .u16 (List.getD a2 (Int.toNat a0) ((0, 0) : (Int × Int))).2 a1) == 0)) none) (some false)))
theorem zHA (a0 a1 : Int) (a2 : List (Int × Int)) (r : List A) : Tq zEI zvZ zFd zvj r [.v (.int .i64 a0), .ref (.v (.int .u16 a1)), .ref (.lst (.st [(.i .i8), (.i .u16)]) a2)] = (cond (decide (a0 < 0)) none (cond ((vY .u16 (yz .u16 a1 a0) 1) == 0) (cond (inB a0 a2.length) (some [.v (.bool ((zO .u16 (List.getD a2 (Int.toNat a0) ((0, 0) : (Int × Int))).2 a1) == 0))]) none) (some [.v (.bool false)]))) := by kernel_rfl
noncomputable def zoR (r : Bool) : List A := [.v (.bool r)]
theorem zOL (a0 a1 : Int) (a2 : List (Int × Int)) (v : Bool) (h : zhY a0 a1 a2 = some v) : (cond (decide (a0 < 0)) none (cond ((vY .u16 (yz .u16 a1 a0) 1) == 0) (cond (inB a0 a2.length) (some [.v (.bool ((zO .u16 (List.getD a2 (Int.toNat a0) ((0, 0) : (Int × Int))).2 a1) == 0))]) none) (some [.v (.bool false)]))) = some (zoR v) := by
 refine Eq.trans (b := Option.map zoR (zhY a0 a1 a2)) ?_ (by rw [h]; rfl)
 unfold zhY
 exact (zM (Option.map zoR) rfl (zM (Option.map zoR) (zM (Option.map zoR) rfl rfl) rfl))
noncomputable def zOD : List A → ze
 | [.v (.int .i64 a0), .ref (.v (.int .u16 a1)), .ref (.lst (.st [(.i .i8), (.i .u16)]) a2)] => ⟨Bool, zhY a0 a1 a2, fun r => .one (.v (.bool r))⟩
 | _ => ze.fail
theorem zwA : zC Tryz.prog 129 zOD := by
 refine good zIi zvZ zFd zvj 3 Tryz.func129 fun rs => ?_
 unfold zOD
 split
 ·rename_i a0 a1 a2; intro v h; exact ⟨rfl, zoR v, rfl, (zHA a0 a1 a2 _).trans (zOL a0 a1 a2 v h)⟩
 ·intro v h; cases h
noncomputable def zqF := zu Tryz.f111
noncomputable def zrs : Ctx := ⟨TT, zr [(129, zOD)], zw, zU⟩
def zm7 : List (Nat × zE) := [(2, ([0, 1, 7, 8], [], []))]
def zjV : List ResultVar := [.tmp 4]
noncomputable def zeO := Lq zrs zm7 zqF zjV
theorem zGM : zq Tryz.prog zrs := zo tab mix ⟨⟨Tryz.call129, zwA⟩, trivial⟩
noncomputable def zaZ (x0 x1 : Int) (x2 : List Int) (x3 : Int) (x4 : List (Int × Int)) : AS := ⟨[(0, .a (.sl 0)), (1, .a (.clo 129 [.ptr 1 [] (0), .ptr 2 [] (0)])), (7, .a (.v (.int .i64 x0))), (8, .a (.v (.int .i64 x1)))], [(0, some ⟨false, .arr (.one (.i .i64)) x2⟩), (1, some ⟨false, .box (.v (.int .u16 x3))⟩), (2, some ⟨false, .box (.sl 3)⟩), (3, some ⟨false, .arr (.st [(.i .i8), (.i .u16)]) x4⟩)], 4⟩
noncomputable def zjK (r : Int) : List A := [.v (.int .i64 r)]
theorem zxq (x0 x1 : Int) (x2 : List Int) (x3 : Int) (x4 : List (Int × Int)) (r : List A) (h : (cond (decide (x1 < x0)) (cond (inB x1 x2.length) (Option.bind (zhY (List.getD x2 (Int.toNat x1) 0) x3 x4) fun r1 => (cond r1 (some [.v (.int .i64 x1)]) (zeO r 2 (zaZ x0 (wrap .i64 (x1 + 1)) x2 x3 x4)))) none) (some [.v (.int .i64 (-1))])) = some r) : zeO r 2 (zaZ x0 x1 x2 x3 x4) = some r :=
 zn h (by kernel_rfl)
noncomputable def Xl (x0 x1 : Int) (x2 : List Int) (x3 : Int) (x4 : List (Int × Int)) : Option ((Int × Int × (List Int) × Int × (List (Int × Int))) ⊕ Int) := (cond (decide (x1 < x0)) (cond (inB x1 x2.length) (Option.bind (zhY (List.getD x2 (Int.toNat x1) 0) x3 x4) fun r1 => (cond r1 (some (Sum.inr x1)) (some (Sum.inl (x0, (wrap .i64 (x1 + 1)), x2, x3, x4))))) none) (some (Sum.inr (-1))))
noncomputable def zc4 (x : Int × Int × (List Int) × Int × (List (Int × Int))) : Option Int := zI (fun x => Xl x.1 x.2.1 x.2.2.1 x.2.2.2.1 x.2.2.2.2) FU x
noncomputable def zLU (r : List A) (x : Int × Int × (List Int) × Int × (List (Int × Int))) : Prop := zeO r 2 (zaZ x.1 x.2.1 x.2.2.1 x.2.2.2.1 x.2.2.2.2) = some r
noncomputable def zRv (r : List A) : Int → Prop := fun v => r = zjK v
theorem zIj (r : List A) : ∀ x, sem (zRv r) (zc4 x) → zLU r x :=
 fun x => zi (step := fun x => Xl x.1 x.2.1 x.2.2.1 x.2.2.2.1 x.2.2.2.2) (fun x h => by
  unfold Xl at h
  exact zxq x.1 x.2.1 x.2.2.1 x.2.2.2.1 x.2.2.2.2 r ((za h (fun h => (za h (fun h => (zT h fun r1 h => (za h (fun h => zb h fun q => zj q) (fun h => zb h fun q => q)))) (fun h => zf h))) (fun h => zb h fun q => zj q)))) FU x
noncomputable def zhE (a0 : List Int) (a1 : Int) (a2 : List (Int × Int)) : Option Int := (zc4 ((a0.length : Int), 0, a0, a1, a2))
theorem zHI (a0 : List Int) (a1 : Int) (a2 : List (Int × Int)) (r : List A) : Tq zrs zm7 zqF zjV r [.lst (.one (.i .i64)) a0, .clo 129 [.ref (.v (.int .u16 a1)), .ref (.lst (.st [(.i .i8), (.i .u16)]) a2)]] = (zeO r 2 (zaZ (a0.length : Int) 0 a0 a1 a2)) := by kernel_rfl
theorem zMF (a0 : List Int) (a1 : Int) (a2 : List (Int × Int)) (v : Int) (h : zhE a0 a1 a2 = some v) : (zeO (zjK v) 2 (zaZ (a0.length : Int) 0 a0 a1 a2)) = some (zjK v) := by
 replace h : sem (fun w => zjK v = zjK w) (zhE a0 a1 a2) := ⟨v, h, rfl⟩
 unfold zhE at h
 exact zIj (zjK v) _ h
noncomputable def zOG : List A → ze
 | [.lst (.one (.i .i64)) a0, .clo 129 [.ref (.v (.int .u16 a1)), .ref (.lst (.st [(.i .i8), (.i .u16)]) a2)]] => ⟨Int, zhE a0 a1 a2, fun r => .one (.v (.int .i64 r))⟩
 | _ => ze.fail
theorem zAh : zC Tryz.prog 111 zOG := by
 refine good zGM zm7 zqF zjV 2 Tryz.func111 fun rs => ?_
 unfold zOG
 split
 ·rename_i a0 a1 a2; intro v h; exact ⟨rfl, zjK v, rfl, (zHI a0 a1 a2 _).trans (zMF a0 a1 a2 v h)⟩
 ·intro v h; cases h
noncomputable def zr4 := zu Tryz.f100
noncomputable def zrk : Ctx := ⟨TT, zr [(111, zOG), (112, zEm)], zw, zU⟩
def zly : List (Nat × zE) := [(3, ([1, 3, 4, 8, 9], [], []))]
def zl2 : List ResultVar := [.tmp 2]
noncomputable def zfM := Lq zrk zly zr4 zl2
theorem zLm : zq Tryz.prog zrk := zo tab mix ⟨⟨Tryz.call111, zAh⟩, ⟨Tryz.call112, zg2⟩, trivial⟩
noncomputable def zap (x0 x1 : Int) (x2 : List (Int × Int)) (x3 : List Int) (x4 : Int) : AS := ⟨[(1, .a (.ptr 0 [] (0))), (3, .a (.sl 2)), (4, .a (.ptr 3 [] (0))), (8, .a (.v (.int .i64 x0))), (9, .a (.v (.int .i64 x1)))], [(0, some ⟨true, .box (.sl 1)⟩), (1, some ⟨false, .arr (.st [(.i .i8), (.i .u16)]) x2⟩), (2, some ⟨true, .arr (.one (.i .i64)) x3⟩), (3, some ⟨true, .box (.v (.int .u16 x4))⟩)], 4⟩
noncomputable def znm (r : List Int) : List A := [.lst (.one (.i .i64)) r]
theorem zzz (x0 x1 : Int) (x2 : List (Int × Int)) (x3 : List Int) (x4 : Int) (r : List A) (h : (cond (decide (x1 < x0)) (Option.bind (zaN x2) fun r1 => (Option.bind (zhE r1 x4 x2) fun r2 => (cond (decide (r2 < 0)) (some [.lst (.one (.i .i64)) x3]) (cond (zW ((List.length (x3 : List Int) + List.length ([r2] : List Int)) * 8)) (cond (decide (r2 < 0)) none (zfM r 3 (zap x0 (wrap .i64 (x1 + 1)) x2 (x3 ++ [r2]) (bOr .u16 x4 (yl .u16 1 r2))))) none)))) (some [.lst (.one (.i .i64)) x3])) = some r) : zfM r 3 (zap x0 x1 x2 x3 x4) = some r :=
 zn h (by kernel_rfl)
noncomputable def WS (x0 x1 : Int) (x2 : List (Int × Int)) (x3 : List Int) (x4 : Int) : Option ((Int × Int × (List (Int × Int)) × (List Int) × Int) ⊕ (List Int)) := (cond (decide (x1 < x0)) (Option.bind (zaN x2) fun r1 => (Option.bind (zhE r1 x4 x2) fun r2 => (cond (decide (r2 < 0)) (some (Sum.inr x3)) (cond (zW ((List.length (x3 : List Int) + List.length ([r2] : List Int)) * 8)) (cond (decide (r2 < 0)) none (some (Sum.inl (x0, (wrap .i64 (x1 + 1)), x2, (x3 ++ [r2]), (bOr .u16 x4 (yl .u16 1 r2)))))) none)))) (some (Sum.inr x3)))
noncomputable def zkr (x : Int × Int × (List (Int × Int)) × (List Int) × Int) : Option (List Int) := zI (fun x => WS x.1 x.2.1 x.2.2.1 x.2.2.2.1 x.2.2.2.2) FU x
noncomputable def zNE (r : List A) (x : Int × Int × (List (Int × Int)) × (List Int) × Int) : Prop := zfM r 3 (zap x.1 x.2.1 x.2.2.1 x.2.2.2.1 x.2.2.2.2) = some r
noncomputable def zOQ (r : List A) : (List Int) → Prop := fun v => r = znm v
theorem zKH (r : List A) : ∀ x, sem (zOQ r) (zkr x) → zNE r x :=
 fun x => zi (step := fun x => WS x.1 x.2.1 x.2.2.1 x.2.2.2.1 x.2.2.2.2) (fun x h => by
  unfold WS at h
  exact zzz x.1 x.2.1 x.2.2.1 x.2.2.2.1 x.2.2.2.2 r ((za h (fun h => (zT h fun r1 h => (zT h fun r2 h => (za h (fun h => zb h fun q => zj q) (fun h => (za h (fun h => (za h (fun h => zf h) (fun h => zb h fun q => q))) (fun h => zf h))))))) (fun h => zb h fun q => zj q)))) FU x
noncomputable def zk7 (a0 : List (Int × Int)) : Option (List Int) := (zkr ((a0.length : Int), 0, a0, [], 0))
theorem zLo (a0 : List (Int × Int)) (r : List A) : Tq zrk zly zr4 zl2 r [.lst (.st [(.i .i8), (.i .u16)]) a0] = (zfM r 3 (zap (a0.length : Int) 0 a0 [] 0)) := by kernel_rfl
theorem zNk (a0 : List (Int × Int)) (v : List Int) (h : zk7 a0 = some v) : (zfM (znm v) 3 (zap (a0.length : Int) 0 a0 [] 0)) = some (znm v) := by
 replace h : sem (fun w => znm v = znm w) (zk7 a0) := ⟨v, h, rfl⟩
 unfold zk7 at h
 exact zKH (znm v) _ h
noncomputable def zta : List A → ze
 | [.lst (.st [(.i .i8), (.i .u16)]) a0] => ⟨(List Int), zk7 a0, fun r => .one (.lst (.one (.i .i64)) r)⟩
 | _ => ze.fail
theorem zhu : zC Tryz.prog 100 zta := by
 refine good zLm zly zr4 zl2 1 Tryz.func100 fun rs => ?_
 unfold zta
 split
 ·rename_i a0; intro v h; exact ⟨rfl, znm v, rfl, (zLo a0 _).trans (zNk a0 v h)⟩
 ·intro v h; cases h
noncomputable def zE1 := zu Tryz.f99
noncomputable def zC9 : Ctx := ⟨TT, zr [(54, vy)], zw, zU⟩
def zzp : List (Nat × zE) := []
def zt5 : List ResultVar := [.tmp 3]
theorem zH6 : zq Tryz.prog zC9 := zo tab mix ⟨⟨Tryz.call54, yP⟩, trivial⟩
noncomputable def zjO (a0 a1 a2 : Int) : Option Bool := (cond (!(yf (wrap .i64 a0) 1 30)) (some true) (cond (decide (a2 < 0)) none (some ((yz .u16 a1 a2) != 0))))
theorem zHc (a0 a1 a2 : Int) (r : List A) : Tq zC9 zzp zE1 zt5 r [.rc [.v (.int .i8 a0), .v (.int .u16 a1)], .ref (.v (.int .i64 a2))] = (cond (!(yf (wrap .i64 a0) 1 30)) (some [.v (.bool true)]) (cond (decide (a2 < 0)) none (some [.v (.bool ((yz .u16 a1 a2) != 0))]))) := by kernel_rfl
noncomputable def zzK (r : Bool) : List A := [.v (.bool r)]
theorem zSb (a0 a1 a2 : Int) (v : Bool) (h : zjO a0 a1 a2 = some v) : (cond (!(yf (wrap .i64 a0) 1 30)) (some [.v (.bool true)]) (cond (decide (a2 < 0)) none (some [.v (.bool ((yz .u16 a1 a2) != 0))]))) = some (zzK v) := by
 refine Eq.trans (b := Option.map zzK (zjO a0 a1 a2)) ?_ (by rw [h]; rfl)
 unfold zjO
 exact (zM (Option.map zzK) rfl (zM (Option.map zzK) rfl rfl))
noncomputable def zOC : List A → ze
 | [.rc [.v (.int .i8 a0), .v (.int .u16 a1)], .ref (.v (.int .i64 a2))] => ⟨Bool, zjO a0 a1 a2, fun r => .one (.v (.bool r))⟩
 | _ => ze.fail
theorem zwI : zC Tryz.prog 99 zOC := by
 refine good zH6 zzp zE1 zt5 2 Tryz.func99 fun rs => ?_
 unfold zOC
 split
 ·rename_i a0 a1 a2; intro v h; exact ⟨rfl, zzK v, rfl, (zHc a0 a1 a2 _).trans (zSb a0 a1 a2 v h)⟩
 ·intro v h; cases h
noncomputable def zrl := zu Tryz.f128
noncomputable def zpY : Ctx := ⟨TT, zr [(99, zOC)], zw, zU⟩
def zmn : List (Nat × zE) := [(2, ([0, 1, 7, 8], [], []))]
def zmU : List ResultVar := [.tmp 4]
noncomputable def zfb := Lq zpY zmn zrl zmU
theorem zKW : zq Tryz.prog zpY := zo tab mix ⟨⟨Tryz.call99, zwI⟩, trivial⟩
noncomputable def zaQ (x0 x1 : Int) (x2 : List (Int × Int)) (x3 : Int) : AS := ⟨[(0, .a (.sl 0)), (1, .a (.clo 99 [.ptr 1 [] (0)])), (7, .a (.v (.int .i64 x0))), (8, .a (.v (.int .i64 x1)))], [(0, some ⟨false, .arr (.st [(.i .i8), (.i .u16)]) x2⟩), (1, some ⟨false, .box (.v (.int .i64 x3))⟩)], 2⟩
noncomputable def zmd (r : Int) : List A := [.v (.int .i64 r)]
theorem zz4 (x0 x1 : Int) (x2 : List (Int × Int)) (x3 : Int) (r : List A) (h : (cond (decide (x1 < x0)) (cond (inB x1 x2.length) (Option.bind (zjO (List.getD x2 (Int.toNat x1) ((0, 0) : (Int × Int))).1 (List.getD x2 (Int.toNat x1) ((0, 0) : (Int × Int))).2 x3) fun r1 => (cond r1 (some [.v (.int .i64 x1)]) (zfb r 2 (zaQ x0 (wrap .i64 (x1 + 1)) x2 x3)))) none) (some [.v (.int .i64 (-1))])) = some r) : zfb r 2 (zaQ x0 x1 x2 x3) = some r :=
 zn h (by kernel_rfl)
noncomputable def Y0 (x0 x1 : Int) (x2 : List (Int × Int)) (x3 : Int) : Option ((Int × Int × (List (Int × Int)) × Int) ⊕ Int) := (cond (decide (x1 < x0)) (cond (inB x1 x2.length) (Option.bind (zjO (List.getD x2 (Int.toNat x1) ((0, 0) : (Int × Int))).1 (List.getD x2 (Int.toNat x1) ((0, 0) : (Int × Int))).2 x3) fun r1 => (cond r1 (some (Sum.inr x1)) (some (Sum.inl (x0, (wrap .i64 (x1 + 1)), x2, x3))))) none) (some (Sum.inr (-1))))
noncomputable def zdE (x : Int × Int × (List (Int × Int)) × Int) : Option Int := zI (fun x => Y0 x.1 x.2.1 x.2.2.1 x.2.2.2) FU x
noncomputable def zQ4 (r : List A) (x : Int × Int × (List (Int × Int)) × Int) : Prop := zfb r 2 (zaQ x.1 x.2.1 x.2.2.1 x.2.2.2) = some r
noncomputable def zPo (r : List A) : Int → Prop := fun v => r = zmd v
theorem zG5 (r : List A) : ∀ x, sem (zPo r) (zdE x) → zQ4 r x :=
 fun x => zi (step := fun x => Y0 x.1 x.2.1 x.2.2.1 x.2.2.2) (fun x h => by
  unfold Y0 at h
  exact zz4 x.1 x.2.1 x.2.2.1 x.2.2.2 r ((za h (fun h => (za h (fun h => (zT h fun r1 h => (za h (fun h => zb h fun q => zj q) (fun h => zb h fun q => q)))) (fun h => zf h))) (fun h => zb h fun q => zj q)))) FU x
noncomputable def zhQ (a0 : List (Int × Int)) (a1 : Int) : Option Int := (zdE ((a0.length : Int), 0, a0, a1))
theorem zGx (a0 : List (Int × Int)) (a1 : Int) (r : List A) : Tq zpY zmn zrl zmU r [.lst (.st [(.i .i8), (.i .u16)]) a0, .clo 99 [.ref (.v (.int .i64 a1))]] = (zfb r 2 (zaQ (a0.length : Int) 0 a0 a1)) := by kernel_rfl
theorem zQk (a0 : List (Int × Int)) (a1 v : Int) (h : zhQ a0 a1 = some v) : (zfb (zmd v) 2 (zaQ (a0.length : Int) 0 a0 a1)) = some (zmd v) := by
 replace h : sem (fun w => zmd v = zmd w) (zhQ a0 a1) := ⟨v, h, rfl⟩
 unfold zhQ at h
 exact zG5 (zmd v) _ h
noncomputable def zP9 : List A → ze
 | [.lst (.st [(.i .i8), (.i .u16)]) a0, .clo 99 [.ref (.v (.int .i64 a1))]] => ⟨Int, zhQ a0 a1, fun r => .one (.v (.int .i64 r))⟩
 | _ => ze.fail
theorem zur : zC Tryz.prog 128 zP9 := by
 refine good zKW zmn zrl zmU 2 Tryz.func128 fun rs => ?_
 unfold zP9
 split
 ·rename_i a0 a1; intro v h; exact ⟨rfl, zmd v, rfl, (zGx a0 a1 _).trans (zQk a0 a1 v h)⟩
 ·intro v h; cases h
noncomputable def zDA := zu Tryz.f98
noncomputable def zBL : Ctx := ⟨TT, zr [(128, zP9)], zw, zU⟩
def zyt : List (Nat × zE) := []
def ztx : List ResultVar := [.tmp 4]
theorem zJ4 : zq Tryz.prog zBL := zo tab mix ⟨⟨Tryz.call128, zur⟩, trivial⟩
noncomputable def zmf (a0 : List (Int × Int)) (a1 : Int) : Option Bool := (Option.bind (zhQ a0 a1) fun r1 => (some (decide (r1 ≥ 0))))
theorem zJq (a0 : List (Int × Int)) (a1 : Int) (r : List A) : Tq zBL zyt zDA ztx r [.lst (.st [(.i .i8), (.i .u16)]) a0, .clo 99 [.ref (.v (.int .i64 a1))]] = (Option.bind (zhQ a0 a1) fun r1 => (some [.v (.bool (decide (r1 ≥ 0)))])) := by kernel_rfl
noncomputable def zMQ (r : Bool) : List A := [.v (.bool r)]
theorem zSD (a0 : List (Int × Int)) (a1 : Int) (v : Bool) (h : zmf a0 a1 = some v) : (Option.bind (zhQ a0 a1) fun r1 => (some [.v (.bool (decide (r1 ≥ 0)))])) = some (zMQ v) := by
 refine Eq.trans (b := Option.map zMQ (zmf a0 a1)) ?_ (by rw [h]; rfl)
 unfold zmf
 exact (zV fun _ => rfl)
noncomputable def zNf : List A → ze
 | [.lst (.st [(.i .i8), (.i .u16)]) a0, .clo 99 [.ref (.v (.int .i64 a1))]] => ⟨Bool, zmf a0 a1, fun r => .one (.v (.bool r))⟩
 | _ => ze.fail
theorem zx6 : zC Tryz.prog 98 zNf := by
 refine good zJ4 zyt zDA ztx 2 Tryz.func98 fun rs => ?_
 unfold zNf
 split
 ·rename_i a0 a1; intro v h; exact ⟨rfl, zMQ v, rfl, (zJq a0 a1 _).trans (zSD a0 a1 v h)⟩
 ·intro v h; cases h
noncomputable def zDh := zu Tryz.f63
noncomputable def zFb : Ctx := ⟨TT, zr [(98, zNf), (100, zta)], zw, zU⟩
def zyf : List (Nat × zE) := []
def zyV : List ResultVar := [.tmp 2]
theorem zKF : zq Tryz.prog zFb := zo tab mix ⟨⟨Tryz.call98, zx6⟩, ⟨Tryz.call100, zhu⟩, trivial⟩
abbrev zTI := Bool
noncomputable def zo9 (r : Bool) : List A := [.v (.bool r)]
section
variable {R R' : Type} {S : R → Prop} {r : R'} (E : zTI → Option R) (E' : zTI → Option R')
noncomputable def ziL (a0 : List (Int × Int)) : Option R := (cond (decide ((a0.length : Int) ≤ 12)) (Option.bind (zmf a0 (a0.length : Int)) fun r1 => (cond (!r1) (Option.bind (zk7 a0) fun r2 => (E ((r2.length : Int) == (a0.length : Int)))) (E false))) (E false))
theorem zFQ (a0 : List (Int × Int)) (h : sem S (ziL E a0)) (hE : zJ S r E E') : ziL E' a0 = some r := by
 revert h
 unfold ziL
 repeat' first | refine zy ?_ ?_ | refine zA fun _ => ?_ | exact zz | exact hE _ | refine zp (fun _ => ?_) (fun _ => ?_)
end
noncomputable def zcj (a0 : List (Int × Int)) : Option Bool := ziL some a0
theorem zKg (a0 : List (Int × Int)) (r : List A) : Tq zFb zyf zDh zyV r [.lst (.st [(.i .i8), (.i .u16)]) a0] = ziL (fun v => some (zo9 v)) a0 := by kernel_rfl
theorem zPs (a0 : List (Int × Int)) (v : Bool) (h : zcj a0 = some v) : ziL (fun v => some (zo9 v)) a0 = some (zo9 v) :=
 zFQ _ _ a0 (show sem (fun w => zo9 v = zo9 w) (zcj a0) from ⟨v, h, rfl⟩) (fun _ h => zb h fun q => zj q)
noncomputable def zuB : List A → ze
 | [.lst (.st [(.i .i8), (.i .u16)]) a0] => ⟨Bool, zcj a0, fun r => .one (.v (.bool r))⟩
 | _ => ze.fail
theorem zaD : zC Tryz.prog 63 zuB := by
 refine good zKF zyf zDh zyV 1 Tryz.func63 fun rs => ?_
 unfold zuB
 split
 ·rename_i a0; intro v h; exact ⟨rfl, zo9 v, rfl, (zKg a0 _).trans (zPs a0 v h)⟩
 ·intro v h; cases h
noncomputable def zrJ := zu Tryz.f127
noncomputable def zrT : Ctx := ⟨TT, zr [], zw, zU⟩
def zlb : List (Nat × zE) := [(3, ([0, 4, 5], [], [])), (6, ([0, 4, 5, 6, 7], [], []))]
def zmu : List ResultVar := [.tmp 2, .tmp 3]
noncomputable def Xa := Lq zrT zlb zrJ zmu
theorem zHL : zq Tryz.prog zrT := zo tab mix trivial
noncomputable def zaY (x0 : Int) (x1 : List (Int × Int)) (x2 : List Int) : AS := ⟨[(0, .a (.sl 0)), (4, .a (.sl 1)), (5, .a (.v (.int .u16 x0)))], [(0, some ⟨false, .arr (.st [(.i .i8), (.i .u16)]) x1⟩), (1, some ⟨true, .arr (.one (.i .i64)) x2⟩)], 2⟩
noncomputable def VF (x0 x1 x2 : Int) (x3 : List (Int × Int)) (x4 : List Int) : AS := ⟨[(0, .a (.sl 0)), (4, .a (.sl 1)), (5, .a (.v (.int .u16 x0))), (6, .a (.v (.int .i64 x1))), (7, .a (.v (.int .i64 x2)))], [(0, some ⟨false, .arr (.st [(.i .i8), (.i .u16)]) x3⟩), (1, some ⟨true, .arr (.one (.i .i64)) x4⟩)], 2⟩
noncomputable def zl4 (r : (List Int) × Bool) : List A := [.lst (.one (.i .i64)) r.1, .v (.bool r.2)]
theorem zyE (x0 x1 x2 : Int) (x3 : List (Int × Int)) (x4 : List Int) (r : List A) (h : (cond (decide (x2 ≥ 0)) (cond (decide ((wrap .u64 x2) < 0)) none (cond ((Int.tmod (yz .u16 x0 (wrap .u64 x2)) 2) == 0) (cond (inB x2 x3.length) (cond ((zO .u16 (List.getD x3 (Int.toNat x2) ((0, 0) : (Int × Int))).2 x0) == 0) (Xa r 6 (VF x0 x2 (wrap .i64 (x2 - 1)) x3 x4)) (Xa r 6 (VF x0 x1 (wrap .i64 (x2 - 1)) x3 x4))) none) (Xa r 6 (VF x0 x1 (wrap .i64 (x2 - 1)) x3 x4)))) (cond (decide (x1 < 0)) (some [.lst (.one (.i .i64)) [], .v (.bool false)]) (cond (zW ((List.length (x4 : List Int) + List.length ([x1] : List Int)) * 8)) (cond (decide ((wrap .u64 x1) < 0)) none (Xa r 3 (zaY (bOr .u16 x0 (yl .u16 1 (wrap .u64 x1))) x3 (x4 ++ [x1])))) none))) = some r) : Xa r 6 (VF x0 x1 x2 x3 x4) = some r :=
 zn h (by kernel_rfl)
noncomputable def ww (x0 x1 x2 : Int) (x3 : List (Int × Int)) (x4 : List Int) : Option ((Int × Int × Int × (List (Int × Int)) × (List Int)) ⊕ ((Int × (List (Int × Int)) × (List Int)) ⊕ ((List Int) × Bool))) := (cond (decide (x2 ≥ 0)) (cond (decide ((wrap .u64 x2) < 0)) none (cond ((Int.tmod (yz .u16 x0 (wrap .u64 x2)) 2) == 0) (cond (inB x2 x3.length) (cond ((zO .u16 (List.getD x3 (Int.toNat x2) ((0, 0) : (Int × Int))).2 x0) == 0) (some (Sum.inl (x0, x2, (wrap .i64 (x2 - 1)), x3, x4))) (some (Sum.inl (x0, x1, (wrap .i64 (x2 - 1)), x3, x4)))) none) (some (Sum.inl (x0, x1, (wrap .i64 (x2 - 1)), x3, x4))))) (cond (decide (x1 < 0)) (some (Sum.inr (Sum.inr ([], false)))) (cond (zW ((List.length (x4 : List Int) + List.length ([x1] : List Int)) * 8)) (cond (decide ((wrap .u64 x1) < 0)) none (some (Sum.inr (Sum.inl ((bOr .u16 x0 (yl .u16 1 (wrap .u64 x1))), x3, (x4 ++ [x1])))))) none)))
noncomputable def zdo (x : Int × Int × Int × (List (Int × Int)) × (List Int)) : Option ((Int × (List (Int × Int)) × (List Int)) ⊕ ((List Int) × Bool)) := zI (fun x => ww x.1 x.2.1 x.2.2.1 x.2.2.2.1 x.2.2.2.2) FU x
noncomputable def zRi (r : List A) (x : Int × Int × Int × (List (Int × Int)) × (List Int)) : Prop := Xa r 6 (VF x.1 x.2.1 x.2.2.1 x.2.2.2.1 x.2.2.2.2) = some r
theorem zu4 (x0 : Int) (x1 : List (Int × Int)) (x2 : List Int) (r : List A) (h : (cond (decide ((x2.length : Int) < (x1.length : Int))) (Xa r 6 (VF x0 (-1) (wrap .i64 ((x1.length : Int) - 1)) x1 x2)) (some [.lst (.one (.i .i64)) x2, .v (.bool true)])) = some r) : Xa r 3 (zaY x0 x1 x2) = some r :=
 zn h (by kernel_rfl)
noncomputable def Wt (x0 : Int) (x1 : List (Int × Int)) (x2 : List Int) : Option ((Int × (List (Int × Int)) × (List Int)) ⊕ ((List Int) × Bool)) := (cond (decide ((x2.length : Int) < (x1.length : Int))) (zdo (x0, (-1), (wrap .i64 ((x1.length : Int) - 1)), x1, x2)) (some (Sum.inr (x2, true))))
noncomputable def zkZ (x : Int × (List (Int × Int)) × (List Int)) : Option ((List Int) × Bool) := zI (fun x => Wt x.1 x.2.1 x.2.2) FU x
noncomputable def zsU (r : List A) (x : Int × (List (Int × Int)) × (List Int)) : Prop := Xa r 3 (zaY x.1 x.2.1 x.2.2) = some r
noncomputable def zu1 (r : List A) : ((List Int) × Bool) → Prop := fun v => r = zl4 v
noncomputable def zP5 (r : List A) : ((Int × (List (Int × Int)) × (List Int)) ⊕ ((List Int) × Bool)) → Prop := Za (zsU r) (zu1 r)
theorem zGP (r : List A) : ∀ x, sem (zP5 r) (zdo x) → zRi r x :=
 fun x => zi (step := fun x => ww x.1 x.2.1 x.2.2.1 x.2.2.2.1 x.2.2.2.2) (fun x h => by
  unfold ww at h
  exact zyE x.1 x.2.1 x.2.2.1 x.2.2.2.1 x.2.2.2.2 r ((za h (fun h => (za h (fun h => zf h) (fun h => (za h (fun h => (za h (fun h => (za h (fun h => zb h fun q => q) (fun h => zb h fun q => q))) (fun h => zf h))) (fun h => zb h fun q => q))))) (fun h => (za h (fun h => zb h fun q => zj q) (fun h => (za h (fun h => (za h (fun h => zf h) (fun h => zb h fun q => q))) (fun h => zf h)))))))) FU x
theorem zHg (r : List A) : ∀ x, sem (zu1 r) (zkZ x) → zsU r x :=
 fun x => zi (step := fun x => Wt x.1 x.2.1 x.2.2) (fun x h => by
  unfold Wt at h
  exact zu4 x.1 x.2.1 x.2.2 r ((za h (fun h => zGP r _ h) (fun h => zb h fun q => zj q)))) FU x
noncomputable def zcp (a0 : List (Int × Int)) : Option ((List Int) × Bool) := (zkZ (0, a0, []))
theorem zKI (a0 : List (Int × Int)) (r : List A) : Tq zrT zlb zrJ zmu r [.lst (.st [(.i .i8), (.i .u16)]) a0] = (Xa r 3 (zaY 0 a0 [])) := by kernel_rfl
theorem zLJ (a0 : List (Int × Int)) (v : (List Int) × Bool) (h : zcp a0 = some v) : (Xa (zl4 v) 3 (zaY 0 a0 [])) = some (zl4 v) := by
 replace h : sem (fun w => zl4 v = zl4 w) (zcp a0) := ⟨v, h, rfl⟩
 unfold zcp at h
 exact zHg (zl4 v) _ h
noncomputable def zEG : List A → ze
 | [.lst (.st [(.i .i8), (.i .u16)]) a0] => ⟨((List Int) × Bool), zcp a0, fun r => .tup [.lst (.one (.i .i64)) r.1, .v (.bool r.2)]⟩
 | _ => ze.fail
theorem zg8 : zC Tryz.prog 127 zEG := by
 refine good zHL zlb zrJ zmu 1 Tryz.func127 fun rs => ?_
 unfold zEG
 split
 ·rename_i a0; intro v h; exact ⟨rfl, zl4 v, rfl, (zKI a0 _).trans (zLJ a0 v h)⟩
 ·intro v h; cases h
noncomputable def zqV := zu Tryz.f97
noncomputable def zqw : Ctx := ⟨TT, zr [(127, zEG), (46, Xo)], zw, zU⟩
def zmL : List (Nat × zE) := [(4, ([0, 3], [], []))]
def znL : List ResultVar := [.tmp 2]
noncomputable def zeV := Lq zqw zmL zqV znL
theorem zFW : zq Tryz.prog zqw := zo tab mix ⟨⟨Tryz.call127, zg8⟩, ⟨Tryz.call46, yn⟩, trivial⟩
noncomputable def zaH (x0 : Int) (x1 : List (Int × Int)) : AS := ⟨[(0, .a (.sl 0)), (3, .a (.v (.int .i64 x0)))], [(0, some ⟨false, .arr (.st [(.i .i8), (.i .u16)]) x1⟩)], 1⟩
noncomputable def zm3 (r : Bool) : List A := [.v (.bool r)]
theorem ztm (x0 : Int) (x1 : List (Int × Int)) (r : List A) (h : (cond (decide (x0 < (x1.length : Int))) (cond (inB x0 x1.length) (cond (!(zK (wrap .i64 (List.getD x1 (Int.toNat x0) ((0, 0) : (Int × Int))).1) 1 30)) (some [.v (.bool false)]) (cond (inB x0 x1.length) (cond (decide ((wrap .u64 (x1.length : Int)) < 0)) none (cond ((yz .u16 (List.getD x1 (Int.toNat x0) ((0, 0) : (Int × Int))).2 (wrap .u64 (x1.length : Int))) != 0) (some [.v (.bool false)]) (zeV r 4 (zaH (wrap .i64 (x0 + 1)) x1)))) none)) none) (Option.bind (zcp x1) fun r1 => (some [.v (.bool r1.2)]))) = some r) : zeV r 4 (zaH x0 x1) = some r :=
 zn h (by kernel_rfl)
noncomputable def wP (x0 : Int) (x1 : List (Int × Int)) : Option ((Int × (List (Int × Int))) ⊕ Bool) := (cond (decide (x0 < (x1.length : Int))) (cond (inB x0 x1.length) (cond (!(zK (wrap .i64 (List.getD x1 (Int.toNat x0) ((0, 0) : (Int × Int))).1) 1 30)) (some (Sum.inr false)) (cond (inB x0 x1.length) (cond (decide ((wrap .u64 (x1.length : Int)) < 0)) none (cond ((yz .u16 (List.getD x1 (Int.toNat x0) ((0, 0) : (Int × Int))).2 (wrap .u64 (x1.length : Int))) != 0) (some (Sum.inr false)) (some (Sum.inl ((wrap .i64 (x0 + 1)), x1))))) none)) none) (Option.bind (zcp x1) fun r1 => (some (Sum.inr (r1.2)))))
noncomputable def zdh (x : Int × (List (Int × Int))) : Option Bool := zI (fun x => wP x.1 x.2) FU x
noncomputable def zNS (r : List A) (x : Int × (List (Int × Int))) : Prop := zeV r 4 (zaH x.1 x.2) = some r
noncomputable def zL2 (r : List A) : Bool → Prop := fun v => r = zm3 v
theorem zH0 (r : List A) : ∀ x, sem (zL2 r) (zdh x) → zNS r x :=
 fun x => zi (step := fun x => wP x.1 x.2) (fun x h => by
  unfold wP at h
  exact ztm x.1 x.2 r ((za h (fun h => (za h (fun h => (za h (fun h => zb h fun q => zj q) (fun h => (za h (fun h => (za h (fun h => zf h) (fun h => (za h (fun h => zb h fun q => zj q) (fun h => zb h fun q => q))))) (fun h => zf h))))) (fun h => zf h))) (fun h => (zT h fun r1 h => zb h fun q => zj q))))) FU x
noncomputable def zca (a0 : List (Int × Int)) : Option Bool := (cond (decide ((a0.length : Int) > 12)) (some false) (zdh (0, a0)))
theorem zK0 (a0 : List (Int × Int)) (r : List A) : Tq zqw zmL zqV znL r [.lst (.st [(.i .i8), (.i .u16)]) a0] = (cond (decide ((a0.length : Int) > 12)) (some [.v (.bool false)]) (zeV r 4 (zaH 0 a0))) := by kernel_rfl
theorem zPO (a0 : List (Int × Int)) (v : Bool) (h : zca a0 = some v) : (cond (decide ((a0.length : Int) > 12)) (some [.v (.bool false)]) (zeV (zm3 v) 4 (zaH 0 a0))) = some (zm3 v) := by
 replace h : sem (fun w => zm3 v = zm3 w) (zca a0) := ⟨v, h, rfl⟩
 unfold zca at h
 exact (za h (fun h => zb h fun q => zj q) (fun h => zH0 (zm3 v) _ h))
noncomputable def zyi : List A → ze
 | [.lst (.st [(.i .i8), (.i .u16)]) a0] => ⟨Bool, zca a0, fun r => .one (.v (.bool r))⟩
 | _ => ze.fail
theorem zhW : zC Tryz.prog 97 zyi := by
 refine good zFW zmL zqV znL 1 Tryz.func97 fun rs => ?_
 unfold zyi
 split
 ·rename_i a0; intro v h; exact ⟨rfl, zm3 v, rfl, (zK0 a0 _).trans (zPO a0 v h)⟩
 ·intro v h; cases h
noncomputable def zD5 := zu Tryz.f107
noncomputable def zBU : Ctx := ⟨TT, zr [], zw, zU⟩
def zzY : List (Nat × zE) := []
def zxP : List ResultVar := [.tmp 6]
theorem zHH : zq Tryz.prog zBU := zo tab mix trivial
noncomputable def zcb (a0 : List (Int × Int)) (a1 a2 : Int) : Option Bool := (cond (inB a1 a0.length) (cond (decide ((wrap .u64 a2) < 0)) none (some ((Int.tmod (yz .u16 (List.getD a0 (Int.toNat a1) ((0, 0) : (Int × Int))).2 (wrap .u64 a2)) 2) == 1))) none)
theorem zHj (a0 : List (Int × Int)) (a1 a2 : Int) (r : List A) : Tq zBU zzY zD5 zxP r [.lst (.st [(.i .i8), (.i .u16)]) a0, .v (.int .i64 a1), .v (.int .i64 a2)] = (cond (inB a1 a0.length) (cond (decide ((wrap .u64 a2) < 0)) none (some [.v (.bool ((Int.tmod (yz .u16 (List.getD a0 (Int.toNat a1) ((0, 0) : (Int × Int))).2 (wrap .u64 a2)) 2) == 1))])) none) := by kernel_rfl
noncomputable def zu9 (r : Bool) : List A := [.v (.bool r)]
theorem zPH (a0 : List (Int × Int)) (a1 a2 : Int) (v : Bool) (h : zcb a0 a1 a2 = some v) : (cond (inB a1 a0.length) (cond (decide ((wrap .u64 a2) < 0)) none (some [.v (.bool ((Int.tmod (yz .u16 (List.getD a0 (Int.toNat a1) ((0, 0) : (Int × Int))).2 (wrap .u64 a2)) 2) == 1))])) none) = some (zu9 v) := by
 refine Eq.trans (b := Option.map zu9 (zcb a0 a1 a2)) ?_ (by rw [h]; rfl)
 unfold zcb
 exact (zM (Option.map zu9) (zM (Option.map zu9) rfl rfl) rfl)
noncomputable def zEa : List A → ze
 | [.lst (.st [(.i .i8), (.i .u16)]) a0, .v (.int .i64 a1), .v (.int .i64 a2)] => ⟨Bool, zcb a0 a1 a2, fun r => .one (.v (.bool r))⟩
 | _ => ze.fail
theorem zh2 : zC Tryz.prog 107 zEa := by
 refine good zHH zzY zD5 zxP 3 Tryz.func107 fun rs => ?_
 unfold zEa
 split
 ·rename_i a0 a1 a2; intro v h; exact ⟨rfl, zu9 v, rfl, (zHj a0 a1 a2 _).trans (zPH a0 a1 a2 v h)⟩
 ·intro v h; cases h
noncomputable def zCZ := zu Tryz.f115
noncomputable def zCM : Ctx := ⟨TT, zr [], zw, zU⟩
def zw0 : List (Nat × zE) := []
def zvs : List ResultVar := [.tmp 4]
theorem zIq : zq Tryz.prog zCM := zo tab mix trivial
noncomputable def zcl (a0 a1 a2 : Int) : Option Bool := (cond (decide (a2 < 0)) none (some ((vY .u16 (yz .u16 a1 a2) 1) == 1)))
theorem zIf (a0 a1 a2 : Int) (r : List A) : Tq zCM zw0 zCZ zvs r [.rc [.v (.int .i8 a0), .v (.int .u16 a1)], .v (.int .i64 a2)] = (cond (decide (a2 < 0)) none (some [.v (.bool ((vY .u16 (yz .u16 a1 a2) 1) == 1))])) := by kernel_rfl
noncomputable def zCd (r : Bool) : List A := [.v (.bool r)]
theorem zSi (a0 a1 a2 : Int) (v : Bool) (h : zcl a0 a1 a2 = some v) : (cond (decide (a2 < 0)) none (some [.v (.bool ((vY .u16 (yz .u16 a1 a2) 1) == 1))])) = some (zCd v) := by
 refine Eq.trans (b := Option.map zCd (zcl a0 a1 a2)) ?_ (by rw [h]; rfl)
 unfold zcl
 exact (zM (Option.map zCd) rfl rfl)
noncomputable def zpt : List A → ze
 | [.rc [.v (.int .i8 a0), .v (.int .u16 a1)], .v (.int .i64 a2)] => ⟨Bool, zcl a0 a1 a2, fun r => .one (.v (.bool r))⟩
 | _ => ze.fail
theorem zaB : zC Tryz.prog 115 zpt := by
 refine good zIq zw0 zCZ zvs 2 Tryz.func115 fun rs => ?_
 unfold zpt
 split
 ·rename_i a0 a1 a2; intro v h; exact ⟨rfl, zCd v, rfl, (zIf a0 a1 a2 _).trans (zSi a0 a1 a2 v h)⟩
 ·intro v h; cases h
noncomputable def zsC := zu Tryz.f139
noncomputable def zsv : Ctx := ⟨TT, zr [(100, zta), (115, zpt)], (zCT [(152, Yj)]), zU⟩
def zmc : List (Nat × zE) := [(4, ([0, 3, 15, 16, 17], [], [])), (7, ([0, 3, 6, 15, 16, 17, 22, 23], [], []))]
def zmQ : List ResultVar := [.tmp 2]
noncomputable def ziA := Lq zsv zmc zsC zmQ
theorem zJL : zq Tryz.prog zsv := yF tab mix (l := [(100, zta), (115, zpt)]) ⟨⟨Tryz.call100, zhu⟩, ⟨Tryz.call115, zaB⟩, trivial⟩ (zBg (l := [(152, Yj)]) ⟨⟨Tryz.call152, ue⟩, trivial⟩) zM0
noncomputable def zuM (x0 x1 : Int) (x2 : List (Int × Int)) (x3 x4 : List Int) : AS := ⟨[(0, .a (.sl 0)), (3, .a (.sl 1)), (15, .a (.sl 2)), (16, .a (.v (.int .i64 x0))), (17, .a (.v (.int .i64 x1)))], [(0, some ⟨false, .arr (.st [(.i .i8), (.i .u16)]) x2⟩), (1, some ⟨true, .arr (.one (.i .i64)) x3⟩), (2, some ⟨true, .arr (.one (.i .i64)) x4⟩)], 3⟩
noncomputable def ztY (x0 x1 x2 x3 x4 : Int) (x5 : List (Int × Int)) (x6 x7 : List Int) : AS := ⟨[(0, .a (.sl 0)), (3, .a (.sl 1)), (6, .a (.v (.int .i64 x0))), (15, .a (.sl 2)), (16, .a (.v (.int .i64 x1))), (17, .a (.v (.int .i64 x2))), (22, .a (.v (.int .i64 x3))), (23, .a (.v (.int .i64 x4)))], [(0, some ⟨false, .arr (.st [(.i .i8), (.i .u16)]) x5⟩), (1, some ⟨true, .arr (.one (.i .i64)) x6⟩), (2, some ⟨true, .arr (.one (.i .i64)) x7⟩)], 3⟩
abbrev zRj := (List Int)
noncomputable def zhe (r : List Int) : List A := [.lst (.one (.i .i64)) r]
abbrev uS := (Int × Int × (List (Int × Int)) × (List Int) × (List Int))
abbrev ziC := zRj
abbrev zbP := (Int × Int × Int × Int × Int × (List (Int × Int)) × (List Int) × (List Int))
abbrev zsL := (uS ⊕ ziC)
section
variable {R R' : Type} {S : R → Prop} {r : R'} (E : zRj → Option R) (E' : zRj → Option R') (G4 : uS → Option R) (G4' : uS → Option R') (G7 : zbP → Option R) (G7' : zbP → Option R')
noncomputable def uj (x0 x1 : Int) (x2 : List (Int × Int)) (x3 x4 : List Int) : Option R := (cond (decide (x1 < x0)) (cond (inB x1 x4.length) (G7 ((List.getD x4 (Int.toNat x1) 0), x0, x1, (x2.length : Int), 0, x2, x3, x4)) none) (E x3))
theorem zza (x0 x1 : Int) (x2 : List (Int × Int)) (x3 x4 : List Int) (h : sem S (uj E G7 x0 x1 x2 x3 x4)) (hE : zJ S r E E') (h7 : zJ S r G7 G7') : uj E' G7' x0 x1 x2 x3 x4 = some r := by
 revert h
 unfold uj
 repeat' first | refine zy ?_ ?_ | refine zA fun _ => ?_ | exact zz | exact hE _ | exact h7 _ | refine zp (fun _ => ?_) (fun _ => ?_)
noncomputable def uw (x0 x1 x2 x3 x4 : Int) (x5 : List (Int × Int)) (x6 x7 : List Int) : Option R := (cond (decide (x4 < x3)) (cond (inB x4 x5.length) (Option.bind (zcl (List.getD x5 (Int.toNat x4) ((0, 0) : (Int × Int))).1 (List.getD x5 (Int.toNat x4) ((0, 0) : (Int × Int))).2 x0) fun r3 => (cond r3 (cond (inB x0 x6.length) (cond (inB x4 x6.length) (cond (inB x0 x6.length) (G7 (x0, x1, x2, x3, (wrap .i64 (x4 + 1)), x5, (List.set x6 (Int.toNat x0) (max (List.getD x6 (Int.toNat x0) 0) (List.getD x6 (Int.toNat x4) 0))), x7)) none) none) none) (G7 (x0, x1, x2, x3, (wrap .i64 (x4 + 1)), x5, x6, x7)))) none) (cond (inB x0 x6.length) (cond (inB x0 x5.length) (cond (inB x0 x6.length) (G4 (x1, (wrap .i64 (x2 + 1)), x5, (List.set x6 (Int.toNat x0) (wrap .i64 ((List.getD x6 (Int.toNat x0) 0) + (wrap .i64 (List.getD x5 (Int.toNat x0) ((0, 0) : (Int × Int))).1)))), x7)) none) none) none))
theorem zwW (x0 x1 x2 x3 x4 : Int) (x5 : List (Int × Int)) (x6 x7 : List Int) (h : sem S (uw G4 G7 x0 x1 x2 x3 x4 x5 x6 x7)) (h4 : zJ S r G4 G4') (h7 : zJ S r G7 G7') : uw G4' G7' x0 x1 x2 x3 x4 x5 x6 x7 = some r := by
 revert h
 unfold uw
 repeat' first | refine zy ?_ ?_ | refine zA fun _ => ?_ | exact zz | exact h4 _ | exact h7 _ | refine zp (fun _ => ?_) (fun _ => ?_)
noncomputable def zi9 (a0 : List (Int × Int)) : Option R := (cond (decide (0 ≤ (a0.length : Int)) && decide ((a0.length : Int) = (a0.length : Int)) && zW ((Int.toNat (a0.length : Int)) * 8)) (Option.bind (zk7 a0) fun r1 => (Option.bind (yD r1) fun r2 => (G4 (((List.length (r2) : Nat) : Int), 0, a0, (List.replicate (Int.toNat (a0.length : Int)) (0 : Int)), (r2))))) none)
theorem zFK (a0 : List (Int × Int)) (h : sem S (zi9 G4 a0)) (h4 : zJ S r G4 G4') : zi9 G4' a0 = some r := by
 revert h
 unfold zi9
 repeat' first | refine zy ?_ ?_ | refine zA fun _ => ?_ | exact zz | exact h4 _ | refine zp (fun _ => ?_) (fun _ => ?_)
end
noncomputable def zeJ (r : List A) (x : uS) : Option (List A) := ziA r 4 (zuM x.1 x.2.1 x.2.2.1 x.2.2.2.1 x.2.2.2.2)
noncomputable def ziY (r : List A) (x : zbP) : Option (List A) := ziA r 7 (ztY x.1 x.2.1 x.2.2.1 x.2.2.2.1 x.2.2.2.2.1 x.2.2.2.2.2.1 x.2.2.2.2.2.2.1 x.2.2.2.2.2.2.2)
theorem zwf (x0 x1 x2 x3 x4 : Int) (x5 : List (Int × Int)) (x6 x7 : List Int) (r : List A) (h : uw (zeJ r) (ziY r) x0 x1 x2 x3 x4 x5 x6 x7 = some r) : ziA r 7 (ztY x0 x1 x2 x3 x4 x5 x6 x7) = some r :=
 zn h (by kernel_rfl)
noncomputable def Wv (x0 x1 x2 x3 x4 : Int) (x5 : List (Int × Int)) (x6 x7 : List Int) : Option (zbP ⊕ zsL) := uw (fun x => some (Sum.inr (Sum.inl x))) (fun x => some (Sum.inl x)) x0 x1 x2 x3 x4 x5 x6 x7
noncomputable def uP (x : zbP) : Option zsL := zI (fun x => Wv x.1 x.2.1 x.2.2.1 x.2.2.2.1 x.2.2.2.2.1 x.2.2.2.2.2.1 x.2.2.2.2.2.2.1 x.2.2.2.2.2.2.2) FU x
noncomputable def zzq (r : List A) (x : zbP) : Prop := ziY r x = some r
theorem ztN (x0 x1 : Int) (x2 : List (Int × Int)) (x3 x4 : List Int) (r : List A) (h : uj (fun v => some (zhe v)) (ziY r) x0 x1 x2 x3 x4 = some r) : ziA r 4 (zuM x0 x1 x2 x3 x4) = some r :=
 zn h (by kernel_rfl)
noncomputable def WZ (x0 x1 : Int) (x2 : List (Int × Int)) (x3 x4 : List Int) : Option (uS ⊕ ziC) := uj (fun v => some (Sum.inr v)) uP x0 x1 x2 x3 x4
noncomputable def zda (x : uS) : Option ziC := zI (fun x => WZ x.1 x.2.1 x.2.2.1 x.2.2.2.1 x.2.2.2.2) FU x
noncomputable def zlY (r : List A) (x : uS) : Prop := zeJ r x = some r
noncomputable def zni (r : List A) : ziC → Prop := fun v => r = zhe v
noncomputable def zu0 (r : List A) : zsL → Prop := Za (zlY r) (zni r)
theorem zGi (r : List A) : ∀ x, sem (zu0 r) (uP x) → zzq r x :=
 fun x => zi (G := zzq r) (E := zu0 r) (step := fun x => Wv x.1 x.2.1 x.2.2.1 x.2.2.2.1 x.2.2.2.2.1 x.2.2.2.2.2.1 x.2.2.2.2.2.2.1 x.2.2.2.2.2.2.2) (fun x h => zwf x.1 x.2.1 x.2.2.1 x.2.2.2.1 x.2.2.2.2.1 x.2.2.2.2.2.1 x.2.2.2.2.2.2.1 x.2.2.2.2.2.2.2 r (zwW _ _ _ _ x.1 x.2.1 x.2.2.1 x.2.2.2.1 x.2.2.2.2.1 x.2.2.2.2.2.1 x.2.2.2.2.2.2.1 x.2.2.2.2.2.2.2 h (fun _ h => zb h fun q => q) (fun _ h => zb h fun q => q))) FU x
theorem zLC (r : List A) : ∀ x, sem (zni r) (zda x) → zlY r x :=
 fun x => zi (G := zlY r) (E := zni r) (step := fun x => WZ x.1 x.2.1 x.2.2.1 x.2.2.2.1 x.2.2.2.2) (fun x h => ztN x.1 x.2.1 x.2.2.1 x.2.2.2.1 x.2.2.2.2 r (zza _ _ _ _ x.1 x.2.1 x.2.2.1 x.2.2.2.1 x.2.2.2.2 h (fun _ h => zb h fun q => zj q) (zGi r))) FU x
noncomputable def zgT (a0 : List (Int × Int)) : Option (List Int) := zi9 zda a0
theorem zKp (a0 : List (Int × Int)) (r : List A) : Tq zsv zmc zsC zmQ r [.lst (.st [(.i .i8), (.i .u16)]) a0] = zi9 (zeJ r) a0 := by kernel_rfl
theorem zRb (a0 : List (Int × Int)) (v : List Int) (h : zgT a0 = some v) : zi9 (zeJ (zhe v)) a0 = some (zhe v) :=
 zFK _ _ a0 (show sem (fun w => zhe v = zhe w) (zgT a0) from ⟨v, h, rfl⟩) (zLC (zhe v))
noncomputable def zM8 : List A → ze
 | [.lst (.st [(.i .i8), (.i .u16)]) a0] => ⟨(List Int), zgT a0, fun r => .one (.lst (.one (.i .i64)) r)⟩
 | _ => ze.fail
theorem zxR : zC Tryz.prog 139 zM8 := by
 refine good zJL zmc zsC zmQ 1 Tryz.func139 fun rs => ?_
 unfold zM8
 split
 ·rename_i a0; intro v h; exact ⟨rfl, zhe v, rfl, (zKp a0 _).trans (zRb a0 v h)⟩
 ·intro v h; cases h
noncomputable def zsN := zu Tryz.f130
noncomputable def zqD : Ctx := ⟨TT, zr [(139, zM8)], zw, zU⟩
def zjT : List (Nat × zE) := [(3, ([3, 7, 8, 9], [], []))]
def zjX : List ResultVar := [.tmp 2]
noncomputable def zfJ := Lq zqD zjT zsN zjX
theorem zKh : zq Tryz.prog zqD := zo tab mix ⟨⟨Tryz.call139, zxR⟩, trivial⟩
noncomputable def zar (x0 x1 x2 : Int) (x3 : List Int) : AS := ⟨[(3, .a (.v (.int .i64 x0))), (7, .a (.sl 0)), (8, .a (.v (.int .i64 x1))), (9, .a (.v (.int .i64 x2)))], [(0, some ⟨true, .arr (.one (.i .i64)) x3⟩)], 1⟩
noncomputable def zkP (r : Int) : List A := [.v (.int .i64 r)]
theorem zuJ (x0 x1 x2 : Int) (x3 : List Int) (r : List A) (h : (cond (decide (x2 < x1)) (cond (inB x2 x3.length) (zfJ r 3 (zar (max x0 (List.getD x3 (Int.toNat x2) 0)) x1 (wrap .i64 (x2 + 1)) x3)) none) (some [.v (.int .i64 x0)])) = some r) : zfJ r 3 (zar x0 x1 x2 x3) = some r :=
 zn h (by kernel_rfl)
noncomputable def X5 (x0 x1 x2 : Int) (x3 : List Int) : Option ((Int × Int × Int × (List Int)) ⊕ Int) := (cond (decide (x2 < x1)) (cond (inB x2 x3.length) (some (Sum.inl ((max x0 (List.getD x3 (Int.toNat x2) 0)), x1, (wrap .i64 (x2 + 1)), x3))) none) (some (Sum.inr x0)))
noncomputable def zcP (x : Int × Int × Int × (List Int)) : Option Int := zI (fun x => X5 x.1 x.2.1 x.2.2.1 x.2.2.2) FU x
noncomputable def zRa (r : List A) (x : Int × Int × Int × (List Int)) : Prop := zfJ r 3 (zar x.1 x.2.1 x.2.2.1 x.2.2.2) = some r
noncomputable def zSA (r : List A) : Int → Prop := fun v => r = zkP v
theorem zGq (r : List A) : ∀ x, sem (zSA r) (zcP x) → zRa r x :=
 fun x => zi (step := fun x => X5 x.1 x.2.1 x.2.2.1 x.2.2.2) (fun x h => by
  unfold X5 at h
  exact zuJ x.1 x.2.1 x.2.2.1 x.2.2.2 r ((za h (fun h => (za h (fun h => zb h fun q => q) (fun h => zf h))) (fun h => zb h fun q => zj q)))) FU x
noncomputable def zhH (a0 : List (Int × Int)) : Option Int := (Option.bind (zgT a0) fun r1 => (zcP (0, (r1.length : Int), 0, r1)))
theorem zHO (a0 : List (Int × Int)) (r : List A) : Tq zqD zjT zsN zjX r [.lst (.st [(.i .i8), (.i .u16)]) a0] = (Option.bind (zgT a0) fun r1 => (zfJ r 3 (zar 0 (r1.length : Int) 0 r1))) := by kernel_rfl
theorem zO0 (a0 : List (Int × Int)) (v : Int) (h : zhH a0 = some v) : (Option.bind (zgT a0) fun r1 => (zfJ (zkP v) 3 (zar 0 (r1.length : Int) 0 r1))) = some (zkP v) := by
 replace h : sem (fun w => zkP v = zkP w) (zhH a0) := ⟨v, h, rfl⟩
 unfold zhH at h
 exact (zT h fun r1 h => zGq (zkP v) _ h)
noncomputable def zMY : List A → ze
 | [.lst (.st [(.i .i8), (.i .u16)]) a0] => ⟨Int, zhH a0, fun r => .one (.v (.int .i64 r))⟩
 | _ => ze.fail
theorem zwl : zC Tryz.prog 130 zMY := by
 refine good zKh zjT zsN zjX 1 Tryz.func130 fun rs => ?_
 unfold zMY
 split
 ·rename_i a0; intro v h; exact ⟨rfl, zkP v, rfl, (zHO a0 _).trans (zO0 a0 v h)⟩
 ·intro v h; cases h
noncomputable def zrM := zu Tryz.f102
noncomputable def zrL : Ctx := ⟨TT, zr [(130, zMY)], zw, zU⟩
def zj5 : List (Nat × zE) := [(3, ([0, 1, 5, 8, 9, 10], [], []))]
def zjn : List ResultVar := [.tmp 4]
noncomputable def zfP := Lq zrL zj5 zrM zjn
theorem zKM : zq Tryz.prog zrL := zo tab mix ⟨⟨Tryz.call130, zwl⟩, trivial⟩
noncomputable def UU (x0 x1 x2 x3 : Int) (x4 : List (Int × Int)) : AS := ⟨[(0, .a (.sl 0)), (1, .a (.v (.int .i64 x0))), (5, .a (.v (.int .i64 x1))), (8, .a (.sl 0)), (9, .a (.v (.int .i64 x2))), (10, .a (.v (.int .i64 x3)))], [(0, some ⟨false, .arr (.st [(.i .i8), (.i .u16)]) x4⟩)], 1⟩
noncomputable def znN (r : Int) : List A := [.v (.int .i64 r)]
theorem zt8 (x0 x1 x2 x3 : Int) (x4 : List (Int × Int)) (r : List A) (h : (cond (decide (x3 < x2)) (cond (inB x3 x4.length) (zfP r 3 (UU x0 (wrap .i64 (x1 + (wrap .i64 (List.getD x4 (Int.toNat x3) ((0, 0) : (Int × Int))).1))) x2 (wrap .i64 (x3 + 1)) x4)) none) (Option.bind (zhH x4) fun r1 => (cond (decide (x0 = 0)) none (some [.v (.int .i64 (max r1 (wrap .i64 (Int.tdiv (wrap .i64 ((wrap .i64 (x1 + x0)) - 1)) x0))))])))) = some r) : zfP r 3 (UU x0 x1 x2 x3 x4) = some r :=
 zn h (by kernel_rfl)
noncomputable def wx (x0 x1 x2 x3 : Int) (x4 : List (Int × Int)) : Option ((Int × Int × Int × Int × (List (Int × Int))) ⊕ Int) := (cond (decide (x3 < x2)) (cond (inB x3 x4.length) (some (Sum.inl (x0, (wrap .i64 (x1 + (wrap .i64 (List.getD x4 (Int.toNat x3) ((0, 0) : (Int × Int))).1))), x2, (wrap .i64 (x3 + 1)), x4))) none) (Option.bind (zhH x4) fun r1 => (cond (decide (x0 = 0)) none (some (Sum.inr (max r1 (wrap .i64 (Int.tdiv (wrap .i64 ((wrap .i64 (x1 + x0)) - 1)) x0))))))))
noncomputable def zdy (x : Int × Int × Int × Int × (List (Int × Int))) : Option Int := zI (fun x => wx x.1 x.2.1 x.2.2.1 x.2.2.2.1 x.2.2.2.2) FU x
noncomputable def zRz (r : List A) (x : Int × Int × Int × Int × (List (Int × Int))) : Prop := zfP r 3 (UU x.1 x.2.1 x.2.2.1 x.2.2.2.1 x.2.2.2.2) = some r
noncomputable def zMS (r : List A) : Int → Prop := fun v => r = znN v
theorem zGB (r : List A) : ∀ x, sem (zMS r) (zdy x) → zRz r x :=
 fun x => zi (step := fun x => wx x.1 x.2.1 x.2.2.1 x.2.2.2.1 x.2.2.2.2) (fun x h => by
  unfold wx at h
  exact zt8 x.1 x.2.1 x.2.2.1 x.2.2.2.1 x.2.2.2.2 r ((za h (fun h => (za h (fun h => zb h fun q => q) (fun h => zf h))) (fun h => (zT h fun r1 h => (za h (fun h => zf h) (fun h => zb h fun q => zj q))))))) FU x
noncomputable def zlz (a0 : List (Int × Int)) (a1 : Int) : Option Int := (zdy (a1, 0, (a0.length : Int), 0, a0))
theorem zK2 (a0 : List (Int × Int)) (a1 : Int) (r : List A) : Tq zrL zj5 zrM zjn r [.lst (.st [(.i .i8), (.i .u16)]) a0, .v (.int .i64 a1)] = (zfP r 3 (UU a1 0 (a0.length : Int) 0 a0)) := by kernel_rfl
theorem zRs (a0 : List (Int × Int)) (a1 v : Int) (h : zlz a0 a1 = some v) : (zfP (znN v) 3 (UU a1 0 (a0.length : Int) 0 a0)) = some (znN v) := by
 replace h : sem (fun w => znN v = znN w) (zlz a0 a1) := ⟨v, h, rfl⟩
 unfold zlz at h
 exact zGB (znN v) _ h
noncomputable def zDa : List A → ze
 | [.lst (.st [(.i .i8), (.i .u16)]) a0, .v (.int .i64 a1)] => ⟨Int, zlz a0 a1, fun r => .one (.v (.int .i64 r))⟩
 | _ => ze.fail
theorem zzM : zC Tryz.prog 102 zDa := by
 refine good zKM zj5 zrM zjn 2 Tryz.func102 fun rs => ?_
 unfold zDa
 split
 ·rename_i a0 a1; intro v h; exact ⟨rfl, znN v, rfl, (zK2 a0 a1 _).trans (zRs a0 a1 v h)⟩
 ·intro v h; cases h
noncomputable def zCD := zu Tryz.f108
noncomputable def zEt : Ctx := ⟨TT, zr [], zw, zU⟩
def zwx : List (Nat × zE) := []
def zug : List ResultVar := [.tmp 4]
theorem zHZ : zq Tryz.prog zEt := zo tab mix trivial
noncomputable def Yo (a0 a1 : Int) : Int := (cond (decide (a0 > a1)) a0 a1)
theorem zGN (a0 a1 : Int) (r : List A) : Tq zEt zwx zCD zug r [.v (.int .i64 a0), .v (.int .i64 a1)] = (cond (decide (a0 > a1)) (some [.v (.int .i64 a0)]) (some [.v (.int .i64 a1)])) := by kernel_rfl
noncomputable def zLY (r : Int) : List A := [.v (.int .i64 r)]
theorem zQs (a0 a1 : Int) : (cond (decide (a0 > a1)) (some [.v (.int .i64 a0)]) (some [.v (.int .i64 a1)])) = some (zLY (Yo a0 a1)) := by
 unfold Yo
 exact (zM (fun x => some (zLY x)) rfl rfl)
noncomputable def zll : List A → ze
 | [.v (.int .i64 a0), .v (.int .i64 a1)] => ⟨Int, some (Yo a0 a1), fun r => .one (.v (.int .i64 r))⟩
 | _ => ze.fail
theorem wG : zC Tryz.prog 108 zll := by
 refine good zHZ zwx zCD zug 2 Tryz.func108 fun rs => ?_
 unfold zll
 split
 ·rename_i a0 a1; intro v h; cases h; exact ⟨rfl, zLY (Yo a0 a1), rfl, (zGN a0 a1 _).trans (zQs a0 a1)⟩
 ·intro v h; cases h
noncomputable def zr7 := zu Tryz.f140
noncomputable def zsl : Ctx := ⟨TT, zr [(107, zEa), (108, zll), (127, zEG)], zw, zU⟩
def ziV : List (Nat × zE) := [(4, ([0, 3, 5, 6], [], [])), (9, ([0, 3, 5, 6, 7, 8, 9], [], []))]
def zkf : List ResultVar := [.tmp 2]
noncomputable def X2 := Lq zsl ziV zr7 zkf
theorem zGW : zq Tryz.prog zsl := zo tab mix ⟨⟨Tryz.call107, zh2⟩, ⟨Tryz.call108, wG⟩, ⟨Tryz.call127, zg8⟩, trivial⟩
noncomputable def zaC (x0 : Int) (x1 : List (Int × Int)) (x2 x3 : List Int) : AS := ⟨[(0, .a (.sl 0)), (3, .a (.sl 1)), (5, .a (.sl 2)), (6, .a (.v (.int .i64 x0)))], [(0, some ⟨false, .arr (.st [(.i .i8), (.i .u16)]) x1⟩), (1, some ⟨true, .arr (.one (.i .i64)) x2⟩), (2, some ⟨true, .arr (.one (.i .i64)) x3⟩)], 3⟩
noncomputable def zas (x0 x1 x2 x3 : Int) (x4 : List (Int × Int)) (x5 x6 : List Int) : AS := ⟨[(0, .a (.sl 0)), (3, .a (.sl 1)), (5, .a (.sl 2)), (6, .a (.v (.int .i64 x0))), (7, .a (.v (.int .i64 x1))), (8, .a (.v (.int .i64 x2))), (9, .a (.v (.int .i64 x3)))], [(0, some ⟨false, .arr (.st [(.i .i8), (.i .u16)]) x4⟩), (1, some ⟨true, .arr (.one (.i .i64)) x5⟩), (2, some ⟨true, .arr (.one (.i .i64)) x6⟩)], 3⟩
noncomputable def zk2 (r : List Int) : List A := [.lst (.one (.i .i64)) r]
theorem ztJ (x0 x1 x2 x3 : Int) (x4 : List (Int × Int)) (x5 x6 : List Int) (r : List A) (h : (cond (decide (x3 < (x4.length : Int))) (Option.bind (zcb x4 x3 x1) fun r2 => (cond r2 (cond (inB x3 x6.length) (X2 r 9 (zas x0 x1 (Yo x2 (List.getD x6 (Int.toNat x3) 0)) (wrap .i64 (x3 + 1)) x4 x5 x6)) none) (X2 r 9 (zas x0 x1 x2 (wrap .i64 (x3 + 1)) x4 x5 x6)))) (cond (inB x1 x4.length) (cond (inB x1 x6.length) (X2 r 4 (zaC (wrap .i64 (x0 - 1)) x4 x5 (List.set x6 (Int.toNat x1) (wrap .i64 (x2 + (wrap .i64 (List.getD x4 (Int.toNat x1) ((0, 0) : (Int × Int))).1)))))) none) none)) = some r) : X2 r 9 (zas x0 x1 x2 x3 x4 x5 x6) = some r :=
 zn h (by kernel_rfl)
noncomputable def wu (x0 x1 x2 x3 : Int) (x4 : List (Int × Int)) (x5 x6 : List Int) : Option ((Int × Int × Int × Int × (List (Int × Int)) × (List Int) × (List Int)) ⊕ ((Int × (List (Int × Int)) × (List Int) × (List Int)) ⊕ (List Int))) := (cond (decide (x3 < (x4.length : Int))) (Option.bind (zcb x4 x3 x1) fun r2 => (cond r2 (cond (inB x3 x6.length) (some (Sum.inl (x0, x1, (Yo x2 (List.getD x6 (Int.toNat x3) 0)), (wrap .i64 (x3 + 1)), x4, x5, x6))) none) (some (Sum.inl (x0, x1, x2, (wrap .i64 (x3 + 1)), x4, x5, x6))))) (cond (inB x1 x4.length) (cond (inB x1 x6.length) (some (Sum.inr (Sum.inl ((wrap .i64 (x0 - 1)), x4, x5, (List.set x6 (Int.toNat x1) (wrap .i64 (x2 + (wrap .i64 (List.getD x4 (Int.toNat x1) ((0, 0) : (Int × Int))).1)))))))) none) none))
noncomputable def uN (x : Int × Int × Int × Int × (List (Int × Int)) × (List Int) × (List Int)) : Option ((Int × (List (Int × Int)) × (List Int) × (List Int)) ⊕ (List Int)) := zI (fun x => wu x.1 x.2.1 x.2.2.1 x.2.2.2.1 x.2.2.2.2.1 x.2.2.2.2.2.1 x.2.2.2.2.2.2) FU x
noncomputable def zRt (r : List A) (x : Int × Int × Int × Int × (List (Int × Int)) × (List Int) × (List Int)) : Prop := X2 r 9 (zas x.1 x.2.1 x.2.2.1 x.2.2.2.1 x.2.2.2.2.1 x.2.2.2.2.2.1 x.2.2.2.2.2.2) = some r
theorem zwE (x0 : Int) (x1 : List (Int × Int)) (x2 x3 : List Int) (r : List A) (h : (cond (decide (x0 ≥ 0)) (cond (inB x0 x2.length) (X2 r 9 (zas x0 (List.getD x2 (Int.toNat x0) 0) 0 0 x1 x2 x3)) none) (some [.lst (.one (.i .i64)) x3])) = some r) : X2 r 4 (zaC x0 x1 x2 x3) = some r :=
 zn h (by kernel_rfl)
noncomputable def wv (x0 : Int) (x1 : List (Int × Int)) (x2 x3 : List Int) : Option ((Int × (List (Int × Int)) × (List Int) × (List Int)) ⊕ (List Int)) := (cond (decide (x0 ≥ 0)) (cond (inB x0 x2.length) (uN (x0, (List.getD x2 (Int.toNat x0) 0), 0, 0, x1, x2, x3)) none) (some (Sum.inr x3)))
noncomputable def uo (x : Int × (List (Int × Int)) × (List Int) × (List Int)) : Option (List Int) := zI (fun x => wv x.1 x.2.1 x.2.2.1 x.2.2.2) FU x
noncomputable def zwo (r : List A) (x : Int × (List (Int × Int)) × (List Int) × (List Int)) : Prop := X2 r 4 (zaC x.1 x.2.1 x.2.2.1 x.2.2.2) = some r
noncomputable def zxF (r : List A) : (List Int) → Prop := fun v => r = zk2 v
noncomputable def zPq (r : List A) : ((Int × (List (Int × Int)) × (List Int) × (List Int)) ⊕ (List Int)) → Prop := Za (zwo r) (zxF r)
theorem zLf (r : List A) : ∀ x, sem (zPq r) (uN x) → zRt r x :=
 fun x => zi (step := fun x => wu x.1 x.2.1 x.2.2.1 x.2.2.2.1 x.2.2.2.2.1 x.2.2.2.2.2.1 x.2.2.2.2.2.2) (fun x h => by
  unfold wu at h
  exact ztJ x.1 x.2.1 x.2.2.1 x.2.2.2.1 x.2.2.2.2.1 x.2.2.2.2.2.1 x.2.2.2.2.2.2 r ((za h (fun h => (zT h fun r2 h => (za h (fun h => (za h (fun h => zb h fun q => q) (fun h => zf h))) (fun h => zb h fun q => q)))) (fun h => (za h (fun h => (za h (fun h => zb h fun q => q) (fun h => zf h))) (fun h => zf h)))))) FU x
theorem zK3 (r : List A) : ∀ x, sem (zxF r) (uo x) → zwo r x :=
 fun x => zi (step := fun x => wv x.1 x.2.1 x.2.2.1 x.2.2.2) (fun x h => by
  unfold wv at h
  exact zwE x.1 x.2.1 x.2.2.1 x.2.2.2 r ((za h (fun h => (za h (fun h => zLf r _ h) (fun h => zf h))) (fun h => zb h fun q => zj q)))) FU x
noncomputable def zeM (a0 : List (Int × Int)) : Option (List Int) := (Option.bind (zcp a0) fun r1 => (cond (decide (0 ≤ (a0.length : Int)) && decide ((a0.length : Int) = (a0.length : Int)) && zW ((Int.toNat (a0.length : Int)) * 8)) (uo ((wrap .i64 (((List.length r1.1 : Nat) : Int) - 1)), a0, r1.1, (List.replicate (Int.toNat (a0.length : Int)) (0 : Int)))) none))
theorem zGV (a0 : List (Int × Int)) (r : List A) : Tq zsl ziV zr7 zkf r [.lst (.st [(.i .i8), (.i .u16)]) a0] = (Option.bind (zcp a0) fun r1 => (cond (decide (0 ≤ (a0.length : Int)) && decide ((a0.length : Int) = (a0.length : Int)) && zW ((Int.toNat (a0.length : Int)) * 8)) (X2 r 4 (zaC (wrap .i64 (((List.length r1.1 : Nat) : Int) - 1)) a0 r1.1 (List.replicate (Int.toNat (a0.length : Int)) (0 : Int)))) none)) := by kernel_rfl
theorem zLK (a0 : List (Int × Int)) (v : List Int) (h : zeM a0 = some v) : (Option.bind (zcp a0) fun r1 => (cond (decide (0 ≤ (a0.length : Int)) && decide ((a0.length : Int) = (a0.length : Int)) && zW ((Int.toNat (a0.length : Int)) * 8)) (X2 (zk2 v) 4 (zaC (wrap .i64 (((List.length r1.1 : Nat) : Int) - 1)) a0 r1.1 (List.replicate (Int.toNat (a0.length : Int)) (0 : Int)))) none)) = some (zk2 v) := by
 replace h : sem (fun w => zk2 v = zk2 w) (zeM a0) := ⟨v, h, rfl⟩
 unfold zeM at h
 exact (zT h fun r1 h => (za h (fun h => zK3 (zk2 v) _ h) (fun h => zf h)))
noncomputable def zPt : List A → ze
 | [.lst (.st [(.i .i8), (.i .u16)]) a0] => ⟨(List Int), zeM a0, fun r => .one (.lst (.one (.i .i64)) r)⟩
 | _ => ze.fail
theorem zzD : zC Tryz.prog 140 zPt := by
 refine good zGW ziV zr7 zkf 1 Tryz.func140 fun rs => ?_
 unfold zPt
 split
 ·rename_i a0; intro v h; exact ⟨rfl, zk2 v, rfl, (zGV a0 _).trans (zLK a0 v h)⟩
 ·intro v h; cases h
noncomputable def zsJ := zu Tryz.f133
noncomputable def zrb : Ctx := ⟨TT, zr [(108, zll), (140, zPt)], zw, zU⟩
def zmE : List (Nat × zE) := [(4, ([3, 4, 5], [], []))]
def znv : List ResultVar := [.tmp 2]
noncomputable def zfF := Lq zrb zmE zsJ znv
theorem zHq : zq Tryz.prog zrb := zo tab mix ⟨⟨Tryz.call108, wG⟩, ⟨Tryz.call140, zzD⟩, trivial⟩
noncomputable def zaK (x0 x1 : Int) (x2 : List Int) : AS := ⟨[(3, .a (.sl 0)), (4, .a (.v (.int .i64 x0))), (5, .a (.v (.int .i64 x1)))], [(0, some ⟨true, .arr (.one (.i .i64)) x2⟩)], 1⟩
noncomputable def znB (r : Int) : List A := [.v (.int .i64 r)]
theorem zx7 (x0 x1 : Int) (x2 : List Int) (r : List A) (h : (cond (decide (x1 < (x2.length : Int))) (cond (inB x1 x2.length) (zfF r 4 (zaK (Yo x0 (List.getD x2 (Int.toNat x1) 0)) (wrap .i64 (x1 + 1)) x2)) none) (some [.v (.int .i64 x0)])) = some r) : zfF r 4 (zaK x0 x1 x2) = some r :=
 zn h (by kernel_rfl)
noncomputable def wA (x0 x1 : Int) (x2 : List Int) : Option ((Int × Int × (List Int)) ⊕ Int) := (cond (decide (x1 < (x2.length : Int))) (cond (inB x1 x2.length) (some (Sum.inl ((Yo x0 (List.getD x2 (Int.toNat x1) 0)), (wrap .i64 (x1 + 1)), x2))) none) (some (Sum.inr x0)))
noncomputable def zdP (x : Int × Int × (List Int)) : Option Int := zI (fun x => wA x.1 x.2.1 x.2.2) FU x
noncomputable def zPJ (r : List A) (x : Int × Int × (List Int)) : Prop := zfF r 4 (zaK x.1 x.2.1 x.2.2) = some r
noncomputable def zOe (r : List A) : Int → Prop := fun v => r = znB v
theorem zJZ (r : List A) : ∀ x, sem (zOe r) (zdP x) → zPJ r x :=
 fun x => zi (step := fun x => wA x.1 x.2.1 x.2.2) (fun x h => by
  unfold wA at h
  exact zx7 x.1 x.2.1 x.2.2 r ((za h (fun h => (za h (fun h => zb h fun q => q) (fun h => zf h))) (fun h => zb h fun q => zj q)))) FU x
noncomputable def zhi (a0 : List (Int × Int)) : Option Int := (Option.bind (zeM a0) fun r1 => (zdP (0, 0, r1)))
theorem zGw (a0 : List (Int × Int)) (r : List A) : Tq zrb zmE zsJ znv r [.lst (.st [(.i .i8), (.i .u16)]) a0] = (Option.bind (zeM a0) fun r1 => (zfF r 4 (zaK 0 0 r1))) := by kernel_rfl
theorem zPx (a0 : List (Int × Int)) (v : Int) (h : zhi a0 = some v) : (Option.bind (zeM a0) fun r1 => (zfF (znB v) 4 (zaK 0 0 r1))) = some (znB v) := by
 replace h : sem (fun w => znB v = znB w) (zhi a0) := ⟨v, h, rfl⟩
 unfold zhi at h
 exact (zT h fun r1 h => zJZ (znB v) _ h)
noncomputable def zN3 : List A → ze
 | [.lst (.st [(.i .i8), (.i .u16)]) a0] => ⟨Int, zhi a0, fun r => .one (.v (.int .i64 r))⟩
 | _ => ze.fail
theorem zxA : zC Tryz.prog 133 zN3 := by
 refine good zHq zmE zsJ znv 1 Tryz.func133 fun rs => ?_
 unfold zN3
 split
 ·rename_i a0; intro v h; exact ⟨rfl, znB v, rfl, (zGw a0 _).trans (zPx a0 v h)⟩
 ·intro v h; cases h
noncomputable def zq2 := zu Tryz.f104
noncomputable def zqM : Ctx := ⟨TT, zr [(108, zll), (133, zN3)], zw, zU⟩
def zmA : List (Nat × zE) := [(3, ([0, 1, 5, 6], [], []))]
def zi6 : List ResultVar := [.tmp 4]
noncomputable def ze0 := Lq zqM zmA zq2 zi6
theorem zJ5 : zq Tryz.prog zqM := zo tab mix ⟨⟨Tryz.call108, wG⟩, ⟨Tryz.call133, zxA⟩, trivial⟩
noncomputable def zai (x0 x1 x2 : Int) (x3 : List (Int × Int)) : AS := ⟨[(0, .a (.sl 0)), (1, .a (.v (.int .i64 x0))), (5, .a (.v (.int .i64 x1))), (6, .a (.v (.int .i64 x2)))], [(0, some ⟨false, .arr (.st [(.i .i8), (.i .u16)]) x3⟩)], 1⟩
noncomputable def zmH (r : Int) : List A := [.v (.int .i64 r)]
theorem zzy (x0 x1 x2 : Int) (x3 : List (Int × Int)) (r : List A) (h : (cond (decide (x2 < (x3.length : Int))) (cond (inB x2 x3.length) (ze0 r 3 (zai x0 (wrap .i64 (x1 + (wrap .i64 (List.getD x3 (Int.toNat x2) ((0, 0) : (Int × Int))).1))) (wrap .i64 (x2 + 1)) x3)) none) (Option.bind (zhi x3) fun r1 => (cond (decide (x0 = 0)) none (some [.v (.int .i64 (Yo r1 (wrap .i64 (Int.tdiv (wrap .i64 ((wrap .i64 (x1 + x0)) - 1)) x0))))])))) = some r) : ze0 r 3 (zai x0 x1 x2 x3) = some r :=
 zn h (by kernel_rfl)
noncomputable def wV (x0 x1 x2 : Int) (x3 : List (Int × Int)) : Option ((Int × Int × Int × (List (Int × Int))) ⊕ Int) := (cond (decide (x2 < (x3.length : Int))) (cond (inB x2 x3.length) (some (Sum.inl (x0, (wrap .i64 (x1 + (wrap .i64 (List.getD x3 (Int.toNat x2) ((0, 0) : (Int × Int))).1))), (wrap .i64 (x2 + 1)), x3))) none) (Option.bind (zhi x3) fun r1 => (cond (decide (x0 = 0)) none (some (Sum.inr (Yo r1 (wrap .i64 (Int.tdiv (wrap .i64 ((wrap .i64 (x1 + x0)) - 1)) x0))))))))
noncomputable def zd4 (x : Int × Int × Int × (List (Int × Int))) : Option Int := zI (fun x => wV x.1 x.2.1 x.2.2.1 x.2.2.2) FU x
noncomputable def zNX (r : List A) (x : Int × Int × Int × (List (Int × Int))) : Prop := ze0 r 3 (zai x.1 x.2.1 x.2.2.1 x.2.2.2) = some r
noncomputable def zQa (r : List A) : Int → Prop := fun v => r = zmH v
theorem zJT (r : List A) : ∀ x, sem (zQa r) (zd4 x) → zNX r x :=
 fun x => zi (step := fun x => wV x.1 x.2.1 x.2.2.1 x.2.2.2) (fun x h => by
  unfold wV at h
  exact zzy x.1 x.2.1 x.2.2.1 x.2.2.2 r ((za h (fun h => (za h (fun h => zb h fun q => q) (fun h => zf h))) (fun h => (zT h fun r1 h => (za h (fun h => zf h) (fun h => zb h fun q => zj q))))))) FU x
noncomputable def zfr (a0 : List (Int × Int)) (a1 : Int) : Option Int := (zd4 (a1, 0, 0, a0))
theorem zI8 (a0 : List (Int × Int)) (a1 : Int) (r : List A) : Tq zqM zmA zq2 zi6 r [.lst (.st [(.i .i8), (.i .u16)]) a0, .v (.int .i64 a1)] = (ze0 r 3 (zai a1 0 0 a0)) := by kernel_rfl
theorem zRf (a0 : List (Int × Int)) (a1 v : Int) (h : zfr a0 a1 = some v) : (ze0 (zmH v) 3 (zai a1 0 0 a0)) = some (zmH v) := by
 replace h : sem (fun w => zmH v = zmH w) (zfr a0 a1) := ⟨v, h, rfl⟩
 unfold zfr at h
 exact zJT (zmH v) _ h
noncomputable def zDQ : List A → ze
 | [.lst (.st [(.i .i8), (.i .u16)]) a0, .v (.int .i64 a1)] => ⟨Int, zfr a0 a1, fun r => .one (.v (.int .i64 r))⟩
 | _ => ze.fail
theorem zsP : zC Tryz.prog 104 zDQ := by
 refine good zJ5 zmA zq2 zi6 2 Tryz.func104 fun rs => ?_
 unfold zDQ
 split
 ·rename_i a0 a1; intro v h; exact ⟨rfl, zmH v, rfl, (zI8 a0 a1 _).trans (zRf a0 a1 v h)⟩
 ·intro v h; cases h
end Go.RR
