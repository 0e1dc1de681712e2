/- Plans of work. -/
import Derived.Test.YtbmaolhjplapoaaGreatVq
set_option linter.unusedVariables false
set_option linter.unusedSimpArgs false
set_option linter.unusedSectionVars false
set_option maxRecDepth 100000
namespace Go.RR
open Go Go.Proofs
open Go.IntKind (wrap)
noncomputable def zBZ := zu Tryz.f114
noncomputable def zBI : Ctx := ⟨TT, zr [(54, vy)], zw, zU⟩
def zym : List (Nat × zE) := []
def zAv : List ResultVar := [.tmp 4]
theorem zGR : zq Tryz.prog zBI := zo tab mix ⟨⟨Tryz.call54, yP⟩, trivial⟩
noncomputable def zjW (a0 a1 a2 : Int) : Bool := (cond (yf (wrap .i64 a0) 0 (wrap .i64 (a2 - 1))) (yf (wrap .i64 a1) 0 1000) false)
theorem zI2 (a0 a1 a2 : Int) (r : List A) : Tq zBI zym zBZ zAv r [.rc [.v (.int .i8 a0), .v (.int .i16 a1)], .v (.int .i64 a2)] = (cond (yf (wrap .i64 a0) 0 (wrap .i64 (a2 - 1))) (some [.v (.bool (yf (wrap .i64 a1) 0 1000))]) (some [.v (.bool false)])) := by kernel_rfl
noncomputable def zOR (r : Bool) : List A := [.v (.bool r)]
theorem zRL (a0 a1 a2 : Int) : (cond (yf (wrap .i64 a0) 0 (wrap .i64 (a2 - 1))) (some [.v (.bool (yf (wrap .i64 a1) 0 1000))]) (some [.v (.bool false)])) = some (zOR (zjW a0 a1 a2)) := by
 unfold zjW
 exact (zM (fun x => some (zOR x)) rfl rfl)
noncomputable def zOx : List A → ze
 | [.rc [.v (.int .i8 a0), .v (.int .i16 a1)], .v (.int .i64 a2)] => ⟨Bool, some (zjW a0 a1 a2), fun r => .one (.v (.bool r))⟩
 | _ => ze.fail
theorem zuA : zC Tryz.prog 114 zOx := by
 refine good zGR zym zBZ zAv 2 Tryz.func114 fun rs => ?_
 unfold zOx
 split
 ·rename_i a0 a1 a2; intro v h; cases h; exact ⟨rfl, zOR (zjW a0 a1 a2), rfl, (zI2 a0 a1 a2 _).trans (zRL a0 a1 a2)⟩
 ·intro v h; cases h
noncomputable def zso := zu Tryz.f113
noncomputable def zsa : Ctx := ⟨TT, zr [(110, zes), (114, zOx), (115, zpt)], zw, zU⟩
def zjv : List (Nat × zE) := [(5, ([0, 2, 3, 6, 17, 18, 19], [], []))]
def zlw : List ResultVar := [.tmp 5]
noncomputable def zC1 := Lq zsa zjv zso zlw
theorem zKR : zq Tryz.prog zsa := zo tab mix ⟨⟨Tryz.call110, wz⟩, ⟨Tryz.call114, zuA⟩, ⟨Tryz.call115, zaB⟩, trivial⟩
noncomputable def ztc (x0 x1 x2 x3 : Int) (x4 : List (Int × Int)) (x5 x6 : Int) (x7 : List (Int × Int)) : AS := ⟨[(0, .a (.v (.int .i64 x0))), (2, .a (.ptr 0 [] (0))), (3, .a (.ptr 1 [] (0))), (6, .a (.ptr 3 [] (0))), (17, .a (.sl 4)), (18, .a (.v (.int .i64 x1))), (19, .a (.v (.int .i64 x2)))], [(0, some ⟨false, .box (.v (.int .i64 x3))⟩), (1, some ⟨false, .box (.sl 2)⟩), (2, some ⟨false, .arr (.st [(.i .i8), (.i .u16)]) x4⟩), (3, some ⟨true, .box (.rc [.v (.int .i8 x5), .v (.int .i16 x6)])⟩), (4, some ⟨false, .arr (.st [(.i .i8), (.i .i16)]) x7⟩)], 5⟩
abbrev zNv := Bool
noncomputable def zcr (r : Bool) : List A := [.v (.bool r)]
abbrev zbn := (Int × Int × Int × Int × (List (Int × Int)) × Int × Int × (List (Int × Int)))
abbrev zss := zNv
section
variable {R R' : Type} {S : R → Prop} {r : R'} (E : zNv → Option R) (E' : zNv → Option R') (G5 : zbn → Option R) (G5' : zbn → Option R')
noncomputable def uH (x0 x1 x2 x3 : Int) (x4 : List (Int × Int)) (x5 x6 : Int) (x7 : List (Int × Int)) : Option R := (cond (decide (x2 < x1)) (cond (inB x2 x7.length) (cond (!(zjW (List.getD x7 (Int.toNat x2) ((0, 0) : (Int × Int))).1 (List.getD x7 (Int.toNat x2) ((0, 0) : (Int × Int))).2 x3)) (G5 (x0, x1, (wrap .i64 (x2 + 1)), x3, x4, x5, x6, x7)) (cond (inB x0 x4.length) (Option.bind (zcl (List.getD x4 (Int.toNat x0) ((0, 0) : (Int × Int))).1 (List.getD x4 (Int.toNat x0) ((0, 0) : (Int × Int))).2 x2) fun r1 => (cond r1 (cond (inB x2 x4.length) (cond (decide ((wrap .i64 x6) < (xB (List.getD x4 (Int.toNat x2) ((0, 0) : (Int × Int))).1 (List.getD x4 (Int.toNat x2) ((0, 0) : (Int × Int))).2 (List.getD x7 (Int.toNat x2) ((0, 0) : (Int × Int))).1 (List.getD x7 (Int.toNat x2) ((0, 0) : (Int × Int))).2))) (E true) (cond (decide (x2 < x0)) (cond ((List.getD x7 (Int.toNat x2) ((0, 0) : (Int × Int))).1 == x5) (cond (inB x2 x4.length) (cond (decide ((wrap .i64 x6) < (xB (List.getD x4 (Int.toNat x2) ((0, 0) : (Int × Int))).1 (List.getD x4 (Int.toNat x2) ((0, 0) : (Int × Int))).2 (List.getD x7 (Int.toNat x2) ((0, 0) : (Int × Int))).1 (List.getD x7 (Int.toNat x2) ((0, 0) : (Int × Int))).2))) (cond (inB x0 x4.length) (cond (decide ((wrap .i64 (List.getD x7 (Int.toNat x2) ((0, 0) : (Int × Int))).2) < (xB (List.getD x4 (Int.toNat x0) ((0, 0) : (Int × Int))).1 (List.getD x4 (Int.toNat x0) ((0, 0) : (Int × Int))).2 x5 x6))) (E true) (G5 (x0, x1, (wrap .i64 (x2 + 1)), x3, x4, x5, x6, x7))) none) (G5 (x0, x1, (wrap .i64 (x2 + 1)), x3, x4, x5, x6, x7))) none) (G5 (x0, x1, (wrap .i64 (x2 + 1)), x3, x4, x5, x6, x7))) (G5 (x0, x1, (wrap .i64 (x2 + 1)), x3, x4, x5, x6, x7)))) none) (cond (decide (x2 < x0)) (cond ((List.getD x7 (Int.toNat x2) ((0, 0) : (Int × Int))).1 == x5) (cond (inB x2 x4.length) (cond (decide ((wrap .i64 x6) < (xB (List.getD x4 (Int.toNat x2) ((0, 0) : (Int × Int))).1 (List.getD x4 (Int.toNat x2) ((0, 0) : (Int × Int))).2 (List.getD x7 (Int.toNat x2) ((0, 0) : (Int × Int))).1 (List.getD x7 (Int.toNat x2) ((0, 0) : (Int × Int))).2))) (cond (inB x0 x4.length) (cond (decide ((wrap .i64 (List.getD x7 (Int.toNat x2) ((0, 0) : (Int × Int))).2) < (xB (List.getD x4 (Int.toNat x0) ((0, 0) : (Int × Int))).1 (List.getD x4 (Int.toNat x0) ((0, 0) : (Int × Int))).2 x5 x6))) (E true) (G5 (x0, x1, (wrap .i64 (x2 + 1)), x3, x4, x5, x6, x7))) none) (G5 (x0, x1, (wrap .i64 (x2 + 1)), x3, x4, x5, x6, x7))) none) (G5 (x0, x1, (wrap .i64 (x2 + 1)), x3, x4, x5, x6, x7))) (G5 (x0, x1, (wrap .i64 (x2 + 1)), x3, x4, x5, x6, x7))))) none)) none) (E false))
theorem zzZ (x0 x1 x2 x3 : Int) (x4 : List (Int × Int)) (x5 x6 : Int) (x7 : List (Int × Int)) (h : sem S (uH E G5 x0 x1 x2 x3 x4 x5 x6 x7)) (hE : zJ S r E E') (h5 : zJ S r G5 G5') : uH E' G5' x0 x1 x2 x3 x4 x5 x6 x7 = some r := by
 revert h
 unfold uH
 repeat' first | refine zy ?_ ?_ | refine zA fun _ => ?_ | exact zz | exact hE _ | exact h5 _ | refine zp (fun _ => ?_) (fun _ => ?_)
noncomputable def zmb (a0 : Int) (a1 : List (Int × Int)) (a2 : Int) (a3 : List (Int × Int)) : Option R := (cond (inB a0 a1.length) (cond (!(zjW (List.getD a1 (Int.toNat a0) ((0, 0) : (Int × Int))).1 (List.getD a1 (Int.toNat a0) ((0, 0) : (Int × Int))).2 a2)) (E true) (G5 (a0, (a1.length : Int), 0, a2, a3, (List.getD a1 (Int.toNat a0) ((0, 0) : (Int × Int))).1, (List.getD a1 (Int.toNat a0) ((0, 0) : (Int × Int))).2, a1))) none)
theorem zFD (a0 : Int) (a1 : List (Int × Int)) (a2 : Int) (a3 : List (Int × Int)) (h : sem S (zmb E G5 a0 a1 a2 a3)) (hE : zJ S r E E') (h5 : zJ S r G5 G5') : zmb E' G5' a0 a1 a2 a3 = some r := by
 revert h
 unfold zmb
 repeat' first | refine zy ?_ ?_ | refine zA fun _ => ?_ | exact zz | exact hE _ | exact h5 _ | refine zp (fun _ => ?_) (fun _ => ?_)
end
noncomputable def zft (r : List A) (x : zbn) : Option (List A) := zC1 r 5 (ztc x.1 x.2.1 x.2.2.1 x.2.2.2.1 x.2.2.2.2.1 x.2.2.2.2.2.1 x.2.2.2.2.2.2.1 x.2.2.2.2.2.2.2)
theorem zt9 (x0 x1 x2 x3 : Int) (x4 : List (Int × Int)) (x5 x6 : Int) (x7 : List (Int × Int)) (r : List A) (h : uH (fun v => some (zcr v)) (zft r) x0 x1 x2 x3 x4 x5 x6 x7 = some r) : zC1 r 5 (ztc x0 x1 x2 x3 x4 x5 x6 x7) = some r :=
 zn h (by kernel_rfl)
noncomputable def WI (x0 x1 x2 x3 : Int) (x4 : List (Int × Int)) (x5 x6 : Int) (x7 : List (Int × Int)) : Option (zbn ⊕ zss) := uH (fun v => some (Sum.inr v)) (fun x => some (Sum.inl x)) x0 x1 x2 x3 x4 x5 x6 x7
noncomputable def ui (x : zbn) : Option zss := zI (fun x => WI x.1 x.2.1 x.2.2.1 x.2.2.2.1 x.2.2.2.2.1 x.2.2.2.2.2.1 x.2.2.2.2.2.2.1 x.2.2.2.2.2.2.2) FU x
noncomputable def zzh (r : List A) (x : zbn) : Prop := zft r x = some r
noncomputable def zAc (r : List A) : zss → Prop := fun v => r = zcr v
theorem zKG (r : List A) : ∀ x, sem (zAc r) (ui x) → zzh r x :=
 fun x => zi (G := zzh r) (E := zAc r) (step := fun x => WI x.1 x.2.1 x.2.2.1 x.2.2.2.1 x.2.2.2.2.1 x.2.2.2.2.2.1 x.2.2.2.2.2.2.1 x.2.2.2.2.2.2.2) (fun x h => zt9 x.1 x.2.1 x.2.2.1 x.2.2.2.1 x.2.2.2.2.1 x.2.2.2.2.2.1 x.2.2.2.2.2.2.1 x.2.2.2.2.2.2.2 r (zzZ _ _ _ _ x.1 x.2.1 x.2.2.1 x.2.2.2.1 x.2.2.2.2.1 x.2.2.2.2.2.1 x.2.2.2.2.2.2.1 x.2.2.2.2.2.2.2 h (fun _ h => zb h fun q => zj q) (fun _ h => zb h fun q => q))) FU x
noncomputable def zlN (a0 : Int) (a1 : List (Int × Int)) (a2 : Int) (a3 : List (Int × Int)) : Option Bool := zmb some ui a0 a1 a2 a3
theorem zK4 (a0 : Int) (a1 : List (Int × Int)) (a2 : Int) (a3 : List (Int × Int)) (r : List A) : Tq zsa zjv zso zlw r [.v (.int .i64 a0), .ref (.lst (.st [(.i .i8), (.i .i16)]) a1), .ref (.v (.int .i64 a2)), .ref (.lst (.st [(.i .i8), (.i .u16)]) a3)] = zmb (fun v => some (zcr v)) (zft r) a0 a1 a2 a3 := by kernel_rfl
theorem zRg (a0 : Int) (a1 : List (Int × Int)) (a2 : Int) (a3 : List (Int × Int)) (v : Bool) (h : zlN a0 a1 a2 a3 = some v) : zmb (fun v => some (zcr v)) (zft (zcr v)) a0 a1 a2 a3 = some (zcr v) :=
 zFD _ _ _ _ a0 a1 a2 a3 (show sem (fun w => zcr v = zcr w) (zlN a0 a1 a2 a3) from ⟨v, h, rfl⟩) (fun _ h => zb h fun q => zj q) (zKG (zcr v))
noncomputable def zMi : List A → ze
 | [.v (.int .i64 a0), .ref (.lst (.st [(.i .i8), (.i .i16)]) a1), .ref (.v (.int .i64 a2)), .ref (.lst (.st [(.i .i8), (.i .u16)]) a3)] => ⟨Bool, zlN a0 a1 a2 a3, fun r => .one (.v (.bool r))⟩
 | _ => ze.fail
theorem ztC : zC Tryz.prog 113 zMi := by
 refine good zKR zjv zso zlw 4 Tryz.func113 fun rs => ?_
 unfold zMi
 split
 ·rename_i a0 a1 a2 a3; intro v h; exact ⟨rfl, zcr v, rfl, (zK4 a0 a1 a2 a3 _).trans (zRg a0 a1 a2 a3 v h)⟩
 ·intro v h; cases h
noncomputable def zqU := zu Tryz.f111
noncomputable def zsg : Ctx := ⟨TT, zr [(113, zMi)], zw, zU⟩
def zjf : List (Nat × zE) := [(2, ([0, 1, 7, 8], [], []))]
def znc : List ResultVar := [.tmp 4]
noncomputable def zei := Lq zsg zjf zqU znc
theorem zFZ : zq Tryz.prog zsg := zo tab mix ⟨⟨Tryz.call113, ztC⟩, trivial⟩
noncomputable def zad (x0 x1 : Int) (x2 : List Int) (x3 : List (Int × Int)) (x4 : Int) (x5 : List (Int × Int)) : AS := ⟨[(0, .a (.sl 0)), (1, .a (.clo 113 [.ptr 1 [] (0), .ptr 3 [] (0), .ptr 4 [] (0)])), (7, .a (.v (.int .i64 x0))), (8, .a (.v (.int .i64 x1)))], [(0, some ⟨false, .arr (.one (.i .i64)) x2⟩), (1, some ⟨false, .box (.sl 2)⟩), (2, some ⟨false, .arr (.st [(.i .i8), (.i .i16)]) x3⟩), (3, some ⟨false, .box (.v (.int .i64 x4))⟩), (4, some ⟨false, .box (.sl 5)⟩), (5, some ⟨false, .arr (.st [(.i .i8), (.i .u16)]) x5⟩)], 6⟩
noncomputable def zkn (r : Int) : List A := [.v (.int .i64 r)]
theorem zva (x0 x1 : Int) (x2 : List Int) (x3 : List (Int × Int)) (x4 : Int) (x5 : List (Int × Int)) (r : List A) (h : (cond (decide (x1 < x0)) (cond (inB x1 x2.length) (Option.bind (zlN (List.getD x2 (Int.toNat x1) 0) x3 x4 x5) fun r1 => (cond r1 (some [.v (.int .i64 x1)]) (zei r 2 (zad x0 (wrap .i64 (x1 + 1)) x2 x3 x4 x5)))) none) (some [.v (.int .i64 (-1))])) = some r) : zei r 2 (zad x0 x1 x2 x3 x4 x5) = some r :=
 zn h (by kernel_rfl)
noncomputable def Xb (x0 x1 : Int) (x2 : List Int) (x3 : List (Int × Int)) (x4 : Int) (x5 : List (Int × Int)) : Option ((Int × Int × (List Int) × (List (Int × Int)) × Int × (List (Int × Int))) ⊕ Int) := (cond (decide (x1 < x0)) (cond (inB x1 x2.length) (Option.bind (zlN (List.getD x2 (Int.toNat x1) 0) x3 x4 x5) fun r1 => (cond r1 (some (Sum.inr x1)) (some (Sum.inl (x0, (wrap .i64 (x1 + 1)), x2, x3, x4, x5))))) none) (some (Sum.inr (-1))))
noncomputable def zcX (x : Int × Int × (List Int) × (List (Int × Int)) × Int × (List (Int × Int))) : Option Int := zI (fun x => Xb x.1 x.2.1 x.2.2.1 x.2.2.2.1 x.2.2.2.2.1 x.2.2.2.2.2) FU x
noncomputable def zQo (r : List A) (x : Int × Int × (List Int) × (List (Int × Int)) × Int × (List (Int × Int))) : Prop := zei r 2 (zad x.1 x.2.1 x.2.2.1 x.2.2.2.1 x.2.2.2.2.1 x.2.2.2.2.2) = some r
noncomputable def zMx (r : List A) : Int → Prop := fun v => r = zkn v
theorem zHw (r : List A) : ∀ x, sem (zMx r) (zcX x) → zQo r x :=
 fun x => zi (step := fun x => Xb x.1 x.2.1 x.2.2.1 x.2.2.2.1 x.2.2.2.2.1 x.2.2.2.2.2) (fun x h => by
  unfold Xb at h
  exact zva x.1 x.2.1 x.2.2.1 x.2.2.2.1 x.2.2.2.2.1 x.2.2.2.2.2 r ((za h (fun h => (za h (fun h => (zT h fun r1 h => (za h (fun h => zb h fun q => zj q) (fun h => zb h fun q => q)))) (fun h => zf h))) (fun h => zb h fun q => zj q)))) FU x
noncomputable def zhF (a0 : List Int) (a1 : List (Int × Int)) (a2 : Int) (a3 : List (Int × Int)) : Option Int := (zcX ((a0.length : Int), 0, a0, a1, a2, a3))
theorem zGp (a0 : List Int) (a1 : List (Int × Int)) (a2 : Int) (a3 : List (Int × Int)) (r : List A) : Tq zsg zjf zqU znc r [.lst (.one (.i .i64)) a0, .clo 113 [.ref (.lst (.st [(.i .i8), (.i .i16)]) a1), .ref (.v (.int .i64 a2)), .ref (.lst (.st [(.i .i8), (.i .u16)]) a3)]] = (zei r 2 (zad (a0.length : Int) 0 a0 a1 a2 a3)) := by kernel_rfl
theorem zM6 (a0 : List Int) (a1 : List (Int × Int)) (a2 : Int) (a3 : List (Int × Int)) (v : Int) (h : zhF a0 a1 a2 a3 = some v) : (zei (zkn v) 2 (zad (a0.length : Int) 0 a0 a1 a2 a3)) = some (zkn v) := by
 replace h : sem (fun w => zkn v = zkn w) (zhF a0 a1 a2 a3) := ⟨v, h, rfl⟩
 unfold zhF at h
 exact zHw (zkn v) _ h
noncomputable def zNJ : List A → ze
 | [.lst (.one (.i .i64)) a0, .clo 113 [.ref (.lst (.st [(.i .i8), (.i .i16)]) a1), .ref (.v (.int .i64 a2)), .ref (.lst (.st [(.i .i8), (.i .u16)]) a3)]] => ⟨Int, zhF a0 a1 a2 a3, fun r => .one (.v (.int .i64 r))⟩
 | _ => ze.fail
theorem zuK : zC Tryz.prog 111 zNJ := by
 refine good zFZ zjf zqU znc 2 Tryz.func111 fun rs => ?_
 unfold zNJ
 split
 ·rename_i a0 a1 a2 a3; intro v h; exact ⟨rfl, zkn v, rfl, (zGp a0 a1 a2 a3 _).trans (zM6 a0 a1 a2 a3 v h)⟩
 ·intro v h; cases h
noncomputable def zDl := zu Tryz.f73
noncomputable def zDX : Ctx := ⟨TT, zr [(111, zNJ), (112, zEm)], zw, zU⟩
def zyu : List (Nat × zE) := []
def zwT : List ResultVar := [.tmp 6]
theorem zLy : zq Tryz.prog zDX := zo tab mix ⟨⟨Tryz.call111, zuK⟩, ⟨Tryz.call112, zg2⟩, trivial⟩
noncomputable def zlF (a0 : List (Int × Int)) (a1 : Int) (a2 : List (Int × Int)) : Option Int := (Option.bind (zaN a0) fun r1 => (Option.bind (zhF r1 a2 a1 a0) fun r2 => (some r2)))
theorem zHa (a0 : List (Int × Int)) (a1 : Int) (a2 : List (Int × Int)) (r : List A) : Tq zDX zyu zDl zwT r [.lst (.st [(.i .i8), (.i .u16)]) a0, .v (.int .i64 a1), .lst (.st [(.i .i8), (.i .i16)]) a2] = (Option.bind (zaN a0) fun r1 => (Option.bind (zhF r1 a2 a1 a0) fun r2 => (some [.v (.int .i64 r2)]))) := by kernel_rfl
noncomputable def zN9 (r : Int) : List A := [.v (.int .i64 r)]
theorem zMG (a0 : List (Int × Int)) (a1 : Int) (a2 : List (Int × Int)) (v : Int) (h : zlF a0 a1 a2 = some v) : (Option.bind (zaN a0) fun r1 => (Option.bind (zhF r1 a2 a1 a0) fun r2 => (some [.v (.int .i64 r2)]))) = some (zN9 v) := by
 refine Eq.trans (b := Option.map zN9 (zlF a0 a1 a2)) ?_ (by rw [h]; rfl)
 unfold zlF
 exact (zV fun _ => (zV fun _ => rfl))
noncomputable def zPp : List A → ze
 | [.lst (.st [(.i .i8), (.i .u16)]) a0, .v (.int .i64 a1), .lst (.st [(.i .i8), (.i .i16)]) a2] => ⟨Int, zlF a0 a1 a2, fun r => .one (.v (.int .i64 r))⟩
 | _ => ze.fail
theorem zyW : zC Tryz.prog 73 zPp := by
 refine good zLy zyu zDl zwT 3 Tryz.func73 fun rs => ?_
 unfold zPp
 split
 ·rename_i a0 a1 a2; intro v h; exact ⟨rfl, zN9 v, rfl, (zHa a0 a1 a2 _).trans (zMG a0 a1 a2 v h)⟩
 ·intro v h; cases h
noncomputable def zDG := zu Tryz.f28
noncomputable def zCS : Ctx := ⟨TT, zr [(63, zuB), (64, zvV), (73, zPp)], zw, zU⟩
def zuo : List (Nat × zE) := []
def zz6 : List ResultVar := [.tmp 6]
theorem zLF : zq Tryz.prog zCS := zo tab mix ⟨⟨Tryz.call63, zaD⟩, ⟨Tryz.call64, zak⟩, ⟨Tryz.call73, zyW⟩, trivial⟩
abbrev zTC := Bool
noncomputable def zpE (r : Bool) : List A := [.v (.bool r)]
section
variable {R R' : Type} {S : R → Prop} {r : R'} (E : zTC → Option R) (E' : zTC → Option R')
noncomputable def zjs (a0 : List (Int × Int)) (a1 : Int) (a2 : List (Int × Int)) : Option R := (Option.bind (zcj a0) fun r1 => (cond r1 (cond (W1 a1) (cond ((a2.length : Int) == (a0.length : Int)) (Option.bind (zlF a0 a1 a2) fun r2 => (E (decide (r2 < 0)))) (E false)) (E false)) (E false)))
theorem zIg (a0 : List (Int × Int)) (a1 : Int) (a2 : List (Int × Int)) (h : sem S (zjs E a0 a1 a2)) (hE : zJ S r E E') : zjs E' a0 a1 a2 = some r := by
 revert h
 unfold zjs
 repeat' first | refine zy ?_ ?_ | refine zA fun _ => ?_ | exact zz | exact hE _ | refine zp (fun _ => ?_) (fun _ => ?_)
end
noncomputable def zax (a0 : List (Int × Int)) (a1 : Int) (a2 : List (Int × Int)) : Option Bool := zjs some a0 a1 a2
theorem zJ1 (a0 : List (Int × Int)) (a1 : Int) (a2 : List (Int × Int)) (r : List A) : Tq zCS zuo zDG zz6 r [.lst (.st [(.i .i8), (.i .u16)]) a0, .v (.int .i64 a1), .lst (.st [(.i .i8), (.i .i16)]) a2] = zjs (fun v => some (zpE v)) a0 a1 a2 := by kernel_rfl
theorem zPW (a0 : List (Int × Int)) (a1 : Int) (a2 : List (Int × Int)) (v : Bool) (h : zax a0 a1 a2 = some v) : zjs (fun v => some (zpE v)) a0 a1 a2 = some (zpE v) :=
 zIg _ _ a0 a1 a2 (show sem (fun w => zpE v = zpE w) (zax a0 a1 a2) from ⟨v, h, rfl⟩) (fun _ h => zb h fun q => zj q)
noncomputable def zB4 : List A → ze
 | [.lst (.st [(.i .i8), (.i .u16)]) a0, .v (.int .i64 a1), .lst (.st [(.i .i8), (.i .i16)]) a2] => ⟨Bool, zax a0 a1 a2, fun r => .one (.v (.bool r))⟩
 | _ => ze.fail
theorem zgW : zC Tryz.prog 28 zB4 := by
 refine good zLF zuo zDG zz6 3 Tryz.func28 fun rs => ?_
 unfold zB4
 split
 ·rename_i a0 a1 a2; intro v h; exact ⟨rfl, zpE v, rfl, (zJ1 a0 a1 a2 _).trans (zPW a0 a1 a2 v h)⟩
 ·intro v h; cases h
noncomputable def zCv := zu Tryz.f71
noncomputable def zEy : Ctx := ⟨TT, zr [(28, zB4), (58, zxS), (63, zuB), (64, zvV)], zw, zU⟩
def zts : List (Nat × zE) := []
def zv4 : List ResultVar := [.tmp 6]
theorem zJf : zq Tryz.prog zEy := zo tab mix ⟨⟨Tryz.call28, zgW⟩, ⟨Tryz.call58, zan⟩, ⟨Tryz.call63, zaD⟩, ⟨Tryz.call64, zak⟩, trivial⟩
noncomputable def zeN (a0 : List (Int × Int)) (a1 : Int) (a2 : List (Int × Int)) : Option Int := (Option.bind (zcj a0) fun r1 => (cond ((ZG r1 (W1 a1)) != 0) (some (ZG r1 (W1 a1))) (Option.bind (zax a0 a1 a2) fun r2 => (some (ZG r2 true)))))
theorem zIJ (a0 : List (Int × Int)) (a1 : Int) (a2 : List (Int × Int)) (r : List A) : Tq zEy zts zCv zv4 r [.lst (.st [(.i .i8), (.i .u16)]) a0, .v (.int .i64 a1), .lst (.st [(.i .i8), (.i .i16)]) a2] = (Option.bind (zcj a0) fun r1 => (cond ((ZG r1 (W1 a1)) != 0) (some [.v (.int .i64 (ZG r1 (W1 a1)))]) (Option.bind (zax a0 a1 a2) fun r2 => (some [.v (.int .i64 (ZG r2 true))])))) := by kernel_rfl
noncomputable def zDk (r : Int) : List A := [.v (.int .i64 r)]
theorem zSh (a0 : List (Int × Int)) (a1 : Int) (a2 : List (Int × Int)) (v : Int) (h : zeN a0 a1 a2 = some v) : (Option.bind (zcj a0) fun r1 => (cond ((ZG r1 (W1 a1)) != 0) (some [.v (.int .i64 (ZG r1 (W1 a1)))]) (Option.bind (zax a0 a1 a2) fun r2 => (some [.v (.int .i64 (ZG r2 true))])))) = some (zDk v) := by
 refine Eq.trans (b := Option.map zDk (zeN a0 a1 a2)) ?_ (by rw [h]; rfl)
 unfold zeN
 exact (zV fun _ => (zM (Option.map zDk) rfl (zV fun _ => rfl)))
noncomputable def zRM : List A → ze
 | [.lst (.st [(.i .i8), (.i .u16)]) a0, .v (.int .i64 a1), .lst (.st [(.i .i8), (.i .i16)]) a2] => ⟨Int, zeN a0 a1 a2, fun r => .one (.v (.int .i64 r))⟩
 | _ => ze.fail
theorem zuj : zC Tryz.prog 71 zRM := by
 refine good zJf zts zCv zv4 3 Tryz.func71 fun rs => ?_
 unfold zRM
 split
 ·rename_i a0 a1 a2; intro v h; exact ⟨rfl, zDk v, rfl, (zIJ a0 a1 a2 _).trans (zSh a0 a1 a2 v h)⟩
 ·intro v h; cases h
noncomputable def zq5 := zu Tryz.f72
noncomputable def zp9 : Ctx := ⟨TT, zr [(110, zes)], zw, zU⟩
def zkt : List (Nat × zE) := [(3, ([1, 5, 8, 9, 10], [], []))]
def zli : List ResultVar := [.tmp 4]
noncomputable def zfl := Lq zp9 zkt zq5 zli
theorem zHy : zq Tryz.prog zp9 := zo tab mix ⟨⟨Tryz.call110, wz⟩, trivial⟩
noncomputable def zaV (x0 x1 x2 : Int) (x3 x4 : List (Int × Int)) : AS := ⟨[(1, .a (.sl 0)), (5, .a (.v (.int .i64 x0))), (8, .a (.sl 1)), (9, .a (.v (.int .i64 x1))), (10, .a (.v (.int .i64 x2)))], [(0, some ⟨false, .arr (.st [(.i .i8), (.i .i16)]) x3⟩), (1, some ⟨false, .arr (.st [(.i .i8), (.i .u16)]) x4⟩)], 2⟩
noncomputable def zmh (r : Int) : List A := [.v (.int .i64 r)]
theorem zyg (x0 x1 x2 : Int) (x3 x4 : List (Int × Int)) (r : List A) (h : (cond (decide (x2 < x1)) (cond (inB x2 x4.length) (cond (inB x2 x3.length) (zfl r 3 (zaV (max x0 (xB (List.getD x4 (Int.toNat x2) ((0, 0) : (Int × Int))).1 (List.getD x4 (Int.toNat x2) ((0, 0) : (Int × Int))).2 (List.getD x3 (Int.toNat x2) ((0, 0) : (Int × Int))).1 (List.getD x3 (Int.toNat x2) ((0, 0) : (Int × Int))).2)) x1 (wrap .i64 (x2 + 1)) x3 x4)) none) none) (some [.v (.int .i64 x0)])) = some r) : zfl r 3 (zaV x0 x1 x2 x3 x4) = some r :=
 zn h (by kernel_rfl)
noncomputable def wB (x0 x1 x2 : Int) (x3 x4 : List (Int × Int)) : Option ((Int × Int × Int × (List (Int × Int)) × (List (Int × Int))) ⊕ Int) := (cond (decide (x2 < x1)) (cond (inB x2 x4.length) (cond (inB x2 x3.length) (some (Sum.inl ((max x0 (xB (List.getD x4 (Int.toNat x2) ((0, 0) : (Int × Int))).1 (List.getD x4 (Int.toNat x2) ((0, 0) : (Int × Int))).2 (List.getD x3 (Int.toNat x2) ((0, 0) : (Int × Int))).1 (List.getD x3 (Int.toNat x2) ((0, 0) : (Int × Int))).2)), x1, (wrap .i64 (x2 + 1)), x3, x4))) none) none) (some (Sum.inr x0)))
noncomputable def zdj (x : Int × Int × Int × (List (Int × Int)) × (List (Int × Int))) : Option Int := zI (fun x => wB x.1 x.2.1 x.2.2.1 x.2.2.2.1 x.2.2.2.2) FU x
noncomputable def zMD (r : List A) (x : Int × Int × Int × (List (Int × Int)) × (List (Int × Int))) : Prop := zfl r 3 (zaV x.1 x.2.1 x.2.2.1 x.2.2.2.1 x.2.2.2.2) = some r
noncomputable def zOZ (r : List A) : Int → Prop := fun v => r = zmh v
theorem zIX (r : List A) : ∀ x, sem (zOZ r) (zdj x) → zMD r x :=
 fun x => zi (step := fun x => wB x.1 x.2.1 x.2.2.1 x.2.2.2.1 x.2.2.2.2) (fun x h => by
  unfold wB at h
  exact zyg x.1 x.2.1 x.2.2.1 x.2.2.2.1 x.2.2.2.2 r ((za h (fun h => (za h (fun h => (za h (fun h => zb h fun q => q) (fun h => zf h))) (fun h => zf h))) (fun h => zb h fun q => zj q)))) FU x
noncomputable def zeS (a0 a1 : List (Int × Int)) : Option Int := (zdj (0, (a0.length : Int), 0, a1, a0))
theorem zGA (a0 a1 : List (Int × Int)) (r : List A) : Tq zp9 zkt zq5 zli r [.lst (.st [(.i .i8), (.i .u16)]) a0, .lst (.st [(.i .i8), (.i .i16)]) a1] = (zfl r 3 (zaV 0 (a0.length : Int) 0 a1 a0)) := by kernel_rfl
theorem zMs (a0 a1 : List (Int × Int)) (v : Int) (h : zeS a0 a1 = some v) : (zfl (zmh v) 3 (zaV 0 (a0.length : Int) 0 a1 a0)) = some (zmh v) := by
 replace h : sem (fun w => zmh v = zmh w) (zeS a0 a1) := ⟨v, h, rfl⟩
 unfold zeS at h
 exact zIX (zmh v) _ h
noncomputable def zMX : List A → ze
 | [.lst (.st [(.i .i8), (.i .u16)]) a0, .lst (.st [(.i .i8), (.i .i16)]) a1] => ⟨Int, zeS a0 a1, fun r => .one (.v (.int .i64 r))⟩
 | _ => ze.fail
theorem ztu : zC Tryz.prog 72 zMX := by
 refine good zHy zkt zq5 zli 2 Tryz.func72 fun rs => ?_
 unfold zMX
 split
 ·rename_i a0 a1; intro v h; exact ⟨rfl, zmh v, rfl, (zGA a0 a1 _).trans (zMs a0 a1 v h)⟩
 ·intro v h; cases h
noncomputable def zEM := zu Tryz.f26
noncomputable def zDw : Ctx := ⟨TT, zr [(71, zRM), (72, zMX)], zw, zU⟩
def zyy : List (Nat × zE) := []
def zvK : List ResultVar := [.tmp 6, .tmp 7]
theorem zG4 : zq Tryz.prog zDw := zo tab mix ⟨⟨Tryz.call71, zuj⟩, ⟨Tryz.call72, ztu⟩, trivial⟩
noncomputable def zgP (a0 : List (Int × Int)) (a1 : Int) (a2 : List (Int × Int)) : Option (Int × Int) := (Option.bind (zeN a0 a1 a2) fun r1 => (cond (r1 != 0) (some (0, r1)) (Option.bind (zeS a0 a2) fun r2 => (some (r2, 0)))))
theorem zFU (a0 : List (Int × Int)) (a1 : Int) (a2 : List (Int × Int)) (r : List A) : Tq zDw zyy zEM zvK r [.lst (.st [(.i .i8), (.i .u16)]) a0, .v (.int .i64 a1), .lst (.st [(.i .i8), (.i .i16)]) a2] = (Option.bind (zeN a0 a1 a2) fun r1 => (cond (r1 != 0) (some [.v (.int .i64 0), .v (.int .i64 r1)]) (Option.bind (zeS a0 a2) fun r2 => (some [.v (.int .i64 r2), .v (.int .i64 0)])))) := by kernel_rfl
noncomputable def zEw (r : Int × Int) : List A := [.v (.int .i64 r.1), .v (.int .i64 r.2)]
theorem zNd (a0 : List (Int × Int)) (a1 : Int) (a2 : List (Int × Int)) (v : Int × Int) (h : zgP a0 a1 a2 = some v) : (Option.bind (zeN a0 a1 a2) fun r1 => (cond (r1 != 0) (some [.v (.int .i64 0), .v (.int .i64 r1)]) (Option.bind (zeS a0 a2) fun r2 => (some [.v (.int .i64 r2), .v (.int .i64 0)])))) = some (zEw v) := by
 refine Eq.trans (b := Option.map zEw (zgP a0 a1 a2)) ?_ (by rw [h]; rfl)
 unfold zgP
 exact (zV fun _ => (zM (Option.map zEw) rfl (zV fun _ => rfl)))
noncomputable def zPK : List A → ze
 | [.lst (.st [(.i .i8), (.i .u16)]) a0, .v (.int .i64 a1), .lst (.st [(.i .i8), (.i .i16)]) a2] => ⟨(Int × Int), zgP a0 a1 a2, fun r => .tup [.v (.int .i64 r.1), .v (.int .i64 r.2)]⟩
 | _ => ze.fail
theorem zvM : zC Tryz.prog 26 zPK := by
 refine good zG4 zyy zEM zvK 3 Tryz.func26 fun rs => ?_
 unfold zPK
 split
 ·rename_i a0 a1 a2; intro v h; exact ⟨rfl, zEw v, rfl, (zFU a0 a1 a2 _).trans (zNd a0 a1 a2 v h)⟩
 ·intro v h; cases h
noncomputable def zrZ := zu Tryz.f24
noncomputable def zr0 : Ctx := ⟨TT, zr [(46, Xo), (67, zzb), (68, zlM), (69, zuc)], zw, zU⟩
def zlc : List (Nat × zE) := [(10, ([0, 2, 9, 10, 11, 12], [], []))]
def zmm : List ResultVar := [.tmp 6, .tmp 7]
noncomputable def zCp := Lq zr0 zlc zrZ zmm
theorem zF7 : zq Tryz.prog zr0 := zo tab mix ⟨⟨Tryz.call46, yn⟩, ⟨Tryz.call67, zhp⟩, ⟨Tryz.call68, za1⟩, ⟨Tryz.call69, U6⟩, trivial⟩
noncomputable def zo1 (x0 x1 : Int) (x2 : List (Int × Int)) (x3 : List Int) (x4 : List (Int × Int)) (x5 : List Int) : AS := ⟨[(0, .a (.sl 0)), (2, .a (.sl 1)), (9, .a (.sl 2)), (10, .a (.sl 3)), (11, .a (.v (.int .u16 x0))), (12, .a (.v (.int .i64 x1)))], [(0, some ⟨false, .arr (.st [(.i .i8), (.i .u16)]) x2⟩), (1, some ⟨false, .arr (.one (.i .i64)) x3⟩), (2, some ⟨true, .arr (.st [(.i .i8), (.i .i16)]) x4⟩), (3, some ⟨true, .arr (.one (.i .i64)) x5⟩)], 4⟩
abbrev zMp := ((List (Int × Int)) × Int)
noncomputable def zcA (r : (List (Int × Int)) × Int) : List A := [.lst (.st [(.i .i8), (.i .i16)]) r.1, .v (.int .i64 r.2)]
abbrev Vc := (Int × Int × (List (Int × Int)) × (List Int) × (List (Int × Int)) × (List Int))
abbrev zmk := zMp
section
variable {R R' : Type} {S : R → Prop} {r : R'} (E : zMp → Option R) (E' : zMp → Option R') (G10 : Vc → Option R) (G10' : Vc → Option R')
noncomputable def WU (x0 x1 : Int) (x2 : List (Int × Int)) (x3 : List Int) (x4 : List (Int × Int)) (x5 : List Int) : Option R := (cond (decide (x1 < (x3.length : Int))) (cond (inB x1 x3.length) (cond (!(zK (List.getD x3 (Int.toNat x1) 0) 0 (wrap .i64 ((x2.length : Int) - 1)))) (E ([], 4)) (cond (inB x1 x3.length) (cond (decide ((wrap .u64 (List.getD x3 (Int.toNat x1) 0)) < 0)) none (cond ((Int.tmod (yz .u16 x0 (wrap .u64 (List.getD x3 (Int.toNat x1) 0))) 2) == 1) (E ([], 4)) (cond (inB x1 x3.length) (cond (inB (List.getD x3 (Int.toNat x1) 0) x2.length) (cond ((zO .u16 (List.getD x2 (Int.toNat (List.getD x3 (Int.toNat x1) 0)) ((0, 0) : (Int × Int))).2 x0) != 0) (E ([], 4)) (cond (inB x1 x3.length) (Option.bind (WG x2 x4 x5 (List.getD x3 (Int.toNat x1) 0)) fun r2 => (cond (inB (List.getD x3 (Int.toNat x1) 0) x4.length) (cond (inB (List.getD x3 (Int.toNat x1) 0) (List.length (List.set x4 (Int.toNat (List.getD x3 (Int.toNat x1) 0)) (r2.1, r2.2)))) (Option.bind (zcg x2 (List.set x4 (Int.toNat (List.getD x3 (Int.toNat x1) 0)) (r2.1, r2.2)) (List.getD x3 (Int.toNat x1) 0)) fun r3 => (cond (inB (List.getD (List.set x4 (Int.toNat (List.getD x3 (Int.toNat x1) 0)) (r2.1, r2.2)) (Int.toNat (List.getD x3 (Int.toNat x1) 0)) ((0, 0) : (Int × Int))).1 x5.length) (cond (decide ((wrap .u64 (List.getD x3 (Int.toNat x1) 0)) < 0)) none (G10 ((bOr .u16 x0 (yl .u16 1 (wrap .u64 (List.getD x3 (Int.toNat x1) 0)))), (wrap .i64 (x1 + 1)), x2, x3, (List.set x4 (Int.toNat (List.getD x3 (Int.toNat x1) 0)) (r2.1, r2.2)), (List.set x5 (Int.toNat (List.getD (List.set x4 (Int.toNat (List.getD x3 (Int.toNat x1) 0)) (r2.1, r2.2)) (Int.toNat (List.getD x3 (Int.toNat x1) 0)) ((0, 0) : (Int × Int))).1) r3)))) none)) none) none)) none)) none) none))) none)) none) (E (x4, 0)))
theorem zr5 (x0 x1 : Int) (x2 : List (Int × Int)) (x3 : List Int) (x4 : List (Int × Int)) (x5 : List Int) (h : sem S (WU E G10 x0 x1 x2 x3 x4 x5)) (hE : zJ S r E E') (h10 : zJ S r G10 G10') : WU E' G10' x0 x1 x2 x3 x4 x5 = some r := by
 revert h
 unfold WU
 repeat' first | refine zy ?_ ?_ | refine zA fun _ => ?_ | exact zz | exact hE _ | exact h10 _ | refine zp (fun _ => ?_) (fun _ => ?_)
noncomputable def zkv (a0 : List (Int × Int)) (a1 : Int) (a2 : List Int) : Option R := (Option.bind (zhM a0 a1) fun r1 => (cond (r1 != 0) (E ([], r1)) (cond ((a2.length : Int) != (a0.length : Int)) (E ([], 4)) (cond (decide (0 ≤ (a0.length : Int)) && decide ((a0.length : Int) = (a0.length : Int)) && zW ((Int.toNat (a0.length : Int)) * 4)) (cond (decide (0 ≤ a1) && decide (a1 = a1) && zW ((Int.toNat a1) * 8)) (G10 (0, 0, a0, a2, (List.replicate (Int.toNat (a0.length : Int)) (((0, 0) : (Int × Int)) : (Int × Int))), (List.replicate (Int.toNat a1) (0 : Int)))) none) none))))
theorem zGD (a0 : List (Int × Int)) (a1 : Int) (a2 : List Int) (h : sem S (zkv E G10 a0 a1 a2)) (hE : zJ S r E E') (h10 : zJ S r G10 G10') : zkv E' G10' a0 a1 a2 = some r := by
 revert h
 unfold zkv
 repeat' first | refine zy ?_ ?_ | refine zA fun _ => ?_ | exact zz | exact hE _ | exact h10 _ | refine zp (fun _ => ?_) (fun _ => ?_)
end
noncomputable def zbi (r : List A) (x : Vc) : Option (List A) := zCp r 10 (zo1 x.1 x.2.1 x.2.2.1 x.2.2.2.1 x.2.2.2.2.1 x.2.2.2.2.2)
theorem zrU (x0 x1 : Int) (x2 : List (Int × Int)) (x3 : List Int) (x4 : List (Int × Int)) (x5 : List Int) (r : List A) (h : WU (fun v => some (zcA v)) (zbi r) x0 x1 x2 x3 x4 x5 = some r) : zCp r 10 (zo1 x0 x1 x2 x3 x4 x5) = some r :=
 zn h (by kernel_rfl)
noncomputable def XG (x0 x1 : Int) (x2 : List (Int × Int)) (x3 : List Int) (x4 : List (Int × Int)) (x5 : List Int) : Option (Vc ⊕ zmk) := WU (fun v => some (Sum.inr v)) (fun x => some (Sum.inl x)) x0 x1 x2 x3 x4 x5
noncomputable def zha (x : Vc) : Option zmk := zI (fun x => XG x.1 x.2.1 x.2.2.1 x.2.2.2.1 x.2.2.2.2.1 x.2.2.2.2.2) FU x
noncomputable def zot (r : List A) (x : Vc) : Prop := zbi r x = some r
noncomputable def zoV (r : List A) : zmk → Prop := fun v => r = zcA v
theorem zBn (r : List A) : ∀ x, sem (zoV r) (zha x) → zot r x :=
 fun x => zi (G := zot r) (E := zoV r) (step := fun x => XG x.1 x.2.1 x.2.2.1 x.2.2.2.1 x.2.2.2.2.1 x.2.2.2.2.2) (fun x h => zrU x.1 x.2.1 x.2.2.1 x.2.2.2.1 x.2.2.2.2.1 x.2.2.2.2.2 r (zr5 _ _ _ _ x.1 x.2.1 x.2.2.1 x.2.2.2.1 x.2.2.2.2.1 x.2.2.2.2.2 h (fun _ h => zb h fun q => zj q) (fun _ h => zb h fun q => q))) FU x
noncomputable def zkl (a0 : List (Int × Int)) (a1 : Int) (a2 : List Int) : Option ((List (Int × Int)) × Int) := zkv some zha a0 a1 a2
theorem zF3 (a0 : List (Int × Int)) (a1 : Int) (a2 : List Int) (r : List A) : Tq zr0 zlc zrZ zmm r [.lst (.st [(.i .i8), (.i .u16)]) a0, .v (.int .i64 a1), .lst (.one (.i .i64)) a2] = zkv (fun v => some (zcA v)) (zbi r) a0 a1 a2 := by kernel_rfl
theorem zRD (a0 : List (Int × Int)) (a1 : Int) (a2 : List Int) (v : (List (Int × Int)) × Int) (h : zkl a0 a1 a2 = some v) : zkv (fun v => some (zcA v)) (zbi (zcA v)) a0 a1 a2 = some (zcA v) :=
 zGD _ _ _ _ a0 a1 a2 (show sem (fun w => zcA v = zcA w) (zkl a0 a1 a2) from ⟨v, h, rfl⟩) (fun _ h => zb h fun q => zj q) (zBn (zcA v))
noncomputable def zLI : List A → ze
 | [.lst (.st [(.i .i8), (.i .u16)]) a0, .v (.int .i64 a1), .lst (.one (.i .i64)) a2] => ⟨((List (Int × Int)) × Int), zkl a0 a1 a2, fun r => .tup [.lst (.st [(.i .i8), (.i .i16)]) r.1, .v (.int .i64 r.2)]⟩
 | _ => ze.fail
theorem zyG : zC Tryz.prog 24 zLI := by
 refine good zF7 zlc zrZ zmm 3 Tryz.func24 fun rs => ?_
 unfold zLI
 split
 ·rename_i a0 a1 a2; intro v h; exact ⟨rfl, zcA v, rfl, (zF3 a0 a1 a2 _).trans (zRD a0 a1 a2 v h)⟩
 ·intro v h; cases h
noncomputable def zrc := zu Tryz.f27
noncomputable def zpS : Ctx := ⟨TT, zr [], zw, zU⟩
def zl9 : List (Nat × zE) := [(4, ([0, 1, 5], [], []))]
def znh : List ResultVar := [.tmp 4]
noncomputable def zfV := Lq zpS zl9 zrc znh
theorem zGX : zq Tryz.prog zpS := zo tab mix trivial
noncomputable def zaX (x0 : Int) (x1 x2 : List (Int × Int)) : AS := ⟨[(0, .a (.sl 0)), (1, .a (.sl 1)), (5, .a (.v (.int .i64 x0)))], [(0, some ⟨false, .arr (.st [(.i .i8), (.i .i16)]) x1⟩), (1, some ⟨false, .arr (.st [(.i .i8), (.i .i16)]) x2⟩)], 2⟩
noncomputable def zkG (r : Bool) : List A := [.v (.bool r)]
theorem zzN (x0 : Int) (x1 x2 : List (Int × Int)) (r : List A) (h : (cond (decide (x0 < (x1.length : Int))) (cond (inB x0 x1.length) (cond (inB x0 x2.length) (cond (!(((List.getD x1 (Int.toNat x0) ((0, 0) : (Int × Int))).1 == (List.getD x2 (Int.toNat x0) ((0, 0) : (Int × Int))).1) && (((List.getD x1 (Int.toNat x0) ((0, 0) : (Int × Int))).2 == (List.getD x2 (Int.toNat x0) ((0, 0) : (Int × Int))).2) && true))) (some [.v (.bool false)]) (zfV r 4 (zaX (wrap .i64 (x0 + 1)) x1 x2))) none) none) (some [.v (.bool true)])) = some r) : zfV r 4 (zaX x0 x1 x2) = some r :=
 zn h (by kernel_rfl)
noncomputable def wI (x0 : Int) (x1 x2 : List (Int × Int)) : Option ((Int × (List (Int × Int)) × (List (Int × Int))) ⊕ Bool) := (cond (decide (x0 < (x1.length : Int))) (cond (inB x0 x1.length) (cond (inB x0 x2.length) (cond (!(((List.getD x1 (Int.toNat x0) ((0, 0) : (Int × Int))).1 == (List.getD x2 (Int.toNat x0) ((0, 0) : (Int × Int))).1) && (((List.getD x1 (Int.toNat x0) ((0, 0) : (Int × Int))).2 == (List.getD x2 (Int.toNat x0) ((0, 0) : (Int × Int))).2) && true))) (some (Sum.inr false)) (some (Sum.inl ((wrap .i64 (x0 + 1)), x1, x2)))) none) none) (some (Sum.inr true)))
noncomputable def zd2 (x : Int × (List (Int × Int)) × (List (Int × Int))) : Option Bool := zI (fun x => wI x.1 x.2.1 x.2.2) FU x
noncomputable def zMT (r : List A) (x : Int × (List (Int × Int)) × (List (Int × Int))) : Prop := zfV r 4 (zaX x.1 x.2.1 x.2.2) = some r
noncomputable def zSp (r : List A) : Bool → Prop := fun v => r = zkG v
theorem zKT (r : List A) : ∀ x, sem (zSp r) (zd2 x) → zMT r x :=
 fun x => zi (step := fun x => wI x.1 x.2.1 x.2.2) (fun x h => by
  unfold wI at h
  exact zzN x.1 x.2.1 x.2.2 r ((za h (fun h => (za h (fun h => (za h (fun h => (za h (fun h => zb h fun q => zj q) (fun h => zb h fun q => q))) (fun h => zf h))) (fun h => zf h))) (fun h => zb h fun q => zj q)))) FU x
noncomputable def znr (a0 a1 : List (Int × Int)) : Option Bool := (cond ((a0.length : Int) != (a1.length : Int)) (some false) (zd2 (0, a0, a1)))
theorem zJV (a0 a1 : List (Int × Int)) (r : List A) : Tq zpS zl9 zrc znh r [.lst (.st [(.i .i8), (.i .i16)]) a0, .lst (.st [(.i .i8), (.i .i16)]) a1] = (cond ((a0.length : Int) != (a1.length : Int)) (some [.v (.bool false)]) (zfV r 4 (zaX 0 a0 a1))) := by kernel_rfl
theorem zQH (a0 a1 : List (Int × Int)) (v : Bool) (h : znr a0 a1 = some v) : (cond ((a0.length : Int) != (a1.length : Int)) (some [.v (.bool false)]) (zfV (zkG v) 4 (zaX 0 a0 a1))) = some (zkG v) := by
 replace h : sem (fun w => zkG v = zkG w) (znr a0 a1) := ⟨v, h, rfl⟩
 unfold znr at h
 exact (za h (fun h => zb h fun q => zj q) (fun h => zKT (zkG v) _ h))
noncomputable def zSm : List A → ze
 | [.lst (.st [(.i .i8), (.i .i16)]) a0, .lst (.st [(.i .i8), (.i .i16)]) a1] => ⟨Bool, znr a0 a1, fun r => .one (.v (.bool r))⟩
 | _ => ze.fail
theorem zy4 : zC Tryz.prog 27 zSm := by
 refine good zGX zl9 zrc znh 2 Tryz.func27 fun rs => ?_
 unfold zSm
 split
 ·rename_i a0 a1; intro v h; exact ⟨rfl, zkG v, rfl, (zJV a0 a1 _).trans (zQH a0 a1 v h)⟩
 ·intro v h; cases h
noncomputable def YG (a0 a1 a2 : Int) : Bool := (cond (zK (wrap .i64 a1) 0 (wrap .i64 (a0 - 1))) (zK (wrap .i64 a2) 0 1000) false)
end Go.RR
