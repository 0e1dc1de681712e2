/- Pictures: validity. -/
import Derived.Test.YtbmaolhjplapoaaGreatTb
import Derived.Test.YtbmaolhjplapoaaGreatRw
set_option linter.unusedVariables false
set_option linter.unusedSimpArgs false
set_option linter.unusedSectionVars false
set_option maxRecDepth 100000
namespace Go.RR
open Go Go.Proofs
open Go.IntKind (wrap)
noncomputable def zEp := zu Tryz.f54
noncomputable def zCQ : Ctx := ⟨TT, zr [], zw, zU⟩
def zyM : List (Nat × zE) := []
def zua : List ResultVar := [.tmp 6]
theorem zGG : zq Tryz.prog zCQ := zo tab mix trivial
noncomputable def yf (a0 a1 a2 : Int) : Bool := (cond (decide (a1 ≤ a0)) (decide (a0 ≤ a2)) false)
theorem zJb (a0 a1 a2 : Int) (r : List A) : Tq zCQ zyM zEp zua r [.v (.int .i64 a0), .v (.int .i64 a1), .v (.int .i64 a2)] = (cond (decide (a1 ≤ a0)) (some [.v (.bool (decide (a0 ≤ a2)))]) (some [.v (.bool false)])) := by kernel_rfl
noncomputable def zNt (r : Bool) : List A := [.v (.bool r)]
theorem zQn (a0 a1 a2 : Int) : (cond (decide (a1 ≤ a0)) (some [.v (.bool (decide (a0 ≤ a2)))]) (some [.v (.bool false)])) = some (zNt (yf a0 a1 a2)) := by
 unfold yf
 exact (zM (fun x => some (zNt x)) rfl rfl)
noncomputable def vy : List A → ze
 | [.v (.int .i64 a0), .v (.int .i64 a1), .v (.int .i64 a2)] => ⟨Bool, some (yf a0 a1 a2), fun r => .one (.v (.bool r))⟩
 | _ => ze.fail
theorem yP : zC Tryz.prog 54 vy := by
 refine good zGG zyM zEp zua 3 Tryz.func54 fun rs => ?_
 unfold vy
 split
 ·rename_i a0 a1 a2; intro v h; cases h; exact ⟨rfl, zNt (yf a0 a1 a2), rfl, (zJb a0 a1 a2 _).trans (zQn a0 a1 a2)⟩
 ·intro v h; cases h
noncomputable def zFc := zu Tryz.f75
noncomputable def zEc : Ctx := ⟨TT, zr [(54, vy)], zw, zU⟩
def zzw : List (Nat × zE) := []
def zz5 : List ResultVar := [.tmp 4]
theorem zLi : zq Tryz.prog zEc := zo tab mix ⟨⟨Tryz.call54, yP⟩, trivial⟩
noncomputable def vr (a0 a1 : Int) : Bool := (cond (yf a0 1 12) (yf a1 1 12) false)
theorem zJj (a0 a1 : Int) (r : List A) : Tq zEc zzw zFc zz5 r [.v (.int .i64 a0), .v (.int .i64 a1)] = (cond (yf a0 1 12) (some [.v (.bool (yf a1 1 12))]) (some [.v (.bool false)])) := by kernel_rfl
noncomputable def zN5 (r : Bool) : List A := [.v (.bool r)]
theorem zN2 (a0 a1 : Int) : (cond (yf a0 1 12) (some [.v (.bool (yf a1 1 12))]) (some [.v (.bool false)])) = some (zN5 (vr a0 a1)) := by
 unfold vr
 exact (zM (fun x => some (zN5 x)) rfl rfl)
noncomputable def zDL : List A → ze
 | [.v (.int .i64 a0), .v (.int .i64 a1)] => ⟨Bool, some (vr a0 a1), fun r => .one (.v (.bool r))⟩
 | _ => ze.fail
theorem zhh : zC Tryz.prog 75 zDL := by
 refine good zLi zzw zFc zz5 2 Tryz.func75 fun rs => ?_
 unfold zDL
 split
 ·rename_i a0 a1; intro v h; cases h; exact ⟨rfl, zN5 (vr a0 a1), rfl, (zJj a0 a1 _).trans (zN2 a0 a1)⟩
 ·intro v h; cases h
noncomputable def zD8 := zu Tryz.f84
noncomputable def zB3 : Ctx := ⟨TT, zr [(54, vy)], zw, zU⟩
def zwS : List (Nat × zE) := []
def zxH : List ResultVar := [.tmp 8]
theorem zKE : zq Tryz.prog zB3 := zo tab mix ⟨⟨Tryz.call54, yP⟩, trivial⟩
noncomputable def wd (a0 a1 a2 a3 : Int) : Bool := (cond (yf a0 0 (wrap .i64 ((wrap .i64 a2) - 1))) (yf a1 0 (wrap .i64 ((wrap .i64 a3) - 1))) false)
theorem zJY (a0 a1 a2 a3 : Int) (r : List A) : Tq zB3 zwS zD8 zxH r [.v (.int .i64 a0), .v (.int .i64 a1), .v (.int .i8 a2), .v (.int .i8 a3)] = (cond (yf a0 0 (wrap .i64 ((wrap .i64 a2) - 1))) (some [.v (.bool (yf a1 0 (wrap .i64 ((wrap .i64 a3) - 1))))]) (some [.v (.bool false)])) := by kernel_rfl
noncomputable def zO2 (r : Bool) : List A := [.v (.bool r)]
theorem zNL (a0 a1 a2 a3 : Int) : (cond (yf a0 0 (wrap .i64 ((wrap .i64 a2) - 1))) (some [.v (.bool (yf a1 0 (wrap .i64 ((wrap .i64 a3) - 1))))]) (some [.v (.bool false)])) = some (zO2 (wd a0 a1 a2 a3)) := by
 unfold wd
 exact (zM (fun x => some (zO2 x)) rfl rfl)
noncomputable def zpL : List A → ze
 | [.v (.int .i64 a0), .v (.int .i64 a1), .v (.int .i8 a2), .v (.int .i8 a3)] => ⟨Bool, some (wd a0 a1 a2 a3), fun r => .one (.v (.bool r))⟩
 | _ => ze.fail
theorem vG : zC Tryz.prog 84 zpL := by
 refine good zKE zwS zD8 zxH 4 Tryz.func84 fun rs => ?_
 unfold zpL
 split
 ·rename_i a0 a1 a2 a3; intro v h; cases h; exact ⟨rfl, zO2 (wd a0 a1 a2 a3), rfl, (zJY a0 a1 a2 a3 _).trans (zNL a0 a1 a2 a3)⟩
 ·intro v h; cases h
noncomputable def zCC := zu Tryz.f76
noncomputable def zDH : Ctx := ⟨TT, zr [(84, zpL)], zw, zU⟩
def zwa : List (Nat × zE) := []
def zvl : List ResultVar := [.tmp 6]
theorem zFy : zq Tryz.prog zDH := zo tab mix ⟨⟨Tryz.call84, vG⟩, trivial⟩
noncomputable def vn (a0 a1 : Int) (a2 : Nat → Int) (a3 a4 : Int) : Bool := (wd a3 a4 a0 a1)
theorem zGn (a0 a1 : Int) (a2 : Nat → Int) (a3 a4 : Int) (r : List A) : Tq zDH zwa zCC zvl r [.rc [.v (.int .i8 a0), .v (.int .i8 a1), .fa 144 .u8 a2], .v (.int .i64 a3), .v (.int .i64 a4)] = (some [.v (.bool (wd a3 a4 a0 a1))]) := by kernel_rfl
noncomputable def zT0 (r : Bool) : List A := [.v (.bool r)]
theorem zMd (a0 a1 : Int) (a2 : Nat → Int) (a3 a4 : Int) : (some [.v (.bool (wd a3 a4 a0 a1))]) = some (zT0 (vn a0 a1 a2 a3 a4)) := by
 unfold vn
 exact rfl
noncomputable def zCb : List A → ze
 | [.rc [.v (.int .i8 a0), .v (.int .i8 a1), .fa 144 .u8 a2], .v (.int .i64 a3), .v (.int .i64 a4)] => ⟨Bool, some (vn a0 a1 a2 a3 a4), fun r => .one (.v (.bool r))⟩
 | _ => ze.fail
theorem zhx : zC Tryz.prog 76 zCb := by
 refine good zFy zwa zCC zvl 3 Tryz.func76 fun rs => ?_
 unfold zCb
 split
 ·rename_i a0 a1 a2 a3 a4; intro v h; cases h; exact ⟨rfl, zT0 (vn a0 a1 a2 a3 a4), rfl, (zGn a0 a1 a2 a3 a4 _).trans (zMd a0 a1 a2 a3 a4)⟩
 ·intro v h; cases h
noncomputable def zE0 := zu Tryz.f58
noncomputable def zEs : Ctx := ⟨TT, zr [], zw, zU⟩
def zw4 : List (Nat × zE) := []
def zuH : List ResultVar := [.tmp 4]
theorem zKw : zq Tryz.prog zEs := zo tab mix trivial
noncomputable def ZG (a0 a1 : Bool) : Int := (cond (!a0) 1 (cond (!a1) 2 0))
theorem zJr (a0 a1 : Bool) (r : List A) : Tq zEs zw4 zE0 zuH r [.v (.bool a0), .v (.bool a1)] = (cond (!a0) (some [.v (.int .i64 1)]) (cond (!a1) (some [.v (.int .i64 2)]) (some [.v (.int .i64 0)]))) := by kernel_rfl
noncomputable def zBY (r : Int) : List A := [.v (.int .i64 r)]
theorem zOr (a0 a1 : Bool) : (cond (!a0) (some [.v (.int .i64 1)]) (cond (!a1) (some [.v (.int .i64 2)]) (some [.v (.int .i64 0)]))) = some (zBY (ZG a0 a1)) := by
 unfold ZG
 exact (zM (fun x => some (zBY x)) rfl (zM (fun x => some (zBY x)) rfl rfl))
noncomputable def zxS : List A → ze
 | [.v (.bool a0), .v (.bool a1)] => ⟨Int, some (ZG a0 a1), fun r => .one (.v (.int .i64 r))⟩
 | _ => ze.fail
theorem zan : zC Tryz.prog 58 zxS := by
 refine good zKw zw4 zE0 zuH 2 Tryz.func58 fun rs => ?_
 unfold zxS
 split
 ·rename_i a0 a1; intro v h; cases h; exact ⟨rfl, zBY (ZG a0 a1), rfl, (zJr a0 a1 _).trans (zOr a0 a1)⟩
 ·intro v h; cases h
noncomputable def zBC := zu Tryz.f46
noncomputable def zCY : Ctx := ⟨TT, zr [], zw, zU⟩
def zwG : List (Nat × zE) := []
def zz9 : List ResultVar := [.tmp 6]
theorem zFq : zq Tryz.prog zCY := zo tab mix trivial
noncomputable def zK (a0 a1 a2 : Int) : Bool := (cond (decide (a0 ≥ a1)) (decide (a0 ≤ a2)) false)
theorem zJa (a0 a1 a2 : Int) (r : List A) : Tq zCY zwG zBC zz9 r [.v (.int .i64 a0), .v (.int .i64 a1), .v (.int .i64 a2)] = (cond (decide (a0 ≥ a1)) (some [.v (.bool (decide (a0 ≤ a2)))]) (some [.v (.bool false)])) := by kernel_rfl
noncomputable def zMV (r : Bool) : List A := [.v (.bool r)]
theorem zRw (a0 a1 a2 : Int) : (cond (decide (a0 ≥ a1)) (some [.v (.bool (decide (a0 ≤ a2)))]) (some [.v (.bool false)])) = some (zMV (zK a0 a1 a2)) := by
 unfold zK
 exact (zM (fun x => some (zMV x)) rfl rfl)
noncomputable def Xo : List A → ze
 | [.v (.int .i64 a0), .v (.int .i64 a1), .v (.int .i64 a2)] => ⟨Bool, some (zK a0 a1 a2), fun r => .one (.v (.bool r))⟩
 | _ => ze.fail
theorem yn : zC Tryz.prog 46 Xo := by
 refine good zFq zwG zBC zz9 3 Tryz.func46 fun rs => ?_
 unfold Xo
 split
 ·rename_i a0 a1 a2; intro v h; cases h; exact ⟨rfl, zMV (zK a0 a1 a2), rfl, (zJa a0 a1 a2 _).trans (zRw a0 a1 a2)⟩
 ·intro v h; cases h
noncomputable def zDe := zu Tryz.f48
noncomputable def zDS : Ctx := ⟨TT, zr [(46, Xo)], zw, zU⟩
def zsQ : List (Nat × zE) := []
def zwi : List ResultVar := [.tmp 4]
theorem zGs : zq Tryz.prog zDS := zo tab mix ⟨⟨Tryz.call46, yn⟩, trivial⟩
noncomputable def YP (a0 a1 : Int) (a2 : Nat → Int) (a3 : Int) : Bool := (cond (zK a3 0 143) (cond (decide ((Int.tmod a3 12) < (wrap .i64 a0))) (decide ((wrap .i64 (Int.tdiv a3 12)) < (wrap .i64 a1))) false) false)
theorem zFs (a0 a1 : Int) (a2 : Nat → Int) (a3 : Int) (r : List A) : Tq zDS zsQ zDe zwi r [.ref (.rc [.v (.int .i8 a0), .v (.int .i8 a1), .fa 144 .u8 a2]), .v (.int .i64 a3)] = (cond (zK a3 0 143) (cond (decide ((Int.tmod a3 12) < (wrap .i64 a0))) (some [.v (.bool (decide ((wrap .i64 (Int.tdiv a3 12)) < (wrap .i64 a1))))]) (some [.v (.bool false)])) (some [.v (.bool false)])) := by kernel_rfl
noncomputable def zEl (r : Bool) : List A := [.v (.bool r)]
theorem zSl (a0 a1 : Int) (a2 : Nat → Int) (a3 : Int) : (cond (zK a3 0 143) (cond (decide ((Int.tmod a3 12) < (wrap .i64 a0))) (some [.v (.bool (decide ((wrap .i64 (Int.tdiv a3 12)) < (wrap .i64 a1))))]) (some [.v (.bool false)])) (some [.v (.bool false)])) = some (zEl (YP a0 a1 a2 a3)) := by
 unfold YP
 exact (zM (fun x => some (zEl x)) (zM (fun x => some (zEl x)) rfl rfl) rfl)
noncomputable def zlU : List A → ze
 | [.ref (.rc [.v (.int .i8 a0), .v (.int .i8 a1), .fa 144 .u8 a2]), .v (.int .i64 a3)] => ⟨Bool, some (YP a0 a1 a2 a3), fun r => .one (.v (.bool r))⟩
 | _ => ze.fail
theorem vg : zC Tryz.prog 48 zlU := by
 refine good zGs zsQ zDe zwi 2 Tryz.func48 fun rs => ?_
 unfold zlU
 split
 ·rename_i a0 a1 a2 a3; intro v h; cases h; exact ⟨rfl, zEl (YP a0 a1 a2 a3), rfl, (zFs a0 a1 a2 a3 _).trans (zSl a0 a1 a2 a3)⟩
 ·intro v h; cases h
noncomputable def p47 (w h : Int) (f : Nat → Int) (j : Nat) : Bool := !(decide (f j ≥ 16)) && (YP w h f j || !(f j != 0))
noncomputable def zsb := zu Tryz.f33
noncomputable def zqR : Ctx := ⟨TT, zr [(46, Xo), (48, zlU)], zw, zU⟩
def znM : List (Nat × zE) := [(4, ([0, 3], [], []))]
def zk3 : List ResultVar := [.tmp 2]
noncomputable def zbF := Lq zqR znM zsb zk3
theorem zKd : zq Tryz.prog zqR := zo tab mix ⟨⟨Tryz.call46, yn⟩, ⟨Tryz.call48, vg⟩, trivial⟩
noncomputable def VQ (x0 x1 x2 : Int) (x3 : Nat → Int) : AS := ⟨[(0, .a (.ptr 0 [] (0))), (3, .a (.v (.int .i64 x0)))], [(0, some ⟨false, .box (.rc [.v (.int .i8 x1), .v (.int .i8 x2), .fa 144 .u8 x3])⟩)], 1⟩
theorem zhG (x0 x1 x2 : Int) (x3 : Nat → Int) (r : List A) (h : (cond (decide (x0 < 144)) (cond (inB x0 144) (cond (decide ((x3 (Int.toNat x0)) ≥ 16)) (some [.v (.bool false)]) (cond (!(YP x1 x2 x3 x0)) (cond (inB x0 144) (cond ((x3 (Int.toNat x0)) != 0) (some [.v (.bool false)]) (zbF r 4 (VQ (wrap .i64 (x0 + 1)) x1 x2 x3))) none) (zbF r 4 (VQ (wrap .i64 (x0 + 1)) x1 x2 x3)))) none) (some [.v (.bool true)])) = some r) : zbF r 4 (VQ x0 x1 x2 x3) = some r :=
 zn h (by kernel_rfl)
noncomputable def Vk (a0 a1 : Int) (a2 : Nat → Int) : Bool := zK (wrap .i64 a0) 1 12 && (zK (wrap .i64 a1) 1 12 && zbW (p47 a0 a1 a2) 0 144)
theorem zHt (a0 a1 : Int) (a2 : Nat → Int) (r : List A) : Tq zqR znM zsb zk3 r [.ref (.rc [.v (.int .i8 a0), .v (.int .i8 a1), .fa 144 .u8 a2])] = (cond (!(zK (wrap .i64 a0) 1 12)) (some [.v (.bool false)]) (cond (!(zK (wrap .i64 a1) 1 12)) (some [.v (.bool false)]) (zbF r 4 (VQ 0 a0 a1 a2)))) := by kernel_rfl
noncomputable def zy2 (r : Bool) : List A := [.v (.bool r)]
theorem zml (w h : Int) (f : Nat → Int) : ∀ (k i : Nat), i + k = 144 → zbF (zy2 (zbW (p47 w h f) i k)) 4 (VQ i w h f) = some (zy2 (zbW (p47 w h f) i k))
 | 0, i, hi => by
  obtain rfl : i = 144 := hi
  apply zhG
  rw [show decide (((144 : Nat) : Int) < 144) = false from rfl, cond_false]
  rfl
 | k + 1, i, hik => by
  have hi : i < 144 := by omega
  have ih := zml w h f k (i + 1) (by omega)
  apply zhG
  rw [show decide ((i : Int) < 144) = true from zD (n := 144) hi, zg hi, zH (by omega), zd]
  simp only [cond_true, zbW, p47]
  cases h1 : decide (f i ≥ 16) <;> cases h2 : YP w h f i <;> cases h3 : (f i != 0) <;> first | rfl | exact ih
theorem zRk (a0 a1 : Int) (a2 : Nat → Int) : (cond (!(zK (wrap .i64 a0) 1 12)) (some [.v (.bool false)]) (cond (!(zK (wrap .i64 a1) 1 12)) (some [.v (.bool false)]) (zbF (zy2 (Vk a0 a1 a2)) 4 (VQ 0 a0 a1 a2)))) = some (zy2 (Vk a0 a1 a2)) := by
 have h := zml a0 a1 a2 144 0 rfl
 unfold Vk
 cases zK (wrap .i64 a0) 1 12 <;> cases zK (wrap .i64 a1) 1 12 <;> first | rfl | exact h
noncomputable def zM9 : List A → ze
 | [.ref (.rc [.v (.int .i8 a0), .v (.int .i8 a1), .fa 144 .u8 a2])] => ⟨Bool, some (Vk a0 a1 a2), fun r => .one (.v (.bool r))⟩
 | _ => ze.fail
theorem zyp : zC Tryz.prog 33 zM9 := by
 refine good zKd znM zsb zk3 1 Tryz.func33 fun rs => ?_
 unfold zM9
 split
 ·rename_i a0 a1 a2; intro v h; cases h; exact ⟨rfl, zy2 (Vk a0 a1 a2), rfl, (zHt a0 a1 a2 _).trans (zRk a0 a1 a2)⟩
 ·intro v h; cases h
noncomputable def p53 (w h : Int) (f : Nat → Int) (j : Nat) : Bool := (vn w h f (Int.tmod j 12) (wrap .i64 (Int.tdiv j 12)) || !(f j != 0)) && !(decide (f j ≥ 16))
noncomputable def zrY := zu Tryz.f31
noncomputable def zq3 : Ctx := ⟨TT, zr [(75, zDL), (76, zCb)], zw, zU⟩
def zls : List (Nat × zE) := [(4, ([1, 14, 15], [], []))]
def zm1 : List ResultVar := [.tmp 2]
noncomputable def za8 := Lq zq3 zls zrY zm1
theorem zGh : zq Tryz.prog zq3 := zo tab mix ⟨⟨Tryz.call75, zhh⟩, ⟨Tryz.call76, zhx⟩, trivial⟩
noncomputable def VT (x0 : Nat → Int) (x1 x2 x3 : Int) (x4 : Nat → Int) : AS := ⟨[(1, .a (.ptr 0 [] (0))), (14, .a (.fa 144 .u8 x0)), (15, .a (.v (.int .i64 x1)))], [(0, some ⟨true, .box (.rc [.v (.int .i8 x2), .v (.int .i8 x3), .fa 144 .u8 x4])⟩)], 1⟩
theorem zhN (x0 : Nat → Int) (x1 x2 x3 : Int) (x4 : Nat → Int) (r : List A) (h : (cond (decide (x1 < 144)) (cond (inB x1 144) (cond (!(vn x2 x3 x4 (Int.tmod x1 12) (wrap .i64 (Int.tdiv x1 12)))) (cond ((x0 (Int.toNat x1)) != 0) (some [.v (.bool false)]) (cond (decide ((x0 (Int.toNat x1)) ≥ 16)) (some [.v (.bool false)]) (za8 r 4 (VT x0 (wrap .i64 (x1 + 1)) x2 x3 x4)))) (cond (decide ((x0 (Int.toNat x1)) ≥ 16)) (some [.v (.bool false)]) (za8 r 4 (VT x0 (wrap .i64 (x1 + 1)) x2 x3 x4)))) none) (some [.v (.bool true)])) = some r) : za8 r 4 (VT x0 x1 x2 x3 x4) = some r :=
 zn h (by kernel_rfl)
noncomputable def Vx (a0 a1 : Int) (a2 : Nat → Int) : Bool := vr (wrap .i64 a0) (wrap .i64 a1) && zbW (p53 a0 a1 a2) 0 144
theorem zHb (a0 a1 : Int) (a2 : Nat → Int) (r : List A) : Tq zq3 zls zrY zm1 r [.rc [.v (.int .i8 a0), .v (.int .i8 a1), .fa 144 .u8 a2]] = (cond (!(vr (wrap .i64 a0) (wrap .i64 a1))) (some [.v (.bool false)]) (za8 r 4 (VT a2 0 a0 a1 a2))) := by kernel_rfl
noncomputable def zwM (r : Bool) : List A := [.v (.bool r)]
theorem zlt (w h : Int) (f : Nat → Int) : ∀ (k i : Nat), i + k = 144 → za8 (zwM (zbW (p53 w h f) i k)) 4 (VT f i w h f) = some (zwM (zbW (p53 w h f) i k))
 | 0, i, hi => by
  obtain rfl : i = 144 := hi
  apply zhN
  rw [show decide (((144 : Nat) : Int) < 144) = false from rfl, cond_false]
  rfl
 | k + 1, i, hik => by
  have hi : i < 144 := by omega
  have ih := zlt w h f k (i + 1) (by omega)
  apply zhN
  rw [show decide ((i : Int) < 144) = true from zD (n := 144) hi, zg hi, zH (by omega), zd]
  simp only [cond_true, zbW, p53]
  cases h1 : decide (f i ≥ 16) <;> cases h2 : vn w h f (Int.tmod i 12) (wrap .i64 (Int.tdiv i 12)) <;> cases h3 : (f i != 0) <;> first | rfl | exact ih
theorem zOu (a0 a1 : Int) (a2 : Nat → Int) : (cond (!(vr (wrap .i64 a0) (wrap .i64 a1))) (some [.v (.bool false)]) (za8 (zwM (Vx a0 a1 a2)) 4 (VT a2 0 a0 a1 a2))) = some (zwM (Vx a0 a1 a2)) := by
 have h := zlt a0 a1 a2 144 0 rfl
 unfold Vx
 cases vr (wrap .i64 a0) (wrap .i64 a1) <;> first | rfl | exact h
noncomputable def zDP : List A → ze
 | [.rc [.v (.int .i8 a0), .v (.int .i8 a1), .fa 144 .u8 a2]] => ⟨Bool, some (Vx a0 a1 a2), fun r => .one (.v (.bool r))⟩
 | _ => ze.fail
theorem zh1 : zC Tryz.prog 31 zDP := by
 refine good zGh zls zrY zm1 1 Tryz.func31 fun rs => ?_
 unfold zDP
 split
 ·rename_i a0 a1 a2; intro v h; cases h; exact ⟨rfl, zwM (Vx a0 a1 a2), rfl, (zHb a0 a1 a2 _).trans (zOu a0 a1 a2)⟩
 ·intro v h; cases h
end Go.RR
