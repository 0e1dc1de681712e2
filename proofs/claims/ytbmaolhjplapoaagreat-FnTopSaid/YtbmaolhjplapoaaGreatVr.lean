/- Rows: lengths, even ones. -/
import Derived.Test.YtbmaolhjplapoaaGreatVa
set_option linter.unusedVariables false
set_option linter.unusedSimpArgs false
set_option linter.unusedSectionVars false
set_option maxRecDepth 100000
namespace Go.RR
open Go Go.Proofs
open Go.IntKind (wrap)
noncomputable def zBW := zu Tryz.f93
noncomputable def zDB : Ctx := ⟨TT, zr [(46, Xo)], zw, zU⟩
def ztE : List (Nat × zE) := []
def zs3 : List ResultVar := [.tmp 2]
theorem zJD : zq Tryz.prog zDB := zo tab mix ⟨⟨Tryz.call46, yn⟩, trivial⟩
noncomputable def Ve (a0 : Int) : Bool := (zK a0 1 200)
theorem zIl (a0 : Int) (r : List A) : Tq zDB ztE zBW zs3 r [.v (.int .i64 a0)] = (some [.v (.bool (zK a0 1 200))]) := by kernel_rfl
noncomputable def zTN (r : Bool) : List A := [.v (.bool r)]
theorem zMb (a0 : Int) : (some [.v (.bool (zK a0 1 200))]) = some (zTN (Ve a0)) := by
 unfold Ve
 exact rfl
noncomputable def zDf : List A → ze
 | [.v (.int .i64 a0)] => ⟨Bool, some (Ve a0), fun r => .one (.v (.bool r))⟩
 | _ => ze.fail
theorem zhb : zC Tryz.prog 93 zDf := by
 refine good zJD ztE zBW zs3 1 Tryz.func93 fun rs => ?_
 unfold zDf
 split
 ·rename_i a0; intro v h; cases h; exact ⟨rfl, zTN (Ve a0), rfl, (zIl a0 _).trans (zMb a0)⟩
 ·intro v h; cases h
noncomputable def zqe := zu Tryz.f91
noncomputable def zq1 : Ctx := ⟨TT, zr [(46, Xo), (93, zDf)], zw, zU⟩
def ziQ : List (Nat × zE) := [(4, ([0, 3], [], []))]
def znJ : List ResultVar := [.tmp 2]
noncomputable def zeG := Lq zq1 ziQ zqe znJ
theorem zFu : zq Tryz.prog zq1 := zo tab mix ⟨⟨Tryz.call46, yn⟩, ⟨Tryz.call93, zhb⟩, trivial⟩
noncomputable def UC (x0 : Int) (x1 : List Int) : AS := ⟨[(0, .a (.sl 0)), (3, .a (.v (.int .i64 x0)))], [(0, some ⟨false, .arr (.one (.i .i16)) x1⟩)], 1⟩
noncomputable def zne (r : Bool) : List A := [.v (.bool r)]
theorem zyA (x0 : Int) (x1 : List Int) (r : List A) (h : (cond (decide (x0 < (x1.length : Int))) (cond (inB x0 x1.length) (cond (!(Ve (wrap .i64 (List.getD x1 (Int.toNat x0) 0)))) (some [.v (.bool false)]) (zeG r 4 (UC (wrap .i64 (x0 + 1)) x1))) none) (some [.v (.bool true)])) = some r) : zeG r 4 (UC x0 x1) = some r :=
 zn h (by kernel_rfl)
noncomputable def wg (x0 : Int) (x1 : List Int) : Option ((Int × (List Int)) ⊕ Bool) := (cond (decide (x0 < (x1.length : Int))) (cond (inB x0 x1.length) (cond (!(Ve (wrap .i64 (List.getD x1 (Int.toNat x0) 0)))) (some (Sum.inr false)) (some (Sum.inl ((wrap .i64 (x0 + 1)), x1)))) none) (some (Sum.inr true)))
noncomputable def uc (x : Int × (List Int)) : Option Bool := zI (fun x => wg x.1 x.2) FU x
noncomputable def zPE (r : List A) (x : Int × (List Int)) : Prop := zeG r 4 (UC x.1 x.2) = some r
noncomputable def zMZ (r : List A) : Bool → Prop := fun v => r = zne v
theorem zJ2 (r : List A) : ∀ x, sem (zMZ r) (uc x) → zPE r x :=
 fun x => zi (step := fun x => wg x.1 x.2) (fun x h => by
  unfold wg at h
  exact zyA x.1 x.2 r ((za h (fun h => (za h (fun h => (za h (fun h => zb h fun q => zj q) (fun h => zb h fun q => q))) (fun h => zf h))) (fun h => zb h fun q => zj q)))) FU x
noncomputable def zcs (a0 : List Int) : Option Bool := (cond (!(zK (a0.length : Int) 1 60)) (some false) (uc (0, a0)))
theorem zFH (a0 : List Int) (r : List A) : Tq zq1 ziQ zqe znJ r [.lst (.one (.i .i16)) a0] = (cond (!(zK (a0.length : Int) 1 60)) (some [.v (.bool false)]) (zeG r 4 (UC 0 a0))) := by kernel_rfl
theorem zNh (a0 : List Int) (v : Bool) (h : zcs a0 = some v) : (cond (!(zK (a0.length : Int) 1 60)) (some [.v (.bool false)]) (zeG (zne v) 4 (UC 0 a0))) = some (zne v) := by
 replace h : sem (fun w => zne v = zne w) (zcs a0) := ⟨v, h, rfl⟩
 unfold zcs at h
 exact (za h (fun h => zb h fun q => zj q) (fun h => zJ2 (zne v) _ h))
noncomputable def zRZ : List A → ze
 | [.lst (.one (.i .i16)) a0] => ⟨Bool, zcs a0, fun r => .one (.v (.bool r))⟩
 | _ => ze.fail
theorem zxw : zC Tryz.prog 91 zRZ := by
 refine good zFu ziQ zqe znJ 1 Tryz.func91 fun rs => ?_
 unfold zRZ
 split
 ·rename_i a0; intro v h; exact ⟨rfl, zne v, rfl, (zFH a0 _).trans (zNh a0 v h)⟩
 ·intro v h; cases h
noncomputable def zCB := zu Tryz.f92
noncomputable def zCG : Ctx := ⟨TT, zr [(46, Xo)], zw, zU⟩
def zxB : List (Nat × zE) := []
def zuh : List ResultVar := [.tmp 2]
theorem zFX : zq Tryz.prog zCG := zo tab mix ⟨⟨Tryz.call46, yn⟩, trivial⟩
noncomputable def Ua (a0 : Int) : Bool := (zK a0 0 200)
theorem zJG (a0 : Int) (r : List A) : Tq zCG zxB zCB zuh r [.v (.int .i64 a0)] = (some [.v (.bool (zK a0 0 200))]) := by kernel_rfl
noncomputable def zTz (r : Bool) : List A := [.v (.bool r)]
theorem zQL (a0 : Int) : (some [.v (.bool (zK a0 0 200))]) = some (zTz (Ua a0)) := by
 unfold Ua
 exact rfl
noncomputable def zDZ : List A → ze
 | [.v (.int .i64 a0)] => ⟨Bool, some (Ua a0), fun r => .one (.v (.bool r))⟩
 | _ => ze.fail
theorem zho : zC Tryz.prog 92 zDZ := by
 refine good zFX zxB zCB zuh 1 Tryz.func92 fun rs => ?_
 unfold zDZ
 split
 ·rename_i a0; intro v h; cases h; exact ⟨rfl, zTz (Ua a0), rfl, (zJG a0 _).trans (zQL a0)⟩
 ·intro v h; cases h
noncomputable def zE8 := zu Tryz.f50
noncomputable def zCc : Ctx := ⟨TT, zr [(91, zRZ), (92, zDZ)], zw, zU⟩
def zzP : List (Nat × zE) := []
def zsY : List ResultVar := [.tmp 4]
theorem zH5 : zq Tryz.prog zCc := zo tab mix ⟨⟨Tryz.call91, zxw⟩, ⟨Tryz.call92, zho⟩, trivial⟩
noncomputable def ze7 (a0 : List Int) (a1 : Int) : Option Int := (Option.bind (zcs a0) fun r1 => (cond (!r1) (some 1) (cond (!(Ua a1)) (some 2) (some 0))))
theorem zHX (a0 : List Int) (a1 : Int) (r : List A) : Tq zCc zzP zE8 zsY r [.lst (.one (.i .i16)) a0, .v (.int .i64 a1)] = (Option.bind (zcs a0) fun r1 => (cond (!r1) (some [.v (.int .i64 1)]) (cond (!(Ua a1)) (some [.v (.int .i64 2)]) (some [.v (.int .i64 0)])))) := by kernel_rfl
noncomputable def zwc (r : Int) : List A := [.v (.int .i64 r)]
theorem zNw (a0 : List Int) (a1 v : Int) (h : ze7 a0 a1 = some v) : (Option.bind (zcs a0) fun r1 => (cond (!r1) (some [.v (.int .i64 1)]) (cond (!(Ua a1)) (some [.v (.int .i64 2)]) (some [.v (.int .i64 0)])))) = some (zwc v) := by
 refine Eq.trans (b := Option.map zwc (ze7 a0 a1)) ?_ (by rw [h]; rfl)
 unfold ze7
 exact (zV fun _ => (zM (Option.map zwc) rfl (zM (Option.map zwc) rfl rfl)))
noncomputable def zQ3 : List A → ze
 | [.lst (.one (.i .i16)) a0, .v (.int .i64 a1)] => ⟨Int, ze7 a0 a1, fun r => .one (.v (.int .i64 r))⟩
 | _ => ze.fail
theorem zvv : zC Tryz.prog 50 zQ3 := by
 refine good zH5 zzP zE8 zsY 2 Tryz.func50 fun rs => ?_
 unfold zQ3
 split
 ·rename_i a0 a1; intro v h; exact ⟨rfl, zwc v, rfl, (zHX a0 a1 _).trans (zNw a0 a1 v h)⟩
 ·intro v h; cases h
noncomputable def zsr := zu Tryz.f51
noncomputable def zse : Ctx := ⟨TT, zr [], zw, zU⟩
def zld : List (Nat × zE) := [(3, ([0, 5, 6], [], []))]
def zjP : List ResultVar := [.tmp 4]
noncomputable def zem := Lq zse zld zsr zjP
theorem zFw : zq Tryz.prog zse := zo tab mix trivial
noncomputable def U1 (x0 x1 : Int) (x2 : List Int) : AS := ⟨[(0, .a (.sl 0)), (5, .a (.v (.int .i64 x0))), (6, .a (.v (.int .i64 x1)))], [(0, some ⟨false, .arr (.one (.i .i16)) x2⟩)], 1⟩
noncomputable def zjM (r : Int) : List A := [.v (.int .i64 r)]
theorem zuT (x0 x1 : Int) (x2 : List Int) (r : List A) (h : (cond (decide (x1 < (x2.length : Int))) (cond (inB x1 x2.length) (zem r 3 (U1 (wrap .i64 (x0 + (wrap .i64 (List.getD x2 (Int.toNat x1) 0)))) (wrap .i64 (x1 + 1)) x2)) none) (some [.v (.int .i64 x0)])) = some r) : zem r 3 (U1 x0 x1 x2) = some r :=
 zn h (by kernel_rfl)
noncomputable def wK (x0 x1 : Int) (x2 : List Int) : Option ((Int × Int × (List Int)) ⊕ Int) := (cond (decide (x1 < (x2.length : Int))) (cond (inB x1 x2.length) (some (Sum.inl ((wrap .i64 (x0 + (wrap .i64 (List.getD x2 (Int.toNat x1) 0)))), (wrap .i64 (x1 + 1)), x2))) none) (some (Sum.inr x0)))
noncomputable def zdw (x : Int × Int × (List Int)) : Option Int := zI (fun x => wK x.1 x.2.1 x.2.2) FU x
noncomputable def zMt (r : List A) (x : Int × Int × (List Int)) : Prop := zem r 3 (U1 x.1 x.2.1 x.2.2) = some r
noncomputable def zPC (r : List A) : Int → Prop := fun v => r = zjM v
theorem zIG (r : List A) : ∀ x, sem (zPC r) (zdw x) → zMt r x :=
 fun x => zi (step := fun x => wK x.1 x.2.1 x.2.2) (fun x h => by
  unfold wK at h
  exact zuT x.1 x.2.1 x.2.2 r ((za h (fun h => (za h (fun h => zb h fun q => q) (fun h => zf h))) (fun h => zb h fun q => zj q)))) FU x
noncomputable def zej (a0 : List Int) (a1 : Int) : Option Int := (zdw ((wrap .i64 (a1 * (wrap .i64 ((a0.length : Int) - 1)))), 0, a0))
theorem zG0 (a0 : List Int) (a1 : Int) (r : List A) : Tq zse zld zsr zjP r [.lst (.one (.i .i16)) a0, .v (.int .i64 a1)] = (zem r 3 (U1 (wrap .i64 (a1 * (wrap .i64 ((a0.length : Int) - 1)))) 0 a0)) := by kernel_rfl
theorem zSc (a0 : List Int) (a1 v : Int) (h : zej a0 a1 = some v) : (zem (zjM v) 3 (U1 (wrap .i64 (a1 * (wrap .i64 ((a0.length : Int) - 1)))) 0 a0)) = some (zjM v) := by
 replace h : sem (fun w => zjM v = zjM w) (zej a0 a1) := ⟨v, h, rfl⟩
 unfold zej at h
 exact zIG (zjM v) _ h
noncomputable def zQZ : List A → ze
 | [.lst (.one (.i .i16)) a0, .v (.int .i64 a1)] => ⟨Int, zej a0 a1, fun r => .one (.v (.int .i64 r))⟩
 | _ => ze.fail
theorem zuF : zC Tryz.prog 51 zQZ := by
 refine good zFw zld zsr zjP 2 Tryz.func51 fun rs => ?_
 unfold zQZ
 split
 ·rename_i a0 a1; intro v h; exact ⟨rfl, zjM v, rfl, (zG0 a0 a1 _).trans (zSc a0 a1 v h)⟩
 ·intro v h; cases h
noncomputable def zBH := zu Tryz.f16
noncomputable def zEO : Ctx := ⟨TT, zr [(50, zQ3), (51, zQZ)], zw, zU⟩
def zx1 : List (Nat × zE) := []
def zxW : List ResultVar := [.tmp 4, .tmp 5]
theorem zKY : zq Tryz.prog zEO := zo tab mix ⟨⟨Tryz.call50, zvv⟩, ⟨Tryz.call51, zuF⟩, trivial⟩
noncomputable def zm5 (a0 : List Int) (a1 : Int) : Option (Int × Int) := (Option.bind (ze7 a0 a1) fun r1 => (cond (r1 != 0) (some (0, r1)) (Option.bind (zej a0 a1) fun r2 => (some (r2, 0)))))
theorem zIR (a0 : List Int) (a1 : Int) (r : List A) : Tq zEO zx1 zBH zxW r [.lst (.one (.i .i16)) a0, .v (.int .i64 a1)] = (Option.bind (ze7 a0 a1) fun r1 => (cond (r1 != 0) (some [.v (.int .i64 0), .v (.int .i64 r1)]) (Option.bind (zej a0 a1) fun r2 => (some [.v (.int .i64 r2), .v (.int .i64 0)])))) := by kernel_rfl
noncomputable def zEq (r : Int × Int) : List A := [.v (.int .i64 r.1), .v (.int .i64 r.2)]
theorem zOP (a0 : List Int) (a1 : Int) (v : Int × Int) (h : zm5 a0 a1 = some v) : (Option.bind (ze7 a0 a1) fun r1 => (cond (r1 != 0) (some [.v (.int .i64 0), .v (.int .i64 r1)]) (Option.bind (zej a0 a1) fun r2 => (some [.v (.int .i64 r2), .v (.int .i64 0)])))) = some (zEq v) := by
 refine Eq.trans (b := Option.map zEq (zm5 a0 a1)) ?_ (by rw [h]; rfl)
 unfold zm5
 exact (zV fun _ => (zM (Option.map zEq) rfl (zV fun _ => rfl)))
noncomputable def zOU : List A → ze
 | [.lst (.one (.i .i16)) a0, .v (.int .i64 a1)] => ⟨(Int × Int), zm5 a0 a1, fun r => .tup [.v (.int .i64 r.1), .v (.int .i64 r.2)]⟩
 | _ => ze.fail
theorem zwU : zC Tryz.prog 16 zOU := by
 refine good zKY zx1 zBH zxW 2 Tryz.func16 fun rs => ?_
 unfold zOU
 split
 ·rename_i a0 a1; intro v h; exact ⟨rfl, zEq v, rfl, (zIR a0 a1 _).trans (zOP a0 a1 v h)⟩
 ·intro v h; cases h
noncomputable def zE2 := zu Tryz.f126
noncomputable def zCw : Ctx := ⟨TT, zr [(54, vy)], zw, zU⟩
def zxJ : List (Nat × zE) := []
def zvb : List ResultVar := [.tmp 2]
theorem zH8 : zq Tryz.prog zCw := zo tab mix ⟨⟨Tryz.call54, yP⟩, trivial⟩
noncomputable def VO (a0 : Int) : Bool := (!(yf a0 1 200))
theorem zIZ (a0 : Int) (r : List A) : Tq zCw zxJ zE2 zvb r [.v (.int .i64 a0)] = (some [.v (.bool (!(yf a0 1 200)))]) := by kernel_rfl
noncomputable def zTK (r : Bool) : List A := [.v (.bool r)]
theorem zMv (a0 : Int) : (some [.v (.bool (!(yf a0 1 200)))]) = some (zTK (VO a0)) := by
 unfold VO
 exact rfl
noncomputable def zRU : List A → ze
 | [.v (.int .i64 a0)] => ⟨Bool, some (VO a0), fun r => .one (.v (.bool r))⟩
 | _ => ze.fail
theorem zuW : zC Tryz.prog 126 zRU := by
 refine good zH8 zxJ zE2 zvb 1 Tryz.func126 fun rs => ?_
 unfold zRU
 split
 ·rename_i a0; intro v h; cases h; exact ⟨rfl, zTK (VO a0), rfl, (zIZ a0 _).trans (zMv a0)⟩
 ·intro v h; cases h
noncomputable def zp2 := zu Tryz.f138
noncomputable def zrB : Ctx := ⟨TT, zr [(126, zRU)], zw, zU⟩
def zk6 : List (Nat × zE) := [(2, ([0, 1, 7, 8], [], []))]
def zl5 : List ResultVar := [.tmp 4]
noncomputable def zfo := Lq zrB zk6 zp2 zl5
theorem zKo : zq Tryz.prog zrB := zo tab mix ⟨⟨Tryz.call126, zuW⟩, trivial⟩
noncomputable def zaI (x0 x1 : Int) (x2 : List Int) : AS := ⟨[(0, .a (.sl 0)), (1, .a (.clo 126 [])), (7, .a (.v (.int .i64 x0))), (8, .a (.v (.int .i64 x1)))], [(0, some ⟨false, .arr (.one (.i .i64)) x2⟩)], 1⟩
noncomputable def zjr (r : Int) : List A := [.v (.int .i64 r)]
theorem zvQ (x0 x1 : Int) (x2 : List Int) (r : List A) (h : (cond (decide (x1 < x0)) (cond (inB x1 x2.length) (cond (VO (List.getD x2 (Int.toNat x1) 0)) (some [.v (.int .i64 x1)]) (zfo r 2 (zaI x0 (wrap .i64 (x1 + 1)) x2))) none) (some [.v (.int .i64 (-1))])) = some r) : zfo r 2 (zaI x0 x1 x2) = some r :=
 zn h (by kernel_rfl)
noncomputable def Xm (x0 x1 : Int) (x2 : List Int) : Option ((Int × Int × (List Int)) ⊕ Int) := (cond (decide (x1 < x0)) (cond (inB x1 x2.length) (cond (VO (List.getD x2 (Int.toNat x1) 0)) (some (Sum.inr x1)) (some (Sum.inl (x0, (wrap .i64 (x1 + 1)), x2)))) none) (some (Sum.inr (-1))))
noncomputable def zdr (x : Int × Int × (List Int)) : Option Int := zI (fun x => Xm x.1 x.2.1 x.2.2) FU x
noncomputable def zSx (r : List A) (x : Int × Int × (List Int)) : Prop := zfo r 2 (zaI x.1 x.2.1 x.2.2) = some r
noncomputable def zSu (r : List A) : Int → Prop := fun v => r = zjr v
theorem zIs (r : List A) : ∀ x, sem (zSu r) (zdr x) → zSx r x :=
 fun x => zi (step := fun x => Xm x.1 x.2.1 x.2.2) (fun x h => by
  unfold Xm at h
  exact zvQ x.1 x.2.1 x.2.2 r ((za h (fun h => (za h (fun h => (za h (fun h => zb h fun q => zj q) (fun h => zb h fun q => q))) (fun h => zf h))) (fun h => zb h fun q => zj q)))) FU x
noncomputable def zhL (a0 : List Int) : Option Int := (zdr ((a0.length : Int), 0, a0))
theorem zHQ (a0 : List Int) (r : List A) : Tq zrB zk6 zp2 zl5 r [.lst (.one (.i .i64)) a0, .clo 126 []] = (zfo r 2 (zaI (a0.length : Int) 0 a0)) := by kernel_rfl
theorem zRx (a0 : List Int) (v : Int) (h : zhL a0 = some v) : (zfo (zjr v) 2 (zaI (a0.length : Int) 0 a0)) = some (zjr v) := by
 replace h : sem (fun w => zjr v = zjr w) (zhL a0) := ⟨v, h, rfl⟩
 unfold zhL at h
 exact zIs (zjr v) _ h
noncomputable def zP4 : List A → ze
 | [.lst (.one (.i .i64)) a0, .clo 126 []] => ⟨Int, zhL a0, fun r => .one (.v (.int .i64 r))⟩
 | _ => ze.fail
theorem zzQ : zC Tryz.prog 138 zP4 := by
 refine good zKo zk6 zp2 zl5 2 Tryz.func138 fun rs => ?_
 unfold zP4
 split
 ·rename_i a0; intro v h; exact ⟨rfl, zjr v, rfl, (zHQ a0 _).trans (zRx a0 v h)⟩
 ·intro v h; cases h
noncomputable def zCX := zu Tryz.f125
noncomputable def zCr : Ctx := ⟨TT, zr [(138, zP4)], zw, zU⟩
def zy9 : List (Nat × zE) := []
def zuC : List ResultVar := [.tmp 4]
theorem zIY : zq Tryz.prog zCr := zo tab mix ⟨⟨Tryz.call138, zzQ⟩, trivial⟩
noncomputable def zf1 (a0 : List Int) : Option Bool := (Option.bind (zhL a0) fun r1 => (some (decide (r1 ≥ 0))))
theorem zJ0 (a0 : List Int) (r : List A) : Tq zCr zy9 zCX zuC r [.lst (.one (.i .i64)) a0, .clo 126 []] = (Option.bind (zhL a0) fun r1 => (some [.v (.bool (decide (r1 ≥ 0)))])) := by kernel_rfl
noncomputable def zMP (r : Bool) : List A := [.v (.bool r)]
theorem zM5 (a0 : List Int) (v : Bool) (h : zf1 a0 = some v) : (Option.bind (zhL a0) fun r1 => (some [.v (.bool (decide (r1 ≥ 0)))])) = some (zMP v) := by
 refine Eq.trans (b := Option.map zMP (zf1 a0)) ?_ (by rw [h]; rfl)
 unfold zf1
 exact (zV fun _ => rfl)
noncomputable def zO5 : List A → ze
 | [.lst (.one (.i .i64)) a0, .clo 126 []] => ⟨Bool, zf1 a0, fun r => .one (.v (.bool r))⟩
 | _ => ze.fail
theorem zvt : zC Tryz.prog 125 zO5 := by
 refine good zIY zy9 zCX zuC 2 Tryz.func125 fun rs => ?_
 unfold zO5
 split
 ·rename_i a0; intro v h; exact ⟨rfl, zMP v, rfl, (zJ0 a0 _).trans (zM5 a0 v h)⟩
 ·intro v h; cases h
noncomputable def zDJ := zu Tryz.f96
noncomputable def zCe : Ctx := ⟨TT, zr [(125, zO5)], zw, zU⟩
def zw7 : List (Nat × zE) := []
def zyd : List ResultVar := [.tmp 2]
theorem zKZ : zq Tryz.prog zCe := zo tab mix ⟨⟨Tryz.call125, zvt⟩, trivial⟩
noncomputable def zfj (a0 : List Int) : Option Bool := (Option.bind (zf1 a0) fun r1 => (some (!r1)))
theorem zJh (a0 : List Int) (r : List A) : Tq zCe zw7 zDJ zyd r [.lst (.one (.i .i64)) a0] = (Option.bind (zf1 a0) fun r1 => (some [.v (.bool (!r1))])) := by kernel_rfl
noncomputable def zOb (r : Bool) : List A := [.v (.bool r)]
theorem zQO (a0 : List Int) (v : Bool) (h : zfj a0 = some v) : (Option.bind (zf1 a0) fun r1 => (some [.v (.bool (!r1))])) = some (zOb v) := by
 refine Eq.trans (b := Option.map zOb (zfj a0)) ?_ (by rw [h]; rfl)
 unfold zfj
 exact (zV fun _ => rfl)
noncomputable def zOA : List A → ze
 | [.lst (.one (.i .i64)) a0] => ⟨Bool, zfj a0, fun r => .one (.v (.bool r))⟩
 | _ => ze.fail
theorem zzL : zC Tryz.prog 96 zOA := by
 refine good zKZ zw7 zDJ zyd 1 Tryz.func96 fun rs => ?_
 unfold zOA
 split
 ·rename_i a0; intro v h; exact ⟨rfl, zOb v, rfl, (zJh a0 _).trans (zQO a0 v h)⟩
 ·intro v h; cases h
noncomputable def zBO := zu Tryz.f95
noncomputable def zBK : Ctx := ⟨TT, zr [(96, zOA)], zw, zU⟩
def zzf : List (Nat × zE) := []
def ztb : List ResultVar := [.tmp 2]
theorem zLd : zq Tryz.prog zBK := zo tab mix ⟨⟨Tryz.call96, zzL⟩, trivial⟩
noncomputable def zhJ (a0 : Int) : Option Bool := (Option.bind (zfj [(wrap .i64 a0)]) fun r1 => (some (!r1)))
theorem zLw (a0 : Int) (r : List A) : Tq zBK zzf zBO ztb r [.v (.int .i16 a0)] = (Option.bind (zfj [(wrap .i64 a0)]) fun r1 => (some [.v (.bool (!r1))])) := by kernel_rfl
noncomputable def zRX (r : Bool) : List A := [.v (.bool r)]
theorem zMN (a0 : Int) (v : Bool) (h : zhJ a0 = some v) : (Option.bind (zfj [(wrap .i64 a0)]) fun r1 => (some [.v (.bool (!r1))])) = some (zRX v) := by
 refine Eq.trans (b := Option.map zRX (zhJ a0)) ?_ (by rw [h]; rfl)
 unfold zhJ
 exact (zV fun _ => rfl)
noncomputable def zRy : List A → ze
 | [.v (.int .i16 a0)] => ⟨Bool, zhJ a0, fun r => .one (.v (.bool r))⟩
 | _ => ze.fail
theorem zvk : zC Tryz.prog 95 zRy := by
 refine good zLd zzf zBO ztb 1 Tryz.func95 fun rs => ?_
 unfold zRy
 split
 ·rename_i a0; intro v h; exact ⟨rfl, zRX v, rfl, (zLw a0 _).trans (zMN a0 v h)⟩
 ·intro v h; cases h
noncomputable def zrm := zu Tryz.f124
noncomputable def zrf : Ctx := ⟨TT, zr [(95, zRy)], zw, zU⟩
def zlL : List (Nat × zE) := [(2, ([0, 1, 7, 8], [], []))]
def zl0 : List ResultVar := [.tmp 4]
noncomputable def zfL := Lq zrf zlL zrm zl0
theorem zGQ : zq Tryz.prog zrf := zo tab mix ⟨⟨Tryz.call95, zvk⟩, trivial⟩
noncomputable def U0 (x0 x1 : Int) (x2 : List Int) : AS := ⟨[(0, .a (.sl 0)), (1, .a (.clo 95 [])), (7, .a (.v (.int .i64 x0))), (8, .a (.v (.int .i64 x1)))], [(0, some ⟨false, .arr (.one (.i .i16)) x2⟩)], 1⟩
noncomputable def znq (r : Int) : List A := [.v (.int .i64 r)]
theorem zxU (x0 x1 : Int) (x2 : List Int) (r : List A) (h : (cond (decide (x1 < x0)) (cond (inB x1 x2.length) (Option.bind (zhJ (List.getD x2 (Int.toNat x1) 0)) fun r1 => (cond r1 (some [.v (.int .i64 x1)]) (zfL r 2 (U0 x0 (wrap .i64 (x1 + 1)) x2)))) none) (some [.v (.int .i64 (-1))])) = some r) : zfL r 2 (U0 x0 x1 x2) = some r :=
 zn h (by kernel_rfl)
noncomputable def Xf (x0 x1 : Int) (x2 : List Int) : Option ((Int × Int × (List Int)) ⊕ Int) := (cond (decide (x1 < x0)) (cond (inB x1 x2.length) (Option.bind (zhJ (List.getD x2 (Int.toNat x1) 0)) fun r1 => (cond r1 (some (Sum.inr x1)) (some (Sum.inl (x0, (wrap .i64 (x1 + 1)), x2))))) none) (some (Sum.inr (-1))))
noncomputable def zdM (x : Int × Int × (List Int)) : Option Int := zI (fun x => Xf x.1 x.2.1 x.2.2) FU x
noncomputable def zNI (r : List A) (x : Int × Int × (List Int)) : Prop := zfL r 2 (U0 x.1 x.2.1 x.2.2) = some r
noncomputable def zQM (r : List A) : Int → Prop := fun v => r = znq v
theorem zLx (r : List A) : ∀ x, sem (zQM r) (zdM x) → zNI r x :=
 fun x => zi (step := fun x => Xf x.1 x.2.1 x.2.2) (fun x h => by
  unfold Xf at h
  exact zxU x.1 x.2.1 x.2.2 r ((za h (fun h => (za h (fun h => (zT h fun r1 h => (za h (fun h => zb h fun q => zj q) (fun h => zb h fun q => q)))) (fun h => zf h))) (fun h => zb h fun q => zj q)))) FU x
noncomputable def zhS (a0 : List Int) : Option Int := (zdM ((a0.length : Int), 0, a0))
theorem zKC (a0 : List Int) (r : List A) : Tq zrf zlL zrm zl0 r [.lst (.one (.i .i16)) a0, .clo 95 []] = (zfL r 2 (U0 (a0.length : Int) 0 a0)) := by kernel_rfl
theorem zSG (a0 : List Int) (v : Int) (h : zhS a0 = some v) : (zfL (znq v) 2 (U0 (a0.length : Int) 0 a0)) = some (znq v) := by
 replace h : sem (fun w => znq v = znq w) (zhS a0) := ⟨v, h, rfl⟩
 unfold zhS at h
 exact zLx (znq v) _ h
noncomputable def zMW : List A → ze
 | [.lst (.one (.i .i16)) a0, .clo 95 []] => ⟨Int, zhS a0, fun r => .one (.v (.int .i64 r))⟩
 | _ => ze.fail
theorem zw3 : zC Tryz.prog 124 zMW := by
 refine good zGQ zlL zrm zl0 2 Tryz.func124 fun rs => ?_
 unfold zMW
 split
 ·rename_i a0; intro v h; exact ⟨rfl, znq v, rfl, (zKC a0 _).trans (zSG a0 v h)⟩
 ·intro v h; cases h
noncomputable def zCA := zu Tryz.f94
noncomputable def zFh : Ctx := ⟨TT, zr [(124, zMW)], zw, zU⟩
def ztT : List (Nat × zE) := []
def zz8 : List ResultVar := [.tmp 4]
theorem zGK : zq Tryz.prog zFh := zo tab mix ⟨⟨Tryz.call124, zw3⟩, trivial⟩
noncomputable def zee (a0 : List Int) : Option Bool := (Option.bind (zhS a0) fun r1 => (some (decide (r1 ≥ 0))))
theorem zGo (a0 : List Int) (r : List A) : Tq zFh ztT zCA zz8 r [.lst (.one (.i .i16)) a0, .clo 95 []] = (Option.bind (zhS a0) fun r1 => (some [.v (.bool (decide (r1 ≥ 0)))])) := by kernel_rfl
noncomputable def zMC (r : Bool) : List A := [.v (.bool r)]
theorem zMu (a0 : List Int) (v : Bool) (h : zee a0 = some v) : (Option.bind (zhS a0) fun r1 => (some [.v (.bool (decide (r1 ≥ 0)))])) = some (zMC v) := by
 refine Eq.trans (b := Option.map zMC (zee a0)) ?_ (by rw [h]; rfl)
 unfold zee
 exact (zV fun _ => rfl)
noncomputable def zRd : List A → ze
 | [.lst (.one (.i .i16)) a0, .clo 95 []] => ⟨Bool, zee a0, fun r => .one (.v (.bool r))⟩
 | _ => ze.fail
theorem ztI : zC Tryz.prog 94 zRd := by
 refine good zGK ztT zCA zz8 2 Tryz.func94 fun rs => ?_
 unfold zRd
 split
 ·rename_i a0; intro v h; exact ⟨rfl, zMC v, rfl, (zGo a0 _).trans (zMu a0 v h)⟩
 ·intro v h; cases h
noncomputable def zES := zu Tryz.f59
noncomputable def zC8 : Ctx := ⟨TT, zr [(94, zRd), (54, vy)], zw, zU⟩
def zsW : List (Nat × zE) := []
def zvX : List ResultVar := [.tmp 2]
theorem zHe : zq Tryz.prog zC8 := zo tab mix ⟨⟨Tryz.call94, ztI⟩, ⟨Tryz.call54, yP⟩, trivial⟩
noncomputable def zcq (a0 : List Int) : Option Bool := (cond (yf (a0.length : Int) 1 60) (Option.bind (zee a0) fun r1 => (some (!r1))) (some false))
theorem zGr (a0 : List Int) (r : List A) : Tq zC8 zsW zES zvX r [.lst (.one (.i .i16)) a0] = (cond (yf (a0.length : Int) 1 60) (Option.bind (zee a0) fun r1 => (some [.v (.bool (!r1))])) (some [.v (.bool false)])) := by kernel_rfl
noncomputable def zDC (r : Bool) : List A := [.v (.bool r)]
theorem zPZ (a0 : List Int) (v : Bool) (h : zcq a0 = some v) : (cond (yf (a0.length : Int) 1 60) (Option.bind (zee a0) fun r1 => (some [.v (.bool (!r1))])) (some [.v (.bool false)])) = some (zDC v) := by
 refine Eq.trans (b := Option.map zDC (zcq a0)) ?_ (by rw [h]; rfl)
 unfold zcq
 exact (zM (Option.map zDC) (zV fun _ => rfl) rfl)
noncomputable def zN4 : List A → ze
 | [.lst (.one (.i .i16)) a0] => ⟨Bool, zcq a0, fun r => .one (.v (.bool r))⟩
 | _ => ze.fail
theorem zvN : zC Tryz.prog 59 zN4 := by
 refine good zHe zsW zES zvX 1 Tryz.func59 fun rs => ?_
 unfold zN4
 split
 ·rename_i a0; intro v h; exact ⟨rfl, zDC v, rfl, (zGr a0 _).trans (zPZ a0 v h)⟩
 ·intro v h; cases h
noncomputable def zDz := zu Tryz.f53
noncomputable def zEQ : Ctx := ⟨TT, zr [(54, vy)], zw, zU⟩
def zue : List (Nat × zE) := []
def zxs : List ResultVar := [.tmp 2]
theorem zHd : zq Tryz.prog zEQ := zo tab mix ⟨⟨Tryz.call54, yP⟩, trivial⟩
noncomputable def VK (a0 : Int) : Bool := (yf a0 0 200)
theorem zHo (a0 : Int) (r : List A) : Tq zEQ zue zDz zxs r [.v (.int .i64 a0)] = (some [.v (.bool (yf a0 0 200))]) := by kernel_rfl
noncomputable def zTW (r : Bool) : List A := [.v (.bool r)]
theorem zNb (a0 : Int) : (some [.v (.bool (yf a0 0 200))]) = some (zTW (VK a0)) := by
 unfold VK
 exact rfl
noncomputable def zCl : List A → ze
 | [.v (.int .i64 a0)] => ⟨Bool, some (VK a0), fun r => .one (.v (.bool r))⟩
 | _ => ze.fail
theorem zhR : zC Tryz.prog 53 zCl := by
 refine good zHd zue zDz zxs 1 Tryz.func53 fun rs => ?_
 unfold zCl
 split
 ·rename_i a0; intro v h; cases h; exact ⟨rfl, zTW (VK a0), rfl, (zHo a0 _).trans (zNb a0)⟩
 ·intro v h; cases h
noncomputable def zqc := zu Tryz.f60
noncomputable def zra : Ctx := ⟨TT, zr [], zw, zU⟩
def znH : List (Nat × zE) := [(3, ([5, 13, 14, 15], [], []))]
def znK : List ResultVar := [.tmp 4]
noncomputable def zeB := Lq zra znH zqc znK
theorem zKk : zq Tryz.prog zra := zo tab mix trivial
noncomputable def zaA (x0 x1 x2 : Int) (x3 : List Int) : AS := ⟨[(5, .a (.v (.int .i64 x0))), (13, .a (.sl 0)), (14, .a (.v (.int .i64 x1))), (15, .a (.v (.int .i64 x2)))], [(0, some ⟨false, .arr (.one (.i .i16)) x3⟩)], 1⟩
noncomputable def zjg (r : Int) : List A := [.v (.int .i64 r)]
theorem zxv (x0 x1 x2 : Int) (x3 : List Int) (r : List A) (h : (cond (decide (x2 < x1)) (cond (inB x2 x3.length) (zeB r 3 (zaA (wrap .i64 (x0 + (wrap .i64 (List.getD x3 (Int.toNat x2) 0)))) x1 (wrap .i64 (x2 + 1)) x3)) none) (some [.v (.int .i64 x0)])) = some r) : zeB r 3 (zaA x0 x1 x2 x3) = some r :=
 zn h (by kernel_rfl)
noncomputable def wb (x0 x1 x2 : Int) (x3 : List Int) : Option ((Int × Int × Int × (List Int)) ⊕ Int) := (cond (decide (x2 < x1)) (cond (inB x2 x3.length) (some (Sum.inl ((wrap .i64 (x0 + (wrap .i64 (List.getD x3 (Int.toNat x2) 0)))), x1, (wrap .i64 (x2 + 1)), x3))) none) (some (Sum.inr x0)))
noncomputable def zdc (x : Int × Int × Int × (List Int)) : Option Int := zI (fun x => wb x.1 x.2.1 x.2.2.1 x.2.2.2) FU x
noncomputable def zN6 (r : List A) (x : Int × Int × Int × (List Int)) : Prop := zeB r 3 (zaA x.1 x.2.1 x.2.2.1 x.2.2.2) = some r
noncomputable def zMj (r : List A) : Int → Prop := fun v => r = zjg v
theorem zKt (r : List A) : ∀ x, sem (zMj r) (zdc x) → zN6 r x :=
 fun x => zi (step := fun x => wb x.1 x.2.1 x.2.2.1 x.2.2.2) (fun x h => by
  unfold wb at h
  exact zxv x.1 x.2.1 x.2.2.1 x.2.2.2 r ((za h (fun h => (za h (fun h => zb h fun q => q) (fun h => zf h))) (fun h => zb h fun q => zj q)))) FU x
noncomputable def zeh (a0 : List Int) (a1 : Int) : Option Int := (zdc ((wrap .i64 ((wrap .i64 ((a0.length : Int) - 1)) * a1)), (a0.length : Int), 0, a0))
theorem zKi (a0 : List Int) (a1 : Int) (r : List A) : Tq zra znH zqc znK r [.lst (.one (.i .i16)) a0, .v (.int .i64 a1)] = (zeB r 3 (zaA (wrap .i64 ((wrap .i64 ((a0.length : Int) - 1)) * a1)) (a0.length : Int) 0 a0)) := by kernel_rfl
theorem zO4 (a0 : List Int) (a1 v : Int) (h : zeh a0 a1 = some v) : (zeB (zjg v) 3 (zaA (wrap .i64 ((wrap .i64 ((a0.length : Int) - 1)) * a1)) (a0.length : Int) 0 a0)) = some (zjg v) := by
 replace h : sem (fun w => zjg v = zjg w) (zeh a0 a1) := ⟨v, h, rfl⟩
 unfold zeh at h
 exact zKt (zjg v) _ h
noncomputable def zQ6 : List A → ze
 | [.lst (.one (.i .i16)) a0, .v (.int .i64 a1)] => ⟨Int, zeh a0 a1, fun r => .one (.v (.int .i64 r))⟩
 | _ => ze.fail
theorem zwd : zC Tryz.prog 60 zQ6 := by
 refine good zKk znH zqc znK 2 Tryz.func60 fun rs => ?_
 unfold zQ6
 split
 ·rename_i a0 a1; intro v h; exact ⟨rfl, zjg v, rfl, (zKi a0 a1 _).trans (zO4 a0 a1 v h)⟩
 ·intro v h; cases h
noncomputable def zEE := zu Tryz.f19
noncomputable def zB6 : Ctx := ⟨TT, zr [(53, zCl), (58, zxS), (59, zN4), (60, zQ6)], zw, zU⟩
def zzW : List (Nat × zE) := []
def zxt : List ResultVar := [.tmp 4, .tmp 5]
theorem zHG : zq Tryz.prog zB6 := zo tab mix ⟨⟨Tryz.call53, zhR⟩, ⟨Tryz.call58, zan⟩, ⟨Tryz.call59, zvN⟩, ⟨Tryz.call60, zwd⟩, trivial⟩
noncomputable def znx (a0 : List Int) (a1 : Int) : Option (Int × Int) := (Option.bind (zcq a0) fun r1 => (cond ((ZG r1 (VK a1)) != 0) (some (0, (ZG r1 (VK a1)))) (Option.bind (zeh a0 a1) fun r2 => (some (r2, 0)))))
theorem zGE (a0 : List Int) (a1 : Int) (r : List A) : Tq zB6 zzW zEE zxt r [.lst (.one (.i .i16)) a0, .v (.int .i64 a1)] = (Option.bind (zcq a0) fun r1 => (cond ((ZG r1 (VK a1)) != 0) (some [.v (.int .i64 0), .v (.int .i64 (ZG r1 (VK a1)))]) (Option.bind (zeh a0 a1) fun r2 => (some [.v (.int .i64 r2), .v (.int .i64 0)])))) := by kernel_rfl
noncomputable def zB5 (r : Int × Int) : List A := [.v (.int .i64 r.1), .v (.int .i64 r.2)]
theorem zPX (a0 : List Int) (a1 : Int) (v : Int × Int) (h : znx a0 a1 = some v) : (Option.bind (zcq a0) fun r1 => (cond ((ZG r1 (VK a1)) != 0) (some [.v (.int .i64 0), .v (.int .i64 (ZG r1 (VK a1)))]) (Option.bind (zeh a0 a1) fun r2 => (some [.v (.int .i64 r2), .v (.int .i64 0)])))) = some (zB5 v) := by
 refine Eq.trans (b := Option.map zB5 (znx a0 a1)) ?_ (by rw [h]; rfl)
 unfold znx
 exact (zV fun _ => (zM (Option.map zB5) rfl (zV fun _ => rfl)))
noncomputable def zSB : List A → ze
 | [.lst (.one (.i .i16)) a0, .v (.int .i64 a1)] => ⟨(Int × Int), znx a0 a1, fun r => .tup [.v (.int .i64 r.1), .v (.int .i64 r.2)]⟩
 | _ => ze.fail
theorem zzx : zC Tryz.prog 19 zSB := by
 refine good zHG zzW zEE zxt 2 Tryz.func19 fun rs => ?_
 unfold zSB
 split
 ·rename_i a0 a1; intro v h; exact ⟨rfl, zB5 v, rfl, (zGE a0 a1 _).trans (zPX a0 a1 v h)⟩
 ·intro v h; cases h
noncomputable def zDF := zu Tryz.f52
noncomputable def zBN : Ctx := ⟨TT, zr [(54, vy)], zw, zU⟩
def zx2 : List (Nat × zE) := []
def zzs : List ResultVar := [.tmp 2]
theorem zII : zq Tryz.prog zBN := zo tab mix ⟨⟨Tryz.call54, yP⟩, trivial⟩
noncomputable def zkF (a0 : Int) : Bool := (yf a0 1 2000)
theorem zFz (a0 : Int) (r : List A) : Tq zBN zx2 zDF zzs r [.v (.int .i64 a0)] = (some [.v (.bool (yf a0 1 2000))]) := by kernel_rfl
noncomputable def zTA (r : Bool) : List A := [.v (.bool r)]
theorem zR8 (a0 : Int) : (some [.v (.bool (yf a0 1 2000))]) = some (zTA (zkF a0)) := by
 unfold zkF
 exact rfl
noncomputable def zRN : List A → ze
 | [.v (.int .i64 a0)] => ⟨Bool, some (zkF a0), fun r => .one (.v (.bool r))⟩
 | _ => ze.fail
theorem zxD : zC Tryz.prog 52 zRN := by
 refine good zII zx2 zDF zzs 1 Tryz.func52 fun rs => ?_
 unfold zRN
 split
 ·rename_i a0; intro v h; cases h; exact ⟨rfl, zTA (zkF a0), rfl, (zFz a0 _).trans (zR8 a0)⟩
 ·intro v h; cases h
noncomputable def zrP := zu Tryz.f55
noncomputable def zqN : Ctx := ⟨TT, zr [], zw, zU⟩
def zkb : List (Nat × zE) := [(5, ([0, 1, 6, 19, 20], [], []))]
def zlA : List ResultVar := [.tmp 4, .tmp 5]
noncomputable def zBE := Lq zqN zkb zrP zlA
theorem zLr : zq Tryz.prog zqN := zo tab mix trivial
noncomputable def ztd (x0 x1 x2 x3 : Int) (x4 : List Int) : AS := ⟨[(0, .a (.v (.int .i64 x0))), (1, .a (.v (.int .i64 x1))), (6, .a (.sl 0)), (19, .a (.v (.int .i64 x2))), (20, .a (.v (.int .i64 x3)))], [(0, some ⟨true, .arr (.one (.i .i16)) x4⟩)], 1⟩
abbrev zPc := ((List Int) × Bool)
noncomputable def zcw (r : (List Int) × Bool) : List A := [.lst (.one (.i .i16)) r.1, .v (.bool r.2)]
abbrev zbD := (Int × Int × Int × Int × (List Int))
abbrev zrD := zPc
section
variable {R R' : Type} {S : R → Prop} {r : R'} (E : zPc → Option R) (E' : zPc → Option R') (G5 : zbD → Option R) (G5' : zbD → Option R')
noncomputable def ub (x0 x1 x2 x3 : Int) (x4 : List Int) : Option R := (cond (decide (x3 < x2)) (cond (decide (x1 = 0)) none (cond (decide (x1 = 0)) none (cond (decide (x3 < (Int.tmod x0 x1))) (cond (zW ((List.length (x4 : List Int) + List.length ([(wrap .i16 (wrap .i64 ((wrap .i64 (Int.tdiv x0 x1)) + 1)))] : List Int)) * 2)) (G5 (x0, x1, x2, (wrap .i64 (x3 + 1)), (x4 ++ [(wrap .i16 (wrap .i64 ((wrap .i64 (Int.tdiv x0 x1)) + 1)))]))) none) (cond (zW ((List.length (x4 : List Int) + List.length ([(wrap .i16 (wrap .i64 (Int.tdiv x0 x1)))] : List Int)) * 2)) (G5 (x0, x1, x2, (wrap .i64 (x3 + 1)), (x4 ++ [(wrap .i16 (wrap .i64 (Int.tdiv x0 x1)))]))) none)))) (E (x4, true)))
theorem ztv (x0 x1 x2 x3 : Int) (x4 : List Int) (h : sem S (ub E G5 x0 x1 x2 x3 x4)) (hE : zJ S r E E') (h5 : zJ S r G5 G5') : ub E' G5' x0 x1 x2 x3 x4 = some r := by
 revert h
 unfold ub
 repeat' first | refine zy ?_ ?_ | refine zA fun _ => ?_ | exact zz | exact hE _ | exact h5 _ | refine zp (fun _ => ?_) (fun _ => ?_)
noncomputable def zmV (a0 a1 : Int) : Option R := (cond (decide (a0 < a1)) (E ([], false)) (cond (decide (a0 > (wrap .i64 (a1 * 200)))) (E ([], false)) (G5 (a0, a1, a1, 0, []))))
theorem zFp (a0 a1 : Int) (h : sem S (zmV E G5 a0 a1)) (hE : zJ S r E E') (h5 : zJ S r G5 G5') : zmV E' G5' a0 a1 = some r := by
 revert h
 unfold zmV
 repeat' first | refine zy ?_ ?_ | refine zA fun _ => ?_ | exact zz | exact hE _ | exact h5 _ | refine zp (fun _ => ?_) (fun _ => ?_)
end
noncomputable def zfR (r : List A) (x : zbD) : Option (List A) := zBE r 5 (ztd x.1 x.2.1 x.2.2.1 x.2.2.2.1 x.2.2.2.2)
theorem zyv (x0 x1 x2 x3 : Int) (x4 : List Int) (r : List A) (h : ub (fun v => some (zcw v)) (zfR r) x0 x1 x2 x3 x4 = some r) : zBE r 5 (ztd x0 x1 x2 x3 x4) = some r :=
 zn h (by kernel_rfl)
noncomputable def W2 (x0 x1 x2 x3 : Int) (x4 : List Int) : Option (zbD ⊕ zrD) := ub (fun v => some (Sum.inr v)) (fun x => some (Sum.inl x)) x0 x1 x2 x3 x4
noncomputable def zdb (x : zbD) : Option zrD := zI (fun x => W2 x.1 x.2.1 x.2.2.1 x.2.2.2.1 x.2.2.2.2) FU x
noncomputable def zti (r : List A) (x : zbD) : Prop := zfR r x = some r
noncomputable def zxK (r : List A) : zrD → Prop := fun v => r = zcw v
theorem zJ6 (r : List A) : ∀ x, sem (zxK r) (zdb x) → zti r x :=
 fun x => zi (G := zti r) (E := zxK r) (step := fun x => W2 x.1 x.2.1 x.2.2.1 x.2.2.2.1 x.2.2.2.2) (fun x h => zyv x.1 x.2.1 x.2.2.1 x.2.2.2.1 x.2.2.2.2 r (ztv _ _ _ _ x.1 x.2.1 x.2.2.1 x.2.2.2.1 x.2.2.2.2 h (fun _ h => zb h fun q => zj q) (fun _ h => zb h fun q => q))) FU x
noncomputable def ziR (a0 a1 : Int) : Option ((List Int) × Bool) := zmV some zdb a0 a1
theorem zGZ (a0 a1 : Int) (r : List A) : Tq zqN zkb zrP zlA r [.v (.int .i64 a0), .v (.int .i64 a1)] = zmV (fun v => some (zcw v)) (zfR r) a0 a1 := by kernel_rfl
theorem zLM (a0 a1 : Int) (v : (List Int) × Bool) (h : ziR a0 a1 = some v) : zmV (fun v => some (zcw v)) (zfR (zcw v)) a0 a1 = some (zcw v) :=
 zFp _ _ _ _ a0 a1 (show sem (fun w => zcw v = zcw w) (ziR a0 a1) from ⟨v, h, rfl⟩) (fun _ h => zb h fun q => zj q) (zJ6 (zcw v))
noncomputable def zLN : List A → ze
 | [.v (.int .i64 a0), .v (.int .i64 a1)] => ⟨((List Int) × Bool), ziR a0 a1, fun r => .tup [.lst (.one (.i .i16)) r.1, .v (.bool r.2)]⟩
 | _ => ze.fail
theorem zvA : zC Tryz.prog 55 zLN := by
 refine good zLr zkb zrP zlA 2 Tryz.func55 fun rs => ?_
 unfold zLN
 split
 ·rename_i a0 a1; intro v h; exact ⟨rfl, zcw v, rfl, (zGZ a0 a1 _).trans (zLM a0 a1 v h)⟩
 ·intro v h; cases h
noncomputable def zCi := zu Tryz.f17
noncomputable def zDv : Ctx := ⟨TT, zr [(52, zRN), (53, zCl), (54, vy), (55, zLN)], zw, zU⟩
def zvn : List (Nat × zE) := []
def zvL : List ResultVar := [.tmp 6, .tmp 7]
theorem zKQ : zq Tryz.prog zDv := zo tab mix ⟨⟨Tryz.call52, zxD⟩, ⟨Tryz.call53, zhR⟩, ⟨Tryz.call54, yP⟩, ⟨Tryz.call55, zvA⟩, trivial⟩
abbrev zT3 := ((List Int) × Int)
noncomputable def zoC (r : (List Int) × Int) : List A := [.lst (.one (.i .i16)) r.1, .v (.int .i64 r.2)]
section
variable {R R' : Type} {S : R → Prop} {r : R'} (E : zT3 → Option R) (E' : zT3 → Option R')
noncomputable def ziS (a0 a1 a2 : Int) : Option R := (cond (!(zkF a0)) (E ([], 2)) (cond (!(VK a1)) (E ([], 2)) (cond (!(yf a2 1 60)) (E ([], 2)) (Option.bind (ziR (wrap .i64 (a0 - (wrap .i64 ((wrap .i64 (a2 - 1)) * a1)))) a2) fun r1 => (cond (!r1.2) (E ([], 6)) (E ((r1.1), 0)))))))
theorem zJS (a0 a1 a2 : Int) (h : sem S (ziS E a0 a1 a2)) (hE : zJ S r E E') : ziS E' a0 a1 a2 = some r := by
 revert h
 unfold ziS
 repeat' first | refine zy ?_ ?_ | refine zA fun _ => ?_ | exact zz | exact hE _ | refine zp (fun _ => ?_) (fun _ => ?_)
end
noncomputable def zoX (a0 a1 a2 : Int) : Option ((List Int) × Int) := ziS some a0 a1 a2
theorem zHD (a0 a1 a2 : Int) (r : List A) : Tq zDv zvn zCi zvL r [.v (.int .i64 a0), .v (.int .i64 a1), .v (.int .i64 a2)] = ziS (fun v => some (zoC v)) a0 a1 a2 := by kernel_rfl
theorem zR7 (a0 a1 a2 : Int) (v : (List Int) × Int) (h : zoX a0 a1 a2 = some v) : ziS (fun v => some (zoC v)) a0 a1 a2 = some (zoC v) :=
 zJS _ _ a0 a1 a2 (show sem (fun w => zoC v = zoC w) (zoX a0 a1 a2) from ⟨v, h, rfl⟩) (fun _ h => zb h fun q => zj q)
noncomputable def zSC : List A → ze
 | [.v (.int .i64 a0), .v (.int .i64 a1), .v (.int .i64 a2)] => ⟨((List Int) × Int), zoX a0 a1 a2, fun r => .tup [.lst (.one (.i .i16)) r.1, .v (.int .i64 r.2)]⟩
 | _ => ze.fail
theorem zuX : zC Tryz.prog 17 zSC := by
 refine good zKQ zvn zCi zvL 3 Tryz.func17 fun rs => ?_
 unfold zSC
 split
 ·rename_i a0 a1 a2; intro v h; exact ⟨rfl, zoC v, rfl, (zHD a0 a1 a2 _).trans (zR7 a0 a1 a2 v h)⟩
 ·intro v h; cases h
noncomputable def zCN := zu Tryz.f56
noncomputable def zCs : Ctx := ⟨TT, zr [(46, Xo), (92, zDZ)], zw, zU⟩
def zuS : List (Nat × zE) := []
def zw6 : List ResultVar := [.tmp 4]
theorem zJ9 : zq Tryz.prog zCs := zo tab mix ⟨⟨Tryz.call46, yn⟩, ⟨Tryz.call92, zho⟩, trivial⟩
noncomputable def zeb (a0 a1 : Int) : Bool := (cond (zK a0 1 2000) (Ua a1) false)
theorem zHs (a0 a1 : Int) (r : List A) : Tq zCs zuS zCN zw6 r [.v (.int .i64 a0), .v (.int .i64 a1)] = (cond (zK a0 1 2000) (some [.v (.bool (Ua a1))]) (some [.v (.bool false)])) := by kernel_rfl
noncomputable def zNZ (r : Bool) : List A := [.v (.bool r)]
theorem zQt (a0 a1 : Int) : (cond (zK a0 1 2000) (some [.v (.bool (Ua a1))]) (some [.v (.bool false)])) = some (zNZ (zeb a0 a1)) := by
 unfold zeb
 exact (zM (fun x => some (zNZ x)) rfl rfl)
noncomputable def zQI : List A → ze
 | [.v (.int .i64 a0), .v (.int .i64 a1)] => ⟨Bool, some (zeb a0 a1), fun r => .one (.v (.bool r))⟩
 | _ => ze.fail
theorem zvd : zC Tryz.prog 56 zQI := by
 refine good zJ9 zuS zCN zw6 2 Tryz.func56 fun rs => ?_
 unfold zQI
 split
 ·rename_i a0 a1; intro v h; cases h; exact ⟨rfl, zNZ (zeb a0 a1), rfl, (zHs a0 a1 _).trans (zQt a0 a1)⟩
 ·intro v h; cases h
noncomputable def zsi := zu Tryz.f57
noncomputable def zqn : Ctx := ⟨TT, zr [(93, zDf)], zw, zU⟩
def zkH : List (Nat × zE) := [(6, ([2, 8, 9, 10], [], []))]
def zj3 : List ResultVar := [.tmp 6, .tmp 7]
noncomputable def zDN := Lq zqn zkH zsi zj3
theorem zHS : zq Tryz.prog zqn := zo tab mix ⟨⟨Tryz.call93, zhb⟩, trivial⟩
noncomputable def zu5 (x0 x1 x2 : Int) (x3 : List Int) : AS := ⟨[(2, .a (.v (.int .i64 x0))), (8, .a (.v (.int .i64 x1))), (9, .a (.sl 0)), (10, .a (.v (.int .i64 x2)))], [(0, some ⟨true, .arr (.one (.i .i16)) x3⟩)], 1⟩
abbrev zN0 := ((List Int) × Bool)
noncomputable def zck (r : (List Int) × Bool) : List A := [.lst (.one (.i .i16)) r.1, .v (.bool r.2)]
abbrev zbG := (Int × Int × Int × (List Int))
abbrev zq7 := zN0
section
variable {R R' : Type} {S : R → Prop} {r : R'} (E : zN0 → Option R) (E' : zN0 → Option R') (G6 : zbG → Option R) (G6' : zbG → Option R')
noncomputable def V6 (x0 x1 x2 : Int) (x3 : List Int) : Option R := (cond (decide (x2 < x0)) (cond (decide (x0 = 0)) none (cond (decide (x0 = 0)) none (cond (decide (x2 < (Int.tmod x1 x0))) (cond (!(Ve (wrap .i64 ((wrap .i64 (Int.tdiv x1 x0)) + 1)))) (E ([], false)) (cond (zW ((List.length (x3 : List Int) + List.length ([(wrap .i16 (wrap .i64 ((wrap .i64 (Int.tdiv x1 x0)) + 1)))] : List Int)) * 2)) (G6 (x0, x1, (wrap .i64 (x2 + 1)), (x3 ++ [(wrap .i16 (wrap .i64 ((wrap .i64 (Int.tdiv x1 x0)) + 1)))]))) none)) (cond (!(Ve (wrap .i64 (Int.tdiv x1 x0)))) (E ([], false)) (cond (zW ((List.length (x3 : List Int) + List.length ([(wrap .i16 (wrap .i64 (Int.tdiv x1 x0)))] : List Int)) * 2)) (G6 (x0, x1, (wrap .i64 (x2 + 1)), (x3 ++ [(wrap .i16 (wrap .i64 (Int.tdiv x1 x0)))]))) none))))) (E (x3, true)))
theorem zxu (x0 x1 x2 : Int) (x3 : List Int) (h : sem S (V6 E G6 x0 x1 x2 x3)) (hE : zJ S r E E') (h6 : zJ S r G6 G6') : V6 E' G6' x0 x1 x2 x3 = some r := by
 revert h
 unfold V6
 repeat' first | refine zy ?_ ?_ | refine zA fun _ => ?_ | exact zz | exact hE _ | exact h6 _ | refine zp (fun _ => ?_) (fun _ => ?_)
noncomputable def zlm (a0 a1 a2 : Int) : Option R := (cond (decide ((wrap .i64 (a0 - (wrap .i64 (a1 * (wrap .i64 (a2 - 1)))))) < a2)) (E ([], false)) (G6 (a2, (wrap .i64 (a0 - (wrap .i64 (a1 * (wrap .i64 (a2 - 1)))))), 0, [])))
theorem zJJ (a0 a1 a2 : Int) (h : sem S (zlm E G6 a0 a1 a2)) (hE : zJ S r E E') (h6 : zJ S r G6 G6') : zlm E' G6' a0 a1 a2 = some r := by
 revert h
 unfold zlm
 repeat' first | refine zy ?_ ?_ | refine zA fun _ => ?_ | exact zz | exact hE _ | exact h6 _ | refine zp (fun _ => ?_) (fun _ => ?_)
end
noncomputable def zfG (r : List A) (x : zbG) : Option (List A) := zDN r 6 (zu5 x.1 x.2.1 x.2.2.1 x.2.2.2)
theorem zt7 (x0 x1 x2 : Int) (x3 : List Int) (r : List A) (h : V6 (fun v => some (zck v)) (zfG r) x0 x1 x2 x3 = some r) : zDN r 6 (zu5 x0 x1 x2 x3) = some r :=
 zn h (by kernel_rfl)
noncomputable def WX (x0 x1 x2 : Int) (x3 : List Int) : Option (zbG ⊕ zq7) := V6 (fun v => some (Sum.inr v)) (fun x => some (Sum.inl x)) x0 x1 x2 x3
noncomputable def zd6 (x : zbG) : Option zq7 := zI (fun x => WX x.1 x.2.1 x.2.2.1 x.2.2.2) FU x
noncomputable def zAo (r : List A) (x : zbG) : Prop := zfG r x = some r
noncomputable def zuY (r : List A) : zq7 → Prop := fun v => r = zck v
theorem zFE (r : List A) : ∀ x, sem (zuY r) (zd6 x) → zAo r x :=
 fun x => zi (G := zAo r) (E := zuY r) (step := fun x => WX x.1 x.2.1 x.2.2.1 x.2.2.2) (fun x h => zt7 x.1 x.2.1 x.2.2.1 x.2.2.2 r (zxu _ _ _ _ x.1 x.2.1 x.2.2.1 x.2.2.2 h (fun _ h => zb h fun q => zj q) (fun _ h => zb h fun q => q))) FU x
noncomputable def zhr (a0 a1 a2 : Int) : Option ((List Int) × Bool) := zlm some zd6 a0 a1 a2
theorem zKz (a0 a1 a2 : Int) (r : List A) : Tq zqn zkH zsi zj3 r [.v (.int .i64 a0), .v (.int .i64 a1), .v (.int .i64 a2)] = zlm (fun v => some (zck v)) (zfG r) a0 a1 a2 := by kernel_rfl
theorem zMa (a0 a1 a2 : Int) (v : (List Int) × Bool) (h : zhr a0 a1 a2 = some v) : zlm (fun v => some (zck v)) (zfG (zck v)) a0 a1 a2 = some (zck v) :=
 zJJ _ _ _ _ a0 a1 a2 (show sem (fun w => zck v = zck w) (zhr a0 a1 a2) from ⟨v, h, rfl⟩) (fun _ h => zb h fun q => zj q) (zFE (zck v))
noncomputable def zOO : List A → ze
 | [.v (.int .i64 a0), .v (.int .i64 a1), .v (.int .i64 a2)] => ⟨((List Int) × Bool), zhr a0 a1 a2, fun r => .tup [.lst (.one (.i .i16)) r.1, .v (.bool r.2)]⟩
 | _ => ze.fail
theorem zwX : zC Tryz.prog 57 zOO := by
 refine good zHS zkH zsi zj3 3 Tryz.func57 fun rs => ?_
 unfold zOO
 split
 ·rename_i a0 a1 a2; intro v h; exact ⟨rfl, zck v, rfl, (zKz a0 a1 a2 _).trans (zMa a0 a1 a2 v h)⟩
 ·intro v h; cases h
noncomputable def zFg := zu Tryz.f18
noncomputable def zEK : Ctx := ⟨TT, zr [(46, Xo), (56, zQI), (57, zOO)], zw, zU⟩
def zs9 : List (Nat × zE) := []
def zsV : List ResultVar := [.tmp 6, .tmp 7]
theorem zJE : zq Tryz.prog zEK := zo tab mix ⟨⟨Tryz.call46, yn⟩, ⟨Tryz.call56, zvd⟩, ⟨Tryz.call57, zwX⟩, trivial⟩
noncomputable def zjI (a0 a1 a2 : Int) : Option ((List Int) × Int) := (cond (!(zeb a0 a1)) (some ([], 2)) (cond (!(zK a2 1 60)) (some ([], 2)) (Option.bind (zhr a0 a1 a2) fun r1 => (cond (!r1.2) (some ([], 6)) (some ((r1.1), 0))))))
theorem zHi (a0 a1 a2 : Int) (r : List A) : Tq zEK zs9 zFg zsV r [.v (.int .i64 a0), .v (.int .i64 a1), .v (.int .i64 a2)] = (cond (!(zeb a0 a1)) (some [.lst (.one (.i .i16)) [], .v (.int .i64 2)]) (cond (!(zK a2 1 60)) (some [.lst (.one (.i .i16)) [], .v (.int .i64 2)]) (Option.bind (zhr a0 a1 a2) fun r1 => (cond (!r1.2) (some [.lst (.one (.i .i16)) [], .v (.int .i64 6)]) (some [.lst (.one (.i .i16)) r1.1, .v (.int .i64 0)]))))) := by kernel_rfl
noncomputable def zon (r : (List Int) × Int) : List A := [.lst (.one (.i .i16)) r.1, .v (.int .i64 r.2)]
theorem zQg (a0 a1 a2 : Int) (v : (List Int) × Int) (h : zjI a0 a1 a2 = some v) : (cond (!(zeb a0 a1)) (some [.lst (.one (.i .i16)) [], .v (.int .i64 2)]) (cond (!(zK a2 1 60)) (some [.lst (.one (.i .i16)) [], .v (.int .i64 2)]) (Option.bind (zhr a0 a1 a2) fun r1 => (cond (!r1.2) (some [.lst (.one (.i .i16)) [], .v (.int .i64 6)]) (some [.lst (.one (.i .i16)) r1.1, .v (.int .i64 0)]))))) = some (zon v) := by
 refine Eq.trans (b := Option.map zon (zjI a0 a1 a2)) ?_ (by rw [h]; rfl)
 unfold zjI
 exact (zM (Option.map zon) rfl (zM (Option.map zon) rfl (zV fun _ => (zM (Option.map zon) rfl rfl))))
noncomputable def zNC : List A → ze
 | [.v (.int .i64 a0), .v (.int .i64 a1), .v (.int .i64 a2)] => ⟨((List Int) × Int), zjI a0 a1 a2, fun r => .tup [.lst (.one (.i .i16)) r.1, .v (.int .i64 r.2)]⟩
 | _ => ze.fail
theorem zwe : zC Tryz.prog 18 zNC := by
 refine good zJE zs9 zFg zsV 3 Tryz.func18 fun rs => ?_
 unfold zNC
 split
 ·rename_i a0 a1 a2; intro v h; exact ⟨rfl, zon v, rfl, (zHi a0 a1 a2 _).trans (zQg a0 a1 a2 v h)⟩
 ·intro v h; cases h
noncomputable def zsH := zu Tryz.f61
noncomputable def zqA : Ctx := ⟨TT, zr [], zw, zU⟩
def zjD : List (Nat × zE) := [(4, ([0, 1, 5], [], []))]
def zmS : List ResultVar := [.tmp 4]
noncomputable def zfg := Lq zqA zjD zsH zmS
theorem zJ7 : zq Tryz.prog zqA := zo tab mix trivial
noncomputable def UF (x0 : Int) (x1 x2 : List Int) : AS := ⟨[(0, .a (.sl 0)), (1, .a (.sl 1)), (5, .a (.v (.int .i64 x0)))], [(0, some ⟨false, .arr (.one (.i .i16)) x1⟩), (1, some ⟨false, .arr (.one (.i .i16)) x2⟩)], 2⟩
noncomputable def ziO (r : Bool) : List A := [.v (.bool r)]
theorem zuz (x0 : Int) (x1 x2 : List Int) (r : List A) (h : (cond (decide (x0 < (x1.length : Int))) (cond (inB x0 x1.length) (cond (inB x0 x2.length) (cond ((List.getD x1 (Int.toNat x0) 0) != (List.getD x2 (Int.toNat x0) 0)) (some [.v (.bool false)]) (zfg r 4 (UF (wrap .i64 (x0 + 1)) x1 x2))) none) none) (some [.v (.bool true)])) = some r) : zfg r 4 (UF x0 x1 x2) = some r :=
 zn h (by kernel_rfl)
noncomputable def Y7 (x0 : Int) (x1 x2 : List Int) : Option ((Int × (List Int) × (List Int)) ⊕ Bool) := (cond (decide (x0 < (x1.length : Int))) (cond (inB x0 x1.length) (cond (inB x0 x2.length) (cond ((List.getD x1 (Int.toNat x0) 0) != (List.getD x2 (Int.toNat x0) 0)) (some (Sum.inr false)) (some (Sum.inl ((wrap .i64 (x0 + 1)), x1, x2)))) none) none) (some (Sum.inr true)))
noncomputable def zdA (x : Int × (List Int) × (List Int)) : Option Bool := zI (fun x => Y7 x.1 x.2.1 x.2.2) FU x
noncomputable def zQW (r : List A) (x : Int × (List Int) × (List Int)) : Prop := zfg r 4 (UF x.1 x.2.1 x.2.2) = some r
noncomputable def zR9 (r : List A) : Bool → Prop := fun v => r = ziO v
theorem zGg (r : List A) : ∀ x, sem (zR9 r) (zdA x) → zQW r x :=
 fun x => zi (step := fun x => Y7 x.1 x.2.1 x.2.2) (fun x h => by
  unfold Y7 at h
  exact zuz x.1 x.2.1 x.2.2 r ((za h (fun h => (za h (fun h => (za h (fun h => (za h (fun h => zb h fun q => zj q) (fun h => zb h fun q => q))) (fun h => zf h))) (fun h => zf h))) (fun h => zb h fun q => zj q)))) FU x
noncomputable def zg9 (a0 a1 : List Int) : Option Bool := (cond ((a0.length : Int) != (a1.length : Int)) (some false) (zdA (0, a0, a1)))
theorem zFY (a0 a1 : List Int) (r : List A) : Tq zqA zjD zsH zmS r [.lst (.one (.i .i16)) a0, .lst (.one (.i .i16)) a1] = (cond ((a0.length : Int) != (a1.length : Int)) (some [.v (.bool false)]) (zfg r 4 (UF 0 a0 a1))) := by kernel_rfl
theorem zQf (a0 a1 : List Int) (v : Bool) (h : zg9 a0 a1 = some v) : (cond ((a0.length : Int) != (a1.length : Int)) (some [.v (.bool false)]) (zfg (ziO v) 4 (UF 0 a0 a1))) = some (ziO v) := by
 replace h : sem (fun w => ziO v = ziO w) (zg9 a0 a1) := ⟨v, h, rfl⟩
 unfold zg9 at h
 exact (za h (fun h => zb h fun q => zj q) (fun h => zGg (ziO v) _ h))
noncomputable def zNA : List A → ze
 | [.lst (.one (.i .i16)) a0, .lst (.one (.i .i16)) a1] => ⟨Bool, zg9 a0 a1, fun r => .one (.v (.bool r))⟩
 | _ => ze.fail
theorem zup : zC Tryz.prog 61 zNA := by
 refine good zJ7 zjD zsH zmS 2 Tryz.func61 fun rs => ?_
 unfold zNA
 split
 ·rename_i a0 a1; intro v h; exact ⟨rfl, ziO v, rfl, (zFY a0 a1 _).trans (zQf a0 a1 v h)⟩
 ·intro v h; cases h
noncomputable def zEZ := zu Tryz.f20
noncomputable def zDx : Ctx := ⟨TT, zr [(61, zNA)], zw, zU⟩
def zwt : List (Nat × zE) := []
def zz3 : List ResultVar := [.tmp 4]
theorem zLu : zq Tryz.prog zDx := zo tab mix ⟨⟨Tryz.call61, zup⟩, trivial⟩
noncomputable def ziZ (a0 a1 : List Int) : Option Bool := (Option.bind (zg9 a0 a1) fun r1 => (some r1))
theorem zGS (a0 a1 : List Int) (r : List A) : Tq zDx zwt zEZ zz3 r [.lst (.one (.i .i16)) a0, .lst (.one (.i .i16)) a1] = (Option.bind (zg9 a0 a1) fun r1 => (some [.v (.bool r1)])) := by kernel_rfl
noncomputable def zNm (r : Bool) : List A := [.v (.bool r)]
theorem zPA (a0 a1 : List Int) (v : Bool) (h : ziZ a0 a1 = some v) : (Option.bind (zg9 a0 a1) fun r1 => (some [.v (.bool r1)])) = some (zNm v) := by
 refine Eq.trans (b := Option.map zNm (ziZ a0 a1)) ?_ (by rw [h]; rfl)
 unfold ziZ
 exact (zV fun _ => rfl)
noncomputable def zOW : List A → ze
 | [.lst (.one (.i .i16)) a0, .lst (.one (.i .i16)) a1] => ⟨Bool, ziZ a0 a1, fun r => .one (.v (.bool r))⟩
 | _ => ze.fail
theorem zzv : zC Tryz.prog 20 zOW := by
 refine good zLu zwt zEZ zz3 2 Tryz.func20 fun rs => ?_
 unfold zOW
 split
 ·rename_i a0 a1; intro v h; exact ⟨rfl, zNm v, rfl, (zGS a0 a1 _).trans (zPA a0 a1 v h)⟩
 ·intro v h; cases h
end Go.RR
