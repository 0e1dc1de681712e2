/- Fields of pictures. -/
import Derived.Test.YtbmaolhjplapoaaGreatFa
import Derived.Test.YtbmaolhjplapoaaGreatFs
import Derived.Test.YtbmaolhjplapoaaGreatR3
set_option linter.unusedVariables false
set_option linter.unusedSimpArgs false
set_option linter.unusedSectionVars false
set_option maxRecDepth 100000
namespace Go.RR
open Go Go.Proofs
open Go.IntKind (wrap)
noncomputable def zr6 := zu Tryz.f135
noncomputable def zr1 : Ctx := ⟨TT, zr [], zw, zU⟩
def zjU : List (Nat × zE) := [(2, ([0, 1, 7, 8], [], []))]
def zj8 : List ResultVar := [.tmp 4]
noncomputable def ze5 := Lq zr1 zjU zr6 zj8
theorem zIn : zq Tryz.prog zr1 := zo tab mix trivial
noncomputable def UW (x0 x1 x2 : Int) (x3 : List Int) : AS := ⟨[(0, .a (.sl 0)), (1, .a (.v (.int .i64 x0))), (7, .a (.v (.int .i64 x1))), (8, .a (.v (.int .i64 x2)))], [(0, some ⟨false, .arr (.one (.i .i64)) x3⟩)], 1⟩
noncomputable def zkX (r : Int) : List A := [.v (.int .i64 r)]
theorem zxk (x0 x1 x2 : Int) (x3 : List Int) (r : List A) (h : (cond (decide (x2 < x1)) (cond (inB x2 x3.length) (cond (x0 == (List.getD x3 (Int.toNat x2) 0)) (some [.v (.int .i64 x2)]) (ze5 r 2 (UW x0 x1 (wrap .i64 (x2 + 1)) x3))) none) (some [.v (.int .i64 (-1))])) = some r) : ze5 r 2 (UW x0 x1 x2 x3) = some r :=
 zn h (by kernel_rfl)
noncomputable def Y5 (x0 x1 x2 : Int) (x3 : List Int) : Option ((Int × Int × Int × (List Int)) ⊕ Int) := (cond (decide (x2 < x1)) (cond (inB x2 x3.length) (cond (x0 == (List.getD x3 (Int.toNat x2) 0)) (some (Sum.inr x2)) (some (Sum.inl (x0, x1, (wrap .i64 (x2 + 1)), x3)))) none) (some (Sum.inr (-1))))
noncomputable def zc3 (x : Int × Int × Int × (List Int)) : Option Int := zI (fun x => Y5 x.1 x.2.1 x.2.2.1 x.2.2.2) FU x
noncomputable def zSs (r : List A) (x : Int × Int × Int × (List Int)) : Prop := ze5 r 2 (UW x.1 x.2.1 x.2.2.1 x.2.2.2) = some r
noncomputable def zMf (r : List A) : Int → Prop := fun v => r = zkX v
theorem zIO (r : List A) : ∀ x, sem (zMf r) (zc3 x) → zSs r x :=
 fun x => zi (step := fun x => Y5 x.1 x.2.1 x.2.2.1 x.2.2.2) (fun x h => by
  unfold Y5 at h
  exact zxk x.1 x.2.1 x.2.2.1 x.2.2.2 r ((za h (fun h => (za h (fun h => (za h (fun h => zb h fun q => zj q) (fun h => zb h fun q => q))) (fun h => zf h))) (fun h => zb h fun q => zj q)))) FU x
noncomputable def zhz (a0 : List Int) (a1 : Int) : Option Int := (zc3 (a1, (a0.length : Int), 0, a0))
theorem zGU (a0 : List Int) (a1 : Int) (r : List A) : Tq zr1 zjU zr6 zj8 r [.lst (.one (.i .i64)) a0, .v (.int .i64 a1)] = (ze5 r 2 (UW a1 (a0.length : Int) 0 a0)) := by kernel_rfl
theorem zRe (a0 : List Int) (a1 v : Int) (h : zhz a0 a1 = some v) : (ze5 (zkX v) 2 (UW a1 (a0.length : Int) 0 a0)) = some (zkX v) := by
 replace h : sem (fun w => zkX v = zkX w) (zhz a0 a1) := ⟨v, h, rfl⟩
 unfold zhz at h
 exact zIO (zkX v) _ h
noncomputable def zRr : List A → ze
 | [.lst (.one (.i .i64)) a0, .v (.int .i64 a1)] => ⟨Int, zhz a0 a1, fun r => .one (.v (.int .i64 r))⟩
 | _ => ze.fail
theorem zyP : zC Tryz.prog 135 zRr := by
 refine good zIn zjU zr6 zj8 2 Tryz.func135 fun rs => ?_
 unfold zRr
 split
 ·rename_i a0 a1; intro v h; exact ⟨rfl, zkX v, rfl, (zGU a0 a1 _).trans (zRe a0 a1 v h)⟩
 ·intro v h; cases h
noncomputable def zE7 := zu Tryz.f117
noncomputable def zD4 : Ctx := ⟨TT, zr [(135, zRr)], zw, zU⟩
def zv8 : List (Nat × zE) := []
def zs0 : List ResultVar := [.tmp 4]
theorem zIm : zq Tryz.prog zD4 := zo tab mix ⟨⟨Tryz.call135, zyP⟩, trivial⟩
noncomputable def zhc (a0 : List Int) (a1 : Int) : Option Bool := (Option.bind (zhz a0 a1) fun r1 => (some (decide (r1 ≥ 0))))
theorem zGk (a0 : List Int) (a1 : Int) (r : List A) : Tq zD4 zv8 zE7 zs0 r [.lst (.one (.i .i64)) a0, .v (.int .i64 a1)] = (Option.bind (zhz a0 a1) fun r1 => (some [.v (.bool (decide (r1 ≥ 0)))])) := by kernel_rfl
noncomputable def zM4 (r : Bool) : List A := [.v (.bool r)]
theorem zQN (a0 : List Int) (a1 : Int) (v : Bool) (h : zhc a0 a1 = some v) : (Option.bind (zhz a0 a1) fun r1 => (some [.v (.bool (decide (r1 ≥ 0)))])) = some (zM4 v) := by
 refine Eq.trans (b := Option.map zM4 (zhc a0 a1)) ?_ (by rw [h]; rfl)
 unfold zhc
 exact (zV fun _ => rfl)
noncomputable def zDs : List A → ze
 | [.lst (.one (.i .i64)) a0, .v (.int .i64 a1)] => ⟨Bool, zhc a0 a1, fun r => .one (.v (.bool r))⟩
 | _ => ze.fail
theorem zs6 : zC Tryz.prog 117 zDs := by
 refine good zIm zv8 zE7 zs0 2 Tryz.func117 fun rs => ?_
 unfold zDs
 split
 ·rename_i a0 a1; intro v h; exact ⟨rfl, zM4 v, rfl, (zGk a0 a1 _).trans (zQN a0 a1 v h)⟩
 ·intro v h; cases h
noncomputable def zrK := zu Tryz.f77
noncomputable def zrg : Ctx := ⟨TT, zr [(116, zDD), (117, zDs)], (zCT [(118, zfk)]), zU⟩
def zkD : List (Nat × zE) := [(3, ([3, 7, 8], [], [])), (6, ([3, 7, 8, 30, 31, 32], [], []))]
def ziN : List ResultVar := [.tmp 6]
noncomputable def Y8 := Lq zrg zkD zrK ziN
theorem zHC : zq Tryz.prog zrg := yF tab mix (l := [(116, zDD), (117, zDs)]) ⟨⟨Tryz.call116, zw2⟩, ⟨Tryz.call117, zs6⟩, trivial⟩ (zBg (l := [(118, zfk)]) ⟨⟨Tryz.call118, zof⟩, trivial⟩) zM0
noncomputable def UA (x0 x1 x2 : Int) (x3 : Nat → Int) (x4 : List Int) : AS := ⟨[(3, .a (.ptr 0 [] (0))), (7, .a (.sl 1)), (8, .a (.v (.int .i64 x0)))], [(0, some ⟨true, .box (.rc [.v (.int .i8 x1), .v (.int .i8 x2), .fa 144 .u8 x3])⟩), (1, some ⟨true, .arr (.one (.i .i64)) x4⟩)], 2⟩
noncomputable def v6 (x0 x1 x2 x3 x4 : Int) (x5 : Nat → Int) (x6 x7 : List Int) : AS := ⟨[(3, .a (.ptr 0 [] (0))), (7, .a (.sl 1)), (8, .a (.v (.int .i64 x0))), (30, .a (.sl 2)), (31, .a (.v (.int .i64 x1))), (32, .a (.v (.int .i64 x2)))], [(0, some ⟨true, .box (.rc [.v (.int .i8 x3), .v (.int .i8 x4), .fa 144 .u8 x5])⟩), (1, some ⟨true, .arr (.one (.i .i64)) x6⟩), (2, some ⟨true, .arr (.one (.i .i64)) x7⟩)], 3⟩
noncomputable def znR (r : List Int) : List A := [.lst (.one (.i .i64)) r]
theorem zy1 (x0 x1 x2 x3 x4 : Int) (x5 : Nat → Int) (x6 x7 : List Int) (r : List A) (h : (cond (decide (x2 < x1)) (cond (inB x2 x7.length) (cond (inB (List.getD x7 (Int.toNat x2) 0) 144) (cond (inB x0 x6.length) (cond (inB (List.getD x6 (Int.toNat x0) 0) 144) (cond ((x5 (Int.toNat (List.getD x7 (Int.toNat x2) 0))) == (x5 (Int.toNat (List.getD x6 (Int.toNat x0) 0)))) (Option.bind (zhc x6 (List.getD x7 (Int.toNat x2) 0)) fun r3 => (cond (!r3) (cond (zW ((List.length (x6 : List Int) + List.length ([(List.getD x7 (Int.toNat x2) 0)] : List Int)) * 8)) (Y8 r 6 (v6 x0 x1 (wrap .i64 (x2 + 1)) x3 x4 x5 (x6 ++ [(List.getD x7 (Int.toNat x2) 0)]) x7)) none) (Y8 r 6 (v6 x0 x1 (wrap .i64 (x2 + 1)) x3 x4 x5 x6 x7)))) (Y8 r 6 (v6 x0 x1 (wrap .i64 (x2 + 1)) x3 x4 x5 x6 x7))) none) none) none) none) (Y8 r 3 (UA (wrap .i64 (x0 + 1)) x3 x4 x5 x6))) = some r) : Y8 r 6 (v6 x0 x1 x2 x3 x4 x5 x6 x7) = some r :=
 zn h (by kernel_rfl)
noncomputable def wt (x0 x1 x2 x3 x4 : Int) (x5 : Nat → Int) (x6 x7 : List Int) : Option ((Int × Int × Int × Int × Int × (Nat → Int) × (List Int) × (List Int)) ⊕ ((Int × Int × Int × (Nat → Int) × (List Int)) ⊕ (List Int))) := (cond (decide (x2 < x1)) (cond (inB x2 x7.length) (cond (inB (List.getD x7 (Int.toNat x2) 0) 144) (cond (inB x0 x6.length) (cond (inB (List.getD x6 (Int.toNat x0) 0) 144) (cond ((x5 (Int.toNat (List.getD x7 (Int.toNat x2) 0))) == (x5 (Int.toNat (List.getD x6 (Int.toNat x0) 0)))) (Option.bind (zhc x6 (List.getD x7 (Int.toNat x2) 0)) fun r3 => (cond (!r3) (cond (zW ((List.length (x6 : List Int) + List.length ([(List.getD x7 (Int.toNat x2) 0)] : List Int)) * 8)) (some (Sum.inl (x0, x1, (wrap .i64 (x2 + 1)), x3, x4, x5, (x6 ++ [(List.getD x7 (Int.toNat x2) 0)]), x7))) none) (some (Sum.inl (x0, x1, (wrap .i64 (x2 + 1)), x3, x4, x5, x6, x7))))) (some (Sum.inl (x0, x1, (wrap .i64 (x2 + 1)), x3, x4, x5, x6, x7)))) none) none) none) none) (some (Sum.inr (Sum.inl ((wrap .i64 (x0 + 1)), x3, x4, x5, x6)))))
noncomputable def uv (x : Int × Int × Int × Int × Int × (Nat → Int) × (List Int) × (List Int)) : Option ((Int × Int × Int × (Nat → Int) × (List Int)) ⊕ (List Int)) := zI (fun x => wt x.1 x.2.1 x.2.2.1 x.2.2.2.1 x.2.2.2.2.1 x.2.2.2.2.2.1 x.2.2.2.2.2.2.1 x.2.2.2.2.2.2.2) FU x
noncomputable def zQu (r : List A) (x : Int × Int × Int × Int × Int × (Nat → Int) × (List Int) × (List Int)) : Prop := Y8 r 6 (v6 x.1 x.2.1 x.2.2.1 x.2.2.2.1 x.2.2.2.2.1 x.2.2.2.2.2.1 x.2.2.2.2.2.2.1 x.2.2.2.2.2.2.2) = some r
theorem zvB (x0 x1 x2 : Int) (x3 : Nat → Int) (x4 : List Int) (r : List A) (h : (cond (decide (x0 < (x4.length : Int))) (cond (inB x0 x4.length) (Option.bind (znQ (List.getD x4 (Int.toNat x0) 0) x1 x2) fun r1 => (Y8 r 6 (v6 x0 (r1.length : Int) 0 x1 x2 x3 x4 r1))) none) (Option.bind (zbR x4) fun r2 => (some [.lst (.one (.i .i64)) (r2)]))) = some r) : Y8 r 3 (UA x0 x1 x2 x3 x4) = some r :=
 zn h (by kernel_rfl)
noncomputable def Xp (x0 x1 x2 : Int) (x3 : Nat → Int) (x4 : List Int) : Option ((Int × Int × Int × (Nat → Int) × (List Int)) ⊕ (List Int)) := (cond (decide (x0 < (x4.length : Int))) (cond (inB x0 x4.length) (Option.bind (znQ (List.getD x4 (Int.toNat x0) 0) x1 x2) fun r1 => (uv (x0, (r1.length : Int), 0, x1, x2, x3, x4, r1))) none) (Option.bind (zbR x4) fun r2 => (some (Sum.inr (r2)))))
noncomputable def zdx (x : Int × Int × Int × (Nat → Int) × (List Int)) : Option (List Int) := zI (fun x => Xp x.1 x.2.1 x.2.2.1 x.2.2.2.1 x.2.2.2.2) FU x
noncomputable def zyl (r : List A) (x : Int × Int × Int × (Nat → Int) × (List Int)) : Prop := Y8 r 3 (UA x.1 x.2.1 x.2.2.1 x.2.2.2.1 x.2.2.2.2) = some r
noncomputable def zvr (r : List A) : (List Int) → Prop := fun v => r = znR v
noncomputable def zQj (r : List A) : ((Int × Int × Int × (Nat → Int) × (List Int)) ⊕ (List Int)) → Prop := Za (zyl r) (zvr r)
theorem zJi (r : List A) : ∀ x, sem (zQj r) (uv x) → zQu r x :=
 fun x => zi (step := fun x => wt x.1 x.2.1 x.2.2.1 x.2.2.2.1 x.2.2.2.2.1 x.2.2.2.2.2.1 x.2.2.2.2.2.2.1 x.2.2.2.2.2.2.2) (fun x h => by
  unfold wt at h
  exact zy1 x.1 x.2.1 x.2.2.1 x.2.2.2.1 x.2.2.2.2.1 x.2.2.2.2.2.1 x.2.2.2.2.2.2.1 x.2.2.2.2.2.2.2 r ((za h (fun h => (za h (fun h => (za h (fun h => (za h (fun h => (za h (fun h => (za h (fun h => (zT h fun r3 h => (za h (fun h => (za h (fun h => zb h fun q => q) (fun h => zf h))) (fun h => zb h fun q => q)))) (fun h => zb h fun q => q))) (fun h => zf h))) (fun h => zf h))) (fun h => zf h))) (fun h => zf h))) (fun h => zb h fun q => q)))) FU x
theorem zJn (r : List A) : ∀ x, sem (zvr r) (zdx x) → zyl r x :=
 fun x => zi (step := fun x => Xp x.1 x.2.1 x.2.2.1 x.2.2.2.1 x.2.2.2.2) (fun x h => by
  unfold Xp at h
  exact zvB x.1 x.2.1 x.2.2.1 x.2.2.2.1 x.2.2.2.2 r ((za h (fun h => (za h (fun h => (zT h fun r1 h => zJi r _ h)) (fun h => zf h))) (fun h => (zT h fun r2 h => zb h fun q => zj q))))) FU x
noncomputable def zhn (a0 a1 : Int) (a2 : Nat → Int) (a3 a4 : Int) : Option (List Int) := (zdx (0, a0, a1, a2, [(wrap .i64 (a3 + (wrap .i64 (12 * a4))))]))
theorem zHK (a0 a1 : Int) (a2 : Nat → Int) (a3 a4 : Int) (r : List A) : Tq zrg zkD zrK ziN r [.rc [.v (.int .i8 a0), .v (.int .i8 a1), .fa 144 .u8 a2], .v (.int .i64 a3), .v (.int .i64 a4)] = (Y8 r 3 (UA 0 a0 a1 a2 [(wrap .i64 (a3 + (wrap .i64 (12 * a4))))])) := by kernel_rfl
theorem zQV (a0 a1 : Int) (a2 : Nat → Int) (a3 a4 : Int) (v : List Int) (h : zhn a0 a1 a2 a3 a4 = some v) : (Y8 (znR v) 3 (UA 0 a0 a1 a2 [(wrap .i64 (a3 + (wrap .i64 (12 * a4))))])) = some (znR v) := by
 replace h : sem (fun w => znR v = znR w) (zhn a0 a1 a2 a3 a4) := ⟨v, h, rfl⟩
 unfold zhn at h
 exact zJn (znR v) _ h
noncomputable def zQ1 : List A → ze
 | [.rc [.v (.int .i8 a0), .v (.int .i8 a1), .fa 144 .u8 a2], .v (.int .i64 a3), .v (.int .i64 a4)] => ⟨(List Int), zhn a0 a1 a2 a3 a4, fun r => .one (.lst (.one (.i .i64)) r)⟩
 | _ => ze.fail
theorem zzJ : zC Tryz.prog 77 zQ1 := by
 refine good zHC zkD zrK ziN 3 Tryz.func77 fun rs => ?_
 unfold zQ1
 split
 ·rename_i a0 a1 a2 a3 a4; intro v h; exact ⟨rfl, znR v, rfl, (zHK a0 a1 a2 a3 a4 _).trans (zQV a0 a1 a2 a3 a4 v h)⟩
 ·intro v h; cases h
noncomputable def zsu := zu Tryz.f78
noncomputable def zrO : Ctx := ⟨TT, zr [(119, zPM)], zw, zU⟩
def zmr : List (Nat × zE) := [(5, ([0, 1, 4, 5, 6, 7], [], [])), (9, ([0, 1, 4, 5, 6, 7, 8, 9], [], []))]
def zkL : List ResultVar := [.cell 4 120]
noncomputable def Y1 := Lq zrO zmr zsu zkL
theorem zIk : zq Tryz.prog zrO := zo tab mix ⟨⟨Tryz.call119, zwj⟩, trivial⟩
noncomputable def zab (x0 x1 x2 x3 : Int) (x4 : Nat → Int) (x5 : Nat → Bool) (x6 : Nat → Bool) (x7 : List Int) : AS := ⟨[(0, .a (.ptr 0 [] (0))), (1, .a (.v (.int .i64 x0))), (4, .a (.ptr 1 [] (0))), (5, .a (.ptr 2 [] (0))), (6, .a (.sl 3)), (7, .a (.v (.int .i64 x1)))], [(0, some ⟨false, .box (.rc [.v (.int .i8 x2), .v (.int .i8 x3), .fa 144 .u8 x4])⟩), (1, some ⟨true, .box (.fb 144 x5)⟩), (2, some ⟨true, .box (.fb 144 x6)⟩), (3, some ⟨true, .arr (.one (.i .i64)) x7⟩)], 4⟩
noncomputable def Vg (x0 x1 x2 x3 x4 : Int) (x5 : Nat → Int) (x6 : Nat → Bool) (x7 : Nat → Bool) (x8 x9 : List Int) : AS := ⟨[(0, .a (.ptr 0 [] (0))), (1, .a (.v (.int .i64 x0))), (4, .a (.ptr 1 [] (0))), (5, .a (.ptr 2 [] (0))), (6, .a (.sl 3)), (7, .a (.v (.int .i64 x1))), (8, .a (.sl 4)), (9, .a (.v (.int .i64 x2)))], [(0, some ⟨false, .box (.rc [.v (.int .i8 x3), .v (.int .i8 x4), .fa 144 .u8 x5])⟩), (1, some ⟨true, .box (.fb 144 x6)⟩), (2, some ⟨true, .box (.fb 144 x7)⟩), (3, some ⟨true, .arr (.one (.i .i64)) x8⟩), (4, some ⟨true, .arr (.one (.i .i64)) x9⟩)], 5⟩
noncomputable def zm9 (r : Nat → Bool) : List A := [.fb 144 r]
theorem zvo (x0 x1 x2 x3 x4 : Int) (x5 : Nat → Int) (x6 : Nat → Bool) (x7 : Nat → Bool) (x8 x9 : List Int) (r : List A) (h : (cond (decide (x2 < (x9.length : Int))) (cond (inB x2 x9.length) (cond (inB (List.getD x9 (Int.toNat x2) 0) 144) (cond (!(x7 (Int.toNat (List.getD x9 (Int.toNat x2) 0)))) (cond (inB x2 x9.length) (cond (inB (List.getD x9 (Int.toNat x2) 0) 144) (cond (inB x0 144) (cond ((x5 (Int.toNat (List.getD x9 (Int.toNat x2) 0))) == (x5 (Int.toNat x0))) (cond (inB x2 x9.length) (cond (inB (List.getD x9 (Int.toNat x2) 0) 144) (cond (inB x2 x9.length) (cond (zW ((List.length (x8 : List Int) + List.length ([(List.getD x9 (Int.toNat x2) 0)] : List Int)) * 8)) (Y1 r 9 (Vg x0 x1 (wrap .i64 (x2 + 1)) x3 x4 x5 x6 (Xt x7 (Int.toNat (List.getD x9 (Int.toNat x2) 0)) true) (x8 ++ [(List.getD x9 (Int.toNat x2) 0)]) x9)) none) none) none) none) (Y1 r 9 (Vg x0 x1 (wrap .i64 (x2 + 1)) x3 x4 x5 x6 x7 x8 x9))) none) none) none) (Y1 r 9 (Vg x0 x1 (wrap .i64 (x2 + 1)) x3 x4 x5 x6 x7 x8 x9))) none) none) (Y1 r 5 (zab x0 (wrap .i64 (x1 + 1)) x3 x4 x5 x6 x7 x8))) = some r) : Y1 r 9 (Vg x0 x1 x2 x3 x4 x5 x6 x7 x8 x9) = some r :=
 zn h (by kernel_rfl)
noncomputable def wy (x0 x1 x2 x3 x4 : Int) (x5 : Nat → Int) (x6 : Nat → Bool) (x7 : Nat → Bool) (x8 x9 : List Int) : Option ((Int × Int × Int × Int × Int × (Nat → Int) × (Nat → Bool) × (Nat → Bool) × (List Int) × (List Int)) ⊕ ((Int × Int × Int × Int × (Nat → Int) × (Nat → Bool) × (Nat → Bool) × (List Int)) ⊕ (Nat → Bool))) := (cond (decide (x2 < (x9.length : Int))) (cond (inB x2 x9.length) (cond (inB (List.getD x9 (Int.toNat x2) 0) 144) (cond (!(x7 (Int.toNat (List.getD x9 (Int.toNat x2) 0)))) (cond (inB x2 x9.length) (cond (inB (List.getD x9 (Int.toNat x2) 0) 144) (cond (inB x0 144) (cond ((x5 (Int.toNat (List.getD x9 (Int.toNat x2) 0))) == (x5 (Int.toNat x0))) (cond (inB x2 x9.length) (cond (inB (List.getD x9 (Int.toNat x2) 0) 144) (cond (inB x2 x9.length) (cond (zW ((List.length (x8 : List Int) + List.length ([(List.getD x9 (Int.toNat x2) 0)] : List Int)) * 8)) (some (Sum.inl (x0, x1, (wrap .i64 (x2 + 1)), x3, x4, x5, x6, (Xt x7 (Int.toNat (List.getD x9 (Int.toNat x2) 0)) true), (x8 ++ [(List.getD x9 (Int.toNat x2) 0)]), x9))) none) none) none) none) (some (Sum.inl (x0, x1, (wrap .i64 (x2 + 1)), x3, x4, x5, x6, x7, x8, x9)))) none) none) none) (some (Sum.inl (x0, x1, (wrap .i64 (x2 + 1)), x3, x4, x5, x6, x7, x8, x9)))) none) none) (some (Sum.inr (Sum.inl (x0, (wrap .i64 (x1 + 1)), x3, x4, x5, x6, x7, x8)))))
noncomputable def uq (x : Int × Int × Int × Int × Int × (Nat → Int) × (Nat → Bool) × (Nat → Bool) × (List Int) × (List Int)) : Option ((Int × Int × Int × Int × (Nat → Int) × (Nat → Bool) × (Nat → Bool) × (List Int)) ⊕ (Nat → Bool)) := zI (fun x => wy x.1 x.2.1 x.2.2.1 x.2.2.2.1 x.2.2.2.2.1 x.2.2.2.2.2.1 x.2.2.2.2.2.2.1 x.2.2.2.2.2.2.2.1 x.2.2.2.2.2.2.2.2.1 x.2.2.2.2.2.2.2.2.2) FU x
noncomputable def zLQ (r : List A) (x : Int × Int × Int × Int × Int × (Nat → Int) × (Nat → Bool) × (Nat → Bool) × (List Int) × (List Int)) : Prop := Y1 r 9 (Vg x.1 x.2.1 x.2.2.1 x.2.2.2.1 x.2.2.2.2.1 x.2.2.2.2.2.1 x.2.2.2.2.2.2.1 x.2.2.2.2.2.2.2.1 x.2.2.2.2.2.2.2.2.1 x.2.2.2.2.2.2.2.2.2) = some r
theorem zyk (x0 x1 x2 x3 : Int) (x4 : Nat → Int) (x5 : Nat → Bool) (x6 : Nat → Bool) (x7 : List Int) (r : List A) (h : (cond (decide (x1 < (x7.length : Int))) (cond (inB x1 x7.length) (Option.bind (zlo x2 x3 x4 (List.getD x7 (Int.toNat x1) 0)) fun r1 => (Y1 r 9 (Vg x0 x1 0 x2 x3 x4 x5 x6 x7 r1))) none) (some [.fb 144 x6])) = some r) : Y1 r 5 (zab x0 x1 x2 x3 x4 x5 x6 x7) = some r :=
 zn h (by kernel_rfl)
noncomputable def Xi (x0 x1 x2 x3 : Int) (x4 : Nat → Int) (x5 : Nat → Bool) (x6 : Nat → Bool) (x7 : List Int) : Option ((Int × Int × Int × Int × (Nat → Int) × (Nat → Bool) × (Nat → Bool) × (List Int)) ⊕ (Nat → Bool)) := (cond (decide (x1 < (x7.length : Int))) (cond (inB x1 x7.length) (Option.bind (zlo x2 x3 x4 (List.getD x7 (Int.toNat x1) 0)) fun r1 => (uq (x0, x1, 0, x2, x3, x4, x5, x6, x7, r1))) none) (some (Sum.inr x6)))
noncomputable def zd3 (x : Int × Int × Int × Int × (Nat → Int) × (Nat → Bool) × (Nat → Bool) × (List Int)) : Option (Nat → Bool) := zI (fun x => Xi x.1 x.2.1 x.2.2.1 x.2.2.2.1 x.2.2.2.2.1 x.2.2.2.2.2.1 x.2.2.2.2.2.2.1 x.2.2.2.2.2.2.2) FU x
noncomputable def zxE (r : List A) (x : Int × Int × Int × Int × (Nat → Int) × (Nat → Bool) × (Nat → Bool) × (List Int)) : Prop := Y1 r 5 (zab x.1 x.2.1 x.2.2.1 x.2.2.2.1 x.2.2.2.2.1 x.2.2.2.2.2.1 x.2.2.2.2.2.2.1 x.2.2.2.2.2.2.2) = some r
noncomputable def zx0 (r : List A) : (Nat → Bool) → Prop := fun v => r = zm9 v
noncomputable def zRR (r : List A) : ((Int × Int × Int × Int × (Nat → Int) × (Nat → Bool) × (Nat → Bool) × (List Int)) ⊕ (Nat → Bool)) → Prop := Za (zxE r) (zx0 r)
theorem zHY (r : List A) : ∀ x, sem (zRR r) (uq x) → zLQ r x :=
 fun x => zi (step := fun x => wy x.1 x.2.1 x.2.2.1 x.2.2.2.1 x.2.2.2.2.1 x.2.2.2.2.2.1 x.2.2.2.2.2.2.1 x.2.2.2.2.2.2.2.1 x.2.2.2.2.2.2.2.2.1 x.2.2.2.2.2.2.2.2.2) (fun x h => by
  unfold wy at h
  exact zvo x.1 x.2.1 x.2.2.1 x.2.2.2.1 x.2.2.2.2.1 x.2.2.2.2.2.1 x.2.2.2.2.2.2.1 x.2.2.2.2.2.2.2.1 x.2.2.2.2.2.2.2.2.1 x.2.2.2.2.2.2.2.2.2 r ((za h (fun h => (za h (fun h => (za h (fun h => (za h (fun h => (za h (fun h => (za h (fun h => (za h (fun h => (za h (fun h => (za h (fun h => (za h (fun h => (za h (fun h => (za h (fun h => zb h fun q => q) (fun h => zf h))) (fun h => zf h))) (fun h => zf h))) (fun h => zf h))) (fun h => zb h fun q => q))) (fun h => zf h))) (fun h => zf h))) (fun h => zf h))) (fun h => zb h fun q => q))) (fun h => zf h))) (fun h => zf h))) (fun h => zb h fun q => q)))) FU x
theorem zIU (r : List A) : ∀ x, sem (zx0 r) (zd3 x) → zxE r x :=
 fun x => zi (step := fun x => Xi x.1 x.2.1 x.2.2.1 x.2.2.2.1 x.2.2.2.2.1 x.2.2.2.2.2.1 x.2.2.2.2.2.2.1 x.2.2.2.2.2.2.2) (fun x h => by
  unfold Xi at h
  exact zyk x.1 x.2.1 x.2.2.1 x.2.2.2.1 x.2.2.2.2.1 x.2.2.2.2.2.1 x.2.2.2.2.2.2.1 x.2.2.2.2.2.2.2 r ((za h (fun h => (za h (fun h => (zT h fun r1 h => zHY r _ h)) (fun h => zf h))) (fun h => zb h fun q => zj q)))) FU x
noncomputable def zgU (a0 a1 : Int) (a2 : Nat → Int) (a3 : Int) : Option (Nat → Bool) := (cond (inB a3 144) (zd3 (a3, 0, a0, a1, a2, zB, (Xt zB (Int.toNat a3) true), [a3])) none)
theorem zKO (a0 a1 : Int) (a2 : Nat → Int) (a3 : Int) (r : List A) : Tq zrO zmr zsu zkL r [.ref (.rc [.v (.int .i8 a0), .v (.int .i8 a1), .fa 144 .u8 a2]), .v (.int .i64 a3)] = (cond (inB a3 144) (Y1 r 5 (zab a3 0 a0 a1 a2 zB (Xt zB (Int.toNat a3) true) [a3])) none) := by kernel_rfl
theorem zNe (a0 a1 : Int) (a2 : Nat → Int) (a3 : Int) (v : Nat → Bool) (h : zgU a0 a1 a2 a3 = some v) : (cond (inB a3 144) (Y1 (zm9 v) 5 (zab a3 0 a0 a1 a2 zB (Xt zB (Int.toNat a3) true) [a3])) none) = some (zm9 v) := by
 replace h : sem (fun w => zm9 v = zm9 w) (zgU a0 a1 a2 a3) := ⟨v, h, rfl⟩
 unfold zgU at h
 exact (za h (fun h => zIU (zm9 v) _ h) (fun h => zf h))
noncomputable def zLP : List A → ze
 | [.ref (.rc [.v (.int .i8 a0), .v (.int .i8 a1), .fa 144 .u8 a2]), .v (.int .i64 a3)] => ⟨(Nat → Bool), zgU a0 a1 a2 a3, fun r => .one (.fb 144 r)⟩
 | _ => ze.fail
theorem zu3 : zC Tryz.prog 78 zLP := by
 refine good zIk zmr zsu zkL 2 Tryz.func78 fun rs => ?_
 unfold zLP
 split
 ·rename_i a0 a1 a2 a3; intro v h; exact ⟨rfl, zm9 v, rfl, (zKO a0 a1 a2 a3 _).trans (zNe a0 a1 a2 a3 v h)⟩
 ·intro v h; cases h
noncomputable def zr9 := zu Tryz.f32
noncomputable def zsO : Ctx := ⟨TT, zr [(76, zCb), (77, zQ1)], zw, zU⟩
def zjl : List (Nat × zE) := [(3, ([1, 3, 4, 11], [], [])), (8, ([1, 3, 4, 6, 11, 32, 33, 34], [], []))]
def zkT : List ResultVar := [.tmp 2]
noncomputable def Xe := Lq zsO zjl zr9 zkT
theorem zFJ : zq Tryz.prog zsO := zo tab mix ⟨⟨Tryz.call76, zhx⟩, ⟨Tryz.call77, zzJ⟩, trivial⟩
noncomputable def Wq (x0 x1 x2 : Int) (x3 : Nat → Int) (x4 : List (List Int)) (x5 : Nat → Bool) : AS := ⟨[(1, .a (.ptr 0 [] (0))), (3, .a (.sl 1)), (4, .a (.ptr 2 [] (0))), (11, .a (.v (.int .i64 x0)))], [(0, some ⟨true, .box (.rc [.v (.int .i8 x1), .v (.int .i8 x2), .fa 144 .u8 x3])⟩), (1, some ⟨true, .arr (.one (.ls .i64)) x4⟩), (2, some ⟨true, .box (.fb 144 x5)⟩)], 3⟩
noncomputable def zeE (x0 x1 x2 x3 x4 : Int) (x5 : Nat → Int) (x6 : List (List Int)) (x7 : Nat → Bool) (x8 : List Int) : AS := ⟨[(1, .a (.ptr 0 [] (0))), (3, .a (.sl 1)), (4, .a (.ptr 2 [] (0))), (6, .a (.sl 3)), (11, .a (.v (.int .i64 x0))), (32, .a (.sl 3)), (33, .a (.v (.int .i64 x1))), (34, .a (.v (.int .i64 x2)))], [(0, some ⟨true, .box (.rc [.v (.int .i8 x3), .v (.int .i8 x4), .fa 144 .u8 x5])⟩), (1, some ⟨true, .arr (.one (.ls .i64)) x6⟩), (2, some ⟨true, .box (.fb 144 x7)⟩), (3, some ⟨true, .arr (.one (.i .i64)) x8⟩)], 4⟩
noncomputable def zkc (r : List (List Int)) : List A := [.lst (.one (.ls .i64)) r]
theorem zxc (x0 x1 x2 x3 x4 : Int) (x5 : Nat → Int) (x6 : List (List Int)) (x7 : Nat → Bool) (x8 : List Int) (r : List A) (h : (cond (decide (x2 < x1)) (cond (inB x2 x8.length) (cond (inB (List.getD x8 (Int.toNat x2) 0) 144) (Xe r 8 (zeE x0 x1 (wrap .i64 (x2 + 1)) x3 x4 x5 x6 (Xt x7 (Int.toNat (List.getD x8 (Int.toNat x2) 0)) true) x8)) none) none) (cond (zW ((List.length (x6 : List (List Int)) + List.length ([x8] : List (List Int))) * 24)) (Xe r 3 (Wq (wrap .i64 (x0 + 1)) x3 x4 x5 (x6 ++ [x8]) x7)) none)) = some r) : Xe r 8 (zeE x0 x1 x2 x3 x4 x5 x6 x7 x8) = some r :=
 zn h (by kernel_rfl)
noncomputable def wC (x0 x1 x2 x3 x4 : Int) (x5 : Nat → Int) (x6 : List (List Int)) (x7 : Nat → Bool) (x8 : List Int) : Option ((Int × Int × Int × Int × Int × (Nat → Int) × (List (List Int)) × (Nat → Bool) × (List Int)) ⊕ ((Int × Int × Int × (Nat → Int) × (List (List Int)) × (Nat → Bool)) ⊕ (List (List Int)))) := (cond (decide (x2 < x1)) (cond (inB x2 x8.length) (cond (inB (List.getD x8 (Int.toNat x2) 0) 144) (some (Sum.inl (x0, x1, (wrap .i64 (x2 + 1)), x3, x4, x5, x6, (Xt x7 (Int.toNat (List.getD x8 (Int.toNat x2) 0)) true), x8))) none) none) (cond (zW ((List.length (x6 : List (List Int)) + List.length ([x8] : List (List Int))) * 24)) (some (Sum.inr (Sum.inl ((wrap .i64 (x0 + 1)), x3, x4, x5, (x6 ++ [x8]), x7)))) none))
noncomputable def uV (x : Int × Int × Int × Int × Int × (Nat → Int) × (List (List Int)) × (Nat → Bool) × (List Int)) : Option ((Int × Int × Int × (Nat → Int) × (List (List Int)) × (Nat → Bool)) ⊕ (List (List Int))) := zI (fun x => wC x.1 x.2.1 x.2.2.1 x.2.2.2.1 x.2.2.2.2.1 x.2.2.2.2.2.1 x.2.2.2.2.2.2.1 x.2.2.2.2.2.2.2.1 x.2.2.2.2.2.2.2.2) FU x
noncomputable def zOI (r : List A) (x : Int × Int × Int × Int × Int × (Nat → Int) × (List (List Int)) × (Nat → Bool) × (List Int)) : Prop := Xe r 8 (zeE x.1 x.2.1 x.2.2.1 x.2.2.2.1 x.2.2.2.2.1 x.2.2.2.2.2.1 x.2.2.2.2.2.2.1 x.2.2.2.2.2.2.2.1 x.2.2.2.2.2.2.2.2) = some r
theorem zuV (x0 x1 x2 : Int) (x3 : Nat → Int) (x4 : List (List Int)) (x5 : Nat → Bool) (r : List A) (h : (cond (decide (x0 < 144)) (cond (!(vn x1 x2 x3 (Int.tmod x0 12) (wrap .i64 (Int.tdiv x0 12)))) (Xe r 3 (Wq (wrap .i64 (x0 + 1)) x1 x2 x3 x4 x5)) (cond (inB x0 144) (cond (x5 (Int.toNat x0)) (Xe r 3 (Wq (wrap .i64 (x0 + 1)) x1 x2 x3 x4 x5)) (Option.bind (zhn x1 x2 x3 (Int.tmod x0 12) (wrap .i64 (Int.tdiv x0 12))) fun r1 => (Xe r 8 (zeE x0 (r1.length : Int) 0 x1 x2 x3 x4 x5 r1)))) none)) (some [.lst (.one (.ls .i64)) x4])) = some r) : Xe r 3 (Wq x0 x1 x2 x3 x4 x5) = some r :=
 zn h (by kernel_rfl)
noncomputable def X9 (x0 x1 x2 : Int) (x3 : Nat → Int) (x4 : List (List Int)) (x5 : Nat → Bool) : Option ((Int × Int × Int × (Nat → Int) × (List (List Int)) × (Nat → Bool)) ⊕ (List (List Int))) := (cond (decide (x0 < 144)) (cond (!(vn x1 x2 x3 (Int.tmod x0 12) (wrap .i64 (Int.tdiv x0 12)))) (some (Sum.inl ((wrap .i64 (x0 + 1)), x1, x2, x3, x4, x5))) (cond (inB x0 144) (cond (x5 (Int.toNat x0)) (some (Sum.inl ((wrap .i64 (x0 + 1)), x1, x2, x3, x4, x5))) (Option.bind (zhn x1 x2 x3 (Int.tmod x0 12) (wrap .i64 (Int.tdiv x0 12))) fun r1 => (uV (x0, (r1.length : Int), 0, x1, x2, x3, x4, x5, r1)))) none)) (some (Sum.inr x4)))
noncomputable def zcO (x : Int × Int × Int × (Nat → Int) × (List (List Int)) × (Nat → Bool)) : Option (List (List Int)) := zI (fun x => X9 x.1 x.2.1 x.2.2.1 x.2.2.2.1 x.2.2.2.2.1 x.2.2.2.2.2) FU x
noncomputable def zxl (r : List A) (x : Int × Int × Int × (Nat → Int) × (List (List Int)) × (Nat → Bool)) : Prop := Xe r 3 (Wq x.1 x.2.1 x.2.2.1 x.2.2.2.1 x.2.2.2.2.1 x.2.2.2.2.2) = some r
noncomputable def zvH (r : List A) : (List (List Int)) → Prop := fun v => r = zkc v
noncomputable def zMo (r : List A) : ((Int × Int × Int × (Nat → Int) × (List (List Int)) × (Nat → Bool)) ⊕ (List (List Int))) → Prop := Za (zxl r) (zvH r)
theorem zLH (r : List A) : ∀ x, sem (zMo r) (uV x) → zOI r x :=
 fun x => zi (step := fun x => wC x.1 x.2.1 x.2.2.1 x.2.2.2.1 x.2.2.2.2.1 x.2.2.2.2.2.1 x.2.2.2.2.2.2.1 x.2.2.2.2.2.2.2.1 x.2.2.2.2.2.2.2.2) (fun x h => by
  unfold wC at h
  exact zxc x.1 x.2.1 x.2.2.1 x.2.2.2.1 x.2.2.2.2.1 x.2.2.2.2.2.1 x.2.2.2.2.2.2.1 x.2.2.2.2.2.2.2.1 x.2.2.2.2.2.2.2.2 r ((za h (fun h => (za h (fun h => (za h (fun h => zb h fun q => q) (fun h => zf h))) (fun h => zf h))) (fun h => (za h (fun h => zb h fun q => q) (fun h => zf h)))))) FU x
theorem zH9 (r : List A) : ∀ x, sem (zvH r) (zcO x) → zxl r x :=
 fun x => zi (step := fun x => X9 x.1 x.2.1 x.2.2.1 x.2.2.2.1 x.2.2.2.2.1 x.2.2.2.2.2) (fun x h => by
  unfold X9 at h
  exact zuV x.1 x.2.1 x.2.2.1 x.2.2.2.1 x.2.2.2.2.1 x.2.2.2.2.2 r ((za h (fun h => (za h (fun h => zb h fun q => q) (fun h => (za h (fun h => (za h (fun h => zb h fun q => q) (fun h => (zT h fun r1 h => zLH r _ h)))) (fun h => zf h))))) (fun h => zb h fun q => zj q)))) FU x
noncomputable def zfy (a0 a1 : Int) (a2 : Nat → Int) : Option (List (List Int)) := (zcO (0, a0, a1, a2, [], zB))
theorem zIv (a0 a1 : Int) (a2 : Nat → Int) (r : List A) : Tq zsO zjl zr9 zkT r [.rc [.v (.int .i8 a0), .v (.int .i8 a1), .fa 144 .u8 a2]] = (Xe r 3 (Wq 0 a0 a1 a2 [] zB)) := by kernel_rfl
theorem zPn (a0 a1 : Int) (a2 : Nat → Int) (v : List (List Int)) (h : zfy a0 a1 a2 = some v) : (Xe (zkc v) 3 (Wq 0 a0 a1 a2 [] zB)) = some (zkc v) := by
 replace h : sem (fun w => zkc v = zkc w) (zfy a0 a1 a2) := ⟨v, h, rfl⟩
 unfold zfy at h
 exact zH9 (zkc v) _ h
noncomputable def zQJ : List A → ze
 | [.rc [.v (.int .i8 a0), .v (.int .i8 a1), .fa 144 .u8 a2]] => ⟨(List (List Int)), zfy a0 a1 a2, fun r => .one (.lst (.one (.ls .i64)) r)⟩
 | _ => ze.fail
theorem zv3 : zC Tryz.prog 32 zQJ := by
 refine good zFJ zjl zr9 zkT 1 Tryz.func32 fun rs => ?_
 unfold zQJ
 split
 ·rename_i a0 a1 a2; intro v h; exact ⟨rfl, zkc v, rfl, (zIv a0 a1 a2 _).trans (zPn a0 a1 a2 v h)⟩
 ·intro v h; cases h
noncomputable def zsE := zu Tryz.f34
noncomputable def zpV : Ctx := ⟨TT, zr [(48, zlU), (78, zLP), (79, zSd)], zw, zU⟩
def zkK : List (Nat × zE) := [(4, ([0, 3, 4, 5], [], [])), (9, ([0, 3, 4, 5, 6, 7], [], []))]
def zkk : List ResultVar := [.tmp 2]
noncomputable def Yy := Lq zpV zkK zsE zkk
theorem zGv : zq Tryz.prog zpV := zo tab mix ⟨⟨Tryz.call48, vg⟩, ⟨Tryz.call78, zu3⟩, ⟨Tryz.call79, zwb⟩, trivial⟩
noncomputable def WB (x0 x1 x2 : Int) (x3 : Nat → Int) (x4 : List (List Int)) (x5 : Nat → Bool) : AS := ⟨[(0, .a (.ptr 0 [] (0))), (3, .a (.sl 1)), (4, .a (.ptr 2 [] (0))), (5, .a (.v (.int .i64 x0)))], [(0, some ⟨false, .box (.rc [.v (.int .i8 x1), .v (.int .i8 x2), .fa 144 .u8 x3])⟩), (1, some ⟨true, .arr (.one (.ls .i64)) x4⟩), (2, some ⟨true, .box (.fb 144 x5)⟩)], 3⟩
noncomputable def Uq (x0 x1 x2 x3 : Int) (x4 : Nat → Int) (x5 : List (List Int)) (x6 : Nat → Bool) (x7 : Nat → Bool) : AS := ⟨[(0, .a (.ptr 0 [] (0))), (3, .a (.sl 1)), (4, .a (.ptr 2 [] (0))), (5, .a (.v (.int .i64 x0))), (6, .a (.ptr 3 [] (0))), (7, .a (.v (.int .i64 x1)))], [(0, some ⟨false, .box (.rc [.v (.int .i8 x2), .v (.int .i8 x3), .fa 144 .u8 x4])⟩), (1, some ⟨true, .arr (.one (.ls .i64)) x5⟩), (2, some ⟨true, .box (.fb 144 x6)⟩), (3, some ⟨true, .box (.fb 144 x7)⟩)], 4⟩
noncomputable def zmP (r : List (List Int)) : List A := [.lst (.one (.ls .i64)) r]
theorem zw9 (x0 x1 x2 x3 : Int) (x4 : Nat → Int) (x5 : List (List Int)) (x6 : Nat → Bool) (x7 : Nat → Bool) (r : List A) (h : (cond (decide (x1 < 144)) (cond (inB x1 144) (cond (x6 (Int.toNat x1)) (cond (inB x1 144) (Yy r 9 (Uq x0 (wrap .i64 (x1 + 1)) x2 x3 x4 x5 (Xt x6 (Int.toNat x1) true) x7)) none) (cond (inB x1 144) (cond (inB x1 144) (Yy r 9 (Uq x0 (wrap .i64 (x1 + 1)) x2 x3 x4 x5 (Xt x6 (Int.toNat x1) (x7 (Int.toNat x1))) x7)) none) none)) none) (Option.bind (zgX x7) fun r2 => (cond (zW ((List.length (x5 : List (List Int)) + List.length ([r2] : List (List Int))) * 24)) (Yy r 4 (WB (wrap .i64 (x0 + 1)) x2 x3 x4 (x5 ++ [r2]) x6)) none))) = some r) : Yy r 9 (Uq x0 x1 x2 x3 x4 x5 x6 x7) = some r :=
 zn h (by kernel_rfl)
noncomputable def wD (x0 x1 x2 x3 : Int) (x4 : Nat → Int) (x5 : List (List Int)) (x6 : Nat → Bool) (x7 : Nat → Bool) : Option ((Int × Int × Int × Int × (Nat → Int) × (List (List Int)) × (Nat → Bool) × (Nat → Bool)) ⊕ ((Int × Int × Int × (Nat → Int) × (List (List Int)) × (Nat → Bool)) ⊕ (List (List Int)))) := (cond (decide (x1 < 144)) (cond (inB x1 144) (cond (x6 (Int.toNat x1)) (cond (inB x1 144) (some (Sum.inl (x0, (wrap .i64 (x1 + 1)), x2, x3, x4, x5, (Xt x6 (Int.toNat x1) true), x7))) none) (cond (inB x1 144) (cond (inB x1 144) (some (Sum.inl (x0, (wrap .i64 (x1 + 1)), x2, x3, x4, x5, (Xt x6 (Int.toNat x1) (x7 (Int.toNat x1))), x7))) none) none)) none) (Option.bind (zgX x7) fun r2 => (cond (zW ((List.length (x5 : List (List Int)) + List.length ([r2] : List (List Int))) * 24)) (some (Sum.inr (Sum.inl ((wrap .i64 (x0 + 1)), x2, x3, x4, (x5 ++ [r2]), x6)))) none)))
noncomputable def um (x : Int × Int × Int × Int × (Nat → Int) × (List (List Int)) × (Nat → Bool) × (Nat → Bool)) : Option ((Int × Int × Int × (Nat → Int) × (List (List Int)) × (Nat → Bool)) ⊕ (List (List Int))) := zI (fun x => wD x.1 x.2.1 x.2.2.1 x.2.2.2.1 x.2.2.2.2.1 x.2.2.2.2.2.1 x.2.2.2.2.2.2.1 x.2.2.2.2.2.2.2) FU x
noncomputable def zSH (r : List A) (x : Int × Int × Int × Int × (Nat → Int) × (List (List Int)) × (Nat → Bool) × (Nat → Bool)) : Prop := Yy r 9 (Uq x.1 x.2.1 x.2.2.1 x.2.2.2.1 x.2.2.2.2.1 x.2.2.2.2.2.1 x.2.2.2.2.2.2.1 x.2.2.2.2.2.2.2) = some r
theorem zx3 (x0 x1 x2 : Int) (x3 : Nat → Int) (x4 : List (List Int)) (x5 : Nat → Bool) (r : List A) (h : (cond (decide (x0 < 144)) (cond (!(YP x1 x2 x3 x0)) (Yy r 4 (WB (wrap .i64 (x0 + 1)) x1 x2 x3 x4 x5)) (cond (inB x0 144) (cond (x5 (Int.toNat x0)) (Yy r 4 (WB (wrap .i64 (x0 + 1)) x1 x2 x3 x4 x5)) (Option.bind (zgU x1 x2 x3 x0) fun r1 => (Yy r 9 (Uq x0 0 x1 x2 x3 x4 x5 r1)))) none)) (some [.lst (.one (.ls .i64)) x4])) = some r) : Yy r 4 (WB x0 x1 x2 x3 x4 x5) = some r :=
 zn h (by kernel_rfl)
noncomputable def wR (x0 x1 x2 : Int) (x3 : Nat → Int) (x4 : List (List Int)) (x5 : Nat → Bool) : Option ((Int × Int × Int × (Nat → Int) × (List (List Int)) × (Nat → Bool)) ⊕ (List (List Int))) := (cond (decide (x0 < 144)) (cond (!(YP x1 x2 x3 x0)) (some (Sum.inl ((wrap .i64 (x0 + 1)), x1, x2, x3, x4, x5))) (cond (inB x0 144) (cond (x5 (Int.toNat x0)) (some (Sum.inl ((wrap .i64 (x0 + 1)), x1, x2, x3, x4, x5))) (Option.bind (zgU x1 x2 x3 x0) fun r1 => (um (x0, 0, x1, x2, x3, x4, x5, r1)))) none)) (some (Sum.inr x4)))
noncomputable def zdl (x : Int × Int × Int × (Nat → Int) × (List (List Int)) × (Nat → Bool)) : Option (List (List Int)) := zI (fun x => wR x.1 x.2.1 x.2.2.1 x.2.2.2.1 x.2.2.2.2.1 x.2.2.2.2.2) FU x
noncomputable def zte (r : List A) (x : Int × Int × Int × (Nat → Int) × (List (List Int)) × (Nat → Bool)) : Prop := Yy r 4 (WB x.1 x.2.1 x.2.2.1 x.2.2.2.1 x.2.2.2.2.1 x.2.2.2.2.2) = some r
noncomputable def zx4 (r : List A) : (List (List Int)) → Prop := fun v => r = zmP v
noncomputable def zNs (r : List A) : ((Int × Int × Int × (Nat → Int) × (List (List Int)) × (Nat → Bool)) ⊕ (List (List Int))) → Prop := Za (zte r) (zx4 r)
theorem zGJ (r : List A) : ∀ x, sem (zNs r) (um x) → zSH r x :=
 fun x => zi (step := fun x => wD x.1 x.2.1 x.2.2.1 x.2.2.2.1 x.2.2.2.2.1 x.2.2.2.2.2.1 x.2.2.2.2.2.2.1 x.2.2.2.2.2.2.2) (fun x h => by
  unfold wD at h
  exact zw9 x.1 x.2.1 x.2.2.1 x.2.2.2.1 x.2.2.2.2.1 x.2.2.2.2.2.1 x.2.2.2.2.2.2.1 x.2.2.2.2.2.2.2 r ((za h (fun h => (za h (fun h => (za h (fun h => (za h (fun h => zb h fun q => q) (fun h => zf h))) (fun h => (za h (fun h => (za h (fun h => zb h fun q => q) (fun h => zf h))) (fun h => zf h))))) (fun h => zf h))) (fun h => (zT h fun r2 h => (za h (fun h => zb h fun q => q) (fun h => zf h))))))) FU x
theorem zG7 (r : List A) : ∀ x, sem (zx4 r) (zdl x) → zte r x :=
 fun x => zi (step := fun x => wR x.1 x.2.1 x.2.2.1 x.2.2.2.1 x.2.2.2.2.1 x.2.2.2.2.2) (fun x h => by
  unfold wR at h
  exact zx3 x.1 x.2.1 x.2.2.1 x.2.2.2.1 x.2.2.2.2.1 x.2.2.2.2.2 r ((za h (fun h => (za h (fun h => zb h fun q => q) (fun h => (za h (fun h => (za h (fun h => zb h fun q => q) (fun h => (zT h fun r1 h => zGJ r _ h)))) (fun h => zf h))))) (fun h => zb h fun q => zj q)))) FU x
noncomputable def zfB (a0 a1 : Int) (a2 : Nat → Int) : Option (List (List Int)) := (zdl (0, a0, a1, a2, [], zB))
theorem zLp (a0 a1 : Int) (a2 : Nat → Int) (r : List A) : Tq zpV zkK zsE zkk r [.ref (.rc [.v (.int .i8 a0), .v (.int .i8 a1), .fa 144 .u8 a2])] = (Yy r 4 (WB 0 a0 a1 a2 [] zB)) := by kernel_rfl
theorem zP3 (a0 a1 : Int) (a2 : Nat → Int) (v : List (List Int)) (h : zfB a0 a1 a2 = some v) : (Yy (zmP v) 4 (WB 0 a0 a1 a2 [] zB)) = some (zmP v) := by
 replace h : sem (fun w => zmP v = zmP w) (zfB a0 a1 a2) := ⟨v, h, rfl⟩
 unfold zfB at h
 exact zG7 (zmP v) _ h
noncomputable def zL7 : List A → ze
 | [.ref (.rc [.v (.int .i8 a0), .v (.int .i8 a1), .fa 144 .u8 a2])] => ⟨(List (List Int)), zfB a0 a1 a2, fun r => .one (.lst (.one (.ls .i64)) r)⟩
 | _ => ze.fail
theorem zt3 : zC Tryz.prog 34 zL7 := by
 refine good zGv zkK zsE zkk 1 Tryz.func34 fun rs => ?_
 unfold zL7
 split
 ·rename_i a0 a1 a2; intro v h; exact ⟨rfl, zmP v, rfl, (zLp a0 a1 a2 _).trans (zP3 a0 a1 a2 v h)⟩
 ·intro v h; cases h
noncomputable def zDy := zu Tryz.f6
noncomputable def zEN : Ctx := ⟨TT, zr [(31, zDP), (32, zQJ)], zw, zU⟩
def ztO : List (Nat × zE) := []
def zvS : List ResultVar := [.tmp 2, .tmp 3]
theorem zIz : zq Tryz.prog zEN := zo tab mix ⟨⟨Tryz.call31, zh1⟩, ⟨Tryz.call32, zv3⟩, trivial⟩
noncomputable def znD (a0 a1 : Int) (a2 : Nat → Int) : Option ((List (List Int)) × Int) := (cond (!(Vx a0 a1 a2)) (some ([], 1)) (Option.bind (zfy a0 a1 a2) fun r1 => (some (r1, 0))))
theorem zGe (a0 a1 : Int) (a2 : Nat → Int) (r : List A) : Tq zEN ztO zDy zvS r [.rc [.v (.int .i8 a0), .v (.int .i8 a1), .fa 144 .u8 a2]] = (cond (!(Vx a0 a1 a2)) (some [.lst (.one (.ls .i64)) [], .v (.int .i64 1)]) (Option.bind (zfy a0 a1 a2) fun r1 => (some [.lst (.one (.ls .i64)) r1, .v (.int .i64 0)]))) := by kernel_rfl
noncomputable def zEj (r : (List (List Int)) × Int) : List A := [.lst (.one (.ls .i64)) r.1, .v (.int .i64 r.2)]
theorem zRo (a0 a1 : Int) (a2 : Nat → Int) (v : (List (List Int)) × Int) (h : znD a0 a1 a2 = some v) : (cond (!(Vx a0 a1 a2)) (some [.lst (.one (.ls .i64)) [], .v (.int .i64 1)]) (Option.bind (zfy a0 a1 a2) fun r1 => (some [.lst (.one (.ls .i64)) r1, .v (.int .i64 0)]))) = some (zEj v) := by
 refine Eq.trans (b := Option.map zEj (znD a0 a1 a2)) ?_ (by rw [h]; rfl)
 unfold znD
 exact (zM (Option.map zEj) rfl (zV fun _ => rfl))
noncomputable def zPb : List A → ze
 | [.rc [.v (.int .i8 a0), .v (.int .i8 a1), .fa 144 .u8 a2]] => ⟨((List (List Int)) × Int), znD a0 a1 a2, fun r => .tup [.lst (.one (.ls .i64)) r.1, .v (.int .i64 r.2)]⟩
 | _ => ze.fail
theorem zzA : zC Tryz.prog 6 zPb := by
 refine good zIz ztO zDy zvS 1 Tryz.func6 fun rs => ?_
 unfold zPb
 split
 ·rename_i a0 a1 a2; intro v h; exact ⟨rfl, zEj v, rfl, (zGe a0 a1 a2 _).trans (zRo a0 a1 a2 v h)⟩
 ·intro v h; cases h
noncomputable def zBT := zu Tryz.f7
noncomputable def zC2 : Ctx := ⟨TT, zr [(33, zM9), (34, zL7)], zw, zU⟩
def zww : List (Nat × zE) := []
def ztt : List ResultVar := [.tmp 2, .tmp 3]
theorem zKB : zq Tryz.prog zC2 := zo tab mix ⟨⟨Tryz.call33, zyp⟩, ⟨Tryz.call34, zt3⟩, trivial⟩
noncomputable def zi0 (a0 a1 : Int) (a2 : Nat → Int) : Option ((List (List Int)) × Int) := (cond (!(Vk a0 a1 a2)) (some ([], 1)) (Option.bind (zfB a0 a1 a2) fun r1 => (some (r1, 0))))
theorem zJK (a0 a1 : Int) (a2 : Nat → Int) (r : List A) : Tq zC2 zww zBT ztt r [.rc [.v (.int .i8 a0), .v (.int .i8 a1), .fa 144 .u8 a2]] = (cond (!(Vk a0 a1 a2)) (some [.lst (.one (.ls .i64)) [], .v (.int .i64 1)]) (Option.bind (zfB a0 a1 a2) fun r1 => (some [.lst (.one (.ls .i64)) r1, .v (.int .i64 0)]))) := by kernel_rfl
noncomputable def zBD (r : (List (List Int)) × Int) : List A := [.lst (.one (.ls .i64)) r.1, .v (.int .i64 r.2)]
theorem zQe (a0 a1 : Int) (a2 : Nat → Int) (v : (List (List Int)) × Int) (h : zi0 a0 a1 a2 = some v) : (cond (!(Vk a0 a1 a2)) (some [.lst (.one (.ls .i64)) [], .v (.int .i64 1)]) (Option.bind (zfB a0 a1 a2) fun r1 => (some [.lst (.one (.ls .i64)) r1, .v (.int .i64 0)]))) = some (zBD v) := by
 refine Eq.trans (b := Option.map zBD (zi0 a0 a1 a2)) ?_ (by rw [h]; rfl)
 unfold zi0
 exact (zM (Option.map zBD) rfl (zV fun _ => rfl))
noncomputable def zMy : List A → ze
 | [.rc [.v (.int .i8 a0), .v (.int .i8 a1), .fa 144 .u8 a2]] => ⟨((List (List Int)) × Int), zi0 a0 a1 a2, fun r => .tup [.lst (.one (.ls .i64)) r.1, .v (.int .i64 r.2)]⟩
 | _ => ze.fail
theorem zys : zC Tryz.prog 7 zMy := by
 refine good zKB zww zBT ztt 1 Tryz.func7 fun rs => ?_
 unfold zMy
 split
 ·rename_i a0 a1 a2; intro v h; exact ⟨rfl, zBD v, rfl, (zJK a0 a1 a2 _).trans (zQe a0 a1 a2 v h)⟩
 ·intro v h; cases h
noncomputable def zp4 := zu Tryz.f35
noncomputable def zq8 : Ctx := ⟨TT, zr [], zw, zU⟩
def zl6 : List (Nat × zE) := [(4, ([0, 1, 5], [], []))]
def zi5 : List ResultVar := [.tmp 4]
noncomputable def zfx := Lq zq8 zl6 zp4 zi5
theorem zKu : zq Tryz.prog zq8 := zo tab mix trivial
noncomputable def zaf (x0 : Int) (x1 x2 : List Int) : AS := ⟨[(0, .a (.sl 0)), (1, .a (.sl 1)), (5, .a (.v (.int .i64 x0)))], [(0, some ⟨false, .arr (.one (.i .i64)) x1⟩), (1, some ⟨false, .arr (.one (.i .i64)) x2⟩)], 2⟩
noncomputable def zjB (r : Bool) : List A := [.v (.bool r)]
theorem zuG (x0 : Int) (x1 x2 : List Int) (r : List A) (h : (cond (decide (x0 < (x1.length : Int))) (cond (inB x0 x1.length) (cond (inB x0 x2.length) (cond ((List.getD x1 (Int.toNat x0) 0) != (List.getD x2 (Int.toNat x0) 0)) (some [.v (.bool false)]) (zfx r 4 (zaf (wrap .i64 (x0 + 1)) x1 x2))) none) none) (some [.v (.bool true)])) = some r) : zfx r 4 (zaf x0 x1 x2) = some r :=
 zn h (by kernel_rfl)
noncomputable def wa (x0 : Int) (x1 x2 : List Int) : Option ((Int × (List Int) × (List Int)) ⊕ Bool) := (cond (decide (x0 < (x1.length : Int))) (cond (inB x0 x1.length) (cond (inB x0 x2.length) (cond ((List.getD x1 (Int.toNat x0) 0) != (List.getD x2 (Int.toNat x0) 0)) (some (Sum.inr false)) (some (Sum.inl ((wrap .i64 (x0 + 1)), x1, x2)))) none) none) (some (Sum.inr true)))
noncomputable def zcG (x : Int × (List Int) × (List Int)) : Option Bool := zI (fun x => wa x.1 x.2.1 x.2.2) FU x
noncomputable def zSv (r : List A) (x : Int × (List Int) × (List Int)) : Prop := zfx r 4 (zaf x.1 x.2.1 x.2.2) = some r
noncomputable def zR6 (r : List A) : Bool → Prop := fun v => r = zjB v
theorem zLG (r : List A) : ∀ x, sem (zR6 r) (zcG x) → zSv r x :=
 fun x => zi (step := fun x => wa x.1 x.2.1 x.2.2) (fun x h => by
  unfold wa at h
  exact zuG x.1 x.2.1 x.2.2 r ((za h (fun h => (za h (fun h => (za h (fun h => (za h (fun h => zb h fun q => zj q) (fun h => zb h fun q => q))) (fun h => zf h))) (fun h => zf h))) (fun h => zb h fun q => zj q)))) FU x
noncomputable def zhP (a0 a1 : List Int) : Option Bool := (cond ((a0.length : Int) != (a1.length : Int)) (some false) (zcG (0, a0, a1)))
theorem zJX (a0 a1 : List Int) (r : List A) : Tq zq8 zl6 zp4 zi5 r [.lst (.one (.i .i64)) a0, .lst (.one (.i .i64)) a1] = (cond ((a0.length : Int) != (a1.length : Int)) (some [.v (.bool false)]) (zfx r 4 (zaf 0 a0 a1))) := by kernel_rfl
theorem zO7 (a0 a1 : List Int) (v : Bool) (h : zhP a0 a1 = some v) : (cond ((a0.length : Int) != (a1.length : Int)) (some [.v (.bool false)]) (zfx (zjB v) 4 (zaf 0 a0 a1))) = some (zjB v) := by
 replace h : sem (fun w => zjB v = zjB w) (zhP a0 a1) := ⟨v, h, rfl⟩
 unfold zhP at h
 exact (za h (fun h => zb h fun q => zj q) (fun h => zLG (zjB v) _ h))
noncomputable def zQd : List A → ze
 | [.lst (.one (.i .i64)) a0, .lst (.one (.i .i64)) a1] => ⟨Bool, zhP a0 a1, fun r => .one (.v (.bool r))⟩
 | _ => ze.fail
theorem zuq : zC Tryz.prog 35 zQd := by
 refine good zKu zl6 zp4 zi5 2 Tryz.func35 fun rs => ?_
 unfold zQd
 split
 ·rename_i a0 a1; intro v h; exact ⟨rfl, zjB v, rfl, (zJX a0 a1 _).trans (zO7 a0 a1 v h)⟩
 ·intro v h; cases h
noncomputable def zsy := zu Tryz.f8
noncomputable def zqg : Ctx := ⟨TT, zr [(35, zQd)], zw, zU⟩
def zmM : List (Nat × zE) := [(4, ([0, 1, 5], [], []))]
def zkO : List ResultVar := [.tmp 4]
noncomputable def zeU := Lq zqg zmM zsy zkO
theorem zLh : zq Tryz.prog zqg := zo tab mix ⟨⟨Tryz.call35, zuq⟩, trivial⟩
noncomputable def UQ (x0 : Int) (x1 : List (List Int)) (x2 : List (List Int)) : AS := ⟨[(0, .a (.sl 0)), (1, .a (.sl 1)), (5, .a (.v (.int .i64 x0)))], [(0, some ⟨false, .arr (.one (.ls .i64)) x1⟩), (1, some ⟨false, .arr (.one (.ls .i64)) x2⟩)], 2⟩
noncomputable def zjY (r : Bool) : List A := [.v (.bool r)]
theorem zwJ (x0 : Int) (x1 : List (List Int)) (x2 : List (List Int)) (r : List A) (h : (cond (decide (x0 < (x1.length : Int))) (cond (inB x0 x1.length) (cond (inB x0 x2.length) (Option.bind (zhP (List.getD x1 (Int.toNat x0) ([] : List Int)) (List.getD x2 (Int.toNat x0) ([] : List Int))) fun r1 => (cond (!r1) (some [.v (.bool false)]) (zeU r 4 (UQ (wrap .i64 (x0 + 1)) x1 x2)))) none) none) (some [.v (.bool true)])) = some r) : zeU r 4 (UQ x0 x1 x2) = some r :=
 zn h (by kernel_rfl)
noncomputable def we (x0 : Int) (x1 : List (List Int)) (x2 : List (List Int)) : Option ((Int × (List (List Int)) × (List (List Int))) ⊕ Bool) := (cond (decide (x0 < (x1.length : Int))) (cond (inB x0 x1.length) (cond (inB x0 x2.length) (Option.bind (zhP (List.getD x1 (Int.toNat x0) ([] : List Int)) (List.getD x2 (Int.toNat x0) ([] : List Int))) fun r1 => (cond (!r1) (some (Sum.inr false)) (some (Sum.inl ((wrap .i64 (x0 + 1)), x1, x2))))) none) none) (some (Sum.inr true)))
noncomputable def zdL (x : Int × (List (List Int)) × (List (List Int))) : Option Bool := zI (fun x => we x.1 x.2.1 x.2.2) FU x
noncomputable def zPR (r : List A) (x : Int × (List (List Int)) × (List (List Int))) : Prop := zeU r 4 (UQ x.1 x.2.1 x.2.2) = some r
noncomputable def zNq (r : List A) : Bool → Prop := fun v => r = zjY v
theorem zIu (r : List A) : ∀ x, sem (zNq r) (zdL x) → zPR r x :=
 fun x => zi (step := fun x => we x.1 x.2.1 x.2.2) (fun x h => by
  unfold we at h
  exact zwJ x.1 x.2.1 x.2.2 r ((za h (fun h => (za h (fun h => (za h (fun h => (zT h fun r1 h => (za h (fun h => zb h fun q => zj q) (fun h => zb h fun q => q)))) (fun h => zf h))) (fun h => zf h))) (fun h => zb h fun q => zj q)))) FU x
noncomputable def zky (a0 : List (List Int)) (a1 : List (List Int)) : Option Bool := (cond ((a0.length : Int) != (a1.length : Int)) (some false) (zdL (0, a0, a1)))
theorem zLn (a0 : List (List Int)) (a1 : List (List Int)) (r : List A) : Tq zqg zmM zsy zkO r [.lst (.one (.ls .i64)) a0, .lst (.one (.ls .i64)) a1] = (cond ((a0.length : Int) != (a1.length : Int)) (some [.v (.bool false)]) (zeU r 4 (UQ 0 a0 a1))) := by kernel_rfl
theorem zMl (a0 : List (List Int)) (a1 : List (List Int)) (v : Bool) (h : zky a0 a1 = some v) : (cond ((a0.length : Int) != (a1.length : Int)) (some [.v (.bool false)]) (zeU (zjY v) 4 (UQ 0 a0 a1))) = some (zjY v) := by
 replace h : sem (fun w => zjY v = zjY w) (zky a0 a1) := ⟨v, h, rfl⟩
 unfold zky at h
 exact (za h (fun h => zb h fun q => zj q) (fun h => zIu (zjY v) _ h))
noncomputable def zOM : List A → ze
 | [.lst (.one (.ls .i64)) a0, .lst (.one (.ls .i64)) a1] => ⟨Bool, zky a0 a1, fun r => .one (.v (.bool r))⟩
 | _ => ze.fail
theorem zus : zC Tryz.prog 8 zOM := by
 refine good zLh zmM zsy zkO 2 Tryz.func8 fun rs => ?_
 unfold zOM
 split
 ·rename_i a0 a1; intro v h; exact ⟨rfl, zjY v, rfl, (zLn a0 a1 _).trans (zMl a0 a1 v h)⟩
 ·intro v h; cases h
end Go.RR
