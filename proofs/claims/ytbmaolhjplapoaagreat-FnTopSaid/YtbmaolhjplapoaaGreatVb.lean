/- Tones of pictures. -/
import Derived.Test.YtbmaolhjplapoaaGreatVa
set_option linter.unusedVariables false
set_option linter.unusedSimpArgs false
set_option linter.unusedSectionVars false
set_option maxRecDepth 100000
namespace Go.RR
open Go Go.Proofs
open Go.IntKind (wrap)
noncomputable def zqa := zu Tryz.f38
noncomputable def zrw : Ctx := ⟨TT, zr [(75, zDL), (84, zpL)], zw, zU⟩
def zki : List (Nat × zE) := [(4, ([1, 14, 15], [], []))]
def zm2 : List ResultVar := [.tmp 2]
noncomputable def zba := Lq zrw zki zqa zm2
theorem zFL : zq Tryz.prog zrw := zo tab mix ⟨⟨Tryz.call75, zhh⟩, ⟨Tryz.call84, vG⟩, trivial⟩
noncomputable def VV (x0 : Nat → Nat → Int) (x1 x2 x3 : Int) (x4 : Nat → Nat → Int) : AS := ⟨[(1, .a (.ptr 0 [] (0))), (14, .a (.fa2 144 3 .u8 x0)), (15, .a (.v (.int .i64 x1)))], [(0, some ⟨true, .box (.rc [.v (.int .i8 x2), .v (.int .i8 x3), .fa2 144 3 .u8 x4])⟩)], 1⟩
noncomputable def znd (r : Bool) : List A := [.v (.bool r)]
theorem zvT (x0 : Nat → Nat → Int) (x1 x2 x3 : Int) (x4 : Nat → Nat → Int) (r : List A) (h : (cond (decide (x1 < 144)) (cond (inB x1 144) (cond (!(wd (Int.tmod x1 12) (wrap .i64 (Int.tdiv x1 12)) x2 x3)) (cond (!(W6 3 (x0 (Int.toNat x1)) zF)) (some [.v (.bool false)]) (zba r 4 (VV x0 (wrap .i64 (x1 + 1)) x2 x3 x4))) (zba r 4 (VV x0 (wrap .i64 (x1 + 1)) x2 x3 x4))) none) (some [.v (.bool true)])) = some r) : zba r 4 (VV x0 x1 x2 x3 x4) = some r :=
 zn h (by kernel_rfl)
noncomputable def wE (x0 : Nat → Nat → Int) (x1 x2 x3 : Int) (x4 : Nat → Nat → Int) : Option (((Nat → Nat → Int) × Int × Int × Int × (Nat → Nat → Int)) ⊕ Bool) := (cond (decide (x1 < 144)) (cond (inB x1 144) (cond (!(wd (Int.tmod x1 12) (wrap .i64 (Int.tdiv x1 12)) x2 x3)) (cond (!(W6 3 (x0 (Int.toNat x1)) zF)) (some (Sum.inr false)) (some (Sum.inl (x0, (wrap .i64 (x1 + 1)), x2, x3, x4)))) (some (Sum.inl (x0, (wrap .i64 (x1 + 1)), x2, x3, x4)))) none) (some (Sum.inr true)))
noncomputable def zcN (x : (Nat → Nat → Int) × Int × Int × Int × (Nat → Nat → Int)) : Option Bool := zI (fun x => wE x.1 x.2.1 x.2.2.1 x.2.2.2.1 x.2.2.2.2) FU x
noncomputable def zRT (r : List A) (x : (Nat → Nat → Int) × Int × Int × Int × (Nat → Nat → Int)) : Prop := zba r 4 (VV x.1 x.2.1 x.2.2.1 x.2.2.2.1 x.2.2.2.2) = some r
noncomputable def zR0 (r : List A) : Bool → Prop := fun v => r = znd v
theorem zLA (r : List A) : ∀ x, sem (zR0 r) (zcN x) → zRT r x :=
 fun x => zi (step := fun x => wE x.1 x.2.1 x.2.2.1 x.2.2.2.1 x.2.2.2.2) (fun x h => by
  unfold wE at h
  exact zvT x.1 x.2.1 x.2.2.1 x.2.2.2.1 x.2.2.2.2 r ((za h (fun h => (za h (fun h => (za h (fun h => (za h (fun h => zb h fun q => zj q) (fun h => zb h fun q => q))) (fun h => zb h fun q => q))) (fun h => zf h))) (fun h => zb h fun q => zj q)))) FU x
noncomputable def zhw (a0 a1 : Int) (a2 : Nat → Nat → Int) : Option Bool := (cond (!(vr (wrap .i64 a0) (wrap .i64 a1))) (some false) (zcN (a2, 0, a0, a1, a2)))
theorem zK7 (a0 a1 : Int) (a2 : Nat → Nat → Int) (r : List A) : Tq zrw zki zqa zm2 r [.rc [.v (.int .i8 a0), .v (.int .i8 a1), .fa2 144 3 .u8 a2]] = (cond (!(vr (wrap .i64 a0) (wrap .i64 a1))) (some [.v (.bool false)]) (zba r 4 (VV a2 0 a0 a1 a2))) := by kernel_rfl
theorem zQP (a0 a1 : Int) (a2 : Nat → Nat → Int) (v : Bool) (h : zhw a0 a1 a2 = some v) : (cond (!(vr (wrap .i64 a0) (wrap .i64 a1))) (some [.v (.bool false)]) (zba (znd v) 4 (VV a2 0 a0 a1 a2))) = some (znd v) := by
 replace h : sem (fun w => znd v = znd w) (zhw a0 a1 a2) := ⟨v, h, rfl⟩
 unfold zhw at h
 exact (za h (fun h => zb h fun q => zj q) (fun h => zLA (znd v) _ h))
noncomputable def zBV : List A → ze
 | [.rc [.v (.int .i8 a0), .v (.int .i8 a1), .fa2 144 3 .u8 a2]] => ⟨Bool, zhw a0 a1 a2, fun r => .one (.v (.bool r))⟩
 | _ => ze.fail
theorem zhO : zC Tryz.prog 38 zBV := by
 refine good zFL zki zqa zm2 1 Tryz.func38 fun rs => ?_
 unfold zBV
 split
 ·rename_i a0 a1 a2; intro v h; exact ⟨rfl, znd v, rfl, (zK7 a0 a1 a2 _).trans (zQP a0 a1 a2 v h)⟩
 ·intro v h; cases h
noncomputable def zqB := zu Tryz.f121
noncomputable def zrH : Ctx := ⟨TT, zr [], zw, zU⟩
def znj : List (Nat × zE) := [(2, ([0, 3, 7, 8], [], []))]
def zkJ : List ResultVar := [.tmp 4]
noncomputable def zfh := Lq zrH znj zqB zkJ
theorem zGa : zq Tryz.prog zrH := zo tab mix trivial
noncomputable def zaj (x0 x1 : Int) (x2 : List (Nat → Int)) (x3 : Nat → Int) : AS := ⟨[(0, .a (.sl 0)), (3, .a (.ptr 1 [] (0))), (7, .a (.v (.int .i64 x0))), (8, .a (.v (.int .i64 x1)))], [(0, some ⟨false, .arr (.one (.fa 3 .u8)) x2⟩), (1, some ⟨true, .box (.fa 3 .u8 x3)⟩)], 2⟩
noncomputable def zk9 (r : Int) : List A := [.v (.int .i64 r)]
theorem zzt (x0 x1 : Int) (x2 : List (Nat → Int)) (x3 : Nat → Int) (r : List A) (h : (cond (decide (x1 < x0)) (cond (inB x1 x2.length) (cond (W6 3 x3 (List.getD x2 (Int.toNat x1) zF)) (some [.v (.int .i64 x1)]) (zfh r 2 (zaj x0 (wrap .i64 (x1 + 1)) x2 x3))) none) (some [.v (.int .i64 (-1))])) = some r) : zfh r 2 (zaj x0 x1 x2 x3) = some r :=
 zn h (by kernel_rfl)
noncomputable def wW (x0 x1 : Int) (x2 : List (Nat → Int)) (x3 : Nat → Int) : Option ((Int × Int × (List (Nat → Int)) × (Nat → Int)) ⊕ Int) := (cond (decide (x1 < x0)) (cond (inB x1 x2.length) (cond (W6 3 x3 (List.getD x2 (Int.toNat x1) zF)) (some (Sum.inr x1)) (some (Sum.inl (x0, (wrap .i64 (x1 + 1)), x2, x3)))) none) (some (Sum.inr (-1))))
noncomputable def zdv (x : Int × Int × (List (Nat → Int)) × (Nat → Int)) : Option Int := zI (fun x => wW x.1 x.2.1 x.2.2.1 x.2.2.2) FU x
noncomputable def zQq (r : List A) (x : Int × Int × (List (Nat → Int)) × (Nat → Int)) : Prop := zfh r 2 (zaj x.1 x.2.1 x.2.2.1 x.2.2.2) = some r
noncomputable def zMI (r : List A) : Int → Prop := fun v => r = zk9 v
theorem zK5 (r : List A) : ∀ x, sem (zMI r) (zdv x) → zQq r x :=
 fun x => zi (step := fun x => wW x.1 x.2.1 x.2.2.1 x.2.2.2) (fun x h => by
  unfold wW at h
  exact zzt x.1 x.2.1 x.2.2.1 x.2.2.2 r ((za h (fun h => (za h (fun h => (za h (fun h => zb h fun q => zj q) (fun h => zb h fun q => q))) (fun h => zf h))) (fun h => zb h fun q => zj q)))) FU x
noncomputable def zfm (a0 : List (Nat → Int)) (a1 : Nat → Int) : Option Int := (zdv ((a0.length : Int), 0, a0, a1))
theorem zIP (a0 : List (Nat → Int)) (a1 : Nat → Int) (r : List A) : Tq zrH znj zqB zkJ r [.lst (.one (.fa 3 .u8)) a0, .fa 3 .u8 a1] = (zfh r 2 (zaj (a0.length : Int) 0 a0 a1)) := by kernel_rfl
theorem zRu (a0 : List (Nat → Int)) (a1 : Nat → Int) (v : Int) (h : zfm a0 a1 = some v) : (zfh (zk9 v) 2 (zaj (a0.length : Int) 0 a0 a1)) = some (zk9 v) := by
 replace h : sem (fun w => zk9 v = zk9 w) (zfm a0 a1) := ⟨v, h, rfl⟩
 unfold zfm at h
 exact zK5 (zk9 v) _ h
noncomputable def zMH : List A → ze
 | [.lst (.one (.fa 3 .u8)) a0, .fa 3 .u8 a1] => ⟨Int, zfm a0 a1, fun r => .one (.v (.int .i64 r))⟩
 | _ => ze.fail
theorem zwq : zC Tryz.prog 121 zMH := by
 refine good zGa znj zqB zkJ 2 Tryz.func121 fun rs => ?_
 unfold zMH
 split
 ·rename_i a0 a1; intro v h; exact ⟨rfl, zk9 v, rfl, (zIP a0 a1 _).trans (zRu a0 a1 v h)⟩
 ·intro v h; cases h
noncomputable def zEr := zu Tryz.f85
noncomputable def zDI : Ctx := ⟨TT, zr [(121, zMH)], zw, zU⟩
def ztP : List (Nat × zE) := []
def zzm : List ResultVar := [.tmp 4]
theorem zFl : zq Tryz.prog zDI := zo tab mix ⟨⟨Tryz.call121, zwq⟩, trivial⟩
noncomputable def zhk (a0 : List (Nat → Int)) (a1 : Nat → Int) : Option Bool := (Option.bind (zfm a0 a1) fun r1 => (some (decide (r1 ≥ 0))))
theorem zF8 (a0 : List (Nat → Int)) (a1 : Nat → Int) (r : List A) : Tq zDI ztP zEr zzm r [.lst (.one (.fa 3 .u8)) a0, .fa 3 .u8 a1] = (Option.bind (zfm a0 a1) fun r1 => (some [.v (.bool (decide (r1 ≥ 0)))])) := by kernel_rfl
noncomputable def zSz (r : Bool) : List A := [.v (.bool r)]
theorem zOs (a0 : List (Nat → Int)) (a1 : Nat → Int) (v : Bool) (h : zhk a0 a1 = some v) : (Option.bind (zfm a0 a1) fun r1 => (some [.v (.bool (decide (r1 ≥ 0)))])) = some (zSz v) := by
 refine Eq.trans (b := Option.map zSz (zhk a0 a1)) ?_ (by rw [h]; rfl)
 unfold zhk
 exact (zV fun _ => rfl)
noncomputable def zOK : List A → ze
 | [.lst (.one (.fa 3 .u8)) a0, .fa 3 .u8 a1] => ⟨Bool, zhk a0 a1, fun r => .one (.v (.bool r))⟩
 | _ => ze.fail
theorem zzS : zC Tryz.prog 85 zOK := by
 refine good zFl ztP zEr zzm 2 Tryz.func85 fun rs => ?_
 unfold zOK
 split
 ·rename_i a0 a1; intro v h; exact ⟨rfl, zSz v, rfl, (zF8 a0 a1 _).trans (zOs a0 a1 v h)⟩
 ·intro v h; cases h
noncomputable def zsK := zu Tryz.f39
noncomputable def zsm : Ctx := ⟨TT, zr [(54, vy), (85, zOK)], zw, zU⟩
def zj2 : List (Nat × zE) := [(2, ([0, 5, 6, 7], [], []))]
def zlG : List ResultVar := [.tmp 2]
noncomputable def zel := Lq zsm zj2 zsK zlG
theorem zGf : zq Tryz.prog zsm := zo tab mix ⟨⟨Tryz.call54, yP⟩, ⟨Tryz.call85, zzS⟩, trivial⟩
noncomputable def zae (x0 x1 : Int) (x2 : List (Nat → Int)) : AS := ⟨[(0, .a (.sl 0)), (5, .a (.sl 0)), (6, .a (.v (.int .i64 x0))), (7, .a (.v (.int .i64 x1)))], [(0, some ⟨false, .arr (.one (.fa 3 .u8)) x2⟩)], 1⟩
noncomputable def zkI (r : Bool) : List A := [.v (.bool r)]
theorem zth (x0 x1 : Int) (x2 : List (Nat → Int)) (r : List A) (h : (cond (decide (x1 < x0)) (cond (inB x1 x2.length) (cond (inS 0 x1 x2.length) (Option.bind (zhk (List.drop 0 (List.take (Int.toNat x1) x2)) (List.getD x2 (Int.toNat x1) zF)) fun r1 => (cond r1 (some [.v (.bool false)]) (zel r 2 (zae x0 (wrap .i64 (x1 + 1)) x2)))) none) none) (some [.v (.bool (yf (x2.length : Int) 1 15))])) = some r) : zel r 2 (zae x0 x1 x2) = some r :=
 zn h (by kernel_rfl)
noncomputable def wl (x0 x1 : Int) (x2 : List (Nat → Int)) : Option ((Int × Int × (List (Nat → Int))) ⊕ Bool) := (cond (decide (x1 < x0)) (cond (inB x1 x2.length) (cond (inS 0 x1 x2.length) (Option.bind (zhk (List.drop 0 (List.take (Int.toNat x1) x2)) (List.getD x2 (Int.toNat x1) zF)) fun r1 => (cond r1 (some (Sum.inr false)) (some (Sum.inl (x0, (wrap .i64 (x1 + 1)), x2))))) none) none) (some (Sum.inr (yf (x2.length : Int) 1 15))))
noncomputable def zdR (x : Int × Int × (List (Nat → Int))) : Option Bool := zI (fun x => wl x.1 x.2.1 x.2.2) FU x
noncomputable def zND (r : List A) (x : Int × Int × (List (Nat → Int))) : Prop := zel r 2 (zae x.1 x.2.1 x.2.2) = some r
noncomputable def zLL (r : List A) : Bool → Prop := fun v => r = zkI v
theorem zKx (r : List A) : ∀ x, sem (zLL r) (zdR x) → zND r x :=
 fun x => zi (step := fun x => wl x.1 x.2.1 x.2.2) (fun x h => by
  unfold wl at h
  exact zth x.1 x.2.1 x.2.2 r ((za h (fun h => (za h (fun h => (za h (fun h => (zT h fun r1 h => (za h (fun h => zb h fun q => zj q) (fun h => zb h fun q => q)))) (fun h => zf h))) (fun h => zf h))) (fun h => zb h fun q => zj q)))) FU x
noncomputable def zhm (a0 : List (Nat → Int)) : Option Bool := (zdR ((a0.length : Int), 0, a0))
theorem zIF (a0 : List (Nat → Int)) (r : List A) : Tq zsm zj2 zsK zlG r [.lst (.one (.fa 3 .u8)) a0] = (zel r 2 (zae (a0.length : Int) 0 a0)) := by kernel_rfl
theorem zR3 (a0 : List (Nat → Int)) (v : Bool) (h : zhm a0 = some v) : (zel (zkI v) 2 (zae (a0.length : Int) 0 a0)) = some (zkI v) := by
 replace h : sem (fun w => zkI v = zkI w) (zhm a0) := ⟨v, h, rfl⟩
 unfold zhm at h
 exact zKx (zkI v) _ h
noncomputable def zB0 : List A → ze
 | [.lst (.one (.fa 3 .u8)) a0] => ⟨Bool, zhm a0, fun r => .one (.v (.bool r))⟩
 | _ => ze.fail
theorem zht : zC Tryz.prog 39 zB0 := by
 refine good zGf zj2 zsK zlG 1 Tryz.func39 fun rs => ?_
 unfold zB0
 split
 ·rename_i a0; intro v h; exact ⟨rfl, zkI v, rfl, (zIF a0 _).trans (zR3 a0 v h)⟩
 ·intro v h; cases h
noncomputable def zsq := zu Tryz.f40
noncomputable def zqd : Ctx := ⟨TT, zr [(84, zpL)], zw, zU⟩
def zmw : List (Nat × zE) := [(3, ([1, 3, 6], [], []))]
def zlQ : List ResultVar := [.tmp 2]
noncomputable def zbM := Lq zqd zmw zsq zlQ
theorem zJC : zq Tryz.prog zqd := zo tab mix ⟨⟨Tryz.call84, vG⟩, trivial⟩
noncomputable def Vs (x0 x1 x2 : Int) (x3 : Nat → Nat → Int) (x4 : List Int) : AS := ⟨[(1, .a (.ptr 0 [] (0))), (3, .a (.sl 1)), (6, .a (.v (.int .i64 x0)))], [(0, some ⟨true, .box (.rc [.v (.int .i8 x1), .v (.int .i8 x2), .fa2 144 3 .u8 x3])⟩), (1, some ⟨true, .arr (.one (.i .i64)) x4⟩)], 2⟩
noncomputable def zjh (r : List Int) : List A := [.lst (.one (.i .i64)) r]
theorem zzj (x0 x1 x2 : Int) (x3 : Nat → Nat → Int) (x4 : List Int) (r : List A) (h : (cond (decide (x0 < 144)) (cond (wd (Int.tmod x0 12) (wrap .i64 (Int.tdiv x0 12)) x1 x2) (cond (zW ((List.length (x4 : List Int) + List.length ([x0] : List Int)) * 8)) (zbM r 3 (Vs (wrap .i64 (x0 + 1)) x1 x2 x3 (x4 ++ [x0]))) none) (zbM r 3 (Vs (wrap .i64 (x0 + 1)) x1 x2 x3 x4))) (some [.lst (.one (.i .i64)) x4])) = some r) : zbM r 3 (Vs x0 x1 x2 x3 x4) = some r :=
 zn h (by kernel_rfl)
noncomputable def wq (x0 x1 x2 : Int) (x3 : Nat → Nat → Int) (x4 : List Int) : Option ((Int × Int × Int × (Nat → Nat → Int) × (List Int)) ⊕ (List Int)) := (cond (decide (x0 < 144)) (cond (wd (Int.tmod x0 12) (wrap .i64 (Int.tdiv x0 12)) x1 x2) (cond (zW ((List.length (x4 : List Int) + List.length ([x0] : List Int)) * 8)) (some (Sum.inl ((wrap .i64 (x0 + 1)), x1, x2, x3, (x4 ++ [x0])))) none) (some (Sum.inl ((wrap .i64 (x0 + 1)), x1, x2, x3, x4)))) (some (Sum.inr x4)))
noncomputable def zc0 (x : Int × Int × Int × (Nat → Nat → Int) × (List Int)) : Option (List Int) := zI (fun x => wq x.1 x.2.1 x.2.2.1 x.2.2.2.1 x.2.2.2.2) FU x
noncomputable def zNg (r : List A) (x : Int × Int × Int × (Nat → Nat → Int) × (List Int)) : Prop := zbM r 3 (Vs x.1 x.2.1 x.2.2.1 x.2.2.2.1 x.2.2.2.2) = some r
noncomputable def zNV (r : List A) : (List Int) → Prop := fun v => r = zjh v
theorem zHx (r : List A) : ∀ x, sem (zNV r) (zc0 x) → zNg r x :=
 fun x => zi (step := fun x => wq x.1 x.2.1 x.2.2.1 x.2.2.2.1 x.2.2.2.2) (fun x h => by
  unfold wq at h
  exact zzj x.1 x.2.1 x.2.2.1 x.2.2.2.1 x.2.2.2.2 r ((za h (fun h => (za h (fun h => (za h (fun h => zb h fun q => q) (fun h => zf h))) (fun h => zb h fun q => q))) (fun h => zb h fun q => zj q)))) FU x
noncomputable def zhT (a0 a1 : Int) (a2 : Nat → Nat → Int) : Option (List Int) := (zc0 (0, a0, a1, a2, []))
theorem zJg (a0 a1 : Int) (a2 : Nat → Nat → Int) (r : List A) : Tq zqd zmw zsq zlQ r [.rc [.v (.int .i8 a0), .v (.int .i8 a1), .fa2 144 3 .u8 a2]] = (zbM r 3 (Vs 0 a0 a1 a2 [])) := by kernel_rfl
theorem zPV (a0 a1 : Int) (a2 : Nat → Nat → Int) (v : List Int) (h : zhT a0 a1 a2 = some v) : (zbM (zjh v) 3 (Vs 0 a0 a1 a2 [])) = some (zjh v) := by
 replace h : sem (fun w => zjh v = zjh w) (zhT a0 a1 a2) := ⟨v, h, rfl⟩
 unfold zhT at h
 exact zHx (zjh v) _ h
noncomputable def zC5 : List A → ze
 | [.rc [.v (.int .i8 a0), .v (.int .i8 a1), .fa2 144 3 .u8 a2]] => ⟨(List Int), zhT a0 a1 a2, fun r => .one (.lst (.one (.i .i64)) r)⟩
 | _ => ze.fail
theorem zgZ : zC Tryz.prog 40 zC5 := by
 refine good zJC zmw zsq zlQ 1 Tryz.func40 fun rs => ?_
 unfold zC5
 split
 ·rename_i a0 a1 a2; intro v h; exact ⟨rfl, zjh v, rfl, (zJg a0 a1 a2 _).trans (zPV a0 a1 a2 v h)⟩
 ·intro v h; cases h
noncomputable def zqP := zu Tryz.f45
noncomputable def zq4 : Ctx := ⟨TT, zr [], zw, zU⟩
def ziF : List (Nat × zE) := [(3, ([2, 3, 5, 8], [], []))]
def znI : List ResultVar := [.tmp 4]
noncomputable def zeD := Lq zq4 ziF zqP znI
theorem zJu : zq Tryz.prog zq4 := zo tab mix trivial
noncomputable def U4 (x0 : Int) (x1 x2 x3 : Nat → Int) : AS := ⟨[(2, .a (.ptr 0 [] (0))), (3, .a (.ptr 1 [] (0))), (5, .a (.ptr 2 [] (0))), (8, .a (.v (.int .i64 x0)))], [(0, some ⟨true, .box (.fa 3 .u8 x1)⟩), (1, some ⟨true, .box (.fa 3 .u8 x2)⟩), (2, some ⟨true, .box (.fa 3 .i64 x3)⟩)], 3⟩
noncomputable def ziK (r : Int) : List A := [.v (.int .i64 r)]
theorem zxb (x0 : Int) (x1 x2 x3 : Nat → Int) (r : List A) (h : (cond (decide (x0 < 3)) (cond (inB x0 3) (cond (inB x0 3) (cond (inB x0 3) (zeD r 3 (U4 (wrap .i64 (x0 + 1)) x1 x2 (upd x3 (Int.toNat x0) (wrap .i64 ((wrap .i64 (x1 (Int.toNat x0))) - (wrap .i64 (x2 (Int.toNat x0)))))))) none) none) none) (cond (inB 0 3) (cond (inB 0 3) (cond (inB 1 3) (cond (inB 1 3) (cond (inB 2 3) (cond (inB 2 3) (some [.v (.int .i64 (wrap .i64 ((wrap .i64 ((wrap .i64 ((wrap .i64 (3 * (x3 0))) * (x3 0))) + (wrap .i64 ((wrap .i64 (6 * (x3 1))) * (x3 1))))) + (wrap .i64 ((x3 2) * (x3 2))))))]) none) none) none) none) none) none)) = some r) : zeD r 3 (U4 x0 x1 x2 x3) = some r :=
 zn h (by kernel_rfl)
noncomputable def ZT (x0 : Int) (x1 x2 x3 : Nat → Int) : Option ((Int × (Nat → Int) × (Nat → Int) × (Nat → Int)) ⊕ Int) := (cond (decide (x0 < 3)) (cond (inB x0 3) (cond (inB x0 3) (cond (inB x0 3) (some (Sum.inl ((wrap .i64 (x0 + 1)), x1, x2, (upd x3 (Int.toNat x0) (wrap .i64 ((wrap .i64 (x1 (Int.toNat x0))) - (wrap .i64 (x2 (Int.toNat x0))))))))) none) none) none) (cond (inB 0 3) (cond (inB 0 3) (cond (inB 1 3) (cond (inB 1 3) (cond (inB 2 3) (cond (inB 2 3) (some (Sum.inr (wrap .i64 ((wrap .i64 ((wrap .i64 ((wrap .i64 (3 * (x3 0))) * (x3 0))) + (wrap .i64 ((wrap .i64 (6 * (x3 1))) * (x3 1))))) + (wrap .i64 ((x3 2) * (x3 2))))))) none) none) none) none) none) none))
noncomputable def zcI (x : Int × (Nat → Int) × (Nat → Int) × (Nat → Int)) : Option Int := zI (fun x => ZT x.1 x.2.1 x.2.2.1 x.2.2.2) FU x
noncomputable def zPi (r : List A) (x : Int × (Nat → Int) × (Nat → Int) × (Nat → Int)) : Prop := zeD r 3 (U4 x.1 x.2.1 x.2.2.1 x.2.2.2) = some r
noncomputable def zO8 (r : List A) : Int → Prop := fun v => r = ziK v
theorem zKA (r : List A) : ∀ x, sem (zO8 r) (zcI x) → zPi r x :=
 fun x => zi (step := fun x => ZT x.1 x.2.1 x.2.2.1 x.2.2.2) (fun x h => by
  unfold ZT at h
  exact zxb x.1 x.2.1 x.2.2.1 x.2.2.2 r ((za h (fun h => (za h (fun h => (za h (fun h => (za h (fun h => zb h fun q => q) (fun h => zf h))) (fun h => zf h))) (fun h => zf h))) (fun h => (za h (fun h => (za h (fun h => (za h (fun h => (za h (fun h => (za h (fun h => (za h (fun h => zb h fun q => zj q) (fun h => zf h))) (fun h => zf h))) (fun h => zf h))) (fun h => zf h))) (fun h => zf h))) (fun h => zf h)))))) FU x
noncomputable def Uh (a0 a1 : Nat → Int) : Option Int := (zcI (0, a0, a1, zF))
theorem zLq (a0 a1 : Nat → Int) (r : List A) : Tq zq4 ziF zqP znI r [.fa 3 .u8 a0, .fa 3 .u8 a1] = (zeD r 3 (U4 0 a0 a1 zF)) := by kernel_rfl
theorem zNT (a0 a1 : Nat → Int) (v : Int) (h : Uh a0 a1 = some v) : (zeD (ziK v) 3 (U4 0 a0 a1 zF)) = some (ziK v) := by
 replace h : sem (fun w => ziK v = ziK w) (Uh a0 a1) := ⟨v, h, rfl⟩
 unfold Uh at h
 exact zKA (ziK v) _ h
noncomputable def zDb : List A → ze
 | [.fa 3 .u8 a0, .fa 3 .u8 a1] => ⟨Int, Uh a0 a1, fun r => .one (.v (.int .i64 r))⟩
 | _ => ze.fail
theorem zg4 : zC Tryz.prog 45 zDb := by
 refine good zJu ziF zqP znI 2 Tryz.func45 fun rs => ?_
 unfold zDb
 split
 ·rename_i a0 a1; intro v h; exact ⟨rfl, ziK v, rfl, (zLq a0 a1 _).trans (zNT a0 a1 v h)⟩
 ·intro v h; cases h
noncomputable def zpU := zu Tryz.f41
noncomputable def zsM : Ctx := ⟨TT, zr [(45, zDb)], zw, zU⟩
def zmx : List (Nat × zE) := [(3, ([3, 6, 7, 16, 17, 18], [], []))]
def zks : List ResultVar := [.tmp 4, .tmp 5]
noncomputable def za7 := Lq zsM zmx zpU zks
theorem zIS : zq Tryz.prog zsM := zo tab mix ⟨⟨Tryz.call45, zg4⟩, trivial⟩
noncomputable def VA (x0 x1 x2 x3 : Int) (x4 : Nat → Int) (x5 : List (Nat → Int)) : AS := ⟨[(3, .a (.ptr 0 [] (0))), (6, .a (.v (.int .i64 x0))), (7, .a (.v (.int .i64 x1))), (16, .a (.sl 1)), (17, .a (.v (.int .i64 x2))), (18, .a (.v (.int .i64 x3)))], [(0, some ⟨true, .box (.fa 3 .u8 x4)⟩), (1, some ⟨false, .arr (.one (.fa 3 .u8)) x5⟩)], 2⟩
noncomputable def zko (r : Int × Int) : List A := [.v (.int .i64 r.1), .v (.int .i64 r.2)]
theorem zxC (x0 x1 x2 x3 : Int) (x4 : Nat → Int) (x5 : List (Nat → Int)) (r : List A) (h : (cond (decide (x3 < x2)) (cond (inB x3 x5.length) (Option.bind (Uh (List.getD x5 (Int.toNat x3) zF) x4) fun r2 => (cond (decide (r2 < x1)) (za7 r 3 (VA x3 r2 x2 (wrap .i64 (x3 + 1)) x4 x5)) (za7 r 3 (VA x0 x1 x2 (wrap .i64 (x3 + 1)) x4 x5)))) none) (some [.v (.int .i64 x0), .v (.int .i64 x1)])) = some r) : za7 r 3 (VA x0 x1 x2 x3 x4 x5) = some r :=
 zn h (by kernel_rfl)
noncomputable def wU (x0 x1 x2 x3 : Int) (x4 : Nat → Int) (x5 : List (Nat → Int)) : Option ((Int × Int × Int × Int × (Nat → Int) × (List (Nat → Int))) ⊕ (Int × Int)) := (cond (decide (x3 < x2)) (cond (inB x3 x5.length) (Option.bind (Uh (List.getD x5 (Int.toNat x3) zF) x4) fun r2 => (cond (decide (r2 < x1)) (some (Sum.inl (x3, r2, x2, (wrap .i64 (x3 + 1)), x4, x5))) (some (Sum.inl (x0, x1, x2, (wrap .i64 (x3 + 1)), x4, x5))))) none) (some (Sum.inr (x0, x1))))
noncomputable def zdN (x : Int × Int × Int × Int × (Nat → Int) × (List (Nat → Int))) : Option (Int × Int) := zI (fun x => wU x.1 x.2.1 x.2.2.1 x.2.2.2.1 x.2.2.2.2.1 x.2.2.2.2.2) FU x
noncomputable def zNR (r : List A) (x : Int × Int × Int × Int × (Nat → Int) × (List (Nat → Int))) : Prop := za7 r 3 (VA x.1 x.2.1 x.2.2.1 x.2.2.2.1 x.2.2.2.2.1 x.2.2.2.2.2) = some r
noncomputable def zNp (r : List A) : (Int × Int) → Prop := fun v => r = zko v
theorem zLB (r : List A) : ∀ x, sem (zNp r) (zdN x) → zNR r x :=
 fun x => zi (step := fun x => wU x.1 x.2.1 x.2.2.1 x.2.2.2.1 x.2.2.2.2.1 x.2.2.2.2.2) (fun x h => by
  unfold wU at h
  exact zxC x.1 x.2.1 x.2.2.1 x.2.2.2.1 x.2.2.2.2.1 x.2.2.2.2.2 r ((za h (fun h => (za h (fun h => (zT h fun r2 h => (za h (fun h => zb h fun q => q) (fun h => zb h fun q => q)))) (fun h => zf h))) (fun h => zb h fun q => zj q)))) FU x
noncomputable def zkj (a0 : List (Nat → Int)) (a1 : Nat → Int) : Option (Int × Int) := (cond (inB 0 a0.length) (Option.bind (Uh (List.getD a0 0 zF) a1) fun r1 => (zdN (0, r1, (a0.length : Int), 0, a1, a0))) none)
theorem zHT (a0 : List (Nat → Int)) (a1 : Nat → Int) (r : List A) : Tq zsM zmx zpU zks r [.lst (.one (.fa 3 .u8)) a0, .fa 3 .u8 a1] = (cond (inB 0 a0.length) (Option.bind (Uh (List.getD a0 0 zF) a1) fun r1 => (za7 r 3 (VA 0 r1 (a0.length : Int) 0 a1 a0))) none) := by kernel_rfl
theorem zQT (a0 : List (Nat → Int)) (a1 : Nat → Int) (v : Int × Int) (h : zkj a0 a1 = some v) : (cond (inB 0 a0.length) (Option.bind (Uh (List.getD a0 0 zF) a1) fun r1 => (za7 (zko v) 3 (VA 0 r1 (a0.length : Int) 0 a1 a0))) none) = some (zko v) := by
 replace h : sem (fun w => zko v = zko w) (zkj a0 a1) := ⟨v, h, rfl⟩
 unfold zkj at h
 exact (za h (fun h => (zT h fun r1 h => zLB (zko v) _ h)) (fun h => zf h))
noncomputable def zOo : List A → ze
 | [.lst (.one (.fa 3 .u8)) a0, .fa 3 .u8 a1] => ⟨(Int × Int), zkj a0 a1, fun r => .tup [.v (.int .i64 r.1), .v (.int .i64 r.2)]⟩
 | _ => ze.fail
theorem zxV : zC Tryz.prog 41 zOo := by
 refine good zIS zmx zpU zks 2 Tryz.func41 fun rs => ?_
 unfold zOo
 split
 ·rename_i a0 a1; intro v h; exact ⟨rfl, zko v, rfl, (zHT a0 a1 _).trans (zQT a0 a1 v h)⟩
 ·intro v h; cases h
noncomputable def zsc := zu Tryz.f11
noncomputable def zqT : Ctx := ⟨TT, zr [(38, zBV), (39, zB0), (40, zC5), (41, zOo)], zw, zU⟩
def zlv : List (Nat × zE) := [(5, ([1, 2, 4, 6, 26, 27, 28], [], []))]
def ziU : List ResultVar := [.cell 4 27, .tmp 5]
noncomputable def zEA := Lq zqT zlv zsc ziU
theorem zKJ : zq Tryz.prog zqT := zo tab mix ⟨⟨Tryz.call38, zhO⟩, ⟨Tryz.call39, zht⟩, ⟨Tryz.call40, zgZ⟩, ⟨Tryz.call41, zxV⟩, trivial⟩
noncomputable def zz1 (x0 x1 : Int) (x2 : List (Nat → Int)) (x3 x4 : Int) (x5 : Nat → Nat → Int) (x6 x7 : Int) (x8 : Nat → Int) (x9 x10 : Int) (x11 : Nat → Int) (x12 : List Int) : AS := ⟨[(1, .a (.sl 0)), (2, .a (.ptr 1 [] (0))), (4, .a (.ptr 2 [] (0))), (6, .a (.ptr 3 [] (0))), (26, .a (.sl 4)), (27, .a (.v (.int .i64 x0))), (28, .a (.v (.int .i64 x1)))], [(0, some ⟨false, .arr (.one (.fa 3 .u8)) x2⟩), (1, some ⟨true, .box (.rc [.v (.int .i8 x3), .v (.int .i8 x4), .fa2 144 3 .u8 x5])⟩), (2, some ⟨true, .box (.rc [.v (.int .i8 x6), .v (.int .i8 x7), .fa 144 .u8 x8])⟩), (3, some ⟨true, .box (.rc [.v (.int .i8 x9), .v (.int .i8 x10), .fa 144 .u8 x11])⟩), (4, some ⟨true, .arr (.one (.i .i64)) x12⟩)], 5⟩
abbrev zNo := (Int × Int × (Nat → Int) × Int)
noncomputable def zcc (r : Int × Int × (Nat → Int) × Int) : List A := [.rc [.v (.int .i8 r.1), .v (.int .i8 r.2.1), .fa 144 .u8 r.2.2.1], .v (.int .i64 r.2.2.2)]
abbrev zbx := (Int × Int × (List (Nat → Int)) × Int × Int × (Nat → Nat → Int) × Int × Int × (Nat → Int) × Int × Int × (Nat → Int) × (List Int))
abbrev zqq := zNo
section
variable {R R' : Type} {S : R → Prop} {r : R'} (E : zNo → Option R) (E' : zNo → Option R') (G5 : zbx → Option R) (G5' : zbx → Option R')
noncomputable def uf (x0 x1 : Int) (x2 : List (Nat → Int)) (x3 x4 : Int) (x5 : Nat → Nat → Int) (x6 x7 : Int) (x8 : Nat → Int) (x9 x10 : Int) (x11 : Nat → Int) (x12 : List Int) : Option R := (cond (decide (x1 < x0)) (cond (inB x1 x12.length) (cond (inB (List.getD x12 (Int.toNat x1) 0) 144) (Option.bind (zkj x2 (x5 (Int.toNat (List.getD x12 (Int.toNat x1) 0)))) fun r4 => (cond (inB (List.getD x12 (Int.toNat x1) 0) 144) (G5 (x0, (wrap .i64 (x1 + 1)), x2, x3, x4, x5, x6, x7, x8, x9, x10, (upd x11 (Int.toNat (List.getD x12 (Int.toNat x1) 0)) (wrap .u8 (wrap .i64 (r4.1 + 1)))), x12)) none)) none) none) (E (x9, x10, x11, 0)))
theorem zvW (x0 x1 : Int) (x2 : List (Nat → Int)) (x3 x4 : Int) (x5 : Nat → Nat → Int) (x6 x7 : Int) (x8 : Nat → Int) (x9 x10 : Int) (x11 : Nat → Int) (x12 : List Int) (h : sem S (uf E G5 x0 x1 x2 x3 x4 x5 x6 x7 x8 x9 x10 x11 x12)) (hE : zJ S r E E') (h5 : zJ S r G5 G5') : uf E' G5' x0 x1 x2 x3 x4 x5 x6 x7 x8 x9 x10 x11 x12 = some r := by
 revert h
 unfold uf
 repeat' first | refine zy ?_ ?_ | refine zA fun _ => ?_ | exact zz | exact hE _ | exact h5 _ | refine zp (fun _ => ?_) (fun _ => ?_)
noncomputable def zi3 (a0 a1 : Int) (a2 : Nat → Nat → Int) (a3 : List (Nat → Int)) : Option R := (Option.bind (zhw a0 a1 a2) fun r1 => (cond (!r1) (E (0, 0, zF, 1)) (Option.bind (zhm a3) fun r2 => (cond (!r2) (E (0, 0, zF, 1)) (Option.bind (zhT a0 a1 a2) fun r3 => (G5 ((r3.length : Int), 0, a3, a0, a1, a2, 0, 0, zF, a0, a1, zF, r3)))))))
theorem zJA (a0 a1 : Int) (a2 : Nat → Nat → Int) (a3 : List (Nat → Int)) (h : sem S (zi3 E G5 a0 a1 a2 a3)) (hE : zJ S r E E') (h5 : zJ S r G5 G5') : zi3 E' G5' a0 a1 a2 a3 = some r := by
 revert h
 unfold zi3
 repeat' first | refine zy ?_ ?_ | refine zA fun _ => ?_ | exact zz | exact hE _ | exact h5 _ | refine zp (fun _ => ?_) (fun _ => ?_)
end
noncomputable def zfI (r : List A) (x : zbx) : Option (List A) := zEA r 5 (zz1 x.1 x.2.1 x.2.2.1 x.2.2.2.1 x.2.2.2.2.1 x.2.2.2.2.2.1 x.2.2.2.2.2.2.1 x.2.2.2.2.2.2.2.1 x.2.2.2.2.2.2.2.2.1 x.2.2.2.2.2.2.2.2.2.1 x.2.2.2.2.2.2.2.2.2.2.1 x.2.2.2.2.2.2.2.2.2.2.2.1 x.2.2.2.2.2.2.2.2.2.2.2.2)
theorem zAt (x0 x1 : Int) (x2 : List (Nat → Int)) (x3 x4 : Int) (x5 : Nat → Nat → Int) (x6 x7 : Int) (x8 : Nat → Int) (x9 x10 : Int) (x11 : Nat → Int) (x12 : List Int) (r : List A) (h : uf (fun v => some (zcc v)) (zfI r) x0 x1 x2 x3 x4 x5 x6 x7 x8 x9 x10 x11 x12 = some r) : zEA r 5 (zz1 x0 x1 x2 x3 x4 x5 x6 x7 x8 x9 x10 x11 x12) = some r :=
 zn h (by kernel_rfl)
noncomputable def Wr (x0 x1 : Int) (x2 : List (Nat → Int)) (x3 x4 : Int) (x5 : Nat → Nat → Int) (x6 x7 : Int) (x8 : Nat → Int) (x9 x10 : Int) (x11 : Nat → Int) (x12 : List Int) : Option (zbx ⊕ zqq) := uf (fun v => some (Sum.inr v)) (fun x => some (Sum.inl x)) x0 x1 x2 x3 x4 x5 x6 x7 x8 x9 x10 x11 x12
noncomputable def zd0 (x : zbx) : Option zqq := zI (fun x => Wr x.1 x.2.1 x.2.2.1 x.2.2.2.1 x.2.2.2.2.1 x.2.2.2.2.2.1 x.2.2.2.2.2.2.1 x.2.2.2.2.2.2.2.1 x.2.2.2.2.2.2.2.2.1 x.2.2.2.2.2.2.2.2.2.1 x.2.2.2.2.2.2.2.2.2.2.1 x.2.2.2.2.2.2.2.2.2.2.2.1 x.2.2.2.2.2.2.2.2.2.2.2.2) FU x
noncomputable def ztM (r : List A) (x : zbx) : Prop := zfI r x = some r
noncomputable def zz7 (r : List A) : zqq → Prop := fun v => r = zcc v
theorem zHJ (r : List A) : ∀ x, sem (zz7 r) (zd0 x) → ztM r x :=
 fun x => zi (G := ztM r) (E := zz7 r) (step := fun x => Wr x.1 x.2.1 x.2.2.1 x.2.2.2.1 x.2.2.2.2.1 x.2.2.2.2.2.1 x.2.2.2.2.2.2.1 x.2.2.2.2.2.2.2.1 x.2.2.2.2.2.2.2.2.1 x.2.2.2.2.2.2.2.2.2.1 x.2.2.2.2.2.2.2.2.2.2.1 x.2.2.2.2.2.2.2.2.2.2.2.1 x.2.2.2.2.2.2.2.2.2.2.2.2) (fun x h => zAt x.1 x.2.1 x.2.2.1 x.2.2.2.1 x.2.2.2.2.1 x.2.2.2.2.2.1 x.2.2.2.2.2.2.1 x.2.2.2.2.2.2.2.1 x.2.2.2.2.2.2.2.2.1 x.2.2.2.2.2.2.2.2.2.1 x.2.2.2.2.2.2.2.2.2.2.1 x.2.2.2.2.2.2.2.2.2.2.2.1 x.2.2.2.2.2.2.2.2.2.2.2.2 r (zvW _ _ _ _ x.1 x.2.1 x.2.2.1 x.2.2.2.1 x.2.2.2.2.1 x.2.2.2.2.2.1 x.2.2.2.2.2.2.1 x.2.2.2.2.2.2.2.1 x.2.2.2.2.2.2.2.2.1 x.2.2.2.2.2.2.2.2.2.1 x.2.2.2.2.2.2.2.2.2.2.1 x.2.2.2.2.2.2.2.2.2.2.2.1 x.2.2.2.2.2.2.2.2.2.2.2.2 h (fun _ h => zb h fun q => zj q) (fun _ h => zb h fun q => q))) FU x
noncomputable def zpC (a0 a1 : Int) (a2 : Nat → Nat → Int) (a3 : List (Nat → Int)) : Option (Int × Int × (Nat → Int) × Int) := zi3 some zd0 a0 a1 a2 a3
theorem zIC (a0 a1 : Int) (a2 : Nat → Nat → Int) (a3 : List (Nat → Int)) (r : List A) : Tq zqT zlv zsc ziU r [.rc [.v (.int .i8 a0), .v (.int .i8 a1), .fa2 144 3 .u8 a2], .lst (.one (.fa 3 .u8)) a3] = zi3 (fun v => some (zcc v)) (zfI r) a0 a1 a2 a3 := by kernel_rfl
theorem zOE (a0 a1 : Int) (a2 : Nat → Nat → Int) (a3 : List (Nat → Int)) (v : Int × Int × (Nat → Int) × Int) (h : zpC a0 a1 a2 a3 = some v) : zi3 (fun v => some (zcc v)) (zfI (zcc v)) a0 a1 a2 a3 = some (zcc v) :=
 zJA _ _ _ _ a0 a1 a2 a3 (show sem (fun w => zcc v = zcc w) (zpC a0 a1 a2 a3) from ⟨v, h, rfl⟩) (fun _ h => zb h fun q => zj q) (zHJ (zcc v))
noncomputable def zPP : List A → ze
 | [.rc [.v (.int .i8 a0), .v (.int .i8 a1), .fa2 144 3 .u8 a2], .lst (.one (.fa 3 .u8)) a3] => ⟨(Int × Int × (Nat → Int) × Int), zpC a0 a1 a2 a3, fun r => .tup [.rc [.v (.int .i8 r.1), .v (.int .i8 r.2.1), .fa 144 .u8 r.2.2.1], .v (.int .i64 r.2.2.2)]⟩
 | _ => ze.fail
theorem zvx : zC Tryz.prog 11 zPP := by
 refine good zKJ zlv zsc ziU 2 Tryz.func11 fun rs => ?_
 unfold zPP
 split
 ·rename_i a0 a1 a2 a3; intro v h; exact ⟨rfl, zcc v, rfl, (zIC a0 a1 a2 a3 _).trans (zOE a0 a1 a2 a3 v h)⟩
 ·intro v h; cases h
noncomputable def zEk := zu Tryz.f81
noncomputable def zBX : Ctx := ⟨TT, zr [(46, Xo)], zw, zU⟩
def ztU : List (Nat × zE) := []
def zAs : List ResultVar := [.tmp 4]
theorem zJO : zq Tryz.prog zBX := zo tab mix ⟨⟨Tryz.call46, yn⟩, trivial⟩
noncomputable def VH (a0 a1 : Int) (a2 : Nat → Nat → Int) (a3 : Int) : Bool := (cond (zK a3 0 143) (cond (decide ((Int.tmod a3 12) < (wrap .i64 a0))) (decide ((wrap .i64 (Int.tdiv a3 12)) < (wrap .i64 a1))) false) false)
theorem zIH (a0 a1 : Int) (a2 : Nat → Nat → Int) (a3 : Int) (r : List A) : Tq zBX ztU zEk zAs r [.ref (.rc [.v (.int .i8 a0), .v (.int .i8 a1), .fa2 144 3 .u8 a2]), .v (.int .i64 a3)] = (cond (zK a3 0 143) (cond (decide ((Int.tmod a3 12) < (wrap .i64 a0))) (some [.v (.bool (decide ((wrap .i64 (Int.tdiv a3 12)) < (wrap .i64 a1))))]) (some [.v (.bool false)])) (some [.v (.bool false)])) := by kernel_rfl
noncomputable def zEU (r : Bool) : List A := [.v (.bool r)]
theorem zQx (a0 a1 : Int) (a2 : Nat → Nat → Int) (a3 : Int) : (cond (zK a3 0 143) (cond (decide ((Int.tmod a3 12) < (wrap .i64 a0))) (some [.v (.bool (decide ((wrap .i64 (Int.tdiv a3 12)) < (wrap .i64 a1))))]) (some [.v (.bool false)])) (some [.v (.bool false)])) = some (zEU (VH a0 a1 a2 a3)) := by
 unfold VH
 exact (zM (fun x => some (zEU x)) (zM (fun x => some (zEU x)) rfl rfl) rfl)
noncomputable def zpw : List A → ze
 | [.ref (.rc [.v (.int .i8 a0), .v (.int .i8 a1), .fa2 144 3 .u8 a2]), .v (.int .i64 a3)] => ⟨Bool, some (VH a0 a1 a2 a3), fun r => .one (.v (.bool r))⟩
 | _ => ze.fail
theorem zag : zC Tryz.prog 81 zpw := by
 refine good zJO ztU zEk zAs 2 Tryz.func81 fun rs => ?_
 unfold zpw
 split
 ·rename_i a0 a1 a2 a3; intro v h; cases h; exact ⟨rfl, zEU (VH a0 a1 a2 a3), rfl, (zIH a0 a1 a2 a3 _).trans (zQx a0 a1 a2 a3)⟩
 ·intro v h; cases h
noncomputable def zrA := zu Tryz.f86
noncomputable def zpW : Ctx := ⟨TT, zr [(46, Xo), (81, zpw)], zw, zU⟩
def zjb : List (Nat × zE) := [(4, ([0, 3], [], []))]
def zm0 : List ResultVar := [.tmp 2]
noncomputable def zbI := Lq zpW zjb zrA zm0
theorem zHm : zq Tryz.prog zpW := zo tab mix ⟨⟨Tryz.call46, yn⟩, ⟨Tryz.call81, zag⟩, trivial⟩
noncomputable def VL (x0 x1 x2 : Int) (x3 : Nat → Nat → Int) : AS := ⟨[(0, .a (.ptr 0 [] (0))), (3, .a (.v (.int .i64 x0)))], [(0, some ⟨false, .box (.rc [.v (.int .i8 x1), .v (.int .i8 x2), .fa2 144 3 .u8 x3])⟩)], 1⟩
noncomputable def zkC (r : Bool) : List A := [.v (.bool r)]
theorem zxI (x0 x1 x2 : Int) (x3 : Nat → Nat → Int) (r : List A) (h : (cond (decide (x0 < 144)) (cond (!(VH x1 x2 x3 x0)) (cond (inB x0 144) (cond (!(W6 3 (x3 (Int.toNat x0)) zF)) (some [.v (.bool false)]) (zbI r 4 (VL (wrap .i64 (x0 + 1)) x1 x2 x3))) none) (zbI r 4 (VL (wrap .i64 (x0 + 1)) x1 x2 x3))) (some [.v (.bool true)])) = some r) : zbI r 4 (VL x0 x1 x2 x3) = some r :=
 zn h (by kernel_rfl)
noncomputable def wo (x0 x1 x2 : Int) (x3 : Nat → Nat → Int) : Option ((Int × Int × Int × (Nat → Nat → Int)) ⊕ Bool) := (cond (decide (x0 < 144)) (cond (!(VH x1 x2 x3 x0)) (cond (inB x0 144) (cond (!(W6 3 (x3 (Int.toNat x0)) zF)) (some (Sum.inr false)) (some (Sum.inl ((wrap .i64 (x0 + 1)), x1, x2, x3)))) none) (some (Sum.inl ((wrap .i64 (x0 + 1)), x1, x2, x3)))) (some (Sum.inr true)))
noncomputable def zdq (x : Int × Int × Int × (Nat → Nat → Int)) : Option Bool := zI (fun x => wo x.1 x.2.1 x.2.2.1 x.2.2.2) FU x
noncomputable def zLX (r : List A) (x : Int × Int × Int × (Nat → Nat → Int)) : Prop := zbI r 4 (VL x.1 x.2.1 x.2.2.1 x.2.2.2) = some r
noncomputable def zQm (r : List A) : Bool → Prop := fun v => r = zkC v
theorem zIL (r : List A) : ∀ x, sem (zQm r) (zdq x) → zLX r x :=
 fun x => zi (step := fun x => wo x.1 x.2.1 x.2.2.1 x.2.2.2) (fun x h => by
  unfold wo at h
  exact zxI x.1 x.2.1 x.2.2.1 x.2.2.2 r ((za h (fun h => (za h (fun h => (za h (fun h => (za h (fun h => zb h fun q => zj q) (fun h => zb h fun q => q))) (fun h => zf h))) (fun h => zb h fun q => q))) (fun h => zb h fun q => zj q)))) FU x
noncomputable def zeF (a0 a1 : Int) (a2 : Nat → Nat → Int) : Option Bool := (cond (!(zK (wrap .i64 a0) 1 12)) (some false) (cond (!(zK (wrap .i64 a1) 1 12)) (some false) (zdq (0, a0, a1, a2))))
theorem zI0 (a0 a1 : Int) (a2 : Nat → Nat → Int) (r : List A) : Tq zpW zjb zrA zm0 r [.ref (.rc [.v (.int .i8 a0), .v (.int .i8 a1), .fa2 144 3 .u8 a2])] = (cond (!(zK (wrap .i64 a0) 1 12)) (some [.v (.bool false)]) (cond (!(zK (wrap .i64 a1) 1 12)) (some [.v (.bool false)]) (zbI r 4 (VL 0 a0 a1 a2)))) := by kernel_rfl
theorem zRS (a0 a1 : Int) (a2 : Nat → Nat → Int) (v : Bool) (h : zeF a0 a1 a2 = some v) : (cond (!(zK (wrap .i64 a0) 1 12)) (some [.v (.bool false)]) (cond (!(zK (wrap .i64 a1) 1 12)) (some [.v (.bool false)]) (zbI (zkC v) 4 (VL 0 a0 a1 a2)))) = some (zkC v) := by
 replace h : sem (fun w => zkC v = zkC w) (zeF a0 a1 a2) := ⟨v, h, rfl⟩
 unfold zeF at h
 exact (za h (fun h => zb h fun q => zj q) (fun h => (za h (fun h => zb h fun q => zj q) (fun h => zIL (zkC v) _ h))))
noncomputable def zMq : List A → ze
 | [.ref (.rc [.v (.int .i8 a0), .v (.int .i8 a1), .fa2 144 3 .u8 a2])] => ⟨Bool, zeF a0 a1 a2, fun r => .one (.v (.bool r))⟩
 | _ => ze.fail
theorem zAg : zC Tryz.prog 86 zMq := by
 refine good zHm zjb zrA zm0 1 Tryz.func86 fun rs => ?_
 unfold zMq
 split
 ·rename_i a0 a1 a2; intro v h; exact ⟨rfl, zkC v, rfl, (zI0 a0 a1 a2 _).trans (zRS a0 a1 a2 v h)⟩
 ·intro v h; cases h
noncomputable def zsw := zu Tryz.f83
noncomputable def zqk : Ctx := ⟨TT, zr [(46, Xo)], zw, zU⟩
def zlu : List (Nat × zE) := [(2, ([0, 3], [], [])), (5, ([0, 3, 4], [], []))]
def zkp : List ResultVar := [.tmp 2]
noncomputable def We := Lq zqk zlu zsw zkp
theorem zGF : zq Tryz.prog zqk := zo tab mix ⟨⟨Tryz.call46, yn⟩, trivial⟩
noncomputable def zac (x0 : Int) (x1 : List (Nat → Int)) : AS := ⟨[(0, .a (.sl 0)), (3, .a (.v (.int .i64 x0)))], [(0, some ⟨false, .arr (.one (.fa 3 .u8)) x1⟩)], 1⟩
noncomputable def zev (x0 x1 : Int) (x2 : List (Nat → Int)) : AS := ⟨[(0, .a (.sl 0)), (3, .a (.v (.int .i64 x0))), (4, .a (.v (.int .i64 x1)))], [(0, some ⟨false, .arr (.one (.fa 3 .u8)) x2⟩)], 1⟩
noncomputable def zla (r : Bool) : List A := [.v (.bool r)]
theorem zy6 (x0 x1 : Int) (x2 : List (Nat → Int)) (r : List A) (h : (cond (decide (x1 < x0)) (cond (inB x0 x2.length) (cond (inB x1 x2.length) (cond (W6 3 (List.getD x2 (Int.toNat x0) zF) (List.getD x2 (Int.toNat x1) zF)) (some [.v (.bool false)]) (We r 5 (zev x0 (wrap .i64 (x1 + 1)) x2))) none) none) (We r 2 (zac (wrap .i64 (x0 + 1)) x2))) = some r) : We r 5 (zev x0 x1 x2) = some r :=
 zn h (by kernel_rfl)
noncomputable def X7 (x0 x1 : Int) (x2 : List (Nat → Int)) : Option ((Int × Int × (List (Nat → Int))) ⊕ ((Int × (List (Nat → Int))) ⊕ Bool)) := (cond (decide (x1 < x0)) (cond (inB x0 x2.length) (cond (inB x1 x2.length) (cond (W6 3 (List.getD x2 (Int.toNat x0) zF) (List.getD x2 (Int.toNat x1) zF)) (some (Sum.inr (Sum.inr false))) (some (Sum.inl (x0, (wrap .i64 (x1 + 1)), x2)))) none) none) (some (Sum.inr (Sum.inl ((wrap .i64 (x0 + 1)), x2)))))
noncomputable def uG (x : Int × Int × (List (Nat → Int))) : Option ((Int × (List (Nat → Int))) ⊕ Bool) := zI (fun x => X7 x.1 x.2.1 x.2.2) FU x
noncomputable def zSr (r : List A) (x : Int × Int × (List (Nat → Int))) : Prop := We r 5 (zev x.1 x.2.1 x.2.2) = some r
theorem zwn (x0 : Int) (x1 : List (Nat → Int)) (r : List A) (h : (cond (decide (x0 < (x1.length : Int))) (We r 5 (zev x0 0 x1)) (some [.v (.bool (zK (x1.length : Int) 1 15))])) = some r) : We r 2 (zac x0 x1) = some r :=
 zn h (by kernel_rfl)
noncomputable def wQ (x0 : Int) (x1 : List (Nat → Int)) : Option ((Int × (List (Nat → Int))) ⊕ Bool) := (cond (decide (x0 < (x1.length : Int))) (uG (x0, 0, x1)) (some (Sum.inr (zK (x1.length : Int) 1 15))))
noncomputable def zdX (x : Int × (List (Nat → Int))) : Option Bool := zI (fun x => wQ x.1 x.2) FU x
noncomputable def zwr (r : List A) (x : Int × (List (Nat → Int))) : Prop := We r 2 (zac x.1 x.2) = some r
noncomputable def zAu (r : List A) : Bool → Prop := fun v => r = zla v
noncomputable def zMe (r : List A) : ((Int × (List (Nat → Int))) ⊕ Bool) → Prop := Za (zwr r) (zAu r)
theorem zF5 (r : List A) : ∀ x, sem (zMe r) (uG x) → zSr r x :=
 fun x => zi (step := fun x => X7 x.1 x.2.1 x.2.2) (fun x h => by
  unfold X7 at h
  exact zy6 x.1 x.2.1 x.2.2 r ((za h (fun h => (za h (fun h => (za h (fun h => (za h (fun h => zb h fun q => zj q) (fun h => zb h fun q => q))) (fun h => zf h))) (fun h => zf h))) (fun h => zb h fun q => q)))) FU x
theorem zHr (r : List A) : ∀ x, sem (zAu r) (zdX x) → zwr r x :=
 fun x => zi (step := fun x => wQ x.1 x.2) (fun x h => by
  unfold wQ at h
  exact zwn x.1 x.2 r ((za h (fun h => zF5 r _ h) (fun h => zb h fun q => zj q)))) FU x
noncomputable def UN (a0 : List (Nat → Int)) : Option Bool := (zdX (0, a0))
theorem zFt (a0 : List (Nat → Int)) (r : List A) : Tq zqk zlu zsw zkp r [.lst (.one (.fa 3 .u8)) a0] = (We r 2 (zac 0 a0)) := by kernel_rfl
theorem zMR (a0 : List (Nat → Int)) (v : Bool) (h : UN a0 = some v) : (We (zla v) 2 (zac 0 a0)) = some (zla v) := by
 replace h : sem (fun w => zla v = zla w) (UN a0) := ⟨v, h, rfl⟩
 unfold UN at h
 exact zHr (zla v) _ h
noncomputable def zvG : List A → ze
 | [.lst (.one (.fa 3 .u8)) a0] => ⟨Bool, UN a0, fun r => .one (.v (.bool r))⟩
 | _ => ze.fail
theorem zhq : zC Tryz.prog 83 zvG := by
 refine good zGF zlu zsw zkp 1 Tryz.func83 fun rs => ?_
 unfold zvG
 split
 ·rename_i a0; intro v h; exact ⟨rfl, zla v, rfl, (zFt a0 _).trans (zMR a0 v h)⟩
 ·intro v h; cases h
noncomputable def zCF := zu Tryz.f87
noncomputable def zEx : Ctx := ⟨TT, zr [(83, zvG)], zw, zU⟩
def zxM : List (Nat × zE) := []
def zz2 : List ResultVar := [.tmp 2]
theorem zH7 : zq Tryz.prog zEx := zo tab mix ⟨⟨Tryz.call83, zhq⟩, trivial⟩
noncomputable def zfc (a0 : List (Nat → Int)) : Option Bool := (cond (decide ((a0.length : Int) ≤ 15)) (Option.bind (UN a0) fun r1 => (some r1)) (some false))
theorem zKa (a0 : List (Nat → Int)) (r : List A) : Tq zEx zxM zCF zz2 r [.lst (.one (.fa 3 .u8)) a0] = (cond (decide ((a0.length : Int) ≤ 15)) (Option.bind (UN a0) fun r1 => (some [.v (.bool r1)])) (some [.v (.bool false)])) := by kernel_rfl
noncomputable def zDt (r : Bool) : List A := [.v (.bool r)]
theorem zM2 (a0 : List (Nat → Int)) (v : Bool) (h : zfc a0 = some v) : (cond (decide ((a0.length : Int) ≤ 15)) (Option.bind (UN a0) fun r1 => (some [.v (.bool r1)])) (some [.v (.bool false)])) = some (zDt v) := by
 refine Eq.trans (b := Option.map zDt (zfc a0)) ?_ (by rw [h]; rfl)
 unfold zfc
 exact (zM (Option.map zDt) (zV fun _ => rfl) rfl)
noncomputable def zQR : List A → ze
 | [.lst (.one (.fa 3 .u8)) a0] => ⟨Bool, zfc a0, fun r => .one (.v (.bool r))⟩
 | _ => ze.fail
theorem zs1 : zC Tryz.prog 87 zQR := by
 refine good zH7 zxM zCF zz2 1 Tryz.func87 fun rs => ?_
 unfold zQR
 split
 ·rename_i a0; intro v h; exact ⟨rfl, zDt v, rfl, (zKa a0 _).trans (zM2 a0 v h)⟩
 ·intro v h; cases h
noncomputable def zCR := zu Tryz.f42
noncomputable def zDo : Ctx := ⟨TT, zr [(86, zMq), (87, zQR)], zw, zU⟩
def zuU : List (Nat × zE) := []
def zzH : List ResultVar := [.tmp 4]
theorem zJp : zq Tryz.prog zDo := zo tab mix ⟨⟨Tryz.call86, zAg⟩, ⟨Tryz.call87, zs1⟩, trivial⟩
noncomputable def zfK (a0 a1 : Int) (a2 : Nat → Nat → Int) (a3 : List (Nat → Int)) : Option Int := (Option.bind (zeF a0 a1 a2) fun r1 => (cond (!r1) (some 1) (Option.bind (zfc a3) fun r2 => (cond (!r2) (some 1) (some 0)))))
theorem zJm (a0 a1 : Int) (a2 : Nat → Nat → Int) (a3 : List (Nat → Int)) (r : List A) : Tq zDo zuU zCR zzH r [.ref (.rc [.v (.int .i8 a0), .v (.int .i8 a1), .fa2 144 3 .u8 a2]), .lst (.one (.fa 3 .u8)) a3] = (Option.bind (zeF a0 a1 a2) fun r1 => (cond (!r1) (some [.v (.int .i64 1)]) (Option.bind (zfc a3) fun r2 => (cond (!r2) (some [.v (.int .i64 1)]) (some [.v (.int .i64 0)]))))) := by kernel_rfl
noncomputable def zyF (r : Int) : List A := [.v (.int .i64 r)]
theorem zPQ (a0 a1 : Int) (a2 : Nat → Nat → Int) (a3 : List (Nat → Int)) (v : Int) (h : zfK a0 a1 a2 a3 = some v) : (Option.bind (zeF a0 a1 a2) fun r1 => (cond (!r1) (some [.v (.int .i64 1)]) (Option.bind (zfc a3) fun r2 => (cond (!r2) (some [.v (.int .i64 1)]) (some [.v (.int .i64 0)]))))) = some (zyF v) := by
 refine Eq.trans (b := Option.map zyF (zfK a0 a1 a2 a3)) ?_ (by rw [h]; rfl)
 unfold zfK
 exact (zV fun _ => (zM (Option.map zyF) rfl (zV fun _ => (zM (Option.map zyF) rfl rfl))))
noncomputable def zOB : List A → ze
 | [.ref (.rc [.v (.int .i8 a0), .v (.int .i8 a1), .fa2 144 3 .u8 a2]), .lst (.one (.fa 3 .u8)) a3] => ⟨Int, zfK a0 a1 a2 a3, fun r => .one (.v (.int .i64 r))⟩
 | _ => ze.fail
theorem zt2 : zC Tryz.prog 42 zOB := by
 refine good zJp zuU zCR zzH 2 Tryz.func42 fun rs => ?_
 unfold zOB
 split
 ·rename_i a0 a1 a2 a3; intro v h; exact ⟨rfl, zyF v, rfl, (zJm a0 a1 a2 a3 _).trans (zPQ a0 a1 a2 a3 v h)⟩
 ·intro v h; cases h
noncomputable def zCE := zu Tryz.f122
noncomputable def zED : Ctx := ⟨TT, zr [], zw, zU⟩
def ztQ : List (Nat × zE) := []
def ztz : List ResultVar := [.tmp 4]
theorem zKV : zq Tryz.prog zED := zo tab mix trivial
abbrev zTR := Int
noncomputable def zoq (r : Int) : List A := [.v (.int .i64 r)]
section
variable {R R' : Type} {S : R → Prop} {r : R'} (E : zTR → Option R) (E' : zTR → Option R')
noncomputable def ziD (a0 a1 : Nat → Int) : Option R := (cond (inB 0 3) (cond (inB 0 3) (cond (inB 1 3) (cond (inB 1 3) (cond (inB 2 3) (cond (inB 2 3) (E (wrap .i64 ((wrap .i64 ((wrap .i64 ((wrap .i64 (3 * (wrap .i64 ((wrap .i64 (a0 0)) - (wrap .i64 (a1 0)))))) * (wrap .i64 ((wrap .i64 (a0 0)) - (wrap .i64 (a1 0)))))) + (wrap .i64 ((wrap .i64 (6 * (wrap .i64 ((wrap .i64 (a0 1)) - (wrap .i64 (a1 1)))))) * (wrap .i64 ((wrap .i64 (a0 1)) - (wrap .i64 (a1 1)))))))) + (wrap .i64 ((wrap .i64 ((wrap .i64 (a0 2)) - (wrap .i64 (a1 2)))) * (wrap .i64 ((wrap .i64 (a0 2)) - (wrap .i64 (a1 2))))))))) none) none) none) none) none) none)
theorem zFF (a0 a1 : Nat → Int) (h : sem S (ziD E a0 a1)) (hE : zJ S r E E') : ziD E' a0 a1 = some r := by
 revert h
 unfold ziD
 repeat' first | refine zy ?_ ?_ | refine zA fun _ => ?_ | exact zz | exact hE _ | refine zp (fun _ => ?_) (fun _ => ?_)
end
noncomputable def zct (a0 a1 : Nat → Int) : Option Int := ziD some a0 a1
theorem zJt (a0 a1 : Nat → Int) (r : List A) : Tq zED ztQ zCE ztz r [.fa 3 .u8 a0, .fa 3 .u8 a1] = ziD (fun v => some (zoq v)) a0 a1 := by kernel_rfl
theorem zM3 (a0 a1 : Nat → Int) (v : Int) (h : zct a0 a1 = some v) : ziD (fun v => some (zoq v)) a0 a1 = some (zoq v) :=
 zFF _ _ a0 a1 (show sem (fun w => zoq v = zoq w) (zct a0 a1) from ⟨v, h, rfl⟩) (fun _ h => zb h fun q => zj q)
noncomputable def zNy : List A → ze
 | [.fa 3 .u8 a0, .fa 3 .u8 a1] => ⟨Int, zct a0 a1, fun r => .one (.v (.int .i64 r))⟩
 | _ => ze.fail
theorem zAq : zC Tryz.prog 122 zNy := by
 refine good zKV ztQ zCE ztz 2 Tryz.func122 fun rs => ?_
 unfold zNy
 split
 ·rename_i a0 a1; intro v h; exact ⟨rfl, zoq v, rfl, (zJt a0 a1 _).trans (zM3 a0 a1 v h)⟩
 ·intro v h; cases h
noncomputable def zp0 := zu Tryz.f88
noncomputable def zrj : Ctx := ⟨TT, zr [(122, zNy)], zw, zU⟩
def zle : List (Nat × zE) := [(4, ([0, 3, 6, 7, 8], [], []))]
def zlf : List ResultVar := [.tmp 4, .tmp 5]
noncomputable def zbB := Lq zrj zle zp0 zlf
theorem zFi : zq Tryz.prog zrj := zo tab mix ⟨⟨Tryz.call122, zAq⟩, trivial⟩
noncomputable def Vi (x0 x1 x2 : Int) (x3 : List (Nat → Int)) (x4 : Nat → Int) : AS := ⟨[(0, .a (.sl 0)), (3, .a (.ptr 1 [] (0))), (6, .a (.v (.int .i64 x0))), (7, .a (.v (.int .i64 x1))), (8, .a (.v (.int .i64 x2)))], [(0, some ⟨false, .arr (.one (.fa 3 .u8)) x3⟩), (1, some ⟨true, .box (.fa 3 .u8 x4)⟩)], 2⟩
noncomputable def zjq (r : Int × Int) : List A := [.v (.int .i64 r.1), .v (.int .i64 r.2)]
theorem zzl (x0 x1 x2 : Int) (x3 : List (Nat → Int)) (x4 : Nat → Int) (r : List A) (h : (cond (decide (x2 < (x3.length : Int))) (cond (inB x2 x3.length) (Option.bind (zct (List.getD x3 (Int.toNat x2) zF) x4) fun r2 => (cond (decide (r2 < x1)) (zbB r 4 (Vi x2 r2 (wrap .i64 (x2 + 1)) x3 x4)) (zbB r 4 (Vi x0 x1 (wrap .i64 (x2 + 1)) x3 x4)))) none) (some [.v (.int .i64 (wrap .i64 (x0 + 1))), .v (.int .i64 x1)])) = some r) : zbB r 4 (Vi x0 x1 x2 x3 x4) = some r :=
 zn h (by kernel_rfl)
noncomputable def wX (x0 x1 x2 : Int) (x3 : List (Nat → Int)) (x4 : Nat → Int) : Option ((Int × Int × Int × (List (Nat → Int)) × (Nat → Int)) ⊕ (Int × Int)) := (cond (decide (x2 < (x3.length : Int))) (cond (inB x2 x3.length) (Option.bind (zct (List.getD x3 (Int.toNat x2) zF) x4) fun r2 => (cond (decide (r2 < x1)) (some (Sum.inl (x2, r2, (wrap .i64 (x2 + 1)), x3, x4))) (some (Sum.inl (x0, x1, (wrap .i64 (x2 + 1)), x3, x4))))) none) (some (Sum.inr ((wrap .i64 (x0 + 1)), x1))))
noncomputable def zdI (x : Int × Int × Int × (List (Nat → Int)) × (Nat → Int)) : Option (Int × Int) := zI (fun x => wX x.1 x.2.1 x.2.2.1 x.2.2.2.1 x.2.2.2.2) FU x
noncomputable def zOH (r : List A) (x : Int × Int × Int × (List (Nat → Int)) × (Nat → Int)) : Prop := zbB r 4 (Vi x.1 x.2.1 x.2.2.1 x.2.2.2.1 x.2.2.2.2) = some r
noncomputable def zSg (r : List A) : (Int × Int) → Prop := fun v => r = zjq v
theorem zFm (r : List A) : ∀ x, sem (zSg r) (zdI x) → zOH r x :=
 fun x => zi (step := fun x => wX x.1 x.2.1 x.2.2.1 x.2.2.2.1 x.2.2.2.2) (fun x h => by
  unfold wX at h
  exact zzl x.1 x.2.1 x.2.2.1 x.2.2.2.1 x.2.2.2.2 r ((za h (fun h => (za h (fun h => (zT h fun r2 h => (za h (fun h => zb h fun q => q) (fun h => zb h fun q => q)))) (fun h => zf h))) (fun h => zb h fun q => zj q)))) FU x
noncomputable def zg3 (a0 : List (Nat → Int)) (a1 : Nat → Int) : Option (Int × Int) := (cond (inB 0 a0.length) (Option.bind (zct (List.getD a0 0 zF) a1) fun r1 => (zdI (0, r1, 1, a0, a1))) none)
theorem zFk (a0 : List (Nat → Int)) (a1 : Nat → Int) (r : List A) : Tq zrj zle zp0 zlf r [.lst (.one (.fa 3 .u8)) a0, .fa 3 .u8 a1] = (cond (inB 0 a0.length) (Option.bind (zct (List.getD a0 0 zF) a1) fun r1 => (zbB r 4 (Vi 0 r1 1 a0 a1))) none) := by kernel_rfl
theorem zLV (a0 : List (Nat → Int)) (a1 : Nat → Int) (v : Int × Int) (h : zg3 a0 a1 = some v) : (cond (inB 0 a0.length) (Option.bind (zct (List.getD a0 0 zF) a1) fun r1 => (zbB (zjq v) 4 (Vi 0 r1 1 a0 a1))) none) = some (zjq v) := by
 replace h : sem (fun w => zjq v = zjq w) (zg3 a0 a1) := ⟨v, h, rfl⟩
 unfold zg3 at h
 exact (za h (fun h => (zT h fun r1 h => zFm (zjq v) _ h)) (fun h => zf h))
noncomputable def zPv : List A → ze
 | [.lst (.one (.fa 3 .u8)) a0, .fa 3 .u8 a1] => ⟨(Int × Int), zg3 a0 a1, fun r => .tup [.v (.int .i64 r.1), .v (.int .i64 r.2)]⟩
 | _ => ze.fail
theorem zwk : zC Tryz.prog 88 zPv := by
 refine good zFi zle zp0 zlf 2 Tryz.func88 fun rs => ?_
 unfold zPv
 split
 ·rename_i a0 a1; intro v h; exact ⟨rfl, zjq v, rfl, (zFk a0 a1 _).trans (zLV a0 a1 v h)⟩
 ·intro v h; cases h
noncomputable def zqu := zu Tryz.f43
noncomputable def zrQ : Ctx := ⟨TT, zr [(81, zpw), (88, zPv)], zw, zU⟩
def znp : List (Nat × zE) := [(3, ([0, 1, 4, 5, 6], [], []))]
def zkB : List ResultVar := [.cell 4 27]
noncomputable def zbU := Lq zrQ znp zqu zkB
theorem zHf : zq Tryz.prog zrQ := zo tab mix ⟨⟨Tryz.call81, zag⟩, ⟨Tryz.call88, zwk⟩, trivial⟩
noncomputable def v8 (x0 x1 x2 : Int) (x3 : Nat → Nat → Int) (x4 : List (Nat → Int)) (x5 x6 : Int) (x7 : Nat → Int) (x8 x9 : Int) (x10 : Nat → Int) : AS := ⟨[(0, .a (.ptr 0 [] (0))), (1, .a (.sl 1)), (4, .a (.ptr 2 [] (0))), (5, .a (.ptr 3 [] (0))), (6, .a (.v (.int .i64 x0)))], [(0, some ⟨false, .box (.rc [.v (.int .i8 x1), .v (.int .i8 x2), .fa2 144 3 .u8 x3])⟩), (1, some ⟨false, .arr (.one (.fa 3 .u8)) x4⟩), (2, some ⟨true, .box (.rc [.v (.int .i8 x5), .v (.int .i8 x6), .fa 144 .u8 x7])⟩), (3, some ⟨true, .box (.rc [.v (.int .i8 x8), .v (.int .i8 x9), .fa 144 .u8 x10])⟩)], 4⟩
noncomputable def zmY (r : Int × Int × (Nat → Int)) : List A := [.rc [.v (.int .i8 r.1), .v (.int .i8 r.2.1), .fa 144 .u8 r.2.2]]
theorem zzn (x0 x1 x2 : Int) (x3 : Nat → Nat → Int) (x4 : List (Nat → Int)) (x5 x6 : Int) (x7 : Nat → Int) (x8 x9 : Int) (x10 : Nat → Int) (r : List A) (h : (cond (decide (x0 < 144)) (cond (VH x1 x2 x3 x0) (cond (inB x0 144) (Option.bind (zg3 x4 (x3 (Int.toNat x0))) fun r1 => (cond (inB x0 144) (zbU r 3 (v8 (wrap .i64 (x0 + 1)) x1 x2 x3 x4 x5 x6 x7 x8 x9 (upd x10 (Int.toNat x0) (wrap .u8 r1.1)))) none)) none) (zbU r 3 (v8 (wrap .i64 (x0 + 1)) x1 x2 x3 x4 x5 x6 x7 x8 x9 x10))) (some [.rc [.v (.int .i8 x8), .v (.int .i8 x9), .fa 144 .u8 x10]])) = some r) : zbU r 3 (v8 x0 x1 x2 x3 x4 x5 x6 x7 x8 x9 x10) = some r :=
 zn h (by kernel_rfl)
noncomputable def Vn (x0 x1 x2 : Int) (x3 : Nat → Nat → Int) (x4 : List (Nat → Int)) (x5 x6 : Int) (x7 : Nat → Int) (x8 x9 : Int) (x10 : Nat → Int) : Option ((Int × Int × Int × (Nat → Nat → Int) × (List (Nat → Int)) × Int × Int × (Nat → Int) × Int × Int × (Nat → Int)) ⊕ (Int × Int × (Nat → Int))) := (cond (decide (x0 < 144)) (cond (VH x1 x2 x3 x0) (cond (inB x0 144) (Option.bind (zg3 x4 (x3 (Int.toNat x0))) fun r1 => (cond (inB x0 144) (some (Sum.inl ((wrap .i64 (x0 + 1)), x1, x2, x3, x4, x5, x6, x7, x8, x9, (upd x10 (Int.toNat x0) (wrap .u8 r1.1))))) none)) none) (some (Sum.inl ((wrap .i64 (x0 + 1)), x1, x2, x3, x4, x5, x6, x7, x8, x9, x10)))) (some (Sum.inr (x8, x9, x10))))
noncomputable def zcJ (x : Int × Int × Int × (Nat → Nat → Int) × (List (Nat → Int)) × Int × Int × (Nat → Int) × Int × Int × (Nat → Int)) : Option (Int × Int × (Nat → Int)) := zI (fun x => Vn x.1 x.2.1 x.2.2.1 x.2.2.2.1 x.2.2.2.2.1 x.2.2.2.2.2.1 x.2.2.2.2.2.2.1 x.2.2.2.2.2.2.2.1 x.2.2.2.2.2.2.2.2.1 x.2.2.2.2.2.2.2.2.2.1 x.2.2.2.2.2.2.2.2.2.2) FU x
noncomputable def zOh (r : List A) (x : Int × Int × Int × (Nat → Nat → Int) × (List (Nat → Int)) × Int × Int × (Nat → Int) × Int × Int × (Nat → Int)) : Prop := zbU r 3 (v8 x.1 x.2.1 x.2.2.1 x.2.2.2.1 x.2.2.2.2.1 x.2.2.2.2.2.1 x.2.2.2.2.2.2.1 x.2.2.2.2.2.2.2.1 x.2.2.2.2.2.2.2.2.1 x.2.2.2.2.2.2.2.2.2.1 x.2.2.2.2.2.2.2.2.2.2) = some r
noncomputable def zMg (r : List A) : (Int × Int × (Nat → Int)) → Prop := fun v => r = zmY v
theorem zF0 (r : List A) : ∀ x, sem (zMg r) (zcJ x) → zOh r x :=
 fun x => zi (step := fun x => Vn x.1 x.2.1 x.2.2.1 x.2.2.2.1 x.2.2.2.2.1 x.2.2.2.2.2.1 x.2.2.2.2.2.2.1 x.2.2.2.2.2.2.2.1 x.2.2.2.2.2.2.2.2.1 x.2.2.2.2.2.2.2.2.2.1 x.2.2.2.2.2.2.2.2.2.2) (fun x h => by
  unfold Vn at h
  exact zzn x.1 x.2.1 x.2.2.1 x.2.2.2.1 x.2.2.2.2.1 x.2.2.2.2.2.1 x.2.2.2.2.2.2.1 x.2.2.2.2.2.2.2.1 x.2.2.2.2.2.2.2.2.1 x.2.2.2.2.2.2.2.2.2.1 x.2.2.2.2.2.2.2.2.2.2 r ((za h (fun h => (za h (fun h => (za h (fun h => (zT h fun r1 h => (za h (fun h => zb h fun q => q) (fun h => zf h)))) (fun h => zf h))) (fun h => zb h fun q => q))) (fun h => zb h fun q => zj q)))) FU x
noncomputable def zfD (a0 a1 : Int) (a2 : Nat → Nat → Int) (a3 : List (Nat → Int)) : Option (Int × Int × (Nat → Int)) := (zcJ (0, a0, a1, a2, a3, 0, 0, zF, a0, a1, zF))
theorem zHu (a0 a1 : Int) (a2 : Nat → Nat → Int) (a3 : List (Nat → Int)) (r : List A) : Tq zrQ znp zqu zkB r [.ref (.rc [.v (.int .i8 a0), .v (.int .i8 a1), .fa2 144 3 .u8 a2]), .lst (.one (.fa 3 .u8)) a3] = (zbU r 3 (v8 0 a0 a1 a2 a3 0 0 zF a0 a1 zF)) := by kernel_rfl
theorem zOk (a0 a1 : Int) (a2 : Nat → Nat → Int) (a3 : List (Nat → Int)) (v : Int × Int × (Nat → Int)) (h : zfD a0 a1 a2 a3 = some v) : (zbU (zmY v) 3 (v8 0 a0 a1 a2 a3 0 0 zF a0 a1 zF)) = some (zmY v) := by
 replace h : sem (fun w => zmY v = zmY w) (zfD a0 a1 a2 a3) := ⟨v, h, rfl⟩
 unfold zfD at h
 exact zF0 (zmY v) _ h
noncomputable def zN8 : List A → ze
 | [.ref (.rc [.v (.int .i8 a0), .v (.int .i8 a1), .fa2 144 3 .u8 a2]), .lst (.one (.fa 3 .u8)) a3] => ⟨(Int × Int × (Nat → Int)), zfD a0 a1 a2 a3, fun r => .one (.rc [.v (.int .i8 r.1), .v (.int .i8 r.2.1), .fa 144 .u8 r.2.2])⟩
 | _ => ze.fail
theorem zwL : zC Tryz.prog 43 zN8 := by
 refine good zHf znp zqu zkB 2 Tryz.func43 fun rs => ?_
 unfold zN8
 split
 ·rename_i a0 a1 a2 a3; intro v h; exact ⟨rfl, zmY v, rfl, (zHu a0 a1 a2 a3 _).trans (zOk a0 a1 a2 a3 v h)⟩
 ·intro v h; cases h
noncomputable def zDV := zu Tryz.f12
noncomputable def zCH : Ctx := ⟨TT, zr [(42, zOB), (43, zN8)], zw, zU⟩
def zt6 : List (Nat × zE) := []
def zxe : List ResultVar := [.cell 4 27, .tmp 5]
theorem zGb : zq Tryz.prog zCH := zo tab mix ⟨⟨Tryz.call42, zt2⟩, ⟨Tryz.call43, zwL⟩, trivial⟩
noncomputable def zj0 (a0 a1 : Int) (a2 : Nat → Nat → Int) (a3 : List (Nat → Int)) : Option (Int × Int × (Nat → Int) × Int) := (Option.bind (zfK a0 a1 a2 a3) fun r1 => (cond (r1 != 0) (some (0, 0, zF, r1)) (Option.bind (zfD a0 a1 a2 a3) fun r2 => (some ((r2.1), (r2.2.1), (r2.2.2), 0)))))
theorem zHv (a0 a1 : Int) (a2 : Nat → Nat → Int) (a3 : List (Nat → Int)) (r : List A) : Tq zCH zt6 zDV zxe r [.rc [.v (.int .i8 a0), .v (.int .i8 a1), .fa2 144 3 .u8 a2], .lst (.one (.fa 3 .u8)) a3] = (Option.bind (zfK a0 a1 a2 a3) fun r1 => (cond (r1 != 0) (some [.rc [.v (.int .i8 0), .v (.int .i8 0), .fa 144 .u8 zF], .v (.int .i64 r1)]) (Option.bind (zfD a0 a1 a2 a3) fun r2 => (some [.rc [.v (.int .i8 r2.1), .v (.int .i8 r2.2.1), .fa 144 .u8 r2.2.2], .v (.int .i64 0)])))) := by kernel_rfl
noncomputable def zEV (r : Int × Int × (Nat → Int) × Int) : List A := [.rc [.v (.int .i8 r.1), .v (.int .i8 r.2.1), .fa 144 .u8 r.2.2.1], .v (.int .i64 r.2.2.2)]
theorem zM7 (a0 a1 : Int) (a2 : Nat → Nat → Int) (a3 : List (Nat → Int)) (v : Int × Int × (Nat → Int) × Int) (h : zj0 a0 a1 a2 a3 = some v) : (Option.bind (zfK a0 a1 a2 a3) fun r1 => (cond (r1 != 0) (some [.rc [.v (.int .i8 0), .v (.int .i8 0), .fa 144 .u8 zF], .v (.int .i64 r1)]) (Option.bind (zfD a0 a1 a2 a3) fun r2 => (some [.rc [.v (.int .i8 r2.1), .v (.int .i8 r2.2.1), .fa 144 .u8 r2.2.2], .v (.int .i64 0)])))) = some (zEV v) := by
 refine Eq.trans (b := Option.map zEV (zj0 a0 a1 a2 a3)) ?_ (by rw [h]; rfl)
 unfold zj0
 exact (zV fun _ => (zM (Option.map zEV) rfl (zV fun _ => rfl)))
noncomputable def zML : List A → ze
 | [.rc [.v (.int .i8 a0), .v (.int .i8 a1), .fa2 144 3 .u8 a2], .lst (.one (.fa 3 .u8)) a3] => ⟨(Int × Int × (Nat → Int) × Int), zj0 a0 a1 a2 a3, fun r => .tup [.rc [.v (.int .i8 r.1), .v (.int .i8 r.2.1), .fa 144 .u8 r.2.2.1], .v (.int .i64 r.2.2.2)]⟩
 | _ => ze.fail
theorem zs7 : zC Tryz.prog 12 zML := by
 refine good zGb zt6 zDV zxe 2 Tryz.func12 fun rs => ?_
 unfold zML
 split
 ·rename_i a0 a1 a2 a3; intro v h; exact ⟨rfl, zEV v, rfl, (zHv a0 a1 a2 a3 _).trans (zM7 a0 a1 a2 a3 v h)⟩
 ·intro v h; cases h
noncomputable def zB2 := zu Tryz.f47
noncomputable def zEb : Ctx := ⟨TT, zr [(46, Xo)], zw, zU⟩
def zAw : List (Nat × zE) := []
def ztw : List ResultVar := [.tmp 2]
theorem zJN : zq Tryz.prog zEb := zo tab mix ⟨⟨Tryz.call46, yn⟩, trivial⟩
noncomputable def zpy (a0 : Int) : Bool := (zK a0 0 15)
theorem zJ8 (a0 : Int) (r : List A) : Tq zEb zAw zB2 ztw r [.v (.int .i64 a0)] = (some [.v (.bool (zK a0 0 15))]) := by kernel_rfl
noncomputable def zTL (r : Bool) : List A := [.v (.bool r)]
theorem zPr (a0 : Int) : (some [.v (.bool (zK a0 0 15))]) = some (zTL (zpy a0)) := by
 unfold zpy
 exact rfl
noncomputable def zMh : List A → ze
 | [.v (.int .i64 a0)] => ⟨Bool, some (zpy a0), fun r => .one (.v (.bool r))⟩
 | _ => ze.fail
theorem zzr : zC Tryz.prog 47 zMh := by
 refine good zJN zAw zB2 ztw 1 Tryz.func47 fun rs => ?_
 unfold zMh
 split
 ·rename_i a0; intro v h; cases h; exact ⟨rfl, zTL (zpy a0), rfl, (zJ8 a0 _).trans (zPr a0)⟩
 ·intro v h; cases h
noncomputable def zqW := zu Tryz.f14
noncomputable def zrS : Ctx := ⟨TT, zr [(46, Xo), (47, zMh), (48, zlU)], zw, zU⟩
def zkd : List (Nat × zE) := [(5, ([2, 6, 8, 9], [], []))]
def zl8 : List ResultVar := [.cell 6 27, .tmp 7]
noncomputable def zBR := Lq zrS zkd zqW zl8
theorem zH4 : zq Tryz.prog zrS := zo tab mix ⟨⟨Tryz.call46, yn⟩, ⟨Tryz.call47, zzr⟩, ⟨Tryz.call48, vg⟩, trivial⟩
noncomputable def zuf (x0 x1 x2 x3 : Int) (x4 : Nat → Int) (x5 x6 : Int) (x7 : Nat → Int) : AS := ⟨[(2, .a (.v (.int .i64 x0))), (6, .a (.ptr 0 [] (0))), (8, .a (.ptr 1 [] (0))), (9, .a (.v (.int .i64 x1)))], [(0, some ⟨true, .box (.rc [.v (.int .i8 x2), .v (.int .i8 x3), .fa 144 .u8 x4])⟩), (1, some ⟨true, .box (.rc [.v (.int .i8 x5), .v (.int .i8 x6), .fa 144 .u8 x7])⟩)], 2⟩
abbrev zL3 := (Int × Int × (Nat → Int) × Int)
noncomputable def zcx (r : Int × Int × (Nat → Int) × Int) : List A := [.rc [.v (.int .i8 r.1), .v (.int .i8 r.2.1), .fa 144 .u8 r.2.2.1], .v (.int .i64 r.2.2.2)]
abbrev za3 := (Int × Int × Int × Int × (Nat → Int) × Int × Int × (Nat → Int))
abbrev zrt := zL3
section
variable {R R' : Type} {S : R → Prop} {r : R'} (E : zL3 → Option R) (E' : zL3 → Option R') (G5 : za3 → Option R) (G5' : za3 → Option R')
noncomputable def zbk (x0 x1 x2 x3 : Int) (x4 : Nat → Int) (x5 x6 : Int) (x7 : Nat → Int) : Option R := (cond (decide (x1 < 144)) (cond (YP x5 x6 x7 x1) (cond (inB x1 144) (G5 (x0, (wrap .i64 (x1 + 1)), x2, x3, x4, x5, x6, (upd x7 (Int.toNat x1) (wrap .u8 x0)))) none) (G5 (x0, (wrap .i64 (x1 + 1)), x2, x3, x4, x5, x6, x7))) (E (x5, x6, x7, 0)))
theorem zx8 (x0 x1 x2 x3 : Int) (x4 : Nat → Int) (x5 x6 : Int) (x7 : Nat → Int) (h : sem S (zbk E G5 x0 x1 x2 x3 x4 x5 x6 x7)) (hE : zJ S r E E') (h5 : zJ S r G5 G5') : zbk E' G5' x0 x1 x2 x3 x4 x5 x6 x7 = some r := by
 revert h
 unfold zbk
 repeat' first | refine zy ?_ ?_ | refine zA fun _ => ?_ | exact zz | exact hE _ | exact h5 _ | refine zp (fun _ => ?_) (fun _ => ?_)
noncomputable def znF (a0 a1 a2 : Int) : Option R := (cond (!(zK a0 1 12)) (E (0, 0, zF, 2)) (cond (!(zK a1 1 12)) (E (0, 0, zF, 2)) (cond (!(zpy a2)) (E (0, 0, zF, 2)) (G5 (a2, 0, 0, 0, zF, (wrap .i8 a0), (wrap .i8 a1), zF)))))
theorem zLs (a0 a1 a2 : Int) (h : sem S (znF E G5 a0 a1 a2)) (hE : zJ S r E E') (h5 : zJ S r G5 G5') : znF E' G5' a0 a1 a2 = some r := by
 revert h
 unfold znF
 repeat' first | refine zy ?_ ?_ | refine zA fun _ => ?_ | exact zz | exact hE _ | exact h5 _ | refine zp (fun _ => ?_) (fun _ => ?_)
end
noncomputable def zea (r : List A) (x : za3) : Option (List A) := zBR r 5 (zuf x.1 x.2.1 x.2.2.1 x.2.2.2.1 x.2.2.2.2.1 x.2.2.2.2.2.1 x.2.2.2.2.2.2.1 x.2.2.2.2.2.2.2)
theorem zyz (x0 x1 x2 x3 : Int) (x4 : Nat → Int) (x5 x6 : Int) (x7 : Nat → Int) (r : List A) (h : zbk (fun v => some (zcx v)) (zea r) x0 x1 x2 x3 x4 x5 x6 x7 = some r) : zBR r 5 (zuf x0 x1 x2 x3 x4 x5 x6 x7) = some r :=
 zn h (by kernel_rfl)
noncomputable def U2 (x0 x1 x2 x3 : Int) (x4 : Nat → Int) (x5 x6 : Int) (x7 : Nat → Int) : Option (za3 ⊕ zrt) := zbk (fun v => some (Sum.inr v)) (fun x => some (Sum.inl x)) x0 x1 x2 x3 x4 x5 x6 x7
noncomputable def zdg (x : za3) : Option zrt := zI (fun x => U2 x.1 x.2.1 x.2.2.1 x.2.2.2.1 x.2.2.2.2.1 x.2.2.2.2.2.1 x.2.2.2.2.2.2.1 x.2.2.2.2.2.2.2) FU x
noncomputable def ztr (r : List A) (x : za3) : Prop := zea r x = some r
noncomputable def zxm (r : List A) : zrt → Prop := fun v => r = zcx v
theorem zFA (r : List A) : ∀ x, sem (zxm r) (zdg x) → ztr r x :=
 fun x => zi (G := ztr r) (E := zxm r) (step := fun x => U2 x.1 x.2.1 x.2.2.1 x.2.2.2.1 x.2.2.2.2.1 x.2.2.2.2.2.1 x.2.2.2.2.2.2.1 x.2.2.2.2.2.2.2) (fun x h => zyz x.1 x.2.1 x.2.2.1 x.2.2.2.1 x.2.2.2.2.1 x.2.2.2.2.2.1 x.2.2.2.2.2.2.1 x.2.2.2.2.2.2.2 r (zx8 _ _ _ _ x.1 x.2.1 x.2.2.1 x.2.2.2.1 x.2.2.2.2.1 x.2.2.2.2.2.1 x.2.2.2.2.2.2.1 x.2.2.2.2.2.2.2 h (fun _ h => zb h fun q => zj q) (fun _ h => zb h fun q => q))) FU x
noncomputable def zo5 (a0 a1 a2 : Int) : Option (Int × Int × (Nat → Int) × Int) := znF some zdg a0 a1 a2
theorem zLc (a0 a1 a2 : Int) (r : List A) : Tq zrS zkd zqW zl8 r [.v (.int .i64 a0), .v (.int .i64 a1), .v (.int .i64 a2)] = znF (fun v => some (zcx v)) (zea r) a0 a1 a2 := by kernel_rfl
theorem zOj (a0 a1 a2 : Int) (v : Int × Int × (Nat → Int) × Int) (h : zo5 a0 a1 a2 = some v) : znF (fun v => some (zcx v)) (zea (zcx v)) a0 a1 a2 = some (zcx v) :=
 zLs _ _ _ _ a0 a1 a2 (show sem (fun w => zcx v = zcx w) (zo5 a0 a1 a2) from ⟨v, h, rfl⟩) (fun _ h => zb h fun q => zj q) (zFA (zcx v))
noncomputable def zPh : List A → ze
 | [.v (.int .i64 a0), .v (.int .i64 a1), .v (.int .i64 a2)] => ⟨(Int × Int × (Nat → Int) × Int), zo5 a0 a1 a2, fun r => .tup [.rc [.v (.int .i8 r.1), .v (.int .i8 r.2.1), .fa 144 .u8 r.2.2.1], .v (.int .i64 r.2.2.2)]⟩
 | _ => ze.fail
theorem zvu : zC Tryz.prog 14 zPh := by
 refine good zH4 zkd zqW zl8 3 Tryz.func14 fun rs => ?_
 unfold zPh
 split
 ·rename_i a0 a1 a2; intro v h; exact ⟨rfl, zcx v, rfl, (zLc a0 a1 a2 _).trans (zOj a0 a1 a2 v h)⟩
 ·intro v h; cases h
end Go.RR
