/- Pictures: cells, neighbours. -/
import Derived.Test.YtbmaolhjplapoaaGreatVa
set_option linter.unusedVariables false
set_option linter.unusedSimpArgs false
set_option linter.unusedSectionVars false
set_option maxRecDepth 100000
namespace Go.RR
open Go Go.Proofs
open Go.IntKind (wrap)
noncomputable def zqp := zu Tryz.f116
noncomputable def zqE : Ctx := ⟨TT, zr [(84, zpL)], zw, zU⟩
def ziH : List (Nat × zE) := [(3, ([0, 1, 2, 7, 17, 18], [], []))]
def zmB : List ResultVar := [.tmp 6]
noncomputable def zD0 := Lq zqE ziH zqp zmB
theorem zJM : zq Tryz.prog zqE := zo tab mix ⟨⟨Tryz.call84, vG⟩, trivial⟩
noncomputable def zzo (x0 x1 x2 : Int) (x3 : Nat → Nat → Int) (x4 : Int) (x5 : List Int) : AS := ⟨[(0, .a (.v (.int .i64 x0))), (1, .a (.v (.int .i8 x1))), (2, .a (.v (.int .i8 x2))), (7, .a (.sl 0)), (17, .a (.fa2 4 2 .i64 x3)), (18, .a (.v (.int .i64 x4)))], [(0, some ⟨true, .arr (.one (.i .i64)) x5⟩)], 1⟩
abbrev zNc := (List Int)
noncomputable def zhU (r : List Int) : List A := [.lst (.one (.i .i64)) r]
abbrev zbg := (Int × Int × Int × (Nat → Nat → Int) × Int × (List Int))
abbrev zsB := zNc
section
variable {R R' : Type} {S : R → Prop} {r : R'} (E : zNc → Option R) (E' : zNc → Option R') (G3 : zbg → Option R) (G3' : zbg → Option R')
noncomputable def uI (x0 x1 x2 : Int) (x3 : Nat → Nat → Int) (x4 : Int) (x5 : List Int) : Option R := (cond (decide (x4 < 4)) (cond (inB x4 4) (cond (inB 0 2) (cond (inB 1 2) (cond (wd (wrap .i64 ((Int.tmod x0 12) + ((x3 (Int.toNat x4)) 0))) (wrap .i64 ((wrap .i64 (Int.tdiv x0 12)) + ((x3 (Int.toNat x4)) 1))) x1 x2) (cond (zW ((List.length (x5 : List Int) + List.length ([(wrap .i64 ((wrap .i64 ((Int.tmod x0 12) + ((x3 (Int.toNat x4)) 0))) + (wrap .i64 (12 * (wrap .i64 ((wrap .i64 (Int.tdiv x0 12)) + ((x3 (Int.toNat x4)) 1)))))))] : List Int)) * 8)) (G3 (x0, x1, x2, x3, (wrap .i64 (x4 + 1)), (x5 ++ [(wrap .i64 ((wrap .i64 ((Int.tmod x0 12) + ((x3 (Int.toNat x4)) 0))) + (wrap .i64 (12 * (wrap .i64 ((wrap .i64 (Int.tdiv x0 12)) + ((x3 (Int.toNat x4)) 1)))))))]))) none) (G3 (x0, x1, x2, x3, (wrap .i64 (x4 + 1)), x5))) none) none) none) (E x5))
theorem ztA (x0 x1 x2 : Int) (x3 : Nat → Nat → Int) (x4 : Int) (x5 : List Int) (h : sem S (uI E G3 x0 x1 x2 x3 x4 x5)) (hE : zJ S r E E') (h3 : zJ S r G3 G3') : uI E' G3' x0 x1 x2 x3 x4 x5 = some r := by
 revert h
 unfold uI
 repeat' first | refine zy ?_ ?_ | refine zA fun _ => ?_ | exact zz | exact hE _ | exact h3 _ | refine zp (fun _ => ?_) (fun _ => ?_)
noncomputable def zmp (a0 a1 a2 : Int) : Option R := (G3 (a0, a1, a2, (Wg (Wg (Wg (Wg zF2 0 (upd (upd zF 0 0) 1 (-1))) 1 (upd (upd zF 0 (-1)) 1 0)) 2 (upd (upd zF 0 1) 1 0)) 3 (upd (upd zF 0 0) 1 1)), 0, []))
theorem zGc (a0 a1 a2 : Int) (h : sem S (zmp G3 a0 a1 a2)) (h3 : zJ S r G3 G3') : zmp G3' a0 a1 a2 = some r := by
 revert h
 unfold zmp
 repeat' first | refine zy ?_ ?_ | refine zA fun _ => ?_ | exact zz | exact h3 _ | refine zp (fun _ => ?_) (fun _ => ?_)
end
noncomputable def zfN (r : List A) (x : zbg) : Option (List A) := zD0 r 3 (zzo x.1 x.2.1 x.2.2.1 x.2.2.2.1 x.2.2.2.2.1 x.2.2.2.2.2)
theorem zwu (x0 x1 x2 : Int) (x3 : Nat → Nat → Int) (x4 : Int) (x5 : List Int) (r : List A) (h : uI (fun v => some (zhU v)) (zfN r) x0 x1 x2 x3 x4 x5 = some r) : zD0 r 3 (zzo x0 x1 x2 x3 x4 x5) = some r :=
 zn h (by kernel_rfl)
noncomputable def Yw (x0 x1 x2 : Int) (x3 : Nat → Nat → Int) (x4 : Int) (x5 : List Int) : Option (zbg ⊕ zsB) := uI (fun v => some (Sum.inr v)) (fun x => some (Sum.inl x)) x0 x1 x2 x3 x4 x5
noncomputable def zdQ (x : zbg) : Option zsB := zI (fun x => Yw x.1 x.2.1 x.2.2.1 x.2.2.2.1 x.2.2.2.2.1 x.2.2.2.2.2) FU x
noncomputable def zyX (r : List A) (x : zbg) : Prop := zfN r x = some r
noncomputable def zs4 (r : List A) : zsB → Prop := fun v => r = zhU v
theorem zJd (r : List A) : ∀ x, sem (zs4 r) (zdQ x) → zyX r x :=
 fun x => zi (G := zyX r) (E := zs4 r) (step := fun x => Yw x.1 x.2.1 x.2.2.1 x.2.2.2.1 x.2.2.2.2.1 x.2.2.2.2.2) (fun x h => zwu x.1 x.2.1 x.2.2.1 x.2.2.2.1 x.2.2.2.2.1 x.2.2.2.2.2 r (ztA _ _ _ _ x.1 x.2.1 x.2.2.1 x.2.2.2.1 x.2.2.2.2.1 x.2.2.2.2.2 h (fun _ h => zb h fun q => zj q) (fun _ h => zb h fun q => q))) FU x
noncomputable def znQ (a0 a1 a2 : Int) : Option (List Int) := zmp zdQ a0 a1 a2
theorem zFr (a0 a1 a2 : Int) (r : List A) : Tq zqE ziH zqp zmB r [.v (.int .i64 a0), .v (.int .i8 a1), .v (.int .i8 a2)] = zmp (zfN r) a0 a1 a2 := by kernel_rfl
theorem zNl (a0 a1 a2 : Int) (v : List Int) (h : znQ a0 a1 a2 = some v) : zmp (zfN (zhU v)) a0 a1 a2 = some (zhU v) :=
 zGc _ _ a0 a1 a2 (show sem (fun w => zhU v = zhU w) (znQ a0 a1 a2) from ⟨v, h, rfl⟩) (zJd (zhU v))
noncomputable def zDD : List A → ze
 | [.v (.int .i64 a0), .v (.int .i8 a1), .v (.int .i8 a2)] => ⟨(List Int), znQ a0 a1 a2, fun r => .one (.lst (.one (.i .i64)) r)⟩
 | _ => ze.fail
theorem zw2 : zC Tryz.prog 116 zDD := by
 refine good zJM ziH zqp zmB 3 Tryz.func116 fun rs => ?_
 unfold zDD
 split
 ·rename_i a0 a1 a2; intro v h; exact ⟨rfl, zhU v, rfl, (zFr a0 a1 a2 _).trans (zNl a0 a1 a2 v h)⟩
 ·intro v h; cases h
noncomputable def zD1 := zu Tryz.f119
noncomputable def zB1 : Ctx := ⟨TT, zr [], zw, zU⟩
def zyS : List (Nat × zE) := []
def zuD : List ResultVar := [.tmp 4]
theorem zHV : zq Tryz.prog zB1 := zo tab mix trivial
abbrev zTE := (List Int)
noncomputable def zoB (r : List Int) : List A := [.lst (.one (.i .i64)) r]
section
variable {R R' : Type} {S : R → Prop} {r : R'} (E : zTE → Option R) (E' : zTE → Option R')
noncomputable def zjt (a0 a1 : Int) (a2 : Nat → Int) (a3 : Int) : Option R := (cond (decide ((wrap .i64 (Int.tdiv a3 12)) > 0)) (cond (zW ((List.length ([] : List Int) + List.length ([(wrap .i64 (a3 - 12))] : List Int)) * 8)) (cond (decide ((Int.tmod a3 12) > 0)) (cond (zW ((List.length (([] ++ [(wrap .i64 (a3 - 12))]) : List Int) + List.length ([(wrap .i64 (a3 - 1))] : List Int)) * 8)) (cond (decide ((wrap .i64 ((Int.tmod a3 12) + 1)) < (wrap .i64 a0))) (cond (zW ((List.length ((([] ++ [(wrap .i64 (a3 - 12))]) ++ [(wrap .i64 (a3 - 1))]) : List Int) + List.length ([(wrap .i64 (a3 + 1))] : List Int)) * 8)) (cond (decide ((wrap .i64 ((wrap .i64 (Int.tdiv a3 12)) + 1)) < (wrap .i64 a1))) (cond (zW ((List.length (((([] ++ [(wrap .i64 (a3 - 12))]) ++ [(wrap .i64 (a3 - 1))]) ++ [(wrap .i64 (a3 + 1))]) : List Int) + List.length ([(wrap .i64 (a3 + 12))] : List Int)) * 8)) (E (((([] ++ [(wrap .i64 (a3 - 12))]) ++ [(wrap .i64 (a3 - 1))]) ++ [(wrap .i64 (a3 + 1))]) ++ [(wrap .i64 (a3 + 12))])) none) (E ((([] ++ [(wrap .i64 (a3 - 12))]) ++ [(wrap .i64 (a3 - 1))]) ++ [(wrap .i64 (a3 + 1))]))) none) (cond (decide ((wrap .i64 ((wrap .i64 (Int.tdiv a3 12)) + 1)) < (wrap .i64 a1))) (cond (zW ((List.length ((([] ++ [(wrap .i64 (a3 - 12))]) ++ [(wrap .i64 (a3 - 1))]) : List Int) + List.length ([(wrap .i64 (a3 + 12))] : List Int)) * 8)) (E ((([] ++ [(wrap .i64 (a3 - 12))]) ++ [(wrap .i64 (a3 - 1))]) ++ [(wrap .i64 (a3 + 12))])) none) (E (([] ++ [(wrap .i64 (a3 - 12))]) ++ [(wrap .i64 (a3 - 1))])))) none) (cond (decide ((wrap .i64 ((Int.tmod a3 12) + 1)) < (wrap .i64 a0))) (cond (zW ((List.length (([] ++ [(wrap .i64 (a3 - 12))]) : List Int) + List.length ([(wrap .i64 (a3 + 1))] : List Int)) * 8)) (cond (decide ((wrap .i64 ((wrap .i64 (Int.tdiv a3 12)) + 1)) < (wrap .i64 a1))) (cond (zW ((List.length ((([] ++ [(wrap .i64 (a3 - 12))]) ++ [(wrap .i64 (a3 + 1))]) : List Int) + List.length ([(wrap .i64 (a3 + 12))] : List Int)) * 8)) (E ((([] ++ [(wrap .i64 (a3 - 12))]) ++ [(wrap .i64 (a3 + 1))]) ++ [(wrap .i64 (a3 + 12))])) none) (E (([] ++ [(wrap .i64 (a3 - 12))]) ++ [(wrap .i64 (a3 + 1))]))) none) (cond (decide ((wrap .i64 ((wrap .i64 (Int.tdiv a3 12)) + 1)) < (wrap .i64 a1))) (cond (zW ((List.length (([] ++ [(wrap .i64 (a3 - 12))]) : List Int) + List.length ([(wrap .i64 (a3 + 12))] : List Int)) * 8)) (E (([] ++ [(wrap .i64 (a3 - 12))]) ++ [(wrap .i64 (a3 + 12))])) none) (E ([] ++ [(wrap .i64 (a3 - 12))]))))) none) (cond (decide ((Int.tmod a3 12) > 0)) (cond (zW ((List.length ([] : List Int) + List.length ([(wrap .i64 (a3 - 1))] : List Int)) * 8)) (cond (decide ((wrap .i64 ((Int.tmod a3 12) + 1)) < (wrap .i64 a0))) (cond (zW ((List.length (([] ++ [(wrap .i64 (a3 - 1))]) : List Int) + List.length ([(wrap .i64 (a3 + 1))] : List Int)) * 8)) (cond (decide ((wrap .i64 ((wrap .i64 (Int.tdiv a3 12)) + 1)) < (wrap .i64 a1))) (cond (zW ((List.length ((([] ++ [(wrap .i64 (a3 - 1))]) ++ [(wrap .i64 (a3 + 1))]) : List Int) + List.length ([(wrap .i64 (a3 + 12))] : List Int)) * 8)) (E ((([] ++ [(wrap .i64 (a3 - 1))]) ++ [(wrap .i64 (a3 + 1))]) ++ [(wrap .i64 (a3 + 12))])) none) (E (([] ++ [(wrap .i64 (a3 - 1))]) ++ [(wrap .i64 (a3 + 1))]))) none) (cond (decide ((wrap .i64 ((wrap .i64 (Int.tdiv a3 12)) + 1)) < (wrap .i64 a1))) (cond (zW ((List.length (([] ++ [(wrap .i64 (a3 - 1))]) : List Int) + List.length ([(wrap .i64 (a3 + 12))] : List Int)) * 8)) (E (([] ++ [(wrap .i64 (a3 - 1))]) ++ [(wrap .i64 (a3 + 12))])) none) (E ([] ++ [(wrap .i64 (a3 - 1))])))) none) (cond (decide ((wrap .i64 ((Int.tmod a3 12) + 1)) < (wrap .i64 a0))) (cond (zW ((List.length ([] : List Int) + List.length ([(wrap .i64 (a3 + 1))] : List Int)) * 8)) (cond (decide ((wrap .i64 ((wrap .i64 (Int.tdiv a3 12)) + 1)) < (wrap .i64 a1))) (cond (zW ((List.length (([] ++ [(wrap .i64 (a3 + 1))]) : List Int) + List.length ([(wrap .i64 (a3 + 12))] : List Int)) * 8)) (E (([] ++ [(wrap .i64 (a3 + 1))]) ++ [(wrap .i64 (a3 + 12))])) none) (E ([] ++ [(wrap .i64 (a3 + 1))]))) none) (cond (decide ((wrap .i64 ((wrap .i64 (Int.tdiv a3 12)) + 1)) < (wrap .i64 a1))) (cond (zW ((List.length ([] : List Int) + List.length ([(wrap .i64 (a3 + 12))] : List Int)) * 8)) (E ([] ++ [(wrap .i64 (a3 + 12))])) none) (E [])))))
theorem zGj (a0 a1 : Int) (a2 : Nat → Int) (a3 : Int) (h : sem S (zjt E a0 a1 a2 a3)) (hE : zJ S r E E') : zjt E' a0 a1 a2 a3 = some r := by
 revert h
 unfold zjt
 repeat' first | refine zy ?_ ?_ | refine zA fun _ => ?_ | exact zz | exact hE _ | refine zp (fun _ => ?_) (fun _ => ?_)
end
noncomputable def zlo (a0 a1 : Int) (a2 : Nat → Int) (a3 : Int) : Option (List Int) := zjt some a0 a1 a2 a3
theorem zKy (a0 a1 : Int) (a2 : Nat → Int) (a3 : Int) (r : List A) : Tq zB1 zyS zD1 zuD r [.ref (.rc [.v (.int .i8 a0), .v (.int .i8 a1), .fa 144 .u8 a2]), .v (.int .i64 a3)] = zjt (fun v => some (zoB v)) a0 a1 a2 a3 := by kernel_rfl
theorem zOg (a0 a1 : Int) (a2 : Nat → Int) (a3 : Int) (v : List Int) (h : zlo a0 a1 a2 a3 = some v) : zjt (fun v => some (zoB v)) a0 a1 a2 a3 = some (zoB v) :=
 zGj _ _ a0 a1 a2 a3 (show sem (fun w => zoB v = zoB w) (zlo a0 a1 a2 a3) from ⟨v, h, rfl⟩) (fun _ h => zb h fun q => zj q)
noncomputable def zPM : List A → ze
 | [.ref (.rc [.v (.int .i8 a0), .v (.int .i8 a1), .fa 144 .u8 a2]), .v (.int .i64 a3)] => ⟨(List Int), zlo a0 a1 a2 a3, fun r => .one (.lst (.one (.i .i64)) r)⟩
 | _ => ze.fail
theorem zwj : zC Tryz.prog 119 zPM := by
 refine good zHV zyS zD1 zuD 2 Tryz.func119 fun rs => ?_
 unfold zPM
 split
 ·rename_i a0 a1 a2 a3; intro v h; exact ⟨rfl, zoB v, rfl, (zKy a0 a1 a2 a3 _).trans (zOg a0 a1 a2 a3 v h)⟩
 ·intro v h; cases h
noncomputable def zqh := zu Tryz.f79
noncomputable def zqv : Ctx := ⟨TT, zr [], zw, zU⟩
def zmT : List (Nat × zE) := [(3, ([0, 3, 4], [], []))]
def zlZ : List ResultVar := [.tmp 2]
noncomputable def za6 := Lq zqv zmT zqh zlZ
theorem zGI : zq Tryz.prog zqv := zo tab mix trivial
noncomputable def VE (x0 : Int) (x1 : Nat → Bool) (x2 : List Int) : AS := ⟨[(0, .a (.ptr 0 [] (0))), (3, .a (.sl 1)), (4, .a (.v (.int .i64 x0)))], [(0, some ⟨false, .box (.fb 144 x1)⟩), (1, some ⟨true, .arr (.one (.i .i64)) x2⟩)], 2⟩
noncomputable def znl (r : List Int) : List A := [.lst (.one (.i .i64)) r]
theorem zvF (x0 : Int) (x1 : Nat → Bool) (x2 : List Int) (r : List A) (h : (cond (decide (x0 < 144)) (cond (inB x0 144) (cond (x1 (Int.toNat x0)) (cond (zW ((List.length (x2 : List Int) + List.length ([x0] : List Int)) * 8)) (za6 r 3 (VE (wrap .i64 (x0 + 1)) x1 (x2 ++ [x0]))) none) (za6 r 3 (VE (wrap .i64 (x0 + 1)) x1 x2))) none) (some [.lst (.one (.i .i64)) x2])) = some r) : za6 r 3 (VE x0 x1 x2) = some r :=
 zn h (by kernel_rfl)
noncomputable def wT (x0 : Int) (x1 : Nat → Bool) (x2 : List Int) : Option ((Int × (Nat → Bool) × (List Int)) ⊕ (List Int)) := (cond (decide (x0 < 144)) (cond (inB x0 144) (cond (x1 (Int.toNat x0)) (cond (zW ((List.length (x2 : List Int) + List.length ([x0] : List Int)) * 8)) (some (Sum.inl ((wrap .i64 (x0 + 1)), x1, (x2 ++ [x0])))) none) (some (Sum.inl ((wrap .i64 (x0 + 1)), x1, x2)))) none) (some (Sum.inr x2)))
noncomputable def zcV (x : Int × (Nat → Bool) × (List Int)) : Option (List Int) := zI (fun x => wT x.1 x.2.1 x.2.2) FU x
noncomputable def zMr (r : List A) (x : Int × (Nat → Bool) × (List Int)) : Prop := za6 r 3 (VE x.1 x.2.1 x.2.2) = some r
noncomputable def zNr (r : List A) : (List Int) → Prop := fun v => r = znl v
theorem zHR (r : List A) : ∀ x, sem (zNr r) (zcV x) → zMr r x :=
 fun x => zi (step := fun x => wT x.1 x.2.1 x.2.2) (fun x h => by
  unfold wT at h
  exact zvF x.1 x.2.1 x.2.2 r ((za h (fun h => (za h (fun h => (za h (fun h => (za h (fun h => zb h fun q => q) (fun h => zf h))) (fun h => zb h fun q => q))) (fun h => zf h))) (fun h => zb h fun q => zj q)))) FU x
noncomputable def zgX (a0 : Nat → Bool) : Option (List Int) := (zcV (0, a0, []))
theorem zH1 (a0 : Nat → Bool) (r : List A) : Tq zqv zmT zqh zlZ r [.ref (.fb 144 a0)] = (za6 r 3 (VE 0 a0 [])) := by kernel_rfl
theorem zRB (a0 : Nat → Bool) (v : List Int) (h : zgX a0 = some v) : (za6 (znl v) 3 (VE 0 a0 [])) = some (znl v) := by
 replace h : sem (fun w => znl v = znl w) (zgX a0) := ⟨v, h, rfl⟩
 unfold zgX at h
 exact zHR (znl v) _ h
noncomputable def zSd : List A → ze
 | [.ref (.fb 144 a0)] => ⟨(List Int), zgX a0, fun r => .one (.lst (.one (.i .i64)) r)⟩
 | _ => ze.fail
theorem zwb : zC Tryz.prog 79 zSd := by
 refine good zGI zmT zqh zlZ 1 Tryz.func79 fun rs => ?_
 unfold zSd
 split
 ·rename_i a0; intro v h; exact ⟨rfl, znl v, rfl, (zH1 a0 _).trans (zRB a0 v h)⟩
 ·intro v h; cases h
end Go.RR
