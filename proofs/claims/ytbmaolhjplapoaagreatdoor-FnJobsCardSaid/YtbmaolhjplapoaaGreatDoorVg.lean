/- Pictures. -/
import Derived.Test.YtbmaolhjplapoaaGreatDoorFb
set_option linter.unusedVariables false
set_option linter.unusedSimpArgs false
set_option linter.unusedSectionVars false
set_option maxRecDepth 100000
namespace Go.RR
open Go Go.Proofs
noncomputable def f_q1x_c := codeC Tryz.f183
noncomputable def f_q1x_X : Ctx := ⟨TT, phiOf [(84, c_q1y)], noPsi, noXi⟩
def f_q1x_LV : List (Nat × Keep) := []
def f_q1x_rv : List ResultVar := [.tmp 4]
theorem f_q1x_ctx : CtxOK Tryz.prog f_q1x_X := ctx_of tab mix ⟨⟨Tryz.call84, f_q1y_sound⟩, trivial⟩
noncomputable def s_q1x (a0 a1 : Int) : Bool := (cond (s_q1y a0 1 12) (s_q1y a1 1 12) false)
theorem f_q1x_top (a0 a1 : Int) (r : List A) : Tq f_q1x_X f_q1x_LV f_q1x_c f_q1x_rv r [.v (.int .i64 a0), .v (.int .i64 a1)] = (cond (s_q1y a0 1 12) (some [.v (.bool (s_q1y a1 1 12))]) (some [.v (.bool false)])) := by kernel_rfl
noncomputable def l_q1x (r : Bool) : List A := [.v (.bool r)]
theorem s_q1x_ok (a0 a1 : Int) : (cond (s_q1y a0 1 12) (some [.v (.bool (s_q1y a1 1 12))]) (some [.v (.bool false)])) = some (l_q1x (s_q1x a0 a1)) := by
 unfold s_q1x
 exact (cond_app (fun x => some (l_q1x x)) rfl rfl)
noncomputable def c_q1x : List A → ACall
 | [.v (.int .i64 a0), .v (.int .i64 a1)] => ⟨Bool, some (s_q1x a0 a1), fun r => .one (.v (.bool r))⟩
 | _ => ACall.fail
theorem f_q1x_sound : Sound Tryz.prog 183 c_q1x := by
 refine good f_q1x_ctx f_q1x_LV f_q1x_c f_q1x_rv 2 Tryz.func183 fun rs => ?_
 unfold c_q1x
 split
 ·rename_i a0 a1; intro v h; cases h; exact ⟨rfl, l_q1x (s_q1x a0 a1), rfl, (f_q1x_top a0 a1 _).trans (s_q1x_ok a0 a1)⟩
 ·intro v h; cases h
noncomputable def p47 (w h : Int) (f : Nat → Int) (j : Nat) : Bool := !(decide (f j ≥ 16)) && (s_q28 w h f j || !(f j != 0))
noncomputable def f_q29_c := codeC Tryz.f152
noncomputable def f_q29_X : Ctx := ⟨TT, phiOf [(101, c_q27), (181, c_q28)], noPsi, noXi⟩
def f_q29_LV : List (Nat × Keep) := [(4, ([0, 3], [], []))]
def f_q29_rv : List ResultVar := [.tmp 2]
noncomputable def f_q29_L := Lq f_q29_X f_q29_LV f_q29_c f_q29_rv
theorem f_q29_ctx : CtxOK Tryz.prog f_q29_X := ctx_of tab mix ⟨⟨Tryz.call101, f_q27_sound⟩, ⟨Tryz.call181, f_q28_sound⟩, trivial⟩
noncomputable def f_q29_s4 (x0 x1 x2 : Int) (x3 : Nat → Int) : AS := ⟨[(0, .a (.ptr 0 [] (0))), (3, .a (.v (.int .i64 x0)))], [(0, some ⟨false, .box (.rc [.v (.int .i8 x1), .v (.int .i8 x2), .fa 144 .u8 x3])⟩)], 1⟩
theorem f_q29_step4 (x0 x1 x2 : Int) (x3 : Nat → Int) (r : List A) (h : (cond (decide (x0 < 144)) (cond (inB x0 144) (cond (decide ((x3 (Int.toNat x0)) ≥ 16)) (some [.v (.bool false)]) (cond (!(s_q28 x1 x2 x3 x0)) (cond (inB x0 144) (cond ((x3 (Int.toNat x0)) != 0) (some [.v (.bool false)]) (f_q29_L r 4 (f_q29_s4 (IntKind.wrap .i64 (x0 + 1)) x1 x2 x3))) none) (f_q29_L r 4 (f_q29_s4 (IntKind.wrap .i64 (x0 + 1)) x1 x2 x3)))) none) (some [.v (.bool true)])) = some r) : f_q29_L r 4 (f_q29_s4 x0 x1 x2 x3) = some r :=
 step_of' h (by kernel_rfl)
noncomputable def s_q29 (a0 a1 : Int) (a2 : Nat → Int) : Bool := s_q27 (IntKind.wrap .i64 a0) 1 12 && (s_q27 (IntKind.wrap .i64 a1) 1 12 && allN (p47 a0 a1 a2) 0 144)
theorem f_q29_top (a0 a1 : Int) (a2 : Nat → Int) (r : List A) : Tq f_q29_X f_q29_LV f_q29_c f_q29_rv r [.ref (.rc [.v (.int .i8 a0), .v (.int .i8 a1), .fa 144 .u8 a2])] = (cond (!(s_q27 (IntKind.wrap .i64 a0) 1 12)) (some [.v (.bool false)]) (cond (!(s_q27 (IntKind.wrap .i64 a1) 1 12)) (some [.v (.bool false)]) (f_q29_L r 4 (f_q29_s4 0 a0 a1 a2)))) := by kernel_rfl
noncomputable def l_q29 (r : Bool) : List A := [.v (.bool r)]
theorem f_q29_loop (w h : Int) (f : Nat → Int) : ∀ (k i : Nat), i + k = 144 → f_q29_L (l_q29 (allN (p47 w h f) i k)) 4 (f_q29_s4 i w h f) = some (l_q29 (allN (p47 w h f) i k))
 | 0, i, hi => by
  obtain rfl : i = 144 := hi
  apply f_q29_step4
  rw [show decide (((144 : Nat) : Int) < 144) = false from rfl, cond_false]
  rfl
 | k + 1, i, hik => by
  have hi : i < 144 := by omega
  have ih := f_q29_loop w h f k (i + 1) (by omega)
  apply f_q29_step4
  rw [show decide ((i : Int) < 144) = true from lt_true (n := 144) hi, inB_nat hi, succ64 (by omega), toNat_nat]
  simp only [cond_true, allN, p47]
  cases h1 : decide (f i ≥ 16) <;> cases h2 : s_q28 w h f i <;> cases h3 : (f i != 0) <;> first | rfl | exact ih
theorem s_q29_ok (a0 a1 : Int) (a2 : Nat → Int) : (cond (!(s_q27 (IntKind.wrap .i64 a0) 1 12)) (some [.v (.bool false)]) (cond (!(s_q27 (IntKind.wrap .i64 a1) 1 12)) (some [.v (.bool false)]) (f_q29_L (l_q29 (s_q29 a0 a1 a2)) 4 (f_q29_s4 0 a0 a1 a2)))) = some (l_q29 (s_q29 a0 a1 a2)) := by
 have h := f_q29_loop a0 a1 a2 144 0 rfl
 unfold s_q29
 cases s_q27 (IntKind.wrap .i64 a0) 1 12 <;> cases s_q27 (IntKind.wrap .i64 a1) 1 12 <;> first | rfl | exact h
noncomputable def c_q29 : List A → ACall
 | [.ref (.rc [.v (.int .i8 a0), .v (.int .i8 a1), .fa 144 .u8 a2])] => ⟨Bool, some (s_q29 a0 a1 a2), fun r => .one (.v (.bool r))⟩
 | _ => ACall.fail
theorem f_q29_sound : Sound Tryz.prog 152 c_q29 := by
 refine good f_q29_ctx f_q29_LV f_q29_c f_q29_rv 1 Tryz.func152 fun rs => ?_
 unfold c_q29
 split
 ·rename_i a0 a1 a2; intro v h; cases h; exact ⟨rfl, l_q29 (s_q29 a0 a1 a2), rfl, (f_q29_top a0 a1 a2 _).trans (s_q29_ok a0 a1 a2)⟩
 ·intro v h; cases h
noncomputable def p53 (w h : Int) (f : Nat → Int) (j : Nat) : Bool := (s_q0l w h f (Int.tmod j 12) (IntKind.wrap .i64 (Int.tdiv j 12)) || !(f j != 0)) && !(decide (f j ≥ 16))
noncomputable def f_q0i_c := codeC Tryz.f147
noncomputable def f_q0i_X : Ctx := ⟨TT, phiOf [(183, c_q1x), (184, c_q0l)], noPsi, noXi⟩
def f_q0i_LV : List (Nat × Keep) := [(4, ([1, 14, 15], [], []))]
def f_q0i_rv : List ResultVar := [.tmp 2]
noncomputable def f_q0i_L := Lq f_q0i_X f_q0i_LV f_q0i_c f_q0i_rv
theorem f_q0i_ctx : CtxOK Tryz.prog f_q0i_X := ctx_of tab mix ⟨⟨Tryz.call183, f_q1x_sound⟩, ⟨Tryz.call184, f_q0l_sound⟩, trivial⟩
noncomputable def f_q0i_s4 (x0 : Nat → Int) (x1 x2 x3 : Int) (x4 : Nat → Int) : AS := ⟨[(1, .a (.ptr 0 [] (0))), (14, .a (.fa 144 .u8 x0)), (15, .a (.v (.int .i64 x1)))], [(0, some ⟨true, .box (.rc [.v (.int .i8 x2), .v (.int .i8 x3), .fa 144 .u8 x4])⟩)], 1⟩
theorem f_q0i_step4 (x0 : Nat → Int) (x1 x2 x3 : Int) (x4 : Nat → Int) (r : List A) (h : (cond (decide (x1 < 144)) (cond (inB x1 144) (cond (!(s_q0l x2 x3 x4 (Int.tmod x1 12) (IntKind.wrap .i64 (Int.tdiv x1 12)))) (cond ((x0 (Int.toNat x1)) != 0) (some [.v (.bool false)]) (cond (decide ((x0 (Int.toNat x1)) ≥ 16)) (some [.v (.bool false)]) (f_q0i_L r 4 (f_q0i_s4 x0 (IntKind.wrap .i64 (x1 + 1)) x2 x3 x4)))) (cond (decide ((x0 (Int.toNat x1)) ≥ 16)) (some [.v (.bool false)]) (f_q0i_L r 4 (f_q0i_s4 x0 (IntKind.wrap .i64 (x1 + 1)) x2 x3 x4)))) none) (some [.v (.bool true)])) = some r) : f_q0i_L r 4 (f_q0i_s4 x0 x1 x2 x3 x4) = some r :=
 step_of' h (by kernel_rfl)
noncomputable def s_q0i (a0 a1 : Int) (a2 : Nat → Int) : Bool := s_q1x (IntKind.wrap .i64 a0) (IntKind.wrap .i64 a1) && allN (p53 a0 a1 a2) 0 144
theorem f_q0i_top (a0 a1 : Int) (a2 : Nat → Int) (r : List A) : Tq f_q0i_X f_q0i_LV f_q0i_c f_q0i_rv r [.rc [.v (.int .i8 a0), .v (.int .i8 a1), .fa 144 .u8 a2]] = (cond (!(s_q1x (IntKind.wrap .i64 a0) (IntKind.wrap .i64 a1))) (some [.v (.bool false)]) (f_q0i_L r 4 (f_q0i_s4 a2 0 a0 a1 a2))) := by kernel_rfl
noncomputable def l_q0i (r : Bool) : List A := [.v (.bool r)]
theorem f_q0i_loop (w h : Int) (f : Nat → Int) : ∀ (k i : Nat), i + k = 144 → f_q0i_L (l_q0i (allN (p53 w h f) i k)) 4 (f_q0i_s4 f i w h f) = some (l_q0i (allN (p53 w h f) i k))
 | 0, i, hi => by
  obtain rfl : i = 144 := hi
  apply f_q0i_step4
  rw [show decide (((144 : Nat) : Int) < 144) = false from rfl, cond_false]
  rfl
 | k + 1, i, hik => by
  have hi : i < 144 := by omega
  have ih := f_q0i_loop w h f k (i + 1) (by omega)
  apply f_q0i_step4
  rw [show decide ((i : Int) < 144) = true from lt_true (n := 144) hi, inB_nat hi, succ64 (by omega), toNat_nat]
  simp only [cond_true, allN, p53]
  cases h1 : decide (f i ≥ 16) <;> cases h2 : s_q0l w h f (Int.tmod i 12) (IntKind.wrap .i64 (Int.tdiv i 12)) <;> cases h3 : (f i != 0) <;> first | rfl | exact ih
theorem s_q0i_ok (a0 a1 : Int) (a2 : Nat → Int) : (cond (!(s_q1x (IntKind.wrap .i64 a0) (IntKind.wrap .i64 a1))) (some [.v (.bool false)]) (f_q0i_L (l_q0i (s_q0i a0 a1 a2)) 4 (f_q0i_s4 a2 0 a0 a1 a2))) = some (l_q0i (s_q0i a0 a1 a2)) := by
 have h := f_q0i_loop a0 a1 a2 144 0 rfl
 unfold s_q0i
 cases s_q1x (IntKind.wrap .i64 a0) (IntKind.wrap .i64 a1) <;> first | rfl | exact h
noncomputable def c_q0i : List A → ACall
 | [.rc [.v (.int .i8 a0), .v (.int .i8 a1), .fa 144 .u8 a2]] => ⟨Bool, some (s_q0i a0 a1 a2), fun r => .one (.v (.bool r))⟩
 | _ => ACall.fail
theorem f_q0i_sound : Sound Tryz.prog 147 c_q0i := by
 refine good f_q0i_ctx f_q0i_LV f_q0i_c f_q0i_rv 1 Tryz.func147 fun rs => ?_
 unfold c_q0i
 split
 ·rename_i a0 a1 a2; intro v h; cases h; exact ⟨rfl, l_q0i (s_q0i a0 a1 a2), rfl, (f_q0i_top a0 a1 a2 _).trans (s_q0i_ok a0 a1 a2)⟩
 ·intro v h; cases h
end Go.RR
namespace Go.RR
open Go Go.Proofs
noncomputable def f_q11_c := codeC Tryz.f150
noncomputable def f_q11_X : Ctx := ⟨TT, phiOf [], noPsi, noXi⟩
def f_q11_LV : List (Nat × Keep) := []
def f_q11_rv : List ResultVar := [.tmp 3]
theorem f_q11_ctx : CtxOK Tryz.prog f_q11_X := ctx_of tab mix trivial
noncomputable def s_q11 (a0 : List Int) (a1 a2 : Int) (a3 : Nat → Int) : Option Bool := (cond (inB 0 (List.length a0)) (cond (inB (List.getD a0 0 0) 144) (some ((a3 (Int.toNat (List.getD a0 0 0))) == 0)) none) none)
theorem f_q11_top (a0 : List Int) (a1 a2 : Int) (a3 : Nat → Int) (r : List A) : Tq f_q11_X f_q11_LV f_q11_c f_q11_rv r [.lst (.one (.i .i64)) a0, .ref (.rc [.v (.int .i8 a1), .v (.int .i8 a2), .fa 144 .u8 a3])] = (cond (inB 0 (List.length a0)) (cond (inB (List.getD a0 0 0) 144) (some [.v (.bool ((a3 (Int.toNat (List.getD a0 0 0))) == 0))]) none) none) := by kernel_rfl
noncomputable def l_q11 (r : Bool) : List A := [.v (.bool r)]
theorem s_q11_ok (a0 : List Int) (a1 a2 : Int) (a3 : Nat → Int) (v : Bool) (h : s_q11 a0 a1 a2 a3 = some v) : (cond (inB 0 (List.length a0)) (cond (inB (List.getD a0 0 0) 144) (some [.v (.bool ((a3 (Int.toNat (List.getD a0 0 0))) == 0))]) none) none) = some (l_q11 v) := by
 refine Eq.trans (b := Option.map l_q11 (s_q11 a0 a1 a2 a3)) ?_ (by rw [h]; rfl)
 unfold s_q11
 exact (cond_app (Option.map l_q11) (cond_app (Option.map l_q11) rfl rfl) rfl)
noncomputable def c_q11 : List A → ACall
 | [.lst (.one (.i .i64)) a0, .ref (.rc [.v (.int .i8 a1), .v (.int .i8 a2), .fa 144 .u8 a3])] => ⟨Bool, s_q11 a0 a1 a2 a3, fun r => .one (.v (.bool r))⟩
 | _ => ACall.fail
theorem f_q11_sound : Sound Tryz.prog 150 c_q11 := by
 refine good f_q11_ctx f_q11_LV f_q11_c f_q11_rv 2 Tryz.func150 fun rs => ?_
 unfold c_q11
 split
 ·rename_i a0 a1 a2 a3; intro v h; exact ⟨rfl, l_q11 v, rfl, (f_q11_top a0 a1 a2 a3 _).trans (s_q11_ok a0 a1 a2 a3 v h)⟩
 ·intro v h; cases h
noncomputable def f_q03_c := codeC Tryz.f108
noncomputable def f_q03_X : Ctx := ⟨TT, phiOf [(150, c_q11)], noPsi, noXi⟩
def f_q03_LV : List (Nat × Keep) := [(2, ([0, 1, 7, 8], [], []))]
def f_q03_rv : List ResultVar := [.tmp 4]
noncomputable def f_q03_L := Lq f_q03_X f_q03_LV f_q03_c f_q03_rv
theorem f_q03_ctx : CtxOK Tryz.prog f_q03_X := ctx_of tab mix ⟨⟨Tryz.call150, f_q11_sound⟩, trivial⟩
noncomputable def f_q03_s2 (x0 x1 : Int) (x2 : (List (List Int))) (x3 x4 : Int) (x5 : Nat → Int) : AS := ⟨[(0, .a (.sl 0)), (1, .a (.clo 150 [.ptr 1 [] (0)])), (7, .a (.v (.int .i64 x0))), (8, .a (.v (.int .i64 x1)))], [(0, some ⟨false, .arr (.one (.ls .i64)) x2⟩), (1, some ⟨false, .box (.rc [.v (.int .i8 x3), .v (.int .i8 x4), .fa 144 .u8 x5])⟩)], 2⟩
noncomputable def l_q03 (r : Int) : List A := [.v (.int .i64 r)]
theorem f_q03_step2 (x0 x1 : Int) (x2 : (List (List Int))) (x3 x4 : Int) (x5 : Nat → Int) (r : List A) (h : (cond (decide (x1 < x0)) (cond (inB x1 (List.length x2)) (Option.bind (s_q11 (List.getD x2 (Int.toNat x1) ([] : List Int)) x3 x4 x5) fun r1 => (cond r1 (some [.v (.int .i64 x1)]) (f_q03_L r 2 (f_q03_s2 x0 (IntKind.wrap .i64 (x1 + 1)) x2 x3 x4 x5)))) none) (some [.v (.int .i64 (-1))])) = some r) : f_q03_L r 2 (f_q03_s2 x0 x1 x2 x3 x4 x5) = some r :=
 step_of' h (by kernel_rfl)
noncomputable def f_q03_n2 (x0 x1 : Int) (x2 : (List (List Int))) (x3 x4 : Int) (x5 : Nat → Int) : Option ((Int × Int × (List (List Int)) × Int × Int × (Nat → Int)) ⊕ Int) := (cond (decide (x1 < x0)) (cond (inB x1 (List.length x2)) (Option.bind (s_q11 (List.getD x2 (Int.toNat x1) ([] : List Int)) x3 x4 x5) fun r1 => (cond r1 (some (Sum.inr x1)) (some (Sum.inl (x0, (IntKind.wrap .i64 (x1 + 1)), x2, x3, x4, x5))))) none) (some (Sum.inr (-1))))
noncomputable def f_q03_run2 (x : (Int × Int × (List (List Int)) × Int × Int × (Nat → Int))) : Option Int := iter (fun x => f_q03_n2 x.1 x.2.1 x.2.2.1 x.2.2.2.1 x.2.2.2.2.1 x.2.2.2.2.2) FU x
noncomputable def f_q03_G2 (r : List A) (x : (Int × Int × (List (List Int)) × Int × Int × (Nat → Int))) : Prop := f_q03_L r 2 (f_q03_s2 x.1 x.2.1 x.2.2.1 x.2.2.2.1 x.2.2.2.2.1 x.2.2.2.2.2) = some r
noncomputable def f_q03_S2 (r : List A) : Int → Prop := fun v => r = l_q03 v
theorem f_q03_go2 (r : List A) : ∀ x, sem (f_q03_S2 r) (f_q03_run2 x) → f_q03_G2 r x :=
 fun x => iter_sound (step := fun x => f_q03_n2 x.1 x.2.1 x.2.2.1 x.2.2.2.1 x.2.2.2.2.1 x.2.2.2.2.2) (fun x h => by
  unfold f_q03_n2 at h
  exact f_q03_step2 x.1 x.2.1 x.2.2.1 x.2.2.2.1 x.2.2.2.2.1 x.2.2.2.2.2 r ((sem_cond h (fun h => (sem_cond h (fun h => (sem_bind h fun r1 h => (sem_cond h (fun h => sem_got h fun q => some_eq q) (fun h => sem_got h fun q => q)))) (fun h => sem_none h))) (fun h => sem_got h fun q => some_eq q)))) FU x
noncomputable def s_q03 (a0 : (List (List Int))) (a1 a2 : Int) (a3 : Nat → Int) : Option Int := (f_q03_run2 (((List.length a0 : Nat) : Int), 0, a0, a1, a2, a3))
theorem f_q03_top (a0 : (List (List Int))) (a1 a2 : Int) (a3 : Nat → Int) (r : List A) : Tq f_q03_X f_q03_LV f_q03_c f_q03_rv r [.lst (.one (.ls .i64)) a0, .clo 150 [.ref (.rc [.v (.int .i8 a1), .v (.int .i8 a2), .fa 144 .u8 a3])]] = (f_q03_L r 2 (f_q03_s2 ((List.length a0 : Nat) : Int) 0 a0 a1 a2 a3)) := by kernel_rfl
theorem s_q03_ok (a0 : (List (List Int))) (a1 a2 : Int) (a3 : Nat → Int) (v : Int) (h : s_q03 a0 a1 a2 a3 = some v) : (f_q03_L (l_q03 v) 2 (f_q03_s2 ((List.length a0 : Nat) : Int) 0 a0 a1 a2 a3)) = some (l_q03 v) := by
 replace h : sem (fun w => l_q03 v = l_q03 w) (s_q03 a0 a1 a2 a3) := ⟨v, h, rfl⟩
 unfold s_q03 at h
 exact f_q03_go2 (l_q03 v) _ h
noncomputable def c_q03 : List A → ACall
 | [.lst (.one (.ls .i64)) a0, .clo 150 [.ref (.rc [.v (.int .i8 a1), .v (.int .i8 a2), .fa 144 .u8 a3])]] => ⟨Int, s_q03 a0 a1 a2 a3, fun r => .one (.v (.int .i64 r))⟩
 | _ => ACall.fail
theorem f_q03_sound : Sound Tryz.prog 108 c_q03 := by
 refine good f_q03_ctx f_q03_LV f_q03_c f_q03_rv 2 Tryz.func108 fun rs => ?_
 unfold c_q03
 split
 ·rename_i a0 a1 a2 a3; intro v h; exact ⟨rfl, l_q03 v, rfl, (f_q03_top a0 a1 a2 a3 _).trans (s_q03_ok a0 a1 a2 a3 v h)⟩
 ·intro v h; cases h
end Go.RR
