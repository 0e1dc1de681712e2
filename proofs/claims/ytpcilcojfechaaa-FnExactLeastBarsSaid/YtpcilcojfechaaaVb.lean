/- Rows that are staggered, as the reference makes them. -/
import Derived.Test.YtpcilcojfechaaaVa
set_option linter.unusedVariables false
set_option linter.unusedSimpArgs false
set_option linter.unusedSectionVars false
set_option maxRecDepth 100000
namespace Go.RR
open Go Go.Proofs

/-! ### function 21: loop.example/g01322/spec.l00In -/
noncomputable def f_sl00In_c : Code := match Try.f21.body with | some c => c | none => .skip
noncomputable def f_sl00In_X : Ctx := ⟨TT, phiOf [], noPsi, noXi⟩
def f_sl00In_LV : List (Nat × Keep) := []
def f_sl00In_rv : List ResultVar := [.tmp 6]
noncomputable def f_sl00In_L (r : List A) : Nat → AS → Option (List A) := L f_sl00In_X (cnOf f_sl00In_LV) f_sl00In_c (K0 TT f_sl00In_rv) r
theorem f_sl00In_ctx : CtxOK Try.prog f_sl00In_X := ctx_of tab mix trivial
noncomputable def s_sl00In (a0 : Int) (a1 : Int) (a2 : Int) : Bool := (cond (decide (a0 ≥ a1)) (decide (a0 ≤ a2)) false)
theorem f_sl00In_top (a0 : Int) (a1 : Int) (a2 : Int) (r : List A) : ev f_sl00In_X (lpc (cnOf f_sl00In_LV) (f_sl00In_L r)) f_sl00In_c (K0 TT f_sl00In_rv) (enter [.v (.int .i64 a0), .v (.int .i64 a1), .v (.int .i64 a2)]) = (cond (decide (a0 ≥ a1)) (some [.v (.bool (decide (a0 ≤ a2)))]) (some [.v (.bool false)])) := by kernel_rfl
noncomputable def l_sl00In (r : Bool) : List A := [.v (.bool r)]
theorem s_sl00In_ok (a0 : Int) (a1 : Int) (a2 : Int) : (cond (decide (a0 ≥ a1)) (some [.v (.bool (decide (a0 ≤ a2)))]) (some [.v (.bool false)])) = some (l_sl00In (s_sl00In a0 a1 a2)) := by
  unfold s_sl00In
  exact (cond_app (fun x => some (l_sl00In x)) rfl rfl)
noncomputable def c_sl00In : List A → ACall
  | [.v (.int .i64 a0), .v (.int .i64 a1), .v (.int .i64 a2)] => ⟨Bool, some (s_sl00In a0 a1 a2), fun r => .one (.v (.bool r))⟩
  | _ => ACall.fail
theorem f_sl00In_sound : Sound Try.prog 21 c_sl00In := by
  refine sound_good f_sl00In_ctx f_sl00In_LV 3 Try.func21 (c := f_sl00In_c) (by kernel_rfl) (rv := f_sl00In_rv) (by kernel_rfl) (by kernel_rfl) (by kernel_rfl) (by kernel_rfl) fun rs => ?_
  unfold c_sl00In
  split
  · rename_i a0 a1 a2; intro v h; cases h; exact ⟨rfl, l_sl00In (s_sl00In a0 a1 a2), rfl, (f_sl00In_top a0 a1 a2 _).trans (s_sl00In_ok a0 a1 a2)⟩
  · intro v h; cases h

/-! ### function 40: loop.example/g01322/spec.l05Seam -/
noncomputable def f_sl05Seam_c : Code := match Try.f40.body with | some c => c | none => .skip
noncomputable def f_sl05Seam_X : Ctx := ⟨TT, phiOf [(21, c_sl00In)], noPsi, noXi⟩
def f_sl05Seam_LV : List (Nat × Keep) := []
def f_sl05Seam_rv : List ResultVar := [.tmp 2]
noncomputable def f_sl05Seam_L (r : List A) : Nat → AS → Option (List A) := L f_sl05Seam_X (cnOf f_sl05Seam_LV) f_sl05Seam_c (K0 TT f_sl05Seam_rv) r
theorem f_sl05Seam_ctx : CtxOK Try.prog f_sl05Seam_X := ctx_of tab mix ⟨⟨Try.call21, f_sl00In_sound⟩, trivial⟩
noncomputable def s_sl05Seam (a0 : Int) : Bool := (s_sl00In a0 0 200)
theorem f_sl05Seam_top (a0 : Int) (r : List A) : ev f_sl05Seam_X (lpc (cnOf f_sl05Seam_LV) (f_sl05Seam_L r)) f_sl05Seam_c (K0 TT f_sl05Seam_rv) (enter [.v (.int .i64 a0)]) = (some [.v (.bool (s_sl00In a0 0 200))]) := by kernel_rfl
noncomputable def l_sl05Seam (r : Bool) : List A := [.v (.bool r)]
theorem s_sl05Seam_ok (a0 : Int) : (some [.v (.bool (s_sl00In a0 0 200))]) = some (l_sl05Seam (s_sl05Seam a0)) := by
  unfold s_sl05Seam
  exact rfl
noncomputable def c_sl05Seam : List A → ACall
  | [.v (.int .i64 a0)] => ⟨Bool, some (s_sl05Seam a0), fun r => .one (.v (.bool r))⟩
  | _ => ACall.fail
theorem f_sl05Seam_sound : Sound Try.prog 40 c_sl05Seam := by
  refine sound_good f_sl05Seam_ctx f_sl05Seam_LV 1 Try.func40 (c := f_sl05Seam_c) (by kernel_rfl) (rv := f_sl05Seam_rv) (by kernel_rfl) (by kernel_rfl) (by kernel_rfl) (by kernel_rfl) fun rs => ?_
  unfold c_sl05Seam
  split
  · rename_i a0; intro v h; cases h; exact ⟨rfl, l_sl05Seam (s_sl05Seam a0), rfl, (f_sl05Seam_top a0 _).trans (s_sl05Seam_ok a0)⟩
  · intro v h; cases h

/-! ### function 18: loop.example/g01322/spec.l05Long -/
noncomputable def f_sl05Long_c : Code := match Try.f18.body with | some c => c | none => .skip
noncomputable def f_sl05Long_X : Ctx := ⟨TT, phiOf [(21, c_sl00In), (40, c_sl05Seam)], noPsi, noXi⟩
def f_sl05Long_LV : List (Nat × Keep) := []
def f_sl05Long_rv : List ResultVar := [.tmp 4]
noncomputable def f_sl05Long_L (r : List A) : Nat → AS → Option (List A) := L f_sl05Long_X (cnOf f_sl05Long_LV) f_sl05Long_c (K0 TT f_sl05Long_rv) r
theorem f_sl05Long_ctx : CtxOK Try.prog f_sl05Long_X := ctx_of tab mix ⟨⟨Try.call21, f_sl00In_sound⟩, ⟨Try.call40, f_sl05Seam_sound⟩, trivial⟩
noncomputable def s_sl05Long (a0 : Int) (a1 : Int) : Bool := (cond (s_sl00In a0 1 2000) (s_sl05Seam a1) false)
theorem f_sl05Long_top (a0 : Int) (a1 : Int) (r : List A) : ev f_sl05Long_X (lpc (cnOf f_sl05Long_LV) (f_sl05Long_L r)) f_sl05Long_c (K0 TT f_sl05Long_rv) (enter [.v (.int .i64 a0), .v (.int .i64 a1)]) = (cond (s_sl00In a0 1 2000) (some [.v (.bool (s_sl05Seam a1))]) (some [.v (.bool false)])) := by kernel_rfl
noncomputable def l_sl05Long (r : Bool) : List A := [.v (.bool r)]
theorem s_sl05Long_ok (a0 : Int) (a1 : Int) : (cond (s_sl00In a0 1 2000) (some [.v (.bool (s_sl05Seam a1))]) (some [.v (.bool false)])) = some (l_sl05Long (s_sl05Long a0 a1)) := by
  unfold s_sl05Long
  exact (cond_app (fun x => some (l_sl05Long x)) rfl rfl)
noncomputable def c_sl05Long : List A → ACall
  | [.v (.int .i64 a0), .v (.int .i64 a1)] => ⟨Bool, some (s_sl05Long a0 a1), fun r => .one (.v (.bool r))⟩
  | _ => ACall.fail
theorem f_sl05Long_sound : Sound Try.prog 18 c_sl05Long := by
  refine sound_good f_sl05Long_ctx f_sl05Long_LV 2 Try.func18 (c := f_sl05Long_c) (by kernel_rfl) (rv := f_sl05Long_rv) (by kernel_rfl) (by kernel_rfl) (by kernel_rfl) (by kernel_rfl) fun rs => ?_
  unfold c_sl05Long
  split
  · rename_i a0 a1; intro v h; cases h; exact ⟨rfl, l_sl05Long (s_sl05Long a0 a1), rfl, (f_sl05Long_top a0 a1 _).trans (s_sl05Long_ok a0 a1)⟩
  · intro v h; cases h

/-! ### function 19: loop.example/g01322/spec.l05Width -/
noncomputable def f_sl05Width_c : Code := match Try.f19.body with | some c => c | none => .skip
noncomputable def f_sl05Width_X : Ctx := ⟨TT, phiOf [(21, c_sl00In)], noPsi, noXi⟩
def f_sl05Width_LV : List (Nat × Keep) := []
def f_sl05Width_rv : List ResultVar := [.tmp 2]
noncomputable def f_sl05Width_L (r : List A) : Nat → AS → Option (List A) := L f_sl05Width_X (cnOf f_sl05Width_LV) f_sl05Width_c (K0 TT f_sl05Width_rv) r
theorem f_sl05Width_ctx : CtxOK Try.prog f_sl05Width_X := ctx_of tab mix ⟨⟨Try.call21, f_sl00In_sound⟩, trivial⟩
noncomputable def s_sl05Width (a0 : Int) : Bool := (s_sl00In a0 1 200)
theorem f_sl05Width_top (a0 : Int) (r : List A) : ev f_sl05Width_X (lpc (cnOf f_sl05Width_LV) (f_sl05Width_L r)) f_sl05Width_c (K0 TT f_sl05Width_rv) (enter [.v (.int .i64 a0)]) = (some [.v (.bool (s_sl00In a0 1 200))]) := by kernel_rfl
noncomputable def l_sl05Width (r : Bool) : List A := [.v (.bool r)]
theorem s_sl05Width_ok (a0 : Int) : (some [.v (.bool (s_sl00In a0 1 200))]) = some (l_sl05Width (s_sl05Width a0)) := by
  unfold s_sl05Width
  exact rfl
noncomputable def c_sl05Width : List A → ACall
  | [.v (.int .i64 a0)] => ⟨Bool, some (s_sl05Width a0), fun r => .one (.v (.bool r))⟩
  | _ => ACall.fail
theorem f_sl05Width_sound : Sound Try.prog 19 c_sl05Width := by
  refine sound_good f_sl05Width_ctx f_sl05Width_LV 1 Try.func19 (c := f_sl05Width_c) (by kernel_rfl) (rv := f_sl05Width_rv) (by kernel_rfl) (by kernel_rfl) (by kernel_rfl) (by kernel_rfl) fun rs => ?_
  unfold c_sl05Width
  split
  · rename_i a0; intro v h; cases h; exact ⟨rfl, l_sl05Width (s_sl05Width a0), rfl, (f_sl05Width_top a0 _).trans (s_sl05Width_ok a0)⟩
  · intro v h; cases h

/-! ### function 20: loop.example/g01322/spec.l05Near -/
noncomputable def f_sl05Near_c : Code := match Try.f20.body with | some c => c | none => .skip
noncomputable def f_sl05Near_X : Ctx := ⟨TT, phiOf [(21, c_sl00In)], noPsi, noXi⟩
def f_sl05Near_LV : List (Nat × Keep) := []
def f_sl05Near_rv : List ResultVar := [.tmp 2]
noncomputable def f_sl05Near_L (r : List A) : Nat → AS → Option (List A) := L f_sl05Near_X (cnOf f_sl05Near_LV) f_sl05Near_c (K0 TT f_sl05Near_rv) r
theorem f_sl05Near_ctx : CtxOK Try.prog f_sl05Near_X := ctx_of tab mix ⟨⟨Try.call21, f_sl00In_sound⟩, trivial⟩
noncomputable def s_sl05Near (a0 : Int) : Bool := (s_sl00In a0 0 2000)
theorem f_sl05Near_top (a0 : Int) (r : List A) : ev f_sl05Near_X (lpc (cnOf f_sl05Near_LV) (f_sl05Near_L r)) f_sl05Near_c (K0 TT f_sl05Near_rv) (enter [.v (.int .i64 a0)]) = (some [.v (.bool (s_sl00In a0 0 2000))]) := by kernel_rfl
noncomputable def l_sl05Near (r : Bool) : List A := [.v (.bool r)]
theorem s_sl05Near_ok (a0 : Int) : (some [.v (.bool (s_sl00In a0 0 2000))]) = some (l_sl05Near (s_sl05Near a0)) := by
  unfold s_sl05Near
  exact rfl
noncomputable def c_sl05Near : List A → ACall
  | [.v (.int .i64 a0)] => ⟨Bool, some (s_sl05Near a0), fun r => .one (.v (.bool r))⟩
  | _ => ACall.fail
theorem f_sl05Near_sound : Sound Try.prog 20 c_sl05Near := by
  refine sound_good f_sl05Near_ctx f_sl05Near_LV 1 Try.func20 (c := f_sl05Near_c) (by kernel_rfl) (rv := f_sl05Near_rv) (by kernel_rfl) (by kernel_rfl) (by kernel_rfl) (by kernel_rfl) fun rs => ?_
  unfold c_sl05Near
  split
  · rename_i a0; intro v h; cases h; exact ⟨rfl, l_sl05Near (s_sl05Near a0), rfl, (f_sl05Near_top a0 _).trans (s_sl05Near_ok a0)⟩
  · intro v h; cases h

/-! ### function 41: loop.example/g01322/spec.l05Ok -/
noncomputable def f_sl05Ok_c : Code := match Try.f41.body with | some c => c | none => .skip
noncomputable def f_sl05Ok_X : Ctx := ⟨TT, phiOf [(19, c_sl05Width), (21, c_sl00In)], noPsi, noXi⟩
def f_sl05Ok_LV : List (Nat × Keep) := [(4, ([0, 3], [], []))]
def f_sl05Ok_rv : List ResultVar := [.tmp 2]
noncomputable def f_sl05Ok_L (r : List A) : Nat → AS → Option (List A) := L f_sl05Ok_X (cnOf f_sl05Ok_LV) f_sl05Ok_c (K0 TT f_sl05Ok_rv) r
theorem f_sl05Ok_ctx : CtxOK Try.prog f_sl05Ok_X := ctx_of tab mix ⟨⟨Try.call19, f_sl05Width_sound⟩, ⟨Try.call21, f_sl00In_sound⟩, trivial⟩
noncomputable def f_sl05Ok_s4 (x0 : Int) (x1 : (List Int)) : AS := ⟨[(0, .a (.sl 0)), (3, .a (.v (.int .i64 x0)))], [(0, some ⟨false, .arr (.one (.i .i16)) x1⟩)], 1⟩
noncomputable def l_sl05Ok (r : Bool) : List A := [.v (.bool r)]
theorem f_sl05Ok_step4 (x0 : Int) (x1 : (List Int)) (r : List A) (h : (cond (decide (x0 < ((List.length x1 : Nat) : Int))) (cond (inB x0 (List.length x1)) (cond (!(s_sl05Width (IntKind.wrap .i64 (List.getD x1 (Int.toNat x0) 0)))) (some [.v (.bool false)]) (f_sl05Ok_L r 4 (f_sl05Ok_s4 (IntKind.wrap .i64 (x0 + 1)) x1))) none) (some [.v (.bool true)])) = some r) : f_sl05Ok_L r 4 (f_sl05Ok_s4 x0 x1) = some r :=
  step_of' h (by kernel_rfl)
noncomputable def f_sl05Ok_n4 (x0 : Int) (x1 : (List Int)) : Option ((Int × (List Int)) ⊕ Bool) := (cond (decide (x0 < ((List.length x1 : Nat) : Int))) (cond (inB x0 (List.length x1)) (cond (!(s_sl05Width (IntKind.wrap .i64 (List.getD x1 (Int.toNat x0) 0)))) (some (Sum.inr false)) (some (Sum.inl ((IntKind.wrap .i64 (x0 + 1)), x1)))) none) (some (Sum.inr true)))
noncomputable def f_sl05Ok_run4 (x : (Int × (List Int))) : Option Bool := iter (fun x => f_sl05Ok_n4 x.1 x.2) FU x
noncomputable def f_sl05Ok_G4 (r : List A) (x : (Int × (List Int))) : Prop := f_sl05Ok_L r 4 (f_sl05Ok_s4 x.1 x.2) = some r
noncomputable def f_sl05Ok_S4 (r : List A) : Bool → Prop := fun v => r = l_sl05Ok v
theorem f_sl05Ok_go4 (r : List A) : ∀ x, sem (f_sl05Ok_S4 r) (f_sl05Ok_run4 x) → f_sl05Ok_G4 r x :=
  fun x => iter_sound (step := fun x => f_sl05Ok_n4 x.1 x.2) (fun x h => by
    unfold f_sl05Ok_n4 at h
    exact f_sl05Ok_step4 x.1 x.2 r ((sem_cond h (fun h => (sem_cond h (fun h => (sem_cond h (fun h => sem_got h fun q => some_eq q) (fun h => sem_got h fun q => q))) (fun h => sem_none h))) (fun h => sem_got h fun q => some_eq q)))) FU x
noncomputable def s_sl05Ok (a0 : (List Int)) : Option Bool := (cond (!(s_sl00In ((List.length a0 : Nat) : Int) 1 60)) (some false) (f_sl05Ok_run4 (0, a0)))
theorem f_sl05Ok_top (a0 : (List Int)) (r : List A) : ev f_sl05Ok_X (lpc (cnOf f_sl05Ok_LV) (f_sl05Ok_L r)) f_sl05Ok_c (K0 TT f_sl05Ok_rv) (enter [.lst (.one (.i .i16)) a0]) = (cond (!(s_sl00In ((List.length a0 : Nat) : Int) 1 60)) (some [.v (.bool false)]) (f_sl05Ok_L r 4 (f_sl05Ok_s4 0 a0))) := by kernel_rfl
theorem s_sl05Ok_ok (a0 : (List Int)) (v : Bool) (h : s_sl05Ok a0 = some v) : (cond (!(s_sl00In ((List.length a0 : Nat) : Int) 1 60)) (some [.v (.bool false)]) (f_sl05Ok_L (l_sl05Ok v) 4 (f_sl05Ok_s4 0 a0))) = some (l_sl05Ok v) := by
  unfold s_sl05Ok at h
  have go : ∀ r, sem (fun v => r = l_sl05Ok v) ((cond (!(s_sl00In ((List.length a0 : Nat) : Int) 1 60)) (some false) (f_sl05Ok_run4 (0, a0)))) → (cond (!(s_sl00In ((List.length a0 : Nat) : Int) 1 60)) (some [.v (.bool false)]) (f_sl05Ok_L r 4 (f_sl05Ok_s4 0 a0))) = some r := fun r h => (sem_cond h (fun h => sem_got h fun q => some_eq q) (fun h => f_sl05Ok_go4 r _ h))
  exact go (l_sl05Ok v) ⟨v, h, rfl⟩
noncomputable def c_sl05Ok : List A → ACall
  | [.lst (.one (.i .i16)) a0] => ⟨Bool, s_sl05Ok a0, fun r => .one (.v (.bool r))⟩
  | _ => ACall.fail
theorem f_sl05Ok_sound : Sound Try.prog 41 c_sl05Ok := by
  refine sound_good f_sl05Ok_ctx f_sl05Ok_LV 1 Try.func41 (c := f_sl05Ok_c) (by kernel_rfl) (rv := f_sl05Ok_rv) (by kernel_rfl) (by kernel_rfl) (by kernel_rfl) (by kernel_rfl) fun rs => ?_
  unfold c_sl05Ok
  split
  · rename_i a0; intro v h; exact ⟨rfl, l_sl05Ok v, rfl, (f_sl05Ok_top a0 _).trans (s_sl05Ok_ok a0 v h)⟩
  · intro v h; cases h

/-! ### function 22: loop.example/g01322/spec.l05Brick -/
noncomputable def f_sl05Brick_c : Code := match Try.f22.body with | some c => c | none => .skip
noncomputable def f_sl05Brick_X : Ctx := ⟨TT, phiOf [(19, c_sl05Width), (41, c_sl05Ok)], noPsi, noXi⟩
def f_sl05Brick_LV : List (Nat × Keep) := [(5, ([0, 1, 2, 10, 11], [], [])), (14, ([10, 13, 14], [], []))]
def f_sl05Brick_rv : List ResultVar := [.tmp 8, .tmp 9]
noncomputable def f_sl05Brick_L (r : List A) : Nat → AS → Option (List A) := L f_sl05Brick_X (cnOf f_sl05Brick_LV) f_sl05Brick_c (K0 TT f_sl05Brick_rv) r
theorem f_sl05Brick_ctx : CtxOK Try.prog f_sl05Brick_X := ctx_of tab mix ⟨⟨Try.call19, f_sl05Width_sound⟩, ⟨Try.call41, f_sl05Ok_sound⟩, trivial⟩
noncomputable def f_sl05Brick_s5 (x0 : Int) (x1 : Int) (x2 : Int) (x3 : Int) (x4 : (List Int)) : AS := ⟨[(0, .a (.v (.int .i64 x0))), (1, .a (.v (.int .i64 x1))), (2, .a (.v (.int .i64 x2))), (10, .a (.sl 0)), (11, .a (.v (.int .i64 x3)))], [(0, some ⟨true, .arr (.one (.i .i64)) x4⟩)], 1⟩
noncomputable def f_sl05Brick_s14 (x0 : Int) (x1 : (List Int)) (x2 : (List Int)) : AS := ⟨[(10, .a (.sl 0)), (13, .a (.sl 1)), (14, .a (.v (.int .i64 x0)))], [(0, some ⟨true, .arr (.one (.i .i64)) x1⟩), (1, some ⟨true, .arr (.one (.i .i16)) x2⟩)], 2⟩
abbrev A_sl05Brick := ((List Int) × Bool)
noncomputable def l_sl05Brick (r : ((List Int) × Bool)) : List A := [.lst (.one (.i .i16)) r.1, .v (.bool r.2)]
abbrev Z_sl05Brick_5 := (Int × Int × Int × Int × (List Int))
abbrev Y_sl05Brick_5 := A_sl05Brick
abbrev Z_sl05Brick_14 := (Int × (List Int) × (List Int))
abbrev Y_sl05Brick_14 := A_sl05Brick
section
variable {R R' : Type} {S : R → Prop} {r : R'} (E : A_sl05Brick → Option R) (E' : A_sl05Brick → Option R') (G5 : Z_sl05Brick_5 → Option R) (G5' : Z_sl05Brick_5 → Option R') (G14 : Z_sl05Brick_14 → Option R) (G14' : Z_sl05Brick_14 → Option R')
noncomputable def t_sl05Brick_5 (x0 x1 x2 x3 : Int) (x4 : (List Int)) : Option R := (cond (decide ((IntKind.wrap .i64 ((IntKind.wrap .i64 (x3 + x1)) + x2)) ≤ x0)) (cond (decide (((List.length x4 : Nat) : Int) ≤ 60)) (cond (fits ((List.length (x4 : List Int) + List.length ([x2] : List Int)) * 8)) (G5 (x0, x1, x2, (IntKind.wrap .i64 (x3 + (IntKind.wrap .i64 (x1 + x2)))), (x4 ++ [x2]))) none) (cond (decide ((IntKind.wrap .i64 (x0 - x3)) > x1)) (cond (fits ((List.length (x4 : List Int) + List.length ([(IntKind.wrap .i64 ((IntKind.wrap .i64 (x0 - x3)) - x1))] : List Int)) * 8)) (G14 (0, (x4 ++ [(IntKind.wrap .i64 ((IntKind.wrap .i64 (x0 - x3)) - x1))]), [])) none) (cond (inB (IntKind.wrap .i64 (((List.length x4 : Nat) : Int) - 1)) (List.length x4)) (cond (inB (IntKind.wrap .i64 (((List.length x4 : Nat) : Int) - 1)) (List.length x4)) (G14 (0, (List.set x4 (Int.toNat (IntKind.wrap .i64 (((List.length x4 : Nat) : Int) - 1))) (IntKind.wrap .i64 ((List.getD x4 (Int.toNat (IntKind.wrap .i64 (((List.length x4 : Nat) : Int) - 1))) 0) + (IntKind.wrap .i64 (x0 - x3))))), [])) none) none))) (cond (decide ((IntKind.wrap .i64 (x0 - x3)) > x1)) (cond (fits ((List.length (x4 : List Int) + List.length ([(IntKind.wrap .i64 ((IntKind.wrap .i64 (x0 - x3)) - x1))] : List Int)) * 8)) (G14 (0, (x4 ++ [(IntKind.wrap .i64 ((IntKind.wrap .i64 (x0 - x3)) - x1))]), [])) none) (cond (inB (IntKind.wrap .i64 (((List.length x4 : Nat) : Int) - 1)) (List.length x4)) (cond (inB (IntKind.wrap .i64 (((List.length x4 : Nat) : Int) - 1)) (List.length x4)) (G14 (0, (List.set x4 (Int.toNat (IntKind.wrap .i64 (((List.length x4 : Nat) : Int) - 1))) (IntKind.wrap .i64 ((List.getD x4 (Int.toNat (IntKind.wrap .i64 (((List.length x4 : Nat) : Int) - 1))) 0) + (IntKind.wrap .i64 (x0 - x3))))), [])) none) none)))
theorem t_sl05Brick_5_sem (x0 x1 x2 x3 : Int) (x4 : (List Int)) (h : sem S (t_sl05Brick_5 G5 G14 x0 x1 x2 x3 x4)) (h5 : Leads S r G5 G5') (h14 : Leads S r G14 G14') : t_sl05Brick_5 G5' G14' x0 x1 x2 x3 x4 = some r := by
  revert h
  unfold t_sl05Brick_5
  repeat' first | refine sem_condK ?_ ?_ | refine sem_bindK fun _ => ?_ | exact sem_noneK | exact h5 _ | exact h14 _ | refine sem_bind2K (fun _ => ?_) (fun _ => ?_)
noncomputable def t_sl05Brick_14 (x0 : Int) (x1 x2 : (List Int)) : Option R := (cond (decide (x0 < ((List.length x1 : Nat) : Int))) (cond (inB x0 (List.length x1)) (cond (!(s_sl05Width (List.getD x1 (Int.toNat x0) 0))) (E ([], false)) (cond (inB x0 (List.length x1)) (cond (fits ((List.length (x2 : List Int) + List.length ([(IntKind.wrap .i16 (List.getD x1 (Int.toNat x0) 0))] : List Int)) * 2)) (G14 ((IntKind.wrap .i64 (x0 + 1)), x1, (x2 ++ [(IntKind.wrap .i16 (List.getD x1 (Int.toNat x0) 0))]))) none) none)) none) (Option.bind (s_sl05Ok x2) fun r1 => (E (x2, r1))))
theorem t_sl05Brick_14_sem (x0 : Int) (x1 x2 : (List Int)) (h : sem S (t_sl05Brick_14 E G14 x0 x1 x2)) (hE : Leads S r E E') (h14 : Leads S r G14 G14') : t_sl05Brick_14 E' G14' x0 x1 x2 = some r := by
  revert h
  unfold t_sl05Brick_14
  repeat' first | refine sem_condK ?_ ?_ | refine sem_bindK fun _ => ?_ | exact sem_noneK | exact hE _ | exact h14 _ | refine sem_bind2K (fun _ => ?_) (fun _ => ?_)
noncomputable def t_sl05Brick (a0 a1 a2 a3 : Int) : Option R := (cond (decide (a3 ≥ a0)) (cond (inB 0 (List.length [a3])) (G14 (0, (List.set [a3] 0 a0), [])) none) (G5 (a0, a1, a2, a3, [a3])))
theorem t_sl05Brick_sem (a0 a1 a2 a3 : Int) (h : sem S (t_sl05Brick G5 G14 a0 a1 a2 a3)) (h5 : Leads S r G5 G5') (h14 : Leads S r G14 G14') : t_sl05Brick G5' G14' a0 a1 a2 a3 = some r := by
  revert h
  unfold t_sl05Brick
  repeat' first | refine sem_condK ?_ ?_ | refine sem_bindK fun _ => ?_ | exact sem_noneK | exact h5 _ | exact h14 _ | refine sem_bind2K (fun _ => ?_) (fun _ => ?_)
end
noncomputable def f_sl05Brick_K5 (r : List A) (x : Z_sl05Brick_5) : Option (List A) := f_sl05Brick_L r 5 (f_sl05Brick_s5 x.1 x.2.1 x.2.2.1 x.2.2.2.1 x.2.2.2.2)
noncomputable def f_sl05Brick_K14 (r : List A) (x : Z_sl05Brick_14) : Option (List A) := f_sl05Brick_L r 14 (f_sl05Brick_s14 x.1 x.2.1 x.2.2)
theorem f_sl05Brick_step14 (x0 : Int) (x1 x2 : (List Int)) (r : List A) (h : t_sl05Brick_14 (fun v => some (l_sl05Brick v)) (f_sl05Brick_K14 r) x0 x1 x2 = some r) : f_sl05Brick_L r 14 (f_sl05Brick_s14 x0 x1 x2) = some r :=
  step_of' h (by kernel_rfl)
noncomputable def f_sl05Brick_n14 (x0 : Int) (x1 x2 : (List Int)) : Option (Z_sl05Brick_14 ⊕ Y_sl05Brick_14) := t_sl05Brick_14 (fun v => some (Sum.inr v)) (fun x => some (Sum.inl x)) x0 x1 x2
noncomputable def f_sl05Brick_run14 (x : Z_sl05Brick_14) : Option Y_sl05Brick_14 := iter (fun x => f_sl05Brick_n14 x.1 x.2.1 x.2.2) FU x
noncomputable def f_sl05Brick_G14 (r : List A) (x : Z_sl05Brick_14) : Prop := f_sl05Brick_K14 r x = some r
theorem f_sl05Brick_step5 (x0 x1 x2 x3 : Int) (x4 : (List Int)) (r : List A) (h : t_sl05Brick_5 (f_sl05Brick_K5 r) (f_sl05Brick_K14 r) x0 x1 x2 x3 x4 = some r) : f_sl05Brick_L r 5 (f_sl05Brick_s5 x0 x1 x2 x3 x4) = some r :=
  step_of' h (by kernel_rfl)
noncomputable def f_sl05Brick_n5 (x0 x1 x2 x3 : Int) (x4 : (List Int)) : Option (Z_sl05Brick_5 ⊕ Y_sl05Brick_5) := t_sl05Brick_5 (fun x => some (Sum.inl x)) (fun x => Option.map (fun x => (Sum.inr x)) (f_sl05Brick_run14 x)) x0 x1 x2 x3 x4
noncomputable def f_sl05Brick_run5 (x : Z_sl05Brick_5) : Option Y_sl05Brick_5 := iter (fun x => f_sl05Brick_n5 x.1 x.2.1 x.2.2.1 x.2.2.2.1 x.2.2.2.2) FU x
noncomputable def f_sl05Brick_G5 (r : List A) (x : Z_sl05Brick_5) : Prop := f_sl05Brick_K5 r x = some r
noncomputable def f_sl05Brick_S14 (r : List A) : Y_sl05Brick_14 → Prop := fun v => r = l_sl05Brick v
noncomputable def f_sl05Brick_S5 (r : List A) : Y_sl05Brick_5 → Prop := fun v => r = l_sl05Brick v
theorem f_sl05Brick_go14 (r : List A) : ∀ x, sem (f_sl05Brick_S14 r) (f_sl05Brick_run14 x) → f_sl05Brick_G14 r x :=
  fun x => iter_sound (G := f_sl05Brick_G14 r) (E := f_sl05Brick_S14 r) (step := fun x => f_sl05Brick_n14 x.1 x.2.1 x.2.2) (fun x h => f_sl05Brick_step14 x.1 x.2.1 x.2.2 r (t_sl05Brick_14_sem _ _ _ _ x.1 x.2.1 x.2.2 h (fun _ h => sem_got h fun q => some_eq q) (fun _ h => sem_got h fun q => q))) FU x
theorem f_sl05Brick_go5 (r : List A) : ∀ x, sem (f_sl05Brick_S5 r) (f_sl05Brick_run5 x) → f_sl05Brick_G5 r x :=
  fun x => iter_sound (G := f_sl05Brick_G5 r) (E := f_sl05Brick_S5 r) (step := fun x => f_sl05Brick_n5 x.1 x.2.1 x.2.2.1 x.2.2.2.1 x.2.2.2.2) (fun x h => f_sl05Brick_step5 x.1 x.2.1 x.2.2.1 x.2.2.2.1 x.2.2.2.2 r (t_sl05Brick_5_sem _ _ _ _ x.1 x.2.1 x.2.2.1 x.2.2.2.1 x.2.2.2.2 h (fun _ h => sem_got h fun q => q) (fun x h => f_sl05Brick_go14 r x (sem_mapk h fun _ q => q)))) FU x
noncomputable def s_sl05Brick (a0 : Int) (a1 : Int) (a2 : Int) (a3 : Int) : Option ((List Int) × Bool) := t_sl05Brick f_sl05Brick_run5 f_sl05Brick_run14 a0 a1 a2 a3
theorem f_sl05Brick_top (a0 : Int) (a1 : Int) (a2 : Int) (a3 : Int) (r : List A) : ev f_sl05Brick_X (lpc (cnOf f_sl05Brick_LV) (f_sl05Brick_L r)) f_sl05Brick_c (K0 TT f_sl05Brick_rv) (enter [.v (.int .i64 a0), .v (.int .i64 a1), .v (.int .i64 a2), .v (.int .i64 a3)]) = t_sl05Brick (f_sl05Brick_K5 r) (f_sl05Brick_K14 r) a0 a1 a2 a3 := by kernel_rfl
theorem s_sl05Brick_ok (a0 : Int) (a1 : Int) (a2 : Int) (a3 : Int) (v : ((List Int) × Bool)) (h : s_sl05Brick a0 a1 a2 a3 = some v) : t_sl05Brick (f_sl05Brick_K5 (l_sl05Brick v)) (f_sl05Brick_K14 (l_sl05Brick v)) a0 a1 a2 a3 = some (l_sl05Brick v) :=
  t_sl05Brick_sem _ _ _ _ a0 a1 a2 a3 (show sem (fun w => l_sl05Brick v = l_sl05Brick w) (s_sl05Brick a0 a1 a2 a3) from ⟨v, h, rfl⟩) (f_sl05Brick_go5 (l_sl05Brick v)) (f_sl05Brick_go14 (l_sl05Brick v))
noncomputable def c_sl05Brick : List A → ACall
  | [.v (.int .i64 a0), .v (.int .i64 a1), .v (.int .i64 a2), .v (.int .i64 a3)] => ⟨((List Int) × Bool), s_sl05Brick a0 a1 a2 a3, fun r => .tup [.lst (.one (.i .i16)) r.1, .v (.bool r.2)]⟩
  | _ => ACall.fail
theorem f_sl05Brick_sound : Sound Try.prog 22 c_sl05Brick := by
  refine sound_good f_sl05Brick_ctx f_sl05Brick_LV 4 Try.func22 (c := f_sl05Brick_c) (by kernel_rfl) (rv := f_sl05Brick_rv) (by kernel_rfl) (by kernel_rfl) (by kernel_rfl) (by kernel_rfl) fun rs => ?_
  unfold c_sl05Brick
  split
  · rename_i a0 a1 a2 a3; intro v h; exact ⟨rfl, l_sl05Brick v, rfl, (f_sl05Brick_top a0 a1 a2 a3 _).trans (s_sl05Brick_ok a0 a1 a2 a3 v h)⟩
  · intro v h; cases h

/-! ### function 42: loop.example/g01322/spec.l05Joints -/
noncomputable def f_sl05Joints_c : Code := match Try.f42.body with | some c => c | none => .skip
noncomputable def f_sl05Joints_X : Ctx := ⟨TT, phiOf [], noPsi, noXi⟩
def f_sl05Joints_LV : List (Nat × Keep) := [(4, ([0, 1, 5, 6, 7], [], []))]
def f_sl05Joints_rv : List ResultVar := [.tmp 4]
noncomputable def f_sl05Joints_L (r : List A) : Nat → AS → Option (List A) := L f_sl05Joints_X (cnOf f_sl05Joints_LV) f_sl05Joints_c (K0 TT f_sl05Joints_rv) r
theorem f_sl05Joints_ctx : CtxOK Try.prog f_sl05Joints_X := ctx_of tab mix trivial
noncomputable def f_sl05Joints_s4 (x0 : Int) (x1 : Int) (x2 : Int) (x3 : (List Int)) (x4 : (List (Int × Int))) : AS := ⟨[(0, .a (.sl 0)), (1, .a (.v (.int .i64 x0))), (5, .a (.sl 1)), (6, .a (.v (.int .i64 x1))), (7, .a (.v (.int .i64 x2)))], [(0, some ⟨false, .arr (.one (.i .i16)) x3⟩), (1, some ⟨true, .arr (.st [(.i .i16), (.i .i16)]) x4⟩)], 2⟩
noncomputable def l_sl05Joints (r : (List (Int × Int))) : List A := [.lst (.st [(.i .i16), (.i .i16)]) r]
theorem f_sl05Joints_step4 (x0 : Int) (x1 : Int) (x2 : Int) (x3 : (List Int)) (x4 : (List (Int × Int))) (r : List A) (h : (cond (decide ((IntKind.wrap .i64 (x2 + 1)) < ((List.length x3 : Nat) : Int))) (cond (inB x2 (List.length x3)) (cond (fits ((List.length (x4 : List (Int × Int)) + List.length ([((IntKind.wrap .i16 (IntKind.wrap .i64 (x1 + (IntKind.wrap .i64 (List.getD x3 (Int.toNat x2) 0))))), (IntKind.wrap .i16 (IntKind.wrap .i64 ((IntKind.wrap .i64 (x1 + (IntKind.wrap .i64 (List.getD x3 (Int.toNat x2) 0)))) + x0))))] : List (Int × Int))) * 4)) (f_sl05Joints_L r 4 (f_sl05Joints_s4 x0 (IntKind.wrap .i64 ((IntKind.wrap .i64 (x1 + (IntKind.wrap .i64 (List.getD x3 (Int.toNat x2) 0)))) + x0)) (IntKind.wrap .i64 (x2 + 1)) x3 (x4 ++ [((IntKind.wrap .i16 (IntKind.wrap .i64 (x1 + (IntKind.wrap .i64 (List.getD x3 (Int.toNat x2) 0))))), (IntKind.wrap .i16 (IntKind.wrap .i64 ((IntKind.wrap .i64 (x1 + (IntKind.wrap .i64 (List.getD x3 (Int.toNat x2) 0)))) + x0))))]))) none) none) (some [.lst (.st [(.i .i16), (.i .i16)]) x4])) = some r) : f_sl05Joints_L r 4 (f_sl05Joints_s4 x0 x1 x2 x3 x4) = some r :=
  step_of' h (by kernel_rfl)
noncomputable def f_sl05Joints_n4 (x0 : Int) (x1 : Int) (x2 : Int) (x3 : (List Int)) (x4 : (List (Int × Int))) : Option ((Int × Int × Int × (List Int) × (List (Int × Int))) ⊕ (List (Int × Int))) := (cond (decide ((IntKind.wrap .i64 (x2 + 1)) < ((List.length x3 : Nat) : Int))) (cond (inB x2 (List.length x3)) (cond (fits ((List.length (x4 : List (Int × Int)) + List.length ([((IntKind.wrap .i16 (IntKind.wrap .i64 (x1 + (IntKind.wrap .i64 (List.getD x3 (Int.toNat x2) 0))))), (IntKind.wrap .i16 (IntKind.wrap .i64 ((IntKind.wrap .i64 (x1 + (IntKind.wrap .i64 (List.getD x3 (Int.toNat x2) 0)))) + x0))))] : List (Int × Int))) * 4)) (some (Sum.inl (x0, (IntKind.wrap .i64 ((IntKind.wrap .i64 (x1 + (IntKind.wrap .i64 (List.getD x3 (Int.toNat x2) 0)))) + x0)), (IntKind.wrap .i64 (x2 + 1)), x3, (x4 ++ [((IntKind.wrap .i16 (IntKind.wrap .i64 (x1 + (IntKind.wrap .i64 (List.getD x3 (Int.toNat x2) 0))))), (IntKind.wrap .i16 (IntKind.wrap .i64 ((IntKind.wrap .i64 (x1 + (IntKind.wrap .i64 (List.getD x3 (Int.toNat x2) 0)))) + x0))))])))) none) none) (some (Sum.inr x4)))
noncomputable def f_sl05Joints_run4 (x : (Int × Int × Int × (List Int) × (List (Int × Int)))) : Option (List (Int × Int)) := iter (fun x => f_sl05Joints_n4 x.1 x.2.1 x.2.2.1 x.2.2.2.1 x.2.2.2.2) FU x
noncomputable def f_sl05Joints_G4 (r : List A) (x : (Int × Int × Int × (List Int) × (List (Int × Int)))) : Prop := f_sl05Joints_L r 4 (f_sl05Joints_s4 x.1 x.2.1 x.2.2.1 x.2.2.2.1 x.2.2.2.2) = some r
noncomputable def f_sl05Joints_S4 (r : List A) : (List (Int × Int)) → Prop := fun v => r = l_sl05Joints v
theorem f_sl05Joints_go4 (r : List A) : ∀ x, sem (f_sl05Joints_S4 r) (f_sl05Joints_run4 x) → f_sl05Joints_G4 r x :=
  fun x => iter_sound (step := fun x => f_sl05Joints_n4 x.1 x.2.1 x.2.2.1 x.2.2.2.1 x.2.2.2.2) (fun x h => by
    unfold f_sl05Joints_n4 at h
    exact f_sl05Joints_step4 x.1 x.2.1 x.2.2.1 x.2.2.2.1 x.2.2.2.2 r ((sem_cond h (fun h => (sem_cond h (fun h => (sem_cond h (fun h => sem_got h fun q => q) (fun h => sem_none h))) (fun h => sem_none h))) (fun h => sem_got h fun q => some_eq q)))) FU x
noncomputable def s_sl05Joints (a0 : (List Int)) (a1 : Int) : Option (List (Int × Int)) := (f_sl05Joints_run4 (a1, 0, 0, a0, []))
theorem f_sl05Joints_top (a0 : (List Int)) (a1 : Int) (r : List A) : ev f_sl05Joints_X (lpc (cnOf f_sl05Joints_LV) (f_sl05Joints_L r)) f_sl05Joints_c (K0 TT f_sl05Joints_rv) (enter [.lst (.one (.i .i16)) a0, .v (.int .i64 a1)]) = (f_sl05Joints_L r 4 (f_sl05Joints_s4 a1 0 0 a0 [])) := by kernel_rfl
theorem s_sl05Joints_ok (a0 : (List Int)) (a1 : Int) (v : (List (Int × Int))) (h : s_sl05Joints a0 a1 = some v) : (f_sl05Joints_L (l_sl05Joints v) 4 (f_sl05Joints_s4 a1 0 0 a0 [])) = some (l_sl05Joints v) := by
  unfold s_sl05Joints at h
  have go : ∀ r, sem (fun v => r = l_sl05Joints v) ((f_sl05Joints_run4 (a1, 0, 0, a0, []))) → (f_sl05Joints_L r 4 (f_sl05Joints_s4 a1 0 0 a0 [])) = some r := fun r h => f_sl05Joints_go4 r _ h
  exact go (l_sl05Joints v) ⟨v, h, rfl⟩
noncomputable def c_sl05Joints : List A → ACall
  | [.lst (.one (.i .i16)) a0, .v (.int .i64 a1)] => ⟨(List (Int × Int)), s_sl05Joints a0 a1, fun r => .one (.lst (.st [(.i .i16), (.i .i16)]) r)⟩
  | _ => ACall.fail
theorem f_sl05Joints_sound : Sound Try.prog 42 c_sl05Joints := by
  refine sound_good f_sl05Joints_ctx f_sl05Joints_LV 2 Try.func42 (c := f_sl05Joints_c) (by kernel_rfl) (rv := f_sl05Joints_rv) (by kernel_rfl) (by kernel_rfl) (by kernel_rfl) (by kernel_rfl) fun rs => ?_
  unfold c_sl05Joints
  split
  · rename_i a0 a1; intro v h; exact ⟨rfl, l_sl05Joints v, rfl, (f_sl05Joints_top a0 a1 _).trans (s_sl05Joints_ok a0 a1 v h)⟩
  · intro v h; cases h

/-! ### function 56: loop.example/g01322/spec.l00Max -/
noncomputable def f_sl00Max_c : Code := match Try.f56.body with | some c => c | none => .skip
noncomputable def f_sl00Max_X : Ctx := ⟨TT, phiOf [], noPsi, noXi⟩
def f_sl00Max_LV : List (Nat × Keep) := []
def f_sl00Max_rv : List ResultVar := [.tmp 4]
noncomputable def f_sl00Max_L (r : List A) : Nat → AS → Option (List A) := L f_sl00Max_X (cnOf f_sl00Max_LV) f_sl00Max_c (K0 TT f_sl00Max_rv) r
theorem f_sl00Max_ctx : CtxOK Try.prog f_sl00Max_X := ctx_of tab mix trivial
noncomputable def s_sl00Max (a0 : Int) (a1 : Int) : Int := (cond (decide (a0 > a1)) a0 a1)
theorem f_sl00Max_top (a0 : Int) (a1 : Int) (r : List A) : ev f_sl00Max_X (lpc (cnOf f_sl00Max_LV) (f_sl00Max_L r)) f_sl00Max_c (K0 TT f_sl00Max_rv) (enter [.v (.int .i64 a0), .v (.int .i64 a1)]) = (cond (decide (a0 > a1)) (some [.v (.int .i64 a0)]) (some [.v (.int .i64 a1)])) := by kernel_rfl
noncomputable def l_sl00Max (r : Int) : List A := [.v (.int .i64 r)]
theorem s_sl00Max_ok (a0 : Int) (a1 : Int) : (cond (decide (a0 > a1)) (some [.v (.int .i64 a0)]) (some [.v (.int .i64 a1)])) = some (l_sl00Max (s_sl00Max a0 a1)) := by
  unfold s_sl00Max
  exact (cond_app (fun x => some (l_sl00Max x)) rfl rfl)
noncomputable def c_sl00Max : List A → ACall
  | [.v (.int .i64 a0), .v (.int .i64 a1)] => ⟨Int, some (s_sl00Max a0 a1), fun r => .one (.v (.int .i64 r))⟩
  | _ => ACall.fail
theorem f_sl00Max_sound : Sound Try.prog 56 c_sl00Max := by
  refine sound_good f_sl00Max_ctx f_sl00Max_LV 2 Try.func56 (c := f_sl00Max_c) (by kernel_rfl) (rv := f_sl00Max_rv) (by kernel_rfl) (by kernel_rfl) (by kernel_rfl) (by kernel_rfl) fun rs => ?_
  unfold c_sl00Max
  split
  · rename_i a0 a1; intro v h; cases h; exact ⟨rfl, l_sl00Max (s_sl00Max a0 a1), rfl, (f_sl00Max_top a0 a1 _).trans (s_sl00Max_ok a0 a1)⟩
  · intro v h; cases h

/-! ### function 57: loop.example/g01322/spec.l00Min -/
noncomputable def f_sl00Min_c : Code := match Try.f57.body with | some c => c | none => .skip
noncomputable def f_sl00Min_X : Ctx := ⟨TT, phiOf [], noPsi, noXi⟩
def f_sl00Min_LV : List (Nat × Keep) := []
def f_sl00Min_rv : List ResultVar := [.tmp 4]
noncomputable def f_sl00Min_L (r : List A) : Nat → AS → Option (List A) := L f_sl00Min_X (cnOf f_sl00Min_LV) f_sl00Min_c (K0 TT f_sl00Min_rv) r
theorem f_sl00Min_ctx : CtxOK Try.prog f_sl00Min_X := ctx_of tab mix trivial
noncomputable def s_sl00Min (a0 : Int) (a1 : Int) : Int := (cond (decide (a0 < a1)) a0 a1)
theorem f_sl00Min_top (a0 : Int) (a1 : Int) (r : List A) : ev f_sl00Min_X (lpc (cnOf f_sl00Min_LV) (f_sl00Min_L r)) f_sl00Min_c (K0 TT f_sl00Min_rv) (enter [.v (.int .i64 a0), .v (.int .i64 a1)]) = (cond (decide (a0 < a1)) (some [.v (.int .i64 a0)]) (some [.v (.int .i64 a1)])) := by kernel_rfl
noncomputable def l_sl00Min (r : Int) : List A := [.v (.int .i64 r)]
theorem s_sl00Min_ok (a0 : Int) (a1 : Int) : (cond (decide (a0 < a1)) (some [.v (.int .i64 a0)]) (some [.v (.int .i64 a1)])) = some (l_sl00Min (s_sl00Min a0 a1)) := by
  unfold s_sl00Min
  exact (cond_app (fun x => some (l_sl00Min x)) rfl rfl)
noncomputable def c_sl00Min : List A → ACall
  | [.v (.int .i64 a0), .v (.int .i64 a1)] => ⟨Int, some (s_sl00Min a0 a1), fun r => .one (.v (.int .i64 r))⟩
  | _ => ACall.fail
theorem f_sl00Min_sound : Sound Try.prog 57 c_sl00Min := by
  refine sound_good f_sl00Min_ctx f_sl00Min_LV 2 Try.func57 (c := f_sl00Min_c) (by kernel_rfl) (rv := f_sl00Min_rv) (by kernel_rfl) (by kernel_rfl) (by kernel_rfl) (by kernel_rfl) fun rs => ?_
  unfold c_sl00Min
  split
  · rename_i a0 a1; intro v h; cases h; exact ⟨rfl, l_sl00Min (s_sl00Min a0 a1), rfl, (f_sl00Min_top a0 a1 _).trans (s_sl00Min_ok a0 a1)⟩
  · intro v h; cases h

/-! ### function 43: loop.example/g01322/spec.l05Apart -/
noncomputable def f_sl05Apart_c : Code := match Try.f43.body with | some c => c | none => .skip
noncomputable def f_sl05Apart_X : Ctx := ⟨TT, phiOf [(56, c_sl00Max), (57, c_sl00Min)], noPsi, noXi⟩
def f_sl05Apart_LV : List (Nat × Keep) := []
def f_sl05Apart_rv : List ResultVar := [.tmp 4]
noncomputable def f_sl05Apart_L (r : List A) : Nat → AS → Option (List A) := L f_sl05Apart_X (cnOf f_sl05Apart_LV) f_sl05Apart_c (K0 TT f_sl05Apart_rv) r
theorem f_sl05Apart_ctx : CtxOK Try.prog f_sl05Apart_X := ctx_of tab mix ⟨⟨Try.call56, f_sl00Max_sound⟩, ⟨Try.call57, f_sl00Min_sound⟩, trivial⟩
noncomputable def s_sl05Apart (a0 : Int) (a1 : Int) (a2 : Int) (a3 : Int) : Int := (IntKind.wrap .i64 ((s_sl00Max (IntKind.wrap .i64 a0) (IntKind.wrap .i64 a2)) - (s_sl00Min (IntKind.wrap .i64 a1) (IntKind.wrap .i64 a3))))
theorem f_sl05Apart_top (a0 : Int) (a1 : Int) (a2 : Int) (a3 : Int) (r : List A) : ev f_sl05Apart_X (lpc (cnOf f_sl05Apart_LV) (f_sl05Apart_L r)) f_sl05Apart_c (K0 TT f_sl05Apart_rv) (enter [.rc [.v (.int .i16 a0), .v (.int .i16 a1)], .rc [.v (.int .i16 a2), .v (.int .i16 a3)]]) = (some [.v (.int .i64 (IntKind.wrap .i64 ((s_sl00Max (IntKind.wrap .i64 a0) (IntKind.wrap .i64 a2)) - (s_sl00Min (IntKind.wrap .i64 a1) (IntKind.wrap .i64 a3)))))]) := by kernel_rfl
noncomputable def l_sl05Apart (r : Int) : List A := [.v (.int .i64 r)]
theorem s_sl05Apart_ok (a0 : Int) (a1 : Int) (a2 : Int) (a3 : Int) : (some [.v (.int .i64 (IntKind.wrap .i64 ((s_sl00Max (IntKind.wrap .i64 a0) (IntKind.wrap .i64 a2)) - (s_sl00Min (IntKind.wrap .i64 a1) (IntKind.wrap .i64 a3)))))]) = some (l_sl05Apart (s_sl05Apart a0 a1 a2 a3)) := by
  unfold s_sl05Apart
  exact rfl
noncomputable def c_sl05Apart : List A → ACall
  | [.rc [.v (.int .i16 a0), .v (.int .i16 a1)], .rc [.v (.int .i16 a2), .v (.int .i16 a3)]] => ⟨Int, some (s_sl05Apart a0 a1 a2 a3), fun r => .one (.v (.int .i64 r))⟩
  | _ => ACall.fail
theorem f_sl05Apart_sound : Sound Try.prog 43 c_sl05Apart := by
  refine sound_good f_sl05Apart_ctx f_sl05Apart_LV 2 Try.func43 (c := f_sl05Apart_c) (by kernel_rfl) (rv := f_sl05Apart_rv) (by kernel_rfl) (by kernel_rfl) (by kernel_rfl) (by kernel_rfl) fun rs => ?_
  unfold c_sl05Apart
  split
  · rename_i a0 a1 a2 a3; intro v h; cases h; exact ⟨rfl, l_sl05Apart (s_sl05Apart a0 a1 a2 a3), rfl, (f_sl05Apart_top a0 a1 a2 a3 _).trans (s_sl05Apart_ok a0 a1 a2 a3)⟩
  · intro v h; cases h

/-! ### function 23: loop.example/g01322/spec.l05Clashes -/
noncomputable def f_sl05Clashes_c : Code := match Try.f23.body with | some c => c | none => .skip
noncomputable def f_sl05Clashes_X : Ctx := ⟨TT, phiOf [(42, c_sl05Joints), (43, c_sl05Apart)], noPsi, noXi⟩
def f_sl05Clashes_LV : List (Nat × Keep) := [(5, ([3, 9, 10, 11, 12], [], [])), (8, ([3, 9, 10, 11, 12, 13], [], []))]
def f_sl05Clashes_rv : List ResultVar := [.tmp 8]
noncomputable def f_sl05Clashes_L (r : List A) : Nat → AS → Option (List A) := L f_sl05Clashes_X (cnOf f_sl05Clashes_LV) f_sl05Clashes_c (K0 TT f_sl05Clashes_rv) r
theorem f_sl05Clashes_ctx : CtxOK Try.prog f_sl05Clashes_X := ctx_of tab mix ⟨⟨Try.call42, f_sl05Joints_sound⟩, ⟨Try.call43, f_sl05Apart_sound⟩, trivial⟩
noncomputable def f_sl05Clashes_s5 (x0 : Int) (x1 : Int) (x2 : (List (Int × Int))) (x3 : (List (Int × Int))) (x4 : (List (Nat → Int))) : AS := ⟨[(3, .a (.v (.int .i64 x0))), (9, .a (.sl 0)), (10, .a (.sl 1)), (11, .a (.sl 2)), (12, .a (.v (.int .i64 x1)))], [(0, some ⟨true, .arr (.st [(.i .i16), (.i .i16)]) x2⟩), (1, some ⟨true, .arr (.st [(.i .i16), (.i .i16)]) x3⟩), (2, some ⟨true, .arr (.one (.fa 2 .i64)) x4⟩)], 3⟩
noncomputable def f_sl05Clashes_s8 (x0 : Int) (x1 : Int) (x2 : Int) (x3 : (List (Int × Int))) (x4 : (List (Int × Int))) (x5 : (List (Nat → Int))) : AS := ⟨[(3, .a (.v (.int .i64 x0))), (9, .a (.sl 0)), (10, .a (.sl 1)), (11, .a (.sl 2)), (12, .a (.v (.int .i64 x1))), (13, .a (.v (.int .i64 x2)))], [(0, some ⟨true, .arr (.st [(.i .i16), (.i .i16)]) x3⟩), (1, some ⟨true, .arr (.st [(.i .i16), (.i .i16)]) x4⟩), (2, some ⟨true, .arr (.one (.fa 2 .i64)) x5⟩)], 3⟩
noncomputable def l_sl05Clashes (r : (List (Nat → Int))) : List A := [.lst (.one (.fa 2 .i64)) r]
theorem f_sl05Clashes_step8 (x0 : Int) (x1 : Int) (x2 : Int) (x3 : (List (Int × Int))) (x4 : (List (Int × Int))) (x5 : (List (Nat → Int))) (r : List A) (h : (cond (decide (x2 < ((List.length x4 : Nat) : Int))) (cond (inB x1 (List.length x3)) (cond (inB x2 (List.length x4)) (cond (decide ((s_sl05Apart (List.getD x3 (Int.toNat x1) ((0, 0) : (Int × Int))).1 (List.getD x3 (Int.toNat x1) ((0, 0) : (Int × Int))).2 (List.getD x4 (Int.toNat x2) ((0, 0) : (Int × Int))).1 (List.getD x4 (Int.toNat x2) ((0, 0) : (Int × Int))).2) < x0)) (cond (fits ((List.length (x5 : List (Nat → Int)) + List.length ([(upd (upd zF 0 x1) 1 x2)] : List (Nat → Int))) * 16)) (f_sl05Clashes_L r 8 (f_sl05Clashes_s8 x0 x1 (IntKind.wrap .i64 (x2 + 1)) x3 x4 (x5 ++ [(upd (upd zF 0 x1) 1 x2)]))) none) (f_sl05Clashes_L r 8 (f_sl05Clashes_s8 x0 x1 (IntKind.wrap .i64 (x2 + 1)) x3 x4 x5))) none) none) (f_sl05Clashes_L r 5 (f_sl05Clashes_s5 x0 (IntKind.wrap .i64 (x1 + 1)) x3 x4 x5))) = some r) : f_sl05Clashes_L r 8 (f_sl05Clashes_s8 x0 x1 x2 x3 x4 x5) = some r :=
  step_of' h (by kernel_rfl)
noncomputable def f_sl05Clashes_n8 (x0 : Int) (x1 : Int) (x2 : Int) (x3 : (List (Int × Int))) (x4 : (List (Int × Int))) (x5 : (List (Nat → Int))) : Option ((Int × Int × Int × (List (Int × Int)) × (List (Int × Int)) × (List (Nat → Int))) ⊕ ((Int × Int × (List (Int × Int)) × (List (Int × Int)) × (List (Nat → Int))) ⊕ (List (Nat → Int)))) := (cond (decide (x2 < ((List.length x4 : Nat) : Int))) (cond (inB x1 (List.length x3)) (cond (inB x2 (List.length x4)) (cond (decide ((s_sl05Apart (List.getD x3 (Int.toNat x1) ((0, 0) : (Int × Int))).1 (List.getD x3 (Int.toNat x1) ((0, 0) : (Int × Int))).2 (List.getD x4 (Int.toNat x2) ((0, 0) : (Int × Int))).1 (List.getD x4 (Int.toNat x2) ((0, 0) : (Int × Int))).2) < x0)) (cond (fits ((List.length (x5 : List (Nat → Int)) + List.length ([(upd (upd zF 0 x1) 1 x2)] : List (Nat → Int))) * 16)) (some (Sum.inl (x0, x1, (IntKind.wrap .i64 (x2 + 1)), x3, x4, (x5 ++ [(upd (upd zF 0 x1) 1 x2)])))) none) (some (Sum.inl (x0, x1, (IntKind.wrap .i64 (x2 + 1)), x3, x4, x5)))) none) none) (some (Sum.inr (Sum.inl (x0, (IntKind.wrap .i64 (x1 + 1)), x3, x4, x5)))))
noncomputable def f_sl05Clashes_run8 (x : (Int × Int × Int × (List (Int × Int)) × (List (Int × Int)) × (List (Nat → Int)))) : Option ((Int × Int × (List (Int × Int)) × (List (Int × Int)) × (List (Nat → Int))) ⊕ (List (Nat → Int))) := iter (fun x => f_sl05Clashes_n8 x.1 x.2.1 x.2.2.1 x.2.2.2.1 x.2.2.2.2.1 x.2.2.2.2.2) FU x
noncomputable def f_sl05Clashes_G8 (r : List A) (x : (Int × Int × Int × (List (Int × Int)) × (List (Int × Int)) × (List (Nat → Int)))) : Prop := f_sl05Clashes_L r 8 (f_sl05Clashes_s8 x.1 x.2.1 x.2.2.1 x.2.2.2.1 x.2.2.2.2.1 x.2.2.2.2.2) = some r
theorem f_sl05Clashes_step5 (x0 : Int) (x1 : Int) (x2 : (List (Int × Int))) (x3 : (List (Int × Int))) (x4 : (List (Nat → Int))) (r : List A) (h : (cond (decide (x1 < ((List.length x2 : Nat) : Int))) (f_sl05Clashes_L r 8 (f_sl05Clashes_s8 x0 x1 0 x2 x3 x4)) (some [.lst (.one (.fa 2 .i64)) x4])) = some r) : f_sl05Clashes_L r 5 (f_sl05Clashes_s5 x0 x1 x2 x3 x4) = some r :=
  step_of' h (by kernel_rfl)
noncomputable def f_sl05Clashes_n5 (x0 : Int) (x1 : Int) (x2 : (List (Int × Int))) (x3 : (List (Int × Int))) (x4 : (List (Nat → Int))) : Option ((Int × Int × (List (Int × Int)) × (List (Int × Int)) × (List (Nat → Int))) ⊕ (List (Nat → Int))) := (cond (decide (x1 < ((List.length x2 : Nat) : Int))) (f_sl05Clashes_run8 (x0, x1, 0, x2, x3, x4)) (some (Sum.inr x4)))
noncomputable def f_sl05Clashes_run5 (x : (Int × Int × (List (Int × Int)) × (List (Int × Int)) × (List (Nat → Int)))) : Option (List (Nat → Int)) := iter (fun x => f_sl05Clashes_n5 x.1 x.2.1 x.2.2.1 x.2.2.2.1 x.2.2.2.2) FU x
noncomputable def f_sl05Clashes_G5 (r : List A) (x : (Int × Int × (List (Int × Int)) × (List (Int × Int)) × (List (Nat → Int)))) : Prop := f_sl05Clashes_L r 5 (f_sl05Clashes_s5 x.1 x.2.1 x.2.2.1 x.2.2.2.1 x.2.2.2.2) = some r
noncomputable def f_sl05Clashes_S5 (r : List A) : (List (Nat → Int)) → Prop := fun v => r = l_sl05Clashes v
noncomputable def f_sl05Clashes_S8 (r : List A) : ((Int × Int × (List (Int × Int)) × (List (Int × Int)) × (List (Nat → Int))) ⊕ (List (Nat → Int))) → Prop := goesOn (f_sl05Clashes_G5 r) (f_sl05Clashes_S5 r)
theorem f_sl05Clashes_go8 (r : List A) : ∀ x, sem (f_sl05Clashes_S8 r) (f_sl05Clashes_run8 x) → f_sl05Clashes_G8 r x :=
  fun x => iter_sound (step := fun x => f_sl05Clashes_n8 x.1 x.2.1 x.2.2.1 x.2.2.2.1 x.2.2.2.2.1 x.2.2.2.2.2) (fun x h => by
    unfold f_sl05Clashes_n8 at h
    exact f_sl05Clashes_step8 x.1 x.2.1 x.2.2.1 x.2.2.2.1 x.2.2.2.2.1 x.2.2.2.2.2 r ((sem_cond h (fun h => (sem_cond h (fun h => (sem_cond h (fun h => (sem_cond h (fun h => (sem_cond h (fun h => sem_got h fun q => q) (fun h => sem_none h))) (fun h => sem_got h fun q => q))) (fun h => sem_none h))) (fun h => sem_none h))) (fun h => sem_got h fun q => q)))) FU x
theorem f_sl05Clashes_go5 (r : List A) : ∀ x, sem (f_sl05Clashes_S5 r) (f_sl05Clashes_run5 x) → f_sl05Clashes_G5 r x :=
  fun x => iter_sound (step := fun x => f_sl05Clashes_n5 x.1 x.2.1 x.2.2.1 x.2.2.2.1 x.2.2.2.2) (fun x h => by
    unfold f_sl05Clashes_n5 at h
    exact f_sl05Clashes_step5 x.1 x.2.1 x.2.2.1 x.2.2.2.1 x.2.2.2.2 r ((sem_cond h (fun h => f_sl05Clashes_go8 r _ h) (fun h => sem_got h fun q => some_eq q)))) FU x
noncomputable def s_sl05Clashes (a0 : (List Int)) (a1 : (List Int)) (a2 : Int) (a3 : Int) : Option (List (Nat → Int)) := (Option.bind (s_sl05Joints a0 a2) fun r1 => (Option.bind (s_sl05Joints a1 a2) fun r2 => (f_sl05Clashes_run5 (a3, 0, r1, r2, []))))
theorem f_sl05Clashes_top (a0 : (List Int)) (a1 : (List Int)) (a2 : Int) (a3 : Int) (r : List A) : ev f_sl05Clashes_X (lpc (cnOf f_sl05Clashes_LV) (f_sl05Clashes_L r)) f_sl05Clashes_c (K0 TT f_sl05Clashes_rv) (enter [.lst (.one (.i .i16)) a0, .lst (.one (.i .i16)) a1, .v (.int .i64 a2), .v (.int .i64 a3)]) = (Option.bind (s_sl05Joints a0 a2) fun r1 => (Option.bind (s_sl05Joints a1 a2) fun r2 => (f_sl05Clashes_L r 5 (f_sl05Clashes_s5 a3 0 r1 r2 [])))) := by kernel_rfl
theorem s_sl05Clashes_ok (a0 : (List Int)) (a1 : (List Int)) (a2 : Int) (a3 : Int) (v : (List (Nat → Int))) (h : s_sl05Clashes a0 a1 a2 a3 = some v) : (Option.bind (s_sl05Joints a0 a2) fun r1 => (Option.bind (s_sl05Joints a1 a2) fun r2 => (f_sl05Clashes_L (l_sl05Clashes v) 5 (f_sl05Clashes_s5 a3 0 r1 r2 [])))) = some (l_sl05Clashes v) := by
  unfold s_sl05Clashes at h
  have go : ∀ r, sem (fun v => r = l_sl05Clashes v) ((Option.bind (s_sl05Joints a0 a2) fun r1 => (Option.bind (s_sl05Joints a1 a2) fun r2 => (f_sl05Clashes_run5 (a3, 0, r1, r2, []))))) → (Option.bind (s_sl05Joints a0 a2) fun r1 => (Option.bind (s_sl05Joints a1 a2) fun r2 => (f_sl05Clashes_L r 5 (f_sl05Clashes_s5 a3 0 r1 r2 [])))) = some r := fun r h => (sem_bind h fun r1 h => (sem_bind h fun r2 h => f_sl05Clashes_go5 r _ h))
  exact go (l_sl05Clashes v) ⟨v, h, rfl⟩
noncomputable def c_sl05Clashes : List A → ACall
  | [.lst (.one (.i .i16)) a0, .lst (.one (.i .i16)) a1, .v (.int .i64 a2), .v (.int .i64 a3)] => ⟨(List (Nat → Int)), s_sl05Clashes a0 a1 a2 a3, fun r => .one (.lst (.one (.fa 2 .i64)) r)⟩
  | _ => ACall.fail
theorem f_sl05Clashes_sound : Sound Try.prog 23 c_sl05Clashes := by
  refine sound_good f_sl05Clashes_ctx f_sl05Clashes_LV 4 Try.func23 (c := f_sl05Clashes_c) (by kernel_rfl) (rv := f_sl05Clashes_rv) (by kernel_rfl) (by kernel_rfl) (by kernel_rfl) (by kernel_rfl) fun rs => ?_
  unfold c_sl05Clashes
  split
  · rename_i a0 a1 a2 a3; intro v h; exact ⟨rfl, l_sl05Clashes v, rfl, (f_sl05Clashes_top a0 a1 a2 a3 _).trans (s_sl05Clashes_ok a0 a1 a2 a3 v h)⟩
  · intro v h; cases h

/-! ### function 5: loop.example/g01322/spec.StaggerRows -/
noncomputable def f_sStaggerRows_c : Code := match Try.f5.body with | some c => c | none => .skip
noncomputable def f_sStaggerRows_X : Ctx := ⟨TT, phiOf [(18, c_sl05Long), (19, c_sl05Width), (20, c_sl05Near), (21, c_sl00In), (22, c_sl05Brick), (23, c_sl05Clashes)], noPsi, noXi⟩
def f_sStaggerRows_LV : List (Nat × Keep) := [(4, ([0, 1, 2, 3, 4, 12], [], [])), (7, ([0, 1, 2, 3, 4, 12, 13, 14], [], []))]
def f_sStaggerRows_rv : List ResultVar := [.tmp 10, .tmp 11]
noncomputable def f_sStaggerRows_L (r : List A) : Nat → AS → Option (List A) := L f_sStaggerRows_X (cnOf f_sStaggerRows_LV) f_sStaggerRows_c (K0 TT f_sStaggerRows_rv) r
theorem f_sStaggerRows_ctx : CtxOK Try.prog f_sStaggerRows_X := ctx_of tab mix ⟨⟨Try.call18, f_sl05Long_sound⟩, ⟨Try.call19, f_sl05Width_sound⟩, ⟨Try.call20, f_sl05Near_sound⟩, ⟨Try.call21, f_sl00In_sound⟩, ⟨Try.call22, f_sl05Brick_sound⟩, ⟨Try.call23, f_sl05Clashes_sound⟩, trivial⟩
noncomputable def f_sStaggerRows_s4 (x0 : Int) (x1 : Int) (x2 : Int) (x3 : Int) (x4 : Int) (x5 : (List (List Int))) : AS := ⟨[(0, .a (.v (.int .i64 x0))), (1, .a (.v (.int .i64 x1))), (2, .a (.v (.int .i64 x2))), (3, .a (.v (.int .i64 x3))), (4, .a (.v (.int .i64 x4))), (12, .a (.sl 0))], [(0, some ⟨true, .arr (.one (.ls .i16)) x5⟩)], 1⟩
noncomputable def f_sStaggerRows_s7 (x0 : Int) (x1 : Int) (x2 : Int) (x3 : Int) (x4 : Int) (x5 : Bool) (x6 : Int) (x7 : (List (List Int))) : AS := ⟨[(0, .a (.v (.int .i64 x0))), (1, .a (.v (.int .i64 x1))), (2, .a (.v (.int .i64 x2))), (3, .a (.v (.int .i64 x3))), (4, .a (.v (.int .i64 x4))), (12, .a (.sl 0)), (13, .a (.v (.bool x5))), (14, .a (.v (.int .i64 x6)))], [(0, some ⟨true, .arr (.one (.ls .i16)) x7⟩)], 1⟩
abbrev A_sStaggerRows := ((List (List Int)) × Int)
noncomputable def l_sStaggerRows (r : ((List (List Int)) × Int)) : List A := [.lst (.one (.ls .i16)) r.1, .v (.int .i64 r.2)]
abbrev Z_sStaggerRows_4 := (Int × Int × Int × Int × Int × (List (List Int)))
abbrev Y_sStaggerRows_4 := A_sStaggerRows
abbrev Z_sStaggerRows_7 := (Int × Int × Int × Int × Int × Bool × Int × (List (List Int)))
abbrev Y_sStaggerRows_7 := (Z_sStaggerRows_4 ⊕ Y_sStaggerRows_4)
section
variable {R R' : Type} {S : R → Prop} {r : R'} (E : A_sStaggerRows → Option R) (E' : A_sStaggerRows → Option R') (G4 : Z_sStaggerRows_4 → Option R) (G4' : Z_sStaggerRows_4 → Option R') (G7 : Z_sStaggerRows_7 → Option R) (G7' : Z_sStaggerRows_7 → Option R')
noncomputable def t_sStaggerRows_4 (x0 x1 x2 x3 x4 : Int) (x5 : (List (List Int))) : Option R := (cond (decide (((List.length x5 : Nat) : Int) < x4)) (G7 (x0, x1, x2, x3, x4, false, x2, x5)) (E (x5, 0)))
theorem t_sStaggerRows_4_sem (x0 x1 x2 x3 x4 : Int) (x5 : (List (List Int))) (h : sem S (t_sStaggerRows_4 E G7 x0 x1 x2 x3 x4 x5)) (hE : Leads S r E E') (h7 : Leads S r G7 G7') : t_sStaggerRows_4 E' G7' x0 x1 x2 x3 x4 x5 = some r := by
  revert h
  unfold t_sStaggerRows_4
  repeat' first | refine sem_condK ?_ ?_ | refine sem_bindK fun _ => ?_ | exact sem_noneK | exact hE _ | exact h7 _ | refine sem_bind2K (fun _ => ?_) (fun _ => ?_)
noncomputable def t_sStaggerRows_7 (x0 x1 x2 x3 x4 : Int) (x5 : Bool) (x6 : Int) (x7 : (List (List Int))) : Option R := (cond (decide (x6 ≥ 1)) (cond (!x5) (Option.bind (s_sl05Brick x0 x1 x2 x6) fun r1 => (cond (((List.length x7 : Nat) : Int) == 0) (cond (!r1.2) (E ([], 6)) (cond (fits ((List.length (x7 : List (List Int)) + List.length ([r1.1] : List (List Int))) * 24)) (G7 (x0, x1, x2, x3, x4, true, (IntKind.wrap .i64 (x6 - 1)), (x7 ++ [r1.1]))) none)) (cond r1.2 (cond (inB (IntKind.wrap .i64 (((List.length x7 : Nat) : Int) - 1)) (List.length x7)) (Option.bind (s_sl05Clashes (List.getD x7 (Int.toNat (IntKind.wrap .i64 (((List.length x7 : Nat) : Int) - 1))) ([] : List Int)) (r1.1) x1 x3) fun r2 => (cond (((List.length r2 : Nat) : Int) == 0) (cond (fits ((List.length (x7 : List (List Int)) + List.length ([r1.1] : List (List Int))) * 24)) (G7 (x0, x1, x2, x3, x4, true, (IntKind.wrap .i64 (x6 - 1)), (x7 ++ [r1.1]))) none) (G7 (x0, x1, x2, x3, x4, x5, (IntKind.wrap .i64 (x6 - 1)), x7)))) none) (G7 (x0, x1, x2, x3, x4, x5, (IntKind.wrap .i64 (x6 - 1)), x7))))) (cond (!x5) (E ([], 6)) (G4 (x0, x1, x2, x3, x4, x7)))) (cond (!x5) (E ([], 6)) (G4 (x0, x1, x2, x3, x4, x7))))
theorem t_sStaggerRows_7_sem (x0 x1 x2 x3 x4 : Int) (x5 : Bool) (x6 : Int) (x7 : (List (List Int))) (h : sem S (t_sStaggerRows_7 E G4 G7 x0 x1 x2 x3 x4 x5 x6 x7)) (hE : Leads S r E E') (h4 : Leads S r G4 G4') (h7 : Leads S r G7 G7') : t_sStaggerRows_7 E' G4' G7' x0 x1 x2 x3 x4 x5 x6 x7 = some r := by
  revert h
  unfold t_sStaggerRows_7
  repeat' first | refine sem_condK ?_ ?_ | refine sem_bindK fun _ => ?_ | exact sem_noneK | exact hE _ | exact h4 _ | exact h7 _ | refine sem_bind2K (fun _ => ?_) (fun _ => ?_)
noncomputable def t_sStaggerRows (a0 a1 a2 a3 a4 : Int) : Option R := (cond (!(s_sl05Long a0 a1)) (E ([], 2)) (cond (!(s_sl05Width a2)) (E ([], 2)) (cond (!(s_sl05Near a3)) (E ([], 2)) (cond (!(s_sl00In a4 1 20)) (E ([], 2)) (G4 (a0, a1, a2, a3, a4, []))))))
theorem t_sStaggerRows_sem (a0 a1 a2 a3 a4 : Int) (h : sem S (t_sStaggerRows E G4 a0 a1 a2 a3 a4)) (hE : Leads S r E E') (h4 : Leads S r G4 G4') : t_sStaggerRows E' G4' a0 a1 a2 a3 a4 = some r := by
  revert h
  unfold t_sStaggerRows
  repeat' first | refine sem_condK ?_ ?_ | refine sem_bindK fun _ => ?_ | exact sem_noneK | exact hE _ | exact h4 _ | refine sem_bind2K (fun _ => ?_) (fun _ => ?_)
end
noncomputable def f_sStaggerRows_K4 (r : List A) (x : Z_sStaggerRows_4) : Option (List A) := f_sStaggerRows_L r 4 (f_sStaggerRows_s4 x.1 x.2.1 x.2.2.1 x.2.2.2.1 x.2.2.2.2.1 x.2.2.2.2.2)
noncomputable def f_sStaggerRows_K7 (r : List A) (x : Z_sStaggerRows_7) : Option (List A) := f_sStaggerRows_L r 7 (f_sStaggerRows_s7 x.1 x.2.1 x.2.2.1 x.2.2.2.1 x.2.2.2.2.1 x.2.2.2.2.2.1 x.2.2.2.2.2.2.1 x.2.2.2.2.2.2.2)
theorem f_sStaggerRows_step7 (x0 x1 x2 x3 x4 : Int) (x5 : Bool) (x6 : Int) (x7 : (List (List Int))) (r : List A) (h : t_sStaggerRows_7 (fun v => some (l_sStaggerRows v)) (f_sStaggerRows_K4 r) (f_sStaggerRows_K7 r) x0 x1 x2 x3 x4 x5 x6 x7 = some r) : f_sStaggerRows_L r 7 (f_sStaggerRows_s7 x0 x1 x2 x3 x4 x5 x6 x7) = some r :=
  step_of' h (by kernel_rfl)
noncomputable def f_sStaggerRows_n7 (x0 x1 x2 x3 x4 : Int) (x5 : Bool) (x6 : Int) (x7 : (List (List Int))) : Option (Z_sStaggerRows_7 ⊕ Y_sStaggerRows_7) := t_sStaggerRows_7 (fun v => some (Sum.inr (Sum.inr v))) (fun x => some (Sum.inr (Sum.inl x))) (fun x => some (Sum.inl x)) x0 x1 x2 x3 x4 x5 x6 x7
noncomputable def f_sStaggerRows_run7 (x : Z_sStaggerRows_7) : Option Y_sStaggerRows_7 := iter (fun x => f_sStaggerRows_n7 x.1 x.2.1 x.2.2.1 x.2.2.2.1 x.2.2.2.2.1 x.2.2.2.2.2.1 x.2.2.2.2.2.2.1 x.2.2.2.2.2.2.2) FU x
noncomputable def f_sStaggerRows_G7 (r : List A) (x : Z_sStaggerRows_7) : Prop := f_sStaggerRows_K7 r x = some r
theorem f_sStaggerRows_step4 (x0 x1 x2 x3 x4 : Int) (x5 : (List (List Int))) (r : List A) (h : t_sStaggerRows_4 (fun v => some (l_sStaggerRows v)) (f_sStaggerRows_K7 r) x0 x1 x2 x3 x4 x5 = some r) : f_sStaggerRows_L r 4 (f_sStaggerRows_s4 x0 x1 x2 x3 x4 x5) = some r :=
  step_of' h (by kernel_rfl)
noncomputable def f_sStaggerRows_n4 (x0 x1 x2 x3 x4 : Int) (x5 : (List (List Int))) : Option (Z_sStaggerRows_4 ⊕ Y_sStaggerRows_4) := t_sStaggerRows_4 (fun v => some (Sum.inr v)) f_sStaggerRows_run7 x0 x1 x2 x3 x4 x5
noncomputable def f_sStaggerRows_run4 (x : Z_sStaggerRows_4) : Option Y_sStaggerRows_4 := iter (fun x => f_sStaggerRows_n4 x.1 x.2.1 x.2.2.1 x.2.2.2.1 x.2.2.2.2.1 x.2.2.2.2.2) FU x
noncomputable def f_sStaggerRows_G4 (r : List A) (x : Z_sStaggerRows_4) : Prop := f_sStaggerRows_K4 r x = some r
noncomputable def f_sStaggerRows_S4 (r : List A) : Y_sStaggerRows_4 → Prop := fun v => r = l_sStaggerRows v
noncomputable def f_sStaggerRows_S7 (r : List A) : Y_sStaggerRows_7 → Prop := goesOn (f_sStaggerRows_G4 r) (f_sStaggerRows_S4 r)
theorem f_sStaggerRows_go7 (r : List A) : ∀ x, sem (f_sStaggerRows_S7 r) (f_sStaggerRows_run7 x) → f_sStaggerRows_G7 r x :=
  fun x => iter_sound (G := f_sStaggerRows_G7 r) (E := f_sStaggerRows_S7 r) (step := fun x => f_sStaggerRows_n7 x.1 x.2.1 x.2.2.1 x.2.2.2.1 x.2.2.2.2.1 x.2.2.2.2.2.1 x.2.2.2.2.2.2.1 x.2.2.2.2.2.2.2) (fun x h => f_sStaggerRows_step7 x.1 x.2.1 x.2.2.1 x.2.2.2.1 x.2.2.2.2.1 x.2.2.2.2.2.1 x.2.2.2.2.2.2.1 x.2.2.2.2.2.2.2 r (t_sStaggerRows_7_sem _ _ _ _ _ _ x.1 x.2.1 x.2.2.1 x.2.2.2.1 x.2.2.2.2.1 x.2.2.2.2.2.1 x.2.2.2.2.2.2.1 x.2.2.2.2.2.2.2 h (fun _ h => sem_got h fun q => some_eq q) (fun _ h => sem_got h fun q => q) (fun _ h => sem_got h fun q => q))) FU x
theorem f_sStaggerRows_go4 (r : List A) : ∀ x, sem (f_sStaggerRows_S4 r) (f_sStaggerRows_run4 x) → f_sStaggerRows_G4 r x :=
  fun x => iter_sound (G := f_sStaggerRows_G4 r) (E := f_sStaggerRows_S4 r) (step := fun x => f_sStaggerRows_n4 x.1 x.2.1 x.2.2.1 x.2.2.2.1 x.2.2.2.2.1 x.2.2.2.2.2) (fun x h => f_sStaggerRows_step4 x.1 x.2.1 x.2.2.1 x.2.2.2.1 x.2.2.2.2.1 x.2.2.2.2.2 r (t_sStaggerRows_4_sem _ _ _ _ x.1 x.2.1 x.2.2.1 x.2.2.2.1 x.2.2.2.2.1 x.2.2.2.2.2 h (fun _ h => sem_got h fun q => some_eq q) (f_sStaggerRows_go7 r))) FU x
noncomputable def s_sStaggerRows (a0 : Int) (a1 : Int) (a2 : Int) (a3 : Int) (a4 : Int) : Option ((List (List Int)) × Int) := t_sStaggerRows some f_sStaggerRows_run4 a0 a1 a2 a3 a4
theorem f_sStaggerRows_top (a0 : Int) (a1 : Int) (a2 : Int) (a3 : Int) (a4 : Int) (r : List A) : ev f_sStaggerRows_X (lpc (cnOf f_sStaggerRows_LV) (f_sStaggerRows_L r)) f_sStaggerRows_c (K0 TT f_sStaggerRows_rv) (enter [.v (.int .i64 a0), .v (.int .i64 a1), .v (.int .i64 a2), .v (.int .i64 a3), .v (.int .i64 a4)]) = t_sStaggerRows (fun v => some (l_sStaggerRows v)) (f_sStaggerRows_K4 r) a0 a1 a2 a3 a4 := by kernel_rfl
theorem s_sStaggerRows_ok (a0 : Int) (a1 : Int) (a2 : Int) (a3 : Int) (a4 : Int) (v : ((List (List Int)) × Int)) (h : s_sStaggerRows a0 a1 a2 a3 a4 = some v) : t_sStaggerRows (fun v => some (l_sStaggerRows v)) (f_sStaggerRows_K4 (l_sStaggerRows v)) a0 a1 a2 a3 a4 = some (l_sStaggerRows v) :=
  t_sStaggerRows_sem _ _ _ _ a0 a1 a2 a3 a4 (show sem (fun w => l_sStaggerRows v = l_sStaggerRows w) (s_sStaggerRows a0 a1 a2 a3 a4) from ⟨v, h, rfl⟩) (fun _ h => sem_got h fun q => some_eq q) (f_sStaggerRows_go4 (l_sStaggerRows v))
noncomputable def c_sStaggerRows : List A → ACall
  | [.v (.int .i64 a0), .v (.int .i64 a1), .v (.int .i64 a2), .v (.int .i64 a3), .v (.int .i64 a4)] => ⟨((List (List Int)) × Int), s_sStaggerRows a0 a1 a2 a3 a4, fun r => .tup [.lst (.one (.ls .i16)) r.1, .v (.int .i64 r.2)]⟩
  | _ => ACall.fail
theorem f_sStaggerRows_sound : Sound Try.prog 5 c_sStaggerRows := by
  refine sound_good f_sStaggerRows_ctx f_sStaggerRows_LV 5 Try.func5 (c := f_sStaggerRows_c) (by kernel_rfl) (rv := f_sStaggerRows_rv) (by kernel_rfl) (by kernel_rfl) (by kernel_rfl) (by kernel_rfl) fun rs => ?_
  unfold c_sStaggerRows
  split
  · rename_i a0 a1 a2 a3 a4; intro v h; exact ⟨rfl, l_sStaggerRows v, rfl, (f_sStaggerRows_top a0 a1 a2 a3 a4 _).trans (s_sStaggerRows_ok a0 a1 a2 a3 a4 v h)⟩
  · intro v h; cases h

/-! ### function 6: loop.example/g01322/impl.StaggerRows -/
noncomputable def f_iStaggerRows_c : Code := match Try.f6.body with | some c => c | none => .skip
noncomputable def f_iStaggerRows_X : Ctx := ⟨TT, phiOf [(24, c_iisLong), (25, c_iisSeam), (26, c_iisWidth), (27, c_iwithin), (28, c_ibrick), (29, c_iclashes)], noPsi, noXi⟩
def f_iStaggerRows_LV : List (Nat × Keep) := [(8, ([0, 1, 2, 3, 14, 56, 57], [], [])), (11, ([0, 1, 2, 3, 14, 15, 16, 56, 57], [], []))]
def f_iStaggerRows_rv : List ResultVar := [.tmp 10, .tmp 11]
noncomputable def f_iStaggerRows_L (r : List A) : Nat → AS → Option (List A) := L f_iStaggerRows_X (cnOf f_iStaggerRows_LV) f_iStaggerRows_c (K0 TT f_iStaggerRows_rv) r
theorem f_iStaggerRows_ctx : CtxOK Try.prog f_iStaggerRows_X := ctx_of tab mix ⟨⟨Try.call24, f_iisLong_sound⟩, ⟨Try.call25, f_iisSeam_sound⟩, ⟨Try.call26, f_iisWidth_sound⟩, ⟨Try.call27, f_iwithin_sound⟩, ⟨Try.call28, f_ibrick_sound⟩, ⟨Try.call29, f_iclashes_sound⟩, trivial⟩
noncomputable def f_iStaggerRows_s8 (x0 : Int) (x1 : Int) (x2 : Int) (x3 : Int) (x4 : Int) (x5 : Int) (x6 : (List (List Int))) : AS := ⟨[(0, .a (.v (.int .i64 x0))), (1, .a (.v (.int .i64 x1))), (2, .a (.v (.int .i64 x2))), (3, .a (.v (.int .i64 x3))), (14, .a (.sl 0)), (56, .a (.v (.int .i64 x4))), (57, .a (.v (.int .i64 x5)))], [(0, some ⟨true, .arr (.one (.ls .i16)) x6⟩)], 1⟩
noncomputable def f_iStaggerRows_s11 (x0 : Int) (x1 : Int) (x2 : Int) (x3 : Int) (x4 : Bool) (x5 : Int) (x6 : Int) (x7 : Int) (x8 : (List (List Int))) : AS := ⟨[(0, .a (.v (.int .i64 x0))), (1, .a (.v (.int .i64 x1))), (2, .a (.v (.int .i64 x2))), (3, .a (.v (.int .i64 x3))), (14, .a (.sl 0)), (15, .a (.v (.bool x4))), (16, .a (.v (.int .i64 x5))), (56, .a (.v (.int .i64 x6))), (57, .a (.v (.int .i64 x7)))], [(0, some ⟨true, .arr (.one (.ls .i16)) x8⟩)], 1⟩
abbrev A_iStaggerRows := ((List (List Int)) × Int)
noncomputable def l_iStaggerRows (r : ((List (List Int)) × Int)) : List A := [.lst (.one (.ls .i16)) r.1, .v (.int .i64 r.2)]
abbrev Z_iStaggerRows_8 := (Int × Int × Int × Int × Int × Int × (List (List Int)))
abbrev Y_iStaggerRows_8 := A_iStaggerRows
abbrev Z_iStaggerRows_11 := (Int × Int × Int × Int × Bool × Int × Int × Int × (List (List Int)))
abbrev Y_iStaggerRows_11 := (Z_iStaggerRows_8 ⊕ Y_iStaggerRows_8)
section
variable {R R' : Type} {S : R → Prop} {r : R'} (E : A_iStaggerRows → Option R) (E' : A_iStaggerRows → Option R') (G8 : Z_iStaggerRows_8 → Option R) (G8' : Z_iStaggerRows_8 → Option R') (G11 : Z_iStaggerRows_11 → Option R) (G11' : Z_iStaggerRows_11 → Option R')
noncomputable def t_iStaggerRows_8 (x0 x1 x2 x3 x4 x5 : Int) (x6 : (List (List Int))) : Option R := (cond (decide (x5 < x4)) (G11 (x0, x1, x2, x3, false, x2, x4, x5, x6)) (E (x6, 0)))
theorem t_iStaggerRows_8_sem (x0 x1 x2 x3 x4 x5 : Int) (x6 : (List (List Int))) (h : sem S (t_iStaggerRows_8 E G11 x0 x1 x2 x3 x4 x5 x6)) (hE : Leads S r E E') (h11 : Leads S r G11 G11') : t_iStaggerRows_8 E' G11' x0 x1 x2 x3 x4 x5 x6 = some r := by
  revert h
  unfold t_iStaggerRows_8
  repeat' first | refine sem_condK ?_ ?_ | refine sem_bindK fun _ => ?_ | exact sem_noneK | exact hE _ | exact h11 _ | refine sem_bind2K (fun _ => ?_) (fun _ => ?_)
noncomputable def t_iStaggerRows_11 (x0 x1 x2 x3 : Int) (x4 : Bool) (x5 x6 x7 : Int) (x8 : (List (List Int))) : Option R := (cond (decide (x5 ≥ 1)) (cond (!x4) (Option.bind (s_ibrick x0 x1 x2 x5) fun r3 => (cond r3.2 (cond (inB (IntKind.wrap .i64 (((List.length x8 : Nat) : Int) - 1)) (List.length x8)) (Option.bind (s_iclashes (List.getD x8 (Int.toNat (IntKind.wrap .i64 (((List.length x8 : Nat) : Int) - 1))) ([] : List Int)) (r3.1) x1 x3) fun r4 => (cond (((List.length r4 : Nat) : Int) == 0) (cond (fits ((List.length (x8 : List (List Int)) + List.length ([r3.1] : List (List Int))) * 24)) (G11 (x0, x1, x2, x3, true, (IntKind.wrap .i64 (x5 - 1)), x6, x7, (x8 ++ [r3.1]))) none) (G11 (x0, x1, x2, x3, x4, (IntKind.wrap .i64 (x5 - 1)), x6, x7, x8)))) none) (G11 (x0, x1, x2, x3, x4, (IntKind.wrap .i64 (x5 - 1)), x6, x7, x8)))) (cond (!x4) (E ([], 6)) (G8 (x0, x1, x2, x3, x6, (IntKind.wrap .i64 (x7 + 1)), x8)))) (cond (!x4) (E ([], 6)) (G8 (x0, x1, x2, x3, x6, (IntKind.wrap .i64 (x7 + 1)), x8))))
theorem t_iStaggerRows_11_sem (x0 x1 x2 x3 : Int) (x4 : Bool) (x5 x6 x7 : Int) (x8 : (List (List Int))) (h : sem S (t_iStaggerRows_11 E G8 G11 x0 x1 x2 x3 x4 x5 x6 x7 x8)) (hE : Leads S r E E') (h8 : Leads S r G8 G8') (h11 : Leads S r G11 G11') : t_iStaggerRows_11 E' G8' G11' x0 x1 x2 x3 x4 x5 x6 x7 x8 = some r := by
  revert h
  unfold t_iStaggerRows_11
  repeat' first | refine sem_condK ?_ ?_ | refine sem_bindK fun _ => ?_ | exact sem_noneK | exact hE _ | exact h8 _ | exact h11 _ | refine sem_bind2K (fun _ => ?_) (fun _ => ?_)
noncomputable def t_iStaggerRows (a0 a1 a2 a3 a4 : Int) : Option R := (cond (!(s_iisLong a0)) (E ([], 2)) (cond (!(s_iisSeam a1)) (E ([], 2)) (Option.bind (s_iisWidth [a2]) fun r1 => (cond (!r1) (E ([], 2)) (cond (!(s_iwithin a3 0 2000)) (E ([], 2)) (cond (!(s_iwithin a4 1 20)) (E ([], 2)) (Option.bind (s_ibrick a0 a1 a2 a2) fun r2 => (cond (!r2.2) (E ([], 6)) (G8 (a0, a1, a2, a3, (IntKind.wrap .i64 (a4 - 1)), 0, [r2.1]))))))))))
theorem t_iStaggerRows_sem (a0 a1 a2 a3 a4 : Int) (h : sem S (t_iStaggerRows E G8 a0 a1 a2 a3 a4)) (hE : Leads S r E E') (h8 : Leads S r G8 G8') : t_iStaggerRows E' G8' a0 a1 a2 a3 a4 = some r := by
  revert h
  unfold t_iStaggerRows
  repeat' first | refine sem_condK ?_ ?_ | refine sem_bindK fun _ => ?_ | exact sem_noneK | exact hE _ | exact h8 _ | refine sem_bind2K (fun _ => ?_) (fun _ => ?_)
end
noncomputable def f_iStaggerRows_K8 (r : List A) (x : Z_iStaggerRows_8) : Option (List A) := f_iStaggerRows_L r 8 (f_iStaggerRows_s8 x.1 x.2.1 x.2.2.1 x.2.2.2.1 x.2.2.2.2.1 x.2.2.2.2.2.1 x.2.2.2.2.2.2)
noncomputable def f_iStaggerRows_K11 (r : List A) (x : Z_iStaggerRows_11) : Option (List A) := f_iStaggerRows_L r 11 (f_iStaggerRows_s11 x.1 x.2.1 x.2.2.1 x.2.2.2.1 x.2.2.2.2.1 x.2.2.2.2.2.1 x.2.2.2.2.2.2.1 x.2.2.2.2.2.2.2.1 x.2.2.2.2.2.2.2.2)
theorem f_iStaggerRows_step11 (x0 x1 x2 x3 : Int) (x4 : Bool) (x5 x6 x7 : Int) (x8 : (List (List Int))) (r : List A) (h : t_iStaggerRows_11 (fun v => some (l_iStaggerRows v)) (f_iStaggerRows_K8 r) (f_iStaggerRows_K11 r) x0 x1 x2 x3 x4 x5 x6 x7 x8 = some r) : f_iStaggerRows_L r 11 (f_iStaggerRows_s11 x0 x1 x2 x3 x4 x5 x6 x7 x8) = some r :=
  step_of' h (by kernel_rfl)
noncomputable def f_iStaggerRows_n11 (x0 x1 x2 x3 : Int) (x4 : Bool) (x5 x6 x7 : Int) (x8 : (List (List Int))) : Option (Z_iStaggerRows_11 ⊕ Y_iStaggerRows_11) := t_iStaggerRows_11 (fun v => some (Sum.inr (Sum.inr v))) (fun x => some (Sum.inr (Sum.inl x))) (fun x => some (Sum.inl x)) x0 x1 x2 x3 x4 x5 x6 x7 x8
noncomputable def f_iStaggerRows_run11 (x : Z_iStaggerRows_11) : Option Y_iStaggerRows_11 := iter (fun x => f_iStaggerRows_n11 x.1 x.2.1 x.2.2.1 x.2.2.2.1 x.2.2.2.2.1 x.2.2.2.2.2.1 x.2.2.2.2.2.2.1 x.2.2.2.2.2.2.2.1 x.2.2.2.2.2.2.2.2) FU x
noncomputable def f_iStaggerRows_G11 (r : List A) (x : Z_iStaggerRows_11) : Prop := f_iStaggerRows_K11 r x = some r
theorem f_iStaggerRows_step8 (x0 x1 x2 x3 x4 x5 : Int) (x6 : (List (List Int))) (r : List A) (h : t_iStaggerRows_8 (fun v => some (l_iStaggerRows v)) (f_iStaggerRows_K11 r) x0 x1 x2 x3 x4 x5 x6 = some r) : f_iStaggerRows_L r 8 (f_iStaggerRows_s8 x0 x1 x2 x3 x4 x5 x6) = some r :=
  step_of' h (by kernel_rfl)
noncomputable def f_iStaggerRows_n8 (x0 x1 x2 x3 x4 x5 : Int) (x6 : (List (List Int))) : Option (Z_iStaggerRows_8 ⊕ Y_iStaggerRows_8) := t_iStaggerRows_8 (fun v => some (Sum.inr v)) f_iStaggerRows_run11 x0 x1 x2 x3 x4 x5 x6
noncomputable def f_iStaggerRows_run8 (x : Z_iStaggerRows_8) : Option Y_iStaggerRows_8 := iter (fun x => f_iStaggerRows_n8 x.1 x.2.1 x.2.2.1 x.2.2.2.1 x.2.2.2.2.1 x.2.2.2.2.2.1 x.2.2.2.2.2.2) FU x
noncomputable def f_iStaggerRows_G8 (r : List A) (x : Z_iStaggerRows_8) : Prop := f_iStaggerRows_K8 r x = some r
noncomputable def f_iStaggerRows_S8 (r : List A) : Y_iStaggerRows_8 → Prop := fun v => r = l_iStaggerRows v
noncomputable def f_iStaggerRows_S11 (r : List A) : Y_iStaggerRows_11 → Prop := goesOn (f_iStaggerRows_G8 r) (f_iStaggerRows_S8 r)
theorem f_iStaggerRows_go11 (r : List A) : ∀ x, sem (f_iStaggerRows_S11 r) (f_iStaggerRows_run11 x) → f_iStaggerRows_G11 r x :=
  fun x => iter_sound (G := f_iStaggerRows_G11 r) (E := f_iStaggerRows_S11 r) (step := fun x => f_iStaggerRows_n11 x.1 x.2.1 x.2.2.1 x.2.2.2.1 x.2.2.2.2.1 x.2.2.2.2.2.1 x.2.2.2.2.2.2.1 x.2.2.2.2.2.2.2.1 x.2.2.2.2.2.2.2.2) (fun x h => f_iStaggerRows_step11 x.1 x.2.1 x.2.2.1 x.2.2.2.1 x.2.2.2.2.1 x.2.2.2.2.2.1 x.2.2.2.2.2.2.1 x.2.2.2.2.2.2.2.1 x.2.2.2.2.2.2.2.2 r (t_iStaggerRows_11_sem _ _ _ _ _ _ x.1 x.2.1 x.2.2.1 x.2.2.2.1 x.2.2.2.2.1 x.2.2.2.2.2.1 x.2.2.2.2.2.2.1 x.2.2.2.2.2.2.2.1 x.2.2.2.2.2.2.2.2 h (fun _ h => sem_got h fun q => some_eq q) (fun _ h => sem_got h fun q => q) (fun _ h => sem_got h fun q => q))) FU x
theorem f_iStaggerRows_go8 (r : List A) : ∀ x, sem (f_iStaggerRows_S8 r) (f_iStaggerRows_run8 x) → f_iStaggerRows_G8 r x :=
  fun x => iter_sound (G := f_iStaggerRows_G8 r) (E := f_iStaggerRows_S8 r) (step := fun x => f_iStaggerRows_n8 x.1 x.2.1 x.2.2.1 x.2.2.2.1 x.2.2.2.2.1 x.2.2.2.2.2.1 x.2.2.2.2.2.2) (fun x h => f_iStaggerRows_step8 x.1 x.2.1 x.2.2.1 x.2.2.2.1 x.2.2.2.2.1 x.2.2.2.2.2.1 x.2.2.2.2.2.2 r (t_iStaggerRows_8_sem _ _ _ _ x.1 x.2.1 x.2.2.1 x.2.2.2.1 x.2.2.2.2.1 x.2.2.2.2.2.1 x.2.2.2.2.2.2 h (fun _ h => sem_got h fun q => some_eq q) (f_iStaggerRows_go11 r))) FU x
noncomputable def s_iStaggerRows (a0 : Int) (a1 : Int) (a2 : Int) (a3 : Int) (a4 : Int) : Option ((List (List Int)) × Int) := t_iStaggerRows some f_iStaggerRows_run8 a0 a1 a2 a3 a4
theorem f_iStaggerRows_top (a0 : Int) (a1 : Int) (a2 : Int) (a3 : Int) (a4 : Int) (r : List A) : ev f_iStaggerRows_X (lpc (cnOf f_iStaggerRows_LV) (f_iStaggerRows_L r)) f_iStaggerRows_c (K0 TT f_iStaggerRows_rv) (enter [.v (.int .i64 a0), .v (.int .i64 a1), .v (.int .i64 a2), .v (.int .i64 a3), .v (.int .i64 a4)]) = t_iStaggerRows (fun v => some (l_iStaggerRows v)) (f_iStaggerRows_K8 r) a0 a1 a2 a3 a4 := by kernel_rfl
theorem s_iStaggerRows_ok (a0 : Int) (a1 : Int) (a2 : Int) (a3 : Int) (a4 : Int) (v : ((List (List Int)) × Int)) (h : s_iStaggerRows a0 a1 a2 a3 a4 = some v) : t_iStaggerRows (fun v => some (l_iStaggerRows v)) (f_iStaggerRows_K8 (l_iStaggerRows v)) a0 a1 a2 a3 a4 = some (l_iStaggerRows v) :=
  t_iStaggerRows_sem _ _ _ _ a0 a1 a2 a3 a4 (show sem (fun w => l_iStaggerRows v = l_iStaggerRows w) (s_iStaggerRows a0 a1 a2 a3 a4) from ⟨v, h, rfl⟩) (fun _ h => sem_got h fun q => some_eq q) (f_iStaggerRows_go8 (l_iStaggerRows v))
noncomputable def c_iStaggerRows : List A → ACall
  | [.v (.int .i64 a0), .v (.int .i64 a1), .v (.int .i64 a2), .v (.int .i64 a3), .v (.int .i64 a4)] => ⟨((List (List Int)) × Int), s_iStaggerRows a0 a1 a2 a3 a4, fun r => .tup [.lst (.one (.ls .i16)) r.1, .v (.int .i64 r.2)]⟩
  | _ => ACall.fail
theorem f_iStaggerRows_sound : Sound Try.prog 6 c_iStaggerRows := by
  refine sound_good f_iStaggerRows_ctx f_iStaggerRows_LV 5 Try.func6 (c := f_iStaggerRows_c) (by kernel_rfl) (rv := f_iStaggerRows_rv) (by kernel_rfl) (by kernel_rfl) (by kernel_rfl) (by kernel_rfl) fun rs => ?_
  unfold c_iStaggerRows
  split
  · rename_i a0 a1 a2 a3 a4; intro v h; exact ⟨rfl, l_iStaggerRows v, rfl, (f_iStaggerRows_top a0 a1 a2 a3 a4 _).trans (s_iStaggerRows_ok a0 a1 a2 a3 a4 v h)⟩
  · intro v h; cases h
end Go.RR
